/- Sets of small numbers as bits: the model's operations on them. -/
import Derived.Test.Qxb6500354aGreatBase
namespace Go.Proofs.Qxb6500354aGreat
open Go.RowKit
set_option linter.unusedVariables false
set_option linter.unusedSimpArgs false

theorem wrapU64 {n : Int} (h0 : 0 ≤ n) (h : n < 18446744073709551616) : IntKind.u64.wrap n = n := by
  have e : IntKind.u64.signed = false := rfl
  simp only [IntKind.wrap, IntKind.bits, e]; simp; omega
theorem wrapU16 {n : Int} (h0 : 0 ≤ n) (h : n < 65536) : IntKind.u16.wrap n = n := by
  have e : IntKind.u16.signed = false := rfl
  simp only [IntKind.wrap, IntKind.bits, e]; simp; omega
theorem wrapU64n {n : Nat} (h : n < 2 ^ 64) : IntKind.u64.wrap (n : Int) = (n : Int) := wrapU64 (by omega) (by omega)
theorem wrapU16n {n : Nat} (h : n < 2 ^ 16) : IntKind.u16.wrap (n : Int) = (n : Int) := wrapU16 (by omega) (by omega)
theorem ofIntN (w n : Nat) : BitVec.ofInt w (n : Int) = BitVec.ofNat w n := by simp
theorem toNatN {w n : Nat} (h : n < 2 ^ w) : (BitVec.ofNat w n).toNat = n := by rw [BitVec.toNat_ofNat, Nat.mod_eq_of_lt h]

theorem and64 {a b : Nat} (ha : a < 2 ^ 64) (hb : b < 2 ^ 64) : bits .and .u64 a b = ((a &&& b : Nat) : Int) := by
  have h1 : a &&& b < 2 ^ 64 := Nat.lt_of_le_of_lt Nat.and_le_left ha
  show IntKind.u64.wrap (((BitVec.ofInt 64 a) &&& (BitVec.ofInt 64 b)).toNat : Nat) = _
  rw [ofIntN, ofIntN, BitVec.toNat_and, toNatN ha, toNatN hb, wrapU64n h1]
theorem or64 {a b : Nat} (ha : a < 2 ^ 64) (hb : b < 2 ^ 64) : bits .or .u64 a b = ((a ||| b : Nat) : Int) := by
  have h1 : a ||| b < 2 ^ 64 := Nat.or_lt_two_pow ha hb
  show IntKind.u64.wrap (((BitVec.ofInt 64 a) ||| (BitVec.ofInt 64 b)).toNat : Nat) = _
  rw [ofIntN, ofIntN, BitVec.toNat_or, toNatN ha, toNatN hb, wrapU64n h1]
theorem and16 {a b : Nat} (ha : a < 2 ^ 16) (hb : b < 2 ^ 16) : bits .and .u16 a b = ((a &&& b : Nat) : Int) := by
  have h1 : a &&& b < 2 ^ 16 := Nat.lt_of_le_of_lt Nat.and_le_left ha
  show IntKind.u16.wrap (((BitVec.ofInt 16 a) &&& (BitVec.ofInt 16 b)).toNat : Nat) = _
  rw [ofIntN, ofIntN, BitVec.toNat_and, toNatN ha, toNatN hb, wrapU16n h1]
theorem or16 {a b : Nat} (ha : a < 2 ^ 16) (hb : b < 2 ^ 16) : bits .or .u16 a b = ((a ||| b : Nat) : Int) := by
  have h1 : a ||| b < 2 ^ 16 := Nat.or_lt_two_pow ha hb
  show IntKind.u16.wrap (((BitVec.ofInt 16 a) ||| (BitVec.ofInt 16 b)).toNat : Nat) = _
  rw [ofIntN, ofIntN, BitVec.toNat_or, toNatN ha, toNatN hb, wrapU16n h1]
/-- a &^ b -/
def minusB (a b : Nat) : Nat := a ^^^ (a &&& b)
theorem minusB_lt {a b n : Nat} (ha : a < 2 ^ n) : minusB a b < 2 ^ n := Nat.xor_lt_two_pow ha (Nat.lt_of_le_of_lt Nat.and_le_left ha)
theorem andNot64 {a b : Nat} (ha : a < 2 ^ 64) (hb : b < 2 ^ 64) : bits .andNot .u64 a b = ((minusB a b : Nat) : Int) := by
  show IntKind.u64.wrap (((BitVec.ofInt 64 a) &&& ~~~(BitVec.ofInt 64 b)).toNat : Nat) = _
  rw [ofIntN, ofIntN]
  have : ((BitVec.ofNat 64 a) &&& ~~~(BitVec.ofNat 64 b)).toNat = minusB a b := by
    have e : (BitVec.ofNat 64 a) &&& ~~~(BitVec.ofNat 64 b) = (BitVec.ofNat 64 a) ^^^ ((BitVec.ofNat 64 a) &&& (BitVec.ofNat 64 b)) := by
      ext i hi; simp only [BitVec.getElem_and, BitVec.getElem_not, BitVec.getElem_xor]
      cases (BitVec.ofNat 64 a)[i] <;> cases (BitVec.ofNat 64 b)[i] <;> rfl
    rw [e, BitVec.toNat_xor, BitVec.toNat_and, toNatN ha, toNatN hb]; rfl
  rw [this, wrapU64n (minusB_lt ha)]
theorem andNot16 {a b : Nat} (ha : a < 2 ^ 16) (hb : b < 2 ^ 16) : bits .andNot .u16 a b = ((minusB a b : Nat) : Int) := by
  show IntKind.u16.wrap (((BitVec.ofInt 16 a) &&& ~~~(BitVec.ofInt 16 b)).toNat : Nat) = _
  rw [ofIntN, ofIntN]
  have : ((BitVec.ofNat 16 a) &&& ~~~(BitVec.ofNat 16 b)).toNat = minusB a b := by
    have e : (BitVec.ofNat 16 a) &&& ~~~(BitVec.ofNat 16 b) = (BitVec.ofNat 16 a) ^^^ ((BitVec.ofNat 16 a) &&& (BitVec.ofNat 16 b)) := by
      ext i hi; simp only [BitVec.getElem_and, BitVec.getElem_not, BitVec.getElem_xor]
      cases (BitVec.ofNat 16 a)[i] <;> cases (BitVec.ofNat 16 b)[i] <;> rfl
    rw [e, BitVec.toNat_xor, BitVec.toNat_and, toNatN ha, toNatN hb]; rfl
  rw [this, wrapU16n (minusB_lt ha)]
theorem not64 {a : Nat} (ha : a < 2 ^ 64) : minusB (2 ^ 64 - 1) a = 2 ^ 64 - 1 - a := by
  unfold minusB
  rw [Nat.and_comm, Nat.and_two_pow_sub_one_of_lt_two_pow ha]
  apply Nat.eq_of_testBit_eq
  intro i
  rw [Nat.testBit_xor, Nat.testBit_two_pow_sub_one, show 2 ^ 64 - 1 - a = 2 ^ 64 - (a + 1) from by omega, Nat.testBit_two_pow_sub_succ ha]
  by_cases h : i < 64
  · simp [h]
  · have : a.testBit i = false := Nat.testBit_lt_two_pow (Nat.lt_of_lt_of_le ha (Nat.pow_le_pow_right (by omega) (by omega)))
    simp [h, this]

theorem testBit_set (m i j : Nat) : (setB m i).testBit j = (m.testBit j || decide (i = j)) := by
  unfold setB; rw [Nat.testBit_or, Nat.testBit_two_pow]
theorem testBit_clr (m i j : Nat) : (clrB m i).testBit j = (m.testBit j && !decide (i = j)) := by
  unfold clrB; rw [Nat.testBit_xor, Nat.testBit_and, Nat.testBit_two_pow]
  cases m.testBit j <;> cases decide (i = j) <;> rfl
theorem setB_lt {m i n : Nat} (hm : m < 2 ^ n) (hi : i < n) : setB m i < 2 ^ n := Nat.or_lt_two_pow hm (Nat.pow_lt_pow_right (by omega) hi)
theorem clrB_lt {m i n : Nat} (hm : m < 2 ^ n) : clrB m i < 2 ^ n := minusB_lt hm
theorem clrB_eq (m i : Nat) : clrB m i = minusB m (2 ^ i) := rfl
theorem pow64 {i : Nat} (h : i < 64) : 2 ^ i < 2 ^ 64 := Nat.pow_lt_pow_right (by omega) h
theorem pow16 {i : Nat} (h : i < 16) : 2 ^ i < 2 ^ 16 := Nat.pow_lt_pow_right (by omega) h
theorem and_pow (m i : Nat) : m &&& 2 ^ i = if m.testBit i then 2 ^ i else 0 := by
  apply Nat.eq_of_testBit_eq
  intro j
  rw [Nat.testBit_and, Nat.testBit_two_pow]
  by_cases h : i = j
  · subst h; cases m.testBit i <;> simp
  · cases m.testBit i <;> simp [h, Nat.testBit_two_pow]
theorem and_pow_ne (m i : Nat) : (((m &&& 2 ^ i : Nat) : Int) != 0) = m.testBit i := by
  rw [and_pow]
  cases m.testBit i
  · simp
  · have : 2 ^ i > 0 := Nat.two_pow_pos i
    simp only [if_true]; rw [bne_iff_ne]; omega
theorem shr_and64 {s : Nat} (id : Nat) (hs : s < 2 ^ 64) : (bits BinOp.and IntKind.u64 ((s : Int) / 2 ^ id) 1 == 1) = s.testBit id := by
  have e : ((s : Int) / 2 ^ id) = ((s / 2 ^ id : Nat) : Int) := by simp
  rw [e, show (1 : Int) = ((1 : Nat) : Int) from rfl, and64 (Nat.lt_of_le_of_lt (Nat.div_le_self _ _) hs) (by decide), Nat.and_one_is_mod]
  rw [Nat.testBit_eq_decide_div_mod_eq]
  generalize s / 2 ^ id = q
  rw [Bool.eq_iff_iff, beq_iff_eq, decide_eq_true_eq]; omega
theorem shr_and16 {s : Nat} (id : Nat) (hs : s < 2 ^ 16) : (bits BinOp.and IntKind.u16 ((s : Int) / 2 ^ id) 1 == 1) = s.testBit id := by
  have e : ((s : Int) / 2 ^ id) = ((s / 2 ^ id : Nat) : Int) := by simp
  rw [e, show (1 : Int) = ((1 : Nat) : Int) from rfl, and16 (Nat.lt_of_le_of_lt (Nat.div_le_self _ _) hs) (by decide), Nat.and_one_is_mod]
  rw [Nat.testBit_eq_decide_div_mod_eq]
  generalize s / 2 ^ id = q
  rw [Bool.eq_iff_iff, beq_iff_eq, decide_eq_true_eq]; omega
theorem shl64 {id : Nat} (h : id < 64) : IntKind.u64.wrap (2 ^ id) = ((2 ^ id : Nat) : Int) := by
  rw [show ((2 : Int) ^ id) = ((2 ^ id : Nat) : Int) from by simp, wrapU64n (pow64 h)]
theorem shl16 {id : Nat} (h : id < 16) : IntKind.u16.wrap (2 ^ id) = ((2 ^ id : Nat) : Int) := by
  rw [show ((2 : Int) ^ id) = ((2 ^ id : Nat) : Int) from by simp, wrapU16n (pow16 h)]
end Go.Proofs.Qxb6500354aGreat
