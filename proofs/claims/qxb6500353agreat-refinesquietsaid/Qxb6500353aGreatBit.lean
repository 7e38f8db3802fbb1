/- Bits of numbers, as the model reckons them. -/
import Derived.Test.Qxb6500353aGreatBase
import Derived.Test.Qxb6500353aGreatTap
namespace Go.Proofs.Qxb6500353aGreat
open Go.RowKit
set_option linter.unusedVariables false
set_option linter.unusedSimpArgs false

theorem wrapI {n : Int} (h0 : -9223372036854775808 ≤ n) (h : n < 9223372036854775808) : IntKind.i64.wrap n = n := by
  have e : IntKind.i64.signed = true := rfl
  simp only [IntKind.wrap, IntKind.bits, e]; simp; omega
theorem wrapU {n : Int} (h0 : 0 ≤ n) (h : n < 18446744073709551616) : IntKind.u64.wrap n = n := by
  have e : IntKind.u64.signed = false := rfl
  simp only [IntKind.wrap, IntKind.bits, e]; simp; omega
theorem wrap8 {n : Int} (h0 : 0 ≤ n) (h : n < 256) : IntKind.u8.wrap n = n := by
  have e : IntKind.u8.signed = false := rfl
  simp only [IntKind.wrap, IntKind.bits, e]; simp; omega
theorem wrap8n (n : Nat) : IntKind.u8.wrap (n : Int) = ((n % 256 : Nat) : Int) := by
  have e : IntKind.u8.signed = false := rfl
  simp only [IntKind.wrap, IntKind.bits, e]; simp
theorem ofIntN (w n : Nat) : BitVec.ofInt w (n : Int) = BitVec.ofNat w n := by simp
theorem toNatN {w n : Nat} (h : n < 2 ^ w) : (BitVec.ofNat w n).toNat = n := by rw [BitVec.toNat_ofNat, Nat.mod_eq_of_lt h]
theorem lt64 {n : Nat} (h : n < 2 ^ 63) : n < 2 ^ 64 := Nat.lt_trans h (by decide)
theorem andI {a b : Nat} (ha : a < 2 ^ 63) (hb : b < 2 ^ 63) : bits .and .i64 a b = ((a &&& b : Nat) : Int) := by
  have h1 : a &&& b < 2 ^ 63 := Nat.lt_of_le_of_lt Nat.and_le_left ha
  show IntKind.i64.wrap (((BitVec.ofInt 64 a) &&& (BitVec.ofInt 64 b)).toNat : Nat) = _
  rw [ofIntN, ofIntN, BitVec.toNat_and, toNatN (lt64 ha), toNatN (lt64 hb), wrapI (by omega) (by omega)]
theorem orI {a b : Nat} (ha : a < 2 ^ 63) (hb : b < 2 ^ 63) : bits .or .i64 a b = ((a ||| b : Nat) : Int) := by
  have h1 : a ||| b < 2 ^ 63 := Nat.or_lt_two_pow ha hb
  show IntKind.i64.wrap (((BitVec.ofInt 64 a) ||| (BitVec.ofInt 64 b)).toNat : Nat) = _
  rw [ofIntN, ofIntN, BitVec.toNat_or, toNatN (lt64 ha), toNatN (lt64 hb), wrapI (by omega) (by omega)]
theorem xorI {a b : Nat} (ha : a < 2 ^ 63) (hb : b < 2 ^ 63) : bits .xor .i64 a b = ((a ^^^ b : Nat) : Int) := by
  have h1 : a ^^^ b < 2 ^ 63 := Nat.xor_lt_two_pow ha hb
  show IntKind.i64.wrap (((BitVec.ofInt 64 a) ^^^ (BitVec.ofInt 64 b)).toNat : Nat) = _
  rw [ofIntN, ofIntN, BitVec.toNat_xor, toNatN (lt64 ha), toNatN (lt64 hb), wrapI (by omega) (by omega)]
theorem or8 {a b : Nat} (ha : a < 256) (hb : b < 256) : bits .or .u8 a b = ((a ||| b : Nat) : Int) := by
  have h1 : a ||| b < 2 ^ 8 := Nat.or_lt_two_pow ha hb
  show IntKind.u8.wrap (((BitVec.ofInt 8 a) ||| (BitVec.ofInt 8 b)).toNat : Nat) = _
  rw [ofIntN, ofIntN, BitVec.toNat_or, toNatN ha, toNatN hb, wrap8 (by omega) (by omega)]
theorem or8e {x z y : Nat} {Z : Int} (hZ : Z = (z : Int)) (hx : x < 256) (hz : z < 256) (h : y = x ||| z) : bits .or .u8 x Z = (y : Int) := by
  rw [hZ, or8 hx hz, ← h]
theorem or8a {x q y : Nat} (hx : x < 256) (h : y = x ||| q % 256) : bits .or .u8 (x : Int) ((q : Int) % 256) = (y : Int) := or8e (z := q % 256) (by omega) hx (by omega) h
theorem or8b {x q y : Nat} (hx : x < 256) (h : y = x ||| q / 256 % 256) : bits .or .u8 (x : Int) ((q : Int) / 256 % 256) = (y : Int) := or8e (z := q / 256 % 256) (by omega) hx (by omega) h
theorem or8c {x q y : Nat} (hx : x < 256) (h : y = x ||| q / 65536 % 256) : bits .or .u8 (x : Int) ((q : Int) / 65536 % 256) = (y : Int) := or8e (z := q / 65536 % 256) (by omega) hx (by omega) h
theorem xor8 {a b : Nat} (ha : a < 256) (hb : b < 256) : bits .xor .u8 a b = ((a ^^^ b : Nat) : Int) := by
  have h1 : a ^^^ b < 2 ^ 8 := Nat.xor_lt_two_pow ha hb
  show IntKind.u8.wrap (((BitVec.ofInt 8 a) ^^^ (BitVec.ofInt 8 b)).toNat : Nat) = _
  rw [ofIntN, ofIntN, BitVec.toNat_xor, toNatN ha, toNatN hb, wrap8 (by omega) (by omega)]
theorem and_mask (a k : Nat) : a &&& (2 ^ k - 1) = a % 2 ^ k := Nat.and_two_pow_sub_one_eq_mod a k
/-- a & (2^k - 1) -/
theorem maskI {a k : Nat} (ha : a < 2 ^ 63) (hk : k ≤ 62) : bits .and .i64 a ((2 ^ k - 1 : Nat) : Int) = ((a % 2 ^ k : Nat) : Int) := by
  have : 2 ^ k ≤ 2 ^ 62 := Nat.pow_le_pow_right (by decide) hk
  rw [andI ha (by omega), and_mask]
theorem mask7 {a : Nat} (ha : a < 2 ^ 63) : bits .and .i64 a 7 = ((a % 8 : Nat) : Int) := maskI (k := 3) ha (by decide)
theorem mask15 {a : Nat} (ha : a < 2 ^ 63) : bits .and .i64 a 15 = ((a % 16 : Nat) : Int) := maskI (k := 4) ha (by decide)
theorem mask63 {a : Nat} (ha : a < 2 ^ 63) : bits .and .i64 a 63 = ((a % 64 : Nat) : Int) := maskI (k := 6) ha (by decide)
theorem mask255 {a : Nat} (ha : a < 2 ^ 63) : bits .and .i64 a 255 = ((a % 256 : Nat) : Int) := maskI (k := 8) ha (by decide)
theorem mask1 {a : Nat} (ha : a < 2 ^ 63) : bits .and .i64 a 1 = ((a % 2 : Nat) : Int) := maskI (k := 1) ha (by decide)
theorem andNot7 {a : Nat} (ha : a < 2 ^ 63) : bits .andNot .i64 a 7 = ((a / 8 * 8 : Nat) : Int) := by
  show IntKind.i64.wrap (((BitVec.ofInt 64 a) &&& ~~~(BitVec.ofInt 64 ((7 : Nat) : Int))).toNat : Nat) = _
  rw [ofIntN, ofIntN]
  have e : (BitVec.ofNat 64 a) &&& ~~~(BitVec.ofNat 64 7) = (BitVec.ofNat 64 a) ^^^ ((BitVec.ofNat 64 a) &&& (BitVec.ofNat 64 7)) := by
    ext i hi; simp only [BitVec.getElem_and, BitVec.getElem_not, BitVec.getElem_xor]
    cases (BitVec.ofNat 64 a)[i] <;> cases (BitVec.ofNat 64 7)[i] <;> rfl
  rw [e, BitVec.toNat_xor, BitVec.toNat_and, toNatN (lt64 ha), toNatN (by decide)]
  have e2 : a ^^^ (a &&& 7) = a / 8 * 8 := by
    have e3 : a / 8 * 8 = (a >>> 3) <<< 3 := by rw [Nat.shiftRight_eq_div_pow, Nat.shiftLeft_eq]
    rw [e3, show (7 : Nat) = 2 ^ 3 - 1 from rfl, and_mask]
    apply Nat.eq_of_testBit_eq
    intro i
    rw [Nat.testBit_xor, Nat.testBit_mod_two_pow, Nat.testBit_shiftLeft, Nat.testBit_shiftRight]
    by_cases h : i < 3
    · simp [h]; omega
    · have h2 : 3 ≤ i := by omega
      simp [h, h2, show 3 + (i - 3) = i by omega]
  rw [e2, wrapI (by omega) (by omega)]
theorem wrap64_id {n : Int} (h0 : -9223372036854775808 ≤ n) (h : n < 9223372036854775808) : wrap64 n = n := by unfold wrap64; omega
theorem wrap64_n {n : Nat} (h : n < 2 ^ 63) : wrap64 (n : Int) = (n : Int) := wrap64_id (by omega) (by omega)
theorem w64p {k : Nat} (hk : k ≤ 62) : wrap64 (2 ^ k) = ((2 ^ k : Nat) : Int) := by
  have : 2 ^ k ≤ 2 ^ 62 := Nat.pow_le_pow_right (by decide) hk
  rw [show ((2 : Int) ^ k) = ((2 ^ k : Nat) : Int) from by simp]
  exact wrap64_n (Nat.lt_of_le_of_lt this (by decide))
theorem w64m {k : Nat} (hk : k ≤ 62) : wrap64 (wrap64 (2 ^ k) - 1) = ((2 ^ k - 1 : Nat) : Int) := by
  have h1 : 2 ^ k ≤ 2 ^ 62 := Nat.pow_le_pow_right (by decide) hk
  have h2 := Nat.pow_pos (n := k) (show 0 < 2 by decide)
  rw [w64p hk]
  generalize 2 ^ k = q at *
  rw [show (q : Int) - 1 = ((q - 1 : Nat) : Int) by omega]
  exact wrap64_n (by omega)
theorem powI (x k : Nat) : ((x : Int) / 2 ^ k) = ((x / 2 ^ k : Nat) : Int) := by simp
theorem or3 {a b c : Nat} (ha : a < 256) (hb : b < 256) (hc : c < 256) : (a ||| b * 256) ||| c * 65536 = a + b * 256 + c * 65536 := by
  have h1 := Nat.two_pow_add_eq_or_of_lt (i := 8) (b := a) ha b
  have h2 := Nat.two_pow_add_eq_or_of_lt (i := 16) (b := a + b * 256) (by omega) c
  have e1 : a ||| b * 256 = a + b * 256 := by rw [Nat.or_comm, Nat.mul_comm b, show (256 : Nat) = 2 ^ 8 from rfl, ← h1, Nat.add_comm]
  rw [e1, Nat.or_comm, Nat.mul_comm c, show (65536 : Nat) = 2 ^ 16 from rfl, ← h2, Nat.add_comm]
theorem peekV {a b c r g : Nat} (ha : a < 256) (hb : b < 256) (hc : c < 256) (hg : g ≤ 62) :
    bits .and .i64 (bits .or .i64 (bits .or .i64 (a : Int) (b * 256)) (c * 65536) / 2 ^ r) (wrap64 (wrap64 (2 ^ g) - 1)) = (((a + b * 256 + c * 65536) / 2 ^ r % 2 ^ g : Nat) : Int) := by
  have e1 : (b : Int) * 256 = ((b * 256 : Nat) : Int) := by omega
  have e2 : (c : Int) * 65536 = ((c * 65536 : Nat) : Int) := by omega
  have h1 : a ||| b * 256 < 2 ^ 24 := Nat.or_lt_two_pow (by omega) (by omega)
  rw [e1, e2, orI (by omega) (by omega), orI (by omega) (by omega), or3 ha hb hc, powI, w64m hg, maskI _ hg]
  exact Nat.lt_of_le_of_lt (Nat.div_le_self _ _) (by omega)
end Go.Proofs.Qxb6500353aGreat
