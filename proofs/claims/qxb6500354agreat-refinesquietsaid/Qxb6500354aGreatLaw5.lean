/- PLAIN LAW: the checker's sweeps over bits decide 'follows by unit propagation'. -/
import Derived.Test.Qxb6500354aGreatChk3
namespace Go.Proofs.Qxb6500354aGreat
set_option linter.unusedVariables false
set_option linter.unusedSimpArgs false

theorem testBit_minus (a b i : Nat) : (minusB a b).testBit i = (a.testBit i && !b.testBit i) := by
  unfold minusB
  rw [Nat.testBit_xor, Nat.testBit_and]
  cases a.testBit i <;> cases b.testBit i <;> rfl
theorem bit_of_ne {x : Nat} (h : x ≠ 0) : ∃ i, x.testBit i = true := by
  rcases Nat.exists_testBit_of_ne_zero h with ⟨i, hi⟩
  exact ⟨i, by simpa using hi⟩
theorem oneB_law (x : Nat) (h : x ≠ 0) : (oneB x = true ∧ ∃ i, x = 2 ^ i) ∨ (oneB x = false ∧ ∃ i j, i ≠ j ∧ x.testBit i = true ∧ x.testBit j = true) := by
  obtain ⟨i, hi⟩ : ∃ i, x.log2 = i := ⟨_, rfl⟩
  have h1 : 2 ^ i ≤ x := by rw [← hi]; exact Nat.log2_self_le h
  have h2 : x < 2 ^ (i + 1) := by rw [← hi]; exact Nat.lt_log2_self
  obtain ⟨y, hy⟩ : ∃ y, x = 2 ^ i + y := ⟨x - 2 ^ i, by omega⟩
  have hyl : y < 2 ^ i := by rw [Nat.pow_succ] at h2; omega
  have hp : 0 < 2 ^ i := Nat.two_pow_pos _
  by_cases e : y = 0
  · left
    have hx : x = 2 ^ i := by omega
    refine ⟨?_, i, hx⟩
    unfold oneB
    rw [hx, Nat.and_two_pow_sub_one_eq_mod, Nat.mod_self]
    have : (2 ^ i != 0) = true := by rw [bne_iff_ne]; omega
    rw [this]; rfl
  · right
    have b1 : x.testBit i = true := by rw [hy, Nat.testBit_two_pow_add_eq, Nat.testBit_lt_two_pow hyl]; rfl
    have b2 : (x - 1).testBit i = true := by
      rw [show x - 1 = 2 ^ i + (y - 1) from by omega, Nat.testBit_two_pow_add_eq, Nat.testBit_lt_two_pow (by omega)]; rfl
    obtain ⟨j, hj⟩ := bit_of_ne e
    have hji : j < i := by
      rcases Nat.lt_or_ge j i with q | q
      · exact q
      · rw [Nat.testBit_lt_two_pow (Nat.lt_of_lt_of_le hyl (Nat.pow_le_pow_right (by omega) q))] at hj; cases hj
    refine ⟨?_, i, j, by omega, b1, ?_⟩
    · unfold oneB
      have : ((x &&& (x - 1)) == 0) = false := by
        rw [← Bool.not_eq_true, beq_iff_eq]
        intro q
        have : (x &&& (x - 1)).testBit i = true := by rw [Nat.testBit_and, b1, b2]; rfl
        rw [q] at this; simp at this
      rw [this, Bool.and_false]
    · rw [hy, Nat.testBit_two_pow_add_gt hji]; exact hj

/-- The assignment of two bit sets. -/
def BS (yes no : Nat) : Int → Prop := fun l => good l = true ∧ (if 0 < l then yes.testBit (l.natAbs - 1) else no.testBit (l.natAbs - 1)) = true
structure BOK (yes no : Nat) : Prop where
  dj : ∀ i, yes.testBit i = true → no.testBit i = true → False
theorem BOK.cons {yes no : Nat} (h : BOK yes no) : Cons (BS yes no) := by
  rintro l ⟨g, a⟩ ⟨_, b⟩
  rw [Int.natAbs_neg] at b
  have hg := (good_iff l).1 g
  by_cases e : 0 < l
  · rw [if_pos e] at a; rw [if_neg (by omega)] at b; exact h.dj _ a b
  · rw [if_neg e] at a; rw [if_pos (by omega)] at b; exact h.dj _ b a
theorem good_neg {l : Int} (h : good l = true) : good (-l) = true := by have := (good_iff l).1 h; exact (good_iff _).2 (by omega)
/-- a literal is true, false or open. -/
theorem lit3 {yes no : Nat} {l : Int} (g : good l = true) : BS yes no l ∨ BS yes no (-l) ∨ (yes ||| no).testBit (l.natAbs - 1) = false := by
  have hg := (good_iff l).1 g
  cases a : yes.testBit (l.natAbs - 1) with
  | true =>
    by_cases e : 0 < l
    · left; exact ⟨g, by rw [if_pos e]; exact a⟩
    · right; left; exact ⟨good_neg g, by rw [Int.natAbs_neg, if_pos (by omega)]; exact a⟩
  | false =>
    cases b : no.testBit (l.natAbs - 1) with
    | true =>
      by_cases e : 0 < l
      · right; left; exact ⟨good_neg g, by rw [Int.natAbs_neg, if_neg (by omega)]; exact b⟩
      · left; exact ⟨g, by rw [if_neg e]; exact b⟩
    | false => right; right; rw [Nat.testBit_or, a, b]; rfl
theorem open_not {yes no : Nat} {l : Int} (h : (yes ||| no).testBit (l.natAbs - 1) = false) : ¬ BS yes no l ∧ ¬ BS yes no (-l) := by
  rw [Nat.testBit_or, Bool.or_eq_false_iff] at h
  refine ⟨fun q => ?_, fun q => ?_⟩
  · have := q.2; split at this <;> simp_all
  · have := q.2; rw [Int.natAbs_neg] at this; split at this <;> simp_all
section row
variable {yes no : Nat} {c : List Int}
theorem true_iff (hc : RowOK c) : (posB c &&& yes) ||| (negB c &&& no) ≠ 0 ↔ ∃ l ∈ c, BS yes no l := by
  constructor
  · intro h
    obtain ⟨i, hi⟩ := bit_of_ne h
    rw [Nat.testBit_or, Nat.testBit_and, Nat.testBit_and, Bool.or_eq_true, Bool.and_eq_true, Bool.and_eq_true] at hi
    rcases hi with ⟨a, b⟩ | ⟨a, b⟩
    · obtain ⟨l, hl, h1, h2⟩ := posB_bit.1 a
      exact ⟨l, hl, hc.1 l hl, by rw [if_pos h1, h2]; exact b⟩
    · obtain ⟨l, hl, h1, h2⟩ := negB_bit.1 a
      exact ⟨l, hl, hc.1 l hl, by rw [if_neg h1, h2]; exact b⟩
  · rintro ⟨l, hl, g, b⟩ h
    have h3 : ((posB c &&& yes) ||| (negB c &&& no)).testBit (l.natAbs - 1) = true := by
      rw [Nat.testBit_or, Nat.testBit_and, Nat.testBit_and, Bool.or_eq_true, Bool.and_eq_true, Bool.and_eq_true]
      by_cases e : 0 < l
      · rw [if_pos e] at b; exact .inl ⟨posB_bit.2 ⟨l, hl, e, rfl⟩, b⟩
      · rw [if_neg e] at b; exact .inr ⟨negB_bit.2 ⟨l, hl, e, rfl⟩, b⟩
    rw [h] at h3; simp at h3
theorem op_bit {i : Nat} : (minusB (posB c) (yes ||| no)).testBit i = true ↔ (∃ l ∈ c, 0 < l ∧ l.natAbs - 1 = i) ∧ (yes ||| no).testBit i = false := by
  rw [testBit_minus, Bool.and_eq_true, posB_bit, Bool.not_eq_true']
theorem on_bit {i : Nat} : (minusB (negB c) (yes ||| no)).testBit i = true ↔ (∃ l ∈ c, ¬ 0 < l ∧ l.natAbs - 1 = i) ∧ (yes ||| no).testBit i = false := by
  rw [testBit_minus, Bool.and_eq_true, negB_bit, Bool.not_eq_true']
/-- Which open literals there are. -/
theorem open_bits (hc : RowOK c) (h1 : ¬ ∃ l ∈ c, BS yes no l) {l : Int} (hl : l ∈ c) : BS yes no (-l) ∨ (0 < l ∧ (minusB (posB c) (yes ||| no)).testBit (l.natAbs - 1) = true) ∨ (¬ 0 < l ∧ (minusB (negB c) (yes ||| no)).testBit (l.natAbs - 1) = true) := by
  rcases lit3 (yes := yes) (no := no) (hc.1 l hl) with a | a | a
  · exact absurd ⟨l, hl, a⟩ h1
  · exact .inl a
  · right
    by_cases e : 0 < l
    · exact .inl ⟨e, op_bit.2 ⟨⟨l, hl, e, rfl⟩, a⟩⟩
    · exact .inr ⟨e, on_bit.2 ⟨⟨l, hl, e, rfl⟩, a⟩⟩
theorem all_false (hc : RowOK c) (h1 : ¬ ∃ l ∈ c, BS yes no l) (h0 : minusB (posB c) (yes ||| no) ||| minusB (negB c) (yes ||| no) = 0) : ∀ l ∈ c, BS yes no (-l) := by
  intro l hl
  obtain ⟨a, b⟩ := or_zero.1 h0
  rcases open_bits hc h1 hl with q | ⟨_, q⟩ | ⟨_, q⟩
  · exact q
  · rw [a] at q; simp at q
  · rw [b] at q; simp at q
theorem unit_pos (hc : RowOK c) (h1 : ¬ ∃ l ∈ c, BS yes no l) (h0 : minusB (negB c) (yes ||| no) = 0) {i : Nat} (hi : minusB (posB c) (yes ||| no) = 2 ^ i) :
    ∃ m ∈ c, 0 < m ∧ m.natAbs - 1 = i ∧ ∀ l ∈ c, l ≠ m → BS yes no (-l) := by
  have hb : (minusB (posB c) (yes ||| no)).testBit i = true := by rw [hi, Nat.testBit_two_pow]; simp
  obtain ⟨⟨m, hm, m1, m2⟩, _⟩ := op_bit.1 hb
  refine ⟨m, hm, m1, m2, fun l hl hne => ?_⟩
  rcases open_bits hc h1 hl with q | ⟨e, q⟩ | ⟨_, q⟩
  · exact q
  · exfalso
    rw [hi, Nat.testBit_two_pow, decide_eq_true_eq] at q
    have := (good_iff l).1 (hc.1 l hl)
    have := (good_iff m).1 (hc.1 m hm)
    omega
  · rw [h0] at q; simp at q
theorem unit_neg (hc : RowOK c) (h1 : ¬ ∃ l ∈ c, BS yes no l) (h0 : minusB (posB c) (yes ||| no) = 0) {i : Nat} (hi : minusB (negB c) (yes ||| no) = 2 ^ i) :
    ∃ m ∈ c, ¬ 0 < m ∧ m.natAbs - 1 = i ∧ ∀ l ∈ c, l ≠ m → BS yes no (-l) := by
  have hb : (minusB (negB c) (yes ||| no)).testBit i = true := by rw [hi, Nat.testBit_two_pow]; simp
  obtain ⟨⟨m, hm, m1, m2⟩, _⟩ := on_bit.1 hb
  refine ⟨m, hm, m1, m2, fun l hl hne => ?_⟩
  rcases open_bits hc h1 hl with q | ⟨_, q⟩ | ⟨e, q⟩
  · exact q
  · rw [h0] at q; simp at q
  · exfalso
    rw [hi, Nat.testBit_two_pow, decide_eq_true_eq] at q
    have := (good_iff l).1 (hc.1 l hl)
    have := (good_iff m).1 (hc.1 m hm)
    omega
theorem two_open (hc : RowOK c) {a b : Int} (ha : a ∈ c) (hb : b ∈ c) (hne : a ≠ b) (h1 : (yes ||| no).testBit (a.natAbs - 1) = false) (h2 : (yes ||| no).testBit (b.natAbs - 1) = false) : Ok1 (BS yes no) c :=
  .inr ⟨a, ha, b, hb, hne, (open_not h1).2, (open_not h2).2⟩
end row
end Go.Proofs.Qxb6500354aGreat
