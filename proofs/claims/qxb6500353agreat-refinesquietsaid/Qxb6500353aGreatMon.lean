/- The machine on the head of a tape does what it does on the whole of it. -/
import Derived.Test.Qxb6500353aGreatMch
namespace Go.Proofs.Qxb6500353aGreat
set_option linter.unusedVariables false
set_option linter.unusedSimpArgs false

structure Pre (t T : Tp) : Prop where
  X : T.X % 2 ^ t.n = t.X
  n : t.n ≤ T.n
  at_ : t.at_ = T.at_
  m8 : t.n % 8 = 0
  M8 : T.n % 8 = 0
  cur : t.at_ ≤ t.n
theorem mod_div_mod (x n a g : Nat) (h : a + g ≤ n) : x % 2 ^ n / 2 ^ a % 2 ^ g = x / 2 ^ a % 2 ^ g := by
  rw [two_pow_split a n (by omega), Nat.mod_mul_right_div_self, mod_pow_mod _ _ _ (by omega)]
theorem Pre.got {t T : Tp} (h : Pre t T) (k : Nat) : t.got k ≤ T.got k := by
  have := h.n; have := h.at_
  unfold Tp.got; omega
theorem Pre.peek {t T : Tp} (h : Pre t T) (k : Nat) : T.peek k % 2 ^ t.got k = t.peek k := by
  have hg := h.got k
  have hc := h.cur
  unfold Tp.peek
  rw [mod_pow_mod _ _ _ hg, ← h.X, ← h.at_, mod_div_mod]
  unfold Tp.got; omega
theorem Pre.full {t T : Tp} (h : Pre t T) {k : Nat} (hk : ¬ t.got k < k) : ¬ T.got k < k ∧ T.peek k = t.peek k ∧ t.at_ + k ≤ t.n := by
  have hg := h.got k
  have h1 := got_le T k
  have h2 := got_le t k
  refine ⟨by omega, ?_, ?_⟩
  · have := h.peek k
    rw [Nat.mod_eq_of_lt] at this
    · exact this
    · have h3 := peek_lt T k
      rwa [show t.got k = T.got k by omega]
  · have hc := h.cur
    unfold Tp.got at hk; omega
theorem Pre.skip {t T : Tp} (h : Pre t T) {k : Nat} (hk : t.at_ + k ≤ t.n) : Pre (t.skip k) (T.skip k) :=
  ⟨h.X, h.n, by simp only [Tp.skip]; rw [h.at_], h.m8, h.M8, hk⟩
theorem Pre.sync {t T : Tp} (h : Pre t T) : Pre t.sync T.sync := by
  have h1 := h.n; have h2 := h.at_; have h3 := h.m8; have h4 := h.M8; have h5 := h.cur
  refine ⟨h.X, h.n, ?_, h.m8, h.M8, Nat.min_le_right _ _⟩
  simp only [Tp.sync, up8]; omega
/-- The same step, on more. -/
def Same (t T : Tp) (s : DS) (r : Nat × Tp × DS) (R : Nat × Tp × DS) : Prop := r.1 = 4 ∨ (R.1 = r.1 ∧ R.2.2 = r.2.2 ∧ (r.1 = 0 → Pre r.2.1 R.2.1))
theorem same_shut {t T : Tp} {s s0 : DS} {a b : Tp} (h : Pre t T) : Same a b s0 (shutS t s) (shutS T s) := by
  unfold shutS
  split
  · exact .inr ⟨rfl, rfl, fun _ => h⟩
  · exact .inr ⟨rfl, rfl, fun _ => h.sync⟩
theorem same_mk {t T : Tp} {s s0 : DS} {a b : Tp} {e : Nat} (h : Pre t T) : Same a b s0 (e, t, s) (e, T, s) := .inr ⟨rfl, rfl, fun _ => h⟩
theorem same_err {t T : Tp} {s s0 : DS} {a b : Tp} {e : Nat} (h : e ≠ 0) : Same a b s0 (e, t, s) (e, T, s) := .inr ⟨rfl, rfl, fun h2 => absurd h2 h⟩
theorem same_end {t T : Tp} {s s0 : DS} {a b : Tp} (h : Pre t T) : Same a b s0 (listEnd t s) (listEnd T s) := by
  unfold listEnd setsS
  split
  · exact same_mk h
  · split
    · rename_i h1; exact same_err h1
    · split
      · rename_i h1; exact same_err h1
      · split
        · exact same_err (by decide)
        · exact same_mk h
theorem sym_more {t T : Tp} (h : Pre t T) {l : List Nat} (hl : Lawful l) : (symF l t).2.2 = 4 ∨ symF l T = symF l t := by
  by_cases he : (symF l t).2.2 = 4
  · exact .inl he
  · right
    exact findF_more hl (peek_lt t 10) (peek_lt T 10) (h.got 10) (h.peek 10) he
theorem step_more {t T : Tp} {s : DS} (hs : DSOK s) (h : Pre t T) (h8 : s.ph ≠ 8) : Same t T s (stepF t s) (stepF T s) := by
  have hph := hs.ph
  have hc : s.ph = 0 ∨ s.ph = 1 ∨ s.ph = 2 ∨ s.ph = 3 ∨ s.ph = 4 ∨ s.ph = 5 ∨ s.ph = 6 ∨ s.ph = 7 := by omega
  unfold stepF
  rcases hc with e | e | e | e | e | e | e | e
  · rw [e]; simp only [step0]
    by_cases hg : t.got 1 < 1
    · rw [if_pos hg]; exact .inl rfl
    · obtain ⟨h1, h2, h3⟩ := h.full hg
      rw [if_neg hg, if_neg h1, h2]; exact same_mk (h.skip h3)
  · rw [e]; simp only [step1]
    by_cases hg : t.got 2 < 2
    · rw [if_pos hg]; exact .inl rfl
    · obtain ⟨h1, h2, h3⟩ := h.full hg
      rw [if_neg hg, if_neg h1, h2]
      split
      · exact same_mk (h.skip h3).sync
      · split
        · exact same_mk (h.skip h3)
        · split
          · exact same_mk (h.skip h3)
          · exact same_err (by decide)
  · rw [e]; simp only [step2]
    by_cases hg : t.got 16 < 16
    · rw [if_pos hg]; exact .inl rfl
    · obtain ⟨h1, h2, h3⟩ := h.full hg
      rw [if_neg hg, if_neg h1, h2]
      split
      · exact same_shut (h.skip h3)
      · exact same_mk (h.skip h3)
  · rw [e]; simp only [step3]
    by_cases hg : t.got 8 < 8
    · rw [if_pos hg]; exact .inl rfl
    · obtain ⟨h1, h2, h3⟩ := h.full hg
      rw [if_neg hg, if_neg h1, h2]
      split
      · exact same_err (by decide)
      · split
        · exact same_shut (h.skip h3)
        · exact same_mk (h.skip h3)
  · rw [e]; simp only [step4]
    by_cases hg : t.got 11 < 4
    · rw [if_pos hg]; exact .inl rfl
    · have h1 := h.got 11
      have h2 := h.peek 11
      have hcur := h.cur
      have h3 : T.peek 11 % 16 = t.peek 11 % 16 := by
        rw [← h2, show (16 : Nat) = 2 ^ 4 from rfl, mod_pow_mod _ _ _ (by omega)]
      rw [if_neg hg, if_neg (c := T.got 11 < 4) (by omega), h3]
      by_cases h10 : t.peek 11 % 16 ≤ 10
      · rw [if_pos h10, if_pos h10]
        exact same_end (h.skip (by unfold Tp.got at hg; omega))
      · rw [if_neg h10, if_neg h10]
        by_cases h12 : 12 < t.peek 11 % 16
        · rw [if_pos h12, if_pos h12]; exact same_err (by decide)
        · rw [if_neg h12, if_neg h12]
          by_cases hw : t.got 11 < 4 + wideF (t.peek 11 % 16)
          · rw [if_pos hw]; exact .inl rfl
          · rw [if_neg hw, if_neg (c := T.got 11 < 4 + wideF (t.peek 11 % 16)) (by omega)]
            have ht : timesF T = timesF t := by
              unfold timesF
              rw [h3]
              have h5 := mod_div_mod (T.peek 11) (t.got 11) 4 (wideF (t.peek 11 % 16)) (by omega)
              rw [h2] at h5
              exact congrArg (3 + ·) h5.symm
            rw [ht]
            split
            · exact same_err (by decide)
            · split
              · exact same_err (by decide)
              · exact same_end (h.skip (by unfold Tp.got at hw; omega))
  · rw [e]; simp only [step5]
    have hs2 := hs.sets (by omega) (by omega)
    rcases sym_more h hs2.1 with h1 | h1
    · rw [if_pos (by omega)]; exact .inl h1
    · rw [h1]
      by_cases h0 : (symF s.a t).2.2 ≠ 0
      · rw [if_pos h0, if_pos h0]; exact same_err h0
      · rw [if_neg h0, if_neg h0]
        have hsy := symF_spec t (by simpa using h0)
        have hcur := h.cur
        have hk : t.at_ + (symF s.a t).2.1 ≤ t.n := by have := hsy.2.2; unfold Tp.got at this; omega
        split
        · exact same_shut (h.skip hk)
        · split
          · split
            · exact same_err (by decide)
            · exact same_mk (h.skip hk)
          · exact same_mk (h.skip hk)
  · rw [e]; simp only [step6]
    have hs2 := hs.sets (by omega) (by omega)
    rcases sym_more h hs2.2.1 with h1 | h1
    · rw [if_pos (by omega)]; exact .inl h1
    · rw [h1]
      by_cases h0 : (symF s.b t).2.2 ≠ 0
      · rw [if_pos h0, if_pos h0]; exact same_err h0
      · rw [if_neg h0, if_neg h0]
        have hsy := symF_spec t (by simpa using h0)
        have hcur := h.cur
        have hk : t.at_ + (symF s.b t).2.1 ≤ t.n := by have := hsy.2.2; unfold Tp.got at this; omega
        exact same_mk (h.skip hk)
  · rw [e]; simp only [step7]
    by_cases hg : t.got s.more < s.more
    · rw [if_pos hg]; exact .inl rfl
    · obtain ⟨h1, h2, h3⟩ := h.full hg
      rw [if_neg hg, if_neg h1, h2]
      split
      · exact same_err (by decide)
      · split
        · exact same_err (by decide)
        · exact same_mk (h.skip h3)
theorem step_more_ok {t T t1 : Tp} {s s1 : DS} (hs : DSOK s) (h : Pre t T) (h8 : s.ph ≠ 8) (k : stepF t s = (0, t1, s1)) : ∃ T1, stepF T s = (0, T1, s1) ∧ Pre t1 T1 := by
  rcases step_more hs h h8 with h1 | ⟨h1, h2, h3⟩
  · rw [k] at h1; simp at h1
  · rw [k] at h1 h2 h3
    simp only at h1 h2
    exact ⟨(stepF T s).2.1, by rw [← h1, ← h2], h3 rfl⟩
theorem step_more_err {t T t1 : Tp} {s s1 : DS} {e : Nat} (hs : DSOK s) (h : Pre t T) (h8 : s.ph ≠ 8) (k : stepF t s = (e, t1, s1)) (h4 : e ≠ 4) : ∃ T1 s2, stepF T s = (e, T1, s2) := by
  rcases step_more hs h h8 with h1 | ⟨h1, _, _⟩
  · rw [k] at h1; exact absurd h1 h4
  · rw [k] at h1; simp only at h1
    exact ⟨(stepF T s).2.1, (stepF T s).2.2, by rw [← h1]⟩
end Go.Proofs.Qxb6500353aGreat
