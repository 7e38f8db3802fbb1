/- Build's tests, plainly. -/
import Derived.Test.Qxb6500353aGreatMch
import Derived.Test.Qxb6500353aGreatTbl
namespace Go.Proofs.Qxb6500353aGreat
set_option linter.unusedVariables false
set_option linter.unusedSimpArgs false

theorem used_count (l : List Nat) : usedL l + l.count 0 = l.length := by
  rw [count_cnt]
  unfold usedL cntTo
  rw [← sumTo_add]
  have : ∀ n, sumTo (fun i => (if decide (0 < len l i) = true then 1 else 0) + if decide (len l i = 0) = true then 1 else 0) n = n := by
    intro n
    induction n with
    | zero => rfl
    | succ n ih =>
      rw [sumTo, ih]
      by_cases h : len l n = 0
      · simp [h]
      · have : 0 < len l n := by omega
        simp [h, this]
  exact this _
theorem count_le_used (l : List Nat) (x : Nat) (hx : 0 < x) : l.count x ≤ usedL l := by
  rw [count_cnt]
  exact cntTo_mono fun i _ h => by simp at h ⊢; omega
/-- The real layer's tests are the definition's. -/
theorem build_tests {l : List Nat} (hle : ∀ x ∈ l, x ≤ 10) (hn : l.length ≤ 265) :
    buildE l = if 1024 < kraft l then 6 else if kraft l < 1024 ∧ (1 < l.length - l.count 0 ∨ l.length - l.count 0 ≠ l.count 1) then 7 else 0 := by
  have hu := used_count l
  have e : l.length - l.count 0 = usedL l := by omega
  rw [e]
  by_cases h1 : 1024 < kraft l
  · rw [if_pos h1]; unfold buildE; rw [if_pos h1]
  · rw [if_neg h1]
    have hlaw := buildE_lawful hle hn
    have h7 : buildE l = 0 ∨ buildE l = 7 := by
      unfold buildE; rw [if_neg h1]; split
      · exact .inr rfl
      · exact .inl rfl
    by_cases h2 : kraft l < 1024 ∧ (1 < usedL l ∨ usedL l ≠ l.count 1)
    · rw [if_pos h2]
      rcases h7 with h7 | h7
      · exfalso
        have hL := hlaw.1 h7
        rcases hL.full with h3 | ⟨h3, h4⟩
        · omega
        · have e1 : usedL l = l.count 1 := by
            rw [count_cnt]
            refine cntTo_congr fun i hi => ?_
            have := h3 i
            by_cases e : len l i = 1
            · simp [e]
            · have : len l i = 0 := by omega
              simp [this]
          omega
      · exact h7
    · rw [if_neg h2]
      rw [hlaw]
      refine ⟨⟨hle, by omega⟩, ?_, hn⟩
      by_cases h3 : kraft l = 1024
      · exact .inl h3
      · right
        have h4 : usedL l ≤ 1 ∧ usedL l = l.count 1 := by
          refine ⟨?_, ?_⟩
          · refine Classical.byContradiction fun h => h2 ⟨by omega, .inl (by omega)⟩
          · refine Classical.byContradiction fun h => h2 ⟨by omega, .inr h⟩
        refine ⟨fun s => ?_, by omega⟩
        refine Classical.byContradiction fun h5 => ?_
        have hs := len_lt (l := l) (s := s) (by omega)
        have h6 := hle _ (len_mem (l := l) (s := s) (by omega)).2
        -- another length stands beside those of one
        have h8 : l.count (len l s) + l.count 1 ≤ usedL l := by
          rw [count_cnt, count_cnt]
          unfold usedL cntTo
          rw [← sumTo_add]
          refine sumTo_le fun i _ => ?_
          by_cases e1 : len l i = len l s
          · have : ¬ len l i = 1 := by omega
            have h9 : 0 < len l i := by omega
            have h10 : ¬ len l s = 1 := by omega
            have h11 : 0 < len l s := by omega
            simp [e1, h10, h11]
          · by_cases e2 : len l i = 1
            · simp [e1, e2]; omega
            · simp [e1, e2]
        have h9 : 0 < l.count (len l s) := List.count_pos_iff.2 (len_mem (l := l) (s := s) (by omega)).2
        omega
theorem firstC_le {l : List Nat} (hl : Fit l) (n : Nat) (h1 : 1 ≤ n) (hn : n ≤ 10) : firstC l n ≤ 1024 := by
  obtain ⟨m, rfl⟩ : ∃ m, n = m + 1 := ⟨n - 1, by omega⟩
  have h2 := first_below l m hn
  have h3 := below_mono l (show m ≤ 10 by omega)
  rw [← kraft_below l hl.le] at h3
  have h4 := hl.kraft
  have h5 := pw_pos (10 - (m + 1))
  have h6 : firstC l (m + 1) * 1 ≤ firstC l (m + 1) * 2 ^ (10 - (m + 1)) := Nat.mul_le_mul_left _ h5
  omega
theorem below_le (l : List Nat) (n : Nat) : below l n ≤ l.length * 1024 := by
  induction l with
  | nil => induction n with
    | zero => simp [below]
    | succ n ih => simp [below] at *; exact ih
  | cons x l ih =>
    rw [below_cons, List.length_cons]
    have : (if 1 ≤ x ∧ x ≤ n then 2 ^ (10 - x) else 0) ≤ 1024 := by
      split
      · have : 2 ^ (10 - x) ≤ 2 ^ 10 := Nat.pow_le_pow_right (by decide) (by omega)
        omega
      · omega
    omega
end Go.Proofs.Qxb6500353aGreat
