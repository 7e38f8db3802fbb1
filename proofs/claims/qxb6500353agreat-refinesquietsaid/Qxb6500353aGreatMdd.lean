/- The model's decoder: stored, walked. -/
import Derived.Test.Qxb6500353aGreatMdb
namespace Go.Proofs.Qxb6500353aGreat
open Go.RowKit
set_option linter.unusedVariables false
set_option linter.unusedSimpArgs false

/-- d bytes are still due. -/
def stoG : Nat → Tp → List Nat → Nat × Tp × List Nat
  | 0, t, o => (0, t, o)
  | d + 1, t, o => if t.got 8 < 8 then (4, t, o) else if 256 ≤ o.length then (10, t.skip 8, o) else stoG d (t.skip 8) (o ++ [t.peek 8])
def stoM (t : Tp) (o : List Nat) : Nat × Tp × List Nat := if t.got 16 < 16 then (4, t, o) else stoG (t.peek 16) (t.skip 16) o
/-- The block ends at the tape t' with the output o': the machine comes to a step that shuts it. -/
def Shuts (t : Tp) (s : DS) (t' : Tp) (o' : List Nat) : Prop := ∃ tq sq s1, Steps t s tq sq ∧ sq.ph ≠ 8 ∧ stepF tq sq = shutS t' s1 ∧ s1.final = s.final ∧ s1.out = o'
theorem Shuts.after {t t1 t' : Tp} {s s1 : DS} {o' : List Nat} (h : Steps t s t1 s1) (hf : s1.final = s.final) (k : Shuts t1 s1 t' o') : Shuts t s t' o' := by
  obtain ⟨tq, sq, s2, k1, k2, k3, k4, k5⟩ := k
  exact ⟨tq, sq, s2, h.trans k1, k2, k3, k4.trans hf, k5⟩
theorem stoG_law (d : Nat) : ∀ (t : Tp) (o : List Nat) (s : DS), s.ph = 3 → s.due = d + 1 → s.out = o →
    ((stoG (d + 1) t o).1 ≠ 0 → Ends t s (stoG (d + 1) t o).1 (stoG (d + 1) t o).2.2) ∧ ((stoG (d + 1) t o).1 = 0 → Shuts t s (stoG (d + 1) t o).2.1 (stoG (d + 1) t o).2.2) := by
  induction d with
  | zero =>
    intro t o s hp hd ho
    obtain ⟨ph, f0, due, run, base, more, ls, a0, b0, o0⟩ := s
    dsimp only at hp hd ho
    subst hp hd ho
    have e3 := stepF_3 (t := t) (s := ⟨3, f0, 0 + 1, run, base, more, ls, a0, b0, o0⟩) rfl
    have h8 : (3 : Nat) ≠ 8 := by decide
    unfold step3 at e3
    dsimp only at e3
    unfold stoG
    by_cases c1 : t.got 8 < 8
    · rw [if_pos c1] at e3 ⊢
      exact ⟨fun _ => Ends.err h8 e3 (by show (4 : Nat) ≠ 0; decide), fun q => by simp at q⟩
    · rw [if_neg c1] at e3 ⊢
      by_cases c2 : 256 ≤ o0.length
      · rw [if_pos c2] at e3 ⊢
        exact ⟨fun _ => Ends.err h8 e3 (by show (10 : Nat) ≠ 0; decide), fun q => by simp at q⟩
      · rw [if_neg c2] at e3 ⊢
        rw [if_pos (by omega)] at e3
        exact ⟨fun q => absurd rfl q, fun _ => ⟨_, _, _, Steps.refl _ _, h8, e3, rfl, rfl⟩⟩
  | succ d ih =>
    intro t o s hp hd ho
    obtain ⟨ph, f0, due, run, base, more, ls, a0, b0, o0⟩ := s
    dsimp only at hp hd ho
    subst hp hd ho
    have e3 := stepF_3 (t := t) (s := ⟨3, f0, d + 1 + 1, run, base, more, ls, a0, b0, o0⟩) rfl
    have h8 : (3 : Nat) ≠ 8 := by decide
    unfold step3 at e3
    dsimp only at e3
    have estep : stoG (d + 1 + 1) t o0 = if t.got 8 < 8 then (4, t, o0) else if 256 ≤ o0.length then (10, t.skip 8, o0) else stoG (d + 1) (t.skip 8) (o0 ++ [t.peek 8]) := rfl
    rw [estep]
    by_cases c1 : t.got 8 < 8
    · rw [if_pos c1] at e3 ⊢
      exact ⟨fun _ => Ends.err h8 e3 (by show (4 : Nat) ≠ 0; decide), fun q => by simp at q⟩
    · rw [if_neg c1] at e3 ⊢
      by_cases c2 : 256 ≤ o0.length
      · rw [if_pos c2] at e3 ⊢
        exact ⟨fun _ => Ends.err h8 e3 (by show (10 : Nat) ≠ 0; decide), fun q => by simp at q⟩
      · rw [if_neg c2] at e3 ⊢
        rw [if_neg (by omega)] at e3
        have s1 := Steps.one h8 e3
        have h1 := ih (t.skip 8) (o0 ++ [t.peek 8]) ⟨3, f0, d + 1 + 1 - 1, run, base, more, ls, a0, b0, o0 ++ [t.peek 8]⟩ rfl (by show d + 1 + 1 - 1 = d + 1; omega) rfl
        exact ⟨fun q => s1.ends (h1.1 q), fun q => Shuts.after s1 rfl (h1.2 q)⟩
theorem stoM_law {t : Tp} {o : List Nat} {s : DS} (hp : s.ph = 2) (ho : s.out = o) :
    ((stoM t o).1 ≠ 0 → Ends t s (stoM t o).1 (stoM t o).2.2) ∧ ((stoM t o).1 = 0 → Shuts t s (stoM t o).2.1 (stoM t o).2.2) := by
  obtain ⟨ph, f0, due, run, base, more, ls, a0, b0, o0⟩ := s
  dsimp only at hp ho
  subst hp ho
  have e2 := stepF_2 (t := t) (s := ⟨2, f0, due, run, base, more, ls, a0, b0, o0⟩) rfl
  have h8 : (2 : Nat) ≠ 8 := by decide
  unfold step2 at e2
  dsimp only at e2
  unfold stoM
  by_cases c1 : t.got 16 < 16
  · rw [if_pos c1] at e2 ⊢
    exact ⟨fun _ => Ends.err h8 e2 (by show (4 : Nat) ≠ 0; decide), fun q => by simp at q⟩
  · rw [if_neg c1] at e2 ⊢
    by_cases c2 : t.peek 16 = 0
    · rw [if_pos c2] at e2
      rw [c2]
      exact ⟨fun q => absurd rfl q, fun _ => ⟨_, _, _, Steps.refl _ _, h8, e2, rfl, rfl⟩⟩
    · rw [if_neg c2] at e2
      have s1 := Steps.one h8 e2
      obtain ⟨d, hd⟩ : ∃ d, t.peek 16 = d + 1 := ⟨t.peek 16 - 1, by omega⟩
      rw [hd] at s1 ⊢
      have h1 := stoG_law d (t.skip 16) o0 ⟨3, f0, d + 1, run, base, more, ls, a0, b0, o0⟩ rfl rfl rfl
      exact ⟨fun q => s1.ends (h1.1 q), fun q => Shuts.after s1 rfl (h1.2 q)⟩
theorem stoG_len (d : Nat) : ∀ (t : Tp) (o : List Nat), o.length ≤ 256 → (∀ c ∈ o, c < 256) → (stoG d t o).2.2.length ≤ 256 ∧ ∀ c ∈ (stoG d t o).2.2, c < 256 := by
  induction d with
  | zero => intro t o h1 h2; exact ⟨h1, h2⟩
  | succ d ih =>
    intro t o h1 h2
    unfold stoG
    split
    · exact ⟨h1, h2⟩
    · split
      · exact ⟨h1, h2⟩
      · refine ih _ _ (by simp; omega) fun c hc => ?_
        rcases List.mem_append.1 hc with q | q
        · exact h2 c q
        · simp only [List.mem_singleton] at q; subst q; exact peek_lt2 t 8
end Go.Proofs.Qxb6500353aGreat
