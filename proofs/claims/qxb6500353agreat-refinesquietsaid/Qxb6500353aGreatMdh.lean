/- The model's decoder: the list of lengths, plainly, against the machine. -/
import Derived.Test.Qxb6500353aGreatMch
namespace Go.Proofs.Qxb6500353aGreat
set_option linter.unusedVariables false
set_option linter.unusedSimpArgs false

theorem got11 (t : Tp) : t.got 11 < 4 ↔ t.got 4 < 4 := by unfold Tp.got; omega
theorem got11w (t : Tp) {wd : Nat} (hw : wd ≤ 7) (h : ¬ t.got 4 < 4) : t.got 11 < 4 + wd ↔ (t.skip 4).got wd < wd := by
  unfold Tp.got Tp.skip at *
  dsimp only
  omega
theorem mod_low (Y a m : Nat) (h : a ≤ m) : Y % 2 ^ m % 2 ^ a = Y % 2 ^ a := Nat.mod_mod_of_dvd _ (Nat.pow_dvd_pow 2 h)
theorem peek11 (t : Tp) (h : ¬ t.got 4 < 4) : t.peek 11 % 16 = t.peek 4 := by
  have h1 : t.got 4 = 4 := by unfold Tp.got at *; omega
  have h2 : 4 ≤ t.got 11 := by unfold Tp.got at *; omega
  unfold Tp.peek
  rw [h1, show (16 : Nat) = 2 ^ 4 from rfl, mod_low _ _ _ h2]
theorem peek11w (t : Tp) {wd : Nat} (hw : wd ≤ 7) (h : ¬ t.got 4 < 4) (h2 : ¬ (t.skip 4).got wd < wd) : t.peek 11 / 16 % 2 ^ wd = (t.skip 4).peek wd := by
  have g1 : (t.skip 4).got wd = wd := by unfold Tp.got Tp.skip at *; dsimp only at *; omega
  have g2 : 4 + wd ≤ t.got 11 := by unfold Tp.got Tp.skip at *; dsimp only at *; omega
  unfold Tp.peek
  rw [g1]
  obtain ⟨m, hm⟩ : ∃ m, m = t.got 11 := ⟨_, rfl⟩
  rw [← hm] at g2 ⊢
  have e : 2 ^ m = 16 * 2 ^ (m - 4) := by rw [show (16 : Nat) = 2 ^ 4 from rfl, ← Nat.pow_add]; congr 1; omega
  rw [e, Nat.mod_mul_right_div_self, mod_low _ _ _ (by omega)]
  show t.X / 2 ^ t.at_ / 16 % 2 ^ wd = t.X / 2 ^ (t.at_ + 4) % 2 ^ wd
  rw [Nat.div_div_eq_div_mul, Nat.pow_add]
/-- One round of the list. -/
def lenR (t : Tp) (ls : List Nat) : Nat × Tp × List Nat :=
  if t.got 4 < 4 then (4, t, ls)
  else if t.peek 4 ≤ 10 then (0, t.skip 4, ls ++ [t.peek 4])
  else if 12 < t.peek 4 then (8, t.skip 4, ls)
  else if (t.skip 4).got (wideF (t.peek 4)) < wideF (t.peek 4) then (4, t.skip 4, ls)
  else if t.peek 4 = 12 ∧ ls.length = 0 then (8, (t.skip 4).skip (wideF (t.peek 4)), ls)
  else if 273 < ls.length + (3 + (t.skip 4).peek (wideF (t.peek 4))) then (8, (t.skip 4).skip (wideF (t.peek 4)), ls)
  else (0, (t.skip 4).skip (wideF (t.peek 4)), ls ++ List.replicate (3 + (t.skip 4).peek (wideF (t.peek 4))) (if t.peek 4 = 12 then len ls (ls.length - 1) else 0))
theorem lenR_law {t : Tp} {ls : List Nat} {s : DS} (hp : s.ph = 4) (hs : s.ls = ls) (hl : ls.length < 273) :
    ((lenR t ls).1 ≠ 0 → stepF t s = ((lenR t ls).1, t, s)) ∧ ((lenR t ls).1 = 0 → stepF t s = listEnd (lenR t ls).2.1 { s with ls := (lenR t ls).2.2 }) := by
  obtain ⟨ph, f0, due, run, base, more, l0, a0, b0, o0⟩ := s
  dsimp only at hp hs
  subst hp hs
  have e4 := stepF_4 (t := t) (s := ⟨4, f0, due, run, base, more, l0, a0, b0, o0⟩) rfl
  unfold step4 at e4
  dsimp only at e4
  unfold lenR
  by_cases c1 : t.got 4 < 4
  · rw [if_pos ((got11 t).2 c1)] at e4
    rw [if_pos c1]
    exact ⟨fun _ => e4, fun q => by simp at q⟩
  · rw [if_neg (fun q => c1 ((got11 t).1 q)), peek11 t c1] at e4
    rw [if_neg c1]
    have hwd : wideF (t.peek 4) ≤ 7 := by unfold wideF; split <;> omega
    by_cases c2 : t.peek 4 ≤ 10
    · rw [if_pos c2] at e4 ⊢
      exact ⟨fun q => absurd rfl q, fun _ => e4⟩
    · rw [if_neg c2] at e4 ⊢
      by_cases c3 : 12 < t.peek 4
      · rw [if_pos c3] at e4 ⊢
        exact ⟨fun _ => e4, fun q => by simp at q⟩
      · rw [if_neg c3] at e4 ⊢
        by_cases c4 : (t.skip 4).got (wideF (t.peek 4)) < wideF (t.peek 4)
        · rw [if_pos ((got11w t hwd c1).2 c4)] at e4
          rw [if_pos c4]
          exact ⟨fun _ => e4, fun q => by simp at q⟩
        · rw [if_neg (fun q => c4 ((got11w t hwd c1).1 q))] at e4
          rw [if_neg c4]
          have ht : timesF t = 3 + (t.skip 4).peek (wideF (t.peek 4)) := by
            unfold timesF
            rw [peek11 t c1, peek11w t hwd c1 c4]
          rw [ht] at e4
          obtain ⟨tm, htm⟩ : ∃ z, z = 3 + (t.skip 4).peek (wideF (t.peek 4)) := ⟨_, rfl⟩
          rw [← htm] at e4 ⊢
          by_cases c5 : t.peek 4 = 12 ∧ l0.length = 0
          · rw [if_pos c5] at e4 ⊢
            exact ⟨fun _ => e4, fun q => by simp at q⟩
          · rw [if_neg c5] at e4 ⊢
            by_cases c6 : 273 < l0.length + tm
            · rw [if_pos (show 273 - l0.length < tm by omega)] at e4
              rw [if_pos c6]
              exact ⟨fun _ => e4, fun q => by simp at q⟩
            · rw [if_neg (show ¬ 273 - l0.length < tm by omega)] at e4
              rw [if_neg c6]
              have esk : (t.skip 4).skip (wideF (t.peek 4)) = t.skip (4 + wideF (t.peek 4)) := by unfold Tp.skip; dsimp only; rw [Nat.add_assoc]
              rw [esk]
              exact ⟨fun q => absurd rfl q, fun _ => e4⟩
theorem lenR_keep {t : Tp} {ls : List Nat} (hl : ls.length < 273) (h10 : ∀ x ∈ ls, x ≤ 10) : (lenR t ls).2.2.length ≤ 273 ∧ (∀ x ∈ (lenR t ls).2.2, x ≤ 10) ∧ ((lenR t ls).1 = 0 → ls.length < (lenR t ls).2.2.length) := by
  unfold lenR
  split
  · exact ⟨Nat.le_of_lt hl, h10, fun q => by simp at q⟩
  · split
    · rename_i h2
      refine ⟨by simp; omega, fun x hx => ?_, fun _ => by simp⟩
      rcases List.mem_append.1 hx with q | q
      · exact h10 x q
      · simp only [List.mem_singleton] at q; subst q; exact h2
    · split
      · exact ⟨Nat.le_of_lt hl, h10, fun q => by simp at q⟩
      · split
        · exact ⟨Nat.le_of_lt hl, h10, fun q => by simp at q⟩
        · split
          · exact ⟨Nat.le_of_lt hl, h10, fun q => by simp at q⟩
          · split
            · exact ⟨Nat.le_of_lt hl, h10, fun q => by simp at q⟩
            · rename_i h6
              refine ⟨by simp only [List.length_append, List.length_replicate]; omega, fun x hx => ?_, fun _ => by simp only [List.length_append, List.length_replicate]; omega⟩
              rcases List.mem_append.1 hx with q | q
              · exact h10 x q
              · have q2 := List.eq_of_mem_replicate q
                subst q2
                split
                · unfold len
                  rw [List.getD_eq_getElem?_getD]
                  cases e : ls[ls.length - 1]? with
                  | none => decide
                  | some y => exact h10 y (List.mem_of_getElem? e)
                · omega
end Go.Proofs.Qxb6500353aGreat
