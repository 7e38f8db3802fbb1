/- The model's decoder: the sets judged, plainly. -/
import Derived.Test.Qxb6500353aGreatMdg
import Derived.Test.Qxb6500353aGreatMdi
import Derived.Test.Qxb6500353aGreatMdj
namespace Go.Proofs.Qxb6500353aGreat
set_option linter.unusedVariables false
set_option linter.unusedSimpArgs false

theorem len_take {l : List Nat} {i k : Nat} (h : i < k) : len (l.take k) i = len l i := by
  unfold len; rw [List.getD_eq_getElem?_getD, List.getD_eq_getElem?_getD, List.getElem?_take, if_pos h]
theorem sets_judge {t t' : Tp} {s : DS} {l : List Nat} (h : LenJ t s t' l) (hl : l.length = 273) :
    (errS (l.take 265) (l.drop 265) ≠ 0 → Ends t s (errS (l.take 265) (l.drop 265)) s.out) ∧
    (errS (l.take 265) (l.drop 265) = 0 → ∃ s', DJ s.final (l.take 265) (l.drop 265) s.out s' ∧ Steps t s t' s') := by
  obtain ⟨tp, sq, p1, p2, p3, p4, p5⟩ := h.2 hl
  have h8 : sq.ph ≠ 8 := by rw [p1]; decide
  unfold setsS at p5
  dsimp only at p5
  unfold errS
  by_cases c1 : buildE (l.take 265) ≠ 0
  · rw [if_pos c1] at p5 ⊢
    refine ⟨fun q => ?_, fun q => absurd q c1⟩
    have := p4.ends (Ends.err h8 p5 c1)
    rw [p3] at this; exact this
  · rw [if_neg c1] at p5 ⊢
    by_cases c2 : buildE (l.drop 265) ≠ 0
    · rw [if_pos c2] at p5 ⊢
      refine ⟨fun q => ?_, fun q => absurd q c2⟩
      have := p4.ends (Ends.err h8 p5 c2)
      rw [p3] at this; exact this
    · rw [if_neg c2] at p5 ⊢
      rw [len_take (by omega)]
      by_cases c3 : len l 256 = 0
      · rw [if_pos c3] at p5 ⊢
        refine ⟨fun q => ?_, fun q => by simp at q⟩
        have := p4.ends (Ends.err h8 p5 (by decide))
        rw [p3] at this; exact this
      · rw [if_neg c3] at p5 ⊢
        exact ⟨fun q => absurd rfl q, fun _ => ⟨{ sq with ls := l, ph := 5, a := l.take 265, b := l.drop 265 }, ⟨rfl, p2, rfl, rfl, p3⟩, p4.trans (Steps.one h8 p5)⟩⟩
end Go.Proofs.Qxb6500353aGreat
