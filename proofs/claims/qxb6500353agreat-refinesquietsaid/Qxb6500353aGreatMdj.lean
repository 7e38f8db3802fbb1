/- The model's decoder: a block's head and end, plainly, against the machine. -/
import Derived.Test.Qxb6500353aGreatMdd
namespace Go.Proofs.Qxb6500353aGreat
set_option linter.unusedVariables false
set_option linter.unusedSimpArgs false

/-- Between two blocks. -/
structure R0 (o : List Nat) (s : DS) : Prop where
  ph : s.ph = 0
  fin : s.final = 0
  out : s.out = o
/-- Behind the bit 'final'. -/
structure R1 (fin : Nat) (o : List Nat) (s : DS) : Prop where
  ph : s.ph = 1
  fin : s.final = fin
  out : s.out = o
theorem head0 {t : Tp} {o : List Nat} {s : DS} (h : R0 o s) :
    (t.got 1 < 1 → Ends t s 4 o) ∧ (¬ t.got 1 < 1 → ∃ s', R1 (t.peek 1) o s' ∧ Steps t s (t.skip 1) s') := by
  have h8 : s.ph ≠ 8 := by rw [h.ph]; decide
  have e := stepF_0 (t := t) (s := s) h.ph
  unfold step0 at e
  refine ⟨fun c => ?_, fun c => ?_⟩
  · rw [if_pos c] at e
    have := Ends.err h8 e (by decide)
    rw [h.out] at this; exact this
  · rw [if_neg c] at e
    exact ⟨{ s with final := t.peek 1, ph := 1 }, ⟨rfl, rfl, h.out⟩, Steps.one h8 e⟩
theorem head1 {t : Tp} {fin : Nat} {o : List Nat} {s : DS} (h : R1 fin o s) :
    (t.got 2 < 2 → Ends t s 4 o) ∧ (¬ t.got 2 < 2 → t.peek 2 = 3 → Ends t s 5 o) ∧
    (¬ t.got 2 < 2 → t.peek 2 = 0 → ∃ s', s'.ph = 2 ∧ s'.final = fin ∧ s'.out = o ∧ Steps t s (t.skip 2).sync s') ∧
    (¬ t.got 2 < 2 → t.peek 2 = 1 → ∃ s', s'.ph = 5 ∧ s'.final = fin ∧ s'.out = o ∧ s'.a = fixA ∧ s'.b = fixB ∧ Steps t s (t.skip 2) s') ∧
    (¬ t.got 2 < 2 → t.peek 2 = 2 → ∃ s', s'.ph = 4 ∧ s'.final = fin ∧ s'.out = o ∧ s'.ls = [] ∧ Steps t s (t.skip 2) s') := by
  have h8 : s.ph ≠ 8 := by rw [h.ph]; decide
  have e := stepF_1 (t := t) (s := s) h.ph
  unfold step1 at e
  refine ⟨fun c => ?_, fun c k => ?_, fun c k => ?_, fun c k => ?_, fun c k => ?_⟩
  · rw [if_pos c] at e
    have := Ends.err h8 e (by decide)
    rw [h.out] at this; exact this
  · rw [if_neg c, if_neg (by omega), if_neg (by omega), if_neg (by omega)] at e
    have := Ends.err h8 e (by decide)
    rw [h.out] at this; exact this
  · rw [if_neg c, if_pos k] at e
    exact ⟨{ s with ph := 2 }, rfl, h.fin, h.out, Steps.one h8 e⟩
  · rw [if_neg c, if_neg (by omega), if_pos k] at e
    exact ⟨{ s with ph := 5, a := fixA, b := fixB }, rfl, h.fin, h.out, rfl, rfl, Steps.one h8 e⟩
  · rw [if_neg c, if_neg (by omega), if_neg (by omega), if_pos k] at e
    exact ⟨{ s with ph := 4, ls := [] }, rfl, h.fin, h.out, rfl, Steps.one h8 e⟩
/-- A block's end: on to the next one, or to the end of the text. -/
theorem Shuts.go {t t' : Tp} {s : DS} {o' : List Nat} (h : Shuts t s t' o') :
    (s.final = 0 → ∃ s', R0 o' s' ∧ Steps t s t' s') ∧ (s.final ≠ 0 → Ends t s (if t'.sync.at_ < t'.sync.n then 11 else 0) o') := by
  obtain ⟨tq, sq, s1, h1, h2, h3, h4, h5⟩ := h
  unfold shutS at h3
  refine ⟨fun e => ?_, fun e => ?_⟩
  · rw [if_pos (by rw [h4]; exact e)] at h3
    exact ⟨{ s1 with ph := 0 }, ⟨rfl, by show s1.final = 0; rw [h4]; exact e, h5⟩, h1.trans (Steps.one h2 h3)⟩
  · rw [if_neg (by rw [h4]; exact e)] at h3
    have h6 : Ends t'.sync { s1 with ph := 8 } (if t'.sync.at_ < t'.sync.n then 11 else 0) s1.out := Ends.tail rfl
    have h7 := (h1.trans (Steps.one h2 h3)).ends h6
    rw [h5] at h7; exact h7
end Go.Proofs.Qxb6500353aGreat
