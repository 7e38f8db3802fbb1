/- The model's decoder: token, walked. -/
import Derived.Test.Qxb6500353aGreatMda
import Derived.Test.Qxb6500353aGreatApi
namespace Go.Proofs.Qxb6500353aGreat
open Go.RowKit
set_option linter.unusedVariables false
set_option linter.unusedSimpArgs false

/-- The tape and the growing output, apart from one another. -/
structure DcS (w : World) (b cap : Nat) (ad : Option Addr) (t : Tp) (ado : Option Addr) (capo : Nat) (o : List Nat) : Prop where
  tp : MTp w b ad cap t
  ow : OwnB w 0 ado o.length capo o
  ne : ∀ g, obk ado = some g → g ≠ b ∧ obk ad ≠ some g
theorem DcS.one {w w2 : World} {b cap capo : Nat} {ad ado : Option Addr} {t t2 : Tp} {o : List Nat} (h : DcS w b cap ad t ado capo o) (hm : MTp w2 b ad cap t2) (hf : Fr (One b) w w2) : DcS w2 b cap ad t2 ado capo o ∧ Gr b w ado w2 ado :=
  ⟨⟨hm, h.ow.fr hf fun g hg q => (h.ne g hg).1 q, h.ne⟩, Gr.one hf⟩
theorem DcS.nob {w w2 : World} {b cap capo : Nat} {ad ado : Option Addr} {t : Tp} {o : List Nat} (h : DcS w b cap ad t ado capo o) (hf : Fr Nob w w2) : DcS w2 b cap ad t ado capo o ∧ Gr b w ado w2 ado :=
  ⟨⟨h.tp.fr hf (fun x => x) (fun _ _ x => x), h.ow.fr hf (fun _ _ x => x), h.ne⟩, Gr.nob hf⟩
theorem DcS.app {w w2 : World} {b cap capo cp2 n : Nat} {ad ado ad2 : Option Addr} {t : Tp} {o : List Nat} {y : Nat} (h : DcS w b cap ad t ado capo o) (hn : n = o.length + 1) (ho : OwnB w2 0 ad2 n cp2 (o ++ [y])) (hf : Fr (Obs ado) w w2) (hob : obk ad2 = obk ado ∨ ∃ N, obk ad2 = some N ∧ w.heap.size ≤ N) : DcS w2 b cap ad t ad2 cp2 (o ++ [y]) ∧ Gr b w ado w2 ad2 := by
  have hb := h.tp.lt
  have e : (o ++ [y]).length = n := by simp [hn]
  refine ⟨⟨h.tp.fr hf (fun q => (h.ne b q).1 rfl) (fun g hg q => (h.ne g q).2 hg), by rw [e]; exact ho, fun g hg => ?_⟩, ⟨hf.mono fun x hx _ => .inr hx, fun g hg => ?_⟩⟩
  · rcases hob with q | ⟨N, q, hN⟩
    · exact h.ne g (by rw [← q]; exact hg)
    · rw [q] at hg
      simp only [Option.some.injEq] at hg
      subst hg
      exact ⟨by omega, fun q2 => by have := (h.tp.own.lt q2).2; omega⟩
  · rcases hob with q | ⟨N, q, hN⟩
    · exact .inl (by rw [← q]; exact hg)
    · rw [q] at hg
      simp only [Option.some.injEq] at hg
      subst hg
      exact .inr hN
/-- One token, plainly: stop, error, the tape and the output behind it. -/
def tokM (la lb : List Nat) (t : Tp) (o : List Nat) : Bool × Nat × Tp × List Nat :=
  if (symF la t).2.2 ≠ 0 then (true, (symF la t).2.2, t, o)
  else if (symF la t).1 = 256 then (true, 0, t.skip (symF la t).2.1, o)
  else if (symF la t).1 < 256 then
    if 256 ≤ o.length then (true, 10, t.skip (symF la t).2.1, o) else (false, 0, t.skip (symF la t).2.1, o ++ [(symF la t).1])
  else tokM2 (symF la t).1 (t.skip (symF la t).2.1) o
where
  tokM2 (sym : Nat) (t : Tp) (o : List Nat) : Bool × Nat × Tp × List Nat :=
    if (symF lb t).2.2 ≠ 0 then (true, (symF lb t).2.2, t, o)
    else tokM3 sym (distBase (symF lb t).1) (t.skip (symF lb t).2.1) o
  tokM3 (sym : Nat) (bm : Nat × Nat) (t : Tp) (o : List Nat) : Bool × Nat × Tp × List Nat :=
    if t.got bm.2 < bm.2 then (true, 4, t, o)
    else if o.length < bm.1 + t.peek bm.2 then (true, 9, t.skip bm.2, o)
    else if 256 < o.length + (sym - 254) then (true, 10, t.skip bm.2, o)
    else (false, 0, t.skip bm.2, copyF o (bm.1 + t.peek bm.2) (sym - 254))
/-- What the machine has when a token is due. -/
structure DJ (fin : Nat) (la lb : List Nat) (o : List Nat) (s : DS) : Prop where
  ph : s.ph = 5
  fin : s.final = fin
  a : s.a = la
  b : s.b = lb
  out : s.out = o
theorem shutS_of {s s2 : DS} {t : Tp} (h : s = s2) : shutS t s = shutS t s2 := by rw [h]
/-- The token against the machine. -/
theorem tokM_law {fin : Nat} {la lb : List Nat} {t : Tp} {o : List Nat} {s : DS} (h : DJ fin la lb o s) (hsy : ∀ (t : Tp), (symF la t).2.2 = 0 → (symF la t).1 < 265) :
    ((tokM la lb t o).1 = false → (tokM la lb t o).2.1 = 0 ∧ ∃ s', DJ fin la lb (tokM la lb t o).2.2.2 s' ∧ Steps t s (tokM la lb t o).2.2.1 s') ∧
    ((tokM la lb t o).1 = true → (tokM la lb t o).2.2.2 = o) ∧
    ((tokM la lb t o).1 = true → (tokM la lb t o).2.1 ≠ 0 → Ends t s (tokM la lb t o).2.1 o) ∧
    ((tokM la lb t o).1 = true → (tokM la lb t o).2.1 = 0 → stepF t s = shutS (tokM la lb t o).2.2.1 s) := by
  obtain ⟨hp, hf, ha, hb, ho⟩ := h
  obtain ⟨ph, f0, due, run, base, more, ls, a0, b0, o0⟩ := s
  dsimp only at hp hf ha hb ho
  subst hp hf ha hb ho
  have e5 := stepF_5 (t := t) (s := ⟨5, f0, due, run, base, more, ls, a0, b0, o0⟩) rfl
  have h8 : (5 : Nat) ≠ 8 := by decide
  unfold step5 at e5
  dsimp only at e5
  unfold tokM
  by_cases c1 : (symF a0 t).2.2 ≠ 0
  · rw [if_pos c1] at e5 ⊢
    exact ⟨fun q => by simp at q, fun _ => rfl, fun _ _ => Ends.err h8 e5 c1, fun _ q => absurd q c1⟩
  · rw [if_neg c1] at e5 ⊢
    by_cases c2 : (symF a0 t).1 = 256
    · rw [if_pos c2] at e5 ⊢
      exact ⟨fun q => by simp at q, fun _ => rfl, fun _ q => absurd rfl q, fun _ _ => e5⟩
    · rw [if_neg c2] at e5 ⊢
      by_cases c3 : (symF a0 t).1 < 256
      · rw [if_pos c3] at e5 ⊢
        by_cases c4 : 256 ≤ o0.length
        · rw [if_pos c4] at e5 ⊢
          exact ⟨fun q => by simp at q, fun _ => rfl, fun _ _ => Ends.err h8 e5 (by show (10 : Nat) ≠ 0; decide), fun _ q => by simp at q⟩
        · rw [if_neg c4] at e5 ⊢
          exact ⟨fun _ => ⟨rfl, _, ⟨rfl, rfl, rfl, rfl, rfl⟩, Steps.one h8 e5⟩, fun q => by simp at q, fun q => by simp at q, fun q => by simp at q⟩
      · rw [if_neg c3] at e5 ⊢
        have s1 := Steps.one h8 e5
        have hsy1 := hsy t (by omega)
        obtain ⟨x, hx⟩ : ∃ x, x = (symF a0 t).1 := ⟨_, rfl⟩
        obtain ⟨t1, ht1⟩ : ∃ z, z = t.skip (symF a0 t).2.1 := ⟨_, rfl⟩
        rw [← ht1, ← hx] at s1 ⊢
        rw [← hx] at hsy1 c3
        have e6 := stepF_6 (t := t1) (s := ⟨6, f0, due, x - 254, base, more, ls, a0, b0, o0⟩) rfl
        have k8 : (6 : Nat) ≠ 8 := by decide
        unfold step6 at e6
        dsimp only at e6
        unfold tokM.tokM2
        by_cases c5 : (symF b0 t1).2.2 ≠ 0
        · rw [if_pos c5] at e6 ⊢
          exact ⟨fun q => by simp at q, fun _ => rfl, fun _ _ => s1.ends (Ends.err k8 e6 c5), fun _ q => absurd q c5⟩
        · rw [if_neg c5] at e6 ⊢
          have s2 := s1.trans (Steps.one k8 e6)
          obtain ⟨t2, ht2⟩ : ∃ z, z = t1.skip (symF b0 t1).2.1 := ⟨_, rfl⟩
          obtain ⟨bm, hbm⟩ : ∃ z, z = distBase (symF b0 t1).1 := ⟨_, rfl⟩
          rw [← ht2, ← hbm] at s2 ⊢
          have e7 := stepF_7 (t := t2) (s := ⟨7, f0, due, x - 254, bm.1, bm.2, ls, a0, b0, o0⟩) rfl
          have m8 : (7 : Nat) ≠ 8 := by decide
          unfold step7 at e7
          dsimp only at e7
          unfold tokM.tokM3
          by_cases c6 : t2.got bm.2 < bm.2
          · rw [if_pos c6] at e7 ⊢
            exact ⟨fun q => by simp at q, fun _ => rfl, fun _ _ => s2.ends (Ends.err m8 e7 (by show (4 : Nat) ≠ 0; decide)), fun _ q => by simp at q⟩
          · rw [if_neg c6] at e7 ⊢
            by_cases c7 : o0.length < bm.1 + t2.peek bm.2
            · rw [if_pos c7] at e7 ⊢
              exact ⟨fun q => by simp at q, fun _ => rfl, fun _ _ => s2.ends (Ends.err m8 e7 (by show (9 : Nat) ≠ 0; decide)), fun _ q => by simp at q⟩
            · rw [if_neg c7] at e7 ⊢
              by_cases c8 : 256 < o0.length + (x - 254)
              · rw [if_pos (show 256 - o0.length < x - 254 by omega)] at e7
                rw [if_pos c8]
                exact ⟨fun q => by simp at q, fun _ => rfl, fun _ _ => s2.ends (Ends.err m8 e7 (by show (10 : Nat) ≠ 0; decide)), fun _ q => by simp at q⟩
              · rw [if_neg (show ¬ 256 - o0.length < x - 254 by omega)] at e7
                rw [if_neg c8]
                exact ⟨fun _ => ⟨rfl, ⟨5, f0, due, x - 254, bm.1, bm.2, ls, a0, b0, copyF o0 (bm.1 + t2.peek bm.2) (x - 254)⟩, ⟨rfl, rfl, rfl, rfl, rfl⟩, s2.trans (Steps.one m8 e7)⟩, fun q => by simp at q, fun q => by simp at q, fun q => by simp at q⟩
end Go.Proofs.Qxb6500353aGreat
