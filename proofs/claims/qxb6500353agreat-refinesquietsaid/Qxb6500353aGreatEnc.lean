/- The encoder's objects together. -/
import Derived.Test.Qxb6500353aGreatBka
import Derived.Test.Qxb6500353aGreatBkb
import Derived.Test.Qxb6500353aGreatBkl
import Derived.Test.Qxb6500353aGreatCpo
import Derived.Test.Qxb6500353aGreatPlw
namespace Go.Proofs.Qxb6500353aGreat
open Go.RowKit
set_option linter.unusedVariables false
set_option linter.unusedSimpArgs false

/-- Tape, two coders, matcher, packer: one behind the other. -/
structure Enc (w : World) (t a b z p : Nat) (T : Tp) (RA RB : CdR) (RZ : MtR) (R : PkR) : Prop where
  tape : TapeAt w t T
  ca : CdAt w a RA
  cb : CdAt w b RB
  mz : MtAt w z RZ
  pk : PkAt w p R
  et : R.t = tapP t
  ea : R.a = ptrV a
  eb : R.b = ptrV b
  ez : R.z = ptrV z
  l1 : t + 2 ≤ a
  l2 : a + 11 ≤ b
  l3 : b + 11 ≤ z
  l4 : z + 4 ≤ p
theorem Enc.fr {S : Nat → Prop} {w w2 : World} {t a b z p : Nat} {T : Tp} {RA RB : CdR} {RZ : MtR} {R : PkR} (h : Enc w t a b z p T RA RB RZ R) (hf : Fr S w w2) (hn : ∀ k, t ≤ k → k < p + 5 → ¬ S k) : Enc w2 t a b z p T RA RB RZ R := by
  have l1 := h.l1; have l2 := h.l2; have l3 := h.l3; have l4 := h.l4
  exact ⟨h.tape.fr hf (hn _ (by omega) (by omega)) (hn _ (by omega) (by omega)), h.ca.fr hf (fun k h1 h2 => hn k (by omega) (by omega)), h.cb.fr hf (fun k h1 h2 => hn k (by omega) (by omega)), h.mz.fr hf (fun k h1 h2 => hn k (by omega) (by omega)), h.pk.fr hf (fun k h1 h2 => hn k (by omega) (by omega)), h.et, h.ea, h.eb, h.ez, l1, l2, l3, l4⟩
theorem Enc.drew {w : World} {t a b z p : Nat} {T : Tp} {RA RB : CdR} {RZ : MtR} {R : PkR} (h : Enc w t a b z p T RA RB RZ R) : Enc w.drew t a b z p T RA RB RZ R := h.fr ((Fr.refl Nob w).drew) (fun _ _ _ x => x)
theorem Enc.drewN {w : World} {n t a b z p : Nat} {T : Tp} {RA RB : CdR} {RZ : MtR} {R : PkR} (h : Enc w t a b z p T RA RB RZ R) : Enc (w.drewN n) t a b z p T RA RB RZ R := h.fr (Fr.of_drewN (S := Nob)) (fun _ _ _ x => x)
theorem Enc.lt {w : World} {t a b z p : Nat} {T : Tp} {RA RB : CdR} {RZ : MtR} {R : PkR} (h : Enc w t a b z p T RA RB RZ R) : p + 4 < w.heap.size := h.pk.lt
/-- A step on the coder a. -/
theorem Enc.onA {w w2 : World} {t a b z p : Nat} {T : Tp} {RA RB RA2 : CdR} {RZ : MtR} {R : PkR} (h : Enc w t a b z p T RA RB RZ R) (hf : Fr (Rng a (a + 11)) w w2) (hc : CdAt w2 a RA2) : Enc w2 t a b z p T RA2 RB RZ R := by
  have l1 := h.l1; have l2 := h.l2; have l3 := h.l3; have l4 := h.l4
  have n : ∀ k, ¬ (a ≤ k ∧ k < a + 11) → ¬ Rng a (a + 11) k := fun k h => h
  exact ⟨h.tape.fr hf (n _ (by omega)) (n _ (by omega)), hc, h.cb.fr hf (fun k h1 h2 => n _ (by omega)), h.mz.fr hf (fun k h1 h2 => n _ (by omega)), h.pk.fr hf (fun k h1 h2 => n _ (by omega)), h.et, h.ea, h.eb, h.ez, l1, l2, l3, l4⟩
theorem Enc.onB {w w2 : World} {t a b z p : Nat} {T : Tp} {RA RB RB2 : CdR} {RZ : MtR} {R : PkR} (h : Enc w t a b z p T RA RB RZ R) (hf : Fr (Rng b (b + 11)) w w2) (hc : CdAt w2 b RB2) : Enc w2 t a b z p T RA RB2 RZ R := by
  have l1 := h.l1; have l2 := h.l2; have l3 := h.l3; have l4 := h.l4
  have n : ∀ k, ¬ (b ≤ k ∧ k < b + 11) → ¬ Rng b (b + 11) k := fun k h => h
  exact ⟨h.tape.fr hf (n _ (by omega)) (n _ (by omega)), h.ca.fr hf (fun k h1 h2 => n _ (by omega)), hc, h.mz.fr hf (fun k h1 h2 => n _ (by omega)), h.pk.fr hf (fun k h1 h2 => n _ (by omega)), h.et, h.ea, h.eb, h.ez, l1, l2, l3, l4⟩
theorem Enc.onZ {w w2 : World} {t a b z p : Nat} {T : Tp} {RA RB : CdR} {RZ RZ2 : MtR} {R : PkR} (h : Enc w t a b z p T RA RB RZ R) (hf : Fr (Rng z (z + 4)) w w2) (hc : MtAt w2 z RZ2) : Enc w2 t a b z p T RA RB RZ2 R := by
  have l1 := h.l1; have l2 := h.l2; have l3 := h.l3; have l4 := h.l4
  have n : ∀ k, ¬ (z ≤ k ∧ k < z + 4) → ¬ Rng z (z + 4) k := fun k h => h
  exact ⟨h.tape.fr hf (n _ (by omega)) (n _ (by omega)), h.ca.fr hf (fun k h1 h2 => n _ (by omega)), h.cb.fr hf (fun k h1 h2 => n _ (by omega)), hc, h.pk.fr hf (fun k h1 h2 => n _ (by omega)), h.et, h.ea, h.eb, h.ez, l1, l2, l3, l4⟩
theorem Enc.onT {w w2 : World} {t a b z p : Nat} {T T2 : Tp} {RA RB : CdR} {RZ : MtR} {R : PkR} (h : Enc w t a b z p T RA RB RZ R) (hf : Fr (Rng t (t + 2)) w w2) (hc : TapeAt w2 t T2) : Enc w2 t a b z p T2 RA RB RZ R := by
  have l1 := h.l1; have l2 := h.l2; have l3 := h.l3; have l4 := h.l4
  have n : ∀ k, ¬ (t ≤ k ∧ k < t + 2) → ¬ Rng t (t + 2) k := fun k h => h
  exact ⟨hc, h.ca.fr hf (fun k h1 h2 => n _ (by omega)), h.cb.fr hf (fun k h1 h2 => n _ (by omega)), h.mz.fr hf (fun k h1 h2 => n _ (by omega)), h.pk.fr hf (fun k h1 h2 => n _ (by omega)), h.et, h.ea, h.eb, h.ez, l1, l2, l3, l4⟩
theorem Enc.onP {w w2 : World} {t a b z p : Nat} {T : Tp} {RA RB : CdR} {RZ : MtR} {R R2 : PkR} (h : Enc w t a b z p T RA RB RZ R) (hf : Fr (Rng p (p + 5)) w w2) (hc : PkAt w2 p R2) (et : R2.t = R.t) (ea : R2.a = R.a) (eb : R2.b = R.b) (ez : R2.z = R.z) : Enc w2 t a b z p T RA RB RZ R2 := by
  have l1 := h.l1; have l2 := h.l2; have l3 := h.l3; have l4 := h.l4
  have n : ∀ k, ¬ (p ≤ k ∧ k < p + 5) → ¬ Rng p (p + 5) k := fun k h => h
  exact ⟨h.tape.fr hf (n _ (by omega)) (n _ (by omega)), h.ca.fr hf (fun k h1 h2 => n _ (by omega)), h.cb.fr hf (fun k h1 h2 => n _ (by omega)), h.mz.fr hf (fun k h1 h2 => n _ (by omega)), hc, et.trans h.et, ea.trans h.ea, eb.trans h.eb, ez.trans h.ez, l1, l2, l3, l4⟩
/-- The range of all five. -/
theorem Enc.wide {w w1 w2 : World} {t a b z p x y : Nat} {T : Tp} {RA RB : CdR} {RZ : MtR} {R : PkR} (h : Enc w t a b z p T RA RB RZ R) (hf : Fr (Rng x y) w1 w2) (hx : t ≤ x) (hy : y ≤ p + 5) : Fr (Rng t (p + 5)) w1 w2 :=
  hf.mono fun k hk _ => ⟨Nat.le_trans hx hk.1, Nat.lt_of_lt_of_le hk.2 hy⟩
theorem PkAt.withPlan {w w2 : World} {p : Nat} {R : PkR} {f : Nat → Nat} (h : PkAt w p R) (hf : Fr (One (p + 2)) w w2) (ha : Arr 3 mkN w2 (p + 2) 273 f) : PkAt w2 p { R with plan := f } := by
  have n : ∀ k, k ≠ p + 2 → ¬ One (p + 2) k := fun k h1 h2 => h1 h2
  have hl := h.lt
  exact ⟨hf.cell h.c_t (n _ (by omega)), hf.cell h.c_a (n _ (by omega)), hf.cell h.c_b (n _ (by omega)), hf.cell h.c_z (n _ (by omega)), hf.cell h.p_count (n _ (by omega)), hf.cell h.p_plan (n _ (by omega)), hf.cell h.p_code (n _ (by omega)), hf.cell h.p_wide (n _ (by omega)), h.a_count.fr hf (n _ (by omega)), ha, h.a_code.fr hf (n _ (by omega)), h.a_wide.fr hf (n _ (by omega)), h.fz.fr hf (by omega) (n _ (by omega))⟩
theorem PkAt.congrP {w : World} {b : Nat} {R : PkR} (h : PkAt w b R) {f : Nat → Nat} (e : ∀ i, i < 273 → R.plan i = f i) : PkAt w b { R with plan := f } :=
  ⟨h.c_t, h.c_a, h.c_b, h.c_z, h.p_count, h.p_plan, h.p_code, h.p_wide, h.a_count, h.a_plan.congr e, h.a_code, h.a_wide, h.fz⟩
end Go.Proofs.Qxb6500353aGreat
