/- The encoder: sym, walked. -/
import Derived.Test.Qxb6500353aGreatBkd
namespace Go.Proofs.Qxb6500353aGreat
open Go.RowKit
set_option linter.unusedVariables false
set_option linter.unusedSimpArgs false

set_option maxRecDepth 100000 in
set_option maxHeartbeats 8000000 in
theorem sym_any {w : World} {t a b z p : Nat} {T : Tp} {RA RB : CdR} {RZ : MtR} {R : PkR} (h : Enc w t a b z p T RA RB RZ R) {s v k : Nat} (hs : s < 273) (hv : R.code s = v) (hk : R.wide s = k) (hvk : v < 2 ^ k) (hk10 : k ≤ 10) (hf : T.n + k ≤ 4096) :
    Calls Tryz.prog 158 #[ptrV p, .int .i64 s] w fun e w' => e = .returned (.tuple #[]) ∧ Enc w' t a b z p (T.put v k) RA RB RZ R ∧ Fr (Rng t (p + 5)) w w' := by
  have c0 := h.ptr
  have c1 := h.pk.p_code
  have c2 := h.pk.p_wide
  have x1 := h.pk.a_code.cell s hs
  have x2 := h.pk.a_wide.cell s hs
  simp only [mkN] at x1 x2
  rw [hv] at x1
  rw [hk] at x2
  have hsi : (s : Int) < 273 := by omega
  have HPUT := hid (fun w2 (hf2 : Fr Nob w w2) => (h.fr hf2 (fun _ _ _ x => x)).put (v := v) (k := k) k rfl (by omega) hvk hf)
  clear h hs hv hk hvk hf
  refine calls_via fun K hK => ?_
  unfold ptrV
  go_enter Tryz.func158, Tryz.ntmps158
  go_wp2_with fail
  go_region_with (go_at_call 90; refine (HPUT.out _ (by first | exact Fr.refl _ _ | exact (Fr.refl _ _).drew | exact Fr.of_drewN)).mono ?_; rintro e w4 ⟨rfl, h4, hf4⟩; have H4 := hid h4; have HF4 : Hid (Fr (Rng t (p + 5)) w w4) := hid (by first | exact hf4 | exact Fr.trans ((Fr.refl (Rng t (p + 5)) w).drew) hf4); clear h4 hf4)
  all_goals go_wp2_with fail
  all_goals go_end0
  all_goals exact hK.out _ _ ⟨rfl, H4.out, HF4.out⟩
end Go.Proofs.Qxb6500353aGreat
