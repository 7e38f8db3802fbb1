/- The real decoder: shut, the fixed lengths, the sets, walked. -/
import Derived.Test.Qxb6500353aGreatSta
import Derived.Test.Qxb6500353aGreatMdg
import Derived.Test.Qxb6500353aGreatApi
import Derived.Test.Qxb6500353aGreatBkb
namespace Go.Proofs.Qxb6500353aGreat
open Go.RowKit
set_option linter.unusedVariables false
set_option linter.unusedSimpArgs false

set_option maxRecDepth 100000 in
theorem shut_any {w : World} {Y : Nat} {R : DcR} {t : Tp} (h : DecM w Y R t) :
    Calls Tryz.prog 164 #[ptrV (Y + 24)] w fun e w' => e = .returned (.tuple #[]) ∧ (R.final = 0 → DecM w' Y { R with phase := 0 } t) ∧ (R.final ≠ 0 → DecM w' Y { R with phase := 8 } t.sync) ∧ Fr (Rng Y (Y + 28)) w w' := by
  have c1 := h.d.c_final
  have c2 := h.d.c_phase
  have c3 := h.d.c_t
  rw [h.rt] at c3
  have cf : ∀ i, w.frozen? ⟨Y + 24, i, none⟩ = false := h.d.fz
  have H := hid h
  have HSY := hid (sync_any h.tp)
  obtain ⟨fi, hfi⟩ : ∃ z, z = R.final := ⟨_, rfl⟩
  rw [← hfi] at c1
  have HFI := hid hfi
  by_cases hf0 : fi = 0
  · subst hf0
    have h1 := h.dec (h.d.set_phase 0) (rngO ((Fr.refl _ _).set1 4 (.int .i64 ((0 : Nat) : Int)))) rfl rfl rfl (fun q => q)
    have H1 := hid h1
    clear h h1 hfi
    refine calls_via fun K hK => ?_
    unfold ptrV
    go_enter Tryz.func164, Tryz.ntmps164
    go_wp2_with fail
    go_end0
    exact hK.out _ _ ⟨rfl, fun _ => H1.out, fun q => absurd HFI.out.symm q, rngD (rngO ((Fr.refl _ _).set1 4 _))⟩
  · have hf1 : ((fi : Int) == 0) = false := by simp; omega
    have HF0 := hid hf0
    clear h hfi hf0
    refine calls_via fun K hK => ?_
    unfold ptrV tapP at *
    go_enter Tryz.func164, Tryz.ntmps164
    go_wp2_with fail
    refine HSY.out.mono ?_
    rintro e w2 ⟨rfl, h2, hf2⟩
    have h3 := H.out.tape h2 (one_rng hf2)
    have h4 := h3.dec (h3.d.set_phase 8) (rngO ((Fr.refl _ _).set1 4 (.int .i64 ((8 : Nat) : Int)))) rfl rfl rfl (fun q => q)
    have H4 := hid h4
    have HF := hid (Fr.trans (rngT (one_rng hf2)) (rngD (rngO ((Fr.refl (One (Y + 24)) w2).set1 4 (.int .i64 ((8 : Nat) : Int))))))
    have k2 := h3.d.c_phase
    have kf : ∀ i, w2.frozen? ⟨Y + 24, i, none⟩ = false := h3.d.fz
    clear c1 c2 c3 cf h2 hf2 h3 h4
    go_wp2_with fail
    go_end0
    exact hK.out _ _ ⟨rfl, fun q => absurd (HFI.out.trans q) HF0.out, fun _ => H4.out, HF.out⟩
set_option maxRecDepth 100000 in
set_option maxHeartbeats 4000000 in
theorem fixedD_any {w : World} {b : Nat} {R : DcR} (h : DcAt w b R) :
    Calls Tryz.prog 162 #[ptrV b] w fun e w' => e = .returned (.tuple #[]) ∧ ∃ L : Nat → Nat, DcAt w' b { R with lens := L } ∧ (∀ i, i < 273 → L i = len fixL i) ∧ Fr (Rng b (b + 4)) w w' := by
  have H := hid h
  have HS : Hid (Rng b (b + 4) (b + 1)) := hid ⟨by omega, by omega⟩
  clear h
  refine calls_via fun K hK => ?_
  unfold ptrV
  go_enter Tryz.func162, Tryz.ntmps162
  go_wp2_with fail
  go_loopg [2] 265 (fun g i wr => ∃ (k : Nat) (L : Nat → Nat), i = .int .i64 (k : Nat) ∧ g + k = 265 ∧ DcAt wr b { R with lens := L } ∧ (∀ j, j < k → L j = len fixL j) ∧ Fr (Rng b (b + 4)) w wr)
  case atStart => exact ⟨0, R.lens, rfl, by omega, H.out, fun j hj => by omega, Fr.refl _ _⟩
  case round =>
    obtain ⟨k, L, rfl, hg, hA, hL, hf⟩ := hrel
    have HA := hid hA
    have HF := hid hf
    have HL := hid hL
    have c1 := hA.p_lens
    have z : ∀ i, wr.frozen? ⟨b + 1, i, none⟩ = false := hA.a_lens.thaw
    by_cases hlt : k < 265
    · have hki : (k : Int) < 265 := by omega
      have cb := hA.a_lens.cell k (by omega)
      simp only [mkN] at cb
      obtain ⟨y, hy⟩ : ∃ z, z = L k := ⟨_, rfl⟩
      rw [← hy] at cb
      have HFL := hid (fun w => fixedLen_any (w := w) (s := k))
      obtain ⟨f, hff⟩ : ∃ f, f = fixedLen k := ⟨_, rfl⟩
      rw [← hff] at HFL
      have HFF := hid (hff.trans (fixL_lo hlt).symm)
      clear hA hf hff hy hL
      go_upto_region 3 with fail
      go_region_with (go_at_call 100; refine (HFL.out _).mono ?_; rintro e w7 ⟨rfl, hw⟩; have hw2 := hw; subst hw2; clear hw)
      all_goals go_wp2_with fail
      all_goals go_roundg (gk - 1)
      all_goals first
        | omega
        | (refine ⟨k + 1, upd L k f, by simp, by omega, by first | exact (HA.out.set_lens k f).drew | exact (HA.out.drew).set_lens k f | exact HA.out.set_lens k f, fun j hj => ?_, by first | exact (HF.out.setS HS.out _ _).drew | exact (HF.out.drew.setS HS.out _ _) | exact HF.out.setS HS.out _ _⟩
           by_cases e : j = k
           · subst e; rw [upd_self, HFF.out]
           · rw [upd_ne _ _ _ _ e]; exact HL.out j (by omega))
    · have hki : ¬ (k : Int) < 265 := by omega
      have hL0 : ∀ j, j < 265 → L j = len fixL j := fun j hj => hL j (by omega)
      have HL0 := hid hL0
      clear hA hf hL hL0 c1 z
      go_wp2_with fail
      go_loopg [3] 8 (fun g i w2 => ∃ (k : Nat) (L : Nat → Nat), i = .int .i64 (k : Nat) ∧ g + k = 8 ∧ DcAt w2 b { R with lens := L } ∧ (∀ j, j < 265 + k → L j = len fixL j) ∧ Fr (Rng b (b + 4)) w w2)
      case atStart => exact ⟨0, L, rfl, by omega, HA.out, HL0.out, HF.out⟩
      case round =>
        obtain ⟨k, L, rfl, hg, hA, hL, hf⟩ := hrel
        have HA := hid hA
        have HF := hid hf
        have HL := hid hL
        have c1 := hA.p_lens
        have z : ∀ i, wr.frozen? ⟨b + 1, i, none⟩ = false := hA.a_lens.thaw
        by_cases hlt : k < 8
        · have hki : (k : Int) < 8 := by omega
          have cb := hA.a_lens.cell (265 + k) (by omega)
          simp only [mkN] at cb
          obtain ⟨y, hy⟩ : ∃ z, z = L (265 + k) := ⟨_, rfl⟩
          rw [← hy] at cb
          have HX := hid (fixL_hi hlt)
          clear hA hf hL hy
          go_wp2_with fail
          go_roundg (gk - 1)
          case measure => omega
          case rel =>
            refine ⟨k + 1, upd L (265 + k) 3, by simp, by omega, HA.out.set_lens (265 + k) 3, fun j hj => ?_, HF.out.setS HS.out _ _⟩
            by_cases e : j = 265 + k
            · subst e; rw [upd_self, HX.out]
            · rw [upd_ne _ _ _ _ e]; exact HL.out j (by omega)
        · have hki : ¬ (k : Int) < 8 := by omega
          clear hA hf hL c1 z
          go_wp2_with fail
          go_end0
          exact hK.out _ _ ⟨rfl, L, HA.out, fun j hj => HL.out j (by omega), HF.out⟩
end Go.Proofs.Qxb6500353aGreat
