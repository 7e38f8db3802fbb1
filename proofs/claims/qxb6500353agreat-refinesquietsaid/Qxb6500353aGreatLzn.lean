/- The matcher's constructor. -/
import Derived.Test.Qxb6500353aGreatLzf
namespace Go.Proofs.Qxb6500353aGreat
open Go.RowKit
set_option linter.unusedVariables false
set_option linter.unusedSimpArgs false

set_option maxRecDepth 100000 in
set_option maxHeartbeats 4000000 in
/-- lz.New. -/
theorem newLz_any (w : World) : Calls Tryz.prog 14 #[] w fun e w' => e = .returned (ptrV w.heap.size) ∧ (∃ R, MtAt w' w.heap.size R) ∧ Fr Nob w w' := by
  obtain ⟨N, hN⟩ : ∃ N, w.heap.size = N := ⟨_, rfl⟩
  rw [hN]
  have hp := Part.start w N hN [.slice none 0 0, .slice none 0 0, .slice none 0 0, .int .i64 0, .int .i64 0] 71
  obtain ⟨w0, hw0⟩ : ∃ w0, w0 = w.alloc (Obj.cells #[.slice none 0 0, .slice none 0 0, .slice none 0 0, .int .i64 0, .int .i64 0] 71) := ⟨_, rfl⟩
  have hw0' := hw0.symm
  have hp0 : Part w N 5 (fun i => ([.slice none 0 0, .slice none 0 0, .slice none 0 0, .int .i64 0, .int .i64 0] : List Value).getD i undef) [] w0 := by rw [hw0]; exact hp
  have hs0 : w0.heap.size = N + 1 := hp0.size
  have HP0 := hid hp0
  clear hp hp0 hw0
  refine calls_via fun K hK => ?_
  go_enter Tryz.func14, Tryz.ntmps14
  go_wp2_with (at_make; first
      | (refine wp_mkx rfl _ _ rfl 64 64 64 (N + 1) hs0 rfl rfl rfl rfl (by omega) ?_; intro w1 hs1 ha hf; have hp1 := HP0.out.made (n := 64) (by decide) hs1 ha hf; have ck : w1.cell? ⟨N, 0, none⟩ = some (.slice none 0 0) := hp1.cells 0 (by decide); have zk : ∀ i, w1.frozen? ⟨N, i, none⟩ = false := hp1.fz; have HP1 := hid hp1; clear hp1 ha hf)
      | (refine wp_mkx rfl _ _ rfl 16 16 16 (N + 2) (by rw [World.size_setCell]; exact hs1) rfl rfl rfl rfl (by omega) ?_; intro w2 hs2 ha hf; have hp2 := (HP1.out.set (i := 0) (by decide) (.slice (some ⟨N + 1, 0, none⟩) 64 64)).made (n := 16) (by decide) hs2 ha hf; have ck : w2.cell? ⟨N, 1, none⟩ = some (.slice none 0 0) := hp2.cells 1 (by decide); have zk : ∀ i, w2.frozen? ⟨N, i, none⟩ = false := hp2.fz; have HP2 := hid hp2; clear hp2 ha hf)
      | (refine wp_mkg rfl _ _ 69 168 3 24 _ rfl Tryz.underlying69 Tryz.info168 rfl 256 256 256 256 (N + 3) (by rw [World.size_setCell]; exact hs2) rfl rfl rfl rfl (Nat.le_refl _) (by omega) (by omega) ?_; intro w3 hs3 ha hf; have HP3 := hid (HP2.out.set (i := 1) (by decide) (.slice (some ⟨N + 2, 0, none⟩) 16 16)); have ck : w3.cell? ⟨N, 2, none⟩ = some (.slice none 0 0) := hf.cell (HP3.out.cells 2 (by decide)) (fun x => x); have zk : ∀ i, w3.frozen? ⟨N, i, none⟩ = false := fun i => (hf.froz (by rw [HP3.out.size]; omega) (fun x => x) i).trans (HP3.out.fz i); have HF3 := hid hf; have HA3 := hid ha; clear ha hf))
  have hp3 := HP3.out
  have hf3 := HF3.out
  have hb := hp3.base
  have hsz := hp3.size
  have c0 := hf3.cell (hp3.cells 0 (by decide)) (fun x => x)
  have c1 := hf3.cell (hp3.cells 1 (by decide)) (fun x => x)
  have c3 := hf3.cell (hp3.cells 3 (by decide)) (fun x => x)
  have c4 := hf3.cell (hp3.cells 4 (by decide)) (fun x => x)
  have a0 := (hp3.arr 0 (by decide)).fr hf3 (fun x => x)
  have a1 := (hp3.arr 1 (by decide)).fr hf3 (fun x => x)
  have hM : MtAt (w3.setCell ⟨N, 2, none⟩ (.slice (some ⟨N + 3, 0, none⟩) 256 256)) N { head := fun _ => 0, prev := fun _ => 0, toks := _, n := 0, probes := 0 } :=
    ⟨(cellNe (by omega)).trans c0, (cellNe (by omega)).trans c1, cellSet ck, (cellNe (by omega)).trans c3, (cellNe (by omega)).trans c4, a0.toI.other (by omega) _, a1.toI.other (by omega) _, HA3.out.other (by omega) _, (show Thaw w3 N from zk).set _ _⟩
  have HFF := hid ((hp3.fr.trans hf3).trans2 (S2 := One N) (Fr.set1 (Fr.refl _ _) 2 (.slice (some ⟨N + 3, 0, none⟩) 256 256)) (fun x hx h2 => by unfold One at hx; omega))
  have HW := hid (mtwipe_any hM)
  clear hM hp3 hf3 c0 c1 c3 c4 a0 a1
  refine HW.out.mono ?_
  rintro e w4 ⟨rfl, h4, hf4⟩
  have H4 := hid h4
  have HF4 := hid hf4
  clear h4 hf4
  go_wp2_with fail
  exact hK.out _ _ ⟨rfl, ⟨_, H4.out⟩, HFF.out.trans2 HF4.out (fun x hx h2 => by unfold One at hx; omega)⟩
end Go.Proofs.Qxb6500353aGreat
