/- The encoder's constructor. -/
import Derived.Test.Qxb6500353aGreatNwz
namespace Go.Proofs.Qxb6500353aGreat
open Go.RowKit
set_option linter.unusedVariables false
set_option linter.unusedSimpArgs false

set_option maxRecDepth 100000 in
set_option maxHeartbeats 4000000 in
/-- block.New. -/
theorem newBlock_any (w : World) (t a b z : Nat) : Calls Tryz.prog 15 #[.pointer (some ⟨t + 1, 0, none⟩), .pointer (some ⟨a, 0, none⟩), .pointer (some ⟨b, 0, none⟩), .pointer (some ⟨z, 0, none⟩)] w fun e w' => e = .returned (ptrV w.heap.size) ∧
    PkAt w' w.heap.size { t := tapP t, a := ptrV a, b := ptrV b, z := ptrV z, count := fun _ => 0, plan := fun _ => 0, code := fun _ => 0, wide := fun _ => 0 } ∧ Fr Nob w w' ∧ w'.heap.size = w.heap.size + 5 := by
  obtain ⟨N, hN⟩ : ∃ N, w.heap.size = N := ⟨_, rfl⟩
  rw [hN]
  have hp := Part.start w N hN [.pointer none, .pointer none, .pointer none, .pointer none, .slice none 0 0, .slice none 0 0, .slice none 0 0, .slice none 0 0] 73
  obtain ⟨w0, hw0⟩ : ∃ w0, w0 = w.alloc (Obj.cells #[.pointer none, .pointer none, .pointer none, .pointer none, .slice none 0 0, .slice none 0 0, .slice none 0 0, .slice none 0 0] 73) := ⟨_, rfl⟩
  have hw0' := hw0.symm
  have hp0 : Part w N 8 (fun i => ([.pointer none, .pointer none, .pointer none, .pointer none, .slice none 0 0, .slice none 0 0, .slice none 0 0, .slice none 0 0] : List Value).getD i undef) [] w0 := by rw [hw0]; exact hp
  have hs0 : w0.heap.size = N + 1 := hp0.size
  have d0 : w0.cell? ⟨N, 0, none⟩ = some (.pointer none) := hp0.cells 0 (by decide)
  have d1 : w0.cell? ⟨N, 1, none⟩ = some (.pointer none) := hp0.cells 1 (by decide)
  have d2 : w0.cell? ⟨N, 2, none⟩ = some (.pointer none) := hp0.cells 2 (by decide)
  have d3 : w0.cell? ⟨N, 3, none⟩ = some (.pointer none) := hp0.cells 3 (by decide)
  have zk : ∀ i, w0.frozen? ⟨N, i, none⟩ = false := hp0.fz
  have HP0 := hid ((((hp0.set (i := 0) (by decide) (tapP t)).set (i := 1) (by decide) (ptrV a)).set (i := 2) (by decide) (ptrV b)).set (i := 3) (by decide) (ptrV z))
  clear hp hp0 hw0
  refine calls_via fun K hK => ?_
  go_enter Tryz.func15, Tryz.ntmps15
  go_wp2_with (at_make; first
    | (refine wp_mkx rfl _ _ rfl 273 273 273 (N + 1) (by simp only [World.size_setCell]; exact hs0) rfl rfl rfl rfl (by omega) ?_; intro w1 hs1 ha hf; have hp1 := HP0.out.made (n := 273) (by decide) hs1 ha hf; have ck : w1.cell? ⟨N, 4, none⟩ = some (.slice none 0 0) := hp1.cells 4 (by decide); have zk : ∀ i, w1.frozen? ⟨N, i, none⟩ = false := hp1.fz; have HP1 := hid hp1; clear hp1 ha hf)
    | (refine wp_mkx rfl _ _ rfl 273 273 273 (N + 2) (by rw [World.size_setCell]; exact hs1) rfl rfl rfl rfl (by omega) ?_; intro w2 hs2 ha hf; have hp2 := (HP1.out.set (i := 4) (by decide) (.slice (some ⟨N + 1, 0, none⟩) 273 273)).made (n := 273) (by decide) hs2 ha hf; have ck : w2.cell? ⟨N, 5, none⟩ = some (.slice none 0 0) := hp2.cells 5 (by decide); have zk : ∀ i, w2.frozen? ⟨N, i, none⟩ = false := hp2.fz; have HP2 := hid hp2; clear hp2 ha hf)
    | (refine wp_mkx rfl _ _ rfl 273 273 273 (N + 3) (by rw [World.size_setCell]; exact hs2) rfl rfl rfl rfl (by omega) ?_; intro w3 hs3 ha hf; have hp3 := (HP2.out.set (i := 5) (by decide) (.slice (some ⟨N + 2, 0, none⟩) 273 273)).made (n := 273) (by decide) hs3 ha hf; have ck : w3.cell? ⟨N, 6, none⟩ = some (.slice none 0 0) := hp3.cells 6 (by decide); have zk : ∀ i, w3.frozen? ⟨N, i, none⟩ = false := hp3.fz; have HP3 := hid hp3; clear hp3 ha hf)
    | (refine wp_mkx rfl _ _ rfl 273 273 273 (N + 4) (by rw [World.size_setCell]; exact hs3) rfl rfl rfl rfl (by omega) ?_; intro w4 hs4 ha hf; have hp4 := (HP3.out.set (i := 6) (by decide) (.slice (some ⟨N + 3, 0, none⟩) 273 273)).made (n := 273) (by decide) hs4 ha hf; have ck : w4.cell? ⟨N, 7, none⟩ = some (.slice none 0 0) := hp4.cells 7 (by decide); have zk : ∀ i, w4.frozen? ⟨N, i, none⟩ = false := hp4.fz; have HP4 := hid hp4; clear hp4 ha hf))
  have hq := HP4.out.set (i := 7) (by decide) (.slice (some ⟨N + 4, 0, none⟩) 273 273)
  refine hK.out _ _ ⟨rfl, ⟨hq.cells 0 (by decide), hq.cells 1 (by decide), hq.cells 2 (by decide), hq.cells 3 (by decide), hq.cells 4 (by decide), hq.cells 5 (by decide), hq.cells 6 (by decide), hq.cells 7 (by decide), hq.arr 0 (by decide), hq.arr 1 (by decide), hq.arr 2 (by decide), hq.arr 3 (by decide), hq.fz⟩, hq.fr, hq.size⟩
end Go.Proofs.Qxb6500353aGreat
