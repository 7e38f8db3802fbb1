/- The model's encoder: New, walked. -/
import Derived.Test.Qxb6500353aGreatMkp
namespace Go.Proofs.Qxb6500353aGreat
open Go.RowKit
set_option linter.unusedVariables false
set_option linter.unusedSimpArgs false

set_option maxRecDepth 100000 in
/-- blockm.New. -/
theorem newBlockm_any (w : World) : Calls Tryz.prog 18 #[] w fun e w' => e = .returned (ptrV w.heap.size) ∧ PkM w' w.heap.size ∧ Fr Nob w w' := by
  obtain ⟨N, hN⟩ : ∃ N, w.heap.size = N := ⟨_, rfl⟩
  rw [hN]
  have hp := Part.start w N hN [.pointer none, .pointer none] 79
  obtain ⟨w0, hw0⟩ : ∃ w0, w0 = w.alloc (Obj.cells #[.pointer none, .pointer none] 79) := ⟨_, rfl⟩
  have hw0' := hw0.symm
  have hp0 : Part w N 2 (fun i => ([.pointer none, .pointer none] : List Value).getD i undef) [] w0 := by rw [hw0]; exact hp
  have d0 : w0.cell? ⟨N, 0, none⟩ = some (.pointer none) := hp0.cells 0 (by decide)
  have d1 : w0.cell? ⟨N, 1, none⟩ = some (.pointer none) := hp0.cells 1 (by decide)
  have zk : ∀ i, w0.frozen? ⟨N, i, none⟩ = false := hp0.fz
  have hlt : N < w0.heap.size := by rw [hp0.size]; simp
  have HP0 := hid hp0
  have HLT := hid hlt
  have HNN := hid hN
  clear hp hp0 hw0 hlt
  refine calls_via fun K hK => ?_
  go_enter Tryz.func18, Tryz.ntmps18
  go_wp2_with fail
  refine (newLzm_any w0).mono ?_
  rintro e w1 ⟨rfl, hf1, hs1⟩
  have e0 := hf1.cell d0 (fun x => x)
  have e1 := hf1.cell d1 (fun x => x)
  have z1 : ∀ i, w1.frozen? ⟨N, i, none⟩ = false := fun i => (hf1.froz HLT.out (fun x => x) i).trans (zk i)
  obtain ⟨zl, hzl⟩ : ∃ z, z = w0.heap.size := ⟨_, rfl⟩
  unfold ptrV
  rw [← hzl]
  have HF1 := hid (HP0.out.fr.trans hf1)
  have HL1 := hid (Nat.lt_of_lt_of_le HLT.out hf1.size)
  clear hf1 hs1 hzl d0 d1 zk
  go_wp2_with fail
  obtain ⟨w2, hw2⟩ : ∃ w2, w2 = w1.setCell ⟨N, 0, none⟩ (.pointer (some ⟨zl, 0, none⟩)) := ⟨_, rfl⟩
  rw [← hw2]
  have hf2 : Fr Nob w w2 := by rw [hw2]; exact HF1.out.trans2 (Fr.set1 (Fr.refl (One N) _) _ _) fun x hx hl => by unfold One at hx; have := HNN.out; omega
  have g0 : w2.cell? ⟨N, 0, none⟩ = some (.pointer (some ⟨zl, 0, none⟩)) := by rw [hw2]; exact cellSet e0
  have g1 : w2.cell? ⟨N, 1, none⟩ = some (.pointer none) := by rw [hw2]; exact (cellNe (by omega)).trans e1
  have z2 : ∀ i, w2.frozen? ⟨N, i, none⟩ = false := fun i => by rw [hw2, World.frozen?_setCell]; exact z1 i
  have HL2 : Hid (N < w2.heap.size) := hid (by rw [hw2, World.size_setCell]; exact HL1.out)
  have HF2 := hid hf2
  clear hw2 hf2 e0 e1 z1
  refine (newHm_any w2).mono ?_
  rintro e w3 ⟨rfl, -, -, -, hs3, hf3⟩
  have e0 := hf3.cell g0 (fun x => x)
  have e1 := hf3.cell g1 (fun x => x)
  have z3 : ∀ i, w3.frozen? ⟨N, i, none⟩ = false := fun i => (hf3.froz HL2.out (fun x => x) i).trans (z2 i)
  obtain ⟨zh, hzh⟩ : ∃ z, z = w2.heap.size := ⟨_, rfl⟩
  unfold ptrV
  rw [← hzh]
  have HF3 := hid (HF2.out.trans hf3)
  have E0 := hid e0
  clear hf3 hs3 hzh g0 g1 z2
  go_wp2_with fail
  refine hK.out _ _ ⟨rfl, ⟨⟨zl, (cellNe (by omega)).trans E0.out⟩, ⟨zh, cellSet e1⟩⟩, ?_⟩
  exact HF3.out.trans2 (Fr.set1 (Fr.refl (One N) _) _ _) fun x hx hl => by unfold One at hx; have := HNN.out; omega
end Go.Proofs.Qxb6500353aGreat
