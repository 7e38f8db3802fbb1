/- The law's world: NewWorld. -/
import Derived.Test.Qxb6500354aGreatWd2
namespace Go.Proofs.Qxb6500354aGreat
open Go.RowKit
set_option linter.unusedVariables false
set_option linter.unusedSimpArgs false

def w0Cells (q : Bool) : List Value := [.pointer none, .pointer none, .pointer none, .pointer none, .string ⟨#[]⟩, .string ⟨#[]⟩, .string ⟨#[]⟩, .string ⟨#[]⟩, .slice none 0 0, .bool q]
set_option maxRecDepth 100000 in
set_option maxHeartbeats 4000000 in
theorem newWorld_any (w : World) (q : Bool) : Calls Tryz.prog 8 #[.bool q] w fun e w' => ∃ B S, e = .returned (ptrV B.wb) ∧ WdAt w' B S q ∧ B.M = w.heap.size ∧ Fr [] w w' := by
  obtain ⟨N, hN⟩ : ∃ N, w.heap.size = N := ⟨_, rfl⟩
  have hC0 := CellsAt.mk_alloc w (w0Cells q) 39
  obtain ⟨w0, hw0⟩ : ∃ w0, w.alloc (Obj.cells #[.pointer none, .pointer none, .pointer none, .pointer none, .string ⟨#[]⟩, .string ⟨#[]⟩, .string ⟨#[]⟩, .string ⟨#[]⟩, .slice none 0 0, .bool q] 39) = w0 := ⟨_, rfl⟩
  change CellsAt (w.alloc (Obj.cells #[.pointer none, .pointer none, .pointer none, .pointer none, .string ⟨#[]⟩, .string ⟨#[]⟩, .string ⟨#[]⟩, .string ⟨#[]⟩, .slice none 0 0, .bool q] 39)) w.heap.size _ at hC0
  rw [hw0, hN] at hC0
  have hf0 : Fr [] w w0 := by rw [← hw0]; exact (Fr.refl _ _).alloc _
  have hs0 : w0.heap.size = N + 1 := by rw [← hw0]; simp [hN]
  rw [hN]
  have HS0 := hid hs0
  have HC0 := hid hC0
  have HF0 := hid hf0
  have HN := hid hN
  clear hC0 hf0 hs0
  refine calls_via fun K hK => ?_
  go_enter Tryz.func8, Tryz.ntmps8
  go_wp2_with fail
  clear hw0 hN
  refine (newTow_any w0).mono ?_
  rintro e w1 ⟨X, s, rfl, htw, hft, hf1⟩
  have hc1 := HC0.out.fr hf1 (by simp) (by simp [w0Cells])
  have HC1 := hid hc1
  have HTW := hid htw
  have HFT := hid hft
  have HF1 := hid hf1
  have k0 := hc1.c 0 _ rfl
  have kz := hc1.fz
  unfold ptrV
  clear hc1 htw hft hf1
  go_wp2_with fail
  clear k0 kz
  have hs1 : Fr [N] w1 (w1.setCell ⟨N, 0, none⟩ (.pointer (some ⟨X.tb, 0, none⟩))) := (Fr.refl _ _).setG _ _
  have hc1 := HC1.out.set 0 (by simp [w0Cells]) (.pointer (some ⟨X.tb, 0, none⟩))
  have htw := HTW.out.fr hs1 (fun x hx hm => by rw [List.mem_singleton] at hm; have := HFT.out x hx; have := HS0.out; omega)
  obtain ⟨wa, hwa⟩ : ∃ z, w1.setCell ⟨N, 0, none⟩ (.pointer (some ⟨X.tb, 0, none⟩)) = z := ⟨_, rfl⟩
  rw [hwa] at hs1 hc1 htw ⊢
  have HCA := hid hc1
  have HTA := hid htw
  have HFA : Hid (Fr [] w wa) := hid ((HF0.out.trans HF1.out).trans2 hs1 (fun x hx hlt => by rw [List.mem_singleton] at hx; have := HN.out; omega))
  have HSA : Hid (w1.heap.size ≤ wa.heap.size) := hid hs1.size
  clear hc1 htw hs1 hwa
  refine (newMS_any wa).mono ?_
  rintro e w2 ⟨m, rfl, hms, hmlt, hf2⟩
  have hc2 := HCA.out.fr hf2 (by simp) (by simp [w0Cells])
  have HC2 := hid hc2
  have HMS := hid hms
  have HMLT := hid hmlt
  have HF2 := hid hf2
  have k0 := hc2.c 1 _ rfl
  have kz := hc2.fz
  unfold ptrV
  clear hc2 hms hmlt hf2
  go_wp2_with fail
  clear k0 kz
  obtain ⟨mp, hmp⟩ : ∃ z, wa.heap.size = z := ⟨_, rfl⟩
  have hs1 : Fr [N] w2 (w2.setCell ⟨N, 1, none⟩ (.pointer (some ⟨m, 0, none⟩))) := (Fr.refl _ _).setG _ _
  have hc1 := HC2.out.set 1 (by simp [w0Cells]) (.pointer (some ⟨m, 0, none⟩))
  have hN2 : N < mp := by rw [← hmp]; exact Nat.lt_of_lt_of_le (lt_of_cellB (HC1.out.c 0 _ rfl)) HSA.out
  have HMPN := hid hN2
  have htw := (HTA.out.fr0 HF2.out).fr hs1 (fun x hx hm => by rw [List.mem_singleton] at hm; have := HFT.out x hx; have := HS0.out; omega)
  have hms := HMS.out.fr hs1 (by have := HMLT.out; simp; omega) (by simp; omega)
  rw [hmp] at hms
  obtain ⟨wb, hwb⟩ : ∃ z, w2.setCell ⟨N, 1, none⟩ (.pointer (some ⟨m, 0, none⟩)) = z := ⟨_, rfl⟩
  rw [hwb] at hs1 hc1 htw hms ⊢
  have HCB := hid hc1
  have HTB := hid htw
  have HMB := hid hms
  have HMM : Hid (mp < m) := hid (by have := HMLT.out; omega)
  have HMB2 : Hid (m < wb.heap.size) := hid (lt_of_cellB hms.c)
  have HTX : Hid (∀ x ∈ foot X s, N < x ∧ x < mp) := hid (fun x hx => ⟨by have := HFT.out x hx; have := HS0.out; omega, by have := HTA.out.lt x hx; omega⟩)
  have HFB : Hid (Fr [] w wb) := hid ((HFA.out.trans HF2.out).trans2 hs1 (fun x hx hlt => by rw [List.mem_singleton] at hx; have := HN.out; omega))
  clear hc1 htw hs1 hms hwb hmp hN2
  refine (newPM_any wb).mono ?_
  rintro e w3 ⟨rfl, hpm, hf3⟩
  obtain ⟨pp, hpp⟩ : ∃ z, wb.heap.size = z := ⟨_, rfl⟩
  rw [hpp] at hpm ⊢
  have HPP : Hid (m < pp) := hid (by rw [← hpp]; exact HMB2.out)
  have hc3 := HCB.out.fr hf3 (by simp) (by simp [w0Cells])
  have HC3 := hid hc3
  have HPM := hid hpm
  have HF3 := hid hf3
  have k0 := hc3.c 2 _ rfl
  have kz := hc3.fz
  unfold ptrV
  clear hc3 hpm hf3 hpp
  go_wp2_with fail
  clear k0 kz
  have hs1 : Fr [N] w3 (w3.setCell ⟨N, 2, none⟩ (.pointer (some ⟨pp, 0, none⟩))) := (Fr.refl _ _).setG _ _
  have hc1 := HC3.out.set 2 (by simp [w0Cells]) (.pointer (some ⟨pp, 0, none⟩))
  have htw := (HTB.out.fr0 HF3.out).fr hs1 (fun x hx hm => by rw [List.mem_singleton] at hm; have := HTX.out x hx; omega)
  have hms := (HMB.out.fr HF3.out (by simp) (by simp)).fr hs1 (by have := HMM.out; have := HMPN.out; simp; omega) (by have := HMPN.out; simp; omega)
  have hpm := HPM.out.fr hs1 (by have := HMM.out; have := HMPN.out; have := HPP.out; simp; omega)
  obtain ⟨wc, hwc⟩ : ∃ z, w3.setCell ⟨N, 2, none⟩ (.pointer (some ⟨pp, 0, none⟩)) = z := ⟨_, rfl⟩
  rw [hwc] at hs1 hc1 htw hms hpm ⊢
  have HCC := hid hc1
  have HTC := hid htw
  have HMC := hid hms
  have HPC := hid hpm
  have HFC : Hid (Fr [] w wc) := hid ((HFB.out.trans HF3.out).trans2 hs1 (fun x hx hlt => by rw [List.mem_singleton] at hx; have := HN.out; omega))
  clear hc1 htw hs1 hms hpm hwc
  refine (newKM_any wc HPC.out).mono ?_
  rintro e w4 ⟨rfl, hkm, hf4⟩
  obtain ⟨kb, hkb⟩ : ∃ z, wc.heap.size = z := ⟨_, rfl⟩
  rw [hkb] at hkm ⊢
  have HKB : Hid (pp < kb) := hid (by rw [← hkb]; exact HPC.out.lt)
  have hc4 := HCC.out.fr hf4 (by simp) (by simp [w0Cells])
  have HC4 := hid hc4
  have HKM := hid hkm
  have HF4 := hid hf4
  have k0 := hc4.c 3 _ rfl
  have kz := hc4.fz
  unfold ptrV
  clear hc4 hkm hf4 hkb
  go_wp2_with fail
  clear k0 kz
  have hs1 : Fr [N] w4 (w4.setCell ⟨N, 3, none⟩ (.pointer (some ⟨kb, 0, none⟩))) := (Fr.refl _ _).setG _ _
  have hc1 := HC4.out.set 3 (by simp [w0Cells]) (.pointer (some ⟨kb, 0, none⟩))
  have htw := (HTC.out.fr0 HF4.out).fr hs1 (fun x hx hm => by rw [List.mem_singleton] at hm; have := HTX.out x hx; omega)
  have o1 := HMM.out
  have o2 := HMPN.out
  have o3 := HPP.out
  have o4 := HKB.out
  have o5 := HTX.out
  have hms := (HMC.out.fr HF4.out (by simp) (by simp)).fr hs1 (by simp; omega) (by simp; omega)
  have hkm := HKM.out.fr hs1 (by simp; omega) (by simp; omega)
  refine hK.out _ _ ⟨⟨N, X, m, mp, pp, kb, N⟩, ⟨s, ⟨#[]⟩, ⟨#[]⟩, ⟨#[]⟩, ⟨#[]⟩, .slice none 0 0, []⟩, rfl, ⟨hc1, htw, hms, hkm, ?_, ?_, OwnM.nil _ _ _, by intro l hl; simp at hl, by simp, by simp [ByteArray.size], by simp [ByteArray.size], by simp [ByteArray.size], by simp [ByteArray.size], ?_, fun x hx => by have := o5 x hx; simp only []; omega⟩, rfl, (HFC.out.trans HF4.out).trans2 hs1 (fun x hx hlt => by rw [List.mem_singleton] at hx; have := HN.out; omega)⟩
  · simp [side]; omega
  · intro x hx hm
    have := o5 x hm
    simp [side] at hx
    omega
  · intro x hx
    simp [side] at hx
    simp only []
    omega
end Go.Proofs.Qxb6500354aGreat
