/- The law: Set, walked. -/
import Derived.Test.Qxb6500353aGreatDkp
namespace Go.Proofs.Qxb6500353aGreat
open Go.RowKit
set_option linter.unusedVariables false
set_option linter.unusedSimpArgs false

def setS (t : ByteArray) (i c : Nat) : ByteArray := t.extract 0 i ++ strN [c] ++ t.extract (i + 1) t.size
theorem setS_size {t : ByteArray} {i c : Nat} (hi : i < t.size) : (setS t i c).size = t.size := by
  unfold setS
  simp only [ByteArray.size_append, ByteArray.size_extract, strN_size, List.length_cons, List.length_nil]
  omega
set_option maxRecDepth 100000 in
set_option maxHeartbeats 4000000 in
theorem set_any {w : World} {t : ByteArray} {i c : Nat} (hi : i < t.size) (ht : t.size ≤ 1201) :
    Calls Tryz.prog 41 #[.string t, .int .i64 (i : Nat), .int .u8 (c : Nat)] w fun e w' => e = .returned (.string (setS t i c)) ∧ Fr Nob w w' := by
  have hii : (i : Int) < t.size := by omega
  have hti : (t.size : Int) ≤ 1201 := by omega
  have h1 : IntKind.i64.wrap ((i : Int) + 1) = (i : Int) + 1 := wrapI (by omega) (by omega)
  have h2 : ((i : Int) + 1).toNat = i + 1 := by omega
  have h3 : (i : Int) + 1 ≤ t.size := by omega
  have h4 : (0 : Int) ≤ (i : Int) + 1 := by omega
  have h5 : (i : Int) ≤ t.size := by omega
  obtain ⟨q, hq⟩ : ∃ z, z = strN [c] := ⟨_, rfl⟩
  have hq1 : (q.size : Int) = 1 := by rw [hq, strN_size]; rfl
  have hcv : (convert 57 9 (.slice (some ⟨w.heap.size, 0, none⟩) 1 1)).run Tryz.prog (w.alloc (Obj.cells #[.int .u8 (c : Nat)] 5)).drew = .ok (.string q) (w.alloc (Obj.cells #[.int .u8 (c : Nat)] 5)).drew := by rw [hq]; exact conv_newd w [c] [.int .u8 (c : Nat)] rfl
  have HQ := hid hq
  clear hi ht hq
  refine calls_via fun K hK => ?_
  go_enter Tryz.func41, Tryz.ntmps41
  go_wp2_with fail
  go_region
  go_wp2_with fail
  exact hK.out _ _ ⟨by unfold setS; rw [← HQ.out]; rfl, ((Fr.refl _ _).alloc _).drew⟩
end Go.Proofs.Qxb6500353aGreat
