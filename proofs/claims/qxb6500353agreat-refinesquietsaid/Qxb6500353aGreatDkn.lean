/- The law: the world at the walk's start. -/
import Derived.Test.Qxb6500353aGreatDkq
import Derived.Test.Qxb6500353aGreatTwn
namespace Go.Proofs.Qxb6500353aGreat
open Go.RowKit
set_option linter.unusedVariables false
set_option linter.unusedSimpArgs false

set_option maxRecDepth 100000 in
theorem newMa2_any (w : World) : Calls Tryz.prog 9 #[] w fun e w' => ∃ b, e = .returned (ptrV b) ∧ MaK w' w.heap.size w'.heap.size b ∧ Fr Nob w w' := by
  refine calls_via fun K hK => ?_
  go_enter Tryz.func9, Tryz.ntmps9
  go_wp2_with fail
  refine (newBlockm_any w).mono ?_
  rintro e w1 ⟨rfl, h1, f1⟩
  have H1 := hid h1
  have F1 := hid f1
  have hlt := h1.lt
  have HLT := hid hlt
  clear h1 f1 hlt
  unfold ptrV
  go_wp2_with fail
  have hsz := World.size_alloc w1 (Obj.cells #[.pointer (some ⟨w.heap.size, 0, none⟩)] 60)
  refine hK.out _ _ ⟨w1.heap.size, rfl, ⟨F1.out.size, ?_, w.heap.size, Nat.le_refl _, ?_, (World.cell?_alloc_new _ _ _ 0).trans rfl, H1.out.fr (S := Nob) ((Fr.refl _ _).alloc _) (fun x => x)⟩, F1.out.alloc _⟩
  · rw [World.size_alloc]; omega
  · rw [World.size_alloc]; have := HLT.out; omega
/-- An empty desk. -/
def DkR.zero : DkR := ⟨⟨#[]⟩, ⟨#[]⟩, ⟨#[]⟩, none, 0, [], none, none, [], none, none, [], fun _ => .slice none 0 0, fun _ => .slice none 0 0, 0, 0, .slice none 0 0, .slice none 0 0, 0, 0, false, .slice none 0 0, .slice none 0 0, false, .slice none 0 0⟩
theorem LawAt.start {w : World} {X Z mb b : Nat} {A : ArR} (ha : ArM w X Z A) (hm : MaK w (Z + 5) b mb) (hx : X + 61 ≤ Z) (hz : Z + 5 ≤ b) (hd : DkAt w b DkR.zero) : LawAt w X X Z mb b Nob DkR.zero 0 :=
  ⟨⟨⟨A, ha⟩, hm, Nat.le_refl _, hx, hz⟩, hd, OwnG.nil _ _ _ _, by simp [DkR.zero], .inl rfl, .inl rfl, fun g hg => absurd rfl (bl_some hg).1, by simp [DkR.zero], .inl rfl, .inl rfl, fun g hg => absurd rfl (bl_some hg).1, by simp [DkR.zero], ⟨fun _ _ => StE.nil _ _ _, fun _ _ => StI.nil _ _ _, StE.nil _ _ _, StI.nil _ _ _, StE.nil _ _ _, StI.nil _ _ _, StE.nil _ _ _⟩, fun _ _ q => q, fun g hg => (by cases hg), fun g hg => absurd rfl (bl_some hg).1, Nat.le_refl _, Nat.le_refl _, Nat.le_refl _, Nat.le_refl _, Nat.zero_le _, Nat.zero_le _, Nat.zero_le _⟩
end Go.Proofs.Qxb6500353aGreat
