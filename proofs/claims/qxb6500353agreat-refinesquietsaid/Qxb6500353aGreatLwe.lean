/- The law: what Keeps finds. -/
import Derived.Test.Qxb6500353aGreatArj
import Derived.Test.Qxb6500353aGreatArd
namespace Go.Proofs.Qxb6500353aGreat
open Go.RowKit
set_option linter.unusedVariables false
set_option linter.unusedSimpArgs false

theorem unpK_rows (raw : List Nat) (rs : List RowP) : (unpK raw rs).1 = 0 → (unpK raw rs).2.2 = rs.map fun r => (⟨nameOf raw r, (runE (textOf raw r)).2⟩ : Ent) := by
  induction rs with
  | nil => intro _; rfl
  | cons r rs ih =>
    intro h
    rw [unpK_cons] at h ⊢
    by_cases h1 : unpE raw r ≠ 0
    · rw [if_pos h1] at h; exact absurd h h1
    · rw [if_neg h1] at h ⊢
      by_cases h2 : (unpK raw rs).1 ≠ 0
      · rw [if_pos h2] at h; exact absurd h h2
      · rw [if_neg h2]
        have h3 : (unpK raw rs).1 = 0 := Classical.byContradiction h2
        rw [List.map_cons, ← ih h3]
theorem toE_inj {a b : EB} (h : toE a = toE b) : a = b := by
  obtain ⟨x, y⟩ := a
  obtain ⟨x2, y2⟩ := b
  unfold toE at h
  simp only [Ent.mk.injEq] at h
  rw [bytesOf_inj h.1, bytesOf_inj h.2]
theorem toI_inj {a b : IB} (h : toI a = toI b) : a = b := by
  obtain ⟨x, y, z⟩ := a
  obtain ⟨x2, y2, z2⟩ := b
  unfold toI at h
  simp only [Inf.mk.injEq] at h
  rw [bytesOf_inj h.1, h.2.1, h.2.2]
theorem map_inj2 {α β γ : Type} {f : α → γ} {g : β → γ} {k : β → α} (hk : ∀ b, f (k b) = g b) (hf : ∀ a b, f a = f b → a = b) {l : List α} {m : List β} (h : l.map f = m.map g) : l = m.map k := by
  have h2 : m.map g = (m.map k).map f := by rw [List.map_map]; exact List.map_congr_left fun b _ => (hk b).symm
  rw [h2] at h
  exact (List.map_inj_right (fun x y e => hf x y e)).1 h
/-- What List tells of an archive that Pack made. -/
theorem lstB_pack {lv : Nat} {es : List EB} (hok : ∀ e ∈ es.map toE, EntOK e) (h4 : es.length ≤ 4) {s : ByteArray} (hs : bytesOf s = packA lv (es.map toE)) :
    lstB s = es.map (fun e => (e.1, e.2.size, (packF (bytesOf e.2) lv).length)) ∧ (lstA (bytesOf s)).1 = 0 ∧ (lstA (bytesOf s)).2.1 = 0 := by
  have h := lst_pack (lv := lv) hok (by rw [List.length_map]; exact h4)
  rw [← hs] at h
  refine ⟨?_, by rw [h], by rw [h]⟩
  refine map_inj2 (f := toI) (g := fun e => ⟨bytesOf e.1, (bytesOf e.2).length, (packF (bytesOf e.2) lv).length⟩) (fun e => ?_) (fun a b => toI_inj) ?_
  · unfold toI; rw [bytesOf_len]
  · rw [lstB_law, h, List.map_map]; rfl
/-- What Unpack answers on an archive that Pack made. -/
theorem unpB_pack {lv : Nat} {es : List EB} (hok : ∀ e ∈ es.map toE, EntOK e) (h4 : es.length ≤ 4) {s : ByteArray} (hs : bytesOf s = packA lv (es.map toE)) :
    unpB s = es ∧ (unpA (bytesOf s)).1 = 0 ∧ (unpA (bytesOf s)).2.1 = 0 := by
  have h := unp_pack (lv := lv) hok (by rw [List.length_map]; exact h4)
  rw [← hs] at h
  refine ⟨?_, by rw [h], by rw [h]⟩
  have hr : (readA (bytesOf s)).1 = 0 := by
    have h1 : (unpA (bytesOf s)).1 = 0 := by rw [h]
    unfold unpA at h1
    by_cases c : (readA (bytesOf s)).1 ≠ 0
    · rw [if_pos c] at h1; exact h1
    · exact Classical.byContradiction c
  have hk : unpK (bytesOf s) (readA (bytesOf s)).2.2 = (0, 0, es.map toE) := by
    have h1 := h
    unfold unpA at h1
    rw [if_neg (fun q => q hr)] at h1; exact h1
  have hrow := unpK_rows (bytesOf s) (readA (bytesOf s)).2.2 (by rw [hk])
  rw [hk] at hrow
  dsimp only at hrow
  unfold unpB
  rw [if_neg (by rw [h]; simp)]
  have hby : ∀ r ∈ (readA (bytesOf s)).2.2, ∀ b ∈ (runE (textOf (bytesOf s) r)).2, b < 256 := by
    intro r hr2 b hb
    have hm : (⟨nameOf (bytesOf s) r, (runE (textOf (bytesOf s) r)).2⟩ : Ent) ∈ es.map toE := by
      rw [hrow]; exact List.mem_map.2 ⟨r, hr2, rfl⟩
    exact (hok _ hm).byte b hb
  have h2 : ((readA (bytesOf s)).2.2.map (entB s)).map toE = es.map toE := by
    rw [hrow, List.map_map]
    refine List.map_congr_left fun r hr2 => ?_
    show toE (entB s r) = _
    unfold toE entB
    dsimp only
    rw [bytesOf_strN (hby r hr2), bytesOf_sub]; rfl
  exact (List.map_inj_right (fun x y e => toE_inj e)).1 h2
end Go.Proofs.Qxb6500353aGreat
