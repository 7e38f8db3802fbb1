/- The law's world: how it comes through a step. -/
import Derived.Test.Qxb6500354aGreatAns
namespace Go.Proofs.Qxb6500354aGreat
open Go.RowKit
set_option linter.unusedVariables false
set_option linter.unusedSimpArgs false

theorem OwnM.renew {w : World} {base : Nat} {v : Value} {cs : List (List Int)} {D D2 : List Nat} (h : OwnM w base v cs D) (hs : ∀ x, x ∈ D2 → x ∈ D ∨ w.heap.size ≤ x) : OwnM w base v cs D2 := by
  have hlt := h.lt
  obtain ⟨us, a, b, c⟩ := h
  refine ⟨us, a, b, fun g hg hm => ?_, fun i hi g hg hm => ?_⟩
  · rcases hs g hm with e | e
    · exact c.1 g hg e
    · have := hlt g hg; omega
  · rcases hs g hm with e | e
    · exact c.2 i hi g hg e
    · have := (b.ap i (by rw [← b.len]; exact hi) g hg).2; omega
theorem mem_side {B : WdB} {x : Nat} : x ∈ side B ↔ x = B.wb ∨ x = B.m ∨ x = B.mp ∨ x = B.pp ∨ x = B.kb := by simp [side]
theorem WdAt.side_lt {w : World} {B : WdB} {S : WdS} {q : Bool} (h : WdAt w B S q) : ∀ x ∈ side B, x < w.heap.size := by
  intro x hx
  rcases mem_side.1 hx with e | e | e | e | e
  · rw [e]; exact lt_of_cellB (h.cc.c 0 _ rfl)
  · rw [e]; exact lt_of_cellB h.ms.c
  · rw [e]; exact h.ms.pm.lt
  · rw [e]; exact h.km.2.lt
  · rw [e]; exact lt_of_cellB h.km.1
theorem WdAt.Mle {w : World} {B : WdB} {S : WdS} {q : Bool} (h : WdAt w B S q) : B.M ≤ w.heap.size :=
  Nat.le_trans (h.lo B.wb (by simp [side])) (Nat.le_of_lt (h.side_lt B.wb (by simp [side])))
/-- The frame as the caller of the law sees it. -/
theorem Fr.belowM {D : List Nat} {w w2 : World} {M : Nat} (hf : Fr D w w2) (hM : M ≤ w.heap.size) (hD : ∀ x ∈ D, M ≤ x) : Below M w w2 :=
  ⟨hf.os, hf.tape, hf.output, hf.size, fun k hk => hf.block k (by omega) (fun hm => by have := hD k hm; omega)⟩
structure SideNe (B : WdB) : Prop where
  wm : B.wb ≠ B.m
  wmp : B.wb ≠ B.mp
  wpp : B.wb ≠ B.pp
  wk : B.wb ≠ B.kb
  mmp : B.m ≠ B.mp
  mpp : B.m ≠ B.pp
  mkb : B.m ≠ B.kb
  mppp : B.mp ≠ B.pp
  mpk : B.mp ≠ B.kb
  ppk : B.pp ≠ B.kb
theorem WdAt.ne {w : World} {B : WdB} {S : WdS} {q : Bool} (h : WdAt w B S q) : SideNe B := by
  have := h.nd
  simp [side] at this
  obtain ⟨⟨a, b, c, d⟩, ⟨e, f, g⟩, ⟨i, j⟩, k⟩ := this
  exact ⟨a, b, c, d, e, f, g, i, j, k⟩
/-- Behind Solve on X: the tower's state is new, the rest of the world is as it was. -/
theorem WdAt.solved {w w1 : World} {B : WdB} {S : WdS} {q : Bool} (h : WdAt w B S q) {s' : TwS} (ht : TwAt w1 B.X s') (hf : Fr (foot B.X S.s) w w1) (hn : NxF w B.X S.s s') : WdAt w1 B { S with s := s' } q := by
  have hd := h.dj
  have hn1 : ∀ x ∈ side B, x ∉ foot B.X s' := by
    intro x hx hm
    rcases hn x hm with e | e
    · exact hd x hx e
    · have := h.side_lt x hx; omega
  refine ⟨h.cc.fr hf (hd _ (by simp [side])) (by simp [wdCells]), ht, h.ms.fr hf (hd _ (by simp [side])) (hd _ (by simp [side])), h.km.fr hf (hd _ (by simp [side])) (hd _ (by simp [side])), h.nd, hn1, ?_, h.st, h.ln, h.z1, h.z2, h.z3, h.z4, h.lo, fun x hx => (hn x hx).elim (fun e => h.lf x e) (fun e => Nat.le_trans h.Mle e)⟩
  refine ((h.mn.renew (D2 := side B ++ foot B.X S.s ++ foot B.X s') ?_).fr hf ?_).mono ?_
  · intro x hx
    rcases List.mem_append.1 hx with e | e
    · exact .inl e
    · rcases hn x e with z | z
      · exact .inl (List.mem_append_right _ z)
      · exact .inr z
  · intro x hx; exact .inl (by simp [hx])
  · intro x hx
    rcases List.mem_append.1 hx with e | e
    · simp [e]
    · simp [e]
/-- A frame of the world's own parts and of new blocks. -/
theorem WdAt.step {w w2 : World} {B : WdB} {S S2 : WdS} {q : Bool} (h : WdAt w B S q) {D : List Nat} (hf : Fr D w w2) (hD : ∀ x ∈ D, x < w.heap.size → x = B.wb ∨ x = B.mp ∨ x = B.pp)
    (hc : CellsAt w2 B.wb (wdCells B S2 q)) (hm : PMAt w2 B.mp) (hp : PMAt w2 B.pp) (hs : S2.s = S.s) (h8 : S2.mine = S.mine) (h9 : S2.ml = S.ml) (z1 : S2.tx.size ≤ 1048577) (z2 : S2.pr.size ≤ 1048577) (z3 : S2.lt.size ≤ 1048577) (z4 : S2.lp.size ≤ maxLen) : WdAt w2 B S2 q := by
  have hne := h.ne
  have hsl := h.side_lt
  have hft : ∀ x ∈ foot B.X S.s, x ∉ D := fun x hx hm => by
    have hlt := h.tw.lt x hx
    rcases hD x hm hlt with e | e | e
    · rw [e] at hx; exact h.dj _ (by simp [side]) hx
    · rw [e] at hx; exact h.dj _ (by simp [side]) hx
    · rw [e] at hx; exact h.dj _ (by simp [side]) hx
  have hmD : B.m ∉ D := fun hm => by
    rcases hD _ hm (hsl _ (by simp [side])) with e | e | e
    · exact hne.wm e.symm
    · exact hne.mmp e
    · exact hne.mpp e
  have hkD : B.kb ∉ D := fun hm => by
    rcases hD _ hm (hsl _ (by simp [side])) with e | e | e
    · exact hne.wk e.symm
    · exact hne.mpk e.symm
    · exact hne.ppk e.symm
  refine ⟨hc, by rw [hs]; exact h.tw.fr hf hft, ⟨hf.cell h.ms.c hmD, hm⟩, ⟨hf.cell h.km.1 hkD, hp⟩, h.nd, by rw [hs]; exact h.dj, ?_, by rw [h9]; exact h.st, by rw [h9]; exact h.ln, z1, z2, z3, z4, h.lo, by rw [hs]; exact h.lf⟩
  rw [hs, h8, h9]
  refine h.mn.fr hf (fun x hx => ?_)
  by_cases hlt : x < w.heap.size
  · refine .inl (List.mem_append_left _ ?_)
    rcases hD x hx hlt with e | e | e <;> simp [side, e]
  · exact .inr (by omega)
/-- Behind Check on X. -/
theorem WdAt.checked {w w' : World} {B : WdB} {S : WdS} {q : Bool} (h : WdAt w B S q) {s' : TwS} (hq : SameQ w w' B.X S.s s' B.pp) : WdAt w' B { S with s := s' } q := by
  have hne := h.ne
  have hd := h.dj
  have hn := hq.nx
  have hn1 : ∀ x ∈ side B, x ∉ foot B.X s' := by
    intro x hx hm
    rcases hn x hm with e | e
    · exact hd x hx e
    · have := h.side_lt x hx; omega
  have hD : ∀ x ∈ side B, x ≠ B.pp → x ∉ B.pp :: foot B.X S.s := by
    intro x hx h1 hm
    rcases List.mem_cons.1 hm with e | e
    · exact h1 e
    · exact hd x hx e
  refine ⟨h.cc.fr hq.fr (hD _ (by simp [side]) hne.wpp) (by simp [wdCells]), hq.tw, h.ms.fr hq.fr (hD _ (by simp [side]) hne.mpp) (hD _ (by simp [side]) hne.mppp), ⟨hq.fr.cell h.km.1 (hD _ (by simp [side]) hne.ppk.symm), hq.pm⟩, h.nd, hn1, ?_, h.st, h.ln, h.z1, h.z2, h.z3, h.z4, h.lo, fun x hx => (hn x hx).elim (fun e => h.lf x e) (fun e => Nat.le_trans h.Mle e)⟩
  refine ((h.mn.renew (D2 := side B ++ foot B.X S.s ++ foot B.X s') ?_).fr hq.fr ?_).mono ?_
  · intro x hx
    rcases List.mem_append.1 hx with e | e
    · exact .inl e
    · rcases hn x e with z | z
      · exact .inl (List.mem_append_right _ z)
      · exact .inr z
  · intro x hx
    rcases List.mem_cons.1 hx with e | e
    · exact .inl (by simp [side, e])
    · exact .inl (by simp [e])
  · intro x hx
    rcases List.mem_append.1 hx with e | e
    · simp [e]
    · simp [e]
end Go.Proofs.Qxb6500354aGreat
