/- THE WALK over check.Check. -/
import Derived.Test.Qxb6500354aGreatChk10
namespace Go.Proofs.Qxb6500354aGreat
open Go.RowKit
set_option linter.unusedVariables false
set_option linter.unusedSimpArgs false

theorem parseF_len2 (bs : List Nat) : (parseF bs).flat.length ≤ 27263002 := by
  by_cases h : 1048576 < bs.length
  · rw [parseF_fin, if_pos h]; simp
  · have := parseF_len bs; omega
theorem CkAt.p {w : World} {b q : Nat} {sl : Slots} (h : CkAt w b q sl) : w.cell? ⟨b, 0, none⟩ = some (.pointer (some ⟨q, 0, none⟩)) := by
  obtain ⟨R, hR, ho⟩ := h
  have := hR.p
  rw [ho.p] at this
  exact this
/-- In the midst of Check: C is the result's own object. -/
structure CSt (w0 w : World) (b q C : Nat) (av0 av : Value) (P : ParS) (sl : Slots) : Prop where
  ck : CkAt w b q sl
  par : ParAt w q P av
  cc : CellsAt w C [.int .i64 0, .int .i64 0, .int .i64 0]
  nx : Nx w0 av0 av
  fr : Fr (b :: q :: blk av0) w0 w
  sz : w0.heap.size = C
  bq : b ≠ q
  bC : b < C
  qC : q < C
  ab : av.ownBlock ≠ some b
  aC : av.ownBlock ≠ some C
theorem CSt.fr0 {w0 w w' : World} {b q C : Nat} {av0 av : Value} {P : ParS} {sl : Slots} (h : CSt w0 w b q C av0 av P sl) (hf : Fr [] w w') : CSt w0 w' b q C av0 av P sl :=
  ⟨h.ck.fr hf (by simp), h.par.fr hf (by simp) (by simp), h.cc.fr hf (by simp) (by simp), h.nx, h.fr.trans (hf.mono (by simp)), h.sz, h.bq, h.bC, h.qC, h.ab, h.aC⟩
theorem CSt.mod {w0 w w' : World} {b q C : Nat} {av0 av : Value} {P : ParS} {sl sl' : Slots} (h : CSt w0 w b q C av0 av P sl) (hf : Fr [b] w w') (hc : CkAt w' b q sl') : CSt w0 w' b q C av0 av P sl' :=
  ⟨hc, h.par.fr hf (by simp; exact fun e => h.bq e.symm) (fun g hg hm => by rw [List.mem_singleton] at hm; subst hm; exact h.ab hg), h.cc.fr hf (by simp; have := h.bC; omega) (by simp), h.nx,
    h.fr.trans (hf.mono (fun x hx _ => by rw [List.mem_singleton] at hx; subst hx; exact List.mem_cons_self)), h.sz, h.bq, h.bC, h.qC, h.ab, h.aC⟩
theorem CSt.parse {w0 w w' : World} {b q C : Nat} {av0 av v : Value} {P : ParS} {sl : Slots} {r : ParsedS} (h : CSt w0 w b q C av0 av P sl) (hq : ParQ w w' q av r v) :
    ∃ P' av', CSt w0 w' b q C av0 av' P' sl ∧ OwnI w' 0 v r.flat ∧ (∀ g, v.ownBlock = some g → g ≠ b ∧ g ≠ q ∧ g ≠ C ∧ av'.ownBlock ≠ some g) := by
  obtain ⟨P', av', h1, h2, h3⟩ := hq.par
  have hCw : C < w.heap.size := lt_of_cellB (h.cc.c 0 _ rfl)
  have hnb : b ∉ q :: blk av := fun hm => by rcases List.mem_cons.1 hm with e | e; exact h.bq e; exact h.ab (mem_blk.1 e)
  have hnC : C ∉ q :: blk av := fun hm => by rcases List.mem_cons.1 hm with e | e; (have := h.qC; omega); exact h.aC (mem_blk.1 e)
  refine ⟨P', av', ⟨h.ck.fr hq.fr hnb, h1, h.cc.fr hq.fr hnC (by simp), h.nx.trans h2 h.fr.size, ?_, h.sz, h.bq, h.bC, h.qC, ?_, ?_⟩, hq.own.mono (Nat.zero_le _), ?_⟩
  · refine h.fr.trans2 hq.fr (fun x hx hlt => ?_)
    rcases List.mem_cons.1 hx with e | e
    · subst e; exact List.mem_cons_of_mem _ List.mem_cons_self
    · rcases h.nx x (mem_blk.1 e) with q1 | q1
      · exact List.mem_cons_of_mem _ (List.mem_cons_of_mem _ (mem_blk.2 q1))
      · omega
  · intro e
    rcases h2 b e with q1 | q1
    · exact h.ab q1
    · have := h.bC; omega
  · intro e
    rcases h2 C e with q1 | q1
    · exact h.aC q1
    · omega
  · intro g hg
    have := hq.own.base g hg
    have := h.bC
    have := h.qC
    exact ⟨by omega, by omega, by omega, h3 g hg⟩
theorem CSt.out {w0 w w' : World} {b q C : Nat} {av0 av : Value} {P : ParS} {sl : Slots} (h : CSt w0 w b q C av0 av P sl) (hf : Fr [C] w w') : ChkOut w0 w' b q av0 := by
  refine ⟨⟨sl, h.ck.fr hf (by simp; have := h.bC; omega)⟩, ⟨P, av, h.par.fr hf (by simp; have := h.qC; omega) (fun g hg hm => by rw [List.mem_singleton] at hm; subst hm; exact h.aC hg), h.nx⟩, ?_⟩
  exact h.fr.trans2 hf (fun x hx hlt => by rw [List.mem_singleton] at hx; have := h.sz; omega)
end Go.Proofs.Qxb6500354aGreat
