/- THE WALKS over search: note, bump, pick. -/
import Derived.Test.Qxb6500354aGreatSl2
namespace Go.Proofs.Qxb6500354aGreat
open Go.RowKit
set_option linter.unusedVariables false
set_option linter.unusedSimpArgs false

theorem SlvAt.set_log {w : World} {E : Eb} {S : SolverS} {lo lo' : Value} (h : SolverAt w E.s (SlvR E S lo)) (l : List Int) : SolverAt (w.setCell ⟨E.s, 4, none⟩ lo') E.s (SlvR E { S with log := l } lo') := h.set_log lo'
theorem slv_app {w w1 : World} {E : Eb} {S : SolverS} {lo lo' : Value} {l : List Int} (h : SlvAt w E S lo) (hE : ∀ g ∈ E.all, g < w.heap.size) (hl : OwnI w1 0 lo' l)
    (hg : w.grownBy w1 lo.ownBlock) (hn : Nx w lo lo') : SlvAt (w1.setCell ⟨E.s, 4, none⟩ lo') E { S with log := l } lo' ∧ Fr (E.s :: blk lo) w (w1.setCell ⟨E.s, 4, none⟩ lo') := by
  have hse : E.s ∈ E.all := by simp [Eb.all]
  have hf : Fr (blk lo) w w1 := (Fr.refl _ _).grown hg (fun k hk _ => mem_blk.2 hk)
  have hd := hn.dj h.dj hE
  have hsl : E.s ∉ blk lo := fun hm => h.dj _ (mem_blk.1 hm) hse
  refine ⟨⟨(h.at_.fr hf hsl).set_log lo', ?_, h.ok, hd⟩, ?_⟩
  · refine hl.fr (S := [E.s]) ((Fr.refl _ _).set (by simp) _) (fun g hg hm => ?_)
    rw [List.mem_singleton] at hm
    exact hd g hg (by rw [hm]; exact hse)
  · exact (hf.mono (S2 := E.s :: blk lo) (fun x hx _ => List.mem_cons_of_mem _ hx)).set (fun _ => List.mem_cons_self) _

theorem ints_oneN {w : World} {N : Nat} (h : w.heap.size = N) (x : Int) (t : TypeId) : Ints (w.alloc (.cells #[.int .i64 x] t)) (.slice (some ⟨N, 0, none⟩) 1 1) [x] := by subst h; exact ints_one w x t
theorem OwnI.sl {w : World} {base : Nat} {v : Value} {l : List Int} (h : OwnI w base v l) : ∃ a n c, v = .slice a n c := by
  rcases h.shape with ⟨rfl, _⟩ | ⟨g, cap, rfl, _⟩
  · exact ⟨_, _, _, rfl⟩
  · exact ⟨_, _, _, rfl⟩
/-- One append onto the log, all that the walk wants behind it. -/
theorem slv_step {w w1 : World} {E : Eb} {S : SolverS} {lo lo' : Value} {l : List Int} (h : SlvAt w E S lo) (hE : ∀ g ∈ E.all, g < w.heap.size) (hl : OwnI w1 0 lo' l)
    (hg : w.grownBy w1 lo.ownBlock) (hat : lo'.ownBlock = lo.ownBlock ∨ lo'.ownBlock = some w.heap.size) :
    (∃ a n c, lo' = .slice a n c) ∧ w1.cell? ⟨E.s, 4, none⟩ = some lo ∧ (∀ i, w1.frozen? ⟨E.s, i, none⟩ = false) ∧
    SlvAt (w1.setCell ⟨E.s, 4, none⟩ lo') E { S with log := l } lo' ∧ Fr (E.s :: blk lo) w (w1.setCell ⟨E.s, 4, none⟩ lo') ∧ Nx w lo lo' := by
  have hn := Nx.of_at hat
  have hse : E.s ∈ E.all := by simp [Eb.all]
  have hf : Fr (blk lo) w w1 := (Fr.refl _ _).grown hg (fun k hk _ => mem_blk.2 hk)
  have hsl : E.s ∉ blk lo := fun hm => h.dj _ (mem_blk.1 hm) hse
  have h1 := h.at_.fr hf hsl
  exact ⟨hl.sl, h1.log, h1.froz, (slv_app h hE hl hg hn).1, (slv_app h hE hl hg hn).2, hn⟩
/-- The same behind the making of the list of one number. -/
theorem slv_step1 {w w1 : World} {E : Eb} {S : SolverS} {lo lo' : Value} {l : List Int} {o : Obj} (h : SlvAt w E S lo) (hE : ∀ g ∈ E.all, g < w.heap.size) (hl : OwnI w1 0 lo' l)
    (hg : (w.alloc o).grownBy w1 lo.ownBlock) (hat : lo'.ownBlock = lo.ownBlock ∨ lo'.ownBlock = some (w.alloc o).heap.size) :
    (∃ a n c, lo' = .slice a n c) ∧ w1.cell? ⟨E.s, 4, none⟩ = some lo ∧ (∀ i, w1.frozen? ⟨E.s, i, none⟩ = false) ∧
    SlvAt (w1.setCell ⟨E.s, 4, none⟩ lo') E { S with log := l } lo' ∧ Fr (E.s :: blk lo) w (w1.setCell ⟨E.s, 4, none⟩ lo') ∧ Nx w lo lo' := by
  have hs : w.heap.size ≤ (w.alloc o).heap.size := by simp
  have hfa : Fr [] w (w.alloc o) := (Fr.refl _ _).alloc o
  have h0 : SlvAt (w.alloc o) E S lo := h.fr hfa (by simp) (by simp)
  obtain ⟨a1, a2, a3, a4, a5, a6⟩ := slv_step h0 (fun g hg => Nat.lt_of_lt_of_le (hE g hg) hs) hl hg hat
  refine ⟨a1, a2, a3, a4, (hfa.mono (by simp)).trans a5, fun g hg2 => ?_⟩
  rcases a6 g hg2 with e | e
  · exact .inl e
  · exact .inr (by omega)
theorem alls {w w1 : World} {E : Eb} {S : List Nat} (hE : ∀ g ∈ E.all, g < w.heap.size) (hf : Fr S w w1) : ∀ g ∈ E.all, g < w1.heap.size := fun g hg => Nat.lt_of_lt_of_le (hE g hg) hf.size
/-- Steps on the solver's own block and the log's. -/
theorem fr_log {w w1 w2 : World} {E : Eb} {lo lo1 : Value} (h : Fr (E.s :: blk lo) w w1) (hn : Nx w lo lo1) (k : Fr (E.s :: blk lo1) w1 w2) : Fr (E.s :: blk lo) w w2 := by
  refine h.trans2 k (fun x hx hlt => ?_)
  rcases List.mem_cons.1 hx with e | e
  · rw [e]; exact List.mem_cons_self
  · rcases hn x (mem_blk.1 e) with q | q
    · exact List.mem_cons_of_mem _ (mem_blk.2 q)
    · omega

set_option maxHeartbeats 2000000 in
theorem note_any {w : World} {E : Eb} {S : SolverS} {lo : Value} (h : SlvAt w E S lo) (hE : ∀ g ∈ E.all, g < w.heap.size) (del : Bool) {v : Value} {c : List Int} (hc : Ints w v c)
    (hv : ∀ g, v.ownBlock = some g → g ≠ E.s ∧ lo.ownBlock ≠ some g) (hvl : ∀ g, v.ownBlock = some g → g < w.heap.size) (hb : S.log.length + c.length ≤ 1000000000) :
    Calls Tryz.prog 82 #[.pointer (some ⟨E.s, 0, none⟩), .bool del, v] w fun e w' => e = .returned (.tuple #[]) ∧ ∃ lo', SlvAt w' E (S.note del c) lo' ∧ Nx w lo lo' ∧ Fr (E.s :: blk lo) w w' := by
  have hlog := h.at_.log
  have hfz := h.at_.froz
  change w.cell? ⟨E.s, 4, none⟩ = some lo at hlog
  have HH := hid h
  have HE := hid hE
  have HC := hid hc
  have HV := hid hv
  have HVL := hid hvl
  clear h hE hc hv hvl
  cases del with
  | false =>
    refine calls_via fun K hK => ?_
    go_enter Tryz.func82, Tryz.ntmps82
    go_wp2_with (first
      | (at_builtin; refine wp_app_at rfl _ _ rfl 0 lo S.log rfl HH.out.own v c rfl HC.out (by omega) (by omega) ?_; intro v1 w1 ho1 hg1 hnil1 hat1; obtain ⟨⟨s1, n1, c1, rfl⟩, hlog1, hfz1, hs1, hf1, hx1⟩ := slv_step HH.out HE.out ho1 hg1 hat1; have HS1 := hid hs1; have HF1 := hid hf1; have HX1 := hid hx1; clear hs1 hf1 hx1 ho1 hg1 hnil1 hat1)
      | (at_builtin; refine wp_app_at rfl _ _ rfl 0 (.slice s1 n1 c1) (S.log ++ c) rfl (HS1.out.own.alloc _) (.slice (some ⟨w1.heap.size, 0, none⟩) 1 1) [0] rfl (ints_oneN (by simp) _ _) (by simp; omega) (by omega) ?_; intro v2 w2 ho2 hg2 hnil2 hat2; obtain ⟨⟨s2, n2, c2, rfl⟩, hlog2, hfz2, hs2, hf2, hx2⟩ := slv_step1 HS1.out (alls HE.out HF1.out) ho2 hg2 hat2; have HS2 := hid hs2; have HF2 := hid hf2; have HX2 := hid hx2; clear hs2 hf2 hx2 ho2 hg2 hnil2 hat2))
    try go_end0
    exact hK.out _ _ ⟨rfl, _, (by rw [show S.note false c = { S with log := S.log ++ c ++ [0] } from by simp [SolverS.note]]; exact HS2.out), HX1.out.trans HX2.out HF1.out.size, fr_log HF1.out HX1.out HF2.out⟩
  | true =>
    refine calls_via fun K hK => ?_
    go_enter Tryz.func82, Tryz.ntmps82
    go_wp2_with (first
      | (at_builtin; refine wp_app_at rfl _ _ rfl 0 lo S.log rfl (HH.out.own.alloc _) (.slice (some ⟨w.heap.size, 0, none⟩) 1 1) [13] rfl (ints_oneN (by simp) _ _) (by simp; omega) (by omega) ?_; intro v0 w0 ho0 hg0 hnil0 hat0; obtain ⟨⟨s0, n0, c0, rfl⟩, hlog0, hfz0, hs0, hf0, hx0⟩ := slv_step1 HH.out HE.out ho0 hg0 hat0; have HS0 := hid hs0; have HF0 := hid hf0; have HX0 := hid hx0; clear hs0 hf0 hx0 ho0 hg0 hnil0 hat0)
      | (at_builtin; refine wp_app_at rfl _ _ rfl 0 (.slice s0 n0 c0) (S.log ++ [13]) rfl HS0.out.own v c rfl (HC.out.fr HF0.out (fun g hg hm => by rcases List.mem_cons.1 hm with e | e; exact (HV.out g hg).1 e; exact (HV.out g hg).2 (mem_blk.1 e))) (by simp; omega) (by omega) ?_; intro v1 w1 ho1 hg1 hnil1 hat1; obtain ⟨⟨s1, n1, c1, rfl⟩, hlog1, hfz1, hs1, hf1, hx1⟩ := slv_step HS0.out (alls HE.out HF0.out) ho1 hg1 hat1; have HS1 := hid hs1; have HF1 := hid (fr_log HF0.out HX0.out hf1); have HX1 := hid (HX0.out.trans hx1 HF0.out.size); clear hs1 hf1 hx1 ho1 hg1 hnil1 hat1)
      | (at_builtin; refine wp_app_at rfl _ _ rfl 0 (.slice s1 n1 c1) (S.log ++ [13] ++ c) rfl (HS1.out.own.alloc _) (.slice (some ⟨w1.heap.size, 0, none⟩) 1 1) [0] rfl (ints_oneN (by simp) _ _) (by simp; omega) (by omega) ?_; intro v2 w2 ho2 hg2 hnil2 hat2; obtain ⟨⟨s2, n2, c2, rfl⟩, hlog2, hfz2, hs2, hf2, hx2⟩ := slv_step1 HS1.out (alls HE.out HF1.out) ho2 hg2 hat2; have HS2 := hid hs2; have HF2 := hid hf2; have HX2 := hid hx2; clear hs2 hf2 hx2 ho2 hg2 hnil2 hat2))
    try go_end0
    exact hK.out _ _ ⟨rfl, _, HS2.out, HX1.out.trans HX2.out HF1.out.size, fr_log HF1.out HX1.out HF2.out⟩
end Go.Proofs.Qxb6500354aGreat
