/- A whole tower: its blocks, its state; Solve and Check on it. -/
import Derived.Test.Qxb6500354aGreatLv2
namespace Go.Proofs.Qxb6500354aGreat
open Go.RowKit
set_option linter.unusedVariables false
set_option linter.unusedSimpArgs false

structure TwB where
  tb : Nat
  E : Eb
  q : Nat
  k : Nat
structure TwS where
  W : WatchS
  T : TrailS
  S : SolverS
  lo : Value
  P : ParS
  av : Value
  sl : Slots
  P2 : ParS
  av2 : Value
structure TwAt (w : World) (X : TwB) (s : TwS) : Prop where
  tow : TowAt w X.tb X.E X.q X.k
  leg : LegAt w X.E s.W s.T s.S s.lo s.P s.av
  ck : CkAt w X.k X.q s.sl
  par : ParAt w X.q s.P2 s.av2
  d1 : X.tb ∉ X.E.all ∧ X.q ∉ X.E.all ∧ X.k ∉ X.E.all ∧ X.tb ≠ X.q ∧ X.tb ≠ X.k ∧ X.k ≠ X.q
  d2 : ∀ g, s.lo.ownBlock = some g → g ≠ X.tb ∧ g ≠ X.q ∧ g ≠ X.k
  d3 : ∀ g, s.av.ownBlock = some g → g ≠ X.tb ∧ g ≠ X.q ∧ g ≠ X.k
  d4 : ∀ g, s.av2.ownBlock = some g → g ∉ X.E.all ∧ g ≠ X.tb ∧ g ≠ X.k ∧ s.lo.ownBlock ≠ some g ∧ s.av.ownBlock ≠ some g
def foot (X : TwB) (s : TwS) : List Nat := X.tb :: X.q :: X.k :: (X.E.all ++ blk s.lo ++ blk s.av ++ blk s.av2)
theorem mem_foot {X : TwB} {s : TwS} {x : Nat} : x ∈ foot X s ↔ x = X.tb ∨ x = X.q ∨ x = X.k ∨ x ∈ X.E.all ∨ s.lo.ownBlock = some x ∨ s.av.ownBlock = some x ∨ s.av2.ownBlock = some x := by
  unfold foot
  simp only [List.mem_cons, List.mem_append, mem_blk]
  constructor
  · rintro (h | h | h | ((h | h) | h) | h) <;> simp [h]
  · rintro (h | h | h | h | h | h | h) <;> simp [h]
theorem TwAt.lt {w : World} {X : TwB} {s : TwS} (h : TwAt w X s) : ∀ x ∈ foot X s, x < w.heap.size := by
  intro x hx
  rcases mem_foot.1 hx with e | e | e | e | e | e | e
  · rw [e]; exact lt_of_cellB (h.tow.c 0 _ rfl)
  · rw [e]; exact h.par.at_.lt
  · rw [e]; exact h.ck.lt
  · exact h.leg.en.lt x e
  · exact h.leg.en.sv.own.lt x e
  · exact h.leg.pr.own.lt x e
  · exact h.par.own.lt x e
theorem LegAt.fr {w w2 : World} {E : Eb} {W : WatchS} {T : TrailS} {S : SolverS} {lo av : Value} {P : ParS} {D : List Nat} (h : LegAt w E W T S lo P av) (hf : Fr D w w2) (hE : ∀ x ∈ E.all, x ∉ D) (hl : ∀ g, lo.ownBlock = some g → g ∉ D) (ha : ∀ g, av.ownBlock = some g → g ∉ D) : LegAt w2 E W T S lo P av := by
  refine ⟨⟨h.en.nd, fun g hg => Nat.lt_of_lt_of_le (h.en.lt g hg) hf.size, h.en.sv.fr hf (hE _ (by simp [Eb.all])) hl, h.en.tr.fr hf (hE _ (by simp [Eb.all])), h.en.wt.fr hf (hE _ (by simp [Eb.all])), h.en.ln.fr hf (hE _ (by simp [Eb.all]))⟩, h.pr.fr hf (hE _ (by simp [Eb.all])) ha, h.av, h.lg⟩
theorem TwAt.fr {w w2 : World} {X : TwB} {s : TwS} {D : List Nat} (h : TwAt w X s) (hf : Fr D w w2) (hn : ∀ x ∈ foot X s, x ∉ D) : TwAt w2 X s := by
  have hq := hn X.q (mem_foot.2 (by simp))
  have hk := hn X.k (mem_foot.2 (by simp))
  refine ⟨h.tow.fr hf (hn X.tb (mem_foot.2 (by simp))), h.leg.fr hf (fun x hx => hn x (mem_foot.2 (by simp [hx]))) (fun g hg => hn g (mem_foot.2 (by simp [hg]))) (fun g hg => hn g (mem_foot.2 (by simp [hg]))), h.ck.fr hf hk, h.par.fr hf hq (fun g hg => hn g (mem_foot.2 (by simp [hg]))), h.d1, h.d2, h.d3, h.d4⟩
theorem TwAt.fr0 {w w2 : World} {X : TwB} {s : TwS} (h : TwAt w X s) (hf : Fr [] w w2) : TwAt w2 X s := h.fr hf (by simp)
/-- The footprint has moved: what is new in it was not there. -/
def NxF (w : World) (X : TwB) (s s' : TwS) : Prop := ∀ x ∈ foot X s', x ∈ foot X s ∨ w.heap.size ≤ x
structure TwSol (w w' : World) (X : TwB) (s s' : TwS) (bs : List Nat) (mv : Value) : Prop where
  tw : TwAt w' X s'
  fr : Fr (foot X s) w w'
  nx : NxF w X s s'
  mod : OwnI w' w.heap.size mv (solveF bs).model
  tight : TightN mv (solveF bs).model.length
  dj : ∀ g, mv.ownBlock = some g → g ∉ foot X s'
  fin : (problemF bs).2.1 = 0 → s'.W = (runE (problemF bs).1).s.W ∧ s'.T = (runE (problemF bs).1).s.T
theorem TwAt.solve {w : World} {X : TwB} {s : TwS} (h : TwAt w X s) (t : ByteArray) (ht : t.size ≤ maxLen) :
    Calls Tryz.prog 25 #[.pointer (some ⟨X.E.s, 0, none⟩), .string t] w fun e w' => ∃ mv s', e = .returned (ansV (solveF (bytesOf t)) mv) ∧ TwSol w w' X s s' (bytesOf t) mv := by
  refine (ssolve_any h.leg t ht).mono ?_
  rintro e w' ⟨mv, rfl, ⟨⟨W, T, S, lo, P, av, hl, hnl, hna, hmd, hfin⟩, hmod, htg, hfr⟩⟩
  have hD : ∀ x, x ∉ X.E.all → s.lo.ownBlock ≠ some x → s.av.ownBlock ≠ some x → x ∉ X.E.all ++ blk s.lo ++ blk s.av := by
    intro x h1 h2 h3 hm
    rcases List.mem_append.1 hm with e | e
    · rcases List.mem_append.1 e with e | e
      · exact h1 e
      · exact h2 (mem_blk.1 e)
    · exact h3 (mem_blk.1 e)
  obtain ⟨a1, a2, a3, a4, a5, a6⟩ := h.d1
  have ltb := lt_of_cellB (h.tow.c 0 _ rfl)
  have lq := h.par.at_.lt
  have lk := h.ck.lt
  have htb := hD X.tb a1 (fun e => (h.d2 _ e).1 rfl) (fun e => (h.d3 _ e).1 rfl)
  have hq := hD X.q a2 (fun e => (h.d2 _ e).2.1 rfl) (fun e => (h.d3 _ e).2.1 rfl)
  have hk := hD X.k a3 (fun e => (h.d2 _ e).2.2 rfl) (fun e => (h.d3 _ e).2.2 rfl)
  refine ⟨mv, ⟨W, T, S, lo, P, av, s.sl, s.P2, s.av2⟩, rfl, ⟨h.tow.fr hfr htb, hl, h.ck.fr hfr hk, h.par.fr hfr hq (fun g hg => hD g (h.d4 g hg).1 (h.d4 g hg).2.2.2.1 (h.d4 g hg).2.2.2.2), h.d1, ?_, ?_, ?_⟩, ?_, ?_, hmod, htg, ?_, hfin⟩
  · intro g hg
    rcases hnl g hg with z | z
    · exact h.d2 g z
    · exact ⟨by omega, by omega, by omega⟩
  · intro g hg
    rcases hna g hg with z | z
    · exact h.d3 g z
    · exact ⟨by omega, by omega, by omega⟩
  · intro g hg
    have hg4 := h.d4 g hg
    have hgl := h.par.own.lt g hg
    refine ⟨hg4.1, hg4.2.1, hg4.2.2.1, fun e => ?_, fun e => ?_⟩
    · rcases hnl g e with z | z
      · exact hg4.2.2.2.1 z
      · omega
    · rcases hna g e with z | z
      · exact hg4.2.2.2.2 z
      · omega
  · refine hfr.mono (fun x hx _ => ?_)
    rcases List.mem_append.1 hx with e | e
    · rcases List.mem_append.1 e with e | e
      · exact mem_foot.2 (by simp [e])
      · exact mem_foot.2 (by simp [mem_blk.1 e])
    · exact mem_foot.2 (by simp [mem_blk.1 e])
  · intro x hx
    rcases mem_foot.1 hx with e | e | e | e | e | e | e
    · exact .inl (mem_foot.2 (by simp [e]))
    · exact .inl (mem_foot.2 (by simp [e]))
    · exact .inl (mem_foot.2 (by simp [e]))
    · exact .inl (mem_foot.2 (by simp [e]))
    · exact (hnl x e).imp (fun z => mem_foot.2 (by simp [z])) (fun z => z)
    · exact (hna x e).imp (fun z => mem_foot.2 (by simp [z])) (fun z => z)
    · exact .inl (mem_foot.2 (by simp only [] at e; simp [e]))
  · intro g hg hm
    have hgb := hmod.base g hg
    rcases mem_foot.1 hm with e | e | e | e | e | e | e
    · omega
    · omega
    · omega
    · have := h.leg.en.lt g e; omega
    · exact (hmd g hg).1 e
    · exact (hmd g hg).2 e
    · have := h.par.own.lt g e; omega
structure TwChk (w w' : World) (X : TwB) (s s' : TwS) : Prop where
  tw : TwAt w' X s'
  fr : Fr (foot X s) w w'
  nx : NxF w X s s'
  W : s'.W = s.W
  T : s'.T = s.T
def verdV (v : VerdS) : Value := .agg #[.int .i64 (v.err : Nat), .int .i64 (v.whr : Nat), .int .i64 (v.pos : Nat)]
theorem TwAt.check {w : World} {X : TwB} {s : TwS} (h : TwAt w X s) (a b : ByteArray) (ha : a.size ≤ maxLen) (hb : b.size ≤ maxLen) :
    Calls Tryz.prog 39 #[.pointer (some ⟨X.k, 0, none⟩), .string a, .string b] w fun e w' => ∃ s', e = .returned (verdV (checkMF (bytesOf a) (bytesOf b))) ∧ TwChk w w' X s s' := by
  obtain ⟨a1, a2, a3, a4, a5, a6⟩ := h.d1
  refine (check_any h.ck h.par a6 (fun e => (h.d4 _ e).2.2.1 rfl) a b ha hb).mono ?_
  rintro e w' ⟨rfl, ⟨⟨sl', hck⟩, ⟨P', av', hpa, hnx⟩, hfr⟩⟩
  have ltb := lt_of_cellB (h.tow.c 0 _ rfl)
  have lk := h.ck.lt
  have hD : ∀ x, x ≠ X.k → x ≠ X.q → s.av2.ownBlock ≠ some x → x ∉ X.k :: X.q :: blk s.av2 := by
    intro x h1 h2 h3 hm
    rcases List.mem_cons.1 hm with e | e
    · exact h1 e
    · rcases List.mem_cons.1 e with e | e
      · exact h2 e
      · exact h3 (mem_blk.1 e)
  refine ⟨{ s with sl := sl', P2 := P', av2 := av' }, by rw [chkF_eq]; rfl, ⟨h.tow.fr hfr (hD _ a5 a4 (fun e => (h.d4 _ e).2.1 rfl)), h.leg.fr hfr (fun x hx => hD x (fun e => a3 (e ▸ hx)) (fun e => a2 (e ▸ hx)) (fun e => (h.d4 _ e).1 hx)) (fun g hg => hD g (h.d2 g hg).2.2 (h.d2 g hg).2.1 (fun e => (h.d4 _ e).2.2.2.1 hg)) (fun g hg => hD g (h.d3 g hg).2.2 (h.d3 g hg).2.1 (fun e => (h.d4 _ e).2.2.2.2 hg)), hck, hpa, h.d1, h.d2, h.d3, ?_⟩, ?_, ?_, rfl, rfl⟩
  · intro g hg
    rcases hnx g hg with z | z
    · exact h.d4 g z
    · exact ⟨fun hm => by have := h.leg.en.lt g hm; omega, by omega, by omega, fun e => by have := h.leg.en.sv.own.lt g e; omega, fun e => by have := h.leg.pr.own.lt g e; omega⟩
  · refine hfr.mono (fun x hx _ => ?_)
    rcases List.mem_cons.1 hx with e | e
    · exact mem_foot.2 (by simp [e])
    · rcases List.mem_cons.1 e with e | e
      · exact mem_foot.2 (by simp [e])
      · exact mem_foot.2 (by simp [mem_blk.1 e])
  · intro x hx
    rcases mem_foot.1 hx with e | e | e | e | e | e | e
    · exact .inl (mem_foot.2 (by simp [e]))
    · exact .inl (mem_foot.2 (by simp [e]))
    · exact .inl (mem_foot.2 (by simp [e]))
    · exact .inl (mem_foot.2 (by simp [e]))
    · exact .inl (mem_foot.2 (by simp only [] at e; simp [e]))
    · exact .inl (mem_foot.2 (by simp only [] at e; simp [e]))
    · exact (hnx x e).imp (fun z => mem_foot.2 (by simp [z])) (fun z => z)
end Go.Proofs.Qxb6500354aGreat
