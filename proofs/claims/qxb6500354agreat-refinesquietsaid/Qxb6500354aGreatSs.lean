/- SameSolve: the way to the first comparison. -/
import Derived.Test.Qxb6500354aGreatWd3
namespace Go.Proofs.Qxb6500354aGreat
open Go.RowKit
set_option linter.unusedVariables false
set_option linter.unusedSimpArgs false

/-- Behind Solve on X. -/
structure SsB (w1 : World) (B : WdB) (S : WdS) (q : Bool) (base : Nat) (mv : Value) (a : AnsS) : Prop where
  wd : WdAt w1 B S q
  own : OwnI w1 base mv a.model
  md : ∀ g, mv.ownBlock = some g → g < w1.heap.size ∧ g ∉ side B ∧ g ∉ foot B.X S.s
  mm : OwnM w1 B.M S.mine S.ml (blk mv ++ (side B ++ foot B.X S.s))
  tv : TightN mv a.model.length
theorem WdAt.solvedB {w w1 : World} {B : WdB} {S : WdS} {q : Bool} (h : WdAt w B S q) {s' : TwS} {bs : List Nat} {mv : Value} (ht : TwSol w w1 B.X S.s s' bs mv) : SsB w1 B { S with s := s' } q w.heap.size mv (solveF bs) := by
  have h1 := h.solved ht.tw ht.fr ht.nx
  have hb := ht.mod.base
  have hge : ∀ g, mv.ownBlock = some g → w.heap.size ≤ g := fun g hg => hb g hg
  refine ⟨h1, ht.mod, fun g hg => ⟨ht.mod.lt g hg, fun hm => ?_, ht.dj g hg⟩, ?_, ht.tight⟩
  · have := h.side_lt g hm; have := hge g hg; omega
  · refine ((h.mn.renew (D2 := blk mv ++ (side B ++ foot B.X S.s ++ foot B.X s')) ?_).fr ht.fr ?_).mono ?_
    · intro x hx
      rcases List.mem_append.1 hx with e | e
      · exact .inr (hge x (mem_blk.1 e))
      · rcases List.mem_append.1 e with e | e
        · exact .inl e
        · rcases ht.nx x e with z | z
          · exact .inl (List.mem_append_right _ z)
          · exact .inr z
    · intro x hx; exact .inl (by simp [hx])
    · intro x hx
      rcases List.mem_append.1 hx with e | e
      · simp [e]
      · rcases List.mem_append.1 e with e | e
        · simp [e]
        · simp [e]
/-- The stamping: blocks that are apart from the world. -/
theorem WdAt.stamp {w w2 : World} {B : WdB} {S : WdS} {q : Bool} (h : WdAt w B S q) {D : List Nat} (hf : Fr D w w2) (h1 : ∀ g ∈ D, g ∉ side B ∧ g ∉ foot B.X S.s) (hm : OwnM w B.M S.mine S.ml (D ++ (side B ++ foot B.X S.s))) : WdAt w2 B S q := by
  have hD : ∀ x ∈ side B, x ∉ D := fun x hx hm => (h1 x hm).1 hx
  refine ⟨h.cc.fr hf (hD _ (by simp [side])) (by simp [wdCells]), h.tw.fr hf (fun x hx hm => (h1 x hm).2 hx), h.ms.fr hf (hD _ (by simp [side])) (hD _ (by simp [side])), h.km.fr hf (hD _ (by simp [side])) (hD _ (by simp [side])), h.nd, h.dj, (hm.fr hf (fun x hx => .inl (by simp [hx]))).mono (fun x hx => by simp at hx ⊢; exact .inr hx), h.st, h.ln, h.z1, h.z2, h.z3, h.z4, h.lo, h.lf⟩
theorem OwnM.nb {w : World} {base : Nat} {v : Value} {cs : List (List Int)} {D : List Nat} (h : OwnM w base v cs D) : ∀ g ∈ D, g ∉ blk v := by
  obtain ⟨us, _, _, h3⟩ := h
  intro g hg hm
  exact h3.1 g (mem_blk.1 hm) hg
theorem WdAt.kept {w w2 : World} {B : WdB} {S : WdS} {q : Bool} (h : WdAt w B S q) (hk : KeepOut w w2 B.M B.wb (wdCells B S q) S.mine (side B ++ foot B.X S.s)) : ∃ S', WdAt w2 B S' q := by
  obtain ⟨⟨mine', ml', k1, k2, k3, k4⟩, hf⟩ := hk
  have hnb := h.mn.nb
  have hne := h.ne
  have hD : ∀ x ∈ side B, x ≠ B.wb → x ∉ B.wb :: blk S.mine := fun x hx h1 hm => by
    rcases List.mem_cons.1 hm with e | e
    · exact h1 e
    · exact hnb x (by simp [hx]) e
  have hF : ∀ x ∈ foot B.X S.s, x ∉ B.wb :: blk S.mine := fun x hx hm => by
    rcases List.mem_cons.1 hm with e | e
    · rw [e] at hx; exact h.dj _ (by simp [side]) hx
    · exact hnb x (by simp [hx]) e
  exact ⟨{ S with mine := mine', ml := ml' }, k1, h.tw.fr hf hF, h.ms.fr hf (hD _ (by simp [side]) hne.wm.symm) (hD _ (by simp [side]) hne.wmp.symm), h.km.fr hf (hD _ (by simp [side]) hne.wk.symm) (hD _ (by simp [side]) hne.wpp.symm), h.nd, h.dj, k2, k3, k4, h.z1, h.z2, h.z3, h.z4, h.lo, h.lf⟩
theorem WdAt.keep {w : World} {B : WdB} {S : WdS} {q : Bool} (h : WdAt w B S q) {lv : Value} {l : List Int} (hl : Ints w lv l) (hl2 : l.length ≤ 12 ∧ ∀ y ∈ l, y = -7777777) (hlv : ∀ g, lv.ownBlock = some g → S.mine.ownBlock ≠ some g ∧ g < w.heap.size ∧ g ∉ side B ++ foot B.X S.s) :
    Calls Tryz.prog 33 #[.pointer (some ⟨B.wb, 0, none⟩), lv] w fun e w' => e = .returned (.bool true) ∧ (∃ S', WdAt w' B S' q) ∧ Below B.M w w' := by
  have hD : ∀ g ∈ side B ++ foot B.X S.s, g < w.heap.size := fun x hx => by
    rcases List.mem_append.1 hx with e | e
    · exact h.side_lt x e
    · exact h.tw.lt x e
  have hv : 8 < (wdCells B S q).length := by simp [wdCells]
  have h8 : (wdCells B S q)[8]? = some S.mine := rfl
  have hwD : B.wb ∈ side B ++ foot B.X S.s := by simp [side]
  refine (keep_any hv h.cc h8 hwD hD h.mn h.Mle h.st h.ln hl hl2 hlv).mono ?_
  rintro e w' ⟨rfl, hk⟩
  refine ⟨rfl, h.kept hk, hk.fr.belowM h.Mle (fun x hx => ?_)⟩
  rcases List.mem_cons.1 hx with e | e
  · rw [e]; exact h.lo _ (by simp [side])
  · exact h.mn.ge x (mem_blk.1 e)
def ansL (a : AnsS) (mv : Value) : List Value := [.int .i64 (a.err : Nat), .int .i64 (a.pos : Nat), .bool a.sat, mv, .string (strN a.proof), .int .i64 (a.conf : Nat), .int .i64 (a.rest : Nat)]
/-- The walk's state behind the probe's Solve. -/
structure SsC (w1 wr : World) (B : WdB) (cells : List Value) (N5 N7 : Nat) (mv mc : Value) (a : AnsS) (Y : TwB) (t1 : TwS) : Prop where
  fr : Fr [B.wb, B.mp, B.pp] w1 wr
  cc : CellsAt wr B.wb cells
  pm : PMAt wr B.mp
  pp : PMAt wr B.pp
  c5 : CellsAt wr N5 (ansL a mv)
  c7 : CellsAt wr N7 (ansL a mc)
  mi : Ints wr mc a.model
  ty : TwAt wr Y t1
  h5 : w1.heap.size ≤ N5
  h7 : w1.heap.size ≤ N7
  hm : ∀ g, mc.ownBlock = some g → w1.heap.size ≤ g ∧ g < wr.heap.size
  hy : ∀ x ∈ foot Y t1, w1.heap.size ≤ x
  n5 : N5 ∉ foot Y t1
theorem SsC.step {w1 wr wr2 : World} {B : WdB} {S : WdS} {q : Bool} {cells cells2 : List Value} {N5 N7 : Nat} {mv mc : Value} {a : AnsS} {Y : TwB} {t1 : TwS} (h : SsC w1 wr B cells N5 N7 mv mc a Y t1) (hw : WdAt w1 B S q) {D : List Nat} (hf : Fr D wr wr2)
    (hD : ∀ x ∈ D, x < wr.heap.size → x = B.wb ∨ x = B.mp ∨ x = B.pp) (hc : CellsAt wr2 B.wb cells2) (hm : PMAt wr2 B.mp) (hp : PMAt wr2 B.pp) : SsC w1 wr2 B cells2 N5 N7 mv mc a Y t1 := by
  have hsl := hw.side_lt
  have hno : ∀ x, w1.heap.size ≤ x → x < wr.heap.size → x ∉ D := by
    intro x h1 h2 hm
    have h3 : x ∈ side B := by rcases hD x hm h2 with e | e | e <;> simp [side, e]
    have := hsl x h3; omega
  have l5 := lt_of_cellB (h.c5.c 0 _ rfl)
  have l7 := lt_of_cellB (h.c7.c 0 _ rfl)
  refine ⟨h.fr.trans2 hf (fun x hx hlt => ?_), hc, hm, hp, h.c5.fr hf (hno _ h.h5 l5) (by simp [ansL]), h.c7.fr hf (hno _ h.h7 l7) (by simp [ansL]), h.mi.fr hf (fun g hg => hno g (h.hm g hg).1 (h.hm g hg).2), h.ty.fr hf (fun x hx => hno x (h.hy x hx) (h.ty.lt x hx)), h.h5, h.h7, fun g hg => ⟨(h.hm g hg).1, Nat.lt_of_lt_of_le (h.hm g hg).2 hf.size⟩, h.hy, h.n5⟩
  have := h.fr.size
  rcases hD x hx (by omega) with e | e | e <;> simp [e]
theorem SsC.step0 {w1 wr wr2 : World} {B : WdB} {S : WdS} {q : Bool} {cells : List Value} {N5 N7 : Nat} {mv mc : Value} {a : AnsS} {Y : TwB} {t1 : TwS} (h : SsC w1 wr B cells N5 N7 mv mc a Y t1) (hw : WdAt w1 B S q) (hl : 0 < cells.length) (hf : Fr [] wr wr2) : SsC w1 wr2 B cells N5 N7 mv mc a Y t1 :=
  h.step hw hf (by simp) (h.cc.fr hf (by simp) hl) (h.pm.fr hf (by simp)) (h.pp.fr hf (by simp))
theorem SsC.wd {w1 wr : World} {B : WdB} {S : WdS} {s' : TwS} {q : Bool} {t p : ByteArray} {N5 N7 : Nat} {mv mc : Value} {a : AnsS} {Y : TwB} {t1 : TwS} (h : SsC w1 wr B (((wdCells B { S with s := s' } q).set 6 (.string t)).set 7 (.string p)) N5 N7 mv mc a Y t1)
    (hw : WdAt w1 B { S with s := s' } q) (ht : t.size ≤ 1048577) (hp : p.size ≤ maxLen) : WdAt wr B { S with s := s', lt := t, lp := p } q :=
  hw.step (S2 := { S with s := s', lt := t, lp := p }) h.fr (fun x hx _ => by simpa using hx) h.cc h.pm h.pp rfl rfl rfl hw.z1 hw.z2 ht hp
def IsLook (q : Bool) (B : WdB) (s : TwS) (Y : TwB) (t1 : TwS) (L : TwB) (tl : TwS) : Prop := (q = false ∧ L = B.X ∧ tl = s) ∨ (q = true ∧ L = Y ∧ tl = t1)
theorem SsC.look {w1 wr : World} {B : WdB} {S : WdS} {q : Bool} {cells : List Value} {N5 N7 : Nat} {mv mc : Value} {a : AnsS} {Y L : TwB} {t1 tl : TwS} (h : SsC w1 wr B cells N5 N7 mv mc a Y t1) (hw : WdAt w1 B S q) (hl : IsLook q B S.s Y t1 L tl) : TwAt wr L tl ∧ ∀ x ∈ side B, x ∉ foot L tl := by
  rcases hl with ⟨_, rfl, rfl⟩ | ⟨_, rfl, rfl⟩
  · refine ⟨hw.tw.fr h.fr (fun x hx hm => ?_), hw.dj⟩
    have h3 : x ∈ side B := by simp only [List.mem_cons, List.not_mem_nil, or_false] at hm; rcases hm with e | e | e <;> simp [side, e]
    exact hw.dj x h3 hx
  · exact ⟨h.ty, fun x hx hm => by have := h.hy x hm; have := hw.side_lt x hx; omega⟩
theorem SsC.n5look {w1 wr : World} {B : WdB} {S : WdS} {q : Bool} {cells : List Value} {N5 N7 : Nat} {mv mc : Value} {a : AnsS} {Y L : TwB} {t1 tl : TwS} (h : SsC w1 wr B cells N5 N7 mv mc a Y t1) (hw : WdAt w1 B S q) (hl : IsLook q B S.s Y t1 L tl) : N5 ∉ B.pp :: foot L tl := by
  intro hm
  rcases List.mem_cons.1 hm with e | e
  · have := h.h5; have := hw.side_lt B.pp (by simp [side]); omega
  · rcases hl with ⟨_, rfl, rfl⟩ | ⟨_, rfl, rfl⟩
    · have := hw.tw.lt _ e; have := h.h5; omega
    · exact h.n5 e
theorem SsC.done {w1 wr w' : World} {B : WdB} {S : WdS} {s' s2 : TwS} {q : Bool} {t p : ByteArray} {N5 N7 : Nat} {mv mc : Value} {a : AnsS} {Y L : TwB} {t1 tl : TwS} (h : SsC w1 wr B (((wdCells B { S with s := s' } q).set 6 (.string t)).set 7 (.string p)) N5 N7 mv mc a Y t1)
    (hw : WdAt w1 B { S with s := s' } q) (ht : t.size ≤ 1048577) (hp : p.size ≤ maxLen) (hl : IsLook q B s' Y t1 L tl) (hq : SameQ wr w' L tl s2 B.pp) : ∃ s3, WdAt w' B { S with s := s3, lt := t, lp := p } q := by
  have hwr := h.wd hw ht hp
  rcases hl with ⟨_, rfl, rfl⟩ | ⟨_, rfl, rfl⟩
  · exact ⟨s2, hwr.checked hq⟩
  · have hne := hw.ne
    have hno : ∀ x ∈ side B, x ≠ B.pp → x ∉ B.pp :: foot L tl := fun x hx h1 hm => by
      rcases List.mem_cons.1 hm with e | e
      · exact h1 e
      · have := h.hy x e; have := hw.side_lt x hx; omega
    have hf : Fr [B.wb, B.mp, B.pp] w1 w' := h.fr.trans2 hq.fr (fun x hx hlt => by
      rcases List.mem_cons.1 hx with e | e
      · simp [e]
      · have := h.hy x e; omega)
    exact ⟨s', hw.step (S2 := { S with s := s', lt := t, lp := p }) hf (fun x hx _ => by simpa using hx) (h.cc.fr hq.fr (hno _ (by simp [side]) hne.wpp) (by simp [wdCells])) (h.pm.fr hq.fr (hno _ (by simp [side]) hne.mppp)) hq.pm rfl rfl rfl hw.z1 hw.z2 ht hp⟩
theorem SsC.below {w1 wr : World} {B : WdB} {S : WdS} {q : Bool} {cells : List Value} {N5 N7 : Nat} {mv mc : Value} {a : AnsS} {Y : TwB} {t1 : TwS} (h : SsC w1 wr B cells N5 N7 mv mc a Y t1) (hw : WdAt w1 B S q) : Below B.M w1 wr :=
  h.fr.belowM hw.Mle (fun x hx => hw.lo x (by
    simp only [List.mem_cons, List.not_mem_nil, or_false] at hx
    rcases hx with e | e | e <;> simp [side, e]))
theorem SsC.lookM {w1 wr w' : World} {B : WdB} {S : WdS} {q : Bool} {cells : List Value} {N5 N7 : Nat} {mv mc : Value} {a : AnsS} {Y L : TwB} {t1 tl s2 : TwS} (h : SsC w1 wr B cells N5 N7 mv mc a Y t1) (hw : WdAt w1 B S q) (hl : IsLook q B S.s Y t1 L tl) (hq : SameQ wr w' L tl s2 B.pp) : Below B.M w1 w' := by
  refine (h.below hw).trans (hq.fr.belowM (Nat.le_trans hw.Mle h.fr.size) (fun x hx => ?_))
  rcases List.mem_cons.1 hx with e | e
  · rw [e]; exact hw.lo _ (by simp [side])
  · rcases hl with ⟨_, rfl, rfl⟩ | ⟨_, rfl, rfl⟩
    · exact hw.lf x e
    · exact Nat.le_trans hw.Mle (h.hy x e)
/-- Behind Parse(proof): its object D, its list. -/
structure POut (wz wx : World) (pp NZ D : Nat) (x : Option Addr) (n c : Nat) (f : List Int) : Prop where
  cc : CellsAt wx D [.int .i64 0, .int .i64 0, .slice x n c]
  ge : NZ ≤ D
  ints : Ints wx (.slice x n c) f
  pm : PMAt wx pp
  fr : Fr [pp] wz wx
theorem POut.late {wz w2 : World} {pp NZ : Nat} {x : Option Addr} {n c : Nat} {f : List Int} (hN : wz.heap.size = NZ) (hi : Ints w2 (.slice x n c) f) (hp : PMAt w2 pp) (hf : Fr [pp] wz.drew w2) :
    POut wz (w2.alloc (Obj.cells #[.int .i64 0, .int .i64 0, .slice x n c] 86)) pp NZ w2.heap.size x n c f := by
  have hf2 : Fr [pp] wz w2 := ((Fr.refl [pp] wz).drew).trans hf
  have ha : Fr [] w2 (w2.alloc (Obj.cells #[.int .i64 0, .int .i64 0, .slice x n c] 86)) := (Fr.refl [] w2).alloc _
  exact ⟨CellsAt.mk_alloc w2 [.int .i64 0, .int .i64 0, .slice x n c] 86, by rw [← hN]; exact hf2.size, hi.fr ha (by simp), hp.fr ha (by simp), hf2.trans (ha.mono (by simp))⟩
theorem POut.early {wz w2 : World} {pp NZ : Nat} {x : Option Addr} {n c : Nat} {f : List Int} {o : Obj} (hN : wz.heap.size = NZ) (hpl : pp < NZ) (hi : Ints w2 (.slice x n c) f) (hxb : ∀ g, (Value.slice x n c).ownBlock = some g → (wz.alloc o).drew.heap.size ≤ g ∧ g < w2.heap.size) (hp : PMAt w2 pp) (hf : Fr [pp] (wz.alloc o).drew w2)
    (e0 : w2.cell? ⟨NZ, 0, none⟩ = some (.int .i64 0)) (e1 : w2.cell? ⟨NZ, 1, none⟩ = some (.int .i64 0)) (e2 : w2.cell? ⟨NZ, 2, none⟩ = some (.slice none 0 0)) (hz : ∀ i, w2.frozen? ⟨NZ, i, none⟩ = false) :
    POut wz (((w2.setCell ⟨NZ, 0, none⟩ (.int .i64 0)).setCell ⟨NZ, 1, none⟩ (.int .i64 0)).setCell ⟨NZ, 2, none⟩ (.slice x n c)) pp NZ NZ x n c f := by
  have h0 : CellsAt w2 NZ [.int .i64 0, .int .i64 0, .slice none 0 0] := by
    refine ⟨fun i v hv => ?_, hz⟩
    rcases (by have := (List.getElem?_eq_some_iff.1 hv).1; simp at this; omega : i = 0 ∨ i = 1 ∨ i = 2) with e | e | e <;> subst e <;> (simp at hv; subst hv; assumption)
  have hc := ((h0.set 0 (by simp) (.int .i64 0)).set 1 (by simp) (.int .i64 0)).set 2 (by simp) (.slice x n c)
  have hs : Fr [NZ] w2 (((w2.setCell ⟨NZ, 0, none⟩ (.int .i64 0)).setCell ⟨NZ, 1, none⟩ (.int .i64 0)).setCell ⟨NZ, 2, none⟩ (.slice x n c)) := (((Fr.refl [NZ] w2).setG 0 _).setG 1 _).setG 2 _
  have hf1 : Fr [pp] wz w2 := ((((Fr.refl [pp] wz).alloc o).drew)).trans hf
  refine ⟨hc, Nat.le_refl _, hi.fr hs (fun g hg hm => ?_), hp.fr hs (by simp; omega), hf1.trans2 hs (fun y hy hlt => by rw [List.mem_singleton] at hy; omega)⟩
  rw [List.mem_singleton] at hm
  have h1 := (hxb g hg).1
  have h2 : (wz.alloc o).drew.heap.size = wz.heap.size + 1 := by simp
  omega
theorem RunP.cc : ∀ {rs : List (Bool × List Int)} {a b : List (List Int)}, RunP a rs b → (∀ d ∈ a, checkClause d = 0) → (∀ r ∈ rs, checkClause r.2 = 0) → ∀ d ∈ b, checkClause d = 0 := by
  intro rs
  induction rs with
  | nil => intro a b h hr _; have : a = b := h; subst this; exact hr
  | cons r rs ih =>
    intro a b h ha hx
    rw [RunP_cons] at h
    by_cases hr : r.1 = true
    · rw [if_pos hr] at h
      exact ih h.2 (fun d hd => ha d (List.mem_of_mem_erase hd)) (fun x hm => hx x (List.mem_cons_of_mem _ hm))
    · rw [if_neg hr] at h
      refine ih h.2.2 (fun d hd => ?_) (fun x hm => hx x (List.mem_cons_of_mem _ hm))
      rcases List.mem_append.1 hd with e | e
      · exact ha d e
      · rw [List.mem_singleton] at e; rw [e]; exact hx r List.mem_cons_self
theorem ans_same {bs : List Nat} {a : AnsS} (ha : solveF bs = a) : (problemF bs).2.1 = a.err ∧ (problemF bs).2.2 = a.pos ∧ satM (problemF bs) = a.sat := by
  subst ha
  by_cases h : (problemF bs).2.1 = 0
  · obtain ⟨ho, _⟩ := ans_law h
    exact ⟨by rw [ho.e, h], by rw [ho.p, ho.pp], ho.sat⟩
  · rw [solveF_err h, satM_err h]; exact ⟨rfl, rfl, rfl⟩
set_option maxRecDepth 100000 in
set_option maxHeartbeats 8000000 in
theorem sameSolve_any {w : World} {B : WdB} {S : WdS} {q : Bool} (h : WdAt w B S q) (t : ByteArray) (ht : t.size ≤ 1048577) :
    Calls Tryz.prog 16 #[.pointer (some ⟨B.wb, 0, none⟩), .string t] w fun e w' => e = .returned (.bool true) ∧ (∃ S', WdAt w' B S' q) ∧ Below B.M w w' := by
  have htm : t.size ≤ maxLen := by unfold maxLen; omega
  obtain ⟨bs, hbs⟩ : ∃ z, bytesOf t = z := ⟨_, rfl⟩
  have hsol := h.tw.solve t htm
  rw [hbs] at hsol
  obtain ⟨a, ha⟩ : ∃ z, solveF bs = z := ⟨_, rfl⟩
  have k0 := h.cc.c 0 _ rfl
  have k4 := h.tw.tow.c 4 _ rfl
  unfold ptrV at k0 k4
  have HSOL := hid hsol
  have H := hid h
  have HA := hid ha
  have HBS := hid hbs
  clear hsol h hbs ha
  have q52 : ∀ (w : World) (a : Option Addr) (n c n' c' : Nat), (binOp .neq 52 (.slice a n c) (.slice none n' c')).run Tryz.prog w = .ok (.bool (!a.isNone)) w := fun w a n c n' c' => run_neq_slice_nil_any w _ _ a n c n' c' Tryz.underlying52
  have q53 : ∀ (w : World) (a : Option Addr) (n c n' c' : Nat), (binOp .eql 52 (.slice a n c) (.slice none n' c')).run Tryz.prog w = .ok (.bool a.isNone) w := fun w a n c n' c' => Lib.run_eql_slice_nil w _ _ a n c n' c' Tryz.underlying52
  refine calls_via fun K hK => ?_
  go_enter Tryz.func16, Tryz.ntmps16
  go_wp2_with fail
  refine HSOL.out.mono ?_
  rintro e w1 ⟨mv, s', rfl, hq⟩
  have hb := H.out.solvedB hq
  have HBW : Hid (Below B.M w w1) := hid (hq.fr.belowM H.out.Mle H.out.lf)
  have hfin := hq.fin
  rw [HA.out] at hb ⊢
  obtain ⟨ma, mc, rfl⟩ := hb.own.ints.len
  obtain ⟨_, _, htf⟩ := hb.tv.form
  injection htf with z1 z2 z3
  have hmc : mc = a.model.length := by rw [z2, z3]
  subst hmc
  clear z1 z2 z3
  obtain ⟨ml, hml⟩ : ∃ z, a.model.length = z := ⟨_, rfl⟩
  rw [hml] at hb ⊢
  obtain ⟨N5, hN5⟩ : ∃ z, w1.heap.size = z := ⟨_, rfl⟩
  have hC5 := CellsAt.mk_alloc w1 (ansL a (.slice ma ml ml)) 74
  obtain ⟨wa, hwa⟩ : ∃ z, w1.alloc (Obj.cells #[.int .i64 (a.err : Nat), .int .i64 (a.pos : Nat), .bool a.sat, .slice ma ml ml, .string (strN a.proof), .int .i64 (a.conf : Nat), .int .i64 (a.rest : Nat)] 74) = z := ⟨_, rfl⟩
  change CellsAt (w1.alloc (Obj.cells #[.int .i64 (a.err : Nat), .int .i64 (a.pos : Nat), .bool a.sat, .slice ma ml ml, .string (strN a.proof), .int .i64 (a.conf : Nat), .int .i64 (a.rest : Nat)] 74)) w1.heap.size _ at hC5
  rw [hwa, hN5] at hC5
  have HC5 := hid hC5
  have HB := hid hb
  have HFIN := hid hfin
  have HML := hid hml
  have HFA : Hid (Fr [] w1 wa) := hid (by rw [← hwa]; exact (Fr.refl _ _).alloc _)
  have HN5 := hid hN5
  have hml12 : ml ≤ 12 := by
    rw [← hml, ← HA.out]
    by_cases hz : (problemF bs).2.1 = 0
    · rcases (ans_law hz).2 with e | ⟨rs, e⟩
      · rw [e.l]; omega
      · rw [e.m]; simp
    · rw [solveF_err hz]; simp
  have HML12 := hid hml12
  clear hC5 hb hfin hml hq k0 k4 HSOL hml12
  unfold ansV
  simp only []
  go_wp2_with fail
  clear hwa hN5
  refine (newTow_any wa).mono ?_
  rintro e w2 ⟨Y, t0, rfl, hty, hfy, hf2⟩
  have k4 := hty.tow.c 4 _ rfl
  have hsol := hty.solve t htm
  rw [HBS.out, HA.out] at hsol
  have HSOL := hid hsol
  have HFY := hid hfy
  have HF2 := hid hf2
  have HTY0 := hid hty
  unfold ptrV at k4 ⊢
  clear hty hfy hf2 hsol
  go_wp2_with fail
  refine HSOL.out.mono ?_
  rintro e w3 ⟨cv, t1, rfl, hq⟩
  have hfin := hq.fin
  have hcI := hq.mod.ints
  rw [HA.out] at hcI
  obtain ⟨ca, cc, rfl⟩ := hcI.len
  have hcl := HML.out
  rw [hcl] at hcI
  have hmod := hq.mod
  rw [hcl] at hmod
  obtain ⟨N7, hN7⟩ : ∃ z, w3.heap.size = z := ⟨_, rfl⟩
  have hC7 := CellsAt.mk_alloc w3 (ansL a (.slice ca ml cc)) 74
  rw [hcl]
  obtain ⟨wb, hwb⟩ : ∃ z, w3.alloc (Obj.cells #[.int .i64 (a.err : Nat), .int .i64 (a.pos : Nat), .bool a.sat, .slice ca ml cc, .string (strN a.proof), .int .i64 (a.conf : Nat), .int .i64 (a.rest : Nat)] 74) = z := ⟨_, rfl⟩
  change CellsAt (w3.alloc (Obj.cells #[.int .i64 (a.err : Nat), .int .i64 (a.pos : Nat), .bool a.sat, .slice ca ml cc, .string (strN a.proof), .int .i64 (a.conf : Nat), .int .i64 (a.rest : Nat)] 74)) w3.heap.size _ at hC7
  rw [hwb, hN7] at hC7
  have hfb : Fr [] w3 wb := by rw [← hwb]; exact (Fr.refl _ _).alloc _
  have hfa2 : Fr [] w1 w2 := HFA.out.trans HF2.out
  have hfy : ∀ x ∈ foot Y t0, N5 < x := fun x hx => by
    have h1 := HFY.out x hx
    have h2 := lt_of_cellB (HC5.out.c 0 _ rfl)
    omega
  have hn5 : w1.heap.size = N5 := HN5.out
  have hfy1 : ∀ x ∈ foot Y t1, N5 < x := fun x hx => by
    rcases hq.nx x hx with e | e
    · exact hfy x e
    · have h2 := lt_of_cellB ((HC5.out.fr HF2.out (by simp) (by simp [ansL])).c 0 _ rfl); omega
  have hf3 : Fr [] w2 w3 ∨ True := .inr trivial
  have hf13 : Fr [] w1 w3 := hfa2.trans2 hq.fr (fun x hx hlt => by have := hfy x hx; omega)
  have hc : SsC w1 wb B (wdCells B { S with s := s' } q) N5 N7 (.slice ma ml ml) (.slice ca ml cc) a Y t1 := by
    have hwd := HB.out.wd
    have hf1b := hf13.trans hfb
    refine ⟨hf1b.mono (by simp), hwd.cc.fr hf1b (by simp) (by simp [wdCells]), hwd.ms.pm.fr hf1b (by simp), hwd.km.2.fr hf1b (by simp), ?_, hC7, hcI.fr hfb (by simp), hq.tw.fr0 hfb, by omega, by rw [← hN7]; exact hf13.size, fun g hg => ⟨?_, ?_⟩, fun x hx => by have := hfy1 x hx; omega, fun hm => by have := hfy1 _ hm; omega⟩
    · exact ((HC5.out.fr HF2.out (by simp) (by simp [ansL])).fr hq.fr (fun hm => by have := hfy _ hm; omega) (by simp [ansL])).fr hfb (by simp) (by simp [ansL])
    · have := hmod.base g hg; have := hfa2.size; omega
    · exact Nat.lt_of_lt_of_le (hmod.lt g hg) hfb.size
  have HC := hid hc
  have HFIN2 := hid hfin
  have k0 := hc.cc.c 0 _ rfl
  have k1 := hc.cc.c 1 _ rfl
  have k9 := hc.cc.c 9 _ rfl
  have hn57 : N5 ≠ N7 := by
    have := lt_of_cellB ((HC5.out.fr HF2.out (by simp) (by simp [ansL])).c 0 _ rfl)
    have := hq.fr.size
    omega
  have HN57 := hid hn57
  have hsame := ans_same HA.out
  have hmne := H.out.ne.mmp
  have HMS : Hid (∀ wx, MsAt wx B.m B.mp → Calls Tryz.prog 26 #[.pointer (some ⟨B.m, 0, none⟩), .string t] wx fun e w' => (∃ x9 n9 c9 pf, e = .returned (.agg #[.int .i64 (a.err : Nat), .int .i64 (a.pos : Nat), .bool a.sat, .slice x9 n9 c9, .string pf, .int .i64 0, .int .i64 0])) ∧ PMAt w' B.mp ∧ Fr [B.mp] wx w') := hid (fun wx hm => by
    have := msolve_any hm hmne t htm
    unfold ansM at this
    rw [HBS.out, hsame.1, hsame.2.1, hsame.2.2] at this
    exact this)
  clear hc hC7 hfin hfb hf13 hfa2 hfy hfy1 hn5 hq hcI hcl hn57 hf3 hmod hsame hmne HSOL HFY HF2 HFA HC5 HTY0 k4
  unfold ansV ptrV at *
  simp only [] at *
  cases q
  case' false =>
    go_wp2_with fail
    obtain ⟨L, hL⟩ : ∃ z, z = B.X := ⟨_, rfl⟩
    obtain ⟨tl, htl⟩ : ∃ z, z = s' := ⟨_, rfl⟩
    have HLK : Hid (IsLook false B s' Y t1 L tl) := hid (.inl ⟨rfl, hL, htl⟩)
    have HLF : Hid ((problemF bs).2.1 = 0 → tl.W = (runE (problemF bs).1).s.W ∧ tl.T = (runE (problemF bs).1).s.T) := hid (by rw [htl]; exact HFIN.out)
    rw [← hL]
    clear hL htl HFIN HFIN2 k9 hwb hN7
  case' true =>
    go_wp2_with fail
    obtain ⟨L, hL⟩ : ∃ z, z = Y := ⟨_, rfl⟩
    obtain ⟨tl, htl⟩ : ∃ z, z = t1 := ⟨_, rfl⟩
    have HLK : Hid (IsLook true B s' Y t1 L tl) := hid (.inr ⟨rfl, hL, htl⟩)
    have HLF : Hid ((problemF bs).2.1 = 0 → tl.W = (runE (problemF bs).1).s.W ∧ tl.T = (runE (problemF bs).1).s.T) := hid (by rw [htl]; exact HFIN2.out)
    rw [← hL]
    clear hL htl HFIN HFIN2 k9 hwb hN7
  all_goals
    have hwd := HB.out.wd
    have hne := hwd.ne
    have hms : MsAt wb B.m B.mp := ⟨HC.out.fr.cell hwd.ms.c (by simp; exact ⟨fun e => hne.wm e.symm, hne.mmp, hne.mpp⟩), HC.out.pm⟩
    clear hwd hne k0 k1
    refine (HMS.out wb hms).mono ?_
    rintro e w4 ⟨⟨x9, n9, c9, pf, rfl⟩, hp4, hf4⟩
    obtain ⟨N9, hN9⟩ : ∃ z, w4.heap.size = z := ⟨_, rfl⟩
    have hC9 := CellsAt.mk_alloc w4 [.int .i64 (a.err : Nat), .int .i64 (a.pos : Nat), .bool a.sat, .slice x9 n9 c9, .string pf, .int .i64 0, .int .i64 0] 74
    obtain ⟨wc, hwc⟩ : ∃ z, w4.alloc (Obj.cells #[.int .i64 (a.err : Nat), .int .i64 (a.pos : Nat), .bool a.sat, .slice x9 n9 c9, .string pf, .int .i64 0, .int .i64 0] 74) = z := ⟨_, rfl⟩
    change CellsAt (w4.alloc (Obj.cells #[.int .i64 (a.err : Nat), .int .i64 (a.pos : Nat), .bool a.sat, .slice x9 n9 c9, .string pf, .int .i64 0, .int .i64 0] 74)) w4.heap.size _ at hC9
    rw [hwc, hN9] at hC9
    have HC9 := hid hC9
    have HP4 := hid hp4
    have HF4 := hid hf4
    have HWC := hid hwc
    clear hms hC9 hp4 hf4 hwc
    go_wp2_with fail
    rw [HWC.out]
    have hwd := HB.out.wd
    have hne := hwd.ne
    have hf4c : Fr [B.mp] wb wc := HF4.out.trans (by rw [← HWC.out]; exact ((Fr.refl [] w4).alloc _).mono (by simp))
    have hf0c : Fr [] w4 wc := by rw [← HWC.out]; exact (Fr.refl [] w4).alloc _
    have hcc := HC.out.step hwd hf4c (by simp) (HC.out.cc.fr hf4c (by simp; exact hne.wmp) (by simp [wdCells])) (HP4.out.fr hf0c (by simp)) (HC.out.pp.fr hf4c (by simp; exact hne.mppp.symm))
    have hmm : OwnM wc B.M S.mine S.ml (blk (.slice ma ml ml) ++ (side B ++ foot B.X s')) := HB.out.mm.fr hcc.fr (fun x hx => by
      left
      simp only [List.mem_cons, List.not_mem_nil, or_false] at hx
      rcases hx with e | e | e <;> simp [side, e])
    have HCC := hid hcc
    have HMM := hid hmm
    have hst := hwd.st
    have hln := hwd.ln
    have h9l : w4.heap.size = N9 := hN9
    have hlt5 : N5 < wb.heap.size := lt_of_cellB (HC.out.c5.c 0 _ rfl)
    have HN9 : Hid (N5 < N9) := hid (by have := HF4.out.size; omega)
    clear hN9 h9l hlt5 hne hf4c hf0c HC HP4 HF4 HWC
    refine (untouched_any hcc.cc rfl hmm hst hln).mono ?_
    clear hcc hmm hst hln hwd
    rintro e w' ⟨rfl, rfl⟩
    have k5 := HCC.out.c5.c 4 _ rfl
    have b6 := HCC.out.cc.c 6 _ rfl
    have b7 := HCC.out.cc.c 7 _ rfl
    have bz := HCC.out.cc.fz
    have hwd := HB.out.wd
    have hwl : B.wb < w1.heap.size := hwd.side_lt _ (by simp [side])
    have hwN : ¬ B.wb = N5 := by have := HCC.out.h5; omega
    have hwN2 : ¬ N5 = B.wb := fun e => hwN e.symm
    have hwN9 : N9 ≠ B.wb := by have := HN9.out; have := HCC.out.h5; omega
    obtain ⟨wd, hwd2⟩ : ∃ z, (w'.setCell ⟨B.wb, 6, none⟩ (.string t)).setCell ⟨B.wb, 7, none⟩ (.string (strN a.proof)) = z := ⟨_, rfl⟩
    have hfd : Fr [B.wb] w' wd := by rw [← hwd2]; exact ((Fr.refl [B.wb] w').setG 6 _).setG 7 _
    have hcw := (HCC.out.cc.set 6 (by simp [wdCells]) (.string t)).set 7 (by simp [wdCells]) (.string (strN a.proof))
    rw [hwd2] at hcw
    have hne := hwd.ne
    have hcd := HCC.out.step hwd hfd (by simp) hcw (HCC.out.pm.fr hfd (by simp; exact hne.wmp.symm)) (HCC.out.pp.fr hfd (by simp; exact hne.wpp.symm))
    have hmd := HMM.out.fr hfd (fun x hx => by rw [List.mem_singleton] at hx; rw [hx]; left; simp [side])
    have h9 := HC9.out.fr hfd (by simp; exact hwN9) (by simp)
    have HCD := hid hcd
    have HMD := hid hmd
    have HC9D := hid h9
    have c50 := hcd.c5.c 0 _ rfl
    have c51 := hcd.c5.c 1 _ rfl
    have c52 := hcd.c5.c 2 _ rfl
    have c53 := hcd.c5.c 3 _ rfl
    have c54 := hcd.c5.c 4 _ rfl
    have c55 := hcd.c5.c 5 _ rfl
    have c56 := hcd.c5.c 6 _ rfl
    have c70 := hcd.c7.c 0 _ rfl
    have c71 := hcd.c7.c 1 _ rfl
    have c72 := hcd.c7.c 2 _ rfl
    have c73 := hcd.c7.c 3 _ rfl
    have c74 := hcd.c7.c 4 _ rfl
    have c75 := hcd.c7.c 5 _ rfl
    have c76 := hcd.c7.c 6 _ rfl
    have c90 := h9.c 0 _ rfl
    have c91 := h9.c 1 _ rfl
    have c92 := h9.c 2 _ rfl
    clear hcd hmd h9 hne hcw hfd hwl hwN9 hwd HCC HMM HC9 HN9
    go_wp2_with fail
    clear c50 c51 c52 c53 c54 c55 c56 c70 c71 c72 c73 c74 c75 c76 c90 c91 c92 k5 b6 b7 bz hwd2
    have hside : ∀ x ∈ [B.wb, B.mp, B.pp], x ∈ side B := fun x hx => by
      simp only [List.mem_cons, List.not_mem_nil, or_false] at hx
      rcases hx with e | e | e <;> simp [side, e]
    have hmi : Ints wd (.slice ma ml ml) a.model := HB.out.own.ints.fr HCD.out.fr (fun g hg hm => (HB.out.md g hg).2.1 (hside g hm))
    refine (sameAnswer_any a hmi HCD.out.mi (by have := HML.out; have := HML12.out; omega)).mono ?_
    rintro e w5 ⟨rfl, hf5⟩
    have hce := HCD.out.step0 HB.out.wd (by simp [wdCells]) hf5
    have hme := HMD.out.fr hf5 (by simp)
    have HCE := hid hce
    have HME := hid hme
    have c50 := hce.c5.c 0 _ rfl
    have c51 := hce.c5.c 1 _ rfl
    have c52 := hce.c5.c 2 _ rfl
    have c53 := hce.c5.c 3 _ rfl
    have c54 := hce.c5.c 4 _ rfl
    have c55 := hce.c5.c 5 _ rfl
    have c56 := hce.c5.c 6 _ rfl
    clear hce hme hmi hside hf5 HCD HMD HC9D
    by_cases he : (problemF bs).2.1 = 0
    · have hoo := ans_law he
      rw [HA.out] at hoo
      have hz1 : ((a.err : Int) != 0) = false := by rw [hoo.1.e]; rfl
      have HOO := hid hoo
      have HE := hid he
      clear hoo he
      go_wp2_with fail
      clear c50 c51 c52 c53 c54 c55 c56 hz1
      refine (gauges_any a (.slice ma ml ml) HOO.out.1.g w5).mono ?_
      rintro e w6 ⟨rfl, hf6⟩
      have hce := HCE.out.step0 HB.out.wd (by simp [wdCells]) hf6
      have hme := HME.out.fr hf6 (by simp)
      have HCF := hid hce
      have HMF := hid hme
      have k2 := hce.cc.c 2 _ rfl
      unfold ptrV at k2
      clear hce hme hf6 HCE HME
      go_wp2_with fail
      clear k2
      obtain ⟨hlk, hls⟩ := HCF.out.look HB.out.wd HLK.out
      have hD0 : ∀ g ∈ B.pp :: B.wb :: foot L tl, g < w6.heap.size := fun g hg => by
        rcases List.mem_cons.1 hg with e | e
        · rw [e]; exact HCF.out.pp.lt
        · rcases List.mem_cons.1 e with e | e
          · rw [e]; exact lt_of_cellB (HCF.out.cc.c 0 _ rfl)
          · exact hlk.lt g e
      have hpa := problem_any HCF.out.pp t htm _ hD0
      rw [HBS.out] at hpa
      have hok := problemF_ok bs
      obtain ⟨ps, hps⟩ : ∃ z, (problemF bs).1 = z := ⟨_, rfl⟩
      refine hpa.mono ?_
      rintro e w7 ⟨rv, rfl, hpo⟩
      have hne := HB.out.wd.ne
      have hcg := HCF.out.step HB.out.wd hpo.fr (by simp) (HCF.out.cc.fr hpo.fr (by simp; exact hne.wpp) (by simp [wdCells])) (HCF.out.pm.fr hpo.fr (by simp; exact hne.mppp)) hpo.pm
      have hmg := HMF.out.fr hpo.fr (fun x hx => by rw [List.mem_singleton] at hx; rw [hx]; left; simp [side])
      obtain ⟨us1, hub⟩ := hpo.own.matB
      have HOWN := hid hpo.own
      have HUB := hid hub
      have HCG := hid hcg
      have HMG := hid hmg
      have HOK := hid hok
      have HLS := hid hls
      have c70 := hcg.c7.c 0 _ rfl
      have c71 := hcg.c7.c 1 _ rfl
      have c72 := hcg.c7.c 2 _ rfl
      have c73 := hcg.c7.c 3 _ rfl
      have c74 := hcg.c7.c 4 _ rfl
      have c75 := hcg.c7.c 5 _ rfl
      have c76 := hcg.c7.c 6 _ rfl
      have HPS := hid hps
      clear hcg hmg hub hpo hok hpa hD0 hlk hls hne HCF HMF hps
      go_wp2_with fail
      clear c70 c71 c72 c73 c74 c75 c76
      obtain ⟨hlk, _⟩ := HCG.out.look HB.out.wd HLK.out
      have hlf := HLF.out HE.out
      have hval : ∀ x ∈ a.model, tl.T.value x = 1 := by
        rw [hlf.2]
        rcases HOO.out.2 with z | ⟨rs, z⟩
        · exact z.val
        · rw [z.m]; simp
      have hpr : PR ps tl.W := by rw [hlf.1, ← HPS.out]; exact HOO.out.1.pr
      have hubp := HUB.out
      rw [HPS.out] at hubp
      have hokp := HOK.out
      rw [HPS.out] at hokp
      refine (handed_any (a := a) (mv := .slice ca ml cc) hlk.tow hlk.leg.en.wt hlk.leg.en.tr hubp hokp hpr HCG.out.mi (by have := HML.out; have := HML12.out; omega) hval).mono ?_
      rintro e w8 ⟨rfl, hf8⟩
      have hch := HCG.out.step0 HB.out.wd (by simp [wdCells]) hf8
      have HCH := hid hch
      have HMH := hid (HMG.out.fr hf8 (by simp))
      have HOWN2 := hid (HOWN.out.fr hf8 (by simp))
      have c52 := hch.c5.c 2 _ rfl
      have c53 := hch.c5.c 3 _ rfl
      have c54 := hch.c5.c 4 _ rfl
      clear hlk hlf hval hpr hubp hokp hch hf8 HCG HMG HOWN HUB
      rcases HOO.out.2 with hsa | ⟨rs, hun⟩
      · have HSA := hid hsa
        obtain ⟨ae, ap, asat, am, apf, ac, ar⟩ := a
        have hsat := hsa.s
        have hpf := hsa.pf
        have hlen := hsa.l
        simp only [] at hsat hpf hlen
        have hml := HML.out
        simp only [] at hml
        rw [hlen] at hml
        subst hsat hpf hml
        rw [show strN [] = ⟨#[]⟩ from rfl] at c54 ⊢
        clear hsa hlen
        go_wp2_with fail
        have hmv := HB.out.own
        have hmd := HB.out.md
        simp only [] at hmv hmd
        rcases hmv.shape with ⟨z, _⟩ | ⟨g, cap, z⟩
        · simp at z
        simp only [Value.slice.injEq] at z
        obtain ⟨⟨rfl, z1, z2⟩, z3⟩ := z
        clear z1 z2 z3
        have hgm := hmd g rfl
        have hgs : g ∉ [B.wb, B.mp, B.pp] := fun hm => hgm.2.1 (by
          simp only [List.mem_cons, List.not_mem_nil, or_false] at hm
          rcases hm with e | e | e <;> simp [side, e])
        have hm8 := hmv.fr HCH.out.fr (fun x hx => by simp [Value.ownBlock] at hx; rw [← hx]; exact hgs)
        obtain ⟨M, hM1, hM2, hM3⟩ := HSA.out.mask
        simp only [] at hM1
        have HM8 := hid hm8
        have HM3 := hid hM3
        have HGM := hid hgm
        clear hmv hmd hgm hgs
        refine (mask_any hm8.ints HSA.out.l hM1).mono ?_
        rintro e w' ⟨rfl, rfl⟩
        clear hm8 hM1
        go_wp2_with fail
        refine (allHold_any HOWN2.out.mat M (rowsOK_of HOK.out) hM2).mono ?_
        rintro e w8 ⟨rfl, hw8⟩
        have hw9 := hw8.symm
        subst hw9
        rw [HM3.out]
        clear hw8
        go_wp2_with fail
        have hg5 : N5 ∉ [g] := fun hm => by
          rw [List.mem_singleton] at hm
          have := (HGM.out).1
          have := HCH.out.h5
          omega
        have HG5 := hid hg5
        have HC53 := hid c53
        have HWS := hid (lt_of_cellB c53)
        clear hg5 c52 c53 c54
        go_loopg [15] 12 (fun h i wr => ∃ k : Nat, h + k = 12 ∧ i = .int .i64 (k : Nat) ∧ Fr [g] w' wr ∧ ∃ l', l'.length = 12 ∧ OwnI wr w.heap.size (.slice (some ⟨g, 0, none⟩) 12 12) l' ∧ ∀ j, j < k → l'.getD j 0 = -7777777)
        case atStart => exact ⟨0, by omega, rfl, Fr.refl _ _, am, HSA.out.l, HM8.out, fun j hj => by omega⟩
        case round =>
          obtain ⟨k, hg, rfl, hfr, l', hl', ho, hj⟩ := hrel
          have c53 := hfr.cell HC53.out HG5.out
          have HFR := hid hfr
          have HO := hid ho
          have HJ := hid hj
          have HL' := hid hl'
          have HG := hid hg
          by_cases hlt : k < 12
          · have hki : (k : Int) < 12 := by omega
            have hcg := ho.get k (by omega)
            have hcz := ho.frozen k
            have HLT := hid hlt
            clear hg hfr hl' ho hj hlt
            go_wp2_with fail
            go_roundg (gk - 1)
            case measure => have := HG.out; have := HLT.out; omega
            case rel =>
              have hg := HG.out
              have hlt := HLT.out
              refine ⟨k + 1, by omega, by simp, HFR.out.setG _ _, l'.set k (-7777777), by rw [List.length_set]; exact HL'.out, HO.out.setg HL'.out k _, fun j hj => ?_⟩
              have hl := HL'.out
              rw [List.getD_eq_getElem?_getD, List.getElem?_set]
              by_cases e : k = j
              · rw [if_pos e, if_pos (by omega)]; rfl
              · rw [if_neg e, ← List.getD_eq_getElem?_getD]; exact HJ.out j (by omega)
          · have hk12 : k = 12 := by omega
            subst hk12
            have hz : l'.length ≤ 12 ∧ ∀ y ∈ l', y = -7777777 := ⟨by omega, fun y hy => by
              obtain ⟨j, hjl, rfl⟩ := List.getElem_of_mem hy
              have := HJ.out j (by omega)
              rw [List.getD_eq_getElem?_getD, List.getElem?_eq_getElem hjl] at this
              exact this⟩
            have HZ := hid hz
            have hwd := HCH.out.wd HB.out.wd ht (by rw [strN_size]; simp)
            have hwe := hwd.stamp hfr (fun x hx => by rw [List.mem_singleton] at hx; rw [hx]; exact HGM.out.2) HMH.out
            have HWE := hid hwe
            have hgM : B.M ≤ g := Nat.le_trans H.out.Mle (HB.out.own.base g rfl)
            have HBL : Hid (Below B.M w wr) := hid ((HBW.out.trans (HCH.out.below HB.out.wd)).trans (hfr.belowM hwd.Mle (fun x hx => by rw [List.mem_singleton] at hx; rw [hx]; exact hgM)))
            clear hg hfr hl' ho hj hlt hz hwd hwe hgM
            go_wp2_with fail
            have hlv : ∀ x, (Value.slice (some ⟨g, 0, none⟩) 12 12).ownBlock = some x → S.mine.ownBlock ≠ some x ∧ x < wr.heap.size ∧ x ∉ side B ++ foot B.X s' := fun x hx => by
              simp [Value.ownBlock] at hx
              subst hx
              have hgl := HGM.out
              refine ⟨fun e => ?_, HO.out.lt _ rfl, ?_⟩
              · exact HMH.out.nb g (List.mem_append_left _ (mem_blk.2 rfl)) (mem_blk.2 e)
              · simp; exact ⟨fun e => hgl.2.1 e, fun e => hgl.2.2 e⟩
            have hkeep := HWE.out.keep HO.out.ints HZ.out hlv
            clear hlv
            refine hkeep.mono ?_
            clear hkeep
            rintro e w9 ⟨rfl, hk1, hk2⟩
            have HK1 := hid hk1
            have HK2 := hid hk2
            clear hk1 hk2
            go_wp2_with fail
            exact hK.out _ _ ⟨rfl, HK1.out, HBL.out.trans HK2.out⟩
      · have HUN := hid hun
        obtain ⟨ae, ap, asat, am, apf, ac, ar⟩ := a
        have hsat := hun.s
        have hm0 := hun.m
        simp only [] at hsat hm0
        have hml := HML.out
        simp only [] at hml
        rw [hm0] at hml
        simp only [List.length_nil] at hml
        subst hsat hm0 hml
        have hnil := HB.out.tv.nil
        injection hnil with y1 y2 y3
        subst y1
        clear hun
        go_wp2_with fail
        have hwd := HCH.out.wd HB.out.wd ht (by have := HUN.out.sz; simp only [] at this; unfold maxLen; omega)
        obtain ⟨hlk, hls⟩ := HCH.out.look HB.out.wd HLK.out
        have hne := hwd.ne
        have hchk := HUN.out.chk
        simp only [] at hchk
        refine (sameCheck_any hwd.cc hwd.km hlk (hls _ (by simp [side])) (hls _ (by simp [side])) (hls _ (by simp [side])) hne.wpp hne.ppk.symm t (strN apf) htm (by have := HUN.out.sz; simp only [] at this; unfold maxLen; omega)).mono ?_
        rintro e w9 ⟨⟨v, hv, rfl⟩, s2, hq⟩
        rw [HBS.out, hchk] at hv
        subst hv
        unfold verdV
        simp only []
        obtain ⟨z, hz⟩ : ∃ z : Int, ((0 : Nat) : Int) = z := ⟨_, rfl⟩
        rw [hz]
        have hz1 : (z != 0) = false := by rw [← hz]; rfl
        have HQ := hid hq
        have HN5L := hid (HCH.out.n5look HB.out.wd HLK.out)
        obtain ⟨s3, hd⟩ := HCH.out.done HB.out.wd ht (by have := HUN.out.sz; simp only [] at this; unfold maxLen; omega) HLK.out hq
        have HD := hid hd
        have HBL := hid (HBW.out.trans (HCH.out.lookM HB.out.wd HLK.out hq))
        have hc5 := HCH.out.c5.fr hq.fr HN5L.out (by simp [ansL])
        have HC5 := hid hc5
        have HOW := hid (HOWN2.out.fr hq.fr (fun x hx => .inl (by
          rcases List.mem_cons.1 hx with e | e
          · rw [e]; exact List.mem_cons_self
          · exact List.mem_cons_of_mem _ (List.mem_cons_of_mem _ e))))
        obtain ⟨N16, hN16⟩ : ∃ x, w9.heap.size = x := ⟨_, rfl⟩
        have hcv := CellsAt.mk_alloc w9 [.int .i64 z, .int .i64 z, .int .i64 z] 48
        obtain ⟨wz, hwz⟩ : ∃ x, w9.alloc (Obj.cells #[.int .i64 z, .int .i64 z, .int .i64 z] 48) = x := ⟨_, rfl⟩
        change CellsAt (w9.alloc (Obj.cells #[.int .i64 z, .int .i64 z, .int .i64 z] 48)) w9.heap.size _ at hcv
        rw [hwz, hN16] at hcv
        have HFZ : Hid (Fr [] w9 wz) := hid (by rw [← hwz]; exact (Fr.refl _ _).alloc _)
        have v0 := hcv.c 0 _ rfl
        have hdz := hd.step (S2 := { S with s := s3, lt := t, lp := strN apf }) HFZ.out (by simp) (hd.cc.fr HFZ.out (by simp) (by simp [wdCells])) (hd.ms.pm.fr HFZ.out (by simp)) (hd.km.2.fr HFZ.out (by simp)) rfl rfl rfl hd.z1 hd.z2 hd.z3 hd.z4
        have hcz := hc5.fr HFZ.out (by simp) (by simp [ansL])
        have HDZ := hid hdz
        have HCZ := hid hcz
        have k2 := hdz.cc.c 2 _ rfl
        have c54 := hcz.c 4 _ rfl
        have c55 := hcz.c 5 _ rfl
        unfold ptrV at k2
        clear hwd hlk hls hne hchk hq hd hc5 c52 c53 hz hcv hdz hcz HC5
        go_upto_region 41 with fail
        have hread := HUN.out.read
        have hfl : (flatOf rs).length ≤ 100000000 := by
          have := parseF_len2 (bytesOf (strN apf))
          rw [parseF_eq] at this
          simp only [] at hread
          rw [hread] at this
          simp only [] at this
          omega
        have hpsz : (strN apf).size ≤ maxLen := by have := HUN.out.sz; simp only [] at this; unfold maxLen; omega
        obtain ⟨NZ, hNZ⟩ : ∃ x, wz.heap.size = x := ⟨_, rfl⟩
        have hpN : NZ ∉ [B.pp] := fun hm => by rw [List.mem_singleton] at hm; have := HDZ.out.km.2.lt; omega
        have HPM : Hid (∀ wx, Fr [] wz wx → Calls Tryz.prog 34 #[.pointer (some ⟨B.pp, 0, none⟩), .string (strN apf)] wx fun e w' => ∃ x n c, e = .returned (.agg #[.int .i64 0, .int .i64 0, .slice x n c]) ∧ Ints w' (.slice x n c) (flatOf rs) ∧ PMAt w' B.pp ∧ Fr [B.pp] wx w' ∧ (∀ g, (Value.slice x n c).ownBlock = some g → wx.heap.size ≤ g ∧ g < w'.heap.size) ∧ (∀ i v, wx.cell? ⟨NZ, i, none⟩ = some v → w'.cell? ⟨NZ, i, none⟩ = some v) ∧ (∀ i, NZ < wx.heap.size → w'.frozen? ⟨NZ, i, none⟩ = wx.frozen? ⟨NZ, i, none⟩)) := hid (fun wx hx => by
          refine (parseM_any (HDZ.out.km.2.fr hx (by simp)) (strN apf) hpsz).mono ?_
          rintro e w' ⟨v, hv⟩
          have h1 := hv.e
          have h2 := hv.own
          simp only [] at hread
          rw [hread] at h1 h2
          simp only [] at h1 h2
          obtain ⟨x, n, c, rfl⟩ := h2.sl
          exact ⟨x, n, c, h1, h2.ints, hv.pm, hv.fr, fun g hg => ⟨h2.base g hg, h2.lt g hg⟩, fun i v hi => hv.fr.cell hi hpN, fun i hi => hv.fr.froz hi hpN⟩)
        have HFL := hid hfl
        have hcn := CellsAt.mk_alloc wz [.int .i64 0, .int .i64 0, .slice none 0 0] 86
        change CellsAt (wz.alloc (Obj.cells #[.int .i64 0, .int .i64 0, .slice none 0 0] 86)) wz.heap.size _ at hcn
        rw [hNZ] at hcn
        have HZ0 : Hid ((wz.alloc (Obj.cells #[.int .i64 0, .int .i64 0, .slice none 0 0] 86)).drew.cell? ⟨NZ, 0, none⟩ = some (.int .i64 0)) := hid (hcn.c 0 _ rfl)
        have HZ1 : Hid ((wz.alloc (Obj.cells #[.int .i64 0, .int .i64 0, .slice none 0 0] 86)).drew.cell? ⟨NZ, 1, none⟩ = some (.int .i64 0)) := hid (hcn.c 1 _ rfl)
        have HZ2 : Hid ((wz.alloc (Obj.cells #[.int .i64 0, .int .i64 0, .slice none 0 0] 86)).drew.cell? ⟨NZ, 2, none⟩ = some (.slice none 0 0)) := hid (hcn.c 2 _ rfl)
        have HZF : Hid (∀ i, (wz.alloc (Obj.cells #[.int .i64 0, .int .i64 0, .slice none 0 0] 86)).drew.frozen? ⟨NZ, i, none⟩ = false) := hid hcn.fz
        have HZS : Hid (NZ < (wz.alloc (Obj.cells #[.int .i64 0, .int .i64 0, .slice none 0 0] 86)).drew.heap.size) := hid (lt_of_cellB (hcn.c 0 _ rfl))
        have hn1 : ¬ N5 = NZ := by have := lt_of_cellB c54; omega
        have hn2 : ¬ B.wb = NZ := by have := lt_of_cellB k2; omega
        have hn3 : N5 < NZ := by have := lt_of_cellB c54; omega
        have hn4 : B.wb < NZ := by have := lt_of_cellB k2; omega
        clear hread hfl hpsz hpN hcn
        go_cut [18] (fun d wx => ∃ D x n c, d = .pointer (some ⟨D, 0, none⟩) ∧ POut wz wx B.pp NZ D x n c (flatOf rs))
        case first =>
          go_region_with (go_at_call 34; refine (HPM.out _ (by first | exact Fr.refl _ _ | exact (Fr.refl _ _).drew | exact Fr.of_drewN _ | exact ((Fr.refl [] wz).drew).alloc _ | exact ((Fr.refl [] wz).alloc _).drew)).mono ?_; rintro e w2 ⟨x, n, c, rfl, hin, hpm, hfp, hxb, hxk, hxf⟩; first | (have e0 := hxk 0 (.int .i64 0) HZ0.out; have e1 := hxk 1 (.int .i64 0) HZ1.out; have e2 := hxk 2 (.slice none 0 0) HZ2.out; have f0 := fun i => (hxf i HZS.out).trans (HZF.out i)) | skip)
          all_goals (go_wp2_with fail; go_meet)
          all_goals first
            | exact ⟨_, _, _, _, rfl, POut.late hNZ hin hpm hfp⟩
            | exact ⟨_, _, _, _, rfl, POut.early hNZ (by have := HDZ.out.km.2.lt; omega) hin hxb hpm hfp e0 e1 e2 f0⟩
        case rest =>
          obtain ⟨D, x, n, c, rfl, hpo⟩ := hcut
          have HPO := hid hpo
          have d2 := hpo.cc.c 2 _ rfl
          have hfl := HFL.out
          have hro := rowsOf_flat HUN.out.ok
          have hNZ2 := hNZ
          clear hpo c54 c55 k2 v0 hz1 hwz hN16 hNZ hn1 hn2 hn3 hn4 HZ0 HZ1 HZ2 HZF HZS HPM
          go_wp2_with fail
          refine (rowsD_any HPO.out.ints hfl [] (by simp)).mono ?_
          rintro e wf ⟨v', rfl, hor, hff⟩
          rw [hro] at hor
          have HOR := hid hor
          have HFF := hid hff
          have HRL := hid HUN.out.rl
          have hcp : N5 ∉ [B.pp] := fun hm => by
            rw [List.mem_singleton] at hm
            exact HN5L.out (hm ▸ List.mem_cons_self)
          have c55 := ((HCZ.out.fr HPO.out.fr hcp (by simp [ansL])).fr hff (by simp) (by simp [ansL])).c 5 _ rfl
          have hadd := HUN.out.adds
          simp only [] at hadd
          have HAD : Hid (∀ wx, Fr [] wf wx → Calls Tryz.prog 36 #[v'] wx fun e w' => e = .returned (.int .i64 (ac : Nat)) ∧ w' = wx) := hid (fun wx hx => by
            have := adds_any (HOR.out.fr hx (by simp)) HRL.out
            rw [hadd] at this; exact this)
          clear hor hff hcp hadd d2 hfl hro hNZ2
          go_wp2_with fail
          go_quiet ((go_at_call 36; exact (HAD.out _ (by first | exact Fr.refl _ _ | exact (Fr.refl _ _).drew | exact Fr.of_drewN _)).mono fun _ _ h => ⟨h.1, _, h.2⟩))
          go_wp2_with fail
          obtain ⟨hlk, hls⟩ := HCH.out.look HB.out.wd HLK.out
          have hppf : ∀ x ∈ foot L s2, x ∉ [B.pp] := fun y hy hm => by
            rw [List.mem_singleton] at hm
            subst hm
            rcases HQ.out.nx _ hy with z | z
            · exact hls _ (by simp [side]) z
            · have := HCH.out.pp.lt; omega
          have htw := (((HQ.out.tw.fr0 HFZ.out).fr HPO.out.fr hppf).fr0 HFF.out).fr0 (Fr.of_drewN (w := wf) (n := nq) [])
          have hWe : s2.W = (runE ps).s.W := by rw [HQ.out.W, ← HPS.out]; exact (HLF.out HE.out).1
          have HWE := hid hWe
          refine (towLive_any htw.tow htw.leg.en.wt).mono ?_
          rintro e wg ⟨lv, rfl, hol, hfg⟩
          clear hlk hls hppf htw hWe c55
          have HOL := hid hol
          have HFG := hid ((Fr.of_drewN (w := wf) (n := nq) []).trans hfg)
          clear hol hfg
          go_wp2_with fail
          have hfz := HFZ.out
          have hfo := HPO.out.fr
          have hff := HFF.out.trans HFG.out
          have hpw := ((HOW.out.fr hfz (by simp)).fr hfo (fun x hx => by rw [List.mem_singleton] at hx; rw [hx]; exact .inl List.mem_cons_self)).fr hff (by simp)
          obtain ⟨us5, hm5⟩ := hpw.matB
          obtain ⟨us6, hm6⟩ := HOL.out.matB
          rw [HPS.out] at hm5
          obtain ⟨b, hrun, hperm⟩ := HUN.out.run
          rw [HPS.out] at hrun hperm
          have hokp := HOK.out
          rw [HPS.out] at hokp
          rw [HWE.out] at hm6
          have hbc := hrun.cc hokp.2 HUN.out.ok
          refine (logIsStore_any hm5 (HOR.out.fr HFG.out (by simp)) hm6 hokp HUN.out.ok HUN.out.rl hrun hperm (by have := liveL_len (runE ps).s.W; omega) (fun d hd => (checkClause_facts (hbc d (hperm.mem_iff.2 (List.mem_cons_of_mem _ hd)))).1)).mono ?_
          rintro e wh ⟨rfl, hfh⟩
          clear hpw hm5 hm6 hrun hperm hokp hbc
          have hfa := hff.trans hfh
          have HFA2 := hid (hfo.trans (hfa.mono (by simp)))
          have HPM2 := hid (HPO.out.pm.fr hfa (by simp))
          clear hfh hfa hfz hfo hff
          go_wp2_with fail
          have hdz := HDZ.out
          have hne := hdz.ne
          have hbm : B.M ≤ w9.heap.size := HD.out.Mle
          exact hK.out _ _ ⟨rfl, ⟨_, hdz.step (S2 := { S with s := s3, lt := t, lp := strN apf }) HFA2.out (fun x hx _ => by rw [List.mem_singleton] at hx; exact .inr (.inr hx)) (hdz.cc.fr HFA2.out (by simp; exact hne.wpp) (by simp [wdCells])) (hdz.ms.pm.fr HFA2.out (by simp; exact hne.mppp)) HPM2.out rfl rfl rfl hdz.z1 hdz.z2 hdz.z3 hdz.z4⟩, (HBL.out.trans (HFZ.out.belowM hbm (by simp))).trans (HFA2.out.belowM hdz.Mle (fun x hx => by rw [List.mem_singleton] at hx; rw [hx]; exact hdz.lo _ (by simp [side])))⟩
    · have ha2 := HA.out
      rw [solveF_err he] at ha2
      obtain ⟨ae, ap, asat, am, apf, ac, ar⟩ := a
      simp only [AnsS.mk.injEq] at ha2
      obtain ⟨z1, z2, rfl, rfl, rfl, rfl, rfl⟩ := ha2
      have hml0 := HML.out
      simp only [List.length_nil] at hml0
      subst hml0
      have hnil := HB.out.tv.nil
      injection hnil with y1 y2 y3
      subst y1
      have hz1 : ((ae : Int) != 0) = true := by rw [← z1]; simp [he]
      rw [show strN [] = ⟨#[]⟩ from rfl] at c54 ⊢
      have c55 : w5.cell? ⟨N5, 5, none⟩ = some (.int .i64 0) := c55
      have c56 : w5.cell? ⟨N5, 6, none⟩ = some (.int .i64 0) := c56
      clear z1 z2 he
      go_wp2_with fail
      exact hK.out _ _ ⟨rfl, ⟨_, HCE.out.wd HB.out.wd ht (by rw [strN_size]; simp)⟩, HBW.out.trans (HCE.out.below HB.out.wd)⟩
end Go.Proofs.Qxb6500354aGreat
