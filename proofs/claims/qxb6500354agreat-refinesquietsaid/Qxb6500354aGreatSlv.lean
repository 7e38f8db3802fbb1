/- The solver, plainly: how it answers a text; the state in the midst of Solve. -/
import Derived.Test.Qxb6500354aGreatRef
import Derived.Test.Qxb6500354aGreatMs
namespace Go.Proofs.Qxb6500354aGreat
open Go.RowKit
set_option linter.unusedVariables false
set_option linter.unusedSimpArgs false

structure AnsS where
  err : Nat
  pos : Nat
  sat : Bool
  model : List Int
  proof : List Nat
  conf : Nat
  rest : Nat
def fuelN : Nat := 60000
def runE (ps : List (List Int)) : EndS := (solveN fuelN (startSt ps)).getD ⟨false, startSt ps⟩
def ansOf (E : EndS) : AnsS := if E.sat = true then ⟨0, 0, true, modelF E.s.T, [], E.s.S.conflicts, E.s.S.restarts⟩ else ⟨0, 0, false, [], printB E.s.S.log, E.s.S.conflicts, E.s.S.restarts⟩
/-- What Solve answers. -/
def solveF (bs : List Nat) : AnsS := if (problemF bs).2.1 = 0 then ansOf (runE (problemF bs).1) else ⟨(problemF bs).2.1, (problemF bs).2.2, false, [], [], 0, 0⟩
theorem runE_law {ps : List (List Int)} (h : ps.length ≤ 40 ∧ ∀ c ∈ ps, checkClause c = 0) : solveN fuelN (startSt ps) = some (runE ps) ∧ EndOK ps (runE ps) := by
  obtain ⟨h1, hm⟩ := start_law h.1 h.2
  have hc : (startSt ps).S.conflicts = 0 := rfl
  have ht : (startSt ps).T.st.length = 0 := rfl
  obtain ⟨E, h3, h4⟩ := solve_law fuelN (startSt ps) h1 hm (by rw [hc, ht]; decide)
  unfold runE
  rw [h3]; exact ⟨rfl, h4⟩
theorem rowsF_lits : ∀ (c : List Int) (r cur : List Int), (∀ x ∈ c, good x = true) → rowsF (c ++ 0 :: r) cur = (cur ++ c) :: rowsF r [] := by
  intro c
  induction c with
  | nil => intro r cur _; rw [List.nil_append, rowsF_cons, if_pos rfl, List.append_nil]
  | cons x c ih =>
    intro r cur h
    have hx := (good_iff x).1 (h x List.mem_cons_self)
    rw [List.cons_append, rowsF_cons, if_neg hx.1, ih r _ (fun y hy => h y (List.mem_cons_of_mem _ hy))]
    simp
theorem rowsF_flat {rs : List (Bool × List Int)} (hc : ∀ r ∈ rs, checkClause r.2 = 0) (hd : rs.any (fun r => r.1) = false) : rowsF (flatOf rs) [] = rs.map (fun r => r.2) := by
  induction rs with
  | nil => rfl
  | cons r rs ih =>
    rw [List.any_cons, Bool.or_eq_false_iff] at hd
    have e : flatOf (r :: rs) = r.2 ++ 0 :: flatOf rs := by simp [flatOf, flatRow, hd.1]
    rw [e, rowsF_lits _ _ _ (checkClause_facts (hc r List.mem_cons_self)).2.1, ih (fun x hx => hc x (List.mem_cons_of_mem _ hx)) hd.2]
    simp

/-- A solver's leg: the engine and the parser; between two calls the log is empty. -/
structure LegAt (w : World) (E : Eb) (W : WatchS) (T : TrailS) (S : SolverS) (lo : Value) (P : ParS) (av : Value) : Prop where
  en : EngAt w E W T S lo
  pr : ParAt w E.p P av
  av : ∀ g, av.ownBlock = some g → g ∉ E.all ∧ lo.ownBlock ≠ some g
  lg : S.log = []
def ansCells : List Value := [.int .i64 0, .int .i64 0, .bool false, .slice none 0 0, .string ⟨#[]⟩, .int .i64 0, .int .i64 0]
/-- In the midst of Solve: N is the result's own object. -/
structure SolSt (w wr : World) (E : Eb) (N : Nat) (lo0 av0 : Value) (W : WatchS) (T : TrailS) (S : SolverS) (lo : Value) (P : ParS) (av : Value) : Prop where
  en : EngAt wr E W T S lo
  pr : ParAt wr E.p P av
  cc : CellsAt wr N ansCells
  nx : Nx w lo0 lo
  nxa : Nx w av0 av
  fr : Fr (E.all ++ blk lo0 ++ blk av0) w wr
  sz : w.heap.size = N
  eN : ∀ g ∈ E.all, g < N
  loN : lo.ownBlock ≠ some N
  av : ∀ g, av.ownBlock = some g → g ∉ E.all ∧ lo.ownBlock ≠ some g ∧ g ≠ N
theorem mid_all {E : Eb} {x : Nat} (h : x ∈ E.mid) : x ∈ E.all := by simp [Eb.mid, Eb.all] at h ⊢; omega
theorem p_mid {E : Eb} (h : E.all.Nodup) : E.p ∉ E.mid := by have := Eb.ne h; simp [Eb.mid]; omega
/-- One step of the engine. -/
theorem SolSt.step {w wr w2 : World} {E : Eb} {N : Nat} {lo0 av0 lo lo2 : Value} {W W2 : WatchS} {T T2 : TrailS} {S S2 : SolverS} {P : ParS} {av : Value} (h : SolSt w wr E N lo0 av0 W T S lo P av) (he : EngAt w2 E W2 T2 S2 lo2) (hx : Nx wr lo lo2) (hf : Fr (E.mid ++ blk lo) wr w2) :
    SolSt w w2 E N lo0 av0 W2 T2 S2 lo2 P av := by
  have hNw : N < wr.heap.size := lt_of_cellB (h.cc.c 0 _ rfl)
  refine ⟨he, h.pr.fr hf ?_ ?_, h.cc.fr hf ?_ (by simp [ansCells]), h.nx.trans hx h.fr.size, h.nxa, h.fr.trans2 hf ?_, h.sz, h.eN, ?_, ?_⟩
  · intro hm
    rcases List.mem_append.1 hm with e | e
    · exact p_mid h.en.nd e
    · exact h.en.sv.dj _ (mem_blk.1 e) (by simp [Eb.all])
  · intro g hg hm
    have := h.av g hg
    rcases List.mem_append.1 hm with e | e
    · exact this.1 (mid_all e)
    · exact this.2.1 (mem_blk.1 e)
  · intro hm
    rcases List.mem_append.1 hm with e | e
    · have := h.eN N (mid_all e); omega
    · exact h.loN (mem_blk.1 e)
  · intro x hx2 hlt
    rcases List.mem_append.1 hx2 with e | e
    · exact List.mem_append_left _ (List.mem_append_left _ (mid_all e))
    · rcases h.nx x (mem_blk.1 e) with q | q
      · exact List.mem_append_left _ (List.mem_append_right _ (mem_blk.2 q))
      · omega
  · intro e
    rcases hx N e with q | q
    · exact h.loN q
    · omega
  · intro g hg
    have h1 := h.av g hg
    refine ⟨h1.1, fun e => ?_, h1.2.2⟩
    rcases hx g e with q | q
    · exact h1.2.1 q
    · have := h.pr.own.lt g hg; omega
theorem SolSt.fr0 {w wr w2 : World} {E : Eb} {N : Nat} {lo0 av0 lo : Value} {W : WatchS} {T : TrailS} {S : SolverS} {P : ParS} {av : Value} (h : SolSt w wr E N lo0 av0 W T S lo P av) (hf : Fr [] wr w2) : SolSt w w2 E N lo0 av0 W T S lo P av := by
  refine ⟨⟨h.en.nd, fun g hg => Nat.lt_of_lt_of_le (h.en.lt g hg) hf.size, h.en.sv.fr hf (by simp) (by simp), h.en.tr.fr hf (by simp), h.en.wt.fr hf (by simp), h.en.ln.fr hf (by simp)⟩, h.pr.fr hf (by simp) (by simp), h.cc.fr hf (by simp) (by simp [ansCells]), h.nx, h.nxa, h.fr.trans (hf.mono (by simp)), h.sz, h.eN, h.loN, h.av⟩
theorem EngAt.fr0 {w w2 : World} {E : Eb} {lo : Value} {W : WatchS} {T : TrailS} {S : SolverS} (h : EngAt w E W T S lo) (hf : Fr [] w w2) : EngAt w2 E W T S lo :=
  ⟨h.nd, fun g hg => Nat.lt_of_lt_of_le (h.lt g hg) hf.size, h.sv.fr hf (by simp) (by simp), h.tr.fr hf (by simp), h.wt.fr hf (by simp), h.ln.fr hf (by simp)⟩
/-- A parse. -/
theorem SolSt.parse {w wr w2 : World} {E : Eb} {N : Nat} {lo0 av0 lo : Value} {W : WatchS} {T : TrailS} {S : SolverS} {P : ParS} {av v : Value} {r : ParsedS} (h : SolSt w wr E N lo0 av0 W T S lo P av) (hq : ParQ wr w2 E.p av r v) :
    ∃ P2 av2, SolSt w w2 E N lo0 av0 W T S lo P2 av2 ∧ OwnI w2 wr.heap.size v r.flat ∧ TightV v r.flat.length ∧ (∀ g, v.ownBlock = some g → av2.ownBlock ≠ some g) := by
  obtain ⟨P2, av2, h1, h2, h3⟩ := hq.par
  have hNw : N < wr.heap.size := lt_of_cellB (h.cc.c 0 _ rfl)
  have hne := Eb.ne h.en.nd
  have hn : ∀ g, g ∈ E.all → g ≠ E.p → g ∉ E.p :: blk av := fun g hg hp hm => by
    rcases List.mem_cons.1 hm with e | e
    · exact hp e
    · exact (h.av g (mem_blk.1 e)).1 hg
  have hlo : ∀ g, lo.ownBlock = some g → g ∉ E.p :: blk av := fun g hg hm => by
    rcases List.mem_cons.1 hm with e | e
    · exact h.en.sv.dj g hg (by rw [e]; simp [Eb.all])
    · exact (h.av g (mem_blk.1 e)).2.1 hg
  have hs : E.s ∉ E.p :: blk av := hn _ (by simp [Eb.all]) (by omega)
  have ht : E.t ∉ E.p :: blk av := hn _ (by simp [Eb.all]) (by omega)
  have hw : E.w ∉ E.p :: blk av := hn _ (by simp [Eb.all]) (by omega)
  have hl : E.l ∉ E.p :: blk av := hn _ (by simp [Eb.all]) (by omega)
  have hN : N ∉ E.p :: blk av := fun hm => by
    rcases List.mem_cons.1 hm with e | e
    · have := h.eN E.p (by simp [Eb.all]); omega
    · exact (h.av N (mem_blk.1 e)).2.2 rfl
  refine ⟨P2, av2, ⟨⟨h.en.nd, fun g hg => Nat.lt_of_lt_of_le (h.en.lt g hg) hq.fr.size, h.en.sv.fr hq.fr hs hlo, h.en.tr.fr hq.fr ht, h.en.wt.fr hq.fr hw, h.en.ln.fr hq.fr hl⟩, h1, h.cc.fr hq.fr hN (by simp [ansCells]), h.nx, h.nxa.trans h2 h.fr.size, h.fr.trans2 hq.fr ?_, h.sz, h.eN, h.loN, ?_⟩, hq.own, hq.tight, h3⟩
  · intro x hx hlt
    rcases List.mem_cons.1 hx with e | e
    · rw [e]; exact List.mem_append_left _ (List.mem_append_left _ (by simp [Eb.all]))
    · rcases h.nxa x (mem_blk.1 e) with q | q
      · exact List.mem_append_right _ (mem_blk.2 q)
      · omega
  · intro g hg
    rcases h2 g hg with q | q
    · exact h.av g q
    · refine ⟨fun hm => by have := h.en.lt g hm; omega, fun e => by have := h.en.sv.own.lt g e; omega, by omega⟩
/-- Tight; and nil if empty. -/
def TightN (v : Value) (n : Nat) : Prop := (v = .slice none 0 0 ∧ n = 0) ∨ ∃ g, v = .slice (some ⟨g, 0, none⟩) n n ∧ n ≠ 0
theorem TightN.form {v : Value} {n : Nat} (h : TightN v n) : ∃ a m, v = .slice a m m := by
  rcases h with ⟨rfl, _⟩ | ⟨g, rfl, _⟩
  · exact ⟨none, 0, rfl⟩
  · exact ⟨_, n, rfl⟩
theorem TightN.nil {v : Value} (h : TightN v 0) : v = .slice none 0 0 := by
  rcases h with ⟨rfl, _⟩ | ⟨g, _, h⟩
  · rfl
  · exact absurd rfl h
/-- What Solve leaves. -/
structure SolOut (w w' : World) (E : Eb) (lo0 av0 : Value) (bs : List Nat) (mv : Value) : Prop where
  leg : ∃ W T S lo P av, LegAt w' E W T S lo P av ∧ Nx w lo0 lo ∧ Nx w av0 av ∧ (∀ g, mv.ownBlock = some g → lo.ownBlock ≠ some g ∧ av.ownBlock ≠ some g) ∧ ((problemF bs).2.1 = 0 → W = (runE (problemF bs).1).s.W ∧ T = (runE (problemF bs).1).s.T)
  mod : OwnI w' w.heap.size mv (solveF bs).model
  tight : TightN mv (solveF bs).model.length
  fr : Fr (E.all ++ blk lo0 ++ blk av0) w w'
def ansV (a : AnsS) (mv : Value) : Value := .agg #[.int .i64 (a.err : Nat), .int .i64 (a.pos : Nat), .bool a.sat, mv, .string (strN a.proof), .int .i64 (a.conf : Nat), .int .i64 (a.rest : Nat)]
theorem strN_nil : strN [] = ByteArray.empty := rfl
/-- Solve's end: the answer is stored in its object. -/
theorem SolSt.out {w wr w' : World} {E : Eb} {N : Nat} {lo0 av0 lo : Value} {W : WatchS} {T : TrailS} {S : SolverS} {P : ParS} {av : Value} (h : SolSt w wr E N lo0 av0 W T S lo P av) (hf : Fr [N] wr w') (hl : S.log = []) {bs : List Nat} {mv : Value}
    (hp : (problemF bs).2.1 = 0 → W = (runE (problemF bs).1).s.W ∧ T = (runE (problemF bs).1).s.T) (hm : OwnI wr w.heap.size mv (solveF bs).model) (ht : TightN mv (solveF bs).model.length) (hmN : mv.ownBlock ≠ some N) (hd : ∀ g, mv.ownBlock = some g → lo.ownBlock ≠ some g ∧ av.ownBlock ≠ some g) : SolOut w w' E lo0 av0 bs mv := by
  have hE : ∀ g ∈ E.all, g ∉ [N] := fun g hg hm => by rw [List.mem_singleton] at hm; have := h.eN g hg; omega
  refine ⟨⟨W, T, S, lo, P, av, ⟨⟨h.en.nd, fun g hg => Nat.lt_of_lt_of_le (h.en.lt g hg) hf.size, h.en.sv.fr hf (hE _ (by simp [Eb.all])) (fun g hg hm => by rw [List.mem_singleton] at hm; subst hm; exact h.loN hg), h.en.tr.fr hf (hE _ (by simp [Eb.all])), h.en.wt.fr hf (hE _ (by simp [Eb.all])), h.en.ln.fr hf (hE _ (by simp [Eb.all]))⟩, h.pr.fr hf (hE _ (by simp [Eb.all])) (fun g hg hm => by rw [List.mem_singleton] at hm; exact (h.av g hg).2.2 hm), fun g hg => ⟨(h.av g hg).1, (h.av g hg).2.1⟩, hl⟩, h.nx, h.nxa, hd, hp⟩, hm.fr hf (fun g hg hm => by rw [List.mem_singleton] at hm; subst hm; exact hmN hg), ht, ?_⟩
  exact h.fr.trans2 hf (fun x hx hlt => by rw [List.mem_singleton] at hx; have := h.sz; omega)
end Go.Proofs.Qxb6500354aGreat
