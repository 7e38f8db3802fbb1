/- THE WALK over search.Solve. -/
import Derived.Test.Qxb6500354aGreatSlv
namespace Go.Proofs.Qxb6500354aGreat
open Go.RowKit
set_option linter.unusedVariables false
set_option linter.unusedSimpArgs false

theorem LegAt.start {w : World} {E : Eb} {W : WatchS} {T : TrailS} {S : SolverS} {lo av : Value} {P : ParS} {N : Nat} (h : LegAt w E W T S lo P av) (hN : w.heap.size = N) : SolSt w (w.alloc (Obj.cells #[.int .i64 0, .int .i64 0, .bool false, .slice none 0 0, .string ⟨#[]⟩, .int .i64 0, .int .i64 0] 74)) E N lo av W T S lo P av := by
  have hf : Fr [] w (w.alloc (Obj.cells #[.int .i64 0, .int .i64 0, .bool false, .slice none 0 0, .string ⟨#[]⟩, .int .i64 0, .int .i64 0] 74)) := (Fr.refl _ _).alloc _
  have hc := CellsAt.mk_alloc w ansCells 74
  rw [hN] at hc
  exact ⟨h.en.fr0 hf, h.pr.fr hf (by simp) (by simp), hc, Nx.refl _ _, Nx.refl _ _, hf.mono (by simp), hN, fun g hg => by rw [← hN]; exact h.en.lt g hg, fun e => by have := h.en.sv.own.lt N e; omega, fun g hg => ⟨(h.av g hg).1, (h.av g hg).2, by have := h.pr.own.lt g hg; omega⟩⟩
theorem SolSt.p {w wr : World} {E : Eb} {N : Nat} {lo0 av0 lo : Value} {W : WatchS} {T : TrailS} {S : SolverS} {P : ParS} {av : Value} (h : SolSt w wr E N lo0 av0 W T S lo P av) :
    wr.cell? ⟨E.s, 0, none⟩ = some (.pointer (some ⟨E.p, 0, none⟩)) ∧ wr.cell? ⟨E.s, 1, none⟩ = some (.pointer (some ⟨E.t, 0, none⟩)) ∧ wr.cell? ⟨E.s, 2, none⟩ = some (.pointer (some ⟨E.w, 0, none⟩)) := ⟨h.en.sv.at_.p, h.en.sv.at_.t, h.en.sv.at_.wp⟩
theorem SolSt.c {w wr : World} {E : Eb} {N : Nat} {lo0 av0 lo : Value} {W : WatchS} {T : TrailS} {S : SolverS} {P : ParS} {av : Value} (h : SolSt w wr E N lo0 av0 W T S lo P av) :
    wr.cell? ⟨N, 0, none⟩ = some (.int .i64 0) ∧ wr.cell? ⟨N, 1, none⟩ = some (.int .i64 0) ∧ wr.cell? ⟨N, 2, none⟩ = some (.bool false) ∧ wr.cell? ⟨N, 3, none⟩ = some (.slice none 0 0) ∧ wr.cell? ⟨N, 4, none⟩ = some (.string ⟨#[]⟩) ∧ wr.cell? ⟨N, 5, none⟩ = some (.int .i64 0) ∧ wr.cell? ⟨N, 6, none⟩ = some (.int .i64 0) ∧ ∀ i, wr.frozen? ⟨N, i, none⟩ = false :=
  ⟨h.cc.c 0 _ rfl, h.cc.c 1 _ rfl, h.cc.c 2 _ rfl, h.cc.c 3 _ rfl, h.cc.c 4 _ rfl, h.cc.c 5 _ rfl, h.cc.c 6 _ rfl, h.cc.fz⟩
/-- Behind the parse: its answer lies in an object of its own. -/
theorem SolSt.after {w wr w1 : World} {E : Eb} {N : Nat} {lo0 av0 lo : Value} {W : WatchS} {T : TrailS} {S : SolverS} {P : ParS} {av v : Value} {e p : Nat} {f : List Int} (h : SolSt w wr E N lo0 av0 W T S lo P av) (hq : ParQ wr w1 E.p av ⟨e, p, f⟩ v) :
    ∃ P2 av2 x n m D wz, v = .slice x n m ∧ w1.alloc (Obj.cells #[.int .i64 (e : Nat), .int .i64 (p : Nat), .slice x n m] 86) = wz ∧ w1.heap.size = D ∧ Hid (N < D) ∧ Hid (SolSt w wz E N lo0 av0 W T S lo P2 av2) ∧ Hid (OwnI wz wr.heap.size (.slice x n m) f) ∧ Hid (TightV (.slice x n m) f.length) ∧ Hid (∀ g, (Value.slice x n m).ownBlock = some g → g < D) ∧ Hid (CellsAt wz D [.int .i64 (e : Nat), .int .i64 (p : Nat), .slice x n m]) := by
  obtain ⟨P2, av2, h1, h2, h3, h4⟩ := h.parse hq
  obtain ⟨x1, n1, m1, rfl⟩ := h2.sl
  have hf : Fr [] w1 (w1.alloc (Obj.cells #[.int .i64 (e : Nat), .int .i64 (p : Nat), .slice x1 n1 m1] 86)) := (Fr.refl _ _).alloc _
  exact ⟨P2, av2, x1, n1, m1, _, _, rfl, rfl, rfl, hid (lt_of_cellB (h1.cc.c 0 _ rfl)), hid (h1.fr0 hf), hid (h2.fr hf (by simp)), hid h3, hid (fun g hg => h2.lt g hg), hid (CellsAt.mk_alloc w1 [.int .i64 (e : Nat), .int .i64 (p : Nat), .slice x1 n1 m1] 86)⟩

set_option maxRecDepth 100000 in
set_option maxHeartbeats 8000000 in
theorem ssolve_1 {w w0 : World} {E : Eb} {N : Nat} {lo av : Value} {W : WatchS} {T : TrailS} {S : SolverS} {P : ParS} {s : ByteArray} {e1 p1 : Nat} {f1 : List Int} (hN : w.heap.size = N) (hw0 : w.alloc (Obj.cells #[.int .i64 0, .int .i64 0, .bool false, .slice none 0 0, .string ⟨#[]⟩, .int .i64 0, .int .i64 0] 74) = w0)
    (HST : Hid (SolSt w w0 E N lo av W T S lo P av)) (HLG : Hid (S.log = [])) (c1 : e1 ≠ 0) (HE : Hid ((problemF (bytesOf s)).2.1 ≠ 0)) (HS : Hid (solveF (bytesOf s) = ⟨e1, p1, false, [], [], 0, 0⟩))
    (HP1 : Hid (Calls Tryz.prog 42 #[.pointer (some ⟨E.p, 0, none⟩), .string s] w0 fun e w' => ∃ v, e = .returned (.agg #[.int .i64 (e1 : Nat), .int .i64 (p1 : Nat), v]) ∧ ParQ w0 w' E.p av ⟨e1, p1, f1⟩ v)) :
    Calls Tryz.prog 25 #[.pointer (some ⟨E.s, 0, none⟩), .string s] w fun e w' => ∃ mv, e = .returned (ansV (solveF (bytesOf s)) mv) ∧ SolOut w w' E lo av (bytesOf s) mv := by
  obtain ⟨k0, k1, k2⟩ := HST.out.p
  have b1 : ((e1 : Int) != 0) = true := by rw [neN]; simp [c1]
  clear c1
  refine calls_via fun K hK => ?_
  go_enter Tryz.func25, Tryz.ntmps25
  go_wp2_with (go_at_call 42; refine HP1.out.mono ?_; rintro e' w1 ⟨v1, rfl, hq1⟩; obtain ⟨P1, av1, x1, n1, m1, D1, wa, rfl, hwa, hD1, HND, HST1, HO1, HT1, HL1, HC1⟩ := HST.out.after hq1; have g10 := HC1.out.c 0 _ rfl; have g11 := HC1.out.c 1 _ rfl; have g1z := HC1.out.fz; obtain ⟨c0, c1, c2, c3, c4, c5, c6, cz⟩ := HST1.out.c; have hdn : ¬ D1 = N := (by have := HND.out; omega); have hdn2 : ¬ N = D1 := (by have := HND.out; omega); clear hq1)
  refine bodyPost_ret (v := .agg #[.int .i64 (e1 : Nat), .int .i64 (p1 : Nat), .bool false, .slice none 0 0, .string ⟨#[]⟩, .int .i64 0, .int .i64 0]) (by simp [results, Tryz.results25, go_sem, cellSet, c0, c1, c2, c3, c4, c5, c6]) rfl ?_
  have hfn : Fr [N] wa _ := ((((((((Fr.refl [N] wa).setG 0 (.int .i64 (e1 : Nat))).setG 1 (.int .i64 (p1 : Nat))).setG 2 (.bool false)).setG 3 (.slice none 0 0)).setG 4 (.string ⟨#[]⟩)).setG 5 (.int .i64 0)).setG 6 (.int .i64 0))
  refine hK.out _ _ ⟨.slice none 0 0, by rw [HS.out]; rfl, HST1.out.out hfn HLG.out (fun h => absurd h HE.out) ?_ ?_ (by simp [Value.ownBlock]) (by simp [Value.ownBlock])⟩
  · rw [HS.out]; exact OwnI.nil _ _
  · rw [HS.out]; exact .inl ⟨rfl, rfl⟩
set_option maxRecDepth 100000 in
set_option maxHeartbeats 8000000 in
theorem ssolve_2 {w w0 : World} {E : Eb} {N : Nat} {lo av : Value} {W : WatchS} {T : TrailS} {S : SolverS} {P : ParS} {s : ByteArray} {sv p1 : Nat} {f1 : List Int} (hN : w.heap.size = N) (hw0 : w.alloc (Obj.cells #[.int .i64 0, .int .i64 0, .bool false, .slice none 0 0, .string ⟨#[]⟩, .int .i64 0, .int .i64 0] 74) = w0)
    (HST : Hid (SolSt w w0 E N lo av W T S lo P av)) (HLG : Hid (S.log = [])) (HL1 : Hid (f1.length ≤ 27263002)) (HSV : Hid (surveyF f1 = sv)) (c2 : sv ≠ 0) (HE : Hid ((problemF (bytesOf s)).2.1 ≠ 0)) (HS : Hid (solveF (bytesOf s) = ⟨sv, 0, false, [], [], 0, 0⟩))
    (HP1 : Hid (Calls Tryz.prog 42 #[.pointer (some ⟨E.p, 0, none⟩), .string s] w0 fun e w' => ∃ v, e = .returned (.agg #[.int .i64 (0 : Nat), .int .i64 (p1 : Nat), v]) ∧ ParQ w0 w' E.p av ⟨0, p1, f1⟩ v)) :
    Calls Tryz.prog 25 #[.pointer (some ⟨E.s, 0, none⟩), .string s] w fun e w' => ∃ mv, e = .returned (ansV (solveF (bytesOf s)) mv) ∧ SolOut w w' E lo av (bytesOf s) mv := by
  obtain ⟨k0, k1, k2⟩ := HST.out.p
  have b1 : ((sv : Int) != 0) = true := by rw [neN]; simp [c2]
  clear c2
  refine calls_via fun K hK => ?_
  go_enter Tryz.func25, Tryz.ntmps25
  go_wp2_with (go_at_call 42; refine HP1.out.mono ?_; rintro e' w1 ⟨v1, rfl, hq1⟩; obtain ⟨P1, av1, x1, n1, m1, D1, wa, rfl, hwa0, hD1, HND, HST1, HO1, HT1, HLL, HC1⟩ := HST.out.after hq1; have hwa : w1.alloc (Obj.cells #[.int .i64 0, .int .i64 (p1 : Nat), .slice x1 n1 m1] 86) = wa := hwa0; clear hwa0; have g10 : wa.cell? ⟨D1, 0, none⟩ = some (.int .i64 0) := HC1.out.c 0 _ rfl; have g12 := HC1.out.c 2 _ rfl; have g1z := HC1.out.fz; obtain ⟨c0, c1, c2, c3, c4, c5, c6, cz⟩ := HST1.out.c; have hdn : ¬ D1 = N := (by have := HND.out; omega); have hdn2 : ¬ N = D1 := (by have := HND.out; omega); clear hq1)
  refine (survey_any (l := f1) HO1.out.ints (surv_le HL1.out)).mono ?_
  rintro e' w' ⟨rfl, hw⟩
  have hw2 := hw.symm
  subst hw2
  clear hw
  rw [HSV.out]
  go_wp2_with fail
  refine bodyPost_ret (v := .agg #[.int .i64 (sv : Nat), .int .i64 0, .bool false, .slice none 0 0, .string ⟨#[]⟩, .int .i64 0, .int .i64 0]) (by simp [results, Tryz.results25, go_sem, cellSet, c0, c1, c2, c3, c4, c5, c6]) rfl ?_
  have hfn : Fr [N] wa _ := ((((((((Fr.refl [N] wa).setG 0 (.int .i64 (sv : Nat))).setG 1 (.int .i64 0)).setG 2 (.bool false)).setG 3 (.slice none 0 0)).setG 4 (.string ⟨#[]⟩)).setG 5 (.int .i64 0)).setG 6 (.int .i64 0))
  refine hK.out _ _ ⟨.slice none 0 0, by rw [HS.out]; rfl, HST1.out.out hfn HLG.out (fun h => absurd h HE.out) ?_ ?_ (by simp [Value.ownBlock]) (by simp [Value.ownBlock])⟩
  · rw [HS.out]; exact OwnI.nil _ _
  · rw [HS.out]; exact .inl ⟨rfl, rfl⟩
end Go.Proofs.Qxb6500354aGreat
