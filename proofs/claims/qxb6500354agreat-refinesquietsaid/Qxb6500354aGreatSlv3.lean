/- THE WALK over search.Solve: the loop. -/
import Derived.Test.Qxb6500354aGreatSlv2
namespace Go.Proofs.Qxb6500354aGreat
open Go.RowKit
set_option linter.unusedVariables false
set_option linter.unusedSimpArgs false

theorem wrN {w : World} {D : Nat} (h : w.heap.size = D) : w.heap.size = D := h
/-- The loop's relation. -/
def LoopR (w : World) (E : Eb) (N : Nat) (lo0 av0 : Value) (ps : List (List Int)) (P : ParS) (av : Value) (R : EndS) (g : Nat) (wr : World) : Prop :=
  ∃ (s : St) (lo : Value), SolSt w wr E N lo0 av0 s.W s.T s.S lo P av ∧ SB ps s ∧ MS s ∧ solveN g s = some R
theorem SolSt.begin {w wr w2 : World} {E : Eb} {N : Nat} {lo0 av0 lo : Value} {W W2 : WatchS} {T T2 : TrailS} {S S2 : SolverS} {P : ParS} {av : Value} (h : SolSt w wr E N lo0 av0 W T S lo P av) (he : EngAt w2 E W2 T2 S2 lo) (hf : Fr E.mid wr w2) : SolSt w w2 E N lo0 av0 W2 T2 S2 lo P av :=
  h.step he (Nx.refl _ _) (hf.mono (fun x hx _ => List.mem_append_left _ hx))
/-- The solver's end: the log is empty. -/
theorem SolSt.emptied {w wr w2 : World} {E : Eb} {N : Nat} {lo0 av0 lo lo2 : Value} {W : WatchS} {T : TrailS} {S S2 : SolverS} {P : ParS} {av : Value} (h : SolSt w wr E N lo0 av0 W T S lo P av) (hs : SlvAt w2 E S2 lo2) (he : lo2.ownBlock = lo.ownBlock) (hf : Fr [E.s] wr w2) : SolSt w w2 E N lo0 av0 W T S2 lo2 P av := by
  have hne := Eb.ne h.en.nd
  refine h.step ⟨h.en.nd, fun g hg => Nat.lt_of_lt_of_le (h.en.lt g hg) hf.size, hs, h.en.tr.fr hf (by simp; omega), h.en.wt.fr hf (by simp; omega), h.en.ln.fr hf (by simp; omega)⟩ (fun g hg => .inl (he ▸ hg)) (hf.mono (fun x hx _ => ?_))
  rw [List.mem_singleton] at hx
  exact List.mem_append_left _ (by rw [hx]; simp [Eb.mid])

set_option maxRecDepth 100000 in
set_option maxHeartbeats 16000000 in
theorem ssolve_3 {w w0 : World} {E : Eb} {N : Nat} {lo av : Value} {W : WatchS} {T : TrailS} {S : SolverS} {P : ParS} {s : ByteArray} {p1 : Nat} {rs : List (Bool × List Int)} {ps : List (List Int)} (hN : w.heap.size = N) (hw0 : w.alloc (Obj.cells #[.int .i64 0, .int .i64 0, .bool false, .slice none 0 0, .string ⟨#[]⟩, .int .i64 0, .int .i64 0] 74) = w0)
    (HST : Hid (SolSt w w0 E N lo av W T S lo P av)) (HLG : Hid (S.log = [])) (HL1 : Hid ((flatOf rs).length ≤ 27263002)) (HSV : Hid (surveyF (flatOf rs) = 0)) (HC : Hid (∀ r ∈ rs, checkClause r.2 = 0)) (HPS : Hid (rowsF (flatOf rs) [] = ps)) (HOK : Hid (ps.length ≤ 40 ∧ ∀ c ∈ ps, checkClause c = 0))
    (HPF : Hid (problemF (bytesOf s) = (ps, 0, 0)))
    (HP1 : Hid (Calls Tryz.prog 42 #[.pointer (some ⟨E.p, 0, none⟩), .string s] w0 fun e w' => ∃ v, e = .returned (.agg #[.int .i64 (0 : Nat), .int .i64 (p1 : Nat), v]) ∧ ParQ w0 w' E.p av ⟨0, p1, flatOf rs⟩ v)) :
    Calls Tryz.prog 25 #[.pointer (some ⟨E.s, 0, none⟩), .string s] w fun e w' => ∃ mv, e = .returned (ansV (solveF (bytesOf s)) mv) ∧ SolOut w w' E lo av (bytesOf s) mv := by
  have hR := runE_law HOK.out
  obtain ⟨R, hRR⟩ : ∃ R, runE ps = R := ⟨_, rfl⟩
  have hsol : solveF (bytesOf s) = ansOf R := by unfold solveF; rw [HPF.out]; simp only [if_true]; rw [hRR]
  rw [hRR] at hR
  have HR := hid hR
  have HSOL := hid hsol
  have HRR : Hid ((problemF (bytesOf s)).2.1 = 0 → R.s.W = (runE (problemF (bytesOf s)).1).s.W ∧ R.s.T = (runE (problemF (bytesOf s)).1).s.T) := hid (fun _ => by rw [HPF.out]; simp only []; rw [hRR]; exact ⟨rfl, rfl⟩)
  obtain ⟨k0, k1, k2⟩ := HST.out.p
  obtain ⟨F, hF⟩ : ∃ F, fuelN = F := ⟨_, rfl⟩
  rw [hF] at HR
  clear hR hRR hsol hF
  refine calls_via fun K hK => ?_
  go_enter Tryz.func25, Tryz.ntmps25
  go_wp2_with (go_at_call 42; refine HP1.out.mono ?_; rintro e' w1 ⟨v1, rfl, hq1⟩; obtain ⟨P1, av1, x1, n1, m1, D1, wa, rfl, hwa0, hD1, HND, HST1, HO1, HT1, HLL, HC1⟩ := HST.out.after hq1; have hwa : w1.alloc (Obj.cells #[.int .i64 0, .int .i64 (p1 : Nat), .slice x1 n1 m1] 86) = wa := hwa0; clear hwa0; have g10 : wa.cell? ⟨D1, 0, none⟩ = some (.int .i64 0) := HC1.out.c 0 _ rfl; have g12 := HC1.out.c 2 _ rfl; have g1z := HC1.out.fz; have HDE := hid (fun g (hg : g ∈ E.all) => Nat.lt_trans (HST1.out.eN g hg) HND.out); have HDL : Hid (lo.ownBlock ≠ some D1) := hid (fun e => by have := hq1.fr.size; have := HST.out.en.sv.own.lt D1 e; omega); clear hq1)
  refine (survey_any (l := flatOf rs) HO1.out.ints (surv_le HL1.out)).mono ?_
  rintro e' w' ⟨rfl, hw⟩
  have hw2 := hw.symm
  subst hw2
  clear hw
  rw [HSV.out, show ((0 : Nat) : Int) = 0 from rfl]
  clear hwa hD1 hN hw0 k0 k1 k2
  go_wp2_with fail
  refine (begin_any HST1.out.en).mono ?_
  rintro e' w2 ⟨rfl, he2, hf2⟩
  have hst2 := HST1.out.begin he2 hf2
  rw [HLG.out] at hst2
  have HST2 : Hid (SolSt w w2 E N lo av .empty .empty .start lo P1 av1) := hid hst2
  have HC2 := hid (HC1.out.fr hf2 (fun hm => by have := HDE.out _ (mid_all hm); omega) (by simp))
  have HO2 := hid (HO1.out.fr hf2 (fun g hg hm => by have := HO1.out.base g hg; have := HST.out.en.lt g (mid_all hm); omega))
  have g22 := HC2.out.c 2 _ rfl
  have HSZ2 := hid hf2.size
  clear he2 hf2 hst2 g10 g12 g1z
  go_wp2_with fail
  refine (load_any HST2.out.en.sv HST2.out.en.wt (by have := Eb.ne HST2.out.en.nd; omega) HO2.out.ints HT1.out (surv_le HL1.out) (fun g hg e => by have := HO1.out.base g hg; have := HST.out.en.lt g (by rw [e]; simp [Eb.all]); omega) (fun g hg => HO2.out.lt g hg)).mono ?_
  rintro e' w3 ⟨rfl, hwt3, hf3⟩
  rw [HPS.out] at hwt3
  have hne := Eb.ne HST2.out.en.nd
  have hst3 := HST2.out.begin (w2 := w3) (S2 := .start) (W2 := loadF .empty ps) (T2 := .empty) ⟨HST2.out.en.nd, fun g hg => Nat.lt_of_lt_of_le (HST2.out.en.lt g hg) hf3.size, HST2.out.en.sv.fr hf3 (by simp; omega) (fun g hg hm => by rw [List.mem_singleton] at hm; exact HST2.out.en.sv.dj g hg (by rw [hm]; simp [Eb.all])), HST2.out.en.tr.fr hf3 (by simp; omega), hwt3, HST2.out.en.ln.fr hf3 (by simp; omega)⟩ (hf3.mono (fun x hx _ => by rw [List.mem_singleton] at hx; rw [hx]; simp [Eb.mid]))
  have HST3 := hid hst3
  clear hwt3 hf3 hst3 g22 hne
  go_wp2_with fail
  go_loopg [] F (fun g wr => LoopR w E N lo av ps P1 av1 R g wr)
  case atStart => exact ⟨startSt ps, lo, HST3.out, (start_law HOK.out.1 HOK.out.2).1, (start_law HOK.out.1 HOK.out.2).2, HR.out.1⟩
  case round =>
    obtain ⟨s1, lo1, hst, hsb, hms, hsn⟩ := hrel
    obtain ⟨g, rfl⟩ : ∃ g, gk = g + 1 := by
      cases gk with
      | zero => exact absurd hsn (by simp [solveN])
      | succ g => exact ⟨g, rfl⟩
    rw [solveN_succ] at hsn
    have hro := round_law hsb hms
    have hwt := hsb.b.wt
    have hne := Eb.ne hst.en.nd
    have HPRO := hid (propagate_any hst.en.wt hst.en.tr (by omega) hwt.ws hwt.rs hwt.sm)
    obtain ⟨q, hq⟩ : ∃ z, s1.prop = z := ⟨_, rfl⟩
    obtain ⟨r, hr⟩ : ∃ z, (propF s1.W s1.T).1 = z := ⟨_, rfl⟩
    have hqW : q.W = (propF s1.W s1.T).2.1 := by rw [← hq]; rfl
    have hqT : q.T = (propF s1.W s1.T).2.2 := by rw [← hq]; rfl
    have hqS : q.S = s1.S := by rw [← hq]; rfl
    rw [← hqW, ← hqT, hr] at HPRO
    rw [hr, hq] at hsn
    obtain ⟨t1, t2, t3, t4, t5, t6, t7, t8⟩ := hro
    rw [hq] at t1 t2 t3
    rw [hr] at t4 t5 t6 t7 t8
    rw [hq] at t4 t5 t6 t7 t8
    obtain ⟨k0, k1, k2⟩ := hst.p
    have HST4 := hid hst
    have HSN := hid hsn
    have HQS := hid hqS
    have HT1 := hid t1
    have HT2 := hid t2
    have HT3 := hid t3
    have HT5 := hid t5
    have HT6 := hid t6
    have HT7 := hid t7
    have HT8 := hid t8
    have HNE := hid hne
    clear hst hsb hms hsn hwt hq hr hqW hqT hqS t1 t2 t3 t4 t5 t6 t7 t8 hne
    go_wp2_with fail
    refine HPRO.out.mono ?_
    rintro e' w4 ⟨rfl, hw4, ht4, hf4⟩
    have hst5 := HST4.out.step (w2 := w4) (S2 := q.S) (lo2 := lo1) ⟨HST4.out.en.nd, fun g hg => Nat.lt_of_lt_of_le (HST4.out.en.lt g hg) hf4.size, by rw [HQS.out]; exact HST4.out.en.sv.fr hf4 (by have := HNE.out; simp; omega) (fun g hg hm => HST4.out.en.sv.dj g hg (by simp at hm; rcases hm with e | e <;> rw [e] <;> simp [Eb.all])), ht4, hw4, HST4.out.en.ln.fr hf4 (by have := HNE.out; simp; omega)⟩ (Nx.refl _ _) (hf4.mono (fun x hx _ => List.mem_append_left _ (by simp at hx; rcases hx with e | e <;> rw [e] <;> simp [Eb.mid])))
    have HST5 := hid hst5
    clear hw4 ht4 hf4 hst5 k0 k1 k2
    by_cases h0 : 0 ≤ r
    · have hsn := HSN.out
      rw [if_pos h0] at hsn
      by_cases hl : q.T.lims = []
      · obtain ⟨u1, u2, u3⟩ := HT5.out h0 hl
        rw [u3] at hsn
        simp only [Bool.false_eq_true, if_false, Option.some.injEq] at hsn
        have HC := hid (conflict_no HST5.out.en r u1 (by have := HT3.out; omega) (by have := HT1.out.b.lg.len; have := HOK.out.1; have := HT3.out; omega))
        have HU := hid u2
        have HRE := hid hsn
        clear u1 u2 u3 hsn hl
        go_wp2_with fail
        refine HC.out.mono ?_
        rintro e' w6 ⟨rfl, _, lo6, he6, hx6, hf6⟩
        have HST6 := hid (HST5.out.step he6 hx6 hf6)
        clear he6 hx6 hf6
        go_wp2_with fail
        obtain ⟨q6, hq6⟩ : ∃ z, (q.conflict r).2 = z := ⟨_, rfl⟩
        rw [hq6] at HST6 HU HRE
        have HRF : Hid (∃ rs6, q6.S.log = flatOf rs6 ∧ ∀ r ∈ rs6, checkClause r.2 = 0) := hid (by obtain ⟨rs6, st6, h6⟩ := HU.out.lg; exact ⟨rs6, h6.eq, h6.nf⟩)
        obtain ⟨rs6, hlg6, hck6⟩ := HRF.out
        refine (refuted_any HST6.out.en.sv hlg6 hck6 (by have := HU.out.lg.len; have := HU.out.cf; have := HOK.out.1; omega)).mono ?_
        rintro e' w7 ⟨lo7, rfl, hs7, hb7, hf7⟩
        have HST7 := hid (HST6.out.emptied hs7 hb7 hf7)
        obtain ⟨c0, c1, c2, c3, c4, c5, c6, cz⟩ := HST7.out.c
        obtain ⟨pf, hpf⟩ : ∃ z, strN (printB q6.S.log) = z := ⟨_, rfl⟩
        obtain ⟨cf, hcf⟩ : ∃ z, q6.S.conflicts = z := ⟨_, rfl⟩
        obtain ⟨rt, hrt⟩ : ∃ z, q6.S.restarts = z := ⟨_, rfl⟩
        have HA : Hid (∀ mv, ansV (solveF (bytesOf s)) mv = .agg #[.int .i64 (0 : Nat), .int .i64 (0 : Nat), .bool false, mv, .string pf, .int .i64 (cf : Nat), .int .i64 (rt : Nat)]) := hid (fun mv => by rw [HSOL.out, ← HRE.out]; unfold ansOf ansV; simp only [Bool.false_eq_true, if_false]; rw [hpf, hcf, hrt])
        rw [hpf, hcf, hrt]
        clear hs7 hb7 hf7 hq6 hlg6 hck6 hpf hcf hrt
        go_wp2_with fail
        refine bodyPost_ret (v := .agg #[.int .i64 0, .int .i64 0, .bool false, .slice none 0 0, .string pf, .int .i64 (cf : Nat), .int .i64 (rt : Nat)]) (by simp [results, Tryz.results25, go_sem, cellSet, c0, c1, c2, c3, c4, c5, c6]) rfl ?_
        have hfn : Fr [N] w7 _ := ((((((((Fr.refl [N] w7).setG 0 (.int .i64 0)).setG 1 (.int .i64 0)).setG 2 (.bool false)).setG 3 (.slice none 0 0)).setG 4 (.string pf)).setG 5 (.int .i64 (cf : Nat))).setG 6 (.int .i64 (rt : Nat)))
        refine hK.out _ _ ⟨.slice none 0 0, by rw [HA.out]; rfl, HST7.out.out hfn rfl (fun h => ?_) ?_ ?_ (by simp [Value.ownBlock]) (by simp [Value.ownBlock])⟩
        · have := HRR.out h; rw [← HRE.out] at this; exact this
        · rw [HSOL.out, ← HRE.out]; exact OwnI.nil _ _
        · rw [HSOL.out, ← HRE.out]; exact .inl ⟨rfl, rfl⟩
      · obtain ⟨u1, u2, u3, u4, u5⟩ := HT6.out h0 hl
        rw [if_pos u2] at hsn
        have HC := hid (conflict_yes HST5.out.en r u1 HOK.out.1 HT3.out HT1.out.b.lg HT1.out.gg)
        have HU := hid (And.intro u3 u4)
        have HSN2 := hid hsn
        clear u1 u2 u3 u4 u5 hsn hl
        go_wp2_with fail
        refine HC.out.mono ?_
        rintro e' w6 ⟨rfl, _, lo6, he6, hx6, hf6⟩
        have HST6 := hid (HST5.out.step he6 hx6 hf6)
        clear he6 hx6 hf6
        go_wp2_with fail
        go_roundg g
        case measure => omega
        case rel => exact ⟨(q.conflict r).2, lo6, HST6.out, HU.out.1, HU.out.2, HSN2.out⟩
    · have hsn := HSN.out
      rw [if_neg h0] at hsn
      obtain ⟨k0, k1, k2⟩ := HST5.out.p
      have HLN := hid (len_any HST5.out.en.tr)
      obtain ⟨ln, hln⟩ : ∃ z, q.T.st.length = z := ⟨_, rfl⟩
      rw [hln] at HLN hsn
      by_cases hl : ln = 12
      · rw [if_pos hl, Option.some.injEq] at hsn
        have HRE := hid hsn
        subst hl
        have hne12 := HNE.out
        have HSA := hid (satisfied_any HST5.out.en.sv HST5.out.en.tr (by omega))
        clear hsn hln hne12
        go_wp2_with (first | (go_at_call 49; refine HLN.out.mono ?_; rintro e w' ⟨rfl, hw⟩; have hw2 := hw.symm; subst hw2; clear hw))
        refine HSA.out.mono ?_
        rintro e' w7 ⟨g7, lo7, rfl, hm7, hs7, hb7, hf7⟩
        have HST7 := hid (HST5.out.emptied hs7 hb7 hf7)
        obtain ⟨c0, c1, c2, c3, c4, c5, c6, cz⟩ := HST7.out.c
        obtain ⟨cf, hcf⟩ : ∃ z, q.S.conflicts = z := ⟨_, rfl⟩
        obtain ⟨rt, hrt⟩ : ∃ z, q.S.restarts = z := ⟨_, rfl⟩
        have HA : Hid (∀ mv, ansV (solveF (bytesOf s)) mv = .agg #[.int .i64 (0 : Nat), .int .i64 (0 : Nat), .bool true, mv, .string ByteArray.empty, .int .i64 (cf : Nat), .int .i64 (rt : Nat)]) := hid (fun mv => by rw [HSOL.out, ← HRE.out]; unfold ansOf ansV; simp only [if_true]; rw [hcf, hrt, strN_nil])
        have HM7 := hid hm7
        have HG7 : Hid (w4.heap.size ≤ g7) := hid (hm7.base g7 rfl)
        have HB7 := hid hb7
        rw [hcf, hrt]
        clear hs7 hb7 hf7 hm7 hcf hrt k0 k1 k2
        go_wp2_with fail
        refine bodyPost_ret (v := .agg #[.int .i64 0, .int .i64 0, .bool true, .slice (some ⟨g7, 0, none⟩) 12 12, .string ⟨#[]⟩, .int .i64 (cf : Nat), .int .i64 (rt : Nat)]) (by simp [results, Tryz.results25, go_sem, cellSet, c0, c1, c2, c3, c4, c5, c6]) rfl ?_
        have hfn : Fr [N] w7 _ := ((((((((Fr.refl [N] w7).setG 0 (.int .i64 0)).setG 1 (.int .i64 0)).setG 2 (.bool true)).setG 3 (.slice (some ⟨g7, 0, none⟩) 12 12)).setG 4 (.string ⟨#[]⟩)).setG 5 (.int .i64 (cf : Nat))).setG 6 (.int .i64 (rt : Nat)))
        have hms : (solveF (bytesOf s)).model = modelF q.T := by rw [HSOL.out, ← HRE.out]; rfl
        refine hK.out _ _ ⟨.slice (some ⟨g7, 0, none⟩) 12 12, by rw [HA.out]; rfl, HST7.out.out hfn rfl (fun h => ?_) ?_ ?_ ?_ ?_⟩
        · have := HRR.out h; rw [← HRE.out] at this; exact this
        · rw [hms]; exact HM7.out.mono (by have := HST5.out.fr.size; omega)
        · rw [hms, show (modelF q.T).length = 12 from by simp [modelF]]; exact .inr ⟨g7, rfl, by decide⟩
        · have := lt_of_cellB (HST5.out.cc.c 0 _ rfl)
          have := HG7.out
          simp [Value.ownBlock]; omega
        · intro g hg
          simp [Value.ownBlock] at hg
          have hg7 := HG7.out
          refine ⟨fun e => ?_, fun e => ?_⟩
          · rw [HB7.out] at e; have := HST5.out.en.sv.own.lt g e; omega
          · have := HST5.out.pr.own.lt g e; omega
      · rw [if_neg hl] at hsn
        rw [← hln] at hl
        obtain ⟨u1, u2, u3, u4, u5⟩ := HT8.out (by omega) hl
        have hpk := pick_law (S := q.S) HT1.out.b.wt.tk u2 HT1.out.gg.ph
        have HPI := hid (pick_any HST5.out.en.sv HST5.out.en.tr HT1.out.gg.ph)
        obtain ⟨d, hd⟩ : ∃ z, pickF q.T q.S = z := ⟨_, rfl⟩
        rw [hd] at hpk HPI hsn u4 u5
        have hlb : ((ln : Int) == 12) = false := by rw [beq_eq_false_iff_ne]; omega
        have HU := hid (And.intro u4 u5)
        have HSN2 := hid hsn
        have HPK := hid hpk
        clear hsn hln hl u1 u2 u3 u4 u5 hpk hd
        go_wp2_with (first | (go_at_call 49; refine HLN.out.mono ?_; rintro e w' ⟨rfl, hw⟩; have hw2 := hw.symm; subst hw2; clear hw))
        refine HPI.out.mono ?_
        rintro e' w6 ⟨rfl, n6, hw6⟩
        have HST6 := hid (HST5.out.fr0 (show Fr [] w4 w6 by rw [hw6]; exact Fr.of_drewN []))
        obtain ⟨k60, k61, k62⟩ := HST6.out.p
        clear hw6 k0 k1 k2
        go_wp2_with fail
        refine (decide_any HST6.out.en.tr d HPK.out.1 HPK.out.2).mono ?_
        rintro e' w7 ⟨⟨v7, rfl⟩, ht7, hf7⟩
        have hne7 := HNE.out
        have HST7 := hid (HST6.out.step (w2 := w7) (S2 := q.S) (W2 := q.W) (T2 := q.T.decide d) (lo2 := lo1) ⟨HST6.out.en.nd, fun g hg => Nat.lt_of_lt_of_le (HST6.out.en.lt g hg) hf7.size, HST6.out.en.sv.fr hf7 (by simp; omega) (fun g hg hm => HST6.out.en.sv.dj g hg (by rw [List.mem_singleton] at hm; rw [hm]; simp [Eb.all])), ht7, HST6.out.en.wt.fr hf7 (by simp; omega), HST6.out.en.ln.fr hf7 (by simp; omega)⟩ (Nx.refl _ _) (hf7.mono (fun x hx _ => List.mem_append_left _ (by rw [List.mem_singleton] at hx; rw [hx]; simp [Eb.mid]))))
        clear ht7 hf7 k60 k61 k62 hne7
        go_wp2_with fail
        go_roundg g
        case measure => omega
        case rel => exact ⟨{ q with T := q.T.decide d }, lo1, HST7.out, HU.out.1, HU.out.2, HSN2.out⟩
end Go.Proofs.Qxb6500354aGreat
