/- THE WALKS over learn: Analyze. -/
import Derived.Test.Qxb6500354aGreatLrn6
namespace Go.Proofs.Qxb6500354aGreat
open Go.RowKit
set_option linter.unusedVariables false
set_option linter.unusedSimpArgs false

theorem climbF_good {W : WatchS} {T : TrailS} (hk : TrailOK T) : ∀ (n : Nat) (a : LearnS), n ≤ T.st.length → (climbF W T n a).1 = 0 ∨ good (climbF W T n a).1 = true := by
  intro n
  induction n with
  | zero => intro a _; exact .inl rfl
  | succ n ih =>
    intro a hn
    rw [climbF_succ]
    split
    · split
      · split
        · right
          obtain ⟨r, hr⟩ := at_of_lt (T := T) (j := n) (by omega)
          exact hr.good hk
        · split
          · exact .inl rfl
          · split
            · exact ih _ (by omega)
            · exact .inl rfl
      · exact ih _ (by omega)
    · exact ih _ (by omega)

theorem fin4 {w w5 : World} {b tb wb N : Nat} {A : LearnS} (hA : LrnAt w5 b tb wb A) (hf : Fr [b] w w5) (hNb : N ≠ b) (hNs : ¬ N < w.heap.size) (u0 u1 u2 u3 : Value) :
    LrnAt ((((w5.setCell ⟨N, 0, none⟩ u0).setCell ⟨N, 1, none⟩ u1).setCell ⟨N, 2, none⟩ u2).setCell ⟨N, 3, none⟩ u3) b tb wb A ∧
    Fr [b] w ((((w5.setCell ⟨N, 0, none⟩ u0).setCell ⟨N, 1, none⟩ u1).setCell ⟨N, 2, none⟩ u2).setCell ⟨N, 3, none⟩ u3) :=
  ⟨(((hA.other hNb.symm _).other hNb.symm _).other hNb.symm _).other hNb.symm _,
   (((hf.set (fun q => absurd q hNs) _).set (fun q => absurd q hNs) _).set (fun q => absurd q hNs) _).set (fun q => absurd q hNs) _⟩

theorem OwnI.lt {w : World} {base : Nat} {v : Value} {l : List Int} (h : OwnI w base v l) : ∀ g, v.ownBlock = some g → g < w.heap.size := by
  intro g e
  rcases h.2 with ⟨rfl, _⟩ | ⟨g2, cap, cur, rfl, hb, hg, _⟩
  · simp [Value.ownBlock] at e
  · simp [Value.ownBlock] at e
    subst e
    exact (Array.getElem?_eq_some_iff.1 hg).1
theorem LearntAt.put {w : World} {g e : Nat} {s : Value} {a k : Int} (h : LearntAt w g e s a k) (e' : Nat) (s' : Value) (a' k' : Int) :
    LearntAt ((((w.setCell ⟨g, 0, none⟩ (.int .i64 (e' : Nat))).setCell ⟨g, 1, none⟩ s').setCell ⟨g, 2, none⟩ (.int .i64 a')).setCell ⟨g, 3, none⟩ (.int .i64 k')) g e' s' a' k' := by
  have n : ∀ (w : World) (i j : Nat) (v : Value), i ≠ j → (w.setCell ⟨g, i, none⟩ v).cell? ⟨g, j, none⟩ = w.cell? ⟨g, j, none⟩ := fun w i j v h => cellNe h
  refine ⟨?_, ?_, ?_, ?_, fun i => ?_⟩
  · rw [n _ 3 0 _ (by omega), n _ 2 0 _ (by omega), n _ 1 0 _ (by omega)]; exact cellSet h.c0
  · rw [n _ 3 1 _ (by omega), n _ 2 1 _ (by omega)]; exact cellSet ((n _ 0 1 _ (by omega)).trans h.c1)
  · rw [n _ 3 2 _ (by omega)]; exact cellSet ((n _ 1 2 _ (by omega)).trans ((n _ 0 2 _ (by omega)).trans h.c2))
  · exact cellSet ((n _ 2 3 _ (by omega)).trans ((n _ 1 3 _ (by omega)).trans ((n _ 0 3 _ (by omega)).trans h.c3)))
  · rw [World.frozen?_setCell, World.frozen?_setCell, World.frozen?_setCell, World.frozen?_setCell]; exact h.fz i

set_option maxRecDepth 100000 in
set_option maxHeartbeats 4000000 in
theorem analyze_any {w : World} {b tb wb : Nat} {W : WatchS} {T : TrailS} (h : LrnAt w b tb wb .clean) (hw : WatAt w wb tb W) (ht : TrlAt w tb T) (hbt : tb ≠ b) (hbw : wb ≠ b) (conf : Int) :
    Calls Tryz.prog 81 #[.pointer (some ⟨b, 0, none⟩), .int .i64 conf] w fun e w' => ∃ v, e = .returned (.agg #[.int .i64 ((analyzeF W T conf).err : Nat), v, .int .i64 (analyzeF W T conf).assert, .int .i64 (analyzeF W T conf).back]) ∧
      OwnI w' w.heap.size v (analyzeF W T conf).lits ∧ TightV v (analyzeF W T conf).lits.length ∧ LrnAt w' b tb wb .clean ∧ Fr [b] w w' := by
  obtain ⟨res, hres⟩ : ∃ r, analyzeF W T conf = r := ⟨_, rfl⟩
  rw [hres]
  have hblt := h.lt
  obtain ⟨N, hN⟩ : ∃ N, w.heap.size = N := ⟨_, rfl⟩
  have hlearn := learnt_alloc w 153
  obtain ⟨w0, hw0⟩ : ∃ w0, w.alloc (Obj.cells #[.int .i64 0, .slice none 0 0, .int .i64 0, .int .i64 0] 153) = w0 := ⟨_, rfl⟩
  have hf0 : Fr [] w w0 := by rw [← hw0]; exact (Fr.refl _ _).alloc _
  have hs0 : w0.heap.size = N + 1 := by rw [← hw0]; simp [hN]
  rw [hw0, hN] at hlearn
  rw [hN] at hblt ⊢
  have hA0 := h.fr hf0 (by simp)
  have hW0 := hw.fr hf0 (by simp)
  have hT0 := ht.fr hf0 (by simp)
  have c0 := hlearn.c0
  have c1 := hlearn.c1
  have c2 := hlearn.c2
  have c3 := hlearn.c3
  have fz := hlearn.fz
  have hNb : N ≠ b := by omega
  have hNs : ¬ N < w.heap.size := by rw [hN]; omega
  have hwp := hA0.1.wp
  change w0.cell? ⟨b, 1, none⟩ = some (.pointer (some ⟨wb, 0, none⟩)) at hwp
  have hcl := clause_any hW0 conf
  cases hco : W.clause? conf with
  | none =>
    rw [hco] at hcl
    have HCL := hid hcl
    have HE : Hid (res = .fail 13) := by show _ = _; rw [← hres]; unfold analyzeF; rw [hco]
    have HA0 := hid hA0
    have HF0 := hid hf0
    have HNS := hid hNs
    have HNB := hid hNb
    clear hcl hco hres hA0 hW0 hT0 h hw ht hf0 hs0 hlearn hbt hbw hNs hNb
    refine calls_via fun K hK => ?_
    go_enter Tryz.func81, Tryz.ntmps81
    go_wp2_with (first | (go_at_call 58; refine HCL.out.mono ?_; rintro e w' ⟨rfl, hw⟩; have hw2 := hw.symm; subst hw2; clear hw))
    try simp only [Exit.inBlock, Exit.then]
    refine bodyPost_ret (v := .agg #[.int .i64 13, .slice none 0 0, .int .i64 0, .int .i64 0]) (by simp [results, Tryz.results81, go_sem, cellSet, c0, c1, c2, c3]) rfl ?_
    refine hK.out _ _ ⟨_, by rw [HE.out]; rfl, by rw [HE.out]; exact OwnI.nil _ _, by rw [HE.out]; exact .inl ⟨rfl, rfl⟩, ?_, ?_⟩
    · exact (((HA0.out.other HNB.out.symm _).other HNB.out.symm _).other HNB.out.symm _).other HNB.out.symm _
    · have h1 := HF0.out.mono (S2 := [b]) (by simp)
      exact (((h1.set (fun q => absurd q HNS.out) _).set (fun q => absurd q HNS.out) _).set (fun q => absurd q HNS.out) _).set (fun q => absurd q HNS.out) _
  | some c =>
    rw [hco] at hcl
    have HCL := hid hcl
    obtain ⟨hcg, hc12⟩ := clause_good hw hco
    obtain ⟨af, haf⟩ : ∃ af, allFalseF T c = af := ⟨_, rfl⟩
    have hres2 : res = if af = true then (if T.lims.length = 0 then .fail 10 else
        if (markAllF T { LearnS.clean with lv := T.lims.length } c).2.opn = 0 then .fail 10
        else if (climbF W T T.st.length (markAllF T { LearnS.clean with lv := T.lims.length } c).2).1 = 0 then .fail 15
        else { err := 0, lits := (shrinkF W T ((climbF W T T.st.length (markAllF T { LearnS.clean with lv := T.lims.length } c).2).2.join (-(climbF W T T.st.length (markAllF T { LearnS.clean with lv := T.lims.length } c).2).1)) (-(climbF W T T.st.length (markAllF T { LearnS.clean with lv := T.lims.length } c).2).1) 12 1 [] 0).1,
               assert := -(climbF W T T.st.length (markAllF T { LearnS.clean with lv := T.lims.length } c).2).1,
               back := (shrinkF W T ((climbF W T T.st.length (markAllF T { LearnS.clean with lv := T.lims.length } c).2).2.join (-(climbF W T T.st.length (markAllF T { LearnS.clean with lv := T.lims.length } c).2).1)) (-(climbF W T T.st.length (markAllF T { LearnS.clean with lv := T.lims.length } c).2).1) 12 1 [] 0).2 }) else .fail 15 := by
      rw [← hres, ← haf]; unfold analyzeF; rw [hco]
    have HA0 := hid hA0
    have HW0 := hid hW0
    have HT0 := hid hT0
    have HF0 := hid hf0
    have HNS := hid hNs
    have HNB := hid hNb
    have HLE := hid hlearn
    have HBT := hid hbt
    have HBW := hid hbw
    have HS0 := hid hs0
    have HCG := hid hcg
    have HC12 := hid hc12
    have HAF := hid haf
    have HRES := hid hres2
    have HTK := hid ht.ok
    clear hcl hco hres hA0 hW0 hT0 h hw ht hf0 hs0 hlearn hbt hbw hNs hNb hcg hc12 haf hres2
    refine calls_via fun K hK => ?_
    go_enter Tryz.func81, Tryz.ntmps81
    go_wp2_with fail
    refine HCL.out.mono ?_
    rintro e w2 ⟨v, rfl, hown, hf2⟩
    have hA2 := HA0.out.fr hf2 (by simp)
    have HA2 := hid hA2
    have HT2 := hid (HT0.out.fr hf2 (by simp))
    have HAL := hid (allFalse_any hA2 HT2.out hown.ints HC12.out)
    rw [HAF.out] at HAL
    have HOWN := hid hown
    have HF2 := hid hf2
    clear hown hf2 hA2 c0 c1 c2 c3 fz hwp hw0 hN
    cases haf : af with
    | false =>
      have HE : Hid (res = .fail 15) := by show _ = _; rw [HRES.out, haf]; rfl
      rw [haf] at HAL
      clear haf
      go_wp2_with fail
      refine HAL.out.mono ?_
      rintro e w3 ⟨rfl, n, hw3⟩
      have hf3 : Fr [] w0 w3 := by rw [hw3]; exact HF2.out.drewN
      have HA3 := hid (HA0.out.fr hf3 (by simp))
      have hle := HLE.out.fr hf3 (by simp)
      have c0 := hle.c0
      have c1 := hle.c1
      have c2 := hle.c2
      have c3 := hle.c3
      have fz := hle.fz
      have HF3 := hid hf3
      clear hf3 hw3 hle
      go_wp2_with fail
      try simp only [Exit.inBlock, Exit.then]
      refine bodyPost_ret (v := .agg #[.int .i64 15, .slice none 0 0, .int .i64 0, .int .i64 0]) (by simp [results, Tryz.results81, go_sem, cellSet, c0, c1, c2, c3]) rfl ?_
      have h4 := fin4 HA3.out ((HF0.out.trans HF3.out).mono (S2 := [b]) (by simp)) HNB.out HNS.out
      exact hK.out _ _ ⟨_, by rw [HE.out]; rfl, by rw [HE.out]; exact OwnI.nil _ _, by rw [HE.out]; exact .inl ⟨rfl, rfl⟩, (h4 _ _ _ _).1, (h4 _ _ _ _).2⟩
    | true =>
      rw [haf] at HAL
      have HR2 := HRES.out
      rw [if_pos haf] at HR2
      clear haf
      go_wp2_with fail
      refine HAL.out.mono ?_
      rintro e w3 ⟨rfl, n, hw3⟩
      have hf3 : Fr [] w0 w3 := by rw [hw3]; exact HF2.out.drewN
      have HO3 : Hid (OwnI w3 w0.heap.size v c) := by show OwnI _ _ _ _; rw [hw3]; exact HOWN.out.drewN
      have hA3 := HA0.out.fr hf3 (by simp)
      have HA3 := hid hA3
      have HT3 := hid (HT0.out.fr hf3 (by simp))
      have HLV := hid (lvl_any HT3.out)
      obtain ⟨dl, hdl⟩ : ∃ d, T.lims.length = d := ⟨_, rfl⟩
      have hd12 : dl ≤ 12 := by have := lims_len HTK.out; have := HTK.out.len; omega
      rw [hdl] at HLV HR2
      have htp := hA3.1.t
      have hlvc := hA3.1.lv
      have hfz := hA3.1.froz
      change w3.cell? ⟨b, 0, none⟩ = some (.pointer (some ⟨tb, 0, none⟩)) at htp
      change w3.cell? ⟨b, 6, none⟩ = some (.int .i64 0) at hlvc
      obtain ⟨A4, hA4e⟩ : ∃ A4, ({ LearnS.clean with lv := (dl : Int) } : LearnS) = A4 := ⟨_, rfl⟩
      rw [hA4e] at HR2
      have HA4 : Hid (LrnAt (w3.setCell ⟨b, 6, none⟩ (.int .i64 (dl : Nat))) b tb wb A4) := by
        rw [← hA4e]; exact ⟨hA3.1.set_lv (dl : Nat), hA3.2.seen, hA3.2.pos, hA3.2.neg⟩
      have hA4o : A4.opn = 0 := by rw [← hA4e]; rfl
      have HF3 := hid hf3
      clear hf3 hw3 hdl hA3
      by_cases hd0 : dl = 0
      · have HE : Hid (res = .fail 10) := by show _ = _; rw [HR2, if_pos hd0]
        have hb1 : ((dl : Int) == 0) = true := by simp [hd0]
        have HRF := hid (refuse_any HA4.out 10 (by omega))
        rw [show ((10 : Nat) : Int) = 10 from rfl] at HRF
        clear HR2 hd0 hA4o hA4e
        go_wp2_with (first | (go_at_call 118; refine HLV.out.mono ?_; rintro e w' ⟨rfl, hw⟩; have hw2 := hw.symm; subst hw2; clear hw))
        refine HRF.out.mono ?_
        rintro e w5 ⟨rfl, hA5, hf5⟩
        have hf05 : Fr [b] w0 w5 := (HF3.out.mono (S2 := [b]) (by simp)).trans (((Fr.refl [b] w3).set (by simp) _).trans hf5)
        have hle := HLE.out.fr hf05 (by have := HNB.out; simp; omega)
        have c0 := hle.c0
        have c1 := hle.c1
        have c2 := hle.c2
        have c3 := hle.c3
        have fz := hle.fz
        have HA5 := hid hA5
        have HF5 := hid hf05
        clear hf5 hA5 hle hf05
        go_wp2_with fail
        try simp only [Exit.inBlock, Exit.then]
        refine bodyPost_ret (v := .agg #[.int .i64 10, .slice none 0 0, .int .i64 0, .int .i64 0]) (by simp [results, Tryz.results81, go_sem, cellSet, c0, c1, c2, c3]) rfl ?_
        have h4 := fin4 HA5.out ((HF0.out.mono (S2 := [b]) (by simp)).trans HF5.out) HNB.out HNS.out
        exact hK.out _ _ ⟨_, by rw [HE.out]; rfl, by rw [HE.out]; exact OwnI.nil _ _, by rw [HE.out]; exact .inl ⟨rfl, rfl⟩, (h4 _ _ _ _).1, (h4 _ _ _ _).2⟩
      · rw [if_neg hd0] at HR2
        have hb1 : ((dl : Int) == 0) = false := by simp [hd0]
        have hf34 : Fr [b] w3 (w3.setCell ⟨b, 6, none⟩ (.int .i64 (dl : Nat))) := (Fr.refl [b] w3).set (by simp) _
        have hvb : v.ownBlock ≠ some b := ownBlock_slice HO3.out (by rw [HS0.out]; omega)
        have HT4 := hid (HT3.out.fr hf34 (by have := HBT.out; simp; omega))
        have hI4 : Ints (w3.setCell ⟨b, 6, none⟩ (.int .i64 (dl : Nat))) v c := HO3.out.ints.fr hf34 (fun g hg hm => hvb (by rw [List.mem_singleton] at hm; rw [hg, hm]))
        have HMK := hid (markAll_any HA4.out HT4.out HBT.out hI4 hvb HCG.out HC12.out (by omega) (by omega))
        have hmo := markAllF_opn T c A4
        obtain ⟨M, hM⟩ : ∃ M, markAllF T A4 c = M := ⟨_, rfl⟩
        rw [hM] at HMK hmo HR2
        have hc12 := HC12.out
        have HMO : Hid (0 ≤ M.2.opn ∧ M.2.opn ≤ 12) := by show _ ∧ _; omega
        have HF34 := hid hf34
        clear hd0 hA4o hA4e hf34 hvb hI4 hmo hM hc12
        go_wp2_with (first | (go_at_call 118; refine HLV.out.mono ?_; rintro e w' ⟨rfl, hw⟩; have hw2 := hw.symm; subst hw2; clear hw))
        refine HMK.out.mono ?_
        rintro e w5 ⟨rfl, hA5, hf45⟩
        have hf5 : Fr [b] w0 w5 := (HF3.out.mono (S2 := [b]) (by simp)).trans (HF34.out.trans hf45)
        have HF5 := hid hf5
        have hop := hA5.1.opn
        change w5.cell? ⟨b, 5, none⟩ = some (.int .i64 M.2.opn) at hop
        have HA5 := hid hA5
        have HT5 := hid (HT0.out.fr hf5 (by have := HBT.out; simp; omega))
        have HW5 := hid (HW0.out.fr hf5 (by have := HBW.out; simp; omega))
        clear hA5 hf5 hf45 htp hlvc hfz
        by_cases ho0 : M.2.opn = 0
        · have HE : Hid (res = .fail 10) := by show _ = _; rw [HR2, if_pos ho0]
          have hb2 : (M.2.opn == 0) = true := by simp [ho0]
          have HRF := hid (refuse_any HA5.out 10 (by omega))
          rw [show ((10 : Nat) : Int) = 10 from rfl] at HRF
          have HF5' := HF5
          clear HR2 ho0 HF5
          go_wp2_with fail
          refine HRF.out.mono ?_
          rintro e w5 ⟨rfl, hA5, hf5⟩
          have hf05 : Fr [b] w0 w5 := HF5'.out.trans hf5
          have hle := HLE.out.fr hf05 (by have := HNB.out; simp; omega)
          have c0 := hle.c0
          have c1 := hle.c1
          have c2 := hle.c2
          have c3 := hle.c3
          have fz := hle.fz
          have HA5 := hid hA5
          have HF5 := hid hf05
          clear hf5 hA5 hle hf05
          go_wp2_with fail
          try simp only [Exit.inBlock, Exit.then]
          refine bodyPost_ret (v := .agg #[.int .i64 10, .slice none 0 0, .int .i64 0, .int .i64 0]) (by simp [results, Tryz.results81, go_sem, cellSet, c0, c1, c2, c3]) rfl ?_
          have h4 := fin4 HA5.out ((HF0.out.mono (S2 := [b]) (by simp)).trans HF5.out) HNB.out HNS.out
          exact hK.out _ _ ⟨_, by rw [HE.out]; rfl, by rw [HE.out]; exact OwnI.nil _ _, by rw [HE.out]; exact .inl ⟨rfl, rfl⟩, (h4 _ _ _ _).1, (h4 _ _ _ _).2⟩
        · rw [if_neg ho0] at HR2
          have hb2 : (M.2.opn == 0) = false := by simp [ho0]
          have HCB := hid (climb_any HA5.out HW5.out HT5.out HBT.out HBW.out (by have := HMO.out; omega) (by have := HMO.out; omega))
          have hcg := climbF_good (W := W) HTK.out T.st.length M.2 (Nat.le_refl _)
          obtain ⟨C, hC⟩ : ∃ C, climbF W T T.st.length M.2 = C := ⟨_, rfl⟩
          rw [hC] at HCB HR2 hcg
          clear ho0 hC
          go_wp2_with fail
          refine HCB.out.mono ?_
          rintro e w6 ⟨rfl, hA6, hf56⟩
          have HF6 := hid (HF5.out.trans hf56)
          have HA6 := hid hA6
          have HT6 := hid (HT0.out.fr HF6.out (by have := HBT.out; simp; omega))
          have HW6 := hid (HW0.out.fr HF6.out (by have := HBW.out; simp; omega))
          clear hA6 hf56 hop
          by_cases hp0 : C.1 = 0
          · have HE : Hid (res = .fail 15) := by show _ = _; rw [HR2, if_pos hp0]
            have hb3 : (C.1 == 0) = true := by simp [hp0]
            have HRF := hid (refuse_any HA6.out 15 (by omega))
            rw [show ((15 : Nat) : Int) = 15 from rfl] at HRF
            clear HR2 hp0 hcg
            go_wp2_with fail
            refine HRF.out.mono ?_
            rintro e w5 ⟨rfl, hA5, hf5⟩
            have hf05 : Fr [b] w0 w5 := HF6.out.trans hf5
            have hle := HLE.out.fr hf05 (by have := HNB.out; simp; omega)
            have c0 := hle.c0
            have c1 := hle.c1
            have c2 := hle.c2
            have c3 := hle.c3
            have fz := hle.fz
            have HA5 := hid hA5
            have HF9 := hid hf05
            clear hf5 hA5 hle hf05
            go_wp2_with fail
            try simp only [Exit.inBlock, Exit.then]
            refine bodyPost_ret (v := .agg #[.int .i64 15, .slice none 0 0, .int .i64 0, .int .i64 0]) (by simp [results, Tryz.results81, go_sem, cellSet, c0, c1, c2, c3]) rfl ?_
            have h4 := fin4 HA5.out ((HF0.out.mono (S2 := [b]) (by simp)).trans HF9.out) HNB.out HNS.out
            exact hK.out _ _ ⟨_, by rw [HE.out]; rfl, by rw [HE.out]; exact OwnI.nil _ _, by rw [HE.out]; exact .inl ⟨rfl, rfl⟩, (h4 _ _ _ _).1, (h4 _ _ _ _).2⟩
          · rw [if_neg hp0] at HR2
            have hb3 : (C.1 == 0) = false := by simp [hp0]
            have hgp := hcg.resolve_left hp0
            have hgp2 := (good_iff _).1 hgp
            have hp1 : -12 ≤ C.1 := by omega
            have hp2 : C.1 ≤ 12 := by omega
            have hgn : good (-C.1) = true := by rw [good_iff]; omega
            have HJ := hid (ljoin_any HA6.out (-C.1) hgn)
            clear hp0 hcg hgp hgp2 hgn
            go_wp2_with fail
            refine HJ.out.mono ?_
            rintro e w7 ⟨rfl, hA7, hf67⟩
            have HF7 := hid (HF6.out.trans hf67)
            have HA7 := hid hA7
            have HSH := hid (shrink_any hA7 (HW0.out.fr HF7.out (by have := HBW.out; simp; omega)) (HT0.out.fr HF7.out (by have := HBT.out; simp; omega)) (-C.1))
            obtain ⟨L, hL⟩ : ∃ L, shrinkF W T (C.2.join (-C.1)) (-C.1) 12 1 [] 0 = L := ⟨_, rfl⟩
            rw [hL] at HSH HR2
            have HE := hid HR2
            clear HR2 hA7 hf67 hL
            go_wp2_with fail
            refine HSH.out.mono ?_
            rintro e w8 ⟨v8, rfl, ho8, ht8, hl8, hf78⟩
            obtain ⟨a8, n8, rfl⟩ := TightV.form ht8
            have HF8 := hid (HF7.out.trans (hf78.mono (S2 := [b]) (by simp)))
            have HA8 := hid (HA7.out.fr hf78 (by simp))
            have HO8 := hid ho8
            have HTI := hid ht8
            have h78 := hf78.size
            have h07 := HF7.out.size
            obtain ⟨N8, hN8⟩ : ∃ N8, w8.heap.size = N8 := ⟨_, rfl⟩
            have HN8e := hid hN8
            have hlearn8 := learnt_alloc w8 153
            obtain ⟨w9, hw9⟩ : ∃ w9, w8.alloc (Obj.cells #[.int .i64 0, .slice none 0 0, .int .i64 0, .int .i64 0] 153) = w9 := ⟨_, rfl⟩
            have hf9 : Fr [] w8 w9 := by rw [← hw9]; exact (Fr.refl _ _).alloc _
            rw [hw9, hN8] at hlearn8
            have HN8 : Hid (N8 ≠ b ∧ N8 ≠ N ∧ ¬ N8 < w0.heap.size) := by
              have h1 := HA8.out.lt; have h2 := HS0.out
              rw [hN8] at h1 h78
              show _ ∧ _ ∧ _
              omega
            have e0 := hlearn8.c0
            have e1 := hlearn8.c1
            have e2 := hlearn8.c2
            have e3 := hlearn8.c3
            have efz := hlearn8.fz
            have HLE8 := hid (hlearn8.put 0 (.slice a8 n8 n8) (-C.1) L.2)
            have HF9 := hid hf9
            have HWP : Hid (∀ u0 u1 u2 u3, _) := fun u0 u1 u2 u3 => wipe_any ((((HA8.out.fr hf9 (by simp)).other (a := ⟨N8, 0, none⟩) HN8.out.1.symm u0).other (a := ⟨N8, 1, none⟩) HN8.out.1.symm u1).other (a := ⟨N8, 2, none⟩) HN8.out.1.symm u2 |>.other (a := ⟨N8, 3, none⟩) HN8.out.1.symm u3)
            clear ho8 ht8 hl8 hf78 h78 h07 hlearn8 hf9
            go_wp2_with fail
            refine (HWP.out _ _ _ _).mono ?_
            rintro e w10 ⟨rfl, hA10, hf10⟩
            have HA10 := hid hA10
            have hl10 := HLE8.out.fr hf10 (by have := HN8.out.1; simp; omega)
            have d0 := hl10.c0
            have d1 := hl10.c1
            have d2 := hl10.c2
            have d3 := hl10.c3
            have hff : Fr [b] w0 w10 := by
              have hs : ¬ N8 < w0.heap.size := HN8.out.2.2
              have h1 := HF8.out.trans (HF9.out.mono (S2 := [b]) (by simp))
              have h2 := (((h1.set (p := ⟨N8, 0, none⟩) (fun q => absurd q hs) (.int .i64 ((0 : Nat) : Int))).set (p := ⟨N8, 1, none⟩) (fun q => absurd q hs) (.slice a8 n8 n8)).set (p := ⟨N8, 2, none⟩) (fun q => absurd q hs) (.int .i64 (-C.1))).set (p := ⟨N8, 3, none⟩) (fun q => absurd q hs) (.int .i64 L.2)
              exact h2.trans hf10
            have hle := HLE.out.fr hff (by have := HNB.out; simp; omega)
            have c0 := hle.c0
            have c1 := hle.c1
            have c2 := hle.c2
            have c3 := hle.c3
            have fz := hle.fz
            have HFF := hid hff
            have HF10 := hid hf10
            clear hA10 hf10 hl10 hff hle e0 e1 e2 e3 efz hw9
            go_wp2_with fail
            try simp only [Exit.inBlock, Exit.then]
            refine bodyPost_ret (v := .agg #[.int .i64 0, .slice a8 n8 n8, .int .i64 (-C.1), .int .i64 L.2]) (by simp [results, Tryz.results81, go_sem, cellSet, c0, c1, c2, c3]) rfl ?_
            have h4 := fin4 HA10.out ((HF0.out.mono (S2 := [b]) (by simp)).trans HFF.out) HNB.out HNS.out
            refine hK.out _ _ ⟨_, by rw [HE.out]; rfl, ?_, by rw [HE.out]; exact HTI.out, (h4 _ _ _ _).1, (h4 _ _ _ _).2⟩
            rw [HE.out]
            have hb7 : N ≤ w7.heap.size := by have := HF7.out.size; have := HS0.out; omega
            have hgl := HO8.out.lt
            have hgb := HO8.out.base
            refine (HO8.out.mono (base2 := N) hb7).fr (S := [b, N, N8]) ?_ ?_
            · have h1 := HF9.out.mono (S2 := [b, N, N8]) (by simp)
              have h2 := (((h1.set (p := ⟨N8, 0, none⟩) (by simp) (.int .i64 ((0 : Nat) : Int))).set (p := ⟨N8, 1, none⟩) (by simp) (.slice a8 n8 n8)).set (p := ⟨N8, 2, none⟩) (by simp) (.int .i64 (-C.1))).set (p := ⟨N8, 3, none⟩) (by simp) (.int .i64 L.2)
              have h3 := h2.trans (HF10.out.mono (S2 := [b, N, N8]) (by simp))
              exact (((h3.set (by simp) _).set (by simp) _).set (by simp) _).set (by simp) _
            · intro g hg hm
              have q1 := hgl g hg
              have q2 := hgb g hg
              have q3 := HF7.out.size
              have q4 := HS0.out
              have q5 := HA7.out.lt
              have q6 := HN8e.out
              simp at hm
              omega
end Go.Proofs.Qxb6500354aGreat
