/- The walk over searchm: Solve. -/
import Derived.Test.Qxb6500354aGreatSm2
import Derived.Test.Qxb6500354aGreatMpr
import Derived.Test.Qxb6500354aGreatPrb
namespace Go.Proofs.Qxb6500354aGreat
open Go.RowKit
set_option linter.unusedVariables false
set_option linter.unusedSimpArgs false

theorem problemF_ok (bs : List Nat) : (problemF bs).1.length ≤ 40 ∧ ∀ c ∈ (problemF bs).1, checkClause c = 0 := by
  obtain ⟨rs, h1, hc⟩ := parseM_flat bs
  by_cases he : (parseM bs).err = 0
  · rw [problemF_flat hc he h1]
    by_cases hs : surveyF (flatOf rs) = 0
    · rw [if_pos hs]
      refine ⟨by rw [List.length_map]; exact (survey_zero hc hs).2, fun c hm => ?_⟩
      obtain ⟨r, hr, rfl⟩ := List.mem_map.1 hm
      exact hc r hr
    · rw [if_neg hs]; simp
  · unfold problemF; simp only []; rw [if_neg he]; simp
theorem rowsOK_of {cs : List (List Int)} (h : cs.length ≤ 40 ∧ ∀ c ∈ cs, checkClause c = 0) : RowsOK cs :=
  ⟨by have := h.1; omega, fun c hc => by have := checkClause_facts (h.2 c hc); exact ⟨this.2.1, this.1⟩⟩

theorem problemF_pos (bs : List Nat) (h : (problemF bs).2.1 = 0) : (problemF bs).2.2 = 0 := by
  obtain ⟨rs, h1, hc⟩ := parseM_flat bs
  by_cases he : (parseM bs).err = 0
  · rw [problemF_flat hc he h1] at h ⊢
    split <;> rfl
  · have hp : problemF bs = ([], (parseM bs).err, (parseM bs).pos) := by unfold problemF; simp only []; rw [if_neg he]
    rw [hp] at h; exact absurd h he
theorem tableF_range (cs : List (List Int)) : ∀ (n k : Nat), tableF cs n k = -1 ∨ ∃ j : Nat, tableF cs n k = j ∧ k ≤ j ∧ j < k + n := by
  intro n
  induction n with
  | zero => intro k; exact .inl rfl
  | succ n ih =>
    intro k
    rw [tableF_succ]
    by_cases h : allHoldF cs k = true
    · rw [if_pos h]; exact .inr ⟨k, rfl, Nat.le_refl _, by omega⟩
    · rw [if_neg h]
      rcases ih (k + 1) with e | ⟨j, e, h1, h2⟩
      · exact .inl e
      · exact .inr ⟨j, e, by omega, by omega⟩
/-- The model's solver: its block, its parser's. -/
structure MsAt (w : World) (m p : Nat) : Prop where
  c : w.cell? ⟨m, 0, none⟩ = some (.pointer (some ⟨p, 0, none⟩))
  pm : PMAt w p
theorem MsAt.fr {w w2 : World} {m p : Nat} {D : List Nat} (h : MsAt w m p) (hf : Fr D w w2) (hm : m ∉ D) (hp : p ∉ D) : MsAt w2 m p := ⟨hf.cell h.c hm, h.pm.fr hf hp⟩
def satM (r : List (List Int) × Nat × Nat) : Bool := decide (r.2.1 = 0) && decide (0 ≤ tableF r.1 4096 0)
def ansM (r : List (List Int) × Nat × Nat) (mv : Value) (s : ByteArray) : Value := .agg #[.int .i64 (r.2.1 : Nat), .int .i64 (r.2.2 : Nat), .bool (satM r), mv, .string s, .int .i64 0, .int .i64 0]

set_option maxRecDepth 100000 in
set_option maxHeartbeats 8000000 in
theorem msolve_any {w : World} {m p : Nat} (h : MsAt w m p) (hmp : m ≠ p) (s : ByteArray) (hs : s.size ≤ maxLen) :
    Calls Tryz.prog 26 #[.pointer (some ⟨m, 0, none⟩), .string s] w fun e w' => (∃ x n c pf, e = .returned (ansM (problemF (bytesOf s)) (.slice x n c) pf)) ∧ PMAt w' p ∧ Fr [p] w w' := by
  obtain ⟨N, hN⟩ : ∃ N, w.heap.size = N := ⟨_, rfl⟩
  have hC0 := CellsAt.mk_alloc w [.int .i64 0, .int .i64 0, .bool false, .slice none 0 0, .string ⟨#[]⟩, .int .i64 0, .int .i64 0] 74
  obtain ⟨w0, hw0⟩ : ∃ w0, w.alloc (Obj.cells #[.int .i64 0, .int .i64 0, .bool false, .slice none 0 0, .string ⟨#[]⟩, .int .i64 0, .int .i64 0] 74) = w0 := ⟨_, rfl⟩
  change CellsAt (w.alloc (Obj.cells #[.int .i64 0, .int .i64 0, .bool false, .slice none 0 0, .string ⟨#[]⟩, .int .i64 0, .int .i64 0] 74)) w.heap.size _ at hC0
  rw [hw0, hN] at hC0
  have hf0 : Fr [] w w0 := by rw [← hw0]; exact (Fr.refl _ _).alloc _
  have hs0 : w0.heap.size = N + 1 := by rw [← hw0]; simp [hN]
  have h0 := h.fr hf0 (by simp) (by simp)
  have hc := h0.c
  have hmN : m < N := by rw [← hN]; exact lt_of_cellB h.c
  have hpN : p < N := by rw [← hN]; exact h.pm.lt
  have HPB := hid (problem_any h0.pm s hs [] (by simp))
  have hpo := problemF_ok (bytesOf s)
  have hpp := problemF_pos (bytesOf s)
  obtain ⟨q, hq⟩ : ∃ r, problemF (bytesOf s) = r := ⟨_, rfl⟩
  rw [hq] at HPB hpo hpp ⊢
  have HPO := hid hpo
  have HC0 := hid hC0
  have HF0 := hid hf0
  have HS0 := hid hs0
  have HN := hid hN
  have HMN := hid hmN
  have HPN := hid hpN
  have HMP := hid hmp
  have HNS : Hid (¬ N < w.heap.size) := hid (by rw [hN]; omega)
  clear h hC0 hf0 hs0 h0 hmN hpN hpo hq hmp
  obtain ⟨rows, er, ps⟩ := q
  simp only [] at HPB HPO hpp
  by_cases he : er = 0
  · subst he
    have hps := hpp rfl
    subst hps
    clear hpp
    have HOK := hid (rowsOK_of HPO.out)
    obtain ⟨tb, htb⟩ : ∃ t, tableF rows 4096 0 = t := ⟨_, rfl⟩
    by_cases ht : tb < 0
    · have hE : Hid (∀ mv pf, ansM (rows, 0, 0) mv pf = .agg #[.int .i64 0, .int .i64 0, .bool false, mv, .string pf, .int .i64 0, .int .i64 0]) := hid (fun mv pf => by
        unfold ansM satM; simp only []; rw [htb, decide_eq_false (show ¬ (0 ≤ tb) by omega), Bool.and_false]; rfl)
      have HTB := hid htb
      have hti : (tb : Int) < 0 := ht
      clear htb ht
      refine calls_via fun K hK => ?_
      go_enter Tryz.func26, Tryz.ntmps26
      go_wp2_with fail
      refine HPB.out.mono ?_
      rintro e w1 ⟨cv, rfl, ⟨ho1, hp1, hf1⟩⟩
      have HC1 := hid (HC0.out.fr hf1 (by have := HPN.out; simp; omega) (by simp))
      have HP1 := hid hp1
      have HF1 := hid ((HF0.out.mono (by simp)).trans hf1)
      have HM1 := hid ho1.mat
      have hc1 := hf1.cell hc (by have := HMP.out; simpa using this)
      rw [show ((0 : Nat) : Int) = 0 from rfl]
      clear ho1 hp1 hf1 hw0 hN hc
      go_wp2_with fail
      refine (table_any HM1.out HOK.out).mono ?_
      rintro e w' ⟨rfl, hw⟩
      have hw2 := hw.symm
      subst hw2
      rw [HTB.out]
      clear hw
      go_wp2_with fail
      have HRF := refute_any HM1.out HOK.out 12 w1 (.slice none 0 0) (.slice none 0 0) [] [] 0 (by omega) ⟨by omega, by simp, by simp, Fr.refl _ _, ⟨.inl ⟨rfl, rfl⟩, by simp [Value.ownBlock], by simp [Value.ownBlock]⟩, OwnI.nil _ _⟩ (by decide)
      rw [show ((0 : Nat) : Int) = 0 from rfl] at HRF
      refine HRF.mono ?_
      clear HRF
      rintro e w2 ⟨fv, l2, rfl, hg2, hl2⟩
      have HF2 : Hid (Fr [] w1 w2) := hid hg2.fr
      have hvb : ∀ g, fv.ownBlock = some g → g ≠ p := fun g hg => by have := hg2.own.base g hg; have := HP1.out.lt; omega
      have HPR := hid (mprint_any (HP1.out.fr HF2.out (by simp)) hg2.own.ints (by simp at hl2; omega) hvb)
      have hc2 := HF2.out.cell hc1 (by simp)
      clear hg2 hl2 hvb hc1
      go_wp2_with fail
      refine HPR.out.mono ?_
      rintro e w3 ⟨⟨pf, k, rfl⟩, hp3, hf3⟩
      have HP3 := hid hp3
      have HF3 := hid (HF1.out.trans ((HF2.out.mono (by simp)).trans hf3))
      have HC3 := hid ((HC1.out.fr HF2.out (by simp) (by simp)).fr hf3 (by have := HPN.out; simp; omega) (by simp))
      have c0 := HC3.out.c 0 _ rfl
      have c1 := HC3.out.c 1 _ rfl
      have c2 := HC3.out.c 2 _ rfl
      have c3 := HC3.out.c 3 _ rfl
      have c4 := HC3.out.c 4 _ rfl
      have c5 := HC3.out.c 5 _ rfl
      have c6 := HC3.out.c 6 _ rfl
      have fz := HC3.out.fz
      clear hp3 hf3 hc2
      go_wp2_with fail
      refine bodyPost_ret (v := .agg #[.int .i64 0, .int .i64 0, .bool false, .slice none 0 0, .string pf, .int .i64 0, .int .i64 0]) (by simp [results, Tryz.results26, go_sem, cellSet, c0, c1, c2, c3, c4, c5, c6]) rfl ?_
      have hfn : Fr [N] w3 _ := ((((((((Fr.refl [N] w3).setG 0 (.int .i64 0)).setG 1 (.int .i64 0)).setG 2 (.bool false)).setG 3 (.slice none 0 0)).setG 4 (.string pf)).setG 5 (.int .i64 0)).setG 6 (.int .i64 0))
      refine hK.out _ _ ⟨⟨_, _, _, _, by rw [hE.out]⟩, HP3.out.fr hfn (by have := HPN.out; simp; omega), HF3.out.trans2 hfn (fun y hy hlt => by simp at hy; exact absurd (hy ▸ hlt) HNS.out)⟩
    · have hE : Hid (∀ mv pf, ansM (rows, 0, 0) mv pf = .agg #[.int .i64 0, .int .i64 0, .bool true, mv, .string pf, .int .i64 0, .int .i64 0]) := hid (fun mv pf => by
        unfold ansM satM; simp only []; rw [htb, decide_eq_true (show 0 ≤ tb by omega)]; rfl)
      have hmk : ∃ mk : Nat, tb = mk ∧ mk < 4096 := by
        rcases tableF_range rows 4096 0 with e | ⟨k, e, h1, h2⟩
        · rw [htb] at e; omega
        · exact ⟨k, by rw [← htb, e], by omega⟩
      obtain ⟨mk, rfl, hmk⟩ := hmk
      have HTB := hid htb
      have HMK := hid hmk
      have hti : ¬ (mk : Int) < 0 := by omega
      clear htb ht hmk
      refine calls_via fun K hK => ?_
      go_enter Tryz.func26, Tryz.ntmps26
      go_wp2_with fail
      refine HPB.out.mono ?_
      rintro e w1 ⟨cv, rfl, ⟨ho1, hp1, hf1⟩⟩
      have HC1 := hid (HC0.out.fr hf1 (by have := HPN.out; simp; omega) (by simp))
      have HP1 := hid hp1
      have HF1 := hid ((HF0.out.mono (by simp)).trans hf1)
      have HM1 := hid ho1.mat
      rw [show ((0 : Nat) : Int) = 0 from rfl]
      clear ho1 hp1 hf1 hw0 hN hc
      go_wp2_with fail
      refine (table_any HM1.out HOK.out).mono ?_
      rintro e w' ⟨rfl, hw⟩
      have hw2 := hw.symm
      subst hw2
      rw [HTB.out]
      clear hw
      obtain ⟨N1, hN1⟩ : ∃ N, w1.heap.size = N := ⟨_, rfl⟩
      have HN1 := hid hN1
      clear hN1
      go_wp2_with (at_make; refine wp_mk rfl _ _ rfl 12 12 12 rfl rfl rfl rfl (by omega) ?_; intro w2 ho2 hg2)
      rw [HN1.out] at ho2 ⊢
      have hf2 : Fr [] w1 w2 := Fr.ofGrown hg2
      have HO2 := hid ho2
      have HF2 := hid hf2
      clear hg2 ho2 hf2
      go_loopg [13] 12 (fun g i wr => ∃ (l : List Int) (v : Nat), g + v = 12 ∧ i = .int .i64 ((v : Int) + 1) ∧ OwnI wr N1 (.slice (some ⟨N1, 0, none⟩) 12 12) l ∧ l.length = 12 ∧ Fr [] w1 wr)
      case atStart => exact ⟨List.replicate 12 0, 0, by omega, by simp, HO2.out, by simp, HF2.out⟩
      case round =>
        obtain ⟨l, v, hg, rfl, ho, hl, hf⟩ := hrel
        by_cases hlt : v < 12
        · have hvi : (v : Int) < 12 := by omega
          have hvi2 : (v : Int) + 1 ≤ 12 := by omega
          have hcell := ho.get v (by omega)
          have hfz := OwnI.frozen ho
          have HO := hid ho
          have HL := hid hl
          have HF := hid hf
          have HG := hid hg
          have HV := hid (fun w => true_any ((v : Int) + 1) mk ((good_iff _).2 (by omega)) HMK.out w)
          obtain ⟨t, htt⟩ : ∃ z, trueF ((v : Int) + 1) mk = z := ⟨_, rfl⟩
          rw [htt] at HV
          clear htt ho hl hf hg hlt
          cases t with
          | true =>
            go_wp2_with (first | (go_at_call 55; refine (HV.out _).mono ?_; rintro e w' ⟨rfl, hw⟩; have hw2 := hw.symm; subst hw2; clear hw))
            go_roundg (gk - 1)
            case measure => have := HG.out; omega
            case rel =>
              have hg := HG.out
              exact ⟨_, v + 1, by omega, by simp, (HO.out.setg HL.out v _).setg (by simp [HL.out]) v _, by simp [HL.out], (HF.out.set (fun q => absurd q (by have := HN1.out; simp; omega)) _).set (fun q => absurd q (by have := HN1.out; simp; omega)) _⟩
          | false =>
            go_wp2_with (first | (go_at_call 55; refine (HV.out _).mono ?_; rintro e w' ⟨rfl, hw⟩; have hw2 := hw.symm; subst hw2; clear hw))
            go_roundg (gk - 1)
            case measure => have := HG.out; omega
            case rel =>
              have hg := HG.out
              exact ⟨_, v + 1, by omega, by simp, HO.out.setg HL.out v _, by simp [HL.out], HF.out.set (fun q => absurd q (by have := HN1.out; simp; omega)) _⟩
        · have hv12 : v = 12 := by omega
          subst hv12
          have HO := hid ho
          have HC3 := hid (HC1.out.fr hf (by simp) (by simp))
          have HF3 := hid (HF1.out.trans (hf.mono (by simp)))
          have HP3 := hid (HP1.out.fr hf (by simp))
          have c0 := HC3.out.c 0 _ rfl
          have c1 := HC3.out.c 1 _ rfl
          have c2 := HC3.out.c 2 _ rfl
          have c3 := HC3.out.c 3 _ rfl
          have c4 := HC3.out.c 4 _ rfl
          have c5 := HC3.out.c 5 _ rfl
          have c6 := HC3.out.c 6 _ rfl
          have fz := HC3.out.fz
          clear ho hl hf hg hlt
          go_wp2_with fail
          refine bodyPost_ret (v := .agg #[.int .i64 0, .int .i64 0, .bool true, .slice (some ⟨N1, 0, none⟩) 12 12, .string ⟨#[]⟩, .int .i64 0, .int .i64 0]) (by simp [results, Tryz.results26, go_sem, cellSet, c0, c1, c2, c3, c4, c5, c6]) rfl ?_
          have hfn : Fr [N] wr _ := ((((((((Fr.refl [N] wr).setG 0 (.int .i64 0)).setG 1 (.int .i64 0)).setG 2 (.bool true)).setG 3 (.slice (some ⟨N1, 0, none⟩) 12 12)).setG 4 (.string ⟨#[]⟩)).setG 5 (.int .i64 0)).setG 6 (.int .i64 0))
          refine hK.out _ _ ⟨⟨_, _, _, _, by rw [hE.out]⟩, HP3.out.fr hfn (by have := HPN.out; simp; omega), HF3.out.trans2 hfn (fun y hy hlt => by simp at hy; exact absurd (hy ▸ hlt) HNS.out)⟩
  · have hE : Hid (∀ mv pf, ansM (rows, er, ps) mv pf = .agg #[.int .i64 (er : Nat), .int .i64 (ps : Nat), .bool false, mv, .string pf, .int .i64 0, .int .i64 0]) := hid (fun mv pf => by
      unfold ansM satM; simp only []; rw [decide_eq_false he, Bool.false_and])
    have hb1 : ((er : Int) != 0) = true := by rw [neN]; simp [he]
    clear he hpp
    refine calls_via fun K hK => ?_
    go_enter Tryz.func26, Tryz.ntmps26
    go_wp2_with fail
    refine HPB.out.mono ?_
    rintro e w1 ⟨cv, rfl, ⟨ho1, hp1, hf1⟩⟩
    have HC1 := hid (HC0.out.fr hf1 (by have := HPN.out; simp; omega) (by simp))
    have HP1 := hid hp1
    have HF1 := hid ((HF0.out.mono (by simp)).trans hf1)
    have c0 := HC1.out.c 0 _ rfl
    have c1 := HC1.out.c 1 _ rfl
    have c2 := HC1.out.c 2 _ rfl
    have c3 := HC1.out.c 3 _ rfl
    have c4 := HC1.out.c 4 _ rfl
    have c5 := HC1.out.c 5 _ rfl
    have c6 := HC1.out.c 6 _ rfl
    have fz := HC1.out.fz
    clear ho1 hp1 hf1 hw0 hN hc
    go_wp2_with fail
    refine bodyPost_ret (v := .agg #[.int .i64 (er : Nat), .int .i64 (ps : Nat), .bool false, .slice none 0 0, .string ⟨#[]⟩, .int .i64 0, .int .i64 0]) (by simp [results, Tryz.results26, go_sem, cellSet, c0, c1, c2, c3, c4, c5, c6]) rfl ?_
    have hfn : Fr [N] w1 _ := ((((((((Fr.refl [N] w1).setG 0 (.int .i64 (er : Nat))).setG 1 (.int .i64 (ps : Nat))).setG 2 (.bool false)).setG 3 (.slice none 0 0)).setG 4 (.string ⟨#[]⟩)).setG 5 (.int .i64 0)).setG 6 (.int .i64 0))
    refine hK.out _ _ ⟨⟨_, _, _, _, by rw [hE.out]⟩, HP1.out.fr hfn (by have := HPN.out; simp; omega), HF1.out.trans2 hfn (fun y hy hlt => by simp at hy; exact absurd (hy ▸ hlt) HNS.out)⟩
end Go.Proofs.Qxb6500354aGreat
