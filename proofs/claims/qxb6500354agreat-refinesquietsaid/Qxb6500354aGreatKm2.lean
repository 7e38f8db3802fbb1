/- The walk over checkm: Check, behind the parses. -/
import Derived.Test.Qxb6500354aGreatKm
namespace Go.Proofs.Qxb6500354aGreat
open Go.RowKit
set_option linter.unusedVariables false
set_option linter.unusedSimpArgs false

/-- What the definition answers, and what it leaves. -/
structure KmOut (w w' : World) (p : Nat) (r : VerdS) (e : Ending) : Prop where
  e : e = .returned (.agg #[.int .i64 (r.err : Nat), .int .i64 (r.whr : Nat), .int .i64 (r.pos : Nat)])
  pm : PMAt w' p
  fr : Fr [p] w w'
theorem MK.fin {w w3 wr w' : World} {cv sv : Value} {st : List (List Int)} {N p : Nat} (h : MK w3 wr cv sv st) (hf3 : Fr [p] w w3) (hp3 : PMAt w3 p) (hN : w.heap.size = N) (hpN : p < N) (hcv : ∀ g, cv.ownBlock = some g → N < g) (hfn : Fr [N] wr w') : PMAt w' p ∧ Fr [p] w w' := by
  refine ⟨(hp3.fr h.fr (fun hm => by have := hcv p (mem_blk.1 hm); omega)).fr hfn (by simp; omega), (hf3.trans2 h.fr (fun y hy hlt => ?_)).trans2 hfn (fun y hy hlt => ?_)⟩
  · have := hcv y (mem_blk.1 hy); omega
  · rw [List.mem_singleton] at hy; omega
theorem MK.cells {w3 wr : World} {cv sv : Value} {st : List (List Int)} {N : Nat} {vs : List Value} (h : MK w3 wr cv sv st) (hc : CellsAt w3 N vs) (hl : 0 < vs.length) (hcv : ∀ g, cv.ownBlock = some g → N < g) : CellsAt wr N vs :=
  hc.fr h.fr (fun hm => by have := hcv N (mem_blk.1 hm); omega) hl
theorem MK.sl {w3 wr : World} {cv sv : Value} {st : List (List Int)} (h : MK w3 wr cv sv st) : ∃ a c, sv = .slice a st.length c := by
  obtain ⟨B, a, _⟩ := h.own; exact a.mat.len
theorem MK.mat {w3 wr : World} {cv sv : Value} {st : List (List Int)} (h : MK w3 wr cv sv st) : Mat wr sv st := let ⟨B, a, _⟩ := h.own; a.mat
theorem MK.at {w3 wr : World} {cv : Value} {a : Option Addr} {n c : Nat} {st : List (List Int)} (h : MK w3 wr cv (.slice a n c) st) (hl : st.length = n) {k : Nat} (hk : k < n) :
    ∃ g b m c, a = some ⟨g, 0, none⟩ ∧ wr.cell? ⟨g, k, none⟩ = some (.slice b m c) ∧ Ints wr (.slice b m c) (st.getD k []) ∧ ∀ g, (Value.slice b m c).ownBlock = some g → g < wr.heap.size := let ⟨B, q, _⟩ := h.own; q.at hl hk

set_option maxRecDepth 100000 in
set_option maxHeartbeats 16000000 in
theorem mcheck_any {w : World} {kb p : Nat} (h : KmAt w kb p) (hkp : kb ≠ p) (s1 s2 : ByteArray) (hs1 : s1.size ≤ maxLen) (hs2 : s2.size ≤ maxLen) :
    Calls Tryz.prog 40 #[.pointer (some ⟨kb, 0, none⟩), .string s1, .string s2] w fun e w' => KmOut w w' p (checkMF (bytesOf s1) (bytesOf s2)) e := by
  obtain ⟨N, hN⟩ : ∃ N, w.heap.size = N := ⟨_, rfl⟩
  have hC0 := CellsAt.mk_alloc w [.int .i64 0, .int .i64 0, .int .i64 0] 48
  obtain ⟨w0, hw0⟩ : ∃ w0, w.alloc (Obj.cells #[.int .i64 0, .int .i64 0, .int .i64 0] 48) = w0 := ⟨_, rfl⟩
  change CellsAt (w.alloc (Obj.cells #[.int .i64 0, .int .i64 0, .int .i64 0] 48)) w.heap.size _ at hC0
  rw [hw0, hN] at hC0
  have hf0 : Fr [] w w0 := by rw [← hw0]; exact (Fr.refl _ _).alloc _
  have hs0 : w0.heap.size = N + 1 := by rw [← hw0]; simp [hN]
  have h0 := h.fr hf0 (by simp) (by simp)
  have hkN : kb < N := by rw [← hN]; exact lt_of_cellB h.1
  have hpN : p < N := by rw [← hN]; exact h.2.lt
  have HPB := hid (problem_any h0.2 s1 hs1 [p] (by have := h0.2.lt; simpa using this))
  have HPM := hid (fun (w2 : World) (h2 : PMAt w2 p) => parseM_any h2 s2 hs2)
  have hpo := problemF_ok (bytesOf s1)
  obtain ⟨res, hres⟩ : ∃ r, checkMF (bytesOf s1) (bytesOf s2) = r := ⟨_, rfl⟩
  have hres2 := hres
  unfold checkMF at hres2
  obtain ⟨rs, hrs, hc⟩ := parseM_flat (bytesOf s2)
  have hlen := parseF_len2 (bytesOf s2)
  rw [parseF_eq, hrs] at hlen
  obtain ⟨q, hq⟩ : ∃ r, problemF (bytesOf s1) = r := ⟨_, rfl⟩
  obtain ⟨q2, hq2⟩ : ∃ r, parseM (bytesOf s2) = r := ⟨_, rfl⟩
  rw [hq] at HPB hpo hres2
  rw [hq2] at HPM hrs hres2
  rw [hres]
  obtain ⟨rows, er, ps⟩ := q
  obtain ⟨e2, p2, f2⟩ := q2
  simp only [] at HPB HPM hpo hrs hres2
  subst hrs
  have HRES := hid hres2
  have HPO := hid hpo
  have HC := hid hc
  have HLEN := hid hlen
  have hcell := h0.1
  have HC0 := hid hC0
  have HF0 := hid hf0
  have HS0 := hid hs0
  have HN := hid hN
  have HKN := hid hkN
  have HPN := hid hpN
  have HKP := hid hkp
  have HNS : Hid (¬ N < w.heap.size) := hid (by rw [hN]; omega)
  clear h hC0 hf0 hs0 h0 hkN hpN hpo hq hq2 hkp hres hres2 hc hlen
  by_cases he : er = 0
  · subst he
    have hr := HRES.out
    rw [if_pos rfl] at hr
    by_cases he2 : e2 = 0
    · subst he2
      rw [if_pos rfl, rowsOf_flat HC.out] at hr
      have HR := hid hr
      clear hr
      refine calls_via fun K hK => ?_
      go_enter Tryz.func40, Tryz.ntmps40
      go_wp2_with fail
      refine HPB.out.mono ?_
      rintro e w1 ⟨cv, rfl, ⟨ho1, hp1, hf1⟩⟩
      have HC1 := hid (HC0.out.fr hf1 (by have := HPN.out; simp; omega) (by simp))
      have HO1 := hid ho1
      have HF1 := hid ((HF0.out.mono (by simp)).trans hf1)
      have HP1 := hid hp1
      have HSZ1 : Hid (N + 1 ≤ w1.heap.size) := hid (by rw [← HS0.out]; exact hf1.size)
      have hcell1 := hf1.cell hcell (by have := HKP.out; simpa using this)
      rw [show ((0 : Nat) : Int) = 0 from rfl]
      clear ho1 hp1 hf1 hw0 hN hcell
      go_wp2_with fail
      refine (HPM.out w1 HP1.out).mono ?_
      rintro e w2 ⟨v, ⟨rfl, ho2, _, hp2, hf2⟩⟩
      obtain ⟨x1, n1, m1, rfl⟩ := ho2.sl
      have hc2 := CellsAt.mk_alloc w2 [.int .i64 0, .int .i64 (p2 : Nat), .slice x1 n1 m1] 86
      obtain ⟨D1, hD1⟩ : ∃ D, w2.heap.size = D := ⟨_, rfl⟩
      obtain ⟨wa, hwa⟩ : ∃ x, w2.alloc (Obj.cells #[.int .i64 0, .int .i64 (p2 : Nat), .slice x1 n1 m1] 86) = x := ⟨_, rfl⟩
      change CellsAt (w2.alloc (Obj.cells #[.int .i64 0, .int .i64 (p2 : Nat), .slice x1 n1 m1] 86)) w2.heap.size _ at hc2
      rw [hwa, hD1] at hc2
      have hfwa : Fr [] w2 wa := by rw [← hwa]; exact (Fr.refl _ _).alloc _
      have g10 := hc2.c 0 _ rfl
      have g12 := hc2.c 2 _ rfl
      have g1z := hc2.fz
      have HO2 := hid (ho2.ints.fr hfwa (by simp))
      have HP2 := hid (hp2.fr hfwa (by simp))
      have HF2 := hid (hf2.trans (hfwa.mono (by simp)))
      clear ho2 hp2 hf2 hc2 hfwa hcell1
      rw [show ((0 : Nat) : Int) = 0 from rfl]
      go_wp2_with fail
      have hcvp : p ∉ blk cv := fun hm => by have := HO1.out.ge p (mem_blk.1 hm); have := HPN.out; have := HS0.out; omega
      have hcvN : N ∉ blk cv := fun hm => by have := HO1.out.ge N (mem_blk.1 hm); have := HS0.out; omega
      have hpcv : ∀ g, cv.ownBlock = some g → g ∉ [p] := fun g hg hm => by rw [List.mem_singleton] at hm; subst hm; exact hcvp (mem_blk.2 hg)
      refine (rowsD_any HO2.out (by have := HLEN.out; omega) (blk cv) (fun g hg => by have := HO1.out.lt g (mem_blk.1 hg); have := HF2.out.size; omega)).mono ?_
      rintro e w3 ⟨rv, rfl, hr3, hf3⟩
      rw [rowsOf_flat HC.out] at hr3
      obtain ⟨x2, m2, rfl⟩ := hr3.rows.len
      obtain ⟨n, hn⟩ : ∃ n, rs.length = n := ⟨_, rfl⟩
      rw [hn] at hr3 ⊢
      have hnb : n ≤ 27263002 := by have := flatOf_ge rs; have := HLEN.out; omega
      have hnb2 : (n : Int) ≤ 27263002 := by omega
      have HR3 := hid hr3
      have HNL := hid hn
      have hmk : MK w3 w3 cv cv rows := by
        refine ⟨⟨_, ((HO1.out.fr HF2.out (fun x hx => .inl hx)).fr hf3 (by simp)).mono (by simp), ?_⟩, Nx.refl _ _, Fr.refl _ _, by have := HPO.out.1; omega, HPO.out.2⟩
        have := HF2.out.size; have := hf3.size; have := HSZ1.out; have := HS0.out; omega
      have HMK0 := hid hmk
      have HCV : Hid (∀ g, cv.ownBlock = some g → N < g) := hid (fun g hg => by have := HO1.out.ge g hg; have := HS0.out; omega)
      have HC3 := hid ((HC1.out.fr HF2.out (by have := HPN.out; simp; omega) (by simp)).fr hf3 (by simp) (by simp))
      have HF3 := hid ((HF1.out.trans HF2.out).trans (hf3.mono (by simp)))
      have HP3 := hid (HP2.out.fr hf3 (by simp))
      have HRR : Hid (res = checkLoop rs 0 rows) := hid HR.out.symm
      clear hcvp hcvN hpcv hr3 hf3 hn hnb hmk hwa hD1 g10 g12 g1z HPB HPM HRES HR
      go_wp2_with fail
      go_loopg [7, 12] n (fun g sv i wr => ∃ st, g ≤ n ∧ i = .int .i64 ((n - g : Nat) : Int) ∧ MK w3 wr cv sv st ∧ res = checkLoop (rs.drop (n - g)) (n - g) st)
      case atStart => exact ⟨rows, by omega, by simp, HMK0.out, by simp [HRR.out]⟩
      case round =>
        obtain ⟨st, hg, rfl, hmk, he⟩ := hrel
        obtain ⟨sv, hsv⟩ : ∃ x, u7 = x := ⟨_, rfl⟩
        rw [hsv] at hmk ⊢
        clear hsv
        obtain ⟨wo, hwo⟩ : ∃ z, z = wr := ⟨_, rfl⟩
        subst hwo
        obtain ⟨sa, sc, rfl⟩ := hmk.sl
        obtain ⟨sn, hsn⟩ : ∃ x, st.length = x := ⟨_, rfl⟩
        rw [hsn] at hmk ⊢
        have hsn64 : sn ≤ 64 := by rw [← hsn]; exact hmk.le
        have hsni : (sn : Int) ≤ 64 := by omega
        have hcr := hmk.cells HC3.out (by simp) HCV.out
        have c0 := hcr.c 0 _ rfl
        have c1 := hcr.c 1 _ rfl
        have c2 := hcr.c 2 _ rfl
        have cz := hcr.fz
        have HMK := hid hmk
        have HSN := hid hsn
        have HG := hid hg
        by_cases hlt : 0 < gk
        · obtain ⟨j0, rfl⟩ : ∃ j, gk = j + 1 := ⟨gk - 1, by omega⟩
          obtain ⟨k, hk⟩ : ∃ k, n - (j0 + 1) = k := ⟨_, rfl⟩
          rw [hk] at he ⊢
          have hkn : k < n := by omega
          have hkn2 : (k : Int) < n := by omega
          obtain ⟨g1, b1, m1, c1', rfl, k1, k2, hi1, hlt1⟩ := hmk.row HR3.out HNL.out hkn
          have hmem := getDR_mem (rs := rs) (k := k) (by rw [HNL.out]; exact hkn)
          rw [dropR_cons HNL.out hkn, checkLoop_cons] at he
          generalize rs.getD k (false, []) = x at *
          obtain ⟨xd, xl⟩ := x
          simp only [] at k1 k2 hi1 he
          have hcx := HC.out _ hmem
          simp only [] at hcx
          have HCX := hid hcx
          have HI1 := hid hi1
          have HLT1 := hid hlt1
          have HK0 : Hid (k + 1 = n - j0 ∧ j0 + 1 ≤ n) := hid (by omega)
          clear hi1 hlt1 hmem hcx hk hg hlt hmk hsn hcr hkn
          cases xd with
          | true =>
            rw [if_pos rfl] at he
            have HE := hid he
            clear he
            go_wp2_with fail
            go_loopg [14, 15] sn (fun h av j wi => ∃ (q : Nat), h ≤ sn ∧ wi = wo.drewN q ∧ j = .int .i64 ((sn - h : Nat) : Int) ∧ ((av = .int .i64 (-1) ∧ xl ∉ st.take (sn - h)) ∨ ∃ t : Nat, t < sn ∧ av = .int .i64 (t : Nat) ∧ st.getD t [] = xl ∧ xl ∉ st.take t))
            case atStart => exact ⟨0, by omega, rfl, by simp, .inl ⟨rfl, by simp⟩⟩
            case round =>
              obtain ⟨q, hh, rfl, rfl, (⟨rfl, hnm⟩ | ⟨t, ht, rfl, htc, hnm⟩)⟩ := hrel
              · by_cases hlt2 : 0 < gk
                · obtain ⟨jj, hjj⟩ : ∃ k, sn - gk = k := ⟨_, rfl⟩
                  rw [hjj] at hnm ⊢
                  have hjs : jj < sn := by omega
                  have hjs2 : (jj : Int) < sn := by omega
                  obtain ⟨g2, b2, m3, c3, rfl, q1, q2, q3⟩ := (HMK.out.fr0 (Fr.of_drewN (w := wo) (n := q) [])).at HSN.out hjs
                  have htk := takeL_snoc (cs := st) (k := jj) (by rw [HSN.out]; exact hjs)
                  have hyl := getDL_mem (cs := st) (k := jj) (by rw [HSN.out]; exact hjs)
                  have hyc := (HMK.out.rows.2 _ hyl).2
                  have HT := hid (sameInts_any q2 (HI1.out.fr (Fr.of_drewN (w := wo) (n := q) []) (by simp)) (by omega))
                  obtain ⟨y, hy⟩ : ∃ y, st.getD jj [] = y := ⟨_, rfl⟩
                  rw [hy] at htk HT
                  have HY := hid hy
                  have HTK := hid htk
                  have HNM := hid hnm
                  have HJJ := hid hjj
                  have HHH := hid hh
                  have HLT2 := hid hlt2
                  clear htk hyl hyc hy hnm hjj q2 q3 hh hlt2
                  by_cases e : y = xl
                  · rw [decide_eq_true e] at HT
                    have HEY := hid e
                    clear e
                    go_wp2_with (first | (go_at_call 56; refine HT.out.mono ?_; rintro e w' ⟨rfl, n2, hw⟩; have hw2 := hw; subst hw2; clear hw))
                    go_roundg (gk - 1)
                    case measure => have := HLT2.out; omega
                    case rel =>
                      have hjj := HJJ.out
                      have hlt := HLT2.out
                      have hh := HHH.out
                      have e1 : sn - (gk - 1) = jj + 1 := by omega
                      exact ⟨_, by omega, by first | rfl | exact World.drewN_drewN _ _ _, by rw [e1]; simp, .inr ⟨jj, by omega, rfl, HY.out.trans HEY.out, HNM.out⟩⟩
                  · rw [decide_eq_false e] at HT
                    have HEY := hid e
                    clear e
                    go_wp2_with (first | (go_at_call 56; refine HT.out.mono ?_; rintro e w' ⟨rfl, n2, hw⟩; have hw2 := hw; subst hw2; clear hw))
                    go_roundg (gk - 1)
                    case measure => have := HLT2.out; omega
                    case rel =>
                      have hjj := HJJ.out
                      have hlt := HLT2.out
                      have hh := HHH.out
                      have e1 : sn - (gk - 1) = jj + 1 := by omega
                      refine ⟨_, by omega, by first | rfl | exact World.drewN_drewN _ _ _, by rw [e1]; simp, .inl ⟨rfl, ?_⟩⟩
                      rw [e1, HTK.out]
                      intro hm
                      rcases List.mem_append.1 hm with z | z
                      · exact HNM.out z
                      · rw [List.mem_singleton] at z; exact HEY.out z.symm
                · have hg0 : gk = 0 := by omega
                  subst hg0
                  rw [Nat.sub_zero] at hnm ⊢
                  rw [List.take_of_length_le (by rw [HSN.out]; exact Nat.le_refl _)] at hnm
                  have hE := HE.out
                  rw [if_neg (show ¬ st.contains xl = true by rw [List.contains_iff_mem]; exact hnm)] at hE
                  have HEE := hid hE
                  clear hnm hE hlt2 hh
                  go_wp2_with fail
                  refine bodyPost_ret (v := .agg #[.int .i64 19, .int .i64 2, .int .i64 (k : Nat)]) (by simp [results, Tryz.results40, go_sem, cellSet, c0, c1, c2]) rfl ?_
                  have hfin := HMK.out.fin HF3.out HP3.out HN.out HPN.out HCV.out ((((Fr.refl [N] wo).drewN (n := q)).setG 0 (.int .i64 19)).setG 1 (.int .i64 2) |>.setG 2 (.int .i64 (k : Nat)))
                  exact hK.out _ _ ⟨by rw [HEE.out]; rfl, hfin.1, hfin.2⟩
              · have hE := HE.out
                have hmx : xl ∈ st := by rw [← htc]; exact getDL_mem (by rw [HSN.out]; exact ht)
                rw [if_pos (show st.contains xl = true by rw [List.contains_iff_mem]; exact hmx), erase_at (by rw [HSN.out]; exact ht) htc hnm] at hE
                have HEE := hid hE
                have HT := hid ht
                have hti : ¬ (t : Int) < 0 := by omega
                have hti2 : (t : Int) ≤ 64 := by omega
                clear hE hmx hnm htc ht hh
                obtain ⟨jv, hjv⟩ : ∃ z, sn - gk = z := ⟨_, rfl⟩
                rw [hjv]
                have hjv2 : (jv : Int) ≤ 64 := by omega
                clear hjv
                obtain ⟨M, hM⟩ : ∃ z, wo.heap.size = z := ⟨_, rfl⟩
                have HM := hid hM
                clear hM
                by_cases hjl : (jv : Int) < sn
                all_goals
                  go_wp2_with fail
                  go_loopg [16, 17] sn (fun h rv j wi => h ≤ sn ∧ j = .int .i64 ((sn - h : Nat) : Int) ∧ OwnM wi M rv ((st.take (sn - h)).eraseIdx t) [] ∧ Fr [] wo wi)
                  case atStart => exact ⟨by omega, by simp, by simp; exact OwnM.nil _ _ _, Fr.of_drewN []⟩
                  case round =>
                    obtain ⟨hh, rfl, hom, hf⟩ := hrel
                    obtain ⟨rv, hrv⟩ : ∃ x, u16 = x := ⟨_, rfl⟩
                    rw [hrv] at hom ⊢
                    clear hrv
                    have HOM := hid hom
                    have HF := hid hf
                    by_cases hlt2 : 0 < gk
                    · obtain ⟨jj, hjj⟩ : ∃ k, sn - gk = k := ⟨_, rfl⟩
                      rw [hjj] at HOM ⊢
                      have hjs : jj < sn := by omega
                      have hjs2 : (jj : Int) < sn := by omega
                      obtain ⟨g2, b2, m3, c3, rfl, q1, q2, q3⟩ := HMK.out.at HSN.out hjs
                      replace q1 := hf.cell q1 (by simp)
                      replace q2 := q2.fr hf (by simp)
                      have hss : jj ≠ t → _ := fun e => skip_lt (st := st) (k := t) (j := jj) (by rw [HSN.out]; exact hjs) e
                      have hse : jj = t → _ := fun e => skip_eq (st := st) (k := jj) (by rw [HSN.out]; exact hjs)
                      generalize st.getD jj [] = y at *
                      have HQ2 := hid q2
                      have HQ3 := hid q3
                      have HJJ := hid hjj
                      have HHH := hid hh
                      have HLT2 := hid hlt2
                      clear q2 q3 hjj hh hlt2 hom hf
                      by_cases e : jj = t
                      · have HS := hid (hse e)
                        subst e
                        clear hss hse
                        go_wp2_with fail
                        go_roundg (gk - 1)
                        case measure => have := HLT2.out; omega
                        case rel =>
                          have hjj := HJJ.out
                          have hlt := HLT2.out
                          have hh := HHH.out
                          have e1 : sn - (gk - 1) = jj + 1 := by omega
                          exact ⟨by omega, by rw [e1]; simp, by rw [e1, HS.out]; exact HOM.out, HF.out⟩
                      · have HS := hid (hss e)
                        have hbne : ((jj : Int) != (t : Int)) = true := by rw [bne_iff_ne]; omega
                        have ca2 : (wr.alloc (Obj.cells #[.slice b2 m3 c3] 52)).cell? ⟨wr.heap.size, 0, none⟩ = some (.slice b2 m3 c3) := (World.cell?_alloc_new _ _ _ 0).trans rfl
                        have HA2 := hid ca2
                        have HSZ : Hid (M ≤ wr.heap.size) := hid (by rw [← HM.out]; exact HF.out.size)
                        have HRL : Hid (((st.take jj).eraseIdx t).length ≤ 64) := hid (by have := List.length_eraseIdx_le (st.take jj) t; rw [List.length_take] at this; omega)
                        clear hss hse e ca2
                        go_wp2_with (at_builtin; refine wp_appM rfl _ _ rfl M rv _ rfl (HOM.out.fr ((Fr.refl [] wr).alloc _) (by simp)) (by simp) wr.heap.size 1 (.slice b2 m3 c3) y rfl HA2.out rfl (HQ2.out.fr ((Fr.refl [] wr).alloc _) (by simp)) (fun g hg => ⟨fun e => (by have := HOM.out.ge g e; have := HQ3.out g hg; have := HM.out; omega), (by have := HQ3.out g hg; have := HF.out.size; simp; omega)⟩) (by simp) (by have := HRL.out; omega) (by have := HSZ.out; simp; omega) ?_; intro v' w5 ho5 hg5 ha5; have HO5 := hid ho5; have HF5 := hid (fr_appM _ hg5); clear ho5 hg5 ha5)
                        go_roundg (gk - 1)
                        case measure => have := HLT2.out; omega
                        case rel =>
                          have hjj := HJJ.out
                          have hlt := HLT2.out
                          have hh := HHH.out
                          have e1 : sn - (gk - 1) = jj + 1 := by omega
                          exact ⟨by omega, by rw [e1]; simp, by rw [e1, HS.out]; exact HO5.out, HF.out.trans2 HF5.out (fun y hy hlt2 => by have := HOM.out.ge y (mem_blk.1 hy); have := HM.out; omega)⟩
                    · have hg0 : gk = 0 := by omega
                      subst hg0
                      rw [Nat.sub_zero, List.take_of_length_le (by rw [HSN.out]; exact Nat.le_refl _)] at HOM
                      clear hh hlt2 hom hf
                      go_wp2_with fail
                      go_roundg j0
                      case measure => omega
                      case rel =>
                        have hk := HK0.out
                        have hmk := HMK.out
                        have h3M : w3.heap.size ≤ M := by have := hmk.fr.size; have := HM.out; omega
                        refine ⟨st.eraseIdx t, by omega, by rw [← hk.1]; simp, ⟨⟨_, HOM.out.down h3M, Nat.le_refl _⟩, fun g hg => .inr (by have := HOM.out.ge g hg; omega), hmk.fr.trans (HF.out.mono (by simp)), ?_, st_ok_erase hmk.ok⟩, by rw [← hk.1]; exact HEE.out⟩
                        have := List.length_eraseIdx_le st t; have := hmk.le; omega
          | false =>
            rw [if_neg (by simp)] at he
            have HE := hid he
            clear he
            go_wp2_with fail
            have HRU := rup_any HMK.out.mat HI1.out HMK.out.rows (checkClause_facts HCX.out).2.1 (checkClause_facts HCX.out).1
            obtain ⟨rb, hrb⟩ : ∃ z, rupF st xl = z := ⟨_, rfl⟩
            have hE := HE.out
            rw [hrb] at HRU hE
            refine HRU.mono ?_
            rintro e w5 ⟨rfl, hf5⟩
            have HMK5 := hid (HMK.out.fr0 hf5)
            have hcr5 := HMK5.out.cells HC3.out (by simp) HCV.out
            have c50 := hcr5.c 0 _ rfl
            have c51 := hcr5.c 1 _ rfl
            have c52 := hcr5.c 2 _ rfl
            have c5z := hcr5.fz
            have k25 := hf5.cell k2 (by simp)
            have HI5 := hid (HI1.out.fr hf5 (by simp))
            have HF5 := hid hf5
            clear hf5 HRU hrb hcr5
            cases rb with
            | false =>
              rw [if_neg (by simp)] at hE
              have HEE := hid hE
              clear hE
              go_wp2_with fail
              refine bodyPost_ret (v := .agg #[.int .i64 18, .int .i64 2, .int .i64 (k : Nat)]) (by simp [results, Tryz.results40, go_sem, cellSet, c50, c51, c52]) rfl ?_
              have hfin := HMK5.out.fin HF3.out HP3.out HN.out HPN.out HCV.out ((((Fr.refl [N] w5).setG 0 (.int .i64 18)).setG 1 (.int .i64 2)).setG 2 (.int .i64 (k : Nat)))
              exact hK.out _ _ ⟨by rw [HEE.out]; rfl, hfin.1, hfin.2⟩
            | true =>
              rw [if_pos rfl, HSN.out] at hE
              by_cases h64 : 64 ≤ sn
              · rw [if_pos h64] at hE
                have HEE := hid hE
                have hi64 : (64 : Int) ≤ sn := by omega
                clear hE h64
                go_wp2_with fail
                refine bodyPost_ret (v := .agg #[.int .i64 12, .int .i64 2, .int .i64 (k : Nat)]) (by simp [results, Tryz.results40, go_sem, cellSet, c50, c51, c52]) rfl ?_
                have hfin := HMK5.out.fin HF3.out HP3.out HN.out HPN.out HCV.out ((((Fr.refl [N] w5).setG 0 (.int .i64 12)).setG 1 (.int .i64 2)).setG 2 (.int .i64 (k : Nat)))
                exact hK.out _ _ ⟨by rw [HEE.out]; rfl, hfin.1, hfin.2⟩
              · rw [if_neg h64] at hE
                have HEE := hid hE
                have hi64 : ¬ (64 : Int) ≤ sn := by omega
                have H64 := hid h64
                obtain ⟨B5, hb5, hb5l⟩ := HMK5.out.own
                have HB5 := hid hb5
                have HB5L := hid hb5l
                have HLT5 : Hid (∀ g, (Value.slice b1 m1 c1').ownBlock = some g → (Value.slice sa sn sc).ownBlock ≠ some g ∧ g < w5.heap.size) := hid (fun g hg => ⟨(HLT1.out g hg).1, Nat.lt_of_lt_of_le (HLT1.out g hg).2 HF5.out.size⟩)
                have ca2 : (w5.alloc (Obj.cells #[.slice b1 m1 c1'] 52)).cell? ⟨w5.heap.size, 0, none⟩ = some (.slice b1 m1 c1') := (World.cell?_alloc_new _ _ _ 0).trans rfl
                have HA2 := hid ca2
                clear hE h64 hb5 hb5l ca2
                go_wp2_with (at_builtin; refine wp_appM rfl _ _ rfl B5 _ st rfl (HB5.out.fr ((Fr.refl [] w5).alloc _) (by simp)) (by simp) w5.heap.size 1 (.slice b1 m1 c1') xl rfl HA2.out rfl (HI5.out.fr ((Fr.refl [] w5).alloc _) (by simp)) (fun g hg => ⟨(HLT5.out g hg).1, (by have := (HLT5.out g hg).2; simp; omega)⟩) (by simp) (by have := HMK5.out.le; omega) (by have := HB5L.out; have := HMK5.out.fr.size; simp; omega) ?_; intro v' w6 ho6 hg6 ha6; have HO6 := hid ho6; have HF6 := hid (fr_appM _ hg6); have HA6 := hid ha6; clear ho6 hg6 ha6)
                go_roundg j0
                case measure => omega
                case rel =>
                  have hk := HK0.out
                  have hmk := HMK5.out
                  have hnx : Nx w5 (.slice sa sn sc) v' := fun g hg => by
                    rcases HA6.out with e | e
                    · exact .inl (e ▸ hg)
                    · rw [e] at hg; injection hg with hg; right; simp at hg; omega
                  refine ⟨st ++ [xl], by omega, by rw [← hk.1]; simp, ⟨⟨_, HO6.out, HB5L.out⟩, hmk.nx.trans hnx hmk.fr.size, hmk.fr.trans2 HF6.out ?_, ?_, ?_⟩, by rw [← hk.1]; exact HEE.out⟩
                  · intro y hy hlt
                    rcases hmk.nx y (mem_blk.1 hy) with q | q
                    · exact mem_blk.2 q
                    · omega
                  · rw [List.length_append]; have := H64.out; have := HSN.out; simp; omega
                  · intro c hc
                    rcases List.mem_append.1 hc with z | z
                    · exact hmk.ok c z
                    · rw [List.mem_singleton] at z; subst z; exact HCX.out
        · have hg0 : gk = 0 := by omega
          subst hg0
          rw [Nat.sub_zero, List.drop_of_length_le (by rw [HNL.out]; exact Nat.le_refl _), checkLoop_nil] at he
          have HE := hid he
          clear he hlt hg hmk hsn hcr
          go_wp2_with fail
          go_loopg [18] sn (fun h j wi => h ≤ sn ∧ wi = wo ∧ j = .int .i64 ((sn - h : Nat) : Int) ∧ (st.take (sn - h)).any (fun c => c.length == 0) = false)
          case atStart => exact ⟨by omega, rfl, by simp, by simp⟩
          case round =>
            obtain ⟨hh, rfl, rfl, hany⟩ := hrel
            by_cases hlt2 : 0 < gk
            · obtain ⟨jj, hjj⟩ : ∃ k, sn - gk = k := ⟨_, rfl⟩
              rw [hjj] at hany ⊢
              have hjs : jj < sn := by omega
              have hjs2 : (jj : Int) < sn := by omega
              obtain ⟨g2, b2, m3, c3, rfl, q1, q2, q3⟩ := HMK.out.at HSN.out hjs
              have htk := takeL_snoc (cs := st) (k := jj) (by rw [HSN.out]; exact hjs)
              have hyl := getDL_mem (cs := st) (k := jj) (by rw [HSN.out]; exact hjs)
              have hyc := (HMK.out.rows.2 _ hyl).2
              obtain ⟨a9, c9, h9⟩ := q2.len
              injection h9 with z1 z2 z3
              rw [z2] at q1
              generalize st.getD jj [] = y at *
              obtain ⟨yl, hyl2⟩ : ∃ z, y.length = z := ⟨_, rfl⟩
              rw [hyl2] at q1 hyc
              have HYL := hid hyl2
              have HTK := hid htk
              have HMEM := hid hyl
              have HANY := hid hany
              have HJJ := hid hjj
              have HHH := hid hh
              have HLT2 := hid hlt2
              clear htk hyl hany hjj hh hlt2 q2 q3 z1 z2 z3 hyl2
              by_cases e0 : yl = 0
              · have hE := HE.out
                rw [if_pos (show st.any (fun c => c.length == 0) = true by rw [List.any_eq_true]; exact ⟨y, HMEM.out, by rw [HYL.out, e0]; rfl⟩)] at hE
                have HEE := hid hE
                subst e0
                clear hE
                go_wp2_with fail
                refine bodyPost_ret (v := .agg #[.int .i64 0, .int .i64 0, .int .i64 0]) (by simp [results, Tryz.results40, go_sem, cellSet, c0, c1, c2]) rfl ?_
                have hfin := HMK.out.fin HF3.out HP3.out HN.out HPN.out HCV.out ((((Fr.refl [N] wr).setG 0 (.int .i64 0)).setG 1 (.int .i64 0)).setG 2 (.int .i64 0))
                exact hK.out _ _ ⟨by rw [HEE.out]; rfl, hfin.1, hfin.2⟩
              · have hb0 : ((yl : Int) == 0) = false := by rw [eqN]; simp [e0]
                have HE0 := hid e0
                clear e0
                go_wp2_with fail
                go_roundg (gk - 1)
                case measure => have := HLT2.out; omega
                case rel =>
                  have hjj := HJJ.out
                  have hlt := HLT2.out
                  have hh := HHH.out
                  have e1 : sn - (gk - 1) = jj + 1 := by omega
                  refine ⟨by omega, rfl, by rw [e1]; simp, ?_⟩
                  rw [e1, HTK.out, List.any_append, HANY.out]
                  simp [HYL.out, HE0.out]
            · have hg0 : gk = 0 := by omega
              subst hg0
              rw [Nat.sub_zero, List.take_of_length_le (by rw [HSN.out]; exact Nat.le_refl _)] at hany
              have hE := HE.out
              rw [if_neg (by rw [hany]; simp)] at hE
              have HEE := hid hE
              clear hE hany hlt2 hh
              go_wp2_with fail
              refine bodyPost_ret (v := .agg #[.int .i64 20, .int .i64 2, .int .i64 (n : Nat)]) (by simp [results, Tryz.results40, go_sem, cellSet, c0, c1, c2]) rfl ?_
              have hfin := HMK.out.fin HF3.out HP3.out HN.out HPN.out HCV.out ((((Fr.refl [N] wr).setG 0 (.int .i64 20)).setG 1 (.int .i64 2)).setG 2 (.int .i64 (n : Nat)))
              exact hK.out _ _ ⟨by rw [HEE.out]; rfl, hfin.1, hfin.2⟩
    · have hr2 := hr
      rw [if_neg he2] at hr2
      have HR := hid hr2
      have hb1 : ((e2 : Int) != 0) = true := by rw [neN]; simp [he2]
      clear hr hr2 he2
      refine calls_via fun K hK => ?_
      go_enter Tryz.func40, Tryz.ntmps40
      go_wp2_with fail
      refine HPB.out.mono ?_
      rintro e w1 ⟨cv, rfl, ⟨ho1, hp1, hf1⟩⟩
      have HC1 := hid (HC0.out.fr hf1 (by have := HPN.out; simp; omega) (by simp))
      have HF1 := hid ((HF0.out.mono (by simp)).trans hf1)
      have HP1 := hid hp1
      have hcell1 := hf1.cell hcell (by have := HKP.out; simpa using this)
      rw [show ((0 : Nat) : Int) = 0 from rfl]
      clear ho1 hp1 hf1 hw0 hN hcell
      go_wp2_with fail
      refine (HPM.out w1 HP1.out).mono ?_
      rintro e w2 ⟨v, ⟨rfl, ho2, _, hp2, hf2⟩⟩
      obtain ⟨x1, n1, m1, rfl⟩ := ho2.sl
      have hc2 := CellsAt.mk_alloc w2 [.int .i64 (e2 : Nat), .int .i64 (p2 : Nat), .slice x1 n1 m1] 86
      obtain ⟨D1, hD1⟩ : ∃ D, w2.heap.size = D := ⟨_, rfl⟩
      obtain ⟨wa, hwa⟩ : ∃ x, w2.alloc (Obj.cells #[.int .i64 (e2 : Nat), .int .i64 (p2 : Nat), .slice x1 n1 m1] 86) = x := ⟨_, rfl⟩
      change CellsAt (w2.alloc (Obj.cells #[.int .i64 (e2 : Nat), .int .i64 (p2 : Nat), .slice x1 n1 m1] 86)) w2.heap.size _ at hc2
      rw [hwa, hD1] at hc2
      have hfwa : Fr [] w2 wa := by rw [← hwa]; exact (Fr.refl _ _).alloc _
      have g10 := hc2.c 0 _ rfl
      have g11 := hc2.c 1 _ rfl
      have g1z := hc2.fz
      have HP2 := hid (hp2.fr hfwa (by simp))
      have HF2 := hid (hf2.trans (hfwa.mono (by simp)))
      have hcr := (HC1.out.fr HF2.out (by have := HPN.out; simp; omega) (by simp))
      have c0 := hcr.c 0 _ rfl
      have c1 := hcr.c 1 _ rfl
      have c2 := hcr.c 2 _ rfl
      have cz := hcr.fz
      have HDN : Hid (¬ D1 = N) := hid (by have := lt_of_cellB (HC1.out.c 0 _ rfl); have := hf2.size; omega)
      have hdn := HDN.out
      have hdn2 : ¬ N = D1 := fun e => hdn e.symm
      clear ho2 hp2 hf2 hc2 hfwa hcell1 hcr
      go_wp2_with fail
      refine bodyPost_ret (v := .agg #[.int .i64 (e2 : Nat), .int .i64 1, .int .i64 (p2 : Nat)]) (by simp [results, Tryz.results40, go_sem, cellSet, c0, c1, c2]) rfl ?_
      have hfn := ((((Fr.refl [N] wa).setG 0 (.int .i64 (e2 : Nat))).setG 1 (.int .i64 1)).setG 2 (.int .i64 (p2 : Nat)))
      exact hK.out _ _ ⟨by rw [← HR.out]; rfl, HP2.out.fr hfn (by have := HPN.out; simp; omega), (HF1.out.trans HF2.out).trans2 hfn (fun y hy hlt => by rw [List.mem_singleton] at hy; exact absurd (hy ▸ hlt) HNS.out)⟩
  · have hr2 := HRES.out
    rw [if_neg he] at hr2
    have HR := hid hr2
    have hb1 : ((er : Int) != 0) = true := by rw [neN]; simp [he]
    clear hr2 he
    refine calls_via fun K hK => ?_
    go_enter Tryz.func40, Tryz.ntmps40
    go_wp2_with fail
    refine HPB.out.mono ?_
    rintro e w1 ⟨cv, rfl, ⟨ho1, hp1, hf1⟩⟩
    have HC1 := hid (HC0.out.fr hf1 (by have := HPN.out; simp; omega) (by simp))
    have HF1 := hid ((HF0.out.mono (by simp)).trans hf1)
    have HP1 := hid hp1
    have c0 := HC1.out.c 0 _ rfl
    have c1 := HC1.out.c 1 _ rfl
    have c2 := HC1.out.c 2 _ rfl
    have cz := HC1.out.fz
    clear ho1 hp1 hf1 hw0 hN hcell
    go_wp2_with fail
    refine bodyPost_ret (v := .agg #[.int .i64 (er : Nat), .int .i64 0, .int .i64 (ps : Nat)]) (by simp [results, Tryz.results40, go_sem, cellSet, c0, c1, c2]) rfl ?_
    have hfn := ((((Fr.refl [N] w1).setG 0 (.int .i64 (er : Nat))).setG 1 (.int .i64 0)).setG 2 (.int .i64 (ps : Nat)))
    exact hK.out _ _ ⟨by rw [← HR.out]; rfl, HP1.out.fr hfn (by have := HPN.out; simp; omega), HF1.out.trans2 hfn (fun y hy hlt => by rw [List.mem_singleton] at hy; exact absurd (hy ▸ hlt) HNS.out)⟩
end Go.Proofs.Qxb6500354aGreat
