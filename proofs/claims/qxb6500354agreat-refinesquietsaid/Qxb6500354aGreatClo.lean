/- The walks over api: Closure, Rup. -/
import Derived.Test.Qxb6500354aGreatTab
namespace Go.Proofs.Qxb6500354aGreat
open Go.RowKit
set_option linter.unusedVariables false
set_option linter.unusedSimpArgs false

theorem clRound_cons (c : List Int) (r : List (List Int)) (out : List Int) (g : Bool) : clRound (c :: r) out g = if (stateF c out).1 = -1 then (out, g, true) else if (stateF c out).1 = 0 then clRound r (out ++ [(stateF c out).2]) true else clRound r out g := rfl
theorem closureF_succ (cs : List (List Int)) (n : Nat) (out : List Int) : closureF cs (n + 1) out = if (clRound cs out false).2.2 = true then ((clRound cs out false).1, true) else if (clRound cs out false).2.1 = true then closureF cs n (clRound cs out false).1 else ((clRound cs out false).1, false) := rfl
theorem OwnI.drewN2 {w : World} {base n : Nat} {v : Value} {l : List Int} (h : OwnI w base v l) : OwnI (w.drewN n) base v l := h.drewN

set_option maxRecDepth 100000 in
set_option maxHeartbeats 8000000 in
theorem closure_any {w : World} {u v : Value} {cs : List (List Int)} {on : List Int} (hc : Mat w u cs) (h : Ints w v on) (hok : RowsOK cs) (hb : on.length ≤ 1000000) :
    Calls Tryz.prog 104 #[u, v] w fun e w' => ∃ v', e = .returned (.tuple #[v', .bool (closureF cs 13 on).2]) ∧ OwnI w' w.heap.size v' (closureF cs 13 on).1 ∧ Fr [] w w' := by
  obtain ⟨a, cap, hea⟩ := hc.len
  subst hea
  obtain ⟨n, hn⟩ : ∃ n, cs.length = n := ⟨_, rfl⟩
  obtain ⟨res, hres⟩ : ∃ r, closureF cs 13 on = r := ⟨_, rfl⟩
  have hnb := hok.1
  rw [hn] at hc hnb ⊢
  rw [hres]
  have HC := hid hc
  have HN := hid hn
  have HR := hid hres
  have HOK := hid hok
  have HCP := hid (copyInts_any h (by omega))
  have HB := hid hb
  have HNB := hid hnb
  clear hc hn hres hok h hb
  refine calls_via fun K hK => ?_
  go_enter Tryz.func104, Tryz.ntmps104
  go_wp2_with fail
  refine HCP.out.mono ?_
  rintro e w1 ⟨v1, rfl, ho1, _, hf1⟩
  have HO1 := hid ho1
  have HF1 := hid hf1
  obtain ⟨N, hN⟩ : ∃ N, w.heap.size = N := ⟨_, rfl⟩
  rw [hN] at HO1
  have HNN := hid hN
  have HSZ1 : Hid (N ≤ w1.heap.size) := by show _ ≤ _; rw [← hN]; exact hf1.size
  clear ho1 hf1 hN
  go_wp2_with fail
  go_loopg [6, 7] 13 (fun g ov i wr => ∃ out : List Int, g ≤ 13 ∧ i = .int .i64 ((13 - g : Nat) : Int) ∧ OwnI wr N ov out ∧ res = closureF cs g out ∧ Fr [] w wr ∧ out.length ≤ 1000000 + (13 - g) * n)
  case atStart => exact ⟨on, by omega, by simp, HO1.out, HR.out.symm, HF1.out, by have := HB.out; omega⟩
  case round =>
    obtain ⟨out, hg, rfl, ho, he, hf, hlen⟩ := hrel
    obtain ⟨ov, hov⟩ : ∃ x, u6 = x := ⟨_, rfl⟩
    rw [hov] at ho ⊢
    clear hov
    have HO := hid ho
    have HF := hid hf
    by_cases hlt : 0 < gk
    · obtain ⟨j, rfl⟩ : ∃ j, gk = j + 1 := ⟨gk - 1, by omega⟩
      obtain ⟨r0, hr0⟩ : ∃ r, 13 - (j + 1) = r := ⟨_, rfl⟩
      have hk12 : (r0 : Int) ≤ 12 := by omega
      have hdec : decide ((r0 : Int) ≤ 12) = true := by simpa using hk12
      rw [hr0]
      rw [closureF_succ] at he
      obtain ⟨rd, hrd⟩ : ∃ x, clRound cs out false = x := ⟨_, rfl⟩
      rw [hrd] at he
      have HE := hid he
      have HRD := hid hrd
      have HLEN : Hid (out.length ≤ 1000000 + (12 - j) * n) := by show _ ≤ _; rw [show 12 - j = 13 - (j + 1) from by omega]; exact hlen
      have HJ : Hid (j ≤ 12 ∧ r0 + 1 = 13 - j ∧ r0 = 12 - j) := by show _ ∧ _; omega
      have hLb : out.length ≤ 1000000 + 12 * n := by
        have : (12 - j) * n ≤ 12 * n := Nat.mul_le_mul_right n (by omega)
        have := HLEN.out; omega
      have HLB := hid hLb
      clear ho hf he hrd hlen hg hlt hLb hr0
      go_wp2_with fail
      go_loopg [6, 8, 9] n (fun h ov2 gr i wi => ∃ (o2 : List Int) (g2 : Bool), h ≤ n ∧ i = .int .i64 ((n - h : Nat) : Int) ∧ gr = .bool g2 ∧ OwnI wi N ov2 o2 ∧ rd = clRound (cs.drop (n - h)) o2 g2 ∧ Fr [] w wi ∧ o2.length ≤ out.length + (n - h))
      case atStart => exact ⟨out, false, by omega, by simp, rfl, HO.out, by simp [HRD.out], HF.out, by omega⟩
      case round =>
        obtain ⟨o2, g2, hg2, rfl, rfl, ho2, he2, hf2, hl2⟩ := hrel
        obtain ⟨ov2, hov2⟩ : ∃ x, u6 = x := ⟨_, rfl⟩
        rw [hov2] at ho2 ⊢
        clear hov2
        have hn2 := HN.out
        by_cases hlt2 : 0 < gk
        · obtain ⟨k, hk⟩ : ∃ k, n - gk = k := ⟨_, rfl⟩
          rw [hk] at he2 hl2 ⊢
          have hkn : k < n := by omega
          have hkn2 : (k : Int) < n := by omega
          obtain ⟨g1, o1, b1, m1, c1, rfl, hc1, hi1⟩ := (HC.out.fr0 hf2).at HN.out hkn
          have hx := HOK.out.at (k := k) (by rw [HN.out]; exact hkn)
          rw [dropL_cons HN.out hkn, clRound_cons] at he2
          generalize cs.getD k [] = x at *
          have HT := hid (state_any hi1 ho2.ints hx.1 (by have := HLB.out; have := HNB.out; omega) (by omega))
          obtain ⟨st, hst⟩ : ∃ z, stateF x o2 = z := ⟨_, rfl⟩
          rw [hst] at he2 HT
          obtain ⟨s1, s2⟩ := st
          simp only [] at he2 HT
          have HO2 := hid ho2
          have HF2 := hid hf2
          have HL2 := hid hl2
          have HK0 := hid hk
          have HHG := hid hg2
          have HLT := hid hlt2
          clear hk hx hst ho2 hf2 hl2 hn2 hi1
          by_cases e1 : s1 = -1
          · rw [if_pos e1] at he2
            have HE2 := hid he2
            have hb1 : (s1 == -1) = true := by simp [e1]
            clear he2 e1
            go_wp2_with (first | (go_at_call 136; refine HT.out.mono ?_; rintro e w' ⟨rfl, n2, hw⟩; have hw2 := hw; subst hw2; clear hw))
            try go_ret2
            have HRES : Hid (res = (o2, true)) := by show _ = _; rw [HE.out, HE2.out]; rfl
            refine hK.out _ _ ⟨_, (by rw [HRES.out]; rfl), ?_, HF2.out.drewN⟩
            rw [HRES.out, HNN.out]; exact HO2.out.drewN
          · rw [if_neg e1] at he2
            have hb1 : (s1 == -1) = false := by simp [e1]
            by_cases e0 : s1 = 0
            · rw [if_pos e0] at he2
              have HE2 := hid he2
              have hb0 : (s1 == 0) = true := by simp [e0]
              clear he2 e1 e0
              go_wp2_with (first | (go_at_call 136; refine HT.out.mono ?_; rintro e w' ⟨rfl, n2, hw⟩; have hw2 := hw; subst hw2; clear hw) | (at_builtin; refine wp_app rfl _ _ rfl N ov2 o2 rfl (HO2.out.drewN.alloc _) (.slice (some ⟨wr.heap.size, 0, none⟩) 1 1) [s2] rfl (ints_oneN (by simp) _ _) (by have := HL2.out; have := HLB.out; have := HNB.out; simp; omega) (by have := HF2.out.size; have := HNN.out; simp; omega) ?_; intro v' w2 ho3 hg3 hnil3))
              have hf3 : Fr [] w w2 := (HF2.out.drewN.alloc _).app hg3 (HO2.out.drewN.alloc _) (by rw [HNN.out]; omega)
              have HO3 := hid ho3
              have HF3 := hid hf3
              clear ho3 hf3 hg3 hnil3
              go_roundg (gk - 1)
              case measure => have := HLT.out; omega
              case rel =>
                have hk := HK0.out
                have hg2 := HHG.out
                have hlt2 := HLT.out
                have e1 : n - (gk - 1) = k + 1 := by omega
                exact ⟨o2 ++ [s2], true, by omega, by rw [e1]; simp, rfl, HO3.out, by rw [e1]; exact HE2.out, HF3.out, by have := HL2.out; simp; omega⟩
            · rw [if_neg e0] at he2
              have HE2 := hid he2
              have hb0 : (s1 == 0) = false := by simp [e0]
              clear he2 e1 e0
              go_wp2_with (first | (go_at_call 136; refine HT.out.mono ?_; rintro e w' ⟨rfl, n2, hw⟩; have hw2 := hw; subst hw2; clear hw))
              go_roundg (gk - 1)
              case measure => have := HLT.out; omega
              case rel =>
                have hk := HK0.out
                have hg2 := HHG.out
                have hlt2 := HLT.out
                have e1 : n - (gk - 1) = k + 1 := by omega
                exact ⟨o2, g2, by omega, by rw [e1]; simp, rfl, HO2.out.drewN, by rw [e1]; exact HE2.out, HF2.out.drewN, by have := HL2.out; omega⟩
        · have hg0 : gk = 0 := by omega
          subst hg0
          rw [Nat.sub_zero, List.drop_of_length_le (by rw [HN.out]; exact Nat.le_refl _)] at he2
          have he3 : rd = (o2, g2, false) := he2
          have hE2 := HE.out
          rw [he3] at hE2
          have HO2 := hid ho2
          have HF2 := hid hf2
          have HL2 := hid hl2
          cases g2 with
          | false =>
            have HRES : Hid (res = (o2, false)) := hE2
            clear he2 he3 hE2 ho2 hf2 hl2 hlt2 hg2 hn2
            go_wp2_with fail
            try go_ret2
            refine hK.out _ _ ⟨_, (by rw [HRES.out]; rfl), ?_, HF2.out⟩
            rw [HRES.out, HNN.out]; exact HO2.out
          | true =>
            have HRES : Hid (res = closureF cs j o2) := hE2
            clear he2 he3 hE2 ho2 hf2 hl2 hlt2 hg2 hn2
            go_wp2_with fail
            go_roundg j
            case measure => omega
            case rel =>
              have hJ := HJ.out
              refine ⟨o2, by omega, by rw [← hJ.2.1]; simp, HO2.out, HRES.out, HF2.out, ?_⟩
              have h1 := HL2.out
              have h2 := HLEN.out
              have h3 : (13 - j) * n = (12 - j) * n + n := by rw [show 13 - j = (12 - j) + 1 from by omega, Nat.add_mul]; simp
              rw [h3]; omega
    · have hg0 : gk = 0 := by omega
      subst hg0
      have HRES : Hid (res = (out, false)) := he
      clear ho hf he hlen hg hlt
      go_wp2_with fail
      try go_ret2
      refine hK.out _ _ ⟨_, (by rw [HRES.out]; rfl), ?_, HF.out⟩
      rw [HRES.out, HNN.out]; exact HO.out

theorem negL_take {c : List Int} {k : Nat} (h : k < c.length) : negL (c.take (k + 1)) = negL (c.take k) ++ [-(c.getD k 0)] := by
  unfold negL; rw [take_snocI h, List.map_append]; rfl
set_option maxRecDepth 100000 in
set_option maxHeartbeats 4000000 in
theorem rup_any {w : World} {u v : Value} {cs : List (List Int)} {c : List Int} (hm : Mat w u cs) (h : Ints w v c) (hok : RowsOK cs) (hg : ∀ x ∈ c, good x = true) (hb : c.length ≤ 12) :
    Calls Tryz.prog 72 #[u, v] w fun e w' => e = .returned (.bool (rupF cs c)) ∧ Fr [] w w' := by
  obtain ⟨a, cap, hea⟩ := h.len
  subst hea
  obtain ⟨n, hn⟩ : ∃ n, c.length = n := ⟨_, rfl⟩
  obtain ⟨res, hres⟩ : ∃ r, rupF cs c = r := ⟨_, rfl⟩
  rw [hn] at h hb ⊢
  rw [hres]
  have HI := hid h
  have HN := hid hn
  have HR := hid hres
  have HM := hid hm
  have HOK := hid hok
  have HG := hid hg
  obtain ⟨N, hN⟩ : ∃ N, w.heap.size = N := ⟨_, rfl⟩
  have HNN := hid hN
  clear h hn hres hm hok hg hN
  refine calls_via fun K hK => ?_
  go_enter Tryz.func72, Tryz.ntmps72
  go_wp2_with fail
  go_loopg [5, 6] n (fun g ov i wr => g ≤ n ∧ i = .int .i64 ((n - g : Nat) : Int) ∧ OwnI wr N ov (negL (c.take (n - g))) ∧ Fr [] w wr)
  case atStart => exact ⟨by omega, by simp, by simp [negL]; exact OwnI.nil _ _, Fr.refl _ _⟩
  case round =>
    obtain ⟨hg, rfl, ho, hf⟩ := hrel
    obtain ⟨ov, hov⟩ : ∃ x, u5 = x := ⟨_, rfl⟩
    rw [hov] at ho ⊢
    clear hov
    have HO := hid ho
    have HF := hid hf
    by_cases hlt : 0 < gk
    · obtain ⟨k, hk⟩ : ∃ k, n - gk = k := ⟨_, rfl⟩
      rw [hk] at HO ⊢
      have hkn : k < n := by omega
      have hkn2 : (k : Int) < n := by omega
      obtain ⟨g1, o1, rfl, hc1⟩ := (HI.out.fr hf (by simp)).at HN.out hkn
      have hx := HG.out _ (getD_mem (c := c) (i := k) (by rw [HN.out]; exact hkn))
      have hnt := negL_take (c := c) (k := k) (by rw [HN.out]; exact hkn)
      generalize c.getD k 0 = x at *
      have hx12 := (good_iff _).1 hx
      have hxa : -12 ≤ x := by omega
      have hxb : x ≤ 12 := by omega
      have hll : (negL (c.take k)).length ≤ 12 := by simp [negL]; omega
      have HLL := hid hll
      have HNT := hid hnt
      have HK0 := hid hk
      clear ho hf hk hx hnt hx12 hll
      go_wp2_with (first | (at_builtin; refine wp_app rfl _ _ rfl N ov (negL (c.take k)) rfl (HO.out.alloc _) (.slice (some ⟨wr.heap.size, 0, none⟩) 1 1) [-x] rfl (ints_oneN (by simp) _ _) (by have := HLL.out; simp; omega) (by have := HF.out.size; have := HNN.out; simp; omega) ?_; intro v' w2 ho3 hg3 hnil3))
      have hf3 : Fr [] w w2 := (HF.out.alloc _).app hg3 (HO.out.alloc _) (by rw [HNN.out]; omega)
      have HO3 := hid ho3
      have HF3 := hid hf3
      clear ho3 hf3 hg3 hnil3
      go_roundg (gk - 1)
      case measure => omega
      case rel =>
        have hk := HK0.out
        have e1 : n - (gk - 1) = k + 1 := by omega
        exact ⟨by omega, by rw [e1]; simp, by rw [e1, HNT.out]; exact HO3.out, HF3.out⟩
    · have hg0 : gk = 0 := by omega
      subst hg0
      rw [Nat.sub_zero, List.take_of_length_le (by rw [HN.out]; exact Nat.le_refl _)] at ho
      have hll : (negL c).length ≤ 12 := by simp [negL]; have := HN.out; omega
      have HCL := hid (closure_any (HM.out.fr0 hf) ho.ints HOK.out (by omega))
      have hRR := HR.out
      unfold rupF at hRR
      rw [hRR] at HCL
      clear ho hf hlt hg hll hRR HO
      go_wp2_with fail
      refine HCL.out.mono ?_
      rintro e w2 ⟨v', rfl, _, hf2⟩
      go_wp2_with fail
      exact hK.out _ _ ⟨rfl, HF.out.trans hf2⟩
end Go.Proofs.Qxb6500354aGreat
