/- The walks over towerlaw: Adds, Live; watch.Ids. -/
import Derived.Test.Qxb6500354aGreatBag3
namespace Go.Proofs.Qxb6500354aGreat
open Go.RowKit
set_option linter.unusedVariables false
set_option linter.unusedSimpArgs false

theorem addsOf_take {rs : List (Bool × List Int)} {k : Nat} (h : k < rs.length) : addsOf (rs.take (k + 1)) = addsOf (rs.take k) + if (rs.getD k (false, [])).1 = true then 0 else 1 := by
  rw [take_snocR h, addsOf_snoc]
theorem addsOf_le (rs : List (Bool × List Int)) : addsOf rs ≤ rs.length := by unfold addsOf; exact List.countP_le_length
set_option maxHeartbeats 2000000 in
theorem adds_any {w : World} {base : Nat} {rv : Value} {rs : List (Bool × List Int)} {D : List Nat} (hr : OwnR w base rv rs D) (hrl : rs.length ≤ 1000000) :
    Calls Tryz.prog 36 #[rv] w fun e w' => e = .returned (.int .i64 (addsOf rs : Nat)) ∧ w' = w := by
  obtain ⟨x2, m2, rfl⟩ := hr.rows.len
  obtain ⟨n, hn⟩ : ∃ z, rs.length = z := ⟨_, rfl⟩
  rw [hn] at hr hrl ⊢
  have hni : (n : Int) ≤ 1000000 := by omega
  have HR := hid hr
  have HN := hid hn
  clear hr hn hrl
  refine calls_via fun K hK => ?_
  go_enter Tryz.func36, Tryz.ntmps36
  go_wp2_with fail
  go_loopg [3, 4] n (fun g c i wr => g ≤ n ∧ wr = w ∧ i = .int .i64 ((n - g : Nat) : Int) ∧ c = .int .i64 ((addsOf (rs.take (n - g)) : Nat) : Int))
  case atStart => exact ⟨by omega, rfl, by simp, by simp [addsOf]⟩
  case round =>
    obtain ⟨hg, rfl, rfl, rfl⟩ := hrel
    by_cases hlt : 0 < gk
    · obtain ⟨k, hk⟩ : ∃ k, n - gk = k := ⟨_, rfl⟩
      rw [hk]
      have hkn : k < n := by omega
      have hkn2 : (k : Int) < n := by omega
      obtain ⟨g1, b1, m1, c1, rfl, k1, k2, hi1, hlt1⟩ := HR.out.at HN.out hkn
      have hat := addsOf_take (rs := rs) (k := k) (by rw [HN.out]; exact hkn)
      have hle := addsOf_le (rs.take k)
      rw [List.length_take] at hle
      generalize rs.getD k (false, []) = x at *
      obtain ⟨xd, xl⟩ := x
      simp only [] at k1 hat
      obtain ⟨ct, hct⟩ : ∃ z, addsOf (rs.take k) = z := ⟨_, rfl⟩
      rw [hct] at hat hle ⊢
      have hcti : (ct : Int) ≤ 1000000 := by omega
      have HAT := hid hat
      have HK0 := hid hk
      clear hat hle hct hk hi1 hlt1 k2
      cases xd with
      | true =>
        go_wp2_with fail
        go_roundg (gk - 1)
        case measure => omega
        case rel =>
          have hk := HK0.out
          have e1 : n - (gk - 1) = k + 1 := by omega
          exact ⟨by omega, rfl, by rw [e1]; simp, by rw [e1, HAT.out]; simp⟩
      | false =>
        go_wp2_with fail
        go_roundg (gk - 1)
        case measure => omega
        case rel =>
          have hk := HK0.out
          have e1 : n - (gk - 1) = k + 1 := by omega
          exact ⟨by omega, rfl, by rw [e1]; simp, by rw [e1, HAT.out]; simp⟩
    · have hg0 : gk = 0 := by omega
      subst hg0
      rw [Nat.sub_zero, List.take_of_length_le (by rw [HN.out]; exact Nat.le_refl _)]
      clear hlt hg
      go_wp2_with fail
      exact hK.out _ _ ⟨rfl, rfl⟩

/-! ### Ids -/
def idsI (used n : Nat) : List Int := ((List.range n).filter fun i => used.testBit i).map fun (i : Nat) => (i : Int)
theorem idsI_succ (used n : Nat) : idsI used (n + 1) = idsI used n ++ (if used.testBit n = true then [(n : Int)] else []) := by
  unfold idsI
  rw [List.range_succ, List.filter_append, List.map_append]
  by_cases h : used.testBit n = true
  · rw [if_pos h]; simp [h]
  · rw [if_neg h]; simp [h]
theorem idsI_len (used n : Nat) : (idsI used n).length ≤ n := by
  unfold idsI; rw [List.length_map]
  exact Nat.le_trans (List.length_filter_le _ _) (by simp)
theorem idsI_mono (used : Nat) {a b : Nat} (h : a ≤ b) : (idsI used a).length ≤ (idsI used b).length := by
  induction b with
  | zero => have : a = 0 := by omega
            subst this; exact Nat.le_refl _
  | succ b ih =>
    by_cases e : a = b + 1
    · rw [e]; exact Nat.le_refl _
    · have := ih (by omega)
      rw [idsI_succ, List.length_append]; omega
theorem take_setI {l m : List Int} {q : Nat} (h : l.take q = m) (hq : m.length = q) (hl : q < l.length) (x : Int) : (l.set q x).take (q + 1) = m ++ [x] := take_set h hq hl x
set_option maxRecDepth 100000 in
set_option maxHeartbeats 4000000 in
theorem ids_any {w : World} {b tb : Nat} {W : WatchS} (h : WatAt w b tb W) :
    Calls Tryz.prog 65 #[.pointer (some ⟨b, 0, none⟩)] w fun e w' => ∃ v, e = .returned v ∧ OwnI w' w.heap.size v (idsI W.used 52) ∧ Fr [] w w' := by
  obtain ⟨R, hR, ho⟩ := id h
  have hu := hR.used
  rw [ho.used] at hu
  have hlt := ho.usedlt
  obtain ⟨us, hus⟩ : ∃ z, W.used = z := ⟨_, rfl⟩
  rw [hus] at hu hlt ⊢
  obtain ⟨cn, hcn⟩ : ∃ z, (idsI us 52).length = z := ⟨_, rfl⟩
  have hcn52 : cn ≤ 52 := by rw [← hcn]; exact idsI_len _ _
  have hcni : (cn : Int) ≤ 52 := by omega
  have HCN := hid hcn
  have HLT := hid hlt
  have HCN52 := hid hcn52
  have hbw := lt_of_cellB hu
  have HBW := hid hbw
  obtain ⟨N, hN⟩ : ∃ z, w.heap.size = z := ⟨_, rfl⟩
  have HN := hid hN
  clear hR ho h hus hcn hlt hcn52 hbw hN
  refine calls_via fun K hK => ?_
  go_enter Tryz.func65, Tryz.ntmps65
  go_wp2_with fail
  go_loopg [3, 4] 52 (fun g c i wr => g ≤ 52 ∧ wr = w ∧ i = .int .i64 ((52 - g : Nat) : Int) ∧ c = .int .i64 (((idsI us (52 - g)).length : Nat) : Int))
  case atStart => exact ⟨by omega, rfl, by simp, by simp [idsI]⟩
  case round =>
    obtain ⟨hg, rfl, rfl, rfl⟩ := hrel
    by_cases hlt : 0 < gk
    · obtain ⟨k, hk⟩ : ∃ k, 52 - gk = k := ⟨_, rfl⟩
      rw [hk]
      have hk52 : k < 52 := by omega
      have hki : (k : Int) < 52 := by omega
      have hss := idsI_succ us k
      have hll := idsI_len us k
      obtain ⟨ct, hct⟩ : ∃ z, (idsI us k).length = z := ⟨_, rfl⟩
      rw [hct] at hll ⊢
      have hcti : (ct : Int) ≤ 52 := by omega
      have HH := hid (fun w => has_any us k (by omega) HLT.out w)
      obtain ⟨tb', htb⟩ : ∃ z, us.testBit k = z := ⟨_, rfl⟩
      rw [htb] at hss HH
      have HSS := hid hss
      have HCT := hid hct
      have HK0 := hid hk
      clear hss hll hct hk htb
      cases tb' with
      | true =>
        go_wp2_with (first | (go_at_call 99; refine (HH.out _).mono ?_; rintro e w' ⟨rfl, hw⟩; have hw2 := hw.symm; subst hw2; clear hw))
        go_roundg (gk - 1)
        case measure => omega
        case rel =>
          have hk := HK0.out
          have e1 : 52 - (gk - 1) = k + 1 := by omega
          exact ⟨by omega, rfl, by rw [e1]; simp, by rw [e1, HSS.out, List.length_append, HCT.out]; simp⟩
      | false =>
        go_wp2_with (first | (go_at_call 99; refine (HH.out _).mono ?_; rintro e w' ⟨rfl, hw⟩; have hw2 := hw.symm; subst hw2; clear hw))
        go_roundg (gk - 1)
        case measure => omega
        case rel =>
          have hk := HK0.out
          have e1 : 52 - (gk - 1) = k + 1 := by omega
          exact ⟨by omega, rfl, by rw [e1]; simp, by rw [e1, HSS.out, List.length_append, HCT.out]; simp⟩
    · have hg0 : gk = 0 := by omega
      subst hg0
      rw [Nat.sub_zero, HCN.out]
      clear hlt hg
      by_cases h0 : cn = 0
      · have h00 : idsI us 52 = [] := List.eq_nil_of_length_eq_zero (by rw [HCN.out]; exact h0)
        have H00 := hid h00
        subst h0
        clear h00
        go_wp2_with fail
        exact hK.out _ _ ⟨_, rfl, by rw [H00.out]; exact OwnI.nil _ _, Fr.refl _ _⟩
      · have hb0 : ((cn : Int) == 0) = false := by rw [eqN]; simp [h0]
        clear h0
        go_wp2_with (at_make; refine wp_mk rfl _ _ rfl cn cn cn rfl rfl rfl rfl (by have := HCN52.out; omega) ?_; intro w1 ho1 hg1)
        rw [HN.out] at ho1 ⊢
        have hf1 : Fr [] wr w1 := Fr.ofGrown hg1
        have HO1 := hid ho1
        have HF1 := hid hf1
        clear hg1 ho1 hf1
        go_loopg [6, 7] 52 (fun g kk i wi => ∃ l : List Int, g ≤ 52 ∧ i = .int .i64 ((52 - g : Nat) : Int) ∧ kk = .int .i64 (((idsI us (52 - g)).length : Nat) : Int) ∧ OwnI wi N (.slice (some ⟨N, 0, none⟩) cn cn) l ∧ l.length = cn ∧ l.take (idsI us (52 - g)).length = idsI us (52 - g) ∧ Fr [] wr wi)
        case atStart => exact ⟨_, by omega, by simp, by simp [idsI], HO1.out, by simp, by simp [idsI], HF1.out⟩
        case round =>
          obtain ⟨l, hg, rfl, rfl, ho, hl, htk, hf⟩ := hrel
          have hu1 := hf.cell hu (by simp)
          have HO := hid ho
          have HL := hid hl
          have HF := hid hf
          have HG := hid hg
          by_cases hlt : 0 < gk
          · obtain ⟨k, hk⟩ : ∃ k, 52 - gk = k := ⟨_, rfl⟩
            rw [hk] at htk ⊢
            have hk52 : k < 52 := by omega
            have hki : (k : Int) < 52 := by omega
            have hss := idsI_succ us k
            have hmo := idsI_mono us (show k + 1 ≤ 52 by omega)
            rw [HCN.out] at hmo
            obtain ⟨ct, hct⟩ : ∃ z, (idsI us k).length = z := ⟨_, rfl⟩
            rw [hct] at htk ⊢
            have hcti : (ct : Int) ≤ 52 := by have := idsI_len us k; omega
            have HH := hid (fun w => has_any us k (by omega) HLT.out w)
            obtain ⟨tb', htb⟩ : ∃ z, us.testBit k = z := ⟨_, rfl⟩
            rw [htb] at hss HH
            have HSS := hid hss
            have HCT := hid hct
            have HK0 := hid hk
            have HTK := hid htk
            have HLTG := hid hlt
            cases tb' with
            | true =>
              rw [if_pos rfl] at hss
              have HSS2 := hid hss
              have hcc : ct < cn := by rw [hss, List.length_append, hct] at hmo; simp at hmo; omega
              have hcci : (ct : Int) < cn := by omega
              have hcell := ho.get ct (by omega)
              have hfz := OwnI.frozen ho
              have HCC := hid hcc
              clear hss hmo hct hk htb htk ho hl hf hg hlt hcc
              go_wp2_with (first | (go_at_call 99; refine (HH.out _).mono ?_; rintro e w' ⟨rfl, hw⟩; have hw2 := hw.symm; subst hw2; clear hw))
              go_roundg (gk - 1)
              case measure => have := HLTG.out; omega
              case rel =>
                have hk := HK0.out
                have hg := HG.out
                have hlt := HLTG.out
                have e1 : 52 - (gk - 1) = k + 1 := by omega
                have e2 : (idsI us (k + 1)).length = ct + 1 := by rw [HSS2.out, List.length_append, HCT.out]; rfl
                refine ⟨l.set ct (k : Int), by omega, by rw [e1]; simp, by rw [e1, e2]; simp, HO.out.setg HL.out ct _, by rw [List.length_set]; exact HL.out, ?_, HF.out.set (fun h => absurd h (by have := HN.out; simp; omega)) _⟩
                rw [e1, e2, HSS2.out]
                exact take_setI HTK.out HCT.out (by rw [HL.out]; exact HCC.out) _
            | false =>
              clear hss hmo hct hk htb htk ho hl hf hg hlt
              go_wp2_with (first | (go_at_call 99; refine (HH.out _).mono ?_; rintro e w' ⟨rfl, hw⟩; have hw2 := hw.symm; subst hw2; clear hw))
              go_roundg (gk - 1)
              case measure => have := HLTG.out; omega
              case rel =>
                have hk := HK0.out
                have hg := HG.out
                have hlt := HLTG.out
                have e1 : 52 - (gk - 1) = k + 1 := by omega
                have e2 : idsI us (k + 1) = idsI us k := by rw [HSS.out]; simp
                exact ⟨l, by omega, by rw [e1]; simp, by rw [e1, e2, HCT.out], HO.out, HL.out, by rw [e1, e2, HCT.out]; exact HTK.out, HF.out⟩
          · have hg0 : gk = 0 := by omega
            subst hg0
            rw [Nat.sub_zero, HCN.out, List.take_of_length_le (by omega)] at htk
            have HTK := hid htk
            clear htk ho hl hf hg hlt
            go_wp2_with fail
            refine hK.out _ _ ⟨_, rfl, ?_, HF.out⟩
            rw [← HTK.out]
            rw [HN.out]; exact HO.out
end Go.Proofs.Qxb6500354aGreat
