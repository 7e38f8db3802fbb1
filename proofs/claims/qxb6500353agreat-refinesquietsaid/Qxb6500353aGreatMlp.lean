/- The model coder: CheckPlan, Plan, walked. -/
import Derived.Test.Qxb6500353aGreatMqw
namespace Go.Proofs.Qxb6500353aGreat
open Go.RowKit
set_option linter.unusedVariables false
set_option linter.unusedSimpArgs false

set_option maxRecDepth 100000 in
theorem checkPlan_any {w : World} {cg co n ccap : Nat} {c : Nat → Nat} (hc : Cel mkN w cg co n c) (hn : n ≤ 265) (hcb : ∀ i, i < n → c i ≤ 2000) :
    Calls Tryz.prog 96 #[.slice (some ⟨cg, co, none⟩) n ccap, .int .i64 10] w fun e w' => e = .returned (.int .i64 0) ∧ w' = w := by
  have HC := hid hc
  have HCB := hid hcb
  have HU := hid (used_any (ccap := ccap) hc (by omega) (fun i hi => by have := hcb i hi; omega))
  have hul : usedN c n ≤ n := cntTo_le _ _
  obtain ⟨u, hu⟩ : ∃ u, u = usedN c n := ⟨_, rfl⟩
  rw [← hu] at HU hul
  have hui : ¬ (1024 : Int) < u := by omega
  have hub : (u : Int) ≤ 265 := by omega
  have hni : (n : Int) ≤ 265 := by omega
  clear hc hcb hu hul
  refine calls_via fun K hK => ?_
  go_enter Tryz.func96, Tryz.ntmps96
  go_wp2_with fail
  go_loopg [5] n (fun g iv wr => ∃ j : Nat, g + j = n ∧ iv = .int .i64 (j : Nat) ∧ wr = w)
  case atStart => exact ⟨0, by omega, rfl, rfl⟩
  case round =>
    obtain ⟨j, hgj, rfl, rfl⟩ := hrel
    by_cases hlt : j < n
    · have hji : (j : Int) < n := by omega
      have x := HC.out j hlt
      simp only [mkN] at x
      have h10 := HCB.out j hlt
      obtain ⟨y, hy⟩ : ∃ y, y = c j := ⟨_, rfl⟩
      rw [← hy] at x h10
      have h1 : ¬ (1048576 : Int) < y := by omega
      have h2 : ¬ (y : Int) < 0 := by omega
      clear hy
      go_wp2_with fail
      go_roundg (gk - 1)
      case measure => omega
      case rel => exact ⟨j + 1, by omega, by simp, rfl⟩
    · have hji : ¬ (j : Int) < n := by omega
      have hj : j = n := by omega
      subst hj
      go_wp2_with (go_at_call 97; refine HU.out.mono ?_; rintro e w2 ⟨rfl, hw⟩; have hw2 := hw.symm; subst hw2; clear hw)
      exact hK.out _ _ ⟨rfl, rfl⟩
set_option maxRecDepth 100000 in
set_option maxHeartbeats 2000000 in
theorem mplan_any {w : World} {h : Value} {cg co n ccap N : Nat} {c : Nat → Nat} (hN : w.heap.size = N) (hc : Cel mkN w cg co n c) (hcl : cg < N) (hn : n ≤ 265) (hcb : ∀ i, i < n → c i ≤ 2000) (hB : sumTo c n ≤ 1000000) :
    Calls Tryz.prog 65 #[h, .slice (some ⟨cg, co, none⟩) n ccap, .int .i64 10] w fun e w' => e = .returned (.tuple #[.slice (some ⟨N, 0, none⟩) n n, .int .i64 0]) ∧ Arr 3 mkN w' N n (planF c n) ∧ Fr Nob w w' := by
  have HC := hid hc
  have HCB := hid hcb
  have HB := hid hB
  have HCL := hid hcl
  have HP := hid (checkPlan_any (ccap := ccap) hc hn hcb)
  have HU := hid (used_any (ccap := ccap) hc (by omega) (fun i hi => by have := hcb i hi; omega))
  have hul : usedN c n ≤ n := cntTo_le _ _
  have hni : (n : Int) ≤ 265 := by omega
  have HN := hid hn
  by_cases h2 : 2 ≤ usedN c n
  · have HT := hid (plainm_any (ccap := ccap) hN hc hcl hn hcb hB h2)
    have H2 := hid h2
    have hpl : planF c n = repF c n (treeF c n) := by unfold planF; rw [if_neg (by omega)]
    have HPL := hid hpl
    obtain ⟨u, hu⟩ : ∃ u, u = usedN c n := ⟨_, rfl⟩
    rw [← hu] at HU hul h2
    have h2i : ¬ (u : Int) < 2 := by omega
    have hui : (u : Int) ≤ 265 := by omega
    clear hc hcb hB hcl hpl hu
    refine calls_via fun K hK => ?_
    go_enter Tryz.func65, Tryz.ntmps65
    go_wp2_with (first
      | (go_at_call 96; refine HP.out.mono ?_; rintro e w2 ⟨rfl, hw⟩; have hw2 := hw.symm; subst hw2; clear hw)
      | (go_at_call 97; refine HU.out.mono ?_; rintro e w2 ⟨rfl, hw⟩; have hw2 := hw.symm; subst hw2; clear hw)
      | (go_at_call 98; refine HT.out.mono ?_; rintro e w1 ⟨rfl, ha, hs, hf⟩; have HA := hid ha; have HF := hid hf; clear ha hf hs)
      | (go_at_call 99; refine (repair_any (ccap := ccap) (HC.out.fr HF.out (fun x => x)) HA.out (by have := HCL.out; omega) HN.out (fun i hi => by have := HCB.out i hi; omega) (cut_ok H2.out) H2.out (fun i hi => by have h8 := tree_deep (c := c) (n := n) (by have := H2.out; omega) i hi; have h9 : usedN c n ≤ n := cntTo_le _ _; have := HN.out; omega)).mono ?_; rintro e w2 ⟨rfl, ha2, hf2⟩; have HA2 := hid ha2; have HF2 := hid hf2; clear ha2 hf2))
    exact hK.out _ _ ⟨rfl, by rw [HPL.out]; exact HA2.out, HF.out.trans2 HF2.out (fun x hx hl => by unfold One at hx; omega)⟩
  · have hpl : planF c n = fun i => if 0 < c i then 1 else 0 := by unfold planF; rw [if_pos (by omega)]
    have HPL := hid hpl
    obtain ⟨u, hu⟩ : ∃ u, u = usedN c n := ⟨_, rfl⟩
    rw [← hu] at HU hul h2
    have h2i : (u : Int) < 2 := by omega
    clear hc hcb hB hcl hpl hu
    refine calls_via fun K hK => ?_
    go_enter Tryz.func65, Tryz.ntmps65
    go_wp2_with (first
      | (go_at_call 96; refine HP.out.mono ?_; rintro e w2 ⟨rfl, hw⟩; have hw2 := hw.symm; subst hw2; clear hw)
      | (go_at_call 97; refine HU.out.mono ?_; rintro e w2 ⟨rfl, hw⟩; have hw2 := hw.symm; subst hw2; clear hw)
      | (at_make; refine wp_mkx rfl _ _ rfl n n n N hN rfl rfl rfl rfl (by omega) ?_; intro w1 hs1 ha hf; have HA := hid ha; have HF := hid hf; clear ha hf))
    go_loopg [11] n (fun g iv wr => ∃ j : Nat, g + j = n ∧ iv = .int .i64 (j : Nat) ∧ Arr 3 mkN wr N n (fun i => if i < j then planF c n i else 0) ∧ Fr Nob w wr)
    case atStart => exact ⟨0, by omega, rfl, HA.out.congr (fun i hi => by simp), HF.out⟩
    case round =>
      obtain ⟨j, hgj, rfl, hA, hf⟩ := hrel
      by_cases hlt : j < n
      · have hji : (j : Int) < n := by omega
        have xc := HC.out.fr hf (fun x => x) j hlt
        have x1 := hA.cell j hlt
        have z1 : ∀ i, wr.frozen? ⟨N, i, none⟩ = false := hA.thaw
        simp only [mkN] at xc x1
        rw [if_neg (Nat.lt_irrefl _)] at x1
        have hpj : planF c n j = if 0 < c j then 1 else 0 := by rw [HPL.out]
        have hcj := HCB.out j hlt
        obtain ⟨y, hy⟩ : ∃ y, y = c j := ⟨_, rfl⟩
        rw [← hy] at xc hpj hcj
        have HA2 := hid hA
        have HF2 := hid hf
        by_cases h0 : 0 < y
        · have h0i : (0 : Int) < y := by omega
          rw [if_pos h0] at hpj
          have HPJ := hid hpj
          clear hpj hA hf hy
          go_wp2_with fail
          go_roundg (gk - 1)
          case measure => omega
          case rel =>
            refine ⟨j + 1, by omega, by simp, (HA2.out.set j 1).congr (fun i hi => ?_), HF2.out.trans2 (S2 := One N) (Fr.set1 (Fr.refl _ _) _ _) (fun x hx hl => by unfold One at hx; omega)⟩
            by_cases e : i = j
            · subst e; rw [upd_self, if_pos (by omega), HPJ.out]
            · rw [upd_ne _ _ _ _ e]
              by_cases e2 : i < j
              · rw [if_pos e2, if_pos (by omega)]
              · rw [if_neg e2, if_neg (by omega)]
        · have h0i : ¬ (0 : Int) < y := by omega
          rw [if_neg h0] at hpj
          have HPJ := hid hpj
          clear hpj hA hf hy
          go_wp2_with fail
          go_roundg (gk - 1)
          case measure => omega
          case rel =>
            refine ⟨j + 1, by omega, by simp, HA2.out.congr (fun i hi => ?_), HF2.out⟩
            by_cases e : i = j
            · subst e; rw [if_neg (Nat.lt_irrefl _), if_pos (by omega), HPJ.out]
            · by_cases e2 : i < j
              · rw [if_pos e2, if_pos (by omega)]
              · rw [if_neg e2, if_neg (by omega)]
      · have hji : ¬ (j : Int) < n := by omega
        have hj : j = n := by omega
        subst hj
        have HA2 := hid (hA.congr (h := planF c j) (fun i hi => by rw [if_pos hi]))
        have HF2 := hid hf
        clear hA hf
        go_wp2_with fail
        exact hK.out _ _ ⟨rfl, HA2.out, HF2.out⟩
end Go.Proofs.Qxb6500353aGreat
