/- Plan of the real coder, walked. -/
import Derived.Test.Qxb6500353aGreatTrx
import Derived.Test.Qxb6500353aGreatMdw
namespace Go.Proofs.Qxb6500353aGreat
open Go.RowKit
set_option linter.unusedVariables false
set_option linter.unusedSimpArgs false

theorem used_eq (c : Nat → Nat) (k : Nat) : ((usedN c (k + 1) : Nat) : Int) = (usedN c k : Nat) + if 0 < c k then 1 else 0 := by
  rw [used_succ]; split <;> simp
set_option maxRecDepth 100000 in
set_option maxHeartbeats 2000000 in
theorem plan_any {w : World} {b : Nat} {R : CdR} (h : CdAt w b R) {cg co n ccap : Nat} {c : Nat → Nat} (hc : Cel mkN w cg co n c) (hcl : cg < w.heap.size) (hcd : ¬ Rng b (b + 11) cg) (hn : n ≤ 265) (hcb : ∀ i, i < n → c i ≤ 2000) (hB : sumTo c n ≤ 1000000) :
    Calls Tryz.prog 119 #[ptrV b, .slice (some ⟨cg, co, none⟩) n ccap, .int .i64 10] w fun e w' => ∃ R', e = .returned (.tuple #[.slice (some ⟨w.heap.size, 0, none⟩) n n, .int .i64 0]) ∧ CdAt w' b R' ∧ Kept R R' ∧ Arr 3 mkN w' w.heap.size n (planF c n) ∧ Fr (Rng b (b + 11)) w w' := by
  have HC := hid hc
  have HL := hid hcl
  have H0 := hid h
  have HCD := hid hcd
  have HCB := hid hcb
  have HB := hid hB
  have HN := hid hn
  have hni : (n : Int) ≤ 265 := by omega
  have hbl := h.lt
  have HBL := hid hbl
  clear h hc hcl hcd hcb hB hbl
  refine calls_via fun K hK => ?_
  unfold ptrV
  go_enter Tryz.func119, Tryz.ntmps119
  go_wp2_with fail
  go_loopg [8, 9] n (fun g uv iv wr => ∃ k : Nat, g + k = n ∧ iv = .int .i64 (k : Nat) ∧ uv = .int .i64 ((usedN c k : Nat) : Int) ∧ wr = w)
  case atStart => exact ⟨0, by omega, rfl, rfl, rfl⟩
  case round =>
    obtain ⟨k, hgk, rfl, rfl, rfl⟩ := hrel
    by_cases hlt : k < n
    · have hki : (k : Int) < n := by omega
      have ck := HC.out k hlt
      simp only [mkN] at ck
      have hcb := HCB.out k hlt
      have hus : usedN c k ≤ k := cntTo_le _ _
      have hnx := used_eq c k
      obtain ⟨y, hy⟩ : ∃ y, y = c k := ⟨_, rfl⟩
      rw [← hy] at ck hcb hnx
      have hyi : (y : Int) ≤ 2000 := by omega
      obtain ⟨u, hu⟩ : ∃ z, z = usedN c k := ⟨_, rfl⟩
      rw [← hu] at hnx hus ⊢
      have hui : (u : Int) ≤ 265 := by omega
      by_cases h0 : 0 < y
      · have h0i : (0 : Int) < y := by omega
        rw [if_pos h0] at hnx
        have HX := hid hnx
        clear hnx hy hu
        go_wp2_with fail
        go_roundg (gk - 1)
        case measure => omega
        case rel => exact ⟨k + 1, by omega, by simp, by rw [HX.out], rfl⟩
      · have hy0 : y = 0 := by omega
        subst hy0
        rw [if_neg h0] at hnx
        have HX := hid hnx
        clear hnx hy hu
        go_wp2_with fail
        go_roundg (gk - 1)
        case measure => omega
        case rel => exact ⟨k + 1, by omega, by simp, by rw [HX.out]; simp, rfl⟩
    · have hki : ¬ (k : Int) < n := by omega
      have hkn : k = n := by omega
      subst hkn
      have hus : usedN c k ≤ k := cntTo_le _ _
      obtain ⟨u, hu⟩ : ∃ z, z = usedN c k := ⟨_, rfl⟩
      rw [← hu] at hus ⊢
      have hui : (u : Int) ≤ 265 := by omega
      have HU := hid hu
      obtain ⟨N, hN⟩ : ∃ N, wr.heap.size = N := ⟨_, rfl⟩
      have hHL := HL.out
      have hHB := HBL.out
      rw [hN] at hK hHL hHB
      have hbN : ¬ Rng b (b + 11) N := fun q => by have := q.2; omega
      have hcN : cg ≠ N := by omega
      have HBN := hid hbN
      have HCN := hid hcN
      by_cases h2 : u < 2
      · have h2i : (u : Int) < 2 := by omega
        have hpl : planF c k = fun i => if 0 < c i then 1 else 0 := by unfold planF; rw [if_pos (by omega)]
        have HPL := hid hpl
        clear hu hpl hHL hHB hbN hcN
        go_wp2_with (at_make; refine wp_mkI rfl _ _ rfl k k k rfl rfl rfl rfl (by omega) ?_; rw [hN]; intro w1 ha1 hg1; have HA1 := hid ha1; have HF1 := hid (Fr.ofGrown hg1); clear ha1 hg1)
        go_loopg [11] k (fun g iv w2 => ∃ j : Nat, g + j = k ∧ iv = .int .i64 (j : Nat) ∧ Arr 3 mkN w2 N k (fun i => if i < j then planF c k i else 0) ∧ Fr (One N) w1 w2)
        case atStart => exact ⟨0, by omega, rfl, HA1.out.congr fun i _ => by simp, Fr.refl _ _⟩
        case round =>
          obtain ⟨j, hgj, rfl, hA, hf⟩ := hrel
          have hfw : Fr (One N) _ wr := (HF1.out.mono (fun x hx _ => hx.elim)).trans hf
          by_cases hlt2 : j < k
          · have hji : (j : Int) < k := by omega
            have cj := (HC.out.fr hfw HCN.out) j hlt2
            have lj := hA.cell j hlt2
            have zf : ∀ i, wr.frozen? ⟨N, i, none⟩ = false := hA.thaw
            simp only [mkN] at cj lj
            have hpj := congrFun HPL.out j
            have HA := hid hA
            have HF := hid hf
            by_cases h0 : 0 < c j
            · have h0i : (0 : Int) < c j := by omega
              rw [if_pos h0] at hpj
              have HPJ := hid hpj
              clear hA hf hfw hpj
              go_wp2_with fail
              go_roundg (gk - 1)
              case measure => omega
              case rel =>
                refine ⟨j + 1, by omega, by simp, (HA.out.set j 1).congr fun i hi => ?_, HF.out.set1 _ _⟩
                by_cases e : i = j
                · subst e; rw [upd_self, if_pos (by omega), HPJ.out]
                · rw [upd_ne _ _ _ _ e]
                  by_cases e2 : i < j
                  · rw [if_pos e2, if_pos (by omega)]
                  · rw [if_neg e2, if_neg (by omega)]
            · have h0i : ¬ (0 : Int) < c j := by omega
              rw [if_neg h0] at hpj
              have HPJ := hid hpj
              clear hA hf hfw hpj
              go_wp2_with fail
              go_roundg (gk - 1)
              case measure => omega
              case rel =>
                refine ⟨j + 1, by omega, by simp, HA.out.congr fun i hi => ?_, HF.out⟩
                by_cases e : i = j
                · subst e; rw [if_neg (by omega), if_pos (by omega), HPJ.out]
                · by_cases e2 : i < j
                  · rw [if_pos e2, if_pos (by omega)]
                  · rw [if_neg e2, if_neg (by omega)]
          · have hji : ¬ (j : Int) < k := by omega
            have hjk : j = k := by omega
            have HA := hid (hA.congr (h := planF c k) fun i hi => by rw [if_pos (by omega)])
            have HF := hid hf
            clear hA hf hfw
            go_wp2_with fail
            have hf0 : Fr Nob _ wr := HF1.out.trans2 HF.out (fun x hx hlt => by unfold One at hx; omega)
            have hfw : Fr (Rng b (b + 11)) _ wr := hf0.mono (fun x hx _ => hx.elim)
            exact hK.out _ _ ⟨R, rfl, H0.out.fr hf0 (fun q h1 h2 h3 => h3), Kept.refl R, HA.out, hfw⟩
      · have h2i : ¬ (u : Int) < 2 := by omega
        have hu2 : 2 ≤ usedN c k := by omega
        have hu1k : usedN c k ≤ 1024 := by omega
        have hpl : planF c k = repF c k (treeF c k) := by unfold planF; rw [if_neg (by omega)]
        have HPL := hid hpl
        have HU2 := hid hu2
        have HU1K := hid hu1k
        clear hu hpl hHL hHB hbN hcN hu2 hu1k
        go_wp2_with (at_make; refine wp_mkI rfl _ _ rfl k k k rfl rfl rfl rfl (by omega) ?_; rw [hN]; intro w1 ha1 hg1; have HA1 := hid ha1; have HF1 := hid (Fr.ofGrown hg1); clear ha1 hg1)
        have hcdT : ¬ TrS b N cg := fun q => q.elim (fun q2 => HCD.out q2) (fun q2 => HCN.out q2)
        refine (tree_any (H0.out.fr HF1.out (fun q _ _ h3 => h3)) (HC.out.fr HF1.out (fun h3 => h3)) HA1.out hcdT HBN.out HN.out HB.out HU2.out).mono ?_
        rintro e w3 ⟨d, R3, rfl, hA3, hk3, ho3, hd1, hd2, hf3⟩
        have hdl : d ≤ 265 := by
          rcases hd2 with h9 | ⟨i, hi, h9⟩
          · omega
          · have := tree_deep (c := c) (n := k) (by have := HU2.out; omega) i hi
            have := cntTo_le (fun i => decide (0 < c i)) k
            unfold usedN at *; omega
        have hdi : (d : Int) ≤ 265 := by omega
        have HA3 := hid hA3
        have HK3 := hid hk3
        have HO3 := hid ho3
        have HD1 := hid hd1
        have HF3 := hid hf3
        have hf0 : Fr (TrS b N) _ w3 := (HF1.out.mono (fun x hx _ => hx.elim)).trans hf3
        have hfw : Fr (Rng b (b + 11)) _ w3 := hf0.mono (fun x hx hlt => hx.elim (fun q => q) (fun q => by omega))
        have HFW := hid hfw
        by_cases hdeep : 10 < d
        · have hdeepi : (10 : Int) < d := by omega
          have hro := cut_ok HU2.out
          have HM := hid (mend_any (ccap := ccap) (HC.out.fr hf0 hcdT) ho3 HCN.out HN.out (fun i hi => by have := HCB.out i hi; omega) hro HU2.out (fun i hi => by
            have := tree_deep (c := c) (n := k) (by have := HU2.out; omega) i hi
            have := cntTo_le (fun i => decide (0 < c i)) k
            unfold usedN at *; omega))
          clear hA3 hk3 ho3 hd1 hd2 hf3 hdl hf0 hfw hro hcdT
          go_wp2_with fail
          refine HM.out.mono ?_
          rintro e w4 ⟨rfl, ho4, hf4⟩
          have HO4 := hid ho4
          have HF4 := hid hf4
          clear ho4 hf4
          go_wp2_with fail
          have hne : ∀ q, b ≤ q → q < b + 11 → ¬ One N q := fun q h1 h2 h3 => HBN.out (by unfold One at h3; subst h3; exact ⟨h1, h2⟩)
          refine hK.out _ _ ⟨R3, rfl, HA3.out.fr HF4.out hne, HK3.out, by rw [HPL.out]; exact HO4.out, HFW.out.trans2 HF4.out (fun x hx hlt => by unfold One at hx; omega)⟩
        · have hdeepi : ¬ (10 : Int) < d := by omega
          have hrn := rep_none (c := c) (n := k) HU2.out (fun i hi => by have := hd1 i hi; omega)
          have HRN := hid hrn
          clear hA3 hk3 ho3 hd1 hd2 hf3 hdl hf0 hfw hrn hcdT
          go_wp2_with fail
          exact hK.out _ _ ⟨R3, rfl, HA3.out, HK3.out, by rw [HPL.out]; exact HO3.out.congr fun i hi => (HRN.out i hi).symm, HFW.out⟩
end Go.Proofs.Qxb6500353aGreat
