/- The model's repair, walked (the twin of mend). -/
import Derived.Test.Qxb6500353aGreatMpw
namespace Go.Proofs.Qxb6500353aGreat
open Go.RowKit
set_option linter.unusedVariables false
set_option linter.unusedSimpArgs false

set_option maxRecDepth 100000 in
set_option maxHeartbeats 2000000 in
theorem repair_any {w : World} {cg co n ccap lg : Nat} {c f : Nat → Nat} (hc : Cel mkN w cg co n c) (hl : Arr 3 mkN w lg n f) (hne : cg ≠ lg) (hn : n ≤ 265) (hcb : ∀ i, i < n → c i ≤ 2000000)
    (hr : RepOK c n (cutF f)) (hu : 2 ≤ usedN c n) (hf : ∀ i, i < n → f i ≤ 1000) :
    Calls Tryz.prog 99 #[.slice (some ⟨cg, co, none⟩) n ccap, .slice (some ⟨lg, 0, none⟩) n n, .int .i64 10] w fun e w' => e = .returned (.tuple #[]) ∧ Arr 3 mkN w' lg n (repF c n f) ∧ Fr (One lg) w w' := by
  have HC := hid hc
  have HL := hid hl
  have HR := hid hr
  have HU := hid hu
  have HCB := hid hcb
  have HFB := hid hf
  have hne2 : ¬ lg = cg := fun e => hne e.symm
  have HNE := hid hne
  have HN := hid hn
  clear hc hl hr hu hcb hf hne
  refine calls_via fun K hK => ?_
  go_enter Tryz.func99, Tryz.ntmps99
  go_wp2_with fail
  go_loopg [7, 8] n (fun g kv iv wr => ∃ k : Nat, g + k = n ∧ iv = .int .i64 (k : Nat) ∧ kv = .int .i64 ((kr k (cutF f) : Nat) : Int) ∧ Arr 3 mkN wr lg n (fun j => if j < k then cutF f j else f j) ∧ Fr (One lg) w wr)
  case atStart => exact ⟨0, by omega, rfl, rfl, HL.out.congr fun i _ => by simp, Fr.refl _ _⟩
  case round =>
    obtain ⟨k, hgk, rfl, rfl, hA, hfr⟩ := hrel
    by_cases hlt : k < n
    · have hki : (k : Int) < n := by omega
      have lk := hA.cell k hlt
      have zf : ∀ i, wr.frozen? ⟨lg, i, none⟩ = false := hA.thaw
      simp only [mkN] at lk
      rw [if_neg (show ¬ k < k by omega)] at lk
      obtain ⟨x, hx⟩ : ∃ x, x = f k := ⟨_, rfl⟩
      rw [← hx] at lk
      have hxb : (x : Int) ≤ 1000 := by have := HFB.out k hlt; omega
      have hkr := kr_le k (cutF f)
      have hN := HN.out
      have hks := kr_succ k (cutF f)
      obtain ⟨kk, hkk⟩ : ∃ z, z = kr k (cutF f) := ⟨_, rfl⟩
      rw [← hkk] at hkr hks ⊢
      have hkkb : (kk : Int) ≤ 300000 := by omega
      by_cases h1 : 10 < x
      · have h1i : (10 : Int) < x := by omega
        have hcut : cutF f k = 10 := by unfold cutF; rw [← hx, if_pos h1]
        rw [hcut, show unit10 10 = 1 from rfl] at hks
        have HA := hid hA
        have HF := hid hfr
        have HKS := hid hks
        have HCUT := hid hcut
        clear hA hfr hks hcut hkk hx
        go_wp2_with fail
        go_roundg (gk - 1)
        case measure => omega
        case rel =>
          refine ⟨k + 1, by omega, by simp, by rw [HKS.out]; rfl, (HA.out.set k 10).congr fun i hi => ?_, HF.out.set1 _ _⟩
          by_cases e : i = k
          · subst e; rw [upd_self, if_pos (by omega), HCUT.out]
          · rw [upd_ne _ _ _ _ e]
            by_cases e2 : i < k
            · rw [if_pos e2, if_pos (by omega)]
            · rw [if_neg e2, if_neg (by omega)]
      · have h1i : ¬ (10 : Int) < x := by omega
        have hcut : cutF f k = x := by unfold cutF; rw [← hx, if_neg h1]
        rw [hcut] at hks
        have hnew : ∀ i, i < n → (if i < k then cutF f i else f i) = if i < k + 1 then cutF f i else f i := by
          intro i hi
          by_cases e : i = k
          · subst e; rw [if_neg (by omega), if_pos (by omega), hcut, hx]
          · by_cases e2 : i < k
            · rw [if_pos e2, if_pos (by omega)]
            · rw [if_neg e2, if_neg (by omega)]
        by_cases h0 : x = 0
        · subst h0
          rw [show unit10 0 = 0 from rfl] at hks
          have HA := hid (hA.congr hnew)
          have HF := hid hfr
          have HKS := hid hks
          clear hA hfr hks hcut hkk hx hnew
          go_wp2_with fail
          go_roundg (gk - 1)
          case measure => omega
          case rel => exact ⟨k + 1, by omega, by simp, by rw [HKS.out]; rfl, HA.out, HF.out⟩
        · have h0i : (0 : Int) < x := by omega
          have hub := unit10_le x
          have hx1 : 1 ≤ x := by omega
          have hx10 : x ≤ 10 := by omega
          obtain ⟨u, hu⟩ : ∃ u, u = unit10 x := ⟨_, rfl⟩
          rw [← hu] at hub hks
          obtain ⟨d, hd⟩ : ∃ d, d = 10 - x := ⟨_, rfl⟩
          have hdi : (10 : Int) - x = (d : Int) := by omega
          have hubi : (u : Int) ≤ 1024 := by omega
          have hsh := shl10 (x := x) hx1 hx10
          rw [← hd, ← hu] at hsh
          have HA := hid (hA.congr hnew)
          have HF := hid hfr
          have HKS := hid hks
          clear hA hfr hks hcut hkk hx hnew hu hd
          go_wp2_with fail
          go_roundg (gk - 1)
          case measure => clear hsh; omega
          case rel => clear hsh; exact ⟨k + 1, by omega, by simp, by rw [HKS.out]; rfl, HA.out, HF.out⟩
    · have hki : ¬ (k : Int) < n := by omega
      have hkn : k = n := by omega
      subst hkn
      have HA := hid (hA.congr (h := cutF f) fun i hi => by rw [if_pos hi])
      have HF := hid hfr
      obtain ⟨k0, hk0⟩ : ∃ z, z = kr k (cutF f) := ⟨_, rfl⟩
      rw [← hk0]
      have HK0 := hid hk0
      clear hA hfr hk0
      go_wp2_with fail
      go_loopg [7] (1024 * k) (fun g kv wr => ∃ (fu : Nat) (l : Nat → Nat), kv = .int .i64 ((kr k l : Nat) : Int) ∧ kr k l ≤ 1024 + fu ∧ fu = g ∧ RepOK c k l ∧ dnF c k fu l = dnF c k (1024 * k) (cutF f) ∧ Arr 3 mkN wr lg k l ∧ Fr (One lg) w wr)
      case atStart =>
        have hb := kr_le k (cutF f)
        exact ⟨1024 * k, cutF f, by rw [HK0.out], by omega, rfl, HR.out, rfl, HA.out, HF.out⟩
      case round =>
        obtain ⟨fu, l, rfl, hfu, rfl, hro, heq, hA2, hf2⟩ := hrel
        have hkb := kr_le k l
        have hN := HN.out
        by_cases hgt : 1024 < kr k l
        · have hu9 : usedN c k ≤ 1024 := Nat.le_trans (cntTo_le _ _) (by omega)
          obtain ⟨i, hi1, hi2, hi3, hi4, hi5, hi6, hi7⟩ := dn_ok hro hu9 hgt
          obtain ⟨kk, hkk⟩ : ∃ z, z = kr k l := ⟨_, rfl⟩
          obtain ⟨fu2, rfl⟩ : ∃ f2, fu = f2 + 1 := ⟨fu - 1, by omega⟩
          have hst : dnF c k (fu2 + 1) l = dnF c k fu2 (dnStep c k l) := by rw [dnF, if_pos hgt]
          rw [hst] at heq
          have HQ := hid (pick_any (HC.out.fr hf2 HNE.out) hA2.cel 1 9 true (by omega) HCB.out (by omega) (by omega) (by omega) (ccap := ccap) (lcap := k))
          rw [hi1] at HQ
          have e1 : optI (some i) = (i : Int) := rfl
          rw [e1] at HQ
          have li := hA2.cell i hi2
          have zf : ∀ i, wr.frozen? ⟨lg, i, none⟩ = false := hA2.thaw
          simp only [mkN] at li
          obtain ⟨x, hx⟩ : ∃ x, x = l i := ⟨_, rfl⟩
          rw [← hx] at li hi3 hi4
          have hub := unit10_le (x + 1)
          obtain ⟨u, hu⟩ : ∃ u, u = unit10 (x + 1) := ⟨_, rfl⟩
          rw [← hu] at hub
          have hun : unit10 (x + 1) = 2 ^ (10 - (x + 1)) := by unfold unit10; rw [if_neg (by omega)]
          rw [← hx, ← hun, ← hu, ← hkk] at hi7
          rw [hi5, ← hx] at hi6 hi7 heq
          obtain ⟨kn, hkn⟩ : ∃ z, z = kr k (upd l i (x + 1)) := ⟨_, rfl⟩
          rw [← hkn] at hi7
          obtain ⟨d, hd⟩ : ∃ d, d = 10 - (x + 1) := ⟨_, rfl⟩
          rw [← hkk] at hfu hkb hgt ⊢
          have hki2 : (i : Int) < k := by omega
          have hgti : (1024 : Int) < kk := by omega
          have hkkb : (kk : Int) ≤ 300000 := by omega
          have hxi : (x : Int) ≤ 9 := by omega
          have hdi : (10 : Int) - ((x : Int) + 1) = (d : Int) := by omega
          have hki3 : (kk : Int) - u = (kn : Int) := by omega
          have hpos : 0 < u := by rw [hu, hun]; exact pw_pos _
          have hm2 : kn ≤ 1024 + fu2 := by omega
          have hx1 : 1 ≤ x + 1 := by omega
          have hx10 : x + 1 ≤ 10 := by omega
          have hsh := shl10 (x := x + 1) hx1 hx10
          rw [← hd, ← hu] at hsh
          have HA2 := hid hA2
          have HF2 := hid hf2
          have HRO := hid (And.intro hi6 heq)
          have HKN := hid hkn
          clear hA2 hf2 hro heq hi1 hi2 hi3 hi4 hi5 hi6 hi7 hu hun hd hkn hkk hst e1 hfu hkb hu9 hx hN hgt hx1 hx10 hpos
          go_wp2_with (go_at_call 130; refine HQ.out.mono ?_; rintro e w2 ⟨rfl, nn, hw⟩; have hw2 := hw; subst hw2; clear hw)
          go_roundg fu2
          case measure => exact Nat.lt_succ_self _
          case rel => exact ⟨fu2, _, by rw [HKN.out], by rw [← HKN.out]; exact hm2, rfl, HRO.out.1, HRO.out.2, HA2.out.drewN.set i (x + 1), HF2.out.drewN.set1 _ _⟩
        · have hgti : ¬ (1024 : Int) < (kr k l : Nat) := by omega
          have hlD : l = dnF c k (1024 * k) (cutF f) := by rw [← heq, dnF_stop hgt]
          have hrep : repF c k f = upF c k 1024 l := by unfold repF; rw [← hlD]
          obtain ⟨kk, hkk⟩ : ∃ z, z = kr k l := ⟨_, rfl⟩
          rw [← hkk] at hgti hgt ⊢
          have HA2 := hid hA2
          have HF2 := hid hf2
          have HRO := hid hro
          have HREP := hid hrep
          have HKK := hid hkk
          have HGT := hid hgt
          clear hA2 hf2 hro heq hrep hkk hlD hgt hkb hfu
          go_wp2_with fail
          go_loopg [7] 1024 (fun g kv w9 => ∃ (fu : Nat) (l : Nat → Nat), kv = .int .i64 ((kr k l : Nat) : Int) ∧ 1024 ≤ kr k l + fu ∧ kr k l ≤ 1024 ∧ fu = g ∧ RepOK c k l ∧ upF c k fu l = repF c k f ∧ Arr 3 mkN w9 lg k l ∧ Fr (One lg) w w9)
          case atStart => exact ⟨1024, l, by rw [HKK.out], by omega, by rw [← HKK.out]; have := HGT.out; omega, rfl, HRO.out, HREP.out.symm, HA2.out, HF2.out⟩
          case round =>
            obtain ⟨fu, l2, rfl, hfu, hle, rfl, hro, heq, hA3, hf3⟩ := hrel
            by_cases hgt : kr k l2 < 1024
            · obtain ⟨i, hi1, hi2, hi3, hi4, hi5, hi6, hi7, hi8⟩ := up_ok hro HU.out hgt
              obtain ⟨kk, hkk⟩ : ∃ z, z = kr k l2 := ⟨_, rfl⟩
              obtain ⟨fu2, rfl⟩ : ∃ f2, fu = f2 + 1 := ⟨fu - 1, by omega⟩
              have hst : upF c k (fu2 + 1) l2 = upF c k fu2 (upStep c k l2) := by rw [upF, if_pos hgt]
              rw [hst] at heq
              have HQ := hid (pick_any (HC.out.fr hf3 HNE.out) hA3.cel 2 10 false (by have := HN.out; omega) HCB.out (by omega) (by omega) (by omega) (ccap := ccap) (lcap := k))
              rw [hi1] at HQ
              have e1 : optI (some i) = (i : Int) := rfl
              rw [e1] at HQ
              have li := hA3.cell i hi2
              have zf : ∀ i, wr.frozen? ⟨lg, i, none⟩ = false := hA3.thaw
              simp only [mkN] at li
              obtain ⟨x, hx⟩ : ∃ x, x = l2 i := ⟨_, rfl⟩
              rw [← hx] at li hi3 hi4
              obtain ⟨u, hu⟩ : ∃ u, u = unit10 x := ⟨_, rfl⟩
              have hun : unit10 x = 2 ^ (10 - x) := by unfold unit10; rw [if_neg (by omega)]
              rw [← hx, ← hun, ← hu, ← hkk] at hi7 hi8
              rw [hi5, ← hx] at hi6 hi7 heq
              obtain ⟨kn, hkn⟩ : ∃ z, z = kr k (upd l2 i (x - 1)) := ⟨_, rfl⟩
              rw [← hkn] at hi7
              obtain ⟨d, hd⟩ : ∃ d, d = 10 - x := ⟨_, rfl⟩
              obtain ⟨x1, hx1⟩ : ∃ y, y = x - 1 := ⟨_, rfl⟩
              rw [← hx1] at hi6 heq hkn
              rw [← hkk] at hfu hle hgt ⊢
              have hki2 : (i : Int) < k := by omega
              have hgti2 : (kk : Int) < 1024 := by omega
              have hxi : (x : Int) ≤ 10 := by omega
              have hdi : (10 : Int) - (x : Int) = (d : Int) := by omega
              have hxd : (x : Int) - 1 = (x1 : Int) := by omega
              have hki3 : (kk : Int) + u = (kn : Int) := by omega
              have hpos : 0 < u := by rw [hu, hun]; exact pw_pos _
              have hm2 : 1024 ≤ kn + fu2 := by omega
              have hm3 : kn ≤ 1024 := by omega
              have hy1 : 1 ≤ x := by omega
              have hy10 : x ≤ 10 := by omega
              have hub : (u : Int) ≤ 1024 := by omega
              have hsh := shl10 (x := x) hy1 hy10
              rw [← hd, ← hu] at hsh
              have HA3 := hid hA3
              have HF3 := hid hf3
              have HRO := hid (And.intro hi6 heq)
              have HKN := hid hkn
              clear hA3 hf3 hro heq hi1 hi2 hi3 hi4 hi5 hi6 hi7 hi8 hu hun hd hkn hkk hst e1 hfu hle hx hgt hy1 hy10 hpos hx1
              go_wp2_with (go_at_call 130; refine HQ.out.mono ?_; rintro e w2 ⟨rfl, nn, hw⟩; have hw2 := hw; subst hw2; clear hw)
              go_roundg fu2
              case measure => exact Nat.lt_succ_self _
              case rel => exact ⟨fu2, _, by rw [HKN.out], by rw [← HKN.out]; exact hm2, by rw [← HKN.out]; exact hm3, rfl, HRO.out.1, HRO.out.2, HA3.out.drewN.set i x1, HF3.out.drewN.set1 _ _⟩
            · have hgti2 : ¬ ((kr k l2 : Nat) : Int) < 1024 := by omega
              have hlD : l2 = repF c k f := by rw [← heq, upF_stop hgt]
              have HA3 := hid hA3
              have HF3 := hid hf3
              rw [hlD] at HA3
              obtain ⟨kk, hkk⟩ : ∃ z, z = kr k l2 := ⟨_, rfl⟩
              rw [← hkk] at hgti2 ⊢
              clear hA3 hf3 hro heq hlD hkk hfu hle hgt
              go_wp2_with fail
              go_end0
              exact hK.out _ _ ⟨rfl, HA3.out, HF3.out⟩
end Go.Proofs.Qxb6500353aGreat
