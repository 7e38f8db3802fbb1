/- The model coder: New, CheckLens, walked. -/
import Derived.Test.Qxb6500353aGreatHmw
import Derived.Test.Qxb6500353aGreatCpw
import Derived.Deep.DeepCutAuto
import Derived.Deep.Cut
namespace Go.Proofs.Qxb6500353aGreat
open Go.RowKit
set_option linter.unusedVariables false
set_option linter.unusedSimpArgs false

/-- The model's coder at block b, with its two rows. -/
structure McR (w : World) (b g1 g2 : Nat) (l : List Nat) : Prop where
  p1 : w.cell? ⟨b, 0, none⟩ = some (.slice (some ⟨g1, 0, none⟩) l.length l.length)
  p2 : w.cell? ⟨b, 1, none⟩ = some (.slice (some ⟨g2, 0, none⟩) l.length l.length)
  a1 : Arr 3 mkN w g1 l.length (len l)
  a2 : Arr 3 mkN w g2 l.length (code l)
theorem McR.fr {S : Nat → Prop} {w w2 : World} {b g1 g2 : Nat} {l : List Nat} (h : McR w b g1 g2 l) (hf : Fr S w w2) (hb : ¬ S b) (h1 : ¬ S g1) (h2 : ¬ S g2) : McR w2 b g1 g2 l :=
  ⟨hf.cell h.p1 hb, hf.cell h.p2 hb, h.a1.fr hf h1, h.a2.fr hf h2⟩
theorem newHm_any (w : World) : Calls Tryz.prog 26 #[] w fun e w' => e = .returned (ptrV w.heap.size) ∧ w'.cell? ⟨w.heap.size, 0, none⟩ = some (.slice none 0 0) ∧ w'.cell? ⟨w.heap.size, 1, none⟩ = some (.slice none 0 0) ∧ Thaw w' w.heap.size ∧ w'.heap.size = w.heap.size + 1 ∧ Fr Nob w w' := by
  have hp := Part.start w _ rfl [.slice none 0 0, .slice none 0 0] 104
  have HP := hid hp
  clear hp
  refine calls_via fun K hK => ?_
  go_enter Tryz.func26, Tryz.ntmps26
  go_wp2_with fail
  exact hK.out _ _ ⟨rfl, HP.out.cells 0 (by decide), HP.out.cells 1 (by decide), HP.out.fz, HP.out.size, HP.out.fr⟩
set_option maxRecDepth 100000 in
set_option maxHeartbeats 2000000 in
theorem checkLens_any {w : World} {lg lo cap : Nat} {l : List Nat} (hc : Cel mkN w lg lo l.length (len l)) (hle : ∀ x ∈ l, x ≤ 10) (hn : l.length ≤ 265) :
    Calls Tryz.prog 131 #[.slice (some ⟨lg, lo, none⟩) l.length cap] w fun e w' => e = .returned (.int .i64 (buildE l : Nat)) ∧ w' = w := by
  have HC := hid hc
  have HLE := hid (len_le_of hle)
  have hkk := kraft_kr l
  have hul : usedL l = usedN (len l) l.length := rfl
  have hbe : buildE l = if 1024 < kraft l then 6 else if kraft l < 1024 ∧ 0 < usedL l ∧ (1 < usedL l ∨ kraft l ≠ 512) then 7 else 0 := rfl
  have HK := hid (kraftm_any (cg := lg) (co := lo) (ccap := cap) hc (by omega) (fun i _ => len_le_of hle i))
  have HU := hid (used_any (cg := lg) (co := lo) (ccap := cap) hc (by omega) (fun i _ => by have := len_le_of hle i; omega))
  have hkb := kr_le l.length (len l)
  have hub : usedL l ≤ l.length := by have := used_count l; omega
  rw [← hkk] at HK hkb
  rw [← hul] at HU
  obtain ⟨n, hnn⟩ : ∃ n, n = l.length := ⟨_, rfl⟩
  obtain ⟨k, hk⟩ : ∃ k, k = kraft l := ⟨_, rfl⟩
  obtain ⟨u, hu⟩ : ∃ u, u = usedL l := ⟨_, rfl⟩
  rw [← hnn] at HC HK HU hn hkb hub ⊢
  rw [← hk] at HK hbe hkb
  rw [← hu] at HU hbe hub
  have hni : (n : Int) ≤ 265 := by omega
  have hki : (k : Int) ≤ 271360 := by omega
  have hui : (u : Int) ≤ 265 := by omega
  have HBE := hid hbe
  clear hc hle hkk hul hbe hkb hub hnn hk hu
  refine calls_via fun K hK => ?_
  go_enter Tryz.func131, Tryz.ntmps131
  go_wp2_with fail
  go_loopg [3] n (fun g iv wr => ∃ j : Nat, g + j = n ∧ iv = .int .i64 (j : Nat) ∧ wr = w)
  case atStart => exact ⟨0, by omega, rfl, rfl⟩
  case round =>
    obtain ⟨j, hgj, rfl, rfl⟩ := hrel
    by_cases hlt : j < n
    · have hji : (j : Int) < n := by omega
      have x := HC.out j hlt
      simp only [mkN] at x
      have h10 := HLE.out j
      obtain ⟨y, hy⟩ : ∃ y, y = len l j := ⟨_, rfl⟩
      rw [← hy] at x h10
      have h1 : ¬ (10 : Int) < y := by omega
      have h2 : ¬ (y : Int) < 0 := by omega
      clear hy
      go_wp2_with fail
      go_roundg (gk - 1)
      case measure => omega
      case rel => exact ⟨j + 1, by omega, by simp, rfl⟩
    · have hji : ¬ (j : Int) < n := by omega
      have hj : j = n := by omega
      subst hj
      have hb0 := HBE.out
      by_cases t1 : 1024 < k
      · have t1i : (1024 : Int) < k := by omega
        rw [if_pos t1] at hb0
        have HB0 := hid hb0
        clear hb0
        go_wp2_with (first | (go_at_call 159; refine HK.out.mono ?_; rintro e w2 ⟨rfl, hw⟩; have hw2 := hw.symm; subst hw2; clear hw) | (go_at_call 97; refine HU.out.mono ?_; rintro e w2 ⟨rfl, hw⟩; have hw2 := hw.symm; subst hw2; clear hw))
        exact hK.out _ _ ⟨by rw [HB0.out]; rfl, rfl⟩
      · have t1i : ¬ (1024 : Int) < k := by omega
        rw [if_neg t1] at hb0
        by_cases t2 : k < 1024
        · have t2i : (k : Int) < 1024 := by omega
          by_cases t3 : 0 < u
          · have t3i : (0 : Int) < u := by omega
            by_cases t4 : 1 < u
            · have t4i : (1 : Int) < u := by omega
              rw [if_pos ⟨t2, t3, .inl t4⟩] at hb0
              have HB0 := hid hb0
              clear hb0
              go_wp2_with (first | (go_at_call 159; refine HK.out.mono ?_; rintro e w2 ⟨rfl, hw⟩; have hw2 := hw.symm; subst hw2; clear hw) | (go_at_call 97; refine HU.out.mono ?_; rintro e w2 ⟨rfl, hw⟩; have hw2 := hw.symm; subst hw2; clear hw))
              exact hK.out _ _ ⟨by rw [HB0.out]; rfl, rfl⟩
            · have t4i : ¬ (1 : Int) < u := by omega
              by_cases t5 : k = 512
              · subst t5
                rw [if_neg (fun h => by have := h.2.2; omega)] at hb0
                have HB0 := hid hb0
                clear hb0
                go_wp2_with (first | (go_at_call 159; refine HK.out.mono ?_; rintro e w2 ⟨rfl, hw⟩; have hw2 := hw.symm; subst hw2; clear hw) | (go_at_call 97; refine HU.out.mono ?_; rintro e w2 ⟨rfl, hw⟩; have hw2 := hw.symm; subst hw2; clear hw))
                exact hK.out _ _ ⟨by rw [HB0.out]; rfl, rfl⟩
              · have t5i : ((k : Int) != 512) = true := by simp; omega
                rw [if_pos ⟨t2, t3, .inr t5⟩] at hb0
                have HB0 := hid hb0
                clear hb0
                go_wp2_with (first | (go_at_call 159; refine HK.out.mono ?_; rintro e w2 ⟨rfl, hw⟩; have hw2 := hw.symm; subst hw2; clear hw) | (go_at_call 97; refine HU.out.mono ?_; rintro e w2 ⟨rfl, hw⟩; have hw2 := hw.symm; subst hw2; clear hw))
                exact hK.out _ _ ⟨by rw [HB0.out]; rfl, rfl⟩
          · have t3i : ¬ (0 : Int) < u := by omega
            rw [if_neg (fun h => t3 h.2.1)] at hb0
            have HB0 := hid hb0
            clear hb0
            go_wp2_with (first | (go_at_call 159; refine HK.out.mono ?_; rintro e w2 ⟨rfl, hw⟩; have hw2 := hw.symm; subst hw2; clear hw) | (go_at_call 97; refine HU.out.mono ?_; rintro e w2 ⟨rfl, hw⟩; have hw2 := hw.symm; subst hw2; clear hw))
            exact hK.out _ _ ⟨by rw [HB0.out]; rfl, rfl⟩
        · have t2i : ¬ (k : Int) < 1024 := by omega
          rw [if_neg (fun h => t2 h.1)] at hb0
          have HB0 := hid hb0
          clear hb0
          go_wp2_with (first | (go_at_call 159; refine HK.out.mono ?_; rintro e w2 ⟨rfl, hw⟩; have hw2 := hw.symm; subst hw2; clear hw) | (go_at_call 97; refine HU.out.mono ?_; rintro e w2 ⟨rfl, hw⟩; have hw2 := hw.symm; subst hw2; clear hw))
          exact hK.out _ _ ⟨by rw [HB0.out]; rfl, rfl⟩
end Go.Proofs.Qxb6500353aGreat
