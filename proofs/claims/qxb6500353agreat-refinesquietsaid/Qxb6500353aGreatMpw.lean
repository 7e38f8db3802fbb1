/- The model's choice of a symbol for the repair, walked. -/
import Derived.Test.Qxb6500353aGreatHmw
namespace Go.Proofs.Qxb6500353aGreat
open Go.RowKit
set_option linter.unusedVariables false
set_option linter.unusedSimpArgs false

set_option maxRecDepth 100000 in
set_option maxHeartbeats 8000000 in
theorem pick_any {w : World} {cg co n ccap lg lcap : Nat} {c lens : Nat → Nat} (hc : Cel mkN w cg co n c) (hl : Cel mkN w lg 0 n lens) (lo hi : Nat) (rare : Bool) (hn : n ≤ 1000) (hcb : ∀ i, i < n → c i ≤ 2000000) (hlo : lo ≤ 100) (hhi : hi ≤ 100) (hl1 : 1 ≤ lo) :
    Calls Tryz.prog 130 #[.slice (some ⟨cg, co, none⟩) n ccap, .slice (some ⟨lg, 0, none⟩) n lcap, .int .i64 lo, .int .i64 hi, .bool rare] w fun e w' => e = .returned (.int .i64 (optI (pickF c lens lo hi rare n))) ∧ ∃ q, w' = w.drewN q := by
  have HC := hid hc
  have HL := hid hl
  have HCB := hid hcb
  clear hc hl hcb
  refine calls_via fun K hK => ?_
  go_enter Tryz.func130, Tryz.ntmps130
  go_wp2_with fail
  go_loopg [11, 12] n (fun g bv iv wr => ∃ k q : Nat, g + k = n ∧ iv = .int .i64 (k : Nat) ∧ bv = .int .i64 (optI (pickF c lens lo hi rare k)) ∧ wr = w.drewN q)
  case atStart => exact ⟨0, 0, by omega, rfl, rfl, rfl⟩
  case round =>
    obtain ⟨k, q, hgk, rfl, rfl, rfl⟩ := hrel
    by_cases hlt : k < n
    · have hki : (k : Int) < n := by omega
      have ck : w.cell? ⟨cg, co + k, none⟩ = _ := HC.out k hlt
      have lk : w.cell? ⟨lg, k, none⟩ = _ := HL.out.at0 k hlt
      simp only [mkN] at ck lk
      have hpk : pickF c lens lo hi rare (k + 1) = if lo ≤ lens k ∧ lens k ≤ hi then
          match pickF c lens lo hi rare k with
          | none => some k
          | some b => if lens b < lens k ∨ lens k = lens b ∧ worse c rare k b = true then some k else some b
        else pickF c lens lo hi rare k := rfl
      obtain ⟨x, hx⟩ : ∃ x, x = lens k := ⟨_, rfl⟩
      obtain ⟨y, hy⟩ : ∃ y, y = c k := ⟨_, rfl⟩
      have hyb : (y : Int) ≤ 2000000 := by have := HCB.out k hlt; omega
      rw [← hx] at lk hpk
      rw [← hy] at ck
      cases e : pickF c lens lo hi rare k with
      | none =>
        rw [e] at hpk
        by_cases h1 : lo ≤ x
        · have h1i : (lo : Int) ≤ x := by omega
          by_cases h2 : x ≤ hi
          · have h2i : (x : Int) ≤ hi := by omega
            rw [if_pos ⟨h1, h2⟩] at hpk
            have HP := hid hpk
            clear hpk hx hy e
            simp only [optI]
            go_wp2_with fail
            go_quiet (fail)
            go_wp2_with fail
            go_quiet (fail)
            go_wp2_with fail
            go_roundg (gk - 1)
            case measure => omega
            case rel => exact ⟨k + 1, _, by omega, by simp, by first | (rw [HP.out]; done) | (rw [HP.out]; rfl), by first | rfl | (repeat rw [World.drewN_drewN])⟩
          · have h2i : ¬ (x : Int) ≤ hi := by omega
            rw [if_neg (fun hh => h2 hh.2)] at hpk
            have HP := hid hpk
            clear hpk hx hy e
            simp only [optI]
            go_wp2_with fail
            go_roundg (gk - 1)
            case measure => omega
            case rel => exact ⟨k + 1, _, by omega, by simp, by first | (rw [HP.out]; done) | (rw [HP.out]; rfl), by first | rfl | (repeat rw [World.drewN_drewN])⟩
        · have h1i : ¬ (lo : Int) ≤ x := by omega
          rw [if_neg (fun hh => h1 hh.1)] at hpk
          have HP := hid hpk
          clear hpk hx hy e
          simp only [optI]
          go_wp2_with fail
          go_roundg (gk - 1)
          case measure => omega
          case rel => exact ⟨k + 1, _, by omega, by simp, by first | (rw [HP.out]; done) | (rw [HP.out]; rfl), by first | rfl | (repeat rw [World.drewN_drewN])⟩
      | some b =>
        rw [e] at hpk
        have hbn := (pickF_some e).1
        have lb : w.cell? ⟨lg, b, none⟩ = _ := HL.out.at0 b (by omega)
        have cb : w.cell? ⟨cg, co + b, none⟩ = _ := HC.out b (by omega)
        simp only [mkN] at lb cb
        have hww : worse c rare k b = if rare then decide (c k < c b) else decide (c b < c k) := rfl
        rw [← hy] at hww
        obtain ⟨x2, hx2⟩ : ∃ x, x = lens b := ⟨_, rfl⟩
        obtain ⟨y2, hy2⟩ : ∃ y, y = c b := ⟨_, rfl⟩
        have hyb2 : (y2 : Int) ≤ 2000000 := by have := HCB.out b (by omega); omega
        rw [← hx2] at lb
        rw [← hy2] at cb hww
        have hbi : (b : Int) < n := by omega
        have hb0 : ¬ (b : Int) < 0 := by omega
        have hd0 : decide ((b : Int) < 0) = false := decide_eq_false hb0
        dsimp only at hpk
        rw [← hx2] at hpk
        by_cases h1 : lo ≤ x
        · have h1i : (lo : Int) ≤ x := by omega
          by_cases h2 : x ≤ hi
          · have h2i : (x : Int) ≤ hi := by omega
            rw [if_pos ⟨h1, h2⟩] at hpk
            by_cases h3 : x2 < x
            · have h3i : (x2 : Int) < x := by omega
              have h3d : decide ((x2 : Int) < x) = true := decide_eq_true h3i
              have h4i : ((x : Int) == x2) = false := by simp; omega
              rw [if_pos (.inl h3)] at hpk
              have HP := hid hpk
              clear hpk hx hy hww e hx2 hy2
              simp only [optI]
              go_wp2_with fail
              go_quiet (fail)
              go_wp2_with fail
              go_quiet (fail)
              go_wp2_with fail
              go_roundg (gk - 1)
              case measure => omega
              case rel => exact ⟨k + 1, _, by omega, by simp, by first | (rw [HP.out]; done) | (rw [HP.out]; rfl), by first | rfl | (repeat rw [World.drewN_drewN])⟩
            · have h3i : ¬ (x2 : Int) < x := by omega
              have h3d : decide ((x2 : Int) < x) = false := decide_eq_false h3i
              by_cases h4 : x = x2
              · have h4i : ((x : Int) == x2) = true := by simp [h4]
                cases rare with
                | true =>
                  by_cases h5 : y < y2
                  · have h5i : (y : Int) < y2 := by omega
                    have h5d : decide ((y : Int) < y2) = true := decide_eq_true h5i
                    rw [if_pos (.inr ⟨h4, by rw [hww, if_pos rfl]; exact decide_eq_true h5⟩)] at hpk
                    have HP := hid hpk
                    clear hpk hx hy hww e hx2 hy2
                    simp only [optI]
                    go_wp2_with fail
                    go_quiet (fail)
                    go_wp2_with fail
                    go_quiet (fail)
                    go_wp2_with fail
                    go_quiet (fail)
                    go_wp2_with fail
                    go_roundg (gk - 1)
                    case measure => omega
                    case rel => exact ⟨k + 1, _, by omega, by simp, by first | (rw [HP.out]; done) | (rw [HP.out]; rfl), by first | rfl | (repeat rw [World.drewN_drewN])⟩
                  · have h5i : ¬ (y : Int) < y2 := by omega
                    have h5d : decide ((y : Int) < y2) = false := decide_eq_false h5i
                    rw [if_neg (fun hh => hh.elim h3 (fun q => h5 (by have h6 := q.2; rw [hww, if_pos rfl] at h6; exact of_decide_eq_true h6)))] at hpk
                    have HP := hid hpk
                    clear hpk hx hy hww e hx2 hy2
                    simp only [optI]
                    go_wp2_with fail
                    go_quiet (fail)
                    go_wp2_with fail
                    go_quiet (fail)
                    go_wp2_with fail
                    go_quiet (fail)
                    go_wp2_with fail
                    go_roundg (gk - 1)
                    case measure => omega
                    case rel => exact ⟨k + 1, _, by omega, by simp, by first | (rw [HP.out]; done) | (rw [HP.out]; rfl), by first | rfl | (repeat rw [World.drewN_drewN])⟩
                | false =>
                  by_cases h5 : y2 < y
                  · have h5i : (y2 : Int) < y := by omega
                    have h5d : decide ((y2 : Int) < y) = true := decide_eq_true h5i
                    rw [if_pos (.inr ⟨h4, by rw [hww, if_neg (by simp)]; exact decide_eq_true h5⟩)] at hpk
                    have HP := hid hpk
                    clear hpk hx hy hww e hx2 hy2
                    simp only [optI]
                    go_wp2_with fail
                    go_quiet (fail)
                    go_wp2_with fail
                    go_quiet (fail)
                    go_wp2_with fail
                    go_quiet (fail)
                    go_wp2_with fail
                    go_roundg (gk - 1)
                    case measure => omega
                    case rel => exact ⟨k + 1, _, by omega, by simp, by first | (rw [HP.out]; done) | (rw [HP.out]; rfl), by first | rfl | (repeat rw [World.drewN_drewN])⟩
                  · have h5i : ¬ (y2 : Int) < y := by omega
                    have h5d : decide ((y2 : Int) < y) = false := decide_eq_false h5i
                    rw [if_neg (fun hh => hh.elim h3 (fun q => h5 (by have h6 := q.2; rw [hww, if_neg (by simp)] at h6; exact of_decide_eq_true h6)))] at hpk
                    have HP := hid hpk
                    clear hpk hx hy hww e hx2 hy2
                    simp only [optI]
                    go_wp2_with fail
                    go_quiet (fail)
                    go_wp2_with fail
                    go_quiet (fail)
                    go_wp2_with fail
                    go_quiet (fail)
                    go_wp2_with fail
                    go_roundg (gk - 1)
                    case measure => omega
                    case rel => exact ⟨k + 1, _, by omega, by simp, by first | (rw [HP.out]; done) | (rw [HP.out]; rfl), by first | rfl | (repeat rw [World.drewN_drewN])⟩
              · have h4i : ((x : Int) == x2) = false := by simp; omega
                rw [if_neg (fun hh => hh.elim h3 (fun q => h4 q.1))] at hpk
                have HP := hid hpk
                clear hpk hx hy hww e hx2 hy2
                simp only [optI]
                go_wp2_with fail
                go_quiet (fail)
                go_wp2_with fail
                go_quiet (fail)
                go_wp2_with fail
                go_roundg (gk - 1)
                case measure => omega
                case rel => exact ⟨k + 1, _, by omega, by simp, by first | (rw [HP.out]; done) | (rw [HP.out]; rfl), by first | rfl | (repeat rw [World.drewN_drewN])⟩
          · have h2i : ¬ (x : Int) ≤ hi := by omega
            rw [if_neg (fun hh => h2 hh.2)] at hpk
            have HP := hid hpk
            clear hpk hx hy hww e hx2 hy2
            simp only [optI]
            go_wp2_with fail
            go_roundg (gk - 1)
            case measure => omega
            case rel => exact ⟨k + 1, _, by omega, by simp, by first | (rw [HP.out]; done) | (rw [HP.out]; rfl), by first | rfl | (repeat rw [World.drewN_drewN])⟩
        · have h1i : ¬ (lo : Int) ≤ x := by omega
          rw [if_neg (fun hh => h1 hh.1)] at hpk
          have HP := hid hpk
          clear hpk hx hy hww e hx2 hy2
          simp only [optI]
          go_wp2_with fail
          go_roundg (gk - 1)
          case measure => omega
          case rel => exact ⟨k + 1, _, by omega, by simp, by first | (rw [HP.out]; done) | (rw [HP.out]; rfl), by first | rfl | (repeat rw [World.drewN_drewN])⟩
    · have hki : ¬ (k : Int) < n := by omega
      have hkn : k = n := by omega
      subst hkn
      go_wp2_with fail
      exact hK.out _ _ ⟨rfl, _, rfl⟩
end Go.Proofs.Qxb6500353aGreat
