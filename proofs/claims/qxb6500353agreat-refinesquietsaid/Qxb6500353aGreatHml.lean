/- The model's search of the least group, walked. -/
import Derived.Test.Qxb6500353aGreatHmw
namespace Go.Proofs.Qxb6500353aGreat
open Go.RowKit
set_option linter.unusedVariables false
set_option linter.unusedSimpArgs false

set_option maxRecDepth 100000 in
set_option maxHeartbeats 8000000 in
theorem least_any {w : World} {ag bg n acap bcap : Nat} {f h : Nat → Nat} (ha : Cel mkN w ag 0 n f) (hb : Cel mkN w bg 0 n h) (no : Option Nat) (hn : n ≤ 1000) (hfb : ∀ i, i < n → f i ≤ 1000000000) (hhb : ∀ i, i < n → h i ≤ 1000000) (hno : ∀ b, no = some b → b < n) :
    Calls Tryz.prog 129 #[.slice (some ⟨ag, 0, none⟩) n acap, .slice (some ⟨bg, 0, none⟩) n bcap, .int .i64 (optI no)] w fun e w' => e = .returned (.int .i64 (optI (leastF f h no n))) ∧ ∃ q, w' = w.drewN q := by
  have HA := hid ha
  have HB := hid hb
  have HFB := hid hfb
  have HHB := hid hhb
  have hnr : -1 ≤ optI no ∧ optI no < n := by
    cases e : no with
    | none => exact ⟨by decide, by simp only [optI]; omega⟩
    | some b => have := hno b e; exact ⟨by simp only [optI]; omega, by simp only [optI]; omega⟩
  have hne : ∀ k : Nat, ((k : Int) = optI no ↔ some k = no) := by
    intro k
    cases no with
    | none => simp only [optI]; constructor
              · intro h; omega
              · intro h; simp at h
    | some b => simp only [optI, Option.some.injEq]; omega
  obtain ⟨z, hz⟩ : ∃ z, z = optI no := ⟨_, rfl⟩
  rw [← hz] at hnr hne ⊢
  have hz1 := hnr.1
  have hz2 := hnr.2
  have HNE := hid hne
  clear ha hb hfb hhb hno hnr hne hz
  have hni : (n : Int) ≤ 1000 := by omega
  refine calls_via fun K hK => ?_
  go_enter Tryz.func129, Tryz.ntmps129
  go_wp2_with fail
  go_loopg [7, 8] n (fun g bv iv wr => ∃ k q : Nat, g + k = n ∧ iv = .int .i64 (k : Nat) ∧ bv = .int .i64 (optI (leastF f h no k)) ∧ wr = w.drewN q)
  case atStart => exact ⟨0, 0, by omega, rfl, rfl, rfl⟩
  case round =>
    obtain ⟨k, q, hgk, rfl, rfl, rfl⟩ := hrel
    by_cases hlt : k < n
    · have hki : (k : Int) < n := by omega
      have ck : w.cell? ⟨ag, k, none⟩ = _ := HA.out.at0 k hlt
      have lk : w.cell? ⟨bg, k, none⟩ = _ := HB.out.at0 k hlt
      simp only [mkN] at ck lk
      have hpk : leastF f h no (k + 1) = if 0 < f k ∧ some k ≠ no then
          match leastF f h no k with
          | none => some k
          | some b => if gless f h k b then some k else some b
        else leastF f h no k := rfl
      have hb1 := HFB.out k hlt
      have hb2 := HHB.out k hlt
      have hne := HNE.out k
      obtain ⟨x, hx⟩ : ∃ x, x = f k := ⟨_, rfl⟩
      obtain ⟨y, hy⟩ : ∃ y, y = h k := ⟨_, rfl⟩
      rw [← hx] at ck hpk hb1
      rw [← hy] at lk hb2
      have hxi : (x : Int) ≤ 1000000000 := by omega
      have hyi : (y : Int) ≤ 1000000 := by omega
      by_cases h0 : 0 < x
      · have h0i : (0 : Int) < x := by omega
        by_cases h1 : some k = no
        · have h1i : ((k : Int) == z) = true := by simp [hne.2 h1]
          rw [if_neg (fun hh => hh.2 h1)] at hpk
          have HP := hid hpk
          clear hpk hx hy hne h1
          go_wp2_with fail
          go_roundg (gk - 1)
          case measure => omega
          case rel => exact ⟨k + 1, _, by omega, by simp, by first | (rw [HP.out]; done) | (rw [HP.out]; rfl), by first | rfl | (repeat rw [World.drewN_drewN])⟩
        · have h1i : ((k : Int) == z) = false := by simp; exact fun h => h1 (hne.1 h)
          rw [if_pos ⟨h0, h1⟩] at hpk
          cases e : leastF f h no k with
          | none =>
            rw [e] at hpk
            have HP := hid hpk
            clear hpk hx hy hne h1 e
            simp only [optI]
            go_wp2_with fail
            go_quiet (fail)
            go_wp2_with fail
            go_roundg (gk - 1)
            case measure => omega
            case rel => exact ⟨k + 1, _, by omega, by simp, by first | (rw [HP.out]; done) | (rw [HP.out]; rfl), by first | rfl | (repeat rw [World.drewN_drewN])⟩
          | some b =>
            rw [e] at hpk
            dsimp only at hpk
            have hbk := (leastF_some e).1
            have cb : w.cell? ⟨ag, b, none⟩ = _ := HA.out.at0 b (by omega)
            have lb : w.cell? ⟨bg, b, none⟩ = _ := HB.out.at0 b (by omega)
            simp only [mkN] at cb lb
            have hb3 := HFB.out b (by omega)
            have hb4 := HHB.out b (by omega)
            have hgl : gless f h k b ↔ x < f b ∨ x = f b ∧ y < h b := by unfold gless; rw [hx, hy]
            obtain ⟨x2, hx2⟩ : ∃ x, x = f b := ⟨_, rfl⟩
            obtain ⟨y2, hy2⟩ : ∃ y, y = h b := ⟨_, rfl⟩
            rw [← hx2] at cb hgl hb3
            rw [← hy2] at lb hgl hb4
            have hbi : (b : Int) < n := by omega
            have hb0 : ¬ (b : Int) < 0 := by omega
            have hd0 : decide ((b : Int) < 0) = false := decide_eq_false hb0
            have hx2i : (x2 : Int) ≤ 1000000000 := by omega
            have hy2i : (y2 : Int) ≤ 1000000 := by omega
            by_cases h3 : x < x2
            · have h3i : (x : Int) < x2 := by omega
              have h3d : decide ((x : Int) < x2) = true := decide_eq_true h3i
              rw [if_pos (hgl.2 (.inl h3))] at hpk
              have HP := hid hpk
              clear hpk hx hy hne h1 e hgl hx2 hy2
              simp only [optI]
              go_wp2_with fail
              go_quiet (fail)
              go_wp2_with fail
              go_roundg (gk - 1)
              case measure => omega
              case rel => exact ⟨k + 1, _, by omega, by simp, by first | (rw [HP.out]; done) | (rw [HP.out]; rfl), by first | rfl | (repeat rw [World.drewN_drewN])⟩
            · have h3i : ¬ (x : Int) < x2 := by omega
              have h3d : decide ((x : Int) < x2) = false := decide_eq_false h3i
              by_cases h4 : x = x2
              · have h4i : ((x : Int) == x2) = true := by simp [h4]
                by_cases h5 : y < y2
                · have h5i : (y : Int) < y2 := by omega
                  have h5d : decide ((y : Int) < y2) = true := decide_eq_true h5i
                  rw [if_pos (hgl.2 (.inr ⟨h4, h5⟩))] at hpk
                  have HP := hid hpk
                  clear hpk hx hy hne h1 e hgl hx2 hy2
                  simp only [optI]
                  go_wp2_with fail
                  go_quiet (fail)
                  go_wp2_with fail
                  go_roundg (gk - 1)
                  case measure => omega
                  case rel => exact ⟨k + 1, _, by omega, by simp, by first | (rw [HP.out]; done) | (rw [HP.out]; rfl), by first | rfl | (repeat rw [World.drewN_drewN])⟩
                · have h5i : ¬ (y : Int) < y2 := by omega
                  have h5d : decide ((y : Int) < y2) = false := decide_eq_false h5i
                  rw [if_neg (fun hh => (hgl.1 hh).elim h3 (fun q => h5 q.2))] at hpk
                  have HP := hid hpk
                  clear hpk hx hy hne h1 e hgl hx2 hy2
                  simp only [optI]
                  go_wp2_with fail
                  go_quiet (fail)
                  go_wp2_with fail
                  go_roundg (gk - 1)
                  case measure => omega
                  case rel => exact ⟨k + 1, _, by omega, by simp, by first | (rw [HP.out]; done) | (rw [HP.out]; rfl), by first | rfl | (repeat rw [World.drewN_drewN])⟩
              · have h4i : ((x : Int) == x2) = false := by simp; omega
                rw [if_neg (fun hh => (hgl.1 hh).elim h3 (fun q => h4 q.1))] at hpk
                have HP := hid hpk
                clear hpk hx hy hne h1 e hgl hx2 hy2
                simp only [optI]
                go_wp2_with fail
                go_quiet (fail)
                go_wp2_with fail
                go_roundg (gk - 1)
                case measure => omega
                case rel => exact ⟨k + 1, _, by omega, by simp, by first | (rw [HP.out]; done) | (rw [HP.out]; rfl), by first | rfl | (repeat rw [World.drewN_drewN])⟩
      · have h0i : ¬ (0 : Int) < x := by omega
        rw [if_neg (fun hh => h0 hh.1)] at hpk
        have HP := hid hpk
        clear hpk hx hy hne
        go_wp2_with fail
        go_roundg (gk - 1)
        case measure => omega
        case rel => exact ⟨k + 1, _, by omega, by simp, by first | (rw [HP.out]; done) | (rw [HP.out]; rfl), by first | rfl | (repeat rw [World.drewN_drewN])⟩
    · have hki : ¬ (k : Int) < n := by omega
      have hk : k = n := by omega
      subst hk
      go_wp2_with fail
      exact hK.out _ _ ⟨rfl, _, rfl⟩
end Go.Proofs.Qxb6500353aGreat
