/- The law: Untouched, walked. -/
import Derived.Test.Qxb6500353aGreatDsk
namespace Go.Proofs.Qxb6500353aGreat
open Go.RowKit
set_option linter.unusedVariables false
set_option linter.unusedSimpArgs false

set_option maxRecDepth 100000 in
set_option maxHeartbeats 16000000 in
theorem untouched_any {w : World} {b : Nat} {R : DkR} {D : Nat → Prop} (h : DkAt w b R) (hoe : ∀ i, i < 4 → StE w b D (R.oe i)) (hoi : ∀ i, i < 4 → StI w b D (R.oi i)) (hfe : StE w b D R.fe) (hfi : StI w b D R.fi) (hhe : StE w b D R.he) (hhi : StI w b D R.hi) (hhl : StE w b D R.hl) :
    Calls Tryz.prog 51 #[ptrV b] w fun e w' => e = .returned (.bool true) ∧ w' = w := by
  have H := hid h
  have HOE := hid hoe
  have HOI := hid hoi
  have HFE := hid hfe
  have HFI := hid hfi
  have HHE := hid hhe
  have HHI := hid hhi
  have HHL := hid hhl
  clear h hoe hoi hfe hfi hhe hhi hhl
  refine calls_via fun K hK => ?_
  unfold ptrV
  go_enter Tryz.func51, Tryz.ntmps51
  go_wp2_with fail
  go_loopg [3] 4 (fun gk i wr => ∃ k : Nat, i = .int .i64 (k : Nat) ∧ gk + k = 4 ∧ wr = w)
  case atStart => exact ⟨0, rfl, by omega, rfl⟩
  case round =>
    obtain ⟨k, rfl, hg, hww⟩ := hrel
    have hww2 := hww.symm
    subst hww2
    clear hww
    by_cases hk : k < 4
    · have hki : (k : Int) < 4 := by omega
      have HKK := hid hk
      obtain ⟨gO, hgO⟩ : ∃ z, z = gk := ⟨_, rfl⟩
      rw [← hgO] at hg
      have HGG := hid hgO
      have HG := hid hg
      clear hg hk hgO
      go_wp2_with fail
      obtain ⟨ad, n, cap, hv, hn, hcs⟩ := HOE.out k HKK.out
      have d0 := H.out.oe HKK.out
      rw [hv] at d0
      have HCS := hid hcs
      have hni : (n : Int) ≤ 1000 := by omega
      clear hv hn hcs
      go_loopg [4] n (fun gk i wr => ∃ j : Nat, i = .int .i64 (j : Nat) ∧ gk + j = n ∧ wr = w)
      case atStart => exact ⟨0, rfl, by omega, rfl⟩
      case round =>
        obtain ⟨j, rfl, hg, hww⟩ := hrel
        have hww2 := hww.symm
        subst hww2
        clear hww
        by_cases hj : j < n
        · have hji : (j : Int) < n := by omega
          have hj4 : (j : Int) < 1000 := by omega
          rcases HCS.out with hc0 | ⟨g, rfl, hbg, hgl, hdg, hcl⟩
          · omega
          have x0 : w.cell? ⟨g, j * 2, none⟩ = some (.string ⟨#[33]⟩) := hcl.at0 (j * 2) (by omega)
          have x1 : w.cell? ⟨g, j * 2 + 1, none⟩ = some (.string ⟨#[33]⟩) := hcl.at0 (j * 2 + 1) (by omega)
          have HG := hid hg
          clear hg hj hcl hbg hgl hdg
          go_wp2_with fail
          go_roundg (gk - 1)
          case measure => have := HG.out; omega
          case rel => exact ⟨j + 1, by simp, by have := HG.out; omega, rfl⟩
        · have hji : ¬ (j : Int) < n := by omega
          have hjn : j = n := by omega
          subst hjn
          clear hg hj HCS
          go_wp2_with fail
          clear d0 hni hji
          obtain ⟨ad, n, cap, hv, hn, hcs⟩ := HOI.out k HKK.out
          have d0 := H.out.oi HKK.out
          rw [hv] at d0
          have HCS := hid hcs
          have hni : (n : Int) ≤ 1000 := by omega
          clear hv hn hcs
          go_loopg [5] n (fun gk i wr => ∃ j : Nat, i = .int .i64 (j : Nat) ∧ gk + j = n ∧ wr = w)
          case atStart => exact ⟨0, rfl, by omega, rfl⟩
          case round =>
            obtain ⟨j, rfl, hg, hww⟩ := hrel
            have hww2 := hww.symm
            subst hww2
            clear hww
            by_cases hj : j < n
            · have hji : (j : Int) < n := by omega
              have hj4 : (j : Int) < 1000 := by omega
              rcases HCS.out with hc0 | ⟨g, rfl, hbg, hgl, hdg, hcl⟩
              · omega
              have x0 : w.cell? ⟨g, j * 3, none⟩ = some (.string ⟨#[33]⟩) := (hcl.at0 (j * 3) (by omega)).trans (by unfold mkV bangI; rw [if_pos (by omega)])
              have x1 : w.cell? ⟨g, j * 3 + 1, none⟩ = some (.int .i64 (-7)) := (hcl.at0 (j * 3 + 1) (by omega)).trans (by unfold mkV bangI; rw [if_neg (by omega)])
              have x2 : w.cell? ⟨g, j * 3 + 2, none⟩ = some (.int .i64 (-7)) := (hcl.at0 (j * 3 + 2) (by omega)).trans (by unfold mkV bangI; rw [if_neg (by omega)])
              have HG := hid hg
              clear hg hj hcl hbg hgl hdg
              go_wp2_with fail
              go_roundg (gk - 1)
              case measure => have := HG.out; omega
              case rel => exact ⟨j + 1, by simp, by have := HG.out; omega, rfl⟩
            · have hji : ¬ (j : Int) < n := by omega
              have hjn : j = n := by omega
              subst hjn
              clear hg hj HCS
              go_wp2_with fail
              clear d0 hni hji
              go_roundg (gO - 1)
              case measure => have := HG.out; have := HGG.out; omega
              case rel => exact ⟨k + 1, by simp, by have := HG.out; omega, rfl⟩
    · have hki : ¬ (k : Int) < 4 := by omega
      clear hg hk
      go_wp2_with fail
      obtain ⟨ad, n, cap, hv, hn, hcs⟩ := HFE.out
      have d0 := H.out.c 18 _ rfl
      rw [hv] at d0
      have HCS := hid hcs
      have hni : (n : Int) ≤ 1000 := by omega
      clear hv hn hcs
      go_loopg [6] n (fun gk i wr => ∃ j : Nat, i = .int .i64 (j : Nat) ∧ gk + j = n ∧ wr = w)
      case atStart => exact ⟨0, rfl, by omega, rfl⟩
      case round =>
        obtain ⟨j, rfl, hg, hww⟩ := hrel
        have hww2 := hww.symm
        subst hww2
        clear hww
        by_cases hj : j < n
        · have hji : (j : Int) < n := by omega
          have hj4 : (j : Int) < 1000 := by omega
          rcases HCS.out with hc0 | ⟨g, rfl, hbg, hgl, hdg, hcl⟩
          · omega
          have x0 : w.cell? ⟨g, j * 2, none⟩ = some (.string ⟨#[33]⟩) := hcl.at0 (j * 2) (by omega)
          have x1 : w.cell? ⟨g, j * 2 + 1, none⟩ = some (.string ⟨#[33]⟩) := hcl.at0 (j * 2 + 1) (by omega)
          have HG := hid hg
          clear hg hj hcl hbg hgl hdg
          go_wp2_with fail
          go_roundg (gk - 1)
          case measure => have := HG.out; omega
          case rel => exact ⟨j + 1, by simp, by have := HG.out; omega, rfl⟩
        · have hji : ¬ (j : Int) < n := by omega
          have hjn : j = n := by omega
          subst hjn
          clear hg hj HCS
          go_wp2_with fail
          clear d0 hni hji
          obtain ⟨ad, n, cap, hv, hn, hcs⟩ := HFI.out
          have d0 := H.out.c 19 _ rfl
          rw [hv] at d0
          have HCS := hid hcs
          have hni : (n : Int) ≤ 1000 := by omega
          clear hv hn hcs
          go_loopg [7] n (fun gk i wr => ∃ j : Nat, i = .int .i64 (j : Nat) ∧ gk + j = n ∧ wr = w)
          case atStart => exact ⟨0, rfl, by omega, rfl⟩
          case round =>
            obtain ⟨j, rfl, hg, hww⟩ := hrel
            have hww2 := hww.symm
            subst hww2
            clear hww
            by_cases hj : j < n
            · have hji : (j : Int) < n := by omega
              have hj4 : (j : Int) < 1000 := by omega
              rcases HCS.out with hc0 | ⟨g, rfl, hbg, hgl, hdg, hcl⟩
              · omega
              have x0 : w.cell? ⟨g, j * 3, none⟩ = some (.string ⟨#[33]⟩) := (hcl.at0 (j * 3) (by omega)).trans (by unfold mkV bangI; rw [if_pos (by omega)])
              have x1 : w.cell? ⟨g, j * 3 + 1, none⟩ = some (.int .i64 (-7)) := (hcl.at0 (j * 3 + 1) (by omega)).trans (by unfold mkV bangI; rw [if_neg (by omega)])
              have x2 : w.cell? ⟨g, j * 3 + 2, none⟩ = some (.int .i64 (-7)) := (hcl.at0 (j * 3 + 2) (by omega)).trans (by unfold mkV bangI; rw [if_neg (by omega)])
              have HG := hid hg
              clear hg hj hcl hbg hgl hdg
              go_wp2_with fail
              go_roundg (gk - 1)
              case measure => have := HG.out; omega
              case rel => exact ⟨j + 1, by simp, by have := HG.out; omega, rfl⟩
            · have hji : ¬ (j : Int) < n := by omega
              have hjn : j = n := by omega
              subst hjn
              clear hg hj HCS
              go_wp2_with fail
              clear d0 hni hji
              obtain ⟨ad, n, cap, hv, hn, hcs⟩ := HHE.out
              have d0 := H.out.c 23 _ rfl
              rw [hv] at d0
              have HCS := hid hcs
              have hni : (n : Int) ≤ 1000 := by omega
              clear hv hn hcs
              go_loopg [8] n (fun gk i wr => ∃ j : Nat, i = .int .i64 (j : Nat) ∧ gk + j = n ∧ wr = w)
              case atStart => exact ⟨0, rfl, by omega, rfl⟩
              case round =>
                obtain ⟨j, rfl, hg, hww⟩ := hrel
                have hww2 := hww.symm
                subst hww2
                clear hww
                by_cases hj : j < n
                · have hji : (j : Int) < n := by omega
                  have hj4 : (j : Int) < 1000 := by omega
                  rcases HCS.out with hc0 | ⟨g, rfl, hbg, hgl, hdg, hcl⟩
                  · omega
                  have x0 : w.cell? ⟨g, j * 2, none⟩ = some (.string ⟨#[33]⟩) := hcl.at0 (j * 2) (by omega)
                  have x1 : w.cell? ⟨g, j * 2 + 1, none⟩ = some (.string ⟨#[33]⟩) := hcl.at0 (j * 2 + 1) (by omega)
                  have HG := hid hg
                  clear hg hj hcl hbg hgl hdg
                  go_wp2_with fail
                  go_roundg (gk - 1)
                  case measure => have := HG.out; omega
                  case rel => exact ⟨j + 1, by simp, by have := HG.out; omega, rfl⟩
                · have hji : ¬ (j : Int) < n := by omega
                  have hjn : j = n := by omega
                  subst hjn
                  clear hg hj HCS
                  go_wp2_with fail
                  clear d0 hni hji
                  obtain ⟨ad, n, cap, hv, hn, hcs⟩ := HHL.out
                  have d0 := H.out.c 26 _ rfl
                  rw [hv] at d0
                  have HCS := hid hcs
                  have hni : (n : Int) ≤ 1000 := by omega
                  clear hv hn hcs
                  go_loopg [9] n (fun gk i wr => ∃ j : Nat, i = .int .i64 (j : Nat) ∧ gk + j = n ∧ wr = w)
                  case atStart => exact ⟨0, rfl, by omega, rfl⟩
                  case round =>
                    obtain ⟨j, rfl, hg, hww⟩ := hrel
                    have hww2 := hww.symm
                    subst hww2
                    clear hww
                    by_cases hj : j < n
                    · have hji : (j : Int) < n := by omega
                      have hj4 : (j : Int) < 1000 := by omega
                      rcases HCS.out with hc0 | ⟨g, rfl, hbg, hgl, hdg, hcl⟩
                      · omega
                      have x0 : w.cell? ⟨g, j * 2, none⟩ = some (.string ⟨#[33]⟩) := hcl.at0 (j * 2) (by omega)
                      have x1 : w.cell? ⟨g, j * 2 + 1, none⟩ = some (.string ⟨#[33]⟩) := hcl.at0 (j * 2 + 1) (by omega)
                      have HG := hid hg
                      clear hg hj hcl hbg hgl hdg
                      go_wp2_with fail
                      go_roundg (gk - 1)
                      case measure => have := HG.out; omega
                      case rel => exact ⟨j + 1, by simp, by have := HG.out; omega, rfl⟩
                    · have hji : ¬ (j : Int) < n := by omega
                      have hjn : j = n := by omega
                      subst hjn
                      clear hg hj HCS
                      go_wp2_with fail
                      clear d0 hni hji
                      obtain ⟨ad, n, cap, hv, hn, hcs⟩ := HHI.out
                      have d0 := H.out.c 24 _ rfl
                      rw [hv] at d0
                      have HCS := hid hcs
                      have hni : (n : Int) ≤ 1000 := by omega
                      clear hv hn hcs
                      go_loopg [10] n (fun gk i wr => ∃ j : Nat, i = .int .i64 (j : Nat) ∧ gk + j = n ∧ wr = w)
                      case atStart => exact ⟨0, rfl, by omega, rfl⟩
                      case round =>
                        obtain ⟨j, rfl, hg, hww⟩ := hrel
                        have hww2 := hww.symm
                        subst hww2
                        clear hww
                        by_cases hj : j < n
                        · have hji : (j : Int) < n := by omega
                          have hj4 : (j : Int) < 1000 := by omega
                          rcases HCS.out with hc0 | ⟨g, rfl, hbg, hgl, hdg, hcl⟩
                          · omega
                          have x0 : w.cell? ⟨g, j * 3, none⟩ = some (.string ⟨#[33]⟩) := (hcl.at0 (j * 3) (by omega)).trans (by unfold mkV bangI; rw [if_pos (by omega)])
                          have x1 : w.cell? ⟨g, j * 3 + 1, none⟩ = some (.int .i64 (-7)) := (hcl.at0 (j * 3 + 1) (by omega)).trans (by unfold mkV bangI; rw [if_neg (by omega)])
                          have x2 : w.cell? ⟨g, j * 3 + 2, none⟩ = some (.int .i64 (-7)) := (hcl.at0 (j * 3 + 2) (by omega)).trans (by unfold mkV bangI; rw [if_neg (by omega)])
                          have HG := hid hg
                          clear hg hj hcl hbg hgl hdg
                          go_wp2_with fail
                          go_roundg (gk - 1)
                          case measure => have := HG.out; omega
                          case rel => exact ⟨j + 1, by simp, by have := HG.out; omega, rfl⟩
                        · have hji : ¬ (j : Int) < n := by omega
                          have hjn : j = n := by omega
                          subst hjn
                          clear hg hj HCS
                          go_wp2_with fail
                          clear d0 hni hji
                          exact hK.out _ _ ⟨rfl, rfl⟩
end Go.Proofs.Qxb6500353aGreat
