/- THE WALKS over check: sweep, rup. -/
import Derived.Test.Qxb6500354aGreatChk3
namespace Go.Proofs.Qxb6500354aGreat
open Go.RowKit
set_option linter.unusedVariables false
set_option linter.unusedSimpArgs false

theorem sweepK_none {sl : Slots} {s : Nat} (h : sl s = none) (n yes no : Nat) : sweepK sl (n + 1) s yes no = sweepK sl n (s + 1) yes no := by
  show (match sl s with | none => _ | some c => _) = _
  rw [h]
theorem sweepK_some {sl : Slots} {s : Nat} {c : List Int} (h : sl s = some c) (n yes no : Nat) : sweepK sl (n + 1) s yes no =
      if (posB c &&& yes) ||| (negB c &&& no) = 0 then
        (if minusB (posB c) (yes ||| no) ||| minusB (negB c) (yes ||| no) = 0 then (yes, no, true)
         else if minusB (negB c) (yes ||| no) = 0 then (if oneB (minusB (posB c) (yes ||| no)) = true then sweepK sl n (s + 1) (yes ||| minusB (posB c) (yes ||| no)) no else sweepK sl n (s + 1) yes no)
         else if minusB (posB c) (yes ||| no) = 0 then (if oneB (minusB (negB c) (yes ||| no)) = true then sweepK sl n (s + 1) yes (no ||| minusB (negB c) (yes ||| no)) else sweepK sl n (s + 1) yes no)
         else sweepK sl n (s + 1) yes no)
      else sweepK sl n (s + 1) yes no := by
  show (match sl s with | none => _ | some c => _) = _
  rw [h]
theorem neN {a : Nat} : ((a : Int) != 0) = decide (a ≠ 0) := by rw [Bool.eq_iff_iff, bne_iff_ne, decide_eq_true_eq]; omega
theorem eqN {a : Nat} : ((a : Int) == 0) = decide (a = 0) := by rw [Bool.eq_iff_iff, beq_iff_eq, decide_eq_true_eq]; omega
def relSw (w : World) (sl : Slots) (res : Nat × Nat × Bool) (g : Nat) (y n i : Value) (wr : World) : Prop :=
  ∃ yes no : Nat, g ≤ 64 ∧ (∃ q, wr = w.drewN q) ∧ i = .int .i64 ((64 - g : Nat) : Int) ∧ y = .int .u16 (yes : Nat) ∧ n = .int .u16 (no : Nat) ∧ yes < 2 ^ 16 ∧ no < 2 ^ 16 ∧ res = sweepK sl g (64 - g) yes no
set_option maxHeartbeats 4000000 in
theorem sweep_any {w : World} {b q : Nat} {sl : Slots} (h : CkAt w b q sl) (yes no : Nat) (hy : yes < 2 ^ 16) (hn : no < 2 ^ 16) :
    Calls Tryz.prog 149 #[.pointer (some ⟨b, 0, none⟩), .int .u16 (yes : Nat), .int .u16 (no : Nat)] w fun e w' =>
      e = .returned (.tuple #[.int .u16 ((sweepK sl 64 0 yes no).1 : Nat), .int .u16 ((sweepK sl 64 0 yes no).2.1 : Nat), .bool (sweepK sl 64 0 yes no).2.2]) ∧ ∃ n, w' = w.drewN n := by
  obtain ⟨R, hR, ho⟩ := h
  obtain ⟨res, hres⟩ : ∃ r, sweepK sl 64 0 yes no = r := ⟨_, rfl⟩
  have hu0 := hR.used
  have HRES := hid hres
  have HR := hid hR
  have HO := hid ho
  have HY := hid hy
  have HN := hid hn
  rw [hres]
  clear hres hR ho hy hn
  refine calls_via fun K hK => ?_
  go_enter Tryz.func149, Tryz.ntmps149
  go_wp2_with fail
  go_loopg [1, 2, 9] 64 (fun g y n i wr => relSw w sl res g y n i wr)
  case atStart => exact ⟨yes, no, by omega, ⟨0, rfl⟩, by simp, rfl, rfl, HY.out, HN.out, HRES.out.symm⟩
  case round =>
    obtain ⟨yes, no, hg, ⟨n0, rfl⟩, rfl, rfl, rfl, hy, hn, he⟩ := hrel
    by_cases hlt : 0 < gk
    · obtain ⟨k, hk⟩ : ∃ k, 64 - gk = k := ⟨_, rfl⟩
      rw [hk] at he ⊢
      have hk64 : k < 64 := by omega
      have hki : (k : Int) < 64 := by omega
      obtain ⟨g2, rfl⟩ : ∃ g2, gk = g2 + 1 := ⟨gk - 1, by omega⟩
      have hb := and64 (b := pw k) HO.out.usedlt (pow64 hk64)
      have hz : (((R.used &&& pw k : Nat) : Int) == 0) = !R.used.testBit k := by rw [← and_pow_ne]; show _ = !(!_); rw [Bool.not_not]; rfl
      have HQ := hid (fun w => cslot_any k hk64 w)
      have HKK := hid hk
      rw [HO.out.used k hk64] at hz
      have hcp := HR.out.pos k hk64
      have hcn := HR.out.neg k hk64
      rw [HO.out.pos k hk64] at hcp
      rw [HO.out.neg k hk64] at hcn
      have HCS := hid (HO.out.ok k hk64)
      have e1 : 64 - g2 = k + 1 := by omega
      have E1 := hid e1
      clear hk e1
      cases hsl : sl k with
      | none =>
        rw [sweepK_none hsl] at he
        rw [hsl] at hz
        change _ = true at hz
        have HE := hid he
        have HY := hid hy
        have HN := hid hn
        clear he hsl hk64 hcp hcn hy hn
        go_wp2_with fail
        go_quiet ((go_at_call 100; exact (HQ.out _).mono fun _ _ h => ⟨h.1, _, h.2⟩))
        go_wp2_with fail
        go_roundg g2
        case measure => omega
        case rel => exact ⟨yes, no, by omega, ⟨_, rfl⟩, by rw [E1.out]; simp, rfl, rfl, HY.out, HN.out, by rw [E1.out]; exact HE.out⟩
      | some c =>
        rw [sweepK_some hsl] at he
        rw [hsl] at hz hcp hcn
        change _ = false at hz
        change w.cell? _ = some (Value.int .u16 (posB c : Nat)) at hcp
        change w.cell? _ = some (Value.int .u16 (negB c : Nat)) at hcn
        have hgd := (RowOK.of (HCS.out c hsl)).1
        have hp12 : posB c < 2 ^ 16 := Nat.lt_of_lt_of_le (posB_lt hgd) (by decide)
        have hn12 : negB c < 2 ^ 16 := Nat.lt_of_lt_of_le (negB_lt hgd) (by decide)
        have a1 := and16 hp12 hy
        have a2 := and16 hn12 hn
        have a3 := or16 (a := posB c &&& yes) (b := negB c &&& no) (Nat.lt_of_le_of_lt Nat.and_le_left hp12) (Nat.lt_of_le_of_lt Nat.and_le_left hn12)
        have a4 := or16 hy hn
        have hst : yes ||| no < 2 ^ 16 := Nat.or_lt_two_pow hy hn
        have a5 := andNot16 hp12 hst
        have a6 := andNot16 hn12 hst
        have l5 : minusB (posB c) (yes ||| no) < 2 ^ 16 := minusB_lt hp12
        have l6 : minusB (negB c) (yes ||| no) < 2 ^ 16 := minusB_lt hn12
        have a7 := or16 l5 l6
        have a8 := or16 hy l5
        have a9 := or16 hn l6
        have l8 : yes ||| minusB (posB c) (yes ||| no) < 2 ^ 16 := Nat.or_lt_two_pow hy l5
        have l9 : no ||| minusB (negB c) (yes ||| no) < 2 ^ 16 := Nat.or_lt_two_pow hn l6
        generalize minusB (posB c) (yes ||| no) = op at *
        generalize minusB (negB c) (yes ||| no) = on at *
        generalize yes ||| no = st at *
        generalize posB c = pb at *
        generalize negB c = nb at *
        generalize pb &&& yes = x1 at *
        generalize nb &&& no = x2 at *
        generalize x1 ||| x2 = x3 at *
        have o1 := hid (fun w => one_any op l5 w)
        have o2 := hid (fun w => one_any on l6 w)
        generalize op ||| on = x4 at *
        generalize yes ||| op = y2 at *
        generalize no ||| on = n2 at *
        have HY := hid hy
        have HN := hid hn
        have L8 := hid l8
        have L9 := hid l9
        clear hsl hk64 hy hn HCS hgd hp12 hn12 hst l5 l6 l8 l9
        by_cases c1 : x3 = 0
        · rw [if_pos c1] at he
          have b1 : ((x3 : Int) != 0) = false := by rw [neN]; simp [c1]
          by_cases c2 : x4 = 0
          · rw [if_pos c2] at he
            have b2 : ((x4 : Int) == 0) = true := by rw [eqN]; simp [c2]
            have HE := hid he
            clear he c1 c2
            go_wp2_with fail
            go_quiet ((go_at_call 100; exact (HQ.out _).mono fun _ _ h => ⟨h.1, _, h.2⟩))
            go_wp2_with (go_quiet (fail))
            try go_ret3
            exact hK.out _ _ ⟨by rw [HE.out]; rfl, _, rfl⟩
          · rw [if_neg c2] at he
            have b2 : ((x4 : Int) == 0) = false := by rw [eqN]; simp [c2]
            by_cases c3 : on = 0
            · rw [if_pos c3] at he
              have b3 : ((on : Int) == 0) = true := by rw [eqN]; simp [c3]
              cases c4 : oneB op with
              | true =>
                rw [c4, if_pos rfl] at he
                rw [c4] at o1
                have HE := hid he
                clear he c1 c2 c3 c4
                go_wp2_with fail
                go_quiet ((go_at_call 100; exact (HQ.out _).mono fun _ _ h => ⟨h.1, _, h.2⟩))
                go_wp2_with (first | go_quiet (fail) | (go_at_call 152; refine (o1.out _).mono ?_; rintro e w' ⟨rfl, hw⟩; have hw2 := hw.symm; subst hw2))
                go_roundg g2
                case measure => omega
                case rel => exact ⟨y2, no, by omega, ⟨_, rfl⟩, by rw [E1.out]; simp, rfl, rfl, L8.out, HN.out, by rw [E1.out]; exact HE.out⟩
              | false =>
                rw [c4, if_neg (by simp)] at he
                rw [c4] at o1
                have HE := hid he
                clear he c1 c2 c3 c4
                go_wp2_with fail
                go_quiet ((go_at_call 100; exact (HQ.out _).mono fun _ _ h => ⟨h.1, _, h.2⟩))
                go_wp2_with (first | go_quiet (fail) | (go_at_call 152; refine (o1.out _).mono ?_; rintro e w' ⟨rfl, hw⟩; have hw2 := hw.symm; subst hw2))
                go_roundg g2
                case measure => omega
                case rel => exact ⟨yes, no, by omega, ⟨_, rfl⟩, by rw [E1.out]; simp, rfl, rfl, HY.out, HN.out, by rw [E1.out]; exact HE.out⟩
            · rw [if_neg c3] at he
              have b3 : ((on : Int) == 0) = false := by rw [eqN]; simp [c3]
              by_cases c5 : op = 0
              · rw [if_pos c5] at he
                have b5 : ((op : Int) == 0) = true := by rw [eqN]; simp [c5]
                cases c4 : oneB on with
                | true =>
                  rw [c4, if_pos rfl] at he
                  rw [c4] at o2
                  have HE := hid he
                  clear he c1 c2 c3 c4 c5
                  go_wp2_with fail
                  go_quiet ((go_at_call 100; exact (HQ.out _).mono fun _ _ h => ⟨h.1, _, h.2⟩))
                  go_wp2_with (first | go_quiet (fail) | (go_at_call 152; refine (o2.out _).mono ?_; rintro e w' ⟨rfl, hw⟩; have hw2 := hw.symm; subst hw2))
                  go_roundg g2
                  case measure => omega
                  case rel => exact ⟨yes, n2, by omega, ⟨_, rfl⟩, by rw [E1.out]; simp, rfl, rfl, HY.out, L9.out, by rw [E1.out]; exact HE.out⟩
                | false =>
                  rw [c4, if_neg (by simp)] at he
                  rw [c4] at o2
                  have HE := hid he
                  clear he c1 c2 c3 c4 c5
                  go_wp2_with fail
                  go_quiet ((go_at_call 100; exact (HQ.out _).mono fun _ _ h => ⟨h.1, _, h.2⟩))
                  go_wp2_with (first | go_quiet (fail) | (go_at_call 152; refine (o2.out _).mono ?_; rintro e w' ⟨rfl, hw⟩; have hw2 := hw.symm; subst hw2))
                  go_roundg g2
                  case measure => omega
                  case rel => exact ⟨yes, no, by omega, ⟨_, rfl⟩, by rw [E1.out]; simp, rfl, rfl, HY.out, HN.out, by rw [E1.out]; exact HE.out⟩
              · rw [if_neg c5] at he
                have b5 : ((op : Int) == 0) = false := by rw [eqN]; simp [c5]
                have HE := hid he
                clear he c1 c2 c3 c5
                go_wp2_with fail
                go_quiet ((go_at_call 100; exact (HQ.out _).mono fun _ _ h => ⟨h.1, _, h.2⟩))
                go_wp2_with (first | go_quiet (fail))
                go_roundg g2
                case measure => omega
                case rel => exact ⟨yes, no, by omega, ⟨_, rfl⟩, by rw [E1.out]; simp, rfl, rfl, HY.out, HN.out, by rw [E1.out]; exact HE.out⟩
        · rw [if_neg c1] at he
          have b1 : ((x3 : Int) != 0) = true := by rw [neN]; simp [c1]
          have HE := hid he
          clear he c1
          go_wp2_with fail
          go_quiet ((go_at_call 100; exact (HQ.out _).mono fun _ _ h => ⟨h.1, _, h.2⟩))
          go_wp2_with (go_quiet (fail))
          go_roundg g2
          case measure => omega
          case rel => exact ⟨yes, no, by omega, ⟨_, rfl⟩, by rw [E1.out]; simp, rfl, rfl, HY.out, HN.out, by rw [E1.out]; exact HE.out⟩
    · have hg0 : gk = 0 := by omega
      subst hg0
      have HE : Hid (res = (yes, no, false)) := he
      clear he hlt hg
      go_wp2_with fail
      try go_ret3
      exact hK.out _ _ ⟨by rw [HE.out]; rfl, _, rfl⟩
end Go.Proofs.Qxb6500354aGreat
