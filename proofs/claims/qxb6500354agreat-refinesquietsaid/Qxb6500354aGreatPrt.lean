/- The walks over cnf: width, lay. -/
import Derived.Test.Qxb6500354aGreatByt
namespace Go.Proofs.Qxb6500354aGreat
open Go.RowKit
set_option linter.unusedVariables false
set_option linter.unusedSimpArgs false

/-- A number of a flat form. -/
def flatNum (x : Int) : Prop := x = 13 ∨ x = 0 ∨ good x = true
set_option maxHeartbeats 1000000 in
theorem width_any (x : Int) (hx : flatNum x) (w : World) : Calls Tryz.prog 128 #[.int .i64 x] w fun e w' => e = .returned (.int .i64 ((numB x).length : Nat)) ∧ w' = w := by
  obtain ⟨r, hr⟩ : ∃ r, (numB x).length = r := ⟨_, rfl⟩
  rw [hr]
  by_cases h13 : x = 13
  · subst h13
    have HR : Hid (r = 2) := hid (by rw [← hr]; rfl)
    clear hr hx
    refine calls_via fun K hK => ?_
    go_enter Tryz.func128, Tryz.ntmps128
    go_wp2_with fail
    exact hK.out _ _ ⟨by rw [HR.out]; rfl, rfl⟩
  · by_cases h0 : x = 0
    · subst h0
      have HR : Hid (r = 2) := hid (by rw [← hr]; rfl)
      clear hr hx
      refine calls_via fun K hK => ?_
      go_enter Tryz.func128, Tryz.ntmps128
      go_wp2_with fail
      exact hK.out _ _ ⟨by rw [HR.out]; rfl, rfl⟩
    · have hg := (good_iff x).1 ((hx.resolve_left h13).resolve_left h0)
      have e1 : (x == 13) = false := by simpa using h13
      have e2 : (x == 0) = false := by simpa using h0
      have hr2 : r = (if x < 0 then 1 else 0) + (if 10 ≤ x.natAbs then 2 else 1) + 1 := by
        rw [← hr]; unfold numB litB; rw [if_neg h13, if_neg h0]
        by_cases a : x < 0 <;> by_cases b : 10 ≤ x.natAbs <;> simp [a, b]
      clear hr hx h13 h0
      by_cases hn : x < 0
      · by_cases ht : -x ≥ 10
        · have HR : Hid (r = 4) := hid (by rw [hr2, if_pos hn, if_pos (by omega)])
          clear hr2
          have ht2 : (10 : Int) ≤ -x := ht
          have hl : -12 ≤ x := by omega
          clear hg
          refine calls_via fun K hK => ?_
          go_enter Tryz.func128, Tryz.ntmps128
          go_wp2_with fail
          exact hK.out _ _ ⟨by rw [HR.out]; rfl, rfl⟩
        · have HR : Hid (r = 3) := hid (by rw [hr2, if_pos hn, if_neg (by omega)])
          clear hr2
          have ht2 : ¬ (10 : Int) ≤ -x := ht
          have hl : -12 ≤ x := by omega
          clear hg
          refine calls_via fun K hK => ?_
          go_enter Tryz.func128, Tryz.ntmps128
          go_wp2_with fail
          exact hK.out _ _ ⟨by rw [HR.out]; rfl, rfl⟩
      · by_cases ht : x ≥ 10
        · have HR : Hid (r = 3) := hid (by rw [hr2, if_neg hn, if_pos (by omega)])
          clear hr2
          have ht2 : (10 : Int) ≤ x := ht
          clear hg
          refine calls_via fun K hK => ?_
          go_enter Tryz.func128, Tryz.ntmps128
          go_wp2_with fail
          exact hK.out _ _ ⟨by rw [HR.out]; rfl, rfl⟩
        · have HR : Hid (r = 2) := hid (by rw [hr2, if_neg hn, if_neg (by omega)])
          clear hr2
          have ht2 : ¬ (10 : Int) ≤ x := ht
          clear hg
          refine calls_via fun K hK => ?_
          go_enter Tryz.func128, Tryz.ntmps128
          go_wp2_with fail
          exact hK.out _ _ ⟨by rw [HR.out]; rfl, rfl⟩
end Go.Proofs.Qxb6500354aGreat
