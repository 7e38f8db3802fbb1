/- The walk over api: Join. -/
import Derived.Test.Qxb6500354aGreatPar5
namespace Go.Proofs.Qxb6500354aGreat
open Go.RowKit
set_option linter.unusedVariables false
set_option linter.unusedSimpArgs false

def joinF (a b : List Nat) : List Nat := if 1048577 ≤ a.length then a else a ++ b.take (1048577 - a.length)
theorem bytesOf_app (a b : ByteArray) : bytesOf (a ++ b) = bytesOf a ++ bytesOf b := by
  unfold bytesOf; rw [ByteArray.data_append, Array.toList_append, List.map_append]
theorem bytesOf_take (a : ByteArray) (n : Nat) : bytesOf (a.extract 0 n) = (bytesOf a).take n := by
  unfold bytesOf; rw [ByteArray.data_extract]; simp [List.map_take, List.extract_eq_take_drop]
set_option maxHeartbeats 1000000 in
theorem join_any (a b : ByteArray) (ha : a.size ≤ maxLen) (hb : b.size ≤ maxLen) (w : World) :
    Calls Tryz.prog 15 #[.string a, .string b] w fun e w' => (∃ s, e = .returned (.string s) ∧ bytesOf s = joinF (bytesOf a) (bytesOf b)) ∧ w' = w := by
  unfold maxLen at ha hb
  by_cases h1 : 1048577 ≤ a.size
  · have hi : (1048577 : Int) - a.size ≤ 0 := by omega
    have hr := hid h1
    refine calls_via fun K hK => ?_
    go_enter Tryz.func15, Tryz.ntmps15
    go_wp2_with fail
    exact hK.out _ _ ⟨⟨a, rfl, by unfold joinF; rw [bytesOf_len, if_pos h1]⟩, rfl⟩
  · by_cases h2 : 1048577 - a.size < b.size
    · have hi : ¬ (1048577 : Int) - a.size ≤ 0 := by omega
      have hj : (1048577 : Int) - a.size < b.size := by omega
      refine calls_via fun K hK => ?_
      go_enter Tryz.func15, Tryz.ntmps15
      go_wp2_with fail
      exact hK.out _ _ ⟨⟨_, rfl, by unfold joinF; rw [bytesOf_len, if_neg h1, bytesOf_app, bytesOf_take]⟩, rfl⟩
    · have hi : ¬ (1048577 : Int) - a.size ≤ 0 := by omega
      have hj : ¬ (1048577 : Int) - a.size < b.size := by omega
      refine calls_via fun K hK => ?_
      go_enter Tryz.func15, Tryz.ntmps15
      go_wp2_with fail
      exact hK.out _ _ ⟨⟨_, rfl, by unfold joinF; rw [bytesOf_len, if_neg h1, bytesOf_app, List.take_of_length_le (by rw [bytesOf_len]; omega)]⟩, rfl⟩
theorem joinF_len (a b : List Nat) (ha : a.length ≤ 1048577) : (joinF a b).length ≤ 1048577 := by
  unfold joinF
  split
  · exact ha
  · rw [List.length_append, List.length_take]; omega
end Go.Proofs.Qxb6500354aGreat
