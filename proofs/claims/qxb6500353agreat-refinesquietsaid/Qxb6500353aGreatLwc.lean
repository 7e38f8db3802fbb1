/- The law's own functions: Lengthen, walked. -/
import Derived.Test.Qxb6500353aGreatLwa
namespace Go.Proofs.Qxb6500353aGreat
open Go.RowKit
set_option linter.unusedVariables false
set_option linter.unusedSimpArgs false

set_option maxRecDepth 100000 in
/-- api.Lengthen: the text itself, or a text of at most m + 1 bytes. -/
theorem lengthen_any {w : World} {a b : ByteArray} {m : Nat} (hm : m ≤ 10000) (ha : a.size ≤ maxLen) (hb : b.size ≤ maxLen) :
    Calls Tryz.prog 40 #[.string a, .string b, .int .i64 (m : Nat)] w fun e w' => (∃ r : ByteArray, e = .returned (.string r) ∧ (r = a ∨ r.size ≤ m + 1)) ∧ w' = w := by
  have hai : (a.size : Int) ≤ 9223372036854775807 := by unfold maxLen at ha; omega
  have hbi : (b.size : Int) ≤ 9223372036854775807 := by unfold maxLen at hb; omega
  have hmi : (m : Int) ≤ 10000 := by omega
  by_cases c1 : m + 1 ≤ a.size
  · have c1i : (m : Int) + 1 ≤ a.size := by omega
    have c1j : (m : Int) + 1 - a.size ≤ 0 := by omega
    clear ha hb hm c1
    refine calls_via fun K hK => ?_
    go_enter Tryz.func40, Tryz.ntmps40
    go_wp2_with fail
    exact hK.out _ _ ⟨⟨_, rfl, .inl rfl⟩, rfl⟩
  · obtain ⟨rm, hrm⟩ : ∃ z, z = m + 1 - a.size := ⟨_, rfl⟩
    have e1 : (m : Int) + 1 - (a.size : Int) = (rm : Int) := by omega
    have e0 : ¬ (rm : Int) ≤ 0 := by omega
    have hasz : (a.size : Int) ≤ 10000 := by omega
    have hrmi : (rm : Int) ≤ 10001 := by omega
    have HRM := hid (And.intro hrm c1)
    by_cases c2 : rm < b.size
    · have c2i : (rm : Int) < b.size := by omega
      have c2j : (rm : Int) ≤ b.size := by omega
      have HC := hid c2
      clear ha hb hm c1 hrm c2
      refine calls_via fun K hK => ?_
      go_enter Tryz.func40, Tryz.ntmps40
      go_wp2_with fail
      refine hK.out _ _ ⟨⟨_, rfl, .inr ?_⟩, rfl⟩
      rw [← bytesOf_len, bytesOf_app, List.length_append, bytesOf_sub, List.length_take, List.length_drop, bytesOf_len, bytesOf_len]
      have := HRM.out; have := HC.out; omega
    · have c2i : ¬ (rm : Int) < b.size := by omega
      have hbsz : (b.size : Int) ≤ 10001 := by omega
      have HC := hid c2
      clear ha hb hm c1 hrm c2 hbi
      refine calls_via fun K hK => ?_
      go_enter Tryz.func40, Tryz.ntmps40
      go_wp2_with fail
      refine hK.out _ _ ⟨⟨_, rfl, .inr ?_⟩, rfl⟩
      rw [← bytesOf_len, bytesOf_app, List.length_append, bytesOf_len, bytesOf_len]
      have := HRM.out; have := HC.out; omega
end Go.Proofs.Qxb6500353aGreat
