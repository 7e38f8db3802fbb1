/- The small functions of api and of the encoder, walked. -/
import Derived.Test.Qxb6500353aGreatHsw
import Derived.Test.Qxb6500353aGreatArc
namespace Go.Proofs.Qxb6500353aGreat
open Go.RowKit
set_option linter.unusedVariables false
set_option linter.unusedSimpArgs false

theorem ret_int2 {a b c d : Int} (h : a = b) (h2 : c = d) : Ending.returned (.tuple #[.int .i64 a, .int .i64 c]) = .returned (.tuple #[.int .i64 b, .int .i64 d]) := by rw [h, h2]
theorem distCode_any {w : World} {d : Nat} (h1 : 1 ≤ d) (h2 : d ≤ 16) : Calls Tryz.prog 95 #[.int .i64 d] w fun e w' => e = .returned (.int .i64 (distCode d : Nat)) ∧ w' = w := by
  have h1i : (1 : Int) ≤ d := by omega
  have h2i : (d : Int) ≤ 16 := by omega
  obtain ⟨c, hc⟩ : ∃ c, c = distCode d := ⟨_, rfl⟩
  have hc2 := hc
  unfold distCode at hc2
  rw [← hc]
  have HC := hid hc2
  refine calls_via fun K hK => ?_
  clear hc hc2
  by_cases h4 : d ≤ 4
  · have h4i : (d : Int) ≤ 4 := by omega
    go_enter Tryz.func95, Tryz.ntmps95
    go_wp2_with fail
    exact hK.out _ _ ⟨ret_int (by have := HC.out; rw [if_pos h4] at this; omega), rfl⟩
  · have h4i : ¬ (d : Int) ≤ 4 := by omega
    by_cases h8 : d ≤ 8
    · have h8i : (d : Int) ≤ 8 := by omega
      go_enter Tryz.func95, Tryz.ntmps95
      go_wp2_with fail
      exact hK.out _ _ ⟨ret_int (by have := HC.out; rw [if_neg h4, if_pos h8] at this; omega), rfl⟩
    · have h8i : ¬ (d : Int) ≤ 8 := by omega
      go_enter Tryz.func95, Tryz.ntmps95
      go_wp2_with fail
      exact hK.out _ _ ⟨ret_int (by have := HC.out; rw [if_neg h4, if_neg h8] at this; omega), rfl⟩
theorem distBase_any {w : World} {c : Nat} (h : c < 8) : Calls Tryz.prog 102 #[.int .i64 c] w fun e w' => e = .returned (.tuple #[.int .i64 ((distBase c).1 : Nat), .int .i64 ((distBase c).2 : Nat)]) ∧ w' = w := by
  have hi : (c : Int) < 8 := by omega
  obtain ⟨x, hx⟩ : ∃ x, x = (distBase c).1 := ⟨_, rfl⟩
  obtain ⟨y, hy⟩ : ∃ x, x = (distBase c).2 := ⟨_, rfl⟩
  rw [← hx, ← hy]
  unfold distBase at hx hy
  have HX := hid hx
  have HY := hid hy
  refine calls_via fun K hK => ?_
  clear hx hy
  by_cases h4 : c < 4
  · have h4i : (c : Int) < 4 := by omega
    go_enter Tryz.func102, Tryz.ntmps102
    go_wp2_with fail
    exact hK.out _ _ ⟨ret_int2 (by have := HX.out; rw [if_pos h4] at this; omega) (by have := HY.out; rw [if_pos h4] at this; omega), rfl⟩
  · have h4i : ¬ (c : Int) < 4 := by omega
    by_cases h6 : c < 6
    · have h6i : (c : Int) < 6 := by omega
      go_enter Tryz.func102, Tryz.ntmps102
      go_wp2_with fail
      exact hK.out _ _ ⟨ret_int2 (by have := HX.out; rw [if_neg h4, if_pos h6] at this; omega) (by have := HY.out; rw [if_neg h4, if_pos h6] at this; omega), rfl⟩
    · have h6i : ¬ (c : Int) < 6 := by omega
      go_enter Tryz.func102, Tryz.ntmps102
      go_wp2_with fail
      exact hK.out _ _ ⟨ret_int2 (by have := HX.out; rw [if_neg h4, if_neg h6] at this; omega) (by have := HY.out; rw [if_neg h4, if_neg h6] at this; omega), rfl⟩
theorem fixedLen_any {w : World} {s : Nat} : Calls Tryz.prog 100 #[.int .i64 s] w fun e w' => e = .returned (.int .i64 (fixedLen s : Nat)) ∧ w' = w := by
  unfold fixedLen
  refine calls_via fun K hK => ?_
  by_cases h : s < 247
  · have hi : (s : Int) < 247 := by omega
    rw [if_pos h] at hK
    go_enter Tryz.func100, Tryz.ntmps100
    go_wp2_with fail
    exact hK.out _ _ ⟨rfl, rfl⟩
  · have hi : ¬ (s : Int) < 247 := by omega
    rw [if_neg h] at hK
    go_enter Tryz.func100, Tryz.ntmps100
    go_wp2_with fail
    exact hK.out _ _ ⟨rfl, rfl⟩
theorem lenSym_any {w : World} {n : Nat} (h : n ≤ 1000) : Calls Tryz.prog 118 #[.int .i64 n] w fun e w' => e = .returned (.int .i64 ((254 + n : Nat) : Int)) ∧ w' = w := by
  have hi : (n : Int) ≤ 1000 := by omega
  refine calls_via fun K hK => ?_
  go_enter Tryz.func118, Tryz.ntmps118
  go_wp2_with fail
  exact hK.out _ _ ⟨ret_int (by omega), rfl⟩
theorem sumG_take (s : List Nat) (k : Nat) (hk : k < s.length) : sumG (s.take (k + 1)) 1 0 = (((sumG (s.take k) 1 0).1 + by_ s k) % 251, ((sumG (s.take k) 1 0).2 + ((sumG (s.take k) 1 0).1 + by_ s k) % 251) % 251) := by
  have : s.take (k + 1) = s.take k ++ [by_ s k] := by
    rw [List.take_add_one, List.getElem?_eq_getElem hk]
    unfold by_; rw [List.getD_eq_getElem?_getD, List.getElem?_eq_getElem hk]; rfl
  rw [this, sumG_snoc]
set_option maxRecDepth 100000 in
theorem sum_any {w : World} {s : ByteArray} (hs : s.size ≤ 1000000) : Calls Tryz.prog 50 #[.string s] w fun e w' => e = .returned (.int .i64 (sumF (bytesOf s) : Nat)) ∧ w' = w := by
  have hsi : (s.size : Int) ≤ 1000000 := by omega
  have HT := hid (fun k (hk : k < s.size) => sumG_take (bytesOf s) k (by rw [bytesOf_len]; exact hk))
  have HLT := hid (fun k => sumG_lt ((bytesOf s).take k) 1 0 (by decide) (by decide))
  have HALL := hid (show (bytesOf s).take s.size = bytesOf s by rw [List.take_of_length_le (by rw [bytesOf_len]; omega)])
  refine calls_via fun K hK => ?_
  go_enter Tryz.func50, Tryz.ntmps50
  go_wp2_with fail
  go_loopg [3, 4, 5] s.size (fun g av bv v wr => ∃ (k : Nat), v = .int .i64 (k : Nat) ∧ g + k = s.size ∧ av = .int .i64 ((sumG ((bytesOf s).take k) 1 0).1 : Nat) ∧ bv = .int .i64 ((sumG ((bytesOf s).take k) 1 0).2 : Nat) ∧ wr = w)
  case atStart => exact ⟨0, rfl, by omega, rfl, rfl, rfl⟩
  case round =>
    obtain ⟨k, rfl, hg, rfl, rfl, rfl⟩ := hrel
    have hlt := HLT.out k
    obtain ⟨a, ha⟩ : ∃ z, z = (sumG ((bytesOf s).take k) 1 0).1 := ⟨_, rfl⟩
    obtain ⟨b, hb⟩ : ∃ z, z = (sumG ((bytesOf s).take k) 1 0).2 := ⟨_, rfl⟩
    rw [← ha, ← hb] at hlt ⊢
    have hai : (a : Int) < 251 := by omega
    have hbi : (b : Int) < 251 := by omega
    have HA := hid (And.intro ha hb)
    have HG := hid hg
    by_cases hk : k < s.size
    · have hki : (k : Int) < s.size := by omega
      have b1 := byteI s hk
      have h1 := byS_lt s k
      have hs2 := HT.out k hk
      rw [← ha, ← hb] at hs2
      obtain ⟨x, hx⟩ : ∃ x, x = by_ (bytesOf s) k := ⟨_, rfl⟩
      rw [← hx] at b1 h1 hs2
      have HS := hid hs2
      clear hs2 hx ha hb hg hlt
      go_wp2_with fail
      go_roundg (gk - 1)
      case measure => have := HG.out; omega
      case rel => exact ⟨k + 1, by simp, by have := HG.out; omega, by rw [HS.out]; simp, by rw [HS.out]; simp, rfl⟩
    · have hki : ¬ (k : Int) < s.size := by omega
      have hk2 : k = s.size := by omega
      subst hk2
      clear ha hb hg hlt
      go_wp2_with fail
      exact hK.out _ _ ⟨ret_int (by have h := HA.out; rw [HALL.out] at h; unfold sumF; rw [← h.1, ← h.2]; simp), rfl⟩
end Go.Proofs.Qxb6500353aGreat
