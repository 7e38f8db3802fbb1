/- The matcher: span, walked. -/
import Derived.Test.Qxb6500353aGreatHsw
namespace Go.Proofs.Qxb6500353aGreat
open Go.RowKit
set_option linter.unusedVariables false
set_option linter.unusedSimpArgs false

set_option maxRecDepth 100000 in
set_option maxHeartbeats 1000000 in
theorem span_any {w : World} {s : ByteArray} {c i lim : Nat} (hc : c < i) (hl : i + lim ≤ s.size) (hlim : lim = min 10 (s.size - i)) (hs : s.size ≤ 1000000) :
    Calls Tryz.prog 172 #[.string s, .int .i64 c, .int .i64 i, .int .i64 lim] w fun e w' => e = .returned (.int .i64 (agF (bytesOf s) i (i - c) : Nat)) ∧ ∃ n, w' = w.drewN n := by
  have HC := hid hc
  have HL := hid hl
  have HM := hid hlim
  have hci : (c : Int) < i := by omega
  have hli : (i : Int) + lim ≤ s.size := by omega
  have hsi : (s.size : Int) ≤ 1000000 := by omega
  clear hc hl hlim
  refine calls_via fun K hK => ?_
  go_enter Tryz.func172, Tryz.ntmps172
  go_wp2_with fail
  go_loopg [9] lim (fun g v wr => ∃ k N : Nat, v = .int .i64 (k : Nat) ∧ g + k = lim ∧ (∀ m, m < k → by_ (bytesOf s) (i + m) = by_ (bytesOf s) (c + m)) ∧ wr = w.drewN N)
  case atStart => exact ⟨0, 0, rfl, by omega, fun m hm => by omega, rfl⟩
  case round =>
    obtain ⟨k, N, rfl, hg, hA, rfl⟩ := hrel
    have HG := hid hg
    have HA := hid hA
    have hend : ∀ k2, k2 = k → (k = lim ∨ by_ (bytesOf s) (i + k) ≠ by_ (bytesOf s) (c + k)) → agF (bytesOf s) i (i - c) = k2 := by
      intro k2 hk2 hor
      have := HC.out; have := HL.out; have h7 := HM.out
      subst hk2
      refine agF_uniq _ _ _ _ (by omega) (by rw [bytesOf_len]; omega) (fun m hm => ?_) ?_
      · rw [show i + m - (i - c) = c + m by omega]; exact HA.out m hm
      · rcases hor with h | h
        · rw [bytesOf_len]; omega
        · right; right; rw [show i + k2 - (i - c) = c + k2 by omega]; exact h
    have HE := hid hend
    by_cases hlt : k < lim
    · have hlti : (k : Int) < lim := by omega
      have hck : c + k < s.size := by have := HC.out; have := HL.out; omega
      have hik : i + k < s.size := by have := HL.out; omega
      have hckI : (c : Int) + k < s.size := by omega
      have hikI : (i : Int) + k < s.size := by omega
      have z1 : (0 : Int) ≤ (c : Int) + k := by omega
      have z2 : (0 : Int) ≤ (i : Int) + k := by omega
      have b1 := byteI s hck
      have b2 := byteI s hik
      have h1 := byS_lt s (c + k)
      have h2 := byS_lt s (i + k)
      obtain ⟨x, hx⟩ : ∃ x, x = by_ (bytesOf s) (c + k) := ⟨_, rfl⟩
      obtain ⟨y, hy⟩ : ∃ x, x = by_ (bytesOf s) (i + k) := ⟨_, rfl⟩
      rw [← hx] at b1 h1
      rw [← hy] at b2 h2
      by_cases he : x = y
      · have he2 : ((x : Int) == y) = true := by simp [he]
        have HX := hid (hy.symm.trans (he.symm.trans hx))
        clear hA hg hend hx hy he
        go_wp2_with fail
        go_quiet (fail)
        go_wp2_with fail
        go_roundg (gk - 1)
        case measure => have := HG.out; omega
        case rel =>
          refine ⟨k + 1, _, by simp, by have := HG.out; omega, fun m hm => ?_, by first | rfl | (repeat rw [World.drewN_drewN])⟩
          by_cases e : m = k
          · subst e; exact HX.out
          · exact HA.out m (by omega)
      · have he2 : ((x : Int) == y) = false := by simp; omega
        have hr := hend k rfl (.inr (by rw [← hx, ← hy]; omega))
        have HR := hid hr
        clear hA hg hend hx hy he hr
        go_wp2_with fail
        go_quiet (fail)
        go_wp2_with fail
        exact hK.out _ _ ⟨by rw [HR.out]; rfl, _, by first | rfl | (repeat rw [World.drewN_drewN])⟩
    · have hlti : ¬ (k : Int) < lim := by omega
      have hr := hend k rfl (.inl (by omega))
      have HR := hid hr
      clear hA hg hend hr
      go_wp2_with fail
      go_quiet (fail)
      go_wp2_with fail
      exact hK.out _ _ ⟨by rw [HR.out]; rfl, _, by first | rfl | (repeat rw [World.drewN_drewN])⟩
end Go.Proofs.Qxb6500353aGreat
