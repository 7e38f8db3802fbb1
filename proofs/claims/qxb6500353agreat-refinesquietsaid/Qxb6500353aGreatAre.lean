/- The container's frame: word, num, tail, spot, walked. -/
import Derived.Test.Qxb6500353aGreatArb
import Derived.Deep.Cut
import Derived.Deep.DeepCutAuto
namespace Go.Proofs.Qxb6500353aGreat
open Go.RowKit
set_option linter.unusedVariables false
set_option linter.unusedSimpArgs false

set_option maxRecDepth 100000 in
theorem word_any {w : World} {s : ByteArray} {i : Nat} (hi : i + 2 ≤ s.size) (hs : s.size ≤ 1000000) : Calls Tryz.prog 108 #[.string s, .int .i64 (i : Nat)] w fun e w' => e = .returned (.int .i64 (num2 (bytesOf s) i : Nat)) ∧ ∃ q, w' = w.drewN q := by
  have hii : (i : Int) + 2 ≤ s.size := by omega
  have hsi : (s.size : Int) ≤ 1000000 := by omega
  have b1 := byteI s (k := i) (by omega)
  have b2 := byteI s (k := i + 1) (by omega)
  have h1 := byS_lt s i
  have h2 := byS_lt s (i + 1)
  have hr : num2 (bytesOf s) i = by_ (bytesOf s) i + by_ (bytesOf s) (i + 1) * 256 := rfl
  obtain ⟨x, hx⟩ : ∃ x, x = by_ (bytesOf s) i := ⟨_, rfl⟩
  obtain ⟨y, hy⟩ : ∃ x, x = by_ (bytesOf s) (i + 1) := ⟨_, rfl⟩
  rw [← hx] at b1 h1 hr
  rw [← hy] at b2 h2 hr
  obtain ⟨r, hr2⟩ : ∃ r, r = num2 (bytesOf s) i := ⟨_, rfl⟩
  rw [← hr2] at hr ⊢
  have hxi : (x : Int) < 256 := by omega
  have hyi : (y : Int) < 256 := by omega
  have g1 : (0 : Int) ≤ (i : Int) + 1 := by omega
  have g2 : (i : Int) + 1 < s.size := by omega
  have g3 : ((i : Int) + 1).toNat = i + 1 := by omega
  have g4 : (i : Int) < s.size := by omega
  have e1 : IntKind.i64.wrap (x : Int) = x := wrapI (by omega) (by omega)
  have e2 : IntKind.i64.wrap (y : Int) = y := wrapI (by omega) (by omega)
  have g5 : IntKind.i64.wrap ((i : Int) + 1) = (i : Int) + 1 := wrapI (by omega) (by omega)
  have e3 : (x : Int) + (y : Int) * 256 = (r : Int) := by omega
  have e4 : IntKind.i64.wrap ((y : Int) * 256) = (y : Int) * 256 := wrapI (by omega) (by omega)
  have e5 : IntKind.i64.wrap (r : Int) = (r : Int) := wrapI (by omega) (by omega)
  have e6 : wrap64 (r : Int) = (r : Int) := wrap64_n (by omega)
  have e7 : wrap64 ((y : Int) * 256) = (y : Int) * 256 := by rw [show (y : Int) * 256 = ((y * 256 : Nat) : Int) by omega]; exact wrap64_n (by omega)
  have HR := hid hr
  clear hr hx hy hr2
  refine calls_via fun K hK => ?_
  go_enter Tryz.func108, Tryz.ntmps108
  go_upto_region 1 with fail
  go_quiet (fail)
  go_wp2_with fail
  exact hK.out _ _ ⟨rfl, _, rfl⟩
set_option maxRecDepth 100000 in
theorem num_any {w : World} {s : ByteArray} {i : Nat} (hi : i + 2 ≤ s.size) (hs : s.size ≤ 1000000) : Calls Tryz.prog 74 #[.string s, .int .i64 (i : Nat)] w fun e w' => e = .returned (.int .i64 (num2 (bytesOf s) i : Nat)) ∧ ∃ q, w' = w.drewN q := by
  have hii : (i : Int) + 2 ≤ s.size := by omega
  have hsi : (s.size : Int) ≤ 1000000 := by omega
  have b1 := byteI s (k := i) (by omega)
  have b2 := byteI s (k := i + 1) (by omega)
  have h1 := byS_lt s i
  have h2 := byS_lt s (i + 1)
  have hr : num2 (bytesOf s) i = by_ (bytesOf s) i + by_ (bytesOf s) (i + 1) * 256 := rfl
  obtain ⟨x, hx⟩ : ∃ x, x = by_ (bytesOf s) i := ⟨_, rfl⟩
  obtain ⟨y, hy⟩ : ∃ x, x = by_ (bytesOf s) (i + 1) := ⟨_, rfl⟩
  rw [← hx] at b1 h1 hr
  rw [← hy] at b2 h2 hr
  obtain ⟨r, hr2⟩ : ∃ r, r = num2 (bytesOf s) i := ⟨_, rfl⟩
  rw [← hr2] at hr ⊢
  have hxi : (x : Int) < 256 := by omega
  have hyi : (y : Int) < 256 := by omega
  have g1 : (0 : Int) ≤ (i : Int) + 1 := by omega
  have g2 : (i : Int) + 1 < s.size := by omega
  have g3 : ((i : Int) + 1).toNat = i + 1 := by omega
  have g4 : (i : Int) < s.size := by omega
  have e1 : IntKind.i64.wrap (x : Int) = x := wrapI (by omega) (by omega)
  have e2 : IntKind.i64.wrap (y : Int) = y := wrapI (by omega) (by omega)
  have g5 : IntKind.i64.wrap ((i : Int) + 1) = (i : Int) + 1 := wrapI (by omega) (by omega)
  have e3 : (x : Int) + (y : Int) * 256 = (r : Int) := by omega
  have e4 : IntKind.i64.wrap ((y : Int) * 256) = (y : Int) * 256 := wrapI (by omega) (by omega)
  have e5 : IntKind.i64.wrap (r : Int) = (r : Int) := wrapI (by omega) (by omega)
  have e6 : wrap64 (r : Int) = (r : Int) := wrap64_n (by omega)
  have e7 : wrap64 ((y : Int) * 256) = (y : Int) * 256 := by rw [show (y : Int) * 256 = ((y * 256 : Nat) : Int) by omega]; exact wrap64_n (by omega)
  have HR := hid hr
  clear hr hx hy hr2
  refine calls_via fun K hK => ?_
  go_enter Tryz.func74, Tryz.ntmps74
  go_upto_region 1 with fail
  go_quiet (fail)
  go_wp2_with fail
  exact hK.out _ _ ⟨rfl, _, rfl⟩
/-- The trailer. -/
def tailF (raw : List Nat) : Nat × Nat × Nat × Nat :=
  if raw.length < 4 ∨ by_ raw (raw.length - 1) ≠ 90 then (0, 0, 14, 0)
  else if 4 < by_ raw (raw.length - 4) then (0, 0, 17, raw.length - 4)
  else if num2 raw (raw.length - 3) + 2 * by_ raw (raw.length - 4) ≠ raw.length - 4 then (0, 0, 15, raw.length - 3)
  else (by_ raw (raw.length - 4), num2 raw (raw.length - 3), 0, 0)
theorem readA_tail {raw : List Nat} (h : raw.length ≤ 1200) : readA raw = if (tailF raw).2.2.1 ≠ 0 then ((tailF raw).2.2.1, (tailF raw).2.2.2, []) else rowsR raw (tailF raw).2.1 (tailF raw).1 := by
  unfold readA tailF
  rw [if_neg (by omega)]
  by_cases c1 : raw.length < 4 ∨ by_ raw (raw.length - 1) ≠ 90
  · rw [if_pos c1, if_pos c1, if_pos (by decide)]
  · rw [if_neg c1, if_neg c1]
    by_cases c2 : 4 < by_ raw (raw.length - 4)
    · rw [if_pos c2, if_pos c2, if_pos (by simp)]
    · rw [if_neg c2, if_neg c2]
      by_cases c3 : num2 raw (raw.length - 3) + 2 * by_ raw (raw.length - 4) ≠ raw.length - 4
      · rw [if_pos c3, if_pos c3, if_pos (by simp)]
      · rw [if_neg c3, if_neg c3, if_neg (by simp)]
theorem tailF_ok {raw : List Nat} (h : (tailF raw).2.2.1 = 0) : (tailF raw).1 ≤ 4 ∧ (tailF raw).2.1 + 2 * (tailF raw).1 + 4 = raw.length := by
  unfold tailF at h ⊢
  split at h
  · simp at h
  · rename_i c1
    rw [if_neg c1]
    split at h
    · simp at h
    · rename_i c2
      rw [if_neg c2]
      split at h
      · simp at h
      · rename_i c3
        rw [if_neg c3]
        dsimp only
        omega
set_option maxRecDepth 100000 in
set_option maxHeartbeats 4000000 in
theorem tailA_any {w : World} {s : ByteArray} (hs : s.size ≤ 1200) : Calls Tryz.prog 72 #[.string s] w fun e w' => e = .returned (.tuple #[.int .i64 ((tailF (bytesOf s)).1 : Nat), .int .i64 ((tailF (bytesOf s)).2.1 : Nat), .int .i64 ((tailF (bytesOf s)).2.2.1 : Nat), .int .i64 ((tailF (bytesOf s)).2.2.2 : Nat)]) ∧ ∃ q, w' = w.drewN q := by
  have hsi : (s.size : Int) ≤ 1200 := by omega
  have hln : (bytesOf s).length = s.size := bytesOf_len s
  obtain ⟨T, hT⟩ : ∃ z, z = tailF (bytesOf s) := ⟨_, rfl⟩
  have hT2 := hT
  unfold tailF at hT2
  rw [hln] at hT2
  rw [← hT]
  clear hT hln
  by_cases c0 : s.size < 4
  · have c0i : (s.size : Int) - 4 < 0 := by omega
    rw [if_pos (Or.inl c0)] at hT2
    subst hT2
    clear c0
    refine calls_via fun K hK => ?_
    go_enter Tryz.func72, Tryz.ntmps72
    go_wp2_with fail
    refine bodyPost_ret (v := .tuple #[.int .i64 0, .int .i64 0, .int .i64 14, .int .i64 0]) (by simp [results, Tryz.results72, go_sem]) rfl ?_
    exact hK.out _ _ ⟨rfl, 0, rfl⟩
  · obtain ⟨n, hn⟩ : ∃ n, s.size = n + 4 := ⟨s.size - 4, by omega⟩
    have b1 := byteI s (k := n + 3) (by omega)
    have b2 := byteI s (k := n) (by omega)
    have h1 := byS_lt s (n + 3)
    have h2 := byS_lt s n
    rw [show s.size - 1 = n + 3 by omega, show s.size - 4 = n by omega, show s.size - 3 = n + 1 by omega] at hT2
    have hwd : ∀ w, Calls Tryz.prog 108 #[.string s, .int .i64 ((n : Int) + 1)] w fun e w' => e = .returned (.int .i64 (num2 (bytesOf s) (n + 1) : Nat)) ∧ ∃ q, w' = w.drewN q := fun w => by
      have h9 := word_any (w := w) (s := s) (i := n + 1) (by omega) (by omega)
      rw [Int.natCast_add] at h9; exact h9
    obtain ⟨x, hx⟩ : ∃ x, x = by_ (bytesOf s) (n + 3) := ⟨_, rfl⟩
    obtain ⟨y, hy⟩ : ∃ x, x = by_ (bytesOf s) n := ⟨_, rfl⟩
    obtain ⟨r, hr⟩ : ∃ x, x = num2 (bytesOf s) (n + 1) := ⟨_, rfl⟩
    rw [← hx] at b1 h1 hT2
    rw [← hy] at b2 h2 hT2
    rw [← hr] at hwd hT2
    have hrl : r < 65536 := by rw [hr]; unfold num2; have := byS_lt s (n + 1); have := byS_lt s (n + 1 + 1); omega
    have HWD := hid hwd
    have hxi : (x : Int) < 256 := by omega
    have hyi : (y : Int) < 256 := by omega
    have HRL := hid hrl
    have hni : (n : Int) ≤ 1196 := by omega
    have hsn : (s.size : Int) = (n : Int) + 4 := by omega
    have hs4 : (s.size : Int) - 4 = (n : Int) := by omega
    have g1 : (n : Int) + 3 < s.size := by omega
    have g2 : (n : Int) < s.size := by omega
    have g3 : (0 : Int) ≤ (n : Int) + 3 := by omega
    have g4 : ((n : Int) + 3).toNat = n + 3 := by omega
    have e2 : IntKind.i64.wrap (y : Int) = y := wrapI (by omega) (by omega)
    have w2 : wrap64 (y : Int) = y := wrap64_n (by omega)
    clear hwd hx hy hr c0 hsn
    refine calls_via fun K hK => ?_
    go_enter Tryz.func72, Tryz.ntmps72
    by_cases c1 : x = 90
    · subst c1
      rw [if_neg (by omega)] at hT2
      by_cases c2 : 4 < y
      · rw [if_pos c2] at hT2
        subst hT2
        have c2i : (4 : Int) < y := by omega
        clear c2 h1 h2 hrl
        go_wp2_with fail
        refine bodyPost_ret (v := .tuple #[.int .i64 0, .int .i64 0, .int .i64 17, .int .i64 (n : Nat)]) (by simp [results, Tryz.results72, go_sem]) rfl ?_
        exact hK.out _ _ ⟨rfl, 0, rfl⟩
      · have c2i : ¬ (4 : Int) < y := by omega
        rw [if_neg c2] at hT2
        obtain ⟨z, hz⟩ : ∃ z, z = r + 2 * y := ⟨_, rfl⟩
        have z1 : (r : Int) + 2 * (y : Int) = (z : Int) := by omega
        have Z2 := hid (show wrap64 (z : Int) = (z : Int) from wrap64_n (by omega))
        rw [← hz] at hT2
        clear w2 e2
        by_cases c3 : z = n
        · rw [if_neg (fun q => q c3)] at hT2
          have c3i : ((z : Int) == (n : Int)) = true := by rw [c3]; simp
          have c3j : ((z : Int) != (n : Int)) = false := by rw [c3]; simp
          subst hT2
          clear c2 c3 h1 h2 hrl hz
          have z2 := Z2.out
          go_wp2_with fail
          refine (HWD.out w).mono ?_
          rintro e w2 ⟨rfl, q, rfl⟩
          go_wp2_with fail
          refine bodyPost_ret (v := .tuple #[.int .i64 (y : Nat), .int .i64 (r : Nat), .int .i64 0, .int .i64 0]) (by simp [results, Tryz.results72, go_sem]) rfl ?_
          exact hK.out _ _ ⟨rfl, q, rfl⟩
        · rw [if_pos c3] at hT2
          have c3k : ¬ (z : Int) = n := fun q => c3 (Int.ofNat.inj q)
          have c3i : ((z : Int) == (n : Int)) = false := beq_eq_false_iff_ne.2 c3k
          have c3j : ((z : Int) != (n : Int)) = true := by rw [bne, c3i]; rfl
          subst hT2
          clear c2 c3 h1 h2 hrl hz
          have z2 := Z2.out
          go_wp2_with fail
          refine (HWD.out w).mono ?_
          rintro e w2 ⟨rfl, q, rfl⟩
          go_wp2_with fail
          refine bodyPost_ret (v := .tuple #[.int .i64 0, .int .i64 0, .int .i64 15, .int .i64 ((n + 1 : Nat) : Int)]) (by simp [results, Tryz.results72, go_sem]) rfl ?_
          exact hK.out _ _ ⟨rfl, q, rfl⟩
    · have c1i : ((x : Int) == 90) = false := beq_eq_false_iff_ne.2 (by omega)
      have c1k : ¬ (x : Int) = 90 := by omega
      rw [if_pos (Or.inr c1)] at hT2
      subst hT2
      clear h1 h2 hrl c1
      go_wp2_with fail
      refine bodyPost_ret (v := .tuple #[.int .i64 0, .int .i64 0, .int .i64 14, .int .i64 0]) (by simp [results, Tryz.results72, go_sem]) rfl ?_
      exact hK.out _ _ ⟨rfl, 0, rfl⟩
end Go.Proofs.Qxb6500353aGreat
