/- The model's matcher: Best, walked. -/
import Derived.Test.Qxb6500353aGreatHsw
import Derived.Deep.DeepCutAuto
import Derived.Deep.Cut
namespace Go.Proofs.Qxb6500353aGreat
open Go.RowKit
set_option linter.unusedVariables false
set_option linter.unusedSimpArgs false

theorem bestS_succ (s : List Nat) (i d : Nat) : bestS s i (d + 1) = if d + 1 ≤ i ∧ (bestS s i d).1 < agF s i (d + 1) then (agF s i (d + 1), d + 1) else bestS s i d := rfl
theorem bestS_far (s : List Nat) (i k m : Nat) (h : i ≤ k) : bestS s i (k + m) = bestS s i k := by
  induction m with
  | zero => rfl
  | succ m ih => rw [← Nat.add_assoc, bestS_succ, if_neg (by omega), ih]
set_option maxRecDepth 100000 in
set_option maxHeartbeats 4000000 in
theorem best_any {w : World} {s : ByteArray} {i : Nat} (hi : i ≤ s.size) (hs : s.size ≤ 1000000) :
    Calls Tryz.prog 94 #[.string s, .int .i64 i] w fun e w' => e = .returned (.tuple #[.int .i64 ((bestF (bytesOf s) i).1 : Nat), .int .i64 ((bestF (bytesOf s) i).2 : Nat)]) ∧ ∃ n, w' = w.drewN n := by
  have HI := hid hi
  have hii : (i : Int) ≤ s.size := by omega
  have hsi : (s.size : Int) ≤ 1000000 := by omega
  clear hi
  refine calls_via fun K hK => ?_
  go_enter Tryz.func94, Tryz.ntmps94
  go_wp2_with fail
  go_loopg [6, 7, 8] 17 (fun g bv cv v wr => ∃ d k N : Nat, v = .int .i64 (d : Nat) ∧ d = k + 1 ∧ g + k = 17 ∧ k ≤ 16 ∧ (k ≤ i ∨ k = 0) ∧ bv = .int .i64 ((bestS (bytesOf s) i k).1 : Nat) ∧ cv = .int .i64 ((bestS (bytesOf s) i k).2 : Nat) ∧ wr = w.drewN N)
  case atStart => exact ⟨1, 0, 0, rfl, rfl, by omega, by omega, .inr rfl, rfl, rfl, rfl⟩
  case round =>
    obtain ⟨d, k, N, rfl, hdk, hg, hk16, hki, rfl, rfl, rfl⟩ := hrel
    obtain ⟨gO, hgO⟩ : ∃ g, g = gk := ⟨_, rfl⟩
    rw [← hgO] at hg
    have HGG := hid hgO
    have HG := hid hg
    have HKI := hid hki
    have HDK := hid hdk
    have hbs := bestS_spec (bytesOf s) i k
    obtain ⟨bl, hbl⟩ : ∃ z, z = (bestS (bytesOf s) i k).1 := ⟨_, rfl⟩
    obtain ⟨bd, hbd⟩ : ∃ z, z = (bestS (bytesOf s) i k).2 := ⟨_, rfl⟩
    have hbl10 : bl ≤ 10 := by
      rw [hbl]; rcases hbs.2 with h | ⟨_, _, _, d, _⟩
      · omega
      · rw [← d]; exact agF_le _ _ _
    have hbd16 : bd ≤ 16 := by rw [hbd]; rcases hbs.2 with h | h <;> omega
    rw [← hbl, ← hbd]
    have hbli : (bl : Int) ≤ 10 := by omega
    have hbdi : (bd : Int) ≤ 16 := by omega
    have hd1 : (1 : Int) ≤ d := by omega
    have hd17 : (d : Int) ≤ 17 := by omega
    have HB := hid (And.intro hbl hbd)
    by_cases hgo : d ≤ 16 ∧ d ≤ i
    · have hd1 : (d : Int) ≤ 16 := by omega
      have hd2 : (d : Int) ≤ i := by omega
      have HGO := hid hgo
      clear hg hk16 hki hbs hbl hbd hbl10 hbd16 hgo hdk hgO
      have HAG : Hid (agF (bytesOf s) i d ≤ 10 ∧ bestS (bytesOf s) i d = if bl < agF (bytesOf s) i d then (agF (bytesOf s) i d, d) else bestS (bytesOf s) i k) := hid (by
        refine ⟨agF_le _ _ _, ?_⟩
        rw [HDK.out, bestS_succ, ← HB.out.1, ← HDK.out]
        by_cases q : bl < agF (bytesOf s) i d
        · rw [if_pos q, if_pos ⟨HGO.out.2, q⟩]
        · rw [if_neg q, if_neg (fun h => q h.2)])
      obtain ⟨ag, hag⟩ : ∃ z, z = agF (bytesOf s) i d := ⟨_, rfl⟩
      rw [← hag] at HAG
      have HAGE := hid hag
      clear hag
      go_wp2_with fail
      go_loopg [9] 10 (fun g v wr => ∃ m M : Nat, v = .int .i64 (m : Nat) ∧ g + m = 10 ∧ i + m ≤ s.size ∧ (∀ q, q < m → by_ (bytesOf s) (i + q) = by_ (bytesOf s) (i + q - d)) ∧ wr = w.drewN M)
      case atStart => exact ⟨0, N, rfl, by omega, by have := HI.out; omega, fun m hm => by omega, rfl⟩
      case round =>
        obtain ⟨m, M, rfl, hg, him, hA, rfl⟩ := hrel
        have HA := hid hA
        have HGM := hid (And.intro hg him)
        have hmi : (m : Int) ≤ 10 := by omega
        have himi : (i : Int) + m ≤ s.size := by omega
        have hend : (m = 10 ∨ i + m = s.size ∨ by_ (bytesOf s) (i + m) ≠ by_ (bytesOf s) (i + m - d)) → m = ag := by
          intro h
          rw [HAGE.out]
          exact (agF_uniq _ _ _ _ (by omega) (by rw [bytesOf_len]; omega) hA (by rw [bytesOf_len]; exact h)).symm
        have HE := hid hend
        have HFIN : Hid (∀ N2 : Nat, ag ≤ bl → ∃ d2 k2 N3 : Nat, (Value.int .i64 ((d : Int) + 1)) = .int .i64 (d2 : Nat) ∧ d2 = k2 + 1 ∧ gO - 1 + k2 = 17 ∧ k2 ≤ 16 ∧ (k2 ≤ i ∨ k2 = 0) ∧ (Value.int .i64 (bl : Nat)) = .int .i64 ((bestS (bytesOf s) i k2).1 : Nat) ∧ (Value.int .i64 (bd : Nat)) = .int .i64 ((bestS (bytesOf s) i k2).2 : Nat) ∧ w.drewN N2 = w.drewN N3) := hid (by
          intro N2 hle
          have h7 := HAG.out.2
          rw [if_neg (by omega)] at h7
          refine ⟨d + 1, d, N2, by simp, rfl, by have := HG.out; have := HDK.out; have := HGO.out; omega, HGO.out.1, .inl HGO.out.2, ?_, ?_, rfl⟩
          · rw [h7, ← HB.out.1]
          · rw [h7, ← HB.out.2])
        have HFIN2 : Hid (∀ N2 : Nat, bl < ag → ∃ d2 k2 N3 : Nat, (Value.int .i64 ((d : Int) + 1)) = .int .i64 (d2 : Nat) ∧ d2 = k2 + 1 ∧ gO - 1 + k2 = 17 ∧ k2 ≤ 16 ∧ (k2 ≤ i ∨ k2 = 0) ∧ (Value.int .i64 (ag : Nat)) = .int .i64 ((bestS (bytesOf s) i k2).1 : Nat) ∧ (Value.int .i64 (d : Nat)) = .int .i64 ((bestS (bytesOf s) i k2).2 : Nat) ∧ w.drewN N2 = w.drewN N3) := hid (by
          intro N2 hle
          have h7 := HAG.out.2
          rw [if_pos hle] at h7
          refine ⟨d + 1, d, N2, by simp, rfl, by have := HG.out; have := HDK.out; have := HGO.out; omega, HGO.out.1, .inl HGO.out.2, ?_, ?_, rfl⟩
          · rw [h7]
          · rw [h7])
        by_cases h10 : m < 10
        · have h10i : (m : Int) < 10 := by omega
          have h10d : decide ((m : Int) < 10) = true := decide_eq_true h10i
          by_cases hl : i + m < s.size
          · have hli : (i : Int) + m < s.size := by omega
            have hld : decide ((i : Int) + m < s.size) = true := decide_eq_true hli
            have hl2 : i + m - d < s.size := by omega
            have b1 := byteI s hl
            have b2 := byteI s hl2
            have h1 := byS_lt s (i + m)
            have h2 := byS_lt s (i + m - d)
            obtain ⟨x, hx⟩ : ∃ x, x = by_ (bytesOf s) (i + m) := ⟨_, rfl⟩
            obtain ⟨y, hy⟩ : ∃ x, x = by_ (bytesOf s) (i + m - d) := ⟨_, rfl⟩
            rw [← hx] at b1 h1
            rw [← hy] at b2 h2
            have z1 : (0 : Int) ≤ (i : Int) + m := by omega
            have z2 : (d : Int) ≤ (i : Int) + m := by omega
            have z3 : (i : Int) + m - d < s.size := by omega
            by_cases he : x = y
            · have he2 : ((x : Int) == y) = true := by simp [he]
              have HX := hid (hx.symm.trans (he.trans hy))
              clear hA hg hend hx hy he h10 him
              go_wp2_with fail
              go_quiet (fail)
              go_wp2_with fail
              go_roundg (gk - 1)
              case measure => have := HGM.out; omega
              case rel =>
                refine ⟨m + 1, _, by simp, by have := HGM.out; omega, by omega, fun q hq => ?_, by first | rfl | (repeat rw [World.drewN_drewN])⟩
                by_cases e : q = m
                · subst e; exact HX.out
                · exact HA.out q (by omega)
            · have he2 : ((x : Int) == y) = false := by simp; omega
              have hr := hend (.inr (.inr (by rw [← hx, ← hy]; exact he)))
              clear hA hg hend hx hy he h10 him HE HA HGM
              subst hr
              by_cases hlt : bl < m
              · have hlti : (bl : Int) < m := by omega
                go_wp2_with fail
                go_quiet (fail)
                go_wp2_with fail
                go_roundg (gO - 1)
                case measure => have := HGG.out; have := HG.out; have := HDK.out; have := HGO.out; omega
                case rel => exact HFIN2.out _ hlt
              · have hlti : ¬ (bl : Int) < m := by omega
                go_wp2_with fail
                go_quiet (fail)
                go_wp2_with fail
                go_roundg (gO - 1)
                case measure => have := HGG.out; have := HG.out; have := HDK.out; have := HGO.out; omega
                case rel => exact HFIN.out _ (by omega)
          · have hli : ¬ (i : Int) + m < s.size := by omega
            have hld : decide ((i : Int) + m < s.size) = false := decide_eq_false hli
            have hr := hend (.inr (.inl (by omega)))
            clear hA hg hend h10 him HE HA HGM hl
            subst hr
            by_cases hlt : bl < m
            · have hlti : (bl : Int) < m := by omega
              go_wp2_with fail
              go_quiet (fail)
              go_wp2_with fail
              go_roundg (gO - 1)
              case measure => have := HGG.out; have := HG.out; have := HDK.out; have := HGO.out; omega
              case rel => exact HFIN2.out _ hlt
            · have hlti : ¬ (bl : Int) < m := by omega
              go_wp2_with fail
              go_quiet (fail)
              go_wp2_with fail
              go_roundg (gO - 1)
              case measure => have := HGG.out; have := HG.out; have := HDK.out; have := HGO.out; omega
              case rel => exact HFIN.out _ (by omega)
        · have h10i : ¬ (m : Int) < 10 := by omega
          have h10d : decide ((m : Int) < 10) = false := decide_eq_false h10i
          have hr := hend (.inl (by omega))
          clear hA hg hend h10 him HE HA HGM
          subst hr
          by_cases hlt : bl < m
          · have hlti : (bl : Int) < m := by omega
            go_wp2_with fail
            go_quiet (fail)
            go_wp2_with fail
            go_roundg (gO - 1)
            case measure => have := HGG.out; have := HG.out; have := HDK.out; have := HGO.out; omega
            case rel => exact HFIN2.out _ hlt
          · have hlti : ¬ (bl : Int) < m := by omega
            go_wp2_with fail
            go_quiet (fail)
            go_wp2_with fail
            go_roundg (gO - 1)
            case measure => have := HGG.out; have := HG.out; have := HDK.out; have := HGO.out; omega
            case rel => exact HFIN.out _ (by omega)
    · have hbf : bestS (bytesOf s) i 16 = bestS (bytesOf s) i k := by
        by_cases e : k = 16
        · rw [e]
        · have := bestS_far (bytesOf s) i k (16 - k) (by omega)
          rw [show k + (16 - k) = 16 by omega] at this; exact this
      have hres : bestF (bytesOf s) i = if bl < 3 then (0, 0) else (bl, bd) := by
        unfold bestF; rw [hbf, ← hbl]; split
        · rfl
        · rw [hbl, hbd]
      have HRES := hid hres
      have hor : 16 < d ∨ ¬ 16 < d ∧ i < d := by omega
      clear hg hk16 hki hbs hbl hbd hbl10 hbd16 hgo hdk hgO hbf hres
      by_cases h3 : bl < 3
      · have h3i : (bl : Int) < 3 := by omega
        rcases hor with h | ⟨h, h'⟩
        · have h16 : ¬ (d : Int) ≤ 16 := by omega
          go_wp2_with fail
          exact hK.out _ _ ⟨by rw [HRES.out, if_pos h3]; rfl, _, rfl⟩
        · have h16 : (d : Int) ≤ 16 := by omega
          have h17 : ¬ (d : Int) ≤ i := by omega
          go_wp2_with fail
          exact hK.out _ _ ⟨by rw [HRES.out, if_pos h3]; rfl, _, rfl⟩
      · have h3i : ¬ (bl : Int) < 3 := by omega
        rcases hor with h | ⟨h, h'⟩
        · have h16 : ¬ (d : Int) ≤ 16 := by omega
          go_wp2_with fail
          exact hK.out _ _ ⟨by rw [HRES.out, if_neg h3], _, rfl⟩
        · have h16 : (d : Int) ≤ 16 := by omega
          have h17 : ¬ (d : Int) ≤ i := by omega
          go_wp2_with fail
          exact hK.out _ _ ⟨by rw [HRES.out, if_neg h3], _, rfl⟩
end Go.Proofs.Qxb6500353aGreat
