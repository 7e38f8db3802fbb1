/- The model coder's small functions, walked. -/
import Derived.Test.Qxb6500353aGreatNwz
import Derived.Test.Qxb6500353aGreatPlw
namespace Go.Proofs.Qxb6500353aGreat
open Go.RowKit
set_option linter.unusedVariables false
set_option linter.unusedSimpArgs false

set_option maxRecDepth 100000 in
theorem used_any {w : World} {cg co n ccap : Nat} {c : Nat → Nat} (hc : Cel mkN w cg co n c) (hn : n ≤ 1000) (hcb : ∀ i, i < n → c i ≤ 2000000) :
    Calls Tryz.prog 97 #[.slice (some ⟨cg, co, none⟩) n ccap] w fun e w' => e = .returned (.int .i64 (usedN c n : Nat)) ∧ w' = w := by
  have HC := hid hc
  have HB := hid hcb
  clear hc hcb
  have hni : (n : Int) ≤ 1000 := by omega
  refine calls_via fun K hK => ?_
  go_enter Tryz.func97, Tryz.ntmps97
  go_wp2_with fail
  go_loopg [3, 4] n (fun g uv iv wr => ∃ k : Nat, g + k = n ∧ iv = .int .i64 (k : Nat) ∧ uv = .int .i64 (usedN c k : Nat) ∧ wr = w)
  case atStart => exact ⟨0, by omega, rfl, rfl, rfl⟩
  case round =>
    obtain ⟨k, hgk, rfl, rfl, rfl⟩ := hrel
    by_cases hlt : k < n
    · have hki : (k : Int) < n := by omega
      have x := HC.out k hlt
      have hb := HB.out k hlt
      simp only [mkN] at x
      have hu := used_eq c k
      have hul : usedN c k ≤ k := by
        have : usedN c k ≤ sumTo (fun _ => 1) k := sumTo_le fun i _ => by split <;> omega
        have h2 : sumTo (fun _ => 1) k = k := by
          clear this hu x hki hlt hgk hb
          induction k with
          | zero => rfl
          | succ k ih => rw [sumTo, ih]
        omega
      obtain ⟨u, hue⟩ : ∃ u, u = usedN c k := ⟨_, rfl⟩
      rw [← hue] at hu hul ⊢
      obtain ⟨y, hy⟩ : ∃ y, y = c k := ⟨_, rfl⟩
      rw [← hy] at x hu hb
      have hui : (u : Int) ≤ 1000 := by omega
      by_cases h0 : 0 < y
      · have h0i : (0 : Int) < y := by omega
        rw [if_pos h0] at hu
        have HU := hid hu
        clear hu hue hy hul
        go_wp2_with fail
        go_roundg (gk - 1)
        case measure => omega
        case rel => exact ⟨k + 1, by omega, by simp, by rw [HU.out], rfl⟩
      · have h0i : ¬ (0 : Int) < y := by omega
        rw [if_neg h0] at hu
        have HU := hid hu
        clear hu hue hy hul
        go_wp2_with fail
        go_roundg (gk - 1)
        case measure => omega
        case rel => exact ⟨k + 1, by omega, by simp, by rw [HU.out]; simp, rfl⟩
    · have hki : ¬ (k : Int) < n := by omega
      have hk : k = n := by omega
      subst hk
      go_wp2_with fail
      exact hK.out _ _ ⟨rfl, rfl⟩
set_option maxRecDepth 100000 in
theorem turn_any (v n : Nat) (hv : v < 1048576) (hn : n ≤ 20) (w : World) : Calls Tryz.prog 132 #[.int .i64 v, .int .i64 n] w fun e w' => e = .returned (.int .i64 (rev n v : Nat)) ∧ w' = w := by
  have hni : (n : Int) ≤ 20 := by omega
  refine calls_via fun K hK => ?_
  go_enter Tryz.func132, Tryz.ntmps132
  go_wp2_with fail
  go_loopg [5, 6] n (fun g rv kv wr => ∃ k : Nat, g + k = n ∧ wr = w ∧ kv = .int .i64 (k : Nat) ∧ rv = .int .i64 ((rev k v : Nat) : Int))
  case atStart => exact ⟨0, by omega, rfl, rfl, rfl⟩
  case round =>
    obtain ⟨k, hgk, rfl, rfl, rfl⟩ := hrel
    have hr := rev_lt k v
    have h2 : 2 ^ k ≤ 2 ^ 20 := Nat.pow_le_pow_right (by decide) (by omega)
    have hd : v / 2 ^ k ≤ v := Nat.div_le_self _ _
    have hrs : rev (k + 1) v = 2 * rev k v + v / 2 ^ k % 2 := rfl
    have hsh : (v : Int) / 2 ^ k = ((v / 2 ^ k : Nat) : Int) := powI v k
    obtain ⟨p, hp⟩ : ∃ p, p = 2 ^ k := ⟨_, rfl⟩
    rw [← hp] at hr h2 hd hrs hsh
    obtain ⟨q, hq⟩ : ∃ q, q = v / p := ⟨_, rfl⟩
    obtain ⟨r, hrr⟩ : ∃ r, r = rev k v := ⟨_, rfl⟩
    rw [← hq] at hd hrs hsh
    rw [← hrr] at hr hrs ⊢
    have h20 : (2 : Nat) ^ 20 = 1048576 := rfl
    rw [h20] at h2
    by_cases h0 : k < n
    · have h0i : (k : Int) < n := by clear hsh; omega
      have hk20 : (k : Int) ≤ 20 := by clear hsh; omega
      have hq2 : q < 1048576 := by clear hsh; omega
      have hr2 : r < 1048576 := by clear hsh; omega
      have e1 : bits .and .i64 (q : Int) 1 = ((q % 2 : Nat) : Int) := by clear hsh; exact mask1 (by omega)
      have e2 : bits .or .i64 ((r : Int) * 2) ((q : Int) % 2) = ((2 * r + q % 2 : Nat) : Int) := by
        clear hsh
        rw [show (r : Int) * 2 = ((r * 2 : Nat) : Int) by omega, show (q : Int) % 2 = ((q % 2 : Nat) : Int) by omega, orI (by omega) (by omega), or1 _ _ (by omega)]
      have e2b : bits .or .i64 ((r : Int) * 2) ((q % 2 : Nat) : Int) = ((2 * r + q % 2 : Nat) : Int) := by
        clear hsh
        rw [show (r : Int) * 2 = ((r * 2 : Nat) : Int) by omega, orI (by omega) (by omega), or1 _ _ (by omega)]
      have hri : (r : Int) < 1048576 := by clear hsh; omega
      have hqi : (q : Int) < 1048576 := by clear hsh; omega
      have HRS := hid hrs
      have HG := hid (And.intro hgk h0)
      clear hp hq hrr hrs hr h2 hd hgk h0 hq2 hr2
      go_wp2_with fail
      go_roundg (gk - 1)
      case measure => have := HG.out; clear hsh; omega
      case rel =>
        refine ⟨k + 1, by have := HG.out; clear hsh; omega, rfl, by simp, by rw [HRS.out]; simp⟩
    · have h0i : ¬ (k : Int) < n := by clear hsh; omega
      have hkn : k = n := by clear hsh; omega
      subst hkn
      clear hrs hp hq hr h2 hd hsh
      go_wp2_with fail
      exact hK.out _ _ ⟨by rw [← hrr], rfl⟩
set_option maxRecDepth 100000 in
theorem kraftm_any {w : World} {cg co n ccap : Nat} {c : Nat → Nat} (hc : Cel mkN w cg co n c) (hn : n ≤ 1000) (hcb : ∀ i, i < n → c i ≤ 10) :
    Calls Tryz.prog 159 #[.slice (some ⟨cg, co, none⟩) n ccap] w fun e w' => e = .returned (.int .i64 (kr n c : Nat)) ∧ w' = w := by
  have HC := hid hc
  have HB := hid hcb
  clear hc hcb
  have hni : (n : Int) ≤ 1000 := by omega
  refine calls_via fun K hK => ?_
  go_enter Tryz.func159, Tryz.ntmps159
  go_wp2_with fail
  go_loopg [3, 4] n (fun g uv iv wr => ∃ k : Nat, g + k = n ∧ iv = .int .i64 (k : Nat) ∧ uv = .int .i64 (kr k c : Nat) ∧ wr = w)
  case atStart => exact ⟨0, by omega, rfl, rfl, rfl⟩
  case round =>
    obtain ⟨k, hgk, rfl, rfl, rfl⟩ := hrel
    by_cases hlt : k < n
    · have hki : (k : Int) < n := by omega
      have x := HC.out k hlt
      have hb := HB.out k hlt
      simp only [mkN] at x
      have hu := kr_succ k c
      have hul := kr_le k c
      obtain ⟨u, hue⟩ : ∃ u, u = kr k c := ⟨_, rfl⟩
      rw [← hue] at hu hul ⊢
      obtain ⟨y, hy⟩ : ∃ y, y = c k := ⟨_, rfl⟩
      rw [← hy] at x hu hb
      have hui : (u : Int) ≤ 1024000 := by omega
      by_cases h0 : 0 < y
      · have h0i : (0 : Int) < y := by omega
        have hsh := shl10 (x := y) (by omega) (by omega)
        have hub := unit10_le y
        obtain ⟨p, hp⟩ : ∃ p, p = unit10 y := ⟨_, rfl⟩
        rw [← hp] at hu hsh hub
        obtain ⟨d, hd⟩ : ∃ d, d = 10 - y := ⟨_, rfl⟩
        rw [← hd] at hsh
        have hdi : (10 : Int) - (y : Int) = (d : Int) := by clear hsh; omega
        have hd0 : (d : Int) ≤ 10 := by clear hsh; omega
        have hpi : (p : Int) ≤ 1024 := by clear hsh; omega
        have HU := hid hu
        have HG := hid (And.intro hgk hlt)
        clear hu hue hy hul hp hd hub hgk hlt hb
        go_wp2_with fail
        go_roundg (gk - 1)
        case measure => have := HG.out; clear hsh; omega
        case rel => exact ⟨k + 1, by have := HG.out; clear hsh; omega, by simp, by rw [HU.out]; simp, rfl⟩
      · have h0i : ¬ (0 : Int) < y := by omega
        have hy0 : y = 0 := by omega
        have hu1 : kr (k + 1) c = u := by rw [hu, hy0]; rfl
        have HU := hid hu1
        clear hu hu1 hue hy hul hy0
        go_wp2_with fail
        go_roundg (gk - 1)
        case measure => omega
        case rel => exact ⟨k + 1, by omega, by simp, by rw [HU.out], rfl⟩
    · have hki : ¬ (k : Int) < n := by omega
      have hk : k = n := by omega
      subst hk
      go_wp2_with fail
      exact hK.out _ _ ⟨rfl, rfl⟩
end Go.Proofs.Qxb6500353aGreat
