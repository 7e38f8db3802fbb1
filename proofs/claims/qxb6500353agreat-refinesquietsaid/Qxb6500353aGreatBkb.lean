/- The encoder: bodies, walked. -/
import Derived.Test.Qxb6500353aGreatApi
import Derived.Test.Qxb6500353aGreatHpw
namespace Go.Proofs.Qxb6500353aGreat
open Go.RowKit
set_option linter.unusedVariables false
set_option linter.unusedSimpArgs false

def bodyG (c l : Nat → Nat) (s : Nat) : Nat := c s * l s + if 265 ≤ s then c s * moreOf s else 0
theorem bodyBits_def (c l : Nat → Nat) : bodyBits c l = sumTo (bodyG c l) 273 := rfl
theorem sumTo_succ (f : Nat → Nat) (n : Nat) : sumTo f (n + 1) = sumTo f n + f n := rfl
theorem sumTo_bound (f : Nat → Nat) (B : Nat) (n : Nat) (h : ∀ i, i < n → f i ≤ B) : sumTo f n ≤ n * B := by
  induction n with
  | zero => simp [sumTo]
  | succ n ih =>
    have h1 := ih fun i hi => h i (by omega)
    have h2 := h n (by omega)
    rw [sumTo_succ, Nat.add_mul]; omega
theorem moreOf_le (s : Nat) : moreOf s ≤ 2 := by unfold moreOf distBase; split; omega; split <;> simp
theorem bodyG_lo {c l : Nat → Nat} {s : Nat} (h : s < 265) : bodyG c l s = c s * l s := by unfold bodyG; rw [if_neg (by omega)]; rfl
theorem bodyG_hi {c l : Nat → Nat} {k : Nat} : bodyG c l (265 + k) = c (265 + k) * (l (265 + k) + (distBase k).2) := by
  unfold bodyG moreOf; rw [if_pos (by omega), Nat.add_sub_cancel_left, Nat.mul_add]
theorem bodyG_le {c l : Nat → Nat} {s : Nat} (h1 : c s ≤ 600) (h2 : l s ≤ 10) : bodyG c l s ≤ 7200 := by
  unfold bodyG
  have a : c s * l s ≤ 600 * 10 := Nat.mul_le_mul h1 h2
  have b : c s * moreOf s ≤ 600 * 2 := Nat.mul_le_mul h1 (moreOf_le s)
  split <;> omega
theorem fixL_lo {s : Nat} (h : s < 265) : len fixL s = fixedLen s := by unfold fixL; rw [len_append_left (by rw [fixA_length]; exact h), fixA_len h]
theorem fixL_hi {k : Nat} (h : k < 8) : len fixL (265 + k) = 3 := by unfold fixL; rw [len_append_right fixA_length (by omega), Nat.add_sub_cancel_left, fixB_len h]
theorem fixedLen_le (s : Nat) : fixedLen s ≤ 9 := by unfold fixedLen; split <;> omega
theorem fixL_le (s : Nat) : len fixL s ≤ 10 := lens_le fixA_ok fixB_ok s
theorem wmul {n f A B : Nat} (h : n ≤ A) (h2 : f ≤ B) (hAB : A * B ≤ 1000000) : wrap64 ((n : Int) * f) = ((n * f : Nat) : Int) ∧ n * f ≤ A * B := by
  have : n * f ≤ A * B := Nat.mul_le_mul h h2
  refine ⟨?_, this⟩
  rw [← Int.natCast_mul]; exact wrap64_n (by omega)
set_option maxRecDepth 100000 in
set_option maxHeartbeats 4000000 in
theorem bodies_any {w : World} {b : Nat} {R : PkR} (h : PkAt w b R) (hcb : ∀ s, s < 273 → R.count s ≤ 600) (hpb : ∀ s, s < 273 → R.plan s ≤ 10) :
    Calls Tryz.prog 120 #[ptrV b] w fun e w' => e = .returned (.tuple #[.int .i64 (bodyBits R.count (len fixL) : Nat), .int .i64 (bodyBits R.count R.plan : Nat)]) ∧ w' = w := by
  have c0 := h.p_count
  have c1 := h.p_plan
  have H := hid h
  have HCB := hid hcb
  have HPB := hid hpb
  rw [bodyBits_def, bodyBits_def]
  have HB1 : Hid (∀ k, k ≤ 273 → sumTo (bodyG R.count (len fixL)) k ≤ 2000000) := hid fun k hk => by
    have := sumTo_bound (bodyG R.count (len fixL)) 7200 k (fun i hi => bodyG_le (hcb i (by omega)) (fixL_le i)); omega
  have HB2 : Hid (∀ k, k ≤ 273 → sumTo (bodyG R.count R.plan) k ≤ 2000000) := hid fun k hk => by
    have := sumTo_bound (bodyG R.count R.plan) 7200 k (fun i hi => bodyG_le (hcb i (by omega)) (hpb i (by omega))); omega
  have HG1 : Hid (∀ k, k < 265 → bodyG R.count (len fixL) k = R.count k * fixedLen k) := hid fun k hk => by rw [bodyG_lo hk, fixL_lo hk]
  have HG2 : Hid (∀ k, k < 265 → bodyG R.count R.plan k = R.count k * R.plan k) := hid fun k hk => bodyG_lo hk
  have HG3 : Hid (∀ k, k < 8 → bodyG R.count (len fixL) (265 + k) = R.count (265 + k) * (3 + (distBase k).2)) := hid fun k hk => by rw [bodyG_hi, fixL_hi hk]
  have HG4 : Hid (∀ k, bodyG R.count R.plan (265 + k) = R.count (265 + k) * (R.plan (265 + k) + (distBase k).2)) := hid fun k => bodyG_hi
  obtain ⟨G1, hG1⟩ : ∃ G, G = bodyG R.count (len fixL) := ⟨_, rfl⟩
  obtain ⟨G2, hG2⟩ : ∃ G, G = bodyG R.count R.plan := ⟨_, rfl⟩
  rw [← hG1] at HB1 HG1 HG3 ⊢
  rw [← hG2] at HB2 HG2 HG4 ⊢
  clear h hcb hpb hG1 hG2
  refine calls_via fun K hK => ?_
  unfold ptrV
  go_enter Tryz.func120, Tryz.ntmps120
  go_wp2_with fail
  go_loopg [4, 5, 6] 265 (fun g fv dv v wr => ∃ k : Nat, v = .int .i64 (k : Nat) ∧ g + k = 265 ∧ fv = .int .i64 (sumTo G1 k : Nat) ∧ dv = .int .i64 (sumTo G2 k : Nat) ∧ wr = w)
  case atStart => exact ⟨0, rfl, by omega, rfl, rfl, rfl⟩
  case round =>
    obtain ⟨k, rfl, hg, rfl, rfl, rfl⟩ := hrel
    have HG := hid hg
    have hb1 := HB1.out k (by omega)
    have hb2 := HB2.out k (by omega)
    have hs1 := sumTo_succ G1 k
    have hs2 := sumTo_succ G2 k
    obtain ⟨x1, hx1⟩ : ∃ x, x = sumTo G1 k := ⟨_, rfl⟩
    obtain ⟨x2, hx2⟩ : ∃ x, x = sumTo G2 k := ⟨_, rfl⟩
    rw [← hx1] at hb1 hs1 ⊢
    rw [← hx2] at hb2 hs2 ⊢
    have hb1i : (x1 : Int) ≤ 2000000 := by omega
    have hb2i : (x2 : Int) ≤ 2000000 := by omega
    by_cases hk : k < 265
    · have hki : (k : Int) < 265 := by omega
      have cc := H.out.a_count.cell k (by omega)
      have cp := H.out.a_plan.cell k (by omega)
      simp only [mkN] at cc cp
      rw [HG1.out k hk] at hs1
      rw [HG2.out k hk] at hs2
      have hc6 := HCB.out k (by omega)
      have hp10 := HPB.out k (by omega)
      have hf9 := fixedLen_le k
      have HFL := hid (fun w => fixedLen_any (w := w) (s := k))
      obtain ⟨n, hn⟩ : ∃ n, n = R.count k := ⟨_, rfl⟩
      obtain ⟨p, hp⟩ : ∃ n, n = R.plan k := ⟨_, rfl⟩
      obtain ⟨f, hf⟩ : ∃ n, n = fixedLen k := ⟨_, rfl⟩
      rw [← hn] at cc hs1 hs2 hc6
      rw [← hp] at cp hs2 hp10
      rw [← hf] at hs1 hf9 HFL
      have hni : (n : Int) ≤ 600 := by omega
      have hpi : (p : Int) ≤ 10 := by omega
      have hfi : (f : Int) ≤ 9 := by omega
      obtain ⟨m1, q1⟩ := wmul hc6 hf9 (by decide)
      obtain ⟨m2, q2⟩ := wmul hc6 hp10 (by decide)
      obtain ⟨y1, hy1⟩ : ∃ y, y = n * f := ⟨_, rfl⟩
      obtain ⟨y2, hy2⟩ : ∃ y, y = n * p := ⟨_, rfl⟩
      rw [← hy1] at q1
      rw [← hy2] at q2
      rw [← hy1] at m1 hs1
      rw [← hy2] at m2 hs2
      have hy1i : (y1 : Int) ≤ 5400 := by clear m1 m2; omega
      have hy2i : (y2 : Int) ≤ 6000 := by clear m1 m2; omega
      have HS := hid (And.intro hs1 hs2)
      by_cases hn0 : 0 < n
      · have hn0i : (0 : Int) < n := by omega
        clear hx1 hx2 hb1 hb2 hs1 hs2 hg hn hp hf hc6 hp10 hf9 hy1 hy2 q1 q2 hn0
        go_wp2_with (go_at_call 100; refine (HFL.out _).mono ?_; rintro e w' ⟨rfl, hw⟩; have hw2 := hw; subst hw2; clear hw)
        go_roundg (gk - 1)
        case measure => have := HG.out; omega
        case rel => exact ⟨k + 1, by simp, by have := HG.out; omega, by rw [HS.out.1]; simp, by rw [HS.out.2]; simp, rfl⟩
      · have hn0i : ¬ (0 : Int) < n := by omega
        have hnz : n = 0 := by omega
        rw [hnz, Nat.zero_mul] at hy1 hy2
        rw [hy1] at hs1
        rw [hy2] at hs2
        have HS := hid (And.intro hs1 hs2)
        clear hx1 hx2 hb1 hb2 hs1 hs2 hg hn hp hf hc6 hp10 hf9 hy1 hy2 q1 q2 hn0 hnz m1 m2
        go_wp2_with fail
        go_roundg (gk - 1)
        case measure => have := HG.out; omega
        case rel => exact ⟨k + 1, by simp, by have := HG.out; omega, by rw [HS.out.1]; simp, by rw [HS.out.2]; simp, rfl⟩
    · have hki : ¬ (k : Int) < 265 := by omega
      have hkk : k = 265 := by omega
      subst hkk
      have HX := hid (And.intro hx1 hx2)
      clear hx1 hx2 hb1 hb2 hs1 hs2 hg hk
      go_wp2_with fail
      go_loopg [4, 5, 9] 8 (fun g fv dv v w2 => ∃ k : Nat, v = .int .i64 (k : Nat) ∧ g + k = 8 ∧ fv = .int .i64 (sumTo G1 (265 + k) : Nat) ∧ dv = .int .i64 (sumTo G2 (265 + k) : Nat) ∧ w2 = wr)
      case atStart => exact ⟨0, rfl, by omega, by rw [HX.out.1], by rw [HX.out.2], rfl⟩
      case round =>
        clear hki
        obtain ⟨k, rfl, hg, rfl, rfl, rfl⟩ := hrel
        have HG := hid hg
        have hb1 := HB1.out (265 + k) (by omega)
        have hb2 := HB2.out (265 + k) (by omega)
        have hs1 := sumTo_succ G1 (265 + k)
        have hs2 := sumTo_succ G2 (265 + k)
        obtain ⟨x1, hx1⟩ : ∃ x, x = sumTo G1 (265 + k) := ⟨_, rfl⟩
        obtain ⟨x2, hx2⟩ : ∃ x, x = sumTo G2 (265 + k) := ⟨_, rfl⟩
        rw [← hx1] at hb1 hs1 ⊢
        rw [← hx2] at hb2 hs2 ⊢
        have hb1i : (x1 : Int) ≤ 2000000 := by omega
        have hb2i : (x2 : Int) ≤ 2000000 := by omega
        by_cases hk : k < 8
        · have hki : (k : Int) < 8 := by omega
          have cc := H.out.a_count.cell (265 + k) (by omega)
          have cp := H.out.a_plan.cell (265 + k) (by omega)
          simp only [mkN] at cc cp
          rw [HG3.out k hk] at hs1
          rw [HG4.out k] at hs2
          have hc6 := HCB.out (265 + k) (by omega)
          have hp10 := HPB.out (265 + k) (by omega)
          have hm2 : (distBase k).2 ≤ 2 := by unfold distBase; split; omega; split <;> simp
          have HFL := hid (fun w => distBase_any (w := w) hk)
          have hd16 : (distBase k).1 ≤ 16 := by unfold distBase; split; simp only; omega; split <;> simp only <;> omega
          obtain ⟨n, hn⟩ : ∃ n, n = R.count (265 + k) := ⟨_, rfl⟩
          obtain ⟨p, hp⟩ : ∃ n, n = R.plan (265 + k) := ⟨_, rfl⟩
          obtain ⟨f, hf⟩ : ∃ n, n = (distBase k).2 := ⟨_, rfl⟩
          obtain ⟨bs, hbs⟩ : ∃ n, n = (distBase k).1 := ⟨_, rfl⟩
          rw [← hn] at cc hs1 hs2 hc6
          rw [← hp] at cp hs2 hp10
          rw [← hf] at hs1 hs2 hm2 HFL
          rw [← hbs] at HFL
          have hni : (n : Int) ≤ 600 := by omega
          have hpi : (p : Int) ≤ 10 := by omega
          have hfi : (f : Int) ≤ 2 := by omega
          obtain ⟨m1, q1⟩ := wmul (n := n) (f := 3 + f) hc6 (show 3 + f ≤ 5 by omega) (by decide)
          obtain ⟨m2, q2⟩ := wmul (n := n) (f := p + f) hc6 (show p + f ≤ 12 by omega) (by decide)
          obtain ⟨y1, hy1⟩ : ∃ y, y = n * (3 + f) := ⟨_, rfl⟩
          obtain ⟨y2, hy2⟩ : ∃ y, y = n * (p + f) := ⟨_, rfl⟩
          rw [← hy1] at q1 m1 hs1
          rw [← hy2] at q2 m2 hs2
          rw [Int.natCast_add] at m1 m2
          replace m1 : wrap64 ((n : Int) * (3 + (f : Int))) = (y1 : Int) := m1
          have hy1i : (y1 : Int) ≤ 3000 := by clear m1 m2; omega
          have hy2i : (y2 : Int) ≤ 7200 := by clear m1 m2; omega
          have HS := hid (And.intro hs1 hs2)
          by_cases hn0 : 0 < n
          · have hn0i : (0 : Int) < n := by omega
            clear hx1 hx2 hb1 hb2 hs1 hs2 hg hn hp hf hbs hc6 hp10 hm2 hy1 hy2 q1 q2 hn0
            go_wp2_with (go_at_call 102; refine (HFL.out _).mono ?_; rintro e w' ⟨rfl, hw⟩; have hw2 := hw; subst hw2; clear hw)
            go_roundg (gk - 1)
            case measure => have := HG.out; omega
            case rel => exact ⟨k + 1, by simp, by have := HG.out; omega, by rw [← Nat.add_assoc, HS.out.1]; simp, by rw [← Nat.add_assoc, HS.out.2]; simp, rfl⟩
          · have hn0i : ¬ (0 : Int) < n := by omega
            have hnz : n = 0 := by omega
            rw [hnz, Nat.zero_mul] at hy1 hy2
            rw [hy1] at hs1
            rw [hy2] at hs2
            have HS := hid (And.intro hs1 hs2)
            clear hx1 hx2 hb1 hb2 hs1 hs2 hg hn hp hf hbs hc6 hp10 hm2 hy1 hy2 q1 q2 hn0 hnz m1 m2
            go_wp2_with fail
            go_roundg (gk - 1)
            case measure => have := HG.out; omega
            case rel => exact ⟨k + 1, by simp, by have := HG.out; omega, by rw [← Nat.add_assoc, HS.out.1]; simp, by rw [← Nat.add_assoc, HS.out.2]; simp, rfl⟩
        · have hki : ¬ (k : Int) < 8 := by omega
          have hk8 : k = 8 := by omega
          subst hk8
          have HX2 := hid (And.intro hx1 hx2)
          clear hx1 hx2 hb1 hb2 hs1 hs2 hg hk
          go_wp2_with fail
          exact hK.out _ _ ⟨by rw [HX2.out.1, HX2.out.2], rfl⟩
end Go.Proofs.Qxb6500353aGreat
