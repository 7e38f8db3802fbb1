/- THE WALKS over check: rup, turn. -/
import Derived.Test.Qxb6500354aGreatChk4
import Derived.Test.Qxb6500354aGreatChk5
namespace Go.Proofs.Qxb6500354aGreat
open Go.RowKit
set_option linter.unusedVariables false
set_option linter.unusedSimpArgs false

theorem slots_ok {R : CheckR} {q : Nat} {sl : Slots} (h : CkOf R q sl) : ∀ s, s < 64 → ∀ c, sl s = some c → checkClause c = 0 := h.ok
theorem sweepK_lt {sl : Slots} (h : ∀ s, s < 64 → ∀ c, sl s = some c → checkClause c = 0) : ∀ n s yes no, s + n ≤ 64 → yes < 2 ^ 16 → no < 2 ^ 16 → (sweepK sl n s yes no).1 < 2 ^ 16 ∧ (sweepK sl n s yes no).2.1 < 2 ^ 16 := by
  intro n
  induction n with
  | zero => intro s yes no _ hy hn; exact ⟨hy, hn⟩
  | succ n ih =>
    intro s yes no hs hy hn
    cases e : sl s with
    | none => rw [sweepK_none e]; exact ih _ _ _ (by omega) hy hn
    | some c =>
      have hgd := (RowOK.of (h s (by omega) c e)).1
      have hp12 : posB c < 2 ^ 16 := Nat.lt_of_lt_of_le (posB_lt hgd) (by decide)
      have hn12 : negB c < 2 ^ 16 := Nat.lt_of_lt_of_le (negB_lt hgd) (by decide)
      rw [sweepK_some e]
      have l8 : yes ||| minusB (posB c) (yes ||| no) < 2 ^ 16 := Nat.or_lt_two_pow hy (minusB_lt hp12)
      have l9 : no ||| minusB (negB c) (yes ||| no) < 2 ^ 16 := Nat.or_lt_two_pow hn (minusB_lt hn12)
      split
      · split
        · exact ⟨hy, hn⟩
        · split
          · split
            · exact ih _ _ _ (by omega) l8 hn
            · exact ih _ _ _ (by omega) hy hn
          · split
            · split
              · exact ih _ _ _ (by omega) hy l9
              · exact ih _ _ _ (by omega) hy hn
            · exact ih _ _ _ (by omega) hy hn
      · exact ih _ _ _ (by omega) hy hn
theorem rupK_succ (sl : Slots) (n yes no : Nat) : rupK sl (n + 1) yes no =
    if (sweepK sl 64 0 yes no).2.2 = true then true
    else if (sweepK sl 64 0 yes no).1 = yes ∧ (sweepK sl 64 0 yes no).2.1 = no then false
    else rupK sl n (sweepK sl 64 0 yes no).1 (sweepK sl 64 0 yes no).2.1 := rfl
theorem eqNN {a b : Nat} : ((a : Int) == (b : Int)) = decide (a = b) := by rw [Bool.eq_iff_iff, beq_iff_eq, decide_eq_true_eq]; omega
set_option maxHeartbeats 4000000 in
theorem crup_any {w : World} {b q : Nat} {sl : Slots} (h : CkAt w b q sl) (p n : Nat) (hp : p < 2 ^ 16) (hn : n < 2 ^ 16) :
    Calls Tryz.prog 135 #[.pointer (some ⟨b, 0, none⟩), .int .u16 (p : Nat), .int .u16 (n : Nat)] w fun e w' => e = .returned (.bool (rupK sl 13 n p)) ∧ ∃ m, w' = w.drewN m := by
  obtain ⟨res, hres⟩ : ∃ r, rupK sl 13 n p = r := ⟨_, rfl⟩
  have HRES := hid hres
  have HP := hid hp
  have HN := hid hn
  have HOK : Hid (∀ s, s < 64 → ∀ c, sl s = some c → checkClause c = 0) := let ⟨R, _, ho⟩ := h; ho.ok
  have HH := hid h
  rw [hres]
  clear hres hp hn h
  refine calls_via fun K hK => ?_
  go_enter Tryz.func135, Tryz.ntmps135
  go_wp2_with fail
  go_loopg [7, 8, 9] 13 (fun g y o i wr => ∃ yes no : Nat, g ≤ 13 ∧ (∃ q, wr = w.drewN q) ∧ i = .int .i64 ((13 - g : Nat) : Int) ∧ y = .int .u16 (yes : Nat) ∧ o = .int .u16 (no : Nat) ∧ yes < 2 ^ 16 ∧ no < 2 ^ 16 ∧ res = rupK sl g yes no)
  case atStart => exact ⟨n, p, by omega, ⟨0, rfl⟩, by simp, rfl, rfl, HN.out, HP.out, HRES.out.symm⟩
  case round =>
    obtain ⟨yes, no, hg, ⟨n0, rfl⟩, rfl, rfl, rfl, hy, hn, he⟩ := hrel
    by_cases hlt : 0 < gk
    · obtain ⟨k, hk⟩ : ∃ k, 13 - gk = k := ⟨_, rfl⟩
      rw [hk]
      have hk64 : k < 13 := by omega
      have hki : (k : Int) < 13 := by omega
      have hki2 : (k : Int) ≤ 12 := by omega
      obtain ⟨g2, rfl⟩ : ∃ g2, gk = g2 + 1 := ⟨gk - 1, by omega⟩
      rw [rupK_succ] at he
      have hs := sweep_any (HH.out.drewN (n := n0)) yes no hy hn
      have hl := sweepK_lt HOK.out 64 0 yes no (by omega) hy hn
      have HKK := hid hk
      have e1 : 13 - g2 = k + 1 := by omega
      have E1 := hid e1
      obtain ⟨y2, o2, hit, hsw⟩ : ∃ a b c, sweepK sl 64 0 yes no = (a, b, c) := ⟨_, _, _, rfl⟩
      rw [hsw] at he hs hl
      simp only [] at he hs hl
      have HS := hid hs
      have HL := hid hl
      clear hk e1 hk64 hsw hs hl hy hn
      cases hit with
      | true =>
        rw [if_pos rfl] at he
        have HE := hid he
        clear he
        go_wp2_with (go_at_call 149; refine HS.out.mono ?_; rintro e w' ⟨rfl, m2, hw⟩; have hw2 := hw.symm; subst hw2)
        exact hK.out _ _ ⟨by rw [HE.out]; rfl, _, rfl⟩
      | false =>
        rw [if_neg (by simp)] at he
        by_cases c1 : y2 = yes
        · by_cases c2 : o2 = no
          · rw [if_pos ⟨c1, c2⟩] at he
            subst c1
            subst c2
            have HE := hid he
            clear he
            go_wp2_with (go_at_call 149; refine HS.out.mono ?_; rintro e w' ⟨rfl, m2, hw⟩; have hw2 := hw.symm; subst hw2)
            exact hK.out _ _ ⟨by rw [HE.out]; rfl, _, rfl⟩
          · rw [if_neg (fun h => c2 h.2)] at he
            subst c1
            have b2 : ((o2 : Int) == (no : Int)) = false := by rw [eqNN]; simp [c2]
            have HE := hid he
            clear he c2
            go_wp2_with (go_at_call 149; refine HS.out.mono ?_; rintro e w' ⟨rfl, m2, hw⟩; have hw2 := hw.symm; subst hw2)
            go_roundg g2
            case measure => omega
            case rel => exact ⟨_, _, by omega, ⟨_, by first | rfl | rw [World.drewN_drewN]⟩, by rw [E1.out]; simp, rfl, rfl, HL.out.1, HL.out.2, HE.out⟩
        · rw [if_neg (fun h => c1 h.1)] at he
          have b1 : ((y2 : Int) == (yes : Int)) = false := by rw [eqNN]; simp [c1]
          have HE := hid he
          clear he c1
          go_wp2_with (go_at_call 149; refine HS.out.mono ?_; rintro e w' ⟨rfl, m2, hw⟩; have hw2 := hw.symm; subst hw2)
          go_roundg g2
          case measure => omega
          case rel => exact ⟨_, _, by omega, ⟨_, by first | rfl | rw [World.drewN_drewN]⟩, by rw [E1.out]; simp, rfl, rfl, HL.out.1, HL.out.2, HE.out⟩
    · have hg0 : gk = 0 := by omega
      subst hg0
      have HE : Hid (res = false) := he
      clear he hlt hg
      go_wp2_with fail
      exact hK.out _ _ ⟨by rw [HE.out]; rfl, _, rfl⟩
theorem lowF_none {sl : Slots} : ∀ {n s : Nat}, lowF sl n s = none → ∀ k, s ≤ k → k < s + n → (sl k).isSome = true := by
  intro n
  induction n with
  | zero => intro s _ k h1 h2; omega
  | succ n ih =>
    intro s h k h1 h2
    unfold lowF at h
    by_cases e : (sl s).isSome = true
    · rw [if_pos e] at h
      by_cases q : k = s
      · subst q; exact e
      · exact ih h k (by omega) (by omega)
    · rw [if_neg e] at h; cases h
theorem seekF_some {sl : Slots} {c : List Int} : ∀ {n s k : Nat}, seekF sl c n s = some k → s ≤ k ∧ k < s + n ∧ sl k = some c := by
  intro n
  induction n with
  | zero => intro s k h; simp [seekF] at h
  | succ n ih =>
    intro s k h
    rw [seekF_succ] at h
    by_cases e : hasRow (sl s) c = true
    · rw [if_pos e] at h; cases h
      refine ⟨by omega, by omega, ?_⟩
      unfold hasRow at e
      cases q : sl s with
      | none => rw [q] at e; cases e
      | some d => rw [q] at e; rw [show d = c from by simpa using e]
    · rw [if_neg e] at h; have := ih h; exact ⟨by omega, by omega, this.2.2⟩
theorem CkOf.full {R : CheckR} {q : Nat} {sl : Slots} (h : CkOf R q sl) : ((R.used : Int) == 18446744073709551615) = (lowF sl 64 0).isNone := by
  cases e : lowF sl 64 0 with
  | none =>
    have : R.used = 2 ^ 64 - 1 := by
      apply Nat.eq_of_testBit_eq
      intro i
      rw [Nat.testBit_two_pow_sub_one]
      by_cases hi : i < 64
      · rw [h.used i hi, lowF_none e i (Nat.zero_le _) (by omega)]; simp [hi]
      · rw [Nat.testBit_lt_two_pow (Nat.lt_of_lt_of_le h.usedlt (Nat.pow_le_pow_right (by omega) (by omega)))]; simp [hi]
    rw [this]; rfl
  | some s =>
    obtain ⟨_, h1, h2⟩ := lowF_some e
    have hu := h.used s (by omega)
    rw [h2] at hu
    have : R.used ≠ 2 ^ 64 - 1 := fun q => by rw [q, Nat.testBit_two_pow_sub_one] at hu; simp at hu; omega
    show _ = false
    rw [← Bool.not_eq_true, beq_iff_eq]; omega
set_option maxHeartbeats 4000000 in
theorem turn_any {w : World} {b q : Nat} {sl : Slots} (h : CkAt w b q sl) (r : Bool × List Int) (hr : checkClause r.2 = 0) (nx : Int) :
    Calls Tryz.prog 103 #[.pointer (some ⟨b, 0, none⟩), .agg #[.int .u16 (posB r.2 : Nat), .int .u16 (negB r.2 : Nat), .bool r.1, .int .i64 nx]] w fun e w' =>
      e = .returned (.int .i64 ((turnK sl r).1 : Nat)) ∧ CkAt w' b q (turnK sl r).2 ∧ Fr [b] w w' := by
  obtain ⟨d, c⟩ := r
  simp only [] at hr
  have hp16 : posB c < 2 ^ 16 := Nat.lt_of_lt_of_le (posB_lt (RowOK.of hr).1) (by decide)
  have hn16 : negB c < 2 ^ 16 := Nat.lt_of_lt_of_le (negB_lt (RowOK.of hr).1) (by decide)
  obtain ⟨w0, hw0⟩ : ∃ w0, w.alloc (Obj.cells #[.int .u16 (posB c : Nat), .int .u16 (negB c : Nat), .bool d, .int .i64 nx] 164) = w0 := ⟨_, rfl⟩
  have hc0 := CellsAt.mk_alloc w [.int .u16 (posB c : Nat), .int .u16 (negB c : Nat), .bool d, .int .i64 nx] 164
  change CellsAt (w.alloc (Obj.cells #[.int .u16 (posB c : Nat), .int .u16 (negB c : Nat), .bool d, .int .i64 nx] 164)) _ _ at hc0
  have hf0 : Fr [] w w0 := by rw [← hw0]; exact (Fr.refl _ _).alloc _
  rw [hw0] at hc0
  obtain ⟨N, hN⟩ : ∃ N, w.heap.size = N := ⟨_, rfl⟩
  rw [hN] at hc0
  have h0 : CkAt w0 b q sl := h.fr hf0 (by simp)
  have k0 := hc0.c 0 _ rfl
  have k1 := hc0.c 1 _ rfl
  have k2 := hc0.c 2 _ rfl
  have kz := hc0.fz
  have HF0 := hid hf0
  clear hc0 hf0 h
  have h := h0
  clear h0
  have HH := hid h
  have HR := hid hr
  cases d with
  | true =>
    have hs := seek_any h hr
    cases e1 : seekF sl c 64 0 with
    | none =>
      rw [e1] at hs
      change Calls Tryz.prog 133 _ _ (fun e w' => e = .returned (.int .i64 (-1)) ∧ ∃ n, w' = w0.drewN n) at hs
      have HT : Hid (turnK sl (true, c) = (19, sl)) := by show _ = _; unfold turnK; simp only [if_true]; rw [e1]
      have HS := hid hs
      clear h hr hs e1 hp16 hn16
      refine calls_via fun K hK => ?_
      go_enter Tryz.func103, Tryz.ntmps103
      go_wp2_with (go_at_call 133; refine HS.out.mono ?_; rintro e w' ⟨rfl, m2, hw⟩; have hw2 := hw.symm; subst hw2)
      refine hK.out _ _ ⟨?_, ?_, ?_⟩
      · rw [HT.out]; rfl
      · rw [HT.out]; exact HH.out.drewN
      · exact (HF0.out.mono (by simp)).drewN
    | some s =>
      obtain ⟨_, h1, h2⟩ := seekF_some e1
      have hs64 : s < 64 := by omega
      have hsi : (0 : Int) ≤ s := by omega
      rw [e1] at hs
      change Calls Tryz.prog 133 _ _ (fun e w' => e = .returned (.int .i64 (s : Nat)) ∧ ∃ n, w' = w0.drewN n) at hs
      have HT : Hid (turnK sl (true, c) = (0, upd sl s none)) := by show _ = _; unfold turnK; simp only [if_true]; rw [e1]
      have HS := hid hs
      have HD := hid (fun n => drop_any (h.drewN (n := n)) hs64 h2)
      clear h hr hs e1 hp16 hn16 h2 h1 hs64
      refine calls_via fun K hK => ?_
      go_enter Tryz.func103, Tryz.ntmps103
      go_wp2_with (first
        | (go_at_call 133; refine HS.out.mono ?_; rintro e w' ⟨rfl, m2, hw⟩; have hw2 := hw.symm; subst hw2)
        | (go_at_call 134; refine (HD.out m2).mono ?_; rintro e w2 ⟨rfl, hck, hfr⟩; have HCK := hid hck; have HFR := hid hfr; clear hck hfr))
      refine hK.out _ _ ⟨?_, ?_, ?_⟩
      · rw [HT.out]; rfl
      · rw [HT.out]; exact HCK.out
      · exact ((HF0.out.mono (by simp)).drewN).trans HFR.out
  | false =>
    have hrup := crup_any h (posB c) (negB c) hp16 hn16
    cases e1 : rupK sl 13 (negB c) (posB c) with
    | false =>
      rw [e1] at hrup
      have HT : Hid (turnK sl (false, c) = (18, sl)) := by show _ = _; unfold turnK; simp only [Bool.false_eq_true, if_false]; rw [e1]; simp
      have HS := hid hrup
      clear h hr hrup e1 hp16 hn16
      refine calls_via fun K hK => ?_
      go_enter Tryz.func103, Tryz.ntmps103
      go_wp2_with (go_at_call 135; refine HS.out.mono ?_; rintro e w' ⟨rfl, m2, hw⟩; have hw2 := hw.symm; subst hw2)
      refine hK.out _ _ ⟨?_, ?_, ?_⟩
      · rw [HT.out]; rfl
      · rw [HT.out]; exact HH.out.drewN
      · exact (HF0.out.mono (by simp)).drewN
    | true =>
      rw [e1] at hrup
      obtain ⟨R, hR, ho⟩ := h
      have hfull := ho.full
      have hu := hR.used
      cases e2 : lowF sl 64 0 with
      | none =>
        rw [e2] at hfull
        change _ = true at hfull
        have HT : Hid (turnK sl (false, c) = (12, sl)) := by show _ = _; unfold turnK; simp only [Bool.false_eq_true, if_false]; rw [e1, e2]; simp
        have HS := hid hrup
        clear hr hrup e1 hp16 hn16 hR ho e2
        refine calls_via fun K hK => ?_
        go_enter Tryz.func103, Tryz.ntmps103
        go_wp2_with (go_at_call 135; refine HS.out.mono ?_; rintro e w' ⟨rfl, m2, hw⟩; have hw2 := hw.symm; subst hw2)
        refine hK.out _ _ ⟨?_, ?_, ?_⟩
        · rw [HT.out]; rfl
        · rw [HT.out]; exact HH.out.drewN
        · exact (HF0.out.mono (by simp)).drewN
      | some s =>
        rw [e2] at hfull
        change _ = false at hfull
        have HT : Hid (turnK sl (false, c) = (0, upd sl s (some c))) := by show _ = _; unfold turnK; simp only [Bool.false_eq_true, if_false]; rw [e1, e2]; simp
        have HS := hid hrup
        have HP := hid (fun n => put_any (HH.out.drewN (n := n)) hr e2)
        clear hr hrup e1 hp16 hn16 hR ho e2
        refine calls_via fun K hK => ?_
        go_enter Tryz.func103, Tryz.ntmps103
        go_wp2_with (first
          | (go_at_call 135; refine HS.out.mono ?_; rintro e w' ⟨rfl, m2, hw⟩; have hw2 := hw.symm; subst hw2)
          | (go_at_call 102; refine (HP.out m2).mono ?_; rintro e w2 ⟨rfl, hck, hfr⟩; have HCK := hid hck; have HFR := hid hfr; clear hck hfr))
        refine hK.out _ _ ⟨?_, ?_, ?_⟩
        · rw [HT.out]; rfl
        · rw [HT.out]; exact HCK.out
        · exact ((HF0.out.mono (by simp)).drewN).trans HFR.out
end Go.Proofs.Qxb6500354aGreat
