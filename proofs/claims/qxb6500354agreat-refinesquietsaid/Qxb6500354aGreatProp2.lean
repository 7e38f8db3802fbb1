/- THE WALKS over watch: wake, through. -/
import Derived.Test.Qxb6500354aGreatVisit
namespace Go.Proofs.Qxb6500354aGreat
open Go.RowKit
set_option linter.unusedVariables false
set_option linter.unusedSimpArgs false

theorem wakeF_succ (todo n i : Nat) (W : WatchS) (T : TrailS) : wakeF todo (n + 1) i W T = if todo.testBit i then (if 0 ≤ (lookF W T i).1 then lookF W T i else wakeF todo n (i + 1) (lookF W T i).2.1 (lookF W T i).2.2) else wakeF todo n (i + 1) W T := rfl
theorem throughF_succ (p : Int) (todo n i : Nat) (W : WatchS) (T : TrailS) : throughF p todo (n + 1) i W T = if todo.testBit i then (if 0 ≤ (visitF W T i p).1 then visitF W T i p else throughF p todo n (i + 1) (visitF W T i p).2.1 (visitF W T i p).2.2) else throughF p todo n (i + 1) W T := rfl

set_option maxHeartbeats 1000000 in
theorem wake_any {w : World} {b tb : Nat} {W : WatchS} {T : TrailS} (h : WatAt w b tb W) (ht : TrlAt w tb T) (hbt : tb ≠ b) :
    Calls Tryz.prog 79 #[.pointer (some ⟨b, 0, none⟩)] w fun e w' => e = .returned (.int .i64 (wakeF (W.fresh ||| W.weak) 52 0 W T).1) ∧ WatAt w' b tb (wakeF (W.fresh ||| W.weak) 52 0 W T).2.1 ∧ TrlAt w' tb (wakeF (W.fresh ||| W.weak) 52 0 W T).2.2 ∧ Fr [b, tb] w w' := by
  obtain ⟨todo, htodo⟩ : ∃ t, W.fresh ||| W.weak = t := ⟨_, rfl⟩
  obtain ⟨R, hR, ho⟩ := id h
  have hfre := hR.fresh
  have hwea := hR.weak
  rw [ho.fresh] at hfre
  rw [ho.weak] at hwea
  have hor := or64 ho.freshlt ho.weaklt
  have htlt := Nat.or_lt_two_pow ho.freshlt ho.weaklt
  rw [htodo] at hor htlt ⊢
  obtain ⟨res, hres⟩ : ∃ r, wakeF todo 52 0 W T = r := ⟨_, rfl⟩
  rw [hres]
  have HW : Hid (WatAt w b tb W) := h
  have HT : Hid (TrlAt w tb T) := ht
  have HRES : Hid (wakeF todo 52 0 W T = res) := hres
  have HBT : Hid (tb ≠ b) := hbt
  clear hR ho htodo h ht hres hbt
  refine calls_via fun K hK => ?_
  go_enter Tryz.func79, Tryz.ntmps79
  go_wp2_with fail
  go_quiet (fail)
  go_wp2_with fail
  go_loopg [4] 52 (fun g i wr => ∃ (W1 : WatchS) (T1 : TrailS), g ≤ 52 ∧ i = .int .i64 ((52 - g : Nat) : Int) ∧ res = wakeF todo g (52 - g) W1 T1 ∧ WatAt wr b tb W1 ∧ TrlAt wr tb T1 ∧ Fr [b, tb] w wr)
  case atStart => exact ⟨W, T, by omega, rfl, HRES.out.symm, HW.out.drewN, HT.out.drewN, (Fr.refl _ _).drewN⟩
  case round =>
    obtain ⟨W1, T1, hg, rfl, he, hw1, ht1, hf⟩ := hrel
    by_cases hlt : 0 < gk
    · obtain ⟨k, hk⟩ : ∃ k, 52 - gk = k := ⟨_, rfl⟩
      rw [hk] at he ⊢
      rw [show gk = (gk - 1) + 1 from by omega, wakeF_succ] at he
      have hk52 : k < 52 := by omega
      have hki : (k : Int) < 52 := by omega
      have hk64 : k < 64 := by omega
      have HK : Hid (52 - gk = k) := hk
      have HW1 : Hid (WatAt wr b tb W1) := hw1
      have HT1 : Hid (TrlAt wr tb T1) := ht1
      by_cases hb : todo.testBit k = true
      · rw [if_pos hb] at he
        have hlk := look_any hw1 ht1 HBT.out k hk52
        by_cases h0 : 0 ≤ (lookF W1 T1 k).1
        · rw [if_pos h0] at he
          subst he
          have HLK := hid hlk
          have hge : (0 : Int) ≤ (lookF W1 T1 k).1 := h0
          clear hw1 ht1 hlk hk h0
          go_wp2_with (go_at_call 99; refine (has_any _ _ hk64 htlt _).mono ?_; rintro e w' ⟨rfl, hw⟩; have hw2 := hw.symm; subst hw2; clear hw)
          refine HLK.out.mono ?_
          rintro e w2 ⟨rfl, hw2, ht2, hf2⟩
          go_wp2_with fail
          exact hK.out _ _ ⟨rfl, hw2, ht2, hf.trans hf2⟩
        · rw [if_neg h0] at he
          have HE := hid he
          have HLK := hid hlk
          have hge : ¬ (0 : Int) ≤ (lookF W1 T1 k).1 := h0
          clear hw1 ht1 hlk hk h0 he
          go_wp2_with (go_at_call 99; refine (has_any _ _ hk64 htlt _).mono ?_; rintro e w' ⟨rfl, hw⟩; have hw2 := hw.symm; subst hw2; clear hw)
          refine HLK.out.mono ?_
          rintro e w2 ⟨rfl, hw2, ht2, hf2⟩
          go_wp2_with fail
          go_roundg (gk - 1)
          case measure => omega
          case rel =>
            have hk := HK.out
            refine ⟨_, _, by omega, ?_, ?_, hw2, ht2, hf.trans hf2⟩
            · rw [show 52 - (gk - 1) = k + 1 from by omega]; simp
            · rw [show 52 - (gk - 1) = k + 1 from by omega]; exact HE.out
      · rw [if_neg hb] at he
        have hb2 : todo.testBit k = false := by simpa using hb
        have HE := hid he
        clear hw1 ht1 hk he hb
        go_wp2_with (go_at_call 99; refine (has_any _ _ hk64 htlt _).mono ?_; rintro e w' ⟨rfl, hw⟩; have hw2 := hw.symm; subst hw2; clear hw)
        go_roundg (gk - 1)
        case measure => omega
        case rel =>
          have hk := HK.out
          refine ⟨_, _, by omega, ?_, ?_, HW1.out, HT1.out, hf⟩
          · rw [show 52 - (gk - 1) = k + 1 from by omega]; simp
          · rw [show 52 - (gk - 1) = k + 1 from by omega]; exact HE.out
    · have hg0 : gk = 0 := by omega
      subst hg0
      have HE : Hid (res = (-1, W1, T1)) := he
      have HW1 : Hid (WatAt wr b tb W1) := hw1
      have HT1 : Hid (TrlAt wr tb T1) := ht1
      clear he hlt hg hw1 ht1
      go_wp2_with fail
      refine hK.out _ _ ⟨?_, ?_, ?_, hf⟩
      · rw [HE.out]; rfl
      · rw [HE.out]; exact HW1.out
      · rw [HE.out]; exact HT1.out

/-- The clauses of todo from i on watch -p. -/
def Watches (W : WatchS) (todo i : Nat) (f : Int) : Prop := ∀ id, i ≤ id → id < 52 → todo.testBit id = true → 2 ≤ (W.cl id).length ∧ ((W.cl id).getD 0 0 = f ∨ (W.cl id).getD 1 0 = f)
theorem visitF_cl (W : WatchS) (T : TrailS) (id : Nat) (p : Int) {j : Nat} (h : j ≠ id) : (visitF W T id p).2.1.cl j = W.cl j := by
  unfold visitF
  simp only []
  generalize (if (W.cl id).getD 0 0 = -p then swapL (W.cl id) 0 1 else W.cl id) = c
  split
  · exact upd_ne _ _ _ _ h
  · split
    · exact upd_ne _ _ _ _ h
    · split
      · exact upd_ne _ _ _ _ h
      · split <;> exact upd_ne _ _ _ _ h
theorem Watches.step {W : WatchS} {todo i : Nat} {f : Int} (h : Watches W todo i f) (T : TrailS) (p : Int) : Watches (visitF W T i p).2.1 todo (i + 1) f := by
  intro id h1 h2 h3
  rw [visitF_cl W T i p (show id ≠ i by omega)]
  exact h id (by omega) h2 h3

set_option maxHeartbeats 1000000 in
theorem through_any {w : World} {b tb : Nat} {W : WatchS} {T : TrailS} (h : WatAt w b tb W) (ht : TrlAt w tb T) (hbt : tb ≠ b) (p : Int) (hgp : good p = true) (hwt : Watches W (W.wl (code (-p))) 0 (-p)) :
    Calls Tryz.prog 115 #[.pointer (some ⟨b, 0, none⟩), .int .i64 p] w fun e w' => e = .returned (.int .i64 (throughF p (W.wl (code (-p))) 52 0 W T).1) ∧ WatAt w' b tb (throughF p (W.wl (code (-p))) 52 0 W T).2.1 ∧ TrlAt w' tb (throughF p (W.wl (code (-p))) 52 0 W T).2.2 ∧ Fr [b, tb] w w' := by
  obtain ⟨R, hR, ho⟩ := id h
  have hp12 := (good_iff _).1 hgp
  obtain ⟨f, hf⟩ : ∃ f, -p = f := ⟨_, rfl⟩
  rw [hf] at hwt ⊢
  have hgf : good f = true := by rw [good_iff]; omega
  have hcf := code_lt hgf
  have hxf := hR.list (code f) hcf
  rw [ho.list _ hcf] at hxf
  have htlt := ho.listlt _ hcf
  obtain ⟨todo, htodo⟩ : ∃ t, W.wl (code f) = t := ⟨_, rfl⟩
  rw [htodo] at hxf htlt hwt ⊢
  obtain ⟨res, hres⟩ : ∃ r, throughF p todo 52 0 W T = r := ⟨_, rfl⟩
  rw [hres]
  have hcfi : ((code f : Nat) : Int) < 26 := by omega
  have hpb : -12 ≤ p ∧ p ≤ 12 := by omega
  have HW : Hid (WatAt w b tb W) := h
  have HT : Hid (TrlAt w tb T) := ht
  have HRES : Hid (throughF p todo 52 0 W T = res) := hres
  have HBT : Hid (tb ≠ b) := hbt
  have HGF : Hid (good f = true) := hgf
  have HGP : Hid (good p = true) := hgp
  have HWT : Hid (Watches W todo 0 f) := hwt
  have HFP : Hid (-p = f) := hf
  clear hR ho htodo h ht hres hbt hgf hgp hwt hp12
  refine calls_via fun K hK => ?_
  go_enter Tryz.func115, Tryz.ntmps115
  go_wp2_with (go_at_call 140; refine (code_any _ HGF.out _).mono ?_; rintro e w' ⟨rfl, hw⟩; have hw2 := hw.symm; subst hw2; clear hw)
  go_loopg [7] 52 (fun g i wr => ∃ (W1 : WatchS) (T1 : TrailS), g ≤ 52 ∧ i = .int .i64 ((52 - g : Nat) : Int) ∧ res = throughF p todo g (52 - g) W1 T1 ∧ WatAt wr b tb W1 ∧ TrlAt wr tb T1 ∧ Watches W1 todo (52 - g) f ∧ Fr [b, tb] w wr)
  case atStart => exact ⟨W, T, by omega, rfl, HRES.out.symm, HW.out, HT.out, HWT.out, Fr.refl _ _⟩
  case round =>
    obtain ⟨W1, T1, hg, rfl, he, hw1, ht1, hwt, hf2⟩ := hrel
    by_cases hlt : 0 < gk
    · obtain ⟨k, hk⟩ : ∃ k, 52 - gk = k := ⟨_, rfl⟩
      rw [hk] at he hwt ⊢
      rw [show gk = (gk - 1) + 1 from by omega, throughF_succ] at he
      have hk52 : k < 52 := by omega
      have hki : (k : Int) < 52 := by omega
      have hk64 : k < 64 := by omega
      have HK : Hid (52 - gk = k) := hk
      have HW1 : Hid (WatAt wr b tb W1) := hw1
      have HT1 : Hid (TrlAt wr tb T1) := ht1
      have HWT1 : Hid (Watches W1 todo k f) := hwt
      by_cases hb : todo.testBit k = true
      · rw [if_pos hb] at he
        have hq := hwt k (Nat.le_refl _) hk52 hb
        have hlk := visit_any hw1 ht1 HBT.out k hk52 p HGP.out hq.1 (by rw [HFP.out]; exact hq.2)
        by_cases h0 : 0 ≤ (visitF W1 T1 k p).1
        · rw [if_pos h0] at he
          subst he
          have HLK := hid hlk
          have hge : (0 : Int) ≤ (visitF W1 T1 k p).1 := h0
          clear hw1 ht1 hlk hk h0 hwt hq
          go_wp2_with (go_at_call 99; refine (has_any _ _ hk64 htlt _).mono ?_; rintro e w' ⟨rfl, hw⟩; have hw2 := hw.symm; subst hw2; clear hw)
          refine HLK.out.mono ?_
          rintro e w2 ⟨rfl, hw2, ht2, hf3⟩
          go_wp2_with fail
          exact hK.out _ _ ⟨rfl, hw2, ht2, hf2.trans hf3⟩
        · rw [if_neg h0] at he
          have HE := hid he
          have HLK := hid hlk
          have hge : ¬ (0 : Int) ≤ (visitF W1 T1 k p).1 := h0
          clear hw1 ht1 hlk hk h0 he hwt hq
          go_wp2_with (go_at_call 99; refine (has_any _ _ hk64 htlt _).mono ?_; rintro e w' ⟨rfl, hw⟩; have hw2 := hw.symm; subst hw2; clear hw)
          refine HLK.out.mono ?_
          rintro e w2 ⟨rfl, hw2, ht2, hf3⟩
          go_wp2_with fail
          go_roundg (gk - 1)
          case measure => omega
          case rel =>
            have hk := HK.out
            refine ⟨_, _, by omega, ?_, ?_, hw2, ht2, ?_, hf2.trans hf3⟩
            · rw [show 52 - (gk - 1) = k + 1 from by omega]; simp
            · rw [show 52 - (gk - 1) = k + 1 from by omega]; exact HE.out
            · rw [show 52 - (gk - 1) = k + 1 from by omega]; exact HWT1.out.step T1 p
      · rw [if_neg hb] at he
        have hb2 : todo.testBit k = false := by simpa using hb
        have HE := hid he
        clear hw1 ht1 hk he hb hwt
        go_wp2_with (go_at_call 99; refine (has_any _ _ hk64 htlt _).mono ?_; rintro e w' ⟨rfl, hw⟩; have hw2 := hw.symm; subst hw2; clear hw)
        go_roundg (gk - 1)
        case measure => omega
        case rel =>
          have hk := HK.out
          refine ⟨_, _, by omega, ?_, ?_, HW1.out, HT1.out, ?_, hf2⟩
          · rw [show 52 - (gk - 1) = k + 1 from by omega]; simp
          · rw [show 52 - (gk - 1) = k + 1 from by omega]; exact HE.out
          · rw [show 52 - (gk - 1) = k + 1 from by omega]; intro id h1 h2 h3; exact HWT1.out id (by omega) h2 h3
    · have hg0 : gk = 0 := by omega
      subst hg0
      have HE : Hid (res = (-1, W1, T1)) := he
      have HW1 : Hid (WatAt wr b tb W1) := hw1
      have HT1 : Hid (TrlAt wr tb T1) := ht1
      clear he hlt hg hw1 ht1 hwt
      go_wp2_with fail
      refine hK.out _ _ ⟨?_, ?_, ?_, hf2⟩
      · rw [HE.out]; rfl
      · rw [HE.out]; exact HW1.out
      · rw [HE.out]; exact HT1.out
end Go.Proofs.Qxb6500354aGreat
