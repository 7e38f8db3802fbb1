/- THE WALKS over check: drop, wipe. -/
import Derived.Test.Qxb6500354aGreatChk3
namespace Go.Proofs.Qxb6500354aGreat
open Go.RowKit
set_option linter.unusedVariables false
set_option linter.unusedSimpArgs false

theorem CkOf.drop {R : CheckR} {q : Nat} {sl : Slots} (h : CkOf R q sl) {s : Nat} (hs : s < 64) {c : List Int} (hn : sl s = some c) (e : Int) (he : e = (emptyF sl : Int) - if c = [] then 1 else 0) :
    CkOf { R with pos := upd R.pos s 0, neg := upd R.neg s 0, used := clrB R.used s, empties := e } q (upd sl s none) := by
  refine ⟨h.p, fun i hi => ?_, fun i hi => ?_, fun i hi => ?_, clrB_lt h.usedlt, ?_, fun i hi d hd => ?_⟩
  · by_cases e : i = s
    · subst e; show upd R.pos i _ i = _; rw [upd_self, upd_self]; rfl
    · show upd R.pos s _ i = _; rw [upd_ne _ _ _ _ e, upd_ne _ _ _ _ e]; exact h.pos i hi
  · by_cases e : i = s
    · subst e; show upd R.neg i _ i = _; rw [upd_self, upd_self]; rfl
    · show upd R.neg s _ i = _; rw [upd_ne _ _ _ _ e, upd_ne _ _ _ _ e]; exact h.neg i hi
  · show (clrB R.used s).testBit i = _
    rw [testBit_clr, h.used i hi]
    by_cases e : i = s
    · subst e; rw [upd_self]; simp
    · rw [upd_ne _ _ _ _ e]; simp [show ¬ s = i from fun q => e q.symm]
  · show e = _
    have := emptyF_put (sl := upd sl s none) (c := c) (upd_self _ _ _) hs
    rw [upd_none_some hn] at this
    rw [he, this]; split <;> simp
  · by_cases e : i = s
    · subst e; rw [upd_self] at hd; cases hd
    · rw [upd_ne _ _ _ _ e] at hd; exact h.ok i hi d hd
set_option maxHeartbeats 2000000 in
theorem drop_any {w : World} {b q : Nat} {sl : Slots} (h : CkAt w b q sl) {s : Nat} (hs : s < 64) {c : List Int} (hn : sl s = some c) :
    Calls Tryz.prog 134 #[.pointer (some ⟨b, 0, none⟩), .int .i64 s] w fun e w' => e = .returned (.tuple #[]) ∧ CkAt w' b q (upd sl s none) ∧ Fr [b] w w' := by
  obtain ⟨R, hR, ho⟩ := h
  have hsi : (s : Int) < 64 := by omega
  have hu := hR.used
  have hp := hR.pos s hs
  have hq := hR.neg s hs
  have he := hR.empties
  have hfz := hR.froz
  have hlt := ho.usedlt
  have hor := andNot64 hlt (pow64 hs)
  have hc := ho.ok s hs c hn
  have hp2 : R.pos s = posB c := by rw [ho.pos s hs, hn]; rfl
  have hq2 : R.neg s = negB c := by rw [ho.neg s hs, hn]; rfl
  rw [hp2] at hp
  rw [hq2] at hq
  have hpn := or16 (Nat.lt_of_lt_of_le (posB_lt (RowOK.of hc).1) (by decide)) (Nat.lt_of_lt_of_le (negB_lt (RowOK.of hc).1) (by decide))
  change bits .andNot .u64 (R.used : Nat) (pw s : Nat) = ((clrB R.used s : Nat) : Int) at hor
  have heb : emptyF sl ≤ 64 := emptyF_le sl
  have hee := ho.emp
  rw [hee] at he
  have hbz := bits_zero c
  have hdrop : ∀ e : Int, e = (emptyF sl : Int) - (if c = [] then 1 else 0) → CkOf { R with pos := upd R.pos s 0, neg := upd R.neg s 0, used := clrB R.used s, empties := e } q (upd sl s none) := fun e he => ho.drop hs hn e he
  have HDROP := hid hdrop
  have HR := hid hR
  have HS := hid hs
  generalize emptyF sl = em at *
  have hei : (em : Int) ≤ 64 := by omega
  have hei0 : 0 ≤ (em : Int) := by omega
  generalize posB c ||| negB c = pn at *
  clear ho hc hn hR hdrop hs hp2 hq2 hlt
  by_cases h0 : pn = 0
  · have hc0 := hbz.1 h0
    have HC0 := hid hc0
    clear hbz hc0
    subst h0
    refine calls_via fun K hK => ?_
    go_enter Tryz.func134, Tryz.ntmps134
    go_wp2_with fail
    try go_quiet (fail)
    go_wp2_with fail
    go_region_with (go_at_call 100; refine (cslot_any _ HS.out _).mono ?_; rintro e w' ⟨rfl, hw⟩; have hw2 := hw.symm; subst hw2; clear hw)
    all_goals try go_wp2_with fail
    all_goals try go_end0
    all_goals refine hK.out _ _ ⟨rfl, ⟨_, ((((HR.out.drewN (n := nq)).set_empties (em - 1)).set_pos s HS.out 0).set_neg s HS.out 0 |>.set_used (clrB R.used s)).drew, HDROP.out (em - 1) (by rw [if_pos HC0.out])⟩, ((((((Fr.refl _ _).drewN).set (by simp) _).set (by simp) _).set (by simp) _).set (by simp) _).drew⟩
  · have hc0 : c ≠ [] := fun e => h0 (hbz.2 e)
    have HC0 := hid hc0
    have hb : ((pn : Int) == 0) = false := by rw [← Bool.not_eq_true, beq_iff_eq]; omega
    clear hbz hc0 h0
    refine calls_via fun K hK => ?_
    go_enter Tryz.func134, Tryz.ntmps134
    go_wp2_with fail
    try go_quiet (fail)
    go_wp2_with fail
    go_region_with (go_at_call 100; refine (cslot_any _ HS.out _).mono ?_; rintro e w' ⟨rfl, hw⟩; have hw2 := hw.symm; subst hw2; clear hw)
    all_goals try go_wp2_with fail
    all_goals try go_end0
    all_goals refine hK.out _ _ ⟨rfl, ⟨_, (((HR.out.drewN (n := nq)).set_pos s HS.out 0).set_neg s HS.out 0 |>.set_used (clrB R.used s)).drew, HDROP.out R.empties (by rw [if_neg HC0.out, hee]; simp)⟩, (((((Fr.refl _ _).drewN).set (by simp) _).set (by simp) _).set (by simp) _).drew⟩
theorem emptyF_none : emptyF (fun _ => none) = 0 := by
  unfold emptyF
  rw [List.countP_eq_zero]
  intro i _; simp [hasRow]
set_option maxHeartbeats 2000000 in
theorem cwipe_any {w : World} {b q : Nat} {sl : Slots} (h : CkAt w b q sl) :
    Calls Tryz.prog 69 #[.pointer (some ⟨b, 0, none⟩)] w fun e w' => e = .returned (.tuple #[]) ∧ CkAt w' b q (fun _ => none) ∧ Fr [b] w w' := by
  obtain ⟨R, hR, ho⟩ := h
  have hu0 := hR.used
  have HR := hid hR
  have HO := hid ho
  clear hR ho
  refine calls_via fun K hK => ?_
  go_enter Tryz.func69, Tryz.ntmps69
  go_wp2_with fail
  go_loopg [2] 64 (fun g i wr => ∃ P N : Nat → Nat, g ≤ 64 ∧ CheckAt wr b { R with pos := P, neg := N } ∧ (∀ j, j < 64 - g → P j = 0 ∧ N j = 0) ∧ (∀ j, 64 - g ≤ j → P j = R.pos j ∧ N j = R.neg j) ∧ Fr [b] w wr ∧ i = .int .i64 ((64 - g : Nat) : Int))
  case atStart => exact ⟨R.pos, R.neg, by omega, HR.out, by intro j hj; omega, by intro j hj; exact ⟨rfl, rfl⟩, Fr.refl _ _, by simp⟩
  case round =>
    obtain ⟨P, N, hg, hA, hz0, hz1, hf, rfl⟩ := hrel
    have hu := hA.used
    have hfz := hA.froz
    by_cases hlt : 0 < gk
    · obtain ⟨k, hk⟩ : ∃ k, 64 - gk = k := ⟨_, rfl⟩
      rw [hk] at hz0 hz1 ⊢
      have hk64 : k < 64 := by omega
      have hki : (k : Int) < 64 := by omega
      have hb := and64 (b := pw k) HO.out.usedlt (pow64 hk64)
      have hcp := hA.pos k hk64
      have hcn := hA.neg k hk64
      have hz : (((R.used &&& pw k : Nat) : Int) != 0) = R.used.testBit k := and_pow_ne _ _
      have HQ := hid (fun w => cslot_any k hk64 w)
      have HA := hid hA
      have HZ0 := hid hz0
      have HZ1 := hid hz1
      have HF := hid hf
      have H64 := hid hk64
      have HKK := hid hk
      have hus := HO.out.used k hk64
      have hps := HO.out.pos k hk64
      have hns := HO.out.neg k hk64
      clear hA hz0 hz1 hf hk64 hk
      cases e1 : (sl k).isSome with
      | false =>
        have hnone : sl k = none := by simpa using e1
        rw [hnone] at hps hns
        rw [hus, e1] at hz
        have HPS := hid hps
        have HNS := hid hns
        clear hus hps hns e1 hnone
        go_wp2_with fail
        go_quiet ((go_at_call 100; exact (HQ.out _).mono fun _ _ h => ⟨h.1, _, h.2⟩))
        go_wp2_with fail
        go_roundg (gk - 1)
        case measure => omega
        case rel =>
          have hk := HKK.out
          have e2 : 64 - (gk - 1) = k + 1 := by omega
          rw [e2]
          refine ⟨P, N, by omega, by first | exact HA.out.drewN | (repeat rw [World.drewN_drewN]; exact HA.out.drewN), fun j hj => ?_, fun j hj => HZ1.out j (by omega), by first | exact HF.out.drewN | (repeat rw [World.drewN_drewN]; exact HF.out.drewN), by simp⟩
          by_cases e : j = k
          · subst e
            have := HZ1.out j (Nat.le_refl _)
            rw [this.1, this.2, HPS.out, HNS.out]; exact ⟨rfl, rfl⟩
          · exact HZ0.out j (by omega)
      | true =>
        rw [hus, e1] at hz
        clear hus hps hns e1
        go_wp2_with fail
        go_quiet ((go_at_call 100; exact (HQ.out _).mono fun _ _ h => ⟨h.1, _, h.2⟩))
        go_wp2_with fail
        go_roundg (gk - 1)
        case measure => omega
        case rel =>
          have hk := HKK.out
          have e2 : 64 - (gk - 1) = k + 1 := by omega
          rw [e2]
          refine ⟨upd P k 0, upd N k 0, by omega, ((HA.out.drewN).set_pos k H64.out 0).set_neg k H64.out 0, fun j hj => ?_, fun j hj => ?_, ((HF.out.drewN).set (by simp) _).set (by simp) _, by simp⟩
          · by_cases e : j = k
            · subst e; rw [upd_self, upd_self]; exact ⟨rfl, rfl⟩
            · rw [upd_ne _ _ _ _ e, upd_ne _ _ _ _ e]; exact HZ0.out j (by omega)
          · rw [upd_ne _ _ _ _ (by omega), upd_ne _ _ _ _ (by omega)]; exact HZ1.out j (by omega)
    · have hg0 : gk = 0 := by omega
      subst hg0
      have he0 := hA.empties
      have HA := hid hA
      have HZ0 := hid hz0
      have HF := hid hf
      clear hA hz0 hz1 hf hlt hg
      go_wp2_with fail
      try go_end0
      refine hK.out _ _ ⟨rfl, ⟨_, (HA.out.set_used 0).set_empties 0, ?_⟩, (HF.out.set (by simp) _).set (by simp) _⟩
      exact ⟨HO.out.p, fun s hs => (HZ0.out s (by omega)).1, fun s hs => (HZ0.out s (by omega)).2, fun s hs => by simp, (show 0 < 2 ^ 64 by decide), by rw [emptyF_none]; rfl, fun s hs c hc => by cases hc⟩
end Go.Proofs.Qxb6500354aGreat
