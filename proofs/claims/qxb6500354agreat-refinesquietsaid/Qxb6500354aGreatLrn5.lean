/- THE WALKS over learn: climb. -/
import Derived.Test.Qxb6500354aGreatLrn4
namespace Go.Proofs.Qxb6500354aGreat
open Go.RowKit
set_option linter.unusedVariables false
set_option linter.unusedSimpArgs false

theorem climbF_succ (W : WatchS) (T : TrailS) (i : Nat) (a : LearnS) : climbF W T (i + 1) a =
    if a.seen.testBit (T.litAt i).natAbs then
      (if T.level (T.litAt i).natAbs = a.lv then
        (if a.opn - 1 = 0 then (T.litAt i, { a with opn := a.opn - 1 })
        else match W.clause? (T.reason (T.litAt i).natAbs) with
          | none => (0, { a with opn := a.opn - 1 })
          | some rc => if (markAllF T { a with opn := a.opn - 1 } rc).1 then climbF W T i (markAllF T { a with opn := a.opn - 1 } rc).2 else (0, (markAllF T { a with opn := a.opn - 1 } rc).2))
      else climbF W T i a)
    else climbF W T i a := rfl
theorem markAllF_opn (T : TrailS) : ∀ (c : List Int) (A : LearnS), A.opn ≤ (markAllF T A c).2.opn ∧ (markAllF T A c).2.opn ≤ A.opn + c.length := by
  intro c
  induction c with
  | nil => intro A; simp only [markAllF, List.length_nil]; omega
  | cons l r ih =>
    intro A
    have h1 := markF_opn T A l
    rw [markAllF_cons]
    split
    · have h2 := ih (markF T A l).2
      simp only [List.length_cons]; omega
    · simp only [List.length_cons]; omega
theorem ownBlock_slice {w : World} {base : Nat} {v : Value} {c : List Int} {b : Nat} (h : OwnI w base v c) (hb : b < base) : v.ownBlock ≠ some b := by
  intro e
  rcases h.2 with ⟨rfl, _⟩ | ⟨g, cap, cur, rfl, hg, _⟩
  · simp [Value.ownBlock] at e
  · simp [Value.ownBlock] at e; omega

theorem size_setdrew (w : World) (n : Nat) (a : Addr) (v : Value) : ((w.drewN n).setCell a v).heap.size = w.heap.size := by simp [World.setCell]
set_option maxRecDepth 100000 in
set_option maxHeartbeats 4000000 in
theorem climb_any {w : World} {b tb wb : Nat} {A : LearnS} {W : WatchS} {T : TrailS} (h : LrnAt w b tb wb A) (hw : WatAt w wb tb W) (ht : TrlAt w tb T) (hbt : tb ≠ b) (hbw : wb ≠ b) (ho1 : -1000 ≤ A.opn) (ho2 : A.opn ≤ 1000) :
    Calls Tryz.prog 121 #[.pointer (some ⟨b, 0, none⟩)] w fun e w' => e = .returned (.int .i64 (climbF W T T.st.length A).1) ∧ LrnAt w' b tb wb (climbF W T T.st.length A).2 ∧ Fr [b] w w' := by
  have htp := h.1.t
  change w.cell? ⟨b, 0, none⟩ = some (.pointer (some ⟨tb, 0, none⟩)) at htp
  have hk := ht.ok
  have HLEN := hid (len_any ht)
  obtain ⟨n, hn⟩ : ∃ n, T.st.length = n := ⟨_, rfl⟩
  have hn12 : n ≤ 12 := by have := hk.len; omega
  rw [hn] at HLEN ⊢
  obtain ⟨res, hres⟩ : ∃ r, climbF W T n A = r := ⟨_, rfl⟩
  rw [hres]
  have HH := hid h
  have HW := hid hw
  have HT := hid ht
  have HBT := hid hbt
  have HBW := hid hbw
  have HRES := hid hres
  have HN := hid hn
  have HTK := hid hk
  clear h hw ht hbt hbw hres hn hk
  refine calls_via fun K hK => ?_
  go_enter Tryz.func121, Tryz.ntmps121
  go_wp2_with (go_at_call 49; refine HLEN.out.mono ?_; rintro e w' ⟨rfl, hw⟩; have hw2 := hw.symm; subst hw2; clear hw)
  clear htp
  go_loopg [4] n (fun g i wr => g ≤ n ∧ i = .int .i64 ((g : Int) - 1) ∧ ∃ A1, res = climbF W T g A1 ∧ LrnAt wr b tb wb A1 ∧ Fr [b] w wr ∧ -1000 * (13 - (g : Int)) - 1000 ≤ A1.opn ∧ A1.opn ≤ 1000 * (13 - (g : Int)) + 1000)
  case atStart => exact ⟨by omega, rfl, A, HRES.out.symm, HH.out, Fr.refl _ _, by omega, by omega⟩
  case round =>
    obtain ⟨hgn, rfl, A1, he, hA, hf, o1, o2⟩ := hrel
    by_cases hlt : 0 < gk
    · obtain ⟨k, hk⟩ : ∃ k, k + 1 = gk := ⟨gk - 1, by omega⟩
      subst hk
      rw [climbF_succ] at he
      have hkn : k < n := by omega
      have hk12 : k < 12 := by omega
      have hk12i : (k : Int) < 12 := by omega
      have hkk : ((k + 1 : Nat) : Int) - 1 = (k : Int) := by omega
      rw [hkk]
      have hkl : k < T.st.length := by rw [HN.out]; exact hkn
      have ht := HT.out.fr hf (by have := HBT.out; simp; omega)
      have hw := HW.out.fr hf (by have := HBW.out; simp; omega)
      obtain ⟨s, hat⟩ := at_of_lt hkl
      have hgx := hat.good HTK.out
      have hx12 := (good_iff _).1 hgx
      have htp := hA.1.t
      change wr.cell? ⟨b, 0, none⟩ = some (.pointer (some ⟨tb, 0, none⟩)) at htp
      have HAT := hid (at_any ht k hkl)
      obtain ⟨x, hx⟩ : ∃ x, T.litAt k = x := ⟨_, rfl⟩
      rw [hx] at he HAT hgx hx12
      have HVX := hid (fun w => var_any x w (by omega) (by omega))
      have HBX := hid (fun w => lbit_any x.natAbs (by omega) w)
      have hts := bit16 hA.2.seen (show x.natAbs < 16 by omega)
      have HF := hid hf
      have HGN := hid hgn
      have H13 := hid (show 1 ≤ x.natAbs ∧ x.natAbs < 13 by omega)
      have HA := hid hA
      have HTR := hid ht
      have HWR := hid hw
      have HO1 := hid o1
      have HO2 := hid o2
      clear hA ht hw hf hgn hat hkl hx hgx hx12 hkk o1 o2
      cases hsn : A1.seen.testBit x.natAbs with
      | false =>
        rw [hsn] at he hts
        rw [if_neg (by simp)] at he
        have HE := hid he
        clear he hsn
        go_wp2_with (first | (go_at_call 114; refine HAT.out.mono ?_; rintro e w' ⟨rfl, m, hw'⟩; have hA1 : LrnAt w' b tb wb A1 := (by rw [hw']; exact HA.out.drewN); have hseen := hA1.1.seen; change w'.cell? ⟨b, 2, none⟩ = some (.int .u16 (A1.seen : Nat)) at hseen; have HA1 := hid hA1; have HW1 := hid hw'; clear hA1 hw') | (go_at_call 89; refine (HVX.out _).mono ?_; rintro e w' ⟨rfl, hw⟩; have hw2 := hw.symm; subst hw2; clear hw) | (go_quiet ((go_at_call 143; exact Calls.quiet_of_same (HBX.out _)))))
        go_roundg k
        case measure => omega
        case rel =>
          have o1 := HO1.out
          have o2 := HO2.out
          refine ⟨by have := HGN.out; omega, by simp, A1, HE.out, HA1.out.drewN, ?_, by omega, by omega⟩
          rw [HW1.out]; exact HF.out.drewN.drewN
      | true =>
        rw [hsn] at he hts
        rw [if_pos rfl] at he
        obtain ⟨lv, hlv⟩ : ∃ y, T.level x.natAbs = y := ⟨_, rfl⟩
        rw [hlv] at he
        have HLV : Hid (∀ w, TrlAt w tb T → Calls Tryz.prog 125 #[.pointer (some ⟨tb, 0, none⟩), .int .i64 (x.natAbs : Nat)] w fun e w' => e = .returned (.int .i64 lv) ∧ w' = w) := by
          rw [← hlv]; exact fun w h => levelOf_any h x.natAbs H13.out.1 H13.out.2
        clear hlv hsn
        by_cases hll : lv = A1.lv
        · rw [if_pos hll] at he
          have hb2 : (lv == A1.lv) = true := by simp [hll]
          have hopb : -100000 ≤ A1.opn ∧ A1.opn ≤ 100000 := by have := HO1.out; have := HO2.out; omega
          have hopb1 := hopb.1
          have hopb2 := hopb.2
          clear hopb hll
          by_cases h0 : A1.opn - 1 = 0
          · rw [if_pos h0] at he
            have hb3 : (A1.opn - 1 == 0) = true := by rw [beq_iff_eq]; exact h0
            have HE := hid he
            clear he h0
            go_wp2_with (first | (go_at_call 114; refine HAT.out.mono ?_; rintro e w' ⟨rfl, m, hw'⟩; have hA1 : LrnAt w' b tb wb A1 := (by rw [hw']; exact HA.out.drewN); have hseen := hA1.1.seen; have hlv := hA1.1.lv; have htp' := hA1.1.t; have hwp' := hA1.1.wp; have hopn := hA1.1.opn; have hfz := hA1.1.froz; change w'.cell? ⟨b, 2, none⟩ = some (.int .u16 (A1.seen : Nat)) at hseen; change w'.cell? ⟨b, 0, none⟩ = some (.pointer (some ⟨tb, 0, none⟩)) at htp'; change w'.cell? ⟨b, 1, none⟩ = some (.pointer (some ⟨wb, 0, none⟩)) at hwp'; change w'.cell? ⟨b, 6, none⟩ = some (.int .i64 A1.lv) at hlv; change w'.cell? ⟨b, 5, none⟩ = some (.int .i64 A1.opn) at hopn; have HA1 := hid hA1; have HT1 : Hid (TrlAt w' tb T) := (by show TrlAt _ _ _; rw [hw']; exact HTR.out.drewN); have HW2 : Hid (WatAt w' wb tb W) := (by show WatAt _ _ _ _; rw [hw']; exact HWR.out.drewN); have HW1 := hid hw'; clear hA1 hw') | (go_at_call 89; refine (HVX.out _).mono ?_; rintro e w' ⟨rfl, hw⟩; have hw2 := hw.symm; subst hw2; clear hw) | (go_at_call 125; refine (HLV.out _ HT1.out.drewN).mono ?_; rintro e w' ⟨rfl, hw⟩; have hw2 := hw.symm; subst hw2; clear hw) | (go_quiet ((go_at_call 143; exact Calls.quiet_of_same (HBX.out _)))))
            refine hK.out _ _ ⟨by rw [HE.out]; rfl, ?_, ?_⟩
            · rw [HE.out]; exact ⟨HA1.out.1.drewN.set_opn (A1.opn - 1), HA1.out.2.seen, HA1.out.2.pos, HA1.out.2.neg⟩
            · rw [HW1.out]; exact HF.out.drewN.drewN.set (by simp) _
          · rw [if_neg h0] at he
            have hb3 : (A1.opn - 1 == 0) = false := by rw [beq_eq_false_iff_ne]; exact h0
            obtain ⟨r, hr⟩ : ∃ y, T.reason x.natAbs = y := ⟨_, rfl⟩
            rw [hr] at he
            have HRS : Hid (∀ w, TrlAt w tb T → Calls Tryz.prog 144 #[.pointer (some ⟨tb, 0, none⟩), .int .i64 (x.natAbs : Nat)] w fun e w' => e = .returned (.int .i64 r) ∧ w' = w) := by
              rw [← hr]; exact fun w h => reason_any h x.natAbs H13.out.1 H13.out.2
            have HCL : Hid (∀ w, WatAt w wb tb W → _) := fun w h => clause_any (w := w) h r
            cases hco : W.clause? r with
            | none =>
              rw [hco] at he HCL
              simp only [] at he
              have HE := hid he
              clear he h0 hr hco
              go_wp2_with (first | (go_at_call 114; refine HAT.out.mono ?_; rintro e w' ⟨rfl, m, hw'⟩; have hA1 : LrnAt w' b tb wb A1 := (by rw [hw']; exact HA.out.drewN); have hseen := hA1.1.seen; have hlv := hA1.1.lv; have htp' := hA1.1.t; have hwp' := hA1.1.wp; have hopn := hA1.1.opn; have hfz := hA1.1.froz; change w'.cell? ⟨b, 2, none⟩ = some (.int .u16 (A1.seen : Nat)) at hseen; change w'.cell? ⟨b, 0, none⟩ = some (.pointer (some ⟨tb, 0, none⟩)) at htp'; change w'.cell? ⟨b, 1, none⟩ = some (.pointer (some ⟨wb, 0, none⟩)) at hwp'; change w'.cell? ⟨b, 6, none⟩ = some (.int .i64 A1.lv) at hlv; change w'.cell? ⟨b, 5, none⟩ = some (.int .i64 A1.opn) at hopn; have HA1 := hid hA1; have HT1 : Hid (TrlAt w' tb T) := (by show TrlAt _ _ _; rw [hw']; exact HTR.out.drewN); have HW2 : Hid (WatAt w' wb tb W) := (by show WatAt _ _ _ _; rw [hw']; exact HWR.out.drewN); have HW1 := hid hw'; clear hA1 hw') | (go_at_call 89; refine (HVX.out _).mono ?_; rintro e w' ⟨rfl, hw⟩; have hw2 := hw.symm; subst hw2; clear hw) | (go_at_call 125; refine (HLV.out _ HT1.out.drewN).mono ?_; rintro e w' ⟨rfl, hw⟩; have hw2 := hw.symm; subst hw2; clear hw) | (go_quiet ((go_at_call 143; exact Calls.quiet_of_same (HBX.out _)))) | (go_at_call 144; refine (HRS.out _ (HT1.out.drewN.other HBT.out _)).mono ?_; rintro e w' ⟨rfl, hw⟩; have hw2 := hw.symm; subst hw2; clear hw) | (go_at_call 58; refine (HCL.out _ (HW2.out.drewN.other HBW.out _)).mono ?_; rintro e w' ⟨rfl, hw⟩; have hw2 := hw.symm; subst hw2; clear hw))
              refine hK.out _ _ ⟨by rw [HE.out]; rfl, ?_, ?_⟩
              · rw [HE.out]; exact ⟨HA1.out.1.drewN.set_opn (A1.opn - 1), HA1.out.2.seen, HA1.out.2.pos, HA1.out.2.neg⟩
              · rw [HW1.out]; exact HF.out.drewN.drewN.set (by simp) _
            | some rc =>
              rw [hco] at he HCL
              simp only [] at he
              obtain ⟨hrg, hr12⟩ := clause_good HWR.out hco
              obtain ⟨A2, hA2⟩ : ∃ A2, ({ A1 with opn := A1.opn - 1 } : LearnS) = A2 := ⟨_, rfl⟩
              rw [hA2] at he
              have hmo := markAllF_opn T rc A2
              have ha2o : A2.opn = A1.opn - 1 := by rw [← hA2]
              have HSET : Hid (∀ w, LrnAt w b tb wb A1 → LrnAt (w.setCell ⟨b, 5, none⟩ (.int .i64 (A1.opn - 1))) b tb wb A2) := by
                rw [← hA2]; exact fun w h => ⟨h.1.set_opn (A1.opn - 1), h.2.seen, h.2.pos, h.2.neg⟩
              have HMK : Hid (∀ (w : World) (v : Value), LrnAt w b tb wb A2 → TrlAt w tb T → Ints w v rc → v.ownBlock ≠ some b → _) := fun w v h1 h2 h3 h4 => markAll_any h1 h2 HBT.out h3 h4 hrg hr12 (by omega) (by omega)
              obtain ⟨M, hM⟩ : ∃ M, markAllF T A2 rc = M := ⟨_, rfl⟩
              rw [hM] at he HMK hmo
              have HM1 : Hid (-1000 * (13 - (k : Int)) - 1000 ≤ M.2.opn) := by have := HO1.out; show _ ≤ _; omega
              have HM2 : Hid (M.2.opn ≤ 1000 * (13 - (k : Int)) + 1000) := by have := HO2.out; show _ ≤ _; omega
              have HCL2 := HCL
              clear HCL
              have HCO := hid hco
              clear h0 hr hco hrg hr12 hA2 hmo ha2o hM
              cases hm1 : M.1 with
              | true =>
                rw [hm1, if_pos rfl] at he
                rw [hm1] at HMK
                have HE := hid he
                clear he hm1
                go_wp2_with (first | (go_at_call 114; refine HAT.out.mono ?_; rintro e w' ⟨rfl, m, hw'⟩; have hA1 : LrnAt w' b tb wb A1 := (by rw [hw']; exact HA.out.drewN); have hseen := hA1.1.seen; have hlv := hA1.1.lv; have htp' := hA1.1.t; have hwp' := hA1.1.wp; have hopn := hA1.1.opn; have hfz := hA1.1.froz; change w'.cell? ⟨b, 2, none⟩ = some (.int .u16 (A1.seen : Nat)) at hseen; change w'.cell? ⟨b, 0, none⟩ = some (.pointer (some ⟨tb, 0, none⟩)) at htp'; change w'.cell? ⟨b, 1, none⟩ = some (.pointer (some ⟨wb, 0, none⟩)) at hwp'; change w'.cell? ⟨b, 6, none⟩ = some (.int .i64 A1.lv) at hlv; change w'.cell? ⟨b, 5, none⟩ = some (.int .i64 A1.opn) at hopn; have HA1 := hid hA1; have HT1 : Hid (TrlAt w' tb T) := (by show TrlAt _ _ _; rw [hw']; exact HTR.out.drewN); have HW2 : Hid (WatAt w' wb tb W) := (by show WatAt _ _ _ _; rw [hw']; exact HWR.out.drewN); have HW1 := hid hw'; clear hA1 hw') | (go_at_call 89; refine (HVX.out _).mono ?_; rintro e w' ⟨rfl, hw⟩; have hw2 := hw.symm; subst hw2; clear hw) | (go_at_call 125; refine (HLV.out _ HT1.out.drewN).mono ?_; rintro e w' ⟨rfl, hw⟩; have hw2 := hw.symm; subst hw2; clear hw) | (go_quiet ((go_at_call 143; exact Calls.quiet_of_same (HBX.out _)))) | (go_at_call 144; refine (HRS.out _ (HT1.out.drewN.other HBT.out _)).mono ?_; rintro e w' ⟨rfl, hw⟩; have hw2 := hw.symm; subst hw2; clear hw))
                refine (HCL2.out _ (HW2.out.drewN.other HBW.out _)).mono ?_
                rintro e w6 ⟨v, rfl, hown, hf6⟩
                have hbl := HA1.out.lt
                have HMM := hid (HMK.out w6 v ((HSET.out _ HA1.out.drewN).fr hf6 (by simp)) ((HT1.out.drewN.other HBT.out _).fr hf6 (by simp)) hown.ints (ownBlock_slice hown (by rw [size_setdrew]; exact hbl)))
                have HF6 := hid hf6
                clear hown hbl hf6
                go_wp2_with fail
                refine HMM.out.mono ?_
                rintro e w7 ⟨rfl, hA7, hf7⟩
                have HA7 := hid hA7
                have HF7 := hid hf7
                clear hA7 hf7
                go_wp2_with fail
                go_roundg k
                case measure => omega
                case rel =>
                  refine ⟨by have := HGN.out; omega, by simp, M.2, HE.out, HA7.out, ?_, HM1.out, HM2.out⟩
                  have h1 := HF6.out.mono (S2 := [b]) (by simp)
                  have h2 := h1.trans HF7.out
                  rw [HW1.out] at h2
                  exact (HF.out.drewN.drewN.set (by simp) _).trans h2
              | false =>
                rw [hm1, if_neg (by simp)] at he
                rw [hm1] at HMK
                have HE := hid he
                clear he hm1
                go_wp2_with (first | (go_at_call 114; refine HAT.out.mono ?_; rintro e w' ⟨rfl, m, hw'⟩; have hA1 : LrnAt w' b tb wb A1 := (by rw [hw']; exact HA.out.drewN); have hseen := hA1.1.seen; have hlv := hA1.1.lv; have htp' := hA1.1.t; have hwp' := hA1.1.wp; have hopn := hA1.1.opn; have hfz := hA1.1.froz; change w'.cell? ⟨b, 2, none⟩ = some (.int .u16 (A1.seen : Nat)) at hseen; change w'.cell? ⟨b, 0, none⟩ = some (.pointer (some ⟨tb, 0, none⟩)) at htp'; change w'.cell? ⟨b, 1, none⟩ = some (.pointer (some ⟨wb, 0, none⟩)) at hwp'; change w'.cell? ⟨b, 6, none⟩ = some (.int .i64 A1.lv) at hlv; change w'.cell? ⟨b, 5, none⟩ = some (.int .i64 A1.opn) at hopn; have HA1 := hid hA1; have HT1 : Hid (TrlAt w' tb T) := (by show TrlAt _ _ _; rw [hw']; exact HTR.out.drewN); have HW2 : Hid (WatAt w' wb tb W) := (by show WatAt _ _ _ _; rw [hw']; exact HWR.out.drewN); have HW1 := hid hw'; clear hA1 hw') | (go_at_call 89; refine (HVX.out _).mono ?_; rintro e w' ⟨rfl, hw⟩; have hw2 := hw.symm; subst hw2; clear hw) | (go_at_call 125; refine (HLV.out _ HT1.out.drewN).mono ?_; rintro e w' ⟨rfl, hw⟩; have hw2 := hw.symm; subst hw2; clear hw) | (go_quiet ((go_at_call 143; exact Calls.quiet_of_same (HBX.out _)))) | (go_at_call 144; refine (HRS.out _ (HT1.out.drewN.other HBT.out _)).mono ?_; rintro e w' ⟨rfl, hw⟩; have hw2 := hw.symm; subst hw2; clear hw))
                refine (HCL2.out _ (HW2.out.drewN.other HBW.out _)).mono ?_
                rintro e w6 ⟨v, rfl, hown, hf6⟩
                have hbl := HA1.out.lt
                have HMM := hid (HMK.out w6 v ((HSET.out _ HA1.out.drewN).fr hf6 (by simp)) ((HT1.out.drewN.other HBT.out _).fr hf6 (by simp)) hown.ints (ownBlock_slice hown (by rw [size_setdrew]; exact hbl)))
                have HF6 := hid hf6
                clear hown hbl hf6
                go_wp2_with fail
                refine HMM.out.mono ?_
                rintro e w7 ⟨rfl, hA7, hf7⟩
                have HA7 := hid hA7
                have HF7 := hid hf7
                clear hA7 hf7
                go_wp2_with fail
                refine hK.out _ _ ⟨by rw [HE.out]; rfl, by rw [HE.out]; exact HA7.out, ?_⟩
                have h1 := HF6.out.mono (S2 := [b]) (by simp)
                have h2 := h1.trans HF7.out
                rw [HW1.out] at h2
                exact (HF.out.drewN.drewN.set (by simp) _).trans h2
        · rw [if_neg hll] at he
          have hb2 : (lv == A1.lv) = false := by simp [hll]
          have HE := hid he
          clear he hll
          go_wp2_with (first | (go_at_call 114; refine HAT.out.mono ?_; rintro e w' ⟨rfl, m, hw'⟩; have hA1 : LrnAt w' b tb wb A1 := (by rw [hw']; exact HA.out.drewN); have hseen := hA1.1.seen; have hlv := hA1.1.lv; have htp' := hA1.1.t; change w'.cell? ⟨b, 2, none⟩ = some (.int .u16 (A1.seen : Nat)) at hseen; change w'.cell? ⟨b, 0, none⟩ = some (.pointer (some ⟨tb, 0, none⟩)) at htp'; change w'.cell? ⟨b, 6, none⟩ = some (.int .i64 A1.lv) at hlv; have HA1 := hid hA1; have HT1 : Hid (TrlAt w' tb T) := (by show TrlAt _ _ _; rw [hw']; exact HTR.out.drewN); have HW1 := hid hw'; clear hA1 hw') | (go_at_call 89; refine (HVX.out _).mono ?_; rintro e w' ⟨rfl, hw⟩; have hw2 := hw.symm; subst hw2; clear hw) | (go_at_call 125; refine (HLV.out _ HT1.out.drewN).mono ?_; rintro e w' ⟨rfl, hw⟩; have hw2 := hw.symm; subst hw2; clear hw) | (go_quiet ((go_at_call 143; exact Calls.quiet_of_same (HBX.out _)))))
          go_roundg k
          case measure => omega
          case rel =>
            have o1 := HO1.out
            have o2 := HO2.out
            refine ⟨by have := HGN.out; omega, by simp, A1, HE.out, HA1.out.drewN, ?_, by omega, by omega⟩
            rw [HW1.out]; exact HF.out.drewN.drewN
    · have hg0 : gk = 0 := by omega
      subst hg0
      have HE2 : Hid (res = (0, A1)) := he
      have HF := hid hf
      have HA := hid hA
      clear he hf hA
      go_wp2_with fail
      exact hK.out _ _ ⟨by rw [HE2.out]; rfl, by rw [HE2.out]; exact HA.out, HF.out⟩
end Go.Proofs.Qxb6500354aGreat
