/- THE WALKS over watch: drain, Propagate. -/
import Derived.Test.Qxb6500354aGreatSem2
namespace Go.Proofs.Qxb6500354aGreat
open Go.RowKit
set_option linter.unusedVariables false
set_option linter.unusedSimpArgs false

theorem WatAt.tp {w : World} {b tb : Nat} {W : WatchS} (h : WatAt w b tb W) : w.cell? ⟨b, 0, none⟩ = some (.pointer (some ⟨tb, 0, none⟩)) := by
  obtain ⟨R, hR, ho⟩ := h; have := hR.t; rw [ho.t] at this; exact this

theorem drain_stop {W : WatchS} {T : TrailS} (h : ¬ T.cursor < T.st.length) (n : Nat) : drainF n W T = (-1, W, T) := by
  cases n with
  | zero => rfl
  | succ n => rw [drainF_succ, if_neg h]
set_option maxHeartbeats 1000000 in
theorem drain_any {w : World} {b tb : Nat} {W0 W : WatchS} {T0 T : TrailS} (h : WatAt w b tb W) (ht : TrlAt w tb T) (hbt : tb ≠ b) (hp : PI W0 T0 W T) (hd : ∀ j, DoneAt W T j) :
    Calls Tryz.prog 80 #[.pointer (some ⟨b, 0, none⟩)] w fun e w' => e = .returned (.int .i64 (drainF 13 W T).1) ∧ WatAt w' b tb (drainF 13 W T).2.1 ∧ TrlAt w' tb (drainF 13 W T).2.2 ∧ Fr [b, tb] w w' := by
  obtain ⟨res, hres⟩ : ∃ r, drainF 13 W T = r := ⟨_, rfl⟩
  rw [hres]
  have htp := h.tp
  have HW := hid h
  have HT := hid ht
  have HRES := hid hres
  have HBT := hid hbt
  have HP := hid hp
  have HD := hid hd
  have HPE := hid (pending_any ht)
  clear h ht hres hbt hp hd
  refine calls_via fun K hK => ?_
  go_enter Tryz.func80, Tryz.ntmps80
  go_wp2_with (go_at_call 113; refine HPE.out.mono ?_; rintro e w' ⟨rfl, n, rfl⟩)
  clear htp
  go_loopg [3] 13 (fun g i wr => ∃ (W1 : WatchS) (T1 : TrailS), i = .int .i64 ((T1.st.length : Int) - (T1.cursor : Int)) ∧ 12 < g + T1.cursor ∧ res = drainF g W1 T1 ∧ WatAt wr b tb W1 ∧ TrlAt wr tb T1 ∧ PI W0 T0 W1 T1 ∧ (∀ j, DoneAt W1 T1 j) ∧ Fr [b, tb] w wr)
  case atStart => exact ⟨W, T, rfl, by omega, HRES.out.symm, HW.out.drewN, HT.out.drewN, HP.out, HD.out, (Fr.refl _ _).drewN⟩
  case round =>
    obtain ⟨W1, T1, rfl, hg, he, hw1, ht1, hp1, hd1, hf⟩ := hrel
    obtain ⟨w0, hw0⟩ : ∃ w0, w0 = w := ⟨_, rfl⟩
    have htp := hw1.tp
    have hcle := hp1.tk.cur
    have hl12 := hp1.tk.len
    by_cases hlt : T1.cursor < T1.st.length
    · rw [show gk = (gk - 1) + 1 from by omega, drainF_succ, if_pos hlt] at he
      obtain ⟨s, hat⟩ := at_of_lt hlt
      obtain ⟨p1, p2, p3, p4⟩ := hp1.through hd1 hat
      have HAT := hid (at_any ht1 T1.cursor hlt)
      have HLEN := hid (len_any ht1)
      have hgp := hat.good hp1.tk
      have hpne := hat.ne hp1.tk
      have HTH := hid (fun n => through_any (hw1.drewN (n := n)) (ht1.drewN (n := n)) HBT.out (T1.litAt T1.cursor) hgp (fun id _ _ hb => by
        obtain ⟨q1, q2⟩ := hp1.watch hpne id hb
        exact ⟨((hp1.ws.v id).sl q1).1, q2⟩))
      obtain ⟨m, hm⟩ : ∃ m, T1.st.length = m := ⟨_, rfl⟩
      obtain ⟨k, hk⟩ : ∃ k, T1.cursor = k := ⟨_, rfl⟩
      obtain ⟨p, hpp⟩ : ∃ p, T1.litAt k = p := ⟨_, rfl⟩
      obtain ⟨r, hr⟩ : ∃ r, throughF p (W1.wl (code (-p))) 52 0 W1 T1 = r := ⟨_, rfl⟩
      rw [hm, hk] at hlt hcle
      rw [hm] at hl12 HLEN
      rw [hk] at HAT HTH hg
      rw [hk] at he p1 p2 p3 p4
      rw [hpp] at he HTH p1 p2 p3 p4 HAT
      rw [hr] at he HTH p1 p2 p3 p4
      rw [hm, hk]
      have hsub : (m : Int) - ((m : Int) - (k : Int)) = (k : Int) := by omega
      have hpos : (0 : Int) < (m : Int) - (k : Int) := by omega
      have hki : (k : Int) < (m : Int) := by omega
      have hm12 : (m : Int) ≤ 12 := by omega
      have HF := hid hf
      have HP1 := hid p1
      have HP2 := hid p2
      have HP3 := hid p3
      have HP4 := hid p4
      have HM := hid hm
      have HKK := hid hk
      have HPP := hid hpp
      have HG := hid hg
      by_cases h0 : 0 ≤ r.1
      · rw [if_pos h0] at he
        subst he
        clear hw1 ht1 hp1 hd1 hf hm hk hpp hr p1 p2 p3 p4 hat hgp hpne hg
        go_wp2_with (first | (go_at_call 49; refine HLEN.out.mono ?_; rintro e w' ⟨rfl, hw⟩; have hw2 := hw.symm; subst hw2; clear hw) | (go_at_call 114; refine HAT.out.mono ?_; rintro e w' ⟨rfl, n, rfl⟩))
        refine (HTH.out _).mono ?_
        rintro e w2 ⟨rfl, hw2, ht2, hf2⟩
        go_wp2_with fail
        exact hK.out _ _ ⟨rfl, hw2, ht2, HF.out.trans ((Fr.refl _ _).drewN.trans hf2)⟩
      · rw [if_neg h0] at he
        have HE := hid he
        clear hw1 ht1 hp1 hd1 hf hm hk hpp hr p1 p2 p3 p4 hat hgp hpne hg he
        go_wp2_with (first | (go_at_call 49; refine HLEN.out.mono ?_; rintro e w' ⟨rfl, hw⟩; have hw2 := hw.symm; subst hw2; clear hw) | (go_at_call 114; refine HAT.out.mono ?_; rintro e w' ⟨rfl, n, rfl⟩))
        refine (HTH.out _).mono ?_
        rintro e w2 ⟨rfl, hw2, ht2, hf2⟩
        have htp2 := hw2.tp
        have hc2 : r.2.2.cursor < r.2.2.st.length := by have := HP3.out.lt; have := HP2.out; omega
        have HTK := hid (take_any ht2 hc2)
        have HW2 := hid hw2
        have HF2 := hid hf2
        have HC2 := hid hc2
        clear hw2 ht2 hf2 hc2
        go_wp2_with fail
        refine HTK.out.mono ?_
        rintro e w3 ⟨⟨v, rfl⟩, ht3, hf3⟩
        have hw3 := HW2.out.fr hf3 (by have := HBT.out; simp; omega)
        have htp3 := hw3.tp
        have HPE3 := hid (pending_any ht3)
        have HW3 := hid hw3
        have HT3 := hid ht3
        have HF3 := hid hf3
        clear hw3 ht3 hf3 htp2
        go_wp2_with (go_at_call 113; refine HPE3.out.mono ?_; rintro e w' ⟨rfl, n, rfl⟩)
        go_roundg (gk - 1)
        case measure => have := HG.out; omega
        case rel =>
          have hg := HG.out
          have p4 := HP4.out.resolve_left (fun q => by have := q.ge; omega)
          have hc2 := HC2.out
          have p2 := HP2.out
          refine ⟨_, _, rfl, ?_, HE.out, HW3.out.drewN, HT3.out.drewN, HP1.out.take1 hc2 (by rw [p2]; exact p4.2.1), ?_, ?_⟩
          · rw [take1_eq hc2]; simp only []; omega
          · rw [take1_eq hc2]; exact p4.2.2
          · exact (HF.out.trans ((Fr.refl _ _).drewN.trans (HF2.out.trans (HF3.out.mono (by simp))))).drewN
    · have hE : drainF gk W1 T1 = (-1, W1, T1) := drain_stop hlt gk
      rw [hE] at he
      subst he
      have hpos : ¬ (0 : Int) < (T1.st.length : Int) - (T1.cursor : Int) := by omega
      have HW1 := hid hw1
      have HT1 := hid ht1
      have HF := hid hf
      clear hw1 ht1 hf hp1 hd1 hE hg
      go_wp2_with fail
      exact hK.out _ _ ⟨rfl, HW1.out, HT1.out, HF.out⟩

theorem propagate_any {w : World} {b tb : Nat} {W : WatchS} {T : TrailS} (h : WatAt w b tb W) (ht : TrlAt w tb T) (hbt : tb ≠ b) (hw : WS W) (hr : Reas W T) (hs : ∀ j, Sem T T.cursor (W.view j)) :
    Calls Tryz.prog 46 #[.pointer (some ⟨b, 0, none⟩)] w fun e w' => e = .returned (.int .i64 (propF W T).1) ∧ WatAt w' b tb (propF W T).2.1 ∧ TrlAt w' tb (propF W T).2.2 ∧ Fr [b, tb] w w' := by
  have hk := ht.ok
  obtain ⟨R, hR, ho⟩ := id h
  have hvis := hR.visits
  have hfr := hR.froz
  have hset : WatAt (w.setCell ⟨b, 706, none⟩ (.int .i64 0)) b tb W := ⟨_, hR.set_visits 0, ho.t, ho.len, ho.gd, ho.dist, ho.size, ho.lits, ho.used, ho.fresh, ho.weak, ho.list, ho.usedlt, ho.freshlt, ho.weaklt, ho.listlt⟩
  have htset : TrlAt (w.setCell ⟨b, 706, none⟩ (.int .i64 0)) tb T := ht.other hbt _
  have hfset : Fr [b, tb] w (w.setCell ⟨b, 706, none⟩ (.int .i64 0)) := (Fr.refl _ _).set (by simp) _
  obtain ⟨r1, hr1⟩ : ∃ r, wakeF (W.fresh ||| W.weak) 52 0 W T = r := ⟨_, rfl⟩
  have hpr : propF W T = if 0 ≤ r1.1 then r1 else drainF 13 r1.2.1 r1.2.2 := by rw [← hr1]; rfl
  obtain ⟨p1, p2, p3⟩ := wake_law0 hw hk hr hs
  rw [hr1] at p1 p2 p3
  have HWK := hid (wake_any hset htset hbt)
  rw [hr1] at HWK
  rw [hpr]
  have HP1 := hid p1
  have HP3 := hid p3
  have HBT := hid hbt
  have HFS := hid hfset
  clear h ht hk hR ho hset htset p1 p2 p3 hr1 hpr hbt hw hr hs hfset
  refine calls_via fun K hK => ?_
  go_enter Tryz.func46, Tryz.ntmps46
  go_wp2_with fail
  refine HWK.out.mono ?_
  rintro e w2 ⟨rfl, hw2, ht2, hf2⟩
  have HW2 := hid hw2
  have HT2 := hid ht2
  have HF2 := hid hf2
  clear hw2 ht2 hf2 hvis hfr
  by_cases h0 : 0 ≤ r1.1
  · rw [if_pos h0] at hK
    go_wp2_with fail
    exact hK.out _ _ ⟨rfl, HW2.out, HT2.out, HFS.out.trans HF2.out⟩
  · rw [if_neg h0] at hK
    have hge : ¬ (0 : Int) ≤ r1.1 := h0
    have p3 := HP3.out.resolve_left (fun q => h0 q.ge)
    have HDR := hid (drain_any HW2.out HT2.out HBT.out HP1.out p3.2)
    clear p3 h0
    go_wp2_with fail
    refine HDR.out.mono ?_
    rintro e w3 ⟨rfl, hw3, ht3, hf3⟩
    go_wp2_with fail
    exact hK.out _ _ ⟨rfl, hw3, ht3, HFS.out.trans (HF2.out.trans hf3)⟩
end Go.Proofs.Qxb6500354aGreat
