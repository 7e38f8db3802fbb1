/- THE WALKS over search, 3: jump, restart, forget. -/
import Derived.Test.Qxb6500354aGreatSrch2
namespace Go.Proofs.Qxb6500354aGreat
open Go.RowKit
set_option linter.unusedVariables false
set_option linter.unusedSimpArgs false

/-- The engine: solver, trail, store, learner. -/
structure EngAt (w : World) (E : Eb) (W : WatchS) (T : TrailS) (S : SolverS) (lo : Value) : Prop where
  nd : E.all.Nodup
  lt : ∀ g ∈ E.all, g < w.heap.size
  sv : SlvAt w E S lo
  tr : TrlAt w E.t T
  wt : WatAt w E.w E.t W
  ln : LrnAt w E.l E.t E.w .clean
theorem Eb.ne {E : Eb} (h : E.all.Nodup) : E.s ≠ E.p ∧ E.s ≠ E.t ∧ E.s ≠ E.w ∧ E.s ≠ E.l ∧ E.p ≠ E.t ∧ E.p ≠ E.w ∧ E.p ≠ E.l ∧ E.t ≠ E.w ∧ E.t ≠ E.l ∧ E.w ≠ E.l := by
  simp [Eb.all, List.nodup_cons] at h
  omega
theorem phaseF_succ (T : TrailS) (level : Int) (i : Nat) (ph : Nat → Int) : phaseF T level (i + 1) ph = if T.level (T.litAt i).natAbs ≤ level then ph else phaseF T level i (upd ph (T.litAt i).natAbs (if 0 < T.litAt i then 1 else -1)) := rfl

set_option maxHeartbeats 4000000 in
theorem jump_any {w : World} {E : Eb} {S : SolverS} {lo : Value} {T : TrailS} (h : SlvAt w E S lo) (ht : TrlAt w E.t T) (hne : E.t ≠ E.s) (hlo : ∀ g, lo.ownBlock = some g → g ≠ E.t) (k : Nat) (hk : k ≤ T.lims.length) :
    Calls Tryz.prog 83 #[.pointer (some ⟨E.s, 0, none⟩), .int .i64 k] w fun e w' => e = .returned (.tuple #[]) ∧ SlvAt w' E { S with phase := phaseF T k T.st.length S.phase } lo ∧ TrlAt w' E.t (T.back k) ∧ Fr [E.s, E.t] w w' := by
  have htp := h.at_.t
  change w.cell? ⟨E.s, 1, none⟩ = some (.pointer (some ⟨E.t, 0, none⟩)) at htp
  have hok := ht.ok
  have hl12 := ht.len
  have hlm := lims_len hok
  obtain ⟨n, hn⟩ : ∃ n, T.st.length = n := ⟨_, rfl⟩
  obtain ⟨res, hres⟩ : ∃ r, phaseF T k n S.phase = r := ⟨_, rfl⟩
  have HLEN := hid (len_any ht)
  rw [hn] at HLEN hl12 ⊢
  rw [hres]
  have HS := hid h
  have HT := hid ht
  have HN := hid hn
  have HNE := hid hne
  have HLO := hid hlo
  have HKL := hid hk
  have HOK := hid hok
  have HRES := hid hres
  have hk12 : k ≤ 12 := by omega
  clear h ht hn hne hlo hk hok hlm hres
  refine calls_via fun K hK => ?_
  go_enter Tryz.func83, Tryz.ntmps83
  go_wp2_with (first | (go_at_call 49; refine HLEN.out.mono ?_; rintro e w' ⟨rfl, hw⟩; have hw2 := hw.symm; subst hw2; clear hw))
  go_loopg [5] n (fun g i wr => ∃ ph, g ≤ n ∧ i = .int .i64 ((g : Int) - 1) ∧ SlvAt wr E { S with phase := ph } lo ∧ res = phaseF T k g ph ∧ Fr [E.s] w wr)
  case atStart => exact ⟨S.phase, by omega, rfl, HS.out, HRES.out.symm, Fr.refl _ _⟩
  case round =>
    obtain ⟨ph, hg, rfl, hs, he, hf⟩ := hrel
    have HTR := hid (HT.out.fr hf (by have := HNE.out; simp; omega))
    have htp := hs.at_.t
    change wr.cell? ⟨E.s, 1, none⟩ = some (.pointer (some ⟨E.t, 0, none⟩)) at htp
    have hfz := hs.at_.froz
    by_cases hlt : 0 < gk
    · obtain ⟨j, rfl⟩ : ∃ j, gk = j + 1 := ⟨gk - 1, by omega⟩
      rw [show ((j + 1 : Nat) : Int) - 1 = (j : Int) from by omega]
      rw [phaseF_succ] at he
      have hjn : j < T.st.length := by rw [HN.out]; omega
      have HAT := hid (at_any HTR.out j hjn)
      have hgd : good (T.litAt j) = true := by
        obtain ⟨r, hr⟩ := at_of_lt hjn
        exact hr.good HOK.out
      have hg12 := (good_iff _).1 hgd
      generalize T.litAt j = q at *
      obtain ⟨v, hv⟩ : ∃ v, q.natAbs = v := ⟨_, rfl⟩
      rw [hv] at he
      have HV := hid hv
      have hv1 : 1 ≤ v := by omega
      have hv12 : v ≤ 12 := by omega
      have hv13 : v < 13 := by omega
      have hvi : (v : Int) < 13 := by omega
      have HLV := hid (fun w h => levelOf_any (w := w) (b := E.t) (T := T) h v hv1 hv13)
      obtain ⟨lv, hlv⟩ : ∃ lv, T.level v = lv := ⟨_, rfl⟩
      rw [hlv] at he HLV
      have hph := hs.at_.phase v hv13
      change wr.cell? ⟨E.s, 18 + v, none⟩ = some (.int .i64 (ph v)) at hph
      have HSR := hid hs
      have HF := hid hf
      have hj0 : (0 : Int) ≤ j := by omega
      have HJ : Hid ((j : Int) - 1 = ((j : Nat) : Int) - 1) := rfl
      have HJN : Hid (j ≤ n) := by show _ ≤ _; omega
      have hj12 : (j : Int) ≤ 12 := by omega
      clear hv hlv hs hf hgd hg12 hjn hg hlt
      by_cases hc : lv ≤ k
      · rw [if_pos hc] at he
        have HE := hid he
        have HBK := hid (fun w h => back_any (w := w) (b := E.t) (T := T) h k HKL.out)
        clear he
        go_wp2_with (first | (go_at_call 114; refine HAT.out.mono ?_; rintro e w' ⟨rfl, n2, hw⟩; have hw2 := hw; subst hw2; clear hw) | (go_at_call 89; refine (var_v HV.out hv12 _).mono ?_; rintro e w' ⟨rfl, rfl⟩) | (go_at_call 125; refine (HLV.out _ HTR.out.drewN).mono ?_; rintro e w' ⟨rfl, hw⟩; have hw2 := hw.symm; subst hw2; clear hw))
        refine (HBK.out _ HTR.out.drewN).mono ?_
        rintro e w2 ⟨⟨v0, rfl⟩, ht2, hf2⟩
        go_wp2_with fail
        try go_end0
        refine hK.out _ _ ⟨rfl, ?_, ht2, ?_⟩
        · rw [HE.out]
          exact HSR.out.drewN.fr hf2 (by have := HNE.out; simp; omega) (fun g hg hm => HLO.out g hg (by simpa using hm))
        · exact (HF.out.drewN.mono (by simp)).trans (hf2.mono (by simp))
      · rw [if_neg hc] at he
        by_cases hq : 0 < q
        · rw [if_pos hq] at he
          have HE := hid he
          clear he
          go_wp2_with (first | (go_at_call 114; refine HAT.out.mono ?_; rintro e w' ⟨rfl, n2, hw⟩; have hw2 := hw; subst hw2; clear hw) | (go_at_call 89; refine (var_v HV.out hv12 _).mono ?_; rintro e w' ⟨rfl, rfl⟩) | (go_at_call 125; refine (HLV.out _ HTR.out.drewN).mono ?_; rintro e w' ⟨rfl, hw⟩; have hw2 := hw.symm; subst hw2; clear hw))
          go_roundg j
          case measure => omega
          case rel =>
            refine ⟨upd ph v 1, HJN.out, rfl, ?_, HE.out, ?_⟩
            · have := (HSR.out.drewN (n := n2)).putPhase v hv13 (-1)
              have := this.putPhase v hv13 1
              rw [show upd ph v 1 = upd (upd ph v (-1)) v 1 from by funext i; unfold upd; split <;> rfl]
              exact this
            · exact (HF.out.drewN.set (by simp) _).set (by simp) _
        · rw [if_neg hq] at he
          have HE := hid he
          clear he
          go_wp2_with (first | (go_at_call 114; refine HAT.out.mono ?_; rintro e w' ⟨rfl, n2, hw⟩; have hw2 := hw; subst hw2; clear hw) | (go_at_call 89; refine (var_v HV.out hv12 _).mono ?_; rintro e w' ⟨rfl, rfl⟩) | (go_at_call 125; refine (HLV.out _ HTR.out.drewN).mono ?_; rintro e w' ⟨rfl, hw⟩; have hw2 := hw.symm; subst hw2; clear hw))
          go_roundg j
          case measure => omega
          case rel =>
            exact ⟨upd ph v (-1), HJN.out, rfl, (HSR.out.drewN (n := n2)).putPhase v hv13 (-1), HE.out, HF.out.drewN.set (by simp) _⟩
    · have hg0 : gk = 0 := by omega
      subst hg0
      have HE : Hid (res = ph) := he
      have HBK := hid (back_any HTR.out k HKL.out)
      have HSR := hid hs
      have HF := hid hf
      clear he hs hf hg hlt
      go_wp2_with fail
      refine HBK.out.mono ?_
      rintro e w2 ⟨⟨v0, rfl⟩, ht2, hf2⟩
      go_wp2_with fail
      try go_end0
      refine hK.out _ _ ⟨rfl, ?_, ht2, ?_⟩
      · rw [HE.out]
        exact HSR.out.fr hf2 (by have := HNE.out; simp; omega) (fun g hg hm => HLO.out g hg (by simpa using hm))
      · exact (HF.out.mono (by simp)).trans (hf2.mono (by simp))

theorem interval_any (i : Nat) (h : i ≤ 4) (w : World) : Calls Tryz.prog 96 #[.int .i64 i] w fun e w' => e = .returned (.int .i64 (interval i : Nat)) ∧ ∃ n, w' = w.drewN n := by
  have hi : (i : Int) ≤ 4 := by omega
  by_cases hlt : i < 4
  · have hH : Hid (interval i = i + 1) := by show _ = _; unfold interval; rw [if_pos hlt]
    have hlt2 : (i : Int) < 4 := by omega
    refine calls_via fun K hK => ?_
    go_enter Tryz.func96, Tryz.ntmps96
    go_wp2_with fail
    refine hK.out _ _ ⟨?_, ?_⟩
    · rw [hH.out]; simp
    · first | exact ⟨0, rfl⟩ | exact ⟨_, rfl⟩
  · have he : i = 4 := by omega
    subst he
    refine calls_via fun K hK => ?_
    go_enter Tryz.func96, Tryz.ntmps96
    go_wp2_with fail
    refine hK.out _ _ ⟨rfl, ?_⟩
    first | exact ⟨0, rfl⟩ | exact ⟨_, rfl⟩
end Go.Proofs.Qxb6500354aGreat
