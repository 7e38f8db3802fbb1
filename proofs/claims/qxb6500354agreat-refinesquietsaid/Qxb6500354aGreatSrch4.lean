/- THE WALKS over search, 4: restart, forget. -/
import Derived.Test.Qxb6500354aGreatSrch3
namespace Go.Proofs.Qxb6500354aGreat
open Go.RowKit
set_option linter.unusedVariables false
set_option linter.unusedSimpArgs false

theorem SlvAt.put {w : World} {E : Eb} {S S2 : SolverS} {lo : Value} (h : SlvAt w E S lo) {i : Nat} {v : Value} (hr : SolverAt (w.setCell ⟨E.s, i, none⟩ v) E.s (SlvR E S2 lo)) (hl : S2.log = S.log) (ha : S2.alive < 2 ^ 16) :
    SlvAt (w.setCell ⟨E.s, i, none⟩ v) E S2 lo := by
  have hse : E.s ∈ E.all := by simp [Eb.all]
  refine ⟨hr, ?_, ha, h.dj⟩
  rw [hl]
  exact h.own.fr (S := [E.s]) ((Fr.refl _ _).set (by simp) _) (fun g hg hm => by rw [List.mem_singleton] at hm; exact h.dj g hg (by rw [hm]; exact hse))
theorem SlvAt.putSince {w : World} {E : Eb} {S : SolverS} {lo : Value} (h : SlvAt w E S lo) (x : Nat) : SlvAt (w.setCell ⟨E.s, 36, none⟩ (.int .i64 (x : Nat))) E { S with since := x } lo := h.put (S2 := { S with since := x }) (h.at_.set_since x) rfl h.ok
theorem SlvAt.putRestarts {w : World} {E : Eb} {S : SolverS} {lo : Value} (h : SlvAt w E S lo) (x : Nat) : SlvAt (w.setCell ⟨E.s, 35, none⟩ (.int .i64 (x : Nat))) E { S with restarts := x } lo := h.put (S2 := { S with restarts := x }) (h.at_.set_restarts x) rfl h.ok
theorem SlvAt.putConflicts {w : World} {E : Eb} {S : SolverS} {lo : Value} (h : SlvAt w E S lo) (x : Nat) : SlvAt (w.setCell ⟨E.s, 34, none⟩ (.int .i64 (x : Nat))) E { S with conflicts := x } lo := h.put (S2 := { S with conflicts := x }) (h.at_.set_conflicts x) rfl h.ok
theorem SlvAt.putCount {w : World} {E : Eb} {S : SolverS} {lo : Value} (h : SlvAt w E S lo) (x : Nat) : SlvAt (w.setCell ⟨E.s, 33, none⟩ (.int .i64 (x : Nat))) E { S with count := x } lo := h.put (S2 := { S with count := x }) (h.at_.set_count x) rfl h.ok
theorem SlvAt.putAlive {w : World} {E : Eb} {S : SolverS} {lo : Value} (h : SlvAt w E S lo) (x : Nat) (hx : x < 2 ^ 16) : SlvAt (w.setCell ⟨E.s, 32, none⟩ (.int .u16 (x : Nat))) E { S with alive := x } lo := h.put (S2 := { S with alive := x }) (h.at_.set_alive x) rfl hx

set_option maxHeartbeats 2000000 in
theorem restart_any {w : World} {E : Eb} {s : St} {lo : Value} (h : SlvAt w E s.S lo) (ht : TrlAt w E.t s.T) (hne : E.t ≠ E.s) (hlo : ∀ g, lo.ownBlock = some g → g ≠ E.t) (h4 : s.S.restarts ≤ 4) (hsi : s.S.since ≤ 1000000) :
    Calls Tryz.prog 86 #[.pointer (some ⟨E.s, 0, none⟩)] w fun e w' => e = .returned (.tuple #[]) ∧ SlvAt w' E s.restart.S lo ∧ TrlAt w' E.t s.restart.T ∧ Fr [E.s, E.t] w w' := by
  have hc1 := h.at_.since
  have hc2 := h.at_.restarts
  have hfz := h.at_.froz
  change w.cell? ⟨E.s, 36, none⟩ = some (.int .i64 (s.S.since : Nat)) at hc1
  change w.cell? ⟨E.s, 35, none⟩ = some (.int .i64 (s.S.restarts : Nat)) at hc2
  have HRE := hid (restart_eq s)
  have HIV := hid (fun w => interval_any s.S.restarts h4 w)
  obtain ⟨r, hr⟩ : ∃ r, s.S.restarts = r := ⟨_, rfl⟩
  obtain ⟨si, hsi2⟩ : ∃ r, s.S.since = r := ⟨_, rfl⟩
  obtain ⟨iv, hiv⟩ : ∃ q, interval s.S.restarts = q := ⟨_, rfl⟩
  rw [hiv] at HIV HRE
  rw [hr] at HIV HRE hc2 h4
  rw [hsi2] at HRE hc1 hsi
  have hiv5 : iv ≤ 5 := by rw [← hiv]; unfold interval; split <;> omega
  have HS := hid h
  have HT := hid ht
  have HNE := hid hne
  have HLO := hid hlo
  have HR := hid hr
  have HSI := hid hsi2
  have hs1 := h.putSince (si + 1)
  have ht1 : TrlAt (w.setCell ⟨E.s, 36, none⟩ (.int .i64 ((si + 1 : Nat) : Int))) E.t s.T := ht.other hne _
  have HS1 := hid hs1
  have HT1 := hid ht1
  have HJ := hid (jump_any (hs1.drewN (n := 0)) ht1.drewN hne hlo 0 (Nat.zero_le _))
  have HJN := hid (fun n => jump_any (hs1.drewN (n := n)) (ht1.drewN) hne hlo 0 (Nat.zero_le _))
  clear h ht hne hlo hr hsi2 hs1 ht1 hiv
  have hcast : Hid (((si + 1 : Nat) : Int) = (si : Int) + 1) := by show _ = _; simp
  have hf1 : Hid (Fr [E.s, E.t] w (w.setCell ⟨E.s, 36, none⟩ (.int .i64 ((si + 1 : Nat) : Int)))) := (Fr.refl _ _).set (by simp) _
  rw [hcast.out] at HS1 HT1 HJN hf1
  clear HJ
  by_cases hc : 0 < iv ∧ iv ≤ si + 1
  · rw [if_pos hc] at HRE
    have h1 : (0 : Int) < iv := by omega
    have h2 : (iv : Int) ≤ (si : Int) + 1 := by omega
    clear hc
    refine calls_via fun K hK => ?_
    go_enter Tryz.func86, Tryz.ntmps86
    go_wp2_with (first | (go_at_call 96; refine (HIV.out _).mono ?_; rintro e w' ⟨rfl, n2, hw⟩; have hw2 := hw; subst hw2; clear hw))
    refine (HJN.out _).mono ?_
    rintro e w2 ⟨rfl, hs2, ht2, hf2⟩
    have hc2 := hs2.at_.restarts
    have hc1 := hs2.at_.since
    have hfz := hs2.at_.froz
    change w2.cell? ⟨E.s, 35, none⟩ = some (.int .i64 (s.S.restarts : Nat)) at hc2
    change w2.cell? ⟨E.s, 36, none⟩ = some (.int .i64 ((si + 1 : Nat) : Int)) at hc1
    rw [HR.out] at hc2
    have HS2 := hid hs2
    have HT2 := hid ht2
    have HF2 := hid hf2
    clear hs2 ht2 hf2
    go_wp2_with fail
    try go_end0
    rw [HRE.out] at hK
    refine hK.out _ _ ⟨rfl, ?_, ?_, ?_⟩
    · have := (HS2.out.putRestarts (r + 1)).putSince 0
      rw [show (((r + 1 : Nat) : Int)) = (r : Int) + 1 from by simp] at this
      exact this
    · exact ((HT2.out.other HNE.out _).other HNE.out _)
    · exact ((hf1.out.drewN.trans HF2.out).set (by simp) _).set (by simp) _
  · rw [if_neg hc] at HRE
    have HK0 : ∀ (w2 : World), SlvAt w2 E { s.S with since := si + 1 } lo → TrlAt w2 E.t s.T → Fr [E.s, E.t] w w2 → SlvAt w2 E s.restart.S lo ∧ TrlAt w2 E.t s.restart.T ∧ Fr [E.s, E.t] w w2 := by
      intro w2 a b c; rw [HRE.out]; exact ⟨a, b, c⟩
    have HK1 := hid HK0
    clear HK0
    by_cases h1 : 0 < iv
    · have h2 : ¬ (iv : Int) ≤ (si : Int) + 1 := by omega
      have h3 : (0 : Int) < iv := by omega
      clear hc
      refine calls_via fun K hK => ?_
      go_enter Tryz.func86, Tryz.ntmps86
      go_wp2_with (first | (go_at_call 96; refine (HIV.out _).mono ?_; rintro e w' ⟨rfl, n2, hw⟩; have hw2 := hw; subst hw2; clear hw))
      try go_end0
      refine hK.out _ _ ⟨rfl, HK1.out _ ?_ ?_ ?_⟩
      · first | exact HS1.out.drewN | exact HS1.out.drewN.drewN
      · first | exact HT1.out.drewN | exact HT1.out.drewN.drewN
      · first | exact hf1.out.drewN | exact hf1.out.drewN.drewN
    · have h3 : ¬ (0 : Int) < iv := by omega
      clear hc
      refine calls_via fun K hK => ?_
      go_enter Tryz.func86, Tryz.ntmps86
      go_wp2_with (first | (go_at_call 96; refine (HIV.out _).mono ?_; rintro e w' ⟨rfl, n2, hw⟩; have hw2 := hw; subst hw2; clear hw))
      try go_end0
      refine hK.out _ _ ⟨rfl, HK1.out _ ?_ ?_ ?_⟩
      · first | exact HS1.out.drewN | exact HS1.out.drewN.drewN
      · first | exact HT1.out.drewN | exact HT1.out.drewN.drewN
      · first | exact hf1.out.drewN | exact hf1.out.drewN.drewN

/-! ### forget -/
theorem FI.drop1 {ps : List (List Int)} {T : TrailS} {L : List (List Int)} {N : Nat} {W : WatchS} {S : SolverS} (h : FI ps T L N W S) {k : Nat} (hk : k < 12) (hu : W.used.testBit (40 + k) = true) (hlf : lockedF T (40 + k) (W.cl (40 + k)) = false) :
    FI ps T L N (W.drop (40 + k)) { S.note true (normC (W.cl (40 + k))) with alive := clrB S.alive k, count := S.count - 1 } := by
  have hlive := liveL_drop (W := W) (id := 40 + k) (by omega) hu
  refine ⟨h.wt.drop hlf, h.pr.drop, AL.drop h.al hk hu, ?_⟩
  have := h.lg.del (L2 := L ++ liveL (W.drop (40 + k))) (c := normC (W.cl (40 + k))) ((hlive.append_left L).trans List.perm_middle) (liveL_nf h.wt.ws ((mem_liveL h.wt.ws).2 ⟨_, hu, rfl⟩))
  rw [← note_log] at this; exact this
end Go.Proofs.Qxb6500354aGreat
