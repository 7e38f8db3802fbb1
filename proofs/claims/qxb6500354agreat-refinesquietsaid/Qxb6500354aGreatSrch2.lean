/- THE WALKS over search, 2: bump, pick. -/
import Derived.Test.Qxb6500354aGreatSrch
import Derived.Test.Qxb6500354aGreatInv4
import Derived.Deep.DeepCutAuto
import Derived.Deep.Cut
namespace Go.Proofs.Qxb6500354aGreat
open Go.RowKit
set_option linter.unusedVariables false
set_option linter.unusedSimpArgs false

theorem actF_snoc (inc : Int) (x : Int) : ∀ (c : List Int) (act : Nat → Int), actF act inc (c ++ [x]) = upd (actF act inc c) x.natAbs (actF act inc c x.natAbs + inc) := by
  intro c
  induction c with
  | nil => intro act; rfl
  | cons l r ih => intro act; exact ih _
theorem SlvAt.putAct {w : World} {E : Eb} {S : SolverS} {lo : Value} (h : SlvAt w E S lo) (v : Nat) (hv : v < 13) (x : Int) : SlvAt (w.setCell ⟨E.s, 5 + v, none⟩ (.int .i64 x)) E { S with act := upd S.act v x } lo := by
  have hse : E.s ∈ E.all := by simp [Eb.all]
  refine ⟨h.at_.set_act v hv x, ?_, h.ok, h.dj⟩
  exact h.own.fr (S := [E.s]) ((Fr.refl _ _).set (by simp) _) (fun g hg hm => by rw [List.mem_singleton] at hm; exact h.dj g hg (by rw [hm]; exact hse))
theorem SlvAt.putInc {w : World} {E : Eb} {S : SolverS} {lo : Value} (h : SlvAt w E S lo) (x : Int) : SlvAt (w.setCell ⟨E.s, 31, none⟩ (.int .i64 x)) E { S with inc := x } lo := by
  have hse : E.s ∈ E.all := by simp [Eb.all]
  refine ⟨h.at_.set_inc x, ?_, h.ok, h.dj⟩
  exact h.own.fr (S := [E.s]) ((Fr.refl _ _).set (by simp) _) (fun g hg hm => by rw [List.mem_singleton] at hm; exact h.dj g hg (by rw [hm]; exact hse))
theorem SlvAt.putPhase {w : World} {E : Eb} {S : SolverS} {lo : Value} (h : SlvAt w E S lo) (v : Nat) (hv : v < 13) (x : Int) : SlvAt (w.setCell ⟨E.s, 18 + v, none⟩ (.int .i64 x)) E { S with phase := upd S.phase v x } lo := by
  have hse : E.s ∈ E.all := by simp [Eb.all]
  refine ⟨h.at_.set_phase v hv x, ?_, h.ok, h.dj⟩
  exact h.own.fr (S := [E.s]) ((Fr.refl _ _).set (by simp) _) (fun g hg hm => by rw [List.mem_singleton] at hm; exact h.dj g hg (by rw [hm]; exact hse))

set_option maxHeartbeats 2000000 in
theorem bump_any {w : World} {E : Eb} {S : SolverS} {lo : Value} (h : SlvAt w E S lo) {v : Value} {c : List Int} (hc : Ints w v c) (hv : ∀ g, v.ownBlock = some g → g ≠ E.s) (hg : ∀ l ∈ c, good l = true)
    (hc12 : c.length ≤ 12) (ha : ∀ v, 0 ≤ S.act v ∧ S.act v ≤ 1000000000) (hi0 : 0 ≤ S.inc) (hi1 : S.inc ≤ 1000000) :
    Calls Tryz.prog 85 #[.pointer (some ⟨E.s, 0, none⟩), v] w fun e w' => e = .returned (.tuple #[]) ∧ SlvAt w' E (S.bump c) lo ∧ Fr [E.s] w w' := by
  obtain ⟨a, cap, hea⟩ := hc.len
  subst hea
  obtain ⟨n, hn⟩ : ∃ n, c.length = n := ⟨_, rfl⟩
  rw [hn] at hc hv hc12 ⊢
  have HC := hid hc
  have HV := hid hv
  have HN := hid hn
  have HG := hid hg
  have HA := hid ha
  have HS := hid h
  clear hc hv hn hg ha h
  obtain ⟨inc, hinc⟩ : ∃ i, S.inc = i := ⟨_, rfl⟩
  rw [hinc] at hi0 hi1
  have HINC := hid hinc
  clear hinc
  refine calls_via fun K hK => ?_
  go_enter Tryz.func85, Tryz.ntmps85
  go_wp2_with fail
  go_loopg [4] n (fun g i wr => g ≤ n ∧ i = .int .i64 ((n - g : Nat) : Int) ∧ SlvAt wr E { S with act := actF S.act inc (c.take (n - g)) } lo ∧ Fr [E.s] w wr)
  case atStart => exact ⟨by omega, by simp, by simpa [actF] using HS.out, Fr.refl _ _⟩
  case round =>
    obtain ⟨hgn, rfl, hs, hf⟩ := hrel
    by_cases hlt : 0 < gk
    · obtain ⟨k, hk⟩ : ∃ k, n - gk = k := ⟨_, rfl⟩
      rw [hk] at hs ⊢
      have hkn : k < n := by omega
      have hkn2 : (k : Int) < n := by omega
      obtain ⟨g1, o1, rfl, hc1⟩ := ((HC.out.fr hf (by intro g hg hm; rw [List.mem_singleton] at hm; exact HV.out g hg hm))).at HN.out hkn
      have hx := HG.out _ (show c.getD k 0 ∈ c from getD_mem (by rw [HN.out]; exact hkn))
      have hx12 := (good_iff _).1 hx
      have htk : c.take (k + 1) = c.take k ++ [c.getD k 0] := take_snocI (by rw [HN.out]; exact hkn)
      generalize hxx : c.getD k 0 = x at *
      obtain ⟨vx, hvx⟩ : ∃ v, x.natAbs = v := ⟨_, rfl⟩
      have hbd := actF_bd (inc := inc) hi0 (c.take k) S.act vx
      have hlen : (c.take k).length ≤ 12 := by rw [List.length_take]; omega
      have hab := HA.out vx
      have hmul : inc * ((c.take k).length : Int) ≤ 1000000 * 12 := Int.mul_le_mul hi1 (by omega) (by omega) (by omega)
      have hact := hs.at_.act vx (by omega)
      change wr.cell? ⟨E.s, 5 + vx, none⟩ = some (.int .i64 (actF S.act inc (c.take k) vx)) at hact
      obtain ⟨A, hA⟩ : ∃ A, actF S.act inc (c.take k) = A := ⟨_, rfl⟩
      rw [hA] at hs hact hbd
      obtain ⟨av, hav⟩ : ∃ q, A vx = q := ⟨_, rfl⟩
      rw [hav] at hact hbd
      have hincc := hs.at_.inc
      change wr.cell? ⟨E.s, 31, none⟩ = some (.int .i64 S.inc) at hincc
      rw [HINC.out] at hincc
      have hfz := hs.at_.froz
      have hav0 : 0 ≤ av := by omega
      have hav1 : av ≤ 2000000000 := by omega
      have hv13 : vx < 13 := by omega
      have hv12 : vx ≤ 12 := by omega
      have hvi : (vx : Int) < 13 := by omega
      have HVX := hid hvx
      have HTK := hid htk
      have HAA := hid hA
      have HAV := hid hav
      have HK2 := hid hk
      have HF := hid hf
      have HSR := hid hs
      clear hs hf hx hx12 htk hxx hvx hbd hlen hab hmul hA hav hk
      go_wp2_with (go_at_call 89; refine (var_v HVX.out hv12 _).mono ?_; rintro e w' ⟨rfl, rfl⟩)
      go_region
      go_wp2_with fail
      go_roundg (gk - 1)
      case measure => omega
      case rel =>
        have hk := HK2.out
        have e1 : n - (gk - 1) = k + 1 := by omega
        refine ⟨by omega, by rw [e1]; simp, ?_, ?_⟩
        · rw [e1, HTK.out, actF_snoc, HAA.out, HVX.out, HAV.out]
          have := (HSR.out.putAct vx hv13 (av + inc)).drewN (n := 1)
          exact this
        · exact (HF.out.set (by simp) _).drew
    · have hg0 : gk = 0 := by omega
      subst hg0
      rw [Nat.sub_zero, List.take_of_length_le (by rw [HN.out]; exact Nat.le_refl _)] at hs
      have hincc := hs.at_.inc
      change wr.cell? ⟨E.s, 31, none⟩ = some (.int .i64 S.inc) at hincc
      rw [HINC.out] at hincc
      have hfz := hs.at_.froz
      have HF := hid hf
      have HSR := hid hs
      clear hs hf hlt hgn
      go_wp2_with fail
      try go_end0
      refine hK.out _ _ ⟨rfl, ?_, HF.out.set (by simp) _⟩
      have := HSR.out.putInc (inc + 1)
      have e : S.bump c = { S with act := actF S.act inc c, inc := inc + 1 } := by unfold SolverS.bump; rw [HINC.out]
      rw [e]; exact this

set_option maxHeartbeats 2000000 in
theorem pick_any {w : World} {E : Eb} {S : SolverS} {lo : Value} {T : TrailS} (h : SlvAt w E S lo) (ht : TrlAt w E.t T) (hp : ∀ v, S.phase v = 1 ∨ S.phase v = -1) :
    Calls Tryz.prog 51 #[.pointer (some ⟨E.s, 0, none⟩)] w fun e w' => e = .returned (.int .i64 (pickF T S)) ∧ ∃ n, w' = w.drewN n := by
  have htp := h.at_.t
  change w.cell? ⟨E.s, 1, none⟩ = some (.pointer (some ⟨E.t, 0, none⟩)) at htp
  have HS := hid h
  have HT := hid ht
  have HP := hid hp
  obtain ⟨res, hres⟩ : ∃ r, pickLoop T S 12 1 0 = r := ⟨_, rfl⟩
  have HRES := hid hres
  clear h ht hp hres
  refine calls_via fun K hK => ?_
  go_enter Tryz.func51, Tryz.ntmps51
  go_wp2_with fail
  go_loopg [3, 4] 12 (fun g b i wr => ∃ best : Nat, g ≤ 12 ∧ b = .int .i64 (best : Int) ∧ best < 13 ∧ i = .int .i64 (13 - (g : Int)) ∧ (∃ q, wr = w.drewN q) ∧ res = pickLoop T S g (13 - g) best)
  case atStart => exact ⟨0, by omega, by simp, by omega, by simp, ⟨0, rfl⟩, HRES.out.symm⟩
  case round =>
    obtain ⟨best, hg, rfl, hb13, rfl, ⟨q, rfl⟩, he⟩ := hrel
    by_cases hlt : 0 < gk
    · obtain ⟨k, rfl⟩ : ∃ k, gk = k + 1 := ⟨gk - 1, by omega⟩
      obtain ⟨v, hv⟩ : ∃ v : Nat, v = 12 - k := ⟨_, rfl⟩
      have hvi : 13 - ((k + 1 : Nat) : Int) = (v : Int) := by omega
      rw [show 13 - (k + 1) = v from by omega, pickLoop_succ] at he
      rw [hvi]
      have hv1 : 1 ≤ v := by omega
      have hv13 : v < 13 := by omega
      have hvle : (v : Int) ≤ 12 := by omega
      have hvi13 : (v : Int) < 13 := by omega
      have hbi13 : (best : Int) < 13 := by omega
      have hab := HS.out.at_.act best hb13
      have hav := HS.out.at_.act v hv13
      change w.cell? ⟨E.s, 5 + best, none⟩ = some (.int .i64 (S.act best)) at hab
      change w.cell? ⟨E.s, 5 + v, none⟩ = some (.int .i64 (S.act v)) at hav
      have HV2 : Hid (v + 1 = 13 - k ∧ (v : Int) + 1 = 13 - (k : Int)) := by show _ ∧ _; omega
      have hk12 : k ≤ 11 := by omega
      generalize hA : S.act best = A at *
      generalize hB : S.act v = B at *
      have HB13 := hid hb13
      have HV13 := hid hv13
      clear hv hvi hA hB hlt hg
      by_cases h0 : T.value (v : Int) = 0
      · have HV := hid h0
        by_cases hb0 : best = 0
        · rw [if_pos ⟨h0, .inl hb0⟩] at he
          have hbb : ((best : Int) == 0) = true := by simp [hb0]
          have HE := hid he
          clear he h0 hb0
          go_wp2_with (first | (go_at_call 59; refine (value_any HT.out.drewN _).mono ?_; rintro e w' ⟨rfl, hw⟩; subst hw; rw [HV.out]) | (go_quiet (fail)))
          go_roundg k
          case measure => omega
          case rel => exact ⟨v, by omega, rfl, HV13.out, by rw [← HV2.out.2], ⟨_, rfl⟩, by rw [← HV2.out.1]; exact HE.out⟩
        · have hbb : ((best : Int) == 0) = false := by simp [hb0]
          by_cases hgt : A < B
          · rw [if_pos ⟨h0, .inr hgt⟩] at he
            have HE := hid he
            clear he h0 hb0
            go_wp2_with (first | (go_at_call 59; refine (value_any HT.out.drewN _).mono ?_; rintro e w' ⟨rfl, hw⟩; subst hw; rw [HV.out]) | (go_quiet (fail)))
            go_roundg k
            case measure => omega
            case rel => exact ⟨v, by omega, rfl, HV13.out, by rw [← HV2.out.2], ⟨_, by first | rfl | exact World.drewN_drewN _ _ _⟩, by rw [← HV2.out.1]; exact HE.out⟩
          · rw [if_neg (fun z => z.2.elim hb0 hgt)] at he
            have HE := hid he
            clear he h0 hb0
            go_wp2_with (first | (go_at_call 59; refine (value_any HT.out.drewN _).mono ?_; rintro e w' ⟨rfl, hw⟩; subst hw; rw [HV.out]) | (go_quiet (fail)))
            go_roundg k
            case measure => omega
            case rel => exact ⟨best, by omega, rfl, HB13.out, by rw [← HV2.out.2], ⟨_, by first | rfl | exact World.drewN_drewN _ _ _⟩, by rw [← HV2.out.1]; exact HE.out⟩
      · rw [if_neg (fun z => h0 z.1)] at he
        have hb1 : (T.value (v : Int) == 0) = false := by simpa using h0
        have HE := hid he
        clear he h0
        go_wp2_with (first | (go_at_call 59; refine (value_any HT.out.drewN _).mono ?_; rintro e w' ⟨rfl, hw⟩; subst hw))
        go_roundg k
        case measure => omega
        case rel => exact ⟨best, by omega, rfl, HB13.out, by rw [← HV2.out.2], ⟨_, rfl⟩, by rw [← HV2.out.1]; exact HE.out⟩
    · have hg0 : gk = 0 := by omega
      subst hg0
      have HE : Hid (pickLoop T S 12 1 0 = best) := HRES.out.trans he
      have hph := HS.out.at_.phase best hb13
      change w.cell? ⟨E.s, 18 + best, none⟩ = some (.int .i64 (S.phase best)) at hph
      have hpm := HP.out best
      generalize hq : S.phase best = p at *
      have HQ := hid hq
      have hbi13 : (best : Int) < 13 := by omega
      clear he hlt hg hq
      have hfin : Hid (pickF T S = (best : Int) * p) := by show _ = _; unfold pickF; simp only [HE.out, HQ.out]
      rcases hpm with e | e
      · subst e
        go_wp2_with fail
        try (go_quiet (fail))
        try (go_wp2_with fail)
        refine hK.out _ _ ⟨ret_int ?_, _, by first | rfl | exact World.drewN_drewN _ _ _⟩
        rw [hfin.out]; omega
      · subst e
        go_wp2_with fail
        try (go_quiet (fail))
        try (go_wp2_with fail)
        refine hK.out _ _ ⟨ret_int ?_, _, by first | rfl | exact World.drewN_drewN _ _ _⟩
        rw [hfin.out]; omega
end Go.Proofs.Qxb6500354aGreat
