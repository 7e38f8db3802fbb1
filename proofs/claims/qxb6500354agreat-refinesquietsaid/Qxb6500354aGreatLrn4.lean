/- THE WALKS over learn: spare, climb. -/
import Derived.Test.Qxb6500354aGreatLrn3
namespace Go.Proofs.Qxb6500354aGreat
open Go.RowKit
set_option linter.unusedVariables false
set_option linter.unusedSimpArgs false

theorem clause_good {w : World} {b tb : Nat} {W : WatchS} (h : WatAt w b tb W) {id : Int} {c : List Int} (hc : W.clause? id = some c) : (∀ x ∈ c, good x = true) ∧ c.length ≤ 12 := by
  obtain ⟨R, hR, ho⟩ := h
  unfold WatchS.clause? at hc
  split at hc
  · next hl =>
    injection hc with hc
    subst hc
    unfold WatchS.live at hl
    simp only [Bool.and_eq_true, decide_eq_true_eq] at hl
    have hi : id.toNat < 52 := by omega
    have hp := normC_perm (ho.gd _ hi) (ho.dist _ hi)
    exact ⟨fun x hx => ho.gd _ hi x (hp.mem_iff.1 hx), by rw [hp.length_eq]; exact ho.len _ hi⟩
  · simp at hc

theorem spareLoop_cons (T : TrailS) (a : LearnS) (q s : Int) (r : List Int) : spareLoop T a q (s :: r) = if s ≠ -q ∧ a.holds s = false ∧ T.level s.natAbs ≠ 0 then false else spareLoop T a q r := rfl
set_option maxHeartbeats 2000000 in
theorem spare_any {w : World} {b tb wb : Nat} {A : LearnS} {W : WatchS} {T : TrailS} (h : LrnAt w b tb wb A) (hw : WatAt w wb tb W) (ht : TrlAt w tb T) (q : Int) (hq : good q = true) :
    Calls Tryz.prog 146 #[.pointer (some ⟨b, 0, none⟩), .int .i64 q] w fun e w' => e = .returned (.bool (spareF W T A q)) ∧ Fr [] w w' := by
  have hg := (good_iff _).1 hq
  have htp := h.1.t
  change w.cell? ⟨b, 0, none⟩ = some (.pointer (some ⟨tb, 0, none⟩)) at htp
  have hwp := h.1.wp
  change w.cell? ⟨b, 1, none⟩ = some (.pointer (some ⟨wb, 0, none⟩)) at hwp
  have HV := hid (fun w => var_any q w (by omega) (by omega))
  have HRS := hid (reason_any ht q.natAbs (by omega) (by omega))
  have hcl := clause_any hw (T.reason q.natAbs)
  obtain ⟨r, hr⟩ : ∃ r, T.reason q.natAbs = r := ⟨_, rfl⟩
  rw [hr] at hcl HRS
  have hblt := h.lt
  cases hco : W.clause? r with
  | none =>
    rw [hco] at hcl
    have HCL := hid hcl
    have HE : Hid (spareF W T A q = false) := by show _ = _; unfold spareF; rw [hr, hco]
    clear h hw ht hq hg hr hco hcl
    refine calls_via fun K hK => ?_
    go_enter Tryz.func146, Tryz.ntmps146
    go_wp2_with (first | (go_at_call 89; refine (HV.out _).mono ?_; rintro e w' ⟨rfl, hw⟩; have hw2 := hw.symm; subst hw2; clear hw) | (go_at_call 144; refine HRS.out.mono ?_; rintro e w' ⟨rfl, hw⟩; have hw2 := hw.symm; subst hw2; clear hw) | (go_at_call 58; refine HCL.out.mono ?_; rintro e w' ⟨rfl, hw⟩; have hw2 := hw.symm; subst hw2; clear hw))
    exact hK.out _ _ ⟨by rw [HE.out]; rfl, Fr.refl _ _⟩
  | some rc =>
    rw [hco] at hcl
    have HCL := hid hcl
    obtain ⟨hrg, hr12⟩ := clause_good hw hco
    have HE : Hid (spareF W T A q = spareLoop T A q rc) := by show _ = _; unfold spareF; rw [hr, hco]
    obtain ⟨n, hn⟩ : ∃ n, rc.length = n := ⟨_, rfl⟩
    rw [hn] at hr12
    have HN := hid hn
    have HG := hid hrg
    have HR := hid h
    have HT := hid ht
    obtain ⟨res, hres⟩ : ∃ r, spareLoop T A q rc = r := ⟨_, rfl⟩
    rw [hres] at HE
    have HRES := hid hres
    have hnq1 : -12 ≤ q := by omega
    have hnq2 : q ≤ 12 := by omega
    clear h hw ht hq hg hr hco hcl hrg hn hres
    refine calls_via fun K hK => ?_
    go_enter Tryz.func146, Tryz.ntmps146
    go_wp2_with (first | (go_at_call 89; refine (HV.out _).mono ?_; rintro e w' ⟨rfl, hw⟩; have hw2 := hw.symm; subst hw2; clear hw) | (go_at_call 144; refine HRS.out.mono ?_; rintro e w' ⟨rfl, hw⟩; have hw2 := hw.symm; subst hw2; clear hw))
    refine HCL.out.mono ?_
    rintro e w2 ⟨v, rfl, hown, hf⟩
    have hI := hown.ints
    obtain ⟨a, cap, hea⟩ := hI.len
    subst hea
    rw [HN.out] at hI ⊢
    have HI := hid hI
    have HF := hid hf
    clear hI hf hown HCL htp hwp
    go_wp2_with fail
    go_loopg [9] n (fun g i wr => g ≤ n ∧ i = .int .i64 ((n - g : Nat) : Int) ∧ Fr [] w2 wr ∧ res = spareLoop T A q (rc.drop (n - g)))
    case atStart => exact ⟨by omega, by simp, Fr.refl _ _, by simpa using HRES.out.symm⟩
    case round =>
      obtain ⟨hgn, rfl, hfr, he⟩ := hrel
      have hfw := HF.out.trans hfr
      have hA := HR.out.fr hfw (by simp)
      have ht := HT.out.fr hfw (by simp)
      have htp := hA.1.t
      change wr.cell? ⟨b, 0, none⟩ = some (.pointer (some ⟨tb, 0, none⟩)) at htp
      by_cases hlt : 0 < gk
      · obtain ⟨k, hk⟩ : ∃ k, n - gk = k := ⟨_, rfl⟩
        rw [hk] at he ⊢
        have hkn : k < n := by omega
        have hkn2 : (k : Int) < n := by omega
        obtain ⟨g1, o1, rfl, hcell⟩ := (HI.out.fr hfr (by simp)).at HN.out hkn
        have hgx : good (rc.getD k 0) = true := HG.out _ (getD_mem (by rw [HN.out]; exact hkn))
        rw [drop_cons' HN.out hkn, spareLoop_cons] at he
        obtain ⟨x, hx⟩ : ∃ x, rc.getD k 0 = x := ⟨_, rfl⟩
        rw [hx] at hcell he hgx
        have hx12 := (good_iff _).1 hgx
        have HH := hid (holds_any hA x hgx)
        have HVX := hid (fun w => var_any x w (by omega) (by omega))
        have HLV := hid (fun n => levelOf_any (ht.drewN (n := n)) x.natAbs (by omega) (by omega))
        have HK := hid hk
        have HFR := hid hfr
        obtain ⟨hb, hhb⟩ : ∃ y, A.holds x = y := ⟨_, rfl⟩
        obtain ⟨lv, hlv⟩ : ∃ y, T.level x.natAbs = y := ⟨_, rfl⟩
        rw [hhb] at HH he
        rw [hlv] at HLV he
        clear hk hfr hfw hA ht hx hgx hx12 hhb hlv
        by_cases hs : x = -q
        · rw [if_neg (fun z => z.1 hs)] at he
          have hb1 : (x != -q) = false := by simp [hs]
          have HE2 := hid he
          clear he hs
          go_wp2_with fail
          go_roundg (gk - 1)
          case measure => omega
          case rel =>
            have hk := HK.out
            refine ⟨by omega, ?_, HFR.out, ?_⟩
            · rw [show n - (gk - 1) = k + 1 from by omega]; simp
            · rw [show n - (gk - 1) = k + 1 from by omega]; exact HE2.out
        · have hb1 : (x != -q) = true := by simp [hs]
          cases hb with
          | true =>
            rw [if_neg (fun z => by simp at z)] at he
            have HE2 := hid he
            clear he hs
            go_wp2_with (go_at_call 151; refine HH.out.mono ?_; rintro e w' ⟨rfl, m, rfl⟩)
            go_roundg (gk - 1)
            case measure => omega
            case rel =>
              have hk := HK.out
              refine ⟨by omega, ?_, HFR.out.drewN, ?_⟩
              · rw [show n - (gk - 1) = k + 1 from by omega]; simp
              · rw [show n - (gk - 1) = k + 1 from by omega]; exact HE2.out
          | false =>
            by_cases hl0 : lv = 0
            · rw [if_neg (fun z => z.2.2 hl0)] at he
              have hb2 : (lv != 0) = false := by simp [hl0]
              have HE2 := hid he
              clear he hs hl0
              go_wp2_with (first | (go_at_call 151; refine HH.out.mono ?_; rintro e w' ⟨rfl, m, rfl⟩) | (go_at_call 89; refine (HVX.out _).mono ?_; rintro e w' ⟨rfl, hw⟩; have hw2 := hw.symm; subst hw2; clear hw) | (go_at_call 125; refine (HLV.out _).mono ?_; rintro e w' ⟨rfl, hw⟩; have hw2 := hw.symm; subst hw2; clear hw))
              go_roundg (gk - 1)
              case measure => omega
              case rel =>
                have hk := HK.out
                refine ⟨by omega, ?_, HFR.out.drewN, ?_⟩
                · rw [show n - (gk - 1) = k + 1 from by omega]; simp
                · rw [show n - (gk - 1) = k + 1 from by omega]; exact HE2.out
            · rw [if_pos ⟨hs, rfl, hl0⟩] at he
              have hb2 : (lv != 0) = true := by simp [hl0]
              have HE2 := hid he
              clear he hs hl0
              go_wp2_with (first | (go_at_call 151; refine HH.out.mono ?_; rintro e w' ⟨rfl, m, rfl⟩) | (go_at_call 89; refine (HVX.out _).mono ?_; rintro e w' ⟨rfl, hw⟩; have hw2 := hw.symm; subst hw2; clear hw) | (go_at_call 125; refine (HLV.out _).mono ?_; rintro e w' ⟨rfl, hw⟩; have hw2 := hw.symm; subst hw2; clear hw))
              exact hK.out _ _ ⟨by rw [HE.out, HE2.out]; rfl, (HF.out.trans HFR.out).drewN⟩
      · have hg0 : gk = 0 := by omega
        subst hg0
        have hdn : rc.drop (n - 0) = [] := by rw [List.drop_eq_nil_iff, HN.out]; omega
        rw [hdn] at he
        have HE2 : Hid (res = true) := he
        have HFR := hid hfr
        clear he hdn hfr hfw hA ht
        go_wp2_with fail
        exact hK.out _ _ ⟨by rw [HE.out, HE2.out]; rfl, HF.out.trans HFR.out⟩
end Go.Proofs.Qxb6500354aGreat
