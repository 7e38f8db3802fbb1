/- THE WALKS over learn: mark, markAll, allFalse, spare. -/
import Derived.Test.Qxb6500354aGreatLrn
namespace Go.Proofs.Qxb6500354aGreat
open Go.RowKit
set_option linter.unusedVariables false
set_option linter.unusedSimpArgs false

theorem Ints.at {w : World} {a : Option Addr} {n cap : Nat} {l : List Int} (h : Ints w (.slice a n cap) l) (hl : l.length = n) {k : Nat} (hk : k < n) :
    ∃ g o, a = some ⟨g, o, none⟩ ∧ w.cell? ⟨g, o + k, none⟩ = some (.int .i64 (l.getD k 0)) := by
  rcases h.cases with ⟨e, e2⟩ | ⟨g1, o1, cap1, e⟩
  · rw [e2] at hl; simp at hl; omega
  · simp only [Value.slice.injEq] at e
    obtain ⟨rfl, _, rfl⟩ := e
    exact ⟨g1, o1, rfl, h.get k (by omega)⟩
theorem drop_cons' {l : List Int} {n k : Nat} (hl : l.length = n) (h : k < n) : l.drop k = l.getD k 0 :: l.drop (k + 1) := drop_cons (by omega)

/-! ### mark -/
theorem markF_opn (T : TrailS) (A : LearnS) (l : Int) : A.opn ≤ (markF T A l).2.opn ∧ (markF T A l).2.opn ≤ A.opn + 1 := by
  unfold markF; simp only []
  split
  · simp; omega
  · split
    · simp; omega
    · split
      · simp only []; omega
      · split
        · unfold LearnS.join; split <;> simp only [] <;> omega
        · simp only []; omega
theorem markF_lv (T : TrailS) (A : LearnS) (l : Int) : (markF T A l).2.lv = A.lv := by
  unfold markF; simp only []
  split
  · rfl
  · split
    · rfl
    · split
      · rfl
      · split
        · unfold LearnS.join; split <;> rfl
        · rfl
set_option maxHeartbeats 1000000 in
theorem mark_any {w : World} {b tb wb : Nat} {A : LearnS} {T : TrailS} (h : LrnAt w b tb wb A) (ht : TrlAt w tb T) (hbt : tb ≠ b) (l : Int) (hl : good l = true) (ho1 : -1000000 ≤ A.opn) (ho2 : A.opn ≤ 1000000) :
    Calls Tryz.prog 142 #[.pointer (some ⟨b, 0, none⟩), .int .i64 l] w fun e w' => e = .returned (.bool (markF T A l).1) ∧ LrnAt w' b tb wb (markF T A l).2 ∧ Fr [b] w w' := by
  have hg := (good_iff _).1 hl
  have h6 := h.1.froz
  have hseen := h.1.seen
  have hopn := h.1.opn
  have hlv := h.1.lv
  have htp := h.1.t
  change w.cell? ⟨b, 0, none⟩ = some (.pointer (some ⟨tb, 0, none⟩)) at htp
  change w.cell? ⟨b, 2, none⟩ = some (.int .u16 (A.seen : Nat)) at hseen
  change w.cell? ⟨b, 5, none⟩ = some (.int .i64 A.opn) at hopn
  change w.cell? ⟨b, 6, none⟩ = some (.int .i64 A.lv) at hlv
  have hb := or16 h.2.seen (pow16 (show l.natAbs < 16 by omega))
  change bits .or .u16 (A.seen : Nat) (pw l.natAbs : Nat) = ((setB A.seen l.natAbs : Nat) : Int) at hb
  have hts := bit16 h.2.seen (show l.natAbs < 16 by omega)
  have H16 := hid (show l.natAbs < 16 by omega)
  have HV := hid (fun w => var_any l w (by omega) (by omega))
  have HB := hid (fun w => lbit_any l.natAbs (by omega) w)
  have HL := hid (levelOf_any ht l.natAbs (by omega) (by omega))
  have hseenlt := setB_lt h.2.seen H16.out
  have HR1 : Hid (LrnAt (w.setCell ⟨b, 2, none⟩ (.int .u16 (setB A.seen l.natAbs : Nat))) b tb wb { A with seen := setB A.seen l.natAbs }) := ⟨h.1.set_seen _, hseenlt, h.2.pos, h.2.neg⟩
  have HJ := hid (ljoin_any HR1.out l hl)
  have HR := hid h
  have HBT := hid hbt
  obtain ⟨k, hk⟩ : ∃ k, T.level l.natAbs = k := ⟨_, rfl⟩
  rw [hk] at HL
  cases hsn : A.seen.testBit l.natAbs with
  | true =>
    have HE : Hid (markF T A l = (true, A)) := by show _ = _; unfold markF; rw [hsn, if_pos rfl]
    rw [hsn] at hts
    clear h ht hg hl hk hsn hbt hseenlt
    refine calls_via fun K hK => ?_
    go_enter Tryz.func142, Tryz.ntmps142
    go_wp2_with (first | (go_at_call 89; refine (HV.out _).mono ?_; rintro e w' ⟨rfl, hw⟩; have hw2 := hw.symm; subst hw2; clear hw) | (go_at_call 143; refine (HB.out _).mono ?_; rintro e w' ⟨rfl, hw⟩; have hw2 := hw.symm; subst hw2; clear hw))
    exact hK.out _ _ ⟨by rw [HE.out]; rfl, by rw [HE.out]; exact HR.out, Fr.refl _ _⟩
  | false =>
    rw [hsn] at hts
    by_cases hk0 : k < 0
    · have HE : Hid (markF T A l = (false, A)) := by show _ = _; unfold markF; rw [hsn, if_neg (by simp), hk]; simp only []; rw [if_pos hk0]
      clear h ht hg hl hk hsn hbt hseenlt
      refine calls_via fun K hK => ?_
      go_enter Tryz.func142, Tryz.ntmps142
      go_wp2_with (first | (go_at_call 89; refine (HV.out _).mono ?_; rintro e w' ⟨rfl, hw⟩; have hw2 := hw.symm; subst hw2; clear hw) | (go_at_call 143; refine (HB.out _).mono ?_; rintro e w' ⟨rfl, hw⟩; have hw2 := hw.symm; subst hw2; clear hw) | (go_at_call 125; refine HL.out.mono ?_; rintro e w' ⟨rfl, hw⟩; have hw2 := hw.symm; subst hw2; clear hw))
      exact hK.out _ _ ⟨by rw [HE.out]; rfl, by rw [HE.out]; exact HR.out, Fr.refl _ _⟩
    · by_cases hkl : k = A.lv
      · have HE : Hid (markF T A l = (true, { A with seen := setB A.seen l.natAbs, opn := A.opn + 1 })) := by
          show _ = _; unfold markF; rw [hsn, if_neg (by simp), hk]; simp only []; rw [if_neg hk0, if_pos hkl]
        have hkb : (k == A.lv) = true := by simp [hkl]
        clear h ht hg hl hk hsn hbt hseenlt hkl
        refine calls_via fun K hK => ?_
        go_enter Tryz.func142, Tryz.ntmps142
        go_wp2_with (first | (go_at_call 89; refine (HV.out _).mono ?_; rintro e w' ⟨rfl, hw⟩; have hw2 := hw.symm; subst hw2; clear hw) | (go_at_call 143; refine (HB.out _).mono ?_; rintro e w' ⟨rfl, hw⟩; have hw2 := hw.symm; subst hw2; clear hw) | (go_at_call 125; refine HL.out.mono ?_; rintro e w' ⟨rfl, hw⟩; have hw2 := hw.symm; subst hw2; clear hw))
        refine hK.out _ _ ⟨by rw [HE.out]; rfl, by rw [HE.out]; exact ⟨HR1.out.1.set_opn (A.opn + 1), HR1.out.2.seen, HR1.out.2.pos, HR1.out.2.neg⟩, ((Fr.refl _ _).set (by simp) _).set (by simp) _⟩
      · have hkb : (k == A.lv) = false := by simp [hkl]
        by_cases hkp : 0 < k
        · have HE : Hid (markF T A l = (true, { A with seen := setB A.seen l.natAbs }.join l)) := by
            show _ = _; unfold markF; rw [hsn, if_neg (by simp), hk]; simp only []; rw [if_neg hk0, if_neg hkl, if_pos hkp]
          clear h ht hg hl hk hsn hbt hseenlt hkl
          refine calls_via fun K hK => ?_
          go_enter Tryz.func142, Tryz.ntmps142
          go_wp2_with (first | (go_at_call 89; refine (HV.out _).mono ?_; rintro e w' ⟨rfl, hw⟩; have hw2 := hw.symm; subst hw2; clear hw) | (go_at_call 143; refine (HB.out _).mono ?_; rintro e w' ⟨rfl, hw⟩; have hw2 := hw.symm; subst hw2; clear hw) | (go_at_call 125; refine HL.out.mono ?_; rintro e w' ⟨rfl, hw⟩; have hw2 := hw.symm; subst hw2; clear hw))
          refine HJ.out.mono ?_
          rintro e w2 ⟨rfl, hj, hf⟩
          have HJJ := hid hj
          have HF := hid hf
          clear hj hf
          go_wp2_with fail
          exact hK.out _ _ ⟨by rw [HE.out]; rfl, by rw [HE.out]; exact HJJ.out, ((Fr.refl _ _).set (by simp) _).trans HF.out⟩
        · have HE : Hid (markF T A l = (true, { A with seen := setB A.seen l.natAbs })) := by
            show _ = _; unfold markF; rw [hsn, if_neg (by simp), hk]; simp only []; rw [if_neg hk0, if_neg hkl, if_neg hkp]
          clear h ht hg hl hk hsn hbt hseenlt hkl
          refine calls_via fun K hK => ?_
          go_enter Tryz.func142, Tryz.ntmps142
          go_wp2_with (first | (go_at_call 89; refine (HV.out _).mono ?_; rintro e w' ⟨rfl, hw⟩; have hw2 := hw.symm; subst hw2; clear hw) | (go_at_call 143; refine (HB.out _).mono ?_; rintro e w' ⟨rfl, hw⟩; have hw2 := hw.symm; subst hw2; clear hw) | (go_at_call 125; refine HL.out.mono ?_; rintro e w' ⟨rfl, hw⟩; have hw2 := hw.symm; subst hw2; clear hw))
          refine hK.out _ _ ⟨by rw [HE.out]; rfl, by rw [HE.out]; exact HR1.out, (Fr.refl _ _).set (by simp) _⟩

/-! ### markAll -/
theorem markAllF_cons (T : TrailS) (a : LearnS) (l : Int) (r : List Int) : markAllF T a (l :: r) = if (markF T a l).1 = true then markAllF T (markF T a l).2 r else (false, (markF T a l).2) := rfl
set_option maxHeartbeats 1000000 in
theorem markAll_any {w : World} {b tb wb : Nat} {A : LearnS} {T : TrailS} (h : LrnAt w b tb wb A) (ht : TrlAt w tb T) (hbt : tb ≠ b) {v : Value} {c : List Int} (hc : Ints w v c) (hne : v.ownBlock ≠ some b) (hg : ∀ l ∈ c, good l = true)
    (hc12 : c.length ≤ 12) (ho1 : -900000 ≤ A.opn) (ho2 : A.opn ≤ 900000) :
    Calls Tryz.prog 120 #[.pointer (some ⟨b, 0, none⟩), v] w fun e w' => e = .returned (.bool (markAllF T A c).1) ∧ LrnAt w' b tb wb (markAllF T A c).2 ∧ Fr [b] w w' := by
  obtain ⟨a, cap, hea⟩ := hc.len
  subst hea
  obtain ⟨n, hn⟩ : ∃ n, c.length = n := ⟨_, rfl⟩
  rw [hn] at hc hc12 hne ⊢
  obtain ⟨res, hres⟩ : ∃ r, markAllF T A c = r := ⟨_, rfl⟩
  rw [hres]
  have HH := hid h
  have HT := hid ht
  have HBT := hid hbt
  have HC := hid hc
  have HN := hid hn
  have HG := hid hg
  have HNE := hid hne
  have HRES := hid hres
  clear h ht hbt hc hn hg hne hres
  refine calls_via fun K hK => ?_
  go_enter Tryz.func120, Tryz.ntmps120
  go_wp2_with fail
  go_loopg [5] n (fun g i wr => g ≤ n ∧ i = .int .i64 ((n - g : Nat) : Int) ∧ ∃ A1, res = markAllF T A1 (c.drop (n - g)) ∧ LrnAt wr b tb wb A1 ∧ Fr [b] w wr ∧ -900000 ≤ A1.opn ∧ A1.opn ≤ 900000 + ((n - g : Nat) : Int))
  case atStart => exact ⟨by omega, by simp, A, by simpa using HRES.out.symm, HH.out, Fr.refl _ _, by omega, by omega⟩
  case round =>
    obtain ⟨hgn, rfl, A1, he, hA, hf, o1, o2⟩ := hrel
    by_cases hlt : 0 < gk
    · obtain ⟨k, hk⟩ : ∃ k, n - gk = k := ⟨_, rfl⟩
      rw [hk] at he o2 ⊢
      have hkn : k < n := by omega
      have hkn2 : (k : Int) < n := by omega
      have hnoc : ∀ g, (Value.slice a n cap).ownBlock = some g → g ∉ [b] := by
        intro g hg hm; rw [List.mem_singleton] at hm; subst hm; exact HNE.out hg
      obtain ⟨g1, o1', rfl, hcell⟩ := (HC.out.fr hf hnoc).at HN.out hkn
      rw [drop_cons' HN.out hkn, markAllF_cons] at he
      have hgx : good (c.getD k 0) = true := HG.out _ (getD_mem (by rw [HN.out]; exact hkn))
      have htr : TrlAt wr tb T := HT.out.fr hf (by have := HBT.out; simp; omega)
      have HM := hid (mark_any hA htr HBT.out (c.getD k 0) hgx (by omega) (by omega))
      have hop := markF_opn T A1 (c.getD k 0)
      obtain ⟨x, hx⟩ : ∃ x, c.getD k 0 = x := ⟨_, rfl⟩
      obtain ⟨m, hm⟩ : ∃ m, markF T A1 x = m := ⟨_, rfl⟩
      rw [hx] at hcell HM he hop
      rw [hm] at HM he hop
      have HK := hid hk
      have HF := hid hf
      have HO1 := hid (show -900000 ≤ m.2.opn by omega)
      have HO2 := hid (show m.2.opn ≤ 900000 + ((k + 1 : Nat) : Int) by omega)
      clear hk hf hA htr hgx o1 o2 hop hx hm hnoc
      cases hm1 : m.1 with
      | true =>
        rw [hm1, if_pos rfl] at he
        rw [hm1] at HM
        have HE := hid he
        clear he hm1
        go_wp2_with fail
        refine HM.out.mono ?_
        rintro e w2 ⟨rfl, hA2, hf2⟩
        have HA2 := hid hA2
        have HF2 := hid hf2
        clear hA2 hf2
        go_wp2_with fail
        go_roundg (gk - 1)
        case measure => omega
        case rel =>
          have hk := HK.out
          refine ⟨by omega, ?_, m.2, ?_, HA2.out, HF.out.trans HF2.out, HO1.out, ?_⟩
          · rw [show n - (gk - 1) = k + 1 from by omega]; simp
          · rw [show n - (gk - 1) = k + 1 from by omega]; exact HE.out
          · rw [show n - (gk - 1) = k + 1 from by omega]; exact HO2.out
      | false =>
        rw [hm1, if_neg (by simp)] at he
        rw [hm1] at HM
        have HE := hid he
        clear he hm1
        go_wp2_with fail
        refine HM.out.mono ?_
        rintro e w2 ⟨rfl, hA2, hf2⟩
        have HA2 := hid hA2
        have HF2 := hid hf2
        clear hA2 hf2
        go_wp2_with fail
        exact hK.out _ _ ⟨by rw [HE.out]; rfl, by rw [HE.out]; exact HA2.out, HF.out.trans HF2.out⟩
    · have hg0 : gk = 0 := by omega
      subst hg0
      have hdn : c.drop (n - 0) = [] := by rw [List.drop_eq_nil_iff, HN.out]; omega
      rw [hdn] at he
      have HE : Hid (res = (true, A1)) := he
      have HA := hid hA
      have HF := hid hf
      clear he hA hf hdn
      go_wp2_with fail
      exact hK.out _ _ ⟨by rw [HE.out]; rfl, by rw [HE.out]; exact HA.out, HF.out⟩
end Go.Proofs.Qxb6500354aGreat
