/- The law: HoldE, HoldI, TookE, walked. -/
import Derived.Test.Qxb6500353aGreatDkk
namespace Go.Proofs.Qxb6500353aGreat
open Go.RowKit
set_option linter.unusedVariables false
set_option linter.unusedSimpArgs false

set_option maxRecDepth 100000 in
set_option maxHeartbeats 8000000 in
theorem holdE_any {w : World} {b n : Nat} {R : DkR} {ad : Option Addr} {f : Nat → Value} {pin : Bool} (h : DkAt w b R) (ha : n = 0 ∨ ∃ g, ad = some ⟨g, 0, none⟩ ∧ g ≠ b ∧ Arr 98 mkV w g (n * 2) f) (hn : n ≤ 1000) (hne : R.ne < 1000000000000000) (hnae : R.nae < 1000000000000000) :
    Calls Tryz.prog 52 #[ptrV b, .slice ad n n, .bool pin] w fun e w' => e = .returned (.tuple #[]) ∧ (∃ R2, DkAt w' b R2 ∧ StepE R R2 (.slice ad n n) ∧ R2.pl = R.pl) ∧ (n = 0 ∨ ∃ g, ad = some ⟨g, 0, none⟩ ∧ Arr 98 mkV w' g (n * 2) (fun _ => bangV)) ∧ Fr (fun x => x = b ∨ (n ≠ 0 ∧ obk ad = some x)) w w' := by
  by_cases h0 : n = 0
  · subst h0
    have H := hid h
    clear h ha
    refine calls_via fun K hK => ?_
    unfold ptrV
    go_enter Tryz.func52, Tryz.ntmps52
    go_wp2_with fail
    go_end0
    exact hK.out _ _ ⟨rfl, ⟨R, H.out, ⟨fun _ => .inl rfl, .inl rfl, .inl rfl, .inl rfl, Nat.le_succ _, Nat.le_succ _, rfl⟩, rfl⟩, .inl (by first | rfl | trivial), Fr.refl _ _⟩
  rcases ha with ha | ⟨g, rfl, hgb, ha⟩
  · exact absurd ha h0
  have h0i : ((n : Int) == 0) = false := beq_eq_false_iff_ne.2 (by omega)
  have hni : (n : Int) ≤ 1000 := by omega
  have HGB := hid hgb
  have HNE := hid hne
  have n1 : ¬ g = b := hgb
  have n2 : ¬ b = g := fun q => hgb q.symm
  have HN0 := hid h0
  obtain ⟨nae, hnae2⟩ : ∃ z, z = R.nae := ⟨_, rfl⟩
  have c0 : w.cell? ⟨b, 20, none⟩ = some (.int .i64 (R.nae : Nat)) := h.c 20 _ rfl
  have cz : ∀ i, w.frozen? ⟨b, i, none⟩ = false := h.fz
  have hnl : (nae : Int) < 1000000000000000 := by omega
  have hnae := hnae2
  clear hnae2
  rw [← hnae] at c0
  cases pin with
  | true =>
    obtain ⟨R2, hR2⟩ : ∃ z : DkR, z = { R with nae := R.nae + 1, he := .slice (some ⟨g, 0, none⟩) n n } := ⟨_, rfl⟩
    have hd1 := DkAt.put (R2 := { R with nae := R.nae + 1 }) h 20 (.int .i64 ((R.nae : Int) + 1)) (by omega) (by simp [dkL])
    have hd2 := DkAt.put (R2 := R2) hd1 23 (.slice (some ⟨g, 0, none⟩) n n) (by omega) (by rw [hR2]; simp [dkL])
    have HDS := hid hd2
    have HAS := hid ((ha.other (b := b) (o := 20) hgb (.int .i64 ((R.nae : Int) + 1))).other (b := b) (o := 23) hgb (.slice (some ⟨g, 0, none⟩) n n))
    have HFS := hid (((Fr.refl (DG b g) w).setS (.inl rfl) 20 (.int .i64 ((R.nae : Int) + 1))).setS (.inl rfl) 23 (.slice (some ⟨g, 0, none⟩) n n))
    have HR2 : Hid ((dkL R2)[23]? = some (.slice (some ⟨g, 0, none⟩) n n)) := hid (by rw [hR2]; rfl)
    have HST : Hid (StepE R R2 (.slice (some ⟨g, 0, none⟩) n n)) := hid (by rw [hR2]; exact ⟨fun _ => .inl rfl, .inl rfl, .inr rfl, .inl rfl, Nat.le_succ _, Nat.le_refl _, rfl⟩)
    have HPL : Hid (R2.pl = R.pl) := hid (by rw [hR2])
    rw [← hnae] at HDS HAS HFS
    have z0 := h.c 23 _ rfl
    clear h ha hd1 hd2 hR2 hnae
    clear hn hne h0
    refine calls_via fun K hK => ?_
    unfold ptrV
    go_enter Tryz.func52, Tryz.ntmps52
    go_wp2_with fail
    go_loopg [6] n (fun gk i wr => ∃ (k : Nat) (f2 : Nat → Value), i = .int .i64 (k : Nat) ∧ gk + k = n ∧ Arr 98 mkV wr g (n * 2) f2 ∧ (∀ j, j < k * 2 → f2 j = bangV) ∧ DkAt wr b R2 ∧ Fr (DG b g) w wr)
    case atStart => exact ⟨0, f, rfl, by omega, HAS.out, fun j hj => by omega, HDS.out, HFS.out⟩
    case round =>
      obtain ⟨k, f2, rfl, hg, hB, hf, hD, hF⟩ := hrel
      have HB := hid hB
      have HFF := hid hf
      have HF := hid hF
      have HG := hid hg
      have HD := hid hD
      have d0 : wr.cell? ⟨b, 23, none⟩ = some (.slice (some ⟨g, 0, none⟩) n n) := hD.c 23 _ HR2.out
      by_cases hk : k < n
      · have hki : (k : Int) < n := by omega
        have hk4 : (k : Int) < 1000 := by omega
        have x0 := hB.cell (k * 2) (by omega)
        have x1 := hB.cell (k * 2 + 1) (by omega)
        simp only [mkV] at x0 x1
        obtain ⟨y0, hy0⟩ : ∃ z, z = f2 (k * 2) := ⟨_, rfl⟩
        rw [← hy0] at x0
        obtain ⟨y1, hy1⟩ : ∃ z, z = f2 (k * 2 + 1) := ⟨_, rfl⟩
        rw [← hy1] at x1
        have xz : ∀ i, wr.frozen? ⟨g, i, none⟩ = false := hB.thaw
        have HB9 := hid ((hB.set (k * 2) bangV).set (k * 2 + 1) bangV)
        have HF9 := hid ((hF.setS (S := DG b g) (.inr rfl) (k * 2) bangV).setS (.inr rfl) (k * 2 + 1) bangV)
        have HD9 := hid (hD.fr ((Fr.refl (One g) wr).set1 (k * 2) bangV |>.set1 (k * 2 + 1) bangV) (fun q => HGB.out q.symm))
        clear hB hf hF hg hk hD hy0 hy1
        go_wp2_with fail
        go_roundg (gk - 1)
        case measure => have := HG.out; omega
        case rel => exact ⟨k + 1, _, by simp, by have := HG.out; omega, HB9.out, updE_lt HFF.out, HD9.out, HF9.out⟩
      · have hki : ¬ (k : Int) < n := by omega
        have hkn : k = n := by omega
        subst hkn
        have hB2 : Arr 98 mkV wr g (k * 2) (fun _ => bangV) := hB.congr (fun j hj => hf j hj)
        have HB2 := hid hB2
        clear hB hf hF hg hk hB2 hD
        go_wp2_with fail
        go_end0
        exact hK.out _ _ ⟨rfl, ⟨R2, HD.out, HST.out, HPL.out⟩, .inr ⟨g, rfl, HB2.out⟩, HF.out.mono (fun x hx _ => hx.imp id (fun q => ⟨HN0.out, by rw [q]; rfl⟩))⟩
  | false =>
    obtain ⟨x, hx⟩ : ∃ z, bits .and .i64 ((nae : Int) + 1) (nae : Int) = z := ⟨_, rfl⟩
    have hd1 := DkAt.put (R2 := { R with nae := R.nae + 1 }) h 20 (.int .i64 ((R.nae : Int) + 1)) (by omega) (by simp [dkL])
    rw [← hnae] at hd1
    have ha1 := ha.other (b := b) (o := 20) hgb (.int .i64 ((nae : Int) + 1))
    have hf1 := (Fr.refl (DG b g) w).setS (.inl rfl) 20 (.int .i64 ((nae : Int) + 1))
    by_cases hx0 : x = 0
    · subst hx0
      have HD1 := hid hd1
      have HA1 := hid ha1
      have HF1 := hid hf1
      have HNAE := hid hnae
      clear hn hne h0 hd1 ha1 hf1 h ha hnae
      refine calls_via fun K hK => ?_
      unfold ptrV
      go_enter Tryz.func52, Tryz.ntmps52
      go_wp2_with fail
      go_quiet (fail)
      obtain ⟨wq, hwq⟩ : ∃ z, z = (w.setCell ⟨b, 20, none⟩ (.int .i64 ((nae : Int) + 1))).drewN nq := ⟨_, rfl⟩
      rw [← hwq]
      have hfq : Fr Nob (w.setCell ⟨b, 20, none⟩ (.int .i64 ((nae : Int) + 1))) wq := by rw [hwq]; exact Fr.of_drewN
      have h := HD1.out.fr hfq (fun x => x)
      have ha := HA1.out.fr hfq (fun x => x)
      have hff : Fr (DG b g) w wq := HF1.out.trans (hfq.mono (fun x hx _ => hx.elim))
      obtain ⟨R2, hR2⟩ : ∃ z : DkR, z = { R with nae := nae + 1, fe := .slice (some ⟨g, 0, none⟩) n n } := ⟨_, rfl⟩
      have hd2 := DkAt.put (R2 := R2) h 18 (.slice (some ⟨g, 0, none⟩) n n) (by omega) (by rw [hR2, HNAE.out]; simp [dkL])
      have HDS := hid hd2
      have HAS := hid (ha.other (b := b) (o := 18) HGB.out (.slice (some ⟨g, 0, none⟩) n n))
      have HFS := hid (hff.setS (.inl rfl) 18 (.slice (some ⟨g, 0, none⟩) n n))
      have HR2 : Hid ((dkL R2)[18]? = some (.slice (some ⟨g, 0, none⟩) n n)) := hid (by rw [hR2]; rfl)
      have HST : Hid (StepE R R2 (.slice (some ⟨g, 0, none⟩) n n)) := hid (by rw [hR2, HNAE.out]; exact ⟨fun _ => .inl rfl, .inr rfl, .inl rfl, .inl rfl, Nat.le_succ _, Nat.le_refl _, rfl⟩)
      have HPL : Hid (R2.pl = R.pl) := hid (by rw [hR2])
      have z0 := h.c 18 _ rfl
      have cz : ∀ i, wq.frozen? ⟨b, i, none⟩ = false := h.fz
      clear h ha hd2 hR2 hff hfq hwq c0 hx
      go_wp2_with fail
      go_loopg [7] n (fun gk i wr => ∃ (k : Nat) (f2 : Nat → Value), i = .int .i64 (k : Nat) ∧ gk + k = n ∧ Arr 98 mkV wr g (n * 2) f2 ∧ (∀ j, j < k * 2 → f2 j = bangV) ∧ DkAt wr b R2 ∧ Fr (DG b g) w wr)
      case atStart => exact ⟨0, f, rfl, by omega, HAS.out, fun j hj => by omega, HDS.out, HFS.out⟩
      case round =>
        obtain ⟨k, f2, rfl, hg, hB, hf, hD, hF⟩ := hrel
        have HB := hid hB
        have HFF := hid hf
        have HF := hid hF
        have HG := hid hg
        have HD := hid hD
        have d0 : wr.cell? ⟨b, 18, none⟩ = some (.slice (some ⟨g, 0, none⟩) n n) := hD.c 18 _ HR2.out
        by_cases hk : k < n
        · have hki : (k : Int) < n := by omega
          have hk4 : (k : Int) < 1000 := by omega
          have x0 := hB.cell (k * 2) (by omega)
          have x1 := hB.cell (k * 2 + 1) (by omega)
          simp only [mkV] at x0 x1
          obtain ⟨y0, hy0⟩ : ∃ z, z = f2 (k * 2) := ⟨_, rfl⟩
          rw [← hy0] at x0
          obtain ⟨y1, hy1⟩ : ∃ z, z = f2 (k * 2 + 1) := ⟨_, rfl⟩
          rw [← hy1] at x1
          have xz : ∀ i, wr.frozen? ⟨g, i, none⟩ = false := hB.thaw
          have HB9 := hid ((hB.set (k * 2) bangV).set (k * 2 + 1) bangV)
          have HF9 := hid ((hF.setS (S := DG b g) (.inr rfl) (k * 2) bangV).setS (.inr rfl) (k * 2 + 1) bangV)
          have HD9 := hid (hD.fr ((Fr.refl (One g) wr).set1 (k * 2) bangV |>.set1 (k * 2 + 1) bangV) (fun q => HGB.out q.symm))
          clear hB hf hF hg hk hD hy0 hy1
          go_wp2_with fail
          go_roundg (gk - 1)
          case measure => have := HG.out; omega
          case rel => exact ⟨k + 1, _, by simp, by have := HG.out; omega, HB9.out, updE_lt HFF.out, HD9.out, HF9.out⟩
        · have hki : ¬ (k : Int) < n := by omega
          have hkn : k = n := by omega
          subst hkn
          have hB2 : Arr 98 mkV wr g (k * 2) (fun _ => bangV) := hB.congr (fun j hj => hf j hj)
          have HB2 := hid hB2
          clear hB hf hF hg hk hB2 hD
          go_wp2_with fail
          go_end0
          exact hK.out _ _ ⟨rfl, ⟨R2, HD.out, HST.out, HPL.out⟩, .inr ⟨g, rfl, HB2.out⟩, HF.out.mono (fun x hx _ => hx.imp id (fun q => ⟨HN0.out, by rw [q]; rfl⟩))⟩
    · have hxi : (x == 0) = false := beq_eq_false_iff_ne.2 hx0
      have hxj : (x != 0) = true := by rw [bne, hxi]; rfl
      have HD1 := hid hd1
      have HA1 := hid ha1
      have HF1 := hid hf1
      have HNAE := hid hnae
      have HN2 := hid (And.intro hn (And.intro hne (Nat.pos_of_ne_zero h0)))
      clear hx0 hn hne h0 hd1 ha1 hf1 h ha hnae
      refine calls_via fun K hK => ?_
      unfold ptrV
      go_enter Tryz.func52, Tryz.ntmps52
      go_wp2_with fail
      go_quiet (fail)
      obtain ⟨wq, hwq⟩ : ∃ z, z = (w.setCell ⟨b, 20, none⟩ (.int .i64 ((nae : Int) + 1))).drewN nq := ⟨_, rfl⟩
      rw [← hwq]
      have hfq : Fr Nob (w.setCell ⟨b, 20, none⟩ (.int .i64 ((nae : Int) + 1))) wq := by rw [hwq]; exact Fr.of_drewN
      have hff : Fr (DG b g) w wq := HF1.out.trans (hfq.mono (fun x hx _ => hx.elim))
      have hkp := keepE_any (m := n) (n := n) (HD1.out.fr hfq (fun x => x)) (HA1.out.fr hfq (fun x => x)) (Nat.le_refl _) HN2.out.1 HN2.out.2.2 HGB.out HN2.out.2.1
      unfold ptrV at hkp
      have HKP := hid hkp
      have HFF := hid hff
      clear hkp hff hfq hwq c0 cz hx
      go_wp2_with fail
      refine HKP.out.mono ?_
      rintro e w2 ⟨rfl, ⟨R2, hd2, hst, hpl, hna⟩, hb2, hf2⟩
      have HD2 := hid hd2
      have HST := hid hst
      have HPL := hid hpl
      have HNA := hid hna
      have HB2 := hid hb2
      have HF2 := hid (HFF.out.trans hf2)
      clear hd2 hst hpl hna hb2 hf2
      go_wp2_with fail
      go_end0
      exact hK.out _ _ ⟨rfl, ⟨R2, HD2.out, ⟨HST.out.oe, HST.out.fe, HST.out.he, HST.out.hl, HST.out.ne, by have h1 := HNA.out; have h2 := HNAE.out; omega, HST.out.same⟩, HPL.out⟩, .inr ⟨g, rfl, HB2.out⟩, HF2.out.mono (fun x hx _ => hx.imp id (fun q => ⟨HN0.out, by rw [q]; rfl⟩))⟩
set_option maxRecDepth 100000 in
set_option maxHeartbeats 8000000 in
theorem holdI_any {w : World} {b n : Nat} {R : DkR} {ad : Option Addr} {f : Nat → Value} {pin : Bool} (h : DkAt w b R) (ha : n = 0 ∨ ∃ g, ad = some ⟨g, 0, none⟩ ∧ g ≠ b ∧ Arr 115 mkV w g (n * 3) f) (hn : n ≤ 1000) (hne : R.ni < 1000000000000000) (hnae : R.nai < 1000000000000000) :
    Calls Tryz.prog 53 #[ptrV b, .slice ad n n, .bool pin] w fun e w' => e = .returned (.tuple #[]) ∧ (∃ R2, DkAt w' b R2 ∧ StepI R R2 (.slice ad n n)) ∧ (n = 0 ∨ ∃ g, ad = some ⟨g, 0, none⟩ ∧ Arr 115 mkV w' g (n * 3) bangI) ∧ Fr (fun x => x = b ∨ (n ≠ 0 ∧ obk ad = some x)) w w' := by
  by_cases h0 : n = 0
  · subst h0
    have H := hid h
    clear h ha
    refine calls_via fun K hK => ?_
    unfold ptrV
    go_enter Tryz.func53, Tryz.ntmps53
    go_wp2_with fail
    go_end0
    exact hK.out _ _ ⟨rfl, ⟨R, H.out, ⟨fun _ => .inl rfl, .inl rfl, .inl rfl, Nat.le_succ _, Nat.le_succ _, rfl⟩⟩, .inl (by first | rfl | trivial), Fr.refl _ _⟩
  rcases ha with ha | ⟨g, rfl, hgb, ha⟩
  · exact absurd ha h0
  have h0i : ((n : Int) == 0) = false := beq_eq_false_iff_ne.2 (by omega)
  have hni : (n : Int) ≤ 1000 := by omega
  have HGB := hid hgb
  have HNE := hid hne
  have n1 : ¬ g = b := hgb
  have n2 : ¬ b = g := fun q => hgb q.symm
  have HN0 := hid h0
  obtain ⟨nae, hnae2⟩ : ∃ z, z = R.nai := ⟨_, rfl⟩
  have c0 : w.cell? ⟨b, 21, none⟩ = some (.int .i64 (R.nai : Nat)) := h.c 21 _ rfl
  have cz : ∀ i, w.frozen? ⟨b, i, none⟩ = false := h.fz
  have hnl : (nae : Int) < 1000000000000000 := by omega
  have hnae := hnae2
  clear hnae2
  rw [← hnae] at c0
  cases pin with
  | true =>
    obtain ⟨R2, hR2⟩ : ∃ z : DkR, z = { R with nai := R.nai + 1, hi := .slice (some ⟨g, 0, none⟩) n n } := ⟨_, rfl⟩
    have hd1 := DkAt.put (R2 := { R with nai := R.nai + 1 }) h 21 (.int .i64 ((R.nai : Int) + 1)) (by omega) (by simp [dkL])
    have hd2 := DkAt.put (R2 := R2) hd1 24 (.slice (some ⟨g, 0, none⟩) n n) (by omega) (by rw [hR2]; simp [dkL])
    have HDS := hid hd2
    have HAS := hid ((ha.other (b := b) (o := 21) hgb (.int .i64 ((R.nai : Int) + 1))).other (b := b) (o := 24) hgb (.slice (some ⟨g, 0, none⟩) n n))
    have HFS := hid (((Fr.refl (DG b g) w).setS (.inl rfl) 21 (.int .i64 ((R.nai : Int) + 1))).setS (.inl rfl) 24 (.slice (some ⟨g, 0, none⟩) n n))
    have HR2 : Hid ((dkL R2)[24]? = some (.slice (some ⟨g, 0, none⟩) n n)) := hid (by rw [hR2]; rfl)
    have HST : Hid (StepI R R2 (.slice (some ⟨g, 0, none⟩) n n)) := hid (by rw [hR2]; exact ⟨fun _ => .inl rfl, .inl rfl, .inr rfl, Nat.le_succ _, Nat.le_refl _, rfl⟩)
    rw [← hnae] at HDS HAS HFS
    have z0 := h.c 24 _ rfl
    clear h ha hd1 hd2 hR2 hnae
    clear hn hne h0
    refine calls_via fun K hK => ?_
    unfold ptrV
    go_enter Tryz.func53, Tryz.ntmps53
    go_wp2_with fail
    go_loopg [6] n (fun gk i wr => ∃ (k : Nat) (f2 : Nat → Value), i = .int .i64 (k : Nat) ∧ gk + k = n ∧ Arr 115 mkV wr g (n * 3) f2 ∧ (∀ j, j < k * 3 → f2 j = bangI j) ∧ DkAt wr b R2 ∧ Fr (DG b g) w wr)
    case atStart => exact ⟨0, f, rfl, by omega, HAS.out, fun j hj => by omega, HDS.out, HFS.out⟩
    case round =>
      obtain ⟨k, f2, rfl, hg, hB, hf, hD, hF⟩ := hrel
      have HB := hid hB
      have HFF := hid hf
      have HF := hid hF
      have HG := hid hg
      have HD := hid hD
      have d0 : wr.cell? ⟨b, 24, none⟩ = some (.slice (some ⟨g, 0, none⟩) n n) := hD.c 24 _ HR2.out
      by_cases hk : k < n
      · have hki : (k : Int) < n := by omega
        have hk4 : (k : Int) < 1000 := by omega
        have x0 := hB.cell (k * 3) (by omega)
        have x1 := hB.cell (k * 3 + 1) (by omega)
        have x2 := hB.cell (k * 3 + 2) (by omega)
        simp only [mkV] at x0 x1 x2
        obtain ⟨y0, hy0⟩ : ∃ z, z = f2 (k * 3) := ⟨_, rfl⟩
        rw [← hy0] at x0
        obtain ⟨y1, hy1⟩ : ∃ z, z = f2 (k * 3 + 1) := ⟨_, rfl⟩
        rw [← hy1] at x1
        obtain ⟨y2, hy2⟩ : ∃ z, z = f2 (k * 3 + 2) := ⟨_, rfl⟩
        rw [← hy2] at x2
        have xz : ∀ i, wr.frozen? ⟨g, i, none⟩ = false := hB.thaw
        have HB9 := hid (((hB.set (k * 3) (.string ⟨#[33]⟩)).set (k * 3 + 1) (.int .i64 (-7))).set (k * 3 + 2) (.int .i64 (-7)))
        have HF9 := hid (((hF.setS (S := DG b g) (.inr rfl) (k * 3) (.string ⟨#[33]⟩)).setS (.inr rfl) (k * 3 + 1) (.int .i64 (-7))).setS (.inr rfl) (k * 3 + 2) (.int .i64 (-7)))
        have HD9 := hid (hD.fr ((((Fr.refl (One g) wr).set1 (k * 3) (.string ⟨#[33]⟩)).set1 (k * 3 + 1) (.int .i64 (-7))).set1 (k * 3 + 2) (.int .i64 (-7))) (fun q => HGB.out q.symm))
        clear hB hf hF hg hk hD hy0 hy1 hy2
        go_wp2_with fail
        go_roundg (gk - 1)
        case measure => have := HG.out; omega
        case rel => exact ⟨k + 1, _, by simp, by have := HG.out; omega, HB9.out, updI_lt HFF.out, HD9.out, HF9.out⟩
      · have hki : ¬ (k : Int) < n := by omega
        have hkn : k = n := by omega
        subst hkn
        have hB2 : Arr 115 mkV wr g (k * 3) bangI := hB.congr (fun j hj => hf j hj)
        have HB2 := hid hB2
        clear hB hf hF hg hk hB2 hD
        go_wp2_with fail
        go_end0
        exact hK.out _ _ ⟨rfl, ⟨R2, HD.out, HST.out⟩, .inr ⟨g, rfl, HB2.out⟩, HF.out.mono (fun x hx _ => hx.imp id (fun q => ⟨HN0.out, by rw [q]; rfl⟩))⟩
  | false =>
    obtain ⟨x, hx⟩ : ∃ z, bits .and .i64 ((nae : Int) + 1) (nae : Int) = z := ⟨_, rfl⟩
    have hd1 := DkAt.put (R2 := { R with nai := R.nai + 1 }) h 21 (.int .i64 ((R.nai : Int) + 1)) (by omega) (by simp [dkL])
    rw [← hnae] at hd1
    have ha1 := ha.other (b := b) (o := 21) hgb (.int .i64 ((nae : Int) + 1))
    have hf1 := (Fr.refl (DG b g) w).setS (.inl rfl) 21 (.int .i64 ((nae : Int) + 1))
    by_cases hx0 : x = 0
    · subst hx0
      have HD1 := hid hd1
      have HA1 := hid ha1
      have HF1 := hid hf1
      have HNAE := hid hnae
      clear hn hne h0 hd1 ha1 hf1 h ha hnae
      refine calls_via fun K hK => ?_
      unfold ptrV
      go_enter Tryz.func53, Tryz.ntmps53
      go_wp2_with fail
      go_quiet (fail)
      obtain ⟨wq, hwq⟩ : ∃ z, z = (w.setCell ⟨b, 21, none⟩ (.int .i64 ((nae : Int) + 1))).drewN nq := ⟨_, rfl⟩
      rw [← hwq]
      have hfq : Fr Nob (w.setCell ⟨b, 21, none⟩ (.int .i64 ((nae : Int) + 1))) wq := by rw [hwq]; exact Fr.of_drewN
      have h := HD1.out.fr hfq (fun x => x)
      have ha := HA1.out.fr hfq (fun x => x)
      have hff : Fr (DG b g) w wq := HF1.out.trans (hfq.mono (fun x hx _ => hx.elim))
      obtain ⟨R2, hR2⟩ : ∃ z : DkR, z = { R with nai := nae + 1, fi := .slice (some ⟨g, 0, none⟩) n n } := ⟨_, rfl⟩
      have hd2 := DkAt.put (R2 := R2) h 19 (.slice (some ⟨g, 0, none⟩) n n) (by omega) (by rw [hR2, HNAE.out]; simp [dkL])
      have HDS := hid hd2
      have HAS := hid (ha.other (b := b) (o := 19) HGB.out (.slice (some ⟨g, 0, none⟩) n n))
      have HFS := hid (hff.setS (.inl rfl) 19 (.slice (some ⟨g, 0, none⟩) n n))
      have HR2 : Hid ((dkL R2)[19]? = some (.slice (some ⟨g, 0, none⟩) n n)) := hid (by rw [hR2]; rfl)
      have HST : Hid (StepI R R2 (.slice (some ⟨g, 0, none⟩) n n)) := hid (by rw [hR2, HNAE.out]; exact ⟨fun _ => .inl rfl, .inr rfl, .inl rfl, Nat.le_succ _, Nat.le_refl _, rfl⟩)
      skip
      have z0 := h.c 19 _ rfl
      have cz : ∀ i, wq.frozen? ⟨b, i, none⟩ = false := h.fz
      clear h ha hd2 hR2 hff hfq hwq c0 hx
      go_wp2_with fail
      go_loopg [7] n (fun gk i wr => ∃ (k : Nat) (f2 : Nat → Value), i = .int .i64 (k : Nat) ∧ gk + k = n ∧ Arr 115 mkV wr g (n * 3) f2 ∧ (∀ j, j < k * 3 → f2 j = bangI j) ∧ DkAt wr b R2 ∧ Fr (DG b g) w wr)
      case atStart => exact ⟨0, f, rfl, by omega, HAS.out, fun j hj => by omega, HDS.out, HFS.out⟩
      case round =>
        obtain ⟨k, f2, rfl, hg, hB, hf, hD, hF⟩ := hrel
        have HB := hid hB
        have HFF := hid hf
        have HF := hid hF
        have HG := hid hg
        have HD := hid hD
        have d0 : wr.cell? ⟨b, 19, none⟩ = some (.slice (some ⟨g, 0, none⟩) n n) := hD.c 19 _ HR2.out
        by_cases hk : k < n
        · have hki : (k : Int) < n := by omega
          have hk4 : (k : Int) < 1000 := by omega
          have x0 := hB.cell (k * 3) (by omega)
          have x1 := hB.cell (k * 3 + 1) (by omega)
          have x2 := hB.cell (k * 3 + 2) (by omega)
          simp only [mkV] at x0 x1 x2
          obtain ⟨y0, hy0⟩ : ∃ z, z = f2 (k * 3) := ⟨_, rfl⟩
          rw [← hy0] at x0
          obtain ⟨y1, hy1⟩ : ∃ z, z = f2 (k * 3 + 1) := ⟨_, rfl⟩
          rw [← hy1] at x1
          obtain ⟨y2, hy2⟩ : ∃ z, z = f2 (k * 3 + 2) := ⟨_, rfl⟩
          rw [← hy2] at x2
          have xz : ∀ i, wr.frozen? ⟨g, i, none⟩ = false := hB.thaw
          have HB9 := hid (((hB.set (k * 3) (.string ⟨#[33]⟩)).set (k * 3 + 1) (.int .i64 (-7))).set (k * 3 + 2) (.int .i64 (-7)))
          have HF9 := hid (((hF.setS (S := DG b g) (.inr rfl) (k * 3) (.string ⟨#[33]⟩)).setS (.inr rfl) (k * 3 + 1) (.int .i64 (-7))).setS (.inr rfl) (k * 3 + 2) (.int .i64 (-7)))
          have HD9 := hid (hD.fr ((((Fr.refl (One g) wr).set1 (k * 3) (.string ⟨#[33]⟩)).set1 (k * 3 + 1) (.int .i64 (-7))).set1 (k * 3 + 2) (.int .i64 (-7))) (fun q => HGB.out q.symm))
          clear hB hf hF hg hk hD hy0 hy1 hy2
          go_wp2_with fail
          go_roundg (gk - 1)
          case measure => have := HG.out; omega
          case rel => exact ⟨k + 1, _, by simp, by have := HG.out; omega, HB9.out, updI_lt HFF.out, HD9.out, HF9.out⟩
        · have hki : ¬ (k : Int) < n := by omega
          have hkn : k = n := by omega
          subst hkn
          have hB2 : Arr 115 mkV wr g (k * 3) bangI := hB.congr (fun j hj => hf j hj)
          have HB2 := hid hB2
          clear hB hf hF hg hk hB2 hD
          go_wp2_with fail
          go_end0
          exact hK.out _ _ ⟨rfl, ⟨R2, HD.out, HST.out⟩, .inr ⟨g, rfl, HB2.out⟩, HF.out.mono (fun x hx _ => hx.imp id (fun q => ⟨HN0.out, by rw [q]; rfl⟩))⟩
    · have hxi : (x == 0) = false := beq_eq_false_iff_ne.2 hx0
      have hxj : (x != 0) = true := by rw [bne, hxi]; rfl
      have HD1 := hid hd1
      have HA1 := hid ha1
      have HF1 := hid hf1
      have HNAE := hid hnae
      have HN2 := hid (And.intro hn (And.intro hne (Nat.pos_of_ne_zero h0)))
      clear hx0 hn hne h0 hd1 ha1 hf1 h ha hnae
      refine calls_via fun K hK => ?_
      unfold ptrV
      go_enter Tryz.func53, Tryz.ntmps53
      go_wp2_with fail
      go_quiet (fail)
      obtain ⟨wq, hwq⟩ : ∃ z, z = (w.setCell ⟨b, 21, none⟩ (.int .i64 ((nae : Int) + 1))).drewN nq := ⟨_, rfl⟩
      rw [← hwq]
      have hfq : Fr Nob (w.setCell ⟨b, 21, none⟩ (.int .i64 ((nae : Int) + 1))) wq := by rw [hwq]; exact Fr.of_drewN
      have hff : Fr (DG b g) w wq := HF1.out.trans (hfq.mono (fun x hx _ => hx.elim))
      have hkp := keepI_any (m := n) (n := n) (HD1.out.fr hfq (fun x => x)) (HA1.out.fr hfq (fun x => x)) (Nat.le_refl _) HN2.out.1 HN2.out.2.2 HGB.out HN2.out.2.1
      unfold ptrV at hkp
      have HKP := hid hkp
      have HFF := hid hff
      clear hkp hff hfq hwq c0 cz hx
      go_wp2_with fail
      refine HKP.out.mono ?_
      rintro e w2 ⟨rfl, ⟨R2, hd2, hst, hna⟩, hb2, hf2⟩
      have HD2 := hid hd2
      have HST := hid hst
      have HPL := hid hst
      have HNA := hid hna
      have HB2 := hid hb2
      have HF2 := hid (HFF.out.trans hf2)
      clear hd2 hst  hna hb2 hf2
      go_wp2_with fail
      go_end0
      exact hK.out _ _ ⟨rfl, ⟨R2, HD2.out, ⟨HST.out.oi, HST.out.fi, HST.out.hi, HST.out.ni, by have h1 := HNA.out; have h2 := HNAE.out; omega, HST.out.same⟩⟩, .inr ⟨g, rfl, HB2.out⟩, HF2.out.mono (fun x hx _ => hx.imp id (fun q => ⟨HN0.out, by rw [q]; rfl⟩))⟩
set_option maxRecDepth 100000 in
set_option maxHeartbeats 8000000 in
theorem tookE_any {w : World} {b m n g : Nat} {R : DkR} {f : Nat → Value} (h : DkAt w b R) (ha : Arr 98 mkV w g (n * 2) f) (hgb : g ≠ b) (hm : m ≤ n) (hn : n ≤ 1000) (h0 : 0 < n) (hne : R.ne < 1000000000000000) :
    Calls Tryz.prog 33 #[ptrV b, .slice (some ⟨g, 0, none⟩) m n] w fun e w' => e = .returned (.tuple #[]) ∧ (∃ R2, DkAt w' b R2 ∧ StepE R R2 (.slice (some ⟨g, 0, none⟩) n n)) ∧ Arr 98 mkV w' g (n * 2) (fun _ => bangV) ∧ Fr (DG b g) w w' := by
  have hmi : (m : Int) ≤ n := by omega
  have hni : (n : Int) ≤ 1000 := by omega
  have HGB := hid hgb
  have HNN := hid (And.intro hm (And.intro hn (And.intro h0 hne)))
  have n1 : ¬ g = b := hgb
  have n2 : ¬ b = g := fun q => hgb q.symm
  obtain ⟨pl, hpl⟩ : ∃ z, z = R.pl := ⟨_, rfl⟩
  have c0 : w.cell? ⟨b, 25, none⟩ = some (.bool R.pl) := h.c 25 _ rfl
  have cz : ∀ i, w.frozen? ⟨b, i, none⟩ = false := h.fz
  rw [← hpl] at c0
  have hd1 := DkAt.put (R2 := { R with pl := false }) h 25 (.bool false) (by omega) (by simp [dkL])
  have ha1 := ha.other (b := b) (o := 25) hgb (.bool false)
  have hf1 := (Fr.refl (DG b g) w).setS (.inl rfl) 25 (.bool false)
  clear hpl
  cases pl with
  | true =>
    obtain ⟨R2, hR2⟩ : ∃ z : DkR, z = { R with pl := false, hl := .slice (some ⟨g, 0, none⟩) n n } := ⟨_, rfl⟩
    have hd2 := DkAt.put (R2 := R2) hd1 26 (.slice (some ⟨g, 0, none⟩) n n) (by omega) (by rw [hR2]; simp [dkL])
    have HDS := hid hd2
    have HAS := hid (ha1.other (b := b) (o := 26) hgb (.slice (some ⟨g, 0, none⟩) n n))
    have HFS := hid (hf1.setS (.inl rfl) 26 (.slice (some ⟨g, 0, none⟩) n n))
    have HR2 : Hid ((dkL R2)[26]? = some (.slice (some ⟨g, 0, none⟩) n n)) := hid (by rw [hR2]; rfl)
    have HST : Hid (StepE R R2 (.slice (some ⟨g, 0, none⟩) n n)) := hid (by rw [hR2]; exact ⟨fun _ => .inl rfl, .inl rfl, .inl rfl, .inr rfl, Nat.le_succ _, Nat.le_succ _, rfl⟩)
    have z0 := h.c 26 _ rfl
    clear h ha hd1 ha1 hf1 hd2 hR2 hm hn h0 hne
    refine calls_via fun K hK => ?_
    unfold ptrV
    go_enter Tryz.func33, Tryz.ntmps33
    go_wp2_with fail
    go_loopg [5] n (fun gk i wr => ∃ (k : Nat) (f2 : Nat → Value), i = .int .i64 (k : Nat) ∧ gk + k = n ∧ Arr 98 mkV wr g (n * 2) f2 ∧ (∀ j, j < k * 2 → f2 j = bangV) ∧ DkAt wr b R2 ∧ Fr (DG b g) w wr)
    case atStart => exact ⟨0, f, rfl, by omega, HAS.out, fun j hj => by omega, HDS.out, HFS.out⟩
    case round =>
      obtain ⟨k, f2, rfl, hg, hB, hf, hD, hF⟩ := hrel
      have HB := hid hB
      have HFF := hid hf
      have HF := hid hF
      have HG := hid hg
      have HD := hid hD
      have d0 : wr.cell? ⟨b, 26, none⟩ = some (.slice (some ⟨g, 0, none⟩) n n) := hD.c 26 _ HR2.out
      by_cases hk : k < n
      · have hki : (k : Int) < n := by omega
        have hk4 : (k : Int) < 1000 := by omega
        have x0 := hB.cell (k * 2) (by omega)
        have x1 := hB.cell (k * 2 + 1) (by omega)
        simp only [mkV] at x0 x1
        obtain ⟨y0, hy0⟩ : ∃ z, z = f2 (k * 2) := ⟨_, rfl⟩
        rw [← hy0] at x0
        obtain ⟨y1, hy1⟩ : ∃ z, z = f2 (k * 2 + 1) := ⟨_, rfl⟩
        rw [← hy1] at x1
        have xz : ∀ i, wr.frozen? ⟨g, i, none⟩ = false := hB.thaw
        have HB9 := hid ((hB.set (k * 2) bangV).set (k * 2 + 1) bangV)
        have HF9 := hid ((hF.setS (S := DG b g) (.inr rfl) (k * 2) bangV).setS (.inr rfl) (k * 2 + 1) bangV)
        have HD9 := hid (hD.fr ((Fr.refl (One g) wr).set1 (k * 2) bangV |>.set1 (k * 2 + 1) bangV) (fun q => HGB.out q.symm))
        clear hB hf hF hg hk hD hy0 hy1
        go_wp2_with fail
        go_roundg (gk - 1)
        case measure => have := HG.out; omega
        case rel => exact ⟨k + 1, _, by simp, by have := HG.out; omega, HB9.out, updE_lt HFF.out, HD9.out, HF9.out⟩
      · have hki : ¬ (k : Int) < n := by omega
        have hkn : k = n := by omega
        subst hkn
        have hB2 : Arr 98 mkV wr g (k * 2) (fun _ => bangV) := hB.congr (fun j hj => hf j hj)
        have HB2 := hid hB2
        clear hB hf hF hg hk hB2 hD
        go_wp2_with fail
        go_end0
        exact hK.out _ _ ⟨rfl, ⟨R2, HD.out, HST.out⟩, HB2.out, HF.out⟩
  | false =>
    have hkp := keepE_any (m := m) (n := n) hd1 ha1 hm hn h0 hgb hne
    unfold ptrV at hkp
    have HKP := hid hkp
    have HFF := hid hf1
    clear h ha hd1 ha1 hf1 hkp hm hn h0 hne
    refine calls_via fun K hK => ?_
    unfold ptrV
    go_enter Tryz.func33, Tryz.ntmps33
    go_wp2_with fail
    refine HKP.out.mono ?_
    rintro e w2 ⟨rfl, ⟨R2, hd2, hst, hpl, hna⟩, hb2, hf2⟩
    have HD2 := hid hd2
    have HST := hid hst
    have HB2 := hid hb2
    have HF2 := hid (HFF.out.trans hf2)
    clear hd2 hst hpl hna hb2 hf2
    go_wp2_with fail
    go_end0
    exact hK.out _ _ ⟨rfl, ⟨R2, HD2.out, ⟨HST.out.oe, HST.out.fe, HST.out.he, HST.out.hl, HST.out.ne, HST.out.nae, HST.out.same⟩⟩, HB2.out, HF2.out⟩
end Go.Proofs.Qxb6500353aGreat
