/- The encoder: fixed, fetch, walked. -/
import Derived.Test.Qxb6500353aGreatEnc
namespace Go.Proofs.Qxb6500353aGreat
open Go.RowKit
set_option linter.unusedVariables false
set_option linter.unusedSimpArgs false

set_option maxRecDepth 100000 in
set_option maxHeartbeats 1000000 in
theorem fixed_any {w : World} {b : Nat} {R : PkR} (h : PkAt w b R) : Calls Tryz.prog 124 #[ptrV b] w fun e w' => e = .returned (.tuple #[]) ∧ PkAt w' b { R with plan := len fixL } ∧ Fr (Rng b (b + 5)) w w' := by
  have H := hid h
  have s2 : Rng b (b + 5) (b + 2) := ⟨by omega, by omega⟩
  have HS := hid s2
  clear h s2
  refine calls_via fun K hK => ?_
  unfold ptrV
  go_enter Tryz.func124, Tryz.ntmps124
  go_wp2_with fail
  go_loopg [2] 265 (fun g i wr => ∃ k : Nat, i = .int .i64 (k : Nat) ∧ g + k = 265 ∧ PkAt wr b { R with plan := fun j => if j < k then len fixL j else R.plan j } ∧ Fr (Rng b (b + 5)) w wr)
  case atStart => exact ⟨0, rfl, by omega, H.out.congrP (fun i _ => by simp), Fr.refl _ _⟩
  case round =>
    obtain ⟨k, rfl, hg, hA, hf⟩ := hrel
    have c0 := hA.p_plan
    have cf : ∀ i, wr.frozen? ⟨b + 2, i, none⟩ = false := hA.a_plan.thaw
    have HA := hid hA
    have HF := hid hf
    by_cases hlt : k < 265
    · have hki : (k : Int) < 265 := by omega
      have cb := hA.a_plan.cell k (by omega)
      simp only [mkN] at cb
      rw [if_neg (Nat.lt_irrefl _)] at cb
      obtain ⟨y, hy⟩ : ∃ y, y = R.plan k := ⟨_, rfl⟩
      rw [← hy] at cb
      have HFL := hid (fun w => fixedLen_any (w := w) (s := k))
      obtain ⟨f, hff⟩ : ∃ f, f = fixedLen k := ⟨_, rfl⟩
      rw [← hff] at HFL
      have HFF := hid (hff.trans (fixL_lo hlt).symm)
      clear hA hf hy hff
      go_wp2_with fail
      go_region_with (go_at_call 100; refine (HFL.out _).mono ?_; rintro e w7 ⟨rfl, hw⟩; have hw2 := hw; subst hw2; clear hw)
      all_goals go_wp2_with fail
      all_goals go_roundg (gk - 1)
      all_goals first
        | omega
        | (refine ⟨k + 1, by simp, by omega, ?_, by first | exact (HF.out.setS HS.out _ _).drew | exact (HF.out.drew.setS HS.out _ _) | exact HF.out.setS HS.out _ _⟩
           first | refine (HA.out.set_plan k f).drew.congrP ?_ | refine ((HA.out.drew).set_plan k f).congrP ?_ | refine (HA.out.set_plan k f).congrP ?_
           intro i hi
           unfold upd
           dsimp only
           by_cases e : i = k
           · subst e; rw [if_pos rfl, if_pos (by omega), HFF.out]
           · by_cases e2 : i < k
             · rw [if_neg e, if_pos e2, if_pos (by omega)]
             · rw [if_neg e, if_neg e2, if_neg (by omega)])
    · have hki : ¬ (k : Int) < 265 := by omega
      have hA0 : PkAt wr b { R with plan := fun j => if j < 265 then len fixL j else R.plan j } := hA.congrP fun i hi => by
        dsimp only
        by_cases e : i < 265
        · rw [if_pos (by omega), if_pos e]
        · rw [if_neg (by omega), if_neg e]
      have HA0 := hid hA0
      clear hA hA0 HA hf
      go_wp2_with fail
      go_loopg [3] 8 (fun g i w2 => ∃ k : Nat, i = .int .i64 (k : Nat) ∧ g + k = 8 ∧ PkAt w2 b { R with plan := fun j => if j < 265 + k then len fixL j else R.plan j } ∧ Fr (Rng b (b + 5)) w w2)
      case atStart => exact ⟨0, rfl, by omega, HA0.out, HF.out⟩
      case round =>
        obtain ⟨k, rfl, hg, hA, hf⟩ := hrel
        have c0 := hA.p_plan
        have cf : ∀ i, wr.frozen? ⟨b + 2, i, none⟩ = false := hA.a_plan.thaw
        have HA := hid hA
        have HF := hid hf
        by_cases hlt : k < 8
        · have hki : (k : Int) < 8 := by omega
          have cb := hA.a_plan.cell (265 + k) (by omega)
          simp only [mkN] at cb
          rw [if_neg (Nat.lt_irrefl _)] at cb
          obtain ⟨y, hy⟩ : ∃ y, y = R.plan (265 + k) := ⟨_, rfl⟩
          rw [← hy] at cb
          have HX := hid (fixL_hi hlt)
          clear hA hf hy
          go_wp2_with fail
          go_roundg (gk - 1)
          case measure => omega
          case rel =>
            refine ⟨k + 1, by simp, by omega, (HA.out.set_plan (265 + k) 3).congrP fun i hi => ?_, HF.out.setS HS.out _ _⟩
            unfold upd
            dsimp only
            by_cases e : i = 265 + k
            · subst e; rw [if_pos rfl, if_pos (by omega), HX.out]
            · by_cases e2 : i < 265 + k
              · rw [if_neg e, if_pos e2, if_pos (by omega)]
              · rw [if_neg e, if_neg e2, if_neg (by omega)]
        · have hki : ¬ (k : Int) < 8 := by omega
          clear hA hf
          go_wp2_with fail
          go_end0
          exact hK.out _ _ ⟨rfl, HA.out.congrP fun i hi => by dsimp only; rw [if_pos (by omega)], HF.out⟩

def codeOf (la lb : List Nat) (s : Nat) : Nat := if s < 265 then code la s else code lb (s - 265)
def wideOf (la lb : List Nat) (s : Nat) : Nat := if s < 265 then len la s else len lb (s - 265)
/-- The cells below k that are used hold the codes. -/
def Fetched (la lb : List Nat) (c fc fw : Nat → Nat) (k : Nat) : Prop := ∀ s, s < k → 0 < c s → fc s = codeOf la lb s ∧ fw s = wideOf la lb s
theorem Fetched.step {la lb : List Nat} {c fc fw : Nat → Nat} {k : Nat} (h : Fetched la lb c fc fw k) : Fetched la lb c (upd fc k (codeOf la lb k)) (upd fw k (wideOf la lb k)) (k + 1) := by
  intro s hs h0
  by_cases e : s = k
  · subst e; rw [upd_self, upd_self]; exact ⟨rfl, rfl⟩
  · rw [upd_ne _ _ _ _ e, upd_ne _ _ _ _ e]; exact h s (by omega) h0
theorem Fetched.pass {la lb : List Nat} {c fc fw : Nat → Nat} {k : Nat} (h : Fetched la lb c fc fw k) (h0 : ¬ 0 < c k) : Fetched la lb c fc fw (k + 1) := by
  intro s hs h1
  by_cases e : s = k
  · subst e; exact absurd h1 h0
  · exact h s (by omega) h1
theorem code10 {l : List Nat} (h : Lawful l) (s : Nat) : code l s < 1024 ∧ len l s ≤ 10 := by
  have h1 := code_lt l s
  have h2 := h.toFit.len_le s
  have : 2 ^ len l s ≤ 2 ^ 10 := Nat.pow_le_pow_right (by decide) h2
  exact ⟨by omega, h2⟩
theorem Enc.codeA {w : World} {t a b z p : Nat} {T : Tp} {RA RB : CdR} {RZ : MtR} {R : PkR} (h : Enc w t a b z p T RA RB RZ R) {la : List Nat} (ha : CoR RA la) {s : Nat} (hs : 0 < len la s) :
    Calls Tryz.prog 157 #[.pointer (some ⟨a, 0, none⟩), .int .i64 s] w fun e w' => e = .returned (.tuple #[.int .i64 (code la s : Nat), .int .i64 (len la s : Nat), .int .i64 0]) ∧ ∃ q, w' = w.drewN q :=
  code_any ⟨RA, h.ca, ha⟩ s hs
theorem Enc.codeB {w : World} {t a b z p : Nat} {T : Tp} {RA RB : CdR} {RZ : MtR} {R : PkR} (h : Enc w t a b z p T RA RB RZ R) {lb : List Nat} (hb : CoR RB lb) {s : Nat} (hs : 0 < len lb s) :
    Calls Tryz.prog 157 #[.pointer (some ⟨b, 0, none⟩), .int .i64 s] w fun e w' => e = .returned (.tuple #[.int .i64 (code lb s : Nat), .int .i64 (len lb s : Nat), .int .i64 0]) ∧ ∃ q, w' = w.drewN q :=
  code_any ⟨RB, h.cb, hb⟩ s hs
theorem Enc.ptrA {w : World} {t a b z p : Nat} {T : Tp} {RA RB : CdR} {RZ : MtR} {R : PkR} (h : Enc w t a b z p T RA RB RZ R) : w.cell? ⟨p, 1, none⟩ = some (.pointer (some ⟨a, 0, none⟩)) := by
  have := h.pk.c_a; rw [h.ea] at this; exact this
theorem Enc.ptrB {w : World} {t a b z p : Nat} {T : Tp} {RA RB : CdR} {RZ : MtR} {R : PkR} (h : Enc w t a b z p T RA RB RZ R) : w.cell? ⟨p, 2, none⟩ = some (.pointer (some ⟨b, 0, none⟩)) := by
  have := h.pk.c_b; rw [h.eb] at this; exact this
/-- Two stores into the tables. -/
theorem Enc.two {w : World} {t a b z p : Nat} {T : Tp} {RA RB : CdR} {RZ : MtR} {R : PkR} (h : Enc w t a b z p T RA RB RZ R) (i x y : Nat) :
    Enc ((w.setCell ⟨p + 3, i, none⟩ (.int .i64 ((x : Nat) : Int))).setCell ⟨p + 4, i, none⟩ (.int .i64 ((y : Nat) : Int))) t a b z p T RA RB RZ { R with code := upd R.code i x, wide := upd R.wide i y } ∧
    Fr (Rng t (p + 5)) w ((w.setCell ⟨p + 3, i, none⟩ (.int .i64 ((x : Nat) : Int))).setCell ⟨p + 4, i, none⟩ (.int .i64 ((y : Nat) : Int))) := by
  have l1 := h.l1; have l2 := h.l2; have l3 := h.l3; have l4 := h.l4
  have hf : Fr (Rng p (p + 5)) w ((w.setCell ⟨p + 3, i, none⟩ (.int .i64 ((x : Nat) : Int))).setCell ⟨p + 4, i, none⟩ (.int .i64 ((y : Nat) : Int))) :=
    ((Fr.refl _ _).setS (show Rng p (p + 5) (p + 3) from ⟨by omega, by omega⟩) _ _).setS (show Rng p (p + 5) (p + 4) from ⟨by omega, by omega⟩) _ _
  exact ⟨h.onP hf ((h.pk.set_code i x).set_wide i y) rfl rfl rfl rfl, h.wide hf (by omega) (by omega)⟩
set_option maxRecDepth 100000 in
set_option maxHeartbeats 2000000 in
theorem fetch_any {w : World} {t a b z p : Nat} {T : Tp} {RA RB : CdR} {RZ : MtR} {R : PkR} (h : Enc w t a b z p T RA RB RZ R) {la lb : List Nat} (ha : CoR RA la) (hb : CoR RB lb)
    (hcb : ∀ s, s < 273 → R.count s ≤ 600) (h1 : ∀ s, s < 265 → 0 < R.count s → 0 < len la s) (h2 : ∀ s, s < 8 → 0 < R.count (265 + s) → 0 < len lb s) :
    Calls Tryz.prog 126 #[ptrV p] w fun e w' => e = .returned (.tuple #[]) ∧ (∃ fc fw, Enc w' t a b z p T RA RB RZ { R with code := fc, wide := fw } ∧ Fetched la lb R.count fc fw 273) ∧ Fr (Rng t (p + 5)) w w' := by
  have H := hid h
  have HA := hid ha
  have HB := hid hb
  have HCB := hid hcb
  have H1 := hid h1
  have H2 := hid h2
  clear h ha hb hcb h1 h2
  refine calls_via fun K hK => ?_
  unfold ptrV
  go_enter Tryz.func126, Tryz.ntmps126
  go_wp2_with fail
  go_loopg [2] 265 (fun g i wr => ∃ (k : Nat) (fc fw : Nat → Nat), i = .int .i64 (k : Nat) ∧ g + k = 265 ∧ Enc wr t a b z p T RA RB RZ { R with code := fc, wide := fw } ∧ Fetched la lb R.count fc fw k ∧ Fr (Rng t (p + 5)) w wr)
  case atStart => exact ⟨0, R.code, R.wide, rfl, by omega, H.out, fun s hs => by omega, Fr.refl _ _⟩
  case round =>
    obtain ⟨k, fc, fw, rfl, hg, hE, hF, hf⟩ := hrel
    have HG := hid hg
    have HE := hid hE
    have HFE := hid hF
    have HF := hid hf
    by_cases hk : k < 265
    · have hki : (k : Int) < 265 := by omega
      have c0 := hE.pk.p_count
      have c1 := hE.ptrA
      have c2 := hE.pk.p_code
      have c3 := hE.pk.p_wide
      have cc := hE.pk.a_count.cell k (by omega)
      have cx := hE.pk.a_code.cell k (by omega)
      have cy := hE.pk.a_wide.cell k (by omega)
      have z3 : ∀ i, wr.frozen? ⟨p + 3, i, none⟩ = false := hE.pk.a_code.thaw
      have z4 : ∀ i, wr.frozen? ⟨p + 4, i, none⟩ = false := hE.pk.a_wide.thaw
      simp only [mkN] at cc cx cy
      have hc6 := HCB.out k (by omega)
      have hp := H1.out k hk
      have hpass := hF.pass (k := k)
      have hstep := hF.step (k := k)
      have e1 : codeOf la lb k = code la k := by unfold codeOf; rw [if_pos hk]
      have e2 : wideOf la lb k = len la k := by unfold wideOf; rw [if_pos hk]
      rw [e1, e2] at hstep
      obtain ⟨n, hn⟩ : ∃ n, n = R.count k := ⟨_, rfl⟩
      rw [← hn] at cc hc6 hp hpass
      have hni : (n : Int) ≤ 600 := by omega
      by_cases hn0 : 0 < n
      · have hn0i : (0 : Int) < n := by omega
        have hcl := hE.codeA HA.out (hp hn0)
        have h10 := code10 HA.out.ok k
        obtain ⟨cv, hcv⟩ : ∃ z, z = code la k := ⟨_, rfl⟩
        obtain ⟨lv, hlv⟩ : ∃ z, z = len la k := ⟨_, rfl⟩
        rw [← hcv, ← hlv] at hcl hstep h10
        have hcvi : (cv : Int) < 1024 := by omega
        have hlvi : (lv : Int) ≤ 10 := by omega
        have HCL := hid hcl
        have HST := hid hstep
        clear hE hF hf hg hn hp hpass hstep hcl h10 hcv hlv e1 e2 hc6 hn0
        go_wp2_with (go_at_call 157; refine HCL.out.mono ?_; rintro e w7 ⟨rfl, q, hw⟩; have hw2 := hw; subst hw2; clear hw)
        go_roundg (gk - 1)
        case measure => have := HG.out; omega
        case rel =>
          have h9 := HE.out.drewN (n := q) |>.two k cv lv
          exact ⟨k + 1, _, _, by simp, by have := HG.out; omega, h9.1, HST.out, HF.out.drewN.trans h9.2⟩
      · have hn0i : ¬ (0 : Int) < n := by omega
        have HPS := hid (hpass hn0)
        clear hE hF hf hg hn hp hpass hstep e1 e2 hc6 hn0
        go_wp2_with fail
        go_roundg (gk - 1)
        case measure => have := HG.out; omega
        case rel => exact ⟨k + 1, _, _, by simp, by have := HG.out; omega, HE.out, HPS.out, HF.out⟩
    · have hki : ¬ (k : Int) < 265 := by omega
      have hk2 : k = 265 := by omega
      subst hk2
      clear hE hF hf hg hk hki
      go_wp2_with fail
      go_loopg [6] 8 (fun g i wr => ∃ (k : Nat) (fc fw : Nat → Nat), i = .int .i64 (k : Nat) ∧ g + k = 8 ∧ Enc wr t a b z p T RA RB RZ { R with code := fc, wide := fw } ∧ Fetched la lb R.count fc fw (265 + k) ∧ Fr (Rng t (p + 5)) w wr)
      case atStart => exact ⟨0, fc, fw, rfl, by omega, HE.out, HFE.out, HF.out⟩
      case round =>
        clear HE HFE HF HG
        obtain ⟨k, fc, fw, rfl, hg, hE, hF, hf⟩ := hrel
        have HG := hid hg
        have HE := hid hE
        have HFE := hid hF
        have HF := hid hf
        by_cases hk : k < 8
        · have hki : (k : Int) < 8 := by omega
          have c0 := hE.pk.p_count
          have c1 := hE.ptrB
          have c2 := hE.pk.p_code
          have c3 := hE.pk.p_wide
          have cc := hE.pk.a_count.cell (265 + k) (by omega)
          have cx := hE.pk.a_code.cell (265 + k) (by omega)
          have cy := hE.pk.a_wide.cell (265 + k) (by omega)
          have z3 : ∀ i, wr.frozen? ⟨p + 3, i, none⟩ = false := hE.pk.a_code.thaw
          have z4 : ∀ i, wr.frozen? ⟨p + 4, i, none⟩ = false := hE.pk.a_wide.thaw
          simp only [mkN] at cc cx cy
          have hc6 := HCB.out (265 + k) (by omega)
          have hp := H2.out k hk
          have hpass := hF.pass (k := 265 + k)
          have hstep := hF.step (k := 265 + k)
          have e1 : codeOf la lb (265 + k) = code lb k := by unfold codeOf; rw [if_neg (by omega), Nat.add_sub_cancel_left]
          have e2 : wideOf la lb (265 + k) = len lb k := by unfold wideOf; rw [if_neg (by omega), Nat.add_sub_cancel_left]
          rw [e1, e2] at hstep
          obtain ⟨n, hn⟩ : ∃ n, n = R.count (265 + k) := ⟨_, rfl⟩
          rw [← hn] at cc hc6 hp hpass
          have hni : (n : Int) ≤ 600 := by omega
          by_cases hn0 : 0 < n
          · have hn0i : (0 : Int) < n := by omega
            have hcl := hE.codeB HB.out (hp hn0)
            have h10 := code10 HB.out.ok k
            obtain ⟨cv, hcv⟩ : ∃ z, z = code lb k := ⟨_, rfl⟩
            obtain ⟨lv, hlv⟩ : ∃ z, z = len lb k := ⟨_, rfl⟩
            rw [← hcv, ← hlv] at hcl hstep h10
            have hcvi : (cv : Int) < 1024 := by omega
            have hlvi : (lv : Int) ≤ 10 := by omega
            have HCL := hid hcl
            have HST := hid hstep
            clear hE hF hf hg hn hp hpass hstep hcl h10 hcv hlv e1 e2 hc6 hn0
            go_wp2_with (go_at_call 157; refine HCL.out.mono ?_; rintro e w7 ⟨rfl, q, hw⟩; have hw2 := hw; subst hw2; clear hw)
            go_roundg (gk - 1)
            case measure => have := HG.out; omega
            case rel =>
              have h9 := HE.out.drewN (n := q) |>.two (265 + k) cv lv
              exact ⟨k + 1, _, _, by simp, by have := HG.out; omega, h9.1, HST.out, HF.out.drewN.trans h9.2⟩
          · have hn0i : ¬ (0 : Int) < n := by omega
            have HPS := hid (hpass hn0)
            clear hE hF hf hg hn hp hpass hstep e1 e2 hc6 hn0
            go_wp2_with fail
            go_roundg (gk - 1)
            case measure => have := HG.out; omega
            case rel => exact ⟨k + 1, _, _, by simp, by have := HG.out; omega, HE.out, HPS.out, HF.out⟩
        · have hki : ¬ (k : Int) < 8 := by omega
          have hk2 : k = 8 := by omega
          subst hk2
          clear hE hF hf hg hk
          go_wp2_with fail
          go_end0
          exact hK.out _ _ ⟨rfl, ⟨fc, fw, HE.out, HFE.out⟩, HF.out⟩
end Go.Proofs.Qxb6500353aGreat
