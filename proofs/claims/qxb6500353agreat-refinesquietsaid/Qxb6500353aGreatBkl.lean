/- The encoder's list machine: item, run, drain, list, walked (once for counting and for laying). -/
import Derived.Test.Qxb6500353aGreatApi
import Derived.Test.Qxb6500353aGreatHpw
import Derived.Deep.DeepCutAuto
import Derived.Deep.Cut
namespace Go.Proofs.Qxb6500353aGreat
open Go.RowKit
set_option linter.unusedVariables false
set_option linter.unusedSimpArgs false

/-- What 'item' does, said for both ways: P w its: behind the items its. Fit its: they have room. -/
structure LayP (b : Nat) (R : PkR) (lay : Bool) (P : World → List Item → Prop) (Fit : List Item → Prop) : Prop where
  pk : ∀ w its, P w its → PkAt w b R
  item : ∀ w its it, P w its → Fit (its ++ [it]) → it.x < 16 → it.v < 2 ^ it.more → it.more ≤ 7 → (it.more = 0 → it.v = 0) →
    Calls Tryz.prog 153 #[ptrV b, .int .i64 it.x, .int .i64 it.v, .int .i64 it.more, .bool lay] w fun e w' => e = .returned (.int .i64 ((4 + it.more : Nat) : Int)) ∧ P w' (its ++ [it])
  pre : ∀ a b, Fit (a ++ b) → Fit a

theorem itemBits_app (a b : List Item) : itemBits (a ++ b) = itemBits a + itemBits b := by simp [itemBits]
set_option maxRecDepth 100000 in
theorem run_any {b : Nat} {R : PkR} {lay : Bool} {P : World → List Item → Prop} {Fit : List Item → Prop} (L : LayP b R lay P Fit) {w : World} {its : List Item} (h : P w its) {prev held : Nat} (h3 : 3 ≤ held) (h0 : prev = 0 → held ≤ 130) (h1 : prev ≠ 0 → held ≤ 6) (hf : Fit (its ++ [runIt prev held])) :
    Calls Tryz.prog 154 #[ptrV b, .int .i64 prev, .int .i64 held, .bool lay] w fun e w' => e = .returned (.int .i64 (itemBits [runIt prev held] : Nat)) ∧ P w' (its ++ [runIt prev held]) := by
  have h3i : (3 : Int) ≤ held := by omega
  have e3 : (held : Int) - 3 = ((held - 3 : Nat) : Int) := by omega
  have hh : held ≤ 130 := by by_cases e : prev = 0; exact h0 e; have := h1 e; omega
  have hhi : (held : Int) ≤ 130 := by omega
  by_cases e : prev = 0
  · subst e
    have hr : runIt 0 held = ⟨11, held - 3, 7⟩ := rfl
    rw [hr] at hf ⊢
    have hI := L.item w its ⟨11, held - 3, 7⟩ h hf (by simp) (by show held - 3 < 2 ^ 7; have := h0 rfl; simp; omega) (by simp) (by simp)
    unfold ptrV at hI
    rw [← e3] at hI
    have HI := hid hI
    clear h hf hI e3 h0 h1 hh h3 hr
    refine calls_via fun K hK => ?_
    unfold ptrV
    go_enter Tryz.func154, Tryz.ntmps154
    go_wp2_with (go_at_call 153; refine HI.out.mono ?_; rintro e w2 ⟨rfl, h2⟩; have H2 := hid h2; clear h2)
    exact hK.out _ _ ⟨rfl, H2.out⟩
  · have hr : runIt prev held = ⟨12, held - 3, 2⟩ := by unfold runIt; rw [if_neg e]
    rw [hr] at hf ⊢
    have ei : ((prev : Int) == 0) = false := by simp; omega
    have hI := L.item w its ⟨12, held - 3, 2⟩ h hf (by simp) (by show held - 3 < 2 ^ 2; have := h1 e; simp; omega) (by simp) (by simp)
    unfold ptrV at hI
    rw [← e3] at hI
    have HI := hid hI
    clear h hf hI e3 h0 h1 hh h3 hr e
    refine calls_via fun K hK => ?_
    unfold ptrV
    go_enter Tryz.func154, Tryz.ntmps154
    go_wp2_with (go_at_call 153; refine HI.out.mono ?_; rintro e w2 ⟨rfl, h2⟩; have H2 := hid h2; clear h2)
    exact hK.out _ _ ⟨rfl, H2.out⟩
theorem rep_add {α : Type} (n m : Nat) (a : α) : List.replicate (n + m) a = List.replicate n a ++ List.replicate m a := (List.replicate_append_replicate ..).symm
theorem itemBits_rep (n x : Nat) : itemBits (List.replicate n ⟨x, 0, 0⟩) = 4 * n := by
  induction n with
  | zero => rfl
  | succ n ih => rw [List.replicate_succ]; simp only [itemBits, List.map_cons, List.sum_cons] at *; rw [ih]; omega
set_option maxRecDepth 100000 in
set_option maxHeartbeats 1000000 in
/-- prev: -1 (held is 0) or a length. -/
theorem drain_any {b : Nat} {R : PkR} {lay : Bool} {P : World → List Item → Prop} {Fit : List Item → Prop} (L : LayP b R lay P Fit) {w : World} {its : List Item} (h : P w its) {pv : Int} {prev held : Nat} (hpv : pv = prev ∨ held = 0) (hpl : -1 ≤ pv) (hpu : pv ≤ 100) (hp : prev ≤ 10) (h0 : prev = 0 → held < 130) (h1 : prev ≠ 0 → held < 6) (hf : Fit (its ++ drainIt prev held)) :
    Calls Tryz.prog 152 #[ptrV b, .int .i64 pv, .int .i64 held, .bool lay] w fun e w' => e = .returned (.int .i64 (itemBits (drainIt prev held) : Nat)) ∧ P w' (its ++ drainIt prev held) := by
  by_cases h3 : 3 ≤ held
  · have hd : drainIt prev held = [runIt prev held] := by unfold drainIt; rw [if_pos h3]
    rw [hd] at hf ⊢
    obtain rfl : pv = prev := by rcases hpv with h | h; exact h; omega
    have hR := run_any L h h3 (fun e => by have := h0 e; omega) (fun e => by have := h1 e; omega) hf
    unfold ptrV at hR
    have HR := hid hR
    have h3i : (3 : Int) ≤ held := by omega
    clear h hf hR h0 h1 h3 hd hpv hp
    refine calls_via fun K hK => ?_
    unfold ptrV
    go_enter Tryz.func152, Tryz.ntmps152
    go_wp2_with (go_at_call 154; refine HR.out.mono ?_; rintro e w2 ⟨rfl, h2⟩; have H2 := hid h2; clear h2)
    exact hK.out _ _ ⟨rfl, H2.out⟩
  · have hd : drainIt prev held = List.replicate held ⟨prev, 0, 0⟩ := by unfold drainIt; rw [if_neg h3]
    rw [hd] at hf ⊢
    have h3i : ¬ (3 : Int) ≤ held := by omega
    have h3u : (held : Int) ≤ 2 := by omega
    have HL := hid L
    have H := hid h
    have HF := hid hf
    have HPV := hid hpv
    have HP := hid hp
    clear h hf L h0 h1 h3 hd hpv hp
    refine calls_via fun K hK => ?_
    unfold ptrV
    go_enter Tryz.func152, Tryz.ntmps152
    go_wp2_with fail
    go_loopg [9, 10] held (fun g sv v wr => ∃ (k : Nat), v = .int .i64 (k : Nat) ∧ g + k = held ∧ sv = .int .i64 ((4 * k : Nat) : Int) ∧ P wr (its ++ List.replicate k ⟨prev, 0, 0⟩))
    case atStart => exact ⟨0, rfl, by omega, rfl, by simpa using H.out⟩
    case round =>
      obtain ⟨k, rfl, hg, rfl, hA⟩ := hrel
      have HG := hid hg
      obtain ⟨sm, hsm⟩ : ∃ s, s = 4 * k := ⟨_, rfl⟩
      have HSM := hid hsm
      rw [← hsm]
      have hsmi : (sm : Int) ≤ 8 := by omega
      by_cases hk : k < held
      · have hki : (k : Int) < held := by omega
        obtain rfl : pv = prev := by rcases HPV.out with h | h; exact h; omega
        have hfk : Fit ((its ++ List.replicate k ⟨prev, 0, 0⟩) ++ [⟨prev, 0, 0⟩]) := by
          have h5 := HF.out
          rw [show held = (k + 1) + (held - (k + 1)) by omega, rep_add, ← List.append_assoc] at h5
          have h6 := HL.out.pre _ _ h5
          rw [rep_add, ← List.append_assoc] at h6
          exact h6
        have hI := HL.out.item wr _ ⟨prev, 0, 0⟩ hA hfk (by have := HP.out; show prev < 16; omega) (by simp) (by simp) (by simp)
        unfold ptrV at hI
        have HI := hid hI
        clear hI hfk hA hg hsm
        go_wp2_with (go_at_call 153; refine HI.out.mono ?_; rintro e w2 ⟨rfl, h2⟩; have H2 := hid h2; clear h2)
        go_roundg (gk - 1)
        case measure => have := HG.out; omega
        case rel =>
          refine ⟨k + 1, by simp, by have := HG.out; omega, by congr 1; have := HSM.out; omega, ?_⟩
          rw [rep_add, ← List.append_assoc]
          exact H2.out
      · have hki : ¬ (k : Int) < held := by omega
        have hk2 : k = held := by omega
        subst hk2
        have HA := hid hA
        clear hA hg hsm
        go_wp2_with fail
        exact hK.out _ _ ⟨by rw [HSM.out, itemBits_rep], HA.out⟩

theorem fit_mid {b : Nat} {R : PkR} {lay : Bool} {P : World → List Item → Prop} {Fit : List Item → Prop} (L : LayP b R lay P Fit) {a m c r : List Item} (h : Fit c) (e : a ++ (m ++ r) = c) : Fit (a ++ m) := by
  refine L.pre (a ++ m) r ?_
  rw [List.append_assoc, e]; exact h
/-- The list machine's state: pv is -1 ahead of the first length. -/
structure LsS (l : List Nat) (i : Nat) (pv : Int) (held : Nat) (its : List Item) : Prop where
  h0 : i = 0 → pv = -1 ∧ held = 0 ∧ its = []
  h1 : 0 < i → ∃ prev : Nat, pv = prev ∧ MacOK l i prev held ∧ its ++ itP l (i - held) = itP l 0
set_option maxRecDepth 100000 in
set_option maxHeartbeats 4000000 in
theorem list_any {b : Nat} {R : PkR} {lay : Bool} {P : World → List Item → Prop} {Fit : List Item → Prop} (L : LayP b R lay P Fit) {w : World} (h : P w []) {l : List Nat} (hl : l.length = 273) (hR : ∀ i, i < 273 → R.plan i = len l i) (hl10 : ∀ i, len l i ≤ 10) (hf : Fit (itP l 0)) (hb : itemBits (itP l 0) ≤ 100000) :
    Calls Tryz.prog 121 #[ptrV b, .bool lay] w fun e w' => e = .returned (.int .i64 (itemBits (itP l 0) : Nat)) ∧ P w' (itP l 0) := by
  have HL := hid L
  have H := hid h
  have HF := hid hf
  have HLN := hid hl
  have HRP := hid hR
  have H10 := hid hl10
  have HB := hid hb
  clear h hf L hl hR hl10 hb
  refine calls_via fun K hK => ?_
  unfold ptrV
  go_enter Tryz.func121, Tryz.ntmps121
  go_wp2_with fail
  go_loopg [5, 6, 7, 8] 273 (fun g pvv hv sv v wr => ∃ (k held : Nat) (pv : Int) (its : List Item), v = .int .i64 (k : Nat) ∧ g + k = 273 ∧ pvv = .int .i64 pv ∧ hv = .int .i64 (held : Nat) ∧ sv = .int .i64 (itemBits its : Nat) ∧ LsS l k pv held its ∧ P wr its)
  case atStart => exact ⟨0, 0, -1, [], rfl, by omega, rfl, rfl, rfl, ⟨fun _ => ⟨rfl, rfl, rfl⟩, fun h => by omega⟩, H.out⟩
  case round =>
    obtain ⟨k, held, pv, its, rfl, hg, rfl, rfl, rfl, hS, hP⟩ := hrel
    have HG := hid hg
    have hpk := HL.out.pk _ _ hP
    -- bounds
    have hpv : -1 ≤ pv ∧ pv ≤ 10 ∧ held ≤ 130 := by
      by_cases e : k = 0
      · obtain ⟨h1, h2, _⟩ := hS.h0 e; omega
      · obtain ⟨prev, h1, h2, _⟩ := hS.h1 (by omega)
        have := H10.out (k - 1)
        rw [h2.last] at this
        have h3 := h2.zero; have h4 := h2.more
        by_cases e0 : prev = 0
        · have := h3 e0; omega
        · have := (h4 e0).1; omega
    have hpl : -1 ≤ pv := hpv.1
    have hpu : pv ≤ 10 := hpv.2.1
    have hhu : (held : Int) ≤ 130 := by omega
    have hitb : itemBits its ≤ 100000 := by
      by_cases e : k = 0
      · obtain ⟨_, _, h1⟩ := hS.h0 e; rw [h1]; simp [itemBits]
      · obtain ⟨_, _, _, h1⟩ := hS.h1 (by omega)
        have := HB.out; rw [← h1, itemBits_app] at this; omega
    obtain ⟨sm, hsm⟩ : ∃ s, s = itemBits its := ⟨_, rfl⟩
    rw [← hsm] at hitb ⊢
    have hsmi : (sm : Int) ≤ 100000 := by omega
    have HSM := hid hsm
    have HS := hid hS
    have HP := hid hP
    have HPV := hid hpv
    by_cases hk : k < 273
    · have hki : (k : Int) < 273 := by omega
      have c1 := hpk.p_plan
      have c2 := hpk.a_plan.cell k hk
      simp only [mkN] at c2
      rw [HRP.out k hk] at c2
      have hx10 := H10.out k
      obtain ⟨x, hx⟩ : ∃ x, x = len l k := ⟨_, rfl⟩
      rw [← hx] at c2 hx10
      have hxi : (x : Int) ≤ 10 := by omega
      have HX := hid hx
      have HK := hid hk
      by_cases hne : (x : Int) = pv
      · -- the same length again
        obtain rfl : pv = (x : Int) := hne.symm
        have hk0 : 0 < k := by
          refine Nat.pos_of_ne_zero fun e => ?_
          have := (hS.h0 e).1; omega
        obtain ⟨prev, e1, hM, hIt⟩ := hS.h1 hk0
        obtain rfl : x = prev := by omega
        have hsame := mac_same hM (by rw [HLN.out]; exact hk) hx.symm
        have HSAME := hid hsame
        have HIT := hid hIt
        have hcond : ((x = 0 ∧ held + 1 = 130) ∨ (x ≠ 0 ∧ held + 1 = 6)) ∨ ¬ ((x = 0 ∧ held + 1 = 130) ∨ (x ≠ 0 ∧ held + 1 = 6)) := Classical.em _
        rcases hcond with hc | hc
        · rw [if_pos hc] at hsame
          have hfit := fit_mid HL.out (a := its) (m := [runIt x (held + 1)]) (r := itP l (k + 1)) HF.out (by rw [List.singleton_append, hsame.2]; exact hIt)
          have hRun := run_any HL.out hP (prev := x) (held := held + 1) (by omega) (by omega) (by omega) hfit
          have hnb : itemBits (its ++ [runIt x (held + 1)]) ≤ 100000 := by
            have := HB.out
            rw [← hIt, ← hsame.2, ← List.singleton_append (l := itP l (k + 1)), ← List.append_assoc, itemBits_app] at this
            omega
          have HNB := hid hnb
          rw [itemBits_app, ← hsm] at hnb
          obtain ⟨r1, hr1⟩ : ∃ r, r = itemBits [runIt x (held + 1)] := ⟨_, rfl⟩
          rw [← hr1] at hRun hnb
          have hri : (sm : Int) + r1 ≤ 100000 := by omega
          have HR1 := hid hr1
          unfold ptrV at hRun
          rw [Int.natCast_add] at hRun
          have HRN := hid hRun
          have HMN := hid hsame
          clear hS hP hg hpk hpv hitb hsm hx hk hM hIt hsame hfit hRun hnb hr1 hk0 e1
          have T : ∀ (Q : Prop), (x = 0 ∧ held + 1 = 130 → Q) → (x ≠ 0 ∧ held + 1 = 6 → Q) → Q := fun Q a c => hc.elim a c
          have HC := hid hc
          clear hc
          rcases HC.out with ⟨hx0, hh⟩ | ⟨hx0, hh⟩
          · subst hx0
            obtain rfl : held = 129 := by omega
            clear T
            go_wp2_with (go_at_call 154; refine HRN.out.mono ?_; rintro e w2 ⟨rfl, h2⟩; have H2 := hid h2; clear h2)
            go_roundg (gk - 1)
            case measure => have := HG.out; omega
            case rel =>
              refine ⟨k + 1, 0, 0, _, by simp, by have := HG.out; omega, rfl, rfl, ?_, ⟨fun h => by omega, fun _ => ⟨0, rfl, HMN.out.1, ?_⟩⟩, H2.out⟩
              · rw [itemBits_app, ← HSM.out, ← HR1.out]; simp
              · rw [List.append_assoc, List.singleton_append]
                have h8 := HMN.out.2
                rw [Nat.sub_zero, h8]; exact HIT.out
          · have hx0i : ((x : Int) == 0) = false := by simp; omega
            obtain rfl : held = 5 := by omega
            clear T
            go_wp2_with (go_at_call 154; refine HRN.out.mono ?_; rintro e w2 ⟨rfl, h2⟩; have H2 := hid h2; clear h2)
            go_roundg (gk - 1)
            case measure => have := HG.out; omega
            case rel =>
              refine ⟨k + 1, 0, x, _, by simp, by have := HG.out; omega, rfl, rfl, ?_, ⟨fun h => by omega, fun _ => ⟨x, rfl, HMN.out.1, ?_⟩⟩, H2.out⟩
              · rw [itemBits_app, ← HSM.out, ← HR1.out]; simp
              · rw [List.append_assoc, List.singleton_append]
                have h8 := HMN.out.2
                rw [Nat.sub_zero, h8]; exact HIT.out
        · rw [if_neg hc] at hsame
          have HMN := hid hsame
          have HC := hid hc
          clear hS hg hpk hpv hitb hsm hx hk hM hIt hsame hk0 e1 hc hP
          have hrel2 : ∀ wr2, wr2 = wr → ∃ (k2 held2 : Nat) (pv2 : Int) (its2 : List Item), (Value.int .i64 ((k : Int) + 1)) = .int .i64 (k2 : Nat) ∧ gk - 1 + k2 = 273 ∧ (Value.int .i64 (x : Int)) = .int .i64 pv2 ∧ (Value.int .i64 ((held : Int) + 1)) = .int .i64 (held2 : Nat) ∧ (Value.int .i64 (sm : Int)) = .int .i64 (itemBits its2 : Nat) ∧ LsS l k2 pv2 held2 its2 ∧ P wr2 its2 := by
            rintro wr2 rfl
            refine ⟨k + 1, held + 1, x, its, by simp, by have := HG.out; have := HK.out; omega, rfl, by simp, by rw [HSM.out], ⟨fun h => by omega, fun _ => ⟨x, rfl, HMN.out.1, ?_⟩⟩, HP.out⟩
            rw [HMN.out.2]; exact HIT.out
          have HREL := hid hrel2
          clear hrel2
          by_cases hx0 : x = 0
          · subst hx0
            have h130 : ((held : Int) + 1 == 130) = false := by have := HC.out; simp; omega
            go_wp2_with fail
            go_roundg (gk - 1)
            case measure => have := HG.out; have := HK.out; omega
            case rel => exact HREL.out _ rfl
          · have hx0i : ((x : Int) == 0) = false := by simp; omega
            have h6 : ((held : Int) + 1 == 6) = false := by have := HC.out; simp; omega
            go_wp2_with fail
            go_roundg (gk - 1)
            case measure => have := HG.out; have := HK.out; omega
            case rel => exact HREL.out _ rfl
      · -- a new length
        have hnei : ((x : Int) == pv) = false := by simp [hne]
        have hne2 : ((x : Int) != pv) = true := by simp [hne]
        -- what is drained, and what stands behind it
        have hD : ∃ prev : Nat, (pv = prev ∨ held = 0) ∧ prev ≤ 10 ∧ (prev = 0 → held < 130) ∧ (prev ≠ 0 → held < 6) ∧ MacOK l (k + 1) x (if x = 0 then 1 else 0) ∧
            its ++ (drainIt prev held ++ ((if x = 0 then [] else [(⟨x, 0, 0⟩ : Item)]) ++ itP l (k + 1 - if x = 0 then 1 else 0))) = itP l 0 := by
          by_cases e : k = 0
          · obtain ⟨h1, h2, h3⟩ := hS.h0 e
            subst e
            have hm := mac_first l (by rw [HLN.out]; omega)
            rw [← hx] at hm
            refine ⟨0, .inr h2, by omega, by omega, by omega, hm.1, ?_⟩
            rw [h2, h3]; exact hm.2
          · obtain ⟨prev, h1, h2, h3⟩ := hS.h1 (by omega)
            have hm := mac_new h2 (by rw [HLN.out]; exact hk) (by rw [← hx]; omega)
            rw [← hx] at hm
            refine ⟨prev, .inl h1, by omega, h2.zero, fun h0 => (h2.more h0).1, hm.1, ?_⟩
            have h9 := hm.2
            rw [List.append_assoc] at h9
            rw [h9]; exact h3
        obtain ⟨prev, d1, d2, d3, d4, d5, d6⟩ := hD
        have hDr := drain_any HL.out hP d1 hpl (by omega) d2 d3 d4 (fit_mid HL.out (a := its) (m := drainIt prev held) HF.out d6)
        have hbb := HB.out
        rw [← d6, itemBits_app, itemBits_app, itemBits_app, ← hsm] at hbb
        obtain ⟨dr, hdr⟩ : ∃ z, z = itemBits (drainIt prev held) := ⟨_, rfl⟩
        rw [← hdr] at hDr hbb
        have hdri : (sm : Int) + dr ≤ 100000 := by omega
        have HD5 := hid d5
        have HD6 := hid d6
        have HDR := hid hdr
        unfold ptrV at hDr
        have HDN := hid hDr
        by_cases hx0 : x = 0
        · subst hx0
          clear hS hg hpk hpv hitb hsm hx hk hP d1 d2 d3 d4 d5 d6 hDr hbb hdr hne
          go_wp2_with (go_at_call 152; refine HDN.out.mono ?_; rintro e w2 ⟨rfl, h2⟩; have H2 := hid h2; clear h2)
          go_roundg (gk - 1)
          case measure => have := HG.out; have := HK.out; omega
          case rel =>
            refine ⟨k + 1, 1, 0, _, by simp, by have := HG.out; have := HK.out; omega, rfl, rfl, ?_, ⟨fun h => by omega, fun _ => ⟨0, rfl, HD5.out, ?_⟩⟩, H2.out⟩
            · rw [itemBits_app, ← HSM.out, ← HDR.out]; simp
            · rw [List.append_assoc]; exact HD6.out
        · have hx0i : ((x : Int) == 0) = false := by simp; omega
          have e1 : (if x = 0 then ([] : List Item) else [⟨x, 0, 0⟩]) = [⟨x, 0, 0⟩] := by rw [if_neg hx0]
          have e2 : (if x = 0 then 1 else 0) = 0 := by rw [if_neg hx0]
          rw [e1] at hbb
          have hb1 : itemBits [(⟨x, 0, 0⟩ : Item)] = 4 := rfl
          rw [hb1] at hbb
          have hdri2 : (sm : Int) + dr + 4 ≤ 100000 := by omega
          have d7 := d6
          rw [e1, ← List.append_assoc] at d7
          have hfit2 := fit_mid HL.out (a := its ++ drainIt prev held) (m := [⟨x, 0, 0⟩]) HF.out d7
          have HIT := hid (fun w2 (h2 : P w2 (its ++ drainIt prev held)) => HL.out.item w2 _ ⟨x, 0, 0⟩ h2 hfit2 (by show x < 16; omega) (by simp) (by simp) (by simp))
          have HX0 := hid hx0
          clear hS hg hpk hpv hitb hsm hx hk hP d1 d2 d3 d4 d5 d6 hDr hbb hdr hne e1 e2 hb1 d7 hfit2 hx0
          go_wp2_with (first
            | (go_at_call 152; refine HDN.out.mono ?_; rintro e w2 ⟨rfl, h2⟩; have H2 := hid h2; have hI := HIT.out w2 h2; unfold ptrV at hI; have HI := hid hI; clear h2 hI)
            | (go_at_call 153; refine HI.out.mono ?_; rintro e w3 ⟨rfl, h3⟩; have H3 := hid h3; clear h3))
          go_roundg (gk - 1)
          case measure => have := HG.out; have := HK.out; omega
          case rel =>
            have h5 := HD5.out
            have h6 := HD6.out
            rw [if_neg HX0.out] at h5
            rw [if_neg HX0.out, if_neg HX0.out] at h6
            refine ⟨k + 1, 0, x, _, by simp, by have := HG.out; have := HK.out; omega, rfl, rfl, ?_, ⟨fun h => by omega, fun _ => ⟨x, rfl, h5, ?_⟩⟩, H3.out⟩
            · rw [itemBits_app, itemBits_app, ← HSM.out, ← HDR.out]; simp [itemBits]
            · rw [List.append_assoc, List.append_assoc]; exact h6
    · -- the end
      have hki : ¬ (k : Int) < 273 := by omega
      have hk2 : k = 273 := by omega
      subst hk2
      obtain ⟨prev, e1, hM, hIt⟩ := hS.h1 (by omega)
      have hdn := mac_drain hM (.inl HLN.out.symm)
      have hend : itP l 273 = [] := itP_end l 273 (by rw [HLN.out]; omega)
      rw [hend, List.append_nil] at hdn
      have hall : its ++ drainIt prev held = itP l 0 := by rw [hdn]; exact hIt
      have hDr := drain_any HL.out hP (.inl e1) hpl (by omega) (by omega) hM.zero (fun h0 => (hM.more h0).1) (by rw [hall]; exact HF.out)
      have hbb := HB.out
      rw [← hall, itemBits_app, ← hsm] at hbb
      obtain ⟨dr, hdr⟩ : ∃ z, z = itemBits (drainIt prev held) := ⟨_, rfl⟩
      rw [← hdr] at hDr hbb
      rw [hall] at hDr
      have hdri : (sm : Int) + dr ≤ 100000 := by omega
      have hfin : itemBits (itP l 0) = sm + dr := by rw [← hall, itemBits_app, ← hsm, ← hdr]
      have HFI := hid hfin
      unfold ptrV at hDr
      have HDN := hid hDr
      clear hS hg hpk hpv hitb hsm hk hP hM hIt hdn hend hall hDr hbb hdr e1 hfin
      go_wp2_with (go_at_call 152; refine HDN.out.mono ?_; rintro e w2 ⟨rfl, h2⟩; have H2 := hid h2; clear h2)
      exact hK.out _ _ ⟨by rw [HFI.out]; simp, H2.out⟩
end Go.Proofs.Qxb6500353aGreat
