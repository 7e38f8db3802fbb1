/- THE WALKS over learn: the small ones. -/
import Derived.Test.Qxb6500354aGreatDrain
import Derived.Deep.RegionWith
namespace Go.Proofs.Qxb6500354aGreat
open Go.RowKit
set_option linter.unusedVariables false
set_option linter.unusedSimpArgs false

theorem and15 {v : Nat} (h : v < 16) : bits .and .i64 (v : Int) 15 = (v : Int) := by
  have := (by decide : ∀ k : Fin 16, bits .and .i64 ((k.val : Nat) : Int) 15 = ((k.val : Nat) : Int)) ⟨v, h⟩
  exact this
theorem lbit_any (v : Nat) (h : v < 16) (w : World) : Calls Tryz.prog 143 #[.int .i64 v] w fun e w' => e = .returned (.int .u16 (pw v : Nat)) ∧ w' = w := by
  have h15 := and15 h
  refine calls_via fun K hK => ?_
  go_enter Tryz.func143, Tryz.ntmps143
  go_wp2
  exact hK.out _ _ ⟨ret_int (shl16 h), rfl⟩

structure LrnOK (A : LearnS) : Prop where
  seen : A.seen < 2 ^ 16
  pos : A.pos < 2 ^ 16
  neg : A.neg < 2 ^ 16
def LrnR (tb wb : Nat) (A : LearnS) : LearnR := { t := .pointer (some ⟨tb, 0, none⟩), wp := .pointer (some ⟨wb, 0, none⟩), seen := A.seen, pos := A.pos, neg := A.neg, opn := A.opn, lv := A.lv }
def LrnAt (w : World) (b tb wb : Nat) (A : LearnS) : Prop := LearnAt w b (LrnR tb wb A) ∧ LrnOK A
theorem LrnAt.drewN {w : World} {b tb wb n : Nat} {A : LearnS} (h : LrnAt w b tb wb A) : LrnAt (w.drewN n) b tb wb A := ⟨h.1.drewN, h.2⟩
theorem LrnAt.drew {w : World} {b tb wb : Nat} {A : LearnS} (h : LrnAt w b tb wb A) : LrnAt w.drew b tb wb A := ⟨h.1.drew, h.2⟩
theorem LrnAt.alloc {w : World} {b tb wb : Nat} {A : LearnS} (h : LrnAt w b tb wb A) (o : Obj) : LrnAt (w.alloc o) b tb wb A := ⟨h.1.alloc o, h.2⟩
theorem LrnAt.other {w : World} {b tb wb : Nat} {A : LearnS} (h : LrnAt w b tb wb A) {a : Addr} (hne : b ≠ a.block) (v : Value) : LrnAt (w.setCell a v) b tb wb A := ⟨h.1.other hne v, h.2⟩
theorem LrnAt.fr {S : List Nat} {w w2 : World} {b tb wb : Nat} {A : LearnS} (h : LrnAt w b tb wb A) (hf : Fr S w w2) (hn : b ∉ S) : LrnAt w2 b tb wb A := ⟨h.1.fr hf hn, h.2⟩
theorem LrnAt.lt {w : World} {b tb wb : Nat} {A : LearnS} (h : LrnAt w b tb wb A) : b < w.heap.size := h.1.lt

theorem wipe_any {w : World} {b tb wb : Nat} {A : LearnS} (h : LrnAt w b tb wb A) :
    Calls Tryz.prog 124 #[.pointer (some ⟨b, 0, none⟩)] w fun e w' => e = .returned (.tuple #[]) ∧ LrnAt w' b tb wb .clean ∧ Fr [b] w w' := by
  have h1 := h.1.seen
  have h2 := h.1.pos
  have h3 := h.1.neg
  have h4 := h.1.opn
  have h5 := h.1.lv
  have h6 := h.1.froz
  have HR := hid h.1
  clear h
  refine calls_via fun K hK => ?_
  go_enter Tryz.func124, Tryz.ntmps124
  go_wp2
  try go_end0
  have hR2 := ((((HR.out.set_seen 0).set_pos 0).set_neg 0).set_opn 0).set_lv 0
  refine hK.out _ _ ⟨rfl, ⟨hR2, by decide, by decide, by decide⟩, ?_⟩
  repeat (first | with_reducible exact Fr.refl _ _ | with_reducible refine Fr.set ?_ (by simp) _)

theorem ljoin_any {w : World} {b tb wb : Nat} {A : LearnS} (h : LrnAt w b tb wb A) (l : Int) (hl : good l = true) :
    Calls Tryz.prog 122 #[.pointer (some ⟨b, 0, none⟩), .int .i64 l] w fun e w' => e = .returned (.tuple #[]) ∧ LrnAt w' b tb wb (A.join l) ∧ Fr [b] w w' := by
  have hg := (good_iff _).1 hl
  have h6 := h.1.froz
  have hp := h.1.pos
  have hn := h.1.neg
  have bp := or16 h.2.pos (pow16 (show l.natAbs < 16 by omega))
  have bn := or16 h.2.neg (pow16 (show l.natAbs < 16 by omega))
  change bits .or .u16 (A.pos : Nat) (pw l.natAbs : Nat) = ((setB A.pos l.natAbs : Nat) : Int) at bp
  change bits .or .u16 (A.neg : Nat) (pw l.natAbs : Nat) = ((setB A.neg l.natAbs : Nat) : Int) at bn
  change w.cell? ⟨b, 3, none⟩ = some (.int .u16 (A.pos : Nat)) at hp
  change w.cell? ⟨b, 4, none⟩ = some (.int .u16 (A.neg : Nat)) at hn
  have HV := hid (fun w => var_any l w (by omega) (by omega))
  have HB := hid (fun w => lbit_any l.natAbs (by omega) w)
  have HR := hid h
  have H16 := hid (show l.natAbs < 16 by omega)
  by_cases hpos : 0 < l
  · have HE : Hid (A.join l = { A with pos := setB A.pos l.natAbs }) := by show _ = _; unfold LearnS.join; rw [if_pos hpos]
    clear h hg hl bn
    refine calls_via fun K hK => ?_
    go_enter Tryz.func122, Tryz.ntmps122
    go_wp2_with (go_at_call 89; refine (HV.out _).mono ?_; rintro e w' ⟨rfl, hw⟩; have hw2 := hw.symm; subst hw2; clear hw)
    go_region_with (go_at_call 143; refine (HB.out _).mono ?_; rintro e w' ⟨rfl, hw⟩; have hw2 := hw.symm; subst hw2; clear hw)
    all_goals try go_end0
    all_goals exact hK.out _ _ ⟨rfl, by rw [HE.out]; exact ⟨(HR.out.1.set_pos (setB A.pos l.natAbs)).drew, HR.out.2.seen, setB_lt HR.out.2.pos H16.out, HR.out.2.neg⟩, ((Fr.refl _ _).set (by simp) _).drew⟩
  · have HE : Hid (A.join l = { A with neg := setB A.neg l.natAbs }) := by show _ = _; unfold LearnS.join; rw [if_neg hpos]
    clear h hg hl bp
    refine calls_via fun K hK => ?_
    go_enter Tryz.func122, Tryz.ntmps122
    go_wp2_with (go_at_call 89; refine (HV.out _).mono ?_; rintro e w' ⟨rfl, hw⟩; have hw2 := hw.symm; subst hw2; clear hw)
    go_region_with (go_at_call 143; refine (HB.out _).mono ?_; rintro e w' ⟨rfl, hw⟩; have hw2 := hw.symm; subst hw2; clear hw)
    all_goals try go_end0
    all_goals exact hK.out _ _ ⟨rfl, by rw [HE.out]; exact ⟨(HR.out.1.set_neg (setB A.neg l.natAbs)).drew, HR.out.2.seen, HR.out.2.pos, setB_lt HR.out.2.neg H16.out⟩, ((Fr.refl _ _).set (by simp) _).drew⟩

/-- the test of one bit, as the walk meets it -/
theorem bit16 {m v : Nat} (hm : m < 2 ^ 16) (hv : v < 16) : (bits .and .u16 (m : Nat) (pw v : Nat) != 0) = m.testBit v := by
  unfold pw
  rw [and16 hm (pow16 hv)]
  exact and_pow_ne m v
theorem holds_any {w : World} {b tb wb : Nat} {A : LearnS} (h : LrnAt w b tb wb A) (l : Int) (hl : good l = true) :
    Calls Tryz.prog 151 #[.pointer (some ⟨b, 0, none⟩), .int .i64 l] w fun e w' => e = .returned (.bool (A.holds l)) ∧ ∃ n, w' = w.drewN n := by
  have hg := (good_iff _).1 hl
  have hp := h.1.pos
  have hn := h.1.neg
  change w.cell? ⟨b, 3, none⟩ = some (.int .u16 (A.pos : Nat)) at hp
  change w.cell? ⟨b, 4, none⟩ = some (.int .u16 (A.neg : Nat)) at hn
  have tp := bit16 h.2.pos (show l.natAbs < 16 by omega)
  have tn := bit16 h.2.neg (show l.natAbs < 16 by omega)
  have HV := hid (fun w => var_any l w (by omega) (by omega))
  have HB := hid (fun w => lbit_any l.natAbs (by omega) w)
  by_cases hpos : 0 < l
  · have HE : Hid (A.holds l = A.pos.testBit l.natAbs) := by show _ = _; unfold LearnS.holds; rw [if_pos hpos]
    clear h hg hl
    refine calls_via fun K hK => ?_
    go_enter Tryz.func151, Tryz.ntmps151
    go_wp2_with (go_at_call 89; refine (HV.out _).mono ?_; rintro e w' ⟨rfl, hw⟩; have hw2 := hw.symm; subst hw2; clear hw)
    go_quiet ((go_at_call 143; exact Calls.quiet_of_same (HB.out _)))
    go_wp2_with fail
    exact hK.out _ _ ⟨by rw [HE.out]; rfl, _, rfl⟩
  · have HE : Hid (A.holds l = A.neg.testBit l.natAbs) := by show _ = _; unfold LearnS.holds; rw [if_neg hpos]
    clear h hg hl
    refine calls_via fun K hK => ?_
    go_enter Tryz.func151, Tryz.ntmps151
    go_wp2_with (go_at_call 89; refine (HV.out _).mono ?_; rintro e w' ⟨rfl, hw⟩; have hw2 := hw.symm; subst hw2; clear hw)
    go_quiet ((go_at_call 143; exact Calls.quiet_of_same (HB.out _)))
    go_wp2_with fail
    exact hK.out _ _ ⟨by rw [HE.out]; rfl, _, rfl⟩
theorem litOf_any {w : World} {b tb wb : Nat} {A : LearnS} (h : LrnAt w b tb wb A) (v : Nat) (hv : v < 13) :
    Calls Tryz.prog 145 #[.pointer (some ⟨b, 0, none⟩), .int .i64 v] w fun e w' => e = .returned (.int .i64 (A.litOf v)) ∧ w' = w := by
  have hp := h.1.pos
  have hn := h.1.neg
  change w.cell? ⟨b, 3, none⟩ = some (.int .u16 (A.pos : Nat)) at hp
  change w.cell? ⟨b, 4, none⟩ = some (.int .u16 (A.neg : Nat)) at hn
  have tp := bit16 h.2.pos (show v < 16 by omega)
  have tn := bit16 h.2.neg (show v < 16 by omega)
  have HB := hid (fun w => lbit_any v (by omega) w)
  have hvi : (v : Int) < 13 := by omega
  cases hbn : A.neg.testBit v with
  | true =>
    have HE : Hid (A.litOf v = -(v : Int)) := by show _ = _; unfold LearnS.litOf; rw [hbn, if_pos rfl]
    clear h
    rw [hbn] at tn
    clear hbn
    refine calls_via fun K hK => ?_
    go_enter Tryz.func145, Tryz.ntmps145
    go_wp2_with (go_at_call 143; refine (HB.out _).mono ?_; rintro e w' ⟨rfl, hw⟩; have hw2 := hw.symm; subst hw2; clear hw)
    exact hK.out _ _ ⟨by rw [HE.out]; rfl, rfl⟩
  | false =>
    rw [hbn] at tn
    cases hbp : A.pos.testBit v with
    | true =>
      have HE : Hid (A.litOf v = (v : Int)) := by show _ = _; unfold LearnS.litOf; rw [hbn, if_neg (by simp), hbp, if_pos rfl]
      rw [hbp] at tp
      clear h hbn hbp
      refine calls_via fun K hK => ?_
      go_enter Tryz.func145, Tryz.ntmps145
      go_wp2_with (go_at_call 143; refine (HB.out _).mono ?_; rintro e w' ⟨rfl, hw⟩; have hw2 := hw.symm; subst hw2; clear hw)
      exact hK.out _ _ ⟨by rw [HE.out]; rfl, rfl⟩
    | false =>
      have HE : Hid (A.litOf v = 0) := by show _ = _; unfold LearnS.litOf; rw [hbn, if_neg (by simp), hbp, if_neg (by simp)]
      rw [hbp] at tp
      clear h hbn hbp
      refine calls_via fun K hK => ?_
      go_enter Tryz.func145, Tryz.ntmps145
      go_wp2_with (go_at_call 143; refine (HB.out _).mono ?_; rintro e w' ⟨rfl, hw⟩; have hw2 := hw.symm; subst hw2; clear hw)
      exact hK.out _ _ ⟨by rw [HE.out]; rfl, rfl⟩
end Go.Proofs.Qxb6500354aGreat
