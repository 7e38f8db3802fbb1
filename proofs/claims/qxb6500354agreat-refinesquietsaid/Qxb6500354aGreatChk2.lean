/- THE WALKS over check: put, drop, seek, wipe. -/
import Derived.Test.Qxb6500354aGreatChk
namespace Go.Proofs.Qxb6500354aGreat
open Go.RowKit
set_option linter.unusedVariables false
set_option linter.unusedSimpArgs false

theorem bitV_lt {l : Int} (h : good l = true) : bitV l < 2 ^ 12 := by
  have := (good_iff l).1 h
  exact Nat.pow_lt_pow_right (by omega) (by omega)
theorem posB_lt {c : List Int} (h : ∀ x ∈ c, good x = true) : posB c < 2 ^ 12 := by
  induction c with
  | nil => decide
  | cons l r ih =>
    unfold posB
    refine Nat.or_lt_two_pow ?_ (ih fun x hx => h x (List.mem_cons_of_mem _ hx))
    split
    · exact bitV_lt (h l List.mem_cons_self)
    · decide
theorem negB_lt {c : List Int} (h : ∀ x ∈ c, good x = true) : negB c < 2 ^ 12 := by
  induction c with
  | nil => decide
  | cons l r ih =>
    unfold negB
    refine Nat.or_lt_two_pow ?_ (ih fun x hx => h x (List.mem_cons_of_mem _ hx))
    split
    · decide
    · exact bitV_lt (h l List.mem_cons_self)
theorem or_zero {a b : Nat} : a ||| b = 0 ↔ a = 0 ∧ b = 0 := by
  constructor
  · intro h
    have h1 : a ≤ a ||| b := Nat.left_le_or
    have h2 : b ≤ a ||| b := Nat.right_le_or
    omega
  · rintro ⟨rfl, rfl⟩; rfl
theorem bitV_pos (l : Int) : 0 < bitV l := Nat.two_pow_pos _
theorem bits_zero (c : List Int) : posB c ||| negB c = 0 ↔ c = [] := by
  cases c with
  | nil => simp [posB, negB]
  | cons l r =>
    simp only [reduceCtorEq, iff_false]
    intro h
    obtain ⟨h1, h2⟩ := or_zero.1 h
    have h3 := (or_zero.1 h1).1
    have h4 := (or_zero.1 h2).1
    have := bitV_pos l
    by_cases e : 0 < l
    · rw [if_pos e] at h3; omega
    · rw [if_neg e] at h4; omega
def CkAt (w : World) (b q : Nat) (sl : Slots) : Prop := ∃ R, CheckAt w b R ∧ CkOf R q sl
theorem CkAt.fr {S : List Nat} {w w2 : World} {b q : Nat} {sl : Slots} (h : CkAt w b q sl) (hf : Fr S w w2) (hn : b ∉ S) : CkAt w2 b q sl := let ⟨R, a, c⟩ := h; ⟨R, a.fr hf hn, c⟩
theorem CkAt.lt {w : World} {b q : Nat} {sl : Slots} (h : CkAt w b q sl) : b < w.heap.size := let ⟨R, a, c⟩ := h; a.lt
theorem upd_none_some {sl : Slots} {s : Nat} {c : List Int} (h : sl s = some c) : upd (upd sl s none) s (some c) = sl := by
  funext i; unfold upd; split
  · rename_i e; subst e; exact h.symm
  · rfl
theorem countP_upd {α : Type} (f g : Nat → Bool) (s : Nat) (hfg : ∀ i, i ≠ s → f i = g i) (hf : f s = false) : ∀ n, s < n → (List.range n).countP g = (List.range n).countP f + if g s = true then 1 else 0 := by
  intro n
  induction n with
  | zero => intro h; omega
  | succ n ih =>
    intro h
    rw [List.range_succ, List.countP_append, List.countP_append]
    by_cases e : s = n
    · subst e
      have : (List.range s).countP g = (List.range s).countP f := List.countP_congr fun i hi => by rw [hfg i (by have := List.mem_range.1 hi; omega)]
      rw [this]
      simp [List.countP_cons, hf]
    · rw [ih (by omega)]
      have : g n = f n := (hfg n (fun q => e q.symm)).symm
      simp only [List.countP_cons, List.countP_nil, this]
      omega
theorem emptyF_put {sl : Slots} {s : Nat} {c : List Int} (h : sl s = none) (hs : s < 64) : emptyF (upd sl s (some c)) = emptyF sl + if c = [] then 1 else 0 := by
  unfold emptyF
  rw [countP_upd (α := Nat) (fun i => hasRow (sl i) []) (fun i => hasRow (upd sl s (some c) i) []) s (fun i hi => by show hasRow _ _ = hasRow _ _; rw [upd_ne _ _ _ _ hi]) (by show hasRow _ _ = _; rw [h]; rfl) 64 hs]
  congr 1
  show (if hasRow (upd sl s (some c) s) [] = true then 1 else 0) = _
  rw [upd_self]
  by_cases e : c = []
  · subst e; rfl
  · rw [if_neg e, if_neg]; unfold hasRow; simpa using e
theorem emptyF_le (sl : Slots) : emptyF sl ≤ 64 := by unfold emptyF; exact Nat.le_trans List.countP_le_length (by simp)
theorem CkOf.put {R : CheckR} {q : Nat} {sl : Slots} (h : CkOf R q sl) {s : Nat} (hs : s < 64) (hn : sl s = none) {c : List Int} (hc : checkClause c = 0) (e : Int) (he : e = (emptyF sl : Int) + if c = [] then 1 else 0) :
    CkOf { R with pos := upd R.pos s (posB c), neg := upd R.neg s (negB c), used := setB R.used s, empties := e } q (upd sl s (some c)) := by
  refine ⟨h.p, fun i hi => ?_, fun i hi => ?_, fun i hi => ?_, setB_lt h.usedlt hs, ?_, fun i hi d hd => ?_⟩
  · by_cases e : i = s
    · subst e; show upd R.pos i _ i = _; rw [upd_self, upd_self]; rfl
    · show upd R.pos s _ i = _; rw [upd_ne _ _ _ _ e, upd_ne _ _ _ _ e]; exact h.pos i hi
  · by_cases e : i = s
    · subst e; show upd R.neg i _ i = _; rw [upd_self, upd_self]; rfl
    · show upd R.neg s _ i = _; rw [upd_ne _ _ _ _ e, upd_ne _ _ _ _ e]; exact h.neg i hi
  · show (setB R.used s).testBit i = _
    rw [testBit_set, h.used i hi]
    by_cases e : i = s
    · subst e; rw [upd_self]; simp
    · rw [upd_ne _ _ _ _ e]; simp [show ¬ s = i from fun q => e q.symm]
  · show e = _
    rw [he, emptyF_put hn hs]; split <;> simp
  · by_cases e : i = s
    · subst e; rw [upd_self] at hd; cases hd; exact hc
    · rw [upd_ne _ _ _ _ e] at hd; exact h.ok i hi d hd
theorem lowF_some {sl : Slots} : ∀ {n s k : Nat}, lowF sl n s = some k → s ≤ k ∧ k < s + n ∧ sl k = none := by
  intro n
  induction n with
  | zero => intro s k h; simp [lowF] at h
  | succ n ih =>
    intro s k h
    unfold lowF at h
    by_cases e : (sl s).isSome = true
    · rw [if_pos e] at h; have := ih h; exact ⟨by omega, by omega, this.2.2⟩
    · rw [if_neg e] at h; cases h; exact ⟨by omega, by omega, by simpa using e⟩
def notB (a : Nat) : Nat := (2 ^ 64 - 1) ^^^ a
theorem notB_lt {a : Nat} (h : a < 2 ^ 64) : notB a < 2 ^ 64 := Nat.xor_lt_two_pow (by decide) h
theorem testBit_not {a s : Nat} (hs : s < 64) : (notB a).testBit s = !a.testBit s := by
  unfold notB
  rw [Nat.testBit_xor, Nat.testBit_two_pow_sub_one]
  simp [hs]
theorem xorU64 {a : Nat} (h : a < 2 ^ 64) : bits BinOp.xor IntKind.u64 (if IntKind.u64.signed = true then -1 else IntKind.u64.max) (a : Int) = ((notB a : Nat) : Int) := by
  rw [if_neg (by decide), show IntKind.u64.max = ((2 ^ 64 - 1 : Nat) : Int) from by decide]
  show IntKind.u64.wrap (((BitVec.ofInt 64 _) ^^^ (BitVec.ofInt 64 _)).toNat : Nat) = _
  rw [ofIntN, ofIntN, BitVec.toNat_xor, toNatN (by decide), toNatN h]
  exact wrapU64n (notB_lt h)
theorem lowF_loc {sl : Slots} {m : Nat} (h : ∀ s, s < 64 → m.testBit s = (sl s).isSome) : ∀ s, s < 64 → (notB m).testBit s = !(sl s).isSome := fun s hs => by rw [testBit_not hs, h s hs]
set_option maxHeartbeats 2000000 in
theorem put_any {w : World} {b q : Nat} {sl : Slots} (h : CkAt w b q sl) {c : List Int} (hc : checkClause c = 0) {s : Nat} (hl : lowF sl 64 0 = some s) :
    Calls Tryz.prog 102 #[.pointer (some ⟨b, 0, none⟩), .int .u16 (posB c : Nat), .int .u16 (negB c : Nat)] w fun e w' => e = .returned (.tuple #[]) ∧ CkAt w' b q (upd sl s (some c)) ∧ Fr [b] w w' := by
  obtain ⟨R, hR, ho⟩ := h
  obtain ⟨_, hs, hn⟩ := lowF_some hl
  have hs64 : s < 64 := by omega
  have hsi : (s : Int) < 64 := by omega
  have hu := hR.used
  have hp := hR.pos s hs64
  have hq := hR.neg s hs64
  have he := hR.empties
  have hfz := hR.froz
  have hlt := ho.usedlt
  have hlow : slotI (lowF sl 64 0) = (s : Int) := by rw [hl]; rfl
  have HU := hid ho.used
  have hor := or64 hlt (pow64 hs64)
  have hpn := or16 (Nat.lt_of_lt_of_le (posB_lt (RowOK.of hc).1) (by decide)) (Nat.lt_of_lt_of_le (negB_lt (RowOK.of hc).1) (by decide))
  change bits .or .u64 (R.used : Nat) (pw s : Nat) = ((setB R.used s : Nat) : Int) at hor
  have heb : emptyF sl ≤ 64 := emptyF_le sl
  have hee := ho.emp
  rw [hee] at he
  have hbz := bits_zero c
  have hxor := xorU64 hlt
  have hput : ∀ e : Int, e = (emptyF sl : Int) + (if c = [] then 1 else 0) → CkOf { R with pos := upd R.pos s (posB c), neg := upd R.neg s (negB c), used := setB R.used s, empties := e } q (upd sl s (some c)) := fun e he => ho.put hs64 hn hc e he
  have HPUT := hid hput
  have HR := hid hR
  have HS := hid hs64
  have HLT := hid hlt
  generalize emptyF sl = em at *
  have hei : (em : Int) ≤ 64 := by omega
  generalize posB c ||| negB c = pn at *
  clear ho hc hl hs hR hn hput hlt
  by_cases h0 : pn = 0
  · have hc0 := hbz.1 h0
    have HC0 := hid hc0
    clear hbz hc0
    subst h0
    refine calls_via fun K hK => ?_
    go_enter Tryz.func102, Tryz.ntmps102
    go_wp2_with (go_at_call 132; refine (lowest_any _ (notB_lt HLT.out) sl (lowF_loc HU.out) _).mono ?_; rintro e w' ⟨rfl, hw⟩; have hw2 := hw.symm; subst hw2)
    go_region_with (go_at_call 100; refine (cslot_any _ HS.out _).mono ?_; rintro e w' ⟨rfl, hw⟩; have hw2 := hw.symm; subst hw2; clear hw)
    all_goals try go_wp2_with fail
    all_goals try go_end0
    all_goals refine hK.out _ _ ⟨rfl, ⟨_, (((HR.out.set_pos s HS.out (posB c)).set_neg s HS.out (negB c)).set_used (setB R.used s)).drew.set_empties (em + 1), HPUT.out _ (by rw [if_pos HC0.out])⟩, (((((Fr.refl _ _).set (by simp) _).set (by simp) _).set (by simp) _).drew).set (by simp) _⟩
  · have hc0 : c ≠ [] := fun e => h0 (hbz.2 e)
    have HC0 := hid hc0
    have hb : ((pn : Int) == 0) = false := by rw [← Bool.not_eq_true, beq_iff_eq]; omega
    clear hbz hc0 h0
    refine calls_via fun K hK => ?_
    go_enter Tryz.func102, Tryz.ntmps102
    go_wp2_with (go_at_call 132; refine (lowest_any _ (notB_lt HLT.out) sl (lowF_loc HU.out) _).mono ?_; rintro e w' ⟨rfl, hw⟩; have hw2 := hw.symm; subst hw2)
    go_region_with (go_at_call 100; refine (cslot_any _ HS.out _).mono ?_; rintro e w' ⟨rfl, hw⟩; have hw2 := hw.symm; subst hw2; clear hw)
    all_goals try go_wp2_with fail
    all_goals try go_end0
    all_goals refine hK.out _ _ ⟨rfl, ⟨_, (((HR.out.set_pos s HS.out (posB c)).set_neg s HS.out (negB c)).set_used (setB R.used s)).drew, HPUT.out R.empties (by rw [if_neg HC0.out, hee]; simp)⟩, ((((Fr.refl _ _).set (by simp) _).set (by simp) _).set (by simp) _).drew⟩
end Go.Proofs.Qxb6500354aGreat
