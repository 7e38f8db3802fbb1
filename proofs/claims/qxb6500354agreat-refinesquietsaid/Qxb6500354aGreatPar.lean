/- THE WALKS over cnf: class, fail, rest, endRow. -/
import Derived.Test.Qxb6500354aGreatSrch10
import Derived.Test.Qxb6500354aGreatDef2
namespace Go.Proofs.Qxb6500354aGreat
open Go.RowKit
set_option linter.unusedVariables false
set_option linter.unusedSimpArgs false

def ParR (P : ParS) (av : Value) : ParserR := { arena := av, state := P.state, start := P.start, minus := P.minus, val := P.val, pos := P.pos, neg := P.neg, del := P.del, opn := P.opn, err := P.err, at_ := P.at_ }
structure ParAt (w : World) (b : Nat) (P : ParS) (av : Value) : Prop where
  at_ : ParserAt w b (ParR P av)
  own : OwnI w 0 av P.arena
  pos : P.pos < 2 ^ 16
  neg : P.neg < 2 ^ 16
  dj : av.ownBlock ≠ some b
theorem ParAt.fr {w w2 : World} {b : Nat} {P : ParS} {av : Value} {D : List Nat} (h : ParAt w b P av) (hf : Fr D w w2) (hb : b ∉ D) (ha : ∀ g, av.ownBlock = some g → g ∉ D) : ParAt w2 b P av :=
  ⟨h.at_.fr hf hb, h.own.fr hf ha, h.pos, h.neg, h.dj⟩
theorem ParAt.drewN {w : World} {b : Nat} {P : ParS} {av : Value} {n : Nat} (h : ParAt w b P av) : ParAt (w.drewN n) b P av := ⟨h.at_.drewN, h.own.drewN, h.pos, h.neg, h.dj⟩
theorem ParAt.drew {w : World} {b : Nat} {P : ParS} {av : Value} (h : ParAt w b P av) : ParAt w.drew b P av := ⟨h.at_.drew, h.own.drew, h.pos, h.neg, h.dj⟩
theorem ParAt.put {w : World} {b : Nat} {P P2 : ParS} {av : Value} (h : ParAt w b P av) {i : Nat} {v : Value} (hr : ParserAt (w.setCell ⟨b, i, none⟩ v) b (ParR P2 av)) (hl : P2.arena = P.arena) (h1 : P2.pos < 2 ^ 16) (h2 : P2.neg < 2 ^ 16) :
    ParAt (w.setCell ⟨b, i, none⟩ v) b P2 av := by
  refine ⟨hr, ?_, h1, h2, h.dj⟩
  rw [hl]
  exact h.own.fr (S := [b]) ((Fr.refl _ _).set (by simp) _) (fun g hg hm => by rw [List.mem_singleton] at hm; subst hm; exact h.dj hg)
theorem ParAt.pState {w : World} {b : Nat} {P : ParS} {av : Value} (h : ParAt w b P av) (x : Nat) : ParAt (w.setCell ⟨b, 1, none⟩ (.int .i64 (x : Nat))) b { P with state := x } av := h.put (P2 := { P with state := x }) (h.at_.set_state x) rfl h.pos h.neg
theorem ParAt.pStart {w : World} {b : Nat} {P : ParS} {av : Value} (h : ParAt w b P av) (x : Nat) : ParAt (w.setCell ⟨b, 2, none⟩ (.int .i64 (x : Nat))) b { P with start := x } av := h.put (P2 := { P with start := x }) (h.at_.set_start x) rfl h.pos h.neg
theorem ParAt.pMinus {w : World} {b : Nat} {P : ParS} {av : Value} (h : ParAt w b P av) (x : Bool) : ParAt (w.setCell ⟨b, 3, none⟩ (.bool x)) b { P with minus := x } av := h.put (P2 := { P with minus := x }) (h.at_.set_minus x) rfl h.pos h.neg
theorem ParAt.pVal {w : World} {b : Nat} {P : ParS} {av : Value} (h : ParAt w b P av) (x : Nat) : ParAt (w.setCell ⟨b, 4, none⟩ (.int .i64 (x : Nat))) b { P with val := x } av := h.put (P2 := { P with val := x }) (h.at_.set_val x) rfl h.pos h.neg
theorem ParAt.pPos {w : World} {b : Nat} {P : ParS} {av : Value} (h : ParAt w b P av) (x : Nat) (hx : x < 2 ^ 16) : ParAt (w.setCell ⟨b, 5, none⟩ (.int .u16 (x : Nat))) b { P with pos := x } av := h.put (P2 := { P with pos := x }) (h.at_.set_pos x) rfl hx h.neg
theorem ParAt.pNeg {w : World} {b : Nat} {P : ParS} {av : Value} (h : ParAt w b P av) (x : Nat) (hx : x < 2 ^ 16) : ParAt (w.setCell ⟨b, 6, none⟩ (.int .u16 (x : Nat))) b { P with neg := x } av := h.put (P2 := { P with neg := x }) (h.at_.set_neg x) rfl h.pos hx
theorem ParAt.pDel {w : World} {b : Nat} {P : ParS} {av : Value} (h : ParAt w b P av) (x : Bool) : ParAt (w.setCell ⟨b, 7, none⟩ (.bool x)) b { P with del := x } av := h.put (P2 := { P with del := x }) (h.at_.set_del x) rfl h.pos h.neg
theorem ParAt.pOpn {w : World} {b : Nat} {P : ParS} {av : Value} (h : ParAt w b P av) (x : Bool) : ParAt (w.setCell ⟨b, 8, none⟩ (.bool x)) b { P with opn := x } av := h.put (P2 := { P with opn := x }) (h.at_.set_opn x) rfl h.pos h.neg
theorem ParAt.pErr {w : World} {b : Nat} {P : ParS} {av : Value} (h : ParAt w b P av) (x : Nat) : ParAt (w.setCell ⟨b, 9, none⟩ (.int .i64 (x : Nat))) b { P with err := x } av := h.put (P2 := { P with err := x }) (h.at_.set_err x) rfl h.pos h.neg
theorem ParAt.pAt {w : World} {b : Nat} {P : ParS} {av : Value} (h : ParAt w b P av) (x : Nat) : ParAt (w.setCell ⟨b, 10, none⟩ (.int .i64 (x : Nat))) b { P with at_ := x } av := h.put (P2 := { P with at_ := x }) (h.at_.set_at_ x) rfl h.pos h.neg

set_option maxHeartbeats 1000000 in
theorem class_any (c : Nat) (hc : c < 256) (w : World) : Calls Tryz.prog 105 #[.int .u8 c] w fun e w' => e = .returned (.int .i64 (classF c : Nat)) ∧ w' = w := by
  have hci : (c : Int) < 256 := by omega
  obtain ⟨res, hres⟩ : ∃ r, classF c = r := ⟨_, rfl⟩
  rw [hres]
  unfold classF at hres
  by_cases h1 : c = 32 ∨ c = 9 ∨ c = 13 ∨ c = 10
  · rw [if_pos h1] at hres
    have HR := hid hres
    clear hres
    rcases h1 with e | e | e | e <;> subst e
    all_goals
      refine calls_via fun K hK => ?_
      go_enter Tryz.func105, Tryz.ntmps105
      go_wp2_with fail
      refine hK.out _ _ ⟨?_, rfl⟩
      rw [← HR.out]; rfl
  · rw [if_neg h1] at hres
    have n1 : ((c : Int) == 32) = false := by rw [beq_eq_false_iff_ne]; omega
    have n2 : ((c : Int) == 9) = false := by rw [beq_eq_false_iff_ne]; omega
    have n3 : ((c : Int) == 13) = false := by rw [beq_eq_false_iff_ne]; omega
    have n4 : ((c : Int) == 10) = false := by rw [beq_eq_false_iff_ne]; omega
    by_cases h2 : c = 45
    · rw [if_pos h2] at hres
      have HR := hid hres
      clear hres h1 n1 n2 n3 n4
      subst h2
      refine calls_via fun K hK => ?_
      go_enter Tryz.func105, Tryz.ntmps105
      go_wp2_with fail
      refine hK.out _ _ ⟨?_, rfl⟩
      rw [← HR.out]; rfl
    · rw [if_neg h2] at hres
      by_cases h3 : c = 99
      · rw [if_pos h3] at hres
        have HR := hid hres
        clear hres h1 n1 n2 n3 n4 h2
        subst h3
        refine calls_via fun K hK => ?_
        go_enter Tryz.func105, Tryz.ntmps105
        go_wp2_with fail
        refine hK.out _ _ ⟨?_, rfl⟩
        rw [← HR.out]; rfl
      · rw [if_neg h3] at hres
        by_cases h4 : c = 100
        · rw [if_pos h4] at hres
          have HR := hid hres
          clear hres h1 n1 n2 n3 n4 h2 h3
          subst h4
          refine calls_via fun K hK => ?_
          go_enter Tryz.func105, Tryz.ntmps105
          go_wp2_with fail
          refine hK.out _ _ ⟨?_, rfl⟩
          rw [← HR.out]; rfl
        · rw [if_neg h4] at hres
          have n5 : ((c : Int) == 45) = false := by rw [beq_eq_false_iff_ne]; omega
          have n6 : ((c : Int) == 99) = false := by rw [beq_eq_false_iff_ne]; omega
          have n7 : ((c : Int) == 100) = false := by rw [beq_eq_false_iff_ne]; omega
          clear h1 h2 h3 h4
          by_cases h5 : 48 ≤ c
          · by_cases h6 : c ≤ 57
            · rw [if_pos ⟨h5, h6⟩] at hres
              have HR := hid hres
              have i5 : (48 : Int) ≤ c := by omega
              have i6 : (c : Int) ≤ 57 := by omega
              clear hres h5 h6
              refine calls_via fun K hK => ?_
              go_enter Tryz.func105, Tryz.ntmps105
              go_wp2_with fail
              refine hK.out _ _ ⟨?_, rfl⟩
              rw [← HR.out]; rfl
            · rw [if_neg (fun z => h6 z.2)] at hres
              have HR := hid hres
              have i5 : (48 : Int) ≤ c := by omega
              have i6 : ¬ (c : Int) ≤ 57 := by omega
              clear hres h5 h6
              refine calls_via fun K hK => ?_
              go_enter Tryz.func105, Tryz.ntmps105
              go_wp2_with fail
              refine hK.out _ _ ⟨?_, rfl⟩
              rw [← HR.out]; rfl
          · rw [if_neg (fun z => h5 z.1)] at hres
            have HR := hid hres
            have i5 : ¬ (48 : Int) ≤ c := by omega
            clear hres h5
            refine calls_via fun K hK => ?_
            go_enter Tryz.func105, Tryz.ntmps105
            go_wp2_with fail
            refine hK.out _ _ ⟨?_, rfl⟩
            rw [← HR.out]; rfl

theorem pfail_any {w : World} {b : Nat} {P : ParS} {av : Value} (h : ParAt w b P av) (e a : Nat) :
    Calls Tryz.prog 75 #[.pointer (some ⟨b, 0, none⟩), .int .i64 (e : Nat), .int .i64 (a : Nat)] w fun r w' => r = .returned (.tuple #[]) ∧ ParAt w' b (P.fail e a) av ∧ Fr [b] w w' := by
  have h9 := h.at_.err
  have h10 := h.at_.at_
  change w.cell? ⟨b, 9, none⟩ = some (.int .i64 (P.err : Nat)) at h9
  change w.cell? ⟨b, 10, none⟩ = some (.int .i64 (P.at_ : Nat)) at h10
  have hfz := h.at_.froz
  have HH := hid h
  clear h
  refine calls_via fun K hK => ?_
  go_enter Tryz.func75, Tryz.ntmps75
  go_wp2_with fail
  try go_region
  try go_wp2_with fail
  try go_end0
  refine hK.out _ _ ⟨rfl, ?_, ?_⟩
  · have := (HH.out.pErr e).pAt a
    first | exact this | exact this.drew
  · have := ((Fr.refl [b] w).set (p := ⟨b, 9, none⟩) (by simp) (.int .i64 (e : Nat))).set (p := ⟨b, 10, none⟩) (by simp) (.int .i64 (a : Nat))
    first | exact this | exact this.drew
end Go.Proofs.Qxb6500354aGreat
