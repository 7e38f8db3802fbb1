/- The law: the walk over the script. -/
import Derived.Test.Qxb6500353aGreatDkn
namespace Go.Proofs.Qxb6500353aGreat
open Go.RowKit
set_option linter.unusedVariables false
set_option linter.unusedSimpArgs false

structure OpS where
  k : Int
  a : Int
  b : Int
  c : Int
  s : ByteArray
  t : ByteArray
/-- The i-th op lies at (g, o). -/
structure OpAt (w : World) (g o : Nat) (p : OpS) : Prop where
  c0 : w.cell? ⟨g, o, none⟩ = some (.int .i64 p.k)
  c1 : w.cell? ⟨g, o + 1, none⟩ = some (.int .i64 p.a)
  c2 : w.cell? ⟨g, o + 2, none⟩ = some (.int .i64 p.b)
  c3 : w.cell? ⟨g, o + 3, none⟩ = some (.int .i64 p.c)
  c4 : w.cell? ⟨g, o + 4, none⟩ = some (.string p.s)
  c5 : w.cell? ⟨g, o + 5, none⟩ = some (.string p.t)
  hs : p.s.size ≤ maxLen
  ha : p.a < 9223372036854775808
theorem OpAt.fr {M : Nat} {w w2 : World} {g o : Nat} {p : OpS} (h : OpAt w g o p) (hb : Fr (UpN M) w w2) (hg : g < M) : OpAt w2 g o p := by
  have hn : ¬ UpN M g := fun q => by unfold UpN at q; omega
  exact ⟨hb.cell h.c0 hn, hb.cell h.c1 hn, hb.cell h.c2 hn, hb.cell h.c3 hn, hb.cell h.c4 hn, hb.cell h.c5 hn, h.hs, h.ha⟩
/-- The script: a slice of ops. -/
def OpsAt (w : World) (v : Value) (n : Nat) : Prop := n = 0 ∨ ∃ g o cap, v = .slice (some ⟨g, o, none⟩) n cap ∧ g < w.heap.size ∧ ∀ i, i < n → ∃ p, OpAt w g (o + i * 6) p
theorem upBelow {w w2 : World} (h : Fr (UpN w.heap.size) w w2) : Below w.heap.size w w2 := ⟨h.os, h.tape, h.output, h.size, fun k hk => h.block k hk (fun q => by unfold UpN at q; omega)⟩
set_option maxRecDepth 100000 in
set_option maxHeartbeats 8000000 in
theorem walk_any {w : World} {a : Option Addr} {n cap : Nat} (h : OpsAt w (.slice a n cap) n) (hn : n ≤ maxLen) (q : Bool) :
    Calls Tryz.prog 7 #[.slice a n cap, .bool q] w fun e w' => (∃ m : Int, e = .returned (.tuple #[.int .i64 (-1), .int .i64 m])) ∧ Below w.heap.size w w' := by
  have H := hid h
  have hni : (n : Int) ≤ 9223372036854775807 := by unfold maxLen at hn; omega
  obtain ⟨M0, hM0⟩ : ∃ z, w.heap.size = z := ⟨_, rfl⟩
  have HM0 := hid hM0
  have HBL := hid (fun w2 (h : Fr (UpN w.heap.size) w w2) => upBelow h)
  rw [hM0] at HBL ⊢
  clear h hM0
  refine calls_via fun K hK => ?_
  go_enter Tryz.func7, Tryz.ntmps7
  go_wp2_with fail
  refine (newTow_any w).mono ?_
  rintro e w1 ⟨Z, A, hz, rfl, ha, f1⟩
  rw [HM0.out] at hz ha
  have HA := hid ha
  have F1 := hid f1
  have HZ := hid hz
  unfold ptrV
  clear ha f1 hz
  go_wp2_with fail
  refine (newMa2_any w1).mono ?_
  rintro e w2 ⟨mb, rfl, hm, f2⟩
  have ha2 := HA.out.fr f2 (fun _ _ _ x => x)
  have hlt := HA.out.lt
  obtain ⟨b, hb⟩ : ∃ z, w2.heap.size = z := ⟨_, rfl⟩
  rw [hb] at hm
  have hm2 : MaK w2 (Z + 5) b mb := by
    obtain ⟨q1, q2, p, q3, q4, q5, q6⟩ := hm
    exact ⟨by omega, q2, p, by omega, q4, q5, q6⟩
  have hbz : Z + 5 ≤ b := by rw [← hb]; have := f2.size; omega
  have hC0 := CellsAt.mk_alloc w2 (dkL DkR.zero) 37
  rw [hb] at hC0
  have hfa : Fr Nob w2 (w2.alloc (Obj.cells (dkL DkR.zero).toArray 37)) := (Fr.refl _ _).alloc _
  have hst : LawAt (w2.alloc (Obj.cells (dkL DkR.zero).toArray 37)) M0 M0 Z mb b Nob DkR.zero 0 := LawAt.start (ha2.fr hfa (fun _ _ _ x => x)) (hm2.fr hfa (fun _ _ _ x => x)) (by have := HZ.out; omega) hbz hC0
  have HST : Hid (LawAt (w2.alloc (Obj.cells #[.string ⟨#[]⟩, .string ⟨#[]⟩, .string ⟨#[]⟩, .slice none 0 0, .slice none 0 0, .slice none 0 0, .slice none 0 0, .slice none 0 0, .slice none 0 0, .slice none 0 0, .slice none 0 0, .slice none 0 0, .slice none 0 0, .slice none 0 0, .slice none 0 0, .slice none 0 0, .int .i64 0, .int .i64 0, .slice none 0 0, .slice none 0 0, .int .i64 0, .int .i64 0, .bool false, .slice none 0 0, .slice none 0 0, .bool false, .slice none 0 0] 37)) M0 M0 Z mb b Nob DkR.zero 0) := hid hst
  have HB := hid hb
  have F3 : Hid (Fr Nob w (w2.alloc (Obj.cells #[.string ⟨#[]⟩, .string ⟨#[]⟩, .string ⟨#[]⟩, .slice none 0 0, .slice none 0 0, .slice none 0 0, .slice none 0 0, .slice none 0 0, .slice none 0 0, .slice none 0 0, .slice none 0 0, .slice none 0 0, .slice none 0 0, .slice none 0 0, .slice none 0 0, .slice none 0 0, .int .i64 0, .int .i64 0, .slice none 0 0, .slice none 0 0, .int .i64 0, .int .i64 0, .bool false, .slice none 0 0, .slice none 0 0, .bool false, .slice none 0 0] 37))) := hid ((F1.out.trans f2).trans hfa)
  unfold ptrV
  clear ha2 hlt hm hm2 hbz hC0 hfa hst f2
  go_upto_region 4 with fail
  obtain ⟨w3, hw3⟩ : ∃ z, z = w2.alloc (Obj.cells #[.string ⟨#[]⟩, .string ⟨#[]⟩, .string ⟨#[]⟩, .slice none 0 0, .slice none 0 0, .slice none 0 0, .slice none 0 0, .slice none 0 0, .slice none 0 0, .slice none 0 0, .slice none 0 0, .slice none 0 0, .slice none 0 0, .slice none 0 0, .slice none 0 0, .slice none 0 0, .int .i64 0, .int .i64 0, .slice none 0 0, .slice none 0 0, .int .i64 0, .int .i64 0, .bool false, .slice none 0 0, .slice none 0 0, .bool false, .slice none 0 0] 37) := ⟨_, rfl⟩
  rw [← hw3] at HST F3 ⊢
  clear hw3 hb
  cases q with
  | true =>
    obtain ⟨w4, hw4⟩ : ∃ z, z = w3 := ⟨_, rfl⟩
    rw [← hw4] at HST F3 ⊢
    clear hw4
    go_wp2_with fail
    obtain ⟨NN, hNN⟩ : ∃ z, min n 4398046511104 = z := ⟨_, rfl⟩
    have HN : Hid (NN ≤ n ∧ NN ≤ 4398046511104 ∧ (NN = n ∨ NN = 4398046511104 ∧ 4398046511104 < n)) := hid (by omega)
    clear hNN
    go_loopg [9] NN (fun g i wr => g ≤ NN ∧ i = .int .i64 ((NN - g : Nat) : Int) ∧ (∃ R, LawAt wr M0 M0 Z mb b Nob R (2 * (NN - g))) ∧ Fr (UpN M0) w wr)
    case atStart => exact ⟨by omega, by simp, ⟨_, by rw [Nat.sub_self]; exact HST.out⟩, F3.out.mono (fun _ hx _ => hx.elim)⟩
    case round =>
      obtain ⟨hg, rfl, ⟨R, hw⟩, hb⟩ := hrel
      have HW2 := hid hw
      have HB2 := hid hb
      by_cases hlt : 0 < gk
      · obtain ⟨j0, rfl⟩ : ∃ j, gk = j + 1 := ⟨gk - 1, by omega⟩
        obtain ⟨k, hk⟩ : ∃ k, NN - (j0 + 1) = k := ⟨_, rfl⟩
        rw [hk] at HW2 ⊢
        have hn2 := HN.out
        have hki : (k : Int) < n := by omega
        have hki2 : (k : Int) < 4398046511104 := by omega
        rcases H.out with hz0 | ⟨g, o, cap2, hsl, hgl, hops⟩
        · omega
        simp only [Value.slice.injEq, true_and] at hsl
        obtain ⟨rfl, hcp⟩ := hsl
        obtain ⟨p, hp⟩ := hops k (by omega)
        have hp2 := hp.fr hb (by rw [← HM0.out]; exact hgl)
        have HP := hid hp2
        have c0 := hp2.c0
        have c1 := hp2.c1
        have c2 := hp2.c2
        have c3 := hp2.c3
        have c4 := hp2.c4
        have c5 := hp2.c5
        have HK0 : Hid (k + 1 = NN - j0 ∧ j0 + 1 ≤ NN) := hid (by omega)
        have hpl := play_any HW2.out (by omega) p.k p.a p.b p.c p.s p.t HP.out.hs HP.out.ha
        unfold ptrV at hpl
        have HPL := hid hpl
        clear hg hw hb hk hn2 hp hp2 hops hgl hcp hpl hlt
        go_wp2_with fail
        clear c0 c1 c2 c3 c4 c5
        refine HPL.out.mono ?_
        rintro e w5 ⟨rfl, ⟨R5, h5⟩, f5⟩
        have HL5 := hid h5
        have F5 := hid (HB2.out.trans f5)
        clear h5 f5
        have HL6 := HL5
        have F6 := F5
        go_wp2_with fail
        go_roundg j0
        case measure => omega
        case rel =>
          have hk := HK0.out
          exact ⟨by omega, by rw [← hk.1]; simp, ⟨_, by rw [← hk.1, Nat.mul_add]; exact HL6.out⟩, F6.out⟩
      · have hg0 : gk = 0 := by omega
        subst hg0
        rw [Nat.sub_zero]
        clear hg hw hb hlt
        have hn2 := HN.out
        by_cases hle : n < 4398046511104
        · have e1 : NN = n := by omega
          subst e1
          have hg1 : (NN : Int) < 4398046511104 := by omega
          clear hn2 hle
          go_wp2_with fail
          try go_ret2
          exact hK.out _ _ ⟨⟨_, rfl⟩, HBL.out _ HB2.out⟩
        · have hg1 : ¬ (n : Int) < 4398046511104 := by omega
          by_cases hle2 : NN < n
          · have hg2 : (NN : Int) < n := by omega
            have hg3 : ¬ (NN : Int) < 4398046511104 := by omega
            clear hn2 hle hle2
            go_wp2_with fail
            try go_ret2
            exact hK.out _ _ ⟨⟨_, rfl⟩, HBL.out _ HB2.out⟩
          · have hg2 : ¬ (NN : Int) < n := by omega
            clear hn2 hle hle2
            go_wp2_with fail
            try go_ret2
            exact hK.out _ _ ⟨⟨_, rfl⟩, HBL.out _ HB2.out⟩
  | false =>
    obtain ⟨A3, hA3⟩ := HST.out.fx.ar
    have hck := check_any hA3
    unfold ptrV at hck
    have HCK := hid hck
    clear hA3 hck
    go_wp2_with fail
    refine HCK.out.mono ?_
    rintro e w4 ⟨rfl, q, hq⟩
    have f4 : Fr Nob w3 w4 := by rw [hq]; exact Fr.of_drewN
    have HST := hid (HST.out.fr0 f4)
    have F3 := hid (F3.out.trans f4)
    clear hq f4
    go_wp2_with fail
    obtain ⟨NN, hNN⟩ : ∃ z, min n 4398046511104 = z := ⟨_, rfl⟩
    have HN : Hid (NN ≤ n ∧ NN ≤ 4398046511104 ∧ (NN = n ∨ NN = 4398046511104 ∧ 4398046511104 < n)) := hid (by omega)
    clear hNN
    go_loopg [9] NN (fun g i wr => g ≤ NN ∧ i = .int .i64 ((NN - g : Nat) : Int) ∧ (∃ R, LawAt wr M0 M0 Z mb b Nob R (2 * (NN - g))) ∧ Fr (UpN M0) w wr)
    case atStart => exact ⟨by omega, by simp, ⟨_, by rw [Nat.sub_self]; exact HST.out⟩, F3.out.mono (fun _ hx _ => hx.elim)⟩
    case round =>
      obtain ⟨hg, rfl, ⟨R, hw⟩, hb⟩ := hrel
      have HW2 := hid hw
      have HB2 := hid hb
      by_cases hlt : 0 < gk
      · obtain ⟨j0, rfl⟩ : ∃ j, gk = j + 1 := ⟨gk - 1, by omega⟩
        obtain ⟨k, hk⟩ : ∃ k, NN - (j0 + 1) = k := ⟨_, rfl⟩
        rw [hk] at HW2 ⊢
        have hn2 := HN.out
        have hki : (k : Int) < n := by omega
        have hki2 : (k : Int) < 4398046511104 := by omega
        rcases H.out with hz0 | ⟨g, o, cap2, hsl, hgl, hops⟩
        · omega
        simp only [Value.slice.injEq, true_and] at hsl
        obtain ⟨rfl, hcp⟩ := hsl
        obtain ⟨p, hp⟩ := hops k (by omega)
        have hp2 := hp.fr hb (by rw [← HM0.out]; exact hgl)
        have HP := hid hp2
        have c0 := hp2.c0
        have c1 := hp2.c1
        have c2 := hp2.c2
        have c3 := hp2.c3
        have c4 := hp2.c4
        have c5 := hp2.c5
        have HK0 : Hid (k + 1 = NN - j0 ∧ j0 + 1 ≤ NN) := hid (by omega)
        have hpl := play_any HW2.out (by omega) p.k p.a p.b p.c p.s p.t HP.out.hs HP.out.ha
        unfold ptrV at hpl
        have HPL := hid hpl
        clear hg hw hb hk hn2 hp hp2 hops hgl hcp hpl hlt
        go_wp2_with fail
        clear c0 c1 c2 c3 c4 c5
        refine HPL.out.mono ?_
        rintro e w5 ⟨rfl, ⟨R5, h5⟩, f5⟩
        have HL5 := hid h5
        have F5 := hid (HB2.out.trans f5)
        clear h5 f5
        obtain ⟨A5, hA5⟩ := HL5.out.fx.ar
        have hck := check_any hA5
        unfold ptrV at hck
        have HCK := hid hck
        clear hA5 hck
        go_wp2_with fail
        refine HCK.out.mono ?_
        rintro e w6 ⟨rfl, q, hq⟩
        have f6 : Fr Nob w5 w6 := by rw [hq]; exact Fr.of_drewN
        have HL6 := hid (HL5.out.fr0 f6)
        have F6 := hid (F5.out.trans (f6.mono (fun _ hx _ => hx.elim)))
        clear hq f6
        go_wp2_with fail
        go_roundg j0
        case measure => omega
        case rel =>
          have hk := HK0.out
          exact ⟨by omega, by rw [← hk.1]; simp, ⟨_, by rw [← hk.1, Nat.mul_add]; exact HL6.out⟩, F6.out⟩
      · have hg0 : gk = 0 := by omega
        subst hg0
        rw [Nat.sub_zero]
        clear hg hw hb hlt
        have hn2 := HN.out
        by_cases hle : n < 4398046511104
        · have e1 : NN = n := by omega
          subst e1
          have hg1 : (NN : Int) < 4398046511104 := by omega
          clear hn2 hle
          go_wp2_with fail
          try go_ret2
          exact hK.out _ _ ⟨⟨_, rfl⟩, HBL.out _ HB2.out⟩
        · have hg1 : ¬ (n : Int) < 4398046511104 := by omega
          by_cases hle2 : NN < n
          · have hg2 : (NN : Int) < n := by omega
            have hg3 : ¬ (NN : Int) < 4398046511104 := by omega
            clear hn2 hle hle2
            go_wp2_with fail
            try go_ret2
            exact hK.out _ _ ⟨⟨_, rfl⟩, HBL.out _ HB2.out⟩
          · have hg2 : ¬ (NN : Int) < n := by omega
            clear hn2 hle hle2
            go_wp2_with fail
            try go_ret2
            exact hK.out _ _ ⟨⟨_, rfl⟩, HBL.out _ HB2.out⟩
/-- RefinesUpTo, RefinesQuietUpTo, Refines, RefinesQuiet. -/
theorem upQ_any {w : World} {a : Option Addr} {n cap : Nat} (h : OpsAt w (.slice a n cap) n) (hn : n ≤ maxLen) :
    Calls Tryz.prog 6 #[.slice a n cap] w fun e w' => e = .returned (.int .i64 (-1)) ∧ Below w.heap.size w w' := by
  have HW := hid (walk_any h hn true)
  clear h
  refine calls_via fun K hK => ?_
  go_enter Tryz.func6, Tryz.ntmps6
  go_wp2_with fail
  refine HW.out.mono ?_
  rintro e w' ⟨⟨m, rfl⟩, hb⟩
  have HB := hid hb
  clear hb
  go_wp2_with fail
  exact hK.out _ _ ⟨rfl, HB.out⟩
theorem up_any {w : World} {a : Option Addr} {n cap : Nat} (h : OpsAt w (.slice a n cap) n) (hn : n ≤ maxLen) :
    Calls Tryz.prog 5 #[.slice a n cap] w fun e w' => e = .returned (.int .i64 (-1)) ∧ Below w.heap.size w w' := by
  have HW := hid (walk_any h hn false)
  clear h
  refine calls_via fun K hK => ?_
  go_enter Tryz.func5, Tryz.ntmps5
  go_wp2_with fail
  refine HW.out.mono ?_
  rintro e w' ⟨⟨m, rfl⟩, hb⟩
  have HB := hid hb
  clear hb
  go_wp2_with fail
  exact hK.out _ _ ⟨rfl, HB.out⟩
theorem refinesQuiet_any {w : World} {a : Option Addr} {n cap : Nat} (h : OpsAt w (.slice a n cap) n) (hn : n ≤ maxLen) :
    Calls Tryz.prog 4 #[.slice a n cap] w fun e w' => e = .returned (.bool true) ∧ Below w.heap.size w w' := by
  have HW := hid (upQ_any h hn)
  clear h
  refine calls_via fun K hK => ?_
  go_enter Tryz.func4, Tryz.ntmps4
  go_wp2_with fail
  refine HW.out.mono ?_
  rintro e w' ⟨rfl, hb⟩
  have HB := hid hb
  clear hb
  go_wp2_with fail
  exact hK.out _ _ ⟨rfl, HB.out⟩
theorem refines_any {w : World} {a : Option Addr} {n cap : Nat} (h : OpsAt w (.slice a n cap) n) (hn : n ≤ maxLen) :
    Calls Tryz.prog 3 #[.slice a n cap] w fun e w' => e = .returned (.bool true) ∧ Below w.heap.size w w' := by
  have HW := hid (up_any h hn)
  clear h
  refine calls_via fun K hK => ?_
  go_enter Tryz.func3, Tryz.ntmps3
  go_wp2_with fail
  refine HW.out.mono ?_
  rintro e w' ⟨rfl, hb⟩
  have HB := hid hb
  clear hb
  go_wp2_with fail
  exact hK.out _ _ ⟨rfl, HB.out⟩
end Go.Proofs.Qxb6500353aGreat
