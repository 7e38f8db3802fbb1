/- The walk over the script. -/
import Derived.Test.Qxb6500354aGreatPly
namespace Go.Proofs.Qxb6500354aGreat
open Go.RowKit
set_option linter.unusedVariables false
set_option linter.unusedSimpArgs false

structure OpS where
  k : Int
  a : Int
  b : Int
  c : Int
  s : ByteArray
  t : ByteArray
/-- The i-th op lies at (g, o). -/
structure OpAt (w : World) (g o : Nat) (p : OpS) : Prop where
  c0 : w.cell? ⟨g, o, none⟩ = some (.int .i64 p.k)
  c1 : w.cell? ⟨g, o + 1, none⟩ = some (.int .i64 p.a)
  c2 : w.cell? ⟨g, o + 2, none⟩ = some (.int .i64 p.b)
  c3 : w.cell? ⟨g, o + 3, none⟩ = some (.int .i64 p.c)
  c4 : w.cell? ⟨g, o + 4, none⟩ = some (.string p.s)
  c5 : w.cell? ⟨g, o + 5, none⟩ = some (.string p.t)
  hs : p.s.size ≤ maxLen
  ht : p.t.size ≤ maxLen
theorem belowCell {M : Nat} {w w2 : World} (h : Below M w w2) {g o : Nat} {v : Value} (hg : g < M) (hc : w.cell? ⟨g, o, none⟩ = some v) : w2.cell? ⟨g, o, none⟩ = some v := (cellB (h.block g hg) o).trans hc
theorem OpAt.below {M : Nat} {w w2 : World} {g o : Nat} {p : OpS} (h : OpAt w g o p) (hb : Below M w w2) (hg : g < M) : OpAt w2 g o p :=
  ⟨belowCell hb hg h.c0, belowCell hb hg h.c1, belowCell hb hg h.c2, belowCell hb hg h.c3, belowCell hb hg h.c4, belowCell hb hg h.c5, h.hs, h.ht⟩
/-- The script: a slice of ops. -/
def OpsAt (w : World) (v : Value) (n : Nat) : Prop := n = 0 ∨ ∃ g o cap, v = .slice (some ⟨g, o, none⟩) n cap ∧ g < w.heap.size ∧ ∀ i, i < n → ∃ p, OpAt w g (o + i * 6) p
set_option maxRecDepth 100000 in
set_option maxHeartbeats 8000000 in
theorem walk_any {w : World} {a : Option Addr} {n cap : Nat} (h : OpsAt w (.slice a n cap) n) (hn : n ≤ maxLen) (q : Bool) :
    Calls Tryz.prog 7 #[.slice a n cap, .bool q] w fun e w' => (∃ m : Int, e = .returned (.tuple #[.int .i64 (-1), .int .i64 m])) ∧ Below w.heap.size w w' := by
  have H := hid h
  have hni : (n : Int) ≤ 9223372036854775807 := by unfold maxLen at hn; omega
  obtain ⟨M0, hM0⟩ : ∃ z, w.heap.size = z := ⟨_, rfl⟩
  rw [hM0]
  have HM0 := hid hM0
  clear h hM0
  refine calls_via fun K hK => ?_
  go_enter Tryz.func7, Tryz.ntmps7
  go_wp2_with fail
  refine (newWorld_any w q).mono ?_
  rintro e w1 ⟨B, S, rfl, hw, hM, hf⟩
  unfold ptrV
  have HB := hid (show B.M = M0 by rw [hM]; exact HM0.out)
  have HW := hid hw
  have HF : Hid (Below M0 w w1) := hid (hf.belowM (Nat.le_of_eq HM0.out.symm) (by simp))
  clear hw hM hf
  go_wp2_with fail
  obtain ⟨N, hN⟩ : ∃ z, min n 4398046511104 = z := ⟨_, rfl⟩
  have HN : Hid (N ≤ n ∧ N ≤ 4398046511104 ∧ (N = n ∨ N = 4398046511104 ∧ 4398046511104 < n)) := hid (by omega)
  clear hN
  go_loopg [7] N (fun g i wr => g ≤ N ∧ i = .int .i64 ((N - g : Nat) : Int) ∧ (∃ S, WdAt wr B S q) ∧ Below M0 w wr)
  case atStart => exact ⟨by omega, by simp, ⟨_, HW.out⟩, HF.out⟩
  case round =>
    obtain ⟨hg, rfl, ⟨S2, hw⟩, hb⟩ := hrel
    have HW2 := hid hw
    have HB2 := hid hb
    by_cases hlt : 0 < gk
    · obtain ⟨j0, rfl⟩ : ∃ j, gk = j + 1 := ⟨gk - 1, by omega⟩
      obtain ⟨k, hk⟩ : ∃ k, N - (j0 + 1) = k := ⟨_, rfl⟩
      rw [hk]
      have hn2 := HN.out
      have hki : (k : Int) < n := by omega
      have hki2 : (k : Int) < 4398046511104 := by omega
      rcases H.out with hz0 | ⟨g, o, cap2, hsl, hgl, hops⟩
      · omega
      simp only [Value.slice.injEq, true_and] at hsl
      obtain ⟨rfl, hcp⟩ := hsl
      obtain ⟨p, hp⟩ := hops k (by omega)
      have hp2 := hp.below hb (by rw [← HM0.out]; exact hgl)
      have HP := hid hp2
      have c0 := hp2.c0
      have c1 := hp2.c1
      have c2 := hp2.c2
      have c3 := hp2.c3
      have c4 := hp2.c4
      have c5 := hp2.c5
      have HK0 : Hid (k + 1 = N - j0 ∧ j0 + 1 ≤ N) := hid (by omega)
      clear hg hw hb hk hn2 hp hp2 hops hgl hcp
      go_wp2_with fail
      clear c0 c1 c2 c3 c4 c5
      refine (play_any HW2.out p.k p.a p.b p.c p.s p.t HP.out.hs HP.out.ht).mono ?_
      rintro e w2 ⟨rfl, hok⟩
      have HOK := hid hok
      clear hok
      go_wp2_with fail
      go_roundg j0
      case measure => omega
      case rel =>
        have hk := HK0.out
        exact ⟨by omega, by rw [← hk.1]; simp, HOK.out.1, HB2.out.trans (by have := HOK.out.2; rw [HB.out] at this; exact this)⟩
    · have hg0 : gk = 0 := by omega
      subst hg0
      rw [Nat.sub_zero]
      clear hg hw hb hlt
      have hn2 := HN.out
      by_cases hle : n ≤ 4398046511104
      · have e1 : N = n := by omega
        subst e1
        have hg1 : ¬ (4398046511104 : Int) < N := by omega
        clear hn2 hle
        go_wp2_with fail
        refine (untouched_any HW2.out.cc rfl HW2.out.mn HW2.out.st HW2.out.ln).mono ?_
        rintro e w' ⟨rfl, rfl⟩
        go_wp2_with fail
        exact hK.out _ _ ⟨⟨_, rfl⟩, HB2.out⟩
      · have e1 : N = 4398046511104 := by omega
        subst e1
        have hg1 : (4398046511104 : Int) < n := by omega
        clear hn2 hle
        go_wp2_with fail
        refine (untouched_any HW2.out.cc rfl HW2.out.mn HW2.out.st HW2.out.ln).mono ?_
        rintro e w' ⟨rfl, rfl⟩
        go_wp2_with fail
        exact hK.out _ _ ⟨⟨_, rfl⟩, HB2.out⟩
/-- RefinesUpTo, RefinesQuietUpTo, Refines, RefinesQuiet. -/
theorem upQ_any {w : World} {a : Option Addr} {n cap : Nat} (h : OpsAt w (.slice a n cap) n) (hn : n ≤ maxLen) :
    Calls Tryz.prog 5 #[.slice a n cap] w fun e w' => e = .returned (.int .i64 (-1)) ∧ Below w.heap.size w w' := by
  have HW := hid (walk_any h hn true)
  clear h
  refine calls_via fun K hK => ?_
  go_enter Tryz.func5, Tryz.ntmps5
  go_wp2_with fail
  refine HW.out.mono ?_
  rintro e w' ⟨⟨m, rfl⟩, hb⟩
  have HB := hid hb
  clear hb
  go_wp2_with fail
  exact hK.out _ _ ⟨rfl, HB.out⟩
theorem up_any {w : World} {a : Option Addr} {n cap : Nat} (h : OpsAt w (.slice a n cap) n) (hn : n ≤ maxLen) :
    Calls Tryz.prog 6 #[.slice a n cap] w fun e w' => e = .returned (.int .i64 (-1)) ∧ Below w.heap.size w w' := by
  have HW := hid (walk_any h hn false)
  clear h
  refine calls_via fun K hK => ?_
  go_enter Tryz.func6, Tryz.ntmps6
  go_wp2_with fail
  refine HW.out.mono ?_
  rintro e w' ⟨⟨m, rfl⟩, hb⟩
  have HB := hid hb
  clear hb
  go_wp2_with fail
  exact hK.out _ _ ⟨rfl, HB.out⟩
theorem refinesQuiet_any {w : World} {a : Option Addr} {n cap : Nat} (h : OpsAt w (.slice a n cap) n) (hn : n ≤ maxLen) :
    Calls Tryz.prog 3 #[.slice a n cap] w fun e w' => e = .returned (.bool true) ∧ Below w.heap.size w w' := by
  have HW := hid (upQ_any h hn)
  clear h
  refine calls_via fun K hK => ?_
  go_enter Tryz.func3, Tryz.ntmps3
  go_wp2_with fail
  refine HW.out.mono ?_
  rintro e w' ⟨rfl, hb⟩
  have HB := hid hb
  clear hb
  go_wp2_with fail
  exact hK.out _ _ ⟨rfl, HB.out⟩
theorem refines_any {w : World} {a : Option Addr} {n cap : Nat} (h : OpsAt w (.slice a n cap) n) (hn : n ≤ maxLen) :
    Calls Tryz.prog 4 #[.slice a n cap] w fun e w' => e = .returned (.bool true) ∧ Below w.heap.size w w' := by
  have HW := hid (up_any h hn)
  clear h
  refine calls_via fun K hK => ?_
  go_enter Tryz.func4, Tryz.ntmps4
  go_wp2_with fail
  refine HW.out.mono ?_
  rintro e w' ⟨rfl, hb⟩
  have HB := hid hb
  clear hb
  go_wp2_with fail
  exact hK.out _ _ ⟨rfl, HB.out⟩
end Go.Proofs.Qxb6500354aGreat
