/- The law: Write, the kinds that turn the archive register. -/
import Derived.Test.Qxb6500353aGreatDkx
import Derived.Test.Qxb6500353aGreatHsw
import Derived.Deep.RegionHeld3
namespace Go.Proofs.Qxb6500353aGreat
open Go.RowKit
set_option linter.unusedVariables false
set_option linter.unusedSimpArgs false

theorem wrap8z (x : Int) : ∃ c : Nat, c < 256 ∧ IntKind.u8.wrap x = (c : Int) := by
  have e : IntKind.u8.signed = false := rfl
  refine ⟨(x % 256).toNat, by omega, ?_⟩
  simp only [IntKind.wrap, IntKind.bits, e]; simp; omega
theorem LawAt.setA {w0 w1 w2 : World} {M X Z mb b c : Nat} {R : DkR} (h : LawAt w0 M X Z mb b Nob R c) (h1 : Fr Nob w0 w1) {r : ByteArray} (hr : r.size ≤ maxLen) : LawAt (w1.setCell ⟨b, 2, none⟩ (.string r)) M X Z mb b Nob { R with ar := r } c := (h.fr0 h1).st2 r hr
set_option maxRecDepth 100000 in
set_option maxHeartbeats 8000000 in
theorem write7_any {w : World} {M X Z mb b c : Nat} {R : DkR} (h : LawAt w M X Z mb b Nob R c) (a b' c' : Int) (s t : ByteArray) (hs : s.size ≤ maxLen) (hai : a < 9223372036854775808) :
    Calls Tryz.prog 22 #[ptrV b, .agg #[.int .i64 7, .int .i64 a, .int .i64 b', .int .i64 c', .string s, .string t]] w fun e w' => e = .returned (.tuple #[]) ∧ WrOK w w' M X Z mb b c := by
  obtain ⟨N, hN⟩ : ∃ N, w.heap.size = N := ⟨_, rfl⟩
  have hC0 := CellsAt.mk_alloc w [.int .i64 7, .int .i64 a, .int .i64 b', .int .i64 c', .string s, .string t] 41
  obtain ⟨w0, hw0⟩ : ∃ x, w.alloc (Obj.cells #[.int .i64 7, .int .i64 a, .int .i64 b', .int .i64 c', .string s, .string t] 41) = x := ⟨_, rfl⟩
  change CellsAt (w.alloc (Obj.cells #[.int .i64 7, .int .i64 a, .int .i64 b', .int .i64 c', .string s, .string t] 41)) w.heap.size _ at hC0
  rw [hw0, hN] at hC0
  have hf0 : Fr Nob w w0 := by rw [← hw0]; exact (Fr.refl _ _).alloc _
  have h0 := h.fr0 hf0
  have HB := hid h
  have H0 := hid h0
  have HF0 : Hid (Fr (UpN X) w w0) := hid (hf0.mono (fun _ hx _ => hx.elim))
  have HC0 := hid hC0
  have hbN : b < N := by rw [← hN]; exact h.dk.lt
  have n1 : ¬ b = N := by omega
  have n2 : ¬ N = b := by omega
  have HBN := hid hbN
  have k2 : w0.cell? ⟨b, 2, none⟩ = some (.string R.ar) := h0.dk.c 2 _ rfl
  have kz : ∀ i, w0.frozen? ⟨b, i, none⟩ = false := h0.dk.fz
  have c0 := hC0.c 0 _ rfl
  have c1 := hC0.c 1 _ rfl
  have c2 := hC0.c 2 _ rfl
  obtain ⟨ar, har⟩ : ∃ z, z = R.ar := ⟨_, rfl⟩
  rw [← har] at k2
  have HZ : Hid (ar.size ≤ maxLen) := hid (by rw [har]; exact h.z3)
  have hzi : (ar.size : Int) ≤ 9223372036854775807 := by have := HZ.out; unfold maxLen at this; omega
  clear h h0 hf0 hC0 hbN har hs
  by_cases g1 : 0 ≤ a
  · have d1 : decide ((0 : Int) ≤ a) = true := decide_eq_true g1
    obtain ⟨i, rfl⟩ : ∃ i : Nat, a = (i : Int) := ⟨a.toNat, by omega⟩
    by_cases g2 : i < ar.size
    · have g2i : (i : Int) < ar.size := by omega
      have d2 : decide ((i : Int) < ar.size) = true := decide_eq_true g2i
      by_cases g3 : ar.size ≤ 1201
      · have g3i : (ar.size : Int) ≤ 1201 := by omega
        have d3 : decide ((ar.size : Int) ≤ 1201) = true := decide_eq_true g3i
        obtain ⟨x, hx⟩ : ∃ x, bits .and .i64 b' 255 = x := ⟨_, rfl⟩
        obtain ⟨c8, hc8, hw8⟩ := wrap8z x
        have HST := hid (fun (wx : World) => set_any (w := wx) (c := c8) g2 g3)
        have HG := hid (And.intro g2 g3)
        clear g3 hc8 g2
        refine calls_via fun K hK => ?_
        unfold ptrV
        go_enter Tryz.func22, Tryz.ntmps22
        go_upto_region 17 with fail
        go_quiet (fail)
        obtain ⟨w1, hw1⟩ : ∃ z, z = w0.drewN nq := ⟨_, rfl⟩
        rw [← hw1]
        have f1 : Fr Nob w0 w1 := by rw [hw1]; exact Fr.of_drewN
        have k2 := f1.cell k2 (fun x => x)
        have c1 := f1.cell c1 (fun x => x)
        have c2 := f1.cell c2 (fun x => x)
        have hd1 := H0.out.dk.fr f1 (fun x => x)
        have kz : ∀ i, w1.frozen? ⟨b, i, none⟩ = false := hd1.fz
        have HD1 := hid hd1
        have F1 := hid f1
        clear hw1 f1 hd1 d1 d2 d3
        go_upto_region 18 with fail
        go_region_with (go_at_call 41; refine (HST.out _).mono ?_; rintro e w2 ⟨rfl, f2⟩; have F2 := hid f2; have k2 := F2.out.cell k2 (fun x => x); have kz := fun i => (F2.out.froz HD1.out.lt (fun x => x) i).trans (kz i); clear f2)
        all_goals try go_wp2_with fail
        all_goals try go_end0
        all_goals
          have hz : (setS ar i c8).size ≤ maxLen := by rw [setS_size HG.out.1]; exact HZ.out
          first
            | exact hK.out _ _ ⟨rfl, ⟨_, ((H0.out.fr0 ((F1.out.drew).trans F2.out)).st2 _ hz)⟩, HB.out.upOne HF0.out ((((F1.out.drew).trans F2.out).mono (fun _ q _ => q.elim)).set1 2 _)⟩
            | exact hK.out _ _ ⟨rfl, ⟨_, ((H0.out.fr0 ((F1.out.drew).trans F2.out)).st2 _ hz).fr0 ((Fr.refl Nob _).drew)⟩, HB.out.upOne HF0.out ((((F1.out.drew).trans F2.out).mono (fun _ q _ => q.elim)).set1 2 _).drew⟩
      · have g3i : ¬ (ar.size : Int) ≤ 1201 := by omega
        have d3 : decide ((ar.size : Int) ≤ 1201) = false := decide_eq_false g3i
        refine calls_via fun K hK => ?_
        unfold ptrV
        go_enter Tryz.func22, Tryz.ntmps22
        go_upto_region 17 with fail
        go_quiet (fail)
        go_wp2_with fail
        go_end0
        exact hK.out _ _ ⟨rfl, ⟨_, H0.out.fr0 Fr.of_drewN⟩, HF0.out.drewN⟩
    · have g2i : ¬ (i : Int) < ar.size := by omega
      have d2 : decide ((i : Int) < ar.size) = false := decide_eq_false g2i
      refine calls_via fun K hK => ?_
      unfold ptrV
      go_enter Tryz.func22, Tryz.ntmps22
      go_upto_region 17 with fail
      go_quiet (fail)
      go_wp2_with fail
      go_end0
      exact hK.out _ _ ⟨rfl, ⟨_, H0.out.fr0 Fr.of_drewN⟩, HF0.out.drewN⟩
  · have d1 : decide ((0 : Int) ≤ a) = false := decide_eq_false g1
    refine calls_via fun K hK => ?_
    unfold ptrV
    go_enter Tryz.func22, Tryz.ntmps22
    go_upto_region 17 with fail
    go_quiet (fail)
    go_wp2_with fail
    go_end0
    exact hK.out _ _ ⟨rfl, ⟨_, H0.out.fr0 Fr.of_drewN⟩, HF0.out.drewN⟩
end Go.Proofs.Qxb6500353aGreat
