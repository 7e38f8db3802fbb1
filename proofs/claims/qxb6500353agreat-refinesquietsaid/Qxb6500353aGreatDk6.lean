/- The law: Write, the bit that is turned. -/
import Derived.Test.Qxb6500353aGreatDky
import Derived.Test.Qxb6500353aGreatRgl
namespace Go.Proofs.Qxb6500353aGreat
open Go.RowKit
set_option linter.unusedVariables false
set_option linter.unusedSimpArgs false

set_option maxRecDepth 100000 in
set_option maxHeartbeats 8000000 in
theorem write6_any {w : World} {M X Z mb b c : Nat} {R : DkR} (h : LawAt w M X Z mb b Nob R c) (a b' c' : Int) (s t : ByteArray) (hs : s.size ≤ maxLen) (hai : a < 9223372036854775808) :
    Calls Tryz.prog 22 #[ptrV b, .agg #[.int .i64 6, .int .i64 a, .int .i64 b', .int .i64 c', .string s, .string t]] w fun e w' => e = .returned (.tuple #[]) ∧ WrOK w w' M X Z mb b c := by
  obtain ⟨N, hN⟩ : ∃ N, w.heap.size = N := ⟨_, rfl⟩
  have hC0 := CellsAt.mk_alloc w [.int .i64 6, .int .i64 a, .int .i64 b', .int .i64 c', .string s, .string t] 41
  obtain ⟨w0, hw0⟩ : ∃ x, w.alloc (Obj.cells #[.int .i64 6, .int .i64 a, .int .i64 b', .int .i64 c', .string s, .string t] 41) = x := ⟨_, rfl⟩
  change CellsAt (w.alloc (Obj.cells #[.int .i64 6, .int .i64 a, .int .i64 b', .int .i64 c', .string s, .string t] 41)) w.heap.size _ at hC0
  rw [hw0, hN] at hC0
  have hf0 : Fr Nob w w0 := by rw [← hw0]; exact (Fr.refl _ _).alloc _
  have h0 := h.fr0 hf0
  have HB := hid h
  have H0 := hid h0
  have HF0 : Hid (Fr (UpN X) w w0) := hid (hf0.mono (fun _ hx _ => hx.elim))
  have HC0 := hid hC0
  have hbN : b < N := by rw [← hN]; exact h.dk.lt
  have n1 : ¬ b = N := by omega
  have n2 : ¬ N = b := by omega
  have HBN := hid hbN
  have k2 : w0.cell? ⟨b, 2, none⟩ = some (.string R.ar) := h0.dk.c 2 _ rfl
  have kz : ∀ i, w0.frozen? ⟨b, i, none⟩ = false := h0.dk.fz
  have c0 := hC0.c 0 _ rfl
  have c1 := hC0.c 1 _ rfl
  have c2 := hC0.c 2 _ rfl
  obtain ⟨ar, har⟩ : ∃ z, z = R.ar := ⟨_, rfl⟩
  rw [← har] at k2
  have HZ : Hid (ar.size ≤ maxLen) := hid (by rw [har]; exact h.z3)
  have hzi : (ar.size : Int) ≤ 9223372036854775807 := by have := HZ.out; unfold maxLen at this; omega
  clear h h0 hf0 hC0 hbN har hs
  by_cases g1 : 0 ≤ a
  · have d1 : decide ((0 : Int) ≤ a) = true := decide_eq_true g1
    obtain ⟨i, rfl⟩ : ∃ i : Nat, a = (i : Int) := ⟨a.toNat, by omega⟩
    obtain ⟨j, hj⟩ : ∃ z, z = i / 8 := ⟨_, rfl⟩
    obtain ⟨r, hr⟩ : ∃ z, z = i % 8 := ⟨_, rfl⟩
    have hr8 : r < 8 := by omega
    have hq : Int.tdiv (i : Int) 8 = (j : Int) := by rw [hj]; rfl
    have hq2 : (i : Int) / 8 = (j : Int) := by omega
    have hm2 : (i : Int) % 8 = (r : Int) := by omega
    have hm : Int.tmod (i : Int) 8 = (r : Int) := by rw [hr]; rfl
    have hru : IntKind.u64.wrap (r : Int) = (r : Int) := wrapU (by omega) (by omega)
    have hri : (r : Int) < 8 := by omega
    have hwj : IntKind.i64.wrap (j : Int) = (j : Int) := wrapI (by omega) (by omega)
    clear hj hr hr8 hai
    by_cases g2 : j < ar.size
    · have g2i : (j : Int) < ar.size := by omega
      have d2 : decide ((j : Int) < ar.size) = true := decide_eq_true g2i
      by_cases g3 : ar.size ≤ 1201
      · have g3i : (ar.size : Int) ≤ 1201 := by omega
        have d3 : decide ((ar.size : Int) ≤ 1201) = true := decide_eq_true g3i
        obtain ⟨sh, hsh8, hsh⟩ := wrap8z (2 ^ r)
        have hby := byteI ar (k := j) g2
        obtain ⟨by8, hby8⟩ : ∃ z, z = by_ (bytesOf ar) j := ⟨_, rfl⟩
        have hb256 := byS_lt ar j
        rw [← hby8] at hby hb256
        obtain ⟨c8, hc8⟩ : ∃ z, z = by8 ^^^ sh := ⟨_, rfl⟩
        have hx8 : bits .xor .u8 (by8 : Int) (sh : Int) = (c8 : Int) := by rw [hc8]; exact xor8 hb256 hsh8
        clear hsh8 hby8 hb256
        have HST := hid (fun (wx : World) => set_any (w := wx) (c := c8) g2 g3)
        have HG := hid (And.intro g2 g3)
        clear g3 hc8
        refine calls_via fun K hK => ?_
        unfold ptrV
        go_enter Tryz.func22, Tryz.ntmps22
        go_upto_region 14 with fail
        go_quiet (fail)
        obtain ⟨w1, hw1⟩ : ∃ z, z = w0.drewN nq := ⟨_, rfl⟩
        rw [← hw1]
        have f1 : Fr Nob w0 w1 := by rw [hw1]; exact Fr.of_drewN
        have k2 := f1.cell k2 (fun x => x)
        have c1 := f1.cell c1 (fun x => x)
        have c2 := f1.cell c2 (fun x => x)
        have hd1 := H0.out.dk.fr f1 (fun x => x)
        have kz : ∀ i, w1.frozen? ⟨b, i, none⟩ = false := hd1.fz
        have HD1 := hid hd1
        have F1 := hid f1
        clear hw1 f1 hd1 d1 d2 d3
        go_upto_region 15 with fail
        refine region_till (X := fun w9 => w9 = w1.drew) (c := 22) (by kernel_rfl) ?_
        refine AnyTill.takeP (i := 0) (v := ?v0) rfl (by kernel_rfl) (fun _ _ _ h => h) (Or.inl ⟨by rfl, ?hy0⟩) rfl ?rest0
        case hy0 => (intro w9 hw9; (try subst hw9); go_simp; try with_reducible rfl)
        case rest0 =>
        try simp only [Act.put, List.setIfInBounds_toArray, List.set_cons_zero, List.set_cons_succ]
        refine AnyTill.takeP (i := 1) (v := ?v1) rfl (by kernel_rfl) (fun _ _ _ h => h) (Or.inl ⟨by rfl, ?hy1⟩) rfl ?rest1
        case hy1 => (intro w9 hw9; (try subst hw9); go_simp; try with_reducible rfl)
        case rest1 =>
        try simp only [Act.put, List.setIfInBounds_toArray, List.set_cons_zero, List.set_cons_succ]
        refine AnyTill.takeP (i := 2) (v := ?v2) rfl (by kernel_rfl) (fun _ _ _ h => h) (Or.inl ⟨by rfl, ?hy2⟩) rfl ?rest2
        case hy2 => (intro w9 hw9; (try subst hw9); go_simp; try with_reducible rfl)
        case rest2 =>
        try simp only [Act.put, List.setIfInBounds_toArray, List.set_cons_zero, List.set_cons_succ]
        refine AnyTill.takeP (i := 3) (v := ?v3) rfl (by kernel_rfl) (fun _ _ _ h => h) (Or.inl ⟨by rfl, ?hy3⟩) rfl ?rest3
        case hy3 => (intro w9 hw9; (try subst hw9); go_simp; try with_reducible rfl)
        case rest3 =>
        try simp only [Act.put, List.setIfInBounds_toArray, List.set_cons_zero, List.set_cons_succ]
        refine AnyTill.take (i := 4) [4] (v := ?v4) rfl (by kernel_rfl) (by kernel_rfl) (fun _ _ _ h => h) (Or.inl ⟨by rfl, ?hy4⟩) rfl ?rest4
        case hy4 => (intro w9 hw9; (try subst hw9); go_simp; try with_reducible rfl)
        case rest4 =>
        try simp only [Act.put, List.setIfInBounds_toArray, List.set_cons_zero, List.set_cons_succ]
        refine AnyTill.takeP (i := 5) (v := ?v5) rfl (by kernel_rfl) (fun _ _ _ h => h) (Or.inl ⟨by rfl, ?hy5⟩) rfl ?rest5
        case hy5 => (intro w9 hw9; (try subst hw9); go_simp; try with_reducible rfl)
        case rest5 =>
        try simp only [Act.put, List.setIfInBounds_toArray, List.set_cons_zero, List.set_cons_succ]
        refine AnyTill.take (i := 6) [7, 6] (v := ?v6) rfl (by kernel_rfl) (by kernel_rfl) (fun _ _ _ h => h) (Or.inl ⟨by rfl, ?hy6⟩) rfl ?rest6
        case hy6 => (intro w9 hw9; (try subst hw9); go_simp; try with_reducible rfl)
        case rest6 =>
        try simp only [Act.put, List.setIfInBounds_toArray, List.set_cons_zero, List.set_cons_succ]
        refine AnyTill.takeP (i := 7) (v := ?v7) rfl (by kernel_rfl) (fun _ _ _ h => h) (Or.inl ⟨by rfl, ?hy7⟩) rfl ?rest7
        case hy7 => (intro w9 hw9; (try subst hw9); go_simp; try with_reducible rfl)
        case rest7 =>
        try simp only [Act.put, List.setIfInBounds_toArray, List.set_cons_zero, List.set_cons_succ]
        refine AnyTill.takeP (i := 8) (v := ?v8) rfl (by kernel_rfl) (fun _ _ _ h => h) (Or.inl ⟨by rfl, ?hy8⟩) rfl ?rest8
        case hy8 => (intro w9 hw9; (try subst hw9); go_simp; try with_reducible rfl)
        case rest8 =>
        try simp only [Act.put, List.setIfInBounds_toArray, List.set_cons_zero, List.set_cons_succ]
        refine AnyTill.takeP (i := 9) (v := ?v9) rfl (by kernel_rfl) (fun _ _ _ h => h) (Or.inl ⟨by rfl, ?hy9⟩) rfl ?rest9
        case hy9 => (intro w9 hw9; (try subst hw9); go_simp; try with_reducible rfl)
        case rest9 =>
        try simp only [Act.put, List.setIfInBounds_toArray, List.set_cons_zero, List.set_cons_succ]
        refine AnyTill.takeP (i := 10) (v := ?v10) rfl (by kernel_rfl) (fun _ _ _ h => h) (Or.inl ⟨by rfl, ?hy10⟩) rfl ?rest10
        case hy10 => (intro w9 hw9; (try subst hw9); go_simp; try with_reducible rfl)
        case rest10 =>
        try simp only [Act.put, List.setIfInBounds_toArray, List.set_cons_zero, List.set_cons_succ]
        refine AnyTill.take (i := 11) [21, 15, 11] (v := ?v11) rfl (by kernel_rfl) (by kernel_rfl) (fun _ _ _ h => h) (Or.inl ⟨by rfl, ?hy11⟩) rfl ?rest11
        case hy11 => (intro w9 hw9; (try subst hw9); go_simp; try with_reducible rfl)
        case rest11 =>
        try simp only [Act.put, List.setIfInBounds_toArray, List.set_cons_zero, List.set_cons_succ]
        refine AnyTill.takeP (i := 12) (v := ?v12) rfl (by kernel_rfl) (fun _ _ _ h => h) (Or.inl ⟨by rfl, ?hy12⟩) rfl ?rest12
        case hy12 => (intro w9 hw9; (try subst hw9); go_simp; try with_reducible rfl)
        case rest12 =>
        try simp only [Act.put, List.setIfInBounds_toArray, List.set_cons_zero, List.set_cons_succ]
        refine AnyTill.take (i := 13) [21, 15, 14, 13] (v := ?v13) rfl (by kernel_rfl) (by kernel_rfl) (fun _ _ _ h => h) (Or.inl ⟨by rfl, ?hy13⟩) rfl ?rest13
        case hy13 => (intro w9 hw9; (try subst hw9); go_simp; try with_reducible rfl)
        case rest13 =>
        try simp only [Act.put, List.setIfInBounds_toArray, List.set_cons_zero, List.set_cons_succ]
        refine AnyTill.takeP (i := 14) (v := ?v14) rfl (by kernel_rfl) (fun _ _ _ h => h) (Or.inl ⟨by rfl, ?hy14⟩) rfl ?rest14
        case hy14 => (intro w9 hw9; (try subst hw9); go_simp; try with_reducible rfl)
        case rest14 =>
        try simp only [Act.put, List.setIfInBounds_toArray, List.set_cons_zero, List.set_cons_succ]
        refine AnyTill.takeP (i := 15) (v := ?v15) rfl (by kernel_rfl) (fun _ _ _ h => h) (Or.inl ⟨by rfl, ?hy15⟩) rfl ?rest15
        case hy15 => (intro w9 hw9; (try subst hw9); go_simp; try with_reducible rfl)
        case rest15 =>
        try simp only [Act.put, List.setIfInBounds_toArray, List.set_cons_zero, List.set_cons_succ]
        refine AnyTill.takeP (i := 16) (v := ?v16) rfl (by kernel_rfl) (fun _ _ _ h => h) (Or.inl ⟨by rfl, ?hy16⟩) rfl ?rest16
        case hy16 => (intro w9 hw9; (try subst hw9); go_simp; try with_reducible rfl)
        case rest16 =>
        try simp only [Act.put, List.setIfInBounds_toArray, List.set_cons_zero, List.set_cons_succ]
        refine AnyTill.take (i := 17) [21, 20, 19, 18, 17] (v := ?v17) rfl (by kernel_rfl) (by kernel_rfl) (fun _ _ _ h => h) (Or.inl ⟨by rfl, ?hy17⟩) rfl ?rest17
        case hy17 => (intro w9 hw9; (try subst hw9); go_simp; try with_reducible rfl)
        case rest17 =>
        try simp only [Act.put, List.setIfInBounds_toArray, List.set_cons_zero, List.set_cons_succ]
        refine AnyTill.takeP (i := 18) (v := ?v18) rfl (by kernel_rfl) (fun _ _ _ h => h) (Or.inl ⟨by rfl, ?hy18⟩) rfl ?rest18
        case hy18 => (intro w9 hw9; (try subst hw9); go_simp; try with_reducible rfl)
        case rest18 =>
        try simp only [Act.put, List.setIfInBounds_toArray, List.set_cons_zero, List.set_cons_succ]
        refine AnyTill.takeP (i := 19) (v := ?v19) rfl (by kernel_rfl) (fun _ _ _ h => h) (Or.inl ⟨by rfl, ?hy19⟩) rfl ?rest19
        case hy19 => (intro w9 hw9; (try subst hw9); go_simp; try with_reducible rfl)
        case rest19 =>
        try simp only [Act.put, List.setIfInBounds_toArray, List.set_cons_zero, List.set_cons_succ]
        refine AnyTill.takeP (i := 20) (v := ?v20) rfl (by kernel_rfl) (fun _ _ _ h => h) (Or.inl ⟨by rfl, ?hy20⟩) rfl ?rest20
        case hy20 => (intro w9 hw9; (try subst hw9); go_simp; try with_reducible rfl)
        case rest20 =>
        try simp only [Act.put, List.setIfInBounds_toArray, List.set_cons_zero, List.set_cons_succ]
        refine AnyTill.takeP (i := 21) (v := ?v21) rfl (by kernel_rfl) (fun _ _ _ h => h) (Or.inl ⟨by rfl, ?hy21⟩) rfl ?rest21
        case hy21 => (intro w9 hw9; (try subst hw9); go_simp; try with_reducible rfl)
        case rest21 =>
        try simp only [Act.put, List.setIfInBounds_toArray, List.set_cons_zero, List.set_cons_succ]
        refine AnyTill.last (by kernel_rfl) (of_decide_eq_true (by kernel_rfl)) ?_
        refine wpOp_step rfl (fun K' hK' => ?_)
        rw [if_pos (by rfl)]
        go_simp
        refine (HST.out _).mono ?_
        rintro e w2 ⟨rfl, f2⟩
        have F2 := hid f2
        have k2 := F2.out.cell k2 (fun x => x)
        have kz : ∀ i, w2.frozen? ⟨b, i, none⟩ = false := fun i => (F2.out.froz HD1.out.lt (fun x => x) i).trans (kz i)
        clear f2
        try dsimp only
        refine hK' _ _ ?_
        clear hK' K'
        try simp only [Act.put, List.setIfInBounds_toArray, List.set_cons_zero, List.set_cons_succ]
        refine wpAny_take (i := 23) (v := ?v23) rfl (by kernel_rfl) (by kernel_rfl) (by kernel_rfl) (fun _ _ _ h => h) (Or.inl ⟨by rfl, ?hy23⟩) ?rest23
        case hy23 => (intro w9; go_simp; try with_reducible rfl)
        case rest23 =>
        try simp only [Act.put, List.setIfInBounds_toArray, List.set_cons_zero, List.set_cons_succ]
        refine wpAny_take (i := 24) (v := ?v24) rfl (by kernel_rfl) (by kernel_rfl) (by kernel_rfl) (fun _ _ _ h => h) (Or.inl ⟨by rfl, ?hy24⟩) ?rest24
        case hy24 => (intro w9; go_simp; try with_reducible rfl)
        case rest24 =>
        try simp only [Act.put, List.setIfInBounds_toArray, List.set_cons_zero, List.set_cons_succ]
        refine wpAny_ready (rs := [25]) (by kernel_rfl) (by simp) (AllReady.cons rfl (fun K' hK' => ?_) AllReady.nil)
        go_simp
        refine hK' _ _ (wpAny_done (by kernel_rfl) ?_ _)
        clear hK' K'
        go_wp2_with fail
        go_end0
        have hz : (setS ar j c8).size ≤ maxLen := by rw [setS_size HG.out.1]; exact HZ.out
        exact hK.out _ _ ⟨rfl, ⟨_, ((H0.out.fr0 ((F1.out.drew).trans F2.out)).st2 _ hz)⟩, HB.out.upOne HF0.out ((((F1.out.drew).trans F2.out).mono (fun _ q _ => q.elim)).set1 2 _)⟩
      · have g3i : ¬ (ar.size : Int) ≤ 1201 := by omega
        have d3 : decide ((ar.size : Int) ≤ 1201) = false := decide_eq_false g3i
        refine calls_via fun K hK => ?_
        unfold ptrV
        go_enter Tryz.func22, Tryz.ntmps22
        go_upto_region 14 with fail
        go_quiet (fail)
        go_wp2_with fail
        go_end0
        exact hK.out _ _ ⟨rfl, ⟨_, H0.out.fr0 Fr.of_drewN⟩, HF0.out.drewN⟩
    · have g2i : ¬ (j : Int) < ar.size := by omega
      have d2 : decide ((j : Int) < ar.size) = false := decide_eq_false g2i
      refine calls_via fun K hK => ?_
      unfold ptrV
      go_enter Tryz.func22, Tryz.ntmps22
      go_upto_region 14 with fail
      go_quiet (fail)
      go_wp2_with fail
      go_end0
      exact hK.out _ _ ⟨rfl, ⟨_, H0.out.fr0 Fr.of_drewN⟩, HF0.out.drewN⟩
  · have d1 : decide ((0 : Int) ≤ a) = false := decide_eq_false g1
    refine calls_via fun K hK => ?_
    unfold ptrV
    go_enter Tryz.func22, Tryz.ntmps22
    go_upto_region 14 with fail
    go_quiet (fail)
    go_wp2_with fail
    go_end0
    exact hK.out _ _ ⟨rfl, ⟨_, H0.out.fr0 Fr.of_drewN⟩, HF0.out.drewN⟩
end Go.Proofs.Qxb6500353aGreat
