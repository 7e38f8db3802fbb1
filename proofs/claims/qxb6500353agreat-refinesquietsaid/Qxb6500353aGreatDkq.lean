/- The law: Write whole, Play. -/
import Derived.Test.Qxb6500353aGreatDk6
import Derived.Test.Qxb6500353aGreatDkz
import Derived.Test.Qxb6500353aGreatDks
import Derived.Test.Qxb6500353aGreatArk
namespace Go.Proofs.Qxb6500353aGreat
open Go.RowKit
set_option linter.unusedVariables false
set_option linter.unusedSimpArgs false

theorem LawAt.up {w : World} {M X Z mb b c c2 : Nat} {D0 : Nat → Prop} {R : DkR} (h : LawAt w M X Z mb b D0 R c) (hc : c ≤ c2) : LawAt w M X Z mb b D0 R c2 :=
  ⟨h.fx, h.dk, h.li, h.ln, h.x, h.xm, h.xmb, h.xl, h.y, h.ym, h.ymb, h.yl, h.st, h.od, h.a1, h.a2, Nat.le_trans h.ne hc, Nat.le_trans h.ni hc, Nat.le_trans h.nae hc, Nat.le_trans h.nai hc, h.z1, h.z2, h.z3⟩
theorem write_any {w : World} {M X Z mb b c : Nat} {R : DkR} (h : LawAt w M X Z mb b Nob R c) (k a b' c' : Int) (s t : ByteArray) (hs : s.size ≤ maxLen) (ha : a < 9223372036854775808) :
    Calls Tryz.prog 22 #[ptrV b, .agg #[.int .i64 k, .int .i64 a, .int .i64 b', .int .i64 c', .string s, .string t]] w fun e w' => e = .returned (.tuple #[]) ∧ WrOK w w' M X Z mb b c := by
  by_cases h1 : k = 1
  · subst h1; exact write1_any h a b' c' s t hs
  by_cases h2 : k = 2
  · subst h2; exact write2_any h a b' c' s t hs
  by_cases h3 : k = 3
  · subst h3; exact write3_any h a b' c' s t
  by_cases h5 : k = 5
  · subst h5; exact write5_any h a b' c' s t hs
  by_cases h6 : k = 6
  · subst h6; exact write6_any h a b' c' s t hs ha
  by_cases h7 : k = 7
  · subst h7; exact write7_any h a b' c' s t hs ha
  by_cases h12 : k = 12
  · subst h12; exact write12_any h a b' c' s t hs
  by_cases h13 : k = 13
  · subst h13; exact write13_any h a b' c' s t hs
  by_cases h14 : k = 14
  · subst h14; exact write14_any h a b' c' s t hs
  by_cases h15 : k = 15
  · subst h15; exact write15_any h a b' c' s t hs
  by_cases h11 : k = 11
  · subst h11; exact write11_any h a b' c' s t hs
  exact writeNo_any h k a b' c' s t hs (beq_eq_false_iff_ne.2 h1) (beq_eq_false_iff_ne.2 h2) (beq_eq_false_iff_ne.2 h3) (beq_eq_false_iff_ne.2 h5) (beq_eq_false_iff_ne.2 h6) (beq_eq_false_iff_ne.2 h7) (beq_eq_false_iff_ne.2 h12) (beq_eq_false_iff_ne.2 h13) (beq_eq_false_iff_ne.2 h14) (beq_eq_false_iff_ne.2 h15) (beq_eq_false_iff_ne.2 h11)
set_option maxRecDepth 100000 in
set_option maxHeartbeats 8000000 in
theorem play4_any {w : World} {M X Z mb b c : Nat} {R : DkR} (h : LawAt w M X Z mb b Nob R c) (hc : c < 100000000000000) (a b' c' : Int) (s t : ByteArray) (hs : s.size ≤ maxLen) (ha : a < 9223372036854775808) :
    Calls Tryz.prog 11 #[ptrV Z, ptrV mb, ptrV b, .agg #[.int .i64 4, .int .i64 a, .int .i64 b', .int .i64 c', .string s, .string t]] w fun e w' => e = .returned (.bool true) ∧ (∃ R', LawAt w' M X Z mb b Nob R' (c + 2)) ∧ Fr (UpN X) w w' := by
  obtain ⟨N, hN⟩ : ∃ N, w.heap.size = N := ⟨_, rfl⟩
  have hC0 := CellsAt.mk_alloc w [.int .i64 4, .int .i64 a, .int .i64 b', .int .i64 c', .string s, .string t] 41
  obtain ⟨w0, hw0⟩ : ∃ x, w.alloc (Obj.cells #[.int .i64 4, .int .i64 a, .int .i64 b', .int .i64 c', .string s, .string t] 41) = x := ⟨_, rfl⟩
  change CellsAt (w.alloc (Obj.cells #[.int .i64 4, .int .i64 a, .int .i64 b', .int .i64 c', .string s, .string t] 41)) w.heap.size _ at hC0
  rw [hw0, hN] at hC0
  have hf0 : Fr Nob w w0 := by rw [← hw0]; exact (Fr.refl _ _).alloc _
  have h0 := h.fr0 hf0
  have H0 := hid h0
  have HF0 : Hid (Fr (UpN X) w w0) := hid (hf0.mono (fun _ hx _ => hx.elim))
  have c0 := hC0.c 0 _ rfl
  have c1 := hC0.c 1 _ rfl
  have c2 := hC0.c 2 _ rfl
  have c3 := hC0.c 3 _ rfl
  have c4 := hC0.c 4 _ rfl
  have c5 := hC0.c 5 _ rfl
  have hcl := samePack_any h0 hc a
  unfold ptrV at hcl
  have HCL := hid hcl
  clear h hc hf0 h0 hC0 hcl
  refine calls_via fun K hK => ?_
  unfold ptrV
  go_enter Tryz.func11, Tryz.ntmps11
  go_wp2_with fail
  refine HCL.out.mono ?_
  rintro e w2 ⟨rfl, ⟨R2, h2⟩, f2⟩
  have H2 := hid h2
  have F2 := hid (HF0.out.trans f2)
  clear h2 f2
  go_wp2_with fail
  exact hK.out _ _ ⟨rfl, ⟨_, H2.out.up (by omega)⟩, F2.out⟩
set_option maxRecDepth 100000 in
set_option maxHeartbeats 8000000 in
theorem play8_any {w : World} {M X Z mb b c : Nat} {R : DkR} (h : LawAt w M X Z mb b Nob R c) (hc : c < 100000000000000) (a b' c' : Int) (s t : ByteArray) (hs : s.size ≤ maxLen) (ha : a < 9223372036854775808) :
    Calls Tryz.prog 11 #[ptrV Z, ptrV mb, ptrV b, .agg #[.int .i64 8, .int .i64 a, .int .i64 b', .int .i64 c', .string s, .string t]] w fun e w' => e = .returned (.bool true) ∧ (∃ R', LawAt w' M X Z mb b Nob R' (c + 2)) ∧ Fr (UpN X) w w' := by
  obtain ⟨N, hN⟩ : ∃ N, w.heap.size = N := ⟨_, rfl⟩
  have hC0 := CellsAt.mk_alloc w [.int .i64 8, .int .i64 a, .int .i64 b', .int .i64 c', .string s, .string t] 41
  obtain ⟨w0, hw0⟩ : ∃ x, w.alloc (Obj.cells #[.int .i64 8, .int .i64 a, .int .i64 b', .int .i64 c', .string s, .string t] 41) = x := ⟨_, rfl⟩
  change CellsAt (w.alloc (Obj.cells #[.int .i64 8, .int .i64 a, .int .i64 b', .int .i64 c', .string s, .string t] 41)) w.heap.size _ at hC0
  rw [hw0, hN] at hC0
  have hf0 : Fr Nob w w0 := by rw [← hw0]; exact (Fr.refl _ _).alloc _
  have h0 := h.fr0 hf0
  have H0 := hid h0
  have HF0 : Hid (Fr (UpN X) w w0) := hid (hf0.mono (fun _ hx _ => hx.elim))
  have c0 := hC0.c 0 _ rfl
  have c1 := hC0.c 1 _ rfl
  have c2 := hC0.c 2 _ rfl
  have c3 := hC0.c 3 _ rfl
  have c4 := hC0.c 4 _ rfl
  have c5 := hC0.c 5 _ rfl
  have hcl := sameList_any h0 hc
  unfold ptrV at hcl
  have HCL := hid hcl
  clear h hc hf0 h0 hC0 hcl
  refine calls_via fun K hK => ?_
  unfold ptrV
  go_enter Tryz.func11, Tryz.ntmps11
  go_wp2_with fail
  refine HCL.out.mono ?_
  rintro e w2 ⟨rfl, ⟨R2, h2⟩, f2⟩
  have H2 := hid h2
  have F2 := hid (HF0.out.trans f2)
  clear h2 f2
  go_wp2_with fail
  exact hK.out _ _ ⟨rfl, ⟨_, H2.out.up (by omega)⟩, F2.out⟩
set_option maxRecDepth 100000 in
set_option maxHeartbeats 8000000 in
theorem play9_any {w : World} {M X Z mb b c : Nat} {R : DkR} (h : LawAt w M X Z mb b Nob R c) (hc : c < 100000000000000) (a b' c' : Int) (s t : ByteArray) (hs : s.size ≤ maxLen) (ha : a < 9223372036854775808) :
    Calls Tryz.prog 11 #[ptrV Z, ptrV mb, ptrV b, .agg #[.int .i64 9, .int .i64 a, .int .i64 b', .int .i64 c', .string s, .string t]] w fun e w' => e = .returned (.bool true) ∧ (∃ R', LawAt w' M X Z mb b Nob R' (c + 2)) ∧ Fr (UpN X) w w' := by
  obtain ⟨N, hN⟩ : ∃ N, w.heap.size = N := ⟨_, rfl⟩
  have hC0 := CellsAt.mk_alloc w [.int .i64 9, .int .i64 a, .int .i64 b', .int .i64 c', .string s, .string t] 41
  obtain ⟨w0, hw0⟩ : ∃ x, w.alloc (Obj.cells #[.int .i64 9, .int .i64 a, .int .i64 b', .int .i64 c', .string s, .string t] 41) = x := ⟨_, rfl⟩
  change CellsAt (w.alloc (Obj.cells #[.int .i64 9, .int .i64 a, .int .i64 b', .int .i64 c', .string s, .string t] 41)) w.heap.size _ at hC0
  rw [hw0, hN] at hC0
  have hf0 : Fr Nob w w0 := by rw [← hw0]; exact (Fr.refl _ _).alloc _
  have h0 := h.fr0 hf0
  have H0 := hid h0
  have HF0 : Hid (Fr (UpN X) w w0) := hid (hf0.mono (fun _ hx _ => hx.elim))
  have c0 := hC0.c 0 _ rfl
  have c1 := hC0.c 1 _ rfl
  have c2 := hC0.c 2 _ rfl
  have c3 := hC0.c 3 _ rfl
  have c4 := hC0.c 4 _ rfl
  have c5 := hC0.c 5 _ rfl
  have hcl := sameUnpack_any h0 hc
  unfold ptrV at hcl
  have HCL := hid hcl
  clear h hc hf0 h0 hC0 hcl
  refine calls_via fun K hK => ?_
  unfold ptrV
  go_enter Tryz.func11, Tryz.ntmps11
  go_wp2_with fail
  refine HCL.out.mono ?_
  rintro e w2 ⟨rfl, ⟨R2, h2⟩, f2⟩
  have H2 := hid h2
  have F2 := hid (HF0.out.trans f2)
  clear h2 f2
  go_wp2_with fail
  exact hK.out _ _ ⟨rfl, ⟨_, H2.out.up (by omega)⟩, F2.out⟩
set_option maxRecDepth 100000 in
set_option maxHeartbeats 8000000 in
theorem play10_any {w : World} {M X Z mb b c : Nat} {R : DkR} (h : LawAt w M X Z mb b Nob R c) (hc : c < 100000000000000) (a b' c' : Int) (s t : ByteArray) (hs : s.size ≤ maxLen) (ha : a < 9223372036854775808) :
    Calls Tryz.prog 11 #[ptrV Z, ptrV mb, ptrV b, .agg #[.int .i64 10, .int .i64 a, .int .i64 b', .int .i64 c', .string s, .string t]] w fun e w' => e = .returned (.bool true) ∧ (∃ R', LawAt w' M X Z mb b Nob R' (c + 2)) ∧ Fr (UpN X) w w' := by
  obtain ⟨N, hN⟩ : ∃ N, w.heap.size = N := ⟨_, rfl⟩
  have hC0 := CellsAt.mk_alloc w [.int .i64 10, .int .i64 a, .int .i64 b', .int .i64 c', .string s, .string t] 41
  obtain ⟨w0, hw0⟩ : ∃ x, w.alloc (Obj.cells #[.int .i64 10, .int .i64 a, .int .i64 b', .int .i64 c', .string s, .string t] 41) = x := ⟨_, rfl⟩
  change CellsAt (w.alloc (Obj.cells #[.int .i64 10, .int .i64 a, .int .i64 b', .int .i64 c', .string s, .string t] 41)) w.heap.size _ at hC0
  rw [hw0, hN] at hC0
  have hf0 : Fr Nob w w0 := by rw [← hw0]; exact (Fr.refl _ _).alloc _
  have h0 := h.fr0 hf0
  have H0 := hid h0
  have HF0 : Hid (Fr (UpN X) w w0) := hid (hf0.mono (fun _ hx _ => hx.elim))
  have c0 := hC0.c 0 _ rfl
  have c1 := hC0.c 1 _ rfl
  have c2 := hC0.c 2 _ rfl
  have c3 := hC0.c 3 _ rfl
  have c4 := hC0.c 4 _ rfl
  have c5 := hC0.c 5 _ rfl
  obtain ⟨A, hA⟩ := h0.fx.ar
  have hcl := check_any hA
  unfold ptrV at hcl
  have HCL := hid hcl
  clear h hc hf0 h0 hC0 hcl hA
  refine calls_via fun K hK => ?_
  unfold ptrV
  go_enter Tryz.func11, Tryz.ntmps11
  go_wp2_with fail
  refine HCL.out.mono ?_
  rintro e w2 ⟨rfl, q, hq⟩
  have f2 : Fr Nob w0 w2 := by rw [hq]; exact Fr.of_drewN
  have H2 := hid (H0.out.fr0 f2)
  have F2 := hid (HF0.out.trans (f2.mono (fun _ hx _ => hx.elim)))
  clear hq f2
  go_wp2_with fail
  exact hK.out _ _ ⟨rfl, ⟨_, H2.out.up (by omega)⟩, F2.out⟩
set_option maxRecDepth 100000 in
set_option maxHeartbeats 8000000 in
theorem playNo_any {w : World} {M X Z mb b c : Nat} {R : DkR} (h : LawAt w M X Z mb b Nob R c) (hc : c < 100000000000000) (k a b' c' : Int) (s t : ByteArray) (hs : s.size ≤ maxLen) (ha : a < 9223372036854775808) (h4 : (k == 4) = false) (h8 : (k == 8) = false) (h9 : (k == 9) = false) (h10 : (k == 10) = false) :
    Calls Tryz.prog 11 #[ptrV Z, ptrV mb, ptrV b, .agg #[.int .i64 k, .int .i64 a, .int .i64 b', .int .i64 c', .string s, .string t]] w fun e w' => e = .returned (.bool true) ∧ (∃ R', LawAt w' M X Z mb b Nob R' (c + 2)) ∧ Fr (UpN X) w w' := by
  obtain ⟨N, hN⟩ : ∃ N, w.heap.size = N := ⟨_, rfl⟩
  have hC0 := CellsAt.mk_alloc w [.int .i64 k, .int .i64 a, .int .i64 b', .int .i64 c', .string s, .string t] 41
  obtain ⟨w0, hw0⟩ : ∃ x, w.alloc (Obj.cells #[.int .i64 k, .int .i64 a, .int .i64 b', .int .i64 c', .string s, .string t] 41) = x := ⟨_, rfl⟩
  change CellsAt (w.alloc (Obj.cells #[.int .i64 k, .int .i64 a, .int .i64 b', .int .i64 c', .string s, .string t] 41)) w.heap.size _ at hC0
  rw [hw0, hN] at hC0
  have hf0 : Fr Nob w w0 := by rw [← hw0]; exact (Fr.refl _ _).alloc _
  have h0 := h.fr0 hf0
  have H0 := hid h0
  have HF0 : Hid (Fr (UpN X) w w0) := hid (hf0.mono (fun _ hx _ => hx.elim))
  have c0 := hC0.c 0 _ rfl
  have c1 := hC0.c 1 _ rfl
  have c2 := hC0.c 2 _ rfl
  have c3 := hC0.c 3 _ rfl
  have c4 := hC0.c 4 _ rfl
  have c5 := hC0.c 5 _ rfl
  have hcl := write_any h0 k a b' c' s t hs ha
  unfold ptrV at hcl
  have HCL := hid hcl
  clear h hc hf0 h0 hC0 hcl
  refine calls_via fun K hK => ?_
  unfold ptrV
  go_enter Tryz.func11, Tryz.ntmps11
  go_wp2_with fail
  refine HCL.out.mono ?_
  rintro e w2 ⟨rfl, ⟨R2, h2⟩, f2⟩
  have H2 := hid h2
  have F2 := hid (HF0.out.trans f2)
  clear h2 f2
  go_wp2_with fail
  exact hK.out _ _ ⟨rfl, ⟨_, H2.out.up (by omega)⟩, F2.out⟩
theorem play_any {w : World} {M X Z mb b c : Nat} {R : DkR} (h : LawAt w M X Z mb b Nob R c) (hc : c < 100000000000000) (k a b' c' : Int) (s t : ByteArray) (hs : s.size ≤ maxLen) (ha : a < 9223372036854775808) :
    Calls Tryz.prog 11 #[ptrV Z, ptrV mb, ptrV b, .agg #[.int .i64 k, .int .i64 a, .int .i64 b', .int .i64 c', .string s, .string t]] w fun e w' => e = .returned (.bool true) ∧ (∃ R', LawAt w' M X Z mb b Nob R' (c + 2)) ∧ Fr (UpN X) w w' := by
  by_cases h4 : k = 4
  · subst h4; exact play4_any h hc a b' c' s t hs ha
  by_cases h8 : k = 8
  · subst h8; exact play8_any h hc a b' c' s t hs ha
  by_cases h9 : k = 9
  · subst h9; exact play9_any h hc a b' c' s t hs ha
  by_cases h10 : k = 10
  · subst h10; exact play10_any h hc a b' c' s t hs ha
  exact playNo_any h hc k a b' c' s t hs ha (beq_eq_false_iff_ne.2 h4) (beq_eq_false_iff_ne.2 h8) (beq_eq_false_iff_ne.2 h9) (beq_eq_false_iff_ne.2 h10)
end Go.Proofs.Qxb6500353aGreat
