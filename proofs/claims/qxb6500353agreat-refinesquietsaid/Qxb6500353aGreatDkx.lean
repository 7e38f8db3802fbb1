/- The law: Write, walked. -/
import Derived.Test.Qxb6500353aGreatDkv
import Derived.Test.Qxb6500353aGreatLwc
import Derived.Deep.AppendLies
import Derived.Deep.RegionLaw
namespace Go.Proofs.Qxb6500353aGreat
open Go.RowKit
set_option linter.unusedVariables false
set_option linter.unusedSimpArgs false

/-- What a step on the registers leaves. -/
def WrOK (w w' : World) (M X Z mb b c : Nat) : Prop := (∃ R', LawAt w' M X Z mb b Nob R' c) ∧ Fr (UpN X) w w'
theorem LawAt.st0 {w : World} {M X Z mb b c : Nat} {D0 : Nat → Prop} {R : DkR} (h : LawAt w M X Z mb b D0 R c) (r : ByteArray) (hr : r.size ≤ maxLen) : LawAt (w.setCell ⟨b, 0, none⟩ (.string r)) M X Z mb b D0 { R with nm := r } c :=
  h.putS ((Fr.refl _ _).set1 0 _) r R.dt R.ar R.pin R.pl (h.dk.put 0 _ (by omega) (by simp [dkL])) hr h.z2 h.z3
theorem LawAt.st1 {w : World} {M X Z mb b c : Nat} {D0 : Nat → Prop} {R : DkR} (h : LawAt w M X Z mb b D0 R c) (r : ByteArray) (hr : r.size ≤ maxLen) : LawAt (w.setCell ⟨b, 1, none⟩ (.string r)) M X Z mb b D0 { R with dt := r } c :=
  h.putS ((Fr.refl _ _).set1 1 _) R.nm r R.ar R.pin R.pl (h.dk.put 1 _ (by omega) (by simp [dkL])) h.z1 hr h.z3
theorem LawAt.st2 {w : World} {M X Z mb b c : Nat} {D0 : Nat → Prop} {R : DkR} (h : LawAt w M X Z mb b D0 R c) (r : ByteArray) (hr : r.size ≤ maxLen) : LawAt (w.setCell ⟨b, 2, none⟩ (.string r)) M X Z mb b D0 { R with ar := r } c :=
  h.putS ((Fr.refl _ _).set1 2 _) R.nm R.dt r R.pin R.pl (h.dk.put 2 _ (by omega) (by simp [dkL])) h.z1 h.z2 hr
theorem LawAt.st22 {w : World} {M X Z mb b c : Nat} {D0 : Nat → Prop} {R : DkR} (h : LawAt w M X Z mb b D0 R c) (v : Bool) : LawAt (w.setCell ⟨b, 22, none⟩ (.bool v)) M X Z mb b D0 { R with pin := v } c :=
  h.putS ((Fr.refl _ _).set1 22 _) R.nm R.dt R.ar v R.pl (h.dk.put 22 _ (by omega) (by simp [dkL])) h.z1 h.z2 h.z3
theorem LawAt.st25 {w : World} {M X Z mb b c : Nat} {D0 : Nat → Prop} {R : DkR} (h : LawAt w M X Z mb b D0 R c) (v : Bool) : LawAt (w.setCell ⟨b, 25, none⟩ (.bool v)) M X Z mb b D0 { R with pl := v } c :=
  h.putS ((Fr.refl _ _).set1 25 _) R.nm R.dt R.ar R.pin v (h.dk.put 25 _ (by omega) (by simp [dkL])) h.z1 h.z2 h.z3
/-- The list register is emptied. -/
theorem LawAt.st3 {w : World} {M X Z mb b c : Nat} {R : DkR} (h : LawAt w M X Z mb b Nob R c) : LawAt (w.setCell ⟨b, 3, none⟩ (.slice none 0 0)) M X Z mb b Nob { R with la := none, lcap := 0, es := [] } c := by
  have hf : Fr (One b) w (w.setCell ⟨b, 3, none⟩ (.slice none 0 0)) := (Fr.refl _ _).set1 3 _
  have hst := h.st.fr (D2 := fun g => Own { R with la := none, lcap := 0, es := [] } g ∨ Nob g) hf (fun g h1 h2 q => by unfold One at q; omega) (fun g h1 h2 hg => by
    rcases hg with (hg | hg | hg) | hg
    · cases hg
    · exact .inl (.inr (.inl hg))
    · exact .inl (.inr (.inr hg))
    · exact hg.elim)
  exact ⟨h.fx.fr hf (fun x h1 h2 q => by unfold One at q; omega), h.dk.put 3 _ (by omega) (by simp [dkL]), OwnG.nil _ _ _ _, by simp, h.x.fr2 hf (fun g hg hbg q => by unfold One at q; omega), h.xm.fr2 hf (fun g hg hl q => by unfold One at q; have := h.xmb g hg; omega), h.xmb, h.xl, h.y.fr2 hf (fun g hg hbg q => by unfold One at q; omega), h.ym.fr2 hf (fun g hg hl q => by unfold One at q; have := h.ymb g hg; omega), h.ymb, h.yl, ⟨hst.oe, hst.oi, hst.fe, hst.fi, hst.he, hst.hi, hst.hl⟩, fun _ _ q => q, fun g hg => (by cases hg), h.a2, h.ne, h.ni, h.nae, h.nai, h.z1, h.z2, h.z3⟩
theorem LawAt.upOne {w w1 w2 : World} {M X Z mb b c : Nat} {R : DkR} (h : LawAt w M X Z mb b Nob R c) (h1 : Fr (UpN X) w w1) (h2 : Fr (One b) w1 w2) : Fr (UpN X) w w2 := h1.trans (h2.mono fun x hx _ => by
  have h3 := h.fx.zb
  have h4 := h.fx.xz
  unfold One at hx
  unfold UpN; omega)
set_option maxRecDepth 100000 in
set_option maxHeartbeats 8000000 in
theorem write1_any {w : World} {M X Z mb b c : Nat} {R : DkR} (h : LawAt w M X Z mb b Nob R c) (a b' c' : Int) (s t : ByteArray) (hs : s.size ≤ maxLen) :
    Calls Tryz.prog 22 #[ptrV b, .agg #[.int .i64 1, .int .i64 a, .int .i64 b', .int .i64 c', .string s, .string t]] w fun e w' => e = .returned (.tuple #[]) ∧ WrOK w w' M X Z mb b c := by
  obtain ⟨N, hN⟩ : ∃ N, w.heap.size = N := ⟨_, rfl⟩
  have hC0 := CellsAt.mk_alloc w [.int .i64 1, .int .i64 a, .int .i64 b', .int .i64 c', .string s, .string t] 41
  obtain ⟨w0, hw0⟩ : ∃ x, w.alloc (Obj.cells #[.int .i64 1, .int .i64 a, .int .i64 b', .int .i64 c', .string s, .string t] 41) = x := ⟨_, rfl⟩
  change CellsAt (w.alloc (Obj.cells #[.int .i64 1, .int .i64 a, .int .i64 b', .int .i64 c', .string s, .string t] 41)) w.heap.size _ at hC0
  rw [hw0, hN] at hC0
  have hf0 : Fr Nob w w0 := by rw [← hw0]; exact (Fr.refl _ _).alloc _
  have h0 := h.fr0 hf0
  have HB := hid h
  have H0 := hid h0
  have HF0 : Hid (Fr (UpN X) w w0) := hid (hf0.mono (fun _ hx _ => hx.elim))
  have HC0 := hid hC0
  have k0 : w0.cell? ⟨b, 0, none⟩ = some (.string R.nm) := h0.dk.c 0 _ rfl
  have k1 : w0.cell? ⟨b, 1, none⟩ = some (.string R.dt) := h0.dk.c 1 _ rfl
  have k2 : w0.cell? ⟨b, 2, none⟩ = some (.string R.ar) := h0.dk.c 2 _ rfl
  have kz : ∀ i, w0.frozen? ⟨b, i, none⟩ = false := h0.dk.fz
  have c0 := hC0.c 0 _ rfl
  have c1 := hC0.c 1 _ rfl
  have c2 := hC0.c 2 _ rfl
  have c4 := hC0.c 4 _ rfl
  have hbN : b < N := by rw [← hN]; exact h.dk.lt
  have n1 : ¬ b = N := by omega
  have n2 : ¬ N = b := by omega
  have HBN := hid hbN
  have HJ := hid (show ∀ (wx : World), Calls Tryz.prog 40 #[.string R.nm, .string s, .int .i64 8] wx fun e w' => (∃ r : ByteArray, e = .returned (.string r) ∧ (r = R.nm ∨ r.size ≤ 8 + 1)) ∧ w' = wx from fun wx => lengthen_any (m := 8) (by omega) h.z1 hs)
  have HZ := hid h.z1
  clear h h0 hf0 hC0 hbN
  refine calls_via fun K hK => ?_
  unfold ptrV
  go_enter Tryz.func22, Tryz.ntmps22
  go_wp2_with fail
  go_region_with (go_at_call 40; refine (HJ.out _).mono ?_; rintro e w' ⟨⟨r, rfl, hr⟩, hw⟩; have hw2 := hw.symm; subst hw2; clear hw; have HR := hid hr; clear hr)
  all_goals try go_wp2_with fail
  all_goals try go_end0
  all_goals
    have hr : r.size ≤ maxLen := by
      rcases HR.out with e | e
      · rw [e]; exact HZ.out
      · unfold maxLen; omega
    exact hK.out _ _ ⟨rfl, ⟨_, (H0.out.st0 r hr).fr0 ((Fr.refl Nob _).drew)⟩, HB.out.upOne HF0.out (((Fr.refl (One b) w0).set1 0 (.string r)).drew)⟩
set_option maxRecDepth 100000 in
set_option maxHeartbeats 8000000 in
theorem write2_any {w : World} {M X Z mb b c : Nat} {R : DkR} (h : LawAt w M X Z mb b Nob R c) (a b' c' : Int) (s t : ByteArray) (hs : s.size ≤ maxLen) :
    Calls Tryz.prog 22 #[ptrV b, .agg #[.int .i64 2, .int .i64 a, .int .i64 b', .int .i64 c', .string s, .string t]] w fun e w' => e = .returned (.tuple #[]) ∧ WrOK w w' M X Z mb b c := by
  obtain ⟨N, hN⟩ : ∃ N, w.heap.size = N := ⟨_, rfl⟩
  have hC0 := CellsAt.mk_alloc w [.int .i64 2, .int .i64 a, .int .i64 b', .int .i64 c', .string s, .string t] 41
  obtain ⟨w0, hw0⟩ : ∃ x, w.alloc (Obj.cells #[.int .i64 2, .int .i64 a, .int .i64 b', .int .i64 c', .string s, .string t] 41) = x := ⟨_, rfl⟩
  change CellsAt (w.alloc (Obj.cells #[.int .i64 2, .int .i64 a, .int .i64 b', .int .i64 c', .string s, .string t] 41)) w.heap.size _ at hC0
  rw [hw0, hN] at hC0
  have hf0 : Fr Nob w w0 := by rw [← hw0]; exact (Fr.refl _ _).alloc _
  have h0 := h.fr0 hf0
  have HB := hid h
  have H0 := hid h0
  have HF0 : Hid (Fr (UpN X) w w0) := hid (hf0.mono (fun _ hx _ => hx.elim))
  have HC0 := hid hC0
  have k0 : w0.cell? ⟨b, 0, none⟩ = some (.string R.nm) := h0.dk.c 0 _ rfl
  have k1 : w0.cell? ⟨b, 1, none⟩ = some (.string R.dt) := h0.dk.c 1 _ rfl
  have k2 : w0.cell? ⟨b, 2, none⟩ = some (.string R.ar) := h0.dk.c 2 _ rfl
  have kz : ∀ i, w0.frozen? ⟨b, i, none⟩ = false := h0.dk.fz
  have c0 := hC0.c 0 _ rfl
  have c1 := hC0.c 1 _ rfl
  have c2 := hC0.c 2 _ rfl
  have c4 := hC0.c 4 _ rfl
  have hbN : b < N := by rw [← hN]; exact h.dk.lt
  have n1 : ¬ b = N := by omega
  have n2 : ¬ N = b := by omega
  have HBN := hid hbN
  have HJ := hid (show ∀ (wx : World), Calls Tryz.prog 40 #[.string R.dt, .string s, .int .i64 256] wx fun e w' => (∃ r : ByteArray, e = .returned (.string r) ∧ (r = R.dt ∨ r.size ≤ 256 + 1)) ∧ w' = wx from fun wx => lengthen_any (m := 256) (by omega) h.z2 hs)
  have HZ := hid h.z2
  clear h h0 hf0 hC0 hbN
  refine calls_via fun K hK => ?_
  unfold ptrV
  go_enter Tryz.func22, Tryz.ntmps22
  go_wp2_with fail
  go_region_with (go_at_call 40; refine (HJ.out _).mono ?_; rintro e w' ⟨⟨r, rfl, hr⟩, hw⟩; have hw2 := hw.symm; subst hw2; clear hw; have HR := hid hr; clear hr)
  all_goals try go_wp2_with fail
  all_goals try go_end0
  all_goals
    have hr : r.size ≤ maxLen := by
      rcases HR.out with e | e
      · rw [e]; exact HZ.out
      · unfold maxLen; omega
    exact hK.out _ _ ⟨rfl, ⟨_, (H0.out.st1 r hr).fr0 ((Fr.refl Nob _).drew)⟩, HB.out.upOne HF0.out (((Fr.refl (One b) w0).set1 1 (.string r)).drew)⟩
set_option maxRecDepth 100000 in
set_option maxHeartbeats 8000000 in
theorem write5_any {w : World} {M X Z mb b c : Nat} {R : DkR} (h : LawAt w M X Z mb b Nob R c) (a b' c' : Int) (s t : ByteArray) (hs : s.size ≤ maxLen) :
    Calls Tryz.prog 22 #[ptrV b, .agg #[.int .i64 5, .int .i64 a, .int .i64 b', .int .i64 c', .string s, .string t]] w fun e w' => e = .returned (.tuple #[]) ∧ WrOK w w' M X Z mb b c := by
  obtain ⟨N, hN⟩ : ∃ N, w.heap.size = N := ⟨_, rfl⟩
  have hC0 := CellsAt.mk_alloc w [.int .i64 5, .int .i64 a, .int .i64 b', .int .i64 c', .string s, .string t] 41
  obtain ⟨w0, hw0⟩ : ∃ x, w.alloc (Obj.cells #[.int .i64 5, .int .i64 a, .int .i64 b', .int .i64 c', .string s, .string t] 41) = x := ⟨_, rfl⟩
  change CellsAt (w.alloc (Obj.cells #[.int .i64 5, .int .i64 a, .int .i64 b', .int .i64 c', .string s, .string t] 41)) w.heap.size _ at hC0
  rw [hw0, hN] at hC0
  have hf0 : Fr Nob w w0 := by rw [← hw0]; exact (Fr.refl _ _).alloc _
  have h0 := h.fr0 hf0
  have HB := hid h
  have H0 := hid h0
  have HF0 : Hid (Fr (UpN X) w w0) := hid (hf0.mono (fun _ hx _ => hx.elim))
  have HC0 := hid hC0
  have k0 : w0.cell? ⟨b, 0, none⟩ = some (.string R.nm) := h0.dk.c 0 _ rfl
  have k1 : w0.cell? ⟨b, 1, none⟩ = some (.string R.dt) := h0.dk.c 1 _ rfl
  have k2 : w0.cell? ⟨b, 2, none⟩ = some (.string R.ar) := h0.dk.c 2 _ rfl
  have kz : ∀ i, w0.frozen? ⟨b, i, none⟩ = false := h0.dk.fz
  have c0 := hC0.c 0 _ rfl
  have c1 := hC0.c 1 _ rfl
  have c2 := hC0.c 2 _ rfl
  have c4 := hC0.c 4 _ rfl
  have hbN : b < N := by rw [← hN]; exact h.dk.lt
  have n1 : ¬ b = N := by omega
  have n2 : ¬ N = b := by omega
  have HBN := hid hbN
  have HJ := hid (show ∀ (wx : World), Calls Tryz.prog 40 #[.string R.ar, .string s, .int .i64 1200] wx fun e w' => (∃ r : ByteArray, e = .returned (.string r) ∧ (r = R.ar ∨ r.size ≤ 1200 + 1)) ∧ w' = wx from fun wx => lengthen_any (m := 1200) (by omega) h.z3 hs)
  have HZ := hid h.z3
  clear h h0 hf0 hC0 hbN
  refine calls_via fun K hK => ?_
  unfold ptrV
  go_enter Tryz.func22, Tryz.ntmps22
  go_wp2_with fail
  go_region_with (go_at_call 40; refine (HJ.out _).mono ?_; rintro e w' ⟨⟨r, rfl, hr⟩, hw⟩; have hw2 := hw.symm; subst hw2; clear hw; have HR := hid hr; clear hr)
  all_goals try go_wp2_with fail
  all_goals try go_end0
  all_goals
    have hr : r.size ≤ maxLen := by
      rcases HR.out with e | e
      · rw [e]; exact HZ.out
      · unfold maxLen; omega
    exact hK.out _ _ ⟨rfl, ⟨_, (H0.out.st2 r hr).fr0 ((Fr.refl Nob _).drew)⟩, HB.out.upOne HF0.out (((Fr.refl (One b) w0).set1 2 (.string r)).drew)⟩
set_option maxRecDepth 100000 in
set_option maxHeartbeats 8000000 in
theorem write12_any {w : World} {M X Z mb b c : Nat} {R : DkR} (h : LawAt w M X Z mb b Nob R c) (a b' c' : Int) (s t : ByteArray) (hs : s.size ≤ maxLen) :
    Calls Tryz.prog 22 #[ptrV b, .agg #[.int .i64 12, .int .i64 a, .int .i64 b', .int .i64 c', .string s, .string t]] w fun e w' => e = .returned (.tuple #[]) ∧ WrOK w w' M X Z mb b c := by
  obtain ⟨N, hN⟩ : ∃ N, w.heap.size = N := ⟨_, rfl⟩
  have hC0 := CellsAt.mk_alloc w [.int .i64 12, .int .i64 a, .int .i64 b', .int .i64 c', .string s, .string t] 41
  obtain ⟨w0, hw0⟩ : ∃ x, w.alloc (Obj.cells #[.int .i64 12, .int .i64 a, .int .i64 b', .int .i64 c', .string s, .string t] 41) = x := ⟨_, rfl⟩
  change CellsAt (w.alloc (Obj.cells #[.int .i64 12, .int .i64 a, .int .i64 b', .int .i64 c', .string s, .string t] 41)) w.heap.size _ at hC0
  rw [hw0, hN] at hC0
  have hf0 : Fr Nob w w0 := by rw [← hw0]; exact (Fr.refl _ _).alloc _
  have h0 := h.fr0 hf0
  have HB := hid h
  have H0 := hid h0
  have HF0 : Hid (Fr (UpN X) w w0) := hid (hf0.mono (fun _ hx _ => hx.elim))
  have HC0 := hid hC0
  have k0 : w0.cell? ⟨b, 0, none⟩ = some (.string R.nm) := h0.dk.c 0 _ rfl
  have k1 : w0.cell? ⟨b, 1, none⟩ = some (.string R.dt) := h0.dk.c 1 _ rfl
  have k2 : w0.cell? ⟨b, 2, none⟩ = some (.string R.ar) := h0.dk.c 2 _ rfl
  have kz : ∀ i, w0.frozen? ⟨b, i, none⟩ = false := h0.dk.fz
  have c0 := hC0.c 0 _ rfl
  have c1 := hC0.c 1 _ rfl
  have c2 := hC0.c 2 _ rfl
  have c4 := hC0.c 4 _ rfl
  have hbN : b < N := by rw [← hN]; exact h.dk.lt
  have n1 : ¬ b = N := by omega
  have n2 : ¬ N = b := by omega
  have HBN := hid hbN
  clear h h0 hf0 hC0 hbN
  refine calls_via fun K hK => ?_
  unfold ptrV
  go_enter Tryz.func22, Tryz.ntmps22
  go_wp2_with fail
  go_end0
  exact hK.out _ _ ⟨rfl, ⟨_, H0.out.st0 s hs⟩, HB.out.upOne HF0.out ((Fr.refl (One b) w0).set1 0 (.string s))⟩
set_option maxRecDepth 100000 in
set_option maxHeartbeats 8000000 in
theorem write13_any {w : World} {M X Z mb b c : Nat} {R : DkR} (h : LawAt w M X Z mb b Nob R c) (a b' c' : Int) (s t : ByteArray) (hs : s.size ≤ maxLen) :
    Calls Tryz.prog 22 #[ptrV b, .agg #[.int .i64 13, .int .i64 a, .int .i64 b', .int .i64 c', .string s, .string t]] w fun e w' => e = .returned (.tuple #[]) ∧ WrOK w w' M X Z mb b c := by
  obtain ⟨N, hN⟩ : ∃ N, w.heap.size = N := ⟨_, rfl⟩
  have hC0 := CellsAt.mk_alloc w [.int .i64 13, .int .i64 a, .int .i64 b', .int .i64 c', .string s, .string t] 41
  obtain ⟨w0, hw0⟩ : ∃ x, w.alloc (Obj.cells #[.int .i64 13, .int .i64 a, .int .i64 b', .int .i64 c', .string s, .string t] 41) = x := ⟨_, rfl⟩
  change CellsAt (w.alloc (Obj.cells #[.int .i64 13, .int .i64 a, .int .i64 b', .int .i64 c', .string s, .string t] 41)) w.heap.size _ at hC0
  rw [hw0, hN] at hC0
  have hf0 : Fr Nob w w0 := by rw [← hw0]; exact (Fr.refl _ _).alloc _
  have h0 := h.fr0 hf0
  have HB := hid h
  have H0 := hid h0
  have HF0 : Hid (Fr (UpN X) w w0) := hid (hf0.mono (fun _ hx _ => hx.elim))
  have HC0 := hid hC0
  have k0 : w0.cell? ⟨b, 0, none⟩ = some (.string R.nm) := h0.dk.c 0 _ rfl
  have k1 : w0.cell? ⟨b, 1, none⟩ = some (.string R.dt) := h0.dk.c 1 _ rfl
  have k2 : w0.cell? ⟨b, 2, none⟩ = some (.string R.ar) := h0.dk.c 2 _ rfl
  have kz : ∀ i, w0.frozen? ⟨b, i, none⟩ = false := h0.dk.fz
  have c0 := hC0.c 0 _ rfl
  have c1 := hC0.c 1 _ rfl
  have c2 := hC0.c 2 _ rfl
  have c4 := hC0.c 4 _ rfl
  have hbN : b < N := by rw [← hN]; exact h.dk.lt
  have n1 : ¬ b = N := by omega
  have n2 : ¬ N = b := by omega
  have HBN := hid hbN
  clear h h0 hf0 hC0 hbN
  refine calls_via fun K hK => ?_
  unfold ptrV
  go_enter Tryz.func22, Tryz.ntmps22
  go_wp2_with fail
  go_end0
  exact hK.out _ _ ⟨rfl, ⟨_, H0.out.st1 s hs⟩, HB.out.upOne HF0.out ((Fr.refl (One b) w0).set1 1 (.string s))⟩
set_option maxRecDepth 100000 in
set_option maxHeartbeats 8000000 in
theorem write14_any {w : World} {M X Z mb b c : Nat} {R : DkR} (h : LawAt w M X Z mb b Nob R c) (a b' c' : Int) (s t : ByteArray) (hs : s.size ≤ maxLen) :
    Calls Tryz.prog 22 #[ptrV b, .agg #[.int .i64 14, .int .i64 a, .int .i64 b', .int .i64 c', .string s, .string t]] w fun e w' => e = .returned (.tuple #[]) ∧ WrOK w w' M X Z mb b c := by
  obtain ⟨N, hN⟩ : ∃ N, w.heap.size = N := ⟨_, rfl⟩
  have hC0 := CellsAt.mk_alloc w [.int .i64 14, .int .i64 a, .int .i64 b', .int .i64 c', .string s, .string t] 41
  obtain ⟨w0, hw0⟩ : ∃ x, w.alloc (Obj.cells #[.int .i64 14, .int .i64 a, .int .i64 b', .int .i64 c', .string s, .string t] 41) = x := ⟨_, rfl⟩
  change CellsAt (w.alloc (Obj.cells #[.int .i64 14, .int .i64 a, .int .i64 b', .int .i64 c', .string s, .string t] 41)) w.heap.size _ at hC0
  rw [hw0, hN] at hC0
  have hf0 : Fr Nob w w0 := by rw [← hw0]; exact (Fr.refl _ _).alloc _
  have h0 := h.fr0 hf0
  have HB := hid h
  have H0 := hid h0
  have HF0 : Hid (Fr (UpN X) w w0) := hid (hf0.mono (fun _ hx _ => hx.elim))
  have HC0 := hid hC0
  have k0 : w0.cell? ⟨b, 0, none⟩ = some (.string R.nm) := h0.dk.c 0 _ rfl
  have k1 : w0.cell? ⟨b, 1, none⟩ = some (.string R.dt) := h0.dk.c 1 _ rfl
  have k2 : w0.cell? ⟨b, 2, none⟩ = some (.string R.ar) := h0.dk.c 2 _ rfl
  have kz : ∀ i, w0.frozen? ⟨b, i, none⟩ = false := h0.dk.fz
  have c0 := hC0.c 0 _ rfl
  have c1 := hC0.c 1 _ rfl
  have c2 := hC0.c 2 _ rfl
  have c4 := hC0.c 4 _ rfl
  have hbN : b < N := by rw [← hN]; exact h.dk.lt
  have n1 : ¬ b = N := by omega
  have n2 : ¬ N = b := by omega
  have HBN := hid hbN
  clear h h0 hf0 hC0 hbN
  refine calls_via fun K hK => ?_
  unfold ptrV
  go_enter Tryz.func22, Tryz.ntmps22
  go_wp2_with fail
  go_end0
  exact hK.out _ _ ⟨rfl, ⟨_, H0.out.st2 s hs⟩, HB.out.upOne HF0.out ((Fr.refl (One b) w0).set1 2 (.string s))⟩
set_option maxRecDepth 100000 in
set_option maxHeartbeats 8000000 in
theorem write15_any {w : World} {M X Z mb b c : Nat} {R : DkR} (h : LawAt w M X Z mb b Nob R c) (a b' c' : Int) (s t : ByteArray) (hs : s.size ≤ maxLen) :
    Calls Tryz.prog 22 #[ptrV b, .agg #[.int .i64 15, .int .i64 a, .int .i64 b', .int .i64 c', .string s, .string t]] w fun e w' => e = .returned (.tuple #[]) ∧ WrOK w w' M X Z mb b c := by
  obtain ⟨N, hN⟩ : ∃ N, w.heap.size = N := ⟨_, rfl⟩
  have hC0 := CellsAt.mk_alloc w [.int .i64 15, .int .i64 a, .int .i64 b', .int .i64 c', .string s, .string t] 41
  obtain ⟨w0, hw0⟩ : ∃ x, w.alloc (Obj.cells #[.int .i64 15, .int .i64 a, .int .i64 b', .int .i64 c', .string s, .string t] 41) = x := ⟨_, rfl⟩
  change CellsAt (w.alloc (Obj.cells #[.int .i64 15, .int .i64 a, .int .i64 b', .int .i64 c', .string s, .string t] 41)) w.heap.size _ at hC0
  rw [hw0, hN] at hC0
  have hf0 : Fr Nob w w0 := by rw [← hw0]; exact (Fr.refl _ _).alloc _
  have h0 := h.fr0 hf0
  have HB := hid h
  have H0 := hid h0
  have HF0 : Hid (Fr (UpN X) w w0) := hid (hf0.mono (fun _ hx _ => hx.elim))
  have HC0 := hid hC0
  have k0 : w0.cell? ⟨b, 0, none⟩ = some (.string R.nm) := h0.dk.c 0 _ rfl
  have k1 : w0.cell? ⟨b, 1, none⟩ = some (.string R.dt) := h0.dk.c 1 _ rfl
  have k2 : w0.cell? ⟨b, 2, none⟩ = some (.string R.ar) := h0.dk.c 2 _ rfl
  have kz : ∀ i, w0.frozen? ⟨b, i, none⟩ = false := h0.dk.fz
  have c0 := hC0.c 0 _ rfl
  have c1 := hC0.c 1 _ rfl
  have c2 := hC0.c 2 _ rfl
  have c4 := hC0.c 4 _ rfl
  have hbN : b < N := by rw [← hN]; exact h.dk.lt
  have n1 : ¬ b = N := by omega
  have n2 : ¬ N = b := by omega
  have HBN := hid hbN
  clear h h0 hf0 hC0 hbN
  refine calls_via fun K hK => ?_
  unfold ptrV
  go_enter Tryz.func22, Tryz.ntmps22
  have k22 : w0.cell? ⟨b, 22, none⟩ = some (.bool R.pin) := H0.out.dk.c 22 _ rfl
  have k25 : w0.cell? ⟨b, 25, none⟩ = some (.bool R.pl) := H0.out.dk.c 25 _ rfl
  by_cases ha : a = 1
  · subst ha
    go_wp2_with fail
    go_end0
    exact hK.out _ _ ⟨rfl, ⟨_, H0.out.st25 true⟩, HB.out.upOne HF0.out ((Fr.refl (One b) w0).set1 25 (.bool true))⟩
  · have hai : (a == 1) = false := beq_eq_false_iff_ne.2 ha
    go_wp2_with fail
    go_end0
    exact hK.out _ _ ⟨rfl, ⟨_, H0.out.st22 true⟩, HB.out.upOne HF0.out ((Fr.refl (One b) w0).set1 22 (.bool true))⟩
set_option maxRecDepth 100000 in
set_option maxHeartbeats 8000000 in
theorem write11_any {w : World} {M X Z mb b c : Nat} {R : DkR} (h : LawAt w M X Z mb b Nob R c) (a b' c' : Int) (s t : ByteArray) (hs : s.size ≤ maxLen) :
    Calls Tryz.prog 22 #[ptrV b, .agg #[.int .i64 11, .int .i64 a, .int .i64 b', .int .i64 c', .string s, .string t]] w fun e w' => e = .returned (.tuple #[]) ∧ WrOK w w' M X Z mb b c := by
  obtain ⟨N, hN⟩ : ∃ N, w.heap.size = N := ⟨_, rfl⟩
  have hC0 := CellsAt.mk_alloc w [.int .i64 11, .int .i64 a, .int .i64 b', .int .i64 c', .string s, .string t] 41
  obtain ⟨w0, hw0⟩ : ∃ x, w.alloc (Obj.cells #[.int .i64 11, .int .i64 a, .int .i64 b', .int .i64 c', .string s, .string t] 41) = x := ⟨_, rfl⟩
  change CellsAt (w.alloc (Obj.cells #[.int .i64 11, .int .i64 a, .int .i64 b', .int .i64 c', .string s, .string t] 41)) w.heap.size _ at hC0
  rw [hw0, hN] at hC0
  have hf0 : Fr Nob w w0 := by rw [← hw0]; exact (Fr.refl _ _).alloc _
  have h0 := h.fr0 hf0
  have HB := hid h
  have H0 := hid h0
  have HF0 : Hid (Fr (UpN X) w w0) := hid (hf0.mono (fun _ hx _ => hx.elim))
  have HC0 := hid hC0
  have k0 : w0.cell? ⟨b, 0, none⟩ = some (.string R.nm) := h0.dk.c 0 _ rfl
  have k1 : w0.cell? ⟨b, 1, none⟩ = some (.string R.dt) := h0.dk.c 1 _ rfl
  have k2 : w0.cell? ⟨b, 2, none⟩ = some (.string R.ar) := h0.dk.c 2 _ rfl
  have kz : ∀ i, w0.frozen? ⟨b, i, none⟩ = false := h0.dk.fz
  have c0 := hC0.c 0 _ rfl
  have c1 := hC0.c 1 _ rfl
  have c2 := hC0.c 2 _ rfl
  have c4 := hC0.c 4 _ rfl
  have hbN : b < N := by rw [← hN]; exact h.dk.lt
  have n1 : ¬ b = N := by omega
  have n2 : ¬ N = b := by omega
  have HBN := hid hbN
  clear h h0 hf0 hC0 hbN
  refine calls_via fun K hK => ?_
  unfold ptrV
  go_enter Tryz.func22, Tryz.ntmps22
  have k3 := H0.out.dk.c 3 _ rfl
  go_wp2_with fail
  go_end0
  have z : (⟨#[]⟩ : ByteArray).size ≤ maxLen := Nat.zero_le _
  exact hK.out _ _ ⟨rfl, ⟨_, (((H0.out.st0 ⟨#[]⟩ z).st1 ⟨#[]⟩ z).st2 ⟨#[]⟩ z).st3⟩, HB.out.upOne HF0.out (((((Fr.refl (One b) w0).set1 0 (.string ⟨#[]⟩)).set1 1 (.string ⟨#[]⟩)).set1 2 (.string ⟨#[]⟩)).set1 3 (.slice none 0 0))⟩
set_option maxRecDepth 100000 in
set_option maxHeartbeats 8000000 in
theorem writeNo_any {w : World} {M X Z mb b c : Nat} {R : DkR} (h : LawAt w M X Z mb b Nob R c) (k a b' c' : Int) (s t : ByteArray) (hs : s.size ≤ maxLen) (h1 : (k == 1) = false) (h2 : (k == 2) = false) (h3 : (k == 3) = false) (h5 : (k == 5) = false) (h6 : (k == 6) = false) (h7 : (k == 7) = false) (h12 : (k == 12) = false) (h13 : (k == 13) = false) (h14 : (k == 14) = false) (h15 : (k == 15) = false) (h11 : (k == 11) = false) :
    Calls Tryz.prog 22 #[ptrV b, .agg #[.int .i64 k, .int .i64 a, .int .i64 b', .int .i64 c', .string s, .string t]] w fun e w' => e = .returned (.tuple #[]) ∧ WrOK w w' M X Z mb b c := by
  obtain ⟨N, hN⟩ : ∃ N, w.heap.size = N := ⟨_, rfl⟩
  have hC0 := CellsAt.mk_alloc w [.int .i64 k, .int .i64 a, .int .i64 b', .int .i64 c', .string s, .string t] 41
  obtain ⟨w0, hw0⟩ : ∃ x, w.alloc (Obj.cells #[.int .i64 k, .int .i64 a, .int .i64 b', .int .i64 c', .string s, .string t] 41) = x := ⟨_, rfl⟩
  change CellsAt (w.alloc (Obj.cells #[.int .i64 k, .int .i64 a, .int .i64 b', .int .i64 c', .string s, .string t] 41)) w.heap.size _ at hC0
  rw [hw0, hN] at hC0
  have hf0 : Fr Nob w w0 := by rw [← hw0]; exact (Fr.refl _ _).alloc _
  have h0 := h.fr0 hf0
  have HB := hid h
  have H0 := hid h0
  have HF0 : Hid (Fr (UpN X) w w0) := hid (hf0.mono (fun _ hx _ => hx.elim))
  have HC0 := hid hC0
  have k0 : w0.cell? ⟨b, 0, none⟩ = some (.string R.nm) := h0.dk.c 0 _ rfl
  have k1 : w0.cell? ⟨b, 1, none⟩ = some (.string R.dt) := h0.dk.c 1 _ rfl
  have k2 : w0.cell? ⟨b, 2, none⟩ = some (.string R.ar) := h0.dk.c 2 _ rfl
  have kz : ∀ i, w0.frozen? ⟨b, i, none⟩ = false := h0.dk.fz
  have c0 := hC0.c 0 _ rfl
  have c1 := hC0.c 1 _ rfl
  have c2 := hC0.c 2 _ rfl
  have c4 := hC0.c 4 _ rfl
  have hbN : b < N := by rw [← hN]; exact h.dk.lt
  have n1 : ¬ b = N := by omega
  have n2 : ¬ N = b := by omega
  have HBN := hid hbN
  clear h h0 hf0 hC0 hbN
  refine calls_via fun K hK => ?_
  unfold ptrV
  go_enter Tryz.func22, Tryz.ntmps22
  go_wp2_with fail
  go_end0
  exact hK.out _ _ ⟨rfl, ⟨_, H0.out⟩, HF0.out⟩
end Go.Proofs.Qxb6500353aGreat
