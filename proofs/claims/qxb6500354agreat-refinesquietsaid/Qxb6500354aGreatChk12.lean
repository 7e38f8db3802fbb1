/- THE WALK over check.Check, its ways one by one. -/
import Derived.Test.Qxb6500354aGreatChk11
import Derived.Test.Qxb6500354aGreatLaw7
namespace Go.Proofs.Qxb6500354aGreat
open Go.RowKit
set_option linter.unusedVariables false
set_option linter.unusedSimpArgs false

/-- Behind a parse: its answer lies in an object of its own. -/
structure After (w wz : World) (b q C : Nat) (av av1 : Value) (P1 : ParS) (sl : Slots) (D : Nat) (e p : Nat) (f : List Int) (x : Option Addr) (n m : Nat) : Prop where
  st : CSt w wz b q C av av1 P1 sl
  own : OwnI wz 0 (.slice x n m) f
  dj : ∀ g, (Value.slice x n m).ownBlock = some g → g ≠ b ∧ g ≠ q ∧ g ≠ C ∧ av1.ownBlock ≠ some g
  cc : CellsAt wz D [.int .i64 (e : Nat), .int .i64 (p : Nat), .slice x n m]
  db : b < D ∧ q < D ∧ C < D ∧ av1.ownBlock ≠ some D
theorem after_parse {w w' w1 : World} {b q C : Nat} {av av' v : Value} {P : ParS} {sl : Slots} {e p : Nat} {f : List Int} (h : CSt w w' b q C av av' P sl) (hq : ParQ w' w1 q av' ⟨e, p, f⟩ v) :
    ∃ P1 av1 x n m D wz, v = .slice x n m ∧ Hid (w1.heap.size = D) ∧ w1.alloc (Obj.cells #[.int .i64 (e : Nat), .int .i64 (p : Nat), .slice x n m] 86) = wz ∧ Hid (Fr [] w1 wz) ∧ w1.heap.size = D ∧ After w wz b q C av av1 P1 sl D e p f x n m := by
  obtain ⟨P1, av1, hst1, ho1, hd1⟩ := h.parse hq
  obtain ⟨x1, n1, m1, rfl⟩ := ho1.sl
  have hc1 := CellsAt.mk_alloc w1 [.int .i64 (e : Nat), .int .i64 (p : Nat), .slice x1 n1 m1] 86
  have hfwa : Fr [] w1 (w1.alloc (Obj.cells #[.int .i64 (e : Nat), .int .i64 (p : Nat), .slice x1 n1 m1] 86)) := (Fr.refl _ _).alloc _
  refine ⟨P1, av1, x1, n1, m1, _, _, rfl, hid rfl, rfl, hid hfwa, rfl, hst1.fr0 hfwa, ho1.fr hfwa (by simp), hd1, hc1, ?_⟩
  have h1 := hst1.ck.lt
  have h2 := lt_of_cellB hst1.par.at_.err
  have h3 := lt_of_cellB (hst1.cc.c 0 _ rfl)
  exact ⟨h1, h2, h3, fun ee => by have := hst1.par.own.lt _ ee; omega⟩
theorem surv_le {f : List Int} (h : f.length ≤ 27263002) : f.length ≤ 1099511627776 := by omega

set_option maxRecDepth 100000 in
set_option maxHeartbeats 8000000 in
theorem check_1 {w w0 : World} {b q C : Nat} {sl : Slots} {av : Value} {P0 : ParS} {s1 s2 : ByteArray} {e1 p1 : Nat} {f1 : List Int} (hC : w.heap.size = C) (hw0 : w.alloc (Obj.cells #[.int .i64 0, .int .i64 0, .int .i64 0] 48) = w0)
    (HST0 : Hid (CSt w w0 b q C av av P0 sl)) (c1 : e1 ≠ 0)
    (HP1 : Hid (Calls Tryz.prog 42 #[.pointer (some ⟨q, 0, none⟩), .string s1] w0 fun e w' => ∃ v, e = .returned (.agg #[.int .i64 (e1 : Nat), .int .i64 (p1 : Nat), v]) ∧ ParQ w0 w' q av ⟨e1, p1, f1⟩ v)) :
    Calls Tryz.prog 39 #[.pointer (some ⟨b, 0, none⟩), .string s1, .string s2] w fun e w' => e = .returned (.agg #[.int .i64 (e1 : Nat), .int .i64 0, .int .i64 (p1 : Nat)]) ∧ ChkOut w w' b q av := by
  have hkp := HST0.out.ck.p
  have b1 : ((e1 : Int) != 0) = true := by rw [neN]; simp [c1]
  clear c1
  refine calls_via fun K hK => ?_
  go_enter Tryz.func39, Tryz.ntmps39
  go_wp2_with (go_at_call 42; refine HP1.out.mono ?_; rintro e' w1 ⟨v1, rfl, hq1⟩; obtain ⟨P1, av1, x1, n1, m1, D1, wa, rfl, HD1, hwa, HF1, hD1, hA1⟩ := after_parse HST0.out hq1; have HA1 := hid hA1; have g10 := hA1.cc.c 0 _ rfl; have g11 := hA1.cc.c 1 _ rfl; have g12 := hA1.cc.c 2 _ rfl; have g1z := hA1.cc.fz; have kp1 := hA1.st.ck.p; clear hA1 hq1)
  refine (refused_any _ _ _ _).mono ?_
  rintro e' w5 ⟨rfl, hf5⟩
  have HST5 := hid (HA1.out.st.fr0 hf5)
  have c50 := HST5.out.cc.c 0 _ rfl
  have c51 := HST5.out.cc.c 1 _ rfl
  have c52 := HST5.out.cc.c 2 _ rfl
  have c5z := HST5.out.cc.fz
  clear hf5 hwa hD1 hw0 hC g10 g11 g12 g1z kp1 hkp
  go_wp2_with fail
  refine bodyPost_ret (v := .agg #[.int .i64 (e1 : Nat), .int .i64 0, .int .i64 (p1 : Nat)]) (by simp [results, Tryz.results39, go_sem, cellSet, c50, c51, c52]) rfl ?_
  exact hK.out _ _ ⟨rfl, HST5.out.out ((((Fr.refl [C] w5).setB 0 _).setB 1 _).setB 2 _)⟩

set_option maxRecDepth 100000 in
set_option maxHeartbeats 8000000 in
theorem check_2 {w w0 : World} {b q C : Nat} {sl : Slots} {av : Value} {P0 : ParS} {s1 s2 : ByteArray} {p1 sv : Nat} {f1 : List Int} (hC : w.heap.size = C) (hw0 : w.alloc (Obj.cells #[.int .i64 0, .int .i64 0, .int .i64 0] 48) = w0)
    (HST0 : Hid (CSt w w0 b q C av av P0 sl)) (HL1 : Hid (f1.length ≤ 27263002)) (HSV : Hid (surveyF f1 = sv)) (c2 : sv ≠ 0)
    (HP1 : Hid (Calls Tryz.prog 42 #[.pointer (some ⟨q, 0, none⟩), .string s1] w0 fun e w' => ∃ v, e = .returned (.agg #[.int .i64 (0 : Nat), .int .i64 (p1 : Nat), v]) ∧ ParQ w0 w' q av ⟨0, p1, f1⟩ v)) :
    Calls Tryz.prog 39 #[.pointer (some ⟨b, 0, none⟩), .string s1, .string s2] w fun e w' => e = .returned (.agg #[.int .i64 (sv : Nat), .int .i64 0, .int .i64 0]) ∧ ChkOut w w' b q av := by
  have hkp := HST0.out.ck.p
  have b1 : ((sv : Int) != 0) = true := by rw [neN]; simp [c2]
  clear c2
  refine calls_via fun K hK => ?_
  go_enter Tryz.func39, Tryz.ntmps39
  go_wp2_with (go_at_call 42; refine HP1.out.mono ?_; rintro e' w1 ⟨v1, rfl, hq1⟩; obtain ⟨P1, av1, x1, n1, m1, D1, wa, rfl, HD1, hwa0, HF1, hD1, hA1⟩ := after_parse HST0.out hq1; have hwa : w1.alloc (Obj.cells #[.int .i64 0, .int .i64 (p1 : Nat), .slice x1 n1 m1] 86) = wa := hwa0; clear hwa0; have HA1 := hid hA1; have g10 : wa.cell? ⟨D1, 0, none⟩ = some (.int .i64 0) := hA1.cc.c 0 _ rfl; have g11 := hA1.cc.c 1 _ rfl; have g12 := hA1.cc.c 2 _ rfl; have g1z := hA1.cc.fz; have kp1 := hA1.st.ck.p; clear hA1 hq1)
  refine (fit_any (l := f1) HA1.out.own.ints (surv_le HL1.out)).mono ?_
  rintro e' w' ⟨rfl, hw⟩
  have hw2 := hw.symm
  subst hw2
  clear hw
  rw [HSV.out]
  clear hwa hD1 hw0 hC hkp
  go_wp2_with fail
  refine (refused_any _ _ _ _).mono ?_
  rintro e' w5 ⟨rfl, hf5⟩
  have HST5 := hid (HA1.out.st.fr0 hf5)
  have c50 := HST5.out.cc.c 0 _ rfl
  have c51 := HST5.out.cc.c 1 _ rfl
  have c52 := HST5.out.cc.c 2 _ rfl
  have c5z := HST5.out.cc.fz
  clear hf5 g10 g11 g12 g1z kp1
  go_wp2_with fail
  refine bodyPost_ret (v := .agg #[.int .i64 (sv : Nat), .int .i64 0, .int .i64 0]) (by simp [results, Tryz.results39, go_sem, cellSet, c50, c51, c52]) rfl ?_
  exact hK.out _ _ ⟨rfl, HST5.out.out ((((Fr.refl [C] w5).setB 0 _).setB 1 _).setB 2 _)⟩

set_option maxRecDepth 100000 in
set_option maxHeartbeats 8000000 in
theorem check_3 {w w0 : World} {b q C : Nat} {sl : Slots} {av : Value} {P0 : ParS} {s1 s2 : ByteArray} {p1 e2 p2 : Nat} {f1 f2 : List Int} (hC : w.heap.size = C) (hw0 : w.alloc (Obj.cells #[.int .i64 0, .int .i64 0, .int .i64 0] 48) = w0)
    (HST0 : Hid (CSt w w0 b q C av av P0 sl)) (HL1 : Hid (f1.length ≤ 27263002)) (HSV : Hid (surveyF f1 = 0)) (c3 : e2 ≠ 0)
    (HP1 : Hid (Calls Tryz.prog 42 #[.pointer (some ⟨q, 0, none⟩), .string s1] w0 fun e w' => ∃ v, e = .returned (.agg #[.int .i64 (0 : Nat), .int .i64 (p1 : Nat), v]) ∧ ParQ w0 w' q av ⟨0, p1, f1⟩ v))
    (HP2 : Hid (∀ (w2 : World) (P2 : ParS) (av2 : Value), ParAt w2 q P2 av2 → Calls Tryz.prog 42 #[.pointer (some ⟨q, 0, none⟩), .string s2] w2 fun e w' => ∃ v, e = .returned (.agg #[.int .i64 (e2 : Nat), .int .i64 (p2 : Nat), v]) ∧ ParQ w2 w' q av2 ⟨e2, p2, f2⟩ v)) :
    Calls Tryz.prog 39 #[.pointer (some ⟨b, 0, none⟩), .string s1, .string s2] w fun e w' => e = .returned (.agg #[.int .i64 (e2 : Nat), .int .i64 1, .int .i64 (p2 : Nat)]) ∧ ChkOut w w' b q av := by
  have hkp := HST0.out.ck.p
  have b2 : ((e2 : Int) != 0) = true := by rw [neN]; simp [c3]
  clear c3
  refine calls_via fun K hK => ?_
  go_enter Tryz.func39, Tryz.ntmps39
  go_wp2_with (go_at_call 42; refine HP1.out.mono ?_; rintro e' w1 ⟨v1, rfl, hq1⟩; obtain ⟨P1, av1, x1, n1, m1, D1, wa, rfl, HD1, hwa0, HF1, hD1, hA1⟩ := after_parse HST0.out hq1; have hwa : w1.alloc (Obj.cells #[.int .i64 0, .int .i64 (p1 : Nat), .slice x1 n1 m1] 86) = wa := hwa0; clear hwa0; have HA1 := hid hA1; have g10 : wa.cell? ⟨D1, 0, none⟩ = some (.int .i64 0) := hA1.cc.c 0 _ rfl; have g11 := hA1.cc.c 1 _ rfl; have g12 := hA1.cc.c 2 _ rfl; have g1z := hA1.cc.fz; have kp1 := hA1.st.ck.p; clear hA1 hq1)
  refine (fit_any (l := f1) HA1.out.own.ints (surv_le HL1.out)).mono ?_
  rintro e' w' ⟨rfl, hw⟩
  have hw2 := hw.symm
  subst hw2
  clear hw
  rw [HSV.out, show ((0 : Nat) : Int) = 0 from rfl]
  clear hwa hD1 hw0 hC hkp
  go_wp2_with fail
  refine (HP2.out _ _ _ HA1.out.st.par).mono ?_
  rintro e' w2 ⟨v2, rfl, hq2⟩
  obtain ⟨P2, av2, x2, n2, m2, D2, wb, rfl, HD2, hwb, HF2, hD2, hA2⟩ := after_parse HA1.out.st hq2
  have HA2 := hid hA2
  have g20 := hA2.cc.c 0 _ rfl
  have g21 := hA2.cc.c 1 _ rfl
  have g2z := hA2.cc.fz
  clear hA2 hq2 g10 g11 g12 g1z kp1
  go_wp2_with fail
  refine (refused_any _ _ _ _).mono ?_
  rintro e' w5 ⟨rfl, hf5⟩
  have HST5 := hid (HA2.out.st.fr0 hf5)
  have c50 := HST5.out.cc.c 0 _ rfl
  have c51 := HST5.out.cc.c 1 _ rfl
  have c52 := HST5.out.cc.c 2 _ rfl
  have c5z := HST5.out.cc.fz
  clear hf5 g20 g21 g2z hD2 hwb
  go_wp2_with fail
  refine bodyPost_ret (v := .agg #[.int .i64 (e2 : Nat), .int .i64 1, .int .i64 (p2 : Nat)]) (by simp [results, Tryz.results39, go_sem, cellSet, c50, c51, c52]) rfl ?_
  exact hK.out _ _ ⟨rfl, HST5.out.out ((((Fr.refl [C] w5).setB 0 _).setB 1 _).setB 2 _)⟩

/-! ### the load -/
theorem load_bag : ∀ (d : List (Bool × List Int)) (sl : Slots), SlOK sl → (bag sl).length + d.length ≤ 64 → (∀ r ∈ d, checkClause r.2 = 0) → SlOK (loadK d sl) ∧ (bag (loadK d sl)).Perm (d.map (fun r => r.2) ++ bag sl) := by
  intro d
  induction d with
  | nil => intro sl h _ _; exact ⟨h, List.Perm.refl _⟩
  | cons r d ih =>
    intro sl h hl hc
    rw [List.length_cons] at hl
    have hs : ∃ s, lowF sl 64 0 = some s := by
      cases e : lowF sl 64 0 with
      | none => have := bag_full e; omega
      | some s => exact ⟨s, rfl⟩
    obtain ⟨s, hs⟩ := hs
    obtain ⟨_, h1, h2⟩ := lowF_some hs
    have hp : putK sl r.2 = upd sl s (some r.2) := putK_some hs
    have hb := bag_put h2 r.2 64 (by omega)
    have e : loadK (r :: d) sl = loadK d (upd sl s (some r.2)) := by show loadK d (putK sl r.2) = _; rw [hp]
    have hb2 : (bag (upd sl s (some r.2))).Perm (r.2 :: bag sl) := hb
    obtain ⟨i1, i2⟩ := ih (upd sl s (some r.2)) (h.put (hc r List.mem_cons_self)) (by rw [hb2.length_eq, List.length_cons]; omega) (fun x hx => hc x (List.mem_cons_of_mem _ hx))
    rw [e]
    refine ⟨i1, i2.trans ?_⟩
    exact (List.Perm.append_left _ hb2).trans (by simp)
theorem SlOK.none : SlOK (fun _ => none) := fun s _ c h => by simp at h
theorem bag_none : bag (fun _ => none) = [] := by simp [bag, bagN]
theorem load_room {rs : List (Bool × List Int)} (hl : rs.length ≤ 40) (hc : ∀ r ∈ rs, checkClause r.2 = 0) (d : List (Bool × List Int)) (c : Bool × List Int) (e : List (Bool × List Int)) (hrs : rs = d ++ c :: e) : (lowF (loadK d (fun _ => none)) 64 0).isSome = true := by
  have hd : d.length ≤ 39 := by rw [hrs] at hl; simp at hl; omega
  obtain ⟨_, h2⟩ := load_bag d _ SlOK.none (by rw [bag_none]; simp; omega) (fun r hr => hc r (by rw [hrs]; exact List.mem_append_left _ hr))
  cases h : lowF (loadK d (fun _ => none)) 64 0 with
  | some s => rfl
  | none =>
    have h3 := bag_full h
    rw [h2.length_eq, bag_none] at h3
    simp at h3; omega

set_option maxRecDepth 100000 in
set_option maxHeartbeats 8000000 in
theorem check_4 {w w0 : World} {b q C : Nat} {sl : Slots} {av : Value} {P0 : ParS} {s1 s2 : ByteArray} {p1 p2 : Nat} {rs1 rs2 : List (Bool × List Int)} (hC : w.heap.size = C) (hw0 : w.alloc (Obj.cells #[.int .i64 0, .int .i64 0, .int .i64 0] 48) = w0)
    (HST0 : Hid (CSt w w0 b q C av av P0 sl)) (HL1 : Hid ((flatOf rs1).length ≤ 27263002)) (HL2 : Hid ((flatOf rs2).length ≤ 27263002)) (HSV : Hid (surveyF (flatOf rs1) = 0))
    (HC1 : Hid (∀ r ∈ rs1, checkClause r.2 = 0)) (HC2 : Hid (∀ r ∈ rs2, checkClause r.2 = 0)) (HM : Hid (rs1.length ≤ 40))
    (HP1 : Hid (Calls Tryz.prog 42 #[.pointer (some ⟨q, 0, none⟩), .string s1] w0 fun e w' => ∃ v, e = .returned (.agg #[.int .i64 (0 : Nat), .int .i64 (p1 : Nat), v]) ∧ ParQ w0 w' q av ⟨0, p1, flatOf rs1⟩ v))
    (HP2 : Hid (∀ (w2 : World) (P2 : ParS) (av2 : Value), ParAt w2 q P2 av2 → Calls Tryz.prog 42 #[.pointer (some ⟨q, 0, none⟩), .string s2] w2 fun e w' => ∃ v, e = .returned (.agg #[.int .i64 (0 : Nat), .int .i64 (p2 : Nat), v]) ∧ ParQ w2 w' q av2 ⟨0, p2, flatOf rs2⟩ v)) :
    Calls Tryz.prog 39 #[.pointer (some ⟨b, 0, none⟩), .string s1, .string s2] w fun e w' => e = .returned (.agg #[.int .i64 ((followK rs2 0 (loadK rs1 (fun _ => none))).err : Nat), .int .i64 ((followK rs2 0 (loadK rs1 (fun _ => none))).whr : Nat), .int .i64 ((followK rs2 0 (loadK rs1 (fun _ => none))).pos : Nat)]) ∧ ChkOut w w' b q av := by
  have hkp := HST0.out.ck.p
  refine calls_via fun K hK => ?_
  go_enter Tryz.func39, Tryz.ntmps39
  go_wp2_with (go_at_call 42; refine HP1.out.mono ?_; rintro e' w1 ⟨v1, rfl, hq1⟩; obtain ⟨P1, av1, x1, n1, m1, D1, wa, rfl, HD1, hwa0, HF1, hD1, hA1⟩ := after_parse HST0.out hq1; have hwa : w1.alloc (Obj.cells #[.int .i64 0, .int .i64 (p1 : Nat), .slice x1 n1 m1] 86) = wa := hwa0; clear hwa0; have HA1 := hid hA1; have g10 : wa.cell? ⟨D1, 0, none⟩ = some (.int .i64 0) := hA1.cc.c 0 _ rfl; have g11 := hA1.cc.c 1 _ rfl; have g12 := hA1.cc.c 2 _ rfl; have g1z := hA1.cc.fz; have kp1 := hA1.st.ck.p; clear hA1 hq1)
  refine (fit_any (l := flatOf rs1) HA1.out.own.ints (surv_le HL1.out)).mono ?_
  rintro e' w' ⟨rfl, hw⟩
  have hw2 := hw.symm
  subst hw2
  clear hw
  rw [HSV.out, show ((0 : Nat) : Int) = 0 from rfl]
  clear hwa hD1 hw0 hC hkp
  go_wp2_with fail
  refine (HP2.out _ _ _ HA1.out.st.par).mono ?_
  rintro e' w2 ⟨v2, rfl, hq2⟩
  obtain ⟨P2, av2, x2, n2, m2, D2, wb, rfl, HD2, hwb0, HF2, hD2, hA2⟩ := after_parse HA1.out.st hq2
  have hwb : w2.alloc (Obj.cells #[.int .i64 0, .int .i64 (p2 : Nat), .slice x2 n2 m2] 86) = wb := hwb0
  clear hwb0
  have HA2 := hid hA2
  have g20 : wb.cell? ⟨D2, 0, none⟩ = some (.int .i64 0) := hA2.cc.c 0 _ rfl
  have g2z := hA2.cc.fz
  have HFQ := hid hq2.fr
  have hnD : D1 ∉ q :: blk av1 := fun hm => by
    rcases List.mem_cons.1 hm with e | e
    · have := HA1.out.db; omega
    · exact HA1.out.db.2.2.2 (mem_blk.1 e)
  have HCC1 := hid ((HA1.out.cc.fr hq2.fr hnD (by simp)).fr HF2.out (by simp) (by simp))
  have HOW1 := hid ((HA1.out.own.fr hq2.fr (fun g hg hm => by
    rcases List.mem_cons.1 hm with e | e
    · exact (HA1.out.dj g hg).2.1 e
    · exact (HA1.out.dj g hg).2.2.2 (mem_blk.1 e))).fr HF2.out (by simp))
  have HD12 : Hid (D1 < D2) := hid (by have := lt_of_cellB (HA1.out.cc.c 0 _ rfl); have := hq2.fr.size; have := HD2.out; omega)
  clear hA2 hq2 g10 g11 g12 g1z kp1 hnD
  go_wp2_with fail
  refine (cwipe_any HA2.out.st.ck).mono ?_
  rintro e' w3 ⟨rfl, hck3, hf3⟩
  have HST3 := hid (HA2.out.st.mod hf3 hck3)
  have hbD1 : D1 ∉ [b] := by have := HA1.out.db; simp; omega
  have hbD2 : D2 ∉ [b] := by have := HA2.out.db; simp; omega
  have HBD := hid (And.intro hbD1 hbD2)
  have HCC13 := hid (HCC1.out.fr hf3 hbD1 (by simp))
  have HCC23 := hid (HA2.out.cc.fr hf3 hbD2 (by simp))
  have HOW13 := hid (HOW1.out.fr hf3 (fun g hg hm => by rw [List.mem_singleton] at hm; exact (HA1.out.dj g hg).1 hm))
  have HOW23 := hid (HA2.out.own.fr hf3 (fun g hg hm => by rw [List.mem_singleton] at hm; exact (HA2.out.dj g hg).1 hm))
  have g12 := HCC13.out.c 2 _ rfl
  clear hck3 hf3 hbD1 hbD2 g20 g2z hwb hD2
  go_wp2_with fail
  refine (cload_any HST3.out.ck HOW13.out.ints (surv_le HL1.out) HC1.out (load_room HM.out HC1.out) (fun g hg => (HA1.out.dj g hg).1)).mono ?_
  rintro e' w4 ⟨rfl, hck4, hf4⟩
  have HST4 := hid (HST3.out.mod hf4 hck4)
  have HCC24 := hid (HCC23.out.fr hf4 HBD.out.2 (by simp))
  have HOW24 := hid (HOW23.out.fr hf4 (fun g hg hm => by rw [List.mem_singleton] at hm; exact (HA2.out.dj g hg).1 hm))
  have g22 := HCC24.out.c 2 _ rfl
  clear hck4 hf4 g12
  go_wp2_with fail
  refine (follow_any HST4.out.ck HOW24.out.ints (surv_le HL2.out) HC2.out (fun g hg => (HA2.out.dj g hg).1)).mono ?_
  rintro e' w5 ⟨rfl, ⟨sl5, hck5⟩, hf5⟩
  have HST5 := hid (HST4.out.mod hf5 hck5)
  obtain ⟨res, hres⟩ : ∃ x, followK rs2 0 (loadK rs1 (fun _ => none)) = x := ⟨_, rfl⟩
  rw [hres] at hK ⊢
  have HRES := hid hres
  have c50 := HST5.out.cc.c 0 _ rfl
  have c51 := HST5.out.cc.c 1 _ rfl
  have c52 := HST5.out.cc.c 2 _ rfl
  have c5z := HST5.out.cc.fz
  clear hck5 hf5 g22 hres
  obtain ⟨ea, wh, pp⟩ := res
  go_wp2_with fail
  refine bodyPost_ret (v := .agg #[.int .i64 (ea : Nat), .int .i64 (wh : Nat), .int .i64 (pp : Nat)]) (by simp [results, Tryz.results39, go_sem, cellSet, c50, c51, c52]) rfl ?_
  exact hK.out _ _ ⟨rfl, HST5.out.out ((((Fr.refl [C] w5).setB 0 _).setB 1 _).setB 2 _)⟩
end Go.Proofs.Qxb6500354aGreat
