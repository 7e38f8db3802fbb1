/- THE WALKS over check: read. -/
import Derived.Test.Qxb6500354aGreatChk6
namespace Go.Proofs.Qxb6500354aGreat
open Go.RowKit
set_option linter.unusedVariables false
set_option linter.unusedSimpArgs false

/-- The flat form f has the row r at place a. -/
structure RowAt (f : List Int) (a : Nat) (r : Bool × List Int) (o : Nat) : Prop where
  lit : ∀ j, j < r.2.length → f.getD (a + o + j) 0 = r.2.getD j 0
  fin : f.getD (a + o + r.2.length) 0 = 0
  len : a + o + r.2.length < f.length
  del : r.1 = true → o = 1 ∧ f.getD a 0 = 13
  add : r.1 = false → o = 0 ∧ f.getD a 0 ≠ 13
theorem getD_drop (f : List Int) (a i : Nat) : f.getD (a + i) 0 = (f.drop a).getD i 0 := by
  rw [List.getD_eq_getElem?_getD, List.getD_eq_getElem?_getD, List.getElem?_drop]
theorem RowAt.of {f : List Int} {a : Nat} {r : Bool × List Int} {rest : List Int} (h : f.drop a = flatRow r ++ rest) (hc : checkClause r.2 = 0) : RowAt f a r (if r.1 = true then 1 else 0) := by
  obtain ⟨d, c⟩ := r
  have hl := congrArg List.length h
  have hg := (checkClause_facts hc).2.1
  simp only [] at hg
  cases d with
  | true =>
    have e : flatRow (true, c) ++ rest = 13 :: (c ++ 0 :: rest) := by simp [flatRow]
    rw [e] at h hl
    rw [List.length_drop, List.length_cons, List.length_append, List.length_cons] at hl
    simp only [if_true]
    refine ⟨fun j hj => ?_, ?_, by simp only []; omega, fun _ => ⟨rfl, ?_⟩, fun q => by cases q⟩
    · simp only [] at hj ⊢
      rw [Nat.add_assoc, getD_drop, h, Nat.add_comm 1 j, List.getD_cons_succ, List.getD_eq_getElem?_getD, List.getElem?_append_left hj, ← List.getD_eq_getElem?_getD]
    · simp only []
      rw [Nat.add_assoc, getD_drop, h, Nat.add_comm 1, List.getD_cons_succ, List.getD_eq_getElem?_getD, List.getElem?_append_right (Nat.le_refl _)]; simp
    · have := getD_drop f a 0
      rw [Nat.add_zero] at this
      rw [this, h]; rfl
  | false =>
    have e : flatRow (false, c) ++ rest = c ++ 0 :: rest := by simp [flatRow]
    rw [e] at h hl
    rw [List.length_drop, List.length_append, List.length_cons] at hl
    simp only [Bool.false_eq_true, if_false]
    refine ⟨fun j hj => ?_, ?_, by simp only []; omega, fun q => (by cases q), fun _ => ⟨rfl, ?_⟩⟩
    · simp only [] at hj ⊢
      rw [Nat.add_zero, getD_drop, h, List.getD_eq_getElem?_getD, List.getElem?_append_left hj, ← List.getD_eq_getElem?_getD]
    · simp only []
      rw [Nat.add_zero, getD_drop, h, List.getD_eq_getElem?_getD, List.getElem?_append_right (Nat.le_refl _)]; simp
    · have := getD_drop f a 0
      rw [Nat.add_zero] at this
      rw [this, h]
      cases c with
      | nil => simp
      | cons l t =>
        simp only [List.cons_append, List.getD_cons_zero]
        intro q
        have := (good_iff l).1 (hg l List.mem_cons_self)
        omega
theorem posB_snoc (c : List Int) (l : Int) : posB (c ++ [l]) = posB c ||| (if 0 < l then bitV l else 0) := by
  induction c with
  | nil => simp [posB]
  | cons x r ih => rw [List.cons_append]; unfold posB; rw [ih, Nat.or_assoc]
theorem negB_snoc (c : List Int) (l : Int) : negB (c ++ [l]) = negB c ||| (if 0 < l then 0 else bitV l) := by
  induction c with
  | nil => simp [negB]
  | cons x r ih => rw [List.cons_append]; unfold negB; rw [ih, Nat.or_assoc]
theorem Ints.cell {w : World} {g o n cap : Nat} {f : List Int} (h : Ints w (.slice (some ⟨g, o, none⟩) n cap) f) (hn : f.length = n) {k : Nat} (hk : k < n) : w.cell? ⟨g, o + k, none⟩ = some (.int .i64 (f.getD k 0)) := by
  obtain ⟨g2, o2, e, h2⟩ := h.at hn hk
  simp only [Option.some.injEq, Addr.mk.injEq] at e
  obtain ⟨rfl, rfl, _⟩ := e
  exact h2
theorem Fr.setB {D : Nat} {w wr : World} (h : Fr [D] w wr) (i : Nat) (v : Value) : Fr [D] w (wr.setCell ⟨D, i, none⟩ v) := h.set (by simp) v
theorem fr_new {w wr w2 : World} {C D : Nat} (h : Fr [] w wr) (hC : w.heap.size = C) (hD : C ≤ D) (k : Fr [D] wr w2) : Fr [] w w2 :=
  h.trans2 k (fun x hx hlt => by rw [List.mem_singleton] at hx; omega)

set_option maxRecDepth 100000 in
set_option maxHeartbeats 8000000 in
theorem read_true {w : World} {v : Value} {f : List Int} (h : Ints w v f) (hb : f.length ≤ 1099511627776) {a : Nat} {c : List Int} (hr : RowAt f a (true, c) 1) (hc : checkClause c = 0) :
    Calls Tryz.prog 101 #[v, .int .i64 (a : Nat)] w fun e w' => e = .returned (.agg #[.int .u16 (posB c : Nat), .int .u16 (negB c : Nat), .bool true, .int .i64 ((a + 1 + c.length + 1 : Nat) : Int)]) ∧ Fr [] w w' := by
  obtain ⟨va, cap, hea⟩ := h.len
  subst hea
  obtain ⟨n, hn⟩ : ∃ n, f.length = n := ⟨_, rfl⟩
  have hlen := hr.len
  simp only [] at hlen
  rw [hn] at h hb hlen ⊢
  have HI := hid h
  have HN := hid hn
  have HR := hid hr
  have HC := hid hc
  obtain ⟨m, hm⟩ : ∃ m, c.length = m := ⟨_, rfl⟩
  rw [hm] at hlen ⊢
  have HM := hid hm
  have hm12 : m ≤ 12 := by rw [← hm]; exact (checkClause_facts hc).1
  obtain ⟨C, hC⟩ : ∃ N, w.heap.size = N := ⟨_, rfl⟩
  have hC0 := CellsAt.mk_alloc w [.int .u16 ((0 : Nat) : Int), .int .u16 ((0 : Nat) : Int), .bool false, .int .i64 0] 164
  obtain ⟨w0, hw0⟩ : ∃ w0, w.alloc (Obj.cells #[.int .u16 0, .int .u16 0, .bool false, .int .i64 0] 164) = w0 := ⟨_, rfl⟩
  change CellsAt (w.alloc (Obj.cells #[.int .u16 0, .int .u16 0, .bool false, .int .i64 0] 164)) w.heap.size _ at hC0
  rw [hw0, hC] at hC0
  have hf0 : Fr [] w w0 := by rw [← hw0]; exact (Fr.refl _ _).alloc _
  have hs0 : w0.heap.size = C + 1 := by rw [← hw0]; simp [hC]
  have hD0 := CellsAt.mk_alloc w0 [.int .u16 ((0 : Nat) : Int), .int .u16 ((0 : Nat) : Int), .bool false, .int .i64 0] 164
  obtain ⟨w1, hw1⟩ : ∃ w1, w0.alloc (Obj.cells #[.int .u16 0, .int .u16 0, .bool false, .int .i64 0] 164) = w1 := ⟨_, rfl⟩
  change CellsAt (w0.alloc (Obj.cells #[.int .u16 0, .int .u16 0, .bool false, .int .i64 0] 164)) w0.heap.size _ at hD0
  obtain ⟨D, hD⟩ : ∃ D, w0.heap.size = D := ⟨_, rfl⟩
  rw [hw1, hD] at hD0
  have hf1 : Fr [] w0 w1 := by rw [← hw1]; exact (Fr.refl _ _).alloc _
  have hCD : D = C + 1 := by omega
  have hcc1 := hC0.fr hf1 (by simp) (by simp)
  have HC0 := hid hcc1
  have HD0 := hid hD0
  have HF0 := hid (hf0.trans hf1)
  have HCC := hid hC
  have HCD := hid hCD
  have cz0 := hcc1.fz
  have c00 := hcc1.c 0 _ rfl
  have c01 := hcc1.c 1 _ rfl
  have c02 := hcc1.c 2 _ rfl
  have c03 := hcc1.c 3 _ rfl
  have dz0 := hD0.fz
  have d00 := hD0.c 0 _ rfl
  have d01 := hD0.c 1 _ rfl
  have d02 := hD0.c 2 _ rfl
  have d03 := hD0.c 3 _ rfl
  have hneCD : ¬ C = D := by omega
  have hneDC : ¬ D = C := by omega
  have han : a < n := by omega
  have han2 : (a : Int) < n := by omega
  obtain ⟨g1, o1, hva, hc1⟩ := h.at hn han
  subst hva
  have hx := (hr.del rfl).2
  generalize f.getD a 0 = x0 at *
  have hb0 : (x0 == 13) = true := by simp [hx]
  have hc1' := HF0.out.cell hc1 (by simp)
  have hne : ¬ g1 = C := by have := lt_of_cellB hc1; omega
  have hne2 : ¬ C = g1 := by have := lt_of_cellB hc1; omega
  have hne3 : ¬ g1 = D := by have := lt_of_cellB hc1; omega
  have hne4 : ¬ D = g1 := by have := lt_of_cellB hc1; omega
  clear h hn hr hc hm hC0 hf0 hc1 hs0 hcc1 hD0 hf1 hCD
  refine calls_via fun K hK => ?_
  go_enter Tryz.func101, Tryz.ntmps101
  go_wp2_with fail
  go_loopg [1] m (fun g at' wr => g ≤ m ∧ at' = .int .i64 ((a + 1 + (m - g) : Nat) : Int) ∧ CellsAt wr D [.int .u16 (posB (c.take (m - g)) : Nat), .int .u16 (negB (c.take (m - g)) : Nat), .bool true, .int .i64 0] ∧
    CellsAt wr C [.int .u16 0, .int .u16 0, .bool false, .int .i64 0] ∧ Fr [] w wr)
  case atStart =>
    refine ⟨by omega, by simp, ?_, ?_, ?_⟩
    · have k := ((((HD0.out.set 0 (by simp) (.int .u16 0)).set 1 (by simp) (.int .u16 0)).set 2 (by simp) (.bool false)).set 3 (by simp) (.int .i64 0)).set 2 (by simp) (.bool true)
      simpa [posB, negB] using k
    · have k : Fr [D] w1 _ := ((((Fr.refl [D] w1).setB 0 (.int .u16 0)).setB 1 (.int .u16 0)).setB 2 (.bool false)).setB 3 (.int .i64 0) |>.setB 2 (.bool true)
      exact HC0.out.fr k (by simp; omega) (by simp)
    · refine fr_new HF0.out HCC.out (D := D) (by have := HCD.out; omega) ?_
      exact ((((Fr.refl [D] w1).setB 0 (.int .u16 0)).setB 1 (.int .u16 0)).setB 2 (.bool false)).setB 3 (.int .i64 0) |>.setB 2 (.bool true)
  case round =>
    clear cz0 c00 c01 c02 c03 dz0 d00 d01 d02 d03 hw0 hw1 hC hD
    obtain ⟨hg, rfl, hcd, hcc, hf⟩ := hrel
    obtain ⟨j, hj⟩ : ∃ j, m - gk = j := ⟨_, rfl⟩
    rw [hj] at hcd ⊢
    obtain ⟨k, hk⟩ : ∃ k, a + 1 + j = k := ⟨_, rfl⟩
    rw [hk]
    have hkn : k < n := by omega
    have hkn2 : (k : Int) < n := by omega
    have hcell := (HI.out.fr hf (by simp)).cell HN.out hkn
    have c0 := hcd.c 0 _ rfl
    have c1 := hcd.c 1 _ rfl
    have c2 := hcd.c 2 _ rfl
    have c3 := hcd.c 3 _ rfl
    have cz := hcd.fz
    have e0 := hcc.c 0 _ rfl
    have e1 := hcc.c 1 _ rfl
    have e2 := hcc.c 2 _ rfl
    have e3 := hcc.c 3 _ rfl
    have ez := hcc.fz
    have HCDC := hid hcd
    have HCCC := hid hcc
    have HF := hid hf
    have HJ := hid hj
    have HK0 := hid hk
    have HG := hid hg
    by_cases hlt : 0 < gk
    · have hjm : j < m := by omega
      have hl := HR.out.lit j (by rw [HM.out]; exact hjm)
      rw [hk] at hl
      simp only [] at hl
      rw [hl] at hcell
      have hts := take_snocI (c := c) (k := j) (by rw [HM.out]; exact hjm)
      have hgd := (checkClause_facts HC.out).2.1 (c.getD j 0) (getD_mem (by rw [HM.out]; exact hjm))
      generalize c.getD j 0 = l at *
      have hgi := (good_iff l).1 hgd
      have hps := posB_snoc (c.take j) l
      have hns := negB_snoc (c.take j) l
      rw [← hts] at hps hns
      have hpl : posB (c.take j) < 2 ^ 16 := Nat.lt_of_lt_of_le (posB_lt (fun x hx => (checkClause_facts HC.out).2.1 x (List.mem_of_mem_take hx))) (by decide)
      have hnl : negB (c.take j) < 2 ^ 16 := Nat.lt_of_lt_of_le (negB_lt (fun x hx => (checkClause_facts HC.out).2.1 x (List.mem_of_mem_take hx))) (by decide)
      obtain ⟨v, hv⟩ : ∃ v, l.natAbs = v := ⟨_, rfl⟩
      have hv1 : 1 ≤ v := by omega
      have hv2 : v ≤ 12 := by omega
      have HB := hid (fun w => bitOf_any v hv1 hv2 w)
      have hwv : IntKind.i64.wrap (v : Int) = v := by rw [show (v : Int) = ((v : Nat) : Int) from rfl]; simp only [IntKind.wrap, IntKind.bits, show IntKind.i64.signed = true from rfl]; simp; omega
      have hl0 : (l == 0) = false := by rw [← Bool.not_eq_true, beq_iff_eq]; exact hgi.1
      have e4 : m - (gk - 1) = j + 1 := by omega
      have E4 := hid e4
      have HLT := hid hlt
      by_cases hpos : 0 < l
      · rw [if_pos hpos] at hps hns
        rw [Nat.or_zero] at hns
        have hbits := or16 hpl (pow16 (show v - 1 < 16 by omega))
        rw [show posB (c.take j) ||| 2 ^ (v - 1) = posB (c.take (j + 1)) from by rw [hps]; unfold bitV; rw [hv]] at hbits
        change bits .or .u16 (posB (c.take j) : Nat) (pw (v - 1) : Nat) = _ at hbits
        have hlv : l = (v : Int) := by omega
        subst hlv
        obtain ⟨pj, hpj⟩ : ∃ x, posB (c.take (j + 1)) = x := ⟨_, rfl⟩
        rw [hpj] at hbits
        have HPJ := hid hpj
        have HNS := hid hns
        clear hl hts hgd hgi hps hns hpl hnl hv hcd hcc hf hj hk hg e4 hlt hjm hpj
        generalize posB (c.take j) = pi at *
        generalize negB (c.take j) = ni at *
        go_wp2_with fail
        go_region_with (go_at_call 131; refine (HB.out _).mono ?_; rintro e w' ⟨rfl, hw⟩; have hw2 := hw.symm; subst hw2; clear hw)
        all_goals try go_wp2_with fail
        all_goals go_roundg (gk - 1)
        all_goals first
          | (have := HLT.out; omega)
          | (have hf2 : Fr [D] wr (wr.setCell ⟨D, 0, none⟩ (.int .u16 (pj : Nat))).drew := ((Fr.refl [D] wr).setB 0 _).drew
             refine ⟨by have := HG.out; omega, ?_, ?_, HCCC.out.fr hf2 (by simp [hneCD]) (by simp), fr_new HF.out HCC.out (by have := HCD.out; omega) hf2⟩
             · rw [E4.out, ← HK0.out]; congr 1
             · rw [E4.out, HPJ.out, HNS.out]
               exact (HCDC.out.set 0 (by simp) (.int .u16 (pj : Nat))).fr ((Fr.refl [] _).drew) (by simp) (by simp))
      · rw [if_neg hpos] at hps hns
        rw [Nat.or_zero] at hps
        have hbits := or16 hnl (pow16 (show v - 1 < 16 by omega))
        rw [show negB (c.take j) ||| 2 ^ (v - 1) = negB (c.take (j + 1)) from by rw [hns]; unfold bitV; rw [hv]] at hbits
        change bits .or .u16 (negB (c.take j) : Nat) (pw (v - 1) : Nat) = _ at hbits
        have hlv : l = -(v : Int) := by omega
        subst hlv
        obtain ⟨pj, hpj⟩ : ∃ x, negB (c.take (j + 1)) = x := ⟨_, rfl⟩
        rw [hpj] at hbits
        have HPJ := hid hpj
        have HNS := hid hps
        clear hl hts hgd hgi hps hns hpl hnl hv hcd hcc hf hj hk hg e4 hlt hjm hpj
        generalize posB (c.take j) = pi at *
        generalize negB (c.take j) = ni at *
        go_wp2_with fail
        go_region_with (go_at_call 131; refine (HB.out _).mono ?_; rintro e w' ⟨rfl, hw⟩; have hw2 := hw.symm; subst hw2; clear hw)
        all_goals try go_wp2_with fail
        all_goals go_roundg (gk - 1)
        all_goals first
          | (have := HLT.out; omega)
          | (have hf2 : Fr [D] wr (wr.setCell ⟨D, 1, none⟩ (.int .u16 (pj : Nat))).drew := ((Fr.refl [D] wr).setB 1 _).drew
             refine ⟨by have := HG.out; omega, ?_, ?_, HCCC.out.fr hf2 (by simp [hneCD]) (by simp), fr_new HF.out HCC.out (by have := HCD.out; omega) hf2⟩
             · rw [E4.out, ← HK0.out]; congr 1
             · rw [E4.out, HPJ.out, HNS.out]
               exact (HCDC.out.set 1 (by simp) (.int .u16 (pj : Nat))).fr ((Fr.refl [] _).drew) (by simp) (by simp))
    · have hg0 : gk = 0 := by omega
      subst hg0
      rw [Nat.sub_zero] at hj
      subst hj
      have hl := HR.out.fin
      simp only [] at hl
      rw [HM.out, hk] at hl
      rw [hl] at hcell
      rw [List.take_of_length_le (by rw [HM.out]; exact Nat.le_refl _)] at c0 c1 hcd
      have HCDC := hid hcd
      generalize posB c = pi at *
      generalize negB c = ni at *
      clear hl hcd hcc hf hk hlt hg
      go_wp2_with fail
      refine bodyPost_ret (v := .agg #[.int .u16 (pi : Nat), .int .u16 (ni : Nat), .bool true, .int .i64 ((k : Int) + 1)]) (by simp [results, Tryz.results101, go_sem, cellSet, e0, e1, e2, e3, hneCD, hneDC]) rfl ?_
      have hfD : Fr [] w (wr.setCell ⟨D, 3, none⟩ (.int .i64 ((k : Int) + 1))) := fr_new HF.out HCC.out (by have := HCD.out; omega) ((Fr.refl [D] wr).setB 3 _)
      refine hK.out _ _ ⟨?_, fr_new hfD HCC.out (Nat.le_refl _) (((((Fr.refl [C] _).setB 0 _).setB 1 _).setB 2 _).setB 3 _)⟩
      rw [← HK0.out]; rfl

set_option maxRecDepth 100000 in
set_option maxHeartbeats 8000000 in
theorem read_false {w : World} {v : Value} {f : List Int} (h : Ints w v f) (hb : f.length ≤ 1099511627776) {a : Nat} {c : List Int} (hr : RowAt f a (false, c) 0) (hc : checkClause c = 0) :
    Calls Tryz.prog 101 #[v, .int .i64 (a : Nat)] w fun e w' => e = .returned (.agg #[.int .u16 (posB c : Nat), .int .u16 (negB c : Nat), .bool false, .int .i64 ((a + 0 + c.length + 1 : Nat) : Int)]) ∧ Fr [] w w' := by
  obtain ⟨va, cap, hea⟩ := h.len
  subst hea
  obtain ⟨n, hn⟩ : ∃ n, f.length = n := ⟨_, rfl⟩
  have hlen := hr.len
  simp only [] at hlen
  rw [hn] at h hb hlen ⊢
  have HI := hid h
  have HN := hid hn
  have HR := hid hr
  have HC := hid hc
  obtain ⟨m, hm⟩ : ∃ m, c.length = m := ⟨_, rfl⟩
  rw [hm] at hlen ⊢
  have HM := hid hm
  have hm12 : m ≤ 12 := by rw [← hm]; exact (checkClause_facts hc).1
  obtain ⟨C, hC⟩ : ∃ N, w.heap.size = N := ⟨_, rfl⟩
  have hC0 := CellsAt.mk_alloc w [.int .u16 ((0 : Nat) : Int), .int .u16 ((0 : Nat) : Int), .bool false, .int .i64 0] 164
  obtain ⟨w0, hw0⟩ : ∃ w0, w.alloc (Obj.cells #[.int .u16 0, .int .u16 0, .bool false, .int .i64 0] 164) = w0 := ⟨_, rfl⟩
  change CellsAt (w.alloc (Obj.cells #[.int .u16 0, .int .u16 0, .bool false, .int .i64 0] 164)) w.heap.size _ at hC0
  rw [hw0, hC] at hC0
  have hf0 : Fr [] w w0 := by rw [← hw0]; exact (Fr.refl _ _).alloc _
  have hs0 : w0.heap.size = C + 1 := by rw [← hw0]; simp [hC]
  have hD0 := CellsAt.mk_alloc w0 [.int .u16 ((0 : Nat) : Int), .int .u16 ((0 : Nat) : Int), .bool false, .int .i64 0] 164
  obtain ⟨w1, hw1⟩ : ∃ w1, w0.alloc (Obj.cells #[.int .u16 0, .int .u16 0, .bool false, .int .i64 0] 164) = w1 := ⟨_, rfl⟩
  change CellsAt (w0.alloc (Obj.cells #[.int .u16 0, .int .u16 0, .bool false, .int .i64 0] 164)) w0.heap.size _ at hD0
  obtain ⟨D, hD⟩ : ∃ D, w0.heap.size = D := ⟨_, rfl⟩
  rw [hw1, hD] at hD0
  have hf1 : Fr [] w0 w1 := by rw [← hw1]; exact (Fr.refl _ _).alloc _
  have hCD : D = C + 1 := by omega
  have hcc1 := hC0.fr hf1 (by simp) (by simp)
  have HC0 := hid hcc1
  have HD0 := hid hD0
  have HF0 := hid (hf0.trans hf1)
  have HCC := hid hC
  have HCD := hid hCD
  have cz0 := hcc1.fz
  have c00 := hcc1.c 0 _ rfl
  have c01 := hcc1.c 1 _ rfl
  have c02 := hcc1.c 2 _ rfl
  have c03 := hcc1.c 3 _ rfl
  have dz0 := hD0.fz
  have d00 := hD0.c 0 _ rfl
  have d01 := hD0.c 1 _ rfl
  have d02 := hD0.c 2 _ rfl
  have d03 := hD0.c 3 _ rfl
  have hneCD : ¬ C = D := by omega
  have hneDC : ¬ D = C := by omega
  have han : a < n := by omega
  have han2 : (a : Int) < n := by omega
  obtain ⟨g1, o1, hva, hc1⟩ := h.at hn han
  subst hva
  have hx := (hr.add rfl).2
  generalize f.getD a 0 = x0 at *
  have hb0 : (x0 == 13) = false := by simp [hx]
  have hc1' := HF0.out.cell hc1 (by simp)
  have hne : ¬ g1 = C := by have := lt_of_cellB hc1; omega
  have hne2 : ¬ C = g1 := by have := lt_of_cellB hc1; omega
  have hne3 : ¬ g1 = D := by have := lt_of_cellB hc1; omega
  have hne4 : ¬ D = g1 := by have := lt_of_cellB hc1; omega
  clear h hn hr hc hm hC0 hf0 hc1 hs0 hcc1 hD0 hf1 hCD
  refine calls_via fun K hK => ?_
  go_enter Tryz.func101, Tryz.ntmps101
  go_wp2_with fail
  go_loopg [1] m (fun g at' wr => g ≤ m ∧ at' = .int .i64 ((a + 0 + (m - g) : Nat) : Int) ∧ CellsAt wr D [.int .u16 (posB (c.take (m - g)) : Nat), .int .u16 (negB (c.take (m - g)) : Nat), .bool false, .int .i64 0] ∧
    CellsAt wr C [.int .u16 0, .int .u16 0, .bool false, .int .i64 0] ∧ Fr [] w wr)
  case atStart =>
    refine ⟨by omega, by simp, ?_, ?_, ?_⟩
    · have k := ((((HD0.out.set 0 (by simp) (.int .u16 0)).set 1 (by simp) (.int .u16 0)).set 2 (by simp) (.bool false)).set 3 (by simp) (.int .i64 0))
      simpa [posB, negB] using k
    · have k : Fr [D] w1 _ := ((((Fr.refl [D] w1).setB 0 (.int .u16 0)).setB 1 (.int .u16 0)).setB 2 (.bool false)).setB 3 (.int .i64 0)
      exact HC0.out.fr k (by simp; omega) (by simp)
    · refine fr_new HF0.out HCC.out (D := D) (by have := HCD.out; omega) ?_
      exact ((((Fr.refl [D] w1).setB 0 (.int .u16 0)).setB 1 (.int .u16 0)).setB 2 (.bool false)).setB 3 (.int .i64 0)
  case round =>
    clear cz0 c00 c01 c02 c03 dz0 d00 d01 d02 d03 hw0 hw1 hC hD
    obtain ⟨hg, rfl, hcd, hcc, hf⟩ := hrel
    obtain ⟨j, hj⟩ : ∃ j, m - gk = j := ⟨_, rfl⟩
    rw [hj] at hcd ⊢
    obtain ⟨k, hk⟩ : ∃ k, a + 0 + j = k := ⟨_, rfl⟩
    rw [hk]
    have hkn : k < n := by omega
    have hkn2 : (k : Int) < n := by omega
    have hcell := (HI.out.fr hf (by simp)).cell HN.out hkn
    have c0 := hcd.c 0 _ rfl
    have c1 := hcd.c 1 _ rfl
    have c2 := hcd.c 2 _ rfl
    have c3 := hcd.c 3 _ rfl
    have cz := hcd.fz
    have e0 := hcc.c 0 _ rfl
    have e1 := hcc.c 1 _ rfl
    have e2 := hcc.c 2 _ rfl
    have e3 := hcc.c 3 _ rfl
    have ez := hcc.fz
    have HCDC := hid hcd
    have HCCC := hid hcc
    have HF := hid hf
    have HJ := hid hj
    have HK0 := hid hk
    have HG := hid hg
    by_cases hlt : 0 < gk
    · have hjm : j < m := by omega
      have hl := HR.out.lit j (by rw [HM.out]; exact hjm)
      rw [hk] at hl
      simp only [] at hl
      rw [hl] at hcell
      have hts := take_snocI (c := c) (k := j) (by rw [HM.out]; exact hjm)
      have hgd := (checkClause_facts HC.out).2.1 (c.getD j 0) (getD_mem (by rw [HM.out]; exact hjm))
      generalize c.getD j 0 = l at *
      have hgi := (good_iff l).1 hgd
      have hps := posB_snoc (c.take j) l
      have hns := negB_snoc (c.take j) l
      rw [← hts] at hps hns
      have hpl : posB (c.take j) < 2 ^ 16 := Nat.lt_of_lt_of_le (posB_lt (fun x hx => (checkClause_facts HC.out).2.1 x (List.mem_of_mem_take hx))) (by decide)
      have hnl : negB (c.take j) < 2 ^ 16 := Nat.lt_of_lt_of_le (negB_lt (fun x hx => (checkClause_facts HC.out).2.1 x (List.mem_of_mem_take hx))) (by decide)
      obtain ⟨v, hv⟩ : ∃ v, l.natAbs = v := ⟨_, rfl⟩
      have hv1 : 1 ≤ v := by omega
      have hv2 : v ≤ 12 := by omega
      have HB := hid (fun w => bitOf_any v hv1 hv2 w)
      have hwv : IntKind.i64.wrap (v : Int) = v := by rw [show (v : Int) = ((v : Nat) : Int) from rfl]; simp only [IntKind.wrap, IntKind.bits, show IntKind.i64.signed = true from rfl]; simp; omega
      have hl0 : (l == 0) = false := by rw [← Bool.not_eq_true, beq_iff_eq]; exact hgi.1
      have e4 : m - (gk - 1) = j + 1 := by omega
      have E4 := hid e4
      have HLT := hid hlt
      by_cases hpos : 0 < l
      · rw [if_pos hpos] at hps hns
        rw [Nat.or_zero] at hns
        have hbits := or16 hpl (pow16 (show v - 1 < 16 by omega))
        rw [show posB (c.take j) ||| 2 ^ (v - 1) = posB (c.take (j + 1)) from by rw [hps]; unfold bitV; rw [hv]] at hbits
        change bits .or .u16 (posB (c.take j) : Nat) (pw (v - 1) : Nat) = _ at hbits
        have hlv : l = (v : Int) := by omega
        subst hlv
        obtain ⟨pj, hpj⟩ : ∃ x, posB (c.take (j + 1)) = x := ⟨_, rfl⟩
        rw [hpj] at hbits
        have HPJ := hid hpj
        have HNS := hid hns
        clear hl hts hgd hgi hps hns hpl hnl hv hcd hcc hf hj hk hg e4 hlt hjm hpj
        generalize posB (c.take j) = pi at *
        generalize negB (c.take j) = ni at *
        go_wp2_with fail
        go_region_with (go_at_call 131; refine (HB.out _).mono ?_; rintro e w' ⟨rfl, hw⟩; have hw2 := hw.symm; subst hw2; clear hw)
        all_goals try go_wp2_with fail
        all_goals go_roundg (gk - 1)
        all_goals first
          | (have := HLT.out; omega)
          | (have hf2 : Fr [D] wr (wr.setCell ⟨D, 0, none⟩ (.int .u16 (pj : Nat))).drew := ((Fr.refl [D] wr).setB 0 _).drew
             refine ⟨by have := HG.out; omega, ?_, ?_, HCCC.out.fr hf2 (by simp [hneCD]) (by simp), fr_new HF.out HCC.out (by have := HCD.out; omega) hf2⟩
             · rw [E4.out, ← HK0.out]; congr 1
             · rw [E4.out, HPJ.out, HNS.out]
               exact (HCDC.out.set 0 (by simp) (.int .u16 (pj : Nat))).fr ((Fr.refl [] _).drew) (by simp) (by simp))
      · rw [if_neg hpos] at hps hns
        rw [Nat.or_zero] at hps
        have hbits := or16 hnl (pow16 (show v - 1 < 16 by omega))
        rw [show negB (c.take j) ||| 2 ^ (v - 1) = negB (c.take (j + 1)) from by rw [hns]; unfold bitV; rw [hv]] at hbits
        change bits .or .u16 (negB (c.take j) : Nat) (pw (v - 1) : Nat) = _ at hbits
        have hlv : l = -(v : Int) := by omega
        subst hlv
        obtain ⟨pj, hpj⟩ : ∃ x, negB (c.take (j + 1)) = x := ⟨_, rfl⟩
        rw [hpj] at hbits
        have HPJ := hid hpj
        have HNS := hid hps
        clear hl hts hgd hgi hps hns hpl hnl hv hcd hcc hf hj hk hg e4 hlt hjm hpj
        generalize posB (c.take j) = pi at *
        generalize negB (c.take j) = ni at *
        go_wp2_with fail
        go_region_with (go_at_call 131; refine (HB.out _).mono ?_; rintro e w' ⟨rfl, hw⟩; have hw2 := hw.symm; subst hw2; clear hw)
        all_goals try go_wp2_with fail
        all_goals go_roundg (gk - 1)
        all_goals first
          | (have := HLT.out; omega)
          | (have hf2 : Fr [D] wr (wr.setCell ⟨D, 1, none⟩ (.int .u16 (pj : Nat))).drew := ((Fr.refl [D] wr).setB 1 _).drew
             refine ⟨by have := HG.out; omega, ?_, ?_, HCCC.out.fr hf2 (by simp [hneCD]) (by simp), fr_new HF.out HCC.out (by have := HCD.out; omega) hf2⟩
             · rw [E4.out, ← HK0.out]; congr 1
             · rw [E4.out, HPJ.out, HNS.out]
               exact (HCDC.out.set 1 (by simp) (.int .u16 (pj : Nat))).fr ((Fr.refl [] _).drew) (by simp) (by simp))
    · have hg0 : gk = 0 := by omega
      subst hg0
      rw [Nat.sub_zero] at hj
      subst hj
      have hl := HR.out.fin
      simp only [] at hl
      rw [HM.out, hk] at hl
      rw [hl] at hcell
      rw [List.take_of_length_le (by rw [HM.out]; exact Nat.le_refl _)] at c0 c1 hcd
      have HCDC := hid hcd
      generalize posB c = pi at *
      generalize negB c = ni at *
      clear hl hcd hcc hf hk hlt hg
      go_wp2_with fail
      refine bodyPost_ret (v := .agg #[.int .u16 (pi : Nat), .int .u16 (ni : Nat), .bool false, .int .i64 ((k : Int) + 1)]) (by simp [results, Tryz.results101, go_sem, cellSet, e0, e1, e2, e3, hneCD, hneDC]) rfl ?_
      have hfD : Fr [] w (wr.setCell ⟨D, 3, none⟩ (.int .i64 ((k : Int) + 1))) := fr_new HF.out HCC.out (by have := HCD.out; omega) ((Fr.refl [D] wr).setB 3 _)
      refine hK.out _ _ ⟨?_, fr_new hfD HCC.out (Nat.le_refl _) (((((Fr.refl [C] _).setB 0 _).setB 1 _).setB 2 _).setB 3 _)⟩
      rw [← HK0.out]; rfl
end Go.Proofs.Qxb6500354aGreat
