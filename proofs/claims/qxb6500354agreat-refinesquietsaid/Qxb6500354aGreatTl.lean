/- The walks over towerlaw: Due, Gauges, SameAnswer, Mask, Turned. -/
import Derived.Test.Qxb6500354aGreatLaw10
namespace Go.Proofs.Qxb6500354aGreat
open Go.RowKit
set_option linter.unusedVariables false
set_option linter.unusedSimpArgs false

theorem wrapI64n {n : Nat} (h : n < 2 ^ 62) : IntKind.i64.wrap (n : Int) = (n : Int) := by
  have e : IntKind.i64.signed = true := rfl
  simp only [IntKind.wrap, IntKind.bits, e]; simp; omega
theorem or63 {a b : Nat} (ha : a < 2 ^ 62) (hb : b < 2 ^ 62) : bits .or .i64 a b = ((a ||| b : Nat) : Int) := by
  have h1 : a ||| b < 2 ^ 62 := Nat.or_lt_two_pow ha hb
  show IntKind.i64.wrap (((BitVec.ofInt 64 a) ||| (BitVec.ofInt 64 b)).toNat : Nat) = _
  rw [ofIntN, ofIntN, BitVec.toNat_or, toNatN (show a < 2 ^ 64 by omega), toNatN (show b < 2 ^ 64 by omega), wrapI64n h1]
theorem dueF_succ (f r n : Nat) : dueF (f + 1) r n = if r < 4 then (if n < r + 1 then r else dueF f (r + 1) (n - (r + 1))) else r := rfl
set_option maxHeartbeats 2000000 in
theorem due_any (n : Nat) (hn : n ≤ 1000000) (w : World) : Calls Tryz.prog 57 #[.int .i64 (n : Nat)] w fun e w' => e = .returned (.int .i64 (dueF 5 0 n : Nat)) ∧ ∃ q, w' = w.drewN q := by
  obtain ⟨res, hres⟩ : ∃ r, dueF 5 0 n = r := ⟨_, rfl⟩
  rw [hres]
  have HR := hid hres
  have HN := hid hn
  clear hres hn
  refine calls_via fun K hK => ?_
  go_enter Tryz.func57, Tryz.ntmps57
  go_wp2_with fail
  go_loopg [0, 3] 5 (fun g nv rv wr => ∃ n r q : Nat, g + r = 5 ∧ nv = .int .i64 (n : Nat) ∧ rv = .int .i64 (r : Nat) ∧ res = dueF g r n ∧ n ≤ 1000000 ∧ r ≤ 4 ∧ wr = w.drewN q)
  case atStart => exact ⟨n, 0, 0, by omega, rfl, by simp, HR.out.symm, HN.out, by omega, rfl⟩
  case round =>
    obtain ⟨m, r, q, hg, rfl, rfl, he, hm, hr, rfl⟩ := hrel
    obtain ⟨g, rfl⟩ : ∃ g, gk = g + 1 := ⟨gk - 1, by omega⟩
    rw [dueF_succ] at he
    have hmi : (m : Int) ≤ 1000000 := by omega
    have HG := hid hg
    have HRR := hid hr
    have HM := hid hm
    by_cases h4 : r < 4
    · have hri : (r : Int) < 4 := by omega
      rw [if_pos h4] at he
      have hiv : interval r = r + 1 := by unfold interval; rw [if_pos h4]
      have HI := hid (fun w => interval_any r hr w)
      rw [hiv] at HI
      by_cases hl : m < r + 1
      · rw [if_pos hl] at he
        have HE := hid he
        have hli : (m : Int) < ((r + 1 : Nat) : Int) := by omega
        have hli2 : (m : Int) < (r : Int) + 1 := by omega
        clear hg hr hm h4 he hiv hl
        go_wp2_with (first | (go_at_call 96; refine (HI.out _).mono ?_; rintro e w' ⟨rfl, n2, hw⟩; have hw2 := hw; subst hw2; clear hw))
        exact hK.out _ _ ⟨by rw [HE.out]; rfl, _, by first | rfl | exact World.drewN_drewN _ _ _⟩
      · rw [if_neg hl] at he
        have HE := hid he
        have hli : ¬ (m : Int) < ((r + 1 : Nat) : Int) := by omega
        have hli2 : ¬ (m : Int) < (r : Int) + 1 := by omega
        have HL : Hid (r + 1 ≤ m) := hid (by omega)
        clear hg hr hm h4 he hiv hl
        go_wp2_with (first | (go_at_call 96; refine (HI.out _).mono ?_; rintro e w' ⟨rfl, n2, hw⟩; have hw2 := hw; subst hw2; clear hw))
        go_roundg g
        case measure => omega
        case rel =>
          have hl := HL.out
          have hm := HM.out
          have hg := HG.out
          refine ⟨m - (r + 1), r + 1, _, by omega, ?_, ?_, HE.out, by omega, by omega, by first | rfl | exact World.drewN_drewN _ _ _⟩
          · congr 1; omega
          · congr 1
    · have hr4 : r = 4 := by omega
      subst hr4
      rw [if_neg h4] at he
      have HE := hid he
      clear hg hr hm h4 he
      go_wp2_with fail
      exact hK.out _ _ ⟨by rw [HE.out]; rfl, _, rfl⟩
/-- What the gauges of an answer must be. -/
def GaugeOK (a : AnsS) : Prop := a.conf ≤ 4106 ∧ (if a.sat = true then dueF 5 0 a.conf = a.rest else 1 ≤ a.conf ∧ dueF 5 0 (a.conf - 1) = a.rest)
set_option maxRecDepth 100000 in
set_option maxHeartbeats 2000000 in
theorem gauges_any (a : AnsS) (mv : Value) (h : GaugeOK a) (w : World) : Calls Tryz.prog 28 #[ansV a mv] w fun e w' => e = .returned (.bool true) ∧ Fr [] w w' := by
  obtain ⟨err, pos, sat, model, proof, conf, rest⟩ := a
  obtain ⟨h1, h2⟩ := h
  simp only [] at h1 h2
  unfold ansV
  simp only []
  obtain ⟨pf, hpf⟩ : ∃ z, strN proof = z := ⟨_, rfl⟩
  rw [hpf]
  clear hpf
  obtain ⟨N, hN⟩ : ∃ N, w.heap.size = N := ⟨_, rfl⟩
  have hC := CellsAt.mk_alloc w [.int .i64 (err : Nat), .int .i64 (pos : Nat), .bool sat, mv, .string pf, .int .i64 (conf : Nat), .int .i64 (rest : Nat)] 74
  obtain ⟨w0, hw0⟩ : ∃ w0, w.alloc (Obj.cells #[.int .i64 (err : Nat), .int .i64 (pos : Nat), .bool sat, mv, .string pf, .int .i64 (conf : Nat), .int .i64 (rest : Nat)] 74) = w0 := ⟨_, rfl⟩
  change CellsAt (w.alloc (Obj.cells #[.int .i64 (err : Nat), .int .i64 (pos : Nat), .bool sat, mv, .string pf, .int .i64 (conf : Nat), .int .i64 (rest : Nat)] 74)) w.heap.size _ at hC
  rw [hw0, hN] at hC
  have HF0 : Hid (Fr [] w w0) := hid (by rw [← hw0]; exact (Fr.refl _ _).alloc _)
  have c2 := hC.c 2 _ rfl
  have c5 := hC.c 5 _ rfl
  have c6 := hC.c 6 _ rfl
  have cz := hC.fz
  have HC := hid hC
  clear hC
  have hci : (conf : Int) ≤ 4106 := by omega
  cases sat with
  | true =>
    rw [if_pos rfl] at h2
    have HD := hid (due_any conf (by omega) w0)
    rw [h2] at HD
    clear h1 h2
    refine calls_via fun K hK => ?_
    go_enter Tryz.func28, Tryz.ntmps28
    go_wp2_with fail
    refine HD.out.mono ?_
    rintro e w1 ⟨rfl, q, hq⟩
    have hf1 : Fr [] w0 w1 := by rw [hq]; exact Fr.of_drewN []
    have k6 := hf1.cell c6 (by simp)
    have HF1 := hid (HF0.out.trans hf1)
    clear hq hf1
    go_wp2_with fail
    exact hK.out _ _ ⟨rfl, HF1.out⟩
  | false =>
    rw [if_neg (by simp)] at h2
    obtain ⟨n, rfl⟩ : ∃ n, conf = n + 1 := ⟨conf - 1, by omega⟩
    rw [Nat.add_sub_cancel] at h2
    have HD := hid (due_any n (by omega) w0)
    rw [h2.2] at HD
    have hn0 : ¬ (n : Int) < 0 := by omega
    have hc2 : ((n + 1 : Nat) : Int) = (n : Int) + 1 := by omega
    rw [hc2] at c5 hci hw0
    clear h1 h2 hc2
    refine calls_via fun K hK => ?_
    go_enter Tryz.func28, Tryz.ntmps28
    go_wp2_with fail
    refine HD.out.mono ?_
    rintro e w1 ⟨rfl, q, hq⟩
    have hf1 : Fr [] w0 w1 := by rw [hq]; exact Fr.of_drewN []
    have k6 := hf1.cell c6 (by simp)
    have HF1 := hid (HF0.out.trans hf1)
    clear hq hf1
    go_wp2_with fail
    exact hK.out _ _ ⟨rfl, HF1.out⟩

/-! ### SameAnswer -/
set_option maxRecDepth 100000 in
set_option maxHeartbeats 4000000 in
theorem sameAnswer_any (a : AnsS) {mv mc : Value} {w : World} (h1 : Ints w mv a.model) (h2 : Ints w mc a.model) (hb : a.model.length ≤ 1000) : Calls Tryz.prog 27 #[ansV a mv, ansV a mc] w fun e w' => e = .returned (.bool true) ∧ Fr [] w w' := by
  obtain ⟨err, pos, sat, model, proof, conf, rest⟩ := a
  simp only [] at h1 h2 hb
  unfold ansV
  simp only []
  obtain ⟨pf, hpf⟩ : ∃ z, strN proof = z := ⟨_, rfl⟩
  rw [hpf]
  clear hpf
  obtain ⟨a1, c1, rfl⟩ := h1.len
  obtain ⟨a2, c2, rfl⟩ := h2.len
  obtain ⟨ml, hml⟩ : ∃ z, model.length = z := ⟨_, rfl⟩
  rw [hml] at h1 h2 hb ⊢
  obtain ⟨N, hN⟩ : ∃ N, w.heap.size = N := ⟨_, rfl⟩
  have hC := CellsAt.mk_alloc w [.int .i64 (err : Nat), .int .i64 (pos : Nat), .bool sat, .slice a1 ml c1, .string pf, .int .i64 (conf : Nat), .int .i64 (rest : Nat)] 74
  obtain ⟨w0, hw0⟩ : ∃ w0, w.alloc (Obj.cells #[.int .i64 (err : Nat), .int .i64 (pos : Nat), .bool sat, .slice a1 ml c1, .string pf, .int .i64 (conf : Nat), .int .i64 (rest : Nat)] 74) = w0 := ⟨_, rfl⟩
  change CellsAt (w.alloc (Obj.cells #[.int .i64 (err : Nat), .int .i64 (pos : Nat), .bool sat, .slice a1 ml c1, .string pf, .int .i64 (conf : Nat), .int .i64 (rest : Nat)] 74)) w.heap.size _ at hC
  rw [hw0, hN] at hC
  have hf0 : Fr [] w w0 := by rw [← hw0]; exact (Fr.refl _ _).alloc _
  obtain ⟨N2, hN2⟩ : ∃ N, w0.heap.size = N := ⟨_, rfl⟩
  have hC2 := CellsAt.mk_alloc w0 [.int .i64 (err : Nat), .int .i64 (pos : Nat), .bool sat, .slice a2 ml c2, .string pf, .int .i64 (conf : Nat), .int .i64 (rest : Nat)] 74
  obtain ⟨w1, hw1⟩ : ∃ w1, w0.alloc (Obj.cells #[.int .i64 (err : Nat), .int .i64 (pos : Nat), .bool sat, .slice a2 ml c2, .string pf, .int .i64 (conf : Nat), .int .i64 (rest : Nat)] 74) = w1 := ⟨_, rfl⟩
  change CellsAt (w0.alloc (Obj.cells #[.int .i64 (err : Nat), .int .i64 (pos : Nat), .bool sat, .slice a2 ml c2, .string pf, .int .i64 (conf : Nat), .int .i64 (rest : Nat)] 74)) w0.heap.size _ at hC2
  rw [hw1, hN2] at hC2
  have hf1 : Fr [] w0 w1 := by rw [← hw1]; exact (Fr.refl _ _).alloc _
  have hC1 := hC.fr hf1 (by simp) (by simp)
  have k0 := hC1.c 0 _ rfl
  have k1 := hC1.c 1 _ rfl
  have k2 := hC1.c 2 _ rfl
  have k3 := hC1.c 3 _ rfl
  have k4 := hC1.c 4 _ rfl
  have k5 := hC1.c 5 _ rfl
  have k6 := hC1.c 6 _ rfl
  have j0 := hC2.c 0 _ rfl
  have j1 := hC2.c 1 _ rfl
  have j2 := hC2.c 2 _ rfl
  have j3 := hC2.c 3 _ rfl
  have j4 := hC2.c 4 _ rfl
  have j5 := hC2.c 5 _ rfl
  have j6 := hC2.c 6 _ rfl
  have HF := hid (hf0.trans hf1)
  have HS := hid (sameInts_any (h1.fr (hf0.trans hf1) (by simp)) (h2.fr (hf0.trans hf1) (by simp)) (by omega))
  rw [decide_eq_true rfl] at HS
  clear hC hf0 hC2 hf1 hC1 h1 h2 hml hb
  refine calls_via fun K hK => ?_
  go_enter Tryz.func27, Tryz.ntmps27
  go_wp2_with (first | (go_at_call 56; refine HS.out.mono ?_; rintro e w' ⟨rfl, n2, hw⟩))
  exact hK.out _ _ ⟨rfl, HF.out.drewN⟩

/-! ### Mask -/
theorem maskLoop_cons (l : Int) (r : List Int) (v m : Nat) : maskLoop (l :: r) v m = if l = (v : Int) then maskLoop r (v + 1) (m ||| 2 ^ (v - 1)) else if l = -(v : Int) then maskLoop r (v + 1) m else none := rfl
set_option maxRecDepth 100000 in
set_option maxHeartbeats 4000000 in
theorem mask_any {w : World} {mv : Value} {l : List Int} (h : Ints w mv l) (hl : l.length = 12) {M : Nat} (hM : maskLoop l 1 0 = some M) :
    Calls Tryz.prog 31 #[mv] w fun e w' => e = .returned (.tuple #[.int .i64 (M : Nat), .bool true]) ∧ w' = w := by
  obtain ⟨a, c, rfl⟩ := h.len
  rw [hl] at h ⊢
  have HI := hid h
  have HL := hid hl
  have HM := hid hM
  clear h hl hM
  refine calls_via fun K hK => ?_
  go_enter Tryz.func31, Tryz.ntmps31
  go_wp2_with fail
  go_loopg [4, 5] 12 (fun g mk vv wr => ∃ k m : Nat, g + k = 12 ∧ vv = .int .i64 ((k : Int) + 1) ∧ mk = .int .i64 (m : Nat) ∧ m < 2 ^ k ∧ wr = w ∧ maskLoop (l.drop k) (k + 1) m = some M)
  case atStart => exact ⟨0, 0, by omega, by simp, rfl, by decide, rfl, by simpa using HM.out⟩
  case round =>
    obtain ⟨k, m, hg, rfl, rfl, hm, rfl, he⟩ := hrel
    by_cases hlt : k < 12
    · have hki : (k : Int) < 12 := by omega
      have hki2 : (k : Int) + 1 ≤ 12 := by omega
      obtain ⟨g1, o1, rfl, hc1⟩ := HI.out.at HL.out hlt
      rw [drop_cons' HL.out hlt, maskLoop_cons] at he
      generalize l.getD k 0 = x at *
      have hm12 : m < 2 ^ 12 := Nat.lt_of_lt_of_le hm (Nat.pow_le_pow_right (by decide) (by omega))
      have hp12 : 2 ^ k < 2 ^ 12 := Nat.pow_lt_pow_right (by decide) hlt
      have HG := hid hg
      have HMM := hid hm
      have HLT := hid hlt
      by_cases e1 : x = ((k + 1 : Nat) : Int)
      · rw [if_pos e1, Nat.add_sub_cancel] at he
        have HE := hid he
        have hb1 : (x == (k : Int) + 1) = true := by rw [e1]; simp
        have hor := or63 (a := m) (b := 2 ^ k) (by omega) (by omega)
        have hsh : IntKind.i64.wrap (2 ^ k) = ((2 ^ k : Nat) : Int) := by rw [show ((2 : Int) ^ k) = ((2 ^ k : Nat) : Int) from by simp, wrapI64n (by omega)]
        have HOR := hid hor
        clear he e1 hg hm hlt hm12 hp12 hor
        go_wp2_with fail
        go_roundg (gk - 1)
        case measure => have := HG.out; have := HLT.out; omega
        case rel =>
          have hg := HG.out
          have hlt := HLT.out
          refine ⟨k + 1, m ||| 2 ^ k, by omega, by simp, ?_, Nat.or_lt_two_pow (Nat.lt_of_lt_of_le HMM.out (Nat.pow_le_pow_right (by decide) (by omega))) (Nat.pow_lt_pow_right (by decide) (by omega)), rfl, HE.out⟩
          rw [show ((2 : Int) ^ k) = ((2 ^ k : Nat) : Int) from by simp, HOR.out]
      · rw [if_neg e1] at he
        by_cases e2 : x = -((k + 1 : Nat) : Int)
        · rw [if_pos e2] at he
          have HE := hid he
          have hb1 : (x == (k : Int) + 1) = false := by rw [beq_eq_false_iff_ne]; omega
          have hb2 : (x != -((k : Int) + 1)) = false := by rw [e2]; simp
          clear he e1 e2 hg hm hlt hm12 hp12
          go_wp2_with fail
          go_roundg (gk - 1)
          case measure => have := HG.out; have := HLT.out; omega
          case rel =>
            have hg := HG.out
            have hlt := HLT.out
            exact ⟨k + 1, m, by omega, by simp, rfl, Nat.lt_of_lt_of_le HMM.out (Nat.pow_le_pow_right (by decide) (by omega)), rfl, HE.out⟩
        · rw [if_neg e2] at he; simp at he
    · have hk12 : k = 12 := by omega
      subst hk12
      rw [List.drop_of_length_le (by rw [HL.out]; exact Nat.le_refl _)] at he
      have he2 : m = M := by simpa [maskLoop] using he
      subst he2
      clear he hg hm hlt
      go_wp2_with fail
      try go_ret2
      exact hK.out _ _ ⟨rfl, rfl⟩

/-! ### Turned -/
set_option maxRecDepth 100000 in
set_option maxHeartbeats 4000000 in
theorem turned_any (s : ByteArray) (hs : s.size ≤ maxLen) (at' by' : Int) (w : World) : Calls Tryz.prog 18 #[.string s, .int .i64 at', .int .i64 by'] w fun e w' => (∃ t : ByteArray, e = .returned (.string t) ∧ t.size = s.size) ∧ Fr [] w w' := by
  unfold maxLen at hs
  by_cases h0 : at' < 0
  · refine calls_via fun K hK => ?_
    go_enter Tryz.func18, Tryz.ntmps18
    go_wp2_with fail
    exact hK.out _ _ ⟨⟨_, rfl, rfl⟩, Fr.refl _ _⟩
  · obtain ⟨a, rfl⟩ : ∃ a : Nat, at' = a := ⟨at'.toNat, by omega⟩
    by_cases h1 : s.size ≤ a
    · have hi : (s.size : Int) ≤ a := by omega
      have hi0 : ¬ (a : Int) < 0 := by omega
      clear h0
      refine calls_via fun K hK => ?_
      go_enter Tryz.func18, Tryz.ntmps18
      go_wp2_with fail
      exact hK.out _ _ ⟨⟨_, rfl, rfl⟩, Fr.refl _ _⟩
    · have hi : ¬ (s.size : Int) ≤ a := by omega
      have hi0 : ¬ (a : Int) < 0 := by omega
      have hcv := run_bytes_of_string (P := Tryz.prog) w 9 95 5 s Tryz.underlying9 Tryz.underlying95 Tryz.underlying5
      obtain ⟨cp, hcp⟩ : ∃ z, grownCap w s.size 0 5 = z := ⟨_, rfl⟩
      rw [hcp] at hcv
      obtain ⟨B, hB⟩ : ∃ B, w.heap.size = B := ⟨_, rfl⟩
      obtain ⟨w1, hw1⟩ : ∃ z, w.drew.alloc (.cells (bytesRow s cp) 5 ((bytesRow s cp).size, (bytesRow s cp).size + 1)) = z := ⟨_, rfl⟩
      have hcell : ∀ j, j < s.size → w1.cell? ⟨B, j, none⟩ = some (.int .u8 (((bytesOf s).getD j 0 : Nat) : Int)) := by
        intro j hj
        rw [← hw1, ← hB]
        refine (World.cell?_alloc_mark w.drew _ _ _ j).trans ?_
        rw [bytesRow_at s cp j hj]
        congr 2
        rw [List.getD_eq_getElem?_getD, List.getElem?_eq_getElem (by rw [bytesOf_len]; exact hj)]
        simp [bytesOf]
      have hfz : ∀ j, j < s.size → w1.frozen? ⟨B, j, none⟩ = false := by
        intro j hj
        rw [← hw1, ← hB]
        refine (World.frozen?_alloc_mark w.drew _ _ _ _ j).trans ?_
        have : s.size ≤ (bytesRow s cp).size := by unfold bytesRow; simp
        rw [decide_eq_false (show ¬ (bytesRow s cp).size ≤ j by omega)]; rfl
      have hf1 : Fr [] w w1 := by rw [← hw1]; exact ((Fr.refl [] w).drew).alloc _
      rw [hw1, hB] at hcv
      have ha : a < s.size := by omega
      have hai : (a : Int) < s.size := by omega
      have ca := hcell a ha
      have fa := hfz a ha
      obtain ⟨xs, hxs⟩ : ∃ z, (bytesOf s).map (fun (n : Nat) => (n : Int)) = z := ⟨_, rfl⟩
      have hxl : xs.length = s.size := by rw [← hxs, List.length_map, bytesOf_len]
      have hcx : ∀ j, j < s.size → w1.cell? ⟨B, j, none⟩ = some (.int .u8 (xs.getD j 0)) := by
        intro j hj
        rw [hcell j hj, ← hxs]
        simp [List.getD_eq_getElem?_getD, List.getElem?_map, List.getElem?_eq_getElem (show j < (bytesOf s).length by rw [bytesOf_len]; exact hj)]
      have hcv2 : ∀ X : Int, (convert 95 9 (.slice (some ⟨B, 0, none⟩) s.size cp)).run Tryz.prog (w1.setCell ⟨B, a, none⟩ (.int .u8 X)) = .ok (.string (strOfNums (xs.set a X))) (w1.setCell ⟨B, a, none⟩ (.int .u8 X)) := by
        intro X
        refine run_convert_bytes_arg (P := Tryz.prog) _ 95 5 Tryz.underlying95 Tryz.underlying5 B 0 s.size cp (xs.set a X) (by rw [List.length_set]; exact hxl) ?_ 9 Tryz.underlying9
        intro j hj
        rw [Nat.zero_add]
        by_cases e : j = a
        · subst e
          rw [cellSet (hcx j hj)]
          simp [List.getD_eq_getElem?_getD, List.getElem?_set_self (show j < xs.length by omega)]
        · rw [cellNe (fun q => e q.symm), hcx j hj]
          simp [List.getD_eq_getElem?_getD, List.getElem?_set_ne (fun q => e q.symm)]
      have HF1 := hid hf1
      have HXL := hid hxl
      have HB := hid hB
      clear hf1 hxl hcx hxs hcell hfz hcp hw1 h0 h1 ha
      refine calls_via fun K hK => ?_
      go_enter Tryz.func18, Tryz.ntmps18
      go_wp2_with fail
      refine hK.out _ _ ⟨⟨_, rfl, by rw [strOfNums_size, List.length_set]; exact HXL.out⟩, ?_⟩
      exact HF1.out.set (fun h => absurd h (by have := HB.out; simp; omega)) _
end Go.Proofs.Qxb6500354aGreat
