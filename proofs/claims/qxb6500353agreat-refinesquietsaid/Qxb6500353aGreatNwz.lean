/- Objects in the making; the constructors of the tape and of the real coder. -/
import Derived.Test.Qxb6500353aGreatBdw
import Derived.Test.Qxb6500353aGreatTpw
import Derived.Deep.OwnRows
namespace Go.Proofs.Qxb6500353aGreat
open Go.RowKit
set_option linter.unusedVariables false
set_option linter.unusedSimpArgs false

/-- make of n ints: the very world. -/
theorem wp_mkx {ops : Array Oper} {rest : List Oper} {o : Oper} {a : Act} {Q : Exit → Act → World → Prop} {w : World} (hgd : o.guard = none) (l c : Operand) (hop : o.op = Op.makeSlice 58 l c)
    (L C : Int) (n N : Nat) (hN : w.heap.size = N) (hl : a.eval l = .int .i64 L) (hc : a.eval c = .int .i64 C) (hL : L = (n : Int)) (hC : C = (n : Int)) (hb : n ≤ 1099511627776)
    (h : ∀ w', w'.heap.size = N + 1 → Arr 3 mkN w' N n (fun _ => 0) → Fr Nob w w' → wpList Tryz.prog ops Q rest (a.put o.dst (.slice (some ⟨N, 0, none⟩) n n)) w') :
    wpList Tryz.prog ops Q (o :: rest) a w := by
  obtain ⟨i0, hi, hz0, hz1, hz2⟩ := info_parts Tryz.info3
  subst hN
  refine wpList_make_row w hgd l c 58 hop 3 i0 (.int .i64 0) Tryz.underlying58 hi hz0 hz1 rfl .i64 .i64 n (by rw [hl, hL]) (by rw [hc, hC]) (by rw [hz2]; omega) (by omega) ?_
  refine h _ (by simp) ⟨_, heap_alloc_new w _, by simp [madeCells], fun i hi => ?_⟩ ((Fr.refl _ _).alloc _)
  simp [madeCells, hi, mkN, Nat.mod_one]
/-- make of n bytes: the very world. -/
theorem wp_mkbx {ops : Array Oper} {rest : List Oper} {o : Oper} {a : Act} {Q : Exit → Act → World → Prop} {w : World} (hgd : o.guard = none) (l c : Operand) (hop : o.op = Op.makeSlice 57 l c)
    (L C : Int) (n N : Nat) (hN : w.heap.size = N) (hl : a.eval l = .int .i64 L) (hc : a.eval c = .int .i64 C) (hL : L = (n : Int)) (hC : C = (n : Int)) (hb : n ≤ 1099511627776)
    (h : ∀ w', w'.heap.size = N + 1 → Arr 5 mkB w' N n (fun _ => 0) → Fr Nob w w' → wpList Tryz.prog ops Q rest (a.put o.dst (.slice (some ⟨N, 0, none⟩) n n)) w') :
    wpList Tryz.prog ops Q (o :: rest) a w := by
  obtain ⟨i0, hi, hz0, hz1, hz2⟩ := info_parts Tryz.info5
  subst hN
  refine wpList_make_row w hgd l c 57 hop 5 i0 (.int .u8 0) Tryz.underlying57 hi hz0 hz1 rfl .i64 .i64 n (by rw [hl, hL]) (by rw [hc, hC]) (by rw [hz2]; omega) (by omega) ?_
  refine h _ (by simp) ⟨_, heap_alloc_new w _, by simp [madeCells], fun i hi => ?_⟩ ((Fr.refl _ _).alloc _)
  simp [madeCells, hi, mkB, Nat.mod_one]
/-- An object of m cells (values f) at block N, and behind it rows of ints, one behind the other. -/
structure Part (w0 : World) (N m : Nat) (f : Nat → Value) (ss : List Nat) (w : World) : Prop where
  size : w.heap.size = N + 1 + ss.length
  cells : ∀ i, i < m → w.cell? ⟨N, i, none⟩ = some (f i)
  fz : ∀ i, w.frozen? ⟨N, i, none⟩ = false
  arr : ∀ j, j < ss.length → Arr 3 mkN w (N + 1 + j) (ss.getD j 0) (fun _ => 0)
  base : w0.heap.size = N
  fr : Fr Nob w0 w
theorem Part.start (w : World) (N : Nat) (hN : w.heap.size = N) (vs : List Value) (t : TypeId) : Part w N vs.length (fun i => vs.getD i undef) [] (w.alloc (.cells vs.toArray t)) := by
  subst hN
  refine ⟨by simp, fun i hi => ?_, fun i => World.frozen?_alloc_new _ _ _ i, fun j hj => by simp at hj, rfl, (Fr.refl _ _).alloc _⟩
  refine (World.cell?_alloc_new _ _ _ i).trans ?_
  simp [List.getD_eq_getElem?_getD, hi]
/-- A row is made. -/
theorem Part.made {w0 w w2 : World} {N m n : Nat} {f : Nat → Value} {ss : List Nat} (h : Part w0 N m f ss w) (hm : 0 < m) (hs : w2.heap.size = N + 1 + ss.length + 1) (ha : Arr 3 mkN w2 (N + 1 + ss.length) n (fun _ => 0)) (hf : Fr Nob w w2) :
    Part w0 N m f (ss ++ [n]) w2 := by
  have hlt : N < w.heap.size := by rw [h.size]; omega
  refine ⟨by rw [hs, List.length_append]; rfl, fun i hi => hf.cell (h.cells i hi) (fun x => x), fun i => (hf.froz hlt (fun x => x) i).trans (h.fz i), fun j hj => ?_, h.base, h.fr.trans hf⟩
  rw [List.length_append] at hj
  by_cases e : j < ss.length
  · have h1 := (h.arr j e).fr hf (fun x => x)
    rw [List.getD_eq_getElem?_getD, List.getElem?_append_left e, ← List.getD_eq_getElem?_getD]; exact h1
  · have : j = ss.length := by simp at hj; omega
    subst this
    rw [List.getD_eq_getElem?_getD, List.getElem?_append_right (Nat.le_refl _)]; simpa using ha
/-- A field is set. -/
theorem Part.set {w0 w : World} {N m i : Nat} {f : Nat → Value} {ss : List Nat} (h : Part w0 N m f ss w) (hi : i < m) (v : Value) :
    Part w0 N m (upd f i v) ss (w.setCell ⟨N, i, none⟩ v) := by
  refine ⟨by rw [← h.size]; exact World.size_setCell _ _ _, fun j hj => ?_, fun j => ?_, fun j hj => (h.arr j hj).other (by omega) _, h.base, h.fr.trans2 (S2 := One N) (Fr.set1 (Fr.refl _ _) _ _) (fun x hx h2 => by unfold One at hx; have := h.base; omega)⟩
  · by_cases e : j = i
    · subst e; rw [upd_self]; exact cellSet (h.cells _ hi)
    · rw [upd_ne _ _ _ _ e]; exact (cellNe (fun e2 => e e2.symm)).trans (h.cells j hj)
  · exact (World.frozen?_setCell _ _ _ _).trans (h.fz j)
theorem Arr.toI {w : World} {g n : Nat} (h : Arr 3 mkN w g n (fun _ => 0)) : Arr 3 mkI w g n (fun _ => 0) := h

/-- huff.New. -/
def cdR0 : CdR := { n := 0, lens := fun _ => 0, code := fun _ => 0, root := fun _ => 0, sub := fun _ => 0, top := 0, wt := fun _ => 0, ht := fun _ => 0, num := fun _ => 0, par := fun _ => 0, dep := fun _ => 0, heap := fun _ => 0, fill := 0 }
set_option maxRecDepth 100000 in
set_option maxHeartbeats 4000000 in
theorem newHuff_any (w : World) : Calls Tryz.prog 13 #[] w fun e w' => e = .returned (ptrV w.heap.size) ∧ CdAt w' w.heap.size cdR0 ∧ Fr Nob w w' ∧ w'.heap.size = w.heap.size + 11 := by
  obtain ⟨N, hN⟩ : ∃ N, w.heap.size = N := ⟨_, rfl⟩
  rw [hN]
  have hp := Part.start w N hN [.int .i64 0, .slice none 0 0, .slice none 0 0, .slice none 0 0, .slice none 0 0, .int .i64 0, .slice none 0 0, .slice none 0 0, .slice none 0 0, .slice none 0 0, .slice none 0 0, .slice none 0 0, .int .i64 0] 68
  obtain ⟨w0, hw0⟩ : ∃ w0, w0 = w.alloc (Obj.cells #[.int .i64 0, .slice none 0 0, .slice none 0 0, .slice none 0 0, .slice none 0 0, .int .i64 0, .slice none 0 0, .slice none 0 0, .slice none 0 0, .slice none 0 0, .slice none 0 0, .slice none 0 0, .int .i64 0] 68) := ⟨_, rfl⟩
  have hw0' := hw0.symm
  have hp0 : Part w N 13 (fun i => ([.int .i64 0, .slice none 0 0, .slice none 0 0, .slice none 0 0, .slice none 0 0, .int .i64 0, .slice none 0 0, .slice none 0 0, .slice none 0 0, .slice none 0 0, .slice none 0 0, .slice none 0 0, .int .i64 0] : List Value).getD i undef) [] w0 := by rw [hw0]; exact hp
  have hs0 : w0.heap.size = N + 1 := hp0.size
  have HP0 := hid hp0
  have HW0 := hid hw0
  clear hp hp0 hw0
  refine calls_via fun K hK => ?_
  go_enter Tryz.func13, Tryz.ntmps13
  go_wp2_with (at_make; first
    | (refine wp_mkx rfl _ _ rfl 265 265 265 (N + 1) hs0 rfl rfl rfl rfl (by omega) ?_; intro w1 hs1 ha hf; have hp1 := HP0.out.made (n := 265) (by decide) hs1 ha hf; have ck : w1.cell? ⟨N, 1, none⟩ = some (.slice none 0 0) := hp1.cells 1 (by decide); have zk : ∀ i, w1.frozen? ⟨N, i, none⟩ = false := hp1.fz; have HP1 := hid hp1; clear hp1 ha hf)
    | (refine wp_mkx rfl _ _ rfl 265 265 265 (N + 2) (by rw [World.size_setCell]; exact hs1) rfl rfl rfl rfl (by omega) ?_; intro w2 hs2 ha hf; have hp2 := (HP1.out.set (i := 1) (by decide) (.slice (some ⟨N + 1, 0, none⟩) 265 265)).made (n := 265) (by decide) hs2 ha hf; have ck : w2.cell? ⟨N, 2, none⟩ = some (.slice none 0 0) := hp2.cells 2 (by decide); have zk : ∀ i, w2.frozen? ⟨N, i, none⟩ = false := hp2.fz; have HP2 := hid hp2; clear hp2 ha hf)
    | (refine wp_mkx rfl _ _ rfl 64 64 64 (N + 3) (by rw [World.size_setCell]; exact hs2) rfl rfl rfl rfl (by omega) ?_; intro w3 hs3 ha hf; have hp3 := (HP2.out.set (i := 2) (by decide) (.slice (some ⟨N + 2, 0, none⟩) 265 265)).made (n := 64) (by decide) hs3 ha hf; have ck : w3.cell? ⟨N, 3, none⟩ = some (.slice none 0 0) := hp3.cells 3 (by decide); have zk : ∀ i, w3.frozen? ⟨N, i, none⟩ = false := hp3.fz; have HP3 := hid hp3; clear hp3 ha hf)
    | (refine wp_mkx rfl _ _ rfl 1024 1024 1024 (N + 4) (by rw [World.size_setCell]; exact hs3) rfl rfl rfl rfl (by omega) ?_; intro w4 hs4 ha hf; have hp4 := (HP3.out.set (i := 3) (by decide) (.slice (some ⟨N + 3, 0, none⟩) 64 64)).made (n := 1024) (by decide) hs4 ha hf; have ck : w4.cell? ⟨N, 4, none⟩ = some (.slice none 0 0) := hp4.cells 4 (by decide); have zk : ∀ i, w4.frozen? ⟨N, i, none⟩ = false := hp4.fz; have HP4 := hid hp4; clear hp4 ha hf)
    | (refine wp_mkx rfl _ _ rfl 529 529 529 (N + 5) (by rw [World.size_setCell]; exact hs4) rfl rfl rfl rfl (by omega) ?_; intro w5 hs5 ha hf; have hp5 := (HP4.out.set (i := 4) (by decide) (.slice (some ⟨N + 4, 0, none⟩) 1024 1024)).made (n := 529) (by decide) hs5 ha hf; have ck : w5.cell? ⟨N, 6, none⟩ = some (.slice none 0 0) := hp5.cells 6 (by decide); have zk : ∀ i, w5.frozen? ⟨N, i, none⟩ = false := hp5.fz; have HP5 := hid hp5; clear hp5 ha hf)
    | (refine wp_mkx rfl _ _ rfl 529 529 529 (N + 6) (by rw [World.size_setCell]; exact hs5) rfl rfl rfl rfl (by omega) ?_; intro w6 hs6 ha hf; have hp6 := (HP5.out.set (i := 6) (by decide) (.slice (some ⟨N + 5, 0, none⟩) 529 529)).made (n := 529) (by decide) hs6 ha hf; have ck : w6.cell? ⟨N, 7, none⟩ = some (.slice none 0 0) := hp6.cells 7 (by decide); have zk : ∀ i, w6.frozen? ⟨N, i, none⟩ = false := hp6.fz; have HP6 := hid hp6; clear hp6 ha hf)
    | (refine wp_mkx rfl _ _ rfl 529 529 529 (N + 7) (by rw [World.size_setCell]; exact hs6) rfl rfl rfl rfl (by omega) ?_; intro w7 hs7 ha hf; have hp7 := (HP6.out.set (i := 7) (by decide) (.slice (some ⟨N + 6, 0, none⟩) 529 529)).made (n := 529) (by decide) hs7 ha hf; have ck : w7.cell? ⟨N, 8, none⟩ = some (.slice none 0 0) := hp7.cells 8 (by decide); have zk : ∀ i, w7.frozen? ⟨N, i, none⟩ = false := hp7.fz; have HP7 := hid hp7; clear hp7 ha hf)
    | (refine wp_mkx rfl _ _ rfl 529 529 529 (N + 8) (by rw [World.size_setCell]; exact hs7) rfl rfl rfl rfl (by omega) ?_; intro w8 hs8 ha hf; have hp8 := (HP7.out.set (i := 8) (by decide) (.slice (some ⟨N + 7, 0, none⟩) 529 529)).made (n := 529) (by decide) hs8 ha hf; have ck : w8.cell? ⟨N, 9, none⟩ = some (.slice none 0 0) := hp8.cells 9 (by decide); have zk : ∀ i, w8.frozen? ⟨N, i, none⟩ = false := hp8.fz; have HP8 := hid hp8; clear hp8 ha hf)
    | (refine wp_mkx rfl _ _ rfl 529 529 529 (N + 9) (by rw [World.size_setCell]; exact hs8) rfl rfl rfl rfl (by omega) ?_; intro w9 hs9 ha hf; have hp9 := (HP8.out.set (i := 9) (by decide) (.slice (some ⟨N + 8, 0, none⟩) 529 529)).made (n := 529) (by decide) hs9 ha hf; have ck : w9.cell? ⟨N, 10, none⟩ = some (.slice none 0 0) := hp9.cells 10 (by decide); have zk : ∀ i, w9.frozen? ⟨N, i, none⟩ = false := hp9.fz; have HP9 := hid hp9; clear hp9 ha hf)
    | (refine wp_mkx rfl _ _ rfl 265 265 265 (N + 10) (by rw [World.size_setCell]; exact hs9) rfl rfl rfl rfl (by omega) ?_; intro w10 hs10 ha hf; have hp10 := (HP9.out.set (i := 10) (by decide) (.slice (some ⟨N + 9, 0, none⟩) 529 529)).made (n := 265) (by decide) hs10 ha hf; have ck : w10.cell? ⟨N, 11, none⟩ = some (.slice none 0 0) := hp10.cells 11 (by decide); have zk : ∀ i, w10.frozen? ⟨N, i, none⟩ = false := hp10.fz; have HP10 := hid hp10; clear hp10 ha hf))
  have hq := HP10.out.set (i := 11) (by decide) (.slice (some ⟨N + 10, 0, none⟩) 265 265)
  refine hK.out _ _ ⟨rfl, ⟨hq.cells 0 (by decide), hq.cells 1 (by decide), hq.cells 2 (by decide), hq.cells 3 (by decide), hq.cells 4 (by decide), hq.cells 5 (by decide), hq.cells 6 (by decide), hq.cells 7 (by decide), hq.cells 8 (by decide), hq.cells 9 (by decide), hq.cells 10 (by decide), hq.cells 11 (by decide), hq.cells 12 (by decide), hq.arr 0 (by decide), hq.arr 1 (by decide), (hq.arr 2 (by decide)).toI, (hq.arr 3 (by decide)).toI, hq.arr 4 (by decide), hq.arr 5 (by decide), hq.arr 6 (by decide), hq.arr 7 (by decide), hq.arr 8 (by decide), hq.arr 9 (by decide), hq.fz⟩, hq.fr, hq.size⟩
/-- bits.New. -/
theorem newBits_any (w : World) : Calls Tryz.prog 12 #[] w fun e w' => e = .returned (tapP w.heap.size) ∧ TapeAt w' w.heap.size Tp.nil ∧ Fr Nob w w' ∧ w'.heap.size = w.heap.size + 2 := by
  obtain ⟨N, hN⟩ : ∃ N, w.heap.size = N := ⟨_, rfl⟩
  rw [hN]
  refine calls_via fun K hK => ?_
  go_enter Tryz.func12, Tryz.ntmps12
  go_wp2_with (at_make; refine wp_mkbx rfl _ _ rfl 516 516 516 N hN rfl rfl rfl rfl (by omega) ?_; intro w1 hs1 ha hf; have HA := hid ha; have HF := hid hf; have HS := hid hs1; clear ha hf)
  have hq := Part.start w1 (N + 1) HS.out [.slice (some ⟨N, 0, none⟩) 516 516, .int .i64 0, .int .i64 0] 66
  have h2 := HA.out.alloc (Obj.cells #[.slice (some ⟨N, 0, none⟩) 516 516, .int .i64 0, .int .i64 0] 66)
  exact hK.out _ _ ⟨rfl, ⟨⟨hq.cells 0 (Nat.zero_lt_succ _), hq.cells 1 (by simp), hq.cells 2 (by simp), h2.cel.congr (fun i _ => (byt_zero i).symm), h2.thaw, hq.fz⟩, Tp.nil_ok⟩, HF.out.trans hq.fr, by have := hq.size; simpa using this⟩
end Go.Proofs.Qxb6500353aGreat
