/- Rows of one-cell elements: read, set, made, appended to, copied over; strings as lists of bytes. -/
import Derived.Test.Qxb6500353aGreatBit
import Derived.Laws.AppendOwnNone
import Derived.Laws.CopyOwn
import Derived.Maps.AppendAt
import Derived.Laws.BytesArg
import Derived.Laws.IdiomStrings
namespace Go.Proofs.Qxb6500353aGreat
open Go.RowKit
set_option linter.unusedVariables false
set_option linter.unusedSimpArgs false

/-- Block g is a row of n cells of element type E; the i-th is mk (f i). -/
def Arr {α : Type} (E : Nat) (mk : α → Value) (w : World) (g n : Nat) (f : Nat → α) : Prop :=
  ∃ cur : Array Value, w.heap[g]? = some (.cells cur E (0, 0)) ∧ cur.size = n ∧ ∀ i, i < n → cur[i]? = some (mk (f i))
section
variable {α : Type} {E : Nat} {mk : α → Value} {w w2 : World} {g n : Nat} {f h : Nat → α}
theorem Arr.cel (a : Arr E mk w g n f) : Cel mk w g 0 n f := by
  obtain ⟨cur, hg, hn, hc⟩ := a
  intro i hi
  rw [cell_of_row w g (0 + i) cur E (0, 0) hg, Nat.zero_add]; exact hc i hi
theorem Arr.cell (a : Arr E mk w g n f) (i : Nat) (hi : i < n) : w.cell? ⟨g, i, none⟩ = some (mk (f i)) := a.cel.at0 i hi
theorem Arr.thaw (a : Arr E mk w g n f) : Thaw w g := by
  obtain ⟨cur, hg, hn, hc⟩ := a
  intro i; exact frozen_of_row w g i cur E hg
theorem Arr.lt (a : Arr E mk w g n f) : g < w.heap.size := by
  obtain ⟨cur, hg, hn, hc⟩ := a
  exact (Array.getElem?_eq_some_iff.1 hg).1
theorem Arr.congr (a : Arr E mk w g n f) (e : ∀ i, i < n → f i = h i) : Arr E mk w g n h := by
  obtain ⟨cur, hg, hn, hc⟩ := a
  exact ⟨cur, hg, hn, fun i hi => by rw [← e i hi]; exact hc i hi⟩
theorem Arr.block (a : Arr E mk w g n f) (he : w2.heap[g]? = w.heap[g]?) : Arr E mk w2 g n f := by
  obtain ⟨cur, hg, hn, hc⟩ := a
  exact ⟨cur, he.trans hg, hn, hc⟩
theorem Arr.fr {S : Nat → Prop} (a : Arr E mk w g n f) (hf : Fr S w w2) (hn : ¬ S g) : Arr E mk w2 g n f := a.block (hf.block g a.lt hn)
theorem Arr.drewN {k : Nat} (a : Arr E mk w g n f) : Arr E mk (w.drewN k) g n f := a
theorem Arr.drew (a : Arr E mk w g n f) : Arr E mk w.drew g n f := a
theorem Arr.alloc (a : Arr E mk w g n f) (x : Obj) : Arr E mk (w.alloc x) g n f := a.block (Below.heap_alloc _ _ _ a.lt)
theorem Arr.other (a : Arr E mk w g n f) {b o : Nat} (hne : g ≠ b) (v : Value) : Arr E mk (w.setCell ⟨b, o, none⟩ v) g n f := a.block (Below.heap_setCell _ _ _ _ hne)
theorem Arr.set (a : Arr E mk w g n f) (i : Nat) (x : α) : Arr E mk (w.setCell ⟨g, i, none⟩ (mk x)) g n (upd f i x) := by
  obtain ⟨cur, hg, hn, hc⟩ := a
  rw [setCell_eq_setRow w g i cur E (0, 0) (mk x) hg]
  refine ⟨_, setRow_heap w g cur _ E (0, 0) hg, by simpa using hn, fun j hj => ?_⟩
  rw [Array.getElem?_setIfInBounds]
  by_cases e : i = j
  · subst e; rw [if_pos rfl, if_pos (by omega), upd_self]
  · rw [if_neg e, upd_ne _ _ _ _ (fun e2 => e e2.symm)]; exact hc j hj
theorem Arr.grown {row : Option Nat} (a : Arr E mk w g n f) (hg : w.grownBy w2 row) (hr : row ≠ some g) : Arr E mk w2 g n f := a.block (hg.block g a.lt (fun e => hr e.symm))
end
/-- The slice of a whole row. -/
def slc_ (g n : Nat) : Value := .slice (some ⟨g, 0, none⟩) n n

theorem Tryz.info3 : (Tryz.prog.info? 3).map (fun i => (i.zero, i.size, i.bytes)) = some (some (.int .i64 0), 1, 8) := by kernel_rfl
theorem Tryz.info5 : (Tryz.prog.info? 5).map (fun i => (i.zero, i.size, i.bytes)) = some (some (.int .u8 0), 1, 1) := by kernel_rfl
theorem Tryz.size3 : (Tryz.prog.info? 3).map (·.size) = some 1 := by kernel_rfl
theorem Tryz.size5 : (Tryz.prog.info? 5).map (·.size) = some 1 := by kernel_rfl

theorem arr_made {α : Type} {E : Nat} {mk : α → Value} {w : World} {g n : Nat} {z : Value} (x : α) (hz : mk x = z) (h1 : z.cells = #[z])
    (h : w.ownsRow g E 1 (.slice (some ⟨g, 0, none⟩) n n) n (madeCells z.cells (n * 1)).toList) : Arr E mk w g n (fun _ => x) := by
  rcases h.2 with ⟨e, _⟩ | ⟨g2, cap, cur, e, hb, hg, hnc, hcm, hcs, ht⟩
  · simp at e
  · simp only [Value.slice.injEq, Option.some.injEq, Addr.mk.injEq, and_true, true_and] at e
    obtain ⟨rfl, rfl⟩ := e
    refine ⟨cur, hg, by omega, fun i hi => ?_⟩
    have e1 : cur.toList = (madeCells z.cells (n * 1)).toList := by
      rw [← ht, List.take_of_length_le (by simp; omega)]
    have e2 : cur = madeCells z.cells (n * 1) := Array.toList_inj.1 e1
    rw [e2]
    simp [madeCells, h1, hi, hz, Nat.mod_one]
/-- make of n ints, of n bytes. -/
theorem wp_mkI {ops : Array Oper} {rest : List Oper} {o : Oper} {a : Act} {Q : Exit → Act → World → Prop} {w : World} (hgd : o.guard = none) (l c : Operand) (hop : o.op = Op.makeSlice 58 l c)
    (L C : Int) (n : Nat) (hl : a.eval l = .int .i64 L) (hc : a.eval c = .int .i64 C) (hL : L = (n : Int)) (hC : C = (n : Int)) (hb : n ≤ 1099511627776)
    (h : ∀ w', Arr 3 mkN w' w.heap.size n (fun _ => 0) → w.grownBy w' none → wpList Tryz.prog ops Q rest (a.put o.dst (.slice (some ⟨w.heap.size, 0, none⟩) n n)) w') :
    wpList Tryz.prog ops Q (o :: rest) a w := by
  obtain ⟨i0, hi, hz0, hz1, hz2⟩ := info_parts Tryz.info3
  refine wpList_make_full w hgd l c 58 hop w.heap.size 3 i0 (.int .i64 0) 1 Tryz.underlying58 hi hz0 hz1 .i64 .i64 L C n hl hc hL hC (by rw [hz2]; omega) (by unfold maxLen; omega) (Nat.le_refl _) ?_
  intro w' h1 h2
  exact h w' (arr_made 0 rfl rfl h1) h2
theorem wp_mkB {ops : Array Oper} {rest : List Oper} {o : Oper} {a : Act} {Q : Exit → Act → World → Prop} {w : World} (hgd : o.guard = none) (l c : Operand) (hop : o.op = Op.makeSlice 57 l c)
    (L C : Int) (n : Nat) (hl : a.eval l = .int .i64 L) (hc : a.eval c = .int .i64 C) (hL : L = (n : Int)) (hC : C = (n : Int)) (hb : n ≤ 1099511627776)
    (h : ∀ w', Arr 5 mkB w' w.heap.size n (fun _ => 0) → w.grownBy w' none → wpList Tryz.prog ops Q rest (a.put o.dst (.slice (some ⟨w.heap.size, 0, none⟩) n n)) w') :
    wpList Tryz.prog ops Q (o :: rest) a w := by
  obtain ⟨i0, hi, hz0, hz1, hz2⟩ := info_parts Tryz.info5
  refine wpList_make_full w hgd l c 57 hop w.heap.size 5 i0 (.int .u8 0) 1 Tryz.underlying57 hi hz0 hz1 .i64 .i64 L C n hl hc hL hC (by rw [hz2]; omega) (by unfold maxLen; omega) (Nat.le_refl _) ?_
  intro w' h1 h2
  exact h w' (arr_made 0 rfl rfl h1) h2

/-! ### strings -/
def bytesOf (s : ByteArray) : List Nat := s.data.toList.map UInt8.toNat
theorem bytesOf_len (s : ByteArray) : (bytesOf s).length = s.size := by simp [bytesOf]
theorem byteAt (s : ByteArray) {k : Nat} (h : k < s.size) : (s[k]'h).toNat = (bytesOf s).getD k 0 := by
  have h2 : k < (bytesOf s).length := by rw [bytesOf_len]; exact h
  rw [List.getD_eq_getElem?_getD, List.getElem?_eq_getElem h2]
  simp [bytesOf]; rfl
theorem bytesOf_app (a b : ByteArray) : bytesOf (a ++ b) = bytesOf a ++ bytesOf b := by
  unfold bytesOf; rw [ByteArray.data_append, Array.toList_append, List.map_append]
theorem bytesOf_sub (a : ByteArray) (m n : Nat) : bytesOf (a.extract m n) = ((bytesOf a).drop m).take (n - m) := by
  unfold bytesOf; rw [ByteArray.data_extract]; simp [List.map_take, List.map_drop, List.extract_eq_take_drop]
theorem bytesOf_inj {a b : ByteArray} (h : bytesOf a = bytesOf b) : a = b := by
  unfold bytesOf at h
  have h2 : a.data.toList = b.data.toList := (List.map_inj_right (fun x y hxy => UInt8.toNat_inj.1 hxy)).1 h
  have h3 : a.data = b.data := Array.toList_inj.1 h2
  cases a; cases b; simp at h3; rw [h3]
theorem bytesOf_lt (a : ByteArray) : ∀ x ∈ bytesOf a, x < 256 := by
  intro x hx
  unfold bytesOf at hx
  obtain ⟨y, _, rfl⟩ := List.mem_map.1 hx
  exact UInt8.toNat_lt _
/-- The string of bytes. -/
def strN (l : List Nat) : ByteArray := strOfNums (l.map fun (n : Nat) => (n : Int))
theorem strN_size (l : List Nat) : (strN l).size = l.length := by simp [strN, strOfNums_size]
theorem bytesOf_strN {l : List Nat} (h : ∀ x ∈ l, x < 256) : bytesOf (strN l) = l := by
  unfold bytesOf strN
  rw [strOfNums_data, List.map_map, List.map_map]
  conv => rhs; rw [← List.map_id l]
  apply List.map_congr_left
  intro x hx
  have := h x hx
  simp [UInt8.toNat_ofNat', Nat.mod_eq_of_lt this]
theorem strN_bytesOf (s : ByteArray) : strN (bytesOf s) = s := bytesOf_inj (bytesOf_strN (bytesOf_lt s))
theorem strN_nil : strN [] = ByteArray.empty := by apply bytesOf_inj; rfl
/-- A slice of bytes as a string. -/
theorem conv_str {w : World} {g o n cap : Nat} {f : Nat → Nat} (h : ∀ i, i < n → w.cell? ⟨g, o + i, none⟩ = some (.int .u8 ((f i : Nat) : Int))) :
    (convert 57 9 (.slice (some ⟨g, o, none⟩) n cap)).run Tryz.prog w = .ok (.string (strN ((List.range n).map f))) w := by
  refine run_convert_bytes_arg (P := Tryz.prog) w 57 5 Tryz.underlying57 Tryz.underlying5 g o n cap (((List.range n).map f).map fun (n : Nat) => (n : Int)) (by simp) ?_ 9 Tryz.underlying9
  intro i hi
  rw [h i hi]
  simp [List.getD_eq_getElem?_getD, List.getElem?_map, List.getElem?_range hi]
theorem conv_nil (w : World) (n cap : Nat) : (convert 57 9 (.slice none n cap)).run Tryz.prog w = .ok (.string ByteArray.empty) w :=
  run_convert_bytes_nil (P := Tryz.prog) w 57 5 Tryz.underlying57 Tryz.underlying5 n cap 9 Tryz.underlying9
end Go.Proofs.Qxb6500353aGreat
