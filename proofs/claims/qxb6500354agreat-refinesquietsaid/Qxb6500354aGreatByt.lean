/- Slices of bytes: owned; make, string over them. -/
import Derived.Test.Qxb6500354aGreatPar5
import Derived.Laws.BytesArg
import Derived.Laws.IdiomStrings
namespace Go.Proofs.Qxb6500354aGreat
open Go.RowKit
set_option linter.unusedVariables false
set_option linter.unusedSimpArgs false

theorem Tryz.info5 : (Tryz.prog.info? 5).map (fun i => (i.zero, i.size, i.bytes)) = some (some (.int .u8 0), 1, 1) := by kernel_rfl
/-- The bytes as cells. -/
def bcells (l : List Nat) : List Value := l.map fun (n : Nat) => Value.int .u8 (n : Int)
theorem bcells_length (l : List Nat) : (bcells l).length = l.length := by simp [bcells]
theorem bcells_append (l m : List Nat) : bcells (l ++ m) = bcells l ++ bcells m := by simp [bcells]
theorem bcells_get (l : List Nat) (i : Nat) (h : i < l.length) : (bcells l)[i]? = some (.int .u8 ((l.getD i 0 : Nat) : Int)) := by
  simp [bcells, List.getD_eq_getElem?_getD, List.getElem?_eq_getElem h]
theorem bcells_one (l : List Nat) : ∀ u ∈ bcells l, u.oneCell' = true := by
  intro u hu; obtain ⟨x, _, rfl⟩ := List.mem_map.1 hu; rfl
/-- The slice value v, one of the blocks from base on, owns the bytes l. -/
def OwnB (w : World) (base : Nat) (v : Value) (l : List Nat) : Prop := w.ownsRow base 5 1 v l.length (bcells l)
theorem OwnB.nil (w : World) (base : Nat) : OwnB w base (.slice none 0 0) [] := World.ownsRow_nil _ _ _ _
theorem OwnB.shape {w : World} {base : Nat} {v : Value} {l : List Nat} (h : OwnB w base v l) :
    (v = .slice none 0 0 ∧ l = []) ∨ ∃ g cap, v = .slice (some ⟨g, 0, none⟩) l.length cap ∧ base ≤ g ∧ g < w.heap.size := by
  rcases h.2 with ⟨rfl, h0⟩ | ⟨g, cap, cur, rfl, hb, hg, _⟩
  · exact .inl ⟨rfl, List.eq_nil_of_length_eq_zero h0⟩
  · exact .inr ⟨g, cap, rfl, hb, (Array.getElem?_eq_some_iff.1 hg).1⟩
theorem OwnB.block {w w2 : World} {base : Nat} {v : Value} {l : List Nat} (h : OwnB w base v l) (he : ∀ g, v.ownBlock = some g → w2.heap[g]? = w.heap[g]?) : OwnB w2 base v l := by
  refine ⟨h.1, ?_⟩
  rcases h.2 with h2 | ⟨g, cap, cur, rfl, hb, hg, r⟩
  · exact .inl h2
  · exact .inr ⟨g, cap, cur, rfl, hb, (he g rfl).trans hg, r⟩
theorem OwnB.fr {S : List Nat} {w w2 : World} {base : Nat} {v : Value} {l : List Nat} (h : OwnB w base v l) (hf : Fr S w w2) (hn : ∀ g, v.ownBlock = some g → g ∉ S) : OwnB w2 base v l := by
  refine h.block fun g hg => ?_
  rcases h.shape with ⟨rfl, _⟩ | ⟨g2, cap, rfl, _, hlt⟩
  · simp [Value.ownBlock] at hg
  · simp [Value.ownBlock] at hg; subst hg
    exact hf.block _ hlt (hn _ rfl)
theorem OwnB.mono {w : World} {base base2 : Nat} {v : Value} {l : List Nat} (h : OwnB w base v l) (hb : base2 ≤ base) : OwnB w base2 v l := by
  refine ⟨h.1, ?_⟩
  rcases h.2 with h2 | ⟨g, cap, cur, rfl, hb2, hg, r⟩
  · exact .inl h2
  · exact .inr ⟨g, cap, cur, rfl, Nat.le_trans hb hb2, hg, r⟩
theorem OwnB.get {w : World} {base g cap n : Nat} {l : List Nat} (h : OwnB w base (.slice (some ⟨g, 0, none⟩) n cap) l) (i : Nat) (hi : i < l.length) : w.cell? ⟨g, i, none⟩ = some (.int .u8 ((l.getD i 0 : Nat) : Int)) := by
  rcases h.2 with ⟨e, h0⟩ | ⟨g2, cap2, cur, e, hb, hg, hnc, hcm, hcs, ht⟩
  · simp at e
  · simp only [Value.slice.injEq, Option.some.injEq, Addr.mk.injEq, and_true, true_and] at e
    obtain ⟨rfl, rfl, rfl⟩ := e
    rw [World.ownsRow.cellAt h i (by omega)]
    exact bcells_get l i hi
theorem OwnB.store {w : World} {base g cap n : Nat} {l : List Nat} (h : OwnB w base (.slice (some ⟨g, 0, none⟩) n cap) l) (hn : l.length = n) (i : Nat) (x : Nat) :
    OwnB (w.setCell ⟨g, i, none⟩ (.int .u8 (x : Int))) base (.slice (some ⟨g, 0, none⟩) n cap) (l.set i x) := by
  have h1 := (World.ownsRow.stored (hn ▸ h : w.ownsRow base 5 1 (.slice (some ⟨g, 0, none⟩) n cap) n (bcells l)) i (.int .u8 (x : Int))).1
  unfold OwnB
  rw [List.length_set, hn]
  have : (bcells l).set i (.int .u8 (x : Int)) = bcells (l.set i x) := by unfold bcells; rw [List.map_set]
  rw [← this]; exact h1
theorem OwnB.frozen {w : World} {base g cap n : Nat} {l : List Nat} (h : OwnB w base (.slice (some ⟨g, 0, none⟩) n cap) l) (i : Nat) : w.frozen? ⟨g, i, none⟩ = false := by
  rcases h.2 with ⟨e, _⟩ | ⟨g2, cap2, cur, e, _, hg, _⟩
  · simp at e
  · simp only [Value.slice.injEq, Option.some.injEq, Addr.mk.injEq, and_true, true_and] at e
    obtain ⟨rfl, _, _⟩ := e
    exact frozen_of_row w g i cur 5 hg

theorem made_bcells (n : Nat) : (madeCells (Value.int .u8 0).cells (n * 1)).toList = bcells (List.replicate n 0) := by
  simp only [madeCells, Value.cells, Nat.mul_one]
  apply List.ext_getElem
  · simp [bcells]
  · intro i h1 h2
    simp [bcells, Nat.mod_one]
/-- make of n bytes. -/
theorem wp_mkB {ops : Array Oper} {rest : List Oper} {o : Oper} {a : Act} {Q : Exit → Act → World → Prop} {w : World} (hgd : o.guard = none) (l c : Operand) (hop : o.op = Op.makeSlice 95 l c)
    (L C : Int) (n : Nat) (hl : a.eval l = .int .i64 L) (hc : a.eval c = .int .i64 C) (hL : L = (n : Int)) (hC : C = (n : Int)) (hb : n ≤ 1099511627776)
    (h : ∀ w', OwnB w' w.heap.size (.slice (some ⟨w.heap.size, 0, none⟩) n n) (List.replicate n 0) → w.grownBy w' none → wpList Tryz.prog ops Q rest (a.put o.dst (.slice (some ⟨w.heap.size, 0, none⟩) n n)) w') :
    wpList Tryz.prog ops Q (o :: rest) a w := by
  obtain ⟨i0, hi, hz0, hz1, hz2⟩ := info_parts Tryz.info5
  refine wpList_make_full w hgd l c 95 hop w.heap.size 5 i0 (.int .u8 0) 1 Tryz.underlying95 hi hz0 hz1 .i64 .i64 L C n hl hc hL hC (by rw [hz2]; omega) (by unfold maxLen; omega) (Nat.le_refl _) ?_
  intro w' h1 h2
  refine h w' ?_ h2
  unfold OwnB
  rw [made_bcells] at h1
  simpa using h1
/-- The string of bytes. -/
def strN (l : List Nat) : ByteArray := strOfNums (l.map fun (n : Nat) => (n : Int))
theorem strN_size (l : List Nat) : (strN l).size = l.length := by simp [strN, strOfNums_size]
theorem bytesOf_strN {l : List Nat} (h : ∀ x ∈ l, x < 256) : bytesOf (strN l) = l := by
  unfold bytesOf strN
  rw [strOfNums_data, List.map_map, List.map_map]
  conv => rhs; rw [← List.map_id l]
  apply List.map_congr_left
  intro x hx
  have := h x hx
  simp [UInt8.toNat_ofNat', Nat.mod_eq_of_lt this]
theorem conv_strN {w : World} {base g cap n : Nat} {l : List Nat} (h : OwnB w base (.slice (some ⟨g, 0, none⟩) n cap) l) (hn : l.length = n) :
    (convert 95 9 (.slice (some ⟨g, 0, none⟩) n cap)).run Tryz.prog w = .ok (.string (strN l)) w := by
  refine run_convert_bytes_arg (P := Tryz.prog) w 95 5 Tryz.underlying95 Tryz.underlying5 g 0 n cap (l.map fun (n : Nat) => (n : Int)) (by simpa using hn) ?_ 9 Tryz.underlying9
  intro i hi
  rw [Nat.zero_add, h.get i (by omega)]
  simp [List.getD_eq_getElem?_getD, List.getElem?_eq_getElem (show i < l.length by omega)]
theorem conv_strN_nil (w : World) (n cap : Nat) : (convert 95 9 (.slice none n cap)).run Tryz.prog w = .ok (.string ByteArray.empty) w :=
  run_convert_bytes_nil (P := Tryz.prog) w 95 5 Tryz.underlying95 Tryz.underlying5 n cap 9 Tryz.underlying9
theorem take_setN {l m : List Nat} {q : Nat} (h : l.take q = m) (hq : m.length = q) (hl : q < l.length) (x : Nat) : (l.set q x).take (q + 1) = m ++ [x] := by
  rw [List.take_succ_eq_append_getElem (by simpa using hl), List.take_set_of_le (Nat.le_refl q), h]
  simp
theorem Fr.setG {g : Nat} {a w : World} (h : Fr [g] a w) (i : Nat) (v : Value) : Fr [g] a (w.setCell ⟨g, i, none⟩ v) := h.set (by simp) v
end Go.Proofs.Qxb6500354aGreat
