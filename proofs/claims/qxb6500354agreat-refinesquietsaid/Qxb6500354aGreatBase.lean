/- The ground of the walks: functions that are updated at a place; frames. -/
import Derived.Test.Qxb6500354aGreatRows
import Derived.Test.Qxb6500354aGreatDef
import Derived.WalkKit
import Derived.WalkSpells
import Derived.WalkLawsBesides
import Derived.Deep.QuietTactic
import Derived.BigQuiet
import Derived.BigRegion
namespace Go.Proofs.Qxb6500354aGreat
open Go.RowKit

theorem hid {p : Prop} (h : p) : Hid p := h
/-- A contract, its post behind a variable: the walk's simp then does not go into it. -/
theorem calls_via {P : Program} {f : FuncId} {args : Array Value} {w : World} {R : Ending → World → Prop}
    (h : ∀ K : Ending → World → Prop, Hid (∀ e w2, R e w2 → K e w2) → Calls P f args w K) : Calls P f args w R := h R (fun _ _ q => q)
theorem ret_int {k : IntKind} {a b : Int} (h : a = b) : Ending.returned (.int k a) = .returned (.int k b) := by rw [h]
theorem ret_bool {a b : Bool} (h : a = b) : Ending.returned (.bool a) = .returned (.bool b) := by rw [h]
theorem cellB {w w2 : World} {b : Nat} (h : w2.heap[b]? = w.heap[b]?) (o : Nat) : w2.cell? ⟨b, o, none⟩ = w.cell? ⟨b, o, none⟩ := World.cell?_of_block (w := w) h
theorem frozB {w w2 : World} {b : Nat} (h : w2.heap[b]? = w.heap[b]?) (o : Nat) : w2.frozen? ⟨b, o, none⟩ = w.frozen? ⟨b, o, none⟩ := World.frozen?_of_block (w := w) h
theorem lt_of_cellB {w : World} {b o : Nat} {v : Value} (h : w.cell? ⟨b, o, none⟩ = some v) : b < w.heap.size := World.block_lt_of_cell? w ⟨b, o, none⟩ h
theorem cellSet {w : World} {a : Addr} {u v : Value} (h : w.cell? a = some u) : (w.setCell a v).cell? a = some v := World.cell?_setCell_same w a v h
theorem cellNe {w : World} {b i j : Nat} {v : Value} (h : i ≠ j) : (w.setCell ⟨b, i, none⟩ v).cell? ⟨b, j, none⟩ = w.cell? ⟨b, j, none⟩ :=
  World.cell?_setCell_other w _ _ _ (by intro e; injection e with e1 e2; exact h e2)

theorem cellUpd {α : Type} {w : World} {b n : Nat} (o : Nat) (mk : α → Value) {f : Nat → α} (h : ∀ j, j < n → w.cell? ⟨b, o + j, none⟩ = some (mk (f j))) (i : Nat) (x : α) :
    ∀ j, j < n → (w.setCell ⟨b, o + i, none⟩ (mk x)).cell? ⟨b, o + j, none⟩ = some (mk (upd f i x j)) := by
  intro j hj
  by_cases e : j = i
  · subst e; rw [upd_self]; exact cellSet (h j hj)
  · rw [upd_ne _ _ _ _ e]; exact (cellNe (by omega)).trans (h j hj)
theorem cellUpd0 {α : Type} {w : World} {b n : Nat} (mk : α → Value) {f : Nat → α} (h : ∀ j, j < n → w.cell? ⟨b, j, none⟩ = some (mk (f j))) (i : Nat) (x : α) :
    ∀ j, j < n → (w.setCell ⟨b, i, none⟩ (mk x)).cell? ⟨b, j, none⟩ = some (mk (upd f i x j)) := by
  intro j hj
  by_cases e : j = i
  · subst e; rw [upd_self]; exact cellSet (h j hj)
  · rw [upd_ne _ _ _ _ e]; exact (cellNe (by omega)).trans (h j hj)

/-- From w to w2 nothing that was there has turned, but for the blocks in S. -/
structure Fr (S : List Nat) (w w2 : World) : Prop where
  os : w2.os = w.os
  tape : w2.tape = w.tape
  output : w2.output = w.output
  size : w.heap.size ≤ w2.heap.size
  block : ∀ k, k < w.heap.size → k ∉ S → w2.heap[k]? = w.heap[k]?

theorem Fr.refl (S : List Nat) (w : World) : Fr S w w := ⟨rfl, rfl, rfl, Nat.le_refl _, fun _ _ _ => rfl⟩
theorem Fr.trans {S : List Nat} {a b c : World} (h : Fr S a b) (k : Fr S b c) : Fr S a c :=
  ⟨k.os.trans h.os, k.tape.trans h.tape, k.output.trans h.output, Nat.le_trans h.size k.size, fun i hi hn => (k.block i (Nat.lt_of_lt_of_le hi h.size) hn).trans (h.block i hi hn)⟩
/-- The second step may also turn what the first has made. -/
theorem Fr.trans2 {S S2 : List Nat} {a b c : World} (h : Fr S a b) (k : Fr S2 b c) (hs : ∀ x, x ∈ S2 → x < a.heap.size → x ∈ S) : Fr S a c :=
  ⟨k.os.trans h.os, k.tape.trans h.tape, k.output.trans h.output, Nat.le_trans h.size k.size, fun i hi hn => (k.block i (Nat.lt_of_lt_of_le hi h.size) (fun hm => hn (hs i hm hi))).trans (h.block i hi hn)⟩
theorem Fr.mono {S S2 : List Nat} {a b : World} (h : Fr S a b) (hs : ∀ x, x ∈ S → x < a.heap.size → x ∈ S2) : Fr S2 a b :=
  ⟨h.os, h.tape, h.output, h.size, fun i hi hn => h.block i hi (fun hm => hn (hs i hm hi))⟩
theorem Fr.drew {S : List Nat} {a w : World} (h : Fr S a w) : Fr S a w.drew := ⟨h.os, h.tape, h.output, h.size, h.block⟩
theorem Fr.drewN {S : List Nat} {a w : World} {n : Nat} (h : Fr S a w) : Fr S a (w.drewN n) := ⟨h.os, h.tape, h.output, h.size, h.block⟩
theorem Fr.alloc {S : List Nat} {a w : World} (h : Fr S a w) (o : Obj) : Fr S a (w.alloc o) :=
  h.trans ⟨rfl, rfl, rfl, by simp, fun k hk _ => Below.heap_alloc _ _ _ hk⟩
theorem Fr.set {S : List Nat} {a w : World} (h : Fr S a w) {p : Addr} (hp : p.block < a.heap.size → p.block ∈ S) (u : Value) : Fr S a (w.setCell p u) :=
  ⟨h.os, h.tape, h.output, by simpa [World.setCell] using h.size, fun k hk hn => (Below.heap_setCell _ _ _ _ (fun e => hn (by rw [e]; exact hp (by rw [← e]; exact hk)))).trans (h.block k hk hn)⟩
theorem Fr.below {w w2 : World} (h : Fr [] w w2) : Below w.heap.size w w2 := ⟨h.os, h.tape, h.output, h.size, fun k hk => h.block k hk (by simp)⟩
theorem Fr.of_below {w w2 : World} (h : Below w.heap.size w w2) (S : List Nat) : Fr S w w2 := ⟨h.os, h.tape, h.output, h.size, fun k hk _ => h.block k hk⟩
theorem Fr.grown {S : List Nat} {a w w2 : World} {row : Option Nat} (h : Fr S a w) (hg : w.grownBy w2 row) (hr : ∀ k, row = some k → k < a.heap.size → k ∈ S) : Fr S a w2 :=
  ⟨hg.os.trans h.os, hg.tape.trans h.tape, hg.output.trans h.output, Nat.le_trans h.size hg.size,
    fun k hk hn => (hg.block k (Nat.lt_of_lt_of_le hk h.size) (fun e => hn (hr k e.symm hk))).trans (h.block k hk hn)⟩
theorem Fr.ofGrown {w w2 : World} (hg : w.grownBy w2 none) : Fr [] w w2 := (Fr.refl [] w).grown hg (by simp)
theorem Fr.cell {S : List Nat} {w w2 : World} (h : Fr S w w2) {b o : Nat} {v : Value} (hc : w.cell? ⟨b, o, none⟩ = some v) (hn : b ∉ S) : w2.cell? ⟨b, o, none⟩ = some v :=
  (cellB (h.block b (lt_of_cellB hc) hn) o).trans hc
theorem Fr.froz {S : List Nat} {w w2 : World} (h : Fr S w w2) {b o : Nat} (hl : b < w.heap.size) (hn : b ∉ S) : w2.frozen? ⟨b, o, none⟩ = w.frozen? ⟨b, o, none⟩ := frozB (h.block b hl hn) o
end Go.Proofs.Qxb6500354aGreat
