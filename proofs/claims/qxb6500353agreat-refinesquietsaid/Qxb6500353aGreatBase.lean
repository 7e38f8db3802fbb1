/- The ground of the walks: cells as functions of their place; frames. -/
import Derived.Test.Qxb6500353aGreatRows
import Derived.Test.Qxb6500353aGreatHep
import Derived.WalkKit
import Derived.WalkSpells
import Derived.WalkLawsBesides
import Derived.Deep.QuietTactic
import Derived.BigQuiet
import Derived.BigRegion
import Derived.Deep.LoopGhost
namespace Go.Proofs.Qxb6500353aGreat
open Go.RowKit
set_option linter.unusedVariables false
set_option linter.unusedSimpArgs false

theorem hid {p : Prop} (h : p) : Hid p := h
/-- A contract, its post behind a variable: the walk's simp then does not go into it. -/
theorem calls_via {P : Program} {f : FuncId} {args : Array Value} {w : World} {R : Ending → World → Prop}
    (h : ∀ K : Ending → World → Prop, Hid (∀ e w2, R e w2 → K e w2) → Calls P f args w K) : Calls P f args w R := h R (fun _ _ q => q)
theorem ret_int {k : IntKind} {a b : Int} (h : a = b) : Ending.returned (.int k a) = .returned (.int k b) := by rw [h]
theorem ret_bool {a b : Bool} (h : a = b) : Ending.returned (.bool a) = .returned (.bool b) := by rw [h]
theorem cellB {w w2 : World} {b : Nat} (h : w2.heap[b]? = w.heap[b]?) (o : Nat) : w2.cell? ⟨b, o, none⟩ = w.cell? ⟨b, o, none⟩ := World.cell?_of_block (w := w) h
theorem frozB {w w2 : World} {b : Nat} (h : w2.heap[b]? = w.heap[b]?) (o : Nat) : w2.frozen? ⟨b, o, none⟩ = w.frozen? ⟨b, o, none⟩ := World.frozen?_of_block (w := w) h
theorem lt_of_cellB {w : World} {b o : Nat} {v : Value} (h : w.cell? ⟨b, o, none⟩ = some v) : b < w.heap.size := World.block_lt_of_cell? w ⟨b, o, none⟩ h
theorem cellSet {w : World} {a : Addr} {u v : Value} (h : w.cell? a = some u) : (w.setCell a v).cell? a = some v := World.cell?_setCell_same w a v h
theorem cellNe {w : World} {b i j : Nat} {v : Value} (h : i ≠ j) : (w.setCell ⟨b, i, none⟩ v).cell? ⟨b, j, none⟩ = w.cell? ⟨b, j, none⟩ :=
  World.cell?_setCell_other w _ _ _ (by intro e; injection e with e1 e2; exact h e2)
theorem addrAdd (g o j : Nat) : (⟨g, o, none⟩ : Addr).add j = ⟨g, o + j, none⟩ := by
  unfold Addr.add; split
  · rename_i h; subst h; rfl
  · rfl

/-- From w to w2 nothing that was there has turned, but for the blocks of S. -/
structure Fr (S : Nat → Prop) (w w2 : World) : Prop where
  os : w2.os = w.os
  tape : w2.tape = w.tape
  output : w2.output = w.output
  size : w.heap.size ≤ w2.heap.size
  block : ∀ k, k < w.heap.size → ¬ S k → w2.heap[k]? = w.heap[k]?
/-- No block; one; those from a up to b. -/
def Nob : Nat → Prop := fun _ => False
def One (b : Nat) : Nat → Prop := fun k => k = b
def Rng (a b : Nat) : Nat → Prop := fun k => a ≤ k ∧ k < b

theorem Fr.refl (S : Nat → Prop) (w : World) : Fr S w w := ⟨rfl, rfl, rfl, Nat.le_refl _, fun _ _ _ => rfl⟩
theorem Fr.trans {S : Nat → Prop} {a b c : World} (h : Fr S a b) (k : Fr S b c) : Fr S a c :=
  ⟨k.os.trans h.os, k.tape.trans h.tape, k.output.trans h.output, Nat.le_trans h.size k.size, fun i hi hn => (k.block i (Nat.lt_of_lt_of_le hi h.size) hn).trans (h.block i hi hn)⟩
/-- The second step may also turn what the first has made. -/
theorem Fr.trans2 {S S2 : Nat → Prop} {a b c : World} (h : Fr S a b) (k : Fr S2 b c) (hs : ∀ x, S2 x → x < a.heap.size → S x) : Fr S a c :=
  ⟨k.os.trans h.os, k.tape.trans h.tape, k.output.trans h.output, Nat.le_trans h.size k.size, fun i hi hn => (k.block i (Nat.lt_of_lt_of_le hi h.size) (fun hm => hn (hs i hm hi))).trans (h.block i hi hn)⟩
theorem Fr.mono {S S2 : Nat → Prop} {a b : World} (h : Fr S a b) (hs : ∀ x, S x → x < a.heap.size → S2 x) : Fr S2 a b :=
  ⟨h.os, h.tape, h.output, h.size, fun i hi hn => h.block i hi (fun hm => hn (hs i hm hi))⟩
theorem Fr.drew {S : Nat → Prop} {a w : World} (h : Fr S a w) : Fr S a w.drew := ⟨h.os, h.tape, h.output, h.size, h.block⟩
theorem Fr.drewN {S : Nat → Prop} {a w : World} {n : Nat} (h : Fr S a w) : Fr S a (w.drewN n) := ⟨h.os, h.tape, h.output, h.size, h.block⟩
theorem Fr.of_drewN {S : Nat → Prop} {a : World} {n : Nat} : Fr S a (a.drewN n) := (Fr.refl S a).drewN
theorem Fr.alloc {S : Nat → Prop} {a w : World} (h : Fr S a w) (o : Obj) : Fr S a (w.alloc o) :=
  h.trans ⟨rfl, rfl, rfl, by simp, fun k hk _ => Below.heap_alloc _ _ _ hk⟩
theorem Fr.set {S : Nat → Prop} {a w : World} (h : Fr S a w) {p : Addr} (hp : p.block < a.heap.size → S p.block) (u : Value) : Fr S a (w.setCell p u) :=
  ⟨h.os, h.tape, h.output, by simpa [World.setCell] using h.size, fun k hk hn => (Below.heap_setCell _ _ _ _ (fun e => hn (by rw [e]; exact hp (by rw [← e]; exact hk)))).trans (h.block k hk hn)⟩
theorem Fr.setS {S : Nat → Prop} {a w : World} {b : Nat} (hb : S b) (h : Fr S a w) (o : Nat) (u : Value) : Fr S a (w.setCell ⟨b, o, none⟩ u) := h.set (p := ⟨b, o, none⟩) (fun _ => hb) u
theorem Fr.set1 {a w : World} {b : Nat} (h : Fr (One b) a w) (o : Nat) (u : Value) : Fr (One b) a (w.setCell ⟨b, o, none⟩ u) := h.set (p := ⟨b, o, none⟩) (fun _ => rfl) u
theorem Fr.below {w w2 : World} (h : Fr Nob w w2) : Below w.heap.size w w2 := ⟨h.os, h.tape, h.output, h.size, fun k hk => h.block k hk (fun h => h)⟩
theorem Fr.of_below {w w2 : World} (h : Below w.heap.size w w2) (S : Nat → Prop) : Fr S w w2 := ⟨h.os, h.tape, h.output, h.size, fun k hk _ => h.block k hk⟩
theorem Fr.grown {S : Nat → Prop} {a w w2 : World} {row : Option Nat} (h : Fr S a w) (hg : w.grownBy w2 row) (hr : ∀ k, row = some k → k < a.heap.size → S k) : Fr S a w2 :=
  ⟨hg.os.trans h.os, hg.tape.trans h.tape, hg.output.trans h.output, Nat.le_trans h.size hg.size,
    fun k hk hn => (hg.block k (Nat.lt_of_lt_of_le hk h.size) (fun e => hn (hr k e.symm hk))).trans (h.block k hk hn)⟩
theorem Fr.ofGrown {w w2 : World} (hg : w.grownBy w2 none) : Fr Nob w w2 := (Fr.refl Nob w).grown hg (by simp)
theorem Fr.cell {S : Nat → Prop} {w w2 : World} (h : Fr S w w2) {b o : Nat} {v : Value} (hc : w.cell? ⟨b, o, none⟩ = some v) (hn : ¬ S b) : w2.cell? ⟨b, o, none⟩ = some v :=
  (cellB (h.block b (lt_of_cellB hc) hn) o).trans hc
theorem Fr.froz {S : Nat → Prop} {w w2 : World} (h : Fr S w w2) {b : Nat} (hl : b < w.heap.size) (hn : ¬ S b) (o : Nat) : w2.frozen? ⟨b, o, none⟩ = w.frozen? ⟨b, o, none⟩ := frozB (h.block b hl hn) o

/-- n cells of block b from place o on hold the numbers f, as mk spells them. -/
def Cel {α : Type} (mk : α → Value) (w : World) (b o n : Nat) (f : Nat → α) : Prop := ∀ i, i < n → w.cell? ⟨b, o + i, none⟩ = some (mk (f i))
/-- No cell of the block is frozen. -/
def Thaw (w : World) (b : Nat) : Prop := ∀ i, w.frozen? ⟨b, i, none⟩ = false
section
variable {α : Type} {mk : α → Value} {w w2 : World} {b o n : Nat} {f g : Nat → α}
theorem Cel.at0 (h : Cel mk w b 0 n f) (i : Nat) (hi : i < n) : w.cell? ⟨b, i, none⟩ = some (mk (f i)) := by have := h i hi; rwa [Nat.zero_add] at this
theorem Cel.congr (h : Cel mk w b o n f) (e : ∀ i, i < n → f i = g i) : Cel mk w b o n g := fun i hi => by rw [← e i hi]; exact h i hi
theorem Cel.block (h : Cel mk w b o n f) (he : w2.heap[b]? = w.heap[b]?) : Cel mk w2 b o n f := fun i hi => (cellB he _).trans (h i hi)
theorem Cel.fr {S : Nat → Prop} (h : Cel mk w b o n f) (hf : Fr S w w2) (hn : ¬ S b) : Cel mk w2 b o n f := fun i hi => hf.cell (h i hi) hn
theorem Cel.drew (h : Cel mk w b o n f) : Cel mk w.drew b o n f := h
theorem Cel.drewN {k : Nat} (h : Cel mk w b o n f) : Cel mk (w.drewN k) b o n f := h
theorem Cel.alloc (h : Cel mk w b o n f) (x : Obj) : Cel mk (w.alloc x) b o n f := fun i hi => (cellB (Below.heap_alloc _ _ _ (lt_of_cellB (h i hi))) _).trans (h i hi)
theorem Cel.other (h : Cel mk w b o n f) {a : Addr} (hne : b ≠ a.block) (v : Value) : Cel mk (w.setCell a v) b o n f := h.block (Below.heap_setCell _ _ _ _ hne)
theorem Cel.set (h : Cel mk w b o n f) (i : Nat) (x : α) : Cel mk (w.setCell ⟨b, o + i, none⟩ (mk x)) b o n (upd f i x) := by
  intro j hj
  by_cases e : j = i
  · subst e; rw [upd_self]; exact cellSet (h j hj)
  · rw [upd_ne _ _ _ _ e]; exact (cellNe (by omega)).trans (h j hj)
theorem Cel.set0 (h : Cel mk w b 0 n f) (i : Nat) (x : α) : Cel mk (w.setCell ⟨b, i, none⟩ (mk x)) b 0 n (upd f i x) := by
  have := h.set i x; rwa [Nat.zero_add] at this
theorem Cel.part (h : Cel mk w b o n f) {k m : Nat} (hk : k + m ≤ n) : Cel mk w b (o + k) m (fun i => f (k + i)) := fun i hi => by
  rw [Nat.add_assoc]; exact h (k + i) (by omega)
theorem Cel.lt (h : Cel mk w b o n f) (hn : 0 < n) : b < w.heap.size := lt_of_cellB (h 0 hn)
end
theorem Thaw.block {w w2 : World} {b : Nat} (h : Thaw w b) (he : w2.heap[b]? = w.heap[b]?) : Thaw w2 b := fun i => (frozB he i).trans (h i)
theorem Thaw.fr {S : Nat → Prop} {w w2 : World} {b : Nat} (h : Thaw w b) (hf : Fr S w w2) (hl : b < w.heap.size) (hn : ¬ S b) : Thaw w2 b := h.block (hf.block b hl hn)
theorem Thaw.set {w : World} {b : Nat} (h : Thaw w b) (a : Addr) (v : Value) : Thaw (w.setCell a v) b := fun i => by
  rw [World.frozen?_setCell]; exact h i
theorem Thaw.alloc {w : World} {b : Nat} (h : Thaw w b) (hl : b < w.heap.size) (x : Obj) : Thaw (w.alloc x) b := h.block (Below.heap_alloc _ _ _ hl)
theorem Thaw.drewN {w : World} {b k : Nat} (h : Thaw w b) : Thaw (w.drewN k) b := h
/-- Ints, naturals, bytes as values. -/
def mkI (x : Int) : Value := .int .i64 x
def mkN (x : Nat) : Value := .int .i64 (x : Int)
def mkB (x : Nat) : Value := .int .u8 (x : Int)
theorem Cel.nat {w : World} {b o n : Nat} {f : Nat → Nat} (h : Cel mkN w b o n f) : Cel mkI w b o n (fun i => (f i : Int)) := h
end Go.Proofs.Qxb6500353aGreat
