/- MADE BY wip/tools/gen_obj.py: the heap objects of the program, cell by cell. -/
import Derived.Test.Qxb6500354aGreatBase
namespace Go.Proofs.Qxb6500354aGreat
open Go.RowKit
set_option linter.unusedVariables false
set_option linter.unusedSimpArgs false

structure TrailR where
  stack : Nat → Int
  top : Int
  cursor : Int
  depth : Int
  val : Nat → Int
  level : Nat → Int
  reason : Nat → Int
  place : Nat → Int
  lim : Nat → Int
  pops : Int

structure TrailAt (w : World) (b : Nat) (R : TrailR) : Prop where
  stack : ∀ i, i < 12 → w.cell? ⟨b, i, none⟩ = some (.int .i64 (R.stack i))
  top : w.cell? ⟨b, 12, none⟩ = some (.int .i64 R.top)
  cursor : w.cell? ⟨b, 13, none⟩ = some (.int .i64 R.cursor)
  depth : w.cell? ⟨b, 14, none⟩ = some (.int .i64 R.depth)
  val : ∀ i, i < 13 → w.cell? ⟨b, 15 + i, none⟩ = some (.int .i8 (R.val i))
  level : ∀ i, i < 13 → w.cell? ⟨b, 28 + i, none⟩ = some (.int .i64 (R.level i))
  reason : ∀ i, i < 13 → w.cell? ⟨b, 41 + i, none⟩ = some (.int .i64 (R.reason i))
  place : ∀ i, i < 13 → w.cell? ⟨b, 54 + i, none⟩ = some (.int .i64 (R.place i))
  lim : ∀ i, i < 13 → w.cell? ⟨b, 67 + i, none⟩ = some (.int .i64 (R.lim i))
  pops : w.cell? ⟨b, 80, none⟩ = some (.int .i64 R.pops)
  froz : ∀ i, w.frozen? ⟨b, i, none⟩ = false

theorem TrailAt.block {w w2 : World} {b : Nat} {R : TrailR} (h : TrailAt w b R) (he : w2.heap[b]? = w.heap[b]?) : TrailAt w2 b R :=
  ⟨fun i hi => (cellB he _).trans (h.stack i hi), (cellB he _).trans h.top, (cellB he _).trans h.cursor, (cellB he _).trans h.depth, fun i hi => (cellB he _).trans (h.val i hi), fun i hi => (cellB he _).trans (h.level i hi), fun i hi => (cellB he _).trans (h.reason i hi), fun i hi => (cellB he _).trans (h.place i hi), fun i hi => (cellB he _).trans (h.lim i hi), (cellB he _).trans h.pops, fun i => (frozB he _).trans (h.froz i)⟩
theorem TrailAt.drew {w : World} {b : Nat} {R : TrailR} (h : TrailAt w b R) : TrailAt w.drew b R := h.block rfl
theorem TrailAt.drewN {w : World} {b n : Nat} {R : TrailR} (h : TrailAt w b R) : TrailAt (w.drewN n) b R := h.block rfl
theorem TrailAt.lt {w : World} {b : Nat} {R : TrailR} (h : TrailAt w b R) : b < w.heap.size := lt_of_cellB (h.stack 0 (by omega))
theorem TrailAt.alloc {w : World} {b : Nat} {R : TrailR} (h : TrailAt w b R) (o : Obj) : TrailAt (w.alloc o) b R := h.block (Below.heap_alloc _ _ _ h.lt)
theorem TrailAt.other {w : World} {b : Nat} {R : TrailR} (h : TrailAt w b R) {a : Addr} (hne : b ≠ a.block) (v : Value) : TrailAt (w.setCell a v) b R := h.block (Below.heap_setCell _ _ _ _ hne)
theorem TrailAt.fr {S : List Nat} {w w2 : World} {b : Nat} {R : TrailR} (h : TrailAt w b R) (hf : Fr S w w2) (hn : b ∉ S) : TrailAt w2 b R := h.block (hf.block b h.lt hn)
theorem TrailAt.set_stack {w : World} {b : Nat} {R : TrailR} (h : TrailAt w b R) (i : Nat) (hi : i < 12) (x : Int) : TrailAt (w.setCell ⟨b, i, none⟩ (.int .i64 x)) b { R with stack := upd R.stack i x } := by
  exact ⟨cellUpd0 (fun x => .int .i64 x) h.stack i x, (cellNe (by omega)).trans h.top, (cellNe (by omega)).trans h.cursor, (cellNe (by omega)).trans h.depth, fun j hj => (cellNe (by omega)).trans (h.val j hj), fun j hj => (cellNe (by omega)).trans (h.level j hj), fun j hj => (cellNe (by omega)).trans (h.reason j hj), fun j hj => (cellNe (by omega)).trans (h.place j hj), fun j hj => (cellNe (by omega)).trans (h.lim j hj), (cellNe (by omega)).trans h.pops, fun j => (World.frozen?_setCell _ _ _ _).trans (h.froz j)⟩
theorem TrailAt.set_top {w : World} {b : Nat} {R : TrailR} (h : TrailAt w b R) (x : Int) : TrailAt (w.setCell ⟨b, 12, none⟩ (.int .i64 x)) b { R with top := x } := by
  exact ⟨fun j hj => (cellNe (by omega)).trans (h.stack j hj), cellSet h.top, (cellNe (by omega)).trans h.cursor, (cellNe (by omega)).trans h.depth, fun j hj => (cellNe (by omega)).trans (h.val j hj), fun j hj => (cellNe (by omega)).trans (h.level j hj), fun j hj => (cellNe (by omega)).trans (h.reason j hj), fun j hj => (cellNe (by omega)).trans (h.place j hj), fun j hj => (cellNe (by omega)).trans (h.lim j hj), (cellNe (by omega)).trans h.pops, fun j => (World.frozen?_setCell _ _ _ _).trans (h.froz j)⟩
theorem TrailAt.set_cursor {w : World} {b : Nat} {R : TrailR} (h : TrailAt w b R) (x : Int) : TrailAt (w.setCell ⟨b, 13, none⟩ (.int .i64 x)) b { R with cursor := x } := by
  exact ⟨fun j hj => (cellNe (by omega)).trans (h.stack j hj), (cellNe (by omega)).trans h.top, cellSet h.cursor, (cellNe (by omega)).trans h.depth, fun j hj => (cellNe (by omega)).trans (h.val j hj), fun j hj => (cellNe (by omega)).trans (h.level j hj), fun j hj => (cellNe (by omega)).trans (h.reason j hj), fun j hj => (cellNe (by omega)).trans (h.place j hj), fun j hj => (cellNe (by omega)).trans (h.lim j hj), (cellNe (by omega)).trans h.pops, fun j => (World.frozen?_setCell _ _ _ _).trans (h.froz j)⟩
theorem TrailAt.set_depth {w : World} {b : Nat} {R : TrailR} (h : TrailAt w b R) (x : Int) : TrailAt (w.setCell ⟨b, 14, none⟩ (.int .i64 x)) b { R with depth := x } := by
  exact ⟨fun j hj => (cellNe (by omega)).trans (h.stack j hj), (cellNe (by omega)).trans h.top, (cellNe (by omega)).trans h.cursor, cellSet h.depth, fun j hj => (cellNe (by omega)).trans (h.val j hj), fun j hj => (cellNe (by omega)).trans (h.level j hj), fun j hj => (cellNe (by omega)).trans (h.reason j hj), fun j hj => (cellNe (by omega)).trans (h.place j hj), fun j hj => (cellNe (by omega)).trans (h.lim j hj), (cellNe (by omega)).trans h.pops, fun j => (World.frozen?_setCell _ _ _ _).trans (h.froz j)⟩
theorem TrailAt.set_val {w : World} {b : Nat} {R : TrailR} (h : TrailAt w b R) (i : Nat) (hi : i < 13) (x : Int) : TrailAt (w.setCell ⟨b, 15 + i, none⟩ (.int .i8 x)) b { R with val := upd R.val i x } := by
  exact ⟨fun j hj => (cellNe (by omega)).trans (h.stack j hj), (cellNe (by omega)).trans h.top, (cellNe (by omega)).trans h.cursor, (cellNe (by omega)).trans h.depth, cellUpd 15 (fun x => .int .i8 x) h.val i x, fun j hj => (cellNe (by omega)).trans (h.level j hj), fun j hj => (cellNe (by omega)).trans (h.reason j hj), fun j hj => (cellNe (by omega)).trans (h.place j hj), fun j hj => (cellNe (by omega)).trans (h.lim j hj), (cellNe (by omega)).trans h.pops, fun j => (World.frozen?_setCell _ _ _ _).trans (h.froz j)⟩
theorem TrailAt.set_level {w : World} {b : Nat} {R : TrailR} (h : TrailAt w b R) (i : Nat) (hi : i < 13) (x : Int) : TrailAt (w.setCell ⟨b, 28 + i, none⟩ (.int .i64 x)) b { R with level := upd R.level i x } := by
  exact ⟨fun j hj => (cellNe (by omega)).trans (h.stack j hj), (cellNe (by omega)).trans h.top, (cellNe (by omega)).trans h.cursor, (cellNe (by omega)).trans h.depth, fun j hj => (cellNe (by omega)).trans (h.val j hj), cellUpd 28 (fun x => .int .i64 x) h.level i x, fun j hj => (cellNe (by omega)).trans (h.reason j hj), fun j hj => (cellNe (by omega)).trans (h.place j hj), fun j hj => (cellNe (by omega)).trans (h.lim j hj), (cellNe (by omega)).trans h.pops, fun j => (World.frozen?_setCell _ _ _ _).trans (h.froz j)⟩
theorem TrailAt.set_reason {w : World} {b : Nat} {R : TrailR} (h : TrailAt w b R) (i : Nat) (hi : i < 13) (x : Int) : TrailAt (w.setCell ⟨b, 41 + i, none⟩ (.int .i64 x)) b { R with reason := upd R.reason i x } := by
  exact ⟨fun j hj => (cellNe (by omega)).trans (h.stack j hj), (cellNe (by omega)).trans h.top, (cellNe (by omega)).trans h.cursor, (cellNe (by omega)).trans h.depth, fun j hj => (cellNe (by omega)).trans (h.val j hj), fun j hj => (cellNe (by omega)).trans (h.level j hj), cellUpd 41 (fun x => .int .i64 x) h.reason i x, fun j hj => (cellNe (by omega)).trans (h.place j hj), fun j hj => (cellNe (by omega)).trans (h.lim j hj), (cellNe (by omega)).trans h.pops, fun j => (World.frozen?_setCell _ _ _ _).trans (h.froz j)⟩
theorem TrailAt.set_place {w : World} {b : Nat} {R : TrailR} (h : TrailAt w b R) (i : Nat) (hi : i < 13) (x : Int) : TrailAt (w.setCell ⟨b, 54 + i, none⟩ (.int .i64 x)) b { R with place := upd R.place i x } := by
  exact ⟨fun j hj => (cellNe (by omega)).trans (h.stack j hj), (cellNe (by omega)).trans h.top, (cellNe (by omega)).trans h.cursor, (cellNe (by omega)).trans h.depth, fun j hj => (cellNe (by omega)).trans (h.val j hj), fun j hj => (cellNe (by omega)).trans (h.level j hj), fun j hj => (cellNe (by omega)).trans (h.reason j hj), cellUpd 54 (fun x => .int .i64 x) h.place i x, fun j hj => (cellNe (by omega)).trans (h.lim j hj), (cellNe (by omega)).trans h.pops, fun j => (World.frozen?_setCell _ _ _ _).trans (h.froz j)⟩
theorem TrailAt.set_lim {w : World} {b : Nat} {R : TrailR} (h : TrailAt w b R) (i : Nat) (hi : i < 13) (x : Int) : TrailAt (w.setCell ⟨b, 67 + i, none⟩ (.int .i64 x)) b { R with lim := upd R.lim i x } := by
  exact ⟨fun j hj => (cellNe (by omega)).trans (h.stack j hj), (cellNe (by omega)).trans h.top, (cellNe (by omega)).trans h.cursor, (cellNe (by omega)).trans h.depth, fun j hj => (cellNe (by omega)).trans (h.val j hj), fun j hj => (cellNe (by omega)).trans (h.level j hj), fun j hj => (cellNe (by omega)).trans (h.reason j hj), fun j hj => (cellNe (by omega)).trans (h.place j hj), cellUpd 67 (fun x => .int .i64 x) h.lim i x, (cellNe (by omega)).trans h.pops, fun j => (World.frozen?_setCell _ _ _ _).trans (h.froz j)⟩
theorem TrailAt.set_pops {w : World} {b : Nat} {R : TrailR} (h : TrailAt w b R) (x : Int) : TrailAt (w.setCell ⟨b, 80, none⟩ (.int .i64 x)) b { R with pops := x } := by
  exact ⟨fun j hj => (cellNe (by omega)).trans (h.stack j hj), (cellNe (by omega)).trans h.top, (cellNe (by omega)).trans h.cursor, (cellNe (by omega)).trans h.depth, fun j hj => (cellNe (by omega)).trans (h.val j hj), fun j hj => (cellNe (by omega)).trans (h.level j hj), fun j hj => (cellNe (by omega)).trans (h.reason j hj), fun j hj => (cellNe (by omega)).trans (h.place j hj), fun j hj => (cellNe (by omega)).trans (h.lim j hj), cellSet h.pops, fun j => (World.frozen?_setCell _ _ _ _).trans (h.froz j)⟩

structure WatchR where
  t : Value
  lits : Nat → Int
  size : Nat → Int
  used : Nat
  fresh : Nat
  weak : Nat
  list : Nat → Nat
  visits : Int

structure WatchAt (w : World) (b : Nat) (R : WatchR) : Prop where
  t : w.cell? ⟨b, 0, none⟩ = some (R.t)
  lits : ∀ i, i < 624 → w.cell? ⟨b, 1 + i, none⟩ = some (.int .i64 (R.lits i))
  size : ∀ i, i < 52 → w.cell? ⟨b, 625 + i, none⟩ = some (.int .i64 (R.size i))
  used : w.cell? ⟨b, 677, none⟩ = some (.int .u64 (R.used : Nat))
  fresh : w.cell? ⟨b, 678, none⟩ = some (.int .u64 (R.fresh : Nat))
  weak : w.cell? ⟨b, 679, none⟩ = some (.int .u64 (R.weak : Nat))
  list : ∀ i, i < 26 → w.cell? ⟨b, 680 + i, none⟩ = some (.int .u64 (R.list i : Nat))
  visits : w.cell? ⟨b, 706, none⟩ = some (.int .i64 R.visits)
  froz : ∀ i, w.frozen? ⟨b, i, none⟩ = false

theorem WatchAt.block {w w2 : World} {b : Nat} {R : WatchR} (h : WatchAt w b R) (he : w2.heap[b]? = w.heap[b]?) : WatchAt w2 b R :=
  ⟨(cellB he _).trans h.t, fun i hi => (cellB he _).trans (h.lits i hi), fun i hi => (cellB he _).trans (h.size i hi), (cellB he _).trans h.used, (cellB he _).trans h.fresh, (cellB he _).trans h.weak, fun i hi => (cellB he _).trans (h.list i hi), (cellB he _).trans h.visits, fun i => (frozB he _).trans (h.froz i)⟩
theorem WatchAt.drew {w : World} {b : Nat} {R : WatchR} (h : WatchAt w b R) : WatchAt w.drew b R := h.block rfl
theorem WatchAt.drewN {w : World} {b n : Nat} {R : WatchR} (h : WatchAt w b R) : WatchAt (w.drewN n) b R := h.block rfl
theorem WatchAt.lt {w : World} {b : Nat} {R : WatchR} (h : WatchAt w b R) : b < w.heap.size := lt_of_cellB h.t
theorem WatchAt.alloc {w : World} {b : Nat} {R : WatchR} (h : WatchAt w b R) (o : Obj) : WatchAt (w.alloc o) b R := h.block (Below.heap_alloc _ _ _ h.lt)
theorem WatchAt.other {w : World} {b : Nat} {R : WatchR} (h : WatchAt w b R) {a : Addr} (hne : b ≠ a.block) (v : Value) : WatchAt (w.setCell a v) b R := h.block (Below.heap_setCell _ _ _ _ hne)
theorem WatchAt.fr {S : List Nat} {w w2 : World} {b : Nat} {R : WatchR} (h : WatchAt w b R) (hf : Fr S w w2) (hn : b ∉ S) : WatchAt w2 b R := h.block (hf.block b h.lt hn)
theorem WatchAt.set_t {w : World} {b : Nat} {R : WatchR} (h : WatchAt w b R) (x : Value) : WatchAt (w.setCell ⟨b, 0, none⟩ (x)) b { R with t := x } := by
  exact ⟨cellSet h.t, fun j hj => (cellNe (by omega)).trans (h.lits j hj), fun j hj => (cellNe (by omega)).trans (h.size j hj), (cellNe (by omega)).trans h.used, (cellNe (by omega)).trans h.fresh, (cellNe (by omega)).trans h.weak, fun j hj => (cellNe (by omega)).trans (h.list j hj), (cellNe (by omega)).trans h.visits, fun j => (World.frozen?_setCell _ _ _ _).trans (h.froz j)⟩
theorem WatchAt.set_lits {w : World} {b : Nat} {R : WatchR} (h : WatchAt w b R) (i : Nat) (hi : i < 624) (x : Int) : WatchAt (w.setCell ⟨b, 1 + i, none⟩ (.int .i64 x)) b { R with lits := upd R.lits i x } := by
  exact ⟨(cellNe (by omega)).trans h.t, cellUpd 1 (fun x => .int .i64 x) h.lits i x, fun j hj => (cellNe (by omega)).trans (h.size j hj), (cellNe (by omega)).trans h.used, (cellNe (by omega)).trans h.fresh, (cellNe (by omega)).trans h.weak, fun j hj => (cellNe (by omega)).trans (h.list j hj), (cellNe (by omega)).trans h.visits, fun j => (World.frozen?_setCell _ _ _ _).trans (h.froz j)⟩
theorem WatchAt.set_size {w : World} {b : Nat} {R : WatchR} (h : WatchAt w b R) (i : Nat) (hi : i < 52) (x : Int) : WatchAt (w.setCell ⟨b, 625 + i, none⟩ (.int .i64 x)) b { R with size := upd R.size i x } := by
  exact ⟨(cellNe (by omega)).trans h.t, fun j hj => (cellNe (by omega)).trans (h.lits j hj), cellUpd 625 (fun x => .int .i64 x) h.size i x, (cellNe (by omega)).trans h.used, (cellNe (by omega)).trans h.fresh, (cellNe (by omega)).trans h.weak, fun j hj => (cellNe (by omega)).trans (h.list j hj), (cellNe (by omega)).trans h.visits, fun j => (World.frozen?_setCell _ _ _ _).trans (h.froz j)⟩
theorem WatchAt.set_used {w : World} {b : Nat} {R : WatchR} (h : WatchAt w b R) (x : Nat) : WatchAt (w.setCell ⟨b, 677, none⟩ (.int .u64 (x : Nat))) b { R with used := x } := by
  exact ⟨(cellNe (by omega)).trans h.t, fun j hj => (cellNe (by omega)).trans (h.lits j hj), fun j hj => (cellNe (by omega)).trans (h.size j hj), cellSet h.used, (cellNe (by omega)).trans h.fresh, (cellNe (by omega)).trans h.weak, fun j hj => (cellNe (by omega)).trans (h.list j hj), (cellNe (by omega)).trans h.visits, fun j => (World.frozen?_setCell _ _ _ _).trans (h.froz j)⟩
theorem WatchAt.set_fresh {w : World} {b : Nat} {R : WatchR} (h : WatchAt w b R) (x : Nat) : WatchAt (w.setCell ⟨b, 678, none⟩ (.int .u64 (x : Nat))) b { R with fresh := x } := by
  exact ⟨(cellNe (by omega)).trans h.t, fun j hj => (cellNe (by omega)).trans (h.lits j hj), fun j hj => (cellNe (by omega)).trans (h.size j hj), (cellNe (by omega)).trans h.used, cellSet h.fresh, (cellNe (by omega)).trans h.weak, fun j hj => (cellNe (by omega)).trans (h.list j hj), (cellNe (by omega)).trans h.visits, fun j => (World.frozen?_setCell _ _ _ _).trans (h.froz j)⟩
theorem WatchAt.set_weak {w : World} {b : Nat} {R : WatchR} (h : WatchAt w b R) (x : Nat) : WatchAt (w.setCell ⟨b, 679, none⟩ (.int .u64 (x : Nat))) b { R with weak := x } := by
  exact ⟨(cellNe (by omega)).trans h.t, fun j hj => (cellNe (by omega)).trans (h.lits j hj), fun j hj => (cellNe (by omega)).trans (h.size j hj), (cellNe (by omega)).trans h.used, (cellNe (by omega)).trans h.fresh, cellSet h.weak, fun j hj => (cellNe (by omega)).trans (h.list j hj), (cellNe (by omega)).trans h.visits, fun j => (World.frozen?_setCell _ _ _ _).trans (h.froz j)⟩
theorem WatchAt.set_list {w : World} {b : Nat} {R : WatchR} (h : WatchAt w b R) (i : Nat) (hi : i < 26) (x : Nat) : WatchAt (w.setCell ⟨b, 680 + i, none⟩ (.int .u64 (x : Nat))) b { R with list := upd R.list i x } := by
  exact ⟨(cellNe (by omega)).trans h.t, fun j hj => (cellNe (by omega)).trans (h.lits j hj), fun j hj => (cellNe (by omega)).trans (h.size j hj), (cellNe (by omega)).trans h.used, (cellNe (by omega)).trans h.fresh, (cellNe (by omega)).trans h.weak, cellUpd 680 (fun x => .int .u64 (x : Nat)) h.list i x, (cellNe (by omega)).trans h.visits, fun j => (World.frozen?_setCell _ _ _ _).trans (h.froz j)⟩
theorem WatchAt.set_visits {w : World} {b : Nat} {R : WatchR} (h : WatchAt w b R) (x : Int) : WatchAt (w.setCell ⟨b, 706, none⟩ (.int .i64 x)) b { R with visits := x } := by
  exact ⟨(cellNe (by omega)).trans h.t, fun j hj => (cellNe (by omega)).trans (h.lits j hj), fun j hj => (cellNe (by omega)).trans (h.size j hj), (cellNe (by omega)).trans h.used, (cellNe (by omega)).trans h.fresh, (cellNe (by omega)).trans h.weak, fun j hj => (cellNe (by omega)).trans (h.list j hj), cellSet h.visits, fun j => (World.frozen?_setCell _ _ _ _).trans (h.froz j)⟩

structure LearnR where
  t : Value
  wp : Value
  seen : Nat
  pos : Nat
  neg : Nat
  opn : Int
  lv : Int

structure LearnAt (w : World) (b : Nat) (R : LearnR) : Prop where
  t : w.cell? ⟨b, 0, none⟩ = some (R.t)
  wp : w.cell? ⟨b, 1, none⟩ = some (R.wp)
  seen : w.cell? ⟨b, 2, none⟩ = some (.int .u16 (R.seen : Nat))
  pos : w.cell? ⟨b, 3, none⟩ = some (.int .u16 (R.pos : Nat))
  neg : w.cell? ⟨b, 4, none⟩ = some (.int .u16 (R.neg : Nat))
  opn : w.cell? ⟨b, 5, none⟩ = some (.int .i64 R.opn)
  lv : w.cell? ⟨b, 6, none⟩ = some (.int .i64 R.lv)
  froz : ∀ i, w.frozen? ⟨b, i, none⟩ = false

theorem LearnAt.block {w w2 : World} {b : Nat} {R : LearnR} (h : LearnAt w b R) (he : w2.heap[b]? = w.heap[b]?) : LearnAt w2 b R :=
  ⟨(cellB he _).trans h.t, (cellB he _).trans h.wp, (cellB he _).trans h.seen, (cellB he _).trans h.pos, (cellB he _).trans h.neg, (cellB he _).trans h.opn, (cellB he _).trans h.lv, fun i => (frozB he _).trans (h.froz i)⟩
theorem LearnAt.drew {w : World} {b : Nat} {R : LearnR} (h : LearnAt w b R) : LearnAt w.drew b R := h.block rfl
theorem LearnAt.drewN {w : World} {b n : Nat} {R : LearnR} (h : LearnAt w b R) : LearnAt (w.drewN n) b R := h.block rfl
theorem LearnAt.lt {w : World} {b : Nat} {R : LearnR} (h : LearnAt w b R) : b < w.heap.size := lt_of_cellB h.t
theorem LearnAt.alloc {w : World} {b : Nat} {R : LearnR} (h : LearnAt w b R) (o : Obj) : LearnAt (w.alloc o) b R := h.block (Below.heap_alloc _ _ _ h.lt)
theorem LearnAt.other {w : World} {b : Nat} {R : LearnR} (h : LearnAt w b R) {a : Addr} (hne : b ≠ a.block) (v : Value) : LearnAt (w.setCell a v) b R := h.block (Below.heap_setCell _ _ _ _ hne)
theorem LearnAt.fr {S : List Nat} {w w2 : World} {b : Nat} {R : LearnR} (h : LearnAt w b R) (hf : Fr S w w2) (hn : b ∉ S) : LearnAt w2 b R := h.block (hf.block b h.lt hn)
theorem LearnAt.set_t {w : World} {b : Nat} {R : LearnR} (h : LearnAt w b R) (x : Value) : LearnAt (w.setCell ⟨b, 0, none⟩ (x)) b { R with t := x } := by
  exact ⟨cellSet h.t, (cellNe (by omega)).trans h.wp, (cellNe (by omega)).trans h.seen, (cellNe (by omega)).trans h.pos, (cellNe (by omega)).trans h.neg, (cellNe (by omega)).trans h.opn, (cellNe (by omega)).trans h.lv, fun j => (World.frozen?_setCell _ _ _ _).trans (h.froz j)⟩
theorem LearnAt.set_wp {w : World} {b : Nat} {R : LearnR} (h : LearnAt w b R) (x : Value) : LearnAt (w.setCell ⟨b, 1, none⟩ (x)) b { R with wp := x } := by
  exact ⟨(cellNe (by omega)).trans h.t, cellSet h.wp, (cellNe (by omega)).trans h.seen, (cellNe (by omega)).trans h.pos, (cellNe (by omega)).trans h.neg, (cellNe (by omega)).trans h.opn, (cellNe (by omega)).trans h.lv, fun j => (World.frozen?_setCell _ _ _ _).trans (h.froz j)⟩
theorem LearnAt.set_seen {w : World} {b : Nat} {R : LearnR} (h : LearnAt w b R) (x : Nat) : LearnAt (w.setCell ⟨b, 2, none⟩ (.int .u16 (x : Nat))) b { R with seen := x } := by
  exact ⟨(cellNe (by omega)).trans h.t, (cellNe (by omega)).trans h.wp, cellSet h.seen, (cellNe (by omega)).trans h.pos, (cellNe (by omega)).trans h.neg, (cellNe (by omega)).trans h.opn, (cellNe (by omega)).trans h.lv, fun j => (World.frozen?_setCell _ _ _ _).trans (h.froz j)⟩
theorem LearnAt.set_pos {w : World} {b : Nat} {R : LearnR} (h : LearnAt w b R) (x : Nat) : LearnAt (w.setCell ⟨b, 3, none⟩ (.int .u16 (x : Nat))) b { R with pos := x } := by
  exact ⟨(cellNe (by omega)).trans h.t, (cellNe (by omega)).trans h.wp, (cellNe (by omega)).trans h.seen, cellSet h.pos, (cellNe (by omega)).trans h.neg, (cellNe (by omega)).trans h.opn, (cellNe (by omega)).trans h.lv, fun j => (World.frozen?_setCell _ _ _ _).trans (h.froz j)⟩
theorem LearnAt.set_neg {w : World} {b : Nat} {R : LearnR} (h : LearnAt w b R) (x : Nat) : LearnAt (w.setCell ⟨b, 4, none⟩ (.int .u16 (x : Nat))) b { R with neg := x } := by
  exact ⟨(cellNe (by omega)).trans h.t, (cellNe (by omega)).trans h.wp, (cellNe (by omega)).trans h.seen, (cellNe (by omega)).trans h.pos, cellSet h.neg, (cellNe (by omega)).trans h.opn, (cellNe (by omega)).trans h.lv, fun j => (World.frozen?_setCell _ _ _ _).trans (h.froz j)⟩
theorem LearnAt.set_opn {w : World} {b : Nat} {R : LearnR} (h : LearnAt w b R) (x : Int) : LearnAt (w.setCell ⟨b, 5, none⟩ (.int .i64 x)) b { R with opn := x } := by
  exact ⟨(cellNe (by omega)).trans h.t, (cellNe (by omega)).trans h.wp, (cellNe (by omega)).trans h.seen, (cellNe (by omega)).trans h.pos, (cellNe (by omega)).trans h.neg, cellSet h.opn, (cellNe (by omega)).trans h.lv, fun j => (World.frozen?_setCell _ _ _ _).trans (h.froz j)⟩
theorem LearnAt.set_lv {w : World} {b : Nat} {R : LearnR} (h : LearnAt w b R) (x : Int) : LearnAt (w.setCell ⟨b, 6, none⟩ (.int .i64 x)) b { R with lv := x } := by
  exact ⟨(cellNe (by omega)).trans h.t, (cellNe (by omega)).trans h.wp, (cellNe (by omega)).trans h.seen, (cellNe (by omega)).trans h.pos, (cellNe (by omega)).trans h.neg, (cellNe (by omega)).trans h.opn, cellSet h.lv, fun j => (World.frozen?_setCell _ _ _ _).trans (h.froz j)⟩

structure SolverR where
  p : Value
  t : Value
  wp : Value
  l : Value
  log : Value
  act : Nat → Int
  phase : Nat → Int
  inc : Int
  alive : Nat
  count : Int
  conflicts : Int
  restarts : Int
  since : Int

structure SolverAt (w : World) (b : Nat) (R : SolverR) : Prop where
  p : w.cell? ⟨b, 0, none⟩ = some (R.p)
  t : w.cell? ⟨b, 1, none⟩ = some (R.t)
  wp : w.cell? ⟨b, 2, none⟩ = some (R.wp)
  l : w.cell? ⟨b, 3, none⟩ = some (R.l)
  log : w.cell? ⟨b, 4, none⟩ = some (R.log)
  act : ∀ i, i < 13 → w.cell? ⟨b, 5 + i, none⟩ = some (.int .i64 (R.act i))
  phase : ∀ i, i < 13 → w.cell? ⟨b, 18 + i, none⟩ = some (.int .i64 (R.phase i))
  inc : w.cell? ⟨b, 31, none⟩ = some (.int .i64 R.inc)
  alive : w.cell? ⟨b, 32, none⟩ = some (.int .u16 (R.alive : Nat))
  count : w.cell? ⟨b, 33, none⟩ = some (.int .i64 R.count)
  conflicts : w.cell? ⟨b, 34, none⟩ = some (.int .i64 R.conflicts)
  restarts : w.cell? ⟨b, 35, none⟩ = some (.int .i64 R.restarts)
  since : w.cell? ⟨b, 36, none⟩ = some (.int .i64 R.since)
  froz : ∀ i, w.frozen? ⟨b, i, none⟩ = false

theorem SolverAt.block {w w2 : World} {b : Nat} {R : SolverR} (h : SolverAt w b R) (he : w2.heap[b]? = w.heap[b]?) : SolverAt w2 b R :=
  ⟨(cellB he _).trans h.p, (cellB he _).trans h.t, (cellB he _).trans h.wp, (cellB he _).trans h.l, (cellB he _).trans h.log, fun i hi => (cellB he _).trans (h.act i hi), fun i hi => (cellB he _).trans (h.phase i hi), (cellB he _).trans h.inc, (cellB he _).trans h.alive, (cellB he _).trans h.count, (cellB he _).trans h.conflicts, (cellB he _).trans h.restarts, (cellB he _).trans h.since, fun i => (frozB he _).trans (h.froz i)⟩
theorem SolverAt.drew {w : World} {b : Nat} {R : SolverR} (h : SolverAt w b R) : SolverAt w.drew b R := h.block rfl
theorem SolverAt.drewN {w : World} {b n : Nat} {R : SolverR} (h : SolverAt w b R) : SolverAt (w.drewN n) b R := h.block rfl
theorem SolverAt.lt {w : World} {b : Nat} {R : SolverR} (h : SolverAt w b R) : b < w.heap.size := lt_of_cellB h.p
theorem SolverAt.alloc {w : World} {b : Nat} {R : SolverR} (h : SolverAt w b R) (o : Obj) : SolverAt (w.alloc o) b R := h.block (Below.heap_alloc _ _ _ h.lt)
theorem SolverAt.other {w : World} {b : Nat} {R : SolverR} (h : SolverAt w b R) {a : Addr} (hne : b ≠ a.block) (v : Value) : SolverAt (w.setCell a v) b R := h.block (Below.heap_setCell _ _ _ _ hne)
theorem SolverAt.fr {S : List Nat} {w w2 : World} {b : Nat} {R : SolverR} (h : SolverAt w b R) (hf : Fr S w w2) (hn : b ∉ S) : SolverAt w2 b R := h.block (hf.block b h.lt hn)
theorem SolverAt.set_p {w : World} {b : Nat} {R : SolverR} (h : SolverAt w b R) (x : Value) : SolverAt (w.setCell ⟨b, 0, none⟩ (x)) b { R with p := x } := by
  exact ⟨cellSet h.p, (cellNe (by omega)).trans h.t, (cellNe (by omega)).trans h.wp, (cellNe (by omega)).trans h.l, (cellNe (by omega)).trans h.log, fun j hj => (cellNe (by omega)).trans (h.act j hj), fun j hj => (cellNe (by omega)).trans (h.phase j hj), (cellNe (by omega)).trans h.inc, (cellNe (by omega)).trans h.alive, (cellNe (by omega)).trans h.count, (cellNe (by omega)).trans h.conflicts, (cellNe (by omega)).trans h.restarts, (cellNe (by omega)).trans h.since, fun j => (World.frozen?_setCell _ _ _ _).trans (h.froz j)⟩
theorem SolverAt.set_t {w : World} {b : Nat} {R : SolverR} (h : SolverAt w b R) (x : Value) : SolverAt (w.setCell ⟨b, 1, none⟩ (x)) b { R with t := x } := by
  exact ⟨(cellNe (by omega)).trans h.p, cellSet h.t, (cellNe (by omega)).trans h.wp, (cellNe (by omega)).trans h.l, (cellNe (by omega)).trans h.log, fun j hj => (cellNe (by omega)).trans (h.act j hj), fun j hj => (cellNe (by omega)).trans (h.phase j hj), (cellNe (by omega)).trans h.inc, (cellNe (by omega)).trans h.alive, (cellNe (by omega)).trans h.count, (cellNe (by omega)).trans h.conflicts, (cellNe (by omega)).trans h.restarts, (cellNe (by omega)).trans h.since, fun j => (World.frozen?_setCell _ _ _ _).trans (h.froz j)⟩
theorem SolverAt.set_wp {w : World} {b : Nat} {R : SolverR} (h : SolverAt w b R) (x : Value) : SolverAt (w.setCell ⟨b, 2, none⟩ (x)) b { R with wp := x } := by
  exact ⟨(cellNe (by omega)).trans h.p, (cellNe (by omega)).trans h.t, cellSet h.wp, (cellNe (by omega)).trans h.l, (cellNe (by omega)).trans h.log, fun j hj => (cellNe (by omega)).trans (h.act j hj), fun j hj => (cellNe (by omega)).trans (h.phase j hj), (cellNe (by omega)).trans h.inc, (cellNe (by omega)).trans h.alive, (cellNe (by omega)).trans h.count, (cellNe (by omega)).trans h.conflicts, (cellNe (by omega)).trans h.restarts, (cellNe (by omega)).trans h.since, fun j => (World.frozen?_setCell _ _ _ _).trans (h.froz j)⟩
theorem SolverAt.set_l {w : World} {b : Nat} {R : SolverR} (h : SolverAt w b R) (x : Value) : SolverAt (w.setCell ⟨b, 3, none⟩ (x)) b { R with l := x } := by
  exact ⟨(cellNe (by omega)).trans h.p, (cellNe (by omega)).trans h.t, (cellNe (by omega)).trans h.wp, cellSet h.l, (cellNe (by omega)).trans h.log, fun j hj => (cellNe (by omega)).trans (h.act j hj), fun j hj => (cellNe (by omega)).trans (h.phase j hj), (cellNe (by omega)).trans h.inc, (cellNe (by omega)).trans h.alive, (cellNe (by omega)).trans h.count, (cellNe (by omega)).trans h.conflicts, (cellNe (by omega)).trans h.restarts, (cellNe (by omega)).trans h.since, fun j => (World.frozen?_setCell _ _ _ _).trans (h.froz j)⟩
theorem SolverAt.set_log {w : World} {b : Nat} {R : SolverR} (h : SolverAt w b R) (x : Value) : SolverAt (w.setCell ⟨b, 4, none⟩ (x)) b { R with log := x } := by
  exact ⟨(cellNe (by omega)).trans h.p, (cellNe (by omega)).trans h.t, (cellNe (by omega)).trans h.wp, (cellNe (by omega)).trans h.l, cellSet h.log, fun j hj => (cellNe (by omega)).trans (h.act j hj), fun j hj => (cellNe (by omega)).trans (h.phase j hj), (cellNe (by omega)).trans h.inc, (cellNe (by omega)).trans h.alive, (cellNe (by omega)).trans h.count, (cellNe (by omega)).trans h.conflicts, (cellNe (by omega)).trans h.restarts, (cellNe (by omega)).trans h.since, fun j => (World.frozen?_setCell _ _ _ _).trans (h.froz j)⟩
theorem SolverAt.set_act {w : World} {b : Nat} {R : SolverR} (h : SolverAt w b R) (i : Nat) (hi : i < 13) (x : Int) : SolverAt (w.setCell ⟨b, 5 + i, none⟩ (.int .i64 x)) b { R with act := upd R.act i x } := by
  exact ⟨(cellNe (by omega)).trans h.p, (cellNe (by omega)).trans h.t, (cellNe (by omega)).trans h.wp, (cellNe (by omega)).trans h.l, (cellNe (by omega)).trans h.log, cellUpd 5 (fun x => .int .i64 x) h.act i x, fun j hj => (cellNe (by omega)).trans (h.phase j hj), (cellNe (by omega)).trans h.inc, (cellNe (by omega)).trans h.alive, (cellNe (by omega)).trans h.count, (cellNe (by omega)).trans h.conflicts, (cellNe (by omega)).trans h.restarts, (cellNe (by omega)).trans h.since, fun j => (World.frozen?_setCell _ _ _ _).trans (h.froz j)⟩
theorem SolverAt.set_phase {w : World} {b : Nat} {R : SolverR} (h : SolverAt w b R) (i : Nat) (hi : i < 13) (x : Int) : SolverAt (w.setCell ⟨b, 18 + i, none⟩ (.int .i64 x)) b { R with phase := upd R.phase i x } := by
  exact ⟨(cellNe (by omega)).trans h.p, (cellNe (by omega)).trans h.t, (cellNe (by omega)).trans h.wp, (cellNe (by omega)).trans h.l, (cellNe (by omega)).trans h.log, fun j hj => (cellNe (by omega)).trans (h.act j hj), cellUpd 18 (fun x => .int .i64 x) h.phase i x, (cellNe (by omega)).trans h.inc, (cellNe (by omega)).trans h.alive, (cellNe (by omega)).trans h.count, (cellNe (by omega)).trans h.conflicts, (cellNe (by omega)).trans h.restarts, (cellNe (by omega)).trans h.since, fun j => (World.frozen?_setCell _ _ _ _).trans (h.froz j)⟩
theorem SolverAt.set_inc {w : World} {b : Nat} {R : SolverR} (h : SolverAt w b R) (x : Int) : SolverAt (w.setCell ⟨b, 31, none⟩ (.int .i64 x)) b { R with inc := x } := by
  exact ⟨(cellNe (by omega)).trans h.p, (cellNe (by omega)).trans h.t, (cellNe (by omega)).trans h.wp, (cellNe (by omega)).trans h.l, (cellNe (by omega)).trans h.log, fun j hj => (cellNe (by omega)).trans (h.act j hj), fun j hj => (cellNe (by omega)).trans (h.phase j hj), cellSet h.inc, (cellNe (by omega)).trans h.alive, (cellNe (by omega)).trans h.count, (cellNe (by omega)).trans h.conflicts, (cellNe (by omega)).trans h.restarts, (cellNe (by omega)).trans h.since, fun j => (World.frozen?_setCell _ _ _ _).trans (h.froz j)⟩
theorem SolverAt.set_alive {w : World} {b : Nat} {R : SolverR} (h : SolverAt w b R) (x : Nat) : SolverAt (w.setCell ⟨b, 32, none⟩ (.int .u16 (x : Nat))) b { R with alive := x } := by
  exact ⟨(cellNe (by omega)).trans h.p, (cellNe (by omega)).trans h.t, (cellNe (by omega)).trans h.wp, (cellNe (by omega)).trans h.l, (cellNe (by omega)).trans h.log, fun j hj => (cellNe (by omega)).trans (h.act j hj), fun j hj => (cellNe (by omega)).trans (h.phase j hj), (cellNe (by omega)).trans h.inc, cellSet h.alive, (cellNe (by omega)).trans h.count, (cellNe (by omega)).trans h.conflicts, (cellNe (by omega)).trans h.restarts, (cellNe (by omega)).trans h.since, fun j => (World.frozen?_setCell _ _ _ _).trans (h.froz j)⟩
theorem SolverAt.set_count {w : World} {b : Nat} {R : SolverR} (h : SolverAt w b R) (x : Int) : SolverAt (w.setCell ⟨b, 33, none⟩ (.int .i64 x)) b { R with count := x } := by
  exact ⟨(cellNe (by omega)).trans h.p, (cellNe (by omega)).trans h.t, (cellNe (by omega)).trans h.wp, (cellNe (by omega)).trans h.l, (cellNe (by omega)).trans h.log, fun j hj => (cellNe (by omega)).trans (h.act j hj), fun j hj => (cellNe (by omega)).trans (h.phase j hj), (cellNe (by omega)).trans h.inc, (cellNe (by omega)).trans h.alive, cellSet h.count, (cellNe (by omega)).trans h.conflicts, (cellNe (by omega)).trans h.restarts, (cellNe (by omega)).trans h.since, fun j => (World.frozen?_setCell _ _ _ _).trans (h.froz j)⟩
theorem SolverAt.set_conflicts {w : World} {b : Nat} {R : SolverR} (h : SolverAt w b R) (x : Int) : SolverAt (w.setCell ⟨b, 34, none⟩ (.int .i64 x)) b { R with conflicts := x } := by
  exact ⟨(cellNe (by omega)).trans h.p, (cellNe (by omega)).trans h.t, (cellNe (by omega)).trans h.wp, (cellNe (by omega)).trans h.l, (cellNe (by omega)).trans h.log, fun j hj => (cellNe (by omega)).trans (h.act j hj), fun j hj => (cellNe (by omega)).trans (h.phase j hj), (cellNe (by omega)).trans h.inc, (cellNe (by omega)).trans h.alive, (cellNe (by omega)).trans h.count, cellSet h.conflicts, (cellNe (by omega)).trans h.restarts, (cellNe (by omega)).trans h.since, fun j => (World.frozen?_setCell _ _ _ _).trans (h.froz j)⟩
theorem SolverAt.set_restarts {w : World} {b : Nat} {R : SolverR} (h : SolverAt w b R) (x : Int) : SolverAt (w.setCell ⟨b, 35, none⟩ (.int .i64 x)) b { R with restarts := x } := by
  exact ⟨(cellNe (by omega)).trans h.p, (cellNe (by omega)).trans h.t, (cellNe (by omega)).trans h.wp, (cellNe (by omega)).trans h.l, (cellNe (by omega)).trans h.log, fun j hj => (cellNe (by omega)).trans (h.act j hj), fun j hj => (cellNe (by omega)).trans (h.phase j hj), (cellNe (by omega)).trans h.inc, (cellNe (by omega)).trans h.alive, (cellNe (by omega)).trans h.count, (cellNe (by omega)).trans h.conflicts, cellSet h.restarts, (cellNe (by omega)).trans h.since, fun j => (World.frozen?_setCell _ _ _ _).trans (h.froz j)⟩
theorem SolverAt.set_since {w : World} {b : Nat} {R : SolverR} (h : SolverAt w b R) (x : Int) : SolverAt (w.setCell ⟨b, 36, none⟩ (.int .i64 x)) b { R with since := x } := by
  exact ⟨(cellNe (by omega)).trans h.p, (cellNe (by omega)).trans h.t, (cellNe (by omega)).trans h.wp, (cellNe (by omega)).trans h.l, (cellNe (by omega)).trans h.log, fun j hj => (cellNe (by omega)).trans (h.act j hj), fun j hj => (cellNe (by omega)).trans (h.phase j hj), (cellNe (by omega)).trans h.inc, (cellNe (by omega)).trans h.alive, (cellNe (by omega)).trans h.count, (cellNe (by omega)).trans h.conflicts, (cellNe (by omega)).trans h.restarts, cellSet h.since, fun j => (World.frozen?_setCell _ _ _ _).trans (h.froz j)⟩

structure ParserR where
  arena : Value
  state : Int
  start : Int
  minus : Bool
  val : Int
  pos : Nat
  neg : Nat
  del : Bool
  opn : Bool
  err : Int
  at_ : Int

structure ParserAt (w : World) (b : Nat) (R : ParserR) : Prop where
  arena : w.cell? ⟨b, 0, none⟩ = some (R.arena)
  state : w.cell? ⟨b, 1, none⟩ = some (.int .i64 R.state)
  start : w.cell? ⟨b, 2, none⟩ = some (.int .i64 R.start)
  minus : w.cell? ⟨b, 3, none⟩ = some (.bool R.minus)
  val : w.cell? ⟨b, 4, none⟩ = some (.int .i64 R.val)
  pos : w.cell? ⟨b, 5, none⟩ = some (.int .u16 (R.pos : Nat))
  neg : w.cell? ⟨b, 6, none⟩ = some (.int .u16 (R.neg : Nat))
  del : w.cell? ⟨b, 7, none⟩ = some (.bool R.del)
  opn : w.cell? ⟨b, 8, none⟩ = some (.bool R.opn)
  err : w.cell? ⟨b, 9, none⟩ = some (.int .i64 R.err)
  at_ : w.cell? ⟨b, 10, none⟩ = some (.int .i64 R.at_)
  froz : ∀ i, w.frozen? ⟨b, i, none⟩ = false

theorem ParserAt.block {w w2 : World} {b : Nat} {R : ParserR} (h : ParserAt w b R) (he : w2.heap[b]? = w.heap[b]?) : ParserAt w2 b R :=
  ⟨(cellB he _).trans h.arena, (cellB he _).trans h.state, (cellB he _).trans h.start, (cellB he _).trans h.minus, (cellB he _).trans h.val, (cellB he _).trans h.pos, (cellB he _).trans h.neg, (cellB he _).trans h.del, (cellB he _).trans h.opn, (cellB he _).trans h.err, (cellB he _).trans h.at_, fun i => (frozB he _).trans (h.froz i)⟩
theorem ParserAt.drew {w : World} {b : Nat} {R : ParserR} (h : ParserAt w b R) : ParserAt w.drew b R := h.block rfl
theorem ParserAt.drewN {w : World} {b n : Nat} {R : ParserR} (h : ParserAt w b R) : ParserAt (w.drewN n) b R := h.block rfl
theorem ParserAt.lt {w : World} {b : Nat} {R : ParserR} (h : ParserAt w b R) : b < w.heap.size := lt_of_cellB h.arena
theorem ParserAt.alloc {w : World} {b : Nat} {R : ParserR} (h : ParserAt w b R) (o : Obj) : ParserAt (w.alloc o) b R := h.block (Below.heap_alloc _ _ _ h.lt)
theorem ParserAt.other {w : World} {b : Nat} {R : ParserR} (h : ParserAt w b R) {a : Addr} (hne : b ≠ a.block) (v : Value) : ParserAt (w.setCell a v) b R := h.block (Below.heap_setCell _ _ _ _ hne)
theorem ParserAt.fr {S : List Nat} {w w2 : World} {b : Nat} {R : ParserR} (h : ParserAt w b R) (hf : Fr S w w2) (hn : b ∉ S) : ParserAt w2 b R := h.block (hf.block b h.lt hn)
theorem ParserAt.set_arena {w : World} {b : Nat} {R : ParserR} (h : ParserAt w b R) (x : Value) : ParserAt (w.setCell ⟨b, 0, none⟩ (x)) b { R with arena := x } := by
  exact ⟨cellSet h.arena, (cellNe (by omega)).trans h.state, (cellNe (by omega)).trans h.start, (cellNe (by omega)).trans h.minus, (cellNe (by omega)).trans h.val, (cellNe (by omega)).trans h.pos, (cellNe (by omega)).trans h.neg, (cellNe (by omega)).trans h.del, (cellNe (by omega)).trans h.opn, (cellNe (by omega)).trans h.err, (cellNe (by omega)).trans h.at_, fun j => (World.frozen?_setCell _ _ _ _).trans (h.froz j)⟩
theorem ParserAt.set_state {w : World} {b : Nat} {R : ParserR} (h : ParserAt w b R) (x : Int) : ParserAt (w.setCell ⟨b, 1, none⟩ (.int .i64 x)) b { R with state := x } := by
  exact ⟨(cellNe (by omega)).trans h.arena, cellSet h.state, (cellNe (by omega)).trans h.start, (cellNe (by omega)).trans h.minus, (cellNe (by omega)).trans h.val, (cellNe (by omega)).trans h.pos, (cellNe (by omega)).trans h.neg, (cellNe (by omega)).trans h.del, (cellNe (by omega)).trans h.opn, (cellNe (by omega)).trans h.err, (cellNe (by omega)).trans h.at_, fun j => (World.frozen?_setCell _ _ _ _).trans (h.froz j)⟩
theorem ParserAt.set_start {w : World} {b : Nat} {R : ParserR} (h : ParserAt w b R) (x : Int) : ParserAt (w.setCell ⟨b, 2, none⟩ (.int .i64 x)) b { R with start := x } := by
  exact ⟨(cellNe (by omega)).trans h.arena, (cellNe (by omega)).trans h.state, cellSet h.start, (cellNe (by omega)).trans h.minus, (cellNe (by omega)).trans h.val, (cellNe (by omega)).trans h.pos, (cellNe (by omega)).trans h.neg, (cellNe (by omega)).trans h.del, (cellNe (by omega)).trans h.opn, (cellNe (by omega)).trans h.err, (cellNe (by omega)).trans h.at_, fun j => (World.frozen?_setCell _ _ _ _).trans (h.froz j)⟩
theorem ParserAt.set_minus {w : World} {b : Nat} {R : ParserR} (h : ParserAt w b R) (x : Bool) : ParserAt (w.setCell ⟨b, 3, none⟩ (.bool x)) b { R with minus := x } := by
  exact ⟨(cellNe (by omega)).trans h.arena, (cellNe (by omega)).trans h.state, (cellNe (by omega)).trans h.start, cellSet h.minus, (cellNe (by omega)).trans h.val, (cellNe (by omega)).trans h.pos, (cellNe (by omega)).trans h.neg, (cellNe (by omega)).trans h.del, (cellNe (by omega)).trans h.opn, (cellNe (by omega)).trans h.err, (cellNe (by omega)).trans h.at_, fun j => (World.frozen?_setCell _ _ _ _).trans (h.froz j)⟩
theorem ParserAt.set_val {w : World} {b : Nat} {R : ParserR} (h : ParserAt w b R) (x : Int) : ParserAt (w.setCell ⟨b, 4, none⟩ (.int .i64 x)) b { R with val := x } := by
  exact ⟨(cellNe (by omega)).trans h.arena, (cellNe (by omega)).trans h.state, (cellNe (by omega)).trans h.start, (cellNe (by omega)).trans h.minus, cellSet h.val, (cellNe (by omega)).trans h.pos, (cellNe (by omega)).trans h.neg, (cellNe (by omega)).trans h.del, (cellNe (by omega)).trans h.opn, (cellNe (by omega)).trans h.err, (cellNe (by omega)).trans h.at_, fun j => (World.frozen?_setCell _ _ _ _).trans (h.froz j)⟩
theorem ParserAt.set_pos {w : World} {b : Nat} {R : ParserR} (h : ParserAt w b R) (x : Nat) : ParserAt (w.setCell ⟨b, 5, none⟩ (.int .u16 (x : Nat))) b { R with pos := x } := by
  exact ⟨(cellNe (by omega)).trans h.arena, (cellNe (by omega)).trans h.state, (cellNe (by omega)).trans h.start, (cellNe (by omega)).trans h.minus, (cellNe (by omega)).trans h.val, cellSet h.pos, (cellNe (by omega)).trans h.neg, (cellNe (by omega)).trans h.del, (cellNe (by omega)).trans h.opn, (cellNe (by omega)).trans h.err, (cellNe (by omega)).trans h.at_, fun j => (World.frozen?_setCell _ _ _ _).trans (h.froz j)⟩
theorem ParserAt.set_neg {w : World} {b : Nat} {R : ParserR} (h : ParserAt w b R) (x : Nat) : ParserAt (w.setCell ⟨b, 6, none⟩ (.int .u16 (x : Nat))) b { R with neg := x } := by
  exact ⟨(cellNe (by omega)).trans h.arena, (cellNe (by omega)).trans h.state, (cellNe (by omega)).trans h.start, (cellNe (by omega)).trans h.minus, (cellNe (by omega)).trans h.val, (cellNe (by omega)).trans h.pos, cellSet h.neg, (cellNe (by omega)).trans h.del, (cellNe (by omega)).trans h.opn, (cellNe (by omega)).trans h.err, (cellNe (by omega)).trans h.at_, fun j => (World.frozen?_setCell _ _ _ _).trans (h.froz j)⟩
theorem ParserAt.set_del {w : World} {b : Nat} {R : ParserR} (h : ParserAt w b R) (x : Bool) : ParserAt (w.setCell ⟨b, 7, none⟩ (.bool x)) b { R with del := x } := by
  exact ⟨(cellNe (by omega)).trans h.arena, (cellNe (by omega)).trans h.state, (cellNe (by omega)).trans h.start, (cellNe (by omega)).trans h.minus, (cellNe (by omega)).trans h.val, (cellNe (by omega)).trans h.pos, (cellNe (by omega)).trans h.neg, cellSet h.del, (cellNe (by omega)).trans h.opn, (cellNe (by omega)).trans h.err, (cellNe (by omega)).trans h.at_, fun j => (World.frozen?_setCell _ _ _ _).trans (h.froz j)⟩
theorem ParserAt.set_opn {w : World} {b : Nat} {R : ParserR} (h : ParserAt w b R) (x : Bool) : ParserAt (w.setCell ⟨b, 8, none⟩ (.bool x)) b { R with opn := x } := by
  exact ⟨(cellNe (by omega)).trans h.arena, (cellNe (by omega)).trans h.state, (cellNe (by omega)).trans h.start, (cellNe (by omega)).trans h.minus, (cellNe (by omega)).trans h.val, (cellNe (by omega)).trans h.pos, (cellNe (by omega)).trans h.neg, (cellNe (by omega)).trans h.del, cellSet h.opn, (cellNe (by omega)).trans h.err, (cellNe (by omega)).trans h.at_, fun j => (World.frozen?_setCell _ _ _ _).trans (h.froz j)⟩
theorem ParserAt.set_err {w : World} {b : Nat} {R : ParserR} (h : ParserAt w b R) (x : Int) : ParserAt (w.setCell ⟨b, 9, none⟩ (.int .i64 x)) b { R with err := x } := by
  exact ⟨(cellNe (by omega)).trans h.arena, (cellNe (by omega)).trans h.state, (cellNe (by omega)).trans h.start, (cellNe (by omega)).trans h.minus, (cellNe (by omega)).trans h.val, (cellNe (by omega)).trans h.pos, (cellNe (by omega)).trans h.neg, (cellNe (by omega)).trans h.del, (cellNe (by omega)).trans h.opn, cellSet h.err, (cellNe (by omega)).trans h.at_, fun j => (World.frozen?_setCell _ _ _ _).trans (h.froz j)⟩
theorem ParserAt.set_at_ {w : World} {b : Nat} {R : ParserR} (h : ParserAt w b R) (x : Int) : ParserAt (w.setCell ⟨b, 10, none⟩ (.int .i64 x)) b { R with at_ := x } := by
  exact ⟨(cellNe (by omega)).trans h.arena, (cellNe (by omega)).trans h.state, (cellNe (by omega)).trans h.start, (cellNe (by omega)).trans h.minus, (cellNe (by omega)).trans h.val, (cellNe (by omega)).trans h.pos, (cellNe (by omega)).trans h.neg, (cellNe (by omega)).trans h.del, (cellNe (by omega)).trans h.opn, (cellNe (by omega)).trans h.err, cellSet h.at_, fun j => (World.frozen?_setCell _ _ _ _).trans (h.froz j)⟩

structure CheckR where
  p : Value
  pos : Nat → Nat
  neg : Nat → Nat
  used : Nat
  empties : Int

structure CheckAt (w : World) (b : Nat) (R : CheckR) : Prop where
  p : w.cell? ⟨b, 0, none⟩ = some (R.p)
  pos : ∀ i, i < 64 → w.cell? ⟨b, 1 + i, none⟩ = some (.int .u16 (R.pos i : Nat))
  neg : ∀ i, i < 64 → w.cell? ⟨b, 65 + i, none⟩ = some (.int .u16 (R.neg i : Nat))
  used : w.cell? ⟨b, 129, none⟩ = some (.int .u64 (R.used : Nat))
  empties : w.cell? ⟨b, 130, none⟩ = some (.int .i64 R.empties)
  froz : ∀ i, w.frozen? ⟨b, i, none⟩ = false

theorem CheckAt.block {w w2 : World} {b : Nat} {R : CheckR} (h : CheckAt w b R) (he : w2.heap[b]? = w.heap[b]?) : CheckAt w2 b R :=
  ⟨(cellB he _).trans h.p, fun i hi => (cellB he _).trans (h.pos i hi), fun i hi => (cellB he _).trans (h.neg i hi), (cellB he _).trans h.used, (cellB he _).trans h.empties, fun i => (frozB he _).trans (h.froz i)⟩
theorem CheckAt.drew {w : World} {b : Nat} {R : CheckR} (h : CheckAt w b R) : CheckAt w.drew b R := h.block rfl
theorem CheckAt.drewN {w : World} {b n : Nat} {R : CheckR} (h : CheckAt w b R) : CheckAt (w.drewN n) b R := h.block rfl
theorem CheckAt.lt {w : World} {b : Nat} {R : CheckR} (h : CheckAt w b R) : b < w.heap.size := lt_of_cellB h.p
theorem CheckAt.alloc {w : World} {b : Nat} {R : CheckR} (h : CheckAt w b R) (o : Obj) : CheckAt (w.alloc o) b R := h.block (Below.heap_alloc _ _ _ h.lt)
theorem CheckAt.other {w : World} {b : Nat} {R : CheckR} (h : CheckAt w b R) {a : Addr} (hne : b ≠ a.block) (v : Value) : CheckAt (w.setCell a v) b R := h.block (Below.heap_setCell _ _ _ _ hne)
theorem CheckAt.fr {S : List Nat} {w w2 : World} {b : Nat} {R : CheckR} (h : CheckAt w b R) (hf : Fr S w w2) (hn : b ∉ S) : CheckAt w2 b R := h.block (hf.block b h.lt hn)
theorem CheckAt.set_p {w : World} {b : Nat} {R : CheckR} (h : CheckAt w b R) (x : Value) : CheckAt (w.setCell ⟨b, 0, none⟩ (x)) b { R with p := x } := by
  exact ⟨cellSet h.p, fun j hj => (cellNe (by omega)).trans (h.pos j hj), fun j hj => (cellNe (by omega)).trans (h.neg j hj), (cellNe (by omega)).trans h.used, (cellNe (by omega)).trans h.empties, fun j => (World.frozen?_setCell _ _ _ _).trans (h.froz j)⟩
theorem CheckAt.set_pos {w : World} {b : Nat} {R : CheckR} (h : CheckAt w b R) (i : Nat) (hi : i < 64) (x : Nat) : CheckAt (w.setCell ⟨b, 1 + i, none⟩ (.int .u16 (x : Nat))) b { R with pos := upd R.pos i x } := by
  exact ⟨(cellNe (by omega)).trans h.p, cellUpd 1 (fun x => .int .u16 (x : Nat)) h.pos i x, fun j hj => (cellNe (by omega)).trans (h.neg j hj), (cellNe (by omega)).trans h.used, (cellNe (by omega)).trans h.empties, fun j => (World.frozen?_setCell _ _ _ _).trans (h.froz j)⟩
theorem CheckAt.set_neg {w : World} {b : Nat} {R : CheckR} (h : CheckAt w b R) (i : Nat) (hi : i < 64) (x : Nat) : CheckAt (w.setCell ⟨b, 65 + i, none⟩ (.int .u16 (x : Nat))) b { R with neg := upd R.neg i x } := by
  exact ⟨(cellNe (by omega)).trans h.p, fun j hj => (cellNe (by omega)).trans (h.pos j hj), cellUpd 65 (fun x => .int .u16 (x : Nat)) h.neg i x, (cellNe (by omega)).trans h.used, (cellNe (by omega)).trans h.empties, fun j => (World.frozen?_setCell _ _ _ _).trans (h.froz j)⟩
theorem CheckAt.set_used {w : World} {b : Nat} {R : CheckR} (h : CheckAt w b R) (x : Nat) : CheckAt (w.setCell ⟨b, 129, none⟩ (.int .u64 (x : Nat))) b { R with used := x } := by
  exact ⟨(cellNe (by omega)).trans h.p, fun j hj => (cellNe (by omega)).trans (h.pos j hj), fun j hj => (cellNe (by omega)).trans (h.neg j hj), cellSet h.used, (cellNe (by omega)).trans h.empties, fun j => (World.frozen?_setCell _ _ _ _).trans (h.froz j)⟩
theorem CheckAt.set_empties {w : World} {b : Nat} {R : CheckR} (h : CheckAt w b R) (x : Int) : CheckAt (w.setCell ⟨b, 130, none⟩ (.int .i64 x)) b { R with empties := x } := by
  exact ⟨(cellNe (by omega)).trans h.p, fun j hj => (cellNe (by omega)).trans (h.pos j hj), fun j hj => (cellNe (by omega)).trans (h.neg j hj), (cellNe (by omega)).trans h.used, cellSet h.empties, fun j => (World.frozen?_setCell _ _ _ _).trans (h.froz j)⟩

structure LawR where
  X : Value
  M : Value
  P : Value
  K : Value
  text : Value
  proof : Value
  lastText : Value
  lastProof : Value
  mine : Value
  quiet : Bool

structure LawAt (w : World) (b : Nat) (R : LawR) : Prop where
  X : w.cell? ⟨b, 0, none⟩ = some (R.X)
  M : w.cell? ⟨b, 1, none⟩ = some (R.M)
  P : w.cell? ⟨b, 2, none⟩ = some (R.P)
  K : w.cell? ⟨b, 3, none⟩ = some (R.K)
  text : w.cell? ⟨b, 4, none⟩ = some (R.text)
  proof : w.cell? ⟨b, 5, none⟩ = some (R.proof)
  lastText : w.cell? ⟨b, 6, none⟩ = some (R.lastText)
  lastProof : w.cell? ⟨b, 7, none⟩ = some (R.lastProof)
  mine : w.cell? ⟨b, 8, none⟩ = some (R.mine)
  quiet : w.cell? ⟨b, 9, none⟩ = some (.bool R.quiet)
  froz : ∀ i, w.frozen? ⟨b, i, none⟩ = false

theorem LawAt.block {w w2 : World} {b : Nat} {R : LawR} (h : LawAt w b R) (he : w2.heap[b]? = w.heap[b]?) : LawAt w2 b R :=
  ⟨(cellB he _).trans h.X, (cellB he _).trans h.M, (cellB he _).trans h.P, (cellB he _).trans h.K, (cellB he _).trans h.text, (cellB he _).trans h.proof, (cellB he _).trans h.lastText, (cellB he _).trans h.lastProof, (cellB he _).trans h.mine, (cellB he _).trans h.quiet, fun i => (frozB he _).trans (h.froz i)⟩
theorem LawAt.drew {w : World} {b : Nat} {R : LawR} (h : LawAt w b R) : LawAt w.drew b R := h.block rfl
theorem LawAt.drewN {w : World} {b n : Nat} {R : LawR} (h : LawAt w b R) : LawAt (w.drewN n) b R := h.block rfl
theorem LawAt.lt {w : World} {b : Nat} {R : LawR} (h : LawAt w b R) : b < w.heap.size := lt_of_cellB h.X
theorem LawAt.alloc {w : World} {b : Nat} {R : LawR} (h : LawAt w b R) (o : Obj) : LawAt (w.alloc o) b R := h.block (Below.heap_alloc _ _ _ h.lt)
theorem LawAt.other {w : World} {b : Nat} {R : LawR} (h : LawAt w b R) {a : Addr} (hne : b ≠ a.block) (v : Value) : LawAt (w.setCell a v) b R := h.block (Below.heap_setCell _ _ _ _ hne)
theorem LawAt.fr {S : List Nat} {w w2 : World} {b : Nat} {R : LawR} (h : LawAt w b R) (hf : Fr S w w2) (hn : b ∉ S) : LawAt w2 b R := h.block (hf.block b h.lt hn)
theorem LawAt.set_X {w : World} {b : Nat} {R : LawR} (h : LawAt w b R) (x : Value) : LawAt (w.setCell ⟨b, 0, none⟩ (x)) b { R with X := x } := by
  exact ⟨cellSet h.X, (cellNe (by omega)).trans h.M, (cellNe (by omega)).trans h.P, (cellNe (by omega)).trans h.K, (cellNe (by omega)).trans h.text, (cellNe (by omega)).trans h.proof, (cellNe (by omega)).trans h.lastText, (cellNe (by omega)).trans h.lastProof, (cellNe (by omega)).trans h.mine, (cellNe (by omega)).trans h.quiet, fun j => (World.frozen?_setCell _ _ _ _).trans (h.froz j)⟩
theorem LawAt.set_M {w : World} {b : Nat} {R : LawR} (h : LawAt w b R) (x : Value) : LawAt (w.setCell ⟨b, 1, none⟩ (x)) b { R with M := x } := by
  exact ⟨(cellNe (by omega)).trans h.X, cellSet h.M, (cellNe (by omega)).trans h.P, (cellNe (by omega)).trans h.K, (cellNe (by omega)).trans h.text, (cellNe (by omega)).trans h.proof, (cellNe (by omega)).trans h.lastText, (cellNe (by omega)).trans h.lastProof, (cellNe (by omega)).trans h.mine, (cellNe (by omega)).trans h.quiet, fun j => (World.frozen?_setCell _ _ _ _).trans (h.froz j)⟩
theorem LawAt.set_P {w : World} {b : Nat} {R : LawR} (h : LawAt w b R) (x : Value) : LawAt (w.setCell ⟨b, 2, none⟩ (x)) b { R with P := x } := by
  exact ⟨(cellNe (by omega)).trans h.X, (cellNe (by omega)).trans h.M, cellSet h.P, (cellNe (by omega)).trans h.K, (cellNe (by omega)).trans h.text, (cellNe (by omega)).trans h.proof, (cellNe (by omega)).trans h.lastText, (cellNe (by omega)).trans h.lastProof, (cellNe (by omega)).trans h.mine, (cellNe (by omega)).trans h.quiet, fun j => (World.frozen?_setCell _ _ _ _).trans (h.froz j)⟩
theorem LawAt.set_K {w : World} {b : Nat} {R : LawR} (h : LawAt w b R) (x : Value) : LawAt (w.setCell ⟨b, 3, none⟩ (x)) b { R with K := x } := by
  exact ⟨(cellNe (by omega)).trans h.X, (cellNe (by omega)).trans h.M, (cellNe (by omega)).trans h.P, cellSet h.K, (cellNe (by omega)).trans h.text, (cellNe (by omega)).trans h.proof, (cellNe (by omega)).trans h.lastText, (cellNe (by omega)).trans h.lastProof, (cellNe (by omega)).trans h.mine, (cellNe (by omega)).trans h.quiet, fun j => (World.frozen?_setCell _ _ _ _).trans (h.froz j)⟩
theorem LawAt.set_text {w : World} {b : Nat} {R : LawR} (h : LawAt w b R) (x : Value) : LawAt (w.setCell ⟨b, 4, none⟩ (x)) b { R with text := x } := by
  exact ⟨(cellNe (by omega)).trans h.X, (cellNe (by omega)).trans h.M, (cellNe (by omega)).trans h.P, (cellNe (by omega)).trans h.K, cellSet h.text, (cellNe (by omega)).trans h.proof, (cellNe (by omega)).trans h.lastText, (cellNe (by omega)).trans h.lastProof, (cellNe (by omega)).trans h.mine, (cellNe (by omega)).trans h.quiet, fun j => (World.frozen?_setCell _ _ _ _).trans (h.froz j)⟩
theorem LawAt.set_proof {w : World} {b : Nat} {R : LawR} (h : LawAt w b R) (x : Value) : LawAt (w.setCell ⟨b, 5, none⟩ (x)) b { R with proof := x } := by
  exact ⟨(cellNe (by omega)).trans h.X, (cellNe (by omega)).trans h.M, (cellNe (by omega)).trans h.P, (cellNe (by omega)).trans h.K, (cellNe (by omega)).trans h.text, cellSet h.proof, (cellNe (by omega)).trans h.lastText, (cellNe (by omega)).trans h.lastProof, (cellNe (by omega)).trans h.mine, (cellNe (by omega)).trans h.quiet, fun j => (World.frozen?_setCell _ _ _ _).trans (h.froz j)⟩
theorem LawAt.set_lastText {w : World} {b : Nat} {R : LawR} (h : LawAt w b R) (x : Value) : LawAt (w.setCell ⟨b, 6, none⟩ (x)) b { R with lastText := x } := by
  exact ⟨(cellNe (by omega)).trans h.X, (cellNe (by omega)).trans h.M, (cellNe (by omega)).trans h.P, (cellNe (by omega)).trans h.K, (cellNe (by omega)).trans h.text, (cellNe (by omega)).trans h.proof, cellSet h.lastText, (cellNe (by omega)).trans h.lastProof, (cellNe (by omega)).trans h.mine, (cellNe (by omega)).trans h.quiet, fun j => (World.frozen?_setCell _ _ _ _).trans (h.froz j)⟩
theorem LawAt.set_lastProof {w : World} {b : Nat} {R : LawR} (h : LawAt w b R) (x : Value) : LawAt (w.setCell ⟨b, 7, none⟩ (x)) b { R with lastProof := x } := by
  exact ⟨(cellNe (by omega)).trans h.X, (cellNe (by omega)).trans h.M, (cellNe (by omega)).trans h.P, (cellNe (by omega)).trans h.K, (cellNe (by omega)).trans h.text, (cellNe (by omega)).trans h.proof, (cellNe (by omega)).trans h.lastText, cellSet h.lastProof, (cellNe (by omega)).trans h.mine, (cellNe (by omega)).trans h.quiet, fun j => (World.frozen?_setCell _ _ _ _).trans (h.froz j)⟩
theorem LawAt.set_mine {w : World} {b : Nat} {R : LawR} (h : LawAt w b R) (x : Value) : LawAt (w.setCell ⟨b, 8, none⟩ (x)) b { R with mine := x } := by
  exact ⟨(cellNe (by omega)).trans h.X, (cellNe (by omega)).trans h.M, (cellNe (by omega)).trans h.P, (cellNe (by omega)).trans h.K, (cellNe (by omega)).trans h.text, (cellNe (by omega)).trans h.proof, (cellNe (by omega)).trans h.lastText, (cellNe (by omega)).trans h.lastProof, cellSet h.mine, (cellNe (by omega)).trans h.quiet, fun j => (World.frozen?_setCell _ _ _ _).trans (h.froz j)⟩
theorem LawAt.set_quiet {w : World} {b : Nat} {R : LawR} (h : LawAt w b R) (x : Bool) : LawAt (w.setCell ⟨b, 9, none⟩ (.bool x)) b { R with quiet := x } := by
  exact ⟨(cellNe (by omega)).trans h.X, (cellNe (by omega)).trans h.M, (cellNe (by omega)).trans h.P, (cellNe (by omega)).trans h.K, (cellNe (by omega)).trans h.text, (cellNe (by omega)).trans h.proof, (cellNe (by omega)).trans h.lastText, (cellNe (by omega)).trans h.lastProof, (cellNe (by omega)).trans h.mine, cellSet h.quiet, fun j => (World.frozen?_setCell _ _ _ _).trans (h.froz j)⟩

structure TowerR where
  P : Value
  T : Value
  W : Value
  L : Value
  S : Value
  Q : Value
  K : Value

structure TowerAt (w : World) (b : Nat) (R : TowerR) : Prop where
  P : w.cell? ⟨b, 0, none⟩ = some (R.P)
  T : w.cell? ⟨b, 1, none⟩ = some (R.T)
  W : w.cell? ⟨b, 2, none⟩ = some (R.W)
  L : w.cell? ⟨b, 3, none⟩ = some (R.L)
  S : w.cell? ⟨b, 4, none⟩ = some (R.S)
  Q : w.cell? ⟨b, 5, none⟩ = some (R.Q)
  K : w.cell? ⟨b, 6, none⟩ = some (R.K)
  froz : ∀ i, w.frozen? ⟨b, i, none⟩ = false

theorem TowerAt.block {w w2 : World} {b : Nat} {R : TowerR} (h : TowerAt w b R) (he : w2.heap[b]? = w.heap[b]?) : TowerAt w2 b R :=
  ⟨(cellB he _).trans h.P, (cellB he _).trans h.T, (cellB he _).trans h.W, (cellB he _).trans h.L, (cellB he _).trans h.S, (cellB he _).trans h.Q, (cellB he _).trans h.K, fun i => (frozB he _).trans (h.froz i)⟩
theorem TowerAt.drew {w : World} {b : Nat} {R : TowerR} (h : TowerAt w b R) : TowerAt w.drew b R := h.block rfl
theorem TowerAt.drewN {w : World} {b n : Nat} {R : TowerR} (h : TowerAt w b R) : TowerAt (w.drewN n) b R := h.block rfl
theorem TowerAt.lt {w : World} {b : Nat} {R : TowerR} (h : TowerAt w b R) : b < w.heap.size := lt_of_cellB h.P
theorem TowerAt.alloc {w : World} {b : Nat} {R : TowerR} (h : TowerAt w b R) (o : Obj) : TowerAt (w.alloc o) b R := h.block (Below.heap_alloc _ _ _ h.lt)
theorem TowerAt.other {w : World} {b : Nat} {R : TowerR} (h : TowerAt w b R) {a : Addr} (hne : b ≠ a.block) (v : Value) : TowerAt (w.setCell a v) b R := h.block (Below.heap_setCell _ _ _ _ hne)
theorem TowerAt.fr {S : List Nat} {w w2 : World} {b : Nat} {R : TowerR} (h : TowerAt w b R) (hf : Fr S w w2) (hn : b ∉ S) : TowerAt w2 b R := h.block (hf.block b h.lt hn)
theorem TowerAt.set_P {w : World} {b : Nat} {R : TowerR} (h : TowerAt w b R) (x : Value) : TowerAt (w.setCell ⟨b, 0, none⟩ (x)) b { R with P := x } := by
  exact ⟨cellSet h.P, (cellNe (by omega)).trans h.T, (cellNe (by omega)).trans h.W, (cellNe (by omega)).trans h.L, (cellNe (by omega)).trans h.S, (cellNe (by omega)).trans h.Q, (cellNe (by omega)).trans h.K, fun j => (World.frozen?_setCell _ _ _ _).trans (h.froz j)⟩
theorem TowerAt.set_T {w : World} {b : Nat} {R : TowerR} (h : TowerAt w b R) (x : Value) : TowerAt (w.setCell ⟨b, 1, none⟩ (x)) b { R with T := x } := by
  exact ⟨(cellNe (by omega)).trans h.P, cellSet h.T, (cellNe (by omega)).trans h.W, (cellNe (by omega)).trans h.L, (cellNe (by omega)).trans h.S, (cellNe (by omega)).trans h.Q, (cellNe (by omega)).trans h.K, fun j => (World.frozen?_setCell _ _ _ _).trans (h.froz j)⟩
theorem TowerAt.set_W {w : World} {b : Nat} {R : TowerR} (h : TowerAt w b R) (x : Value) : TowerAt (w.setCell ⟨b, 2, none⟩ (x)) b { R with W := x } := by
  exact ⟨(cellNe (by omega)).trans h.P, (cellNe (by omega)).trans h.T, cellSet h.W, (cellNe (by omega)).trans h.L, (cellNe (by omega)).trans h.S, (cellNe (by omega)).trans h.Q, (cellNe (by omega)).trans h.K, fun j => (World.frozen?_setCell _ _ _ _).trans (h.froz j)⟩
theorem TowerAt.set_L {w : World} {b : Nat} {R : TowerR} (h : TowerAt w b R) (x : Value) : TowerAt (w.setCell ⟨b, 3, none⟩ (x)) b { R with L := x } := by
  exact ⟨(cellNe (by omega)).trans h.P, (cellNe (by omega)).trans h.T, (cellNe (by omega)).trans h.W, cellSet h.L, (cellNe (by omega)).trans h.S, (cellNe (by omega)).trans h.Q, (cellNe (by omega)).trans h.K, fun j => (World.frozen?_setCell _ _ _ _).trans (h.froz j)⟩
theorem TowerAt.set_S {w : World} {b : Nat} {R : TowerR} (h : TowerAt w b R) (x : Value) : TowerAt (w.setCell ⟨b, 4, none⟩ (x)) b { R with S := x } := by
  exact ⟨(cellNe (by omega)).trans h.P, (cellNe (by omega)).trans h.T, (cellNe (by omega)).trans h.W, (cellNe (by omega)).trans h.L, cellSet h.S, (cellNe (by omega)).trans h.Q, (cellNe (by omega)).trans h.K, fun j => (World.frozen?_setCell _ _ _ _).trans (h.froz j)⟩
theorem TowerAt.set_Q {w : World} {b : Nat} {R : TowerR} (h : TowerAt w b R) (x : Value) : TowerAt (w.setCell ⟨b, 5, none⟩ (x)) b { R with Q := x } := by
  exact ⟨(cellNe (by omega)).trans h.P, (cellNe (by omega)).trans h.T, (cellNe (by omega)).trans h.W, (cellNe (by omega)).trans h.L, (cellNe (by omega)).trans h.S, cellSet h.Q, (cellNe (by omega)).trans h.K, fun j => (World.frozen?_setCell _ _ _ _).trans (h.froz j)⟩
theorem TowerAt.set_K {w : World} {b : Nat} {R : TowerR} (h : TowerAt w b R) (x : Value) : TowerAt (w.setCell ⟨b, 6, none⟩ (x)) b { R with K := x } := by
  exact ⟨(cellNe (by omega)).trans h.P, (cellNe (by omega)).trans h.T, (cellNe (by omega)).trans h.W, (cellNe (by omega)).trans h.L, (cellNe (by omega)).trans h.S, (cellNe (by omega)).trans h.Q, cellSet h.K, fun j => (World.frozen?_setCell _ _ _ _).trans (h.froz j)⟩

structure CnfMR where
  parses : Int
  prints : Int

structure CnfMAt (w : World) (b : Nat) (R : CnfMR) : Prop where
  parses : w.cell? ⟨b, 0, none⟩ = some (.int .i64 R.parses)
  prints : w.cell? ⟨b, 1, none⟩ = some (.int .i64 R.prints)
  froz : ∀ i, w.frozen? ⟨b, i, none⟩ = false

theorem CnfMAt.block {w w2 : World} {b : Nat} {R : CnfMR} (h : CnfMAt w b R) (he : w2.heap[b]? = w.heap[b]?) : CnfMAt w2 b R :=
  ⟨(cellB he _).trans h.parses, (cellB he _).trans h.prints, fun i => (frozB he _).trans (h.froz i)⟩
theorem CnfMAt.drew {w : World} {b : Nat} {R : CnfMR} (h : CnfMAt w b R) : CnfMAt w.drew b R := h.block rfl
theorem CnfMAt.drewN {w : World} {b n : Nat} {R : CnfMR} (h : CnfMAt w b R) : CnfMAt (w.drewN n) b R := h.block rfl
theorem CnfMAt.lt {w : World} {b : Nat} {R : CnfMR} (h : CnfMAt w b R) : b < w.heap.size := lt_of_cellB h.parses
theorem CnfMAt.alloc {w : World} {b : Nat} {R : CnfMR} (h : CnfMAt w b R) (o : Obj) : CnfMAt (w.alloc o) b R := h.block (Below.heap_alloc _ _ _ h.lt)
theorem CnfMAt.other {w : World} {b : Nat} {R : CnfMR} (h : CnfMAt w b R) {a : Addr} (hne : b ≠ a.block) (v : Value) : CnfMAt (w.setCell a v) b R := h.block (Below.heap_setCell _ _ _ _ hne)
theorem CnfMAt.fr {S : List Nat} {w w2 : World} {b : Nat} {R : CnfMR} (h : CnfMAt w b R) (hf : Fr S w w2) (hn : b ∉ S) : CnfMAt w2 b R := h.block (hf.block b h.lt hn)
theorem CnfMAt.set_parses {w : World} {b : Nat} {R : CnfMR} (h : CnfMAt w b R) (x : Int) : CnfMAt (w.setCell ⟨b, 0, none⟩ (.int .i64 x)) b { R with parses := x } := by
  exact ⟨cellSet h.parses, (cellNe (by omega)).trans h.prints, fun j => (World.frozen?_setCell _ _ _ _).trans (h.froz j)⟩
theorem CnfMAt.set_prints {w : World} {b : Nat} {R : CnfMR} (h : CnfMAt w b R) (x : Int) : CnfMAt (w.setCell ⟨b, 1, none⟩ (.int .i64 x)) b { R with prints := x } := by
  exact ⟨(cellNe (by omega)).trans h.parses, cellSet h.prints, fun j => (World.frozen?_setCell _ _ _ _).trans (h.froz j)⟩

end Go.Proofs.Qxb6500354aGreat
