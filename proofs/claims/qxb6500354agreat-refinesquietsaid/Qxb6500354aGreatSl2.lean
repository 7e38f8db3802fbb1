/- append, with the word on where the result lies; the solver's blocks. -/
import Derived.Test.Qxb6500354aGreatLrn7
import Derived.Maps.AppendAt
namespace Go.Proofs.Qxb6500354aGreat
open Go.RowKit
set_option linter.unusedVariables false
set_option linter.unusedSimpArgs false

theorem wp_app_at {ops : Array Oper} {rest : List Oper} {o : Oper} {a : Act} {Q : Exit → Act → World → Prop} {w : World} (hgd : o.guard = none) (s x : Operand)
    (ho : o.op = .call { callee := .builtin .append, args := #[s, x], argTypes := #[52, 52] }) (base : Nat)
    (v : Value) (l : List Int) (hs : a.eval s = v) (hown : OwnI w base v l) (u : Value) (m : List Int) (hx : a.eval x = u) (hm : Ints w u m)
    (hb : l.length + m.length ≤ 1099511627776) (hbase : base ≤ w.heap.size)
    (h : ∀ v' w', OwnI w' base v' (l ++ m) → w.grownBy w' v.ownBlock → (v' = .slice none 0 0 ↔ v = .slice none 0 0 ∧ m = []) → (v'.ownBlock = v.ownBlock ∨ v'.ownBlock = some w.heap.size) → wpList Tryz.prog ops Q rest (a.put o.dst v') w') :
    wpList Tryz.prog ops Q (o :: rest) a w := by
  obtain ⟨i0, hi, hz0, hz1, hz2⟩ := info_parts Tryz.info3
  have hfin : ∀ v' w', w'.ownsRow base 3 1 v' (l.length + m.length) (icells l ++ icells m) → OwnI w' base v' (l ++ m) := by
    intro v' w' h3
    unfold OwnI; rw [icells_append, List.length_append]; exact h3
  rcases hm with ⟨rfl, rfl⟩ | ⟨g, off, cap, rfl, h2⟩
  · refine wpList_append_own_none hgd s x 52 ho base 3 i0 1 Tryz.underlying52 hi v l.length (icells l) hs hown hx ?_
    have := h v w (by rw [List.append_nil]; exact hown) ⟨rfl, rfl, rfl, Nat.le_refl _, fun _ _ _ => rfl⟩ (by simp) (.inl rfl)
    exact this
  · refine wpList_append_own_at w hgd s x 52 ho base 3 i0 (.int .i64 0) 1 8 Tryz.underlying52 hi hz0 hz1 hz2 rfl (by decide) v l.length (icells l) hs hown ⟨g, off, none⟩ m.length cap (icells m) hx (by simp [icells_length]) ?_ (icells_one m) (by unfold maxLen; omega) (by omega) hbase ?_
    · intro j y hy
      have hj : j < m.length := by
        have := (List.getElem?_eq_some_iff.1 hy).1; rwa [icells_length] at this
      rw [addrAdd, h2 j hj, ← icells_get m j hj, hy]
    · intro v' w' h3 h4 h5 h6
      refine h v' w' (hfin _ _ h3) h4 ?_ h6
      rw [h5]
      constructor <;> rintro ⟨e1, e2⟩
      · exact ⟨e1, List.eq_nil_of_length_eq_zero e2⟩
      · exact ⟨e1, by rw [e2]; rfl⟩

/-- The block of a slice value. -/
def blk (v : Value) : List Nat := v.ownBlock.toList
theorem mem_blk {v : Value} {g : Nat} : g ∈ blk v ↔ v.ownBlock = some g := by unfold blk; simp
/-- The slice v' lies where v lies, or in a block that was not there. -/
def Nx (w : World) (v v' : Value) : Prop := ∀ g, v'.ownBlock = some g → v.ownBlock = some g ∨ w.heap.size ≤ g
theorem Nx.refl (w : World) (v : Value) : Nx w v v := fun _ h => .inl h
theorem Nx.trans {w w1 : World} {v v1 v2 : Value} (h : Nx w v v1) (k : Nx w1 v1 v2) (hs : w.heap.size ≤ w1.heap.size) : Nx w v v2 := by
  intro g hg
  rcases k g hg with e | e
  · exact h g e
  · exact .inr (by omega)
theorem Nx.of_at {w : World} {v v' : Value} (h : v'.ownBlock = v.ownBlock ∨ v'.ownBlock = some w.heap.size) : Nx w v v' := by
  intro g hg
  rcases h with e | e
  · left; rw [← e]; exact hg
  · right; rw [e] at hg; injection hg with hg; omega

/-- The blocks of a solver: the solver's, the parser's, the trail's, the store's, the learner's. -/
structure Eb where
  s : Nat
  p : Nat
  t : Nat
  w : Nat
  l : Nat
def Eb.all (E : Eb) : List Nat := [E.s, E.p, E.t, E.w, E.l]
def Eb.mid (E : Eb) : List Nat := [E.s, E.t, E.w, E.l]
def SlvR (E : Eb) (S : SolverS) (lo : Value) : SolverR :=
  { p := .pointer (some ⟨E.p, 0, none⟩), t := .pointer (some ⟨E.t, 0, none⟩), wp := .pointer (some ⟨E.w, 0, none⟩), l := .pointer (some ⟨E.l, 0, none⟩), log := lo,
    act := S.act, phase := S.phase, inc := S.inc, alive := S.alive, count := S.count, conflicts := S.conflicts, restarts := S.restarts, since := S.since }
structure SlvAt (w : World) (E : Eb) (S : SolverS) (lo : Value) : Prop where
  at_ : SolverAt w E.s (SlvR E S lo)
  own : OwnI w 0 lo S.log
  ok : S.alive < 2 ^ 16
  dj : ∀ g, lo.ownBlock = some g → g ∉ E.all
theorem SlvAt.drewN {w : World} {E : Eb} {S : SolverS} {lo : Value} {n : Nat} (h : SlvAt w E S lo) : SlvAt (w.drewN n) E S lo := ⟨h.at_.drewN, h.own.drewN, h.ok, h.dj⟩
theorem SlvAt.fr {w w2 : World} {E : Eb} {S : SolverS} {lo : Value} {D : List Nat} (h : SlvAt w E S lo) (hf : Fr D w w2) (hs : E.s ∉ D) (hl : ∀ g, lo.ownBlock = some g → g ∉ D) : SlvAt w2 E S lo :=
  ⟨h.at_.fr hf hs, h.own.fr hf hl, h.ok, h.dj⟩
theorem SlvAt.lt {w : World} {E : Eb} {S : SolverS} {lo : Value} (h : SlvAt w E S lo) : E.s < w.heap.size := h.at_.lt
theorem Nx.dj {w : World} {E : Eb} {lo lo' : Value} (h : Nx w lo lo') (hd : ∀ g, lo.ownBlock = some g → g ∉ E.all) (hE : ∀ g ∈ E.all, g < w.heap.size) : ∀ g, lo'.ownBlock = some g → g ∉ E.all := by
  intro g hg hm
  rcases h g hg with e | e
  · exact hd g e hm
  · have := hE g hm; omega
end Go.Proofs.Qxb6500354aGreat
