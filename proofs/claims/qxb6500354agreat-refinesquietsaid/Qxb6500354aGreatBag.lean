/- Bags of lists: append of many; the walk over towerlaw.take. -/
import Derived.Test.Qxb6500354aGreatTl
namespace Go.Proofs.Qxb6500354aGreat
open Go.RowKit
set_option linter.unusedVariables false
set_option linter.unusedSimpArgs false

/-- The slice value v reads as the lists cs; us: its cells; every one lies below the world's end. -/
def MatB (w : World) (v : Value) (us : List Value) (cs : List (List Int)) : Prop :=
  us.length = cs.length ∧ (∀ i, i < cs.length → Ints w (us.getD i (.bool false)) (cs.getD i []) ∧ (us.getD i (.bool false)).oneCell' = true ∧ ∀ g, (us.getD i (.bool false)).ownBlock = some g → g < w.heap.size) ∧
    ((v = .slice none 0 0 ∧ cs = []) ∨ ∃ g o cap, v = .slice (some ⟨g, o, none⟩) cs.length cap ∧ ∀ i, i < cs.length → w.cell? ⟨g, o + i, none⟩ = some (us.getD i (.bool false)))
theorem Ints.one {w : World} {u : Value} {l : List Int} (h : Ints w u l) : u.oneCell' = true := by
  obtain ⟨a, c, rfl⟩ := h.len; rfl
theorem OwnM.matB {w : World} {base : Nat} {v : Value} {cs : List (List Int)} {D : List Nat} (h : OwnM w base v cs D) : ∃ us, MatB w v us cs := by
  obtain ⟨us, h1, h2, h3⟩ := h
  refine ⟨us, h2.len, fun i hi => ⟨h2.it i hi, (h2.it i hi).one, fun g hg => (h2.ap i hi g hg).2⟩, ?_⟩
  rcases h1.2 with ⟨rfl, h0⟩ | ⟨g, cap, cur, rfl, hb, hg, hnc, hcm, hcs, ht⟩
  · exact .inl ⟨rfl, List.eq_nil_of_length_eq_zero h0⟩
  · refine .inr ⟨g, 0, cap, rfl, fun i hi => ?_⟩
    rw [Nat.zero_add, World.ownsRow.cellAt h1 i (by omega), List.getD_eq_getElem?_getD, List.getElem?_eq_getElem (by rw [h2.len]; exact hi)]; rfl
theorem MatB.fr0 {w w2 : World} {v : Value} {us : List Value} {cs : List (List Int)} (h : MatB w v us cs) (hf : Fr [] w w2) : MatB w2 v us cs := by
  obtain ⟨a, b, c⟩ := h
  refine ⟨a, fun i hi => ⟨(b i hi).1.fr hf (by simp), (b i hi).2.1, fun g hg => Nat.lt_of_lt_of_le ((b i hi).2.2 g hg) hf.size⟩, ?_⟩
  rcases c with c | ⟨g, o, cap, e, c⟩
  · exact .inl c
  · exact .inr ⟨g, o, cap, e, fun i hi => hf.cell (c i hi) (by simp)⟩
theorem MatB.len {w : World} {v : Value} {us : List Value} {cs : List (List Int)} (h : MatB w v us cs) : ∃ a cap, v = .slice a cs.length cap := by
  rcases h.2.2 with ⟨rfl, rfl⟩ | ⟨g, o, cap, rfl, _⟩
  · exact ⟨_, _, rfl⟩
  · exact ⟨_, _, rfl⟩
theorem MatB.at {w : World} {a : Option Addr} {n cap : Nat} {us : List Value} {cs : List (List Int)} (h : MatB w (.slice a n cap) us cs) (hl : cs.length = n) {k : Nat} (hk : k < n) :
    ∃ g o b m c, a = some ⟨g, o, none⟩ ∧ w.cell? ⟨g, o + k, none⟩ = some (.slice b m c) ∧ Ints w (.slice b m c) (cs.getD k []) ∧ ∀ g, (Value.slice b m c).ownBlock = some g → g < w.heap.size := by
  obtain ⟨h1, h2, h3⟩ := h
  rcases h3 with ⟨e, e2⟩ | ⟨g, o, cap2, e, h4⟩
  · rw [e2] at hl; simp at hl; omega
  · simp only [Value.slice.injEq] at e
    obtain ⟨rfl, _, _⟩ := e
    obtain ⟨p1, p2, p3⟩ := h2 k (by omega)
    obtain ⟨b, c, hb⟩ := p1.len
    have := h4 k (by omega)
    rw [hb] at this p1 p3
    exact ⟨g, o, b, _, c, rfl, this, p1, p3⟩
theorem Inn.app {w : World} {v : Value} {us : List Value} {cs : List (List Int)} (h : Inn w v us cs) : ∀ (us2 : List Value) (cs2 : List (List Int)), us2.length = cs2.length → (∀ i, i < cs2.length → Ints w (us2.getD i (.bool false)) (cs2.getD i []) ∧ ∀ g, (us2.getD i (.bool false)).ownBlock = some g → v.ownBlock ≠ some g ∧ g < w.heap.size) → Inn w v (us ++ us2) (cs ++ cs2) := by
  intro us2
  induction us2 generalizing us cs with
  | nil =>
    intro cs2 hl _
    have : cs2 = [] := List.eq_nil_of_length_eq_zero hl.symm
    subst this
    rw [List.append_nil, List.append_nil]; exact h
  | cons u us2 ih =>
    intro cs2 hl hi
    cases cs2 with
    | nil => simp at hl
    | cons c cs2 =>
      have h0 := hi 0 (by simp)
      simp only [List.getD_cons_zero] at h0
      have := ih (h.snoc h0.1 h0.2) cs2 (by simpa using hl) (fun i hi2 => by
        have := hi (i + 1) (by simp; omega)
        simpa only [List.getD_cons_succ] using this)
      simpa using this
/-- append of many lists onto owned ones. -/
theorem wp_appMs {ops : Array Oper} {rest : List Oper} {o : Oper} {a : Act} {Q : Exit → Act → World → Prop} {w : World} (hgd : o.guard = none) (s x : Operand)
    (ho : o.op = .call { callee := .builtin .append, args := #[s, x], argTypes := #[37, 37] }) (base : Nat)
    (v : Value) (cs : List (List Int)) (hs : a.eval s = v) (hown : OwnM w base v cs []) (u : Value) (us2 : List Value) (cs2 : List (List Int)) (hx : a.eval x = u) (hu : MatB w u us2 cs2)
    (hua : ∀ i, i < cs2.length → ∀ g, (us2.getD i (.bool false)).ownBlock = some g → v.ownBlock ≠ some g)
    (hb : cs.length + cs2.length ≤ 1000000000) (hbase : base ≤ w.heap.size)
    (h : ∀ v' w', OwnM w' base v' (cs ++ cs2) [] → w.grownBy w' v.ownBlock → (v'.ownBlock = v.ownBlock ∨ v'.ownBlock = some w.heap.size) → wpList Tryz.prog ops Q rest (a.put o.dst v') w') :
    wpList Tryz.prog ops Q (o :: rest) a w := by
  obtain ⟨i0, hi, hz0, hz1, hz2⟩ := info_parts Tryz.info52
  obtain ⟨us, h1, h2, h2a⟩ := hown
  obtain ⟨m1, m2, m3⟩ := hu
  rcases m3 with ⟨rfl, rfl⟩ | ⟨g, off, cap, rfl, m4⟩
  · refine wpList_append_own_none hgd s x 37 ho base 52 i0 1 Tryz.underlying37 hi v cs.length us hs h1 hx ?_
    exact h v w (by rw [List.append_nil]; exact ⟨us, h1, h2, h2a⟩) ⟨rfl, rfl, rfl, Nat.le_refl _, fun _ _ _ => rfl⟩ (.inl rfl)
  · refine wpList_append_own_at w hgd s x 37 ho base 52 i0 (.slice none 0 0) 1 24 Tryz.underlying37 hi hz0 hz1 hz2 rfl (by decide) v cs.length _ hs h1 ⟨g, off, none⟩ cs2.length cap us2 hx (by omega) ?_ ?_ (by unfold maxLen; omega) (by omega) hbase ?_
    · intro j y hy
      rw [addrAdd]
      have hj : j < us2.length := (List.getElem?_eq_some_iff.1 hy).1
      rw [m4 j (by omega), List.getD_eq_getElem?_getD, hy]; rfl
    · intro y hy
      obtain ⟨j, hj, rfl⟩ := List.getElem_of_mem hy
      have := (m2 j (by omega)).2.1
      rw [List.getD_eq_getElem?_getD, List.getElem?_eq_getElem hj] at this
      exact this
    · intro v' w' h3 h4 h5 h6
      have hf : Fr (blk v) w w' := (Fr.refl _ _).grown h4 (fun k hk _ => mem_blk.2 hk)
      have hv : v'.ownBlock = v.ownBlock ∨ ∃ b, v'.ownBlock = some b ∧ w.heap.size ≤ b := h6.imp (fun z => z) (fun z => ⟨_, z, Nat.le_refl _⟩)
      refine h v' w' ⟨us ++ us2, by rw [List.length_append]; exact h3, ?_, by simp, by simp⟩ h4 h6
      have h9 : Inn w v (us ++ us2) (cs ++ cs2) := h2.app us2 cs2 m1 (fun i hi2 => ⟨(m2 i hi2).1, fun g hg => ⟨hua i hi2 g hg, (m2 i hi2).2.2 g hg⟩⟩)
      have h8 : Inn w v' (us ++ us2) (cs ++ cs2) := h9.val hv
      exact h8.fr hf (fun i hi g hg hm => (h9.ap i hi g hg).1 (mem_blk.1 hm))
end Go.Proofs.Qxb6500354aGreat
