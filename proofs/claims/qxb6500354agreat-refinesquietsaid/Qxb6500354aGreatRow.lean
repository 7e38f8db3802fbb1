/- Owned slices of rows; the walk over api.Rows. -/
import Derived.Test.Qxb6500354aGreatClo
namespace Go.Proofs.Qxb6500354aGreat
open Go.RowKit
set_option linter.unusedVariables false
set_option linter.unusedSimpArgs false

theorem Tryz.info52 : (Tryz.prog.info? 52).map (fun i => (i.zero, i.size, i.bytes)) = some (some (.slice none 0 0), 1, 24) := by kernel_rfl
theorem Tryz.info131 : (Tryz.prog.info? 131).map (fun i => (i.zero, i.size, i.bytes)) = some (some (.agg #[.bool false, .slice none 0 0]), 2, 32) := by kernel_rfl

/-- The inner values us, read as the rows cs, apart from the block of v. -/
structure Inn (w : World) (v : Value) (us : List Value) (cs : List (List Int)) : Prop where
  len : us.length = cs.length
  it : ∀ i, i < cs.length → Ints w (us.getD i (.bool false)) (cs.getD i [])
  ap : ∀ i, i < cs.length → ∀ g, (us.getD i (.bool false)).ownBlock = some g → v.ownBlock ≠ some g ∧ g < w.heap.size
theorem Inn.fr {w w2 : World} {v : Value} {us : List Value} {cs : List (List Int)} {D : List Nat} (h : Inn w v us cs) (hf : Fr D w w2) (hd : ∀ i, i < cs.length → ∀ g, (us.getD i (.bool false)).ownBlock = some g → g ∉ D) : Inn w2 v us cs :=
  ⟨h.len, fun i hi => (h.it i hi).fr hf (hd i hi), fun i hi g hg => ⟨(h.ap i hi g hg).1, Nat.lt_of_lt_of_le (h.ap i hi g hg).2 hf.size⟩⟩
theorem Inn.val {w : World} {v v2 : Value} {us : List Value} {cs : List (List Int)} (h : Inn w v us cs) (hv : v2.ownBlock = v.ownBlock ∨ ∃ b, v2.ownBlock = some b ∧ w.heap.size ≤ b) : Inn w v2 us cs :=
  ⟨h.len, h.it, fun i hi g hg => ⟨fun e => by
    rcases hv with q | ⟨b, q, hb⟩
    · exact (h.ap i hi g hg).1 (q ▸ e)
    · rw [q] at e; injection e with e; have := (h.ap i hi g hg).2; omega, (h.ap i hi g hg).2⟩⟩
theorem Inn.nil (w : World) (v : Value) : Inn w v [] [] := ⟨rfl, by simp, by simp⟩
theorem Inn.snoc {w : World} {v : Value} {us : List Value} {cs : List (List Int)} (h : Inn w v us cs) {u : Value} {c : List Int} (hu : Ints w u c) (ha : ∀ g, u.ownBlock = some g → v.ownBlock ≠ some g ∧ g < w.heap.size) : Inn w v (us ++ [u]) (cs ++ [c]) := by
  have hl := h.len
  have hget : ∀ i, i < cs.length + 1 → ((us ++ [u]).getD i (.bool false) = us.getD i (.bool false) ∧ (cs ++ [c]).getD i [] = cs.getD i [] ∧ i < cs.length) ∨ (i = cs.length ∧ (us ++ [u]).getD i (.bool false) = u ∧ (cs ++ [c]).getD i [] = c) := by
    intro i hi
    by_cases e : i < cs.length
    · left
      simp only [List.getD_eq_getElem?_getD]
      rw [List.getElem?_append_left (by omega), List.getElem?_append_left e]
      exact ⟨rfl, rfl, e⟩
    · right
      have e2 : i = cs.length := by omega
      subst e2
      simp only [List.getD_eq_getElem?_getD]
      refine ⟨trivial, ?_, ?_⟩
      · rw [← hl]; simp
      · simp
  refine ⟨by simp [hl], fun i hi => ?_, fun i hi => ?_⟩
  · simp only [List.length_append, List.length_cons, List.length_nil] at hi
    rcases hget i hi with ⟨e1, e2, e3⟩ | ⟨e1, e2, e3⟩
    · rw [e1, e2]; exact h.it i e3
    · rw [e2, e3]; exact hu
  · simp only [List.length_append, List.length_cons, List.length_nil] at hi
    rcases hget i hi with ⟨e1, e2, e3⟩ | ⟨e1, e2, e3⟩
    · rw [e1]; exact h.ap i e3
    · rw [e2]; exact ha

/-- The cells of rows of a flat form. -/
def rcells : List Bool → List Value → List Value
  | d :: ds, u :: us => .bool d :: u :: rcells ds us
  | _, _ => []
theorem rcells_len : ∀ (ds : List Bool) (us : List Value), ds.length = us.length → (rcells ds us).length = ds.length * 2 := by
  intro ds
  induction ds with
  | nil => intro us _; rfl
  | cons d ds ih =>
    intro us h
    cases us with
    | nil => simp at h
    | cons u us => simp only [rcells, List.length_cons, ih us (by simpa using h)]; omega
theorem rcells_snoc : ∀ (ds : List Bool) (us : List Value) (d : Bool) (u : Value), ds.length = us.length → rcells (ds ++ [d]) (us ++ [u]) = rcells ds us ++ [.bool d, u] := by
  intro ds
  induction ds with
  | nil =>
    intro us d u h
    have : us = [] := List.eq_nil_of_length_eq_zero (by simpa using h.symm)
    subst this; rfl
  | cons x ds ih =>
    intro us d u h
    cases us with
    | nil => simp at h
    | cons y us => simp only [List.cons_append, rcells, ih us d u (by simpa using h)]
theorem rcells_get : ∀ (ds : List Bool) (us : List Value), ds.length = us.length → ∀ i, i < ds.length → (rcells ds us)[2 * i]? = some (.bool (ds.getD i false)) ∧ (rcells ds us)[2 * i + 1]? = some (us.getD i (.bool false)) := by
  intro ds
  induction ds with
  | nil => intro us _ i hi; simp at hi
  | cons d ds ih =>
    intro us h i hi
    cases us with
    | nil => simp at h
    | cons u us =>
      cases i with
      | zero => simp [rcells]
      | succ i =>
        have := ih us (by simpa using h) i (by simpa using hi)
        simp only [rcells, show 2 * (i + 1) = 2 * i + 1 + 1 from by omega, List.getElem?_cons_succ, List.getD_cons_succ]
        exact this
/-- D holds neither v's block nor an inner one. -/
def ApartM (v : Value) (us : List Value) (D : List Nat) : Prop := (∀ g, v.ownBlock = some g → g ∉ D) ∧ ∀ i, i < us.length → ∀ g, (us.getD i (.bool false)).ownBlock = some g → g ∉ D
/-- v owns the rows rs, apart from the blocks D. -/
def OwnR (w : World) (base : Nat) (v : Value) (rs : List (Bool × List Int)) (D : List Nat) : Prop :=
  ∃ us, w.ownsRow base 131 2 v rs.length (rcells (rs.map (·.1)) us) ∧ Inn w v us (rs.map (·.2)) ∧ ApartM v us D
/-- v owns the lists cs, apart from the blocks D. -/
def OwnM (w : World) (base : Nat) (v : Value) (cs : List (List Int)) (D : List Nat) : Prop :=
  ∃ us, w.ownsRow base 52 1 v cs.length us ∧ Inn w v us cs ∧ ApartM v us D
theorem ApartM.nil (D : List Nat) : ApartM (.slice none 0 0) [] D := ⟨by simp [Value.ownBlock], by simp⟩
theorem OwnR.nil (w : World) (base : Nat) (D : List Nat) : OwnR w base (.slice none 0 0) [] D := ⟨[], World.ownsRow_nil _ _ _ _, Inn.nil _ _, ApartM.nil D⟩
theorem OwnM.nil (w : World) (base : Nat) (D : List Nat) : OwnM w base (.slice none 0 0) [] D := ⟨[], World.ownsRow_nil _ _ _ _, Inn.nil _ _, ApartM.nil D⟩
theorem ApartM.mono {v : Value} {us : List Value} {D D2 : List Nat} (h : ApartM v us D) (hs : ∀ x, x ∈ D2 → x ∈ D) : ApartM v us D2 := ⟨fun g hg hm => h.1 g hg (hs g hm), fun i hi g hg hm => h.2 i hi g hg (hs g hm)⟩
theorem OwnR.mono {w : World} {base : Nat} {v : Value} {rs : List (Bool × List Int)} {D D2 : List Nat} (h : OwnR w base v rs D) (hs : ∀ x, x ∈ D2 → x ∈ D) : OwnR w base v rs D2 := let ⟨us, a, b, c⟩ := h; ⟨us, a, b, c.mono hs⟩
theorem OwnM.mono {w : World} {base : Nat} {v : Value} {cs : List (List Int)} {D D2 : List Nat} (h : OwnM w base v cs D) (hs : ∀ x, x ∈ D2 → x ∈ D) : OwnM w base v cs D2 := let ⟨us, a, b, c⟩ := h; ⟨us, a, b, c.mono hs⟩
/-- Blocks that were not there join D. -/
theorem OwnR.new {w : World} {base : Nat} {v : Value} {rs : List (Bool × List Int)} {D D2 : List Nat} (h : OwnR w base v rs D) (hs : ∀ x, x ∈ D2 → x ∈ D ∨ w.heap.size ≤ x) (hv : ∀ g, v.ownBlock = some g → g < w.heap.size) : OwnR w base v rs D2 := by
  obtain ⟨us, a, b, c⟩ := h
  refine ⟨us, a, b, fun g hg hm => ?_, fun i hi g hg hm => ?_⟩
  · rcases hs g hm with e | e
    · exact c.1 g hg e
    · have := hv g hg; omega
  · rcases hs g hm with e | e
    · exact c.2 i hi g hg e
    · have := (b.ap i (by rw [← b.len]; exact hi) g hg).2; omega
theorem OwnM.new {w : World} {base : Nat} {v : Value} {cs : List (List Int)} {D D2 : List Nat} (h : OwnM w base v cs D) (hs : ∀ x, x ∈ D2 → x ∈ D ∨ w.heap.size ≤ x) (hv : ∀ g, v.ownBlock = some g → g < w.heap.size) : OwnM w base v cs D2 := by
  obtain ⟨us, a, b, c⟩ := h
  refine ⟨us, a, b, fun g hg hm => ?_, fun i hi g hg hm => ?_⟩
  · rcases hs g hm with e | e
    · exact c.1 g hg e
    · have := hv g hg; omega
  · rcases hs g hm with e | e
    · exact c.2 i hi g hg e
    · have := (b.ap i (by rw [← b.len]; exact hi) g hg).2; omega
theorem owns_block {w w2 : World} {base e sz n : Nat} {v : Value} {xs : List Value} (h : w.ownsRow base e sz v n xs) (he : ∀ g, v.ownBlock = some g → w2.heap[g]? = w.heap[g]?) : w2.ownsRow base e sz v n xs := by
  refine ⟨h.1, ?_⟩
  rcases h.2 with h2 | ⟨g, cap, cur, rfl, hb, hg, r⟩
  · exact .inl h2
  · exact .inr ⟨g, cap, cur, rfl, hb, (he g rfl).trans hg, r⟩
theorem owns_lt {w : World} {base e sz n : Nat} {v : Value} {xs : List Value} (h : w.ownsRow base e sz v n xs) : ∀ g, v.ownBlock = some g → base ≤ g ∧ g < w.heap.size := by
  intro g hg
  rcases h.2 with ⟨rfl, _⟩ | ⟨g2, cap, cur, rfl, hb, hh, _⟩
  · simp [Value.ownBlock] at hg
  · simp [Value.ownBlock] at hg; subst hg
    exact ⟨hb, (Array.getElem?_eq_some_iff.1 hh).1⟩
theorem owns_fr {w w2 : World} {base e sz n : Nat} {v : Value} {xs : List Value} {D : List Nat} (h : w.ownsRow base e sz v n xs) (hf : Fr D w w2) (hd : ∀ g, v.ownBlock = some g → g ∉ D) : w2.ownsRow base e sz v n xs :=
  owns_block h fun g hg => hf.block g (owns_lt h g hg).2 (hd g hg)
theorem owns_shape {w : World} {base e sz n : Nat} {v : Value} {xs : List Value} (h : w.ownsRow base e sz v n xs) : (v = .slice none 0 0 ∧ n = 0) ∨ ∃ g cap, v = .slice (some ⟨g, 0, none⟩) n cap := by
  rcases h.2 with h2 | ⟨g, cap, cur, rfl, _⟩
  · exact .inl h2
  · exact .inr ⟨g, cap, rfl⟩
theorem OwnR.lt {w : World} {base : Nat} {v : Value} {rs : List (Bool × List Int)} {D : List Nat} (h : OwnR w base v rs D) : ∀ g, v.ownBlock = some g → g < w.heap.size := let ⟨_, a, _⟩ := h; fun g hg => (owns_lt a g hg).2
theorem OwnM.lt {w : World} {base : Nat} {v : Value} {cs : List (List Int)} {D : List Nat} (h : OwnM w base v cs D) : ∀ g, v.ownBlock = some g → g < w.heap.size := let ⟨_, a, _⟩ := h; fun g hg => (owns_lt a g hg).2
theorem OwnR.fr {w w2 : World} {base : Nat} {v : Value} {rs : List (Bool × List Int)} {D D2 : List Nat} (h : OwnR w base v rs D) (hf : Fr D2 w w2) (hs : ∀ x, x ∈ D2 → x ∈ D ∨ w.heap.size ≤ x) : OwnR w2 base v rs D := by
  have hlt := h.lt
  have h2 := h.new hs hlt
  obtain ⟨us, a, b, c⟩ := h
  refine ⟨us, owns_fr a hf (fun g hg hm => ?_), b.fr hf (fun i hi g hg hm => ?_), c⟩
  · rcases hs g hm with e | e
    · exact c.1 g hg e
    · have := hlt g hg; omega
  · rcases hs g hm with e | e
    · exact c.2 i (by rw [b.len]; exact hi) g hg e
    · have := (b.ap i hi g hg).2; omega
theorem OwnM.fr {w w2 : World} {base : Nat} {v : Value} {cs : List (List Int)} {D D2 : List Nat} (h : OwnM w base v cs D) (hf : Fr D2 w w2) (hs : ∀ x, x ∈ D2 → x ∈ D ∨ w.heap.size ≤ x) : OwnM w2 base v cs D := by
  have hlt := h.lt
  obtain ⟨us, a, b, c⟩ := h
  refine ⟨us, owns_fr a hf (fun g hg hm => ?_), b.fr hf (fun i hi g hg hm => ?_), c⟩
  · rcases hs g hm with e | e
    · exact c.1 g hg e
    · have := hlt g hg; omega
  · rcases hs g hm with e | e
    · exact c.2 i (by rw [b.len]; exact hi) g hg e
    · have := (b.ap i hi g hg).2; omega
theorem ApartM.snoc {w : World} {v v2 u : Value} {us : List Value} {D : List Nat} (h : ApartM v us D) (hv : v2.ownBlock = v.ownBlock ∨ ∃ b, v2.ownBlock = some b ∧ w.heap.size ≤ b) (hD : ∀ g ∈ D, g < w.heap.size) (hu : ∀ g, u.ownBlock = some g → g ∉ D) : ApartM v2 (us ++ [u]) D := by
  refine ⟨fun g hg hm => ?_, fun i hi g hg hm => ?_⟩
  · rcases hv with q | ⟨b, q, hb⟩
    · exact h.1 g (q ▸ hg) hm
    · rw [q] at hg; injection hg with hg; have := hD g hm; omega
  · simp only [List.length_append, List.length_cons, List.length_nil] at hi
    by_cases e : i < us.length
    · have : (us ++ [u]).getD i (.bool false) = us.getD i (.bool false) := by simp only [List.getD_eq_getElem?_getD]; rw [List.getElem?_append_left e]
      rw [this] at hg; exact h.2 i e g hg hm
    · have e2 : i = us.length := by omega
      subst e2
      have : (us ++ [u]).getD us.length (.bool false) = u := by simp [List.getD_eq_getElem?_getD]
      rw [this] at hg; exact hu g hg hm
theorem OwnM.mat {w : World} {base : Nat} {v : Value} {cs : List (List Int)} {D : List Nat} (h : OwnM w base v cs D) : Mat w v cs := by
  obtain ⟨us, h1, h2, _⟩ := h
  rcases h1.2 with ⟨rfl, h0⟩ | ⟨g, cap, cur, rfl, hb, hg, hnc, hcm, hcs, ht⟩
  · exact .inl ⟨rfl, List.eq_nil_of_length_eq_zero h0⟩
  · refine .inr ⟨g, 0, cap, rfl, fun i hi => ⟨us.getD i (.bool false), ?_, h2.it i hi⟩⟩
    rw [Nat.zero_add, World.ownsRow.cellAt h1 i (by omega), List.getD_eq_getElem?_getD, List.getElem?_eq_getElem (by rw [h2.len]; exact hi)]; rfl
/-- The slice value v reads as the rows rs of a flat form. -/
def RowsV (w : World) (v : Value) (rs : List (Bool × List Int)) : Prop :=
  (v = .slice none 0 0 ∧ rs = []) ∨ ∃ g o cap, v = .slice (some ⟨g, o, none⟩) rs.length cap ∧ ∀ i, i < rs.length →
    w.cell? ⟨g, o + 2 * i, none⟩ = some (.bool (rs.getD i (false, [])).1) ∧ ∃ u, w.cell? ⟨g, o + 2 * i + 1, none⟩ = some u ∧ Ints w u (rs.getD i (false, [])).2 ∧ ∀ g, u.ownBlock = some g → g < w.heap.size
theorem RowsV.fr0 {w w2 : World} {v : Value} {rs : List (Bool × List Int)} (h : RowsV w v rs) (hf : Fr [] w w2) : RowsV w2 v rs := by
  rcases h with h | ⟨g, o, cap, rfl, h2⟩
  · exact .inl h
  · refine .inr ⟨g, o, cap, rfl, fun i hi => ?_⟩
    obtain ⟨a, u, b, c, d⟩ := h2 i hi
    exact ⟨hf.cell a (by simp), u, hf.cell b (by simp), c.fr hf (by simp), fun g hg => Nat.lt_of_lt_of_le (d g hg) hf.size⟩
theorem OwnR.rows {w : World} {base : Nat} {v : Value} {rs : List (Bool × List Int)} {D : List Nat} (h : OwnR w base v rs D) : RowsV w v rs := by
  obtain ⟨us, h1, h2, _⟩ := h
  have hlen : (rs.map (·.1)).length = us.length := by rw [h2.len]; simp
  rcases h1.2 with ⟨rfl, h0⟩ | ⟨g, cap, cur, rfl, hb, hg, hnc, hcm, hcs, ht⟩
  · exact .inl ⟨rfl, List.eq_nil_of_length_eq_zero h0⟩
  · refine .inr ⟨g, 0, cap, rfl, fun i hi => ?_⟩
    have hi1 : i < (rs.map (·.1)).length := by simpa using hi
    have hi2 : i < (rs.map (·.2)).length := by simpa using hi
    obtain ⟨e1, e2⟩ := rcells_get _ us hlen i hi1
    rw [Nat.zero_add]
    refine ⟨?_, us.getD i (.bool false), ?_, ?_, fun g hg => (h2.ap i hi2 g hg).2⟩
    · rw [World.ownsRow.cellAt h1 (2 * i) (by omega), e1]
      simp [List.getD_eq_getElem?_getD, List.getElem?_map, List.getElem?_eq_getElem hi]
    · rw [World.ownsRow.cellAt h1 (2 * i + 1) (by omega), e2]
    · have := h2.it i hi2
      have e : (rs.map (·.2)).getD i [] = (rs.getD i (false, [])).2 := by simp [List.getD_eq_getElem?_getD, List.getElem?_map, List.getElem?_eq_getElem hi]
      rw [e] at this; exact this

/-- append of one row onto owned rows. -/
theorem wp_appR {ops : Array Oper} {rest : List Oper} {o : Oper} {a : Act} {Q : Exit → Act → World → Prop} {w : World} (hgd : o.guard = none) (s x : Operand)
    (ho : o.op = .call { callee := .builtin .append, args := #[s, x], argTypes := #[88, 88] }) (base : Nat)
    (v : Value) (rs : List (Bool × List Int)) (hs : a.eval s = v) {D : List Nat} (hown : OwnR w base v rs D) (hDs : ∀ g ∈ D, g < w.heap.size) (N c : Nat) (d : Bool) (u : Value) (l : List Int) (hx : a.eval x = .slice (some ⟨N, 0, none⟩) 1 c)
    (hc0 : w.cell? ⟨N, 0, none⟩ = some (.bool d)) (hc1 : w.cell? ⟨N, 1, none⟩ = some u) (hone : u.oneCell' = true) (hu : Ints w u l) (hua : ∀ g, u.ownBlock = some g → v.ownBlock ≠ some g ∧ g < w.heap.size) (huD : ∀ g, u.ownBlock = some g → g ∉ D)
    (hb : rs.length ≤ 1000000000) (hbase : base ≤ w.heap.size)
    (h : ∀ v' w', OwnR w' base v' (rs ++ [(d, l)]) D → w.grownBy w' v.ownBlock → (v'.ownBlock = v.ownBlock ∨ v'.ownBlock = some w.heap.size) → wpList Tryz.prog ops Q rest (a.put o.dst v') w') :
    wpList Tryz.prog ops Q (o :: rest) a w := by
  obtain ⟨i0, hi, hz0, hz1, hz2⟩ := info_parts Tryz.info131
  obtain ⟨us, h1, h2, h2a⟩ := hown
  have hlen : (rs.map (·.1)).length = us.length := by rw [h2.len]; simp
  refine wpList_append_own_at w hgd s x 88 ho base 131 i0 (.agg #[.bool false, .slice none 0 0]) 2 32 Tryz.underlying88 hi hz0 hz1 hz2 rfl (by decide) v rs.length _ hs h1 ⟨N, 0, none⟩ 1 c [.bool d, u] hx (by simp) ?_ ?_ (by unfold maxLen; omega) (by omega) hbase ?_
  · intro j y hy
    rw [addrAdd]
    rcases (by have := (List.getElem?_eq_some_iff.1 hy).1; simp at this; omega : j = 0 ∨ j = 1) with e | e <;> subst e
    · rw [Nat.zero_add, hc0]; exact hy
    · rw [Nat.zero_add, hc1]; exact hy
  · intro y hy
    rcases List.mem_cons.1 hy with e | e
    · subst e; rfl
    · simp at e; subst e; exact hone
  · intro v' w' h3 h4 h5 h6
    have hf : Fr (blk v) w w' := (Fr.refl _ _).grown h4 (fun k hk _ => mem_blk.2 hk)
    refine h v' w' ⟨us ++ [u], ?_, ?_, h2a.snoc (w := w) (h6.imp (fun z => z) (fun z => ⟨_, z, Nat.le_refl _⟩)) hDs huD⟩ h4 h6
    · rw [List.map_append, show List.map (fun x : Bool × List Int => x.1) [(d, l)] = [d] from rfl, rcells_snoc _ _ _ _ hlen, List.length_append]
      exact h3
    · rw [List.map_append]
      have hv : v'.ownBlock = v.ownBlock ∨ ∃ b, v'.ownBlock = some b ∧ w.heap.size ≤ b := h6.imp (fun z => z) (fun z => ⟨_, z, Nat.le_refl _⟩)
      have h7 := (h2.val hv)
      have h8 : Inn w v' (us ++ [u]) ((rs.map (·.2)) ++ [l]) := h7.snoc hu (fun g hg => ⟨fun e => by
        rcases hv with q | ⟨b, q, hb2⟩
        · exact (hua g hg).1 (q ▸ e)
        · rw [q] at e; injection e with e; have := (hua g hg).2; omega, (hua g hg).2⟩)
      refine h8.fr hf (fun i hi g hg hm => ?_)
      have hm2 := mem_blk.1 hm
      -- the inner block is not v's
      have h9 : Inn w v (us ++ [u]) ((rs.map (·.2)) ++ [l]) := h2.snoc hu hua
      exact (h9.ap i hi g hg).1 hm2
/-- append of one list onto owned lists. -/
theorem wp_appM {ops : Array Oper} {rest : List Oper} {o : Oper} {a : Act} {Q : Exit → Act → World → Prop} {w : World} (hgd : o.guard = none) (s x : Operand)
    (ho : o.op = .call { callee := .builtin .append, args := #[s, x], argTypes := #[37, 37] }) (base : Nat)
    (v : Value) (cs : List (List Int)) (hs : a.eval s = v) {D : List Nat} (hown : OwnM w base v cs D) (hDs : ∀ g ∈ D, g < w.heap.size) (N c : Nat) (u : Value) (l : List Int) (hx : a.eval x = .slice (some ⟨N, 0, none⟩) 1 c)
    (hc0 : w.cell? ⟨N, 0, none⟩ = some u) (hone : u.oneCell' = true) (hu : Ints w u l) (hua : ∀ g, u.ownBlock = some g → v.ownBlock ≠ some g ∧ g < w.heap.size) (huD : ∀ g, u.ownBlock = some g → g ∉ D)
    (hb : cs.length ≤ 1000000000) (hbase : base ≤ w.heap.size)
    (h : ∀ v' w', OwnM w' base v' (cs ++ [l]) D → w.grownBy w' v.ownBlock → (v'.ownBlock = v.ownBlock ∨ v'.ownBlock = some w.heap.size) → wpList Tryz.prog ops Q rest (a.put o.dst v') w') :
    wpList Tryz.prog ops Q (o :: rest) a w := by
  obtain ⟨i0, hi, hz0, hz1, hz2⟩ := info_parts Tryz.info52
  obtain ⟨us, h1, h2, h2a⟩ := hown
  refine wpList_append_own_at w hgd s x 37 ho base 52 i0 (.slice none 0 0) 1 24 Tryz.underlying37 hi hz0 hz1 hz2 rfl (by decide) v cs.length _ hs h1 ⟨N, 0, none⟩ 1 c [u] hx (by simp) ?_ ?_ (by unfold maxLen; omega) (by omega) hbase ?_
  · intro j y hy
    rw [addrAdd]
    have e : j = 0 := by have := (List.getElem?_eq_some_iff.1 hy).1; simp at this; omega
    subst e
    rw [Nat.zero_add, hc0]; exact hy
  · intro y hy
    simp at hy; subst hy; exact hone
  · intro v' w' h3 h4 h5 h6
    have hf : Fr (blk v) w w' := (Fr.refl _ _).grown h4 (fun k hk _ => mem_blk.2 hk)
    refine h v' w' ⟨us ++ [u], ?_, ?_, h2a.snoc (w := w) (h6.imp (fun z => z) (fun z => ⟨_, z, Nat.le_refl _⟩)) hDs huD⟩ h4 h6
    · rw [List.length_append]; exact h3
    · have hv : v'.ownBlock = v.ownBlock ∨ ∃ b, v'.ownBlock = some b ∧ w.heap.size ≤ b := h6.imp (fun z => z) (fun z => ⟨_, z, Nat.le_refl _⟩)
      have h7 := (h2.val hv)
      have h8 : Inn w v' (us ++ [u]) (cs ++ [l]) := h7.snoc hu (fun g hg => ⟨fun e => by
        rcases hv with q | ⟨b, q, hb2⟩
        · exact (hua g hg).1 (q ▸ e)
        · rw [q] at e; injection e with e; have := (hua g hg).2; omega, (hua g hg).2⟩)
      refine h8.fr hf (fun i hi g hg hm => ?_)
      have hm2 := mem_blk.1 hm
      have h9 : Inn w v (us ++ [u]) (cs ++ [l]) := h2.snoc hu hua
      exact (h9.ap i hi g hg).1 hm2
end Go.Proofs.Qxb6500354aGreat
