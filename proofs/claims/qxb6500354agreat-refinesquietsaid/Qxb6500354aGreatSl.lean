/- Slices of ints: read, owned; append, make, copy over them. -/
import Derived.Test.Qxb6500354aGreatBits
import Derived.Laws.AppendOwnNone
import Derived.Laws.CopyOwn
import Derived.Deep.LoopGhost
namespace Go.Proofs.Qxb6500354aGreat
open Go.RowKit
set_option linter.unusedVariables false
set_option linter.unusedSimpArgs false

theorem Tryz.info3 : (Tryz.prog.info? 3).map (fun i => (i.zero, i.size, i.bytes)) = some (some (.int .i64 0), 1, 8) := by kernel_rfl
theorem Tryz.size3 : (Tryz.prog.info? 3).map (·.size) = some 1 := by kernel_rfl

/-- The numbers as cells. -/
def icells (l : List Int) : List Value := l.map (Value.int .i64)
theorem icells_length (l : List Int) : (icells l).length = l.length := by simp [icells]
theorem icells_append (l m : List Int) : icells (l ++ m) = icells l ++ icells m := by simp [icells]
theorem icells_get (l : List Int) (i : Nat) (h : i < l.length) : (icells l)[i]? = some (.int .i64 (l.getD i 0)) := by
  simp [icells, List.getD_eq_getElem?_getD, List.getElem?_eq_getElem h]
theorem icells_one (l : List Int) : ∀ u ∈ icells l, u.oneCell' = true := by
  intro u hu; obtain ⟨x, _, rfl⟩ := List.mem_map.1 hu; rfl

/-- The slice value v holds the numbers l. -/
def Ints (w : World) (v : Value) (l : List Int) : Prop :=
  (v = .slice none 0 0 ∧ l = []) ∨ ∃ g o cap, v = .slice (some ⟨g, o, none⟩) l.length cap ∧ ∀ i, i < l.length → w.cell? ⟨g, o + i, none⟩ = some (.int .i64 (l.getD i 0))
/-- The slice value v, one of the blocks from base on, owns the numbers l. -/
def OwnI (w : World) (base : Nat) (v : Value) (l : List Int) : Prop := w.ownsRow base 3 1 v l.length (icells l)

theorem OwnI.nil (w : World) (base : Nat) : OwnI w base (.slice none 0 0) [] := World.ownsRow_nil _ _ _ _
theorem OwnI.ints {w : World} {base : Nat} {v : Value} {l : List Int} (h : OwnI w base v l) : Ints w v l := by
  rcases h.2 with ⟨rfl, h0⟩ | ⟨g, cap, cur, rfl, hb, hg, hnc, hcm, hcs, ht⟩
  · exact .inl ⟨rfl, List.eq_nil_of_length_eq_zero h0⟩
  · refine .inr ⟨g, 0, cap, rfl, fun i hi => ?_⟩
    rw [Nat.zero_add, World.ownsRow.cellAt h i (by omega)]
    exact icells_get l i hi
theorem OwnI.shape {w : World} {base : Nat} {v : Value} {l : List Int} (h : OwnI w base v l) :
    (v = .slice none 0 0 ∧ l = []) ∨ ∃ g cap, v = .slice (some ⟨g, 0, none⟩) l.length cap ∧ base ≤ g ∧ g < w.heap.size := by
  rcases h.2 with ⟨rfl, h0⟩ | ⟨g, cap, cur, rfl, hb, hg, _⟩
  · exact .inl ⟨rfl, List.eq_nil_of_length_eq_zero h0⟩
  · exact .inr ⟨g, cap, rfl, hb, (Array.getElem?_eq_some_iff.1 hg).1⟩
theorem OwnI.alloc {w : World} {base : Nat} {v : Value} {l : List Int} (h : OwnI w base v l) (o : Obj) : OwnI (w.alloc o) base v l := World.ownsRow.alloc h o
theorem OwnI.block {w w2 : World} {base : Nat} {v : Value} {l : List Int} (h : OwnI w base v l) (he : ∀ g, v.ownBlock = some g → w2.heap[g]? = w.heap[g]?) : OwnI w2 base v l := by
  refine ⟨h.1, ?_⟩
  rcases h.2 with h2 | ⟨g, cap, cur, rfl, hb, hg, r⟩
  · exact .inl h2
  · exact .inr ⟨g, cap, cur, rfl, hb, (he g rfl).trans hg, r⟩
theorem OwnI.drew {w : World} {base : Nat} {v : Value} {l : List Int} (h : OwnI w base v l) : OwnI w.drew base v l := h.block fun _ _ => rfl
theorem OwnI.drewN {w : World} {base n : Nat} {v : Value} {l : List Int} (h : OwnI w base v l) : OwnI (w.drewN n) base v l := h.block fun _ _ => rfl
theorem OwnI.mono {w : World} {base base2 : Nat} {v : Value} {l : List Int} (h : OwnI w base v l) (hb : base2 ≤ base) : OwnI w base2 v l := by
  refine ⟨h.1, ?_⟩
  rcases h.2 with h2 | ⟨g, cap, cur, rfl, hb2, hg, r⟩
  · exact .inl h2
  · exact .inr ⟨g, cap, cur, rfl, Nat.le_trans hb hb2, hg, r⟩
theorem OwnI.fr {S : List Nat} {w w2 : World} {base : Nat} {v : Value} {l : List Int} (h : OwnI w base v l) (hf : Fr S w w2) (hn : ∀ g, v.ownBlock = some g → g ∉ S) : OwnI w2 base v l := by
  refine h.block fun g hg => ?_
  rcases h.shape with ⟨rfl, _⟩ | ⟨g2, cap, rfl, _, hlt⟩
  · simp [Value.ownBlock] at hg
  · simp [Value.ownBlock] at hg; subst hg
    exact hf.block _ hlt (hn _ rfl)
theorem Ints.block {w w2 : World} {v : Value} {l : List Int} (h : Ints w v l) (hf : ∀ b o x, w.cell? ⟨b, o, none⟩ = some x → v.ownBlock = some b → w2.cell? ⟨b, o, none⟩ = some x) : Ints w2 v l := by
  rcases h with ⟨rfl, rfl⟩ | ⟨g, o, cap, rfl, h2⟩
  · exact .inl ⟨rfl, rfl⟩
  · exact .inr ⟨g, o, cap, rfl, fun i hi => hf _ _ _ (h2 i hi) rfl⟩
theorem Ints.fr {S : List Nat} {w w2 : World} {v : Value} {l : List Int} (h : Ints w v l) (hf : Fr S w w2) (hn : ∀ g, v.ownBlock = some g → g ∉ S) : Ints w2 v l :=
  h.block fun b o x hc hb => hf.cell hc (hn b hb)
theorem Ints.len {w : World} {v : Value} {l : List Int} (h : Ints w v l) : ∃ a cap, v = .slice a l.length cap := by
  rcases h with ⟨rfl, rfl⟩ | ⟨g, o, cap, rfl, h2⟩
  · exact ⟨none, 0, rfl⟩
  · exact ⟨_, cap, rfl⟩
theorem Ints.alloc {w : World} {v : Value} {l : List Int} (h : Ints w v l) (o : Obj) : Ints (w.alloc o) v l :=
  h.fr ((Fr.refl [] w).alloc o) (by simp)
theorem addrAdd (g o j : Nat) : (⟨g, o, none⟩ : Addr).add j = ⟨g, o + j, none⟩ := by
  unfold Addr.add; split
  · rename_i h; subst h; rfl
  · rfl

/-- append of ints onto an owned slice, whatever the source. -/
theorem wp_app {ops : Array Oper} {rest : List Oper} {o : Oper} {a : Act} {Q : Exit → Act → World → Prop} {w : World} (hgd : o.guard = none) (s x : Operand)
    (ho : o.op = .call { callee := .builtin .append, args := #[s, x], argTypes := #[52, 52] }) (base : Nat)
    (v : Value) (l : List Int) (hs : a.eval s = v) (hown : OwnI w base v l) (u : Value) (m : List Int) (hx : a.eval x = u) (hm : Ints w u m)
    (hb : l.length + m.length ≤ 1099511627776) (hbase : base ≤ w.heap.size)
    (h : ∀ v' w', OwnI w' base v' (l ++ m) → w.grownBy w' v.ownBlock → (v' = .slice none 0 0 ↔ v = .slice none 0 0 ∧ m = []) → wpList Tryz.prog ops Q rest (a.put o.dst v') w') :
    wpList Tryz.prog ops Q (o :: rest) a w := by
  obtain ⟨i0, hi, hz0, hz1, hz2⟩ := info_parts Tryz.info3
  have hfin : ∀ v' w', w'.ownsRow base 3 1 v' (l.length + m.length) (icells l ++ icells m) → OwnI w' base v' (l ++ m) := by
    intro v' w' h3
    unfold OwnI; rw [icells_append, List.length_append]; exact h3
  rcases hm with ⟨rfl, rfl⟩ | ⟨g, off, cap, rfl, h2⟩
  · refine wpList_append_own_none hgd s x 52 ho base 3 i0 1 Tryz.underlying52 hi v l.length (icells l) hs hown hx ?_
    have := h v w (by rw [List.append_nil]; exact hown) ⟨rfl, rfl, rfl, Nat.le_refl _, fun _ _ _ => rfl⟩ (by simp)
    exact this
  · refine wpList_append_own w hgd s x 52 ho base 3 i0 (.int .i64 0) 1 8 Tryz.underlying52 hi hz0 hz1 hz2 rfl (by decide) v l.length (icells l) hs hown ⟨g, off, none⟩ m.length cap (icells m) hx (by simp [icells_length]) ?_ (icells_one m) (by unfold maxLen; omega) (by omega) hbase ?_
    · intro j y hy
      have hj : j < m.length := by
        have := (List.getElem?_eq_some_iff.1 hy).1; rwa [icells_length] at this
      rw [addrAdd, h2 j hj, ← icells_get m j hj, hy]
    · intro v' w' h3 h4 h5
      refine h v' w' (hfin _ _ h3) h4 ?_
      rw [h5]
      constructor <;> rintro ⟨e1, e2⟩
      · exact ⟨e1, List.eq_nil_of_length_eq_zero e2⟩
      · exact ⟨e1, by rw [e2]; rfl⟩

theorem made_icells (n : Nat) : (madeCells (Value.int .i64 0).cells (n * 1)).toList = icells (List.replicate n 0) := by
  simp only [madeCells, Value.cells, Nat.mul_one]
  apply List.ext_getElem
  · simp [icells]
  · intro i h1 h2
    simp [icells, Nat.mod_one]
/-- make of n ints. -/
theorem wp_mk {ops : Array Oper} {rest : List Oper} {o : Oper} {a : Act} {Q : Exit → Act → World → Prop} {w : World} (hgd : o.guard = none) (l c : Operand) (hop : o.op = Op.makeSlice 52 l c)
    (L C : Int) (n : Nat) (hl : a.eval l = .int .i64 L) (hc : a.eval c = .int .i64 C) (hL : L = (n : Int)) (hC : C = (n : Int)) (hb : n ≤ 1099511627776)
    (h : ∀ w', OwnI w' w.heap.size (.slice (some ⟨w.heap.size, 0, none⟩) n n) (List.replicate n 0) → w.grownBy w' none → wpList Tryz.prog ops Q rest (a.put o.dst (.slice (some ⟨w.heap.size, 0, none⟩) n n)) w') :
    wpList Tryz.prog ops Q (o :: rest) a w := by
  obtain ⟨i0, hi, hz0, hz1, hz2⟩ := info_parts Tryz.info3
  refine wpList_make_full w hgd l c 52 hop w.heap.size 3 i0 (.int .i64 0) 1 Tryz.underlying52 hi hz0 hz1 .i64 .i64 L C n hl hc hL hC (by rw [hz2]; omega) (by unfold maxLen; omega) (Nat.le_refl _) ?_
  intro w' h1 h2
  refine h w' ?_ h2
  unfold OwnI
  rw [made_icells] at h1
  simpa using h1
/-- make of no ints, room for n. -/
theorem wp_mk0 {ops : Array Oper} {rest : List Oper} {o : Oper} {a : Act} {Q : Exit → Act → World → Prop} {w : World} (hgd : o.guard = none) (l c : Operand) (hop : o.op = Op.makeSlice 52 l c)
    (C : Int) (n : Nat) (hl : a.eval l = .int .i64 0) (hc : a.eval c = .int .i64 C) (hC : C = (n : Int)) (hb : n ≤ 1099511627776)
    (h : ∀ w', OwnI w' w.heap.size (.slice (some ⟨w.heap.size, 0, none⟩) 0 n) [] → w.grownBy w' none → wpList Tryz.prog ops Q rest (a.put o.dst (.slice (some ⟨w.heap.size, 0, none⟩) 0 n)) w') :
    wpList Tryz.prog ops Q (o :: rest) a w := by
  obtain ⟨i0, hi, hz0, hz1, hz2⟩ := info_parts Tryz.info3
  exact wpList_make_own w hgd l c 52 hop w.heap.size 3 i0 (.int .i64 0) 1 Tryz.underlying52 hi hz0 hz1 .i64 .i64 C n hl hc hC (by rw [hz2]; omega) (by unfold maxLen; omega) (Nat.le_refl _) h
/-- A guard: the next operation is a copy. -/
theorem gd_copy {P : Program} {ops : Array Oper} {rest : List Oper} {o : Oper} {a : Act} {Q : Exit → Act → World → Prop} {w : World} {d s : Operand} {dT sT : TypeId}
    (ho : o.op = .call { callee := .builtin .copy, args := #[d, s], argTypes := #[dT, sT] }) (h : wpList P ops Q (o :: rest) a w) : wpList P ops Q (o :: rest) a w := h
/-- copy of a whole list over an owned one of its length. -/
theorem wp_copy {ops : Array Oper} {rest : List Oper} {o : Oper} {a : Act} {Q : Exit → Act → World → Prop} {w : World} (hgd : o.guard = none) (d s : Operand)
    (ho : o.op = .call { callee := .builtin .copy, args := #[d, s], argTypes := #[52, 52] }) (base g cap n : Nat) (l m : List Int) (hd : a.eval d = .slice (some ⟨g, 0, none⟩) n cap)
    (hown : OwnI w base (.slice (some ⟨g, 0, none⟩) n cap) l) (hln : l.length = n) (u : Value) (hs : a.eval s = u) (hm : Ints w u m) (hmn : m.length = n)
    (h : ∀ w', OwnI w' base (.slice (some ⟨g, 0, none⟩) n cap) m → w.grownBy w' (some g) → wpList Tryz.prog ops Q rest (a.put o.dst (goInt n)) w') :
    wpList Tryz.prog ops Q (o :: rest) a w := by
  have hlen : m.length = l.length := hmn.trans hln.symm
  subst hln
  rw [← hmn] at h
  rcases hown.2 with ⟨e, h0⟩ | ⟨g2, cap2, cur, e, hb, hg, hnc, hcm, hcs, ht⟩
  · simp at e
  · simp only [Value.slice.injEq, Option.some.injEq, Addr.mk.injEq, and_true, true_and] at e
    obtain ⟨rfl, rfl⟩ := e
    rcases hm with ⟨rfl, rfl⟩ | ⟨b, off, cap3, rfl, h2⟩
    · have hl0 : l = [] := List.eq_nil_of_length_eq_zero (by simpa using hlen.symm)
      subst hl0
      simp only [List.length_nil] at *
      refine wpList_copy_nothing hgd d s 52 52 ho 3 Tryz.underlying52 Tryz.size3 _ _ _ _ _ _ hd hs (by simp) ?_
      exact h w hown ⟨rfl, rfl, rfl, Nat.le_refl _, fun _ _ _ => rfl⟩
    · refine wpList_copy_own hgd d s 52 52 ho 3 Tryz.underlying52 Tryz.size3 g 0 l.length cap ⟨b, off, none⟩ m.length cap3 hd hs cur 3 hg (icells m) (by rw [icells_length, hlen]; exact (Nat.min_self _).symm) ?_ (by rw [icells_length]; omega) (icells_one m) ?_
      · intro j y hy
        have hj : j < m.length := by
          have := (List.getElem?_eq_some_iff.1 hy).1; rwa [icells_length] at this
        rw [addrAdd, h2 j hj, ← icells_get m j hj, hy]
      · have := h (w.setRow g (cur.toList.take 0 ++ (icells m ++ cur.toList.drop (0 + (icells m).length))).toArray) ?_ ?_
        · rw [icells_length] at this ⊢; exact this
        · refine ⟨by simp [icells_length], .inr ⟨g, cap, _, rfl, hb, setRow_heap w g _ _ _ _ hg, by omega, hcm, ?_, ?_⟩⟩
          · simp [icells_length]; omega
          · simp [icells_length]
        · exact ⟨rfl, rfl, rfl, by simp [World.setRow], fun k hk hne => setRow_other w g k _ (by intro e; exact hne (by rw [e]))⟩

set_option maxRecDepth 100000 in
theorem copyInts_any {w : World} {v : Value} {l : List Int} (h : Ints w v l) (hb : l.length ≤ 1099511627776) :
    Calls Tryz.prog 64 #[v] w fun e w' => ∃ v', e = .returned v' ∧ OwnI w' w.heap.size v' l ∧ (v' = .slice none 0 0 ∧ l = [] ∨ ∃ g, v' = .slice (some ⟨g, 0, none⟩) l.length l.length) ∧ Fr [] w w' := by
  obtain ⟨a, cap, hv⟩ := h.len
  subst hv
  by_cases h0 : l = []
  · subst h0
    have hl0 : ([] : List Int).length = 0 := rfl
    refine calls_via fun K hK => ?_
    go_enter Tryz.func64, Tryz.ntmps64
    go_wp2_with fail
    exact hK.out _ _ ⟨_, rfl, OwnI.nil _ _, by simp, Fr.refl _ _⟩
  · have hn : l.length ≠ 0 := fun e => h0 (List.eq_nil_of_length_eq_zero e)
    obtain ⟨n, hnn⟩ : ∃ n, l.length = n := ⟨_, rfl⟩
    rw [hnn] at h hn hb ⊢
    have HI : Hid (Ints w (.slice a n cap) l) := h
    have HN : Hid (l.length = n) := hnn
    have hn1 : (0 : Int) < n := by omega
    clear h h0 hnn
    refine calls_via fun K hK => ?_
    go_enter Tryz.func64, Tryz.ntmps64
    go_wp2_with (first | (at_make; refine wp_mk rfl _ _ rfl n n n rfl rfl rfl rfl hb ?_; intro w1 ho1 hg1) | (with_reducible refine gd_copy rfl ?_; refine wp_copy rfl _ _ rfl w.heap.size w.heap.size n n (List.replicate n 0) l rfl ho1 List.length_replicate (.slice a n cap) rfl (HI.out.fr (Fr.ofGrown hg1) (by simp)) HN.out ?_; intro w2 ho2 hg2))
    have hfr : Fr [] w w2 := (Fr.ofGrown hg1).grown hg2 (by intro k hk hlt; simp at hk; omega)
    exact hK.out _ _ ⟨_, rfl, ho2, .inr ⟨_, rfl⟩, hfr⟩


/-- The cell of a read list, as the walk asks for it. -/
theorem Ints.get {w : World} {g o cap n : Nat} {l : List Int} (h : Ints w (.slice (some ⟨g, o, none⟩) n cap) l) (i : Nat) (hi : i < l.length) : w.cell? ⟨g, o + i, none⟩ = some (.int .i64 (l.getD i 0)) := by
  rcases h with ⟨e, rfl⟩ | ⟨g2, o2, cap2, e, h2⟩
  · simp at hi
  · simp only [Value.slice.injEq, Option.some.injEq, Addr.mk.injEq, and_true] at e
    obtain ⟨⟨rfl, rfl⟩, rfl, rfl⟩ := e
    exact h2 i hi
theorem Ints.cases {w : World} {v : Value} {l : List Int} (h : Ints w v l) : (v = .slice none 0 0 ∧ l = []) ∨ ∃ g o cap, v = .slice (some ⟨g, o, none⟩) l.length cap := by
  rcases h with h | ⟨g, o, cap, rfl, h2⟩
  · exact .inl h
  · exact .inr ⟨g, o, cap, rfl⟩

theorem sameInts_any {w : World} {u v : Value} {l m : List Int} (hu : Ints w u l) (hv : Ints w v m) (hb : l.length ≤ 1099511627776) :
    Calls Tryz.prog 56 #[u, v] w fun e w' => e = .returned (.bool (decide (l = m))) ∧ ∃ n, w' = w.drewN n := by
  obtain ⟨a, cap, hea⟩ := hu.len
  obtain ⟨c, cap2, hec⟩ := hv.len
  subst hea; subst hec
  by_cases hl : l.length = m.length
  · obtain ⟨n, hn⟩ : ∃ n, l.length = n := ⟨_, rfl⟩
    have hm : m.length = n := hl.symm.trans hn
    rw [hn] at hu hb ⊢
    rw [hm] at hv ⊢
    have HU : Hid (Ints w (.slice a n cap) l) := hu
    have HV : Hid (Ints w (.slice c n cap2) m) := hv
    have HL : Hid (l.length = n ∧ m.length = n) := ⟨hn, hm⟩
    clear hu hv hl hn hm
    refine calls_via fun K hK => ?_
    go_enter Tryz.func56, Tryz.ntmps56
    go_wp2_with fail
    go_loopg [5] n (fun g i wr => (∃ q, wr = w.drewN q) ∧ g ≤ n ∧ i = .int .i64 ((n - g : Nat) : Int) ∧ ∀ j, j < n - g → l.getD j 0 = m.getD j 0)
    case atStart => exact ⟨⟨0, rfl⟩, by omega, by simp, by intro j hj; omega⟩
    case round =>
      obtain ⟨⟨q, rfl⟩, hg, rfl, he⟩ := hrel
      by_cases hlt : 0 < gk
      · obtain ⟨k, hk⟩ : ∃ k, n - gk = k := ⟨_, rfl⟩
        rw [hk] at he ⊢
        have hkn : k < n := by omega
        have hkn2 : (k : Int) < n := by omega
        have hcl : ∃ g1 o1, a = some ⟨g1, o1, none⟩ ∧ w.cell? ⟨g1, o1 + k, none⟩ = some (.int .i64 (l.getD k 0)) := by
          rcases HU.out.cases with ⟨e, e2⟩ | ⟨g1, o1, cap1, e⟩
          · have := HL.out.1; rw [e2] at this; simp at this; omega
          · simp only [Value.slice.injEq] at e
            obtain ⟨rfl, _, rfl⟩ := e
            exact ⟨g1, o1, rfl, HU.out.get k (by rw [HL.out.1]; exact hkn)⟩
        have hcm : ∃ g1 o1, c = some ⟨g1, o1, none⟩ ∧ w.cell? ⟨g1, o1 + k, none⟩ = some (.int .i64 (m.getD k 0)) := by
          rcases HV.out.cases with ⟨e, e2⟩ | ⟨g1, o1, cap1, e⟩
          · have := HL.out.2; rw [e2] at this; simp at this; omega
          · simp only [Value.slice.injEq] at e
            obtain ⟨rfl, _, rfl⟩ := e
            exact ⟨g1, o1, rfl, HV.out.get k (by rw [HL.out.2]; exact hkn)⟩
        obtain ⟨g1, o1, rfl, hc1⟩ := hcl
        obtain ⟨g2, o2, rfl, hc2⟩ := hcm
        generalize hx : l.getD k 0 = x at *
        generalize hy : m.getD k 0 = y at *
        have HX : Hid (l.getD k 0 = x ∧ m.getD k 0 = y) := ⟨hx, hy⟩
        have HE : Hid (∀ j, j < k → l.getD j 0 = m.getD j 0) := he
        have HK : Hid (n - gk = k) := hk
        clear hx hy he hk HU HV
        by_cases hxy : x = y
        · have hb1 : (x != y) = false := by simp [hxy]
          have HXY : Hid (x = y) := hxy
          clear hxy
          go_wp2_with (go_quiet (fail))
          go_roundg (gk - 1)
          case measure => omega
          case rel =>
            have hk := HK.out
            refine ⟨⟨_, rfl⟩, by omega, ?_, ?_⟩
            · rw [show n - (gk - 1) = k + 1 from by omega]; simp
            · intro j hj
              by_cases e : j = k
              · subst e; rw [HX.out.1, HX.out.2]; exact HXY.out
              · exact HE.out j (by omega)
        · have hb1 : (x != y) = true := by simp [hxy]
          have HXY : Hid (x ≠ y) := hxy
          clear hxy
          go_wp2_with (go_quiet (fail))
          refine hK.out _ _ ⟨ret_bool ?_, _, World.drewN_drewN _ _ _⟩
          symm; rw [decide_eq_false_iff_not]
          intro e; subst e; exact HXY.out (HX.out.1.symm.trans HX.out.2)
      · have hg0 : gk = 0 := by omega
        subst hg0
        have HE : Hid (∀ j, j < n - 0 → l.getD j 0 = m.getD j 0) := he
        clear he hlt hg
        go_wp2_with fail
        refine hK.out _ _ ⟨ret_bool ?_, _, rfl⟩
        symm; rw [decide_eq_true_iff]
        apply List.ext_getElem
        · rw [HL.out.1, HL.out.2]
        · intro i h1 h2
          have := HE.out i (by have := HL.out.1; omega)
          simpa [List.getD_eq_getElem?_getD, List.getElem?_eq_getElem, h1, h2] using this
  · have hne : ((l.length : Int) != (m.length : Int)) = true := by rw [bne_iff_ne]; omega
    have HN : Hid (false = decide (l = m)) := by
      show _ = _; symm; rw [decide_eq_false_iff_not]; intro e; subst e; exact hl rfl
    generalize l.length = n1 at *
    generalize m.length = n2 at *
    clear hl hu hv
    refine calls_via fun K hK => ?_
    go_enter Tryz.func56, Tryz.ntmps56
    go_wp2_with fail
    exact hK.out _ _ ⟨ret_bool HN.out, 0, rfl⟩
end Go.Proofs.Qxb6500354aGreat
