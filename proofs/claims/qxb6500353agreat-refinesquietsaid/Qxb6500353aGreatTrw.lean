/- The tree of the real coder, walked. -/
import Derived.Test.Qxb6500353aGreatHpw
namespace Go.Proofs.Qxb6500353aGreat
open Go.RowKit
set_option linter.unusedVariables false
set_option linter.unusedSimpArgs false

theorem Heap.congr {k k2 : Key} {H : Nat → Nat} {n : Nat} {S S2 : Nat → Prop} (h : Heap k H n S) (hk : ∀ x, S x → k2.w x = k.w x ∧ k2.h x = k.h x ∧ k2.m x = k.m x) (hS : ∀ x, S x ↔ S2 x) : Heap k2 H n S2 := by
  refine ⟨⟨fun i hi => (hS _).1 (h.mem i hi), fun x hx => h.surj x ((hS _).2 hx), h.inj⟩, fun j h0 hj => ?_⟩
  have h1 := hk _ (h.mem j hj)
  have h2 := hk _ (h.mem ((j - 1) / 2) (by omega))
  have h3 := h.ord j h0 hj
  unfold Key.less at *
  rw [h1.1, h1.2.1, h1.2.2, h2.1, h2.2.1, h2.2.2]; exact h3
/-- What Plan leaves as it was. -/
structure Kept (R R2 : CdR) : Prop where
  n : R2.n = R.n
  lens : R2.lens = R.lens
  code : R2.code = R.code
  root : R2.root = R.root
  sub : R2.sub = R.sub
  top : R2.top = R.top
theorem Kept.refl (R : CdR) : Kept R R := ⟨rfl, rfl, rfl, rfl, rfl, rfl⟩
theorem Kept.trans {R R2 R3 : CdR} (h : Kept R R2) (k : Kept R2 R3) : Kept R R3 := ⟨k.n.trans h.n, k.lens.trans h.lens, k.code.trans h.code, k.root.trans h.root, k.sub.trans h.sub, k.top.trans h.top⟩
/-- The blocks that tree turns. -/
def TrS (b og : Nat) : Nat → Prop := fun k => (b ≤ k ∧ k < b + 11) ∨ k = og
theorem TrS.up {b og : Nat} {w w2 : World} (h : Fr (Rng b (b + 11)) w w2) : Fr (TrS b og) w w2 := h.mono fun x hx _ => .inl hx
structure Leaves (c : Nat → Nat) (R R1 : CdR) (k m : Nat) : Prop where
  grow : Grow c R1.key k m
  heap : Heap R1.key R1.heap m (fun x => x < m)
  fill : R1.fill = m
  kept : Kept R R1
theorem Leaves.m_le {c : Nat → Nat} {R R1 : CdR} {k m : Nat} (h : Leaves c R R1 k m) : m ≤ k := by rw [h.grow.cnt]; exact cntTo_le _ _
/-- While pairs are joined. -/
structure Joins (c : Nat → Nat) (n lv : Nat) (R R2 : CdR) (m : Nat) (s : Gp) (S : Nat → Prop) : Prop where
  tre : TreOK c n s R2.key R2.par S lv m
  heap : Heap R2.key R2.heap R2.fill S
  cnt : m + R2.fill = 2 * lv
  pos : 0 < R2.fill
  rest : plainF c n (R2.fill - 1) s = plainF c n (lv - 1) (Gp.start c)
  kept : Kept R R2
theorem Leaves.joins {c : Nat → Nat} {n lv : Nat} {R R1 : CdR} (h : Leaves c R R1 n lv) (h0 : 0 < lv) : Joins c n lv R R1 lv (Gp.start c) (fun x => x < lv) :=
  ⟨h.grow.tre R1.par h0, by rw [h.fill]; exact h.heap, by rw [h.fill]; omega, by rw [h.fill]; exact h0, by rw [h.fill], h.kept⟩
theorem Joins.bounds {c : Nat → Nat} {n lv m : Nat} {R R2 : CdR} {s : Gp} {S : Nat → Prop} (h : Joins c n lv R R2 m s S) {x : Nat} (hx : S x) : R2.wt x ≤ sumTo c n ∧ R2.ht x ≤ n ∧ R2.num x < n ∧ x < m := by
  have h1 := h.tre.node x hx
  have h2 := sumTo_one (f := s.w) h1.2.1
  have h3 := h.tre.gp.high _ h1.2.1
  rw [h.tre.gp.tot] at h2
  have h4 : usedN c n ≤ n := cntTo_le _ _
  have e1 : s.w (R2.key.m x) = R2.wt x := h1.2.2.1
  have e2 : s.h (R2.key.m x) = R2.ht x := h1.2.2.2.1
  refine ⟨by omega, by omega, h1.2.1, h1.1⟩
theorem Joins.two {c : Nat → Nat} {n lv m : Nat} {R R2 : CdR} {s : Gp} {S : Nat → Prop} (h : Joins c n lv R R2 m s S) {x y : Nat} (hx : S x) (hy : S y) (hne : x ≠ y) : R2.wt x + R2.wt y ≤ sumTo c n := by
  have h1 := h.tre.node x hx
  have h2 := h.tre.node y hy
  have hn : R2.key.m x ≠ R2.key.m y := fun e => hne (h.tre.inj x y hx hy e)
  have e1 : s.w (R2.key.m x) = R2.wt x := h1.2.2.1
  have e2 : s.w (R2.key.m y) = R2.wt y := h2.2.2.1
  have h3 : s.w (R2.key.m x) + s.w (R2.key.m y) ≤ sumTo s.w n := by
    rcases Nat.lt_or_gt_of_ne hn with h4 | h4
    · exact sumTo_two h4 h2.2.1
    · have := sumTo_two (f := s.w) h4 h1.2.1; omega
  rw [h.tre.gp.tot] at h3
  omega
/-- One turn: the two least are taken out, the new node is pushed. -/
theorem Joins.turn {c : Nat → Nat} {n lv m : Nat} {R R2 : CdR} {s : Gp} {S : Nat → Prop} (h : Joins c n lv R R2 m s S) (h2 : 1 < R2.fill) {a b : Nat} (ha : S a) (hb : S b) (hab : a ≠ b)
    (la : ∀ x, S x → ¬ R2.key.less x a) (lb : ∀ x, S x → x ≠ a → ¬ R2.key.less x b) {R3 : CdR} (hw : R3.wt = upd R2.wt m (R2.wt a + R2.wt b)) (hh : R3.ht = upd R2.ht m (max (R2.ht a) (R2.ht b) + 1)) (hm : R3.num = upd R2.num m (R2.num a))
    (hp : R3.par = upd (upd R2.par a m) b m) (hf : R3.fill = R2.fill - 1) (hk : Kept R2 R3) (hH : Heap R3.key R3.heap R3.fill (fun x => (S x ∧ x ≠ a ∧ x ≠ b) ∨ x = m)) :
    Joins c n lv R R3 (m + 1) (s.turn c n) (fun x => (S x ∧ x ≠ a ∧ x ≠ b) ∨ x = m) := by
  have h3 := h.tre.join ha hb hab la lb
  have hcnt := h.cnt
  refine ⟨?_, hH, by omega, by omega, ?_, h.kept.trans hk⟩
  · have e : R3.key = ⟨upd R2.key.w m (R2.key.w a + R2.key.w b), upd R2.key.h m (max (R2.key.h a) (R2.key.h b) + 1), upd R2.key.m m (R2.key.m a)⟩ := by
      unfold CdR.key; rw [hw, hh, hm]
    rw [e, hp]; exact h3
  · have e := h.rest
    rw [hf, show R2.fill - 1 = (R2.fill - 1 - 1) + 1 by omega] at *
    rw [← e]; rfl
/-- The pass from the root down. -/
structure Pass (c : Nat → Nat) (n lv m : Nat) (R R3 : CdR) (s : Gp) (S : Nat → Prop) (k deep : Nat) (o : Nat → Nat) : Prop where
  tre : TreOK c n s R3.key R3.par S lv m
  one : ∀ x, S x → x = m - 1
  lens : s.lens = treeF c n
  kept : Kept R R3
  root : R3.dep (m - 1) = 0
  step : ∀ x, k ≤ x → x < m - 1 → R3.dep x = R3.dep (R3.par x) + 1
  bound : ∀ x, k ≤ x → x < m → R3.dep x + x ≤ m - 1
  out : ∀ x, k ≤ x → x < lv → o (R3.num x) = R3.dep x ∧ R3.dep x ≤ deep
  other : ∀ i, i < n → (∀ x, k ≤ x → x < lv → R3.num x ≠ i) → o i = 0
  hit : deep = 0 ∨ ∃ x, k ≤ x ∧ x < lv ∧ R3.dep x = deep
theorem Pass.done {c : Nat → Nat} {n lv m deep : Nat} {R R3 : CdR} {s : Gp} {S : Nat → Prop} {o : Nat → Nat} (h : Pass c n lv m R R3 s S 0 deep o) (hu : 1 ≤ usedN c n) : 
    (∀ i, i < n → o i = treeF c n i) ∧ (∀ i, i < n → treeF c n i ≤ deep) ∧ (deep = 0 ∨ ∃ i, i < n ∧ treeF c n i = deep) := by
  have hd := h.tre.depth h.one h.root (fun x hx => h.step x (Nat.zero_le _) hx)
  have hd2 : ∀ j, j < lv → R3.dep j = treeF c n (R3.num j) := fun j hj => by rw [← h.lens]; exact hd j hj
  have key : ∀ i, i < n → o i = treeF c n i ∧ treeF c n i ≤ deep := by
    intro i hi
    by_cases hc : 0 < c i
    · obtain ⟨j, hj, e⟩ := h.tre.all i hi hc
      have h1 := h.out j (Nat.zero_le _) hj
      have e2 : R3.num j = i := e
      rw [e2] at h1
      rw [hd2 j hj, e2] at h1
      exact h1
    · have h0 : treeF c n i = 0 := tree_dead hu i hi (by omega)
      rw [h0]
      refine ⟨h.other i hi (fun x _ hx e => ?_), Nat.zero_le _⟩
      have := (h.tre.leaf x hx).2.1
      rw [show R3.key.m x = i from e] at this; exact hc this
  refine ⟨fun i hi => (key i hi).1, fun i hi => (key i hi).2, ?_⟩
  rcases h.hit with h1 | ⟨x, _, hx, e⟩
  · exact .inl h1
  · exact .inr ⟨R3.num x, (h.tre.leaf x hx).1, by rw [← hd2 x hx, e]⟩
set_option maxRecDepth 100000 in
theorem pop_one {w : World} {b : Nat} {R : CdR} {S : Nat → Prop} (h : CdAt w b R) (hn : R.fill = 1) (hp : Heap R.key R.heap R.fill S) :
    Calls Tryz.prog 174 #[ptrV b] w fun e w' => e = .returned (.int .i64 (R.heap 0 : Nat)) ∧ ∃ H, CdAt w' b { R with heap := H, fill := 0 } ∧ Heap R.key H 0 (fun y => S y ∧ y ≠ R.heap 0) ∧ Fr (Rng b (b + 11)) w w' := by
  have c1 := h.c_fill
  have p1 := h.p_heap
  have cf : ∀ i, w.frozen? ⟨b, i, none⟩ = false := h.fz
  have cz := h.a_heap.cell 0 (by omega)
  have cfz : ∀ i, w.frozen? ⟨b + 10, i, none⟩ = false := h.a_heap.thaw
  simp only [mkN] at cz
  rw [hn] at c1 hp
  have c1b : w.cell? ⟨b, 12, none⟩ = some (.int .i64 1) := by rw [c1]; rfl
  obtain ⟨_, hs1, _⟩ := hp.pop_start
  have hs1 := hs1 rfl
  obtain ⟨least, hle⟩ : ∃ z, z = R.heap 0 := ⟨_, rfl⟩
  rw [← hle] at cz hs1 ⊢
  have HS1 := hid hs1
  have H0 := hid h
  clear h hn hp c1 hs1 hle
  refine calls_via fun K hK => ?_
  unfold ptrV
  go_enter Tryz.func174, Tryz.ntmps174
  go_wp2_with fail
  go_quiet (fail)
  go_wp2_with fail
  go_loopg [5] 0 (fun g i wr => i = .int .i64 0 ∧ CdAt wr b { R with fill := 0 } ∧ Fr (Rng b (b + 11)) w wr)
  case atStart =>
    have h1 := H0.out.set_fill 0
    have hm : Rng b (b + 11) b := ⟨by omega, by omega⟩
    refine ⟨rfl, ?_, ?_⟩
    · first | exact h1.drewN | exact h1
    · first | exact ((Fr.refl (Rng b (b + 11)) w).setS hm _ _).drewN | exact (Fr.refl (Rng b (b + 11)) w).setS hm _ _
  case round =>
    obtain ⟨rfl, hA, hf⟩ := hrel
    have p1 := hA.p_heap
    have cfl := hA.c_fill
    have cz2 := hA.a_heap.cell 0 (by omega)
    simp only [mkN] at cz2
    dsimp only at cfl
    have cfz : ∀ i, wr.frozen? ⟨b + 10, i, none⟩ = false := hA.a_heap.thaw
    have HA := hid hA
    have HF := hid hf
    have hm10 : Rng b (b + 11) (b + 10) := ⟨by omega, by omega⟩
    clear hA hf
    go_wp2_with fail
    refine hK.out _ _ ⟨rfl, _, HA.out.set_heap 0 least, ⟨⟨fun i hi => by omega, fun x hx => absurd hx (HS1.out x), fun i j hi => by omega⟩, fun j _ hj => by omega⟩, HF.out.setS hm10 _ _⟩
theorem pop_all {w : World} {b : Nat} {R : CdR} {S : Nat → Prop} {n : Nat} (h : CdAt w b R) (hn : R.fill = n + 1) (hp : Heap R.key R.heap R.fill S) (hlt : ∀ y, S y → y < 529) (hf : R.fill ≤ 265) :
    Calls Tryz.prog 174 #[ptrV b] w fun e w' => e = .returned (.int .i64 (R.heap 0 : Nat)) ∧ ∃ H, CdAt w' b { R with heap := H, fill := n } ∧ Heap R.key H n (fun y => S y ∧ y ≠ R.heap 0) ∧ Fr (Rng b (b + 11)) w w' := by
  by_cases h0 : 0 < n
  · exact pop_any h hn hp hlt hf h0
  · have : n = 0 := by omega
    subst this
    exact pop_one h hn hp
end Go.Proofs.Qxb6500353aGreat
