/- The tree of the real layer against the groups of the model, plainly. -/
import Derived.Test.Qxb6500353aGreatRep
namespace Go.Proofs.Qxb6500353aGreat
set_option linter.unusedVariables false
set_option linter.unusedSimpArgs false

/-- From j, d links up, by dead nodes, to x. -/
def Chain (par : Nat → Nat) (S : Nat → Prop) : Nat → Nat → Nat → Prop
  | j, 0, x => j = x
  | j, d + 1, x => ¬ S j ∧ Chain par S (par j) d x

/-- Leaves alone: the symbols below i are in. -/
structure Grow (c : Nat → Nat) (k : Key) (i m : Nat) : Prop where
  cnt : m = usedN c i
  num : ∀ j, j < m → k.m j < i ∧ 0 < c (k.m j) ∧ k.w j = c (k.m j) ∧ k.h j = 0
  inj : ∀ j l, j < m → l < m → k.m j = k.m l → j = l
  surj : ∀ s, s < i → 0 < c s → ∃ j, j < m ∧ k.m j = s
theorem used_succ (c : Nat → Nat) (i : Nat) : usedN c (i + 1) = usedN c i + if 0 < c i then 1 else 0 := by
  unfold usedN cntTo; rw [sumTo]; by_cases h : 0 < c i <;> simp [h]
theorem Grow.zero (c : Nat → Nat) (k : Key) : Grow c k 0 0 := ⟨rfl, fun j h => by omega, fun j l h => by omega, fun s h => by omega⟩
theorem Grow.skip {c : Nat → Nat} {k : Key} {i m : Nat} (h : Grow c k i m) (h0 : c i = 0) : Grow c k (i + 1) m := by
  refine ⟨by rw [used_succ, if_neg (by omega)]; exact h.cnt, fun j hj => ?_, h.inj, fun s hs hc => ?_⟩
  · have := h.num j hj; exact ⟨by omega, this.2⟩
  · refine h.surj s ?_ hc
    by_cases e : s = i
    · subst e; omega
    · omega
theorem Grow.add {c : Nat → Nat} {k : Key} {i m : Nat} (h : Grow c k i m) (h0 : 0 < c i) : Grow c ⟨upd k.w m (c i), upd k.h m 0, upd k.m m i⟩ (i + 1) (m + 1) := by
  refine ⟨by rw [used_succ, if_pos h0, h.cnt], fun j hj => ?_, fun j l hj hl e => ?_, fun s hs hc => ?_⟩
  · by_cases e : j = m
    · subst e; simp only [upd_self, and_true]; exact ⟨by omega, h0⟩
    · have := h.num j (by omega)
      simp only [upd_ne _ _ _ _ e]; exact ⟨by omega, this.2⟩
  · simp only at e
    by_cases e1 : j = m <;> by_cases e2 : l = m
    · omega
    · subst e1; rw [upd_self, upd_ne _ _ _ _ e2] at e; have := (h.num l (by omega)).1; omega
    · subst e2; rw [upd_self, upd_ne _ _ _ _ e1] at e; have := (h.num j (by omega)).1; omega
    · rw [upd_ne _ _ _ _ e1, upd_ne _ _ _ _ e2] at e; exact h.inj j l (by omega) (by omega) e
  · by_cases e : s = i
    · subst e; exact ⟨m, by omega, upd_self _ _ _⟩
    · obtain ⟨j, hj, e2⟩ := h.surj s (by omega) hc
      exact ⟨j, by omega, by simp only; rw [upd_ne _ _ _ _ (by omega)]; exact e2⟩

structure TreOK (c : Nat → Nat) (n : Nat) (s : Gp) (k : Key) (par : Nat → Nat) (S : Nat → Prop) (leaves m : Nat) : Prop where
  gp : GpOK c n s
  node : ∀ x, S x → x < m ∧ k.m x < n ∧ s.w (k.m x) = k.w x ∧ s.h (k.m x) = k.h x ∧ 0 < k.w x
  inj : ∀ x y, S x → S y → k.m x = k.m y → x = y
  surj : ∀ g, g < n → 0 < s.w g → ∃ x, S x ∧ k.m x = g
  last : S (m - 1)
  leaf : ∀ j, j < leaves → k.m j < n ∧ 0 < c (k.m j) ∧ ∃ x, S x ∧ k.m x = s.grp (k.m j) ∧ Chain par S j (s.lens (k.m j)) x
  all : ∀ i, i < n → 0 < c i → ∃ j, j < leaves ∧ k.m j = i
  linj : ∀ j l, j < leaves → l < leaves → k.m j = k.m l → j = l
  dead : ∀ y, y < m → ¬ S y → y < par y ∧ par y < m
  le : leaves ≤ m
theorem Grow.tre {c : Nat → Nat} {k : Key} {n m : Nat} (h : Grow c k n m) (par : Nat → Nat) (h0 : 0 < m) : TreOK c n (Gp.start c) k par (fun x => x < m) m m := by
  refine ⟨(start_ok c n).1, fun x hx => ?_, fun x y hx hy e => h.inj x y hx hy e, fun g hg hw => ?_, (by omega : m - 1 < m), fun j hj => ?_, h.surj, h.inj, fun y hy hn => absurd hy hn, Nat.le_refl _⟩
  · have := h.num x hx
    exact ⟨hx, this.1, this.2.2.1.symm, this.2.2.2.symm, by omega⟩
  · exact h.surj g hg hw
  · have := h.num j hj
    exact ⟨this.1, this.2.1, j, hj, rfl, rfl⟩
/-- The least node is the least group. -/
theorem least_node {n : Nat} {s : Gp} {k : Key} {S : Nat → Prop} {a : Nat} (node : ∀ x, S x → k.m x < n ∧ s.w (k.m x) = k.w x ∧ s.h (k.m x) = k.h x ∧ 0 < k.w x) 
    (surj : ∀ g, g < n → 0 < s.w g → ∃ x, S x ∧ k.m x = g) (no : Option Nat) (ha : S a) (hno : some (k.m a) ≠ no) (hl : ∀ x, S x → some (k.m x) ≠ no → ¬ k.less x a) :
    leastF s.w s.h no n = some (k.m a) := by
  have hna := node a ha
  cases e : leastF s.w s.h no n with
  | none =>
    have := leastF_none e (k.m a) hna.1 (by omega)
    exact absurd this hno
  | some g =>
    obtain ⟨h1, h2, h3, h4⟩ := leastF_some e
    by_cases e2 : k.m a = g
    · rw [e2]
    · exfalso
      obtain ⟨x, hx, rfl⟩ := surj g h1 h2
      have hnx := node x hx
      have h5 := h4 (k.m a) hna.1 (by omega) hno e2
      rw [hnx.2.1, hnx.2.2.1, hna.2.1, hna.2.2.1] at h5
      exact hl x hx h3 h5
theorem chain_kept {par par2 : Nat → Nat} {S S2 : Nat → Prop} {m : Nat} (hd : ∀ y, y < m → ¬ S y → par2 y = par y ∧ par y < m ∧ ¬ S2 y) : ∀ d j x, j < m → Chain par S j d x → Chain par2 S2 j d x := by
  intro d
  induction d with
  | zero => intro j x _ h; exact h
  | succ d ih =>
    intro j x hj h
    obtain ⟨h1, h2⟩ := h
    obtain ⟨h3, h4, h5⟩ := hd j hj h1
    exact ⟨h5, by rw [h3]; exact ih _ _ h4 h2⟩
theorem chain_more {par : Nat → Nat} {S : Nat → Prop} {x y : Nat} (hx : ¬ S x) (hp : par x = y) : ∀ d j, Chain par S j d x → Chain par S j (d + 1) y := by
  intro d
  induction d with
  | zero => intro j h; have : j = x := h
            subst this; exact ⟨hx, hp⟩
  | succ d ih => intro j h; exact ⟨h.1, ih _ h.2⟩
/-- The join of the two least. -/
theorem TreOK.join {c : Nat → Nat} {n : Nat} {s : Gp} {k : Key} {par : Nat → Nat} {S : Nat → Prop} {leaves m a b : Nat} (h : TreOK c n s k par S leaves m)
    (ha : S a) (hb : S b) (hab : a ≠ b) (la : ∀ x, S x → ¬ k.less x a) (lb : ∀ x, S x → x ≠ a → ¬ k.less x b) :
    TreOK c n (s.turn c n) ⟨upd k.w m (k.w a + k.w b), upd k.h m (max (k.h a) (k.h b) + 1), upd k.m m (k.m a)⟩ (upd (upd par a m) b m) (fun x => (S x ∧ x ≠ a ∧ x ≠ b) ∨ x = m) leaves (m + 1) := by
  have node2 : ∀ x, S x → k.m x < n ∧ s.w (k.m x) = k.w x ∧ s.h (k.m x) = k.h x ∧ 0 < k.w x := fun x hx => (h.node x hx).2
  have hma := h.node a ha
  have hmb := h.node b hb
  have hnum : k.m a ≠ k.m b := fun e => hab (h.inj a b ha hb e)
  have e1 : leastF s.w s.h none n = some (k.m a) := least_node node2 h.surj none ha (by simp) fun x hx _ => la x hx
  have e2 : leastF s.w s.h (some (k.m a)) n = some (k.m b) := least_node node2 h.surj (some (k.m a)) hb (by simpa using fun e => hnum e.symm)
    fun x hx hne => lb x hx (fun e => hne (by rw [e]))
  have e3 : s.turn c n = s.join c (k.m a) (k.m b) := by unfold Gp.turn; rw [e1]; simp only; rw [e2]
  rw [e3]
  have hgp := join_ok h.gp hma.2.1 hmb.2.1 hnum (by rw [hma.2.2.1]; exact hma.2.2.2.2) (by rw [hmb.2.2.1]; exact hmb.2.2.2.2)
  have hlt : ∀ x, S x → x ≠ m := fun x hx => by have := (h.node x hx).1; omega
  have hw : ∀ g, g ≠ k.m a → g ≠ k.m b → (s.join c (k.m a) (k.m b)).w g = s.w g := by
    intro g h1 h2
    show upd (upd s.w (k.m a) _) (k.m b) 0 g = _
    rw [upd_ne _ _ _ _ h2, upd_ne _ _ _ _ h1]
  have hh : ∀ g, g ≠ k.m a → (s.join c (k.m a) (k.m b)).h g = s.h g := by
    intro g h1
    show upd s.h (k.m a) _ g = _
    rw [upd_ne _ _ _ _ h1]
  have hwa : (s.join c (k.m a) (k.m b)).w (k.m a) = k.w a + k.w b := by
    show upd (upd s.w (k.m a) _) (k.m b) 0 (k.m a) = _
    rw [upd_ne _ _ _ _ hnum, upd_self, hma.2.2.1, hmb.2.2.1]
  have hwb : (s.join c (k.m a) (k.m b)).w (k.m b) = 0 := by
    show upd (upd s.w (k.m a) _) (k.m b) 0 (k.m b) = _
    rw [upd_self]
  have hha : (s.join c (k.m a) (k.m b)).h (k.m a) = max (k.h a) (k.h b) + 1 := by
    show upd s.h (k.m a) _ (k.m a) = _
    rw [upd_self, hma.2.2.2.1, hmb.2.2.2.1]
  have hpar : ∀ y, y < m → ¬ S y → upd (upd par a m) b m y = par y ∧ par y < m ∧ ¬ ((S y ∧ y ≠ a ∧ y ≠ b) ∨ y = m) := by
    intro y hy hn
    refine ⟨?_, (h.dead y hy hn).2, ?_⟩
    · have hyb : y ≠ b := fun e => hn (by rw [e]; exact hb)
      have hya : y ≠ a := fun e => hn (by rw [e]; exact ha)
      rw [upd_ne _ _ _ _ hyb, upd_ne _ _ _ _ hya]
    · rintro (⟨h1, _⟩ | h1)
      · exact hn h1
      · omega
  refine ⟨hgp, fun x hx => ?_, fun x y hx hy e => ?_, fun g hg hwg => ?_, .inr (by omega), fun j hj => ?_, fun i hi hc => ?_, fun j l hj hl e => ?_, fun y hy hn => ?_, by have := h.le; omega⟩
  · rcases hx with ⟨h1, h2, h3⟩ | rfl
    · have hx1 := h.node x h1
      have n1 : k.m x ≠ k.m a := fun e => h2 (h.inj x a h1 ha e)
      have n2 : k.m x ≠ k.m b := fun e => h3 (h.inj x b h1 hb e)
      simp only [upd_ne _ _ _ _ (hlt x h1)]
      exact ⟨by omega, hx1.2.1, by rw [hw _ n1 n2]; exact hx1.2.2.1, by rw [hh _ n1]; exact hx1.2.2.2.1, hx1.2.2.2.2⟩
    · simp only [upd_self]
      exact ⟨by omega, hma.2.1, hwa, hha, by omega⟩
  · simp only at e
    rcases hx with ⟨h1, h2, h3⟩ | e1
    · rcases hy with ⟨h4, h5, h6⟩ | e2
      · rw [upd_ne _ _ _ _ (hlt x h1), upd_ne _ _ _ _ (hlt y h4)] at e
        exact h.inj x y h1 h4 e
      · subst e2
        rw [upd_ne _ _ _ _ (hlt x h1), upd_self] at e
        exact absurd (h.inj x a h1 ha e) h2
    · subst e1
      rcases hy with ⟨h4, h5, h6⟩ | e2
      · rw [upd_self, upd_ne _ _ _ _ (hlt y h4)] at e
        exact absurd (h.inj y a h4 ha e.symm) h5
      · exact e2.symm
  · by_cases c1 : g = k.m a
    · subst c1; exact ⟨m, .inr rfl, upd_self _ _ _⟩
    · by_cases c2 : g = k.m b
      · subst c2; rw [hwb] at hwg; omega
      · rw [hw g c1 c2] at hwg
        obtain ⟨x, hx, rfl⟩ := h.surj g hg hwg
        refine ⟨x, .inl ⟨hx, fun e => c1 (by rw [e]), fun e => c2 (by rw [e])⟩, ?_⟩
        simp only [upd_ne _ _ _ _ (hlt x hx)]
  · have hj2 : j ≠ m := by have := h.le; omega
    obtain ⟨h1, h2, x, h3, h4, h5⟩ := h.leaf j hj
    simp only [upd_ne _ _ _ _ hj2]
    refine ⟨h1, h2, ?_⟩
    have hjm : j < m := by have := h.le; omega
    have hk := chain_kept (S2 := fun x => (S x ∧ x ≠ a ∧ x ≠ b) ∨ x = m) hpar _ _ _ hjm h5
    by_cases c1 : x = a ∨ x = b
    · refine ⟨m, .inr rfl, ?_, ?_⟩
      · rw [upd_self]
        show k.m a = if 0 < c (k.m j) ∧ (s.grp (k.m j) = k.m a ∨ s.grp (k.m j) = k.m b) then k.m a else s.grp (k.m j)
        rw [if_pos]
        refine ⟨h2, ?_⟩
        rw [← h4]
        rcases c1 with rfl | rfl
        · exact .inl rfl
        · exact .inr rfl
      · have el : (s.join c (k.m a) (k.m b)).lens (k.m j) = s.lens (k.m j) + 1 := by
          show (if 0 < c (k.m j) ∧ (s.grp (k.m j) = k.m a ∨ s.grp (k.m j) = k.m b) then _ else _) = _
          rw [if_pos]
          refine ⟨h2, ?_⟩
          rw [← h4]
          rcases c1 with rfl | rfl
          · exact .inl rfl
          · exact .inr rfl
        rw [el]
        refine chain_more ?_ ?_ _ _ hk
        · rintro (⟨_, q1, q2⟩ | q)
          · rcases c1 with rfl | rfl
            · exact q1 rfl
            · exact q2 rfl
          · exact hlt x h3 q
        · rcases c1 with rfl | rfl
          · rw [upd_ne _ _ _ _ hab, upd_self]
          · rw [upd_self]
    · have hxa : x ≠ a := fun e => c1 (.inl e)
      have hxb : x ≠ b := fun e => c1 (.inr e)
      have n1 : k.m x ≠ k.m a := fun e => hxa (h.inj x a h3 ha e)
      have n2 : k.m x ≠ k.m b := fun e => hxb (h.inj x b h3 hb e)
      have hno : ¬ (0 < c (k.m j) ∧ (s.grp (k.m j) = k.m a ∨ s.grp (k.m j) = k.m b)) := by
        rw [← h4]; rintro ⟨_, q | q⟩
        · exact n1 q
        · exact n2 q
      refine ⟨x, .inl ⟨h3, hxa, hxb⟩, ?_, ?_⟩
      · rw [upd_ne _ _ _ _ (hlt x h3), h4]
        show _ = if _ then _ else _
        rw [if_neg hno]
      · have el : (s.join c (k.m a) (k.m b)).lens (k.m j) = s.lens (k.m j) := by
          show (if _ then _ else _) = _
          rw [if_neg hno]
        rw [el]; exact hk
  · obtain ⟨j, hj, e⟩ := h.all i hi hc
    exact ⟨j, hj, by simp only; rw [upd_ne _ _ _ _ (by have := h.le; omega)]; exact e⟩
  · have h1 := h.le
    simp only at e
    rw [upd_ne _ _ _ _ (by omega), upd_ne _ _ _ _ (by omega)] at e
    exact h.linj j l hj hl e
  · by_cases c1 : y = b
    · subst c1; rw [upd_self]; exact ⟨hmb.1, by omega⟩
    · by_cases c2 : y = a
      · subst c2; rw [upd_ne _ _ _ _ c1, upd_self]; exact ⟨hma.1, by omega⟩
      · have hym : y ≠ m := fun e => hn (.inr e)
        have hnS : ¬ S y := fun q => hn (.inl ⟨q, c2, c1⟩)
        rw [upd_ne _ _ _ _ c1, upd_ne _ _ _ _ c2]
        have := h.dead y (by omega) hnS
        omega
/-- The depths of the finished tree are the lengths. -/
theorem TreOK.depth {c : Nat → Nat} {n : Nat} {s : Gp} {k : Key} {par : Nat → Nat} {S : Nat → Prop} {leaves m : Nat} (h : TreOK c n s k par S leaves m) (h1 : ∀ x, S x → x = m - 1)
    {dep : Nat → Nat} (h0 : dep (m - 1) = 0) (hd : ∀ x, x < m - 1 → dep x = dep (par x) + 1) : ∀ j, j < leaves → dep j = s.lens (k.m j) := by
  have key : ∀ d j, j < m → Chain par S j d (m - 1) → dep j = d := by
    intro d
    induction d with
    | zero => intro j _ hc; have : j = m - 1 := hc
              subst this; exact h0
    | succ d ih =>
      intro j hj hc
      have hne : j ≠ m - 1 := fun e => hc.1 (e ▸ h.last)
      have := h.dead j hj hc.1
      rw [hd j (by omega), ih _ this.2 hc.2]
  intro j hj
  obtain ⟨_, _, x, h3, _, h5⟩ := h.leaf j hj
  rw [h1 x h3] at h5
  exact key _ j (by have := h.le; omega) h5
end Go.Proofs.Qxb6500353aGreat
