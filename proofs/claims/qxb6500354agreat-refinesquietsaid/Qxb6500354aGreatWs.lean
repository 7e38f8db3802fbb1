/- PLAIN LAWS of the store: one clause's view; what look and visit do to it. -/
import Derived.Test.Qxb6500354aGreatPt
namespace Go.Proofs.Qxb6500354aGreat
set_option linter.unusedVariables false
set_option linter.unusedSimpArgs false

/-- All that the store holds of one id. -/
structure View where
  cl : List Int
  used : Bool
  fresh : Bool
  weak : Bool
  on : Nat → Bool
def WatchS.view (W : WatchS) (j : Nat) : View := ⟨W.cl j, W.used.testBit j, W.fresh.testBit j, W.weak.testBit j, fun c => (W.wl c).testBit j⟩
def View.sound (v : View) : Bool := v.used && !v.fresh && !v.weak
theorem View.sound_iff (v : View) : v.sound = true ↔ v.used = true ∧ v.fresh = false ∧ v.weak = false := by
  unfold View.sound; cases v.used <;> cases v.fresh <;> cases v.weak <;> simp
/-- THE STRUCTURE OF THE WATCHES, of one id. -/
structure WSv (v : View) : Prop where
  fu : v.fresh = true → v.used = true
  wu : v.weak = true → v.used = true
  ls : ∀ c, v.on c = true → v.sound = true ∧ (code (v.cl.getD 0 0) = c ∨ code (v.cl.getD 1 0) = c)
  sl : v.sound = true → 2 ≤ v.cl.length ∧ v.on (code (v.cl.getD 0 0)) = true ∧ v.on (code (v.cl.getD 1 0)) = true
  gd : ∀ l ∈ v.cl, good l = true
  dist : (v.cl.map Int.natAbs).Nodup
structure WS (W : WatchS) : Prop where
  v : ∀ j, WSv (W.view j)
  lt : ∀ j, W.used.testBit j = true → j < 52

theorem on_set (wl : Nat → Nat) (x id j : Nat) : (fun c => (upd wl x (setB (wl x) id) c).testBit j) = if j = id then upd (fun c => (wl c).testBit j) x true else fun c => (wl c).testBit j := by
  by_cases h : j = id
  · subst h; rw [if_pos rfl]; funext c
    by_cases e : c = x
    · subst e; rw [upd_self, upd_self, testBit_set]; simp
    · rw [upd_ne _ _ _ _ e, upd_ne _ _ _ _ e]
  · rw [if_neg h]; funext c
    by_cases e : c = x
    · subst e; rw [upd_self, testBit_set]; simp [Ne.symm h]
    · rw [upd_ne _ _ _ _ e]
theorem on_clr (wl : Nat → Nat) (x id j : Nat) : (fun c => (upd wl x (clrB (wl x) id) c).testBit j) = if j = id then upd (fun c => (wl c).testBit j) x false else fun c => (wl c).testBit j := by
  by_cases h : j = id
  · subst h; rw [if_pos rfl]; funext c
    by_cases e : c = x
    · subst e; rw [upd_self, upd_self, testBit_clr]; simp
    · rw [upd_ne _ _ _ _ e, upd_ne _ _ _ _ e]
  · rw [if_neg h]; funext c
    by_cases e : c = x
    · subst e; rw [upd_self, testBit_clr]; simp [Ne.symm h]
    · rw [upd_ne _ _ _ _ e]
theorem link_view (W : WatchS) (id j : Nat) : (W.link id).view j = if j = id then { W.view j with on := upd (upd (W.view j).on (code ((W.cl id).getD 0 0)) true) (code ((W.cl id).getD 1 0)) true } else W.view j := by
  unfold WatchS.link WatchS.view
  simp only [on_set]
  split <;> simp_all
theorem unlink_view (W : WatchS) (id j : Nat) : (W.unlink id).view j = if j = id then { W.view j with on := upd (upd (W.view j).on (code ((W.cl id).getD 0 0)) false) (code ((W.cl id).getD 1 0)) false } else W.view j := by
  unfold WatchS.unlink WatchS.view
  simp only [on_clr]
  split <;> simp_all

/-! ### look -/
theorem swapL_get (c : List Int) {i k j : Nat} (hi : i < c.length) (hk : k < c.length) : (swapL c i k).getD j 0 = if j = k then c.getD i 0 else if j = i then c.getD k 0 else c.getD j 0 := by
  by_cases h : j = k
  · subst h; rw [if_pos rfl]; exact swapL_at c hi hk
  · rw [if_neg h]
    by_cases e : j = i
    · subst e; rw [if_pos rfl]; exact swapL_at0 c hi hk h
    · rw [if_neg e]
      unfold swapL
      simp only [List.getD_eq_getElem?_getD]
      rw [List.getElem?_set_ne (Ne.symm h), List.getElem?_set_ne (Ne.symm e)]
theorem lookLoop_facts (T : TrailS) : ∀ (n : Nat) (c : List Int) (i k : Nat), k ≤ i → k ≤ 2 → c.length ≤ n + i → i ≤ c.length →
    (∀ j, j < k → T.value (c.getD j 0) ≠ -1) → (∀ j, k ≤ j → j < i → T.value (c.getD j 0) = -1) →
    (lookLoop T n c i k).1.Perm c ∧ (lookLoop T n c i k).2 ≤ 2 ∧ (lookLoop T n c i k).2 ≤ c.length ∧ (∀ j, j < (lookLoop T n c i k).2 → T.value ((lookLoop T n c i k).1.getD j 0) ≠ -1) ∧
      ((lookLoop T n c i k).2 < 2 → ∀ j, (lookLoop T n c i k).2 ≤ j → j < c.length → T.value ((lookLoop T n c i k).1.getD j 0) = -1) := by
  intro n
  induction n with
  | zero =>
    intro c i k h1 h2 h3 h4 h5 h6
    simp only [lookLoop]
    exact ⟨List.Perm.refl _, h2, by omega, h5, fun _ j a b => h6 j a (by omega)⟩
  | succ n ih =>
    intro c i k h1 h2 h3 h4 h5 h6
    rw [lookLoop_succ]
    by_cases hc : i < c.length ∧ k < 2
    · rw [if_pos hc]
      by_cases hv : T.value (c.getD i 0) = -1
      · rw [if_pos hv]
        exact ih c (i + 1) k (by omega) h2 (by omega) (by omega) h5 (fun j a b => by
          by_cases e : j = i
          · subst e; exact hv
          · exact h6 j a (by omega))
      · rw [if_neg hv]
        have hk : k < c.length := by omega
        have hp := swapL_perm hc.1 hk
        have hl := swapL_len c i k
        have hg : ∀ j, (swapL c i k).getD j 0 = if j = k then c.getD i 0 else if j = i then c.getD k 0 else c.getD j 0 := fun j => swapL_get c hc.1 hk
        obtain ⟨q1, q2, q3, q4, q5⟩ := ih (swapL c i k) (i + 1) (k + 1) (by omega) (by omega) (by omega) (by omega) (fun j a => by
            rw [hg]
            by_cases e : j = k
            · rw [if_pos e]; exact hv
            · rw [if_neg e, if_neg (by omega)]; exact h5 j (by omega)) (fun j a b => by
            rw [hg, if_neg (by omega)]
            by_cases e : j = i
            · rw [if_pos e]; exact h6 k (Nat.le_refl _) (by omega)
            · rw [if_neg e]; exact h6 j (by omega) (by omega))
        exact ⟨q1.trans hp, q2, by omega, q4, fun a j b d => q5 a j b (by omega)⟩
    · rw [if_neg hc]
      refine ⟨List.Perm.refl _, h2, by omega, h5, fun a j b d => h6 j b (by omega)⟩
theorem mem_getD {c : List Int} {l : Int} (h : l ∈ c) : ∃ j, j < c.length ∧ c.getD j 0 = l := by
  obtain ⟨j, hj, e⟩ := List.getElem_of_mem h
  exact ⟨j, hj, by rw [List.getD_eq_getElem?_getD, List.getElem?_eq_getElem hj, e]; rfl⟩

theorem look_used (W : WatchS) (T : TrailS) (id : Nat) : (lookF W T id).2.1.used = W.used := by
  unfold lookF; simp only []; split
  · rfl
  · split <;> rfl
theorem look_other (W : WatchS) (T : TrailS) (id : Nat) {j : Nat} (h : j ≠ id) : (lookF W T id).2.1.view j = W.view j := by
  have h2 : ¬ id = j := fun e => h e.symm
  unfold lookF; simp only []; split
  · rw [link_view, if_neg h]; simp [WatchS.view, upd_ne _ _ _ _ h, testBit_clr, h2]
  · split <;> simp [WatchS.view, upd_ne _ _ _ _ h, testBit_clr, testBit_set, h2]
/-- What look does to its clause. -/
theorem look_out (W : WatchS) (T : TrailS) (id : Nat) (hlen : (W.cl id).length ≤ 13) :
    ∃ c, c.Perm (W.cl id) ∧
      ((2 ≤ c.length ∧ T.value (c.getD 0 0) ≠ -1 ∧ T.value (c.getD 1 0) ≠ -1 ∧ (lookF W T id).1 = -1 ∧ (lookF W T id).2.2 = T ∧
          (lookF W T id).2.1.view id = ⟨c, (W.view id).used, false, false, upd (upd (W.view id).on (code (c.getD 0 0)) true) (code (c.getD 1 0)) true⟩) ∨
       ((∀ l ∈ c, T.value l = -1) ∧ (lookF W T id).1 = id ∧ (lookF W T id).2.2 = T ∧ (lookF W T id).2.1.view id = ⟨c, (W.view id).used, false, true, (W.view id).on⟩) ∨
       (1 ≤ c.length ∧ T.value (c.getD 0 0) ≠ -1 ∧ (∀ j, 1 ≤ j → j < c.length → T.value (c.getD j 0) = -1) ∧ (lookF W T id).1 = -1 ∧ (lookF W T id).2.2 = T.assign (c.getD 0 0) id ∧
          (lookF W T id).2.1.view id = ⟨c, (W.view id).used, false, true, (W.view id).on⟩)) := by
  obtain ⟨q1, q2, q3, q4, q5⟩ := lookLoop_facts T 13 (W.cl id) 0 0 (by omega) (by omega) (by omega) (by omega) (fun j a => by omega) (fun j a b => by omega)
  have hl := q1.length_eq
  refine ⟨_, q1, ?_⟩
  generalize hr : lookLoop T 13 (W.cl id) 0 0 = r at *
  by_cases h2 : r.2 = 2
  · left
    refine ⟨by omega, q4 0 (by omega), q4 1 (by omega), ?_, ?_, ?_⟩
    · simp [lookF, hr, h2]
    · simp [lookF, hr, h2]
    · simp only [lookF, hr, h2, if_pos]
      rw [link_view, if_pos rfl]
      simp [WatchS.view, upd_self, testBit_clr]
  · right
    by_cases h0 : r.2 = 0
    · left
      refine ⟨?_, ?_, ?_, ?_⟩
      · intro l hm
        obtain ⟨j, hj, e⟩ := mem_getD hm
        have := q5 (by omega) j (by omega) (by omega)
        rw [e] at this; exact this
      · simp [lookF, hr, h0]
      · simp [lookF, hr, h0]
      · simp [lookF, hr, h0, WatchS.view, upd_self, testBit_clr, testBit_set]
    · right
      refine ⟨by omega, q4 0 (by omega), fun j a b => q5 (by omega) j (by omega) (by omega), ?_, ?_, ?_⟩
      · simp [lookF, hr, h0, h2]
      · simp [lookF, hr, h0, h2]
      · simp [lookF, hr, h0, h2, WatchS.view, upd_self, testBit_clr, testBit_set]

/-! ### visit -/
theorem seekNF_out (T : TrailS) : ∀ (l : List Int) (k : Nat), (∃ j, seekNF T l k = some (k + j) ∧ j < l.length ∧ T.value (l.getD j 0) ≠ -1) ∨ (seekNF T l k = none ∧ ∀ x ∈ l, T.value x = -1) := by
  intro l
  induction l with
  | nil => intro k; right; simp [seekNF]
  | cons x r ih =>
    intro k
    rw [seekNF_cons]
    by_cases h : T.value x = -1
    · rw [if_pos h]
      rcases ih (k + 1) with ⟨j, a, b, d⟩ | ⟨a, b⟩
      · left; exact ⟨j + 1, by rw [a]; congr 1; omega, by simp; omega, by simpa using d⟩
      · right; refine ⟨a, ?_⟩; intro y hy; rcases List.mem_cons.1 hy with e | e
        · rw [e]; exact h
        · exact b y e
    · rw [if_neg h]; left; exact ⟨0, rfl, by simp, by simpa using h⟩
theorem visit_used (W : WatchS) (T : TrailS) (id : Nat) (p : Int) : (visitF W T id p).2.1.used = W.used := by
  unfold visitF; simp only []
  generalize (if (W.cl id).getD 0 0 = -p then swapL (W.cl id) 0 1 else W.cl id) = c
  split
  · rfl
  · split
    · rfl
    · split
      · rfl
      · split <;> rfl
theorem visit_other (W : WatchS) (T : TrailS) (id : Nat) (p : Int) {j : Nat} (h : j ≠ id) : (visitF W T id p).2.1.view j = W.view j := by
  have h2 : ¬ id = j := fun e => h e.symm
  unfold visitF; simp only []
  generalize (if (W.cl id).getD 0 0 = -p then swapL (W.cl id) 0 1 else W.cl id) = c
  split
  · simp [WatchS.view, upd_ne _ _ _ _ h]
  · split
    · simp only [WatchS.view, on_set, on_clr, if_neg h, upd_ne _ _ _ _ h]
    · have hu : ∀ k, ({ WatchS.unlink { W with cl := upd W.cl id c } id with weak := setB k id } : WatchS).view j = { W.view j with weak := k.testBit j } := by
        intro k
        have := unlink_view { W with cl := upd W.cl id c } id j
        rw [if_neg h] at this
        simp only [WatchS.view, View.mk.injEq] at this ⊢
        refine ⟨?_, this.2.1, this.2.2.1, ?_, this.2.2.2.2⟩
        · rw [this.1, upd_ne _ _ _ _ h]
        · simp [testBit_set, h2]
      have e := hu W.weak
      split
      · exact e
      · split <;> exact e
/-- What visit does to its clause. -/
theorem visit_out (W : WatchS) (T : TrailS) (id : Nat) (p : Int) (h2 : 2 ≤ (W.cl id).length) (hp : (W.cl id).getD 0 0 = -p ∨ (W.cl id).getD 1 0 = -p) :
    ∃ c, c.Perm (W.cl id) ∧ c.getD 1 0 = -p ∧ ((c.getD 0 0 = (W.cl id).getD 0 0 ∧ c.getD 1 0 = (W.cl id).getD 1 0) ∨ (c.getD 0 0 = (W.cl id).getD 1 0 ∧ c.getD 1 0 = (W.cl id).getD 0 0)) ∧
      ((T.value (c.getD 0 0) = 1 ∧ T.place (c.getD 0 0).natAbs < T.place p.natAbs ∧ visitF W T id p = (-1, (visitF W T id p).2.1, T) ∧ (visitF W T id p).2.1.view id = { W.view id with cl := c }) ∨
       (∃ d l, d.Perm (W.cl id) ∧ d.getD 0 0 = c.getD 0 0 ∧ d.getD 1 0 = l ∧ T.value l ≠ -1 ∧ visitF W T id p = (-1, (visitF W T id p).2.1, T) ∧
          (visitF W T id p).2.1.view id = { W.view id with cl := d, on := upd (upd (W.view id).on (code (-p)) false) (code l) true }) ∨
       (¬ (T.value (c.getD 0 0) = 1 ∧ T.place (c.getD 0 0).natAbs < T.place p.natAbs) ∧ (∀ j, 2 ≤ j → j < c.length → T.value (c.getD j 0) = -1) ∧
          (visitF W T id p).2.1.view id = { W.view id with cl := c, weak := true, on := upd (upd (W.view id).on (code (c.getD 0 0)) false) (code (c.getD 1 0)) false } ∧
          ((T.value (c.getD 0 0) = -1 ∧ visitF W T id p = ((id : Int), (visitF W T id p).2.1, T)) ∨
           (T.value (c.getD 0 0) = 0 ∧ visitF W T id p = (-1, (visitF W T id p).2.1, T.assign (c.getD 0 0) id)) ∨
           (T.value (c.getD 0 0) = 1 ∧ visitF W T id p = (-1, (visitF W T id p).2.1, T))))) := by
  obtain ⟨c, hc⟩ : ∃ c, (if (W.cl id).getD 0 0 = -p then swapL (W.cl id) 0 1 else W.cl id) = c := ⟨_, rfl⟩
  have hpc : c.Perm (W.cl id) := by
    rw [← hc]; split
    · exact swapL_perm (by omega) (by omega)
    · exact List.Perm.refl _
  have hcl := hpc.length_eq
  have h01 : c.getD 1 0 = -p ∧ ((c.getD 0 0 = (W.cl id).getD 0 0 ∧ c.getD 1 0 = (W.cl id).getD 1 0) ∨ (c.getD 0 0 = (W.cl id).getD 1 0 ∧ c.getD 1 0 = (W.cl id).getD 0 0)) := by
    by_cases e : (W.cl id).getD 0 0 = -p
    · rw [if_pos e] at hc
      have a0 : c.getD 0 0 = (W.cl id).getD 1 0 := by rw [← hc, swapL_get _ (by omega) (by omega)]; simp
      have a1 : c.getD 1 0 = (W.cl id).getD 0 0 := by rw [← hc, swapL_get _ (by omega) (by omega)]; simp
      exact ⟨a1.trans e, .inr ⟨a0, a1⟩⟩
    · rw [if_neg e] at hc
      rw [← hc]
      exact ⟨hp.resolve_left e, .inl ⟨rfl, rfl⟩⟩
  refine ⟨c, hpc, h01.1, h01.2, ?_⟩
  by_cases hA : T.value (c.getD 0 0) = 1 ∧ T.place (c.getD 0 0).natAbs < T.place p.natAbs
  · left
    refine ⟨hA.1, hA.2, ?_, ?_⟩
    · unfold visitF; simp only [hc, if_pos hA]
    · unfold visitF; simp only [hc, if_pos hA]; simp [WatchS.view, upd_self]
  · right
    rcases seekNF_out T (c.drop 2) 2 with ⟨j, e1, e2, e3⟩ | ⟨e1, e2⟩
    · left
      have hj : 2 + j < c.length := by simp at e2; omega
      have hg : ∀ i, (swapL c 1 (2 + j)).getD i 0 = if i = 2 + j then c.getD 1 0 else if i = 1 then c.getD (2 + j) 0 else c.getD i 0 := fun i => swapL_get c (by omega) hj
      refine ⟨swapL c 1 (2 + j), c.getD (2 + j) 0, (swapL_perm (by omega) hj).trans hpc, ?_, ?_, ?_, ?_, ?_⟩
      · rw [hg, if_neg (by omega), if_neg (by omega)]
      · rw [hg, if_neg (by omega), if_pos rfl]
      · have : (c.drop 2).getD j 0 = c.getD (2 + j) 0 := by simp [List.getD_eq_getElem?_getD]
        rw [← this]; exact e3
      · unfold visitF; simp only [hc, if_neg hA, e1]
      · unfold visitF; simp only [hc, if_neg hA, e1]
        simp only [WatchS.view, upd_self]
        congr 1
        funext d
        have q1 := congrFun (on_set (upd W.wl (code (-p)) (clrB (W.wl (code (-p))) id)) (code (c.getD (2 + j) 0)) id id) d
        rw [if_pos rfl] at q1
        rw [q1]
        congr 1
        have q2 := on_clr W.wl (code (-p)) id id
        rw [if_pos rfl] at q2
        exact q2
    · right
      have hv : (visitF W T id p).2.1.view id = { W.view id with cl := c, weak := true, on := upd (upd (W.view id).on (code (c.getD 0 0)) false) (code (c.getD 1 0)) false } := by
        have hu : ({ WatchS.unlink { W with cl := upd W.cl id c } id with weak := setB (WatchS.unlink { W with cl := upd W.cl id c } id).weak id } : WatchS).view id = { W.view id with cl := c, weak := true, on := upd (upd (W.view id).on (code (c.getD 0 0)) false) (code (c.getD 1 0)) false } := by
          have := unlink_view { W with cl := upd W.cl id c } id id
          rw [if_pos rfl] at this
          simp only [WatchS.view, View.mk.injEq, upd_self] at this ⊢
          exact ⟨this.1, this.2.1, this.2.2.1, by simp [testBit_set], this.2.2.2.2⟩
        unfold visitF; simp only [hc, if_neg hA, e1]
        split
        · exact hu
        · split <;> exact hu
      refine ⟨hA, ?_, hv, ?_⟩
      · intro j a b
        have hm : c.getD j 0 ∈ c.drop 2 := by
          have : (c.drop 2).getD (j - 2) 0 = c.getD j 0 := by simp [List.getD_eq_getElem?_getD, show 2 + (j - 2) = j by omega]
          rw [← this]; exact getD_mem (by simp; omega)
        exact e2 _ hm
      · by_cases v1 : T.value (c.getD 0 0) = -1
        · left; refine ⟨v1, ?_⟩; unfold visitF; simp only [hc, if_neg hA, e1, if_pos v1]
        · right
          by_cases v0 : T.value (c.getD 0 0) = 0
          · left; refine ⟨v0, ?_⟩; unfold visitF; simp only [hc, if_neg hA, e1, if_neg v1, if_pos v0]
          · right; refine ⟨by have := value_bd T (c.getD 0 0); omega, ?_⟩; unfold visitF; simp only [hc, if_neg hA, e1, if_neg v1, if_neg v0]
end Go.Proofs.Qxb6500354aGreat
