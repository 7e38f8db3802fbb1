/- The heap of living nodes, plainly. -/
import Derived.Test.Qxb6500353aGreatTap
namespace Go.Proofs.Qxb6500353aGreat
set_option linter.unusedVariables false
set_option linter.unusedSimpArgs false

def upd {α : Type} (f : Nat → α) (i : Nat) (x : α) (j : Nat) : α := if j = i then x else f j
theorem upd_self {α : Type} (f : Nat → α) (i : Nat) (x : α) : upd f i x i = x := by simp [upd]
theorem upd_ne {α : Type} (f : Nat → α) (i : Nat) (x : α) (j : Nat) (h : j ≠ i) : upd f i x j = f j := by simp [upd, h]
theorem upd_cast (f : Nat → Nat) (i x : Nat) : upd (fun j => ((f j : Nat) : Int)) i ((x : Nat) : Int) = fun j => ((upd f i x j : Nat) : Int) := by
  funext j; unfold upd; split <;> rfl

/-- The order of the nodes. -/
structure Key where
  w : Nat → Nat
  h : Nat → Nat
  m : Nat → Nat
def Key.less (k : Key) (x y : Nat) : Prop := k.w x < k.w y ∨ k.w x = k.w y ∧ (k.h x < k.h y ∨ k.h x = k.h y ∧ k.m x < k.m y)
instance (k : Key) (x y : Nat) : Decidable (k.less x y) := by unfold Key.less; infer_instance
theorem Key.trans {k : Key} {x y z : Nat} (a : k.less x y) (b : k.less y z) : k.less x z := by unfold Key.less at *; omega
theorem Key.irr (k : Key) (x : Nat) : ¬ k.less x x := by unfold Key.less; omega
theorem Key.ntrans {k : Key} {x y z : Nat} (a : ¬ k.less x y) (b : ¬ k.less y z) : ¬ k.less x z := by unfold Key.less at *; omega
theorem Key.asym {k : Key} {x y : Nat} (a : k.less x y) : ¬ k.less y x := by unfold Key.less at *; omega

def swp (H : Nat → Nat) (i p : Nat) : Nat → Nat := upd (upd H i (H p)) p (H i)

/-- What stands in the heap: the nodes of S, each once. -/
structure Holds (H : Nat → Nat) (n : Nat) (S : Nat → Prop) : Prop where
  mem : ∀ i, i < n → S (H i)
  surj : ∀ x, S x → ∃ i, i < n ∧ H i = x
  inj : ∀ i j, i < n → j < n → H i = H j → i = j
structure Heap (k : Key) (H : Nat → Nat) (n : Nat) (S : Nat → Prop) : Prop extends Holds H n S where
  ord : ∀ j, 0 < j → j < n → ¬ k.less (H j) (H ((j - 1) / 2))

theorem swp_at (H : Nat → Nat) (i p j : Nat) : swp H i p j = if j = p then H i else if j = i then H p else H j := by
  unfold swp upd; rfl
theorem Holds.swap {H : Nat → Nat} {n : Nat} {S : Nat → Prop} (h : Holds H n S) {i p : Nat} (hi : i < n) (hp : p < n) : Holds (swp H i p) n S := by
  refine ⟨fun j hj => ?_, fun x hx => ?_, fun a b ha hb e => ?_⟩
  · rw [swp_at]; split
    · exact h.mem _ hi
    · split
      · exact h.mem _ hp
      · exact h.mem _ hj
  · obtain ⟨j, hj, e⟩ := h.surj x hx
    by_cases e1 : j = p
    · refine ⟨i, hi, ?_⟩
      rw [swp_at]
      by_cases e2 : i = p
      · rw [if_pos e2, e2, ← e1, e]
      · rw [if_neg e2, if_pos rfl, ← e1, e]
    · by_cases e2 : j = i
      · exact ⟨p, hp, by rw [swp_at, if_pos rfl, ← e2, e]⟩
      · exact ⟨j, hj, by rw [swp_at, if_neg e1, if_neg e2, e]⟩
  · have hs : ∀ j, swp H i p j = H (if j = p then i else if j = i then p else j) := by
      intro j; rw [swp_at]; split
      · rfl
      · split <;> rfl
    rw [hs, hs] at e
    have h1 : ∀ j, j < n → (if j = p then i else if j = i then p else j) < n := by intro j hj; split; exact hi; split; exact hp; exact hj
    have h2 := h.inj _ _ (h1 a ha) (h1 b hb) e
    split at h2 <;> split at h2 <;> (try split at h2) <;> (try split at h2) <;> omega

/-- The node at i may be too small for its place. -/
structure Up (k : Key) (H : Nat → Nat) (n i : Nat) : Prop where
  ord : ∀ j, 0 < j → j < n → j ≠ i → ¬ k.less (H j) (H ((j - 1) / 2))
  grand : ∀ j, 0 < j → j < n → (j - 1) / 2 = i → 0 < i → ¬ k.less (H j) (H ((i - 1) / 2))
theorem Up.step {k : Key} {H : Nat → Nat} {n i : Nat} (h : Up k H n i) (hi : i < n) (h0 : 0 < i) (hl : k.less (H i) (H ((i - 1) / 2))) : Up k (swp H i ((i - 1) / 2)) n ((i - 1) / 2) := by
  obtain ⟨p, hp⟩ : ∃ p, p = (i - 1) / 2 := ⟨_, rfl⟩
  rw [← hp] at hl ⊢
  refine ⟨fun j hj0 hj hjp => ?_, fun j hj0 hj hjp hp0 => ?_⟩
  · rw [swp_at, swp_at, if_neg hjp]
    by_cases e1 : j = i
    · subst e1
      rw [if_pos rfl, if_pos hp.symm]
      exact Key.asym hl
    · rw [if_neg e1]
      have ho := h.ord j hj0 hj e1
      by_cases e2 : (j - 1) / 2 = p
      · rw [if_pos e2]
        rw [e2] at ho
        exact fun hc => ho (Key.trans hc hl)
      · rw [if_neg e2]
        by_cases e3 : (j - 1) / 2 = i
        · rw [if_pos e3]
          have := h.grand j hj0 hj e3 h0
          rw [← hp] at this; exact this
        · rw [if_neg e3]; exact ho
  · have ej : swp H i p j = if j = i then H p else H j := by rw [swp_at, if_neg (by omega)]
    have eg : swp H i p ((p - 1) / 2) = H ((p - 1) / 2) := by rw [swp_at, if_neg (by omega), if_neg (by omega)]
    rw [ej, eg]
    have hop := h.ord p hp0 (by omega) (by omega)
    by_cases e1 : j = i
    · rw [if_pos e1]; exact hop
    · rw [if_neg e1]
      have ho := h.ord j hj0 hj e1
      rw [hjp] at ho
      exact Key.ntrans ho hop
theorem Up.done {k : Key} {H : Nat → Nat} {n i : Nat} (h : Up k H n i) (hl : i = 0 ∨ ¬ k.less (H i) (H ((i - 1) / 2))) : ∀ j, 0 < j → j < n → ¬ k.less (H j) (H ((j - 1) / 2)) := by
  intro j hj0 hj
  by_cases e : j = i
  · subst e
    rcases hl with rfl | hl
    · omega
    · exact hl
  · exact h.ord j hj0 hj e
/-- The node at i may be too great for its place. -/
structure Dn (k : Key) (H : Nat → Nat) (n i : Nat) : Prop where
  ord : ∀ j, 0 < j → j < n → (j - 1) / 2 ≠ i → ¬ k.less (H j) (H ((j - 1) / 2))
  grand : ∀ j, 0 < j → j < n → (j - 1) / 2 = i → 0 < i → ¬ k.less (H j) (H ((i - 1) / 2))
theorem Dn.step {k : Key} {H : Nat → Nat} {n i c : Nat} (h : Dn k H n i) (hc : c < n) (hc1 : c = 2 * i + 1 ∨ c = 2 * i + 2)
    (hb : ∀ d, d < n → (d = 2 * i + 1 ∨ d = 2 * i + 2) → ¬ k.less (H d) (H c)) (hl : k.less (H c) (H i)) : Dn k (swp H i c) n c := by
  refine ⟨fun j hj0 hj hjc => ?_, fun j hj0 hj hjc hc0 => ?_⟩
  · rw [swp_at, swp_at]
    by_cases e1 : j = c
    · rw [if_pos e1, if_neg hjc]
      have : (j - 1) / 2 = i := by omega
      rw [if_pos this]
      exact Key.asym hl
    · rw [if_neg e1, if_neg hjc]
      by_cases e2 : j = i
      · subst e2
        rw [if_pos rfl, if_neg (by omega)]
        exact h.grand c (by omega) hc (by omega) hj0
      · rw [if_neg e2]
        by_cases e3 : (j - 1) / 2 = i
        · rw [if_pos e3]
          exact hb j hj (by omega)
        · rw [if_neg e3]
          exact h.ord j hj0 hj e3
  · have e : (c - 1) / 2 = i := by omega
    have ej : swp H i c j = H j := by rw [swp_at, if_neg (by omega), if_neg (by omega)]
    have ei : swp H i c i = H c := by rw [swp_at, if_neg (by omega), if_pos rfl]
    rw [e, ej, ei]
    have := h.ord j hj0 hj (by omega)
    rw [hjc] at this; exact this
theorem Dn.done {k : Key} {H : Nat → Nat} {n i : Nat} (h : Dn k H n i) (hl : ∀ d, d < n → (d = 2 * i + 1 ∨ d = 2 * i + 2) → ¬ k.less (H d) (H i)) : ∀ j, 0 < j → j < n → ¬ k.less (H j) (H ((j - 1) / 2)) := by
  intro j hj0 hj
  by_cases e : (j - 1) / 2 = i
  · rw [e]; exact hl j hj (by omega)
  · exact h.ord j hj0 hj e
theorem Heap.least {k : Key} {H : Nat → Nat} {n : Nat} {S : Nat → Prop} (h : Heap k H n S) : ∀ x, S x → ¬ k.less x (H 0) := by
  have : ∀ j, j < n → ¬ k.less (H j) (H 0) := by
    intro j
    induction j using Nat.strongRecOn with
    | _ j ih =>
      intro hj
      by_cases h0 : j = 0
      · subst h0; exact Key.irr _ _
      · exact Key.ntrans (h.ord j (by omega) hj) (ih ((j - 1) / 2) (by omega) (by omega))
  intro x hx
  obtain ⟨j, hj, rfl⟩ := h.surj x hx
  exact this j hj
/-- The start of a push: the new node at the end. -/
theorem Heap.push_start {k : Key} {H : Nat → Nat} {n : Nat} {S : Nat → Prop} (h : Heap k H n S) {x : Nat} (hx : ¬ S x) :
    Holds (upd H n x) (n + 1) (fun y => S y ∨ y = x) ∧ Up k (upd H n x) (n + 1) n := by
  refine ⟨⟨fun i hi => ?_, fun y hy => ?_, fun a b ha hb e => ?_⟩, ⟨fun j h0 hj hn => ?_, fun j h0 hj hn hn0 => ?_⟩⟩
  · by_cases e : i = n
    · subst e; right; exact upd_self _ _ _
    · left; rw [upd_ne _ _ _ _ e]; exact h.mem _ (by omega)
  · rcases hy with hy | rfl
    · obtain ⟨i, hi, e⟩ := h.surj y hy
      exact ⟨i, by omega, by rw [upd_ne _ _ _ _ (by omega)]; exact e⟩
    · exact ⟨n, by omega, upd_self _ _ _⟩
  · by_cases e1 : a = n <;> by_cases e2 : b = n
    · omega
    · subst e1; rw [upd_self, upd_ne _ _ _ _ e2] at e
      exact absurd (by rw [e]; exact h.mem _ (by omega)) hx
    · subst e2; rw [upd_self, upd_ne _ _ _ _ e1] at e
      exact absurd (by rw [← e]; exact h.mem _ (by omega)) hx
    · rw [upd_ne _ _ _ _ e1, upd_ne _ _ _ _ e2] at e
      exact h.inj _ _ (by omega) (by omega) e
  · rw [upd_ne _ _ _ _ hn, upd_ne _ _ _ _ (by omega)]
    exact h.ord j h0 (by omega)
  · omega
/-- The start of a pop: the last node in the first one's place. -/
theorem Heap.pop_start {k : Key} {H : Nat → Nat} {n : Nat} {S : Nat → Prop} (h : Heap k H (n + 1) S) :
    (0 < n → Holds (upd H 0 (H n)) n (fun y => S y ∧ y ≠ H 0)) ∧ (n = 0 → ∀ y, ¬ (S y ∧ y ≠ H 0)) ∧ Dn k (upd H 0 (H n)) n 0 := by
  refine ⟨fun hn => ⟨fun i hi => ?_, fun y hy => ?_, fun a b ha hb e => ?_⟩, fun hn y hy => ?_, ⟨fun j h0 hj hn => ?_, fun j h0 hj hn hn0 => by omega⟩⟩
  · by_cases e : i = 0
    · subst e; rw [upd_self]
      exact ⟨h.mem _ (by omega), fun e => by have := h.inj _ _ (by omega) (by omega) e; omega⟩
    · rw [upd_ne _ _ _ _ e]
      exact ⟨h.mem _ (by omega), fun e2 => e (h.inj _ _ (by omega) (by omega) e2)⟩
  · obtain ⟨i, hi, e⟩ := h.surj y hy.1
    by_cases e1 : i = n
    · exact ⟨0, hn, by rw [upd_self, ← e1, e]⟩
    · refine ⟨i, by omega, ?_⟩
      rw [upd_ne _ _ _ _ (fun e0 => hy.2 (by rw [← e, e0]))]; exact e
  · by_cases e1 : a = 0 <;> by_cases e2 : b = 0
    · omega
    · subst e1; rw [upd_self, upd_ne _ _ _ _ e2] at e
      have := h.inj _ _ (by omega) (by omega) e; omega
    · subst e2; rw [upd_self, upd_ne _ _ _ _ e1] at e
      have := h.inj _ _ (by omega) (by omega) e; omega
    · rw [upd_ne _ _ _ _ e1, upd_ne _ _ _ _ e2] at e
      exact h.inj _ _ (by omega) (by omega) e
  · obtain ⟨i, hi, e⟩ := h.surj y hy.1
    have : i = 0 := by omega
    subst this; exact hy.2 e.symm
  · rw [upd_ne _ _ _ _ (by omega), upd_ne _ _ _ _ hn]
    exact h.ord j h0 (by omega)
theorem swp_upd (H : Nat → Nat) (i p x : Nat) (h : i ≠ p) : swp (upd H i x) i p = upd (upd H i (H p)) p x := by
  funext j
  rw [swp_at, upd_self, upd_ne _ _ _ p (by omega)]
  unfold upd
  by_cases e : j = p
  · simp [e]
  · by_cases e2 : j = i <;> simp [e, e2]
end Go.Proofs.Qxb6500353aGreat
