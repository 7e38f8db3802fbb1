/- The two tables of a code, plainly: the three sweeps, and what a look answers. -/
import Derived.Test.Qxb6500353aGreatFnd
namespace Go.Proofs.Qxb6500353aGreat
set_option linter.unusedVariables false
set_option linter.unusedSimpArgs false

/-- Sweep one, over the symbols below s. -/
def lay1 (l : List Nat) : Nat → Nat → Int
  | 0, _ => 0
  | s + 1, p =>
    if 6 < len l s then
      if p = code l s % 64 ∧ -(lay1 l s p) < (len l s : Int) - 6 then 6 - (len l s : Int) else lay1 l s p
    else if 0 < len l s then
      if p % 2 ^ len l s = code l s then ((s * 16 + len l s : Nat) : Int) else lay1 l s p
    else lay1 l s p
/-- The cells of the second tables ahead of p's. -/
def topF (R : Nat → Int) : Nat → Nat
  | 0 => 0
  | p + 1 => topF R p + if R p < 0 then 2 ^ (-R p).toNat else 0
def lay2 (R : Nat → Int) (p : Nat) : Int := if R p < 0 then -((topF R p * 16 + (-R p).toNat : Nat) : Int) else R p
/-- Sweep three, over the symbols below s. -/
def lay3 (l : List Nat) (R : Nat → Int) : Nat → Nat → Nat
  | 0, _ => 0
  | s + 1, x =>
    if 6 < len l s ∧ topF R (code l s % 64) ≤ x ∧ x < topF R (code l s % 64) + 2 ^ (-R (code l s % 64)).toNat ∧ (x - topF R (code l s % 64)) % 2 ^ (len l s - 6) = code l s / 64 then s * 16 + len l s
    else lay3 l R s x

structure TabOK (l : List Nat) (root sub : Nat → Int) : Prop where
  lo : ∀ p, p < 64 → root p = lay2 (lay1 l l.length) p
  hi : ∀ x, x < topF (lay1 l l.length) 64 → sub x = (lay3 l (lay1 l l.length) l.length x : Nat)

def lookT (root sub : Nat → Int) (a : Nat) : Int :=
  if root (a % 64) < 0 then sub ((-root (a % 64)).toNat / 16 + a / 64 % 2 ^ ((-root (a % 64)).toNat % 16)) else root (a % 64)

theorem len_lt {l : List Nat} {s : Nat} (h : 0 < len l s) : s < l.length := (len_mem h).1
theorem lay1_pos {l : List Nat} (s : Nat) : ∀ p, 0 < lay1 l s p → ∃ t, t < s ∧ Hit l t p ∧ len l t ≤ 6 ∧ lay1 l s p = ((t * 16 + len l t : Nat) : Int) := by
  induction s with
  | zero => intro p h; simp [lay1] at h
  | succ s ih =>
    intro p h
    have up : (∃ t, t < s ∧ Hit l t p ∧ len l t ≤ 6 ∧ lay1 l s p = ((t * 16 + len l t : Nat) : Int)) → ∃ t, t < s + 1 ∧ Hit l t p ∧ len l t ≤ 6 ∧ lay1 l s p = ((t * 16 + len l t : Nat) : Int) := by
      rintro ⟨t, a, b⟩; exact ⟨t, by omega, b⟩
    rw [lay1] at h ⊢
    by_cases h6 : 6 < len l s
    · rw [if_pos h6] at h ⊢
      by_cases h7 : p = code l s % 64 ∧ -(lay1 l s p) < (len l s : Int) - 6
      · rw [if_pos h7] at h; omega
      · rw [if_neg h7] at h ⊢; exact up (ih p h)
    · rw [if_neg h6] at h ⊢
      by_cases h0 : 0 < len l s
      · rw [if_pos h0] at h ⊢
        by_cases h7 : p % 2 ^ len l s = code l s
        · rw [if_pos h7] at h ⊢
          exact ⟨s, by omega, ⟨h0, h7⟩, by omega, rfl⟩
        · rw [if_neg h7] at h ⊢; exact up (ih p h)
      · rw [if_neg h0] at h ⊢; exact up (ih p h)
theorem lay1_hit {l : List Nat} (hl : Fit l) {t p : Nat} (hp : p < 64) (ht : Hit l t p) (h6 : len l t ≤ 6) (s : Nat) (hts : t < s) : lay1 l s p = ((t * 16 + len l t : Nat) : Int) := by
  induction s with
  | zero => omega
  | succ s ih =>
    rw [lay1]
    by_cases e : s = t
    · subst e
      rw [if_neg (by omega), if_pos ht.1, if_pos ht.2]
    · have ih2 := ih (by omega)
      by_cases h7 : 6 < len l s
      · rw [if_pos h7]
        by_cases h8 : p = code l s % 64 ∧ -(lay1 l s p) < (len l s : Int) - 6
        · exfalso
          have h9 := hit_own (l := l) s (by omega) 0
          rw [Nat.zero_mul, Nat.add_zero] at h9
          have h10 : Hit l t (code l s) := Hit.mod (k := 6) ht h6 (by rw [h8.1]; simp)
          exact e (Hit.uniq hl h9 h10)
        · rw [if_neg h8]; exact ih2
      · rw [if_neg h7]
        by_cases h0 : 0 < len l s
        · rw [if_pos h0]
          by_cases h8 : p % 2 ^ len l s = code l s
          · exact absurd (Hit.uniq hl ⟨h0, h8⟩ ht) e
          · rw [if_neg h8]; exact ih2
        · rw [if_neg h0]; exact ih2
/-- A longer code that begins with p: the note is wide enough. -/
theorem lay1_wide {l : List Nat} {t p : Nat} (hp : p = code l t % 64) (h6 : 6 < len l t) (hno : ∀ u, Hit l u p → 6 < len l u) (s : Nat) (hts : t < s) : lay1 l s p ≤ 6 - (len l t : Int) := by
  induction s with
  | zero => omega
  | succ s ih =>
    rw [lay1]
    by_cases e : s = t
    · subst e
      rw [if_pos h6]
      by_cases h8 : p = code l s % 64 ∧ -(lay1 l s p) < (len l s : Int) - 6
      · rw [if_pos h8]; exact Int.le_refl _
      · rw [if_neg h8]
        have : ¬ (-(lay1 l s p) < (len l s : Int) - 6) := fun h => h8 ⟨hp, h⟩
        omega
    · have ih2 := ih (by omega)
      by_cases h7 : 6 < len l s
      · rw [if_pos h7]
        by_cases h8 : p = code l s % 64 ∧ -(lay1 l s p) < (len l s : Int) - 6
        · rw [if_pos h8]; omega
        · rw [if_neg h8]; exact ih2
      · rw [if_neg h7]
        by_cases h0 : 0 < len l s
        · rw [if_pos h0]
          by_cases h8 : p % 2 ^ len l s = code l s
          · have := hno s ⟨h0, h8⟩; omega
          · rw [if_neg h8]; exact ih2
        · rw [if_neg h0]; exact ih2
theorem lay1_ge {l : List Nat} (hl : Fit l) (s p : Nat) : -4 ≤ lay1 l s p := by
  induction s with
  | zero => simp [lay1]
  | succ s ih =>
    have := hl.len_le s
    rw [lay1]; repeat' split
    all_goals omega
theorem lay1_neg {l : List Nat} (s : Nat) : ∀ p, lay1 l s p < 0 → ∃ t, t < s ∧ 6 < len l t ∧ p = code l t % 64 := by
  induction s with
  | zero => intro p h; simp [lay1] at h
  | succ s ih =>
    intro p h
    rw [lay1] at h
    have up : (∃ t, t < s ∧ 6 < len l t ∧ p = code l t % 64) → ∃ t, t < s + 1 ∧ 6 < len l t ∧ p = code l t % 64 := by
      rintro ⟨t, a, b⟩; exact ⟨t, by omega, b⟩
    by_cases h6 : 6 < len l s
    · rw [if_pos h6] at h
      by_cases h7 : p = code l s % 64 ∧ -(lay1 l s p) < (len l s : Int) - 6
      · exact ⟨s, by omega, h6, h7.1⟩
      · rw [if_neg h7] at h; exact up (ih p h)
    · rw [if_neg h6] at h
      by_cases h0 : 0 < len l s
      · rw [if_pos h0] at h
        by_cases h7 : p % 2 ^ len l s = code l s
        · rw [if_pos h7] at h; omega
        · rw [if_neg h7] at h; exact up (ih p h)
      · rw [if_neg h0] at h; exact up (ih p h)
theorem topF_mono (R : Nat → Int) {a b : Nat} (h : a ≤ b) : topF R a ≤ topF R b := by
  induction b with
  | zero => have : a = 0 := by omega
            subst this; exact Nat.le_refl _
  | succ b ih =>
    by_cases e : a = b + 1
    · subst e; exact Nat.le_refl _
    · exact Nat.le_trans (ih (by omega)) (by rw [topF]; omega)
theorem topF_le (R : Nat → Int) (h : ∀ p, -4 ≤ R p) (p : Nat) : topF R p ≤ 16 * p := by
  induction p with
  | zero => simp [topF]
  | succ p ih =>
    rw [topF]
    have : 2 ^ (-R p).toNat ≤ 2 ^ 4 := Nat.pow_le_pow_right (by decide) (by have := h p; omega)
    split <;> omega
theorem top_step {R : Nat → Int} {p : Nat} (h : R p < 0) : topF R (p + 1) = topF R p + 2 ^ (-R p).toNat := by rw [topF, if_pos h]
/-- The second tables lie apart. -/
theorem top_apart {R : Nat → Int} {p q x : Nat} (hp : R p < 0) (hq : R q < 0) (h1 : topF R p ≤ x) (h2 : x < topF R p + 2 ^ (-R p).toNat) (h3 : topF R q ≤ x) (h4 : x < topF R q + 2 ^ (-R q).toNat) : p = q := by
  rcases Nat.lt_trichotomy p q with h | h | h
  · have := topF_mono R (show p + 1 ≤ q from h); rw [top_step hp] at this; omega
  · exact h
  · have := topF_mono R (show q + 1 ≤ p from h); rw [top_step hq] at this; omega
theorem lay3_hit {l : List Nat} (hl : Fit l) {R : Nat → Int} (hR : R = lay1 l l.length) {t a : Nat} (ht : Hit l t a) (h6 : 6 < len l t) (hw : R (a % 64) ≤ 6 - (len l t : Int)) (s : Nat) (hts : t < s) (hs : s ≤ l.length) :
    lay3 l R s (topF R (a % 64) + a / 64 % 2 ^ (-R (a % 64)).toNat) = t * 16 + len l t := by
  have hca : a % 64 = code l t % 64 := by
    rw [← ht.2, show (64 : Nat) = 2 ^ 6 from rfl, mod_pow_mod _ _ _ (by omega)]
  have hc2 : a / 64 % 2 ^ (len l t - 6) = code l t / 64 := by
    rw [← ht.2, two_pow_split 6 (len l t) (by omega), show (2 : Nat) ^ 6 = 64 from rfl, Nat.mod_mul_right_div_self]
  induction s with
  | zero => omega
  | succ s ih =>
    rw [lay3]
    by_cases e : s = t
    · subst e
      rw [if_pos]
      refine ⟨h6, ?_⟩
      rw [← hca]
      have := Nat.mod_lt (a / 64) (pw_pos (-R (a % 64)).toNat)
      refine ⟨by omega, by omega, ?_⟩
      rw [Nat.add_sub_cancel_left, mod_pow_mod _ _ _ (by omega), hc2]
    · rw [if_neg]
      · exact ih (by omega) (by omega)
      · rintro ⟨k6, k1, k2, k3⟩
        have hR2 : R (code l s % 64) < 0 := by
          have h9 := lay1_wide (l := l) (t := s) (p := code l s % 64) rfl k6 (fun u hu => by
            refine Classical.byContradiction fun hc => ?_
            have h9 := hit_own (l := l) s (by omega) 0
            rw [Nat.zero_mul, Nat.add_zero] at h9
            have h10 : Hit l u (code l s) := Hit.mod (k := 6) hu (by omega) (by simp)
            have := Hit.uniq hl h9 h10
            subst this; omega) l.length (by omega)
          rw [hR]; omega
        have hb := Nat.mod_lt (a / 64) (pw_pos (-R (a % 64)).toNat)
        have h11 := top_apart (x := topF R (a % 64) + a / 64 % 2 ^ (-R (a % 64)).toNat) (show R (a % 64) < 0 by omega) hR2 (by omega) (by omega) k1 k2
        rw [← h11, Nat.add_sub_cancel_left] at k3
        have hws : len l s - 6 ≤ (-R (a % 64)).toNat := by
          have h9 := lay1_wide (l := l) (t := s) (p := code l s % 64) rfl k6 (fun u hu => by
            refine Classical.byContradiction fun hc => ?_
            have h9 := hit_own (l := l) s (by omega) 0
            rw [Nat.zero_mul, Nat.add_zero] at h9
            have h10 : Hit l u (code l s) := Hit.mod (k := 6) hu (by omega) (by simp)
            have := Hit.uniq hl h9 h10
            subst this; omega) l.length (by omega)
          rw [← hR, ← h11] at h9; omega
        rw [mod_pow_mod _ _ _ hws] at k3
        have h12 : Hit l s a := by
          refine ⟨by omega, ?_⟩
          have h13 : a % 2 ^ len l s = a % 64 + 64 * (a / 64 % 2 ^ (len l s - 6)) := by
            rw [two_pow_split 6 (len l s) (by omega), show (2 : Nat) ^ 6 = 64 from rfl, Nat.mod_mul]
          rw [h13, k3, h11]; omega
        exact e (Hit.uniq hl h12 ht)
theorem lay3_no {l : List Nat} {R : Nat → Int} (hR : R = lay1 l l.length) (hl : Fit l) {a : Nat} (hn : ∀ s, ¬ Hit l s a) (h0 : R (a % 64) < 0) (s : Nat) (hs : s ≤ l.length) :
    lay3 l R s (topF R (a % 64) + a / 64 % 2 ^ (-R (a % 64)).toNat) = 0 := by
  induction s with
  | zero => rfl
  | succ s ih =>
    rw [lay3, if_neg]
    · exact ih (by omega)
    · rintro ⟨k6, k1, k2, k3⟩
      have h9 := lay1_wide (l := l) (t := s) (p := code l s % 64) rfl k6 (fun u hu => by
        refine Classical.byContradiction fun hc => ?_
        have h9 := hit_own (l := l) s (by omega) 0
        rw [Nat.zero_mul, Nat.add_zero] at h9
        have h10 : Hit l u (code l s) := Hit.mod (k := 6) hu (by omega) (by simp)
        have := Hit.uniq hl h9 h10
        subst this; omega) l.length (by omega)
      rw [← hR] at h9
      have hb := Nat.mod_lt (a / 64) (pw_pos (-R (a % 64)).toNat)
      have h11 := top_apart (x := topF R (a % 64) + a / 64 % 2 ^ (-R (a % 64)).toNat) h0 (show R (code l s % 64) < 0 by omega) (by omega) (by omega) k1 k2
      rw [← h11, Nat.add_sub_cancel_left] at k3
      have hws : len l s - 6 ≤ (-R (a % 64)).toNat := by rw [← h11] at h9; omega
      rw [mod_pow_mod _ _ _ hws] at k3
      refine hn s ⟨by omega, ?_⟩
      have h13 : a % 2 ^ len l s = a % 64 + 64 * (a / 64 % 2 ^ (len l s - 6)) := by
        rw [two_pow_split 6 (len l s) (by omega), show (2 : Nat) ^ 6 = 64 from rfl, Nat.mod_mul]
      rw [h13, k3, h11]; omega
theorem lookT_ok {l : List Nat} (hl : Fit l) {root sub : Nat → Int} (h : TabOK l root sub) (a : Nat) : lookT root sub a = (look l a : Nat) := by
  obtain ⟨R, hR⟩ : ∃ R, R = lay1 l l.length := ⟨_, rfl⟩
  have hp : a % 64 < 64 := Nat.mod_lt _ (by decide)
  have hlo := h.lo _ hp
  have hhi := h.hi
  rw [← hR] at hlo hhi
  have hge : ∀ p, -4 ≤ R p := fun p => by rw [hR]; exact lay1_ge hl _ _
  have hneg : R (a % 64) < 0 → lookT root sub a = (lay3 l R l.length (topF R (a % 64) + a / 64 % 2 ^ (-R (a % 64)).toNat) : Nat) := by
    intro h0
    unfold lookT
    rw [hlo, lay2, if_pos h0]
    have h4 := hge (a % 64)
    have e1 : (- -((topF R (a % 64) * 16 + (-R (a % 64)).toNat : Nat) : Int)).toNat = topF R (a % 64) * 16 + (-R (a % 64)).toNat := by omega
    rw [e1, if_pos (by omega)]
    have e2 : (topF R (a % 64) * 16 + (-R (a % 64)).toNat) / 16 = topF R (a % 64) := by omega
    have e3 : (topF R (a % 64) * 16 + (-R (a % 64)).toNat) % 16 = (-R (a % 64)).toNat := by omega
    rw [e2, e3]
    refine hhi _ ?_
    have hb := Nat.mod_lt (a / 64) (pw_pos (-R (a % 64)).toNat)
    have := topF_mono R (show a % 64 + 1 ≤ 64 by omega)
    rw [top_step h0] at this
    omega
  by_cases hx : ∃ s, Hit l s a
  · obtain ⟨s, hs⟩ := hx
    rw [look_hit hl hs]
    by_cases h6 : 6 < len l s
    · have hca : a % 64 = code l s % 64 := by
        rw [← hs.2, show (64 : Nat) = 2 ^ 6 from rfl, mod_pow_mod _ _ _ (by omega)]
      have hw : R (a % 64) ≤ 6 - (len l s : Int) := by
        rw [hR]
        refine lay1_wide hca h6 (fun u hu => ?_) _ (len_lt hs.1)
        refine Classical.byContradiction fun hc => ?_
        have h10 : Hit l u a := Hit.mod (k := 6) hu (by omega) (by simp)
        have := Hit.uniq hl hs h10
        subst this; omega
      rw [hneg (by omega), lay3_hit hl hR hs h6 hw _ (len_lt hs.1) (Nat.le_refl _)]
    · have hs2 : Hit l s (a % 64) := Hit.mod (k := 6) hs (by omega) (by simp)
      have e : R (a % 64) = ((s * 16 + len l s : Nat) : Int) := by rw [hR]; exact lay1_hit hl hp hs2 (by omega) _ (len_lt hs.1)
      unfold lookT
      rw [hlo, lay2, if_neg (by omega), if_neg (by omega), e]
  · have hn : ∀ s, ¬ Hit l s a := fun s hs => hx ⟨s, hs⟩
    rw [look_no hn]
    by_cases h0 : R (a % 64) < 0
    · rw [hneg h0, lay3_no hR hl hn h0 _ (Nat.le_refl _)]
    · unfold lookT
      rw [hlo, lay2, if_neg h0, if_neg h0]
      by_cases h1 : R (a % 64) = 0
      · rw [h1]; rfl
      · exfalso
        obtain ⟨t, _, ht, h6, _⟩ := lay1_pos (l := l) l.length (a % 64) (by rw [← hR]; omega)
        exact hn t (Hit.mod (k := 6) ht h6 (by simp))
/-- Where the second tables are, for a longer code. -/
theorem link_ok {l : List Nat} (hl : Fit l) {s : Nat} (h6 : 6 < len l s) : lay1 l l.length (code l s % 64) ≤ 6 - (len l s : Int) := by
  refine lay1_wide rfl h6 (fun u hu => ?_) _ (len_lt (by omega))
  refine Classical.byContradiction fun hc => ?_
  have h9 := hit_own (l := l) s (by omega) 0
  rw [Nat.zero_mul, Nat.add_zero] at h9
  have h10 : Hit l u (code l s) := Hit.mod (k := 6) hu (by omega) (by simp)
  have := Hit.uniq hl h9 h10
  subst this; omega
end Go.Proofs.Qxb6500353aGreat
