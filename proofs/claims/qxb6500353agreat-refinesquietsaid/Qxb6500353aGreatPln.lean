/- The planning of lengths, plainly: groups joined two by two; the sums of Kraft. -/
import Derived.Test.Qxb6500353aGreatHep
import Derived.Test.Qxb6500353aGreatCod
namespace Go.Proofs.Qxb6500353aGreat
set_option linter.unusedVariables false
set_option linter.unusedSimpArgs false

/-- Sums and counts over the numbers below n. -/
def sumTo (f : Nat → Nat) : Nat → Nat
  | 0 => 0
  | n + 1 => sumTo f n + f n
def cntTo (p : Nat → Bool) (n : Nat) : Nat := sumTo (fun i => if p i then 1 else 0) n
theorem sumTo_congr {f g : Nat → Nat} {n : Nat} (h : ∀ i, i < n → f i = g i) : sumTo f n = sumTo g n := by
  induction n with
  | zero => rfl
  | succ n ih => rw [sumTo, sumTo, ih fun i hi => h i (by omega), h n (by omega)]
theorem cntTo_congr {p q : Nat → Bool} {n : Nat} (h : ∀ i, i < n → p i = q i) : cntTo p n = cntTo q n :=
  sumTo_congr fun i hi => by rw [h i hi]
theorem cntTo_mono {p q : Nat → Bool} {n : Nat} (h : ∀ i, i < n → p i = true → q i = true) : cntTo p n ≤ cntTo q n := by
  induction n with
  | zero => exact Nat.le_refl _
  | succ n ih =>
    have h1 := ih fun i hi => h i (by omega)
    have h2 := h n (by omega)
    unfold cntTo at *
    simp only [sumTo]
    cases hp : p n
    · simp; omega
    · rw [h2 hp]; simp; omega
theorem cntTo_zero {p : Nat → Bool} {n : Nat} (h : ∀ i, i < n → p i = false) : cntTo p n = 0 := by
  induction n with
  | zero => rfl
  | succ n ih =>
    have h1 := ih fun i hi => h i (by omega)
    unfold cntTo at *
    simp only [sumTo, h1, h n (by omega)]; rfl
theorem sumTo_add (f g : Nat → Nat) (n : Nat) : sumTo (fun i => f i + g i) n = sumTo f n + sumTo g n := by
  induction n with
  | zero => rfl
  | succ n ih => simp only [sumTo, ih]; omega
theorem sumTo_le {f g : Nat → Nat} {n : Nat} (h : ∀ i, i < n → f i ≤ g i) : sumTo f n ≤ sumTo g n := by
  induction n with
  | zero => exact Nat.le_refl _
  | succ n ih => have := ih fun i hi => h i (by omega); have := h n (by omega); simp only [sumTo]; omega
theorem sumTo_zero {f : Nat → Nat} {n : Nat} (h : ∀ i, i < n → f i = 0) : sumTo f n = 0 := by
  induction n with
  | zero => rfl
  | succ n ih => rw [sumTo, ih fun i hi => h i (by omega), h n (by omega)]
theorem sumTo_one {f : Nat → Nat} {n i : Nat} (hi : i < n) : f i ≤ sumTo f n := by
  induction n with
  | zero => omega
  | succ n ih =>
    rw [sumTo]
    by_cases e : i = n
    · subst e; omega
    · have := ih (by omega); omega
theorem sumTo_two {f : Nat → Nat} {n i j : Nat} (hij : i < j) (hj : j < n) : f i + f j ≤ sumTo f n := by
  induction n with
  | zero => omega
  | succ n ih =>
    rw [sumTo]
    by_cases e : j = n
    · subst e; have := sumTo_one (f := f) hij; omega
    · have := ih (by omega); omega
theorem sumTo_upd (f : Nat → Nat) {n i : Nat} (hi : i < n) (x : Nat) : sumTo (upd f i x) n + f i = sumTo f n + x := by
  induction n with
  | zero => omega
  | succ n ih =>
    rw [sumTo, sumTo]
    by_cases e : i = n
    · subst e
      have : sumTo (upd f i x) i = sumTo f i := sumTo_congr fun j hj => upd_ne _ _ _ _ (by omega)
      rw [this, upd_self]; omega
    · rw [upd_ne _ _ _ _ (by omega)]; have := ih (by omega); omega
theorem sumTo_mul (f : Nat → Nat) (c n : Nat) : sumTo (fun i => c * f i) n = c * sumTo f n := by
  induction n with
  | zero => rfl
  | succ n ih => simp only [sumTo, ih, Nat.mul_add]
theorem sumTo_lt {f g : Nat → Nat} {n i : Nat} (h : ∀ i, i < n → f i ≤ g i) (hi : i < n) (hlt : f i < g i) : sumTo f n < sumTo g n := by
  induction n with
  | zero => omega
  | succ n ih =>
    rw [sumTo, sumTo]
    have h1 := h n (by omega)
    by_cases e : i = n
    · subst e; have := sumTo_le (n := i) fun j hj => h j (by omega); omega
    · have := ih (fun j hj => h j (by omega)) (by omega); omega

/-- The groups. -/
structure Gp where
  lens : Nat → Nat
  grp : Nat → Nat
  w : Nat → Nat
  h : Nat → Nat
def gless (w h : Nat → Nat) (a b : Nat) : Prop := w a < w b ∨ w a = w b ∧ h a < h b
instance (w h : Nat → Nat) (a b : Nat) : Decidable (gless w h a b) := by unfold gless; infer_instance
/-- The least living group below g, but for one. -/
def leastF (w h : Nat → Nat) (no : Option Nat) : Nat → Option Nat
  | 0 => none
  | g + 1 =>
    if 0 < w g ∧ some g ≠ no then
      match leastF w h no g with
      | none => some g
      | some b => if gless w h g b then some g else some b
    else leastF w h no g
theorem leastF_none {w h : Nat → Nat} {no : Option Nat} {n : Nat} (e : leastF w h no n = none) : ∀ g, g < n → 0 < w g → some g = no := by
  induction n with
  | zero => intro g hg; omega
  | succ n ih =>
    intro g hg hw
    rw [leastF] at e
    by_cases h1 : 0 < w n ∧ some n ≠ no
    · rw [if_pos h1] at e
      split at e
      · cases e
      · split at e <;> cases e
    · rw [if_neg h1] at e
      by_cases e2 : g = n
      · subst e2
        refine Classical.byContradiction fun hc => h1 ⟨hw, hc⟩
      · exact ih e g (by omega) hw
theorem leastF_some {w h : Nat → Nat} {no : Option Nat} {n b : Nat} (e : leastF w h no n = some b) :
    b < n ∧ 0 < w b ∧ some b ≠ no ∧ ∀ g, g < n → 0 < w g → some g ≠ no → g ≠ b → (w b < w g ∨ w b = w g ∧ (h b < h g ∨ h b = h g ∧ b < g)) := by
  induction n generalizing b with
  | zero => simp [leastF] at e
  | succ n ih =>
    rw [leastF] at e
    by_cases h1 : 0 < w n ∧ some n ≠ no
    · rw [if_pos h1] at e
      split at e
      · rename_i e2
        have hb : b = n := by injection e with e; exact e.symm
        subst hb
        refine ⟨by omega, h1.1, h1.2, fun g hg hw hn hne => ?_⟩
        exact absurd (leastF_none e2 g (by omega) hw) hn
      · rename_i b0 e2
        obtain ⟨i1, i2, i3, i4⟩ := ih e2
        by_cases h2 : gless w h n b0
        · rw [if_pos h2] at e
          have hb : b = n := by injection e with e; exact e.symm
          subst hb
          refine ⟨by omega, h1.1, h1.2, fun g hg hw hn hne => ?_⟩
          unfold gless at h2
          by_cases e3 : g = b0
          · subst e3; omega
          · have := i4 g (by omega) hw hn e3; omega
        · rw [if_neg h2] at e
          have hb : b = b0 := by injection e with e; exact e.symm
          subst hb
          refine ⟨by omega, i2, i3, fun g hg hw hn hne => ?_⟩
          by_cases e3 : g = n
          · subst e3; unfold gless at h2; omega
          · exact i4 g (by omega) hw hn hne
    · rw [if_neg h1] at e
      obtain ⟨i1, i2, i3, i4⟩ := ih e
      refine ⟨by omega, i2, i3, fun g hg hw hn hne => ?_⟩
      by_cases e3 : g = n
      · subst e3; exact absurd ⟨hw, hn⟩ h1
      · exact i4 g (by omega) hw hn hne

def Gp.start (c : Nat → Nat) : Gp := ⟨fun _ => 0, fun i => i, c, fun _ => 0⟩
def Gp.join (c : Nat → Nat) (s : Gp) (a b : Nat) : Gp where
  lens := fun i => if 0 < c i ∧ (s.grp i = a ∨ s.grp i = b) then s.lens i + 1 else s.lens i
  grp := fun i => if 0 < c i ∧ (s.grp i = a ∨ s.grp i = b) then a else s.grp i
  w := upd (upd s.w a (s.w a + s.w b)) b 0
  h := upd s.h a (max (s.h a) (s.h b) + 1)
/-- One join of the two least. -/
def Gp.turn (c : Nat → Nat) (n : Nat) (s : Gp) : Gp :=
  match leastF s.w s.h none n with
  | none => s
  | some a => match leastF s.w s.h (some a) n with
    | none => s
    | some b => s.join c a b
def plainF (c : Nat → Nat) (n : Nat) : Nat → Gp → Gp
  | 0, s => s
  | k + 1, s => plainF c n k (s.turn c n)
def usedN (c : Nat → Nat) (n : Nat) : Nat := cntTo (fun i => decide (0 < c i)) n
def liveN (s : Gp) (n : Nat) : Nat := cntTo (fun g => decide (0 < s.w g)) n
/-- The share of group g, in units of 2^-D. -/
def share (c : Nat → Nat) (s : Gp) (n D g : Nat) : Nat := sumTo (fun i => if 0 < c i ∧ s.grp i = g then 2 ^ (D - s.lens i) else 0) n

structure GpOK (c : Nat → Nat) (n : Nat) (s : Gp) : Prop where
  live : ∀ i, i < n → 0 < c i → s.grp i < n ∧ 0 < s.w (s.grp i)
  dead : ∀ i, i < n → c i = 0 → s.lens i = 0
  share : ∀ D g, g < n → 0 < s.w g → (∀ i, i < n → 0 < c i → s.grp i = g → s.lens i ≤ D) → Qxb6500353aGreat.share c s n D g = 2 ^ D
  tot : sumTo s.w n = sumTo c n
  deep : ∀ i, i < n → s.lens i + liveN s n ≤ usedN c n
  high : ∀ g, g < n → s.h g + liveN s n ≤ usedN c n
theorem cnt_two {p : Nat → Bool} {n : Nat} (h : 2 ≤ cntTo p n) : ∃ a b, a < b ∧ b < n ∧ p a = true ∧ p b = true := by
  have one : ∀ n, 1 ≤ cntTo p n → ∃ a, a < n ∧ p a = true := by
    intro n
    induction n with
    | zero => intro h; simp [cntTo, sumTo] at h
    | succ n ih =>
      intro h
      by_cases e : p n = true
      · exact ⟨n, by omega, e⟩
      · have : cntTo p (n + 1) = cntTo p n := by simp [cntTo, sumTo, e]
        obtain ⟨a, ha, h2⟩ := ih (by omega)
        exact ⟨a, by omega, h2⟩
  induction n with
  | zero => simp [cntTo, sumTo] at h
  | succ n ih =>
    by_cases e : p n = true
    · have : cntTo p (n + 1) = cntTo p n + 1 := by simp [cntTo, sumTo, e]
      obtain ⟨a, ha, h2⟩ := one n (by omega)
      exact ⟨a, n, ha, by omega, h2, e⟩
    · have : cntTo p (n + 1) = cntTo p n := by simp [cntTo, sumTo, e]
      obtain ⟨a, b, h1, h2, h3⟩ := ih (by omega)
      exact ⟨a, b, h1, by omega, h3⟩
theorem cntTo_le (p : Nat → Bool) (n : Nat) : cntTo p n ≤ n := by
  induction n with
  | zero => simp [cntTo, sumTo]
  | succ n ih => simp only [cntTo, sumTo] at *; split <;> omega
theorem least_two {w h : Nat → Nat} {n : Nat} (h2 : 2 ≤ cntTo (fun g => decide (0 < w g)) n) :
    ∃ a b, leastF w h none n = some a ∧ leastF w h (some a) n = some b := by
  obtain ⟨x, y, h3, h4, h5, h6⟩ := cnt_two h2
  simp only [decide_eq_true_eq] at h5 h6
  cases e : leastF w h none n with
  | none => have := leastF_none e x (by omega) h5; cases this
  | some a =>
    cases e2 : leastF w h (some a) n with
    | none =>
      have h7 := leastF_none e2 x (by omega) h5
      have h8 := leastF_none e2 y h4 h6
      injection h7 with h7
      injection h8 with h8
      omega
    | some b => exact ⟨a, b, rfl, e2⟩
theorem start_ok (c : Nat → Nat) (n : Nat) : GpOK c n (Gp.start c) ∧ liveN (Gp.start c) n = usedN c n := by
  refine ⟨⟨fun i hi hc => ⟨hi, hc⟩, fun _ _ _ => rfl, fun D g hg hw hD => ?_, rfl, fun i _ => ?_, fun g _ => ?_⟩, rfl⟩
  · have hwc : 0 < c g := hw
    have e0 : Qxb6500353aGreat.share c (Gp.start c) n D g = sumTo (fun i => if 0 < c i ∧ i = g then 2 ^ D else 0) n := rfl
    have : ∀ m, m ≤ n → sumTo (fun i => if 0 < c i ∧ i = g then 2 ^ D else 0) m = if g < m then 2 ^ D else 0 := by
      intro m
      induction m with
      | zero => intro _; rfl
      | succ m ih =>
        intro hm
        rw [sumTo, ih (by omega)]
        by_cases e : m = g
        · subst e
          simp [hwc]
        · have e3 : ¬ (0 < c m ∧ m = g) := fun h => e h.2
          by_cases e2 : g < m
          · have : g < m + 1 := by omega
            simp [e, e2, this]
          · have : ¬ g < m + 1 := by omega
            simp [e, e2, this]
    rw [e0, this n (Nat.le_refl _), if_pos hg]
  · show 0 + usedN c n ≤ usedN c n; omega
  · show 0 + usedN c n ≤ usedN c n; omega
theorem join_live {s : Gp} {c : Nat → Nat} {n a b : Nat} (ha : a < n) (hb : b < n) (hab : a ≠ b) (wa : 0 < s.w a) (wb : 0 < s.w b) : liveN (s.join c a b) n + 1 = liveN s n := by
  unfold liveN cntTo
  have h1 := sumTo_upd (fun i => if decide (0 < s.w i) = true then 1 else 0) hb 0
  have h2 : sumTo (fun i => if decide (0 < (s.join c a b).w i) = true then 1 else 0) n = sumTo (upd (fun i => if decide (0 < s.w i) = true then 1 else 0) b 0) n := by
    refine sumTo_congr fun i hi => ?_
    by_cases e1 : i = b
    · have hw : (s.join c a b).w i = 0 := by rw [e1]; exact upd_self _ _ _
      have hr : upd (fun i => if decide (0 < s.w i) = true then 1 else 0) b 0 i = 0 := by rw [e1]; exact upd_self _ _ _
      rw [hr]; simp [hw]
    · have hr : upd (fun i => if decide (0 < s.w i) = true then 1 else 0) b 0 i = if decide (0 < s.w i) = true then 1 else 0 := upd_ne _ _ _ _ e1
      rw [hr]
      by_cases e2 : i = a
      · have hw : 0 < (s.join c a b).w i := by
          show 0 < upd (upd s.w a (s.w a + s.w b)) b 0 i
          rw [upd_ne _ _ _ _ e1, e2, upd_self]; omega
        have hs : 0 < s.w i := by rw [e2]; exact wa
        simp [hw, hs]
      · have hw : (s.join c a b).w i = s.w i := by
          show upd (upd s.w a (s.w a + s.w b)) b 0 i = s.w i
          rw [upd_ne _ _ _ _ e1, upd_ne _ _ _ _ e2]
        simp [hw]
  rw [h2]
  simp only [wb, decide_true, if_true] at h1
  omega
theorem join_ok {c : Nat → Nat} {n : Nat} {s : Gp} (h : GpOK c n s) {a b : Nat} (ha : a < n) (hb : b < n) (hab : a ≠ b) (wa : 0 < s.w a) (wb : 0 < s.w b) : GpOK c n (s.join c a b) := by
  have hlive := join_live (c := c) ha hb hab wa wb
  refine ⟨fun i hi hc => ?_, fun i hi hc => ?_, fun D g hg hw hD => ?_, ?_, fun i hi => ?_, fun g hg => ?_⟩
  · have h1 := h.live i hi hc
    simp only [Gp.join]
    by_cases e : s.grp i = a ∨ s.grp i = b
    · rw [if_pos ⟨hc, e⟩]
      refine ⟨ha, ?_⟩
      rw [upd_ne _ _ _ _ hab, upd_self]; omega
    · rw [if_neg (fun k => e k.2)]
      refine ⟨h1.1, ?_⟩
      rw [upd_ne _ _ _ _ (fun k => e (.inr k)), upd_ne _ _ _ _ (fun k => e (.inl k))]; exact h1.2
  · simp only [Gp.join]
    rw [if_neg (by omega)]; exact h.dead i hi hc
  · by_cases e : g = a
    · subst e
      by_cases hD0 : D = 0
      · exfalso
        -- some symbol stands in the group, and has become one deeper
        have hsum : share c s n (usedN c n) g = 2 ^ usedN c n := h.share (usedN c n) g hg wa (fun i hi hc _ => by have := h.deep i hi; omega)
        have : ∃ i, i < n ∧ 0 < c i ∧ s.grp i = g := by
          refine Classical.byContradiction fun hc => ?_
          have : share c s n (usedN c n) g = 0 := sumTo_zero fun i hi => by
            rw [if_neg (fun k => hc ⟨i, hi, k⟩)]
          have := pw_pos (usedN c n)
          omega
        obtain ⟨i, hi, hc, hg2⟩ := this
        have := hD i hi hc (by simp [Gp.join, hc, hg2])
        simp [Gp.join, hc, hg2] at this; omega
      · have hA := h.share (D - 1) g hg wa (fun i hi hc hgi => by
          have := hD i hi hc (by simp [Gp.join, hc, hgi])
          simp [Gp.join, hc, hgi] at this; omega)
        have hB := h.share (D - 1) b hb wb (fun i hi hc hgi => by
          have := hD i hi hc (by simp [Gp.join, hc, hgi])
          simp [Gp.join, hc, hgi] at this; omega)
        have : share c (s.join c g b) n D g = share c s n (D - 1) g + share c s n (D - 1) b := by
          unfold share
          rw [← sumTo_add]
          refine sumTo_congr fun i hi => ?_
          simp only [Gp.join]
          by_cases hc : 0 < c i
          · by_cases e1 : s.grp i = g
            · have e2 : ¬ s.grp i = b := by rw [e1]; exact hab
              simp only [hc, e1, true_or, true_and, and_self, if_true]
              rw [if_neg (fun k => e2 (by rw [e1]; exact k))]
              congr 1; omega
            · by_cases e2 : s.grp i = b
              · simp only [hc, e1, e2, or_true, true_and, and_self, if_true]
                rw [if_neg (fun k => hab k.symm)]
                have : D - (s.lens i + 1) = D - 1 - s.lens i := by omega
                rw [this]; simp
              · simp [hc, e1, e2]
          · simp [hc]
        rw [this, hA, hB, show D = (D - 1) + 1 by omega, Nat.pow_succ]; simp; omega
    · by_cases e2 : g = b
      · subst e2
        simp only [Gp.join] at hw
        rw [upd_self] at hw; omega
      · have hw2 : 0 < s.w g := by
          simp only [Gp.join] at hw
          rwa [upd_ne _ _ _ _ e2, upd_ne _ _ _ _ e] at hw
        have heq : ∀ i, 0 < c i → ((s.join c a b).grp i = g ↔ s.grp i = g) := by
          intro i hc
          simp only [Gp.join]
          by_cases e3 : s.grp i = a ∨ s.grp i = b
          · rw [if_pos ⟨hc, e3⟩]
            constructor
            · intro k; exact absurd k.symm e
            · intro k; rcases e3 with e3 | e3
              · exact absurd (k.symm.trans e3) e
              · exact absurd (k.symm.trans e3) e2
          · rw [if_neg (fun k => e3 k.2)]
        have hlen : ∀ i, 0 < c i → s.grp i = g → (s.join c a b).lens i = s.lens i := by
          intro i hc k
          simp only [Gp.join]
          rw [if_neg]
          rintro ⟨_, k2 | k2⟩
          · exact e (k.symm.trans k2)
          · exact e2 (k.symm.trans k2)
        rw [← h.share D g hg hw2 (fun i hi hc k => by have := hD i hi hc ((heq i hc).2 k); rwa [hlen i hc k] at this)]
        unfold share
        refine sumTo_congr fun i hi => ?_
        by_cases hc : 0 < c i
        · by_cases k : s.grp i = g
          · rw [if_pos ⟨hc, (heq i hc).2 k⟩, if_pos ⟨hc, k⟩, hlen i hc k]
          · rw [if_neg (fun q => k ((heq i hc).1 q.2)), if_neg (fun q => k q.2)]
        · rw [if_neg (fun q => hc q.1), if_neg (fun q => hc q.1)]
  · rw [← h.tot]
    simp only [Gp.join]
    have h1 := sumTo_upd (upd s.w a (s.w a + s.w b)) hb 0
    have h2 := sumTo_upd s.w ha (s.w a + s.w b)
    rw [upd_ne _ _ _ _ (fun k => hab k.symm)] at h1
    omega
  · have := h.deep i hi
    simp only [Gp.join] at hlive ⊢
    split <;> omega
  · have h1 := h.high g hg
    have h2 := h.high a ha
    have h3 := h.high b hb
    have hh : (s.join c a b).h g = if g = a then max (s.h a) (s.h b) + 1 else s.h g := rfl
    rw [hh]
    split <;> omega
theorem turn_ok {c : Nat → Nat} {n : Nat} {s : Gp} (h : GpOK c n s) (h2 : 2 ≤ liveN s n) :
    ∃ a b, leastF s.w s.h none n = some a ∧ leastF s.w s.h (some a) n = some b ∧ a < n ∧ b < n ∧ a ≠ b ∧ 0 < s.w a ∧ 0 < s.w b ∧ s.turn c n = s.join c a b ∧ GpOK c n (s.turn c n) ∧ liveN (s.turn c n) n + 1 = liveN s n := by
  obtain ⟨a, b, e1, e2⟩ := least_two (h := s.h) h2
  have h3 := leastF_some e1
  have h4 := leastF_some e2
  have hab : a ≠ b := fun k => h4.2.2.1 (by rw [k])
  have e3 : s.turn c n = s.join c a b := by unfold Gp.turn; rw [e1]; simp only; rw [e2]
  refine ⟨a, b, e1, e2, h3.1, h4.1, hab, h3.2.1, h4.2.1, e3, ?_, ?_⟩
  · rw [e3]; exact join_ok h h3.1 h4.1 hab h3.2.1 h4.2.1
  · rw [e3]; exact join_live h3.1 h4.1 hab h3.2.1 h4.2.1
theorem plain_ok {c : Nat → Nat} {n : Nat} (k : Nat) : ∀ s, GpOK c n s → liveN s n = k + 1 → GpOK c n (plainF c n k s) ∧ liveN (plainF c n k s) n = 1 := by
  induction k with
  | zero => intro s h h1; exact ⟨h, h1⟩
  | succ k ih =>
    intro s h h1
    obtain ⟨a, b, _, _, _, _, _, _, _, _, h5, h6⟩ := turn_ok h (by omega)
    exact ih _ h5 (by omega)
/-- The lengths of the tree. -/
def treeF (c : Nat → Nat) (n : Nat) : Nat → Nat := (plainF c n (usedN c n - 1) (Gp.start c)).lens
theorem cnt_one {p : Nat → Bool} {n a b : Nat} (h : cntTo p n = 1) (ha : a < n) (hb : b < n) (pa : p a = true) (pb : p b = true) : a = b := by
  rcases Nat.lt_trichotomy a b with h1 | h1 | h1
  · have := sumTo_two (f := fun i => if p i then 1 else 0) h1 hb
    simp only [pa, pb, if_true] at this; unfold cntTo at h; omega
  · exact h1
  · have := sumTo_two (f := fun i => if p i then 1 else 0) h1 ha
    simp only [pa, pb, if_true] at this; unfold cntTo at h; omega
/-- Kraft's sum of the tree is one. -/
theorem tree_kraft {c : Nat → Nat} {n : Nat} (h2 : 1 ≤ usedN c n) (D : Nat) (hD : ∀ i, i < n → treeF c n i ≤ D) :
    sumTo (fun i => if 0 < c i then 2 ^ (D - treeF c n i) else 0) n = 2 ^ D := by
  obtain ⟨h3, h4⟩ := start_ok c n
  obtain ⟨h5, h6⟩ := plain_ok (usedN c n - 1) _ h3 (by omega)
  have hg : ∃ g, g < n ∧ 0 < (plainF c n (usedN c n - 1) (Gp.start c)).w g := by
    refine Classical.byContradiction fun hc => ?_
    have : liveN (plainF c n (usedN c n - 1) (Gp.start c)) n = 0 := sumTo_zero fun i hi => by
      rw [if_neg]; simp only [decide_eq_true_eq]; exact fun k => hc ⟨i, hi, k⟩
    omega
  obtain ⟨g, hg, hw⟩ := hg
  have hall : ∀ i, i < n → 0 < c i → (plainF c n (usedN c n - 1) (Gp.start c)).grp i = g := by
    intro i hi hc
    have h7 := h5.live i hi hc
    exact cnt_one h6 h7.1 hg (by simpa using h7.2) (by simpa using hw)
  rw [← h5.share D g hg hw (fun i hi _ _ => hD i hi)]
  refine sumTo_congr fun i hi => ?_
  by_cases hc : 0 < c i
  · rw [if_pos hc, if_pos ⟨hc, hall i hi hc⟩]; rfl
  · rw [if_neg hc, if_neg (fun k => hc k.1)]
theorem tree_dead {c : Nat → Nat} {n : Nat} (h2 : 1 ≤ usedN c n) (i : Nat) (hi : i < n) (hc : c i = 0) : treeF c n i = 0 := by
  obtain ⟨h3, h4⟩ := start_ok c n
  obtain ⟨h5, h6⟩ := plain_ok (usedN c n - 1) _ h3 (by omega)
  exact h5.dead i hi hc
theorem tree_deep {c : Nat → Nat} {n : Nat} (h2 : 1 ≤ usedN c n) (i : Nat) (hi : i < n) : treeF c n i + 1 ≤ usedN c n := by
  obtain ⟨h3, h4⟩ := start_ok c n
  obtain ⟨h5, h6⟩ := plain_ok (usedN c n - 1) _ h3 (by omega)
  have := h5.deep i hi
  unfold treeF; omega
/-- Two used symbols or more: none has the length 0. -/
theorem tree_used {c : Nat → Nat} {n : Nat} (h2 : 2 ≤ usedN c n) (i : Nat) (hi : i < n) (hc : 0 < c i) : 0 < treeF c n i := by
  refine Nat.pos_of_ne_zero fun h0 => ?_
  have h3 := tree_kraft (c := c) (n := n) (by omega) (usedN c n) (fun i hi => by have := tree_deep (c := c) (n := n) (by omega) i hi; omega)
  obtain ⟨x, y, h4, h5, h6, h7⟩ := cnt_two h2
  simp only [decide_eq_true_eq] at h6 h7
  have key : ∀ j, j < n → 0 < c j → j ≠ i → False := by
    intro j hj hcj hne
    have hp := pw_pos (usedN c n - treeF c n j)
    rcases Nat.lt_or_gt_of_ne hne with h8 | h8
    · have := sumTo_two (f := fun i => if 0 < c i then 2 ^ (usedN c n - treeF c n i) else 0) h8 hi
      simp only [hc, hcj, if_true, h0, Nat.sub_zero] at this
      omega
    · have := sumTo_two (f := fun i => if 0 < c i then 2 ^ (usedN c n - treeF c n i) else 0) h8 hj
      simp only [hc, hcj, if_true, h0, Nat.sub_zero] at this
      omega
  by_cases e : x = i
  · exact key y h5 h7 (by omega)
  · exact key x (by omega) h6 e
end Go.Proofs.Qxb6500353aGreat
