/- PLAIN LAW: rup over bits is RupP. -/
import Derived.Test.Qxb6500354aGreatLaw5
import Derived.Test.Qxb6500354aGreatChk5
namespace Go.Proofs.Qxb6500354aGreat
set_option linter.unusedVariables false
set_option linter.unusedSimpArgs false

theorem BS.grow {yes no y2 n2 : Nat} (hy : ∀ i, yes.testBit i = true → y2.testBit i = true) (hn : ∀ i, no.testBit i = true → n2.testBit i = true) {l : Int} (h : BS yes no l) : BS y2 n2 l := by
  refine ⟨h.1, ?_⟩
  have := h.2
  split at this
  · rename_i e; rw [if_pos e]; exact hy _ this
  · rename_i e; rw [if_neg e]; exact hn _ this
theorem sub_or (a b i : Nat) (h : a.testBit i = true) : (a ||| b).testBit i = true := by rw [Nat.testBit_or, h]; rfl
theorem bok_pos {yes no op i : Nat} (h : BOK yes no) (hop : op = 2 ^ i) (ho : (yes ||| no).testBit i = false) : BOK (yes ||| op) no := by
  refine ⟨fun j h1 h2 => ?_⟩
  rw [Nat.testBit_or, Bool.or_eq_true] at h1
  rcases h1 with a | a
  · exact h.dj j a h2
  · rw [hop, Nat.testBit_two_pow, decide_eq_true_eq] at a
    subst a
    rw [Nat.testBit_or, Bool.or_eq_false_iff] at ho
    rw [ho.2] at h2; cases h2
theorem bok_neg {yes no op i : Nat} (h : BOK yes no) (hop : op = 2 ^ i) (ho : (yes ||| no).testBit i = false) : BOK yes (no ||| op) := by
  refine ⟨fun j h1 h2 => ?_⟩
  rw [Nat.testBit_or, Bool.or_eq_true] at h2
  rcases h2 with a | a
  · exact h.dj j h1 a
  · rw [hop, Nat.testBit_two_pow, decide_eq_true_eq] at a
    subst a
    rw [Nat.testBit_or, Bool.or_eq_false_iff] at ho
    rw [ho.1] at h1; cases h1
structure Grown (yes no y2 n2 : Nat) : Prop where
  y : ∀ i, yes.testBit i = true → y2.testBit i = true
  n : ∀ i, no.testBit i = true → n2.testBit i = true
theorem Grown.refl (yes no : Nat) : Grown yes no yes no := ⟨fun _ h => h, fun _ h => h⟩
theorem Grown.trans {a b c d e f : Nat} (h : Grown a b c d) (k : Grown c d e f) : Grown a b e f := ⟨fun i q => k.y i (h.y i q), fun i q => k.n i (h.n i q)⟩
def In (A : Int → Prop) (yes no : Nat) : Prop := ∀ l, BS yes no l → A l
/-- One sweep. -/
theorem sweep_law {sl : Slots} (hok : ∀ s, s < 64 → ∀ c, sl s = some c → checkClause c = 0) : ∀ n s yes no, s + n ≤ 64 → BOK yes no →
    BOK (sweepK sl n s yes no).1 (sweepK sl n s yes no).2.1 ∧ Grown yes no (sweepK sl n s yes no).1 (sweepK sl n s yes no).2.1 ∧
    (∀ A : Int → Prop, Cons A → In A yes no → (∀ k c, s ≤ k → k < s + n → sl k = some c → Ok1 A c) → In A (sweepK sl n s yes no).1 (sweepK sl n s yes no).2.1 ∧ (sweepK sl n s yes no).2.2 = false) ∧
    ((sweepK sl n s yes no).2.2 = false → (sweepK sl n s yes no).1 = yes → (sweepK sl n s yes no).2.1 = no → ∀ k c, s ≤ k → k < s + n → sl k = some c → Ok1 (BS yes no) c) := by
  intro n
  induction n with
  | zero => intro s yes no _ hb; exact ⟨hb, Grown.refl _ _, fun A _ h _ => ⟨h, rfl⟩, fun _ _ _ k c h1 h2 => by omega⟩
  | succ n ih =>
    intro s yes no hs hb
    cases e : sl s with
    | none =>
      rw [sweepK_none e]
      obtain ⟨a, b, c, d⟩ := ih (s + 1) yes no (by omega) hb
      refine ⟨a, b, fun A h1 h2 h3 => c A h1 h2 (fun k c' q1 q2 => h3 k c' (by omega) (by omega)), fun h1 h2 h3 k c' q1 q2 q3 => ?_⟩
      by_cases q : k = s
      · subst q; rw [e] at q3; cases q3
      · exact d h1 h2 h3 k c' (by omega) (by omega) q3
    | some c =>
      have hc := RowOK.of (hok s (by omega) c e)
      rw [sweepK_some e]
      -- the row at hand is passed over
      have hpass : Ok1 (BS yes no) c → BOK (sweepK sl n (s + 1) yes no).1 (sweepK sl n (s + 1) yes no).2.1 ∧ Grown yes no (sweepK sl n (s + 1) yes no).1 (sweepK sl n (s + 1) yes no).2.1 ∧
          (∀ A : Int → Prop, Cons A → In A yes no → (∀ k c, s ≤ k → k < s + (n + 1) → sl k = some c → Ok1 A c) → In A (sweepK sl n (s + 1) yes no).1 (sweepK sl n (s + 1) yes no).2.1 ∧ (sweepK sl n (s + 1) yes no).2.2 = false) ∧
          ((sweepK sl n (s + 1) yes no).2.2 = false → (sweepK sl n (s + 1) yes no).1 = yes → (sweepK sl n (s + 1) yes no).2.1 = no → ∀ k c, s ≤ k → k < s + (n + 1) → sl k = some c → Ok1 (BS yes no) c) := by
        intro hq
        obtain ⟨a, b, c1, d⟩ := ih (s + 1) yes no (by omega) hb
        refine ⟨a, b, fun A h1 h2 h3 => c1 A h1 h2 (fun k c' q1 q2 => h3 k c' (by omega) (by omega)), fun h1 h2 h3 k c' q1 q2 q3 => ?_⟩
        by_cases q : k = s
        · subst q; rw [e] at q3; cases q3; exact hq
        · exact d h1 h2 h3 k c' (by omega) (by omega) q3
      -- a new true literal
      have hnew : ∀ (y2 n2 : Nat) (m : Int), m ∈ c → BOK y2 n2 → Grown yes no y2 n2 → (∀ l, BS y2 n2 l → BS yes no l ∨ l = m) → BS y2 n2 m → ¬ BS yes no m → (∀ l ∈ c, l ≠ m → BS yes no (-l)) →
          BOK (sweepK sl n (s + 1) y2 n2).1 (sweepK sl n (s + 1) y2 n2).2.1 ∧ Grown yes no (sweepK sl n (s + 1) y2 n2).1 (sweepK sl n (s + 1) y2 n2).2.1 ∧
          (∀ A : Int → Prop, Cons A → In A yes no → (∀ k c, s ≤ k → k < s + (n + 1) → sl k = some c → Ok1 A c) → In A (sweepK sl n (s + 1) y2 n2).1 (sweepK sl n (s + 1) y2 n2).2.1 ∧ (sweepK sl n (s + 1) y2 n2).2.2 = false) ∧
          ((sweepK sl n (s + 1) y2 n2).2.2 = false → (sweepK sl n (s + 1) y2 n2).1 = yes → (sweepK sl n (s + 1) y2 n2).2.1 = no → ∀ k c, s ≤ k → k < s + (n + 1) → sl k = some c → Ok1 (BS yes no) c) := by
        intro y2 n2 m hm hb2 hg hl hm2 hm1 hu
        obtain ⟨a, b, c1, d⟩ := ih (s + 1) y2 n2 (by omega) hb2
        refine ⟨a, hg.trans b, fun A h1 h2 h3 => c1 A h1 (fun l q => ?_) (fun k c' q1 q2 => h3 k c' (by omega) (by omega)), fun h1 h2 h3 => ?_⟩
        · rcases hl l q with r | r
          · exact h2 l r
          · subst r
            exact (h3 s c (Nat.le_refl _) (by omega) e).unit h1 (fun x hx hne => h2 _ (hu x hx hne))
        · exfalso
          rw [h2, h3] at b
          exact hm1 (hm2.grow b.y b.n)
      by_cases c1 : (posB c &&& yes) ||| (negB c &&& no) = 0
      · have h1 : ¬ ∃ l ∈ c, BS yes no l := fun q => (true_iff hc).2 q c1
        rw [if_pos c1]
        by_cases c2 : minusB (posB c) (yes ||| no) ||| minusB (negB c) (yes ||| no) = 0
        · rw [if_pos c2]
          refine ⟨hb, Grown.refl _ _, fun A q1 q2 q3 => ?_, fun q => by cases q⟩
          exact ((q3 s c (Nat.le_refl _) (by omega) e).conf q1 (fun l hl => q2 _ (all_false hc h1 c2 l hl))).elim
        · rw [if_neg c2]
          by_cases c3 : minusB (negB c) (yes ||| no) = 0
          · rw [if_pos c3]
            have hne : minusB (posB c) (yes ||| no) ≠ 0 := fun q => c2 (or_zero.2 ⟨q, c3⟩)
            rcases oneB_law _ hne with ⟨q1, i, q2⟩ | ⟨q1, i, j, q2, q3, q4⟩
            · rw [if_pos q1]
              obtain ⟨m, hm, m1, m2, m3⟩ := unit_pos hc h1 c3 q2
              have ho : (yes ||| no).testBit i = false := (op_bit.1 (show (minusB (posB c) (yes ||| no)).testBit i = true by rw [q2, Nat.testBit_two_pow]; simp)).2
              refine hnew _ _ m hm (bok_pos hb q2 ho) ⟨fun j q => sub_or _ _ _ q, fun _ q => q⟩ (fun l q => ?_) ⟨hc.1 m hm, by rw [if_pos m1, Nat.testBit_or, q2, Nat.testBit_two_pow, m2]; simp⟩ (open_not (by rw [m2]; exact ho)).1 m3
              by_cases p : 0 < l
              · have := q.2
                rw [if_pos p, Nat.testBit_or, Bool.or_eq_true, q2, Nat.testBit_two_pow, decide_eq_true_eq] at this
                rcases this with r | r
                · left; exact ⟨q.1, by rw [if_pos p]; exact r⟩
                · right; have := (good_iff l).1 q.1; have := (good_iff m).1 (hc.1 m hm); omega
              · left; have := q.2; rw [if_neg p] at this; exact ⟨q.1, by rw [if_neg p]; exact this⟩
            · rw [if_neg (by rw [q1]; simp)]
              obtain ⟨⟨a, a1, a2, a3⟩, a4⟩ := op_bit.1 q3
              obtain ⟨⟨b, b1, b2, b3⟩, b4⟩ := op_bit.1 q4
              exact hpass (two_open hc a1 b1 (fun r => by subst r; omega) (by rw [a3]; exact a4) (by rw [b3]; exact b4))
          · rw [if_neg c3]
            by_cases c5 : minusB (posB c) (yes ||| no) = 0
            · rw [if_pos c5]
              rcases oneB_law _ c3 with ⟨q1, i, q2⟩ | ⟨q1, i, j, q2, q3, q4⟩
              · rw [if_pos q1]
                obtain ⟨m, hm, m1, m2, m3⟩ := unit_neg hc h1 c5 q2
                have ho : (yes ||| no).testBit i = false := (on_bit.1 (show (minusB (negB c) (yes ||| no)).testBit i = true by rw [q2, Nat.testBit_two_pow]; simp)).2
                refine hnew _ _ m hm (bok_neg hb q2 ho) ⟨fun _ q => q, fun j q => sub_or _ _ _ q⟩ (fun l q => ?_) ⟨hc.1 m hm, by rw [if_neg m1, Nat.testBit_or, q2, Nat.testBit_two_pow, m2]; simp⟩ (open_not (by rw [m2]; exact ho)).1 m3
                by_cases p : 0 < l
                · left; have := q.2; rw [if_pos p] at this; exact ⟨q.1, by rw [if_pos p]; exact this⟩
                · have := q.2
                  rw [if_neg p, Nat.testBit_or, Bool.or_eq_true, q2, Nat.testBit_two_pow, decide_eq_true_eq] at this
                  rcases this with r | r
                  · left; exact ⟨q.1, by rw [if_neg p]; exact r⟩
                  · right; have := (good_iff l).1 q.1; have := (good_iff m).1 (hc.1 m hm); omega
              · rw [if_neg (by rw [q1]; simp)]
                obtain ⟨⟨a, a1, a2, a3⟩, a4⟩ := on_bit.1 q3
                obtain ⟨⟨b, b1, b2, b3⟩, b4⟩ := on_bit.1 q4
                exact hpass (two_open hc a1 b1 (fun r => by subst r; omega) (by rw [a3]; exact a4) (by rw [b3]; exact b4))
            · rw [if_neg c5]
              obtain ⟨i, hi⟩ := bit_of_ne c5
              obtain ⟨j, hj⟩ := bit_of_ne c3
              obtain ⟨⟨a, a1, a2, a3⟩, a4⟩ := op_bit.1 hi
              obtain ⟨⟨b, b1, b2, b3⟩, b4⟩ := on_bit.1 hj
              exact hpass (two_open hc a1 b1 (fun r => by subst r; omega) (by rw [a3]; exact a4) (by rw [b3]; exact b4))
      · rw [if_neg c1]
        obtain ⟨l, hl, hb3⟩ := (true_iff hc).1 c1
        exact hpass (.inl ⟨l, hl, hb3⟩)
def openN (yes no : Nat) : Nat := (List.range 12).countP fun i => !(yes ||| no).testBit i
theorem openN_lt {yes no y2 n2 : Nat} (hb : BOK y2 n2) (hg : Grown yes no y2 n2) (hy : y2 < 2 ^ 12) (hn : n2 < 2 ^ 12) (hne : ¬ (y2 = yes ∧ n2 = no)) : openN y2 n2 < openN yes no := by
  obtain ⟨i, hi, h1, h2⟩ : ∃ i, i < 12 ∧ (y2 ||| n2).testBit i = true ∧ (yes ||| no).testBit i = false := by
    by_cases e : y2 = yes
    · have e2 : n2 ≠ no := fun q => hne ⟨e, q⟩
      have : ∃ i, n2.testBit i ≠ no.testBit i := by
        apply Classical.byContradiction; intro q; exact e2 (Nat.eq_of_testBit_eq fun i => Classical.byContradiction fun r => q ⟨i, r⟩)
      obtain ⟨i, hi⟩ := this
      cases a : no.testBit i with
      | true => exact absurd ((hg.n i a).trans a.symm) hi
      | false =>
        rw [a] at hi
        have a2 : n2.testBit i = true := by simpa using hi
        refine ⟨i, ?_, by rw [Nat.testBit_or, a2]; simp, ?_⟩
        · rcases Nat.lt_or_ge i 12 with q | q
          · exact q
          · rw [Nat.testBit_lt_two_pow (Nat.lt_of_lt_of_le hn (Nat.pow_le_pow_right (by omega) q))] at a2; cases a2
        · rw [Nat.testBit_or, a, Bool.or_false]
          cases b : yes.testBit i with
          | false => rfl
          | true => exact (hb.dj i (hg.y i b) a2).elim
    · have : ∃ i, y2.testBit i ≠ yes.testBit i := by
        apply Classical.byContradiction; intro q; exact e (Nat.eq_of_testBit_eq fun i => Classical.byContradiction fun r => q ⟨i, r⟩)
      obtain ⟨i, hi⟩ := this
      cases a : yes.testBit i with
      | true => exact absurd ((hg.y i a).trans a.symm) hi
      | false =>
        rw [a] at hi
        have a2 : y2.testBit i = true := by simpa using hi
        refine ⟨i, ?_, by rw [Nat.testBit_or, a2]; simp, ?_⟩
        · rcases Nat.lt_or_ge i 12 with q | q
          · exact q
          · rw [Nat.testBit_lt_two_pow (Nat.lt_of_lt_of_le hy (Nat.pow_le_pow_right (by omega) q))] at a2; cases a2
        · rw [Nat.testBit_or, a, Bool.false_or]
          cases b : no.testBit i with
          | false => rfl
          | true => exact (hb.dj i a2 (hg.n i b)).elim
  unfold openN
  have hsub : ∀ j, (!(y2 ||| n2).testBit j) = true → (!(yes ||| no).testBit j) = true := by
    intro j hj
    rw [Bool.not_eq_true', Nat.testBit_or, Bool.or_eq_false_iff] at hj ⊢
    refine ⟨?_, ?_⟩
    · cases b : yes.testBit j with
      | false => rfl
      | true => rw [hg.y j b] at hj; exact absurd hj.1 (by simp)
    · cases b : no.testBit j with
      | false => rfl
      | true => rw [hg.n j b] at hj; exact absurd hj.2 (by simp)
  have gen : ∀ n, i < n → (List.range n).countP (fun j => !(y2 ||| n2).testBit j) < (List.range n).countP (fun j => !(yes ||| no).testBit j) := by
    intro n
    induction n with
    | zero => intro h; omega
    | succ n ih =>
      intro h
      rw [List.range_succ, List.countP_append, List.countP_append]
      by_cases e : i = n
      · subst e
        have hm : (List.range i).countP (fun j => !(y2 ||| n2).testBit j) ≤ (List.range i).countP (fun j => !(yes ||| no).testBit j) := List.countP_mono_left (fun j _ => hsub j)
        simp only [List.countP_cons, List.countP_nil, h1, h2]
        simp only [Bool.not_true, Bool.not_false, Bool.false_eq_true, if_false, if_true]
        omega
      · have := ih (by omega)
        have hm : [n].countP (fun j => !(y2 ||| n2).testBit j) ≤ [n].countP (fun j => !(yes ||| no).testBit j) := List.countP_mono_left (fun j _ => hsub j)
        omega
  exact gen 12 hi
end Go.Proofs.Qxb6500354aGreat
