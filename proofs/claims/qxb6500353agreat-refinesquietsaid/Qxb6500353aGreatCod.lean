/- Canonical prefix codes, plainly. -/
import Derived.Test.Qxb6500353aGreatTap
namespace Go.Proofs.Qxb6500353aGreat
set_option linter.unusedVariables false
set_option linter.unusedSimpArgs false

/-- The k low bits of v in the opposite order. -/
def rev : Nat → Nat → Nat
  | 0, _ => 0
  | k + 1, v => 2 * rev k v + v / 2 ^ k % 2
theorem rev_lt (k v : Nat) : rev k v < 2 ^ k := by
  induction k with
  | zero => simp [rev]
  | succ k ih => simp only [rev, Nat.pow_succ]; omega
theorem rev_other (k v : Nat) : rev (k + 1) v = rev k (v / 2) + 2 ^ k * (v % 2) := by
  induction k with
  | zero => simp [rev]
  | succ k ih =>
    rw [rev, ih]
    conv => rhs; rw [rev]
    have e : v / 2 ^ (k + 1) = v / 2 / 2 ^ k := by rw [Nat.pow_succ, Nat.mul_comm, Nat.div_div_eq_div_mul]
    have e2 : 2 ^ (k + 1) * (v % 2) = 2 * (2 ^ k * (v % 2)) := by rw [Nat.pow_succ, Nat.mul_comm (2 ^ k), Nat.mul_assoc]
    rw [e, e2]; omega
theorem mod_succ (v k : Nat) : v % 2 ^ (k + 1) = v % 2 ^ k + 2 ^ k * (v / 2 ^ k % 2) := by
  rw [Nat.pow_succ, Nat.mod_mul]
theorem rev_rev (k v : Nat) : rev k (rev k v) = v % 2 ^ k := by
  induction k with
  | zero => simp [rev]; omega
  | succ k ih =>
    rw [rev_other, mod_succ]
    have h1 : rev (k + 1) v / 2 = rev k v := by rw [rev]; omega
    have h2 : rev (k + 1) v % 2 = v / 2 ^ k % 2 := by rw [rev]; omega
    rw [h1, h2, ih]
theorem rev_div (n d v : Nat) : rev (n + d) v / 2 ^ d = rev n v := by
  induction d with
  | zero => simp
  | succ d ih =>
    have : rev (n + (d + 1)) v / 2 = rev (n + d) v := by rw [← Nat.add_assoc, rev]; omega
    rw [Nat.pow_succ, Nat.mul_comm, ← Nat.div_div_eq_div_mul, this, ih]
theorem rev_mod (k m v : Nat) (h : k ≤ m) : rev k (v % 2 ^ m) = rev k v := by
  induction k with
  | zero => simp [rev]
  | succ k ih =>
    rw [rev, rev, ih (by omega)]
    have : v % 2 ^ m / 2 ^ k % 2 = v / 2 ^ k % 2 := by
      rw [two_pow_split k m (by omega), Nat.mod_mul_right_div_self, two_pow_split 1 (m - k) (by omega), Nat.pow_one, Nat.mod_mul_right_mod]
    rw [this]

/-- The first code of n bits. -/
def firstC (l : List Nat) : Nat → Nat
  | 0 => 0
  | 1 => 0
  | n + 2 => 2 * (firstC l (n + 1) + l.count (n + 1))
def below (l : List Nat) : Nat → Nat
  | 0 => 0
  | n + 1 => below l n + l.count (n + 1) * 2 ^ (10 - (n + 1))
def unit10 (x : Nat) : Nat := if x = 0 then 0 else 2 ^ (10 - x)
def kraft (l : List Nat) : Nat := (l.map unit10).sum
def len (l : List Nat) (s : Nat) : Nat := l.getD s 0
def canon (l : List Nat) (s : Nat) : Nat := firstC l (len l s) + (l.take s).count (len l s)
def code (l : List Nat) (s : Nat) : Nat := rev (len l s) (canon l s)

theorem first_below (l : List Nat) (n : Nat) (h : n + 1 ≤ 10) : firstC l (n + 1) * 2 ^ (10 - (n + 1)) = below l n := by
  induction n with
  | zero => simp [firstC, below]
  | succ n ih =>
    have e : 2 ^ (10 - (n + 1)) = 2 * 2 ^ (10 - (n + 1 + 1)) := by
      rw [show 10 - (n + 1) = (10 - (n + 1 + 1)) + 1 by omega, Nat.pow_succ]; omega
    rw [below, ← ih (by omega), firstC, e]
    rw [Nat.mul_comm 2 (_ + _), Nat.mul_assoc, Nat.add_mul]
theorem below_mono (l : List Nat) {a b : Nat} (h : a ≤ b) : below l a ≤ below l b := by
  induction b with
  | zero => have : a = 0 := by omega
            subst this; exact Nat.le_refl _
  | succ b ih =>
    by_cases e : a = b + 1
    · subst e; exact Nat.le_refl _
    · exact Nat.le_trans (ih (by omega)) (by rw [below]; omega)
theorem below_cons (x : Nat) (l : List Nat) (n : Nat) : below (x :: l) n = below l n + if 1 ≤ x ∧ x ≤ n then 2 ^ (10 - x) else 0 := by
  induction n with
  | zero => rw [if_neg (by omega)]; rfl
  | succ n ih =>
    rw [below, below, ih, List.count_cons]
    by_cases h : x = n + 1
    · subst h
      rw [if_neg (by omega), if_pos (by simp), if_pos (by omega), Nat.add_mul]; omega
    · rw [if_neg (c := (x == n + 1) = true) (by simpa using h), Nat.add_zero]
      by_cases h2 : 1 ≤ x ∧ x ≤ n
      · rw [if_pos h2, if_pos (by omega)]; omega
      · rw [if_neg h2, if_neg (by omega)]; omega
theorem kraft_below (l : List Nat) (h : ∀ x ∈ l, x ≤ 10) : kraft l = below l 10 := by
  induction l with
  | nil => rfl
  | cons x l ih =>
    rw [below_cons, ← ih fun y hy => h y (by simp [hy])]
    have hx := h x (by simp)
    simp only [kraft, List.map_cons, List.sum_cons, unit10]
    by_cases e : x = 0
    · subst e; simp
    · rw [if_neg e, if_pos (by omega)]; omega

theorem len_mem {l : List Nat} {s : Nat} (h : 0 < len l s) : s < l.length ∧ len l s ∈ l := by
  unfold len at *
  by_cases hs : s < l.length
  · refine ⟨hs, ?_⟩
    rw [List.getD_eq_getElem?_getD, List.getElem?_eq_getElem hs]
    exact List.getElem_mem _
  · rw [List.getD_eq_getElem?_getD, List.getElem?_eq_none (by omega)] at h
    simp at h
theorem count_take_succ {l : List Nat} {s : Nat} (hs : s < l.length) (n : Nat) : (l.take (s + 1)).count n = (l.take s).count n + if len l s = n then 1 else 0 := by
  rw [List.take_succ_eq_append_getElem hs, List.count_append, List.count_singleton]
  simp [len, List.getD_eq_getElem?_getD, List.getElem?_eq_getElem hs]
theorem count_take_mono (l : List Nat) {a b : Nat} (h : a ≤ b) (n : Nat) : (l.take a).count n ≤ (l.take b).count n := by
  have : l.take a = (l.take b).take a := by rw [List.take_take, Nat.min_eq_left h]
  rw [this]
  exact (List.take_sublist _ _).count_le _
theorem rank_lt {l : List Nat} {s : Nat} (h : 0 < len l s) : (l.take s).count (len l s) < l.count (len l s) := by
  have hs := (len_mem h).1
  have := count_take_succ hs (len l s)
  rw [if_pos rfl] at this
  have h2 := (List.take_sublist (s + 1) l).count_le (len l s)
  omega

structure Fit (l : List Nat) : Prop where
  le : ∀ x ∈ l, x ≤ 10
  kraft : kraft l ≤ 1024

theorem Fit.len_le {l : List Nat} (h : Fit l) (s : Nat) : len l s ≤ 10 := by
  by_cases h0 : 0 < len l s
  · exact h.le _ (len_mem h0).2
  · omega

/-- The codes' shares of the numbers of 10 bits. -/
theorem canon_lo {l : List Nat} (hl : Fit l) {s : Nat} (h : 0 < len l s) : below l (len l s - 1) + (l.take s).count (len l s) * 2 ^ (10 - len l s) = canon l s * 2 ^ (10 - len l s) := by
  have h10 := hl.len_le s
  obtain ⟨n, hn⟩ : ∃ n, len l s = n + 1 := ⟨len l s - 1, by omega⟩
  unfold canon
  rw [Nat.add_mul, hn, Nat.add_sub_cancel, first_below l n (by omega)]
theorem canon_hi {l : List Nat} (hl : Fit l) {s : Nat} (h : 0 < len l s) : (canon l s + 1) * 2 ^ (10 - len l s) ≤ below l (len l s) := by
  have h1 := canon_lo hl h
  have h2 := rank_lt h
  have h10 := hl.len_le s
  obtain ⟨n, hn⟩ : ∃ n, len l s = n + 1 := ⟨len l s - 1, by omega⟩
  rw [Nat.add_mul, Nat.one_mul, ← h1]
  rw [hn] at h2 ⊢
  rw [Nat.add_sub_cancel, below]
  have h3 : ((l.take s).count (n + 1) + 1) * 2 ^ (10 - (n + 1)) ≤ l.count (n + 1) * 2 ^ (10 - (n + 1)) := Nat.mul_le_mul_right _ h2
  rw [Nat.add_mul, Nat.one_mul] at h3
  omega
theorem canon_lt {l : List Nat} (hl : Fit l) {s : Nat} (h : 0 < len l s) : canon l s < 2 ^ len l s := by
  have h1 := canon_hi hl h
  have h10 := hl.len_le s
  have h2 := below_mono l h10
  rw [← kraft_below l hl.le] at h2
  have h3 := hl.kraft
  have h4 : (2 : Nat) ^ 10 = 2 ^ len l s * 2 ^ (10 - len l s) := two_pow_split _ _ h10
  have h5 : (canon l s + 1) * 2 ^ (10 - len l s) ≤ 2 ^ len l s * 2 ^ (10 - len l s) := by rw [← h4]; omega
  exact Nat.le_of_mul_le_mul_right h5 (pw_pos _)
theorem code_lt (l : List Nat) (s : Nat) : code l s < 2 ^ len l s := rev_lt _ _

/-- The bits a begin with the code of s. -/
def Hit (l : List Nat) (s a : Nat) : Prop := 0 < len l s ∧ a % 2 ^ len l s = code l s
theorem Hit.cn {l : List Nat} (hl : Fit l) {s a : Nat} (h : Hit l s a) : rev (len l s) a = canon l s := by
  have h1 : rev (len l s) (a % 2 ^ len l s) = rev (len l s) (rev (len l s) (canon l s)) := by rw [h.2]; rfl
  rw [rev_rev, rev_mod _ _ _ (Nat.le_refl _), Nat.mod_eq_of_lt (canon_lt hl h.1)] at h1
  exact h1
theorem Hit.mk {l : List Nat} (hl : Fit l) {s a : Nat} (h0 : 0 < len l s) (h : rev (len l s) a = canon l s) : Hit l s a := by
  refine ⟨h0, ?_⟩
  rw [code, ← h, rev_rev]
theorem Hit.range {l : List Nat} (hl : Fit l) {s a : Nat} (h : Hit l s a) :
    canon l s * 2 ^ (10 - len l s) ≤ rev 10 a ∧ rev 10 a < (canon l s + 1) * 2 ^ (10 - len l s) := by
  have h1 := h.cn hl
  have h10 := hl.len_le s
  have h2 := rev_div (len l s) (10 - len l s) a
  rw [show len l s + (10 - len l s) = 10 by omega, h1] at h2
  have h3 := Nat.div_add_mod (rev 10 a) (2 ^ (10 - len l s))
  have h4 := Nat.mod_lt (rev 10 a) (pw_pos (10 - len l s))
  rw [h2, Nat.mul_comm] at h3
  rw [Nat.add_mul, Nat.one_mul]
  omega
theorem Hit.uniq {l : List Nat} (hl : Fit l) {s t a : Nat} (h : Hit l s a) (k : Hit l t a) : s = t := by
  have key : ∀ {s t : Nat}, Hit l s a → Hit l t a → len l s < len l t → False := by
    intro s t h k hlt
    have h1 := canon_hi hl h.1
    have h2 := canon_lo hl k.1
    have h3 := (h.range hl).2
    have h4 := (k.range hl).1
    have h5 : below l (len l s) ≤ below l (len l t - 1) := below_mono l (by omega)
    omega
  have e : len l s = len l t := by
    rcases Nat.lt_trichotomy (len l s) (len l t) with h1 | h1 | h1
    · exact (key h k h1).elim
    · exact h1
    · exact (key k h h1).elim
  have e2 : canon l s = canon l t := by rw [← h.cn hl, ← k.cn hl, e]
  unfold canon at e2
  rw [e] at e2
  have e3 : (l.take s).count (len l t) = (l.take t).count (len l t) := by omega
  rcases Nat.lt_trichotomy s t with h1 | h1 | h1
  · have h2 := count_take_succ (len_mem h.1).1 (len l t)
    rw [if_pos e] at h2
    have h3 := count_take_mono l (show s + 1 ≤ t by omega) (len l t)
    omega
  · exact h1
  · have h2 := count_take_succ (len_mem k.1).1 (len l t)
    rw [if_pos rfl] at h2
    have h3 := count_take_mono l (show t + 1 ≤ s by omega) (len l t)
    omega
theorem nth_count (l : List Nat) (n r : Nat) (h : r < l.count n) : ∃ s, s < l.length ∧ len l s = n ∧ (l.take s).count n = r := by
  have : ∀ k, k ≤ l.length → r < (l.take k).count n → ∃ s, s < k ∧ len l s = n ∧ (l.take s).count n = r := by
    intro k
    induction k with
    | zero => intro _ h; simp at h
    | succ k ih =>
      intro hk h
      have h2 := count_take_succ (show k < l.length by omega) n
      by_cases h3 : r < (l.take k).count n
      · obtain ⟨s, h4, h5⟩ := ih (by omega) h3
        exact ⟨s, by omega, h5⟩
      · by_cases h4 : len l k = n
        · rw [if_pos h4] at h2; exact ⟨k, by omega, h4, by omega⟩
        · rw [if_neg h4] at h2; omega
  have h2 := this l.length (Nat.le_refl _) (by rw [List.take_length]; exact h)
  exact h2
/-- Where the codes fill all, every number begins with one. -/
theorem full_hit {l : List Nat} (hl : Fit l) (hk : kraft l = 1024) (a : Nat) : ∃ s, Hit l s a := by
  have hy := rev_lt 10 a
  obtain ⟨y, hyy⟩ : ∃ y, y = rev 10 a := ⟨_, rfl⟩
  rw [← hyy] at hy
  have hb : y < below l 10 := by rw [← kraft_below l hl.le, hk]; exact hy
  have : ∀ n, n ≤ 10 → y < below l n → ∃ m, 1 ≤ m ∧ m ≤ 10 ∧ below l (m - 1) ≤ y ∧ y < below l m := by
    intro n
    induction n with
    | zero => intro _ h; simp [below] at h
    | succ n ih =>
      intro hn h
      by_cases h2 : y < below l n
      · exact ih (by omega) h2
      · exact ⟨n + 1, by omega, hn, by simpa using h2, h⟩
  obtain ⟨m, h1, h2, h3, h4⟩ := this 10 (Nat.le_refl _) hb
  obtain ⟨k, rfl⟩ : ∃ k, m = k + 1 := ⟨m - 1, by omega⟩
  rw [Nat.add_sub_cancel] at h3
  have h5 := first_below l k h2
  rw [below] at h4
  obtain ⟨u, hu⟩ : ∃ u, u = 2 ^ (10 - (k + 1)) := ⟨_, rfl⟩
  rw [← hu] at h4 h5
  have hup : 0 < u := by rw [hu]; exact pw_pos _
  have hr : (y - below l k) / u < l.count (k + 1) := by
    rw [Nat.div_lt_iff_lt_mul hup]; omega
  obtain ⟨s, _, hs2, hs3⟩ := nth_count l (k + 1) _ hr
  refine ⟨s, Hit.mk hl (by omega) ?_⟩
  have h6 := rev_div (k + 1) (10 - (k + 1)) a
  rw [show k + 1 + (10 - (k + 1)) = 10 by omega, ← hyy, ← hu] at h6
  rw [canon, hs2, hs3, ← h6]
  have h7 : y = (y - below l k) + firstC l (k + 1) * u := by omega
  conv => lhs; rw [h7]
  rw [Nat.add_mul_div_right _ _ hup]; omega

/-- A code's own bits, whatever follows. -/
theorem hit_own {l : List Nat} (s : Nat) (h : 0 < len l s) (m : Nat) : Hit l s (code l s + m * 2 ^ len l s) :=
  ⟨h, by rw [Nat.add_mul_mod_self_right, Nat.mod_eq_of_lt (code_lt l s)]⟩
/-- Only the bits of the code count. -/
theorem Hit.mod {l : List Nat} {s a b k : Nat} (h : Hit l s a) (hk : len l s ≤ k) (e : a % 2 ^ k = b % 2 ^ k) : Hit l s b := by
  refine ⟨h.1, ?_⟩
  rw [← h.2, ← mod_pow_mod b _ _ hk, ← e, mod_pow_mod _ _ _ hk]
end Go.Proofs.Qxb6500353aGreat
