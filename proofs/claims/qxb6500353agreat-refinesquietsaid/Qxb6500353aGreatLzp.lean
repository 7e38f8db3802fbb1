/- The matcher, plainly: the best match, the tokens; the chains. -/
import Derived.Test.Qxb6500353aGreatHep
namespace Go.Proofs.Qxb6500353aGreat
set_option linter.unusedVariables false
set_option linter.unusedSimpArgs false

def by_ (s : List Nat) (i : Nat) : Nat := s.getD i 0
/-- How many bytes at i agree with those d before, beyond the first n; k more may be looked at. -/
def agG (s : List Nat) (i d : Nat) : Nat → Nat → Nat
  | 0, n => n
  | k + 1, n => if i + n < s.length ∧ by_ s (i + n) = by_ s (i + n - d) then agG s i d k (n + 1) else n
def agF (s : List Nat) (i d : Nat) : Nat := agG s i d 10 0
theorem agG_spec (s : List Nat) (i d : Nat) (k : Nat) : ∀ n, n ≤ agG s i d k n ∧ agG s i d k n ≤ n + k ∧ (i + n ≤ s.length → i + agG s i d k n ≤ s.length) ∧
    (∀ m, n ≤ m → m < agG s i d k n → by_ s (i + m) = by_ s (i + m - d)) ∧
    (agG s i d k n < n + k → i + agG s i d k n < s.length → by_ s (i + agG s i d k n) ≠ by_ s (i + agG s i d k n - d)) := by
  induction k with
  | zero => intro n; refine ⟨Nat.le_refl _, Nat.le_refl _, fun h => h, fun m h1 h2 => ?_, fun h => ?_⟩
            · rw [agG] at h2; omega
            · rw [agG] at h; omega
  | succ k ih =>
    intro n
    rw [agG]
    by_cases h : i + n < s.length ∧ by_ s (i + n) = by_ s (i + n - d)
    · rw [if_pos h]
      obtain ⟨h1, h2, h3, h4, h5⟩ := ih (n + 1)
      refine ⟨by omega, by omega, fun _ => h3 (by omega), fun m hm hm2 => ?_, fun a b => h5 (by omega) b⟩
      by_cases e : m = n
      · subst e; exact h.2
      · exact h4 m (by omega) hm2
    · rw [if_neg h]
      refine ⟨Nat.le_refl _, by omega, fun h => h, fun m h1 h2 => by omega, fun _ h2 h3 => h ⟨h2, h3⟩⟩
theorem agF_le (s : List Nat) (i d : Nat) : agF s i d ≤ 10 := by have := (agG_spec s i d 10 0).2.1; unfold agF; omega
theorem agF_len (s : List Nat) (i d : Nat) (h : i ≤ s.length) : i + agF s i d ≤ s.length := (agG_spec s i d 10 0).2.2.1 (by omega)
theorem agF_eq (s : List Nat) (i d m : Nat) (h : m < agF s i d) : by_ s (i + m) = by_ s (i + m - d) := (agG_spec s i d 10 0).2.2.2.1 m (Nat.zero_le _) h
/-- It is the length of the agreement. -/
theorem agF_uniq (s : List Nat) (i d n : Nat) (h1 : n ≤ 10) (h2 : i + n ≤ s.length) (h3 : ∀ m, m < n → by_ s (i + m) = by_ s (i + m - d))
    (h4 : n = 10 ∨ i + n = s.length ∨ by_ s (i + n) ≠ by_ s (i + n - d)) : agF s i d = n := by
  have h5 := agG_spec s i d 10 0
  have h6 : agF s i d = agG s i d 10 0 := rfl
  rw [← h6] at h5
  obtain ⟨_, a2, a3, a4, a5⟩ := h5
  rcases Nat.lt_trichotomy (agF s i d) n with h | h | h
  · exact absurd (h3 _ h) (a5 (by omega) (by omega))
  · exact h
  · rcases h4 with h4 | h4 | h4
    · omega
    · have := a3 (by omega); omega
    · exact absurd (a4 n (Nat.zero_le _) h) h4
/-- The best of the distances up to D. -/
def bestS (s : List Nat) (i : Nat) : Nat → Nat × Nat
  | 0 => (0, 0)
  | d + 1 => if d + 1 ≤ i ∧ (bestS s i d).1 < agF s i (d + 1) then (agF s i (d + 1), d + 1) else bestS s i d
def bestF (s : List Nat) (i : Nat) : Nat × Nat := if (bestS s i 16).1 < 3 then (0, 0) else bestS s i 16
theorem bestS_spec (s : List Nat) (i D : Nat) : (∀ d, 1 ≤ d → d ≤ D → d ≤ i → agF s i d ≤ (bestS s i D).1) ∧
    ((bestS s i D).1 = 0 ∧ (bestS s i D).2 = 0 ∨ 1 ≤ (bestS s i D).2 ∧ (bestS s i D).2 ≤ D ∧ (bestS s i D).2 ≤ i ∧ agF s i (bestS s i D).2 = (bestS s i D).1 ∧ 0 < (bestS s i D).1) := by
  induction D with
  | zero => exact ⟨fun d h1 h2 => by omega, .inl ⟨rfl, rfl⟩⟩
  | succ D ih =>
    rw [bestS]
    by_cases h : D + 1 ≤ i ∧ (bestS s i D).1 < agF s i (D + 1)
    · rw [if_pos h]
      refine ⟨fun d h1 h2 h3 => ?_, .inr ⟨by simp, by simp, h.1, rfl, by simp only; omega⟩⟩
      by_cases e : d = D + 1
      · subst e; exact Nat.le_refl _
      · have := ih.1 d h1 (by omega) h3; simp only; omega
    · rw [if_neg h]
      refine ⟨fun d h1 h2 h3 => ?_, ?_⟩
      · by_cases e : d = D + 1
        · subst e; omega
        · exact ih.1 d h1 (by omega) h3
      · rcases ih.2 with h2 | ⟨a, b, c⟩
        · exact .inl h2
        · exact .inr ⟨a, by omega, c⟩
theorem bestF_spec (s : List Nat) (i : Nat) : bestF s i = (0, 0) ∨ (3 ≤ (bestF s i).1 ∧ (bestF s i).1 ≤ 10 ∧ 1 ≤ (bestF s i).2 ∧ (bestF s i).2 ≤ 16 ∧ (bestF s i).2 ≤ i ∧ agF s i (bestF s i).2 = (bestF s i).1) := by
  unfold bestF
  by_cases h : (bestS s i 16).1 < 3
  · rw [if_pos h]; exact .inl rfl
  · rw [if_neg h]
    rcases (bestS_spec s i 16).2 with h2 | ⟨a, b, c, d, e⟩
    · omega
    · exact .inr ⟨by omega, by rw [← d]; exact agF_le _ _ _, a, b, c, d⟩
/-- No distance gives more. -/
theorem bestF_max (s : List Nat) (i d : Nat) (h1 : 1 ≤ d) (h2 : d ≤ 16) (h3 : d ≤ i) (h4 : 3 ≤ agF s i d) : agF s i d ≤ (bestF s i).1 := by
  have := (bestS_spec s i 16).1 d h1 h2 h3
  unfold bestF; rw [if_neg (by omega)]; exact this

structure Tok where
  len : Nat
  dist : Nat
  lit : Nat
/-- The length and the distance taken at i: (0, _): a literal. -/
def takeF (s : List Nat) (lv i : Nat) : Nat × Nat :=
  if lv = 0 then (0, 0)
  else if lv = 2 ∧ 0 < (bestF s i).1 ∧ (bestF s i).1 < 10 ∧ (bestF s i).1 < (bestF s (i + 1)).1 then (0, 0)
  else bestF s i
def parseG (s : List Nat) (lv : Nat) : Nat → Nat → List Tok
  | 0, _ => []
  | k + 1, i =>
    if i < s.length then
      if (takeF s lv i).1 = 0 then ⟨0, 0, by_ s i⟩ :: parseG s lv k (i + 1)
      else ⟨(takeF s lv i).1, (takeF s lv i).2, 0⟩ :: parseG s lv k (i + (takeF s lv i).1)
    else []
theorem parseG_succ (s : List Nat) (lv k i : Nat) : parseG s lv (k + 1) i = if i < s.length then
      if (takeF s lv i).1 = 0 then ⟨0, 0, by_ s i⟩ :: parseG s lv k (i + 1)
      else ⟨(takeF s lv i).1, (takeF s lv i).2, 0⟩ :: parseG s lv k (i + (takeF s lv i).1)
    else [] := rfl
theorem parseG_more (s : List Nat) (lv : Nat) (k : Nat) : ∀ i, s.length ≤ i + k → parseG s lv (k + 1) i = parseG s lv k i := by
  induction k with
  | zero => intro i h; rw [parseG_succ s lv 0 i, if_neg (by omega)]; rfl
  | succ k ih =>
    intro i h
    rw [parseG_succ s lv (k + 1) i, parseG_succ s lv k i]
    by_cases hi : i < s.length
    · rw [if_pos hi, if_pos hi]
      by_cases h0 : (takeF s lv i).1 = 0
      · rw [if_pos h0, if_pos h0, ih _ (by omega)]
      · rw [if_neg h0, if_neg h0, ih _ (by omega)]
    · rw [if_neg hi, if_neg hi]
theorem parseG_fuel (s : List Nat) (lv : Nat) (k m i : Nat) (h : s.length ≤ i + k) (hm : k ≤ m) : parseG s lv m i = parseG s lv k i := by
  induction m with
  | zero => have : k = 0 := by omega
            subst this; rfl
  | succ m ih =>
    by_cases e : k = m + 1
    · subst e; rfl
    · rw [parseG_more _ _ _ _ (by omega), ih (by omega)]
def parseP (s : List Nat) (lv i : Nat) : List Tok := parseG s lv (s.length - i) i
theorem parseP_end (s : List Nat) (lv i : Nat) (h : s.length ≤ i) : parseP s lv i = [] := by
  unfold parseP; rw [show s.length - i = 0 by omega]; rfl
theorem parseP_lit (s : List Nat) (lv i : Nat) (h : i < s.length) (h0 : (takeF s lv i).1 = 0) : parseP s lv i = ⟨0, 0, by_ s i⟩ :: parseP s lv (i + 1) := by
  unfold parseP
  rw [show s.length - i = (s.length - (i + 1)) + 1 by omega, parseG_succ, if_pos h, if_pos h0]
theorem parseP_dup (s : List Nat) (lv i : Nat) (h : i < s.length) (h0 : (takeF s lv i).1 ≠ 0) :
    parseP s lv i = ⟨(takeF s lv i).1, (takeF s lv i).2, 0⟩ :: parseP s lv (i + (takeF s lv i).1) := by
  unfold parseP
  rw [show s.length - i = (s.length - (i + 1)) + 1 by omega, parseG_succ, if_pos h, if_neg h0]
  rw [parseG_fuel s lv (s.length - (i + (takeF s lv i).1)) (s.length - (i + 1)) _ (by omega) (by omega)]

/-- What the tokens from i on say of s. -/
def TokRun (s : List Nat) : Nat → List Tok → Prop
  | i, [] => i = s.length
  | i, t :: ts =>
    (t.len = 0 ∧ t.dist = 0 ∧ t.lit = by_ s i ∧ i < s.length ∧ TokRun s (i + 1) ts) ∨
    (3 ≤ t.len ∧ t.len ≤ 10 ∧ 1 ≤ t.dist ∧ t.dist ≤ 16 ∧ t.dist ≤ i ∧ t.lit = 0 ∧ i + t.len ≤ s.length ∧ (∀ m, m < t.len → by_ s (i + m) = by_ s (i + m - t.dist)) ∧ TokRun s (i + t.len) ts)
theorem takeF_spec (s : List Nat) (lv i : Nat) : (takeF s lv i).1 = 0 ∨ (takeF s lv i = bestF s i ∧ 3 ≤ (bestF s i).1) := by
  unfold takeF
  split
  · exact .inl rfl
  · split
    · exact .inl rfl
    · rcases bestF_spec s i with h | h
      · left; rw [h]
      · exact .inr ⟨rfl, h.1⟩
theorem parse_run (s : List Nat) (lv : Nat) : ∀ k i, s.length - i = k → i ≤ s.length → TokRun s i (parseP s lv i) := by
  intro k
  induction k using Nat.strongRecOn with
  | _ k ih =>
    intro i hk hi
    by_cases h : i < s.length
    · by_cases h0 : (takeF s lv i).1 = 0
      · rw [parseP_lit s lv i h h0]
        exact .inl ⟨rfl, rfl, rfl, h, ih (s.length - (i + 1)) (by omega) _ rfl (by omega)⟩
      · rw [parseP_dup s lv i h h0]
        rcases takeF_spec s lv i with h1 | ⟨h1, h2⟩
        · exact absurd h1 h0
        · rcases bestF_spec s i with h3 | ⟨a, b, c, d, e, f⟩
          · rw [h3] at h2; simp at h2
          · have hl := agF_len s i (bestF s i).2 hi
            rw [f] at hl
            rw [h1]
            refine .inr ⟨a, b, c, d, e, rfl, hl, fun m hm => ?_, ih (s.length - (i + (bestF s i).1)) (by omega) _ rfl hl⟩
            exact agF_eq s i _ m (by rw [f]; exact hm)
    · rw [parseP_end s lv i (by omega)]
      show i = s.length
      omega
theorem tokRun_len (s : List Nat) (ts : List Tok) : ∀ i, TokRun s i ts → i + ts.length ≤ s.length := by
  induction ts with
  | nil => intro i h; have : i = s.length := h; simp; omega
  | cons t ts ih =>
    intro i h
    simp only [List.length_cons]
    rcases h with ⟨_, _, _, _, h⟩ | ⟨h1, _, _, _, _, _, _, _, h⟩
    · have := ih _ h; omega
    · have := ih _ h; omega

/-! ### the chains -/
def hash3 (a b c : Nat) : Nat := (a * 16 ^^^ b * 4 ^^^ c) % 64
def hashF (s : List Nat) (p : Nat) : Nat := hash3 (by_ s p) (by_ s (p + 1)) (by_ s (p + 2))
theorem hashF_lt (s : List Nat) (p : Nat) : hashF s p < 64 := Nat.mod_lt _ (by decide)
/-- The latest place below i, entered, with hash h. -/
def lastE (s : List Nat) (h : Nat) : Nat → Int
  | 0 => -1
  | i + 1 => if i + 3 ≤ s.length ∧ hashF s i = h then i else lastE s h i
theorem lastE_range (s : List Nat) (h i : Nat) : -1 ≤ lastE s h i ∧ lastE s h i < i := by
  induction i with
  | zero => simp [lastE]
  | succ i ih => rw [lastE]; split <;> omega
theorem lastE_hit (s : List Nat) (h i : Nat) (h0 : 0 ≤ lastE s h i) : (lastE s h i).toNat + 3 ≤ s.length ∧ hashF s (lastE s h i).toNat = h := by
  induction i with
  | zero => simp [lastE] at h0
  | succ i ih =>
    rw [lastE] at h0 ⊢
    split
    · rename_i e; simpa using e
    · rename_i e; rw [if_neg e] at h0; exact ih h0
theorem lastE_max (s : List Nat) (h i p : Nat) (hp : p < i) (h3 : p + 3 ≤ s.length) (hh : hashF s p = h) : (p : Int) ≤ lastE s h i := by
  induction i with
  | zero => omega
  | succ i ih =>
    rw [lastE]
    split
    · omega
    · rename_i e
      by_cases e2 : p = i
      · subst e2; exact absurd ⟨h3, hh⟩ e
      · exact ih (by omega)
structure Chains (s : List Nat) (i : Nat) (head prev : Nat → Int) : Prop where
  head : ∀ h, h < 64 → head h = lastE s h i
  prev : ∀ p, p < i → i ≤ p + 16 → p + 3 ≤ s.length → prev (p % 16) = lastE s (hashF s p) p
theorem Chains.start (s : List Nat) {head prev : Nat → Int} (h : ∀ k, k < 64 → head k = -1) : Chains s 0 head prev := ⟨h, fun p hp => by omega⟩
theorem Chains.enter {s : List Nat} {i : Nat} {head prev : Nat → Int} (h : Chains s i head prev) (hi : i + 3 ≤ s.length) :
    Chains s (i + 1) (upd head (hashF s i) i) (upd prev (i % 16) (head (hashF s i))) := by
  refine ⟨fun k hk => ?_, fun p hp h1 h2 => ?_⟩
  · rw [lastE]
    by_cases e : k = hashF s i
    · subst e; rw [upd_self, if_pos ⟨hi, rfl⟩]
    · rw [upd_ne _ _ _ _ e, if_neg (fun k2 => e k2.2.symm)]; exact h.head k hk
  · by_cases e : p = i
    · subst e; rw [upd_self]; exact h.head _ (hashF_lt _ _)
    · rw [upd_ne _ _ _ _ (by omega)]; exact h.prev p (by omega) (by omega) h2
theorem Chains.skip {s : List Nat} {i : Nat} {head prev : Nat → Int} (h : Chains s i head prev) (hi : s.length < i + 3) : Chains s (i + 1) head prev := by
  refine ⟨fun k hk => ?_, fun p hp h1 h2 => h.prev p (by omega) (by omega) h2⟩
  rw [lastE, if_neg (by omega)]; exact h.head k hk

/-- What the walk along a chain knows when all distances up to D are done. -/
def thr (s : List Nat) (i D : Nat) : Nat × Nat := if (bestS s i D).1 < 3 then (2, 0) else bestS s i D
theorem thr_zero (s : List Nat) (i : Nat) : thr s i 0 = (2, 0) := rfl
theorem thr_succ (s : List Nat) (i D : Nat) : thr s i (D + 1) = if D + 1 ≤ i ∧ (thr s i D).1 < agF s i (D + 1) then (agF s i (D + 1), D + 1) else thr s i D := by
  unfold thr
  rw [bestS]
  by_cases h : D + 1 ≤ i ∧ (bestS s i D).1 < agF s i (D + 1)
  · rw [if_pos h]
    by_cases h2 : (bestS s i D).1 < 3
    · rw [if_pos h2]
      by_cases h3 : agF s i (D + 1) < 3
      · rw [if_pos h3, if_neg (by simp; omega)]
      · rw [if_neg h3, if_pos ⟨h.1, by simp; omega⟩]
    · rw [if_neg h2, if_pos h, if_neg (by simp; omega)]
  · rw [if_neg h]
    by_cases h2 : (bestS s i D).1 < 3
    · rw [if_pos h2, if_neg]
      rintro ⟨a, b⟩; simp only at b; exact h ⟨a, by omega⟩
    · rw [if_neg h2, if_neg h]
/-- Distances that are no candidates leave it. -/
theorem thr_skip (s : List Nat) (i D E : Nat) (hDE : D ≤ E) (h : ∀ d, D < d → d ≤ E → d ≤ i → agF s i d < 3 ∨ agF s i d ≤ (thr s i D).1) : thr s i E = thr s i D := by
  induction E with
  | zero => have : D = 0 := by omega
            subst this; rfl
  | succ E ih =>
    by_cases e : D = E + 1
    · subst e; rfl
    · have h1 := ih (by omega) fun d a b c => h d a (by omega) c
      rw [thr_succ, h1, if_neg]
      rintro ⟨a, b⟩
      have h2 := h (E + 1) (by omega) (by omega) a
      have h3 : 2 ≤ (thr s i D).1 := by unfold thr; split <;> omega
      omega
theorem thr_ge (s : List Nat) (i D : Nat) : 2 ≤ (thr s i D).1 := by unfold thr; split <;> omega
theorem thr_dist (s : List Nat) (i D : Nat) : ((thr s i D).2 = 0 ↔ (thr s i D).1 < 3) := by
  unfold thr
  rcases (bestS_spec s i D).2 with h | h
  · rw [if_pos (by omega)]; simp
  · split
    · simp
    · rename_i h2
      constructor <;> intro h3 <;> omega
theorem best_thr (s : List Nat) (i : Nat) : bestF s i = if (thr s i 16).2 = 0 then (0, 0) else thr s i 16 := by
  have h := thr_dist s i 16
  unfold bestF
  unfold thr at h ⊢
  by_cases h2 : (bestS s i 16).1 < 3
  · rw [if_pos h2, if_pos h2]; simp
  · rw [if_neg h2] at h ⊢; rw [if_neg h2, if_neg]; intro h3; exact h2 (h.1 h3)
/-- No match of three without the hash. -/
theorem ag_hash (s : List Nat) (i d : Nat) (h1 : 1 ≤ d) (h2 : d ≤ i) (h : 3 ≤ agF s i d) (hi : i ≤ s.length) : i + 3 ≤ s.length ∧ hashF s (i - d) = hashF s i := by
  have h3 := agF_len s i d hi
  refine ⟨by omega, ?_⟩
  have e0 := agF_eq s i d 0 (by omega)
  have e1 := agF_eq s i d 1 (by omega)
  have e2 := agF_eq s i d 2 (by omega)
  unfold hashF
  rw [show i - d + 1 = i + 1 - d by omega, show i - d + 2 = i + 2 - d by omega, ← e1, ← e2]
  have : i + 0 - d = i - d := by omega
  rw [this] at e0
  simp only [Nat.add_zero] at e0
  rw [e0]
theorem bestF_short (s : List Nat) (i : Nat) (h : s.length < i + 3) : bestF s i = (0, 0) := by
  rcases bestF_spec s i with h1 | ⟨a, b, c, d, e, f⟩
  · exact h1
  · by_cases hi : i ≤ s.length
    · have := agF_len s i (bestF s i).2 hi; omega
    · have h9 := (agG_spec s i (bestF s i).2 10 0)
      have : agF s i (bestF s i).2 = 0 := by
        unfold agF; rw [agG, if_neg (by omega)]
      omega
/-- Between two candidates of a chain there is no match. -/
theorem thr_gap (s : List Nat) (i : Nat) (hi : i + 3 ≤ s.length) (c : Nat) (hc : c ≤ i) : 
    (∀ q : Int, q = lastE s (hashF s i) c → 
      (0 ≤ q → thr s i (i - q.toNat - 1) = thr s i (i - c)) ∧ (q = -1 → ∀ E, i - c ≤ E → thr s i E = thr s i (i - c))) := by
  intro q hq
  have hr := lastE_range s (hashF s i) c
  have key : ∀ d, i - c < d → d ≤ i → 3 ≤ agF s i d → (i - d : Nat) ≤ q := by
    intro d h1 h2 h3
    have h4 := ag_hash s i d (by omega) h2 h3 (by omega)
    rw [hq]
    exact lastE_max s _ c (i - d) (by omega) (by omega) h4.2
  refine ⟨fun h0 => thr_skip s i _ _ (by omega) fun d a b cc => ?_, fun h0 E hE => thr_skip s i _ _ hE fun d a b cc => ?_⟩
  · left
    refine Classical.byContradiction fun h => ?_
    have := key d a cc (by omega)
    omega
  · left
    refine Classical.byContradiction fun h => ?_
    have := key d a cc (by omega)
    omega
/-- Nothing longer can come. -/
theorem thr_lim (s : List Nat) (i D E : Nat) (hDE : D ≤ E) (hi : i ≤ s.length) (h : min 10 (s.length - i) ≤ (thr s i D).1) : thr s i E = thr s i D :=
  thr_skip s i D E hDE fun d _ _ _ => by
    have h1 := agF_le s i d
    have h2 := agF_len s i d hi
    omega
end Go.Proofs.Qxb6500353aGreat
