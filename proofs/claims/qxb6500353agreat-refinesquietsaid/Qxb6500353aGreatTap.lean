/- The tape, plainly: a number of n bits, a cursor. -/
namespace Go.Proofs.Qxb6500353aGreat
set_option linter.unusedVariables false
set_option linter.unusedSimpArgs false

theorem two_pow_split (a b : Nat) (h : a ≤ b) : 2 ^ b = 2 ^ a * 2 ^ (b - a) := by rw [← Nat.pow_add]; congr 1; omega
theorem pw_pos (k : Nat) : 0 < 2 ^ k := Nat.pow_pos (by decide)

/-- The byte number i of X. -/
def byt (X i : Nat) : Nat := X / 2 ^ (8 * i) % 256
theorem byt_lt (X i : Nat) : byt X i < 256 := Nat.mod_lt _ (by decide)
theorem byt_zero (i : Nat) : byt 0 i = 0 := by simp [byt]
theorem byt_big {X n i : Nat} (h : X < 2 ^ n) (hi : n ≤ 8 * i) : byt X i = 0 := by
  unfold byt
  rw [Nat.div_eq_of_lt (Nat.lt_of_lt_of_le h (Nat.pow_le_pow_right (by decide) hi))]

/-- A number laid behind X: its bytes. -/
theorem byt_put {X n v k : Nat} (hX : X < 2 ^ n) (j : Nat) :
    byt (X + v * 2 ^ n) j =
      if j < n / 8 then byt X j
      else if j = n / 8 then byt X j ||| (v * 2 ^ (n % 8)) % 256
      else (v * 2 ^ (n % 8)) / 2 ^ (8 * (j - n / 8)) % 256 := by
  obtain ⟨i, hi⟩ : ∃ i, i = n / 8 := ⟨_, rfl⟩
  obtain ⟨r, hr⟩ : ∃ r, r = n % 8 := ⟨_, rfl⟩
  have hn : n = 8 * i + r := by omega
  have hr8 : r < 8 := by omega
  rw [← hi, ← hr]
  have e2 : 2 ^ n = 2 ^ r * 2 ^ (8 * i) := by rw [← Nat.pow_add, hn]; congr 1; omega
  unfold byt
  rw [e2, ← Nat.mul_assoc]
  split
  · rename_i h
    have e3 : 2 ^ (8 * i) = 2 ^ (8 * (i - j - 1)) * 256 * 2 ^ (8 * j) := by
      rw [show (256 : Nat) = 2 ^ 8 from rfl, ← Nat.pow_add, ← Nat.pow_add]; congr 1; omega
    rw [e3, ← Nat.mul_assoc, ← Nat.mul_assoc, Nat.add_mul_div_right _ _ (pw_pos _), Nat.add_mul_mod_self_right]
  · rename_i h
    have hY : X / 2 ^ (8 * i) < 2 ^ r := by
      rw [Nat.div_lt_iff_lt_mul (pw_pos _), ← e2]; exact hX
    have e4 : (X + v * 2 ^ r * 2 ^ (8 * i)) / 2 ^ (8 * j) = (X / 2 ^ (8 * i) + v * 2 ^ r) / 2 ^ (8 * (j - i)) := by
      have : 8 * j = 8 * i + 8 * (j - i) := by omega
      rw [this, Nat.pow_add, ← Nat.div_div_eq_div_mul, Nat.add_mul_div_right _ _ (pw_pos _)]
    rw [e4]
    split
    · rename_i e
      subst e
      simp only [Nat.sub_self, Nat.mul_zero, Nat.pow_zero, Nat.div_one]
      have := Nat.two_pow_add_eq_or_of_lt hY v
      rw [show X / 2 ^ (8 * j) + v * 2 ^ r = X / 2 ^ (8 * j) ||| (v * 2 ^ r) by rw [Nat.add_comm, Nat.mul_comm v, this, Nat.or_comm]]
      rw [show (256 : Nat) = 2 ^ 8 from rfl, Nat.or_mod_two_pow]
    · rename_i e
      have hji : 8 * (j - i) = r + (8 * (j - i) - r) := by omega
      rw [hji, Nat.pow_add, ← Nat.div_div_eq_div_mul, Nat.add_mul_div_right _ _ (pw_pos _), Nat.div_eq_of_lt hY, Nat.zero_add,
        ← Nat.div_div_eq_div_mul, Nat.mul_div_cancel _ (pw_pos _)]

theorem put_lt {X n v k : Nat} (hX : X < 2 ^ n) (hv : v < 2 ^ k) : X + v * 2 ^ n < 2 ^ (n + k) := by
  rw [Nat.pow_add]
  have h1 : (v + 1) * 2 ^ n ≤ 2 ^ k * 2 ^ n := Nat.mul_le_mul_right _ hv
  rw [Nat.add_mul, Nat.one_mul] at h1
  rw [Nat.mul_comm (2 ^ n)]
  omega

theorem put_fn {X n v : Nat} {u : (Nat → Nat) → Nat → Nat → Nat → Nat} (hu : ∀ f i x j, u f i x j = if j = i then x else f j) (hX : X < 2 ^ n) (hq : v * 2 ^ (n % 8) < 16777216) (j : Nat) :
    u (u (u (byt X) (n / 8) (byt X (n / 8) ||| v * 2 ^ (n % 8) % 256)) (n / 8 + 1) (byt X (n / 8 + 1) ||| v * 2 ^ (n % 8) / 256 % 256)) (n / 8 + 2) (byt X (n / 8 + 2) ||| v * 2 ^ (n % 8) / 65536 % 256) j = byt (X + v * 2 ^ n) j := by
  rw [byt_put (k := 0) hX j]
  generalize v * 2 ^ (n % 8) = q at *
  obtain ⟨i, hi⟩ : ∃ i, i = n / 8 := ⟨_, rfl⟩
  rw [← hi]
  have hb : ∀ m, i < m → byt X m = 0 := fun m hm => byt_big hX (by omega)
  rw [hu, hu, hu]
  by_cases e2 : j = i + 2
  · rw [if_pos e2, if_neg (by omega), if_neg (by omega), hb _ (by omega), Nat.zero_or, show j - i = 2 by omega]
  · rw [if_neg e2]
    by_cases e1 : j = i + 1
    · rw [if_pos e1, if_neg (by omega), if_neg (by omega), hb _ (by omega), Nat.zero_or, show j - i = 1 by omega]
    · rw [if_neg e1]
      by_cases e0 : j = i
      · rw [if_pos e0, if_neg (by omega), if_pos e0, e0]
      · rw [if_neg e0]
        by_cases hlt : j < i
        · rw [if_pos hlt]
        · rw [if_neg hlt, if_neg e0, hb _ (by omega)]
          have h1 : 2 ^ (8 * 3) ≤ 2 ^ (8 * (j - i)) := Nat.pow_le_pow_right (by decide) (by omega)
          rw [Nat.div_eq_of_lt (Nat.lt_of_lt_of_le hq h1)]

/-- Three bytes at a place hold the bits from there on. -/
theorem three (X p : Nat) : (byt X (p / 8) + byt X (p / 8 + 1) * 256 + byt X (p / 8 + 2) * 65536) / 2 ^ (p % 8) % 2 ^ 16 = X / 2 ^ p % 2 ^ 16 := by
  obtain ⟨i, hi⟩ : ∃ i, i = p / 8 := ⟨_, rfl⟩
  obtain ⟨r, hr⟩ : ∃ r, r = p % 8 := ⟨_, rfl⟩
  have hn : p = 8 * i + r := by omega
  have hr8 : r < 8 := by omega
  rw [← hi, ← hr, hn, Nat.pow_add, ← Nat.div_div_eq_div_mul]
  unfold byt
  have e1 : X / 2 ^ (8 * (i + 1)) = X / 2 ^ (8 * i) / 256 := by rw [Nat.mul_add, Nat.pow_add, ← Nat.div_div_eq_div_mul]
  have e2 : X / 2 ^ (8 * (i + 2)) = X / 2 ^ (8 * i) / 65536 := by rw [Nat.mul_add, Nat.pow_add, ← Nat.div_div_eq_div_mul]
  rw [e1, e2]
  obtain ⟨Y, hY⟩ : ∃ Y, Y = X / 2 ^ (8 * i) := ⟨_, rfl⟩
  rw [← hY]
  have e3 : Y % 256 + Y / 256 % 256 * 256 + Y / 65536 % 256 * 65536 = Y % 2 ^ 24 := by omega
  rw [e3]
  have : r = 0 ∨ r = 1 ∨ r = 2 ∨ r = 3 ∨ r = 4 ∨ r = 5 ∨ r = 6 ∨ r = 7 := by omega
  rcases this with h | h | h | h | h | h | h | h <;> subst h <;> simp only [Nat.reducePow] <;> omega

theorem mod_pow_mod (x a b : Nat) (h : a ≤ b) : x % 2 ^ b % 2 ^ a = x % 2 ^ a := by
  rw [two_pow_split a b h]; exact Nat.mod_mul_right_mod _ _ _

structure Tp where
  X : Nat
  n : Nat
  at_ : Nat

structure Tp.OK (t : Tp) : Prop where
  lt : t.X < 2 ^ t.n
  len : t.n ≤ 4096
  cur : t.at_ ≤ t.n

def Tp.nil : Tp := ⟨0, 0, 0⟩
theorem Tp.nil_ok : Tp.nil.OK := ⟨by decide, by decide, by decide⟩
def Tp.put (t : Tp) (v k : Nat) : Tp := ⟨t.X + v * 2 ^ t.n, t.n + k, t.at_⟩
theorem Tp.OK.put {t : Tp} (h : t.OK) {v k : Nat} (hv : v < 2 ^ k) (hk : t.n + k ≤ 4096) : (t.put v k).OK :=
  ⟨put_lt h.lt hv, hk, Nat.le_trans h.cur (Nat.le_add_right _ _)⟩
def up8 (n : Nat) : Nat := (n + 7) / 8 * 8
def Tp.pad (t : Tp) : Tp := ⟨t.X, up8 t.n, t.at_⟩
theorem Tp.OK.pad {t : Tp} (h : t.OK) : t.pad.OK := by
  have := h.len
  have := h.cur
  refine ⟨Nat.lt_of_lt_of_le h.lt (Nat.pow_le_pow_right (by decide) ?_), ?_, ?_⟩ <;> simp only [Tp.pad, up8] <;> omega
/-- The next k bits, or what is left of them. -/
def Tp.got (t : Tp) (k : Nat) : Nat := min k (t.n - t.at_)
def Tp.peek (t : Tp) (k : Nat) : Nat := t.X / 2 ^ t.at_ % 2 ^ t.got k
def Tp.skip (t : Tp) (k : Nat) : Tp := ⟨t.X, t.n, t.at_ + k⟩
theorem Tp.OK.skip {t : Tp} (h : t.OK) {k : Nat} (hk : t.at_ + k ≤ t.n) : (t.skip k).OK := ⟨h.lt, h.len, hk⟩
def Tp.sync (t : Tp) : Tp := ⟨t.X, t.n, min (up8 t.at_) t.n⟩
theorem Tp.OK.sync {t : Tp} (h : t.OK) : t.sync.OK := ⟨h.lt, h.len, Nat.min_le_right _ _⟩
/-- The bytes of the tape. -/
def Tp.text (t : Tp) : List Nat := (List.range ((t.n + 7) / 8)).map (byt t.X)

/-- The number that the bytes make, the first lowest. -/
def numOf : List Nat → Nat
  | [] => 0
  | b :: l => b + 256 * numOf l
theorem numOf_lt (l : List Nat) (h : ∀ b ∈ l, b < 256) : numOf l < 2 ^ (8 * l.length) := by
  induction l with
  | nil => simp [numOf]
  | cons b l ih =>
    have h1 := ih fun x hx => h x (by simp [hx])
    have h2 := h b (by simp)
    simp only [numOf, List.length_cons, Nat.mul_add, Nat.pow_add]
    rw [show 2 ^ (8 * 1) = 256 from rfl]
    omega
theorem byt_numOf (l : List Nat) (h : ∀ b ∈ l, b < 256) (i : Nat) : byt (numOf l) i = l.getD i 0 := by
  induction l generalizing i with
  | nil => simp [numOf, byt]
  | cons b l ih =>
    have h2 := h b (by simp)
    cases i with
    | zero => simp only [byt, numOf, List.getD_cons_zero, Nat.mul_zero, Nat.pow_zero, Nat.div_one]; omega
    | succ i =>
      rw [List.getD_cons_succ, ← ih (fun x hx => h x (by simp [hx])) i]
      unfold byt
      simp only [numOf]
      rw [show 8 * (i + 1) = 8 + 8 * i by omega, Nat.pow_add, ← Nat.div_div_eq_div_mul, show 2 ^ 8 = 256 from rfl]
      congr 2
      omega
theorem numOf_append (l m : List Nat) : numOf (l ++ m) = numOf l + numOf m * 2 ^ (8 * l.length) := by
  induction l with
  | nil => simp [numOf]
  | cons b l ih =>
    simp only [List.cons_append, numOf, ih, List.length_cons, Nat.mul_add, Nat.pow_add]
    rw [show 2 ^ (8 * 1) = 256 from rfl]
    have : 256 * (numOf m * 2 ^ (8 * l.length)) = numOf m * (2 ^ (8 * l.length) * 256) := by rw [Nat.mul_left_comm, Nat.mul_comm 256]
    omega
/-- The tape of a text. -/
def Tp.load (s : List Nat) : Tp := ⟨numOf s, 8 * s.length, 0⟩
theorem Tp.load_ok (s : List Nat) (h : ∀ b ∈ s, b < 256) (hl : s.length ≤ 512) : (Tp.load s).OK := ⟨numOf_lt s h, by simp [Tp.load]; omega, by simp [Tp.load]⟩
theorem numOf_byt (X n : Nat) (h : X < 2 ^ (8 * n)) : numOf ((List.range n).map (byt X)) = X := by
  induction n generalizing X with
  | zero => simp only [Nat.mul_zero, Nat.pow_zero] at h; simp [numOf]; omega
  | succ n ih =>
    rw [List.range_succ_eq_map, List.map_cons, List.map_map]
    have e : (byt X ∘ Nat.succ) = byt (X / 256) := by
      funext i; simp only [Function.comp, byt]
      rw [show 8 * (Nat.succ i) = 8 + 8 * i by omega, Nat.pow_add, ← Nat.div_div_eq_div_mul]
    rw [e]
    have h1 : X / 256 < 2 ^ (8 * n) := by
      rw [Nat.div_lt_iff_lt_mul (by decide)]
      rw [show 8 * (n + 1) = 8 * n + 8 by omega, Nat.pow_add] at h
      exact h
    have h3 := ih _ h1
    simp only [numOf]
    rw [h3]
    simp only [byt, Nat.mul_zero, Nat.pow_zero, Nat.div_one]
    omega
/-- What is laid out as a text and loaded again is the tape with its last byte filled up. -/
theorem Tp.load_text {t : Tp} (h : t.X < 2 ^ t.n) : Tp.load t.text = ⟨t.X, up8 t.n, 0⟩ := by
  unfold Tp.load Tp.text
  rw [numOf_byt _ _ (Nat.lt_of_lt_of_le h (Nat.pow_le_pow_right (by decide) (by omega)))]
  simp [up8]; omega
theorem Tp.text_byte (t : Tp) : ∀ b ∈ t.text, b < 256 := by
  intro b hb
  obtain ⟨i, _, rfl⟩ := List.mem_map.1 hb
  exact byt_lt _ _
end Go.Proofs.Qxb6500353aGreat
