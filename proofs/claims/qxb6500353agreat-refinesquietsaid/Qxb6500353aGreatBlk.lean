/- The encoder's definitions, plainly: counts, the run-length form, costs, what is put on the tape. -/
import Derived.Test.Qxb6500353aGreatRep
import Derived.Test.Qxb6500353aGreatLzp
namespace Go.Proofs.Qxb6500353aGreat
set_option linter.unusedVariables false
set_option linter.unusedSimpArgs false

def distCode (d : Nat) : Nat := if d ≤ 4 then d - 1 else if d ≤ 8 then 4 + (d - 5) / 2 else 6 + (d - 9) / 4
def distBase (c : Nat) : Nat × Nat := if c < 4 then (c + 1, 0) else if c < 6 then (5 + 2 * (c - 4), 1) else (9 + 4 * (c - 6), 2)
def fixedLen (s : Nat) : Nat := if s < 247 then 8 else 9
theorem dist_fits {d : Nat} (h1 : 1 ≤ d) (h2 : d ≤ 16) : distCode d < 8 ∧ (distBase (distCode d)).1 ≤ d ∧ d - (distBase (distCode d)).1 < 2 ^ (distBase (distCode d)).2 ∧ (distBase (distCode d)).2 ≤ 2 := by
  have : ∀ d, d ≤ 16 → 1 ≤ d → distCode d < 8 ∧ (distBase (distCode d)).1 ≤ d ∧ d - (distBase (distCode d)).1 < 2 ^ (distBase (distCode d)).2 ∧ (distBase (distCode d)).2 ≤ 2 := by decide
  exact this d h2 h1
theorem distBase_fits {c x : Nat} (h : c < 8) (hx : x < 2 ^ (distBase c).2) : 1 ≤ (distBase c).1 ∧ (distBase c).1 + x ≤ 16 ∧ (distBase c).2 ≤ 2 := by
  have h1 : ∀ c, c < 8 → 1 ≤ (distBase c).1 ∧ (distBase c).1 + 2 ^ (distBase c).2 ≤ 17 ∧ (distBase c).2 ≤ 2 := by decide
  have := h1 c h
  omega

/-- The counts. -/
def bump (f : Nat → Nat) (s : Nat) : Nat → Nat := upd f s (f s + 1)
def tally1 (f : Nat → Nat) (t : Tok) : Nat → Nat := if t.len = 0 then bump f t.lit else bump (bump f (254 + t.len)) (265 + distCode t.dist)
def cntF (f : Nat → Nat) (ts : List Tok) : Nat → Nat := ts.foldl tally1 f
def cnt0 : Nat → Nat := upd (fun _ => 0) 256 1
def countsF (ts : List Tok) : Nat → Nat := cntF cnt0 ts
def cntA (ts : List Tok) : List Nat := (List.range 265).map (countsF ts)
def cntB (ts : List Tok) : List Nat := (List.range 8).map (fun c => countsF ts (265 + c))
def lensA (ts : List Tok) : List Nat := planL (cntA ts)
def lensB (ts : List Tok) : List Nat := planL (cntB ts)
def fixA : List Nat := (List.range 265).map fixedLen
def fixB : List Nat := List.replicate 8 3

/-- A token that can be laid. -/
def TokOK (t : Tok) : Prop := t.len = 0 ∧ t.lit < 256 ∨ 3 ≤ t.len ∧ t.len ≤ 10 ∧ 1 ≤ t.dist ∧ t.dist ≤ 16

/-! ### the run-length form -/
/-- How many more, from place j on, are equal to x; k may be looked at. -/
def runG (l : List Nat) (x : Nat) : Nat → Nat → Nat
  | 0, _ => 0
  | k + 1, j => if j < l.length ∧ len l j = x then runG l x k (j + 1) + 1 else 0
def runF (l : List Nat) (i : Nat) : Nat := runG l (len l i) (l.length - i) i
theorem runG_spec (l : List Nat) (x : Nat) (k : Nat) : ∀ j, l.length - j = k → j ≤ l.length → j + runG l x k j ≤ l.length ∧ (∀ m, j ≤ m → m < j + runG l x k j → len l m = x) ∧ (j + runG l x k j < l.length → len l (j + runG l x k j) ≠ x) := by
  induction k with
  | zero => intro j hk hj; rw [runG]; exact ⟨by omega, fun m a b => by omega, fun h => by omega⟩
  | succ k ih =>
    intro j hk hj
    rw [runG]
    by_cases h : j < l.length ∧ len l j = x
    · rw [if_pos h]
      obtain ⟨h1, h2, h3⟩ := ih (j + 1) (by omega) (by omega)
      have e : j + (runG l x k (j + 1) + 1) = j + 1 + runG l x k (j + 1) := by omega
      rw [e]
      refine ⟨h1, fun m a b => ?_, h3⟩
      by_cases e2 : m = j
      · subst e2; exact h.2
      · exact h2 m (by omega) b
    · rw [if_neg h]
      exact ⟨by omega, fun m a b => by omega, fun h1 h2 => h ⟨by omega, by simpa using h2⟩⟩
theorem runF_uniq (l : List Nat) (i r : Nat) (h1 : i + r ≤ l.length) (h2 : ∀ m, m < r → len l (i + m) = len l i) (h3 : i + r = l.length ∨ len l (i + r) ≠ len l i) (hi : i < l.length) : runF l i = r := by
  obtain ⟨a1, a2, a3⟩ := runG_spec l (len l i) (l.length - i) i rfl (by omega)
  have e : runF l i = runG l (len l i) (l.length - i) i := rfl
  rw [← e] at a1 a2 a3
  rcases Nat.lt_trichotomy (runF l i) r with h | h | h
  · exact absurd (h2 _ h) (a3 (by omega))
  · exact h
  · rcases h3 with h3 | h3
    · omega
    · exact absurd (a2 (i + r) (by omega) (by omega)) h3
theorem runF_ge (l : List Nat) (i r : Nat) (h1 : i + r ≤ l.length) (h2 : ∀ m, m < r → len l (i + m) = len l i) (hi : i < l.length) : r ≤ runF l i := by
  obtain ⟨a1, a2, a3⟩ := runG_spec l (len l i) (l.length - i) i rfl (by omega)
  have e : runF l i = runG l (len l i) (l.length - i) i := rfl
  rw [← e] at a1 a2 a3
  refine Classical.byContradiction fun h => ?_
  exact absurd (h2 _ (by omega)) (a3 (by omega))
theorem runF_pos (l : List Nat) (i : Nat) (hi : i < l.length) : 1 ≤ runF l i := runF_ge l i 1 (by omega) (fun m hm => by rw [show m = 0 by omega]; rfl) hi
theorem runF_le (l : List Nat) (i : Nat) (hi : i < l.length) : i + runF l i ≤ l.length := (runG_spec l (len l i) (l.length - i) i rfl (by omega)).1
theorem runF_eq (l : List Nat) (i : Nat) (hi : i < l.length) (m : Nat) (hm : m < runF l i) : len l (i + m) = len l i :=
  (runG_spec l (len l i) (l.length - i) i rfl (by omega)).2.1 (i + m) (by omega) (by unfold runF at hm; omega)

/-- An item: its number, its further value, how many further bits. -/
structure Item where
  x : Nat
  v : Nat
  more : Nat
/-- The item at place i, and how many lengths it stands for. -/
def itemAt (l : List Nat) (i : Nat) : Item × Nat :=
  if len l i = 0 ∧ 3 ≤ runF l i then (⟨11, min (runF l i) 130 - 3, 7⟩, min (runF l i) 130)
  else if 0 < i ∧ len l i = len l (i - 1) ∧ 3 ≤ runF l i then (⟨12, min (runF l i) 6 - 3, 2⟩, min (runF l i) 6)
  else (⟨len l i, 0, 0⟩, 1)
theorem itemAt_adv (l : List Nat) (i : Nat) (hi : i < l.length) : 1 ≤ (itemAt l i).2 ∧ i + (itemAt l i).2 ≤ l.length := by
  have := runF_le l i hi
  unfold itemAt
  split
  · simp only; omega
  · split
    · simp only; omega
    · simp only; omega
def itG (l : List Nat) : Nat → Nat → List Item
  | 0, _ => []
  | k + 1, i => if i < l.length then (itemAt l i).1 :: itG l k (i + (itemAt l i).2) else []
theorem itG_succ (l : List Nat) (k i : Nat) : itG l (k + 1) i = if i < l.length then (itemAt l i).1 :: itG l k (i + (itemAt l i).2) else [] := rfl
theorem itG_more (l : List Nat) (k : Nat) : ∀ i, l.length ≤ i + k → itG l (k + 1) i = itG l k i := by
  induction k with
  | zero => intro i h; rw [itG_succ l 0 i, if_neg (by omega)]; rfl
  | succ k ih =>
    intro i h
    rw [itG_succ l (k + 1) i, itG_succ l k i]
    by_cases hi : i < l.length
    · rw [if_pos hi, if_pos hi]
      have := itemAt_adv l i hi
      rw [ih _ (by omega)]
    · rw [if_neg hi, if_neg hi]
theorem itG_fuel (l : List Nat) (k m i : Nat) (h : l.length ≤ i + k) (hm : k ≤ m) : itG l m i = itG l k i := by
  induction m with
  | zero => have : k = 0 := by omega
            subst this; rfl
  | succ m ih =>
    by_cases e : k = m + 1
    · subst e; rfl
    · rw [itG_more _ _ _ (by omega), ih (by omega)]
def itP (l : List Nat) (i : Nat) : List Item := itG l (l.length - i) i
theorem itP_end (l : List Nat) (i : Nat) (h : l.length ≤ i) : itP l i = [] := by
  unfold itP; rw [show l.length - i = 0 by omega]; rfl
theorem itP_step (l : List Nat) (i : Nat) (h : i < l.length) : itP l i = (itemAt l i).1 :: itP l (i + (itemAt l i).2) := by
  have h1 := itemAt_adv l i h
  unfold itP
  rw [show l.length - i = (l.length - (i + 1)) + 1 by omega, itG_succ, if_pos h, itG_fuel l (l.length - (i + (itemAt l i).2)) (l.length - (i + 1)) _ (by omega) (by omega)]

/-! ### the machine of the real layer -/
def runIt (prev held : Nat) : Item := if prev = 0 then ⟨11, held - 3, 7⟩ else ⟨12, held - 3, 2⟩
def drainIt (prev held : Nat) : List Item := if 3 ≤ held then [runIt prev held] else List.replicate held ⟨prev, 0, 0⟩
structure MacOK (l : List Nat) (i prev held : Nat) : Prop where
  le : i ≤ l.length
  pos : 0 < i
  last : len l (i - 1) = prev
  hle : held ≤ i
  eq : ∀ m, i - held ≤ m → m < i → len l m = prev
  zero : prev = 0 → held < 130
  more : prev ≠ 0 → held < 6 ∧ 0 < i - held ∧ len l (i - held - 1) = prev
theorem mac_first (l : List Nat) (h : 0 < l.length) : MacOK l 1 (len l 0) (if len l 0 = 0 then 1 else 0) ∧
    (if len l 0 = 0 then [] else [(⟨len l 0, 0, 0⟩ : Item)]) ++ itP l (1 - if len l 0 = 0 then 1 else 0) = itP l 0 := by
  by_cases e : len l 0 = 0
  · simp only [e, if_true]
    exact ⟨⟨by omega, by omega, by simpa using e, by omega, fun m a b => by rw [show m = 0 by omega]; exact e, fun _ => by omega, fun h => absurd rfl h⟩, by simp⟩
  · simp only [e, if_false]
    refine ⟨⟨by omega, by omega, rfl, by omega, fun m a b => by omega, fun h => absurd h e, fun _ => ⟨by omega, by omega, rfl⟩⟩, ?_⟩
    rw [itP_step l 0 h]
    have : itemAt l 0 = (⟨len l 0, 0, 0⟩, 1) := by
      unfold itemAt; rw [if_neg (fun k => e k.1), if_neg (by omega)]
    rw [this]; rfl
/-- The lengths held, where another follows, or none. -/
theorem mac_drain {l : List Nat} {i prev held : Nat} (h : MacOK l i prev held) (hx : i = l.length ∨ len l i ≠ prev) : drainIt prev held ++ itP l i = itP l (i - held) := by
  have hle := h.le
  have hhe := h.hle
  have hrun : ∀ k, k ≤ held → 0 < k → runF l (i - k) = k := by
    intro k hk h0
    have e0 := h.eq (i - k) (by omega) (by omega)
    refine runF_uniq l (i - k) k (by omega) (fun m hm => ?_) ?_ (by omega)
    · rw [e0]; exact h.eq _ (by omega) (by omega)
    · rw [show i - k + k = i by omega, e0]
      rcases hx with hx | hx
      · exact .inl hx
      · exact .inr hx
  have single : ∀ k, k ≤ held → 0 < k → k < 3 → itP l (i - k) = ⟨prev, 0, 0⟩ :: itP l (i - (k - 1)) := by
    intro k hk h0 h3
    have e0 := h.eq (i - k) (by omega) (by omega)
    have hr := hrun k hk h0
    rw [itP_step l (i - k) (by omega)]
    have : itemAt l (i - k) = (⟨prev, 0, 0⟩, 1) := by
      unfold itemAt; rw [if_neg (by omega), if_neg (by omega), e0]
    rw [this]
    have e1 : i - k + 1 = i - (k - 1) := by omega
    simp only [e1]
  unfold drainIt
  by_cases h3 : 3 ≤ held
  · rw [if_pos h3]
    have hr := hrun held (Nat.le_refl _) (by omega)
    have e0 := h.eq (i - held) (by omega) (by omega)
    rw [itP_step l (i - held) (by omega)]
    by_cases hp : prev = 0
    · have hz := h.zero hp
      have : itemAt l (i - held) = (⟨11, held - 3, 7⟩, held) := by
        unfold itemAt; rw [if_pos ⟨by omega, by omega⟩, hr, Nat.min_eq_left (by omega)]
      rw [this]
      simp only [runIt, hp, if_true, show i - held + held = i by omega, List.singleton_append]
    · obtain ⟨m1, m2, m3⟩ := h.more hp
      have : itemAt l (i - held) = (⟨12, held - 3, 2⟩, held) := by
        unfold itemAt; rw [if_neg (by omega), if_pos ⟨by omega, by omega, by omega⟩, hr, Nat.min_eq_left (by omega)]
      rw [this]
      simp only [runIt, hp, if_false, show i - held + held = i by omega, List.singleton_append]
  · rw [if_neg h3]
    have : held = 0 ∨ held = 1 ∨ held = 2 := by omega
    rcases this with e | e | e
    · subst e; simp
    · subst e
      rw [single 1 (by omega) (by omega) (by omega)]; simp [List.replicate]
    · subst e
      rw [single 2 (by omega) (by omega) (by omega), single 1 (by omega) (by omega) (by omega)]; simp [List.replicate]
/-- A length that differs from the one before. -/
theorem mac_new {l : List Nat} {i prev held : Nat} (h : MacOK l i prev held) (hi : i < l.length) (hx : len l i ≠ prev) :
    MacOK l (i + 1) (len l i) (if len l i = 0 then 1 else 0) ∧
    drainIt prev held ++ (if len l i = 0 then [] else [(⟨len l i, 0, 0⟩ : Item)]) ++ itP l (i + 1 - if len l i = 0 then 1 else 0) = itP l (i - held) := by
  have h1 := mac_drain h (.inr hx)
  have hp := h.pos
  have hl := h.last
  by_cases e : len l i = 0
  · simp only [e, if_true]
    refine ⟨⟨by omega, by omega, by simpa using e, by omega, fun m a b => by rw [show m = i by omega]; exact e, fun _ => by omega, fun h => absurd rfl h⟩, ?_⟩
    rw [← h1]; simp
  · simp only [e, if_false]
    refine ⟨⟨by omega, by omega, rfl, by omega, fun m a b => by omega, fun h => absurd h e, fun _ => ⟨by omega, by omega, rfl⟩⟩, ?_⟩
    rw [← h1, itP_step l i hi]
    have : itemAt l i = (⟨len l i, 0, 0⟩, 1) := by
      unfold itemAt; rw [if_neg (fun k => e k.1), if_neg (by rw [hl]; exact fun k => hx k.2.1)]
    rw [this]; simp
/-- The same length again. -/
theorem mac_same {l : List Nat} {i prev held : Nat} (h : MacOK l i prev held) (hi : i < l.length) (hx : len l i = prev) :
    if (prev = 0 ∧ held + 1 = 130) ∨ (prev ≠ 0 ∧ held + 1 = 6) then MacOK l (i + 1) prev 0 ∧ runIt prev (held + 1) :: itP l (i + 1) = itP l (i - held)
    else MacOK l (i + 1) prev (held + 1) ∧ i + 1 - (held + 1) = i - held := by
  have hhe := h.hle
  have hp := h.pos
  have heq : ∀ m, i - held ≤ m → m < i + 1 → len l m = prev := by
    intro m a b
    by_cases e : m = i
    · subst e; exact hx
    · exact h.eq m a (by omega)
  by_cases hf : (prev = 0 ∧ held + 1 = 130) ∨ (prev ≠ 0 ∧ held + 1 = 6)
  · rw [if_pos hf]
    have e0 := heq (i - held) (by omega) (by omega)
    have hr := runF_ge l (i - held) (held + 1) (by omega) (fun m hm => by rw [e0]; exact heq _ (by omega) (by omega)) (by omega)
    refine ⟨⟨by omega, by omega, by simpa using hx, by omega, fun m a b => by omega, fun _ => by omega, fun _ => ⟨by omega, by omega, by simpa using hx⟩⟩, ?_⟩
    rw [itP_step l (i - held) (by omega)]
    rcases hf with ⟨h1, h2⟩ | ⟨h1, h2⟩
    · have : itemAt l (i - held) = (⟨11, held + 1 - 3, 7⟩, held + 1) := by
        unfold itemAt; rw [if_pos ⟨by omega, by omega⟩, Nat.min_eq_right (by omega)]; simp only [h2]
      rw [this]
      simp only [runIt, h1, if_true, show i - held + (held + 1) = i + 1 by omega]
    · obtain ⟨m1, m2, m3⟩ := h.more h1
      have : itemAt l (i - held) = (⟨12, held + 1 - 3, 2⟩, held + 1) := by
        unfold itemAt; rw [if_neg (by omega), if_pos ⟨by omega, by omega, by omega⟩, Nat.min_eq_right (by omega)]; simp only [h2]
      rw [this]
      simp only [runIt, h1, if_false, show i - held + (held + 1) = i + 1 by omega]
  · rw [if_neg hf]
    have e1 : i + 1 - (held + 1) = i - held := by omega
    refine ⟨⟨by omega, by omega, by simpa using hx, by omega, fun m a b => heq m (by omega) b, fun h0 => ?_, fun h0 => ?_⟩, e1⟩
    · have := h.zero h0
      refine Classical.byContradiction fun h9 => hf (.inl ⟨h0, by omega⟩)
    · obtain ⟨m1, m2, m3⟩ := h.more h0
      refine ⟨Classical.byContradiction fun h9 => hf (.inr ⟨h0, by omega⟩), by omega, by rw [e1]; exact m3⟩

/-! ### costs -/
def itemBits (its : List Item) : Nat := (its.map fun it => 4 + it.more).sum
def moreOf (s : Nat) : Nat := (distBase (s - 265)).2
def bodyBits (c l : Nat → Nat) : Nat := sumTo (fun s => c s * l s + if 265 ≤ s then c s * moreOf s else 0) 273
def fixL : List Nat := fixA ++ fixB
def dynL (ts : List Tok) : List Nat := lensA ts ++ lensB ts
def bitsSto (n : Nat) : Nat := 24 + 8 * n
def bitsFix (ts : List Tok) : Nat := 3 + bodyBits (countsF ts) (len fixL)
def bitsDyn (ts : List Tok) : Nat := 3 + itemBits (itP (dynL ts) 0) + bodyBits (countsF ts) (len (dynL ts))
def chooseF (st fx dy : Nat) : Nat := if st ≤ fx ∧ st ≤ dy then 0 else if fx ≤ dy then 1 else 2
def kindF (n : Nat) (ts : List Tok) : Nat := chooseF (bitsSto n) (bitsFix ts) (bitsDyn ts)

/-! ### what is put -/
def puts (t : Tp) (ps : List (Nat × Nat)) : Tp := ps.foldl (fun t p => t.put p.1 p.2) t
def putBits (ps : List (Nat × Nat)) : Nat := (ps.map (·.2)).sum
def putNum : List (Nat × Nat) → Nat
  | [] => 0
  | p :: ps => p.1 + 2 ^ p.2 * putNum ps
def PutsOK (ps : List (Nat × Nat)) : Prop := ∀ p ∈ ps, p.1 < 2 ^ p.2 ∧ p.2 ≤ 16
theorem puts_eq (ps : List (Nat × Nat)) : ∀ t : Tp, puts t ps = ⟨t.X + putNum ps * 2 ^ t.n, t.n + putBits ps, t.at_⟩ := by
  induction ps with
  | nil => intro t; simp [puts, putNum, putBits]
  | cons p ps ih =>
    intro t
    have h := ih (t.put p.1 p.2)
    unfold puts at *
    rw [List.foldl_cons, h]
    simp only [Tp.put, putNum, putBits, List.map_cons, List.sum_cons, Nat.pow_add, Nat.add_mul]
    congr 1
    · have : putNum ps * (2 ^ t.n * 2 ^ p.2) = 2 ^ p.2 * putNum ps * 2 ^ t.n := by
        rw [Nat.mul_comm (2 ^ t.n), ← Nat.mul_assoc, Nat.mul_comm (putNum ps)]
      omega
    · omega
theorem puts_append (t : Tp) (a b : List (Nat × Nat)) : puts t (a ++ b) = puts (puts t a) b := by unfold puts; rw [List.foldl_append]
theorem putBits_append (a b : List (Nat × Nat)) : putBits (a ++ b) = putBits a + putBits b := by simp [putBits]
theorem putNum_lt (ps : List (Nat × Nat)) (h : PutsOK ps) : putNum ps < 2 ^ putBits ps := by
  induction ps with
  | nil => simp [putNum, putBits]
  | cons p ps ih =>
    have h1 := ih fun q hq => h q (by simp [hq])
    have h2 := (h p (by simp)).1
    simp only [putNum, putBits, List.map_cons, List.sum_cons] at *
    rw [Nat.pow_add]
    have : 2 ^ p.2 * (putNum ps + 1) ≤ 2 ^ p.2 * 2 ^ (ps.map (·.2)).sum := Nat.mul_le_mul_left _ h1
    rw [Nat.mul_add, Nat.mul_one] at this
    omega
theorem puts_ok {t : Tp} (h : t.OK) {ps : List (Nat × Nat)} (hp : PutsOK ps) (hn : t.n + putBits ps ≤ 4096) : (puts t ps).OK := by
  induction ps generalizing t with
  | nil => exact h
  | cons p ps ih =>
    simp only [putBits, List.map_cons, List.sum_cons] at hn
    have h2 := hp p (by simp)
    refine ih (h.put h2.1 (by omega)) (fun q hq => hp q (by simp [hq])) ?_
    simp only [Tp.put, putBits]; omega

def tokPuts (la lb : List Nat) (t : Tok) : List (Nat × Nat) :=
  if t.len = 0 then [(code la t.lit, len la t.lit)]
  else [(code la (254 + t.len), len la (254 + t.len)), (code lb (distCode t.dist), len lb (distCode t.dist)), (t.dist - (distBase (distCode t.dist)).1, (distBase (distCode t.dist)).2)]
def bodyPuts (la lb : List Nat) (ts : List Tok) : List (Nat × Nat) := ts.flatMap (tokPuts la lb) ++ [(code la 256, len la 256)]
def itemPuts (it : Item) : List (Nat × Nat) := [(it.x, 4), (it.v, it.more)]
def stoPuts (s : List Nat) : List (Nat × Nat) := (s.length, 16) :: s.map fun b => (b, 8)
/-- The tape of the text. -/
def emitF (kind : Nat) (s : List Nat) (ts : List Tok) (la lb : List Nat) : Tp :=
  if kind = 0 then puts (puts Tp.nil [(1, 1), (0, 2)]).pad (stoPuts s)
  else puts Tp.nil ([(1, 1), (kind, 2)] ++ (if kind = 2 then (itP (la ++ lb) 0).flatMap itemPuts else []) ++ bodyPuts la lb ts)
def emitK (kind : Nat) (s : List Nat) (ts : List Tok) : Tp := emitF kind s ts (if kind = 2 then lensA ts else fixA) (if kind = 2 then lensB ts else fixB)
def packF (s : List Nat) (lv : Nat) : List Nat := (emitK (kindF s.length (parseP s lv 0)) s (parseP s lv 0)).text
end Go.Proofs.Qxb6500353aGreat
