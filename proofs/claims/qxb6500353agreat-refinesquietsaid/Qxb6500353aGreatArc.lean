/- The container, plainly. -/
import Derived.Test.Qxb6500353aGreatRtp
namespace Go.Proofs.Qxb6500353aGreat
set_option linter.unusedVariables false
set_option linter.unusedSimpArgs false

def sumG : List Nat → Nat → Nat → Nat × Nat
  | [], a, b => (a, b)
  | c :: s, a, b => sumG s ((a + c) % 251) ((b + (a + c) % 251) % 251)
def sumF (s : List Nat) : Nat := (sumG s 1 0).2 * 256 + (sumG s 1 0).1
theorem sumG_lt (s : List Nat) : ∀ a b, a < 251 → b < 251 → (sumG s a b).1 < 251 ∧ (sumG s a b).2 < 251 := by
  induction s with
  | nil => intro a b ha hb; exact ⟨ha, hb⟩
  | cons c s ih => intro a b ha hb; exact ih _ _ (Nat.mod_lt _ (by decide)) (Nat.mod_lt _ (by decide))
theorem sumF_lt (s : List Nat) : sumF s < 65536 := by
  have := sumG_lt s 1 0 (by decide) (by decide)
  unfold sumF; omega
theorem sumG_snoc (s : List Nat) (c : Nat) : ∀ a b, sumG (s ++ [c]) a b = (((sumG s a b).1 + c) % 251, ((sumG s a b).2 + ((sumG s a b).1 + c) % 251) % 251) := by
  induction s with
  | nil => intro a b; rfl
  | cons d s ih => intro a b; exact ih _ _

structure Ent where
  name : List Nat
  data : List Nat
def two (n : Nat) : List Nat := [n % 256, n / 256 % 256]
def recF (lv : Nat) (e : Ent) : List Nat :=
  [e.name.length] ++ e.name ++ two e.data.length ++ two (packF e.data lv).length ++ two (sumF e.data) ++ packF e.data lv
def textF (lv : Nat) (l : List Ent) : List Nat := l.flatMap (recF lv)
def dirF (lv : Nat) : Nat → List Ent → List Nat
  | _, [] => []
  | o, e :: l => two o ++ dirF lv (o + (recF lv e).length) l
def packA (lv : Nat) (l : List Ent) : List Nat := textF lv l ++ dirF lv 0 l ++ [l.length] ++ two (textF lv l).length ++ [90]
def entE (e : Ent) : Nat := if e.name.length = 0 ∨ 8 < e.name.length then 16 else if 256 < e.data.length then 1 else 0
def judgeF : List Ent → Nat
  | [] => 0
  | e :: l => if entE e ≠ 0 then entE e else judgeF l
def errA (l : List Ent) (lv : Int) : Nat := if 4 < l.length then 17 else if lv < 0 ∨ 2 < lv then 13 else judgeF l

structure RowP where
  off : Nat
  head : Nat
  size : Nat
  sum : Nat
  to : Nat
def slc (l : List Nat) (a b : Nat) : List Nat := (l.drop a).take (b - a)
def num2 (raw : List Nat) (i : Nat) : Nat := by_ raw i + by_ raw (i + 1) * 256
def rowAt (raw : List Nat) (cell : Nat) : RowP where
  off := num2 raw cell
  head := num2 raw cell + 1 + by_ raw (num2 raw cell)
  size := num2 raw (num2 raw cell + 1 + by_ raw (num2 raw cell))
  sum := num2 raw (num2 raw cell + 1 + by_ raw (num2 raw cell) + 4)
  to := num2 raw cell + 1 + by_ raw (num2 raw cell) + 6 + num2 raw (num2 raw cell + 1 + by_ raw (num2 raw cell) + 2)
/-- The record that a cell names: an error and its place, or the row. -/
def spotF (raw : List Nat) (dir cell : Nat) : Nat × Nat :=
  if dir ≤ num2 raw cell then (15, cell)
  else if dir < (rowAt raw cell).head + 6 then (15, cell)
  else if dir < (rowAt raw cell).to then (15, cell)
  else if by_ raw (num2 raw cell) = 0 ∨ 8 < by_ raw (num2 raw cell) then (16, num2 raw cell)
  else if 256 < (rowAt raw cell).size then (19, num2 raw cell)
  else if (rowAt raw cell).head + 6 + 512 < (rowAt raw cell).to then (1, num2 raw cell)
  else (0, 0)
def rowsR (raw : List Nat) (dir : Nat) : Nat → Nat × Nat × List RowP
  | 0 => (0, 0, [])
  | k + 1 =>
    if (rowsR raw dir k).1 ≠ 0 then rowsR raw dir k
    else if (spotF raw dir (dir + 2 * k)).1 ≠ 0 then ((spotF raw dir (dir + 2 * k)).1, (spotF raw dir (dir + 2 * k)).2, [])
    else (0, 0, (rowsR raw dir k).2.2 ++ [rowAt raw (dir + 2 * k)])
def readA (raw : List Nat) : Nat × Nat × List RowP :=
  if 1200 < raw.length then (1, 0, [])
  else if raw.length < 4 ∨ by_ raw (raw.length - 1) ≠ 90 then (14, 0, [])
  else if 4 < by_ raw (raw.length - 4) then (17, raw.length - 4, [])
  else if num2 raw (raw.length - 3) + 2 * by_ raw (raw.length - 4) ≠ raw.length - 4 then (15, raw.length - 3, [])
  else rowsR raw (num2 raw (raw.length - 3)) (by_ raw (raw.length - 4))
structure RowOK (raw : List Nat) (r : RowP) : Prop where
  off : r.off + 2 ≤ r.head
  name : r.head ≤ r.off + 9
  head : r.head + 6 ≤ r.to
  to : r.to ≤ raw.length
  size : r.size ≤ 256
  long : r.to ≤ r.head + 518
theorem rowsR_ok (raw : List Nat) (dir : Nat) (hd : dir ≤ raw.length) (k : Nat) : (rowsR raw dir k).1 = 0 → (rowsR raw dir k).2.1 = 0 ∧ (rowsR raw dir k).2.2.length = k ∧ ∀ r ∈ (rowsR raw dir k).2.2, RowOK raw r := by
  induction k with
  | zero => intro _; simp [rowsR]
  | succ k ih =>
    intro h
    rw [rowsR] at h ⊢
    by_cases h1 : (rowsR raw dir k).1 ≠ 0
    · rw [if_pos h1] at h; exact absurd h h1
    · rw [if_neg h1] at h ⊢
      obtain ⟨h3, h4, h5⟩ := ih (by omega)
      by_cases h2 : (spotF raw dir (dir + 2 * k)).1 ≠ 0
      · rw [if_pos h2] at h; exact absurd h h2
      · rw [if_neg h2]
        refine ⟨rfl, by simp [h4], fun r hr => ?_⟩
        rcases List.mem_append.1 hr with hr | hr
        · exact h5 r hr
        · simp only [List.mem_singleton] at hr; subst hr
          unfold spotF at h2
          split at h2
          · simp at h2
          · split at h2
            · simp at h2
            · split at h2
              · simp at h2
              · split at h2
                · simp at h2
                · split at h2
                  · simp at h2
                  · split at h2
                    · simp at h2
                    · rename_i a1 a2 a3 a4 a5 a6
                      refine ⟨?_, ?_, ?_, ?_, ?_, ?_⟩ <;> simp only [rowAt] at * <;> omega
theorem readA_ok (raw : List Nat) : (readA raw).1 = 0 → (readA raw).2.1 = 0 ∧ raw.length ≤ 1200 ∧ (readA raw).2.2.length ≤ 4 ∧ ∀ r ∈ (readA raw).2.2, RowOK raw r := by
  intro h
  unfold readA at h ⊢
  by_cases h1 : 1200 < raw.length
  · rw [if_pos h1] at h; simp at h
  · rw [if_neg h1] at h ⊢
    by_cases h2 : raw.length < 4 ∨ by_ raw (raw.length - 1) ≠ 90
    · rw [if_pos h2] at h; simp at h
    · rw [if_neg h2] at h ⊢
      by_cases h3 : 4 < by_ raw (raw.length - 4)
      · rw [if_pos h3] at h; simp at h
      · rw [if_neg h3] at h ⊢
        by_cases h4 : num2 raw (raw.length - 3) + 2 * by_ raw (raw.length - 4) ≠ raw.length - 4
        · rw [if_pos h4] at h; simp at h
        · rw [if_neg h4] at h ⊢
          obtain ⟨a, b, c⟩ := rowsR_ok raw _ (by omega) _ h
          exact ⟨a, by omega, by omega, c⟩

/-- How the machine ends on a text. -/
noncomputable def runE (raw : List Nat) : Nat × List Nat := Classical.epsilon fun p : Nat × List Nat => Ends (Tp.load raw) DS.init p.1 p.2
theorem runE_eq {raw : List Nat} {e : Nat} {o : List Nat} (h : Ends (Tp.load raw) DS.init e o) : runE raw = (e, o) := by
  have h1 : Ends (Tp.load raw) DS.init (runE raw).1 (runE raw).2 := Classical.epsilon_spec (p := fun p : Nat × List Nat => Ends (Tp.load raw) DS.init p.1 p.2) ⟨(e, o), h⟩
  obtain ⟨a, b⟩ := h1.det h
  exact Prod.ext a b
def textOf (raw : List Nat) (r : RowP) : List Nat := slc raw (r.head + 6) r.to
def nameOf (raw : List Nat) (r : RowP) : List Nat := slc raw (r.off + 1) r.head
noncomputable def unpE (raw : List Nat) (r : RowP) : Nat :=
  if (runE (textOf raw r)).1 ≠ 0 then (runE (textOf raw r)).1
  else if (runE (textOf raw r)).2.length ≠ r.size then 19
  else if sumF (runE (textOf raw r)).2 ≠ r.sum then 18
  else 0
noncomputable def unpK (raw : List Nat) : List RowP → Nat × Nat × List Ent
  | [] => (0, 0, [])
  | r :: rs =>
    if unpE raw r ≠ 0 then (unpE raw r, r.off, [])
    else if (unpK raw rs).1 ≠ 0 then unpK raw rs
    else (0, 0, ⟨nameOf raw r, (runE (textOf raw r)).2⟩ :: (unpK raw rs).2.2)
noncomputable def unpA (raw : List Nat) : Nat × Nat × List Ent :=
  if (readA raw).1 ≠ 0 then ((readA raw).1, (readA raw).2.1, []) else unpK raw (readA raw).2.2
structure Inf where
  name : List Nat
  size : Nat
  raw : Nat
def infOf (raw : List Nat) (r : RowP) : Inf := ⟨nameOf raw r, r.size, r.to - r.head - 6⟩
def lstA (raw : List Nat) : Nat × Nat × List Inf :=
  if (readA raw).1 ≠ 0 then ((readA raw).1, (readA raw).2.1, []) else (0, 0, (readA raw).2.2.map (infOf raw))

/-! ### the archive that Pack lays is read back -/
theorem by_append_left {a b : List Nat} {i : Nat} (h : i < a.length) : by_ (a ++ b) i = by_ a i := by
  unfold by_; rw [List.getD_eq_getElem?_getD, List.getD_eq_getElem?_getD, List.getElem?_append_left h]
theorem by_append_right {a b : List Nat} {n i : Nat} (h : a.length = n) : by_ (a ++ b) (n + i) = by_ b i := by
  unfold by_; rw [List.getD_eq_getElem?_getD, List.getD_eq_getElem?_getD, List.getElem?_append_right (by omega), h, Nat.add_sub_cancel_left]
theorem slc_mid {a b c : List Nat} {n m : Nat} (h : a.length = n) (hm : n + b.length = m) : slc (a ++ (b ++ c)) n m = b := by
  unfold slc
  rw [← h, List.drop_left', show m - a.length = b.length by omega, List.take_left']
  · rfl
  · rfl
theorem num2_two {a c : List Nat} {n x : Nat} (h : a.length = n) (hx : x < 65536) : num2 (a ++ (two x ++ c)) n = x := by
  unfold num2
  have e0 := by_append_right (b := two x ++ c) (i := 0) h
  have e1 := by_append_right (b := two x ++ c) (i := 1) h
  rw [Nat.add_zero] at e0
  rw [e0, e1]
  have f0 : by_ (two x ++ c) 0 = x % 256 := rfl
  have f1 : by_ (two x ++ c) 1 = x / 256 % 256 := rfl
  rw [f0, f1]; omega
structure EntOK (e : Ent) : Prop where
  name : 1 ≤ e.name.length
  name8 : e.name.length ≤ 8
  data : e.data.length ≤ 256
  byte : ∀ b ∈ e.data, b < 256
theorem rec_length (lv : Nat) (e : Ent) : (recF lv e).length = 7 + e.name.length + (packF e.data lv).length := by
  simp [recF, two]; omega
theorem rec_le {e : Ent} (h : EntOK e) (lv : Nat) : (recF lv e).length ≤ 10 + e.name.length + e.data.length := by
  have := pack_short h.byte lv
  rw [rec_length]; omega
/-- The record of an entry within an archive. -/
theorem row_rec {lv : Nat} {e : Ent} (h : EntOK e) {A C raw : List Nat} {cell n : Nat} (hraw : raw = A ++ (recF lv e ++ C)) (hA : A.length = n) (hn : n < 65536) (hc : num2 raw cell = n) :
    rowAt raw cell = ⟨n, n + 1 + e.name.length, e.data.length, sumF e.data, n + (recF lv e).length⟩ ∧ by_ raw n = e.name.length ∧
    slc raw (n + 1) (n + 1 + e.name.length) = e.name ∧ slc raw (n + 1 + e.name.length + 6) (n + (recF lv e).length) = packF e.data lv := by
  have hps := pack_short h.byte lv
  have hd := h.data
  have hrl := rec_length lv e
  have hb : by_ raw n = e.name.length := by
    have := by_append_right (b := recF lv e ++ C) (i := 0) hA
    rw [Nat.add_zero, ← hraw] at this
    rw [this]; rfl
  have e1 : raw = (A ++ [e.name.length]) ++ (e.name ++ (two e.data.length ++ two (packF e.data lv).length ++ two (sumF e.data) ++ packF e.data lv ++ C)) := by
    rw [hraw]; unfold recF; simp only [List.append_assoc]
  have l1 : (A ++ [e.name.length]).length = n + 1 := by simp; omega
  have e2 : raw = (A ++ [e.name.length] ++ e.name) ++ (two e.data.length ++ (two (packF e.data lv).length ++ two (sumF e.data) ++ packF e.data lv ++ C)) := by
    rw [hraw]; unfold recF; simp only [List.append_assoc]
  have l2 : (A ++ [e.name.length] ++ e.name).length = n + 1 + e.name.length := by simp; omega
  have e3 : raw = (A ++ [e.name.length] ++ e.name ++ two e.data.length) ++ (two (packF e.data lv).length ++ (two (sumF e.data) ++ packF e.data lv ++ C)) := by
    rw [hraw]; unfold recF; simp only [List.append_assoc]
  have l3 : (A ++ [e.name.length] ++ e.name ++ two e.data.length).length = n + 1 + e.name.length + 2 := by simp [two]; omega
  have e4 : raw = (A ++ [e.name.length] ++ e.name ++ two e.data.length ++ two (packF e.data lv).length) ++ (two (sumF e.data) ++ (packF e.data lv ++ C)) := by
    rw [hraw]; unfold recF; simp only [List.append_assoc]
  have l4 : (A ++ [e.name.length] ++ e.name ++ two e.data.length ++ two (packF e.data lv).length).length = n + 1 + e.name.length + 4 := by simp [two]; omega
  have e5 : raw = (A ++ [e.name.length] ++ e.name ++ two e.data.length ++ two (packF e.data lv).length ++ two (sumF e.data)) ++ (packF e.data lv ++ C) := by
    rw [hraw]; unfold recF; simp only [List.append_assoc]
  have l5 : (A ++ [e.name.length] ++ e.name ++ two e.data.length ++ two (packF e.data lv).length ++ two (sumF e.data)).length = n + 1 + e.name.length + 6 := by simp [two]; omega
  have n2 : num2 raw (n + 1 + e.name.length) = e.data.length := by rw [e2]; exact num2_two l2 (by omega)
  have n3 : num2 raw (n + 1 + e.name.length + 2) = (packF e.data lv).length := by rw [e3]; exact num2_two l3 (by omega)
  have n4 : num2 raw (n + 1 + e.name.length + 4) = sumF e.data := by rw [e4]; exact num2_two l4 (sumF_lt _)
  refine ⟨?_, hb, ?_, ?_⟩
  · unfold rowAt
    rw [hc, hb, n2, n3, n4]
    congr 1
    omega
  · rw [e1]; exact slc_mid l1 rfl
  · rw [e5]; exact slc_mid l5 (by omega)
theorem spot_rec {lv : Nat} {e : Ent} (h : EntOK e) {A C raw : List Nat} {cell n dir : Nat} (hraw : raw = A ++ (recF lv e ++ C)) (hA : A.length = n) (hn : n < 65536) (hc : num2 raw cell = n) (hd : n + (recF lv e).length ≤ dir) :
    spotF raw dir cell = (0, 0) := by
  obtain ⟨h1, h2, _, _⟩ := row_rec h hraw hA hn hc
  have hps := pack_short h.byte lv
  have hrl := rec_length lv e
  have a1 := h.name; have a2 := h.name8; have a3 := h.data
  unfold spotF
  rw [h1, hc, h2]
  rw [if_neg (by omega), if_neg (by simp only; omega), if_neg (by simp only; omega), if_neg (by omega), if_neg (by simp only; omega), if_neg (by simp only; omega)]
theorem text_le {lv : Nat} (l : List Ent) (h : ∀ e ∈ l, EntOK e) : (textF lv l).length ≤ 274 * l.length := by
  induction l with
  | nil => simp [textF]
  | cons e l ih =>
    have h1 := ih fun x hx => h x (by simp [hx])
    have h2 := rec_le (h e (by simp)) lv
    have h3 := (h e (by simp)).name8
    have h4 := (h e (by simp)).data
    simp only [textF, List.flatMap_cons, List.length_append, List.length_cons] at *
    omega
theorem dir_length (lv : Nat) (l : List Ent) : ∀ o, (dirF lv o l).length = 2 * l.length := by
  induction l with
  | nil => intro o; rfl
  | cons e l ih => intro o; simp only [dirF, List.length_append, ih, two, List.length_cons, List.length_nil]; omega
theorem text_append (lv : Nat) (a b : List Ent) : textF lv (a ++ b) = textF lv a ++ textF lv b := by simp [textF]
theorem dir_append (lv : Nat) (a b : List Ent) : ∀ o, dirF lv o (a ++ b) = dirF lv o a ++ dirF lv (o + (textF lv a).length) b := by
  induction a with
  | nil => intro o; simp [dirF, textF]
  | cons e a ih =>
    intro o
    simp only [List.cons_append, dirF, ih, textF, List.flatMap_cons, List.length_append, List.append_assoc]
    rw [Nat.add_assoc]
/-- The row of an entry. -/
def rowFor (lv n : Nat) (e : Ent) : RowP := ⟨n, n + 1 + e.name.length, e.data.length, sumF e.data, n + (recF lv e).length⟩
def rowsFor (lv : Nat) : Nat → List Ent → List RowP
  | _, [] => []
  | n, e :: l => rowFor lv n e :: rowsFor lv (n + (recF lv e).length) l
theorem rowsFor_append (lv : Nat) (a b : List Ent) : ∀ n, rowsFor lv n (a ++ b) = rowsFor lv n a ++ rowsFor lv (n + (textF lv a).length) b := by
  induction a with
  | nil => intro n; simp [rowsFor, textF]
  | cons e a ih =>
    intro n
    simp only [List.cons_append, rowsFor, ih, textF, List.flatMap_cons, List.length_append]
    rw [Nat.add_assoc]
theorem pack_cell {lv : Nat} {l a b : List Ent} {e : Ent} (hl : l = a ++ e :: b) (hok : ∀ e ∈ l, EntOK e) (h4 : l.length ≤ 4) :
    num2 (packA lv l) ((textF lv l).length + 2 * a.length) = (textF lv a).length ∧
    packA lv l = textF lv a ++ (recF lv e ++ (textF lv b ++ dirF lv 0 l ++ [l.length] ++ two (textF lv l).length ++ [90])) ∧ (textF lv a).length + (recF lv e).length ≤ (textF lv l).length ∧ (textF lv l).length < 65536 := by
  have ht := text_le (lv := lv) l hok
  have e1 : textF lv l = textF lv a ++ recF lv e ++ textF lv b := by rw [hl, text_append]; simp [textF]
  have e2 : dirF lv 0 l = dirF lv 0 a ++ two (textF lv a).length ++ dirF lv ((textF lv a).length + (recF lv e).length) b := by rw [hl, dir_append]; simp [dirF]
  have e3 : (textF lv a).length + (recF lv e).length ≤ (textF lv l).length := by rw [e1]; simp
  refine ⟨?_, ?_, e3, by omega⟩
  · have : packA lv l = (textF lv l ++ dirF lv 0 a) ++ (two (textF lv a).length ++ (dirF lv ((textF lv a).length + (recF lv e).length) b ++ [l.length] ++ two (textF lv l).length ++ [90])) := by
      unfold packA; rw [e2]; simp only [List.append_assoc]
    rw [this]
    exact num2_two (by rw [List.length_append, dir_length]) (by omega)
  · unfold packA
    conv => lhs; rw [e1]
    simp only [List.append_assoc]
    rw [e1]; simp only [List.append_assoc]
theorem pack_rows {lv : Nat} {l : List Ent} (hok : ∀ e ∈ l, EntOK e) (h4 : l.length ≤ 4) (a : List Ent) : ∀ b, l = a ++ b → rowsR (packA lv l) (textF lv l).length a.length = (0, 0, rowsFor lv 0 a) := by
  obtain ⟨k, hk⟩ : ∃ k, k = a.length := ⟨_, rfl⟩
  induction k generalizing a with
  | zero =>
    intro b _
    have : a = [] := List.eq_nil_of_length_eq_zero hk.symm
    subst this; rfl
  | succ k ih =>
    intro b hab
    have hne : a ≠ [] := by intro h; subst h; simp at hk
    obtain ⟨a0, e, rfl⟩ : ∃ a0 e, a = a0 ++ [e] := ⟨a.dropLast, a.getLast hne, (List.dropLast_concat_getLast hne).symm⟩
    have hk0 : k = a0.length := by simp at hk; omega
    have h1 := ih a0 hk0 (e :: b) (by rw [hab]; simp)
    have hl : l = a0 ++ e :: b := by rw [hab]; simp
    obtain ⟨c1, c2, c3, c4⟩ := pack_cell (lv := lv) hl hok h4
    have he : EntOK e := hok e (by rw [hl]; simp)
    have hs := spot_rec he c2 rfl (by omega) c1 c3
    have hr := (row_rec he c2 rfl (by omega) c1).1
    rw [show (a0 ++ [e]).length = a0.length + 1 by simp, rowsR, h1]
    simp only [ne_eq, not_true_eq_false, if_false]
    rw [hs]
    simp only [not_true_eq_false, if_false]
    rw [hr, rowsFor_append]
    simp [rowsFor, rowFor]
theorem packA_length (lv : Nat) (l : List Ent) : (packA lv l).length = (textF lv l).length + 2 * l.length + 4 := by
  unfold packA; simp [dir_length, two]; omega
theorem read_pack {lv : Nat} {l : List Ent} (hok : ∀ e ∈ l, EntOK e) (h4 : l.length ≤ 4) : readA (packA lv l) = (0, 0, rowsFor lv 0 l) := by
  have ht := text_le (lv := lv) l hok
  have hlen := packA_length lv l
  have hd := dir_length lv l 0
  have l1 : (textF lv l ++ dirF lv 0 l).length = (packA lv l).length - 4 := by simp; omega
  have b1 : by_ (packA lv l) ((packA lv l).length - 4) = l.length := by
    have e : packA lv l = (textF lv l ++ dirF lv 0 l) ++ ([l.length] ++ two (textF lv l).length ++ [90]) := by unfold packA; simp only [List.append_assoc]
    have := by_append_right (b := [l.length] ++ two (textF lv l).length ++ [90]) (i := 0) l1
    rw [Nat.add_zero, ← e] at this
    rw [this]; rfl
  have b2 : num2 (packA lv l) ((packA lv l).length - 3) = (textF lv l).length := by
    have e : packA lv l = (textF lv l ++ dirF lv 0 l ++ [l.length]) ++ (two (textF lv l).length ++ [90]) := by unfold packA; simp only [List.append_assoc]
    have l2 : (textF lv l ++ dirF lv 0 l ++ [l.length]).length = (packA lv l).length - 3 := by simp; omega
    conv => lhs; arg 1; rw [e]
    exact num2_two l2 (by omega)
  have b3 : by_ (packA lv l) ((packA lv l).length - 1) = 90 := by
    have e : packA lv l = (textF lv l ++ dirF lv 0 l ++ [l.length] ++ two (textF lv l).length) ++ [90] := rfl
    have l3 : (textF lv l ++ dirF lv 0 l ++ [l.length] ++ two (textF lv l).length).length = (packA lv l).length - 1 := by simp [two]; omega
    have := by_append_right (b := [90]) (i := 0) l3
    rw [Nat.add_zero, ← e] at this
    rw [this]; rfl
  unfold readA
  rw [if_neg (by omega), b1, b2, b3, if_neg (by omega), if_neg (by omega), if_neg (by omega)]
  exact pack_rows hok h4 l [] (by simp)
theorem unp_rows {lv : Nat} (hlv : True) {l : List Ent} (hok : ∀ e ∈ l, EntOK e) (h4 : l.length ≤ 4) (b : List Ent) : ∀ a, l = a ++ b → unpK (packA lv l) (rowsFor lv (textF lv a).length b) = (0, 0, b) ∧ (rowsFor lv (textF lv a).length b).map (infOf (packA lv l)) = b.map fun e => (⟨e.name, e.data.length, (packF e.data lv).length⟩ : Inf) := by
  induction b with
  | nil => intro a _; exact ⟨rfl, rfl⟩
  | cons e b ih =>
    intro a hl
    obtain ⟨c1, c2, c3, c4⟩ := pack_cell (lv := lv) hl hok h4
    have he : EntOK e := hok e (by rw [hl]; simp)
    obtain ⟨hr, _, hn, ht⟩ := row_rec he c2 rfl (by omega) c1
    have h1 := ih (a ++ [e]) (by rw [hl]; simp)
    have e1 : (textF lv (a ++ [e])).length = (textF lv a).length + (recF lv e).length := by rw [text_append]; simp [textF]
    rw [e1] at h1
    have hrun := runE_eq (round_trip he.byte he.data lv)
    have htx : textOf (packA lv l) (rowFor lv (textF lv a).length e) = packF e.data lv := ht
    have hnm : nameOf (packA lv l) (rowFor lv (textF lv a).length e) = e.name := hn
    have hE : unpE (packA lv l) (rowFor lv (textF lv a).length e) = 0 := by
      unfold unpE; rw [htx, hrun]
      simp [rowFor]
    refine ⟨?_, ?_⟩
    · simp only [rowsFor, unpK]
      rw [hE, h1.1, htx, hrun, hnm]
      simp
    · simp only [rowsFor, List.map_cons]
      rw [h1.2]
      congr 1
      unfold infOf
      rw [hnm]
      have := rec_length lv e
      simp only [rowFor, Inf.mk.injEq, true_and]
      omega
theorem unp_pack {lv : Nat} {l : List Ent} (hok : ∀ e ∈ l, EntOK e) (h4 : l.length ≤ 4) : unpA (packA lv l) = (0, 0, l) := by
  unfold unpA; rw [read_pack hok h4]
  simp only [ne_eq, not_true_eq_false, if_false]
  exact (unp_rows trivial hok h4 l [] (by simp)).1
theorem lst_pack {lv : Nat} {l : List Ent} (hok : ∀ e ∈ l, EntOK e) (h4 : l.length ≤ 4) : lstA (packA lv l) = (0, 0, l.map fun e => ⟨e.name, e.data.length, (packF e.data lv).length⟩) := by
  unfold lstA; rw [read_pack hok h4]
  simp only [ne_eq, not_true_eq_false, if_false]
  rw [show (0 : Nat) = (textF lv []).length from rfl]
  rw [(unp_rows trivial hok h4 l [] (by simp)).2]
def dearF (l : List Ent) : Nat := 4 + (l.map fun e => e.name.length + e.data.length + 12).sum
theorem dear_law {lv : Nat} {l : List Ent} (hok : ∀ e ∈ l, EntOK e) : (packA lv l).length ≤ dearF l := by
  rw [packA_length]
  have : (textF lv l).length + 2 * l.length ≤ (l.map fun e => e.name.length + e.data.length + 12).sum := by
    induction l with
    | nil => simp [textF]
    | cons e l ih =>
      have h1 := ih fun x hx => hok x (by simp [hx])
      have h2 := rec_le (hok e (by simp)) lv
      simp only [textF, List.flatMap_cons, List.length_append, List.length_cons, List.map_cons, List.sum_cons] at *
      omega
  unfold dearF; omega
end Go.Proofs.Qxb6500353aGreat
