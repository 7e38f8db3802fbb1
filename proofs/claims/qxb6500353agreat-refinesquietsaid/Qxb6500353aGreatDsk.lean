/- The law's desk. -/
import Derived.Test.Qxb6500353aGreatAmc
import Derived.Test.Qxb6500353aGreatLwa
namespace Go.Proofs.Qxb6500353aGreat
open Go.RowKit
set_option linter.unusedVariables false
set_option linter.unusedSimpArgs false

/-- What the desk's 27 cells hold. -/
structure DkR where
  nm : ByteArray
  dt : ByteArray
  ar : ByteArray
  la : Option Addr
  lcap : Nat
  es : List EB
  xa : Option Addr
  ma : Option Addr
  xs : List EB
  ya : Option Addr
  na : Option Addr
  ys : List IB
  oe : Nat → Value
  oi : Nat → Value
  ne : Nat
  ni : Nat
  fe : Value
  fi : Value
  nae : Nat
  nai : Nat
  pin : Bool
  he : Value
  hi : Value
  pl : Bool
  hl : Value
def dkL (R : DkR) : List Value := [.string R.nm, .string R.dt, .string R.ar, .slice R.la R.es.length R.lcap, .slice R.xa R.xs.length R.xs.length, .slice R.ma R.xs.length R.xs.length, .slice R.ya R.ys.length R.ys.length, .slice R.na R.ys.length R.ys.length,
  R.oe 0, R.oe 1, R.oe 2, R.oe 3, R.oi 0, R.oi 1, R.oi 2, R.oi 3, .int .i64 (R.ne : Nat), .int .i64 (R.ni : Nat), R.fe, R.fi, .int .i64 (R.nae : Nat), .int .i64 (R.nai : Nat), .bool R.pin, R.he, R.hi, .bool R.pl, R.hl]
def DkAt (w : World) (b : Nat) (R : DkR) : Prop := CellsAt w b (dkL R)
theorem DkAt.lt {w : World} {b : Nat} {R : DkR} (h : DkAt w b R) : b < w.heap.size := lt_of_cellB (h.c 0 _ rfl)
theorem DkAt.fr {S : Nat → Prop} {w w2 : World} {b : Nat} {R : DkR} (h : DkAt w b R) (hf : Fr S w w2) (hn : ¬ S b) : DkAt w2 b R := CellsAt.fr h hf hn (by simp [dkL])
theorem DkAt.put {w : World} {b : Nat} {R R2 : DkR} (h : DkAt w b R) (i : Nat) (v : Value) (hi : i < 27) (he : (dkL R).set i v = dkL R2) : DkAt (w.setCell ⟨b, i, none⟩ v) b R2 := by
  have := CellsAt.set h i (by simpa [dkL] using hi) v
  rw [he] at this; exact this
theorem dkL_oe (R : DkR) {k : Nat} (hk : k < 4) (v : Value) : (dkL R).set (8 + k) v = dkL { R with oe := upd R.oe k v } := by
  have : k = 0 ∨ k = 1 ∨ k = 2 ∨ k = 3 := by omega
  rcases this with rfl | rfl | rfl | rfl <;> simp [dkL, upd]
theorem dkL_oi (R : DkR) {k : Nat} (hk : k < 4) (v : Value) : (dkL R).set (12 + k) v = dkL { R with oi := upd R.oi k v } := by
  have : k = 0 ∨ k = 1 ∨ k = 2 ∨ k = 3 := by omega
  rcases this with rfl | rfl | rfl | rfl <;> simp [dkL, upd]
theorem DkAt.oe {w : World} {b : Nat} {R : DkR} (h : DkAt w b R) {k : Nat} (hk : k < 4) : w.cell? ⟨b, 8 + k, none⟩ = some (R.oe k) := by
  have : k = 0 ∨ k = 1 ∨ k = 2 ∨ k = 3 := by omega
  rcases this with rfl | rfl | rfl | rfl
  · exact h.c 8 _ rfl
  · exact h.c 9 _ rfl
  · exact h.c 10 _ rfl
  · exact h.c 11 _ rfl
theorem DkAt.oi {w : World} {b : Nat} {R : DkR} (h : DkAt w b R) {k : Nat} (hk : k < 4) : w.cell? ⟨b, 12 + k, none⟩ = some (R.oi k) := by
  have : k = 0 ∨ k = 1 ∨ k = 2 ∨ k = 3 := by omega
  rcases this with rfl | rfl | rfl | rfl
  · exact h.c 12 _ rfl
  · exact h.c 13 _ rfl
  · exact h.c 14 _ rfl
  · exact h.c 15 _ rfl
/-- The stamps. -/
def bangV : Value := .string ⟨#[33]⟩
def bangI (i : Nat) : Value := if i % 3 = 0 then .string ⟨#[33]⟩ else .int .i64 (-7)
/-- A slice of entries, all stamp; its block lies above b and not in D. -/
def StE (w : World) (b : Nat) (D : Nat → Prop) (v : Value) : Prop := ∃ ad n cap, v = .slice ad n cap ∧ n ≤ 1000 ∧ (n = 0 ∨ ∃ g, ad = some ⟨g, 0, none⟩ ∧ b < g ∧ g < w.heap.size ∧ ¬ D g ∧ Cel mkV w g 0 (n * 2) (fun _ => bangV))
def StI (w : World) (b : Nat) (D : Nat → Prop) (v : Value) : Prop := ∃ ad n cap, v = .slice ad n cap ∧ n ≤ 1000 ∧ (n = 0 ∨ ∃ g, ad = some ⟨g, 0, none⟩ ∧ b < g ∧ g < w.heap.size ∧ ¬ D g ∧ Cel mkV w g 0 (n * 3) bangI)
theorem StE.fr {S D D2 : Nat → Prop} {w w2 : World} {b : Nat} {v : Value} (h : StE w b D v) (hf : Fr S w w2) (hS : ∀ g, b < g → g < w.heap.size → S g → D g) (hD : ∀ g, b < g → g < w.heap.size → D2 g → D g) : StE w2 b D2 v := by
  obtain ⟨ad, n, cap, rfl, hn, h⟩ := h
  refine ⟨ad, n, cap, rfl, hn, ?_⟩
  rcases h with h | ⟨g, h1, h2, h3, h4, h5⟩
  · exact .inl h
  · exact .inr ⟨g, h1, h2, Nat.lt_of_lt_of_le h3 hf.size, fun q => h4 (hD g h2 h3 q), h5.fr hf (fun q => h4 (hS g h2 h3 q))⟩
theorem StI.fr {S D D2 : Nat → Prop} {w w2 : World} {b : Nat} {v : Value} (h : StI w b D v) (hf : Fr S w w2) (hS : ∀ g, b < g → g < w.heap.size → S g → D g) (hD : ∀ g, b < g → g < w.heap.size → D2 g → D g) : StI w2 b D2 v := by
  obtain ⟨ad, n, cap, rfl, hn, h⟩ := h
  refine ⟨ad, n, cap, rfl, hn, ?_⟩
  rcases h with h | ⟨g, h1, h2, h3, h4, h5⟩
  · exact .inl h
  · exact .inr ⟨g, h1, h2, Nat.lt_of_lt_of_le h3 hf.size, fun q => h4 (hD g h2 h3 q), h5.fr hf (fun q => h4 (hS g h2 h3 q))⟩
theorem StE.nil (w : World) (b : Nat) (D : Nat → Prop) : StE w b D (.slice none 0 0) := ⟨none, 0, 0, rfl, by omega, .inl rfl⟩
theorem StI.nil (w : World) (b : Nat) (D : Nat → Prop) : StI w b D (.slice none 0 0) := ⟨none, 0, 0, rfl, by omega, .inl rfl⟩
/-- A row of entries (infos) of the system's, still in our hand. -/
def RowE (w : World) (b : Nat) (ad : Option Addr) (xs : List EB) : Prop := xs.length = 0 ∨ ∃ g, ad = some ⟨g, 0, none⟩ ∧ b < g ∧ g < w.heap.size ∧ Arr 98 mkV w g (xs.length * 2) (entV xs)
def RowI (w : World) (b : Nat) (ad : Option Addr) (ys : List IB) : Prop := ys.length = 0 ∨ ∃ g, ad = some ⟨g, 0, none⟩ ∧ b < g ∧ g < w.heap.size ∧ Arr 115 mkV w g (ys.length * 3) (infV ys)
theorem RowE.ent {w : World} {b : Nat} {ad : Option Addr} {xs : List EB} (h : RowE w b ad xs) : EntS w ad xs := by
  rcases h with h | ⟨g, h1, h2, h3, h4⟩
  · exact .inl (List.eq_nil_of_length_eq_zero h)
  · exact .inr ⟨g, h1, h3, h4.cel⟩
theorem RowI.inf {w : World} {b : Nat} {ad : Option Addr} {ys : List IB} (h : RowI w b ad ys) : InfS w ad ys := by
  rcases h with h | ⟨g, h1, h2, h3, h4⟩
  · exact .inl (List.eq_nil_of_length_eq_zero h)
  · exact .inr ⟨g, h1, h3, h4.cel⟩
theorem RowE.fr {S : Nat → Prop} {w w2 : World} {b : Nat} {ad : Option Addr} {xs : List EB} (h : RowE w b ad xs) (hf : Fr S w w2) (hn : ∀ g, obk ad = some g → b < g → ¬ S g) : RowE w2 b ad xs := by
  rcases h with h | ⟨g, h1, h2, h3, h4⟩
  · exact .inl h
  · exact .inr ⟨g, h1, h2, Nat.lt_of_lt_of_le h3 hf.size, h4.fr hf (hn g (by rw [h1]; rfl) h2)⟩
theorem RowI.fr {S : Nat → Prop} {w w2 : World} {b : Nat} {ad : Option Addr} {ys : List IB} (h : RowI w b ad ys) (hf : Fr S w w2) (hn : ∀ g, obk ad = some g → b < g → ¬ S g) : RowI w2 b ad ys := by
  rcases h with h | ⟨g, h1, h2, h3, h4⟩
  · exact .inl h
  · exact .inr ⟨g, h1, h2, Nat.lt_of_lt_of_le h3 hf.size, h4.fr hf (hn g (by rw [h1]; rfl) h2)⟩
/-- Stamping: the fields that may turn, and to what. -/
structure StepE (R R2 : DkR) (v : Value) : Prop where
  oe : ∀ i, R2.oe i = R.oe i ∨ R2.oe i = v
  fe : R2.fe = R.fe ∨ R2.fe = v
  he : R2.he = R.he ∨ R2.he = v
  hl : R2.hl = R.hl ∨ R2.hl = v
  ne : R2.ne ≤ R.ne + 1
  nae : R2.nae ≤ R.nae + 1
  same : R2 = { R with oe := R2.oe, fe := R2.fe, he := R2.he, hl := R2.hl, ne := R2.ne, nae := R2.nae, pl := R2.pl }
structure StepI (R R2 : DkR) (v : Value) : Prop where
  oi : ∀ i, R2.oi i = R.oi i ∨ R2.oi i = v
  fi : R2.fi = R.fi ∨ R2.fi = v
  hi : R2.hi = R.hi ∨ R2.hi = v
  ni : R2.ni ≤ R.ni + 1
  nai : R2.nai ≤ R.nai + 1
  same : R2 = { R with oi := R2.oi, fi := R2.fi, hi := R2.hi, ni := R2.ni, nai := R2.nai }
/-- Three cells of a row of infos. -/
def updI (f : Nat → Value) (k : Nat) : Nat → Value := upd (upd (upd f (k * 3) (.string ⟨#[33]⟩)) (k * 3 + 1) (.int .i64 (-7))) (k * 3 + 2) (.int .i64 (-7))
theorem updI_lt {f : Nat → Value} {k : Nat} (h : ∀ j, j < k * 3 → f j = bangI j) : ∀ j, j < (k + 1) * 3 → updI f k j = bangI j := by
  intro j hj
  unfold updI
  by_cases e2 : j = k * 3 + 2
  · subst e2; rw [upd_self]; unfold bangI; rw [if_neg (by omega)]
  · rw [upd_ne _ _ _ _ e2]
    by_cases e1 : j = k * 3 + 1
    · subst e1; rw [upd_self]; unfold bangI; rw [if_neg (by omega)]
    · rw [upd_ne _ _ _ _ e1]
      by_cases e0 : j = k * 3
      · subst e0; rw [upd_self]; unfold bangI; rw [if_pos (by omega)]
      · rw [upd_ne _ _ _ _ e0]; exact h j (by omega)
theorem updE_lt {f : Nat → Value} {k : Nat} (h : ∀ j, j < k * 2 → f j = bangV) : ∀ j, j < (k + 1) * 2 → upd (upd f (k * 2) bangV) (k * 2 + 1) bangV j = bangV := by
  intro j hj
  by_cases e1 : j = k * 2 + 1
  · subst e1; rw [upd_self]
  · rw [upd_ne _ _ _ _ e1]
    by_cases e0 : j = k * 2
    · subst e0; rw [upd_self]
    · rw [upd_ne _ _ _ _ e0]; exact h j (by omega)
end Go.Proofs.Qxb6500353aGreat
