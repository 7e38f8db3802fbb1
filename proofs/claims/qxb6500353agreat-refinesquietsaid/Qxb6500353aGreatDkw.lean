/- The law's world: what stands between two steps of the script. -/
import Derived.Test.Qxb6500353aGreatDkh
import Derived.Test.Qxb6500353aGreatDku
import Derived.Test.Qxb6500353aGreatDkc
import Derived.Test.Qxb6500353aGreatAme
import Derived.Test.Qxb6500353aGreatAmb
namespace Go.Proofs.Qxb6500353aGreat
open Go.RowKit
set_option linter.unusedVariables false
set_option linter.unusedSimpArgs false

/-- The block of a list, if it has any element. -/
def bl (ad : Option Addr) (n : Nat) : Option Nat := if n = 0 then none else obk ad
theorem bl_some {ad : Option Addr} {n g : Nat} (h : bl ad n = some g) : n ≠ 0 ∧ obk ad = some g := by
  unfold bl at h
  by_cases e : n = 0
  · rw [if_pos e] at h; cases h
  · rw [if_neg e] at h; exact ⟨e, h⟩
theorem bl_of {ad : Option Addr} {n g : Nat} (h0 : n ≠ 0) (h : obk ad = some g) : bl ad n = some g := by unfold bl; rw [if_neg h0]; exact h
theorem EntS.fr2 {S : Nat → Prop} {w w2 : World} {ad : Option Addr} {es : List EB} (h : EntS w ad es) (hf : Fr S w w2) (hn : ∀ g, bl ad es.length = some g → g < w.heap.size → ¬ S g) : EntS w2 ad es := by
  rcases h with h | ⟨g, h1, h2, h3⟩
  · exact .inl h
  · by_cases e : es.length = 0
    · exact .inl (List.eq_nil_of_length_eq_zero e)
    · exact .inr ⟨g, h1, Nat.lt_of_lt_of_le h2 hf.size, h3.fr hf (hn g (bl_of e (by rw [h1]; rfl)) h2)⟩
theorem InfS.fr2 {S : Nat → Prop} {w w2 : World} {ad : Option Addr} {es : List IB} (h : InfS w ad es) (hf : Fr S w w2) (hn : ∀ g, bl ad es.length = some g → g < w.heap.size → ¬ S g) : InfS w2 ad es := by
  rcases h with h | ⟨g, h1, h2, h3⟩
  · exact .inl h
  · by_cases e : es.length = 0
    · exact .inl (List.eq_nil_of_length_eq_zero e)
    · exact .inr ⟨g, h1, Nat.lt_of_lt_of_le h2 hf.size, h3.fr hf (hn g (bl_of e (by rw [h1]; rfl)) h2)⟩
theorem RowE.fr2 {S : Nat → Prop} {w w2 : World} {b : Nat} {ad : Option Addr} {xs : List EB} (h : RowE w b ad xs) (hf : Fr S w w2) (hn : ∀ g, bl ad xs.length = some g → b < g → ¬ S g) : RowE w2 b ad xs := by
  rcases h with h | ⟨g, h1, h2, h3, h4⟩
  · exact .inl h
  · by_cases e : xs.length = 0
    · exact .inl e
    · exact .inr ⟨g, h1, h2, Nat.lt_of_lt_of_le h3 hf.size, h4.fr hf (hn g (bl_of e (by rw [h1]; rfl)) h2)⟩
theorem RowI.fr2 {S : Nat → Prop} {w w2 : World} {b : Nat} {ad : Option Addr} {ys : List IB} (h : RowI w b ad ys) (hf : Fr S w w2) (hn : ∀ g, bl ad ys.length = some g → b < g → ¬ S g) : RowI w2 b ad ys := by
  rcases h with h | ⟨g, h1, h2, h3, h4⟩
  · exact .inl h
  · by_cases e : ys.length = 0
    · exact .inl e
    · exact .inr ⟨g, h1, h2, Nat.lt_of_lt_of_le h3 hf.size, h4.fr hf (hn g (bl_of e (by rw [h1]; rfl)) h2)⟩
theorem RowE.lt {w : World} {b g : Nat} {ad : Option Addr} {xs : List EB} (h : RowE w b ad xs) (hg : bl ad xs.length = some g) : b < g ∧ g < w.heap.size := by
  obtain ⟨e, h0⟩ := bl_some hg
  rcases h with h | ⟨g2, h1, h2, h3, _⟩
  · exact absurd h e
  · rw [h1] at h0
    have h0 : some g2 = some g := h0
    injection h0 with h0
    subst h0; exact ⟨h2, h3⟩
theorem RowI.lt {w : World} {b g : Nat} {ad : Option Addr} {ys : List IB} (h : RowI w b ad ys) (hg : bl ad ys.length = some g) : b < g ∧ g < w.heap.size := by
  obtain ⟨e, h0⟩ := bl_some hg
  rcases h with h | ⟨g2, h1, h2, h3, _⟩
  · exact absurd h e
  · rw [h1] at h0
    have h0 : some g2 = some g := h0
    injection h0 with h0
    subst h0; exact ⟨h2, h3⟩
/-- Two strings an entry, as cells. -/
def entC (e : EB) : List Value := [.string e.1, .string e.2]
theorem OwnG.ent {w : World} {base n cap : Nat} {ad : Option Addr} {es : List EB} (h : OwnG w base 98 2 ad n cap (es.flatMap entC)) : EntS w ad es := by
  by_cases e : es = []
  · exact .inl e
  have hx := fun k j r (hj : j < 2) hk => flat_at entC 2 (fun _ => rfl) es k j r hj hk
  have h0 : 0 < es.length := by cases es with | nil => exact absurd rfl e | cons _ _ => simp
  obtain ⟨g, e1, c0⟩ := h.at (0 * 2 + 0) _ ((hx 0 0 _ (by omega) (List.getElem?_eq_getElem h0)).trans rfl)
  refine .inr ⟨g, e1, lt_of_cellB c0, fun i hi => ?_⟩
  have hk : i / 2 < es.length := by omega
  have hv : (entC es[i / 2])[i % 2]? = some (entV es i) := by
    have hp : i % 2 = 0 ∨ i % 2 = 1 := by omega
    unfold entV
    rw [List.getD_eq_getElem?_getD, List.getElem?_eq_getElem hk]
    rcases hp with hp | hp <;> rw [hp] <;> rfl
  obtain ⟨g2, e2, c2⟩ := h.at (i / 2 * 2 + i % 2) _ ((hx _ _ _ (by omega) (List.getElem?_eq_getElem hk)).trans hv)
  rw [e1] at e2
  simp only [Option.some.injEq, Addr.mk.injEq, and_true] at e2
  subst e2
  rw [show i / 2 * 2 + i % 2 = i by omega] at c2
  rw [Nat.zero_add]; exact c2
/-- The model's container: two objects that nobody writes. -/
def MaK (w : World) (lo hi mb : Nat) : Prop := lo ≤ mb ∧ mb < hi ∧ ∃ p, lo ≤ p ∧ p < hi ∧ w.cell? ⟨mb, 0, none⟩ = some (ptrV p) ∧ PkM w p
theorem MaK.ma {w : World} {lo hi mb : Nat} (h : MaK w lo hi mb) : MaR w mb := by obtain ⟨_, _, p, _, _, h1, h2⟩ := h; exact ⟨p, h1, h2⟩
theorem MaK.fr {S : Nat → Prop} {w w2 : World} {lo hi mb : Nat} (h : MaK w lo hi mb) (hf : Fr S w w2) (hn : ∀ x, lo ≤ x → x < hi → ¬ S x) : MaK w2 lo hi mb := by
  obtain ⟨h1, h2, p, h3, h4, h5, h6⟩ := h
  exact ⟨h1, h2, p, h3, h4, hf.cell h5 (hn mb h1 h2), h6.fr hf (hn p h3 h4)⟩
structure Fix (w : World) (M X Z mb b : Nat) : Prop where
  ar : ∃ A, ArM w X Z A
  ma : MaK w (Z + 5) b mb
  mx : M ≤ X
  xz : X + 61 ≤ Z
  zb : Z + 5 ≤ b
theorem Fix.fr {S : Nat → Prop} {w w2 : World} {M X Z mb b : Nat} (h : Fix w M X Z mb b) (hf : Fr S w w2) (hn : ∀ x, X ≤ x → x < b → ¬ S x) : Fix w2 M X Z mb b := by
  obtain ⟨A, hA⟩ := h.ar
  have h1 := h.zb
  have h2 := h.xz
  exact ⟨⟨A, hA.fr hf fun k a c => hn k a (by omega)⟩, h.ma.fr hf fun k a c => hn k (by omega) c, h.mx, h.xz, h.zb⟩
structure Stamps (w : World) (b : Nat) (D : Nat → Prop) (R : DkR) : Prop where
  oe : ∀ i, i < 4 → StE w b D (R.oe i)
  oi : ∀ i, i < 4 → StI w b D (R.oi i)
  fe : StE w b D R.fe
  fi : StI w b D R.fi
  he : StE w b D R.he
  hi : StI w b D R.hi
  hl : StE w b D R.hl
theorem Stamps.fr {S D D2 : Nat → Prop} {w w2 : World} {b : Nat} {R : DkR} (h : Stamps w b D R) (hf : Fr S w w2) (hS : ∀ g, b < g → g < w.heap.size → S g → D g) (hD : ∀ g, b < g → g < w.heap.size → D2 g → D g) : Stamps w2 b D2 R :=
  ⟨fun i hi => (h.oe i hi).fr hf hS hD, fun i hi => (h.oi i hi).fr hf hS hD, h.fe.fr hf hS hD, h.fi.fr hf hS hD, h.he.fr hf hS hD, h.hi.fr hf hS hD, h.hl.fr hf hS hD⟩
theorem Stamps.stepE {D : Nat → Prop} {w : World} {b : Nat} {R R2 : DkR} {v : Value} (h : Stamps w b D R) (hs : StepE R R2 v) (hv : StE w b D v) : Stamps w b D R2 := by
  have e1 : R2.oi = R.oi := by rw [hs.same]
  have e2 : R2.fi = R.fi := by rw [hs.same]
  have e3 : R2.hi = R.hi := by rw [hs.same]
  refine ⟨fun i hi => ?_, by rw [e1]; exact h.oi, ?_, by rw [e2]; exact h.fi, ?_, by rw [e3]; exact h.hi, ?_⟩
  · rcases hs.oe i with e | e <;> rw [e]
    · exact h.oe i hi
    · exact hv
  · rcases hs.fe with e | e <;> rw [e]
    · exact h.fe
    · exact hv
  · rcases hs.he with e | e <;> rw [e]
    · exact h.he
    · exact hv
  · rcases hs.hl with e | e <;> rw [e]
    · exact h.hl
    · exact hv
theorem Stamps.stepI {D : Nat → Prop} {w : World} {b : Nat} {R R2 : DkR} {v : Value} (h : Stamps w b D R) (hs : StepI R R2 v) (hv : StI w b D v) : Stamps w b D R2 := by
  have e1 : R2.oe = R.oe := by rw [hs.same]
  have e2 : R2.fe = R.fe := by rw [hs.same]
  have e3 : R2.he = R.he := by rw [hs.same]
  have e4 : R2.hl = R.hl := by rw [hs.same]
  refine ⟨by rw [e1]; exact h.oe, fun i hi => ?_, by rw [e2]; exact h.fe, ?_, by rw [e3]; exact h.he, ?_, by rw [e4]; exact h.hl⟩
  · rcases hs.oi i with e | e <;> rw [e]
    · exact h.oi i hi
    · exact hv
  · rcases hs.fi with e | e <;> rw [e]
    · exact h.fi
    · exact hv
  · rcases hs.hi with e | e <;> rw [e]
    · exact h.hi
    · exact hv
/-- The blocks that are still written: the list's, those of the answers at hand. -/
def Own (R : DkR) : Nat → Prop := fun g => obk R.la = some g ∨ bl R.xa R.xs.length = some g ∨ bl R.ya R.ys.length = some g
structure LawAt (w : World) (M X Z mb b : Nat) (D0 : Nat → Prop) (R : DkR) (c : Nat) : Prop where
  fx : Fix w M X Z mb b
  dk : DkAt w b R
  li : OwnG w (b + 1) 98 2 R.la R.es.length R.lcap (R.es.flatMap entC)
  ln : R.es.length ≤ 5
  x : RowE w b R.xa R.xs
  xm : EntS w R.ma R.xs
  xmb : ∀ g, bl R.ma R.xs.length = some g → b < g
  xl : R.xs.length ≤ 4
  y : RowI w b R.ya R.ys
  ym : InfS w R.na R.ys
  ymb : ∀ g, bl R.na R.ys.length = some g → b < g
  yl : R.ys.length ≤ 4
  st : Stamps w b (fun g => Own R g ∨ D0 g) R
  od : ∀ g, Own R g → ¬ D0 g
  a1 : ∀ g, obk R.la = some g → bl R.xa R.xs.length ≠ some g ∧ bl R.ma R.xs.length ≠ some g ∧ bl R.ya R.ys.length ≠ some g ∧ bl R.na R.ys.length ≠ some g
  a2 : ∀ g, bl R.xa R.xs.length = some g → bl R.ya R.ys.length ≠ some g
  ne : R.ne ≤ c
  ni : R.ni ≤ c
  nae : R.nae ≤ c
  nai : R.nai ≤ c
  z1 : R.nm.size ≤ maxLen
  z2 : R.dt.size ≤ maxLen
  z3 : R.ar.size ≤ maxLen
theorem LawAt.own_lt {w : World} {M X Z mb b c : Nat} {D0 : Nat → Prop} {R : DkR} (h : LawAt w M X Z mb b D0 R c) {g : Nat} (hg : Own R g) : b < g ∧ g < w.heap.size := by
  rcases hg with hg | hg | hg
  · have := h.li.lt hg; omega
  · exact h.x.lt hg
  · exact h.y.lt hg
/-- A step that writes none of what is ours. -/
theorem LawAt.fr {S : Nat → Prop} {w w2 : World} {M X Z mb b c : Nat} {D0 : Nat → Prop} {R : DkR} (h : LawAt w M X Z mb b D0 R c) (hfx : Fix w2 M X Z mb b) (hf : Fr S w w2) (hn : ∀ x, b ≤ x → x < w.heap.size → ¬ S x) : LawAt w2 M X Z mb b D0 R c := by
  have hb := h.dk.lt
  refine ⟨hfx, h.dk.fr hf (hn b (Nat.le_refl _) hb), h.li.fr hf (fun g hg => hn g (by have := h.li.lt hg; omega) (h.li.lt hg).2), h.ln, h.x.fr2 hf (fun g hg hbg => hn g (Nat.le_of_lt hbg) (h.x.lt hg).2), h.xm.fr2 hf (fun g hg hl => hn g (Nat.le_of_lt (h.xmb g hg)) hl), h.xmb, h.xl, h.y.fr2 hf (fun g hg hbg => hn g (Nat.le_of_lt hbg) (h.y.lt hg).2), h.ym.fr2 hf (fun g hg hl => hn g (Nat.le_of_lt (h.ymb g hg)) hl), h.ymb, h.yl, h.st.fr hf (fun g h1 h2 h3 => absurd h3 (hn g (Nat.le_of_lt h1) h2)) (fun g h1 h2 h3 => h3), h.od, h.a1, h.a2, h.ne, h.ni, h.nae, h.nai, h.z1, h.z2, h.z3⟩
theorem LawAt.fr0 {w w2 : World} {M X Z mb b c : Nat} {D0 : Nat → Prop} {R : DkR} (h : LawAt w M X Z mb b D0 R c) (hf : Fr Nob w w2) : LawAt w2 M X Z mb b D0 R c :=
  h.fr (h.fx.fr hf fun _ _ _ x => x) hf fun _ _ _ x => x
/-- A call of the real tower. -/
theorem LawAt.tower {w w2 : World} {M X Z mb b c : Nat} {D0 : Nat → Prop} {R : DkR} (h : LawAt w M X Z mb b D0 R c) (ha : ∃ A, ArM w2 X Z A) (hf : Fr (Rng X (Z + 5)) w w2) : LawAt w2 M X Z mb b D0 R c :=
  h.fr ⟨ha, h.fx.ma.fr hf (fun x h1 h2 q => by have := q.2; omega), h.fx.mx, h.fx.xz, h.fx.zb⟩ hf (fun x h1 h2 q => by have := q.2; have := h.fx.zb; omega)
/-- All that will be made from here on is kept apart from the stamped lists. -/
theorem LawAt.lift {w : World} {M X Z mb b c : Nat} {R : DkR} (h : LawAt w M X Z mb b Nob R c) : LawAt w M X Z mb b (UpN w.heap.size) R c :=
  ⟨h.fx, h.dk, h.li, h.ln, h.x, h.xm, h.xmb, h.xl, h.y, h.ym, h.ymb, h.yl, h.st.fr (Fr.refl Nob w) (fun _ _ _ q => q.elim) (fun g h1 h2 h3 => by
    rcases h3 with q | q
    · exact .inl q
    · unfold UpN at q; omega), fun g hg q => by have := (h.own_lt hg).2; unfold UpN at q; omega, h.a1, h.a2, h.ne, h.ni, h.nae, h.nai, h.z1, h.z2, h.z3⟩
theorem LawAt.drop {w : World} {M X Z mb b c : Nat} {D0 : Nat → Prop} {R : DkR} (h : LawAt w M X Z mb b D0 R c) : LawAt w M X Z mb b Nob R c :=
  ⟨h.fx, h.dk, h.li, h.ln, h.x, h.xm, h.xmb, h.xl, h.y, h.ym, h.ymb, h.yl, h.st.fr (Fr.refl Nob w) (fun _ _ _ q => q.elim) (fun g h1 h2 h3 => by
    rcases h3 with q | q
    · exact .inl q
    · exact q.elim), fun g hg q => q, h.a1, h.a2, h.ne, h.ni, h.nae, h.nai, h.z1, h.z2, h.z3⟩
end Go.Proofs.Qxb6500353aGreat
