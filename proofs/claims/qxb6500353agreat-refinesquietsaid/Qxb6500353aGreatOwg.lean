/- A growing row of structs. -/
import Derived.Test.Qxb6500353aGreatOwb
namespace Go.Proofs.Qxb6500353aGreat
open Go.RowKit
set_option linter.unusedVariables false
set_option linter.unusedSimpArgs false

/-- A row of n elements of 'size' cells each, that grows: its cells are xs. -/
structure OwnG (w : World) (base : Nat) (E : TypeId) (size : Nat) (ad : Option Addr) (n cap : Nat) (xs : List Value) : Prop where
  own : w.ownsRow base E size (.slice ad n cap) n xs
  len : xs.length = n * size
theorem OwnG.nil (w : World) (base : Nat) (E : TypeId) (size : Nat) : OwnG w base E size none 0 0 [] := ⟨World.ownsRow_nil _ _ _ _, by simp⟩
theorem OwnG.lt {w : World} {base size n cap g : Nat} {E : TypeId} {ad : Option Addr} {l : List Value} (h : OwnG w base E size ad n cap l) (hg : obk ad = some g) : base ≤ g ∧ g < w.heap.size := World.ownsRow.lt h.own g (by rw [own_obk]; exact hg)
theorem OwnG.fr {S : Nat → Prop} {w w2 : World} {base size n cap : Nat} {E : TypeId} {ad : Option Addr} {l : List Value} (h : OwnG w base E size ad n cap l) (hf : Fr S w w2) (hn : ∀ g, obk ad = some g → ¬ S g) : OwnG w2 base E size ad n cap l := by
  refine ⟨⟨h.own.1, ?_⟩, h.len⟩
  rcases h.own.2 with e | ⟨g, cap2, cur, e, hb, hg, rest⟩
  · exact .inl e
  · refine .inr ⟨g, cap2, cur, e, hb, ?_, rest⟩
    refine (hf.block g (Array.getElem?_eq_some_iff.1 hg).1 (hn g ?_)).trans hg
    simp only [Value.slice.injEq] at e; rw [e.1]; rfl
theorem OwnG.at {w : World} {base size n cap : Nat} {E : TypeId} {ad : Option Addr} {l : List Value} (h : OwnG w base E size ad n cap l) (i : Nat) (v : Value) (hi : l[i]? = some v) : ∃ g, ad = some ⟨g, 0, none⟩ ∧ w.cell? ⟨g, i, none⟩ = some v := by
  rcases h.own.2 with ⟨e, e2⟩ | ⟨g, cap2, cur, e, hb, hg, rest⟩
  · have hl := h.len
    rw [e2, Nat.zero_mul] at hl
    rw [List.eq_nil_of_length_eq_zero hl] at hi; simp at hi
  · simp only [Value.slice.injEq] at e
    refine ⟨g, e.1, ?_⟩
    have h1 := World.ownsRow.cells h.own (g := g) (by rw [e.1]; rfl) i v hi
    rw [addrAdd, Nat.zero_add] at h1; exact h1
theorem OwnG.shape {w : World} {base size n : Nat} {E : TypeId} {v : Value} {xs : List Value} (h : w.ownsRow base E size v n xs) : ∃ ad cap, v = .slice ad n cap := by
  rcases h.2 with ⟨e, e2⟩ | ⟨g, cap, cur, e, _⟩
  · exact ⟨none, 0, by rw [e, e2]⟩
  · exact ⟨_, _, e⟩
/-- append(s, x) where x is a fresh row of one element with the cells ys. -/
theorem wp_appG {ops : Array Oper} {rest : List Oper} {o : Oper} {a : Act} {Q : Exit → Act → World → Prop} {w : World} (hgd : o.guard = none) (s x : Operand) (T E size bytes : Nat) (z : Value)
    (ho : o.op = .call { callee := .builtin .append, args := #[s, x], argTypes := #[T, T] }) (hu : Tryz.prog.underlying T = some (.slice E)) (hinfo : (Tryz.prog.info? E).map (fun i => (i.zero, i.size, i.bytes)) = some (some z, size, bytes)) (hz : z.cells.size = size) (hsz : 0 < size) (hby : bytes ≤ 1000)
    (base : Nat) (ad : Option Addr) (n cap : Nat) (l ys : List Value) (hs : a.eval s = .slice ad n cap) (hown : OwnG w base E size ad n cap l)
    (N c : Nat) (hx : a.eval x = .slice (some ⟨N, 0, none⟩) 1 c) (hyl : ys.length = size) (hc : ∀ j u, ys[j]? = some u → w.cell? ⟨N, j, none⟩ = some u) (h1 : ∀ u ∈ ys, u.oneCell' = true) (hn : n ≤ 1000000) (hb : base ≤ w.heap.size)
    (h : ∀ ad' cap' w', OwnG w' base E size ad' (n + 1) cap' (l ++ ys) → Fr (Obs ad) w w' → (obk ad' = obk ad ∨ obk ad' = some w.heap.size) → wpList Tryz.prog ops Q rest (a.put o.dst (.slice ad' (n + 1) cap')) w') :
    wpList Tryz.prog ops Q (o :: rest) a w := by
  obtain ⟨i0, hi, hz0, hz1, hz2⟩ := info_parts hinfo
  refine wpList_append_own_at w hgd s x T ho base E i0 z size bytes hu hi hz0 hz1 hz2 hz hsz (.slice ad n cap) n l hs hown.own ⟨N, 0, none⟩ 1 c ys hx (by rw [hyl, Nat.one_mul]) ?_ h1 (by unfold maxLen; omega) ?_ hb ?_
  · intro j u hj
    rw [addrAdd, Nat.zero_add]; exact hc j u hj
  · exact Nat.le_trans (Nat.mul_le_mul (Nat.add_le_add_right hn 1) hby) (by omega)
  · intro v' w' h1 h2 h3 h4
    obtain ⟨ad', cap', rfl⟩ := OwnG.shape h1
    rw [own_obk, own_obk] at h4
    refine h ad' cap' w' ⟨h1, by rw [List.length_append, hown.len, hyl, Nat.add_mul, Nat.one_mul]⟩ ((Fr.refl (Obs ad) w).grown h2 (fun k hk _ => by rw [own_obk] at hk; exact hk)) h4
end Go.Proofs.Qxb6500353aGreat
