/- A growing row of bytes; the model's tape. -/
import Derived.Test.Qxb6500353aGreatNwz
import Derived.Maps.AppendAt
namespace Go.Proofs.Qxb6500353aGreat
open Go.RowKit
set_option linter.unusedVariables false
set_option linter.unusedSimpArgs false

def obk (ad : Option Addr) : Option Nat := ad.map (·.block)
theorem own_obk (ad : Option Addr) (n c : Nat) : (Value.slice ad n c).ownBlock = obk ad := by cases ad <;> rfl
/-- A row of bytes that grows: its value is '.slice ad n cap'. -/
structure OwnB (w : World) (base : Nat) (ad : Option Addr) (n cap : Nat) (l : List Nat) : Prop where
  own : w.ownsRow base 5 1 (.slice ad n cap) n (l.map mkB)
  len : l.length = n
theorem OwnB.nil (w : World) (base : Nat) : OwnB w base none 0 0 [] := ⟨World.ownsRow_nil _ _ _ _, rfl⟩
theorem OwnB.lt {w : World} {base n cap g : Nat} {ad : Option Addr} {l : List Nat} (h : OwnB w base ad n cap l) (hg : obk ad = some g) : base ≤ g ∧ g < w.heap.size := World.ownsRow.lt h.own g (by rw [own_obk]; exact hg)
theorem OwnB.fr {S : Nat → Prop} {w w2 : World} {base n cap : Nat} {ad : Option Addr} {l : List Nat} (h : OwnB w base ad n cap l) (hf : Fr S w w2) (hn : ∀ g, obk ad = some g → ¬ S g) : OwnB w2 base ad n cap l := by
  refine ⟨⟨h.own.1, ?_⟩, h.len⟩
  rcases h.own.2 with e | ⟨g, cap2, cur, e, hb, hg, rest⟩
  · exact .inl e
  · refine .inr ⟨g, cap2, cur, e, hb, ?_, rest⟩
    refine (hf.block g (Array.getElem?_eq_some_iff.1 hg).1 (hn g ?_)).trans hg
    simp only [Value.slice.injEq] at e; rw [e.1]; rfl
theorem OwnB.drewN {w : World} {base n cap k : Nat} {ad : Option Addr} {l : List Nat} (h : OwnB w base ad n cap l) : OwnB (w.drewN k) base ad n cap l := h.fr (Fr.of_drewN (S := Nob)) (fun _ _ x => x)
theorem OwnB.drew {w : World} {base n cap : Nat} {ad : Option Addr} {l : List Nat} (h : OwnB w base ad n cap l) : OwnB w.drew base ad n cap l := h.fr ((Fr.refl Nob w).drew) (fun _ _ x => x)
theorem OwnB.at {w : World} {base n cap : Nat} {ad : Option Addr} {l : List Nat} (h : OwnB w base ad n cap l) (i : Nat) (hi : i < n) : ∃ g, ad = some ⟨g, 0, none⟩ ∧ w.cell? ⟨g, i, none⟩ = some (.int .u8 ((l.getD i 0 : Nat) : Int)) := by
  rcases h.own.2 with ⟨e, e2⟩ | ⟨g, cap2, cur, e, hb, hg, rest⟩
  · omega
  · simp only [Value.slice.injEq] at e
    refine ⟨g, e.1, ?_⟩
    have h1 := World.ownsRow.cells h.own (g := g) (by rw [e.1]; rfl) i (mkB (l.getD i 0)) (by
      rw [List.getElem?_map, List.getD_eq_getElem?_getD, List.getElem?_eq_getElem (by rw [h.len]; exact hi)]; rfl)
    rw [addrAdd, Nat.zero_add] at h1; exact h1
theorem OwnB.shape {w : World} {base n : Nat} {v : Value} {xs : List Value} (h : w.ownsRow base 5 1 v n xs) : ∃ ad cap, v = .slice ad n cap := by
  rcases h.2 with ⟨e, e2⟩ | ⟨g, cap, cur, e, _⟩
  · exact ⟨none, 0, by rw [e, e2]⟩
  · exact ⟨_, _, e⟩
theorem info5z : (Tryz.prog.info? 5).map (fun i => (i.zero, i.size, i.bytes)) = some (some (.int .u8 0), 1, 1) := Tryz.info5
/-- The blocks that an append may turn. -/
def Obs (ad : Option Addr) : Nat → Prop := fun k => obk ad = some k
theorem wp_appB {ops : Array Oper} {rest : List Oper} {o : Oper} {a : Act} {Q : Exit → Act → World → Prop} {w : World} (hgd : o.guard = none) (s x : Operand)
    (ho : o.op = .call { callee := .builtin .append, args := #[s, x], argTypes := #[57, 57] }) (base : Nat) (ad : Option Addr) (n cap : Nat) (l : List Nat) (y : Nat) (hs : a.eval s = .slice ad n cap) (hown : OwnB w base ad n cap l)
    (N c : Nat) (hx : a.eval x = .slice (some ⟨N, 0, none⟩) 1 c) (hc : w.cell? ⟨N, 0, none⟩ = some (mkB y)) (hn : n ≤ 1000000000) (hb : base ≤ w.heap.size)
    (h : ∀ ad' cap' w', OwnB w' base ad' (n + 1) cap' (l ++ [y]) → Fr (Obs ad) w w' → (obk ad' = obk ad ∨ obk ad' = some w.heap.size) → wpList Tryz.prog ops Q rest (a.put o.dst (.slice ad' (n + 1) cap')) w') :
    wpList Tryz.prog ops Q (o :: rest) a w := by
  obtain ⟨i0, hi, hz0, hz1, hz2⟩ := info_parts Tryz.info5
  refine wpList_append_own_at w hgd s x 57 ho base 5 i0 (.int .u8 0) 1 1 Tryz.underlying57 hi hz0 hz1 hz2 rfl (by decide) (.slice ad n cap) n (l.map mkB) hs hown.own ⟨N, 0, none⟩ 1 c [mkB y] hx rfl ?_ (by intro u hu; simp at hu; subst hu; rfl) (by unfold maxLen; omega) (by omega) hb ?_
  · intro j u hj
    match j, hj with
    | 0, hj => rw [addrAdd]; rw [hc]; exact hj
    | j + 1, hj => simp at hj
  · intro v' w' h1 h2 h3 h4
    obtain ⟨ad', cap', rfl⟩ := OwnB.shape h1
    rw [own_obk, own_obk] at h4
    refine h ad' cap' w' ⟨by rw [List.map_append]; exact h1, by rw [List.length_append, hown.len]; rfl⟩ ((Fr.refl (Obs ad) w).grown h2 (fun k hk _ => by rw [own_obk] at hk; exact hk)) h4

/-! ### the model's tape -/
def bitsL (X n : Nat) : List Nat := (List.range n).map fun i => X / 2 ^ i % 2
theorem bitsL_length (X n : Nat) : (bitsL X n).length = n := by simp [bitsL]
theorem bitsL_at (X n i : Nat) (hi : i < n) : (bitsL X n).getD i 0 = X / 2 ^ i % 2 := by
  unfold bitsL; rw [List.getD_eq_getElem?_getD, List.getElem?_map, List.getElem?_range hi]; rfl
theorem bitsL_put (X n c : Nat) (hX : X < 2 ^ n) (hc : c < 2) : bitsL (X + c * 2 ^ n) (n + 1) = bitsL X n ++ [c] := by
  unfold bitsL
  rw [List.range_succ, List.map_append]
  congr 1
  · refine List.map_congr_left fun i hi => ?_
    have hi := List.mem_range.1 hi
    have e : 2 ^ n = 2 ^ (n - i - 1) * 2 * 2 ^ i := by
      rw [show (2 : Nat) = 2 ^ 1 from rfl, ← Nat.pow_mul, ← Nat.pow_add, ← Nat.pow_mul, ← Nat.pow_add]; congr 1; omega
    rw [e, ← Nat.mul_assoc, ← Nat.mul_assoc, Nat.add_mul_div_right _ _ (pw_pos i), Nat.add_mul_mod_self_right]
  · simp only [List.map_cons, List.map_nil]
    rw [Nat.add_mul_div_right _ _ (pw_pos n), Nat.div_eq_of_lt hX, Nat.zero_add, Nat.mod_eq_of_lt hc]
theorem put_bit (t : Tp) (v k : Nat) : t.put (v % 2 ^ (k + 1)) (k + 1) = (t.put (v % 2 ^ k) k).put (v / 2 ^ k % 2) 1 := by
  unfold Tp.put
  rw [mod_succ]
  simp only [Nat.add_mul, Nat.pow_add, Nat.pow_one]
  congr 1
  rw [Nat.mul_comm (2 ^ k) (v / 2 ^ k % 2), Nat.mul_assoc, Nat.mul_comm (2 ^ k) (2 ^ t.n)]
  omega
structure MTp (w : World) (b : Nat) (ad : Option Addr) (cap : Nat) (t : Tp) : Prop where
  c_bit : w.cell? ⟨b, 0, none⟩ = some (.slice ad t.n cap)
  c_at : w.cell? ⟨b, 1, none⟩ = some (.int .i64 (t.at_ : Nat))
  fz : Thaw w b
  own : OwnB w (b + 1) ad t.n cap (bitsL t.X t.n)
  ok : t.OK
theorem MTp.lt {w : World} {b cap : Nat} {ad : Option Addr} {t : Tp} (h : MTp w b ad cap t) : b < w.heap.size := lt_of_cellB h.c_at
theorem MTp.fr {S : Nat → Prop} {w w2 : World} {b cap : Nat} {ad : Option Addr} {t : Tp} (h : MTp w b ad cap t) (hf : Fr S w w2) (hb : ¬ S b) (hn : ∀ g, obk ad = some g → ¬ S g) : MTp w2 b ad cap t :=
  ⟨hf.cell h.c_bit hb, hf.cell h.c_at hb, h.fz.fr hf h.lt hb, h.own.fr hf hn, h.ok⟩
theorem MTp.drew {w : World} {b cap : Nat} {ad : Option Addr} {t : Tp} (h : MTp w b ad cap t) : MTp w.drew b ad cap t := h.fr ((Fr.refl Nob w).drew) (fun x => x) (fun _ _ x => x)
theorem MTp.drewN {w : World} {b cap k : Nat} {ad : Option Addr} {t : Tp} (h : MTp w b ad cap t) : MTp (w.drewN k) b ad cap t := h.fr (Fr.of_drewN (S := Nob)) (fun x => x) (fun _ _ x => x)
/-- The cursor moves. -/
theorem MTp.move {w : World} {b cap : Nat} {ad : Option Addr} {t : Tp} (h : MTp w b ad cap t) {x : Nat} (hx : x ≤ t.n) : MTp (w.setCell ⟨b, 1, none⟩ (.int .i64 (x : Nat))) b ad cap ⟨t.X, t.n, x⟩ := by
  have hf : Fr (One b) w (w.setCell ⟨b, 1, none⟩ (.int .i64 (x : Nat))) := Fr.set1 (Fr.refl _ _) _ _
  refine ⟨(cellNe (by omega)).trans h.c_bit, cellSet h.c_at, h.fz.set _ _, h.own.fr hf (fun g hg e => ?_), ⟨h.ok.lt, h.ok.len, hx⟩⟩
  have := (h.own.lt hg).1; unfold One at e; omega
/-- The blocks that a Put may turn. -/
def TpS (b : Nat) (ad : Option Addr) : Nat → Prop := fun k => k = b ∨ obk ad = some k
/-- From (w0, ad0) to (w, ad) the tape in block b has grown, nothing else has turned. -/
structure Gr (b : Nat) (w0 : World) (ad0 : Option Addr) (w : World) (ad : Option Addr) : Prop where
  fr : Fr (TpS b ad0) w0 w
  ob : ∀ g, obk ad = some g → obk ad0 = some g ∨ w0.heap.size ≤ g
theorem Gr.refl (b : Nat) (w : World) (ad : Option Addr) : Gr b w ad w ad := ⟨Fr.refl _ _, fun g h => .inl h⟩
theorem Gr.trans {b : Nat} {w0 w1 w2 : World} {a0 a1 a2 : Option Addr} (h : Gr b w0 a0 w1 a1) (k : Gr b w1 a1 w2 a2) : Gr b w0 a0 w2 a2 := by
  refine ⟨h.fr.trans2 k.fr fun x hx hl => ?_, fun g hg => ?_⟩
  · rcases hx with e | e
    · exact .inl e
    · rcases h.ob x e with e2 | e2
      · exact .inr e2
      · omega
  · rcases k.ob g hg with e | e
    · exact h.ob g e
    · exact .inr (Nat.le_trans h.fr.size e)
theorem Gr.one {b : Nat} {w w2 : World} {ad : Option Addr} (h : Fr (One b) w w2) : Gr b w ad w2 ad := ⟨h.mono fun x hx _ => .inl hx, fun g h => .inl h⟩
theorem Gr.nob {b : Nat} {w w2 : World} {ad : Option Addr} (h : Fr Nob w w2) : Gr b w ad w2 ad := ⟨h.mono fun x hx _ => hx.elim, fun g h => .inl h⟩
/-- Seen from a world before the tape was made. -/
theorem Gr.nobs {b : Nat} {w00 w0 w : World} {ad0 ad : Option Addr} {cap : Nat} {t : Tp} (hm : MTp w0 b ad0 cap t) (hb : w00.heap.size ≤ b) (h : Gr b w0 ad0 w ad) (h0 : Fr Nob w00 w0) : Fr Nob w00 w :=
  h0.trans2 h.fr fun x hx hl => by
    rcases hx with e | e
    · omega
    · have := (hm.own.lt e).1; omega
end Go.Proofs.Qxb6500353aGreat
