/- The walks over searchm: refute. -/
import Derived.Test.Qxb6500354aGreatSm
namespace Go.Proofs.Qxb6500354aGreat
open Go.RowKit
set_option linter.unusedVariables false
set_option linter.unusedSimpArgs false

/-- A list that is read beside an owned slice that grows. -/
structure Side (w : World) (u : Value) (x : List Int) (v : Value) : Prop where
  ints : Ints w u x
  dj : ∀ g, u.ownBlock = some g → v.ownBlock ≠ some g
  lt : ∀ g, u.ownBlock = some g → g < w.heap.size
theorem Side.grew {w w' : World} {base : Nat} {u v v' : Value} {x l : List Int} (h : Side w u x v) (k : Grew w w' base v v' l) : Side w' u x v' := by
  refine ⟨h.ints.fr k.fr (fun g hg hm => h.dj g hg (mem_blk.1 hm)), fun g hg e => ?_, fun g hg => Nat.lt_of_lt_of_le (h.lt g hg) k.fr.size⟩
  rcases k.nx g e with q | q
  · exact h.dj g hg q
  · have := h.lt g hg; omega
theorem Side.fr0 {w w' : World} {u v : Value} {x : List Int} (h : Side w u x v) (k : Fr [] w w') : Side w' u x v :=
  ⟨h.ints.fr k (by simp), h.dj, fun g hg => Nat.lt_of_lt_of_le (h.lt g hg) k.size⟩
theorem Side.of {w w' : World} {N base : Nat} {u v : Value} {x l : List Int} (h : OwnI w' N u x) (hv : OwnI w base v l) (hN : w.heap.size ≤ N) : Side w' u x v :=
  ⟨h.ints, fun g hg e => by have := h.base g hg; have := hv.lt g e; omega, fun g hg => h.lt g hg⟩

/-- A node of the tree: what it reads and what it lays. -/
structure Node (w0 w : World) (pv fv : Value) (p l : List Int) (last : Nat) : Prop where
  le : last ≤ 12
  len : p.length ≤ last
  gd : ∀ x ∈ p, good x = true
  fr : Fr [] w0 w
  side : Side w pv p fv
  own : OwnI w w0.heap.size fv l
theorem Node.fr0 {w0 w w' : World} {pv fv : Value} {p l : List Int} {last : Nat} (h : Node w0 w pv fv p l last) (k : Fr [] w w') : Node w0 w' pv fv p l last :=
  ⟨h.le, h.len, h.gd, h.fr.trans k, h.side.fr0 k, h.own.fr k (by simp)⟩
theorem Grew.le {w0 w w' : World} {v v' : Value} {l l' : List Int} (h : OwnI w w0.heap.size v l) (k : Grew w w' w0.heap.size v v' l') (hf : Fr [] w0 w) : Fr [] w0 w' :=
  hf.trans2 k.fr (fun x hx hlt => by have := h.base x (mem_blk.1 hx); omega)
theorem Grew.fr0 {w w1 w2 : World} {base : Nat} {v v1 : Value} {l : List Int} (h : Grew w w1 base v v1 l) (k : Fr [] w1 w2) : Grew w w2 base v v1 l := ⟨h.own.fr k (by simp), h.nx, h.fr.trans (k.mono (by simp))⟩
theorem Grew.behind {w w1 w2 : World} {base : Nat} {v v1 : Value} {l : List Int} (h : Grew w1 w2 base v v1 l) (k : Fr [] w w1) : Grew w w2 base v v1 l :=
  ⟨h.own, fun g hg => (h.nx g hg).imp (fun z => z) (fun z => Nat.le_trans k.size z), (k.mono (by simp)).trans h.fr⟩
theorem negL_len (c : List Int) : (negL c).length = c.length := by simp [negL]
theorem negL_good {c : List Int} (h : ∀ x ∈ c, good x = true) : ∀ x ∈ negL c, good x = true := by
  intro x hx
  obtain ⟨y, hy, rfl⟩ := List.mem_map.1 hx
  have := (good_iff y).1 (h y hy)
  exact (good_iff _).2 (by omega)

set_option maxRecDepth 100000 in
set_option maxHeartbeats 8000000 in
theorem refute_leaf {w0 w w2 : World} {pv fv v1 : Value} {p l : List Int} {last d : Nat} (hn : Node w0 w pv fv p l last) (hl : l.length + 54 * 2 ^ d ≤ 1000000) (hf : Fr [] w w2) (hs : Side w2 v1 (negL p) fv) :
    Calls Tryz.prog 93 #[fv, .bool false, v1] w2 fun e w' => ∃ v' l', e = .returned v' ∧ Grew w w' w0.heap.size fv v' l' ∧ l'.length + 41 ≤ l.length + 54 * 2 ^ d := by
  have hp : 0 < 2 ^ d := Nat.pow_pos (by decide)
  have h1 := hn.le
  have h2 := hn.len
  refine (mrow_any (hn.own.fr hf (by simp)) hs.ints false (by omega) (by rw [negL_len]; omega) (by have := hn.fr.size; have := hf.size; omega) hs.dj).mono ?_
  rintro e w3 ⟨v3, rfl, hg3⟩
  refine ⟨_, _, rfl, ⟨hg3.own, fun g hg => (hg3.nx g hg).imp (fun z => z) (fun z => Nat.le_trans hf.size z), (hf.mono (by simp)).trans hg3.fr⟩, ?_⟩
  rw [List.length_append]
  have : (flatRow (false, negL p)).length ≤ 13 := by simp [flatRow, negL_len]; omega
  omega
set_option maxRecDepth 100000 in
set_option maxHeartbeats 8000000 in
theorem refute_any {w0 : World} {u : Value} {cs : List (List Int)} (hm : Mat w0 u cs) (hok : RowsOK cs) : ∀ (d : Nat) (w : World) (pv fv : Value) (p l : List Int) (last : Nat), 12 ≤ last + d → Node w0 w pv fv p l last → l.length + 54 * 2 ^ d ≤ 1000000 →
    Calls Tryz.prog 53 #[u, pv, .int .i64 (last : Nat), fv] w fun e w' => ∃ v' l', e = .returned v' ∧ Grew w w' w0.heap.size fv v' l' ∧ l'.length + 41 ≤ l.length + 54 * 2 ^ d := by
  intro d
  induction d with
  | zero =>
    intro w pv fv p l last h1 hn hl
    have HM := hid (hm.fr0 hn.fr)
    have HN := hid hn
    have HL := hid hl
    have HD := hid (deny_any hn.side.ints hn.gd (by have := hn.len; have := hn.le; omega))
    have H1 := hid h1
    clear hn hl h1
    refine calls_via fun K hK => ?_
    go_enter Tryz.func53, Tryz.ntmps53
    go_wp2_with fail
    refine HD.out.mono ?_
    rintro e w1 ⟨v1, rfl, ho1, hf1⟩
    have HS1 := hid (Side.of (w' := w1) ho1 HN.out.own (Nat.le_refl _))
    have HF1 := hid hf1
    have HM1 := hid (HM.out.fr0 hf1)
    clear ho1 hf1
    go_wp2_with fail
    refine (next_any HM1.out hok last HN.out.le).mono ?_
    rintro e w2 ⟨⟨r, rfl, hr⟩, q, hq⟩
    have hr0 : r = 0 := by have := H1.out; omega
    subst hr0
    have HF2 : Hid (Fr [] w1 w2) := hid (by rw [hq]; exact Fr.of_drewN [])
    rw [show ((0 : Nat) : Int) = 0 from rfl]
    clear hq hr
    go_wp2_with fail
    refine (refute_leaf HN.out HL.out (HF1.out.trans HF2.out) (HS1.out.fr0 HF2.out)).mono ?_
    rintro e w3 ⟨v3, l3, rfl, hg3⟩
    have HG3 := hid hg3
    clear hg3
    go_wp2_with fail
    exact hK.out _ _ ⟨_, _, rfl, HG3.out⟩
  | succ d ih =>
    intro w pv fv p l last h1 hn hl
    have HM := hid (hm.fr0 hn.fr)
    have HN := hid hn
    have HL := hid hl
    have HD := hid (deny_any hn.side.ints hn.gd (by have := hn.len; have := hn.le; omega))
    have H1 := hid h1
    have HIH := hid ih
    clear hn hl h1 ih
    refine calls_via fun K hK => ?_
    go_enter Tryz.func53, Tryz.ntmps53
    go_wp2_with fail
    refine HD.out.mono ?_
    rintro e w1 ⟨v1, rfl, ho1, hf1⟩
    have HS1 := hid (Side.of (w' := w1) ho1 HN.out.own (Nat.le_refl _))
    have HF1 := hid hf1
    have HM1 := hid (HM.out.fr0 hf1)
    clear ho1 hf1
    go_wp2_with fail
    refine (next_any HM1.out hok last HN.out.le).mono ?_
    rintro e w2 ⟨⟨r, rfl, hr⟩, q, hq⟩
    have HR := hid hr
    have HF2 : Hid (Fr [] w w2) := hid (HF1.out.trans (by rw [hq]; exact Fr.of_drewN []))
    have HS2 := hid (HS1.out.fr0 (show Fr [] w1 w2 by rw [hq]; exact Fr.of_drewN []))
    clear hq hr
    by_cases h0 : r = 0
    · subst h0
      rw [show ((0 : Nat) : Int) = 0 from rfl]
      go_wp2_with fail
      refine (refute_leaf HN.out HL.out HF2.out HS2.out).mono ?_
      rintro e w3 ⟨v3, l3, rfl, hg3⟩
      have HG3 := hid hg3
      clear hg3
      go_wp2_with fail
      exact hK.out _ _ ⟨_, _, rfl, HG3.out⟩
    · have hb0 : ((r : Int) == 0) = false := by rw [beq_eq_false_iff_ne]; omega
      have hr2 := HR.out
      have HR2 : Hid (last < r ∧ r ≤ 12) := hid (by omega)
      have hri : (r : Int) ≤ 12 := by have := HR2.out; omega
      have hri2 : (0 : Int) ≤ r := by omega
      clear h0 hr2
      go_wp2_with fail
      refine (rup_any (HM.out.fr0 HF2.out) HS2.out.ints hok (negL_good HN.out.gd) (by rw [negL_len]; have := HN.out.len; have := HN.out.le; omega)).mono ?_
      rintro e w3 ⟨rfl, hf3⟩
      have HF3 := hid (HF2.out.trans hf3)
      have HS3 := hid (HS2.out.fr0 hf3)
      obtain ⟨rb, hrb⟩ : ∃ z, rupF cs (negL p) = z := ⟨_, rfl⟩
      rw [hrb]
      clear hf3 hrb
      cases rb with
      | true =>
        go_wp2_with fail
        refine (refute_leaf HN.out HL.out HF3.out HS3.out).mono ?_
        rintro e w4 ⟨v4, l4, rfl, hg4⟩
        have HG4 := hid hg4
        clear hg4
        go_wp2_with fail
        exact hK.out _ _ ⟨_, _, rfl, HG4.out⟩
      | false =>
        go_wp2_with fail
        have HP3 := hid (HN.out.side.fr0 HF3.out)
        have HPL : Hid (p.length ≤ 12) := hid (by have := HN.out.len; have := HN.out.le; omega)
        have HPG := hid HN.out.gd
        refine (copyInts_any HP3.out.ints (by have := HPL.out; omega)).mono ?_
        rintro e w4 ⟨v4, rfl, ho4, _, hf4⟩
        obtain ⟨N4, hN4⟩ : ∃ N, w3.heap.size = N := ⟨_, rfl⟩
        rw [hN4] at ho4
        have HN4 := hid hN4
        have HO4 := hid ho4
        have HF4 := hid hf4
        clear hN4 ho4 hf4
        go_wp2_with (at_builtin; refine wp_app rfl _ _ rfl N4 v4 p rfl (HO4.out.alloc _) (.slice (some ⟨w4.heap.size, 0, none⟩) 1 1) [(r : Int)] rfl (ints_oneN (by simp) _ _) (by have := HPL.out; simp; omega) (by have := HF4.out.size; have := HN4.out; simp; omega) ?_; intro v5 w5 ho5 hg5 hn5; have HF5 := hid ((HF4.out.alloc _).app hg5 (HO4.out.alloc _) (by rw [HN4.out]; omega)); have HO5 := hid ho5; clear ho5 hg5 hn5)
        have HY5 := hid (Side.of (w' := w5) HO5.out (HN.out.fr0 HF3.out).own (by rw [HN4.out]; omega))
        have HF5b := hid (HF3.out.trans HF5.out)
        have HS5 := hid (HS3.out.fr0 HF5.out)
        have HP5 := hid (HP3.out.fr0 HF5.out)
        refine (copyInts_any HP5.out.ints (by have := HPL.out; omega)).mono ?_
        rintro e w6 ⟨v6, rfl, ho6, _, hf6⟩
        obtain ⟨N6, hN6⟩ : ∃ N, w5.heap.size = N := ⟨_, rfl⟩
        rw [hN6] at ho6
        have HN6 := hid hN6
        have HO6 := hid ho6
        have HF6 := hid hf6
        clear hN6 ho6 hf6
        go_wp2_with (at_builtin; refine wp_app rfl _ _ rfl N6 v6 p rfl (HO6.out.alloc _) (.slice (some ⟨w6.heap.size, 0, none⟩) 1 1) [-(r : Int)] rfl (ints_oneN (by simp) _ _) (by have := HPL.out; simp; omega) (by have := HF6.out.size; have := HN6.out; simp; omega) ?_; intro v7 w7 ho7 hg7 hn7; have HF7 := hid ((HF6.out.alloc _).app hg7 (HO6.out.alloc _) (by rw [HN6.out]; omega)); have HO7 := hid ho7; clear ho7 hg7 hn7)
        have HF7b := hid (HF5b.out.trans HF7.out)
        have HZ7 := hid (Side.of (w' := w7) HO7.out (HN.out.fr0 HF5b.out).own (by rw [HN6.out]; omega))
        have HY7 := hid (HY5.out.fr0 HF7.out)
        have HS7 := hid (HS5.out.fr0 HF7.out)
        have HN7 := hid (HN.out.fr0 HF7b.out)
        have hgy : ∀ x ∈ p ++ [(r : Int)], good x = true := by
          intro x hx
          rcases List.mem_append.1 hx with e | e
          · exact HPG.out x e
          · rw [List.mem_singleton] at e; subst e; have := HR2.out; exact (good_iff _).2 (by omega)
        have hgz : ∀ x ∈ p ++ [-(r : Int)], good x = true := by
          intro x hx
          rcases List.mem_append.1 hx with e | e
          · exact HPG.out x e
          · rw [List.mem_singleton] at e; subst e; have := HR2.out; exact (good_iff _).2 (by omega)
        have hly : (p ++ [(r : Int)]).length ≤ r := by simp; have := HR2.out; have := HN.out.len; omega
        have hlz : (p ++ [-(r : Int)]).length ≤ r := by simp; have := HR2.out; have := HN.out.len; omega
        have HGY := hid hgy
        have HGZ := hid hgz
        have HLY := hid hly
        have HLZ := hid hlz
        have HHF : Hid (l.length + 54 * 2 ^ d + 54 * 2 ^ d ≤ 1000000) := hid (by have h := HL.out; rw [Nat.pow_succ] at h; omega)
        clear hgy hgz hly hlz
        refine (HIH.out w7 v5 fv (p ++ [(r : Int)]) l r (by have := H1.out; have := HR2.out; omega) ⟨HR2.out.2, HLY.out, HGY.out, HN7.out.fr, HY7.out, HN7.out.own⟩ (by have := HHF.out; omega)).mono ?_
        rintro e w8 ⟨v8, l8, rfl, hg8, hl8⟩
        have HG8 := hid hg8
        have HL8 := hid hl8
        have HF8 := hid (Grew.le HN7.out.own hg8 HN7.out.fr)
        have HY8 := hid (HY7.out.grew hg8)
        have HZ8 := hid (HZ7.out.grew hg8)
        have HS8 := hid (HS7.out.grew hg8)
        clear hg8 hl8
        go_wp2_with fail
        refine (HIH.out w8 v7 v8 (p ++ [-(r : Int)]) l8 r (by have := H1.out; have := HR2.out; omega) ⟨HR2.out.2, HLZ.out, HGZ.out, HF8.out, HZ8.out, HG8.out.own⟩ (by have := HHF.out; have := HL8.out; omega)).mono ?_
        rintro e w9 ⟨v9, l9, rfl, hg9, hl9⟩
        have HG9 := hid hg9
        have HL9 := hid hl9
        have HF9 := hid (Grew.le HG8.out.own hg9 HF8.out)
        have HY9 := hid (HY8.out.grew hg9)
        have HZ9 := hid (HZ8.out.grew hg9)
        have HS9 := hid (HS8.out.grew hg9)
        clear hg9 hl9
        go_wp2_with fail
        refine (mrow_any HG9.out.own HS9.out.ints false (by have := HHF.out; have := HL8.out; have := HL9.out; omega) (by rw [negL_len]; exact HPL.out) HF9.out.size HS9.out.dj).mono ?_
        rintro e wa ⟨va, rfl, hga⟩
        have HGa := hid hga
        have HFa := hid (Grew.le HG9.out.own hga HF9.out)
        have HYa := hid (HY9.out.grew hga)
        have HZa := hid (HZ9.out.grew hga)
        clear hga
        go_wp2_with fail
        refine (deny_any HYa.out.ints HGY.out (by have := HLY.out; have := HR2.out; omega)).mono ?_
        rintro e wb ⟨vb, rfl, hob, hfb⟩
        have HFb := hid hfb
        have HDb := hid (Side.of (w' := wb) hob HGa.out.own (Nat.le_refl _))
        have HOb := hid (HGa.out.own.fr hfb (by simp))
        have HZb := hid (HZa.out.fr0 hfb)
        have HFb0 := hid (HFa.out.trans hfb)
        clear hob hfb
        go_wp2_with fail
        refine (mrow_any HOb.out HDb.out.ints true (by have := HHF.out; have := HL8.out; have := HL9.out; simp [flatRow, negL_len]; have := HPL.out; omega) (by rw [negL_len]; have := HLY.out; have := HR2.out; omega) HFb0.out.size HDb.out.dj).mono ?_
        rintro e wc ⟨vc, rfl, hgc⟩
        have HGc := hid hgc
        have HFc := hid (Grew.le HOb.out hgc HFb0.out)
        have HZc := hid (HZb.out.grew hgc)
        clear hgc
        go_wp2_with fail
        refine (deny_any HZc.out.ints HGZ.out (by have := HLZ.out; have := HR2.out; omega)).mono ?_
        rintro e wd ⟨vd, rfl, hod, hfd⟩
        have HFd := hid hfd
        have HDd := hid (Side.of (w' := wd) hod HGc.out.own (Nat.le_refl _))
        have HOd := hid (HGc.out.own.fr hfd (by simp))
        have HFd0 := hid (HFc.out.trans hfd)
        clear hod hfd
        go_wp2_with fail
        refine (mrow_any HOd.out HDd.out.ints true (by have := HHF.out; have := HL8.out; have := HL9.out; simp [flatRow, negL_len]; have := HPL.out; omega) (by rw [negL_len]; have := HLZ.out; have := HR2.out; omega) HFd0.out.size HDd.out.dj).mono ?_
        rintro e we ⟨ve, rfl, hge⟩
        have HGe := hid hge
        clear hge
        go_wp2_with fail
        refine hK.out _ _ ⟨_, l9 ++ flatRow (false, negL p) ++ flatRow (true, negL (p ++ [(r : Int)])) ++ flatRow (true, negL (p ++ [-(r : Int)])), rfl, ?_, ?_⟩
        · have g1 := HG8.out.trans HG9.out
          have g2 := g1.trans HGa.out
          have g3 : Grew w7 wb w0.heap.size fv va _ := g2.fr0 HFb.out
          have g4 := (g3.trans HGc.out).fr0 HFd.out
          exact (g4.trans HGe.out).behind HF7b.out
        · have h1 := HL8.out
          have h2 := HL9.out
          have h3 : p.length + 1 ≤ 12 := by have h5 := HLY.out; have h6 := HR2.out; simp at h5; omega
          rw [Nat.pow_succ]
          simp only [List.length_append, flatRow, negL_len, List.length_cons, List.length_nil]
          simp
          omega
end Go.Proofs.Qxb6500354aGreat
