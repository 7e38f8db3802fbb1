/- The model's encoder: Items, walked. -/
import Derived.Test.Qxb6500353aGreatOwb
import Derived.Test.Qxb6500353aGreatBlk
import Derived.Deep.DeepCutAuto
import Derived.Deep.Cut
namespace Go.Proofs.Qxb6500353aGreat
open Go.RowKit
set_option linter.unusedVariables false
set_option linter.unusedSimpArgs false

/-- A row of ints that grows: its value is '.slice ad n cap'. -/
structure OwnN (w : World) (base : Nat) (ad : Option Addr) (n cap : Nat) (l : List Nat) : Prop where
  own : w.ownsRow base 3 1 (.slice ad n cap) n (l.map mkN)
  len : l.length = n
theorem OwnN.nil (w : World) (base : Nat) : OwnN w base none 0 0 [] := ⟨World.ownsRow_nil _ _ _ _, rfl⟩
theorem OwnN.lt {w : World} {base n cap g : Nat} {ad : Option Addr} {l : List Nat} (h : OwnN w base ad n cap l) (hg : obk ad = some g) : base ≤ g ∧ g < w.heap.size := World.ownsRow.lt h.own g (by rw [own_obk]; exact hg)
theorem OwnN.fr {S : Nat → Prop} {w w2 : World} {base n cap : Nat} {ad : Option Addr} {l : List Nat} (h : OwnN w base ad n cap l) (hf : Fr S w w2) (hn : ∀ g, obk ad = some g → ¬ S g) : OwnN w2 base ad n cap l := by
  refine ⟨⟨h.own.1, ?_⟩, h.len⟩
  rcases h.own.2 with e | ⟨g, cap2, cur, e, hb, hg, rest⟩
  · exact .inl e
  · refine .inr ⟨g, cap2, cur, e, hb, ?_, rest⟩
    refine (hf.block g (Array.getElem?_eq_some_iff.1 hg).1 (hn g ?_)).trans hg
    simp only [Value.slice.injEq] at e; rw [e.1]; rfl
theorem OwnN.at {w : World} {base n cap : Nat} {ad : Option Addr} {l : List Nat} (h : OwnN w base ad n cap l) (i : Nat) (hi : i < n) : ∃ g, ad = some ⟨g, 0, none⟩ ∧ w.cell? ⟨g, i, none⟩ = some (.int .i64 ((l.getD i 0 : Nat) : Int)) := by
  rcases h.own.2 with ⟨e, e2⟩ | ⟨g, cap2, cur, e, hb, hg, rest⟩
  · omega
  · simp only [Value.slice.injEq] at e
    refine ⟨g, e.1, ?_⟩
    have h1 := World.ownsRow.cells h.own (g := g) (by rw [e.1]; rfl) i (mkN (l.getD i 0)) (by
      rw [List.getElem?_map, List.getD_eq_getElem?_getD, List.getElem?_eq_getElem (by rw [h.len]; exact hi)]; rfl)
    rw [addrAdd, Nat.zero_add] at h1; exact h1
theorem OwnN.shape {w : World} {base n : Nat} {v : Value} {xs : List Value} (h : w.ownsRow base 3 1 v n xs) : ∃ ad cap, v = .slice ad n cap := by
  rcases h.2 with ⟨e, e2⟩ | ⟨g, cap, cur, e, _⟩
  · exact ⟨none, 0, by rw [e, e2]⟩
  · exact ⟨_, _, e⟩
/-- append of the ints ys, laid at (N, o). -/
theorem wp_appN {ops : Array Oper} {rest : List Oper} {o : Oper} {a : Act} {Q : Exit → Act → World → Prop} {w : World} (hgd : o.guard = none) (s x : Operand)
    (ho : o.op = .call { callee := .builtin .append, args := #[s, x], argTypes := #[58, 58] }) (base : Nat) (ad : Option Addr) (n cap : Nat) (l : List Nat) (ys : List Nat) (hs : a.eval s = .slice ad n cap) (hown : OwnN w base ad n cap l)
    (N oo c m : Nat) (hx : a.eval x = .slice (some ⟨N, oo, none⟩) m c) (hm : ys.length = m) (hc : ∀ i, i < m → w.cell? ⟨N, oo + i, none⟩ = some (mkN (ys.getD i 0))) (hn : n + m ≤ 1000000000) (hb : base ≤ w.heap.size)
    (h : ∀ ad' cap' w', OwnN w' base ad' (n + m) cap' (l ++ ys) → Fr (Obs ad) w w' → (obk ad' = obk ad ∨ obk ad' = some w.heap.size) → wpList Tryz.prog ops Q rest (a.put o.dst (.slice ad' (n + m) cap')) w') :
    wpList Tryz.prog ops Q (o :: rest) a w := by
  obtain ⟨i0, hi, hz0, hz1, hz2⟩ := info_parts Tryz.info3
  refine wpList_append_own_at w hgd s x 58 ho base 3 i0 (.int .i64 0) 1 8 Tryz.underlying58 hi hz0 hz1 hz2 rfl (by decide) (.slice ad n cap) n (l.map mkN) hs hown.own ⟨N, oo, none⟩ m c (ys.map mkN) hx (by simp [hm]) ?_ (by intro u hu; obtain ⟨_, _, rfl⟩ := List.mem_map.1 hu; rfl) (by unfold maxLen; omega) (by omega) hb ?_
  · intro j u hj
    have hj2 := (List.getElem?_eq_some_iff.1 hj).1
    rw [List.length_map] at hj2
    rw [addrAdd, hc j (by omega), ← hj, List.getElem?_map, List.getD_eq_getElem?_getD, List.getElem?_eq_getElem hj2]; rfl
  · intro v' w' h1 h2 h3 h4
    obtain ⟨ad', cap', rfl⟩ := OwnN.shape h1
    rw [own_obk, own_obk] at h4
    refine h ad' cap' w' ⟨by rw [List.map_append]; exact h1, by rw [List.length_append, hown.len, hm]⟩ ((Fr.refl (Obs ad) w).grown h2 (fun k hk _ => by rw [own_obk] at hk; exact hk)) h4
theorem new3 {w : World} {M : Nat} {x y z : Int} {X Y Z : Nat} (hM : w.heap.size = M) (hx : x = X) (hy : y = Y) (hz : z = Z) : ∀ i, i < 3 → (w.alloc (Obj.cells #[.int .i64 x, .int .i64 y, .int .i64 z] 3)).cell? ⟨M, 0 + i, none⟩ = some (mkN ([X, Y, Z].getD i 0)) := by
  subst hM hx hy hz
  intro i hi
  rw [Nat.zero_add]
  refine (World.cell?_alloc_new _ _ _ i).trans ?_
  match i, hi with
  | 0, _ => rfl
  | 1, _ => rfl
  | 2, _ => rfl
def itL (it : Item) : List Nat := [it.x, it.v, it.more]
theorem itL_length (its : List Item) : (its.flatMap itL).length = 3 * its.length := by
  induction its with
  | nil => rfl
  | cons t ts ih => rw [List.flatMap_cons, List.length_append, ih]; simp [itL]; omega
theorem itL_snoc (its : List Item) (it : Item) : (its ++ [it]).flatMap itL = its.flatMap itL ++ itL it := by rw [List.flatMap_append]; simp
/-- What the loop over the list has. -/
structure ItS (l : List Nat) (i : Nat) (its : List Item) : Prop where
  eq : its ++ itP l i = itP l 0
  le : i ≤ l.length
  n : its.length ≤ i
theorem ItS.next {l : List Nat} {i : Nat} {its : List Item} (h : ItS l i its) (hi : i < l.length) : ItS l (i + (itemAt l i).2) (its ++ [(itemAt l i).1]) := by
  have h1 := itemAt_adv l i hi
  refine ⟨?_, h1.2, by have := h.n; simp; omega⟩
  rw [← h.eq, itP_step l i hi]; simp
set_option maxRecDepth 100000 in
set_option maxHeartbeats 8000000 in
theorem items_any {w : World} {lg lo cap N : Nat} {l : List Nat} (hN : w.heap.size = N) (hl : Cel mkN w lg lo l.length (len l)) (hlN : lg < N) (hn : l.length ≤ 1000) (h10 : ∀ i, len l i ≤ 10) :
    Calls Tryz.prog 101 #[.slice (some ⟨lg, lo, none⟩) l.length cap] w fun e w' => ∃ ad cp, e = .returned (.slice ad (3 * (itP l 0).length) cp) ∧ OwnN w' N ad (3 * (itP l 0).length) cp ((itP l 0).flatMap itL) ∧ Fr Nob w w' := by
  have HL := hid hl
  have H10 := hid h10
  have HNN := hid hN
  have HLN := hid hlN
  obtain ⟨n, hnl⟩ : ∃ n, n = l.length := ⟨_, rfl⟩
  rw [← hnl] at hn ⊢
  have hni : (n : Int) ≤ 1000 := by omega
  have HNL := hid hnl
  have HN1 := hid hn
  have hos : Hid (∀ {x y : World} {ad : Option Addr}, (∀ g, obk ad = some g → N ≤ g) → Fr (Obs ad) x y → Fr Nob w x → Fr Nob w y) := hid fun ha h k => k.trans2 h fun x hx hl => by have := ha x hx; have := HNN.out; omega
  clear hl h10 hn hnl hlN
  refine calls_via fun K hK => ?_
  go_enter Tryz.func101, Tryz.ntmps101
  go_wp2_with fail
  go_loopg [3, 4] n (fun g ov v wr => ∃ (i : Nat) (its : List Item) (ad : Option Addr) (cp : Nat), v = .int .i64 (i : Nat) ∧ g + i = n ∧ ov = .slice ad (3 * its.length) cp ∧ OwnN wr N ad (3 * its.length) cp (its.flatMap itL) ∧ ItS l i its ∧ Fr Nob w wr)
  case atStart => exact ⟨0, [], none, 0, rfl, by omega, rfl, OwnN.nil _ _, ⟨rfl, Nat.zero_le _, Nat.le_refl _⟩, Fr.refl _ _⟩
  case round =>
    obtain ⟨i, its, ad, cp, rfl, hg, rfl, hO, hS, hf⟩ := hrel
    obtain ⟨gO, hgO⟩ : ∃ g, g = gk := ⟨_, rfl⟩
    rw [← hgO] at hg
    have HGG := hid hgO
    have HG := hid hg
    have HO := hid hO
    have HS := hid hS
    have HF := hid hf
    by_cases hi : i < n
    · have hii : (i : Int) < n := by omega
      have hil : i < l.length := by rw [← HNL.out]; exact hi
      have HI := hid (And.intro hi hil)
      have HX := hid (HS.out.next hil)
      have hle := (itemAt_adv l i hil)
      have hC : Hid (∀ j, j < n → wr.cell? ⟨lg, lo + j, none⟩ = some (.int .i64 ((len l j : Nat) : Int))) := hid fun j hj => (HL.out.fr hf (fun x => x)) j (by rw [← HNL.out]; exact hj)
      have ci := hC.out i hi
      have hx10 := H10.out i
      obtain ⟨x, hx⟩ : ∃ x, x = len l i := ⟨_, rfl⟩
      rw [← hx] at ci hx10
      have hxi : (x : Int) ≤ 10 := by omega
      have HXL := hid hx
      obtain ⟨q, hq⟩ : ∃ q, q = 3 * its.length := ⟨_, rfl⟩
      rw [← hq] at hO ⊢
      have HO := hid hO
      have hq3 : q ≤ 3000 := by have := hS.n; have := hS.le; have := HN1.out; rw [← HNL.out] at *; omega
      have HQ := hid (And.intro hq hq3)
      obtain ⟨M0, hM0⟩ : ∃ M, wr.heap.size = M := ⟨_, rfl⟩
      have HM0 := hid hM0
      have HNM : Hid (N ≤ M0) := hid (by rw [← HNN.out, ← hM0]; exact hf.size)
      have HADV := hid hle
      clear hg hgO hO hS hf hi hil hle hx hq hq3 hM0
      obtain ⟨w4, rfl⟩ : ∃ w4, w4 = wr := ⟨_, rfl⟩
      go_wp2_with fail
      go_loopg [5] n (fun g rv wx => ∃ (r M : Nat), rv = .int .i64 (r : Nat) ∧ 1 ≤ r ∧ g + r = n + 1 ∧ i + r ≤ n ∧ (∀ m, m < r → len l (i + m) = x) ∧ wx = w4.drewN M)
      case atStart => exact ⟨1, 0, rfl, by omega, by omega, by have := HI.out; omega, fun m hm => by rw [show m = 0 by omega]; exact HXL.out.symm, rfl⟩
      case round =>
        obtain ⟨r, M, rfl, hr1, hg, him, hA, rfl⟩ := hrel
        have HGM := hid (And.intro hr1 (And.intro hg him))
        have HA := hid hA
        have hri1 : (1 : Int) ≤ r := by omega
        have hirn : (i : Int) + r ≤ n := by omega
        have hC2 : Hid (∀ j, j < n → (w4.drewN M).cell? ⟨lg, lo + j, none⟩ = some (.int .i64 ((len l j : Nat) : Int))) := hC
        have hfin : (i + r = n ∨ len l (i + r) ≠ x) → runF l i = r := by
          intro h
          have h1 := HI.out
          refine runF_uniq l i r (by rw [← HNL.out]; exact him) (fun m hm => by rw [hA m hm]; exact HXL.out) ?_ h1.2
          rcases h with h | h
          · left; rw [← HNL.out]; exact h
          · right; rw [← HXL.out]; exact h
        by_cases hl : i + r < n
        · have hli : (i : Int) + r < n := by omega
          have hld : decide ((i : Int) + r < n) = true := decide_eq_true hli
          have cz := hC.out (i + r) hl
          obtain ⟨z, hz⟩ : ∃ z, z = len l (i + r) := ⟨_, rfl⟩
          rw [← hz] at cz
          have z1 : (0 : Int) ≤ (i : Int) + r := by omega
          by_cases hzx : z = x
          · have hzxi : ((z : Int) == x) = true := by simp [hzx]
            have HZ := hid (hz.symm.trans hzx)
            have HL2 := hid hl
            clear hg him hA hfin hz hl hr1 hzx
            go_wp2_with fail
            go_quiet (fail)
            go_wp2_with fail
            go_roundg (gk - 1)
            case measure => have := HGM.out; have := HL2.out; omega
            case rel =>
              refine ⟨r + 1, _, by simp, by omega, by have := HGM.out; have := HL2.out; omega, by have := HL2.out; omega, fun m hm => ?_, by first | rfl | (repeat rw [World.drewN_drewN])⟩
              by_cases e : m = r
              · subst e; exact HZ.out
              · exact HA.out m (by omega)
          · have hzxi : ((z : Int) == x) = false := by simp; omega
            have hrun := hfin (.inr (by rw [← hz]; exact hzx))
            have HRUN := hid hrun
            clear hg him hA hfin hz hl hr1 hrun
            go_wp2_with fail
            go_quiet (fail)
            by_cases hx0 : x = 0
            · have hx0i : ((x : Int) == 0) = true := by simp [hx0]
              have HX0 := hid hx0
              clear hx0
              by_cases hr3 : 3 ≤ r
              · have hr3i : (3 : Int) ≤ r := by omega
                by_cases hr130 : 130 < r
                · have hri : (130 : Int) < r := by omega
                  have hit : itemAt l i = (⟨11, 127, 7⟩, 130) := by
                    unfold itemAt
                    rw [HRUN.out, ← HXL.out]
                    rw [if_pos ⟨HX0.out, hr3⟩, Nat.min_eq_right (by omega)]
                  have HIT := hid hit
                  clear hit
                  (try clear hB); (try clear hA); (try clear hxy)
                  go_wp2_with (at_builtin; refine wp_appN rfl _ _ rfl N ad q cp (its.flatMap itL) [11, 127, 7] rfl (HO.out.fr (S := Nob) (w := w4) (by with_reducible repeat (first | exact Fr.refl _ _ | refine Fr.alloc ?_ _ | refine Fr.drewN ?_)) (fun _ _ x => x)) w4.heap.size 0 3 3 rfl rfl (new3 rfl rfl rfl rfl) (by have := HQ.out.2; omega) (by have := HNM.out; have := HM0.out; simp; omega) ?_; intro ad2 cp2 w6 ho6 hf6 hob6; have HO6 := hid ho6; have HF6 := hid hf6; have HB6 := hid hob6; clear ho6 hf6 hob6)
                  go_roundg (gO - 130)
                  case measure => have := HGG.out; have := HG.out; have := HI.out; have h7 := HADV.out; rw [HIT.out] at h7; dsimp only at h7; omega
                  case rel =>
                    have h7 := HADV.out
                    rw [HIT.out] at h7
                    dsimp only at h7
                    have hx := HX.out
                    rw [HIT.out] at hx
                    have hO7 := HO6.out
                    have hq := HQ.out.1
                    refine ⟨i + 130, its ++ [⟨11, 127, 7⟩], ad2, cp2, by simp, by have := HG.out; have := HI.out; rw [← HNL.out] at h7; omega, by rw [List.length_append, hq]; simp; omega, ?_, hx, ?_⟩
                    · rw [itL_snoc, List.length_append]
                      have e : 3 * (its.length + [(⟨11, 127, 7⟩ : Item)].length) = q + 3 := by simp; omega
                      rw [e]; exact hO7
                    · have hfa : Fr Nob w4 (w4.drewN 0) := Fr.of_drewN
                      refine hos.out (ad := ad) (fun g hg => (HO.out.lt hg).1) HF6.out ?_
                      exact HF.out.trans (by with_reducible repeat (first | exact Fr.refl _ _ | refine Fr.alloc ?_ _ | refine Fr.drewN ?_))
                · have hri : ¬ (130 : Int) < r := by omega
                  obtain ⟨v3, hv3⟩ : ∃ v, v = r - 3 := ⟨_, rfl⟩
                  have ev3 : (r : Int) - 3 = (v3 : Int) := by omega
                  have hit : itemAt l i = (⟨11, v3, 7⟩, r) := by
                    unfold itemAt
                    rw [HRUN.out, ← HXL.out]
                    rw [if_pos ⟨HX0.out, hr3⟩, Nat.min_eq_left (by omega), hv3]
                  have HIT := hid hit
                  have HV3 := hid hv3; clear hit hv3
                  (try clear hB); (try clear hA); (try clear hxy)
                  go_wp2_with (at_builtin; refine wp_appN rfl _ _ rfl N ad q cp (its.flatMap itL) [11, v3, 7] rfl (HO.out.fr (S := Nob) (w := w4) (by with_reducible repeat (first | exact Fr.refl _ _ | refine Fr.alloc ?_ _ | refine Fr.drewN ?_)) (fun _ _ x => x)) w4.heap.size 0 3 3 rfl rfl (new3 rfl rfl rfl rfl) (by have := HQ.out.2; omega) (by have := HNM.out; have := HM0.out; simp; omega) ?_; intro ad2 cp2 w6 ho6 hf6 hob6; have HO6 := hid ho6; have HF6 := hid hf6; have HB6 := hid hob6; clear ho6 hf6 hob6)
                  go_roundg (gO - r)
                  case measure => have := HGG.out; have := HG.out; have := HI.out; have h7 := HADV.out; rw [HIT.out] at h7; dsimp only at h7; omega
                  case rel =>
                    have h7 := HADV.out
                    rw [HIT.out] at h7
                    dsimp only at h7
                    have hx := HX.out
                    rw [HIT.out] at hx
                    have hO7 := HO6.out
                    have hq := HQ.out.1
                    refine ⟨i + r, its ++ [⟨11, v3, 7⟩], ad2, cp2, by simp, by have := HG.out; have := HI.out; rw [← HNL.out] at h7; omega, by rw [List.length_append, hq]; simp; omega, ?_, hx, ?_⟩
                    · rw [itL_snoc, List.length_append]
                      have e : 3 * (its.length + [(⟨11, v3, 7⟩ : Item)].length) = q + 3 := by simp; omega
                      rw [e]; exact hO7
                    · have hfa : Fr Nob w4 (w4.drewN 0) := Fr.of_drewN
                      refine hos.out (ad := ad) (fun g hg => (HO.out.lt hg).1) HF6.out ?_
                      exact HF.out.trans (by with_reducible repeat (first | exact Fr.refl _ _ | refine Fr.alloc ?_ _ | refine Fr.drewN ?_))
              · have hr3i : ¬ (3 : Int) ≤ r := by omega
                have hA : ¬ (x = 0 ∧ 3 ≤ r) := fun h => hr3 h.2
                by_cases hi0 : 0 < i
                · have hi0i : (0 : Int) < i := by omega
                  have cp1 := hC.out (i - 1) (by have := HI.out; omega)
                  have ep1 : (i : Int) - 1 = ((i - 1 : Nat) : Int) := by omega
                  obtain ⟨i1, hi1⟩ : ∃ i1, i1 = i - 1 := ⟨_, rfl⟩
                  rw [← hi1] at cp1 ep1
                  have hi1i : (i1 : Int) < n := by have := HI.out; omega
                  have wi1 : IntKind.i64.wrap (i1 : Int) = (i1 : Int) := wrapI (by omega) (by omega)
                  have h1i : (1 : Int) ≤ i := by omega
                  have hini : (i : Int) ≤ n := by have := HI.out; omega
                  have h0i1 : (0 : Int) ≤ (i : Int) - 1 := by omega
                  have h0i2 : (i : Int) - 1 < n := by have := HI.out; omega
                  obtain ⟨y, hy⟩ : ∃ y, y = len l i1 := ⟨_, rfl⟩
                  rw [← hy] at cp1
                  have HY := hid (And.intro hy hi1)
                  clear hy hi1
                  by_cases hxy : x = y
                  · have hxyi : ((x : Int) == y) = true := by simp [hxy]
                    by_cases hr3 : 3 ≤ r
                    · exact absurd (show (3 : Int) ≤ r by omega) hr3i
                    · have hr3i : ¬ (3 : Int) ≤ r := by omega
                      have hB : ¬ (0 < i ∧ x = len l (i - 1) ∧ 3 ≤ r) := fun h => hr3 h.2.2
                      have hit : itemAt l i = (⟨x, 0, 0⟩, 1) := by
                        unfold itemAt
                        rw [HRUN.out, ← HXL.out]
                        rw [if_neg hA, if_neg hB]
                      have HIT := hid hit
                      clear hit
                      (try clear hB); (try clear hA); (try clear hxy)
                      go_wp2_with fail
                      go_quiet (fail)
                      go_wp2_with (at_builtin; refine wp_appN rfl _ _ rfl N ad q cp (its.flatMap itL) [x, 0, 0] rfl (HO.out.fr (S := Nob) (w := w4) (by with_reducible repeat (first | exact Fr.refl _ _ | refine Fr.alloc ?_ _ | refine Fr.drewN ?_)) (fun _ _ x => x)) w4.heap.size 0 3 3 rfl rfl (new3 rfl rfl rfl rfl) (by have := HQ.out.2; omega) (by have := HNM.out; have := HM0.out; simp; omega) ?_; intro ad2 cp2 w6 ho6 hf6 hob6; have HO6 := hid ho6; have HF6 := hid hf6; have HB6 := hid hob6; clear ho6 hf6 hob6)
                      go_roundg (gO - 1)
                      case measure => have := HGG.out; have := HG.out; have := HI.out; have h7 := HADV.out; rw [HIT.out] at h7; dsimp only at h7; omega
                      case rel =>
                        have h7 := HADV.out
                        rw [HIT.out] at h7
                        dsimp only at h7
                        have hx := HX.out
                        rw [HIT.out] at hx
                        have hO7 := HO6.out
                        have hq := HQ.out.1
                        refine ⟨i + 1, its ++ [⟨x, 0, 0⟩], ad2, cp2, by simp, by have := HG.out; have := HI.out; rw [← HNL.out] at h7; omega, by rw [List.length_append, hq]; simp; omega, ?_, hx, ?_⟩
                        · rw [itL_snoc, List.length_append]
                          have e : 3 * (its.length + [(⟨x, 0, 0⟩ : Item)].length) = q + 3 := by simp; omega
                          rw [e]; exact hO7
                        · have hfa : Fr Nob w4 (w4.drewN 0) := Fr.of_drewN
                          refine hos.out (ad := ad) (fun g hg => (HO.out.lt hg).1) HF6.out ?_
                          exact HF.out.trans (by with_reducible repeat (first | exact Fr.refl _ _ | refine Fr.alloc ?_ _ | refine Fr.drewN ?_))
                  · have hxyi : ((x : Int) == y) = false := by simp; omega
                    have hB : ¬ (0 < i ∧ x = len l (i - 1) ∧ 3 ≤ r) := fun h => hxy (by rw [HY.out.1, HY.out.2]; exact h.2.1)
                    have hit : itemAt l i = (⟨x, 0, 0⟩, 1) := by
                      unfold itemAt
                      rw [HRUN.out, ← HXL.out]
                      rw [if_neg hA, if_neg hB]
                    have HIT := hid hit
                    clear hit
                    (try clear hB); (try clear hA); (try clear hxy)
                    go_wp2_with fail
                    go_quiet (fail)
                    go_wp2_with (at_builtin; refine wp_appN rfl _ _ rfl N ad q cp (its.flatMap itL) [x, 0, 0] rfl (HO.out.fr (S := Nob) (w := w4) (by with_reducible repeat (first | exact Fr.refl _ _ | refine Fr.alloc ?_ _ | refine Fr.drewN ?_)) (fun _ _ x => x)) w4.heap.size 0 3 3 rfl rfl (new3 rfl rfl rfl rfl) (by have := HQ.out.2; omega) (by have := HNM.out; have := HM0.out; simp; omega) ?_; intro ad2 cp2 w6 ho6 hf6 hob6; have HO6 := hid ho6; have HF6 := hid hf6; have HB6 := hid hob6; clear ho6 hf6 hob6)
                    go_roundg (gO - 1)
                    case measure => have := HGG.out; have := HG.out; have := HI.out; have h7 := HADV.out; rw [HIT.out] at h7; dsimp only at h7; omega
                    case rel =>
                      have h7 := HADV.out
                      rw [HIT.out] at h7
                      dsimp only at h7
                      have hx := HX.out
                      rw [HIT.out] at hx
                      have hO7 := HO6.out
                      have hq := HQ.out.1
                      refine ⟨i + 1, its ++ [⟨x, 0, 0⟩], ad2, cp2, by simp, by have := HG.out; have := HI.out; rw [← HNL.out] at h7; omega, by rw [List.length_append, hq]; simp; omega, ?_, hx, ?_⟩
                      · rw [itL_snoc, List.length_append]
                        have e : 3 * (its.length + [(⟨x, 0, 0⟩ : Item)].length) = q + 3 := by simp; omega
                        rw [e]; exact hO7
                      · have hfa : Fr Nob w4 (w4.drewN 0) := Fr.of_drewN
                        refine hos.out (ad := ad) (fun g hg => (HO.out.lt hg).1) HF6.out ?_
                        exact HF.out.trans (by with_reducible repeat (first | exact Fr.refl _ _ | refine Fr.alloc ?_ _ | refine Fr.drewN ?_))
                · have hi0i : ¬ (0 : Int) < i := by omega
                  have hB : ¬ (0 < i ∧ x = len l (i - 1) ∧ 3 ≤ r) := fun h => hi0 h.1
                  have hit : itemAt l i = (⟨x, 0, 0⟩, 1) := by
                    unfold itemAt
                    rw [HRUN.out, ← HXL.out]
                    rw [if_neg hA, if_neg hB]
                  have HIT := hid hit
                  clear hit
                  (try clear hB); (try clear hA); (try clear hxy)
                  go_wp2_with fail
                  go_quiet (fail)
                  go_wp2_with (at_builtin; refine wp_appN rfl _ _ rfl N ad q cp (its.flatMap itL) [x, 0, 0] rfl (HO.out.fr (S := Nob) (w := w4) (by with_reducible repeat (first | exact Fr.refl _ _ | refine Fr.alloc ?_ _ | refine Fr.drewN ?_)) (fun _ _ x => x)) w4.heap.size 0 3 3 rfl rfl (new3 rfl rfl rfl rfl) (by have := HQ.out.2; omega) (by have := HNM.out; have := HM0.out; simp; omega) ?_; intro ad2 cp2 w6 ho6 hf6 hob6; have HO6 := hid ho6; have HF6 := hid hf6; have HB6 := hid hob6; clear ho6 hf6 hob6)
                  go_roundg (gO - 1)
                  case measure => have := HGG.out; have := HG.out; have := HI.out; have h7 := HADV.out; rw [HIT.out] at h7; dsimp only at h7; omega
                  case rel =>
                    have h7 := HADV.out
                    rw [HIT.out] at h7
                    dsimp only at h7
                    have hx := HX.out
                    rw [HIT.out] at hx
                    have hO7 := HO6.out
                    have hq := HQ.out.1
                    refine ⟨i + 1, its ++ [⟨x, 0, 0⟩], ad2, cp2, by simp, by have := HG.out; have := HI.out; rw [← HNL.out] at h7; omega, by rw [List.length_append, hq]; simp; omega, ?_, hx, ?_⟩
                    · rw [itL_snoc, List.length_append]
                      have e : 3 * (its.length + [(⟨x, 0, 0⟩ : Item)].length) = q + 3 := by simp; omega
                      rw [e]; exact hO7
                    · have hfa : Fr Nob w4 (w4.drewN 0) := Fr.of_drewN
                      refine hos.out (ad := ad) (fun g hg => (HO.out.lt hg).1) HF6.out ?_
                      exact HF.out.trans (by with_reducible repeat (first | exact Fr.refl _ _ | refine Fr.alloc ?_ _ | refine Fr.drewN ?_))
            · have hx0i : ((x : Int) == 0) = false := by simp; omega
              have hA : ¬ (x = 0 ∧ 3 ≤ r) := fun h => hx0 h.1
              by_cases hi0 : 0 < i
              · have hi0i : (0 : Int) < i := by omega
                have cp1 := hC.out (i - 1) (by have := HI.out; omega)
                have ep1 : (i : Int) - 1 = ((i - 1 : Nat) : Int) := by omega
                obtain ⟨i1, hi1⟩ : ∃ i1, i1 = i - 1 := ⟨_, rfl⟩
                rw [← hi1] at cp1 ep1
                have hi1i : (i1 : Int) < n := by have := HI.out; omega
                have wi1 : IntKind.i64.wrap (i1 : Int) = (i1 : Int) := wrapI (by omega) (by omega)
                have h1i : (1 : Int) ≤ i := by omega
                have hini : (i : Int) ≤ n := by have := HI.out; omega
                have h0i1 : (0 : Int) ≤ (i : Int) - 1 := by omega
                have h0i2 : (i : Int) - 1 < n := by have := HI.out; omega
                obtain ⟨y, hy⟩ : ∃ y, y = len l i1 := ⟨_, rfl⟩
                rw [← hy] at cp1
                have HY := hid (And.intro hy hi1)
                clear hy hi1
                by_cases hxy : x = y
                · have hxyi : ((x : Int) == y) = true := by simp [hxy]
                  by_cases hr3 : 3 ≤ r
                  · have hr3i : (3 : Int) ≤ r := by omega
                    have hB : 0 < i ∧ x = len l (i - 1) ∧ 3 ≤ r := ⟨hi0, by rw [← HY.out.2, ← HY.out.1]; exact hxy, hr3⟩
                    by_cases hr6 : 6 < r
                    · have hr6i : (6 : Int) < r := by omega
                      have hit : itemAt l i = (⟨12, 3, 2⟩, 6) := by
                        unfold itemAt
                        rw [HRUN.out, ← HXL.out]
                        rw [if_neg hA, if_pos hB, Nat.min_eq_right (by omega)]
                      have HIT := hid hit
                      clear hit
                      (try clear hB); (try clear hA); (try clear hxy)
                      go_wp2_with fail
                      go_quiet (fail)
                      go_wp2_with (at_builtin; refine wp_appN rfl _ _ rfl N ad q cp (its.flatMap itL) [12, 3, 2] rfl (HO.out.fr (S := Nob) (w := w4) (by with_reducible repeat (first | exact Fr.refl _ _ | refine Fr.alloc ?_ _ | refine Fr.drewN ?_)) (fun _ _ x => x)) w4.heap.size 0 3 3 rfl rfl (new3 rfl rfl rfl rfl) (by have := HQ.out.2; omega) (by have := HNM.out; have := HM0.out; simp; omega) ?_; intro ad2 cp2 w6 ho6 hf6 hob6; have HO6 := hid ho6; have HF6 := hid hf6; have HB6 := hid hob6; clear ho6 hf6 hob6)
                      go_roundg (gO - 6)
                      case measure => have := HGG.out; have := HG.out; have := HI.out; have h7 := HADV.out; rw [HIT.out] at h7; dsimp only at h7; omega
                      case rel =>
                        have h7 := HADV.out
                        rw [HIT.out] at h7
                        dsimp only at h7
                        have hx := HX.out
                        rw [HIT.out] at hx
                        have hO7 := HO6.out
                        have hq := HQ.out.1
                        refine ⟨i + 6, its ++ [⟨12, 3, 2⟩], ad2, cp2, by simp, by have := HG.out; have := HI.out; rw [← HNL.out] at h7; omega, by rw [List.length_append, hq]; simp; omega, ?_, hx, ?_⟩
                        · rw [itL_snoc, List.length_append]
                          have e : 3 * (its.length + [(⟨12, 3, 2⟩ : Item)].length) = q + 3 := by simp; omega
                          rw [e]; exact hO7
                        · have hfa : Fr Nob w4 (w4.drewN 0) := Fr.of_drewN
                          refine hos.out (ad := ad) (fun g hg => (HO.out.lt hg).1) HF6.out ?_
                          exact HF.out.trans (by with_reducible repeat (first | exact Fr.refl _ _ | refine Fr.alloc ?_ _ | refine Fr.drewN ?_))
                    · have hr6i : ¬ (6 : Int) < r := by omega
                      obtain ⟨v3, hv3⟩ : ∃ v, v = r - 3 := ⟨_, rfl⟩
                      have ev3 : (r : Int) - 3 = (v3 : Int) := by omega
                      have hit : itemAt l i = (⟨12, v3, 2⟩, r) := by
                        unfold itemAt
                        rw [HRUN.out, ← HXL.out]
                        rw [if_neg hA, if_pos hB, Nat.min_eq_left (by omega), hv3]
                      have HIT := hid hit
                      have HV3 := hid hv3; clear hit hv3
                      (try clear hB); (try clear hA); (try clear hxy)
                      go_wp2_with fail
                      go_quiet (fail)
                      go_wp2_with (at_builtin; refine wp_appN rfl _ _ rfl N ad q cp (its.flatMap itL) [12, v3, 2] rfl (HO.out.fr (S := Nob) (w := w4) (by with_reducible repeat (first | exact Fr.refl _ _ | refine Fr.alloc ?_ _ | refine Fr.drewN ?_)) (fun _ _ x => x)) w4.heap.size 0 3 3 rfl rfl (new3 rfl rfl rfl rfl) (by have := HQ.out.2; omega) (by have := HNM.out; have := HM0.out; simp; omega) ?_; intro ad2 cp2 w6 ho6 hf6 hob6; have HO6 := hid ho6; have HF6 := hid hf6; have HB6 := hid hob6; clear ho6 hf6 hob6)
                      go_roundg (gO - r)
                      case measure => have := HGG.out; have := HG.out; have := HI.out; have h7 := HADV.out; rw [HIT.out] at h7; dsimp only at h7; omega
                      case rel =>
                        have h7 := HADV.out
                        rw [HIT.out] at h7
                        dsimp only at h7
                        have hx := HX.out
                        rw [HIT.out] at hx
                        have hO7 := HO6.out
                        have hq := HQ.out.1
                        refine ⟨i + r, its ++ [⟨12, v3, 2⟩], ad2, cp2, by simp, by have := HG.out; have := HI.out; rw [← HNL.out] at h7; omega, by rw [List.length_append, hq]; simp; omega, ?_, hx, ?_⟩
                        · rw [itL_snoc, List.length_append]
                          have e : 3 * (its.length + [(⟨12, v3, 2⟩ : Item)].length) = q + 3 := by simp; omega
                          rw [e]; exact hO7
                        · have hfa : Fr Nob w4 (w4.drewN 0) := Fr.of_drewN
                          refine hos.out (ad := ad) (fun g hg => (HO.out.lt hg).1) HF6.out ?_
                          exact HF.out.trans (by with_reducible repeat (first | exact Fr.refl _ _ | refine Fr.alloc ?_ _ | refine Fr.drewN ?_))
                  · have hr3i : ¬ (3 : Int) ≤ r := by omega
                    have hB : ¬ (0 < i ∧ x = len l (i - 1) ∧ 3 ≤ r) := fun h => hr3 h.2.2
                    have hit : itemAt l i = (⟨x, 0, 0⟩, 1) := by
                      unfold itemAt
                      rw [HRUN.out, ← HXL.out]
                      rw [if_neg hA, if_neg hB]
                    have HIT := hid hit
                    clear hit
                    (try clear hB); (try clear hA); (try clear hxy)
                    go_wp2_with fail
                    go_quiet (fail)
                    go_wp2_with (at_builtin; refine wp_appN rfl _ _ rfl N ad q cp (its.flatMap itL) [x, 0, 0] rfl (HO.out.fr (S := Nob) (w := w4) (by with_reducible repeat (first | exact Fr.refl _ _ | refine Fr.alloc ?_ _ | refine Fr.drewN ?_)) (fun _ _ x => x)) w4.heap.size 0 3 3 rfl rfl (new3 rfl rfl rfl rfl) (by have := HQ.out.2; omega) (by have := HNM.out; have := HM0.out; simp; omega) ?_; intro ad2 cp2 w6 ho6 hf6 hob6; have HO6 := hid ho6; have HF6 := hid hf6; have HB6 := hid hob6; clear ho6 hf6 hob6)
                    go_roundg (gO - 1)
                    case measure => have := HGG.out; have := HG.out; have := HI.out; have h7 := HADV.out; rw [HIT.out] at h7; dsimp only at h7; omega
                    case rel =>
                      have h7 := HADV.out
                      rw [HIT.out] at h7
                      dsimp only at h7
                      have hx := HX.out
                      rw [HIT.out] at hx
                      have hO7 := HO6.out
                      have hq := HQ.out.1
                      refine ⟨i + 1, its ++ [⟨x, 0, 0⟩], ad2, cp2, by simp, by have := HG.out; have := HI.out; rw [← HNL.out] at h7; omega, by rw [List.length_append, hq]; simp; omega, ?_, hx, ?_⟩
                      · rw [itL_snoc, List.length_append]
                        have e : 3 * (its.length + [(⟨x, 0, 0⟩ : Item)].length) = q + 3 := by simp; omega
                        rw [e]; exact hO7
                      · have hfa : Fr Nob w4 (w4.drewN 0) := Fr.of_drewN
                        refine hos.out (ad := ad) (fun g hg => (HO.out.lt hg).1) HF6.out ?_
                        exact HF.out.trans (by with_reducible repeat (first | exact Fr.refl _ _ | refine Fr.alloc ?_ _ | refine Fr.drewN ?_))
                · have hxyi : ((x : Int) == y) = false := by simp; omega
                  have hB : ¬ (0 < i ∧ x = len l (i - 1) ∧ 3 ≤ r) := fun h => hxy (by rw [HY.out.1, HY.out.2]; exact h.2.1)
                  have hit : itemAt l i = (⟨x, 0, 0⟩, 1) := by
                    unfold itemAt
                    rw [HRUN.out, ← HXL.out]
                    rw [if_neg hA, if_neg hB]
                  have HIT := hid hit
                  clear hit
                  (try clear hB); (try clear hA); (try clear hxy)
                  go_wp2_with fail
                  go_quiet (fail)
                  go_wp2_with (at_builtin; refine wp_appN rfl _ _ rfl N ad q cp (its.flatMap itL) [x, 0, 0] rfl (HO.out.fr (S := Nob) (w := w4) (by with_reducible repeat (first | exact Fr.refl _ _ | refine Fr.alloc ?_ _ | refine Fr.drewN ?_)) (fun _ _ x => x)) w4.heap.size 0 3 3 rfl rfl (new3 rfl rfl rfl rfl) (by have := HQ.out.2; omega) (by have := HNM.out; have := HM0.out; simp; omega) ?_; intro ad2 cp2 w6 ho6 hf6 hob6; have HO6 := hid ho6; have HF6 := hid hf6; have HB6 := hid hob6; clear ho6 hf6 hob6)
                  go_roundg (gO - 1)
                  case measure => have := HGG.out; have := HG.out; have := HI.out; have h7 := HADV.out; rw [HIT.out] at h7; dsimp only at h7; omega
                  case rel =>
                    have h7 := HADV.out
                    rw [HIT.out] at h7
                    dsimp only at h7
                    have hx := HX.out
                    rw [HIT.out] at hx
                    have hO7 := HO6.out
                    have hq := HQ.out.1
                    refine ⟨i + 1, its ++ [⟨x, 0, 0⟩], ad2, cp2, by simp, by have := HG.out; have := HI.out; rw [← HNL.out] at h7; omega, by rw [List.length_append, hq]; simp; omega, ?_, hx, ?_⟩
                    · rw [itL_snoc, List.length_append]
                      have e : 3 * (its.length + [(⟨x, 0, 0⟩ : Item)].length) = q + 3 := by simp; omega
                      rw [e]; exact hO7
                    · have hfa : Fr Nob w4 (w4.drewN 0) := Fr.of_drewN
                      refine hos.out (ad := ad) (fun g hg => (HO.out.lt hg).1) HF6.out ?_
                      exact HF.out.trans (by with_reducible repeat (first | exact Fr.refl _ _ | refine Fr.alloc ?_ _ | refine Fr.drewN ?_))
              · have hi0i : ¬ (0 : Int) < i := by omega
                have hB : ¬ (0 < i ∧ x = len l (i - 1) ∧ 3 ≤ r) := fun h => hi0 h.1
                have hit : itemAt l i = (⟨x, 0, 0⟩, 1) := by
                  unfold itemAt
                  rw [HRUN.out, ← HXL.out]
                  rw [if_neg hA, if_neg hB]
                have HIT := hid hit
                clear hit
                (try clear hB); (try clear hA); (try clear hxy)
                go_wp2_with fail
                go_quiet (fail)
                go_wp2_with (at_builtin; refine wp_appN rfl _ _ rfl N ad q cp (its.flatMap itL) [x, 0, 0] rfl (HO.out.fr (S := Nob) (w := w4) (by with_reducible repeat (first | exact Fr.refl _ _ | refine Fr.alloc ?_ _ | refine Fr.drewN ?_)) (fun _ _ x => x)) w4.heap.size 0 3 3 rfl rfl (new3 rfl rfl rfl rfl) (by have := HQ.out.2; omega) (by have := HNM.out; have := HM0.out; simp; omega) ?_; intro ad2 cp2 w6 ho6 hf6 hob6; have HO6 := hid ho6; have HF6 := hid hf6; have HB6 := hid hob6; clear ho6 hf6 hob6)
                go_roundg (gO - 1)
                case measure => have := HGG.out; have := HG.out; have := HI.out; have h7 := HADV.out; rw [HIT.out] at h7; dsimp only at h7; omega
                case rel =>
                  have h7 := HADV.out
                  rw [HIT.out] at h7
                  dsimp only at h7
                  have hx := HX.out
                  rw [HIT.out] at hx
                  have hO7 := HO6.out
                  have hq := HQ.out.1
                  refine ⟨i + 1, its ++ [⟨x, 0, 0⟩], ad2, cp2, by simp, by have := HG.out; have := HI.out; rw [← HNL.out] at h7; omega, by rw [List.length_append, hq]; simp; omega, ?_, hx, ?_⟩
                  · rw [itL_snoc, List.length_append]
                    have e : 3 * (its.length + [(⟨x, 0, 0⟩ : Item)].length) = q + 3 := by simp; omega
                    rw [e]; exact hO7
                  · have hfa : Fr Nob w4 (w4.drewN 0) := Fr.of_drewN
                    refine hos.out (ad := ad) (fun g hg => (HO.out.lt hg).1) HF6.out ?_
                    exact HF.out.trans (by with_reducible repeat (first | exact Fr.refl _ _ | refine Fr.alloc ?_ _ | refine Fr.drewN ?_))
        · have hli : ¬ (i : Int) + r < n := by omega
          have hld : decide ((i : Int) + r < n) = false := decide_eq_false hli
          have hrun := hfin (.inl (by omega))
          have HRUN := hid hrun
          clear hg him hA hfin hl hr1 hrun
          go_wp2_with fail
          go_quiet (fail)
          by_cases hx0 : x = 0
          · have hx0i : ((x : Int) == 0) = true := by simp [hx0]
            have HX0 := hid hx0
            clear hx0
            by_cases hr3 : 3 ≤ r
            · have hr3i : (3 : Int) ≤ r := by omega
              by_cases hr130 : 130 < r
              · have hri : (130 : Int) < r := by omega
                have hit : itemAt l i = (⟨11, 127, 7⟩, 130) := by
                  unfold itemAt
                  rw [HRUN.out, ← HXL.out]
                  rw [if_pos ⟨HX0.out, hr3⟩, Nat.min_eq_right (by omega)]
                have HIT := hid hit
                clear hit
                (try clear hB); (try clear hA); (try clear hxy)
                go_wp2_with (at_builtin; refine wp_appN rfl _ _ rfl N ad q cp (its.flatMap itL) [11, 127, 7] rfl (HO.out.fr (S := Nob) (w := w4) (by with_reducible repeat (first | exact Fr.refl _ _ | refine Fr.alloc ?_ _ | refine Fr.drewN ?_)) (fun _ _ x => x)) w4.heap.size 0 3 3 rfl rfl (new3 rfl rfl rfl rfl) (by have := HQ.out.2; omega) (by have := HNM.out; have := HM0.out; simp; omega) ?_; intro ad2 cp2 w6 ho6 hf6 hob6; have HO6 := hid ho6; have HF6 := hid hf6; have HB6 := hid hob6; clear ho6 hf6 hob6)
                go_roundg (gO - 130)
                case measure => have := HGG.out; have := HG.out; have := HI.out; have h7 := HADV.out; rw [HIT.out] at h7; dsimp only at h7; omega
                case rel =>
                  have h7 := HADV.out
                  rw [HIT.out] at h7
                  dsimp only at h7
                  have hx := HX.out
                  rw [HIT.out] at hx
                  have hO7 := HO6.out
                  have hq := HQ.out.1
                  refine ⟨i + 130, its ++ [⟨11, 127, 7⟩], ad2, cp2, by simp, by have := HG.out; have := HI.out; rw [← HNL.out] at h7; omega, by rw [List.length_append, hq]; simp; omega, ?_, hx, ?_⟩
                  · rw [itL_snoc, List.length_append]
                    have e : 3 * (its.length + [(⟨11, 127, 7⟩ : Item)].length) = q + 3 := by simp; omega
                    rw [e]; exact hO7
                  · have hfa : Fr Nob w4 (w4.drewN 0) := Fr.of_drewN
                    refine hos.out (ad := ad) (fun g hg => (HO.out.lt hg).1) HF6.out ?_
                    exact HF.out.trans (by with_reducible repeat (first | exact Fr.refl _ _ | refine Fr.alloc ?_ _ | refine Fr.drewN ?_))
              · have hri : ¬ (130 : Int) < r := by omega
                obtain ⟨v3, hv3⟩ : ∃ v, v = r - 3 := ⟨_, rfl⟩
                have ev3 : (r : Int) - 3 = (v3 : Int) := by omega
                have hit : itemAt l i = (⟨11, v3, 7⟩, r) := by
                  unfold itemAt
                  rw [HRUN.out, ← HXL.out]
                  rw [if_pos ⟨HX0.out, hr3⟩, Nat.min_eq_left (by omega), hv3]
                have HIT := hid hit
                have HV3 := hid hv3; clear hit hv3
                (try clear hB); (try clear hA); (try clear hxy)
                go_wp2_with (at_builtin; refine wp_appN rfl _ _ rfl N ad q cp (its.flatMap itL) [11, v3, 7] rfl (HO.out.fr (S := Nob) (w := w4) (by with_reducible repeat (first | exact Fr.refl _ _ | refine Fr.alloc ?_ _ | refine Fr.drewN ?_)) (fun _ _ x => x)) w4.heap.size 0 3 3 rfl rfl (new3 rfl rfl rfl rfl) (by have := HQ.out.2; omega) (by have := HNM.out; have := HM0.out; simp; omega) ?_; intro ad2 cp2 w6 ho6 hf6 hob6; have HO6 := hid ho6; have HF6 := hid hf6; have HB6 := hid hob6; clear ho6 hf6 hob6)
                go_roundg (gO - r)
                case measure => have := HGG.out; have := HG.out; have := HI.out; have h7 := HADV.out; rw [HIT.out] at h7; dsimp only at h7; omega
                case rel =>
                  have h7 := HADV.out
                  rw [HIT.out] at h7
                  dsimp only at h7
                  have hx := HX.out
                  rw [HIT.out] at hx
                  have hO7 := HO6.out
                  have hq := HQ.out.1
                  refine ⟨i + r, its ++ [⟨11, v3, 7⟩], ad2, cp2, by simp, by have := HG.out; have := HI.out; rw [← HNL.out] at h7; omega, by rw [List.length_append, hq]; simp; omega, ?_, hx, ?_⟩
                  · rw [itL_snoc, List.length_append]
                    have e : 3 * (its.length + [(⟨11, v3, 7⟩ : Item)].length) = q + 3 := by simp; omega
                    rw [e]; exact hO7
                  · have hfa : Fr Nob w4 (w4.drewN 0) := Fr.of_drewN
                    refine hos.out (ad := ad) (fun g hg => (HO.out.lt hg).1) HF6.out ?_
                    exact HF.out.trans (by with_reducible repeat (first | exact Fr.refl _ _ | refine Fr.alloc ?_ _ | refine Fr.drewN ?_))
            · have hr3i : ¬ (3 : Int) ≤ r := by omega
              have hA : ¬ (x = 0 ∧ 3 ≤ r) := fun h => hr3 h.2
              by_cases hi0 : 0 < i
              · have hi0i : (0 : Int) < i := by omega
                have cp1 := hC.out (i - 1) (by have := HI.out; omega)
                have ep1 : (i : Int) - 1 = ((i - 1 : Nat) : Int) := by omega
                obtain ⟨i1, hi1⟩ : ∃ i1, i1 = i - 1 := ⟨_, rfl⟩
                rw [← hi1] at cp1 ep1
                have hi1i : (i1 : Int) < n := by have := HI.out; omega
                have wi1 : IntKind.i64.wrap (i1 : Int) = (i1 : Int) := wrapI (by omega) (by omega)
                have h1i : (1 : Int) ≤ i := by omega
                have hini : (i : Int) ≤ n := by have := HI.out; omega
                have h0i1 : (0 : Int) ≤ (i : Int) - 1 := by omega
                have h0i2 : (i : Int) - 1 < n := by have := HI.out; omega
                obtain ⟨y, hy⟩ : ∃ y, y = len l i1 := ⟨_, rfl⟩
                rw [← hy] at cp1
                have HY := hid (And.intro hy hi1)
                clear hy hi1
                by_cases hxy : x = y
                · have hxyi : ((x : Int) == y) = true := by simp [hxy]
                  by_cases hr3 : 3 ≤ r
                  · exact absurd (show (3 : Int) ≤ r by omega) hr3i
                  · have hr3i : ¬ (3 : Int) ≤ r := by omega
                    have hB : ¬ (0 < i ∧ x = len l (i - 1) ∧ 3 ≤ r) := fun h => hr3 h.2.2
                    have hit : itemAt l i = (⟨x, 0, 0⟩, 1) := by
                      unfold itemAt
                      rw [HRUN.out, ← HXL.out]
                      rw [if_neg hA, if_neg hB]
                    have HIT := hid hit
                    clear hit
                    (try clear hB); (try clear hA); (try clear hxy)
                    go_wp2_with fail
                    go_quiet (fail)
                    go_wp2_with (at_builtin; refine wp_appN rfl _ _ rfl N ad q cp (its.flatMap itL) [x, 0, 0] rfl (HO.out.fr (S := Nob) (w := w4) (by with_reducible repeat (first | exact Fr.refl _ _ | refine Fr.alloc ?_ _ | refine Fr.drewN ?_)) (fun _ _ x => x)) w4.heap.size 0 3 3 rfl rfl (new3 rfl rfl rfl rfl) (by have := HQ.out.2; omega) (by have := HNM.out; have := HM0.out; simp; omega) ?_; intro ad2 cp2 w6 ho6 hf6 hob6; have HO6 := hid ho6; have HF6 := hid hf6; have HB6 := hid hob6; clear ho6 hf6 hob6)
                    go_roundg (gO - 1)
                    case measure => have := HGG.out; have := HG.out; have := HI.out; have h7 := HADV.out; rw [HIT.out] at h7; dsimp only at h7; omega
                    case rel =>
                      have h7 := HADV.out
                      rw [HIT.out] at h7
                      dsimp only at h7
                      have hx := HX.out
                      rw [HIT.out] at hx
                      have hO7 := HO6.out
                      have hq := HQ.out.1
                      refine ⟨i + 1, its ++ [⟨x, 0, 0⟩], ad2, cp2, by simp, by have := HG.out; have := HI.out; rw [← HNL.out] at h7; omega, by rw [List.length_append, hq]; simp; omega, ?_, hx, ?_⟩
                      · rw [itL_snoc, List.length_append]
                        have e : 3 * (its.length + [(⟨x, 0, 0⟩ : Item)].length) = q + 3 := by simp; omega
                        rw [e]; exact hO7
                      · have hfa : Fr Nob w4 (w4.drewN 0) := Fr.of_drewN
                        refine hos.out (ad := ad) (fun g hg => (HO.out.lt hg).1) HF6.out ?_
                        exact HF.out.trans (by with_reducible repeat (first | exact Fr.refl _ _ | refine Fr.alloc ?_ _ | refine Fr.drewN ?_))
                · have hxyi : ((x : Int) == y) = false := by simp; omega
                  have hB : ¬ (0 < i ∧ x = len l (i - 1) ∧ 3 ≤ r) := fun h => hxy (by rw [HY.out.1, HY.out.2]; exact h.2.1)
                  have hit : itemAt l i = (⟨x, 0, 0⟩, 1) := by
                    unfold itemAt
                    rw [HRUN.out, ← HXL.out]
                    rw [if_neg hA, if_neg hB]
                  have HIT := hid hit
                  clear hit
                  (try clear hB); (try clear hA); (try clear hxy)
                  go_wp2_with fail
                  go_quiet (fail)
                  go_wp2_with (at_builtin; refine wp_appN rfl _ _ rfl N ad q cp (its.flatMap itL) [x, 0, 0] rfl (HO.out.fr (S := Nob) (w := w4) (by with_reducible repeat (first | exact Fr.refl _ _ | refine Fr.alloc ?_ _ | refine Fr.drewN ?_)) (fun _ _ x => x)) w4.heap.size 0 3 3 rfl rfl (new3 rfl rfl rfl rfl) (by have := HQ.out.2; omega) (by have := HNM.out; have := HM0.out; simp; omega) ?_; intro ad2 cp2 w6 ho6 hf6 hob6; have HO6 := hid ho6; have HF6 := hid hf6; have HB6 := hid hob6; clear ho6 hf6 hob6)
                  go_roundg (gO - 1)
                  case measure => have := HGG.out; have := HG.out; have := HI.out; have h7 := HADV.out; rw [HIT.out] at h7; dsimp only at h7; omega
                  case rel =>
                    have h7 := HADV.out
                    rw [HIT.out] at h7
                    dsimp only at h7
                    have hx := HX.out
                    rw [HIT.out] at hx
                    have hO7 := HO6.out
                    have hq := HQ.out.1
                    refine ⟨i + 1, its ++ [⟨x, 0, 0⟩], ad2, cp2, by simp, by have := HG.out; have := HI.out; rw [← HNL.out] at h7; omega, by rw [List.length_append, hq]; simp; omega, ?_, hx, ?_⟩
                    · rw [itL_snoc, List.length_append]
                      have e : 3 * (its.length + [(⟨x, 0, 0⟩ : Item)].length) = q + 3 := by simp; omega
                      rw [e]; exact hO7
                    · have hfa : Fr Nob w4 (w4.drewN 0) := Fr.of_drewN
                      refine hos.out (ad := ad) (fun g hg => (HO.out.lt hg).1) HF6.out ?_
                      exact HF.out.trans (by with_reducible repeat (first | exact Fr.refl _ _ | refine Fr.alloc ?_ _ | refine Fr.drewN ?_))
              · have hi0i : ¬ (0 : Int) < i := by omega
                have hB : ¬ (0 < i ∧ x = len l (i - 1) ∧ 3 ≤ r) := fun h => hi0 h.1
                have hit : itemAt l i = (⟨x, 0, 0⟩, 1) := by
                  unfold itemAt
                  rw [HRUN.out, ← HXL.out]
                  rw [if_neg hA, if_neg hB]
                have HIT := hid hit
                clear hit
                (try clear hB); (try clear hA); (try clear hxy)
                go_wp2_with fail
                go_quiet (fail)
                go_wp2_with (at_builtin; refine wp_appN rfl _ _ rfl N ad q cp (its.flatMap itL) [x, 0, 0] rfl (HO.out.fr (S := Nob) (w := w4) (by with_reducible repeat (first | exact Fr.refl _ _ | refine Fr.alloc ?_ _ | refine Fr.drewN ?_)) (fun _ _ x => x)) w4.heap.size 0 3 3 rfl rfl (new3 rfl rfl rfl rfl) (by have := HQ.out.2; omega) (by have := HNM.out; have := HM0.out; simp; omega) ?_; intro ad2 cp2 w6 ho6 hf6 hob6; have HO6 := hid ho6; have HF6 := hid hf6; have HB6 := hid hob6; clear ho6 hf6 hob6)
                go_roundg (gO - 1)
                case measure => have := HGG.out; have := HG.out; have := HI.out; have h7 := HADV.out; rw [HIT.out] at h7; dsimp only at h7; omega
                case rel =>
                  have h7 := HADV.out
                  rw [HIT.out] at h7
                  dsimp only at h7
                  have hx := HX.out
                  rw [HIT.out] at hx
                  have hO7 := HO6.out
                  have hq := HQ.out.1
                  refine ⟨i + 1, its ++ [⟨x, 0, 0⟩], ad2, cp2, by simp, by have := HG.out; have := HI.out; rw [← HNL.out] at h7; omega, by rw [List.length_append, hq]; simp; omega, ?_, hx, ?_⟩
                  · rw [itL_snoc, List.length_append]
                    have e : 3 * (its.length + [(⟨x, 0, 0⟩ : Item)].length) = q + 3 := by simp; omega
                    rw [e]; exact hO7
                  · have hfa : Fr Nob w4 (w4.drewN 0) := Fr.of_drewN
                    refine hos.out (ad := ad) (fun g hg => (HO.out.lt hg).1) HF6.out ?_
                    exact HF.out.trans (by with_reducible repeat (first | exact Fr.refl _ _ | refine Fr.alloc ?_ _ | refine Fr.drewN ?_))
          · have hx0i : ((x : Int) == 0) = false := by simp; omega
            have hA : ¬ (x = 0 ∧ 3 ≤ r) := fun h => hx0 h.1
            by_cases hi0 : 0 < i
            · have hi0i : (0 : Int) < i := by omega
              have cp1 := hC.out (i - 1) (by have := HI.out; omega)
              have ep1 : (i : Int) - 1 = ((i - 1 : Nat) : Int) := by omega
              obtain ⟨i1, hi1⟩ : ∃ i1, i1 = i - 1 := ⟨_, rfl⟩
              rw [← hi1] at cp1 ep1
              have hi1i : (i1 : Int) < n := by have := HI.out; omega
              have wi1 : IntKind.i64.wrap (i1 : Int) = (i1 : Int) := wrapI (by omega) (by omega)
              have h1i : (1 : Int) ≤ i := by omega
              have hini : (i : Int) ≤ n := by have := HI.out; omega
              have h0i1 : (0 : Int) ≤ (i : Int) - 1 := by omega
              have h0i2 : (i : Int) - 1 < n := by have := HI.out; omega
              obtain ⟨y, hy⟩ : ∃ y, y = len l i1 := ⟨_, rfl⟩
              rw [← hy] at cp1
              have HY := hid (And.intro hy hi1)
              clear hy hi1
              by_cases hxy : x = y
              · have hxyi : ((x : Int) == y) = true := by simp [hxy]
                by_cases hr3 : 3 ≤ r
                · have hr3i : (3 : Int) ≤ r := by omega
                  have hB : 0 < i ∧ x = len l (i - 1) ∧ 3 ≤ r := ⟨hi0, by rw [← HY.out.2, ← HY.out.1]; exact hxy, hr3⟩
                  by_cases hr6 : 6 < r
                  · have hr6i : (6 : Int) < r := by omega
                    have hit : itemAt l i = (⟨12, 3, 2⟩, 6) := by
                      unfold itemAt
                      rw [HRUN.out, ← HXL.out]
                      rw [if_neg hA, if_pos hB, Nat.min_eq_right (by omega)]
                    have HIT := hid hit
                    clear hit
                    (try clear hB); (try clear hA); (try clear hxy)
                    go_wp2_with fail
                    go_quiet (fail)
                    go_wp2_with (at_builtin; refine wp_appN rfl _ _ rfl N ad q cp (its.flatMap itL) [12, 3, 2] rfl (HO.out.fr (S := Nob) (w := w4) (by with_reducible repeat (first | exact Fr.refl _ _ | refine Fr.alloc ?_ _ | refine Fr.drewN ?_)) (fun _ _ x => x)) w4.heap.size 0 3 3 rfl rfl (new3 rfl rfl rfl rfl) (by have := HQ.out.2; omega) (by have := HNM.out; have := HM0.out; simp; omega) ?_; intro ad2 cp2 w6 ho6 hf6 hob6; have HO6 := hid ho6; have HF6 := hid hf6; have HB6 := hid hob6; clear ho6 hf6 hob6)
                    go_roundg (gO - 6)
                    case measure => have := HGG.out; have := HG.out; have := HI.out; have h7 := HADV.out; rw [HIT.out] at h7; dsimp only at h7; omega
                    case rel =>
                      have h7 := HADV.out
                      rw [HIT.out] at h7
                      dsimp only at h7
                      have hx := HX.out
                      rw [HIT.out] at hx
                      have hO7 := HO6.out
                      have hq := HQ.out.1
                      refine ⟨i + 6, its ++ [⟨12, 3, 2⟩], ad2, cp2, by simp, by have := HG.out; have := HI.out; rw [← HNL.out] at h7; omega, by rw [List.length_append, hq]; simp; omega, ?_, hx, ?_⟩
                      · rw [itL_snoc, List.length_append]
                        have e : 3 * (its.length + [(⟨12, 3, 2⟩ : Item)].length) = q + 3 := by simp; omega
                        rw [e]; exact hO7
                      · have hfa : Fr Nob w4 (w4.drewN 0) := Fr.of_drewN
                        refine hos.out (ad := ad) (fun g hg => (HO.out.lt hg).1) HF6.out ?_
                        exact HF.out.trans (by with_reducible repeat (first | exact Fr.refl _ _ | refine Fr.alloc ?_ _ | refine Fr.drewN ?_))
                  · have hr6i : ¬ (6 : Int) < r := by omega
                    obtain ⟨v3, hv3⟩ : ∃ v, v = r - 3 := ⟨_, rfl⟩
                    have ev3 : (r : Int) - 3 = (v3 : Int) := by omega
                    have hit : itemAt l i = (⟨12, v3, 2⟩, r) := by
                      unfold itemAt
                      rw [HRUN.out, ← HXL.out]
                      rw [if_neg hA, if_pos hB, Nat.min_eq_left (by omega), hv3]
                    have HIT := hid hit
                    have HV3 := hid hv3; clear hit hv3
                    (try clear hB); (try clear hA); (try clear hxy)
                    go_wp2_with fail
                    go_quiet (fail)
                    go_wp2_with (at_builtin; refine wp_appN rfl _ _ rfl N ad q cp (its.flatMap itL) [12, v3, 2] rfl (HO.out.fr (S := Nob) (w := w4) (by with_reducible repeat (first | exact Fr.refl _ _ | refine Fr.alloc ?_ _ | refine Fr.drewN ?_)) (fun _ _ x => x)) w4.heap.size 0 3 3 rfl rfl (new3 rfl rfl rfl rfl) (by have := HQ.out.2; omega) (by have := HNM.out; have := HM0.out; simp; omega) ?_; intro ad2 cp2 w6 ho6 hf6 hob6; have HO6 := hid ho6; have HF6 := hid hf6; have HB6 := hid hob6; clear ho6 hf6 hob6)
                    go_roundg (gO - r)
                    case measure => have := HGG.out; have := HG.out; have := HI.out; have h7 := HADV.out; rw [HIT.out] at h7; dsimp only at h7; omega
                    case rel =>
                      have h7 := HADV.out
                      rw [HIT.out] at h7
                      dsimp only at h7
                      have hx := HX.out
                      rw [HIT.out] at hx
                      have hO7 := HO6.out
                      have hq := HQ.out.1
                      refine ⟨i + r, its ++ [⟨12, v3, 2⟩], ad2, cp2, by simp, by have := HG.out; have := HI.out; rw [← HNL.out] at h7; omega, by rw [List.length_append, hq]; simp; omega, ?_, hx, ?_⟩
                      · rw [itL_snoc, List.length_append]
                        have e : 3 * (its.length + [(⟨12, v3, 2⟩ : Item)].length) = q + 3 := by simp; omega
                        rw [e]; exact hO7
                      · have hfa : Fr Nob w4 (w4.drewN 0) := Fr.of_drewN
                        refine hos.out (ad := ad) (fun g hg => (HO.out.lt hg).1) HF6.out ?_
                        exact HF.out.trans (by with_reducible repeat (first | exact Fr.refl _ _ | refine Fr.alloc ?_ _ | refine Fr.drewN ?_))
                · have hr3i : ¬ (3 : Int) ≤ r := by omega
                  have hB : ¬ (0 < i ∧ x = len l (i - 1) ∧ 3 ≤ r) := fun h => hr3 h.2.2
                  have hit : itemAt l i = (⟨x, 0, 0⟩, 1) := by
                    unfold itemAt
                    rw [HRUN.out, ← HXL.out]
                    rw [if_neg hA, if_neg hB]
                  have HIT := hid hit
                  clear hit
                  (try clear hB); (try clear hA); (try clear hxy)
                  go_wp2_with fail
                  go_quiet (fail)
                  go_wp2_with (at_builtin; refine wp_appN rfl _ _ rfl N ad q cp (its.flatMap itL) [x, 0, 0] rfl (HO.out.fr (S := Nob) (w := w4) (by with_reducible repeat (first | exact Fr.refl _ _ | refine Fr.alloc ?_ _ | refine Fr.drewN ?_)) (fun _ _ x => x)) w4.heap.size 0 3 3 rfl rfl (new3 rfl rfl rfl rfl) (by have := HQ.out.2; omega) (by have := HNM.out; have := HM0.out; simp; omega) ?_; intro ad2 cp2 w6 ho6 hf6 hob6; have HO6 := hid ho6; have HF6 := hid hf6; have HB6 := hid hob6; clear ho6 hf6 hob6)
                  go_roundg (gO - 1)
                  case measure => have := HGG.out; have := HG.out; have := HI.out; have h7 := HADV.out; rw [HIT.out] at h7; dsimp only at h7; omega
                  case rel =>
                    have h7 := HADV.out
                    rw [HIT.out] at h7
                    dsimp only at h7
                    have hx := HX.out
                    rw [HIT.out] at hx
                    have hO7 := HO6.out
                    have hq := HQ.out.1
                    refine ⟨i + 1, its ++ [⟨x, 0, 0⟩], ad2, cp2, by simp, by have := HG.out; have := HI.out; rw [← HNL.out] at h7; omega, by rw [List.length_append, hq]; simp; omega, ?_, hx, ?_⟩
                    · rw [itL_snoc, List.length_append]
                      have e : 3 * (its.length + [(⟨x, 0, 0⟩ : Item)].length) = q + 3 := by simp; omega
                      rw [e]; exact hO7
                    · have hfa : Fr Nob w4 (w4.drewN 0) := Fr.of_drewN
                      refine hos.out (ad := ad) (fun g hg => (HO.out.lt hg).1) HF6.out ?_
                      exact HF.out.trans (by with_reducible repeat (first | exact Fr.refl _ _ | refine Fr.alloc ?_ _ | refine Fr.drewN ?_))
              · have hxyi : ((x : Int) == y) = false := by simp; omega
                have hB : ¬ (0 < i ∧ x = len l (i - 1) ∧ 3 ≤ r) := fun h => hxy (by rw [HY.out.1, HY.out.2]; exact h.2.1)
                have hit : itemAt l i = (⟨x, 0, 0⟩, 1) := by
                  unfold itemAt
                  rw [HRUN.out, ← HXL.out]
                  rw [if_neg hA, if_neg hB]
                have HIT := hid hit
                clear hit
                (try clear hB); (try clear hA); (try clear hxy)
                go_wp2_with fail
                go_quiet (fail)
                go_wp2_with (at_builtin; refine wp_appN rfl _ _ rfl N ad q cp (its.flatMap itL) [x, 0, 0] rfl (HO.out.fr (S := Nob) (w := w4) (by with_reducible repeat (first | exact Fr.refl _ _ | refine Fr.alloc ?_ _ | refine Fr.drewN ?_)) (fun _ _ x => x)) w4.heap.size 0 3 3 rfl rfl (new3 rfl rfl rfl rfl) (by have := HQ.out.2; omega) (by have := HNM.out; have := HM0.out; simp; omega) ?_; intro ad2 cp2 w6 ho6 hf6 hob6; have HO6 := hid ho6; have HF6 := hid hf6; have HB6 := hid hob6; clear ho6 hf6 hob6)
                go_roundg (gO - 1)
                case measure => have := HGG.out; have := HG.out; have := HI.out; have h7 := HADV.out; rw [HIT.out] at h7; dsimp only at h7; omega
                case rel =>
                  have h7 := HADV.out
                  rw [HIT.out] at h7
                  dsimp only at h7
                  have hx := HX.out
                  rw [HIT.out] at hx
                  have hO7 := HO6.out
                  have hq := HQ.out.1
                  refine ⟨i + 1, its ++ [⟨x, 0, 0⟩], ad2, cp2, by simp, by have := HG.out; have := HI.out; rw [← HNL.out] at h7; omega, by rw [List.length_append, hq]; simp; omega, ?_, hx, ?_⟩
                  · rw [itL_snoc, List.length_append]
                    have e : 3 * (its.length + [(⟨x, 0, 0⟩ : Item)].length) = q + 3 := by simp; omega
                    rw [e]; exact hO7
                  · have hfa : Fr Nob w4 (w4.drewN 0) := Fr.of_drewN
                    refine hos.out (ad := ad) (fun g hg => (HO.out.lt hg).1) HF6.out ?_
                    exact HF.out.trans (by with_reducible repeat (first | exact Fr.refl _ _ | refine Fr.alloc ?_ _ | refine Fr.drewN ?_))
            · have hi0i : ¬ (0 : Int) < i := by omega
              have hB : ¬ (0 < i ∧ x = len l (i - 1) ∧ 3 ≤ r) := fun h => hi0 h.1
              have hit : itemAt l i = (⟨x, 0, 0⟩, 1) := by
                unfold itemAt
                rw [HRUN.out, ← HXL.out]
                rw [if_neg hA, if_neg hB]
              have HIT := hid hit
              clear hit
              (try clear hB); (try clear hA); (try clear hxy)
              go_wp2_with fail
              go_quiet (fail)
              go_wp2_with (at_builtin; refine wp_appN rfl _ _ rfl N ad q cp (its.flatMap itL) [x, 0, 0] rfl (HO.out.fr (S := Nob) (w := w4) (by with_reducible repeat (first | exact Fr.refl _ _ | refine Fr.alloc ?_ _ | refine Fr.drewN ?_)) (fun _ _ x => x)) w4.heap.size 0 3 3 rfl rfl (new3 rfl rfl rfl rfl) (by have := HQ.out.2; omega) (by have := HNM.out; have := HM0.out; simp; omega) ?_; intro ad2 cp2 w6 ho6 hf6 hob6; have HO6 := hid ho6; have HF6 := hid hf6; have HB6 := hid hob6; clear ho6 hf6 hob6)
              go_roundg (gO - 1)
              case measure => have := HGG.out; have := HG.out; have := HI.out; have h7 := HADV.out; rw [HIT.out] at h7; dsimp only at h7; omega
              case rel =>
                have h7 := HADV.out
                rw [HIT.out] at h7
                dsimp only at h7
                have hx := HX.out
                rw [HIT.out] at hx
                have hO7 := HO6.out
                have hq := HQ.out.1
                refine ⟨i + 1, its ++ [⟨x, 0, 0⟩], ad2, cp2, by simp, by have := HG.out; have := HI.out; rw [← HNL.out] at h7; omega, by rw [List.length_append, hq]; simp; omega, ?_, hx, ?_⟩
                · rw [itL_snoc, List.length_append]
                  have e : 3 * (its.length + [(⟨x, 0, 0⟩ : Item)].length) = q + 3 := by simp; omega
                  rw [e]; exact hO7
                · have hfa : Fr Nob w4 (w4.drewN 0) := Fr.of_drewN
                  refine hos.out (ad := ad) (fun g hg => (HO.out.lt hg).1) HF6.out ?_
                  exact HF.out.trans (by with_reducible repeat (first | exact Fr.refl _ _ | refine Fr.alloc ?_ _ | refine Fr.drewN ?_))
    · have hii : ¬ (i : Int) < n := by omega
      have hin : i = n := by omega
      have he : its = itP l 0 := by have := hS.eq; rw [itP_end l i (by rw [← HNL.out]; omega), List.append_nil] at this; exact this
      have HE := hid he
      clear hg hgO hO hS hf hi he
      go_wp2_with fail
      exact hK.out _ _ ⟨ad, cp, by rw [← HE.out], by rw [← HE.out]; exact HO.out, HF.out⟩
end Go.Proofs.Qxb6500353aGreat
