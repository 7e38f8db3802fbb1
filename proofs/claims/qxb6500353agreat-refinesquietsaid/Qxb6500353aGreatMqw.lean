/- The model's plain tree, walked. -/
import Derived.Test.Qxb6500353aGreatMrw
import Derived.Test.Qxb6500353aGreatHml
import Derived.Test.Qxb6500353aGreatCpw
import Derived.Deep.DeepCutAuto
import Derived.Deep.Cut
namespace Go.Proofs.Qxb6500353aGreat
open Go.RowKit
set_option linter.unusedVariables false
set_option linter.unusedSimpArgs false

structure PlS (w0 : World) (N n : Nat) (s : Gp) (w : World) : Prop where
  lens : Arr 3 mkN w N n s.lens
  grp : Arr 3 mkN w (N + 1) n s.grp
  wt : Arr 3 mkN w (N + 2) n s.w
  ht : Arr 3 mkN w (N + 3) n s.h
  size : w.heap.size = N + 4
  fr : Fr Nob w0 w
theorem PlS.drewN {w0 w : World} {N n k : Nat} {s : Gp} (h : PlS w0 N n s w) : PlS w0 N n s (w.drewN k) := ⟨h.lens.drewN, h.grp.drewN, h.wt.drewN, h.ht.drewN, h.size, h.fr.drewN⟩
theorem PlS.congr {w0 w : World} {N n : Nat} {s t : Gp} (h : PlS w0 N n s w) (e1 : ∀ i, i < n → s.lens i = t.lens i) (e2 : ∀ i, i < n → s.grp i = t.grp i) (e3 : ∀ i, i < n → s.w i = t.w i) (e4 : ∀ i, i < n → s.h i = t.h i) : PlS w0 N n t w :=
  ⟨h.lens.congr e1, h.grp.congr e2, h.wt.congr e3, h.ht.congr e4, h.size, h.fr⟩
theorem PlS.frs {w0 w : World} {N n b i : Nat} {s : Gp} (h : PlS w0 N n s w) (hN : w0.heap.size = N) (hb : N ≤ b) (v : Value) : Fr Nob w0 (w.setCell ⟨b, i, none⟩ v) :=
  h.fr.trans2 (S2 := One b) (Fr.set1 (Fr.refl _ _) _ _) (fun x hx h2 => by unfold One at hx; omega)
theorem PlS.set_lens {w0 w : World} {N n : Nat} {s : Gp} (h : PlS w0 N n s w) (hN : w0.heap.size = N) (i x : Nat) : PlS w0 N n { s with lens := upd s.lens i x } (w.setCell ⟨N, i, none⟩ (.int .i64 (x : Nat))) :=
  ⟨h.lens.set i x, h.grp.other (by omega) _, h.wt.other (by omega) _, h.ht.other (by omega) _, by rw [World.size_setCell]; exact h.size, h.frs hN (by omega) _⟩
theorem PlS.set_grp {w0 w : World} {N n : Nat} {s : Gp} (h : PlS w0 N n s w) (hN : w0.heap.size = N) (i x : Nat) : PlS w0 N n { s with grp := upd s.grp i x } (w.setCell ⟨N + 1, i, none⟩ (.int .i64 (x : Nat))) :=
  ⟨h.lens.other (by omega) _, h.grp.set i x, h.wt.other (by omega) _, h.ht.other (by omega) _, by rw [World.size_setCell]; exact h.size, h.frs hN (by omega) _⟩
theorem PlS.set_wt {w0 w : World} {N n : Nat} {s : Gp} (h : PlS w0 N n s w) (hN : w0.heap.size = N) (i x : Nat) : PlS w0 N n { s with w := upd s.w i x } (w.setCell ⟨N + 2, i, none⟩ (.int .i64 (x : Nat))) :=
  ⟨h.lens.other (by omega) _, h.grp.other (by omega) _, h.wt.set i x, h.ht.other (by omega) _, by rw [World.size_setCell]; exact h.size, h.frs hN (by omega) _⟩
theorem PlS.set_ht {w0 w : World} {N n : Nat} {s : Gp} (h : PlS w0 N n s w) (hN : w0.heap.size = N) (i x : Nat) : PlS w0 N n { s with h := upd s.h i x } (w.setCell ⟨N + 3, i, none⟩ (.int .i64 (x : Nat))) :=
  ⟨h.lens.other (by omega) _, h.grp.other (by omega) _, h.wt.other (by omega) _, h.ht.set i x, by rw [World.size_setCell]; exact h.size, h.frs hN (by omega) _⟩
set_option maxRecDepth 100000 in
set_option maxHeartbeats 8000000 in
theorem plainm_any {w : World} {cg co n ccap N : Nat} {c : Nat → Nat} (hN : w.heap.size = N) (hc : Cel mkN w cg co n c) (hcl : cg < N) (hn : n ≤ 265) (hcb : ∀ i, i < n → c i ≤ 2000) (hB : sumTo c n ≤ 1000000) (hu : 2 ≤ usedN c n) :
    Calls Tryz.prog 98 #[.slice (some ⟨cg, co, none⟩) n ccap] w fun e w' => e = .returned (.slice (some ⟨N, 0, none⟩) n n) ∧ Arr 3 mkN w' N n (treeF c n) ∧ w'.heap.size = N + 4 ∧ Fr Nob w w' := by
  have HC := hid hc
  have HCB := hid hcb
  have HB := hid hB
  have HU := hid hu
  have HCL := hid hcl
  have hni : (n : Int) ≤ 265 := by omega
  clear hc hcb hB hu hcl
  refine calls_via fun K hK => ?_
  go_enter Tryz.func98, Tryz.ntmps98
  go_wp2_with (first
    | (at_make; refine wp_mkx rfl _ _ rfl n n n N hN rfl rfl rfl rfl (by omega) ?_; intro w1 hs1 ha hf; have HA1 := hid ha; have HF1 := hid hf; clear ha hf)
    | (at_make; refine wp_mkx rfl _ _ rfl n n n (N + 1) hs1 rfl rfl rfl rfl (by omega) ?_; intro w2 hs2 ha hf; have HA2 := hid ha; have HF2 := hid hf; have HC2 := hid ((HC.out.fr HF1.out (fun x => x)).fr hf (fun x => x)); clear ha hf)
    | (go_at_call 128; refine (copyInts_any (N := N + 2) (cap := ccap) hs2 HC2.out (by omega)).mono ?_; rintro e w3 ⟨rfl, ha, hs3, hf⟩; have HA3 := hid ha; have HF3 := hid hf; clear ha hf)
    | (at_make; refine wp_mkx rfl _ _ rfl n n n (N + 3) hs3 rfl rfl rfl rfl (by omega) ?_; intro w4 hs4 ha hf; have HA4 := hid ha; have HF4 := hid hf; clear ha hf))
  have hst : PlS w N n ⟨fun _ => 0, fun _ => 0, c, fun _ => 0⟩ w4 := by
    have k : ∀ x, ¬ Nob x := fun x h => h
    exact ⟨((HA1.out.fr HF2.out (k _)).fr HF3.out (k _)).fr HF4.out (k _), (HA2.out.fr HF3.out (k _)).fr HF4.out (k _), HA3.out.fr HF4.out (k _), HA4.out, hs4, ((HF1.out.trans HF2.out).trans HF3.out).trans HF4.out⟩
  have HS4 := hid hst
  clear hst hs1 hs2 hs3 hs4
  go_loopg [7] n (fun g iv wr => ∃ j : Nat, g + j = n ∧ iv = .int .i64 (j : Nat) ∧ PlS w N n ⟨fun _ => 0, fun i => if i < j then i else 0, c, fun _ => 0⟩ wr)
  case atStart => exact ⟨0, by omega, rfl, HS4.out⟩
  case round =>
    obtain ⟨j, hgj, rfl, hS⟩ := hrel
    by_cases hlt : j < n
    · have hji : (j : Int) < n := by omega
      have z1 : ∀ i, wr.frozen? ⟨N + 1, i, none⟩ = false := hS.grp.thaw
      have x1 := hS.grp.cell j hlt
      simp only [mkN] at x1
      rw [if_neg (Nat.lt_irrefl _)] at x1
      have HS := hid hS
      clear hS
      go_wp2_with fail
      go_roundg (gk - 1)
      case measure => omega
      case rel =>
        refine ⟨j + 1, by omega, by simp, (HS.out.set_grp hN j j).congr (fun _ _ => rfl) (fun i hi => ?_) (fun _ _ => rfl) (fun _ _ => rfl)⟩
        dsimp only
        by_cases e : i = j
        · subst e; rw [upd_self, if_pos (by omega)]
        · rw [upd_ne _ _ _ _ e]
          by_cases e2 : i < j
          · rw [if_pos e2, if_pos (by omega)]
          · rw [if_neg e2, if_neg (by omega)]
    · have hji : ¬ (j : Int) < n := by omega
      have hj : j = n := by omega
      subst hj
      have hS2 : PlS w N j (Gp.start c) wr := hS.congr (fun _ _ => rfl) (fun i hi => by dsimp only; rw [if_pos hi]; rfl) (fun _ _ => rfl) (fun _ _ => rfl)
      have HS := hid hS2
      have HUS := hid (used_any (ccap := ccap) (HC.out.fr hS.fr (fun x => x)) (by omega) (fun i hi => by have := HCB.out i hi; omega))
      clear hS hS2
      go_wp2_with (go_at_call 97; refine HUS.out.mono ?_; rintro e w5 ⟨rfl, hw⟩; have hw2 := hw; subst hw2; clear hw)
      obtain ⟨k0, hk0⟩ : ∃ k0, usedN c j = k0 + 1 := ⟨usedN c j - 1, by have := HU.out; omega⟩
      have hul : usedN c j ≤ j := cntTo_le _ _
      rw [hk0] at hul ⊢
      have HK0 := hid hk0
      clear hk0
      go_loopg [8] k0 (fun g nv w6 => ∃ s : Gp, nv = .int .i64 ((g + 1 : Nat) : Int) ∧ GpOK c j s ∧ liveN s j = g + 1 ∧ plainF c j g s = plainF c j k0 (Gp.start c) ∧ g ≤ k0 ∧ PlS w N j s w6)
      case atStart =>
        exact ⟨Gp.start c, rfl, (start_ok c j).1, by rw [(start_ok c j).2, HK0.out], rfl, Nat.le_refl _, HS.out⟩
      case round =>
        obtain ⟨s, rfl, hok, hlive, hpl, hgk0, hS⟩ := hrel
        obtain ⟨gO, hgO⟩ : ∃ g, g = gk := ⟨_, rfl⟩
        rw [← hgO] at hlive hpl hgk0 ⊢
        by_cases hlt2 : 0 < gO
        · obtain ⟨g1, rfl⟩ : ∃ g1, gO = g1 + 1 := ⟨gO - 1, by omega⟩
          have hgi : (1 : Int) < ((g1 + 1 + 1 : Nat) : Int) := by omega
          have hgb : ((g1 + 1 + 1 : Nat) : Int) ≤ 300 := by omega
          obtain ⟨a, b, e1, e2, hla, hlb, hab, hwa, hwb, htu, hok2, hli2⟩ := turn_ok hok (by omega)
          have hpt : plainF c j (g1 + 1) s = plainF c j g1 (s.turn c j) := rfl
          rw [hpt] at hpl
          have hwt : ∀ i, i < j → s.w i ≤ 1000000 := fun i hi => by
            have h1 := sumTo_one (f := s.w) hi
            have h2 := hok.tot
            have := HB.out; omega
          have hht : ∀ i, i < j → s.h i ≤ 265 := fun i hi => by have := hok.high i hi; have := HK0.out; omega
          have hdp : ∀ i, i < j → s.lens i ≤ 265 := fun i hi => by have := hok.deep i hi; have := HK0.out; omega
          have HL1 := hid (least_any (acap := j) (bcap := j) hS.wt.cel hS.ht.cel none (by omega) (fun i hi => by have := hwt i hi; omega) (fun i hi => by have := hht i hi; omega) (fun b h => by simp at h))
          have HL2 := hid (fun q => least_any (acap := j) (bcap := j) (hS.drewN (k := q)).wt.cel (hS.drewN (k := q)).ht.cel (some a) (by omega) (fun i hi => by have := hwt i hi; omega) (fun i hi => by have := hht i hi; omega) (fun b h => by simp at h; omega))
          rw [e1] at HL1
          rw [e2] at HL2
          simp only [optI] at HL1 HL2
          have HS := hid hS
          have HT := hid (And.intro hok2 (And.intro hli2 (And.intro hpl (And.intro hlive hgk0))))
          have HJ := hid htu
          have HBD := hid (And.intro hwt (And.intro hht hdp))
          clear hok hlive hpl hgk0 hS e1 e2 hwa hwb htu hok2 hli2 hpt hwt hht hdp
          have hba : (b : Int) < j := by omega
          have haa : (a : Int) < j := by omega
          clear hla hlb
          go_wp2_with fail
          refine HL1.out.mono ?_
          rintro e w7 ⟨rfl, q1, hw⟩
          have hw2 := hw
          subst hw2
          clear hw
          go_wp2_with fail
          refine (HL2.out q1).mono ?_
          rintro e w8 ⟨rfl, q2, hw⟩
          have hw2 := hw
          subst hw2
          clear hw
          have HS9 := hid ((HS.out.drewN (k := q1)).drewN (k := q2))
          obtain ⟨w9, hw9⟩ : ∃ w9, w9 = (wr.drewN q1).drewN q2 := ⟨_, rfl⟩
          rw [← hw9] at HS9 ⊢
          clear hw9 HL1 HL2
          go_wp2_with fail
          go_loopg [11] j (fun g iv w10 => ∃ i : Nat, g + i = j ∧ iv = .int .i64 (i : Nat) ∧ PlS w N j ⟨fun p => if p < i then (s.join c a b).lens p else s.lens p, fun p => if p < i then (s.join c a b).grp p else s.grp p, s.w, s.h⟩ w10)
          case atStart => exact ⟨0, by omega, rfl, HS9.out.congr (fun i hi => by simp) (fun i hi => by simp) (fun _ _ => rfl) (fun _ _ => rfl)⟩
          case round =>
            obtain ⟨i, hgi2, rfl, hI⟩ := hrel
            by_cases hlt3 : i < j
            · skip
              have hii : (i : Int) < j := by omega
              have xc := HC.out.fr hI.fr (fun x => x) i hlt3
              have x1 := hI.lens.cell i hlt3
              have x2 := hI.grp.cell i hlt3
              have z0 : ∀ p, wr.frozen? ⟨N, p, none⟩ = false := hI.lens.thaw
              have z1 : ∀ p, wr.frozen? ⟨N + 1, p, none⟩ = false := hI.grp.thaw
              simp only [mkN] at xc x1 x2
              rw [if_neg (Nat.lt_irrefl _)] at x1 x2
              have hjl : (s.join c a b).lens i = if 0 < c i ∧ (s.grp i = a ∨ s.grp i = b) then s.lens i + 1 else s.lens i := rfl
              have hjg : (s.join c a b).grp i = if 0 < c i ∧ (s.grp i = a ∨ s.grp i = b) then a else s.grp i := rfl
              have hlb := HBD.out.2.2 i hlt3
              have hcb := HCB.out i hlt3
              obtain ⟨y, hxc⟩ : ∃ y, y = c i := ⟨_, rfl⟩
              obtain ⟨xl, hxl⟩ : ∃ y, y = s.lens i := ⟨_, rfl⟩
              obtain ⟨xg, hxg⟩ : ∃ y, y = s.grp i := ⟨_, rfl⟩
              rw [← hxc] at xc hjl hjg hcb
              rw [← hxl] at x1 hjl hlb
              rw [← hxg] at x2 hjl hjg
              have hlbi : (xl : Int) ≤ 265 := by omega
              have hn1 : ¬ N = N + 1 := by omega
              have hn2 : ¬ N + 1 = N := by omega
              by_cases c0 : 0 < y
              · have c0i : (0 : Int) < y := by omega
                by_cases c1 : xg = a
                · have c1i : ((xg : Int) == a) = true := by simp [c1]
                  rw [if_pos ⟨c0, .inl c1⟩] at hjl hjg
                  have HJL := hid hjl
                  have HJG := hid hjg
                  clear hjl hjg
                  have HI := hid hI
                  clear hI hxl hxg hxc
                  go_wp2_with fail
                  go_roundg (gk - 1)
                  case measure => omega
                  case rel =>
                    refine ⟨i + 1, by omega, by simp, ((HI.out.set_lens hN i (xl + 1)).set_grp hN i a).congr (fun p hp => ?_) (fun p hp => ?_) (fun _ _ => rfl) (fun _ _ => rfl)⟩
                    · dsimp only
                      by_cases e : p = i
                      · subst e; rw [upd_self, if_pos (by omega), HJL.out]
                      · rw [upd_ne _ _ _ _ e]
                        by_cases e3 : p < i
                        · rw [if_pos e3, if_pos (by omega)]
                        · rw [if_neg e3, if_neg (by omega)]
                    · dsimp only
                      by_cases e : p = i
                      · subst e; rw [upd_self, if_pos (by omega), HJG.out]
                      · rw [upd_ne _ _ _ _ e]
                        by_cases e3 : p < i
                        · rw [if_pos e3, if_pos (by omega)]
                        · rw [if_neg e3, if_neg (by omega)]
                · have c1i : ((xg : Int) == a) = false := by simp; omega
                  by_cases c2 : xg = b
                  · have c2i : ((xg : Int) == b) = true := by simp [c2]
                    rw [if_pos ⟨c0, .inr c2⟩] at hjl hjg
                    have HJL := hid hjl
                    have HJG := hid hjg
                    clear hjl hjg
                    have HI := hid hI
                    clear hI hxl hxg hxc
                    go_wp2_with fail
                    go_roundg (gk - 1)
                    case measure => omega
                    case rel =>
                      refine ⟨i + 1, by omega, by simp, ((HI.out.set_lens hN i (xl + 1)).set_grp hN i a).congr (fun p hp => ?_) (fun p hp => ?_) (fun _ _ => rfl) (fun _ _ => rfl)⟩
                      · dsimp only
                        by_cases e : p = i
                        · subst e; rw [upd_self, if_pos (by omega), HJL.out]
                        · rw [upd_ne _ _ _ _ e]
                          by_cases e3 : p < i
                          · rw [if_pos e3, if_pos (by omega)]
                          · rw [if_neg e3, if_neg (by omega)]
                      · dsimp only
                        by_cases e : p = i
                        · subst e; rw [upd_self, if_pos (by omega), HJG.out]
                        · rw [upd_ne _ _ _ _ e]
                          by_cases e3 : p < i
                          · rw [if_pos e3, if_pos (by omega)]
                          · rw [if_neg e3, if_neg (by omega)]
                  · have c2i : ((xg : Int) == b) = false := by simp; omega
                    rw [if_neg (fun h => h.2.elim c1 c2)] at hjl hjg
                    rw [hxl] at hjl
                    rw [hxg] at hjg
                    have HJL := hid hjl
                    have HJG := hid hjg
                    clear hjl hjg
                    have HI := hid hI
                    clear hI hxl hxg hxc
                    go_wp2_with fail
                    go_roundg (gk - 1)
                    case measure => omega
                    case rel =>
                      refine ⟨i + 1, by omega, by simp, HI.out.congr (fun p hp => ?_) (fun p hp => ?_) (fun _ _ => rfl) (fun _ _ => rfl)⟩
                      · dsimp only
                        by_cases e : p = i
                        · subst e; rw [if_neg (Nat.lt_irrefl _), if_pos (by omega), HJL.out]
                        · by_cases e3 : p < i
                          · rw [if_pos e3, if_pos (by omega)]
                          · rw [if_neg e3, if_neg (by omega)]
                      · dsimp only
                        by_cases e : p = i
                        · subst e; rw [if_neg (Nat.lt_irrefl _), if_pos (by omega), HJG.out]
                        · by_cases e3 : p < i
                          · rw [if_pos e3, if_pos (by omega)]
                          · rw [if_neg e3, if_neg (by omega)]
              · have c0i : ¬ (0 : Int) < y := by omega
                rw [if_neg (fun h => c0 h.1)] at hjl hjg
                rw [hxl] at hjl
                rw [hxg] at hjg
                have HJL := hid hjl
                have HJG := hid hjg
                clear hjl hjg
                have HI := hid hI
                clear hI hxl hxg hxc
                go_wp2_with fail
                go_roundg (gk - 1)
                case measure => omega
                case rel =>
                  refine ⟨i + 1, by omega, by simp, HI.out.congr (fun p hp => ?_) (fun p hp => ?_) (fun _ _ => rfl) (fun _ _ => rfl)⟩
                  · dsimp only
                    by_cases e : p = i
                    · subst e; rw [if_neg (Nat.lt_irrefl _), if_pos (by omega), HJL.out]
                    · by_cases e3 : p < i
                      · rw [if_pos e3, if_pos (by omega)]
                      · rw [if_neg e3, if_neg (by omega)]
                  · dsimp only
                    by_cases e : p = i
                    · subst e; rw [if_neg (Nat.lt_irrefl _), if_pos (by omega), HJG.out]
                    · by_cases e3 : p < i
                      · rw [if_pos e3, if_pos (by omega)]
                      · rw [if_neg e3, if_neg (by omega)]
            · have hii : ¬ (i : Int) < j := by omega
              have hi : i = j := by omega
              subst hi
              have hI2 : PlS w N i ⟨(s.join c a b).lens, (s.join c a b).grp, s.w, s.h⟩ wr := hI.congr (fun p hp => by dsimp only; rw [if_pos hp]) (fun p hp => by dsimp only; rw [if_pos hp]) (fun _ _ => rfl) (fun _ _ => rfl)
              have ha : a < i := by omega
              have hb : b < i := by omega
              have y1 := hI2.wt.cell a ha
              have y2 := hI2.wt.cell b hb
              have y3 := hI2.ht.cell a ha
              have y4 := hI2.ht.cell b hb
              have z2 : ∀ p, wr.frozen? ⟨N + 2, p, none⟩ = false := hI2.wt.thaw
              have z3 : ∀ p, wr.frozen? ⟨N + 3, p, none⟩ = false := hI2.ht.thaw
              simp only [mkN] at y1 y2 y3 y4
              have b1 := HBD.out.1 a ha
              have b2 := HBD.out.1 b hb
              have b3 := HBD.out.2.1 a ha
              have b4 := HBD.out.2.1 b hb
              obtain ⟨wa, hwa⟩ : ∃ z, z = s.w a := ⟨_, rfl⟩
              obtain ⟨wb, hwb⟩ : ∃ z, z = s.w b := ⟨_, rfl⟩
              obtain ⟨ja, hja⟩ : ∃ z, z = s.h a := ⟨_, rfl⟩
              obtain ⟨jb, hjb⟩ : ∃ z, z = s.h b := ⟨_, rfl⟩
              rw [← hwa] at y1 b1
              rw [← hwb] at y2 b2
              rw [← hja] at y3 b3
              rw [← hjb] at y4 b4
              have b1i : (wa : Int) ≤ 1000000 := by omega
              have b2i : (wb : Int) ≤ 1000000 := by omega
              have b3i : (ja : Int) ≤ 265 := by omega
              have b4i : (jb : Int) ≤ 265 := by omega
              have n1 : ¬ N + 2 = N + 3 := by omega
              have n2 : ¬ N + 3 = N + 2 := by omega
              have n3 : ¬ a = b := hab
              have n4 : ¬ b = a := fun e => hab e.symm
              have HI := hid hI2
              have HE := hid (And.intro hwa (And.intro hwb (And.intro hja hjb)))
              clear hI hI2 hwa hwb hja hjb b1 b2 b3 b4 hgi2
              by_cases hj : ja < jb
              · have hji : (ja : Int) < jb := by omega
                have hjd : decide ((ja : Int) < jb) = true := decide_eq_true hji
                go_wp2_with fail
                go_region
                go_wp2_with fail
                go_quiet (fail)
                go_wp2_with fail
                go_roundg g1
                case measure => omega
                case rel =>
                  have hT := HT.out
                  have hE := HE.out
                  refine ⟨s.turn c i, by rw [← hgO], hT.1, by omega, hT.2.2.1, by omega, ?_⟩
                  rw [HJ.out]
                  have h1 := (((((HI.out.set_wt hN a (wa + wb)).set_wt hN b 0).drewN (k := 1 + nq)).set_ht hN a jb).set_ht hN a (jb + 1)).congr (t := s.join c a b) (fun _ _ => rfl) (fun _ _ => rfl) (fun p hp => by unfold Gp.join; dsimp only; rw [← hE.1, ← hE.2.1]) (fun p hp => by
                    unfold Gp.join; dsimp only; rw [← hE.2.2.1, ← hE.2.2.2, Nat.max_eq_right (by omega)]; unfold upd; split <;> rfl)
                  simp only [Int.natCast_add] at h1
                  exact h1
              · have hji : ¬ (ja : Int) < jb := by omega
                have hjd : decide ((ja : Int) < jb) = false := decide_eq_false hji
                go_wp2_with fail
                go_region
                go_wp2_with fail
                go_quiet (fail)
                go_wp2_with fail
                go_roundg g1
                case measure => omega
                case rel =>
                  have hT := HT.out
                  have hE := HE.out
                  refine ⟨s.turn c i, by rw [← hgO], hT.1, by omega, hT.2.2.1, by omega, ?_⟩
                  rw [HJ.out]
                  have h1 := ((((HI.out.set_wt hN a (wa + wb)).set_wt hN b 0).drewN (k := 1 + nq)).set_ht hN a (ja + 1)).congr (t := s.join c a b) (fun _ _ => rfl) (fun _ _ => rfl) (fun p hp => by unfold Gp.join; dsimp only; rw [← hE.1, ← hE.2.1]) (fun p hp => by
                    unfold Gp.join; dsimp only; rw [← hE.2.2.1, ← hE.2.2.2, Nat.max_eq_left (by omega)])
                  simp only [Int.natCast_add] at h1
                  exact h1
        · have hg0 : gO = 0 := by omega
          subst hg0
          have hpl2 : s = plainF c j k0 (Gp.start c) := hpl
          have hK1 : k0 = usedN c j - 1 := by have := HK0.out; omega
          have hS2 : Arr 3 mkN wr N j (treeF c j) := by unfold treeF; rw [← hK1, ← hpl2]; exact hS.lens
          have HS2 := hid (And.intro hS2 (And.intro hS.size hS.fr))
          clear hS hpl hpl2 hS2 hok hlive hK1
          go_wp2_with fail
          exact hK.out _ _ ⟨rfl, HS2.out⟩
end Go.Proofs.Qxb6500353aGreat
