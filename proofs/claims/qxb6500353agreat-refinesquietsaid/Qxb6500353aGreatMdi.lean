/- The model's decoder: lengths, walked. -/
import Derived.Test.Qxb6500353aGreatMdh
import Derived.Test.Qxb6500353aGreatMdb
import Derived.Test.Qxb6500353aGreatNwz
import Derived.Deep.DeepCutAuto
import Derived.Deep.Cut
namespace Go.Proofs.Qxb6500353aGreat
open Go.RowKit
set_option linter.unusedVariables false
set_option linter.unusedSimpArgs false

/-- The list so far, against the machine. -/
def LenJ (t : Tp) (s : DS) (tq : Tp) (ls : List Nat) : Prop :=
  (ls.length < 273 → ∃ sq : DS, sq.ph = 4 ∧ sq.ls = ls ∧ sq.final = s.final ∧ sq.out = s.out ∧ Steps t s tq sq) ∧
  (ls.length = 273 → ∃ (tp : Tp) (sq : DS), sq.ph = 4 ∧ sq.final = s.final ∧ sq.out = s.out ∧ Steps t s tp sq ∧ stepF tp sq = setsS tq { sq with ls := ls })
theorem LenJ.next {t tq : Tp} {s : DS} {ls : List Nat} (h : LenJ t s tq ls) (hl : ls.length < 273) (h10 : ∀ x ∈ ls, x ≤ 10) :
    ((lenR tq ls).1 ≠ 0 → Ends t s (lenR tq ls).1 s.out) ∧ ((lenR tq ls).1 = 0 → LenJ t s (lenR tq ls).2.1 (lenR tq ls).2.2 ∧ (lenR tq ls).2.2.length ≤ 273 ∧ (∀ x ∈ (lenR tq ls).2.2, x ≤ 10) ∧ ls.length < (lenR tq ls).2.2.length) := by
  obtain ⟨sq, p1, p2, p3, p4, p5⟩ := h.1 hl
  have h1 := lenR_law (t := tq) p1 p2 hl
  have h2 := lenR_keep (t := tq) hl h10
  have h8 : sq.ph ≠ 8 := by rw [p1]; decide
  refine ⟨fun e => ?_, fun e => ⟨⟨fun q => ?_, fun q => ?_⟩, h2.1, h2.2.1, h2.2.2 e⟩⟩
  · have := p5.ends (Ends.err h8 (h1.1 e) e)
    rw [p4] at this; exact this
  · have h3 := h1.2 e
    unfold listEnd at h3
    rw [if_pos q] at h3
    exact ⟨{ sq with ls := (lenR tq ls).2.2 }, p1, rfl, p3, p4, p5.trans (Steps.one h8 h3)⟩
  · have h3 := h1.2 e
    unfold listEnd at h3
    rw [if_neg (by show ¬ (lenR tq ls).2.2.length < 273; omega)] at h3
    exact ⟨tq, sq, p1, p3, p4, p5, h3⟩
set_option maxRecDepth 100000 in
set_option maxHeartbeats 8000000 in
theorem lensm_any {w : World} {b cap N : Nat} {ad : Option Addr} {t : Tp} {s : DS} (hN : w.heap.size = N) (h : MTp w b ad cap t) (hp : s.ph = 4) (hs : s.ls = []) :
    Calls Tryz.prog 83 #[.pointer (some ⟨b, 0, none⟩)] w fun e w' => Fr (One b) w w' ∧
      ((∃ (er : Nat) (p : Int) (t' : Tp), er ≠ 0 ∧ e = .returned (.tuple #[.slice none 0 0, .int .i64 (er : Nat), .int .i64 p]) ∧ MTp w' b ad cap t' ∧ Ends t s er s.out) ∨
       (∃ (l : List Nat) (t' : Tp), l.length = 273 ∧ (∀ x ∈ l, x ≤ 10) ∧ e = .returned (.tuple #[.slice (some ⟨N, 0, none⟩) 273 273, .int .i64 0, .int .i64 0]) ∧ Arr 3 mkN w' N 273 (len l) ∧ MTp w' b ad cap t' ∧ LenJ t s t' l)) := by
  have H := hid h
  have HJ0 : Hid (LenJ t s t []) := hid ⟨fun _ => ⟨s, hp, hs, rfl, rfl, Steps.refl _ _⟩, fun q => by simp at q⟩
  have HNN := hid hN
  have hbN := h.lt
  rw [hN] at hbN
  have HBN := hid hbN
  clear h hp hs hbN
  refine calls_via fun K hK => ?_
  go_enter Tryz.func83, Tryz.ntmps83
  go_wp2_with (at_make; refine wp_mkx rfl _ _ rfl 273 273 273 N hN rfl rfl rfl rfl (by omega) ?_; intro w1 hs1 ha hf; have HA := hid ha; have HF := hid hf; clear ha hf hs1)
  go_loopg [6] 273 (fun g v wr => ∃ (ls : List Nat) (tq : Tp) (f : Nat → Nat), v = .int .i64 (ls.length : Nat) ∧ g + ls.length = 273 ∧ Arr 3 mkN wr N 273 f ∧ (∀ i, i < ls.length → f i = len ls i) ∧ MTp wr b ad cap tq ∧ Fr (One b) w wr ∧ (∀ x ∈ ls, x ≤ 10) ∧ LenJ t s tq ls)
  case atStart => exact ⟨[], t, _, rfl, rfl, HA.out, fun i hi => by simp at hi, H.out.fr HF.out (fun x => x) (fun _ _ x => x), HF.out.mono fun x hx _ => hx.elim, fun x hx => by simp at hx, HJ0.out⟩
  case round =>
    obtain ⟨ls, tq, f, rfl, hg, hA, hf, hM, hF, h10, hJ⟩ := hrel
    obtain ⟨k, hkl⟩ : ∃ k, k = ls.length := ⟨_, rfl⟩
    rw [← hkl] at hg hf ⊢
    have HG := hid (And.intro hg hkl)
    have HA1 := hid hA
    have HF0 := hid hf
    have HM := hid hM
    have HFR := hid hF
    have H10 := hid h10
    have hNw : wr.heap.size ≥ N + 1 := hA.lt
    by_cases hk : k < 273
    · have hki : (k : Int) < 273 := by omega
      have hjn := hJ.next (by omega) h10
      have hps := mpos_any hM
      obtain ⟨p, hp⟩ : ∃ z, z = tq.at_ := ⟨_, rfl⟩
      rw [← hp] at hps
      unfold ptrV at hps
      have HPS := hid hps
      have HK := hid hk
      by_cases c1 : tq.got 4 < 4
      · have e1 : lenR tq ls = (4, tq, ls) := by unfold lenR; rw [if_pos c1]
        rw [e1] at hjn
        have HE := hid (hjn.1 (by show (4 : Nat) ≠ 0; decide))
        have htk := mtake_no hM (k := 4) (by omega) c1
        unfold ptrV at htk
        have HTK := hid htk
        clear hA hf hM hF h10 hJ hjn hps hp c1 e1 htk hg hkl hk hNw
        go_wp2_with fail
        refine HPS.out.mono ?_
        rintro e w' ⟨rfl, hw⟩
        have hw2 := hw.symm; subst hw2; clear hw
        go_wp2_with fail
        refine HTK.out.mono ?_
        rintro e w2 ⟨rfl, q, rfl⟩
        go_wp2_with fail
        go_ret3
        exact hK.out _ _ ⟨HFR.out.trans (Fr.of_drewN (S := One b)), .inl ⟨4, _, tq, by decide, rfl, HM.out.drewN, HE.out⟩⟩
      · have htk := mtake_yes hM (k := 4) (by omega) c1
        have hx16 := peek_lt2 tq 4
        have hlr : lenR tq ls = if tq.peek 4 ≤ 10 then (0, tq.skip 4, ls ++ [tq.peek 4])
          else if 12 < tq.peek 4 then (8, tq.skip 4, ls)
          else if (tq.skip 4).got (wideF (tq.peek 4)) < wideF (tq.peek 4) then (4, tq.skip 4, ls)
          else if tq.peek 4 = 12 ∧ ls.length = 0 then (8, (tq.skip 4).skip (wideF (tq.peek 4)), ls)
          else if 273 < ls.length + (3 + (tq.skip 4).peek (wideF (tq.peek 4))) then (8, (tq.skip 4).skip (wideF (tq.peek 4)), ls)
          else (0, (tq.skip 4).skip (wideF (tq.peek 4)), ls ++ List.replicate (3 + (tq.skip 4).peek (wideF (tq.peek 4))) (if tq.peek 4 = 12 then len ls (ls.length - 1) else 0)) := by
          show (if tq.got 4 < 4 then _ else _) = _
          rw [if_neg c1]
        rw [hlr] at hjn
        obtain ⟨x, hx⟩ : ∃ z, z = tq.peek 4 := ⟨_, rfl⟩
        obtain ⟨t1, ht1⟩ : ∃ z, z = tq.skip 4 := ⟨_, rfl⟩
        rw [← hx, ← ht1] at htk hjn
        rw [← hx] at hx16
        have h24 : (2 : Nat) ^ 4 = 16 := rfl
        rw [h24] at hx16
        have hxi : (x : Int) < 16 := by omega
        unfold ptrV at htk
        have HTK := hid htk
        by_cases c2 : x ≤ 10
        · rw [if_pos c2] at hjn
          have HJN := hid (hjn.2 rfl)
          have hx10 : (x : Int) ≤ 10 := by omega
          have hC := HA1.out.cell k hk
          simp only [mkN] at hC
          have C2 := hid c2
          clear hA hf hM hF h10 hJ hjn hps hp c1 htk hg hkl hk hlr hx ht1 hx16 h24 c2
          go_wp2_with fail
          refine HPS.out.mono ?_
          rintro e w' ⟨rfl, hw⟩
          have hw2 := hw.symm; subst hw2; clear hw
          go_wp2_with fail
          refine HTK.out.mono ?_
          rintro e w2 ⟨rfl, h2, hf2⟩
          have hA2 := HA1.out.fr hf2 (fun q => by unfold One at q; have := HBN.out; omega)
          have hC2 := hA2.cell k HK.out
          simp only [mkN] at hC2
          have z2 : ∀ i, w2.frozen? ⟨N, i, none⟩ = false := hA2.thaw
          have H2 := hid h2
          have HF2 := hid hf2
          have HA2 := hid hA2
          clear h2 hf2 hA2 hC
          go_wp2_with fail
          go_roundg (gk - 1)
          case measure => have := HG.out.1; have := HK.out; omega
          case rel =>
            have hset : Fr (One N) w2 (w2.setCell ⟨N, k, none⟩ (mkN x)) := Fr.set1 (Fr.refl _ _) _ _
            have hlen : (ls ++ [x]).length = k + 1 := by simp [HG.out.2]
            refine ⟨ls ++ [x], t1, upd f k x, by rw [hlen]; simp, by rw [hlen]; have := HG.out.1; have := HK.out; omega, HA2.out.set k x, fun i hi => ?_, H2.out.fr hset (fun q => by unfold One at q; have := HBN.out; omega) (fun g hg q => by unfold One at q; have := (H.out.own.lt hg).2; have := HNN.out; omega), ?_, HJN.out.2.2.1, HJN.out.1⟩
            · rw [hlen] at hi
              unfold upd len
              by_cases e : i = k
              · subst e; rw [if_pos rfl, HG.out.2]; simp
              · rw [if_neg e, HF0.out i (by omega), List.getD_eq_getElem?_getD, List.getElem?_append_left (by have := HG.out.2; omega)]; unfold len; rw [List.getD_eq_getElem?_getD]
            · exact (HFR.out.trans HF2.out).trans2 hset fun y hy hl => by unfold One at hy; have := HNN.out; omega
        · rw [if_neg c2] at hjn
          have hx10 : ¬ (x : Int) ≤ 10 := by omega
          by_cases c3 : 12 < x
          · rw [if_pos c3] at hjn
            have HE := hid (hjn.1 (by show (8 : Nat) ≠ 0; decide))
            have hx12 : (12 : Int) < x := by omega
            clear hA hf hM hF h10 hJ hjn hps hp c1 htk hg hkl hk hlr hx ht1 hx16 h24 c2 c3 hNw
            go_wp2_with fail
            refine HPS.out.mono ?_
            rintro e w' ⟨rfl, hw⟩
            have hw2 := hw.symm; subst hw2; clear hw
            go_wp2_with fail
            refine HTK.out.mono ?_
            rintro e w2 ⟨rfl, h2, hf2⟩
            have H2 := hid h2
            have HF2 := hid hf2
            clear h2 hf2
            go_wp2_with fail
            go_ret3
            exact hK.out _ _ ⟨HFR.out.trans HF2.out, .inl ⟨8, _, t1, by decide, rfl, H2.out, HE.out⟩⟩
          · rw [if_neg c3] at hjn
            have hx12n : ¬ (12 : Int) < x := by omega
            have hxx : x = 11 ∨ x = 12 := by omega
            have HXX := hid hxx
            have hwd7 : wideF x ≤ 7 := by unfold wideF; split <;> omega
            obtain ⟨wd, hwd⟩ : ∃ z, z = wideF x := ⟨_, rfl⟩
            rw [← hwd] at hjn hwd7
            have HWD := hid hwd
            have HW7 := hid hwd7
            rw [← hkl] at hjn
            have HJN := hid hjn
            clear hA hf hM hF h10 hJ hjn hps hp c1 htk hlr hx ht1 hx16 h24 c2 c3 hNw hxx hwd hwd7 hg hkl hk
            go_wp2_with fail
            refine HPS.out.mono ?_
            rintro e w' ⟨rfl, hw⟩
            have hw2 := hw.symm; subst hw2; clear hw
            go_wp2_with fail
            refine HTK.out.mono ?_
            rintro e w2 ⟨rfl, h2, hf2⟩
            have H2 := hid h2
            have HF2 := hid (HFR.out.trans hf2)
            have HA2 := hid (HA1.out.fr hf2 (fun q => by unfold One at q; have := HBN.out; omega))
            clear h2 hf2
            go_upto_if 43 with (fail)
            go_cut [10] (fun mv wx => mv = .int .i64 (wd : Nat) ∧ wx = w2)
            case first =>
              rcases HXX.out with e | e
              · subst e
                go_wp2_with fail
                go_meet
                exact ⟨by rw [HWD.out]; rfl, rfl⟩
              · subst e
                go_wp2_with fail
                go_meet
                exact ⟨by rw [HWD.out]; rfl, rfl⟩
            case rest =>
            obtain ⟨rfl, rfl⟩ := hcut
            obtain ⟨w2, rfl⟩ : ∃ w2, w2 = wc := ⟨_, rfl⟩
            have hjn := HJN.out
            by_cases c4 : t1.got wd < wd
            · rw [if_pos c4] at hjn
              have HE := hid (hjn.1 (by show (4 : Nat) ≠ 0; decide))
              have htk2 := mtake_no H2.out (k := wd) (by have := HW7.out; omega) c4
              unfold ptrV at htk2
              have HTK2 := hid htk2
              clear hjn htk2 c4
              go_wp2_with fail
              refine HTK2.out.mono ?_
              rintro e w3 ⟨rfl, q, rfl⟩
              go_wp2_with fail
              go_ret3
              exact hK.out _ _ ⟨HF2.out.trans (Fr.of_drewN (S := One b)), .inl ⟨4, _, t1, by decide, rfl, H2.out.drewN, HE.out⟩⟩
            · rw [if_neg c4] at hjn
              have htk2 := mtake_yes H2.out (k := wd) (by have := HW7.out; omega) c4
              have hv := peek_lt2 t1 wd
              have hv7 : (2 : Nat) ^ wd ≤ 2 ^ 7 := Nat.pow_le_pow_right (by decide) HW7.out
              have h27 : (2 : Nat) ^ 7 = 128 := rfl
              rw [h27] at hv7
              obtain ⟨v, hvn⟩ : ∃ z, z = t1.peek wd := ⟨_, rfl⟩
              obtain ⟨t3, ht3⟩ : ∃ z, z = t1.skip wd := ⟨_, rfl⟩
              rw [← hvn, ← ht3] at htk2 hjn
              rw [← hvn] at hv
              have hv128 : v < 128 := Nat.lt_of_lt_of_le hv hv7
              have hvi : (v : Int) < 128 := by omega
              unfold ptrV at htk2
              have HTK2 := hid htk2
              have HKL := HG.out.2
              by_cases c5 : x = 12 ∧ k = 0
              · rw [if_pos c5] at hjn
                have HE := hid (hjn.1 (by show (8 : Nat) ≠ 0; decide))
                have hxe : ((x : Int) == 12) = true := by simp; omega
                have hke : ((k : Int) == 0) = true := by simp; omega
                clear hjn htk2 c4 c5 hv hv7 h27 hvn ht3 hv128 HKL
                go_wp2_with fail
                refine HTK2.out.mono ?_
                rintro e w3 ⟨rfl, h3, hf3⟩
                have H3 := hid h3
                have HF3 := hid (HF2.out.trans hf3)
                clear h3 hf3
                go_wp2_with fail
                go_ret3
                exact hK.out _ _ ⟨HF3.out, .inl ⟨8, _, t3, by decide, rfl, H3.out, HE.out⟩⟩
              · rw [if_neg c5] at hjn
                have C5 := hid c5
                obtain ⟨pv, hpv⟩ : ∃ z, z = if x = 12 then len ls (k - 1) else 0 := ⟨_, rfl⟩
                rw [← hpv] at hjn
                have HPV := hid hpv
                have HJN2 := hid hjn
                clear hjn htk2 c4 c5 hv hv7 h27 hvn ht3 hv128 HKL hpv
                go_wp2_with fail
                refine HTK2.out.mono ?_
                rintro e w3 ⟨rfl, h3, hf3⟩
                have H3 := hid h3
                have HF3 := hid (HF2.out.trans hf3)
                have hA3 := HA2.out.fr hf3 (fun q => by unfold One at q; have := HBN.out; omega)
                have HA3 := hid hA3
                have hcl : ∀ j, j < 273 → w3.cell? ⟨N, j, none⟩ = some (.int .i64 ((f j : Nat) : Int)) := fun j hj => by have := hA3.cell j hj; simp only [mkN] at this; exact this
                have HCL := hid hcl
                clear h3 hf3 hA3 hcl
                go_upto_if 55 with (fail)
                go_cut [13] (fun qv wx => qv = .int .i64 (pv : Nat) ∧ wx = w3)
                case first =>
                  rcases HXX.out with e | e
                  · subst e
                    go_wp2_with fail
                    go_meet
                    exact ⟨by rw [HPV.out]; rfl, rfl⟩
                  · subst e
                    have hk0 : k ≠ 0 := fun q => C5.out ⟨rfl, q⟩
                    have hke : ((k : Int) == 0) = false := by simp; omega
                    obtain ⟨k1, hk1⟩ : ∃ z, z = k - 1 := ⟨_, rfl⟩
                    have ek1 : (k : Int) - 1 = (k1 : Int) := by omega
                    have hk1i : (k1 : Int) < 273 := by have := HK.out; omega
                    have hcc := HCL.out k1 (by have := HK.out; omega)
                    have hfv : f k1 = pv := by rw [HPV.out, if_pos rfl, HF0.out k1 (by omega), hk1]
                    rw [hfv] at hcc
                    clear hk1 hfv hk0
                    go_wp2_with fail
                    go_meet
                    exact ⟨rfl, rfl⟩
                case rest =>
                obtain ⟨rfl, rfl⟩ := hcut
                obtain ⟨w3, rfl⟩ : ∃ w3, w3 = wc := ⟨_, rfl⟩
                have hjn := HJN2.out
                by_cases c6 : 273 < k + (3 + v)
                · rw [if_pos c6] at hjn
                  have HE := hid (hjn.1 (by show (8 : Nat) ≠ 0; decide))
                  have c6i : (273 : Int) < (k : Int) + 3 + v := by omega
                  clear hjn c6
                  go_wp2_with fail
                  go_ret3
                  exact hK.out _ _ ⟨HF3.out, .inl ⟨8, _, t3, by decide, rfl, H3.out, HE.out⟩⟩
                · rw [if_neg c6] at hjn
                  have HE := hid (hjn.2 rfl)
                  have c6i : ¬ (273 : Int) < (k : Int) + 3 + v := by omega
                  have C6 := hid c6
                  obtain ⟨gO, hgO⟩ : ∃ g, g = gk := ⟨_, rfl⟩
                  have HGO := hid hgO
                  obtain ⟨tm, htm⟩ : ∃ z, z = 3 + v := ⟨_, rfl⟩
                  have HTM := hid htm
                  have etm : (3 : Int) + v = (tm : Int) := by omega
                  obtain ⟨w4, rfl⟩ : ∃ w4, w4 = w3 := ⟨_, rfl⟩
                  clear hjn c6 htm
                  go_wp2_with fail
                  go_loopg [6, 14] tm (fun g iv jv wx => ∃ (j i2 : Nat) (f2 : Nat → Nat), iv = .int .i64 (i2 : Nat) ∧ i2 = k + j ∧ jv = .int .i64 (j : Nat) ∧ g + j = tm ∧ Arr 3 mkN wx N 273 f2 ∧ (∀ i, i < i2 → f2 i = if i < k then len ls i else pv) ∧ MTp wx b ad cap t3 ∧ Fr (One b) w wx)
                  case atStart => exact ⟨0, k, f, rfl, rfl, rfl, by omega, HA3.out, fun i hi => by rw [if_pos hi]; exact HF0.out i hi, H3.out, HF3.out⟩
                  case round =>
                    obtain ⟨j, i2, f2, rfl, hi2, rfl, hgj, hA5, hf5, hM5, hF5⟩ := hrel
                    have HGJ := hid (And.intro hgj hi2)
                    have HA5 := hid hA5
                    have HF5 := hid hf5
                    have HM5 := hid hM5
                    have HFR5 := hid hF5
                    by_cases hj : j < tm
                    · have hji : (j : Int) < tm := by omega
                      have hi273 : i2 < 273 := by have := C6.out; have := HTM.out; omega
                      have hi273i : (i2 : Int) < 273 := by omega
                      have cc := hA5.cell i2 hi273
                      simp only [mkN] at cc
                      have z5 : ∀ i, wr.frozen? ⟨N, i, none⟩ = false := hA5.thaw
                      have HJ2 := hid (And.intro hj hi273)
                      clear hA5 hf5 hM5 hF5 hgj hi2 hj hi273
                      go_wp2_with fail
                      go_roundg (gk - 1)
                      case measure => have := HGJ.out.1; have := HJ2.out.1; omega
                      case rel =>
                        have hset : Fr (One N) wr (wr.setCell ⟨N, i2, none⟩ (mkN pv)) := Fr.set1 (Fr.refl _ _) _ _
                        refine ⟨j + 1, i2 + 1, upd f2 i2 pv, by simp, by have := HGJ.out.2; omega, by simp, by have := HGJ.out.1; have := HJ2.out.1; omega, HA5.out.set i2 pv, fun i hi => ?_, HM5.out.fr hset (fun q => by unfold One at q; have := HBN.out; omega) (fun g hg q => by unfold One at q; have := (H.out.own.lt hg).2; have := HNN.out; omega), ?_⟩
                        · unfold upd
                          by_cases e : i = i2
                          · rw [if_pos e, if_neg (by have := HGJ.out.2; omega)]
                          · rw [if_neg e]; exact HF5.out i (by omega)
                        · exact HFR5.out.trans2 hset fun y hy hl => by unfold One at hy; have := HNN.out; omega
                    · have hji : ¬ (j : Int) < tm := by omega
                      have hjt : i2 = k + tm := by omega
                      have HJT := hid hjt
                      clear hA5 hf5 hM5 hF5 hgj hi2 hj hjt
                      go_wp2_with fail
                      go_roundg (gO - tm)
                      case measure => have := HGO.out; have := HTM.out; have := HG.out.1; have := HK.out; omega
                      case rel =>
                        have hlen : (ls ++ List.replicate (3 + v) pv).length = i2 := by rw [List.length_append, List.length_replicate, ← HG.out.2, HJT.out, HTM.out]
                        refine ⟨ls ++ List.replicate (3 + v) pv, t3, f2, by rw [hlen], by rw [hlen]; have := HGO.out; have := HG.out.1; have := HJT.out; have := HTM.out; have := C6.out; omega, HA5.out, fun i hi => ?_, HM5.out, HFR5.out, HE.out.2.2.1, HE.out.1⟩
                        rw [hlen] at hi
                        rw [HF5.out i hi]
                        unfold len
                        by_cases e : i < k
                        · rw [if_pos e, List.getD_eq_getElem?_getD, List.getD_eq_getElem?_getD, List.getElem?_append_left (by have := HG.out.2; omega)]
                        · rw [if_neg e, List.getD_eq_getElem?_getD, List.getElem?_append_right (by have := HG.out.2; omega), List.getElem?_replicate, if_pos (by have := HG.out.2; have := HJT.out; have := HTM.out; omega)]; rfl
    · have hki : ¬ (k : Int) < 273 := by omega
      have hk273 : k = 273 := by omega
      have HJ := hid hJ
      have HK3 := hid hk273
      clear hA hf hM hF h10 hJ hg hkl hk hNw hk273
      go_wp2_with fail
      go_ret3
      refine hK.out _ _ ⟨HFR.out, .inr ⟨ls, tq, by rw [← HG.out.2]; exact HK3.out, H10.out, rfl, HA1.out.congr fun i hi => HF0.out i (by rw [HK3.out]; exact hi), HM.out, HJ.out⟩⟩
end Go.Proofs.Qxb6500353aGreat
