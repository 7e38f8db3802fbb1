/- The real archive: Pack, walked. -/
import Derived.Test.Qxb6500353aGreatArb
import Derived.Deep.Cut
import Derived.Deep.DeepCutAuto
namespace Go.Proofs.Qxb6500353aGreat
open Go.RowKit
set_option linter.unusedVariables false
set_option linter.unusedSimpArgs false

theorem take_snoc2 {α : Type} {l : List α} {k : Nat} (h : k < l.length) : l.take (k + 1) = l.take k ++ [l[k]] := by
  rw [List.take_add_one, List.getElem?_eq_getElem h]; rfl
theorem textF_snoc (lv : Nat) (l : List Ent) (e : Ent) : textF lv (l ++ [e]) = textF lv l ++ recF lv e := by unfold textF; simp
theorem dirF_snoc (lv : Nat) (l : List Ent) (e : Ent) : ∀ o, dirF lv o (l ++ [e]) = dirF lv o l ++ two (o + (textF lv l).length) := by
  induction l with
  | nil => intro o; simp [dirF, textF]
  | cons a l ih =>
    intro o
    show two o ++ dirF lv _ (l ++ [e]) = (two o ++ dirF lv _ l) ++ _
    rw [ih, List.append_assoc]
    have : (textF lv (a :: l)).length = (recF lv a).length + (textF lv l).length := by unfold textF; simp
    rw [this, Nat.add_assoc]
theorem judge_ok {l : List Ent} (h : judgeF l = 0) (hb : ∀ e ∈ l, ∀ b ∈ e.data, b < 256) : ∀ e ∈ l, EntOK e := by
  induction l with
  | nil => intro e he; simp at he
  | cons a l ih =>
    rw [judgeF_cons] at h
    by_cases c : entE a ≠ 0
    · rw [if_pos c] at h; exact absurd h c
    · rw [if_neg c] at h
      intro e he
      rcases List.mem_cons.1 he with q | q
      · subst q
        unfold entE at c
        split at c
        · simp at c
        · split at c
          · simp at c
          · exact ⟨by omega, by omega, by omega, hb _ List.mem_cons_self⟩
      · exact ih h (fun e he => hb e (List.mem_cons_of_mem _ he)) e q
theorem toE_byte (es : List EB) : ∀ e ∈ es.map toE, ∀ b ∈ e.data, b < 256 := by
  intro e he b hb
  obtain ⟨x, _, rfl⟩ := List.mem_map.1 he
  exact bytesOf_lt _ b hb
theorem text_take {lv : Nat} {l : List Ent} (hok : ∀ e ∈ l, EntOK e) (k : Nat) (hk : k ≤ l.length) : (textF lv (l.take k)).length ≤ 274 * k := by
  induction k with
  | zero => simp [textF]
  | succ k ih =>
    have h1 := ih (by omega)
    have h2 := hok _ (List.getElem_mem (show k < l.length by omega))
    have h3 := rec_le h2 lv
    have h4 := h2.name8
    have h5 := h2.data
    rw [take_snoc2 (by omega), textF_snoc, List.length_append]; omega
/-- What Pack answers. -/
def packO (es : List EB) (lv : Int) : List Nat := if errA (es.map toE) lv = 0 then packA lv.toNat (es.map toE) else []
set_option maxRecDepth 100000 in
set_option maxHeartbeats 8000000 in
theorem packA_any {w : World} {X Z cap : Nat} {ad : Option Addr} {R : ArR} {es : List EB} (h : ArM w X Z R) (he : EntS w ad es) (hap : ∀ g, obk ad = some g → ¬ Rng X (Z + 5) g) {lv : Int} :
    Calls Tryz.prog 28 #[ptrV Z, .slice ad es.length cap, .int .i64 lv] w fun e w' => e = .returned (.tuple #[.string (strN (packO es lv)), .int .i64 (errA (es.map toE) lv : Nat)]) ∧ (∃ R2, ArM w' X Z R2) ∧ Fr (Rng X (Z + 5)) w w' := by
  have H := hid h
  have HE := hid he
  have HAP := hid hap
  obtain ⟨n, hn⟩ : ∃ z, z = es.length := ⟨_, rfl⟩
  have HN := hid hn
  have hml : (es.map toE).length = n := by rw [List.length_map, hn]
  by_cases c1 : 4 < n
  · have c1i : (4 : Int) < n := by omega
    have e1 : errA (es.map toE) lv = 17 := by unfold errA; rw [if_pos (by omega)]
    have e2 : packO es lv = [] := by unfold packO; rw [e1, if_neg (by decide)]
    rw [e1, e2, strN_nil, ← hn]
    clear h he hap hn hml c1 e1 e2
    refine calls_via fun K hK => ?_
    unfold ptrV
    go_enter Tryz.func28, Tryz.ntmps28
    go_wp2_with fail
    try go_ret2
    exact hK.out _ _ ⟨rfl, ⟨R, H.out⟩, Fr.refl _ _⟩
  · have c1i : ¬ (4 : Int) < n := by omega
    by_cases c2 : lv < 0 ∨ 2 < lv
    · have e1 : errA (es.map toE) lv = 13 := by unfold errA; rw [if_neg (by omega), if_pos c2]
      have e2 : packO es lv = [] := by unfold packO; rw [e1, if_neg (by decide)]
      rw [e1, e2, strN_nil, ← hn]
      clear h he hap hn hml c1 e1 e2
      refine calls_via fun K hK => ?_
      unfold ptrV
      go_enter Tryz.func28, Tryz.ntmps28
      by_cases c3 : lv < 0
      · clear c2
        go_wp2_with fail
        try go_ret2
        exact hK.out _ _ ⟨rfl, ⟨R, H.out⟩, Fr.refl _ _⟩
      · have c4 : 2 < lv := by omega
        clear c2
        go_wp2_with fail
        try go_ret2
        exact hK.out _ _ ⟨rfl, ⟨R, H.out⟩, Fr.refl _ _⟩
    · have c3 : ¬ lv < 0 := by omega
      have c4 : ¬ 2 < lv := by omega
      have e0 : errA (es.map toE) lv = judgeF (es.map toE) := by unfold errA; rw [if_neg (by omega), if_neg c2]
      have hj := judge_any (cap := cap) he (by omega)
      rw [← hn] at hj
      obtain ⟨L, hL⟩ : ∃ z, z = es.map toE := ⟨_, rfl⟩
      rw [← hL] at hj e0
      obtain ⟨er, her⟩ : ∃ z, z = judgeF L := ⟨_, rfl⟩
      rw [← her] at hj e0
      have hpo : packO es lv = if er = 0 then packA lv.toNat L else [] := by unfold packO; rw [← hL, e0]
      rw [hpo, ← hL, e0, ← hn]
      have HJ := hid hj
      by_cases c5 : er = 0
      · obtain ⟨m, hm⟩ : ∃ m : Nat, lv = (m : Int) := ⟨lv.toNat, by omega⟩
        subst hm
        rw [c5, if_pos rfl]
        rw [c5] at HJ her
        have hm2 : m ≤ 2 := by omega
        have hok := judge_ok (l := L) her.symm (by rw [hL]; exact toE_byte es)
        have hLn : L.length = n := by rw [hL]; exact hml
        have htk := fun k hk => text_take (lv := m) hok k hk
        have HOK := hid hok
        have HTK := hid htk
        have HLN := hid hLn
        have HLL := hid hL
        have HM := hid (And.intro hm2 (show n ≤ 4 by omega))
        have hmm : ((m : Int).toNat) = m := rfl
        rw [hmm]
        have k1 := h.ar.c_fill
        have kf : ∀ i, w.frozen? ⟨Z, i, none⟩ = false := h.ar.fz
        have f1 : Fr (One Z) w (w.setCell ⟨Z, 3, none⟩ (.int .i64 ((0 : Nat) : Int))) := (Fr.refl _ _).set1 _ _
        have h1 := h.arch (h.ar.set_fill 0) ⟨rfl, rfl, rfl, fun _ => by show 0 ≤ 1200; omega⟩ (f1.mono fun x hx _ => by unfold One at hx; unfold Rng; omega)
        have H1 := hid h1
        have F1 : Hid (Fr (Rng X (Z + 5)) w (w.setCell ⟨Z, 3, none⟩ (.int .i64 ((0 : Nat) : Int)))) := hid (rngZ (Z := Z) (by have := h.le; omega) (f1.mono fun x hx _ => by unfold One at hx; unfold Rng; omega))
        clear h he hap hn hml hj hL her hpo e0 hm2 hok hLn htk hmm f1 h1 c1 c2 c5
        refine calls_via fun K hK => ?_
        unfold ptrV
        go_enter Tryz.func28, Tryz.ntmps28
        go_wp2_with fail
        refine HJ.out.mono ?_
        rintro e w' ⟨rfl, hw⟩
        have hw2 := hw.symm; subst hw2; clear hw
        rw [show ((0 : Nat) : Int) = 0 from rfl]
        go_wp2_with fail
        clear k1 kf c3 c4 c1i
        go_loopg [9] n (fun g i wr => ∃ (k : Nat) (Rk : ArR), i = .int .i64 (k : Nat) ∧ g + k = n ∧ ArM wr X Z Rk ∧ Pg Rk (textF m (L.take k)) ∧ (∀ j, j < k → Rk.offs j = (textF m (L.take j)).length) ∧ Fr (Rng X (Z + 5)) w wr)
        case atStart => exact ⟨0, _, rfl, by omega, H1.out, ⟨rfl, fun i hi => by simp [textF] at hi, by simp [textF]⟩, fun j hj => by omega, F1.out⟩
        case round =>
          obtain ⟨k, Rk, rfl, hg, hA, hP, hO, hF⟩ := hrel
          have HA := hid hA
          have HP := hid hP
          have HO := hid hO
          have HF := hid hF
          have HG := hid hg
          by_cases hk : k < n
          · have hki : (k : Int) < n := by omega
            have hki4 : (k : Int) < 4 := by have := HM.out.2; omega
            have hk4 : k < 4 := by have := HM.out.2; omega
            have c1 := hA.ar.p_offs
            have c2 := hA.ar.a_offs.cell k hk4
            simp only [mkN] at c2
            obtain ⟨y, hy⟩ : ∃ z, z = Rk.offs k := ⟨_, rfl⟩
            rw [← hy] at c2
            have c3 := hA.ar.c_fill
            rw [hP.fill] at c3
            have hPl := HTK.out k (by rw [HLN.out]; omega)
            obtain ⟨q, hq⟩ : ∃ z, z = (textF m (L.take k)).length := ⟨_, rfl⟩
            rw [← hq] at c3 hPl
            have cf : ∀ i, wr.frozen? ⟨Z + 2, i, none⟩ = false := hA.ar.a_offs.thaw
            have f2 : Fr (Rng Z (Z + 5)) wr ((wr.setCell ⟨Z + 2, k, none⟩ (.int .i64 ((q : Nat) : Int))).drew) := ((Fr.refl _ _).setS ⟨by omega, by omega⟩ _ _).drew
            obtain ⟨R2, hR2⟩ : ∃ z : ArR, z = { Rk with offs := upd Rk.offs k q } := ⟨_, rfl⟩
            have ha2 : ArAt ((wr.setCell ⟨Z + 2, k, none⟩ (.int .i64 ((q : Nat) : Int))).drew) Z R2 := by rw [hR2]; exact (hA.ar.set_offs k q).drew
            have hl := hA.le
            have h2 : ArM ((wr.setCell ⟨Z + 2, k, none⟩ (.int .i64 ((q : Nat) : Int))).drew) X Z R2 := ⟨hA.enc.fr f2 fun k a b q => by have := q.1; omega, hA.dec.fr f2 fun k a b q => by have := q.1; omega, ha2, by rw [hR2]; exact hA.k, by rw [hR2]; exact hA.d, hA.le, by rw [hR2]; exact hA.fl⟩
            have hp2 : Pg R2 (textF m (L.take k)) := by rw [hR2]; exact ⟨hP.fill, hP.page, hP.le⟩
            have H2 := hid h2
            have HP2 := hid hp2
            have HF2 := hid (hF.trans (rngZ (by omega) f2))
            have HR2 := hid hR2
            have HQ := hid (And.intro hq hPl)
            have HK4 := hid hk4
            clear hA hP hO hF hg hy hPl hq f2 ha2 hl h2 hp2 hR2 hk
            go_upto_region 12 with fail
            go_cut [] (fun wx => wx = (wr.setCell ⟨Z + 2, k, none⟩ (.int .i64 ((q : Nat) : Int))).drew)
            case first =>
              go_region
              go_wp2_with fail
              go_meet
              rfl
            case rest =>
            obtain ⟨w2, hw2⟩ : ∃ z, z = wc := ⟨_, rfl⟩
            rw [← hw2]
            have hwz := hw2.trans hcut
            rw [← hwz] at H2 HF2
            clear hcut hw2 hwz c1 c2 c3 cf
            have hkl : k < es.length := by rw [← HN.out]; omega
            obtain ⟨ga, rfl, hgl, x0, x1⟩ := (HE.out.fr HF2.out HAP.out).at hkl
            have hLk : L[k]'(by rw [HLN.out]; omega) = ⟨bytesOf es[k].1, bytesOf es[k].2⟩ := by simp only [HLL.out, List.getElem_map]; rfl
            obtain ⟨ev, hev⟩ : ∃ z, z = es[k] := ⟨_, rfl⟩
            rw [← hev] at x0 x1 hLk
            obtain ⟨nm, dt⟩ := ev
            dsimp only at x0 x1 hLk
            have hok := HOK.out _ (List.getElem_mem (show k < L.length by rw [HLN.out]; omega))
            rw [hLk] at hok
            have hnm := hok.name8
            have hdt := hok.data
            dsimp only at hnm hdt
            rw [bytesOf_len] at hnm hdt
            have hnx : textF m (L.take (k + 1)) = textF m (L.take k) ++ recF m ⟨bytesOf nm, bytesOf dt⟩ := by rw [take_snoc2 (by rw [HLN.out]; omega), textF_snoc, hLk]
            have HRC : Hid (∀ wx, Fr Nob w2 wx → Calls Tryz.prog 44 #[.pointer (some ⟨Z, 0, none⟩), .string nm, .string dt, .int .i64 (m : Nat)] wx fun e w' => e = .returned (.tuple #[]) ∧ (∃ R3, ArM w' X Z R3 ∧ Pg R3 (textF m (L.take (k + 1))) ∧ R3.offs = R2.offs) ∧ Fr (Rng X (Z + 5)) wx w') := hid (fun wx hfx => by
              rw [hnx]
              exact record_any (H2.out.fr hfx (fun _ _ _ x => x)) HP2.out hnm hdt HM.out.1 (by rw [← HQ.out.1]; have := HQ.out.2; have := HK4.out; omega))
            have HKL := hid hkl
            clear hgl hev hok hnm hdt hnx hLk hkl
            go_upto_region 13 with fail
            go_region_with (go_at_call 44; refine (HRC.out _ (by first | exact Fr.refl _ _ | exact (Fr.refl _ _).drew | exact Fr.of_drewN)).mono ?_; rintro e w4 ⟨rfl, ⟨R3, h3, hp3, ho3⟩, f3⟩; have H3 := hid h3; have HP3 := hid hp3; have HO3 := hid ho3; have HF3 : Hid (Fr (Rng X (Z + 5)) w w4) := hid (by first | exact HF2.out.trans f3 | exact HF2.out.drew.trans f3 | exact HF2.out.drewN.trans f3); clear h3 hp3 ho3 f3)
            all_goals go_wp2_with fail
            all_goals go_roundg (gk - 1)
            all_goals first
              | (have := HG.out; omega)
              | exact ⟨k + 1, R3, by simp, by have := HG.out; omega, H3.out, HP3.out, fun j hj => by
                  rw [HO3.out, HR2.out]
                  show upd Rk.offs k q j = _
                  by_cases e : j = k
                  · subst e; rw [upd_self]; exact HQ.out.1
                  · rw [upd_ne _ _ _ _ e]; exact HO.out j (by omega), HF3.out⟩
          · have hki : ¬ (k : Int) < n := by omega
            have hkn : k = n := by omega
            rw [hkn] at hP hO
            have hall : L.take n = L := List.take_of_length_le (by rw [HLN.out]; omega)
            rw [hall] at hP
            have c3 := hA.ar.c_fill
            rw [hP.fill] at c3
            have hPl := HTK.out n (by rw [HLN.out]; omega)
            rw [hall] at hPl
            obtain ⟨q, hq⟩ : ∃ z, z = (textF m L).length := ⟨_, rfl⟩
            rw [← hq] at c3 hPl
            have HP := hid hP
            have HO := hid hO
            have HQ := hid (And.intro hq hPl)
            have hn4 : n ≤ 4 := HM.out.2
            clear hA hP hO hF hg hall hPl hq hkn hk
            go_wp2_with fail
            go_loopg [11] n (fun g i wr => ∃ (k : Nat) (Rk : ArR), i = .int .i64 (k : Nat) ∧ g + k = n ∧ ArM wr X Z Rk ∧ Pg Rk (textF m L ++ dirF m 0 (L.take k)) ∧ (∀ j, j < n → Rk.offs j = (textF m (L.take j)).length) ∧ Fr (Rng X (Z + 5)) w wr)
            case atStart => exact ⟨0, Rk, rfl, by omega, HA.out, by rw [show L.take 0 = [] from rfl, show dirF m 0 [] = [] from rfl, List.append_nil]; exact HP.out, HO.out, HF.out⟩
            case round =>
              obtain ⟨k, Rj, rfl, hg, hA, hP, hO, hF⟩ := hrel
              have HA := hid hA
              have HP := hid hP
              have HO := hid hO
              have HF := hid hF
              have HG := hid hg
              have hdl : (textF m L ++ dirF m 0 (L.take k)).length = q + 2 * k := by
                rw [List.length_append, dir_length, List.length_take, HLN.out, ← HQ.out.1, Nat.min_eq_left (by omega)]
              have HDL := hid hdl
              by_cases hk : k < n
              · have hki : (k : Int) < n := by omega
                have hki4 : (k : Int) < 4 := by omega
                have c1 := hA.ar.p_offs
                have c2 := hA.ar.a_offs.cell k (by omega)
                simp only [mkN] at c2
                rw [hO k hk] at c2
                have hol := HTK.out k (by rw [HLN.out]; omega)
                have hnx : textF m L ++ dirF m 0 (L.take (k + 1)) = (textF m L ++ dirF m 0 (L.take k)) ++ two (textF m (L.take k)).length := by
                  rw [take_snoc2 (by rw [HLN.out]; omega), dirF_snoc, List.append_assoc, Nat.zero_add]
                obtain ⟨ok, hok⟩ : ∃ z, z = (textF m (L.take k)).length := ⟨_, rfl⟩
                rw [← hok] at c2 hol hnx
                have hc := two_any (v := ok) hA.ar hP (by omega) (by rw [hdl]; have := HQ.out.2; omega)
                rw [← hnx] at hc
                unfold ptrV at hc
                have HC := hid hc
                clear hA hP hO hF hg hol hnx hok hc hdl hk
                go_wp2_with fail
                refine HC.out.mono ?_
                rintro e w2 ⟨rfl, ⟨R2, ha2, hp2, hk2⟩, f2⟩
                have H2 := hid (HA.out.arch ha2 hk2 f2)
                have HP2 := hid hp2
                have HK2 := hid hk2.offs
                have F2 := hid (HF.out.trans (rngZ (by have := HA.out.le; omega) f2))
                clear ha2 hp2 hk2 f2 c1 c2
                go_wp2_with fail
                go_roundg (gk - 1)
                case measure => have := HG.out; omega
                case rel => exact ⟨k + 1, R2, by simp, by have := HG.out; omega, H2.out, HP2.out, fun j hj => by rw [HK2.out]; exact HO.out j hj, F2.out⟩
              · have hki : ¬ (k : Int) < n := by omega
                have hkn : k = n := by omega
                subst hkn
                have hall : L.take k = L := List.take_of_length_le (by rw [HLN.out]; omega)
                rw [hall] at hP hdl
                have hc := one_any (v := k) hA.ar hP (by omega) (by rw [hdl]; have := HQ.out.2; omega)
                unfold ptrV at hc
                have HC := hid hc
                have HDL2 := hid hdl
                clear hA hP hO hF hg hall hc hdl hk
                go_wp2_with fail
                refine HC.out.mono ?_
                rintro e w2 ⟨rfl, ⟨R2, ha2, hp2, hk2⟩, f2⟩
                have H2 := hid (HA.out.arch ha2 hk2 f2)
                have F2 := hid (HF.out.trans (rngZ (by have := HA.out.le; omega) f2))
                have hc := two_any (v := q) ha2 hp2 (by have := HQ.out.2; omega) (by rw [List.length_append, HDL2.out]; have := HQ.out.2; simp; omega)
                unfold ptrV at hc
                have HC2 := hid hc
                clear ha2 hp2 hk2 f2 hc HC
                go_wp2_with fail
                refine HC2.out.mono ?_
                rintro e w3 ⟨rfl, ⟨R3, ha3, hp3, hk3⟩, f3⟩
                have H3 := hid (H2.out.arch ha3 hk3 f3)
                have F3 := hid (F2.out.trans (rngZ (by have := HA.out.le; omega) f3))
                have hc := one_any (v := 90) ha3 hp3 (by omega) (by rw [List.length_append, List.length_append, HDL2.out, show (two q).length = 2 from rfl]; have := HQ.out.2; simp; omega)
                unfold ptrV at hc
                have HC3 := hid hc
                clear ha3 hp3 hk3 f3 hc HC2
                go_wp2_with fail
                refine HC3.out.mono ?_
                rintro e w4 ⟨rfl, ⟨R4, ha4, hp4, hk4⟩, f4⟩
                have H4 := hid (H3.out.arch ha4 hk4 f4)
                have F4 := hid (F3.out.trans (rngZ (by have := HA.out.le; omega) f4))
                have hpk : ((((textF m L ++ dirF m 0 L) ++ [k]) ++ two q) ++ [90]) = packA m L := by unfold packA; rw [HLN.out, HQ.out.1]
                rw [hpk] at hp4
                have c1 := ha4.p_page
                have c2 := ha4.c_fill
                rw [hp4.fill] at c2
                obtain ⟨pl, hpl⟩ : ∃ z, z = (packA m L).length := ⟨_, rfl⟩
                rw [← hpl] at c2
                have hpll : pl ≤ 1200 := by rw [hpl]; exact hp4.le
                have hpli : (pl : Int) ≤ 1200 := by omega
                have hcv := conv_str (w := w4.drew) (g := Z + 1) (o := 0) (n := pl) (cap := 1200) (f := R4.page) (fun i hi => by rw [Nat.zero_add]; exact ha4.drew.a_page.cell i (by omega))
                have hcm : (List.range pl).map R4.page = packA m L := by
                  apply List.ext_getElem?
                  intro i
                  rw [List.getElem?_map]
                  by_cases hi : i < pl
                  · rw [List.getElem?_range hi]
                    have := hp4.page i (by omega)
                    rw [Option.map_some, this, List.getD_eq_getElem?_getD, List.getElem?_eq_getElem (show i < (packA m L).length by omega)]; rfl
                  · rw [List.getElem?_eq_none (by simp; omega), List.getElem?_eq_none (by omega)]; rfl
                rw [hcm] at hcv
                obtain ⟨ov, hov⟩ : ∃ z, z = strN (packA m L) := ⟨_, rfl⟩
                rw [← hov] at hcv hK
                clear ha4 hp4 hk4 f4 HC3 hpk hcm hov hpl hpll
                go_upto_region 22 with fail
                go_region
                go_wp2_with fail
                try go_ret2
                exact hK.out _ _ ⟨rfl, ⟨_, H4.out.fr ((Fr.refl Nob w4).drew) (fun _ _ _ x => x)⟩, F4.out.drew⟩
      · have c5i : ((er : Int) == 0) = false := beq_eq_false_iff_ne.2 (by omega)
        have c5j : ((er : Int) != 0) = true := by rw [bne, c5i]; rfl
        rw [if_neg c5, strN_nil]
        clear h he hap hn hml hj hL her hpo e0 c1 c2 c5
        refine calls_via fun K hK => ?_
        unfold ptrV
        go_enter Tryz.func28, Tryz.ntmps28
        go_wp2_with fail
        refine HJ.out.mono ?_
        rintro e w' ⟨rfl, hw⟩
        have hw2 := hw.symm; subst hw2; clear hw
        go_wp2_with fail
        try go_ret2
        exact hK.out _ _ ⟨rfl, ⟨R, H.out⟩, Fr.refl _ _⟩
end Go.Proofs.Qxb6500353aGreat
