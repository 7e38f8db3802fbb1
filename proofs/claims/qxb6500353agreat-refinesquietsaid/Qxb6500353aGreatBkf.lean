/- The encoder: tokens, walked. -/
import Derived.Test.Qxb6500353aGreatBks
import Derived.Test.Qxb6500353aGreatBke
namespace Go.Proofs.Qxb6500353aGreat
open Go.RowKit
set_option linter.unusedVariables false
set_option linter.unusedSimpArgs false

theorem tokPuts_bits (la lb : List Nat) (t : Tok) : putBits (tokPuts la lb t) = if t.len = 0 then len la t.lit else len la (254 + t.len) + len lb (distCode t.dist) + (distBase (distCode t.dist)).2 := by
  unfold tokPuts
  by_cases h : t.len = 0
  · rw [if_pos h, if_pos h]; simp [putBits]
  · rw [if_neg h, if_neg h]; simp [putBits]; omega
set_option maxRecDepth 100000 in
set_option maxHeartbeats 4000000 in
theorem tokens_any {w : World} {t a b z p : Nat} {T : Tp} {RA RB : CdR} {RZ : MtR} {R : PkR} (h : Enc w t a b z p T RA RB RZ R) {la lb : List Nat} {ts : List Tok} (hS : Sets la lb ts) (hF : Fetched la lb (countsF ts) R.code R.wide 273) (hok : ∀ t ∈ ts, TokOK t) (hn : ts.length ≤ 256)
    {g cap : Nat} (ht : Cel mkV w g 0 (ts.length * 3) (tokF ts)) (hgd : ¬ Rng t (p + 5) g) (hf : T.n + putBits (bodyPuts la lb ts) ≤ 4096) :
    Calls Tryz.prog 127 #[ptrV p, .slice (some ⟨g, 0, none⟩) ts.length cap] w fun e w' => e = .returned (.tuple #[]) ∧ Enc w' t a b z p (puts T (bodyPuts la lb ts)) RA RB RZ R ∧ Fr (Rng t (p + 5)) w w' := by
  have HSY := hid (fun (w2 : World) (T2 : Tp) (s : Nat) (h2 : Enc w2 t a b z p T2 RA RB RZ R) (hs : s < 273) (hc : 0 < countsF ts s) (hfit : T2.n + wideOf la lb s ≤ 4096) => by
    have hfe := hF s hs hc
    have hl : codeOf la lb s < 2 ^ wideOf la lb s ∧ wideOf la lb s ≤ 10 := by
      unfold codeOf wideOf
      by_cases e : s < 265
      · rw [if_pos e, if_pos e]; exact ⟨code_lt _ _, (code10 hS.a s).2⟩
      · rw [if_neg e, if_neg e]; exact ⟨code_lt _ _, (code10 hS.b _).2⟩
    exact sym_any h2 hs hfe.1 hfe.2 hl.1 hl.2 hfit)
  have H := hid h
  have HT := hid ht
  have HGD := hid hgd
  have HOK := hid hok
  have HS := hid hS
  have HFT := hid hf
  obtain ⟨n, hnl⟩ : ∃ n, n = ts.length := ⟨_, rfl⟩
  rw [← hnl] at hn ⊢
  have hni : (n : Int) ≤ 256 := by omega
  have HNL := hid hnl
  unfold ptrV at HSY
  clear h ht hgd hok hS hf hnl hn hF
  refine calls_via fun K hK => ?_
  unfold ptrV
  go_enter Tryz.func127, Tryz.ntmps127
  go_wp2_with fail
  go_loopg [4] n (fun g0 v wr => ∃ k : Nat, v = .int .i64 (k : Nat) ∧ g0 + k = n ∧ Enc wr t a b z p (puts T ((ts.take k).flatMap (tokPuts la lb))) RA RB RZ R ∧ Fr (Rng t (p + 5)) w wr)
  case atStart => exact ⟨0, rfl, by omega, H.out, Fr.refl _ _⟩
  case round =>
    obtain ⟨k, rfl, hg, hA, hfr⟩ := hrel
    have HG := hid hg
    by_cases hk : k < n
    · have hki : (k : Int) < n := by omega
      have hkl : k < ts.length := by rw [← HNL.out]; exact hk
      have hT := HT.out.fr hfr HGD.out
      have htok := tokF_at (List.getElem?_eq_getElem hkl)
      have hmem := List.getElem_mem hkl
      have hok1 := HOK.out _ hmem
      have hcnt := cntF_tok ts cnt0 _ hmem
      have x0 := hT.at0 (k * 3) (by omega)
      have x1 := hT.at0 (k * 3 + 1) (by omega)
      have x2 := hT.at0 (k * 3 + 2) (by omega)
      simp only [mkV] at x0 x1 x2
      rw [htok.1] at x0
      rw [htok.2.1] at x1
      rw [htok.2.2] at x2
      simp only [mkN] at x0 x1 x2
      have hnx : puts T ((ts.take (k + 1)).flatMap (tokPuts la lb)) = puts (puts T ((ts.take k).flatMap (tokPuts la lb))) (tokPuts la lb (ts[k]'hkl)) := by
        rw [List.take_add_one, List.getElem?_eq_getElem hkl, List.flatMap_append, puts_append]
        simp
      have hroom : (puts T ((ts.take k).flatMap (tokPuts la lb))).n + putBits (tokPuts la lb (ts[k]'hkl)) ≤ 4096 := by
        have h5 := HFT.out
        have e : ts = ts.take k ++ ((ts[k]'hkl) :: ts.drop (k + 1)) := by simp
        unfold bodyPuts at h5
        rw [e, List.flatMap_append, List.flatMap_cons, putBits_append, putBits_append, putBits_append] at h5
        rw [puts_eq]; dsimp only; omega
      rw [tokPuts_bits] at hroom
      obtain ⟨tk, htt⟩ : ∃ tk, tk = ts[k]'hkl := ⟨_, rfl⟩
      rw [← htt] at x0 x1 x2 hok1 hcnt hnx hroom
      obtain ⟨T1, hT1⟩ : ∃ T1, T1 = puts T ((ts.take k).flatMap (tokPuts la lb)) := ⟨_, rfl⟩
      rw [← hT1] at hA hnx hroom
      have HA := hid hA
      have HF := hid hfr
      have HNX := hid hnx
      rcases hok1 with ⟨hl0, hlit⟩ | ⟨h3, h10, d1, d16⟩
      · rw [hl0] at x0
        rw [if_pos hl0] at hcnt hroom
        have hps : tokPuts la lb tk = [(code la tk.lit, len la tk.lit)] := by unfold tokPuts; rw [if_pos hl0]
        obtain ⟨x, hx⟩ : ∃ x, x = tk.lit := ⟨_, rfl⟩
        rw [← hx] at x2 hlit hcnt hroom hps
        have hxi : (x : Int) < 256 := by omega
        have ew : wideOf la lb x = len la x := by unfold wideOf; rw [if_pos (by omega)]
        have ec : codeOf la lb x = code la x := by unfold codeOf; rw [if_pos (by omega)]
        have hy := HSY.out wr T1 x hA (by omega) hcnt (by rw [ew]; exact hroom)
        rw [ew, ec] at hy
        have HY := hid hy
        rw [hps] at hnx
        have HNX := hid hnx
        clear hA hfr hT htok hmem hcnt x1 hnx hroom htt hT1 hx hl0 hps ew ec hy hg hk hkl
        go_wp2_with (go_at_call 158; refine HY.out.mono ?_; rintro e w2 ⟨rfl, h2, hf2⟩; have H2 := hid h2; have HF2 := hid hf2; clear h2 hf2)
        go_roundg (gk - 1)
        case measure => have := HG.out; omega
        case rel => exact ⟨k + 1, by simp, by have := HG.out; omega, by rw [HNX.out]; exact H2.out, HF.out.trans HF2.out⟩
      · have hl0 : ¬ tk.len = 0 := by omega
        rw [if_neg hl0] at hcnt hroom
        have hps : tokPuts la lb tk = [(code la (254 + tk.len), len la (254 + tk.len)), (code lb (distCode tk.dist), len lb (distCode tk.dist)), (tk.dist - (distBase (distCode tk.dist)).1, (distBase (distCode tk.dist)).2)] := by unfold tokPuts; rw [if_neg hl0]
        obtain ⟨ln, hln⟩ : ∃ x, x = tk.len := ⟨_, rfl⟩
        obtain ⟨d, hd⟩ : ∃ x, x = tk.dist := ⟨_, rfl⟩
        rw [← hln] at x0 h3 h10 hcnt hroom hps
        rw [← hd] at x1 d1 d16 hcnt hroom hps
        obtain ⟨f1, f2, f3, f4⟩ := dist_fits d1 d16
        have HDC := hid (fun w => distCode_any (w := w) d1 d16)
        have HLS := hid (fun w => lenSym_any (w := w) (n := ln) (by omega))
        have HDB := hid (fun w => distBase_any (w := w) f1)
        obtain ⟨c, hc⟩ : ∃ c, c = distCode d := ⟨_, rfl⟩
        rw [← hc] at f1 f2 f3 f4 HDC HDB hcnt hroom hps
        obtain ⟨bs, hbs⟩ : ∃ x, x = (distBase c).1 := ⟨_, rfl⟩
        obtain ⟨mr, hmr⟩ : ∃ x, x = (distBase c).2 := ⟨_, rfl⟩
        rw [← hbs] at f2 f3 HDB hps
        rw [← hmr] at f3 f4 HDB hroom hps
        obtain ⟨s1, hs1⟩ : ∃ s1, s1 = 254 + ln := ⟨_, rfl⟩
        rw [← hs1] at HLS hcnt hroom hps
        have hs1l : s1 < 265 := by omega
        have hs1i : (s1 : Int) < 265 := by omega
        have hci : (c : Int) < 8 := by omega
        have hmi : (mr : Int) ≤ 2 := by omega
        have hdi : (d : Int) ≤ 16 := by omega
        have hbi : (bs : Int) ≤ d := by omega
        have hlni : ((ln : Int) == 0) = false := by simp; omega
        have ew1 : wideOf la lb s1 = len la s1 := by unfold wideOf; rw [if_pos hs1l]
        have ec1 : codeOf la lb s1 = code la s1 := by unfold codeOf; rw [if_pos hs1l]
        have ew2 : wideOf la lb (265 + c) = len lb c := by unfold wideOf; rw [if_neg (by omega), Nat.add_sub_cancel_left]
        have ec2 : codeOf la lb (265 + c) = code lb c := by unfold codeOf; rw [if_neg (by omega), Nat.add_sub_cancel_left]
        have hy1 := HSY.out wr T1 s1 hA (by omega) hcnt.1 (by rw [ew1]; omega)
        rw [ew1, ec1] at hy1
        have HY1 := hid hy1
        have HY2 := hid (fun w2 (h2 : Enc w2 t a b z p (T1.put (code la s1) (len la s1)) RA RB RZ R) => by
          have hy2 := HSY.out w2 _ (265 + c) h2 (by omega) hcnt.2 (by rw [ew2]; show T1.n + len la s1 + len lb c ≤ 4096; omega)
          rw [ew2, ec2] at hy2; exact hy2)
        have HY3 := hid (fun w2 (h2 : Enc w2 t a b z p ((T1.put (code la s1) (len la s1)).put (code lb c) (len lb c)) RA RB RZ R) =>
          h2.put (v := d - bs) (k := mr) mr rfl (by omega) f3 (by show T1.n + len la s1 + len lb c + mr ≤ 4096; omega))
        have edb : ((d - bs : Nat) : Int) = (d : Int) - bs := by omega
        rw [edb] at HY3
        rw [hps] at hnx
        have HNX := hid hnx
        have HZ : Hid (mr = 0 → d - bs = 0) := hid (by intro e; rw [e] at f3; simpa using f3)
        have hgt : ¬ g = t := fun e => HGD.out (by rw [e]; have := HA.out.l1; have := HA.out.l2; have := HA.out.l3; have := HA.out.l4; exact ⟨Nat.le_refl _, by omega⟩)
        have HTK := hid (fun w2 (hf2 : Fr (Rng t (p + 5)) w w2) => by
          have hT := (HT.out.fr hf2 HGD.out).at0 (k * 3 + 1) (by omega)
          have htok := tokF_at (List.getElem?_eq_getElem hkl)
          simp only [mkV] at hT
          rw [htok.2.1, ← htt, ← hd] at hT
          simp only [mkN] at hT
          exact hT)
        clear hA hfr hT htok hmem hcnt x2 hnx hroom htt hT1 hln hd hl0 hps ew1 ec1 ew2 ec2 hy1 hg hk hc hbs hmr hs1 f1 f2 f3 f4 d1 d16 h3 h10 edb
        go_wp2_with fail
        refine (HLS.out _).mono ?_
        rintro e w' ⟨rfl, hw⟩
        have hw2 := hw.symm; subst hw2; clear hw
        go_wp2_with fail
        refine HY1.out.mono ?_
        rintro e w2 ⟨rfl, h2, hf2⟩
        have H2 := hid h2
        have HF2 := hid (HF.out.trans hf2)
        have x12 := HTK.out w2 HF2.out
        clear h2 hf2
        go_wp2_with fail
        refine (HDC.out _).mono ?_
        rintro e w' ⟨rfl, hw⟩
        have hw2 := hw.symm; subst hw2; clear hw
        go_wp2_with fail
        refine (HY2.out _ H2.out).mono ?_
        rintro e w3 ⟨rfl, h3, hf3⟩
        have H3 := hid h3
        have HF3 := hid (HF2.out.trans hf3)
        have c3 := h3.ptr
        clear h3 hf3
        go_wp2_with fail
        refine (HDB.out _).mono ?_
        rintro e w' ⟨rfl, hw⟩
        have hw2 := hw.symm; subst hw2; clear hw
        by_cases hm0 : 0 < mr
        · have hm0i : (0 : Int) < mr := by omega
          go_wp2_with fail
          refine (HY3.out _ H3.out).mono ?_
          rintro e w4 ⟨rfl, h4, hf4⟩
          have H4 := hid h4
          have HF4 := hid (HF3.out.trans hf4)
          clear h4 hf4
          go_wp2_with fail
          go_roundg (gk - 1)
          case measure => have := HG.out; omega
          case rel => exact ⟨k + 1, by simp, by have := HG.out; omega, by rw [HNX.out]; exact H4.out, HF4.out⟩
        · have hm0i : ¬ (0 : Int) < mr := by omega
          have hmz : mr = 0 := by omega
          go_wp2_with fail
          go_roundg (gk - 1)
          case measure => have := HG.out; omega
          case rel =>
            refine ⟨k + 1, by simp, by have := HG.out; omega, ?_, HF3.out⟩
            rw [HNX.out, hmz, HZ.out hmz]
            show Enc w3 t a b z p (((T1.put (code la s1) (len la s1)).put (code lb c) (len lb c)).put 0 0) RA RB RZ R
            rw [put_nil]; exact H3.out
    · have hki : ¬ (k : Int) < n := by omega
      have hkn : k = n := by omega
      subst hkn
      have e : ts.take k = ts := by rw [HNL.out]; exact List.take_of_length_le (Nat.le_refl _)
      rw [e] at hA
      have ew : wideOf la lb 256 = len la 256 := by unfold wideOf; rw [if_pos (by omega)]
      have ec : codeOf la lb 256 = code la 256 := by unfold codeOf; rw [if_pos (by omega)]
      have hy := HSY.out wr _ 256 hA (by omega) (cnt_eob ts) (by
        rw [ew, puts_eq]; dsimp only
        have h5 := HFT.out
        unfold bodyPuts at h5
        rw [putBits_append] at h5
        simp [putBits] at h5 ⊢; omega)
      rw [ew, ec] at hy
      have hfin : (puts T (ts.flatMap (tokPuts la lb))).put (code la 256) (len la 256) = puts T (bodyPuts la lb ts) := by
        unfold bodyPuts; rw [puts_append]; rfl
      rw [hfin] at hy
      have HY := hid hy
      have HF := hid hfr
      clear hA hfr hg e ew ec hy hfin
      go_wp2_with fail
      refine HY.out.mono ?_
      rintro e w2 ⟨rfl, h2, hf2⟩
      have H2 := hid h2
      have HF2 := hid hf2
      clear h2 hf2
      go_wp2_with fail
      go_end0
      exact hK.out _ _ ⟨rfl, H2.out, HF.out.trans HF2.out⟩
end Go.Proofs.Qxb6500353aGreat
