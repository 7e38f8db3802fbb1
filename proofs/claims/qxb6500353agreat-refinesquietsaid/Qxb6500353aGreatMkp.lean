/- The model's encoder: Pack, walked. -/
import Derived.Test.Qxb6500353aGreatMkf
import Derived.Test.Qxb6500353aGreatMlp
namespace Go.Proofs.Qxb6500353aGreat
open Go.RowKit
set_option linter.unusedVariables false
set_option linter.unusedSimpArgs false

theorem ownN_ofArr {w : World} {g base n : Nat} {l : List Nat} (hl : l.length = n) (a : Arr 3 mkN w g n (len l)) (hb : base ≤ g) (hn : n ≤ 1000) : OwnN w base (some ⟨g, 0, none⟩) n n l := by
  obtain ⟨cur, hg, hs, hc⟩ := a
  refine ⟨⟨by simp [hl], .inr ⟨g, n, cur, rfl, hb, hg, Nat.le_refl _, by unfold maxLen; omega, by omega, ?_⟩⟩, hl⟩
  apply List.ext_getElem?
  intro i
  rw [List.getElem?_take, Array.getElem?_toList]
  by_cases h : i < n
  · rw [if_pos (by omega), hc i h, List.getElem?_map, List.getElem?_eq_getElem (by omega)]
    unfold len; rw [List.getD_eq_getElem?_getD, List.getElem?_eq_getElem (by omega)]; rfl
  · rw [if_neg (by omega), List.getElem?_eq_none (by simp; omega)]
theorem ownN_cel {w : World} {base n cap : Nat} {ad : Option Addr} {l : List Nat} (h : OwnN w base ad n cap l) (hn : 0 < n) : ∃ g, ad = some ⟨g, 0, none⟩ ∧ Cel mkN w g 0 n (len l) ∧ base ≤ g ∧ g < w.heap.size ∧ n ≤ cap := by
  rcases h.own.2 with ⟨e, e2⟩ | ⟨g, cap2, cur, e, hb, hg, hle, rest⟩
  · omega
  · simp only [Value.slice.injEq] at e
    refine ⟨g, e.1, fun i hi => ?_, hb, (Array.getElem?_eq_some_iff.1 hg).1, by omega⟩
    obtain ⟨g2, e2, c⟩ := h.at i hi
    rw [e.1] at e2
    simp only [Option.some.injEq, Addr.mk.injEq, and_true] at e2
    subst e2
    rw [Nat.zero_add]; exact c
set_option maxRecDepth 100000 in
set_option maxHeartbeats 8000000 in
theorem mpack_any {w : World} {p : Nat} (h : PkM w p) {s : ByteArray} (hs : s.size ≤ 256) {lv : Nat} (hlv : lv ≤ 2) :
    Calls Tryz.prog 48 #[ptrV p, .string s, .int .i64 lv] w fun e w' => e = .returned (.tuple #[.string (strN (packF (bytesOf s) lv)), .int .i64 0]) ∧ Fr Nob w w' := by
  obtain ⟨⟨zM, c0⟩, ⟨hM, c1⟩⟩ := h
  have C1 := hid c1
  have hsi : (s.size : Int) ≤ 256 := by omega
  have hlvi : (lv : Int) ≤ 2 := by omega
  have HPR := hid (mparse_any (w := w) (p := .pointer (some ⟨zM, 0, none⟩)) hs hlv)
  have hb := bytesOf_lt s
  have hln := bytesOf_len s
  have hok := parse_ok (bytesOf s) hb lv
  have hlen := tokRun_len (bytesOf s) _ 0 (parse_run (bytesOf s) lv _ 0 rfl (Nat.zero_le _))
  have hkb := kind_best s.size (parseP (bytesOf s) lv 0)
  have hkl := kindF_le s.size (parseP (bytesOf s) lv 0)
  have hpk : packF (bytesOf s) lv = (emitK (kindF s.size (parseP (bytesOf s) lv 0)) (bytesOf s) (parseP (bytesOf s) lv 0)).text := by rw [← hln]; rfl
  rw [hpk]
  obtain ⟨ts, hts⟩ : ∃ ts, ts = parseP (bytesOf s) lv 0 := ⟨_, rfl⟩
  rw [← hts] at hok hlen hkb hkl HPR ⊢
  rw [hln] at hlen
  obtain ⟨kd, hkd⟩ : ∃ k, k = kindF s.size ts := ⟨_, rfl⟩
  rw [← hkd] at hkb hkl ⊢
  have hcb := fun h0 => coded_bits (kind := kd) (n := s.size) (ts := ts) h0 hkl hok
  obtain ⟨n, hn⟩ : ∃ n, n = ts.length := ⟨_, rfl⟩
  have hn256 : n ≤ 256 := by omega
  have hni : (n : Int) ≤ 256 := by omega
  have hkdi : (kd : Int) ≤ 2 := by omega
  rw [← hn] at HPR
  have HOK := hid hok
  have HNL := hid hn
  have HKB := hid (And.intro hkb (And.intro hkl hcb))
  have HKD := hid hkd
  have HN2 := hid hn256
  clear hb hln hok hlen hkb hkl hpk hts hcb hkd hn hn256 c1
  refine calls_via fun K hK => ?_
  unfold ptrV
  go_enter Tryz.func48, Tryz.ntmps48
  go_wp2_with fail
  refine HPR.out.mono ?_
  rintro e w1 ⟨N, hN, rfl, hcel, hf1⟩
  have hNl := hcel.lt
  have HN := hid hNl
  have HCEL := hid hcel.cel
  have HF1 := hid hf1
  have hct := counts_any (w := w1) (g := N) (cap := n) (ts := ts) rfl (by rw [← HNL.out]; exact hcel.cel) hNl HOK.out (by rw [← HNL.out]; exact HN2.out)
  rw [← HNL.out] at hct
  have HCT := hid hct
  clear hcel hN hf1 hct hNl c0
  go_wp2_with fail
  refine HCT.out.mono ?_
  rintro e w2 ⟨rfl, hca, hf2⟩
  obtain ⟨N2, hN2⟩ : ∃ N, N = w1.heap.size := ⟨_, rfl⟩
  rw [← hN2] at hca ⊢
  obtain ⟨N3, hN3⟩ : ∃ N, w2.heap.size = N := ⟨_, rfl⟩
  have c1 := (HF1.out.trans hf2).cell C1.out (fun x => x)
  have hN23 : N2 < N3 := by rw [← hN3]; exact hca.lt
  have hbA : ∀ i, i < 265 → len (cntA ts) i ≤ 600 := fun i hi => by rw [cntA_len hi]; have := countsF_le ts i; have := HN2.out; have := HNL.out; omega
  have hbB : ∀ i, i < 8 → len (cntB ts) i ≤ 600 := fun i hi => by rw [cntB_len hi]; have := countsF_le ts (265 + i); have := HN2.out; have := HNL.out; omega
  have hcA : Cel mkN w2 N2 0 265 (fun i => len (cntA ts) i) := Cel.congr (fun i hi => hca.cel i (by omega)) fun i hi => (cntA_len hi).symm
  have hcB : Cel mkN w2 N2 265 8 (fun i => len (cntB ts) i) := by
    have h5 := hca.cel.part (k := 265) (m := 8) (by omega)
    exact Cel.congr (by simpa using h5) fun i hi => (cntB_len hi).symm
  have HPA := hid (fun wx (hf : Fr Nob w2 wx) (hs : wx.heap.size = N3) => mplan_any (w := wx) (h := .pointer (some ⟨hM, 0, none⟩)) (ccap := 273) hs (hcA.fr hf (fun x => x)) hN23 (by omega) (fun i hi => Nat.le_trans (hbA i hi) (by omega)) (by have := sumTo_bound (fun i => len (cntA ts) i) 600 265 (fun i hi => hbA i hi); omega))
  have HPB := hid (fun wx NX (hf : Fr Nob w2 wx) (hs : wx.heap.size = NX) (hx : N2 < NX) => mplan_any (w := wx) (h := .pointer (some ⟨hM, 0, none⟩)) (ccap := 8) hs (hcB.fr hf (fun x => x)) hx (by omega) (fun i hi => Nat.le_trans (hbB i hi) (by omega)) (by have := sumTo_bound (fun i => len (cntB ts) i) 600 8 (fun i hi => hbB i hi); omega))
  have HCC := hid hca.cel
  have HF2 := hid (HF1.out.trans hf2)
  have HG2 := hid hf2
  have HNX := hid (And.intro hN23 hN2)
  have C12 := hid c1
  clear hca hf2 hN23 hbA hbB hcA hcB hN2
  go_upto_region 9 with fail
  go_cut [11, 12] (fun lv ev wx => lv = .slice (some ⟨N3, 0, none⟩) 265 265 ∧ Arr 3 mkN wx N3 265 (planF (fun i => len (cntA ts) i) 265) ∧ Fr Nob w2 wx)
  case first =>
    go_region_with (go_at_call 65; refine (HPA.out _ (by first | exact Fr.refl _ _ | exact (Fr.refl _ _).drew | exact Fr.of_drewN) (by first | exact hN3 | simpa using hN3)).mono ?_; rintro e w3 ⟨rfl, ha3, hf3⟩)
    all_goals (have HX := hid (And.intro ha3 hf3); clear ha3 hf3; go_wp2_with fail; go_meet; exact ⟨rfl, HX.out.1, by first | exact HX.out.2 | exact Fr.trans ((Fr.refl Nob w2).drew) HX.out.2 | exact Fr.trans (Fr.of_drewN (S := Nob)) HX.out.2⟩)
  case rest =>
  obtain ⟨rfl, ha3, hf3⟩ := hcut
  obtain ⟨w3, rfl⟩ : ∃ w3, w3 = wc := ⟨_, rfl⟩
  obtain ⟨N4, hN4⟩ : ∃ N, w3.heap.size = N := ⟨_, rfl⟩
  have hN34 : N3 < N4 := by rw [← hN4]; exact ha3.lt
  have hPB := HPB.out w3 N4 hf3 hN4 (Nat.lt_trans HNX.out.1 hN34)
  have HPB2 := hid (fun wx (hf : Fr Nob w3 wx) (hs : wx.heap.size = N4) => HPB.out wx N4 (hf3.trans hf) hs (Nat.lt_trans HNX.out.1 hN34))
  have d1 := hf3.cell C12.out (fun x => x)
  have HA3 := hid ha3
  have HF3 := hid hf3
  have HN34 := hid hN34
  have HN3 := hid hN3
  clear c1 ha3 hf3 hN34 hPB hN3
  go_upto_region 10 with fail
  go_cut [13, 14] (fun lv ev wx => lv = .slice (some ⟨N4, 0, none⟩) 8 8 ∧ Arr 3 mkN wx N4 8 (planF (fun i => len (cntB ts) i) 8) ∧ Fr Nob w3 wx)
  case first =>
    go_region_with (go_at_call 65; refine (HPB2.out _ (by first | exact Fr.refl _ _ | exact (Fr.refl _ _).drew | exact Fr.of_drewN) (by first | exact hN4 | simpa using hN4)).mono ?_; rintro e w4 ⟨rfl, ha4, hf4⟩)
    all_goals (have HX := hid (And.intro ha4 hf4); clear ha4 hf4; go_wp2_with fail; go_meet; exact ⟨rfl, HX.out.1, by first | exact HX.out.2 | exact Fr.trans ((Fr.refl Nob w3).drew) HX.out.2 | exact Fr.trans (Fr.of_drewN (S := Nob)) HX.out.2⟩)
  case rest =>
  obtain ⟨rfl, ha4, hf4⟩ := hcut
  obtain ⟨w4, rfl⟩ : ∃ w4, w4 = wc := ⟨_, rfl⟩
  have hla : Arr 3 mkN w4 N3 265 (len (lensA ts)) := (HA3.out.fr hf4 (fun x => x)).congr fun i hi => by rw [lensA, planL_len (by rw [cntA_length]; exact hi), cntA_length]
  have hlb : Arr 3 mkN w4 N4 8 (len (lensB ts)) := ha4.congr fun i hi => by rw [lensB, planL_len (by rw [cntB_length]; exact hi), cntB_length]
  have hF4 := HF2.out.trans (HF3.out.trans hf4)
  have hG4 := HF3.out.trans hf4
  have hN32 : w2.heap.size = N3 ∨ N3 ≥ N3 := .inr (Nat.le_refl _)
  have HLA := hid (ownN_ofArr (lensA_length ts) hla (Nat.le_refl _) (by omega))
  have HLB := hid hlb.cel
  have HF4 := hid hF4
  have HG4 := hid hG4
  have hwN3 : N3 ≤ w4.heap.size := Nat.le_of_lt hla.lt
  have HWN := hid hwN3
  clear d1 ha4 hf4 hla hlb hF4 hG4 hN32 hwN3 hN4
  go_wp2_with (at_builtin; refine wp_appN rfl _ _ rfl N3 (some ⟨N3, 0, none⟩) 265 265 (lensA ts) (lensB ts) rfl HLA.out N4 0 8 8 rfl (lensB_length ts) (fun i hi => HLB.out i hi) (by omega) HWN.out ?_; intro adL cpL w5 ho5 hf5 hob5; have HO5 := hid ho5; have HF5 := hid hf5; clear ho5 hf5 hob5)
  obtain ⟨gL, rfl, hcL, hgL, hgL2, hcap⟩ := ownN_cel HO5.out (by omega)
  have ne : ∀ x, x ≠ N3 → ¬ Obs (some ⟨N3, 0, none⟩) x := fun x hx q => hx (by unfold Obs obk at q; simp at q; exact q.symm)
  have hf5 : Fr Nob w w5 := HF4.out.trans2 HF5.out fun x hx hl => by
    have h1 := HF2.out.size
    have h2 := HN3.out
    by_cases e : x = N3
    · omega
    · exact (ne x e hx).elim
  have hcc5 := (HCC.out.fr HG4.out (fun x => x)).fr HF5.out (ne _ (by have := HNX.out.1; omega))
  have hck5 := ((HCEL.out.fr HG2.out (fun x => x)).fr HG4.out (fun x => x)).fr HF5.out (ne _ (by have := HNX.out; have := HN.out; omega))
  have hNw5 : N < w5.heap.size := Nat.lt_of_lt_of_le HN.out (Nat.le_trans HG2.out.size (Nat.le_trans HG4.out.size HF5.out.size))
  have HCL := hid (And.intro hcL (And.intro hgL2 hcap))
  have HCC5 := hid hcc5
  have HCK5 := hid hck5
  have HNW5 := hid hNw5
  have HW5 := hid hf5
  clear hcL hgL hgL2 hcap ne hf5 hcc5 hck5 hNw5
  refine (fixedLens_any (w := w5) rfl).mono ?_
  rintro e w6 ⟨rfl, ha6, hs6, hf6⟩
  obtain ⟨N6, hN6⟩ : ∃ N, N = w5.heap.size := ⟨_, rfl⟩
  rw [← hN6] at ha6 hs6 ⊢
  have hfx := mbits_any (w := w6) (kind := 1) (n := s.size) (cg := N2) (co := 0) (ccap := 273) (lg := N6) (lo := 0) (lcap := 273) (c := countsF ts) (l := fixL) (.inl rfl) (HCC5.out.fr hf6 (fun x => x)) ha6.cel ha6.lt (by unfold fixL; rw [List.length_append, fixA_length, fixB_length]) (fun i hi => by have := countsF_le ts i; have := HN2.out; have := HNL.out; omega) (fun i => by unfold fixL; exact lens_le fixA_ok fixB_ok i)
  have efx : 3 + (if (1 : Nat) = 2 then itemBits (itP fixL 0) else 0) + bodyBits (countsF ts) (len fixL) = bitsFix ts := by unfold bitsFix; rw [if_neg (by decide)]
  rw [efx] at hfx
  have HFX := hid hfx
  have HA6 := hid ha6.cel
  have HL6 := hid ha6.lt
  have HF6 := hid hf6
  clear ha6 hs6 hN6 hf6 hfx efx
  go_wp2_with fail
  refine (mbits_sto (n := s.size) (by omega)).mono ?_
  rintro e w' ⟨rfl, hw⟩
  have hw2 := hw.symm; subst hw2; clear hw
  obtain ⟨st, hst⟩ : ∃ z, z = bitsSto s.size := ⟨_, rfl⟩
  rw [← hst]
  have HST := hid hst
  clear hst
  go_wp2_with fail
  refine HFX.out.mono ?_
  rintro e w7 ⟨rfl, hf7⟩
  obtain ⟨fx, hfx⟩ : ∃ z, z = bitsFix ts := ⟨_, rfl⟩
  rw [← hfx]
  have HFZ := hid hfx
  clear hfx
  have hdy := mbits_any (w := w7) (kind := 2) (n := s.size) (cg := N2) (co := 0) (ccap := 273) (lg := gL) (lo := 0) (lcap := cpL) (c := countsF ts) (l := dynL ts) (.inr rfl) ((HCC5.out.fr HF6.out (fun x => x)).fr hf7 (fun x => x)) ((HCL.out.1.fr HF6.out (fun x => x)).fr hf7 (fun x => x)) (Nat.lt_of_lt_of_le HCL.out.2.1 (Nat.le_trans HF6.out.size hf7.size)) (by unfold dynL; rw [List.length_append, lensA_length, lensB_length]) (fun i hi => by have := countsF_le ts i; have := HN2.out; have := HNL.out; omega) (fun i => by unfold dynL; exact lens_le (lensA_ok ts).1 (lensB_ok ts).1 i)
  have edy : 3 + (if (2 : Nat) = 2 then itemBits (itP (dynL ts) 0) else 0) + bodyBits (countsF ts) (len (dynL ts)) = bitsDyn ts := by unfold bitsDyn; rw [if_pos rfl]
  rw [edy] at hdy
  have HDY := hid hdy
  have HF7 := hid hf7
  clear hdy edy hf7
  go_wp2_with fail
  refine HDY.out.mono ?_
  rintro e w8 ⟨rfl, hf8⟩
  obtain ⟨dy, hdy⟩ : ∃ z, z = bitsDyn ts := ⟨_, rfl⟩
  rw [← hdy]
  have hch := mchoose_any (w := w8) (st := st) (fx := fx) (dy := dy)
  have ekd : chooseF st fx dy = kd := by rw [HST.out, HFZ.out, hdy, HKD.out]; rfl
  rw [ekd] at hch
  have HCH := hid hch
  have HF8 := hid ((HF6.out.trans HF7.out).trans hf8)
  have HF68 := hid (HF7.out.trans hf8)
  clear hch ekd hdy hf8
  go_wp2_with fail
  refine HCH.out.mono ?_
  rintro e w' ⟨rfl, hw⟩
  have hw2 := hw.symm; subst hw2; clear hw
  have hroom : ∀ h0 : kd ≠ 0, 3 + putBits (itemsK kd (setA kd ts) (setB kd ts) ++ bodyPuts (setA kd ts) (setB kd ts) ts) ≤ 4096 := fun h0 => by
    have hsum : putBits (headPuts kd (setA kd ts) (setB kd ts) ++ bodyPuts (setA kd ts) (setB kd ts) ts) = 3 + putBits (itemsK kd (setA kd ts) (setB kd ts) ++ bodyPuts (setA kd ts) (setB kd ts) ts) := by
      unfold headPuts itemsK
      rw [List.append_assoc, putBits_append]; rfl
    have hbs : bitsSto s.size ≤ 2072 := by unfold bitsSto; omega
    have := HKB.out.1.1
    have := HKB.out.2.2 h0
    omega
  have HEM := hid (fun (lg lcap : Nat) (h0 : kd ≠ 0) (hl : Cel mkN w8 lg 0 273 (len (setA kd ts ++ setB kd ts))) (hlw : lg < w8.heap.size) (hlc : 273 ≤ lcap) =>
    emit_cod (w := w8) (kd := kd) (g := N) (cap := n) (lg := lg) (lcap := lcap) (s := s) (ts := ts) (la := setA kd ts) (lb := setB kd ts) (by have := HKB.out.2.1; clear hroom; omega) (sets_kind (kind := kd) HOK.out) ⟨fun s hs h => used_A (kind := kd) hs h, fun s hs h => used_B (kind := kd) hs h⟩ (by rw [← HNL.out]; exact HCK5.out.fr HF8.out (fun x => x)) (Nat.lt_of_lt_of_le HNW5.out HF8.out.size) HOK.out (by rw [← HNL.out]; exact HN2.out) hl hlw hlc (hroom h0))
  rw [← HNL.out] at HEM
  have hek : ∀ S, emitK kd S ts = emitF kd S ts (setA kd ts) (setB kd ts) := fun S => rfl
  have HEK := hid hek
  clear hroom hek
  by_cases h2 : kd = 2
  · have h2i : ((kd : Int) == 2) = true := by simp; omega
    have hem := HEM.out gL cpL (by omega) (by rw [h2]; exact HCL.out.1.fr HF8.out (fun x => x)) (Nat.lt_of_lt_of_le HCL.out.2.1 HF8.out.size) HCL.out.2.2
    rw [← HEK.out] at hem
    have HE := hid hem
    clear hem h2
    go_wp2_with fail
    refine HE.out.mono ?_
    rintro e w9 ⟨rfl, hf9⟩
    have HF9 := hid hf9
    clear hf9
    go_wp2_with fail
    exact hK.out _ _ ⟨rfl, (HW5.out.trans HF8.out).trans HF9.out⟩
  · have h2i : ((kd : Int) == 2) = false := by simp; omega
    have hem : Calls Tryz.prog 69 #[.int .i64 kd, .string s, .slice (some ⟨N, 0, none⟩) n n, .slice (some ⟨N6, 0, none⟩) 273 273] w8 fun e w' => e = .returned (.string (strN (emitK kd (bytesOf s) ts).text)) ∧ Fr Nob w8 w' := by
      by_cases h0 : kd = 0
      · rw [h0]; exact emit_sto hs
      · have eA : setA kd ts = fixA := by unfold setA; rw [if_neg h2]
        have eB : setB kd ts = fixB := by unfold setB; rw [if_neg h2]
        have := HEM.out N6 273 h0 (by rw [eA, eB]; exact HA6.out.fr HF68.out (fun x => x)) (Nat.lt_of_lt_of_le HL6.out HF68.out.size) (Nat.le_refl _)
        rw [← HEK.out] at this
        exact this
    have HE := hid hem
    clear hem h2
    go_wp2_with fail
    refine HE.out.mono ?_
    rintro e w9 ⟨rfl, hf9⟩
    have HF9 := hid hf9
    clear hf9
    go_wp2_with fail
    exact hK.out _ _ ⟨rfl, (HW5.out.trans HF8.out).trans HF9.out⟩
end Go.Proofs.Qxb6500353aGreat
