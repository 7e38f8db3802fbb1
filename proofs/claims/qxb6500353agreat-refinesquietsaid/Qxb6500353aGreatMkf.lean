/- The model's encoder: Emit of coded text, walked. -/
import Derived.Test.Qxb6500353aGreatMkc
import Derived.Test.Qxb6500353aGreatMke
namespace Go.Proofs.Qxb6500353aGreat
open Go.RowKit
set_option linter.unusedVariables false
set_option linter.unusedSimpArgs false

theorem putBits_take {α : Type} (f : α → List (Nat × Nat)) (l : List α) (k : Nat) (hk : k < l.length) : putBits ((l.take k).flatMap f) + putBits (f (l[k]'hk)) ≤ putBits (l.flatMap f) := by
  have e : l = l.take k ++ ((l[k]'hk) :: l.drop (k + 1)) := by simp
  have h : putBits (l.flatMap f) = putBits ((l.take k ++ ((l[k]'hk) :: l.drop (k + 1))).flatMap f) := congrArg (fun z => putBits (z.flatMap f)) e
  rw [h, List.flatMap_append, List.flatMap_cons, putBits_append, putBits_append]; omega
set_option maxRecDepth 100000 in
set_option maxHeartbeats 8000000 in
theorem emit_cod {w : World} {kd g cap lg lcap : Nat} {s : ByteArray} {ts : List Tok} {la lb : List Nat} (hk : kd = 1 ∨ kd = 2) (hS : Sets la lb ts) (hU : (∀ s, s < 265 → 0 < countsF ts s → 0 < len la s) ∧ (∀ s, s < 8 → 0 < countsF ts (265 + s) → 0 < len lb s))
    (ht : Cel mkV w g 0 (ts.length * 3) (tokF ts)) (hgl : g < w.heap.size) (hok : ∀ t ∈ ts, TokOK t) (hn : ts.length ≤ 256) (hl : Cel mkN w lg 0 273 (len (la ++ lb))) (hll : lg < w.heap.size) (hlc : 273 ≤ lcap)
    (hf : 3 + putBits (itemsK kd la lb ++ bodyPuts la lb ts) ≤ 4096) :
    Calls Tryz.prog 69 #[.int .i64 kd, .string s, .slice (some ⟨g, 0, none⟩) ts.length cap, .slice (some ⟨lg, 0, none⟩) 273 lcap] w fun e w' => e = .returned (.string (strN (emitF kd (bytesOf s) ts la lb).text)) ∧ Fr Nob w w' := by
  have hem : emitF kd (bytesOf s) ts la lb = puts (puts (puts Tp.nil [(1, 1), (kd, 2)]) (itemsK kd la lb)) (bodyPuts la lb ts) := by
    unfold emitF itemsK
    rw [if_neg (by omega), puts_append, puts_append]
  rw [hem]
  rw [putBits_append] at hf
  obtain ⟨T3, hT3⟩ : ∃ T, T = puts Tp.nil [(1, 1), (kd, 2)] := ⟨_, rfl⟩
  have hn3 : T3.n = 3 := by rw [hT3]; rfl
  rw [← hT3]
  obtain ⟨T5, hT5⟩ : ∃ T, T = puts T3 (itemsK kd la lb) := ⟨_, rfl⟩
  have hn5 : T5.n = 3 + putBits (itemsK kd la lb) := by rw [hT5, puts_eq]; dsimp only; rw [hn3]
  rw [← hT5]
  have HN3 := hid hn3
  have HT3 := hid hT3
  have HT5 := hid hT5
  have HN5 := hid hn5
  clear hT3 hn3 hT5 hn5
  obtain ⟨n, hnl⟩ : ∃ n, n = ts.length := ⟨_, rfl⟩
  rw [← hnl] at hn ht ⊢
  have hni : (n : Int) ≤ 256 := by omega
  have HS := hid hS
  have HU := hid hU
  have HT := hid ht
  have HGL := hid hgl
  have HOK := hid hok
  have HNN := hid (And.intro hn hnl)
  have HL := hid hl
  have HLL := hid hll
  have HFT := hid hf
  have hk0 : ((kd : Int) == 0) = false := by rcases hk with e | e <;> subst e <;> rfl
  have HK := hid hk
  clear hem hS hU ht hgl hok hnl hn hl hll hf hk
  refine calls_via fun K hK => ?_
  go_enter Tryz.func69, Tryz.ntmps69
  go_wp2_with fail
  refine (newBm_any w).mono ?_
  rintro e w1 ⟨rfl, h1, hf1, hs1⟩
  obtain ⟨b, hbb⟩ : ∃ b, b = w.heap.size := ⟨_, rfl⟩
  unfold ptrV
  rw [← hbb] at h1 ⊢
  have HM1 := hid h1
  have HF1 := hid hf1
  have HBB := hid hbb
  have HEND : Hid (∀ {w2 : World} {T : Tp}, EmS b w1 none w2 T → Fr Nob w w2) := hid fun ⟨ad, cap, h3, h4⟩ => Gr.nobs HM1.out (by rw [HBB.out]; exact Nat.le_refl _) h4 HF1.out
  have HP1 := hid ((EmS.start h1).put (v := 1) (k := 1) (by omega) (by decide) (by decide))
  clear h1 hf1 hs1 hbb
  go_wp2_with fail
  refine HP1.out.mono ?_
  rintro e w2 ⟨rfl, h2⟩
  have HP2 := hid (h2.put (v := kd) (k := 2) (by omega) (by rcases HK.out with e | e <;> subst e <;> decide) (by decide))
  clear h2
  go_wp2_with fail
  refine HP2.out.mono ?_
  rintro e w3 ⟨rfl, h3⟩
  have e3 : (Tp.nil.put 1 1).put kd 2 = T3 := HT3.out.symm
  rw [e3] at h3
  have H3 := hid h3
  have HLA : Hid (∀ (wx : World) (T : Tp), EmS b w1 none wx T → Cel mkN wx lg 0 273 (len (la ++ lb))) := hid (fun wx T h => h.cel (HL.out.fr HF1.out (fun x => x)) (Apart.old HM1.out (by rw [HBB.out]; exact HLL.out)))
  have HLGX : Hid (lg < w3.heap.size) := hid (Nat.lt_of_lt_of_le HLL.out (HEND.out h3).size)
  clear h3 e3
  go_upto_if 48 with (fail)
  go_cut [] (fun wx => EmS b w1 none wx (puts T3 (itemsK kd la lb)))
  case first =>
    rcases HK.out with e | e
    · subst e
      go_wp2_with fail
      go_meet
      exact H3.out
    · subst e
      have hik : itemsK 2 la lb = (itP (la ++ lb) 0).flatMap itemPuts := rfl
      have h10 := lens_le HS.out.a HS.out.b
      have hmo := itP_more h10
      have hct := itP_count (la ++ lb)
      have hln : (la ++ lb).length = 273 := by rw [List.length_append, HS.out.na, HS.out.nb]
      have hitems := items_any (w := w3) (lg := lg) (lo := 0) (cap := lcap) (l := la ++ lb) rfl (by rw [hln]; exact HLA.out _ _ H3.out) HLGX.out (by omega) h10
      rw [hln] at hitems hct
      have hfit := HFT.out
      rw [hik] at hfit
      obtain ⟨its, hits⟩ : ∃ its, its = itP (la ++ lb) 0 := ⟨_, rfl⟩
      rw [← hits] at hitems hct hmo hfit
      have HIK := hid (hik.trans (by rw [← hits] : _ = its.flatMap itemPuts))
      have hall : its.take its.length = its := List.take_length
      obtain ⟨m, hm⟩ : ∃ m, m = its.length := ⟨_, rfl⟩
      rw [← hm] at hitems hct hall
      obtain ⟨q, hq⟩ : ∃ q, q = 3 * m := ⟨_, rfl⟩
      rw [← hq] at hitems
      have hqi : (q : Int) ≤ 819 := by omega
      have HIT := hid hitems
      have HM := hid hm
      have HMO := hid hmo
      have HALL := hid hall
      have HQ := hid (And.intro hq hct)
      have HFI := hid hfit
      clear hitems hm hmo hall hq hct hits hfit h10 hln hik
      go_wp2_with fail
      refine HIT.out.mono ?_
      rintro e w4 ⟨ad, cp, rfl, hO, hf4⟩
      obtain ⟨ad3, cap3, hm3, hg3⟩ := H3.out
      have hm4 : MTp w4 b ad3 cap3 T3 := hm3.fr hf4 (fun x => x) (fun _ _ x => x)
      have HG4 := hid (hg3.trans (Gr.nob hf4))
      have HO := hid hO
      have HM4 := hid hm4
      have HM3 := hid hm3
      clear hO hf4 hm3 hm4 hg3
      go_wp2_with fail
      go_loopg [12] m (fun g v wr => ∃ k k3 : Nat, v = .int .i64 (k3 : Nat) ∧ k3 = 3 * k ∧ g + k = m ∧ EmS b w4 ad3 wr (puts T3 ((its.take k).flatMap itemPuts)))
      case atStart => exact ⟨0, 0, rfl, rfl, by omega, EmS.start HM4.out⟩
      case round =>
        obtain ⟨k, k3, rfl, hk3, hg, hE⟩ := hrel
        have HG := hid (And.intro hg hk3)
        by_cases hlt : k < m
        · have hki : (k3 : Int) < q := by have := HQ.out.1; omega
          have hk1 : ((k3 : Int) + 1 < q) := by have := HQ.out.1; omega
          have hk2 : ((k3 : Int) + 2 < q) := by have := HQ.out.1; omega
          have hk10 : 0 ≤ (k3 : Int) + 1 := by omega
          have hk20 : 0 ≤ (k3 : Int) + 2 := by omega
          have tk1 : ((k3 : Int) + 1).toNat = k3 + 1 := by omega
          have tk2 : ((k3 : Int) + 2).toNat = k3 + 2 := by omega
          have wk1 : IntKind.i64.wrap ((k3 : Int) + 1) = (k3 : Int) + 1 := wrapI (by omega) (by omega)
          have wk2 : IntKind.i64.wrap ((k3 : Int) + 2) = (k3 : Int) + 2 := wrapI (by omega) (by omega)
          have hkl : k < its.length := by rw [← HM.out]; exact hlt
          have hat := itL_at (List.getElem?_eq_getElem hkl)
          rw [← hk3] at hat
          have hmk := HMO.out _ (List.getElem_mem hkl)
          have hstep := itemPuts_take its k hkl T3
          have hroom := putBits_take itemPuts its k hkl
          have hpb : putBits (itemPuts (its[k]'hkl)) = 4 + (its[k]'hkl).more := by simp [itemPuts, putBits]
          rw [hpb] at hroom
          have hTn : (puts T3 ((its.take k).flatMap itemPuts)).n = 3 + putBits ((its.take k).flatMap itemPuts) := by rw [puts_eq]; dsimp only; rw [HN3.out]
          obtain ⟨ad5, cap5, hm5, hg5⟩ := hE
          obtain ⟨gI, hadr, -, -, -⟩ := (HO.out.gr HM3.out (Nat.le_refl _) hg5).at3 k3 (by omega)
          obtain ⟨it, hit⟩ : ∃ it, it = its[k]'hkl := ⟨_, rfl⟩
          rw [← hit] at hat hmk hstep hroom
          obtain ⟨x, hx⟩ : ∃ x, x = it.x := ⟨_, rfl⟩
          obtain ⟨v, hv⟩ : ∃ x, x = it.v := ⟨_, rfl⟩
          obtain ⟨mo, hmo⟩ : ∃ x, x = it.more := ⟨_, rfl⟩
          rw [← hx] at hat hmk hstep
          rw [← hv] at hat hmk hstep
          rw [← hmo] at hat hmk hstep hroom
          obtain ⟨T4, hT4⟩ : ∃ T, T = puts T3 ((its.take k).flatMap itemPuts) := ⟨_, rfl⟩
          rw [← hT4] at hm5 hstep hTn
          have hCL : ∀ {wx : World} {T : Tp}, EmS b w4 ad3 wx T → wx.cell? ⟨gI, k3, none⟩ = some (.int .i64 (x : Int)) ∧ wx.cell? ⟨gI, k3 + 1, none⟩ = some (.int .i64 (v : Int)) ∧ wx.cell? ⟨gI, k3 + 2, none⟩ = some (.int .i64 (mo : Int)) := by
            intro wx T ⟨adx, capx, hmx, hgx⟩
            obtain ⟨g2, e2, d1, d2, d3⟩ := (HO.out.gr HM3.out (Nat.le_refl _) hgx).at3 k3 (by omega)
            rw [hadr] at e2
            simp only [Option.some.injEq, Addr.mk.injEq, and_true] at e2
            subst e2
            rw [hat.1] at d1; rw [hat.2.1] at d2; rw [hat.2.2] at d3
            exact ⟨d1, d2, d3⟩
          have hE4 : EmS b w4 ad3 wr T4 := ⟨ad5, cap5, hm5, hg5⟩
          have d0 := (hCL hE4).1
          have HCL : Hid (∀ (wx : World) (T : Tp), EmS b w4 ad3 wx T → wx.cell? ⟨gI, k3 + 1, none⟩ = some (.int .i64 (v : Int)) ∧ wx.cell? ⟨gI, k3 + 2, none⟩ = some (.int .i64 (mo : Int))) := hid (fun wx T h => (hCL h).2)
          have hfi := HFI.out
          have HP := hid (hE4.put (v := x) (k := 4) (by omega) (by have : (2 : Nat) ^ 4 = 16 := rfl; omega) (by omega))
          have HPQ := hid (fun (wy : World) (h : EmS b w4 ad3 wy (T4.put x 4)) (wx : World) (hfx : Fr Nob wy wx) => (h.nob hfx).put (v := v) (k := mo) (by omega) hmk.2.1 (by show T4.n + 4 + mo ≤ 4096; omega))
          have HST := hid hstep
          have HLT := hid hlt
          subst hadr
          clear hg hk3 hat hmk hstep hroom hpb hTn hm5 hg5 hit hx hv hmo hT4 hCL hE4 hfi hlt hkl
          go_wp2_with fail
          refine HP.out.mono ?_
          rintro e w5 ⟨rfl, h5⟩
          obtain ⟨d1, d2⟩ := HCL.out _ _ h5
          have HP5 := hid (HPQ.out _ h5)
          clear h5 d0
          go_upto_region 18 with fail
          go_region_with (go_at_call 103; refine (HP5.out _ (by first | exact Fr.refl _ _ | exact (Fr.refl _ _).drew | exact Fr.of_drewN)).mono ?_; rintro e w6 ⟨rfl, h6⟩; have H6 := hid h6; obtain ⟨k1, k2⟩ := HCL.out _ _ h6; clear h6)
          all_goals
            go_wp2_with fail
            go_roundg (gk - 1)
            case measure => have := HG.out; have := HLT.out; omega
            case rel => exact ⟨k + 1, k3 + 3, by simp, by have := HG.out; omega, by have := HG.out; have := HLT.out; omega, by rw [HST.out]; exact H6.out⟩
        · have hki : ¬ (k3 : Int) < q := by have := HQ.out.1; omega
          have hkm : k = m := by omega
          rw [hkm, HALL.out] at hE
          have HE := hid (hE.back HG4.out)
          clear hg hk3 hlt hkm hE
          go_wp2_with fail
          go_meet
          rw [HIK.out]; exact HE.out
  case rest =>
  obtain ⟨w5, rfl⟩ : ∃ w5, w5 = wc := ⟨_, rfl⟩
  rw [← HT5.out] at hcut
  obtain ⟨ad5, cap5, hm5, hg5⟩ := hcut
  have hlw5 := Nat.lt_of_lt_of_le HLL.out (HEND.out ⟨ad5, cap5, hm5, hg5⟩).size
  have hl5 := HLA.out _ _ ⟨ad5, cap5, hm5, hg5⟩
  have HL5 := hid hl5
  have HLW := hid hlw5
  have HM5 := hid hm5
  have HG5 := hid hg5
  clear hm5 hg5 hlw5 hl5
  have hlci : (273 : Int) ≤ lcap := by omega
  have hlc2 : (265 : Int) ≤ lcap := by omega
  have hlc3 : 265 ≤ lcap := by omega
  go_wp2_with fail
  refine (newHm_any w5).mono ?_
  rintro e w6 ⟨rfl, p0, p1, pz, ps, pf⟩
  obtain ⟨a1, ha1⟩ : ∃ a, a = w5.heap.size := ⟨_, rfl⟩
  unfold ptrV
  rw [← ha1] at p0 p1 pz ps ⊢
  have HA1 := hid (And.intro p0 (And.intro p1 (And.intro pz (And.intro ps (And.intro pf ha1)))))
  clear p0 p1 pz ps pf ha1
  go_wp2_with fail
  refine (newHm_any w6).mono ?_
  rintro e w7 ⟨rfl, p0, p1, pz, ps, pf⟩
  rw [HA1.out.2.2.2.1] at p0 p1 pz ps ⊢
  have hx1 : ¬ Nob a1 := fun x => x
  have hb1 := mbuild_any (w := w7) (b := a1) (N := a1 + 2) (lg := lg) (lo := 0) (cap := lcap) (l := la) ps (pf.cell HA1.out.1 hx1) (pf.cell HA1.out.2.1 hx1) (HA1.out.2.2.1.fr pf (by have := HA1.out.2.2.2.1; omega) hx1)
    (by rw [HS.out.na]; exact Cel.congr (fun i hi => ((HL5.out.fr HA1.out.2.2.2.2.1 (fun x => x)).fr pf (fun x => x)) i (by omega)) fun i hi => len_append_left (by rw [HS.out.na]; exact hi)) (by have := HLW.out; have := HA1.out.2.2.2.2.2; omega) (by have := HLW.out; have := HA1.out.2.2.2.2.2; omega) HS.out.a.toFit.le (by rw [HS.out.na]; omega)
  rw [HS.out.na, (buildE_lawful HS.out.a.toFit.le (by rw [HS.out.na]; omega)).2 HS.out.a] at hb1
  unfold ptrV at hb1
  have HB1 := hid hb1
  have HA2 := hid (And.intro p0 (And.intro p1 (And.intro pz (And.intro ps pf))))
  clear p0 p1 pz ps pf hb1
  go_wp2_with fail
  refine HB1.out.mono ?_
  rintro e w8 ⟨rfl, hq8, -, hf8⟩
  obtain ⟨hmc, hs8⟩ := hq8 (by first | rfl | trivial)
  have hx2 : ¬ One a1 (a1 + 1) := fun x => by unfold One at x; omega
  have hb2 := mbuild_any (w := w8) (b := a1 + 1) (N := a1 + 4) (lg := lg) (lo := 265) (cap := lcap - 265) (l := lb) hs8 (hf8.cell HA2.out.1 hx2) (hf8.cell HA2.out.2.1 hx2) (HA2.out.2.2.1.fr hf8 (by have := HA2.out.2.2.2.1; omega) hx2)
    (by rw [HS.out.nb]; exact Cel.congr (((((HL5.out.fr HA1.out.2.2.2.2.1 (fun x => x)).fr HA2.out.2.2.2.2 (fun x => x)).fr hf8 (fun x => by unfold One at x; have := HLW.out; have := HA1.out.2.2.2.2.2; omega)).part (k := 265) (m := 8) (by omega))) fun i hi => by rw [len_append_right HS.out.na (by omega), Nat.add_sub_cancel_left]) (by have := HLW.out; have := HA1.out.2.2.2.2.2; omega) (by have := HLW.out; have := HA1.out.2.2.2.2.2; omega) HS.out.b.toFit.le (by rw [HS.out.nb]; omega)
  rw [HS.out.nb, (buildE_lawful HS.out.b.toFit.le (by rw [HS.out.nb]; omega)).2 HS.out.b] at hb2
  unfold ptrV at hb2
  have HB2 := hid hb2
  have HMC := hid hmc
  have HF8 := hid hf8
  clear hb2 hmc hf8 hs8 hq8
  go_wp2_with fail
  refine HB2.out.mono ?_
  rintro e w9 ⟨rfl, hq9, -, hf9⟩
  obtain ⟨hmc2, hs9⟩ := hq9 (by first | rfl | trivial)
  have e51 := HA1.out.2.2.2.2.2
  have n1 : ∀ x, x ≠ a1 + 1 → ¬ One (a1 + 1) x := fun x h q => h q
  have hmc1 : McR w9 a1 (a1 + 2) (a1 + 2 + 1) la := HMC.out.fr hf9 (n1 _ (by omega)) (n1 _ (by omega)) (n1 _ (by omega))
  have hm6 := HM5.out.fr HA1.out.2.2.2.2.1 (fun x => x) (fun _ _ x => x)
  have hm7 := hm6.fr HA2.out.2.2.2.2 (fun x => x) (fun _ _ x => x)
  have hb5 := HM5.out.lt
  have hm8 := hm7.fr HF8.out (by unfold One; omega) (fun g hg => by have := (HM5.out.own.lt hg).2; unfold One; omega)
  have hm9 := hm8.fr hf9 (by unfold One; omega) (fun g hg => by have := (HM5.out.own.lt hg).2; unfold One; omega)
  have hg6 := HG5.out.trans (Gr.nob HA1.out.2.2.2.2.1 (ad := ad5))
  have hg7 := hg6.trans (Gr.nob HA2.out.2.2.2.2 (ad := ad5))
  have hfr9 : Fr Nob w5 w9 := by
    refine (((HA1.out.2.2.2.2.1).trans HA2.out.2.2.2.2).trans2 HF8.out fun x hx hl => ?_).trans2 hf9 fun x hx hl => ?_
    · unfold One at hx; omega
    · unfold One at hx; omega
  have HG9 := hid (HG5.out.trans (Gr.nob hfr9 (ad := ad5)))
  have hs9' : a1 + 6 ≤ w9.heap.size := by omega
  have ap : ∀ x, w5.heap.size ≤ x → x < a1 + 6 → Apart b ad5 w9 x := fun x h1 h2 => Apart.fresh HM5.out h1 (by omega)
  have HPA := hid (show ApC b ad5 w9 a1 (a1 + 2) (a1 + 2 + 1) from ⟨ap _ (by omega) (by omega), ap _ (by omega) (by omega), ap _ (by omega) (by omega)⟩)
  have HPB := hid (show ApC b ad5 w9 (a1 + 1) (a1 + 4) (a1 + 4 + 1) from ⟨ap _ (by omega) (by omega), ap _ (by omega) (by omega), ap _ (by omega) (by omega)⟩)
  have HCA := hid hmc1
  have HCB := hid hmc2
  have HM9 := hid hm9
  have htk : Cel mkV w9 g 0 (n * 3) (tokF ts) := HT.out.fr ((HEND.out ⟨ad5, cap5, HM5.out, HG5.out⟩).trans hfr9) (fun x => x)
  have HTK := hid htk
  have HPG : Hid (Apart b ad5 w9 g) := hid (Apart.old hm9 (by rw [HBB.out]; exact HGL.out))
  clear e51 n1 hmc1 hm6 hm7 hb5 hm8 hm9 hg6 hg7 hfr9 hs9' ap hmc2 htk hf9 hs9 hq9 hx2 hlci hlc2 hlc3
  have HA := hid (fun (wx : World) (T : Tp) (s : Nat) (h : EmS b w9 ad5 wx T) (hs : 0 < len la s) (hn : T.n + len la s ≤ 4096) => h.puts HCA.out HPA.out (by rw [HS.out.na]; omega) (HS.out.a.toFit.len_le) hs hn)
  have HB := hid (fun (wx : World) (T : Tp) (s : Nat) (h : EmS b w9 ad5 wx T) (hs : 0 < len lb s) (hn : T.n + len lb s ≤ 4096) => h.puts HCB.out HPB.out (by rw [HS.out.nb]; omega) (HS.out.b.toFit.len_le) hs hn)
  go_wp2_with fail
  go_loopg [15] n (fun g0 v wr => ∃ k : Nat, v = .int .i64 (k : Nat) ∧ g0 + k = n ∧ EmS b w9 ad5 wr (puts T5 ((ts.take k).flatMap (tokPuts la lb))))
  case atStart => exact ⟨0, rfl, by omega, EmS.start HM9.out⟩
  case round =>
    obtain ⟨k, rfl, hg, hE⟩ := hrel
    have HG := hid hg
    by_cases hk : k < n
    · have hki : (k : Int) < n := by omega
      have hkl : k < ts.length := by rw [← HNN.out.2]; exact hk
      have hT := hE.cel HTK.out HPG.out
      have htok := tokF_at (List.getElem?_eq_getElem hkl)
      have hmem := List.getElem_mem hkl
      have hok1 := HOK.out _ hmem
      have hcnt := cntF_tok ts cnt0 _ hmem
      have x0 := hT.at0 (k * 3) (by omega)
      have x1 := hT.at0 (k * 3 + 1) (by omega)
      have x2 := hT.at0 (k * 3 + 2) (by omega)
      simp only [mkV] at x0 x1 x2
      rw [htok.1] at x0
      rw [htok.2.1] at x1
      rw [htok.2.2] at x2
      simp only [mkN] at x0 x1 x2
      have hnx := tokPuts_take la lb ts k hkl T5
      have hroom : (puts T5 ((ts.take k).flatMap (tokPuts la lb))).n + putBits (tokPuts la lb (ts[k]'hkl)) ≤ 4096 := by
        have h5 := HFT.out
        have h6 := putBits_take (tokPuts la lb) ts k hkl
        unfold bodyPuts at h5
        rw [putBits_append] at h5
        rw [puts_eq, HN5.out]; dsimp only; omega
      rw [tokPuts_bits] at hroom
      obtain ⟨tk, htt⟩ : ∃ tk, tk = ts[k]'hkl := ⟨_, rfl⟩
      rw [← htt] at x0 x1 x2 hok1 hcnt hnx hroom
      obtain ⟨T1, hT1⟩ : ∃ T1, T1 = puts T5 ((ts.take k).flatMap (tokPuts la lb)) := ⟨_, rfl⟩
      rw [← hT1] at hE hnx hroom
      rcases hok1 with ⟨hl0, hlit⟩ | ⟨h3, h10, d1, d16⟩
      · rw [hl0] at x0
        rw [if_pos hl0] at hcnt hroom
        have hps : tokPuts la lb tk = [(code la tk.lit, len la tk.lit)] := by unfold tokPuts; rw [if_pos hl0]
        obtain ⟨x, hx⟩ : ∃ x, x = tk.lit := ⟨_, rfl⟩
        rw [← hx] at x2 hlit hcnt hroom hps
        have hxi : (x : Int) < 256 := by omega
        have hy := HA.out wr T1 x hE (HU.out.1 x (by omega) hcnt) hroom
        have HY := hid hy
        rw [hps] at hnx
        have HNX := hid hnx
        clear hE hT htok hmem hcnt x1 hnx hroom htt hT1 hx hl0 hps hy hg hk hkl
        go_wp2_with fail
        refine HY.out.mono ?_
        rintro e w2 ⟨rfl, h2⟩
        have H2 := hid h2
        clear h2
        go_wp2_with fail
        go_roundg (gk - 1)
        case measure => have := HG.out; omega
        case rel => exact ⟨k + 1, by simp, by have := HG.out; omega, by rw [HNX.out]; exact H2.out⟩
      · have hl0 : ¬ tk.len = 0 := by omega
        rw [if_neg hl0] at hcnt hroom
        have hps : tokPuts la lb tk = [(code la (254 + tk.len), len la (254 + tk.len)), (code lb (distCode tk.dist), len lb (distCode tk.dist)), (tk.dist - (distBase (distCode tk.dist)).1, (distBase (distCode tk.dist)).2)] := by unfold tokPuts; rw [if_neg hl0]
        obtain ⟨ln, hln⟩ : ∃ x, x = tk.len := ⟨_, rfl⟩
        obtain ⟨d, hd⟩ : ∃ x, x = tk.dist := ⟨_, rfl⟩
        rw [← hln] at x0 h3 h10 hcnt hroom hps
        rw [← hd] at x1 d1 d16 hcnt hroom hps
        obtain ⟨f1, f2, f3, f4⟩ := dist_fits d1 d16
        have HDC := hid (fun w => distCode_any (w := w) d1 d16)
        have HDB := hid (fun w => distBase_any (w := w) f1)
        obtain ⟨c, hc⟩ : ∃ c, c = distCode d := ⟨_, rfl⟩
        rw [← hc] at f1 f2 f3 f4 HDC HDB hcnt hroom hps
        obtain ⟨bs, hbs⟩ : ∃ x, x = (distBase c).1 := ⟨_, rfl⟩
        obtain ⟨mr, hmr⟩ : ∃ x, x = (distBase c).2 := ⟨_, rfl⟩
        rw [← hbs] at f2 f3 HDB hps
        rw [← hmr] at f3 f4 HDB hroom hps
        obtain ⟨s1, hs1⟩ : ∃ s1, s1 = 254 + ln := ⟨_, rfl⟩
        rw [← hs1] at hcnt hroom hps
        have hs1l : s1 < 265 := by omega
        have es1 : (257 : Int) + ln - 3 = (s1 : Int) := by omega
        have hci : (c : Int) < 8 := by omega
        have hmi : (mr : Int) ≤ 2 := by omega
        have hdi : (d : Int) ≤ 16 := by omega
        have hbi : (bs : Int) ≤ d := by omega
        have hlni10 : (ln : Int) ≤ 10 := by omega
        have hlni : ((ln : Int) == 0) = false := by simp; omega
        have HY1 := hid (HA.out wr T1 s1 hE (HU.out.1 s1 hs1l hcnt.1) (by omega))
        have HY2 := hid (fun w2 (h2 : EmS b w9 ad5 w2 (T1.put (code la s1) (len la s1))) => HB.out w2 _ c h2 (HU.out.2 c f1 hcnt.2) (by show T1.n + len la s1 + len lb c ≤ 4096; omega))
        have HY3 := hid (fun w2 (h2 : EmS b w9 ad5 w2 ((T1.put (code la s1) (len la s1)).put (code lb c) (len lb c))) =>
          h2.put (v := d - bs) (k := mr) (by omega) f3 (by show T1.n + len la s1 + len lb c + mr ≤ 4096; omega))
        have edb : ((d - bs : Nat) : Int) = (d : Int) - bs := by omega
        rw [edb] at HY3
        rw [hps] at hnx
        have HNX := hid hnx
        have HTX : Hid (∀ (w2 : World) (T : Tp), EmS b w9 ad5 w2 T → w2.cell? ⟨g, k * 3 + 1, none⟩ = some (.int .i64 (d : Int))) := hid (fun w2 T h2 => by
          have hT := (h2.cel HTK.out HPG.out).at0 (k * 3 + 1) (by omega)
          have htok := tokF_at (List.getElem?_eq_getElem hkl)
          simp only [mkV] at hT
          rw [htok.2.1, ← htt, ← hd] at hT
          simp only [mkN] at hT
          exact hT)
        clear hE hT htok hmem hcnt x1 x2 hnx hroom htt hT1 hln hd hl0 hps hg hk hc hbs hmr hs1 f1 f2 f3 f4 d1 d16 h3 h10 edb hs1l hkl
        go_wp2_with fail
        refine HY1.out.mono ?_
        rintro e w2 ⟨rfl, h2⟩
        have H2 := hid h2
        have x12 := HTX.out _ _ h2
        clear h2 x0
        go_wp2_with fail
        refine (HDC.out _).mono ?_
        rintro e w' ⟨rfl, hw⟩
        have hw2 := hw.symm; subst hw2; clear hw
        go_wp2_with fail
        refine (HY2.out _ H2.out).mono ?_
        rintro e w3 ⟨rfl, h3⟩
        have H3 := hid h3
        have x13 := HTX.out _ _ h3
        clear h3 x12
        go_wp2_with fail
        refine (HDB.out _).mono ?_
        rintro e w' ⟨rfl, hw⟩
        have hw2 := hw.symm; subst hw2; clear hw
        go_wp2_with fail
        refine (HY3.out _ H3.out).mono ?_
        rintro e w4 ⟨rfl, h4⟩
        have H4 := hid h4
        clear h4
        go_wp2_with fail
        go_roundg (gk - 1)
        case measure => have := HG.out; omega
        case rel => exact ⟨k + 1, by simp, by have := HG.out; omega, by rw [HNX.out]; exact H4.out⟩
    · have hki : ¬ (k : Int) < n := by omega
      have hkn : k = n := by omega
      have e : ts.take k = ts := by rw [hkn, HNN.out.2]; exact List.take_of_length_le (Nat.le_refl _)
      rw [e] at hE
      have hfin : (puts T5 (ts.flatMap (tokPuts la lb))).put (code la 256) (len la 256) = puts T5 (bodyPuts la lb ts) := by
        unfold bodyPuts; rw [puts_append]; rfl
      have hy := HA.out wr _ 256 hE HS.out.eob (by
        rw [puts_eq, HN5.out]; dsimp only
        have h5 := HFT.out
        unfold bodyPuts at h5
        rw [putBits_append] at h5
        simp [putBits] at h5 ⊢; omega)
      rw [hfin] at hy
      have HY := hid hy
      clear hE hg e hfin hy hk hkn
      go_wp2_with fail
      refine HY.out.mono ?_
      rintro e w2 ⟨rfl, h2⟩
      have HT2 := hid h2.text
      have HE2 := hid (HEND.out (h2.back HG9.out))
      clear h2
      go_wp2_with fail
      refine HT2.out.mono ?_
      rintro e w3 ⟨rfl, hf3⟩
      have HF3 := hid hf3
      clear hf3
      go_wp2_with fail
      exact hK.out _ _ ⟨rfl, HE2.out.trans HF3.out⟩
end Go.Proofs.Qxb6500353aGreat
