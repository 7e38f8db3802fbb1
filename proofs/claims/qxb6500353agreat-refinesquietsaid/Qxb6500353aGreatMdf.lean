/- The model's decoder: coded, walked (lawful sets). -/
import Derived.Test.Qxb6500353aGreatMdc
import Derived.Test.Qxb6500353aGreatMdd
import Derived.Test.Qxb6500353aGreatMbw
namespace Go.Proofs.Qxb6500353aGreat
open Go.RowKit
set_option linter.unusedVariables false
set_option linter.unusedSimpArgs false

theorem DcS.fresh {S : Nat → Prop} {w w2 : World} {b cap capo : Nat} {ad ado : Option Addr} {t : Tp} {o : List Nat} (h : DcS w b cap ad t ado capo o) (hf : Fr S w w2) (hS : ∀ x, S x → w.heap.size ≤ x) : DcS w2 b cap ad t ado capo o ∧ Gr b w ado w2 ado := by
  have hb := h.tp.lt
  refine ⟨⟨h.tp.fr hf (fun q => by have := hS _ q; omega) (fun g hg q => by have := hS _ q; have := (h.tp.own.lt hg).2; omega), h.ow.fr hf (fun g hg q => by have := hS _ q; have := (h.ow.lt hg).2; omega), h.ne⟩, ⟨(Fr.refl (TpS b ado) w).trans2 hf fun x hx hl => by have := hS x hx; omega, fun g hg => .inl hg⟩⟩
theorem tokM_adv (la lb : List Nat) (t : Tp) (o : List Nat) : (tokM la lb t o).1 = false → t.at_ + 1 ≤ (tokM la lb t o).2.2.1.at_ ∧ (tokM la lb t o).2.2.1.n = t.n := by
  unfold tokM
  by_cases c1 : (symF la t).2.2 ≠ 0
  · rw [if_pos c1]; intro q; simp at q
  · have hg := (symF_got la t (by omega)).2.1
    rw [if_neg c1]
    split
    · intro q; simp at q
    · split
      · split
        · intro q; simp at q
        · intro _; exact ⟨by show t.at_ + 1 ≤ t.at_ + _; omega, rfl⟩
      · unfold tokM.tokM2
        split
        · intro q; simp at q
        · unfold tokM.tokM3
          split
          · intro q; simp at q
          · split
            · intro q; simp at q
            · split
              · intro q; simp at q
              · intro _; exact ⟨by show t.at_ + 1 ≤ t.at_ + _ + _ + _; omega, rfl⟩
set_option maxRecDepth 100000 in
theorem tokM_keep {la lb : List Nat} {t : Tp} {o : List Nat} (hol : o.length ≤ 256) (hby : ∀ c ∈ o, c < 256) : (tokM la lb t o).2.2.2.length ≤ 256 ∧ ∀ c ∈ (tokM la lb t o).2.2.2, c < 256 := by
  unfold tokM
  split
  · exact ⟨hol, hby⟩
  · split
    · exact ⟨hol, hby⟩
    · split
      · rename_i hx
        split
        · exact ⟨hol, hby⟩
        · refine ⟨by simp; omega, fun c hc => ?_⟩
          rcases List.mem_append.1 hc with q | q
          · exact hby c q
          · simp only [List.mem_singleton] at q; subst q; exact hx
      · unfold tokM.tokM2
        split
        · exact ⟨hol, hby⟩
        · unfold tokM.tokM3
          split
          · exact ⟨hol, hby⟩
          · split
            · exact ⟨hol, hby⟩
            · split
              · exact ⟨hol, hby⟩
              · rename_i h8
                exact ⟨by rw [copyF_length]; omega, copyF_byte _ _ _ hby⟩
/-- What the coded body answers. -/
structure CodR (t : Tp) (s : DS) (er : Nat) (t' : Tp) (o' : List Nat) : Prop where
  len : o'.length ≤ 256
  byte : ∀ c ∈ o', c < 256
  bad : er ≠ 0 → Ends t s er o'
  good : er = 0 → Shuts t s t' o'
/-- One token more. -/
theorem tok_next {fin : Nat} {la lb : List Nat} {t tq : Tp} {oq : List Nat} {s sq : DS} (hj : DJ fin la lb oq sq) (hst : Steps t s tq sq) (hfs : s.final = fin) (hla : la.length = 265) (hol : oq.length ≤ 256) (hby : ∀ c ∈ oq, c < 256) :
    ((tokM la lb tq oq).1 = false → (tokM la lb tq oq).2.1 = 0 ∧ ∃ s', DJ fin la lb (tokM la lb tq oq).2.2.2 s' ∧ Steps t s (tokM la lb tq oq).2.2.1 s') ∧
    ((tokM la lb tq oq).1 = true → CodR t s (tokM la lb tq oq).2.1 (tokM la lb tq oq).2.2.1 (tokM la lb tq oq).2.2.2) := by
  have hl := tokM_law (t := tq) hj (fun t h => by have := (symF_got la t h).1; omega)
  have hk := tokM_keep (la := la) (lb := lb) (t := tq) hol hby
  refine ⟨fun q => ?_, fun q => ⟨hk.1, hk.2, fun e => ?_, fun e => ?_⟩⟩
  · obtain ⟨h1, s', h2, h3⟩ := hl.1 q
    exact ⟨h1, s', h2, hst.trans h3⟩
  · rw [hl.2.1 q]; exact hst.ends (hl.2.2.1 q e)
  · rw [hl.2.1 q]
    exact ⟨tq, sq, sq, hst, by rw [hj.ph]; decide, hl.2.2.2 q e, by rw [hj.fin, hfs], hj.out⟩
set_option maxRecDepth 100000 in
set_option maxHeartbeats 8000000 in
theorem coded_ok {w : World} {b cap capo lg lcap : Nat} {ad ado : Option Addr} {t : Tp} {o la lb : List Nat} {fin : Nat} {s : DS} {hd : Int} (h : DcS w b cap ad t ado capo o) (hol : o.length ≤ 256) (hby : ∀ c ∈ o, c < 256) (hla : la.length = 265) (hlb : lb.length = 8) (hA : Lawful la) (hB : Lawful lb) (he : 0 < len la 256)
    (hl : Cel mkN w lg 0 273 (len (la ++ lb))) (hll : lg < w.heap.size) (hlc : 273 ≤ lcap) (hj : DJ fin la lb o s) :
    Calls Tryz.prog 82 #[.pointer (some ⟨b, 0, none⟩), .slice (some ⟨lg, 0, none⟩) 273 lcap, .int .i64 hd, .slice ado o.length capo] w fun e w' => ∃ (ad2 : Option Addr) (cp2 er : Nat) (p : Int) (t' : Tp) (o' : List Nat), e = .returned (.tuple #[.slice ad2 o'.length cp2, .int .i64 (er : Nat), .int .i64 p]) ∧ DcS w' b cap ad t' ad2 cp2 o' ∧ Gr b w ado w' ad2 ∧ CodR t s er t' o' := by
  have H := hid h
  have HBY := hid hby
  have HA := hid hA
  have HB := hid hB
  have HLA := hid hla
  have HLB := hid hlb
  have HJ := hid hj
  have HL := hid hl
  have HLW := hid hll
  have hc256 : Cel mkN w lg 0 273 (len (la ++ lb)) := hl
  have e256 : len (la ++ lb) 256 = len la 256 := len_append_left (by rw [hla]; decide)
  obtain ⟨v6, hv6⟩ : ∃ v, v = len la 256 := ⟨_, rfl⟩
  rw [← hv6] at he e256
  have hv60 : ((v6 : Int) == 0) = false := by simp; omega
  have HV6 := hid e256
  obtain ⟨n, hn⟩ : ∃ n, n = o.length := ⟨_, rfl⟩
  have HNL := hid hn
  rw [← hn]
  have hlci : (273 : Int) ≤ lcap := by omega
  have hlc2 : (265 : Int) ≤ lcap := by omega
  have hlc3 : 265 ≤ lcap := by omega
  have HOL := hid hol
  clear h hby hA hB hla hlb hj hl hll hc256 e256 hv6 he hn hol
  refine calls_via fun K hK => ?_
  go_enter Tryz.func82, Tryz.ntmps82
  go_wp2_with fail
  refine (newHm_any w).mono ?_
  rintro e w6 ⟨rfl, p0, p1, pz, ps, pf⟩
  obtain ⟨a1, ha1⟩ : ∃ a, a = w.heap.size := ⟨_, rfl⟩
  unfold ptrV
  rw [← ha1] at p0 p1 pz ps ⊢
  have HA1 := hid (And.intro p0 (And.intro p1 (And.intro pz (And.intro ps (And.intro pf ha1)))))
  clear p0 p1 pz ps pf ha1
  go_wp2_with fail
  refine (newHm_any w6).mono ?_
  rintro e w7 ⟨rfl, p0, p1, pz, ps, pf⟩
  rw [HA1.out.2.2.2.1] at p0 p1 pz ps ⊢
  have hx1 : ¬ Nob a1 := fun x => x
  have hl7 := (HL.out.fr HA1.out.2.2.2.2.1 (fun x => x)).fr pf (fun x => x)
  have hb1 := mbuild_any (w := w7) (b := a1) (N := a1 + 2) (lg := lg) (lo := 0) (cap := lcap) (l := la) ps (pf.cell HA1.out.1 hx1) (pf.cell HA1.out.2.1 hx1) (HA1.out.2.2.1.fr pf (by have := HA1.out.2.2.2.1; omega) hx1)
    (by rw [HLA.out]; exact Cel.congr (fun i hi => hl7 i (by omega)) fun i hi => len_append_left (by rw [HLA.out]; exact hi)) (by have := HLW.out; have := HA1.out.2.2.2.2.2; omega) (by have := HLW.out; have := HA1.out.2.2.2.2.2; omega) HA.out.toFit.le (by rw [HLA.out]; omega)
  rw [HLA.out, (buildE_lawful HA.out.toFit.le (by rw [HLA.out]; omega)).2 HA.out] at hb1
  unfold ptrV at hb1
  have HB1 := hid hb1
  have HL7 := hid hl7
  have HA2 := hid (And.intro p0 (And.intro p1 (And.intro pz (And.intro ps pf))))
  clear p0 p1 pz ps pf hb1 hl7
  go_wp2_with fail
  refine HB1.out.mono ?_
  rintro e w8 ⟨rfl, hq8, -, hf8⟩
  obtain ⟨hmc, hs8⟩ := hq8 (by first | rfl | trivial)
  have hx2 : ¬ One a1 (a1 + 1) := fun x => by unfold One at x; omega
  have hl8 := HL7.out.fr hf8 (fun x => by unfold One at x; have := HLW.out; have := HA1.out.2.2.2.2.2; omega)
  have hb2 := mbuild_any (w := w8) (b := a1 + 1) (N := a1 + 4) (lg := lg) (lo := 265) (cap := lcap - 265) (l := lb) hs8 (hf8.cell HA2.out.1 hx2) (hf8.cell HA2.out.2.1 hx2) (HA2.out.2.2.1.fr hf8 (by have := HA2.out.2.2.2.1; omega) hx2)
    (by rw [HLB.out]; exact Cel.congr (hl8.part (k := 265) (m := 8) (by omega)) fun i hi => by rw [len_append_right HLA.out (by omega), Nat.add_sub_cancel_left]) (by have := HLW.out; have := HA1.out.2.2.2.2.2; omega) (by have := HLW.out; have := HA1.out.2.2.2.2.2; omega) HB.out.toFit.le (by rw [HLB.out]; omega)
  rw [HLB.out, (buildE_lawful HB.out.toFit.le (by rw [HLB.out]; omega)).2 HB.out] at hb2
  unfold ptrV at hb2
  have HB2 := hid hb2
  have HMC := hid hmc
  have HF8 := hid hf8
  have HL8 := hid hl8
  clear hb2 hmc hf8 hs8 hq8 hl8
  go_wp2_with fail
  refine HB2.out.mono ?_
  rintro e w9 ⟨rfl, hq9, -, hf9⟩
  obtain ⟨hmc2, hs9⟩ := hq9 (by first | rfl | trivial)
  have e51 := HA1.out.2.2.2.2.2
  have n1 : ∀ x, x ≠ a1 + 1 → ¬ One (a1 + 1) x := fun x h q => h q
  have c256 := HL8.out.fr hf9 (n1 _ (by have := HLW.out; omega)) 256 (by omega)
  rw [Nat.zero_add, HV6.out] at c256
  simp only [mkN] at c256
  have hmc1 : McR w9 a1 (a1 + 2) (a1 + 2 + 1) la := HMC.out.fr hf9 (n1 _ (by omega)) (n1 _ (by omega)) (n1 _ (by omega))
  have hfr9 : Fr Nob w w9 := by
    refine (((HA1.out.2.2.2.2.1).trans HA2.out.2.2.2.2).trans2 HF8.out fun x hx hl => ?_).trans2 hf9 fun x hx hl => ?_
    · unfold One at hx; omega
    · unfold One at hx; omega
  have hd9 := H.out.nob hfr9
  have ap : ∀ x, w.heap.size ≤ x → x < a1 + 6 → Apart b ado w9 x := fun x h1 h2 => ⟨by omega, by have := H.out.tp.lt; omega, fun e => by have := (H.out.ow.lt e).2; omega⟩
  have HPA := hid (show ApC b ado w9 a1 (a1 + 2) (a1 + 2 + 1) from ⟨ap _ (by omega) (by omega), ap _ (by omega) (by omega), ap _ (by omega) (by omega)⟩)
  have HPB := hid (show ApC b ado w9 (a1 + 1) (a1 + 4) (a1 + 4 + 1) from ⟨ap _ (by omega) (by omega), ap _ (by omega) (by omega), ap _ (by omega) (by omega)⟩)
  have HCA := hid hmc1
  have HCB := hid hmc2
  have HD9 := hid hd9
  clear e51 n1 hmc1 hfr9 hd9 ap hmc2 hf9 hs9 hq9 hx2 hx1 hlci hlc2 hlc3
  go_wp2_with fail
  go_loopg [3, 13, 14, 15] (t.n - t.at_ + 1) (fun g ov ev pv sv wr => ∃ (tq : Tp) (oq : List Nat) (adr : Option Addr) (cpr m er : Nat) (pp : Int) (st : Bool), ov = .slice adr m cpr ∧ m = oq.length ∧ ev = .int .i64 (er : Nat) ∧ pv = .int .i64 pp ∧ sv = .bool st ∧ DcS wr b cap ad tq adr cpr oq ∧ Gr b w9 ado wr adr ∧ oq.length ≤ 256 ∧ (∀ c ∈ oq, c < 256) ∧ (st = false → tq.n - tq.at_ + 1 ≤ g ∧ ∃ sq, DJ fin la lb oq sq ∧ Steps t s tq sq) ∧ (st = true → CodR t s er tq oq))
  case atStart => exact ⟨t, o, ado, capo, n, 0, _, false, rfl, HNL.out, rfl, rfl, rfl, HD9.out.1, Gr.refl _ _ _, HOL.out, HBY.out, fun _ => ⟨Nat.le_refl _, s, HJ.out, Steps.refl _ _⟩, fun q => by simp at q⟩
  case round =>
    obtain ⟨tq, oq, adr, cpr, m, er, pp, st, rfl, hm, rfl, rfl, rfl, hE, hG, hol2, hby2, hgo, hend⟩ := hrel
    cases st with
    | true =>
      have HC := hid (hend rfl)
      have HE := hid hE
      have HGR := hid hG
      have HM := hid hm
      clear hE hG hol2 hby2 hgo hend hm
      go_wp2_with fail
      go_ret3
      exact hK.out _ _ ⟨adr, cpr, er, pp, tq, oq, by rw [HM.out]; rfl, HE.out, HD9.out.2.trans HGR.out, HC.out⟩
    | false =>
      obtain ⟨hg, sq, hjq, hsq⟩ := hgo rfl
      have htok := token_any hE hol2 hby2 (HCA.out.gr HPA.out hG) (HCB.out.gr HPB.out hG) (HPA.out.keep hG) (HPB.out.keep hG) HLA.out HLB.out HA.out.toFit.len_le HB.out.toFit.len_le
      have hnx := tok_next hjq hsq HJ.out.fin HLA.out hol2 hby2
      have hadv := tokM_adv la lb tq oq
      have hkp := tokM_keep (la := la) (lb := lb) (t := tq) hol2 hby2
      have hpos := mpos_any hE.tp
      rw [← hm] at htok
      obtain ⟨st2, hst2⟩ : ∃ z, z = (tokM la lb tq oq).1 := ⟨_, rfl⟩
      obtain ⟨er2, her2⟩ : ∃ z, z = (tokM la lb tq oq).2.1 := ⟨_, rfl⟩
      obtain ⟨t2, ht2⟩ : ∃ z, z = (tokM la lb tq oq).2.2.1 := ⟨_, rfl⟩
      obtain ⟨o2, ho2⟩ : ∃ z, z = (tokM la lb tq oq).2.2.2 := ⟨_, rfl⟩
      obtain ⟨m2, hm2⟩ : ∃ z, z = o2.length := ⟨_, rfl⟩
      rw [← hst2, ← her2, ← ht2, ← ho2] at htok hnx
      rw [← hst2, ← ht2] at hadv
      rw [← ho2] at hkp
      rw [← hm2] at htok
      obtain ⟨p2, hp2⟩ : ∃ z, z = tq.at_ := ⟨_, rfl⟩
      rw [← hp2] at hpos
      unfold ptrV at hpos
      have HTOK := hid htok
      have HNX := hid (And.intro hnx (And.intro hadv hkp))
      have HPOS := hid hpos
      have HG := hid hg
      have HGR := hid hG
      have HM2 := hid hm2
      have HP2 := hid hp2
      clear hE hG hol2 hby2 hgo hend hm hg hjq hsq htok hnx hadv hkp hpos hst2 her2 ht2 ho2 hm2 hp2
      go_wp2_with fail
      refine HPOS.out.mono ?_
      rintro e w' ⟨rfl, hw⟩
      have hw2 := hw.symm; subst hw2; clear hw
      go_wp2_with fail
      refine HTOK.out.mono ?_
      rintro e w10 ⟨ad3, cp3, rfl, h10, hg10⟩
      have H10 := hid h10
      have HG10 := hid hg10
      clear h10 hg10
      go_wp2_with fail
      go_roundg (gk - 1)
      case measure => have := HG.out; omega
      case rel =>
        refine ⟨t2, o2, ad3, cp3, m2, er2, _, st2, rfl, HM2.out, rfl, rfl, rfl, H10.out, HGR.out.trans HG10.out, HNX.out.2.2.1, HNX.out.2.2.2, fun q => ⟨?_, (HNX.out.1.1 q).2⟩, fun q => HNX.out.1.2 q⟩
        have h1 := HNX.out.2.1 q
        have h2 := H10.out.tp.ok.cur
        have h3 := HG.out
        omega
end Go.Proofs.Qxb6500353aGreat
