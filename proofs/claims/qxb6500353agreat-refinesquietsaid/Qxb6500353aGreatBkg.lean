/- The encoder: coded, walked. -/
import Derived.Test.Qxb6500353aGreatBkf
namespace Go.Proofs.Qxb6500353aGreat
open Go.RowKit
set_option linter.unusedVariables false
set_option linter.unusedSimpArgs false

theorem Enc.buildA {w : World} {t a b z p : Nat} {T : Tp} {RA RB : CdR} {RZ : MtR} {R : PkR} (h : Enc w t a b z p T RA RB RZ R) {la : List Nat} (hla : la.length = 265) (hlw : Lawful la) (hp : ∀ i, i < 265 → R.plan i = len la i) :
    Calls Tryz.prog 125 #[.pointer (some ⟨a, 0, none⟩), .slice (some ⟨p + 2, 0, none⟩) 265 273] w fun e w' => e = .returned (.int .i64 0) ∧ (∃ RA', Enc w' t a b z p T RA' RB RZ R ∧ CoR RA' la) ∧ Fr (Rng t (p + 5)) w w' := by
  have l1 := h.l1; have l2 := h.l2; have l3 := h.l3; have l4 := h.l4
  have hl : Cel mkN w (p + 2) 0 la.length (len la) := by
    have h5 := h.pk.a_plan.cel.part (k := 0) (m := 265) (by omega)
    rw [hla]
    exact Cel.congr (by simpa using h5) fun i hi => hp i hi
  have hB : buildE la = 0 := (buildE_lawful hlw.toFit.le (by omega)).2 hlw
  have h6 := build_any h.ca (cap := 273) hl (by have := h.lt; omega) (fun q => by have := q.2; omega) hlw.toFit.le (by omega)
  rw [hla] at h6
  refine h6.mono ?_
  rintro e w' ⟨rfl, h7, _, h8⟩
  obtain ⟨RA', h9, h10⟩ := h7 hB
  rw [hB]
  exact ⟨rfl, ⟨RA', h.onA h8 h9, h10⟩, h.wide h8 (by omega) (by omega)⟩
theorem Enc.buildB {w : World} {t a b z p : Nat} {T : Tp} {RA RB : CdR} {RZ : MtR} {R : PkR} (h : Enc w t a b z p T RA RB RZ R) {lb : List Nat} (hlb : lb.length = 8) (hlw : Lawful lb) (hp : ∀ i, i < 8 → R.plan (265 + i) = len lb i) :
    Calls Tryz.prog 125 #[.pointer (some ⟨b, 0, none⟩), .slice (some ⟨p + 2, 265, none⟩) 8 8] w fun e w' => e = .returned (.int .i64 0) ∧ (∃ RB', Enc w' t a b z p T RA RB' RZ R ∧ CoR RB' lb) ∧ Fr (Rng t (p + 5)) w w' := by
  have l1 := h.l1; have l2 := h.l2; have l3 := h.l3; have l4 := h.l4
  have hl : Cel mkN w (p + 2) 265 lb.length (len lb) := by
    have h5 := h.pk.a_plan.cel.part (k := 265) (m := 8) (by omega)
    rw [hlb]
    exact Cel.congr (by simpa using h5) fun i hi => hp i hi
  have hB : buildE lb = 0 := (buildE_lawful hlw.toFit.le (by omega)).2 hlw
  have h6 := build_any h.cb (cap := 8) hl (by have := h.lt; omega) (fun q => by have := q.2; omega) hlw.toFit.le (by omega)
  rw [hlb] at h6
  refine h6.mono ?_
  rintro e w' ⟨rfl, h7, _, h8⟩
  obtain ⟨RB', h9, h10⟩ := h7 hB
  rw [hB]
  exact ⟨rfl, ⟨RB', h.onB h8 h9, h10⟩, h.wide h8 (by omega) (by omega)⟩
theorem used_A {kind : Nat} {ts : List Tok} {s : Nat} (hs : s < 265) (h : 0 < countsF ts s) : 0 < len (setA kind ts) s := by
  unfold setA; split
  · exact ((lensA_ok ts).2 s hs).2 h
  · rw [fixA_len hs]; unfold fixedLen; split <;> omega
theorem used_B {kind : Nat} {ts : List Tok} {s : Nat} (hs : s < 8) (h : 0 < countsF ts (265 + s)) : 0 < len (setB kind ts) s := by
  unfold setB; split
  · exact ((lensB_ok ts).2 s hs).2 h
  · rw [fixB_len hs]; omega
def itemsK (kind : Nat) (la lb : List Nat) : List (Nat × Nat) := if kind = 2 then (itP (la ++ lb) 0).flatMap itemPuts else []
set_option maxRecDepth 100000 in
set_option maxHeartbeats 4000000 in
theorem coded_any {w : World} {t a b z p : Nat} {T : Tp} {RA RB : CdR} {RZ : MtR} {R : PkR} (h : Enc w t a b z p T RA RB RZ R) {kind : Nat} (hk : kind = 1 ∨ kind = 2) {ts : List Tok} (hc : R.count = countsF ts) (hp : R.plan = len (dynL ts)) (hok : ∀ t ∈ ts, TokOK t) (hn : ts.length ≤ 256)
    {g cap : Nat} (ht : Cel mkV w g 0 (ts.length * 3) (tokF ts)) (hgd : ¬ Rng t (p + 5) g) (hf : T.n + putBits (itemsK kind (setA kind ts) (setB kind ts) ++ bodyPuts (setA kind ts) (setB kind ts) ts) ≤ 4096) :
    Calls Tryz.prog 92 #[ptrV p, .int .i64 kind, .slice (some ⟨g, 0, none⟩) ts.length cap] w fun e w' => e = .returned (.tuple #[]) ∧ (∃ RA' RB' R', Enc w' t a b z p (puts T (itemsK kind (setA kind ts) (setB kind ts) ++ bodyPuts (setA kind ts) (setB kind ts) ts)) RA' RB' RZ R') ∧ Fr (Rng t (p + 5)) w w' := by
  have hS := sets_kind (kind := kind) hok
  obtain ⟨la, hla⟩ : ∃ l, l = setA kind ts := ⟨_, rfl⟩
  obtain ⟨lb, hlb⟩ : ∃ l, l = setB kind ts := ⟨_, rfl⟩
  have hUA : ∀ s, s < 265 → 0 < countsF ts s → 0 < len la s := fun s hs h => by rw [hla]; exact used_A hs h
  have hUB : ∀ s, s < 8 → 0 < countsF ts (265 + s) → 0 < len lb s := fun s hs h => by rw [hlb]; exact used_B hs h
  have hdyn : kind = 2 → dynL ts = la ++ lb := fun e => by rw [hla, hlb, e]; rfl
  have hfix : kind = 1 → fixL = la ++ lb := fun e => by rw [hla, hlb, e]; rfl
  rw [← hla, ← hlb] at hS hf ⊢
  have hpl : ∀ i, i < 265 → len (la ++ lb) i = len la i := fun i hi => len_append_left (by rw [hS.na]; exact hi)
  have hpr : ∀ i, len (la ++ lb) (265 + i) = len lb i := fun i => by rw [len_append_right hS.na (by omega), Nat.add_sub_cancel_left]
  obtain ⟨n, hnl⟩ : ∃ n, n = ts.length := ⟨_, rfl⟩
  have H := hid h
  have HT := hid ht
  have HGD := hid hgd
  have HOK := hid hok
  have HN := hid hn
  have HS := hid hS
  have HFT := hid hf
  have HU := hid (And.intro hUA hUB)
  have HPL := hid (And.intro hpl hpr)
  have HC := hid hc
  have HP := hid hp
  have HDY := hid hdyn
  have HFX := hid hfix
  have HNL := hid hnl
  rw [← hnl]
  have hni : (n : Int) ≤ 256 := by omega
  clear h ht hgd hok hn hS hf hnl hUA hUB hla hlb hpl hpr hc hp hdyn hfix
  refine calls_via fun K hK => ?_
  have HFIXC := hid (fixed_any H.out.pk)
  unfold ptrV at HFIXC ⊢
  go_enter Tryz.func92, Tryz.ntmps92
  go_upto_if 7 with (fail)
  go_cut [] (fun wx => Enc wx t a b z p T RA RB RZ { R with plan := len (la ++ lb) } ∧ Fr (Rng t (p + 5)) w wx)
  case first =>
    rcases hk with rfl | rfl
    · go_wp2_with fail
      refine HFIXC.out.mono ?_
      rintro e w2 ⟨rfl, h2, hf2⟩
      rw [HFX.out (by first | rfl | trivial)] at h2
      have H2 := hid h2
      have HF2 := hid hf2
      clear h2 hf2
      go_wp2_with fail
      go_meet
      have l1 := H.out.l1; have l2 := H.out.l2; have l3 := H.out.l3; have l4 := H.out.l4
      exact ⟨H.out.onP HF2.out H2.out rfl rfl rfl rfl, H.out.wide HF2.out (by omega) (by omega)⟩
    · go_wp2_with fail
      go_meet
      refine ⟨?_, Fr.refl _ _⟩
      have h9 := H.out
      exact h9.onP (Fr.refl _ _) (h9.pk.congrP fun i hi => by rw [HP.out, HDY.out (by first | rfl | trivial)]) rfl rfl rfl rfl
  case rest =>
  obtain ⟨hE, hf1⟩ := hcut
  obtain ⟨w1, rfl⟩ : ∃ w1, w1 = wc := ⟨_, rfl⟩
  have c1 := hE.ptrA
  have c2 := hE.pk.p_plan
  have HE := hid hE
  have HF1 := hid hf1
  have HBA := hid (fun wx (hfx : Fr Nob w1 wx) => (hE.fr hfx (fun _ _ _ x => x)).buildA HS.out.na HS.out.a (fun i hi => HPL.out.1 i hi))
  clear hE hf1 HFIXC
  go_upto_region 2 with fail
  go_cut [] (fun wx => (∃ RA2, Enc wx t a b z p T RA2 RB RZ { R with plan := len (la ++ lb) } ∧ CoR RA2 la) ∧ Fr (Rng t (p + 5)) w wx)
  case first =>
    go_region_with (go_at_call 125; refine (HBA.out _ (by first | exact Fr.refl _ _ | exact (Fr.refl _ _).drew | exact Fr.of_drewN)).mono ?_; rintro e w2 ⟨rfl, h2, hf2⟩; have H2 := hid h2; have HF2 : Hid (Fr (Rng t (p + 5)) w w2) := hid (by first | exact HF1.out.trans hf2 | exact HF1.out.drew.trans hf2 | exact HF1.out.drewN.trans hf2); clear h2 hf2)
    all_goals (go_wp2_with fail; go_meet; exact ⟨H2.out, HF2.out⟩)
  case rest =>
  obtain ⟨⟨RA2, hE2, hco⟩, hf2⟩ := hcut
  obtain ⟨w2, rfl⟩ : ∃ w2, w2 = wc := ⟨_, rfl⟩
  have d1 := hE2.ptrB
  have d2 := hE2.pk.p_plan
  have HE2 := hid hE2
  have HCO := hid hco
  have HF2 := hid hf2
  have HBB := hid (fun wx (hfx : Fr Nob w2 wx) => (hE2.fr hfx (fun _ _ _ x => x)).buildB HS.out.nb HS.out.b (fun i hi => HPL.out.2 i))
  clear hE2 hf2 hco c1 c2
  go_upto_region 3 with fail
  go_cut [] (fun wx => (∃ RB2, Enc wx t a b z p T RA2 RB2 RZ { R with plan := len (la ++ lb) } ∧ CoR RB2 lb) ∧ Fr (Rng t (p + 5)) w wx)
  case first =>
    go_region_with (go_at_call 125; refine (HBB.out _ (by first | exact Fr.refl _ _ | exact (Fr.refl _ _).drew | exact Fr.of_drewN)).mono ?_; rintro e w3 ⟨rfl, h3, hf3⟩; have H3 := hid h3; have HF3 : Hid (Fr (Rng t (p + 5)) w w3) := hid (by first | exact HF2.out.trans hf3 | exact HF2.out.drew.trans hf3 | exact HF2.out.drewN.trans hf3); clear h3 hf3)
    all_goals (go_wp2_with fail; go_meet; exact ⟨H3.out, HF3.out⟩)
  case rest =>
  obtain ⟨⟨RB2, hE3, hco3⟩, hf3⟩ := hcut
  obtain ⟨w3, rfl⟩ : ∃ w3, w3 = wc := ⟨_, rfl⟩
  have HE3 := hid hE3
  have HCO3 := hid hco3
  have HF3 := hid hf3
  clear hE3 hf3 hco3 d1 d2
  go_upto_if 31 with (fail)
  go_cut [] (fun wx => Enc wx t a b z p (puts T (itemsK kind la lb)) RA2 RB2 RZ { R with plan := len (la ++ lb) } ∧ Fr (Rng t (p + 5)) w wx)
  case first =>
    rcases hk with rfl | rfl
    · go_wp2_with fail
      go_meet
      exact ⟨HE3.out, HF3.out⟩
    · have hlist := list_any (layYes HE3.out) (w := w3) ⟨HE3.out, Fr.refl _ _⟩ (l := la ++ lb) (by rw [List.length_append, HS.out.na, HS.out.nb]) (fun i _ => rfl) (lens_le HS.out.a HS.out.b) (by
          have h5 := HFT.out
          rw [putBits_append] at h5
          have e : itemsK 2 la lb = (itP (la ++ lb) 0).flatMap itemPuts := rfl
          rw [e] at h5; omega) (by
          have := itemBits_le (l := la ++ lb) _ 0 rfl
          rw [List.length_append, HS.out.na, HS.out.nb] at this; omega)
      unfold ptrV at hlist
      have HLS := hid hlist
      clear hlist
      go_wp2_with fail
      refine HLS.out.mono ?_
      rintro e w4 ⟨rfl, h4, hf4⟩
      have H4 := hid h4
      have HF4 := hid hf4
      clear h4 hf4
      go_wp2_with fail
      go_meet
      exact ⟨H4.out, HF3.out.trans HF4.out⟩
  case rest =>
  obtain ⟨hE4, hf4⟩ := hcut
  obtain ⟨w4, rfl⟩ : ∃ w4, w4 = wc := ⟨_, rfl⟩
  have hft := fetch_any hE4 HCO.out HCO3.out (fun s hs => by show R.count s ≤ 600; rw [HC.out]; have := countsF_le ts s; have := HN.out; omega) (fun s hs h0 => HU.out.1 s hs (by rw [← HC.out]; exact h0)) (fun s hs h0 => HU.out.2 s hs (by rw [← HC.out]; exact h0))
  unfold ptrV at hft
  have HFE := hid hft
  have HF4 := hid hf4
  clear hE4 hf4 hft
  go_wp2_with fail
  refine HFE.out.mono ?_
  rintro e w5 ⟨rfl, ⟨fc, fw, h5, h5f⟩, hf5⟩
  have HF5 := hid (HF4.out.trans hf5)
  have hc2 : R.count = countsF ts := HC.out
  have htk := tokens_any h5 (g := g) (cap := cap) HS.out (by have h6 := h5f; dsimp only at h6 ⊢; rw [hc2] at h6; exact h6) HOK.out HN.out (HT.out.fr HF5.out HGD.out) HGD.out (by
    have h7 := HFT.out
    rw [putBits_append] at h7
    rw [puts_eq]; dsimp only; omega)
  rw [← HNL.out, ← puts_append] at htk
  unfold ptrV at htk
  have HTK := hid htk
  clear h5 h5f hf5 hc2 htk
  go_wp2_with fail
  refine HTK.out.mono ?_
  rintro e w6 ⟨rfl, h6, hf6⟩
  have H6 := hid h6
  have HF6 := hid hf6
  clear h6 hf6
  go_wp2_with fail
  go_end0
  exact hK.out _ _ ⟨rfl, ⟨_, _, _, H6.out⟩, HF5.out.trans HF6.out⟩
end Go.Proofs.Qxb6500353aGreat
