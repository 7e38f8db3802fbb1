/- The real decoder: the two sets built, the list's end, walked. -/
import Derived.Test.Qxb6500353aGreatStb
namespace Go.Proofs.Qxb6500353aGreat
open Go.RowKit
set_option linter.unusedVariables false
set_option linter.unusedSimpArgs false

theorem DecM.buildA {w : World} {Y : Nat} {R : DcR} {t : Tp} (h : DecM w Y R t) (hh : R.held = false) {l : List Nat} (hl : l.length = 265) (hx : ∀ x ∈ l, x ≤ 10) (hL : ∀ i, i < 265 → R.lens i = len l i) :
    Calls Tryz.prog 125 #[.pointer (some ⟨Y + 2, 0, none⟩), .slice (some ⟨Y + 24 + 1, 0, none⟩) 265 273] w fun e w' => e = .returned (.int .i64 (buildE l : Nat)) ∧ DecM w' Y R t ∧ (buildE l = 0 → CoAt w' (Y + 2) l) ∧ Fr (Rng Y (Y + 28)) w w' := by
  obtain ⟨qa, ha⟩ := h.ca
  obtain ⟨qb, hb⟩ := h.cb
  have hlt := h.lt
  have hc : Cel mkN w (Y + 24 + 1) 0 l.length (len l) := by
    have h5 := h.d.a_lens.cel.part (k := 0) (m := 265) (by omega)
    rw [hl]
    exact Cel.congr (by simpa using h5) fun i hi => hL i hi
  have h6 := build_any ha (cap := 273) hc (by omega) (fun q => by have := q.2; omega) hx (by omega)
  rw [hl] at h6
  refine h6.mono ?_
  rintro e w' ⟨rfl, h7, h8, h9⟩
  have n1 : ∀ k, (k < Y + 2 ∨ Y + 13 ≤ k) → ¬ Rng (Y + 2) (Y + 2 + 11) k := fun k h1 h2 => by unfold Rng at h2; omega
  refine ⟨rfl, ⟨h.d.fr h9 fun k h1 h2 => n1 k (by omega), h.rt, h.ra, h.rb, h.tp.fr h9 (n1 _ (by omega)) (n1 _ (by omega)), ?_, ⟨qb, hb.fr h9 fun k h1 h2 => n1 k (by omega)⟩, fun q => by rw [hh] at q; simp at q⟩, h7, h9.mono fun x hx2 _ => by unfold Rng at *; omega⟩
  by_cases e0 : buildE l = 0
  · exact (h7 e0).cd
  · exact ⟨qa, h8 e0⟩
theorem DecM.buildB {w : World} {Y : Nat} {R : DcR} {t : Tp} {la : List Nat} (h : DecM w Y R t) (hA : CoAt w (Y + 2) la) (hh : R.held = false) {l : List Nat} (hl : l.length = 8) (hx : ∀ x ∈ l, x ≤ 10) (hL : ∀ i, i < 8 → R.lens (265 + i) = len l i) :
    Calls Tryz.prog 125 #[.pointer (some ⟨Y + 13, 0, none⟩), .slice (some ⟨Y + 24 + 1, 265, none⟩) 8 8] w fun e w' => e = .returned (.int .i64 (buildE l : Nat)) ∧ DecM w' Y R t ∧ CoAt w' (Y + 2) la ∧ (buildE l = 0 → CoAt w' (Y + 13) l) ∧ Fr (Rng Y (Y + 28)) w w' := by
  obtain ⟨qa, ha⟩ := h.ca
  obtain ⟨qb, hb⟩ := h.cb
  have hlt := h.lt
  have hc : Cel mkN w (Y + 24 + 1) 265 l.length (len l) := by
    have h5 := h.d.a_lens.cel.part (k := 265) (m := 8) (by omega)
    rw [hl]
    exact Cel.congr (by simpa using h5) fun i hi => hL i hi
  have h6 := build_any hb (cap := 8) hc (by omega) (fun q => by have := q.2; omega) hx (by omega)
  rw [hl] at h6
  refine h6.mono ?_
  rintro e w' ⟨rfl, h7, h8, h9⟩
  have n1 : ∀ k, (k < Y + 13 ∨ Y + 24 ≤ k) → ¬ Rng (Y + 13) (Y + 13 + 11) k := fun k h1 h2 => by unfold Rng at h2; omega
  refine ⟨rfl, ⟨h.d.fr h9 fun k h1 h2 => n1 k (by omega), h.rt, h.ra, h.rb, h.tp.fr h9 (n1 _ (by omega)) (n1 _ (by omega)), ⟨qa, ha.fr h9 fun k h1 h2 => n1 k (by omega)⟩, ?_, fun q => by rw [hh] at q; simp at q⟩, hA.fr h9 fun k h1 h2 => n1 k (by omega), h7, h9.mono fun x hx2 _ => by unfold Rng at *; omega⟩
  by_cases e0 : buildE l = 0
  · exact (h7 e0).cd
  · exact ⟨qb, h8 e0⟩
def setsR (R : DcR) (er : Nat) : DcR := { R with at_ := R.head, held := false, phase := if er = 0 then 5 else R.phase }
set_option maxRecDepth 100000 in
set_option maxHeartbeats 8000000 in
theorem sets_any {w : World} {Y : Nat} {R : DcR} {t : Tp} (h : DecM w Y R t) {l : List Nat} (hl : l.length = 273) (hx : ∀ x ∈ l, x ≤ 10) (hL : ∀ i, i < 273 → R.lens i = len l i) :
    Calls Tryz.prog 163 #[ptrV (Y + 24)] w fun e w' => e = .returned (.int .i64 (errS (l.take 265) (l.drop 265) : Nat)) ∧ DecM w' Y (setsR R (errS (l.take 265) (l.drop 265))) t ∧ (errS (l.take 265) (l.drop 265) = 0 → CoAt w' (Y + 2) (l.take 265) ∧ CoAt w' (Y + 13) (l.drop 265)) ∧ Fr (Rng Y (Y + 28)) w w' := by
  obtain ⟨la, hla⟩ : ∃ z, z = l.take 265 := ⟨_, rfl⟩
  obtain ⟨lb, hlb⟩ : ∃ z, z = l.drop 265 := ⟨_, rfl⟩
  have hlab : la ++ lb = l := by rw [hla, hlb]; exact List.take_append_drop _ _
  have hla2 : la.length = 265 := by rw [hla, List.length_take]; omega
  have hlb2 : lb.length = 8 := by rw [hlb, List.length_drop]; omega
  have hxa : ∀ x ∈ la, x ≤ 10 := fun x hx2 => hx x (by rw [hla] at hx2; exact List.mem_of_mem_take hx2)
  have hxb : ∀ x ∈ lb, x ≤ 10 := fun x hx2 => hx x (by rw [hlb] at hx2; exact List.mem_of_mem_drop hx2)
  have hLa : ∀ i, i < 265 → R.lens i = len la i := fun i hi => by rw [hL i (by omega), ← hlab, len_append_left (by omega)]
  have hLb : ∀ i, i < 8 → R.lens (265 + i) = len lb i := fun i hi => by rw [hL _ (by omega), ← hlab, len_append_right hla2 (by omega), Nat.add_sub_cancel_left]
  rw [← hla, ← hlb]
  clear hla hlb hlab hl hx hL
  have c1 := h.d.c_head
  have c2 := h.d.c_at_
  have c3 := h.d.c_held
  have cf : ∀ i, w.frozen? ⟨Y + 24, i, none⟩ = false := h.d.fz
  obtain ⟨hdd, hhd⟩ : ∃ z, z = R.head := ⟨_, rfl⟩
  obtain ⟨R1, hR1⟩ : ∃ z : DcR, z = { R with at_ := R.head, held := false } := ⟨_, rfl⟩
  have hd1 : DcAt ((w.setCell ⟨Y + 24, 6, none⟩ (.int .i64 ((R.head : Nat) : Int))).setCell ⟨Y + 24, 3, none⟩ (.bool false)) (Y + 24) R1 := by rw [hR1]; exact (h.d.set_at_ R.head).set_held false
  have hf1 : Fr (One (Y + 24)) w ((w.setCell ⟨Y + 24, 6, none⟩ (.int .i64 ((R.head : Nat) : Int))).setCell ⟨Y + 24, 3, none⟩ (.bool false)) := ((Fr.refl _ _).set1 _ _).set1 _ _
  have h1 : DecM _ Y R1 t := h.dec hd1 (rngO hf1) (by rw [hR1]) (by rw [hR1]) (by rw [hR1]) (by rw [hR1]; simp)
  have hh1 : R1.held = false := by rw [hR1]
  have hLa1 : ∀ i, i < 265 → R1.lens i = len la i := by rw [hR1]; exact hLa
  have hLb1 : ∀ i, i < 8 → R1.lens (265 + i) = len lb i := by rw [hR1]; exact hLb
  rw [← hhd] at c1 h1 hf1
  have H1 := hid h1
  have HF1 := hid (rngD (rngO hf1))
  have HH1 := hid hh1
  have HLA := hid (And.intro hla2 (And.intro hxa hLa1))
  have HLB := hid (And.intro hlb2 (And.intro hxb hLb1))
  have HSR : Hid (∀ er, setsR R er = { R1 with phase := if er = 0 then 5 else R1.phase }) := hid (fun er => by rw [hR1]; rfl)
  clear h hd1 hf1 h1 hh1 hLa1 hLb1 hLa hLb hxa hxb hla2 hlb2 hR1 hhd
  refine calls_via fun K hK => ?_
  unfold ptrV
  go_enter Tryz.func163, Tryz.ntmps163
  go_upto_region 3 with fail
  obtain ⟨w1, hw1⟩ : ∃ z, z = (w.setCell ⟨Y + 24, 6, none⟩ (.int .i64 ((hdd : Nat) : Int))).setCell ⟨Y + 24, 3, none⟩ (.bool false) := ⟨_, rfl⟩
  rw [← hw1] at H1 HF1 ⊢
  clear hw1 c1 c2 c3 cf
  have c1 := H1.out.d.c_a
  rw [H1.out.ra] at c1
  unfold ptrV at c1
  have c2 := H1.out.d.p_lens
  have HBA := hid (fun wx (hfx : Fr Nob w1 wx) => (H1.out.fr hfx (fun _ _ _ x => x)).buildA HH1.out HLA.out.1 HLA.out.2.1 HLA.out.2.2)
  obtain ⟨ea, hea⟩ : ∃ z, z = buildE la := ⟨_, rfl⟩
  rw [← hea] at HBA
  have HEA := hid hea
  clear hea
  go_cut [3] (fun v wx => v = .int .i64 (ea : Nat) ∧ DecM wx Y R1 t ∧ (ea = 0 → CoAt wx (Y + 2) la) ∧ Fr (Rng Y (Y + 28)) w wx)
  case first =>
    go_region_with (go_at_call 125; refine (HBA.out _ (by first | exact Fr.refl _ _ | exact (Fr.refl _ _).drew | exact Fr.of_drewN)).mono ?_; rintro e w2 ⟨rfl, h2, h2c, hf2⟩; have H2 := hid (And.intro h2 h2c); have HF2 : Hid (Fr (Rng Y (Y + 28)) w w2) := hid (by first | exact HF1.out.trans hf2 | exact HF1.out.drew.trans hf2 | exact HF1.out.drewN.trans hf2); clear h2 hf2 h2c)
    all_goals (go_wp2_with fail; go_meet; exact ⟨rfl, H2.out.1, H2.out.2, HF2.out⟩)
  case rest =>
  obtain ⟨rfl, hD2, hco2, hf2⟩ := hcut
  obtain ⟨w2, rfl⟩ : ∃ w2, w2 = wc := ⟨_, rfl⟩
  have HD2 := hid hD2
  have HCO2 := hid hco2
  have HF2 := hid hf2
  clear hD2 hco2 hf2 c1 c2
  by_cases ha0 : ea = 0
  · subst ha0
    have d1 := HD2.out.d.c_b
    rw [HD2.out.rb] at d1
    unfold ptrV at d1
    have d2 := HD2.out.d.p_lens
    have HBB := hid (fun wx (hfx : Fr Nob w2 wx) => (HD2.out.fr hfx (fun _ _ _ x => x)).buildB ((HCO2.out rfl).fr hfx (fun _ _ _ x => x)) HH1.out HLB.out.1 HLB.out.2.1 HLB.out.2.2)
    obtain ⟨eb, heb⟩ : ∃ z, z = buildE lb := ⟨_, rfl⟩
    rw [← heb] at HBB
    have HEB := hid heb
    clear heb
    rw [show ((0 : Nat) : Int) = 0 from rfl]
    go_upto_region 6 with fail
    go_cut [3] (fun v wx => v = .int .i64 (eb : Nat) ∧ DecM wx Y R1 t ∧ CoAt wx (Y + 2) la ∧ (eb = 0 → CoAt wx (Y + 13) lb) ∧ Fr (Rng Y (Y + 28)) w wx)
    case first =>
      go_region_with (go_at_call 125; refine (HBB.out _ (by first | exact Fr.refl _ _ | exact (Fr.refl _ _).drew | exact Fr.of_drewN)).mono ?_; rintro e w3 ⟨rfl, h3, h3a, h3c, hf3⟩; have H3 := hid (And.intro h3 (And.intro h3a h3c)); have HF3 : Hid (Fr (Rng Y (Y + 28)) w w3) := hid (by first | exact HF2.out.trans hf3 | exact HF2.out.drew.trans hf3 | exact HF2.out.drewN.trans hf3); clear h3 h3a hf3 h3c)
      all_goals (go_wp2_with fail; go_meet; exact ⟨rfl, H3.out.1, H3.out.2.1, H3.out.2.2, HF3.out⟩)
    case rest =>
    obtain ⟨rfl, hD3, hca3, hco3, hf3⟩ := hcut
    obtain ⟨w3, rfl⟩ : ∃ w3, w3 = wc := ⟨_, rfl⟩
    have HD3 := hid hD3
    have HCO3 := hid (And.intro hca3 hco3)
    have HF3 := hid hf3
    clear hD3 hca3 hco3 hf3 d1 d2
    by_cases hb0 : eb = 0
    · subst hb0
      rw [show ((0 : Nat) : Int) = 0 from rfl]
      have k1 := HD3.out.d.p_lens
      have k2 := HD3.out.d.a_lens.cell 256 (by omega)
      simp only [mkN] at k2
      rw [HLA.out.2.2 256 (by omega)] at k2
      have k3 := HD3.out.d.c_phase
      have kf : ∀ i, w3.frozen? ⟨Y + 24, i, none⟩ = false := HD3.out.d.fz
      obtain ⟨l6, hl6⟩ : ∃ z, z = len la 256 := ⟨_, rfl⟩
      rw [← hl6] at k2
      have HE : Hid (errS la lb = if l6 = 0 then 8 else 0) := hid (by unfold errS; rw [← HEA.out, ← HEB.out, ← hl6]; rfl)
      clear hl6
      by_cases h60 : l6 = 0
      · subst h60
        have he := HE.out
        rw [if_pos rfl] at he
        rw [he] at hK
        clear he
        go_wp2_with fail
        exact hK.out _ _ ⟨rfl, by rw [HSR.out, if_neg (by decide)]; exact HD3.out, fun q => by simp at q, HF3.out⟩
      · have he := HE.out
        rw [if_neg h60] at he
        rw [he] at hK
        have hl0 : ((l6 : Int) == 0) = false := by simp; omega
        have hl1 : ¬ (l6 : Int) = 0 := by omega
        have h5 := HD3.out.dec (HD3.out.d.set_phase 5) (rngO ((Fr.refl _ _).set1 4 (.int .i64 ((5 : Nat) : Int)))) rfl rfl rfl (fun q => q)
        have hco5 : CoAt (w3.setCell ⟨Y + 24, 4, none⟩ (.int .i64 ((5 : Nat) : Int))) (Y + 2) la ∧ CoAt (w3.setCell ⟨Y + 24, 4, none⟩ (.int .i64 ((5 : Nat) : Int))) (Y + 13) lb :=
          ⟨HCO3.out.1.fr (S := One (Y + 24)) ((Fr.refl _ _).set1 4 _) (fun k a b q => by unfold One at q; omega), (HCO3.out.2 rfl).fr (S := One (Y + 24)) ((Fr.refl _ _).set1 4 _) (fun k a b q => by unfold One at q; omega)⟩
        have H5 := hid h5
        have HCO5 := hid hco5
        clear he h60 h5 hco5
        go_wp2_with fail
        exact hK.out _ _ ⟨rfl, by rw [HSR.out, if_pos rfl]; exact H5.out, fun _ => HCO5.out, HF3.out.trans (rngD (rngO ((Fr.refl _ _).set1 4 _)))⟩
    · have he : errS la lb = eb := by unfold errS; rw [← HEA.out, ← HEB.out, if_neg (by simp), if_pos hb0]
      rw [he] at hK
      have hb1 : ((eb : Int) == 0) = false := by simp; omega
      have hb2 : ¬ (eb : Int) = 0 := by omega
      have HB0 := hid hb0
      clear he hb0
      go_wp2_with fail
      exact hK.out _ _ ⟨rfl, by rw [HSR.out, if_neg HB0.out]; exact HD3.out, fun q => absurd q HB0.out, HF3.out⟩
  · have he : errS la lb = ea := by unfold errS; rw [← HEA.out, if_pos ha0]
    rw [he] at hK
    have ha1 : ((ea : Int) == 0) = false := by simp; omega
    have ha2 : ¬ (ea : Int) = 0 := by omega
    have HA0 := hid ha0
    clear he ha0
    go_wp2_with fail
    exact hK.out _ _ ⟨rfl, by rw [HSR.out, if_neg HA0.out]; exact HD2.out, fun q => absurd q HA0.out, HF2.out⟩
end Go.Proofs.Qxb6500353aGreat
