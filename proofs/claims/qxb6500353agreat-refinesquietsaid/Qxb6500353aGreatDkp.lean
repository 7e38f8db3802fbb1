/- The law: SamePack, walked. -/
import Derived.Test.Qxb6500353aGreatDka
import Derived.Test.Qxb6500353aGreatKps
namespace Go.Proofs.Qxb6500353aGreat
open Go.RowKit
set_option linter.unusedVariables false
set_option linter.unusedSimpArgs false

/-- Strings and marks of the desk are stored. -/
theorem LawAt.putS {w w2 : World} {M X Z mb b c : Nat} {D0 : Nat → Prop} {R : DkR} (h : LawAt w M X Z mb b D0 R c) (hf : Fr (One b) w w2) (nm dt ar : ByteArray) (pin pl : Bool) (hd : DkAt w2 b { R with nm := nm, dt := dt, ar := ar, pin := pin, pl := pl }) (z1 : nm.size ≤ maxLen) (z2 : dt.size ≤ maxLen) (z3 : ar.size ≤ maxLen) :
    LawAt w2 M X Z mb b D0 { R with nm := nm, dt := dt, ar := ar, pin := pin, pl := pl } c := by
  have hst := h.st.fr (D2 := fun g => Own R g ∨ D0 g) hf (fun g h1 h2 q => by unfold One at q; omega) (fun g h1 h2 hg => hg)
  exact ⟨h.fx.fr hf (fun x h1 h2 q => by unfold One at q; omega), hd, h.li.fr hf (fun g hg q => by have := h.li.lt hg; unfold One at q; omega), h.ln, h.x.fr2 hf (fun g hg hbg q => by unfold One at q; omega), h.xm.fr2 hf (fun g hg hl q => by unfold One at q; have := h.xmb g hg; omega), h.xmb, h.xl, h.y.fr2 hf (fun g hg hbg q => by unfold One at q; omega), h.ym.fr2 hf (fun g hg hl q => by unfold One at q; have := h.ymb g hg; omega), h.ymb, h.yl, ⟨hst.oe, hst.oi, hst.fe, hst.fi, hst.he, hst.hi, hst.hl⟩, h.od, h.a1, h.a2, h.ne, h.ni, h.nae, h.nai, z1, z2, z3⟩
/-- What TookE leaves. -/
theorem LawAt.took {w w2 : World} {M X Z mb b c g n : Nat} {D0 : Nat → Prop} {R R2 : DkR} (h : LawAt w M X Z mb b D0 R c) (h0 : R.xs = []) (h1 : R.ys = []) (hf : Fr (DG b g) w w2) (hg : b < g) (hD : D0 g) (hn : n ≤ 1000)
    (hs : StepE R R2 (.slice (some ⟨g, 0, none⟩) n n)) (ha : Arr 98 mkV w2 g (n * 2) (fun _ => bangV)) (hgw : w.heap.size ≤ g ∨ D0 g) (hd : DkAt w2 b R2) : LawAt w2 M X Z mb b Nob R2 (c + 1) := by
  have k1 : R2 = { R2 with la := R.la, lcap := R.lcap, es := R.es, nm := R.nm, dt := R.dt, ar := R.ar, xs := R.xs, ys := R.ys, xa := R.xa, ya := R.ya, ma := R.ma, na := R.na, ni := R.ni, nai := R.nai } := by rw [hs.same]
  have e1 : R2.la = R.la := by rw [k1]
  have e2 : R2.es = R.es := by rw [k1]
  have e3 : R2.lcap = R.lcap := by rw [k1]
  have e4 : R2.nm = R.nm := by rw [k1]
  have e5 : R2.dt = R.dt := by rw [k1]
  have e6 : R2.ar = R.ar := by rw [k1]
  have e7 : R2.xs = [] := by rw [k1]; exact h0
  have e8 : R2.ys = [] := by rw [k1]; exact h1
  have e9 : R2.ni = R.ni := by rw [k1]
  have e10 : R2.nai = R.nai := by rw [k1]
  have hx0 : R2.xs.length = 0 := by rw [e7]; rfl
  have hy0 : R2.ys.length = 0 := by rw [e8]; rfl
  have hown : ∀ x, Own R2 x → Own R x := fun x hx => by
    rcases hx with q | q | q
    · rw [e1] at q; exact .inl q
    · exact absurd hx0 (bl_some q).1
    · exact absurd hy0 (bl_some q).1
  have hst := h.st.fr (D2 := fun x => Own R2 x ∨ Nob x) hf (fun x h1 h2 q => by
    rcases q with q | q
    · omega
    · rw [q]; exact .inr hD) (fun x h1 h2 hx => by
    rcases hx with q | q
    · exact .inl (hown x q)
    · exact q.elim)
  have hv : StE w2 b (fun x => Own R2 x ∨ Nob x) (.slice (some ⟨g, 0, none⟩) n n) := StE.of ha hg (fun q => q.elim (fun q => h.od g (hown g q) hD) (fun q => q)) hn
  have hst2 := hst.stepE hs hv
  refine ⟨h.fx.fr hf (fun x h1 h2 q => by rcases q with q | q <;> omega), hd, ?_, by rw [e2]; exact h.ln, .inl hx0, .inl e7, fun x hx => absurd hx0 (bl_some hx).1, by omega, .inl hy0, .inl e8, fun x hx => absurd hy0 (bl_some hx).1, by omega, hst2, fun _ _ q => q, fun x hx => ⟨fun q => absurd hx0 (bl_some q).1, fun q => absurd hx0 (bl_some q).1, fun q => absurd hy0 (bl_some q).1, fun q => absurd hy0 (bl_some q).1⟩, fun x hx => absurd hx0 (bl_some hx).1, ?_, ?_, ?_, ?_, ?_, ?_, ?_⟩
  · rw [e1, e2, e3]
    exact h.li.fr hf (fun x hx q => by
      rcases q with q | q
      · have := h.li.lt hx; omega
      · rw [q] at hx; exact h.od g (.inl hx) hD)
  · have := hs.ne; have := h.ne; omega
  · rw [e9]; have := h.ni; omega
  · have := hs.nae; have := h.nae; omega
  · rw [e10]; have := h.nai; omega
  · rw [e4]; exact h.z1
  · rw [e5]; exact h.z2
  · rw [e6]; exact h.z3
theorem packO_len {es : List EB} {lv : Int} (h : errA (es.map toE) lv = 0) : (packO es lv).length ≤ 1200 := by
  obtain ⟨h4, _, _, hok⟩ := errA_ok h
  unfold packO
  rw [if_pos h, packA_length]
  have := text_le (lv := lv.toNat) _ hok
  rw [List.length_map] at this ⊢
  omega
set_option maxRecDepth 100000 in
set_option maxHeartbeats 8000000 in
theorem samePack_any {w : World} {M X Z mb b c : Nat} {R : DkR} (h : LawAt w M X Z mb b Nob R c) (hc : c < 100000000000000) (lv : Int) :
    Calls Tryz.prog 19 #[ptrV Z, ptrV mb, ptrV b, .int .i64 lv] w fun e w' => e = .returned (.bool true) ∧ (∃ R', LawAt w' M X Z mb b Nob R' (c + 2)) ∧ Fr (UpN X) w w' := by
  obtain ⟨N, hN⟩ : ∃ z, w.heap.size = z := ⟨_, rfl⟩
  have hcp := fun (wx : World) (hx : Fr Nob w wx) => copyE_any (cap := R.lcap) (h.li.ent.fr hx (fun _ _ x => x)) h.ln
  have H := hid h
  have HL := hid h.lift
  rw [hN] at HL
  have HC := hid hc
  have HNN := hid hN
  obtain ⟨es, hes⟩ : ∃ z, z = R.es := ⟨_, rfl⟩
  rw [← hes] at hcp
  obtain ⟨n, hn⟩ : ∃ z, z = es.length := ⟨_, rfl⟩
  rw [← hn] at hcp
  have hn5 : n ≤ 5 := by rw [hn, hes]; exact h.ln
  have HES := hid hes
  have HN := hid hn
  have HCP := hid hcp
  have H5 := hid hn5
  have d3 : w.cell? ⟨b, 3, none⟩ = some (.slice R.la n R.lcap) := by rw [hn, hes]; exact h.dk.c 3 _ rfl
  have HBN : Hid (b < N) := hid (by rw [← hN]; exact h.dk.lt)
  obtain ⟨er, her⟩ : ∃ z, z = errA (es.map toE) lv := ⟨_, rfl⟩
  obtain ⟨S, hS⟩ : ∃ z, z = strN (packO es lv) := ⟨_, rfl⟩
  have HER := hid her
  have HSS := hid hS
  clear h hc hes hn hn5 hcp her hS
  refine calls_via fun K hK => ?_
  unfold ptrV
  go_enter Tryz.func19, Tryz.ntmps19
  go_wp2_with fail
  refine (HCP.out w (Fr.refl _ _)).mono ?_
  rintro e w1 ⟨rfl, a1, f1⟩
  rw [hN] at a1 ⊢
  have d3 := f1.cell d3 (fun x => x)
  have A1 := hid a1
  have F1 := hid f1
  clear a1 f1 hN
  go_wp2_with fail
  refine (HCP.out w1 F1.out).mono ?_
  rintro e w2 ⟨rfl, a2, f2⟩
  obtain ⟨N2, hN2⟩ : ∃ z, w1.heap.size = z := ⟨_, rfl⟩
  rw [hN2] at a2 ⊢
  have HN2 := hid hN2
  have h2 := HL.out.fr0 (F1.out.trans f2)
  obtain ⟨A, hA⟩ := h2.fx.ar
  have a1 := A1.out.fr f2 (fun x => x)
  have ent : ∀ (wx : World) (g : Nat), Arr 98 mkV wx g ((n + 2) * 2) (entV (es ++ [bangE, bangE])) → EntS wx (some ⟨g, 0, none⟩) es := fun wx g ha => by
    refine .inr ⟨g, rfl, ha.lt, fun i hi => ?_⟩
    rw [Nat.zero_add, ← entV_app (fs := [bangE, bangE]) hi]
    exact ha.cell i (by have := HN.out; omega)
  have hpk := packA_any (cap := n + 2) hA (ent w2 N a1) (fun g hg q => by
    have q3 : some N = some g := hg
    injection q3 with q3
    have h1 := q.2; have h2 := H.out.fx.zb; have h3 := HBN.out; omega) (lv := lv)
  rw [← HN.out, ← HER.out, ← HSS.out] at hpk
  unfold ptrV at hpk
  have HPK := hid hpk
  have H2 := hid h2
  have HENT := hid ent
  have A1 := hid a1
  have A2 := hid a2
  have F2 := hid (F1.out.trans f2)
  clear h2 hA a1 a2 f2 ent hpk d3 hN2
  go_wp2_with fail
  refine HPK.out.mono ?_
  rintro e w3 ⟨rfl, har, f3⟩
  have h3 := H2.out.tower har f3
  have hup : ∀ g, N ≤ g → ¬ Rng X (Z + 5) g := fun g hg q => by
    have h1 := q.2; have h2 := H.out.fx.zb; have h3 := HBN.out; omega
  have hN2 : N ≤ N2 := by have h1 := F1.out.size; have h2 := HN2.out; have h3 := HNN.out; omega
  have a1 := A1.out.fr f3 (hup N (Nat.le_refl _))
  have a2 := A2.out.fr f3 (hup N2 hN2)
  have hmp := mpackA_any (cap := n + 2) (h3.fx.ma.ma) (HENT.out w3 N2 a2) (lv := lv)
  rw [← HN.out, ← HER.out, ← HSS.out] at hmp
  unfold ptrV at hmp
  have HMP := hid hmp
  have H3 := hid h3
  have A1 := hid a1
  have F3 := hid f3
  clear har f3 h3 hup hN2 a1 a2 hmp
  go_wp2_with fail
  refine HMP.out.mono ?_
  rintro e w4 ⟨rfl, f4⟩
  have h4 := H3.out.fr0 f4
  have hag := again_any h4 HC.out
  unfold ptrV at hag
  have HAG := hid hag
  have A1 := hid (A1.out.fr f4 (fun x => x))
  have F4 := hid f4
  clear f4 h4 hag
  go_wp2_with fail
  refine HAG.out.mono ?_
  rintro e w5 ⟨rfl, ⟨R5, h5, hes5, hla5, hlc5, har5, hx5, hy5⟩, f5⟩
  have a5 := A1.out.fr f5 (fun q => by
    rcases q with q | q | q
    · have := HBN.out; omega
    · have := (H.out.x.lt q).2; have := HNN.out; omega
    · have := (H.out.y.lt q).2; have := HNN.out; omega)
  have he5 : EntS w5 R.la es := by
    have h9 := h5.li.ent
    rw [hes5, hla5, ← HES.out] at h9; exact h9
  have d3 : w5.cell? ⟨b, 3, none⟩ = some (.slice R.la n R.lcap) := by
    have h9 := h5.dk.c 3 _ rfl
    rw [hes5, hla5, hlc5, ← HES.out, ← HN.out] at h9; exact h9
  have hse := sameE_any (cap := n + 2) (cap2 := R.lcap) (HENT.out w5 N a5) he5 (by have := H5.out; have := HN.out; omega)
  rw [← HN.out] at hse
  have HSE := hid hse
  have H5W := hid h5
  have A5 := hid a5
  have HE5 := hid (And.intro hes5 (And.intro hla5 (And.intro hlc5 (And.intro hx5 hy5))))
  have F5 : Hid (Fr (UpN X) w w5) := hid ((((F2.out.mono (fun x hx _ => hx.elim)).trans (F3.out.mono (fun x hx _ => hx.1))).trans (F4.out.mono (fun x hx _ => hx.elim))).trans (f5.mono (fun x hx _ => by
    have hxz := H.out.fx.xz
    have hzb := H.out.fx.zb
    rcases hx with q | q | q
    · omega
    · have := (H.out.x.lt q).1; omega
    · have := (H.out.y.lt q).1; omega)))
  clear h5 hes5 hla5 hlc5 har5 hx5 hy5 f5 a5 he5 hse
  have heq : ((er : Int) != (er : Int)) = false := by simp
  go_wp2_with fail
  refine HSE.out.mono ?_
  rintro e w6 ⟨rfl, q, hq⟩
  have f6 : Fr Nob w5 w6 := by rw [hq]; exact Fr.of_drewN
  have a6 := A5.out.fr f6 (fun x => x)
  have h6 := H5W.out.fr0 f6
  have hsp := spare_any a6 HN.out H5.out
  have htk := tookE_any (m := n) (n := n + 2) h6.dk a6 (by have := HBN.out; omega) (by omega) (by have := H5.out; omega) (by omega) (by have := h6.ne; have := HC.out; omega)
  unfold ptrV at htk
  have HSP := hid hsp
  have HTK := hid htk
  have H6 := hid h6
  have F6 := hid (F5.out.trans (f6.mono (fun x hx _ => hx.elim)))
  clear hq f6 a6 h6 hsp htk d3
  go_wp2_with fail
  refine HSP.out.mono ?_
  rintro e w7 ⟨rfl, hw⟩
  have hw2 := hw.symm
  subst hw2
  clear hw
  go_wp2_with fail
  refine HTK.out.mono ?_
  rintro e w7 ⟨rfl, ⟨R7, hd7, hst7⟩, a7, f7⟩
  have hes7 : R7.es = es := by rw [hst7.same]; exact HE5.out.1.trans HES.out.symm
  have hla7 : R7.la = R.la := by rw [hst7.same]; exact HE5.out.2.1
  have hlc7 : R7.lcap = R.lcap := by rw [hst7.same]; exact HE5.out.2.2.1
  have hbn := HBN.out
  have h7 := H6.out.took HE5.out.2.2.2.1 HE5.out.2.2.2.2 f7 hbn (show UpN N N from Nat.le_refl _) (by have := H5.out; omega) hst7 a7 (.inr (Nat.le_refl _)) hd7
  have F7 : Hid (Fr (UpN X) w w7) := hid (F6.out.trans (f7.mono (fun x hx _ => by
    have hxz := H.out.fx.xz
    have hzb := H.out.fx.zb
    show X ≤ x
    rcases hx with q | q
    · omega
    · omega)))
  have H7 := hid h7
  have HE7 := hid (And.intro hes7 (And.intro hla7 hlc7))
  clear hd7 hst7 a7 f7 hes7 hla7 hlc7 hbn h7 heq
  by_cases c1 : er = 0
  · subst c1
    have hsz : S.size ≤ maxLen := by rw [HSS.out, strN_size]; have := packO_len HER.out.symm; unfold maxLen; omega
    have c2 := H7.out.dk.c 2 _ rfl
    have cz : ∀ i, w7.frozen? ⟨b, i, none⟩ = false := H7.out.dk.fz
    obtain ⟨w8, hw8⟩ : ∃ z, z = w7.setCell ⟨b, 2, none⟩ (.string S) := ⟨_, rfl⟩
    have f8 : Fr (One b) w7 w8 := by rw [hw8]; exact (Fr.refl _ _).set1 2 _
    have hd8 : DkAt w8 b { R7 with nm := R7.nm, dt := R7.dt, ar := S, pin := R7.pin, pl := R7.pl } := by rw [hw8]; exact DkAt.put H7.out.dk 2 (.string S) (by omega) (by simp [dkL])
    have h8 := H7.out.putS f8 R7.nm R7.dt S R7.pin R7.pl hd8 H7.out.z1 H7.out.z2 hsz
    have d3 : w8.cell? ⟨b, 3, none⟩ = some (.slice R.la n R.lcap) := by
      have h9 := hd8.c 3 _ rfl
      dsimp only at h9
      rw [HE7.out.1, HE7.out.2.1, HE7.out.2.2, ← HN.out] at h9; exact h9
    have he8 : EntS w8 R.la es := by
      have h9 := h8.li.ent
      dsimp only at h9
      rw [HE7.out.1, HE7.out.2.1] at h9; exact h9
    have hkp := keeps_any (mb := mb) (cap := R.lcap) he8 HER.out.symm
    rw [← HN.out, ← HSS.out] at hkp
    unfold ptrV at hkp
    have HKP := hid hkp
    have H8 := hid h8
    have F8 := hid (F7.out.trans (f8.mono (fun x hx _ => by
      have hxz := H.out.fx.xz
      have hzb := H.out.fx.zb
      unfold One at hx
      unfold UpN; omega)))
    have hw8' := hw8.symm
    clear hw8 f8 hd8 h8 he8 hkp hsz
    go_wp2_with fail
    refine HKP.out.mono ?_
    rintro e w9 ⟨rfl, f9⟩
    have h9 := H8.out.fr0 f9
    have F9 := hid (F8.out.trans (f9.mono (fun x hx _ => hx.elim)))
    have H9 := hid h9
    clear h9 f9
    go_wp2_with fail
    exact hK.out _ _ ⟨rfl, ⟨_, H9.out⟩, F9.out⟩
  · have c1i : ((er : Int) == 0) = false := beq_eq_false_iff_ne.2 (by omega)
    have c1j : ((er : Int) != 0) = true := by rw [bne, c1i]; rfl
    clear c1
    go_wp2_with fail
    exact hK.out _ _ ⟨rfl, ⟨_, H7.out⟩, F7.out⟩
end Go.Proofs.Qxb6500353aGreat
