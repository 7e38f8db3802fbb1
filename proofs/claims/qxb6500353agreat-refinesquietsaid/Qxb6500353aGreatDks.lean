/- The law: SameList, SameUnpack, walked. -/
import Derived.Test.Qxb6500353aGreatDka
namespace Go.Proofs.Qxb6500353aGreat
open Go.RowKit
set_option linter.unusedVariables false
set_option linter.unusedSimpArgs false

theorem LawAt.putI {w w2 : World} {M X Z mb b c : Nat} {D0 : Nat → Prop} {R : DkR} (h : LawAt w M X Z mb b D0 R c) (h0 : R.xs = []) (h1 : R.ys = []) (hf : Fr (One b) w w2) {a1 a2 : Option Addr} {L : List IB} (hd : DkAt w2 b { R with ya := a1, na := a2, ys := L })
    (hr : RowI w b a1 L) (hD : ∀ g, bl a1 L.length = some g → D0 g) (hi : InfS w a2 L) (hib : ∀ g, bl a2 L.length = some g → b < g ∧ D0 g) (hl : L.length ≤ 4) : LawAt w2 M X Z mb b Nob { R with ya := a1, na := a2, ys := L } c := by
  have hx0 : R.xs.length = 0 := by rw [h0]; rfl
  have hy0 : R.ys.length = 0 := by rw [h1]; rfl
  have hst := h.st.fr (D2 := fun g => Own { R with ya := a1, na := a2, ys := L } g ∨ Nob g) hf (fun g h1 h2 q => by unfold One at q; omega) (fun g h1 h2 hg => by
    rcases hg with hg | hg
    · rcases hg with hg | hg | hg; exact .inl (.inl hg); exact absurd hx0 (bl_some hg).1; exact .inr (hD g hg)
    · exact hg.elim)
  exact ⟨h.fx.fr hf (fun x h1 h2 q => by unfold One at q; omega), hd, h.li.fr hf (fun g hg q => by have := h.li.lt hg; unfold One at q; omega), h.ln, .inl hx0, .inl (List.eq_nil_of_length_eq_zero hx0), fun g hg => absurd hx0 (bl_some hg).1, by show R.xs.length ≤ 4; omega, hr.fr2 hf (fun g hg hbg q => by unfold One at q; omega), hi.fr2 hf (fun g hg hl q => by unfold One at q; have := (hib g hg).1; omega), fun g hg => (hib g hg).1, hl, ⟨hst.oe, hst.oi, hst.fe, hst.fi, hst.he, hst.hi, hst.hl⟩, fun g _ q => q, fun g hg => ⟨fun q => absurd hx0 (bl_some q).1, fun q => absurd hx0 (bl_some q).1, fun q => h.od g (.inl hg) (hD g q), fun q => h.od g (.inl hg) (hib g q).2⟩, fun g hg q => absurd hx0 (bl_some hg).1, h.ne, h.ni, h.nae, h.nai, h.z1, h.z2, h.z3⟩
theorem LawAt.putE {w w2 : World} {M X Z mb b c : Nat} {D0 : Nat → Prop} {R : DkR} (h : LawAt w M X Z mb b D0 R c) (h0 : R.xs = []) (h1 : R.ys = []) (hf : Fr (One b) w w2) {a1 a2 : Option Addr} {L : List EB} (hd : DkAt w2 b { R with xa := a1, ma := a2, xs := L })
    (hr : RowE w b a1 L) (hD : ∀ g, bl a1 L.length = some g → D0 g) (hi : EntS w a2 L) (hib : ∀ g, bl a2 L.length = some g → b < g ∧ D0 g) (hl : L.length ≤ 4) : LawAt w2 M X Z mb b Nob { R with xa := a1, ma := a2, xs := L } c := by
  have hx0 : R.xs.length = 0 := by rw [h0]; rfl
  have hy0 : R.ys.length = 0 := by rw [h1]; rfl
  have hst := h.st.fr (D2 := fun g => Own { R with xa := a1, ma := a2, xs := L } g ∨ Nob g) hf (fun g h1 h2 q => by unfold One at q; omega) (fun g h1 h2 hg => by
    rcases hg with hg | hg
    · rcases hg with hg | hg | hg; exact .inl (.inl hg); exact .inr (hD g hg); exact absurd hy0 (bl_some hg).1
    · exact hg.elim)
  exact ⟨h.fx.fr hf (fun x h1 h2 q => by unfold One at q; omega), hd, h.li.fr hf (fun g hg q => by have := h.li.lt hg; unfold One at q; omega), h.ln, hr.fr2 hf (fun g hg hbg q => by unfold One at q; omega), hi.fr2 hf (fun g hg hl q => by unfold One at q; have := (hib g hg).1; omega), fun g hg => (hib g hg).1, hl, .inl hy0, .inl (List.eq_nil_of_length_eq_zero hy0), fun g hg => absurd hy0 (bl_some hg).1, by show R.ys.length ≤ 4; omega, ⟨hst.oe, hst.oi, hst.fe, hst.fi, hst.he, hst.hi, hst.hl⟩, fun g _ q => q, fun g hg => ⟨fun q => h.od g (.inl hg) (hD g q), fun q => h.od g (.inl hg) (hib g q).2, fun q => absurd hy0 (bl_some q).1, fun q => absurd hy0 (bl_some q).1⟩, fun g hg q => absurd hy0 (bl_some q).1, h.ne, h.ni, h.nae, h.nai, h.z1, h.z2, h.z3⟩
set_option maxRecDepth 100000 in
set_option maxHeartbeats 8000000 in
theorem sameList_any {w : World} {M X Z mb b c : Nat} {R : DkR} (h : LawAt w M X Z mb b Nob R c) (hc : c < 100000000000000) :
    Calls Tryz.prog 20 #[ptrV Z, ptrV mb, ptrV b] w fun e w' => e = .returned (.bool true) ∧ (∃ R', LawAt w' M X Z mb b Nob R' (c + 1)) ∧ Fr (UpN X) w w' := by
  obtain ⟨N, hN⟩ : ∃ z, w.heap.size = z := ⟨_, rfl⟩
  obtain ⟨A, hA⟩ := h.fx.ar
  obtain ⟨s, hs⟩ : ∃ z, z = R.ar := ⟨_, rfl⟩
  have hl1 := listA_any hA (s := s)
  have hl2 := fun wx => mlistA_any (w := wx) (b := mb) (s := s)
  have H := hid h
  have HL := hid h.lift
  rw [hN] at HL
  have HC := hid hc
  have HNN := hid hN
  have HS := hid hs
  have hn4 : (lstB s).length ≤ 4 := by
    unfold lstB
    split
    · simp
    · rename_i hx
      rw [List.length_map]
      exact (readA_ok (bytesOf s) (Classical.byContradiction hx)).2.2.1
  obtain ⟨n, hn⟩ : ∃ z, z = (lstB s).length := ⟨_, rfl⟩
  obtain ⟨er, her⟩ : ∃ z, z = (lstA (bytesOf s)).1 := ⟨_, rfl⟩
  obtain ⟨ps, hps⟩ : ∃ z, z = (lstA (bytesOf s)).2.1 := ⟨_, rfl⟩
  rw [← hn, ← her, ← hps] at hl1 hl2
  rw [← hn] at hn4
  have HN := hid hn
  unfold ptrV at hl1 hl2
  have HL1 := hid hl1
  have HL2 := hid hl2
  have d2 : w.cell? ⟨b, 2, none⟩ = some (.string s) := by rw [hs]; exact h.dk.c 2 _ rfl
  have hni : (n : Int) ≤ 4 := by omega
  have H4 := hid hn4
  have HBN : Hid (b < N) := hid (by rw [← hN]; exact h.dk.lt)
  clear h hc hA hs hn her hps hl1 hl2 hn4 hN
  refine calls_via fun K hK => ?_
  unfold ptrV
  go_enter Tryz.func20, Tryz.ntmps20
  go_wp2_with fail
  refine HL1.out.mono ?_
  rintro e w1 ⟨a1, rfl, hn1, har, f1⟩
  have h1 := HL.out.tower har f1
  have d2 : w1.cell? ⟨b, 2, none⟩ = some (.string s) := by rw [HS.out]; exact h1.dk.c 2 _ rfl
  have H1 := hid h1
  have N1 := hid hn1
  have F1 := hid f1
  clear h1 hn1 har f1
  go_wp2_with fail
  refine (HL2.out w1).mono ?_
  rintro e w2 ⟨a2, rfl, hn2, f2⟩
  have h2 := H1.out.fr0 f2
  have hag := again_any h2 HC.out
  unfold ptrV at hag
  have HAG := hid hag
  have N2 := hid hn2
  have F2 := hid f2
  clear h2 hn2 f2 d2 hag
  go_wp2_with fail
  refine HAG.out.mono ?_
  rintro e w3 ⟨rfl, ⟨R3, h3, _, _, _, _, hx3, hy3⟩, f3⟩
  have hhs : ∀ g, N ≤ g → ¬ HandS b R g := fun g hg q => by
    rcases q with q | q | q
    · have := HBN.out; omega
    · have := (H.out.x.lt q).2; have := HNN.out; omega
    · have := (H.out.y.lt q).2; have := HNN.out; omega
  have hr3 : RowI w3 b a1 (lstB s) := by
    rcases N1.out with e | ⟨g, e1, e2, e3⟩
    · exact .inl (by rw [← HN.out]; exact e)
    · have hg : N ≤ g := by rw [← HNN.out]; exact e1
      have e4 := (e3.fr F2.out (fun x => x)).fr f3 (hhs g hg)
      exact .inr ⟨g, e2, by have := HBN.out; omega, e4.lt, by rw [← HN.out]; exact e4⟩
  have hi3 : InfS w3 a2 (lstB s) := by
    rcases N2.out with e | ⟨g, e1, e2, e3⟩
    · exact .inl (List.eq_nil_of_length_eq_zero (by rw [← HN.out]; exact e))
    · have hg : N ≤ g := by have h9 := F1.out.size; have := HNN.out; omega
      have e4 := e3.fr f3 (hhs g hg)
      exact .inr ⟨g, e2, e4.lt, by rw [← HN.out]; exact e4.cel⟩
  have hD : ∀ g, bl a1 (lstB s).length = some g → UpN N g := fun g hg => by
    obtain ⟨q1, q2⟩ := bl_some hg
    rcases N1.out with e | ⟨g2, e1, e2, e3⟩
    · exact absurd e (by rw [HN.out]; exact q1)
    · rw [e2] at q2
      have q3 : some g2 = some g := q2
      injection q3 with q3
      have := HNN.out
      unfold UpN; omega
  have hib : ∀ g, bl a2 (lstB s).length = some g → b < g ∧ UpN N g := fun g hg => by
    obtain ⟨q1, q2⟩ := bl_some hg
    rcases N2.out with e | ⟨g2, e1, e2, e3⟩
    · exact absurd e (by rw [HN.out]; exact q1)
    · rw [e2] at q2
      have q3 : some g2 = some g := q2
      injection q3 with q3
      have h9 := F1.out.size
      have := HNN.out
      have := HBN.out
      unfold UpN; omega
  have HR3 := hid hr3
  have HI3 := hid hi3
  have HD := hid hD
  have HIB := hid hib
  have H3 := hid h3
  have HXY := hid (And.intro hx3 hy3)
  have HF3 : Hid (Fr (UpN X) w w3) := hid (((F1.out.mono (fun x hx _ => hx.1)).trans (F2.out.mono (fun x hx _ => hx.elim))).trans (f3.mono (fun x hx _ => by
    have hxz := H.out.fx.xz
    have hzb := H.out.fx.zb
    rcases hx with q | q | q
    · omega
    · have := (H.out.x.lt q).1; omega
    · have := (H.out.y.lt q).1; omega)))
  have hse := sameI_any (cap := n) (cap2 := n) (hr3.inf) hi3 (by have := H4.out; have := HN.out; omega)
  rw [← HN.out] at hse
  have HSE := hid hse
  clear hr3 hi3 hD hib h3 hx3 hy3 f3 hhs hse
  go_wp2_with fail
  refine HSE.out.mono ?_
  rintro e w4 ⟨rfl, q, hq⟩
  have f4 : Fr Nob w3 w4 := by rw [hq]; exact Fr.of_drewN
  have h4 := H3.out.fr0 f4
  have c6 := h4.dk.c 6 _ rfl
  have c7 := h4.dk.c 7 _ rfl
  have cz : ∀ i, w4.frozen? ⟨b, i, none⟩ = false := h4.dk.fz
  obtain ⟨v6, hv6⟩ : ∃ z, z = Value.slice R3.ya R3.ys.length R3.ys.length := ⟨_, rfl⟩
  obtain ⟨v7, hv7⟩ : ∃ z, z = Value.slice R3.na R3.ys.length R3.ys.length := ⟨_, rfl⟩
  rw [← hv6] at c6
  rw [← hv7] at c7
  have H4L := hid h4
  have F4 := hid f4
  clear hq f4 h4 hv6 hv7
  go_wp2_with fail
  have hd5 : DkAt ((w4.setCell ⟨b, 6, none⟩ (.slice a1 n n)).setCell ⟨b, 7, none⟩ (.slice a2 n n)) b { R3 with ya := a1, na := a2, ys := lstB s } := by
    have h9 := (CellsAt.set H4L.out.dk 6 (by simp [dkL]) (.slice a1 n n)).set 7 (by simp [dkL]) (.slice a2 n n)
    have h8 : ((dkL R3).set 6 (.slice a1 n n)).set 7 (.slice a2 n n) = dkL { R3 with ya := a1, na := a2, ys := lstB s } := by rw [HN.out]; simp [dkL]
    rw [h8] at h9; exact h9
  have f5 : Fr (One b) w4 ((w4.setCell ⟨b, 6, none⟩ (.slice a1 n n)).setCell ⟨b, 7, none⟩ (.slice a2 n n)) := ((Fr.refl (One b) w4).set1 6 _).set1 7 _
  have h5 := H4L.out.putI HXY.out.1 HXY.out.2 f5 hd5 (HR3.out.fr F4.out (fun _ _ _ x => x)) HD.out (HI3.out.fr F4.out (fun _ _ x => x)) HIB.out (by have := H4.out; have := HN.out; omega)
  exact hK.out _ _ ⟨rfl, ⟨_, h5⟩, (HF3.out.trans (F4.out.mono (fun x hx _ => hx.elim))).trans (f5.mono (fun x hx _ => by
    have hxz := H.out.fx.xz
    have hzb := H.out.fx.zb
    unfold One at hx
    unfold UpN; omega))⟩
set_option maxRecDepth 100000 in
set_option maxHeartbeats 8000000 in
theorem sameUnpack_any {w : World} {M X Z mb b c : Nat} {R : DkR} (h : LawAt w M X Z mb b Nob R c) (hc : c < 100000000000000) :
    Calls Tryz.prog 21 #[ptrV Z, ptrV mb, ptrV b] w fun e w' => e = .returned (.bool true) ∧ (∃ R', LawAt w' M X Z mb b Nob R' (c + 1)) ∧ Fr (UpN X) w w' := by
  obtain ⟨N, hN⟩ : ∃ z, w.heap.size = z := ⟨_, rfl⟩
  obtain ⟨A, hA⟩ := h.fx.ar
  obtain ⟨s, hs⟩ : ∃ z, z = R.ar := ⟨_, rfl⟩
  have hl1 := unpackA_any hA (s := s)
  have hl2 := fun wx => munpackA_any (w := wx) (b := mb) (s := s)
  have H := hid h
  have HL := hid h.lift
  rw [hN] at HL
  have HC := hid hc
  have HNN := hid hN
  have HS := hid hs
  have hn4 : (unpB s).length ≤ 4 := by
    unfold unpB
    split
    · simp
    · rename_i hx
      rw [List.length_map]
      exact (readA_ok (bytesOf s) (by unfold unpA at hx; by_cases q : (readA (bytesOf s)).1 ≠ 0; (rw [if_pos q] at hx; exact absurd q hx); exact Classical.byContradiction q)).2.2.1
  obtain ⟨n, hn⟩ : ∃ z, z = (unpB s).length := ⟨_, rfl⟩
  obtain ⟨er, her⟩ : ∃ z, z = (unpA (bytesOf s)).1 := ⟨_, rfl⟩
  obtain ⟨ps, hps⟩ : ∃ z, z = (unpA (bytesOf s)).2.1 := ⟨_, rfl⟩
  rw [← hn, ← her, ← hps] at hl1 hl2
  rw [← hn] at hn4
  have HN := hid hn
  unfold ptrV at hl1 hl2
  have HL1 := hid hl1
  have HL2 := hid hl2
  have d2 : w.cell? ⟨b, 2, none⟩ = some (.string s) := by rw [hs]; exact h.dk.c 2 _ rfl
  have hni : (n : Int) ≤ 4 := by omega
  have H4 := hid hn4
  have HBN : Hid (b < N) := hid (by rw [← hN]; exact h.dk.lt)
  clear h hc hA hs hn her hps hl1 hl2 hn4 hN
  refine calls_via fun K hK => ?_
  unfold ptrV
  go_enter Tryz.func21, Tryz.ntmps21
  go_wp2_with fail
  refine HL1.out.mono ?_
  rintro e w1 ⟨a1, rfl, hn1, har, f1⟩
  have h1 := HL.out.tower har f1
  have d2 : w1.cell? ⟨b, 2, none⟩ = some (.string s) := by rw [HS.out]; exact h1.dk.c 2 _ rfl
  have H1 := hid h1
  have N1 := hid hn1
  have F1 := hid f1
  clear h1 hn1 har f1
  go_wp2_with fail
  refine (HL2.out w1).mono ?_
  rintro e w2 ⟨a2, rfl, hn2, f2⟩
  have h2 := H1.out.fr0 f2
  have hag := again_any h2 HC.out
  unfold ptrV at hag
  have HAG := hid hag
  have N2 := hid hn2
  have F2 := hid f2
  clear h2 hn2 f2 d2 hag
  go_wp2_with fail
  refine HAG.out.mono ?_
  rintro e w3 ⟨rfl, ⟨R3, h3, _, _, _, _, hx3, hy3⟩, f3⟩
  have hhs : ∀ g, N ≤ g → ¬ HandS b R g := fun g hg q => by
    rcases q with q | q | q
    · have := HBN.out; omega
    · have := (H.out.x.lt q).2; have := HNN.out; omega
    · have := (H.out.y.lt q).2; have := HNN.out; omega
  have hr3 : RowE w3 b a1 (unpB s) := by
    rcases N1.out with e | ⟨g, e1, e2, e3⟩
    · exact .inl (by rw [← HN.out]; exact e)
    · have hg : N ≤ g := by rw [← HNN.out]; exact e1
      have e4 := (e3.fr F2.out (fun x => x)).fr f3 (hhs g hg)
      exact .inr ⟨g, e2, by have := HBN.out; omega, e4.lt, by rw [← HN.out]; exact e4⟩
  have hi3 : EntS w3 a2 (unpB s) := by
    rcases N2.out with e | ⟨g, e1, e2, e3⟩
    · exact .inl (List.eq_nil_of_length_eq_zero (by rw [← HN.out]; exact e))
    · have hg : N ≤ g := by have h9 := F1.out.size; have := HNN.out; omega
      have e4 := e3.fr f3 (hhs g hg)
      exact .inr ⟨g, e2, e4.lt, by rw [← HN.out]; exact e4.cel⟩
  have hD : ∀ g, bl a1 (unpB s).length = some g → UpN N g := fun g hg => by
    obtain ⟨q1, q2⟩ := bl_some hg
    rcases N1.out with e | ⟨g2, e1, e2, e3⟩
    · exact absurd e (by rw [HN.out]; exact q1)
    · rw [e2] at q2
      have q3 : some g2 = some g := q2
      injection q3 with q3
      have := HNN.out
      unfold UpN; omega
  have hib : ∀ g, bl a2 (unpB s).length = some g → b < g ∧ UpN N g := fun g hg => by
    obtain ⟨q1, q2⟩ := bl_some hg
    rcases N2.out with e | ⟨g2, e1, e2, e3⟩
    · exact absurd e (by rw [HN.out]; exact q1)
    · rw [e2] at q2
      have q3 : some g2 = some g := q2
      injection q3 with q3
      have h9 := F1.out.size
      have := HNN.out
      have := HBN.out
      unfold UpN; omega
  have HR3 := hid hr3
  have HI3 := hid hi3
  have HD := hid hD
  have HIB := hid hib
  have H3 := hid h3
  have HXY := hid (And.intro hx3 hy3)
  have HF3 : Hid (Fr (UpN X) w w3) := hid (((F1.out.mono (fun x hx _ => hx.1)).trans (F2.out.mono (fun x hx _ => hx.elim))).trans (f3.mono (fun x hx _ => by
    have hxz := H.out.fx.xz
    have hzb := H.out.fx.zb
    rcases hx with q | q | q
    · omega
    · have := (H.out.x.lt q).1; omega
    · have := (H.out.y.lt q).1; omega)))
  have hse := sameE_any (cap := n) (cap2 := n) (hr3.ent) hi3 (by have := H4.out; have := HN.out; omega)
  rw [← HN.out] at hse
  have HSE := hid hse
  clear hr3 hi3 hD hib h3 hx3 hy3 f3 hhs hse
  go_wp2_with fail
  refine HSE.out.mono ?_
  rintro e w4 ⟨rfl, q, hq⟩
  have f4 : Fr Nob w3 w4 := by rw [hq]; exact Fr.of_drewN
  have h4 := H3.out.fr0 f4
  have c6 := h4.dk.c 4 _ rfl
  have c7 := h4.dk.c 5 _ rfl
  have cz : ∀ i, w4.frozen? ⟨b, i, none⟩ = false := h4.dk.fz
  obtain ⟨v6, hv6⟩ : ∃ z, z = Value.slice R3.xa R3.xs.length R3.xs.length := ⟨_, rfl⟩
  obtain ⟨v7, hv7⟩ : ∃ z, z = Value.slice R3.ma R3.xs.length R3.xs.length := ⟨_, rfl⟩
  rw [← hv6] at c6
  rw [← hv7] at c7
  have H4L := hid h4
  have F4 := hid f4
  clear hq f4 h4 hv6 hv7
  go_wp2_with fail
  have hd5 : DkAt ((w4.setCell ⟨b, 4, none⟩ (.slice a1 n n)).setCell ⟨b, 5, none⟩ (.slice a2 n n)) b { R3 with xa := a1, ma := a2, xs := unpB s } := by
    have h9 := (CellsAt.set H4L.out.dk 4 (by simp [dkL]) (.slice a1 n n)).set 5 (by simp [dkL]) (.slice a2 n n)
    have h8 : ((dkL R3).set 4 (.slice a1 n n)).set 5 (.slice a2 n n) = dkL { R3 with xa := a1, ma := a2, xs := unpB s } := by rw [HN.out]; simp [dkL]
    rw [h8] at h9; exact h9
  have f5 : Fr (One b) w4 ((w4.setCell ⟨b, 4, none⟩ (.slice a1 n n)).setCell ⟨b, 5, none⟩ (.slice a2 n n)) := ((Fr.refl (One b) w4).set1 4 _).set1 5 _
  have h5 := H4L.out.putE HXY.out.1 HXY.out.2 f5 hd5 (HR3.out.fr F4.out (fun _ _ _ x => x)) HD.out (HI3.out.fr F4.out (fun _ _ x => x)) HIB.out (by have := H4.out; have := HN.out; omega)
  exact hK.out _ _ ⟨rfl, ⟨_, h5⟩, (HF3.out.trans (F4.out.mono (fun x hx _ => hx.elim))).trans (f5.mono (fun x hx _ => by
    have hxz := H.out.fx.xz
    have hzb := H.out.fx.zb
    unfold One at hx
    unfold UpN; omega))⟩
end Go.Proofs.Qxb6500353aGreat
