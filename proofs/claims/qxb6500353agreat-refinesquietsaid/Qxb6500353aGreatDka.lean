/- The law: Again, walked. -/
import Derived.Test.Qxb6500353aGreatDkw
namespace Go.Proofs.Qxb6500353aGreat
open Go.RowKit
set_option linter.unusedVariables false
set_option linter.unusedSimpArgs false

def HandS (b : Nat) (R : DkR) : Nat → Prop := fun x => x = b ∨ bl R.xa R.xs.length = some x ∨ bl R.ya R.ys.length = some x
/-- The four answers at hand are put away. -/
def DkR.clear (R : DkR) : DkR := { R with xa := none, ma := none, xs := [], ya := none, na := none, ys := [] }
theorem dkL_clear (R : DkR) : ((((dkL R).set 4 (.slice none 0 0)).set 5 (.slice none 0 0)).set 6 (.slice none 0 0)).set 7 (.slice none 0 0) = dkL R.clear := by
  simp [dkL, DkR.clear]
theorem StE.of {w : World} {b g n : Nat} {D : Nat → Prop} (ha : Arr 98 mkV w g (n * 2) (fun _ => bangV)) (hb : b < g) (hD : ¬ D g) (hn : n ≤ 1000) : StE w b D (.slice (some ⟨g, 0, none⟩) n n) :=
  ⟨_, _, _, rfl, hn, .inr ⟨g, rfl, hb, ha.lt, hD, ha.cel⟩⟩
theorem StI.of {w : World} {b g n : Nat} {D : Nat → Prop} (ha : Arr 115 mkV w g (n * 3) bangI) (hb : b < g) (hD : ¬ D g) (hn : n ≤ 1000) : StI w b D (.slice (some ⟨g, 0, none⟩) n n) :=
  ⟨_, _, _, rfl, hn, .inr ⟨g, rfl, hb, ha.lt, hD, ha.cel⟩⟩
/-- What Again leaves. -/
theorem LawAt.again {w w4 w5 w6 : World} {M X Z mb b c : Nat} {D0 : Nat → Prop} {R R2 R3 : DkR} (h : LawAt w M X Z mb b D0 R c)
    (h2 : StepE { R with pin := false } R2 (.slice R.xa R.xs.length R.xs.length)) (hb2 : R.xs.length = 0 ∨ ∃ g, R.xa = some ⟨g, 0, none⟩ ∧ Arr 98 mkV w4 g (R.xs.length * 2) (fun _ => bangV)) (hf2 : Fr (fun x => x = b ∨ (R.xs.length ≠ 0 ∧ obk R.xa = some x)) w w4)
    (h3 : StepI R2 R3 (.slice R.ya R.ys.length R.ys.length)) (hb3 : R.ys.length = 0 ∨ ∃ g, R.ya = some ⟨g, 0, none⟩ ∧ Arr 115 mkV w5 g (R.ys.length * 3) bangI) (hf3 : Fr (fun x => x = b ∨ (R.ys.length ≠ 0 ∧ obk R.ya = some x)) w4 w5)
    (hf6 : Fr (One b) w5 w6) (hd : DkAt w6 b R3.clear) : LawAt w6 M X Z mb b D0 R3.clear (c + 1) ∧ Fr (HandS b R) w w6 := by
  have hF : Fr (HandS b R) w w6 := ((hf2.mono (fun x hx _ => hx.imp id (fun q => .inl (bl_of q.1 q.2)))).trans (hf3.mono (fun x hx _ => hx.imp id (fun q => .inr (bl_of q.1 q.2))))).trans (hf6.mono (fun x hx _ => .inl hx))
  have k1 : R3 = { R3 with la := R.la, lcap := R.lcap, es := R.es, nm := R.nm, dt := R.dt, ar := R.ar } := by
    have a := h3.same
    have c := h2.same
    rw [a]
    rw [c]
  have e1 : R3.la = R.la := by rw [k1]
  have e2 : R3.es = R.es := by rw [k1]
  have e3 : R3.lcap = R.lcap := by rw [k1]
  have e4 : R3.nm = R.nm := by rw [k1]
  have e5 : R3.dt = R.dt := by rw [k1]
  have e6 : R3.ar = R.ar := by rw [k1]
  have e7 : R3.ne = R2.ne := by rw [h3.same]
  have e8 : R3.nae = R2.nae := by rw [h3.same]
  have e9 : R2.ni = R.ni := by rw [h2.same]
  have e10 : R2.nai = R.nai := by rw [h2.same]
  have hla : ∀ g, obk R.la = some g → ¬ HandS b R g := fun g hg q => by
    have h4 := h.a1 g hg
    rcases q with q | q | q
    · have := h.li.lt hg; omega
    · exact h4.1 q
    · exact h4.2.2.1 q
  have hown : ∀ g, Own R3.clear g → obk R.la = some g := fun g hg => by
    rcases hg with hg | hg | hg
    · rw [show R3.clear.la = R.la from e1] at hg; exact hg
    · have h0 := (bl_some hg).1; exact absurd rfl h0
    · have h0 := (bl_some hg).1; exact absurd rfl h0
  have hst0 : Stamps w6 b (fun g => Own R3.clear g ∨ D0 g) R := h.st.fr hF (fun g h1 h2 h3 => by
    rcases h3 with q | q | q
    · omega
    · exact .inl (.inr (.inl q))
    · exact .inl (.inr (.inr q))) (fun g h1 h2 h3 => h3.imp (fun q => .inl (hown g q)) id)
  have hst1 : Stamps w6 b (fun g => Own R3.clear g ∨ D0 g) { R with pin := false } := ⟨hst0.oe, hst0.oi, hst0.fe, hst0.fi, hst0.he, hst0.hi, hst0.hl⟩
  have hv2 : StE w6 b (fun g => Own R3.clear g ∨ D0 g) (.slice R.xa R.xs.length R.xs.length) := by
    rcases hb2 with e | ⟨g, e, ha⟩
    · exact ⟨_, _, _, rfl, by omega, .inl e⟩
    · by_cases e0 : R.xs.length = 0
      · exact ⟨_, _, _, rfl, by omega, .inl e0⟩
      have hgx : bl R.xa R.xs.length = some g := bl_of e0 (by rw [e]; rfl)
      have hlt := h.x.lt hgx
      have ha6 := (ha.fr hf3 (fun q => by
        rcases q with q | ⟨q1, q2⟩
        · omega
        · exact h.a2 g hgx (bl_of q1 q2))).fr hf6 (fun q => by unfold One at q; omega)
      rw [e]
      exact StE.of ha6 hlt.1 (fun q => q.elim (fun q => (h.a1 g (hown g q)).1 hgx) (fun q => h.od g (.inr (.inl hgx)) q)) (by have := h.xl; omega)
  have hv3 : StI w6 b (fun g => Own R3.clear g ∨ D0 g) (.slice R.ya R.ys.length R.ys.length) := by
    rcases hb3 with e | ⟨g, e, ha⟩
    · exact ⟨_, _, _, rfl, by omega, .inl e⟩
    · by_cases e0 : R.ys.length = 0
      · exact ⟨_, _, _, rfl, by omega, .inl e0⟩
      have hgx : bl R.ya R.ys.length = some g := bl_of e0 (by rw [e]; rfl)
      have hlt := h.y.lt hgx
      have ha6 := ha.fr hf6 (fun q => by unfold One at q; omega)
      rw [e]
      exact StI.of ha6 hlt.1 (fun q => q.elim (fun q => (h.a1 g (hown g q)).2.2.1 hgx) (fun q => h.od g (.inr (.inr hgx)) q)) (by have := h.yl; omega)
  have hst3 := (hst1.stepE h2 hv2).stepI h3 hv3
  refine ⟨⟨h.fx.fr hF (fun x h1 h2 q => ?_), hd, ?_, ?_, .inl rfl, .inl rfl, fun g hg => absurd rfl (bl_some hg).1, by simp [DkR.clear], .inl rfl, .inl rfl, fun g hg => absurd rfl (bl_some hg).1, by simp [DkR.clear], ⟨hst3.oe, hst3.oi, hst3.fe, hst3.fi, hst3.he, hst3.hi, hst3.hl⟩, fun g hg => h.od g (.inl (hown g hg)), fun g hg => ⟨fun q => absurd rfl (bl_some q).1, fun q => absurd rfl (bl_some q).1, fun q => absurd rfl (bl_some q).1, fun q => absurd rfl (bl_some q).1⟩, fun g hg => absurd rfl (bl_some hg).1, ?_, ?_, ?_, ?_, ?_, ?_, ?_⟩, hF⟩
  · rcases q with q | q | q
    · omega
    · have := h.x.lt q; omega
    · have := h.y.lt q; omega
  · show OwnG w6 (b + 1) 98 2 R3.la R3.es.length R3.lcap (R3.es.flatMap entC)
    rw [e1, e2, e3]
    exact h.li.fr hF hla
  · show R3.es.length ≤ 5
    rw [e2]; exact h.ln
  · show R3.ne ≤ c + 1
    have := h2.ne; have := h.ne; dsimp only at *; omega
  · show R3.ni ≤ c + 1
    have := h3.ni; have := h.ni; omega
  · show R3.nae ≤ c + 1
    have := h2.nae; have := h.nae; dsimp only at *; omega
  · show R3.nai ≤ c + 1
    have := h3.nai; have := h.nai; omega
  · show R3.nm.size ≤ maxLen
    rw [e4]; exact h.z1
  · show R3.dt.size ≤ maxLen
    rw [e5]; exact h.z2
  · show R3.ar.size ≤ maxLen
    rw [e6]; exact h.z3
set_option maxRecDepth 100000 in
set_option maxHeartbeats 8000000 in
theorem again_any {w : World} {M X Z mb b c : Nat} {D0 : Nat → Prop} {R : DkR} (h : LawAt w M X Z mb b D0 R c) (hc : c < 100000000000000) :
    Calls Tryz.prog 30 #[ptrV b] w fun e w' => e = .returned (.bool true) ∧ (∃ R', LawAt w' M X Z mb b D0 R' (c + 1) ∧ R'.es = R.es ∧ R'.la = R.la ∧ R'.lcap = R.lcap ∧ R'.ar = R.ar ∧ R'.xs = [] ∧ R'.ys = []) ∧ Fr (HandS b R) w w' := by
  have H := hid h
  have HC := hid hc
  have hun := untouched_any h.dk h.st.oe h.st.oi h.st.fe h.st.fi h.st.he h.st.hi h.st.hl
  unfold ptrV at hun
  have HUN := hid hun
  have HSE := hid (fun (wx : World) (hx : Fr Nob w wx) => sameE_any (cap := R.xs.length) (cap2 := R.xs.length) (h.x.ent.fr hx (fun _ _ x => x)) (h.xm.fr hx (fun _ _ x => x)) (by have := h.xl; omega))
  have HSI := hid (fun (wx : World) (hx : Fr Nob w wx) => sameI_any (cap := R.ys.length) (cap2 := R.ys.length) (h.y.inf.fr hx (fun _ _ x => x)) (h.ym.fr hx (fun _ _ x => x)) (by have := h.yl; omega))
  have d4 : w.cell? ⟨b, 4, none⟩ = some (.slice R.xa R.xs.length R.xs.length) := h.dk.c 4 _ rfl
  have d5 : w.cell? ⟨b, 5, none⟩ = some (.slice R.ma R.xs.length R.xs.length) := h.dk.c 5 _ rfl
  have d6 : w.cell? ⟨b, 6, none⟩ = some (.slice R.ya R.ys.length R.ys.length) := h.dk.c 6 _ rfl
  have d7 : w.cell? ⟨b, 7, none⟩ = some (.slice R.na R.ys.length R.ys.length) := h.dk.c 7 _ rfl
  obtain ⟨n, hn⟩ : ∃ z, z = R.xs.length := ⟨_, rfl⟩
  obtain ⟨m, hm⟩ : ∃ z, z = R.ys.length := ⟨_, rfl⟩
  rw [← hn] at HSE d4 d5
  rw [← hm] at HSI d6 d7
  have HN := hid hn
  have HM := hid hm
  clear h hc hun hn hm
  refine calls_via fun K hK => ?_
  unfold ptrV
  go_enter Tryz.func30, Tryz.ntmps30
  go_wp2_with fail
  refine HUN.out.mono ?_
  rintro e w1 ⟨rfl, hw⟩
  have hw2 := hw.symm
  subst hw2
  clear hw
  go_wp2_with fail
  go_quiet ((go_at_call 31; exact (HSE.out _ Fr.of_drewN).mono fun _ _ h => ⟨h.1, h.2.elim fun q hq => ⟨_, hq.trans (World.drewN_drewN ..)⟩⟩))
  obtain ⟨w1, hw1⟩ : ∃ z, z = w.drewN nq := ⟨_, rfl⟩
  rw [← hw1]
  have f1 : Fr Nob w w1 := by rw [hw1]; exact Fr.of_drewN
  have F1 := hid f1
  have d6 := f1.cell d6 (fun x => x)
  have d7 := f1.cell d7 (fun x => x)
  clear hw1 f1 d4 d5
  go_upto_region 5 with fail
  go_quiet ((go_at_call 37; exact (HSI.out _ (F1.out.drewN)).mono fun _ _ h => ⟨h.1, h.2.elim fun q hq => ⟨_, hq.trans (World.drewN_drewN ..)⟩⟩))
  obtain ⟨w2, hw2⟩ : ∃ z, z = w1.drewN nq := ⟨_, rfl⟩
  rw [← hw2]
  have F2 : Hid (Fr Nob w w2) := hid (by rw [hw2]; exact F1.out.drewN)
  clear hw2 d6 d7
  have hd2 := H.out.dk.fr F2.out (fun x => x)
  have c22 : w2.cell? ⟨b, 22, none⟩ = some (.bool R.pin) := hd2.c 22 _ rfl
  have d4 : w2.cell? ⟨b, 4, none⟩ = some (.slice R.xa R.xs.length R.xs.length) := hd2.c 4 _ rfl
  have cz : ∀ i, w2.frozen? ⟨b, i, none⟩ = false := hd2.fz
  obtain ⟨pin, hpin⟩ : ∃ z, z = R.pin := ⟨_, rfl⟩
  rw [← hpin] at c22
  rw [← HN.out] at d4
  clear hpin
  have hd3 := DkAt.put (R2 := { R with pin := false }) hd2 22 (.bool false) (by omega) (by simp [dkL])
  have hrow : n = 0 ∨ ∃ g, R.xa = some ⟨g, 0, none⟩ ∧ g ≠ b ∧ Arr 98 mkV (w2.setCell ⟨b, 22, none⟩ (.bool false)) g (n * 2) (entV R.xs) := by
    rw [HN.out]
    rcases H.out.x with e | ⟨g, e1, e2, e3, e4⟩
    · exact .inl e
    · exact .inr ⟨g, e1, by omega, (e4.fr F2.out (fun x => x)).other (by omega) _⟩
  have hld := holdE_any (pin := pin) hd3 hrow (by have := H.out.xl; have := HN.out; omega) (by have := H.out.ne; have := HC.out; dsimp only; omega) (by have := H.out.nae; have := HC.out; dsimp only; omega)
  unfold ptrV at hld
  have HLD := hid hld
  have F3 : Hid (Fr (One b) w (w2.setCell ⟨b, 22, none⟩ (.bool false))) := hid ((F2.out.mono (fun x hx _ => hx.elim)).set1 22 _)
  clear hd2 hd3 hrow hld
  go_wp2_with fail
  refine HLD.out.mono ?_
  rintro e w4 ⟨rfl, ⟨R2, hd4, hst, hpl⟩, hb4, hf4⟩
  have k1 : R2 = { R2 with ya := R.ya, ys := R.ys } := by rw [hst.same]
  have ey : R2.ya = R.ya := by rw [k1]
  have eys : R2.ys = R.ys := by rw [k1]
  have e9 : R2.ni = R.ni := by rw [hst.same]
  have e10 : R2.nai = R.nai := by rw [hst.same]
  have d6 : w4.cell? ⟨b, 6, none⟩ = some (.slice R.ya R.ys.length R.ys.length) := by
    have h9 := hd4.c 6 _ rfl
    rw [ey, eys] at h9; exact h9
  rw [← HM.out] at d6
  have hfw : Fr (fun x => x = b ∨ (R.xs.length ≠ 0 ∧ obk R.xa = some x)) w w4 := (F3.out.mono (fun x hx _ => .inl hx)).trans (by rw [← HN.out]; exact hf4)
  have hrow : m = 0 ∨ ∃ g, R.ya = some ⟨g, 0, none⟩ ∧ g ≠ b ∧ Arr 115 mkV w4 g (m * 3) (infV R.ys) := by
    rw [HM.out]
    rcases H.out.y with e | ⟨g, e1, e2, e3, e4⟩
    · exact .inl e
    · by_cases e0 : R.ys.length = 0
      · exact .inl e0
      · refine .inr ⟨g, e1, by omega, e4.fr hfw (fun q => ?_)⟩
        rcases q with q | ⟨q1, q2⟩
        · omega
        · exact H.out.a2 g (bl_of q1 q2) (bl_of e0 (by rw [e1]; rfl))
  have hld := holdI_any (pin := pin) hd4 hrow (by have := H.out.yl; have := HM.out; omega) (by rw [e9]; have := H.out.ni; have := HC.out; omega) (by rw [e10]; have := H.out.nai; have := HC.out; omega)
  unfold ptrV at hld
  have HLD2 := hid hld
  have HST := hid hst
  have HB4 := hid hb4
  have HFW := hid hfw
  clear hd4 hst hpl hb4 hf4 k1 ey eys e9 e10 hfw hrow hld d4 c22 cz
  go_wp2_with fail
  refine HLD2.out.mono ?_
  rintro e w5 ⟨rfl, ⟨R3, hd5, hst3⟩, hb5, hf5⟩
  have cz : ∀ i, w5.frozen? ⟨b, i, none⟩ = false := hd5.fz
  have c4 := hd5.c 4 _ rfl
  have c5 := hd5.c 5 _ rfl
  have c6 := hd5.c 6 _ rfl
  have c7 := hd5.c 7 _ rfl
  obtain ⟨v4, hv4⟩ : ∃ z, z = Value.slice R3.xa R3.xs.length R3.xs.length := ⟨_, rfl⟩
  obtain ⟨v5, hv5⟩ : ∃ z, z = Value.slice R3.ma R3.xs.length R3.xs.length := ⟨_, rfl⟩
  obtain ⟨v6, hv6⟩ : ∃ z, z = Value.slice R3.ya R3.ys.length R3.ys.length := ⟨_, rfl⟩
  obtain ⟨v7, hv7⟩ : ∃ z, z = Value.slice R3.na R3.ys.length R3.ys.length := ⟨_, rfl⟩
  rw [← hv4] at c4
  rw [← hv5] at c5
  rw [← hv6] at c6
  rw [← hv7] at c7
  have HD5 := hid hd5
  have HST3 := hid hst3
  have HB5 := hid hb5
  have HF5 := hid hf5
  clear hd5 hst3 hb5 hf5 hv4 hv5 hv6 hv7 d6
  go_wp2_with fail
  have hd6 : DkAt ((((w5.setCell ⟨b, 4, none⟩ (.slice none 0 0)).setCell ⟨b, 5, none⟩ (.slice none 0 0)).setCell ⟨b, 6, none⟩ (.slice none 0 0)).setCell ⟨b, 7, none⟩ (.slice none 0 0)) b R3.clear := by
    have h9 := (((CellsAt.set HD5.out 4 (by simp [dkL]) (.slice none 0 0)).set 5 (by simp [dkL]) (.slice none 0 0)).set 6 (by simp [dkL]) (.slice none 0 0)).set 7 (by simp [dkL]) (.slice none 0 0)
    rw [dkL_clear] at h9; exact h9
  have hres := H.out.again (w4 := w4) (w5 := w5) (by rw [← HN.out]; exact HST.out) (by rw [← HN.out]; exact HB4.out) HFW.out (by rw [← HM.out]; exact HST3.out) (by rw [← HM.out]; exact HB5.out) (by rw [← HM.out]; exact HF5.out) (((((Fr.refl (One b) w5).set1 4 (.slice none 0 0)).set1 5 (.slice none 0 0)).set1 6 (.slice none 0 0)).set1 7 (.slice none 0 0)) hd6
  have k1 : R3 = { R3 with la := R.la, lcap := R.lcap, es := R.es, nm := R.nm, dt := R.dt, ar := R.ar } := by
    have a := HST3.out.same
    have c := HST.out.same
    rw [a]
    rw [c]
  exact hK.out _ _ ⟨rfl, ⟨R3.clear, hres.1, by show R3.es = R.es; rw [k1], by show R3.la = R.la; rw [k1], by show R3.lcap = R.lcap; rw [k1], by show R3.ar = R.ar; rw [k1], rfl, rfl⟩, hres.2⟩
end Go.Proofs.Qxb6500353aGreat
