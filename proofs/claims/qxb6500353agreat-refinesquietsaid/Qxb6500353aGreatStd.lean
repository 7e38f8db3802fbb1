/- The real decoder: a block's head, stored blocks, walked. -/
import Derived.Test.Qxb6500353aGreatStc
namespace Go.Proofs.Qxb6500353aGreat
open Go.RowKit
set_option linter.unusedVariables false
set_option linter.unusedSimpArgs false

/-- What one turn of the machine does: a step of the plain machine. -/
def TurnP (w : World) (Y o0 : Nat) (R : DcR) (t : Tp) (s : DS) (er : Nat) : Prop :=
  ∃ (R' : DcR) (t' : Tp), DecM w Y R' t' ∧ R'.fed = R.fed ∧ (stepF t s).1 = er ∧ (er = 0 → ∃ s', stepF t s = (0, t', s') ∧ StR R' o0 s' ∧ Coded w Y s') ∧ (er = 4 → t' = t ∧ StR R' o0 s ∧ Coded w Y s) ∧ (er ≠ 0 → R'.n = R.n ∧ R'.buf = R.buf)
theorem StR.at_ {R : DcR} {o0 x : Nat} {s : DS} (h : StR R o0 s) : StR { R with at_ := x } o0 s := ⟨h.ph, h.fin, h.due, h.ls, h.run, h.base, ⟨h.out.w, h.out.fill, h.out.total, h.out.ring, h.out.n, h.out.buf, h.out.lt⟩⟩
theorem OutR.keep {R R2 : DcR} {o0 : Nat} {o : List Nat} (h : OutR R o0 o) (e1 : R2.w = R.w) (e2 : R2.fill = R.fill) (e3 : R2.total = R.total) (e4 : R2.ring = R.ring) (e5 : R2.n = R.n) (e6 : R2.buf = R.buf) : OutR R2 o0 o :=
  ⟨by rw [e1]; exact h.w, by rw [e2]; exact h.fill, by rw [e3]; exact h.total, by rw [e4]; exact h.ring, by rw [e5]; exact h.n, by rw [e5, e6]; exact h.buf, h.lt⟩
theorem Coded.off {w : World} {Y : Nat} {s : DS} (h : s.ph < 5 ∨ 7 < s.ph) : Coded w Y s := fun p q => by omega
/-- A turn that does nothing but tell its error. -/
theorem TurnP.err {w w2 : World} {Y o0 er x : Nat} {R : DcR} {t t2 : Tp} {s : DS} (hD : DecM w2 Y { R with at_ := x } t2) (he : (stepF t s).1 = er) (h0 : er ≠ 0) (h4 : er ≠ 4) : TurnP w2 Y o0 R t s er :=
  ⟨_, _, hD, rfl, he, fun q => absurd q h0, fun q => absurd q h4, fun _ => ⟨rfl, rfl⟩⟩
theorem TurnP.end_ {w w2 : World} {Y o0 x : Nat} {R : DcR} {t : Tp} {s : DS} (hD : DecM w2 Y { R with at_ := x } t) (he : (stepF t s).1 = 4) (hs : StR R o0 s) (hc : Coded w Y s) (hf : Fr (Rng (Y + 24) (Y + 28)) w w2) : TurnP w2 Y o0 R t s 4 :=
  ⟨_, _, hD, rfl, he, fun q => by simp at q, fun _ => ⟨rfl, hs.at_, hc.fr hf fun k a b q => by have := q.1; omega⟩, fun _ => ⟨rfl, rfl⟩⟩
set_option maxRecDepth 100000 in
set_option maxHeartbeats 8000000 in
theorem turnFinal_any {w : World} {Y o0 : Nat} {R : DcR} {t : Tp} {s : DS} (hD : DecM w Y R t) (hS : StR R o0 s) (hC : Coded w Y s) (hO : DSOK s) (hp : s.ph = 0) :
    Calls Tryz.prog 134 #[ptrV (Y + 24)] w fun e w' => ∃ er : Nat, e = .returned (.int .i64 (er : Nat)) ∧ TurnP w' Y o0 R t s er ∧ Fr (Rng Y (Y + 28)) w w' := by
  have c1 := hD.d.c_t
  rw [hD.rt] at c1
  have c2 := hD.d.c_at_
  have cf : ∀ i, w.frozen? ⟨Y + 24, i, none⟩ = false := hD.d.fz
  have hps := pos_any hD.tp
  obtain ⟨p, hpp⟩ : ∃ z, z = t.at_ := ⟨_, rfl⟩
  rw [← hpp] at hps
  have f1 : Fr (One (Y + 24)) w (w.setCell ⟨Y + 24, 6, none⟩ (.int .i64 ((p : Nat) : Int))) := (Fr.refl _ _).set1 _ _
  have h1 := hD.dec (hD.d.set_at_ p) (rngO f1) rfl rfl rfl (fun q => q)
  have h8 : s.ph ≠ 8 := by rw [hp]; decide
  have hst := stepF_0 (t := t) (s := s) hp
  unfold step0 at hst
  have HPS := hid hps
  have H1 := hid h1
  have F1 := hid f1
  have HS := hid hS
  have HC := hid hC
  have HO := hid hO
  have HP := hid hp
  have HST := hid hst
  clear hD hS hC hO hps h1 f1 hp hst h8 hpp
  refine calls_via fun K hK => ?_
  unfold ptrV tapP at *
  go_enter Tryz.func134, Tryz.ntmps134
  go_wp2_with fail
  refine HPS.out.mono ?_
  rintro e w' ⟨rfl, hw⟩
  have hw2 := hw.symm; subst hw2; clear hw
  go_wp2_with fail
  obtain ⟨w1, hw1⟩ : ∃ z, z = w.setCell ⟨Y + 24, 6, none⟩ (.int .i64 ((p : Nat) : Int)) := ⟨_, rfl⟩
  rw [← hw1] at H1 F1 ⊢
  clear hw1 c1 c2 cf
  by_cases g1 : t.got 1 < 1
  · have htk := take_no H1.out.tp 1 (by omega) g1
    have he := HST.out
    rw [if_pos g1] at he
    have HTK := hid htk
    have HE := hid he
    clear htk he g1
    refine HTK.out.mono ?_
    rintro e w2 ⟨rfl, q, rfl⟩
    go_wp2_with fail
    refine hK.out _ _ ⟨4, rfl, TurnP.end_ (H1.out.fr (S := Nob) (Fr.of_drewN) (fun _ _ _ x => x)) (by rw [HE.out]) HS.out HC.out ((rngO F1.out).drewN), ((rngD (rngO F1.out)).drewN)⟩
  · have htk := take_yes H1.out.tp 1 (by omega) g1
    have he := HST.out
    rw [if_neg g1] at he
    obtain ⟨t1, ht1⟩ : ∃ z, z = t.skip 1 := ⟨_, rfl⟩
    obtain ⟨v, hv⟩ : ∃ z, z = t.peek 1 := ⟨_, rfl⟩
    have hvl : v < 2 ^ 1 := by rw [hv]; exact peek_lt2 t 1
    rw [← ht1, ← hv] at htk he
    have HTK := hid htk
    have HE := hid he
    have HV := hid hvl
    clear htk he g1 ht1 hv hvl HPS HST
    refine HTK.out.mono ?_
    rintro e w2 ⟨rfl, h2, f2⟩
    have hd2 := H1.out.tape h2 (one_rng f2)
    have hf2 := (rngD (rngO F1.out)).trans (rngT (one_rng f2))
    have HD2 := hid hd2
    have HF2 := hid hf2
    have cf : ∀ i, w2.frozen? ⟨Y + 24, i, none⟩ = false := hd2.d.fz
    clear h2 f2 hd2 hf2
    have k1 := HD2.out.d.c_final
    have k2 := HD2.out.d.c_phase
    have f3 : Fr (One (Y + 24)) w2 ((w2.setCell ⟨Y + 24, 5, none⟩ (.int .i64 ((v : Nat) : Int))).setCell ⟨Y + 24, 4, none⟩ (.int .i64 ((1 : Nat) : Int))) := ((Fr.refl _ _).set1 _ _).set1 _ _
    have h3 := HD2.out.dec ((HD2.out.d.set_final v).set_phase 1) (rngO f3) rfl rfl rfl (fun q => q)
    have H3 := hid h3
    have F3 := hid f3
    clear h3 f3
    go_wp2_with fail
    refine hK.out _ _ ⟨0, rfl, ⟨_, _, H3.out, rfl, by rw [HE.out], fun _ => ⟨_, HE.out, ⟨rfl, rfl, fun q => by simp at q, fun q => by simp at q, fun q => by simp at q, fun q => by simp at q, HS.out.out.keep rfl rfl rfl rfl rfl rfl⟩, Coded.off (.inl (by simp))⟩, fun q => by simp at q, fun q => absurd rfl q⟩, HF2.out.trans (rngD (rngO F3.out))⟩
theorem TurnP.shut {w : World} {Y o0 : Nat} {R R3 : DcR} {t0 t : Tp} {s0 s : DS} (h0 : R3.final = 0 → DecM w Y { R3 with phase := 0 } t) (h1 : R3.final ≠ 0 → DecM w Y { R3 with phase := 8 } t.sync) (he : stepF t0 s0 = shutS t s) (hf : R3.final = s.final) (ho : OutR R3 o0 s.out) (hfe : R3.fed = R.fed) : TurnP w Y o0 R t0 s0 0 := by
  by_cases c : s.final = 0
  · have e2 : shutS t s = (0, t, { s with ph := 0 }) := by unfold shutS; rw [if_pos c]
    rw [e2] at he
    exact ⟨_, _, h0 (hf.trans c), hfe, by rw [he], fun _ => ⟨_, he, ⟨rfl, hf, fun q => by simp at q, fun q => by simp at q, fun q => by simp at q, fun q => by simp at q, ho.keep rfl rfl rfl rfl rfl rfl⟩, Coded.off (.inl (by simp))⟩, fun q => by simp at q, fun q => absurd rfl q⟩
  · have e2 : shutS t s = (0, t.sync, { s with ph := 8 }) := by unfold shutS; rw [if_neg c]
    rw [e2] at he
    exact ⟨_, _, h1 (by rw [hf]; exact c), hfe, by rw [he], fun _ => ⟨_, he, ⟨rfl, hf, fun q => by simp at q, fun q => by simp at q, fun _ q => by simp at q, fun q => by simp at q, ho.keep rfl rfl rfl rfl rfl rfl⟩, Coded.off (.inr (by simp))⟩, fun q => by simp at q, fun q => absurd rfl q⟩
theorem DecM.held {w : World} {Y : Nat} {R : DcR} {t : Tp} (h : DecM w Y R t) (hA : CoAt w (Y + 2) fixA) (hB : CoAt w (Y + 13) fixB) : DecM (w.setCell ⟨Y + 24, 3, none⟩ (.bool true)) Y { R with held := true } t := by
  have hf : Fr (One (Y + 24)) w (w.setCell ⟨Y + 24, 3, none⟩ (.bool true)) := (Fr.refl _ _).set1 _ _
  have h1 := h.fr hf
  obtain ⟨qa, ha⟩ := h.ca
  obtain ⟨qb, hb⟩ := h.cb
  have n1 : ∀ k, k < Y + 24 → ¬ One (Y + 24) k := fun k a q => by unfold One at q; omega
  exact ⟨h.d.set_held true, h.rt, h.ra, h.rb, h.tp.fr hf (n1 _ (by omega)) (n1 _ (by omega)), ⟨qa, ha.fr hf fun k a b => n1 k (by omega)⟩, ⟨qb, hb.fr hf fun k a b => n1 k (by omega)⟩, fun _ => ⟨hA.fr hf fun k a b => n1 k (by omega), hB.fr hf fun k a b => n1 k (by omega)⟩⟩
theorem fixL_mem : ∀ x ∈ fixL, x ≤ 10 := by
  intro x hx
  unfold fixL at hx
  rcases List.mem_append.1 hx with h | h
  · exact fixA_ok.toFit.le x h
  · exact fixB_ok.toFit.le x h
theorem fixL_take : fixL.take 265 = fixA := by unfold fixL; exact List.take_left' fixA_length
theorem fixL_drop : fixL.drop 265 = fixB := by unfold fixL; exact List.drop_left' fixA_length
theorem fixL_len : fixL.length = 273 := by unfold fixL; rw [List.length_append, fixA_length, fixB_length]
theorem errS_fix : errS fixA fixB = 0 := by
  have a := (buildE_lawful (l := fixA) fixA_ok.toFit.le (by rw [fixA_length]; omega)).2 fixA_ok
  have b := (buildE_lawful (l := fixB) fixB_ok.toFit.le (by rw [fixB_length]; omega)).2 fixB_ok
  have c : len fixA 256 ≠ 0 := by rw [fixA_len (by omega)]; decide
  unfold errS
  rw [if_neg (by omega), if_neg (by omega), if_neg c]
set_option maxRecDepth 100000 in
set_option maxHeartbeats 8000000 in
theorem turnKind_any {w : World} {Y o0 : Nat} {R : DcR} {t : Tp} {s : DS} (hD : DecM w Y R t) (hS : StR R o0 s) (hC : Coded w Y s) (hO : DSOK s) (hp : s.ph = 1) :
    Calls Tryz.prog 135 #[ptrV (Y + 24)] w fun e w' => ∃ er : Nat, e = .returned (.int .i64 (er : Nat)) ∧ TurnP w' Y o0 R t s er ∧ Fr (Rng Y (Y + 28)) w w' := by
  have c1 := hD.d.c_t
  rw [hD.rt] at c1
  have c2 := hD.d.c_at_
  have cf : ∀ i, w.frozen? ⟨Y + 24, i, none⟩ = false := hD.d.fz
  have hps := pos_any hD.tp
  obtain ⟨p, hpp⟩ : ∃ z, z = t.at_ := ⟨_, rfl⟩
  rw [← hpp] at hps
  have f1 : Fr (One (Y + 24)) w (w.setCell ⟨Y + 24, 6, none⟩ (.int .i64 ((p : Nat) : Int))) := (Fr.refl _ _).set1 _ _
  have h1 := hD.dec (hD.d.set_at_ p) (rngO f1) rfl rfl rfl (fun q => q)
  have h8 : s.ph ≠ 8 := by rw [hp]; decide
  have hst := stepF_1 (t := t) (s := s) hp
  unfold step1 at hst
  have HPS := hid hps
  have H1 := hid h1
  have F1 := hid f1
  have HS := hid hS
  have HC := hid hC
  have HO := hid hO
  have HP := hid hp
  have HST := hid hst
  have HPL : Hid ((p : Int) ≤ 4096) := hid (by have := hD.tp.ok.cur; have := hD.tp.ok.len; omega)
  clear hD hS hC hO hps h1 f1 hp hst h8 hpp
  refine calls_via fun K hK => ?_
  unfold ptrV tapP at *
  go_enter Tryz.func135, Tryz.ntmps135
  go_wp2_with fail
  refine HPS.out.mono ?_
  rintro e w' ⟨rfl, hw⟩
  have hw2 := hw.symm; subst hw2; clear hw
  go_wp2_with fail
  obtain ⟨w1, hw1⟩ : ∃ z, z = w.setCell ⟨Y + 24, 6, none⟩ (.int .i64 ((p : Nat) : Int)) := ⟨_, rfl⟩
  rw [← hw1] at H1 F1 ⊢
  clear hw1 c1 c2 cf
  by_cases g1 : t.got 2 < 2
  · have htk := take_no H1.out.tp 2 (by omega) g1
    have he := HST.out
    rw [if_pos g1] at he
    have HTK := hid htk
    have HE := hid he
    clear htk he g1
    refine HTK.out.mono ?_
    rintro e w2 ⟨rfl, q, rfl⟩
    go_wp2_with fail
    refine hK.out _ _ ⟨4, rfl, TurnP.end_ (H1.out.fr (S := Nob) (Fr.of_drewN) (fun _ _ _ x => x)) (by rw [HE.out]) HS.out HC.out ((rngO F1.out).drewN), ((rngD (rngO F1.out)).drewN)⟩
  · have htk := take_yes H1.out.tp 2 (by omega) g1
    have he := HST.out
    rw [if_neg g1] at he
    obtain ⟨t1, ht1⟩ : ∃ z, z = t.skip 2 := ⟨_, rfl⟩
    obtain ⟨v, hv⟩ : ∃ z, z = t.peek 2 := ⟨_, rfl⟩
    have hvl : v < 2 ^ 2 := by rw [hv]; exact peek_lt2 t 2
    rw [← ht1, ← hv] at htk he
    have HTK := hid htk
    have HE := hid he
    have HV := hid hvl
    clear htk he g1 ht1 hv hvl HPS HST
    refine HTK.out.mono ?_
    rintro e w2 ⟨rfl, h2, f2⟩
    have hd2 := H1.out.tape h2 (one_rng f2)
    have hf2 := (rngD (rngO F1.out)).trans (rngT (one_rng f2))
    have HD2 := hid hd2
    have HF2 := hid hf2
    have cf : ∀ i, w2.frozen? ⟨Y + 24, i, none⟩ = false := hd2.d.fz
    clear h2 f2 hd2 hf2
    have k1 := HD2.out.d.c_at_
    have k2 := HD2.out.d.c_head
    dsimp only at k1 k2
    have hpi := HPL.out
    have e2 : wrap64 ((p + 2 : Nat) : Int) = ((p + 2 : Nat) : Int) := wrap64_n (by omega)
    have e2b : (p : Int) + 2 = ((p + 2 : Nat) : Int) := by omega
    obtain ⟨p2, hp2⟩ : ∃ z, z = p + 2 := ⟨_, rfl⟩
    rw [← hp2] at e2 e2b
    have f3 : Fr (One (Y + 24)) w2 (w2.setCell ⟨Y + 24, 7, none⟩ (.int .i64 ((p2 : Nat) : Int))) := (Fr.refl _ _).set1 _ _
    have hd3 := HD2.out.dec (HD2.out.d.set_head p2) (rngO f3) rfl rfl rfl (fun q => q)
    have HD3 := hid hd3
    have HF3 := hid (HF2.out.trans (rngD (rngO f3)))
    have hv4 : v = 0 ∨ v = 1 ∨ v = 2 ∨ v = 3 := by have := HV.out; omega
    clear f3 hd3 hp2 hpi
    have HW3 : Hid (∀ z : World, z = w2.setCell ⟨Y + 24, 7, none⟩ (.int .i64 ((p2 : Nat) : Int)) → DecM z Y { R with at_ := p, head := p2 } t1 ∧ Fr (Rng Y (Y + 28)) w z) := hid (fun z hz => by rw [hz]; exact ⟨HD3.out, HF3.out⟩)
    clear HD3 HF3
    rcases hv4 with rfl | rfl | rfl | rfl
    · rw [show ((0 : Nat) : Int) = 0 from rfl]
      have hc3 : ∀ z : World, z = w2.setCell ⟨Y + 24, 7, none⟩ (.int .i64 ((p2 : Nat) : Int)) → z.cell? ⟨Y + 24, 0, none⟩ = some (.pointer (some ⟨Y + 1, 0, none⟩)) := fun z hz => by have := (HW3.out z hz).1; have h2 := this.d.c_t; rw [this.rt] at h2; exact h2
      have k3 := HD2.out.d.c_t
      rw [HD2.out.rt] at k3
      unfold tapP at k3
      go_wp2_with fail
      obtain ⟨w3, hw3⟩ : ∃ z, z = w2.setCell ⟨Y + 24, 7, none⟩ (.int .i64 ((p2 : Nat) : Int)) := ⟨_, rfl⟩
      rw [← hw3]
      obtain ⟨hd3, hf3⟩ := HW3.out _ hw3
      have HD3 := hid hd3
      have HF3 := hid hf3
      have HSY := hid (sync_any hd3.tp)
      clear hw3 hd3 hf3 HW3 hc3 k1 k2 k3 cf
      refine HSY.out.mono ?_
      rintro e w4 ⟨rfl, h4, f4⟩
      have hd4 := HD3.out.tape h4 (one_rng f4)
      have cf : ∀ i, w4.frozen? ⟨Y + 24, i, none⟩ = false := hd4.d.fz
      have k2 := hd4.d.c_phase
      have f5 : Fr (One (Y + 24)) w4 (w4.setCell ⟨Y + 24, 4, none⟩ (.int .i64 ((2 : Nat) : Int))) := (Fr.refl _ _).set1 _ _
      have h5 := hd4.dec (hd4.d.set_phase 2) (rngO f5) rfl rfl rfl (fun q => q)
      have H5 := hid h5
      have F5 := hid ((HF3.out.trans (rngT (one_rng f4))).trans (rngD (rngO f5)))
      have he := HE.out
      rw [if_pos trivial] at he
      have HE2 := hid he
      clear h4 f4 hd4 f5 h5 he
      go_wp2_with fail
      refine hK.out _ _ ⟨0, rfl, ⟨_, _, H5.out, rfl, by rw [HE2.out], fun _ => ⟨_, HE2.out, ⟨rfl, HS.out.fin, fun q => by simp at q, fun q => by simp at q, fun q => by simp at q, fun q => by simp at q, HS.out.out.keep rfl rfl rfl rfl rfl rfl⟩, Coded.off (.inl (by simp))⟩, fun q => by simp at q, fun q => absurd rfl q⟩, F5.out⟩
    · rw [show ((1 : Nat) : Int) = 1 from rfl]
      have he := HE.out
      rw [if_neg (by omega)] at he
      first | rw [if_pos rfl] at he | rw [if_pos trivial] at he
      have HE2 := hid he
      clear he
      have k3 := HD2.out.d.c_held
      dsimp only at k3
      by_cases hh : R.held = true
      · rw [hh] at k3
        have k4 := HD2.out.d.c_phase
        have HH := hid hh
        clear hh
        have HX : Hid (∀ z : World, z = (w2.setCell ⟨Y + 24, 7, none⟩ (.int .i64 ((p2 : Nat) : Int))).setCell ⟨Y + 24, 4, none⟩ (.int .i64 ((5 : Nat) : Int)) → DecM z Y { R with at_ := p, head := p2, phase := 5 } t1 ∧ Fr (Rng Y (Y + 28)) w z) := hid (fun z hz => by
          obtain ⟨a1, a2⟩ := HW3.out _ rfl
          have f5 : Fr (One (Y + 24)) (w2.setCell ⟨Y + 24, 7, none⟩ (.int .i64 ((p2 : Nat) : Int))) z := by rw [hz]; exact (Fr.refl _ _).set1 _ _
          refine ⟨a1.dec ?_ (rngO f5) rfl rfl rfl (fun q => q), a2.trans (rngD (rngO f5))⟩
          rw [hz]; exact a1.d.set_phase 5)
        go_wp2_with fail
        obtain ⟨a1, a2⟩ := HX.out _ rfl
        have a3 := a1.hl HH.out
        refine hK.out _ _ ⟨0, rfl, ⟨_, _, a1, rfl, by rw [HE2.out], fun _ => ⟨_, HE2.out, ⟨rfl, HS.out.fin, fun q => by simp at q, fun q => by simp at q, fun q => by simp at q, fun q => by simp at q, HS.out.out.keep rfl rfl rfl rfl rfl rfl⟩, fun _ _ => a3⟩, fun q => by simp at q, fun q => absurd rfl q⟩, a2⟩
      · have hh2 : R.held = false := by simpa using hh
        rw [hh2] at k3
        clear hh hh2
        go_wp2_with fail
        obtain ⟨w3, hw3⟩ : ∃ z, z = w2.setCell ⟨Y + 24, 7, none⟩ (.int .i64 ((p2 : Nat) : Int)) := ⟨_, rfl⟩
        rw [← hw3]
        obtain ⟨hd3, hf3⟩ := HW3.out _ hw3
        have HD3 := hid hd3
        have HF3 := hid hf3
        have hfx := fixedD_any hd3.d
        unfold ptrV at hfx
        have HFX := hid hfx
        clear hw3 hd3 hf3 HW3 k1 k2 k3 cf hfx
        refine HFX.out.mono ?_
        rintro e w4 ⟨rfl, L, hd4, hL, f4⟩
        have h4 := HD3.out.dec hd4 (f4.mono fun x hx _ => by unfold Rng at *; omega) rfl rfl rfl (fun q => q)
        have hse := sets_any h4 fixL_len fixL_mem (fun i hi => hL i hi)
        rw [fixL_take, fixL_drop, errS_fix] at hse
        unfold ptrV at hse
        have HSE := hid hse
        have HF4 := hid (HF3.out.trans (rngD f4))
        clear hd4 hL f4 h4 hse
        go_wp2_with fail
        refine HSE.out.mono ?_
        rintro e w5 ⟨rfl, h5, hco, f5⟩
        have hco2 := hco (by first | rfl | trivial)
        have h6 := h5.held hco2.1 hco2.2
        have f6 : Fr (One (Y + 24)) w5 (w5.setCell ⟨Y + 24, 3, none⟩ (.bool true)) := (Fr.refl _ _).set1 _ _
        have H6 := hid h6
        have HF6 := hid ((HF4.out.trans f5).trans (rngD (rngO f6)))
        have k6 := h5.d.c_held
        have cf : ∀ i, w5.frozen? ⟨Y + 24, i, none⟩ = false := h5.d.fz
        rw [show ((0 : Nat) : Int) = 0 from rfl]
        clear h5 hco f5 hco2 h6 f6
        go_wp2_with fail
        have a3 := H6.out.hl rfl
        refine hK.out _ _ ⟨0, rfl, ⟨_, _, H6.out, rfl, by rw [HE2.out], fun _ => ⟨_, HE2.out, ⟨rfl, HS.out.fin, fun q => by simp at q, fun q => by simp at q, fun q => by simp at q, fun q => by simp at q, HS.out.out.keep rfl rfl rfl rfl rfl rfl⟩, fun _ _ => a3⟩, fun q => by simp at q, fun q => absurd rfl q⟩, HF6.out⟩
    · rw [show ((2 : Nat) : Int) = 2 from rfl]
      have he := HE.out
      rw [if_neg (by omega), if_neg (by omega)] at he
      first | rw [if_pos rfl] at he | rw [if_pos trivial] at he
      have HE2 := hid he
      clear he
      have k3 := HD2.out.d.c_idx
      have k4 := HD2.out.d.c_phase
      have HX : Hid (∀ z : World, z = ((w2.setCell ⟨Y + 24, 7, none⟩ (.int .i64 ((p2 : Nat) : Int))).setCell ⟨Y + 24, 10, none⟩ (.int .i64 ((0 : Nat) : Int))).setCell ⟨Y + 24, 4, none⟩ (.int .i64 ((4 : Nat) : Int)) → DecM z Y { R with at_ := p, head := p2, idx := 0, phase := 4 } t1 ∧ Fr (Rng Y (Y + 28)) w z) := hid (fun z hz => by
        obtain ⟨a1, a2⟩ := HW3.out _ rfl
        have f5 : Fr (One (Y + 24)) (w2.setCell ⟨Y + 24, 7, none⟩ (.int .i64 ((p2 : Nat) : Int))) z := by rw [hz]; exact ((Fr.refl _ _).set1 _ _).set1 _ _
        refine ⟨a1.dec ?_ (rngO f5) rfl rfl rfl (fun q => q), a2.trans (rngD (rngO f5))⟩
        rw [hz]; exact (a1.d.set_idx 0).set_phase 4)
      go_wp2_with fail
      obtain ⟨a1, a2⟩ := HX.out _ rfl
      refine hK.out _ _ ⟨0, rfl, ⟨_, _, a1, rfl, by rw [HE2.out], fun _ => ⟨_, HE2.out, ⟨rfl, HS.out.fin, fun q => by simp at q, fun _ => ⟨rfl, fun i hi => by simp at hi⟩, fun q => by simp at q, fun q => by simp at q, HS.out.out.keep rfl rfl rfl rfl rfl rfl⟩, Coded.off (.inl (by simp))⟩, fun q => by simp at q, fun q => absurd rfl q⟩, a2⟩
    · rw [show ((3 : Nat) : Int) = 3 from rfl]
      have he := HE.out
      rw [if_neg (by omega), if_neg (by omega), if_neg (by omega)] at he
      have HE2 := hid he
      clear he
      go_wp2_with fail
      obtain ⟨a1, a2⟩ := HW3.out _ rfl
      refine hK.out _ _ ⟨5, rfl, ⟨_, _, a1, rfl, by rw [HE2.out], fun q => by simp at q, fun q => by simp at q, fun _ => ⟨rfl, rfl⟩⟩, a2⟩
set_option maxRecDepth 100000 in
set_option maxHeartbeats 8000000 in
theorem turnSize_any {w : World} {Y o0 : Nat} {R : DcR} {t : Tp} {s : DS} (hD : DecM w Y R t) (hS : StR R o0 s) (hC : Coded w Y s) (hO : DSOK s) (hp : s.ph = 2) :
    Calls Tryz.prog 136 #[ptrV (Y + 24)] w fun e w' => ∃ er : Nat, e = .returned (.int .i64 (er : Nat)) ∧ TurnP w' Y o0 R t s er ∧ Fr (Rng Y (Y + 28)) w w' := by
  have c1 := hD.d.c_t
  rw [hD.rt] at c1
  have c2 := hD.d.c_at_
  have cf : ∀ i, w.frozen? ⟨Y + 24, i, none⟩ = false := hD.d.fz
  have hps := pos_any hD.tp
  obtain ⟨p, hpp⟩ : ∃ z, z = t.at_ := ⟨_, rfl⟩
  rw [← hpp] at hps
  have f1 : Fr (One (Y + 24)) w (w.setCell ⟨Y + 24, 6, none⟩ (.int .i64 ((p : Nat) : Int))) := (Fr.refl _ _).set1 _ _
  have h1 := hD.dec (hD.d.set_at_ p) (rngO f1) rfl rfl rfl (fun q => q)
  have h8 : s.ph ≠ 8 := by rw [hp]; decide
  have hst := stepF_2 (t := t) (s := s) hp
  unfold step2 at hst
  have HPS := hid hps
  have H1 := hid h1
  have F1 := hid f1
  have HS := hid hS
  have HC := hid hC
  have HO := hid hO
  have HP := hid hp
  have HST := hid hst
  clear hD hS hC hO hps h1 f1 hp hst h8 hpp
  refine calls_via fun K hK => ?_
  unfold ptrV tapP at *
  go_enter Tryz.func136, Tryz.ntmps136
  go_wp2_with fail
  refine HPS.out.mono ?_
  rintro e w' ⟨rfl, hw⟩
  have hw2 := hw.symm; subst hw2; clear hw
  go_wp2_with fail
  obtain ⟨w1, hw1⟩ : ∃ z, z = w.setCell ⟨Y + 24, 6, none⟩ (.int .i64 ((p : Nat) : Int)) := ⟨_, rfl⟩
  rw [← hw1] at H1 F1 ⊢
  clear hw1 c1 c2 cf
  by_cases g1 : t.got 16 < 16
  · have htk := take_no H1.out.tp 16 (by omega) g1
    have he := HST.out
    rw [if_pos g1] at he
    have HTK := hid htk
    have HE := hid he
    clear htk he g1
    refine HTK.out.mono ?_
    rintro e w2 ⟨rfl, q, rfl⟩
    go_wp2_with fail
    refine hK.out _ _ ⟨4, rfl, TurnP.end_ (H1.out.fr (S := Nob) (Fr.of_drewN) (fun _ _ _ x => x)) (by rw [HE.out]) HS.out HC.out ((rngO F1.out).drewN), ((rngD (rngO F1.out)).drewN)⟩
  · have htk := take_yes H1.out.tp 16 (by omega) g1
    have he := HST.out
    rw [if_neg g1] at he
    obtain ⟨t1, ht1⟩ : ∃ z, z = t.skip 16 := ⟨_, rfl⟩
    obtain ⟨v, hv⟩ : ∃ z, z = t.peek 16 := ⟨_, rfl⟩
    have hvl : v < 2 ^ 16 := by rw [hv]; exact peek_lt2 t 16
    rw [← ht1, ← hv] at htk he
    have HTK := hid htk
    have HE := hid he
    have HV := hid hvl
    clear htk he g1 ht1 hv hvl HPS HST
    refine HTK.out.mono ?_
    rintro e w2 ⟨rfl, h2, f2⟩
    have hd2 := H1.out.tape h2 (one_rng f2)
    have hf2 := (rngD (rngO F1.out)).trans (rngT (one_rng f2))
    have HD2 := hid hd2
    have HF2 := hid hf2
    have cf : ∀ i, w2.frozen? ⟨Y + 24, i, none⟩ = false := hd2.d.fz
    clear h2 f2 hd2 hf2
    have k1 := HD2.out.d.c_due
    have k2 := HD2.out.d.c_phase
    have f3 : Fr (One (Y + 24)) w2 ((w2.setCell ⟨Y + 24, 8, none⟩ (.int .i64 ((v : Nat) : Int))).setCell ⟨Y + 24, 4, none⟩ (.int .i64 ((3 : Nat) : Int))) := ((Fr.refl _ _).set1 _ _).set1 _ _
    have h3 := HD2.out.dec ((HD2.out.d.set_due v).set_phase 3) (rngO f3) rfl rfl rfl (fun q => q)
    have H3 := hid h3
    have HF3 := hid (HF2.out.trans (rngD (rngO f3)))
    clear f3
    by_cases v0 : v = 0
    · have v0i : ((v : Int) == 0) = true := by rw [v0]; rfl
      have hsh := shut_any h3
      unfold ptrV at hsh
      have HSH := hid hsh
      have he := HE.out
      rw [if_pos v0] at he
      have HE2 := hid he
      clear v0 hsh h3 he
      go_wp2_with fail
      refine HSH.out.mono ?_
      rintro e w4 ⟨rfl, a0, a1, f4⟩
      have HR := hid (TurnP.shut (R := R) (R3 := { R with at_ := p, due := v, phase := 3 }) a0 a1 HE2.out HS.out.fin (HS.out.out.keep rfl rfl rfl rfl rfl rfl) rfl)
      have HF4 := hid (HF3.out.trans f4)
      clear a0 a1 f4
      go_wp2_with fail
      exact hK.out _ _ ⟨0, rfl, HR.out, HF4.out⟩
    · have v0i : ((v : Int) == 0) = false := by simp; omega
      have he := HE.out
      rw [if_neg v0] at he
      have HE2 := hid he
      clear v0 h3 he
      go_wp2_with fail
      exact hK.out _ _ ⟨0, rfl, ⟨_, _, H3.out, rfl, by rw [HE2.out], fun _ => ⟨_, HE2.out, ⟨rfl, HS.out.fin, fun q => rfl, fun q => by simp at q, fun q => by simp at q, fun q => by simp at q, HS.out.out.keep rfl rfl rfl rfl rfl rfl⟩, Coded.off (.inl (by simp))⟩, fun q => by simp at q, fun q => absurd rfl q⟩, HF3.out⟩
set_option maxRecDepth 100000 in
set_option maxHeartbeats 8000000 in
theorem turnByte_any {w : World} {Y o0 : Nat} {R : DcR} {t : Tp} {s : DS} (hD : DecM w Y R t) (hS : StR R o0 s) (hC : Coded w Y s) (hO : DSOK s) (hp : s.ph = 3) :
    Calls Tryz.prog 137 #[ptrV (Y + 24)] w fun e w' => ∃ er : Nat, e = .returned (.int .i64 (er : Nat)) ∧ TurnP w' Y o0 R t s er ∧ Fr (Rng Y (Y + 28)) w w' := by
  have c1 := hD.d.c_t
  rw [hD.rt] at c1
  have c2 := hD.d.c_at_
  have cf : ∀ i, w.frozen? ⟨Y + 24, i, none⟩ = false := hD.d.fz
  have hps := pos_any hD.tp
  obtain ⟨p, hpp⟩ : ∃ z, z = t.at_ := ⟨_, rfl⟩
  rw [← hpp] at hps
  have f1 : Fr (One (Y + 24)) w (w.setCell ⟨Y + 24, 6, none⟩ (.int .i64 ((p : Nat) : Int))) := (Fr.refl _ _).set1 _ _
  have h1 := hD.dec (hD.d.set_at_ p) (rngO f1) rfl rfl rfl (fun q => q)
  have h8 : s.ph ≠ 8 := by rw [hp]; decide
  have hst := stepF_3 (t := t) (s := s) hp
  unfold step3 at hst
  have HPS := hid hps
  have H1 := hid h1
  have F1 := hid f1
  have HS := hid hS
  have HC := hid hC
  have HO := hid hO
  have HP := hid hp
  have HST := hid hst
  clear hD hS hC hO hps h1 f1 hp hst h8 hpp
  refine calls_via fun K hK => ?_
  unfold ptrV tapP at *
  go_enter Tryz.func137, Tryz.ntmps137
  go_wp2_with fail
  refine HPS.out.mono ?_
  rintro e w' ⟨rfl, hw⟩
  have hw2 := hw.symm; subst hw2; clear hw
  go_wp2_with fail
  obtain ⟨w1, hw1⟩ : ∃ z, z = w.setCell ⟨Y + 24, 6, none⟩ (.int .i64 ((p : Nat) : Int)) := ⟨_, rfl⟩
  rw [← hw1] at H1 F1 ⊢
  clear hw1 c1 c2 cf
  by_cases g1 : t.got 8 < 8
  · have htk := take_no H1.out.tp 8 (by omega) g1
    have he := HST.out
    rw [if_pos g1] at he
    have HTK := hid htk
    have HE := hid he
    clear htk he g1
    refine HTK.out.mono ?_
    rintro e w2 ⟨rfl, q, rfl⟩
    go_wp2_with fail
    refine hK.out _ _ ⟨4, rfl, TurnP.end_ (H1.out.fr (S := Nob) (Fr.of_drewN) (fun _ _ _ x => x)) (by rw [HE.out]) HS.out HC.out ((rngO F1.out).drewN), ((rngD (rngO F1.out)).drewN)⟩
  · have htk := take_yes H1.out.tp 8 (by omega) g1
    have he := HST.out
    rw [if_neg g1] at he
    obtain ⟨t1, ht1⟩ : ∃ z, z = t.skip 8 := ⟨_, rfl⟩
    obtain ⟨v, hv⟩ : ∃ z, z = t.peek 8 := ⟨_, rfl⟩
    have hvl : v < 2 ^ 8 := by rw [hv]; exact peek_lt2 t 8
    rw [← ht1, ← hv] at htk he
    have HTK := hid htk
    have HE := hid he
    have HV := hid hvl
    clear htk he g1 ht1 hv hvl HPS HST
    refine HTK.out.mono ?_
    rintro e w2 ⟨rfl, h2, f2⟩
    have hd2 := H1.out.tape h2 (one_rng f2)
    have hf2 := (rngD (rngO F1.out)).trans (rngT (one_rng f2))
    have HD2 := hid hd2
    have HF2 := hid hf2
    have cf : ∀ i, w2.frozen? ⟨Y + 24, i, none⟩ = false := hd2.d.fz
    clear h2 f2 hd2 hf2
    have k1 := HD2.out.d.c_total
    dsimp only at k1
    rw [HS.out.out.total] at k1
    have hlt := HS.out.out.lt
    obtain ⟨m, hm⟩ : ∃ z, z = s.out.length := ⟨_, rfl⟩
    rw [← hm] at k1 hlt
    have HM := hid hm
    by_cases g2 : 256 ≤ m
    · have g2i : (256 : Int) ≤ m := by omega
      have he := HE.out
      rw [← hm, if_pos g2] at he
      have HE2 := hid he
      clear g2 hlt hm he
      go_wp2_with fail
      exact hK.out _ _ ⟨10, rfl, ⟨_, _, HD2.out, rfl, by rw [HE2.out], fun q => by simp at q, fun q => by simp at q, fun _ => ⟨rfl, rfl⟩⟩, HF2.out⟩
    · have g2i : ¬ (256 : Int) ≤ m := by omega
      have g2j : (m : Int) < 256 := by omega
      have he := HE.out
      rw [← hm, if_neg g2] at he
      have HE2 := hid he
      have hvl : v < 256 := HV.out
      have ho := HS.out.out
      have hgv := give_any (c := v) HD2.out.d hvl (by have := ho.n; show R.n < 256; omega) (by have := ho.w; show R.w < 16; omega) (by have := ho.fill; show R.fill ≤ 16; omega) (by have := ho.total; show R.total < 256; omega)
      have HOG := hid ((ho.keep (R2 := { R with at_ := p }) rfl rfl rfl rfl rfl rfl).give v (by omega))
      unfold ptrV at hgv
      have HGV := hid hgv
      have hv8 : IntKind.u8.wrap (v : Int) = (v : Int) := wrap8 (by omega) (by omega)
      clear hgv ho g2 hlt hm he hvl
      go_wp2_with fail
      refine HGV.out.mono ?_
      rintro e w3 ⟨rfl, hg3, f3⟩
      have hd3 := HD2.out.dec hg3 f3 rfl rfl rfl (fun q => q)
      have HD3 := hid hd3
      have HF3 := hid (HF2.out.trans (rngD f3))
      have k3 := hd3.d.c_due
      have hdue : (giveR { R with at_ := p } v).due = s.due := HS.out.due HP.out
      rw [hdue] at k3
      have cf : ∀ i, w3.frozen? ⟨Y + 24, i, none⟩ = false := hd3.d.fz
      obtain ⟨d, hd⟩ : ∃ d, s.due = d + 1 := ⟨s.due - 1, by have := (HO.out.due HP.out).1; omega⟩
      rw [hd] at k3
      have hdl : (d : Int) < 65536 := by have := (HO.out.due HP.out).2; omega
      have e2 : wrap64 (d : Int) = (d : Int) := wrap64_n (by omega)
      have e2b : ((d + 1 : Nat) : Int) - 1 = (d : Int) := by omega
      obtain ⟨dd, hdd⟩ : ∃ z, z = d + 1 := ⟨_, rfl⟩
      rw [← hdd] at k3 e2b hd
      have HDD := hid hdd
      have f4 : Fr (One (Y + 24)) w3 (w3.setCell ⟨Y + 24, 8, none⟩ (.int .i64 ((d : Nat) : Int))) := (Fr.refl _ _).set1 _ _
      have hd4 := hd3.dec (hd3.d.set_due d) (rngO f4) rfl rfl rfl (fun q => q)
      have H4 := hid hd4
      have HF4 := hid (HF3.out.trans (rngD (rngO f4)))
      have he := HE2.out
      rw [hd] at he
      have hdm : dd - 1 = d := by omega
      rw [hdm] at he
      by_cases d0 : d = 0
      · have d0i : ((d : Int) == 0) = true := by rw [d0]; rfl
        rw [if_pos d0] at he
        have HE3 := hid he
        have hsh := shut_any hd4
        unfold ptrV at hsh
        have HSH := hid hsh
        clear hd3 hdue hg3 f3 f4 hd4 he hsh d0 hdm hdd hd hdl k1
        go_wp2_with fail
        refine HSH.out.mono ?_
        rintro e w4 ⟨rfl, a0, a1, f4⟩
        have HR := hid (TurnP.shut (R := R) (R3 := { giveR { R with at_ := p } v with due := d }) a0 a1 HE3.out HS.out.fin (HOG.out.keep rfl rfl rfl rfl rfl rfl) rfl)
        have HF5 := hid (HF4.out.trans f4)
        clear a0 a1 f4
        go_wp2_with fail
        exact hK.out _ _ ⟨0, rfl, HR.out, HF5.out⟩
      · have d0i : ((d : Int) == 0) = false := by simp; omega
        rw [if_neg d0] at he
        have HE3 := hid he
        clear hd3 hdue hg3 f3 f4 hd4 he d0 hdm hdd hd hdl k1
        go_wp2_with fail
        exact hK.out _ _ ⟨0, rfl, ⟨_, _, H4.out, rfl, by rw [HE3.out], fun _ => ⟨_, HE3.out, ⟨HS.out.ph, HS.out.fin, fun q => rfl, fun q => by rw [HP.out] at q; simp at q, fun q => by rw [HP.out] at q; simp at q, fun q => by rw [HP.out] at q; simp at q, HOG.out.keep rfl rfl rfl rfl rfl rfl⟩, Coded.off (.inl (by show s.ph < 5; rw [HP.out]; decide))⟩, fun q => by simp at q, fun q => absurd rfl q⟩, HF4.out⟩
end Go.Proofs.Qxb6500353aGreat
