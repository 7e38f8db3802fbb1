/- The real decoder: a token's first symbol and its distance code, walked. -/
import Derived.Test.Qxb6500353aGreatStd
namespace Go.Proofs.Qxb6500353aGreat
open Go.RowKit
set_option linter.unusedVariables false
set_option linter.unusedSimpArgs false

theorem find_sym {w : World} {b : Nat} {l : List Nat} {t : Tp} (h : CoAt w b l) :
    Calls Tryz.prog 169 #[ptrV b, .int .i64 (t.peek 10 : Nat), .int .i64 (t.got 10 : Nat)] w fun e w' => e = .returned (.tuple #[.int .i64 ((symF l t).1 : Nat), .int .i64 ((symF l t).2.1 : Nat), .int .i64 ((symF l t).2.2 : Nat)]) ∧ w' = w :=
  find_any h (t.peek 10) (t.got 10) (peek_lt t 10) (Nat.le_trans (got_le t 10) (by omega))
set_option maxRecDepth 100000 in
set_option maxHeartbeats 8000000 in
theorem turnSym_any {w : World} {Y o0 : Nat} {R : DcR} {t : Tp} {s : DS} (hD : DecM w Y R t) (hS : StR R o0 s) (hC : Coded w Y s) (hO : DSOK s) (hp : s.ph = 5) :
    Calls Tryz.prog 139 #[ptrV (Y + 24)] w fun e w' => ∃ er : Nat, e = .returned (.int .i64 (er : Nat)) ∧ TurnP w' Y o0 R t s er ∧ Fr (Rng Y (Y + 28)) w w' := by
  have c1 := hD.d.c_t
  rw [hD.rt] at c1
  have c2 := hD.d.c_at_
  have cf : ∀ i, w.frozen? ⟨Y + 24, i, none⟩ = false := hD.d.fz
  have hps := pos_any hD.tp
  obtain ⟨p, hpp⟩ : ∃ z, z = t.at_ := ⟨_, rfl⟩
  rw [← hpp] at hps
  have f1 : Fr (One (Y + 24)) w (w.setCell ⟨Y + 24, 6, none⟩ (.int .i64 ((p : Nat) : Int))) := (Fr.refl _ _).set1 _ _
  have h1 := hD.dec (hD.d.set_at_ p) (rngO f1) rfl rfl rfl (fun q => q)
  have hc1 : Coded (w.setCell ⟨Y + 24, 6, none⟩ (.int .i64 ((p : Nat) : Int))) Y s := hC.fr f1 fun k a b q => by unfold One at q; omega
  have hst := stepF_5 (t := t) (s := s) hp
  unfold step5 at hst
  have hsp := fun q => symF_got s.a t q
  have hspc := fun q => symF_spec (l := s.a) t q
  have hla := (hO.sets (by omega) (by omega)).2.2.1
  rw [hla] at hspc
  have HSP := hid hsp
  have HSPC := hid hspc
  have HPS := hid hps
  have H1 := hid h1
  have F1 := hid f1
  have HS := hid hS
  have HC := hid hc1
  have HO := hid hO
  have HP := hid hp
  have HCU := hid hD.tp.ok.cur
  have HST := hid hst
  clear hD hS hC hO hps h1 f1 hp hst hpp hc1 hsp hspc hla
  refine calls_via fun K hK => ?_
  unfold ptrV tapP at *
  go_enter Tryz.func139, Tryz.ntmps139
  go_wp2_with fail
  refine HPS.out.mono ?_
  rintro e w' ⟨rfl, hw⟩
  have hw2 := hw.symm; subst hw2; clear hw
  go_wp2_with fail
  obtain ⟨w1, hw1⟩ : ∃ z, z = w.setCell ⟨Y + 24, 6, none⟩ (.int .i64 ((p : Nat) : Int)) := ⟨_, rfl⟩
  rw [← hw1] at H1 F1 HC ⊢
  clear hw1 c1 c2 cf
  refine (peek_any H1.out.tp 10 (by omega)).mono ?_
  rintro e w2 ⟨rfl, q, hw2⟩
  have hd2 := H1.out.fr (S := Nob) (w2 := w2) (by rw [hw2]; exact Fr.of_drewN) (fun _ _ _ x => x)
  have hc2 := HC.out.fr (S := Nob) (w2 := w2) (by rw [hw2]; exact Fr.of_drewN) (fun _ _ _ x => x)
  have HF2 : Hid (Fr (Rng Y (Y + 28)) w w2) := hid (by rw [hw2]; exact (rngD (rngO F1.out)).drewN)
  have HFS := hid (find_sym (t := t) (hc2 (by rw [HP.out]; decide) (by rw [HP.out]; decide)).1)
  obtain ⟨S, hS⟩ : ∃ z, z = symF s.a t := ⟨_, rfl⟩
  rw [← hS] at HFS HST HSP HSPC
  obtain ⟨sy, n, er⟩ := S
  dsimp only at HFS HST HSP HSPC
  have HD2 := hid hd2
  have HC2 := hid hc2
  have c1 := hd2.d.c_t
  rw [hd2.rt] at c1
  have c2 := hd2.d.c_a
  rw [hd2.ra] at c2
  have cf : ∀ i, w2.frozen? ⟨Y + 24, i, none⟩ = false := hd2.d.fz
  unfold ptrV at HFS c2
  unfold tapP at c1
  obtain ⟨gv, hgv⟩ : ∃ z, z = t.peek 10 := ⟨_, rfl⟩
  obtain ⟨gg, hgg⟩ : ∃ z, z = t.got 10 := ⟨_, rfl⟩
  rw [← hgv, ← hgg] at HFS ⊢
  clear hw2 hd2 hc2 hS hgv hgg HPS
  go_wp2_with fail
  refine HFS.out.mono ?_
  rintro e w' ⟨rfl, hw⟩
  have hw2 := hw.symm; subst hw2; clear hw
  by_cases her : er = 0
  · subst her
    have hsp := HSP.out rfl
    have hl : t.at_ + n ≤ t.n := by have h1 := hsp.2.2; unfold Tp.got at h1; have := HCU.out; omega
    have hn16 : n ≤ 16 := by have h1 := (HSPC.out rfl).2.2; have := got_le t 10; omega
    have hsy : sy < 265 := (HSPC.out rfl).1
    have hsk := skip_any HD2.out.tp n hn16 hl
    obtain ⟨t1, ht1⟩ : ∃ z, z = t.skip n := ⟨_, rfl⟩
    have he := HST.out
    rw [if_neg (by simp)] at he
    rw [← ht1] at hsk he
    unfold tapP at hsk
    have HSK := hid hsk
    have HE := hid he
    rw [show ((0 : Nat) : Int) = 0 from rfl]
    clear hsk he ht1 hsp hl hn16 HST HSP HSPC
    go_wp2_with fail
    refine HSK.out.mono ?_
    rintro e w3 ⟨rfl, h3, f3⟩
    have hd3 := HD2.out.tape h3 (one_rng f3)
    have hf3 := HF2.out.trans (rngT (one_rng f3))
    have hc3 := HC2.out.fr f3 (fun k a b q => by unfold One at q; omega)
    have HD3 := hid hd3
    have HF3 := hid hf3
    have HC3 := hid hc3
    clear h3 f3 hd3 hf3 hc3 c1 c2 cf
    by_cases g1 : sy = 256
    · subst g1
      have he := HE.out
      first | rw [if_pos rfl] at he | rw [if_pos trivial] at he
      have HE2 := hid he
      have hsh := shut_any HD3.out
      unfold ptrV at hsh
      have HSH := hid hsh
      rw [show ((256 : Nat) : Int) = 256 from rfl]
      clear he hsh hsy
      go_wp2_with fail
      refine HSH.out.mono ?_
      rintro e w4 ⟨rfl, a0, a1, f4⟩
      have HR := hid (TurnP.shut (R := R) (R3 := { R with at_ := p }) a0 a1 HE2.out HS.out.fin (HS.out.out.keep rfl rfl rfl rfl rfl rfl) rfl)
      have HF5 := hid (HF3.out.trans f4)
      clear a0 a1 f4
      go_wp2_with fail
      exact hK.out _ _ ⟨0, rfl, HR.out, HF5.out⟩
    · have g1i : ((sy : Int) == 256) = false := by simp; omega
      have he := HE.out
      rw [if_neg g1] at he
      by_cases g2 : sy < 256
      · have g2i : (sy : Int) < 256 := by omega
        rw [if_pos g2] at he
        have k1 := HD3.out.d.c_total
        dsimp only at k1
        rw [HS.out.out.total] at k1
        have hlt := HS.out.out.lt
        obtain ⟨m, hm⟩ : ∃ z, z = s.out.length := ⟨_, rfl⟩
        rw [← hm] at k1 hlt he
        have HM := hid hm
        by_cases g3 : 256 ≤ m
        · have g3i : (256 : Int) ≤ m := by omega
          rw [if_pos g3] at he
          have HE2 := hid he
          clear g3 hlt hm he g1 g2 hsy
          go_wp2_with fail
          exact hK.out _ _ ⟨10, rfl, ⟨_, _, HD3.out, rfl, by rw [HE2.out], fun q => by simp at q, fun q => by simp at q, fun _ => ⟨rfl, rfl⟩⟩, HF3.out⟩
        · have g3i : ¬ (256 : Int) ≤ m := by omega
          rw [if_neg g3] at he
          have HE2 := hid he
          have ho := HS.out.out
          have hgv := give_any (c := sy) HD3.out.d g2 (by have := ho.n; show R.n < 256; omega) (by have := ho.w; show R.w < 16; omega) (by have := ho.fill; show R.fill ≤ 16; omega) (by have := ho.total; show R.total < 256; omega)
          have HOG := hid ((ho.keep (R2 := { R with at_ := p }) rfl rfl rfl rfl rfl rfl).give sy (by omega))
          unfold ptrV at hgv
          have HGV := hid hgv
          have hv8 : IntKind.u8.wrap (sy : Int) = (sy : Int) := wrap8 (by omega) (by omega)
          clear hgv ho g1 g2 g3 hlt hm he hsy
          go_wp2_with fail
          refine HGV.out.mono ?_
          rintro e w4 ⟨rfl, hg4, f4⟩
          have hd4 := HD3.out.dec hg4 f4 rfl rfl rfl (fun q => q)
          have hc4 : Coded w4 Y { s with out := s.out ++ [sy] } := fun a b => HC3.out.fr f4 (fun k a b q => by unfold Rng at q; omega) a b
          have HD4 := hid hd4
          have HC4 := hid hc4
          have HF4 := hid (HF3.out.trans (rngD f4))
          clear hg4 f4 hd4 hc4 k1
          go_wp2_with fail
          exact hK.out _ _ ⟨0, rfl, ⟨_, _, HD4.out, rfl, by rw [HE2.out], fun _ => ⟨_, HE2.out, ⟨HS.out.ph, HS.out.fin, fun q => by rw [HP.out] at q; simp at q, fun q => by rw [HP.out] at q; simp at q, fun q => by rw [HP.out] at q; simp at q, fun q => by rw [HP.out] at q; simp at q, HOG.out⟩, HC4.out⟩, fun q => by simp at q, fun q => absurd rfl q⟩, HF4.out⟩
      · have g2i : ¬ (sy : Int) < 256 := by omega
        rw [if_neg g2] at he
        obtain ⟨rn, hrn⟩ : ∃ z, z = sy - 254 := ⟨_, rfl⟩
        rw [← hrn] at he
        have HE2 := hid he
        have hsyi : (sy : Int) < 265 := by omega
        have e1 : (sy : Int) - 256 - 1 + 3 = (rn : Int) := by omega
        have HRN := hid e1
        have k1 := HD3.out.d.c_run
        have k2 := HD3.out.d.c_phase
        have cf : ∀ i, w3.frozen? ⟨Y + 24, i, none⟩ = false := HD3.out.d.fz
        have f4 : Fr (One (Y + 24)) w3 ((w3.setCell ⟨Y + 24, 11, none⟩ (.int .i64 ((rn : Nat) : Int))).setCell ⟨Y + 24, 4, none⟩ (.int .i64 ((6 : Nat) : Int))) := ((Fr.refl _ _).set1 _ _).set1 _ _
        have hd4 := HD3.out.dec ((HD3.out.d.set_run rn).set_phase 6) (rngO f4) rfl rfl rfl (fun q => q)
        have hc4 : Coded ((w3.setCell ⟨Y + 24, 11, none⟩ (.int .i64 ((rn : Nat) : Int))).setCell ⟨Y + 24, 4, none⟩ (.int .i64 ((6 : Nat) : Int))) Y { s with ph := 6, run := rn } := fun a b => HC3.out.fr f4 (fun k a b q => by unfold One at q; omega) (by rw [HP.out]; decide) (by rw [HP.out]; decide)
        have HD4 := hid hd4
        have HC4 := hid hc4
        have HF4 := hid (HF3.out.trans (rngD (rngO f4)))
        clear g1 g2 he hrn f4 hd4 hc4 hsy
        go_wp2_with fail
        exact hK.out _ _ ⟨0, rfl, ⟨_, _, HD4.out, rfl, by rw [HE2.out], fun _ => ⟨_, HE2.out, ⟨rfl, HS.out.fin, fun q => by simp at q, fun q => by simp at q, fun _ _ => rfl, fun q => by simp at q, HS.out.out.keep rfl rfl rfl rfl rfl rfl⟩, HC4.out⟩, fun q => by simp at q, fun q => absurd rfl q⟩, HF4.out⟩
  · have her1 : ((er : Int) == 0) = false := by simp; omega
    have her2 : ¬ (er : Int) = 0 := by omega
    have he := HST.out
    rw [if_pos her] at he
    have HE := hid he
    have HER := hid her
    clear he her
    go_wp2_with fail
    exact hK.out _ _ ⟨er, rfl, ⟨_, _, HD2.out, rfl, by rw [HE.out], fun q => absurd q HER.out, fun _ => ⟨rfl, HS.out.at_, HC2.out⟩, fun _ => ⟨rfl, rfl⟩⟩, HF2.out⟩
set_option maxRecDepth 100000 in
set_option maxHeartbeats 8000000 in
theorem turnDist_any {w : World} {Y o0 : Nat} {R : DcR} {t : Tp} {s : DS} (hD : DecM w Y R t) (hS : StR R o0 s) (hC : Coded w Y s) (hO : DSOK s) (hp : s.ph = 6) :
    Calls Tryz.prog 140 #[ptrV (Y + 24)] w fun e w' => ∃ er : Nat, e = .returned (.int .i64 (er : Nat)) ∧ TurnP w' Y o0 R t s er ∧ Fr (Rng Y (Y + 28)) w w' := by
  have c1 := hD.d.c_t
  rw [hD.rt] at c1
  have hst := stepF_6 (t := t) (s := s) hp
  unfold step6 at hst
  have hsp := fun q => symF_got s.b t q
  have hspc := fun q => symF_spec (l := s.b) t q
  have hla := (hO.sets (by omega) (by omega)).2.2.2
  rw [hla] at hspc
  have HSP := hid hsp
  have HSPC := hid hspc
  have HD := hid hD
  have HS := hid hS
  have HC := hid hC
  have HO := hid hO
  have HP := hid hp
  have HCU := hid hD.tp.ok.cur
  have HST := hid hst
  have HPK := hid (peek_any hD.tp 10 (by omega))
  clear hD hS hC hO hp hst hsp hspc hla
  refine calls_via fun K hK => ?_
  unfold ptrV tapP at *
  go_enter Tryz.func140, Tryz.ntmps140
  go_wp2_with fail
  refine HPK.out.mono ?_
  rintro e w2 ⟨rfl, q, hw2⟩
  have hd2 := HD.out.fr (S := Nob) (w2 := w2) (by rw [hw2]; exact Fr.of_drewN) (fun _ _ _ x => x)
  have hc2 := HC.out.fr (S := Nob) (w2 := w2) (by rw [hw2]; exact Fr.of_drewN) (fun _ _ _ x => x)
  have HF2 : Hid (Fr (Rng Y (Y + 28)) w w2) := hid (by rw [hw2]; exact Fr.of_drewN)
  have HFS := hid (find_sym (t := t) (hc2 (by rw [HP.out]; decide) (by rw [HP.out]; decide)).2)
  obtain ⟨S, hS⟩ : ∃ z, z = symF s.b t := ⟨_, rfl⟩
  rw [← hS] at HFS HST HSP HSPC
  obtain ⟨sy, n, er⟩ := S
  dsimp only at HFS HST HSP HSPC
  have HD2 := hid hd2
  have HC2 := hid hc2
  have c1 := hd2.d.c_t
  rw [hd2.rt] at c1
  have c2 := hd2.d.c_b
  rw [hd2.rb] at c2
  have cf : ∀ i, w2.frozen? ⟨Y + 24, i, none⟩ = false := hd2.d.fz
  unfold ptrV at HFS c2
  unfold tapP at c1
  obtain ⟨gv, hgv⟩ : ∃ z, z = t.peek 10 := ⟨_, rfl⟩
  obtain ⟨gg, hgg⟩ : ∃ z, z = t.got 10 := ⟨_, rfl⟩
  rw [← hgv, ← hgg] at HFS ⊢
  clear hw2 hd2 hc2 hS hgv hgg HPK
  go_wp2_with fail
  refine HFS.out.mono ?_
  rintro e w' ⟨rfl, hw⟩
  have hw2 := hw.symm; subst hw2; clear hw
  by_cases her : er = 0
  · subst her
    have hsp := HSP.out rfl
    have hl : t.at_ + n ≤ t.n := by have h1 := hsp.2.2; unfold Tp.got at h1; have := HCU.out; omega
    have hn16 : n ≤ 16 := by have h1 := (HSPC.out rfl).2.2; have := got_le t 10; omega
    have hsy : sy < 8 := (HSPC.out rfl).1
    have hsk := skip_any HD2.out.tp n hn16 hl
    obtain ⟨t1, ht1⟩ : ∃ z, z = t.skip n := ⟨_, rfl⟩
    have he := HST.out
    rw [if_neg (by simp)] at he
    rw [← ht1] at hsk he
    unfold tapP at hsk
    have HSK := hid hsk
    have HDB := hid (fun w => distBase_any (w := w) hsy)
    obtain ⟨x1, hx1⟩ : ∃ z, z = (distBase sy).1 := ⟨_, rfl⟩
    obtain ⟨x2, hx2⟩ : ∃ z, z = (distBase sy).2 := ⟨_, rfl⟩
    rw [← hx1, ← hx2] at he HDB
    have HE := hid he
    rw [show ((0 : Nat) : Int) = 0 from rfl]
    clear hsk he ht1 hsp hl hn16 HST HSP HSPC hx1 hx2 hsy
    go_wp2_with fail
    refine HSK.out.mono ?_
    rintro e w3 ⟨rfl, h3, f3⟩
    have hd3 := HD2.out.tape h3 (one_rng f3)
    have hf3 := HF2.out.trans (rngT (one_rng f3))
    have hc3 := HC2.out.fr f3 (fun k a b q => by unfold One at q; omega)
    have HD3 := hid hd3
    have HF3 := hid hf3
    have HC3 := hid hc3
    have k1 := hd3.d.c_base
    have k2 := hd3.d.c_more
    have k3 := hd3.d.c_phase
    clear h3 f3 hd3 hf3 hc3 c1 c2 cf
    have cf : ∀ i, w3.frozen? ⟨Y + 24, i, none⟩ = false := HD3.out.d.fz
    have f4 : Fr (One (Y + 24)) w3 (((w3.setCell ⟨Y + 24, 12, none⟩ (.int .i64 ((x1 : Nat) : Int))).setCell ⟨Y + 24, 13, none⟩ (.int .i64 ((x2 : Nat) : Int))).setCell ⟨Y + 24, 4, none⟩ (.int .i64 ((7 : Nat) : Int))) := (((Fr.refl _ _).set1 _ _).set1 _ _).set1 _ _
    have hd4 := HD3.out.dec (((HD3.out.d.set_base x1).set_more x2).set_phase 7) (rngO f4) rfl rfl rfl (fun q => q)
    have hc4 : Coded (((w3.setCell ⟨Y + 24, 12, none⟩ (.int .i64 ((x1 : Nat) : Int))).setCell ⟨Y + 24, 13, none⟩ (.int .i64 ((x2 : Nat) : Int))).setCell ⟨Y + 24, 4, none⟩ (.int .i64 ((7 : Nat) : Int))) Y { s with ph := 7, base := x1, more := x2 } := fun a b => HC3.out.fr f4 (fun k a b q => by unfold One at q; omega) (by rw [HP.out]; decide) (by rw [HP.out]; decide)
    have HD4 := hid hd4
    have HC4 := hid hc4
    have HF4 := hid (HF3.out.trans (rngD (rngO f4)))
    clear f4 hd4 hc4
    go_wp2_with fail
    refine (HDB.out _).mono ?_
    rintro e w' ⟨rfl, hw⟩
    have hw2 := hw.symm; subst hw2; clear hw
    go_wp2_with fail
    exact hK.out _ _ ⟨0, rfl, ⟨_, _, HD4.out, rfl, by rw [HE.out], fun _ => ⟨_, HE.out, ⟨rfl, HS.out.fin, fun q => by simp at q, fun q => by simp at q, fun _ _ => HS.out.run (by rw [HP.out]; decide) (by rw [HP.out]; decide), fun _ => ⟨rfl, rfl⟩, HS.out.out.keep rfl rfl rfl rfl rfl rfl⟩, HC4.out⟩, fun q => by simp at q, fun q => absurd rfl q⟩, HF4.out⟩
  · have her1 : ((er : Int) == 0) = false := by simp; omega
    have her2 : ¬ (er : Int) = 0 := by omega
    have he := HST.out
    rw [if_pos her] at he
    have HE := hid he
    have HER := hid her
    clear he her
    go_wp2_with fail
    exact hK.out _ _ ⟨er, rfl, ⟨_, _, HD2.out, rfl, by rw [HE.out], fun q => absurd q HER.out, fun _ => ⟨rfl, HS.out, HC2.out⟩, fun _ => ⟨rfl, rfl⟩⟩, HF2.out⟩
end Go.Proofs.Qxb6500353aGreat
