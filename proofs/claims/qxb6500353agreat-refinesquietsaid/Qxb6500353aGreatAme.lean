/- The model's archive: Unpack, walked. -/
import Derived.Test.Qxb6500353aGreatAmd
import Derived.Test.Qxb6500353aGreatArj
import Derived.Test.Qxb6500353aGreatMdl
namespace Go.Proofs.Qxb6500353aGreat
open Go.RowKit
set_option linter.unusedVariables false
set_option linter.unusedSimpArgs false

theorem Ends.byte {t : Tp} {s : DS} {e : Nat} {o : List Nat} (h : Ends t s e o) (hO : DSOK s) : (∀ c ∈ o, c < 256) ∧ o.length ≤ 256 := by
  induction h with
  | tail _ => exact ⟨hO.byte, hO.out⟩
  | err _ _ _ => exact ⟨hO.byte, hO.out⟩
  | step h8 k _ ih => exact ih (hO.step h8 k)
set_option maxRecDepth 100000 in
set_option maxHeartbeats 8000000 in
theorem munpackA_any {w : World} {b : Nat} {s : ByteArray} :
    Calls Tryz.prog 39 #[ptrV b, .string s] w fun e w' => ∃ ad : Option Addr, e = .returned (.tuple #[.slice ad (unpB s).length (unpB s).length, .int .i64 ((unpA (bytesOf s)).1 : Nat), .int .i64 ((unpA (bytesOf s)).2.1 : Nat)]) ∧ NewL w w' 98 2 (unpB s).length ad (entV (unpB s)) ∧ Fr Nob w w' := by
  have hfr := mread_any (w := w) (s := s)
  have hok := readA_ok (bytesOf s)
  have e1 : unpB s = if (unpA (bytesOf s)).1 ≠ 0 then [] else (readA (bytesOf s)).2.2.map (entB s) := rfl
  have e2 : unpA (bytesOf s) = if (readA (bytesOf s)).1 ≠ 0 then ((readA (bytesOf s)).1, (readA (bytesOf s)).2.1, []) else unpK (bytesOf s) (readA (bytesOf s)).2.2 := rfl
  obtain ⟨T, hT⟩ : ∃ z, z = readA (bytesOf s) := ⟨_, rfl⟩
  rw [← hT] at hfr hok e1 e2
  obtain ⟨er, ps, rs⟩ := T
  dsimp only at hfr hok e1 e2
  have HFR := hid hfr
  by_cases c1 : er = 0
  · subst c1
    rw [if_neg (by simp)] at e2
    have hk := hok rfl
    rw [e2] at e1
    rw [e2]
    obtain ⟨raw, hraw⟩ : ∃ z, z = bytesOf s := ⟨_, rfl⟩
    rw [← hraw] at e1 hk ⊢
    obtain ⟨n, hn⟩ : ∃ z, z = rs.length := ⟨_, rfl⟩
    rw [← hn] at hk
    have HOK := hid hk
    have HE1 := hid e1
    have HN := hid hn
    have HRAW := hid hraw
    have hni : (n : Int) ≤ 4 := by omega
    rw [← hn] at HFR
    have HSZ : Hid (s.size ≤ 1200) := hid (by have := hk.2.1; rw [hraw, bytesOf_len] at this; exact this)
    clear hfr hok hT e1 e2 hk hn hraw
    refine calls_via fun K hK => ?_
    unfold ptrV
    go_enter Tryz.func39, Tryz.ntmps39
    go_wp2_with fail
    refine HFR.out.mono ?_
    rintro e w1 ⟨ad, cap, rfl, ho, f1⟩
    have HO := hid ho
    have F1 := hid f1
    obtain ⟨M, hM⟩ : ∃ z, w1.heap.size = z := ⟨_, rfl⟩
    have HM := hid hM
    have HWM : Hid (w.heap.size ≤ M) := hid (by rw [← hM]; exact f1.size)
    clear ho f1
    rw [show ((0 : Nat) : Int) = 0 from rfl]
    go_wp2_with (at_make; refine wp_mkg rfl _ _ 32 98 2 32 _ rfl Tryz.underlying32 Tryz.info98 rfl n n n n M HM.out rfl rfl rfl rfl (Nat.le_refl _) (by omega) (by omega) ?_; intro w2 hs2 ha2 hf2; have HA2 := hid ha2; have HO2 := hid (HO.out.fr hf2 (fun _ _ x => x)); have F2 := hid (F1.out.trans hf2); clear ha2 hf2 hs2 hM)
    go_loopg [11] n (fun g i wr => ∃ (k : Nat) (f : Nat → Value), i = .int .i64 (k : Nat) ∧ g + k = n ∧ OwnG wr w.heap.size 126 6 ad n cap (rs.flatMap (rowV s)) ∧ Arr 98 mkV wr M (n * 2) f ∧ (∀ j, j < k * 2 → f j = entV (rs.map (entB s)) j) ∧ (unpK raw rs).1 = (unpK raw (rs.drop k)).1 ∧ (unpK raw rs).2.1 = (unpK raw (rs.drop k)).2.1 ∧ Fr Nob w wr)
    case atStart => exact ⟨0, _, rfl, by omega, HO2.out, HA2.out, fun j hj => by omega, rfl, rfl, F2.out⟩
    case round =>
      obtain ⟨k, f, rfl, hg, hO, hB, hf, hu1, hu2, hF⟩ := hrel
      have HO3 := hid hO
      have HB := hid hB
      have HFF := hid hf
      have HF := hid hF
      have HG := hid hg
      have HU := hid (And.intro hu1 hu2)
      by_cases hk : k < n
      · have hki : (k : Int) < n := by omega
        have hk4 : (k : Int) < 4 := by omega
        have hkl : k < rs.length := by rw [← HN.out]; exact hk
        have hrow := HOK.out.2.2.2 _ (List.getElem_mem hkl)
        have hLk : (rs.map (entB s))[k]? = some (entB s rs[k]) := by rw [List.getElem?_map, List.getElem?_eq_getElem hkl]; rfl
        have hgr := hO.row (List.getElem?_eq_getElem hkl)
        have hlt := fun (g : Nat) (h : ad = some ⟨g, 0, none⟩) => HO.out.lt (g := g) (by rw [h]; rfl)
        have hdr : rs.drop k = rs[k] :: rs.drop (k + 1) := drop_cons hkl
        obtain ⟨r, hr⟩ : ∃ z, z = rs[k] := ⟨_, rfl⟩
        rw [← hr] at hrow hLk hdr hgr
        have huo := fun q => unpK_ok (raw := raw) (r := r) (rs := rs.drop (k + 1)) q
        have hub := fun q => unpK_bad (raw := raw) (r := r) (rs := rs.drop (k + 1)) q
        rw [hdr] at hu1 hu2
        have HUO := hid huo
        have HUB := hid hub
        have HU2 := hid (And.intro hu1 hu2)
        have hue : unpE raw r = if (runE (textOf raw r)).1 ≠ 0 then (runE (textOf raw r)).1 else if (runE (textOf raw r)).2.length ≠ r.size then 19 else if sumF (runE (textOf raw r)).2 ≠ r.sum then 18 else 0 := rfl
        have hiv := entV_at hLk
        have heb : entB s r = (s.extract (r.off + 1) r.head, strN (runE (textOf raw r)).2) := by unfold entB; rw [HRAW.out]
        rw [heb] at hiv
        obtain ⟨off, hd, sz, sm, to_⟩ := r
        obtain ⟨g, rfl, hgl, t0, t1, t2, t3, t4, t5⟩ := hgr
        have hgM : g < M := by have := (hlt g rfl).2; rw [HM.out] at this; exact this
        have hr1 := hrow.off; have hr2 := hrow.head; have hr3 := hrow.to; have hr4 := hrow.long
        have hrl : raw.length = s.size := by rw [HRAW.out, bytesOf_len]
        rw [hrl] at hr3
        dsimp only at hr1 hr2 hr3 hr4 t0 t1 t2 t3 t4 t5 hiv hue
        have htx : textOf raw ⟨off, hd, sz, sm, to_⟩ = bytesOf (s.extract (hd + 6) to_) := by unfold textOf; dsimp only; rw [HRAW.out, bytesOf_sub]; rfl
        have hrun := runm_any (w := wr) (s := s.extract (hd + 6) to_) (by rw [ByteArray.size_extract]; omega)
        have hrun2 := fun (wx : World) => runm_any (w := wx) (s := s.extract (hd + 6) to_) (by rw [ByteArray.size_extract]; omega)
        rw [htx] at hue hiv
        obtain ⟨fr, hfr⟩ : ∃ z, z = hd + 6 := ⟨_, rfl⟩
        rw [← hfr] at t3 hrun2 hue hiv
        obtain ⟨E, hE⟩ : ∃ z, z = runE (bytesOf (s.extract fr to_)) := ⟨_, rfl⟩
        rw [← hE] at hue hiv
        obtain ⟨er, o⟩ := E
        dsimp only at hue hiv
        have HRUN : Hid (∀ wx, Fr Nob wr wx → Calls Tryz.prog 60 #[.string (s.extract fr to_)] wx fun e w' => ∃ p : Int, e = .returned (.tuple #[.string (strN o), .int .i64 (er : Nat), .int .i64 p]) ∧ ((∀ c ∈ o, c < 256) ∧ o.length ≤ 256) ∧ Fr Nob wr w') := hid (fun wx hx => (hrun2 wx).mono fun e w' h => by
          obtain ⟨er2, o2, p, h1, h2, h3⟩ := h
          have h4 := runE_eq h2
          rw [← hE] at h4
          simp only [Prod.mk.injEq] at h4
          obtain ⟨rfl, rfl⟩ := h4
          exact ⟨p, h1, h2.byte DSOK.init, hx.trans h3⟩)
        have HUE := hid hue
        have HIV := hid hiv
        have HGM := hid hgM
        have HGL := hid hgl
        have q1 : (fr : Int) ≤ to_ := by omega
        have q2 : (to_ : Int) ≤ s.size := by omega
        have q3 : (s.size : Int) ≤ 1200 := by have := HSZ.out; omega
        obtain ⟨nm, hnm⟩ : ∃ z, z = s.extract (off + 1) hd := ⟨_, rfl⟩
        rw [← hnm] at t0 HIV
        have HT := hid (And.intro t0 (And.intro t1 (And.intro t2 t5)))
        clear hfr hO hB hf hF hg hu1 hu2 hrow hLk hlt hdr hr huo hub hue hiv heb hgl hgM hr1 hr2 hr3 hr4 hrl htx hrun hrun2 hE hnm hkl hk t0 t1 t2 t5
        go_upto_region 8 with fail
        go_cut [12, 13, 14] (fun dv ev pv wx => dv = .string (strN o) ∧ ev = .int .i64 (er : Nat) ∧ (∃ p : Int, pv = .int .i64 p) ∧ ((∀ c ∈ o, c < 256) ∧ o.length ≤ 256) ∧ Fr Nob wr wx)
        case first =>
          · go_region_with (go_at_call 60; refine (HRUN.out _ (by first | exact Fr.refl _ _ | exact (Fr.refl _ _).drew | exact Fr.of_drewN)).mono ?_; rintro e w9 ⟨p, rfl, ho9, hf9⟩; have HO9 := hid ho9; have HF9 := hid hf9; have t3 := HF9.out.cell t3 (fun x => x); have t4 := HF9.out.cell t4 (fun x => x); clear ho9 hf9)
            all_goals (go_wp2_with fail; go_meet)
            all_goals exact ⟨rfl, rfl, ⟨_, rfl⟩, HO9.out, HF9.out⟩
        case rest =>
        obtain ⟨rfl, rfl, ⟨p, rfl⟩, ho, hf⟩ := hcut
        obtain ⟨w3, hw⟩ : ∃ z, z = wc := ⟨_, rfl⟩
        rw [← hw] at hf ⊢
        have t0 := hf.cell HT.out.1 (fun x => x)
        have t1 := hf.cell HT.out.2.1 (fun x => x)
        have t2 := hf.cell HT.out.2.2.1 (fun x => x)
        have t5 := hf.cell HT.out.2.2.2 (fun x => x)
        have HF3 := hid (HF.out.trans hf)
        have HFX := hid hf
        have HB3 := hid (HB.out.fr hf (fun x => x))
        have HO4 := hid (HO3.out.fr hf (fun _ _ x => x))
        have HBY := hid ho
        have hue := HUE.out
        clear hw hf ho t3 t4 q1 q2
        by_cases e0 : er = 0
        · subst e0
          rw [if_neg (by simp)] at hue
          rw [show ((0 : Nat) : Int) = 0 from rfl]
          have hol := HBY.out.2
          obtain ⟨ov, hov⟩ : ∃ z, z = strN o := ⟨_, rfl⟩
          rw [← hov] at HIV ⊢
          have hsz : ov.size = o.length := by rw [hov]; exact strN_size o
          have hsm : sumF (bytesOf ov) = sumF o := by rw [hov, bytesOf_strN HBY.out.1]
          obtain ⟨on, hon⟩ : ∃ z, z = o.length := ⟨_, rfl⟩
          rw [← hon] at hue hol hsz
          obtain ⟨os, hos⟩ : ∃ z, z = sumF o := ⟨_, rfl⟩
          rw [← hos] at hue hsm
          have hosl : os < 65536 := by rw [hos]; exact sumF_lt o
          have HSUM : Hid (∀ (wx : World), Calls Tryz.prog 50 #[.string ov] wx fun e w' => e = .returned (.int .i64 (os : Nat)) ∧ w' = wx) := hid (fun wx => (sum_any (w := wx) (s := ov) (by omega)).mono fun e w' h => by rw [hsm] at h; exact h)
          have hon2 : (ov.size : Int) = (on : Int) := by omega
          have hoi : (on : Int) ≤ 256 := by omega
          clear hov hsm hon hos hsz
          by_cases e1 : on = sz
          · have e1i : ((on : Int) == (sz : Int)) = true := by rw [e1]; simp
            have e1j : ((on : Int) != (sz : Int)) = false := by rw [e1]; simp
            rw [if_neg (fun q => q e1)] at hue
            by_cases e2 : os = sm
            · have e2i : ((os : Int) == (sm : Int)) = true := by rw [e2]; simp
              have e2j : ((os : Int) != (sm : Int)) = false := by rw [e2]; simp
              rw [if_neg (fun q => q e2)] at hue
              have hu := HUO.out hue
              have HUX := hid (And.intro (HU2.out.1.trans hu.1) (HU2.out.2.trans hu.2))
              clear hue hu e1 e2
              go_upto_region 13 with fail
              go_quiet ((go_at_call 50; exact Calls.quiet_of_same (HSUM.out _)))
              obtain ⟨w4, hw4⟩ : ∃ z, z = w3.drewN nq := ⟨_, rfl⟩
              rw [← hw4]
              have hf4 : Fr Nob w3 w4 := by rw [hw4]; exact Fr.of_drewN
              have t0 := hf4.cell t0 (fun x => x)
              have hb4 := HB3.out.fr hf4 (fun x => x)
              have HO5 := hid (HO4.out.fr hf4 (fun _ _ x => x))
              have HF4 := hid (HF3.out.trans hf4)
              have x0 := hb4.cell (k * 2) (by have := HG.out; omega)
              have x1 := hb4.cell (k * 2 + 1) (by have := HG.out; omega)
              simp only [mkV] at x0 x1
              obtain ⟨y0, hy0⟩ : ∃ z, z = f (k * 2) := ⟨_, rfl⟩
              obtain ⟨y1, hy1⟩ : ∃ z, z = f (k * 2 + 1) := ⟨_, rfl⟩
              rw [← hy0] at x0
              rw [← hy1] at x1
              have xz : ∀ i, w4.frozen? ⟨M, i, none⟩ = false := hb4.thaw
              have n1 : ¬ M = g := by have := HGM.out; omega
              have n2 : ¬ g = M := by have := HGM.out; omega
              have HB9 := hid ((hb4.set (k * 2) (.string nm)).set (k * 2 + 1) (.string ov))
              have f9 : Fr (One M) w4 ((w4.setCell ⟨M, k * 2, none⟩ (.string nm)).setCell ⟨M, k * 2 + 1, none⟩ (.string ov)) := ((Fr.refl (One M) w4).set1 (k * 2) (.string nm)).set1 (k * 2 + 1) (.string ov)
              have HF9 := hid (HF4.out.trans2 f9 (fun x hx hl => by unfold One at hx; have := HWM.out; omega))
              have HO9 := hid (HO5.out.fr f9 (fun g2 hg2 q => by unfold One at q; have h1 : some g = some g2 := hg2; injection h1; omega))
              clear hw4 hf4 hb4 hy0 hy1 f9 t1 t2 t5
              go_wp2_with fail
              go_roundg (gk - 1)
              case measure => have := HG.out; omega
              case rel =>
                refine ⟨k + 1, _, by simp, by have := HG.out; omega, HO9.out, HB9.out, fun j hj => ?_, HUX.out.1, HUX.out.2, HF9.out⟩
                by_cases e0 : j = k * 2
                · subst e0; rw [upd_ne _ _ _ _ (by omega), upd_self]; exact HIV.out.1.symm
                · by_cases e1 : j = k * 2 + 1
                  · subst e1; rw [upd_self]; exact HIV.out.2.symm
                  · rw [upd_ne _ _ _ _ e1, upd_ne _ _ _ _ e0]; exact HFF.out j (by omega)
            · have e2i : ((os : Int) == (sm : Int)) = false := beq_eq_false_iff_ne.2 (fun q => e2 (Int.ofNat.inj q))
              have e2j : ((os : Int) != (sm : Int)) = true := by rw [bne, e2i]; rfl
              rw [if_pos e2] at hue
              have hu := HUB.out (by rw [hue]; decide)
              have g1 := HU2.out.1.trans hu.1
              have g2 := HU2.out.2.trans hu.2
              have hub : unpB s = [] := by rw [HE1.out, g1, hue, if_pos (by decide)]
              rw [g1, g2, hue, hub] at hK
              clear hue hu g1 g2 hub e1 e2
              go_upto_region 13 with fail
              go_quiet ((go_at_call 50; exact Calls.quiet_of_same (HSUM.out _)))
              go_upto_region 14 with fail
              go_quiet (fail)
              go_wp2_with fail
              try go_ret3
              exact hK.out _ _ ⟨none, rfl, .inl rfl, HF3.out.drewN⟩
          · have e1i : ((on : Int) == (sz : Int)) = false := beq_eq_false_iff_ne.2 (fun q => e1 (Int.ofNat.inj q))
            have e1j : ((on : Int) != (sz : Int)) = true := by rw [bne, e1i]; rfl
            rw [if_pos e1] at hue
            have hu := HUB.out (by rw [hue]; decide)
            have g1 := HU2.out.1.trans hu.1
            have g2 := HU2.out.2.trans hu.2
            have hub : unpB s = [] := by rw [HE1.out, g1, hue, if_pos (by decide)]
            rw [g1, g2, hue, hub] at hK
            clear hue hu g1 g2 hub e1
            go_upto_region 12 with fail
            go_quiet (fail)
            go_wp2_with fail
            try go_ret3
            exact hK.out _ _ ⟨none, rfl, .inl rfl, HF3.out.drewN⟩
        · have e0i : ((er : Int) == 0) = false := beq_eq_false_iff_ne.2 (fun q => e0 (Int.ofNat.inj q))
          have e0j : ((er : Int) != 0) = true := by rw [bne, e0i]; rfl
          rw [if_pos e0] at hue
          have hu := HUB.out (by rw [hue]; exact e0)
          have g1 := HU2.out.1.trans hu.1
          have g2 := HU2.out.2.trans hu.2
          have hub : unpB s = [] := by rw [HE1.out, g1, hue, if_pos e0]
          rw [g1, g2, hue, hub] at hK
          clear hue hu g1 g2 hub e0
          go_upto_region 10 with fail
          go_quiet (fail)
          go_wp2_with fail
          try go_ret3
          exact hK.out _ _ ⟨none, rfl, .inl rfl, HF3.out.drewN⟩
      · have hki : ¬ (k : Int) < n := by omega
        have hkn : k = n := by omega
        subst hkn
        have hd0 : rs.drop k = [] := List.drop_eq_nil_of_le (by have := HN.out; omega)
        have hu0 : (unpK raw ([] : List RowP)) = (0, 0, []) := rfl
        rw [hd0, hu0] at hu1 hu2
        have hln : unpB s = rs.map (entB s) := by rw [HE1.out, hu1, if_neg (by simp)]
        have hl2 : (unpB s).length = k := by rw [hln, List.length_map, HN.out]
        rw [hu1, hu2, hl2, hln] at hK
        have hbb := hB.congr (h := entV (rs.map (entB s))) (fun j hj => hf j hj)
        have HBB := hid hbb
        clear hO hB hf hF hg hbb hk hu1 hu2 hln hl2 hd0 hu0
        go_wp2_with fail
        try go_ret3
        exact hK.out _ _ ⟨_, rfl, .inr ⟨M, HWM.out, rfl, HBB.out⟩, HF.out⟩
  · have c1i : ((er : Int) == 0) = false := beq_eq_false_iff_ne.2 (fun q => c1 (Int.ofNat.inj q))
    have c1j : ((er : Int) != 0) = true := by rw [bne, c1i]; rfl
    rw [if_pos c1] at e2
    rw [e2] at e1
    dsimp only at e1
    rw [if_pos c1] at e1
    rw [e1, e2]
    clear hfr hok hT e1 e2 c1
    refine calls_via fun K hK => ?_
    unfold ptrV
    go_enter Tryz.func39, Tryz.ntmps39
    go_wp2_with fail
    refine HFR.out.mono ?_
    rintro e w1 ⟨ad, cap, rfl, ho, f1⟩
    have F1 := hid f1
    clear ho f1
    go_wp2_with fail
    try go_ret3
    exact hK.out _ _ ⟨none, rfl, .inl rfl, F1.out⟩
end Go.Proofs.Qxb6500353aGreat
