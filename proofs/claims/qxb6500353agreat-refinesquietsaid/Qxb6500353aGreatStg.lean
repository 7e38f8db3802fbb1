/- The real decoder: a token's last piece, walked. -/
import Derived.Test.Qxb6500353aGreatStd
import Derived.Deep.Cut
import Derived.Deep.DeepCutAuto
namespace Go.Proofs.Qxb6500353aGreat
open Go.RowKit
set_option linter.unusedVariables false
set_option linter.unusedSimpArgs false

theorem dist_small {c : Nat} (h : c < 8) : 1 ≤ (distBase c).1 ∧ (distBase c).1 + 2 ^ (distBase c).2 ≤ 17 ∧ (distBase c).2 ≤ 2 := by
  have : c = 0 ∨ c = 1 ∨ c = 2 ∨ c = 3 ∨ c = 4 ∨ c = 5 ∨ c = 6 ∨ c = 7 := by omega
  rcases this with rfl | rfl | rfl | rfl | rfl | rfl | rfl | rfl <;> decide
theorem mf1 {m bk : Nat} (h : m < bk) : ((min m 16 : Nat) : Int) < (bk : Int) := by omega
theorem mf2 {m bk : Nat} (h : ¬ m < bk) (h2 : bk ≤ 16) : ¬ ((min m 16 : Nat) : Int) < (bk : Int) := by omega
theorem mf3 {m rn : Nat} (h : 256 - m < rn) (h2 : m ≤ 256) : 256 - (m : Int) < (rn : Int) := by omega
theorem mf4 {m rn : Nat} (h : ¬ 256 - m < rn) (h2 : m ≤ 256) : ¬ 256 - (m : Int) < (rn : Int) := by omega
theorem mf5 {m bk : Nat} (h : m % 16 < bk) (h1 : 1 ≤ bk) (h2 : bk ≤ 16) (h3 : bk ≤ m) : ((m % 16 : Nat) : Int) - (bk : Int) < 0 ∧ ((m % 16 : Nat) : Int) - (bk : Int) + 16 = (((m - bk) % 16 : Nat) : Int) := by omega
theorem mf6 {m bk : Nat} (h : ¬ m % 16 < bk) (h1 : 1 ≤ bk) (h2 : bk ≤ 16) (h3 : bk ≤ m) : ¬ ((m % 16 : Nat) : Int) - (bk : Int) < 0 ∧ ((m % 16 : Nat) : Int) - (bk : Int) = (((m - bk) % 16 : Nat) : Int) := by omega
theorem mf7 {L bk : Nat} (h3 : bk ≤ L) (h : (L - bk) % 16 + 1 = 16) : (L + 1 - bk) % 16 = 0 := by omega
theorem mf8 {L bk : Nat} (h3 : bk ≤ L) (h : ¬ (L - bk) % 16 + 1 = 16) : (L + 1 - bk) % 16 = (L - bk) % 16 + 1 := by omega
theorem mf9 {m k bk : Nat} (h3 : bk ≤ m) (h1 : 1 ≤ bk) (h2 : bk ≤ 16) : m + k - bk < m + k ∧ m + k ≤ m + k - bk + 16 ∧ (m + k - bk) % 16 < 16 := by omega
theorem getD_lt {o : List Nat} (h : ∀ c ∈ o, c < 256) (i : Nat) : o.getD i 0 < 256 := by
  rw [List.getD_eq_getElem?_getD]
  cases e : o[i]? with
  | none => simp
  | some x => exact h x (List.mem_of_getElem? e)
theorem copyF_succ (o : List Nat) (d k : Nat) : copyF o d (k + 1) = copyF o d k ++ [(copyF o d k).getD ((copyF o d k).length - d) 0] := rfl
set_option maxRecDepth 100000 in
set_option maxHeartbeats 8000000 in
theorem turnMore_any {w : World} {Y o0 : Nat} {R : DcR} {t : Tp} {s : DS} (hD : DecM w Y R t) (hS : StR R o0 s) (hC : Coded w Y s) (hO : DSOK s) (hp : s.ph = 7) :
    Calls Tryz.prog 141 #[ptrV (Y + 24)] w fun e w' => ∃ er : Nat, e = .returned (.int .i64 (er : Nat)) ∧ TurnP w' Y o0 R t s er ∧ Fr (Rng Y (Y + 28)) w w' := by
  have c1 := hD.d.c_t
  rw [hD.rt] at c1
  have c2 := hD.d.c_more
  have hst := stepF_7 (t := t) (s := s) hp
  unfold step7 at hst
  obtain ⟨cd, hcd, hdb⟩ := hO.base hp
  have hsm := dist_small hcd
  rw [hdb] at hsm
  dsimp only at hsm
  obtain ⟨hrb, hrm⟩ := hS.base hp
  obtain ⟨more, hmo⟩ : ∃ z, z = s.more := ⟨_, rfl⟩
  obtain ⟨base, hba⟩ : ∃ z, z = s.base := ⟨_, rfl⟩
  rw [← hmo] at hrm hsm hst
  rw [← hba] at hrb hsm hst
  rw [hrm] at c2
  have HD := hid hD
  have HS := hid hS
  have HC := hid hC
  have HO := hid hO
  have HP := hid hp
  have HST := hid hst
  have HRB := hid hrb
  have HSM := hid hsm
  have HRUN := hid (hS.run (by omega) (by omega))
  clear hD hS hC hO hp hst hcd hdb hsm hrb hrm hmo hba
  refine calls_via fun K hK => ?_
  unfold ptrV tapP at *
  go_enter Tryz.func141, Tryz.ntmps141
  by_cases g1 : t.got more < more
  · have HTK : Hid (∀ wx, Fr Nob w wx → Calls Tryz.prog 160 #[.pointer (some ⟨Y + 1, 0, none⟩), .int .i64 (more : Nat)] wx fun e w' => e = .returned (.tuple #[.int .i64 0, .int .i64 4]) ∧ ∃ n, w' = wx.drewN n) := hid (fun wx hfx => take_no (HD.out.fr hfx (fun _ _ _ x => x)).tp more (by have := HSM.out.2.2; omega) g1)
    have he := HST.out
    rw [if_pos g1] at he
    have HE := hid he
    clear he g1
    go_upto_region 1 with fail
    go_cut [3, 4] (fun xv ev wx => xv = .int .i64 0 ∧ ev = .int .i64 4 ∧ Fr Nob w wx)
    case first =>
      go_region_with (go_at_call 160; refine (HTK.out _ (by first | exact Fr.refl _ _ | exact (Fr.refl _ _).drew | exact Fr.of_drewN)).mono ?_; rintro e w2 ⟨rfl, q, hw2⟩; have HF2 : Hid (Fr Nob w w2) := hid (by rw [hw2]; first | exact Fr.of_drewN | exact ((Fr.refl _ _).drew).drewN | exact (Fr.of_drewN).drewN); clear hw2)
      all_goals (go_wp2_with fail; go_meet; exact ⟨rfl, rfl, HF2.out⟩)
    case rest =>
    obtain ⟨rfl, rfl, hf2⟩ := hcut
    obtain ⟨w2, rfl⟩ : ∃ w2, w2 = wc := ⟨_, rfl⟩
    have HF2 := hid hf2
    clear hf2 c1 c2
    go_wp2_with fail
    exact hK.out _ _ ⟨4, rfl, ⟨_, _, HD.out.fr HF2.out (fun _ _ _ x => x), rfl, by rw [HE.out], fun q => by simp at q, fun _ => ⟨rfl, HS.out, HC.out.fr HF2.out (fun _ _ _ x => x)⟩, fun _ => ⟨rfl, rfl⟩⟩, HF2.out.mono fun _ x _ => x.elim⟩
  · have HTK : Hid (∀ wx, Fr Nob w wx → Calls Tryz.prog 160 #[.pointer (some ⟨Y + 1, 0, none⟩), .int .i64 (more : Nat)] wx fun e w' => e = .returned (.tuple #[.int .i64 (t.peek more : Nat), .int .i64 0]) ∧ TapeAt w' Y (t.skip more) ∧ Fr (One (Y + 1)) wx w') := hid (fun wx hfx => take_yes (HD.out.fr hfx (fun _ _ _ x => x)).tp more (by have := HSM.out.2.2; omega) g1)
    have he := HST.out
    rw [if_neg g1] at he
    have hxl := peek_lt2 t more
    obtain ⟨t1, ht1⟩ : ∃ z, z = t.skip more := ⟨_, rfl⟩
    obtain ⟨x, hx⟩ : ∃ z, z = t.peek more := ⟨_, rfl⟩
    rw [← ht1, ← hx] at he HTK
    rw [← hx] at hxl
    have hb16 : base + x ≤ 16 ∧ 1 ≤ base := by have h1 := HSM.out; exact ⟨by omega, h1.1⟩
    have HE := hid he
    have HBX := hid hb16
    clear he g1 ht1 hx hxl hb16
    go_upto_region 1 with fail
    go_cut [3, 4] (fun xv ev wx => xv = .int .i64 (x : Nat) ∧ ev = .int .i64 0 ∧ TapeAt wx Y t1 ∧ Fr (One (Y + 1)) w wx)
    case first =>
      go_region_with (go_at_call 160; refine (HTK.out _ (by first | exact Fr.refl _ _ | exact (Fr.refl _ _).drew | exact Fr.of_drewN)).mono ?_; rintro e w2 ⟨rfl, h2, f2⟩; have HF2 : Hid (Fr (One (Y + 1)) w w2) := hid (by first | exact f2 | exact ((Fr.refl (One (Y + 1)) w).drew).trans f2 | exact (Fr.of_drewN (S := One (Y + 1))).trans f2); have H2 := hid h2; clear h2 f2)
      all_goals (go_wp2_with fail; go_meet; exact ⟨rfl, rfl, H2.out, HF2.out⟩)
    case rest =>
    obtain ⟨rfl, rfl, h2, f2⟩ := hcut
    obtain ⟨w2, rfl⟩ : ∃ w2, w2 = wc := ⟨_, rfl⟩
    have hd2 := HD.out.tape h2 (one_rng f2)
    have HD2 := hid hd2
    have HF2 := hid (rngT (one_rng f2))
    have HC2 := hid (HC.out.fr f2 (fun k a b q => by unfold One at q; omega))
    have k1 := hd2.d.c_base
    rw [HRB.out] at k1
    have k2 := hd2.d.c_fill
    rw [HS.out.out.fill] at k2
    have k3 := hd2.d.c_run
    rw [HRUN.out] at k3
    have k4 := hd2.d.c_total
    rw [HS.out.out.total] at k4
    have k5 := hd2.d.c_w
    rw [HS.out.out.w] at k5
    have hlt := HS.out.out.lt
    have hrl := HO.out.run (by rw [HP.out]; decide) (by rw [HP.out]; decide)
    obtain ⟨m, hm⟩ : ∃ z, z = s.out.length := ⟨_, rfl⟩
    rw [← hm] at k2 k4 k5 hlt
    obtain ⟨rn, hrn⟩ : ∃ z, z = s.run := ⟨_, rfl⟩
    rw [← hrn] at k3 hrl
    obtain ⟨fl, hfl⟩ : ∃ z, z = min m 16 := ⟨_, rfl⟩
    rw [← hfl] at k2
    obtain ⟨wv, hwv⟩ : ∃ z, z = m % 16 := ⟨_, rfl⟩
    rw [← hwv] at k5
    obtain ⟨bk, hbk⟩ : ∃ z, z = base + x := ⟨_, rfl⟩
    have hbx := HBX.out
    have he := HE.out
    rw [← hm, ← hrn, ← hbk] at he
    rw [← hbk] at hbx
    have HBK1 : Hid (1 ≤ bk) := hid (by omega)
    have e1 : (base : Int) + (x : Int) = (bk : Int) := by omega
    have e1b : wrap64 (bk : Int) = (bk : Int) := wrap64_n (by omega)
    clear c1 c2 hd2 h2 f2 HTK
    have HM := hid hm
    have HRN := hid hrn
    by_cases g2 : m < bk
    · have g2i : (fl : Int) < bk := by rw [hfl]; exact mf1 g2
      rw [if_pos g2] at he
      have HE2 := hid he
      clear he g2 hbx hbk hwv hfl hrl hlt hm hrn k3 k4 k5
      go_wp2_with fail
      exact hK.out _ _ ⟨9, rfl, ⟨_, _, HD2.out, rfl, by rw [HE2.out], fun q => by simp at q, fun q => by simp at q, fun _ => ⟨rfl, rfl⟩⟩, HF2.out⟩
    · have g2i : ¬ (fl : Int) < bk := by rw [hfl]; exact mf2 g2 hbx.1
      rw [if_neg g2] at he
      have hmi : (m : Int) ≤ 256 := Int.ofNat_le.2 hlt
      by_cases g3 : 256 - m < rn
      · have g3i : 256 - (m : Int) < rn := mf3 g3 hlt
        rw [if_pos g3] at he
        have HE2 := hid he
        clear he g2 g3 hbx hbk hwv hfl hrl hlt hm hrn k5
        go_upto_region 7 with fail
        go_quiet (fail)
        go_wp2_with fail
        exact hK.out _ _ ⟨10, rfl, ⟨_, _, HD2.out.fr (S := Nob) Fr.of_drewN (fun _ _ _ x => x), rfl, by rw [HE2.out], fun q => by simp at q, fun q => by simp at q, fun _ => ⟨rfl, rfl⟩⟩, HF2.out.drewN⟩
      · have g3i : ¬ 256 - (m : Int) < rn := mf4 g3 hlt
        rw [if_neg g3] at he
        have HE2 := hid he
        have hbm : bk ≤ m := Nat.le_of_not_lt g2
        have HMM := hid (And.intro hbm (And.intro hlt g3))
        have HRL := hid hrl
        have hb1 : 1 ≤ bk := HBK1.out
        have HBX2 := hid (And.intro hbx.1 hb1)
        have hwi : (wv : Int) < 16 := by rw [hwv]; exact Int.ofNat_lt.2 (Nat.mod_lt _ (by decide))
        have hbi : (bk : Int) ≤ 16 := Int.ofNat_le.2 hbx.1
        obtain ⟨fr0, hfr⟩ : ∃ z, z = (m - bk) % 16 := ⟨_, rfl⟩
        have HFR := hid hfr.symm
        by_cases g4 : wv < bk
        · have hf12 := mf5 (m := m) (by rw [← hwv]; exact g4) hb1 hbx.1 hbm
          rw [← hwv, ← hfr] at hf12
          obtain ⟨f1, f2⟩ := hf12
          clear he g2 g3 hbx hbk hwv hfl hrl hlt hm hrn hbm hb1 hfr g4
          go_upto_region 7 with fail
          go_quiet (fail)
          go_wp2_with fail
          obtain ⟨w3, hw3⟩ : ∃ z, z = w2.drewN nq := ⟨_, rfl⟩
          rw [← hw3]
          have hd3 : DecM w3 Y R t1 := by rw [hw3]; exact HD2.out.fr (S := Nob) Fr.of_drewN (fun _ _ _ x => x)
          have hc3 : Coded w3 Y s := by rw [hw3]; exact HC2.out.fr (S := Nob) Fr.of_drewN (fun _ _ _ x => x)
          have hf3 : Fr (Rng Y (Y + 28)) w w3 := by rw [hw3]; exact HF2.out.drewN
          have HD3 := hid hd3
          have HC3 := hid hc3
          have HF3 := hid hf3
          clear hw3 hd3 hc3 hf3 k1 k2 k3 k4 k5 f1 f2
          go_loopg [6, 7] rn (fun g fv kv wr => ∃ (k : Nat) (Rk : DcR), kv = .int .i64 (k : Nat) ∧ g + k = rn ∧ fv = .int .i64 (((m + k - bk) % 16 : Nat) : Int) ∧ DecM wr Y Rk t1 ∧ OutR Rk o0 (copyF s.out bk k) ∧ Rk.run = rn ∧ Rk.final = R.final ∧ Rk.fed = R.fed ∧ Coded wr Y s ∧ Fr (Rng Y (Y + 28)) w wr)
          case atStart => exact ⟨0, R, rfl, by omega, by rw [Nat.add_zero, HFR.out], HD3.out, HS.out.out, HRUN.out.trans HRN.out.symm, rfl, rfl, HC3.out, HF3.out⟩
          case round =>
            obtain ⟨k, Rk, rfl, hg, rfl, hE, hO2, hr2, hfi2, hfe2, hC2, hF2⟩ := hrel
            have HEE := hid hE
            have HOO := hid hO2
            have HXX := hid (And.intro hr2 (And.intro hfi2 hfe2))
            have HCC := hid hC2
            have HFF := hid hF2
            have HG := hid hg
            have k1 := hE.d.c_run
            rw [hr2] at k1
            have hki3 : (k : Int) ≤ 10 := by have := HRL.out; omega
            have cf : ∀ i, wr.frozen? ⟨Y + 24, i, none⟩ = false := hE.d.fz
            by_cases hlt : k < rn
            · have hki : (k : Int) < rn := by omega
              have hm9 := mf9 (k := k) HMM.out.1 HBX2.out.2 HBX2.out.1
              obtain ⟨f, hf⟩ : ∃ z, z = (m + k - bk) % 16 := ⟨_, rfl⟩
              have hf16 : f < 16 := by rw [hf]; exact hm9.2.2
              have hfi : (f : Int) < 16 := by omega
              have hlen : (copyF s.out bk k).length = m + k := by rw [copyF_length, HM.out]
              have hring := hO2.ring (m + k - bk) (by rw [hlen]; exact hm9.1) (by rw [hlen]; exact hm9.2.1)
              rw [← hf] at hring
              have k2 := hE.d.p_ring
              have k3 := hE.d.a_ring.cell f hf16
              simp only [mkB] at k3
              rw [hring] at k3
              have hy := getD_lt (copyF_byte s.out bk k HO.out.byte) (m + k - bk)
              obtain ⟨y, hyy⟩ : ∃ z, z = (copyF s.out bk k).getD (m + k - bk) 0 := ⟨_, rfl⟩
              rw [← hyy] at k3 hy
              have hl256 : m + k < 256 := by have := HMM.out.2.2; omega
              have hgv := give_any (c := y) hE.d hy (by have := hO2.n; rw [hlen] at this; omega) (by have := hO2.w; omega) (by have := hO2.fill; omega) (by have := hO2.total; rw [hlen] at this; omega)
              have hog := hO2.give y (by rw [hlen]; exact hl256)
              rw [show copyF s.out bk k ++ [y] = copyF s.out bk (k + 1) by rw [copyF_succ, hlen, hyy]] at hog
              unfold ptrV at hgv
              have HGV := hid hgv
              have HOG := hid hog
              have HF := hid hf
              rw [← hf]
              clear hE hO2 hr2 hfi2 hfe2 hC2 hF2 hgv hog hf hyy hring hlen hy hg hm9 hl256 hlt
              go_wp2_with fail
              refine HGV.out.mono ?_
              rintro e w4 ⟨rfl, hg4, f4⟩
              have hd4 := HEE.out.dec hg4 f4 rfl rfl rfl (fun q => q)
              have HD4 := hid hd4
              have HC4 := hid (HCC.out.fr f4 (fun k a b q => by unfold Rng at q; omega))
              have HF4 := hid (HFF.out.trans (rngD f4))
              clear hg4 f4 hd4 k1 k2 k3 cf
              by_cases h16 : f + 1 = 16
              · have h16i : (f : Int) + 1 = 16 := by omega
                have HX16 := hid (mf7 (L := m + k) (bk := bk) (by have := HMM.out.1; omega) (by rw [← HF.out]; exact h16))
                have hf15 : f = 15 := by omega
                subst hf15
                clear h16 h16i hf16 hfi
                go_wp2_with fail
                go_roundg (gk - 1)
                case measure => have := HG.out; omega
                case rel => exact ⟨k + 1, _, by simp, by have := HG.out; omega, by rw [show m + (k + 1) = m + k + 1 from rfl, HX16.out]; rfl, HD4.out, HOG.out, HXX.out.1, HXX.out.2.1, HXX.out.2.2, HC4.out, HF4.out⟩
              · have h16i : (((f : Int) + 1) == 16) = false := by simp; omega
                have HX16 := hid (mf8 (L := m + k) (bk := bk) (by have := HMM.out.1; omega) (by rw [← HF.out]; exact h16))
                clear h16
                go_wp2_with fail
                go_roundg (gk - 1)
                case measure => have := HG.out; omega
                case rel => exact ⟨k + 1, _, by simp, by have := HG.out; omega, by rw [show m + (k + 1) = m + k + 1 from rfl, HX16.out, ← HF.out]; rfl, HD4.out, HOG.out, HXX.out.1, HXX.out.2.1, HXX.out.2.2, HC4.out, HF4.out⟩
            · have hki : ¬ (k : Int) < rn := by omega
              have hkr : k = rn := by omega
              have f4 : Fr (One (Y + 24)) wr (wr.setCell ⟨Y + 24, 4, none⟩ (.int .i64 ((5 : Nat) : Int))) := (Fr.refl _ _).set1 _ _
              have hd4 := hE.dec (hE.d.set_phase 5) (rngO f4) rfl rfl rfl (fun q => q)
              have k2 := hE.d.c_phase
              have hc4 : Coded (wr.setCell ⟨Y + 24, 4, none⟩ (.int .i64 ((5 : Nat) : Int))) Y { s with ph := 5, out := copyF s.out bk rn } := fun a b => hC2.fr f4 (fun k a b q => by unfold One at q; omega) (by rw [HP.out]; decide) (by rw [HP.out]; decide)
              rw [hkr] at hO2
              have HO2 := hid hO2
              have HD4 := hid hd4
              have HC4 := hid hc4
              have HF4 := hid (hF2.trans (rngD (rngO f4)))
              clear hE hO2 hr2 hfi2 hfe2 hC2 hF2 hkr hd4 hc4 f4 hg hlt
              go_wp2_with fail
              exact hK.out _ _ ⟨0, rfl, ⟨_, _, HD4.out, HXX.out.2.2, by rw [HE2.out], fun _ => ⟨_, HE2.out, ⟨rfl, HXX.out.2.1.trans HS.out.fin, fun q => by simp at q, fun q => by simp at q, fun q => by simp at q, fun q => by simp at q, HO2.out.keep rfl rfl rfl rfl rfl rfl⟩, HC4.out⟩, fun q => by simp at q, fun q => absurd rfl q⟩, HF4.out⟩
        · have hf12 := mf6 (m := m) (by rw [← hwv]; exact g4) hb1 hbx.1 hbm
          rw [← hwv, ← hfr] at hf12
          obtain ⟨f1, f2⟩ := hf12
          clear he g2 g3 hbx hbk hwv hfl hrl hlt hm hrn hbm hb1 hfr g4
          go_upto_region 7 with fail
          go_quiet (fail)
          go_wp2_with fail
          obtain ⟨w3, hw3⟩ : ∃ z, z = w2.drewN nq := ⟨_, rfl⟩
          rw [← hw3]
          have hd3 : DecM w3 Y R t1 := by rw [hw3]; exact HD2.out.fr (S := Nob) Fr.of_drewN (fun _ _ _ x => x)
          have hc3 : Coded w3 Y s := by rw [hw3]; exact HC2.out.fr (S := Nob) Fr.of_drewN (fun _ _ _ x => x)
          have hf3 : Fr (Rng Y (Y + 28)) w w3 := by rw [hw3]; exact HF2.out.drewN
          have HD3 := hid hd3
          have HC3 := hid hc3
          have HF3 := hid hf3
          clear hw3 hd3 hc3 hf3 k1 k2 k3 k4 k5 f1 f2
          go_loopg [6, 7] rn (fun g fv kv wr => ∃ (k : Nat) (Rk : DcR), kv = .int .i64 (k : Nat) ∧ g + k = rn ∧ fv = .int .i64 (((m + k - bk) % 16 : Nat) : Int) ∧ DecM wr Y Rk t1 ∧ OutR Rk o0 (copyF s.out bk k) ∧ Rk.run = rn ∧ Rk.final = R.final ∧ Rk.fed = R.fed ∧ Coded wr Y s ∧ Fr (Rng Y (Y + 28)) w wr)
          case atStart => exact ⟨0, R, rfl, by omega, by rw [Nat.add_zero, HFR.out], HD3.out, HS.out.out, HRUN.out.trans HRN.out.symm, rfl, rfl, HC3.out, HF3.out⟩
          case round =>
            obtain ⟨k, Rk, rfl, hg, rfl, hE, hO2, hr2, hfi2, hfe2, hC2, hF2⟩ := hrel
            have HEE := hid hE
            have HOO := hid hO2
            have HXX := hid (And.intro hr2 (And.intro hfi2 hfe2))
            have HCC := hid hC2
            have HFF := hid hF2
            have HG := hid hg
            have k1 := hE.d.c_run
            rw [hr2] at k1
            have hki3 : (k : Int) ≤ 10 := by have := HRL.out; omega
            have cf : ∀ i, wr.frozen? ⟨Y + 24, i, none⟩ = false := hE.d.fz
            by_cases hlt : k < rn
            · have hki : (k : Int) < rn := by omega
              have hm9 := mf9 (k := k) HMM.out.1 HBX2.out.2 HBX2.out.1
              obtain ⟨f, hf⟩ : ∃ z, z = (m + k - bk) % 16 := ⟨_, rfl⟩
              have hf16 : f < 16 := by rw [hf]; exact hm9.2.2
              have hfi : (f : Int) < 16 := by omega
              have hlen : (copyF s.out bk k).length = m + k := by rw [copyF_length, HM.out]
              have hring := hO2.ring (m + k - bk) (by rw [hlen]; exact hm9.1) (by rw [hlen]; exact hm9.2.1)
              rw [← hf] at hring
              have k2 := hE.d.p_ring
              have k3 := hE.d.a_ring.cell f hf16
              simp only [mkB] at k3
              rw [hring] at k3
              have hy := getD_lt (copyF_byte s.out bk k HO.out.byte) (m + k - bk)
              obtain ⟨y, hyy⟩ : ∃ z, z = (copyF s.out bk k).getD (m + k - bk) 0 := ⟨_, rfl⟩
              rw [← hyy] at k3 hy
              have hl256 : m + k < 256 := by have := HMM.out.2.2; omega
              have hgv := give_any (c := y) hE.d hy (by have := hO2.n; rw [hlen] at this; omega) (by have := hO2.w; omega) (by have := hO2.fill; omega) (by have := hO2.total; rw [hlen] at this; omega)
              have hog := hO2.give y (by rw [hlen]; exact hl256)
              rw [show copyF s.out bk k ++ [y] = copyF s.out bk (k + 1) by rw [copyF_succ, hlen, hyy]] at hog
              unfold ptrV at hgv
              have HGV := hid hgv
              have HOG := hid hog
              have HF := hid hf
              rw [← hf]
              clear hE hO2 hr2 hfi2 hfe2 hC2 hF2 hgv hog hf hyy hring hlen hy hg hm9 hl256 hlt
              go_wp2_with fail
              refine HGV.out.mono ?_
              rintro e w4 ⟨rfl, hg4, f4⟩
              have hd4 := HEE.out.dec hg4 f4 rfl rfl rfl (fun q => q)
              have HD4 := hid hd4
              have HC4 := hid (HCC.out.fr f4 (fun k a b q => by unfold Rng at q; omega))
              have HF4 := hid (HFF.out.trans (rngD f4))
              clear hg4 f4 hd4 k1 k2 k3 cf
              by_cases h16 : f + 1 = 16
              · have h16i : (f : Int) + 1 = 16 := by omega
                have HX16 := hid (mf7 (L := m + k) (bk := bk) (by have := HMM.out.1; omega) (by rw [← HF.out]; exact h16))
                have hf15 : f = 15 := by omega
                subst hf15
                clear h16 h16i hf16 hfi
                go_wp2_with fail
                go_roundg (gk - 1)
                case measure => have := HG.out; omega
                case rel => exact ⟨k + 1, _, by simp, by have := HG.out; omega, by rw [show m + (k + 1) = m + k + 1 from rfl, HX16.out]; rfl, HD4.out, HOG.out, HXX.out.1, HXX.out.2.1, HXX.out.2.2, HC4.out, HF4.out⟩
              · have h16i : (((f : Int) + 1) == 16) = false := by simp; omega
                have HX16 := hid (mf8 (L := m + k) (bk := bk) (by have := HMM.out.1; omega) (by rw [← HF.out]; exact h16))
                clear h16
                go_wp2_with fail
                go_roundg (gk - 1)
                case measure => have := HG.out; omega
                case rel => exact ⟨k + 1, _, by simp, by have := HG.out; omega, by rw [show m + (k + 1) = m + k + 1 from rfl, HX16.out, ← HF.out]; rfl, HD4.out, HOG.out, HXX.out.1, HXX.out.2.1, HXX.out.2.2, HC4.out, HF4.out⟩
            · have hki : ¬ (k : Int) < rn := by omega
              have hkr : k = rn := by omega
              have f4 : Fr (One (Y + 24)) wr (wr.setCell ⟨Y + 24, 4, none⟩ (.int .i64 ((5 : Nat) : Int))) := (Fr.refl _ _).set1 _ _
              have hd4 := hE.dec (hE.d.set_phase 5) (rngO f4) rfl rfl rfl (fun q => q)
              have k2 := hE.d.c_phase
              have hc4 : Coded (wr.setCell ⟨Y + 24, 4, none⟩ (.int .i64 ((5 : Nat) : Int))) Y { s with ph := 5, out := copyF s.out bk rn } := fun a b => hC2.fr f4 (fun k a b q => by unfold One at q; omega) (by rw [HP.out]; decide) (by rw [HP.out]; decide)
              rw [hkr] at hO2
              have HO2 := hid hO2
              have HD4 := hid hd4
              have HC4 := hid hc4
              have HF4 := hid (hF2.trans (rngD (rngO f4)))
              clear hE hO2 hr2 hfi2 hfe2 hC2 hF2 hkr hd4 hc4 f4 hg hlt
              go_wp2_with fail
              exact hK.out _ _ ⟨0, rfl, ⟨_, _, HD4.out, HXX.out.2.2, by rw [HE2.out], fun _ => ⟨_, HE2.out, ⟨rfl, HXX.out.2.1.trans HS.out.fin, fun q => by simp at q, fun q => by simp at q, fun q => by simp at q, fun q => by simp at q, HO2.out.keep rfl rfl rfl rfl rfl rfl⟩, HC4.out⟩, fun q => by simp at q, fun q => absurd rfl q⟩, HF4.out⟩
end Go.Proofs.Qxb6500353aGreat
