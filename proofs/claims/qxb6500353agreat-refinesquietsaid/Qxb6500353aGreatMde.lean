/- The model's decoder: stored, walked. -/
import Derived.Test.Qxb6500353aGreatMdd
namespace Go.Proofs.Qxb6500353aGreat
open Go.RowKit
set_option linter.unusedVariables false
set_option linter.unusedSimpArgs false

theorem stoG_step (d : Nat) (t : Tp) (o : List Nat) : stoG (d + 1) t o = if t.got 8 < 8 then (4, t, o) else if 256 ≤ o.length then (10, t.skip 8, o) else stoG d (t.skip 8) (o ++ [t.peek 8]) := rfl
set_option maxRecDepth 100000 in
set_option maxHeartbeats 8000000 in
theorem storedm_any {w : World} {b cap capo : Nat} {ad ado : Option Addr} {t : Tp} {o : List Nat} (h : DcS w b cap ad t ado capo o) (hol : o.length ≤ 256) :
    Calls Tryz.prog 81 #[.pointer (some ⟨b, 0, none⟩), .slice ado o.length capo] w fun e w' => ∃ (ad2 : Option Addr) (cp2 : Nat) (p : Int), e = .returned (.tuple #[.slice ad2 (stoM t.sync o).2.2.length cp2, .int .i64 ((stoM t.sync o).1 : Nat), .int .i64 p]) ∧ DcS w' b cap ad (stoM t.sync o).2.1 ad2 cp2 (stoM t.sync o).2.2 ∧ Gr b w ado w' ad2 := by
  have H := hid h
  have HSY := hid (msync_any h.tp)
  have hobi : (o.length : Int) ≤ 256 := by omega
  obtain ⟨n, hn⟩ : ∃ n, n = o.length := ⟨_, rfl⟩
  obtain ⟨t1, ht1⟩ : ∃ z, z = t.sync := ⟨_, rfl⟩
  rw [← ht1] at HSY ⊢
  have HNL := hid hn
  unfold ptrV at HSY
  clear h ht1
  by_cases c1 : t1.got 16 < 16
  · have e : stoM t1 o = (4, t1, o) := by unfold stoM; rw [if_pos c1]
    rw [e]; dsimp only
    rw [← hn] at hobi ⊢
    have C1 := hid c1
    clear e hn c1
    refine calls_via fun K hK => ?_
    go_enter Tryz.func81, Tryz.ntmps81
    go_wp2_with fail
    refine HSY.out.mono ?_
    rintro e w1 ⟨rfl, h1, hf1⟩
    have HD1 := hid (H.out.one h1 hf1)
    have hps := mpos_any h1
    have htk := mtake_no h1 (k := 16) (by omega) C1.out
    obtain ⟨p, hp⟩ : ∃ p, p = t1.at_ := ⟨_, rfl⟩
    rw [← hp] at hps
    unfold ptrV at hps htk
    have HPS := hid hps
    have HTK := hid htk
    clear h1 hf1 hps htk hp
    go_wp2_with fail
    refine HPS.out.mono ?_
    rintro e w' ⟨rfl, hw⟩
    have hw2 := hw.symm; subst hw2; clear hw
    go_wp2_with fail
    refine HTK.out.mono ?_
    rintro e w2 ⟨rfl, q, rfl⟩
    have HD2 := hid (HD1.out.1.nob (Fr.of_drewN : Fr Nob w1 (w1.drewN q)))
    go_wp2_with fail
    go_loopg [1, 7, 9, 10] 0 (fun g ov pv ev v wr => ov = .slice ado n capo ∧ pv = .int .i64 (p : Nat) ∧ ev = .int .i64 4 ∧ v = .int .i64 0 ∧ wr = w1.drewN q)
    case atStart => exact ⟨rfl, rfl, rfl, rfl, rfl⟩
    case round =>
      obtain ⟨rfl, rfl, rfl, rfl, rfl⟩ := hrel
      go_wp2_with fail
      go_ret3
      exact hK.out _ _ ⟨ado, capo, _, rfl, HD2.out.1, HD1.out.2.trans HD2.out.2⟩
  · have e : stoM t1 o = stoG (t1.peek 16) (t1.skip 16) o := by unfold stoM; rw [if_neg c1]
    rw [e]
    have hd16 := peek_lt2 t1 16
    have C1 := hid c1
    obtain ⟨d, hd⟩ : ∃ z, z = t1.peek 16 := ⟨_, rfl⟩
    obtain ⟨t2, ht2⟩ : ∃ z, z = t1.skip 16 := ⟨_, rfl⟩
    rw [← hd, ← ht2]
    rw [← hd] at hd16
    have h65 : (2 : Nat) ^ 16 = 65536 := rfl
    rw [h65] at hd16
    have hdi : (d : Int) < 65536 := by omega
    obtain ⟨R, hR⟩ : ∃ R, R = stoG d t2 o := ⟨_, rfl⟩
    rw [← hR]
    have HR := hid hR
    have HD := hid hd
    have HT2 := hid ht2
    rw [← hn] at hobi ⊢
    clear e c1 hd ht2 h65 hd16 hR hn
    refine calls_via fun K hK => ?_
    go_enter Tryz.func81, Tryz.ntmps81
    go_wp2_with fail
    refine HSY.out.mono ?_
    rintro e w1 ⟨rfl, h1, hf1⟩
    have HD1 := hid (H.out.one h1 hf1)
    have hps := mpos_any h1
    have htk := mtake_yes h1 (k := 16) (by omega) C1.out
    rw [← HD.out, ← HT2.out] at htk
    obtain ⟨p, hp⟩ : ∃ p, p = t1.at_ := ⟨_, rfl⟩
    rw [← hp] at hps
    unfold ptrV at hps htk
    have HPS := hid hps
    have HTK := hid htk
    clear h1 hf1 hps htk hp
    go_wp2_with fail
    refine HPS.out.mono ?_
    rintro e w' ⟨rfl, hw⟩
    have hw2 := hw.symm; subst hw2; clear hw
    go_wp2_with fail
    refine HTK.out.mono ?_
    rintro e w2 ⟨rfl, h2, hf2⟩
    have hd2 := HD1.out.1.one h2 hf2
    have HD2 := hid (And.intro hd2.1 (HD1.out.2.trans hd2.2))
    clear h2 hf2 hd2
    go_wp2_with fail
    go_loopg [1, 7, 9, 10] d (fun g ov pv ev v wr => ∃ (k er m : Nat) (pp : Int) (tq : Tp) (oq : List Nat) (adr : Option Addr) (cpr : Nat), v = .int .i64 (k : Nat) ∧ g + k = d ∧ ev = .int .i64 (er : Nat) ∧ er ≤ 10 ∧ pv = .int .i64 pp ∧ ov = .slice adr m cpr ∧ m = oq.length ∧ m ≤ 256 ∧ DcS wr b cap ad tq adr cpr oq ∧ Gr b w ado wr adr ∧ (er = 0 → R = stoG (d - k) tq oq) ∧ (er ≠ 0 → R = (er, tq, oq)))
    case atStart => exact ⟨0, 0, n, _, t2, o, ado, capo, rfl, by omega, rfl, by omega, rfl, rfl, HNL.out, by omega, HD2.out.1, HD2.out.2, fun _ => HR.out, fun q => absurd rfl q⟩
    case round =>
      obtain ⟨k, er, m, pp, tq, oq, adr, cpr, rfl, hg, rfl, her, rfl, rfl, hm, hm2, hE, hG, hz, hnz⟩ := hrel
      have HG := hid hg
      have HM := hid (And.intro hm hm2)
      have hmi : (m : Int) ≤ 256 := by omega
      have HE := hid hE
      have HGR := hid hG
      by_cases hk : k < d
      · have hki : (k : Int) < d := by omega
        by_cases he0 : er = 0
        · subst he0
          have hRR := hz rfl
          have edk : d - k = d - (k + 1) + 1 := by omega
          rw [edk, stoG_step] at hRR
          have hps := mpos_any hE.tp
          obtain ⟨p2, hp2⟩ : ∃ p, p = tq.at_ := ⟨_, rfl⟩
          rw [← hp2] at hps
          unfold ptrV at hps
          have HPS2 := hid hps
          by_cases c3 : tq.got 8 < 8
          · rw [if_pos c3] at hRR
            have htk := mtake_no hE.tp (k := 8) (by omega) c3
            unfold ptrV at htk
            have HTK2 := hid htk
            have HRR := hid hRR
            have HKD := hid hk
            clear hE hG hz hnz hps hp2 htk hRR c3 hg hm hm2 edk hk
            go_wp2_with fail
            refine HPS2.out.mono ?_
            rintro e w' ⟨rfl, hw⟩
            have hw2 := hw.symm; subst hw2; clear hw
            go_wp2_with fail
            refine HTK2.out.mono ?_
            rintro e w5 ⟨rfl, q, rfl⟩
            have HD5 := hid (HE.out.nob (Fr.of_drewN : Fr Nob wr (wr.drewN q)))
            go_wp2_with fail
            go_roundg (gk - 1)
            case measure => have := HG.out; have := HKD.out; omega
            case rel => exact ⟨k + 1, 4, m, _, tq, oq, adr, cpr, by simp, by have := HG.out; have := HKD.out; omega, rfl, by omega, rfl, rfl, HM.out.1, HM.out.2, HD5.out.1, HGR.out.trans HD5.out.2, fun q => by omega, fun _ => HRR.out⟩
          · rw [if_neg c3] at hRR
            have htk := mtake_yes hE.tp (k := 8) (by omega) c3
            have hc8 := peek_lt2 tq 8
            obtain ⟨x, hx⟩ : ∃ x, x = tq.peek 8 := ⟨_, rfl⟩
            obtain ⟨t5, ht5⟩ : ∃ z, z = tq.skip 8 := ⟨_, rfl⟩
            rw [← hx, ← ht5] at htk
            rw [← hx, ← ht5] at hRR
            rw [← hx] at hc8
            have h28 : (2 : Nat) ^ 8 = 256 := rfl
            rw [h28] at hc8
            have hxi : (x : Int) < 256 := by omega
            unfold ptrV at htk
            have HTK2 := hid htk
            have HKD := hid hk
            by_cases c4 : 256 ≤ oq.length
            · rw [if_pos c4] at hRR
              have c4i : (256 : Int) ≤ m := by omega
              have HRR := hid hRR
              clear hE hG hz hnz hps hp2 htk hRR c3 c4 hg hm hm2 edk hk hx ht5 h28 hc8
              go_wp2_with fail
              refine HPS2.out.mono ?_
              rintro e w' ⟨rfl, hw⟩
              have hw2 := hw.symm; subst hw2; clear hw
              go_wp2_with fail
              refine HTK2.out.mono ?_
              rintro e w5 ⟨rfl, h5, hf5⟩
              have HD5 := hid (HE.out.one h5 hf5)
              clear h5 hf5
              go_wp2_with fail
              go_roundg (gk - 1)
              case measure => have := HG.out; have := HKD.out; omega
              case rel => exact ⟨k + 1, 10, m, _, t5, oq, adr, cpr, by simp, by have := HG.out; have := HKD.out; omega, rfl, by omega, rfl, rfl, HM.out.1, HM.out.2, HD5.out.1, HGR.out.trans HD5.out.2, fun q => by omega, fun _ => HRR.out⟩
            · rw [if_neg c4] at hRR
              have c4i : (m : Int) < 256 := by omega
              have HRR := hid hRR
              have HM4 := hid c4
              have wx8 : IntKind.u8.wrap (x : Int) = (x : Int) := wrap8 (by omega) (by omega)
              have hm1000 : m ≤ 1000000000 := by omega
              clear hE hG hz hnz hps hp2 htk hRR c3 c4 hg hm hm2 edk hk hx ht5 h28 hc8
              go_wp2_with fail
              refine HPS2.out.mono ?_
              rintro e w' ⟨rfl, hw⟩
              have hw2 := hw.symm; subst hw2; clear hw
              go_wp2_with fail
              refine HTK2.out.mono ?_
              rintro e w5 ⟨rfl, h5, hf5⟩
              have HD5 := hid (HE.out.one h5 hf5)
              clear h5 hf5
              have HKW : Hid (wrap64 ((k : Int) + 1) = (k : Int) + 1) := hid (wrap64_id (by omega) (by omega))
              clear hdi hmi
              obtain ⟨M, hM⟩ : ∃ M, w5.heap.size = M := ⟨_, rfl⟩
              have HMM := hid hM
              go_wp2_with (at_builtin; refine wp_appB rfl _ _ rfl 0 adr m cpr oq x rfl (by rw [HM.out.1]; exact HD5.out.1.ow.fr ((Fr.refl Nob w5).alloc _) (fun _ _ x => x)) M 1 rfl (by rw [← HMM.out]; exact World.cell?_alloc_new _ _ _ 0) hm1000 (Nat.zero_le _) ?_; intro ad2 cap2 w6 ho2 hf2 hob2; have HO2 := hid ho2; have HF2 := hid hf2; have HB2 := hid hob2; clear ho2 hf2 hob2)
              go_roundg (gk - 1)
              case measure => have := HG.out; have := HKD.out; omega
              case rel =>
                have hfr := ((Fr.refl (Obs adr) w5).alloc (Obj.cells #[.int .u8 (x : Int)] 5)).trans HF2.out
                have hap := HD5.out.1.app (by rw [HM.out.1]) HO2.out hfr (HB2.out.elim .inl fun q => .inr ⟨_, q, by simp⟩)
                exact ⟨k + 1, 0, m + 1, _, t5, oq ++ [x], ad2, cap2, by simp; exact HKW.out, by have := HG.out; have := HKD.out; omega, rfl, by omega, rfl, rfl, by rw [List.length_append, ← HM.out.1]; rfl, by have := HM4.out; have := HM.out.1; omega, hap.1, (HGR.out.trans HD5.out.2).trans hap.2, fun _ => HRR.out, fun q => absurd rfl q⟩
        · have hez : ((er : Int) == 0) = false := by simp; omega
          have HRR := hid (hnz he0)
          clear hE hG hz hnz hg hm hm2 hk
          go_wp2_with fail
          go_ret3
          exact hK.out _ _ ⟨adr, cpr, _, by rw [HRR.out, HM.out.1]; rfl, by rw [HRR.out]; exact HE.out, HGR.out⟩
      · have hki : ¬ (k : Int) < d := by omega
        have hkd : d - k = 0 := by omega
        have hRR : R = (er, tq, oq) := by
          by_cases he0 : er = 0
          · rw [hz he0, hkd, he0]; rfl
          · exact hnz he0
        have HRR := hid hRR
        clear hE hG hz hnz hg hm hm2 hk hkd hRR
        go_wp2_with fail
        go_ret3
        exact hK.out _ _ ⟨adr, cpr, _, by rw [HRR.out, HM.out.1]; rfl, by rw [HRR.out]; exact HE.out, HGR.out⟩
end Go.Proofs.Qxb6500353aGreat
