/- The model's decoder: Run, walked (in hand). -/
import Derived.Test.Qxb6500353aGreatMdq
import Derived.Test.Qxb6500353aGreatMdm
import Derived.Test.Qxb6500353aGreatMde
import Derived.Test.Qxb6500353aGreatMtc
import Derived.Test.Qxb6500353aGreatMka
namespace Go.Proofs.Qxb6500353aGreat
open Go.RowKit
set_option linter.unusedVariables false
set_option linter.unusedSimpArgs false

theorem Gr.none {b : Nat} {w0 w1 w : World} {ad : Option Addr} (h0 : Fr Nob w0 w1) (hb : w0.heap.size ≤ b) (h : Gr b w1 none w ad) : Fr Nob w0 w :=
  h0.trans2 h.fr fun x hx hl => by
    rcases hx with e | e
    · omega
    · simp [obk] at e
set_option maxRecDepth 100000 in
set_option maxHeartbeats 8000000 in
theorem runm_any {w : World} {s : ByteArray} (hs : s.size ≤ 512) :
    Calls Tryz.prog 60 #[.string s] w fun e w' => ∃ (er : Nat) (o : List Nat) (p : Int), e = .returned (.tuple #[.string (strN o), .int .i64 (er : Nat), .int .i64 p]) ∧ Ends (Tp.load (bytesOf s)) DS.init er o ∧ Fr Nob w w' := by
  have hsi : (s.size : Int) ≤ 512 := by omega
  obtain ⟨T0, hT0⟩ : ∃ T, T = Tp.load (bytesOf s) := ⟨_, rfl⟩
  rw [← hT0]
  have HT0 := hid hT0
  have HSZ := hid hs
  clear hT0 hs
  refine calls_via fun K hK => ?_
  go_enter Tryz.func60, Tryz.ntmps60
  go_wp2_with fail
  refine (newBm_any w).mono ?_
  rintro e w1 ⟨rfl, h1, hf1, hs1⟩
  obtain ⟨b, hbb⟩ : ∃ b, b = w.heap.size := ⟨_, rfl⟩
  unfold ptrV
  rw [← hbb] at h1 ⊢
  have HM1 := hid h1
  have HF1 := hid hf1
  have HBB := hid hbb
  have hld := mload_any h1 HSZ.out
  rw [← HT0.out] at hld
  unfold ptrV at hld
  have HLD := hid hld
  clear h1 hf1 hs1 hbb hld
  go_wp2_with fail
  refine HLD.out.mono ?_
  rintro e w2 ⟨rfl, ad, cap, h2, hg2⟩
  have HBB2 : Hid (w.heap.size ≤ b) := hid (by rw [HBB.out]; exact Nat.le_refl _)
  have HD2 := hid (show DcS w2 b cap ad T0 none 0 [] from ⟨h2, OwnB.nil _ _, fun g hg => by simp [obk] at hg⟩)
  have HF2 := hid (Gr.nobs HM1.out (by rw [HBB.out]; exact Nat.le_refl _) hg2 HF1.out)
  clear h2 hg2
  go_wp2_with fail
  go_loopg [6, 7] (T0.n + 1) (fun g ov fv wr => ∃ (fin m : Nat) (tq : Tp) (oq : List Nat) (ado : Option Addr) (capo : Nat), fv = .int .i64 (fin : Nat) ∧ ov = .slice ado m capo ∧ m = oq.length ∧ DcS wr b cap ad tq ado capo oq ∧ Gr b w2 none wr ado ∧ oq.length ≤ 256 ∧ (∀ c ∈ oq, c < 256) ∧ (fin = 0 → tq.n - tq.at_ + 1 ≤ g ∧ ∃ sq, R0 oq sq ∧ Steps T0 DS.init tq sq) ∧ (fin ≠ 0 → Ends T0 DS.init (if tq.sync.at_ < tq.sync.n then 11 else 0) oq))
  case atStart => exact ⟨0, 0, T0, [], none, 0, rfl, rfl, rfl, HD2.out, Gr.refl _ _ _, by simp, fun c hc => by simp at hc, fun _ => ⟨by omega, DS.init, ⟨rfl, rfl, rfl⟩, Steps.refl _ _⟩, fun q => absurd rfl q⟩
  case round =>
    obtain ⟨fin, m, tq, oq, ado, capo, rfl, rfl, hm, hE, hG, hol, hby, hgo, hend⟩ := hrel
    subst hm
    have HE := hid hE
    have HG := hid hG
    have HOL := hid hol
    have HBY := hid hby
    have HEND := hid hend
    have HCU := hid hE.tp.ok.cur
    by_cases hf0 : fin = 0
    · subst hf0
      have HGO := hid (hgo rfl)
      have hps := mpos_any hE.tp
      obtain ⟨p, hp⟩ : ∃ p, p = tq.at_ := ⟨_, rfl⟩
      rw [← hp] at hps
      unfold ptrV at hps
      have HPS := hid hps
      clear hE hG hol hby hgo hend hps hp
      obtain ⟨sq, hsq⟩ := HGO.out.2
      have HSQ := hid hsq
      have HRH := hid (round_head hsq.1 hsq.2 HCU.out)
      clear hsq
      rw [show ((0 : Nat) : Int) = 0 from rfl]
      by_cases c1 : tq.got 1 < 1
      · have htk := mtake_no HE.out.tp (k := 1) (by omega) c1
        unfold ptrV at htk
        have HTK := hid htk
        have HEN := hid (HRH.out.1 c1)
        clear htk c1
        go_wp2_with fail
        refine HPS.out.mono ?_
        rintro e w' ⟨rfl, hw⟩
        have hw2 := hw.symm; subst hw2; clear hw
        go_wp2_with fail
        refine HTK.out.mono ?_
        rintro e w3 ⟨rfl, q, rfl⟩
        have hd3 := HE.out.nob (Fr.of_drewN : Fr Nob wr (wr.drewN q))
        have HD3 := hid hd3
        have hcv := convO hd3.1.ow
        clear hd3
        go_wp2_with fail
        go_ret3
        exact hK.out _ _ ⟨4, oq, _, rfl, HEN.out, Gr.none HF2.out HBB2.out (HG.out.trans HD3.out.2)⟩
      · have htk := mtake_yes HE.out.tp (k := 1) (by omega) c1
        obtain ⟨t1, ht1⟩ : ∃ z, z = tq.skip 1 := ⟨_, rfl⟩
        obtain ⟨fin, hfin⟩ : ∃ z, z = tq.peek 1 := ⟨_, rfl⟩
        rw [← ht1, ← hfin] at htk
        unfold ptrV at htk
        have HTK := hid htk
        have HRI := hid (fun c2 => round_in HSQ.out.1 HSQ.out.2 HCU.out c1 c2)
        have HRB := hid (And.intro (HRH.out.2.1 c1) (HRH.out.2.2 c1))
        rw [← ht1, ← hfin] at HRI
        rw [← ht1] at HRB
        clear htk c1 ht1 hfin HRH
        go_wp2_with fail
        refine HPS.out.mono ?_
        rintro e w' ⟨rfl, hw⟩
        have hw2 := hw.symm; subst hw2; clear hw
        go_wp2_with fail
        refine HTK.out.mono ?_
        rintro e w3 ⟨rfl, h3, hf3⟩
        have hd3 := HE.out.one h3 hf3
        have HD3 := hid (And.intro hd3.1 (HG.out.trans hd3.2))
        have hps := mpos_any h3
        obtain ⟨p2, hp2⟩ : ∃ p, p = t1.at_ := ⟨_, rfl⟩
        rw [← hp2] at hps
        unfold ptrV at hps
        have HPS2 := hid hps
        clear h3 hf3 hd3 hps hp2
        by_cases c2 : t1.got 2 < 2
        · have htk := mtake_no HD3.out.1.tp (k := 2) (by omega) c2
          unfold ptrV at htk
          have HTK2 := hid htk
          have HEN := hid (HRB.out.1 c2)
          clear htk c2
          go_wp2_with fail
          refine HPS2.out.mono ?_
          rintro e w' ⟨rfl, hw⟩
          have hw2 := hw.symm; subst hw2; clear hw
          go_wp2_with fail
          refine HTK2.out.mono ?_
          rintro e w4 ⟨rfl, q, rfl⟩
          have hd4 := HD3.out.1.nob (Fr.of_drewN : Fr Nob w3 (w3.drewN q))
          have HD4 := hid hd4
          have hcv := convO hd4.1.ow
          clear hd4
          go_wp2_with fail
          go_ret3
          exact hK.out _ _ ⟨4, oq, _, rfl, HEN.out, Gr.none HF2.out HBB2.out (HD3.out.2.trans HD4.out.2)⟩
        · have htk := mtake_yes HD3.out.1.tp (k := 2) (by omega) c2
          obtain ⟨t2, ht2⟩ : ∃ z, z = t1.skip 2 := ⟨_, rfl⟩
          obtain ⟨kd, hkd⟩ : ∃ z, z = t1.peek 2 := ⟨_, rfl⟩
          have hkl : kd < 4 := by have := peek_lt2 t1 2; rw [hkd]; exact this
          rw [← ht2, ← hkd] at htk
          unfold ptrV at htk
          have HTK2 := hid htk
          have hri := HRI.out c2
          have hrb := HRB.out.2 c2
          rw [← ht2, ← hkd] at hri
          rw [← hkd] at hrb
          have HRI2 := hid hri
          have HRB2 := hid hrb
          clear htk c2 hri hrb ht2 hkd HRI HRB
          go_wp2_with fail
          refine HPS2.out.mono ?_
          rintro e w' ⟨rfl, hw⟩
          have hw2 := hw.symm; subst hw2; clear hw
          go_wp2_with fail
          refine HTK2.out.mono ?_
          rintro e w4 ⟨rfl, h4, hf4⟩
          have hd4 := HD3.out.1.one h4 hf4
          have HD4 := hid (And.intro hd4.1 (HD3.out.2.trans hd4.2))
          have hps := mpos_any h4
          obtain ⟨p3, hp3⟩ : ∃ p, p = t2.at_ := ⟨_, rfl⟩
          rw [← hp3] at hps
          unfold ptrV at hps
          have HPS3 := hid hps
          clear h4 hf4 hd4 hps hp3
          have hk4 : kd = 0 ∨ kd = 1 ∨ kd = 2 ∨ kd = 3 := by omega
          clear hkl
          rcases hk4 with hk | hk | hk | hk
          · subst hk
            obtain ⟨s', q1, q2, q3, q4⟩ := HRI2.out.2.2.2.1 rfl
            have hbl := blk_sto q1 q2 q3 q4 HRI2.out.1 HRI2.out.2.1 HRI2.out.2.2.1 HOL.out HBY.out
            have hst := storedm_any HD4.out.1 HOL.out
            generalize stoM t2.sync oq = R at hbl hst
            obtain ⟨er, t5, o5⟩ := R
            dsimp only at hbl hst
            have HBL := hid hbl
            have HST := hid hst
            clear hbl hst q1 q2 q3 q4
            rw [show ((0 : Nat) : Int) = 0 from rfl]
            go_wp2_with fail
            refine HPS3.out.mono ?_
            rintro e w' ⟨rfl, hw⟩
            have hw2 := hw.symm; subst hw2; clear hw
            go_wp2_with fail
            refine HST.out.mono ?_
            rintro e w5 ⟨ad5, cp5, pp, rfl, hd5, hg5⟩
            have HD5 := hid (And.intro hd5 (HD4.out.2.trans hg5))
            have hcv := convO hd5.ow
            clear hd5 hg5
            by_cases her : er = 0
            · subst her
              rw [show ((0 : Nat) : Int) = 0 from rfl]
              clear hcv
              go_wp2_with fail
              go_roundg (tq.n - tq.at_)
              case measure => have := HGO.out.1; have := HCU.out; omega
              case rel => exact ⟨fin, o5.length, t5, o5, ad5, cp5, rfl, rfl, rfl, HD5.out.1, HD5.out.2, HBL.out.len, HBL.out.byte, fun q => by have h9 := HBL.out.more rfl q; exact ⟨by have := h9.1; have := h9.2.1; have := h9.2.2.1; have := HCU.out; omega, h9.2.2.2⟩, fun q => HBL.out.done rfl q⟩
            · have HER := hid her
              have hne : ((er : Int) == 0) = false := by simp; omega
              have hne2 : ¬ ((er : Int) = 0) := by omega
              clear her
              go_wp2_with fail
              go_ret3
              exact hK.out _ _ ⟨er, o5, _, rfl, HBL.out.bad HER.out, Gr.none HF2.out HBB2.out HD5.out.2⟩
          · subst hk
            obtain ⟨s', q1, q4⟩ := HRI2.out.2.2.2.2.1 rfl
            have HBL0 : Hid (∀ (er : Nat) (t5 : Tp) (o5 : List Nat), CodR t2 s' er t5 o5 → BlkR T0 fin tq er t5 o5) := hid (fun er t5 o5 h => BlkR.of q4 q1.fin HRI2.out.1 HRI2.out.2.1 HRI2.out.2.2.1 h)
            have HQ1 := hid q1
            clear q1 q4
            have HFX := hid (fixedLens_any (w := w4) rfl)
            rw [show ((1 : Nat) : Int) = 1 from rfl]
            go_wp2_with fail
            refine HPS3.out.mono ?_
            rintro e w' ⟨rfl, hw⟩
            have hw2 := hw.symm; subst hw2; clear hw
            go_wp2_with fail
            refine HFX.out.mono ?_
            rintro e w5 ⟨rfl, ha5, hs5, hf5⟩
            have hd41 := HD4.out.1.nob hf5
            have HD41 := hid hd41
            have hco := coded_ok (hd := (p3 : Int)) (lcap := 273) hd41.1 HOL.out HBY.out fixA_length fixB_length fixA_ok fixB_ok (by rw [fixA_len (by decide)]; decide) ha5.cel (by rw [hs5]; omega) (by omega) HQ1.out
            have HCO := hid hco
            clear ha5 hs5 hf5 hd41 hco
            go_wp2_with fail
            refine HCO.out.mono ?_
            rintro e w6 ⟨ad5, cp5, er, pp, t5, o5, rfl, hd5, hg6, hcod⟩
            have hg5 := HD41.out.2.trans hg6
            have HBL := hid (HBL0.out er t5 o5 hcod)
            clear hg6 hcod
            have HD5 := hid (And.intro hd5 (HD4.out.2.trans hg5))
            have hcv := convO hd5.ow
            clear hd5 hg5
            by_cases her : er = 0
            · subst her
              rw [show ((0 : Nat) : Int) = 0 from rfl]
              clear hcv
              go_wp2_with fail
              go_roundg (tq.n - tq.at_)
              case measure => have := HGO.out.1; have := HCU.out; omega
              case rel => exact ⟨fin, o5.length, t5, o5, ad5, cp5, rfl, rfl, rfl, HD5.out.1, HD5.out.2, HBL.out.len, HBL.out.byte, fun q => by have h9 := HBL.out.more rfl q; exact ⟨by have := h9.1; have := h9.2.1; have := h9.2.2.1; have := HCU.out; omega, h9.2.2.2⟩, fun q => HBL.out.done rfl q⟩
            · have HER := hid her
              have hne : ((er : Int) == 0) = false := by simp; omega
              have hne2 : ¬ ((er : Int) = 0) := by omega
              clear her
              go_wp2_with fail
              go_ret3
              exact hK.out _ _ ⟨er, o5, _, rfl, HBL.out.bad HER.out, Gr.none HF2.out HBB2.out HD5.out.2⟩
          · subst hk
            obtain ⟨s', q1, q2, q3, q5, q4⟩ := HRI2.out.2.2.2.2.2 rfl
            have HLN := hid (lensm_any (w := w4) rfl HD4.out.1.tp q1 q5)
            have HQ := hid (And.intro q2 (And.intro q3 q4))
            clear q1 q2 q3 q4 q5
            rw [show ((2 : Nat) : Int) = 2 from rfl]
            go_wp2_with fail
            refine HPS3.out.mono ?_
            rintro e w' ⟨rfl, hw⟩
            have hw2 := hw.symm; subst hw2; clear hw
            go_wp2_with fail
            refine HLN.out.mono ?_
            rintro e w5 ⟨hf5, ⟨er, pp, t5, hn5, rfl, h5, he5⟩ | ⟨l, t5, hl5, hx5, rfl, ha5, h5, hj5⟩⟩
            · have hd51 := HD4.out.1.one h5 hf5
              have HD5 := hid (And.intro hd51.1 (HD4.out.2.trans hd51.2))
              have hcv := convO hd51.1.ow
              have he6 := HQ.out.2.2.ends he5
              rw [HQ.out.2.1] at he6
              have HER := hid hn5
              have HE6 := hid he6
              have hne : ((er : Int) == 0) = false := by simp; omega
              have hne2 : ¬ ((er : Int) = 0) := by omega
              clear hd51 hf5 h5 he5 he6 hn5
              go_wp2_with fail
              go_ret3
              exact hK.out _ _ ⟨er, oq, _, rfl, HE6.out, Gr.none HF2.out HBB2.out HD5.out.2⟩
            · have hd51 := HD4.out.1.one h5 hf5
              have HD41 := hid hd51
              have hju := sets_judge hj5 hl5
              rw [HQ.out.1, HQ.out.2.1] at hju
              obtain ⟨la, hla⟩ : ∃ z, z = l.take 265 := ⟨_, rfl⟩
              obtain ⟨lb, hlb⟩ : ∃ z, z = l.drop 265 := ⟨_, rfl⟩
              have hlab : la ++ lb = l := by rw [hla, hlb]; exact List.take_append_drop _ _
              have hla2 : la.length = 265 := by rw [hla, List.length_take]; omega
              have hlb2 : lb.length = 8 := by rw [hlb, List.length_drop]; omega
              have hxa : ∀ x ∈ la, x ≤ 10 := fun x hx => hx5 x (by rw [hla] at hx; exact List.mem_of_mem_take hx)
              have hxb : ∀ x ∈ lb, x ≤ 10 := fun x hx => hx5 x (by rw [hlb] at hx; exact List.mem_of_mem_drop hx)
              rw [← hla, ← hlb] at hju
              have hce : Cel mkN w5 w4.heap.size 0 273 (len (la ++ lb)) := by rw [hlab]; exact ha5.cel
              have hlt : w4.heap.size < w5.heap.size := ha5.lt
              clear hla hlb hlab
              by_cases hes : errS la lb = 0
              · have hbu : buildE la = 0 ∧ buildE lb = 0 ∧ 0 < len la 256 := by
                  unfold errS at hes
                  by_cases c1 : buildE la = 0
                  · rw [if_neg (by omega)] at hes
                    by_cases c2 : buildE lb = 0
                    · rw [if_neg (by omega)] at hes
                      by_cases c3 : len la 256 = 0
                      · rw [if_pos c3] at hes; omega
                      · exact ⟨c1, c2, by omega⟩
                    · rw [if_pos c2] at hes; exact absurd hes c2
                  · rw [if_pos c1] at hes; exact absurd hes c1
                have hA := (buildE_lawful hxa (by omega)).1 hbu.1
                have hB := (buildE_lawful hxb (by omega)).1 hbu.2.1
                obtain ⟨s6, hdj, hs6⟩ := hju.2 hes
                have hst6 := HQ.out.2.2.trans hs6
                have hfw := hs6.fwd HRI2.out.2.1
                have HBL0 : Hid (∀ (er : Nat) (t6 : Tp) (o5 : List Nat), CodR t5 s6 er t6 o5 → BlkR T0 fin tq er t6 o5) := hid (fun er t6 o5 h => BlkR.of hst6 hdj.fin (Nat.le_trans HRI2.out.1 hfw.1) hfw.2.1 (hfw.2.2.trans HRI2.out.2.2.1) h)
                have hco := coded_ok (hd := (p3 : Int)) (lcap := 273) hd51.1 HOL.out HBY.out hla2 hlb2 hA hB hbu.2.2 hce hlt (by omega) hdj
                have HCO := hid hco
                clear hf5 h5 hj5 hl5 hx5 ha5 hd51 hju hla2 hlb2 hxa hxb hce hlt hes hbu hA hB hdj hs6 hst6 hfw hco
                go_wp2_with fail
                refine HCO.out.mono ?_
                rintro e w6 ⟨ad5, cp5, er, pp, t6, o5, rfl, hd5, hg6, hcod⟩
                have hg5 := HD41.out.2.trans hg6
                have HBL := hid (HBL0.out er t6 o5 hcod)
                clear hg6 hcod
                have HD5 := hid (And.intro hd5 (HD4.out.2.trans hg5))
                have hcv := convO hd5.ow
                clear hd5 hg5
                by_cases her : er = 0
                · subst her
                  rw [show ((0 : Nat) : Int) = 0 from rfl]
                  clear hcv
                  go_wp2_with fail
                  go_roundg (tq.n - tq.at_)
                  case measure => have := HGO.out.1; have := HCU.out; omega
                  case rel => exact ⟨fin, o5.length, t6, o5, ad5, cp5, rfl, rfl, rfl, HD5.out.1, HD5.out.2, HBL.out.len, HBL.out.byte, fun q => by have h9 := HBL.out.more rfl q; exact ⟨by have := h9.1; have := h9.2.1; have := h9.2.2.1; have := HCU.out; omega, h9.2.2.2⟩, fun q => HBL.out.done rfl q⟩
                · have HER := hid her
                  have hne : ((er : Int) == 0) = false := by simp; omega
                  have hne2 : ¬ ((er : Int) = 0) := by omega
                  clear her
                  go_wp2_with fail
                  go_ret3
                  exact hK.out _ _ ⟨er, o5, _, rfl, HBL.out.bad HER.out, Gr.none HF2.out HBB2.out HD5.out.2⟩
              · have hen := HQ.out.2.2.ends (hju.1 hes)
                have hco := coded_bad (hd := (p3 : Int)) (lcap := 273) hd51.1 hla2 hlb2 hxa hxb hes hce hlt (by omega)
                obtain ⟨er, her⟩ : ∃ z, z = errS la lb := ⟨_, rfl⟩
                rw [← her] at hco hen hes
                have HCO := hid hco
                have HEN := hid hen
                have hne : ((er : Int) == 0) = false := by simp; omega
                have hne2 : ¬ ((er : Int) = 0) := by omega
                clear hf5 h5 hj5 hl5 hx5 ha5 hd51 hju hla2 hlb2 hxa hxb hce hlt hes hen hco her
                go_wp2_with fail
                refine HCO.out.mono ?_
                rintro e w6 ⟨rfl, hd6, hg6⟩
                have HD6 := hid (And.intro hd6 (HD4.out.2.trans (HD41.out.2.trans hg6)))
                have hcv := convO hd6.ow
                clear hd6 hg6
                go_wp2_with fail
                go_ret3
                exact hK.out _ _ ⟨er, oq, _, rfl, HEN.out, Gr.none HF2.out HBB2.out HD6.out.2⟩
          · subst hk
            have HEN := hid (HRB2.out rfl)
            rw [show ((3 : Nat) : Int) = 3 from rfl]
            have hcv := convO HD4.out.1.ow
            go_wp2_with fail
            refine HPS3.out.mono ?_
            rintro e w' ⟨rfl, hw⟩
            have hw2 := hw.symm; subst hw2; clear hw
            go_wp2_with fail
            go_ret3
            exact hK.out _ _ ⟨5, oq, _, rfl, HEN.out, Gr.none HF2.out HBB2.out HD4.out.2⟩
    · have hf2 : ((fin : Int) == 0) = false := by simp; omega
      have hf3 : ¬ ((fin : Int) = 0) := by omega
      have HEN := hid (hend hf0)
      have HSY := hid (msync_any hE.tp)
      unfold ptrV at HSY
      clear hE hG hol hby hgo hend hf0
      go_wp2_with fail
      refine HSY.out.mono ?_
      rintro e w3 ⟨rfl, h3, hf4⟩
      have hd3 := HE.out.one h3 hf4
      have HD3 := hid (And.intro hd3.1 (HG.out.trans hd3.2))
      have hps := mpos_any h3
      have hln := mlen_any h3
      have hcv := convO hd3.1.ow
      generalize tq.sync = t3 at *
      obtain ⟨a3, ha3⟩ : ∃ z, z = t3.at_ := ⟨_, rfl⟩
      obtain ⟨n3, hn3⟩ : ∃ z, z = t3.n := ⟨_, rfl⟩
      rw [← ha3] at hps HEN
      rw [← hn3] at hln HEN
      unfold ptrV at hps hln
      have HPS := hid hps
      have HLN := hid hln
      clear h3 hf4 hd3 hps hln ha3 hn3
      by_cases hc : a3 < n3
      · rw [if_pos hc] at HEN
        have hci : (a3 : Int) < n3 := by omega
        clear hc
        go_wp2_with fail
        refine HPS.out.mono ?_
        rintro e w' ⟨rfl, hw⟩
        have hw2 := hw.symm; subst hw2; clear hw
        go_wp2_with fail
        refine HLN.out.mono ?_
        rintro e w' ⟨rfl, hw⟩
        have hw2 := hw.symm; subst hw2; clear hw
        go_wp2_with fail
        go_ret3
        exact hK.out _ _ ⟨11, oq, _, rfl, HEN.out, Gr.none HF2.out HBB2.out HD3.out.2⟩
      · rw [if_neg hc] at HEN
        have hci : ¬ (a3 : Int) < n3 := by omega
        clear hc
        go_wp2_with fail
        refine HPS.out.mono ?_
        rintro e w' ⟨rfl, hw⟩
        have hw2 := hw.symm; subst hw2; clear hw
        go_wp2_with fail
        refine HLN.out.mono ?_
        rintro e w' ⟨rfl, hw⟩
        have hw2 := hw.symm; subst hw2; clear hw
        go_wp2_with fail
        go_ret3
        exact hK.out _ _ ⟨0, oq, _, rfl, HEN.out, Gr.none HF2.out HBB2.out HD3.out.2⟩
end Go.Proofs.Qxb6500353aGreat
