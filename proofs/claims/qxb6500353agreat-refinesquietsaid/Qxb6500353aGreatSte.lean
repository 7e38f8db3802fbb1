/- The real decoder: an item of the list of lengths, walked. -/
import Derived.Test.Qxb6500353aGreatStd
import Derived.Test.Qxb6500353aGreatMdk
import Derived.Deep.Cut
import Derived.Deep.DeepCutAuto
namespace Go.Proofs.Qxb6500353aGreat
open Go.RowKit
set_option linter.unusedVariables false
set_option linter.unusedSimpArgs false

theorem errS_ne4 (la lb : List Nat) : errS la lb ≠ 4 := by
  unfold errS buildE
  repeat' split
  all_goals omega
theorem setsS_eq {t : Tp} {s : DS} (hl : s.ls.length = 273) : setsS t s = if errS (s.ls.take 265) (s.ls.drop 265) = 0 then (0, t, { s with ph := 5, a := s.ls.take 265, b := s.ls.drop 265 }) else (errS (s.ls.take 265) (s.ls.drop 265), t, s) := by
  unfold setsS errS
  by_cases c1 : buildE (s.ls.take 265) ≠ 0
  · rw [if_pos c1, if_pos c1, if_neg c1]
  · rw [if_neg c1, if_neg c1]
    by_cases c2 : buildE (s.ls.drop 265) ≠ 0
    · rw [if_pos c2, if_pos c2, if_neg c2]
    · rw [if_neg c2, if_neg c2, len_take (by omega)]
      by_cases c3 : len s.ls 256 = 0
      · rw [if_pos c3, if_pos c3, if_neg (by decide)]
      · rw [if_neg c3, if_neg c3, if_pos rfl]
set_option maxRecDepth 100000 in
set_option maxHeartbeats 8000000 in
theorem listEnd_any {w : World} {Y o0 : Nat} {Rx R : DcR} {t t0 : Tp} {S s0 : DS} (hD : DecM w Y Rx t) (hS : StR Rx o0 S) (hp : S.ph = 4) (hx : ∀ x ∈ S.ls, x ≤ 10) (hl : S.ls.length ≤ 273) (he : stepF t0 s0 = listEnd t S) (hn : Rx.n = R.n) (hb : Rx.buf = R.buf) (hfe : Rx.fed = R.fed) :
    Calls Tryz.prog 168 #[ptrV (Y + 24)] w fun e w' => ∃ er : Nat, e = .returned (.int .i64 (er : Nat)) ∧ TurnP w' Y o0 R t0 s0 er ∧ Fr (Rng Y (Y + 28)) w w' := by
  have c1 := hD.d.c_idx
  rw [(hS.ls hp).1] at c1
  have c2 := hD.d.p_lens
  have HD := hid hD
  have HS := hid hS
  have HP := hid hp
  have HX := hid (And.intro hn (And.intro hb hfe))
  by_cases g1 : S.ls.length < 273
  · obtain ⟨m, hm⟩ : ∃ z, z = S.ls.length := ⟨_, rfl⟩
    rw [← hm] at c1 g1
    have g1i : (m : Int) < 273 := by omega
    have he2 : listEnd t S = (0, t, S) := by unfold listEnd; rw [if_pos (by omega)]
    rw [he2] at he
    have HE := hid he
    clear hD hS hp hx hl he hn hb hfe hm he2 g1
    refine calls_via fun K hK => ?_
    unfold ptrV
    go_enter Tryz.func168, Tryz.ntmps168
    go_upto_region 1 with fail
    go_quiet (fail)
    go_wp2_with fail
    exact hK.out _ _ ⟨0, rfl, ⟨_, _, HD.out.fr (S := Nob) Fr.of_drewN (fun _ _ _ x => x), HX.out.2.2, by rw [HE.out], fun _ => ⟨_, HE.out, HS.out, Coded.off (.inl (by rw [HP.out]; decide))⟩, fun q => by simp at q, fun q => absurd rfl q⟩, Fr.of_drewN⟩
  · have g2 : S.ls.length = 273 := by omega
    have hq := fun wx (hfx : Fr Nob w wx) => sets_any (hD.fr hfx (fun _ _ _ x => x)) g2 hx (fun i hi => (hS.ls hp).2 i (by omega))
    have he2 : listEnd t S = setsS t S := by unfold listEnd; rw [if_neg (by omega)]
    rw [he2, setsS_eq g2] at he
    rw [g2] at c1
    have h4 := errS_ne4 (S.ls.take 265) (S.ls.drop 265)
    obtain ⟨la, hla⟩ : ∃ z, z = S.ls.take 265 := ⟨_, rfl⟩
    obtain ⟨lb, hlb⟩ : ∃ z, z = S.ls.drop 265 := ⟨_, rfl⟩
    rw [← hla, ← hlb] at he hq h4
    obtain ⟨er, her⟩ : ∃ z, z = errS la lb := ⟨_, rfl⟩
    rw [← her] at he hq h4
    unfold ptrV at hq
    have HQ := hid hq
    have HE := hid he
    have H4 := hid h4
    clear hD hS hp hx hl he hn hb hfe he2 g1 g2 hq hla hlb her h4
    refine calls_via fun K hK => ?_
    unfold ptrV
    go_enter Tryz.func168, Tryz.ntmps168
    go_upto_region 1 with fail
    go_quiet (fail)
    go_wp2_with fail
    refine (HQ.out _ Fr.of_drewN).mono ?_
    rintro e w2 ⟨rfl, h2, hc2, f2⟩
    have HR : Hid (TurnP w2 Y o0 R t0 s0 er) := hid (by
      have he := HE.out
      by_cases e0 : er = 0
      · rw [if_pos e0] at he
        refine ⟨_, _, h2, HX.out.2.2, by rw [he, e0], fun _ => ⟨_, he, ⟨?_, HS.out.fin, fun q => by simp at q, fun q => by simp at q, fun q => by simp at q, fun q => by simp at q, HS.out.out.keep rfl rfl rfl rfl rfl rfl⟩, fun _ _ => hc2 e0⟩, fun q => by omega, fun q => absurd e0 q⟩
        show (if er = 0 then 5 else Rx.phase) = 5
        rw [if_pos e0]
      · rw [if_neg e0] at he
        exact ⟨_, _, h2, HX.out.2.2, by rw [he], fun q => absurd q e0, fun q => absurd q H4.out, fun _ => ⟨HX.out.1, HX.out.2.1⟩⟩)
    have HF := hid ((Fr.of_drewN (S := Rng Y (Y + 28))).trans f2)
    clear h2 hc2 f2
    go_wp2_with fail
    exact hK.out _ _ ⟨er, rfl, HR.out, HF.out⟩
set_option maxRecDepth 100000 in
set_option maxHeartbeats 8000000 in
theorem turnList_any {w : World} {Y o0 : Nat} {R : DcR} {t : Tp} {s : DS} (hD : DecM w Y R t) (hS : StR R o0 s) (hC : Coded w Y s) (hO : DSOK s) (hp : s.ph = 4) :
    Calls Tryz.prog 138 #[ptrV (Y + 24)] w fun e w' => ∃ er : Nat, e = .returned (.int .i64 (er : Nat)) ∧ TurnP w' Y o0 R t s er ∧ Fr (Rng Y (Y + 28)) w w' := by
  have c1 := hD.d.c_t
  rw [hD.rt] at c1
  have c2 := hD.d.c_at_
  have cf : ∀ i, w.frozen? ⟨Y + 24, i, none⟩ = false := hD.d.fz
  have hps := pos_any hD.tp
  obtain ⟨p, hpp⟩ : ∃ z, z = t.at_ := ⟨_, rfl⟩
  rw [← hpp] at hps
  have f1 : Fr (One (Y + 24)) w (w.setCell ⟨Y + 24, 6, none⟩ (.int .i64 ((p : Nat) : Int))) := (Fr.refl _ _).set1 _ _
  have h1 := hD.dec (hD.d.set_at_ p) (rngO f1) rfl rfl rfl (fun q => q)
  have hst := stepF_4 (t := t) (s := s) hp
  unfold step4 at hst
  have HPS := hid hps
  have H1 := hid h1
  have F1 := hid f1
  have HS := hid hS
  have HO := hid hO
  have HP := hid hp
  have HLS := hid (hO.ls hp)
  have HCU := hid hD.tp.ok.cur
  have HST := hid hst
  have HC0 : Hid (∀ z : World, Coded z Y s) := hid (fun z => Coded.off (.inl (by omega)))
  clear hD hS hC hO hps h1 f1 hp hst hpp
  refine calls_via fun K hK => ?_
  unfold ptrV tapP at *
  go_enter Tryz.func138, Tryz.ntmps138
  go_wp2_with fail
  refine HPS.out.mono ?_
  rintro e w' ⟨rfl, hw⟩
  have hw2 := hw.symm; subst hw2; clear hw
  go_wp2_with fail
  obtain ⟨w1, hw1⟩ : ∃ z, z = w.setCell ⟨Y + 24, 6, none⟩ (.int .i64 ((p : Nat) : Int)) := ⟨_, rfl⟩
  rw [← hw1] at H1 F1 ⊢
  clear hw1 c1 c2 cf
  refine (peek_any H1.out.tp 11 (by omega)).mono ?_
  rintro e w2 ⟨rfl, q, hw2⟩
  have hd2 := H1.out.fr (S := Nob) (w2 := w2) (by rw [hw2]; exact Fr.of_drewN) (fun _ _ _ x => x)
  have HF2 : Hid (Fr (Rng Y (Y + 28)) w w2) := hid (by rw [hw2]; exact (rngD (rngO F1.out)).drewN)
  have hgl := got_le t 11
  have hvl := peek_lt2 t 11
  obtain ⟨gg, hgg⟩ : ∃ z, z = t.got 11 := ⟨_, rfl⟩
  obtain ⟨gv, hgv⟩ : ∃ z, z = t.peek 11 := ⟨_, rfl⟩
  rw [← hgg] at hgl
  rw [← hgv] at hvl
  have h11 : (2 : Nat) ^ 11 = 2048 := rfl
  rw [h11] at hvl
  have hst := HST.out
  rw [← hgg] at hst
  have HTM : Hid (timesF t = 3 + gv / 16 % 2 ^ wideF (gv % 16)) := hid (by unfold timesF; rw [← hgv])
  rw [← hgv] at hst
  have HGG := hid hgg
  have HD2 := hid hd2
  have HST2 := hid hst
  have eit : bits .and .i64 (gv : Int) 15 = ((gv % 16 : Nat) : Int) := mask15 (by omega)
  obtain ⟨it, hit⟩ : ∃ z, z = gv % 16 := ⟨_, rfl⟩
  rw [← hit] at eit HTM HST2
  have hitl : it < 16 := by omega
  have HIT := hid hit
  rw [← hgg, ← hgv]
  clear hgg hgv hst hd2 hw2 HPS h11 hit HST
  by_cases g1 : gg < 4
  · have g1i : (gg : Int) < 4 := by omega
    have he := HST2.out
    rw [if_pos g1] at he
    have HE := hid he
    clear he g1 hvl hgl hitl
    go_wp2_with fail
    exact hK.out _ _ ⟨4, rfl, ⟨_, _, HD2.out, rfl, by rw [HE.out], fun q => by simp at q, fun _ => ⟨rfl, HS.out.at_, HC0.out _⟩, fun _ => ⟨rfl, rfl⟩⟩, HF2.out⟩
  · have g1i : ¬ (gg : Int) < 4 := by omega
    have c1 := HD2.out.d.c_t
    rw [HD2.out.rt] at c1
    unfold tapP at c1
    have he := HST2.out
    rw [if_neg g1] at he
    by_cases g2 : it ≤ 10
    · have g2i : (it : Int) ≤ 10 := by omega
      rw [if_pos g2] at he
      have hsk := skip_any HD2.out.tp 4 (by omega) (by have h1 := HCU.out; have h2 := HGG.out; unfold Tp.got at h2; omega)
      unfold tapP at hsk
      have HSK := hid hsk
      have HE := hid he
      have HI10 := hid g2
      clear he hsk g1 g2 hvl hgl hitl
      go_wp2_with fail
      refine HSK.out.mono ?_
      rintro e w3 ⟨rfl, h3, f3⟩
      have hd3 := HD2.out.tape h3 (one_rng f3)
      have HD3 := hid hd3
      have HF3 := hid (HF2.out.trans (rngT (one_rng f3)))
      have hls := HLS.out
      have hsl := (HS.out.ls HP.out)
      clear h3 f3 c1
      obtain ⟨m, hm⟩ : ∃ z, z = s.ls.length := ⟨_, rfl⟩
      rw [← hm] at hls hsl
      have HM := hid hm
      have k1 := hd3.d.c_idx
      dsimp only at k1
      rw [hsl.1] at k1
      have k2 := hd3.d.p_lens
      have k3 := hd3.d.a_lens.cell m hls.1
      simp only [mkN] at k3
      obtain ⟨y, hy⟩ : ∃ z, z = R.lens m := ⟨_, rfl⟩
      rw [← hy] at k3
      have hmi : (m : Int) < 273 := by have := hls.1; omega
      have kf : ∀ i, w3.frozen? ⟨Y + 24, i, none⟩ = false := hd3.d.fz
      have kl : ∀ i, w3.frozen? ⟨Y + 24 + 1, i, none⟩ = false := hd3.d.a_lens.thaw
      have n1 : ¬ Y + 24 = Y + 24 + 1 := by omega
      have n2 : ¬ Y + 24 + 1 = Y + 24 := by omega
      have f4 : Fr (Rng (Y + 24) (Y + 28)) w3 (((w3.setCell ⟨Y + 24 + 1, m, none⟩ (.int .i64 ((it : Nat) : Int))).setCell ⟨Y + 24, 10, none⟩ (.int .i64 ((m + 1 : Nat) : Int))).drew) := (((Fr.refl _ _).setS ⟨by omega, by omega⟩ _ _).setS ⟨by omega, by omega⟩ _ _).drew
      have hd4 := hd3.dec (((hd3.d.set_lens m it).set_idx (m + 1)).drew) f4 rfl rfl rfl (fun q => q)
      have hf4 := HF3.out.trans (rngD f4)
      rw [Int.natCast_add] at hd4 hf4
      have HD4 := hid hd4
      have HF4 := hid hf4
      have HSL := hid hsl
      have HLL := hid hls
      clear hm hy hls hsl hd3 f4 hd4 hf4
      go_wp2_with go_region
      obtain ⟨w4, hw4⟩ : ∃ z, z = ((w3.setCell ⟨Y + 24 + 1, m, none⟩ (.int .i64 ((it : Nat) : Int))).setCell ⟨Y + 24, 10, none⟩ (.int .i64 ((m : Int) + 1))).drew := ⟨_, rfl⟩
      have h4 : DecM w4 Y { R with at_ := p, lens := upd R.lens m it, idx := m + 1 } (t.skip 4) := by rw [hw4]; exact HD4.out
      have hf4 : Fr (Rng Y (Y + 28)) w w4 := by rw [hw4]; exact HF4.out
      rw [← hw4]
      clear hw4 k1 k2 k3 kf kl
      have hle := listEnd_any (R := R) (S := { s with ls := s.ls ++ [it] }) h4 (o0 := o0) ⟨HS.out.ph, HS.out.fin, fun q => absurd q (by show s.ph ≠ 3; rw [HP.out]; decide), fun _ => ⟨by show m + 1 = _; rw [List.length_append, ← HM.out]; rfl, fun i hi => by
          have hi2 : i < m + 1 := by rw [List.length_append, ← HM.out] at hi; exact hi
          show upd R.lens m it i = _
          by_cases e : i = m
          · subst e; rw [upd_self]; unfold len; rw [List.getD_eq_getElem?_getD, List.getElem?_append_right (by rw [HM.out]; exact Nat.le_refl _), HM.out]; simp
          · rw [upd_ne _ _ _ _ e, HSL.out.2 i (by omega), len_append_left (by rw [← HM.out]; omega)]⟩, fun q => by rw [show ({ s with ls := s.ls ++ [it] } : DS).ph = s.ph from rfl, HP.out] at q; omega, fun q => absurd q (by show s.ph ≠ 7; rw [HP.out]; decide), HS.out.out.keep rfl rfl rfl rfl rfl rfl⟩ HP.out (mem_snoc HLL.out.2 HI10.out) (by show (s.ls ++ [it]).length ≤ 273; rw [List.length_append, ← HM.out]; have := HLL.out.1; simp; omega) HE.out rfl rfl rfl
      unfold ptrV at hle
      have HLE := hid hle
      have HF5 := hid hf4
      clear h4 hf4 hle
      refine HLE.out.mono ?_
      rintro e w5 ⟨er, rfl, hT, hf5⟩
      have HT := hid hT
      have HF6 := hid (HF5.out.trans hf5)
      clear hT hf5
      go_wp2_with fail
      exact hK.out _ _ ⟨er, rfl, HT.out, HF6.out⟩
    · have g2i : ¬ (it : Int) ≤ 10 := by omega
      rw [if_neg g2] at he
      by_cases g3 : 12 < it
      · have g3i : (12 : Int) < it := by omega
        rw [if_pos g3] at he
        have HE := hid he
        clear he g1 g2 g3 hvl hgl hitl c1
        go_wp2_with fail
        exact hK.out _ _ ⟨8, rfl, ⟨_, _, HD2.out, rfl, by rw [HE.out], fun q => by simp at q, fun q => by simp at q, fun _ => ⟨rfl, rfl⟩⟩, HF2.out⟩
      · rw [if_neg g3] at he
        have hi12 : it = 11 ∨ it = 12 := by omega
        have HE := hid he
        clear he g1 g2 g2i g3
        rcases hi12 with h12 | h12
        · subst h12
          rw [show ((  11 : Nat) : Int) = 11 from rfl] at *
          rw [show wideF 11 = 7 from rfl] at HTM HE
          by_cases g4 : gg < 11
          · have g4i : (gg : Int) < 11 := by omega
            have he := HE.out
            rw [if_pos (by omega)] at he
            have HE2 := hid he
            clear he g4 hvl hgl hitl c1
            go_wp2_with fail
            exact hK.out _ _ ⟨4, rfl, ⟨_, _, HD2.out, rfl, by rw [HE2.out], fun q => by simp at q, fun _ => ⟨rfl, HS.out.at_, HC0.out _⟩, fun _ => ⟨rfl, rfl⟩⟩, HF2.out⟩
          · have g4i : ¬ (gg : Int) < 11 := by omega
            have he := HE.out
            rw [if_neg (by omega)] at he
            have htm := HTM.out
            have e5 : bits .and .i64 ((gv : Int) / 16) 127 = ((gv / 16 % 128 : Nat) : Int) := by
              rw [show (gv : Int) / 16 = ((gv / 16 : Nat) : Int) by omega]
              exact maskI (k := 7) (by omega) (by decide)
            obtain ⟨tm, htm2⟩ : ∃ z, z = gv / 16 % 128 := ⟨_, rfl⟩
            rw [← htm2] at e5
            rw [show (2 : Nat) ^ 7 = 128 from rfl, ← htm2] at htm
            have htl : tm < 128 := by omega
            have hti : (tm : Int) < 128 := by omega
            rw [htm] at he
            have HE2 := hid he
            have hls := HLS.out
            have hsl := (HS.out.ls HP.out)
            obtain ⟨m, hm⟩ : ∃ z, z = s.ls.length := ⟨_, rfl⟩
            rw [← hm] at hls hsl
            have HM := hid hm
            have k1 := HD2.out.d.c_idx
            dsimp only at k1
            rw [hsl.1] at k1
            have k2 := HD2.out.d.p_lens
            have hmi : (m : Int) < 273 := by have := hls.1; omega
            have HSL := hid hsl
            have HLL := hid hls
            have HTL := hid htl
            have HGL := hid g4
            rw [← hm] at he
            have he2 := he
            rw [if_neg (by omega)] at he2
            rw [if_neg (by omega : ¬ 11 = 12)] at he2
            clear he hls hsl
            have HVL : Hid (0 ≤ 10) := hid (by first | omega | exact len_le_of HLL.out.2 _)
            by_cases g5 : 273 - m < 3 + tm
            · have g5i : 273 - (m : Int) < 3 + (tm : Int) := by omega
              rw [if_pos g5] at he2
              have HE3 := hid he2
              clear he2 htm2 htm hm htl hvl hgl hitl g4 g5
              go_upto_region 24 with fail
              go_quiet (fail)
              go_wp2_with fail
              exact hK.out _ _ ⟨8, rfl, ⟨_, _, HD2.out.fr (S := Nob) Fr.of_drewN (fun _ _ _ x => x), rfl, by rw [HE3.out], fun q => by simp at q, fun q => by simp at q, fun _ => ⟨rfl, rfl⟩⟩, HF2.out.trans Fr.of_drewN⟩
            · have g5i : ¬ 273 - (m : Int) < 3 + (tm : Int) := by omega
              rw [if_neg g5] at he2
              have HE3 := hid he2
              have HG5 := hid g5
              have hsk := skip_any HD2.out.tp 11 (by omega) (by have h1 := HCU.out; have h2 := HGG.out; unfold Tp.got at h2; omega)
              obtain ⟨t1, ht1⟩ : ∃ z, z = t.skip 11 := ⟨_, rfl⟩
              rw [← ht1] at hsk
              rw [show 4 + 7 = 11 from rfl, ← ht1] at HE3
              unfold tapP at hsk
              have HSK : Hid (∀ wx, Fr Nob w2 wx → Calls Tryz.prog 167 #[.pointer (some ⟨Y + 1, 0, none⟩), .int .i64 (11 : Nat)] wx fun e w' => e = .returned (.int .i64 0) ∧ TapeAt w' Y t1 ∧ Fr (One (Y + 1)) wx w') := hid (fun wx hfx => by
                have h9 := skip_any (HD2.out.fr hfx (fun _ _ _ x => x)).tp 11 (by omega) (by have h1 := HCU.out; have h2 := HGG.out; unfold Tp.got at h2; omega)
                rw [← ht1] at h9; exact h9)
              clear he2 htm2 htm hm htl hvl hgl hitl g4 g5 hsk ht1
              go_upto_region 24 with fail
              go_quiet (fail)
              go_wp2_with fail
              refine (HSK.out _ Fr.of_drewN).mono ?_
              rintro e w3 ⟨rfl, h3, f3⟩
              have hd3 := (HD2.out.fr (S := Nob) Fr.of_drewN (fun _ _ _ x => x)).tape h3 (one_rng f3)
              have HD3 := hid hd3
              have HF3 := hid (HF2.out.trans ((Fr.of_drewN : Fr (Rng Y (Y + 28)) w2 (w2.drewN _)).trans (rngT (one_rng f3))))
              clear h3 f3 hd3 k1 k2 c1
              go_wp2_with fail
              go_loopg [9] (3 + tm) (fun g kv wr => ∃ (k mk : Nat) (Lk : Nat → Nat), kv = .int .i64 (k : Nat) ∧ g + k = 3 + tm ∧ mk = m + k ∧ DecM wr Y { R with at_ := p, lens := Lk, idx := mk } t1 ∧ (∀ i, i < mk → Lk i = len (s.ls ++ List.replicate k 0) i) ∧ Fr (Rng Y (Y + 28)) w wr)
              case atStart => exact ⟨0, m, R.lens, rfl, by omega, rfl, by have h9 := HD3.out; rw [show ({ R with at_ := p } : DcR) = { R with at_ := p, lens := R.lens, idx := m } by rw [← HSL.out.1]] at h9; exact h9, fun i hi => by rw [show List.replicate 0 0 = [] from rfl, List.append_nil]; exact HSL.out.2 i hi, HF3.out⟩
              case round =>
                obtain ⟨k, mk, Lk, rfl, hg, hmk, hE, hL, hF⟩ := hrel
                have HEE := hid hE
                have HL := hid hL
                have HF := hid hF
                have HGK := hid (And.intro hg hmk)
                by_cases hlt : k < 3 + tm
                · have hki : (k : Int) < 3 + (tm : Int) := by omega
                  have hmk3 : mk < 273 := by have := HG5.out; omega
                  have k1 := hE.d.c_idx
                  dsimp only at k1
                  have k2 := hE.d.p_lens
                  have k3 := hE.d.a_lens.cell mk hmk3
                  simp only [mkN] at k3
                  obtain ⟨y, hy⟩ : ∃ z, z = Lk mk := ⟨_, rfl⟩
                  rw [← hy] at k3
                  have hmki : (mk : Int) < 273 := by omega
                  have kf : ∀ i, wr.frozen? ⟨Y + 24, i, none⟩ = false := hE.d.fz
                  have kl : ∀ i, wr.frozen? ⟨Y + 24 + 1, i, none⟩ = false := hE.d.a_lens.thaw
                  have n1 : ¬ Y + 24 = Y + 24 + 1 := by omega
                  have n2 : ¬ Y + 24 + 1 = Y + 24 := by omega
                  have hki2 : (k : Int) ≤ 1000 := by have := HTL.out; omega
                  have f4 : Fr (Rng (Y + 24) (Y + 28)) wr (((wr.setCell ⟨Y + 24 + 1, mk, none⟩ (.int .i64 ((0 : Nat) : Int))).setCell ⟨Y + 24, 10, none⟩ (.int .i64 ((mk + 1 : Nat) : Int))).drew) := (((Fr.refl _ _).setS ⟨by omega, by omega⟩ _ _).setS ⟨by omega, by omega⟩ _ _).drew
                  have hd4 := hE.dec (((hE.d.set_lens mk 0).set_idx (mk + 1)).drew) f4 rfl rfl rfl (fun q => q)
                  have hf4 := HF.out.trans (rngD f4)
                  rw [Int.natCast_add] at hd4 hf4
                  have HD4 := hid hd4
                  have HF4 := hid hf4
                  clear hE hL hF hg hmk hy f4 hd4 hf4 hlt hmk3 e5
                  go_wp2_with go_region
                  go_roundg (gk - 1)
                  case measure => have := HGK.out.1; omega
                  case rel => exact ⟨k + 1, mk + 1, upd Lk mk 0, by simp, by have := HGK.out.1; omega, by have := HGK.out.2; omega, HD4.out, fun i hi => by
                    have hlen : (s.ls ++ List.replicate k 0).length = mk := by rw [List.length_append, List.length_replicate, ← HM.out]; exact HGK.out.2.symm
                    rw [show List.replicate (k + 1) 0 = List.replicate k 0 ++ [0] from List.replicate_succ', ← List.append_assoc]
                    by_cases e : i = mk
                    · subst e; rw [upd_self]; unfold len; rw [List.getD_eq_getElem?_getD, List.getElem?_append_right (by rw [hlen]; exact Nat.le_refl _), hlen]; simp
                    · rw [upd_ne _ _ _ _ e, HL.out i (by omega)]; exact (len_append_left (by rw [hlen]; omega)).symm, HF4.out⟩
                · have hki : ¬ (k : Int) < 3 + (tm : Int) := by omega
                  have hkk : k = 3 + tm := by omega
                  rw [hkk] at hL
                  have hle := listEnd_any (R := R) (S := { s with ls := s.ls ++ List.replicate (3 + tm) 0 }) hE (o0 := o0) ⟨HS.out.ph, HS.out.fin, fun q => absurd q (by show s.ph ≠ 3; rw [HP.out]; decide), fun _ => ⟨by show mk = _; rw [List.length_append, List.length_replicate, ← HM.out, ← hkk]; exact hmk, fun i hi => hL i (by rw [List.length_append, List.length_replicate, ← HM.out, ← hkk] at hi; omega)⟩, fun q => by rw [show ({ s with ls := s.ls ++ List.replicate (3 + tm) 0 } : DS).ph = s.ph from rfl, HP.out] at q; omega, fun q => absurd q (by show s.ph ≠ 7; rw [HP.out]; decide), HS.out.out.keep rfl rfl rfl rfl rfl rfl⟩ HP.out (fun x hx => by
                    rcases List.mem_append.1 hx with h | h
                    · exact HLL.out.2 x h
                    · rw [(List.mem_replicate.1 h).2]; exact HVL.out) (by show (s.ls ++ List.replicate (3 + tm) 0).length ≤ 273; rw [List.length_append, List.length_replicate, ← HM.out]; have := HLL.out.1; have := HG5.out; omega) HE3.out rfl rfl rfl
                  unfold ptrV at hle
                  have HLE := hid hle
                  clear hE hL hF hg hmk hle hkk hlt e5
                  go_wp2_with fail
                  refine HLE.out.mono ?_
                  rintro e w5 ⟨er, rfl, hT, hf5⟩
                  have HT := hid hT
                  have HF6 := hid (HF.out.trans hf5)
                  clear hT hf5
                  go_wp2_with fail
                  exact hK.out _ _ ⟨er, rfl, HT.out, HF6.out⟩
        · subst h12
          rw [show ((  12 : Nat) : Int) = 12 from rfl] at *
          rw [show wideF 12 = 2 from rfl] at HTM HE
          by_cases g4 : gg < 6
          · have g4i : (gg : Int) < 6 := by omega
            have he := HE.out
            rw [if_pos (by omega)] at he
            have HE2 := hid he
            clear he g4 hvl hgl hitl c1
            go_wp2_with fail
            exact hK.out _ _ ⟨4, rfl, ⟨_, _, HD2.out, rfl, by rw [HE2.out], fun q => by simp at q, fun _ => ⟨rfl, HS.out.at_, HC0.out _⟩, fun _ => ⟨rfl, rfl⟩⟩, HF2.out⟩
          · have g4i : ¬ (gg : Int) < 6 := by omega
            have he := HE.out
            rw [if_neg (by omega)] at he
            have htm := HTM.out
            have e5 : bits .and .i64 ((gv : Int) / 16) 3 = ((gv / 16 % 4 : Nat) : Int) := by
              rw [show (gv : Int) / 16 = ((gv / 16 : Nat) : Int) by omega]
              exact maskI (k := 2) (by omega) (by decide)
            obtain ⟨tm, htm2⟩ : ∃ z, z = gv / 16 % 4 := ⟨_, rfl⟩
            rw [← htm2] at e5
            rw [show (2 : Nat) ^ 2 = 4 from rfl, ← htm2] at htm
            have htl : tm < 4 := by omega
            have hti : (tm : Int) < 4 := by omega
            rw [htm] at he
            have HE2 := hid he
            have hls := HLS.out
            have hsl := (HS.out.ls HP.out)
            obtain ⟨m, hm⟩ : ∃ z, z = s.ls.length := ⟨_, rfl⟩
            rw [← hm] at hls hsl
            have HM := hid hm
            have k1 := HD2.out.d.c_idx
            dsimp only at k1
            rw [hsl.1] at k1
            have k2 := HD2.out.d.p_lens
            have hmi : (m : Int) < 273 := by have := hls.1; omega
            have HSL := hid hsl
            have HLL := hid hls
            have HTL := hid htl
            have HGL := hid g4
            rw [← hm] at he
            by_cases m0 : m = 0
            · have m0i : ((m : Int) == 0) = true := by rw [m0]; rfl
              rw [if_pos ⟨by first | rfl | trivial, m0⟩] at he
              have HE3 := hid he
              clear he htm2 htm hls hsl hm htl hvl hgl hitl g4 m0
              go_wp2_with fail
              exact hK.out _ _ ⟨8, rfl, ⟨_, _, HD2.out, rfl, by rw [HE3.out], fun q => by simp at q, fun q => by simp at q, fun _ => ⟨rfl, rfl⟩⟩, HF2.out⟩
            obtain ⟨m1, hm1⟩ : ∃ z, m = z + 1 := ⟨m - 1, by omega⟩
            have m0i : ((m : Int) == 0) = false := by simp; omega
            have he2 := he
            rw [if_neg (fun q => m0 q.2)] at he2
            first | rw [if_pos rfl] at he2 | rw [if_pos trivial] at he2 | skip
            have em : m - 1 = m1 := by omega
            rw [em] at he2
            have k3 := HD2.out.d.a_lens.cell m1 (by have := hls.1; omega)
            simp only [mkN] at k3
            rw [show R.lens m1 = len s.ls m1 from hsl.2 m1 (by omega)] at k3
            have em2 : (m : Int) - 1 = (m1 : Int) := by omega
            have em3 : (m1 : Int) < 273 := by omega
            have HEM := hid hm1
            clear he hls hsl m0 em hm1
            have HVL : Hid (len s.ls m1 ≤ 10) := hid (by first | omega | exact len_le_of HLL.out.2 _)
            obtain ⟨vl, hvl2⟩ : ∃ z, z = len s.ls m1 := ⟨_, rfl⟩
            rw [← hvl2] at HVL he2 k3
            have HVV := hid hvl2
            clear hvl2
            by_cases g5 : 273 - m < 3 + tm
            · have g5i : 273 - (m : Int) < 3 + (tm : Int) := by omega
              rw [if_pos g5] at he2
              have HE3 := hid he2
              clear he2 htm2 htm hm htl hvl hgl hitl g4 g5
              go_upto_region 23 with fail
              go_quiet (fail)
              go_upto_region 24 with fail
              go_quiet (fail)
              go_wp2_with fail
              exact hK.out _ _ ⟨8, rfl, ⟨_, _, HD2.out.fr (S := Nob) (Fr.of_drewN).drewN (fun _ _ _ x => x), rfl, by rw [HE3.out], fun q => by simp at q, fun q => by simp at q, fun _ => ⟨rfl, rfl⟩⟩, HF2.out.trans (Fr.of_drewN).drewN⟩
            · have g5i : ¬ 273 - (m : Int) < 3 + (tm : Int) := by omega
              rw [if_neg g5] at he2
              have HE3 := hid he2
              have HG5 := hid g5
              have hsk := skip_any HD2.out.tp 6 (by omega) (by have h1 := HCU.out; have h2 := HGG.out; unfold Tp.got at h2; omega)
              obtain ⟨t1, ht1⟩ : ∃ z, z = t.skip 6 := ⟨_, rfl⟩
              rw [← ht1] at hsk
              rw [show 4 + 2 = 6 from rfl, ← ht1] at HE3
              unfold tapP at hsk
              have HSK : Hid (∀ wx, Fr Nob w2 wx → Calls Tryz.prog 167 #[.pointer (some ⟨Y + 1, 0, none⟩), .int .i64 (6 : Nat)] wx fun e w' => e = .returned (.int .i64 0) ∧ TapeAt w' Y t1 ∧ Fr (One (Y + 1)) wx w') := hid (fun wx hfx => by
                have h9 := skip_any (HD2.out.fr hfx (fun _ _ _ x => x)).tp 6 (by omega) (by have h1 := HCU.out; have h2 := HGG.out; unfold Tp.got at h2; omega)
                rw [← ht1] at h9; exact h9)
              clear he2 htm2 htm hm htl hvl hgl hitl g4 g5 hsk ht1
              go_upto_region 23 with fail
              go_quiet (fail)
              go_upto_region 24 with fail
              go_quiet (fail)
              go_wp2_with fail
              refine (HSK.out _ Fr.of_drewN).mono ?_
              rintro e w3 ⟨rfl, h3, f3⟩
              have hd3 := (HD2.out.fr (S := Nob) Fr.of_drewN (fun _ _ _ x => x)).tape h3 (one_rng f3)
              have HD3 := hid hd3
              have HF3 := hid (HF2.out.trans ((Fr.of_drewN : Fr (Rng Y (Y + 28)) w2 (w2.drewN _)).trans (rngT (one_rng f3))))
              clear h3 f3 hd3 k1 k2 c1
              go_wp2_with fail
              go_loopg [9] (3 + tm) (fun g kv wr => ∃ (k mk : Nat) (Lk : Nat → Nat), kv = .int .i64 (k : Nat) ∧ g + k = 3 + tm ∧ mk = m + k ∧ DecM wr Y { R with at_ := p, lens := Lk, idx := mk } t1 ∧ (∀ i, i < mk → Lk i = len (s.ls ++ List.replicate k vl) i) ∧ Fr (Rng Y (Y + 28)) w wr)
              case atStart => exact ⟨0, m, R.lens, rfl, by omega, rfl, by have h9 := HD3.out; rw [show ({ R with at_ := p } : DcR) = { R with at_ := p, lens := R.lens, idx := m } by rw [← HSL.out.1]] at h9; exact h9, fun i hi => by rw [show List.replicate 0 vl = [] from rfl, List.append_nil]; exact HSL.out.2 i hi, HF3.out⟩
              case round =>
                obtain ⟨k, mk, Lk, rfl, hg, hmk, hE, hL, hF⟩ := hrel
                have HEE := hid hE
                have HL := hid hL
                have HF := hid hF
                have HGK := hid (And.intro hg hmk)
                by_cases hlt : k < 3 + tm
                · have hki : (k : Int) < 3 + (tm : Int) := by omega
                  have hmk3 : mk < 273 := by have := HG5.out; omega
                  have k1 := hE.d.c_idx
                  dsimp only at k1
                  have k2 := hE.d.p_lens
                  have k3 := hE.d.a_lens.cell mk hmk3
                  simp only [mkN] at k3
                  obtain ⟨y, hy⟩ : ∃ z, z = Lk mk := ⟨_, rfl⟩
                  rw [← hy] at k3
                  have hmki : (mk : Int) < 273 := by omega
                  have kf : ∀ i, wr.frozen? ⟨Y + 24, i, none⟩ = false := hE.d.fz
                  have kl : ∀ i, wr.frozen? ⟨Y + 24 + 1, i, none⟩ = false := hE.d.a_lens.thaw
                  have n1 : ¬ Y + 24 = Y + 24 + 1 := by omega
                  have n2 : ¬ Y + 24 + 1 = Y + 24 := by omega
                  have hki2 : (k : Int) ≤ 1000 := by have := HTL.out; omega
                  have f4 : Fr (Rng (Y + 24) (Y + 28)) wr (((wr.setCell ⟨Y + 24 + 1, mk, none⟩ (.int .i64 ((vl : Nat) : Int))).setCell ⟨Y + 24, 10, none⟩ (.int .i64 ((mk + 1 : Nat) : Int))).drew) := (((Fr.refl _ _).setS ⟨by omega, by omega⟩ _ _).setS ⟨by omega, by omega⟩ _ _).drew
                  have hd4 := hE.dec (((hE.d.set_lens mk vl).set_idx (mk + 1)).drew) f4 rfl rfl rfl (fun q => q)
                  have hf4 := HF.out.trans (rngD f4)
                  rw [Int.natCast_add] at hd4 hf4
                  have HD4 := hid hd4
                  have HF4 := hid hf4
                  clear hE hL hF hg hmk hy f4 hd4 hf4 hlt hmk3 e5
                  go_wp2_with go_region
                  go_roundg (gk - 1)
                  case measure => have := HGK.out.1; omega
                  case rel => exact ⟨k + 1, mk + 1, upd Lk mk vl, by simp, by have := HGK.out.1; omega, by have := HGK.out.2; omega, HD4.out, fun i hi => by
                    have hlen : (s.ls ++ List.replicate k vl).length = mk := by rw [List.length_append, List.length_replicate, ← HM.out]; exact HGK.out.2.symm
                    rw [show List.replicate (k + 1) vl = List.replicate k vl ++ [vl] from List.replicate_succ', ← List.append_assoc]
                    by_cases e : i = mk
                    · subst e; rw [upd_self]; unfold len; rw [List.getD_eq_getElem?_getD, List.getElem?_append_right (by rw [hlen]; exact Nat.le_refl _), hlen]; simp
                    · rw [upd_ne _ _ _ _ e, HL.out i (by omega)]; exact (len_append_left (by rw [hlen]; omega)).symm, HF4.out⟩
                · have hki : ¬ (k : Int) < 3 + (tm : Int) := by omega
                  have hkk : k = 3 + tm := by omega
                  rw [hkk] at hL
                  have hle := listEnd_any (R := R) (S := { s with ls := s.ls ++ List.replicate (3 + tm) vl }) hE (o0 := o0) ⟨HS.out.ph, HS.out.fin, fun q => absurd q (by show s.ph ≠ 3; rw [HP.out]; decide), fun _ => ⟨by show mk = _; rw [List.length_append, List.length_replicate, ← HM.out, ← hkk]; exact hmk, fun i hi => hL i (by rw [List.length_append, List.length_replicate, ← HM.out, ← hkk] at hi; omega)⟩, fun q => by rw [show ({ s with ls := s.ls ++ List.replicate (3 + tm) vl } : DS).ph = s.ph from rfl, HP.out] at q; omega, fun q => absurd q (by show s.ph ≠ 7; rw [HP.out]; decide), HS.out.out.keep rfl rfl rfl rfl rfl rfl⟩ HP.out (fun x hx => by
                    rcases List.mem_append.1 hx with h | h
                    · exact HLL.out.2 x h
                    · rw [(List.mem_replicate.1 h).2]; exact HVL.out) (by show (s.ls ++ List.replicate (3 + tm) vl).length ≤ 273; rw [List.length_append, List.length_replicate, ← HM.out]; have := HLL.out.1; have := HG5.out; omega) HE3.out rfl rfl rfl
                  unfold ptrV at hle
                  have HLE := hid hle
                  clear hE hL hF hg hmk hle hkk hlt e5
                  go_wp2_with fail
                  refine HLE.out.mono ?_
                  rintro e w5 ⟨er, rfl, hT, hf5⟩
                  have HT := hid hT
                  have HF6 := hid (HF.out.trans hf5)
                  clear hT hf5
                  go_wp2_with fail
                  exact hK.out _ _ ⟨er, rfl, HT.out, HF6.out⟩
end Go.Proofs.Qxb6500353aGreat
