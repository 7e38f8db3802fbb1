/- The model's archive: Pack, walked. -/
import Derived.Test.Qxb6500353aGreatAma
import Derived.Test.Qxb6500353aGreatArd
namespace Go.Proofs.Qxb6500353aGreat
open Go.RowKit
set_option linter.unusedVariables false
set_option linter.unusedSimpArgs false

theorem conv_newd (w : World) (l : List Nat) (vs : List Value) (hv : vs = l.map fun (n : Nat) => .int .u8 (n : Nat)) : (convert 57 9 (.slice (some ⟨w.heap.size, 0, none⟩) l.length l.length)).run Tryz.prog (w.alloc (Obj.cells vs.toArray 5)).drew = .ok (.string (strN l)) (w.alloc (Obj.cells vs.toArray 5)).drew := by
  have h := conv_str (w := (w.alloc (Obj.cells vs.toArray 5)).drew) (g := w.heap.size) (o := 0) (n := l.length) (cap := l.length) (f := fun i => l.getD i 0) (fun i hi => by
    rw [Nat.zero_add]
    refine (World.cell?_alloc_new _ _ _ i).trans ?_
    rw [hv]
    simp [List.getD_eq_getElem?_getD, hi])
  have e : (List.range l.length).map (fun i => l.getD i 0) = l := by
    apply List.ext_getElem?
    intro i
    rw [List.getElem?_map]
    by_cases hi : i < l.length
    · rw [List.getElem?_range hi]; simp [List.getD_eq_getElem?_getD, hi]
    · rw [List.getElem?_eq_none (by simp; omega), List.getElem?_eq_none (by omega)]; rfl
  rw [e] at h; exact h
set_option maxRecDepth 100000 in
set_option maxHeartbeats 16000000 in
theorem mpackA_any {w : World} {b cap : Nat} {ad : Option Addr} {es : List EB} (h : MaR w b) (he : EntS w ad es) {lv : Int} :
    Calls Tryz.prog 29 #[ptrV b, .slice ad es.length cap, .int .i64 lv] w fun e w' => e = .returned (.tuple #[.string (strN (packO es lv)), .int .i64 (errA (es.map toE) lv : Nat)]) ∧ Fr Nob w w' := by
  have H := hid h
  have HE := hid he
  have hcl := checkList_any (cap := cap) he (lv := lv)
  obtain ⟨n, hn⟩ : ∃ z, z = es.length := ⟨_, rfl⟩
  have HN := hid hn
  rw [← hn] at hcl ⊢
  obtain ⟨L, hL⟩ : ∃ z, z = es.map toE := ⟨_, rfl⟩
  have hLn : L.length = n := by rw [hL, List.length_map, hn]
  have hpo : packO es lv = if errA L lv = 0 then packA lv.toNat L else [] := by unfold packO; rw [← hL]
  rw [hpo, ← hL]
  rw [← hL] at hcl
  obtain ⟨er, her⟩ : ∃ z, z = errA L lv := ⟨_, rfl⟩
  rw [← her] at hcl ⊢
  have HCL := hid hcl
  by_cases c5 : er = 0
  · have hea : errA L lv = 0 := her.symm.trans c5
    unfold errA at hea
    have h4 : ¬ 4 < L.length := fun q => by rw [if_pos q] at hea; simp at hea
    rw [if_neg h4] at hea
    have hlv : ¬ (lv < 0 ∨ 2 < lv) := fun q => by rw [if_pos q] at hea; simp at hea
    rw [if_neg hlv] at hea
    obtain ⟨m, hm⟩ : ∃ m : Nat, lv = (m : Int) := ⟨lv.toNat, by omega⟩
    subst hm
    rw [c5, if_pos rfl]
    rw [c5] at HCL
    have hm2 : m ≤ 2 := by omega
    have hok := judge_ok (l := L) hea (by rw [hL]; exact toE_byte es)
    have htk := fun k hk => text_take (lv := m) hok k hk
    have HOK := hid hok
    have HTK := hid htk
    have HLN := hid hLn
    have HLL := hid hL
    have HM := hid (And.intro hm2 (show n ≤ 4 by omega))
    have hmm : ((m : Int).toNat) = m := rfl
    rw [hmm]
    obtain ⟨pp, hc0, hpk⟩ := h.c
    have HC0 := hid (And.intro hc0 hpk)
    clear h he hn hcl hL hpo her c5 hea h4 hlv hm2 hok htk hmm hLn hc0 hpk
    refine calls_via fun K hK => ?_
    unfold ptrV
    go_enter Tryz.func29, Tryz.ntmps29
    go_wp2_with fail
    refine HCL.out.mono ?_
    rintro e w' ⟨rfl, hw⟩
    have hw2 := hw.symm; subst hw2; clear hw
    rw [show ((0 : Nat) : Int) = 0 from rfl]
    go_wp2_with fail
    go_loopg [9, 10, 11] n (fun g tv dv iv wr => ∃ (k : Nat) (tx dr : ByteArray), iv = .int .i64 (k : Nat) ∧ g + k = n ∧ tv = .string tx ∧ dv = .string dr ∧ bytesOf tx = textF m (L.take k) ∧ bytesOf dr = dirF m 0 (L.take k) ∧ Fr Nob w wr)
    case atStart => exact ⟨0, ⟨#[]⟩, ⟨#[]⟩, rfl, by omega, rfl, rfl, rfl, rfl, Fr.refl _ _⟩
    case round =>
      obtain ⟨k, tx, dr, rfl, hg, rfl, rfl, htx, hdr, hF⟩ := hrel
      have HTX := hid htx
      have HDR := hid hdr
      have HF := hid hF
      have HG := hid hg
      by_cases hk : k < n
      · have hki : (k : Int) < n := by omega
        have hki4 : (k : Int) < 4 := by have := HM.out.2; omega
        have hkl : k < es.length := by rw [← HN.out]; exact hk
        have hc0 := hF.cell HC0.out.1 (fun x => x)
        unfold ptrV at hc0
        obtain ⟨ga, rfl, hgl, x0, x1⟩ := (HE.out.fr hF (fun _ _ x => x)).at hkl
        have hLk : L[k]'(by rw [HLN.out]; exact hk) = ⟨bytesOf es[k].1, bytesOf es[k].2⟩ := by simp only [HLL.out, List.getElem_map]; rfl
        obtain ⟨ev, hev⟩ : ∃ z, z = es[k] := ⟨_, rfl⟩
        rw [← hev] at x0 x1 hLk
        obtain ⟨nm, dt⟩ := ev
        dsimp only at x0 x1 hLk
        have hok := HOK.out _ (List.getElem_mem (show k < L.length by rw [HLN.out]; exact hk))
        rw [hLk] at hok
        have hnm := hok.name8
        have hdt := hok.data
        dsimp only at hnm hdt
        rw [bytesOf_len] at hnm hdt
        have hnx : textF m (L.take (k + 1)) = textF m (L.take k) ++ recF m ⟨bytesOf nm, bytesOf dt⟩ := by rw [take_snoc2 (by rw [HLN.out]; exact hk), textF_snoc, hLk]
        have hdx : dirF m 0 (L.take (k + 1)) = dirF m 0 (L.take k) ++ two (textF m (L.take k)).length := by rw [take_snoc2 (by rw [HLN.out]; exact hk), dirF_snoc, Nat.zero_add]
        have htl := HTK.out k (by rw [HLN.out]; omega)
        rw [← HTX.out, bytesOf_len] at htl hdx
        obtain ⟨pk, hpk⟩ : ∃ z, z = packF (bytesOf dt) m := ⟨_, rfl⟩
        have hpkl : pk.length ≤ 259 := by rw [hpk]; have := pack_short (bytesOf_lt dt) m; rw [bytesOf_len] at this; omega
        have hpkb : bytesOf (strN pk) = pk := bytesOf_strN (by rw [hpk]; exact packF_byte _ _)
        have hpks : (strN pk).size = pk.length := strN_size pk
        have HPK : Hid (∀ wx, Fr Nob wr wx → Calls Tryz.prog 48 #[.pointer (some ⟨pp, 0, none⟩), .string dt, .int .i64 (m : Nat)] wx fun e w' => e = .returned (.tuple #[.string (strN pk), .int .i64 0]) ∧ Fr Nob wx w') := hid (fun wx hfx => by
          rw [hpk]; exact mpack_any (HC0.out.2.fr (HF.out.trans hfx) (fun x => x)) hdt HM.out.1)
        have hsl := sumF_lt (bytesOf dt)
        have hsm := fun w => sum_any (w := w) (s := dt) (by omega)
        obtain ⟨sm, hsm2⟩ : ∃ z, z = sumF (bytesOf dt) := ⟨_, rfl⟩
        rw [← hsm2] at hsm hsl
        have HSM := hid hsm
        have ht1 := fun w => mtwo_any (w := w) (n := tx.size) (by have := HM.out.2; omega)
        have ht2 := fun w => mtwo_any (w := w) (n := dt.size) (by omega)
        have ht3 := fun w => mtwo_any (w := w) (n := (strN pk).size) (by omega)
        have ht4 := fun w => mtwo_any (w := w) (n := sm) (by omega)
        have HT1 := hid ht1
        have HT2 := hid ht2
        have HT3 := hid ht3
        have HT4 := hid ht4
        have hrec : recF m ⟨bytesOf nm, bytesOf dt⟩ = [nm.size] ++ bytesOf nm ++ two dt.size ++ two pk.length ++ two sm ++ pk := by unfold recF; dsimp only; rw [bytesOf_len, bytesOf_len, ← hpk, ← hsm2]
        have htwo : ∀ q, bytesOf (strN (two q)) = two q := fun q => bytesOf_strN (fun x hx => by unfold two at hx; simp at hx; omega)
        have HEQ := hid (show bytesOf (((((tx ++ strN [nm.size]) ++ nm) ++ strN (two dt.size)) ++ strN (two (strN pk).size)) ++ strN (two sm) ++ strN pk) = textF m (L.take (k + 1)) by
          rw [hnx, hrec, ← HTX.out]
          simp only [bytesOf_app, htwo, hpkb, hpks]
          rw [bytesOf_strN (l := [nm.size]) (by intro x hx; simp at hx; omega)]
          simp only [List.append_assoc])
        have HEQ2 := hid (show bytesOf (dr ++ strN (two tx.size)) = dirF m 0 (L.take (k + 1)) by rw [hdx, bytesOf_app, htwo, HDR.out])
        obtain ⟨ps, hps⟩ : ∃ z, z = strN pk := ⟨_, rfl⟩
        rw [← hps] at HPK HT3 HEQ hpks
        have hts : ∀ q, (strN (two q)).size = 2 := fun q => strN_size _
        have z0 : tx.size ≤ 1100 := by have := HM.out.2; omega
        have z1 : dr.size ≤ 8 := by
          have h9 := congrArg List.length HDR.out
          rw [bytesOf_len, dir_length, List.length_take] at h9
          have := HM.out.2; omega
        have z2 : ps.size ≤ 259 := by omega
        have z3 : nm.size ≤ 8 := hnm
        obtain ⟨q1, hq1⟩ : ∃ z, z = strN (two tx.size) := ⟨_, rfl⟩
        obtain ⟨q2, hq2⟩ : ∃ z, z = strN (two dt.size) := ⟨_, rfl⟩
        obtain ⟨q3, hq3⟩ : ∃ z, z = strN (two ps.size) := ⟨_, rfl⟩
        obtain ⟨q4, hq4⟩ : ∃ z, z = strN (two sm) := ⟨_, rfl⟩
        have y1 : q1.size = 2 := by rw [hq1]; exact hts _
        have y2 : q2.size = 2 := by rw [hq2]; exact hts _
        have y3 : q3.size = 2 := by rw [hq3]; exact hts _
        have y4 : q4.size = 2 := by rw [hq4]; exact hts _
        rw [← hq1] at HT1 HEQ2
        rw [← hq2] at HT2 HEQ
        rw [← hq3] at HT3 HEQ
        rw [← hq4] at HT4 HEQ
        obtain ⟨q5, hq5⟩ : ∃ z, z = strN [nm.size] := ⟨_, rfl⟩
        have y5 : q5.size = 1 := by rw [hq5]; exact strN_size _
        rw [← hq5] at HEQ
        have HQ5 := hid hq5
        clear hq1 hq2 hq3 hq4 hq5 hts
        have X0 := hid x0
        have X1 := hid x1
        have C0 := hid hc0
        have HNMS := hid hnm
        clear htx hdr hF hg hgl hev hLk hok hnx hdx htl hpk hpkl hpkb hpks hsl hsm hsm2 ht1 ht2 ht3 ht4 hrec htwo hps hnm hdt hk hkl
        go_upto_region 9 with fail
        go_cut [12] (fun rv wx => rv = .string ps ∧ Fr Nob wr wx)
        case first =>
          go_region_with (go_at_call 48; refine (HPK.out _ (by first | exact Fr.refl _ _ | exact (Fr.refl _ _).drew | exact Fr.of_drewN)).mono ?_; rintro e w4 ⟨rfl, f4⟩; have F4 : Hid (Fr Nob wr w4) := hid (by first | exact f4 | exact ((Fr.refl Nob wr).drew).trans f4 | exact (Fr.of_drewN (S := Nob)).trans f4); clear f4)
          all_goals (go_wp2_with fail; go_meet; exact ⟨rfl, F4.out⟩)
        case rest =>
        obtain ⟨rfl, f4⟩ := hcut
        obtain ⟨w4, hw4⟩ : ∃ z, z = wc := ⟨_, rfl⟩
        rw [← hw4] at f4 ⊢
        have F4 := hid f4
        clear hw4 f4 x0 x1 hc0
        go_wp2_with fail
        refine (HT1.out w4).mono ?_
        rintro e w5 ⟨rfl, f5⟩
        have F5 := hid (F4.out.trans f5)
        have x0 := F5.out.cell X0.out (fun x => x)
        have x1 := F5.out.cell X1.out (fun x => x)
        clear f5
        go_wp2_with fail
        refine (HT2.out w5).mono ?_
        rintro e w6 ⟨rfl, f6⟩
        have F6 := hid (F5.out.trans f6)
        clear f6 x0 x1
        go_wp2_with fail
        refine (HT3.out w6).mono ?_
        rintro e w7 ⟨rfl, f7⟩
        have F7 := hid (F6.out.trans f7)
        have x1 := F7.out.cell X1.out (fun x => x)
        clear f7
        go_wp2_with fail
        refine (HSM.out w7).mono ?_
        rintro e w' ⟨rfl, hw⟩
        have hw2 := hw.symm; subst hw2; clear hw
        go_wp2_with fail
        refine (HT4.out w7).mono ?_
        rintro e w8 ⟨rfl, f8⟩
        have F8 := hid (F7.out.trans f8)
        have x0 := F8.out.cell X0.out (fun x => x)
        clear f8 x1
        have hnm := HNMS.out
        have e8 : IntKind.u8.wrap (nm.size : Int) = (nm.size : Int) := wrap8 (by omega) (by omega)
        have hcv : (convert 57 9 (.slice (some ⟨w8.heap.size, 0, none⟩) 1 1)).run Tryz.prog (w8.alloc (Obj.cells #[.int .u8 (nm.size : Nat)] 5)).drew = .ok (.string q5) (w8.alloc (Obj.cells #[.int .u8 (nm.size : Nat)] 5)).drew := by rw [HQ5.out]; exact conv_newd w8 [nm.size] [.int .u8 (nm.size : Nat)] rfl
        have x0a : (w8.alloc (Obj.cells #[.int .u8 (nm.size : Nat)] 5)).drew.cell? ⟨ga, k * 2, none⟩ = some (.string nm) := (((Fr.refl Nob w8).alloc _).drew).cell x0 (fun x => x)
        clear hnm
        go_upto_region 15 with fail
        go_region
        go_wp2_with fail
        go_roundg (gk - 1)
        case measure => have := HG.out; omega
        case rel => exact ⟨k + 1, _, _, by simp, by have := HG.out; omega, rfl, rfl, HEQ.out, HEQ2.out, HF.out.trans ((F8.out.alloc _).drew)⟩
      · have hki : ¬ (k : Int) < n := by omega
        have hkn : k = n := by omega
        subst hkn
        have hall : L.take k = L := List.take_of_length_le (by rw [HLN.out]; exact Nat.le_refl _)
        rw [hall] at htx hdr
        have htl := HTK.out k (by rw [HLN.out]; exact Nat.le_refl _)
        rw [hall, ← htx, bytesOf_len] at htl
        have z0 : tx.size ≤ 1100 := by have := HM.out.2; omega
        have z1 : dr.size ≤ 8 := by
          have h9 := congrArg List.length hdr
          rw [bytesOf_len, dir_length, HLN.out] at h9
          have := HM.out.2; omega
        have hn4 := HM.out.2
        have ht1 := fun w => mtwo_any (w := w) (n := tx.size) (by omega)
        have htwo : bytesOf (strN (two tx.size)) = two tx.size := bytesOf_strN (fun x hx => by unfold two at hx; simp at hx; omega)
        obtain ⟨q1, hq1⟩ : ∃ z, z = strN (two tx.size) := ⟨_, rfl⟩
        obtain ⟨q5, hq5⟩ : ∃ z, z = strN [k] := ⟨_, rfl⟩
        have y1 : q1.size = 2 := by rw [hq1]; exact strN_size _
        have y5 : q5.size = 1 := by rw [hq5]; exact strN_size _
        rw [← hq1] at ht1 htwo
        have hq5b : bytesOf q5 = [k] := by rw [hq5]; exact bytesOf_strN (by intro x hx; simp at hx; omega)
        have HEQ := hid (show strN (packA m L) = (((tx ++ dr) ++ q5) ++ q1) ++ (⟨#[90]⟩ : ByteArray) by
          apply bytesOf_inj
          have hb : ∀ x ∈ packA m L, x < 256 := by
            have h1 : ∀ x ∈ textF m L, x < 256 := by rw [← htx]; exact bytesOf_lt tx
            have h2 : ∀ x ∈ dirF m 0 L, x < 256 := by rw [← hdr]; exact bytesOf_lt dr
            intro x hx
            unfold packA at hx
            simp only [List.mem_append, List.mem_singleton] at hx
            rcases hx with (((a | a) | a) | a) | a
            · exact h1 x a
            · exact h2 x a
            · rw [a, HLN.out]; omega
            · unfold two at a; simp at a; omega
            · omega
          rw [bytesOf_strN hb]
          unfold packA
          rw [bytesOf_app, bytesOf_app, bytesOf_app, bytesOf_app, htx, hdr, hq5b, htwo, HLN.out, ← htx, bytesOf_len]
          rfl)
        have HT1 := hid ht1
        have HQ5 := hid hq5
        have hki4 : (k : Int) ≤ 4 := by omega
        have e8 : IntKind.u8.wrap (k : Int) = (k : Int) := wrap8 (by omega) (by omega)
        have hcv0 : (convert 57 9 (.slice (some ⟨wr.heap.size, 0, none⟩) 1 1)).run Tryz.prog (wr.alloc (Obj.cells #[.int .u8 (k : Nat)] 5)).drew = .ok (.string q5) (wr.alloc (Obj.cells #[.int .u8 (k : Nat)] 5)).drew := by rw [hq5]; exact conv_newd wr [k] [.int .u8 (k : Nat)] rfl
        have HCC := hid (show ∀ w2, Fr Nob (wr.alloc (Obj.cells #[.int .u8 (k : Nat)] 5)).drew w2 → (convert 57 9 (.slice (some ⟨wr.heap.size, 0, none⟩) 1 1)).run Tryz.prog w2 = .ok (.string q5) w2 from fun w2 hf => by
          have hc : (wr.alloc (Obj.cells #[.int .u8 (k : Nat)] 5)).drew.cell? ⟨wr.heap.size, 0, none⟩ = some (.int .u8 (k : Nat)) := (World.cell?_alloc_new _ _ _ 0).trans rfl
          have h9 := conv_str (w := w2) (g := wr.heap.size) (o := 0) (n := 1) (cap := 1) (f := fun _ => k) (fun i hi => by
            have : i = 0 := by omega
            subst this; exact hf.cell hc (fun x => x))
          rw [hq5]; exact h9)
        have HLAT := hid (show ∀ w2 : World, (convert 57 9 (.slice (some ⟨w2.heap.size, 0, none⟩) 1 1)).run Tryz.prog (w2.alloc (Obj.cells #[.int .u8 (k : Nat)] 5)) = .ok (.string q5) (w2.alloc (Obj.cells #[.int .u8 (k : Nat)] 5)) from fun w2 => by rw [hq5]; exact conv_new w2 [k] [.int .u8 (k : Nat)] rfl)
        clear htx hdr hF hg hall htl ht1 htwo hq1 hq5 hq5b hn4 hk
        rw [HEQ.out] at hK
        go_upto_region 17 with fail
        go_region_with (go_at_call 49; refine (HT1.out _).mono ?_; rintro e w2 ⟨rfl, f2⟩; have F2 := hid f2; have hcl := HLAT.out w2; clear f2; first | (have hce := HCC.out w2 F2.out) | skip)
        all_goals go_wp2_with fail
        all_goals try go_ret2
        all_goals first
          | exact hK.out _ _ ⟨rfl, HF.out.trans ((((Fr.refl Nob wr).alloc _).drew).trans F2.out)⟩
          | exact hK.out _ _ ⟨rfl, HF.out.trans ((((Fr.refl Nob wr).drew).trans F2.out).alloc _)⟩
          | exact hK.out _ _ ⟨rfl, HF.out.trans (F2.out.alloc _)⟩
          | exact hK.out _ _ ⟨rfl, HF.out.trans (((((Fr.refl Nob wr).drew).trans F2.out).alloc _).drew)⟩
          | exact hK.out _ _ ⟨rfl, HF.out.trans ((F2.out.alloc _).drew)⟩
          | exact hK.out _ _ ⟨rfl, HF.out.trans F2.out⟩
  · have c5i : ((er : Int) == 0) = false := beq_eq_false_iff_ne.2 (fun q => c5 (Int.ofNat.inj q))
    have c5j : ((er : Int) != 0) = true := by rw [bne, c5i]; rfl
    rw [if_neg c5, strN_nil]
    clear h he hn hcl hL hpo her c5 hLn
    refine calls_via fun K hK => ?_
    unfold ptrV
    go_enter Tryz.func29, Tryz.ntmps29
    go_wp2_with fail
    refine HCL.out.mono ?_
    rintro e w' ⟨rfl, hw⟩
    have hw2 := hw.symm; subst hw2; clear hw
    go_wp2_with fail
    try go_ret2
    exact hK.out _ _ ⟨rfl, Fr.refl _ _⟩
end Go.Proofs.Qxb6500353aGreat
