/- THE WALK over watch's visit. -/
import Derived.Test.Qxb6500354aGreatProp
import Derived.Deep.DeepCutAuto
import Derived.Deep.Cut
namespace Go.Proofs.Qxb6500354aGreat
open Go.RowKit
set_option linter.unusedVariables false
set_option linter.unusedSimpArgs false

theorem seekNF_cons (T : TrailS) (l : Int) (r : List Int) (k : Nat) : seekNF T (l :: r) k = if T.value l = -1 then seekNF T r (k + 1) else some k := rfl
theorem WatchOf.setWeak {R : WatchR} {tb : Nat} {W : WatchS} (h : WatchOf R tb W) {k : Nat} (hk : k < 2 ^ 64) : WatchOf { R with weak := k } tb { W with weak := k } :=
  ⟨h.t, h.len, h.gd, h.dist, h.size, h.lits, h.used, h.fresh, rfl, h.list, h.usedlt, h.freshlt, hk, h.listlt⟩
theorem SlotIs.refl {R : Nat → Int} {id : Nat} {c : List Int} (h : ∀ j, j < c.length → R (id * 12 + j) = c.getD j 0) : SlotIs R R id c := ⟨h, fun _ _ => rfl⟩
theorem swapL_at (c : List Int) {i k : Nat} (hi : i < c.length) (hk : k < c.length) : (swapL c i k).getD k 0 = c.getD i 0 := by
  unfold swapL; simp [List.getD_eq_getElem?_getD, hi, hk]
theorem swapL_at0 (c : List Int) {i k : Nat} (hi : i < c.length) (hk : k < c.length) (hne : i ≠ k) : (swapL c i k).getD i 0 = c.getD k 0 := by
  unfold swapL; simp only [List.getD_eq_getElem?_getD]; rw [List.getElem?_set_ne (Ne.symm hne)]; simp [hi]

set_option maxRecDepth 100000 in
set_option maxHeartbeats 4000000 in
theorem visit_any {w : World} {b tb : Nat} {W : WatchS} {T : TrailS} (h : WatAt w b tb W) (ht : TrlAt w tb T) (hbt : tb ≠ b) (id : Nat) (hid : id < 52) (p : Int) (hgp : good p = true)
    (h2 : 2 ≤ (W.cl id).length) (hpl : (W.cl id).getD 0 0 = -p ∨ (W.cl id).getD 1 0 = -p) :
    Calls Tryz.prog 141 #[.pointer (some ⟨b, 0, none⟩), .int .i64 id, .int .i64 p] w fun e w' => e = .returned (.int .i64 (visitF W T id p).1) ∧ WatAt w' b tb (visitF W T id p).2.1 ∧ TrlAt w' tb (visitF W T id p).2.2 ∧ Fr [b, tb] w w' := by
  obtain ⟨R, hR, ho⟩ := h
  have hidi : (id : Int) < 52 := by omega
  have hid64 : id < 64 := by omega
  obtain ⟨c, hc⟩ : ∃ c, W.cl id = c := ⟨_, rfl⟩
  obtain ⟨n, hn⟩ : ∃ n, c.length = n := ⟨_, rfl⟩
  rw [hc] at h2 hpl
  rw [hn] at h2
  have hn12 : n ≤ 12 := by have := ho.len id hid; rw [hc, hn] at this; exact this
  have hsz := hR.size id hid
  rw [ho.size id hid, hc, hn] at hsz
  have hvis := hR.visits
  have hfr := hR.froz
  have hlt : ∀ j, j < n → R.lits (id * 12 + j) = c.getD j 0 := fun j hj => by rw [ho.lits id hid j (by rw [hc, hn]; exact hj), hc]
  have hgd : ∀ x ∈ c, good x = true := by have := ho.gd id hid; rw [hc] at this; exact this
  have hp12 := (good_iff _).1 hgp
  obtain ⟨f, hf⟩ : ∃ f, -p = f := ⟨_, rfl⟩
  rw [hf] at hpl
  have hgf : good f = true := by rw [good_iff]; omega
  have hl0 := hR.lits (id * 12 + 0) (by omega)
  have hl1 := hR.lits (id * 12 + 1) (by omega)
  rw [hlt 0 (by omega)] at hl0
  rw [hlt 1 (by omega)] at hl1
  simp only [Nat.add_zero] at hl0
  have hslot : SlotIs R.lits R.lits id c := SlotIs.refl (fun j hj => hlt j (by omega))
  have hswap := hslot.set2 (i := 0) (k := 1) (by omega) (by omega) (by omega)
  have hsp := swapL_perm (c := c) (i := 0) (k := 1) (by omega) (by omega)
  have hs1 := swapL_at c (i := 0) (k := 1) (by omega) (by omega)
  have hpb : -12 ≤ p ∧ p ≤ 12 := by omega
  obtain ⟨vp, hvp⟩ : ∃ v, p.natAbs = v := ⟨_, rfl⟩
  have HVP : Hid (p.natAbs = vp) := hvp
  have hvp1 : 1 ≤ vp := by omega
  have hvp12 : vp ≤ 12 := by omega
  have hvp13 : vp < 13 := by omega
  have hi0 : (id : Int) * 12 < 624 := by omega
  have hi1 : (id : Int) * 12 + 1 < 624 := by omega
  have HO : Hid (WatchOf R tb W) := ho
  have HR : Hid (WatchAt w b R) := hR
  have HN : Hid (W.cl id = c ∧ c.length = n) := ⟨hc, hn⟩
  have HT : Hid (TrlAt w tb T) := ht
  have HG : Hid (∀ x ∈ c, good x = true) := hgd
  have HBT : Hid (tb ≠ b) := hbt
  have HF0 : Hid (-p = f) := hf
  have HGF : Hid (good f = true) := hgf
  have htt := hR.t
  rw [ho.t] at htt
  have htb2 : ¬ (tb = b) := hbt
  have hfx : f = -p := hf.symm
  obtain ⟨res, hres⟩ : ∃ res, visitF W T id p = res := ⟨_, rfl⟩
  rw [hres]
  have hF := hres
  unfold visitF at hF
  simp only [hc, hf] at hF
  have hfb : -12 ≤ f ∧ f ≤ 12 := by omega
  have HHEAD : Hid (∃ c1 : List Int, (if c.getD 0 0 = f then swapL c 0 1 else c) = c1 ∧ c1.Perm c ∧ c1.getD 1 0 = f) := by
    by_cases h0 : c.getD 0 0 = f
    · exact ⟨_, rfl, by rw [if_pos h0]; exact hsp, by rw [if_pos h0]; exact hs1.trans h0⟩
    · exact ⟨_, rfl, by rw [if_neg h0], by rw [if_neg h0]; rcases hpl with e | e; exact absurd e h0; exact e⟩
  obtain ⟨c1, hc1, hperm, hc1f⟩ := HHEAD.out
  rw [hc1] at hF
  have HC1 : Hid ((if c.getD 0 0 = f then swapL c 0 1 else c) = c1) := hc1
  generalize hx0 : c.getD 0 0 = x0 at *
  generalize hx1 : c.getD 1 0 = x1 at *
  have HSW : Hid (SlotIs R.lits (upd (upd R.lits (id * 12) x1) (id * 12 + 1) x0) id (swapL c 0 1)) := by
    have := hswap; simp only [Nat.add_zero] at this; exact this
  have HSL : Hid (SlotIs R.lits R.lits id c) := hslot
  have HP : Hid (c1.Perm c ∧ c1.getD 1 0 = f) := ⟨hperm, hc1f⟩
  have HF : Hid _ := hF
  clear ho hR hc hn ht hlt hgd hres hbt hgf hslot hswap hsp hs1 hperm hc1 hc1f hx0 hx1 hpl hp12 hvp hfx hF hgp HHEAD
  refine calls_via fun K hK => ?_
  go_enter Tryz.func141, Tryz.ntmps141
  go_upto_if 40 with (fail)
  go_cut [] (fun wx => ∃ (L : Nat → Int) (x : Int), SlotIs R.lits L id c1 ∧ WatchAt wx b { R with lits := L, visits := x } ∧ TrlAt wx tb T ∧ Fr [b] w wx)
  case first =>
    by_cases h0 : x0 = f
    · have hbq : (x0 == f) = true := by simpa using h0
      have HX : Hid (x0 = f) := h0
      clear h0
      go_wp2_with (go_region)
      go_meet
      refine ⟨_, _, ?_, (((HR.out.set_visits _).set_lits (id * 12) (by omega) x1).set_lits (id * 12 + 1) (by omega) f).drew, (((HT.out.other HBT.out _).other HBT.out _).other HBT.out _).drew, ((((Fr.refl [b] w).set (by simp) _).set (by simp) _).set (by simp) _).drew⟩
      have := HSW.out
      rw [← HC1.out, if_pos HX.out]
      rw [HX.out] at this
      exact this
    · have hbq : (x0 == f) = false := by simpa using h0
      have HX : Hid (x0 ≠ f) := h0
      clear h0
      go_wp2_with fail
      go_meet
      refine ⟨_, _, ?_, HR.out.set_visits _, HT.out.other HBT.out _, (Fr.refl [b] w).set (by simp) _⟩
      rw [← HC1.out, if_neg HX.out]
      exact HSL.out
  case rest =>
    obtain ⟨L, x, hL, hR, ht, hfw⟩ := hcut
    obtain ⟨w1, rfl⟩ : ∃ w1, w1 = wc := ⟨_, rfl⟩
    have hc1n : c1.length = n := by rw [HP.out.1.length_eq]; exact HN.out.2
    have hlq := hR.lits (id * 12 + 0) (by omega)
    change w1.cell? _ = some (.int .i64 (L (id * 12 + 0))) at hlq
    rw [hL.new 0 (by omega)] at hlq
    simp only [Nat.add_zero] at hlq
    have hgq := HG.out _ (HP.out.1.mem_iff.1 (getD_mem (c := c1) (i := 0) (by omega)))
    have hdist := HO.out.dist id hid
    rw [HN.out.1] at hdist
    have hdist1 : (c1.map Int.natAbs).Nodup := (HP.out.1.map _).nodup_iff.2 hdist
    obtain ⟨q, hq⟩ : ∃ q, c1.getD 0 0 = q := ⟨_, rfl⟩
    rw [hq] at hlq hgq
    have hF := HF.out
    rw [hq] at hF
    have htt := hR.t
    rw [show R.t = .pointer (some ⟨tb, 0, none⟩) from HO.out.t] at htt
    have hfr := hR.froz
    have hq12 := (good_iff _).1 hgq
    obtain ⟨vq, hvq⟩ : ∃ v, q.natAbs = v := ⟨_, rfl⟩
    rw [hvq, HVP.out] at hF
    have HVQ : Hid (q.natAbs = vq) := hvq
    have hvq1 : 1 ≤ vq := by omega
    have hvq12 : vq ≤ 12 := by omega
    have hvq13 : vq < 13 := by omega
    have hsz1 := hR.size id hid
    rw [show R.size id = ((n : Nat) : Int) from by rw [HO.out.size id hid, HN.out.1, HN.out.2]] at hsz1
    have HQ : Hid (c1.getD 0 0 = q) := hq
    have HF2 : Hid _ := hF
    have HL : Hid (SlotIs R.lits L id c1) := hL
    have HR1 : Hid (WatchAt w1 b { R with lits := L, visits := x }) := hR
    have HT1 : Hid (TrlAt w1 tb T) := ht
    have HC1N : Hid (c1.length = n) := hc1n
    have HGQ : Hid (good q = true) := hgq
    have HD1 : Hid ((c1.map Int.natAbs).Nodup) := hdist1
    have hwcl := HO.out.setCl hid (HP.out.1.trans (by rw [HN.out.1])) hL x
    have HWCL : Hid _ := hwcl
    clear hF hL hR ht hc1n hgq hdist hdist1 hq hvq hq12 hwcl HF HC1 HSW HSL hl0 hl1 hsz hvis
    go_wp2_with fail
    refine (value_any HT1.out _).mono ?_
    rintro e w' ⟨rfl, hw⟩; have hw2 := hw.symm; subst hw2; clear hw
    go_upto_if 73 with (fail)
    go_cut [] (fun wx => wx = w1 ∧ ¬ (T.value q = 1 ∧ T.place vq < T.place vp))
    case first =>
      by_cases h1 : T.value q = 1
      · have HV : Hid (T.value q = 1) := h1
        have hb1 : (T.value q == 1) = true := by simpa using h1
        clear h1
        by_cases h2 : T.place vq < T.place vp
        · have HF3 := HF2.out
          rw [if_pos ⟨HV.out, h2⟩] at HF3
          have HF4 : Hid _ := HF3
          clear HF3
          go_wp2_with (first | (go_at_call_of 89 (Value.int IntKind.i64 q); refine (var_v HVQ.out hvq12 _).mono ?_; rintro e w' ⟨rfl, hw⟩; have hw2 := hw.symm; subst hw2; clear hw) | (go_at_call_of 89 (Value.int IntKind.i64 p); refine (var_v HVP.out hvp12 _).mono ?_; rintro e w' ⟨rfl, hw⟩; have hw2 := hw.symm; subst hw2; clear hw) | (go_at_call_of 150 (Value.int IntKind.i64 (vq : Int)); refine (place_any HT1.out _ hvq1 hvq13).mono ?_; rintro e w' ⟨rfl, hw⟩; have hw2 := hw.symm; subst hw2; clear hw) | (go_at_call_of 150 (Value.int IntKind.i64 (vp : Int)); refine (place_any HT1.out _ hvp1 hvp13).mono ?_; rintro e w' ⟨rfl, hw⟩; have hw2 := hw.symm; subst hw2; clear hw))
          refine hK.out _ _ ⟨?_, ?_, ?_, ?_⟩
          · rw [← HF4.out]; rfl
          · rw [← HF4.out]; exact ⟨_, HR1.out, HWCL.out⟩
          · rw [← HF4.out]; exact HT1.out
          · exact hfw.mono (by simp)
        · have H2 : Hid (¬ T.place vq < T.place vp) := h2
          go_wp2_with (first | (go_at_call_of 89 (Value.int IntKind.i64 q); refine (var_v HVQ.out hvq12 _).mono ?_; rintro e w' ⟨rfl, hw⟩; have hw2 := hw.symm; subst hw2; clear hw) | (go_at_call_of 89 (Value.int IntKind.i64 p); refine (var_v HVP.out hvp12 _).mono ?_; rintro e w' ⟨rfl, hw⟩; have hw2 := hw.symm; subst hw2; clear hw) | (go_at_call_of 150 (Value.int IntKind.i64 (vq : Int)); refine (place_any HT1.out _ hvq1 hvq13).mono ?_; rintro e w' ⟨rfl, hw⟩; have hw2 := hw.symm; subst hw2; clear hw) | (go_at_call_of 150 (Value.int IntKind.i64 (vp : Int)); refine (place_any HT1.out _ hvp1 hvp13).mono ?_; rintro e w' ⟨rfl, hw⟩; have hw2 := hw.symm; subst hw2; clear hw))
          go_meet
          exact ⟨rfl, fun h => by have h3 := H2.out; have h4 := h.2; omega⟩
      · have H1 : Hid (¬ T.value q = 1) := h1
        have hb1 : (T.value q == 1) = false := by simpa using h1
        clear h1
        go_wp2_with fail
        go_meet
        exact ⟨rfl, fun h => H1.out h.1⟩
    case rest =>
      obtain ⟨rfl, hnot⟩ := hcut
      have HF3 := HF2.out
      rw [if_neg hnot] at HF3
      have HF4 : Hid _ := HF3
      clear HF3 hnot
      obtain ⟨w1, rfl⟩ : ∃ w1, w1 = wc := ⟨_, rfl⟩
      go_wp2_with (go_at_call 111; refine (bit_any _ hid64 _).mono ?_; rintro e w' ⟨rfl, hw⟩; have hw2 := hw.symm; subst hw2; clear hw)
      obtain ⟨sk, hsk⟩ : ∃ sk, seekNF T (c1.drop 2) 2 = sk := ⟨_, rfl⟩
      have HSK : Hid (seekNF T (c1.drop 2) 2 = sk) := hsk
      clear hsk
      go_loopg [17] (n - 2) (fun g kk wr => wr = w1 ∧ g ≤ n - 2 ∧ kk = .int .i64 ((n - g : Nat) : Int) ∧ sk = seekNF T (c1.drop (n - g)) (n - g))
      case atStart => exact ⟨rfl, by omega, by rw [show n - (n - 2) = 2 from by omega]; rfl, by rw [show n - (n - 2) = 2 from by omega]; exact HSK.out.symm⟩
      case round =>
        obtain ⟨rfl, hg, rfl, he⟩ := hrel
        obtain ⟨w1, rfl⟩ : ∃ w1, w1 = wr := ⟨_, rfl⟩
        by_cases hlt : 0 < gk
        · obtain ⟨k, hk⟩ : ∃ k, n - gk = k := ⟨_, rfl⟩
          rw [hk] at he ⊢
          have hkn : k < n := by omega
          have hk2 : 2 ≤ k := by omega
          have hkn2 : (k : Int) < n := by omega
          have hlk := HR1.out.lits (id * 12 + k) (by omega)
          change w1.cell? _ = some (.int .i64 (L (id * 12 + k))) at hlk
          rw [HL.out.new k (by rw [HC1N.out]; exact hkn)] at hlk
          rw [drop_cons (by rw [HC1N.out]; exact hkn), seekNF_cons] at he
          have hgl := HG.out _ (HP.out.1.mem_iff.1 (getD_mem (c := c1) (i := k) (by rw [HC1N.out]; exact hkn)))
          have hne := dist_ne HD1.out (i := 1) (j := k) (by omega) (by rw [HC1N.out]; exact hkn)
          rw [HP.out.2] at hne
          have hset := HL.out.set2 (i := 1) (k := k) (by rw [HC1N.out]; omega) (by rw [HC1N.out]; exact hkn) (by rw [HC1N.out]; omega)
          rw [HP.out.2] at hset
          have hsp := swapL_perm (c := c1) (i := 1) (k := k) (by rw [HC1N.out]; omega) (by rw [HC1N.out]; exact hkn)
          obtain ⟨l, hl⟩ : ∃ l, c1.getD k 0 = l := ⟨_, rfl⟩
          rw [hl] at hlk he hgl hne hset
          have hik : (id : Int) * 12 + k < 624 := by omega
          have HK : Hid (n - gk = k) := hk
          by_cases hv : T.value l = -1
          · rw [if_pos hv] at he
            have HE : Hid (sk = seekNF T (c1.drop (k + 1)) (k + 1)) := he
            have HV : Hid (T.value l = -1) := hv
            clear he hv hgl hne hset hsp hl hk
            go_wp2_with (go_at_call 59; refine (value_any HT1.out _).mono ?_; rintro e w' ⟨rfl, hw⟩; have hw2 := hw.symm; subst hw2; clear hw; rw [HV.out])
            go_roundg (gk - 1)
            case measure => omega
            case rel =>
              have hk := HK.out
              refine ⟨rfl, by omega, ?_, ?_⟩
              · rw [show n - (gk - 1) = k + 1 from by omega]; simp
              · rw [show n - (gk - 1) = k + 1 from by omega]; exact HE.out
          · rw [if_neg hv] at he
            have hvb : (T.value l != -1) = true := by rw [bne_iff_ne]; exact hv
            have hcne : code f ≠ code l := fun e => hne (code_inj e)
            have hcf := code_lt HGF.out
            have hcl := code_lt hgl
            have hcfi : ((code f : Nat) : Int) < 26 := by omega
            have hcli : ((code l : Nat) : Int) < 26 := by omega
            have hxf := HR1.out.list (code f) hcf
            have hxl := HR1.out.list (code l) hcl
            rw [show R.list (code f) = W.wl (code f) from HO.out.list _ hcf] at hxf
            rw [show R.list (code l) = W.wl (code l) from HO.out.list _ hcl] at hxl
            have b0 := andNot64 (HO.out.listlt _ hcf) (pow64 hid64)
            have b1 := or64 (HO.out.listlt _ hcl) (pow64 hid64)
            change bits .andNot .u64 (W.wl (code f)) (pw id : Nat) = ((clrB (W.wl (code f)) id : Nat) : Int) at b0
            change bits .or .u64 (W.wl (code l)) (pw id : Nat) = ((setB (W.wl (code l)) id : Nat) : Int) at b1
            have hu1 : upd W.wl (code f) (clrB (W.wl (code f)) id) (code l) = W.wl (code l) := upd_ne _ _ _ _ (Ne.symm hcne)
            have hof : WatchOf _ tb { W with cl := _, wl := _ } := ((HO.out.setCl hid (hsp.trans (HP.out.1.trans (by rw [HN.out.1]))) hset x).setWl (code f) (clrB (W.wl (code f)) id) (clrB_lt (HO.out.listlt _ hcf))).setWl (code l) (setB (W.wl (code l)) id) (setB_lt (HO.out.listlt _ hcl) (by omega))
            have HE : Hid (sk = some k) := he
            have HOF : Hid _ := hof
            have HU : Hid (upd W.wl (code f) (clrB (W.wl (code f)) id) (code l) = W.wl (code l)) := hu1
            have HGL : Hid (good l = true) := hgl
            have HLK : Hid (c1.getD k 0 = l) := hl
            have hd1 := HR1.out.lits (id * 12 + 1) (by omega)
            clear he hv hgl hne hset hsp hl hk hof hu1
            obtain ⟨z, hz⟩ : ∃ z, (w1.setCell ⟨b, 1 + (id * 12 + 1), none⟩ (.int .i64 l)).cell? ⟨b, 1 + (id * 12 + k), none⟩ = some z := ⟨_, (HR1.out.set_lits (id * 12 + 1) (by omega) l).lits (id * 12 + k) (by omega)⟩
            go_wp2_with (first | (go_at_call 59; refine (value_any HT1.out _).mono ?_; rintro e w' ⟨rfl, hw⟩; have hw2 := hw.symm; subst hw2; clear hw) | (go_at_call_of 140 (Value.int IntKind.i64 f); refine (code_any _ HGF.out _).mono ?_; rintro e w' ⟨rfl, hw⟩; have hw2 := hw.symm; subst hw2; clear hw) | (go_at_call_of 140 (Value.int IntKind.i64 l); refine (code_any _ HGL.out _).mono ?_; rintro e w' ⟨rfl, hw⟩; have hw2 := hw.symm; subst hw2; clear hw) | go_region)
            have hfin := HF4.out
            rw [HSK.out, HE.out] at hfin
            simp only [HLK.out, HU.out] at hfin
            refine hK.out _ _ ⟨?_, ?_, ?_, ?_⟩
            · rw [← hfin]; rfl
            · rw [← hfin]; exact ⟨_, ((((HR1.out.set_lits (id * 12 + 1) (by omega) l).set_lits (id * 12 + k) (by omega) f).set_list (code f) hcf _).set_list (code l) hcl _).drew.drew, HOF.out⟩
            · rw [← hfin]; exact (((((HT1.out.other HBT.out _).other HBT.out _).other HBT.out _).other HBT.out _).drew).drew
            · exact ((((((hfw.set (by simp) _).set (by simp) _).set (by simp) _).set (by simp) _).drew).drew).mono (by simp)
        · have hg0 : gk = 0 := by omega
          subst hg0
          have HE : Hid (sk = none) := by show _ = _; rw [he, List.drop_of_length_le (by rw [HC1N.out]; omega)]; rfl
          have hfin := HF4.out
          rw [HSK.out, HE.out] at hfin
          have HFIN : Hid _ := hfin
          clear he hlt hg hfin HF4 HF2
          have hunl := fun wx (hx : WatAt wx b tb _) => unlink_any (W := { W with cl := upd W.cl id c1 }) hx id hid (by show 2 ≤ List.length (upd W.cl id c1 id); rw [upd_self, HC1N.out]; exact h2)
          go_wp2_with fail
          refine (hunl _ ⟨_, HR1.out, HWCL.out⟩).mono ?_
          rintro e w2 ⟨rfl, ⟨R2, hR2, ho2⟩, hf2⟩
          have hwk := hR2.weak
          rw [show R2.weak = W.weak from ho2.weak] at hwk
          have hfr2 := hR2.froz
          have htt2 := hR2.t
          rw [ho2.t] at htt2
          have hbo := or64 HO.out.weaklt (pow64 hid64)
          change bits .or .u64 (W.weak : Nat) (pw id : Nat) = ((setB W.weak id : Nat) : Int) at hbo
          have hwm := ho2.setWeak (setB_lt (i := id) HO.out.weaklt hid64)
          have HWM : Hid _ := hwm
          have HR2 : Hid (WatchAt w2 b R2) := hR2
          have ht2 := HT1.out.fr hf2 (by simp [HBT.out])
          have HT2 : Hid (TrlAt w2 tb T) := ht2
          have hf3 := hfw.trans hf2
          clear hwm hR2 ho2 ht2 hunl
          by_cases hv1 : T.value q = -1
          · have hb1 : (T.value q == -1) = true := by simpa using hv1
            have HV1 : Hid (T.value q = -1) := hv1
            clear hv1
            go_wp2_with fail
            have hfin := HFIN.out
            rw [if_pos HV1.out] at hfin
            refine hK.out _ _ ⟨?_, ?_, ?_, ?_⟩
            · rw [← hfin]; rfl
            · rw [← hfin]; exact ⟨_, HR2.out.set_weak _, HWM.out⟩
            · rw [← hfin]; exact HT2.out.other HBT.out _
            · exact (hf3.set (by simp) _).mono (by simp)
          · have hb1 : (T.value q == -1) = false := by simpa using hv1
            by_cases hv0 : T.value q = 0
            · have HV1 : Hid (¬ T.value q = -1) := hv1
              have HV0 : Hid (T.value q = 0) := hv0
              have hb0 : (T.value q == 0) = true := by simpa using hv0
              clear hv1 hv0
              go_wp2_with fail
              refine (assign_any (HT2.out.other HBT.out _) q id HGQ.out HV0.out).mono ?_
              rintro e w3 ⟨⟨v3, rfl⟩, ht3, hf4⟩
              go_wp2_with fail
              have hfin := HFIN.out
              rw [if_neg HV1.out, if_pos HV0.out] at hfin
              unfold TrailS.assign at hfin
              rw [if_pos HV0.out] at hfin
              refine hK.out _ _ ⟨?_, ?_, ?_, ?_⟩
              · rw [← hfin]; rfl
              · rw [← hfin]; exact WatAt.fr ⟨_, HR2.out.set_weak _, HWM.out⟩ hf4 (by simp [Ne.symm HBT.out])
              · rw [← hfin]; exact ht3
              · exact ((hf3.set (by simp) _).mono (by simp)).trans (hf4.mono (by simp))
            · have HV1 : Hid (¬ T.value q = -1) := hv1
              have HV0 : Hid (¬ T.value q = 0) := hv0
              have hb0 : (T.value q == 0) = false := by simpa using hv0
              clear hv1 hv0
              go_wp2_with fail
              have hfin := HFIN.out
              rw [if_neg HV1.out, if_neg HV0.out] at hfin
              refine hK.out _ _ ⟨?_, ?_, ?_, ?_⟩
              · rw [← hfin]; rfl
              · rw [← hfin]; exact ⟨_, HR2.out.set_weak _, HWM.out⟩
              · rw [← hfin]; exact HT2.out.other HBT.out _
              · exact (hf3.set (by simp) _).mono (by simp)
end Go.Proofs.Qxb6500354aGreat
