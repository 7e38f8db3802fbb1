/- THE WALKS over watch: Remove. -/
import Derived.Test.Qxb6500354aGreatWat3
namespace Go.Proofs.Qxb6500354aGreat
open Go.RowKit
set_option linter.unusedVariables false
set_option linter.unusedSimpArgs false

theorem lockedF_cons (T : TrailS) (id : Nat) (l : Int) (r : List Int) : lockedF T id (l :: r) = if T.value l = 1 ∧ T.reason l.natAbs = id then true else lockedF T id r := rfl

theorem WatchOf.drop {R : WatchR} {tb : Nat} {W : WatchS} (h : WatchOf R tb W) (id : Nat) (hid : id < 52) :
    WatchOf { R with used := clrB R.used id, fresh := clrB R.fresh id, weak := clrB R.weak id, size := upd R.size id 0 } tb { W with used := clrB W.used id, fresh := clrB W.fresh id, weak := clrB W.weak id, cl := upd W.cl id [] } := by
  have hcl : ∀ j, upd W.cl id [] j = if j = id then [] else W.cl j := fun j => rfl
  refine ⟨h.t, ?_, ?_, ?_, ?_, ?_, ?_, ?_, ?_, h.list, ?_, ?_, ?_, h.listlt⟩
  · intro j hj; show List.length (upd W.cl id [] j) ≤ _; rw [hcl]; split
    · simp
    · exact h.len j hj
  · intro j hj; show ∀ l ∈ upd W.cl id [] j, _; rw [hcl]; split
    · simp
    · exact h.gd j hj
  · intro j hj; show (List.map Int.natAbs (upd W.cl id [] j)).Nodup; rw [hcl]; split
    · simp
    · exact h.dist j hj
  · intro j hj; show upd R.size id 0 j = ((List.length (upd W.cl id [] j) : Nat) : Int); rw [hcl]; unfold upd; split
    · rfl
    · exact h.size j hj
  · intro j hj i hi
    change i < List.length (upd W.cl id [] j) at hi
    show _ = List.getD (upd W.cl id [] j) _ _
    rw [hcl] at hi ⊢
    split
    · rename_i e; rw [if_pos e] at hi; simp at hi
    · rename_i e; rw [if_neg e] at hi
      exact h.lits j hj i hi
  · show clrB _ _ = clrB _ _; rw [h.used]
  · show clrB _ _ = clrB _ _; rw [h.fresh]
  · show clrB _ _ = clrB _ _; rw [h.weak]
  · exact clrB_lt h.usedlt
  · exact clrB_lt h.freshlt
  · exact clrB_lt h.weaklt

set_option maxHeartbeats 1000000 in
theorem remove_any {w : World} {b tb : Nat} {W : WatchS} {T : TrailS} (h : WatAt w b tb W) (ht : TrlAt w tb T) (hbt : tb ≠ b) (id : Nat) (hid : id < 52)
    (hs : (W.fresh ||| W.weak).testBit id = false → W.used.testBit id = true → 2 ≤ (W.cl id).length) :
    Calls Tryz.prog 127 #[.pointer (some ⟨b, 0, none⟩), .int .i64 id] w fun e w' => e = .returned (.int .i64 (W.remove T id).1) ∧ WatAt w' b tb (W.remove T id).2 ∧ Fr [b] w w' := by
  have hlive := live_any h (id : Int)
  obtain ⟨R, hR, ho⟩ := h
  have hidi : (id : Int) < 52 := by omega
  have hid64 : id < 64 := by omega
  have hl12 := ho.len id hid
  obtain ⟨c, hc⟩ : ∃ c, W.cl id = c := ⟨_, rfl⟩
  obtain ⟨n, hn⟩ : ∃ n, c.length = n := ⟨_, rfl⟩
  have hsz := hR.size id hid
  rw [ho.size id hid, hc, hn] at hsz
  have htt := hR.t
  rw [ho.t] at htt
  by_cases hlv : W.live (id : Int) = true
  · rw [hlv] at hlive
    have hus : W.used.testBit id = true := by
      unfold WatchS.live at hlv; simp at hlv; exact hlv.2
    have hq : Hid (W.remove T id = if lockedF T id c then (14, W) else (0, W.drop id)) := by
      show _ = _; unfold WatchS.remove; rw [if_pos hlv, hc]
    have hlt : ∀ j, j < n → R.lits (id * 12 + j) = c.getD j 0 := fun j hj => by rw [ho.lits id hid j (by rw [hc, hn]; exact hj), hc]
    have hgd : ∀ j, j < n → good (c.getD j 0) = true := fun j hj => ho.gd id hid _ (by rw [hc]; exact getD_mem (by omega))
    have HO : Hid (WatchOf R tb W) := ho
    have HR : Hid (WatchAt w b R) := hR
    have HN : Hid (W.cl id = c ∧ c.length = n) := ⟨hc, hn⟩
    have HT : Hid (TrlAt w tb T) := ht
    have HLT : Hid (∀ j, j < n → R.lits (id * 12 + j) = c.getD j 0) := hlt
    have HG : Hid (∀ j, j < n → good (c.getD j 0) = true) := hgd
    have HS : Hid ((W.fresh ||| W.weak).testBit id = false → W.used.testBit id = true → 2 ≤ (W.cl id).length) := hs
    have HL : Hid (Calls Tryz.prog 97 #[.pointer (some ⟨b, 0, none⟩), .int .i64 (id : Int)] w fun e w' => e = .returned (.bool true) ∧ w' = w) := hlive
    have HUS : Hid (W.used.testBit id = true) := hus
    have hn12 : n ≤ 12 := by rw [hc, hn] at hl12; exact hl12
    clear hlive ho hR hc hn ht hlt hgd hlv hs hl12 hus
    rw [hq.out]
    refine calls_via fun K hK => ?_
    go_enter Tryz.func127, Tryz.ntmps127
    go_wp2_with fail
    refine HL.out.mono ?_
    rintro e w' ⟨rfl, rfl⟩
    go_wp2_with fail
    go_loopg [6] n (fun g i wr => wr = w' ∧ g ≤ n ∧ i = .int .i64 ((n - g : Nat) : Int) ∧ lockedF T id c = lockedF T id (c.drop (n - g)))
    case atStart => exact ⟨rfl, by omega, by simp, by simp⟩
    case round =>
      obtain ⟨rfl, hg, rfl, he⟩ := hrel
      by_cases hlt : 0 < gk
      · obtain ⟨k, hk⟩ : ∃ k, n - gk = k := ⟨_, rfl⟩
        rw [hk] at he ⊢
        have hkn : k < n := by omega
        have hkn2 : (k : Int) < n := by omega
        rw [drop_cons (by rw [HN.out.2]; exact hkn), lockedF_cons] at he
        have hd1 := HR.out.lits (id * 12 + k) (by omega)
        rw [HLT.out k hkn] at hd1
        have hi1 : (id : Int) * 12 + k < 624 := by omega
        have hgx := HG.out k hkn
        have hx12 := (good_iff _).1 hgx
        generalize c.getD k 0 = x at *
        have HK : Hid (n - gk = k) := hk
        have HGX : Hid (good x = true) := hgx
        obtain ⟨vx, hvx⟩ : ∃ v, x.natAbs = v := ⟨_, rfl⟩
        rw [hvx] at he
        have HVX : Hid (x.natAbs = vx) := hvx
        have hv1 : 1 ≤ vx := by omega
        have hv12 : vx ≤ 12 := by omega
        have hv13 : vx < 13 := by omega
        clear hk hgx hvx hx12
        by_cases h1 : T.value x = 1
        · have HV : Hid (T.value x = 1) := h1
          by_cases h2 : T.reason vx = id
          · rw [if_pos ⟨h1, h2⟩] at he
            have HE : Hid (lockedF T id c = true) := he
            have HRS : Hid (T.reason vx = id) := h2
            clear he h1 h2
            go_wp2_with (first | (go_at_call 59; refine (value_any HT.out _).mono ?_; rintro e w' ⟨rfl, hw⟩; subst hw; rw [HV.out]) | (go_at_call 89; refine (var_v HVX.out hv12 _).mono ?_; rintro e w' ⟨rfl, rfl⟩) | (go_at_call 144; refine (reason_any HT.out _ hv1 hv13).mono ?_; rintro e w' ⟨rfl, hw⟩; subst hw; rw [HRS.out]))
            refine hK.out _ _ ⟨?_, ?_, Fr.refl _ _⟩
            · rw [if_pos HE.out]; rfl
            · rw [if_pos HE.out]; exact ⟨R, HR.out, HO.out⟩
          · rw [if_neg (by intro h; exact h2 h.2)] at he
            have hb2 : (T.reason vx == (id : Int)) = false := by simpa using h2
            have HE : Hid (lockedF T id c = lockedF T id (c.drop (k + 1))) := he
            clear he h1 h2
            go_wp2_with (first | (go_at_call 59; refine (value_any HT.out _).mono ?_; rintro e w' ⟨rfl, hw⟩; subst hw; rw [HV.out]) | (go_at_call 89; refine (var_v HVX.out hv12 _).mono ?_; rintro e w' ⟨rfl, rfl⟩) | (go_at_call 144; refine (reason_any HT.out _ hv1 hv13).mono ?_; rintro e w' ⟨rfl, hw⟩; subst hw))
            go_roundg (gk - 1)
            case measure => omega
            case rel =>
              have hk := HK.out
              refine ⟨rfl, by omega, ?_, ?_⟩
              · rw [show n - (gk - 1) = k + 1 from by omega]; simp
              · rw [show n - (gk - 1) = k + 1 from by omega]; exact HE.out
        · rw [if_neg (by intro h; exact h1 h.1)] at he
          have hb2 : (T.value x == 1) = false := by simpa using h1
          have HE : Hid (lockedF T id c = lockedF T id (c.drop (k + 1))) := he
          clear he h1
          go_wp2_with (first | (go_at_call 59; refine (value_any HT.out _).mono ?_; rintro e w' ⟨rfl, hw⟩; subst hw))
          go_roundg (gk - 1)
          case measure => omega
          case rel =>
            have hk := HK.out
            refine ⟨rfl, by omega, ?_, ?_⟩
            · rw [show n - (gk - 1) = k + 1 from by omega]; simp
            · rw [show n - (gk - 1) = k + 1 from by omega]; exact HE.out
      · have hg0 : gk = 0 := by omega
        subst hg0
        have HE : Hid (lockedF T id c = false) := by show _ = _; rw [he, List.drop_of_length_le (by have := HN.out.2; omega)]; rfl
        clear he hlt hg
        have hu := HR.out.used
        have hfs := HR.out.fresh
        have hwk := HR.out.weak
        rw [HO.out.used] at hu
        rw [HO.out.fresh] at hfs
        rw [HO.out.weak] at hwk
        have hbu := andNot64 HO.out.usedlt (pow64 hid64)
        have hbf := andNot64 HO.out.freshlt (pow64 hid64)
        have hbw := andNot64 HO.out.weaklt (pow64 hid64)
        have hor := or64 HO.out.freshlt HO.out.weaklt
        have hand := and64 (Nat.or_lt_two_pow HO.out.freshlt HO.out.weaklt) (pow64 hid64)
        rw [and_pow] at hand
        change bits .andNot .u64 (W.used : Nat) (pw id : Nat) = ((clrB W.used id : Nat) : Int) at hbu
        change bits .andNot .u64 (W.fresh : Nat) (pw id : Nat) = ((clrB W.fresh id : Nat) : Int) at hbf
        change bits .andNot .u64 (W.weak : Nat) (pw id : Nat) = ((clrB W.weak id : Nat) : Int) at hbw
        change bits .and .u64 ((W.fresh ||| W.weak : Nat) : Int) (pw id : Nat) = _ at hand
        have hdrop := HO.out.drop id hid
        obtain ⟨fw, hfw⟩ : ∃ fw, W.fresh ||| W.weak = fw := ⟨_, rfl⟩
        rw [hfw] at hor hand
        by_cases hb : fw.testBit id = true
        · rw [if_pos hb] at hand
          change _ = ((pw id : Nat) : Int) at hand
          have hnz : (((pw id : Nat) : Int) == 0) = false := by
            have : 0 < pw id := Nat.two_pow_pos id
            simp; omega
          have hfr := HR.out.froz
          have hd1 := HR.out.size id hid
          have hDR : Hid (W.drop id = { W with used := clrB W.used id, fresh := clrB W.fresh id, weak := clrB W.weak id, cl := upd W.cl id [] }) := by
            show _ = _; unfold WatchS.drop; simp only [hfw, if_pos hb]
          have HDP : Hid (WatchOf { R with used := clrB R.used id, fresh := clrB R.fresh id, weak := clrB R.weak id, size := upd R.size id 0 } tb { W with used := clrB W.used id, fresh := clrB W.fresh id, weak := clrB W.weak id, cl := upd W.cl id [] }) := hdrop
          have HFW : Hid (fw.testBit id = true) := hb
          clear hdrop hb hfw
          go_wp2_with (go_at_call 111; refine (bit_any _ hid64 _).mono ?_; rintro e w' ⟨rfl, rfl⟩)
          go_quiet (fail)
          go_wp2_with fail
          refine hK.out _ _ ⟨?_, ?_, ?_⟩
          · rw [HE.out]; rfl
          · rw [HE.out]
            show WatAt _ b tb (W.drop id)
            rw [hDR.out]
            rw [HO.out.used, HO.out.fresh, HO.out.weak] at HDP
            exact ⟨_, (((HR.out.drewN.set_used (clrB W.used id)).set_fresh (clrB W.fresh id)).set_weak (clrB W.weak id)).set_size id hid 0, HDP.out⟩
          · repeat (first | with_reducible exact Fr.refl _ _ | with_reducible refine Fr.drewN ?_ | with_reducible refine Fr.set ?_ (by simp) _)
        · have hb2 : fw.testBit id = false := by simpa using hb
          rw [if_neg hb] at hand
          have hl2 := HS.out (by rw [hfw]; exact hb2) HUS.out
          have hunl := fun wx (hx : WatAt wx b tb W) => unlink_any hx id hid hl2
          have hDR : Hid (W.drop id = { (W.unlink id) with used := clrB W.used id, fresh := clrB W.fresh id, weak := clrB W.weak id, cl := upd W.cl id [] }) := by
            show _ = _; unfold WatchS.drop; simp only [hfw, if_neg hb]; rfl
          have HFW : Hid (fw.testBit id = false) := hb2
          clear hdrop hb hb2 hfw hl2
          go_wp2_with (go_at_call 111; refine (bit_any _ hid64 _).mono ?_; rintro e w' ⟨rfl, rfl⟩)
          go_quiet (fail)
          go_wp2_with fail
          refine (hunl _ (WatAt.drewN ⟨R, HR.out, HO.out⟩)).mono ?_
          rintro e w1 ⟨rfl, ⟨R1, hR1, ho1⟩, hf1⟩
          have hu1 := hR1.used
          have hfs1 := hR1.fresh
          have hwk1 := hR1.weak
          rw [show R1.used = W.used from ho1.used] at hu1
          rw [show R1.fresh = W.fresh from ho1.fresh] at hfs1
          rw [show R1.weak = W.weak from ho1.weak] at hwk1
          have hfr := hR1.froz
          have hd1 := hR1.size id hid
          have HDP := ho1.drop id hid
          rw [show R1.used = W.used from ho1.used, show R1.fresh = W.fresh from ho1.fresh, show R1.weak = W.weak from ho1.weak] at HDP
          have HD2 : Hid _ := HDP
          have HR1 : Hid (WatchAt w1 b R1) := hR1
          clear HDP ho1 hR1 hu hfs hwk
          go_wp2_with fail
          refine hK.out _ _ ⟨?_, ?_, ?_⟩
          · rw [HE.out]; rfl
          · rw [HE.out]
            show WatAt _ b tb (W.drop id)
            rw [hDR.out]
            exact ⟨_, (((HR1.out.set_used (clrB W.used id)).set_fresh (clrB W.fresh id)).set_weak (clrB W.weak id)).set_size id hid 0, HD2.out⟩
          · have hff := ((Fr.refl [b] _).drewN (n := nq)).trans hf1
            repeat (first | with_reducible exact hff | with_reducible refine Fr.drewN ?_ | with_reducible refine Fr.set ?_ (by simp) _)
  · have hlv2 : W.live (id : Int) = false := by simpa using hlv
    rw [hlv2] at hlive
    have hq : Hid (W.remove T id = (13, W)) := by show _ = _; unfold WatchS.remove; rw [if_neg hlv]
    have HL : Hid (Calls Tryz.prog 97 #[.pointer (some ⟨b, 0, none⟩), .int .i64 (id : Int)] w fun e w' => e = .returned (.bool false) ∧ w' = w) := hlive
    have HO : Hid (WatchOf R tb W) := ho
    have HR : Hid (WatchAt w b R) := hR
    clear hlive ho hR hlv hlv2 hc hn hs ht
    rw [hq.out]
    refine calls_via fun K hK => ?_
    go_enter Tryz.func127, Tryz.ntmps127
    go_wp2_with fail
    refine HL.out.mono ?_
    rintro e w' ⟨rfl, rfl⟩
    go_wp2_with fail
    exact hK.out _ _ ⟨rfl, ⟨R, HR.out, HO.out⟩, Fr.refl _ _⟩
end Go.Proofs.Qxb6500354aGreat
