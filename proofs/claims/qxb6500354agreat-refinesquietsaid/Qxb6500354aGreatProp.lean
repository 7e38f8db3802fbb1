/- THE WALKS over watch: look. -/
import Derived.Test.Qxb6500354aGreatWat5
namespace Go.Proofs.Qxb6500354aGreat
open Go.RowKit
set_option linter.unusedVariables false
set_option linter.unusedSimpArgs false

theorem swapL_perm {c : List Int} {i k : Nat} (hi : i < c.length) (hk : k < c.length) : (swapL c i k).Perm c := by
  unfold swapL
  rw [List.getD_eq_getElem?_getD, List.getD_eq_getElem?_getD, List.getElem?_eq_getElem hi, List.getElem?_eq_getElem hk]
  exact List.set_set_perm hi hk
theorem swapL_len (c : List Int) (i k : Nat) : (swapL c i k).length = c.length := by simp [swapL]
theorem lookLoop_succ (T : TrailS) (n : Nat) (c : List Int) (i k : Nat) : lookLoop T (n + 1) c i k = if i < c.length ∧ k < 2 then (if T.value (c.getD i 0) = -1 then lookLoop T n c (i + 1) k else lookLoop T n (swapL c i k) (i + 1) (k + 1)) else (c, k) := rfl

/-- Slot id of the arena holds c; the rest is as it was. -/
structure SlotIs (L0 L : Nat → Int) (id : Nat) (c : List Int) : Prop where
  new : ∀ j, j < c.length → L (id * 12 + j) = c.getD j 0
  old : ∀ k, (k < id * 12 ∨ id * 12 + 12 ≤ k) → L k = L0 k
theorem SlotIs.set2 {L0 L : Nat → Int} {id : Nat} {c : List Int} (h : SlotIs L0 L id c) {i k : Nat} (hi : i < c.length) (hk : k < c.length) (hn : c.length ≤ 12) :
    SlotIs L0 (upd (upd L (id * 12 + i) (c.getD k 0)) (id * 12 + k) (c.getD i 0)) id (swapL c i k) := by
  refine ⟨?_, ?_⟩
  · intro j hj
    rw [swapL_len] at hj
    unfold swapL
    by_cases e1 : j = k
    · subst e1; rw [upd_self]; simp [List.getD_eq_getElem?_getD, hj]
    · rw [upd_ne _ _ _ _ (by omega)]
      have e3 : ((c.set i (c.getD k 0)).set k (c.getD i 0)).getD j 0 = (c.set i (c.getD k 0)).getD j 0 := by
        simp only [List.getD_eq_getElem?_getD]; rw [List.getElem?_set_ne (Ne.symm e1)]
      rw [e3]
      by_cases e2 : j = i
      · subst e2; rw [upd_self]; simp [List.getD_eq_getElem?_getD, hj]
      · rw [upd_ne _ _ _ _ (by omega), h.new j hj]
        simp only [List.getD_eq_getElem?_getD]; rw [List.getElem?_set_ne (Ne.symm e2)]
  · intro j hj
    rw [upd_ne _ _ _ _ (by omega), upd_ne _ _ _ _ (by omega), h.old j hj]

theorem WatchOf.setCl {R : WatchR} {tb : Nat} {W : WatchS} (h : WatchOf R tb W) {id : Nat} (hid : id < 52) {c : List Int} (hp : c.Perm (W.cl id)) {L : Nat → Int} (hL : SlotIs R.lits L id c) (x : Int) :
    WatchOf { R with lits := L, visits := x } tb { W with cl := upd W.cl id c } := by
  have hcl : ∀ j, upd W.cl id c j = if j = id then c else W.cl j := fun j => rfl
  refine ⟨h.t, ?_, ?_, ?_, ?_, ?_, h.used, h.fresh, h.weak, h.list, h.usedlt, h.freshlt, h.weaklt, h.listlt⟩
  · intro j hj; show List.length (upd W.cl id c j) ≤ _; rw [hcl]; split
    · rw [hp.length_eq]; exact h.len id hid
    · exact h.len j hj
  · intro j hj; show ∀ l ∈ upd W.cl id c j, _; rw [hcl]; split
    · intro l hl; exact h.gd id hid l (hp.mem_iff.1 hl)
    · exact h.gd j hj
  · intro j hj; show (List.map Int.natAbs (upd W.cl id c j)).Nodup; rw [hcl]; split
    · exact (hp.map _).nodup_iff.2 (h.dist id hid)
    · exact h.dist j hj
  · intro j hj; show R.size j = ((List.length (upd W.cl id c j) : Nat) : Int); rw [hcl]; split
    · rename_i e; subst e; rw [hp.length_eq]; exact h.size j hj
    · exact h.size j hj
  · intro j hj i hi
    change i < List.length (upd W.cl id c j) at hi
    show L _ = List.getD (upd W.cl id c j) _ _
    rw [hcl] at hi ⊢
    split
    · rename_i e; subst e; rw [if_pos rfl] at hi; exact hL.new i hi
    · rename_i e; rw [if_neg e] at hi
      have := h.len j hj
      rw [hL.old _ (by omega)]; exact h.lits j hj i hi

theorem WatchOf.setMasks {R : WatchR} {tb : Nat} {W : WatchS} (h : WatchOf R tb W) {f k : Nat} (hf : f < 2 ^ 64) (hk : k < 2 ^ 64) : WatchOf { R with fresh := f, weak := k } tb { W with fresh := f, weak := k } :=
  ⟨h.t, h.len, h.gd, h.dist, h.size, h.lits, h.used, rfl, rfl, h.list, h.usedlt, hf, hk, h.listlt⟩

set_option maxRecDepth 100000 in
set_option maxHeartbeats 2000000 in
theorem look_any {w : World} {b tb : Nat} {W : WatchS} {T : TrailS} (h : WatAt w b tb W) (ht : TrlAt w tb T) (hbt : tb ≠ b) (id : Nat) (hid : id < 52) :
    Calls Tryz.prog 112 #[.pointer (some ⟨b, 0, none⟩), .int .i64 id] w fun e w' => e = .returned (.int .i64 (lookF W T id).1) ∧ WatAt w' b tb (lookF W T id).2.1 ∧ TrlAt w' tb (lookF W T id).2.2 ∧ Fr [b, tb] w w' := by
  obtain ⟨R, hR, ho⟩ := h
  have hidi : (id : Int) < 52 := by omega
  have hid64 : id < 64 := by omega
  obtain ⟨c, hc⟩ : ∃ c, W.cl id = c := ⟨_, rfl⟩
  obtain ⟨n, hn⟩ : ∃ n, c.length = n := ⟨_, rfl⟩
  have hn12 : n ≤ 12 := by have := ho.len id hid; rw [hc, hn] at this; exact this
  have hsz := hR.size id hid
  rw [ho.size id hid, hc, hn] at hsz
  have hvis := hR.visits
  have hfr := hR.froz
  have hlt : ∀ j, j < n → R.lits (id * 12 + j) = c.getD j 0 := fun j hj => by rw [ho.lits id hid j (by rw [hc, hn]; exact hj), hc]
  have hgd : ∀ x ∈ c, good x = true := by have := ho.gd id hid; rw [hc] at this; exact this
  have HO : Hid (WatchOf R tb W) := ho
  have HR : Hid (WatchAt w b R) := hR
  have HN : Hid (W.cl id = c ∧ c.length = n) := ⟨hc, hn⟩
  have HT : Hid (TrlAt w tb T) := ht
  have HLT : Hid (∀ j, j < n → R.lits (id * 12 + j) = c.getD j 0) := hlt
  have HG : Hid (∀ x ∈ c, good x = true) := hgd
  have HBT : Hid (tb ≠ b) := hbt
  obtain ⟨tot, htot⟩ : ∃ tot, lookLoop T 13 c 0 0 = tot := ⟨_, rfl⟩
  have HTOT : Hid (lookLoop T 13 c 0 0 = tot) := htot
  obtain ⟨res, hres⟩ : ∃ res, lookF W T id = res := ⟨_, rfl⟩
  rw [hres]
  have HRES : Hid (lookF W T id = res) := hres
  clear ho hR hc hn ht hlt hgd hres hbt htot
  refine calls_via fun K hK => ?_
  go_enter Tryz.func112, Tryz.ntmps112
  go_wp2_with fail
  go_loopg [7, 8] 13 (fun g kk i wr => ∃ (L : Nat → Int) (c1 : List Int) (k : Nat) (x : Int), 1 ≤ g ∧ g ≤ 13 ∧ 13 - g ≤ n ∧ i = .int .i64 ((13 - g : Nat) : Int) ∧ kk = .int .i64 (k : Nat) ∧ k ≤ 13 - g ∧ k ≤ 2 ∧ c1.Perm c ∧ SlotIs R.lits L id c1 ∧
      tot = lookLoop T g c1 (13 - g) k ∧ WatchAt wr b { R with lits := L, visits := x } ∧ TrlAt wr tb T ∧ Fr [b] w wr)
  case atStart => exact ⟨R.lits, c, 0, _, by omega, by omega, by omega, rfl, rfl, by omega, by omega, List.Perm.refl _, ⟨fun j hj => HLT.out j (by have := HN.out.2; omega), fun _ _ => rfl⟩, HTOT.out.symm, HR.out.set_visits _, HT.out.other HBT.out _, (Fr.refl [b] w).set (by simp) _⟩
  case round =>
    obtain ⟨L, c1, k, x, hg1, hg, hgn, rfl, rfl, hki, hk2, hp, hL, he, hR, ht, hf⟩ := hrel
    obtain ⟨i, hi⟩ : ∃ i, 13 - gk = i := ⟨_, rfl⟩
    rw [hi] at hgn hki he ⊢
    rw [show gk = (gk - 1) + 1 from by omega, lookLoop_succ] at he
    have hc1n : c1.length = n := by rw [hp.length_eq]; exact HN.out.2
    rw [hc1n] at he
    have hbt := HBT.out
    have htt := hR.t
    rw [show R.t = .pointer (some ⟨tb, 0, none⟩) from HO.out.t] at htt
    by_cases hlt : i < n ∧ k < 2
    · obtain ⟨hin, hk2'⟩ := hlt
      rw [if_pos ⟨hin, hk2'⟩] at he
      have hli := hR.lits (id * 12 + i) (by omega)
      have hlk := hR.lits (id * 12 + k) (by omega)
      change wr.cell? _ = some (.int .i64 (L (id * 12 + i))) at hli
      change wr.cell? _ = some (.int .i64 (L (id * 12 + k))) at hlk
      rw [hL.new i (by omega)] at hli
      rw [hL.new k (by omega)] at hlk
      have hset := hL.set2 (show i < c1.length by omega) (show k < c1.length by omega) (by omega)
      have hsp := swapL_perm (show i < c1.length by omega) (show k < c1.length by omega)
      generalize c1.getD i 0 = xi at *
      generalize c1.getD k 0 = xk at *
      have hii : (i : Int) < n := by omega
      have hi1 : (id : Int) * 12 + i < 624 := by omega
      have hi2 : (id : Int) * 12 + k < 624 := by omega
      have hkk : (k : Int) < 2 := by omega
      have hfr := hR.froz
      have HR1 : Hid (WatchAt wr b { R with lits := L, visits := x }) := hR
      have HT1 : Hid (TrlAt wr tb T) := ht
      have HP : Hid (c1.Perm c) := hp
      have HL : Hid (SlotIs R.lits L id c1) := hL
      have HSET : Hid (SlotIs R.lits (upd (upd L (id * 12 + i) xk) (id * 12 + k) xi) id (swapL c1 i k) ∧ (swapL c1 i k).Perm c1) := ⟨hset, hsp⟩
      have HI : Hid (13 - gk = i ∧ k ≤ i ∧ c1.length = n) := ⟨hi, hki, hc1n⟩
      have hbt2 : ¬ (tb = b) := hbt
      by_cases hv : T.value xi = -1
      · rw [if_pos hv] at he
        have HE : Hid (tot = lookLoop T (gk - 1) c1 (i + 1) k) := he
        have HV : Hid (T.value xi = -1) := hv
        clear he hR ht hp hL hset hsp hi hki hc1n hbt hv
        go_wp2_with (go_at_call 59; refine (value_any HT1.out _).mono ?_; rintro e w' ⟨rfl, hw⟩; subst hw; rw [HV.out])
        go_roundg (gk - 1)
        case measure => omega
        case rel =>
          obtain ⟨hi, hki, hc1n⟩ := HI.out
          refine ⟨L, c1, k, x, by omega, by omega, by omega, ?_, rfl, by omega, by omega, HP.out, HL.out, ?_, HR1.out, HT1.out, hf⟩
          · rw [show 13 - (gk - 1) = i + 1 from by omega]; simp
          · rw [show 13 - (gk - 1) = i + 1 from by omega]; exact HE.out
      · rw [if_neg hv] at he
        have HE : Hid (tot = lookLoop T (gk - 1) (swapL c1 i k) (i + 1) (k + 1)) := he
        have hvb : (T.value xi != -1) = true := by rw [bne_iff_ne]; exact hv
        obtain ⟨z, hz⟩ : ∃ z, (wr.setCell ⟨b, 1 + (id * 12 + i), none⟩ (.int .i64 xk)).cell? ⟨b, 1 + (id * 12 + k), none⟩ = some z := ⟨_, (HR1.out.set_lits (id * 12 + i) (by omega) xk).lits (id * 12 + k) (by omega)⟩
        clear he hR ht hp hL hset hsp hi hki hc1n hbt hv
        go_wp2_with (first | (go_at_call 59; refine (value_any HT1.out _).mono ?_; rintro e w' ⟨rfl, hw⟩; subst hw) | go_region)
        go_roundg (gk - 1)
        case measure => omega
        case rel =>
          obtain ⟨hi, hki, hc1n⟩ := HI.out
          refine ⟨_, swapL c1 i k, k + 1, x, by omega, by omega, by omega, ?_, ?_, by omega, by omega, HSET.out.2.trans HP.out, HSET.out.1, ?_, ((HR1.out.set_lits (id * 12 + i) (by omega) xk).set_lits (id * 12 + k) (by omega) xi).drew, ((HT1.out.other HBT.out _).other HBT.out _).drew, ((hf.set (by simp) _).set (by simp) _).drew⟩
          · rw [show 13 - (gk - 1) = i + 1 from by omega]; simp
          · simp
          · rw [show 13 - (gk - 1) = i + 1 from by omega]; exact HE.out
    · rw [if_neg hlt] at he
      have hex : ¬ (i < n ∧ k < 2) := hlt
      have hwcl := HO.out.setCl hid (hp.trans (by rw [HN.out.1])) hL x
      have hfr := hR.froz
      have hfre := hR.fresh
      have hwea := hR.weak
      rw [show R.fresh = W.fresh from HO.out.fresh] at hfre
      rw [show R.weak = W.weak from HO.out.weak] at hwea
      have hbf := andNot64 HO.out.freshlt (pow64 hid64)
      have hbw := andNot64 HO.out.weaklt (pow64 hid64)
      have hbo := or64 HO.out.weaklt (pow64 hid64)
      change bits .andNot .u64 (W.fresh : Nat) (pw id : Nat) = ((clrB W.fresh id : Nat) : Int) at hbf
      change bits .andNot .u64 (W.weak : Nat) (pw id : Nat) = ((clrB W.weak id : Nat) : Int) at hbw
      change bits .or .u64 (W.weak : Nat) (pw id : Nat) = ((setB W.weak id : Nat) : Int) at hbo
      have hF := HRES.out
      unfold lookF at hF
      simp only [HN.out.1, HTOT.out, he] at hF
      by_cases hk : k = 2
      · subst hk
        rw [if_pos rfl] at hF
        have hwm := hwcl.setMasks (clrB_lt (i := id) HO.out.freshlt) (clrB_lt (i := id) HO.out.weaklt)
        have hlk := fun wx (hx : WatAt wx b tb _) => link_any (W := { W with cl := upd W.cl id c1, fresh := clrB W.fresh id, weak := clrB W.weak id }) hx id hid (by show 2 ≤ List.length (upd W.cl id c1 id); rw [upd_self]; omega)
        have HR1 : Hid (WatchAt wr b { R with lits := L, visits := x }) := hR
        have HT1 : Hid (TrlAt wr tb T) := ht
        have HWM : Hid _ := hwm
        have HF : Hid _ := hF
        have hi2 : ¬ ((i : Int) < n ∧ (2 : Int) < 2) := by omega
        clear hR ht hwm hF hwcl hp hL hlt hex he hki hc1n
        have hdec : decide ((2 : Int) < 2) = false := rfl
        go_wp2_with (go_at_call 111; refine (bit_any _ hid64 _).mono ?_; rintro e w' ⟨rfl, rfl⟩)
        all_goals
          refine (hlk _ ⟨_, (HR1.out.set_fresh _).set_weak _, HWM.out⟩).mono ?_
          rintro e w1 ⟨rfl, hw1, hf1⟩
          go_wp2_with fail
          refine hK.out _ _ ⟨?_, ?_, ?_, ?_⟩
          · rw [← HF.out]; rfl
          · rw [← HF.out]; exact hw1
          · rw [← HF.out]; exact (((HT1.out.other HBT.out _).other HBT.out _).fr hf1 (by simp [HBT.out]))
          · exact (((hf.set (by simp) _).set (by simp) _).trans hf1).mono (by simp)
      · rw [if_neg hk] at hF
        have hni : ¬ (i : Int) < n := by omega
        have hwm := hwcl.setMasks (clrB_lt (i := id) HO.out.freshlt) (setB_lt (i := id) HO.out.weaklt hid64)
        have HR1 : Hid (WatchAt wr b { R with lits := L, visits := x }) := hR
        have HT1 : Hid (TrlAt wr tb T) := ht
        have HWM : Hid _ := hwm
        have htt2 : ¬ (tb = b) := hbt
        by_cases hk0 : k = 0
        · subst hk0
          rw [if_pos rfl] at hF
          have HF : Hid _ := hF
          clear hR ht hwm hF hwcl hp hL hlt hex he hki hc1n hk
          go_wp2_with (go_at_call 111; refine (bit_any _ hid64 _).mono ?_; rintro e w' ⟨rfl, rfl⟩)
          refine hK.out _ _ ⟨?_, ?_, ?_, ?_⟩
          · rw [← HF.out]; rfl
          · rw [← HF.out]; exact ⟨_, (HR1.out.set_fresh _).set_weak _, HWM.out⟩
          · rw [← HF.out]; exact (HT1.out.other HBT.out _).other HBT.out _
          · exact ((hf.set (by simp) _).set (by simp) _).mono (by simp)
        · have hk1 : k = 1 := by omega
          subst hk1
          rw [if_neg (by omega)] at hF
          have hlo := hR.lits (id * 12 + 0) (by omega)
          change wr.cell? _ = some (.int .i64 (L (id * 12 + 0))) at hlo
          rw [hL.new 0 (by omega)] at hlo
          simp only [Nat.add_zero] at hlo
          have hgq := HG.out _ (hp.mem_iff.1 (getD_mem (c := c1) (i := 0) (by omega)))
          generalize c1.getD 0 0 = best at *
          unfold TrailS.assign at hF
          have hi0 : (id : Int) * 12 < 624 := by omega
          by_cases hv : T.value best = 0
          · rw [if_pos hv] at hF
            have HF : Hid _ := hF
            have HV : Hid (T.value best = 0) := hv
            have HGQ : Hid (good best = true) := hgq
            clear hR ht hwm hF hwcl hp hL hlt hex he hki hc1n hk hk0 hv hgq
            go_wp2_with (first | (go_at_call 111; refine (bit_any _ hid64 _).mono ?_; rintro e w' ⟨rfl, rfl⟩) | (go_at_call 59; refine (value_any ((HT1.out.other HBT.out _).other HBT.out _) _).mono ?_; rintro e w' ⟨rfl, hw⟩; subst hw; rw [HV.out]))
            refine (assign_any ((HT1.out.other HBT.out _).other HBT.out _) best id HGQ.out HV.out).mono ?_
            rintro e w1 ⟨⟨v1, rfl⟩, ht1, hf1⟩
            go_wp2_with fail
            refine hK.out _ _ ⟨?_, ?_, ?_, ?_⟩
            · rw [← HF.out]; rfl
            · rw [← HF.out]; exact WatAt.fr ⟨_, (HR1.out.set_fresh _).set_weak _, HWM.out⟩ hf1 (by simp [Ne.symm HBT.out])
            · rw [← HF.out]; exact ht1
            · exact (((hf.set (by simp) _).set (by simp) _).mono (by simp)).trans (hf1.mono (by simp))
          · rw [if_neg hv] at hF
            have HF : Hid _ := hF
            have hvb : (T.value best == 0) = false := by simpa using hv
            clear hR ht hwm hF hwcl hp hL hlt hex he hki hc1n hk hk0 hv hgq
            go_wp2_with (first | (go_at_call 111; refine (bit_any _ hid64 _).mono ?_; rintro e w' ⟨rfl, rfl⟩) | (go_at_call 59; refine (value_any ((HT1.out.other HBT.out _).other HBT.out _) _).mono ?_; rintro e w' ⟨rfl, hw⟩; subst hw))
            refine hK.out _ _ ⟨?_, ?_, ?_, ?_⟩
            · rw [← HF.out]; rfl
            · rw [← HF.out]; exact ⟨_, (HR1.out.set_fresh _).set_weak _, HWM.out⟩
            · rw [← HF.out]; exact (HT1.out.other HBT.out _).other HBT.out _
            · exact ((hf.set (by simp) _).set (by simp) _).mono (by simp)
end Go.Proofs.Qxb6500354aGreat
