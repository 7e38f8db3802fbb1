/- THE WALKS over watch: lists of ints; link, unlink, room, Add. -/
import Derived.Test.Qxb6500354aGreatWat
import Derived.Test.Qxb6500354aGreatSl
namespace Go.Proofs.Qxb6500354aGreat
open Go.RowKit
set_option linter.unusedVariables false
set_option linter.unusedSimpArgs false

theorem code_inj {l m : Int} (h : code l = code m) : l.natAbs = m.natAbs := by
  unfold code at h; split at h <;> split at h <;> omega
theorem getD_mem {c : List Int} {i : Nat} (h : i < c.length) : c.getD i 0 ∈ c := by
  rw [List.getD_eq_getElem?_getD, List.getElem?_eq_getElem h]; simp
theorem dist_ne {c : List Int} (hd : (c.map Int.natAbs).Nodup) {i j : Nat} (hi : i < j) (hj : j < c.length) : (c.getD i 0).natAbs ≠ (c.getD j 0).natAbs := by
  have := (List.pairwise_iff_getElem.1 hd) i j (by simp; omega) (by simp; omega) hi
  simp only [List.getElem_map] at this
  rw [List.getD_eq_getElem?_getD, List.getElem?_eq_getElem (by omega), List.getD_eq_getElem?_getD, List.getElem?_eq_getElem hj]
  simpa using this

theorem WatchOf.setWl {R : WatchR} {tb : Nat} {W : WatchS} (h : WatchOf R tb W) (c x : Nat) (hx : x < 2 ^ 64) : WatchOf { R with list := upd R.list c x } tb { W with wl := upd W.wl c x } := by
  refine ⟨h.t, h.len, h.gd, h.dist, h.size, h.lits, h.used, h.fresh, h.weak, ?_, h.usedlt, h.freshlt, h.weaklt, ?_⟩
  · intro d hd
    by_cases e : d = c
    · subst e; exact (upd_self _ _ _).trans (upd_self _ _ _).symm
    · exact (upd_ne _ _ _ _ e).trans ((h.list d hd).trans (upd_ne _ _ _ _ e).symm)
  · intro d hd
    by_cases e : d = c
    · subst e; show upd _ _ _ _ < _; rw [upd_self]; exact hx
    · show upd _ _ _ _ < _; rw [upd_ne _ _ _ _ e]; exact h.listlt d hd

theorem link_any {w : World} {b tb : Nat} {W : WatchS} (h : WatAt w b tb W) (id : Nat) (hid : id < 52) (h2 : 2 ≤ (W.cl id).length) :
    Calls Tryz.prog 138 #[.pointer (some ⟨b, 0, none⟩), .int .i64 id] w fun e w' => e = .returned (.tuple #[]) ∧ WatAt w' b tb (W.link id) ∧ Fr [b] w w' := by
  obtain ⟨R, hR, ho⟩ := h
  have hl0 := hR.lits (id * 12) (by omega)
  have hl1 := hR.lits (id * 12 + 1) (by omega)
  have e0 := ho.lits id hid 0 (by omega)
  have e1 := ho.lits id hid 1 (by omega)
  simp only [Nat.add_zero] at e0
  rw [e0] at hl0
  rw [e1] at hl1
  have g0 := ho.gd id hid _ (getD_mem (i := 0) (by omega))
  have g1 := ho.gd id hid _ (getD_mem (i := 1) (by omega))
  have hne := dist_ne (ho.dist id hid) (i := 0) (j := 1) (by omega) (by omega)
  unfold WatchS.link
  generalize (W.cl id).getD 0 0 = l0 at *
  generalize (W.cl id).getD 1 0 = l1 at *
  have hcne : code l0 ≠ code l1 := fun e => hne (code_inj e)
  have hc0 := code_lt g0
  have hc1 := code_lt g1
  have hx0 := hR.list (code l0) hc0
  have hx1 := hR.list (code l1) hc1
  rw [ho.list _ hc0] at hx0
  rw [ho.list _ hc1] at hx1
  have b0 := or64 (ho.listlt _ hc0) (pow64 (show id < 64 by omega))
  have b1 := or64 (ho.listlt _ hc1) (pow64 (show id < 64 by omega))
  change bits .or .u64 (W.wl (code l0)) (pw id : Nat) = ((setB (W.wl (code l0)) id : Nat) : Int) at b0
  change bits .or .u64 (W.wl (code l1)) (pw id : Nat) = ((setB (W.wl (code l1)) id : Nat) : Int) at b1
  have hfin : WatchOf _ tb { W with wl := _ } := (ho.setWl (code l0) (setB (W.wl (code l0)) id) (setB_lt (ho.listlt _ hc0) (by omega))).setWl (code l1) (setB (W.wl (code l1)) id) (setB_lt (ho.listlt _ hc1) (by omega))
  have hu1 : upd W.wl (code l0) (setB (W.wl (code l0)) id) (code l1) = W.wl (code l1) := upd_ne _ _ _ _ (Ne.symm hcne)
  have hfr := hR.froz
  have HR : Hid (WatchAt w b R) := hR
  have hid64 : id < 64 := by omega
  have hi0 : ((code l0 : Nat) : Int) < 26 := by omega
  have hi1 : ((code l1 : Nat) : Int) < 26 := by omega
  have hii : (id : Int) * 12 + 1 < 624 := by omega
  have hij : (id : Int) * 12 < 624 := by omega
  have G0 : Hid (good l0 = true) := g0
  have G1 : Hid (good l1 = true) := g1
  have HU : Hid (upd W.wl (code l0) (setB (W.wl (code l0)) id) (code l1) = W.wl (code l1)) := hu1
  clear hR ho g0 g1 e0 e1 hne hu1
  refine calls_via fun K hK => ?_
  go_enter Tryz.func138, Tryz.ntmps138
  go_wp2_with (go_at_call 111; refine (bit_any _ hid64 _).mono ?_; rintro e w' ⟨rfl, rfl⟩)
  refine (code_any _ G0.out _).mono ?_
  rintro e w' ⟨rfl, rfl⟩
  go_wp2_with fail
  go_region
  go_wp2_with fail
  refine (code_any _ G1.out _).mono ?_
  rintro e w' ⟨rfl, rfl⟩
  go_wp2_with fail
  go_region
  go_wp2_with fail
  try go_end0
  have hR2 := (HR.out.set_list (code l0) hc0 (setB (W.wl (code l0)) id)).set_list (code l1) hc1 (setB (W.wl (code l1)) id)
  refine hK.out _ _ ⟨rfl, ⟨_, hR2.drew.drew, ?_⟩, ?_⟩
  · rw [HU.out]; exact hfin
  · repeat (first | with_reducible exact Fr.refl _ _ | with_reducible refine Fr.drew ?_ | with_reducible refine Fr.set ?_ (by simp) _)

theorem unlink_any {w : World} {b tb : Nat} {W : WatchS} (h : WatAt w b tb W) (id : Nat) (hid : id < 52) (h2 : 2 ≤ (W.cl id).length) :
    Calls Tryz.prog 148 #[.pointer (some ⟨b, 0, none⟩), .int .i64 id] w fun e w' => e = .returned (.tuple #[]) ∧ WatAt w' b tb (W.unlink id) ∧ Fr [b] w w' := by
  obtain ⟨R, hR, ho⟩ := h
  have hl0 := hR.lits (id * 12) (by omega)
  have hl1 := hR.lits (id * 12 + 1) (by omega)
  have e0 := ho.lits id hid 0 (by omega)
  have e1 := ho.lits id hid 1 (by omega)
  simp only [Nat.add_zero] at e0
  rw [e0] at hl0
  rw [e1] at hl1
  have g0 := ho.gd id hid _ (getD_mem (i := 0) (by omega))
  have g1 := ho.gd id hid _ (getD_mem (i := 1) (by omega))
  have hne := dist_ne (ho.dist id hid) (i := 0) (j := 1) (by omega) (by omega)
  unfold WatchS.unlink
  generalize (W.cl id).getD 0 0 = l0 at *
  generalize (W.cl id).getD 1 0 = l1 at *
  have hcne : code l0 ≠ code l1 := fun e => hne (code_inj e)
  have hc0 := code_lt g0
  have hc1 := code_lt g1
  have hx0 := hR.list (code l0) hc0
  have hx1 := hR.list (code l1) hc1
  rw [ho.list _ hc0] at hx0
  rw [ho.list _ hc1] at hx1
  have b0 := andNot64 (ho.listlt _ hc0) (pow64 (show id < 64 by omega))
  have b1 := andNot64 (ho.listlt _ hc1) (pow64 (show id < 64 by omega))
  change bits .andNot .u64 (W.wl (code l0)) (pw id : Nat) = ((clrB (W.wl (code l0)) id : Nat) : Int) at b0
  change bits .andNot .u64 (W.wl (code l1)) (pw id : Nat) = ((clrB (W.wl (code l1)) id : Nat) : Int) at b1
  have hfin : WatchOf _ tb { W with wl := _ } := (ho.setWl (code l0) (clrB (W.wl (code l0)) id) (clrB_lt (ho.listlt _ hc0))).setWl (code l1) (clrB (W.wl (code l1)) id) (clrB_lt (ho.listlt _ hc1))
  have hu1 : upd W.wl (code l0) (clrB (W.wl (code l0)) id) (code l1) = W.wl (code l1) := upd_ne _ _ _ _ (Ne.symm hcne)
  have hfr := hR.froz
  have HR : Hid (WatchAt w b R) := hR
  have hid64 : id < 64 := by omega
  have hi0 : ((code l0 : Nat) : Int) < 26 := by omega
  have hi1 : ((code l1 : Nat) : Int) < 26 := by omega
  have hii : (id : Int) * 12 + 1 < 624 := by omega
  have hij : (id : Int) * 12 < 624 := by omega
  have G0 : Hid (good l0 = true) := g0
  have G1 : Hid (good l1 = true) := g1
  have HU : Hid (upd W.wl (code l0) (clrB (W.wl (code l0)) id) (code l1) = W.wl (code l1)) := hu1
  clear hR ho g0 g1 e0 e1 hne hu1
  refine calls_via fun K hK => ?_
  go_enter Tryz.func148, Tryz.ntmps148
  go_wp2_with (go_at_call 111; refine (bit_any _ hid64 _).mono ?_; rintro e w' ⟨rfl, rfl⟩)
  refine (code_any _ G0.out _).mono ?_
  rintro e w' ⟨rfl, rfl⟩
  go_wp2_with fail
  go_region
  go_wp2_with fail
  refine (code_any _ G1.out _).mono ?_
  rintro e w' ⟨rfl, rfl⟩
  go_wp2_with fail
  go_region
  go_wp2_with fail
  try go_end0
  have hR2 := (HR.out.set_list (code l0) hc0 (clrB (W.wl (code l0)) id)).set_list (code l1) hc1 (clrB (W.wl (code l1)) id)
  refine hK.out _ _ ⟨rfl, ⟨_, hR2.drew.drew, ?_⟩, ?_⟩
  · rw [HU.out]; exact hfin
  · repeat (first | with_reducible exact Fr.refl _ _ | with_reducible refine Fr.drew ?_ | with_reducible refine Fr.set ?_ (by simp) _)

theorem roomF_some {u : Nat} : ∀ {n lo : Nat} {id : Nat}, roomF u lo n = some id → lo ≤ id ∧ id < lo + n ∧ u.testBit id = false := by
  intro n
  induction n with
  | zero => intro lo id h; simp [roomF] at h
  | succ n ih =>
    intro lo id h
    unfold roomF at h
    split at h
    · have := ih h; exact ⟨by omega, by omega, this.2.2⟩
    · simp at h; subst h; rename_i h; exact ⟨by omega, by omega, by simpa using h⟩

def optI (o : Option Nat) : Int := match o with | none => -1 | some i => i
theorem room_any {w : World} {b tb : Nat} {W : WatchS} (h : WatAt w b tb W) (learnt : Bool) :
    Calls Tryz.prog 110 #[.pointer (some ⟨b, 0, none⟩), .bool learnt] w fun e w' => e = .returned (.int .i64 (optI (W.room learnt))) ∧ w' = w := by
  obtain ⟨R, hR, ho⟩ := h
  have hu := hR.used
  rw [ho.used] at hu
  have hlt := ho.usedlt
  obtain ⟨u, hue⟩ : ∃ u, W.used = u := ⟨_, rfl⟩
  rw [hue] at hu hlt
  have hgen : ∀ lo n, roomF u lo n = roomF W.used lo n := by rw [hue]; intros; rfl
  clear hR ho
  cases learnt with
  | true =>
    have hq : Hid (W.room true = roomF u 40 12) := by show _ = _; unfold WatchS.room; simp [hgen]
    clear hgen hue
    refine calls_via fun K hK => ?_
    go_enter Tryz.func110, Tryz.ntmps110
    go_wp2_with fail
    go_loopg [7] 12 (fun g c wr => wr = w ∧ g ≤ 12 ∧ c = .int .i64 ((52 - g : Nat) : Int) ∧ roomF u 40 12 = roomF u (52 - g) g)
    case atStart => exact ⟨rfl, by omega, rfl, rfl⟩
    case round =>
      obtain ⟨rfl, hg, rfl, he⟩ := hrel
      by_cases hlt2 : 0 < gk
      · obtain ⟨m, hm⟩ : ∃ m, 52 - gk = m := ⟨_, rfl⟩
        have hm26 : m < 52 := by omega
        have hm64 : m < 64 := by omega
        have hm40 : 40 ≤ m := by omega
        rw [hm] at he ⊢
        rw [show gk = (gk - 1) + 1 from by omega] at he
        unfold roomF at he
        have HE := Hid.out (p := Hid (roomF u 40 12 = if u.testBit m then roomF u (m + 1) (gk - 1) else some m)) he
        have HM : Hid (52 - gk = m) := hm
        clear he hm
        by_cases hb : u.testBit m = true
        · go_wp2_with (go_at_call 99; refine (has_any _ _ hm64 hlt _).mono ?_; rintro e w' ⟨rfl, rfl⟩)
          go_roundg (gk - 1)
          case measure => omega
          case rel =>
            have hm := HM.out
            refine ⟨rfl, by omega, ?_, ?_⟩
            · rw [show 52 - (gk - 1) = m + 1 from by omega]; simp
            · have := HE; unfold Hid at this; rw [this, if_pos hb, show 52 - (gk - 1) = m + 1 from by omega]
        · have hb2 : u.testBit m = false := by simpa using hb
          clear hb
          go_wp2_with (go_at_call 99; refine (has_any _ _ hm64 hlt _).mono ?_; rintro e w' ⟨rfl, rfl⟩)
          refine hK.out _ _ ⟨ret_int ?_, rfl⟩
          rw [hq.out]; have := HE; unfold Hid at this; rw [this, hb2]; rfl
      · have hg0 : gk = 0 := by omega
        subst hg0
        have HE : Hid (roomF u 40 12 = none) := he
        clear he hlt2 hg
        go_wp2_with fail
        refine hK.out _ _ ⟨ret_int ?_, rfl⟩
        rw [hq.out, HE.out]; rfl
  | false =>
    have hq : Hid (W.room false = roomF u 0 40) := by show _ = _; unfold WatchS.room; simp [hgen]
    clear hgen hue
    refine calls_via fun K hK => ?_
    go_enter Tryz.func110, Tryz.ntmps110
    go_wp2_with fail
    go_loopg [7] 40 (fun g c wr => wr = w ∧ g ≤ 40 ∧ c = .int .i64 ((40 - g : Nat) : Int) ∧ roomF u 0 40 = roomF u (40 - g) g)
    case atStart => exact ⟨rfl, by omega, rfl, rfl⟩
    case round =>
      obtain ⟨rfl, hg, rfl, he⟩ := hrel
      by_cases hlt2 : 0 < gk
      · obtain ⟨m, hm⟩ : ∃ m, 40 - gk = m := ⟨_, rfl⟩
        have hm26 : m < 40 := by omega
        have hm64 : m < 64 := by omega
        rw [hm] at he ⊢
        rw [show gk = (gk - 1) + 1 from by omega] at he
        unfold roomF at he
        have HE := Hid.out (p := Hid (roomF u 0 40 = if u.testBit m then roomF u (m + 1) (gk - 1) else some m)) he
        have HM : Hid (40 - gk = m) := hm
        clear he hm
        by_cases hb : u.testBit m = true
        · go_wp2_with (go_at_call 99; refine (has_any _ _ hm64 hlt _).mono ?_; rintro e w' ⟨rfl, rfl⟩)
          go_roundg (gk - 1)
          case measure => omega
          case rel =>
            have hm := HM.out
            refine ⟨rfl, by omega, ?_, ?_⟩
            · rw [show 40 - (gk - 1) = m + 1 from by omega]; simp
            · have := HE; unfold Hid at this; rw [this, if_pos hb, show 40 - (gk - 1) = m + 1 from by omega]
        · have hb2 : u.testBit m = false := by simpa using hb
          clear hb
          go_wp2_with (go_at_call 99; refine (has_any _ _ hm64 hlt _).mono ?_; rintro e w' ⟨rfl, rfl⟩)
          refine hK.out _ _ ⟨ret_int ?_, rfl⟩
          rw [hq.out]; have := HE; unfold Hid at this; rw [this, hb2]; rfl
      · have hg0 : gk = 0 := by omega
        subst hg0
        have HE : Hid (roomF u 0 40 = none) := he
        clear he hlt2 hg
        go_wp2_with fail
        refine hK.out _ _ ⟨ret_int ?_, rfl⟩
        rw [hq.out, HE.out]; rfl
end Go.Proofs.Qxb6500354aGreat
