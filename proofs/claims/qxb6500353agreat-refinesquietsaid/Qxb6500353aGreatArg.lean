/- The container's frame read, walked. -/
import Derived.Test.Qxb6500353aGreatArf
namespace Go.Proofs.Qxb6500353aGreat
open Go.RowKit
set_option linter.unusedVariables false
set_option linter.unusedSimpArgs false

/-- The table holds the rows. -/
def Tb (R : ArR) (rs : List RowP) : Prop := ∀ j r, rs[j]? = some r → ∀ i, i < 5 → R.tab (j * 5 + i) = .int .i64 ((slotN r).getD i 0 : Nat)
theorem rowsR_len (raw : List Nat) (dir k : Nat) : (rowsR raw dir k).2.2.length ≤ k := by
  induction k with
  | zero => simp [rowsR]
  | succ k ih =>
    rw [rowsR]
    split
    · omega
    · split
      · simp
      · simp; omega
theorem rowsR_stop {raw : List Nat} {dir k n : Nat} (h : (rowsR raw dir k).1 ≠ 0) (hn : k ≤ n) : rowsR raw dir n = rowsR raw dir k := by
  induction n with
  | zero => rw [show k = 0 by omega]
  | succ n ih =>
    by_cases e : k = n + 1
    · rw [e]
    · have h1 := ih (by omega)
      rw [rowsR, h1, if_pos h]
theorem rowsR_succ (raw : List Nat) (dir k : Nat) : rowsR raw dir (k + 1) = if (rowsR raw dir k).1 ≠ 0 then rowsR raw dir k
    else if (spotF raw dir (dir + 2 * k)).1 ≠ 0 then ((spotF raw dir (dir + 2 * k)).1, (spotF raw dir (dir + 2 * k)).2, [])
    else (0, 0, (rowsR raw dir k).2.2 ++ [rowAt raw (dir + 2 * k)]) := rfl
theorem tab5 (f : Nat → Value) (k : Nat) (v0 v1 v2 v3 v4 : Value) :
    (∀ i, i < 5 → (upd (upd (upd (upd (upd f (k * 5) v0) (k * 5 + 1) v1) (k * 5 + 2) v2) (k * 5 + 3) v3) (k * 5 + 4) v4) (k * 5 + i) = [v0, v1, v2, v3, v4].getD i undef) ∧
    (∀ m, (m < k * 5 ∨ k * 5 + 5 ≤ m) → (upd (upd (upd (upd (upd f (k * 5) v0) (k * 5 + 1) v1) (k * 5 + 2) v2) (k * 5 + 3) v3) (k * 5 + 4) v4) m = f m) := by
  refine ⟨fun i hi => ?_, fun m hm => ?_⟩
  · have : i = 0 ∨ i = 1 ∨ i = 2 ∨ i = 3 ∨ i = 4 := by omega
    rcases this with rfl | rfl | rfl | rfl | rfl <;> simp [upd]
  · rw [upd_ne _ _ _ _ (by omega), upd_ne _ _ _ _ (by omega), upd_ne _ _ _ _ (by omega), upd_ne _ _ _ _ (by omega), upd_ne _ _ _ _ (by omega)]
set_option maxRecDepth 100000 in
set_option maxHeartbeats 8000000 in
theorem frameA_any {w : World} {X Z : Nat} {R : ArR} (h : ArM w X Z R) {s : ByteArray} (hs : s.size ≤ 1200) :
    Calls Tryz.prog 57 #[ptrV Z, .string s] w fun e w' => e = .returned (.tuple #[.int .i64 ((readA (bytesOf s)).2.2.length : Nat), .int .i64 ((readA (bytesOf s)).1 : Nat), .int .i64 ((readA (bytesOf s)).2.1 : Nat)]) ∧ (∃ R2, ArM w' X Z R2 ∧ ((readA (bytesOf s)).1 = 0 → Tb R2 (readA (bytesOf s)).2.2)) ∧ Fr (Rng X (Z + 5)) w w' := by
  have hrt := readA_tail (raw := bytesOf s) (by rw [bytesOf_len]; exact hs)
  have hok := tailF_ok (raw := bytesOf s)
  have htl := tailA_any (w := w) hs
  rw [bytesOf_len] at hok
  obtain ⟨raw, hraw⟩ : ∃ z, z = bytesOf s := ⟨_, rfl⟩
  rw [← hraw] at hrt hok htl ⊢
  obtain ⟨T, hT⟩ : ∃ z, z = tailF raw := ⟨_, rfl⟩
  rw [← hT] at hrt hok htl
  obtain ⟨cnt, dir, er, ps⟩ := T
  dsimp only at hrt hok htl
  have H := hid h
  have HTL := hid htl
  have HRAW := hid hraw
  have HSS := hid hs
  by_cases c1 : er = 0
  · rw [if_neg (fun q => q c1)] at hrt
    rw [hrt]
    have hk := hok c1
    subst c1
    have HK := hid hk
    have hcnt : (cnt : Int) ≤ 4 := by omega
    have hdir : (dir : Int) ≤ 1196 := by omega
    clear h hrt hok htl hraw hs hT hk
    refine calls_via fun K hK => ?_
    unfold ptrV
    go_enter Tryz.func57, Tryz.ntmps57
    go_wp2_with fail
    refine HTL.out.mono ?_
    rintro e w1 ⟨rfl, q, hq⟩
    have H1 := hid (H.out.fr (S := Nob) (w2 := w1) (by rw [hq]; exact Fr.of_drewN) (fun _ _ _ x => x))
    have F1 : Hid (Fr (Rng X (Z + 5)) w w1) := hid (by rw [hq]; exact Fr.of_drewN)
    clear hq
    rw [show ((0 : Nat) : Int) = 0 from rfl]
    go_wp2_with fail
    go_loopg [11] cnt (fun g i wr => ∃ (k : Nat) (Rk : ArR), i = .int .i64 (k : Nat) ∧ g + k = cnt ∧ ArM wr X Z Rk ∧ (rowsR raw dir k).1 = 0 ∧ Tb Rk (rowsR raw dir k).2.2 ∧ Fr (Rng X (Z + 5)) w wr)
    case atStart => exact ⟨0, R, rfl, by omega, H1.out, rfl, fun j r hj => by simp [rowsR] at hj, F1.out⟩
    case round =>
      obtain ⟨k, Rk, rfl, hg, hA, hr0, hTb, hF⟩ := hrel
      have HA := hid hA
      have HR0 := hid hr0
      have HTB := hid hTb
      have HF := hid hF
      have HG := hid hg
      by_cases hk : k < cnt
      · have hki : (k : Int) < cnt := by omega
        have hk4 : k < 4 := by have := HK.out.1; omega
        have hki4 : (k : Int) < 4 := by omega
        have hsp : ∀ w, Calls Tryz.prog 73 #[.string s, .int .i64 (dir : Nat), .int .i64 ((dir : Int) + 2 * (k : Int))] w _ := fun w => by
          have h9 := spot_any (w := w) HSS.out (dir := dir) (cell := dir + 2 * k) (by have := HK.out.2; omega) (by have := HK.out.2; omega)
          rw [Int.natCast_add, Int.natCast_mul] at h9; exact h9
        rw [← HRAW.out] at hsp
        have hsu := rowsR_succ raw dir k
        rw [if_neg (fun q => q hr0)] at hsu
        have hst := fun h => rowsR_stop (raw := raw) (dir := dir) (k := k + 1) (n := cnt) h (by omega)
        obtain ⟨S, hS⟩ : ∃ z, z = spotF raw dir (dir + 2 * k) := ⟨_, rfl⟩
        rw [← hS] at hsp hsu
        obtain ⟨se, spp⟩ := S
        dsimp only at hsp hsu
        have hlen : (rowsR raw dir k).2.2.length = k := (rowsR_ok raw dir (by rw [HRAW.out, bytesOf_len]; have := HK.out.2; omega) k hr0).2.1
        have HSP := hid hsp
        have HSU := hid hsu
        have HST := hid hst
        have HLEN := hid hlen
        clear hA hr0 hTb hF hg hk hsp hsu hst hS hlen
        go_wp2_with fail
        refine (HSP.out wr).mono ?_
        rintro e w4 ⟨v0, v1, v2, v3, v4, rfl, hv, f4⟩
        have h4 := HA.out.fr f4 (fun _ _ _ x => x)
        have hmk := Mk.start w4 w4.heap.size rfl [.int .i64 0, .int .i64 0, .int .i64 0, .int .i64 0, .int .i64 0] 121
        have f5 : Fr (UpN w4.heap.size) w4 (w4.alloc (Obj.cells #[.int .i64 0, .int .i64 0, .int .i64 0, .int .i64 0, .int .i64 0] 121)) := (Fr.refl _ _).alloc _
        obtain ⟨w5, hw5⟩ : ∃ z, w4.alloc (Obj.cells #[.int .i64 0, .int .i64 0, .int .i64 0, .int .i64 0, .int .i64 0] 121) = z := ⟨_, rfl⟩
        have hmk : Mk w5 w4.heap.size 5 (fun i => ([.int .i64 0, .int .i64 0, .int .i64 0, .int .i64 0, .int .i64 0] : List Value).getD i undef) := by rw [← hw5]; exact hmk
        rw [hw5] at f5
        have o0 : w5.cell? ⟨w4.heap.size, 0, none⟩ = some (.int .i64 0) := hmk.cells 0 (by decide)
        have o1 : w5.cell? ⟨w4.heap.size, 1, none⟩ = some (.int .i64 0) := hmk.cells 1 (by decide)
        have o2 : w5.cell? ⟨w4.heap.size, 2, none⟩ = some (.int .i64 0) := hmk.cells 2 (by decide)
        have o3 : w5.cell? ⟨w4.heap.size, 3, none⟩ = some (.int .i64 0) := hmk.cells 3 (by decide)
        have o4 : w5.cell? ⟨w4.heap.size, 4, none⟩ = some (.int .i64 0) := hmk.cells 4 (by decide)
        have oz : ∀ i, w5.frozen? ⟨w4.heap.size, i, none⟩ = false := hmk.fz
        have HMK := hid hmk
        have H4 := hid h4
        have HV := hid hv
        have HF4 := hid (HF.out.trans (f4.mono (fun _ x _ => x.elim)))
        have HF5 := hid f5
        have hz4 := h4.lt
        have HZ4 := hid hz4
        clear hmk h4 hv f4 f5
        by_cases c2 : se = 0
        · subst c2
          have hup : UpN w4.heap.size w4.heap.size := Nat.le_refl _
          rw [show ((0 : Nat) : Int) = 0 from rfl]
          clear hz4
          go_upto_region 10 with fail
          obtain ⟨w6, hw6⟩ : ∃ z, z = (((((w5.setCell ⟨w4.heap.size, 0, none⟩ (.int .i64 (v0 : Nat))).setCell ⟨w4.heap.size, 1, none⟩ (.int .i64 (v1 : Nat))).setCell ⟨w4.heap.size, 2, none⟩ (.int .i64 (v2 : Nat))).setCell ⟨w4.heap.size, 3, none⟩ (.int .i64 (v3 : Nat))).setCell ⟨w4.heap.size, 4, none⟩ (.int .i64 (v4 : Nat))) := ⟨_, rfl⟩
          rw [← hw6]
          have HM6 : Hid (Mk w6 w4.heap.size 5 _) := hid (by rw [hw6]; exact (((((HMK.out.set (i := 0) (by decide) (.int .i64 (v0 : Nat))).set (i := 1) (by decide) (.int .i64 (v1 : Nat))).set (i := 2) (by decide) (.int .i64 (v2 : Nat))).set (i := 3) (by decide) (.int .i64 (v3 : Nat))).set (i := 4) (by decide) (.int .i64 (v4 : Nat))))
          have hf6 : Fr (UpN w4.heap.size) w5 w6 := by rw [hw6]; exact ((((((((((Fr.refl (UpN w4.heap.size) w5).setS hup 0 (.int .i64 (v0 : Nat)))).setS hup 1 (.int .i64 (v1 : Nat)))).setS hup 2 (.int .i64 (v2 : Nat)))).setS hup 3 (.int .i64 (v3 : Nat)))).setS hup 4 (.int .i64 (v4 : Nat)))
          have h6 := H4.out.fr (HF5.out.trans hf6) (fun k a b q => by unfold UpN at q; have := HZ4.out; omega)
          have HF6 := hid (HF4.out.trans ((HF5.out.trans hf6).mono (fun x hx hl => by unfold UpN at hx; omega)))
          clear hw6 hf6 o0 o1 o2 o3 o4 oz hw5
          have d0 : w6.cell? ⟨w4.heap.size, 0, none⟩ = some (.int .i64 (v0 : Nat)) := HM6.out.cells 0 (by decide)
          have d1 : w6.cell? ⟨w4.heap.size, 1, none⟩ = some (.int .i64 (v1 : Nat)) := HM6.out.cells 1 (by decide)
          have d2 : w6.cell? ⟨w4.heap.size, 2, none⟩ = some (.int .i64 (v2 : Nat)) := HM6.out.cells 2 (by decide)
          have d3 : w6.cell? ⟨w4.heap.size, 3, none⟩ = some (.int .i64 (v3 : Nat)) := HM6.out.cells 3 (by decide)
          have d4 : w6.cell? ⟨w4.heap.size, 4, none⟩ = some (.int .i64 (v4 : Nat)) := HM6.out.cells 4 (by decide)
          have p1 := h6.ar.p_tab
          have tz : ∀ i, w6.frozen? ⟨Z + 3, i, none⟩ = false := h6.ar.a_tab.thaw
          have t0 := h6.ar.a_tab.cell (k * 5) (by omega)
          have t1 := h6.ar.a_tab.cell (k * 5 + 1) (by omega)
          have t2 := h6.ar.a_tab.cell (k * 5 + 2) (by omega)
          have t3 := h6.ar.a_tab.cell (k * 5 + 3) (by omega)
          have t4 := h6.ar.a_tab.cell (k * 5 + 4) (by omega)
          simp only [mkV] at t0 t1 t2 t3 t4
          obtain ⟨y0, hy0⟩ : ∃ z, z = Rk.tab (k * 5) := ⟨_, rfl⟩
          rw [← hy0] at t0
          obtain ⟨y1, hy1⟩ : ∃ z, z = Rk.tab (k * 5 + 1) := ⟨_, rfl⟩
          rw [← hy1] at t1
          obtain ⟨y2, hy2⟩ : ∃ z, z = Rk.tab (k * 5 + 2) := ⟨_, rfl⟩
          rw [← hy2] at t2
          obtain ⟨y3, hy3⟩ : ∃ z, z = Rk.tab (k * 5 + 3) := ⟨_, rfl⟩
          rw [← hy3] at t3
          obtain ⟨y4, hy4⟩ : ∃ z, z = Rk.tab (k * 5 + 4) := ⟨_, rfl⟩
          rw [← hy4] at t4
          have n1 : ¬ Z + 3 = w4.heap.size := by have := HZ4.out; omega
          have n2 : ¬ w4.heap.size = Z + 3 := by have := HZ4.out; omega
          have hz3 : Rng Z (Z + 5) (Z + 3) := ⟨by omega, by omega⟩
          have f7 : Fr (Rng Z (Z + 5)) w6 (((((w6.setCell ⟨Z + 3, k * 5, none⟩ (.int .i64 (v0 : Nat))).setCell ⟨Z + 3, k * 5 + 1, none⟩ (.int .i64 (v1 : Nat))).setCell ⟨Z + 3, k * 5 + 2, none⟩ (.int .i64 (v2 : Nat))).setCell ⟨Z + 3, k * 5 + 3, none⟩ (.int .i64 (v3 : Nat))).setCell ⟨Z + 3, k * 5 + 4, none⟩ (.int .i64 (v4 : Nat))).drew := Fr.drew ((((((Fr.refl (Rng Z (Z + 5)) w6).setS hz3 (k * 5) (.int .i64 (v0 : Nat))).setS hz3 (k * 5 + 1) (.int .i64 (v1 : Nat))).setS hz3 (k * 5 + 2) (.int .i64 (v2 : Nat))).setS hz3 (k * 5 + 3) (.int .i64 (v3 : Nat))).setS hz3 (k * 5 + 4) (.int .i64 (v4 : Nat)))
          have h7 := h6.arch ((((((h6.ar.set_tab (k * 5) (.int .i64 (v0 : Nat))).set_tab (k * 5 + 1) (.int .i64 (v1 : Nat))).set_tab (k * 5 + 2) (.int .i64 (v2 : Nat))).set_tab (k * 5 + 3) (.int .i64 (v3 : Nat))).set_tab (k * 5 + 4) (.int .i64 (v4 : Nat))).drew) ⟨rfl, rfl, rfl, fun h => h⟩ f7
          have H7 := hid h7
          have HF7 := hid (HF6.out.trans (rngZ (by have := h6.le; omega) f7))
          clear hy0 hy1 hy2 hy3 hy4 h6 f7 h7 hup hz3
          go_region
          go_wp2_with fail
          go_roundg (gk - 1)
          case measure => have := HG.out; omega
          case rel =>
            have hsu := HSU.out
            rw [if_neg (by simp)] at hsu
            have hv := HV.out (by first | rfl | trivial)
            have h5 := tab5 Rk.tab k (.int .i64 (v0 : Nat)) (.int .i64 (v1 : Nat)) (.int .i64 (v2 : Nat)) (.int .i64 (v3 : Nat)) (.int .i64 (v4 : Nat))
            refine ⟨k + 1, _, by simp, by have := HG.out; omega, H7.out, by rw [hsu], fun j r hj i hi => ?_, HF7.out⟩
            rw [hsu] at hj
            dsimp only at hj
            dsimp only
            by_cases e : j = k
            · subst e
              rw [List.getElem?_append_right (by rw [HLEN.out]; exact Nat.le_refl _), HLEN.out, Nat.sub_self] at hj
              simp only [List.getElem?_cons_zero, Option.some.injEq] at hj
              rw [h5.1 i hi, ← hj, ← hv]
              have : i = 0 ∨ i = 1 ∨ i = 2 ∨ i = 3 ∨ i = 4 := by omega
              rcases this with rfl | rfl | rfl | rfl | rfl <;> rfl
            · have hjk : j < k := by
                refine Nat.lt_of_not_le fun q => ?_
                rw [List.getElem?_eq_none (by rw [List.length_append, HLEN.out]; simp; omega)] at hj
                simp at hj
              rw [List.getElem?_append_left (by rw [HLEN.out]; exact hjk)] at hj
              rw [h5.2 (j * 5 + i) (by omega)]
              exact HTB.out j r hj i hi
        · have c2i : ((se : Int) == 0) = false := beq_eq_false_iff_ne.2 (fun q => c2 (Int.ofNat.inj q))
          have c2j : ((se : Int) != 0) = true := by rw [bne, c2i]; rfl
          have hsu := HSU.out
          rw [if_pos c2] at hsu
          have hst := HST.out (by rw [hsu]; exact c2)
          rw [hst, hsu] at hK
          have H5 := hid (H4.out.fr HF5.out (fun k a b q => by unfold UpN at q; have := HZ4.out; omega))
          have hmk2 := HMK.out
          have hup : UpN w4.heap.size w4.heap.size := Nat.le_refl _
          have F9 : Hid (∀ w9, Fr (UpN w4.heap.size) w5 w9 → ArM w9 X Z Rk ∧ Fr (Rng X (Z + 5)) w w9) := hid (fun w9 h9 => ⟨H4.out.fr (HF5.out.trans h9) (fun k a b q => by unfold UpN at q; have := HZ4.out; omega), HF4.out.trans ((HF5.out.trans h9).mono (fun x hx hl => by unfold UpN at hx; omega))⟩)
          have HC2 := hid c2
          clear c2 hsu hst hmk2 hz4
          go_wp2_with fail
          try go_ret3
          obtain ⟨a1, a2⟩ := F9.out _ (((((((((((Fr.refl (UpN w4.heap.size) w5).setS hup 0 (.int .i64 (v0 : Nat)))).setS hup 1 (.int .i64 (v1 : Nat)))).setS hup 2 (.int .i64 (v2 : Nat)))).setS hup 3 (.int .i64 (v3 : Nat)))).setS hup 4 (.int .i64 (v4 : Nat))))
          exact hK.out _ _ ⟨rfl, ⟨_, a1, fun q => absurd q HC2.out⟩, a2⟩
      · have hki : ¬ (k : Int) < cnt := by omega
        have hkc : k = cnt := by omega
        subst hkc
        have hr := rowsR_ok raw dir (by rw [HRAW.out, bytesOf_len]; have := HK.out.2; omega) k hr0
        rw [hr0, hr.1, hr.2.1] at hK
        clear hA hr0 hTb hF hg hk hr
        go_wp2_with fail
        try go_ret3
        exact hK.out _ _ ⟨rfl, ⟨_, HA.out, fun _ => HTB.out⟩, HF.out⟩
  · have c1i : ((er : Int) == 0) = false := beq_eq_false_iff_ne.2 (fun q => c1 (Int.ofNat.inj q))
    have c1j : ((er : Int) != 0) = true := by rw [bne, c1i]; rfl
    rw [if_pos c1] at hrt
    rw [hrt]
    have HC1 := hid c1
    clear h hrt hok htl hraw hs hT c1
    refine calls_via fun K hK => ?_
    unfold ptrV
    go_enter Tryz.func57, Tryz.ntmps57
    go_wp2_with fail
    refine HTL.out.mono ?_
    rintro e w1 ⟨rfl, q, hq⟩
    have H1 := hid (H.out.fr (S := Nob) (w2 := w1) (by rw [hq]; exact Fr.of_drewN) (fun _ _ _ x => x))
    have F1 : Hid (Fr (Rng X (Z + 5)) w w1) := hid (by rw [hq]; exact Fr.of_drewN)
    clear hq
    go_wp2_with fail
    try go_ret3
    exact hK.out _ _ ⟨rfl, ⟨_, H1.out, fun q => absurd q HC1.out⟩, F1.out⟩
end Go.Proofs.Qxb6500353aGreat
