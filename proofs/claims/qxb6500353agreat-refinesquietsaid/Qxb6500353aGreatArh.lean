/- The real archive: List, walked. -/
import Derived.Test.Qxb6500353aGreatArg
namespace Go.Proofs.Qxb6500353aGreat
open Go.RowKit
set_option linter.unusedVariables false
set_option linter.unusedSimpArgs false

theorem Tryz.info115 : (Tryz.prog.info? 115).map (fun i => (i.zero, i.size, i.bytes)) = some (some (.agg #[.string ⟨#[]⟩, .int .i64 0, .int .i64 0]), 3, 32) := by kernel_rfl
abbrev IB := ByteArray × Nat × Nat
def infV (l : List IB) (i : Nat) : Value := if i % 3 = 0 then .string (l.getD (i / 3) (⟨#[]⟩, 0, 0)).1 else if i % 3 = 1 then .int .i64 ((l.getD (i / 3) (⟨#[]⟩, 0, 0)).2.1 : Nat) else .int .i64 ((l.getD (i / 3) (⟨#[]⟩, 0, 0)).2.2 : Nat)
theorem infV_at {l : List IB} {k : Nat} {e : IB} (h : l[k]? = some e) : infV l (k * 3) = .string e.1 ∧ infV l (k * 3 + 1) = .int .i64 (e.2.1 : Nat) ∧ infV l (k * 3 + 2) = .int .i64 (e.2.2 : Nat) := by
  unfold infV
  rw [if_pos (by omega), if_neg (by omega), if_pos (by omega), if_neg (by omega), if_neg (by omega), show k * 3 / 3 = k by omega, show (k * 3 + 1) / 3 = k by omega, show (k * 3 + 2) / 3 = k by omega, List.getD_eq_getElem?_getD, h]
  exact ⟨rfl, rfl, rfl⟩
/-- A fresh list of n elements of sz cells, made behind the world w. -/
def NewL (w w2 : World) (E : TypeId) (sz n : Nat) (ad : Option Addr) (f : Nat → Value) : Prop := n = 0 ∨ ∃ g, w.heap.size ≤ g ∧ ad = some ⟨g, 0, none⟩ ∧ Arr E mkV w2 g (n * sz) f
def infB (s : ByteArray) (r : RowP) : IB := (s.extract (r.off + 1) r.head, r.size, r.to - r.head - 6)
def toI (e : IB) : Inf := ⟨bytesOf e.1, e.2.1, e.2.2⟩
theorem toI_infB (s : ByteArray) (r : RowP) : toI (infB s r) = infOf (bytesOf s) r := by
  unfold toI infB infOf nameOf slc
  dsimp only
  rw [bytesOf_sub]
/-- What List answers, as strings. -/
def lstB (s : ByteArray) : List IB := if (readA (bytesOf s)).1 ≠ 0 then [] else (readA (bytesOf s)).2.2.map (infB s)
theorem lstB_law (s : ByteArray) : (lstB s).map toI = (lstA (bytesOf s)).2.2 := by
  unfold lstB lstA
  by_cases c : (readA (bytesOf s)).1 ≠ 0
  · rw [if_pos c, if_pos c]; rfl
  · rw [if_neg c, if_neg c, List.map_map]
    exact List.map_congr_left fun r _ => toI_infB s r
set_option maxRecDepth 100000 in
set_option maxHeartbeats 8000000 in
theorem listA_any {w : World} {X Z : Nat} {R : ArR} (h : ArM w X Z R) {s : ByteArray} :
    Calls Tryz.prog 35 #[ptrV Z, .string s] w fun e w' => ∃ ad : Option Addr, e = .returned (.tuple #[.slice ad (lstB s).length (lstB s).length, .int .i64 ((lstA (bytesOf s)).1 : Nat), .int .i64 ((lstA (bytesOf s)).2.1 : Nat)]) ∧ NewL w w' 115 3 (lstB s).length ad (infV (lstB s)) ∧ (∃ R2, ArM w' X Z R2) ∧ Fr (Rng X (Z + 5)) w w' := by
  have H := hid h
  by_cases c0 : 1200 < s.size
  · have hra : readA (bytesOf s) = (1, 0, []) := by unfold readA; rw [if_pos (by rw [bytesOf_len]; exact c0)]
    have e1 : lstB s = [] := by unfold lstB; rw [hra, if_pos (by decide)]
    have e2 : lstA (bytesOf s) = (1, 0, []) := by unfold lstA; rw [hra, if_pos (by decide)]
    rw [e1, e2]
    have c0i : (1200 : Int) < s.size := by omega
    clear h c0 hra e1 e2
    refine calls_via fun K hK => ?_
    unfold ptrV
    go_enter Tryz.func35, Tryz.ntmps35
    go_wp2_with fail
    try go_ret3
    exact hK.out _ _ ⟨none, rfl, .inl rfl, ⟨_, H.out⟩, Fr.refl _ _⟩
  · have c0i : ¬ (1200 : Int) < s.size := by omega
    have hfr := frameA_any h (s := s) (by omega)
    have hok := readA_ok (bytesOf s)
    have e1 : lstB s = if (readA (bytesOf s)).1 ≠ 0 then [] else (readA (bytesOf s)).2.2.map (infB s) := rfl
    have e2 : lstA (bytesOf s) = if (readA (bytesOf s)).1 ≠ 0 then ((readA (bytesOf s)).1, (readA (bytesOf s)).2.1, []) else (0, 0, (readA (bytesOf s)).2.2.map (infOf (bytesOf s))) := rfl
    obtain ⟨T, hT⟩ : ∃ z, z = readA (bytesOf s) := ⟨_, rfl⟩
    rw [← hT] at hfr hok e1 e2
    obtain ⟨er, ps, rs⟩ := T
    dsimp only at hfr hok e1 e2
    unfold ptrV at hfr
    have HFR := hid hfr
    by_cases c1 : er = 0
    · subst c1
      rw [if_neg (by simp)] at e1 e2
      have hk := hok rfl
      rw [e2]
      have hln : (lstB s).length = rs.length := by rw [e1, List.length_map]
      obtain ⟨L, hL⟩ : ∃ z, z = lstB s := ⟨_, rfl⟩
      rw [← hL] at e1 hln ⊢
      obtain ⟨n, hn⟩ : ∃ z, z = rs.length := ⟨_, rfl⟩
      rw [← hn] at hln hk
      rw [hln]
      have HOK := hid hk
      have HE1 := hid e1
      have HN := hid hn
      have hni : (n : Int) ≤ 4 := by omega
      have HLN := hid hln
      rw [← hn] at HFR
      clear h hfr hok hT e1 e2 hk hL hn hln c0
      refine calls_via fun K hK => ?_
      unfold ptrV
      go_enter Tryz.func35, Tryz.ntmps35
      go_wp2_with fail
      refine HFR.out.mono ?_
      rintro e w1 ⟨rfl, ⟨R1, h1, htb⟩, f1⟩
      have H1 := hid h1
      have HTB := hid (htb (by first | rfl | trivial))
      have F1 := hid f1
      obtain ⟨M, hM⟩ : ∃ z, w1.heap.size = z := ⟨_, rfl⟩
      have HM := hid hM
      have hzM : Z + 4 < M := by rw [← hM]; exact h1.lt
      have HZM := hid hzM
      have HWM : Hid (w.heap.size ≤ M) := hid (by rw [← hM]; exact f1.size)
      clear h1 htb f1
      rw [show ((0 : Nat) : Int) = 0 from rfl]
      go_wp2_with (at_make; refine wp_mkg rfl _ _ 33 115 3 32 _ rfl Tryz.underlying33 Tryz.info115 rfl n n n n M HM.out rfl rfl rfl rfl (Nat.le_refl _) (by omega) (by omega) ?_; intro w2 hs2 ha2 hf2; have HA2 := hid ha2; have H2 := hid (H1.out.fr hf2 (fun _ _ _ x => x)); have F2 := hid (F1.out.trans (hf2.mono (fun _ x _ => x.elim))); clear ha2 hf2 hs2 hM)
      go_loopg [11] n (fun g i wr => ∃ (k : Nat) (f : Nat → Value), i = .int .i64 (k : Nat) ∧ g + k = n ∧ ArM wr X Z R1 ∧ Arr 115 mkV wr M (n * 3) f ∧ (∀ j, j < k * 3 → f j = infV L j) ∧ Fr (Rng X (Z + 5)) w wr)
      case atStart => exact ⟨0, _, rfl, by omega, H2.out, HA2.out, fun j hj => by omega, F2.out⟩
      case round =>
        obtain ⟨k, f, rfl, hg, hA, hB, hf, hF⟩ := hrel
        have HA := hid hA
        have HB := hid hB
        have HFF := hid hf
        have HF := hid hF
        have HG := hid hg
        by_cases hk : k < n
        · have hki : (k : Int) < n := by omega
          have hk4 : (k : Int) < 4 := by omega
          have hkl : k < rs.length := by rw [← HN.out]; exact hk
          have hrow := HOK.out.2.2.2 _ (List.getElem_mem hkl)
          have htb := HTB.out k _ (List.getElem?_eq_getElem hkl)
          have hLk : L[k]? = some (infB s rs[k]) := by rw [HE1.out, List.getElem?_map, List.getElem?_eq_getElem hkl]; rfl
          obtain ⟨r, hr⟩ : ∃ z, z = rs[k] := ⟨_, rfl⟩
          rw [← hr] at hrow htb hLk
          obtain ⟨off, hd, sz, sm, to_⟩ := r
          have hr1 := hrow.off; have hr2 := hrow.head; have hr3 := hrow.to
          rw [bytesOf_len] at hr3
          dsimp only at hr1 hr2 hr3
          have c1 := hA.ar.p_tab
          have t0 := hA.ar.a_tab.cell (k * 5) (by omega)
          have t1 := hA.ar.a_tab.cell (k * 5 + 1) (by omega)
          have t2 := hA.ar.a_tab.cell (k * 5 + 2) (by omega)
          have t3 := hA.ar.a_tab.cell (k * 5 + 3) (by omega)
          have t4 := hA.ar.a_tab.cell (k * 5 + 4) (by omega)
          simp only [mkV] at t0 t1 t2 t3 t4
          have b0 : R1.tab (k * 5) = .int .i64 (off : Nat) := htb 0 (by omega)
          have b1 : R1.tab (k * 5 + 1) = .int .i64 (hd : Nat) := htb 1 (by omega)
          have b2 : R1.tab (k * 5 + 2) = .int .i64 (to_ : Nat) := htb 2 (by omega)
          have b3 : R1.tab (k * 5 + 3) = .int .i64 (sz : Nat) := htb 3 (by omega)
          have b4 : R1.tab (k * 5 + 4) = .int .i64 (sm : Nat) := htb 4 (by omega)
          rw [b0] at t0
          rw [b1] at t1
          rw [b2] at t2
          rw [b3] at t3
          rw [b4] at t4
          have hiv := infV_at hLk
          have hmk := Mk.start wr wr.heap.size rfl [.int .i64 0, .int .i64 0, .int .i64 0, .int .i64 0, .int .i64 0] 121
          have f5 : Fr (UpN wr.heap.size) wr (wr.alloc (Obj.cells #[.int .i64 0, .int .i64 0, .int .i64 0, .int .i64 0, .int .i64 0] 121)) := (Fr.refl _ _).alloc _
          obtain ⟨w5, hw5⟩ : ∃ z, wr.alloc (Obj.cells #[.int .i64 0, .int .i64 0, .int .i64 0, .int .i64 0, .int .i64 0] 121) = z := ⟨_, rfl⟩
          have hmk : Mk w5 wr.heap.size 5 (fun i => ([.int .i64 0, .int .i64 0, .int .i64 0, .int .i64 0, .int .i64 0] : List Value).getD i undef) := by rw [← hw5]; exact hmk
          rw [hw5] at f5
          have o0 : w5.cell? ⟨wr.heap.size, 0, none⟩ = some (.int .i64 0) := hmk.cells 0 (by decide)
          have o1 : w5.cell? ⟨wr.heap.size, 1, none⟩ = some (.int .i64 0) := hmk.cells 1 (by decide)
          have o2 : w5.cell? ⟨wr.heap.size, 2, none⟩ = some (.int .i64 0) := hmk.cells 2 (by decide)
          have o3 : w5.cell? ⟨wr.heap.size, 3, none⟩ = some (.int .i64 0) := hmk.cells 3 (by decide)
          have o4 : w5.cell? ⟨wr.heap.size, 4, none⟩ = some (.int .i64 0) := hmk.cells 4 (by decide)
          have oz : ∀ i, w5.frozen? ⟨wr.heap.size, i, none⟩ = false := hmk.fz
          have HMK := hid hmk
          have HF5 := hid f5
          have hup : UpN wr.heap.size wr.heap.size := Nat.le_refl _
          have HZ4 := hid hA.lt
          have HMW := hid hB.lt
          have HIV := hid hiv
          have HR := hid (And.intro hr1 (And.intro hr2 hr3))
          clear hA hB hf hF hg b0 b1 b2 b3 b4 hr htb hrow hLk hmk f5 hiv hk hkl
          go_upto_region 11 with fail
          obtain ⟨w6, hw6⟩ : ∃ z, z = (((((w5.setCell ⟨wr.heap.size, 0, none⟩ (.int .i64 (off : Nat))).setCell ⟨wr.heap.size, 1, none⟩ (.int .i64 (hd : Nat))).setCell ⟨wr.heap.size, 2, none⟩ (.int .i64 (to_ : Nat))).setCell ⟨wr.heap.size, 3, none⟩ (.int .i64 (sz : Nat))).setCell ⟨wr.heap.size, 4, none⟩ (.int .i64 (sm : Nat))) := ⟨_, rfl⟩
          rw [← hw6]
          have HM6 : Hid (Mk w6 wr.heap.size 5 _) := hid (by rw [hw6]; exact (((((HMK.out.set (i := 0) (by decide) (.int .i64 (off : Nat))).set (i := 1) (by decide) (.int .i64 (hd : Nat))).set (i := 2) (by decide) (.int .i64 (to_ : Nat))).set (i := 3) (by decide) (.int .i64 (sz : Nat))).set (i := 4) (by decide) (.int .i64 (sm : Nat))))
          have hf6 : Fr (UpN wr.heap.size) w5 w6 := by rw [hw6]; exact ((((((((((Fr.refl (UpN wr.heap.size) w5).setS hup 0 (.int .i64 (off : Nat)))).setS hup 1 (.int .i64 (hd : Nat)))).setS hup 2 (.int .i64 (to_ : Nat)))).setS hup 3 (.int .i64 (sz : Nat)))).setS hup 4 (.int .i64 (sm : Nat)))
          have hf56 := HF5.out.trans hf6
          have h6 := HA.out.fr hf56 (fun k a b q => by unfold UpN at q; have := HZ4.out; omega)
          have hb6 := HB.out.fr hf56 (fun q => by unfold UpN at q; have := HMW.out; omega)
          have HF6 := hid (HF.out.trans (hf56.mono (fun x hx hl => by unfold UpN at hx; omega)))
          clear hw6 hf6 hf56 o0 o1 o2 o3 o4 oz hw5 t0 t1 t2 t3 t4 c1
          have d0 : w6.cell? ⟨wr.heap.size, 0, none⟩ = some (.int .i64 (off : Nat)) := HM6.out.cells 0 (by decide)
          have d1 : w6.cell? ⟨wr.heap.size, 1, none⟩ = some (.int .i64 (hd : Nat)) := HM6.out.cells 1 (by decide)
          have d2 : w6.cell? ⟨wr.heap.size, 2, none⟩ = some (.int .i64 (to_ : Nat)) := HM6.out.cells 2 (by decide)
          have d3 : w6.cell? ⟨wr.heap.size, 3, none⟩ = some (.int .i64 (sz : Nat)) := HM6.out.cells 3 (by decide)
          have d4 : w6.cell? ⟨wr.heap.size, 4, none⟩ = some (.int .i64 (sm : Nat)) := HM6.out.cells 4 (by decide)
          have x0 := hb6.cell (k * 3) (by have := HG.out; omega)
          have x1 := hb6.cell (k * 3 + 1) (by have := HG.out; omega)
          have x2 := hb6.cell (k * 3 + 2) (by have := HG.out; omega)
          simp only [mkV] at x0 x1 x2
          obtain ⟨y0, hy0⟩ : ∃ z, z = f (k * 3) := ⟨_, rfl⟩
          obtain ⟨y1, hy1⟩ : ∃ z, z = f (k * 3 + 1) := ⟨_, rfl⟩
          obtain ⟨y2, hy2⟩ : ∃ z, z = f (k * 3 + 2) := ⟨_, rfl⟩
          rw [← hy0] at x0
          rw [← hy1] at x1
          rw [← hy2] at x2
          have xz : ∀ i, w6.frozen? ⟨M, i, none⟩ = false := hb6.thaw
          have n1 : ¬ M = wr.heap.size := by have := HMW.out; omega
          have n2 : ¬ wr.heap.size = M := by have := HMW.out; omega
          obtain ⟨rv, hrv⟩ : ∃ z, z = to_ - hd - 6 := ⟨_, rfl⟩
          have hhr := HR.out
          have l1 : (off : Int) + 1 ≤ hd := by omega
          have l2 : (hd : Int) ≤ s.size := by omega
          have l3 : (0 : Int) ≤ (off : Int) + 1 := by omega
          have l4 : ((off : Int) + 1).toNat = off + 1 := by omega
          have l6 : (s.size : Int) ≤ 1200 := by omega
          have l5 : (to_ : Int) - (hd : Int) - 6 = (rv : Int) := by omega
          have l7 : (to_ : Int) ≤ 1200 := by omega
          have hb7 := ((hb6.set (k * 3) (.string (s.extract (off + 1) hd))).set (k * 3 + 1) (.int .i64 (sz : Nat))).set (k * 3 + 2) (.int .i64 (rv : Nat))
          have f7 := ((((Fr.refl (One M) w6).set1 (k * 3) (.string (s.extract (off + 1) hd))).set1 (k * 3 + 1) (.int .i64 (sz : Nat))).set1 (k * 3 + 2) (.int .i64 (rv : Nat)))
          have h7 := h6.fr f7 (fun k a b q => by unfold One at q; have := HZM.out; omega)
          have HB7 := hid hb7
          have H7 := hid h7
          have HRV := hid hrv
          have HF7 := hid (HF6.out.trans2 f7 (fun x hx hl => by unfold One at hx; have := HWM.out; omega))
          clear hy0 hy1 hy2 hb6 hb7 f7 h6 h7 hup hhr hrv
          go_wp2_with fail
          go_roundg (gk - 1)
          case measure => have := HG.out; omega
          case rel =>
            refine ⟨k + 1, _, by simp, by have := HG.out; omega, H7.out, HB7.out, fun j hj => ?_, HF7.out⟩
            have hi := HIV.out
            unfold infB at hi
            dsimp only at hi
            rw [← HRV.out] at hi
            by_cases e0 : j = k * 3
            · subst e0; rw [upd_ne _ _ _ _ (by omega), upd_ne _ _ _ _ (by omega), upd_self]; exact hi.1.symm
            · by_cases e1 : j = k * 3 + 1
              · subst e1; rw [upd_ne _ _ _ _ (by omega), upd_self]; exact hi.2.1.symm
              · by_cases e2 : j = k * 3 + 2
                · subst e2; rw [upd_self]; exact hi.2.2.symm
                · rw [upd_ne _ _ _ _ e2, upd_ne _ _ _ _ e1, upd_ne _ _ _ _ e0]; exact HFF.out j (by omega)
        · have hki : ¬ (k : Int) < n := by omega
          have hkn : k = n := by omega
          subst hkn
          have hbb := hB.congr (h := infV L) (fun j hj => hf j hj)
          have HBB := hid hbb
          clear hA hB hf hF hg hbb hk
          go_wp2_with fail
          try go_ret3
          exact hK.out _ _ ⟨_, rfl, .inr ⟨M, HWM.out, rfl, HBB.out⟩, ⟨_, HA.out⟩, HF.out⟩
    · have c1i : ((er : Int) == 0) = false := beq_eq_false_iff_ne.2 (fun q => c1 (Int.ofNat.inj q))
      have c1j : ((er : Int) != 0) = true := by rw [bne, c1i]; rfl
      rw [if_pos c1] at e1 e2
      rw [e1, e2]
      clear h hfr hok hT e1 e2 c0 c1
      refine calls_via fun K hK => ?_
      unfold ptrV
      go_enter Tryz.func35, Tryz.ntmps35
      go_wp2_with fail
      refine HFR.out.mono ?_
      rintro e w1 ⟨rfl, ⟨R1, h1, htb⟩, f1⟩
      have H1 := hid h1
      have F1 := hid f1
      clear h1 htb f1
      go_wp2_with fail
      try go_ret3
      exact hK.out _ _ ⟨none, rfl, .inl rfl, ⟨_, H1.out⟩, F1.out⟩
end Go.Proofs.Qxb6500353aGreat
