/- The model's archive: List, walked. -/
import Derived.Test.Qxb6500353aGreatAmc
import Derived.Test.Qxb6500353aGreatArh
namespace Go.Proofs.Qxb6500353aGreat
open Go.RowKit
set_option linter.unusedVariables false
set_option linter.unusedSimpArgs false

theorem flat_at {α : Type} (f : α → List Value) (m : Nat) (hf : ∀ a, (f a).length = m) : ∀ (l : List α) (k j : Nat) (r : α), j < m → l[k]? = some r → (l.flatMap f)[k * m + j]? = (f r)[j]?
  | [], k, j, r, hj, h => by simp at h
  | a :: l, 0, j, r, hj, h => by
    simp only [List.getElem?_cons_zero, Option.some.injEq] at h
    subst h
    rw [List.flatMap_cons, Nat.zero_mul, Nat.zero_add, List.getElem?_append_left (by rw [hf]; exact hj)]
  | a :: l, k + 1, j, r, hj, h => by
    simp only [List.getElem?_cons_succ] at h
    have ih := flat_at f m hf l k j r hj h
    rw [List.flatMap_cons, List.getElem?_append_right (by rw [hf, Nat.add_mul]; omega), hf, ← ih]
    congr 1
    rw [Nat.add_mul]; omega
/-- The k-th row that read has laid. -/
theorem OwnG.row {w : World} {base n cap : Nat} {ad : Option Addr} {s : ByteArray} {rs : List RowP} (h : OwnG w base 126 6 ad n cap (rs.flatMap (rowV s))) {k : Nat} {r : RowP} (hk : rs[k]? = some r) :
    ∃ g, ad = some ⟨g, 0, none⟩ ∧ g < w.heap.size ∧ w.cell? ⟨g, k * 6, none⟩ = some (.string (s.extract (r.off + 1) r.head)) ∧ w.cell? ⟨g, k * 6 + 1, none⟩ = some (.int .i64 (r.size : Nat)) ∧ w.cell? ⟨g, k * 6 + 2, none⟩ = some (.int .i64 (r.sum : Nat)) ∧ w.cell? ⟨g, k * 6 + 3, none⟩ = some (.int .i64 ((r.head + 6 : Nat) : Int)) ∧ w.cell? ⟨g, k * 6 + 4, none⟩ = some (.int .i64 (r.to : Nat)) ∧ w.cell? ⟨g, k * 6 + 5, none⟩ = some (.int .i64 (r.off : Nat)) := by
  have hx := fun j (hj : j < 6) => flat_at (rowV s) 6 (fun _ => rfl) rs k j r hj hk
  obtain ⟨g, rfl, c0⟩ := h.at (k * 6 + 0) _ ((hx 0 (by omega)).trans rfl)
  have hc : ∀ (j : Nat), j < 6 → ∀ v : Value, (rowV s r)[j]? = some v → w.cell? ⟨g, k * 6 + j, none⟩ = some v := fun j hj v hv => by
    obtain ⟨g2, e2, c2⟩ := h.at (k * 6 + j) v ((hx j hj).trans hv)
    simp only [Option.some.injEq, Addr.mk.injEq, and_true] at e2
    subst e2
    exact c2
  exact ⟨g, rfl, lt_of_cellB c0, hc 0 (by omega) _ rfl, hc 1 (by omega) _ rfl, hc 2 (by omega) _ rfl, hc 3 (by omega) _ rfl, hc 4 (by omega) _ rfl, hc 5 (by omega) _ rfl⟩
set_option maxRecDepth 100000 in
set_option maxHeartbeats 8000000 in
theorem mlistA_any {w : World} {b : Nat} {s : ByteArray} :
    Calls Tryz.prog 36 #[ptrV b, .string s] w fun e w' => ∃ ad : Option Addr, e = .returned (.tuple #[.slice ad (lstB s).length (lstB s).length, .int .i64 ((lstA (bytesOf s)).1 : Nat), .int .i64 ((lstA (bytesOf s)).2.1 : Nat)]) ∧ NewL w w' 115 3 (lstB s).length ad (infV (lstB s)) ∧ Fr Nob w w' := by
  have hfr := mread_any (w := w) (s := s)
  have hok := readA_ok (bytesOf s)
  have e1 : lstB s = if (readA (bytesOf s)).1 ≠ 0 then [] else (readA (bytesOf s)).2.2.map (infB s) := rfl
  have e2 : lstA (bytesOf s) = if (readA (bytesOf s)).1 ≠ 0 then ((readA (bytesOf s)).1, (readA (bytesOf s)).2.1, []) else (0, 0, (readA (bytesOf s)).2.2.map (infOf (bytesOf s))) := rfl
  obtain ⟨T, hT⟩ : ∃ z, z = readA (bytesOf s) := ⟨_, rfl⟩
  rw [← hT] at hfr hok e1 e2
  obtain ⟨er, ps, rs⟩ := T
  dsimp only at hfr hok e1 e2
  have HFR := hid hfr
  by_cases c1 : er = 0
  · subst c1
    rw [if_neg (by simp)] at e1 e2
    have hk := hok rfl
    rw [e2]
    have hln : (lstB s).length = rs.length := by rw [e1, List.length_map]
    obtain ⟨L, hL⟩ : ∃ z, z = lstB s := ⟨_, rfl⟩
    rw [← hL] at e1 hln ⊢
    obtain ⟨n, hn⟩ : ∃ z, z = rs.length := ⟨_, rfl⟩
    rw [← hn] at hln hk
    rw [hln]
    have HOK := hid hk
    have HE1 := hid e1
    have HN := hid hn
    have hni : (n : Int) ≤ 4 := by omega
    have HLN := hid hln
    rw [← hn] at HFR
    clear hfr hok hT e1 e2 hk hL hn hln
    refine calls_via fun K hK => ?_
    unfold ptrV
    go_enter Tryz.func36, Tryz.ntmps36
    go_wp2_with fail
    refine HFR.out.mono ?_
    rintro e w1 ⟨ad, cap, rfl, ho, f1⟩
    have HO := hid ho
    have F1 := hid f1
    obtain ⟨M, hM⟩ : ∃ z, w1.heap.size = z := ⟨_, rfl⟩
    have HM := hid hM
    have HWM : Hid (w.heap.size ≤ M) := hid (by rw [← hM]; exact f1.size)
    clear ho f1
    rw [show ((0 : Nat) : Int) = 0 from rfl]
    go_wp2_with (at_make; refine wp_mkg rfl _ _ 33 115 3 32 _ rfl Tryz.underlying33 Tryz.info115 rfl n n n n M HM.out rfl rfl rfl rfl (Nat.le_refl _) (by omega) (by omega) ?_; intro w2 hs2 ha2 hf2; have HA2 := hid ha2; have HO2 := hid (HO.out.fr hf2 (fun _ _ x => x)); have F2 := hid (F1.out.trans hf2); have FX2 := hid hf2; clear ha2 hf2 hs2 hM)
    go_loopg [11] n (fun g i wr => ∃ (k : Nat) (f : Nat → Value), i = .int .i64 (k : Nat) ∧ g + k = n ∧ OwnG wr w.heap.size 126 6 ad n cap (rs.flatMap (rowV s)) ∧ Arr 115 mkV wr M (n * 3) f ∧ (∀ j, j < k * 3 → f j = infV L j) ∧ Fr Nob w wr)
    case atStart => exact ⟨0, _, rfl, by omega, HO2.out, HA2.out, fun j hj => by omega, F2.out⟩
    case round =>
      obtain ⟨k, f, rfl, hg, hO, hB, hf, hF⟩ := hrel
      have HO3 := hid hO
      have HB := hid hB
      have HFF := hid hf
      have HF := hid hF
      have HG := hid hg
      by_cases hk : k < n
      · have hki : (k : Int) < n := by omega
        have hk4 : (k : Int) < 4 := by omega
        have hkl : k < rs.length := by rw [← HN.out]; exact hk
        have hrow := HOK.out.2.2.2 _ (List.getElem_mem hkl)
        have hLk : L[k]? = some (infB s rs[k]) := by rw [HE1.out, List.getElem?_map, List.getElem?_eq_getElem hkl]; rfl
        have hgr := hO.row (List.getElem?_eq_getElem hkl)
        have hlt := fun (g : Nat) (h : ad = some ⟨g, 0, none⟩) => HO.out.lt (g := g) (by rw [h]; rfl)
        obtain ⟨r, hr⟩ : ∃ z, z = rs[k] := ⟨_, rfl⟩
        rw [← hr] at hrow hLk hgr
        obtain ⟨off, hd, sz, sm, to_⟩ := r
        obtain ⟨g, rfl, hgl, t0, t1, t2, t3, t4, t5⟩ := hgr
        have hgM : g < M := by have := (hlt g rfl).2; rw [HM.out] at this; exact this
        have hr1 := hrow.off; have hr2 := hrow.head; have hr3 := hrow.to
        rw [bytesOf_len] at hr3
        dsimp only at hr1 hr2 hr3 t0 t1 t2 t3 t4 t5
        have hiv := infV_at hLk
        obtain ⟨rv, hrv⟩ : ∃ z, z = to_ - hd - 6 := ⟨_, rfl⟩
        obtain ⟨fr, hfr⟩ : ∃ z, z = hd + 6 := ⟨_, rfl⟩
        rw [← hfr] at t3
        have l5 : (to_ : Int) - (fr : Int) = (rv : Int) := by omega
        have l7 : (to_ : Int) ≤ 1200 := by have := HOK.out.2.1; rw [bytesOf_len] at this; omega
        have l8 : (fr : Int) ≤ 1200 := by omega
        have l9 : IntKind.i64.wrap (rv : Int) = (rv : Int) := wrapI (by omega) (by omega)
        have x0 := hB.cell (k * 3) (by omega)
        have x1 := hB.cell (k * 3 + 1) (by omega)
        have x2 := hB.cell (k * 3 + 2) (by omega)
        simp only [mkV] at x0 x1 x2
        obtain ⟨y0, hy0⟩ : ∃ z, z = f (k * 3) := ⟨_, rfl⟩
        obtain ⟨y1, hy1⟩ : ∃ z, z = f (k * 3 + 1) := ⟨_, rfl⟩
        obtain ⟨y2, hy2⟩ : ∃ z, z = f (k * 3 + 2) := ⟨_, rfl⟩
        rw [← hy0] at x0
        rw [← hy1] at x1
        rw [← hy2] at x2
        have xz : ∀ i, wr.frozen? ⟨M, i, none⟩ = false := hB.thaw
        have n1 : ¬ M = g := by omega
        have n2 : ¬ g = M := by omega
        obtain ⟨nm, hnm⟩ : ∃ z, z = s.extract (off + 1) hd := ⟨_, rfl⟩
        rw [← hnm] at t0
        have HNM := hid hnm
        have hb7 := ((hB.set (k * 3) (.string nm)).set (k * 3 + 1) (.int .i64 (sz : Nat))).set (k * 3 + 2) (.int .i64 (rv : Nat))
        have f7 := ((((Fr.refl (One M) wr).set1 (k * 3) (.string nm)).set1 (k * 3 + 1) (.int .i64 (sz : Nat))).set1 (k * 3 + 2) (.int .i64 (rv : Nat))).drew
        have HB7 := hid (hb7.fr (S := Nob) ((Fr.refl Nob _).drew) (fun x => x))
        have HRV := hid hrv
        have HF7 := hid (HF.out.trans2 f7 (fun x hx hl => by unfold One at hx; have := HWM.out; omega))
        have HO7 := hid (HO3.out.fr f7 (fun g2 hg2 q => by unfold One at q; have h1 : some g = some g2 := hg2; injection h1; omega))
        have HF7x := hid f7
        have HIV := hid hiv
        clear hy0 hy1 hy2 hb7 f7 hrv hO hB hf hF hg hrow hLk hlt hr hiv hr1 hr2 hr3 hkl hk hgl hgM hfr hnm
        go_wp2_with fail
        go_region
        go_wp2_with fail
        go_roundg (gk - 1)
        case measure => have := HG.out; omega
        case rel =>
          refine ⟨k + 1, _, by simp, by have := HG.out; omega, HO7.out, HB7.out, fun j hj => ?_, HF7.out⟩
          have hi := HIV.out
          unfold infB at hi
          dsimp only at hi
          rw [← HRV.out, ← HNM.out] at hi
          by_cases e0 : j = k * 3
          · subst e0; rw [upd_ne _ _ _ _ (by omega), upd_ne _ _ _ _ (by omega), upd_self]; exact hi.1.symm
          · by_cases e1 : j = k * 3 + 1
            · subst e1; rw [upd_ne _ _ _ _ (by omega), upd_self]; exact hi.2.1.symm
            · by_cases e2 : j = k * 3 + 2
              · subst e2; rw [upd_self]; exact hi.2.2.symm
              · rw [upd_ne _ _ _ _ e2, upd_ne _ _ _ _ e1, upd_ne _ _ _ _ e0]; exact HFF.out j (by omega)
      · have hki : ¬ (k : Int) < n := by omega
        have hkn : k = n := by omega
        subst hkn
        have hbb := hB.congr (h := infV L) (fun j hj => hf j hj)
        have HBB := hid hbb
        clear hO hB hf hF hg hbb hk
        go_wp2_with fail
        try go_ret3
        exact hK.out _ _ ⟨_, rfl, .inr ⟨M, HWM.out, rfl, HBB.out⟩, HF.out⟩
  · have c1i : ((er : Int) == 0) = false := beq_eq_false_iff_ne.2 (fun q => c1 (Int.ofNat.inj q))
    have c1j : ((er : Int) != 0) = true := by rw [bne, c1i]; rfl
    rw [if_pos c1] at e1 e2
    rw [e1, e2]
    clear hfr hok hT e1 e2 c1
    refine calls_via fun K hK => ?_
    unfold ptrV
    go_enter Tryz.func36, Tryz.ntmps36
    go_wp2_with fail
    refine HFR.out.mono ?_
    rintro e w1 ⟨ad, cap, rfl, ho, f1⟩
    have F1 := hid f1
    clear ho f1
    go_wp2_with fail
    try go_ret3
    exact hK.out _ _ ⟨none, rfl, .inl rfl, F1.out⟩
end Go.Proofs.Qxb6500353aGreat
