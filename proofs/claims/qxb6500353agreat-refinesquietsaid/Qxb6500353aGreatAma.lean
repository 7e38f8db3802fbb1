/- The model's archive: New, CheckList, two, walked. -/
import Derived.Test.Qxb6500353aGreatArb
import Derived.Test.Qxb6500353aGreatMkn
import Derived.Test.Qxb6500353aGreatMkp
namespace Go.Proofs.Qxb6500353aGreat
open Go.RowKit
set_option linter.unusedVariables false
set_option linter.unusedSimpArgs false

/-- The model's archive: a packer that no call turns. -/
structure MaR (w : World) (b : Nat) : Prop where
  c : ∃ p, w.cell? ⟨b, 0, none⟩ = some (ptrV p) ∧ PkM w p
theorem MaR.lt {w : World} {b : Nat} (h : MaR w b) : b < w.heap.size := by obtain ⟨p, h1, _⟩ := h.c; exact lt_of_cellB h1
theorem MaR.fr {S : Nat → Prop} {w w2 : World} {b : Nat} (h : MaR w b) (hf : Fr S w w2) (hn : ∀ k, k < w.heap.size → k = b ∨ PkM w k → ¬ S k) : MaR w2 b := by
  obtain ⟨p, h1, h2⟩ := h.c
  exact ⟨p, hf.cell h1 (hn b h.lt (.inl rfl)), h2.fr hf (hn p h2.lt (.inr h2))⟩
theorem conv_new (w : World) (l : List Nat) (vs : List Value) (hv : vs = l.map fun (n : Nat) => .int .u8 (n : Nat)) : (convert 57 9 (.slice (some ⟨w.heap.size, 0, none⟩) l.length l.length)).run Tryz.prog (w.alloc (Obj.cells vs.toArray 5)) = .ok (.string (strN l)) (w.alloc (Obj.cells vs.toArray 5)) := by
  have h := conv_str (w := w.alloc (Obj.cells vs.toArray 5)) (g := w.heap.size) (o := 0) (n := l.length) (cap := l.length) (f := fun i => l.getD i 0) (fun i hi => by
    rw [Nat.zero_add]
    refine (World.cell?_alloc_new _ _ _ i).trans ?_
    rw [hv]
    simp [List.getD_eq_getElem?_getD, hi])
  have e : (List.range l.length).map (fun i => l.getD i 0) = l := by
    apply List.ext_getElem?
    intro i
    rw [List.getElem?_map]
    by_cases hi : i < l.length
    · rw [List.getElem?_range hi]; simp [List.getD_eq_getElem?_getD, hi]
    · rw [List.getElem?_eq_none (by simp; omega), List.getElem?_eq_none (by omega)]; rfl
  rw [e] at h; exact h
set_option maxRecDepth 100000 in
theorem mtwo_any {w : World} {n : Nat} (hn : n < 65536) : Calls Tryz.prog 49 #[.int .i64 (n : Nat)] w fun e w' => e = .returned (.string (strN (two n))) ∧ Fr Nob w w' := by
  have m1 : bits .and .i64 (n : Int) 255 = ((n % 256 : Nat) : Int) := mask255 (by omega)
  have m2 : bits .and .i64 ((n : Int) / 256) 255 = ((n / 256 % 256 : Nat) : Int) := by rw [show (n : Int) / 256 = ((n / 256 : Nat) : Int) by omega]; exact mask255 (by omega)
  obtain ⟨v1, hv1⟩ : ∃ z, z = n % 256 := ⟨_, rfl⟩
  obtain ⟨v2, hv2⟩ : ∃ z, z = n / 256 % 256 := ⟨_, rfl⟩
  rw [← hv1] at m1
  rw [← hv2] at m2
  have e8 : IntKind.u8.wrap (v1 : Int) = (v1 : Int) := wrap8 (by omega) (by omega)
  have e9 : IntKind.u8.wrap (v2 : Int) = (v2 : Int) := wrap8 (by omega) (by omega)
  have ht : two n = [v1, v2] := by unfold two; rw [← hv1, ← hv2]
  rw [ht]
  clear hv1 hv2 hn ht
  refine calls_via fun K hK => ?_
  go_enter Tryz.func49, Tryz.ntmps49
  have hcv := conv_new w [v1, v2] [.int .u8 (v1 : Nat), .int .u8 (v2 : Nat)] rfl
  simp only [List.length_cons, List.length_nil, Nat.zero_add, Nat.reduceAdd] at hcv
  go_wp2_with fail
  exact hK.out _ _ ⟨rfl, (Fr.refl _ _).alloc _⟩
set_option maxRecDepth 100000 in
set_option maxHeartbeats 4000000 in
theorem checkList_any {w : World} {ad : Option Addr} {cap : Nat} {es : List EB} (h : EntS w ad es) {lv : Int} :
    Calls Tryz.prog 47 #[.slice ad es.length cap, .int .i64 lv] w fun e w' => e = .returned (.int .i64 (errA (es.map toE) lv : Nat)) ∧ w' = w := by
  have H := hid h
  obtain ⟨n, hn⟩ : ∃ z, z = es.length := ⟨_, rfl⟩
  have HN := hid hn
  have hml : (es.map toE).length = n := by rw [List.length_map, hn]
  rw [← hn]
  by_cases c1 : 4 < n
  · have c1i : (4 : Int) < n := by omega
    have e1 : errA (es.map toE) lv = 17 := by unfold errA; rw [if_pos (by omega)]
    rw [e1]
    clear h hn hml c1 e1
    refine calls_via fun K hK => ?_
    go_enter Tryz.func47, Tryz.ntmps47
    go_wp2_with fail
    exact hK.out _ _ ⟨rfl, rfl⟩
  · have c1i : ¬ (4 : Int) < n := by omega
    by_cases c2 : lv < 0 ∨ 2 < lv
    · have e1 : errA (es.map toE) lv = 13 := by unfold errA; rw [if_neg (by omega), if_pos c2]
      rw [e1]
      clear h hn hml c1 e1
      refine calls_via fun K hK => ?_
      go_enter Tryz.func47, Tryz.ntmps47
      by_cases c3 : lv < 0
      · clear c2
        go_wp2_with fail
        exact hK.out _ _ ⟨rfl, rfl⟩
      · have c4 : 2 < lv := by omega
        clear c2
        go_wp2_with fail
        exact hK.out _ _ ⟨rfl, rfl⟩
    · have c3 : ¬ lv < 0 := by omega
      have c4 : ¬ 2 < lv := by omega
      have e0 : errA (es.map toE) lv = judgeF (es.map toE) := by unfold errA; rw [if_neg (by omega), if_neg c2]
      rw [e0]
      have hni : (n : Int) ≤ 4 := by omega
      clear h hn hml c1 e0 c2
      refine calls_via fun K hK => ?_
      go_enter Tryz.func47, Tryz.ntmps47
      go_wp2_with fail
      go_loopg [5] n (fun g i wr => ∃ k : Nat, i = .int .i64 (k : Nat) ∧ g + k = n ∧ wr = w ∧ judgeF (es.map toE) = judgeF ((es.drop k).map toE))
      case atStart => exact ⟨0, rfl, by omega, rfl, rfl⟩
      case round =>
        obtain ⟨k, rfl, hg, rfl, hj⟩ := hrel
        have HJ := hid hj
        have HG := hid hg
        by_cases hk : k < n
        · have hki : (k : Int) < n := by omega
          have hkl : k < es.length := by rw [← HN.out]; exact hk
          obtain ⟨g, rfl, hgl, x0, x1⟩ := H.out.at hkl
          have hj2 := HJ.out
          rw [drop_cons hkl, List.map_cons, judgeF_cons] at hj2
          have hee : entE (toE es[k]) = if es[k].1.size = 0 ∨ 8 < es[k].1.size then 16 else if 256 < es[k].2.size then 1 else 0 := by unfold entE toE; simp only [bytesOf_len]
          obtain ⟨E, hE⟩ : ∃ z, z = entE (toE es[k]) := ⟨_, rfl⟩
          rw [← hE] at hee hj2
          obtain ⟨e, he⟩ : ∃ z, z = es[k] := ⟨_, rfl⟩
          rw [← he] at x0 x1 hee
          obtain ⟨nm, dt⟩ := e
          dsimp only at x0 x1 hee
          clear hj hg hgl he hkl hk hE
          by_cases c1 : nm.size = 0
          · rw [if_pos (Or.inl c1)] at hee
            rw [hee, if_pos (by decide)] at hj2
            have c1i : ((nm.size : Int) == 0) = true := by rw [c1]; rfl
            rw [hj2] at hK
            clear hj2 c1 HJ hee
            go_wp2_with fail
            exact hK.out _ _ ⟨rfl, rfl⟩
          · have c1i : ((nm.size : Int) == 0) = false := beq_eq_false_iff_ne.2 (by omega)
            by_cases c2 : 8 < nm.size
            · rw [if_pos (Or.inr c2)] at hee
              rw [hee, if_pos (by decide)] at hj2
              have c2i : (8 : Int) < nm.size := by omega
              rw [hj2] at hK
              clear hj2 c1 c2 HJ hee
              go_wp2_with fail
              exact hK.out _ _ ⟨rfl, rfl⟩
            · rw [if_neg (show ¬ (nm.size = 0 ∨ 8 < nm.size) by omega)] at hee
              have c2i : ¬ (8 : Int) < nm.size := by omega
              by_cases c3 : 256 < dt.size
              · rw [if_pos c3] at hee
                rw [hee, if_pos (by decide)] at hj2
                have c3i : (256 : Int) < dt.size := by omega
                rw [hj2] at hK
                clear hj2 c1 c2 c3 HJ hee
                go_wp2_with fail
                exact hK.out _ _ ⟨rfl, rfl⟩
              · rw [if_neg c3] at hee
                rw [if_neg (show ¬ E ≠ 0 by omega)] at hj2
                have c3i : ¬ (256 : Int) < dt.size := by omega
                have HJ2 := hid hj2
                clear hj2 c1 c2 c3 HJ hee
                go_wp2_with fail
                go_roundg (gk - 1)
                case measure => have := HG.out; omega
                case rel => exact ⟨k + 1, by simp, by have := HG.out; omega, rfl, HJ2.out⟩
        · have hki : ¬ (k : Int) < n := by omega
          have hkn : es.drop k = [] := List.drop_eq_nil_of_le (by rw [← HN.out]; omega)
          rw [hkn] at hj
          rw [hj] at hK
          clear hj hg hk hkn HJ
          go_wp2_with fail
          exact hK.out _ _ ⟨rfl, rfl⟩
set_option maxRecDepth 100000 in
theorem newMa_any (w : World) : Calls Tryz.prog 9 #[] w fun e w' => ∃ b, w.heap.size ≤ b ∧ e = .returned (ptrV b) ∧ MaR w' b ∧ Fr Nob w w' := by
  refine calls_via fun K hK => ?_
  go_enter Tryz.func9, Tryz.ntmps9
  go_wp2_with fail
  refine (newBlockm_any w).mono ?_
  rintro e w1 ⟨rfl, h1, f1⟩
  have H1 := hid h1
  have F1 := hid f1
  clear h1 f1
  unfold ptrV
  go_wp2_with fail
  exact hK.out _ _ ⟨w1.heap.size, F1.out.size, rfl, ⟨⟨w.heap.size, (World.cell?_alloc_new _ _ _ 0).trans rfl, H1.out.fr (S := Nob) ((Fr.refl _ _).alloc _) (fun x => x)⟩⟩, F1.out.alloc _⟩
end Go.Proofs.Qxb6500353aGreat
