/- The walk over towerlaw.take. -/
import Derived.Test.Qxb6500354aGreatBag
import Derived.Test.Qxb6500354aGreatKm2
namespace Go.Proofs.Qxb6500354aGreat
open Go.RowKit
set_option linter.unusedVariables false
set_option linter.unusedSimpArgs false

theorem MatB.take {w : World} {g o n cap : Nat} {us : List Value} {cs : List (List Int)} (h : MatB w (.slice (some ⟨g, o, none⟩) n cap) us cs) (k cap2 : Nat) (hk : k ≤ cs.length) : MatB w (.slice (some ⟨g, o, none⟩) k cap2) (us.take k) (cs.take k) := by
  obtain ⟨h1, h2, h3⟩ := h
  have e1 : ∀ i, i < k → (us.take k).getD i (.bool false) = us.getD i (.bool false) := fun i hi => by simp [List.getD_eq_getElem?_getD, List.getElem?_take, hi]
  have e2 : ∀ i, i < k → (cs.take k).getD i [] = cs.getD i [] := fun i hi => by simp [List.getD_eq_getElem?_getD, List.getElem?_take, hi]
  have hl : (cs.take k).length = k := by rw [List.length_take]; omega
  refine ⟨by rw [List.length_take, List.length_take, h1], fun i hi => ?_, .inr ⟨g, o, cap2, by rw [hl], fun i hi => ?_⟩⟩
  · rw [hl] at hi
    rw [e1 i hi, e2 i hi]; exact h2 i (by omega)
  · rw [hl] at hi
    rcases h3 with ⟨e, _⟩ | ⟨g2, o2, c2, e, h4⟩
    · simp at e
    · simp only [Value.slice.injEq, Option.some.injEq, Addr.mk.injEq, and_true] at e
      obtain ⟨⟨rfl, rfl⟩, _, _⟩ := e
      rw [e1 i hi]; exact h4 i (by omega)
theorem MatB.drop {w : World} {g o n cap : Nat} {us : List Value} {cs : List (List Int)} (h : MatB w (.slice (some ⟨g, o, none⟩) n cap) us cs) (k m cap2 : Nat) (hm : m = cs.length - k) : MatB w (.slice (some ⟨g, o + k, none⟩) m cap2) (us.drop k) (cs.drop k) := by
  obtain ⟨h1, h2, h3⟩ := h
  have e1 : ∀ i, (us.drop k).getD i (.bool false) = us.getD (k + i) (.bool false) := fun i => by simp [List.getD_eq_getElem?_getD, List.getElem?_drop]
  have e2 : ∀ i, (cs.drop k).getD i [] = cs.getD (k + i) [] := fun i => by simp [List.getD_eq_getElem?_getD, List.getElem?_drop]
  have hl : (cs.drop k).length = m := by rw [List.length_drop]; omega
  refine ⟨by rw [List.length_drop, List.length_drop, h1], fun i hi => ?_, .inr ⟨g, o + k, cap2, by rw [hl], fun i hi => ?_⟩⟩
  · rw [hl] at hi
    rw [e1 i, e2 i]; exact h2 (k + i) (by omega)
  · rw [hl] at hi
    rcases h3 with ⟨e, _⟩ | ⟨g2, o2, c2, e, h4⟩
    · simp at e
    · simp only [Value.slice.injEq, Option.some.injEq, Addr.mk.injEq, and_true] at e
      obtain ⟨⟨rfl, rfl⟩, _, _⟩ := e
      rw [e1 i, Nat.add_assoc]; exact h4 (k + i) (by omega)
theorem OwnM.cap {w : World} {base g n cap : Nat} {cs : List (List Int)} {D : List Nat} (h : OwnM w base (.slice (some ⟨g, 0, none⟩) n cap) cs D) : n ≤ cap := by
  obtain ⟨us, h1, _⟩ := h
  rcases h1.2 with ⟨e, _⟩ | ⟨g2, cap2, cur, e, hb, hg, hnc, hcm, hcs, ht⟩
  · simp at e
  · simp only [Value.slice.injEq, Option.some.injEq, Addr.mk.injEq, and_true, true_and] at e
    omega
theorem mem_split_at {bag : List (List Int)} {c : List Int} (h : c ∈ bag) : ∃ t, t < bag.length ∧ bag.getD t [] = c ∧ c ∉ bag.take t ∧ ∀ j, j < t → bag.getD j [] ≠ c := by
  induction bag with
  | nil => simp at h
  | cons x r ih =>
    by_cases e : x = c
    · exact ⟨0, by simp, by simpa using e, by simp, fun j hj => by omega⟩
    · rcases List.mem_cons.1 h with q | q
      · exact absurd q.symm e
      · obtain ⟨t, h1, h2, h3, h4⟩ := ih q
        refine ⟨t + 1, by simp; omega, by simpa using h2, ?_, fun j hj => ?_⟩
        · rw [List.take_succ_cons]
          intro hm
          rcases List.mem_cons.1 hm with z | z
          · exact e z.symm
          · exact h3 z
        · cases j with
          | zero => simpa using e
          | succ j => simpa using h4 j (by omega)
set_option maxRecDepth 100000 in
set_option maxHeartbeats 8000000 in
theorem take1_any {w : World} {base : Nat} {bv cv : Value} {bag : List (List Int)} {c : List Int} (hb : OwnM w base bv bag []) (hc : Ints w cv c) (hcl : c.length ≤ 1000) (hbl : ∀ d ∈ bag, d.length ≤ 1000) (hn : bag.length ≤ 1000000) (hm : c ∈ bag) :
    Calls Tryz.prog 66 #[bv, cv] w fun e w' => ∃ rv, e = .returned (.tuple #[rv, .bool true]) ∧ OwnM w' w.heap.size rv (bag.erase c) [] ∧ Fr [] w w' := by
  obtain ⟨t, ht, htc, hnm, hall⟩ := mem_split_at hm
  obtain ⟨us, hub⟩ := hb.matB
  have her := erase_at ht htc hnm
  have hsh : (bv = .slice none 0 0 ∧ bag.length = 0) ∨ ∃ g cap, bv = .slice (some ⟨g, 0, none⟩) bag.length cap := by
    obtain ⟨us0, ho1, _⟩ := hb
    exact owns_shape ho1
  rcases hsh with ⟨rfl, h0⟩ | ⟨g, cap, rfl⟩
  · omega
  have hcap := hb.cap
  obtain ⟨n, hnn⟩ : ∃ z, bag.length = z := ⟨_, rfl⟩
  rw [hnn] at hb hub ht hn hcap ⊢
  have hcapi : (n : Int) ≤ cap := by omega
  have HUB := hid hub
  have HC := hid hc
  have HN := hid hnn
  have HT := hid ht
  have HTC := hid htc
  have HALL := hid hall
  have HER := hid her
  have HBL := hid hbl
  have hni : (n : Int) ≤ 1000000 := by omega
  obtain ⟨M, hM⟩ : ∃ z, w.heap.size = z := ⟨_, rfl⟩
  rw [hM]
  have HM := hid hM
  have HCL := hid hcl
  clear hub hc hnn ht htc hall her hbl hb hnm hm hM hcl
  refine calls_via fun K hK => ?_
  go_enter Tryz.func66, Tryz.ntmps66
  go_wp2_with fail
  go_loopg [6] n (fun h i wr => ∃ q : Nat, n - t ≤ h ∧ h ≤ n ∧ wr = w.drewN q ∧ i = .int .i64 ((n - h : Nat) : Int))
  case atStart => exact ⟨0, by omega, by omega, rfl, by simp⟩
  case round =>
    obtain ⟨q, hh, hh2, rfl, rfl⟩ := hrel
    obtain ⟨k, hk⟩ : ∃ k, n - gk = k := ⟨_, rfl⟩
    rw [hk]
    have hkt : k ≤ t := by omega
    have hkn : k < n := by have := HT.out; omega
    have hkn2 : (k : Int) < n := by omega
    obtain ⟨g1, o1, b1, m1, c1, e1, q1, q2, q3⟩ := (HUB.out.fr0 (Fr.of_drewN (w := w) (n := q) [])).at HN.out hkn
    simp only [Option.some.injEq, Addr.mk.injEq, and_true] at e1
    obtain ⟨rfl, rfl⟩ := e1
    rw [Nat.zero_add] at q1
    have hyl := HBL.out _ (getDL_mem (cs := bag) (k := k) (by rw [HN.out]; exact hkn))
    have HSI := hid (sameInts_any q2 (HC.out.fr (Fr.of_drewN (w := w) (n := q) []) (by simp)) (by omega))
    have HK0 := hid hk
    have HKT := hid hkt
    have HH := hid (And.intro hh hh2)
    by_cases hkt2 : k = t
    · rw [decide_eq_true (show bag.getD k [] = c by rw [hkt2]; exact HTC.out)] at HSI
      have HKE := hid hkt2
      have hk1 : (k : Int) + 1 ≤ n := by omega
      clear hk hkt hyl q2 q3 hkt2 hh hh2
      have HDR := hid (HUB.out.drop (k + 1) (n - (k + 1)) (cap - (k + 1)) (by rw [HN.out]))
      have HFIN : Hid (bag.take k ++ bag.drop (k + 1) = bag.erase c) := hid (by rw [HER.out, ← HKE.out, List.eraseIdx_eq_take_drop_succ])
      have HNK : Hid (bag.drop (k + 1) = [] ∨ k + 1 < n) := hid (by
        by_cases z : k + 1 < n
        · exact .inr z
        · exact .inl (List.drop_of_length_le (by rw [HN.out]; omega)))
      by_cases hcc : cap = k + 1
      · have hnk : n = k + 1 := by omega
        have hdn : bag.drop (k + 1) = [] := List.drop_of_length_le (by rw [HN.out]; omega)
        have HDN := hid hdn
        clear hdn
        go_wp2_with (first
          | (go_at_call 56; refine HSI.out.mono ?_; rintro e w' ⟨rfl, n2, hw⟩; have hw2 := hw; subst hw2; clear hw)
          | (at_builtin; refine wp_appMs rfl _ _ rfl M (.slice none 0 0) [] rfl (OwnM.nil _ _ _) (.slice (some ⟨g, 0, none⟩) k (k + 1)) (us.take k) (bag.take k) rfl ((HUB.out.fr0 (Fr.of_drewN [])).take k (k + 1) (by have := HN.out; omega)) (by simp [Value.ownBlock]) (by have := HN.out; simp; omega) (by have := HM.out; simp; omega) ?_; intro v1 w1 ho1 hg1 ha1; have HO1 := hid ho1; have HF1 := hid ((Fr.of_drewN (w := w) (n := q + n2) []).grown hg1 (by simp [Value.ownBlock])); clear ho1 hg1 ha1)
          | (at_builtin; refine wp_appMs rfl _ _ rfl M v1 (bag.take k) rfl HO1.out (.slice (some ⟨g, 0, none⟩) 0 0) [] [] rfl ⟨rfl, by simp, .inr ⟨g, 0, 0, rfl, by simp⟩⟩ (by simp) (by have := HN.out; simp; omega) (by have := HM.out; have := HF1.out.size; omega) ?_; intro v2 w2 ho2 hg2 ha2; have HO2 := hid ho2; have HF2 := hid ((Fr.refl (blk v1) w1).grown hg2 (fun k hk _ => mem_blk.2 hk)); clear ho2 hg2 ha2))
        refine hK.out _ _ ⟨v2, rfl, ?_, HF1.out.trans2 HF2.out (fun y hy hlt => by have := HO1.out.ge y (mem_blk.1 hy); have := HM.out; omega)⟩
        rw [← HFIN.out, HDN.out]; exact HO2.out
      · go_wp2_with (first
          | (go_at_call 56; refine HSI.out.mono ?_; rintro e w' ⟨rfl, n2, hw⟩; have hw2 := hw; subst hw2; clear hw)
          | (at_builtin; refine wp_appMs rfl _ _ rfl M (.slice none 0 0) [] rfl (OwnM.nil _ _ _) (.slice (some ⟨g, 0, none⟩) k cap) (us.take k) (bag.take k) rfl ((HUB.out.fr0 (Fr.of_drewN [])).take k cap (by have := HN.out; omega)) (by simp [Value.ownBlock]) (by have := HN.out; simp; omega) (by have := HM.out; simp; omega) ?_; intro v1 w1 ho1 hg1 ha1; have HO1 := hid ho1; have HF1 := hid ((Fr.of_drewN (w := w) (n := q + n2) []).grown hg1 (by simp [Value.ownBlock])); clear ho1 hg1 ha1)
          | (at_builtin; refine wp_appMs rfl _ _ rfl M v1 (bag.take k) rfl HO1.out (.slice (some ⟨g, k + 1, none⟩) (n - (k + 1)) (cap - (k + 1))) (us.drop (k + 1)) (bag.drop (k + 1)) rfl (by have := HDR.out.fr0 HF1.out; rwa [Nat.zero_add] at this) (fun i hi g' hg' e => by have := (HDR.out.2.1 i hi).2.2 g' hg'; have := HO1.out.ge g' e; have := HM.out; omega) (by have := HN.out; simp; omega) (by have := HM.out; have := HF1.out.size; omega) ?_; intro v2 w2 ho2 hg2 ha2; have HO2 := hid ho2; have HF2 := hid ((Fr.refl (blk v1) w1).grown hg2 (fun k hk _ => mem_blk.2 hk)); clear ho2 hg2 ha2))
        refine hK.out _ _ ⟨v2, rfl, ?_, HF1.out.trans2 HF2.out (fun y hy hlt => by have := HO1.out.ge y (mem_blk.1 hy); have := HM.out; omega)⟩
        rw [← HFIN.out]; exact HO2.out
    · rw [decide_eq_false (HALL.out k (by omega))] at HSI
      have HKL : Hid (k < t) := hid (by omega)
      clear hk hkt hyl q2 q3 hkt2 hh hh2
      go_wp2_with (first | (go_at_call 56; refine HSI.out.mono ?_; rintro e w' ⟨rfl, n2, hw⟩; have hw2 := hw; subst hw2; clear hw))
      go_roundg (gk - 1)
      case measure => have := HKL.out; have := HK0.out; have := HT.out; omega
      case rel =>
        have hkl := HKL.out
        have hk := HK0.out
        have hT := HT.out
        have hh := HH.out
        have e1 : n - (gk - 1) = k + 1 := by omega
        exact ⟨_, by omega, by omega, by first | rfl | exact World.drewN_drewN _ _ _, by rw [e1]; simp⟩
end Go.Proofs.Qxb6500354aGreat
