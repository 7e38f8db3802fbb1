/- The constructors: search.New, tower.New. -/
import Derived.Test.Qxb6500354aGreatNw
namespace Go.Proofs.Qxb6500354aGreat
open Go.RowKit
set_option linter.unusedVariables false
set_option linter.unusedSimpArgs false

def newS (k : Nat) : SolverS := { SolverS.start with phase := fun i => if i < k then -1 else 0 }
theorem fin13 {P : Nat → Prop} (h0 : P 0) (h1 : P 1) (h2 : P 2) (h3 : P 3) (h4 : P 4) (h5 : P 5) (h6 : P 6) (h7 : P 7) (h8 : P 8) (h9 : P 9) (h10 : P 10) (h11 : P 11) (h12 : P 12) : ∀ i, i < 13 → P i := by
  intro i hi
  rcases (by omega : i = 0 ∨ i = 1 ∨ i = 2 ∨ i = 3 ∨ i = 4 ∨ i = 5 ∨ i = 6 ∨ i = 7 ∨ i = 8 ∨ i = 9 ∨ i = 10 ∨ i = 11 ∨ i = 12) with e | e | e | e | e | e | e | e | e | e | e | e | e <;> subst e <;> assumption
set_option maxRecDepth 100000 in
set_option maxHeartbeats 4000000 in
theorem newSlv_any (w : World) (p t wp l : Nat) : Calls Tryz.prog 23 #[.pointer (some ⟨p, 0, none⟩), .pointer (some ⟨t, 0, none⟩), .pointer (some ⟨wp, 0, none⟩), .pointer (some ⟨l, 0, none⟩)] w fun e w' => e = .returned (ptrV w.heap.size) ∧ SolverAt w' w.heap.size (SlvR ⟨w.heap.size, p, t, wp, l⟩ (newS 13) (.slice none 0 0)) ∧ Fr [] w w' := by
  obtain ⟨N, hN⟩ : ∃ N, w.heap.size = N := ⟨_, rfl⟩
  rw [hN]
  obtain ⟨w0, hw0⟩ : ∃ z, w.alloc (Obj.cells #[.pointer (some ⟨p, 0, none⟩), .pointer (some ⟨t, 0, none⟩), .pointer (some ⟨wp, 0, none⟩), .pointer (some ⟨l, 0, none⟩), .slice none 0 0, .int .i64 0, .int .i64 0, .int .i64 0, .int .i64 0, .int .i64 0, .int .i64 0, .int .i64 0, .int .i64 0, .int .i64 0, .int .i64 0, .int .i64 0, .int .i64 0, .int .i64 0, .int .i64 0, .int .i64 0, .int .i64 0, .int .i64 0, .int .i64 0, .int .i64 0, .int .i64 0, .int .i64 0, .int .i64 0, .int .i64 0, .int .i64 0, .int .i64 0, .int .i64 0, .int .i64 1, .int .u16 0, .int .i64 0, .int .i64 0, .int .i64 0, .int .i64 0] 114) = z := ⟨_, rfl⟩
  have hf0 : Fr [] w w0 := by rw [← hw0]; exact (Fr.refl _ _).alloc _
  have hp : SolverAt w0 N (SlvR ⟨N, p, t, wp, l⟩ (newS 0) (.slice none 0 0)) := by
    have hc := CellsAt.mk_alloc w [.pointer (some ⟨p, 0, none⟩), .pointer (some ⟨t, 0, none⟩), .pointer (some ⟨wp, 0, none⟩), .pointer (some ⟨l, 0, none⟩), .slice none 0 0, .int .i64 0, .int .i64 0, .int .i64 0, .int .i64 0, .int .i64 0, .int .i64 0, .int .i64 0, .int .i64 0, .int .i64 0, .int .i64 0, .int .i64 0, .int .i64 0, .int .i64 0, .int .i64 0, .int .i64 0, .int .i64 0, .int .i64 0, .int .i64 0, .int .i64 0, .int .i64 0, .int .i64 0, .int .i64 0, .int .i64 0, .int .i64 0, .int .i64 0, .int .i64 0, .int .i64 1, .int .u16 0, .int .i64 0, .int .i64 0, .int .i64 0, .int .i64 0] 114
    change CellsAt (w.alloc (Obj.cells #[.pointer (some ⟨p, 0, none⟩), .pointer (some ⟨t, 0, none⟩), .pointer (some ⟨wp, 0, none⟩), .pointer (some ⟨l, 0, none⟩), .slice none 0 0, .int .i64 0, .int .i64 0, .int .i64 0, .int .i64 0, .int .i64 0, .int .i64 0, .int .i64 0, .int .i64 0, .int .i64 0, .int .i64 0, .int .i64 0, .int .i64 0, .int .i64 0, .int .i64 0, .int .i64 0, .int .i64 0, .int .i64 0, .int .i64 0, .int .i64 0, .int .i64 0, .int .i64 0, .int .i64 0, .int .i64 0, .int .i64 0, .int .i64 0, .int .i64 0, .int .i64 1, .int .u16 0, .int .i64 0, .int .i64 0, .int .i64 0, .int .i64 0] 114)) w.heap.size _ at hc
    rw [hw0, hN] at hc
    refine ⟨hc.c 0 _ rfl, hc.c 1 _ rfl, hc.c 2 _ rfl, hc.c 3 _ rfl, hc.c 4 _ rfl, ?_, ?_, hc.c 31 _ rfl, hc.c 32 _ rfl, hc.c 33 _ rfl, hc.c 34 _ rfl, hc.c 35 _ rfl, hc.c 36 _ rfl, hc.fz⟩
    · exact fin13 (hc.c 5 _ rfl) (hc.c 6 _ rfl) (hc.c 7 _ rfl) (hc.c 8 _ rfl) (hc.c 9 _ rfl) (hc.c 10 _ rfl) (hc.c 11 _ rfl) (hc.c 12 _ rfl) (hc.c 13 _ rfl) (hc.c 14 _ rfl) (hc.c 15 _ rfl) (hc.c 16 _ rfl) (hc.c 17 _ rfl)
    · exact fin13 (hc.c 18 _ rfl) (hc.c 19 _ rfl) (hc.c 20 _ rfl) (hc.c 21 _ rfl) (hc.c 22 _ rfl) (hc.c 23 _ rfl) (hc.c 24 _ rfl) (hc.c 25 _ rfl) (hc.c 26 _ rfl) (hc.c 27 _ rfl) (hc.c 28 _ rfl) (hc.c 29 _ rfl) (hc.c 30 _ rfl)
  have HP := hid hp
  have HF := hid hf0
  have HN := hid hN
  clear hp hf0
  refine calls_via fun K hK => ?_
  go_enter Tryz.func23, Tryz.ntmps23
  go_wp2_with fail
  clear hw0 hN
  go_loopg [10] 13 (fun g i wr => ∃ k : Nat, g + k = 13 ∧ i = .int .i64 (k : Nat) ∧ SolverAt wr N (SlvR ⟨N, p, t, wp, l⟩ (newS k) (.slice none 0 0)) ∧ Fr [N] w0 wr)
  case atStart => exact ⟨0, by omega, rfl, HP.out, Fr.refl _ _⟩
  case round =>
    obtain ⟨k, hg, rfl, ht, hf⟩ := hrel
    have HT := hid ht
    have HF2 := hid hf
    have HG := hid hg
    by_cases hlt : k < 13
    · have hki : (k : Int) ≤ 12 := by omega
      have hki2 : (k : Int) < 13 := by omega
      have c1 := ht.phase k hlt
      have cz := ht.froz
      have HLT := hid hlt
      clear ht hf hg hlt
      go_wp2_with fail
      go_roundg (gk - 1)
      case measure => have := HG.out; have := HLT.out; omega
      case rel =>
        have hg := HG.out
        have hlt := HLT.out
        have h3 := HT.out.set_phase k hlt (-1)
        have e : ({ SlvR ⟨N, p, t, wp, l⟩ (newS k) (.slice none 0 0) with phase := upd (SlvR ⟨N, p, t, wp, l⟩ (newS k) (.slice none 0 0)).phase k (-1) } : SolverR) = SlvR ⟨N, p, t, wp, l⟩ (newS (k + 1)) (.slice none 0 0) := by
          unfold SlvR newS
          simp only [upd_lt]
        refine ⟨k + 1, by omega, by simp, ?_, HF2.out.setG _ _⟩
        rw [← e]; exact h3
    · have hk13 : k = 13 := by omega
      subst hk13
      clear ht hf hg hlt
      go_wp2_with fail
      exact hK.out _ _ ⟨rfl, HT.out, HF.out.trans2 HF2.out (fun x hx hlt => by have := HN.out; simp at hx; omega)⟩
set_option maxRecDepth 100000 in
set_option maxHeartbeats 4000000 in
theorem newTow_any (w : World) : Calls Tryz.prog 11 #[] w fun e w' => ∃ X s, e = .returned (ptrV X.tb) ∧ TwAt w' X s ∧ (∀ x ∈ foot X s, w.heap.size ≤ x) ∧ Fr [] w w' := by
  refine calls_via fun K hK => ?_
  go_enter Tryz.func11, Tryz.ntmps11
  go_wp2_with fail
  refine (newPar_any w).mono ?_
  rintro e w1 ⟨rfl, h1, hf1⟩
  obtain ⟨p, hp⟩ : ∃ z, w.heap.size = z := ⟨_, rfl⟩
  rw [hp] at h1 ⊢
  have HP0 := hid hp
  have H1 := hid h1
  have HF1 := hid hf1
  unfold ptrV
  clear h1 hf1 hp
  go_wp2_with fail
  refine (newTrl_any w1).mono ?_
  rintro e w2 ⟨rfl, h2, hf2⟩
  obtain ⟨t, ht⟩ : ∃ z, w1.heap.size = z := ⟨_, rfl⟩
  rw [ht] at h2 ⊢
  have HT0 := hid ht
  have H2 := hid h2
  have HF2 := hid hf2
  unfold ptrV
  clear h2 hf2 ht
  go_wp2_with fail
  refine (newWat_any w2 t).mono ?_
  rintro e w3 ⟨rfl, h3, hf3⟩
  obtain ⟨wt, hwt⟩ : ∃ z, w2.heap.size = z := ⟨_, rfl⟩
  rw [hwt] at h3 ⊢
  have HW0 := hid hwt
  have H3 := hid h3
  have HF3 := hid hf3
  unfold ptrV
  clear h3 hf3 hwt
  go_wp2_with fail
  refine (newLrn_any w3 t wt).mono ?_
  rintro e w4 ⟨rfl, h4, hf4⟩
  obtain ⟨l, hl⟩ : ∃ z, w3.heap.size = z := ⟨_, rfl⟩
  rw [hl] at h4 ⊢
  have HL0 := hid hl
  have H4 := hid h4
  have HF4 := hid hf4
  unfold ptrV
  clear h4 hf4 hl
  go_wp2_with fail
  refine (newSlv_any w4 p t wt l).mono ?_
  rintro e w5 ⟨rfl, h5, hf5⟩
  obtain ⟨sb, hsb⟩ : ∃ z, w4.heap.size = z := ⟨_, rfl⟩
  rw [hsb] at h5 ⊢
  have HS0 := hid hsb
  have H5 := hid h5
  have HF5 := hid hf5
  unfold ptrV
  clear h5 hf5 hsb
  go_wp2_with fail
  refine (newPar_any w5).mono ?_
  rintro e w6 ⟨rfl, h6, hf6⟩
  obtain ⟨q, hq⟩ : ∃ z, w5.heap.size = z := ⟨_, rfl⟩
  rw [hq] at h6 ⊢
  have HQ0 := hid hq
  have H6 := hid h6
  have HF6 := hid hf6
  unfold ptrV
  clear h6 hf6 hq
  go_wp2_with fail
  refine (newChk_any w6 q).mono ?_
  rintro e w7 ⟨rfl, h7, hf7⟩
  obtain ⟨k, hk⟩ : ∃ z, w6.heap.size = z := ⟨_, rfl⟩
  rw [hk] at h7 ⊢
  have HK0 := hid hk
  have H7 := hid h7
  have HF7 := hid hf7
  unfold ptrV
  clear h7 hf7 hk
  obtain ⟨tb, htb⟩ : ∃ z, w7.heap.size = z := ⟨_, rfl⟩
  have HTB := hid htb
  have hc := CellsAt.mk_alloc w7 [ptrV p, ptrV t, ptrV wt, ptrV l, ptrV sb, ptrV q, ptrV k] 66
  rw [htb] at hc
  have hf8 : Fr [] w7 (w7.alloc (.cells [ptrV p, ptrV t, ptrV wt, ptrV l, ptrV sb, ptrV q, ptrV k].toArray 66)) := (Fr.refl _ _).alloc _
  have HC := hid hc
  have HF8 := hid hf8
  clear hc hf8
  go_wp2_with fail
  have o1 := H1.out.at_.lt
  have o2 := H2.out.lt
  have o3 := H3.out.lt
  have o4 := H4.out.lt
  have o5 := H5.out.lt
  have o6 := H6.out.at_.lt
  have o7 := H7.out.lt
  have e1 := HP0.out
  have e2 := HT0.out
  have e3 := HW0.out
  have e4 := HL0.out
  have e5 := HS0.out
  have e6 := HQ0.out
  have e7 := HK0.out
  have e8 := HTB.out
  have s2 := HF2.out.size
  have s3 := HF3.out.size
  have s4 := HF4.out.size
  have s5 := HF5.out.size
  have s6 := HF6.out.size
  have s7 := HF7.out.size
  have s8 := HF8.out.size
  have f78 := HF7.out.trans HF8.out
  have f68 := HF6.out.trans f78
  have f58 := HF5.out.trans f68
  have f48 := HF4.out.trans f58
  have f38 := HF3.out.trans f48
  have f28 := HF2.out.trans f38
  have hlt8 : ∀ x, x < tb → x < (w7.alloc (.cells [ptrV p, ptrV t, ptrV wt, ptrV l, ptrV sb, ptrV q, ptrV k].toArray 66)).heap.size := fun x hx => by omega
  refine hK.out _ _ ⟨⟨tb, ⟨sb, p, t, wt, l⟩, q, k⟩, ⟨.empty, .empty, newS 13, .slice none 0 0, .idle, .slice none 0 0, fun _ => none, .idle, .slice none 0 0⟩, rfl, ⟨HC.out, ⟨⟨?_, ?_, ⟨?_, OwnI.nil _ _, by show (0 : Nat) < 2 ^ 16; decide, by simp [Value.ownBlock]⟩, ?_, ?_, ?_⟩, ?_, by simp [Value.ownBlock], rfl⟩, ?_, ?_, ?_, by simp [Value.ownBlock], by simp [Value.ownBlock], by simp [Value.ownBlock]⟩, ?_, HF1.out.trans f28⟩
  · simp [Eb.all]; omega
  · intro g hg; simp [Eb.all] at hg; refine hlt8 _ ?_; omega
  · exact H5.out.fr f68 (by simp)
  · exact H2.out.fr f38 (by simp)
  · exact H3.out.fr f48 (by simp)
  · exact H4.out.fr f58 (by simp)
  · exact H1.out.fr f28 (by simp) (by simp)
  · exact H7.out.fr HF8.out (by simp)
  · exact H6.out.fr f78 (by simp) (by simp)
  · simp [Eb.all]; omega
  · intro x hx
    rcases mem_foot.1 hx with e | e | e | e | e | e | e
    · simp only [] at e; omega
    · simp only [] at e; omega
    · simp only [] at e; omega
    · simp [Eb.all] at e; omega
    · simp [Value.ownBlock] at e
    · simp [Value.ownBlock] at e
    · simp [Value.ownBlock] at e
end Go.Proofs.Qxb6500354aGreat
