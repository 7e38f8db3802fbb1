/- THE WALKS over learn: refuse, allFalse, spare, climb. -/
import Derived.Test.Qxb6500354aGreatLrn2
namespace Go.Proofs.Qxb6500354aGreat
open Go.RowKit
set_option linter.unusedVariables false
set_option linter.unusedSimpArgs false

/-- The four cells of a Learnt. -/
def lrCells (e : Nat) (s : Value) (a k : Int) : Array Value := #[.int .i64 (e : Nat), s, .int .i64 a, .int .i64 k]
structure LearntAt (w : World) (g : Nat) (e : Nat) (s : Value) (a k : Int) : Prop where
  c0 : w.cell? ⟨g, 0, none⟩ = some (.int .i64 (e : Nat))
  c1 : w.cell? ⟨g, 1, none⟩ = some s
  c2 : w.cell? ⟨g, 2, none⟩ = some (.int .i64 a)
  c3 : w.cell? ⟨g, 3, none⟩ = some (.int .i64 k)
  fz : ∀ i, w.frozen? ⟨g, i, none⟩ = false
theorem learnt_alloc (w : World) (t : TypeId) : LearntAt (w.alloc (.cells #[.int .i64 0, .slice none 0 0, .int .i64 0, .int .i64 0] t)) w.heap.size 0 (.slice none 0 0) 0 0 := by
  refine ⟨?_, ?_, ?_, ?_, ?_⟩
  · exact (World.cell?_alloc_new _ _ _ 0).trans rfl
  · exact (World.cell?_alloc_new _ _ _ 1).trans rfl
  · exact (World.cell?_alloc_new _ _ _ 2).trans rfl
  · exact (World.cell?_alloc_new _ _ _ 3).trans rfl
  · intro i; exact World.frozen?_alloc_new _ _ _ i
theorem LearntAt.fr {S : List Nat} {w w2 : World} {g e : Nat} {s : Value} {a k : Int} (h : LearntAt w g e s a k) (hf : Fr S w w2) (hn : g ∉ S) : LearntAt w2 g e s a k :=
  ⟨hf.cell h.c0 hn, hf.cell h.c1 hn, hf.cell h.c2 hn, hf.cell h.c3 hn, fun i => (hf.froz (lt_of_cellB h.c0) hn).trans (h.fz i)⟩

theorem refuse_any {w : World} {b tb wb : Nat} {A : LearnS} (h : LrnAt w b tb wb A) (e : Nat) (he : e < 100) :
    Calls Tryz.prog 119 #[.pointer (some ⟨b, 0, none⟩), .int .i64 (e : Nat)] w fun r w' => r = .returned (.agg #[.int .i64 (e : Nat), .slice none 0 0, .int .i64 0, .int .i64 0]) ∧ LrnAt w' b tb wb .clean ∧ Fr [b] w w' := by
  have hblt := h.lt
  have HW := hid (fun o => wipe_any (h.alloc o))
  clear h
  refine calls_via fun K hK => ?_
  go_enter Tryz.func119, Tryz.ntmps119
  go_wp2_with fail
  obtain ⟨w1, hw1⟩ : ∃ w1, w.alloc (Obj.cells #[.int .i64 0, .slice none 0 0, .int .i64 0, .int .i64 0] 153) = w1 := ⟨_, rfl⟩
  have hl := learnt_alloc w 153
  have hf1 : Fr [b] w w1 := by rw [← hw1]; exact (Fr.refl _ _).alloc _
  have HW1 := HW.out (Obj.cells #[.int .i64 0, .slice none 0 0, .int .i64 0, .int .i64 0] 153)
  rw [hw1] at hl HW1 ⊢
  obtain ⟨N, hN⟩ : ∃ N, w.heap.size = N := ⟨_, rfl⟩
  rw [hN] at hl hblt ⊢
  refine HW1.mono ?_
  rintro r w2 ⟨rfl, hA, hf2⟩
  have hl2 := hl.fr hf2 (by simp; omega)
  have c0 := hl2.c0
  have c1 := hl2.c1
  have c2 := hl2.c2
  have c3 := hl2.c3
  have fz := hl2.fz
  have HA := hid hA
  have HF := hid (hf1.trans hf2)
  clear hA hf1 hf2 hl hl2 HW1 HW hw1
  go_wp2_with fail
  refine bodyPost_ret (v := .agg #[.int .i64 (e : Nat), .slice none 0 0, .int .i64 0, .int .i64 0]) (by simp [results, Tryz.results119, go_sem, cellSet, c0, c1, c2, c3]) rfl ?_
  refine hK.out _ _ ⟨rfl, ?_, ?_⟩
  · have hne : b ≠ N := by omega
    exact (((HA.out.other hne _).other hne _).other hne _).other hne _
  · have hNs : ¬ N < w.heap.size := by omega
    exact (((HF.out.set (fun q => absurd q hNs) _).set (fun q => absurd q hNs) _).set (fun q => absurd q hNs) _).set (fun q => absurd q hNs) _

/-! ### allFalse -/
theorem allFalseF_drop {T : TrailS} {c : List Int} {n k : Nat} (hn : c.length = n) (hk : k < n) : allFalseF T (c.drop k) = (decide (T.value (c.getD k 0) = -1) && allFalseF T (c.drop (k + 1))) := by
  unfold allFalseF; rw [drop_cons' hn hk]; rfl
set_option maxHeartbeats 1000000 in
theorem allFalse_any {w : World} {b tb wb : Nat} {A : LearnS} {T : TrailS} (h : LrnAt w b tb wb A) (ht : TrlAt w tb T) {v : Value} {c : List Int} (hc : Ints w v c) (hc12 : c.length ≤ 12) :
    Calls Tryz.prog 117 #[.pointer (some ⟨b, 0, none⟩), v] w fun e w' => e = .returned (.bool (allFalseF T c)) ∧ ∃ n, w' = w.drewN n := by
  obtain ⟨a, cap, hea⟩ := hc.len
  subst hea
  obtain ⟨n, hn⟩ : ∃ n, c.length = n := ⟨_, rfl⟩
  rw [hn] at hc hc12 ⊢
  have htp := h.1.t
  change w.cell? ⟨b, 0, none⟩ = some (.pointer (some ⟨tb, 0, none⟩)) at htp
  have HT := hid (fun q => ht.drewN (n := q))
  have HC := hid hc
  have HN := hid hn
  obtain ⟨res, hres⟩ : ∃ r, allFalseF T c = r := ⟨_, rfl⟩
  rw [hres]
  have HRES := hid hres
  clear h ht hc hn hres
  refine calls_via fun K hK => ?_
  go_enter Tryz.func117, Tryz.ntmps117
  go_wp2_with fail
  go_loopg [5] n (fun g i wr => g ≤ n ∧ i = .int .i64 ((n - g : Nat) : Int) ∧ (∃ q, wr = w.drewN q) ∧ res = allFalseF T (c.drop (n - g)))
  case atStart => exact ⟨by omega, by simp, ⟨0, rfl⟩, by simpa using HRES.out.symm⟩
  case round =>
    obtain ⟨hgn, rfl, ⟨q, hq⟩, he⟩ := hrel
    have htpr : wr.cell? ⟨b, 0, none⟩ = some (.pointer (some ⟨tb, 0, none⟩)) := by rw [hq]; exact htp
    have HTR : Hid (∀ n, TrlAt (wr.drewN n) tb T) := by rw [hq]; exact fun n => (HT.out q).drewN
    have hcr := (fun (h : Ints w (.slice a n cap) c) => (show Ints wr (.slice a n cap) c from by rw [hq]; exact h)) HC.out
    have HQ := hid hq
    clear hq htp
    by_cases hlt : 0 < gk
    · obtain ⟨k, hk⟩ : ∃ k, n - gk = k := ⟨_, rfl⟩
      rw [hk] at he ⊢
      have hkn : k < n := by omega
      have hkn2 : (k : Int) < n := by omega
      obtain ⟨g1, o1, rfl, hcell⟩ := hcr.at HN.out hkn
      rw [allFalseF_drop HN.out hkn] at he
      have HK := hid hk
      obtain ⟨x, hx⟩ : ∃ x, c.getD k 0 = x := ⟨_, rfl⟩
      rw [hx] at he hcell
      have HV := hid (fun n => value_any (HTR.out n) x)
      obtain ⟨y, hy⟩ : ∃ y, T.value x = y := ⟨_, rfl⟩
      rw [hy] at he HV
      clear hk hx hy hcr
      by_cases hy1 : y = -1
      · have hb1 : (y != -1) = false := by simp [hy1]
        rw [decide_eq_true hy1, Bool.true_and] at he
        have HE := hid he
        clear he hy1
        go_wp2_with fail
        go_quiet ((go_at_call 59; exact Calls.quiet_of_same (HV.out _)))
        go_wp2_with fail
        go_roundg (gk - 1)
        case measure => omega
        case rel =>
          have hk := HK.out
          refine ⟨by omega, ?_, ⟨_, by rw [HQ.out]; exact World.drewN_drewN _ _ _⟩, ?_⟩
          · rw [show n - (gk - 1) = k + 1 from by omega]; simp
          · rw [show n - (gk - 1) = k + 1 from by omega]; exact HE.out
      · have hb1 : (y != -1) = true := by simp [hy1]
        rw [decide_eq_false hy1, Bool.false_and] at he
        have HE := hid he
        clear he hy1
        go_wp2_with fail
        go_quiet ((go_at_call 59; exact Calls.quiet_of_same (HV.out _)))
        go_wp2_with fail
        exact hK.out _ _ ⟨by rw [HE.out]; rfl, _, by rw [HQ.out]; exact World.drewN_drewN _ _ _⟩
    · have hg0 : gk = 0 := by omega
      subst hg0
      have hdn : c.drop (n - 0) = [] := by rw [List.drop_eq_nil_iff, HN.out]; omega
      rw [hdn] at he
      have HE : Hid (res = true) := he
      clear he hdn
      go_wp2_with fail
      exact hK.out _ _ ⟨by rw [HE.out]; rfl, _, HQ.out⟩
end Go.Proofs.Qxb6500354aGreat
