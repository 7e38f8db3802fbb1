/- THE WALK over check.Check, whole; the real checker is the definition. -/
import Derived.Test.Qxb6500354aGreatChk12
namespace Go.Proofs.Qxb6500354aGreat
open Go.RowKit
set_option linter.unusedVariables false
set_option linter.unusedSimpArgs false

theorem survey_zero {rs : List (Bool × List Int)} (h : ∀ r ∈ rs, checkClause r.2 = 0) (hs : surveyF (flatOf rs) = 0) : rs.any (fun r => r.1) = false ∧ rs.length ≤ 40 := by
  rw [survey_flat h] at hs
  split at hs
  · omega
  · next h1 =>
    split at hs
    · omega
    · next h2 => exact ⟨by simpa using h1, by omega⟩
theorem check_any {w : World} {b q : Nat} {sl : Slots} {av : Value} {P0 : ParS} (h : CkAt w b q sl) (hp : ParAt w q P0 av) (hbq : b ≠ q) (hab : av.ownBlock ≠ some b) (s1 s2 : ByteArray) (hs1 : s1.size ≤ maxLen) (hs2 : s2.size ≤ maxLen) :
    Calls Tryz.prog 39 #[.pointer (some ⟨b, 0, none⟩), .string s1, .string s2] w fun e w' => e = .returned (.agg #[.int .i64 ((chkF (bytesOf s1) (bytesOf s2)).err : Nat), .int .i64 ((chkF (bytesOf s1) (bytesOf s2)).whr : Nat), .int .i64 ((chkF (bytesOf s1) (bytesOf s2)).pos : Nat)]) ∧ ChkOut w w' b q av := by
  obtain ⟨C, hC⟩ : ∃ N, w.heap.size = N := ⟨_, rfl⟩
  have hC0 := CellsAt.mk_alloc w [.int .i64 0, .int .i64 0, .int .i64 0] 48
  obtain ⟨w0, hw0⟩ : ∃ w0, w.alloc (Obj.cells #[.int .i64 0, .int .i64 0, .int .i64 0] 48) = w0 := ⟨_, rfl⟩
  change CellsAt (w.alloc (Obj.cells #[.int .i64 0, .int .i64 0, .int .i64 0] 48)) w.heap.size _ at hC0
  rw [hw0, hC] at hC0
  have hf0 : Fr [] w w0 := by rw [← hw0]; exact (Fr.refl _ _).alloc _
  have hst0 : CSt w w0 b q C av av P0 sl := ⟨h.fr hf0 (by simp), hp.fr hf0 (by simp) (by simp), hC0, Nx.refl _ _, hf0.mono (by simp), hC, hbq, by rw [← hC]; exact h.lt, by rw [← hC]; exact lt_of_cellB hp.at_.err, hab, fun e => by have := hp.own.lt C e; omega⟩
  obtain ⟨r1, hr1⟩ : ∃ r, parseF (bytesOf s1) = r := ⟨_, rfl⟩
  obtain ⟨r2, hr2⟩ : ∃ r, parseF (bytesOf s2) = r := ⟨_, rfl⟩
  have hp1 := parse_any2 hst0.par s1 hs1
  rw [hr1] at hp1
  have hp2 := fun (w2 : World) (P2 : ParS) (av2 : Value) (h2 : ParAt w2 q P2 av2) => parse_any2 h2 s2 hs2
  rw [hr2] at hp2
  unfold chkF
  rw [hr1, hr2]
  have hn1 := parseF_flatN (bytesOf s1)
  have hl1 := parseF_len2 (bytesOf s1)
  have hn2 := parseF_flatN (bytesOf s2)
  have hl2 := parseF_len2 (bytesOf s2)
  rw [hr1] at hn1 hl1
  rw [hr2] at hn2 hl2
  obtain ⟨e1, p1, f1⟩ := r1
  obtain ⟨e2, p2, f2⟩ := r2
  simp only [] at hp1 hp2 hn1 hl1 hn2 hl2 ⊢
  by_cases c1 : e1 = 0
  · subst c1
    rw [if_pos rfl]
    obtain ⟨sv, hsv⟩ : ∃ x, surveyF f1 = x := ⟨_, rfl⟩
    rw [hsv]
    by_cases c2 : sv = 0
    · subst c2
      rw [if_pos rfl]
      by_cases c3 : e2 = 0
      · subst c3
        rw [if_pos rfl]
        obtain ⟨rs1, rfl, hc1⟩ := hn1
        obtain ⟨rs2, rfl, hc2⟩ := hn2
        rw [rowsOf_flat hc1, rowsOf_flat hc2]
        exact check_4 hC hw0 (hid hst0) (hid hl1) (hid hl2) (hid hsv) (hid hc1) (hid hc2) (hid (survey_zero hc1 hsv).2) (hid hp1) (hid hp2)
      · rw [if_neg c3]
        exact check_3 hC hw0 (hid hst0) (hid hl1) (hid hsv) c3 (hid hp1) (hid hp2)
    · rw [if_neg c2]
      exact check_2 hC hw0 (hid hst0) (hid hl1) (hid hsv) c2 (hid hp1)
  · rw [if_neg c1]
    exact check_1 hC hw0 (hid hst0) c1 (hid hp1)

theorem problemF_flat {bs : List Nat} {rs : List (Bool × List Int)} (hc : ∀ r ∈ rs, checkClause r.2 = 0) (he : (parseM bs).err = 0) (hf : (parseM bs).flat = flatOf rs) :
    problemF bs = if surveyF (flatOf rs) = 0 then (rs.map (fun r => r.2), 0, 0) else ([], surveyF (flatOf rs), 0) := by
  unfold problemF
  simp only []
  rw [if_pos he, hf, rowsOf_flat hc, survey_flat hc]
  by_cases h1 : rs.any (fun r => r.1) = true
  · rw [if_pos h1, if_pos h1, if_neg (by decide)]
  · rw [if_neg h1, if_neg h1]
    by_cases h2 : 40 < rs.length
    · rw [if_pos h2, if_pos h2, if_neg (by decide)]
    · rw [if_neg h2, if_neg h2, if_pos rfl]
/-- THE REAL CHECKER IS THE DEFINITION. -/
theorem chkF_eq (pb pf : List Nat) : chkF pb pf = checkMF pb pf := by
  unfold chkF checkMF
  rw [parseF_eq, parseF_eq]
  obtain ⟨rs1, h1, hc1⟩ := parseM_flat pb
  obtain ⟨rs2, h2, hc2⟩ := parseM_flat pf
  by_cases he : (parseM pb).err = 0
  · rw [if_pos he, problemF_flat hc1 he h1, h1]
    by_cases hs : surveyF (flatOf rs1) = 0
    · rw [if_pos hs, if_pos hs, if_pos rfl]
      by_cases he2 : (parseM pf).err = 0
      · rw [if_pos he2, if_pos he2, h2, rowsOf_flat hc1, rowsOf_flat hc2]
        obtain ⟨k1, k2⟩ := load_bag rs1 _ SlOK.none (by rw [bag_none]; have := (survey_zero hc1 hs).2; simp; omega) hc1
        rw [bag_none, List.append_nil] at k2
        exact follow_law rs2 0 _ _ k1 k2 hc2
      · rw [if_neg he2, if_neg he2]
    · rw [if_neg hs, if_neg hs, if_neg hs]
  · have hp : problemF pb = ([], (parseM pb).err, (parseM pb).pos) := by unfold problemF; simp only []; rw [if_neg he]
    rw [if_neg he, hp, if_neg he]
end Go.Proofs.Qxb6500354aGreat
