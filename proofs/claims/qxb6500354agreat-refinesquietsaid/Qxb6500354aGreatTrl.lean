/- THE WALKS over trail (and the smallest of api). -/
import Derived.Test.Qxb6500354aGreatObj
namespace Go.Proofs.Qxb6500354aGreat
open Go.RowKit
set_option linter.unusedVariables false
set_option linter.unusedSimpArgs false


theorem good_any (l : Int) (w : World) : Calls Tryz.prog 88 #[.int .i64 l] w fun e w' => e = .returned (.bool (good l)) ∧ w' = w := by
  by_cases h0 : l = 0
  · subst h0
    go_enter Tryz.func88, Tryz.ntmps88
    go_wp2
    go_ret
    exact ⟨rfl, rfl⟩
  · by_cases h1 : -12 ≤ l
    · by_cases h2 : l ≤ 12
      · go_enter Tryz.func88, Tryz.ntmps88
        go_wp2
        go_ret
        exact ⟨by simp [good, h0, h1, h2], rfl⟩
      · go_enter Tryz.func88, Tryz.ntmps88
        go_wp2
        go_ret
        exact ⟨by simp [good, h0, h1, h2], rfl⟩
    · go_enter Tryz.func88, Tryz.ntmps88
      go_wp2
      go_ret
      exact ⟨ret_bool (by simp [good, h0]; omega), rfl⟩

theorem good_iff (l : Int) : good l = true ↔ l ≠ 0 ∧ l.natAbs ≤ 12 := by
  simp only [good, Bool.and_eq_true, bne_iff_ne, decide_eq_true_eq]; omega
theorem good_not (l : Int) : good l = false ↔ ¬ (l ≠ 0 ∧ l.natAbs ≤ 12) := by
  rw [← good_iff]; simp

theorem var_any (l : Int) (w : World) (h0 : -12 ≤ l) (h1 : l ≤ 12) :
    Calls Tryz.prog 89 #[.int .i64 l] w fun e w' => e = .returned (.int .i64 (l.natAbs : Nat)) ∧ w' = w := by
  by_cases h : l < 0
  · go_enter Tryz.func89, Tryz.ntmps89
    go_wp2
    go_ret
    exact ⟨ret_int (by omega), rfl⟩
  · go_enter Tryz.func89, Tryz.ntmps89
    go_wp2
    go_ret
    exact ⟨ret_int (by omega), rfl⟩

theorem var_v {l : Int} {v : Nat} (h : l.natAbs = v) (h0 : v ≤ 12) (w : World) :
    Calls Tryz.prog 89 #[.int .i64 l] w fun e w' => e = .returned (.int .i64 v) ∧ w' = w := by
  subst h; exact var_any l w (by omega) (by omega)

/-- The raw cells of a trail are those of T. -/
structure TrailOf (R : TrailR) (T : TrailS) : Prop where
  len : T.st.length ≤ 12
  dle : T.lims.length ≤ 12
  gd : ∀ p ∈ T.st, good p.1 = true
  top : R.top = T.st.length
  cursor : R.cursor = T.cursor
  depth : R.depth = T.lims.length
  stack : ∀ i, i < T.st.length → R.stack i = T.litAt i
  val : ∀ v, v < 13 → R.val v = T.value v
  level : ∀ v, v < 13 → R.level v = T.level v
  reason : ∀ v, v < 13 → R.reason v = T.reason v
  place : ∀ v, v < 13 → R.place v = T.place v
  lim : ∀ k, k < T.lims.length → R.lim (k + 1) = T.lims.getD k 0
/-- What holds of every trail. -/
structure TrailOK (T : TrailS) : Prop where
  gd : ∀ p ∈ T.st, good p.1 = true
  dist : (T.st.map fun p => p.1.natAbs).Nodup
  cur : T.cursor ≤ T.st.length
  lims : T.lims.Pairwise (· < ·)
  limlt : ∀ k ∈ T.lims, k < T.st.length
def TrlAt (w : World) (b : Nat) (T : TrailS) : Prop := ∃ R, TrailAt w b R ∧ TrailOf R T ∧ TrailOK T

theorem value_bd (T : TrailS) (l : Int) : T.value l = 0 ∨ T.value l = 1 ∨ T.value l = -1 := by
  unfold TrailS.value valOf; split
  · exact .inl rfl
  · split <;> simp
theorem findV_none {st : List (Int × Int)} {v : Nat} (h : ∀ p ∈ st, p.1.natAbs ≠ v) : findV st v = none := by
  unfold findV; rw [List.find?_eq_none]; intro p hp; simpa using h p hp
theorem value_bad {T : TrailS} (hg : ∀ p ∈ T.st, good p.1 = true) {l : Int} (h : good l = false) : T.value l = 0 := by
  unfold TrailS.value
  rw [findV_none]
  · rfl
  · intro p hp e
    have := (good_iff _).1 (hg p hp)
    have h2 := (good_not _).1 h
    exact h2 (by omega)
theorem value_neg {T : TrailS} (l : Int) (hl : l ≠ 0) : T.value (-l) = - T.value l := by
  unfold TrailS.value
  rw [Int.natAbs_neg]
  unfold findV
  cases h : T.st.find? (fun p => p.1.natAbs == l.natAbs) with
  | none => simp [valOf]
  | some p =>
    have := List.find?_some h
    simp at this
    simp only [valOf]
    split <;> split <;> omega

theorem value_any {w : World} {b : Nat} {T : TrailS} (h : TrlAt w b T) (l : Int) :
    Calls Tryz.prog 59 #[.pointer (some ⟨b, 0, none⟩), .int .i64 l] w fun e w' => e = .returned (.int .i64 (T.value l)) ∧ w' = w := by
  obtain ⟨R, hR, ho, -⟩ := h
  have hv := hR.val
  clear hR
  by_cases hg : good l = true
  · have hgd := (good_iff l).1 hg
    by_cases hn : l < 0
    · obtain ⟨n, hn1⟩ := Int.eq_ofNat_of_zero_le (show 0 ≤ -l by omega)
      obtain rfl : l = -(n : Int) := by omega
      have hvn := hv n (by omega)
      have hb : n ≤ 12 := by omega
      have h1 := ho.val n (by omega)
      have h2 := value_bd T n
      have hq : -1 ≤ R.val n ∧ R.val n ≤ 1 := by omega
      have h3 : Hid (- R.val n = T.value (-(n : Int))) := by
        show _ = _
        rw [value_neg _ (by omega), h1]
      clear h1 h2 ho hn1 hgd hv
      go_enter Tryz.func59, Tryz.ntmps59
      go_wp2_with (go_at_call 88; refine (good_any _ _).mono ?_; rintro e w' ⟨rfl, rfl⟩)
      go_ret
      exact ⟨ret_int h3.out, rfl⟩
    · obtain ⟨n, rfl⟩ := Int.eq_ofNat_of_zero_le (show 0 ≤ l by omega)
      have hvn := hv n (by omega)
      have hb : n ≤ 12 := by omega
      have h1 := ho.val n (by omega)
      have h2 := value_bd T n
      have hq : -1 ≤ R.val n ∧ R.val n ≤ 1 := by omega
      have h3 : Hid (R.val n = T.value (n : Int)) := h1
      clear h1 h2 ho hgd hv
      go_enter Tryz.func59, Tryz.ntmps59
      go_wp2_with (go_at_call 88; refine (good_any _ _).mono ?_; rintro e w' ⟨rfl, rfl⟩)
      go_ret
      exact ⟨ret_int h3.out, rfl⟩
  · have hg' : good l = false := by simpa using hg
    have hz : Hid (0 = T.value l) := (value_bad ho.gd hg').symm
    clear hg ho
    go_enter Tryz.func59, Tryz.ntmps59
    go_wp2_with (go_at_call 88; refine (good_any _ _).mono ?_; rintro e w' ⟨rfl, rfl⟩)
    go_ret
    exact ⟨ret_int hz.out, rfl⟩
end Go.Proofs.Qxb6500354aGreat
