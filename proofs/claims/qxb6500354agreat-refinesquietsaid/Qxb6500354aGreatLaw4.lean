/- PLAIN LAW: what the parser answers is a list of rows in normal form. -/
import Derived.Test.Qxb6500354aGreatLaw3
import Derived.Test.Qxb6500354aGreatSrch10
import Derived.Test.Qxb6500354aGreatPar5
namespace Go.Proofs.Qxb6500354aGreat
set_option linter.unusedVariables false
set_option linter.unusedSimpArgs false

theorem ccLoop_cons2 (l : Int) (r : List Int) (last : Nat) : ccLoop (l :: r) last = if good l then (if last < l.natAbs then ccLoop r l.natAbs else 8) else 7 := rfl
theorem normM_nf {row : List Int} : ∀ {n v : Nat} {r : List Int}, 1 ≤ v → v + n ≤ 13 → normM row n v = some r → r.length ≤ n ∧ ∀ last, last < v → ccLoop r last = 0 := by
  intro n
  induction n with
  | zero => intro v r _ _ h; cases h; exact ⟨by simp, fun _ _ => rfl⟩
  | succ n ih =>
    intro v r h1 h2 h
    rw [normM_succ] at h
    by_cases hb : row.contains (v : Int) = true ∧ row.contains (-(v : Int)) = true
    · rw [if_pos hb] at h; cases h
    · rw [if_neg hb] at h
      cases e : normM row n (v + 1) with
      | none => rw [e] at h; cases h
      | some r2 =>
        rw [e, Option.map_some] at h
        injection h with h
        obtain ⟨a, b⟩ := ih (by omega) (by omega) e
        have gp : good (v : Int) = true := (good_iff _).2 (by omega)
        have gn : good (-(v : Int)) = true := (good_iff _).2 (by omega)
        by_cases p1 : row.contains (v : Int) = true
        · by_cases p2 : row.contains (-(v : Int)) = true
          · exact absurd ⟨p1, p2⟩ hb
          · rw [if_pos p1, if_neg p2] at h
            have h3 : r = (v : Int) :: r2 := by rw [← h]; rfl
            subst h3
            refine ⟨by simp; omega, fun last hl => ?_⟩
            rw [ccLoop_cons2, if_pos gp, if_pos (by omega)]
            exact b _ (by omega)
        · by_cases p2 : row.contains (-(v : Int)) = true
          · rw [if_neg p1, if_pos p2] at h
            have h3 : r = -(v : Int) :: r2 := by rw [← h]; rfl
            subst h3
            refine ⟨by simp; omega, fun last hl => ?_⟩
            rw [ccLoop_cons2, if_pos gn, if_pos (by omega)]
            exact b _ (by omega)
          · rw [if_neg p1, if_neg p2] at h
            have h3 : r = r2 := by rw [← h]; rfl
            subst h3
            exact ⟨by omega, fun last hl => b last (by omega)⟩
theorem rowM_flat (d : Bool) (row : List Int) : rowM d row = [] ∨ ∃ c, rowM d row = flatRow (d, c) ∧ checkClause c = 0 := by
  unfold rowM
  cases e : normM row 12 1 with
  | none => left; rfl
  | some c =>
    right
    obtain ⟨a, b⟩ := normM_nf (Nat.le_refl _) (by omega) e
    refine ⟨c, rfl, ?_⟩
    unfold checkClause
    rw [if_neg (by omega)]
    exact b 0 (by omega)
/-- f is the flat form of rows in normal form. -/
def FlatN (f : List Int) : Prop := ∃ rs, f = flatOf rs ∧ ∀ r ∈ rs, checkClause r.2 = 0
theorem FlatN.nil : FlatN [] := ⟨[], rfl, by simp⟩
theorem FlatN.row {f : List Int} (h : FlatN f) (d : Bool) (row : List Int) : FlatN (f ++ rowM d row) := by
  obtain ⟨rs, e, hn⟩ := h
  rcases rowM_flat d row with q | ⟨c, q, hc⟩
  · rw [q, List.append_nil]; exact ⟨rs, e, hn⟩
  · refine ⟨rs ++ [(d, c)], by rw [flatOf_snoc, q, e], fun r hr => ?_⟩
    rcases List.mem_append.1 hr with x | x
    · exact hn r x
    · rw [List.mem_singleton] at x; subst x; exact hc
theorem parseMLoop_flat : ∀ (n : Nat) (l : List Nat) (i : Nat) (flat row : List Int) (del opn : Bool), FlatN flat → FlatN (parseMLoop n l i flat row del opn).flat := by
  intro n
  induction n with
  | zero => intro l i flat row del opn h; exact FlatN.nil
  | succ n ih =>
    intro l i flat row del opn h
    cases l with
    | nil =>
      rw [parseML_nil0]
      split
      · exact FlatN.nil
      · exact h
    | cons c r =>
      cases hs : spaceB c with
      | true => rw [parseML_cons0 _ _ _ _ _ _ _ _ hs]; exact ih _ _ _ _ _ _ h
      | false =>
        rw [parseML_step _ _ _ _ _ _ _ _ hs _ rfl]
        split
        · exact ih _ _ _ _ _ _ h
        · split
          · split
            · exact FlatN.nil
            · split
              · exact FlatN.nil
              · exact ih _ _ _ _ _ _ h
          · split
            · split
              · exact ih _ _ _ _ _ _ (h.row _ _)
              · exact ih _ _ _ _ _ _ h
            · exact FlatN.nil
theorem parseM_flat (bs : List Nat) : FlatN (parseM bs).flat := by
  unfold parseM
  split
  · exact FlatN.nil
  · exact parseMLoop_flat _ _ _ _ _ _ _ FlatN.nil
theorem rowsL_lits : ∀ (c : List Int) (rest : List Int) (d : Bool) (cur : List Int), (∀ x ∈ c, good x = true) → rowsL (c ++ rest) d cur = rowsL rest d (cur ++ c) := by
  intro c
  induction c with
  | nil => intro rest d cur _; simp
  | cons x t ih =>
    intro rest d cur h
    have hg := (good_iff x).1 (h x List.mem_cons_self)
    rw [List.cons_append]
    show (if x = 13 then _ else if x = 0 then _ else rowsL (t ++ rest) d (cur ++ [x])) = _
    rw [if_neg (by omega), if_neg hg.1, ih _ _ _ (fun y hy => h y (List.mem_cons_of_mem _ hy)), List.append_assoc]; rfl
theorem rowsL_row (r : Bool × List Int) (rest : List Int) (hc : checkClause r.2 = 0) : rowsL (flatRow r ++ rest) false [] = r :: rowsL rest false [] := by
  obtain ⟨d, c⟩ := r
  have hg := (checkClause_facts hc).2.1
  simp only [] at hg
  cases d with
  | true =>
    have e : flatRow (true, c) ++ rest = 13 :: (c ++ (0 :: rest)) := by simp [flatRow]
    rw [e]
    show rowsL (c ++ (0 :: rest)) true [] = _
    rw [rowsL_lits _ _ _ _ hg]; rfl
  | false =>
    have e : flatRow (false, c) ++ rest = c ++ (0 :: rest) := by simp [flatRow]
    rw [e, rowsL_lits _ _ _ _ hg]; rfl
theorem rowsOf_flat {rs : List (Bool × List Int)} (h : ∀ r ∈ rs, checkClause r.2 = 0) : rowsOf (flatOf rs) = rs := by
  unfold rowsOf
  induction rs with
  | nil => rfl
  | cons r t ih =>
    have e : flatOf (r :: t) = flatRow r ++ flatOf t := by simp [flatOf]
    rw [e, rowsL_row _ _ (h r List.mem_cons_self), ih (fun x hx => h x (List.mem_cons_of_mem _ hx))]
theorem count_row (r : Bool × List Int) (hc : checkClause r.2 = 0) : (flatRow r).count 0 = 1 := by
  have hg := (checkClause_facts hc).2.1
  have h0 : r.2.count 0 = 0 := List.count_eq_zero.2 fun hm => by have := (good_iff 0).1 (hg 0 hm); omega
  unfold flatRow
  rw [List.count_append, List.count_append, h0]
  cases r.1 <;> simp
theorem mem13_row (r : Bool × List Int) (hc : checkClause r.2 = 0) : 13 ∈ flatRow r ↔ r.1 = true := by
  have hg := (checkClause_facts hc).2.1
  unfold flatRow
  rw [List.mem_append, List.mem_append]
  constructor
  · rintro ((h | h) | h)
    · cases e : r.1 with
      | true => rfl
      | false => rw [e] at h; simp at h
    · have := (good_iff 13).1 (hg 13 h); omega
    · simp at h
  · intro h; left; left; rw [h]; simp
theorem survey_flat {rs : List (Bool × List Int)} (h : ∀ r ∈ rs, checkClause r.2 = 0) : surveyF (flatOf rs) = if rs.any (fun r => r.1) = true then 16 else if 40 < rs.length then 17 else 0 := by
  have h1 : (flatOf rs).count 0 = rs.length := by
    induction rs with
    | nil => rfl
    | cons r t ih =>
      have e : flatOf (r :: t) = flatRow r ++ flatOf t := by simp [flatOf]
      rw [e, List.count_append, count_row _ (h r List.mem_cons_self), ih (fun x hx => h x (List.mem_cons_of_mem _ hx)), List.length_cons]; omega
  have h2 : (flatOf rs).contains 13 = rs.any (fun r => r.1) := by
    rw [Bool.eq_iff_iff, List.contains_iff_mem, List.any_eq_true]
    unfold flatOf
    rw [List.mem_flatMap]
    constructor
    · rintro ⟨r, hr, hm⟩; exact ⟨r, hr, (mem13_row r (h r hr)).1 hm⟩
    · rintro ⟨r, hr, hm⟩; exact ⟨r, hr, (mem13_row r (h r hr)).2 hm⟩
  unfold surveyF
  rw [h1, h2]
theorem feedAll_pk : ∀ (l : List Nat) (i : Nat) (p : ParS) (n : Nat), PK p n → PK (feedAll l i p) (n + 26 * l.length) := by
  intro l
  induction l with
  | nil => intro i p n h; exact h
  | cons c r ih =>
    intro i p n h
    rw [feedAll_cons]
    split
    · have := ih (i + 1) _ _ (feed_pk h c i)
      rw [List.length_cons, show n + 26 * (r.length + 1) = n + 26 + 26 * r.length from by omega]; exact this
    · exact ⟨Nat.le_trans h.ar (by omega), h.val, h.st⟩
theorem parseF_len (bs : List Nat) : (parseF bs).flat.length ≤ 26 * (bs.length + 1) := by
  rw [parseF_fin]
  split
  · simp
  · have := feedAll_pk (bs ++ [32]) 0 .idle 0 ⟨by simp [ParS.idle], by simp [ParS.idle], by simp [ParS.idle]⟩
    have h := this.ar
    rw [List.length_append, List.length_singleton] at h
    unfold fin3
    simp only []
    split
    · split <;> first | (simp only [ParS.fail]; omega) | simp
    · split <;> first | omega | simp
end Go.Proofs.Qxb6500354aGreat
