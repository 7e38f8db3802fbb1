/- PLAIN LAWS: the checker's definition is sound; it accepts the log. -/
import Derived.Test.Qxb6500354aGreatLaw1
namespace Go.Proofs.Qxb6500354aGreat
set_option linter.unusedVariables false
set_option linter.unusedSimpArgs false

theorem tableF_law (cs : List (List Int)) : ∀ n mask, (tableF cs n mask = -1 ∧ ∀ m, mask ≤ m → m < mask + n → allHoldF cs m = false) ∨ ∃ m : Nat, mask ≤ m ∧ m < mask + n ∧ tableF cs n mask = m ∧ allHoldF cs m = true := by
  intro n
  induction n with
  | zero => intro mask; left; exact ⟨rfl, fun m a b => by omega⟩
  | succ n ih =>
    intro mask
    have hs : tableF cs (n + 1) mask = if allHoldF cs mask = true then (mask : Int) else tableF cs n (mask + 1) := rfl
    by_cases h : allHoldF cs mask = true
    · right; rw [hs, if_pos h]; exact ⟨mask, Nat.le_refl _, by omega, rfl, h⟩
    · rw [if_neg h] at hs
      rw [hs]
      rcases ih (mask + 1) with ⟨a, b⟩ | ⟨m, a, b, c, d⟩
      · left
        refine ⟨a, fun m p q => ?_⟩
        by_cases e : m = mask
        · subst e; simpa using h
        · exact b m (by omega) (by omega)
      · right; exact ⟨m, by omega, by omega, c, d⟩
theorem table_neg {cs : List (List Int)} : tableF cs 4096 0 = -1 ↔ ∀ m, m < 4096 → allHoldF cs m = false := by
  rcases tableF_law cs 4096 0 with ⟨a, b⟩ | ⟨m, a, b, c, d⟩
  · exact ⟨fun _ m h => b m (Nat.zero_le _) (by omega), fun _ => a⟩
  · constructor
    · intro h; rw [c] at h; omega
    · intro h; have := h m (by omega); rw [d] at this; simp at this
theorem table_pos {cs : List (List Int)} (h : tableF cs 4096 0 ≠ -1) : 0 ≤ tableF cs 4096 0 ∧ tableF cs 4096 0 < 4096 := by
  rcases tableF_law cs 4096 0 with ⟨a, b⟩ | ⟨m, a, b, c, d⟩
  · exact absurd a h
  · rw [c]; omega
theorem trueF_neg {l : Int} (h : l ≠ 0) (m : Nat) : trueF (-l) m = !trueF l m := by
  unfold trueF
  rw [Int.natAbs_neg]
  by_cases hp : 0 < l
  · have h2 : ¬ 0 < -l := by omega
    rw [decide_eq_true hp, decide_eq_false h2]
    cases m.testBit (l.natAbs - 1) <;> rfl
  · have h2 : 0 < -l := by omega
    rw [decide_eq_true h2, decide_eq_false hp]
    cases m.testBit (l.natAbs - 1) <;> rfl
theorem holdsF_iff {c : List Int} {m : Nat} : holdsF c m = true ↔ ∃ l ∈ c, trueF l m = true := by unfold holdsF; rw [List.any_eq_true]
theorem allHoldF_iff {cs : List (List Int)} {m : Nat} : allHoldF cs m = true ↔ ∀ c ∈ cs, holdsF c m = true := by unfold allHoldF; rw [List.all_eq_true]
theorem rup_sound {cs : List (List Int)} {c : List Int} (hr : ∀ d ∈ cs, RowOK d) (hc : RowOK c) (h : RupP cs c) {m : Nat} (hm : allHoldF cs m = true) : holdsF c m = true := by
  cases hb : holdsF c m with
  | true => rfl
  | false =>
    exfalso
    refine h (fun l => l ≠ 0 ∧ trueF l m = true) ?_ ?_ ?_
    · intro l h1 h2
      have := trueF_neg h1.1 m
      rw [h1.2, h2.2] at this; simp at this
    · intro d hd
      obtain ⟨l, hl, ht⟩ := holdsF_iff.1 (allHoldF_iff.1 hm d hd)
      exact .inl ⟨l, hl, ((good_iff l).1 ((hr d hd).1 l hl)).1, ht⟩
    · intro l hl
      have h0 := ((good_iff l).1 (hc.1 l hl)).1
      refine ⟨by omega, ?_⟩
      rw [trueF_neg h0]
      cases ht : trueF l m with
      | false => rfl
      | true =>
        have := holdsF_iff.2 ⟨l, hl, ht⟩
        rw [hb] at this; simp at this
/-- Good rows stay good; what satisfies the first store satisfies the last. -/
theorem RunP.sound : ∀ {rs : List (Bool × List Int)} {a b : List (List Int)}, RunP a rs b → (∀ d ∈ a, RowOK d) → (∀ r ∈ rs, RowOK r.2) → (∀ d ∈ b, RowOK d) ∧ ∀ m, allHoldF a m = true → allHoldF b m = true := by
  intro rs
  induction rs with
  | nil => intro a b h hr _; have : a = b := h; subst this; exact ⟨hr, fun _ h => h⟩
  | cons x rs ih =>
    intro a b h hr hx
    have h2 : if x.1 = true then x.2 ∈ a ∧ RunP (a.erase x.2) rs b else RupP a x.2 ∧ a.length < 64 ∧ RunP (a ++ [x.2]) rs b := h
    have hxr := hx x List.mem_cons_self
    have hrs : ∀ r ∈ rs, RowOK r.2 := fun r hr => hx r (List.mem_cons_of_mem _ hr)
    by_cases hd : x.1 = true
    · rw [if_pos hd] at h2
      obtain ⟨p1, p2⟩ := ih h2.2 (fun d hd2 => hr d (List.mem_of_mem_erase hd2)) hrs
      refine ⟨p1, fun m hm => p2 m ?_⟩
      rw [allHoldF_iff] at hm ⊢
      exact fun c hc => hm c (List.mem_of_mem_erase hc)
    · rw [if_neg hd] at h2
      obtain ⟨p1, p2⟩ := ih h2.2.2 (fun d hd2 => by
        rcases List.mem_append.1 hd2 with e | e
        · exact hr d e
        · simp at e; subst e; exact hxr) hrs
      refine ⟨p1, fun m hm => p2 m ?_⟩
      have h3 := rup_sound hr hxr h2.1 hm
      rw [allHoldF_iff] at hm ⊢
      intro c hc
      rcases List.mem_append.1 hc with e | e
      · exact hm c e
      · simp at e; subst e; exact h3
theorem RunP.refutes {rs : List (Bool × List Int)} {a b : List (List Int)} (h : RunP a rs b) (hr : ∀ d ∈ a, RowOK d) (hx : ∀ r ∈ rs, RowOK r.2) (he : [] ∈ b) : tableF a 4096 0 = -1 := by
  rw [table_neg]
  intro m _
  cases hb : allHoldF a m with
  | false => rfl
  | true =>
    have := allHoldF_iff.1 ((h.sound hr hx).2 m hb) [] he
    simp [holdsF] at this
/-- The checker's definition follows the run. -/
theorem checkLoop_run : ∀ (rs : List (Bool × List Int)) (k : Nat) (a : List (List Int)), (∀ d ∈ a, RowOK d) → (∀ r ∈ rs, RowOK r.2) →
    ((checkLoop rs k a).err = 0 → ∃ b, RunP a rs b ∧ [] ∈ b) ∧ ∀ b, RunP a rs b → checkLoop rs k a = if [] ∈ b then ⟨0, 0, 0⟩ else ⟨20, 2, k + rs.length⟩ := by
  intro rs
  induction rs with
  | nil =>
    intro k a hr _
    have he : (a.any fun c => c.length == 0) = true ↔ [] ∈ a := by
      rw [List.any_eq_true]
      constructor
      · rintro ⟨c, hc, h⟩
        have : c = [] := List.eq_nil_of_length_eq_zero (by simpa using h)
        rw [← this]; exact hc
      · intro h; exact ⟨[], h, rfl⟩
    have hs : checkLoop [] k a = if (a.any fun c => c.length == 0) = true then ⟨0, 0, 0⟩ else ⟨20, 2, k⟩ := rfl
    refine ⟨fun h => ⟨a, rfl, ?_⟩, fun b hb => ?_⟩
    · rw [hs] at h
      split at h
      · next q => exact he.1 q
      · simp at h
    · have : a = b := hb
      subst this
      rw [hs]
      by_cases q : [] ∈ a
      · rw [if_pos (he.2 q), if_pos q]
      · rw [if_neg (fun z => q (he.1 z)), if_neg q]; rfl
  | cons x rs ih =>
    intro k a hr hx
    have hxr := hx x List.mem_cons_self
    have hrs : ∀ r ∈ rs, RowOK r.2 := fun r hr => hx r (List.mem_cons_of_mem _ hr)
    have hs : checkLoop (x :: rs) k a = if x.1 = true then (if a.contains x.2 then checkLoop rs (k + 1) (a.erase x.2) else ⟨19, 2, k⟩)
      else if rupF a x.2 = true then (if 64 ≤ a.length then ⟨12, 2, k⟩ else checkLoop rs (k + 1) (a ++ [x.2])) else ⟨18, 2, k⟩ := rfl
    have hrun : ∀ b, RunP a (x :: rs) b ↔ if x.1 = true then x.2 ∈ a ∧ RunP (a.erase x.2) rs b else RupP a x.2 ∧ a.length < 64 ∧ RunP (a ++ [x.2]) rs b := fun b => Iff.rfl
    by_cases hd : x.1 = true
    · rw [if_pos hd] at hs
      obtain ⟨q1, q2⟩ := ih (k + 1) (a.erase x.2) (fun d hd2 => hr d (List.mem_of_mem_erase hd2)) hrs
      refine ⟨fun h => ?_, fun b hb => ?_⟩
      · rw [hs] at h
        by_cases hc : a.contains x.2 = true
        · rw [if_pos hc] at h
          obtain ⟨b, h1, h2⟩ := q1 h
          exact ⟨b, by rw [hrun, if_pos hd]; exact ⟨List.contains_iff_mem.1 hc, h1⟩, h2⟩
        · rw [if_neg hc] at h; simp at h
      · rw [hrun, if_pos hd] at hb
        rw [hs, if_pos (List.contains_iff_mem.2 hb.1), q2 b hb.2]
        simp only [List.length_cons, show k + 1 + rs.length = k + (rs.length + 1) from by omega]
    · rw [if_neg hd] at hs
      have hap : ∀ d ∈ a ++ [x.2], RowOK d := by
        intro d hd2
        rcases List.mem_append.1 hd2 with e | e
        · exact hr d e
        · simp at e; subst e; exact hxr
      obtain ⟨q1, q2⟩ := ih (k + 1) (a ++ [x.2]) hap hrs
      have hiff := rupF_iff hr hxr
      refine ⟨fun h => ?_, fun b hb => ?_⟩
      · rw [hs] at h
        by_cases hc : rupF a x.2 = true
        · rw [if_pos hc] at h
          by_cases hl : 64 ≤ a.length
          · rw [if_pos hl] at h; simp at h
          · rw [if_neg hl] at h
            obtain ⟨b, h1, h2⟩ := q1 h
            exact ⟨b, by rw [hrun, if_neg hd]; exact ⟨hiff.1 hc, by omega, h1⟩, h2⟩
        · rw [if_neg hc] at h; simp at h
      · rw [hrun, if_neg hd] at hb
        rw [hs, if_pos (hiff.2 hb.1), if_neg (by omega), q2 b hb.2.2]
        simp only [List.length_cons, show k + 1 + rs.length = k + (rs.length + 1) from by omega]

/-! ### how Solve ends -/
/-- At the full trail: every row holds. -/
theorem full_val {T : TrailS} (hk : TrailOK T) (h : T.st.length = 12) {v : Nat} (h1 : 1 ≤ v) (h2 : v < 13) : T.value (v : Int) = 1 ∨ T.value (v : Int) = -1 := by
  rcases value_bd T (v : Int) with e | e | e
  · exfalso
    have := len_open hk (l := (v : Int)) ((good_iff _).2 (by omega)) e
    omega
  · exact .inl e
  · exact .inr e
end Go.Proofs.Qxb6500354aGreat
