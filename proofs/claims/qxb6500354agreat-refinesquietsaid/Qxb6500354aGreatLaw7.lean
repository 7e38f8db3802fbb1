/- PLAIN LAW: the real checker answers as the definition. -/
import Derived.Test.Qxb6500354aGreatLaw6
import Derived.Test.Qxb6500354aGreatChk10
namespace Go.Proofs.Qxb6500354aGreat
set_option linter.unusedVariables false
set_option linter.unusedSimpArgs false

def bagN (sl : Slots) (n : Nat) : List (List Int) := (List.range n).filterMap sl
def bag (sl : Slots) : List (List Int) := bagN sl 64
theorem mem_bag {sl : Slots} {c : List Int} : c ∈ bag sl ↔ ∃ s, s < 64 ∧ sl s = some c := by
  unfold bag bagN
  rw [List.mem_filterMap]
  exact ⟨fun ⟨s, a, b⟩ => ⟨s, List.mem_range.1 a, b⟩, fun ⟨s, a, b⟩ => ⟨s, List.mem_range.2 a, b⟩⟩
theorem bag_put {sl : Slots} {s : Nat} (hn : sl s = none) (c : List Int) : ∀ n, s < n → (bagN (upd sl s (some c)) n).Perm (c :: bagN sl n) := by
  intro n
  induction n with
  | zero => intro h; omega
  | succ n ih =>
    intro h
    unfold bagN
    rw [List.range_succ, List.filterMap_append, List.filterMap_append]
    by_cases e : s = n
    · subst e
      have h1 : (List.range s).filterMap (upd sl s (some c)) = (List.range s).filterMap sl := filterMap_same fun x hx => upd_ne _ _ _ _ (by have := List.mem_range.1 hx; omega)
      rw [h1]
      have h2 : [s].filterMap (upd sl s (some c)) = [c] := by simp [upd]
      have h3 : [s].filterMap sl = [] := by simp [hn]
      rw [h2, h3, List.append_nil]
      exact List.perm_append_comm.trans (List.Perm.refl _)
    · have h2 : [n].filterMap (upd sl s (some c)) = [n].filterMap sl := by simp [List.filterMap_cons, upd_ne _ _ _ _ (fun q => e q.symm : ¬ n = s)]
      rw [h2]
      exact (ih (by omega)).append_right _
theorem bag_len (sl : Slots) : (bag sl).length ≤ 64 := by
  unfold bag bagN
  exact Nat.le_trans (List.length_filterMap_le _ _) (by simp)
theorem bag_full {sl : Slots} (h : lowF sl 64 0 = none) : (bag sl).length = 64 := by
  have hall := lowF_none h
  have gen : ∀ n, n ≤ 64 → (bagN sl n).length = n := by
    intro n
    induction n with
    | zero => intro _; rfl
    | succ n ih =>
      intro hn
      unfold bagN
      rw [List.range_succ, List.filterMap_append, List.length_append]
      have h1 := ih (by omega)
      unfold bagN at h1
      rw [h1]
      have := hall n (Nat.zero_le _) (by omega)
      obtain ⟨c, hc⟩ := Option.isSome_iff_exists.1 this
      simp [hc]
  exact gen 64 (Nat.le_refl _)
theorem seekF_none {sl : Slots} {c : List Int} : ∀ {n s : Nat}, seekF sl c n s = none → ∀ k, s ≤ k → k < s + n → sl k ≠ some c := by
  intro n
  induction n with
  | zero => intro s _ k h1 h2; omega
  | succ n ih =>
    intro s h k h1 h2
    rw [seekF_succ] at h
    by_cases e : hasRow (sl s) c = true
    · rw [if_pos e] at h; cases h
    · rw [if_neg e] at h
      by_cases q : k = s
      · subst q
        intro hs
        rw [hs] at e
        exact e (by simp [hasRow])
      · exact ih h k (by omega) (by omega)
theorem emptyF_zero {sl : Slots} : emptyF sl = 0 ↔ [] ∉ bag sl := by
  unfold emptyF
  rw [List.countP_eq_zero, mem_bag]
  constructor
  · rintro h ⟨s, hs, e⟩
    exact h s (List.mem_range.2 hs) (by rw [e]; rfl)
  · intro h s hs e
    apply h
    refine ⟨s, List.mem_range.1 hs, ?_⟩
    cases q : sl s with
    | none => rw [q] at e; cases e
    | some d => rw [q] at e; rw [show d = [] from by simpa [hasRow] using e]
def SlOK (sl : Slots) : Prop := ∀ s, s < 64 → ∀ c, sl s = some c → checkClause c = 0
theorem SlOK.put {sl : Slots} (h : SlOK sl) {s : Nat} {c : List Int} (hc : checkClause c = 0) : SlOK (upd sl s (some c)) := by
  intro i hi d hd
  by_cases e : i = s
  · subst e; rw [upd_self] at hd; cases hd; exact hc
  · rw [upd_ne _ _ _ _ e] at hd; exact h i hi d hd
theorem SlOK.drop {sl : Slots} (h : SlOK sl) {s : Nat} : SlOK (upd sl s none) := by
  intro i hi d hd
  by_cases e : i = s
  · subst e; rw [upd_self] at hd; cases hd
  · rw [upd_ne _ _ _ _ e] at hd; exact h i hi d hd
theorem sweepK_lt12 {sl : Slots} (h : SlOK sl) : ∀ n s yes no, s + n ≤ 64 → yes < 2 ^ 12 → no < 2 ^ 12 → (sweepK sl n s yes no).1 < 2 ^ 12 ∧ (sweepK sl n s yes no).2.1 < 2 ^ 12 := by
  intro n
  induction n with
  | zero => intro s yes no _ hy hn; exact ⟨hy, hn⟩
  | succ n ih =>
    intro s yes no hs hy hn
    cases e : sl s with
    | none => rw [sweepK_none e]; exact ih _ _ _ (by omega) hy hn
    | some c =>
      have hgd := (RowOK.of (h s (by omega) c e)).1
      rw [sweepK_some e]
      have l8 : yes ||| minusB (posB c) (yes ||| no) < 2 ^ 12 := Nat.or_lt_two_pow hy (minusB_lt (posB_lt hgd))
      have l9 : no ||| minusB (negB c) (yes ||| no) < 2 ^ 12 := Nat.or_lt_two_pow hn (minusB_lt (negB_lt hgd))
      split
      · split
        · exact ⟨hy, hn⟩
        · split
          · split
            · exact ih _ _ _ (by omega) l8 hn
            · exact ih _ _ _ (by omega) hy hn
          · split
            · split
              · exact ih _ _ _ (by omega) hy l9
              · exact ih _ _ _ (by omega) hy hn
            · exact ih _ _ _ (by omega) hy hn
      · exact ih _ _ _ (by omega) hy hn
theorem rupK_law {sl : Slots} (hok : SlOK sl) : ∀ n yes no, BOK yes no → yes < 2 ^ 12 → no < 2 ^ 12 → openN yes no < n →
    (rupK sl n yes no = true → ∀ A : Int → Prop, Cons A → In A yes no → (∀ c ∈ bag sl, Ok1 A c) → False) ∧
    (rupK sl n yes no = false → ∃ y2 n2, BOK y2 n2 ∧ Grown yes no y2 n2 ∧ ∀ c ∈ bag sl, Ok1 (BS y2 n2) c) := by
  intro n
  induction n with
  | zero => intro yes no _ _ _ h; omega
  | succ n ih =>
    intro yes no hb hy hn ho
    obtain ⟨a, b, c, d⟩ := sweep_law hok 64 0 yes no (by omega) hb
    obtain ⟨l1, l2⟩ := sweepK_lt12 hok 64 0 yes no (by omega) hy hn
    rw [rupK_succ]
    have hrows : ∀ A : Int → Prop, (∀ c ∈ bag sl, Ok1 A c) → ∀ k c, 0 ≤ k → k < 0 + 64 → sl k = some c → Ok1 A c := fun A h k c _ h2 h3 => h c (mem_bag.2 ⟨k, by omega, h3⟩)
    by_cases c1 : (sweepK sl 64 0 yes no).2.2 = true
    · rw [if_pos c1]
      refine And.intro (fun _ A h1 h2 h3 => ?_) (fun h => by cases h)
      have := (c A h1 h2 (hrows A h3)).2
      rw [c1] at this; cases this
    · rw [if_neg c1]
      have c1' : (sweepK sl 64 0 yes no).2.2 = false := by simpa using c1
      by_cases c2 : (sweepK sl 64 0 yes no).1 = yes ∧ (sweepK sl 64 0 yes no).2.1 = no
      · rw [if_pos c2]
        refine And.intro (fun h => by cases h) (fun _ => ⟨yes, no, hb, Grown.refl _ _, fun e he => ?_⟩)
        obtain ⟨s, hs, h2⟩ := mem_bag.1 he
        exact d c1' c2.1 c2.2 s e (Nat.zero_le _) (by omega) h2
      · rw [if_neg c2]
        have hlt := openN_lt a b l1 l2 c2
        obtain ⟨p1, p2⟩ := ih _ _ a l1 l2 (by omega)
        refine ⟨fun h A h1 h2 h3 => p1 h A h1 (c A h1 h2 (hrows A h3)).1 h3, fun h => ?_⟩
        obtain ⟨y2, n2, q1, q2, q3⟩ := p2 h
        exact ⟨y2, n2, q1, b.trans q2, q3⟩
theorem start_bok {c : List Int} (hc : RowOK c) : BOK (negB c) (posB c) := by
  refine ⟨fun i h1 h2 => ?_⟩
  obtain ⟨a, a1, a2, a3⟩ := negB_bit.1 h1
  obtain ⟨b, b1, b2, b3⟩ := posB_bit.1 h2
  have g1 := (good_iff a).1 (hc.1 a a1)
  have g2 := (good_iff b).1 (hc.1 b b1)
  have := eq_of_natAbs hc.2 a1 b1 (by omega)
  subst this; exact a2 b2
theorem start_bs {c : List Int} (hc : RowOK c) (l : Int) : BS (negB c) (posB c) l ↔ -l ∈ c := by
  constructor
  · rintro ⟨g, h⟩
    have hg := (good_iff l).1 g
    by_cases e : 0 < l
    · rw [if_pos e] at h
      obtain ⟨x, hx, x1, x2⟩ := negB_bit.1 h
      have := (good_iff x).1 (hc.1 x hx)
      rw [show -l = x from by omega]; exact hx
    · rw [if_neg e] at h
      obtain ⟨x, hx, x1, x2⟩ := posB_bit.1 h
      have := (good_iff x).1 (hc.1 x hx)
      rw [show -l = x from by omega]; exact hx
  · intro h
    have g := hc.1 _ h
    have hg := (good_iff _).1 g
    refine ⟨by have := good_neg g; rwa [Int.neg_neg] at this, ?_⟩
    by_cases e : 0 < l
    · rw [if_pos e]; exact negB_bit.2 ⟨-l, h, by omega, by rw [Int.natAbs_neg]⟩
    · rw [if_neg e]; exact posB_bit.2 ⟨-l, h, by omega, by rw [Int.natAbs_neg]⟩
theorem openN_le (yes no : Nat) : openN yes no ≤ 12 := by unfold openN; exact Nat.le_trans List.countP_le_length (by simp)
theorem rupK_iff {sl : Slots} (hok : SlOK sl) {c : List Int} (hc : checkClause c = 0) : rupK sl 13 (negB c) (posB c) = true ↔ RupP (bag sl) c := by
  have hr := RowOK.of hc
  obtain ⟨p1, p2⟩ := rupK_law hok 13 (negB c) (posB c) (start_bok hr) (negB_lt hr.1) (posB_lt hr.1) (by have := openN_le (negB c) (posB c); omega)
  constructor
  · intro h A h1 h2 h3
    refine p1 h A h1 (fun l hl => ?_) h2
    have := h3 _ ((start_bs hr l).1 hl)
    rwa [Int.neg_neg] at this
  · intro h
    cases hb : rupK sl 13 (negB c) (posB c) with
    | true => rfl
    | false =>
      exfalso
      obtain ⟨y2, n2, q1, q2, q3⟩ := p2 hb
      refine h (BS y2 n2) q1.cons q3 (fun l hl => ?_)
      exact (((start_bs hr (-l)).2 (by rw [Int.neg_neg]; exact hl))).grow q2.y q2.n
theorem bag_rowOK {sl : Slots} (hok : SlOK sl) : ∀ d ∈ bag sl, RowOK d := fun d hd => by
  obtain ⟨s, hs, e⟩ := mem_bag.1 hd
  exact RowOK.of (hok s hs d e)
/-- THE ROWS OF A PROOF, on both sides. -/
theorem follow_law : ∀ (rs : List (Bool × List Int)) (k : Nat) (sl : Slots) (st : List (List Int)), SlOK sl → (bag sl).Perm st → (∀ r ∈ rs, checkClause r.2 = 0) → followK rs k sl = checkLoop rs k st := by
  intro rs
  induction rs with
  | nil =>
    intro k sl st hok hp _
    rw [followK_nil]
    show _ = if st.any (fun c => c.length == 0) then (⟨0, 0, 0⟩ : VerdS) else ⟨20, 2, k⟩
    have : st.any (fun c => c.length == 0) = true ↔ [] ∈ bag sl := by
      rw [List.any_eq_true, hp.mem_iff]
      constructor
      · rintro ⟨c, hc, e⟩; rw [beq_iff_eq] at e; rw [List.eq_nil_of_length_eq_zero e] at hc; exact hc
      · intro h; exact ⟨[], h, rfl⟩
    by_cases e : [] ∈ bag sl
    · rw [if_neg (fun q => emptyF_zero.1 q e), if_pos (this.2 e)]
    · rw [if_pos (emptyF_zero.2 e), if_neg (fun q => e (this.1 q))]
  | cons r rs ih =>
    intro k sl st hok hp hr
    have hc := hr r List.mem_cons_self
    have hrs : ∀ x ∈ rs, checkClause x.2 = 0 := fun x hx => hr x (List.mem_cons_of_mem _ hx)
    rw [followK_cons]
    show _ = if r.1 = true then (if st.contains r.2 then checkLoop rs (k + 1) (st.erase r.2) else ⟨19, 2, k⟩)
      else if rupF st r.2 = true then (if 64 ≤ st.length then ⟨12, 2, k⟩ else checkLoop rs (k + 1) (st ++ [r.2])) else ⟨18, 2, k⟩
    unfold turnK
    by_cases hd : r.1 = true
    · rw [if_pos hd, if_pos hd]
      cases e : seekF sl r.2 64 0 with
      | none =>
        have : ¬ st.contains r.2 = true := by
          rw [List.contains_iff_mem, ← hp.mem_iff, mem_bag]
          rintro ⟨s, hs, q⟩
          exact seekF_none e s (Nat.zero_le _) (by omega) q
        rw [if_neg this]
        simp
      | some s =>
        obtain ⟨_, h1, h2⟩ := seekF_some e
        have hm : st.contains r.2 = true := by
          rw [List.contains_iff_mem, ← hp.mem_iff, mem_bag]
          exact ⟨s, by omega, h2⟩
        rw [if_pos hm]
        simp only [if_true]
        refine ih (k + 1) _ _ hok.drop ?_ hrs
        have hb := bag_put (sl := upd sl s none) (upd_self _ _ _) r.2 64 (by omega)
        rw [upd_none_some h2] at hb
        have := (hp.symm.trans hb).erase r.2
        rw [List.erase_cons_head] at this
        exact this.symm
    · rw [if_neg hd, if_neg hd]
      have hrup : rupK sl 13 (negB r.2) (posB r.2) = true ↔ rupF st r.2 = true := by
        rw [rupK_iff hok hc, rupF_iff (fun d hd => bag_rowOK hok d (hp.mem_iff.2 hd)) (RowOK.of hc)]
        exact ⟨fun h => h.mem fun d hd => hp.mem_iff.1 hd, fun h => h.mem fun d hd => hp.mem_iff.2 hd⟩
      by_cases e1 : rupK sl 13 (negB r.2) (posB r.2) = true
      · rw [if_pos e1, if_pos (hrup.1 e1)]
        cases e : lowF sl 64 0 with
        | none =>
          have hl : 64 ≤ st.length := by rw [← hp.length_eq, bag_full e]; exact Nat.le_refl _
          simp [hl]
        | some s =>
          obtain ⟨_, h1, h2⟩ := lowF_some e
          have hb := bag_put h2 r.2 64 (by omega)
          have hl : ¬ 64 ≤ st.length := by
            have := hb.length_eq
            have := bag_len (upd sl s (some r.2))
            have := hp.length_eq
            unfold bag at *
            simp only [List.length_cons] at *
            omega
          rw [if_neg hl]
          simp only [if_true]
          refine ih (k + 1) _ _ (hok.put hc) ?_ hrs
          exact hb.trans ((hp.cons r.2).trans (List.perm_append_comm (l₁ := [r.2]) (l₂ := st)))
      · rw [if_neg e1, if_neg (fun q => e1 (hrup.2 q))]
        simp
end Go.Proofs.Qxb6500354aGreat
