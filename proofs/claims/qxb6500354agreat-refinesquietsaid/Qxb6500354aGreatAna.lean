/- THE LAW OF THE ANALYSIS: the learnt clause. -/
import Derived.Test.Qxb6500354aGreatSem2
namespace Go.Proofs.Qxb6500354aGreat
set_option linter.unusedVariables false
set_option linter.unusedSimpArgs false

/-! ### assignments in part, closed under unit propagation -/
/-- The clause is neither false nor unit under A. -/
def Ok1 (A : Int → Prop) (c : List Int) : Prop := (∃ l ∈ c, A l) ∨ ∃ l ∈ c, ∃ m ∈ c, l ≠ m ∧ ¬ A (-l) ∧ ¬ A (-m)
def Cons (A : Int → Prop) : Prop := ∀ l, A l → A (-l) → False
/-- c follows from cs by unit propagation. -/
def RupP (cs : List (List Int)) (c : List Int) : Prop := ∀ A : Int → Prop, Cons A → (∀ d ∈ cs, Ok1 A d) → (∀ l ∈ c, A (-l)) → False
theorem Ok1.unit {A : Int → Prop} (hc : Cons A) {c : List Int} (h : Ok1 A c) {m : Int} (ho : ∀ s ∈ c, s ≠ m → A (-s)) : A m := by
  rcases h with ⟨l, hl, ha⟩ | ⟨l, hl, k, hk, hne, h1, h2⟩
  · by_cases e : l = m
    · rw [← e]; exact ha
    · exact (hc l ha (ho l hl e)).elim
  · by_cases e : l = m
    · exact (h2 (ho k hk (fun q => hne (e.trans q.symm)))).elim
    · exact (h1 (ho l hl e)).elim
theorem Ok1.conf {A : Int → Prop} (hc : Cons A) {c : List Int} (h : Ok1 A c) (ho : ∀ s ∈ c, A (-s)) : False := by
  rcases h with ⟨l, hl, ha⟩ | ⟨l, hl, k, hk, hne, h1, h2⟩
  · exact hc l ha (ho l hl)
  · exact h1 (ho l hl)
theorem Ok1.mem {A : Int → Prop} {c d : List Int} (h : Ok1 A c) (hm : ∀ l, l ∈ c → l ∈ d) : Ok1 A d := by
  rcases h with ⟨l, hl, ha⟩ | ⟨l, hl, k, hk, hne, h1, h2⟩
  · exact .inl ⟨l, hm l hl, ha⟩
  · exact .inr ⟨l, hm l hl, k, hm k hk, hne, h1, h2⟩

/-! ### levels -/
theorem levelAt_le (lims : List Nat) (i : Nat) : levelAt lims i ≤ lims.length := List.countP_le_length
theorem levelAt_mono (lims : List Nat) {i j : Nat} (h : i ≤ j) : levelAt lims i ≤ levelAt lims j := by
  unfold levelAt
  apply List.countP_mono_left
  intro x _ hx
  have : x ≤ i := by simpa using hx
  simpa using (by omega : x ≤ j)
theorem levelAt_lt (lims : List Nat) {i j : Nat} (h : i < j) (hj : j ∈ lims) : levelAt lims i < levelAt lims j := by
  unfold levelAt
  induction lims with
  | nil => simp at hj
  | cons d r ih =>
    rw [List.countP_cons, List.countP_cons]
    have hm : r.countP (fun k => decide (k ≤ i)) ≤ r.countP (fun k => decide (k ≤ j)) := by
      have := levelAt_mono r (Nat.le_of_lt h); exact this
    rcases List.mem_cons.1 hj with e | e
    · subst e
      have h1 : ¬ j ≤ i := by omega
      simp only [h1, decide_false, Nat.le_refl, decide_true, if_true]
      simp; omega
    · have := ih e
      by_cases h1 : d ≤ i
      · have h2 : d ≤ j := by omega
        simp only [h1, h2, decide_true, if_true]; omega
      · by_cases h2 : d ≤ j <;> simp [h1, h2] <;> omega
theorem levelAt_gt {lims : List Nat} (hs : lims.Pairwise (· < ·)) (i : Nat) : ∀ k, k < lims.length → (k < levelAt lims i ↔ lims.getD k 0 ≤ i) := by
  induction lims with
  | nil => intro k hk; simp at hk
  | cons d r ih =>
    intro k hk
    rw [List.pairwise_cons] at hs
    have hle : levelAt (d :: r) i = levelAt r i + if d ≤ i then 1 else 0 := by
      unfold levelAt; rw [List.countP_cons]; simp
    rw [hle]
    by_cases hd : d ≤ i
    · rw [if_pos hd]
      cases k with
      | zero => simp [hd]
      | succ k =>
        have hk2 : k < r.length := by simpa using hk
        have := ih hs.2 k hk2
        simp only [List.getD_cons_succ]
        omega
    · rw [if_neg hd]
      have h0 : levelAt r i = 0 := by
        unfold levelAt; rw [List.countP_eq_zero]
        intro x hx
        have := hs.1 x hx
        simp; omega
      rw [h0]
      cases k with
      | zero => simp [hd]
      | succ k =>
        have hk2 : k < r.length := by simpa using hk
        have := hs.1 _ (show r.getD k 0 ∈ r from by rw [List.getD_eq_getElem?_getD, List.getElem?_eq_getElem hk2]; exact List.getElem_mem _)
        simp only [List.getD_cons_succ]
        omega
theorem levelAt_pos {lims : List Nat} {i : Nat} (h : i ∈ lims) : 0 < levelAt lims i := by
  unfold levelAt
  rw [List.countP_pos_iff]
  exact ⟨i, h, by simp⟩

/-! ### counting -/
theorem countP_one (p q : Nat → Bool) (j : Nat) (b : Bool) (hp : p j = false) (hq : q j = b) (ho : ∀ i, i ≠ j → q i = p i) : ∀ n, j < n →
    (List.range n).countP q = (List.range n).countP p + if b then 1 else 0 := by
  intro n hn
  induction n with
  | zero => omega
  | succ n ih =>
    rw [List.range_succ, List.countP_append, List.countP_append, List.countP_singleton, List.countP_singleton]
    by_cases e : j = n
    · subst e
      have : (List.range j).countP q = (List.range j).countP p := by
        apply List.countP_congr
        intro x hx
        rw [List.mem_range] at hx
        rw [ho x (by omega)]
      rw [this, hp, hq]; simp
    · have := ih (by omega)
      rw [this, ho n (fun q => e q.symm)]
      omega

def cnt (T : TrailS) (a : LearnS) (n : Nat) : Nat := (List.range n).countP fun i => a.seen.testBit (T.litAt i).natAbs && decide (levelAt T.lims i = T.lims.length)
theorem cnt_succ (T : TrailS) (a : LearnS) (n : Nat) : cnt T a (n + 1) = cnt T a n + if (a.seen.testBit (T.litAt n).natAbs && decide (levelAt T.lims n = T.lims.length)) = true then 1 else 0 := by
  unfold cnt; rw [List.range_succ, List.countP_append, List.countP_singleton]
theorem cnt_pos {T : TrailS} {a : LearnS} {n : Nat} (h : 0 < cnt T a n) : ∃ i, i < n ∧ a.seen.testBit (T.litAt i).natAbs = true ∧ levelAt T.lims i = T.lims.length := by
  unfold cnt at h
  rw [List.countP_pos_iff] at h
  obtain ⟨i, hi, hb⟩ := h
  rw [List.mem_range] at hi
  rw [Bool.and_eq_true, decide_eq_true_eq] at hb
  exact ⟨i, hi, hb⟩
theorem cnt_zero {T : TrailS} {a : LearnS} {n : Nat} (h : cnt T a n = 0) : ∀ i, i < n → a.seen.testBit (T.litAt i).natAbs = true → levelAt T.lims i ≠ T.lims.length := by
  intro i hi hs he
  unfold cnt at h
  rw [List.countP_eq_zero] at h
  have := h i (List.mem_range.2 hi)
  rw [hs, he] at this
  simp at this

/-! ### mark -/
structure MI (T : TrailS) (a : LearnS) : Prop where
  lv : a.lv = T.lims.length
  sn : ∀ v, a.seen.testBit v = true → ∃ i m r, At T i m r ∧ m.natAbs = v
  pos : ∀ v : Nat, a.pos.testBit v = true ↔ a.seen.testBit v = true ∧ ∃ i r, At T i (-(v : Int)) r ∧ 0 < levelAt T.lims i ∧ levelAt T.lims i < T.lims.length
  neg : ∀ v : Nat, a.neg.testBit v = true ↔ a.seen.testBit v = true ∧ ∃ i r, At T i (v : Int) r ∧ 0 < levelAt T.lims i ∧ levelAt T.lims i < T.lims.length

theorem markF_law {T : TrailS} (hk : TrailOK T) {a : LearnS} {n : Nat} (hn : n ≤ T.st.length) (h : MI T a) (ho : a.opn = cnt T a n) {l : Int} (hl : a.seen.testBit l.natAbs = true ∨ ∃ j r, j < n ∧ At T j (-l) r) :
    (markF T a l).1 = true ∧ MI T (markF T a l).2 ∧ (markF T a l).2.opn = cnt T (markF T a l).2 n ∧ ∀ v, (markF T a l).2.seen.testBit v = (a.seen.testBit v || decide (l.natAbs = v)) := by
  unfold markF
  by_cases hs : a.seen.testBit l.natAbs = true
  · rw [if_pos hs]
    refine ⟨rfl, h, ho, fun v => ?_⟩
    by_cases e : l.natAbs = v
    · subst e; simp [hs]
    · simp [e]
  · rw [if_neg hs]
    obtain ⟨j, r, hj, hat⟩ := hl.resolve_left hs
    have hsf : a.seen.testBit l.natAbs = false := by simpa using hs
    have hna : (-l).natAbs = l.natAbs := Int.natAbs_neg l
    have hlev : T.level l.natAbs = levelAt T.lims j := by rw [← hna]; exact hat.level hk
    have hlit : T.litAt j = -l := hat.lit
    have hlne : l ≠ 0 := by have := hat.ne hk; omega
    have huniq : ∀ i m s, At T i m s → m.natAbs = l.natAbs → i = j := fun i m s q e => q.inj hk hat (by rw [hna]; exact e)
    have hle := levelAt_le T.lims j
    have hcnt : ∀ b : LearnS, b.seen = setB a.seen l.natAbs → (cnt T b n : Int) = cnt T a n + if levelAt T.lims j = T.lims.length then 1 else 0 := by
      intro b hb
      have := countP_one (fun i => a.seen.testBit (T.litAt i).natAbs && decide (levelAt T.lims i = T.lims.length)) (fun i => b.seen.testBit (T.litAt i).natAbs && decide (levelAt T.lims i = T.lims.length)) j
        (decide (levelAt T.lims j = T.lims.length)) (by simp only [hlit, hna, hsf]; simp) (by simp only [hlit, hna, hb, testBit_set]; simp)
        (fun i hi => by
          simp only [hb, testBit_set]
          by_cases e : l.natAbs = (T.litAt i).natAbs
          · exfalso
            by_cases hlt : i < T.st.length
            · obtain ⟨s, hs2⟩ := at_of_lt hlt
              exact hi (huniq _ _ _ hs2 e.symm)
            · unfold TrailS.litAt at e
              rw [List.getD_eq_getElem?_getD, List.getElem?_eq_none (by omega)] at e
              simp at e; omega
          · simp [e]) n hj
      unfold cnt
      rw [this]
      by_cases e : levelAt T.lims j = T.lims.length <;> simp [e]
    have hseen : ∀ v, (setB a.seen l.natAbs).testBit v = (a.seen.testBit v || decide (l.natAbs = v)) := fun v => testBit_set _ _ _
    have hsn : ∀ v, (setB a.seen l.natAbs).testBit v = true → ∃ i m r, At T i m r ∧ m.natAbs = v := by
      intro v hv
      rw [hseen, Bool.or_eq_true, decide_eq_true_eq] at hv
      rcases hv with e | e
      · exact h.sn v e
      · exact ⟨j, -l, r, hat, by rw [hna]; exact e⟩
    simp only []
    rw [hlev, if_neg (by omega), h.lv]
    have hstep : ∀ v : Nat, (a.seen.testBit v = true ∧ ∃ i r, At T i (-(v : Int)) r ∧ 0 < levelAt T.lims i ∧ levelAt T.lims i < T.lims.length) ∨ (l = (v : Int) ∧ 0 < levelAt T.lims j ∧ levelAt T.lims j < T.lims.length) ↔
        (setB a.seen l.natAbs).testBit v = true ∧ ∃ i r, At T i (-(v : Int)) r ∧ 0 < levelAt T.lims i ∧ levelAt T.lims i < T.lims.length := by
      intro v
      rw [hseen, Bool.or_eq_true, decide_eq_true_eq]
      constructor
      · rintro (⟨e, q⟩ | ⟨e, q⟩)
        · exact ⟨.inl e, q⟩
        · exact ⟨.inr (by omega), j, r, by rw [← e]; exact hat, q⟩
      · rintro ⟨e | e, i, s, q, q2⟩
        · exact .inl ⟨e, i, s, q, q2⟩
        · have hij := huniq i _ s q (by omega)
          subst hij
          have := (hat.eq q).1
          exact .inr ⟨by omega, q2⟩
    have hstep2 : ∀ v : Nat, (a.seen.testBit v = true ∧ ∃ i r, At T i (v : Int) r ∧ 0 < levelAt T.lims i ∧ levelAt T.lims i < T.lims.length) ∨ (l = -(v : Int) ∧ 0 < levelAt T.lims j ∧ levelAt T.lims j < T.lims.length) ↔
        (setB a.seen l.natAbs).testBit v = true ∧ ∃ i r, At T i (v : Int) r ∧ 0 < levelAt T.lims i ∧ levelAt T.lims i < T.lims.length := by
      intro v
      rw [hseen, Bool.or_eq_true, decide_eq_true_eq]
      constructor
      · rintro (⟨e, q⟩ | ⟨e, q⟩)
        · exact ⟨.inl e, q⟩
        · exact ⟨.inr (by omega), j, r, by rw [show (v : Int) = -l from by omega]; exact hat, q⟩
      · rintro ⟨e | e, i, s, q, q2⟩
        · exact .inl ⟨e, i, s, q, q2⟩
        · have hij := huniq i _ s q (by omega)
          subst hij
          have := (hat.eq q).1
          exact .inr ⟨by omega, q2⟩
    by_cases h1 : (levelAt T.lims j : Int) = T.lims.length
    · rw [if_pos h1]
      refine ⟨rfl, ⟨rfl, hsn, fun v => ?_, fun v => ?_⟩, ?_, hseen⟩
      · rw [← hstep v]; simp only [h.pos v]; constructor
        · exact .inl
        · rintro (e | ⟨_, _, e⟩)
          · exact e
          · omega
      · rw [← hstep2 v]; simp only [h.neg v]; constructor
        · exact .inl
        · rintro (e | ⟨_, _, e⟩)
          · exact e
          · omega
      · rw [hcnt _ rfl, if_pos (by omega)]
        simp only []; rw [ho]
    · rw [if_neg h1]
      by_cases h2 : (0 : Int) < levelAt T.lims j
      · rw [if_pos h2]
        by_cases hp : 0 < l
        · have hj : ∀ b : LearnS, b.join l = { b with pos := setB b.pos l.natAbs } := fun b => by unfold LearnS.join; rw [if_pos hp]
          rw [hj]
          refine ⟨rfl, ⟨rfl, hsn, fun v => ?_, fun v => ?_⟩, ?_, hseen⟩
          · rw [← hstep v]; simp only [testBit_set, Bool.or_eq_true, decide_eq_true_eq, h.pos v]
            constructor
            · rintro (e | e)
              · exact .inl e
              · exact .inr ⟨by omega, by omega, by omega⟩
            · rintro (e | ⟨e, _⟩)
              · exact .inl e
              · exact .inr (by omega)
          · rw [← hstep2 v]; simp only [h.neg v]; constructor
            · exact .inl
            · rintro (e | ⟨e, _⟩)
              · exact e
              · omega
          · rw [hcnt _ rfl, if_neg (by omega)]
            simp only []; rw [ho]; simp
        · have hj : ∀ b : LearnS, b.join l = { b with neg := setB b.neg l.natAbs } := fun b => by unfold LearnS.join; rw [if_neg hp]
          rw [hj]
          refine ⟨rfl, ⟨rfl, hsn, fun v => ?_, fun v => ?_⟩, ?_, hseen⟩
          · rw [← hstep v]; simp only [h.pos v]; constructor
            · exact .inl
            · rintro (e | ⟨e, _⟩)
              · exact e
              · omega
          · rw [← hstep2 v]; simp only [testBit_set, Bool.or_eq_true, decide_eq_true_eq, h.neg v]
            constructor
            · rintro (e | e)
              · exact .inl e
              · exact .inr ⟨by omega, by omega, by omega⟩
            · rintro (e | ⟨e, _⟩)
              · exact .inl e
              · exact .inr (by omega)
          · rw [hcnt _ rfl, if_neg (by omega)]
            simp only []; rw [ho]; simp
      · rw [if_neg h2]
        refine ⟨rfl, ⟨rfl, hsn, fun v => ?_, fun v => ?_⟩, ?_, hseen⟩
        · rw [← hstep v]; simp only [h.pos v]; constructor
          · exact .inl
          · rintro (e | ⟨_, e, _⟩)
            · exact e
            · omega
        · rw [← hstep2 v]; simp only [h.neg v]; constructor
          · exact .inl
          · rintro (e | ⟨_, e, _⟩)
            · exact e
            · omega
        · rw [hcnt _ rfl, if_neg (by omega)]
          simp only []; rw [ho]; simp

theorem markAllF_law {T : TrailS} (hk : TrailOK T) {n : Nat} (hn : n ≤ T.st.length) : ∀ (c : List Int) (a : LearnS), MI T a → a.opn = cnt T a n → (∀ l ∈ c, a.seen.testBit l.natAbs = true ∨ ∃ j r, j < n ∧ At T j (-l) r) →
    (markAllF T a c).1 = true ∧ MI T (markAllF T a c).2 ∧ (markAllF T a c).2.opn = cnt T (markAllF T a c).2 n ∧
    (∀ v, a.seen.testBit v = true → (markAllF T a c).2.seen.testBit v = true) ∧ (∀ l ∈ c, (markAllF T a c).2.seen.testBit l.natAbs = true) ∧
    ∀ v, (markAllF T a c).2.seen.testBit v = true → a.seen.testBit v = true ∨ ∃ l ∈ c, l.natAbs = v := by
  intro c
  induction c with
  | nil => intro a h ho _; exact ⟨rfl, h, ho, fun v hv => hv, by simp, fun v hv => .inl hv⟩
  | cons l r ih =>
    intro a h ho hc
    obtain ⟨p1, p2, p3, p4⟩ := markF_law hk hn h ho (hc l List.mem_cons_self)
    have hm : markAllF T a (l :: r) = markAllF T (markF T a l).2 r := by
      show (if (markF T a l).1 = true then markAllF T (markF T a l).2 r else (false, (markF T a l).2)) = _
      rw [if_pos p1]
    rw [hm]
    obtain ⟨q1, q2, q3, q4, q5, q6⟩ := ih _ p2 p3 (fun x hx => by
      rcases hc x (List.mem_cons_of_mem _ hx) with e | e
      · left; rw [p4, e]; rfl
      · exact .inr e)
    refine ⟨q1, q2, q3, fun v hv => q4 v (by rw [p4, hv]; rfl), fun x hx => ?_, fun v hv => ?_⟩
    · rcases List.mem_cons.1 hx with e | e
      · subst e; exact q4 _ (by rw [p4]; simp)
      · exact q5 x e
    · rcases q6 v hv with e | ⟨x, hx, e⟩
      · rw [p4, Bool.or_eq_true, decide_eq_true_eq] at e
        exact e.imp id (fun e => ⟨l, List.mem_cons_self, e⟩)
      · exact .inr ⟨x, List.mem_cons_of_mem _ hx, e⟩
end Go.Proofs.Qxb6500354aGreat
