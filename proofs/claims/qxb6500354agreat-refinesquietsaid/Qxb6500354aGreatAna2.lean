/- THE LAW OF THE ANALYSIS, 2: climb, shrink, the learnt clause. -/
import Derived.Test.Qxb6500354aGreatLrn7
import Derived.Test.Qxb6500354aGreatAna
namespace Go.Proofs.Qxb6500354aGreat
set_option linter.unusedVariables false
set_option linter.unusedSimpArgs false

/-- From place n on: a seen literal of the level at hand has a reason, all of whose variables are seen. -/
def Above (W : WatchS) (T : TrailS) (a : LearnS) (n : Nat) : Prop := ∀ i m r, n ≤ i → At T i m r → a.seen.testBit m.natAbs = true → levelAt T.lims i = T.lims.length →
  ∃ id : Nat, r = id ∧ W.used.testBit id = true ∧ ∀ s ∈ W.cl id, a.seen.testBit s.natAbs = true
theorem WS.mem_norm {W : WatchS} (h : WS W) (id : Nat) (x : Int) : x ∈ normC (W.cl id) ↔ x ∈ W.cl id := mem_normC (h.v id).gd (h.v id).dist x
theorem WS.clause {W : WatchS} (h : WS W) {id : Nat} (hu : W.used.testBit id = true) : W.clause? (id : Int) = some (normC (W.cl id)) := by
  have := h.lt id hu
  unfold WatchS.clause? WatchS.live
  have h1 : decide ((id : Int) < 52) = true := by simp; omega
  rw [if_pos (by simp [hu, h1])]
  simp
theorem clause_none {W : WatchS} {r : Int} (h : r < 0) : W.clause? r = none := by
  unfold WatchS.clause? WatchS.live
  have : decide (0 ≤ r) = false := by simp; omega
  rw [this]; simp

theorem climb_law {W : WatchS} {T : TrailS} (hw : WS W) (hk : TrailOK T) (hr : Reas W T) : ∀ (n : Nat) (a : LearnS), n ≤ T.st.length → MI T a → a.opn = cnt T a n → 0 < cnt T a n → Above W T a n →
    ∃ i r, At T i (climbF W T n a).1 r ∧ levelAt T.lims i = T.lims.length ∧ (climbF W T n a).2.seen.testBit (climbF W T n a).1.natAbs = true ∧ MI T (climbF W T n a).2 ∧
      Above W T (climbF W T n a).2 (i + 1) ∧ (∀ j m s, At T j m s → (climbF W T n a).2.seen.testBit m.natAbs = true → levelAt T.lims j = T.lims.length → i ≤ j) ∧
      ∀ v, a.seen.testBit v = true → (climbF W T n a).2.seen.testBit v = true := by
  intro n
  induction n with
  | zero => intro a _ _ _ hc; exact absurd hc (by simp [cnt])
  | succ n ih =>
    intro a hn h ho hc hab
    obtain ⟨r, hat⟩ := at_of_lt (T := T) (j := n) (by omega)
    rw [climbF_succ]
    rw [cnt_succ] at ho hc
    by_cases hs : a.seen.testBit (T.litAt n).natAbs = true
    · rw [if_pos hs]
      rw [hs, Bool.true_and] at ho hc
      by_cases hl : T.level (T.litAt n).natAbs = a.lv
      · rw [if_pos hl]
        have hlev : levelAt T.lims n = T.lims.length := by
          have := hat.level hk; rw [hl, h.lv] at this; omega
        rw [if_pos (by simpa using hlev)] at ho hc
        have h1 : MI T { a with opn := a.opn - 1 } := ⟨h.lv, h.sn, h.pos, h.neg⟩
        by_cases h0 : a.opn - 1 = 0
        · rw [if_pos h0]
          have hz : cnt T a n = 0 := by omega
          refine ⟨n, r, hat, hlev, hs, h1, fun i m s hi q1 q2 q3 => hab i m s hi q1 q2 q3, fun j m s q1 q2 q3 => ?_, fun v hv => hv⟩
          have := cnt_zero hz j
          rw [q1.lit] at this
          exact Nat.le_of_not_lt (fun hj => this hj q2 q3)
        · rw [if_neg h0]
          have hcn : 0 < cnt T a n := by omega
          obtain ⟨i2, hi2, _, hi4⟩ := cnt_pos hcn
          have hnl : n ∉ T.lims := fun hm => by
            have := levelAt_lt T.lims hi2 hm
            have := levelAt_le T.lims n
            omega
          obtain ⟨id, rfl, hu, _, hm, ho2⟩ : ∃ id : Nat, r = id ∧ W.used.testBit id = true ∧ n ∉ T.lims ∧ T.litAt n ∈ W.cl id ∧ ∀ m ∈ W.cl id, m ≠ T.litAt n → ∃ j s, j < n ∧ At T j (-m) s := by
            rcases hr n _ r hat with ⟨_, e⟩ | e
            · exact absurd e hnl
            · exact e
          rw [hat.reason hk, hw.clause hu]
          simp only []
          obtain ⟨p1, p2, p3, p4, p5, p6⟩ := markAllF_law hk (n := n) (by omega) (normC (W.cl id)) { a with opn := a.opn - 1 } h1 (by show a.opn - 1 = _; show _ = ((cnt T a n : Nat) : Int); omega) (fun l hl2 => by
            rw [hw.mem_norm] at hl2
            by_cases e : l = T.litAt n
            · left; rw [e]; exact hs
            · right; exact ho2 l hl2 e)
          rw [if_pos p1]
          have hop := (markAllF_opn T (normC (W.cl id)) { a with opn := a.opn - 1 }).1
          obtain ⟨i, s, q1, q2, q3, q4, q5, q6, q7⟩ := ih _ (by omega) p2 p3 (by simp only [] at hop; omega) (fun i m s hi q1 q2 q3 => by
            by_cases e : i = n
            · subst e
              have e2 := hat.eq q1
              refine ⟨id, e2.2.symm, hu, fun x hx => p5 x ((hw.mem_norm id x).2 hx)⟩
            · have hs2 : a.seen.testBit m.natAbs = true := by
                rcases p6 _ q2 with e3 | ⟨x, hx, e3⟩
                · exact e3
                · rw [hw.mem_norm] at hx
                  by_cases e4 : x = T.litAt n
                  · rw [← e3, e4]; exact hs
                  · obtain ⟨j, s2, hj, hj2⟩ := ho2 x hx e4
                    have := hj2.inj hk q1 (by rw [Int.natAbs_neg]; exact e3)
                    omega
              obtain ⟨id2, w1, w2, w3⟩ := hab i m s (by omega) q1 hs2 q3
              exact ⟨id2, w1, w2, fun x hx => p4 _ (w3 x hx)⟩)
          exact ⟨i, s, q1, q2, q3, q4, q5, q6, fun v hv => q7 v (p4 v hv)⟩
      · rw [if_neg hl]
        have hlev : levelAt T.lims n ≠ T.lims.length := fun e => hl (by rw [hat.level hk, h.lv, e])
        rw [if_neg (by simpa using hlev)] at ho hc
        exact ih a (by omega) h (by simpa using ho) (by simpa using hc) (fun i m s hi q1 q2 q3 => by
          by_cases e : i = n
          · subst e; exact absurd q3 hlev
          · exact hab i m s (by omega) q1 q2 q3)
    · rw [if_neg hs]
      have hsf : a.seen.testBit (T.litAt n).natAbs = false := by simpa using hs
      rw [hsf, Bool.false_and] at ho hc
      exact ih a (by omega) h (by simpa using ho) (by simpa using hc) (fun i m s hi q1 q2 q3 => by
        by_cases e : i = n
        · subst e
          have e2 := (hat.eq q1).1
          rw [e2] at hs; exact absurd q2 hs
        · exact hab i m s (by omega) q1 q2 q3)

/-! ### the two sets -/
theorem holds_join {a : LearnS} {l q : Int} (hl : l ≠ 0) (hq : q ≠ 0) : (a.join l).holds q = (a.holds q || decide (q = l)) := by
  unfold LearnS.join LearnS.holds
  by_cases h1 : 0 < l
  · rw [if_pos h1]
    by_cases h2 : 0 < q
    · simp only [if_pos h2, testBit_set]
      congr 1
      simp; omega
    · simp only [if_neg h2]
      have : decide (q = l) = false := by simp; omega
      rw [this]; simp
  · rw [if_neg h1]
    by_cases h2 : 0 < q
    · simp only [if_pos h2]
      have : decide (q = l) = false := by simp; omega
      rw [this]; simp
    · simp only [if_neg h2, testBit_set]
      congr 1
      simp; omega
theorem MI.holds {T : TrailS} {a : LearnS} (h : MI T a) {q : Int} (hq : q ≠ 0) : a.holds q = true ↔ a.seen.testBit q.natAbs = true ∧ ∃ i r, At T i (-q) r ∧ 0 < levelAt T.lims i ∧ levelAt T.lims i < T.lims.length := by
  unfold LearnS.holds
  by_cases hp : 0 < q
  · rw [if_pos hp, h.pos, show ((q.natAbs : Nat) : Int) = q from by omega]
  · rw [if_neg hp, h.neg, show ((q.natAbs : Nat) : Int) = -q from by omega]
theorem litOf_of (a : LearnS) {v : Nat} (hv : 1 ≤ v) (h : a.litOf v ≠ 0) : a.holds (a.litOf v) = true ∧ (a.litOf v).natAbs = v := by
  unfold LearnS.litOf at h ⊢
  unfold LearnS.holds
  by_cases h1 : a.neg.testBit v = true
  · simp only [if_pos h1]
    rw [if_neg (by omega), Int.natAbs_neg, Int.natAbs_natCast]
    exact ⟨h1, rfl⟩
  · rw [if_neg h1] at h ⊢
    by_cases h2 : a.pos.testBit v = true
    · simp only [if_pos h2]
      rw [if_pos (by omega), Int.natAbs_natCast]
      exact ⟨h2, rfl⟩
    · rw [if_neg h2] at h; exact absurd rfl h
theorem litOf_eq {a : LearnS} {q : Int} (hq : q ≠ 0) (h : a.holds q = true) (hx : a.holds (-q) = true → False) : a.litOf q.natAbs = q := by
  unfold LearnS.litOf
  unfold LearnS.holds at h hx
  by_cases hp : 0 < q
  · rw [if_pos hp] at h
    rw [if_neg (by omega), Int.natAbs_neg] at hx
    rw [if_neg hx, if_pos h]; omega
  · rw [if_neg hp] at h
    rw [if_pos h]; omega

/-! ### shrink -/
theorem shrinkF_law (W : WatchS) (T : TrailS) (a : LearnS) (asr : Int) (hne : asr ≠ 0) : ∀ (n v : Nat) (lits : List Int) (back : Int), 1 ≤ v → (lits.map Int.natAbs).Pairwise (· < ·) → (∀ l ∈ lits, l.natAbs < v) →
    (∀ l, l ∈ (shrinkF W T a asr n v lits back).1 ↔ l ∈ lits ∨ ∃ u, v ≤ u ∧ u < v + n ∧ l = a.litOf u ∧ (l = asr ∨ (l ≠ 0 ∧ spareF W T a l = false))) ∧
    ((shrinkF W T a asr n v lits back).1.map Int.natAbs).Pairwise (· < ·) ∧ back ≤ (shrinkF W T a asr n v lits back).2 ∧
    (∀ u, v ≤ u → u < v + n → a.litOf u ≠ asr → a.litOf u ≠ 0 → spareF W T a (a.litOf u) = false → T.level u ≤ (shrinkF W T a asr n v lits back).2) ∧
    ((shrinkF W T a asr n v lits back).2 = back ∨ ∃ u, v ≤ u ∧ u < v + n ∧ a.litOf u ≠ asr ∧ a.litOf u ≠ 0 ∧ spareF W T a (a.litOf u) = false ∧ (shrinkF W T a asr n v lits back).2 = T.level u) := by
  intro n
  induction n with
  | zero =>
    intro v lits back hv hp hl
    show (∀ l, l ∈ lits ↔ _) ∧ (lits.map Int.natAbs).Pairwise (· < ·) ∧ back ≤ back ∧ _ ∧ (back = back ∨ _)
    refine ⟨fun l => ⟨.inl, fun h => h.elim id (fun ⟨u, a1, a2, _⟩ => by omega)⟩, hp, Int.le_refl _, fun u a1 a2 => by omega, .inl rfl⟩
  | succ n ih =>
    intro v lits back hv hp hl
    rw [shrinkF_succ]
    have hsn : ∀ q : Int, q ≠ 0 → q = a.litOf v → ((lits ++ [q]).map Int.natAbs).Pairwise (· < ·) ∧ ∀ l ∈ lits ++ [q], l.natAbs < v + 1 := by
      intro q hq he
      have hqv : q.natAbs = v := by rw [he] at hq ⊢; exact (litOf_of a hv hq).2
      constructor
      · rw [List.map_append, List.pairwise_append]
        refine ⟨hp, by simp, fun x hx y hy => ?_⟩
        obtain ⟨l, hl2, rfl⟩ := List.mem_map.1 hx
        simp at hy; subst hy
        have := hl l hl2; omega
      · intro l hl2
        rcases List.mem_append.1 hl2 with e | e
        · have := hl l e; omega
        · simp at e; subst e; omega
    by_cases h1 : a.litOf v = asr
    · rw [if_pos h1]
      obtain ⟨s1, s2⟩ := hsn _ (by rw [h1]; exact hne) rfl
      obtain ⟨p1, p2, p3, p4, p5⟩ := ih (v + 1) _ back (by omega) s1 s2
      refine ⟨fun l => ?_, p2, p3, fun u a1 a2 a3 a4 a5 => ?_, ?_⟩
      · rw [p1, List.mem_append, List.mem_singleton]
        constructor
        · rintro ((e | e) | ⟨u, a1, a2, a3⟩)
          · exact .inl e
          · exact .inr ⟨v, by omega, by omega, e, .inl (e.trans h1)⟩
          · exact .inr ⟨u, by omega, by omega, a3⟩
        · rintro (e | ⟨u, a1, a2, a3, a4⟩)
          · exact .inl (.inl e)
          · by_cases e : u = v
            · subst e; exact .inl (.inr a3)
            · exact .inr ⟨u, by omega, by omega, a3, a4⟩
      · have : u ≠ v := fun e => a3 (by rw [e]; exact h1)
        exact p4 u (by omega) (by omega) a3 a4 a5
      · exact p5.imp id (fun ⟨u, a1, a2, a3⟩ => ⟨u, by omega, by omega, a3⟩)
    · rw [if_neg h1]
      by_cases h2 : a.litOf v ≠ 0 ∧ spareF W T a (a.litOf v) = false
      · rw [if_pos h2]
        obtain ⟨s1, s2⟩ := hsn _ h2.1 rfl
        obtain ⟨p1, p2, p3, p4, p5⟩ := ih (v + 1) _ (if back < T.level v then T.level v else back) (by omega) s1 s2
        have hb : back ≤ (if back < T.level v then T.level v else back) ∧ T.level v ≤ (if back < T.level v then T.level v else back) := by split <;> omega
        refine ⟨fun l => ?_, p2, by omega, fun u a1 a2 a3 a4 a5 => ?_, ?_⟩
        · rw [p1, List.mem_append, List.mem_singleton]
          constructor
          · rintro ((e | e) | ⟨u, a1, a2, a3⟩)
            · exact .inl e
            · exact .inr ⟨v, by omega, by omega, e, .inr (by rw [e]; exact h2)⟩
            · exact .inr ⟨u, by omega, by omega, a3⟩
          · rintro (e | ⟨u, a1, a2, a3, a4⟩)
            · exact .inl (.inl e)
            · by_cases e : u = v
              · subst e; exact .inl (.inr a3)
              · exact .inr ⟨u, by omega, by omega, a3, a4⟩
        · by_cases e : u = v
          · subst e; omega
          · exact p4 u (by omega) (by omega) a3 a4 a5
        · rcases p5 with e | ⟨u, a1, a2, a3⟩
          · by_cases hlt : back < T.level v
            · right; rw [if_pos hlt] at e; rw [if_pos hlt]; exact ⟨v, by omega, by omega, h1, h2.1, h2.2, e⟩
            · left; rw [if_neg hlt] at e; rw [if_neg hlt]; exact e
          · exact .inr ⟨u, by omega, by omega, a3⟩
      · rw [if_neg h2]
        obtain ⟨p1, p2, p3, p4, p5⟩ := ih (v + 1) lits back (by omega) hp (fun l hl2 => by have := hl l hl2; omega)
        refine ⟨fun l => ?_, p2, p3, fun u a1 a2 a3 a4 a5 => ?_, ?_⟩
        · rw [p1]
          constructor
          · rintro (e | ⟨u, a1, a2, a3⟩)
            · exact .inl e
            · exact .inr ⟨u, by omega, by omega, a3⟩
          · rintro (e | ⟨u, a1, a2, a3, a4⟩)
            · exact .inl e
            · have : u ≠ v := fun e => by
                subst e
                rcases a4 with e | e
                · exact h1 (by rw [← a3]; exact e)
                · exact h2 (by rw [← a3]; exact e)
              exact .inr ⟨u, by omega, by omega, a3, a4⟩
        · have : u ≠ v := fun e => by subst e; exact h2 ⟨a4, a5⟩
          exact p4 u (by omega) (by omega) a3 a4 a5
        · exact p5.imp id (fun ⟨u, a1, a2, a3⟩ => ⟨u, by omega, by omega, a3⟩)

theorem spareLoop_true {T : TrailS} {a : LearnS} {q : Int} : ∀ {c : List Int}, spareLoop T a q c = true → ∀ s ∈ c, s = -q ∨ a.holds s = true ∨ T.level s.natAbs = 0 := by
  intro c
  induction c with
  | nil => intro _ s hs; simp at hs
  | cons x r ih =>
    intro h s hs
    rw [spareLoop_cons] at h
    by_cases hc : x ≠ -q ∧ a.holds x = false ∧ T.level x.natAbs ≠ 0
    · rw [if_pos hc] at h; simp at h
    · rw [if_neg hc] at h
      rcases List.mem_cons.1 hs with e | e
      · subst e
        by_cases h1 : s = -q
        · exact .inl h1
        · by_cases h2 : a.holds s = true
          · exact .inr (.inl h2)
          · by_cases h3 : T.level s.natAbs = 0
            · exact .inr (.inr h3)
            · exact absurd ⟨h1, by simpa using h2, h3⟩ hc
      · exact ih h s e

/-! ### the learnt clause -/
structure AnaOut (W : WatchS) (T : TrailS) (g : LearntS) : Prop where
  err : g.err = 0
  nf : checkClause g.lits = 0
  fals : ∀ l ∈ g.lits, ∃ j r, At T j (-l) r ∧ 0 < levelAt T.lims j
  asm : g.assert ∈ g.lits
  asl : ∃ j r, At T j (-g.assert) r ∧ levelAt T.lims j = T.lims.length
  b0 : 0 ≤ g.back
  blt : g.back < T.lims.length
  oth : ∀ l ∈ g.lits, l ≠ g.assert → ∃ j r, At T j (-l) r ∧ (levelAt T.lims j : Int) ≤ g.back
  att : g.back = 0 ∨ ∃ l ∈ g.lits, l ≠ g.assert ∧ ∃ j r, At T j (-l) r ∧ (levelAt T.lims j : Int) = g.back
  rup : ∀ A : Int → Prop, Cons A → (∀ id, W.used.testBit id = true → Ok1 A (W.cl id)) → (∀ l ∈ g.lits, A (-l)) → False

/-- Literals of level 0 are in every closed set. -/
theorem level0_in {W : WatchS} {T : TrailS} (hk : TrailOK T) (hr : Reas W T) {A : Int → Prop} (hc : Cons A) (hcl : ∀ id, W.used.testBit id = true → Ok1 A (W.cl id)) :
    ∀ (i : Nat) (m r : Int), At T i m r → levelAt T.lims i = 0 → A m := by
  intro i
  induction i using Nat.strongRecOn with
  | _ i ih =>
    intro m r hat hl
    rcases hr i m r hat with ⟨_, e⟩ | ⟨id, rfl, hu, _, hm, ho⟩
    · have := levelAt_pos e; omega
    · refine (hcl id hu).unit hc (fun s hs hne => ?_)
      obtain ⟨j, s2, hj, hj2⟩ := ho s hs hne
      exact ih j hj _ _ hj2 (by have := levelAt_mono T.lims (Nat.le_of_lt hj); omega)
/-- A conflict at level 0: the empty row follows. -/
theorem conf0 {W : WatchS} {T : TrailS} (hw : WS W) (hk : TrailOK T) (hr : Reas W T) (h0 : T.lims = []) {id : Nat} (hu : W.used.testBit id = true) (hf : ∀ l ∈ W.cl id, T.value l = -1)
    {A : Int → Prop} (hc : Cons A) (hcl : ∀ id, W.used.testBit id = true → Ok1 A (W.cl id)) : False := by
  refine (hcl id hu).conf hc (fun s hs => ?_)
  have hg := (good_iff _).1 ((hw.v id).gd s hs)
  obtain ⟨j, r, hj⟩ := valn_at hg.1 (hf s hs)
  exact level0_in hk hr hc hcl j _ r hj (by rw [h0]; rfl)
end Go.Proofs.Qxb6500354aGreat
