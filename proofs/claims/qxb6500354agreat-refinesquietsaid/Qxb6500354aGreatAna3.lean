/- THE LAW OF THE ANALYSIS, 3: Analyze. -/
import Derived.Test.Qxb6500354aGreatInv
namespace Go.Proofs.Qxb6500354aGreat
set_option linter.unusedVariables false
set_option linter.unusedSimpArgs false

theorem analyze_law {W : WatchS} {T : TrailS} (h : WT W T) {id : Nat} (hu : W.used.testBit id = true) (hf : ∀ l ∈ W.cl id, T.value l = -1) (hd : T.lims ≠ []) : AnaOut W T (analyzeF W T id) := by
  have hw := h.ws
  have hk := h.tk
  have hr := h.rs
  have hL : 0 < T.lims.length := List.length_pos_iff.2 hd
  -- a literal of the level at hand
  obtain ⟨l0, hl0, i0, r0, hat0, hlev0⟩ : ∃ l ∈ W.cl id, ∃ i r, At T i (-l) r ∧ levelAt T.lims i = T.lims.length := by
    have hdm : T.lims.getD (T.lims.length - 1) 0 ∈ T.lims := getD_lim_mem (by omega)
    rcases h.fx _ hdm id hu with ⟨l, hl, i, r, hi, hat⟩ | ⟨l, hl, m, hm, hne, q1, q2⟩
    · have := hf l hl; rw [hat.val hk] at this; omega
    · have hl0 := ((good_iff l).1 ((hw.v id).gd l hl)).1
      obtain ⟨i, r, hat⟩ := valn_at hl0 (hf l hl)
      refine ⟨l, hl, i, r, hat, ?_⟩
      have h1 := q1 i _ r hat (Int.natAbs_neg l)
      have h2 := (levelAt_gt hk.lims i (T.lims.length - 1) (by omega)).2 h1
      have h3 := levelAt_le T.lims i
      omega
  have hfalse : ∀ l ∈ W.cl id, ∃ j r, At T j (-l) r := fun l hl => valn_at ((good_iff l).1 ((hw.v id).gd l hl)).1 (hf l hl)
  -- marking
  obtain ⟨a0, ha0⟩ : ∃ a : LearnS, a = { LearnS.clean with lv := (T.lims.length : Nat) } := ⟨_, rfl⟩
  have hM0 : MI T a0 := by
    subst ha0
    refine ⟨rfl, ?_, ?_, ?_⟩ <;> simp [LearnS.clean]
  have hc0 : a0.opn = cnt T a0 T.st.length := by
    subst ha0
    unfold cnt
    simp [LearnS.clean]
  obtain ⟨p1, p2, p3, p4, p5, p6⟩ := markAllF_law hk (Nat.le_refl _) (normC (W.cl id)) a0 hM0 hc0 (fun l hl => by
    obtain ⟨j, r, hj⟩ := hfalse l ((hw.mem_norm id l).1 hl)
    exact .inr ⟨j, r, hj.lt, hj⟩)
  obtain ⟨a, ha⟩ : ∃ a, (markAllF T a0 (normC (W.cl id))).2 = a := ⟨_, rfl⟩
  rw [ha] at p2 p3 p4 p5 p6
  have hseen : ∀ l ∈ W.cl id, a.seen.testBit l.natAbs = true := fun l hl => p5 l ((hw.mem_norm id l).2 hl)
  have hcp : 0 < cnt T a T.st.length := by
    apply Nat.pos_of_ne_zero
    intro hz
    refine cnt_zero hz i0 hat0.lt ?_ hlev0
    rw [hat0.lit, Int.natAbs_neg]; exact hseen l0 hl0
  obtain ⟨ip, rp, hatp, hlevp, hseenp, hMI, hab, hmin, hmono⟩ := climb_law hw hk hr T.st.length a (Nat.le_refl _) p2 p3 hcp (fun i m r hi hat => by have := hat.lt; omega)
  obtain ⟨p, hp⟩ : ∃ p, (climbF W T T.st.length a).1 = p := ⟨_, rfl⟩
  obtain ⟨a1, ha1⟩ : ∃ x, (climbF W T T.st.length a).2 = x := ⟨_, rfl⟩
  have hana : analyzeF W T id = { err := 0, lits := (shrinkF W T (a1.join (-p)) (-p) 12 1 [] 0).1, assert := -p, back := (shrinkF W T (a1.join (-p)) (-p) 12 1 [] 0).2 } := by
    have hall : allFalseF T (normC (W.cl id)) = true := by
      unfold allFalseF
      rw [List.all_eq_true]
      intro l hl
      have := hf l ((hw.mem_norm id l).1 hl)
      simp [this]
    unfold analyzeF
    rw [hw.clause hu]
    simp only [if_pos hall, if_neg (Nat.ne_of_gt hL)]
    have hop : a.opn ≠ 0 := by omega
    rw [← ha0, ha, if_neg hop, hp, ha1, if_neg (by rw [← hp]; exact hatp.ne hk)]
  rw [hana]
  rw [hp] at hatp hseenp
  rw [ha1] at hseenp hMI hab hmin hmono
  have hpne : p ≠ 0 := hatp.ne hk
  clear hana p1 p5 p6 hp ha1 hc0
  obtain ⟨a2, ha2⟩ : ∃ x, a1.join (-p) = x := ⟨_, rfl⟩
  rw [ha2]
  have hh : ∀ q : Int, q ≠ 0 → (a2.holds q = true ↔ (a1.seen.testBit q.natAbs = true ∧ ∃ i r, At T i (-q) r ∧ 0 < levelAt T.lims i ∧ levelAt T.lims i < T.lims.length) ∨ q = -p) := by
    intro q hq
    rw [← ha2, holds_join (by omega) hq, Bool.or_eq_true, decide_eq_true_eq, hMI.holds hq]
  have hfal : ∀ q : Int, q ≠ 0 → a2.holds q = true → ∃ j r, At T j (-q) r ∧ 0 < levelAt T.lims j ∧ (q ≠ -p → levelAt T.lims j < T.lims.length) := by
    intro q hq hhq
    rcases (hh q hq).1 hhq with ⟨_, j, r, q1, q2, q3⟩ | e
    · exact ⟨j, r, q1, q2, fun _ => q3⟩
    · exact ⟨ip, rp, by rw [e, Int.neg_neg]; exact hatp, by omega, fun hne => absurd e hne⟩
  have hex : ∀ q : Int, q ≠ 0 → a2.holds q = true → a2.holds (-q) = true → False := by
    intro q hq h1 h2
    obtain ⟨j, r, hj, _⟩ := hfal q hq h1
    obtain ⟨k, s, hk2, _⟩ := hfal (-q) (by omega) h2
    have := hj.inj hk hk2 (by rw [Int.natAbs_neg, Int.natAbs_neg, Int.natAbs_neg])
    subst this
    have := (hj.eq hk2).1
    omega
  have hlit : ∀ q : Int, q ≠ 0 → a2.holds q = true → a2.litOf q.natAbs = q := fun q hq h1 => litOf_eq hq h1 (fun h2 => hex q hq h1 h2)
  have hvar : ∀ q : Int, q ≠ 0 → a2.holds q = true → 1 ≤ q.natAbs ∧ q.natAbs < 1 + 12 := by
    intro q hq h1
    obtain ⟨j, r, hj, _⟩ := hfal q hq h1
    have := (good_iff _).1 (hj.good hk)
    rw [Int.natAbs_neg] at this
    omega
  have hhp : a2.holds (-p) = true := (hh (-p) (by omega)).2 (.inr rfl)
  obtain ⟨s1, s2, s3, s4, s5⟩ := shrinkF_law W T a2 (-p) (by omega) 12 1 [] 0 (Nat.le_refl _) (by simp) (by simp)
  obtain ⟨res, hres⟩ : ∃ x, shrinkF W T a2 (-p) 12 1 [] 0 = x := ⟨_, rfl⟩
  rw [hres] at s1 s2 s3 s4 s5 ⊢
  have hmem : ∀ l, l ∈ res.1 ↔ l ≠ 0 ∧ a2.holds l = true ∧ (l = -p ∨ spareF W T a2 l = false) := by
    intro l
    rw [s1]
    constructor
    · rintro (e | ⟨u, u1, u2, e, q⟩)
      · simp at e
      · have hl0 : l ≠ 0 := by rcases q with q | q; · omega
                               · exact q.1
        rw [e] at hl0
        have := litOf_of a2 u1 hl0
        rw [← e] at this hl0
        exact ⟨hl0, this.1, q.imp (fun z => z) (fun q => q.2)⟩
    · rintro ⟨hl0, hh2, q⟩
      have hv := hvar l hl0 hh2
      exact .inr ⟨l.natAbs, hv.1, hv.2, (hlit l hl0 hh2).symm, q.imp (fun z => z) (fun q => ⟨hl0, q⟩)⟩
  have hlvl : ∀ l : Int, ∀ j r, At T j (-l) r → T.level l.natAbs = levelAt T.lims j := fun l j r hj => by rw [← Int.natAbs_neg]; exact hj.level hk
  have hgood : ∀ l ∈ res.1, good l = true := by
    intro l hl
    obtain ⟨h1, h2, _⟩ := (hmem l).1 hl
    have := hvar l h1 h2
    rw [good_iff]; omega
  refine ⟨rfl, ?_, ?_, ?_, ?_, s3, ?_, ?_, ?_, ?_⟩
  · unfold checkClause
    have := len12 hgood (nodup_of_lt s2)
    simp only []
    rw [if_neg (by omega)]
    exact ccLoop_mk _ _ (fun x hx => ⟨hgood x hx, by have := (good_iff x).1 (hgood x hx); omega⟩) s2
  · intro l hl
    obtain ⟨h1, h2, _⟩ := (hmem l).1 hl
    obtain ⟨j, r, q1, q2, _⟩ := hfal l h1 h2
    exact ⟨j, r, q1, q2⟩
  · exact (hmem (-p)).2 ⟨by omega, hhp, .inl rfl⟩
  · exact ⟨ip, rp, by simp only [Int.neg_neg]; exact hatp, hlevp⟩
  · rcases s5 with e | ⟨u, u1, u2, u3, u4, u5, e⟩
    · simp only []; rw [e]; omega
    · have h1 := litOf_of a2 u1 u4
      obtain ⟨j, r, q1, q2, q3⟩ := hfal _ u4 h1.1
      have := hlvl _ j r q1
      rw [h1.2] at this
      have := q3 u3
      simp only []; omega
  · intro l hl hne
    obtain ⟨h1, h2, h3⟩ := (hmem l).1 hl
    obtain ⟨j, r, q1, q2, _⟩ := hfal l h1 h2
    refine ⟨j, r, q1, ?_⟩
    have hv := hvar l h1 h2
    have hlt := hlit l h1 h2
    have := s4 l.natAbs hv.1 hv.2 (by rw [hlt]; exact hne) (by rw [hlt]; exact h1) (by rw [hlt]; exact h3.resolve_left hne)
    rw [hlvl l j r q1] at this
    exact this
  · rcases s5 with e | ⟨u, u1, u2, u3, u4, u5, e⟩
    · exact .inl e
    · right
      have h1 := litOf_of a2 u1 u4
      obtain ⟨j, r, q1, q2, q3⟩ := hfal _ u4 h1.1
      refine ⟨a2.litOf u, (hmem _).2 ⟨u4, h1.1, .inr u5⟩, u3, j, r, q1, ?_⟩
      have := hlvl _ j r q1
      rw [h1.2] at this
      rw [← this]; exact e.symm
  · intro A hc hcl hA
    have hA0 := level0_in hk hr hc hcl
    have hH : ∀ (i : Nat) (m r : Int), At T i m r → a2.holds (-m) = true → A m := by
      intro i
      induction i using Nat.strongRecOn with
      | _ i ih =>
        intro m r hat hm
        have hm0 : -m ≠ 0 := by have := hat.ne hk; omega
        by_cases hin : -m ∈ res.1
        · have := hA _ hin; rw [Int.neg_neg] at this; exact this
        · have hsp : spareF W T a2 (-m) = true := by
            cases hs : spareF W T a2 (-m) with
            | true => rfl
            | false => exact absurd ((hmem _).2 ⟨hm0, hm, .inr hs⟩) hin
          unfold spareF at hsp
          rw [Int.natAbs_neg, hat.reason hk] at hsp
          rcases hr i m r hat with ⟨e, _⟩ | ⟨id2, rfl, hu2, _, hmm, ho⟩
          · subst e; rw [clause_none (by omega)] at hsp; simp at hsp
          · rw [hw.clause hu2] at hsp
            simp only [] at hsp
            have hsl := spareLoop_true hsp
            refine (hcl id2 hu2).unit hc (fun s hs hne => ?_)
            obtain ⟨j, s2, hj, hj2⟩ := ho s hs hne
            rcases hsl s ((hw.mem_norm id2 s).2 hs) with e | e | e
            · rw [Int.neg_neg] at e; exact absurd e hne
            · exact ih j hj _ _ hj2 (by rw [Int.neg_neg]; exact e)
            · rw [hlvl s j s2 hj2] at e
              exact hA0 j _ _ hj2 (by omega)
    have hU0 : ∀ (i : Nat) (m r : Int), At T i m r → a1.seen.testBit m.natAbs = true → levelAt T.lims i < T.lims.length → A m := by
      intro i m r hat hs hl
      by_cases h0 : levelAt T.lims i = 0
      · exact hA0 i m r hat h0
      · refine hH i m r hat ((hh (-m) (by have := hat.ne hk; omega)).2 (.inl ⟨by rw [Int.natAbs_neg]; exact hs, i, r, by rw [Int.neg_neg]; exact hat, by omega, hl⟩))
    have hU : ∀ (i : Nat) (m r : Int), At T i m r → a1.seen.testBit m.natAbs = true → A m := by
      intro i
      induction i using Nat.strongRecOn with
      | _ i ih =>
        intro m r hat hs
        by_cases hl : levelAt T.lims i = T.lims.length
        · have hip := hmin i m r hat hs hl
          by_cases e : i = ip
          · subst e
            have := (hat.eq hatp).1
            subst this
            have := hA _ ((hmem (-m)).2 ⟨by omega, hhp, .inl rfl⟩)
            rw [Int.neg_neg] at this; exact this
          · obtain ⟨id2, e1, hu2, hs2⟩ := hab i m r (by omega) hat hs hl
            rcases hr i m r hat with ⟨e2, _⟩ | ⟨id3, e2, _, _, hmm, ho⟩
            · omega
            · have : id3 = id2 := by omega
              subst this
              refine (hcl id3 hu2).unit hc (fun s hsm hne => ?_)
              obtain ⟨j, s3, hj, hj2⟩ := ho s hsm hne
              exact ih j hj _ _ hj2 (by rw [Int.natAbs_neg]; exact hs2 s hsm)
        · have := levelAt_le T.lims i
          exact hU0 i m r hat hs (by omega)
    refine (hcl id hu).conf hc (fun s hs => ?_)
    obtain ⟨j, r, hj⟩ := hfalse s hs
    exact hU j _ _ hj (by rw [Int.natAbs_neg]; exact hmono _ (hseen s hs))
end Go.Proofs.Qxb6500354aGreat
