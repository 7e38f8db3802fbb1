/- THE LOOP's INVARIANT, 4: the loop ends; how it ends. -/
import Derived.Test.Qxb6500354aGreatInv3
namespace Go.Proofs.Qxb6500354aGreat
set_option linter.unusedVariables false
set_option linter.unusedSimpArgs false

/-! ### pick -/
theorem open_var {T : TrailS} (hk : TrailOK T) (h : T.st.length < 12) : ∃ v : Nat, 1 ≤ v ∧ v < 13 ∧ T.value (v : Int) = 0 := by
  by_cases hx : ∃ v : Nat, 1 ≤ v ∧ v < 13 ∧ T.value (v : Int) = 0
  · exact hx
  · exfalso
    have hall : ∀ q, q < 12 → ∃ i m r, At T i m r ∧ m.natAbs = q + 1 := by
      intro q hq
      have : T.value ((q + 1 : Nat) : Int) ≠ 0 := fun e => hx ⟨q + 1, by omega, by omega, e⟩
      obtain ⟨i, m, r, h1, h2⟩ := val_ne0 this
      exact ⟨i, m, r, h1, by omega⟩
    have hch : ∃ f : Nat → Nat, ∀ q, q < 12 → ∃ m r, At T (f q) m r ∧ m.natAbs = q + 1 := by
      refine ⟨fun q => if hq : q < 12 then Classical.choose (hall q hq) else 0, fun q hq => ?_⟩
      simp only [dif_pos hq]
      exact Classical.choose_spec (hall q hq)
    obtain ⟨f, hf⟩ := hch
    have hnd : ((List.range 12).map f).Nodup := by
      unfold List.Nodup
      rw [List.pairwise_map]
      refine (List.nodup_range (n := 12)).imp_of_mem ?_
      intro a b ha2 hb2 hne e
      rw [List.mem_range] at ha2 hb2
      obtain ⟨m, r, h1, h2⟩ := hf a ha2
      obtain ⟨m2, r2, h3, h4⟩ := hf b hb2
      rw [e] at h1
      have := (h1.eq h3).1
      subst this
      omega
    have := nodup_len T.st.length ((List.range 12).map f) hnd (fun x hx => by
      obtain ⟨q, hq, rfl⟩ := List.mem_map.1 hx
      obtain ⟨m, r, h1, _⟩ := hf q (List.mem_range.1 hq)
      exact h1.lt)
    simp at this
    omega
theorem pickLoop_succ (T : TrailS) (S : SolverS) (n v best : Nat) : pickLoop T S (n + 1) v best = pickLoop T S n (v + 1) (if T.value v = 0 ∧ (best = 0 ∨ S.act best < S.act v) then v else best) := rfl
theorem pickLoop_law (T : TrailS) (S : SolverS) : ∀ (n v best : Nat), 1 ≤ v → (best = 0 ∨ (1 ≤ best ∧ best < v ∧ T.value (best : Int) = 0)) →
    (pickLoop T S n v best = 0 ∨ (1 ≤ pickLoop T S n v best ∧ pickLoop T S n v best < v + n ∧ T.value ((pickLoop T S n v best : Nat) : Int) = 0)) ∧
    ((best ≠ 0 ∨ ∃ u : Nat, v ≤ u ∧ u < v + n ∧ T.value (u : Int) = 0) → pickLoop T S n v best ≠ 0) := by
  intro n
  induction n with
  | zero =>
    intro v best hv hb
    exact ⟨hb.imp (fun z => z) (fun z => ⟨z.1, z.2.1, z.2.2⟩), fun h => h.elim (fun z => z) (fun ⟨u, a, b, _⟩ => by omega)⟩
  | succ n ih =>
    intro v best hv hb
    rw [pickLoop_succ]
    by_cases hc : T.value (v : Int) = 0 ∧ (best = 0 ∨ S.act best < S.act v)
    · rw [if_pos hc]
      obtain ⟨p1, p2⟩ := ih (v + 1) v (by omega) (.inr ⟨hv, by omega, hc.1⟩)
      exact ⟨p1.imp (fun z => z) (fun z => ⟨z.1, by omega, z.2.2⟩), fun _ => p2 (.inl (by omega))⟩
    · rw [if_neg hc]
      obtain ⟨p1, p2⟩ := ih (v + 1) best (by omega) (hb.imp (fun z => z) (fun z => ⟨z.1, by omega, z.2.2⟩))
      refine ⟨p1.imp (fun z => z) (fun z => ⟨z.1, by omega, z.2.2⟩), fun h => p2 ?_⟩
      rcases h with e | ⟨u, a, b, e⟩
      · exact .inl e
      · by_cases h1 : u = v
        · subst h1
          left; intro h0; exact hc ⟨e, .inl h0⟩
        · exact .inr ⟨u, by omega, by omega, e⟩
theorem pick_law {T : TrailS} {S : SolverS} (hk : TrailOK T) (h : T.st.length < 12) (hp : ∀ v, S.phase v = 1 ∨ S.phase v = -1) : good (pickF T S) = true ∧ T.value (pickF T S) = 0 := by
  obtain ⟨p1, p2⟩ := pickLoop_law T S 12 1 0 (Nat.le_refl _) (.inl rfl)
  obtain ⟨v, h1, h2, h3⟩ := open_var hk h
  have hne := p2 (.inr ⟨v, by omega, by omega, h3⟩)
  have hb := p1.resolve_left hne
  have e : pickF T S = ((pickLoop T S 12 1 0 : Nat) : Int) * S.phase (pickLoop T S 12 1 0) := rfl
  rw [e]
  generalize pickLoop T S 12 1 0 = b at *
  rcases hp b with q | q
  · rw [q, Int.mul_one]
    exact ⟨(good_iff _).2 (by omega), hb.2.2⟩
  · rw [q, Int.mul_neg, Int.mul_one]
    refine ⟨(good_iff _).2 (by omega), ?_⟩
    rw [value_neg _ (by omega), hb.2.2]; rfl

/-! ### the ends -/
structure SatEnd (ps : List (List Int)) (s : St) : Prop where
  sb : SB ps s
  dn : Done s.W s.T
  ln : s.T.st.length = 12
  cf : s.S.conflicts ≤ 4105
structure UnsatEnd (ps : List (List Int)) (s : St) : Prop where
  wt : WT s.W s.T
  pr : PR ps s.W
  lg : LogIs ps s.S.log ([] :: liveL s.W) s.S.conflicts
  gg : ∃ S0 : SolverS, GG S0 ∧ s.S.conflicts = S0.conflicts + 1 ∧ s.S.restarts = S0.restarts
  cf : s.S.conflicts ≤ 4106
def EndOK (ps : List (List Int)) (E : EndS) : Prop := if E.sat = true then SatEnd ps E.s else UnsatEnd ps E.s
theorem SB.decide {ps : List (List Int)} {s : St} (h : SB ps s) (hm : s.S.restarts = 4 → s.S.since ≤ NT s.T) (hd : Done s.W s.T) (hl : s.T.st.length < 12) :
    SB ps { s with T := s.T.decide (pickF s.T s.S) } ∧ MS { s with T := s.T.decide (pickF s.T s.S) } := by
  obtain ⟨p1, p2⟩ := pick_law (S := s.S) h.b.wt.tk hl h.gg.ph
  exact ⟨⟨⟨h.b.wt.decide hd p1 p2, h.b.pr, h.b.al, h.b.lg⟩, h.gg⟩, fun h4 => .inl (Nat.le_trans (hm h4) (NT_ext (Ext.decide _ _)))⟩
theorem solveN_succ (n : Nat) (s : St) : solveN (n + 1) s =
    if 0 ≤ (propF s.W s.T).1 then (if (s.prop.conflict (propF s.W s.T).1).1 = true then solveN n (s.prop.conflict (propF s.W s.T).1).2 else some ⟨false, (s.prop.conflict (propF s.W s.T).1).2⟩)
    else if s.prop.T.st.length = 12 then some ⟨true, s.prop⟩ else solveN n { s.prop with T := s.prop.T.decide (pickF s.prop.T s.prop.S) } := rfl
/-- One round of the loop. -/
structure Round (ps : List (List Int)) (s : St) : Prop where
  sb : SB ps s.prop
  ms : s.prop.S.restarts = 4 → s.prop.S.since ≤ NT s.prop.T
  cf : s.prop.S.conflicts ≤ 4105
  conf : 0 ≤ (propF s.W s.T).1 → Conf s.prop.W s.prop.T (propF s.W s.T).1
  conf0 : 0 ≤ (propF s.W s.T).1 → s.prop.T.lims = [] → analyzeF s.prop.W s.prop.T (propF s.W s.T).1 = .fail 10 ∧ UnsatEnd ps (s.prop.conflict (propF s.W s.T).1).2 ∧ (s.prop.conflict (propF s.W s.T).1).1 = false
  conf1 : 0 ≤ (propF s.W s.T).1 → s.prop.T.lims ≠ [] → Mid ps s.prop (analyzeF s.prop.W s.prop.T (propF s.W s.T).1) ∧ (s.prop.conflict (propF s.W s.T).1).1 = true ∧ SB ps (s.prop.conflict (propF s.W s.T).1).2 ∧
    MS (s.prop.conflict (propF s.W s.T).1).2 ∧ (s.prop.conflict (propF s.W s.T).1).2.S.conflicts = s.S.conflicts + 1
  full : ¬ 0 ≤ (propF s.W s.T).1 → s.prop.T.st.length = 12 → SatEnd ps s.prop
  dec : ¬ 0 ≤ (propF s.W s.T).1 → s.prop.T.st.length ≠ 12 → (propF s.W s.T).1 = -1 ∧ s.prop.T.st.length < 12 ∧ s.T.st.length ≤ s.prop.T.st.length ∧ SB ps { s.prop with T := s.prop.T.decide (pickF s.prop.T s.prop.S) } ∧ MS { s.prop with T := s.prop.T.decide (pickF s.prop.T s.prop.S) }
theorem round_law {ps : List (List Int)} {s : St} (h : SB ps s) (hm : MS s) : Round ps s := by
  obtain ⟨p1, p2, p3, p4, p5⟩ := h.prop hm
  have hcb := h.bound hm
  have hge : s.T.st.length ≤ s.prop.T.st.length := by obtain ⟨e, he⟩ := p4; rw [he]; simp
  have hl12 := p1.b.wt.tk.len
  refine ⟨p1, p2, hcb, fun h0 => ?_, fun h0 hl => ?_, fun h0 hl => ?_, fun h0 hl => ?_, fun h0 hl => ?_⟩
  · rcases p3 with e | ⟨e, _⟩
    · exact e
    · omega
  · obtain ⟨id, e, hu, hf⟩ : Conf s.prop.W s.prop.T (propF s.W s.T).1 := by
      rcases p3 with e | ⟨e, _⟩
      · exact e
      · omega
    have ha := analyze0 p1.b.wt.ws hu hf hl
    rw [← e] at ha
    have hc := conflict_eq s.prop (propF s.W s.T).1
    rw [ha, if_neg (show ¬ (LearntS.fail 10).err = 0 by decide)] at hc
    rw [hc]
    refine ⟨ha, ⟨p1.b.wt, p1.b.pr, ?_, ⟨s.prop.S, p1.gg, rfl, rfl⟩, by show s.prop.S.conflicts + 1 ≤ 4106; exact Nat.succ_le_succ hcb⟩, rfl⟩
    show LogIs ps _ ([] :: liveL s.prop.W) (s.prop.S.conflicts + 1)
    rw [note_log]
    refine p1.b.lg.add (RupP.live p1.b.wt.ws (fun A h1 h2 _ => conf0 p1.b.wt.ws p1.b.wt.tk p1.b.wt.rs hl hu hf h1 h2)) (by have := liveL_len s.prop.W; omega) (by decide)
  · obtain ⟨id, e, hu, hf⟩ : Conf s.prop.W s.prop.T (propF s.W s.T).1 := by
      rcases p3 with e | ⟨e, _⟩
      · exact e
      · omega
    obtain ⟨q1, q2, q3, q4⟩ := learnt_law p1 p2 hu hf hl
    rw [← e] at q1 q2 q3 q4
    have hc := conflict_eq s.prop (propF s.W s.T).1
    rw [if_pos q1.an.err] at hc
    rw [hc]
    exact ⟨q1, rfl, q2, q3, q4⟩
  · rcases p3 with e | ⟨_, e⟩
    · exact absurd e.ge h0
    · exact ⟨p1, e, hl, hcb⟩
  · rcases p3 with e | ⟨e1, e⟩
    · exact absurd e.ge h0
    · have hlt : s.prop.T.st.length < 12 := by omega
      exact ⟨e1, hlt, hge, p1.decide p2 e hlt⟩
theorem solve_law {ps : List (List Int)} : ∀ (n : Nat) (s : St), SB ps s → MS s → (4107 - s.S.conflicts) * 13 + (12 - s.T.st.length) < n → ∃ E, solveN n s = some E ∧ EndOK ps E := by
  intro n
  induction n with
  | zero => intro s _ _ h; omega
  | succ n ih =>
    intro s h hm hn
    have hr := round_law h hm
    have hcb := h.bound hm
    rw [solveN_succ]
    by_cases h0 : 0 ≤ (propF s.W s.T).1
    · rw [if_pos h0]
      by_cases hl : s.prop.T.lims = []
      · obtain ⟨a, b, c⟩ := hr.conf0 h0 hl
        rw [if_neg (by rw [c]; simp)]
        exact ⟨_, rfl, by unfold EndOK; simp only []; exact b⟩
      · obtain ⟨a, b, c, d, e⟩ := hr.conf1 h0 hl
        rw [if_pos b]
        refine ih _ c d ?_
        rw [e]; omega
    · rw [if_neg h0]
      by_cases hl : s.prop.T.st.length = 12
      · rw [if_pos hl]
        exact ⟨_, rfl, by unfold EndOK; simp only [if_true]; exact hr.full h0 hl⟩
      · rw [if_neg hl]
        obtain ⟨a, b, c, d, e⟩ := hr.dec h0 hl
        refine ih _ d e ?_
        show (4107 - s.prop.S.conflicts) * 13 + (12 - (s.prop.T.decide (pickF s.prop.T s.prop.S)).st.length) < n
        have h1 : s.prop.S.conflicts = s.S.conflicts := rfl
        have h2 : (s.prop.T.decide (pickF s.prop.T s.prop.S)).st.length = s.prop.T.st.length + 1 := by simp [TrailS.decide]
        rw [h1, h2]; omega

/-! ### the start -/
theorem empty_ws : WS WatchS.empty := ⟨fun j => ⟨by simp [WatchS.empty, WatchS.view], by simp [WatchS.empty, WatchS.view], by simp [WatchS.empty, WatchS.view], by simp [WatchS.empty, WatchS.view, View.sound], by simp [WatchS.empty, WatchS.view], by simp [WatchS.empty, WatchS.view]⟩, by simp [WatchS.empty]⟩
theorem empty_wt : WT WatchS.empty TrailS.empty := by
  refine ⟨empty_ws, ⟨by simp [TrailS.empty], by simp [TrailS.empty], by simp [TrailS.empty], by simp [TrailS.empty], by simp [TrailS.empty]⟩, ?_, ?_, ?_⟩
  · intro i l r h; simp [At, TrailS.empty] at h
  · intro j hs; simp [WatchS.empty, WatchS.view, View.sound] at hs
  · intro d hd; simp [TrailS.empty] at hd
/-- What load has laid. -/
structure LoadI (qs : List (List Int)) (W : WatchS) : Prop where
  wt : WT W TrailS.empty
  us : ∀ i, W.used.testBit i = decide (i < qs.length)
  cl : ∀ i, i < qs.length → W.cl i = qs.getD i []
theorem LoadI.room {qs : List (List Int)} {W : WatchS} (h : LoadI qs W) (hl : qs.length < 40) : W.room false = some qs.length := by
  have : ∀ n lo, lo ≤ qs.length → qs.length < lo + n → roomF W.used lo n = some qs.length := by
    intro n
    induction n with
    | zero => intro lo a b; omega
    | succ n ih =>
      intro lo a b
      show (if W.used.testBit lo = true then roomF W.used (lo + 1) n else some lo) = _
      by_cases e : lo = qs.length
      · rw [if_neg (by rw [h.us]; simp; omega), e]
      · rw [if_pos (by rw [h.us]; simp; omega)]
        exact ih (lo + 1) (by omega) (by omega)
  exact this 40 0 (by omega) (by omega)
theorem LoadI.step {qs : List (List Int)} {W : WatchS} (h : LoadI qs W) (hl : qs.length < 40) {c : List Int} (hc : checkClause c = 0) : W.add c false = (qs.length, 0, W.put qs.length c) ∧ LoadI (qs ++ [c]) (W.put qs.length c) := by
  constructor
  · unfold WatchS.add; rw [if_pos hc, h.room hl]
  · refine ⟨h.wt.put (by omega) (by rw [h.us]; simp) hc (fun d hd => by simp [TrailS.empty] at hd), fun i => ?_, fun i hi => ?_⟩
    · simp only [WatchS.put, testBit_set, h.us, List.length_append, List.length_cons, List.length_nil]
      rw [Bool.eq_iff_iff]
      simp only [Bool.or_eq_true, decide_eq_true_eq]
      omega
    · rw [List.length_append] at hi
      simp only [List.length_cons, List.length_nil] at hi
      by_cases e : i = qs.length
      · subst e
        simp [WatchS.put, upd_self]
      · have hi2 : i < qs.length := by omega
        simp only [WatchS.put, upd_ne _ _ _ _ e]
        rw [h.cl i hi2, List.getD_eq_getElem?_getD, List.getD_eq_getElem?_getD, List.getElem?_append_left hi2]
theorem load_law : ∀ (ps qs : List (List Int)) (W : WatchS), LoadI qs W → qs.length + ps.length ≤ 40 → (∀ c ∈ ps, checkClause c = 0) → LoadI (qs ++ ps) (loadF W ps) := by
  intro ps
  induction ps with
  | nil => intro qs W h _ _; rw [List.append_nil]; exact h
  | cons c r ih =>
    intro qs W h hl hc
    simp only [List.length_cons] at hl
    obtain ⟨e, h2⟩ := h.step (by omega) (hc c List.mem_cons_self)
    show LoadI _ (loadF (W.add c false).2.2 r)
    rw [e]
    have := ih (qs ++ [c]) _ h2 (by simp; omega) (fun x hx => hc x (List.mem_cons_of_mem _ hx))
    simpa using this
theorem LoadI.live {ps : List (List Int)} {W : WatchS} (h : LoadI ps W) (hl : ps.length ≤ 40) (hc : ∀ c ∈ ps, checkClause c = 0) : liveL W = ps := by
  unfold liveL
  have : ∀ n, (List.range n).filterMap (fun i => if W.used.testBit i = true then some (normC (W.cl i)) else none) = ps.take n := by
    intro n
    induction n with
    | zero => simp
    | succ n ih =>
      rw [List.range_succ, List.filterMap_append, ih]
      by_cases e : n < ps.length
      · rw [List.take_succ_eq_append_getElem e]
        have hcl := h.cl n e
        rw [List.getD_eq_getElem?_getD, List.getElem?_eq_getElem e] at hcl
        simp only [Option.getD_some] at hcl
        simp [h.us, e, hcl, normC_id (hc _ (List.getElem_mem e))]
      · rw [List.take_of_length_le (by omega), List.take_of_length_le (by omega)]
        simp [h.us, e]
  rw [this, List.take_of_length_le (by omega)]
def startSt (ps : List (List Int)) : St := { W := loadF .empty ps, T := .empty, S := .start }
theorem start_law {ps : List (List Int)} (hl : ps.length ≤ 40) (hc : ∀ c ∈ ps, checkClause c = 0) : SB ps (startSt ps) ∧ MS (startSt ps) := by
  have h0 : LoadI [] WatchS.empty := ⟨empty_wt, by simp [WatchS.empty], by simp⟩
  have h := load_law ps [] _ h0 (by simpa using hl) hc
  rw [List.nil_append] at h
  have hz : ∀ k, (loadF WatchS.empty ps).used.testBit (40 + k) = false := by intro k; rw [h.us]; simp; omega
  refine ⟨⟨⟨h.wt, fun i hi => ⟨h.us i, fun hi2 => ?_⟩, ⟨fun k => ?_, ?_⟩, ?_⟩, ⟨by simp [startSt, SolverS.start], by simp [startSt, SolverS.start, tri], by simp [startSt, SolverS.start], by simp [startSt, SolverS.start], by simp [startSt, SolverS.start], by simp [startSt, SolverS.start]⟩⟩, by intro h4; simp [startSt, SolverS.start] at h4⟩
  · show normC ((loadF WatchS.empty ps).cl i) = _
    rw [h.cl i hi2]
    refine normC_id (hc _ ?_)
    rw [List.getD_eq_getElem?_getD, List.getElem?_eq_getElem hi2]; exact List.getElem_mem _
  · show SolverS.start.alive.testBit k = _
    show (0 : Nat).testBit k = (decide (k < 12) && (loadF WatchS.empty ps).used.testBit (40 + k))
    rw [hz]; simp
  · show 0 = (List.range 12).countP fun k => (loadF WatchS.empty ps).used.testBit (40 + k)
    simp only [hz]; simp
  · show LogIs ps [] (liveL (loadF WatchS.empty ps)) 0
    rw [h.live hl hc]
    exact ⟨[], ps, rfl, rfl, List.Perm.refl _, rfl, by simp⟩
/-- How Solve's loop ends, from the start. -/
theorem run_law {ps : List (List Int)} (hl : ps.length ≤ 40) (hc : ∀ c ∈ ps, checkClause c = 0) : ∃ n E, solveN n (startSt ps) = some E ∧ EndOK ps E := by
  obtain ⟨h, hm⟩ := start_law hl hc
  obtain ⟨E, h1, h2⟩ := solve_law _ (startSt ps) h hm (Nat.lt_succ_self _)
  exact ⟨_, E, h1, h2⟩
end Go.Proofs.Qxb6500354aGreat
