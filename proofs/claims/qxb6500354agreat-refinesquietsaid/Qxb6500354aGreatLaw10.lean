/- The laws on the solver's answers: gauges, the witness, the refutation. -/
import Derived.Test.Qxb6500354aGreatLaw9
import Derived.Test.Qxb6500354aGreatSlv4
namespace Go.Proofs.Qxb6500354aGreat
set_option linter.unusedVariables false
set_option linter.unusedSimpArgs false

/-! ### the gauges -/
def dueF : Nat → Nat → Nat → Nat
  | 0, r, _ => r
  | f + 1, r, n => if r < 4 then (if n < r + 1 then r else dueF f (r + 1) (n - (r + 1))) else r
theorem dueF_law (S : SolverS) (h : GG S) : dueF 5 0 S.conflicts = S.restarts := by
  have h1 := h.r4
  have h2 := h.cf
  have h3 := h.sl
  rcases (by omega : S.restarts = 0 ∨ S.restarts = 1 ∨ S.restarts = 2 ∨ S.restarts = 3 ∨ S.restarts = 4) with e | e | e | e | e
  all_goals
    rw [e] at h2 h3 ⊢
    simp only [tri] at h2
    simp only [dueF]
  · rw [if_pos (by omega), if_pos (by omega)]
  · rw [if_pos (by omega), if_neg (by omega), if_pos (by omega), if_pos (by omega)]
  · rw [if_pos (by omega), if_neg (by omega), if_pos (by omega), if_neg (by omega), if_pos (by omega), if_pos (by omega)]
  · rw [if_pos (by omega), if_neg (by omega), if_pos (by omega), if_neg (by omega), if_pos (by omega), if_neg (by omega), if_pos (by omega), if_pos (by omega)]
  · rw [if_pos (by omega), if_neg (by omega), if_pos (by omega), if_neg (by omega), if_pos (by omega), if_neg (by omega), if_pos (by omega), if_neg (by omega), if_neg (by omega)]

/-! ### the witness -/
def maskLoop : List Int → Nat → Nat → Option Nat
  | [], _, m => some m
  | l :: r, v, m => if l = (v : Int) then maskLoop r (v + 1) (m ||| 2 ^ (v - 1)) else if l = -(v : Int) then maskLoop r (v + 1) m else none
theorem maskLoop_law : ∀ (l : List Int) (v m : Nat), 1 ≤ v → (∀ i, i < l.length → l.getD i 0 = ((v + i : Nat) : Int) ∨ l.getD i 0 = -((v + i : Nat) : Int)) → m < 2 ^ (v - 1) →
    ∃ M, maskLoop l v m = some M ∧ M < 2 ^ (v - 1 + l.length) ∧ ∀ j, M.testBit j = if j < v - 1 then m.testBit j else decide (j < v - 1 + l.length ∧ l.getD (j - (v - 1)) 0 = ((j + 1 : Nat) : Int)) := by
  intro l
  induction l with
  | nil =>
    intro v m hv _ hm
    refine ⟨m, rfl, by simpa using hm, fun j => ?_⟩
    by_cases h : j < v - 1
    · rw [if_pos h]
    · rw [if_neg h, decide_eq_false (by simp; omega)]
      exact Nat.testBit_lt_two_pow (Nat.lt_of_lt_of_le hm (Nat.pow_le_pow_right (by decide) (by omega)))
  | cons x r ih =>
    intro v m hv hl hm
    have h0 := hl 0 (by simp)
    simp only [List.getD_cons_zero, Nat.add_zero] at h0
    have hr : ∀ i, i < r.length → r.getD i 0 = ((v + 1 + i : Nat) : Int) ∨ r.getD i 0 = -((v + 1 + i : Nat) : Int) := by
      intro i hi
      have := hl (i + 1) (by simp; omega)
      simp only [List.getD_cons_succ] at this
      rw [show v + 1 + i = v + (i + 1) from by omega]; exact this
    have hlen : v + 1 - 1 + r.length = v - 1 + (x :: r).length := by rw [List.length_cons]; omega
    rcases h0 with e | e
    · have hm2 : m ||| 2 ^ (v - 1) < 2 ^ (v + 1 - 1) := by
        refine Nat.or_lt_two_pow (Nat.lt_of_lt_of_le hm (Nat.pow_le_pow_right (by decide) (by omega))) (Nat.pow_lt_pow_right (by decide) (by omega))
      obtain ⟨M, a, b, c⟩ := ih (v + 1) (m ||| 2 ^ (v - 1)) (by omega) hr hm2
      refine ⟨M, ?_, by rw [← hlen]; exact b, fun j => ?_⟩
      · show (if x = (v : Int) then _ else _) = _
        rw [if_pos e, a]
      · rw [c j]
        by_cases h1 : j < v - 1
        · rw [if_pos (show j < v + 1 - 1 by omega), if_pos h1, Nat.testBit_or, Nat.testBit_two_pow_of_ne (by omega), Bool.or_false]
        · rw [if_neg h1]
          by_cases h2 : j = v - 1
          · subst h2
            rw [if_pos (by omega), Nat.testBit_or, Nat.testBit_two_pow_self, Bool.or_true, Nat.sub_self, List.getD_cons_zero, decide_eq_true]
            refine ⟨by rw [List.length_cons]; omega, by rw [e]; omega⟩
          · rw [if_neg (by omega), hlen, show j - (v + 1 - 1) = j - (v - 1) - 1 from by omega]
            obtain ⟨k, hk⟩ : ∃ k, j - (v - 1) = k + 1 := ⟨j - (v - 1) - 1, by omega⟩
            rw [hk, List.getD_cons_succ, Nat.add_sub_cancel]
    · have hne : ¬ x = (v : Int) := by omega
      have hm2 : m < 2 ^ (v + 1 - 1) := Nat.lt_of_lt_of_le hm (Nat.pow_le_pow_right (by decide) (by omega))
      obtain ⟨M, a, b, c⟩ := ih (v + 1) m (by omega) hr hm2
      refine ⟨M, ?_, by rw [← hlen]; exact b, fun j => ?_⟩
      · show (if x = (v : Int) then _ else if x = -(v : Int) then _ else _) = _
        rw [if_neg hne, if_pos e, a]
      · rw [c j]
        by_cases h1 : j < v - 1
        · rw [if_pos (show j < v + 1 - 1 by omega), if_pos h1]
        · rw [if_neg h1]
          by_cases h2 : j = v - 1
          · subst h2
            rw [if_pos (by omega), Nat.sub_self, List.getD_cons_zero, decide_eq_false (by rw [e]; omega)]
            exact Nat.testBit_lt_two_pow hm
          · rw [if_neg (by omega), hlen, show j - (v + 1 - 1) = j - (v - 1) - 1 from by omega]
            obtain ⟨k, hk⟩ : ∃ k, j - (v - 1) = k + 1 := ⟨j - (v - 1) - 1, by omega⟩
            rw [hk, List.getD_cons_succ, Nat.add_sub_cancel]
theorem modelF_get (T : TrailS) {i : Nat} (h : i < 12) : (modelF T).getD i 0 = if T.value ((i : Int) + 1) = 1 then (i : Int) + 1 else -((i : Int) + 1) := by
  unfold modelF
  rw [List.getD_eq_getElem?_getD, List.getElem?_map, List.getElem?_range h]; rfl
theorem modelF_len (T : TrailS) : (modelF T).length = 12 := by simp [modelF]
structure SatLaw (ps : List (List Int)) (T : TrailS) : Prop where
  mask : ∃ M, maskLoop (modelF T) 1 0 = some M ∧ M < 4096 ∧ allHoldF ps M = true
  val : ∀ x ∈ modelF T, T.value x = 1
theorem SatEnd.law {ps : List (List Int)} {s : St} (h : SatEnd ps s) (hok : ps.length ≤ 40 ∧ ∀ c ∈ ps, checkClause c = 0) : SatLaw ps s.T := by
  have hwt := h.sb.b.wt
  have hfull : ∀ i : Nat, i < 12 → s.T.value ((i : Int) + 1) = 1 ∨ s.T.value ((i : Int) + 1) = -1 := fun i hi => full_val hwt.tk h.ln (v := i + 1) (by omega) (by omega)
  refine ⟨?_, ?_⟩
  · obtain ⟨M, h1, h2, h3⟩ := maskLoop_law (modelF s.T) 1 0 (Nat.le_refl _) (fun i hi => by
      rw [modelF_len] at hi
      rw [modelF_get _ hi]
      split
      · left; omega
      · right; omega) (by decide)
    rw [modelF_len] at h2 h3
    refine ⟨M, h1, h2, ?_⟩
    rw [allHoldF_iff]
    intro c hc
    rw [holdsF_iff]
    obtain ⟨i, hi, hic⟩ := List.getElem_of_mem hc
    obtain ⟨p1, p2⟩ := h.sb.b.pr i (by have := hok.1; omega)
    have hu : s.W.used.testBit i = true := by rw [p1]; simpa using hi
    have hcl : normC (s.W.cl i) = c := by rw [p2 hi, List.getD_eq_getElem?_getD, List.getElem?_eq_getElem hi, ← hic]; rfl
    have hv := hwt.ws.v i
    have hlit : ∃ l ∈ s.W.cl i, s.T.value l = 1 := by
      rcases h.dn.fix hwt hu with q | ⟨l, hl, m, hm, hne, h0, _⟩
      · exact q
      · exfalso
        have hg := (good_iff l).1 (hv.gd l hl)
        have := hfull (l.natAbs - 1) (by omega)
        rw [show ((l.natAbs - 1 : Nat) : Int) + 1 = l.natAbs from by omega] at this
        by_cases hp : 0 < l
        · rw [show (l.natAbs : Int) = l from by omega, h0] at this; omega
        · rw [show (l.natAbs : Int) = -l from by omega, value_neg l hg.1, h0] at this; omega
    obtain ⟨l, hl, hl1⟩ := hlit
    have hlc : l ∈ c := by rw [← hcl]; exact (normC_perm hv.gd hv.dist).mem_iff.2 hl
    have hg := (good_iff l).1 (hv.gd l hl)
    refine ⟨l, hlc, ?_⟩
    unfold trueF
    rw [h3 (l.natAbs - 1)]
    simp only [Nat.sub_self, Nat.not_lt_zero, if_false, Nat.sub_zero, Nat.zero_add]
    rw [modelF_get _ (by omega), show ((l.natAbs - 1 : Nat) : Int) + 1 = l.natAbs from by omega, show l.natAbs - 1 + 1 = l.natAbs from by omega]
    by_cases hp : 0 < l
    · rw [show (l.natAbs : Int) = l from by omega, hl1, if_pos rfl, decide_eq_true hp, decide_eq_true ⟨by omega, rfl⟩]; rfl
    · rw [show (l.natAbs : Int) = -l from by omega, value_neg l hg.1, hl1, if_neg (by omega), decide_eq_false hp, decide_eq_false (by rintro ⟨_, e⟩; omega)]; rfl
  · intro x hx
    obtain ⟨i, hi, hix⟩ := List.getElem_of_mem hx
    rw [modelF_len] at hi
    have := modelF_get s.T hi
    rw [List.getD_eq_getElem?_getD, List.getElem?_eq_getElem (by rw [modelF_len]; exact hi), hix] at this
    simp only [Option.getD_some] at this
    rw [this]
    rcases hfull i hi with e | e
    · rw [if_pos e]; exact e
    · rw [if_neg (by omega), value_neg _ (by omega), e]; rfl
theorem table_nonneg {ps : List (List Int)} {M : Nat} (hM : M < 4096) (h : allHoldF ps M = true) : 0 ≤ tableF ps 4096 0 := by
  refine (table_pos fun e => ?_).1
  have := table_neg.1 e M hM
  rw [h] at this; exact absurd this (by decide)

/-! ### the refutation -/
structure UnsatLaw (ps : List (List Int)) (s : St) (rs : List (Bool × List Int)) : Prop where
  log : s.S.log = flatOf rs
  ok : ∀ r ∈ rs, checkClause r.2 = 0
  read : parseF (printB s.S.log) = ⟨0, 0, flatOf rs⟩
  short : (printB s.S.log).length ≤ 1048576
  table : tableF ps 4096 0 = -1
  chk : checkLoop rs 0 ps = ⟨0, 0, 0⟩
  adds : addsOf rs = s.S.conflicts
  run : ∃ b, RunP ps rs b ∧ b.Perm ([] :: liveL s.W)
theorem UnsatEnd.law {ps : List (List Int)} {s : St} (h : UnsatEnd ps s) (hok : ps.length ≤ 40 ∧ ∀ c ∈ ps, checkClause c = 0) : ∃ rs, UnsatLaw ps s rs := by
  have hl := h.lg.len
  obtain ⟨rs, b, e1, e2, e3, e4, e5⟩ := h.lg
  have hcf := h.cf
  have hps : ∀ d ∈ ps, RowOK d := fun d hd => RowOK.of (hok.2 d hd)
  have hrs : ∀ r ∈ rs, RowOK r.2 := fun r hr => RowOK.of (e5 r hr)
  have hb : [] ∈ b := e3.mem_iff.2 List.mem_cons_self
  have hsh : (printB s.S.log).length ≤ 1048576 := by have := printB_len s.S.log; have := hok.1; omega
  refine ⟨rs, e1, e5, ?_, hsh, e2.refutes hps hrs hb, ?_, e4, b, e2, e3⟩
  · rw [e1] at hsh ⊢; exact parse_print e5 hsh
  · rw [(checkLoop_run rs 0 ps hps hrs).2 b e2, if_pos hb]
end Go.Proofs.Qxb6500354aGreat
