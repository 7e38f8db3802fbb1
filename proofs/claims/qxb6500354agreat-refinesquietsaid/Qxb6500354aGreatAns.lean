/- The answer of Solve, plainly, as the law looks at it. -/
import Derived.Test.Qxb6500354aGreatNwd
namespace Go.Proofs.Qxb6500354aGreat
set_option linter.unusedVariables false
set_option linter.unusedSimpArgs false

theorem numB_lt {x : Int} (h : x.natAbs ≤ 13) : ∀ b ∈ numB x, b < 256 := by
  have hd : ∀ k : Nat, k ≤ 13 → k / 10 ≤ 1 := by omega
  intro b hb
  unfold numB litB at hb
  split at hb
  · simp at hb; omega
  · split at hb
    · simp at hb; omega
    · rcases List.mem_append.1 hb with e | e
      · rcases List.mem_append.1 e with e | e
        · split at e
          · simp at e; omega
          · simp at e
        · split at e
          · simp at e; omega
          · simp at e; omega
      · simp at e; omega
theorem printB_lt {rs : List (Bool × List Int)} (h : ∀ r ∈ rs, checkClause r.2 = 0) : ∀ b ∈ printB (flatOf rs), b < 256 := by
  intro b hb
  unfold printB at hb
  obtain ⟨x, hx, hbx⟩ := List.mem_flatMap.1 hb
  refine numB_lt ?_ b hbx
  unfold flatOf at hx
  obtain ⟨r, hr, hxr⟩ := List.mem_flatMap.1 hx
  have hg := (checkClause_facts (h r hr)).2.1
  unfold flatRow at hxr
  rcases List.mem_append.1 hxr with e | e
  · rcases List.mem_append.1 e with e | e
    · split at e
      · simp at e; omega
      · simp at e
    · have := (good_iff x).1 (hg x e); omega
  · simp at e; omega
/-- An error: nothing else in the answer. -/
theorem solveF_err {bs : List Nat} (h : (problemF bs).2.1 ≠ 0) : solveF bs = ⟨(problemF bs).2.1, (problemF bs).2.2, false, [], [], 0, 0⟩ := by
  unfold solveF; rw [if_neg h]
theorem satM_err {bs : List Nat} (h : (problemF bs).2.1 ≠ 0) : satM (problemF bs) = false := by unfold satM; simp [h]
structure AnsOK (bs : List Nat) (a : AnsS) : Prop where
  e : a.err = 0
  p : a.pos = 0
  pe : (problemF bs).2.1 = 0
  pp : (problemF bs).2.2 = 0
  sat : satM (problemF bs) = a.sat
  g : GaugeOK a
  pr : PR (problemF bs).1 (runE (problemF bs).1).s.W
structure AnsSat (bs : List Nat) (a : AnsS) : Prop where
  s : a.sat = true
  l : a.model.length = 12
  pf : a.proof = []
  mask : ∃ M, maskLoop a.model 1 0 = some M ∧ M < 4096 ∧ allHoldF (problemF bs).1 M = true
  val : ∀ x ∈ a.model, (runE (problemF bs).1).s.T.value x = 1
structure AnsUn (bs : List Nat) (a : AnsS) (rs : List (Bool × List Int)) : Prop where
  s : a.sat = false
  m : a.model = []
  chk : checkMF bs (bytesOf (strN a.proof)) = ⟨0, 0, 0⟩
  sz : (strN a.proof).size ≤ 1048576
  read : parseM (bytesOf (strN a.proof)) = ⟨0, 0, flatOf rs⟩
  ok : ∀ r ∈ rs, checkClause r.2 = 0
  rl : rs.length ≤ 1000000
  adds : addsOf rs = a.conf
  run : ∃ b, RunP (problemF bs).1 rs b ∧ b.Perm ([] :: liveL (runE (problemF bs).1).s.W)
theorem ans_law {bs : List Nat} (h : (problemF bs).2.1 = 0) : AnsOK bs (solveF bs) ∧ (AnsSat bs (solveF bs) ∨ ∃ rs, AnsUn bs (solveF bs) rs) := by
  have hok := problemF_ok bs
  have hpp := problemF_pos bs h
  obtain ⟨_, hE⟩ := runE_law hok
  have hs : solveF bs = ansOf (runE (problemF bs).1) := by unfold solveF; rw [if_pos h]
  rw [hs]
  by_cases hsat : (runE (problemF bs).1).sat = true
  · unfold EndOK at hE
    rw [if_pos hsat] at hE
    obtain ⟨hm, hv⟩ := hE.law hok
    have ha : ansOf (runE (problemF bs).1) = ⟨0, 0, true, modelF (runE (problemF bs).1).s.T, [], (runE (problemF bs).1).s.S.conflicts, (runE (problemF bs).1).s.S.restarts⟩ := by unfold ansOf; rw [if_pos hsat]
    rw [ha]
    obtain ⟨M, h1, h2, h3⟩ := hm
    refine ⟨⟨rfl, rfl, h, hpp, ?_, ?_, hE.sb.b.pr⟩, .inl ⟨rfl, modelF_len _, rfl, ⟨M, h1, h2, h3⟩, hv⟩⟩
    · unfold satM
      rw [decide_eq_true h, decide_eq_true (table_nonneg h2 h3)]; rfl
    · refine ⟨?_, ?_⟩
      · have := hE.cf; simp only []; omega
      · rw [if_pos rfl]; exact dueF_law _ hE.sb.gg
  · have hsf : (runE (problemF bs).1).sat = false := by simpa using hsat
    unfold EndOK at hE
    rw [if_neg hsat] at hE
    obtain ⟨rs, hu⟩ := hE.law hok
    have ha : ansOf (runE (problemF bs).1) = ⟨0, 0, false, [], printB (runE (problemF bs).1).s.S.log, (runE (problemF bs).1).s.S.conflicts, (runE (problemF bs).1).s.S.restarts⟩ := by unfold ansOf; rw [if_neg hsat]
    rw [ha]
    obtain ⟨S0, g1, g2, g3⟩ := hE.gg
    have hb : bytesOf (strN (printB (runE (problemF bs).1).s.S.log)) = printB (runE (problemF bs).1).s.S.log := bytesOf_strN (by rw [hu.log]; exact printB_lt hu.ok)
    have hread : parseM (bytesOf (strN (printB (runE (problemF bs).1).s.S.log))) = ⟨0, 0, flatOf rs⟩ := by rw [hb, ← parseF_eq]; exact hu.read
    refine ⟨⟨rfl, rfl, h, hpp, ?_, ?_, hE.pr⟩, .inr ⟨rs, rfl, rfl, ?_, by rw [strN_size]; exact hu.short, hread, hu.ok, ?_, hu.adds, hu.run⟩⟩
    · unfold satM
      rw [hu.table]; simp
    · refine ⟨hE.cf, ?_⟩
      simp only []
      rw [if_neg (by decide)]
      refine ⟨by omega, ?_⟩
      rw [g2, g3, Nat.add_sub_cancel]; exact dueF_law _ g1
    · unfold checkMF
      rw [if_pos h, hread]
      simp only []
      rw [if_pos trivial, rowsOf_flat hu.ok]; exact hu.chk
    · have := hE.lg.len
      have h2 := rows_len_le rs
      rw [← hu.log] at h2
      have := hE.cf
      have := hok.1
      omega
end Go.Proofs.Qxb6500354aGreat
