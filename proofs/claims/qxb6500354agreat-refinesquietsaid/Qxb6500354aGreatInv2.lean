/- THE LOOP's INVARIANT, 2: the log, the live list, forget. -/
import Derived.Test.Qxb6500354aGreatAna3
namespace Go.Proofs.Qxb6500354aGreat
set_option linter.unusedVariables false
set_option linter.unusedSimpArgs false

/-! ### the log as rows; the checker's run -/
def flatRow (r : Bool × List Int) : List Int := (if r.1 then [13] else []) ++ r.2 ++ [0]
def flatOf (rs : List (Bool × List Int)) : List Int := rs.flatMap flatRow
theorem flatOf_snoc (rs : List (Bool × List Int)) (r : Bool × List Int) : flatOf (rs ++ [r]) = flatOf rs ++ flatRow r := by simp [flatOf]
theorem note_log (S : SolverS) (d : Bool) (c : List Int) : (S.note d c).log = S.log ++ flatRow (d, c) := by simp [SolverS.note, flatRow]

def RunP : List (List Int) → List (Bool × List Int) → List (List Int) → Prop
  | st, [], st2 => st = st2
  | st, r :: rs, st2 => if r.1 = true then r.2 ∈ st ∧ RunP (st.erase r.2) rs st2 else RupP st r.2 ∧ st.length < 64 ∧ RunP (st ++ [r.2]) rs st2
theorem RunP.snoc : ∀ {rs : List (Bool × List Int)} {a b c : List (List Int)} {r : Bool × List Int}, RunP a rs b →
    (if r.1 = true then r.2 ∈ b ∧ c = b.erase r.2 else RupP b r.2 ∧ b.length < 64 ∧ c = b ++ [r.2]) → RunP a (rs ++ [r]) c := by
  intro rs
  induction rs with
  | nil =>
    intro a b c r h k
    have : a = b := h
    subst this
    show if r.1 = true then r.2 ∈ a ∧ RunP (a.erase r.2) [] c else RupP a r.2 ∧ a.length < 64 ∧ RunP (a ++ [r.2]) [] c
    by_cases hr : r.1 = true
    · rw [if_pos hr] at k ⊢; exact ⟨k.1, k.2.symm⟩
    · rw [if_neg hr] at k ⊢; exact ⟨k.1, k.2.1, k.2.2.symm⟩
  | cons x rs ih =>
    intro a b c r h k
    have h2 : if x.1 = true then x.2 ∈ a ∧ RunP (a.erase x.2) rs b else RupP a x.2 ∧ a.length < 64 ∧ RunP (a ++ [x.2]) rs b := h
    show if x.1 = true then x.2 ∈ a ∧ RunP (a.erase x.2) (rs ++ [r]) c else RupP a x.2 ∧ a.length < 64 ∧ RunP (a ++ [x.2]) (rs ++ [r]) c
    by_cases hx : x.1 = true
    · rw [if_pos hx] at h2 ⊢; exact ⟨h2.1, ih h2.2 k⟩
    · rw [if_neg hx] at h2 ⊢; exact ⟨h2.1, h2.2.1, ih h2.2.2 k⟩
def addsOf (rs : List (Bool × List Int)) : Nat := rs.countP fun r => !r.1
theorem addsOf_snoc (rs : List (Bool × List Int)) (r : Bool × List Int) : addsOf (rs ++ [r]) = addsOf rs + if r.1 = true then 0 else 1 := by
  unfold addsOf; rw [List.countP_append, List.countP_singleton]; cases r.1 <;> simp
theorem addsOf_cons (rs : List (Bool × List Int)) (r : Bool × List Int) : addsOf (r :: rs) = addsOf rs + if r.1 = true then 0 else 1 := by
  unfold addsOf; rw [List.countP_cons]; cases r.1 <;> simp
theorem RunP.len : ∀ {rs : List (Bool × List Int)} {a b : List (List Int)}, RunP a rs b → rs.length + b.length = a.length + 2 * addsOf rs := by
  intro rs
  induction rs with
  | nil => intro a b h; have : a = b := h; subst this; simp [addsOf]
  | cons x rs ih =>
    intro a b h
    have h2 : if x.1 = true then x.2 ∈ a ∧ RunP (a.erase x.2) rs b else RupP a x.2 ∧ a.length < 64 ∧ RunP (a ++ [x.2]) rs b := h
    rw [addsOf_cons]
    by_cases hx : x.1 = true
    · rw [if_pos hx] at h2 ⊢
      have := ih h2.2
      have hl := List.length_erase_of_mem h2.1
      have := List.length_pos_of_mem h2.1
      simp only [List.length_cons]; omega
    · rw [if_neg hx] at h2 ⊢
      have := ih h2.2.2
      simp only [List.length_append, List.length_cons, List.length_nil] at this ⊢; omega

structure LogOf (ps : List (List Int)) (log : List Int) (L : List (List Int)) (n : Nat) (rs : List (Bool × List Int)) (st : List (List Int)) : Prop where
  eq : log = flatOf rs
  run : RunP ps rs st
  pm : st.Perm L
  ad : addsOf rs = n
  nf : ∀ r ∈ rs, checkClause r.2 = 0
def LogIs (ps : List (List Int)) (log : List Int) (L : List (List Int)) (n : Nat) : Prop := ∃ rs st, LogOf ps log L n rs st
theorem RupP.mem {a b : List (List Int)} {c : List Int} (h : RupP a c) (hm : ∀ d, d ∈ a → d ∈ b) : RupP b c := fun A h1 h2 h3 => h A h1 (fun d hd => h2 d (hm d hd)) h3
theorem LogIs.add {ps : List (List Int)} {log : List Int} {L : List (List Int)} {n : Nat} {c : List Int} (h : LogIs ps log L n) (hr : RupP L c) (hl : L.length < 64) (hc : checkClause c = 0) :
    LogIs ps (log ++ flatRow (false, c)) (c :: L) (n + 1) := by
  obtain ⟨rs, st, h⟩ := h
  refine ⟨rs ++ [(false, c)], st ++ [c], by rw [flatOf_snoc, h.eq], ?_, ?_, by rw [addsOf_snoc, h.ad]; simp, ?_⟩
  · refine h.run.snoc ?_
    rw [if_neg (by simp)]
    exact ⟨hr.mem (fun d hd => h.pm.mem_iff.2 hd), by rw [h.pm.length_eq]; exact hl, rfl⟩
  · exact (List.perm_append_comm).trans (by simpa using h.pm)
  · intro r hr
    rcases List.mem_append.1 hr with e | e
    · exact h.nf r e
    · simp at e; subst e; exact hc
theorem LogIs.del {ps : List (List Int)} {log : List Int} {L L2 : List (List Int)} {n : Nat} {c : List Int} (h : LogIs ps log L n) (hp : L.Perm (c :: L2)) (hc : checkClause c = 0) :
    LogIs ps (log ++ flatRow (true, c)) L2 n := by
  obtain ⟨rs, st, h⟩ := h
  have hm : c ∈ st := h.pm.mem_iff.2 (hp.mem_iff.2 List.mem_cons_self)
  refine ⟨rs ++ [(true, c)], st.erase c, by rw [flatOf_snoc, h.eq], ?_, ?_, by rw [addsOf_snoc, h.ad]; simp, ?_⟩
  · refine h.run.snoc ?_
    rw [if_pos rfl]; exact ⟨hm, rfl⟩
  · have := (h.pm.trans hp).erase c
    simpa using this
  · intro r hr
    rcases List.mem_append.1 hr with e | e
    · exact h.nf r e
    · simp at e; subst e; exact hc
theorem LogIs.perm {ps : List (List Int)} {log : List Int} {L L2 : List (List Int)} {n : Nat} (h : LogIs ps log L n) (hp : L.Perm L2) : LogIs ps log L2 n := by
  obtain ⟨rs, st, h⟩ := h
  exact ⟨rs, st, h.eq, h.run, h.pm.trans hp, h.ad, h.nf⟩
theorem flatOf_len : ∀ {rs : List (Bool × List Int)}, (∀ r ∈ rs, checkClause r.2 = 0) → (flatOf rs).length ≤ 14 * rs.length := by
  intro rs
  induction rs with
  | nil => intro _; simp [flatOf]
  | cons x r ih =>
    intro h
    have h1 := (checkClause_facts (h x List.mem_cons_self)).1
    have h2 := ih (fun y hy => h y (List.mem_cons_of_mem _ hy))
    have e : flatOf (x :: r) = flatRow x ++ flatOf r := rfl
    rw [e, List.length_append, List.length_cons]
    have : (flatRow x).length ≤ 14 := by
      unfold flatRow
      simp only [List.length_append, List.length_cons, List.length_nil]
      split <;> simp <;> omega
    omega
theorem LogIs.len {ps : List (List Int)} {log : List Int} {L : List (List Int)} {n : Nat} (h : LogIs ps log L n) : log.length ≤ 14 * (ps.length + 2 * n) := by
  obtain ⟨rs, st, h⟩ := h
  have h1 := h.run.len
  have h2 := flatOf_len h.nf
  rw [h.ad] at h1
  rw [h.eq]; omega

/-! ### the live list -/
def liveL (W : WatchS) : List (List Int) := (List.range 52).filterMap fun i => if W.used.testBit i = true then some (normC (W.cl i)) else none
theorem mem_liveL {W : WatchS} (hw : WS W) {c : List Int} : c ∈ liveL W ↔ ∃ i, W.used.testBit i = true ∧ normC (W.cl i) = c := by
  unfold liveL
  rw [List.mem_filterMap]
  constructor
  · rintro ⟨i, hi, h⟩
    split at h
    · next hu => injection h with h; exact ⟨i, hu, h⟩
    · simp at h
  · rintro ⟨i, hu, h⟩
    exact ⟨i, List.mem_range.2 (hw.lt i hu), by rw [if_pos hu, h]⟩
theorem filterMap_same {α β : Type} {f g : α → Option β} : ∀ {l : List α}, (∀ x ∈ l, f x = g x) → l.filterMap f = l.filterMap g := by
  intro l
  induction l with
  | nil => intro _; rfl
  | cons x r ih =>
    intro h
    rw [List.filterMap_cons, List.filterMap_cons, h x List.mem_cons_self, ih (fun y hy => h y (List.mem_cons_of_mem _ hy))]
theorem filterMap_ins {α : Type} (f g : Nat → Option α) (j : Nat) (x : α) (hf : f j = none) (hg : g j = some x) (ho : ∀ i, i ≠ j → g i = f i) : ∀ n, j < n → ((List.range n).filterMap g).Perm (x :: (List.range n).filterMap f) := by
  intro n hn
  induction n with
  | zero => omega
  | succ n ih =>
    rw [List.range_succ, List.filterMap_append, List.filterMap_append]
    by_cases e : j = n
    · subst e
      have : (List.range j).filterMap g = (List.range j).filterMap f := filterMap_same (fun i hi => ho i (by have := List.mem_range.1 hi; omega))
      rw [this]
      simp only [List.filterMap_cons, List.filterMap_nil, hf, hg, List.append_nil]
      exact List.perm_append_singleton _ _
    · have := ih (by omega)
      have e2 : List.filterMap g [n] = List.filterMap f [n] := by simp only [List.filterMap_cons, List.filterMap_nil, ho n (fun q => e q.symm)]
      rw [e2]
      exact this.append_right _
theorem normC_congr {c d : List Int} (h : ∀ x, x ∈ c ↔ x ∈ d) : normC c = normC d := by
  unfold normC
  have : ∀ x : Int, c.contains x = d.contains x := fun x => by
    rw [Bool.eq_iff_iff, List.contains_iff_mem, List.contains_iff_mem]; exact h x
  simp only [this]
theorem normC_id {c : List Int} (h : checkClause c = 0) : normC c = c := by
  obtain ⟨c1, c2, c3⟩ := checkClause_facts h
  have hs : (normC c).Pairwise (fun a b => a.natAbs < b.natAbs) := by
    have := normTo_sorted c 12
    rw [List.pairwise_map] at this; exact this
  have hs2 : c.Pairwise (fun a b => a.natAbs < b.natAbs) := by rw [List.pairwise_map] at c3; exact c3
  exact List.Perm.eq_of_pairwise (fun a b _ _ h1 h2 => by omega) hs hs2 (normC_perm c2 (nodup_of_lt c3))
theorem normC_nf {c : List Int} (hg : ∀ x ∈ c, good x = true) (hd : (c.map Int.natAbs).Nodup) : checkClause (normC c) = 0 := by
  have hs := normTo_sorted c 12
  have hp := normC_perm hg hd
  have hg2 : ∀ x ∈ normC c, good x = true := fun x hx => hg x (hp.mem_iff.1 hx)
  unfold checkClause
  have := len12 hg2 (nodup_of_lt hs)
  rw [if_neg (by omega)]
  exact ccLoop_mk _ _ (fun x hx => ⟨hg2 x hx, by have := (good_iff x).1 (hg2 x hx); omega⟩) hs
theorem liveL_nf {W : WatchS} (hw : WS W) {c : List Int} (h : c ∈ liveL W) : checkClause c = 0 := by
  obtain ⟨i, hu, rfl⟩ := (mem_liveL hw).1 h
  exact normC_nf (hw.v i).gd (hw.v i).dist
theorem liveL_prop {W V : WatchS} (hu : V.used = W.used) (hp : ∀ j, (V.cl j).Perm (W.cl j)) : liveL V = liveL W := by
  unfold liveL
  rw [hu]
  apply filterMap_same
  intro i _
  rw [normC_congr (fun x => (hp i).mem_iff)]
theorem liveL_put {W : WatchS} {id : Nat} (hid : id < 52) (hu : W.used.testBit id = false) {c : List Int} (hc : checkClause c = 0) : (liveL (W.put id c)).Perm (c :: liveL W) := by
  unfold liveL
  refine filterMap_ins _ _ id c (by rw [hu]; simp) ?_ (fun i hi => ?_) 52 hid
  · simp only [WatchS.put, testBit_set, upd_self, normC_id hc]; simp
  · have : ¬ id = i := fun e => hi e.symm
    simp only [WatchS.put, testBit_set, upd_ne _ _ _ _ hi, this]; simp
theorem liveL_drop {W : WatchS} {id : Nat} (hid : id < 52) (hu : W.used.testBit id = true) : (liveL W).Perm (normC (W.cl id) :: liveL (W.drop id)) := by
  unfold liveL
  refine filterMap_ins _ _ id _ ?_ (by rw [hu]; simp) (fun i hi => ?_) 52 hid
  · rw [drop_used]; simp
  · have : ¬ id = i := fun e => hi e.symm
    rw [drop_used, drop_cl, upd_ne _ _ _ _ hi]; simp [this]
theorem liveL_len (W : WatchS) : (liveL W).length ≤ 52 := by
  unfold liveL
  have := List.length_filterMap_le (fun i => if W.used.testBit i = true then some (normC (W.cl i)) else none) (List.range 52)
  simpa using this
theorem RupP.live {W : WatchS} (hw : WS W) {c : List Int} (h : ∀ A : Int → Prop, Cons A → (∀ id, W.used.testBit id = true → Ok1 A (W.cl id)) → (∀ l ∈ c, A (-l)) → False) : RupP (liveL W) c := by
  intro A h1 h2 h3
  refine h A h1 (fun id hu => ?_) h3
  exact (h2 _ ((mem_liveL hw).2 ⟨id, hu, rfl⟩)).mem (fun l hl => (hw.mem_norm id l).1 hl)

/-! ### forget -/
def PR (ps : List (List Int)) (W : WatchS) : Prop := ∀ i, i < 40 → W.used.testBit i = decide (i < ps.length) ∧ (i < ps.length → normC (W.cl i) = ps.getD i [])
structure AL (W : WatchS) (S : SolverS) : Prop where
  al : ∀ k, S.alive.testBit k = (decide (k < 12) && W.used.testBit (40 + k))
  ct : S.count = (List.range 12).countP fun k => W.used.testBit (40 + k)
theorem AL.count {W : WatchS} {S : SolverS} (h : AL W S) : S.count ≤ 12 := by rw [h.ct]; exact Nat.le_trans List.countP_le_length (by simp)
structure FI (ps : List (List Int)) (T : TrailS) (L : List (List Int)) (n : Nat) (W : WatchS) (S : SolverS) : Prop where
  wt : WT W T
  pr : PR ps W
  al : AL W S
  lg : LogIs ps S.log (L ++ liveL W) n
/-- What forget leaves as it is. -/
structure SameS (S S2 : SolverS) : Prop where
  act : S2.act = S.act
  phase : S2.phase = S.phase
  inc : S2.inc = S.inc
  conflicts : S2.conflicts = S.conflicts
  restarts : S2.restarts = S.restarts
  since : S2.since = S.since
theorem SameS.refl (S : SolverS) : SameS S S := ⟨rfl, rfl, rfl, rfl, rfl, rfl⟩
theorem SameS.trans {a b c : SolverS} (h : SameS a b) (k : SameS b c) : SameS a c := ⟨k.act.trans h.act, k.phase.trans h.phase, k.inc.trans h.inc, k.conflicts.trans h.conflicts, k.restarts.trans h.restarts, k.since.trans h.since⟩
theorem PR.drop {ps : List (List Int)} {W : WatchS} (h : PR ps W) {k : Nat} : PR ps (W.drop (40 + k)) := by
  intro i hi
  rw [drop_used, drop_cl, upd_ne _ _ _ _ (by omega)]
  have : ¬ 40 + k = i := by omega
  simp only [this, decide_false, Bool.not_false, Bool.and_true]
  exact h i hi
theorem AL.drop {W : WatchS} {S : SolverS} (h : AL W S) {k : Nat} (hk : k < 12) (hu : W.used.testBit (40 + k) = true) {lg : List Int} : AL (W.drop (40 + k)) { S with log := lg, alive := clrB S.alive k, count := S.count - 1 } := by
  refine ⟨fun q => ?_, ?_⟩
  · simp only [testBit_clr, h.al q, drop_used]
    by_cases e : k = q
    · subst e; simp
    · have : ¬ 40 + k = 40 + q := by omega
      simp [e, this]
  · have := countP_one (fun q => (W.drop (40 + k)).used.testBit (40 + q)) (fun q => W.used.testBit (40 + q)) k true (by simp only [drop_used]; simp) hu (fun i hi => by
      simp only [drop_used]
      have : ¬ k = i := fun e => hi e.symm
      simp [this]) 12 hk
    simp only [if_true] at this
    simp only [h.ct]; omega
theorem forgetLoop_succ (T : TrailS) (n k : Nat) (W : WatchS) (S : SolverS) : forgetLoop T (n + 1) k W S = if 2 < S.count then
      (if S.alive.testBit k = true then
        (if (W.remove T (40 + k)).1 = 0 then
          forgetLoop T n (k + 1) (W.remove T (40 + k)).2 { S.note true (normC (W.cl (40 + k))) with alive := clrB S.alive k, count := S.count - 1 }
        else forgetLoop T n (k + 1) W S)
      else forgetLoop T n (k + 1) W S)
    else (W, S) := rfl
theorem remove_eq {W : WatchS} (hw : WS W) (T : TrailS) {id : Nat} (hu : W.used.testBit id = true) : W.remove T id = if lockedF T id (W.cl id) = true then (14, W) else (0, W.drop id) := by
  have := hw.lt id hu
  unfold WatchS.remove WatchS.live
  have h1 : decide ((id : Int) < 52) = true := by simp; omega
  rw [if_pos (by simp [hu, h1])]
theorem forgetLoop_law {ps : List (List Int)} {T : TrailS} {L : List (List Int)} {N : Nat} : ∀ (n k : Nat) (W : WatchS) (S : SolverS), k + n = 12 → FI ps T L N W S →
    FI ps T L N (forgetLoop T n k W S).1 (forgetLoop T n k W S).2 ∧ SameS S (forgetLoop T n k W S).2 ∧
    (∀ j, (forgetLoop T n k W S).1.used.testBit j = true → W.used.testBit j = true ∧ (forgetLoop T n k W S).1.cl j = W.cl j) ∧
    (2 < (forgetLoop T n k W S).2.count → ∀ q, k ≤ q → q < 12 → (forgetLoop T n k W S).1.used.testBit (40 + q) = true → lockedF T (40 + q) ((forgetLoop T n k W S).1.cl (40 + q)) = true) := by
  intro n
  induction n with
  | zero =>
    intro k W S hk h
    exact ⟨h, SameS.refl S, fun j hj => ⟨hj, rfl⟩, fun _ q h1 h2 => by omega⟩
  | succ n ih =>
    intro k W S hk h
    rw [forgetLoop_succ]
    by_cases h2 : 2 < S.count
    · rw [if_pos h2]
      have hkeep : ∀ (hno : W.used.testBit (40 + k) = true → lockedF T (40 + k) (W.cl (40 + k)) = true),
          FI ps T L N (forgetLoop T n (k + 1) W S).1 (forgetLoop T n (k + 1) W S).2 ∧ SameS S (forgetLoop T n (k + 1) W S).2 ∧
          (∀ j, (forgetLoop T n (k + 1) W S).1.used.testBit j = true → W.used.testBit j = true ∧ (forgetLoop T n (k + 1) W S).1.cl j = W.cl j) ∧
          (2 < (forgetLoop T n (k + 1) W S).2.count → ∀ q, k ≤ q → q < 12 → (forgetLoop T n (k + 1) W S).1.used.testBit (40 + q) = true → lockedF T (40 + q) ((forgetLoop T n (k + 1) W S).1.cl (40 + q)) = true) := by
        intro hno
        obtain ⟨p1, p2, p3, p4⟩ := ih (k + 1) W S (by omega) h
        refine ⟨p1, p2, p3, fun hc q a b hu => ?_⟩
        by_cases e : q = k
        · subst e
          obtain ⟨e1, e2⟩ := p3 _ hu
          rw [e2]; exact hno e1
        · exact p4 hc q (by omega) b hu
      by_cases ha : S.alive.testBit k = true
      · rw [if_pos ha]
        have hu : W.used.testBit (40 + k) = true := by
          rw [h.al.al k, Bool.and_eq_true] at ha; exact ha.2
        rw [remove_eq h.wt.ws T hu]
        by_cases hl : lockedF T (40 + k) (W.cl (40 + k)) = true
        · rw [if_pos hl]
          simp only []
          rw [if_neg (by omega)]
          exact hkeep (fun _ => hl)
        · rw [if_neg hl]
          simp only [if_true]
          have hlf : lockedF T (40 + k) (W.cl (40 + k)) = false := by simpa using hl
          have hlive := liveL_drop (W := W) (id := 40 + k) (by omega) hu
          have hfi : FI ps T L N (W.drop (40 + k)) { S.note true (normC (W.cl (40 + k))) with alive := clrB S.alive k, count := S.count - 1 } := by
            refine ⟨h.wt.drop hlf, h.pr.drop, ?_, ?_⟩
            · exact AL.drop h.al (by omega) hu
            · have := h.lg.del (L2 := L ++ liveL (W.drop (40 + k))) (c := normC (W.cl (40 + k))) ?_ (liveL_nf h.wt.ws ((mem_liveL h.wt.ws).2 ⟨_, hu, rfl⟩))
              · rw [← note_log] at this; exact this
              · exact (hlive.append_left L).trans List.perm_middle
          obtain ⟨p1, p2, p3, p4⟩ := ih (k + 1) _ _ (by omega) hfi
          refine ⟨p1, ⟨p2.act, p2.phase, p2.inc, p2.conflicts, p2.restarts, p2.since⟩, fun j hj => ?_, fun hc q a b hq => ?_⟩
          · obtain ⟨e1, e2⟩ := p3 j hj
            rw [drop_used, Bool.and_eq_true] at e1
            refine ⟨e1.1, ?_⟩
            rw [e2, drop_cl, upd_ne _ _ _ _ (fun e => by subst e; simp at e1)]
          · by_cases e : q = k
            · subst e
              have := (p3 _ hq).1
              rw [drop_used] at this; simp at this
            · exact p4 hc q (by omega) b hq
      · rw [if_neg ha]
        refine hkeep (fun hu => ?_)
        exfalso; apply ha
        rw [h.al.al k, hu]; simp; omega
    · rw [if_neg h2]
      exact ⟨h, SameS.refl S, fun j hj => ⟨hj, rfl⟩, fun hc => absurd hc h2⟩
theorem forget_law {ps : List (List Int)} {L : List (List Int)} {N : Nat} {s : St} (h : FI ps s.T L N s.W s.S) :
    FI ps s.T L N s.forget.W s.forget.S ∧ SameS s.S s.forget.S ∧ s.forget.T = s.T ∧ (∀ j, s.forget.W.used.testBit j = true → s.W.used.testBit j = true ∧ s.forget.W.cl j = s.W.cl j) ∧ (s.T.st.length < 12 → ∃ id, s.forget.W.room true = some id ∧ 40 ≤ id ∧ id < 52 ∧ s.forget.W.used.testBit id = false) := by
  have hroom : ∀ W : WatchS, (∃ q, q < 12 ∧ W.used.testBit (40 + q) = false) → ∃ id, W.room true = some id ∧ 40 ≤ id ∧ id < 52 ∧ W.used.testBit id = false := by
    intro W ⟨q, hq, hf⟩
    have hno : ∀ (n lo : Nat), roomF W.used lo n = none → ∀ i, lo ≤ i → i < lo + n → W.used.testBit i = true := by
      intro n
      induction n with
      | zero => intro lo _ i a b; omega
      | succ n ih =>
        intro lo hr i a b
        have hr2 : (if W.used.testBit lo = true then roomF W.used (lo + 1) n else some lo) = none := hr
        by_cases hu : W.used.testBit lo = true
        · rw [if_pos hu] at hr2
          by_cases e : i = lo
          · subst e; exact hu
          · exact ih (lo + 1) hr2 i (by omega) (by omega)
        · rw [if_neg hu] at hr2; simp at hr2
    cases hr : roomF W.used 40 12 with
    | none => have := hno 12 40 hr (40 + q) (by omega) (by omega); rw [hf] at this; simp at this
    | some id =>
      have := roomF_some hr
      exact ⟨id, hr, this.1, by omega, this.2.2⟩
  have hall : ∀ W : WatchS, (¬ ∃ q, q < 12 ∧ W.used.testBit (40 + q) = false) → ∀ q, q < 12 → W.used.testBit (40 + q) = true := by
    intro W hn q hq
    cases e : W.used.testBit (40 + q) with
    | true => rfl
    | false => exact absurd ⟨q, hq, e⟩ hn
  have hct : ∀ W : WatchS, (∀ q, q < 12 → W.used.testBit (40 + q) = true) → (List.range 12).countP (fun k => W.used.testBit (40 + k)) = 12 := by
    intro W hw
    rw [List.countP_eq_length.2 (fun a ha => hw a (List.mem_range.1 ha))]; simp
  unfold St.forget
  by_cases h4 : s.S.count < 4
  · rw [if_pos h4]
    refine ⟨h, SameS.refl _, rfl, fun j hj => ⟨hj, rfl⟩, fun _ => hroom s.W ?_⟩
    by_cases hx : ∃ q, q < 12 ∧ s.W.used.testBit (40 + q) = false
    · exact hx
    · exfalso
      have := hct _ (hall _ hx)
      have := h.al.ct
      omega
  · rw [if_neg h4]
    obtain ⟨p1, p2, p3, p4⟩ := forgetLoop_law 12 0 s.W s.S rfl h
    refine ⟨p1, p2, rfl, p3, fun hlen => hroom _ ?_⟩
    simp only []
    by_cases hx : ∃ q, q < 12 ∧ (forgetLoop s.T 12 0 s.W s.S).1.used.testBit (40 + q) = false
    · exact hx
    · exfalso
      have ha := hall _ hx
      have hc12 := hct _ ha
      have hc := p1.al.ct
      have hlk : ∀ q, q < 12 → ∃ i l, At s.T i l ((40 + q : Nat) : Int) := fun q hq => locked_at h.wt.tk (p4 (by omega) q (by omega) hq (ha q hq))
      have hch : ∃ f : Nat → Nat, ∀ q, q < 12 → ∃ l, At s.T (f q) l ((40 + q : Nat) : Int) := by
        refine ⟨fun q => if hq : q < 12 then Classical.choose (hlk q hq) else 0, fun q hq => ?_⟩
        simp only [dif_pos hq]
        exact Classical.choose_spec (hlk q hq)
      obtain ⟨f, hf⟩ := hch
      have hnd : ((List.range 12).map f).Nodup := by
        unfold List.Nodup
        rw [List.pairwise_map]
        refine (List.nodup_range (n := 12)).imp_of_mem ?_
        intro a b ha2 hb2 hne e
        rw [List.mem_range] at ha2 hb2
        obtain ⟨l, hl⟩ := hf a ha2
        obtain ⟨m, hm⟩ := hf b hb2
        rw [e] at hl
        have := (hl.eq hm).2
        omega
      have := nodup_len s.T.st.length ((List.range 12).map f) hnd (fun x hx => by
        obtain ⟨q, hq, rfl⟩ := List.mem_map.1 hx
        obtain ⟨l, hl⟩ := hf q (List.mem_range.1 hq)
        exact hl.lt)
      simp at this
      omega
end Go.Proofs.Qxb6500354aGreat
