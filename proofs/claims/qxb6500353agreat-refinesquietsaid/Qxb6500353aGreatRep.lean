/- The repair of the lengths, plainly; the plan. -/
import Derived.Test.Qxb6500353aGreatPln
import Derived.Test.Qxb6500353aGreatFnd
namespace Go.Proofs.Qxb6500353aGreat
set_option linter.unusedVariables false
set_option linter.unusedSimpArgs false

def worse (c : Nat → Nat) (rare : Bool) (i b : Nat) : Bool := if rare then decide (c i < c b) else decide (c b < c i)
def pickF (c lens : Nat → Nat) (lo hi : Nat) (rare : Bool) : Nat → Option Nat
  | 0 => none
  | i + 1 =>
    if lo ≤ lens i ∧ lens i ≤ hi then
      match pickF c lens lo hi rare i with
      | none => some i
      | some b => if lens b < lens i ∨ lens i = lens b ∧ worse c rare i b = true then some i else some b
    else pickF c lens lo hi rare i
theorem pickF_none {c lens : Nat → Nat} {lo hi : Nat} {rare : Bool} {n : Nat} (e : pickF c lens lo hi rare n = none) : ∀ i, i < n → lo ≤ lens i → hi < lens i := by
  induction n with
  | zero => intro i hin; omega
  | succ n ih =>
    intro i hin hl
    rw [pickF] at e
    by_cases h1 : lo ≤ lens n ∧ lens n ≤ hi
    · rw [if_pos h1] at e; split at e
      · cases e
      · split at e <;> cases e
    · rw [if_neg h1] at e
      by_cases e2 : i = n
      · subst e2; omega
      · exact ih e i (by omega) hl
theorem pickF_some {c lens : Nat → Nat} {lo hi : Nat} {rare : Bool} {n b : Nat} (e : pickF c lens lo hi rare n = some b) :
    b < n ∧ lo ≤ lens b ∧ lens b ≤ hi ∧ ∀ i, i < n → lens i ≤ hi → lens i ≤ lens b := by
  induction n generalizing b with
  | zero => simp [pickF] at e
  | succ n ih =>
    rw [pickF] at e
    by_cases h1 : lo ≤ lens n ∧ lens n ≤ hi
    · rw [if_pos h1] at e
      split at e
      · rename_i e2
        have hb : b = n := by injection e with e; exact e.symm
        subst hb
        refine ⟨by omega, h1.1, h1.2, fun i hin hh => ?_⟩
        by_cases e3 : i = b
        · subst e3; omega
        · by_cases h4 : lo ≤ lens i
          · have := pickF_none e2 i (by omega) h4; omega
          · omega
      · rename_i b0 e2
        obtain ⟨i1, i2, i3, i4⟩ := ih e2
        split at e
        · rename_i h2
          have hb : b = n := by injection e with e; exact e.symm
          subst hb
          refine ⟨by omega, h1.1, h1.2, fun i hin hh => ?_⟩
          by_cases e3 : i = b
          · subst e3; omega
          · have := i4 i (by omega) hh; omega
        · rename_i h2
          have hb : b = b0 := by injection e with e; exact e.symm
          subst hb
          refine ⟨by omega, i2, i3, fun i hin hh => ?_⟩
          by_cases e3 : i = n
          · subst e3; omega
          · exact i4 i (by omega) hh
    · rw [if_neg h1] at e
      obtain ⟨i1, i2, i3, i4⟩ := ih e
      refine ⟨by omega, i2, i3, fun i hin hh => ?_⟩
      by_cases e3 : i = n
      · subst e3; omega
      · exact i4 i (by omega) hh

/-- Kraft's sum in units of 2^-10. -/
def kr (n : Nat) (lens : Nat → Nat) : Nat := sumTo (fun i => unit10 (lens i)) n
def cutF (lens : Nat → Nat) (i : Nat) : Nat := if 10 < lens i then 10 else lens i
def dnStep (c : Nat → Nat) (n : Nat) (lens : Nat → Nat) : Nat → Nat :=
  match pickF c lens 1 9 true n with
  | some i => upd lens i (lens i + 1)
  | none => lens
def dnF (c : Nat → Nat) (n : Nat) : Nat → (Nat → Nat) → Nat → Nat
  | 0, lens => lens
  | k + 1, lens => if 1024 < kr n lens then dnF c n k (dnStep c n lens) else lens
def upStep (c : Nat → Nat) (n : Nat) (lens : Nat → Nat) : Nat → Nat :=
  match pickF c lens 2 10 false n with
  | some i => upd lens i (lens i - 1)
  | none => lens
def upF (c : Nat → Nat) (n : Nat) : Nat → (Nat → Nat) → Nat → Nat
  | 0, lens => lens
  | k + 1, lens => if kr n lens < 1024 then upF c n k (upStep c n lens) else lens
def repF (c : Nat → Nat) (n : Nat) (lens : Nat → Nat) : Nat → Nat := upF c n 1024 (dnF c n (1024 * n) (cutF lens))
def planF (c : Nat → Nat) (n : Nat) : Nat → Nat := if usedN c n < 2 then fun i => if 0 < c i then 1 else 0 else repF c n (treeF c n)

structure RepOK (c : Nat → Nat) (n : Nat) (lens : Nat → Nat) : Prop where
  le : ∀ i, i < n → lens i ≤ 10
  pos : ∀ i, i < n → (0 < lens i ↔ 0 < c i)
theorem unit10_le (x : Nat) : unit10 x ≤ 1024 := by
  unfold unit10; split
  · omega
  · have : 2 ^ (10 - x) ≤ 2 ^ 10 := Nat.pow_le_pow_right (by decide) (by omega)
    omega
theorem kr_le (n : Nat) (lens : Nat → Nat) : kr n lens ≤ 1024 * n := by
  induction n with
  | zero => simp [kr, sumTo]
  | succ n ih => have := unit10_le (lens n); simp only [kr, sumTo] at *; omega
theorem unit10_dn {x : Nat} (h1 : 1 ≤ x) (h9 : x ≤ 9) : unit10 x = unit10 (x + 1) + 2 ^ (10 - (x + 1)) := by
  unfold unit10
  rw [if_neg (by omega), if_neg (by omega), show 10 - x = 10 - (x + 1) + 1 by omega, Nat.pow_succ]; omega
theorem dn_ok {c : Nat → Nat} {n : Nat} {lens : Nat → Nat} (h : RepOK c n lens) (hu : usedN c n ≤ 1024) (hk : 1024 < kr n lens) :
    ∃ i, pickF c lens 1 9 true n = some i ∧ i < n ∧ 1 ≤ lens i ∧ lens i ≤ 9 ∧ dnStep c n lens = upd lens i (lens i + 1) ∧ RepOK c n (dnStep c n lens) ∧ kr n (dnStep c n lens) + 2 ^ (10 - (lens i + 1)) = kr n lens := by
  cases e : pickF c lens 1 9 true n with
  | none =>
    exfalso
    have h1 := pickF_none e
    have : kr n lens ≤ usedN c n := by
      refine sumTo_le fun i hi => ?_
      by_cases hc : 0 < c i
      · have h2 := (h.pos i hi).2 hc
        have h3 := h1 i hi h2
        have h4 := h.le i hi
        rw [if_pos (by simpa using hc), show lens i = 10 by omega]; decide
      · have h2 : lens i = 0 := by have := (h.pos i hi).1; omega
        rw [if_neg (by simpa using hc), h2]; decide
    omega
  | some i =>
    obtain ⟨h1, h2, h3, _⟩ := pickF_some e
    have hs : dnStep c n lens = upd lens i (lens i + 1) := by unfold dnStep; rw [e]
    refine ⟨i, rfl, h1, h2, h3, hs, ?_, ?_⟩
    · rw [hs]
      refine ⟨fun j hj => ?_, fun j hj => ?_⟩
      · unfold upd; split
        · omega
        · exact h.le j hj
      · unfold upd; split
        · rename_i e2; subst e2; have := (h.pos j hj).1; omega
        · exact h.pos j hj
    · rw [hs]
      unfold kr
      have h4 := sumTo_upd (fun j => unit10 (lens j)) h1 (unit10 (lens i + 1))
      have h5 : sumTo (fun j => unit10 (upd lens i (lens i + 1) j)) n = sumTo (upd (fun j => unit10 (lens j)) i (unit10 (lens i + 1))) n := by
        refine sumTo_congr fun j _ => ?_
        unfold upd; split <;> rfl
      rw [h5]
      have h6 := unit10_dn h2 h3
      omega
theorem sum_dvd {f : Nat → Nat} {n d : Nat} (h : ∀ i, i < n → d ∣ f i) : d ∣ sumTo f n := by
  induction n with
  | zero => exact Nat.dvd_zero _
  | succ n ih => exact Nat.dvd_add (ih fun i hi => h i (by omega)) (h n (by omega))
theorem up_ok {c : Nat → Nat} {n : Nat} {lens : Nat → Nat} (h : RepOK c n lens) (hu : 2 ≤ usedN c n) (hk : kr n lens < 1024) :
    ∃ i, pickF c lens 2 10 false n = some i ∧ i < n ∧ 2 ≤ lens i ∧ lens i ≤ 10 ∧ upStep c n lens = upd lens i (lens i - 1) ∧ RepOK c n (upStep c n lens) ∧ kr n (upStep c n lens) = kr n lens + 2 ^ (10 - lens i) ∧ kr n lens + 2 ^ (10 - lens i) ≤ 1024 := by
  cases e : pickF c lens 2 10 false n with
  | none =>
    exfalso
    have h1 := pickF_none e
    have hone : ∀ i, i < n → 0 < c i → lens i = 1 := by
      intro i hi hc
      have h2 := (h.pos i hi).2 hc
      have h4 := h.le i hi
      refine Classical.byContradiction fun h5 => ?_
      have := h1 i hi (by omega); omega
    obtain ⟨x, y, h4, h5, h6, h7⟩ := cnt_two hu
    simp only [decide_eq_true_eq] at h6 h7
    have := sumTo_two (f := fun i => unit10 (lens i)) h4 h5
    simp only [hone x (by omega) h6, hone y h5 h7] at this
    have h8 : unit10 1 = 512 := rfl
    unfold kr at hk; omega
  | some i =>
    obtain ⟨h1, h2, h3, h4⟩ := pickF_some e
    have hs : upStep c n lens = upd lens i (lens i - 1) := by unfold upStep; rw [e]
    have hd : 2 ^ (10 - lens i) ∣ kr n lens := by
      refine sum_dvd fun j hj => ?_
      unfold unit10
      split
      · exact Nat.dvd_zero _
      · exact Nat.pow_dvd_pow 2 (by have := h4 j hj (h.le j hj); omega)
    have hd2 : 2 ^ (10 - lens i) ∣ 1024 := by
      have : (1024 : Nat) = 2 ^ 10 := rfl
      rw [this]; exact Nat.pow_dvd_pow 2 (by omega)
    refine ⟨i, rfl, h1, h2, h3, hs, ?_, ?_, ?_⟩
    · rw [hs]
      refine ⟨fun j hj => ?_, fun j hj => ?_⟩
      · unfold upd; split
        · omega
        · exact h.le j hj
      · unfold upd; split
        · rename_i e2; subst e2; have := (h.pos j hj).1; omega
        · exact h.pos j hj
    · rw [hs]
      unfold kr
      have h4 := sumTo_upd (fun j => unit10 (lens j)) h1 (unit10 (lens i - 1))
      have h5 : sumTo (fun j => unit10 (upd lens i (lens i - 1) j)) n = sumTo (upd (fun j => unit10 (lens j)) i (unit10 (lens i - 1))) n := by
        refine sumTo_congr fun j _ => ?_
        unfold upd; split <;> rfl
      rw [h5]
      have h6 := unit10_dn (x := lens i - 1) (by omega) (by omega)
      rw [show lens i - 1 + 1 = lens i by omega] at h6
      omega
    · obtain ⟨q, hq⟩ := hd
      obtain ⟨r, hr⟩ := hd2
      have hp := pw_pos (10 - lens i)
      have : q < r := by
        refine Classical.byContradiction fun hc => ?_
        have := Nat.mul_le_mul_left (2 ^ (10 - lens i)) (show r ≤ q by omega)
        omega
      have := Nat.mul_le_mul_left (2 ^ (10 - lens i)) (show q + 1 ≤ r by omega)
      rw [Nat.mul_add, Nat.mul_one] at this
      omega
theorem dnF_ok {c : Nat → Nat} {n : Nat} (hu : usedN c n ≤ 1024) (k : Nat) : ∀ lens, RepOK c n lens → kr n lens ≤ 1024 + k → RepOK c n (dnF c n k lens) ∧ kr n (dnF c n k lens) ≤ 1024 := by
  induction k with
  | zero => intro lens h h1; exact ⟨h, h1⟩
  | succ k ih =>
    intro lens h h1
    rw [dnF]; split
    · rename_i h2
      obtain ⟨i, _, _, _, _, _, h3, h4⟩ := dn_ok h hu h2
      have := pw_pos (10 - (lens i + 1))
      exact ih _ h3 (by omega)
    · exact ⟨h, by omega⟩
theorem upF_ok {c : Nat → Nat} {n : Nat} (hu : 2 ≤ usedN c n) (k : Nat) : ∀ lens, RepOK c n lens → kr n lens ≤ 1024 → 1024 ≤ kr n lens + k → RepOK c n (upF c n k lens) ∧ kr n (upF c n k lens) = 1024 := by
  induction k with
  | zero => intro lens h h1 h2; exact ⟨h, by rw [upF]; omega⟩
  | succ k ih =>
    intro lens h h1 h2
    rw [upF]; split
    · rename_i h3
      obtain ⟨i, _, _, _, _, _, h4, h5, h6⟩ := up_ok h hu h3
      have := pw_pos (10 - lens i)
      exact ih _ h4 (by omega) (by omega)
    · exact ⟨h, by omega⟩
theorem cut_ok {c : Nat → Nat} {n : Nat} (hu : 2 ≤ usedN c n) : RepOK c n (cutF (treeF c n)) := by
  refine ⟨fun i hi => ?_, fun i hi => ?_⟩
  · unfold cutF; split <;> omega
  · by_cases hc : 0 < c i
    · have := tree_used hu i hi hc
      unfold cutF; split <;> omega
    · have := tree_dead (c := c) (n := n) (by omega) i hi (by omega)
      unfold cutF; split <;> omega
theorem rep_ok {c : Nat → Nat} {n : Nat} (hu : 2 ≤ usedN c n) (hu2 : usedN c n ≤ 1024) : RepOK c n (repF c n (treeF c n)) ∧ kr n (repF c n (treeF c n)) = 1024 := by
  have h1 := cut_ok hu
  obtain ⟨h2, h3⟩ := dnF_ok hu2 (1024 * n) _ h1 (by have := kr_le n (cutF (treeF c n)); omega)
  exact upF_ok hu 1024 _ h2 h3 (by omega)
/-- A tree that fits the limit needs no repair. -/
theorem rep_none {c : Nat → Nat} {n : Nat} (hu : 2 ≤ usedN c n) (hd : ∀ i, i < n → treeF c n i ≤ 10) : ∀ i, i < n → repF c n (treeF c n) i = treeF c n i := by
  have hcut : ∀ i, i < n → cutF (treeF c n) i = treeF c n i := by
    intro i hi; unfold cutF; rw [if_neg (by have := hd i hi; omega)]
  have hk : kr n (cutF (treeF c n)) = 1024 := by
    have h1 := tree_kraft (c := c) (n := n) (by omega) 10 hd
    have h2 : kr n (cutF (treeF c n)) = sumTo (fun i => if 0 < c i then 2 ^ (10 - treeF c n i) else 0) n := by
      refine sumTo_congr fun i hi => ?_
      rw [hcut i hi]
      unfold unit10
      by_cases hc : 0 < c i
      · have := tree_used hu i hi hc
        rw [if_neg (by omega), if_pos hc]
      · have := tree_dead (c := c) (n := n) (by omega) i hi (by omega)
        rw [if_pos this, if_neg hc]
    rw [h2, h1]
  have e1 : ∀ k, dnF c n k (cutF (treeF c n)) = cutF (treeF c n) := by
    intro k; cases k with
    | zero => rfl
    | succ k => rw [dnF, if_neg (by omega)]
  have e2 : upF c n 1024 (cutF (treeF c n)) = cutF (treeF c n) := by rw [upF, if_neg (by omega)]
  intro i hi
  unfold repF
  rw [e1, e2, hcut i hi]

def planL (l : List Nat) : List Nat := (List.range l.length).map (planF (fun i => len l i) l.length)
theorem planL_length (l : List Nat) : (planL l).length = l.length := by simp [planL]
theorem planL_len {l : List Nat} {i : Nat} (hi : i < l.length) : len (planL l) i = planF (fun i => len l i) l.length i := by
  unfold planL len
  rw [List.getD_eq_getElem?_getD, List.getElem?_map, List.getElem?_range hi]; rfl
theorem len_out {l : List Nat} {i : Nat} (hi : l.length ≤ i) : len l i = 0 := by
  unfold len; rw [List.getD_eq_getElem?_getD, List.getElem?_eq_none hi]; rfl
theorem mem_len {l : List Nat} {x : Nat} (h : x ∈ l) : ∃ i, i < l.length ∧ len l i = x := by
  obtain ⟨i, hi, rfl⟩ := List.mem_iff_getElem.1 h
  exact ⟨i, hi, by unfold len; rw [List.getD_eq_getElem?_getD, List.getElem?_eq_getElem hi]; rfl⟩
theorem kraft_kr (l : List Nat) : kraft l = kr l.length (len l) := by
  have : ∀ n, n ≤ l.length → kraft (l.take n) = kr n (len l) := by
    intro n
    induction n with
    | zero => intro _; simp [kraft, kr, sumTo]
    | succ n ih =>
      intro hn
      have hn2 : n < l.length := hn
      rw [List.take_succ_eq_append_getElem hn2]
      have h1 := ih (by omega)
      unfold kraft kr at *
      rw [List.map_append, List.sum_append, h1, sumTo]
      simp [len, List.getD_eq_getElem?_getD, List.getElem?_eq_getElem hn2]
  have h := this l.length (Nat.le_refl _)
  rwa [List.take_length] at h
theorem count_cnt (l : List Nat) (x : Nat) : l.count x = cntTo (fun i => decide (len l i = x)) l.length := by
  have : ∀ n, n ≤ l.length → (l.take n).count x = cntTo (fun i => decide (len l i = x)) n := by
    intro n
    induction n with
    | zero => intro _; simp [cntTo, sumTo]
    | succ n ih =>
      intro hn
      have h1 := ih (by omega)
      rw [count_take_succ (show n < l.length from hn), h1]
      simp [cntTo, sumTo]
  have h := this l.length (Nat.le_refl _)
  rwa [List.take_length] at h
/-- What the plan gives. -/
theorem plan_lawful {l : List Nat} (hl : l.length ≤ 265) : Lawful (planL l) ∧ ∀ s, s < l.length → (0 < len (planL l) s ↔ 0 < len l s) := by
  have hu : usedN (fun i => len l i) l.length ≤ 1024 := Nat.le_trans (cntTo_le _ _) (by omega)
  have hmem : ∀ {P : Nat → Prop}, (∀ i, i < l.length → P (planF (fun i => len l i) l.length i)) → ∀ x ∈ planL l, P x := by
    intro P h x hx
    obtain ⟨i, hi, rfl⟩ := List.mem_map.1 hx
    exact h i (List.mem_range.1 hi)
  have hkr : kraft (planL l) = kr l.length (planF (fun i => len l i) l.length) := by
    rw [kraft_kr, planL_length]
    exact sumTo_congr fun i hi => by rw [planL_len hi]
  by_cases h2 : usedN (fun i => len l i) l.length < 2
  · have e : planF (fun i => len l i) l.length = fun i => if 0 < len l i then 1 else 0 := by unfold planF; rw [if_pos h2]
    have hle : ∀ s, len (planL l) s ≤ 1 := by
      intro s
      by_cases hs : s < l.length
      · rw [planL_len hs, e]; dsimp; split <;> omega
      · rw [len_out (by rw [planL_length]; omega)]; omega
    have hc : (planL l).count 1 ≤ 1 := by
      rw [count_cnt, planL_length]
      have : cntTo (fun i => decide (len (planL l) i = 1)) l.length = usedN (fun i => len l i) l.length := by
        refine cntTo_congr fun i hi => ?_
        have e5 := planL_len hi
        rw [e] at e5
        rw [e5]
        by_cases h : 0 < len l i <;> simp [h]
      omega
    refine ⟨⟨⟨hmem fun i hi => by rw [e]; dsimp; split <;> omega, ?_⟩, .inr ⟨hle, hc⟩, by rw [planL_length]; exact hl⟩, fun s hs => ?_⟩
    · rw [hkr, e]
      have : kr l.length (fun i => if 0 < len l i then 1 else 0) = 512 * usedN (fun i => len l i) l.length := by
        unfold kr usedN cntTo
        rw [← sumTo_mul]
        refine sumTo_congr fun i hi => ?_
        by_cases h : 0 < len l i <;> simp [h, unit10]
      omega
    · rw [planL_len hs, e]; dsimp; split <;> omega
  · have e : planF (fun i => len l i) l.length = repF (fun i => len l i) l.length (treeF (fun i => len l i) l.length) := by unfold planF; rw [if_neg h2]
    obtain ⟨h3, h4⟩ := rep_ok (c := fun i => len l i) (n := l.length) (by omega) hu
    rw [← e] at h3 h4
    refine ⟨⟨⟨hmem h3.le, ?_⟩, .inl ?_, by rw [planL_length]; exact hl⟩, fun s hs => ?_⟩
    · rw [hkr, h4]; exact Nat.le_refl _
    · rw [hkr, h4]
    · rw [planL_len hs]; exact h3.pos s hs
end Go.Proofs.Qxb6500353aGreat
