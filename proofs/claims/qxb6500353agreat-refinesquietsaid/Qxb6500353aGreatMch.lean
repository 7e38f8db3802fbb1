/- The decoder as a machine, plainly: one piece a step. -/
import Derived.Test.Qxb6500353aGreatBls
namespace Go.Proofs.Qxb6500353aGreat
set_option linter.unusedVariables false
set_option linter.unusedSimpArgs false

/-- Build's errors. -/
def usedL (l : List Nat) : Nat := cntTo (fun i => decide (0 < len l i)) l.length
def buildE (l : List Nat) : Nat := if 1024 < kraft l then 6 else if kraft l < 1024 ∧ 0 < usedL l ∧ (1 < usedL l ∨ kraft l ≠ 512) then 7 else 0

structure DS where
  ph : Nat
  final : Nat
  due : Nat
  run : Nat
  base : Nat
  more : Nat
  ls : List Nat
  a : List Nat
  b : List Nat
  out : List Nat
def DS.init : DS := ⟨0, 0, 0, 0, 0, 0, [], [], [], []⟩
def shutS (t : Tp) (s : DS) : Nat × Tp × DS := if s.final = 0 then (0, t, { s with ph := 0 }) else (0, t.sync, { s with ph := 8 })
def setsS (t : Tp) (s : DS) : Nat × Tp × DS :=
  if buildE (s.ls.take 265) ≠ 0 then (buildE (s.ls.take 265), t, s)
  else if buildE (s.ls.drop 265) ≠ 0 then (buildE (s.ls.drop 265), t, s)
  else if len s.ls 256 = 0 then (8, t, s)
  else (0, t, { s with ph := 5, a := s.ls.take 265, b := s.ls.drop 265 })
def listEnd (t : Tp) (s : DS) : Nat × Tp × DS := if s.ls.length < 273 then (0, t, s) else setsS t s
def copyF (out : List Nat) (d : Nat) : Nat → List Nat
  | 0 => out
  | n + 1 => copyF out d n ++ [(copyF out d n).getD ((copyF out d n).length - d) 0]
def step0 (t : Tp) (s : DS) : Nat × Tp × DS := if t.got 1 < 1 then (4, t, s) else (0, t.skip 1, { s with final := t.peek 1, ph := 1 })
def step1 (t : Tp) (s : DS) : Nat × Tp × DS :=
  if t.got 2 < 2 then (4, t, s)
  else if t.peek 2 = 0 then (0, (t.skip 2).sync, { s with ph := 2 })
  else if t.peek 2 = 1 then (0, t.skip 2, { s with ph := 5, a := fixA, b := fixB })
  else if t.peek 2 = 2 then (0, t.skip 2, { s with ph := 4, ls := [] })
  else (5, t, s)
def step2 (t : Tp) (s : DS) : Nat × Tp × DS :=
  if t.got 16 < 16 then (4, t, s)
  else if t.peek 16 = 0 then shutS (t.skip 16) s
  else (0, t.skip 16, { s with ph := 3, due := t.peek 16 })
def step3 (t : Tp) (s : DS) : Nat × Tp × DS :=
  if t.got 8 < 8 then (4, t, s)
  else if 256 ≤ s.out.length then (10, t, s)
  else if s.due - 1 = 0 then shutS (t.skip 8) { s with out := s.out ++ [t.peek 8], due := 0 }
  else (0, t.skip 8, { s with out := s.out ++ [t.peek 8], due := s.due - 1 })
def wideF (item : Nat) : Nat := if item = 12 then 2 else 7
def timesF (t : Tp) : Nat := 3 + t.peek 11 / 16 % 2 ^ wideF (t.peek 11 % 16)
def step4 (t : Tp) (s : DS) : Nat × Tp × DS :=
  if t.got 11 < 4 then (4, t, s)
  else if t.peek 11 % 16 ≤ 10 then listEnd (t.skip 4) { s with ls := s.ls ++ [t.peek 11 % 16] }
  else if 12 < t.peek 11 % 16 then (8, t, s)
  else if t.got 11 < 4 + wideF (t.peek 11 % 16) then (4, t, s)
  else if t.peek 11 % 16 = 12 ∧ s.ls.length = 0 then (8, t, s)
  else if 273 - s.ls.length < timesF t then (8, t, s)
  else listEnd (t.skip (4 + wideF (t.peek 11 % 16))) { s with ls := s.ls ++ List.replicate (timesF t) (if t.peek 11 % 16 = 12 then len s.ls (s.ls.length - 1) else 0) }
def symF (l : List Nat) (t : Tp) : Nat × Nat × Nat := findF l (t.peek 10) (t.got 10)
def step5 (t : Tp) (s : DS) : Nat × Tp × DS :=
  if (symF s.a t).2.2 ≠ 0 then ((symF s.a t).2.2, t, s)
  else if (symF s.a t).1 = 256 then shutS (t.skip (symF s.a t).2.1) s
  else if (symF s.a t).1 < 256 then
    if 256 ≤ s.out.length then (10, t, s) else (0, t.skip (symF s.a t).2.1, { s with out := s.out ++ [(symF s.a t).1] })
  else (0, t.skip (symF s.a t).2.1, { s with ph := 6, run := (symF s.a t).1 - 254 })
def step6 (t : Tp) (s : DS) : Nat × Tp × DS :=
  if (symF s.b t).2.2 ≠ 0 then ((symF s.b t).2.2, t, s)
  else (0, t.skip (symF s.b t).2.1, { s with ph := 7, base := (distBase (symF s.b t).1).1, more := (distBase (symF s.b t).1).2 })
def step7 (t : Tp) (s : DS) : Nat × Tp × DS :=
  if t.got s.more < s.more then (4, t, s)
  else if s.out.length < s.base + t.peek s.more then (9, t, s)
  else if 256 - s.out.length < s.run then (10, t, s)
  else (0, t.skip s.more, { s with ph := 5, out := copyF s.out (s.base + t.peek s.more) s.run })
def stepF (t : Tp) (s : DS) : Nat × Tp × DS :=
  match s.ph with
  | 0 => step0 t s
  | 1 => step1 t s
  | 2 => step2 t s
  | 3 => step3 t s
  | 4 => step4 t s
  | 5 => step5 t s
  | 6 => step6 t s
  | _ => step7 t s

theorem stepF_0 {t : Tp} {s : DS} (h : s.ph = 0) : stepF t s = step0 t s := by unfold stepF; rw [h]; rfl
theorem stepF_1 {t : Tp} {s : DS} (h : s.ph = 1) : stepF t s = step1 t s := by unfold stepF; rw [h]; rfl
theorem stepF_2 {t : Tp} {s : DS} (h : s.ph = 2) : stepF t s = step2 t s := by unfold stepF; rw [h]; rfl
theorem stepF_3 {t : Tp} {s : DS} (h : s.ph = 3) : stepF t s = step3 t s := by unfold stepF; rw [h]; rfl
theorem stepF_4 {t : Tp} {s : DS} (h : s.ph = 4) : stepF t s = step4 t s := by unfold stepF; rw [h]; rfl
theorem stepF_5 {t : Tp} {s : DS} (h : s.ph = 5) : stepF t s = step5 t s := by unfold stepF; rw [h]; rfl
theorem stepF_6 {t : Tp} {s : DS} (h : s.ph = 6) : stepF t s = step6 t s := by unfold stepF; rw [h]; rfl
theorem stepF_7 {t : Tp} {s : DS} (h : s.ph = 7) : stepF t s = step7 t s := by unfold stepF; rw [h]; rfl

inductive Steps : Tp → DS → Tp → DS → Prop
  | refl (t : Tp) (s : DS) : Steps t s t s
  | step {t t1 t2 : Tp} {s s1 s2 : DS} : s.ph ≠ 8 → stepF t s = (0, t1, s1) → Steps t1 s1 t2 s2 → Steps t s t2 s2
theorem Steps.trans {t t1 t2 : Tp} {s s1 s2 : DS} (h : Steps t s t1 s1) (k : Steps t1 s1 t2 s2) : Steps t s t2 s2 := by
  induction h with
  | refl => exact k
  | step a b _ ih => exact .step a b (ih k)
theorem Steps.one {t t1 : Tp} {s s1 : DS} (h : s.ph ≠ 8) (e : stepF t s = (0, t1, s1)) : Steps t s t1 s1 := .step h e (.refl _ _)
/-- The machine stands at s; it ends with the error e, having given out o. -/
inductive Ends : Tp → DS → Nat → List Nat → Prop
  | tail {t : Tp} {s : DS} : s.ph = 8 → Ends t s (if t.at_ < t.n then 11 else 0) s.out
  | err {t t1 : Tp} {s s1 : DS} {e : Nat} : s.ph ≠ 8 → stepF t s = (e, t1, s1) → e ≠ 0 → Ends t s e s.out
  | step {t t1 : Tp} {s s1 : DS} {e : Nat} {o : List Nat} : s.ph ≠ 8 → stepF t s = (0, t1, s1) → Ends t1 s1 e o → Ends t s e o
theorem Steps.ends {t t1 : Tp} {s s1 : DS} {e : Nat} {o : List Nat} (h : Steps t s t1 s1) (k : Ends t1 s1 e o) : Ends t s e o := by
  induction h with
  | refl => exact k
  | step a b _ ih => exact .step a b (ih k)
theorem Ends.det {t : Tp} {s : DS} {e f : Nat} {o q : List Nat} (h : Ends t s e o) (k : Ends t s f q) : e = f ∧ o = q := by
  induction h with
  | tail a =>
    cases k with
    | tail _ => exact ⟨rfl, rfl⟩
    | err b _ _ => exact absurd a b
    | step b _ _ => exact absurd a b
  | err a b c =>
    cases k with
    | tail d => exact absurd d a
    | err _ d _ => rw [b] at d; injection d with d1 d2; exact ⟨d1, rfl⟩
    | step _ d _ => rw [b] at d; injection d with d1 d2; exact absurd d1 c
  | step a b _ ih =>
    cases k with
    | tail d => exact absurd d a
    | err _ d g => rw [b] at d; injection d with d1 d2; exact absurd d1.symm g
    | step _ d g => rw [b] at d; injection d with d1 d2; injection d2 with d2 d3; subst d2; subst d3; exact ih g

/-! ### the sets -/
theorem unit10_one {x : Nat} (h : unit10 x = 512) : x = 1 := by
  unfold unit10 at h
  split at h
  · omega
  · rename_i h0
    refine Classical.byContradiction fun hc => ?_
    have : 2 ^ (10 - x) ≤ 2 ^ 8 := Nat.pow_le_pow_right (by decide) (by omega)
    have e : (2 : Nat) ^ 8 = 256 := rfl
    omega
theorem buildE_lawful {l : List Nat} (hle : ∀ x ∈ l, x ≤ 10) (hn : l.length ≤ 265) : buildE l = 0 ↔ Lawful l := by
  have hk := kraft_kr l
  constructor
  · intro h
    unfold buildE at h
    split at h
    · cases h
    · rename_i h1
      split at h
      · cases h
      · rename_i h2
        refine ⟨⟨hle, by omega⟩, ?_, hn⟩
        by_cases h3 : kraft l = 1024
        · exact .inl h3
        · right
          by_cases h4 : usedL l = 0
          · have hz : ∀ s, len l s = 0 := by
              intro s
              by_cases hs : s < l.length
              · have := sumTo_one (f := fun i => if decide (0 < len l i) = true then 1 else 0) hs
                unfold usedL cntTo at h4
                rw [h4] at this
                by_cases h5 : 0 < len l s
                · simp [h5] at this
                · omega
              · exact len_out (by omega)
            refine ⟨fun s => by rw [hz s]; omega, ?_⟩
            rw [count_cnt]
            have : cntTo (fun i => decide (len l i = 1)) l.length = 0 := sumTo_zero fun i _ => by simp [hz i]
            omega
          · have h5 : usedL l = 1 := by
              refine Classical.byContradiction fun h6 => h2 ⟨by omega, by omega, .inl (by omega)⟩
            have h6 : kraft l = 512 := by
              refine Classical.byContradiction fun h6 => h2 ⟨by omega, by omega, .inr h6⟩
            have hone : ∀ s, s < l.length → 0 < len l s → len l s = 1 := by
              intro s hs h0
              have : kr l.length (len l) = unit10 (len l s) := by
                have h7 : ∀ i, i < l.length → i ≠ s → len l i = 0 := by
                  intro i hi hne
                  refine Nat.eq_zero_of_not_pos fun h8 => ?_
                  exact hne (cnt_one (p := fun i => decide (0 < len l i)) h5 hi hs (by simpa using h8) (by simpa using h0))
                have h9 := sumTo_upd (fun i => unit10 (len l i)) hs 0
                have h10 : sumTo (upd (fun i => unit10 (len l i)) s 0) l.length = 0 := sumTo_zero fun i hi => by
                  by_cases e : i = s
                  · subst e; exact upd_self _ _ _
                  · rw [upd_ne _ _ _ _ e, h7 i hi e]; rfl
                unfold kr; omega
              rw [← hk, h6] at this
              exact unit10_one this.symm
            refine ⟨fun s => ?_, ?_⟩
            · by_cases hs : s < l.length
              · by_cases h0 : 0 < len l s
                · rw [hone s hs h0]; omega
                · omega
              · rw [len_out (by omega)]; omega
            · rw [count_cnt]
              have : cntTo (fun i => decide (len l i = 1)) l.length ≤ usedL l := sumTo_le fun i hi => by
                by_cases e : len l i = 1
                · simp [e]
                · simp [e]
              omega
  · intro h
    unfold buildE
    have h1 := h.kraft
    rw [if_neg (by omega), if_neg]
    rintro ⟨h2, h3, h4⟩
    rcases h.full with h5 | ⟨h5, h6⟩
    · omega
    · have e1 : usedL l = l.count 1 := by
        rw [count_cnt]
        refine sumTo_congr fun i hi => ?_
        have := h5 i
        by_cases e : len l i = 1
        · simp [e]
        · have : len l i = 0 := by omega
          simp [this]
      have e2 : kraft l = 512 * l.count 1 := by
        rw [hk, count_cnt]
        unfold kr cntTo
        rw [← sumTo_mul]
        refine sumTo_congr fun i hi => ?_
        have := h5 i
        by_cases e : len l i = 1
        · simp [e, unit10]
        · have : len l i = 0 := by omega
          simp [this, unit10]
      have : usedL l = 1 := by omega
      rw [e1] at this
      rw [this] at e2
      omega

/-- What holds of the machine between its steps. -/
structure DSOK (s : DS) : Prop where
  ph : s.ph ≤ 8
  final : s.final ≤ 1
  out : s.out.length ≤ 256
  byte : ∀ c ∈ s.out, c < 256
  due : s.ph = 3 → 0 < s.due ∧ s.due < 65536
  ls : s.ph = 4 → s.ls.length < 273 ∧ ∀ x ∈ s.ls, x ≤ 10
  sets : 5 ≤ s.ph → s.ph ≤ 7 → Lawful s.a ∧ Lawful s.b ∧ s.a.length = 265 ∧ s.b.length = 8
  run : 6 ≤ s.ph → s.ph ≤ 7 → 3 ≤ s.run ∧ s.run ≤ 10
  base : s.ph = 7 → ∃ c, c < 8 ∧ distBase c = (s.base, s.more)
theorem DSOK.init : DSOK DS.init := ⟨by simp [DS.init], by simp [DS.init], by simp [DS.init], by simp [DS.init], by simp [DS.init], by simp [DS.init], by simp [DS.init], by simp [DS.init], by simp [DS.init]⟩
theorem peek_lt (t : Tp) (k : Nat) : t.peek k < 2 ^ t.got k := Nat.mod_lt _ (pw_pos _)
theorem got_le (t : Tp) (k : Nat) : t.got k ≤ k := Nat.min_le_left _ _
theorem peek_lt2 (t : Tp) (k : Nat) : t.peek k < 2 ^ k := Nat.lt_of_lt_of_le (peek_lt t k) (Nat.pow_le_pow_right (by decide) (got_le t k))
theorem copyF_length (o : List Nat) (d n : Nat) : (copyF o d n).length = o.length + n := by
  induction n with
  | zero => rfl
  | succ n ih => rw [copyF, List.length_append, ih]; simp; omega
theorem copyF_byte (o : List Nat) (d n : Nat) (h : ∀ c ∈ o, c < 256) : ∀ c ∈ copyF o d n, c < 256 := by
  induction n with
  | zero => exact h
  | succ n ih =>
    intro c hc
    rw [copyF] at hc
    rcases List.mem_append.1 hc with hc | hc
    · exact ih c hc
    · simp only [List.mem_singleton] at hc
      subst hc
      rw [List.getD_eq_getElem?_getD]
      cases e : (copyF o d n)[(copyF o d n).length - d]? with
      | none => decide
      | some x => exact ih x (List.mem_of_getElem? e)
theorem shut_ok {t t1 : Tp} {s s1 : DS} {e : Nat} (hf : s.final ≤ 1) (ho : s.out.length ≤ 256) (hb : ∀ c ∈ s.out, c < 256) (k : shutS t s = (e, t1, s1)) : e = 0 ∧ DSOK s1 := by
  unfold shutS at k
  split at k <;> (simp only [Prod.mk.injEq] at k; obtain ⟨rfl, _, rfl⟩ := k; refine ⟨rfl, ⟨by simp, hf, ho, hb, by simp, by simp, by simp, by simp, by simp⟩⟩)
theorem listEnd_ok {t t1 : Tp} {s s1 : DS} (hf : s.final ≤ 1) (ho : s.out.length ≤ 256) (hb : ∀ c ∈ s.out, c < 256) (h4 : s.ph = 4) (hl : s.ls.length ≤ 273) (hx : ∀ x ∈ s.ls, x ≤ 10) (k : listEnd t s = (0, t1, s1)) : DSOK s1 := by
  unfold listEnd at k
  split at k
  · rename_i hlt
    simp only [Prod.mk.injEq, true_and] at k; obtain ⟨_, rfl⟩ := k
    exact ⟨by omega, hf, ho, hb, by omega, fun _ => ⟨hlt, hx⟩, by omega, by omega, by omega⟩
  · rename_i h5
    have h6 : s.ls.length = 273 := by omega
    unfold setsS at k
    split at k
    · rename_i h7; simp only [Prod.mk.injEq] at k; exact absurd k.1 h7
    · rename_i h7
      split at k
      · rename_i h8; simp only [Prod.mk.injEq] at k; exact absurd k.1 h8
      · rename_i h8
        split at k
        · simp at k
        · simp only [Prod.mk.injEq, true_and] at k; obtain ⟨_, rfl⟩ := k
          have ha : (s.ls.take 265).length = 265 := by simp; omega
          have hb2 : (s.ls.drop 265).length = 8 := by simp; omega
          have h9 := (buildE_lawful (l := s.ls.take 265) (fun x m => hx x (List.mem_of_mem_take m)) (by omega)).1 (by simpa using h7)
          have h10 := (buildE_lawful (l := s.ls.drop 265) (fun x m => hx x (List.mem_of_mem_drop m)) (by omega)).1 (by simpa using h8)
          exact ⟨by simp, hf, ho, hb, by simp, by simp, fun _ _ => ⟨h9, h10, ha, hb2⟩, by simp, by simp⟩
theorem symF_spec {l : List Nat} (t : Tp) (h : (symF l t).2.2 = 0) : (symF l t).1 < l.length ∧ 0 < (symF l t).2.1 ∧ (symF l t).2.1 ≤ t.got 10 := by
  have := findF_range (l := l) (t.peek 10) (t.got 10) h
  exact ⟨this.1, this.2.1, this.2.2.1⟩
theorem mem_snoc {l : List Nat} {x : Nat} {P : Nat → Prop} (h : ∀ c ∈ l, P c) (hx : P x) : ∀ c ∈ l ++ [x], P c := by
  intro c hc
  rcases List.mem_append.1 hc with hc | hc
  · exact h c hc
  · simp only [List.mem_singleton] at hc; subst hc; exact hx
theorem len_le_of {l : List Nat} {n : Nat} (h : ∀ x ∈ l, x ≤ n) (i : Nat) : len l i ≤ n := by
  by_cases hi : i < l.length
  · have : len l i ∈ l := by unfold len; rw [List.getD_eq_getElem?_getD, List.getElem?_eq_getElem hi]; exact List.getElem_mem _
    exact h _ this
  · rw [len_out (by omega)]; omega
theorem DSOK.step {t t1 : Tp} {s s1 : DS} (h : DSOK s) (h8 : s.ph ≠ 8) (k : stepF t s = (0, t1, s1)) : DSOK s1 := by
  have hph := h.ph
  have hc : s.ph = 0 ∨ s.ph = 1 ∨ s.ph = 2 ∨ s.ph = 3 ∨ s.ph = 4 ∨ s.ph = 5 ∨ s.ph = 6 ∨ s.ph = 7 := by omega
  unfold stepF at k
  rcases hc with e | e | e | e | e | e | e | e
  · rw [e] at k; simp only [step0] at k
    split at k
    · simp at k
    · rename_i hg
      simp only [Prod.mk.injEq, true_and] at k; obtain ⟨_, rfl⟩ := k
      have := peek_lt2 t 1
      exact ⟨by simp, by simp only; omega, h.out, h.byte, by simp, by simp, by simp, by simp, by simp⟩
  · rw [e] at k; simp only [step1] at k
    split at k
    · simp at k
    · split at k
      · simp only [Prod.mk.injEq, true_and] at k; obtain ⟨_, rfl⟩ := k
        exact ⟨by simp, h.final, h.out, h.byte, by simp, by simp, by simp, by simp, by simp⟩
      · split at k
        · simp only [Prod.mk.injEq, true_and] at k; obtain ⟨_, rfl⟩ := k
          exact ⟨by simp, h.final, h.out, h.byte, by simp, by simp, fun _ _ => ⟨fixA_ok, fixB_ok, fixA_length, fixB_length⟩, by simp, by simp⟩
        · split at k
          · simp only [Prod.mk.injEq, true_and] at k; obtain ⟨_, rfl⟩ := k
            exact ⟨by simp, h.final, h.out, h.byte, by simp, fun _ => ⟨by simp, by simp⟩, by simp, by simp, by simp⟩
          · simp at k
  · rw [e] at k; simp only [step2] at k
    split at k
    · simp at k
    · split at k
      · exact (shut_ok h.final h.out h.byte k).2
      · simp only [Prod.mk.injEq, true_and] at k; obtain ⟨_, rfl⟩ := k
        have := peek_lt2 t 16
        exact ⟨by simp, h.final, h.out, h.byte, fun _ => ⟨by simp only; omega, by simp only; omega⟩, by simp, by simp, by simp, by simp⟩
  · rw [e] at k; simp only [step3] at k
    have hd := h.due e
    split at k
    · simp at k
    · split at k
      · simp at k
      · have hb := mem_snoc h.byte (show t.peek 8 < 256 from peek_lt2 t 8)
        have hl : (s.out ++ [t.peek 8]).length ≤ 256 := by simp; omega
        split at k
        · exact (shut_ok (s := { s with out := s.out ++ [t.peek 8], due := 0 }) h.final hl hb k).2
        · simp only [Prod.mk.injEq, true_and] at k; obtain ⟨_, rfl⟩ := k
          exact ⟨hph, h.final, hl, hb, fun _ => ⟨by simp only; omega, by simp only; omega⟩, fun q => by simp only at q; omega, fun q => by simp only at q; omega, fun q => by simp only at q; omega, fun q => by simp only at q; omega⟩
  · rw [e] at k; simp only [step4] at k
    obtain ⟨hl, hx⟩ := h.ls e
    split at k
    · simp at k
    · split at k
      · rename_i h10
        exact listEnd_ok (s := { s with ls := s.ls ++ [t.peek 11 % 16] }) h.final h.out h.byte e (by simp; omega) (mem_snoc hx h10) k
      · split at k
        · simp at k
        · split at k
          · simp at k
          · split at k
            · simp at k
            · split at k
              · simp at k
              · refine listEnd_ok (s := { s with ls := s.ls ++ List.replicate (timesF t) (if t.peek 11 % 16 = 12 then len s.ls (s.ls.length - 1) else 0) }) h.final h.out h.byte e (by simp; omega) ?_ k
                intro x hx2
                rcases List.mem_append.1 hx2 with hx2 | hx2
                · exact hx x hx2
                · have := (List.mem_replicate.1 hx2).2
                  subst this
                  split
                  · exact len_le_of hx _
                  · omega
  · rw [e] at k; simp only [step5] at k
    have hs := h.sets (by omega) (by omega)
    split at k
    · rename_i h1; simp only [Prod.mk.injEq] at k; exact absurd k.1 h1
    · rename_i h1
      have hsy := symF_spec t (by simpa using h1)
      split at k
      · exact (shut_ok h.final h.out h.byte k).2
      · split at k
        · split at k
          · simp at k
          · rename_i h2 h3
            simp only [Prod.mk.injEq, true_and] at k; obtain ⟨_, rfl⟩ := k
            exact ⟨hph, h.final, by simp; omega, mem_snoc h.byte h2, fun q => by simp only at q; omega, fun q => by simp only at q; omega, fun _ _ => hs, fun q => by simp only at q; omega, fun q => by simp only at q; omega⟩
        · simp only [Prod.mk.injEq, true_and] at k; obtain ⟨_, rfl⟩ := k
          exact ⟨by simp, h.final, h.out, h.byte, by simp, by simp, fun _ _ => hs, fun _ _ => ⟨by simp only; omega, by simp only; omega⟩, by simp⟩
  · rw [e] at k; simp only [step6] at k
    have hs := h.sets (by omega) (by omega)
    have hr := h.run (by omega) (by omega)
    split at k
    · rename_i h1; simp only [Prod.mk.injEq] at k; exact absurd k.1 h1
    · rename_i h1
      have hsy := symF_spec t (by simpa using h1)
      simp only [Prod.mk.injEq, true_and] at k; obtain ⟨_, rfl⟩ := k
      exact ⟨by simp, h.final, h.out, h.byte, by simp, by simp, fun _ _ => hs, fun _ _ => hr, fun _ => ⟨(symF s.b t).1, by omega, rfl⟩⟩
  · rw [e] at k; simp only [step7] at k
    have hs := h.sets (by omega) (by omega)
    have hr := h.run (by omega) (by omega)
    split at k
    · simp at k
    · split at k
      · simp at k
      · split at k
        · simp at k
        · simp only [Prod.mk.injEq, true_and] at k; obtain ⟨_, rfl⟩ := k
          exact ⟨by simp, h.final, by rw [copyF_length]; omega, copyF_byte _ _ _ h.byte, by simp, by simp, fun _ _ => hs, by simp, by simp⟩
theorem Steps.ok {t t1 : Tp} {s s1 : DS} (h : Steps t s t1 s1) (k : DSOK s) : DSOK s1 := by
  induction h with
  | refl => exact k
  | step a b _ ih => exact ih (k.step a b)
end Go.Proofs.Qxb6500353aGreat
