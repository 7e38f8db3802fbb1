/- PLAIN LAWS: naive propagation decides RupP; the truth table. -/
import Derived.Test.Qxb6500354aGreatInv4
import Derived.Test.Qxb6500354aGreatDef3
namespace Go.Proofs.Qxb6500354aGreat
set_option linter.unusedVariables false
set_option linter.unusedSimpArgs false

/-- A list of literals taken for true, with no variable twice. -/
structure OnOK (on : List Int) : Prop where
  gd : ∀ l ∈ on, good l = true
  nd : (on.map Int.natAbs).Nodup
theorem valF_one {on : List Int} (h : OnOK on) {l : Int} (hl : good l = true) : valF l on = if l ∈ on then 1 else if -l ∈ on then -1 else 0 := by
  induction on with
  | nil => simp [valF]
  | cons x r ih =>
    have hx := (good_iff x).1 (h.gd x List.mem_cons_self)
    have hl2 := (good_iff l).1 hl
    have hnd := h.nd
    rw [List.map_cons, List.nodup_cons] at hnd
    have ih2 := ih ⟨fun y hy => h.gd y (List.mem_cons_of_mem _ hy), hnd.2⟩
    show (if x = l then 1 else if x = -l then -1 else valF l r) = _
    by_cases e : x = l
    · rw [if_pos e, if_pos (by rw [e]; exact List.mem_cons_self)]
    · rw [if_neg e]
      by_cases e2 : x = -l
      · rw [if_pos e2]
        have h1 : ¬ l ∈ x :: r := by
          intro hm
          rcases List.mem_cons.1 hm with q | q
          · exact e q.symm
          · exact hnd.1 (List.mem_map.2 ⟨l, q, by omega⟩)
        rw [if_neg h1, if_pos (by rw [e2]; exact List.mem_cons_self)]
      · rw [if_neg e2, ih2]
        have h1 : (l ∈ x :: r) ↔ l ∈ r := by
          rw [List.mem_cons]; exact ⟨fun q => q.resolve_left (fun z => e z.symm), .inr⟩
        have h2 : (-l ∈ x :: r) ↔ -l ∈ r := by
          rw [List.mem_cons]; exact ⟨fun q => q.resolve_left (fun z => e2 z.symm), .inr⟩
        by_cases q1 : l ∈ r
        · rw [if_pos q1, if_pos (h1.2 q1)]
        · rw [if_neg q1, if_neg (fun z => q1 (h1.1 z))]
          by_cases q2 : -l ∈ r
          · rw [if_pos q2, if_pos (h2.2 q2)]
          · rw [if_neg q2, if_neg (fun z => q2 (h2.1 z))]
theorem OnOK.cons1 {on : List Int} (h : OnOK on) {l : Int} (h1 : l ∈ on) (h2 : -l ∈ on) : False := by
  have hg := (good_iff l).1 (h.gd l h1)
  have := eq_of_natAbs h.nd h1 h2 (by omega)
  omega
theorem OnOK.snoc {on : List Int} (h : OnOK on) {l : Int} (hg : good l = true) (h0 : valF l on = 0) : OnOK (on ++ [l]) := by
  refine ⟨fun x hx => ?_, ?_⟩
  · rcases List.mem_append.1 hx with e | e
    · exact h.gd x e
    · simp at e; subst e; exact hg
  · rw [List.map_append, List.map_cons, List.map_nil]
    unfold List.Nodup
    rw [List.pairwise_append]
    refine ⟨h.nd, by simp, fun x hx y hy => ?_⟩
    simp at hy; subst hy
    intro e
    obtain ⟨z, hz, rfl⟩ := List.mem_map.1 hx
    rw [valF_one h hg] at h0
    have hz2 : z = l ∨ z = -l := by omega
    rcases hz2 with q | q
    · rw [if_pos (q ▸ hz)] at h0; omega
    · split at h0
      · omega
      · rw [if_pos (q ▸ hz)] at h0; omega
/-- A row of the store: literals, no variable twice. -/
def RowOK (c : List Int) : Prop := (∀ x ∈ c, good x = true) ∧ (c.map Int.natAbs).Nodup
theorem RowOK.of {c : List Int} (h : checkClause c = 0) : RowOK c := by obtain ⟨_, a, b⟩ := checkClause_facts h; exact ⟨a, nodup_of_lt b⟩

/-- State: what it says. -/
theorem stateLoop_law {on : List Int} : ∀ (c : List Int) (op : Nat) (un : Int),
    ((stateLoop on c op un).1 = 1 ∧ ∃ l ∈ c, valF l on = 1) ∨
    ((∀ l ∈ c, valF l on ≠ 1) ∧
      ((op + (c.filter (fun l => decide (valF l on = 0))).length = 0 ∧ stateLoop on c op un = (-1, 0)) ∨
       (op + (c.filter (fun l => decide (valF l on = 0))).length = 1 ∧ (stateLoop on c op un).1 = 0 ∧ ((c.filter (fun l => decide (valF l on = 0)) = [] ∧ (stateLoop on c op un).2 = un) ∨ c.filter (fun l => decide (valF l on = 0)) = [(stateLoop on c op un).2])) ∨
       (2 ≤ op + (c.filter (fun l => decide (valF l on = 0))).length ∧ stateLoop on c op un = (2, 0)))) := by
  intro c
  induction c with
  | nil =>
    intro op un
    right
    refine ⟨by simp, ?_⟩
    simp only [List.filter_nil, List.length_nil, Nat.add_zero, stateLoop]
    by_cases h0 : op = 0
    · left; simp [h0]
    · right
      by_cases h1 : op = 1
      · left; simp [h1]
      · right; rw [if_neg h0, if_neg h1]; exact ⟨by omega, rfl⟩
  | cons x r ih =>
    intro op un
    have hs : stateLoop on (x :: r) op un = if valF x on = 1 then (1, 0) else if valF x on = 0 then stateLoop on r (op + 1) x else stateLoop on r op un := rfl
    by_cases e1 : valF x on = 1
    · left; rw [hs, if_pos e1]; exact ⟨rfl, x, List.mem_cons_self, e1⟩
    · rw [if_neg e1] at hs
      by_cases e0 : valF x on = 0
      · rw [if_pos e0] at hs
        rw [hs]
        have hf : (x :: r).filter (fun l => decide (valF l on = 0)) = x :: r.filter (fun l => decide (valF l on = 0)) := by rw [List.filter_cons]; simp [e0]
        rcases ih (op + 1) x with ⟨a, l, b, d⟩ | ⟨a, b⟩
        · left; exact ⟨a, l, List.mem_cons_of_mem _ b, d⟩
        · right
          refine ⟨fun l hl => ?_, ?_⟩
          · rcases List.mem_cons.1 hl with q | q
            · subst q; exact e1
            · exact a l q
          · rw [hf, List.length_cons]
            rcases b with ⟨b1, b2⟩ | ⟨b1, b2, b3⟩ | ⟨b1, b2⟩
            · omega
            · right; left
              refine ⟨by omega, b2, .inr ?_⟩
              rcases b3 with ⟨q1, q2⟩ | q
              · rw [q1, q2]
              · rw [q] at b1; simp at b1
            · right; right; exact ⟨by omega, b2⟩
      · rw [if_neg e0] at hs
        rw [hs]
        have hf : (x :: r).filter (fun l => decide (valF l on = 0)) = r.filter (fun l => decide (valF l on = 0)) := by rw [List.filter_cons]; simp [e0]
        rw [hf]
        rcases ih op un with ⟨a, l, b, d⟩ | ⟨a, b⟩
        · left; exact ⟨a, l, List.mem_cons_of_mem _ b, d⟩
        · right
          refine ⟨fun l hl => ?_, b⟩
          rcases List.mem_cons.1 hl with q | q
          · subst q; exact e1
          · exact a l q
theorem stateF_law (c on : List Int) :
    ((stateF c on).1 = 1 ∧ ∃ l ∈ c, valF l on = 1) ∨
    ((∀ l ∈ c, valF l on ≠ 1) ∧ (((∀ l ∈ c, valF l on ≠ 0) ∧ stateF c on = (-1, 0)) ∨
      ((stateF c on).1 = 0 ∧ c.filter (fun l => decide (valF l on = 0)) = [(stateF c on).2]) ∨
      (2 ≤ (c.filter (fun l => decide (valF l on = 0))).length ∧ stateF c on = (2, 0)))) := by
  rcases stateLoop_law (on := on) c 0 0 with h | ⟨a, b⟩
  · exact .inl h
  · right
    refine ⟨a, ?_⟩
    rcases b with ⟨b1, b2⟩ | ⟨b1, b2, b3⟩ | ⟨b1, b2⟩
    · left
      refine ⟨fun l hl e => ?_, b2⟩
      have : c.filter (fun l => decide (valF l on = 0)) = [] := List.eq_nil_of_length_eq_zero (by omega)
      have hm : l ∈ c.filter (fun l => decide (valF l on = 0)) := List.mem_filter.2 ⟨hl, by simp [e]⟩
      rw [this] at hm; simp at hm
    · right; left
      refine ⟨b2, ?_⟩
      rcases b3 with ⟨q, _⟩ | q
      · rw [q] at b1; simp at b1
      · exact q
    · right; right; exact ⟨by omega, b2⟩

/-- The set that a list says. -/
def SetL (on : List Int) : Int → Prop := fun l => l ∈ on
theorem SetL.cons {on : List Int} (h : OnOK on) : Cons (SetL on) := fun l h1 h2 => h.cons1 h1 h2
theorem val_pm {on : List Int} (h : OnOK on) {l : Int} (hg : good l = true) : (valF l on = 1 ↔ l ∈ on) ∧ (valF l on = -1 ↔ -l ∈ on) ∧ (valF l on = 0 ↔ l ∉ on ∧ -l ∉ on) := by
  rw [valF_one h hg]
  by_cases a : l ∈ on
  · have b : -l ∉ on := fun b => h.cons1 a b
    simp [a, b]
  · by_cases b : -l ∈ on <;> simp [a, b]
/-- A closed, consistent set over a list that lies in it. -/
structure Over (A : Int → Prop) (on : List Int) : Prop where
  c : Cons A
  s : ∀ l ∈ on, A l
theorem Over.unit {A : Int → Prop} {on c : List Int} (h : Over A on) (ho : OnOK on) (hr : RowOK c) (hc : Ok1 A c) {l : Int} (hf : c.filter (fun l => decide (valF l on = 0)) = [l]) (h1 : ∀ x ∈ c, valF x on ≠ 1) : A l ∧ l ∈ c ∧ good l = true ∧ valF l on = 0 := by
  have hm : l ∈ c.filter (fun l => decide (valF l on = 0)) := by rw [hf]; simp
  obtain ⟨hlc, h0⟩ := List.mem_filter.1 hm
  have h0' : valF l on = 0 := by simpa using h0
  refine ⟨hc.unit h.c (fun s hs hne => ?_), hlc, hr.1 l hlc, h0'⟩
  have hg := hr.1 s hs
  have hv : valF s on = -1 := by
    have h2 := h1 s hs
    have h3 : valF s on ≠ 0 := fun e => by
      have : s ∈ c.filter (fun l => decide (valF l on = 0)) := List.mem_filter.2 ⟨hs, by simp [e]⟩
      rw [hf] at this; simp at this; exact hne this
    have := valF_one ho hg
    rw [this] at h2 h3 ⊢
    split at h2 <;> split at h3 <;> simp_all
  exact h.s _ ((val_pm ho hg).2.1.1 hv)
theorem Over.bad {A : Int → Prop} {on c : List Int} (h : Over A on) (ho : OnOK on) (hr : RowOK c) (hc : Ok1 A c) (h1 : ∀ x ∈ c, valF x on ≠ 1) (h0 : ∀ x ∈ c, valF x on ≠ 0) : False := by
  refine hc.conf h.c (fun s hs => ?_)
  have hg := hr.1 s hs
  have h2 := h1 s hs
  have h3 := h0 s hs
  refine h.s _ ((val_pm ho hg).2.1.1 ?_)
  rw [valF_one ho hg] at h2 h3 ⊢
  split at h2 <;> split at h3 <;> simp_all
/-- A row that is neither false nor unit under the list. -/
def Quiet (on c : List Int) : Prop := (stateF c on).1 = 1 ∨ (stateF c on).1 = 2
theorem quiet_ok {on c : List Int} (ho : OnOK on) (hr : RowOK c) (h : Quiet on c) : Ok1 (SetL on) c := by
  rcases stateF_law c on with ⟨_, l, hl, hv⟩ | ⟨h1, q⟩
  · exact .inl ⟨l, hl, (val_pm ho (hr.1 l hl)).1.1 hv⟩
  · rcases q with ⟨_, e⟩ | ⟨e, _⟩ | ⟨e, e2⟩
    · unfold Quiet at h; rw [e] at h; omega
    · unfold Quiet at h; omega
    · right
      obtain ⟨a, b, r, hf⟩ : ∃ a b r, c.filter (fun l => decide (valF l on = 0)) = a :: b :: r := by
        match hx : c.filter (fun l => decide (valF l on = 0)), e with
        | a :: b :: r, _ => exact ⟨a, b, r, rfl⟩
      have ha : a ∈ c.filter (fun l => decide (valF l on = 0)) := by rw [hf]; simp
      have hb : b ∈ c.filter (fun l => decide (valF l on = 0)) := by rw [hf]; simp
      obtain ⟨ha1, ha2⟩ := List.mem_filter.1 ha
      obtain ⟨hb1, hb2⟩ := List.mem_filter.1 hb
      have hnd : (c.filter (fun l => decide (valF l on = 0))).Nodup := (nodup_of_map Int.natAbs hr.2).filter _
      rw [hf, List.nodup_cons] at hnd
      refine ⟨a, ha1, b, hb1, fun e => hnd.1 (by rw [e]; simp), ?_, ?_⟩
      · exact ((val_pm ho (hr.1 a ha1)).2.2.1 (by simpa using ha2)).2
      · exact ((val_pm ho (hr.1 b hb1)).2.2.1 (by simpa using hb2)).2

/-- One round over the rows. -/
theorem clRound_law {A : Int → Prop} : ∀ (cs : List (List Int)) (out : List Int) (g : Bool), (∀ c ∈ cs, RowOK c) → OnOK out →
    OnOK (clRound cs out g).1 ∧ (∃ e, (clRound cs out g).1 = out ++ e ∧ ((clRound cs out g).2.1 = (g || !e.isEmpty))) ∧
    (Over A out → (∀ c ∈ cs, Ok1 A c) → Over A (clRound cs out g).1 ∧ (clRound cs out g).2.2 = false) ∧
    ((clRound cs out g).2.2 = false → (clRound cs out g).1 = out → ∀ c ∈ cs, Quiet out c) := by
  intro cs
  induction cs with
  | nil => intro out g _ ho; exact ⟨ho, ⟨[], by simp [clRound]⟩, fun h _ => ⟨h, rfl⟩, fun _ _ c hc => by simp at hc⟩
  | cons c r ih =>
    intro out g hr ho
    have hrc := hr c List.mem_cons_self
    have hrr : ∀ d ∈ r, RowOK d := fun d hd => hr d (List.mem_cons_of_mem _ hd)
    have hs : clRound (c :: r) out g = if (stateF c out).1 = -1 then (out, g, true) else if (stateF c out).1 = 0 then clRound r (out ++ [(stateF c out).2]) true else clRound r out g := rfl
    by_cases e1 : (stateF c out).1 = -1
    · rw [hs, if_pos e1]
      refine ⟨ho, ⟨[], by simp⟩, fun h hc => ?_, fun h => by simp at h⟩
      exfalso
      rcases stateF_law c out with ⟨q, _⟩ | ⟨q, q2⟩
      · omega
      · rcases q2 with ⟨q3, _⟩ | ⟨q3, _⟩ | ⟨_, q3⟩
        · exact h.bad ho hrc (hc c List.mem_cons_self) q q3
        · omega
        · rw [q3] at e1; simp at e1
    · rw [if_neg e1] at hs
      by_cases e0 : (stateF c out).1 = 0
      · rw [if_pos e0] at hs
        rw [hs]
        obtain ⟨hn1, hf⟩ : (∀ x ∈ c, valF x out ≠ 1) ∧ c.filter (fun l => decide (valF l out = 0)) = [(stateF c out).2] := by
          rcases stateF_law c out with ⟨q, _⟩ | ⟨q, q2⟩
          · omega
          · rcases q2 with ⟨_, q3⟩ | ⟨_, q3⟩ | ⟨_, q3⟩
            · rw [q3] at e0; simp at e0
            · exact ⟨q, q3⟩
            · rw [q3] at e0; simp at e0
        obtain ⟨l, hl⟩ : ∃ l, (stateF c out).2 = l := ⟨_, rfl⟩
        rw [hl] at hf ⊢
        have hm : l ∈ c.filter (fun l => decide (valF l out = 0)) := by rw [hf]; simp
        obtain ⟨hlc, h0⟩ := List.mem_filter.1 hm
        have ho2 : OnOK (out ++ [l]) := ho.snoc (hrc.1 l hlc) (by simpa using h0)
        obtain ⟨p1, ⟨e, p2, p2b⟩, p3, p4⟩ := ih (out ++ [l]) true hrr ho2
        refine ⟨p1, ⟨[l] ++ e, by rw [p2]; simp, by rw [p2b]; simp⟩, fun h hc => ?_, fun _ he => ?_⟩
        · obtain ⟨q1, _⟩ := h.unit ho hrc (hc c List.mem_cons_self) hf hn1
          refine p3 ⟨h.c, fun x hx => ?_⟩ (fun d hd => hc d (List.mem_cons_of_mem _ hd))
          rcases List.mem_append.1 hx with q | q
          · exact h.s x q
          · simp at q; subst q; exact q1
        · rw [p2] at he
          have := congrArg List.length he
          simp at this
      · rw [if_neg e0] at hs
        rw [hs]
        obtain ⟨p1, p2, p3, p4⟩ := ih out g hrr ho
        refine ⟨p1, p2, fun h hc => p3 h (fun d hd => hc d (List.mem_cons_of_mem _ hd)), fun hb he d hd => ?_⟩
        rcases List.mem_cons.1 hd with q | q
        · subst q
          unfold Quiet
          rcases stateF_law d out with ⟨q, _⟩ | ⟨_, q2⟩
          · exact .inl q
          · rcases q2 with ⟨_, q3⟩ | ⟨q3, _⟩ | ⟨_, q3⟩
            · rw [q3] at e1; simp at e1
            · exact absurd q3 e0
            · right; rw [q3]
        · exact p4 hb he d q
theorem OnOK.len {on : List Int} (h : OnOK on) : on.length ≤ 12 := len12 h.gd h.nd
theorem closureF_law {cs : List (List Int)} (hr : ∀ c ∈ cs, RowOK c) : ∀ (n : Nat) (out : List Int), OnOK out → 13 ≤ n + out.length →
    ((closureF cs n out).2 = true → ∀ A : Int → Prop, Over A out → (∀ c ∈ cs, Ok1 A c) → False) ∧
    ((closureF cs n out).2 = false → ∃ on, OnOK on ∧ (∀ l ∈ out, l ∈ on) ∧ ∀ c ∈ cs, Ok1 (SetL on) c) := by
  intro n
  induction n with
  | zero => intro out ho hl; have := ho.len; omega
  | succ n ih =>
    intro out ho hl
    have hs : closureF cs (n + 1) out = if (clRound cs out false).2.2 = true then ((clRound cs out false).1, true) else if (clRound cs out false).2.1 = true then closureF cs n (clRound cs out false).1 else ((clRound cs out false).1, false) := rfl
    have hlaw := fun A => clRound_law (A := A) cs out false hr ho
    obtain ⟨p1, ⟨e, p2, p2b⟩, _, p4⟩ := hlaw (fun _ => True)
    rw [hs]
    by_cases hb : (clRound cs out false).2.2 = true
    · rw [if_pos hb]
      refine ⟨fun _ A hA hc => ?_, fun h => by simp at h⟩
      have := ((hlaw A).2.2.1 hA hc).2
      rw [hb] at this; simp at this
    · rw [if_neg hb]
      have hbf : (clRound cs out false).2.2 = false := by simpa using hb
      by_cases hg : (clRound cs out false).2.1 = true
      · rw [if_pos hg]
        rw [p2b] at hg
        have hne : 1 ≤ e.length := by
          cases e with
          | nil => simp at hg
          | cons _ _ => simp
        obtain ⟨q1, q2⟩ := ih (clRound cs out false).1 p1 (by rw [p2, List.length_append]; omega)
        refine ⟨fun h A hA hc => q1 h A ((hlaw A).2.2.1 hA hc).1 hc, fun h => ?_⟩
        obtain ⟨on, a, b, d⟩ := q2 h
        exact ⟨on, a, fun l hl => b l (by rw [p2]; exact List.mem_append_left _ hl), d⟩
      · rw [if_neg hg]
        rw [p2b] at hg
        have he : e = [] := by
          cases e with
          | nil => rfl
          | cons _ _ => simp at hg
        have heq : (clRound cs out false).1 = out := by rw [p2, he, List.append_nil]
        refine ⟨fun h => by simp at h, fun _ => ⟨out, ho, fun l hl => hl, fun c hc => quiet_ok ho (hr c hc) (p4 hbf heq c hc)⟩⟩
theorem negL_ok {c : List Int} (h : RowOK c) : OnOK (negL c) := by
  refine ⟨fun l hl => ?_, ?_⟩
  · obtain ⟨x, hx, rfl⟩ := List.mem_map.1 hl
    have := (good_iff x).1 (h.1 x hx)
    rw [good_iff]; omega
  · unfold negL
    rw [List.map_map]
    have : (Int.natAbs ∘ fun l : Int => -l) = Int.natAbs := by funext x; simp
    rw [this]; exact h.2
/-- Naive propagation decides it. -/
theorem rupF_iff {cs : List (List Int)} {c : List Int} (hr : ∀ d ∈ cs, RowOK d) (hc : RowOK c) : rupF cs c = true ↔ RupP cs c := by
  obtain ⟨p1, p2⟩ := closureF_law hr 13 (negL c) (negL_ok hc) (by omega)
  constructor
  · intro h A h1 h2 h3
    refine p1 h A ⟨h1, fun l hl => ?_⟩ h2
    obtain ⟨x, hx, rfl⟩ := List.mem_map.1 hl
    exact h3 x hx
  · intro h
    cases hb : rupF cs c with
    | true => rfl
    | false =>
      exfalso
      obtain ⟨on, a, b, d⟩ := p2 hb
      exact h (SetL on) (SetL.cons a) d (fun l hl => b (-l) (List.mem_map.2 ⟨l, hl, rfl⟩))
end Go.Proofs.Qxb6500354aGreat
