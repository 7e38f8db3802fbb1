/- THE LOOP's INVARIANT, 1: the store and the trail under back, drop, put, decide. -/
import Derived.Test.Qxb6500354aGreatAna2
namespace Go.Proofs.Qxb6500354aGreat
set_option linter.unusedVariables false
set_option linter.unusedSimpArgs false

/-- Under the first d literals of the trail no live clause is false or unit. -/
def FixC (T : TrailS) (d : Nat) (c : List Int) : Prop := (∃ l ∈ c, ∃ i r, i < d ∧ At T i l r) ∨
  ∃ l ∈ c, ∃ m ∈ c, l ≠ m ∧ (∀ i x r, At T i x r → x.natAbs = l.natAbs → d ≤ i) ∧ (∀ i x r, At T i x r → x.natAbs = m.natAbs → d ≤ i)
def Fix (W : WatchS) (T : TrailS) (d : Nat) : Prop := ∀ j, W.used.testBit j = true → FixC T d (W.cl j)
theorem FixC.perm {T : TrailS} {d : Nat} {c e : List Int} (h : FixC T d c) (hp : ∀ l, l ∈ c → l ∈ e) : FixC T d e := by
  rcases h with ⟨l, a, b⟩ | ⟨l, a, m, b, q⟩
  · exact .inl ⟨l, hp l a, b⟩
  · exact .inr ⟨l, hp l a, m, hp m b, q⟩
theorem FixC.ext {T U : TrailS} {d : Nat} {c : List Int} (h : FixC T d c) (he : Ext T U) (hd : d ≤ T.st.length) : FixC U d c := by
  have hold : ∀ i x r, At U i x r → i < T.st.length → At T i x r := by
    intro i x r hi hl
    obtain ⟨e, he⟩ := he
    unfold At at hi ⊢
    rw [he, List.getElem?_append_left hl] at hi; exact hi
  rcases h with ⟨l, a, i, r, b, c⟩ | ⟨l, a, m, b, hne, q1, q2⟩
  · exact .inl ⟨l, a, i, r, b, c.ext he⟩
  · refine .inr ⟨l, a, m, b, hne, fun i x r hi e => ?_, fun i x r hi e => ?_⟩
    · by_cases hl : i < T.st.length
      · exact q1 i x r (hold i x r hi hl) e
      · omega
    · by_cases hl : i < T.st.length
      · exact q2 i x r (hold i x r hi hl) e
      · omega
theorem at_take {T : TrailS} {d k : Nat} {c : Nat} {i : Nat} {l r : Int} : At { st := T.st.take d, lims := T.lims.take k, cursor := c } i l r ↔ i < d ∧ At T i l r := by
  unfold At
  simp only [List.getElem?_take]
  by_cases h : i < d
  · rw [if_pos h]; simp [h]
  · rw [if_neg h]; simp [h]
theorem FixC.take {T : TrailS} {d : Nat} {c : List Int} (h : FixC T d c) {n k cu : Nat} (hd : d ≤ n) : FixC { st := T.st.take n, lims := T.lims.take k, cursor := cu } d c := by
  rcases h with ⟨l, a, i, r, b, c⟩ | ⟨l, a, m, b, hne, q1, q2⟩
  · exact .inl ⟨l, a, i, r, b, at_take.2 ⟨by omega, c⟩⟩
  · exact .inr ⟨l, a, m, b, hne, fun i x r hi e => q1 i x r (at_take.1 hi).2 e, fun i x r hi e => q2 i x r (at_take.1 hi).2 e⟩

structure WT (W : WatchS) (T : TrailS) : Prop where
  ws : WS W
  tk : TrailOK T
  rs : Reas W T
  sm : ∀ j, Sem T T.cursor (W.view j)
  fx : ∀ d ∈ T.lims, Fix W T d

theorem WT.prop {W : WatchS} {T : TrailS} (h : WT W T) : WT (propF W T).2.1 (propF W T).2.2 := by
  have p := (prop_law h.ws h.tk h.rs h.sm).1
  refine ⟨p.ws, p.tk, p.rs, p.sm, fun d hd j hj => ?_⟩
  rw [p.lm] at hd
  rw [p.us] at hj
  have hdl := h.tk.limlt d hd
  exact ((h.fx d hd j hj).ext p.ex (Nat.le_of_lt hdl)).perm (fun l hl => (p.pm j).mem_iff.2 hl)

theorem back_eq {T : TrailS} {k : Nat} (h : k < T.lims.length) : T.back k = { st := T.st.take (T.lims.getD k 0), lims := T.lims.take k, cursor := min T.cursor (T.lims.getD k 0) } := by unfold TrailS.back; rw [if_pos h]
theorem getD_lim_mem {l : List Nat} {k : Nat} (h : k < l.length) : l.getD k 0 ∈ l := by rw [List.getD_eq_getElem?_getD, List.getElem?_eq_getElem h]; exact List.getElem_mem _
theorem Wat2.take {T : TrailS} {cur : Nat} {a b : Int} (h : Wat2 T cur a b) (n k : Nat) : Wat2 { st := T.st.take n, lims := T.lims.take k, cursor := min cur n } (min cur n) a b := by
  intro i r hi
  obtain ⟨h1, h2⟩ := at_take.1 hi
  rcases h i r h2 with e | ⟨j, s, e1, e2⟩
  · left; omega
  · right; exact ⟨j, s, e1, at_take.2 ⟨by omega, e2⟩⟩
theorem WT.back {W : WatchS} {T : TrailS} (h : WT W T) (k : Nat) : WT W (T.back k) := by
  by_cases hk : k < T.lims.length
  · have hok := ok_back h.tk k
    rw [back_eq hk] at hok ⊢
    refine ⟨h.ws, hok, fun i l r hi => ?_, fun j hs => ?_, fun d hd j hj => ?_⟩
    · obtain ⟨h1, h2⟩ := at_take.1 hi
      rcases h.rs i l r h2 with ⟨e1, e2⟩ | ⟨id, e1, e2, e3, e4, e5⟩
      · left
        refine ⟨e1, ?_⟩
        obtain ⟨q, hq, e⟩ := List.getElem_of_mem e2
        have hqk : q < k := by
          apply Nat.lt_of_not_le
          intro hle
          have hsorted := h.tk.lims
          have : T.lims.getD k 0 ≤ i := by
            rw [List.getD_eq_getElem?_getD, List.getElem?_eq_getElem hk]
            simp only [Option.getD_some]
            rw [← e]
            by_cases hqe : k = q
            · subst hqe; exact Nat.le_refl _
            · exact Nat.le_of_lt (List.pairwise_iff_getElem.1 hsorted k q hk hq (by omega))
          omega
        rw [List.mem_iff_getElem]
        exact ⟨q, by rw [List.length_take]; omega, by rw [List.getElem_take]; exact e⟩
      · right
        refine ⟨id, e1, e2, fun hm => e3 (List.mem_of_mem_take hm), e4, fun m hm hne => ?_⟩
        obtain ⟨j, s, q1, q2⟩ := e5 m hm hne
        exact ⟨j, s, q1, at_take.2 ⟨by omega, q2⟩⟩
    · obtain ⟨a, b⟩ := h.sm j hs
      exact ⟨a.take _ _, b.take _ _⟩
    · have hlt := take_lims_lt h.tk hk d hd
      exact (h.fx d (List.mem_of_mem_take hd) j hj).take (Nat.le_of_lt hlt)
  · have : T.back k = T := by unfold TrailS.back; rw [if_neg hk]
    rw [this]; exact h

/-! ### put -/
theorem put_view (W : WatchS) (id : Nat) (c : List Int) (j : Nat) : (W.put id c).view j = if j = id then ⟨c, true, true, W.weak.testBit id, fun x => (W.wl x).testBit id⟩ else W.view j := by
  by_cases h : j = id
  · subst h; rw [if_pos rfl]; simp [WatchS.put, WatchS.view, upd_self, testBit_set]
  · rw [if_neg h]
    have h2 : ¬ id = j := fun e => h e.symm
    simp [WatchS.put, WatchS.view, upd_ne _ _ _ _ h, testBit_set, h2]
theorem WT.put {W : WatchS} {T : TrailS} (h : WT W T) {id : Nat} (hid : id < 52) (hu : W.used.testBit id = false) {c : List Int} (hc : checkClause c = 0) (hf : ∀ d ∈ T.lims, FixC T d c) : WT (W.put id c) T := by
  obtain ⟨c1, c2, c3⟩ := checkClause_facts hc
  have hv := h.ws.v id
  have hwk : W.weak.testBit id = false := by
    cases e : W.weak.testBit id with
    | false => rfl
    | true => have := hv.wu e; exact absurd this (by show ¬ W.used.testBit id = true; rw [hu]; simp)
  have hoff := hv.off (by simp [View.sound, WatchS.view, hu])
  have hoff2 : ∀ x, (W.wl x).testBit id = false := hoff
  have hvid : (W.put id c).view id = ⟨c, true, true, false, fun x => (W.wl x).testBit id⟩ := by rw [put_view, if_pos rfl, hwk]
  refine ⟨⟨fun j => ?_, fun j hj => ?_⟩, h.tk, ?_, fun j => ?_, fun d hd j hj => ?_⟩
  · by_cases e : j = id
    · subst e
      rw [hvid]
      refine ⟨fun _ => rfl, by simp, fun x hx => ?_, by simp [View.sound], c2, nodup_of_lt c3⟩
      simp only [hoff2] at hx; simp at hx
    · rw [put_view, if_neg e]; exact h.ws.v j
  · have : (W.put id c).used.testBit j = (W.used.testBit j || decide (id = j)) := by simp [WatchS.put, testBit_set]
    rw [this, Bool.or_eq_true, decide_eq_true_eq] at hj
    rcases hj with e | e
    · exact h.ws.lt j e
    · omega
  · intro i l r hi
    rcases h.rs i l r hi with e | ⟨q, e1, e2, e3, e4, e5⟩
    · exact .inl e
    · right
      have hne : q ≠ id := fun e => by rw [e, hu] at e2; simp at e2
      refine ⟨q, e1, by simp [WatchS.put, testBit_set, e2], e3, ?_, ?_⟩
      · simp only [WatchS.put, upd_ne _ _ _ _ hne]; exact e4
      · simp only [WatchS.put, upd_ne _ _ _ _ hne]; exact e5
  · by_cases e : j = id
    · subst e; rw [hvid]; intro hs; simp [View.sound] at hs
    · rw [put_view, if_neg e]; exact h.sm j
  · have : (W.put id c).used.testBit j = (W.used.testBit j || decide (id = j)) := by simp [WatchS.put, testBit_set]
    rw [this, Bool.or_eq_true, decide_eq_true_eq] at hj
    by_cases e : j = id
    · subst e; simp only [WatchS.put, upd_self]; exact hf d hd
    · simp only [WatchS.put, upd_ne _ _ _ _ e]
      exact h.fx d hd j (hj.resolve_right (fun q => e q.symm))

/-! ### drop -/
theorem drop_used (W : WatchS) (id j : Nat) : (W.drop id).used.testBit j = (W.used.testBit j && !decide (id = j)) := by
  unfold WatchS.drop
  split <;> simp [WatchS.unlink, testBit_clr]
theorem drop_cl (W : WatchS) (id : Nat) : (W.drop id).cl = upd W.cl id [] := by
  unfold WatchS.drop
  split <;> simp [WatchS.unlink]
theorem drop_view {W : WatchS} (h : WS W) (id j : Nat) : (W.drop id).view j = if j = id then ⟨[], false, false, false, fun _ => false⟩ else W.view j := by
  have hv := h.v id
  unfold WatchS.drop
  by_cases hj : j = id
  · subst hj
    rw [if_pos rfl]
    by_cases hs : (W.fresh ||| W.weak).testBit j = true
    · simp only [if_pos hs]
      have hoff : ∀ x, (W.wl x).testBit j = false := hv.off (by
        rw [Nat.testBit_or, Bool.or_eq_true] at hs
        rcases hs with e | e <;> simp [View.sound, WatchS.view, e])
      simp [WatchS.view, upd_self, testBit_clr, hoff]
    · simp only [if_neg hs]
      have hu := unlink_view W j j
      rw [if_pos rfl] at hu
      have hon : ∀ x, ((W.unlink j).wl x).testBit j = false := by
        intro x
        have e := congrFun (congrArg View.on hu) x
        simp only [WatchS.view] at e
        rw [e]
        by_cases e1 : x = code ((W.cl j).getD 1 0)
        · subst e1; rw [upd_self]
        · rw [upd_ne _ _ _ _ e1]
          by_cases e0 : x = code ((W.cl j).getD 0 0)
          · subst e0; rw [upd_self]
          · rw [upd_ne _ _ _ _ e0]
            cases hx : (W.wl x).testBit j with
            | false => rfl
            | true =>
              rcases (hv.ls x hx).2 with e | e
              · exact absurd e.symm e0
              · exact absurd e.symm e1
      simp [WatchS.view, upd_self, testBit_clr, hon]
  · rw [if_neg hj]
    have hj2 : ¬ id = j := fun e => hj e.symm
    by_cases hs : (W.fresh ||| W.weak).testBit id = true
    · simp only [if_pos hs]
      simp [WatchS.view, upd_ne _ _ _ _ hj, testBit_clr, hj2]
    · simp only [if_neg hs]
      have hu := unlink_view W id j
      rw [if_neg hj] at hu
      have hon := congrArg View.on hu
      simp only [WatchS.view] at hon
      simp only [WatchS.view, WatchS.unlink] at hon ⊢
      simp only [upd_ne _ _ _ _ hj, testBit_clr, hj2, decide_false, Bool.not_false, Bool.and_true]
      rw [hon]
theorem locked_of {T : TrailS} (hk : TrailOK T) {id : Nat} {l : Int} {i : Nat} (hat : At T i l id) : ∀ {c : List Int}, l ∈ c → lockedF T id c = true := by
  intro c
  induction c with
  | nil => intro h; simp at h
  | cons x r ih =>
    intro h
    rw [lockedF_cons]
    by_cases e : T.value x = 1 ∧ T.reason x.natAbs = id
    · rw [if_pos e]
    · rw [if_neg e]
      rcases List.mem_cons.1 h with q | q
      · subst q; exact absurd ⟨hat.val hk, hat.reason hk⟩ e
      · exact ih q
theorem locked_at {T : TrailS} (hk : TrailOK T) {id : Nat} : ∀ {c : List Int}, lockedF T id c = true → ∃ i l, At T i l id := by
  intro c
  induction c with
  | nil => intro h; simp [lockedF] at h
  | cons x r ih =>
    intro h
    rw [lockedF_cons] at h
    by_cases e : T.value x = 1 ∧ T.reason x.natAbs = id
    · obtain ⟨i, s, hi⟩ := val_at e.1
      have := hi.reason hk
      rw [e.2] at this; subst this
      exact ⟨i, x, hi⟩
    · rw [if_neg e] at h; exact ih h
theorem WT.drop {W : WatchS} {T : TrailS} (h : WT W T) {id : Nat} (hl : lockedF T id (W.cl id) = false) : WT (W.drop id) T := by
  have hcl : ∀ j, j ≠ id → (W.drop id).cl j = W.cl j := fun j hj => by rw [drop_cl, upd_ne _ _ _ _ hj]
  refine ⟨⟨fun j => ?_, fun j hj => ?_⟩, h.tk, ?_, fun j => ?_, fun d hd j hj => ?_⟩
  · rw [drop_view h.ws]
    split
    · exact ⟨by simp, by simp, by simp, by simp [View.sound], by simp, by simp⟩
    · exact h.ws.v j
  · rw [drop_used, Bool.and_eq_true] at hj; exact h.ws.lt j hj.1
  · intro i l r hi
    rcases h.rs i l r hi with e | ⟨q, e1, e2, e3, e4, e5⟩
    · exact .inl e
    · right
      have hne : q ≠ id := fun e => by
        subst e; subst e1
        rw [locked_of h.tk hi e4] at hl; simp at hl
      refine ⟨q, e1, by rw [drop_used, e2]; simp; omega, e3, ?_, ?_⟩
      · rw [hcl q hne]; exact e4
      · rw [hcl q hne]; exact e5
  · rw [drop_view h.ws]
    split
    · intro hs; simp [View.sound] at hs
    · exact h.sm j
  · rw [drop_used, Bool.and_eq_true] at hj
    have hne : j ≠ id := fun e => by subst e; simp at hj
    rw [hcl j hne]
    exact h.fx d hd j hj.1

/-! ### the fixpoint, and decide -/
/-- Behind the answer -1. -/
structure Done (W : WatchS) (T : TrailS) : Prop where
  cu : T.cursor = T.st.length
  dn : ∀ j, DoneAt W T j
theorem Done.fix {W : WatchS} {T : TrailS} (h : WT W T) (hd : Done W T) {j : Nat} (hj : W.used.testBit j = true) :
    (∃ l ∈ W.cl j, T.value l = 1) ∨ ∃ l ∈ W.cl j, ∃ m ∈ W.cl j, l ≠ m ∧ T.value l = 0 ∧ T.value m = 0 := by
  obtain ⟨d1, d2⟩ := hd.dn j hj
  by_cases hw : (W.view j).weak = true
  · exact .inl (d2 hw)
  · have hs : (W.view j).sound = true := by
      rw [View.sound_iff]; exact ⟨hj, d1, by simpa using hw⟩
    obtain ⟨s1, s2, s3⟩ := (h.ws.v j).sl hs
    obtain ⟨w1, w2⟩ := h.sm j hs
    have m0 : (W.view j).cl.getD 0 0 ∈ (W.view j).cl := getD_mem (by omega)
    have m1 : (W.view j).cl.getD 1 0 ∈ (W.view j).cl := getD_mem (by omega)
    change (W.view j).cl.getD 0 0 ∈ W.cl j at m0
    change (W.view j).cl.getD 1 0 ∈ W.cl j at m1
    have hne := dist_ne (h.ws.v j).dist (i := 0) (j := 1) (by omega) (by omega)
    generalize (W.view j).cl.getD 0 0 = a at *
    generalize (W.view j).cl.getD 1 0 = b at *
    have ha0 := ((good_iff a).1 ((h.ws.v j).gd a m0)).1
    have hb0 := ((good_iff b).1 ((h.ws.v j).gd b m1)).1
    have hgo : ∀ x y : Int, x ≠ 0 → Wat2 T T.cursor x y → T.value x = -1 → T.value y = 1 := by
      intro x y hx hwt hv
      obtain ⟨i, r, hi⟩ := valn_at hx hv
      rcases hwt i r hi with e | ⟨k, s, e1, e2⟩
      · have := hi.lt; rw [hd.cu] at e; omega
      · exact e2.val h.tk
    rcases value_bd T a with va | va | va
    · rcases value_bd T b with vb | vb | vb
      · exact .inr ⟨a, m0, b, m1, fun e => hne (by rw [e]), va, vb⟩
      · exact .inl ⟨b, m1, vb⟩
      · exact .inl ⟨a, m0, hgo b a hb0 w2 vb⟩
    · exact .inl ⟨a, m0, va⟩
    · exact .inl ⟨b, m1, hgo a b ha0 w1 va⟩
theorem at_decide {T : TrailS} {l : Int} {i : Nat} {m r : Int} (h : At (T.decide l) i m r) : At T i m r ∨ (i = T.st.length ∧ m = l ∧ r = -1) := at_push_old (T := T) (l := l) (r := -1) h
theorem at_decide_new {T : TrailS} (l : Int) : At (T.decide l) T.st.length l (-1) := at_push (T := T) l (-1)
theorem Ext.decide (T : TrailS) (l : Int) : Ext T (T.decide l) := ⟨[(l, -1)], rfl⟩
theorem WT.decide {W : WatchS} {T : TrailS} (h : WT W T) (hd : Done W T) {l : Int} (hg : good l = true) (hv : T.value l = 0) : WT W (T.decide l) := by
  have hold : ∀ i m r, At T i m r → At (T.decide l) i m r := fun i m r hi => hi.ext (Ext.decide T l)
  refine ⟨h.ws, ok_decide h.tk hg hv, ?_, fun j hs => ?_, fun d hd2 j hj => ?_⟩
  · intro i m r hi
    rcases at_decide hi with e | ⟨e1, e2, e3⟩
    · have hlt := e.lt
      rcases h.rs i m r e with ⟨q1, q2⟩ | ⟨id, q1, q2, q3, q4, q5⟩
      · exact .inl ⟨q1, List.mem_append_left _ q2⟩
      · refine .inr ⟨id, q1, q2, ?_, q4, fun x hx hne => ?_⟩
        · intro hm
          rcases List.mem_append.1 hm with q | q
          · exact q3 q
          · simp at q; omega
        · obtain ⟨k, s, w1, w2⟩ := q5 x hx hne
          exact ⟨k, s, w1, hold _ _ _ w2⟩
    · exact .inl ⟨e3, by rw [e1]; exact List.mem_append_right _ (by simp)⟩
  · obtain ⟨a, b⟩ := h.sm j hs
    exact ⟨a.push (Nat.le_of_eq hd.cu), b.push (Nat.le_of_eq hd.cu)⟩
  · rcases List.mem_append.1 hd2 with q | q
    · exact (h.fx d q j hj).ext (Ext.decide T l) (Nat.le_of_lt (h.tk.limlt d q))
    · simp at q; subst q
      rcases hd.fix h hj with ⟨x, hx, hv2⟩ | ⟨x, hx, y, hy, hne, v1, v2⟩
      · obtain ⟨i, r, hi⟩ := val_at hv2
        exact .inl ⟨x, hx, i, r, hi.lt, hold _ _ _ hi⟩
      · refine .inr ⟨x, hx, y, hy, hne, fun i m r hi e => ?_, fun i m r hi e => ?_⟩
        · rcases at_decide hi with q | ⟨q, _, _⟩
          · exact absurd e (val0_none v1 i m r q)
          · omega
        · rcases at_decide hi with q | ⟨q, _, _⟩
          · exact absurd e (val0_none v2 i m r q)
          · omega
end Go.Proofs.Qxb6500354aGreat
