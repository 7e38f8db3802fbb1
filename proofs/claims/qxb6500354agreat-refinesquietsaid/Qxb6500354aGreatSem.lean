/- PLAIN LAWS of propagation. -/
import Derived.Test.Qxb6500354aGreatWs
namespace Go.Proofs.Qxb6500354aGreat
set_option linter.unusedVariables false
set_option linter.unusedSimpArgs false

/-- Every entry of the trail is a decision, or has a live clause for its reason all of whose other literals were false ahead of it. -/
def Reas (W : WatchS) (T : TrailS) : Prop := ∀ i l r, At T i l r → (r = -1 ∧ i ∈ T.lims) ∨
  (∃ id : Nat, r = id ∧ W.used.testBit id = true ∧ i ∉ T.lims ∧ l ∈ W.cl id ∧ ∀ m ∈ W.cl id, m ≠ l → ∃ j s, j < i ∧ At T j (-m) s)
theorem Reas.perm {W V : WatchS} {T : TrailS} (h : Reas W T) (hu : V.used = W.used) (hp : ∀ j, (V.cl j).Perm (W.cl j)) : Reas V T := by
  intro i l r hi
  rcases h i l r hi with e | ⟨id, a, b, c, d, e⟩
  · exact .inl e
  · right
    refine ⟨id, a, by rw [hu]; exact b, c, (hp id).mem_iff.2 d, fun m hm => e m ((hp id).mem_iff.1 hm)⟩
/-- The watch a beside the watch b. -/
def Wat2 (T : TrailS) (cur : Nat) (a b : Int) : Prop := ∀ i r, At T i (-a) r → cur ≤ i ∨ ∃ j s, j < i ∧ At T j b s
def Sem (T : TrailS) (cur : Nat) (v : View) : Prop := v.sound = true → Wat2 T cur (v.cl.getD 0 0) (v.cl.getD 1 0) ∧ Wat2 T cur (v.cl.getD 1 0) (v.cl.getD 0 0)
def HasTrue (T : TrailS) (c : List Int) : Prop := ∃ l ∈ c, T.value l = 1
/-- a's condition, where a is not false. -/
theorem wat2_open {T : TrailS} (hk : TrailOK T) {cur : Nat} {a b : Int} (ha : a ≠ 0) (h : T.value a ≠ -1) : Wat2 T cur a b := by
  intro i r hi
  exfalso; apply h
  have := hi.valn hk
  simpa using this
theorem Wat2.lower {T : TrailS} {cur c2 : Nat} {a b : Int} (h : Wat2 T cur a b) (hc : c2 ≤ cur) : Wat2 T c2 a b := fun i r hi => (h i r hi).imp (fun x => by omega) id
theorem Wat2.push {T : TrailS} {cur : Nat} {a b l r : Int} (h : Wat2 T cur a b) (hc : cur ≤ T.st.length) : Wat2 (T.push l r) cur a b := by
  intro i s hi
  rcases at_push_old hi with e | ⟨e, _, _⟩
  · rcases h i s e with q | ⟨j, t, q1, q2⟩
    · exact .inl q
    · exact .inr ⟨j, t, q1, q2.ext (Ext.push T l r)⟩
  · left; omega
theorem assign_eq {T : TrailS} (l r : Int) : (T.value l = 0 ∧ T.assign l r = T.push l r) ∨ (T.value l ≠ 0 ∧ T.assign l r = T) := by
  unfold TrailS.assign
  by_cases h : T.value l = 0
  · left; exact ⟨h, if_pos h⟩
  · right; exact ⟨h, if_neg h⟩
theorem Sem.assign {T : TrailS} {cur : Nat} {v : View} (h : Sem T cur v) (l r : Int) (hc : cur ≤ T.st.length) : Sem (T.assign l r) cur v := by
  rcases assign_eq (T := T) l r with ⟨_, e⟩ | ⟨_, e⟩
  · rw [e]; intro hs; exact ⟨(h hs).1.push hc, (h hs).2.push hc⟩
  · rw [e]; exact h
theorem Sem.lower {T : TrailS} {cur c2 : Nat} {v : View} (h : Sem T cur v) (hc : c2 ≤ cur) : Sem T c2 v := fun hs => ⟨(h hs).1.lower hc, (h hs).2.lower hc⟩

/-- What the trail gets by an assignment whose clause is unit. -/
theorem assign_step {W : WatchS} {T : TrailS} (hk : TrailOK T) (hr : Reas W T) {id : Nat} {l : Int} (hu : W.used.testBit id = true) (hg : ∀ x ∈ W.cl id, good x = true) (hl : l ∈ W.cl id)
    (hv : T.value l ≠ -1) (ho : ∀ m ∈ W.cl id, m ≠ l → T.value m = -1) :
    TrailOK (T.assign l id) ∧ Reas W (T.assign l id) ∧ Ext T (T.assign l id) ∧ (T.assign l id).lims = T.lims ∧ (T.assign l id).cursor = T.cursor ∧ (T.assign l id).value l = 1 := by
  rcases assign_eq (T := T) l id with ⟨h0, e⟩ | ⟨h0, e⟩
  · rw [e]
    have hk2 : TrailOK (T.push l id) := ok_push hk (hg l hl) h0
    refine ⟨hk2, ?_, Ext.push T l id, rfl, rfl, (at_push l id).val hk2⟩
    intro i m s hi
    rcases at_push_old hi with q | ⟨q1, q2, q3⟩
    · rcases hr i m s q with a | ⟨id2, a, b, c, d, f⟩
      · exact .inl a
      · right
        refine ⟨id2, a, b, c, d, fun x hx hne => ?_⟩
        obtain ⟨j, t, z1, z2⟩ := f x hx hne
        exact ⟨j, t, z1, z2.ext (Ext.push T l id)⟩
    · right
      subst q1 q2 q3
      refine ⟨id, rfl, hu, ?_, hl, ?_⟩
      · intro hm
        have := hk.limlt _ hm
        omega
      · intro x hx hne
        obtain ⟨j, t, z⟩ := valn_at ((good_iff _).1 (hg x hx)).1 (ho x hx hne)
        exact ⟨j, t, z.lt, z.ext (Ext.push T _ _)⟩
  · rw [e]
    exact ⟨hk, hr, Ext.refl T, rfl, rfl, by have := value_bd T l; omega⟩

/-- Between W0, T0 and W, T there was nothing but visits. -/
structure PI (W0 : WatchS) (T0 : TrailS) (W : WatchS) (T : TrailS) : Prop where
  ws : WS W
  tk : TrailOK T
  us : W.used = W0.used
  pm : ∀ j, (W.cl j).Perm (W0.cl j)
  ex : Ext T0 T
  lm : T.lims = T0.lims
  rs : Reas W T
  sm : ∀ j, Sem T T.cursor (W.view j)

theorem len12 {c : List Int} (hg : ∀ x ∈ c, good x = true) (hd : (c.map Int.natAbs).Nodup) : c.length ≤ 12 := by
  have h1 := nodup_len 13 (0 :: c.map Int.natAbs) (by
    rw [List.nodup_cons]; refine ⟨?_, hd⟩
    intro hm
    obtain ⟨x, hx, e⟩ := List.mem_map.1 hm
    have := (good_iff _).1 (hg x hx); omega) (by
    intro y hy
    rcases List.mem_cons.1 hy with e | e
    · omega
    · obtain ⟨x, hx, e⟩ := List.mem_map.1 e
      have := (good_iff _).1 (hg x hx); omega)
  simpa using h1
theorem WSv.len {v : View} (h : WSv v) : v.cl.length ≤ 12 := len12 h.gd h.dist
/-- The view of one clause turned into another one in good order. -/
theorem WSv.cl {v : View} (h : WSv v) {c : List Int} (hp : c.Perm v.cl) : (∀ l ∈ c, good l = true) ∧ (c.map Int.natAbs).Nodup :=
  ⟨fun l hl => h.gd l (hp.mem_iff.1 hl), (hp.map Int.natAbs).nodup_iff.2 h.dist⟩
theorem WSv.off {v : View} (h : WSv v) (hs : v.sound = false) : ∀ c, v.on c = false := by
  intro c
  cases e : v.on c with
  | false => rfl
  | true => have := (h.ls c e).1; rw [hs] at this; exact this.symm
theorem WSv.unsound {v : View} (h : WSv v) (hu : v.used = true) (hs : v.sound = false) {c : List Int} (hp : c.Perm v.cl) : WSv ⟨c, v.used, false, true, v.on⟩ := by
  have hc := h.cl hp
  refine ⟨by simp, fun _ => hu, ?_, ?_, hc.1, hc.2⟩
  · intro x hx; exfalso
    have := h.off hs x
    simp only [] at hx; rw [this] at hx; simp at hx
  · intro e; simp [View.sound] at e
theorem WSv.sounded {v : View} (h : WSv v) (hu : v.used = true) (hs : v.sound = false) {c : List Int} (hp : c.Perm v.cl) (h2 : 2 ≤ c.length) :
    WSv ⟨c, v.used, false, false, upd (upd v.on (code (c.getD 0 0)) true) (code (c.getD 1 0)) true⟩ := by
  have hc := h.cl hp
  refine ⟨by simp, by simp, ?_, ?_, hc.1, hc.2⟩
  · intro x hx
    refine ⟨by simp [View.sound, hu], ?_⟩
    simp only [upd] at hx ⊢
    by_cases e1 : x = code (c.getD 1 0)
    · exact .inr e1.symm
    · rw [if_neg e1] at hx
      by_cases e0 : x = code (c.getD 0 0)
      · exact .inl e0.symm
      · rw [if_neg e0, h.off hs] at hx; simp at hx
  · intro _
    refine ⟨h2, ?_, ?_⟩ <;> simp [upd]

theorem WS.one {W V : WatchS} {id : Nat} (h : WS W) (hu : V.used = W.used) (ho : ∀ j, j ≠ id → V.view j = W.view j) (hv : WSv (V.view id)) : WS V := by
  refine ⟨fun j => ?_, fun j hj => h.lt j (by rw [← hu]; exact hj)⟩
  by_cases e : j = id
  · rw [e]; exact hv
  · rw [ho j e]; exact h.v j
theorem pm_one {W0 W V : WatchS} {id : Nat} (h : ∀ j, (W.cl j).Perm (W0.cl j)) (ho : ∀ j, j ≠ id → V.view j = W.view j) (hv : (V.cl id).Perm (W.cl id)) : ∀ j, (V.cl j).Perm (W0.cl j) := by
  intro j
  by_cases e : j = id
  · rw [e]; exact hv.trans (h id)
  · have := congrArg View.cl (ho j e); simp only [WatchS.view] at this; rw [this]; exact h j

/-- look's step. -/
theorem PI.look {W0 W : WatchS} {T0 T : TrailS} {id : Nat} (h : PI W0 T0 W T) (hu : W.used.testBit id = true) (hs : (W.view id).sound = false) :
    PI W0 T0 (lookF W T id).2.1 (lookF W T id).2.2 ∧ (lookF W T id).2.2.cursor = T.cursor ∧ Ext T (lookF W T id).2.2 ∧ ((lookF W T id).2.1.view id).fresh = false ∧
    ((0 ≤ (lookF W T id).1 ∧ (lookF W T id).1 = id ∧ ∀ l ∈ (lookF W T id).2.1.cl id, (lookF W T id).2.2.value l = -1) ∨
     ((lookF W T id).1 = -1 ∧ (((lookF W T id).2.1.view id).weak = true → HasTrue (lookF W T id).2.2 ((lookF W T id).2.1.cl id)))) := by
  have hwv := h.ws.v id
  have hlen := hwv.len
  simp only [WatchS.view] at hlen
  obtain ⟨c, hp, ho⟩ := look_out W T id (by omega)
  have hus := look_used W T id
  have hoth := fun j (hj : j ≠ id) => look_other W T id hj
  generalize lookF W T id = r at *
  have hvc : ∀ v : View, r.2.1.view id = v → r.2.1.cl id = v.cl := fun v e => congrArg View.cl e
  have hcg := hwv.cl (c := c) hp
  have hcne : ∀ i, i < c.length → c.getD i 0 ≠ 0 := fun i hi => ((good_iff _).1 (hcg.1 _ (getD_mem hi))).1
  have hsm0 : ∀ j, j ≠ id → Sem T T.cursor (r.2.1.view j) := fun j hj => by rw [hoth j hj]; exact h.sm j
  rcases ho with ⟨h2, n0, n1, e1, eT, ev⟩ | ⟨hf, e1, eT, ev⟩ | ⟨h1, n0, hf, e1, eT, ev⟩
  · have hw : WSv (r.2.1.view id) := by rw [ev]; exact hwv.sounded hu hs hp h2
    rw [eT]
    refine ⟨⟨h.ws.one hus hoth hw, h.tk, hus.trans h.us, pm_one h.pm hoth (by rw [hvc _ ev]; exact hp), h.ex, h.lm, h.rs.perm hus (pm_one (fun j => .refl _) hoth (by rw [hvc _ ev]; exact hp)), ?_⟩, rfl, Ext.refl T, by rw [ev], .inr ⟨e1, by rw [ev]; simp⟩⟩
    intro j
    by_cases hj : j = id
    · rw [hj, ev]
      intro _
      exact ⟨wat2_open h.tk (hcne 0 (by omega)) n0, wat2_open h.tk (hcne 1 (by omega)) n1⟩
    · exact hsm0 j hj
  · have hw : WSv (r.2.1.view id) := by rw [ev]; exact hwv.unsound hu hs hp
    rw [eT]
    refine ⟨⟨h.ws.one hus hoth hw, h.tk, hus.trans h.us, pm_one h.pm hoth (by rw [hvc _ ev]; exact hp), h.ex, h.lm, h.rs.perm hus (pm_one (fun j => .refl _) hoth (by rw [hvc _ ev]; exact hp)), ?_⟩, rfl, Ext.refl T, by rw [ev], .inl ⟨by omega, e1, by rw [hvc _ ev]; exact hf⟩⟩
    intro j
    by_cases hj : j = id
    · rw [hj, ev]; intro e; simp [View.sound] at e
    · exact hsm0 j hj
  · have hw : WSv (r.2.1.view id) := by rw [ev]; exact hwv.unsound hu hs hp
    have hpm := pm_one (W0 := W) (W := W) (V := r.2.1) (fun j => .refl _) hoth (by rw [hvc _ ev]; exact hp)
    have hrs := h.rs.perm hus hpm
    have hcl : r.2.1.cl id = c := hvc _ ev
    have hm0 : c.getD 0 0 ∈ c := getD_mem (by omega)
    obtain ⟨a1, a2, a3, a4, a5, a6⟩ := assign_step (W := r.2.1) (id := id) (l := c.getD 0 0) h.tk hrs (by rw [hus]; exact hu) (by rw [hcl]; exact hcg.1) (by rw [hcl]; exact hm0) n0 (by
      intro m hm hne
      rw [hcl] at hm
      obtain ⟨j, hj, e⟩ := mem_getD hm
      by_cases j0 : j = 0
      · subst j0; exact absurd e.symm hne
      · rw [← e]; exact hf j (by omega) hj)
    rw [eT]
    refine ⟨⟨h.ws.one hus hoth hw, a1, hus.trans h.us, pm_one h.pm hoth (by rw [hcl]; exact hp), h.ex.trans a3, a4.trans h.lm, a2, ?_⟩, a5, a3, by rw [ev], .inr ⟨e1, fun _ => ⟨c.getD 0 0, by rw [hcl]; exact hm0, a6⟩⟩⟩
    intro j
    rw [a5]
    by_cases hj : j = id
    · rw [hj, ev]; intro e; simp [View.sound] at e
    · exact (hsm0 j hj).assign _ _ h.tk.cur
theorem HasTrue.ext {T U : TrailS} {c d : List Int} (h : HasTrue T c) (he : Ext T U) (hk : TrailOK U) (hp : ∀ l ∈ c, l ∈ d) : HasTrue U d :=
  let ⟨l, a, b⟩ := h; ⟨l, hp l a, he.val hk b⟩

/-- The conflict: a live clause whose literals are all false. -/
def Conf (W : WatchS) (T : TrailS) (r : Int) : Prop := ∃ id : Nat, r = id ∧ W.used.testBit id = true ∧ ∀ l ∈ W.cl id, T.value l = -1
def DoneAt (W : WatchS) (T : TrailS) (j : Nat) : Prop := W.used.testBit j = true → (W.view j).fresh = false ∧ ((W.view j).weak = true → HasTrue T (W.cl j))

theorem wake_law {W0 : WatchS} {T0 : TrailS} (todo : Nat) : ∀ (n i : Nat) (W : WatchS) (T : TrailS), n + i = 52 → PI W0 T0 W T →
    (∀ j, i ≤ j → todo.testBit j = true → W.used.testBit j = true ∧ (W.view j).sound = false) → (∀ j, todo.testBit j = false ∨ j < i → DoneAt W T j) →
    PI W0 T0 (wakeF todo n i W T).2.1 (wakeF todo n i W T).2.2 ∧ (wakeF todo n i W T).2.2.cursor = T.cursor ∧
    (Conf (wakeF todo n i W T).2.1 (wakeF todo n i W T).2.2 (wakeF todo n i W T).1 ∨ ((wakeF todo n i W T).1 = -1 ∧ ∀ j, DoneAt (wakeF todo n i W T).2.1 (wakeF todo n i W T).2.2 j)) := by
  intro n
  induction n with
  | zero =>
    intro i W T hi hp ht hd
    show PI W0 T0 W T ∧ T.cursor = T.cursor ∧ (Conf W T (-1) ∨ ((-1 : Int) = -1 ∧ ∀ j, DoneAt W T j))
    refine ⟨hp, rfl, .inr ⟨rfl, fun j hu => ?_⟩⟩
    exact hd j (.inr (by have := hp.ws.lt j hu; omega)) hu
  | succ n ih =>
    intro i W T hi hp ht hd
    rw [wakeF_succ]
    by_cases hb : todo.testBit i = true
    · rw [if_pos hb]
      obtain ⟨hu, hs⟩ := ht i (Nat.le_refl _) hb
      obtain ⟨p1, p2, p3, p4, p5⟩ := hp.look hu hs
      have hus := look_used W T i
      have hoth := fun j (hj : j ≠ i) => look_other W T i hj
      rcases p5 with ⟨q0, q1, q2⟩ | ⟨q1, q2⟩
      · rw [if_pos q0]
        exact ⟨p1, p2, .inl ⟨i, q1, by rw [hus]; exact hu, q2⟩⟩
      · rw [if_neg (by omega)]
        have := ih (i + 1) _ _ (by omega) p1 (fun j a b => by
            rw [hoth j (by omega), hus]; exact ht j (by omega) b) (fun j a hju => by
            by_cases e : j = i
            · rw [e]; exact ⟨p4, q2⟩
            · have hcl : (lookF W T i).2.1.cl j = W.cl j := congrArg View.cl (hoth j e)
              rw [hoth j e, hcl]
              have := hd j (a.imp id (fun x => by omega)) (by rw [← hus]; exact hju)
              exact ⟨this.1, fun x => (this.2 x).ext p3 p1.tk (fun l hl => hl)⟩)
        rw [p2] at this
        exact this
    · rw [if_neg hb]
      have hb2 : todo.testBit i = false := by simpa using hb
      exact ih (i + 1) W T (by omega) hp (fun j a b => ht j (by omega) b) (fun j a => by
        by_cases e : j = i
        · rw [e]; exact hd i (.inl hb2)
        · exact hd j (a.imp id (fun x => by omega)))
end Go.Proofs.Qxb6500354aGreat
