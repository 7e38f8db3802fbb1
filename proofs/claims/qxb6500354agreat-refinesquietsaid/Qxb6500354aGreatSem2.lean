/- PLAIN LAWS of propagation: visit, through, drain, Propagate. -/
import Derived.Test.Qxb6500354aGreatSem
namespace Go.Proofs.Qxb6500354aGreat
set_option linter.unusedVariables false
set_option linter.unusedSimpArgs false

theorem code_eq {l m : Int} (hl : l ≠ 0) (h : code l = code m) : l = m := by
  unfold code at h; split at h <;> split at h <;> omega
theorem PI.visit {W0 W : WatchS} {T0 T : TrailS} {id : Nat} {p s : Int} (h : PI W0 T0 W T) (hs : (W.view id).sound = true) (hpl : (W.cl id).getD 0 0 = -p ∨ (W.cl id).getD 1 0 = -p)
    (hat : At T T.cursor p s) :
    PI W0 T0 (visitF W T id p).2.1 (visitF W T id p).2.2 ∧ (visitF W T id p).2.2.cursor = T.cursor ∧ Ext T (visitF W T id p).2.2 ∧ ((visitF W T id p).2.1.view id).fresh = false ∧
    Sem (visitF W T id p).2.2 (T.cursor + 1) ((visitF W T id p).2.1.view id) ∧
    ((0 ≤ (visitF W T id p).1 ∧ (visitF W T id p).1 = id ∧ ∀ l ∈ (visitF W T id p).2.1.cl id, (visitF W T id p).2.2.value l = -1) ∨
     ((visitF W T id p).1 = -1 ∧ (((visitF W T id p).2.1.view id).weak = true → HasTrue (visitF W T id p).2.2 ((visitF W T id p).2.1.cl id)))) := by
  have hwv := h.ws.v id
  have hsl := hwv.sl hs
  have hso := (View.sound_iff _).1 hs
  have hu : W.used.testBit id = true := hso.1
  obtain ⟨c, hp, hc1, hcc, ho⟩ := visit_out W T id p hsl.1 hpl
  have hus := visit_used W T id p
  have hoth := fun j (hj : j ≠ id) => visit_other W T id p hj
  have hsem := h.sm id hs
  generalize visitF W T id p = r at *
  have hvc : ∀ v : View, r.2.1.view id = v → r.2.1.cl id = v.cl := fun v e => congrArg View.cl e
  have hcg := hwv.cl (c := c) hp
  have hlen : c.length = (W.cl id).length := hp.length_eq
  have h2 : 2 ≤ (W.cl id).length := hsl.1
  have hcne : ∀ i, i < c.length → c.getD i 0 ≠ 0 := fun i hi => ((good_iff _).1 (hcg.1 _ (getD_mem hi))).1
  have h01 : (c.getD 0 0).natAbs ≠ (c.getD 1 0).natAbs := dist_ne hcg.2 (by omega) (by omega)
  have hpv : T.value (c.getD 1 0) = -1 := by rw [hc1]; exact hat.valn h.tk
  have hpne := hat.ne h.tk
  have hsm0 : ∀ j, j ≠ id → Sem T T.cursor (r.2.1.view j) := fun j hj => by rw [hoth j hj]; exact h.sm j
  have hs1 : Wat2 T T.cursor (c.getD 0 0) (c.getD 1 0) := by
    rcases hcc with ⟨a, b⟩ | ⟨a, b⟩
    · rw [a, b]; exact hsem.1
    · rw [a, b]; exact hsem.2
  have hon0 : (W.view id).on (code (c.getD 0 0)) = true ∧ (W.view id).on (code (c.getD 1 0)) = true := by
    rcases hcc with ⟨a, b⟩ | ⟨a, b⟩
    · rw [a, b]; exact hsl.2
    · rw [a, b]; exact ⟨hsl.2.2, hsl.2.1⟩
  have hls : ∀ x, (W.view id).on x = true → x = code (c.getD 0 0) ∨ x = code (c.getD 1 0) := by
    intro x hx
    have := (hwv.ls x hx).2
    simp only [WatchS.view] at this
    rcases hcc with ⟨a, b⟩ | ⟨a, b⟩
    · rw [a, b]; exact this.imp Eq.symm Eq.symm
    · rw [a, b]; exact (this.imp Eq.symm Eq.symm).symm
  have hcode : code (c.getD 0 0) ≠ code (c.getD 1 0) := fun e => h01 (code_inj e)
  rcases ho with ⟨v1, pl, eT, ev⟩ | ⟨d, l, hd, d0, d1, vl, eT, ev⟩ | ⟨nA, hf, ev, eT⟩
  · have hw : WSv (r.2.1.view id) := by
      rw [ev]
      exact ⟨hwv.fu, hwv.wu, fun x hx => ⟨hs, (hls x hx).imp Eq.symm Eq.symm⟩, fun _ => ⟨by show 2 ≤ c.length; omega, hon0⟩, hcg.1, hcg.2⟩
    have hcl := hvc _ ev
    have e1 : r.1 = -1 := congrArg (·.1) eT
    have e2 : r.2.2 = T := congrArg (·.2.2) eT
    rw [e2]
    have hsem2 : Sem T (T.cursor + 1) (r.2.1.view id) := by
      rw [ev]
      intro _
      refine ⟨wat2_open h.tk (hcne 0 (by omega)) (by show T.value (c.getD 0 0) ≠ -1; omega), ?_⟩
      intro i t hi
      have hi2 : At T i p t := by
        have : -(c.getD 1 0) = p := by rw [hc1]; omega
        rw [← this]; exact hi
      have ei : i = T.cursor := hi2.inj h.tk hat rfl
      right
      obtain ⟨j, t2, hj⟩ := val_at v1
      have p1 := hj.place h.tk
      have p2 := hat.place h.tk
      exact ⟨j, t2, by omega, hj⟩
    refine ⟨⟨h.ws.one hus hoth hw, h.tk, hus.trans h.us, pm_one h.pm hoth (by rw [hcl]; exact hp), h.ex, h.lm, h.rs.perm hus (pm_one (fun j => .refl _) hoth (by rw [hcl]; exact hp)), ?_⟩, rfl, Ext.refl T, by rw [ev]; exact hso.2.1, hsem2, .inr ⟨e1, by rw [ev]; intro x; exact absurd x (by rw [hso.2.2]; simp)⟩⟩
    intro j
    by_cases hj : j = id
    · rw [hj]; exact hsem2.lower (by omega)
    · exact hsm0 j hj
  · have hdg := hwv.cl (c := d) hd
    have hdl : d.length = (W.cl id).length := hd.length_eq
    have hw : WSv (r.2.1.view id) := by
      rw [ev]
      refine ⟨hwv.fu, hwv.wu, ?_, ?_, hdg.1, hdg.2⟩
      · intro x hx
        refine ⟨hs, ?_⟩
        simp only [upd] at hx ⊢
        by_cases q1 : x = code l
        · right; rw [d1]; exact q1.symm
        · rw [if_neg q1] at hx
          by_cases q2 : x = code (-p)
          · rw [if_pos q2] at hx; simp at hx
          · rw [if_neg q2] at hx
            left; rw [d0]
            rcases hls x hx with q | q
            · exact q.symm
            · rw [hc1] at q; exact absurd q q2
      · intro _
        refine ⟨by show 2 ≤ d.length; omega, ?_, ?_⟩
        · simp only [upd, d0]
          split
          · rfl
          · rw [if_neg (by rw [← hc1]; exact hcode)]; exact hon0.1
        · simp only [upd, d1]; simp
    have hcl := hvc _ ev
    have e1 : r.1 = -1 := congrArg (·.1) eT
    have e2 : r.2.2 = T := congrArg (·.2.2) eT
    rw [e2]
    have hsem2 : Sem T (T.cursor + 1) (r.2.1.view id) := by
      rw [ev]
      intro _
      simp only []
      rw [d0, d1]
      refine ⟨?_, wat2_open h.tk (by rw [← d1]; exact ((good_iff _).1 (hdg.1 _ (getD_mem (by omega)))).1) vl⟩
      intro i t hi
      left
      rcases hs1 i t hi with q | ⟨j, t2, q1, q2⟩
      · by_cases e : i = T.cursor
        · subst e
          have := (hi.eq hat).1
          exfalso; apply h01; rw [hc1]; omega
        · omega
      · exfalso
        have := q2.inj h.tk hat (by rw [hc1]; omega)
        subst this
        have := (q2.eq hat).1
        rw [hc1] at this; omega
    refine ⟨⟨h.ws.one hus hoth hw, h.tk, hus.trans h.us, pm_one h.pm hoth (by rw [hcl]; exact hd), h.ex, h.lm, h.rs.perm hus (pm_one (fun j => .refl _) hoth (by rw [hcl]; exact hd)), ?_⟩, rfl, Ext.refl T, by rw [ev]; exact hso.2.1, hsem2, .inr ⟨e1, by rw [ev]; intro x; exact absurd x (by rw [hso.2.2]; simp)⟩⟩
    intro j
    by_cases hj : j = id
    · rw [hj]; exact hsem2.lower (by omega)
    · exact hsm0 j hj
  · have hw : WSv (r.2.1.view id) := by
      rw [ev]
      refine ⟨hwv.fu, fun _ => hu, ?_, ?_, hcg.1, hcg.2⟩
      · intro x hx
        exfalso
        simp only [upd] at hx
        by_cases q1 : x = code (c.getD 1 0)
        · rw [if_pos q1] at hx; simp at hx
        · rw [if_neg q1] at hx
          by_cases q0 : x = code (c.getD 0 0)
          · rw [if_pos q0] at hx; simp at hx
          · rw [if_neg q0] at hx
            exact (hls x hx).elim q0 q1
      · intro e; simp [View.sound] at e
    have hcl : r.2.1.cl id = c := hvc _ ev
    have hpm := pm_one (W0 := W) (W := W) (V := r.2.1) (fun j => .refl _) hoth (by rw [hcl]; exact hp)
    have hrs := h.rs.perm hus hpm
    have hpm0 := pm_one h.pm hoth (by rw [hcl]; exact hp)
    have hsemid : ∀ U k, Sem U k (r.2.1.view id) := by intro U k e; rw [ev] at e; simp [View.sound] at e
    have hm0 : c.getD 0 0 ∈ c := getD_mem (by omega)
    have hoth2 : ∀ m ∈ c, m ≠ c.getD 0 0 → T.value m = -1 := by
      intro m hm hne
      obtain ⟨j, hj, e⟩ := mem_getD hm
      by_cases j0 : j = 0
      · subst j0; exact absurd e.symm hne
      · by_cases j1 : j = 1
        · subst j1; rw [← e]; exact hpv
        · rw [← e]; exact hf j (by omega) hj
    rcases eT with ⟨v, eT⟩ | ⟨v, eT⟩ | ⟨v, eT⟩
    · have e1 : r.1 = id := congrArg (·.1) eT
      have e2 : r.2.2 = T := congrArg (·.2.2) eT
      rw [e2]
      refine ⟨⟨h.ws.one hus hoth hw, h.tk, hus.trans h.us, hpm0, h.ex, h.lm, hrs, ?_⟩, rfl, Ext.refl T, by rw [ev]; exact hso.2.1, hsemid _ _, .inl ⟨by omega, e1, ?_⟩⟩
      · intro j
        by_cases hj : j = id
        · rw [hj]; exact hsemid _ _
        · exact hsm0 j hj
      · rw [hcl]; intro l hl
        by_cases e : l = c.getD 0 0
        · rw [e]; exact v
        · exact hoth2 l hl e
    · have e1 : r.1 = -1 := congrArg (·.1) eT
      have e2 : r.2.2 = T.assign (c.getD 0 0) id := congrArg (·.2.2) eT
      obtain ⟨a1, a2, a3, a4, a5, a6⟩ := assign_step (W := r.2.1) (id := id) (l := c.getD 0 0) h.tk hrs (by rw [hus]; exact hu) (by rw [hcl]; exact hcg.1) (by rw [hcl]; exact hm0) (by omega) (by rw [hcl]; exact hoth2)
      rw [e2]
      refine ⟨⟨h.ws.one hus hoth hw, a1, hus.trans h.us, hpm0, h.ex.trans a3, a4.trans h.lm, a2, ?_⟩, a5, a3, by rw [ev]; exact hso.2.1, hsemid _ _, .inr ⟨e1, fun _ => ⟨c.getD 0 0, by rw [hcl]; exact hm0, a6⟩⟩⟩
      intro j
      rw [a5]
      by_cases hj : j = id
      · rw [hj]; exact hsemid _ _
      · exact (hsm0 j hj).assign _ _ h.tk.cur
    · have e1 : r.1 = -1 := congrArg (·.1) eT
      have e2 : r.2.2 = T := congrArg (·.2.2) eT
      rw [e2]
      refine ⟨⟨h.ws.one hus hoth hw, h.tk, hus.trans h.us, hpm0, h.ex, h.lm, hrs, ?_⟩, rfl, Ext.refl T, by rw [ev]; exact hso.2.1, hsemid _ _, .inr ⟨e1, fun _ => ⟨c.getD 0 0, by rw [hcl]; exact hm0, v⟩⟩⟩
      intro j
      by_cases hj : j = id
      · rw [hj]; exact hsemid _ _
      · exact hsm0 j hj

theorem through_law {W0 : WatchS} {T0 : TrailS} (p s : Int) (todo cur : Nat) : ∀ (n i : Nat) (W : WatchS) (T : TrailS), n + i = 52 → PI W0 T0 W T → T.cursor = cur → At T cur p s →
    (∀ j, i ≤ j → todo.testBit j = true → (W.view j).sound = true ∧ ((W.cl j).getD 0 0 = -p ∨ (W.cl j).getD 1 0 = -p)) →
    (∀ j, todo.testBit j = false ∨ j < i → Sem T (cur + 1) (W.view j)) → (∀ j, DoneAt W T j) →
    PI W0 T0 (throughF p todo n i W T).2.1 (throughF p todo n i W T).2.2 ∧ (throughF p todo n i W T).2.2.cursor = cur ∧ At (throughF p todo n i W T).2.2 cur p s ∧
    (Conf (throughF p todo n i W T).2.1 (throughF p todo n i W T).2.2 (throughF p todo n i W T).1 ∨ ((throughF p todo n i W T).1 = -1 ∧
      (∀ j, Sem (throughF p todo n i W T).2.2 (cur + 1) ((throughF p todo n i W T).2.1.view j)) ∧ ∀ j, DoneAt (throughF p todo n i W T).2.1 (throughF p todo n i W T).2.2 j)) := by
  intro n
  induction n with
  | zero =>
    intro i W T hi hp hc hat ht hsm hd
    show PI W0 T0 W T ∧ T.cursor = cur ∧ At T cur p s ∧ (Conf W T (-1) ∨ ((-1 : Int) = -1 ∧ (∀ j, Sem T (cur + 1) (W.view j)) ∧ ∀ j, DoneAt W T j))
    refine ⟨hp, hc, hat, .inr ⟨rfl, fun j => ?_, hd⟩⟩
    by_cases hj : j < i
    · exact hsm j (.inr hj)
    · intro e
      have := hp.ws.lt j ((View.sound_iff _).1 e).1
      omega
  | succ n ih =>
    intro i W T hi hp hc hat ht hsm hd
    rw [throughF_succ]
    by_cases hb : todo.testBit i = true
    · rw [if_pos hb]
      obtain ⟨hs, hpl⟩ := ht i (Nat.le_refl _) hb
      obtain ⟨p1, p2, p3, p4, p5, p6⟩ := hp.visit hs hpl (by rw [hc]; exact hat)
      have hus := visit_used W T i p
      have hoth := fun j (hj : j ≠ i) => visit_other W T i p hj
      rw [hc] at p2 p5
      rcases p6 with ⟨q0, q1, q2⟩ | ⟨q1, q2⟩
      · rw [if_pos q0]
        exact ⟨p1, p2, hat.ext p3, .inl ⟨i, q1, by rw [hus]; exact ((View.sound_iff _).1 hs).1, q2⟩⟩
      · rw [if_neg (by omega)]
        refine ih (i + 1) _ _ (by omega) p1 p2 (hat.ext p3) (fun j a b => ?_) (fun j a => ?_) (fun j hju => ?_)
        · have hcl : (visitF W T i p).2.1.cl j = W.cl j := congrArg View.cl (hoth j (by omega))
          rw [hoth j (by omega), hcl]; exact ht j (by omega) b
        · by_cases e : j = i
          · rw [e]; exact p5
          · rw [hoth j e]
            have h0 := hsm j (a.imp id (fun x => by omega))
            intro hso
            obtain ⟨w1, w2⟩ := h0 hso
            obtain ⟨e2, he2⟩ := p3
            have hgo : ∀ a b : Int, Wat2 T (cur + 1) a b → Wat2 (visitF W T i p).2.2 (cur + 1) a b := by
              intro a b hw k r hk
              by_cases hkl : k < T.st.length
              · have hk2 : At T k (-a) r := by
                  unfold At at hk ⊢; rw [he2, List.getElem?_append_left hkl] at hk; exact hk
                exact (hw k r hk2).imp id (fun ⟨j2, t, z1, z2⟩ => ⟨j2, t, z1, z2.ext ⟨e2, he2⟩⟩)
              · left; have := hat.lt; omega
            exact ⟨hgo _ _ w1, hgo _ _ w2⟩
        · by_cases e : j = i
          · rw [e]; exact ⟨p4, q2⟩
          · have hcl : (visitF W T i p).2.1.cl j = W.cl j := congrArg View.cl (hoth j e)
            rw [hoth j e, hcl]
            have := hd j (by rw [← hus]; exact hju)
            exact ⟨this.1, fun x => (this.2 x).ext p3 p1.tk (fun l hl => hl)⟩
    · rw [if_neg hb]
      have hb2 : todo.testBit i = false := by simpa using hb
      exact ih (i + 1) W T (by omega) hp hc hat (fun j a b => ht j (by omega) b) (fun j a => by
        by_cases e : j = i
        · rw [e]; exact hsm i (.inl hb2)
        · exact hsm j (a.imp id (fun x => by omega))) hd

theorem TrailOK.len {T : TrailS} (h : TrailOK T) : T.st.length ≤ 12 := by
  have h1 := nodup_len 13 (0 :: T.st.map fun p => p.1.natAbs) (by
    rw [List.nodup_cons]; refine ⟨?_, h.dist⟩
    intro hm
    obtain ⟨x, hx, e⟩ := List.mem_map.1 hm
    have := (good_iff _).1 (h.gd x hx); omega) (by
    intro y hy
    rcases List.mem_cons.1 hy with e | e
    · omega
    · obtain ⟨x, hx, e⟩ := List.mem_map.1 e
      have := (good_iff _).1 (h.gd x hx); omega)
  simpa using h1
theorem take1_eq {T : TrailS} (h : T.cursor < T.st.length) : T.take1 = { T with cursor := T.cursor + 1 } := by unfold TrailS.take1; rw [if_pos h]
theorem drainF_succ (n : Nat) (W : WatchS) (T : TrailS) : drainF (n + 1) W T = if T.cursor < T.st.length then (if 0 ≤ (throughF (T.litAt T.cursor) (W.wl (code (-T.litAt T.cursor))) 52 0 W T).1 then throughF (T.litAt T.cursor) (W.wl (code (-T.litAt T.cursor))) 52 0 W T else drainF n (throughF (T.litAt T.cursor) (W.wl (code (-T.litAt T.cursor))) 52 0 W T).2.1 (throughF (T.litAt T.cursor) (W.wl (code (-T.litAt T.cursor))) 52 0 W T).2.2.take1) else (-1, W, T) := rfl
theorem Conf.ge {W : WatchS} {T : TrailS} {r : Int} (h : Conf W T r) : 0 ≤ r := by obtain ⟨id, e, _⟩ := h; omega
/-- The clauses that watch -p, at p's turn. -/
theorem PI.watch {W0 W : WatchS} {T0 T : TrailS} (h : PI W0 T0 W T) {p : Int} (hp : p ≠ 0) (j : Nat) (hj : (W.wl (code (-p))).testBit j = true) :
    (W.view j).sound = true ∧ ((W.cl j).getD 0 0 = -p ∨ (W.cl j).getD 1 0 = -p) := by
  have hw := h.ws.v j
  have := hw.ls (code (-p)) hj
  refine ⟨this.1, ?_⟩
  exact this.2.imp (fun e => (code_eq (by omega) e.symm).symm) (fun e => (code_eq (by omega) e.symm).symm)
theorem PI.through {W0 W : WatchS} {T0 T : TrailS} (h : PI W0 T0 W T) (hd : ∀ j, DoneAt W T j) {p s : Int} (hat : At T T.cursor p s) :
    PI W0 T0 (throughF p (W.wl (code (-p))) 52 0 W T).2.1 (throughF p (W.wl (code (-p))) 52 0 W T).2.2 ∧ (throughF p (W.wl (code (-p))) 52 0 W T).2.2.cursor = T.cursor ∧
    At (throughF p (W.wl (code (-p))) 52 0 W T).2.2 T.cursor p s ∧
    (Conf (throughF p (W.wl (code (-p))) 52 0 W T).2.1 (throughF p (W.wl (code (-p))) 52 0 W T).2.2 (throughF p (W.wl (code (-p))) 52 0 W T).1 ∨ ((throughF p (W.wl (code (-p))) 52 0 W T).1 = -1 ∧
      (∀ j, Sem (throughF p (W.wl (code (-p))) 52 0 W T).2.2 (T.cursor + 1) ((throughF p (W.wl (code (-p))) 52 0 W T).2.1.view j)) ∧
      ∀ j, DoneAt (throughF p (W.wl (code (-p))) 52 0 W T).2.1 (throughF p (W.wl (code (-p))) 52 0 W T).2.2 j)) := by
  have hpne := hat.ne h.tk
  refine through_law p s (W.wl (code (-p))) T.cursor 52 0 W T rfl h rfl hat (fun j _ hj => h.watch hpne j hj) (fun j hj => ?_) hd
  have hj2 : (W.wl (code (-p))).testBit j = false := hj.resolve_right (by omega)
  intro hso
  obtain ⟨w1, w2⟩ := h.sm j hso
  have hsl := (h.ws.v j).sl hso
  have hgo : ∀ a b : Int, (W.view j).on (code a) = true → Wat2 T T.cursor a b → Wat2 T (T.cursor + 1) a b := by
    intro a b hon hw k r hk
    rcases hw k r hk with q | q
    · left
      by_cases e : k = T.cursor
      · subst e
        exfalso
        have := (hk.eq hat).1
        have e2 : a = -p := by omega
        rw [e2] at hon
        simp only [WatchS.view] at hon
        rw [hj2] at hon; simp at hon
      · omega
    · exact .inr q
  exact ⟨hgo _ _ hsl.2.1 w1, hgo _ _ hsl.2.2 w2⟩
theorem PI.take1 {W0 W : WatchS} {T0 T : TrailS} (h : PI W0 T0 W T) (hc : T.cursor < T.st.length) (hs : ∀ j, Sem T (T.cursor + 1) (W.view j)) : PI W0 T0 W T.take1 := by
  rw [take1_eq hc]
  exact ⟨h.ws, ⟨h.tk.gd, h.tk.dist, hc, h.tk.lims, h.tk.limlt⟩, h.us, h.pm, h.ex, h.lm, h.rs, hs⟩

theorem drain_law {W0 : WatchS} {T0 : TrailS} : ∀ (n : Nat) (W : WatchS) (T : TrailS), 12 < n + T.cursor → PI W0 T0 W T → (∀ j, DoneAt W T j) →
    PI W0 T0 (drainF n W T).2.1 (drainF n W T).2.2 ∧
    (Conf (drainF n W T).2.1 (drainF n W T).2.2 (drainF n W T).1 ∨ ((drainF n W T).1 = -1 ∧ (drainF n W T).2.2.cursor = (drainF n W T).2.2.st.length ∧ ∀ j, DoneAt (drainF n W T).2.1 (drainF n W T).2.2 j)) := by
  intro n
  induction n with
  | zero => intro W T hn h hd; have := h.tk.cur; have := h.tk.len; omega
  | succ n ih =>
    intro W T hn h hd
    rw [drainF_succ]
    by_cases hc : T.cursor < T.st.length
    · rw [if_pos hc]
      obtain ⟨s, hat⟩ := at_of_lt hc
      obtain ⟨p1, p2, p3, p4⟩ := h.through hd hat
      rcases p4 with q | ⟨q1, q2, q3⟩
      · rw [if_pos q.ge]; exact ⟨p1, .inl q⟩
      · rw [if_neg (by omega)]
        have hlt := p3.lt
        have hc2 : (throughF (T.litAt T.cursor) (W.wl (code (-T.litAt T.cursor))) 52 0 W T).2.2.cursor < (throughF (T.litAt T.cursor) (W.wl (code (-T.litAt T.cursor))) 52 0 W T).2.2.st.length := by omega
        refine ih _ _ ?_ (p1.take1 hc2 (by rw [p2]; exact q2)) (fun j => ?_)
        · rw [take1_eq hc2]; simp only []; omega
        · rw [take1_eq hc2]; exact q3 j
    · rw [if_neg hc]
      exact ⟨h, .inr ⟨rfl, by show T.cursor = T.st.length; have := h.tk.cur; omega, hd⟩⟩

theorem wake_law0 {W : WatchS} {T : TrailS} (hw : WS W) (hk : TrailOK T) (hr : Reas W T) (hs : ∀ j, Sem T T.cursor (W.view j)) :
    PI W T (wakeF (W.fresh ||| W.weak) 52 0 W T).2.1 (wakeF (W.fresh ||| W.weak) 52 0 W T).2.2 ∧ (wakeF (W.fresh ||| W.weak) 52 0 W T).2.2.cursor = T.cursor ∧
    (Conf (wakeF (W.fresh ||| W.weak) 52 0 W T).2.1 (wakeF (W.fresh ||| W.weak) 52 0 W T).2.2 (wakeF (W.fresh ||| W.weak) 52 0 W T).1 ∨
      ((wakeF (W.fresh ||| W.weak) 52 0 W T).1 = -1 ∧ ∀ j, DoneAt (wakeF (W.fresh ||| W.weak) 52 0 W T).2.1 (wakeF (W.fresh ||| W.weak) 52 0 W T).2.2 j)) := by
  have h : PI W T W T := ⟨hw, hk, rfl, fun _ => .refl _, Ext.refl T, rfl, hr, hs⟩
  exact wake_law (W.fresh ||| W.weak) 52 0 W T rfl h (fun j _ hj => by
      rw [Nat.testBit_or] at hj
      have hv := hw.v j
      rcases Bool.or_eq_true _ _ ▸ hj with e | e
      · exact ⟨hv.fu e, by simp [View.sound, WatchS.view, e]⟩
      · exact ⟨hv.wu e, by simp [View.sound, WatchS.view, e]⟩) (fun j hj hu => by
      have hj2 := hj.resolve_right (by omega)
      rw [Nat.testBit_or] at hj2
      simp at hj2
      exact ⟨hj2.1, fun e => by simp only [WatchS.view] at e; rw [hj2.2] at e; simp at e⟩)
theorem prop_law {W : WatchS} {T : TrailS} (hw : WS W) (hk : TrailOK T) (hr : Reas W T) (hs : ∀ j, Sem T T.cursor (W.view j)) :
    PI W T (propF W T).2.1 (propF W T).2.2 ∧
    (Conf (propF W T).2.1 (propF W T).2.2 (propF W T).1 ∨ ((propF W T).1 = -1 ∧ (propF W T).2.2.cursor = (propF W T).2.2.st.length ∧ ∀ j, DoneAt (propF W T).2.1 (propF W T).2.2 j)) := by
  obtain ⟨p1, p2, p3⟩ := wake_law0 hw hk hr hs
  unfold propF
  simp only []
  rcases p3 with q | ⟨q1, q2⟩
  · rw [if_pos q.ge]; exact ⟨p1, .inl q⟩
  · rw [if_neg (by omega)]
    exact drain_law 13 _ _ (by omega) p1 q2
end Go.Proofs.Qxb6500354aGreat
