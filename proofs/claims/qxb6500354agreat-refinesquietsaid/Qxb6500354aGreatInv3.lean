/- THE LOOP's INVARIANT, 3: the measure, one conflict. -/
import Derived.Test.Qxb6500354aGreatInv2
namespace Go.Proofs.Qxb6500354aGreat
set_option linter.unusedVariables false
set_option linter.unusedSimpArgs false

/-! ### the trail as a binary number -/
def Nf : List (Int × Int) → Nat → Nat
  | [], _ => 0
  | p :: r, k => (if p.2 = -1 then 0 else 2 ^ (11 - k)) + Nf r (k + 1)
theorem Nf_append : ∀ (a b : List (Int × Int)) (k : Nat), Nf (a ++ b) k = Nf a k + Nf b (k + a.length) := by
  intro a
  induction a with
  | nil => intro b k; simp [Nf]
  | cons x a ih =>
    intro b k
    simp only [List.cons_append, Nf, ih, List.length_cons]
    rw [show k + 1 + a.length = k + (a.length + 1) from by omega]; omega
theorem two_pow_step {k : Nat} (h : k < 12) : 2 ^ (12 - k) = 2 ^ (11 - k) + 2 ^ (11 - k) := by
  rw [show 12 - k = (11 - k) + 1 from by omega, Nat.pow_succ]; omega
theorem Nf_lt : ∀ (l : List (Int × Int)) (k : Nat), k + l.length ≤ 12 → Nf l k < 2 ^ (12 - k) := by
  intro l
  induction l with
  | nil => intro k _; exact Nat.two_pow_pos _
  | cons x l ih =>
    intro k hk
    simp only [List.length_cons] at hk
    have h1 := ih (k + 1) (by omega)
    rw [show 12 - (k + 1) = 11 - k from by omega] at h1
    rw [two_pow_step (by omega)]
    simp only [Nf]
    split <;> omega
def NT (T : TrailS) : Nat := Nf T.st 0
theorem NT_ext {T U : TrailS} (h : Ext T U) : NT T ≤ NT U := by
  obtain ⟨e, he⟩ := h
  unfold NT; rw [he, Nf_append]; omega
theorem NT_grow {T U : TrailS} (h : Ext T U) (hl : T.st.length < U.st.length) (hr : ∀ l r, At U T.st.length l r → r ≠ -1) : NT T + 2 ^ (11 - T.st.length) ≤ NT U := by
  obtain ⟨e, he⟩ := h
  cases e with
  | nil => rw [he] at hl; simp at hl
  | cons x e =>
    have hx := hr x.1 x.2 (by unfold At; rw [he]; simp)
    unfold NT
    rw [he, Nf_append]
    simp only [Nf, if_neg hx, Nat.zero_add]; omega
theorem NT_lt {T : TrailS} (h : T.st.length ≤ 12) : NT T < 4096 := by
  have := Nf_lt T.st 0 (by omega)
  exact this
theorem NT_lt2 {T : TrailS} (h : T.st.length < 12) : NT T + 2 ^ (11 - T.st.length) < 4096 := by
  have := Nf_lt (T.st ++ [(0, 0)]) 0 (by simp; omega)
  rw [Nf_append] at this
  simp only [Nf, Nat.zero_add] at this
  rw [if_neg (by decide)] at this
  exact this
theorem NT_back {T : TrailS} {d : Nat} {l : Int} (hd : At T d l (-1)) (hlen : T.st.length ≤ 12) : NT T < Nf (T.st.take d) 0 + 2 ^ (11 - d) := by
  have hlt := hd.lt
  have e : T.st = T.st.take d ++ (l, -1) :: T.st.drop (d + 1) := by
    have h1 := List.drop_eq_getElem_cons hlt
    have h2 : T.st[d] = (l, -1) := (List.getElem?_eq_some_iff.1 hd).2
    rw [h2] at h1
    rw [← h1, List.take_append_drop]
  have h3 : NT T = Nf (T.st.take d) 0 + Nf (T.st.drop (d + 1)) (d + 1) := by
    unfold NT
    conv => lhs; rw [e]
    rw [Nf_append]
    simp only [Nf, if_pos, Nat.zero_add, List.length_take, Nat.min_eq_left (Nat.le_of_lt hlt)]
  have h4 := Nf_lt (T.st.drop (d + 1)) (d + 1) (by rw [List.length_drop]; omega)
  rw [show 12 - (d + 1) = 11 - d from by omega] at h4
  omega

/-! ### the gauges -/
def tri : Nat → Nat
  | 0 => 0
  | r + 1 => tri r + (r + 1)
structure GG (S : SolverS) : Prop where
  r4 : S.restarts ≤ 4
  cf : S.conflicts = tri S.restarts + S.since
  sl : S.restarts < 4 → S.since ≤ S.restarts
  inc : S.inc = S.conflicts + 1
  act : ∀ v, 0 ≤ S.act v ∧ S.act v ≤ S.conflicts * 60000
  ph : ∀ v, S.phase v = 1 ∨ S.phase v = -1
theorem tri_le {r : Nat} (h : r ≤ 4) : tri r ≤ 10 ∧ (r < 4 → tri r ≤ 6) := by
  rcases (by omega : r = 0 ∨ r = 1 ∨ r = 2 ∨ r = 3 ∨ r = 4) with e | e | e | e | e <;> subst e <;> simp [tri]
/-- No live clause is false. -/
def NoF (W : WatchS) (T : TrailS) : Prop := ∀ j, W.used.testBit j = true → ∃ l ∈ W.cl j, T.value l ≠ -1
/-- A unit clause waits: the next Propagate makes the trail longer. -/
structure Pend (W : WatchS) (T : TrailS) (n : Nat) : Prop where
  nof : NoF W T
  len : T.st.length < 12
  nn : n ≤ NT T + 2 ^ (11 - T.st.length)
  unit : ∃ j, W.used.testBit j = true ∧ ∃ l ∈ W.cl j, T.value l = 0 ∧ ∀ m ∈ W.cl j, m ≠ l → T.value m = -1
def MS (s : St) : Prop := s.S.restarts = 4 → s.S.since ≤ NT s.T ∨ Pend s.W s.T s.S.since
structure SB0 (ps : List (List Int)) (s : St) (n : Nat) : Prop where
  wt : WT s.W s.T
  pr : PR ps s.W
  al : AL s.W s.S
  lg : LogIs ps s.S.log (liveL s.W) n
structure SB (ps : List (List Int)) (s : St) : Prop where
  b : SB0 ps s s.S.conflicts
  gg : GG s.S
theorem SB.bound {ps : List (List Int)} {s : St} (h : SB ps s) (hm : MS s) : s.S.conflicts ≤ 4105 := by
  have h1 := h.gg.cf
  have h2 := tri_le h.gg.r4
  by_cases h4 : s.S.restarts < 4
  · have := h.gg.sl h4; have := h2.2 h4; omega
  · have h5 : s.S.restarts = 4 := by have := h.gg.r4; omega
    rcases hm h5 with e | e
    · have := NT_lt h.b.wt.tk.len; omega
    · have := NT_lt2 e.len; have := e.nn; omega

/-! ### Propagate -/
def St.prop (s : St) : St := { s with W := (propF s.W s.T).2.1, T := (propF s.W s.T).2.2 }
theorem PR.perm {ps : List (List Int)} {W V : WatchS} (h : PR ps W) (hu : V.used = W.used) (hp : ∀ j, (V.cl j).Perm (W.cl j)) : PR ps V := by
  intro i hi
  rw [hu, normC_congr (fun x => (hp i).mem_iff)]; exact h i hi
theorem SB.prop {ps : List (List Int)} {s : St} (h : SB ps s) (hm : MS s) :
    SB ps s.prop ∧ (s.prop.S.restarts = 4 → s.prop.S.since ≤ NT s.prop.T) ∧ (Conf s.prop.W s.prop.T (propF s.W s.T).1 ∨ ((propF s.W s.T).1 = -1 ∧ Done s.prop.W s.prop.T)) ∧ Ext s.T s.prop.T ∧ s.prop.T.lims = s.T.lims := by
  have hw := h.b.wt
  obtain ⟨p, q⟩ := prop_law hw.ws hw.tk hw.rs hw.sm
  have hres : Conf s.prop.W s.prop.T (propF s.W s.T).1 ∨ ((propF s.W s.T).1 = -1 ∧ Done s.prop.W s.prop.T) := q.imp (fun z => z) (fun z => ⟨z.1, ⟨z.2.1, z.2.2⟩⟩)
  have hex : Ext s.T s.prop.T := p.ex
  have hwt : WT s.prop.W s.prop.T := hw.prop
  refine ⟨⟨⟨hwt, h.b.pr.perm p.us p.pm, ⟨fun k => ?_, ?_⟩, ?_⟩, h.gg⟩, fun h4 => ?_, hres, hex, p.lm⟩
  · show s.S.alive.testBit k = (decide (k < 12) && (propF s.W s.T).2.1.used.testBit (40 + k))
    rw [p.us]; exact h.b.al.al k
  · show s.S.count = (List.range 12).countP fun k => (propF s.W s.T).2.1.used.testBit (40 + k)
    rw [p.us]; exact h.b.al.ct
  · show LogIs ps s.S.log (liveL (propF s.W s.T).2.1) s.S.conflicts
    rw [liveL_prop p.us p.pm]; exact h.b.lg
  · show s.S.since ≤ NT s.prop.T
    rcases hm h4 with e | e
    · exact Nat.le_trans e (NT_ext hex)
    · refine Nat.le_trans e.nn (NT_grow hex ?_ (fun l r hat hr => ?_))
      · -- the trail has grown
        obtain ⟨ext, he⟩ := hex
        cases ext with
        | cons x y => rw [he]; simp
        | nil =>
          exfalso
          rw [List.append_nil] at he
          have hval : ∀ l, s.prop.T.value l = s.T.value l := fun l => by unfold TrailS.value; rw [he]
          rcases hres with ⟨id, _, hu, hf⟩ | ⟨_, hd⟩
          · have hu2 : s.W.used.testBit id = true := by rw [← p.us]; exact hu
            obtain ⟨l, hl, hv⟩ := e.nof id hu2
            have := hf l ((p.pm id).mem_iff.2 hl)
            rw [hval] at this; exact hv this
          · obtain ⟨j, hu, l, hl, hv, ho⟩ := e.unit
            have hu2 : s.prop.W.used.testBit j = true := by show (propF s.W s.T).2.1.used.testBit j = true; rw [p.us]; exact hu
            rcases hd.fix hwt hu2 with ⟨x, hx, hv2⟩ | ⟨x, hx, y, hy, hne, v1, v2⟩
            · have hx2 := (p.pm j).mem_iff.1 hx
              rw [hval] at hv2
              by_cases e1 : x = l
              · rw [e1] at hv2; omega
              · have := ho x hx2 e1; omega
            · have hx2 := (p.pm j).mem_iff.1 hx
              have hy2 := (p.pm j).mem_iff.1 hy
              rw [hval] at v1 v2
              by_cases e1 : x = l
              · have := ho y hy2 (fun e2 => hne (e1.trans e2.symm)); omega
              · have := ho x hx2 e1; omega
      · rcases hwt.rs _ l r hat with ⟨_, hm2⟩ | ⟨id, e1, _⟩
        · have hm3 : s.T.st.length ∈ s.T.lims := by rw [← p.lm]; exact hm2
          have := hw.tk.limlt _ hm3
          omega
        · omega

/-! ### one conflict -/
theorem analyze0 {W : WatchS} {T : TrailS} (hw : WS W) {id : Nat} (hu : W.used.testBit id = true) (hf : ∀ l ∈ W.cl id, T.value l = -1) (h0 : T.lims = []) : analyzeF W T id = .fail 10 := by
  have hall : allFalseF T (normC (W.cl id)) = true := by
    unfold allFalseF
    rw [List.all_eq_true]
    intro l hl
    have := hf l ((hw.mem_norm id l).1 hl)
    simp [this]
  unfold analyzeF
  rw [hw.clause hu]
  simp only [if_pos hall, h0, List.length_nil, if_true]
theorem phaseF_pm {T : TrailS} {lv : Int} : ∀ (n : Nat) (ph : Nat → Int), (∀ v, ph v = 1 ∨ ph v = -1) → ∀ v, phaseF T lv n ph v = 1 ∨ phaseF T lv n ph v = -1 := by
  intro n
  induction n with
  | zero => intro ph h; exact h
  | succ n ih =>
    intro ph h v
    show (if T.level (T.litAt n).natAbs ≤ lv then ph else phaseF T lv n (upd ph (T.litAt n).natAbs (if 0 < T.litAt n then 1 else -1))) v = 1 ∨ (if T.level (T.litAt n).natAbs ≤ lv then ph else phaseF T lv n (upd ph (T.litAt n).natAbs (if 0 < T.litAt n then 1 else -1))) v = -1
    split
    · exact h v
    · refine ih _ (fun u => ?_) v
      unfold upd
      split
      · split
        · exact .inl rfl
        · exact .inr rfl
      · exact h u
theorem actF_bd {inc : Int} (hi : 0 ≤ inc) : ∀ (c : List Int) (act : Nat → Int) (v : Nat), act v ≤ actF act inc c v ∧ actF act inc c v ≤ act v + inc * c.length := by
  intro c
  induction c with
  | nil => intro act v; simp [actF]
  | cons l r ih =>
    intro act v
    have h := ih (upd act l.natAbs (act l.natAbs + inc)) v
    have e : actF act inc (l :: r) = actF (upd act l.natAbs (act l.natAbs + inc)) inc r := rfl
    rw [e]
    have hu : act v ≤ upd act l.natAbs (act l.natAbs + inc) v ∧ upd act l.natAbs (act l.natAbs + inc) v ≤ act v + inc := by
      unfold upd; split
      · next q => subst q; omega
      · omega
    rw [List.length_cons, show inc * ((r.length + 1 : Nat) : Int) = inc * (r.length : Int) + inc from by rw [Int.natCast_add, Int.mul_add]; simp]
    omega
theorem restart_eq (s : St) : s.restart = if 0 < interval s.S.restarts ∧ interval s.S.restarts ≤ s.S.since + 1 then
    { W := s.W, T := s.T.back 0, S := { s.S with phase := phaseF s.T ((0 : Nat) : Int) s.T.st.length s.S.phase, restarts := s.S.restarts + 1, since := 0 } }
    else { s with S := { s.S with since := s.S.since + 1 } } := by
  unfold St.restart St.jump
  simp only []
/-- restart, behind a learnt conflict. -/
theorem restart_law {ps : List (List Int)} {s : St} (h : SB0 ps s s.S.conflicts) (r4 : s.S.restarts ≤ 4) (cf : s.S.conflicts = tri s.S.restarts + s.S.since + 1) (sl : s.S.restarts < 4 → s.S.since ≤ s.S.restarts)
    (inc : s.S.inc = s.S.conflicts + 1) (act : ∀ v, 0 ≤ s.S.act v ∧ s.S.act v ≤ s.S.conflicts * 60000) (ph : ∀ v, s.S.phase v = 1 ∨ s.S.phase v = -1)
    (hp : s.S.restarts = 4 → Pend s.W s.T (s.S.since + 1)) : SB ps s.restart ∧ MS s.restart ∧ s.restart.S.conflicts = s.S.conflicts := by
  rw [restart_eq]
  by_cases hc : 0 < interval s.S.restarts ∧ interval s.S.restarts ≤ s.S.since + 1
  · rw [if_pos hc]
    have hlt : s.S.restarts < 4 := by
      have := hc.1; unfold interval at this; split at this
      · assumption
      · omega
    have hiv : interval s.S.restarts = s.S.restarts + 1 := by unfold interval; rw [if_pos hlt]
    have hsl := sl hlt
    have h2 := hc.2
    rw [hiv] at h2
    refine ⟨⟨⟨h.wt.back 0, h.pr, ⟨h.al.al, h.al.ct⟩, h.lg⟩, ⟨hlt, ?_, fun _ => Nat.zero_le _, inc, act, phaseF_pm _ _ ph⟩⟩, fun _ => .inl (Nat.zero_le _), rfl⟩
    show s.S.conflicts = tri (s.S.restarts + 1) + 0
    rw [cf]; simp only [tri]; omega
  · rw [if_neg hc]
    refine ⟨⟨⟨h.wt, h.pr, ⟨h.al.al, h.al.ct⟩, h.lg⟩, ⟨r4, ?_, fun hlt => ?_, inc, act, ph⟩⟩, fun h4 => .inr (hp h4), rfl⟩
    · show s.S.conflicts = tri s.S.restarts + (s.S.since + 1)
      rw [cf]; omega
    · show s.S.since + 1 ≤ s.S.restarts
      have hiv : interval s.S.restarts = s.S.restarts + 1 := by unfold interval; rw [if_pos hlt]
      rw [hiv] at hc
      omega

/-- conflict, ahead of its restart. -/
def St.learnt (s : St) (g : LearntS) : St :=
  let s0 : St := { s with S := { s.S with conflicts := s.S.conflicts + 1 } }
  let s1 : St := { s0 with S := s0.S.note false g.lits }
  let s2 := s1.jump g.back.toNat
  let s3 := s2.forget
  let a := s3.W.add g.lits true
  let s4 : St := if a.2.1 = 0 then { s3 with W := a.2.2, S := { s3.S with alive := setB s3.S.alive (a.1 - 40), count := s3.S.count + 1 } } else s3
  { s4 with S := s4.S.bump g.lits }
theorem conflict_eq (s : St) (r : Int) : s.conflict r = if (analyzeF s.W s.T r).err = 0 then (true, (s.learnt (analyzeF s.W s.T r)).restart) else (false, { s with S := ({ s.S with conflicts := s.S.conflicts + 1 } : SolverS).note false [] }) := rfl

/-- What the walk wants of the way through one learnt conflict. -/
structure Mid (ps : List (List Int)) (s : St) (g : LearntS) : Prop where
  an : AnaOut s.W s.T g
  s2 : FI ps (s.T.back g.back.toNat) [g.lits] (s.S.conflicts + 1) s.W (({ s with S := ({ s.S with conflicts := s.S.conflicts + 1 } : SolverS).note false g.lits } : St).jump g.back.toNat).S
  room : ∃ id, (({ s with S := ({ s.S with conflicts := s.S.conflicts + 1 } : SolverS).note false g.lits } : St).jump g.back.toNat).forget.W.room true = some id ∧ 40 ≤ id ∧ id < 52 ∧
    (({ s with S := ({ s.S with conflicts := s.S.conflicts + 1 } : SolverS).note false g.lits } : St).jump g.back.toNat).forget.W.used.testBit id = false

theorem learnt_law {ps : List (List Int)} {s : St} (h : SB ps s) (hm : s.S.restarts = 4 → s.S.since ≤ NT s.T) {id0 : Nat} (hu : s.W.used.testBit id0 = true) (hf : ∀ l ∈ s.W.cl id0, s.T.value l = -1) (hd : s.T.lims ≠ []) :
    Mid ps s (analyzeF s.W s.T id0) ∧ SB ps (s.learnt (analyzeF s.W s.T id0)).restart ∧ MS (s.learnt (analyzeF s.W s.T id0)).restart ∧ (s.learnt (analyzeF s.W s.T id0)).restart.S.conflicts = s.S.conflicts + 1 := by
  have hw := h.b.wt
  have hk := hw.tk
  have ha := analyze_law hw hu hf hd
  obtain ⟨g, hg⟩ : ∃ g, analyzeF s.W s.T id0 = g := ⟨_, rfl⟩
  rw [hg] at ha ⊢
  obtain ⟨b, hb⟩ : ∃ b : Nat, g.back = b := ⟨g.back.toNat, by have := ha.b0; omega⟩
  have hbn : g.back.toNat = b := by omega
  have hbl : b < s.T.lims.length := by have := ha.blt; omega
  obtain ⟨d, hdd⟩ : ∃ d, s.T.lims.getD b 0 = d := ⟨_, rfl⟩
  have hdm : d ∈ s.T.lims := by rw [← hdd]; exact getD_lim_mem hbl
  have hdl := hk.limlt d hdm
  have hlen := hk.len
  obtain ⟨T2, hT2⟩ : ∃ T, s.T.back b = T := ⟨_, rfl⟩
  have hbk := back_eq hbl
  rw [hdd, hT2] at hbk
  have hl12 : T2.st.length < 12 := by rw [hbk]; simp only [List.length_take]; omega
  have hwt2 : WT s.W T2 := by rw [← hT2]; exact hw.back b
  obtain ⟨S2, hS2⟩ : ∃ S, (({ s with S := ({ s.S with conflicts := s.S.conflicts + 1 } : SolverS).note false g.lits } : St).jump g.back.toNat).S = S := ⟨_, rfl⟩
  have hs2 : (({ s with S := ({ s.S with conflicts := s.S.conflicts + 1 } : SolverS).note false g.lits } : St).jump g.back.toNat) = { W := s.W, T := T2, S := S2 } := by
    rw [← hS2, ← hT2, hbn]; rfl
  have hS2l : S2.log = s.S.log ++ flatRow (false, g.lits) := by rw [← hS2]; exact note_log _ _ _
  have hlog : LogIs ps S2.log ([g.lits] ++ liveL s.W) (s.S.conflicts + 1) := by
    rw [hS2l]
    exact h.b.lg.add (RupP.live hw.ws ha.rup) (by have := liveL_len s.W; omega) ha.nf
  have hfi : FI ps T2 [g.lits] (s.S.conflicts + 1) s.W S2 := ⟨hwt2, h.b.pr, ⟨fun k => by rw [← hS2]; exact h.b.al.al k, by rw [← hS2]; exact h.b.al.ct⟩, hlog⟩
  obtain ⟨f1, f2, f3, f4, f5⟩ := forget_law (s := { W := s.W, T := T2, S := S2 }) hfi
  obtain ⟨id, hid, h40, h52, hfree⟩ := f5 hl12
  refine ⟨⟨ha, ?_, ?_⟩, ?_⟩
  · rw [hS2, hbn, hT2]; exact hfi
  · rw [hs2]; exact ⟨id, hid, h40, h52, hfree⟩
  obtain ⟨s3, hs3⟩ : ∃ x, ({ W := s.W, T := T2, S := S2 } : St).forget = x := ⟨_, rfl⟩
  rw [hs3] at f1 f2 f3 f4 hid hfree
  simp only [] at f3 f4
  have hadd : s3.W.add g.lits true = (id, 0, s3.W.put id g.lits) := by
    unfold WatchS.add; rw [if_pos ha.nf, hid]
  have hlearn : s.learnt g = { W := s3.W.put id g.lits, T := s3.T, S := ({ s3.S with alive := setB s3.S.alive (id - 40), count := s3.S.count + 1 } : SolverS).bump g.lits } := by
    unfold St.learnt
    simp only [hs2, hs3, hadd, if_true]
  -- facts on the learnt clause over T2
  have hatT : ∀ i l r, At T2 i l r ↔ i < d ∧ At s.T i l r := by intro i l r; rw [hbk]; exact at_take
  obtain ⟨ja, ra, hja, hla⟩ := ha.asl
  have hopen : ∀ i x r, At T2 i x r → x.natAbs ≠ g.assert.natAbs := by
    intro i x r hi e
    obtain ⟨q1, q2⟩ := (hatT i x r).1 hi
    have := q2.inj hk hja (by rw [Int.natAbs_neg]; exact e)
    subst this
    have := (levelAt_gt hk.lims i b hbl).1 (by omega)
    omega
  have hav0 : T2.value g.assert = 0 := val0_of (fun i m r hi => hopen i m r hi)
  have hoth : ∀ l ∈ g.lits, l ≠ g.assert → T2.value l = -1 := by
    intro l hl hne
    obtain ⟨j, r, q1, q2⟩ := ha.oth l hl hne
    have hjd : j < d := by
      apply Nat.lt_of_not_le
      intro hle
      have := (levelAt_gt hk.lims j b hbl).2 (by rw [hdd]; exact hle)
      omega
    have := ((hatT j _ r).2 ⟨hjd, q1⟩).valn hwt2.tk
    simpa using this
  have hfixc : ∀ d2 ∈ T2.lims, FixC T2 d2 g.lits := by
    intro d2 hd2
    have hlims : T2.lims = s.T.lims.take b := by rw [hbk]
    rw [hlims] at hd2
    obtain ⟨k, hk2, e⟩ := List.getElem_of_mem hd2
    rw [List.length_take] at hk2
    rw [List.getElem_take] at e
    have hkb : k < b := by omega
    rcases ha.att with e0 | ⟨l, hl, hne, j, r, q1, q2⟩
    · omega
    · refine .inr ⟨g.assert, ha.asm, l, hl, fun q => hne q.symm, fun i x r2 hi e2 => absurd e2 (hopen i x r2 hi), fun i x r2 hi e2 => ?_⟩
      have := ((hatT i x r2).1 hi).2.inj hk q1 (by rw [Int.natAbs_neg]; exact e2)
      subst this
      have := (levelAt_gt hk.lims i k (by omega)).1 (by omega)
      rw [List.getD_eq_getElem?_getD, List.getElem?_eq_getElem (by omega : k < s.T.lims.length)] at this
      simp only [Option.getD_some] at this
      omega
  have hput := f1.wt.put (id := id) h52 hfree ha.nf hfixc
  have hal3 := f1.al
  have hsame := f2
  have hinc : s3.S.inc = s.S.conflicts + 1 := by rw [f2.inc]; show S2.inc = _; rw [← hS2]; exact h.gg.inc
  have hcon : s3.S.conflicts = s.S.conflicts + 1 := by rw [f2.conflicts]; show S2.conflicts = _; rw [← hS2]; rfl
  have hres : s3.S.restarts = s.S.restarts := by rw [f2.restarts]; show S2.restarts = _; rw [← hS2]; rfl
  have hsin : s3.S.since = s.S.since := by rw [f2.since]; show S2.since = _; rw [← hS2]; rfl
  have hact : s3.S.act = s.S.act := by rw [f2.act]; show S2.act = _; rw [← hS2]; rfl
  have hph : ∀ v, s3.S.phase v = 1 ∨ s3.S.phase v = -1 := by
    rw [f2.phase]; show ∀ v, S2.phase v = 1 ∨ S2.phase v = -1
    rw [← hS2]; exact phaseF_pm _ _ h.gg.ph
  have hcb : s.S.conflicts ≤ 4105 := h.bound (fun h4 => .inl (hm h4))
  have hfin := restart_law (ps := ps) (s := s.learnt g) (by
      rw [hlearn]
      refine ⟨by rw [f3]; exact hput, ?_, ⟨fun k => ?_, ?_⟩, ?_⟩
      · intro i hi
        have hne : ¬ id = i := by omega
        have := f1.pr i hi
        simp only [WatchS.put, testBit_set, upd_ne _ _ _ _ (fun e => hne e.symm), hne, decide_false, Bool.or_false]
        exact this
      · simp only [SolverS.bump, WatchS.put, testBit_set, hal3.al k]
        by_cases e : id = 40 + k
        · have h1 : id - 40 = k := by omega
          have h2 : k < 12 := by omega
          simp [e, h2]
        · have h1 : ¬ id - 40 = k := by omega
          simp [e, h1]
      · simp only [SolverS.bump, WatchS.put, testBit_set, hal3.ct]
        have := countP_one (fun k => s3.W.used.testBit (40 + k)) (fun k => s3.W.used.testBit (40 + k) || decide (id = 40 + k)) (id - 40) true (by simp only [show 40 + (id - 40) = id from by omega]; exact hfree) (by simp; right; omega) (fun i hi => by
          have : ¬ id = 40 + i := by omega
          simp [this]) 12 (by omega)
        simp only [if_true] at this
        exact this.symm
      · show LogIs ps s3.S.log (liveL (s3.W.put id g.lits)) s3.S.conflicts
        rw [hcon]
        exact f1.lg.perm (liveL_put h52 hfree ha.nf).symm) (by rw [hlearn]; show s3.S.restarts ≤ 4; rw [hres]; exact h.gg.r4)
      (by rw [hlearn]; show s3.S.conflicts = tri s3.S.restarts + s3.S.since + 1; rw [hcon, hres, hsin, h.gg.cf])
      (by rw [hlearn]; show s3.S.restarts < 4 → s3.S.since ≤ s3.S.restarts; rw [hres, hsin]; exact h.gg.sl)
      (by rw [hlearn]; show s3.S.inc + 1 = ((s3.S.conflicts : Nat) : Int) + 1; rw [hinc, hcon]; simp)
      (by
        rw [hlearn]
        intro v
        show 0 ≤ actF s3.S.act s3.S.inc g.lits v ∧ actF s3.S.act s3.S.inc g.lits v ≤ (s3.S.conflicts : Int) * 60000
        have hb1 := actF_bd (inc := s3.S.inc) (by rw [hinc]; omega) g.lits s3.S.act v
        have hc12 := (checkClause_facts ha.nf).1
        have hb2 := h.gg.act v
        have hb3 : s3.S.inc * g.lits.length ≤ 4106 * 12 := by
          rw [hinc]
          exact Int.mul_le_mul (by omega) (by omega) (by omega) (by omega)
        rw [hact] at hb1 ⊢
        rw [hcon]
        constructor
        · omega
        · have : ((s.S.conflicts + 1 : Nat) : Int) * 60000 = (s.S.conflicts : Int) * 60000 + 60000 := by omega
          omega)
      (by rw [hlearn]; exact hph)
      (by
        rw [hlearn]
        show s3.S.restarts = 4 → Pend (s3.W.put id g.lits) s3.T (s3.S.since + 1)
        rw [hres, hsin, f3]
        intro h4
        have hused : ∀ j, (s3.W.put id g.lits).used.testBit j = true → j = id ∨ s3.W.used.testBit j = true := by
          intro j hj
          simp only [WatchS.put, testBit_set, Bool.or_eq_true, decide_eq_true_eq] at hj
          exact hj.symm.imp (fun e => e.symm) (fun z => z)
        refine ⟨fun j hj => ?_, hl12, ?_, id, by simp [WatchS.put, testBit_set], g.assert, by simp only [WatchS.put, upd_self]; exact ha.asm, hav0, fun m hm2 hne => ?_⟩
        · by_cases e : j = id
          · subst e
            exact ⟨g.assert, by simp only [WatchS.put, upd_self]; exact ha.asm, by omega⟩
          · have hj2 := (hused j hj).resolve_left e
            obtain ⟨w1, w2⟩ := f4 j hj2
            simp only [WatchS.put, upd_ne _ _ _ _ e]
            rw [w2]
            rcases hw.fx d hdm j w1 with ⟨l, hl, i, r, hi, hat⟩ | ⟨l, hl, m, hm2, hne, q1, q2⟩
            · refine ⟨l, hl, ?_⟩
              rw [((hatT i l r).2 ⟨hi, hat⟩).val hwt2.tk]; decide
            · refine ⟨l, hl, ?_⟩
              have : T2.value l = 0 := val0_of (fun i x r hi e2 => by
                obtain ⟨z1, z2⟩ := (hatT i x r).1 hi
                have := q1 i x r z2 e2
                omega)
              omega
        · -- the number
          have hdec : ∃ l, At s.T d l (-1) := by
            obtain ⟨r, hat⟩ := at_of_lt hdl
            rcases hw.rs d _ r hat with ⟨e, _⟩ | ⟨_, _, _, e, _⟩
            · exact ⟨_, by rw [← e]; exact hat⟩
            · exact absurd hdm e
          obtain ⟨l, hat⟩ := hdec
          have h1 := NT_back hat hlen
          have h2 := hm h4
          have h3 : NT T2 = Nf (s.T.st.take d) 0 := by unfold NT; rw [hbk]
          have h5 : T2.st.length = d := by rw [hbk]; simp only [List.length_take]; omega
          rw [h3, h5]; omega
        · simp only [WatchS.put, upd_self] at hm2
          exact hoth m hm2 hne)
  refine ⟨hfin.1, hfin.2.1, hfin.2.2.trans ?_⟩
  rw [hlearn]; exact hcon
end Go.Proofs.Qxb6500354aGreat
