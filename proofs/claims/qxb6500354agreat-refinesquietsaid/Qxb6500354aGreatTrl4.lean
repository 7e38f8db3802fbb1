/- THE WALKS over trail: the methods. -/
import Derived.Test.Qxb6500354aGreatTrl3
namespace Go.Proofs.Qxb6500354aGreat
open Go.RowKit
set_option linter.unusedVariables false
set_option linter.unusedSimpArgs false

theorem TrlAt.drewN {w : World} {b n : Nat} {T : TrailS} (h : TrlAt w b T) : TrlAt (w.drewN n) b T := let ⟨R, a, c⟩ := h; ⟨R, a.drewN, c⟩
theorem TrlAt.drew {w : World} {b : Nat} {T : TrailS} (h : TrlAt w b T) : TrlAt w.drew b T := let ⟨R, a, c⟩ := h; ⟨R, a.drew, c⟩
theorem TrlAt.alloc {w : World} {b : Nat} {T : TrailS} (h : TrlAt w b T) (o : Obj) : TrlAt (w.alloc o) b T := let ⟨R, a, c⟩ := h; ⟨R, a.alloc o, c⟩
theorem TrlAt.other {w : World} {b : Nat} {T : TrailS} (h : TrlAt w b T) {a : Addr} (hne : b ≠ a.block) (v : Value) : TrlAt (w.setCell a v) b T := let ⟨R, q, c⟩ := h; ⟨R, q.other hne v, c⟩
theorem TrlAt.fr {S : List Nat} {w w2 : World} {b : Nat} {T : TrailS} (h : TrlAt w b T) (hf : Fr S w w2) (hn : b ∉ S) : TrlAt w2 b T := let ⟨R, q, c⟩ := h; ⟨R, q.fr hf hn, c⟩
theorem TrlAt.lt {w : World} {b : Nat} {T : TrailS} (h : TrlAt w b T) : b < w.heap.size := let ⟨R, q, c⟩ := h; q.lt
theorem TrlAt.ok {w : World} {b : Nat} {T : TrailS} (h : TrlAt w b T) : TrailOK T := let ⟨R, q, c⟩ := h; c.2
theorem TrlAt.len {w : World} {b : Nat} {T : TrailS} (h : TrlAt w b T) : T.st.length ≤ 12 := let ⟨R, q, c⟩ := h; c.1.len

/-- Distinct numbers below n: at most n of them. -/
theorem nodup_len : ∀ (n : Nat) (l : List Nat), l.Nodup → (∀ x ∈ l, x < n) → l.length ≤ n := by
  intro n
  induction n with
  | zero => intro l _ h; cases l with
    | nil => simp
    | cons x r => exact absurd (h x (by simp)) (by omega)
  | succ n ih =>
    intro l hd h
    have h1 := ih (l.erase n) (hd.erase n) (fun x hx => by
      have h2 := h x (List.mem_of_mem_erase hx)
      have h3 : x ≠ n := fun e => by subst e; exact (List.Nodup.not_mem_erase hd) hx
      omega)
    by_cases hm : n ∈ l
    · have := List.length_erase_of_mem hm; omega
    · rw [List.erase_of_not_mem hm] at h1; omega
theorem len_open {T : TrailS} (h : TrailOK T) {l : Int} (hg : good l = true) (hv : T.value l = 0) : T.st.length < 12 := by
  have hf := findV_of_value hv
  have h1 : ((l.natAbs - 1) :: T.st.map fun p => p.1.natAbs - 1).Nodup := by
    rw [List.nodup_cons]
    constructor
    · intro hm
      obtain ⟨p, hp, e⟩ := List.mem_map.1 hm
      unfold findV at hf; rw [List.find?_eq_none] at hf
      have h2 := (good_iff _).1 (h.gd p hp)
      have h3 := (good_iff _).1 hg
      exact hf p hp (by simp; omega)
    · have hd := h.dist
      rw [List.nodup_iff_pairwise_ne] at hd ⊢
      rw [List.pairwise_map] at hd ⊢
      refine List.Pairwise.imp_of_mem ?_ hd
      intro a c ha hc hne e
      have h2 := (good_iff _).1 (h.gd a ha)
      have h3 := (good_iff _).1 (h.gd c hc)
      omega
  have h2 := nodup_len 12 _ h1 (fun x hx => by
    rcases List.mem_cons.1 hx with rfl | hx
    · have h3 := (good_iff _).1 hg; omega
    · obtain ⟨p, hp, rfl⟩ := List.mem_map.1 hx
      have h2 := (good_iff _).1 (h.gd p hp); omega)
  simp at h2; omega
theorem ok_push {T : TrailS} (h : TrailOK T) {l r : Int} (hg : good l = true) (hv : T.value l = 0) : TrailOK (T.push l r) := by
  have hf := findV_of_value hv
  refine ⟨?_, ?_, ?_, h.lims, ?_⟩
  · intro p hp
    simp only [TrailS.push, List.mem_append, List.mem_singleton] at hp
    rcases hp with hp | rfl
    · exact h.gd p hp
    · exact hg
  · simp only [TrailS.push, List.map_append, List.map_cons, List.map_nil]
    rw [List.nodup_append]
    refine ⟨h.dist, by simp, ?_⟩
    intro x hx y hy e
    simp at hy; subst hy; subst e
    obtain ⟨p, hp, e⟩ := List.mem_map.1 hx
    unfold findV at hf; rw [List.find?_eq_none] at hf
    exact hf p hp (by simpa using e)
  · simp [TrailS.push]; have := h.cur; omega
  · intro k hk; have := h.limlt k hk; simp [TrailS.push]; omega
theorem ok_decide {T : TrailS} (h : TrailOK T) {l : Int} (hg : good l = true) (hv : T.value l = 0) : TrailOK (T.decide l) := by
  have h1 := ok_push h (r := -1) hg hv
  refine ⟨h1.gd, h1.dist, h1.cur, ?_, ?_⟩
  · simp only [TrailS.decide]
    rw [List.pairwise_append]
    refine ⟨h.lims, by simp, ?_⟩
    intro a ha c hc; simp at hc; subst hc; exact h.limlt a ha
  · intro k hk
    simp only [TrailS.decide, List.mem_append, List.mem_singleton] at hk
    simp only [TrailS.decide, List.length_append, List.length_singleton]
    rcases hk with hk | rfl
    · have := h.limlt k hk; omega
    · omega
theorem ok_take {T : TrailS} (h : TrailOK T) (m k c : Nat) (hc : c ≤ m ∧ c ≤ T.st.length) (hk : ∀ x ∈ T.lims.take k, x < m) : TrailOK { st := T.st.take m, lims := T.lims.take k, cursor := c } := by
  refine ⟨fun p hp => h.gd p (List.mem_of_mem_take hp), ?_, ?_, ?_, ?_⟩
  · have := h.dist; simp only; rw [List.map_take]; exact this.sublist (List.take_sublist _ _)
  · simp; omega
  · exact h.lims.sublist (List.take_sublist _ _)
  · intro x hx
    have h1 := hk x hx
    have h2 := h.limlt x (List.mem_of_mem_take hx)
    simp; omega
theorem lims_len {T : TrailS} (h : TrailOK T) : T.lims.length ≤ T.st.length := by
  apply nodup_len _ _ _ h.limlt
  exact h.lims.imp (fun hab e => by omega)
theorem take_lims_lt {T : TrailS} (h : TrailOK T) {k : Nat} (hk : k < T.lims.length) : ∀ x ∈ T.lims.take k, x < T.lims.getD k 0 := by
  intro x hx
  obtain ⟨j, hj, rfl⟩ := List.mem_iff_getElem.1 hx
  rw [List.length_take] at hj
  rw [List.getElem_take, List.getD_eq_getElem?_getD, List.getElem?_eq_getElem hk]
  exact (List.pairwise_iff_getElem.1 h.lims) j k (by omega) hk (by omega)
theorem ok_back {T : TrailS} (h : TrailOK T) (k : Nat) : TrailOK (T.back k) := by
  unfold TrailS.back
  split
  · rename_i hk
    have h1 := h.limlt (T.lims.getD k 0) (by rw [List.getD_eq_getElem?_getD, List.getElem?_eq_getElem hk]; simp)
    have := h.cur
    exact ok_take h _ _ _ ⟨by omega, by omega⟩ (take_lims_lt h hk)
  · exact h

/-! ### the observers -/
theorem len_any {w : World} {b : Nat} {T : TrailS} (h : TrlAt w b T) :
    Calls Tryz.prog 49 #[.pointer (some ⟨b, 0, none⟩)] w fun e w' => e = .returned (.int .i64 (T.st.length : Nat)) ∧ w' = w := by
  obtain ⟨R, hR, ho, -⟩ := h
  have htop := hR.top
  rw [ho.top] at htop
  clear hR ho
  refine calls_via fun K hK => ?_
  go_enter Tryz.func49, Tryz.ntmps49
  go_wp2
  try go_ret
  exact hK.out _ _ ⟨rfl, rfl⟩
theorem lvl_any {w : World} {b : Nat} {T : TrailS} (h : TrlAt w b T) :
    Calls Tryz.prog 118 #[.pointer (some ⟨b, 0, none⟩)] w fun e w' => e = .returned (.int .i64 (T.lims.length : Nat)) ∧ w' = w := by
  obtain ⟨R, hR, ho, -⟩ := h
  have htop := hR.depth
  rw [ho.depth] at htop
  clear hR ho
  refine calls_via fun K hK => ?_
  go_enter Tryz.func118, Tryz.ntmps118
  go_wp2
  try go_ret
  exact hK.out _ _ ⟨rfl, rfl⟩
theorem pending_any {w : World} {b : Nat} {T : TrailS} (h : TrlAt w b T) :
    Calls Tryz.prog 113 #[.pointer (some ⟨b, 0, none⟩)] w fun e w' => e = .returned (.int .i64 ((T.st.length : Int) - (T.cursor : Int))) ∧ ∃ n, w' = w.drewN n := by
  obtain ⟨R, hR, ho, hk⟩ := h
  have htop := hR.top
  have hcur := hR.cursor
  rw [ho.top] at htop
  rw [ho.cursor] at hcur
  have h1 := hk.cur
  have h2 := ho.len
  clear hR ho hk
  refine calls_via fun K hK => ?_
  go_enter Tryz.func113, Tryz.ntmps113
  go_wp2_with fail
  go_quiet (fail)
  go_wp2_with fail
  try go_ret
  exact hK.out _ _ ⟨rfl, _, rfl⟩
theorem at_any {w : World} {b : Nat} {T : TrailS} (h : TrlAt w b T) (i : Nat) (hi : i < T.st.length) :
    Calls Tryz.prog 114 #[.pointer (some ⟨b, 0, none⟩), .int .i64 i] w fun e w' => e = .returned (.int .i64 (T.litAt i)) ∧ ∃ n, w' = w.drewN n := by
  obtain ⟨R, hR, ho, hk⟩ := h
  have htop := hR.top
  rw [ho.top] at htop
  have h2 := ho.len
  have hs := hR.stack i (by omega)
  rw [ho.stack i hi] at hs
  have hi12 : i < 12 := by omega
  have hi13 : (i : Int) < 12 := by omega
  clear hR ho hk
  refine calls_via fun K hK => ?_
  go_enter Tryz.func114, Tryz.ntmps114
  go_wp2_with (go_quiet (fail))
  try go_ret
  first | exact hK.out _ _ ⟨rfl, _, rfl⟩ | exact hK.out _ _ ⟨rfl, 0, rfl⟩
theorem isVar_any (v : Nat) (h0 : 1 ≤ v) (h1 : v < 13) (w : World) : Calls Tryz.prog 147 #[.int .i64 v] w fun e w' => e = .returned (.bool true) ∧ w' = w := by
  have h2 : (1 : Int) ≤ v := by omega
  have h3 : (v : Int) ≤ 12 := by omega
  go_enter Tryz.func147, Tryz.ntmps147
  go_wp2
  go_ret
  exact ⟨ret_bool (by simp <;> omega), rfl⟩
theorem levelOf_any {w : World} {b : Nat} {T : TrailS} (h : TrlAt w b T) (v : Nat) (h0 : 1 ≤ v) (h1 : v < 13) :
    Calls Tryz.prog 125 #[.pointer (some ⟨b, 0, none⟩), .int .i64 v] w fun e w' => e = .returned (.int .i64 (T.level v)) ∧ w' = w := by
  obtain ⟨R, hR, ho, hk⟩ := h
  have hs := hR.level v h1
  rw [ho.level v h1] at hs
  clear hR ho hk
  have hi13 : (v : Int) < 13 := by omega
  refine calls_via fun K hK => ?_
  go_enter Tryz.func125, Tryz.ntmps125
  go_wp2_with (go_at_call 147; refine (isVar_any _ h0 h1 _).mono ?_; rintro e w' ⟨rfl, rfl⟩)
  try go_ret
  exact hK.out _ _ ⟨rfl, rfl⟩
theorem reason_any {w : World} {b : Nat} {T : TrailS} (h : TrlAt w b T) (v : Nat) (h0 : 1 ≤ v) (h1 : v < 13) :
    Calls Tryz.prog 144 #[.pointer (some ⟨b, 0, none⟩), .int .i64 v] w fun e w' => e = .returned (.int .i64 (T.reason v)) ∧ w' = w := by
  obtain ⟨R, hR, ho, hk⟩ := h
  have hs := hR.reason v h1
  rw [ho.reason v h1] at hs
  clear hR ho hk
  have hi13 : (v : Int) < 13 := by omega
  refine calls_via fun K hK => ?_
  go_enter Tryz.func144, Tryz.ntmps144
  go_wp2_with (go_at_call 147; refine (isVar_any _ h0 h1 _).mono ?_; rintro e w' ⟨rfl, rfl⟩)
  try go_ret
  exact hK.out _ _ ⟨rfl, rfl⟩
theorem place_any {w : World} {b : Nat} {T : TrailS} (h : TrlAt w b T) (v : Nat) (h0 : 1 ≤ v) (h1 : v < 13) :
    Calls Tryz.prog 150 #[.pointer (some ⟨b, 0, none⟩), .int .i64 v] w fun e w' => e = .returned (.int .i64 (T.place v)) ∧ w' = w := by
  obtain ⟨R, hR, ho, hk⟩ := h
  have hs := hR.place v h1
  rw [ho.place v h1] at hs
  clear hR ho hk
  have hi13 : (v : Int) < 13 := by omega
  refine calls_via fun K hK => ?_
  go_enter Tryz.func150, Tryz.ntmps150
  go_wp2_with (go_at_call 147; refine (isVar_any _ h0 h1 _).mono ?_; rintro e w' ⟨rfl, rfl⟩)
  try go_ret
  exact hK.out _ _ ⟨rfl, rfl⟩

/-! ### the methods that turn it -/
theorem take_any {w : World} {b : Nat} {T : TrailS} (h : TrlAt w b T) (hc : T.cursor < T.st.length) :
    Calls Tryz.prog 116 #[.pointer (some ⟨b, 0, none⟩)] w fun e w' => (∃ v, e = .returned v) ∧ TrlAt w' b T.take1 ∧ Fr [b] w w' := by
  obtain ⟨R, hR, ho, hk⟩ := h
  have htop := hR.top
  have hcur := hR.cursor
  have hfr := hR.froz
  rw [ho.top] at htop
  rw [ho.cursor] at hcur
  have h2 := ho.len
  have hs := hR.stack T.cursor (by omega)
  have h12 : (T.cursor : Int) < 12 := by omega
  have h13 : T.cursor < 12 := by omega
  have hfin : TrailOf { R with cursor := (T.cursor : Int) + 1 } T.take1 ∧ TrailOK T.take1 := by
    unfold TrailS.take1
    rw [if_pos hc]
    exact ⟨⟨ho.len, ho.dle, ho.gd, ho.top, by simp, ho.depth, ho.stack, ho.val, ho.level, ho.reason, ho.place, ho.lim⟩, ⟨hk.gd, hk.dist, by simp; omega, hk.lims, hk.limlt⟩⟩
  have HR : Hid (TrailAt w b R) := hR
  clear hR ho hk
  refine calls_via fun K hK => ?_
  go_enter Tryz.func116, Tryz.ntmps116
  go_wp2_with fail
  go_quiet (fail)
  go_wp2_with fail
  go_quiet (fail)
  go_wp2_with fail
  try go_ret
  refine hK.out _ _ ⟨⟨_, rfl⟩, ⟨_, HR.out.drewN.set_cursor _, hfin⟩, ?_⟩
  repeat (first | with_reducible exact Fr.refl _ _ | with_reducible refine Fr.drewN ?_ | with_reducible refine Fr.set ?_ (by simp) _)

theorem reset_any {w : World} {b : Nat} {T : TrailS} (h : TrlAt w b T) :
    Calls Tryz.prog 76 #[.pointer (some ⟨b, 0, none⟩)] w fun e w' => e = .returned (.tuple #[]) ∧ TrlAt w' b TrailS.empty ∧ Fr [b] w w' := by
  obtain ⟨R, hR, ho, hk⟩ := h
  have hc := popTo_raw hR ho hk.dist 0 (Nat.zero_le _) hk.cur
  clear hR
  refine calls_via fun K hK => ?_
  go_enter Tryz.func76, Tryz.ntmps76
  go_wp2_with fail
  refine hc.mono ?_
  rintro e w1 ⟨rfl, R1, hR1, ho1, hf⟩
  have hfr := hR1.froz
  have hdep := hR1.depth
  go_wp2_with fail
  go_end0
  refine hK.out _ _ ⟨rfl, ⟨_, hR1.set_depth 0, ?_, ?_⟩, ?_⟩
  · refine ⟨by simp [TrailS.empty], by simp [TrailS.empty], by simp [TrailS.empty], ?_, ?_, by simp [TrailS.empty], by simp [TrailS.empty], ?_, ?_, ?_, ?_, by simp [TrailS.empty]⟩
    · rw [ho1.top]; simp [TrailS.empty, TrailS.popTo]
    · rw [ho1.cursor]; simp [TrailS.empty, TrailS.popTo]
    · intro v hv; rw [ho1.val v hv]; simp [TrailS.empty, TrailS.popTo, TrailS.value]
    · intro v hv; rw [ho1.level v hv]; simp [TrailS.empty, TrailS.popTo, TrailS.level, idxV, levelOf]
    · intro v hv; rw [ho1.reason v hv]; simp [TrailS.empty, TrailS.popTo, TrailS.reason]
    · intro v hv; rw [ho1.place v hv]; simp [TrailS.empty, TrailS.popTo, TrailS.place]
  · exact ⟨by simp [TrailS.empty], by simp [TrailS.empty], by simp [TrailS.empty], by simp [TrailS.empty], by simp [TrailS.empty]⟩
  · exact hf.set (by simp) _

theorem assign_any {w : World} {b : Nat} {T : TrailS} (h : TrlAt w b T) (l : Int) (r : Nat) (hg : good l = true) (hv : T.value l = 0) :
    Calls Tryz.prog 139 #[.pointer (some ⟨b, 0, none⟩), .int .i64 l, .int .i64 r] w fun e w' => (∃ v, e = .returned v) ∧ TrlAt w' b (T.push l r) ∧ Fr [b] w w' := by
  obtain ⟨R, hR, ho, hk⟩ := h
  have hlen := len_open hk hg hv
  have hgd := (good_iff l).1 hg
  have hfin := ho.push (r : Int) hg hv hlen (fun k hk2 => Nat.le_of_lt (hk.limlt k hk2))
  have hok := ok_push hk (r := (r : Int)) hg hv
  obtain ⟨v, hvv⟩ : ∃ v, l.natAbs = v := ⟨_, rfl⟩
  have hv13 : v < 13 := by omega
  have hv12 : v ≤ 12 := by omega
  have hi13 : (v : Int) < 13 := by omega
  have h0 := hR.val v hv13
  have hz : R.val v = 0 := by
    rw [ho.val v hv13]
    unfold TrailS.value at hv ⊢
    rw [hvv] at hv
    rw [Int.natAbs_natCast]
    revert hv
    cases findV T.st v with
    | none => simp [valOf]
    | some p => simp only [valOf]; split <;> split <;> simp
  rw [hz] at h0
  have hj := fun w2 (hR2 : TrailAt w2 b R) => join_raw hR2 l v T.st.length T.lims.length (r : Int) hv13 hlen ho.top ho.depth
  rw [hvv] at hfin
  have HV : Hid (l.natAbs = v) := hvv
  have HR : Hid (TrailAt w b R) := hR
  have HO : Hid (TrailOf R T) := ho
  have HZ : Hid (R.val v = 0) := hz
  have hr0 : (0 : Int) ≤ r := by omega
  clear hR ho hvv hz hv hgd
  refine calls_via fun K hK => ?_
  go_enter Tryz.func139, Tryz.ntmps139
  go_wp2_with (first | (go_at_call 88; refine (good_any _ _).mono ?_; rintro e w' ⟨rfl, rfl⟩) | (go_at_call 89; refine (var_v HV.out hv12 _).mono ?_; rintro e w' ⟨rfl, rfl⟩))
  refine (hj _ HR.out).mono ?_
  rintro e w1 ⟨rfl, hR1, hf1⟩
  go_wp2_with fail
  try go_ret
  exact hK.out _ _ ⟨⟨_, rfl⟩, ⟨_, hR1, hfin, hok⟩, hf1⟩

theorem decide_any {w : World} {b : Nat} {T : TrailS} (h : TrlAt w b T) (l : Int) (hg : good l = true) (hv : T.value l = 0) :
    Calls Tryz.prog 52 #[.pointer (some ⟨b, 0, none⟩), .int .i64 l] w fun e w' => (∃ v, e = .returned v) ∧ TrlAt w' b (T.decide l) ∧ Fr [b] w w' := by
  obtain ⟨R, hR, ho, hk⟩ := h
  have hlen := len_open hk hg hv
  have hgd := (good_iff l).1 hg
  have hll := lims_len hk
  obtain ⟨v, hvv⟩ : ∃ v, l.natAbs = v := ⟨_, rfl⟩
  have hv13 : v < 13 := by omega
  have hv12 : v ≤ 12 := by omega
  have hi13 : (v : Int) < 13 := by omega
  have h0 := hR.val v hv13
  have hdep := hR.depth
  have htop := hR.top
  have hfr := hR.froz
  rw [ho.depth] at hdep
  rw [ho.top] at htop
  have hd13 : T.lims.length + 1 < 13 := by omega
  have hdi : (T.lims.length : Int) + 1 < 13 := by omega
  have hlim := hR.lim (T.lims.length + 1) hd13
  have hz : R.val v = 0 := by
    rw [ho.val v hv13]
    unfold TrailS.value at hv ⊢
    rw [hvv] at hv
    rw [Int.natAbs_natCast]
    revert hv
    cases findV T.st v with
    | none => simp [valOf]
    | some p => simp only [valOf]; split <;> split <;> simp
  rw [hz] at h0
  have ho2 : TrailOf { R with depth := (T.lims.length : Int) + 1, lim := upd R.lim (T.lims.length + 1) (T.st.length : Int) } { T with lims := T.lims ++ [T.st.length] } := by
    refine ⟨ho.len, by simp; omega, ho.gd, ho.top, ho.cursor, by simp, ho.stack, ho.val, ?_, ho.reason, ho.place, ?_⟩
    · intro u hu
      rw [ho.level u hu]
      unfold TrailS.level
      cases hi : idxV T.st u with
      | none => rfl
      | some i =>
        simp only [levelOf, levelAt, List.countP_append]
        have : i < T.st.length := by
          unfold idxV at hi
          have := List.findIdx?_eq_some_iff_getElem.1 hi
          exact this.1
        have h2 : ¬ T.st.length ≤ i := by omega
        simp [h2]
    · intro k hk2
      simp only [List.length_append, List.length_singleton] at hk2
      by_cases e : k = T.lims.length
      · subst e; show upd _ _ _ _ = _; rw [upd_self]; simp [List.getD_eq_getElem?_getD]
      · show upd _ _ _ _ = _; rw [upd_ne _ _ _ _ (by omega), ho.lim k (by omega)]
        simp only [List.getD_eq_getElem?_getD]; rw [List.getElem?_append_left (by omega)]
  have hfin := ho2.push (-1) hg hv hlen (fun k hk2 => by
    simp only [List.mem_append, List.mem_singleton] at hk2
    rcases hk2 with hk2 | rfl
    · exact Nat.le_of_lt (hk.limlt k hk2)
    · exact Nat.le_refl _)
  have hok := ok_decide hk hg hv
  rw [hvv] at hfin
  have hj := fun w2 (hR2 : TrailAt w2 b { R with depth := (T.lims.length : Int) + 1, lim := upd R.lim (T.lims.length + 1) (T.st.length : Int) }) => join_raw hR2 l v T.st.length (T.lims.length + 1) (-1) hv13 hlen ho.top (by simp)
  have HV : Hid (l.natAbs = v) := hvv
  have HR : Hid (TrailAt w b R) := hR
  have HO : Hid (TrailOf R T) := ho
  have HZ : Hid (R.val v = 0) := hz
  clear hR ho hvv hz hv hgd ho2
  refine calls_via fun K hK => ?_
  go_enter Tryz.func52, Tryz.ntmps52
  go_wp2_with (first | (go_at_call 88; refine (good_any _ _).mono ?_; rintro e w' ⟨rfl, rfl⟩) | (go_at_call 89; refine (var_v HV.out hv12 _).mono ?_; rintro e w' ⟨rfl, rfl⟩))
  go_region
  go_wp2_with fail
  have hR2 := ((HR.out.set_depth ((T.lims.length : Int) + 1)).set_lim (T.lims.length + 1) hd13 (T.st.length : Int)).drew
  refine (hj _ hR2).mono ?_
  rintro e w1 ⟨rfl, hR1, hf1⟩
  go_wp2_with fail
  try go_ret
  refine hK.out _ _ ⟨⟨_, rfl⟩, ⟨_, hR1, ?_, hok⟩, ?_⟩
  · have e : ((T.lims ++ [T.st.length]).length : Int) = ((T.lims.length + 1 : Nat) : Int) := by simp
    simp only [e] at hfin
    exact hfin
  · exact ((((Fr.refl [b] _).set (by simp) _).set (by simp) _).drew).trans hf1

theorem back_any {w : World} {b : Nat} {T : TrailS} (h : TrlAt w b T) (k : Nat) (hkl : k ≤ T.lims.length) :
    Calls Tryz.prog 126 #[.pointer (some ⟨b, 0, none⟩), .int .i64 k] w fun e w' => (∃ v, e = .returned v) ∧ TrlAt w' b (T.back k) ∧ Fr [b] w w' := by
  obtain ⟨R, hR, ho, hk⟩ := h
  have hdep := hR.depth
  have hfr := hR.froz
  rw [ho.depth] at hdep
  have hll := lims_len hk
  have hlen := ho.len
  have hok := ok_back hk k
  by_cases hlt : k < T.lims.length
  · have hlim := hR.lim (k + 1) (by omega)
    rw [ho.lim k hlt] at hlim
    have hk13 : k + 1 < 13 := by omega
    have hki : (k : Int) + 1 < 13 := by omega
    have hge : T.lims.getD k 0 ≤ T.st.length := by
      have h1 := hk.limlt (T.lims.getD k 0) (by rw [List.getD_eq_getElem?_getD, List.getElem?_eq_getElem hlt]; simp)
      omega
    have htl := take_lims_lt hk hlt
    have hpop := fun w2 (hR2 : TrailAt w2 b R) => popTo_raw hR2 ho hk.dist (T.lims.getD k 0) hge hk.cur
    have hbk : T.back k = { st := T.st.take (T.lims.getD k 0), lims := T.lims.take k, cursor := min T.cursor (T.lims.getD k 0) } := by
      unfold TrailS.back; rw [if_pos hlt]
    have HB : Hid (T.back k = { st := T.st.take (T.lims.getD k 0), lims := T.lims.take k, cursor := min T.cursor (T.lims.getD k 0) }) := hbk
    have HR : Hid (TrailAt w b R) := hR
    have hll2 : T.lims.length ≤ 12 := by omega
    have hsorted := hk.lims
    generalize hm : T.lims.getD k 0 = m at *
    have HM : Hid (T.lims.getD k 0 = m) := hm
    clear hR ho hbk hm
    refine calls_via fun K hK => ?_
    go_enter Tryz.func126, Tryz.ntmps126
    go_wp2_with fail
    refine (hpop _ HR.out).mono ?_
    rintro e w1 ⟨rfl, R1, hR1, ho1, hf⟩
    have hfr1 := hR1.froz
    have hdep1 := hR1.depth
    go_wp2_with fail
    try go_ret
    refine hK.out _ _ ⟨⟨_, rfl⟩, ⟨_, hR1.set_depth k, ?_, hok⟩, hf.set (by simp) _⟩
    rw [HB.out]
    unfold TrailS.popTo at ho1
    have hlt2 : (T.lims.take k).length = k := by rw [List.length_take]; omega
    refine ⟨ho1.len, by simp only [hlt2]; omega, ho1.gd, ho1.top, ho1.cursor, by simp only [hlt2], ho1.stack, ho1.val, ?_, ho1.reason, ho1.place, ?_⟩
    · intro u hu
      rw [ho1.level u hu]
      unfold TrailS.level
      cases hi : idxV (T.st.take m) u with
      | none => simp only [hi]; rfl
      | some i =>
        simp only [hi, levelOf, levelAt]
        have him : i < m := by
          have h3 := (List.findIdx?_eq_some_iff_getElem.1 hi).1
          rw [List.length_take] at h3; omega
        have hsp := List.take_append_drop k T.lims
        have : List.countP (fun x => decide (x ≤ i)) T.lims = List.countP (fun x => decide (x ≤ i)) (T.lims.take k) + List.countP (fun x => decide (x ≤ i)) (T.lims.drop k) := by
          rw [← List.countP_append, hsp]
        rw [this]
        have h0 : List.countP (fun x => decide (x ≤ i)) (T.lims.drop k) = 0 := by
          rw [List.countP_eq_zero]
          intro x hx
          obtain ⟨j, hj, rfl⟩ := List.mem_iff_getElem.1 hx
          rw [List.length_drop] at hj
          rw [List.getElem_drop]
          have hmk : T.lims[k] = m := by
            have := HM.out; rw [List.getD_eq_getElem?_getD, List.getElem?_eq_getElem hlt] at this; simpa using this
          by_cases hj0 : j = 0
          · subst hj0; simp only [Nat.add_zero, hmk]; simp; omega
          · have := (List.pairwise_iff_getElem.1 hsorted) k (k + j) hlt (by omega) (by omega)
            simp; omega
        rw [h0]; simp
    · intro j hj
      rw [hlt2] at hj
      rw [ho1.lim j (by simp only []; omega)]
      simp only [List.getD_eq_getElem?_getD]
      rw [List.getElem?_take_of_lt (by omega)]
  · have hbk : T.back k = T := by unfold TrailS.back; rw [if_neg hlt]
    have hkk : k = T.lims.length := by omega
    have HR : Hid (TrailAt w b R ∧ TrailOf R T ∧ TrailOK T) := ⟨hR, ho, hk⟩
    have HB : Hid (T.back k = T) := hbk
    have hd12 : T.lims.length ≤ 12 := by omega
    clear hR ho hk hbk hok
    subst hkk
    refine calls_via fun K hK => ?_
    go_enter Tryz.func126, Tryz.ntmps126
    go_wp2_with fail
    try go_ret
    refine hK.out _ _ ⟨⟨_, rfl⟩, ⟨_, HR.out.1, ?_⟩, Fr.refl _ _⟩
    rw [HB.out]; exact HR.out.2
end Go.Proofs.Qxb6500354aGreat
