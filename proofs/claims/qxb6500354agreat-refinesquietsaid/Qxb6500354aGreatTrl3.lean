/- THE WALKS over trail: popTo, and what stands on it. -/
import Derived.Test.Qxb6500354aGreatTrl2
namespace Go.Proofs.Qxb6500354aGreat
open Go.RowKit
set_option linter.unusedVariables false
set_option linter.unusedSimpArgs false

theorem dist_take {st : List (Int × Int)} {m : Nat} {p : Int × Int} (hp : st[m]? = some p) (hd : (st.map fun p => p.1.natAbs).Nodup) : findV (st.take m) p.1.natAbs = none := by
  apply findV_none
  intro q hq e
  have hm : m < st.length := (List.getElem?_eq_some_iff.1 hp).1
  obtain ⟨j, hj, rfl⟩ := List.mem_iff_getElem.1 hq
  rw [List.length_take] at hj
  have h1 : j < st.length := by omega
  have := (List.pairwise_iff_getElem.1 hd) j m (by simpa using h1) (by simpa using hm) (by omega)
  apply this
  simp only [List.getElem_map]
  rw [List.getElem_take] at e
  rw [e]
  have := (List.getElem?_eq_some_iff.1 hp).2
  rw [this]
theorem take_snoc {st : List (Int × Int)} {m : Nat} {p : Int × Int} (hp : st[m]? = some p) : st.take (m + 1) = st.take m ++ [(p.1, p.2)] := by
  rw [List.take_add_one, hp]; rfl
theorem litAt_get {T : TrailS} {i : Nat} {p : Int × Int} (hp : T.st[i]? = some p) : T.litAt i = p.1 := by
  simp [TrailS.litAt, List.getD_eq_getElem?_getD, hp]

theorem TrailOf.pop {R : TrailR} {T : TrailS} {m : Nat} {p : Int × Int} (hp : T.st[m]? = some p) (hd : (T.st.map fun p => p.1.natAbs).Nodup)
    (h : TrailOf R { T with st := T.st.take (m + 1) }) (x : Int) :
    TrailOf { R with top := m, val := upd R.val p.1.natAbs 0, level := upd R.level p.1.natAbs (-1), reason := upd R.reason p.1.natAbs (-1), place := upd R.place p.1.natAbs (-1), pops := x } { T with st := T.st.take m } := by
  have hm : m < T.st.length := (List.getElem?_eq_some_iff.1 hp).1
  have hf := dist_take hp hd
  have hts := take_snoc hp
  have hfi := idxV_none hf
  refine ⟨by have := h.len; simp only [List.length_take] at *; omega, h.dle, fun q hq => h.gd q ?_, by simp; omega, h.cursor, h.depth, ?_, ?_, ?_, ?_, ?_, h.lim⟩
  · simp only [hts]; exact List.mem_append_left _ hq
  · intro i hi
    simp only [List.length_take] at hi
    have := h.stack i (by simp; omega)
    rw [this]
    simp only [TrailS.litAt, List.getD_eq_getElem?_getD]
    rw [List.getElem?_take_of_lt (by omega), List.getElem?_take_of_lt (by omega)]
  · intro v hv
    have h1 := h.val v hv
    simp only [TrailS.value, Int.natAbs_natCast, hts, findV_push _ _ _ _ hf] at h1 ⊢
    by_cases e : v = p.1.natAbs
    · subst e; rw [upd_self, hf]; rfl
    · rw [upd_ne _ _ _ _ e, h1, if_neg e]
  · intro v hv
    have h1 := h.level v hv
    simp only [TrailS.level, hts, idxV_push _ _ _ _ hf] at h1 ⊢
    by_cases e : v = p.1.natAbs
    · subst e; rw [upd_self, hfi]; rfl
    · rw [upd_ne _ _ _ _ e, h1, if_neg e]
  · intro v hv
    have h1 := h.reason v hv
    simp only [TrailS.reason, hts, findV_push _ _ _ _ hf] at h1 ⊢
    by_cases e : v = p.1.natAbs
    · subst e; rw [upd_self, hf]; rfl
    · rw [upd_ne _ _ _ _ e, h1, if_neg e]
  · intro v hv
    have h1 := h.place v hv
    simp only [TrailS.place, hts, idxV_push _ _ _ _ hf] at h1 ⊢
    by_cases e : v = p.1.natAbs
    · subst e; rw [upd_self, hfi]; rfl
    · rw [upd_ne _ _ _ _ e, h1, if_neg e]

theorem popTo_raw {w : World} {b : Nat} {R : TrailR} {T : TrailS} (hR : TrailAt w b R) (ho : TrailOf R T) (hd : (T.st.map fun p => p.1.natAbs).Nodup) (n : Nat) (hn : n ≤ T.st.length) (hc : T.cursor ≤ T.st.length) :
    Calls Tryz.prog 108 #[.pointer (some ⟨b, 0, none⟩), .int .i64 n] w fun e w' => e = .returned (.tuple #[]) ∧ ∃ R', TrailAt w' b R' ∧ TrailOf R' (T.popTo n) ∧ Fr [b] w w' := by
  have hlen := ho.len
  refine calls_via fun K hK => ?_
  go_enter Tryz.func108, Tryz.ntmps108
  go_wp2_with fail
  go_loopg [] T.st.length (fun g wr => ∃ R1, n ≤ g ∧ g ≤ T.st.length ∧ TrailAt wr b R1 ∧ TrailOf R1 { T with st := T.st.take g } ∧ Fr [b] w wr)
  case atStart => exact ⟨R, hn, Nat.le_refl _, hR, by rw [List.take_length]; exact ho, Fr.refl _ _⟩
  case round =>
    obtain ⟨R1, h1, h2, hR1, ho1, hf⟩ := hrel
    have htop := hR1.top
    rw [show R1.top = ((gk : Nat) : Int) from by rw [ho1.top]; simp; omega] at htop
    by_cases hlt : n < gk
    · obtain ⟨m, rfl⟩ : ∃ m, gk = m + 1 := ⟨gk - 1, by omega⟩
      have hp := List.getElem?_eq_getElem (show m < T.st.length by omega)
      have hpop := TrailOf.pop hp hd ho1
      have hpg := (good_iff _).1 (ho.gd _ (List.getElem_mem (show m < T.st.length by omega)))
      have hsm := hR1.stack m (by omega)
      have hst := ho1.stack m (by simp; omega)
      have hq : R1.stack m = T.st[m].1 := by
        rw [hst]; simp only [TrailS.litAt, List.getD_eq_getElem?_getD]
        rw [List.getElem?_take_of_lt (by omega), hp]; rfl
      rw [hq] at hsm
      clear hst hq hp
      generalize T.st[m] = p at *
      generalize hv : p.1.natAbs = v at *
      have hv13 : v < 13 := by omega
      have hval := hR1.val v hv13
      have hlev := hR1.level v hv13
      have hrea := hR1.reason v hv13
      have hpl := hR1.place v hv13
      have hpo := hR1.pops
      have hfr := hR1.froz
      have hp1 : -12 ≤ p.1 ∧ p.1 ≤ 12 := by omega
      have hm12 : m < 12 := by omega
      have hv12 : v ≤ 12 := by omega
      have hmi : (m : Int) < 12 := by omega
      have HR : Hid (TrailAt wr b R1) := hR1
      have HV : Hid (p.1.natAbs = v) := hv
      clear ho1 hd ho hR hR1 hv hpg
      go_wp2_with fail
      go_quiet ((go_at_call 89; exact Calls.quiet_of_same (var_v HV.out hv12 _)))
      go_wp2_with fail
      go_roundg m
      case measure => omega
      case rel =>
        refine ⟨_, by omega, by omega, (((((HR.out.set_top m).drewN.set_val v hv13 0).set_level v hv13 (-1)).set_reason v hv13 (-1)).set_place v hv13 (-1)).set_pops _, hpop _, ?_⟩
        repeat (first | with_reducible exact hf | with_reducible refine Fr.drewN ?_ | with_reducible refine Fr.set ?_ (by simp) _)
    · have hge : gk = n := by omega
      subst hge
      have hcu := hR1.cursor
      rw [show R1.cursor = ((T.cursor : Nat) : Int) from ho1.cursor] at hcu
      have hfr := hR1.froz
      have HR : Hid (TrailAt wr b R1) := hR1
      have HO : Hid (TrailOf R1 { T with st := T.st.take gk }) := ho1
      clear ho1 hd ho hR hR1
      by_cases hc2 : gk < T.cursor
      · go_wp2_with fail
        go_quiet (fail)
        go_wp2_with fail
        go_end0
        refine hK.out _ _ ⟨rfl, _, HR.out.drewN.set_cursor gk, ?_, ?_⟩
        · have h := HO.out
          unfold TrailS.popTo
          rw [Nat.min_eq_right (by omega)]
          exact ⟨h.len, h.dle, h.gd, h.top, rfl, h.depth, h.stack, h.val, h.level, h.reason, h.place, h.lim⟩
        · repeat (first | with_reducible exact hf | with_reducible refine Fr.drewN ?_ | with_reducible refine Fr.set ?_ (by simp) _)
      · go_wp2_with fail
        go_quiet (fail)
        go_wp2_with fail
        go_end0
        refine hK.out _ _ ⟨rfl, _, HR.out.drewN, ?_, ?_⟩
        · have h := HO.out
          unfold TrailS.popTo
          rw [Nat.min_eq_left (by omega)]
          exact h
        · repeat (first | with_reducible exact hf | with_reducible refine Fr.drewN ?_ | with_reducible refine Fr.set ?_ (by simp) _)
end Go.Proofs.Qxb6500354aGreat
