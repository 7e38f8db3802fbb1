/- THE WALKS over trail: join, popTo, and what stands on them. -/
import Derived.Test.Qxb6500354aGreatTrl
import Derived.Deep.LoopGhost
namespace Go.Proofs.Qxb6500354aGreat
open Go.RowKit
set_option linter.unusedVariables false
set_option linter.unusedSimpArgs false

theorem findV_push (st : List (Int × Int)) (l r : Int) (v : Nat) (h : findV st l.natAbs = none) : findV (st ++ [(l, r)]) v = if v = l.natAbs then some (l, r) else findV st v := by
  unfold findV at *
  rw [List.find?_append]
  by_cases e : v = l.natAbs
  · subst e; simp [h]
  · rw [if_neg e]
    have : ((l, r).1.natAbs == v) = false := by simpa using (Ne.symm e)
    rw [List.find?_cons]; simp only [this]
    cases List.find? (fun p => p.1.natAbs == v) st <;> simp
theorem idxV_none {st : List (Int × Int)} {v : Nat} (h : findV st v = none) : idxV st v = none := by
  unfold findV at h; unfold idxV
  rw [List.find?_eq_none] at h
  rw [List.findIdx?_eq_none_iff]
  intro p hp; simpa using h p hp
theorem idxV_push (st : List (Int × Int)) (l r : Int) (v : Nat) (h : findV st l.natAbs = none) : idxV (st ++ [(l, r)]) v = if v = l.natAbs then some st.length else idxV st v := by
  have h2 := idxV_none h
  unfold idxV at *
  rw [List.findIdx?_append]
  by_cases e : v = l.natAbs
  · subst e; simp [h2]
  · rw [if_neg e]
    have : ((l, r).1.natAbs == v) = false := by simpa using (Ne.symm e)
    rw [List.findIdx?_cons]; simp only [this]
    cases List.findIdx? (fun p => p.1.natAbs == v) st <;> simp
theorem findV_of_value {T : TrailS} {l : Int} (h : T.value l = 0) : findV T.st l.natAbs = none := by
  unfold TrailS.value valOf at h
  split at h
  · assumption
  · split at h <;> simp at h
theorem levelAt_all {lims : List Nat} {n : Nat} (h : ∀ k ∈ lims, k ≤ n) : levelAt lims n = lims.length := by
  unfold levelAt; rw [List.countP_eq_length]; intro k hk; simpa using h k hk

theorem TrailOf.push {R : TrailR} {T : TrailS} (h : TrailOf R T) {l : Int} (r : Int) (hg : good l = true) (hv : T.value l = 0) (hlen : T.st.length < 12) (hlim : ∀ k ∈ T.lims, k ≤ T.st.length) :
    TrailOf { R with stack := upd R.stack T.st.length l, val := upd R.val l.natAbs (if l < 0 then -1 else 1), level := upd R.level l.natAbs T.lims.length, reason := upd R.reason l.natAbs r, place := upd R.place l.natAbs T.st.length, top := T.st.length + 1 } (T.push l r) := by
  have hf := findV_of_value hv
  refine ⟨by simp [TrailS.push]; omega, h.dle, ?_, by simp [TrailS.push], h.cursor, h.depth, ?_, ?_, ?_, ?_, ?_, h.lim⟩
  · intro p hp
    simp only [TrailS.push, List.mem_append, List.mem_singleton] at hp
    rcases hp with hp | rfl
    · exact h.gd p hp
    · exact hg
  · intro i hi
    simp only [TrailS.push, List.length_append, List.length_singleton] at hi
    by_cases e : i = T.st.length
    · subst e; simp [upd_self, TrailS.litAt, TrailS.push, List.getD_eq_getElem?_getD]
    · simp only [upd_ne _ _ _ _ e]
      rw [h.stack i (by omega)]
      simp only [TrailS.litAt, TrailS.push, List.getD_eq_getElem?_getD]
      rw [List.getElem?_append_left (by omega)]
  · intro v hv13
    show upd R.val l.natAbs _ v = valOf (findV (T.st ++ [(l, r)]) (Int.natAbs v)) v
    rw [findV_push _ _ _ _ hf, Int.natAbs_natCast]
    by_cases e : v = l.natAbs
    · subst e
      rw [upd_self, if_pos rfl]
      simp only [valOf]
      split <;> split <;> omega
    · rw [upd_ne _ _ _ _ e, if_neg e, h.val v hv13]
      simp [TrailS.value]
  · intro v hv13
    show upd R.level l.natAbs _ v = levelOf T.lims (idxV (T.st ++ [(l, r)]) v)
    rw [idxV_push _ _ _ _ hf]
    by_cases e : v = l.natAbs
    · subst e
      rw [upd_self, if_pos rfl]
      simp only [levelOf, levelAt_all hlim]
    · rw [upd_ne _ _ _ _ e, if_neg e, h.level v hv13]; rfl
  · intro v hv13
    show upd R.reason l.natAbs _ v = reasonOf (findV (T.st ++ [(l, r)]) v)
    rw [findV_push _ _ _ _ hf]
    by_cases e : v = l.natAbs
    · subst e
      rw [upd_self, if_pos rfl]; rfl
    · rw [upd_ne _ _ _ _ e, if_neg e, h.reason v hv13]; rfl
  · intro v hv13
    show upd R.place l.natAbs _ v = placeOf (idxV (T.st ++ [(l, r)]) v)
    rw [idxV_push _ _ _ _ hf]
    by_cases e : v = l.natAbs
    · subst e
      rw [upd_self, if_pos rfl]; rfl
    · rw [upd_ne _ _ _ _ e, if_neg e, h.place v hv13]; rfl

/-- join, raw. -/
theorem join_raw {w : World} {b : Nat} {R : TrailR} (hR : TrailAt w b R) (l : Int) (v n d : Nat) (r : Int) (hv : v < 13) (hn : n < 12) (ht : R.top = n) (hd : R.depth = d) :
    Calls Tryz.prog 90 #[.pointer (some ⟨b, 0, none⟩), .int .i64 l, .int .i64 v, .int .i64 r] w fun e w' => e = .returned (.tuple #[]) ∧
      TrailAt w' b { R with stack := upd R.stack n l, val := upd R.val v (if l < 0 then -1 else 1), level := upd R.level v d, reason := upd R.reason v r, place := upd R.place v n, top := n + 1 } ∧ Fr [b] w w' := by
  have htop := hR.top
  have hdep := hR.depth
  rw [ht] at htop
  rw [hd] at hdep
  have hs := hR.stack n hn
  have hval := hR.val v hv
  have hlev := hR.level v hv
  have hrea := hR.reason v hv
  have hpl := hR.place v hv
  have hfr := hR.froz
  have hup : ∀ (f : Nat → Int) (x y : Int), upd (upd f v x) v y = upd f v y := by
    intro f x y; funext i; unfold upd; split <;> rfl
  by_cases hneg : l < 0
  · have HR : Hid (TrailAt w b R) := hR
    clear hR ht hd
    refine calls_via fun K hK => ?_
    go_enter Tryz.func90, Tryz.ntmps90
    go_wp2
    go_region
    go_wp2
    go_region
    go_wp2
    go_region
    go_wp2
    go_end0
    refine hK.out _ _ ⟨rfl, ?_, ?_⟩
    · rw [if_pos hneg, ← hup _ 1]
      have := ((((((HR.out.set_stack n hn l).set_val v hv 1).set_val v hv (-1)).set_level v hv d).set_reason v hv r).set_place v hv n).set_top (n + 1)
      with_reducible exact this.drew.drew.drew
    · repeat (first | with_reducible exact Fr.refl _ _ | with_reducible refine Fr.drew ?_ | with_reducible refine Fr.set ?_ (by simp) _)
  · have HR : Hid (TrailAt w b R) := hR
    clear hR ht hd
    refine calls_via fun K hK => ?_
    go_enter Tryz.func90, Tryz.ntmps90
    go_wp2
    go_region
    go_wp2
    go_region
    go_wp2
    go_region
    go_wp2
    go_end0
    refine hK.out _ _ ⟨rfl, ?_, ?_⟩
    · rw [if_neg (by omega)]
      have := (((((HR.out.set_stack n hn l).set_val v hv 1).set_level v hv d).set_reason v hv r).set_place v hv n).set_top (n + 1)
      with_reducible exact this.drew.drew.drew
    · repeat (first | with_reducible exact Fr.refl _ _ | with_reducible refine Fr.drew ?_ | with_reducible refine Fr.set ?_ (by simp) _)
end Go.Proofs.Qxb6500354aGreat
