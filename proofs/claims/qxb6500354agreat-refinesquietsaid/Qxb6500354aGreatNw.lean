/- The constructors of the layers. -/
import Derived.Test.Qxb6500354aGreatTw
namespace Go.Proofs.Qxb6500354aGreat
open Go.RowKit
set_option linter.unusedVariables false
set_option linter.unusedSimpArgs false

theorem cellA (w : World) (a : Array Value) (t : TypeId) (i : Nat) : (w.alloc (.cells a t)).cell? ⟨w.heap.size, i, none⟩ = a[i]? := World.cell?_alloc_new _ _ _ i
theorem frozA (w : World) (a : Array Value) (t : TypeId) (i : Nat) : (w.alloc (.cells a t)).frozen? ⟨w.heap.size, i, none⟩ = false := World.frozen?_alloc_new _ _ _ i
/-- One number kind's zero, in a cell. -/
def isZ (k : IntKind) (o : Option Value) : Bool := match o with
  | some (.int k2 n) => k2 == k && n == 0
  | _ => false
theorem isZ_eq {k : IntKind} {o : Option Value} (h : isZ k o = true) : o = some (.int k 0) := by
  unfold isZ at h
  split at h
  · rename_i k2 n
    rw [Bool.and_eq_true, beq_iff_eq, beq_iff_eq] at h
    rw [h.1, h.2]
  · simp at h
theorem allZ {k : IntKind} {a : Array Value} {o n : Nat} (h : ((List.range n).all fun i => isZ k a[o + i]?) = true) : ∀ i, i < n → a[o + i]? = some (.int k 0) := fun i hi =>
  isZ_eq (List.all_eq_true.1 h i (List.mem_range.2 hi))
theorem set0 {a : Array Value} {v x : Value} {i : Nat} (h : a[i]? = some x) (hi : i ≠ 0) : (a.setIfInBounds 0 v)[i]? = some x := by
  rw [Array.getElem?_setIfInBounds_ne (fun e => hi e.symm)]; exact h

theorem newPar_any (w : World) : Calls Tryz.prog 19 #[] w fun e w' => e = .returned (ptrV w.heap.size) ∧ ParAt w' w.heap.size .idle (.slice none 0 0) ∧ Fr [] w w' := by
  have hp : ParAt (w.alloc (Obj.cells #[.slice none 0 0, .int .i64 0, .int .i64 0, .bool false, .int .i64 0, .int .u16 0, .int .u16 0, .bool false, .bool false, .int .i64 0, .int .i64 0] 98)) w.heap.size .idle (.slice none 0 0) := by
    have hc := CellsAt.mk_alloc w [.slice none 0 0, .int .i64 0, .int .i64 0, .bool false, .int .i64 0, .int .u16 0, .int .u16 0, .bool false, .bool false, .int .i64 0, .int .i64 0] 98
    exact ⟨⟨hc.c 0 _ rfl, hc.c 1 _ rfl, hc.c 2 _ rfl, hc.c 3 _ rfl, hc.c 4 _ rfl, hc.c 5 _ rfl, hc.c 6 _ rfl, hc.c 7 _ rfl, hc.c 8 _ rfl, hc.c 9 _ rfl, hc.c 10 _ rfl, hc.fz⟩, OwnI.nil _ _, by decide, by decide, by simp [Value.ownBlock]⟩
  have HP := hid hp
  clear hp
  refine calls_via fun K hK => ?_
  go_enter Tryz.func19, Tryz.ntmps19
  go_wp2_with fail
  exact hK.out _ _ ⟨rfl, HP.out, (Fr.refl _ _).alloc _⟩
theorem newPM_any (w : World) : Calls Tryz.prog 13 #[] w fun e w' => e = .returned (ptrV w.heap.size) ∧ PMAt w' w.heap.size ∧ Fr [] w w' := by
  have hp : PMAt (w.alloc (Obj.cells #[.int .i64 0, .int .i64 0] 70)) w.heap.size := by
    have hc := CellsAt.mk_alloc w [.int .i64 0, .int .i64 0] 70
    exact ⟨⟨0, 0, hc.c 0 _ rfl, hc.c 1 _ rfl⟩, hc.fz⟩
  have HP := hid hp
  clear hp
  refine calls_via fun K hK => ?_
  go_enter Tryz.func13, Tryz.ntmps13
  go_wp2_with fail
  exact hK.out _ _ ⟨rfl, HP.out, (Fr.refl _ _).alloc _⟩
theorem newKM_any (w : World) {p : Nat} (h : PMAt w p) : Calls Tryz.prog 14 #[.pointer (some ⟨p, 0, none⟩)] w fun e w' => e = .returned (ptrV w.heap.size) ∧ KmAt w' w.heap.size p ∧ Fr [] w w' := by
  have hf : Fr [] w (w.alloc (Obj.cells #[.pointer (some ⟨p, 0, none⟩)] 72)) := (Fr.refl _ _).alloc _
  have hp : KmAt (w.alloc (Obj.cells #[.pointer (some ⟨p, 0, none⟩)] 72)) w.heap.size p := ⟨(CellsAt.mk_alloc w [.pointer (some ⟨p, 0, none⟩)] 72).c 0 _ rfl, h.fr hf (by simp)⟩
  have HP := hid hp
  clear hp h hf
  refine calls_via fun K hK => ?_
  go_enter Tryz.func14, Tryz.ntmps14
  go_wp2_with fail
  exact hK.out _ _ ⟨rfl, HP.out, (Fr.refl _ _).alloc _⟩
theorem newMS_any (w : World) : Calls Tryz.prog 12 #[] w fun e w' => ∃ m, e = .returned (ptrV m) ∧ MsAt w' m w.heap.size ∧ w.heap.size < m ∧ Fr [] w w' := by
  refine calls_via fun K hK => ?_
  go_enter Tryz.func12, Tryz.ntmps12
  go_wp2_with fail
  refine (newPM_any w).mono ?_
  rintro e w1 ⟨rfl, hp, hf⟩
  have HP := hid hp
  have HF := hid hf
  have hc : (w1.alloc (Obj.cells #[.pointer (some ⟨w.heap.size, 0, none⟩)] 68)).cell? ⟨w1.heap.size, 0, none⟩ = some (.pointer (some ⟨w.heap.size, 0, none⟩)) := (CellsAt.mk_alloc w1 [.pointer (some ⟨w.heap.size, 0, none⟩)] 68).c 0 _ rfl
  have HC := hid hc
  clear hp hf hc
  unfold ptrV
  go_wp2_with fail
  exact hK.out _ _ ⟨w1.heap.size, rfl, ⟨HC.out, HP.out.fr ((Fr.refl [] w1).alloc _) (by simp)⟩, HP.out.lt, HF.out.alloc _⟩
theorem newLrn_any (w : World) (tb wb : Nat) : Calls Tryz.prog 22 #[.pointer (some ⟨tb, 0, none⟩), .pointer (some ⟨wb, 0, none⟩)] w fun e w' => e = .returned (ptrV w.heap.size) ∧ LrnAt w' w.heap.size tb wb .clean ∧ Fr [] w w' := by
  have hp : LrnAt (w.alloc (Obj.cells #[.pointer (some ⟨tb, 0, none⟩), .pointer (some ⟨wb, 0, none⟩), .int .u16 0, .int .u16 0, .int .u16 0, .int .i64 0, .int .i64 0] 112)) w.heap.size tb wb .clean := by
    have hc := CellsAt.mk_alloc w [.pointer (some ⟨tb, 0, none⟩), .pointer (some ⟨wb, 0, none⟩), .int .u16 0, .int .u16 0, .int .u16 0, .int .i64 0, .int .i64 0] 112
    exact ⟨⟨hc.c 0 _ rfl, hc.c 1 _ rfl, hc.c 2 _ rfl, hc.c 3 _ rfl, hc.c 4 _ rfl, hc.c 5 _ rfl, hc.c 6 _ rfl, hc.fz⟩, by decide, by decide, by decide⟩
  have HP := hid hp
  clear hp
  refine calls_via fun K hK => ?_
  go_enter Tryz.func22, Tryz.ntmps22
  go_wp2_with fail
  exact hK.out _ _ ⟨rfl, HP.out, (Fr.refl _ _).alloc _⟩
theorem z117a : ((List.range 64).all fun i => isZ .u16 Tryz.zeroCells117[1 + i]?) = true := by kernel_rfl
theorem z117b : ((List.range 64).all fun i => isZ .u16 Tryz.zeroCells117[65 + i]?) = true := by kernel_rfl
theorem z117c : (isZ .u64 Tryz.zeroCells117[129]? && isZ .i64 Tryz.zeroCells117[130]?) = true := by kernel_rfl
theorem newChk_any (w : World) (q : Nat) : Calls Tryz.prog 24 #[.pointer (some ⟨q, 0, none⟩)] w fun e w' => e = .returned (ptrV w.heap.size) ∧ CkAt w' w.heap.size q (fun _ => none) ∧ Fr [] w w' := by
  have hp : CkAt (w.alloc (Obj.cells (Tryz.zeroCells117.setIfInBounds 0 (.pointer (some ⟨q, 0, none⟩))) 117)) w.heap.size q (fun _ => none) := by
    have hcd := z117c
    rw [Bool.and_eq_true] at hcd
    refine ⟨{ p := .pointer (some ⟨q, 0, none⟩), pos := fun _ => 0, neg := fun _ => 0, used := 0, empties := 0 }, ⟨?_, ?_, ?_, ?_, ?_, fun i => frozA _ _ _ i⟩, ⟨rfl, fun s _ => rfl, fun s _ => rfl, fun s _ => by simp, by show (0 : Nat) < 2 ^ 64; decide, ?_, fun s _ c h => by simp at h⟩⟩
    · rw [cellA, Array.getElem?_setIfInBounds_self_of_lt (by simp)]
    · intro i hi; rw [cellA]; exact set0 (allZ z117a i hi) (by omega)
    · intro i hi; rw [cellA]; exact set0 (allZ z117b i hi) (by omega)
    · rw [cellA]; exact set0 (isZ_eq hcd.1) (by omega)
    · rw [cellA]; exact set0 (isZ_eq hcd.2) (by omega)
    · show (0 : Int) = ((emptyF (fun _ => none) : Nat) : Int)
      have : emptyF (fun _ => none) = 0 := by unfold emptyF; simp [hasRow]
      rw [this]; rfl
  have HP := hid hp
  clear hp
  refine calls_via fun K hK => ?_
  go_enter Tryz.func24, Tryz.ntmps24
  go_wp2_with fail
  exact hK.out _ _ ⟨rfl, HP.out, (Fr.refl _ _).alloc _⟩

theorem z110a : ((List.range 676).all fun i => isZ .i64 Tryz.zeroCells110[1 + i]?) = true := by kernel_rfl
theorem z110b : ((List.range 29).all fun i => isZ .u64 Tryz.zeroCells110[677 + i]?) = true := by kernel_rfl
theorem z110c : isZ .i64 Tryz.zeroCells110[706]? = true := by kernel_rfl
theorem newWat_any (w : World) (tb : Nat) : Calls Tryz.prog 21 #[.pointer (some ⟨tb, 0, none⟩)] w fun e w' => e = .returned (ptrV w.heap.size) ∧ WatAt w' w.heap.size tb .empty ∧ Fr [] w w' := by
  have hp : WatAt (w.alloc (Obj.cells (Tryz.zeroCells110.setIfInBounds 0 (.pointer (some ⟨tb, 0, none⟩))) 110)) w.heap.size tb .empty := by
    refine ⟨{ t := .pointer (some ⟨tb, 0, none⟩), lits := fun _ => 0, size := fun _ => 0, used := 0, fresh := 0, weak := 0, list := fun _ => 0, visits := 0 }, ⟨?_, ?_, ?_, ?_, ?_, ?_, ?_, ?_, fun i => frozA _ _ _ i⟩, ?_⟩
    · rw [cellA, Array.getElem?_setIfInBounds_self_of_lt (by simp)]
    · intro i hi; rw [cellA]; exact set0 (allZ z110a i (by omega)) (by omega)
    · intro i hi; rw [cellA]; exact set0 (by have := allZ z110a (624 + i) (by omega); rwa [show 1 + (624 + i) = 625 + i from by omega] at this) (by omega)
    · rw [cellA]; exact set0 (allZ z110b 0 (by omega)) (by omega)
    · rw [cellA]; exact set0 (allZ z110b 1 (by omega)) (by omega)
    · rw [cellA]; exact set0 (allZ z110b 2 (by omega)) (by omega)
    · intro i hi; rw [cellA]; exact set0 (by have := allZ z110b (3 + i) (by omega); rwa [show 677 + (3 + i) = 680 + i from by omega] at this) (by omega)
    · rw [cellA]; exact set0 (isZ_eq z110c) (by omega)
    · exact ⟨rfl, fun _ _ => by simp [WatchS.empty], fun _ _ => by simp [WatchS.empty], fun _ _ => by simp [WatchS.empty], fun _ _ => rfl, fun _ _ i hi => by simp [WatchS.empty] at hi, rfl, rfl, rfl, fun _ _ => rfl, by simp [WatchS.empty], by simp [WatchS.empty], by simp [WatchS.empty], fun _ _ => by simp [WatchS.empty]⟩
  have HP := hid hp
  clear hp
  refine calls_via fun K hK => ?_
  go_enter Tryz.func21, Tryz.ntmps21
  go_wp2_with fail
  exact hK.out _ _ ⟨rfl, HP.out, (Fr.refl _ _).alloc _⟩
theorem z104a : ((List.range 15).all fun i => isZ .i64 Tryz.zeroCells104[0 + i]?) = true := by kernel_rfl
theorem z104b : ((List.range 13).all fun i => isZ .i8 Tryz.zeroCells104[15 + i]?) = true := by kernel_rfl
theorem z104c : ((List.range 53).all fun i => isZ .i64 Tryz.zeroCells104[28 + i]?) = true := by kernel_rfl
def trailR0 (k : Nat) : TrailR := { stack := fun _ => 0, top := 0, cursor := 0, depth := 0, val := fun _ => 0, level := fun i => if i < k then -1 else 0, reason := fun i => if i < k then -1 else 0, place := fun i => if i < k then -1 else 0, lim := fun _ => 0, pops := 0 }
theorem upd_lt (k : Nat) : upd (fun i => if i < k then (-1 : Int) else 0) k (-1) = fun i => if i < k + 1 then -1 else 0 := by
  funext i
  unfold upd
  by_cases h : i = k
  · rw [if_pos h, if_pos (by omega)]
  · rw [if_neg h]
    show (if i < k then (-1 : Int) else 0) = _
    by_cases h2 : i < k
    · rw [if_pos h2, if_pos (by omega)]
    · rw [if_neg h2, if_neg (by omega)]
set_option maxRecDepth 100000 in
set_option maxHeartbeats 4000000 in
theorem newTrl_any (w : World) : Calls Tryz.prog 20 #[] w fun e w' => e = .returned (ptrV w.heap.size) ∧ TrlAt w' w.heap.size .empty ∧ Fr [] w w' := by
  obtain ⟨N, hN⟩ : ∃ N, w.heap.size = N := ⟨_, rfl⟩
  have hp : TrailAt (w.alloc (Obj.cells Tryz.zeroCells104 104)) w.heap.size (trailR0 0) := by
    refine ⟨?_, ?_, ?_, ?_, ?_, ?_, ?_, ?_, ?_, ?_, fun i => frozA _ _ _ i⟩
    · intro i hi; rw [cellA]; have := allZ z104a i (by omega); rwa [Nat.zero_add] at this
    · rw [cellA]; exact allZ z104a 12 (by omega)
    · rw [cellA]; exact allZ z104a 13 (by omega)
    · rw [cellA]; exact allZ z104a 14 (by omega)
    · intro i hi; rw [cellA]; exact allZ z104b i hi
    · intro i hi; rw [cellA]; exact allZ z104c i (by omega)
    · intro i hi; rw [cellA]; have := allZ z104c (13 + i) (by omega); rwa [show 28 + (13 + i) = 41 + i from by omega] at this
    · intro i hi; rw [cellA]; have := allZ z104c (26 + i) (by omega); rwa [show 28 + (26 + i) = 54 + i from by omega] at this
    · intro i hi; rw [cellA]; have := allZ z104c (39 + i) (by omega); rwa [show 28 + (39 + i) = 67 + i from by omega] at this
    · rw [cellA]; exact allZ z104c 52 (by omega)
  obtain ⟨w0, hw0⟩ : ∃ z, w.alloc (Obj.cells Tryz.zeroCells104 104) = z := ⟨_, rfl⟩
  have hf0 : Fr [] w w0 := by rw [← hw0]; exact (Fr.refl _ _).alloc _
  rw [hw0, hN] at hp
  rw [hN]
  have HP := hid hp
  have HF := hid hf0
  have HN := hid hN
  clear hp hf0
  refine calls_via fun K hK => ?_
  go_enter Tryz.func20, Tryz.ntmps20
  go_wp2_with fail
  clear hw0 hN
  go_loopg [2] 13 (fun g i wr => ∃ k : Nat, g + k = 13 ∧ i = .int .i64 (k : Nat) ∧ TrailAt wr N (trailR0 k) ∧ Fr [N] w0 wr)
  case atStart => exact ⟨0, by omega, rfl, HP.out, Fr.refl _ _⟩
  case round =>
    obtain ⟨k, hg, rfl, ht, hf⟩ := hrel
    have HT := hid ht
    have HF2 := hid hf
    have HG := hid hg
    by_cases hlt : k < 13
    · have hki : (k : Int) ≤ 12 := by omega
      have hki2 : (k : Int) < 13 := by omega
      have c1 := ht.level k hlt
      have c2 := ht.reason k hlt
      have c3 := ht.place k hlt
      have cz := ht.froz
      have HLT := hid hlt
      clear ht hf hg hlt
      go_wp2_with fail
      go_roundg (gk - 1)
      case measure => have := HG.out; have := HLT.out; omega
      case rel =>
        have hg := HG.out
        have hlt := HLT.out
        have h3 := ((HT.out.set_level k hlt (-1)).set_reason k hlt (-1)).set_place k hlt (-1)
        have e : ({ { { trailR0 k with level := upd (trailR0 k).level k (-1) } with reason := upd (trailR0 k).reason k (-1) } with place := upd (trailR0 k).place k (-1) } : TrailR) = trailR0 (k + 1) := by
          unfold trailR0
          simp only [upd_lt]
        refine ⟨k + 1, by omega, by simp, ?_, ((HF2.out.setG _ _).setG _ _).setG _ _⟩
        rw [← e]; exact h3
    · have hk13 : k = 13 := by omega
      subst hk13
      clear ht hf hg hlt
      go_wp2_with fail
      refine hK.out _ _ ⟨rfl, ⟨_, HT.out, ⟨by simp [TrailS.empty], by simp [TrailS.empty], by simp [TrailS.empty], rfl, rfl, rfl, by simp [TrailS.empty], ?_, ?_, ?_, ?_, by simp [TrailS.empty]⟩, ⟨by simp [TrailS.empty], by simp [TrailS.empty], by simp [TrailS.empty], by simp [TrailS.empty], by simp [TrailS.empty]⟩⟩, HF.out.trans2 HF2.out (fun x hx hlt => by have := HN.out; simp at hx; omega)⟩
      · intro v hv; simp [trailR0, TrailS.empty, TrailS.value, findV, valOf]
      · intro v hv; simp [trailR0, hv, TrailS.empty, TrailS.level, idxV, levelOf]
      · intro v hv; simp [trailR0, hv, TrailS.empty, TrailS.reason, findV, reasonOf]
      · intro v hv; simp [trailR0, hv, TrailS.empty, TrailS.place, idxV, placeOf]
end Go.Proofs.Qxb6500354aGreat
