/- The walk over api: Itoa. -/
import Derived.Test.Qxb6500354aGreatByt
namespace Go.Proofs.Qxb6500354aGreat
open Go.RowKit
set_option linter.unusedVariables false
set_option linter.unusedSimpArgs false

/-- The digits of a small number. -/
def digs (x : Int) : Nat := if x = 0 then 0 else if 10 ≤ x.natAbs then 2 else 1
theorem dig_all : ∀ k : Fin 25, ((k.val : Int) - 12 ≠ 0 → digs (((k.val : Int) - 12).tdiv 10) + 1 ≤ digs ((k.val : Int) - 12)) ∧ (((k.val : Int) - 12).tdiv 10).natAbs ≤ 12 := by decide
theorem dig_step {m : Int} (h : m.natAbs ≤ 12) (h0 : m ≠ 0) : digs (m.tdiv 10) + 1 ≤ digs m ∧ (m.tdiv 10).natAbs ≤ 12 := by
  obtain ⟨a, b⟩ := dig_all ⟨(m + 12).toNat, by omega⟩
  have e : (((m + 12).toNat : Nat) : Int) - 12 = m := by omega
  rw [e] at a b
  exact ⟨a h0, b⟩
/-- Twenty-four bytes in a block. -/
structure BufAt (w : World) (B : Nat) (xs : List Int) : Prop where
  len : xs.length = 24
  c : ∀ j, j < 24 → w.cell? ⟨B, j, none⟩ = some (.int .u8 (xs.getD j 0))
  fz : ∀ i, w.frozen? ⟨B, i, none⟩ = false
theorem BufAt.set {w : World} {B : Nat} {xs : List Int} (h : BufAt w B xs) (i : Nat) (hi : i < 24) (x : Int) : BufAt (w.setCell ⟨B, i, none⟩ (.int .u8 x)) B (xs.set i x) := by
  refine ⟨by rw [List.length_set]; exact h.len, fun j hj => ?_, fun j => (World.frozen?_setCell _ _ _ _).trans (h.fz j)⟩
  by_cases e : j = i
  · subst e
    rw [cellSet (h.c j hj)]
    simp [List.getD_eq_getElem?_getD, List.getElem?_set_self (show j < xs.length by rw [h.len]; exact hj)]
  · rw [cellNe (fun q => e q.symm), h.c j hj]
    simp [List.getD_eq_getElem?_getD, List.getElem?_set_ne (fun q => e q.symm)]
theorem conv_buf {w : World} {B : Nat} {xs : List Int} (h : BufAt w B xs) {k : Nat} (hk : k < 24) :
    (convert 95 9 (.slice (some ⟨B, k, none⟩) (24 - k) (24 - k))).run Tryz.prog w = .ok (.string (strOfNums (xs.drop k))) w := by
  refine run_convert_bytes_arg (P := Tryz.prog) w 95 5 Tryz.underlying95 Tryz.underlying5 B k (24 - k) (24 - k) (xs.drop k) (by rw [List.length_drop, h.len]) ?_ 9 Tryz.underlying9
  intro i hi
  rw [h.c (k + i) (by omega)]
  simp [List.getD_eq_getElem?_getD, List.getElem?_drop]
set_option maxRecDepth 100000 in
set_option maxHeartbeats 4000000 in
theorem itoa_any (x : Int) (hx : good x = true) (w : World) : Calls Tryz.prog 95 #[.int .i64 x] w fun e w' => (∃ s : ByteArray, e = .returned (.string s) ∧ s.size ≤ 24) ∧ Fr [] w w' := by
  have h12 := (good_iff x).1 hx
  have hb0 : (x == 0) = false := by simpa using h12.1
  have H12 := hid h12
  clear hx h12
  obtain ⟨B, hB⟩ : ∃ B, w.heap.size = B := ⟨_, rfl⟩
  have HB := hid hB
  obtain ⟨w0, hw0⟩ : ∃ w0, w.alloc (Obj.cells #[.int .u8 0, .int .u8 0, .int .u8 0, .int .u8 0, .int .u8 0, .int .u8 0, .int .u8 0, .int .u8 0, .int .u8 0, .int .u8 0, .int .u8 0, .int .u8 0, .int .u8 0, .int .u8 0, .int .u8 0, .int .u8 0, .int .u8 0, .int .u8 0, .int .u8 0, .int .u8 0, .int .u8 0, .int .u8 0, .int .u8 0, .int .u8 0] 175) = w0 := ⟨_, rfl⟩
  have hf0 : Fr [] w w0 := by rw [← hw0]; exact (Fr.refl _ _).alloc _
  have hb0' : BufAt w0 B (List.replicate 24 0) := by
    have hc := CellsAt.mk_alloc w (List.replicate 24 (.int .u8 0)) 175
    change CellsAt (w.alloc (Obj.cells #[.int .u8 0, .int .u8 0, .int .u8 0, .int .u8 0, .int .u8 0, .int .u8 0, .int .u8 0, .int .u8 0, .int .u8 0, .int .u8 0, .int .u8 0, .int .u8 0, .int .u8 0, .int .u8 0, .int .u8 0, .int .u8 0, .int .u8 0, .int .u8 0, .int .u8 0, .int .u8 0, .int .u8 0, .int .u8 0, .int .u8 0, .int .u8 0] 175)) _ _ at hc
    rw [hw0, hB] at hc
    refine ⟨by simp, fun j hj => hc.c j _ ?_, hc.fz⟩
    rw [List.getElem?_replicate, if_pos hj, List.getD_eq_getElem?_getD, List.getElem?_replicate, if_pos hj]; rfl
  have HF0 := hid hf0
  have HBF := hid hb0'
  clear hf0 hb0'
  refine calls_via fun K hK => ?_
  go_enter Tryz.func95, Tryz.ntmps95
  go_wp2_with fail
  clear hw0 hB
  go_loopg [0, 5] 2 (fun g nv iv wr => ∃ (m : Int) (k : Nat) (xs : List Int), nv = .int .i64 m ∧ iv = .int .i64 (k : Nat) ∧ m.natAbs ≤ 12 ∧ digs m ≤ g ∧ 22 + digs m ≤ k ∧ k ≤ 24 ∧ (m = x ∨ k ≤ 23) ∧ BufAt wr B xs ∧ Fr [] w wr)
  case atStart =>
    refine ⟨x, 24, _, rfl, rfl, H12.out.2, ?_, ?_, Nat.le_refl _, .inl rfl, HBF.out, HF0.out⟩
    · unfold digs; split; · omega
      split <;> omega
    · unfold digs; split; · omega
      split <;> omega
  case round =>
    obtain ⟨m, k, xs, rfl, rfl, hm, hg, hk, hk2, hx3, hbf, hf⟩ := hrel
    have HBF := hid hbf
    have HF := hid hf
    have HMG := hid (And.intro hg hk)
    by_cases h0 : m = 0
    · subst h0
      have hk22 : 22 ≤ k := by have : digs 0 = 0 := rfl; omega
      have hk23 : k ≤ 23 := hx3.resolve_left (fun e => H12.out.1 e.symm)
      have cz := hbf.fz
      clear hx3
      by_cases hn : x < 0
      · obtain ⟨j, rfl⟩ : ∃ j, k = j + 1 := ⟨k - 1, by omega⟩
        have hj24 : j < 24 := by omega
        have hji : (j : Int) < 24 := by omega
        have hji2 : (j : Int) ≤ 24 := by omega
        have hj0 : (0 : Int) ≤ j := by omega
        have cj := hbf.c j hj24
        have hcv := conv_buf (hbf.set j hj24 45) (k := j) (by omega)
        have hne : ¬ 24 = j := by omega
        have HJ : Hid (j ≤ 24) := hid (by omega)
        clear hk hk2 hbf hf hg hm hk22 hk23
        go_wp2_with fail
        exact hK.out _ _ ⟨⟨_, rfl, by rw [strOfNums_size, List.length_drop, List.length_set, HBF.out.len]; omega⟩, HF.out.set (fun h => absurd h (by have := HB.out; simp; omega)) _⟩
      · have hji2 : (k : Int) ≤ 24 := by omega
        have hj0 : (0 : Int) ≤ k := by omega
        have hcv := conv_buf hbf (k := k) (by omega)
        have hne : ¬ 24 = k := by omega
        clear hk hk2 hbf hf hg hm hk22 hk23
        go_wp2_with fail
        exact hK.out _ _ ⟨⟨_, rfl, by rw [strOfNums_size, List.length_drop, HBF.out.len]; omega⟩, HF.out⟩
    · have hb1 : (m != 0) = true := by simpa using h0
      have hd1 : 1 ≤ digs m := by unfold digs; rw [if_neg h0]; split <;> omega
      have hq := dig_step hm h0
      obtain ⟨j, rfl⟩ : ∃ j, k = j + 1 := ⟨k - 1, by omega⟩
      have hj24 : j < 24 := by omega
      have hji : (j : Int) < 24 := by omega
      have hj0 : (0 : Int) ≤ j := by omega
      have cj := hbf.c j hj24
      have cz := hbf.fz
      have hma : -12 ≤ m := by omega
      have hmb : m ≤ 12 := by omega
      have HQ := hid hq
      have HD1 := hid hd1
      have HK2 := hid hk2
      clear hq hd1 hk hk2 hbf hf hg h0 hm hx3
      by_cases hneg : m.tmod 10 < 0
      · go_wp2_with fail
        go_roundg (gk - 1)
        case measure => have := HMG.out; have := HD1.out; omega
        case rel =>
          have hmg := HMG.out
          have hq := HQ.out
          exact ⟨_, j, _, rfl, rfl, hq.2, by omega, by omega, by omega, .inr (by omega), HBF.out.set j hj24 _, HF.out.set (fun h => absurd h (by have := HB.out; simp; omega)) _⟩
      · go_wp2_with fail
        go_roundg (gk - 1)
        case measure => have := HMG.out; have := HD1.out; omega
        case rel =>
          have hmg := HMG.out
          have hq := HQ.out
          exact ⟨_, j, _, rfl, rfl, hq.2, by omega, by omega, by omega, .inr (by omega), HBF.out.set j hj24 _, HF.out.set (fun h => absurd h (by have := HB.out; simp; omega)) _⟩
end Go.Proofs.Qxb6500354aGreat
