/- copy of one-cell elements into a window of a row. -/
import Derived.Test.Qxb6500353aGreatCpv
namespace Go.Proofs.Qxb6500353aGreat
open Go.RowKit
set_option linter.unusedVariables false
set_option linter.unusedSimpArgs false

theorem op_cpo {α : Type} {E : Nat} {mk : α → Value} {o : Oper} {a : Act} {K : Act → World → Prop} {Q : Exit → Act → World → Prop} {w : World} (d s : Operand) (dT sT : TypeId)
    (ho : o.op = .call { callee := .builtin .copy, args := #[d, s], argTypes := #[dT, sT] }) (hu : Tryz.prog.underlying dT = some (.slice E)) (hsz : (Tryz.prog.info? E).map (·.size) = some 1)
    (g off m dn dcap sg so k scap : Nat) {f x : Nat → α} (hd : a.eval d = .slice (some ⟨g, off, none⟩) dn dcap) (hs : a.eval s = .slice (some ⟨sg, so, none⟩) k scap) (hA : Arr E mk w g m f) (hkd : k ≤ dn) (hkm : off + k ≤ m)
    (hx : Cel mk w sg so k x) (h1 : ∀ v, (mk v).oneCell' = true)
    (h : ∀ w', Arr E mk w' g m (fun i => if off ≤ i ∧ i < off + k then x (i - off) else f i) → w'.heap.size = w.heap.size → Fr (One g) w w' → K (a.put o.dst (goInt k)) w') :
    Oper.wp Tryz.prog o a w K Q := by
  obtain ⟨cur, hg, hn, hc⟩ := hA
  have hl0 : ((List.range k).map fun i => mk (x i)).length = k := by simp
  have hl := run_loadCells_list (P := Tryz.prog) w ⟨sg, so, none⟩ ((List.range k).map fun i => mk (x i)) (by
    intro j v hv
    obtain ⟨hj, rfl⟩ := List.getElem?_eq_some_iff.1 hv
    rw [hl0] at hj
    rw [addrAdd, hx j hj]; simp)
  rw [hl0] at hl
  have hst := run_storeCells_at Tryz.prog g off E ((List.range k).map fun i => mk (x i)) 0 cur w hg (by rw [hl0]; omega) (by
    intro v hv
    obtain ⟨i, hi, rfl⟩ := List.mem_map.1 hv
    exact h1 _)
  rw [hl0] at hst
  have hrun : (Builtin.copy_ #[dT, sT] o.type #[.slice (some ⟨g, off, none⟩) dn dcap, .slice (some ⟨sg, so, none⟩) k scap]).run Tryz.prog w =
      .ok (goInt k) (w.setRow g (cur.toList.take (off + 0) ++ ((List.range k).map fun i => mk (x i)) ++ cur.toList.drop (off + 0 + k)).toArray) := by
    cases hq : Tryz.prog.info? E with
    | none => simp [hq] at hsz
    | some i =>
      have hi : i.size = 1 := by simpa [hq] using hsz
      simp [Builtin.copy_, run_underlying hu, Builtin.lenOf, Builtin.firstCells, sizeOf, typeInfo, hq, hi, Nat.min_eq_left hkd, hl]
      simp at hst
      rw [hst]
      simp [Result.andThen]
  unfold Oper.wp
  simp [execOp, ho, resolve, invoke, builtin, hd, hs, hrun, Result.andThen]
  refine h _ ⟨_, setRow_heap w g cur _ E (0, 0) hg, ?_, fun i hi => ?_⟩ (setRow_size _ _ _) ⟨rfl, rfl, rfl, by simp [World.setRow], fun k hk hne => setRow_other w g k _ (fun e => hne e)⟩
  · simp; omega
  · have hcur : cur.toList.length = m := by simpa using hn
    have e1 : (cur.toList.take off).length = off := by rw [List.length_take]; omega
    have e0 : (((cur.toList.take off) ++ (((List.range k).map fun i => mk (x i)) ++ cur.toList.drop (off + k))).toArray)[i]? = some (mk (if off ≤ i ∧ i < off + k then x (i - off) else f i)) := by
      rw [List.getElem?_toArray]
      by_cases h1 : i < off
      · rw [List.getElem?_append_left (by omega), List.getElem?_take, if_pos h1, if_neg (by omega)]
        have := hc i hi; simpa using this
      · rw [List.getElem?_append_right (by omega), e1]
        by_cases h2 : i < off + k
        · rw [List.getElem?_append_left (by rw [hl0]; omega), if_pos (by omega), List.getElem?_map, List.getElem?_range (by omega)]
          rfl
        · rw [List.getElem?_append_right (by rw [hl0]; omega), if_neg (by omega), hl0, List.getElem?_drop, show off + k + (i - off - k) = i by omega]
          have := hc i hi; simpa using this
    simpa using e0
theorem wp_cpo {α : Type} {E : Nat} {mk : α → Value} {ops : Array Oper} {rest : List Oper} {o : Oper} {a : Act} {Q : Exit → Act → World → Prop} {w : World} (hgd : o.guard = none) (d s : Operand) (dT sT : TypeId)
    (ho : o.op = .call { callee := .builtin .copy, args := #[d, s], argTypes := #[dT, sT] }) (hu : Tryz.prog.underlying dT = some (.slice E)) (hsz : (Tryz.prog.info? E).map (·.size) = some 1)
    (g off m dn dcap sg so k scap : Nat) {f x : Nat → α} (hd : a.eval d = .slice (some ⟨g, off, none⟩) dn dcap) (hs : a.eval s = .slice (some ⟨sg, so, none⟩) k scap) (hA : Arr E mk w g m f) (hkd : k ≤ dn) (hkm : off + k ≤ m)
    (hx : Cel mk w sg so k x) (h1 : ∀ v, (mk v).oneCell' = true)
    (h : ∀ w', Arr E mk w' g m (fun i => if off ≤ i ∧ i < off + k then x (i - off) else f i) → w'.heap.size = w.heap.size → Fr (One g) w w' → wpList Tryz.prog ops Q rest (a.put o.dst (goInt k)) w') :
    wpList Tryz.prog ops Q (o :: rest) a w :=
  wpList_plain hgd fun K hK => op_cpo d s dT sT ho hu hsz g off m dn dcap sg so k scap hd hs hA hkd hkm hx h1 fun w' h2 h3 h4 => hK _ _ (h w' h2 h3 h4)
end Go.Proofs.Qxb6500353aGreat
