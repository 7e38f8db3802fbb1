/- make and copy for elements of several cells. -/
import Derived.Test.Qxb6500353aGreatCpw
import Derived.Test.Qxb6500353aGreatObj2
import Derived.Deep.RegionLaw
namespace Go.Proofs.Qxb6500353aGreat
open Go.RowKit
set_option linter.unusedVariables false
set_option linter.unusedSimpArgs false

/-- make of n elements (room for cap) of several cells: the very world. -/
theorem wp_mkg {ops : Array Oper} {rest : List Oper} {o : Oper} {a : Act} {Q : Exit → Act → World → Prop} {w : World} (hgd : o.guard = none) (l c : Operand) (T E size bytes : Nat) (z : Value) (hop : o.op = Op.makeSlice T l c)
    (hu : Tryz.prog.underlying T = some (.slice E)) (hinfo : (Tryz.prog.info? E).map (fun i => (i.zero, i.size, i.bytes)) = some (some z, size, bytes)) (hz : z.cells.size = size)
    (L C : Int) (n cap N : Nat) (hN : w.heap.size = N) (hl : a.eval l = .int .i64 L) (hc : a.eval c = .int .i64 C) (hL : L = (n : Int)) (hC : C = (cap : Int)) (hnc : n ≤ cap) (hb : bytes * cap ≤ 281474976710656) (h63 : cap ≤ 1099511627776)
    (h : ∀ w', w'.heap.size = N + 1 → Arr E mkV w' N (cap * size) (fun i => z.cells.getD (i % size) undef) → Fr Nob w w' → wpList Tryz.prog ops Q rest (a.put o.dst (.slice (some ⟨N, 0, none⟩) n cap)) w') :
    wpList Tryz.prog ops Q (o :: rest) a w := by
  obtain ⟨i0, hi, hz0, hz1, hz2⟩ := info_parts hinfo
  subst hN hL hC
  have hb' : (i0.bytes : Int) * (cap : Int) ≤ 281474976710656 := by
    rw [hz2]
    have h : ((bytes * cap : Nat) : Int) ≤ 281474976710656 := by omega
    rwa [Int.natCast_mul] at h
  refine wpList_plain hgd fun K hK => ?_
  have hrun := run_make (P := Tryz.prog) w T E i0 z hu hi hz0 .i64 .i64 n cap (by omega) (by omega) hb' (by omega)
  simp only [Int.toNat_natCast] at hrun
  unfold Oper.wp
  simp [execOp, hop, hl, hc, hrun, Result.andThen]
  refine hK _ _ (h _ (by simp) ⟨_, heap_alloc_new w _, by rw [size_madeCells, hz1], fun i hi2 => ?_⟩ ((Fr.refl _ _).alloc _))
  have hsz : 0 < size := Nat.pos_of_ne_zero (fun e => by subst e; simp at hi2)
  have hm : i % size < z.cells.size := by rw [hz]; exact Nat.mod_lt _ hsz
  have hi3 : i < cap * i0.size := by rw [hz1]; exact hi2
  simp [madeCells, hi3, mkV, hz]
  rw [getElem!_pos z.cells (i % size) hm, Array.getElem?_eq_getElem hm]; rfl

theorem op_cpg {o : Oper} {a : Act} {K : Act → World → Prop} {Q : Exit → Act → World → Prop} {w : World} (d s : Operand) (dT sT E : TypeId) (size : Nat)
    (ho : o.op = .call { callee := .builtin .copy, args := #[d, s], argTypes := #[dT, sT] }) (hu : Tryz.prog.underlying dT = some (.slice E)) (hsz : (Tryz.prog.info? E).map (·.size) = some size)
    (g m dn dcap k scap : Nat) (sp : Option Addr) {f x : Nat → Value} (hd : a.eval d = .slice (some ⟨g, 0, none⟩) dn dcap) (hs : a.eval s = .slice sp k scap) (hA : Arr E mkV w g m f) (hkd : k ≤ dn) (hkm : k * size ≤ m)
    (hx : k = 0 ∨ ∃ sg so, sp = some ⟨sg, so, none⟩ ∧ Cel mkV w sg so (k * size) x)
    (h1 : ∀ i, i < k * size → (x i).oneCell' = true) (h : ∀ w', Arr E mkV w' g m (fun i => if i < k * size then x i else f i) → w'.heap.size = w.heap.size → Fr (One g) w w' → K (a.put o.dst (goInt k)) w') :
    Oper.wp Tryz.prog o a w K Q := by
  cases hq : Tryz.prog.info? E with
  | none => simp [hq] at hsz
  | some i =>
    have hi : i.size = size := by simpa [hq] using hsz
    by_cases hk0 : k = 0
    · subst hk0
      have hl : ∀ (x : Addr), (loadCells x 0).run Tryz.prog w = .ok #[] w := fun x => by simpa using run_loadCells_list (P := Tryz.prog) w x [] (by simp)
      have hrun : (Builtin.copy_ #[dT, sT] o.type #[.slice (some ⟨g, 0, none⟩) dn dcap, .slice sp 0 scap]).run Tryz.prog w = .ok (goInt 0) w := by
        cases sp <;> simp [Builtin.copy_, run_underlying hu, Builtin.lenOf, Builtin.firstCells, sizeOf, typeInfo, hq, storeCells, hl]
      unfold Oper.wp
      simp [execOp, ho, resolve, invoke, builtin, hd, hs, hrun, Result.andThen]
      exact h w (hA.congr fun i hi => by simp) rfl (Fr.refl _ _)
    · rcases hx with hx | ⟨sg, so, rfl, hx⟩
      · exact absurd hx hk0
      · obtain ⟨cur, hg, hn, hc⟩ := hA
        have hl0 : ((List.range (k * size)).map x).length = k * size := by simp
        have hl := run_loadCells_list (P := Tryz.prog) w ⟨sg, so, none⟩ ((List.range (k * size)).map x) (by
          intro j v hv
          obtain ⟨hj, rfl⟩ := List.getElem?_eq_some_iff.1 hv
          rw [hl0] at hj
          rw [addrAdd, hx j hj]; simp [mkV])
        rw [hl0] at hl
        have hst := run_storeCells_at Tryz.prog g 0 E ((List.range (k * size)).map x) 0 cur w hg (by rw [hl0]; omega) (by
          intro v hv
          obtain ⟨i, hi, rfl⟩ := List.mem_map.1 hv
          exact h1 _ (List.mem_range.1 hi))
        rw [hl0] at hst
        have hrun : (Builtin.copy_ #[dT, sT] o.type #[.slice (some ⟨g, 0, none⟩) dn dcap, .slice (some ⟨sg, so, none⟩) k scap]).run Tryz.prog w =
            .ok (goInt k) (w.setRow g (cur.toList.take (0 + 0) ++ (List.range (k * size)).map x ++ cur.toList.drop (0 + 0 + k * size)).toArray) := by
          simp [Builtin.copy_, run_underlying hu, Builtin.lenOf, Builtin.firstCells, sizeOf, typeInfo, hq, hi, Nat.min_eq_left hkd, hl]
          simp at hst
          rw [hst]
          simp [Result.andThen]
        unfold Oper.wp
        simp [execOp, ho, resolve, invoke, builtin, hd, hs, hrun, Result.andThen]
        refine h _ ⟨_, setRow_heap w g cur _ E (0, 0) hg, ?_, fun i hi => ?_⟩ (setRow_size _ _ _) ⟨rfl, rfl, rfl, by simp [World.setRow], fun k hk hne => setRow_other w g k _ (fun e => hne e)⟩
        · simp; omega
        · by_cases e : i < k * size
          · simp [List.getElem?_append, e, mkV]
          · have := hc i hi
            simp [List.getElem?_append, e, mkV] at this ⊢
            rw [show k * size + (i - k * size) = i by omega]; exact this
theorem wp_cpg {ops : Array Oper} {rest : List Oper} {o : Oper} {a : Act} {Q : Exit → Act → World → Prop} {w : World} (hgd : o.guard = none) (d s : Operand) (dT sT E : TypeId) (size : Nat)
    (ho : o.op = .call { callee := .builtin .copy, args := #[d, s], argTypes := #[dT, sT] }) (hu : Tryz.prog.underlying dT = some (.slice E)) (hsz : (Tryz.prog.info? E).map (·.size) = some size)
    (g m dn dcap k scap : Nat) (sp : Option Addr) {f x : Nat → Value} (hd : a.eval d = .slice (some ⟨g, 0, none⟩) dn dcap) (hs : a.eval s = .slice sp k scap) (hA : Arr E mkV w g m f) (hkd : k ≤ dn) (hkm : k * size ≤ m)
    (hx : k = 0 ∨ ∃ sg so, sp = some ⟨sg, so, none⟩ ∧ Cel mkV w sg so (k * size) x)
    (h1 : ∀ i, i < k * size → (x i).oneCell' = true) (h : ∀ w', Arr E mkV w' g m (fun i => if i < k * size then x i else f i) → w'.heap.size = w.heap.size → Fr (One g) w w' → wpList Tryz.prog ops Q rest (a.put o.dst (goInt k)) w') :
    wpList Tryz.prog ops Q (o :: rest) a w :=
  wpList_plain hgd fun K hK => op_cpg d s dT sT E size ho hu hsz g m dn dcap k scap sp hd hs hA hkd hkm hx h1 fun w' h2 h3 h4 => hK _ _ (h w' h2 h3 h4)
theorem step_cpg {ops : Array Oper} {o : Oper} {a : Act} {w : World} {K : Act → World → Prop} {Q : Exit → Act → World → Prop} {E0 : Prop} (hgd : o.guard = none) (d s : Operand) (dT sT E : TypeId) (size : Nat)
    (ho : o.op = .call { callee := .builtin .copy, args := #[d, s], argTypes := #[dT, sT] }) (hu : Tryz.prog.underlying dT = some (.slice E)) (hsz : (Tryz.prog.info? E).map (·.size) = some size)
    (g m dn dcap k scap : Nat) (sp : Option Addr) {f x : Nat → Value} (hd : a.eval d = .slice (some ⟨g, 0, none⟩) dn dcap) (hs : a.eval s = .slice sp k scap) (hA : Arr E mkV w g m f) (hkd : k ≤ dn) (hkm : k * size ≤ m)
    (hx : k = 0 ∨ ∃ sg so, sp = some ⟨sg, so, none⟩ ∧ Cel mkV w sg so (k * size) x)
    (h1 : ∀ i, i < k * size → (x i).oneCell' = true) (h : ∀ w', Arr E mkV w' g m (fun i => if i < k * size then x i else f i) → w'.heap.size = w.heap.size → Fr (One g) w w' → K (a.put o.dst (goInt k)) w') :
    if Region.wanted o (yielded ops a.tmps) = true then Oper.wp Tryz.prog o a w K Q else E0 := by
  have hw : Region.wanted o (yielded ops a.tmps) = true := by simp [Region.wanted, hgd]
  rw [if_pos hw]
  exact op_cpg d s dT sT E size ho hu hsz g m dn dcap k scap sp hd hs hA hkd hkm hx h1 h
/-- copy of a string's bytes into a row of bytes, from place off on. -/
theorem op_cps {o : Oper} {a : Act} {K : Act → World → Prop} {Q : Exit → Act → World → Prop} {w : World} (d s : Operand) (dT sT : TypeId)
    (ho : o.op = .call { callee := .builtin .copy, args := #[d, s], argTypes := #[dT, sT] }) (hu : Tryz.prog.underlying dT = some (.slice 5))
    (g off m dn dcap : Nat) (str : ByteArray) {f : Nat → Nat} (hd : a.eval d = .slice (some ⟨g, off, none⟩) dn dcap) (hs : a.eval s = .string str) (hA : Arr 5 mkB w g m f) (hkd : str.size ≤ dn) (hkm : off + str.size ≤ m)
    (h : ∀ w', Arr 5 mkB w' g m (fun i => if off ≤ i ∧ i < off + str.size then (bytesOf str).getD (i - off) 0 else f i) → w'.heap.size = w.heap.size → Fr (One g) w w' → K (a.put o.dst (goInt str.size)) w') :
    Oper.wp Tryz.prog o a w K Q := by
  obtain ⟨cur, hg, hn, hc⟩ := hA
  have hl : (str.data.toList).length = str.size := rfl
  have hst := run_storeCells_at Tryz.prog g off 5 ((bytesOf str).map mkB) 0 cur w hg (by rw [List.length_map, bytesOf_len]; omega) (by
    intro v hv
    obtain ⟨x, _, rfl⟩ := List.mem_map.1 hv
    rfl)
  rw [List.length_map, bytesOf_len] at hst
  have hmin : Nat.min str.size dn = str.size := Nat.min_eq_left hkd
  have htk : List.take str.size (List.map (fun b : UInt8 => Value.int IntKind.u8 (b.toNat : Int)) str.data.toList) = (bytesOf str).map mkB := by
    rw [List.take_of_length_le (by rw [List.length_map, hl]; exact Nat.le_refl _)]
    unfold bytesOf
    rw [List.map_map]; rfl
  have hrun : (Builtin.copy_ #[dT, sT] o.type #[.slice (some ⟨g, off, none⟩) dn dcap, .string str]).run Tryz.prog w =
      .ok (goInt str.size) (w.setRow g (cur.toList.take (off + 0) ++ (bytesOf str).map mkB ++ cur.toList.drop (off + 0 + str.size)).toArray) := by
    cases hq : Tryz.prog.info? 5 with
    | none => have := Tryz.size5; rw [hq] at this; simp at this
    | some i =>
      simp [Builtin.copy_, run_underlying hu, Builtin.lenOf, Builtin.firstCells, sizeOf, typeInfo, hq, hmin]
      rw [htk]
      simp at hst
      rw [hst]
      simp [Result.andThen]
  unfold Oper.wp
  simp [execOp, ho, resolve, invoke, builtin, hd, hs, hrun, Result.andThen]
  refine h _ ⟨_, setRow_heap w g cur _ 5 (0, 0) hg, ?_, fun i hi => ?_⟩ (setRow_size _ _ _) ⟨rfl, rfl, rfl, by simp [World.setRow], fun k hk hne => setRow_other w g k _ (fun e => hne e)⟩
  · simp [bytesOf_len]; omega
  · have hcur : cur.toList.length = m := by simpa using hn
    have e1 : (cur.toList.take off).length = off := by rw [List.length_take]; omega
    have e0 : (((cur.toList.take off) ++ ((bytesOf str).map mkB ++ cur.toList.drop (off + str.size))).toArray)[i]? = some (mkB (if off ≤ i ∧ i < off + str.size then (bytesOf str).getD (i - off) 0 else f i)) := by
      rw [List.getElem?_toArray]
      by_cases h1 : i < off
      · rw [List.getElem?_append_left (by omega), List.getElem?_take, if_pos h1, if_neg (by omega)]
        have := hc i hi; simpa using this
      · rw [List.getElem?_append_right (by omega), e1]
        by_cases h2 : i < off + str.size
        · rw [List.getElem?_append_left (by rw [List.length_map, bytesOf_len]; omega), if_pos (by omega), List.getElem?_map, List.getD_eq_getElem?_getD, List.getElem?_eq_getElem (by rw [bytesOf_len]; omega)]
          rfl
        · rw [List.getElem?_append_right (by rw [List.length_map, bytesOf_len]; omega), if_neg (by omega), List.length_map, bytesOf_len, List.getElem?_drop, show off + str.size + (i - off - str.size) = i by omega]
          have := hc i hi; simpa using this
    simpa using e0
theorem step_cps {ops : Array Oper} {o : Oper} {a : Act} {w : World} {K : Act → World → Prop} {Q : Exit → Act → World → Prop} {E0 : Prop} (hgd : o.guard = none) (d s : Operand) (dT sT : TypeId)
    (ho : o.op = .call { callee := .builtin .copy, args := #[d, s], argTypes := #[dT, sT] }) (hu : Tryz.prog.underlying dT = some (.slice 5))
    (g off m dn dcap : Nat) (str : ByteArray) {f : Nat → Nat} (hd : a.eval d = .slice (some ⟨g, off, none⟩) dn dcap) (hs : a.eval s = .string str) (hA : Arr 5 mkB w g m f) (hkd : str.size ≤ dn) (hkm : off + str.size ≤ m)
    (h : ∀ w', Arr 5 mkB w' g m (fun i => if off ≤ i ∧ i < off + str.size then (bytesOf str).getD (i - off) 0 else f i) → w'.heap.size = w.heap.size → Fr (One g) w w' → K (a.put o.dst (goInt str.size)) w') :
    if Region.wanted o (yielded ops a.tmps) = true then Oper.wp Tryz.prog o a w K Q else E0 := by
  have hw : Region.wanted o (yielded ops a.tmps) = true := by simp [Region.wanted, hgd]
  rw [if_pos hw]
  exact op_cps d s dT sT ho hu g off m dn dcap str hd hs hA hkd hkm h
end Go.Proofs.Qxb6500353aGreat
