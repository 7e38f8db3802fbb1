/- Copies of rows; api.CopyInts; huffm.New. -/
import Derived.Test.Qxb6500353aGreatNwz
namespace Go.Proofs.Qxb6500353aGreat
open Go.RowKit
set_option linter.unusedVariables false
set_option linter.unusedSimpArgs false

/-- A guard: the next operation is a copy. -/
theorem gd_copy {P : Program} {ops : Array Oper} {rest : List Oper} {o : Oper} {a : Act} {Q : Exit → Act → World → Prop} {w : World} {d s : Operand} {dT sT : TypeId}
    (ho : o.op = .call { callee := .builtin .copy, args := #[d, s], argTypes := #[dT, sT] }) (h : wpList P ops Q (o :: rest) a w) : wpList P ops Q (o :: rest) a w := h
/-- copy of n one-cell elements over a whole row of n. -/
theorem wp_cpA {α : Type} {E : Nat} {mk : α → Value} {ops : Array Oper} {rest : List Oper} {o : Oper} {a : Act} {Q : Exit → Act → World → Prop} {w : World} (hgd : o.guard = none) (d s : Operand) (dT sT : TypeId)
    (ho : o.op = .call { callee := .builtin .copy, args := #[d, s], argTypes := #[dT, sT] }) (hu : Tryz.prog.underlying dT = some (.slice E)) (hsz : (Tryz.prog.info? E).map (·.size) = some 1)
    (g n cap sg so scap : Nat) {f x : Nat → α} (hd : a.eval d = .slice (some ⟨g, 0, none⟩) n cap) (hs : a.eval s = .slice (some ⟨sg, so, none⟩) n scap) (hA : Arr E mk w g n f) (hx : Cel mk w sg so n x)
    (h1 : ∀ v, (mk v).oneCell' = true) (h : ∀ w', Arr E mk w' g n x → w'.heap.size = w.heap.size → Fr (One g) w w' → wpList Tryz.prog ops Q rest (a.put o.dst (goInt n)) w') :
    wpList Tryz.prog ops Q (o :: rest) a w := by
  obtain ⟨cur, hg, hn, hc⟩ := hA
  have hl : ((List.range n).map fun i => mk (x i)).length = n := by simp
  refine wpList_copy_own hgd d s dT sT ho E hu hsz g 0 n cap ⟨sg, so, none⟩ n scap hd hs cur E hg ((List.range n).map fun i => mk (x i)) (by rw [hl]; exact (Nat.min_self _).symm) ?_ (by rw [hl]; omega) ?_ ?_
  · intro j v hv
    obtain ⟨hj, rfl⟩ := List.getElem?_eq_some_iff.1 hv
    rw [hl] at hj
    rw [addrAdd, hx j hj]; simp
  · intro v hv
    obtain ⟨i, _, rfl⟩ := List.mem_map.1 hv
    exact h1 _
  · rw [hl]
    refine h _ ⟨_, setRow_heap w g cur _ E (0, 0) hg, ?_, fun i hi => ?_⟩ (setRow_size _ _ _) ⟨rfl, rfl, rfl, by simp [World.setRow], fun k hk hne => setRow_other w g k _ (fun e => hne e)⟩
    · simp; omega
    · simp [List.getElem?_append, hi]
theorem oneN (v : Nat) : (mkN v).oneCell' = true := rfl
set_option maxRecDepth 100000 in
theorem copyInts_any {w : World} {lg lo n cap N : Nat} {f : Nat → Nat} (hN : w.heap.size = N) (hc : Cel mkN w lg lo n f) (hn : n ≤ 1000000) :
    Calls Tryz.prog 128 #[.slice (some ⟨lg, lo, none⟩) n cap] w fun e w' => e = .returned (.slice (some ⟨N, 0, none⟩) n n) ∧ Arr 3 mkN w' N n f ∧ w'.heap.size = N + 1 ∧ Fr Nob w w' := by
  have HC := hid hc
  clear hc
  refine calls_via fun K hK => ?_
  go_enter Tryz.func128, Tryz.ntmps128
  go_wp2_with (first
    | (at_make; refine wp_mkx rfl _ _ rfl n n n N hN rfl rfl rfl rfl (by omega) ?_; intro w1 hs1 ha hf; have HA := hid ha; have HF := hid hf; have HC1 := hid (HC.out.fr hf (fun x => x)); clear ha hf)
    | (with_reducible refine gd_copy rfl ?_; refine wp_cpA rfl _ _ 58 58 rfl Tryz.underlying58 Tryz.size3 N n n lg lo cap rfl rfl HA.out HC1.out oneN ?_; intro w2 ha2 hs2 hf2; have HA2 := hid ha2; have HF2 := hid hf2; have HS2 := hid hs2; clear ha2 hs2 hf2))
  exact hK.out _ _ ⟨rfl, HA2.out, HS2.out.trans hs1, HF.out.trans2 HF2.out (fun x hx h2 => by unfold One at hx; omega)⟩
end Go.Proofs.Qxb6500353aGreat
