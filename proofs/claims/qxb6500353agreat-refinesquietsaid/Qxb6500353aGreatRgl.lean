/- A region that reads, then calls, then stores: what is held until the call comes up. -/
import Derived.Test.Qxb6500353aGreatBase
import Derived.OrdersHeld
namespace Go.Proofs.Qxb6500353aGreat
open Go.RowKit
open Go
set_option linter.unusedVariables false
set_option linter.unusedSimpArgs false

section
variable {P : Program} {ops : Array Oper} {Q : Exit → Act → World → Prop} {md : Region.Mode}

/-- Whatever order is picked; X holds until number c has come up. -/
def AnyTill (P : Program) (md : Region.Mode) (ops : Array Oper) (Q : Exit → Act → World → Prop) (X : World → Prop) (c : Nat) : Nat → Array Bool → Act → World → Prop
  | 0, l, a, w => Region.ready md ops l = [] ∧ Q .normal a w
  | n + 1, l, a, w => (Region.ready md ops l = [] → Q .normal a w) ∧
    ∀ i ∈ Region.ready md ops l, wpOp P ops Q i (fun a' w' => ((l.setIfInBounds i true).getD c false = true ∨ X w') ∧ AnyTill P md ops Q X c n (l.setIfInBounds i true) a' w') a w
theorem AnyTill.any {X : World → Prop} {c : Nat} : ∀ (n : Nat) (l : Array Bool) (a : Act) (w : World), AnyTill P md ops Q X c n l a w → wpAny P md ops Q n l a w
  | 0, _, _, _, h => h
  | n + 1, _, _, _, h => ⟨h.1, fun i hi => wpOp_mono (fun a' w' k => AnyTill.any n _ a' w' k.2) (h.2 i hi)⟩
/-- Behind number c nothing is held. -/
theorem AnyTill.of_any {X : World → Prop} {c : Nat} : ∀ (n : Nat) (l : Array Bool) (a : Act) (w : World), l.getD c false = true → wpAny P md ops Q n l a w → AnyTill P md ops Q X c n l a w
  | 0, _, _, _, _, h => h
  | n + 1, _, _, _, hc, h => ⟨h.1, fun i hi => wpOp_mono (fun a' w' k => ⟨.inl (getD_set_true hc), AnyTill.of_any n _ a' w' (getD_set_true hc) k⟩) (h.2 i hi)⟩
/-- What has come up has its forerunners behind it. -/
def DownC (md : Region.Mode) (ops : Array Oper) (l : Array Bool) : Prop := ∀ j oj, ops[j]? = some oj → l.getD j false = true → ∀ e ∈ oj.after, Region.binds md e = true → l.getD e.on false = true
theorem getD_ft {l : Array Bool} {j : Nat} (h : l.getD j false = true) : l.getD j true = true := by
  rcases Nat.lt_or_ge j l.size with q | q
  · simp [q] at h ⊢; exact h
  · simp [Array.getElem?_eq_none q] at h
theorem DownC.set {l : Array Bool} {i : Nat} (h : DownC md ops l) (hi : i ∈ Region.ready md ops l) : DownC md ops (l.setIfInBounds i true) := by
  intro j oj hj hl e he hb
  by_cases e1 : i = j
  · subst e1
    obtain ⟨_, o, ho, hall⟩ := mem_ready.1 hi
    rw [hj] at ho
    injection ho with ho
    subst ho
    exact getD_set_true (hall e he hb)
  · rw [getD_set_ne false e1] at hl
    exact getD_set_true (h j oj hj hl e he hb)
/-- A chain of waiting, from x down to y. -/
def chainOk (md : Region.Mode) (ops : Array Oper) : List Nat → Bool
  | x :: y :: r => (match ops[x]? with | some o => o.after.any fun e => Region.binds md e && e.on == y | none => false) && chainOk md ops (y :: r)
  | _ => true
theorem chain_down {l : Array Bool} (h : DownC md ops l) : ∀ (p : List Nat) (x : Nat), chainOk md ops (x :: p) = true → l.getD x false = true → ∀ y ∈ x :: p, l.getD y false = true
  | [], x, _, hx, y, hy => by simp only [List.mem_cons, List.not_mem_nil, or_false] at hy; rw [hy]; exact hx
  | z :: p, x, hc, hx, y, hy => by
    simp only [chainOk, Bool.and_eq_true] at hc
    obtain ⟨h1, h2⟩ := hc
    rcases List.mem_cons.1 hy with e | hy
    · rw [e]; exact hx
    · refine chain_down h p z h2 ?_ y hy
      split at h1
      · rename_i o ho
        obtain ⟨e, he, hb⟩ := Array.any_eq_true'.1 h1
        simp only [Bool.and_eq_true, beq_iff_eq] at hb
        rw [← hb.2]
        exact h x o ho hx e he hb.1
      · cases h1
theorem AnyTill.first {X X2 : World → Prop} {c i : Nat} {oi : Oper} {v : Value} (hi : ops[i]? = some oi) (hsel : ∀ (j : Nat) (o : Oper) cs b, ops[j]? = some o → o.op ≠ .select cs b)
    (hQ : ∀ c a w, Q (.panic c) (a.put oi.dst v) w → Q (.panic c) a w) (hic : i ≠ c) (hX2 : ∀ l w, DownC md ops l → l.getD i true = false → (l.getD c false = true ∨ X w) → X2 w) :
    ∀ (n : Nat) (l : Array Bool) (a : Act) (w : World),
      (∀ j oj, ops[j]? = some oj → j ≠ i → l.getD j true = false → (∀ e ∈ oj.after, Region.binds md e = true → e.on ≠ i) → oi.apart ops oj = true) →
      DownC md ops l → i ∈ Region.ready md ops l → YieldsIf P ops X2 oi v a → (l.getD c false = true ∨ X w) →
      AnyTill P md ops Q X c n (l.setIfInBounds i true) (a.put oi.dst v) w → AnyTill P md ops Q X c (n + 1) l a w := by
  have cset : ∀ (l : Array Bool) (j : Nat), j ≠ i → (l.setIfInBounds i true |>.setIfInBounds j true).getD c false = (l.setIfInBounds j true).getD c false := fun l j hji => by
    rw [Array.setIfInBounds_comm _ _ (Ne.symm hji)]
    exact getD_set_ne false hic
  intro n
  induction n with
  | zero =>
    intro l a w _ hd hr hy hS H
    refine ⟨fun h => (by rw [h] at hr; cases hr), fun j hj => ?_⟩
    by_cases hji : j = i
    · subst hji
      exact hy.wpOp hi (hX2 l w hd (mem_ready.1 hr).1 hS) ⟨hS.imp getD_set_true id, H⟩
    · have := ready_mono hj hji
      rw [H.1] at this
      cases this
  | succ n ih =>
    intro l a w hfree hd hr hy hS H
    refine ⟨fun h => (by rw [h] at hr; cases hr), fun j hj => ?_⟩
    by_cases hji : j = i
    · subst hji
      exact hy.wpOp hi (hX2 l w hd (mem_ready.1 hr).1 hS) ⟨hS.imp getD_set_true id, H⟩
    · have h1 := H.2 j (ready_mono hj hji)
      obtain ⟨hjun, oj, hoj, hall⟩ := mem_ready.1 hj
      have hnot : ∀ e ∈ oj.after, Region.binds md e = true → e.on ≠ i := fun e he hb heq => by
        have h2 := hall e he hb
        rw [heq] at h2
        have h3 := (mem_ready.1 hr).1
        rw [getD_ft h2] at h3
        cases h3
      have h2 := wpOp_putIf hoj (hfree j oj hoj hji hjun hnot) (fun cs b => hsel i oi cs b hi) (fun cs b => hsel j oj cs b hoj) hQ hy h1
      have hfree2 : ∀ k ok, ops[k]? = some ok → k ≠ i → (l.setIfInBounds j true).getD k true = false →
          (∀ e ∈ ok.after, Region.binds md e = true → e.on ≠ i) → oi.apart ops ok = true := fun k ok hk hki hun hno => by
        refine hfree k ok hk hki ?_ hno
        by_cases hjk : j = k
        · subst hjk; exact hjun
        · rw [getD_set_ne true hjk] at hun; exact hun
      refine wpOp_mono (fun a' w' h3 => ?_) h2
      have h4 : (l.setIfInBounds j true).getD c false = true ∨ X w' := h3.2.1.imp (fun q => by rw [← cset l j hji]; exact q) id
      refine ⟨h4, ih (l.setIfInBounds j true) a' w' hfree2 (hd.set hj) (ready_mono hr (Ne.symm hji)) h3.1 h4 ?_⟩
      rw [Array.setIfInBounds_comm _ _ hji]
      exact h3.2.2
def downB (md : Region.Mode) (ops : Array Oper) (l : Array Bool) : Bool := (List.range ops.size).all fun j => !l.getD j false || match ops[j]? with | some o => o.after.all (fun e => !Region.binds md e || l.getD e.on false) | none => true
theorem downB_spec {l : Array Bool} (h : downB md ops l = true) : DownC md ops l := by
  intro j oj hj hl e he hb
  unfold downB at h
  rw [List.all_eq_true] at h
  have h1 := h j (List.mem_range.2 (Array.getElem?_eq_some_iff.1 hj).1)
  rw [hl, hj] at h1
  simp only [Bool.not_true, Bool.false_or] at h1
  have h2 := Array.all_eq_true_iff_forall_mem.1 h1 e he
  rw [hb] at h2
  simpa using h2
def takeB (md : Region.Mode) (ops : Array Oper) (l : Array Bool) (i c : Nat) : Bool := Region.noSelect ops && Region.free md ops l i && (Region.ready md ops l).contains i && i != c && downB md ops l
/-- A load is taken: it waits ahead of number c. -/
theorem AnyTill.take {X : World → Prop} {c i : Nat} (p : List Nat) {oi : Oper} {v : Value} {n : Nat} {l : Array Bool} {a : Act} {w : World} (hi : ops[i]? = some oi) (hb : takeB md ops l i c = true) (hp : (chainOk md ops (c :: p) && (c :: p).contains i) = true)
    (hQ : ∀ c a w, Q (.panic c) (a.put oi.dst v) w → Q (.panic c) a w) (hy : YieldsIf P ops X oi v a) (hX : X w)
    (h : AnyTill P md ops Q X c n (l.setIfInBounds i true) (a.put oi.dst v) w) : AnyTill P md ops Q X c (n + 1) l a w := by
  unfold takeB at hb
  simp only [Bool.and_eq_true, bne_iff_ne, ne_eq] at hb hp
  obtain ⟨⟨⟨⟨h1, h2⟩, h3⟩, h4⟩, h5⟩ := hb
  refine AnyTill.first hi (Region.noSelect_spec h1) hQ h4 (fun l2 w2 hd hl hx => ?_) n l a w (Region.free_spec hi h2) (downB_spec h5) (by simpa using h3) hy (.inr hX) h
  rcases hx with q | q
  · have := chain_down hd p c hp.1 q i (by simpa using hp.2)
    rw [getD_ft this] at hl
    cases hl
  · exact q
/-- An operation that hangs on no world is taken. -/
theorem AnyTill.takeP {X : World → Prop} {c i : Nat} {oi : Oper} {v : Value} {n : Nat} {l : Array Bool} {a : Act} {w : World} (hi : ops[i]? = some oi) (hb : takeB md ops l i c = true)
    (hQ : ∀ c a w, Q (.panic c) (a.put oi.dst v) w → Q (.panic c) a w) (hy : YieldsIf P ops (fun _ => True) oi v a) (hX : X w)
    (h : AnyTill P md ops Q X c n (l.setIfInBounds i true) (a.put oi.dst v) w) : AnyTill P md ops Q X c (n + 1) l a w := by
  unfold takeB at hb
  simp only [Bool.and_eq_true, bne_iff_ne, ne_eq] at hb
  obtain ⟨⟨⟨⟨h1, h2⟩, h3⟩, h4⟩, h5⟩ := hb
  exact AnyTill.first hi (Region.noSelect_spec h1) hQ h4 (fun l2 w2 hd hl hx => trivial) n l a w (Region.free_spec hi h2) (downB_spec h5) (by simpa using h3) hy (.inr hX) h
/-- Number c alone may come up. -/
theorem AnyTill.last {X : World → Prop} {c n : Nat} {l : Array Bool} {a : Act} {w : World} (hr : Region.ready md ops l = [c]) (hl : c < l.size)
    (h : wpOp P ops Q c (wpAny P md ops Q n (l.setIfInBounds c true)) a w) : AnyTill P md ops Q X c (n + 1) l a w := by
  refine ⟨fun q => (by rw [hr] at q; cases q), fun i hi => ?_⟩
  rw [hr] at hi
  simp only [List.mem_cons, List.not_mem_nil, or_false] at hi
  subst hi
  have hc : (l.setIfInBounds i true).getD i false = true := by simp [hl]
  exact wpOp_mono (fun a' w' k => ⟨.inl hc, AnyTill.of_any n _ a' w' hc k⟩) h
theorem region_till {X : World → Prop} {c id : Nat} {a : Act} {w : World} (hm : P.follows .mixedOrders = true) (h : AnyTill P .any ops Q X c ops.size (Array.replicate ops.size false) a w.drew) : (Code.region id ops true).wp P Q a w :=
  wp_region_any hm (AnyTill.any _ _ _ _ h)
end
end Go.Proofs.Qxb6500353aGreat
