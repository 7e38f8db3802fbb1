/- PLAIN LAWS of the trail: value, place, reason, level by the entry at a place. -/
import Derived.Test.Qxb6500354aGreatProp2
namespace Go.Proofs.Qxb6500354aGreat
set_option linter.unusedVariables false
set_option linter.unusedSimpArgs false

/-- Literal l stands at place j with the reason r. -/
def At (T : TrailS) (j : Nat) (l r : Int) : Prop := T.st[j]? = some (l, r)
theorem At.lt {T : TrailS} {j : Nat} {l r : Int} (h : At T j l r) : j < T.st.length := (List.getElem?_eq_some_iff.1 h).1
theorem At.mem {T : TrailS} {j : Nat} {l r : Int} (h : At T j l r) : (l, r) ∈ T.st := List.mem_of_getElem? h
theorem At.lit {T : TrailS} {j : Nat} {l r : Int} (h : At T j l r) : T.litAt j = l := litAt_get h
theorem at_of_lt {T : TrailS} {j : Nat} (h : j < T.st.length) : ∃ r, At T j (T.litAt j) r := by
  refine ⟨T.st[j].2, ?_⟩
  unfold At TrailS.litAt
  rw [List.getD_eq_getElem?_getD, List.getElem?_eq_getElem h]; rfl
theorem at_of_mem {T : TrailS} {l r : Int} (h : (l, r) ∈ T.st) : ∃ j, At T j l r := by
  obtain ⟨j, hj, e⟩ := List.getElem_of_mem h
  exact ⟨j, by unfold At; rw [List.getElem?_eq_getElem hj, e]⟩
theorem At.inj {T : TrailS} (hk : TrailOK T) {i j : Nat} {l m r s : Int} (h : At T i l r) (k : At T j m s) (e : l.natAbs = m.natAbs) : i = j := by
  have hd := hk.dist
  have hi := h.lt; have hj := k.lt
  have h1 : (T.st.map fun p => p.1.natAbs)[i]? = some l.natAbs := by rw [List.getElem?_map]; unfold At at h; rw [h]; rfl
  have h2 : (T.st.map fun p => p.1.natAbs)[j]? = some m.natAbs := by rw [List.getElem?_map]; unfold At at k; rw [k]; rfl
  rw [← e] at h2
  have h3 : i < (T.st.map fun p => p.1.natAbs).length := by simpa using hi
  exact (List.getElem?_inj h3 hd).1 (h1.trans h2.symm)
theorem At.eq {T : TrailS} {i : Nat} {l m r s : Int} (h : At T i l r) (k : At T i m s) : l = m ∧ r = s := by
  unfold At at h k; rw [h] at k; injection k with k; injection k with a b; exact ⟨a, b⟩
theorem At.idx {T : TrailS} (hk : TrailOK T) {i : Nat} {l r : Int} (h : At T i l r) : idxV T.st l.natAbs = some i := by
  unfold idxV
  rw [List.findIdx?_eq_some_iff_getElem]
  refine ⟨h.lt, ?_, ?_⟩
  · obtain ⟨_, e⟩ := List.getElem_of_getElem? h; simp [e]
  · intro j hj
    have hj2 : j < T.st.length := by have := h.lt; omega
    obtain ⟨s, hs⟩ := at_of_lt hj2
    obtain ⟨_, e1⟩ := List.getElem_of_getElem? hs
    rw [e1]
    intro he
    simp only [beq_iff_eq] at he
    have := At.inj hk hs h he
    omega
theorem find_of_idx {st : List (Int × Int)} {v i : Nat} {p : Int × Int} (h : idxV st v = some i) (hp : st[i]? = some p) : findV st v = some p := by
  unfold idxV at h; unfold findV
  have := List.find?_eq_some_iff_getElem (xs := st) (p := fun p => p.1.natAbs == v) (b := p)
  rw [List.findIdx?_eq_some_iff_getElem] at h
  obtain ⟨h1, h2, h3⟩ := h
  have e := List.getElem_of_getElem? hp
  rw [this]
  refine ⟨?_, i, h1, e.2, ?_⟩
  · rw [e.2] at h2; simpa using h2
  · intro j hj
    have := h3 j hj
    simpa using this
theorem At.find {T : TrailS} (hk : TrailOK T) {i : Nat} {l r : Int} (h : At T i l r) : findV T.st l.natAbs = some (l, r) := find_of_idx (h.idx hk) h
theorem At.place {T : TrailS} (hk : TrailOK T) {i : Nat} {l r : Int} (h : At T i l r) : T.place l.natAbs = i := by unfold TrailS.place; rw [h.idx hk]; rfl
theorem At.reason {T : TrailS} (hk : TrailOK T) {i : Nat} {l r : Int} (h : At T i l r) : T.reason l.natAbs = r := by unfold TrailS.reason; rw [h.find hk]; rfl
theorem At.level {T : TrailS} (hk : TrailOK T) {i : Nat} {l r : Int} (h : At T i l r) : T.level l.natAbs = levelAt T.lims i := by unfold TrailS.level; rw [h.idx hk]; rfl
theorem At.good {T : TrailS} (hk : TrailOK T) {i : Nat} {l r : Int} (h : At T i l r) : good l = true := hk.gd _ h.mem
theorem At.ne {T : TrailS} (hk : TrailOK T) {i : Nat} {l r : Int} (h : At T i l r) : l ≠ 0 := ((good_iff _).1 (h.good hk)).1
theorem At.val {T : TrailS} (hk : TrailOK T) {i : Nat} {l r : Int} (h : At T i l r) : T.value l = 1 := by unfold TrailS.value; rw [h.find hk]; simp [valOf]
theorem At.valn {T : TrailS} (hk : TrailOK T) {i : Nat} {l r : Int} (h : At T i l r) : T.value (-l) = -1 := by rw [value_neg l (h.ne hk), h.val hk]
theorem find_at {T : TrailS} {v : Nat} {p : Int × Int} (h : findV T.st v = some p) : p.1.natAbs = v ∧ ∃ i, At T i p.1 p.2 := by
  have hm : p ∈ T.st := List.mem_of_find?_eq_some h
  have he := List.find?_some h
  exact ⟨by simpa using he, at_of_mem (l := p.1) (r := p.2) hm⟩
theorem val_at {T : TrailS} {l : Int} (h : T.value l = 1) : ∃ i r, At T i l r := by
  unfold TrailS.value at h
  cases hf : findV T.st l.natAbs with
  | none => rw [hf] at h; simp [valOf] at h
  | some p =>
    rw [hf] at h
    obtain ⟨e, i, hi⟩ := find_at hf
    simp only [valOf] at h
    split at h
    · next he => subst he; exact ⟨i, _, hi⟩
    · omega
theorem valn_at {T : TrailS} {l : Int} (hl : l ≠ 0) (h : T.value l = -1) : ∃ i r, At T i (-l) r := by
  apply val_at; rw [value_neg l hl, h]; rfl
theorem val0_none {T : TrailS} {l : Int} (h : T.value l = 0) : ∀ i m r, At T i m r → m.natAbs ≠ l.natAbs := by
  intro i m r hi e
  have hf := findV_of_value h
  unfold findV at hf
  rw [List.find?_eq_none] at hf
  have := hf _ hi.mem
  simp [e] at this
theorem val0_of {T : TrailS} {l : Int} (h : ∀ i m r, At T i m r → m.natAbs ≠ l.natAbs) : T.value l = 0 := by
  unfold TrailS.value
  rw [findV_none]; · rfl
  · intro p hp e
    obtain ⟨i, hi⟩ := at_of_mem (T := T) (l := p.1) (r := p.2) hp
    exact h i _ _ hi e
theorem val_ne0 {T : TrailS} {l : Int} (h : T.value l ≠ 0) : ∃ i m r, At T i m r ∧ m.natAbs = l.natAbs := by
  by_cases hx : ∃ i m r, At T i m r ∧ m.natAbs = l.natAbs
  · exact hx
  · exfalso; apply h; apply val0_of; intro i m r hi e; exact hx ⟨i, m, r, hi, e⟩
theorem level_neg {T : TrailS} {v : Nat} : T.level v < 0 ↔ ∀ i m r, At T i m r → m.natAbs ≠ v := by
  unfold TrailS.level levelOf
  cases hx : idxV T.st v with
  | none =>
    simp only []
    constructor
    · intro _ i m r hi e
      unfold idxV at hx
      rw [List.findIdx?_eq_none_iff] at hx
      have := hx _ hi.mem
      simp [e] at this
    · intro _; omega
  | some i =>
    simp only []
    constructor
    · intro h; omega
    · intro h
      exfalso
      unfold idxV at hx
      rw [List.findIdx?_eq_some_iff_getElem] at hx
      obtain ⟨h1, h2, h3⟩ := hx
      obtain ⟨r, hr⟩ := at_of_lt h1
      have e1 := (List.getElem_of_getElem? hr).2
      rw [e1] at h2
      exact h _ _ _ hr (by simpa using h2)

/-- U goes on from T: what stands in T stands in U. -/
def Ext (T U : TrailS) : Prop := ∃ e, U.st = T.st ++ e
theorem Ext.refl (T : TrailS) : Ext T T := ⟨[], by simp⟩
theorem Ext.trans {T U V : TrailS} (h : Ext T U) (k : Ext U V) : Ext T V := by
  obtain ⟨a, ha⟩ := h; obtain ⟨b, hb⟩ := k; exact ⟨a ++ b, by rw [hb, ha, List.append_assoc]⟩
theorem At.ext {T U : TrailS} {i : Nat} {l r : Int} (h : At T i l r) (k : Ext T U) : At U i l r := by
  obtain ⟨e, he⟩ := k
  have hl := h.lt
  unfold At at h ⊢
  rw [he, List.getElem?_append_left hl]; exact h
theorem Ext.val {T U : TrailS} (h : Ext T U) (hk : TrailOK U) {l : Int} (hv : T.value l = 1) : U.value l = 1 := by
  obtain ⟨i, r, hi⟩ := val_at hv; exact (hi.ext h).val hk
theorem Ext.valn {T U : TrailS} (h : Ext T U) (hk : TrailOK U) {l : Int} (hl : l ≠ 0) (hv : T.value l = -1) : U.value l = -1 := by
  obtain ⟨i, r, hi⟩ := valn_at hl hv
  have := (hi.ext h).valn hk
  simpa using this
theorem at_push {T : TrailS} (l r : Int) : At (T.push l r) T.st.length l r := by simp [At, TrailS.push]
theorem Ext.push (T : TrailS) (l r : Int) : Ext T (T.push l r) := ⟨[(l, r)], rfl⟩
theorem at_push_old {T : TrailS} {l r : Int} {i : Nat} {m s : Int} (h : At (T.push l r) i m s) : At T i m s ∨ (i = T.st.length ∧ m = l ∧ s = r) := by
  unfold At TrailS.push at h
  simp only [] at h
  rw [List.getElem?_append] at h
  split at h
  · exact .inl h
  · next hi =>
    right
    have hlt := (List.getElem?_eq_some_iff.1 h).1
    have h0 : i - T.st.length = 0 := by simp at hlt; omega
    rw [h0] at h
    simp at h
    exact ⟨by omega, h.1.symm, h.2.symm⟩
end Go.Proofs.Qxb6500354aGreat
