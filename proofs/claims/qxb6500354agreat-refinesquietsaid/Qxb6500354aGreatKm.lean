/- The walk over checkm: Check: the plain side. -/
import Derived.Test.Qxb6500354aGreatRow3
import Derived.Test.Qxb6500354aGreatMs
namespace Go.Proofs.Qxb6500354aGreat
open Go.RowKit
set_option linter.unusedVariables false
set_option linter.unusedSimpArgs false

theorem checkLoop_nil (k : Nat) (st : List (List Int)) : checkLoop [] k st = if st.any (fun c => c.length == 0) then ⟨0, 0, 0⟩ else ⟨20, 2, k⟩ := rfl
theorem checkLoop_cons (r : Bool × List Int) (rs : List (Bool × List Int)) (k : Nat) (st : List (List Int)) : checkLoop (r :: rs) k st =
    if r.1 = true then (if st.contains r.2 then checkLoop rs (k + 1) (st.erase r.2) else ⟨19, 2, k⟩)
    else if rupF st r.2 = true then (if 64 ≤ st.length then ⟨12, 2, k⟩ else checkLoop rs (k + 1) (st ++ [r.2]))
    else ⟨18, 2, k⟩ := rfl
theorem takeL_snoc {cs : List (List Int)} {k : Nat} (h : k < cs.length) : cs.take (k + 1) = cs.take k ++ [cs.getD k []] := by
  rw [List.take_succ_eq_append_getElem h, List.getD_eq_getElem?_getD, List.getElem?_eq_getElem h]; rfl
theorem dropR_cons {rs : List (Bool × List Int)} {n k : Nat} (hl : rs.length = n) (h : k < n) : rs.drop k = rs.getD k (false, []) :: rs.drop (k + 1) := by
  rw [List.drop_eq_getElem_cons (by omega), List.getD_eq_getElem?_getD, List.getElem?_eq_getElem (by omega)]; rfl
theorem erase_at {st : List (List Int)} {c : List Int} {k : Nat} (hk : k < st.length) (hc : st.getD k [] = c) (hn : c ∉ st.take k) : st.erase c = st.eraseIdx k := by
  have h1 : st = st.take k ++ c :: st.drop (k + 1) := by
    rw [← hc, ← dropL_cons rfl hk, List.take_append_drop]
  conv => lhs; rw [h1]
  rw [List.erase_append_right _ hn, List.erase_cons_head, List.eraseIdx_eq_take_drop_succ]
theorem skip_lt {st : List (List Int)} {k j : Nat} (hj : j < st.length) (h : j ≠ k) : (st.take (j + 1)).eraseIdx k = (st.take j).eraseIdx k ++ [st.getD j []] := by
  rw [takeL_snoc hj]
  have hl : (st.take j).length = j := by rw [List.length_take]; omega
  by_cases e : k < j
  · rw [List.eraseIdx_append_of_lt_length (by omega)]
  · rw [List.eraseIdx_of_length_le (by rw [List.length_append, hl]; simp; omega), List.eraseIdx_of_length_le (by omega)]
theorem skip_eq {st : List (List Int)} {k : Nat} (hj : k < st.length) : (st.take (k + 1)).eraseIdx k = (st.take k).eraseIdx k := by
  rw [takeL_snoc hj]
  have hl : (st.take k).length = k := by rw [List.length_take]; omega
  rw [List.eraseIdx_append_of_length_le (by omega), hl, Nat.sub_self, show ([st.getD k []] : List (List Int)).eraseIdx 0 = [] from rfl, List.append_nil, List.eraseIdx_of_length_le (by omega)]
theorem st_ok_erase {st : List (List Int)} {k : Nat} (h : ∀ c ∈ st, checkClause c = 0) : ∀ c ∈ st.eraseIdx k, checkClause c = 0 := fun c hc => h c (List.mem_of_mem_eraseIdx hc)

/-- The store of the definition: its slice, as it has moved from cv. -/
structure MK (w3 wr : World) (cv sv : Value) (st : List (List Int)) : Prop where
  own : ∃ B, OwnM wr B sv st [] ∧ B ≤ w3.heap.size
  nx : Nx w3 cv sv
  fr : Fr (blk cv) w3 wr
  le : st.length ≤ 64
  ok : ∀ c ∈ st, checkClause c = 0
theorem MK.fr0 {w3 wr w2 : World} {cv sv : Value} {st : List (List Int)} (h : MK w3 wr cv sv st) (k : Fr [] wr w2) : MK w3 w2 cv sv st := by
  obtain ⟨B, a, b⟩ := h.own
  exact ⟨⟨B, a.fr k (by simp), b⟩, h.nx, h.fr.trans (k.mono (by simp)), h.le, h.ok⟩
theorem MK.rows {w3 wr : World} {cv sv : Value} {st : List (List Int)} (h : MK w3 wr cv sv st) : RowsOK st := ⟨by have := h.le; omega, fun c hc => by have := checkClause_facts (h.ok c hc); exact ⟨this.2.1, this.1⟩⟩
/-- A row of the proof, read beside the store. -/
theorem MK.row {w3 wr : World} {cv sv : Value} {st : List (List Int)} (h : MK w3 wr cv sv st) {base : Nat} {a : Option Addr} {n cap : Nat} {rs : List (Bool × List Int)} (hr : OwnR w3 base (.slice a n cap) rs (blk cv)) (hl : rs.length = n) {k : Nat} (hk : k < n) :
    ∃ g b m c, a = some ⟨g, 0, none⟩ ∧ wr.cell? ⟨g, k * 2, none⟩ = some (.bool (rs.getD k (false, [])).1) ∧ wr.cell? ⟨g, k * 2 + 1, none⟩ = some (.slice b m c) ∧ Ints wr (.slice b m c) (rs.getD k (false, [])).2 ∧
      ∀ g, (Value.slice b m c).ownBlock = some g → sv.ownBlock ≠ some g ∧ g < wr.heap.size := by
  obtain ⟨g, b, m, c, e, h1, h2, h3, h4⟩ := hr.at hl hk
  have hgb : g ∉ blk cv := by subst e; exact hr.apv g rfl
  refine ⟨g, b, m, c, e, h.fr.cell h1 hgb, h.fr.cell h2 hgb, h3.fr h.fr (fun g2 hg hm => (h4 g2 hg).2 hm), fun g2 hg => ⟨fun e2 => ?_, Nat.lt_of_lt_of_le (h4 g2 hg).1 h.fr.size⟩⟩
  rcases h.nx g2 e2 with q | q
  · exact (h4 g2 hg).2 (mem_blk.2 q)
  · have := (h4 g2 hg).1; omega
/-- The model's checker: its block, its parser's. -/
def KmAt (w : World) (k p : Nat) : Prop := w.cell? ⟨k, 0, none⟩ = some (.pointer (some ⟨p, 0, none⟩)) ∧ PMAt w p
theorem KmAt.fr {w w2 : World} {m p : Nat} {D : List Nat} (h : KmAt w m p) (hf : Fr D w w2) (hm : m ∉ D) (hp : p ∉ D) : KmAt w2 m p := ⟨hf.cell h.1 hm, h.2.fr hf hp⟩
end Go.Proofs.Qxb6500354aGreat
