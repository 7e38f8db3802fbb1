/- The laws on texts: a flat form that is printed is read again. -/
import Derived.Test.Qxb6500354aGreatLaw8
namespace Go.Proofs.Qxb6500354aGreat
set_option linter.unusedVariables false
set_option linter.unusedSimpArgs false

theorem normM_id {c : List Int} (h : checkClause c = 0) : normM c 12 1 = some c := by
  have hf := checkClause_facts h
  obtain ⟨r, hr⟩ := normM_some (row := c) (hf.2.2.imp (fun h => Nat.ne_of_lt h)) (n := 12) (v := 1) (by omega)
  have hm := normM_mem (by omega) hr
  have hn := normM_nf (by omega) (by omega) hr
  have hcr : checkClause r = 0 := by unfold checkClause; rw [if_neg (by omega)]; exact hn.2 0 (by omega)
  have e : normC r = normC c := normC_congr fun x => by
    rw [hm x]
    constructor
    · exact fun z => z.1
    · intro z; have := (good_iff x).1 (hf.2.1 x z); exact ⟨z, by omega, by omega⟩
  rw [normC_id hcr, normC_id h] at e
  rw [hr, e]
theorem rowM_id {d : Bool} {c : List Int} (h : checkClause c = 0) : rowM d c = flatRow (d, c) := by
  unfold rowM flatRow; rw [normM_id h]
theorem printB_lits {c : List Int} (h : ∀ x ∈ c, good x = true) : printB c = c.flatMap litB := by
  unfold printB
  induction c with
  | nil => rfl
  | cons x c ih =>
    have hx := (good_iff x).1 (h x List.mem_cons_self)
    rw [List.flatMap_cons, List.flatMap_cons, ih (fun y hy => h y (List.mem_cons_of_mem _ hy))]
    have : numB x = litB x := by unfold numB; rw [if_neg (by omega), if_neg hx.1]
    rw [this]
theorem printB_app (a b : List Int) : printB (a ++ b) = printB a ++ printB b := by unfold printB; rw [List.flatMap_append]
theorem feed_row {p : ParS} {flat : List Int} (h : Rel p flat [] false false) (r : Bool × List Int) (hc : checkClause r.2 = 0) (i : Nat) : Rel (feedAll (printB (flatRow r)) i p) (flat ++ flatRow r) [] false false := by
  obtain ⟨d, c⟩ := r
  simp only [] at hc
  have hg := (checkClause_facts hc).2.1
  have hz : printB [0] = [48, 10] := rfl
  cases d with
  | false =>
    have e : flatRow (false, c) = c ++ [0] := by simp [flatRow]
    rw [e, printB_app, printB_lits hg, hz, feedAll_append]
    obtain ⟨o2, k⟩ := feed_lits c p [] false i hg h
    have := feed_zero k (i + (c.flatMap litB).length)
    rw [List.nil_append, rowM_id hc, e] at this
    exact this
  | true =>
    have e : flatRow (true, c) = [13] ++ (c ++ [0]) := by simp [flatRow]
    have hd : printB [13] = [100, 32] := rfl
    rw [e, printB_app, printB_app, hd, printB_lits hg, hz, feedAll_append, feedAll_append]
    obtain ⟨o2, k⟩ := feed_lits c _ [] true (i + 2) hg (feed_del h i)
    have := feed_zero k (i + 2 + (c.flatMap litB).length)
    rw [List.nil_append, rowM_id hc, e] at this
    exact this
theorem feed_rows : ∀ (rs : List (Bool × List Int)) (p : ParS) (flat : List Int) (i : Nat), (∀ r ∈ rs, checkClause r.2 = 0) → Rel p flat [] false false → Rel (feedAll (printB (flatOf rs)) i p) (flat ++ flatOf rs) [] false false := by
  intro rs
  induction rs with
  | nil => intro p flat i _ h; simpa [flatOf, printB, feedAll] using h
  | cons r rs ih =>
    intro p flat i hc h
    have e : flatOf (r :: rs) = flatRow r ++ flatOf rs := by simp [flatOf]
    rw [e, printB_app, feedAll_append, ← List.append_assoc]
    exact ih _ _ _ (fun x hx => hc x (List.mem_cons_of_mem _ hx)) (feed_row h r (hc r List.mem_cons_self) i)
/-- A PRINTED FLAT FORM IS READ AGAIN. -/
theorem parse_print {rs : List (Bool × List Int)} (hc : ∀ r ∈ rs, checkClause r.2 = 0) (hl : (printB (flatOf rs)).length ≤ 1048576) : parseF (printB (flatOf rs)) = ⟨0, 0, flatOf rs⟩ := by
  rw [parseF_fin, if_neg (by omega), feedAll_append]
  have h := feed_rows rs .idle [] 0 hc idle_rel
  rw [List.nil_append] at h
  generalize feedAll (printB (flatOf rs)) 0 .idle = p at h
  have hf : p.feed 32 (0 + (printB (flatOf rs)).length) = { p with start := 0 + (printB (flatOf rs)).length } := by
    unfold ParS.feed ParS.begin
    have h1 : classF 32 = 1 := (classF_space 32).2 (by decide)
    rw [if_pos h.st, h1, if_neg (by decide), if_neg (by decide), if_neg (by decide), if_neg (by decide), if_neg (by decide)]
  rw [feedAll_ok h.er, hf]
  have h2 : Rel { p with start := 0 + (printB (flatOf rs)).length } (flatOf rs) [] false false := h.alt h.st rfl rfl rfl rfl rfl rfl rfl
  exact (fin3_rel h2 (printB (flatOf rs)).length).trans rfl
end Go.Proofs.Qxb6500354aGreat
