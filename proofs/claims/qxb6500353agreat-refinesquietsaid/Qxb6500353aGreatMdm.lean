/- The growing output as a string. -/
import Derived.Test.Qxb6500353aGreatMdb
namespace Go.Proofs.Qxb6500353aGreat
open Go.RowKit
set_option linter.unusedVariables false
set_option linter.unusedSimpArgs false

theorem convO {w : World} {base m cap : Nat} {ado : Option Addr} {o : List Nat} (h : OwnB w base ado m cap o) : (convert 57 9 (.slice ado m cap)).run Tryz.prog w = .ok (.string (strN o)) w := by
  rcases h.own.2 with ⟨e, e2⟩ | ⟨g, cap2, cur, e, hb, hg, rest⟩
  · simp only [Value.slice.injEq] at e
    have ho : o = [] := List.eq_nil_of_length_eq_zero (by rw [h.len, e2])
    rw [e.1, ho]
    exact conv_nil w m cap
  · simp only [Value.slice.injEq] at e
    rw [e.1]
    have hc := conv_str (w := w) (g := g) (o := 0) (n := m) (cap := cap) (f := fun i => o.getD i 0) (fun i hi => by
      obtain ⟨g2, e2, c⟩ := h.at i hi
      rw [e.1] at e2
      simp only [Option.some.injEq, Addr.mk.injEq, and_true] at e2
      subst e2
      rw [Nat.zero_add]; exact c)
    have hl : (List.range m).map (fun i => o.getD i 0) = o := by
      apply List.ext_getElem?
      intro i
      rw [List.getElem?_map]
      by_cases hi : i < m
      · rw [List.getElem?_range hi, List.getElem?_eq_getElem (by rw [h.len]; exact hi)]
        simp [List.getD_eq_getElem?_getD, List.getElem?_eq_getElem (show i < o.length by rw [h.len]; exact hi)]
      · rw [List.getElem?_eq_none (by simp; omega), List.getElem?_eq_none (by rw [h.len]; omega)]; rfl
    rw [hl] at hc
    exact hc
end Go.Proofs.Qxb6500353aGreat
