/- THE WALK over search.Solve, whole. -/
import Derived.Test.Qxb6500354aGreatSlv3
namespace Go.Proofs.Qxb6500354aGreat
open Go.RowKit
set_option linter.unusedVariables false
set_option linter.unusedSimpArgs false

theorem ssolve_any {w : World} {E : Eb} {W : WatchS} {T : TrailS} {S : SolverS} {lo av : Value} {P : ParS} (h : LegAt w E W T S lo P av) (s : ByteArray) (hs : s.size ≤ maxLen) :
    Calls Tryz.prog 25 #[.pointer (some ⟨E.s, 0, none⟩), .string s] w fun e w' => ∃ mv, e = .returned (ansV (solveF (bytesOf s)) mv) ∧ SolOut w w' E lo av (bytesOf s) mv := by
  obtain ⟨N, hN⟩ : ∃ N, w.heap.size = N := ⟨_, rfl⟩
  have hst := h.start hN
  obtain ⟨w0, hw0⟩ : ∃ w0, w.alloc (Obj.cells #[.int .i64 0, .int .i64 0, .bool false, .slice none 0 0, .string ⟨#[]⟩, .int .i64 0, .int .i64 0] 74) = w0 := ⟨_, rfl⟩
  rw [hw0] at hst
  have hp1 := parse_any2 hst.pr s hs
  rw [parseF_eq] at hp1
  obtain ⟨rs, hrs, hc⟩ := parseM_flat (bytesOf s)
  have hlen := parseF_len2 (bytesOf s)
  rw [parseF_eq, hrs] at hlen
  by_cases he : (parseM (bytesOf s)).err = 0
  · have hpf := problemF_flat hc he hrs
    obtain ⟨q, hq⟩ : ∃ r, parseM (bytesOf s) = r := ⟨_, rfl⟩
    rw [hq] at hp1 hrs he
    obtain ⟨e1, p1, f1⟩ := q
    simp only [] at hp1 hrs he
    subst hrs
    subst he
    by_cases hs0 : surveyF (flatOf rs) = 0
    · rw [if_pos hs0] at hpf
      have hz := survey_zero hc hs0
      exact ssolve_3 hN hw0 (hid hst) (hid h.lg) (hid hlen) (hid hs0) (hid hc) (hid (rowsF_flat hc hz.1)) (hid ⟨by rw [List.length_map]; exact hz.2, fun c hm => by obtain ⟨r, hr, rfl⟩ := List.mem_map.1 hm; exact hc r hr⟩) (hid hpf) (hid hp1)
    · rw [if_neg hs0] at hpf
      exact ssolve_2 hN hw0 (hid hst) (hid h.lg) (hid hlen) (hid rfl) hs0 (hid (by rw [hpf]; exact hs0)) (hid (by unfold solveF; rw [hpf]; simp only []; rw [if_neg hs0])) (hid hp1)
  · have hpf : problemF (bytesOf s) = ([], (parseM (bytesOf s)).err, (parseM (bytesOf s)).pos) := by unfold problemF; simp only []; rw [if_neg he]
    exact ssolve_1 hN hw0 (hid hst) (hid h.lg) he (hid (by rw [hpf]; exact he)) (hid (by unfold solveF; rw [hpf]; simp only []; rw [if_neg he])) (hid hp1)
end Go.Proofs.Qxb6500354aGreat
