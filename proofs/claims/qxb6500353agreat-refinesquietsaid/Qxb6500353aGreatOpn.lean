/- The script, opened. -/
import Derived.Test.Qxb6500353aGreatDkl
import Derived.Deep.Slices
namespace Go.Proofs.Qxb6500353aGreat
open Go.RowKit
set_option linter.unusedVariables false
set_option linter.unusedSimpArgs false

theorem cells41 : Tryz.prog.cellsOf 41 = 6 := by kernel_rfl
theorem cells3 : Tryz.prog.cellsOf 3 = 1 := by kernel_rfl
theorem cells9 : Tryz.prog.cellsOf 9 = 1 := by kernel_rfl
set_option maxRecDepth 100000 in
theorem openOps {H : Type} {enc : TypeId × Value → H} {W : World} {base : Nat} {sp : Nat → Bool} {held : Bool} {fuel : Nat} {a : Option Addr} {n cap : Nat} {x : DataW H × List MemPlace} (h : DataW.trod enc Tryz.prog W base sp held fuel 22 [.slice a n cap] = some x) : OpsAt W (.slice a n cap) n ∧ n ≤ maxLen := by
  rcases Go.Deep.open_slice Tryz.underlying22 h with ⟨h0, _⟩ | ⟨ad, len, cp, m, k, D, Pl, hcs, hb, hl, hm, hmm, _, hx⟩
  · simp at h0
    obtain ⟨_, rfl, _⟩ := h0
    exact ⟨.inl rfl, by omega⟩
  simp at hcs
  obtain ⟨rfl, rfl, rfl⟩ := hcs
  refine ⟨?_, by omega⟩
  by_cases hz : n = 0
  · exact .inl hz
  have hnm : n ≤ m := by rw [hmm]; split <;> omega
  right
  have each : ∀ i, i < n → ∃ p : OpS, (W.cell? (ad.add (i * 6)) = some (.int .i64 p.k) ∧ W.cell? (ad.add (i * 6 + 1)) = some (.int .i64 p.a) ∧ W.cell? (ad.add (i * 6 + 2)) = some (.int .i64 p.b) ∧ W.cell? (ad.add (i * 6 + 3)) = some (.int .i64 p.c) ∧ W.cell? (ad.add (i * 6 + 4)) = some (.string p.s) ∧ W.cell? (ad.add (i * 6 + 5)) = some (.string p.t)) ∧ p.s.size ≤ maxLen ∧ p.a < 9223372036854775808 := by
    intro i hi
    obtain ⟨cs', h1, h2⟩ := hx i (by omega)
    rw [cells41] at h1
    obtain ⟨_, hlen, hcell⟩ := World.cells?_some h1
    obtain ⟨xs, k2, hk, hxy, _, hxl, hf⟩ := DataW.trod_struct Tryz.underlying41 h2
    match xs, hxl, cs', hlen with
    | [y0, y1, y2, y3, y4, y5], _, [v0, v1, v2, v3, v4, v5], _ =>
      have g0 := hf 0 _ rfl
      have g1 := hf 1 _ rfl
      have g2 := hf 2 _ rfl
      have g3 := hf 3 _ rfl
      have g4 := hf 4 _ rfl
      have g5 := hf 5 _ rfl
      simp [cells3, cells9] at g0 g1 g2 g3 g4 g5
      obtain ⟨z0, e0, _⟩ := DataW.trod_int Tryz.underlying3 g0
      obtain ⟨z1, e1, _, w1⟩ := DataW.trod_int Tryz.underlying3 g1
      obtain ⟨z2, e2, _⟩ := DataW.trod_int Tryz.underlying3 g2
      obtain ⟨z3, e3, _⟩ := DataW.trod_int Tryz.underlying3 g3
      obtain ⟨z4, e4, _, w4⟩ := DataW.trod_string Tryz.underlying9 g4
      obtain ⟨z5, e5, _, w5⟩ := DataW.trod_string Tryz.underlying9 g5
      simp at e0 e1 e2 e3 e4 e5
      subst e0 e1 e2 e3 e4 e5
      have c0 := hcell 0 (by omega)
      have c1 := hcell 1 (by omega)
      have c2 := hcell 2 (by omega)
      have c3 := hcell 3 (by omega)
      have c4 := hcell 4 (by omega)
      have c5 := hcell 5 (by omega)
      rw [Go.Deep.add_add] at c0 c1 c2 c3 c4 c5
      exact ⟨⟨z0, z1, z2, z3, z4, z5⟩, ⟨by simpa using c0, by simpa using c1, by simpa using c2, by simpa using c3, by simpa using c4, by simpa using c5⟩, w4, by simp [Lit.wf] at w1; show z1 < 9223372036854775808; omega⟩
  obtain ⟨b, off, spot⟩ := ad
  obtain ⟨p0, hp0, _⟩ := each 0 (by omega)
  have hspot : spot = none := by simpa [Addr.add] using World.cell?_spot hp0.1
  subst hspot
  simp only [Go.WideShapes.add_plain] at each hp0
  refine ⟨b, off, cap, rfl, lt_of_cellB hp0.1, fun i hi => ?_⟩
  obtain ⟨p, ⟨d0, d1, d2, d3, d4, d5⟩, e1, e2⟩ := each i hi
  exact ⟨p, ⟨d0, d1, d2, d3, d4, d5, e1, e2⟩⟩
end Go.Proofs.Qxb6500353aGreat
