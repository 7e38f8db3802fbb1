/- MADE BY wip/tools/gen_obj4.py: the heap objects of the program: a struct in block b, its rows behind it. -/
import Derived.Test.Qxb6500353aGreatObj
namespace Go.Proofs.Qxb6500353aGreat
open Go.RowKit
set_option linter.unusedVariables false
set_option linter.unusedSimpArgs false

def mkV (x : Value) : Value := x

structure MtR where
  head : Nat → Int
  prev : Nat → Int
  toks : Nat → Value
  n : Nat
  probes : Int

structure MtAt (w : World) (b : Nat) (R : MtR) : Prop where
  p_head : w.cell? ⟨b, 0, none⟩ = some (.slice (some ⟨b + 1, 0, none⟩) 64 64)
  p_prev : w.cell? ⟨b, 1, none⟩ = some (.slice (some ⟨b + 2, 0, none⟩) 16 16)
  p_toks : w.cell? ⟨b, 2, none⟩ = some (.slice (some ⟨b + 3, 0, none⟩) 256 256)
  c_n : w.cell? ⟨b, 3, none⟩ = some (.int .i64 ((R.n : Nat) : Int))
  c_probes : w.cell? ⟨b, 4, none⟩ = some (.int .i64 (R.probes : Int))
  a_head : Arr 3 mkI w (b + 1) 64 R.head
  a_prev : Arr 3 mkI w (b + 2) 16 R.prev
  a_toks : Arr 168 mkV w (b + 3) 768 R.toks
  fz : Thaw w b

theorem MtAt.lt {w : World} {b : Nat} {R : MtR} (h : MtAt w b R) : b + 3 < w.heap.size := h.a_toks.lt
theorem MtAt.fr {S : Nat → Prop} {w w2 : World} {b : Nat} {R : MtR} (h : MtAt w b R) (hf : Fr S w w2) (hn : ∀ k, b ≤ k → k < b + 4 → ¬ S k) : MtAt w2 b R := by
  have hl := h.lt
  have h0 := hn b (by omega) (by omega)
  exact ⟨hf.cell h.p_head h0, hf.cell h.p_prev h0, hf.cell h.p_toks h0, hf.cell h.c_n h0, hf.cell h.c_probes h0, h.a_head.fr hf (hn _ (by omega) (by omega)), h.a_prev.fr hf (hn _ (by omega) (by omega)), h.a_toks.fr hf (hn _ (by omega) (by omega)), h.fz.fr hf (by omega) h0⟩
theorem MtAt.drewN {k : Nat} {w : World} {b : Nat} {R : MtR} (h : MtAt w b R) : MtAt (w.drewN k) b R := ⟨h.p_head, h.p_prev, h.p_toks, h.c_n, h.c_probes, h.a_head, h.a_prev, h.a_toks, h.fz⟩
theorem MtAt.drew {w : World} {b : Nat} {R : MtR} (h : MtAt w b R) : MtAt w.drew b R := ⟨h.p_head, h.p_prev, h.p_toks, h.c_n, h.c_probes, h.a_head, h.a_prev, h.a_toks, h.fz⟩
theorem MtAt.set_head {w : World} {b : Nat} {R : MtR} (h : MtAt w b R) (i : Nat) (x : Int) : MtAt (w.setCell ⟨b + 1, i, none⟩ (.int .i64 (x : Int))) b { R with head := upd R.head i x } :=
  ⟨(otherB (by omega)).trans h.p_head, (otherB (by omega)).trans h.p_prev, (otherB (by omega)).trans h.p_toks, (otherB (by omega)).trans h.c_n, (otherB (by omega)).trans h.c_probes, h.a_head.set i x, h.a_prev.other (by omega) _, h.a_toks.other (by omega) _, h.fz.set _ _⟩
theorem MtAt.set_prev {w : World} {b : Nat} {R : MtR} (h : MtAt w b R) (i : Nat) (x : Int) : MtAt (w.setCell ⟨b + 2, i, none⟩ (.int .i64 (x : Int))) b { R with prev := upd R.prev i x } :=
  ⟨(otherB (by omega)).trans h.p_head, (otherB (by omega)).trans h.p_prev, (otherB (by omega)).trans h.p_toks, (otherB (by omega)).trans h.c_n, (otherB (by omega)).trans h.c_probes, h.a_head.other (by omega) _, h.a_prev.set i x, h.a_toks.other (by omega) _, h.fz.set _ _⟩
theorem MtAt.set_toks {w : World} {b : Nat} {R : MtR} (h : MtAt w b R) (i : Nat) (x : Value) : MtAt (w.setCell ⟨b + 3, i, none⟩ (x)) b { R with toks := upd R.toks i x } :=
  ⟨(otherB (by omega)).trans h.p_head, (otherB (by omega)).trans h.p_prev, (otherB (by omega)).trans h.p_toks, (otherB (by omega)).trans h.c_n, (otherB (by omega)).trans h.c_probes, h.a_head.other (by omega) _, h.a_prev.other (by omega) _, h.a_toks.set i x, h.fz.set _ _⟩
theorem MtAt.set_n {w : World} {b : Nat} {R : MtR} (h : MtAt w b R) (x : Nat) : MtAt (w.setCell ⟨b, 3, none⟩ (.int .i64 ((x : Nat) : Int))) b { R with n := x } :=
  ⟨(cellNe (by omega)).trans h.p_head, (cellNe (by omega)).trans h.p_prev, (cellNe (by omega)).trans h.p_toks, cellSet h.c_n, (cellNe (by omega)).trans h.c_probes, h.a_head.other (by omega) _, h.a_prev.other (by omega) _, h.a_toks.other (by omega) _, h.fz.set _ _⟩
theorem MtAt.set_probes {w : World} {b : Nat} {R : MtR} (h : MtAt w b R) (x : Int) : MtAt (w.setCell ⟨b, 4, none⟩ (.int .i64 (x : Int))) b { R with probes := x } :=
  ⟨(cellNe (by omega)).trans h.p_head, (cellNe (by omega)).trans h.p_prev, (cellNe (by omega)).trans h.p_toks, (cellNe (by omega)).trans h.c_n, cellSet h.c_probes, h.a_head.other (by omega) _, h.a_prev.other (by omega) _, h.a_toks.other (by omega) _, h.fz.set _ _⟩

structure ArR where
  k : Value
  d : Value
  page : Nat → Nat
  fill : Nat
  offs : Nat → Nat
  tab : Nat → Value
  gain : Nat → Nat

structure ArAt (w : World) (b : Nat) (R : ArR) : Prop where
  c_k : w.cell? ⟨b, 0, none⟩ = some (R.k)
  c_d : w.cell? ⟨b, 1, none⟩ = some (R.d)
  p_page : w.cell? ⟨b, 2, none⟩ = some (.slice (some ⟨b + 1, 0, none⟩) 1200 1200)
  c_fill : w.cell? ⟨b, 3, none⟩ = some (.int .i64 ((R.fill : Nat) : Int))
  p_offs : w.cell? ⟨b, 4, none⟩ = some (.slice (some ⟨b + 2, 0, none⟩) 4 4)
  p_tab : w.cell? ⟨b, 5, none⟩ = some (.slice (some ⟨b + 3, 0, none⟩) 4 4)
  p_gain : w.cell? ⟨b, 6, none⟩ = some (.slice (some ⟨b + 4, 0, none⟩) 256 256)
  a_page : Arr 5 mkB w (b + 1) 1200 R.page
  a_offs : Arr 3 mkN w (b + 2) 4 R.offs
  a_tab : Arr 121 mkV w (b + 3) 20 R.tab
  a_gain : Arr 5 mkB w (b + 4) 256 R.gain
  fz : Thaw w b

theorem ArAt.lt {w : World} {b : Nat} {R : ArR} (h : ArAt w b R) : b + 4 < w.heap.size := h.a_gain.lt
theorem ArAt.fr {S : Nat → Prop} {w w2 : World} {b : Nat} {R : ArR} (h : ArAt w b R) (hf : Fr S w w2) (hn : ∀ k, b ≤ k → k < b + 5 → ¬ S k) : ArAt w2 b R := by
  have hl := h.lt
  have h0 := hn b (by omega) (by omega)
  exact ⟨hf.cell h.c_k h0, hf.cell h.c_d h0, hf.cell h.p_page h0, hf.cell h.c_fill h0, hf.cell h.p_offs h0, hf.cell h.p_tab h0, hf.cell h.p_gain h0, h.a_page.fr hf (hn _ (by omega) (by omega)), h.a_offs.fr hf (hn _ (by omega) (by omega)), h.a_tab.fr hf (hn _ (by omega) (by omega)), h.a_gain.fr hf (hn _ (by omega) (by omega)), h.fz.fr hf (by omega) h0⟩
theorem ArAt.drewN {k : Nat} {w : World} {b : Nat} {R : ArR} (h : ArAt w b R) : ArAt (w.drewN k) b R := ⟨h.c_k, h.c_d, h.p_page, h.c_fill, h.p_offs, h.p_tab, h.p_gain, h.a_page, h.a_offs, h.a_tab, h.a_gain, h.fz⟩
theorem ArAt.drew {w : World} {b : Nat} {R : ArR} (h : ArAt w b R) : ArAt w.drew b R := ⟨h.c_k, h.c_d, h.p_page, h.c_fill, h.p_offs, h.p_tab, h.p_gain, h.a_page, h.a_offs, h.a_tab, h.a_gain, h.fz⟩
theorem ArAt.set_k {w : World} {b : Nat} {R : ArR} (h : ArAt w b R) (x : Value) : ArAt (w.setCell ⟨b, 0, none⟩ (x)) b { R with k := x } :=
  ⟨cellSet h.c_k, (cellNe (by omega)).trans h.c_d, (cellNe (by omega)).trans h.p_page, (cellNe (by omega)).trans h.c_fill, (cellNe (by omega)).trans h.p_offs, (cellNe (by omega)).trans h.p_tab, (cellNe (by omega)).trans h.p_gain, h.a_page.other (by omega) _, h.a_offs.other (by omega) _, h.a_tab.other (by omega) _, h.a_gain.other (by omega) _, h.fz.set _ _⟩
theorem ArAt.set_d {w : World} {b : Nat} {R : ArR} (h : ArAt w b R) (x : Value) : ArAt (w.setCell ⟨b, 1, none⟩ (x)) b { R with d := x } :=
  ⟨(cellNe (by omega)).trans h.c_k, cellSet h.c_d, (cellNe (by omega)).trans h.p_page, (cellNe (by omega)).trans h.c_fill, (cellNe (by omega)).trans h.p_offs, (cellNe (by omega)).trans h.p_tab, (cellNe (by omega)).trans h.p_gain, h.a_page.other (by omega) _, h.a_offs.other (by omega) _, h.a_tab.other (by omega) _, h.a_gain.other (by omega) _, h.fz.set _ _⟩
theorem ArAt.set_page {w : World} {b : Nat} {R : ArR} (h : ArAt w b R) (i : Nat) (x : Nat) : ArAt (w.setCell ⟨b + 1, i, none⟩ (.int .u8 ((x : Nat) : Int))) b { R with page := upd R.page i x } :=
  ⟨(otherB (by omega)).trans h.c_k, (otherB (by omega)).trans h.c_d, (otherB (by omega)).trans h.p_page, (otherB (by omega)).trans h.c_fill, (otherB (by omega)).trans h.p_offs, (otherB (by omega)).trans h.p_tab, (otherB (by omega)).trans h.p_gain, h.a_page.set i x, h.a_offs.other (by omega) _, h.a_tab.other (by omega) _, h.a_gain.other (by omega) _, h.fz.set _ _⟩
theorem ArAt.set_fill {w : World} {b : Nat} {R : ArR} (h : ArAt w b R) (x : Nat) : ArAt (w.setCell ⟨b, 3, none⟩ (.int .i64 ((x : Nat) : Int))) b { R with fill := x } :=
  ⟨(cellNe (by omega)).trans h.c_k, (cellNe (by omega)).trans h.c_d, (cellNe (by omega)).trans h.p_page, cellSet h.c_fill, (cellNe (by omega)).trans h.p_offs, (cellNe (by omega)).trans h.p_tab, (cellNe (by omega)).trans h.p_gain, h.a_page.other (by omega) _, h.a_offs.other (by omega) _, h.a_tab.other (by omega) _, h.a_gain.other (by omega) _, h.fz.set _ _⟩
theorem ArAt.set_offs {w : World} {b : Nat} {R : ArR} (h : ArAt w b R) (i : Nat) (x : Nat) : ArAt (w.setCell ⟨b + 2, i, none⟩ (.int .i64 ((x : Nat) : Int))) b { R with offs := upd R.offs i x } :=
  ⟨(otherB (by omega)).trans h.c_k, (otherB (by omega)).trans h.c_d, (otherB (by omega)).trans h.p_page, (otherB (by omega)).trans h.c_fill, (otherB (by omega)).trans h.p_offs, (otherB (by omega)).trans h.p_tab, (otherB (by omega)).trans h.p_gain, h.a_page.other (by omega) _, h.a_offs.set i x, h.a_tab.other (by omega) _, h.a_gain.other (by omega) _, h.fz.set _ _⟩
theorem ArAt.set_tab {w : World} {b : Nat} {R : ArR} (h : ArAt w b R) (i : Nat) (x : Value) : ArAt (w.setCell ⟨b + 3, i, none⟩ (x)) b { R with tab := upd R.tab i x } :=
  ⟨(otherB (by omega)).trans h.c_k, (otherB (by omega)).trans h.c_d, (otherB (by omega)).trans h.p_page, (otherB (by omega)).trans h.c_fill, (otherB (by omega)).trans h.p_offs, (otherB (by omega)).trans h.p_tab, (otherB (by omega)).trans h.p_gain, h.a_page.other (by omega) _, h.a_offs.other (by omega) _, h.a_tab.set i x, h.a_gain.other (by omega) _, h.fz.set _ _⟩
theorem ArAt.set_gain {w : World} {b : Nat} {R : ArR} (h : ArAt w b R) (i : Nat) (x : Nat) : ArAt (w.setCell ⟨b + 4, i, none⟩ (.int .u8 ((x : Nat) : Int))) b { R with gain := upd R.gain i x } :=
  ⟨(otherB (by omega)).trans h.c_k, (otherB (by omega)).trans h.c_d, (otherB (by omega)).trans h.p_page, (otherB (by omega)).trans h.c_fill, (otherB (by omega)).trans h.p_offs, (otherB (by omega)).trans h.p_tab, (otherB (by omega)).trans h.p_gain, h.a_page.other (by omega) _, h.a_offs.other (by omega) _, h.a_tab.other (by omega) _, h.a_gain.set i x, h.fz.set _ _⟩

end Go.Proofs.Qxb6500353aGreat
