/- The model's encoder: put, walked; objects apart from a growing tape. -/
import Derived.Test.Qxb6500353aGreatMtc
import Derived.Test.Qxb6500353aGreatMfw
namespace Go.Proofs.Qxb6500353aGreat
open Go.RowKit
set_option linter.unusedVariables false
set_option linter.unusedSimpArgs false

/-- Block x is none of the tape's. -/
def Apart (b : Nat) (ad : Option Addr) (w : World) (x : Nat) : Prop := x < w.heap.size ∧ x ≠ b ∧ obk ad ≠ some x
theorem Apart.not {b x : Nat} {ad : Option Addr} {w : World} (h : Apart b ad w x) : ¬ TpS b ad x := fun e => e.elim h.2.1 h.2.2
theorem Apart.keep {b x : Nat} {a0 a1 : Option Addr} {w0 w1 : World} (h : Apart b a0 w0 x) (g : Gr b w0 a0 w1 a1) : Apart b a1 w1 x :=
  ⟨Nat.lt_of_lt_of_le h.1 g.fr.size, h.2.1, fun e => (g.ob x e).elim h.2.2 (fun q => by have := h.1; omega)⟩
theorem Apart.old {b x cap : Nat} {ad : Option Addr} {w : World} {t : Tp} (h : MTp w b ad cap t) (hx : x < b) : Apart b ad w x :=
  ⟨Nat.lt_trans hx h.lt, by omega, fun e => by have := (h.own.lt e).1; omega⟩
/-- A block made behind the tape's last growth. -/
theorem Apart.fresh {b x cap : Nat} {ad : Option Addr} {w w2 : World} {t : Tp} (h : MTp w b ad cap t) (hx : w.heap.size ≤ x) (hl : x < w2.heap.size) : Apart b ad w2 x :=
  ⟨hl, by have := h.lt; omega, fun e => by have := (h.own.lt e).2; omega⟩
/-- The model coder's three blocks. -/
def ApC (b : Nat) (ad : Option Addr) (w : World) (a g1 g2 : Nat) : Prop := Apart b ad w a ∧ Apart b ad w g1 ∧ Apart b ad w g2
theorem ApC.keep {b a g1 g2 : Nat} {a0 a1 : Option Addr} {w0 w1 : World} (h : ApC b a0 w0 a g1 g2) (g : Gr b w0 a0 w1 a1) : ApC b a1 w1 a g1 g2 := ⟨h.1.keep g, h.2.1.keep g, h.2.2.keep g⟩
theorem McR.gr {b a g1 g2 : Nat} {l : List Nat} {a0 a1 : Option Addr} {w0 w1 : World} (h : McR w0 a g1 g2 l) (k : ApC b a0 w0 a g1 g2) (g : Gr b w0 a0 w1 a1) : McR w1 a g1 g2 l :=
  h.fr g.fr k.1.not k.2.1.not k.2.2.not
theorem Cel.gr {α : Type} {mk : α → Value} {b x o n : Nat} {f : Nat → α} {a0 a1 : Option Addr} {w0 w1 : World} (h : Cel mk w0 x o n f) (k : Apart b a0 w0 x) (g : Gr b w0 a0 w1 a1) : Cel mk w1 x o n f := h.fr g.fr k.not
theorem mputs_any {w : World} {b cap a g1 g2 : Nat} {ad : Option Addr} {t : Tp} {l : List Nat} (h : MTp w b ad cap t) (hc : McR w a g1 g2 l) (hl : l.length ≤ 265) (h10 : ∀ s, len l s ≤ 10) {s : Nat} (hs : 0 < len l s) (hn : t.n + len l s ≤ 4096) :
    Calls Tryz.prog 107 #[ptrV b, ptrV a, .int .i64 s] w fun e w' => e = .returned (.tuple #[]) ∧ ∃ ad' cap', MTp w' b ad' cap' (t.put (code l s) (len l s)) ∧ Gr b w ad w' ad' := by
  have hcd := mcode_any hc hl s hs
  have hlt := code_lt l s
  have h10s := h10 s
  obtain ⟨cv, hcv⟩ : ∃ z, z = code l s := ⟨_, rfl⟩
  obtain ⟨lv, hlv⟩ : ∃ z, z = len l s := ⟨_, rfl⟩
  rw [← hcv, ← hlv] at hcd ⊢
  rw [← hcv, ← hlv] at hlt
  rw [← hlv] at hn h10s
  have HPT := hid (fun q => mput_any (h.drewN (k := q)) (v := cv) (k := lv) (by omega) hlt hn)
  have HCD := hid hcd
  clear h hc hl h10 hs hn hcd hlt h10s hcv hlv
  refine calls_via fun K hK => ?_
  unfold ptrV at HCD HPT ⊢
  go_enter Tryz.func107, Tryz.ntmps107
  go_wp2_with fail
  refine HCD.out.mono ?_
  rintro e w' ⟨rfl, q, rfl⟩
  go_wp2_with fail
  refine (HPT.out q).mono ?_
  rintro e w2 ⟨rfl, ad2, cap2, h2, hg2⟩
  have H2 := hid h2
  have HG2 := hid hg2
  clear h2 hg2
  go_wp2_with fail
  go_end0
  exact hK.out _ _ ⟨rfl, ad2, cap2, H2.out, (Gr.nob (Fr.of_drewN (S := Nob))).trans HG2.out⟩
end Go.Proofs.Qxb6500353aGreat
