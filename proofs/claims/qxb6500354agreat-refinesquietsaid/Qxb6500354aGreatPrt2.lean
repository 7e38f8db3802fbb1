/- The walks over cnf: lay. -/
import Derived.Test.Qxb6500354aGreatPrt
namespace Go.Proofs.Qxb6500354aGreat
open Go.RowKit
set_option linter.unusedVariables false
set_option linter.unusedSimpArgs false

structure LayOut (w w' : World) (base g n : Nat) (bs : List Nat) (k : Nat) (m : List Nat) : Prop where
  ex : ∃ bs', OwnB w' base (.slice (some ⟨g, 0, none⟩) n n) bs' ∧ bs'.length = n ∧ bs'.take (k + m.length) = bs.take k ++ m
  fr : Fr [g] w w'
theorem lay_end2 {w : World} {base g n : Nat} {bs : List Nat} (h : OwnB w base (.slice (some ⟨g, 0, none⟩) n n) bs) (hn : bs.length = n) {k : Nat} (hl : k + 2 ≤ n) (a b : Nat) :
    LayOut w ((w.setCell ⟨g, k, none⟩ (.int .u8 (a : Int))).setCell ⟨g, k + 1, none⟩ (.int .u8 (b : Int))) base g n bs k [a, b] := by
  refine ⟨⟨(bs.set k a).set (k + 1) b, (h.store hn k a).store (by simpa using hn) (k + 1) b, by simpa using hn, ?_⟩, ((Fr.refl [g] w).setG k _).setG (k + 1) _⟩
  have h1 := take_setN (l := bs) (q := k) rfl (by simp; omega) (by omega) a
  have h2 := take_setN (l := bs.set k a) (q := k + 1) h1 (by simp; omega) (by simp; omega) b
  simpa using h2
theorem lay_end3 {w : World} {base g n : Nat} {bs : List Nat} (h : OwnB w base (.slice (some ⟨g, 0, none⟩) n n) bs) (hn : bs.length = n) {k : Nat} (hl : k + 3 ≤ n) (a b c : Nat) :
    LayOut w (((w.setCell ⟨g, k, none⟩ (.int .u8 (a : Int))).setCell ⟨g, k + 1, none⟩ (.int .u8 (b : Int))).setCell ⟨g, k + 2, none⟩ (.int .u8 (c : Int))) base g n bs k [a, b, c] := by
  refine ⟨⟨((bs.set k a).set (k + 1) b).set (k + 2) c, ((h.store hn k a).store (by simpa using hn) (k + 1) b).store (by simpa using hn) (k + 2) c, by simpa using hn, ?_⟩, (((Fr.refl [g] w).setG k _).setG (k + 1) _).setG (k + 2) _⟩
  have h1 := take_setN (l := bs) (q := k) rfl (by simp; omega) (by omega) a
  have h2 := take_setN (l := bs.set k a) (q := k + 1) h1 (by simp; omega) (by simp; omega) b
  have h3 := take_setN (l := (bs.set k a).set (k + 1) b) (q := k + 2) h2 (by simp; omega) (by simp; omega) c
  simpa using h3
theorem lay_end4 {w : World} {base g n : Nat} {bs : List Nat} (h : OwnB w base (.slice (some ⟨g, 0, none⟩) n n) bs) (hn : bs.length = n) {k : Nat} (hl : k + 4 ≤ n) (a b c d : Nat) :
    LayOut w ((((w.setCell ⟨g, k, none⟩ (.int .u8 (a : Int))).setCell ⟨g, k + 1, none⟩ (.int .u8 (b : Int))).setCell ⟨g, k + 2, none⟩ (.int .u8 (c : Int))).setCell ⟨g, k + 3, none⟩ (.int .u8 (d : Int))) base g n bs k [a, b, c, d] := by
  refine ⟨⟨(((bs.set k a).set (k + 1) b).set (k + 2) c).set (k + 3) d, (((h.store hn k a).store (by simpa using hn) (k + 1) b).store (by simpa using hn) (k + 2) c).store (by simpa using hn) (k + 3) d, by simpa using hn, ?_⟩, ((((Fr.refl [g] w).setG k _).setG (k + 1) _).setG (k + 2) _).setG (k + 3) _⟩
  have h1 := take_setN (l := bs) (q := k) rfl (by simp; omega) (by omega) a
  have h2 := take_setN (l := bs.set k a) (q := k + 1) h1 (by simp; omega) (by simp; omega) b
  have h3 := take_setN (l := (bs.set k a).set (k + 1) b) (q := k + 2) h2 (by simp; omega) (by simp; omega) c
  have h4 := take_setN (l := ((bs.set k a).set (k + 1) b).set (k + 2) c) (q := k + 3) h3 (by simp; omega) (by simp; omega) d
  simpa using h4
def LayP (x : Int) : Prop := ∀ {w : World} {base g n : Nat} {bs : List Nat}, OwnB w base (.slice (some ⟨g, 0, none⟩) n n) bs → bs.length = n → ∀ (k : Nat), k + (numB x).length ≤ n → n ≤ 1099511627776 →
    Calls Tryz.prog 129 #[.slice (some ⟨g, 0, none⟩) n n, .int .i64 (k : Nat), .int .i64 x] w fun e w' => e = .returned (.int .i64 ((k + (numB x).length : Nat) : Int)) ∧ LayOut w w' base g n bs k (numB x)
set_option maxHeartbeats 4000000 in
theorem lay_2 (x : Int) (hx : x = 13 ∨ x = 0 ∨ x = 1 ∨ x = 2 ∨ x = 3 ∨ x = 4 ∨ x = 5 ∨ x = 6 ∨ x = 7 ∨ x = 8 ∨ x = 9) : LayP x := by
  intro w base g n bs h hn k hk hb
  rcases hx with rfl | rfl | rfl | rfl | rfl | rfl | rfl | rfl | rfl | rfl | rfl
  all_goals
    have hk2 : k + 2 ≤ n := hk
    have c0 := h.get k (by omega)
    have c1 := h.get (k + 1) (by omega)
    have cz := h.frozen
    have i0 : (k : Int) < n := by omega
    have i1 : (k : Int) + 1 < n := by omega
    have i2 : (n : Int) ≤ 1099511627776 := by omega
    have HH := hid h
    have HN := hid hn
    have HK := hid hk2
    clear h hn hk hk2 hb
    refine calls_via fun K hK => ?_
    go_enter Tryz.func129, Tryz.ntmps129
    go_wp2_with fail
    exact hK.out _ _ ⟨rfl, lay_end2 HH.out HN.out HK.out _ _⟩
set_option maxHeartbeats 4000000 in
theorem lay_3 (x : Int) (hx : x = 10 ∨ x = 11 ∨ x = 12 ∨ x = -1 ∨ x = -2 ∨ x = -3 ∨ x = -4 ∨ x = -5 ∨ x = -6 ∨ x = -7 ∨ x = -8 ∨ x = -9) : LayP x := by
  intro w base g n bs h hn k hk hb
  rcases hx with rfl | rfl | rfl | rfl | rfl | rfl | rfl | rfl | rfl | rfl | rfl | rfl
  all_goals
    have hk2 : k + 3 ≤ n := hk
    have c0 := h.get k (by omega)
    have c1 := h.get (k + 1) (by omega)
    have c2 := h.get (k + 2) (by omega)
    have cz := h.frozen
    have i0 : (k : Int) < n := by omega
    have i1 : (k : Int) + 1 < n := by omega
    have i3 : (k : Int) + 2 < n := by omega
    have i2 : (n : Int) ≤ 1099511627776 := by omega
    have HH := hid h
    have HN := hid hn
    have HK := hid hk2
    clear h hn hk hk2 hb
    refine calls_via fun K hK => ?_
    go_enter Tryz.func129, Tryz.ntmps129
    go_wp2_with fail
    exact hK.out _ _ ⟨rfl, lay_end3 HH.out HN.out HK.out _ _ _⟩
set_option maxHeartbeats 4000000 in
theorem lay_4 (x : Int) (hx : x = -10 ∨ x = -11 ∨ x = -12) : LayP x := by
  intro w base g n bs h hn k hk hb
  rcases hx with rfl | rfl | rfl
  all_goals
    have hk2 : k + 4 ≤ n := hk
    have c0 := h.get k (by omega)
    have c1 := h.get (k + 1) (by omega)
    have c2 := h.get (k + 2) (by omega)
    have c3 := h.get (k + 3) (by omega)
    have cz := h.frozen
    have i0 : (k : Int) < n := by omega
    have i1 : (k : Int) + 1 < n := by omega
    have i3 : (k : Int) + 2 < n := by omega
    have i4 : (k : Int) + 3 < n := by omega
    have i2 : (n : Int) ≤ 1099511627776 := by omega
    have HH := hid h
    have HN := hid hn
    have HK := hid hk2
    clear h hn hk hk2 hb
    refine calls_via fun K hK => ?_
    go_enter Tryz.func129, Tryz.ntmps129
    go_wp2_with fail
    exact hK.out _ _ ⟨rfl, lay_end4 HH.out HN.out HK.out _ _ _ _⟩
theorem lay_any (x : Int) (hx : flatNum x) : LayP x := by
  by_cases h2 : x = 13 ∨ x = 0 ∨ x = 1 ∨ x = 2 ∨ x = 3 ∨ x = 4 ∨ x = 5 ∨ x = 6 ∨ x = 7 ∨ x = 8 ∨ x = 9
  · exact lay_2 x h2
  · by_cases h3 : x = 10 ∨ x = 11 ∨ x = 12 ∨ x = -1 ∨ x = -2 ∨ x = -3 ∨ x = -4 ∨ x = -5 ∨ x = -6 ∨ x = -7 ∨ x = -8 ∨ x = -9
    · exact lay_3 x h3
    · refine lay_4 x ?_
      rcases hx with e | e | e
      · omega
      · omega
      · have := (good_iff x).1 e; omega
end Go.Proofs.Qxb6500354aGreat
