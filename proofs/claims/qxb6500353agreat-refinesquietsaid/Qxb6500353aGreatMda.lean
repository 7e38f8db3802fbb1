/- The model's decoder: symbol, walked. -/
import Derived.Test.Qxb6500353aGreatMkd
import Derived.Test.Qxb6500353aGreatMtb
import Derived.Test.Qxb6500353aGreatMch
namespace Go.Proofs.Qxb6500353aGreat
open Go.RowKit
set_option linter.unusedVariables false
set_option linter.unusedSimpArgs false

theorem symF_got (l : List Nat) (t : Tp) (h : (symF l t).2.2 = 0) : (symF l t).1 < l.length ∧ 0 < (symF l t).2.1 ∧ (symF l t).2.1 ≤ t.got 10 := by
  have h1 := findF_range (l := l) (t.peek 10) (t.got 10) h
  exact ⟨h1.1, h1.2.1, h1.2.2.1⟩
theorem symF_err (l : List Nat) (t : Tp) : (symF l t).2.2 ≤ 8 := by
  unfold symF findF
  split
  · simp
  · split <;> simp
set_option maxRecDepth 100000 in
theorem symm_no {w : World} {b cap a g1 g2 : Nat} {ad : Option Addr} {t : Tp} {l : List Nat} (h : MTp w b ad cap t) (hc : McR w a g1 g2 l) (hl : l.length ≤ 265) (h10 : ∀ s, len l s ≤ 10) (he : (symF l t).2.2 ≠ 0) :
    Calls Tryz.prog 144 #[.pointer (some ⟨b, 0, none⟩), .pointer (some ⟨a, 0, none⟩)] w fun e w' => e = .returned (.tuple #[.int .i64 0, .int .i64 ((symF l t).2.2 : Nat)]) ∧ ∃ q, w' = w.drewN q := by
  have hp := mpeek_any h (k := 10) (by omega)
  have hf := fun w2 (h2 : McR w2 a g1 g2 l) => mfind_any h2 hl h10 (t.peek 10) (t.got 10) (peek_lt t 10) (by have := got_le t 10; omega)
  have hfs : ∀ w2, McR w2 a g1 g2 l → Calls Tryz.prog 170 #[.pointer (some ⟨a, 0, none⟩), .int .i64 ((t.peek 10 : Nat) : Int), .int .i64 ((t.got 10 : Nat) : Int)] w2 fun e w' => e = .returned (.tuple #[.int .i64 ((symF l t).1 : Nat), .int .i64 ((symF l t).2.1 : Nat), .int .i64 ((symF l t).2.2 : Nat)]) ∧ w' = w2 := hf
  have he8 := symF_err l t
  obtain ⟨p, hpp⟩ : ∃ p, p = t.peek 10 := ⟨_, rfl⟩
  obtain ⟨g, hgg⟩ : ∃ p, p = t.got 10 := ⟨_, rfl⟩
  obtain ⟨x, hx⟩ : ∃ p, p = (symF l t).1 := ⟨_, rfl⟩
  obtain ⟨y, hy⟩ : ∃ p, p = (symF l t).2.1 := ⟨_, rfl⟩
  obtain ⟨z, hz⟩ : ∃ p, p = (symF l t).2.2 := ⟨_, rfl⟩
  rw [← hpp, ← hgg] at hp hfs
  rw [← hx, ← hy, ← hz] at hfs
  rw [← hz] at he he8 ⊢
  have hzi : ((z : Int) != 0) = true := by simp; omega
  have HP := hid hp
  have HFS := hid hfs
  have HC := hid hc
  clear h hc hl h10 hp hf hfs hpp hgg hx hy hz he
  refine calls_via fun K hK => ?_
  unfold ptrV at HP
  go_enter Tryz.func144, Tryz.ntmps144
  go_wp2_with fail
  refine HP.out.mono ?_
  rintro e w2 ⟨rfl, q, rfl⟩
  go_wp2_with fail
  refine (HFS.out _ (HC.out.fr (Fr.of_drewN (S := Nob)) (fun x => x) (fun x => x) (fun x => x))).mono ?_
  rintro e w' ⟨rfl, hw⟩
  have hw2 := hw; subst hw2; clear hw
  go_wp2_with fail
  exact hK.out _ _ ⟨rfl, _, rfl⟩
set_option maxRecDepth 100000 in
theorem symm_yes {w : World} {b cap a g1 g2 : Nat} {ad : Option Addr} {t : Tp} {l : List Nat} (h : MTp w b ad cap t) (hc : McR w a g1 g2 l) (hl : l.length ≤ 265) (h10 : ∀ s, len l s ≤ 10) (he : (symF l t).2.2 = 0) :
    Calls Tryz.prog 144 #[.pointer (some ⟨b, 0, none⟩), .pointer (some ⟨a, 0, none⟩)] w fun e w' => e = .returned (.tuple #[.int .i64 ((symF l t).1 : Nat), .int .i64 0]) ∧ MTp w' b ad cap (t.skip (symF l t).2.1) ∧ Fr (One b) w w' := by
  have hp := mpeek_any h (k := 10) (by omega)
  have hf := fun w2 (h2 : McR w2 a g1 g2 l) => mfind_any h2 hl h10 (t.peek 10) (t.got 10) (peek_lt t 10) (by have := got_le t 10; omega)
  have hfs : ∀ w2, McR w2 a g1 g2 l → Calls Tryz.prog 170 #[.pointer (some ⟨a, 0, none⟩), .int .i64 ((t.peek 10 : Nat) : Int), .int .i64 ((t.got 10 : Nat) : Int)] w2 fun e w' => e = .returned (.tuple #[.int .i64 ((symF l t).1 : Nat), .int .i64 ((symF l t).2.1 : Nat), .int .i64 ((symF l t).2.2 : Nat)]) ∧ w' = w2 := hf
  have hgt := symF_got l t he
  have hg10 := got_le t 10
  have hgn : t.at_ + (symF l t).2.1 ≤ t.n := by
    have h1 := hgt.2.2
    have h2 := h.ok.cur
    unfold Tp.got at h1
    omega
  have HSK := hid (fun q => mskip_yes (h.drewN (k := q)) (k := (symF l t).2.1) (by omega) hgn)
  rw [he] at hfs
  obtain ⟨p, hpp⟩ : ∃ p, p = t.peek 10 := ⟨_, rfl⟩
  obtain ⟨g, hgg⟩ : ∃ p, p = t.got 10 := ⟨_, rfl⟩
  obtain ⟨x, hx⟩ : ∃ p, p = (symF l t).1 := ⟨_, rfl⟩
  obtain ⟨y, hy⟩ : ∃ p, p = (symF l t).2.1 := ⟨_, rfl⟩
  rw [← hpp, ← hgg] at hp hfs
  rw [← hx, ← hy] at hfs ⊢
  rw [← hy] at HSK
  have HP := hid hp
  have HFS := hid hfs
  have HC := hid hc
  clear h hc hl h10 hp hf hfs hpp hgg hx hy he hgt hg10 hgn
  refine calls_via fun K hK => ?_
  unfold ptrV at HP HSK
  go_enter Tryz.func144, Tryz.ntmps144
  go_wp2_with fail
  refine HP.out.mono ?_
  rintro e w2 ⟨rfl, q, rfl⟩
  go_wp2_with fail
  refine (HFS.out _ (HC.out.fr (Fr.of_drewN (S := Nob)) (fun x => x) (fun x => x) (fun x => x))).mono ?_
  rintro e w' ⟨rfl, hw⟩
  have hw2 := hw; subst hw2; clear hw
  go_wp2_with fail
  refine (HSK.out _).mono ?_
  rintro e w3 ⟨rfl, h3, hf3⟩
  have H3 := hid h3
  have HF3 := hid hf3
  clear h3 hf3
  go_wp2_with fail
  exact hK.out _ _ ⟨rfl, H3.out, Fr.trans (Fr.of_drewN (S := One b)) HF3.out⟩
end Go.Proofs.Qxb6500353aGreat
