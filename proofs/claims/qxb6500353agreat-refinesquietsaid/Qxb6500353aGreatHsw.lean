/- The matcher's hash and span, walked. -/
import Derived.Test.Qxb6500353aGreatObj
import Derived.Test.Qxb6500353aGreatLzp
namespace Go.Proofs.Qxb6500353aGreat
open Go.RowKit
set_option linter.unusedVariables false
set_option linter.unusedSimpArgs false

theorem byteI (s : ByteArray) {k : Nat} (h : k < s.size) : (s[k]'h).toNat = by_ (bytesOf s) k := byteAt s h
theorem by_lt {l : List Nat} (h : ∀ x ∈ l, x < 256) (k : Nat) : by_ l k < 256 := by
  unfold by_
  by_cases hk : k < l.length
  · rw [List.getD_eq_getElem?_getD, List.getElem?_eq_getElem hk]; exact h _ (List.getElem_mem hk)
  · rw [List.getD_eq_getElem?_getD, List.getElem?_eq_none (by omega)]; decide
theorem byS_lt (s : ByteArray) (k : Nat) : by_ (bytesOf s) k < 256 := by_lt (bytesOf_lt s) k

set_option maxRecDepth 100000 in
theorem hash_any {w : World} {s : ByteArray} {p : Nat} (hp : p + 3 ≤ s.size) (hs : s.size ≤ 1000000) : Calls Tryz.prog 171 #[.string s, .int .i64 p] w fun e w' => e = .returned (.int .i64 (hashF (bytesOf s) p : Nat)) ∧ w' = w := by
  have hpi : (p : Int) + 3 ≤ s.size := by omega
  have hsi : (s.size : Int) ≤ 1000000 := by omega
  have b1 := byteI s (k := p) (by omega)
  have b2 := byteI s (k := p + 1) (by omega)
  have b3 := byteI s (k := p + 2) (by omega)
  have h1 := byS_lt s p
  have h2 := byS_lt s (p + 1)
  have h3 := byS_lt s (p + 2)
  obtain ⟨r, hr⟩ : ∃ r, r = hashF (bytesOf s) p := ⟨_, rfl⟩
  have hr2 : r = hash3 (by_ (bytesOf s) p) (by_ (bytesOf s) (p + 1)) (by_ (bytesOf s) (p + 2)) := hr
  rw [← hr]
  obtain ⟨x, hx⟩ : ∃ x, x = by_ (bytesOf s) p := ⟨_, rfl⟩
  obtain ⟨y, hy⟩ : ∃ x, x = by_ (bytesOf s) (p + 1) := ⟨_, rfl⟩
  obtain ⟨z, hz⟩ : ∃ x, x = by_ (bytesOf s) (p + 2) := ⟨_, rfl⟩
  rw [← hx] at b1 h1 hr2
  rw [← hy] at b2 h2 hr2
  rw [← hz] at b3 h3 hr2
  have hxi : (x : Int) < 256 := by omega
  have hyi : (y : Int) < 256 := by omega
  have hzi : (z : Int) < 256 := by omega
  have e1 : bits .xor .i64 ((x : Int) * 16) ((y : Int) * 4) = ((x * 16 ^^^ y * 4 : Nat) : Int) := xorI (a := x * 16) (b := y * 4) (by omega) (by omega)
  have q1 : (x * 16 ^^^ y * 4) < 2 ^ 12 := Nat.xor_lt_two_pow (by omega) (by omega)
  obtain ⟨u, hu⟩ : ∃ u, u = (x * 16 ^^^ y * 4) := ⟨_, rfl⟩
  rw [← hu] at e1 q1
  have e2 : bits .xor .i64 (u : Int) (z : Int) = ((u ^^^ z : Nat) : Int) := xorI (by omega) (by omega)
  have q2 : (u ^^^ z) < 2 ^ 12 := Nat.xor_lt_two_pow (by omega) (by omega)
  obtain ⟨v, hv⟩ : ∃ v, v = (u ^^^ z) := ⟨_, rfl⟩
  rw [← hv] at e2 q2
  have e3 : bits .and .i64 (v : Int) 63 = ((v % 64 : Nat) : Int) := mask63 (by omega)
  have hrv : r = v % 64 := by rw [hr2, hv, hu]; rfl
  rw [← hrv] at e3
  have HB := hid (And.intro b1 (And.intro b2 b3))
  clear hr hr2 hx hy hz hu hv hrv q1 q2
  refine calls_via fun K hK => ?_
  go_enter Tryz.func171, Tryz.ntmps171
  go_wp2_with fail
  exact hK.out _ _ ⟨by simp [results], rfl⟩
end Go.Proofs.Qxb6500353aGreat
