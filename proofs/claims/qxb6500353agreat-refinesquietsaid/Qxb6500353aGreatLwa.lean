/- The law's own functions: lists compared, texts lengthened, walked. -/
import Derived.Test.Qxb6500353aGreatArh
import Derived.Test.Qxb6500353aGreatAma
namespace Go.Proofs.Qxb6500353aGreat
open Go.RowKit
set_option linter.unusedVariables false
set_option linter.unusedSimpArgs false

/-- A list of rows in memory. -/
def InfS (w : World) (ad : Option Addr) (l : List IB) : Prop := l = [] ∨ ∃ g, ad = some ⟨g, 0, none⟩ ∧ g < w.heap.size ∧ Cel mkV w g 0 (l.length * 3) (infV l)
theorem InfS.at {w : World} {ad : Option Addr} {l : List IB} (h : InfS w ad l) {k : Nat} (hk : k < l.length) : ∃ g, ad = some ⟨g, 0, none⟩ ∧ g < w.heap.size ∧ w.cell? ⟨g, k * 3, none⟩ = some (.string l[k].1) ∧ w.cell? ⟨g, k * 3 + 1, none⟩ = some (.int .i64 (l[k].2.1 : Nat)) ∧ w.cell? ⟨g, k * 3 + 2, none⟩ = some (.int .i64 (l[k].2.2 : Nat)) := by
  rcases h with h | ⟨g, h1, h2, h3⟩
  · subst h; simp at hk
  · have a := infV_at (List.getElem?_eq_getElem hk)
    have x0 := h3.at0 (k * 3) (by omega)
    have x1 := h3.at0 (k * 3 + 1) (by omega)
    have x2 := h3.at0 (k * 3 + 2) (by omega)
    simp only [mkV] at x0 x1 x2
    rw [a.1] at x0
    rw [a.2.1] at x1
    rw [a.2.2] at x2
    exact ⟨g, h1, h2, x0, x1, x2⟩
theorem InfS.fr {S : Nat → Prop} {w w2 : World} {ad : Option Addr} {l : List IB} (h : InfS w ad l) (hf : Fr S w w2) (hn : ∀ g, obk ad = some g → ¬ S g) : InfS w2 ad l := by
  rcases h with h | ⟨g, h1, h2, h3⟩
  · exact .inl h
  · exact .inr ⟨g, h1, Nat.lt_of_lt_of_le h2 hf.size, h3.fr hf (hn g (by rw [h1]; rfl))⟩
set_option maxRecDepth 100000 in
set_option maxHeartbeats 4000000 in
/-- SameEntries on two lists of the same entries. -/
theorem sameE_any {w : World} {ad ad2 : Option Addr} {cap cap2 : Nat} {es : List EB} (h : EntS w ad es) (h2 : EntS w ad2 es) (hl : es.length ≤ 1000000) :
    Calls Tryz.prog 31 #[.slice ad es.length cap, .slice ad2 es.length cap2] w fun e w' => e = .returned (.bool true) ∧ ∃ q, w' = w.drewN q := by
  have H := hid h
  have H2 := hid h2
  obtain ⟨n, hn⟩ : ∃ z, z = es.length := ⟨_, rfl⟩
  have HN := hid hn
  rw [← hn] at hl ⊢
  have hni : (n : Int) ≤ 1000000 := by omega
  clear h h2 hn hl
  refine calls_via fun K hK => ?_
  go_enter Tryz.func31, Tryz.ntmps31
  go_wp2_with fail
  go_loopg [5] n (fun g i wr => ∃ k : Nat, i = .int .i64 (k : Nat) ∧ g + k = n ∧ ∃ q, wr = w.drewN q)
  case atStart => exact ⟨0, rfl, by omega, 0, rfl⟩
  case round =>
    obtain ⟨k, rfl, hg, q, hq⟩ := hrel
    have HG := hid hg
    have hf : Fr Nob w wr := by rw [hq]; exact Fr.of_drewN
    have HQ := hid hq
    clear hq
    by_cases hk : k < n
    · have hki : (k : Int) < n := by omega
      have hkl : k < es.length := by rw [← HN.out]; exact hk
      obtain ⟨g, rfl, hgl, x0, x1⟩ := (H.out.fr hf (fun _ _ x => x)).at hkl
      obtain ⟨g2, rfl, hgl2, y0, y1⟩ := (H2.out.fr hf (fun _ _ x => x)).at hkl
      obtain ⟨e, he⟩ : ∃ z, z = es[k] := ⟨_, rfl⟩
      rw [← he] at x0 x1 y0 y1
      obtain ⟨nm, dt⟩ := e
      dsimp only at x0 x1 y0 y1
      clear hg hf hgl hgl2 he hkl hk
      go_upto_region 6 with fail
      go_quiet (fail)
      go_wp2_with fail
      go_roundg (gk - 1)
      case measure => have := HG.out; omega
      case rel => exact ⟨k + 1, by simp, by have := HG.out; omega, q + nq, by rw [HQ.out, World.drewN_drewN]⟩
    · have hki : ¬ (k : Int) < n := by omega
      clear hg hf hk
      go_wp2_with fail
      exact hK.out _ _ ⟨rfl, q, HQ.out⟩
set_option maxRecDepth 100000 in
set_option maxHeartbeats 4000000 in
/-- SameInfos on two lists of the same rows. -/
theorem sameI_any {w : World} {ad ad2 : Option Addr} {cap cap2 : Nat} {l : List IB} (h : InfS w ad l) (h2 : InfS w ad2 l) (hl : l.length ≤ 1000000) :
    Calls Tryz.prog 37 #[.slice ad l.length cap, .slice ad2 l.length cap2] w fun e w' => e = .returned (.bool true) ∧ ∃ q, w' = w.drewN q := by
  have H := hid h
  have H2 := hid h2
  obtain ⟨n, hn⟩ : ∃ z, z = l.length := ⟨_, rfl⟩
  have HN := hid hn
  rw [← hn] at hl ⊢
  have hni : (n : Int) ≤ 1000000 := by omega
  clear h h2 hn hl
  refine calls_via fun K hK => ?_
  go_enter Tryz.func37, Tryz.ntmps37
  go_wp2_with fail
  go_loopg [5] n (fun g i wr => ∃ k : Nat, i = .int .i64 (k : Nat) ∧ g + k = n ∧ ∃ q, wr = w.drewN q)
  case atStart => exact ⟨0, rfl, by omega, 0, rfl⟩
  case round =>
    obtain ⟨k, rfl, hg, q, hq⟩ := hrel
    have HG := hid hg
    have hf : Fr Nob w wr := by rw [hq]; exact Fr.of_drewN
    have HQ := hid hq
    clear hq
    by_cases hk : k < n
    · have hki : (k : Int) < n := by omega
      have hkl : k < l.length := by rw [← HN.out]; exact hk
      obtain ⟨g, rfl, hgl, x0, x1, x2⟩ := (H.out.fr hf (fun _ _ x => x)).at hkl
      obtain ⟨g2, rfl, hgl2, y0, y1, y2⟩ := (H2.out.fr hf (fun _ _ x => x)).at hkl
      obtain ⟨e, he⟩ : ∃ z, z = l[k] := ⟨_, rfl⟩
      rw [← he] at x0 x1 x2 y0 y1 y2
      obtain ⟨nm, sz, rw_⟩ := e
      dsimp only at x0 x1 x2 y0 y1 y2
      clear hg hf hgl hgl2 he hkl hk
      go_upto_region 6 with fail
      go_quiet (fail)
      go_wp2_with fail
      go_roundg (gk - 1)
      case measure => have := HG.out; omega
      case rel => exact ⟨k + 1, by simp, by have := HG.out; omega, q + nq, by rw [HQ.out, World.drewN_drewN]⟩
    · have hki : ¬ (k : Int) < n := by omega
      clear hg hf hk
      go_wp2_with fail
      exact hK.out _ _ ⟨rfl, q, HQ.out⟩
end Go.Proofs.Qxb6500353aGreat
