/- The law's own functions: Dear, walked. -/
import Derived.Test.Qxb6500353aGreatLwa
import Derived.Test.Qxb6500353aGreatArd
namespace Go.Proofs.Qxb6500353aGreat
open Go.RowKit
set_option linter.unusedVariables false
set_option linter.unusedSimpArgs false

theorem dearF_snoc (l : List Ent) (e : Ent) : dearF (l ++ [e]) = dearF l + (e.name.length + e.data.length + 12) := by
  unfold dearF; rw [List.map_append, List.sum_append]; simp; omega
set_option maxRecDepth 100000 in
set_option maxHeartbeats 4000000 in
theorem dear_any {w : World} {ad : Option Addr} {cap : Nat} {es : List EB} (h : EntS w ad es) (hl : es.length ≤ 4) (hb : ∀ e ∈ es, e.1.size ≤ 1000 ∧ e.2.size ≤ 1000) :
    Calls Tryz.prog 56 #[.slice ad es.length cap] w fun e w' => e = .returned (.int .i64 (dearF (es.map toE) : Nat)) ∧ Fr Nob w w' := by
  have H := hid h
  have HB := hid hb
  obtain ⟨n, hn⟩ : ∃ z, z = es.length := ⟨_, rfl⟩
  have HN := hid hn
  rw [← hn] at hl ⊢
  have hni : (n : Int) ≤ 4 := by omega
  have HN4 := hid hl
  clear h hn hl hb
  refine calls_via fun K hK => ?_
  go_enter Tryz.func56, Tryz.ntmps56
  go_wp2_with fail
  go_loopg [3, 4] n (fun g av iv wr => ∃ (k a : Nat), iv = .int .i64 (k : Nat) ∧ g + k = n ∧ av = .int .i64 (a : Nat) ∧ a = dearF ((es.take k).map toE) ∧ a ≤ 4 + 2012 * k ∧ Fr Nob w wr)
  case atStart => exact ⟨0, 4, rfl, by omega, rfl, rfl, by omega, Fr.refl _ _⟩
  case round =>
    obtain ⟨k, a, rfl, hg, rfl, ha, hal, hf⟩ := hrel
    have HG := hid hg
    have HA := hid (And.intro ha hal)
    have HF := hid hf
    have hn4 := HN4.out
    have hai : (a : Int) ≤ 100000 := by omega
    by_cases hk : k < n
    · have hki : (k : Int) < n := by omega
      have hkl : k < es.length := by rw [← HN.out]; exact hk
      obtain ⟨g, rfl, hgl, x0, x1⟩ := (H.out.fr hf (fun _ _ x => x)).at hkl
      have hbb := HB.out _ (List.getElem_mem hkl)
      have hnx : dearF ((es.take (k + 1)).map toE) = a + (es[k].1.size + es[k].2.size + 12) := by
        rw [take_snoc2 hkl, List.map_append, List.map_cons, List.map_nil, dearF_snoc, ← ha]
        unfold toE; simp only [bytesOf_len]
      obtain ⟨e, he⟩ : ∃ z, z = es[k] := ⟨_, rfl⟩
      rw [← he] at x0 x1 hbb hnx
      obtain ⟨nm, dt⟩ := e
      dsimp only at x0 x1 hbb hnx
      have h1 : (nm.size : Int) ≤ 1000 := by omega
      have h2 : (dt.size : Int) ≤ 1000 := by omega
      obtain ⟨a2, ha2⟩ : ∃ z, z = a + (nm.size + dt.size + 12) := ⟨_, rfl⟩
      have e2 : (a : Int) + (nm.size : Int) + (dt.size : Int) + 12 = (a2 : Int) := by omega
      have HX := hid (show a2 = dearF ((es.take (k + 1)).map toE) ∧ a2 ≤ 4 + 2012 * (k + 1) from ⟨by rw [hnx, ha2], by omega⟩)
      clear hg ha hal hf hn4 hgl hbb hnx he ha2 hkl hk
      go_upto_region 5 with fail
      go_quiet (fail)
      go_wp2_with fail
      go_roundg (gk - 1)
      case measure => have := HG.out; omega
      case rel => exact ⟨k + 1, a2, by simp, by have := HG.out; omega, by first | rfl | (rw [← e2]), HX.out.1, HX.out.2, HF.out.drewN⟩
    · have hki : ¬ (k : Int) < n := by omega
      have hkn : es.take k = es := List.take_of_length_le (by rw [← HN.out]; omega)
      rw [hkn] at ha
      rw [← ha] at hK
      clear hg ha hal hf hn4 hkn hk
      go_wp2_with fail
      exact hK.out _ _ ⟨rfl, HF.out⟩
end Go.Proofs.Qxb6500353aGreat
