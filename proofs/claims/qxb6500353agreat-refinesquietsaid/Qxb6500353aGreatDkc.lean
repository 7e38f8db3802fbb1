/- The law: CopyEntries, Spare, walked. -/
import Derived.Test.Qxb6500353aGreatDsk
import Derived.Test.Qxb6500353aGreatCpv
import Derived.Test.Qxb6500353aGreatArj
namespace Go.Proofs.Qxb6500353aGreat
open Go.RowKit
set_option linter.unusedVariables false
set_option linter.unusedSimpArgs false

def bangE : EB := (⟨#[33]⟩, ⟨#[33]⟩)
theorem Tryz.size98 : (Tryz.prog.info? 98).map (·.size) = some 2 := by kernel_rfl
theorem entV_one (es : List EB) (i : Nat) : (entV es i).oneCell' = true := by
  unfold entV; split <;> rfl
theorem entV_app {es fs : List EB} {j : Nat} (h : j < es.length * 2) : entV (es ++ fs) j = entV es j := by
  unfold entV
  rw [show (es ++ fs).getD (j / 2) (⟨#[]⟩, ⟨#[]⟩) = es.getD (j / 2) (⟨#[]⟩, ⟨#[]⟩) by
    rw [List.getD_eq_getElem?_getD, List.getD_eq_getElem?_getD, List.getElem?_append_left (by omega)]]
theorem entV_app2 {es : List EB} {j : Nat} (h1 : es.length * 2 ≤ j) (h2 : j < (es.length + 2) * 2) : entV (es ++ [bangE, bangE]) j = bangV := by
  have hx : (es ++ [bangE, bangE]).getD (j / 2) (⟨#[]⟩, ⟨#[]⟩) = bangE := by
    rw [List.getD_eq_getElem?_getD, List.getElem?_append_right (by omega)]
    have : j / 2 - es.length = 0 ∨ j / 2 - es.length = 1 := by omega
    rcases this with e | e <;> rw [e] <;> rfl
  unfold entV
  rw [hx]
  split <;> rfl
set_option maxRecDepth 100000 in
set_option maxHeartbeats 8000000 in
theorem copyE_any {w : World} {ad : Option Addr} {cap : Nat} {es : List EB} (h : EntS w ad es) (hl : es.length ≤ 5) :
    Calls Tryz.prog 27 #[.slice ad es.length cap] w fun e w' => e = .returned (.slice (some ⟨w.heap.size, 0, none⟩) es.length (es.length + 2)) ∧ Arr 98 mkV w' w.heap.size ((es.length + 2) * 2) (entV (es ++ [bangE, bangE])) ∧ Fr Nob w w' := by
  obtain ⟨N, hN⟩ : ∃ N, w.heap.size = N := ⟨_, rfl⟩
  rw [hN]
  have H := hid h
  have HEX := hid (fun (j : Nat) (hj : j < es.length * 2) => entV_app (es := es) (fs := [bangE, bangE]) hj)
  have HEY := hid (fun (j : Nat) h1 h2 => entV_app2 (es := es) (j := j) h1 h2)
  obtain ⟨n, hn⟩ : ∃ z, z = es.length := ⟨_, rfl⟩
  rw [← hn] at hl HEX HEY ⊢
  have hni : (n : Int) ≤ 5 := by omega
  have HN := hid hn
  have HNN := hid hN
  have h2i : (n : Int) + 2 = ((n + 2 : Nat) : Int) := by omega
  have H2 := hid h2i
  have h02 : (0 : Int) ≤ (n : Int) + 2 := by omega
  have HXX : Hid (∀ w2, Fr Nob w w2 → n = 0 ∨ ∃ sg so, ad = some ⟨sg, so, none⟩ ∧ Cel mkV w2 sg so (n * 2) (entV es)) := hid (fun w2 hf => by
    rcases h with h | ⟨g, h1, h2, h3⟩
    · left; rw [HN.out, h]; rfl
    · exact .inr ⟨g, 0, h1, by rw [HN.out]; exact h3.fr hf (fun x => x)⟩)
  have HX4 : Hid (∀ w4, Arr 98 mkV w4 N ((n + 2) * 2) (fun i => if i < n * 2 then entV es i else ([Value.string ⟨#[]⟩, Value.string ⟨#[]⟩] : List Value)[i % 2]?.getD undef) → w4.cell? ⟨N, n * 2, none⟩ = some (.string ⟨#[]⟩) ∧ w4.cell? ⟨N, n * 2 + 1, none⟩ = some (.string ⟨#[]⟩) ∧ w4.cell? ⟨N, (n + 1) * 2, none⟩ = some (.string ⟨#[]⟩) ∧ w4.cell? ⟨N, (n + 1) * 2 + 1, none⟩ = some (.string ⟨#[]⟩)) := hid (fun w4 ha4 => by
    refine ⟨(ha4.cell (n * 2) (by omega)).trans ?_, (ha4.cell (n * 2 + 1) (by omega)).trans ?_, (ha4.cell ((n + 1) * 2) (by omega)).trans ?_, (ha4.cell ((n + 1) * 2 + 1) (by omega)).trans ?_⟩
    · rw [if_neg (by omega), show n * 2 % 2 = 0 by omega]; rfl
    · rw [if_neg (by omega), show (n * 2 + 1) % 2 = 1 by omega]; rfl
    · rw [if_neg (by omega), show (n + 1) * 2 % 2 = 0 by omega]; rfl
    · rw [if_neg (by omega), show ((n + 1) * 2 + 1) % 2 = 1 by omega]; rfl)
  clear h hn hl h2i
  refine calls_via fun K hK => ?_
  go_enter Tryz.func27, Tryz.ntmps27
  go_wp2_with (first
    | (at_make; refine wp_mkg rfl _ _ 32 98 2 32 _ rfl Tryz.underlying32 Tryz.info98 rfl ((n : Int) + 2) ((n : Int) + 2) (n + 2) (n + 2) N HNN.out rfl rfl H2.out H2.out (Nat.le_refl _) (by omega) (by omega) ?_; intro w2 hs2 ha2 hf2; have HA2 := hid ha2; have F2 := hid hf2; clear ha2 hf2 hs2)
    | ((with_reducible refine gd_copy rfl ?_); refine wp_cpg rfl _ _ 32 32 98 2 rfl Tryz.underlying32 Tryz.size98 N ((n + 2) * 2) (n + 2) (n + 2) n cap ad (x := entV es) rfl rfl HA2.out (by omega) (by omega) (HXX.out _ F2.out) (fun i hi => entV_one _ _) ?_))
  intro w4 ha4 hs4 hf4
  (have HA4 := hid ha4; have HF4 := hid hf4; obtain ⟨x0, x1, x2, x3⟩ := HX4.out _ ha4; have xz : ∀ i, w4.frozen? ⟨N, i, none⟩ = false := ha4.thaw; clear ha4 hs4 hf4)
  go_wp2_with fail
  refine hK.out _ _ ⟨rfl, ?_, ?_⟩
  · refine (((((HA4.out.set (n * 2) bangV).set (n * 2 + 1) bangV).set ((n + 1) * 2) bangV).set ((n + 1) * 2 + 1) bangV)).congr (fun j hj => ?_)
    by_cases e3 : j = (n + 1) * 2 + 1
    · subst e3; rw [upd_self, HEY.out _ (by omega) (by omega)]
    · rw [upd_ne _ _ _ _ e3]
      by_cases e2 : j = (n + 1) * 2
      · subst e2; rw [upd_self, HEY.out _ (by omega) (by omega)]
      · rw [upd_ne _ _ _ _ e2]
        by_cases e1 : j = n * 2 + 1
        · subst e1; rw [upd_self, HEY.out _ (by omega) (by omega)]
        · rw [upd_ne _ _ _ _ e1]
          by_cases e0 : j = n * 2
          · subst e0; rw [upd_self, HEY.out _ (by omega) (by omega)]
          · rw [upd_ne _ _ _ _ e0, if_pos (by omega), HEX.out _ (by omega)]
  · exact ((F2.out.trans2 HF4.out (fun x hx hl => by unfold One at hx; have := HNN.out; omega)).trans2 (((((Fr.refl (One N) w4).set1 (n * 2) bangV).set1 (n * 2 + 1) bangV).set1 ((n + 1) * 2) bangV).set1 ((n + 1) * 2 + 1) bangV) (fun x hx hl => by unfold One at hx; have := HNN.out; omega))
/-- The cells beyond the length are stamps. -/
theorem spare_any {w : World} {g n : Nat} {es : List EB} (ha : Arr 98 mkV w g ((n + 2) * 2) (entV (es ++ [bangE, bangE]))) (hn : n = es.length) (hl : n ≤ 5) :
    Calls Tryz.prog 32 #[.slice (some ⟨g, 0, none⟩) n (n + 2)] w fun e w' => e = .returned (.bool true) ∧ w' = w := by
  have HX : Hid (∀ k, n ≤ k → k < n + 2 → w.cell? ⟨g, k * 2, none⟩ = some (.string ⟨#[33]⟩) ∧ w.cell? ⟨g, k * 2 + 1, none⟩ = some (.string ⟨#[33]⟩)) := hid (fun k h1 h2 => ⟨(ha.cell (k * 2) (by omega)).trans (by rw [entV_app2 (by omega) (by omega)]; rfl), (ha.cell (k * 2 + 1) (by omega)).trans (by rw [entV_app2 (by omega) (by omega)]; rfl)⟩)
  have hni : (n : Int) ≤ 5 := by omega
  have h02 : (0 : Int) ≤ (n : Int) + 2 := by omega
  clear ha hn hl
  refine calls_via fun K hK => ?_
  go_enter Tryz.func32, Tryz.ntmps32
  go_wp2_with fail
  go_loopg [4] 2 (fun gk i wr => ∃ j : Nat, i = .int .i64 (j : Nat) ∧ gk + j = n + 2 ∧ n ≤ j ∧ wr = w)
  case atStart => exact ⟨n, rfl, by omega, Nat.le_refl _, rfl⟩
  case round =>
    obtain ⟨j, rfl, hg, hnj, hww⟩ := hrel
    have hww2 := hww.symm
    subst hww2
    clear hww
    by_cases hj : j < n + 2
    · have hji : (j : Int) < (n : Int) + 2 := by omega
      have hjl : (j : Int) < 7 := by omega
      have hjl2 : j < n + 2 := hj
      obtain ⟨x0, x1⟩ := HX.out j hnj hj
      have HG := hid hg
      have HNJ := hid hnj
      clear hg hj hnj
      go_wp2_with fail
      go_roundg (gk - 1)
      case measure => have := HG.out; omega
      case rel => exact ⟨j + 1, by simp, by have := HG.out; omega, by have := HNJ.out; omega, rfl⟩
    · have hji : ¬ (j : Int) < (n : Int) + 2 := by omega
      clear hg hj hnj
      go_wp2_with fail
      exact hK.out _ _ ⟨rfl, rfl⟩
end Go.Proofs.Qxb6500353aGreat
