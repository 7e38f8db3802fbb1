/- The law's own functions: Period, Work, Lengthen, walked. -/
import Derived.Test.Qxb6500353aGreatLwa
import Derived.Test.Qxb6500353aGreatWrk
namespace Go.Proofs.Qxb6500353aGreat
open Go.RowKit
set_option linter.unusedVariables false
set_option linter.unusedSimpArgs false

set_option maxRecDepth 100000 in
set_option maxHeartbeats 4000000 in
theorem period_any {w : World} {s : ByteArray} (hs : s.size ≤ 1000) : Calls Tryz.prog 71 #[.string s] w fun e w' => (∃ p : Nat, e = .returned (.int .i64 (p : Nat)) ∧ p ≤ 16 ∧ (p ≠ 0 → PerOK (bytesOf s) p ∧ (p ≤ s.size ∨ s.size = 0))) ∧ Fr Nob w w' := by
  have hsi : (s.size : Int) ≤ 1000 := by omega
  clear hs
  refine calls_via fun K hK => ?_
  go_enter Tryz.func71, Tryz.ntmps71
  go_wp2_with fail
  go_loopg [3] 17 (fun g pv wr => ∃ p : Nat, pv = .int .i64 (p : Nat) ∧ g + p = 18 ∧ 1 ≤ p ∧ (p = 1 ∨ p ≤ s.size) ∧ Fr Nob w wr)
  case atStart => exact ⟨1, rfl, rfl, Nat.le_refl _, .inl rfl, Fr.refl _ _⟩
  case round =>
    obtain ⟨p, rfl, hg, h1, hp, hf⟩ := hrel
    obtain ⟨gO, hgO⟩ : ∃ g, g = gk := ⟨_, rfl⟩
    rw [← hgO] at hg
    have HGG := hid hgO
    have HG := hid hg
    have HP := hid (And.intro h1 hp)
    have HF := hid hf
    by_cases hk : p ≤ 16
    · have hki : (p : Int) ≤ 16 := by omega
      have h1i : (1 : Int) ≤ p := by omega
      have HK := hid hk
      clear hg h1 hp hf hk hgO
      go_wp2_with fail
      go_loopg [4] (s.size + 1) (fun g iv wx => ∃ i : Nat, iv = .int .i64 (i : Nat) ∧ p ≤ i ∧ (i = p ∨ i ≤ s.size) ∧ s.size + 1 ≤ g + i ∧ (∀ j, p ≤ j → j < i → by_ (bytesOf s) j = by_ (bytesOf s) (j - p)) ∧ Fr Nob w wx)
      case atStart => exact ⟨p, rfl, Nat.le_refl _, .inl rfl, by omega, fun j a b => by omega, HF.out⟩
      case round =>
        obtain ⟨i, rfl, hpi, hi, hgi, hall, hf⟩ := hrel
        have HALL := hid hall
        have HI := hid (And.intro hpi (And.intro hi hgi))
        have HF2 := hid hf
        by_cases hlt : i < s.size
        · have hlti : (i : Int) < s.size := by omega
          obtain ⟨d, hd⟩ : ∃ d, i = d + p := ⟨i - p, by omega⟩
          have b1 := byteI s hlt
          have hds : d < s.size := by omega
          have b2 := byteI s hds
          have hdi : (i : Int) - (p : Int) = (d : Int) := by omega
          have hdsi : (d : Int) < s.size := by omega
          have hbe : by_ (bytesOf s) (i - p) = by_ (bytesOf s) d := by rw [hd, Nat.add_sub_cancel]
          obtain ⟨x, hx⟩ : ∃ z, z = by_ (bytesOf s) i := ⟨_, rfl⟩
          obtain ⟨y, hy⟩ : ∃ z, z = by_ (bytesOf s) d := ⟨_, rfl⟩
          rw [← hx] at b1
          rw [← hy] at b2 hbe
          have HXY := hid (And.intro hx hbe)
          have HLT := hid hlt
          by_cases hxy : x = y
          · subst hxy
            have HX := hid (HXY.out.1.symm.trans HXY.out.2.symm)
            clear hpi hi hgi hall hf hd hbe hx hy
            go_upto_region 5 with fail
            go_quiet (fail)
            go_wp2_with fail
            go_roundg (gk - 1)
            case measure => have := HI.out; have := HLT.out; omega
            case rel => exact ⟨i + 1, by simp, by have := HI.out.1; omega, .inr (by have := HLT.out; omega), by have := HI.out.2.2; omega, fun j a b => by
              by_cases e : j = i
              · subst e; exact HX.out
              · exact HALL.out j a (by omega), HF2.out.drewN⟩
          · have hxi : ((x : Int) == (y : Int)) = false := beq_eq_false_iff_ne.2 (fun q => hxy (Int.ofNat.inj q))
            have hnge : ¬ (s.size : Int) ≤ i := by omega
            have hsp : p + 1 ≤ s.size := by omega
            have HSP := hid hsp
            clear hpi hi hgi hall hf hd hbe hx hy hxy hsp
            go_upto_region 5 with fail
            go_quiet (fail)
            go_wp2_with fail
            go_roundg (gO - 1)
            case measure => have := HG.out; have := HK.out; have := HGG.out; omega
            case rel => exact ⟨p + 1, by simp, by have := HG.out; have := HK.out; omega, by omega, .inr HSP.out, HF2.out.drewN⟩
        · have hlti : ¬ (i : Int) < s.size := by omega
          have hge : (s.size : Int) ≤ i := by omega
          have HLE := hid hlt
          clear hpi hi hgi hall hf hlt
          go_upto_region 5 with fail
          go_quiet (fail)
          go_wp2_with fail
          exact hK.out _ _ ⟨⟨p, rfl, HK.out, fun _ => ⟨fun j a b => HALL.out j a (by rw [bytesOf_len] at b; have := HLE.out; omega), by have := HP.out; omega⟩⟩, HF2.out.drewN⟩
    · have hki : ¬ (p : Int) ≤ 16 := by omega
      clear hg h1 hp hf hk hgO
      go_wp2_with fail
      exact hK.out _ _ ⟨⟨0, rfl, by omega, fun q => absurd rfl q⟩, HF.out⟩
set_option maxRecDepth 100000 in
set_option maxHeartbeats 4000000 in
theorem work_any {w : World} {s : ByteArray} (hs : s.size ≤ 256) {lv raw : Nat} (hr : raw = (packF (bytesOf s) lv).length) (hlv : lv ≤ 2) :
    Calls Tryz.prog 55 #[.string s, .int .i64 (lv : Nat), .int .i64 (raw : Nat)] w fun e w' => e = .returned (.bool true) ∧ Fr Nob w w' := by
  have hpd := period_any (w := w) (s := s) (by omega)
  have hsi : (s.size : Int) ≤ 256 := by omega
  have hlvi : (lv : Int) ≤ 2 := by omega
  have hlaw := fun (p : Nat) (hp : PerOK (bytesOf s) p) (h1 : 1 ≤ p) (h16 : p ≤ 16) (hlv : 1 ≤ lv) (hpn : p ≤ s.size ∨ s.size = 0) => work_law (bytesOf_lt s) hp h1 h16 hlv (by rw [bytesOf_len]; exact hpn)
  rw [bytesOf_len, ← hr] at hlaw
  have HPD := hid hpd
  have HL := hid hlaw
  clear hpd hlaw hr hs
  refine calls_via fun K hK => ?_
  go_enter Tryz.func55, Tryz.ntmps55
  go_wp2_with fail
  refine HPD.out.mono ?_
  rintro e w1 ⟨⟨p, rfl, h16, hpo⟩, f1⟩
  have F1 := hid f1
  have hpi : (p : Int) ≤ 16 := by omega
  by_cases c1 : lv < 1
  · have c1i : (lv : Int) < 1 := by omega
    clear h16 hpo f1 c1
    go_wp2_with fail
    exact hK.out _ _ ⟨rfl, F1.out⟩
  · have c1i : ¬ (lv : Int) < 1 := by omega
    by_cases c2 : p = 0
    · have c2i : ((p : Int) == 0) = true := by rw [c2]; rfl
      clear h16 hpo f1 c1 c2
      go_wp2_with fail
      exact hK.out _ _ ⟨rfl, F1.out⟩
    · have c2i : ((p : Int) == 0) = false := beq_eq_false_iff_ne.2 (fun q => c2 (Int.ofNat.inj q))
      have hl := HL.out p (hpo c2).1 (by omega) h16 (by omega) (hpo c2).2
      have m1 : (raw : Int) ≤ 10 + 2 * (p : Int) + (s.size : Int) / 5 := by have := hl.1; omega
      by_cases c3 : p = 1
      · have c3i : ((p : Int) == 1) = true := by rw [c3]; rfl
        have m2 : ¬ 8 + (s.size : Int) / 5 < (raw : Int) := by have := hl.2 c3; omega
        clear h16 hpo f1 c1 c2 c3 hl
        go_wp2_with fail
        exact hK.out _ _ ⟨rfl, F1.out⟩
      · have c3i : ((p : Int) == 1) = false := beq_eq_false_iff_ne.2 (fun q => c3 (Int.ofNat.inj q))
        clear h16 hpo f1 c1 c2 c3 hl
        go_wp2_with fail
        exact hK.out _ _ ⟨rfl, F1.out⟩
end Go.Proofs.Qxb6500353aGreat
