/- The model's decoder: coded, walked (sets at fault). -/
import Derived.Test.Qxb6500353aGreatMdf
namespace Go.Proofs.Qxb6500353aGreat
open Go.RowKit
set_option linter.unusedVariables false
set_option linter.unusedSimpArgs false

/-- What is at fault with the sets. -/
def errS (la lb : List Nat) : Nat := if buildE la ≠ 0 then buildE la else if buildE lb ≠ 0 then buildE lb else if len la 256 = 0 then 8 else 0
set_option maxRecDepth 100000 in
set_option maxHeartbeats 8000000 in
theorem coded_bad {w : World} {b cap capo lg lcap : Nat} {ad ado : Option Addr} {t : Tp} {o la lb : List Nat} {hd : Int} (h : DcS w b cap ad t ado capo o) (hla : la.length = 265) (hlb : lb.length = 8) (hA : ∀ x ∈ la, x ≤ 10) (hB : ∀ x ∈ lb, x ≤ 10) (he : errS la lb ≠ 0)
    (hl : Cel mkN w lg 0 273 (len (la ++ lb))) (hll : lg < w.heap.size) (hlc : 273 ≤ lcap) :
    Calls Tryz.prog 82 #[.pointer (some ⟨b, 0, none⟩), .slice (some ⟨lg, 0, none⟩) 273 lcap, .int .i64 hd, .slice ado o.length capo] w fun e w' => e = .returned (.tuple #[.slice ado o.length capo, .int .i64 (errS la lb : Nat), .int .i64 hd]) ∧ DcS w' b cap ad t ado capo o ∧ Gr b w ado w' ado := by
  have H := hid h
  have HA := hid hA
  have HB := hid hB
  have HLA := hid hla
  have HLB := hid hlb
  have HL := hid hl
  have HLW := hid hll
  have HES := hid he
  obtain ⟨er, her⟩ : ∃ z, z = errS la lb := ⟨_, rfl⟩
  rw [← her]
  have HER := hid her
  obtain ⟨n, hn⟩ : ∃ n, n = o.length := ⟨_, rfl⟩
  have HNL := hid hn
  rw [← hn]
  have hlci : (273 : Int) ≤ lcap := by omega
  have hlc2 : (265 : Int) ≤ lcap := by omega
  have hlc3 : 265 ≤ lcap := by omega
  clear h hA hB hla hlb hl hll hn he her
  refine calls_via fun K hK => ?_
  go_enter Tryz.func82, Tryz.ntmps82
  go_wp2_with fail
  refine (newHm_any w).mono ?_
  rintro e w6 ⟨rfl, p0, p1, pz, ps, pf⟩
  obtain ⟨a1, ha1⟩ : ∃ a, a = w.heap.size := ⟨_, rfl⟩
  unfold ptrV
  rw [← ha1] at p0 p1 pz ps ⊢
  have HA1 := hid (And.intro p0 (And.intro p1 (And.intro pz (And.intro ps (And.intro pf ha1)))))
  clear p0 p1 pz ps pf ha1
  go_wp2_with fail
  refine (newHm_any w6).mono ?_
  rintro e w7 ⟨rfl, p0, p1, pz, ps, pf⟩
  rw [HA1.out.2.2.2.1] at p0 p1 pz ps ⊢
  have hx1 : ¬ Nob a1 := fun x => x
  have hl7 := (HL.out.fr HA1.out.2.2.2.2.1 (fun x => x)).fr pf (fun x => x)
  have hb1 := mbuild_any (w := w7) (b := a1) (N := a1 + 2) (lg := lg) (lo := 0) (cap := lcap) (l := la) ps (pf.cell HA1.out.1 hx1) (pf.cell HA1.out.2.1 hx1) (HA1.out.2.2.1.fr pf (by have := HA1.out.2.2.2.1; omega) hx1)
    (by rw [HLA.out]; exact Cel.congr (fun i hi => hl7 i (by omega)) fun i hi => len_append_left (by rw [HLA.out]; exact hi)) (by have := HLW.out; have := HA1.out.2.2.2.2.2; omega) (by have := HLW.out; have := HA1.out.2.2.2.2.2; omega) HA.out (by rw [HLA.out]; omega)
  rw [HLA.out] at hb1
  unfold ptrV at hb1
  have HD7 := hid (H.out.nob (HA1.out.2.2.2.2.1.trans pf))
  have HL7 := hid hl7
  have HA2 := hid (And.intro p0 (And.intro p1 (And.intro pz (And.intro ps pf))))
  by_cases c1 : buildE la ≠ 0
  · have e1 : er = buildE la := by rw [HER.out]; unfold errS; rw [if_pos c1]
    rw [← e1] at hb1 c1
    have hzi : ((er : Int) == 0) = false := by simp; omega
    have hzi2 : ((er : Int) != 0) = true := by simp; omega
    have HB1 := hid hb1
    have C1 := hid c1
    clear p0 p1 pz ps pf hb1 hl7 c1 e1
    go_wp2_with fail
    refine HB1.out.mono ?_
    rintro e w8 ⟨rfl, -, hq8, -⟩
    obtain rfl : w8 = w7 := hq8 C1.out
    clear hq8
    go_wp2_with fail
    go_loopg [3, 13, 14, 15] 0 (fun g ov ev pv sv wr => ov = .slice ado n capo ∧ ev = .int .i64 (er : Nat) ∧ pv = .int .i64 hd ∧ sv = .bool true ∧ wr = w8)
    case atStart => exact ⟨rfl, rfl, rfl, rfl, rfl⟩
    case round =>
      obtain ⟨rfl, rfl, rfl, rfl, rfl⟩ := hrel
      go_wp2_with fail
      go_ret3
      exact hK.out _ _ ⟨rfl, HD7.out.1, HD7.out.2⟩
  · have e0 : buildE la = 0 := by omega
    have her2 : er = if buildE lb ≠ 0 then buildE lb else if len la 256 = 0 then 8 else 0 := by rw [HER.out]; unfold errS; rw [if_neg c1]
    rw [e0] at hb1
    have HB1 := hid hb1
    have HER2 := hid her2
    clear p0 p1 pz ps pf hb1 hl7 c1 e0 her2
    go_wp2_with fail
    refine HB1.out.mono ?_
    rintro e w8 ⟨rfl, hq8, -, hf8⟩
    obtain ⟨hmc, hs8⟩ := hq8 (by first | rfl | trivial)
    have hx2 : ¬ One a1 (a1 + 1) := fun x => by unfold One at x; omega
    have hl8 := HL7.out.fr hf8 (fun x => by unfold One at x; have := HLW.out; have := HA1.out.2.2.2.2.2; omega)
    have hb2 := mbuild_any (w := w8) (b := a1 + 1) (N := a1 + 4) (lg := lg) (lo := 265) (cap := lcap - 265) (l := lb) hs8 (hf8.cell HA2.out.1 hx2) (hf8.cell HA2.out.2.1 hx2) (HA2.out.2.2.1.fr hf8 (by have := HA2.out.2.2.2.1; omega) hx2)
      (by rw [HLB.out]; exact Cel.congr (hl8.part (k := 265) (m := 8) (by omega)) fun i hi => by rw [len_append_right HLA.out (by omega), Nat.add_sub_cancel_left]) (by have := HLW.out; have := HA1.out.2.2.2.2.2; omega) (by have := HLW.out; have := HA1.out.2.2.2.2.2; omega) HB.out (by rw [HLB.out]; omega)
    rw [HLB.out] at hb2
    unfold ptrV at hb2
    have hfr8 : Fr Nob w w8 := ((HA1.out.2.2.2.2.1).trans HA2.out.2.2.2.2).trans2 hf8 fun x hx hl => by have := HA1.out.2.2.2.2.2; unfold One at hx; omega
    have HD8 := hid (H.out.nob hfr8)
    have HL8 := hid hl8
    by_cases c2 : buildE lb ≠ 0
    · have e2 : er = buildE lb := by rw [HER2.out, if_pos c2]
      rw [← e2] at hb2 c2
      have hzi : ((er : Int) == 0) = false := by simp; omega
      have hzi2 : ((er : Int) != 0) = true := by simp; omega
      have HB2 := hid hb2
      have C2 := hid c2
      clear hb2 c2 e2 hf8 hq8 hmc hs8 hx2 hl8 hfr8
      go_wp2_with fail
      refine HB2.out.mono ?_
      rintro e w9 ⟨rfl, -, hq9, -⟩
      obtain rfl : w9 = w8 := hq9 C2.out
      clear hq9
      go_wp2_with fail
      go_loopg [3, 13, 14, 15] 0 (fun g ov ev pv sv wr => ov = .slice ado n capo ∧ ev = .int .i64 (er : Nat) ∧ pv = .int .i64 hd ∧ sv = .bool true ∧ wr = w9)
      case atStart => exact ⟨rfl, rfl, rfl, rfl, rfl⟩
      case round =>
        obtain ⟨rfl, rfl, rfl, rfl, rfl⟩ := hrel
        go_wp2_with fail
        go_ret3
        exact hK.out _ _ ⟨rfl, HD8.out.1, HD8.out.2⟩
    · have e0 : buildE lb = 0 := by omega
      have c3 : len la 256 = 0 := by
        refine Classical.byContradiction fun c3 => HES.out ?_
        rw [← HER.out, HER2.out, if_neg c2, if_neg c3]
      have e8 : er = 8 := by rw [HER2.out, if_neg c2, if_pos c3]
      rw [e0] at hb2
      have HB2 := hid hb2
      have C3 := hid c3
      have HE8 := hid e8
      clear hb2 c2 e0 hq8 hmc hs8 hx2 hl8 c3 e8
      have HF8 := hid hf8
      have HFR8 := hid hfr8
      clear hf8 hfr8
      go_wp2_with fail
      refine HB2.out.mono ?_
      rintro e w9 ⟨rfl, hq9, -, hf9⟩
      have c256 := HL8.out.fr hf9 (fun x => by unfold One at x; have := HLW.out; have := HA1.out.2.2.2.2.2; omega) 256 (by omega)
      rw [Nat.zero_add, len_append_left (by rw [HLA.out]; decide), C3.out] at c256
      simp only [mkN] at c256
      have hfr9 : Fr Nob w w9 := HFR8.out.trans2 hf9 fun x hx hl => by have := HA1.out.2.2.2.2.2; unfold One at hx; omega
      have HD9 := hid (H.out.nob hfr9)
      clear hq9 hf9 hfr9
      go_wp2_with fail
      go_loopg [3, 13, 14, 15] 0 (fun g ov ev pv sv wr => ov = .slice ado n capo ∧ ev = .int .i64 8 ∧ pv = .int .i64 hd ∧ sv = .bool true ∧ wr = w9)
      case atStart => exact ⟨rfl, rfl, rfl, rfl, rfl⟩
      case round =>
        obtain ⟨rfl, rfl, rfl, rfl, rfl⟩ := hrel
        go_wp2_with fail
        go_ret3
        exact hK.out _ _ ⟨by rw [HE8.out]; rfl, HD9.out.1, HD9.out.2⟩
end Go.Proofs.Qxb6500353aGreat
