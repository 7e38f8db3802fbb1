/- The walks over cnf: Print. -/
import Derived.Test.Qxb6500354aGreatPrt2
import Derived.Test.Qxb6500354aGreatCf
namespace Go.Proofs.Qxb6500354aGreat
open Go.RowKit
set_option linter.unusedVariables false
set_option linter.unusedSimpArgs false

theorem printB_snoc (l : List Int) (x : Int) : printB (l ++ [x]) = printB l ++ numB x := by simp [printB]
theorem printB_take {l : List Int} {k : Nat} (h : k < l.length) : printB (l.take (k + 1)) = printB (l.take k) ++ numB (l.getD k 0) := by
  rw [take_snocI h, printB_snoc]
theorem numB_len (x : Int) : (numB x).length ≤ 4 := by
  unfold numB litB; split; · decide
  split; · decide
  split <;> split <;> simp
theorem printB_len : ∀ (l : List Int), (printB l).length ≤ 4 * l.length := by
  intro l
  induction l with
  | nil => simp [printB]
  | cons x r ih =>
    have e : printB (x :: r) = numB x ++ printB r := rfl
    have := numB_len x
    rw [e, List.length_append, List.length_cons]; omega
theorem printB_take_le (l : List Int) (k : Nat) : (printB (l.take k)).length ≤ (printB l).length := by
  conv => rhs; rw [← List.take_append_drop k l]
  unfold printB
  rw [List.flatMap_append, List.length_append]; omega
set_option maxRecDepth 100000 in
set_option maxHeartbeats 4000000 in
theorem print_any {w : World} {v : Value} {f : List Int} (p : Value) (h : Ints w v f) (hb : f.length ≤ 262144) (hx : ∀ x ∈ f, flatNum x) (hc : checkFlatF f = 0) :
    Calls Tryz.prog 87 #[p, v] w fun e w' => e = .returned (.tuple #[.string (strN (printB f)), .int .i64 0]) ∧ Fr [] w w' := by
  obtain ⟨a, cap, hea⟩ := h.len
  subst hea
  obtain ⟨n, hn⟩ : ∃ n, f.length = n := ⟨_, rfl⟩
  rw [hn] at h hb ⊢
  have hb2 : (n : Int) ≤ 262144 := by omega
  have HCF := hid (checkFlat_any h (by omega))
  rw [hc] at HCF
  have HI := hid h
  have HN := hid hn
  have HX := hid hx
  obtain ⟨M, hM⟩ : ∃ M, (printB f).length = M := ⟨_, rfl⟩
  have hMb : M ≤ 1048576 := by have := printB_len f; omega
  have HM := hid hM
  have HMB := hid hMb
  obtain ⟨B, hB⟩ : ∃ B, w.heap.size = B := ⟨_, rfl⟩
  have HB := hid hB
  clear h hn hx hc hb hM hMb hB
  refine calls_via fun K hK => ?_
  go_enter Tryz.func87, Tryz.ntmps87
  go_wp2_with (first | (go_at_call 94; refine HCF.out.mono ?_; rintro e w' ⟨rfl, hw⟩; have hw2 := hw.symm; subst hw2; clear hw))
  go_loopg [7, 8] n (fun g s i wr => g ≤ n ∧ wr = w ∧ i = .int .i64 ((n - g : Nat) : Int) ∧ s = .int .i64 (((printB (f.take (n - g))).length : Nat) : Int))
  case atStart => exact ⟨by omega, rfl, by simp, by simp [printB]⟩
  case round =>
    obtain ⟨hg, rfl, rfl, rfl⟩ := hrel
    by_cases hlt : 0 < gk
    · obtain ⟨k, hk⟩ : ∃ k, n - gk = k := ⟨_, rfl⟩
      rw [hk]
      have hkn : k < n := by omega
      have hkn2 : (k : Int) < n := by omega
      obtain ⟨g1, o1, rfl, hc1⟩ := HI.out.at HN.out hkn
      have hx := HX.out _ (getD_mem (c := f) (i := k) (by rw [HN.out]; exact hkn))
      have hpt := printB_take (l := f) (k := k) (by rw [HN.out]; exact hkn)
      have hpl := printB_take_le f (k + 1)
      generalize f.getD k 0 = x at *
      have HW := hid (fun w => width_any x hx w)
      rw [hpt] at hpl
      have hpl2 : Hid ((printB (f.take (k + 1))).length = (printB (f.take k)).length + (numB x).length) := hid (by rw [hpt, List.length_append])
      obtain ⟨wd, hwd⟩ : ∃ z, (numB x).length = z := ⟨_, rfl⟩
      obtain ⟨sm, hsm⟩ : ∃ z, (printB (f.take k)).length = z := ⟨_, rfl⟩
      rw [List.length_append, hsm, hwd, HM.out] at hpl
      rw [hwd] at HW hpl2
      rw [hsm] at hpl2 ⊢
      have hs1 : (sm : Int) + wd ≤ 1048576 := by have := HMB.out; omega
      have HK0 := hid hk
      clear hk hx hpt hpl hwd hsm
      go_wp2_with (first | (go_at_call 128; refine (HW.out _).mono ?_; rintro e w' ⟨rfl, hw⟩; have hw2 := hw.symm; subst hw2; clear hw))
      go_roundg (gk - 1)
      case measure => omega
      case rel =>
        have hk := HK0.out
        have e1 : n - (gk - 1) = k + 1 := by omega
        exact ⟨by omega, rfl, by rw [e1]; simp, by rw [e1, hpl2.out]; simp⟩
    · have hg0 : gk = 0 := by omega
      subst hg0
      rw [Nat.sub_zero, List.take_of_length_le (by rw [HN.out]; exact Nat.le_refl _), HM.out]
      have hMi : (M : Int) ≤ 1048576 := by have := HMB.out; omega
      clear hlt hg
      go_wp2_with (first | (at_make; refine wp_mkB rfl _ _ rfl M M M rfl rfl rfl rfl (by have := HMB.out; omega) ?_; intro w1 ho1 hg1))
      rw [HB.out] at ho1 ⊢
      have hf1 : Fr [] wr w1 := Fr.ofGrown hg1
      have HO1 := hid ho1
      have HF1 := hid hf1
      clear ho1 hf1 hg1
      go_loopg [10, 11] n (fun g at' i wr2 => ∃ bs, g ≤ n ∧ i = .int .i64 ((n - g : Nat) : Int) ∧ at' = .int .i64 (((printB (f.take (n - g))).length : Nat) : Int) ∧ OwnB wr2 B (.slice (some ⟨B, 0, none⟩) M M) bs ∧ bs.length = M ∧
        bs.take (printB (f.take (n - g))).length = printB (f.take (n - g)) ∧ Fr [] wr wr2)
      case atStart => exact ⟨_, by omega, by simp, by simp [printB], HO1.out, by simp, by simp [printB], HF1.out⟩
      case round =>
        obtain ⟨bs, hg, rfl, rfl, ho, hbl, htk, hf⟩ := hrel
        have HO := hid ho
        have HF := hid hf
        have HBL := hid hbl
        by_cases hlt : 0 < gk
        · obtain ⟨k, hk⟩ : ∃ k, n - gk = k := ⟨_, rfl⟩
          rw [hk] at htk ⊢
          have hkn : k < n := by omega
          have hkn2 : (k : Int) < n := by omega
          obtain ⟨g1, o1, rfl, hc1⟩ := (HI.out.fr hf (by simp)).at HN.out hkn
          have hx := HX.out _ (getD_mem (c := f) (i := k) (by rw [HN.out]; exact hkn))
          have hpt := printB_take (l := f) (k := k) (by rw [HN.out]; exact hkn)
          have hpl := printB_take_le f (k + 1)
          rw [hpt, List.length_append, HM.out] at hpl
          generalize f.getD k 0 = x at *
          have hla := lay_any x hx ho hbl (printB (f.take k)).length hpl (by have := HMB.out; omega)
          have hpl2 : (printB (f.take (k + 1))).length = (printB (f.take k)).length + (numB x).length := by rw [hpt, List.length_append]
          rw [← hpl2] at hla
          obtain ⟨sm, hsm⟩ : ∃ z, (printB (f.take k)).length = z := ⟨_, rfl⟩
          obtain ⟨sm2, hsm2⟩ : ∃ z, (printB (f.take (k + 1))).length = z := ⟨_, rfl⟩
          rw [hsm, hsm2] at hla
          rw [hsm]
          have HLA := hid hla
          have HK0 := hid hk
          have HPT := hid hpt
          have HPL2 := hid hpl2
          have HTK := hid htk
          have HSM := hid hsm
          have HSM2 := hid hsm2
          clear hk hx hpt hpl hla ho hbl htk hf hpl2 hsm hsm2
          go_wp2_with (first | (go_at_call 129; refine HLA.out.mono ?_; rintro e w2 ⟨rfl, ⟨bs2, ho2, hbl2, htk2⟩, hf2⟩; have HO2 := hid ho2; have HBL2 := hid hbl2; have HTK2 := hid htk2; have HF2 := hid hf2; clear ho2 hbl2 htk2 hf2))
          go_roundg (gk - 1)
          case measure => omega
          case rel =>
            have hk := HK0.out
            have e1 : n - (gk - 1) = k + 1 := by omega
            refine ⟨bs2, by omega, by rw [e1]; simp, by rw [e1, HSM2.out], HO2.out, HBL2.out, ?_, HF.out.trans2 HF2.out (fun y hy hlt2 => by simp at hy; subst hy; have := HB.out; omega)⟩
            have h2 := HTK2.out
            have h3 := HTK.out
            rw [HSM.out] at h3
            rw [e1, HPL2.out, HSM.out, h2, h3, HPT.out]
        · have hg0 : gk = 0 := by omega
          subst hg0
          have hfull : f.take n = f := List.take_of_length_le (by rw [HN.out]; exact Nat.le_refl _)
          rw [Nat.sub_zero, hfull, HM.out, List.take_of_length_le (show bs.length ≤ M by omega)] at htk
          have hcv := conv_strN ho hbl
          rw [htk] at hcv
          clear hlt hg ho hf hbl htk
          go_wp2_with fail
          try go_ret2
          exact hK.out _ _ ⟨rfl, HF.out⟩
end Go.Proofs.Qxb6500354aGreat
