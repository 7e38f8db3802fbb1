/- The walks over cnfm: space, in, norm, number. -/
import Derived.Test.Qxb6500354aGreatRow2
namespace Go.Proofs.Qxb6500354aGreat
open Go.RowKit
set_option linter.unusedVariables false
set_option linter.unusedSimpArgs false

theorem space_any (c : Nat) (hc : c < 256) (w : World) : Calls Tryz.prog 61 #[.int .u8 c] w fun e w' => e = .returned (.bool (spaceB c)) ∧ w' = w := by
  have hci : (c : Int) < 256 := by omega
  obtain ⟨res, hres⟩ : ∃ r, spaceB c = r := ⟨_, rfl⟩
  rw [hres]
  by_cases h1 : c = 32 ∨ c = 9 ∨ c = 13 ∨ c = 10
  · have HR : Hid (res = true) := by
      show _ = _; rw [← hres]; rcases h1 with e | e | e | e <;> subst e <;> rfl
    clear hres
    rcases h1 with e | e | e | e <;> subst e
    all_goals
      refine calls_via fun K hK => ?_
      go_enter Tryz.func61, Tryz.ntmps61
      go_wp2_with fail
      refine hK.out _ _ ⟨?_, rfl⟩
      rw [HR.out]; rfl
  · have n1 : ((c : Int) == 32) = false := by rw [beq_eq_false_iff_ne]; omega
    have n2 : ((c : Int) == 9) = false := by rw [beq_eq_false_iff_ne]; omega
    have n3 : ((c : Int) == 13) = false := by rw [beq_eq_false_iff_ne]; omega
    have n4 : ((c : Int) == 10) = false := by rw [beq_eq_false_iff_ne]; omega
    have HR : Hid (res = false) := by
      show _ = _; rw [← hres]; unfold spaceB
      have m1 : (c == 32) = false := by rw [beq_eq_false_iff_ne]; omega
      have m2 : (c == 9) = false := by rw [beq_eq_false_iff_ne]; omega
      have m3 : (c == 13) = false := by rw [beq_eq_false_iff_ne]; omega
      have m4 : (c == 10) = false := by rw [beq_eq_false_iff_ne]; omega
      rw [m1, m2, m3, m4]; rfl
    clear hres h1
    refine calls_via fun K hK => ?_
    go_enter Tryz.func61, Tryz.ntmps61
    go_wp2_with fail
    refine hK.out _ _ ⟨?_, rfl⟩
    rw [HR.out]; rfl

set_option maxHeartbeats 1000000 in
theorem in_any {w : World} {v : Value} {row : List Int} (h : Ints w v row) (l : Int) (hb : row.length ≤ 1099511627776) :
    Calls Tryz.prog 98 #[v, .int .i64 l] w fun e w' => e = .returned (.bool (row.contains l)) ∧ w' = w := by
  obtain ⟨a, cap, hea⟩ := h.len
  subst hea
  obtain ⟨n, hn⟩ : ∃ n, row.length = n := ⟨_, rfl⟩
  obtain ⟨res, hres⟩ : ∃ r, row.contains l = r := ⟨_, rfl⟩
  rw [hn] at h hb ⊢
  rw [hres]
  have HI := hid h
  have HN := hid hn
  have HR := hid hres
  clear h hn hres
  refine calls_via fun K hK => ?_
  go_enter Tryz.func98, Tryz.ntmps98
  go_wp2_with fail
  go_loopg [5] n (fun g i wr => g ≤ n ∧ wr = w ∧ i = .int .i64 ((n - g : Nat) : Int) ∧ res = (row.drop (n - g)).contains l)
  case atStart => exact ⟨by omega, rfl, by simp, by rw [Nat.sub_self]; exact HR.out.symm⟩
  case round =>
    obtain ⟨hg, rfl, rfl, he⟩ := hrel
    by_cases hlt : 0 < gk
    · obtain ⟨k, hk⟩ : ∃ k, n - gk = k := ⟨_, rfl⟩
      rw [hk] at he ⊢
      have hkn : k < n := by omega
      have hkn2 : (k : Int) < n := by omega
      obtain ⟨g1, o1, rfl, hc1⟩ := HI.out.at HN.out hkn
      rw [drop_cons' HN.out hkn, List.contains_cons] at he
      generalize row.getD k 0 = x at *
      have HK0 := hid hk
      clear hk
      by_cases e1 : x = l
      · have hb1 : (x == l) = true := by simp [e1]
        have HE : Hid (res = true) := by show _ = _; rw [he]; simp [e1]
        clear he e1
        go_wp2_with fail
        refine hK.out _ _ ⟨(by rw [HE.out]; rfl), rfl⟩
      · have hb1 : (x == l) = false := by simp [e1]
        have hb2 : (l == x) = false := by simp; exact fun q => e1 q.symm
        have HE : Hid (res = (row.drop (k + 1)).contains l) := by show _ = _; rw [he, hb2]; simp
        clear he e1 hb2
        go_wp2_with fail
        go_roundg (gk - 1)
        case measure => omega
        case rel =>
          have hk := HK0.out
          have e1 : n - (gk - 1) = k + 1 := by omega
          exact ⟨by omega, rfl, by rw [e1]; simp, by rw [e1]; exact HE.out⟩
    · have hg0 : gk = 0 := by omega
      subst hg0
      rw [Nat.sub_zero, List.drop_of_length_le (by rw [HN.out]; exact Nat.le_refl _)] at he
      have HE : Hid (res = false) := he
      clear he hlt hg
      go_wp2_with fail
      refine hK.out _ _ ⟨(by rw [HE.out]; rfl), rfl⟩

theorem normM_succ (row : List Int) (n v : Nat) : normM row (n + 1) v = if row.contains (v : Int) = true ∧ row.contains (-(v : Int)) = true then none
    else (normM row n (v + 1)).map fun r => (if row.contains (v : Int) then [(v : Int)] else []) ++ (if row.contains (-(v : Int)) then [-(v : Int)] else []) ++ r := rfl
/-- What norm answers. -/
def NormOut (w w' : World) (r : Option (List Int)) (e : Ending) : Prop := match r with
  | none => e = .returned (.tuple #[.slice none 0 0, .bool false])
  | some n => ∃ v, e = .returned (.tuple #[v, .bool true]) ∧ OwnI w' w.heap.size v n
set_option maxRecDepth 100000 in
set_option maxHeartbeats 8000000 in
theorem norm_any {w : World} {v : Value} {row : List Int} (h : Ints w v row) (hb : row.length ≤ 10000000) :
    Calls Tryz.prog 63 #[v] w fun e w' => NormOut w w' (normM row 12 1) e ∧ Fr [] w w' := by
  obtain ⟨res, hres⟩ : ∃ r, normM row 12 1 = r := ⟨_, rfl⟩
  rw [hres]
  have HI := hid h
  have HR := hid hres
  have HB := hid hb
  obtain ⟨N, hN⟩ : ∃ N, w.heap.size = N := ⟨_, rfl⟩
  have HNN := hid hN
  clear h hres hb hN
  refine calls_via fun K hK => ?_
  go_enter Tryz.func63, Tryz.ntmps63
  go_wp2_with fail
  go_loopg [4, 5] 12 (fun g ov i wr => ∃ o : List Int, g ≤ 12 ∧ i = .int .i64 ((13 - g : Nat) : Int) ∧ OwnI wr N ov o ∧ o.length ≤ 24 ∧ o.length ≤ 2 * (12 - g) ∧ res = (normM row g (13 - g)).map (fun r => o ++ r) ∧ Fr [] w wr)
  case atStart => exact ⟨[], by omega, by simp, OwnI.nil _ _, by simp, by simp, by rw [← HR.out]; simp, Fr.refl _ _⟩
  case round =>
    obtain ⟨o, hg, rfl, ho, hol, hol2, he, hf⟩ := hrel
    obtain ⟨ov, hov⟩ : ∃ x, u4 = x := ⟨_, rfl⟩
    rw [hov] at ho ⊢
    clear hov
    have HO := hid ho
    have HF := hid hf
    by_cases hlt : 0 < gk
    · obtain ⟨j, rfl⟩ : ∃ j, gk = j + 1 := ⟨gk - 1, by omega⟩
      obtain ⟨k, hk⟩ : ∃ k, 13 - (j + 1) = k := ⟨_, rfl⟩
      rw [hk, normM_succ] at he
      rw [hk]
      have hk12 : (k : Int) ≤ 12 := by omega
      have hk1 : (1 : Int) ≤ k := by omega
      have HJ : Hid (k + 1 = 13 - j ∧ j ≤ 12 ∧ j + 1 ≤ 12) := by show _ ∧ _; omega
      have hIr := HI.out.fr hf (by simp)
      have HP := hid (in_any hIr (k : Int) (by have := HB.out; omega))
      have HQ := hid (in_any hIr (-(k : Int)) (by have := HB.out; omega))
      obtain ⟨pb, hpb⟩ : ∃ b, row.contains (k : Int) = b := ⟨_, rfl⟩
      obtain ⟨nb, hnb⟩ : ∃ b, row.contains (-(k : Int)) = b := ⟨_, rfl⟩
      rw [hpb] at he HP
      rw [hnb] at he HQ
      have HOL := hid hol2
      clear ho hf hk hlt hg hol hol2 hIr hpb hnb
      have hbd : Hid (o.length + 10 ≤ 1000) := by show _ ≤ _; have := HOL.out; omega
      cases pb with
      | true =>
        cases nb with
        | true =>
          have HE : Hid (res = none) := by show _ = _; rw [he]; rfl
          clear he
          go_wp2_with (first | (go_at_call_of 98 (-(k : Int)); refine HQ.out.mono ?_; rintro e w' ⟨rfl, hw⟩; have hw2 := hw.symm; subst hw2; clear hw) | (go_at_call_of 98 (k : Int); refine HP.out.mono ?_; rintro e w' ⟨rfl, hw⟩; have hw2 := hw.symm; subst hw2; clear hw))
          try go_ret2
          refine hK.out _ _ ⟨?_, HF.out⟩
          rw [HE.out]; rfl
        | false =>
          have HE : Hid (res = (normM row j (k + 1)).map fun r => (o ++ [(k : Int)]) ++ r) := by show _ = _; rw [he, if_neg (by simp)]; simp; rfl
          clear he
          go_wp2_with (first | (go_at_call_of 98 (-(k : Int)); refine HQ.out.mono ?_; rintro e w' ⟨rfl, hw⟩; have hw2 := hw.symm; subst hw2; clear hw) | (go_at_call_of 98 (k : Int); refine HP.out.mono ?_; rintro e w' ⟨rfl, hw⟩; have hw2 := hw.symm; subst hw2; clear hw) | (at_builtin; refine wp_app rfl _ _ rfl N ov o rfl (HO.out.alloc _) (.slice (some ⟨wr.heap.size, 0, none⟩) 1 1) [(k : Int)] rfl (ints_oneN (by simp) _ _) (by have := hbd.out; simp; omega) (by have := HF.out.size; have := HNN.out; simp; omega) ?_; intro v' w2 ho3 hg3 hnil3))
          have hf3 : Fr [] w w2 := (HF.out.alloc _).app hg3 (HO.out.alloc _) (by rw [HNN.out]; omega)
          have HO3 := hid ho3
          have HF3 := hid hf3
          clear ho3 hf3 hg3 hnil3
          go_roundg j
          case measure => omega
          case rel => exact ⟨o ++ [(k : Int)], HJ.out.2.1, by rw [← HJ.out.1]; simp, HO3.out, by have := HOL.out; have := HJ.out; simp; omega, by have := HOL.out; have := HJ.out; simp; omega, by rw [← HJ.out.1]; exact HE.out, HF3.out⟩
      | false =>
        cases nb with
        | true =>
          have HE : Hid (res = (normM row j (k + 1)).map fun r => (o ++ [-(k : Int)]) ++ r) := by show _ = _; rw [he, if_neg (by simp)]; simp; rfl
          clear he
          go_wp2_with (first | (go_at_call_of 98 (-(k : Int)); refine HQ.out.mono ?_; rintro e w' ⟨rfl, hw⟩; have hw2 := hw.symm; subst hw2; clear hw) | (go_at_call_of 98 (k : Int); refine HP.out.mono ?_; rintro e w' ⟨rfl, hw⟩; have hw2 := hw.symm; subst hw2; clear hw) | (at_builtin; refine wp_app rfl _ _ rfl N ov o rfl (HO.out.alloc _) (.slice (some ⟨wr.heap.size, 0, none⟩) 1 1) [-(k : Int)] rfl (ints_oneN (by simp) _ _) (by have := hbd.out; simp; omega) (by have := HF.out.size; have := HNN.out; simp; omega) ?_; intro v' w2 ho3 hg3 hnil3))
          have hf3 : Fr [] w w2 := (HF.out.alloc _).app hg3 (HO.out.alloc _) (by rw [HNN.out]; omega)
          have HO3 := hid ho3
          have HF3 := hid hf3
          clear ho3 hf3 hg3 hnil3
          go_roundg j
          case measure => omega
          case rel => exact ⟨o ++ [-(k : Int)], HJ.out.2.1, by rw [← HJ.out.1]; simp, HO3.out, by have := HOL.out; have := HJ.out; simp; omega, by have := HOL.out; have := HJ.out; simp; omega, by rw [← HJ.out.1]; exact HE.out, HF3.out⟩
        | false =>
          have HE : Hid (res = (normM row j (k + 1)).map fun r => o ++ r) := by show _ = _; rw [he, if_neg (by simp)]; simp
          clear he
          go_wp2_with (first | (go_at_call_of 98 (-(k : Int)); refine HQ.out.mono ?_; rintro e w' ⟨rfl, hw⟩; have hw2 := hw.symm; subst hw2; clear hw) | (go_at_call_of 98 (k : Int); refine HP.out.mono ?_; rintro e w' ⟨rfl, hw⟩; have hw2 := hw.symm; subst hw2; clear hw))
          go_roundg j
          case measure => omega
          case rel => exact ⟨o, HJ.out.2.1, by rw [← HJ.out.1]; simp, HO.out, by have := HOL.out; have := HJ.out; omega, by have := HOL.out; have := HJ.out; omega, by rw [← HJ.out.1]; exact HE.out, HF.out⟩
    · have hg0 : gk = 0 := by omega
      subst hg0
      have HE : Hid (res = some o) := by show _ = _; rw [he]; simp [normM]
      clear ho hf he hlt hg hol hol2
      go_wp2_with fail
      try go_ret2
      refine hK.out _ _ ⟨?_, HF.out⟩
      rw [HE.out]
      exact ⟨_, rfl, by rw [HNN.out]; exact HO.out⟩
end Go.Proofs.Qxb6500354aGreat
