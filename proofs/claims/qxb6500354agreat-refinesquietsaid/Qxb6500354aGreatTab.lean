/- The walks over api: True, Holds, AllHold, Table. -/
import Derived.Test.Qxb6500354aGreatMat
namespace Go.Proofs.Qxb6500354aGreat
open Go.RowKit
set_option linter.unusedVariables false
set_option linter.unusedSimpArgs false

theorem and1_63 (m : Nat) (h : m < 2 ^ 62) : bits .and .i64 (m : Int) 1 = ((m % 2 : Nat) : Int) := by
  have h1 : bits .and .i64 (m : Int) 1 = IntKind.i64.wrap (((BitVec.ofInt 64 (m : Int)) &&& (BitVec.ofInt 64 1)).toNat : Int) := rfl
  rw [h1]
  rw [ofIntN, show BitVec.ofInt 64 1 = BitVec.ofNat 64 1 from by decide]
  rw [BitVec.toNat_and, toNatN (show m < 2 ^ 64 by omega), toNatN (show 1 < 2 ^ 64 by decide), Nat.and_one_is_mod]
  have : m % 2 < 2 := Nat.mod_lt _ (by decide)
  rcases (by omega : m % 2 = 0 ∨ m % 2 = 1) with e | e <;> rw [e] <;> rfl
theorem shr_and63 {m : Nat} (k : Nat) (h : m < 2 ^ 62) : (bits BinOp.and IntKind.i64 ((m : Int) / 2 ^ k) 1 == 1) = m.testBit k := by
  have e1 : (m : Int) / 2 ^ k = ((m / 2 ^ k : Nat) : Int) := by simp
  rw [e1, and1_63 _ (Nat.lt_of_le_of_lt (Nat.div_le_self _ _) h)]
  unfold Nat.testBit
  rw [Nat.shiftRight_eq_div_pow, Nat.and_comm, Nat.and_one_is_mod]
  rcases (by omega : m / 2 ^ k % 2 = 0 ∨ m / 2 ^ k % 2 = 1) with e | e <;> rw [e] <;> rfl

set_option maxHeartbeats 1000000 in
theorem true_any (l : Int) (mask : Nat) (hg : good l = true) (hm : mask < 4096) (w : World) : Calls Tryz.prog 55 #[.int .i64 l, .int .i64 mask] w fun e w' => e = .returned (.bool (trueF l mask)) ∧ w' = w := by
  have hg12 := (good_iff _).1 hg
  obtain ⟨v, hv⟩ : ∃ v, l.natAbs = v := ⟨_, rfl⟩
  have hsh := shr_and63 (m := mask) (v - 1) (Nat.lt_of_lt_of_le hm (by decide))
  have hT : trueF l mask = (mask.testBit (v - 1) == decide (0 < l)) := by unfold trueF; rw [hv]
  rw [hT]
  generalize mask.testBit (v - 1) = bt at *
  have hv1 : 1 ≤ v := by omega
  have hv12 : v ≤ 12 := by omega
  obtain ⟨k, rfl⟩ : ∃ k, v = k + 1 := ⟨v - 1, by omega⟩
  rw [Nat.add_sub_cancel] at hsh
  have HV := hid hv
  have HSH := hid hsh
  have hk12 : (k : Int) ≤ 11 := by omega
  have hmi : (mask : Int) < 4096 := by omega
  have HG := hid hg12
  clear hv hT hg12 hsh
  by_cases hp : 0 < l
  · have hd : decide (0 < l) = true := by simpa using hp
    rw [hd]
    cases bt with
    | true =>
      have hsh := HSH.out
      refine calls_via fun K hK => ?_
      go_enter Tryz.func55, Tryz.ntmps55
      go_wp2_with (first | (go_at_call 89; refine (var_v HV.out hv12 _).mono ?_; rintro e w' ⟨rfl, rfl⟩))
      refine hK.out _ _ ⟨rfl, rfl⟩
    | false =>
      have hsh := HSH.out
      refine calls_via fun K hK => ?_
      go_enter Tryz.func55, Tryz.ntmps55
      go_wp2_with (first | (go_at_call 89; refine (var_v HV.out hv12 _).mono ?_; rintro e w' ⟨rfl, rfl⟩))
      refine hK.out _ _ ⟨rfl, rfl⟩
  · have hd : decide (0 < l) = false := by simpa using hp
    rw [hd]
    cases bt with
    | true =>
      have hsh := HSH.out
      refine calls_via fun K hK => ?_
      go_enter Tryz.func55, Tryz.ntmps55
      go_wp2_with (first | (go_at_call 89; refine (var_v HV.out hv12 _).mono ?_; rintro e w' ⟨rfl, rfl⟩))
      refine hK.out _ _ ⟨rfl, rfl⟩
    | false =>
      have hsh := HSH.out
      refine calls_via fun K hK => ?_
      go_enter Tryz.func55, Tryz.ntmps55
      go_wp2_with (first | (go_at_call 89; refine (var_v HV.out hv12 _).mono ?_; rintro e w' ⟨rfl, rfl⟩))
      refine hK.out _ _ ⟨rfl, rfl⟩

theorem any_drop {α : Type} {l : List α} {n k : Nat} (p : α → Bool) (hl : l.length = n) (h : k < n) (d : α) : (l.drop k).any p = (p (l.getD k d) || (l.drop (k + 1)).any p) := by
  rw [List.drop_eq_getElem_cons (by omega), List.any_cons, List.getD_eq_getElem?_getD, List.getElem?_eq_getElem (by omega)]; rfl
theorem all_drop {α : Type} {l : List α} {n k : Nat} (p : α → Bool) (hl : l.length = n) (h : k < n) (d : α) : (l.drop k).all p = (p (l.getD k d) && (l.drop (k + 1)).all p) := by
  rw [List.drop_eq_getElem_cons (by omega), List.all_cons, List.getD_eq_getElem?_getD, List.getElem?_eq_getElem (by omega)]; rfl

set_option maxHeartbeats 1000000 in
theorem holds2_any {w : World} {v : Value} {c : List Int} (h : Ints w v c) (mask : Nat) (hg : ∀ x ∈ c, good x = true) (hm : mask < 4096) (hb : c.length ≤ 1099511627776) :
    Calls Tryz.prog 60 #[v, .int .i64 mask] w fun e w' => e = .returned (.bool (holdsF c mask)) ∧ w' = w := by
  obtain ⟨a, cap, hea⟩ := h.len
  subst hea
  obtain ⟨n, hn⟩ : ∃ n, c.length = n := ⟨_, rfl⟩
  obtain ⟨res, hres⟩ : ∃ r, holdsF c mask = r := ⟨_, rfl⟩
  rw [hn] at h hb ⊢
  rw [hres]
  have HI := hid h
  have HN := hid hn
  have HR := hid hres
  have HG := hid hg
  have HM := hid hm
  have hmi : (mask : Int) < 4096 := by omega
  clear h hn hres hg
  refine calls_via fun K hK => ?_
  go_enter Tryz.func60, Tryz.ntmps60
  go_wp2_with fail
  go_loopg [5] n (fun g i wr => g ≤ n ∧ wr = w ∧ i = .int .i64 ((n - g : Nat) : Int) ∧ res = (c.drop (n - g)).any (fun l => trueF l mask))
  case atStart => exact ⟨by omega, rfl, by simp, by simp [← HR.out, holdsF]⟩
  case round =>
    obtain ⟨hg, rfl, rfl, he⟩ := hrel
    by_cases hlt : 0 < gk
    · obtain ⟨k, hk⟩ : ∃ k, n - gk = k := ⟨_, rfl⟩
      rw [hk] at he ⊢
      have hkn : k < n := by omega
      have hkn2 : (k : Int) < n := by omega
      obtain ⟨g1, o1, rfl, hc1⟩ := HI.out.at HN.out hkn
      have hx := HG.out _ (getD_mem (c := c) (i := k) (by rw [HN.out]; exact hkn))
      rw [any_drop _ HN.out hkn 0] at he
      generalize c.getD k 0 = x at *
      have HT := hid (fun w => true_any x mask hx HM.out w)
      obtain ⟨t, ht⟩ : ∃ z, trueF x mask = z := ⟨_, rfl⟩
      rw [ht] at he HT
      have HK0 := hid hk
      clear hk hx ht
      cases t with
      | true =>
        have HE : Hid (res = true) := he
        clear he
        go_wp2_with (first | (go_at_call 55; refine (HT.out _).mono ?_; rintro e w' ⟨rfl, hw⟩; have hw2 := hw.symm; subst hw2; clear hw))
        refine hK.out _ _ ⟨(by rw [HE.out]; rfl), rfl⟩
      | false =>
        have HE := hid he
        clear he
        go_wp2_with (first | (go_at_call 55; refine (HT.out _).mono ?_; rintro e w' ⟨rfl, hw⟩; have hw2 := hw.symm; subst hw2; clear hw))
        go_roundg (gk - 1)
        case measure => omega
        case rel =>
          have hk := HK0.out
          have e1 : n - (gk - 1) = k + 1 := by omega
          exact ⟨by omega, rfl, by rw [e1]; simp, by rw [e1, HE.out]; simp⟩
    · have hg0 : gk = 0 := by omega
      subst hg0
      rw [Nat.sub_zero, List.drop_of_length_le (by rw [HN.out]; exact Nat.le_refl _)] at he
      have HE : Hid (res = false) := he
      clear he hlt hg
      go_wp2_with fail
      refine hK.out _ _ ⟨(by rw [HE.out]; rfl), rfl⟩

/-- Rows that the walks can read: every row is short and holds literals. -/
def RowsOK (cs : List (List Int)) : Prop := cs.length ≤ 1000000 ∧ ∀ c ∈ cs, (∀ x ∈ c, good x = true) ∧ c.length ≤ 12
theorem RowsOK.at {cs : List (List Int)} (h : RowsOK cs) {k : Nat} (hk : k < cs.length) : (∀ x ∈ cs.getD k [], good x = true) ∧ (cs.getD k []).length ≤ 12 := h.2 _ (getDL_mem hk)

set_option maxHeartbeats 1000000 in
theorem allHold_any {w : World} {v : Value} {cs : List (List Int)} (h : Mat w v cs) (mask : Nat) (hok : RowsOK cs) (hm : mask < 4096) :
    Calls Tryz.prog 32 #[v, .int .i64 mask] w fun e w' => e = .returned (.bool (allHoldF cs mask)) ∧ w' = w := by
  obtain ⟨a, cap, hea⟩ := h.len
  subst hea
  obtain ⟨n, hn⟩ : ∃ n, cs.length = n := ⟨_, rfl⟩
  obtain ⟨res, hres⟩ : ∃ r, allHoldF cs mask = r := ⟨_, rfl⟩
  have hb := hok.1
  rw [hn] at h hb ⊢
  rw [hres]
  have HI := hid h
  have HN := hid hn
  have HR := hid hres
  have HM := hid hm
  have HOK := hid hok
  have hmi : (mask : Int) < 4096 := by omega
  clear h hn hres hok
  refine calls_via fun K hK => ?_
  go_enter Tryz.func32, Tryz.ntmps32
  go_wp2_with fail
  go_loopg [5] n (fun g i wr => g ≤ n ∧ wr = w ∧ i = .int .i64 ((n - g : Nat) : Int) ∧ res = (cs.drop (n - g)).all (fun c => holdsF c mask))
  case atStart => exact ⟨by omega, rfl, by simp, by simp [← HR.out, allHoldF]⟩
  case round =>
    obtain ⟨hg, rfl, rfl, he⟩ := hrel
    by_cases hlt : 0 < gk
    · obtain ⟨k, hk⟩ : ∃ k, n - gk = k := ⟨_, rfl⟩
      rw [hk] at he ⊢
      have hkn : k < n := by omega
      have hkn2 : (k : Int) < n := by omega
      obtain ⟨g1, o1, b1, m1, c1, rfl, hc1, hi1⟩ := HI.out.at HN.out hkn
      have hx := HOK.out.at (k := k) (by rw [HN.out]; exact hkn)
      rw [all_drop _ HN.out hkn []] at he
      generalize cs.getD k [] = x at *
      have HT := hid (holds2_any hi1 mask hx.1 HM.out (by omega))
      obtain ⟨t, ht⟩ : ∃ z, holdsF x mask = z := ⟨_, rfl⟩
      rw [ht] at he HT
      have HK0 := hid hk
      clear hk hx ht hi1
      cases t with
      | false =>
        have HE : Hid (res = false) := he
        clear he
        go_wp2_with (first | (go_at_call 60; refine HT.out.mono ?_; rintro e w' ⟨rfl, hw⟩; have hw2 := hw.symm; subst hw2; clear hw))
        refine hK.out _ _ ⟨(by rw [HE.out]; rfl), rfl⟩
      | true =>
        have HE := hid he
        clear he
        go_wp2_with (first | (go_at_call 60; refine HT.out.mono ?_; rintro e w' ⟨rfl, hw⟩; have hw2 := hw.symm; subst hw2; clear hw))
        go_roundg (gk - 1)
        case measure => omega
        case rel =>
          have hk := HK0.out
          have e1 : n - (gk - 1) = k + 1 := by omega
          exact ⟨by omega, rfl, by rw [e1]; simp, by rw [e1, HE.out]; simp⟩
    · have hg0 : gk = 0 := by omega
      subst hg0
      rw [Nat.sub_zero, List.drop_of_length_le (by rw [HN.out]; exact Nat.le_refl _)] at he
      have HE : Hid (res = true) := he
      clear he hlt hg
      go_wp2_with fail
      refine hK.out _ _ ⟨(by rw [HE.out]; rfl), rfl⟩

theorem tableF_succ (cs : List (List Int)) (n mask : Nat) : tableF cs (n + 1) mask = if allHoldF cs mask = true then (mask : Int) else tableF cs n (mask + 1) := rfl
set_option maxHeartbeats 1000000 in
theorem table_any {w : World} {v : Value} {cs : List (List Int)} (h : Mat w v cs) (hok : RowsOK cs) :
    Calls Tryz.prog 41 #[v] w fun e w' => e = .returned (.int .i64 (tableF cs 4096 0)) ∧ w' = w := by
  obtain ⟨res, hres⟩ : ∃ r, tableF cs 4096 0 = r := ⟨_, rfl⟩
  rw [hres]
  have HI := hid h
  have HR := hid hres
  have HOK := hid hok
  clear h hres hok
  refine calls_via fun K hK => ?_
  go_enter Tryz.func41, Tryz.ntmps41
  go_wp2_with fail
  go_loopg [3] 4096 (fun g i wr => g ≤ 4096 ∧ wr = w ∧ i = .int .i64 ((4096 - g : Nat) : Int) ∧ res = tableF cs g (4096 - g))
  case atStart => exact ⟨by omega, rfl, by simp, HR.out.symm⟩
  case round =>
    obtain ⟨hg, rfl, rfl, he⟩ := hrel
    by_cases hlt : 0 < gk
    · obtain ⟨j, rfl⟩ : ∃ j, gk = j + 1 := ⟨gk - 1, by omega⟩
      obtain ⟨k, hk⟩ : ∃ k, 4096 - (j + 1) = k := ⟨_, rfl⟩
      rw [hk] at he ⊢
      have hkn : k < 4096 := by omega
      have hkn2 : (k : Int) < 4096 := by omega
      rw [tableF_succ] at he
      have HT := hid (allHold_any HI.out k HOK.out hkn)
      obtain ⟨t, ht⟩ : ∃ z, allHoldF cs k = z := ⟨_, rfl⟩
      rw [ht] at he HT
      have HK0 : Hid (k + 1 = 4096 - j ∧ j ≤ 4096) := by show _ ∧ _; omega
      clear hk ht hkn hg hlt
      cases t with
      | true =>
        have HE : Hid (res = (k : Int)) := he
        clear he
        go_wp2_with (first | (go_at_call 32; refine HT.out.mono ?_; rintro e w' ⟨rfl, hw⟩; have hw2 := hw.symm; subst hw2; clear hw))
        refine hK.out _ _ ⟨(by rw [HE.out]; rfl), rfl⟩
      | false =>
        have HE : Hid (res = tableF cs j (k + 1)) := he
        clear he
        go_wp2_with (first | (go_at_call 32; refine HT.out.mono ?_; rintro e w' ⟨rfl, hw⟩; have hw2 := hw.symm; subst hw2; clear hw))
        go_roundg j
        case measure => omega
        case rel => exact ⟨HK0.out.2, rfl, by rw [← HK0.out.1]; simp, by rw [← HK0.out.1]; exact HE.out⟩
    · have hg0 : gk = 0 := by omega
      subst hg0
      have HE : Hid (res = -1) := he
      clear he hlt hg
      go_wp2_with fail
      refine hK.out _ _ ⟨(by rw [HE.out]; rfl), rfl⟩
end Go.Proofs.Qxb6500354aGreat
