/- THE WALKS over check: the small ones. -/
import Derived.Test.Qxb6500354aGreatDef4
import Derived.Test.Qxb6500354aGreatRow2
import Derived.Test.Qxb6500354aGreatSrch10
import Derived.Test.Qxb6500354aGreatLaw2
namespace Go.Proofs.Qxb6500354aGreat
open Go.RowKit
set_option linter.unusedVariables false
set_option linter.unusedSimpArgs false

set_option maxHeartbeats 1000000 in
theorem fit_any {w : World} {v : Value} {l : List Int} (h : Ints w v l) (hb : l.length ≤ 1099511627776) : Calls Tryz.prog 68 #[v] w fun e w' => e = .returned (.int .i64 (surveyF l : Nat)) ∧ w' = w := by
  obtain ⟨a, cap, hea⟩ := h.len
  subst hea
  obtain ⟨n, hn⟩ : ∃ n, l.length = n := ⟨_, rfl⟩
  obtain ⟨res, hres⟩ : ∃ r, surveyF l = r := ⟨_, rfl⟩
  rw [hn] at h hb ⊢
  rw [hres]
  have HI := hid h
  have HN := hid hn
  have HRES := hid hres
  clear h hn hres
  refine calls_via fun K hK => ?_
  go_enter Tryz.func68, Tryz.ntmps68
  go_wp2_with fail
  go_loopg [3, 4] n (fun g r i wr => g ≤ n ∧ wr = w ∧ i = .int .i64 ((n - g : Nat) : Int) ∧ r = .int .i64 (((l.take (n - g)).count 0 : Nat) : Int) ∧ (l.take (n - g)).contains 13 = false)
  case atStart => exact ⟨by omega, rfl, by simp, by simp, by simp⟩
  case round =>
    obtain ⟨hg, rfl, rfl, rfl, hno⟩ := hrel
    by_cases hlt : 0 < gk
    · obtain ⟨k, hk⟩ : ∃ k, n - gk = k := ⟨_, rfl⟩
      rw [hk] at hno ⊢
      have hkn : k < n := by omega
      have hkn2 : (k : Int) < n := by omega
      obtain ⟨g1, o1, rfl, hc1⟩ := HI.out.at HN.out hkn
      have hcs := count_take_succ (l := l) (k := k) (by rw [HN.out]; exact hkn) 0
      have hts := take_snocI (c := l) (k := k) (by rw [HN.out]; exact hkn)
      have hmem : l.getD k 0 ∈ l := getD_mem (by rw [HN.out]; exact hkn)
      generalize l.getD k 0 = x at *
      obtain ⟨ct, hct⟩ : ∃ c, (l.take k).count 0 = c := ⟨_, rfl⟩
      rw [hct] at hcs ⊢
      have hctb : ct ≤ 1099511627776 := by rw [← hct]; exact Nat.le_trans List.count_le_length (by rw [List.length_take]; omega)
      have hctb2 : (ct : Int) ≤ 1099511627776 := by omega
      have HCT := hid hct
      have HCS := hid hcs
      have HTS := hid hts
      have HNO := hid hno
      have HM := hid hmem
      have HK0 := hid hk
      clear hct hcs hts hno hmem hk
      by_cases h13 : x = 13
      · have HR : Hid (res = 16) := by
          show _ = _
          rw [← HRES.out]; unfold surveyF; rw [if_pos]
          rw [List.contains_iff_mem, ← h13]; exact HM.out
        subst h13
        go_wp2_with fail
        refine hK.out _ _ ⟨?_, rfl⟩
        rw [HR.out]; rfl
      · have hb1 : (x == 13) = false := by simpa using h13
        have hno2 : (l.take (k + 1)).contains 13 = false := by
          rw [HTS.out]
          have := HNO.out
          rw [← Bool.not_eq_true, List.contains_iff_mem] at this ⊢
          intro hm
          rcases List.mem_append.1 hm with e | e
          · exact this e
          · rw [List.mem_singleton] at e; exact h13 e.symm
        have HNO2 := hid hno2
        clear hno2 h13
        by_cases h0 : x = 0
        · have hcs2 : Hid ((l.take (k + 1)).count 0 = ct + 1) := by show _ = _; rw [HCS.out, if_pos h0]
          subst h0
          go_wp2_with fail
          go_roundg (gk - 1)
          case measure => omega
          case rel =>
            have hk := HK0.out
            have e1 : n - (gk - 1) = k + 1 := by omega
            refine ⟨by omega, rfl, by rw [e1]; simp, ?_, by rw [e1]; exact HNO2.out⟩
            rw [e1, hcs2.out]; simp
        · have hcs2 : Hid ((l.take (k + 1)).count 0 = ct) := by show _ = _; rw [HCS.out, if_neg h0]; rfl
          have hb2 : (x == 0) = false := by simpa using h0
          clear h0
          go_wp2_with fail
          go_roundg (gk - 1)
          case measure => omega
          case rel =>
            have hk := HK0.out
            have e1 : n - (gk - 1) = k + 1 := by omega
            refine ⟨by omega, rfl, by rw [e1]; simp, ?_, by rw [e1]; exact HNO2.out⟩
            rw [e1, hcs2.out]
    · have hg0 : gk = 0 := by omega
      subst hg0
      rw [Nat.sub_zero, List.take_of_length_le (by rw [HN.out]; exact Nat.le_refl _)] at hno ⊢
      have hR : res = if 40 < l.count 0 then 17 else 0 := by rw [← HRES.out]; unfold surveyF; rw [hno]; simp
      obtain ⟨ct, hct⟩ : ∃ c, l.count 0 = c := ⟨_, rfl⟩
      rw [hct] at hR ⊢
      clear hct hno hlt hg
      by_cases h40 : 40 < ct
      · have hi : (40 : Int) < ct := by omega
        rw [if_pos h40] at hR
        have HR := hid hR
        clear hR h40
        go_wp2_with fail
        refine hK.out _ _ ⟨?_, rfl⟩
        rw [HR.out]; rfl
      · have hi : ¬ (40 : Int) < ct := by omega
        rw [if_neg h40] at hR
        have HR := hid hR
        clear hR h40
        go_wp2_with fail
        refine hK.out _ _ ⟨?_, rfl⟩
        rw [HR.out]; rfl
theorem andI {a b : Nat} (ha : a < 2 ^ 62) (hb : b < 2 ^ 62) : bits .and .i64 a b = ((a &&& b : Nat) : Int) := by
  have h1 : a &&& b < 2 ^ 62 := Nat.lt_of_le_of_lt Nat.and_le_left ha
  show IntKind.i64.wrap (((BitVec.ofInt 64 a) &&& (BitVec.ofInt 64 b)).toNat : Nat) = _
  rw [ofIntN, ofIntN, BitVec.toNat_and, toNatN (by omega), toNatN (by omega)]
  generalize a &&& b = c at *
  have e : IntKind.i64.signed = true := rfl
  simp only [IntKind.wrap, IntKind.bits, e]; simp; omega
theorem andI63 {a : Nat} (h : a < 64) : bits .and .i64 a 63 = (a : Int) := by
  rw [show (63 : Int) = ((63 : Nat) : Int) from rfl, andI (by omega) (by omega), Nat.and_two_pow_sub_one_of_lt_two_pow (n := 6) h]
theorem andI15 {a : Nat} (h : a < 16) : bits .and .i64 a 15 = (a : Int) := by
  rw [show (15 : Int) = ((15 : Nat) : Int) from rfl, andI (by omega) (by omega), Nat.and_two_pow_sub_one_of_lt_two_pow (n := 4) h]
theorem cslot_any (id : Nat) (h : id < 64) (w : World) : Calls Tryz.prog 100 #[.int .i64 id] w fun e w' => e = .returned (.int .u64 (pw id : Nat)) ∧ w' = w := by
  refine calls_via fun K hK => ?_
  go_enter Tryz.func100, Tryz.ntmps100
  go_wp2
  exact hK.out _ _ ⟨ret_int (by rw [andI63 h, wrapU64 (n := (id : Int)) (by omega) (by omega), show min (id : Int).toNat 64 = id from by omega]; exact shl64 h), rfl⟩
theorem bitOf_any (v : Nat) (h1 : 1 ≤ v) (h2 : v ≤ 12) (w : World) : Calls Tryz.prog 131 #[.int .i64 v] w fun e w' => e = .returned (.int .u16 (pw (v - 1) : Nat)) ∧ w' = w := by
  obtain ⟨k, rfl⟩ : ∃ k, v = k + 1 := ⟨v - 1, by omega⟩
  have hk : k < 16 := by omega
  refine calls_via fun K hK => ?_
  go_enter Tryz.func131, Tryz.ntmps131
  go_wp2
  exact hK.out _ _ ⟨ret_int (by rw [andI15 hk, wrapU64 (n := (k : Int)) (by omega) (by omega), show min (k : Int).toNat 16 = k from by omega]; exact shl16 hk), rfl⟩
theorem one_any (x : Nat) (h : x < 2 ^ 16) (w : World) : Calls Tryz.prog 152 #[.int .u16 (x : Nat)] w fun e w' => e = .returned (.bool (oneB x)) ∧ w' = w := by
  by_cases h0 : x = 0
  · subst h0
    refine calls_via fun K hK => ?_
    go_enter Tryz.func152, Tryz.ntmps152
    go_wp2_with fail
    exact hK.out _ _ ⟨ret_bool rfl, rfl⟩
  · have hx : 0 < x := by omega
    have hx2 : (x : Int) < 65536 := by omega
    refine calls_via fun K hK => ?_
    go_enter Tryz.func152, Tryz.ntmps152
    go_wp2_with fail
    exact hK.out _ _ ⟨ret_bool (by rw [show (x : Int) - 1 = ((x - 1 : Nat) : Int) from by omega, and16 h (by omega)]; unfold oneB; rw [show ((x : Int) != 0) = (x != 0) from by rw [Bool.eq_iff_iff, bne_iff_ne, bne_iff_ne]; omega, show ((((x &&& (x - 1) : Nat) : Int)) == 0) = ((x &&& (x - 1)) == 0) from by rw [Bool.eq_iff_iff, beq_iff_eq, beq_iff_eq]; omega]), rfl⟩
/-- The raw cells of the checker are those of sl. -/
structure CkOf (R : CheckR) (q : Nat) (sl : Slots) : Prop where
  p : R.p = .pointer (some ⟨q, 0, none⟩)
  pos : ∀ s, s < 64 → R.pos s = slotP (sl s)
  neg : ∀ s, s < 64 → R.neg s = slotN (sl s)
  used : ∀ s, s < 64 → R.used.testBit s = (sl s).isSome
  usedlt : R.used < 2 ^ 64
  emp : R.empties = (emptyF sl : Nat)
  ok : ∀ s, s < 64 → ∀ c, sl s = some c → checkClause c = 0
theorem lowest_any (m : Nat) (h : m < 2 ^ 64) (sl : Slots) (hs : ∀ s, s < 64 → m.testBit s = !(sl s).isSome) (w : World) :
    Calls Tryz.prog 132 #[.int .u64 (m : Nat)] w fun e w' => e = .returned (.int .i64 (slotI (lowF sl 64 0))) ∧ w' = w := by
  have HS := hid hs
  obtain ⟨res, hres⟩ : ∃ r, lowF sl 64 0 = r := ⟨_, rfl⟩
  have HR := hid hres
  rw [hres]
  clear hs hres
  refine calls_via fun K hK => ?_
  go_enter Tryz.func132, Tryz.ntmps132
  go_wp2_with fail
  go_loopg [3] 64 (fun g i wr => g ≤ 64 ∧ wr = w ∧ i = .int .i64 ((64 - g : Nat) : Int) ∧ res = lowF sl g (64 - g))
  case atStart => exact ⟨by omega, rfl, by simp, HR.out.symm⟩
  case round =>
    obtain ⟨hg, rfl, rfl, he⟩ := hrel
    by_cases hlt : 0 < gk
    · obtain ⟨k, hk⟩ : ∃ k, 64 - gk = k := ⟨_, rfl⟩
      rw [hk] at he ⊢
      have hk64 : k < 64 := by omega
      have hki : (k : Int) < 64 := by omega
      obtain ⟨g2, rfl⟩ : ∃ g2, gk = g2 + 1 := ⟨gk - 1, by omega⟩
      have he2 : res = if (sl k).isSome = true then lowF sl g2 (k + 1) else some k := he
      have hb := and64 (b := pw k) h (pow64 hk64)
      have hc := HS.out k hk64
      have HK := hid hk
      clear he hk
      cases hsk : (sl k).isSome with
      | true =>
        rw [hsk, if_pos rfl] at he2
        rw [hsk] at hc
        have hz : (((m &&& pw k : Nat) : Int) != 0) = false := by rw [pw, and_pow_ne, hc]; rfl
        have HE := hid he2
        clear he2 hsk hc
        go_wp2_with (go_at_call 100; refine (cslot_any _ hk64 _).mono ?_; rintro e w' ⟨rfl, hw⟩; have hw2 := hw.symm; subst hw2)
        go_roundg g2
        case measure => omega
        case rel =>
          have hk := HK.out
          refine ⟨by omega, rfl, ?_, ?_⟩
          · rw [show 64 - g2 = k + 1 from by omega]; simp
          · rw [show 64 - g2 = k + 1 from by omega]; exact HE.out
      | false =>
        rw [hsk, if_neg (by simp)] at he2
        rw [hsk] at hc
        have hz : (((m &&& pw k : Nat) : Int) != 0) = true := by rw [pw, and_pow_ne, hc]; rfl
        have HE := hid he2
        clear he2 hsk hc
        go_wp2_with (go_at_call 100; refine (cslot_any _ hk64 _).mono ?_; rintro e w' ⟨rfl, hw⟩; have hw2 := hw.symm; subst hw2)
        refine hK.out _ _ ⟨?_, rfl⟩
        rw [HE.out]; rfl
    · have hg0 : gk = 0 := by omega
      subst hg0
      have HE : Hid (res = none) := he
      clear he hlt hg
      go_wp2_with fail
      refine hK.out _ _ ⟨?_, rfl⟩
      rw [HE.out]; rfl
end Go.Proofs.Qxb6500354aGreat
