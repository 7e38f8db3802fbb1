/- The walk over cnfm.number. -/
import Derived.Test.Qxb6500354aGreatMod
namespace Go.Proofs.Qxb6500354aGreat
open Go.RowKit
set_option linter.unusedVariables false
set_option linter.unusedSimpArgs false

def numTail (neg : Bool) (ds : List Nat) (i a : Nat) : Nat × Bool × Nat × Nat :=
  match ds.findIdx? (fun c => !digitB c) with
  | some k => (0, false, 2, i + k)
  | none =>
    if ds.length = 0 then (0, false, 3, a)
    else
      let v := ds.foldl satStep 0
      if v = 0 ∧ neg = true then (0, false, 3, a)
      else if 12 < v then (0, false, 4, a)
      else (v, neg, 0, 0)
theorem numTail_bad {neg : Bool} {ds : List Nat} {i a k : Nat} (hk : k < ds.length) (hd : ∀ j, j < k → digitB (ds.getD j 0) = true) (hn : digitB (ds.getD k 0) = false) : numTail neg ds i a = (0, false, 2, i + k) := by
  have : ds.findIdx? (fun c => !digitB c) = some k := by
    rw [List.findIdx?_eq_some_iff_getElem]
    refine ⟨hk, ?_, fun j hj => ?_⟩
    · rw [List.getD_eq_getElem?_getD, List.getElem?_eq_getElem hk] at hn
      simp only [Option.getD_some] at hn
      rw [hn]; rfl
    · have := hd j hj
      rw [List.getD_eq_getElem?_getD, List.getElem?_eq_getElem (by omega)] at this
      simp only [Option.getD_some] at this
      rw [this]; simp
  unfold numTail; rw [this]
theorem numTail_good {neg : Bool} {ds : List Nat} {i a : Nat} (hd : ∀ j, j < ds.length → digitB (ds.getD j 0) = true) : numTail neg ds i a =
    if ds.length = 0 then (0, false, 3, a) else if ds.foldl satStep 0 = 0 ∧ neg = true then (0, false, 3, a) else if 12 < ds.foldl satStep 0 then (0, false, 4, a) else (ds.foldl satStep 0, neg, 0, 0) := by
  have : ds.findIdx? (fun c => !digitB c) = none := by
    rw [List.findIdx?_eq_none_iff]
    intro x hx
    obtain ⟨j, hj, e⟩ := List.getElem_of_mem hx
    have := hd j hj
    rw [List.getD_eq_getElem?_getD, List.getElem?_eq_getElem hj] at this
    simp only [Option.getD_some] at this
    rw [← e, this]; rfl
  unfold numTail; rw [this]
theorem numberM_tail (tok : List Nat) (a : Nat) : numberM tok a = if (tok.headD 0 == 45) = true then numTail true (tok.drop 1) (a + 1) a else numTail false tok a a := by
  unfold numberM numTail
  cases h : (tok.headD 0 == 45)
  · simp only [Bool.false_eq_true, if_false]
    generalize List.findIdx? (fun c => !digitB c) tok = o
    cases o <;> rfl
  · simp only [if_true]
    generalize List.findIdx? (fun c => !digitB c) (tok.drop 1) = o
    cases o <;> rfl
theorem digitB_iff (c : Nat) : digitB c = true ↔ 48 ≤ c ∧ c ≤ 57 := by unfold digitB; simp
theorem satStep_le {v c : Nat} : satStep v c ≤ 13 := by unfold satStep; split <;> omega
theorem foldl_sat_le (ds : List Nat) : ∀ v, v ≤ 13 → ds.foldl satStep v ≤ 13 := by
  induction ds with
  | nil => intro v h; exact h
  | cons c r ih => intro v _; exact ih _ satStep_le
theorem byteAt (s : ByteArray) {k : Nat} (h : k < s.size) : (s[k]'h).toNat = (bytesOf s).getD k 0 := by
  have h2 : k < (bytesOf s).length := by rw [bytesOf_len]; exact h
  rw [List.getD_eq_getElem?_getD, List.getElem?_eq_getElem h2]
  simp [bytesOf]; rfl
theorem byte_lt (s : ByteArray) (k : Nat) : (bytesOf s).getD k 0 < 256 := by
  by_cases h : k < s.size
  · rw [← byteAt s h]; exact UInt8.toNat_lt _
  · rw [List.getD_eq_getElem?_getD, List.getElem?_eq_none (by rw [bytesOf_len]; omega)]; simp
theorem sub_getD (B : List Nat) {i b j : Nat} (hj : j < b - i) : ((B.drop i).take (b - i)).getD j 0 = B.getD (i + j) 0 := by
  simp only [List.getD_eq_getElem?_getD, List.getElem?_take, List.getElem?_drop]
  rw [if_pos hj]

set_option maxRecDepth 100000 in
set_option maxHeartbeats 8000000 in
theorem number_any2 (s : ByteArray) (a b : Nat) (hab : a < b) (hb : b ≤ s.size) (hs : s.size ≤ 1048576) (w : World) :
    Calls Tryz.prog 62 #[.string s, .int .i64 a, .int .i64 b] w fun e w' => e = .returned (.tuple #[.int .i64 ((numberM (((bytesOf s).drop a).take (b - a)) a).1 : Nat), .bool (numberM (((bytesOf s).drop a).take (b - a)) a).2.1, .int .i64 ((numberM (((bytesOf s).drop a).take (b - a)) a).2.2.1 : Nat), .int .i64 ((numberM (((bytesOf s).drop a).take (b - a)) a).2.2.2 : Nat)]) ∧ ∃ q, w' = w.drewN q := by
  obtain ⟨res, hres⟩ : ∃ r, numberM (((bytesOf s).drop a).take (b - a)) a = r := ⟨_, rfl⟩
  rw [hres]
  rw [numberM_tail] at hres
  have hlen := bytesOf_len s
  have has : a < s.size := by omega
  have hhd : (((bytesOf s).drop a).take (b - a)).headD 0 = (bytesOf s).getD a 0 := by
    obtain ⟨m, hm⟩ : ∃ m, b - a = m + 1 := ⟨b - a - 1, by omega⟩
    rw [hm, bytesOf_drop s has, List.take_succ_cons, List.headD_cons, byteAt]
  rw [hhd] at hres
  have hca := byteAt s has
  obtain ⟨c, hc⟩ : ∃ c, (bytesOf s).getD a 0 = c := ⟨_, rfl⟩
  rw [hc] at hres hca
  have hai : (a : Int) < s.size := by omega
  have hbi : (b : Int) ≤ s.size := by omega
  have hbs : (b : Int) ≤ 1048576 := by omega
  have hai0 : (0 : Int) ≤ a := by omega
  have habi : (a : Int) < b := by omega
  have HB := hid (fun k => byte_lt s k)
  by_cases hneg : c = 45
  · obtain ⟨i0, hi0⟩ : ∃ i, i = (a + 1) := ⟨_, rfl⟩
    have hib : i0 ≤ b := by omega
    obtain ⟨ds, hds⟩ : ∃ d, ((bytesOf s).drop i0).take (b - i0) = d := ⟨_, rfl⟩
    have hres2 : res = numTail true ds i0 a := by
      rw [← hres, if_pos (by rw [hneg]; rfl), ← hds, hi0]
      rw [List.drop_take, List.drop_drop, show b - a - 1 = b - (a + 1) from by omega]
    have hdl : ds.length = b - i0 := by rw [← hds, List.length_take, List.length_drop, hlen]; omega
    have hdg : ∀ j, j < b - i0 → ds.getD j 0 = (bytesOf s).getD (i0 + j) 0 := fun j hj => by rw [← hds]; exact sub_getD _ hj
    have HRES := hid hres2
    have HDL := hid hdl
    have HDG := hid hdg
    have hb1 : ((c : Int) == 45) = true := by simp [hneg]
    have hi1 : (i0 : Int) = (a : Int) + 1 := by omega
    have HI1 : Hid ((a : Int) + 1 = (i0 : Int)) := hi1.symm
    have hi0i : (i0 : Int) ≤ b := by omega
    have hi00 : (0 : Int) ≤ i0 := by omega
    have HI0 := hid hi0
    have HIB := hid hib
    clear hres hres2 hdl hdg hds hc hhd hneg hi0 hlen hi1
    refine calls_via fun K hK => ?_
    go_enter Tryz.func62, Tryz.ntmps62
    go_wp2_with fail
    rw [HI1.out]
    go_loopg [12] (b - i0) (fun g kv wr => ∃ k : Nat, k + g = b ∧ i0 ≤ k ∧ (∃ q, wr = w.drewN q) ∧ kv = .int .i64 (k : Int) ∧ ∀ j, i0 + j < k → digitB (ds.getD j 0) = true)
    case atStart => exact ⟨i0, by have := HIB.out; omega, Nat.le_refl _, ⟨0, rfl⟩, rfl, by intro j hj; omega⟩
    case round =>
      obtain ⟨k, hkg, hik, ⟨q, rfl⟩, rfl, hall⟩ := hrel
      by_cases hlt : 0 < gk
      · have hkb : k < b := by omega
        have hks : k < s.size := by omega
        have hki : (k : Int) < b := by omega
        have hksi : (k : Int) < s.size := by omega
        have hki0 : (0 : Int) ≤ k := by omega
        have hcd := byteAt s hks
        have hd := HDG.out (k - i0) (by omega)
        rw [show i0 + (k - i0) = k from by omega] at hd
        obtain ⟨d, hdd⟩ : ∃ d, (bytesOf s).getD k 0 = d := ⟨_, rfl⟩
        have hd256 := HB.out k
        rw [hdd] at hcd hd hd256
        have hdi : (d : Int) < 256 := by omega
        have HD := hid hd
        have HALL := hid hall
        have HKG := hid hkg
        have HIK := hid hik
        clear hd hall hdd hkg hik
        by_cases h48 : 48 ≤ d
        · have h48i : ¬ (d : Int) < 48 := by omega
          by_cases h57 : d ≤ 57
          · have h57i : ¬ (57 : Int) < d := by omega
            have HDIG : Hid (digitB d = true) := (digitB_iff d).2 ⟨h48, h57⟩
            clear h48 h57
            go_wp2_with fail
            try (go_quiet (fail))
            try (go_wp2_with fail)
            go_roundg (gk - 1)
            case measure => omega
            case rel =>
              refine ⟨k + 1, by have := HKG.out; omega, by have := HIK.out; omega, ⟨_, by first | rfl | exact World.drewN_drewN _ _ _⟩, by simp, fun j hj => ?_⟩
              by_cases e : i0 + j = k
              · have e2 : j = k - i0 := by omega
                rw [e2, HD.out]; exact HDIG.out
              · exact HALL.out j (by omega)
          · have h57i : (57 : Int) < d := by omega
            have hr : Hid (res = (0, false, 2, k)) := by
              show _ = _
              rw [HRES.out, numTail_bad (k := k - i0) (by rw [HDL.out]; have := HIK.out; omega) (fun j hj => HALL.out j (by omega)) (by rw [HD.out, ← Bool.not_eq_true, digitB_iff]; omega), show i0 + (k - i0) = k from by have := HIK.out; omega]
            clear h48 h57
            go_wp2_with fail
            try (go_quiet (fail))
            try (go_wp2_with fail)
            refine bodyPost_ret (v := .tuple #[.int .i64 0, .bool false, .int .i64 2, .int .i64 (k : Nat)]) (by simp [results, Tryz.results62, go_sem, HI0.out]) rfl ?_
            refine hK.out _ _ ⟨(by rw [hr.out]; rfl), _, by first | rfl | exact World.drewN_drewN _ _ _⟩
        · have h48i : (d : Int) < 48 := by omega
          have hr : Hid (res = (0, false, 2, k)) := by
            show _ = _
            rw [HRES.out, numTail_bad (k := k - i0) (by rw [HDL.out]; have := HIK.out; omega) (fun j hj => HALL.out j (by omega)) (by rw [HD.out, ← Bool.not_eq_true, digitB_iff]; omega), show i0 + (k - i0) = k from by have := HIK.out; omega]
          clear h48
          go_wp2_with fail
          try (go_quiet (fail))
          try (go_wp2_with fail)
          refine bodyPost_ret (v := .tuple #[.int .i64 0, .bool false, .int .i64 2, .int .i64 (k : Nat)]) (by simp [results, Tryz.results62, go_sem, HI0.out]) rfl ?_
          refine hK.out _ _ ⟨(by rw [hr.out]; rfl), _, by first | rfl | exact World.drewN_drewN _ _ _⟩
      · have hg0 : gk = 0 := by omega
        subst hg0
        have hkb : k = b := by omega
        subst hkb
        have hgood := HRES.out
        rw [numTail_good (fun j hj => hall j (by rw [HDL.out] at hj; omega)), HDL.out] at hgood
        have HALL := hid hall
        clear hall hkg hlt
        by_cases hib2 : i0 = k
        · have hbe : ((i0 : Int) == (k : Int)) = true := by rw [hib2]; simp
          rw [if_pos (by omega)] at hgood
          have HGD := hid hgood
          clear hgood hik hib2
          go_wp2_with fail
          refine bodyPost_ret (v := .tuple #[.int .i64 0, .bool false, .int .i64 3, .int .i64 (a : Nat)]) (by simp [results, Tryz.results62, go_sem, HI0.out]) rfl ?_
          refine hK.out _ _ ⟨(by rw [HGD.out]; rfl), _, by first | rfl | exact World.drewN_drewN _ _ _⟩
        · have hbe : ((i0 : Int) == (k : Int)) = false := by simp; omega
          rw [if_neg (by omega)] at hgood
          obtain ⟨V, hV⟩ : ∃ v, ds.foldl satStep 0 = v := ⟨_, rfl⟩
          have hV13 : V ≤ 13 := by rw [← hV]; exact foldl_sat_le ds 0 (by omega)
          rw [hV] at hgood
          have HV := hid hV
          have HGD := hid hgood
          have HIK := hid hik
          have HI2 := hid hib2
          clear hgood hV hik hib2
          go_wp2_with fail
          go_loopg [13, 14] (k - i0) (fun g vv kv wr => ∃ (m v : Nat), m + g = k ∧ i0 ≤ m ∧ (∃ q, wr = w.drewN q) ∧ kv = .int .i64 (m : Int) ∧ vv = .int .i64 (v : Int) ∧ v ≤ 13 ∧ v = (ds.take (m - i0)).foldl satStep 0)
          case atStart => exact ⟨i0, 0, by have := HIK.out; omega, Nat.le_refl _, ⟨_, rfl⟩, rfl, rfl, by omega, by simp⟩
          case round =>
            obtain ⟨m, v, hmg, him, ⟨q2, rfl⟩, rfl, rfl, hv13, hvf⟩ := hrel
            by_cases hlt : 0 < gk
            · have hms : m < s.size := by omega
              have hmi : (m : Int) < k := by omega
              have hmsi : (m : Int) < s.size := by omega
              have hmi0 : (0 : Int) ≤ m := by omega
              have hcd := byteAt s hms
              have hd := HDG.out (m - i0) (by omega)
              rw [show i0 + (m - i0) = m from by omega] at hd
              have hdig := HALL.out (m - i0) (by omega)
              have htk := List.take_succ_eq_append_getElem (l := ds) (i := m - i0) (by rw [HDL.out]; omega)
              obtain ⟨d, hdd⟩ : ∃ d, (bytesOf s).getD m 0 = d := ⟨_, rfl⟩
              have hdg2 : ds[m - i0]'(by rw [HDL.out]; omega) = d := by rw [← hdd, ← hd, List.getD_eq_getElem?_getD, List.getElem?_eq_getElem (by rw [HDL.out]; omega)]; rfl
              rw [hdg2] at htk
              rw [hd, hdd, digitB_iff] at hdig
              rw [hdd] at hcd
              have h48i : (48 : Int) ≤ d := by omega
              have h57i : (d : Int) ≤ 57 := by omega
              have hvi : (v : Int) ≤ 13 := by omega
              have HTK := hid htk
              have HVF := hid hvf
              have HMG := hid hmg
              have HIM := hid him
              have HD48 := hid hdig
              have HLT := hid hlt
              have hcn : Hid (((v * 10 + (d - 48) : Nat) : Int) = (v : Int) * 10 + ((d : Int) - 48)) := by show _ = _; omega
              have HSTEP : Hid ((ds.take (m + 1 - i0)).foldl satStep 0 = satStep v d) := by
                show _ = _
                rw [show m + 1 - i0 = (m - i0) + 1 from by omega, htk, List.foldl_append, ← hvf]; rfl
              clear hd hdd hdg2 htk hdig hvf hmg him hlt
              by_cases h12 : 12 < v * 10 + (d - 48)
              · have hgi : (12 : Int) < (v : Int) * 10 + ((d : Int) - 48) := by have := HD48.out; omega
                have HS2 : Hid (satStep v d = 13) := by show _ = _; unfold satStep; rw [if_pos h12]
                clear h12
                go_wp2_with fail
                try (go_quiet (fail))
                try (go_wp2_with fail)
                go_roundg (gk - 1)
                case measure => have := HLT.out; omega
                case rel => exact ⟨m + 1, 13, by have := HMG.out; have := HLT.out; omega, by have := HIM.out; omega, ⟨_, by first | rfl | exact World.drewN_drewN _ _ _⟩, by simp, rfl, by omega, by rw [HSTEP.out, HS2.out]⟩
              · have hgi : ¬ (12 : Int) < (v : Int) * 10 + ((d : Int) - 48) := by have := HD48.out; omega
                have HS2 : Hid (satStep v d = v * 10 + (d - 48)) := by show _ = _; unfold satStep; rw [if_neg h12]
                have H12 := hid h12
                clear h12
                go_wp2_with fail
                try (go_quiet (fail))
                try (go_wp2_with fail)
                go_roundg (gk - 1)
                case measure => have := HLT.out; omega
                case rel => exact ⟨m + 1, v * 10 + (d - 48), by have := HMG.out; have := HLT.out; omega, by have := HIM.out; omega, ⟨_, by first | rfl | exact World.drewN_drewN _ _ _⟩, by simp, by rw [hcn.out], by have := H12.out; omega, by rw [HSTEP.out, HS2.out]⟩
            · have hg0 : gk = 0 := by omega
              subst hg0
              have hmk : m = k := by omega
              subst hmk
              rw [List.take_of_length_le (by rw [HDL.out]; exact Nat.le_refl _), HV.out] at hvf
              subst hvf
              have hgood := HGD.out
              clear hmg him hlt hv13
              by_cases hv0 : v = 0
              · have hb0 : ((v : Int) == 0) = true := by simp [hv0]
                have hng : ¬ (12 : Int) < v := by omega
                rw [if_pos (by simp [hv0])] at hgood
                have HG2 := hid hgood
                have HV0 := hid hv0
                clear hgood hv0
                go_wp2_with fail
                refine bodyPost_ret (v := .tuple #[.int .i64 0, .bool false, .int .i64 3, .int .i64 (a : Nat)]) (by simp [results, Tryz.results62, go_sem, HI0.out]) rfl ?_
                refine hK.out _ _ ⟨(by rw [HG2.out]; rfl), _, by first | rfl | exact World.drewN_drewN _ _ _⟩
              · have hb0 : ((v : Int) == 0) = false := by simp; omega
                rw [if_neg (fun z => hv0 z.1)] at hgood
                by_cases h12 : 12 < v
                · have hgi : (12 : Int) < v := by omega
                  rw [if_pos h12] at hgood
                  have HG2 := hid hgood
                  clear hgood hv0 h12
                  go_wp2_with fail
                  refine bodyPost_ret (v := .tuple #[.int .i64 0, .bool false, .int .i64 4, .int .i64 (a : Nat)]) (by simp [results, Tryz.results62, go_sem, HI0.out]) rfl ?_
                  refine hK.out _ _ ⟨(by rw [HG2.out]; rfl), _, by first | rfl | exact World.drewN_drewN _ _ _⟩
                · have hgi : ¬ (12 : Int) < v := by omega
                  rw [if_neg h12] at hgood
                  have HG2 := hid hgood
                  clear hgood hv0 h12
                  go_wp2_with fail
                  refine bodyPost_ret (v := .tuple #[.int .i64 (v : Nat), .bool true, .int .i64 0, .int .i64 0]) (by simp [results, Tryz.results62, go_sem, HI0.out]) rfl ?_
                  refine hK.out _ _ ⟨(by rw [HG2.out]; rfl), _, by first | rfl | exact World.drewN_drewN _ _ _⟩
  · obtain ⟨i0, hi0⟩ : ∃ i, i = a := ⟨_, rfl⟩
    have hib : i0 ≤ b := by omega
    obtain ⟨ds, hds⟩ : ∃ d, ((bytesOf s).drop i0).take (b - i0) = d := ⟨_, rfl⟩
    have hres2 : res = numTail false ds i0 a := by
      rw [← hres, if_neg (by simp; exact hneg), ← hds, hi0]
    have hdl : ds.length = b - i0 := by rw [← hds, List.length_take, List.length_drop, hlen]; omega
    have hdg : ∀ j, j < b - i0 → ds.getD j 0 = (bytesOf s).getD (i0 + j) 0 := fun j hj => by rw [← hds]; exact sub_getD _ hj
    have HRES := hid hres2
    have HDL := hid hdl
    have HDG := hid hdg
    have hb1 : ((c : Int) == 45) = false := by simp; omega
    have hi0i : (i0 : Int) ≤ b := by omega
    have hi00 : (0 : Int) ≤ i0 := by omega
    have HI0 := hid hi0
    have HIB := hid hib
    clear hres hres2 hdl hdg hds hc hhd hneg hi0 hlen
    refine calls_via fun K hK => ?_
    go_enter Tryz.func62, Tryz.ntmps62
    go_wp2_with fail
    have e0 : (a : Int) = (i0 : Int) := by rw [HI0.out]
    rw [e0]
    have E0 := hid e0
    clear e0
    go_loopg [12] (b - i0) (fun g kv wr => ∃ k : Nat, k + g = b ∧ i0 ≤ k ∧ (∃ q, wr = w.drewN q) ∧ kv = .int .i64 (k : Int) ∧ ∀ j, i0 + j < k → digitB (ds.getD j 0) = true)
    case atStart => exact ⟨i0, by have := HIB.out; omega, Nat.le_refl _, ⟨0, rfl⟩, rfl, by intro j hj; omega⟩
    case round =>
      obtain ⟨k, hkg, hik, ⟨q, rfl⟩, rfl, hall⟩ := hrel
      by_cases hlt : 0 < gk
      · have hkb : k < b := by omega
        have hks : k < s.size := by omega
        have hki : (k : Int) < b := by omega
        have hksi : (k : Int) < s.size := by omega
        have hki0 : (0 : Int) ≤ k := by omega
        have hcd := byteAt s hks
        have hd := HDG.out (k - i0) (by omega)
        rw [show i0 + (k - i0) = k from by omega] at hd
        obtain ⟨d, hdd⟩ : ∃ d, (bytesOf s).getD k 0 = d := ⟨_, rfl⟩
        have hd256 := HB.out k
        rw [hdd] at hcd hd hd256
        have hdi : (d : Int) < 256 := by omega
        have HD := hid hd
        have HALL := hid hall
        have HKG := hid hkg
        have HIK := hid hik
        clear hd hall hdd hkg hik
        by_cases h48 : 48 ≤ d
        · have h48i : ¬ (d : Int) < 48 := by omega
          by_cases h57 : d ≤ 57
          · have h57i : ¬ (57 : Int) < d := by omega
            have HDIG : Hid (digitB d = true) := (digitB_iff d).2 ⟨h48, h57⟩
            clear h48 h57
            go_wp2_with fail
            try (go_quiet (fail))
            try (go_wp2_with fail)
            go_roundg (gk - 1)
            case measure => omega
            case rel =>
              refine ⟨k + 1, by have := HKG.out; omega, by have := HIK.out; omega, ⟨_, by first | rfl | exact World.drewN_drewN _ _ _⟩, by simp, fun j hj => ?_⟩
              by_cases e : i0 + j = k
              · have e2 : j = k - i0 := by omega
                rw [e2, HD.out]; exact HDIG.out
              · exact HALL.out j (by omega)
          · have h57i : (57 : Int) < d := by omega
            have hr : Hid (res = (0, false, 2, k)) := by
              show _ = _
              rw [HRES.out, numTail_bad (k := k - i0) (by rw [HDL.out]; have := HIK.out; omega) (fun j hj => HALL.out j (by omega)) (by rw [HD.out, ← Bool.not_eq_true, digitB_iff]; omega), show i0 + (k - i0) = k from by have := HIK.out; omega]
            clear h48 h57
            go_wp2_with fail
            try (go_quiet (fail))
            try (go_wp2_with fail)
            refine bodyPost_ret (v := .tuple #[.int .i64 0, .bool false, .int .i64 2, .int .i64 (k : Nat)]) (by simp [results, Tryz.results62, go_sem, HI0.out]) rfl ?_
            refine hK.out _ _ ⟨(by rw [hr.out]; rfl), _, by first | rfl | exact World.drewN_drewN _ _ _⟩
        · have h48i : (d : Int) < 48 := by omega
          have hr : Hid (res = (0, false, 2, k)) := by
            show _ = _
            rw [HRES.out, numTail_bad (k := k - i0) (by rw [HDL.out]; have := HIK.out; omega) (fun j hj => HALL.out j (by omega)) (by rw [HD.out, ← Bool.not_eq_true, digitB_iff]; omega), show i0 + (k - i0) = k from by have := HIK.out; omega]
          clear h48
          go_wp2_with fail
          try (go_quiet (fail))
          try (go_wp2_with fail)
          refine bodyPost_ret (v := .tuple #[.int .i64 0, .bool false, .int .i64 2, .int .i64 (k : Nat)]) (by simp [results, Tryz.results62, go_sem, HI0.out]) rfl ?_
          refine hK.out _ _ ⟨(by rw [hr.out]; rfl), _, by first | rfl | exact World.drewN_drewN _ _ _⟩
      · have hg0 : gk = 0 := by omega
        subst hg0
        have hkb : k = b := by omega
        subst hkb
        have hgood := HRES.out
        rw [numTail_good (fun j hj => hall j (by rw [HDL.out] at hj; omega)), HDL.out] at hgood
        have HALL := hid hall
        clear hall hkg hlt
        by_cases hib2 : i0 = k
        · have hbe : ((i0 : Int) == (k : Int)) = true := by rw [hib2]; simp
          rw [if_pos (by omega)] at hgood
          have HGD := hid hgood
          clear hgood hik hib2
          go_wp2_with fail
          refine bodyPost_ret (v := .tuple #[.int .i64 0, .bool false, .int .i64 3, .int .i64 (a : Nat)]) (by simp [results, Tryz.results62, go_sem, HI0.out]) rfl ?_
          refine hK.out _ _ ⟨(by rw [HGD.out]; rfl), _, by first | rfl | exact World.drewN_drewN _ _ _⟩
        · have hbe : ((i0 : Int) == (k : Int)) = false := by simp; omega
          rw [if_neg (by omega)] at hgood
          obtain ⟨V, hV⟩ : ∃ v, ds.foldl satStep 0 = v := ⟨_, rfl⟩
          have hV13 : V ≤ 13 := by rw [← hV]; exact foldl_sat_le ds 0 (by omega)
          rw [hV] at hgood
          have HV := hid hV
          have HGD := hid hgood
          have HIK := hid hik
          have HI2 := hid hib2
          clear hgood hV hik hib2
          go_wp2_with fail
          go_loopg [13, 14] (k - i0) (fun g vv kv wr => ∃ (m v : Nat), m + g = k ∧ i0 ≤ m ∧ (∃ q, wr = w.drewN q) ∧ kv = .int .i64 (m : Int) ∧ vv = .int .i64 (v : Int) ∧ v ≤ 13 ∧ v = (ds.take (m - i0)).foldl satStep 0)
          case atStart => exact ⟨i0, 0, by have := HIK.out; omega, Nat.le_refl _, ⟨_, rfl⟩, rfl, rfl, by omega, by simp⟩
          case round =>
            obtain ⟨m, v, hmg, him, ⟨q2, rfl⟩, rfl, rfl, hv13, hvf⟩ := hrel
            by_cases hlt : 0 < gk
            · have hms : m < s.size := by omega
              have hmi : (m : Int) < k := by omega
              have hmsi : (m : Int) < s.size := by omega
              have hmi0 : (0 : Int) ≤ m := by omega
              have hcd := byteAt s hms
              have hd := HDG.out (m - i0) (by omega)
              rw [show i0 + (m - i0) = m from by omega] at hd
              have hdig := HALL.out (m - i0) (by omega)
              have htk := List.take_succ_eq_append_getElem (l := ds) (i := m - i0) (by rw [HDL.out]; omega)
              obtain ⟨d, hdd⟩ : ∃ d, (bytesOf s).getD m 0 = d := ⟨_, rfl⟩
              have hdg2 : ds[m - i0]'(by rw [HDL.out]; omega) = d := by rw [← hdd, ← hd, List.getD_eq_getElem?_getD, List.getElem?_eq_getElem (by rw [HDL.out]; omega)]; rfl
              rw [hdg2] at htk
              rw [hd, hdd, digitB_iff] at hdig
              rw [hdd] at hcd
              have h48i : (48 : Int) ≤ d := by omega
              have h57i : (d : Int) ≤ 57 := by omega
              have hvi : (v : Int) ≤ 13 := by omega
              have HTK := hid htk
              have HVF := hid hvf
              have HMG := hid hmg
              have HIM := hid him
              have HD48 := hid hdig
              have HLT := hid hlt
              have hcn : Hid (((v * 10 + (d - 48) : Nat) : Int) = (v : Int) * 10 + ((d : Int) - 48)) := by show _ = _; omega
              have HSTEP : Hid ((ds.take (m + 1 - i0)).foldl satStep 0 = satStep v d) := by
                show _ = _
                rw [show m + 1 - i0 = (m - i0) + 1 from by omega, htk, List.foldl_append, ← hvf]; rfl
              clear hd hdd hdg2 htk hdig hvf hmg him hlt
              by_cases h12 : 12 < v * 10 + (d - 48)
              · have hgi : (12 : Int) < (v : Int) * 10 + ((d : Int) - 48) := by have := HD48.out; omega
                have HS2 : Hid (satStep v d = 13) := by show _ = _; unfold satStep; rw [if_pos h12]
                clear h12
                go_wp2_with fail
                try (go_quiet (fail))
                try (go_wp2_with fail)
                go_roundg (gk - 1)
                case measure => have := HLT.out; omega
                case rel => exact ⟨m + 1, 13, by have := HMG.out; have := HLT.out; omega, by have := HIM.out; omega, ⟨_, by first | rfl | exact World.drewN_drewN _ _ _⟩, by simp, rfl, by omega, by rw [HSTEP.out, HS2.out]⟩
              · have hgi : ¬ (12 : Int) < (v : Int) * 10 + ((d : Int) - 48) := by have := HD48.out; omega
                have HS2 : Hid (satStep v d = v * 10 + (d - 48)) := by show _ = _; unfold satStep; rw [if_neg h12]
                have H12 := hid h12
                clear h12
                go_wp2_with fail
                try (go_quiet (fail))
                try (go_wp2_with fail)
                go_roundg (gk - 1)
                case measure => have := HLT.out; omega
                case rel => exact ⟨m + 1, v * 10 + (d - 48), by have := HMG.out; have := HLT.out; omega, by have := HIM.out; omega, ⟨_, by first | rfl | exact World.drewN_drewN _ _ _⟩, by simp, by rw [hcn.out], by have := H12.out; omega, by rw [HSTEP.out, HS2.out]⟩
            · have hg0 : gk = 0 := by omega
              subst hg0
              have hmk : m = k := by omega
              subst hmk
              rw [List.take_of_length_le (by rw [HDL.out]; exact Nat.le_refl _), HV.out] at hvf
              subst hvf
              have hgood := HGD.out
              clear hmg him hlt hv13
              by_cases hv0 : v = 0
              · have hb0 : ((v : Int) == 0) = true := by simp [hv0]
                have hng : ¬ (12 : Int) < v := by omega
                rw [if_neg (by simp), if_neg (by omega), hv0] at hgood
                have hv00 : (v : Int) = 0 := by omega
                have HG2 := hid hgood
                have HV0 := hid hv0
                clear hgood hv0
                go_wp2_with fail
                refine bodyPost_ret (v := .tuple #[.int .i64 0, .bool false, .int .i64 0, .int .i64 0]) (by simp [results, Tryz.results62, go_sem, HV0.out]) rfl ?_
                refine hK.out _ _ ⟨(by rw [HG2.out]; rfl), _, by first | rfl | exact World.drewN_drewN _ _ _⟩
              · have hb0 : ((v : Int) == 0) = false := by simp; omega
                rw [if_neg (fun z => hv0 z.1)] at hgood
                by_cases h12 : 12 < v
                · have hgi : (12 : Int) < v := by omega
                  rw [if_pos h12] at hgood
                  have HG2 := hid hgood
                  clear hgood hv0 h12
                  go_wp2_with fail
                  refine bodyPost_ret (v := .tuple #[.int .i64 0, .bool false, .int .i64 4, .int .i64 (a : Nat)]) (by simp [results, Tryz.results62, go_sem, HI0.out]) rfl ?_
                  refine hK.out _ _ ⟨(by rw [HG2.out]; rfl), _, by first | rfl | exact World.drewN_drewN _ _ _⟩
                · have hgi : ¬ (12 : Int) < v := by omega
                  rw [if_neg h12] at hgood
                  have HG2 := hid hgood
                  clear hgood hv0 h12
                  go_wp2_with fail
                  refine bodyPost_ret (v := .tuple #[.int .i64 (v : Nat), .bool false, .int .i64 0, .int .i64 0]) (by simp [results, Tryz.results62, go_sem, HI0.out]) rfl ?_
                  refine hK.out _ _ ⟨(by rw [HG2.out]; rfl), _, by first | rfl | exact World.drewN_drewN _ _ _⟩
end Go.Proofs.Qxb6500354aGreat
