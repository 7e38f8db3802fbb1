/- The walks over towerlaw: Live, Handed. -/
import Derived.Test.Qxb6500354aGreatLv
namespace Go.Proofs.Qxb6500354aGreat
open Go.RowKit
set_option linter.unusedVariables false
set_option linter.unusedSimpArgs false

def ptrV (b : Nat) : Value := .pointer (some ⟨b, 0, none⟩)
/-- A tower: its object. -/
def TowAt (w : World) (tb : Nat) (E : Eb) (q k : Nat) : Prop := CellsAt w tb [ptrV E.p, ptrV E.t, ptrV E.w, ptrV E.l, ptrV E.s, ptrV q, ptrV k]
theorem TowAt.fr {w w2 : World} {tb : Nat} {E : Eb} {q k : Nat} {D : List Nat} (h : TowAt w tb E q k) (hf : Fr D w w2) (hn : tb ∉ D) : TowAt w2 tb E q k := CellsAt.fr h hf hn (by simp)
theorem liveL_ids (W : WatchS) : liveL W = (idsI W.used 52).map fun x => normC (W.cl x.toNat) := by
  unfold liveL
  have : ∀ n, (List.range n).filterMap (fun i => if W.used.testBit i = true then some (normC (W.cl i)) else none) = (idsI W.used n).map fun x => normC (W.cl x.toNat) := by
    intro n
    induction n with
    | zero => simp [idsI]
    | succ n ih =>
      rw [List.range_succ, List.filterMap_append, ih, idsI_succ, List.map_append]
      by_cases h : W.used.testBit n = true
      · simp [h]
      · simp [h]
  exact this 52
theorem idsI_mem {used : Nat} {x : Int} (h : x ∈ idsI used 52) : ∃ i : Nat, x = i ∧ i < 52 ∧ used.testBit i = true := by
  unfold idsI at h
  obtain ⟨i, hi, rfl⟩ := List.mem_map.1 h
  rw [List.mem_filter] at hi
  exact ⟨i, rfl, List.mem_range.1 hi.1, hi.2⟩
theorem clause_live {W : WatchS} {i : Nat} (h : i < 52) (hu : W.used.testBit i = true) : W.clause? (i : Int) = some (normC (W.cl i)) := by
  unfold WatchS.clause? WatchS.live
  rw [if_pos (by simp [hu]; omega)]; rfl
theorem clause_dead {W : WatchS} {i : Nat} (hu : W.used.testBit i = false) : W.clause? (i : Int) = none := by
  unfold WatchS.clause? WatchS.live
  rw [if_neg (by simp [hu])]
theorem clauseSome_any {w : World} {b tb : Nat} {W : WatchS} (h : WatAt w b tb W) (x : Int) {c : List Int} (hc : W.clause? x = some c) :
    Calls Tryz.prog 58 #[.pointer (some ⟨b, 0, none⟩), .int .i64 x] w fun e w' => ∃ v, e = .returned (.tuple #[v, .int .i64 (0 : Nat)]) ∧ OwnI w' w.heap.size v c ∧ Fr [] w w' := by
  have := clause_any h x
  rw [hc] at this; exact this
theorem clauseNone_any {w : World} {b tb : Nat} {W : WatchS} (h : WatAt w b tb W) (x : Int) (hc : W.clause? x = none) :
    Calls Tryz.prog 58 #[.pointer (some ⟨b, 0, none⟩), .int .i64 x] w fun e w' => e = .returned (.tuple #[.slice none 0 0, .int .i64 (13 : Nat)]) ∧ w' = w := by
  have := clause_any h x
  rw [hc] at this; exact this
theorem map_take_snoc {l : List Int} {k : Nat} (h : k < l.length) (f : Int → List Int) : (l.take (k + 1)).map f = (l.take k).map f ++ [f (l.getD k 0)] := by
  rw [take_snocI h, List.map_append]; rfl
set_option maxRecDepth 100000 in
set_option maxHeartbeats 8000000 in
theorem towLive_any {w : World} {tb : Nat} {E : Eb} {q k : Nat} {W : WatchS} (ht : TowAt w tb E q k) (hw : WatAt w E.w E.t W) :
    Calls Tryz.prog 37 #[.pointer (some ⟨tb, 0, none⟩)] w fun e w' => ∃ v, e = .returned v ∧ OwnM w' w.heap.size v (liveL W) [] ∧ Fr [] w w' := by
  rw [liveL_ids]
  have HW := hid hw
  have HT := hid ht
  have hc2 := ht.c 2 _ rfl
  unfold ptrV at hc2
  have HIDS := hid (ids_any hw)
  have hmem := fun x (hx : x ∈ idsI W.used 52) => idsI_mem hx
  have hlen := idsI_len W.used 52
  obtain ⟨l, hl⟩ : ∃ z, idsI W.used 52 = z := ⟨_, rfl⟩
  rw [hl] at HIDS hmem hlen ⊢
  have HMEM := hid hmem
  have HLEN := hid hlen
  obtain ⟨N, hN⟩ : ∃ z, w.heap.size = z := ⟨_, rfl⟩
  rw [hN]
  have HN := hid hN
  clear hw ht hmem hlen hl hN
  refine calls_via fun K hK => ?_
  go_enter Tryz.func37, Tryz.ntmps37
  go_wp2_with fail
  refine HIDS.out.mono ?_
  rintro e w1 ⟨iv, rfl, hoi, hf1⟩
  obtain ⟨ia, ic, rfl⟩ := hoi.ints.len
  obtain ⟨n, hn⟩ : ∃ z, l.length = z := ⟨_, rfl⟩
  rw [hn] at hoi ⊢
  have hni : (n : Int) ≤ 52 := by have := HLEN.out; omega
  have HOI := hid hoi
  have HF1 := hid hf1
  have HNL := hid hn
  obtain ⟨M, hM⟩ : ∃ z, w1.heap.size = z := ⟨_, rfl⟩
  have HM := hid hM
  clear hoi hf1 hn hM
  go_wp2_with fail
  go_loopg [4, 5] n (fun g ov i wr => g ≤ n ∧ i = .int .i64 ((n - g : Nat) : Int) ∧ OwnM wr M ov ((l.take (n - g)).map fun x => normC (W.cl x.toNat)) [] ∧ Fr [] w1 wr)
  case atStart => exact ⟨by omega, by simp, by simp; exact OwnM.nil _ _ _, Fr.refl _ _⟩
  case round =>
    obtain ⟨hg, rfl, hom, hf⟩ := hrel
    obtain ⟨ov, hov⟩ : ∃ x, u4 = x := ⟨_, rfl⟩
    rw [hov] at hom ⊢
    clear hov
    have HOM := hid hom
    have HF := hid hf
    have HG := hid hg
    by_cases hlt : 0 < gk
    · obtain ⟨k, hk⟩ : ∃ k, n - gk = k := ⟨_, rfl⟩
      rw [hk] at HOM ⊢
      have hkn : k < n := by omega
      have hkn2 : (k : Int) < n := by omega
      obtain ⟨g1, o1, rfl, hc1⟩ := (HOI.out.ints.fr hf (by simp)).at HNL.out hkn
      have hts := map_take_snoc (l := l) (k := k) (by rw [HNL.out]; exact hkn) (fun x => normC (W.cl x.toNat))
      obtain ⟨i0, hxi, hi52, hub⟩ := HMEM.out _ (getD_mem (c := l) (i := k) (by rw [HNL.out]; exact hkn))
      have hcw := (HF1.out.trans hf).cell hc2 (by simp)
      have HCL := hid (fun (wx : World) (hx : Fr [] wr wx) => clauseSome_any ((HW.out.fr ((HF1.out.trans HF.out).trans hx) (by simp))) (l.getD k 0) (by rw [hxi]; exact clause_live hi52 hub))
      have hnt : normC (W.cl (l.getD k 0).toNat) = normC (W.cl i0) := by rw [hxi]; rfl
      rw [hnt] at hts
      have hml : ((l.take k).map fun x => normC (W.cl x.toNat)).length ≤ 52 := by rw [List.length_map, List.length_take]; have := HLEN.out; have := HNL.out; omega
      generalize l.getD k 0 = x at *
      have HTS := hid hts
      have HK0 := hid hk
      have HLT := hid hlt
      have HML := hid hml
      clear hom hf hg hk hlt hts hxi hub hnt hml hi52
      go_wp2_with fail
      go_region_with (go_at_call 58; refine (HCL.out _ (by first | exact Fr.refl _ _ | exact (Fr.refl _ _).drew | exact Fr.of_drewN _)).mono ?_; rintro e w2 ⟨cv, rfl, hoc, hf2⟩)
      all_goals
        obtain ⟨b2, m3, c3, rfl⟩ := hoc.sl
        have HF2 : Hid (Fr [] wr w2) := hid (((Fr.refl [] wr).drew).trans hf2)
        have HOC := hid hoc
        have HOM2 := hid (HOM.out.fr HF2.out (by simp))
        have ca2 : (w2.alloc (Obj.cells #[.slice b2 m3 c3] 52)).cell? ⟨w2.heap.size, 0, none⟩ = some (.slice b2 m3 c3) := (World.cell?_alloc_new _ _ _ 0).trans rfl
        have HA2 := hid ca2
        clear hoc hf2 ca2
        go_wp2_with (at_builtin; refine wp_appM rfl _ _ rfl M ov _ rfl (HOM2.out.fr ((Fr.refl [] w2).alloc _) (by simp)) (by simp) w2.heap.size 1 (.slice b2 m3 c3) (normC (W.cl i0)) rfl HA2.out rfl (HOC.out.ints.fr ((Fr.refl [] w2).alloc _) (by simp)) (fun g hg => ⟨fun e => (by have h1 := HOC.out.base g hg; have h2 := OwnM.lt HOM.out g e; have : wr.heap.size ≤ wr.drew.heap.size := ((Fr.refl [] wr).drew).size; omega), (by have := HOC.out.lt g hg; simp; omega)⟩) (by simp) (by have := HML.out; omega) (by have := HM.out; have := HF.out.size; have := HF2.out.size; simp; omega) ?_; intro v' w3 ho3 hg3 ha3; have HO3 := hid ho3; have HF3 := hid (fr_appM _ hg3); clear ho3 hg3 ha3)
        go_roundg (gk - 1)
        case measure => have := HLT.out; omega
        case rel =>
          have hk := HK0.out
          have hg := HG.out
          have hlt := HLT.out
          have e1 : n - (gk - 1) = k + 1 := by omega
          refine ⟨by omega, by rw [e1]; simp, by rw [e1, HTS.out]; exact HO3.out, (HF.out.trans HF2.out).trans2 HF3.out (fun y hy hlt2 => ?_)⟩
          have h1 := HOM.out.ge y (mem_blk.1 hy)
          have := HM.out; omega
    · have hg0 : gk = 0 := by omega
      subst hg0
      rw [Nat.sub_zero, List.take_of_length_le (by rw [HNL.out]; exact Nat.le_refl _)] at HOM
      clear hom hf hg hlt
      go_wp2_with fail
      exact hK.out _ _ ⟨_, rfl, HOM.out.down (by have := HN.out; have := HM.out; have := HF1.out.size; omega), HF1.out.trans HF.out⟩

set_option maxRecDepth 100000 in
set_option maxHeartbeats 8000000 in
theorem handed_any {w : World} {tb : Nat} {E : Eb} {q k : Nat} {W : WatchS} {T : TrailS} {pv mv : Value} {us1 : List Value} {ps : List (List Int)} {a : AnsS} (ht : TowAt w tb E q k) (hw : WatAt w E.w E.t W) (htr : TrlAt w E.t T) (hp : MatB w pv us1 ps)
    (hps : ps.length ≤ 40 ∧ ∀ c ∈ ps, checkClause c = 0) (hpr : PR ps W) (hm : Ints w mv a.model) (hml : a.model.length ≤ 12) (hv : ∀ x ∈ a.model, T.value x = 1) :
    Calls Tryz.prog 30 #[.pointer (some ⟨tb, 0, none⟩), pv, ansV a mv] w fun e w' => e = .returned (.bool true) ∧ Fr [] w w' := by
  obtain ⟨err, pos, sat, model, proof, conf, rest⟩ := a
  simp only [] at hm hml hv
  unfold ansV
  simp only []
  obtain ⟨pf, hpf⟩ : ∃ z, strN proof = z := ⟨_, rfl⟩
  rw [hpf]
  clear hpf
  obtain ⟨pa, pc, rfl⟩ := hp.len
  obtain ⟨ma, mc, rfl⟩ := hm.len
  obtain ⟨n, hn⟩ : ∃ z, ps.length = z := ⟨_, rfl⟩
  obtain ⟨mn, hmn⟩ : ∃ z, model.length = z := ⟨_, rfl⟩
  have hn40 : n ≤ 40 := by rw [← hn]; exact hps.1
  rw [hn] at hp ⊢
  rw [hmn] at hm hml ⊢
  have hni : (n : Int) ≤ 40 := by omega
  have hmi : (mn : Int) ≤ 12 := by omega
  obtain ⟨N, hN⟩ : ∃ N, w.heap.size = N := ⟨_, rfl⟩
  have hC := CellsAt.mk_alloc w [.int .i64 (err : Nat), .int .i64 (pos : Nat), .bool sat, .slice ma mn mc, .string pf, .int .i64 (conf : Nat), .int .i64 (rest : Nat)] 74
  obtain ⟨w0, hw0⟩ : ∃ w0, w.alloc (Obj.cells #[.int .i64 (err : Nat), .int .i64 (pos : Nat), .bool sat, .slice ma mn mc, .string pf, .int .i64 (conf : Nat), .int .i64 (rest : Nat)] 74) = w0 := ⟨_, rfl⟩
  change CellsAt (w.alloc (Obj.cells #[.int .i64 (err : Nat), .int .i64 (pos : Nat), .bool sat, .slice ma mn mc, .string pf, .int .i64 (conf : Nat), .int .i64 (rest : Nat)] 74)) w.heap.size _ at hC
  rw [hw0, hN] at hC
  have hf0 : Fr [] w w0 := by rw [← hw0]; exact (Fr.refl _ _).alloc _
  have HC := hid hC
  have HF0 := hid hf0
  have HT := hid (ht.fr hf0 (by simp))
  have HW := hid (hw.fr hf0 (by simp))
  have HTR := hid (htr.fr hf0 (by simp))
  have HP := hid (hp.fr0 hf0)
  have HM := hid (hm.fr hf0 (by simp))
  have HNL := hid hn
  have HMN := hid hmn
  have HPR := hid hpr
  have HV := hid hv
  have HPS := hid hps
  have HN40 := hid hn40
  clear hC hf0 ht hw htr hp hm hn hmn hpr hv hps hml hn40
  refine calls_via fun K hK => ?_
  go_enter Tryz.func30, Tryz.ntmps30
  go_wp2_with fail
  clear hw0
  go_loopg [7] n (fun g i wr => g ≤ n ∧ i = .int .i64 ((n - g : Nat) : Int) ∧ Fr [] w0 wr)
  case atStart => exact ⟨by omega, by simp, Fr.refl _ _⟩
  case round =>
    obtain ⟨hg, rfl, hf⟩ := hrel
    have HF := hid hf
    have HG := hid hg
    have htc := (HT.out.fr hf (by simp)).c 2 _ rfl
    unfold ptrV at htc
    by_cases hlt : 0 < gk
    · obtain ⟨k1, hk⟩ : ∃ k, n - gk = k := ⟨_, rfl⟩
      rw [hk]
      have hkn : k1 < n := by omega
      have hkn2 : (k1 : Int) < n := by omega
      have hk40 : k1 < 40 := by have := HN40.out; omega
      obtain ⟨p1, p2⟩ := HPR.out k1 hk40
      have hub : W.used.testBit k1 = true := by rw [p1, HNL.out]; simpa using hkn
      have hcl := clause_live (by omega) hub
      rw [p2 (by rw [HNL.out]; exact hkn)] at hcl
      have HCL := hid (clauseSome_any (HW.out.fr hf (by simp)) (k1 : Int) hcl)
      obtain ⟨g1, o1, b1, m1, c1, rfl, q1, q2, q3⟩ := (HP.out.fr0 hf).at HNL.out hkn
      have hyl := (checkClause_facts (HPS.out.2 _ (getDL_mem (cs := ps) (k := k1) (by rw [HNL.out]; exact hkn)))).1
      generalize ps.getD k1 [] = y at *
      have HQ2 := hid q2
      have HYL := hid hyl
      have HK0 := hid hk
      have HLT := hid hlt
      clear p1 p2 hub hcl q2 q3 hyl hk hlt hf hg hkn
      go_wp2_with fail
      refine HCL.out.mono ?_
      rintro e w2 ⟨cv, rfl, hoc, hf2⟩
      have HF2 := hid hf2
      have HSI := hid (sameInts_any hoc.ints (HQ2.out.fr hf2 (by simp)) (by have := HYL.out; omega))
      rw [decide_eq_true rfl] at HSI
      have q12 := hf2.cell q1 (by simp)
      rw [show ((0 : Nat) : Int) = 0 from rfl]
      clear hoc hf2
      go_wp2_with fail
      refine HSI.out.mono ?_
      rintro e w3 ⟨rfl, n3, hn3⟩
      have HF3 : Hid (Fr [] w2 w3) := hid (by rw [hn3]; exact Fr.of_drewN [])
      clear hn3
      go_wp2_with fail
      go_roundg (gk - 1)
      case measure => have := HLT.out; omega
      case rel =>
        have hk := HK0.out
        have hg := HG.out
        have hlt := HLT.out
        have e1 : n - (gk - 1) = k1 + 1 := by omega
        exact ⟨by omega, by rw [e1]; simp, (HF.out.trans HF2.out).trans HF3.out⟩
    · have hg0 : gk = 0 := by omega
      subst hg0
      clear hlt hg hf htc
      rw [Nat.sub_zero]
      obtain ⟨wo, hwo⟩ : ∃ z, z = wr := ⟨_, rfl⟩
      subst hwo
      go_wp2_with fail
      go_loopg [10] (40 - n) (fun g i wr => g ≤ 40 - n ∧ i = .int .i64 ((40 - g : Nat) : Int) ∧ Fr [] w0 wr)
      case atStart => exact ⟨by omega, by congr 1; have := HN40.out; omega, HF.out⟩
      case round =>
        obtain ⟨hg, rfl, hf⟩ := hrel
        have HF5 := hid hf
        have HG5 := hid hg
        have htc := (HT.out.fr hf (by simp)).c 2 _ rfl
        unfold ptrV at htc
        by_cases hlt : 0 < gk
        · obtain ⟨k1, hk⟩ : ∃ k, 40 - gk = k := ⟨_, rfl⟩
          rw [hk]
          have hkn : k1 < 40 := by omega
          have hkn2 : (k1 : Int) < 40 := by omega
          have hnk : ¬ k1 < n := by have := HN40.out; omega
          obtain ⟨p1, p2⟩ := HPR.out k1 hkn
          have hub : W.used.testBit k1 = false := by rw [p1, HNL.out]; simpa using hnk
          have HCL := hid (clauseNone_any (HW.out.fr hf (by simp)) (k1 : Int) (clause_dead hub))
          have HK0 := hid hk
          have HLT := hid hlt
          clear p1 p2 hub hk hlt hf hg hnk
          go_wp2_with fail
          refine HCL.out.mono ?_
          rintro e w2 ⟨rfl, hw2⟩
          have hw3 := hw2.symm
          subst hw3
          rw [show ((13 : Nat) : Int) = 13 from rfl]
          clear hw2
          go_wp2_with fail
          go_roundg (gk - 1)
          case measure => have := HLT.out; omega
          case rel =>
            have hk := HK0.out
            have hg := HG5.out
            have hlt := HLT.out
            have e1 : 40 - (gk - 1) = k1 + 1 := by omega
            exact ⟨by omega, by rw [e1]; simp, HF5.out⟩
        · have hg0 : gk = 0 := by omega
          subst hg0
          clear hlt hg hf htc
          have hcw := HC.out.fr HF5.out (by simp) (by simp)
          have j3 := hcw.c 3 _ rfl
          clear hcw
          obtain ⟨wp, hwp⟩ : ∃ z, z = wr := ⟨_, rfl⟩
          subst hwp
          go_wp2_with fail
          go_loopg [13] mn (fun g i wr => g ≤ mn ∧ i = .int .i64 ((mn - g : Nat) : Int) ∧ Fr [] w0 wr)
          case atStart => exact ⟨by omega, by simp, HF5.out⟩
          case round =>
            obtain ⟨hg, rfl, hf⟩ := hrel
            have HF6 := hid hf
            have HG6 := hid hg
            have htc := (HT.out.fr hf (by simp)).c 1 _ rfl
            unfold ptrV at htc
            have j3b := (HC.out.fr hf (by simp) (by simp)).c 3 _ rfl
            by_cases hlt : 0 < gk
            · obtain ⟨k1, hk⟩ : ∃ k, mn - gk = k := ⟨_, rfl⟩
              rw [hk]
              have hkn : k1 < mn := by omega
              have hkn2 : (k1 : Int) < mn := by omega
              obtain ⟨g1, o1, rfl, hc1⟩ := (HM.out.fr hf (by simp)).at HMN.out hkn
              have hvx := HV.out _ (getD_mem (c := model) (i := k1) (by rw [HMN.out]; exact hkn))
              have HVA := hid (fun (wx : World) (hx : Fr [] wr wx) => value_any ((HTR.out.fr hf (by simp)).fr hx (by simp)) (model.getD k1 0))
              rw [hvx] at HVA
              generalize model.getD k1 0 = x at *
              have HK0 := hid hk
              have HLT := hid hlt
              clear hk hlt hf hg hvx hkn
              go_wp2_with fail
              go_quiet ((go_at_call 59; exact (HVA.out _ (by first | exact Fr.refl _ _ | exact (Fr.refl _ _).drew | exact Fr.of_drewN _)).mono fun _ _ h => ⟨h.1, _, h.2⟩))
              go_wp2_with fail
              go_roundg (gk - 1)
              case measure => have := HLT.out; omega
              case rel =>
                have hk := HK0.out
                have hg := HG6.out
                have hlt := HLT.out
                have e1 : mn - (gk - 1) = k1 + 1 := by omega
                exact ⟨by omega, by rw [e1]; simp, HF6.out.drewN⟩
            · have hg0 : gk = 0 := by omega
              subst hg0
              clear hlt hg hf htc
              rw [Nat.sub_zero]
              go_wp2_with fail
              exact hK.out _ _ ⟨rfl, HF0.out.trans HF6.out⟩
end Go.Proofs.Qxb6500354aGreat
