/- The tree of the real coder, walked: the function. -/
import Derived.Test.Qxb6500353aGreatTrw
import Derived.Deep.DeepCutAuto
import Derived.Deep.Cut
namespace Go.Proofs.Qxb6500353aGreat
open Go.RowKit
set_option linter.unusedVariables false
set_option linter.unusedSimpArgs false

set_option maxRecDepth 100000 in
set_option maxHeartbeats 4000000 in
theorem tree_any {w : World} {b : Nat} {R : CdR} (h : CdAt w b R) {cg co n ccap og : Nat} {c : Nat → Nat} (hc : Cel mkN w cg co n c) (ho : Arr 3 mkN w og n (fun _ => 0)) (hcd : ¬ TrS b og cg) (hod : ¬ Rng b (b + 11) og)
    (hn : n ≤ 265) (hB : sumTo c n ≤ 1000000) (hu : 2 ≤ usedN c n) :
    Calls Tryz.prog 150 #[ptrV b, .slice (some ⟨cg, co, none⟩) n ccap, .slice (some ⟨og, 0, none⟩) n n] w fun e w' => ∃ (d : Nat) (R' : CdR), e = .returned (.int .i64 (d : Nat)) ∧ CdAt w' b R' ∧ Kept R R' ∧ Arr 3 mkN w' og n (treeF c n) ∧
      (∀ i, i < n → treeF c n i ≤ d) ∧ (d = 0 ∨ ∃ i, i < n ∧ treeF c n i = d) ∧ Fr (TrS b og) w w' := by
  have cf : ∀ i, w.frozen? ⟨b, i, none⟩ = false := h.fz
  have c0 := h.c_fill
  have hbg : ∀ k, b ≤ k → k < b + 11 → TrS b og k := fun k h1 h2 => .inl ⟨h1, h2⟩
  have hmb : Rng b (b + 11) b := ⟨by omega, by omega⟩
  have hm5 : Rng b (b + 11) (b + 5) := ⟨by omega, by omega⟩
  have hm6 : Rng b (b + 11) (b + 6) := ⟨by omega, by omega⟩
  have hm7 : Rng b (b + 11) (b + 7) := ⟨by omega, by omega⟩
  have hm8 : Rng b (b + 11) (b + 8) := ⟨by omega, by omega⟩
  have hm9 : Rng b (b + 11) (b + 9) := ⟨by omega, by omega⟩
  have hm9 : Rng b (b + 11) (b + 9) := ⟨by omega, by omega⟩
  have hm9 : Rng b (b + 11) (b + 9) := ⟨by omega, by omega⟩
  have hm9 : Rng b (b + 11) (b + 9) := ⟨by omega, by omega⟩
  have H0 := hid h
  have HC := hid hc
  have HO := hid ho
  have HCD := hid hcd
  have HOD := hid hod
  have HN := hid hn
  have HB := hid hB
  have HU := hid hu
  have hcd1 : ¬ Rng b (b + 11) cg := fun hh => hcd (.inl hh)
  have HCD1 := hid hcd1
  clear h hc ho hcd hod hB hu hcd1
  refine calls_via fun K hK => ?_
  unfold ptrV
  go_enter Tryz.func150, Tryz.ntmps150
  go_wp2_with fail
  go_loopg [7, 8] n (fun g mm i wr => ∃ (k m : Nat) (R1 : CdR), i = .int .i64 (k : Nat) ∧ mm = .int .i64 (m : Nat) ∧ g + k = n ∧ CdAt wr b R1 ∧ Leaves c R R1 k m ∧ Fr (Rng b (b + 11)) w wr)
  case atStart =>
    refine ⟨0, 0, { R with fill := 0 }, rfl, rfl, by omega, H0.out.set_fill 0, ⟨Grow.zero _ _, ⟨⟨fun i hi => by omega, fun x hx => by omega, fun i j hi => by omega⟩, fun j _ hj => by omega⟩, rfl, ⟨rfl, rfl, rfl, rfl, rfl, rfl⟩⟩, (Fr.refl (Rng b (b + 11)) w).setS hmb _ _⟩
  case round =>
    obtain ⟨k, m, R1, rfl, rfl, hgk, hA, hL, hf⟩ := hrel
    have hmk := hL.m_le
    have hn := HN.out
    by_cases hlt : k < n
    · have hki : (k : Int) < n := by omega
      have hki0 : (0 : Int) ≤ k := by omega
      have ck := (HC.out.fr hf HCD1.out) k hlt
      simp only [mkN] at ck
      by_cases h0 : c k = 0
      · rw [h0] at ck
        have HA := hid hA
        have HL := hid hL
        have HF := hid hf
        clear hA hL hf
        go_wp2_with fail
        go_roundg (gk - 1)
        case measure => omega
        case rel => exact ⟨k + 1, m, R1, by simp, rfl, by omega, HA.out, ⟨HL.out.grow.skip h0, HL.out.heap, HL.out.fill, HL.out.kept⟩, HF.out⟩
      · have hm265 : m < 265 := by omega
        have hmi : (m : Int) < 529 := by omega
        obtain ⟨v, hv⟩ : ∃ v, v = c k := ⟨_, rfl⟩
        rw [← hv] at ck h0
        have hv0 : (0 : Int) < v := by omega
        have p5 := hA.p_wt
        have p6 := hA.p_ht
        have p7 := hA.p_num
        have x5 := hA.a_wt.cell m (by omega)
        have x6 := hA.a_ht.cell m (by omega)
        have x7 := hA.a_num.cell m (by omega)
        have z5 : ∀ i, wr.frozen? ⟨b + 5, i, none⟩ = false := hA.a_wt.thaw
        have z6 : ∀ i, wr.frozen? ⟨b + 6, i, none⟩ = false := hA.a_ht.thaw
        have z7 : ∀ i, wr.frozen? ⟨b + 7, i, none⟩ = false := hA.a_num.thaw
        simp only [mkN] at x5 x6 x7
        have HA := hid hA
        have HL := hid hL
        have HF := hid hf
        have HV := hid hv
        clear hA hL hf hv
        go_wp2_with fail
        go_region
        go_wp2_with fail
        have hL := HL.out
        obtain ⟨R4, hR4⟩ : ∃ R4 : CdR, R4 = { R1 with wt := upd R1.wt m v, ht := upd R1.ht m 0, num := upd R1.num m k } := ⟨_, rfl⟩
        have hkey : R4.key = ⟨upd R1.key.w m (c k), upd R1.key.h m 0, upd R1.key.m m k⟩ := by rw [hR4, ← HV.out]; rfl
        have hheap : Heap R4.key R4.heap R4.fill (fun x => x < m) := by
          have e1 : R4.heap = R1.heap := by rw [hR4]
          have e2 : R4.fill = m := by rw [hR4]; exact hL.fill
          rw [e1, e2]
          refine hL.heap.congr (fun x hx => ?_) (fun x => Iff.rfl)
          have hx2 : x < m := hx
          rw [hkey]
          exact ⟨upd_ne _ _ _ _ (by omega), upd_ne _ _ _ _ (by omega), upd_ne _ _ _ _ (by omega)⟩
        have hf4 : R4.fill = m := by rw [hR4]; exact hL.fill
        refine (push_any (R := R4) (b := b) (S := fun x => x < m) ?_ hheap (fun y hy => by have : y < m := hy; omega) m (by omega) (by show ¬ m < m; omega) (by omega)).mono ?_
        · rw [hR4]
          exact (((HA.out.set_wt m v).set_ht m 0).set_num m k).drew
        · rintro e w5 ⟨rfl, H5, hA5, hh5, hf5⟩
          have hk5 : Kept R1 { R4 with heap := H5, fill := R4.fill + 1 } := by rw [hR4]; exact ⟨rfl, rfl, rfl, rfl, rfl, rfl⟩
          have HA5 := hid hA5
          have HH5 := hid hh5
          have HF5 := hid hf5
          have HK5 := hid hk5
          have HKEY := hid hkey
          have HF4 := hid hf4
          clear hA5 hh5 hf5 hheap hk5 hkey hL hf4 hR4
          go_wp2_with fail
          go_roundg (gk - 1)
          case measure => omega
          case rel =>
            have hL := HL.out
            refine ⟨k + 1, m + 1, _, by simp, by simp, by omega, HA5.out, ⟨?_, ?_, ?_, hL.kept.trans HK5.out⟩, ?_⟩
            · have h9 := hL.grow.add (show 0 < c k by rw [← HV.out]; omega)
              rw [← HKEY.out] at h9; exact h9
            · have h9 := HH5.out
              rw [HF4.out] at h9
              exact h9.congr (fun x _ => ⟨rfl, rfl, rfl⟩) (fun x => by constructor <;> intro q <;> omega)
            · show R4.fill + 1 = m + 1
              rw [HF4.out]
            · have h9 := (((HF.out.setS hm5 m (.int .i64 (v : Nat))).setS hm6 m (.int .i64 ((0 : Nat) : Int))).setS hm7 m (.int .i64 (k : Nat))).drew
              exact h9.trans HF5.out
    · have hki : ¬ (k : Int) < n := by omega
      have hkn : k = n := by omega
      subst hkn
      have hL := hL
      have hlv : m = usedN c k := hL.grow.cnt
      have HA := hid hA
      have HL := hid hL
      have HF := hid hf
      have HLV := hid hlv
      clear hA hL hf hlv
      obtain ⟨lv, hlvm⟩ : ∃ lv, lv = m := ⟨_, rfl⟩
      have hlv2 : 2 ≤ lv := by have := HU.out; have := HLV.out; omega
      have hlvk : lv ≤ k := by omega
      go_wp2_with fail
      go_loopg [7] (2 * lv) (fun g mm wr2 => ∃ (m : Nat) (R2 : CdR) (s : Gp) (S : Nat → Prop), mm = .int .i64 (m : Nat) ∧ 2 * lv ≤ g + m ∧ CdAt wr2 b R2 ∧ Joins c k lv R R2 m s S ∧ Fr (Rng b (b + 11)) w wr2)
      case atStart =>
        refine ⟨m, R1, Gp.start c, fun x => x < m, rfl, by omega, HA.out, ?_, HF.out⟩
        rw [hlvm]; exact HL.out.joins (by omega)
      case round =>
        obtain ⟨m2, R2, s, S, rfl, hgm, hA2, hJ, hf2⟩ := hrel
        have hcnt := hJ.cnt
        have hpos := hJ.pos
        have hmle := hJ.tre.le
        have cfl := hA2.c_fill
        obtain ⟨fl, hfl⟩ : ∃ fl, fl = R2.fill := ⟨_, rfl⟩
        rw [← hfl] at cfl hcnt hpos
        by_cases h1 : 1 < fl
        · have h1i : (1 : Int) < fl := by omega
          obtain ⟨f2, hf2e⟩ : ∃ f2, fl = f2 + 2 := ⟨fl - 2, by omega⟩
          have hS529 : ∀ y, S y → y < 529 := fun y hy => by have := hJ.bounds hy; omega
          have HP1 := hid (pop_all hA2 (n := f2 + 1) (by omega) hJ.heap hS529 (by omega))
          have HA2 := hid hA2
          have HJ := hid hJ
          have HF2 := hid hf2
          have HFL := hid hfl
          have HS := hid hS529
          unfold ptrV at HP1
          clear hA2 hJ hf2 hfl hS529
          go_wp2_with fail
          refine HP1.out.mono ?_
          rintro e w3 ⟨rfl, H3, hA3, hh3, hf3⟩
          have HP2 := hid (pop_all hA3 (n := f2) rfl hh3 (fun y hy => HS.out y hy.1) (by show f2 + 1 ≤ 265; omega))
          have hJ := HJ.out
          obtain ⟨a, ha⟩ : ∃ a, a = R2.heap 0 := ⟨_, rfl⟩
          obtain ⟨bb, hbb⟩ : ∃ a, a = H3 0 := ⟨_, rfl⟩
          have hfl2 := HFL.out
          have hSa : S a := by rw [ha]; exact hJ.heap.mem 0 (by omega)
          have hSb : S bb ∧ bb ≠ a := by have := hh3.mem 0 (by omega); rw [← hbb, ← ha] at this; exact this
          have hla : ∀ x, S x → ¬ R2.key.less x a := by rw [ha]; exact hJ.heap.least
          have hlb : ∀ x, S x → x ≠ a → ¬ R2.key.less x bb := fun x hx hne => by
            rw [hbb]; exact hh3.least x ⟨hx, by rw [← ha]; exact hne⟩
          have hba := hJ.bounds hSa
          have hbbb := hJ.bounds hSb.1
          have hsum := hJ.two hSa hSb.1 (fun e => hSb.2 e.symm)
          have hBB := HB.out
          have hNN := HN.out
          have hP2e : ({ R2 with heap := H3, fill := f2 + 1 } : CdR).heap 0 = bb := hbb.symm
          rw [hP2e] at HP2
          have HA3 := hid hA3
          have HF3 := hid hf3
          unfold ptrV at HP2
          have HX := hid (And.intro hSa (And.intro hSb (And.intro hla hlb)))
          have HY := hid (And.intro hba (And.intro hbbb hsum))
          have hm2 : m2 < 529 := by omega
          have hab1 : ¬ a = bb := fun e => hSb.2 e.symm
          have hab2 : ¬ bb = a := hSb.2
          have HAA := hid ha.symm
          rw [← ha]
          clear hA3 hf3 hh3 hJ hSa hSb hla hlb hba hbbb hsum hBB hNN hP2e hfl2 ha hbb
          go_wp2_with fail
          refine HP2.out.mono ?_
          rintro e w4 ⟨rfl, H4, hA4, hh4, hf4⟩
          have hY := HY.out
          have hBB := HB.out
          have hNN := HN.out
          have ham : a < 529 := by omega
          have hbm : bb < 529 := by omega
          have hmi : (m2 : Int) < 529 := by omega
          have hai : (a : Int) < 529 := by omega
          have hbi : (bb : Int) < 529 := by omega
          have p5 := hA4.p_wt
          have p6 := hA4.p_ht
          have p7 := hA4.p_num
          have p8 := hA4.p_par
          have x5 := hA4.a_wt.cell m2 hm2
          have x6 := hA4.a_ht.cell m2 hm2
          have x7 := hA4.a_num.cell m2 hm2
          have y5 := hA4.a_wt.cell a ham
          have y6 := hA4.a_ht.cell a ham
          have y7 := hA4.a_num.cell a ham
          have y8 := hA4.a_par.cell a ham
          have v5 := hA4.a_wt.cell bb hbm
          have v6 := hA4.a_ht.cell bb hbm
          have v8 := hA4.a_par.cell bb hbm
          have z5 : ∀ i, w4.frozen? ⟨b + 5, i, none⟩ = false := hA4.a_wt.thaw
          have z6 : ∀ i, w4.frozen? ⟨b + 6, i, none⟩ = false := hA4.a_ht.thaw
          have z7 : ∀ i, w4.frozen? ⟨b + 7, i, none⟩ = false := hA4.a_num.thaw
          have z8 : ∀ i, w4.frozen? ⟨b + 8, i, none⟩ = false := hA4.a_par.thaw
          simp only [mkN] at x5 x6 x7 y5 y6 y7 y8 v5 v6 v8
          obtain ⟨wa, hwa⟩ : ∃ q, q = R2.wt a := ⟨_, rfl⟩
          obtain ⟨wb, hwb⟩ : ∃ q, q = R2.wt bb := ⟨_, rfl⟩
          obtain ⟨ja, hja⟩ : ∃ q, q = R2.ht a := ⟨_, rfl⟩
          obtain ⟨jb, hjb⟩ : ∃ q, q = R2.ht bb := ⟨_, rfl⟩
          obtain ⟨na, hna⟩ : ∃ q, q = R2.num a := ⟨_, rfl⟩
          rw [← hwa] at y5
          rw [← hwb] at v5
          rw [← hja] at y6
          rw [← hjb] at v6
          rw [← hna] at y7
          have bwa : (wa : Int) ≤ 1000000 := by omega
          have bwb : (wb : Int) ≤ 1000000 := by omega
          have bja : (ja : Int) ≤ 265 := by omega
          have bjb : (jb : Int) ≤ 265 := by omega
          have HA4 := hid hA4
          have HF4 := hid hf4
          have HH4 := hid hh4
          have HE := hid (And.intro hwa (And.intro hwb (And.intro hja (And.intro hjb hna))))
          have hma : ¬ m2 = a := by omega
          have hmb2 : ¬ m2 = bb := by omega
          clear hA4 hf4 hh4 hwa hwb hja hjb hna hY hBB hNN
          go_wp2_with fail
          go_region
          go_upto_region 17 with fail
          go_cut [] (fun wx => CdAt wx b { R2 with heap := H4, fill := f2, wt := upd R2.wt m2 (wa + wb), ht := upd R2.ht m2 (ja + 1) } ∧ Fr (Rng b (b + 11)) w3 wx)
          case first =>
            go_region
            go_wp2_with fail
            go_meet
            have h9 := ((HA4.out.set_wt m2 (wa + wb)).set_ht m2 (ja + 1)).drew.drew
            have h8 := ((HF4.out.setS hm5 m2 (.int .i64 ((wa + wb : Nat) : Int))).setS hm6 m2 (.int .i64 ((ja + 1 : Nat) : Int))).drew.drew
            simp only [Int.natCast_add] at h9 h8
            exact ⟨h9, h8⟩
          case rest =>
            obtain ⟨hA5, hf5⟩ := hcut
            obtain ⟨w5, rfl⟩ : ∃ w5, w5 = wc := ⟨_, rfl⟩
            have p6 := hA5.p_ht
            have x6 := hA5.a_ht.cell m2 hm2
            have v6 := hA5.a_ht.cell bb hbm
            have y6 := hA5.a_ht.cell a ham
            have z6 : ∀ i, w5.frozen? ⟨b + 6, i, none⟩ = false := hA5.a_ht.thaw
            simp only [mkN] at x6 v6 y6
            rw [upd_self] at x6
            rw [upd_ne _ _ _ _ (fun e => hma e.symm), ← HE.out.2.2.1] at y6
            rw [upd_ne _ _ _ _ (fun e => hmb2 e.symm), ← HE.out.2.2.2.1] at v6
            rw [Int.natCast_add] at x6
            have HA5 := hid hA5
            have HF5 := hid hf5
            clear hA5 hf5 p5 p7 p8 x5 x7 y5 y7 y8 v5 v8 z5 z7 z8
            rw [show ((ja : Int) + ((1 : Nat) : Int)) = (ja : Int) + 1 from rfl] at x6
            go_upto_if 115 with (go_quiet (fail))
            go_cut [] (fun wx => CdAt wx b { R2 with heap := H4, fill := f2, wt := upd R2.wt m2 (wa + wb), ht := upd R2.ht m2 (max ja jb + 1) } ∧ Fr (Rng b (b + 11)) w3 wx)
            case first =>
              by_cases hj : ja < jb
              · have hji : (ja : Int) < jb := by omega
                go_wp2_with fail
                go_region
                go_wp2_with fail
                go_meet
                have h9 := (HA5.out.set_ht m2 (jb + 1)).drewN (k := nq)
                have h8 := (HF5.out.setS hm6 m2 (.int .i64 ((jb + 1 : Nat) : Int))).drewN (n := nq)
                have e1 : upd (upd R2.ht m2 (ja + 1)) m2 (jb + 1) = upd R2.ht m2 (max ja jb + 1) := by
                  rw [Nat.max_eq_right (by omega)]; funext q; unfold upd; split <;> rfl
                simp only [Int.natCast_add] at h9 h8
                rw [e1] at h9
                first | exact ⟨h9.drew, h8.drew⟩ | exact ⟨h9, h8⟩
              · have hji : ¬ (ja : Int) < jb := by omega
                go_wp2_with fail
                go_meet
                have h9 := HA5.out.drewN (k := nq)
                rw [show ja = max ja jb by omega] at h9
                exact ⟨h9, HF5.out.drewN⟩
            case rest =>
              obtain ⟨hA6, hf6⟩ := hcut
              obtain ⟨w6, rfl⟩ : ∃ w6, w6 = wc := ⟨_, rfl⟩
              have p7 := hA6.p_num
              have p8 := hA6.p_par
              have x7 := hA6.a_num.cell m2 hm2
              have y7 := hA6.a_num.cell a ham
              have y8 := hA6.a_par.cell a ham
              have v8 := hA6.a_par.cell bb hbm
              have z7 : ∀ i, w6.frozen? ⟨b + 7, i, none⟩ = false := hA6.a_num.thaw
              have z8 : ∀ i, w6.frozen? ⟨b + 8, i, none⟩ = false := hA6.a_par.thaw
              simp only [mkN] at x7 y7 y8 v8
              rw [← HE.out.2.2.2.2] at y7
              have HA6 := hid hA6
              have HF6 := hid hf6
              clear hA6 hf6 p6 x6 v6 y6 z6
              go_upto_region 20 with fail
              go_cut [] (fun wx => CdAt wx b { R2 with heap := H4, fill := f2, wt := upd R2.wt m2 (wa + wb), ht := upd R2.ht m2 (max ja jb + 1), num := upd R2.num m2 na } ∧ Fr (Rng b (b + 11)) w3 wx)
              case first =>
                go_region
                go_wp2_with fail
                go_meet
                exact ⟨(HA6.out.set_num m2 na).drew, (HF6.out.setS hm7 m2 (.int .i64 (na : Nat))).drew⟩
              case rest =>
                obtain ⟨hA7, hf7⟩ := hcut
                obtain ⟨w7, rfl⟩ : ∃ w7, w7 = wc := ⟨_, rfl⟩
                have p8 := hA7.p_par
                have y8 := hA7.a_par.cell a ham
                have v8 := hA7.a_par.cell bb hbm
                have z8 : ∀ i, w7.frozen? ⟨b + 8, i, none⟩ = false := hA7.a_par.thaw
                simp only [mkN] at y8 v8
                have HA7 := hid hA7
                have HF7 := hid hf7
                clear hA7 hf7 p7 x7 y7 z7
                obtain ⟨R7, hR7⟩ : ∃ R7 : CdR, R7 = { R2 with heap := H4, fill := f2, wt := upd R2.wt m2 (wa + wb), ht := upd R2.ht m2 (max ja jb + 1), num := upd R2.num m2 na, par := upd (upd R2.par a m2) bb m2 } := ⟨_, rfl⟩
                have hX := HX.out
                have hlt7 : ∀ y, (S y ∧ y ≠ a) ∧ y ≠ bb → y < m2 := fun y hy => (HJ.out.bounds hy.1.1).2.2.2
                have hH7 : Heap R7.key R7.heap R7.fill (fun y => (S y ∧ y ≠ a) ∧ y ≠ bb) := by
                  have h9 := HH4.out
                  rw [HAA.out] at h9
                  rw [hR7]
                  refine h9.congr (fun x hx => ?_) (fun x => Iff.rfl)
                  have := hlt7 x hx
                  exact ⟨upd_ne _ _ _ _ (by omega), upd_ne _ _ _ _ (by omega), upd_ne _ _ _ _ (by omega)⟩
                have hf7b : R7.fill = f2 := by rw [hR7]
                have hle7 := HJ.out.tre.le
                have HPU := hid (fun (wx : World) (hx : CdAt wx b R7) => push_any hx hH7 (fun y hy => by have := hlt7 y hy; omega) m2 hm2 (fun q => by have := hlt7 m2 q; omega) (by have := HN.out; omega))
                have HR7 := hid hR7
                unfold ptrV at HPU
                clear hR7 hX hH7 hlt7 hf7b
                go_wp2_with fail
                refine (HPU.out _ ?_).mono ?_
                · rw [HR7.out]; exact (HA7.out.set_par a m2).set_par bb m2
                · rintro e w8 ⟨rfl, H8, hA8, hh8, hf8⟩
                  have HA8 := hid hA8
                  have HH8 := hid hh8
                  have HF8 := hid hf8
                  clear hA8 hh8 hf8
                  go_wp2_with fail
                  go_roundg (gk - 1)
                  case measure => omega
                  case rel =>
                    have hX := HX.out
                    have hE := HE.out
                    have hJ := HJ.out
                    have hfl2 := HFL.out
                    refine ⟨m2 + 1, _, _, _, by simp, by omega, HA8.out, hJ.turn (a := a) (b := bb) (by omega) hX.1 hX.2.1.1 (fun e => hX.2.1.2 e.symm) hX.2.2.1 hX.2.2.2 ?_ ?_ ?_ ?_ ?_ ?_ ?_, ?_⟩
                    · dsimp only; rw [HR7.out, ← hE.1, ← hE.2.1]
                    · dsimp only; rw [HR7.out, ← hE.2.2.1, ← hE.2.2.2.1]
                    · dsimp only; rw [HR7.out, ← hE.2.2.2.2]
                    · dsimp only; rw [HR7.out]
                    · dsimp only; rw [HR7.out]; dsimp only; omega
                    · rw [HR7.out]; exact ⟨rfl, rfl, rfl, rfl, rfl, rfl⟩
                    · exact HH8.out.congr (fun x _ => ⟨rfl, rfl, rfl⟩) (fun x => ⟨fun q => q.elim (fun q => .inl ⟨q.1.1, q.1.2, q.2⟩) .inr, fun q => q.elim (fun q => .inl ⟨⟨q.1, q.2.1⟩, q.2.2⟩) .inr⟩)
                    · exact (((HF2.out.trans HF3.out).trans HF7.out).setS hm8 a (.int .i64 (m2 : Nat))).setS hm8 bb (.int .i64 (m2 : Nat)) |>.trans HF8.out
        · have h1i : ¬ (1 : Int) < fl := by omega
          have hfl1 : fl = 1 := by omega
          have hm1 : m2 - 1 < 529 := by have := HN.out; omega
          have hm2 : (m2 : Int) ≤ 529 := by have := HN.out; omega
          have hmi0 : (2 : Int) ≤ m2 := by omega
          obtain ⟨q1, hq1⟩ : ∃ q, q = m2 - 1 := ⟨_, rfl⟩
          have eq1 : (m2 : Int) - 1 = (q1 : Int) := by omega
          have hq1i : (q1 : Int) < 529 := by omega
          have p10 := hA2.p_dep
          have x10 := hA2.a_dep.cell q1 (by omega)
          have z10 : ∀ i, wr.frozen? ⟨b + 9, i, none⟩ = false := hA2.a_dep.thaw
          simp only [mkN] at x10
          have HA2 := hid hA2
          have HJ := hid hJ
          have HF2 := hid hf2
          have HFL := hid (hfl.symm.trans hfl1)
          have HQ1 := hid hq1
          have HM := hid (And.intro hmle hcnt)
          clear hA2 hJ hf2 hfl hq1
          go_wp2_with fail
          go_loopg [12, 13] m2 (fun g dv xv w9 => ∃ (x deep : Nat) (R3 : CdR) (o : Nat → Nat), dv = .int .i64 (deep : Nat) ∧ xv = .int .i64 ((x : Int) - 1) ∧ x ≤ q1 ∧ x + 1 ≤ g ∧ CdAt w9 b R3 ∧ Arr 3 mkN w9 og k o ∧ Pass c k lv m2 R R3 s S x deep o ∧ Fr (TrS b og) w w9)
          case atStart =>
            have hJ := HJ.out
            have hq := HQ1.out
            have hf9 := (HF2.out.setS hm9 q1 (.int .i64 ((0 : Nat) : Int)))
            refine ⟨q1, 0, _, fun _ => 0, rfl, by rw [show (m2 : Int) - 2 = (q1 : Int) - 1 by omega], Nat.le_refl _, by omega, HA2.out.set_dep q1 0, (HO.out.fr hf9 HOD.out), ?_, TrS.up hf9⟩
            refine ⟨hJ.tre, fun x hx => ?_, ?_, ⟨hJ.kept.n, hJ.kept.lens, hJ.kept.code, hJ.kept.root, hJ.kept.sub, hJ.kept.top⟩, ?_, fun x h1 h2 => by omega, fun x h1 h2 => ?_, fun x h1 h2 => by omega, fun i _ _ => rfl, .inl rfl⟩
            · have hS1 := hJ.heap.surj x hx
              have hS2 := hJ.heap.surj _ hJ.tre.last
              rw [HFL.out] at hS1 hS2
              obtain ⟨i1, hi1, e1⟩ := hS1
              obtain ⟨i2, hi2, e2⟩ := hS2
              rw [← e1, ← e2, show i1 = i2 by omega]
            · have h9 := hJ.rest
              rw [HFL.out] at h9
              have h8 : s = plainF c k (lv - 1) (Gp.start c) := h9
              rw [h8, hlvm, HLV.out]; rfl
            · show upd R2.dep q1 0 (m2 - 1) = 0
              rw [← hq, upd_self]
            · have e9 : x = q1 := by omega
              rw [e9]
              show upd R2.dep q1 0 q1 + q1 ≤ m2 - 1
              rw [upd_self]; omega
          case round =>
            obtain ⟨x, deep, R3, o, rfl, rfl, hxq, hgx, hA3, hO3, hP, hf3⟩ := hrel
            cases x with
            | zero =>
              have hx0 : ¬ ((0 : Int) ≤ ((0 : Nat) : Int) - 1) := by omega
              have hd := hP.done (by have := HU.out; omega)
              have HD := hid (And.intro hA3 (And.intro hP.kept (And.intro (hO3.congr hd.1) (And.intro hd.2 hf3))))
              clear hA3 hO3 hP hf3 hd
              go_wp2_with fail
              exact hK.out _ _ ⟨deep, R3, rfl, HD.out.1, HD.out.2.1, HD.out.2.2.1, HD.out.2.2.2.1.1, HD.out.2.2.2.1.2, HD.out.2.2.2.2⟩
            | succ x =>
              have ex : ((x + 1 : Nat) : Int) - 1 = (x : Int) := by omega
              rw [ex]
              have hx0 : (0 : Int) ≤ (x : Int) := by omega
              have hq := HQ1.out
              have hN := HN.out
              have hMM := HM.out
              have hxm : x < m2 - 1 := by omega
              have hxS : ¬ S x := fun q => by have := hP.one x q; omega
              have hpar := hP.tre.dead x (by omega) hxS
              obtain ⟨y, hy⟩ : ∃ y, y = R3.par x := ⟨_, rfl⟩
              rw [← hy] at hpar
              obtain ⟨dv, hdv⟩ : ∃ d, d = R3.dep y := ⟨_, rfl⟩
              have hdb := hP.bound y (by omega) hpar.2
              rw [← hdv] at hdb
              obtain ⟨nx, hnx⟩ : ∃ d, d = R3.num x := ⟨_, rfl⟩
              have hx529 : (x : Int) < 529 := by omega
              have hy529 : (y : Int) < 529 := by omega
              have hdvi : (dv : Int) ≤ 529 := by omega
              have p8 := hA3.p_num
              have p9 := hA3.p_par
              have p10 := hA3.p_dep
              have x8 := hA3.a_num.cell x (by omega)
              have x9 := hA3.a_par.cell x (by omega)
              have x10 := hA3.a_dep.cell x (by omega)
              have y10 := hA3.a_dep.cell y (by omega)
              have z10 : ∀ i, wr.frozen? ⟨b + 9, i, none⟩ = false := hA3.a_dep.thaw
              have zo : ∀ i, wr.frozen? ⟨og, i, none⟩ = false := hO3.thaw
              simp only [mkN] at x8 x9 x10 y10
              rw [← hy] at x9
              rw [← hdv] at y10
              rw [← hnx] at x8
              have hstep : ∀ z, x ≤ z → z < m2 - 1 → upd R3.dep x (dv + 1) z = upd R3.dep x (dv + 1) (R3.par z) + 1 := by
                intro z h1 h2
                by_cases e : z = x
                · subst e; rw [upd_self, ← hy, upd_ne _ _ _ _ (by omega), hdv]
                · have hzS : ¬ S z := fun q => by have := hP.one z q; omega
                  have hz := hP.tre.dead z (by omega) hzS
                  rw [upd_ne _ _ _ _ e, upd_ne _ _ _ _ (by omega)]
                  exact hP.step z (by omega) h2
              have hbound : ∀ z, x ≤ z → z < m2 → upd R3.dep x (dv + 1) z + z ≤ m2 - 1 := by
                intro z h1 h2
                by_cases e : z = x
                · subst e; rw [upd_self]; omega
                · rw [upd_ne _ _ _ _ e]; exact hP.bound z (by omega) h2
              have hroot : upd R3.dep x (dv + 1) (m2 - 1) = 0 := by rw [upd_ne _ _ _ _ (by omega)]; exact hP.root
              by_cases hleaf : x < lv
              · have hnk : nx < k := by rw [hnx]; exact (hP.tre.leaf x hleaf).1
                have hnki : (nx : Int) < k := by omega
                have xo := hO3.cell nx hnk
                simp only [mkN] at xo
                have hlf : (x : Int) < m := by omega
                have hnew : ∀ D, deep ≤ D → dv + 1 ≤ D → (D = deep ∨ D = dv + 1) → (D ≠ 0) → Pass c k lv m2 R { R3 with dep := upd R3.dep x (dv + 1) } s S x D (upd o nx (dv + 1)) := by
                  intro D h1 h2 h3 h4
                  refine ⟨hP.tre, hP.one, hP.lens, ⟨hP.kept.n, hP.kept.lens, hP.kept.code, hP.kept.root, hP.kept.sub, hP.kept.top⟩, hroot, hstep, hbound, fun z h5 h6 => ?_, fun i h5 h6 => ?_, .inr ?_⟩
                  · dsimp only
                    by_cases e : z = x
                    · subst e; rw [← hnx, upd_self, upd_self]; exact ⟨rfl, h2⟩
                    · have hne : R3.num z ≠ nx := fun q => e (hP.tre.linj z x h6 hleaf (by show R3.num z = R3.num x; rw [q, hnx]))
                      rw [upd_ne _ _ _ _ hne, upd_ne _ _ _ _ e]
                      have := hP.out z (by omega) h6
                      exact ⟨this.1, by omega⟩
                  · have hne : i ≠ nx := fun q => h6 x (Nat.le_refl _) hleaf (by rw [q, hnx])
                    rw [upd_ne _ _ _ _ hne]
                    exact hP.other i h5 (fun z h7 h8 => h6 z (by omega) h8)
                  · rcases h3 with h3 | h3
                    · rcases hP.hit with h7 | ⟨z, h7, h8, h9⟩
                      · omega
                      · exact ⟨z, by omega, h8, by dsimp only; rw [upd_ne _ _ _ _ (by omega), h9, h3]⟩
                    · exact ⟨x, Nat.le_refl _, hleaf, by dsimp only; rw [upd_self, h3]⟩
                have HNEW := hid hnew
                have HA3 := hid hA3
                have HO3 := hid hO3
                have HF3 := hid hf3
                have hob : ¬ og = b + 9 := fun e => HOD.out ⟨by omega, by omega⟩
                have hob2 : ¬ b + 9 = og := fun e => hob e.symm
                have hob3 : ¬ og = b := fun e => HOD.out ⟨by omega, by omega⟩
                have hob4 : ¬ b = og := fun e => hob3 e.symm
                clear hA3 hO3 hf3 hP hstep hbound hroot hnew hy hdv hnx hq hN hMM hdb hxS hpar
                by_cases hdp : deep < dv + 1
                · have hdpi : (deep : Int) < dv + 1 := by omega
                  go_wp2_with fail
                  go_region
                  go_wp2_with fail
                  go_region
                  go_wp2_with fail
                  go_roundg (gk - 1)
                  case measure => omega
                  case rel =>
                    have h9 := (HA3.out.set_dep x (dv + 1)).fr ((Fr.refl (One og) _).set1 nx (.int .i64 ((dv + 1 : Nat) : Int))) (fun z h1 h2 h3 => HOD.out ⟨by unfold One at h3; omega, by unfold One at h3; omega⟩)
                    have hO9 := (HO3.out.other (b := b + 9) (o := x) hob (.int .i64 ((dv + 1 : Nat) : Int))).set nx (dv + 1)
                    have hf9 := (HF3.out.setS (hbg (b + 9) (by omega) (by omega)) x (.int .i64 ((dv + 1 : Nat) : Int))).setS (show TrS b og og from .inr rfl) nx (.int .i64 ((dv + 1 : Nat) : Int))
                    exact ⟨x, (dv + 1), _, _, by first | rfl | simp, rfl, by omega, by omega, h9.drew.drew, hO9.drew.drew, HNEW.out _ (by omega) (by omega) (by omega) (by omega), hf9.drew.drew⟩
                · have hdpi : ¬ (deep : Int) < dv + 1 := by omega
                  go_wp2_with fail
                  go_region
                  go_wp2_with fail
                  go_region
                  go_wp2_with fail
                  go_roundg (gk - 1)
                  case measure => omega
                  case rel =>
                    have h9 := (HA3.out.set_dep x (dv + 1)).fr ((Fr.refl (One og) _).set1 nx (.int .i64 ((dv + 1 : Nat) : Int))) (fun z h1 h2 h3 => HOD.out ⟨by unfold One at h3; omega, by unfold One at h3; omega⟩)
                    have hO9 := (HO3.out.other (b := b + 9) (o := x) hob (.int .i64 ((dv + 1 : Nat) : Int))).set nx (dv + 1)
                    have hf9 := (HF3.out.setS (hbg (b + 9) (by omega) (by omega)) x (.int .i64 ((dv + 1 : Nat) : Int))).setS (show TrS b og og from .inr rfl) nx (.int .i64 ((dv + 1 : Nat) : Int))
                    exact ⟨x, deep, _, _, by first | rfl | simp, rfl, by omega, by omega, h9.drew.drew, hO9.drew.drew, HNEW.out _ (by omega) (by omega) (by omega) (by omega), hf9.drew.drew⟩
              · have hlf : ¬ (x : Int) < m := by omega
                have hnew : Pass c k lv m2 R { R3 with dep := upd R3.dep x (dv + 1) } s S x deep o := by
                  refine ⟨hP.tre, hP.one, hP.lens, ⟨hP.kept.n, hP.kept.lens, hP.kept.code, hP.kept.root, hP.kept.sub, hP.kept.top⟩, hroot, hstep, hbound, fun z h5 h6 => ?_, fun i h5 h6 => ?_, ?_⟩
                  · dsimp only
                    rw [upd_ne _ _ _ _ (by omega)]
                    exact hP.out z (by omega) h6
                  · exact hP.other i h5 (fun z h7 h8 => h6 z (by omega) h8)
                  · rcases hP.hit with h7 | ⟨z, h7, h8, h9⟩
                    · exact .inl h7
                    · exact .inr ⟨z, by omega, h8, by dsimp only; rw [upd_ne _ _ _ _ (by omega), h9]⟩
                have HNEW := hid hnew
                have HA3 := hid hA3
                have HO3 := hid hO3
                have HF3 := hid hf3
                have hob : ¬ og = b + 9 := fun e => HOD.out ⟨by omega, by omega⟩
                clear hA3 hO3 hf3 hP hstep hbound hroot hnew hy hdv hnx hq hN hMM hdb hxS hpar
                go_wp2_with fail
                go_region
                go_wp2_with fail
                go_roundg (gk - 1)
                case measure => omega
                case rel =>
                  have h9 := HA3.out.set_dep x (dv + 1)
                  have hf9 := HF3.out.setS (hbg (b + 9) (by omega) (by omega)) x (.int .i64 ((dv + 1 : Nat) : Int))
                  exact ⟨x, deep, _, _, rfl, rfl, by omega, by omega, h9.drew, (HO3.out.other (b := b + 9) (o := x) hob _).drew, HNEW.out, hf9.drew⟩
end Go.Proofs.Qxb6500353aGreat
