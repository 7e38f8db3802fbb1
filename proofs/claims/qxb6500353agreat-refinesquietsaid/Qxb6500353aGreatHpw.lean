/- The heap of nodes, walked. -/
import Derived.Test.Qxb6500353aGreatObj
import Derived.Test.Qxb6500353aGreatTre
import Derived.Test.Qxb6500353aGreatTbl
namespace Go.Proofs.Qxb6500353aGreat
open Go.RowKit
set_option linter.unusedVariables false
set_option linter.unusedSimpArgs false

def ptrV (b : Nat) : Value := .pointer (some ⟨b, 0, none⟩)
def CdR.key (R : CdR) : Key := ⟨R.wt, R.ht, R.num⟩
set_option maxRecDepth 100000 in
theorem less_any {w : World} {b : Nat} {R : CdR} (h : CdAt w b R) (x y : Nat) (hx : x < 529) (hy : y < 529) :
    Calls Tryz.prog 176 #[ptrV b, .int .i64 x, .int .i64 y] w fun e w' => e = .returned (.bool (decide (R.key.less x y))) ∧ ∃ n, w' = w.drewN n := by
  have p1 := h.p_wt
  have p2 := h.p_ht
  have p3 := h.p_num
  have a1 := h.a_wt.cell x hx
  have a2 := h.a_wt.cell y hy
  have b1 := h.a_ht.cell x hx
  have b2 := h.a_ht.cell y hy
  have d1 := h.a_num.cell x hx
  have d2 := h.a_num.cell y hy
  simp only [mkN] at a1 a2 b1 b2 d1 d2
  have hxi : (x : Int) < 529 := by omega
  have hyi : (y : Int) < 529 := by omega
  have HL : Hid (decide (R.key.less x y) = decide (R.wt x < R.wt y ∨ R.wt x = R.wt y ∧ (R.ht x < R.ht y ∨ R.ht x = R.ht y ∧ R.num x < R.num y))) := hid rfl
  clear h
  refine calls_via fun K hK => ?_
  obtain ⟨q, hq⟩ : ∃ q, q = decide (R.key.less x y) := ⟨_, rfl⟩
  rw [← hq] at hK
  rw [← hq] at HL
  clear hq
  generalize R.wt x = u1 at *
  generalize R.wt y = u2 at *
  generalize R.ht x = v1 at *
  generalize R.ht y = v2 at *
  generalize R.num x = n1 at *
  generalize R.num y = n2 at *
  unfold ptrV
  by_cases e1 : u1 = u2
  · subst e1
    by_cases e2 : v1 = v2
    · subst e2
      have HE : Hid (q = decide (n1 < n2)) := hid (by rw [HL.out]; simp)
      clear HL
      go_enter Tryz.func176, Tryz.ntmps176
      go_wp2_with fail
      go_quiet (fail)
      go_wp2_with fail
      go_quiet (fail)
      go_wp2_with fail
      go_quiet (fail)
      go_wp2_with fail
      exact hK.out _ _ ⟨by rw [HE.out]; rfl, _, by repeat rw [World.drewN_drewN]⟩
    · have HE : Hid (q = decide (v1 < v2)) := hid (by rw [HL.out]; simp [e2])
      have e2i : ¬ (v1 : Int) = v2 := by omega
      clear HL
      go_enter Tryz.func176, Tryz.ntmps176
      go_wp2_with fail
      go_quiet (fail)
      go_wp2_with fail
      go_quiet (fail)
      go_wp2_with fail
      go_quiet (fail)
      go_wp2_with fail
      exact hK.out _ _ ⟨by rw [HE.out]; rfl, _, by repeat rw [World.drewN_drewN]⟩
  · have HE : Hid (q = decide (u1 < u2)) := hid (by rw [HL.out]; simp [e1])
    have e1i : ¬ (u1 : Int) = u2 := by omega
    clear HL
    go_enter Tryz.func176, Tryz.ntmps176
    go_wp2_with fail
    go_quiet (fail)
    go_wp2_with fail
    go_quiet (fail)
    go_wp2_with fail
    exact hK.out _ _ ⟨by rw [HE.out]; rfl, _, by repeat rw [World.drewN_drewN]⟩
theorem less_drawn {w : World} {b : Nat} {R : CdR} (h : CdAt w b R) (x y : Nat) (hx : x < 529) (hy : y < 529) (q : Nat) :
    Calls Tryz.prog 176 #[ptrV b, .int .i64 x, .int .i64 y] (w.drewN q) fun e w' => e = .returned (.bool (decide (R.key.less x y))) ∧ ∃ n, w' = w.drewN n :=
  (less_any h.drewN x y hx hy).mono fun e w' ⟨h1, n, h2⟩ => ⟨h1, q + n, by rw [h2, World.drewN_drewN]⟩
set_option maxRecDepth 100000 in
theorem push_any {w : World} {b : Nat} {R : CdR} {S : Nat → Prop} (h : CdAt w b R) (hp : Heap R.key R.heap R.fill S) (hlt : ∀ y, S y → y < 529) (x : Nat) (hx : x < 529) (hS : ¬ S x) (hf : R.fill < 265) :
    Calls Tryz.prog 173 #[ptrV b, .int .i64 x] w fun e w' => e = .returned (.tuple #[]) ∧ ∃ H, CdAt w' b { R with heap := H, fill := R.fill + 1 } ∧ Heap R.key H (R.fill + 1) (fun y => S y ∨ y = x) ∧ Fr (Rng b (b + 11)) w w' := by
  have c1 := h.c_fill
  have cf : ∀ i, w.frozen? ⟨b, i, none⟩ = false := h.fz
  obtain ⟨n, hn⟩ : ∃ n, n = R.fill := ⟨_, rfl⟩
  rw [← hn] at c1 hf hp ⊢
  have hni : (n : Int) < 265 := by omega
  obtain ⟨hs1, hs2⟩ := hp.push_start hS
  have H0 := hid h
  have HN := hid hn
  have HX := hid hx
  have HS1 := hid hs1
  have HS2 := hid hs2
  have HLT := hid hlt
  clear h hn hx hs1 hs2 hp
  refine calls_via fun K hK => ?_
  unfold ptrV
  go_enter Tryz.func173, Tryz.ntmps173
  go_wp2_with fail
  go_loopg [4] n (fun g i wr => ∃ (k : Nat) (H : Nat → Nat), i = .int .i64 (k : Nat) ∧ k ≤ g ∧ k ≤ n ∧ CdAt wr b { R with heap := H, fill := n + 1 } ∧ Holds (upd H k x) (n + 1) (fun y => S y ∨ y = x) ∧ Up R.key (upd H k x) (n + 1) k ∧ Fr (Rng b (b + 11)) w wr)
  case atStart =>
    have h1 := H0.out.set_fill (n + 1)
    rw [Int.natCast_add] at h1
    exact ⟨n, R.heap, rfl, Nat.le_refl _, Nat.le_refl _, h1, HS1.out, HS2.out, (Fr.refl (Rng b (b + 11)) w).setS ⟨by omega, by omega⟩ _ _⟩
  case round =>
    obtain ⟨k, H, rfl, hkg, hkn, hA, hh, hu, hfr⟩ := hrel
    have p1 := hA.p_heap
    have cfz : ∀ i, wr.frozen? ⟨b + 10, i, none⟩ = false := hA.a_heap.thaw
    have ck := hA.a_heap.cell k (by omega)
    simp only [mkN] at ck
    have hki : (k : Int) < 265 := by omega
    by_cases h0 : k = 0
    · subst h0
      have HA := hid hA
      have HH := hid hh
      have HU := hid hu
      have HF := hid hfr
      clear hA hh hu hfr
      go_wp2_with fail
      go_end0
      refine hK.out _ _ ⟨rfl, upd H 0 x, HA.out.set_heap 0 x, ⟨HH.out, HU.out.done (.inl rfl)⟩, HF.out.setS ⟨by omega, by omega⟩ _ _⟩
    · obtain ⟨q, hq⟩ : ∃ q, q = (k - 1) / 2 := ⟨_, rfl⟩
      have hqk : q < k := by omega
      have e1 : ((k : Int) - 1) / 2 = (q : Int) := by omega
      have hk0 : (0 : Int) < k := by omega
      have hqi : (q : Int) < 265 := by omega
      have cq := hA.a_heap.cell q (by omega)
      simp only [mkN] at cq
      have hvq : upd H k x q = H q := upd_ne _ _ _ _ (by omega)
      have hHq : H q < 529 := by
        rcases hh.mem q (by omega) with h1 | h1
        · rw [hvq] at h1; exact HLT.out _ h1
        · rw [hvq] at h1; rw [h1]; exact HX.out
      have HL := hid (less_any hA x (H q) HX.out hHq)
      obtain ⟨z, hz⟩ : ∃ z, z = H q := ⟨_, rfl⟩
      have hkey : ({ R with heap := H, fill := n + 1 } : CdR).key = R.key := rfl
      rw [hkey] at HL
      have HZ := hid hz
      have HVQ := hid hvq
      have HA := hid hA
      have HH := hid hh
      have HU := hid hu
      have HF := hid hfr
      have HQ := hid hq
      have HQK := hid hqk
      rw [← hz] at cq HL
      clear hA hh hu hfr hz hvq hHq hkey hq
      unfold ptrV at HL
      by_cases hl : R.key.less x z
      · have hd : decide (R.key.less x z) = true := decide_eq_true hl
        rw [hd] at HL
        have HLT2 := hid hl
        clear hl hd
        go_wp2_with (go_at_call 176; refine HL.out.mono ?_; rintro e w2 ⟨rfl, nn, hw⟩; have hw2 := hw; subst hw2; clear hw)
        go_region
        go_wp2_with fail
        go_roundg (gk - 1)
        case measure => have := HQK.out; omega
        case rel =>
          have hqk := HQK.out
          have hz := HZ.out
          have hvq := HVQ.out
          have hsw := swp_upd H k q x (by omega)
          rw [← hz] at hsw
          refine ⟨q, upd H k z, rfl, by omega, by omega, ?_, ?_, ?_, ?_⟩
          · first | exact (HA.out.drewN.set_heap k z).drew | exact HA.out.drewN.drew.set_heap k z
          · rw [← hsw]; exact HH.out.swap (by omega) (by omega)
          · rw [← hsw, HQ.out]
            refine HU.out.step (by omega) (by omega) ?_
            rw [upd_self, ← HQ.out, hvq, ← hz]; exact HLT2.out
          · have hm : Rng b (b + 11) (b + 10) := ⟨by omega, by omega⟩
            first | exact (HF.out.drewN.setS hm _ _).drew | exact HF.out.drewN.drew.setS hm _ _
      · have hd : decide (R.key.less x z) = false := decide_eq_false hl
        rw [hd] at HL
        have HLT2 := hid hl
        clear hl hd
        go_wp2_with (go_at_call 176; refine HL.out.mono ?_; rintro e w2 ⟨rfl, nn, hw⟩; have hw2 := hw; subst hw2; clear hw)
        go_end0
        refine hK.out _ _ ⟨rfl, upd H k x, HA.out.drewN.set_heap k x, ⟨HH.out, HU.out.done (.inr ?_)⟩, HF.out.drewN.setS ⟨by omega, by omega⟩ _ _⟩
        rw [upd_self, ← HQ.out, HVQ.out, ← HZ.out]; exact HLT2.out
set_option maxRecDepth 100000 in
set_option maxHeartbeats 2000000 in
theorem pop_any {w : World} {b : Nat} {R : CdR} {S : Nat → Prop} {n : Nat} (h : CdAt w b R) (hn : R.fill = n + 1) (hp : Heap R.key R.heap R.fill S) (hlt : ∀ y, S y → y < 529) (hf : R.fill ≤ 265) (h0 : 0 < n) :
    Calls Tryz.prog 174 #[ptrV b] w fun e w' => e = .returned (.int .i64 (R.heap 0 : Nat)) ∧ ∃ H, CdAt w' b { R with heap := H, fill := n } ∧ Heap R.key H n (fun y => S y ∧ y ≠ R.heap 0) ∧ Fr (Rng b (b + 11)) w w' := by
  have c1 := h.c_fill
  have p1 := h.p_heap
  have cf : ∀ i, w.frozen? ⟨b, i, none⟩ = false := h.fz
  have cz := h.a_heap.cell 0 (by omega)
  have cn := h.a_heap.cell n (by omega)
  simp only [mkN] at cz cn
  rw [hn] at c1 hp hf
  have hni : (n : Int) < 265 := by omega
  have hn0 : (0 : Int) < n := by omega
  have c1b : w.cell? ⟨b, 12, none⟩ = some (.int .i64 ((n : Int) + 1)) := by rw [c1]; rfl
  obtain ⟨hs1, _, hs2⟩ := hp.pop_start
  have hs1 := hs1 h0
  obtain ⟨least, hle⟩ : ∃ z, z = R.heap 0 := ⟨_, rfl⟩
  obtain ⟨x, hx⟩ : ∃ z, z = R.heap n := ⟨_, rfl⟩
  have hx529 : x < 529 := by rw [hx]; exact hlt _ (hp.mem n (by omega))
  rw [← hle] at cz hs1 ⊢
  rw [← hx] at cn hs1 hs2
  have HS1 := hid hs1
  have HS2 := hid hs2
  have HX := hid hx529
  have H0 := hid h
  have HLT := hid hlt
  clear h hn hp hlt hf c1 hs1 hs2 hx hx529 hle
  refine calls_via fun K hK => ?_
  unfold ptrV
  go_enter Tryz.func174, Tryz.ntmps174
  go_wp2_with fail
  go_quiet (fail)
  go_wp2_with fail
  go_loopg [5] n (fun g i wr => ∃ (k : Nat) (H : Nat → Nat), i = .int .i64 (k : Nat) ∧ n ≤ g + k ∧ k < n ∧ CdAt wr b { R with heap := H, fill := n } ∧ Holds (upd H k x) n (fun y => S y ∧ y ≠ least) ∧ Dn R.key (upd H k x) n k ∧ Fr (Rng b (b + 11)) w wr)
  case atStart =>
    have h1 := H0.out.set_fill n
    refine ⟨0, R.heap, rfl, Nat.le_refl _, h0, ?_, HS1.out, HS2.out, ?_⟩
    · first | exact h1.drewN | exact h1
    · have hm : Rng b (b + 11) b := ⟨by omega, by omega⟩
      first | exact ((Fr.refl (Rng b (b + 11)) w).setS hm _ _).drewN | exact (Fr.refl (Rng b (b + 11)) w).setS hm _ _
  case round =>
    obtain ⟨k, H, rfl, hkg, hkn, hA, hh, hu, hfr⟩ := hrel
    have p1 := hA.p_heap
    have cfl := hA.c_fill
    have cfz : ∀ i, wr.frozen? ⟨b + 10, i, none⟩ = false := hA.a_heap.thaw
    have ck := hA.a_heap.cell k (by omega)
    simp only [mkN] at ck
    dsimp only at cfl
    have hki : (k : Int) < 265 := by omega
    have hm10 : Rng b (b + 11) (b + 10) := ⟨by omega, by omega⟩
    obtain ⟨c1, hc1⟩ : ∃ c, c = 2 * k + 1 := ⟨_, rfl⟩
    obtain ⟨c2, hc2⟩ : ∃ c, c = 2 * k + 2 := ⟨_, rfl⟩
    have e1 : 2 * (k : Int) + 1 = (c1 : Int) := by omega
    have e2 : (c1 : Int) + 1 = (c2 : Int) := by omega
    have hval : ∀ j, j < n → j ≠ k → H j < 529 := by
      intro j hj hne
      have h1 := hh.mem j hj
      rw [upd_ne _ _ _ _ hne] at h1
      exact HLT.out _ h1.1
    have hkey : ({ R with heap := H, fill := n } : CdR).key = R.key := rfl
    by_cases hin : c1 < n
    · have hini : (c1 : Int) < n := by omega
      have hc1i : (c1 : Int) < 265 := by omega
      have cc1 := hA.a_heap.cell c1 (by omega)
      simp only [mkN] at cc1
      have HV1 := hid (hval c1 hin (by omega))
      obtain ⟨z1, hz1⟩ : ∃ z, z = H c1 := ⟨_, rfl⟩
      rw [← hz1] at cc1 HV1
      have HLA := hid (less_drawn hA z1 x HV1.out HX.out)
      rw [hkey] at HLA
      by_cases hin2 : c2 < n
      · have hin2i : (c2 : Int) < n := by omega
        have hc2i : (c2 : Int) < 265 := by omega
        have cc2 := hA.a_heap.cell c2 (by omega)
        simp only [mkN] at cc2
        have HV2 := hid (hval c2 hin2 (by omega))
        obtain ⟨z2, hz2⟩ : ∃ z, z = H c2 := ⟨_, rfl⟩
        rw [← hz2] at cc2 HV2
        have HLB := hid (less_drawn hA z2 x HV2.out HX.out)
        have HLC := hid (less_drawn hA z2 z1 HV2.out HV1.out)
        rw [hkey] at HLB HLC
        unfold ptrV at HLA HLB HLC
        have HA := hid hA
        have HH := hid hh
        have HU := hid hu
        have HF := hid hfr
        have HC1 := hid hc1
        have HC2 := hid hc2
        have HZ1 := hid hz1
        have HZ2 := hid hz2
        clear hA hh hu hfr hval hkey hc1 hc2 hz1 hz2
        by_cases hl1 : R.key.less z2 z1
        · have hd1 : decide (R.key.less z2 z1) = true := decide_eq_true hl1
          rw [hd1] at HLC
          have HLT1 := hid hl1
          clear hl1 hd1
          by_cases hl2 : R.key.less z2 x
          · have hd2 : decide (R.key.less z2 x) = true := decide_eq_true hl2
            rw [hd2] at HLB
            have HLT2 := hid hl2
            clear hl2 hd2
            go_wp2_with fail
            go_quiet ((go_at_call 176; exact HLC.out _))
            go_wp2_with (go_at_call 176; refine (HLB.out _).mono ?_; rintro e w2 ⟨rfl, nn, hw⟩; have hw2 := hw; subst hw2; clear hw)
            go_region
            go_wp2_with fail
            go_roundg (gk - 1)
            case measure => have := HC1.out; have := HC2.out; omega
            case rel =>
              have hc1 := HC1.out
              have hc2 := HC2.out
              have hz1 := HZ1.out
              have hz2 := HZ2.out
              have hsw := swp_upd H k c2 x (by omega)
              rw [← hz2] at hsw
              refine ⟨c2, upd H k z2, rfl, by omega, by omega, ?_, ?_, ?_, ?_⟩
              · first | exact (HA.out.drewN.set_heap k z2).drew | exact HA.out.drewN.drew.set_heap k z2 | (repeat rw [World.drewN_drewN]; first | exact (HA.out.drewN.set_heap k z2).drew | exact HA.out.drewN.drew.set_heap k z2)
              · rw [← hsw]; exact HH.out.swap (by omega) (by omega)
              · rw [← hsw]
                refine HU.out.step (by omega) (by omega) (fun d hd hdd => ?_) ?_
                · rw [upd_ne _ _ _ _ (by omega), upd_ne _ _ _ _ (by omega)]
                  rw [← hz2]
                  have hb : d = c1 ∨ d = c2 := by omega
                  rcases hb with e | e
                  · subst e; rw [← hz1]; exact Key.asym HLT1.out
                  · subst e; rw [← hz2]; exact Key.irr _ _
                · rw [upd_self, upd_ne _ _ _ _ (by omega), ← hz2]; exact HLT2.out
              · first | exact (HF.out.drewN.setS hm10 _ _).drew | exact HF.out.drewN.drew.setS hm10 _ _ | (repeat rw [World.drewN_drewN]; first | exact (HF.out.drewN.setS hm10 _ _).drew | exact HF.out.drewN.drew.setS hm10 _ _)
          · have hd2 : decide (R.key.less z2 x) = false := decide_eq_false hl2
            rw [hd2] at HLB
            have HLT2 := hid hl2
            clear hl2 hd2
            go_wp2_with fail
            go_quiet ((go_at_call 176; exact HLC.out _))
            go_wp2_with (go_at_call 176; refine (HLB.out _).mono ?_; rintro e w2 ⟨rfl, nn, hw⟩; have hw2 := hw; subst hw2; clear hw)
            refine hK.out _ _ ⟨rfl, upd H k x, ?_, ⟨HH.out, HU.out.done fun d hd hdd => ?_⟩, ?_⟩
            · first | exact HA.out.drewN.set_heap k x | (repeat rw [World.drewN_drewN]; exact HA.out.drewN.set_heap k x)
            · have hc1 := HC1.out
              have hc2 := HC2.out
              have hz1 := HZ1.out
              have hz2 := HZ2.out
              have h3 : ¬ R.key.less (H d) z2 := by
                have hb : d = c1 ∨ d = c2 := by omega
                rcases hb with e | e
                · subst e; rw [← hz1]; exact Key.asym HLT1.out
                · subst e; rw [← hz2]; exact Key.irr _ _
              rw [upd_self, upd_ne _ _ _ _ (by omega)]
              exact Key.ntrans h3 HLT2.out
            · first | exact HF.out.drewN.setS hm10 _ _ | (repeat rw [World.drewN_drewN]; exact HF.out.drewN.setS hm10 _ _)
        · have hd1 : decide (R.key.less z2 z1) = false := decide_eq_false hl1
          rw [hd1] at HLC
          have HLT1 := hid hl1
          clear hl1 hd1
          by_cases hl2 : R.key.less z1 x
          · have hd2 : decide (R.key.less z1 x) = true := decide_eq_true hl2
            rw [hd2] at HLA
            have HLT2 := hid hl2
            clear hl2 hd2
            go_wp2_with fail
            go_quiet ((go_at_call 176; exact HLC.out _))
            go_wp2_with (go_at_call 176; refine (HLA.out _).mono ?_; rintro e w2 ⟨rfl, nn, hw⟩; have hw2 := hw; subst hw2; clear hw)
            go_region
            go_wp2_with fail
            go_roundg (gk - 1)
            case measure => have := HC1.out; have := HC2.out; omega
            case rel =>
              have hc1 := HC1.out
              have hc2 := HC2.out
              have hz1 := HZ1.out
              have hz2 := HZ2.out
              have hsw := swp_upd H k c1 x (by omega)
              rw [← hz1] at hsw
              refine ⟨c1, upd H k z1, rfl, by omega, by omega, ?_, ?_, ?_, ?_⟩
              · first | exact (HA.out.drewN.set_heap k z1).drew | exact HA.out.drewN.drew.set_heap k z1 | (repeat rw [World.drewN_drewN]; first | exact (HA.out.drewN.set_heap k z1).drew | exact HA.out.drewN.drew.set_heap k z1)
              · rw [← hsw]; exact HH.out.swap (by omega) (by omega)
              · rw [← hsw]
                refine HU.out.step (by omega) (by omega) (fun d hd hdd => ?_) ?_
                · rw [upd_ne _ _ _ _ (by omega), upd_ne _ _ _ _ (by omega)]
                  rw [← hz1]
                  have hb : d = c1 ∨ d = c2 := by omega
                  rcases hb with e | e
                  · subst e; rw [← hz1]; exact Key.irr _ _
                  · subst e; rw [← hz2]; exact HLT1.out
                · rw [upd_self, upd_ne _ _ _ _ (by omega), ← hz1]; exact HLT2.out
              · first | exact (HF.out.drewN.setS hm10 _ _).drew | exact HF.out.drewN.drew.setS hm10 _ _ | (repeat rw [World.drewN_drewN]; first | exact (HF.out.drewN.setS hm10 _ _).drew | exact HF.out.drewN.drew.setS hm10 _ _)
          · have hd2 : decide (R.key.less z1 x) = false := decide_eq_false hl2
            rw [hd2] at HLA
            have HLT2 := hid hl2
            clear hl2 hd2
            go_wp2_with fail
            go_quiet ((go_at_call 176; exact HLC.out _))
            go_wp2_with (go_at_call 176; refine (HLA.out _).mono ?_; rintro e w2 ⟨rfl, nn, hw⟩; have hw2 := hw; subst hw2; clear hw)
            refine hK.out _ _ ⟨rfl, upd H k x, ?_, ⟨HH.out, HU.out.done fun d hd hdd => ?_⟩, ?_⟩
            · first | exact HA.out.drewN.set_heap k x | (repeat rw [World.drewN_drewN]; exact HA.out.drewN.set_heap k x)
            · have hc1 := HC1.out
              have hc2 := HC2.out
              have hz1 := HZ1.out
              have hz2 := HZ2.out
              have h3 : ¬ R.key.less (H d) z1 := by
                have hb : d = c1 ∨ d = c2 := by omega
                rcases hb with e | e
                · subst e; rw [← hz1]; exact Key.irr _ _
                · subst e; rw [← hz2]; exact HLT1.out
              rw [upd_self, upd_ne _ _ _ _ (by omega)]
              exact Key.ntrans h3 HLT2.out
            · first | exact HF.out.drewN.setS hm10 _ _ | (repeat rw [World.drewN_drewN]; exact HF.out.drewN.setS hm10 _ _)
      · have hin2i : ¬ (c2 : Int) < n := by omega
        have HLA0 := hid (less_any hA z1 x HV1.out HX.out)
        rw [hkey] at HLA0
        unfold ptrV at HLA0
        have HA := hid hA
        have HH := hid hh
        have HU := hid hu
        have HF := hid hfr
        have HC1 := hid hc1
        have HC2 := hid hc2
        have HZ1 := hid hz1
        clear hA hh hu hfr hval hkey hc1 hc2 hz1
        by_cases hl2 : R.key.less z1 x
        · have hd2 : decide (R.key.less z1 x) = true := decide_eq_true hl2
          rw [hd2] at HLA0
          have HLT2 := hid hl2
          clear hl2 hd2
          go_wp2_with (go_at_call 176; refine (HLA0.out).mono ?_; rintro e w2 ⟨rfl, nn, hw⟩; have hw2 := hw; subst hw2; clear hw)
          go_region
          go_wp2_with fail
          go_roundg (gk - 1)
          case measure => have := HC1.out; have := HC2.out; omega
          case rel =>
            have hc1 := HC1.out
            have hc2 := HC2.out
            have hz1 := HZ1.out
            have hsw := swp_upd H k c1 x (by omega)
            rw [← hz1] at hsw
            refine ⟨c1, upd H k z1, rfl, by omega, by omega, ?_, ?_, ?_, ?_⟩
            · first | exact (HA.out.drewN.set_heap k z1).drew | exact HA.out.drewN.drew.set_heap k z1 | (repeat rw [World.drewN_drewN]; first | exact (HA.out.drewN.set_heap k z1).drew | exact HA.out.drewN.drew.set_heap k z1)
            · rw [← hsw]; exact HH.out.swap (by omega) (by omega)
            · rw [← hsw]
              refine HU.out.step (by omega) (by omega) (fun d hd hdd => ?_) ?_
              · rw [upd_ne _ _ _ _ (by omega), upd_ne _ _ _ _ (by omega)]
                have hb : d = c1 := by omega
                subst hb; rw [← hz1]; exact Key.irr _ _
              · rw [upd_self, upd_ne _ _ _ _ (by omega), ← hz1]; exact HLT2.out
            · first | exact (HF.out.drewN.setS hm10 _ _).drew | exact HF.out.drewN.drew.setS hm10 _ _ | (repeat rw [World.drewN_drewN]; first | exact (HF.out.drewN.setS hm10 _ _).drew | exact HF.out.drewN.drew.setS hm10 _ _)
        · have hd2 : decide (R.key.less z1 x) = false := decide_eq_false hl2
          rw [hd2] at HLA0
          have HLT2 := hid hl2
          clear hl2 hd2
          go_wp2_with (go_at_call 176; refine (HLA0.out).mono ?_; rintro e w2 ⟨rfl, nn, hw⟩; have hw2 := hw; subst hw2; clear hw)
          refine hK.out _ _ ⟨rfl, upd H k x, ?_, ⟨HH.out, HU.out.done fun d hd hdd => ?_⟩, ?_⟩
          · first | exact HA.out.drewN.set_heap k x | (repeat rw [World.drewN_drewN]; exact HA.out.drewN.set_heap k x)
          · have hc1 := HC1.out
            have hc2 := HC2.out
            have hz1 := HZ1.out
            have h3 : ¬ R.key.less (H d) z1 := by
              have hb : d = c1 := by omega
              subst hb; rw [← hz1]; exact Key.irr _ _
            rw [upd_self, upd_ne _ _ _ _ (by omega)]
            exact Key.ntrans h3 HLT2.out
          · first | exact HF.out.drewN.setS hm10 _ _ | (repeat rw [World.drewN_drewN]; exact HF.out.drewN.setS hm10 _ _)
    · have hini : ¬ (c1 : Int) < n := by omega
      have HA := hid hA
      have HH := hid hh
      have HU := hid hu
      have HF := hid hfr
      have HC1 := hid hc1
      clear hA hh hu hfr hval hkey hc1 hc2
      go_wp2_with fail
      refine hK.out _ _ ⟨rfl, upd H k x, HA.out.set_heap k x, ⟨HH.out, HU.out.done fun d hd hdd => ?_⟩, HF.out.setS hm10 _ _⟩
      have := HC1.out
      omega
end Go.Proofs.Qxb6500353aGreat
