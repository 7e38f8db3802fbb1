/- The matcher: seek, walked. -/
import Derived.Test.Qxb6500353aGreatLza
import Derived.Test.Qxb6500353aGreatLzs
import Derived.Deep.DeepCutAuto
import Derived.Deep.Cut
namespace Go.Proofs.Qxb6500353aGreat
open Go.RowKit
set_option linter.unusedVariables false
set_option linter.unusedSimpArgs false

theorem thr_gap2 (s : List Nat) (i D E : Nat) (hi : i + 3 ≤ s.length) (hD : D ≤ i) (hDE : D ≤ E) (h : ∀ d, D < d → d ≤ E → d ≤ i → lastE s (hashF s i) (i - D) < (i - d : Nat)) : thr s i E = thr s i D := by
  refine thr_skip s i D E hDE fun d a b c => ?_
  left
  refine Classical.byContradiction fun h3 => ?_
  have h4 := ag_hash s i d (by omega) c (by omega) (by omega)
  have h5 := lastE_max s (hashF s i) (i - D) (i - d) (by omega) (by omega) h4.2
  have := h d a b c
  omega
/-- A candidate of the chain: what stands behind it. -/
theorem thr_step (s : List Nat) (i D q : Nat) (hi : i + 3 ≤ s.length) (hD : D ≤ i) (hq : (q : Int) = lastE s (hashF s i) (i - D)) :
    thr s i (i - q) = if (thr s i D).1 < agF s i (i - q) then (agF s i (i - q), i - q) else thr s i D := by
  have hr := lastE_range s (hashF s i) (i - D)
  have h1 := thr_gap2 s i D (i - q - 1) hi hD (by omega) (fun d a b c => by omega)
  have e : i - q = i - q - 1 + 1 := by omega
  rw [e, thr_succ, ← e, h1]
  by_cases h2 : (thr s i D).1 < agF s i (i - q)
  · rw [if_pos ⟨by omega, h2⟩, if_pos h2]
  · rw [if_neg (fun h => h2 h.2), if_neg h2]
/-- The end of the walk. -/
theorem thr_end (s : List Nat) (i D : Nat) (c : Int) (hi : i + 3 ≤ s.length) (hD : D ≤ i) (hD16 : D ≤ 16) (hc : c = lastE s (hashF s i) (i - D))
    (h : c = -1 ∨ 16 < (i : Int) - c ∨ min 10 (s.length - i) ≤ (thr s i D).1) : thr s i 16 = thr s i D := by
  rcases h with h | h | h
  · exact thr_gap2 s i D 16 hi hD hD16 (fun d a b e => by omega)
  · exact thr_gap2 s i D 16 hi hD hD16 (fun d a b e => by omega)
  · exact thr_lim s i D 16 hD16 (by omega) h
theorem thr_le (s : List Nat) (i D : Nat) (hi : i + 3 ≤ s.length) : (thr s i D).1 ≤ 10 ∧ i + (thr s i D).1 ≤ s.length := by
  unfold thr
  split
  · simp only; omega
  · rcases (bestS_spec s i D).2 with h | ⟨a, b, c, d, e⟩
    · omega
    · have := agF_len s i (bestS s i D).2 (by omega)
      have := agF_le s i (bestS s i D).2
      omega
theorem MtAt.prob {w : World} {b : Nat} {R : MtR} (h : MtAt w b R) : MtAt w b { R with probes := R.probes } := h
set_option maxRecDepth 100000 in
set_option maxHeartbeats 4000000 in
theorem mtseek_any {w : World} {b : Nat} {R : MtR} (h : MtAt w b R) {s : ByteArray} {i : Nat} (hs : s.size ≤ 1000000) (hi : i ≤ 1000000) (hc : Chains (bytesOf s) i R.head R.prev) :
    Calls Tryz.prog 146 #[ptrV b, .string s, .int .i64 i] w fun e w' => e = .returned (.tuple #[.int .i64 ((bestF (bytesOf s) i).1 : Nat), .int .i64 ((bestF (bytesOf s) i).2 : Nat)]) ∧ (∃ pr, MtAt w' b { R with probes := pr }) ∧ Fr (Rng b (b + 4)) w w' := by
  have H := hid h
  have HCH := hid hc
  by_cases h3 : i + 3 ≤ s.size
  · have hln := bytesOf_len s
    obtain ⟨S, hS⟩ : ∃ S, S = bytesOf s := ⟨_, rfl⟩
    have hb : ∀ k (hk : k < s.size), (s[k]'hk).toNat = by_ S k := fun k hk => by rw [hS]; exact byteI s hk
    have hb2 : ∀ k, by_ S k < 256 := fun k => by rw [hS]; exact byS_lt s k
    have HB := hid hb
    have HB2 := hid hb2
    have HHA := hid (fun w => hash_any (w := w) h3 hs)
    have HSP := hid (fun w c (hc : c < i) (lim : Nat) hl hm => span_any (w := w) (s := s) (c := c) (i := i) (lim := lim) hc hl hm hs)
    rw [← hS] at HHA HSP HCH hc hln
    have HLN := hid hln
    have h3i : ¬ ((s.size : Int) < (i : Int) + 3) := by omega
    have hii : (i : Int) ≤ 1000000 := by omega
    have hsi : (s.size : Int) ≤ 1000000 := by omega
    have H3 := hid h3
    have HI := hid hi
    have hx64 := hashF_lt S i
    obtain ⟨x, hx⟩ : ∃ x, x = hashF S i := ⟨_, rfl⟩
    rw [← hx] at HHA hx64
    have hxi : (x : Int) < 64 := by omega
    have HX := hid hx
    have c0 := h.p_head
    have ch := h.a_head.cell x hx64
    simp only [mkI] at ch
    rw [hc.head x hx64] at ch
    obtain ⟨q, hq⟩ : ∃ q, q = lastE S x i := ⟨_, rfl⟩
    have hqr := lastE_range S x i
    rw [← hq] at ch hqr
    have HQ := hid hq
    have HQR := hid hqr
    obtain ⟨lim, hlim⟩ : ∃ lim, lim = min 10 (s.size - i) := ⟨_, rfl⟩
    have HLIM := hid hlim
    have hlim10 : (lim : Int) ≤ 10 := by omega
    have hres : bestF (bytesOf s) i = bestF S i := by rw [hS]
    rw [hres]
    refine calls_via fun K hK => ?_
    have HEND : Hid (∀ D : Nat, D ≤ i → D ≤ 16 → ∀ (c : Int) (bst dst : Nat), c = lastE S x (i - D) → (c = -1 ∨ 16 < (i : Int) - c ∨ lim ≤ (thr S i D).1) → bst = (thr S i D).1 → dst = (thr S i D).2 → bestF S i = if dst = 0 then (0, 0) else (bst, dst)) := hid (by
      intro D hD hD16 c bst dst hc hor e1 e2
      have h7 := thr_end S i D c (by rw [HLN.out]; exact H3.out) hD hD16 (by rw [← HX.out]; exact hc) (by rw [HLN.out, ← HLIM.out]; exact hor)
      rw [best_thr, h7, e1, e2])
    obtain ⟨r1, hr1⟩ : ∃ r, r = (bestF S i).1 := ⟨_, rfl⟩
    obtain ⟨r2, hr2⟩ : ∃ r, r = (bestF S i).2 := ⟨_, rfl⟩
    rw [← hr1, ← hr2] at hK
    have HR1 := hid hr1
    have HR2 := hid hr2
    clear h hc hS hb hb2 hln h3 hi hx hq hlim hres hr1 hr2 hqr
    unfold ptrV
    go_enter Tryz.func146, Tryz.ntmps146
    go_upto_if 24 with (fail)
    go_cut [8] (fun l wx => l = .int .i64 (lim : Nat) ∧ wx = w)
    case first =>
      by_cases hmax : s.size - i > 10
      · have hmi : (10 : Int) < (s.size : Int) - i := by omega
        have hl10 : lim = 10 := by have := HLIM.out; omega
        subst hl10
        clear hmax
        go_wp2_with fail
        go_meet
        exact ⟨rfl, rfl⟩
      · have hmi : ¬ (10 : Int) < (s.size : Int) - i := by have := H3.out; omega
        have hl10 : (lim : Int) = (s.size : Int) - i := by have := HLIM.out; have := H3.out; omega
        have HL := hid hl10
        clear hmax hl10
        go_wp2_with fail
        go_meet
        exact ⟨by rw [HL.out], rfl⟩
    case rest =>
      obtain ⟨rfl, hw⟩ := hcut
      subst hw
      go_wp2_with (go_at_call 171; refine (HHA.out _).mono ?_; rintro e w' ⟨rfl, hw⟩; have hw2 := hw.symm; subst hw2; clear hw)
      go_loopg [10, 11, 12] (i + 1) (fun g cv bv dv w2 => ∃ (D : Nat) (c pr : Int), cv = .int .i64 c ∧ bv = .int .i64 ((thr S i D).1 : Nat) ∧ dv = .int .i64 ((thr S i D).2 : Nat) ∧ D ≤ i ∧ D ≤ 16 ∧ c = lastE S x (i - D) ∧ (c + 1).toNat ≤ g ∧ MtAt w2 b { R with probes := pr } ∧ Fr (Rng b (b + 4)) wc w2)
      case atStart => exact ⟨0, q, R.probes, rfl, by rw [thr_zero]; rfl, by rw [thr_zero]; rfl, Nat.zero_le _, Nat.zero_le _, HQ.out, by have := HQR.out; omega, H.out, Fr.refl _ _⟩
      case round =>
        obtain ⟨D, c, pr, rfl, rfl, rfl, hD, hD16, hc, hcg, hA, hf⟩ := hrel
        have hcr := lastE_range S x (i - D)
        rw [← hc] at hcr
        have hth := thr_le S i D (by rw [HLN.out]; exact H3.out)
        have hge := thr_ge S i D
        have hfin := HEND.out D hD hD16 c (thr S i D).1 (thr S i D).2 hc
        have hstep := fun qn hq => thr_step S i D qn (by rw [HLN.out]; exact H3.out) hD hq
        rw [← HX.out] at hstep
        obtain ⟨bst, hbst⟩ : ∃ z, z = (thr S i D).1 := ⟨_, rfl⟩
        obtain ⟨dst, hdst⟩ : ∃ z, z = (thr S i D).2 := ⟨_, rfl⟩
        rw [← hbst, ← hdst] at hfin
        rw [← hbst] at hth hge hstep
        rw [← hbst, ← hdst]
        rw [HLN.out] at hth
        have hb10 : (bst : Int) ≤ 10 := by omega
        have hbs : (i : Int) + bst ≤ s.size := by omega
        have hdd : dst ≤ 16 := by
          rw [hdst]; unfold thr; split
          · omega
          · rcases (bestS_spec S i D).2 with h | h <;> omega
        have hdi : (dst : Int) ≤ 16 := by omega
        have hcl : -1 ≤ c := hcr.1
        have hcu : c < (i : Int) := by omega
        have HA := hid hA
        have HF := hid hf
        have HST := hid hstep
        have HC := hid hc
        have HCG := hid hcg
        have HD := hid (And.intro hD hD16)
        have HCR := hid hcr
        have HTH := hid hth
        have HBD := hid (And.intro hbst hdst)
        by_cases hgo : c = -1 ∨ 16 < (i : Int) - c ∨ lim ≤ bst
        · have hres := hfin hgo rfl rfl
          have hrr : dst = 0 ∧ r1 = 0 ∧ r2 = 0 ∨ dst ≠ 0 ∧ r1 = bst ∧ r2 = dst := by
            by_cases h0 : dst = 0
            · left; rw [if_pos h0] at hres; exact ⟨h0, by rw [HR1.out, hres], by rw [HR2.out, hres]⟩
            · right; rw [if_neg h0] at hres; exact ⟨h0, by rw [HR1.out, hres], by rw [HR2.out, hres]⟩
          have HRR := hid hrr
          clear hA hf hstep hc hcg hcr hth hbst hdst hfin hres hrr hD hD16 hdd
          have hkey : c = -1 ∨ (c ≠ -1 ∧ 16 < (i : Int) - c) ∨ (c ≠ -1 ∧ ¬ 16 < (i : Int) - c ∧ (lim : Int) ≤ bst) := by
            rcases hgo with h | h | h
            · exact .inl h
            · by_cases h1 : c = -1
              · exact .inl h1
              · exact .inr (.inl ⟨h1, h⟩)
            · by_cases h1 : c = -1
              · exact .inl h1
              · by_cases h2 : 16 < (i : Int) - c
                · exact .inr (.inl ⟨h1, h2⟩)
                · exact .inr (.inr ⟨h1, h2, by omega⟩)
          clear hgo
          rcases HRR.out with ⟨h0, e1, e2⟩ | ⟨h0, e1, e2⟩
          · subst h0; subst e1; subst e2
            rcases hkey with h1 | ⟨h1, h2⟩ | ⟨h1, h2, h3⟩
            · subst h1
              go_wp2_with fail
              exact hK.out _ _ ⟨rfl, ⟨pr, HA.out⟩, HF.out⟩
            · have h1b : (c == -1) = false := by simp [h1]
              have h2i : ¬ (i : Int) - c ≤ 16 := by omega
              go_wp2_with fail
              exact hK.out _ _ ⟨rfl, ⟨pr, HA.out⟩, HF.out⟩
            · have h1b : (c == -1) = false := by simp [h1]
              have h2i : (i : Int) - c ≤ 16 := by omega
              have h3i : ¬ (bst : Int) < lim := by omega
              go_wp2_with fail
              exact hK.out _ _ ⟨rfl, ⟨pr, HA.out⟩, HF.out⟩
          · subst e1; subst e2
            have h0i : ((r2 : Int) == 0) = false := by simp; omega
            rcases hkey with h1 | ⟨h1, h2⟩ | ⟨h1, h2, h3⟩
            · subst h1
              go_wp2_with fail
              exact hK.out _ _ ⟨rfl, ⟨pr, HA.out⟩, HF.out⟩
            · have h1b : (c == -1) = false := by simp [h1]
              have h2i : ¬ (i : Int) - c ≤ 16 := by omega
              go_wp2_with fail
              exact hK.out _ _ ⟨rfl, ⟨pr, HA.out⟩, HF.out⟩
            · have h1b : (c == -1) = false := by simp [h1]
              have h2i : (i : Int) - c ≤ 16 := by omega
              have h3i : ¬ (r1 : Int) < lim := by omega
              go_wp2_with fail
              exact hK.out _ _ ⟨rfl, ⟨pr, HA.out⟩, HF.out⟩
        · have hc1 : c ≠ -1 := fun h => hgo (.inl h)
          obtain ⟨qn, rfl⟩ : ∃ qn : Nat, c = (qn : Int) := ⟨c.toNat, by omega⟩
          have h16 : ¬ 16 < (i : Int) - qn := fun h => hgo (.inr (.inl h))
          have hbl : bst < lim := by
            refine Classical.byContradiction fun h => hgo (.inr (.inr ?_)); omega
          have hst := hstep qn hc
          have hqd : D < i - qn := by omega
          have hhit := lastE_hit S x (i - D) (by rw [← hc]; omega)
          rw [← hc, Int.toNat_natCast, HLN.out] at hhit
          have hpv := HCH.out.prev qn (by omega) (by omega) (by rw [HLN.out]; exact hhit.1)
          rw [hhit.2] at hpv
          have hpm := hA.a_prev.cell (qn % 16) (by omega)
          have hpp := hA.p_prev
          have cpr := hA.c_probes
          have zf : ∀ i, wr.frozen? ⟨b, i, none⟩ = false := hA.fz
          simp only [mkI] at hpm
          rw [hpv] at hpm
          obtain ⟨c2, hc2⟩ : ∃ c2, c2 = lastE S x qn := ⟨_, rfl⟩
          rw [← hc2] at hpm
          have hcr2 := lastE_range S x qn
          rw [← hc2] at hcr2
          have e15 : bits .and .i64 (qn : Int) 15 = ((qn % 16 : Nat) : Int) := mask15 (by omega)
          obtain ⟨qm, hqm⟩ : ∃ qm, qm = qn % 16 := ⟨_, rfl⟩
          have hqm16 : (qm : Int) < 16 := by omega
          rw [← hqm] at e15 hpm
          have k1 : qn + bst < s.size := by omega
          have k2 : i + bst < s.size := by have := HLIM.out; omega
          have b1 := HB.out (qn + bst) k1
          have b2 := HB.out (i + bst) k2
          have l1 := HB2.out (qn + bst)
          have l2 := HB2.out (i + bst)
          obtain ⟨x1, hx1⟩ : ∃ z, z = by_ S (qn + bst) := ⟨_, rfl⟩
          obtain ⟨x2, hx2⟩ : ∃ z, z = by_ S (i + bst) := ⟨_, rfl⟩
          rw [← hx1] at b1 l1
          rw [← hx2] at b2 l2
          have z1 : (0 : Int) ≤ (qn : Int) + bst := by omega
          have z2 : (0 : Int) ≤ (i : Int) + bst := by omega
          have k1i : (qn : Int) + bst < s.size := by omega
          have k2i : (i : Int) + bst < s.size := by omega
          have h1b : ((qn : Int) == -1) = false := by simp
          have h2i : (i : Int) - qn ≤ 16 := by omega
          have h3i : (bst : Int) < lim := by omega
          have hqn6 : (qn : Int) ≤ 1000000 := by omega
          have HSPN := hid (fun w => HSP.out w qn (by omega) lim (by have := HLIM.out; omega) HLIM.out)
          obtain ⟨ag, hag⟩ : ∃ z, z = agF S i (i - qn) := ⟨_, rfl⟩
          have hag10 : ag ≤ 10 := by rw [hag]; exact agF_le _ _ _
          have hagi : (ag : Int) ≤ 10 := by omega
          rw [← hag] at HSPN hst
          have hrej : x1 ≠ x2 → ¬ bst < ag := by
            intro hne hlt
            have h7 := agF_eq S i (i - qn) bst (by rw [← hag]; exact hlt)
            rw [show i + bst - (i - qn) = qn + bst by omega] at h7
            exact hne (by rw [hx1, hx2]; exact h7.symm)
          have HREJ := hid hrej
          have HSTN := hid hst
          have HQD := hid (And.intro hqd (And.intro h16 hcr2))
          have HC2 := hid hc2
          have HPV := hid (show R.prev qm = c2 by rw [hqm, hpv, hc2])
          have hnext : ∀ D2, D2 = i - qn → D2 ≤ i ∧ D2 ≤ 16 ∧ c2 = lastE S x (i - D2) ∧ (c2 + 1).toNat ≤ gk - 1 := by
            rintro D2 rfl
            have := HCG.out
            exact ⟨by omega, by omega, by rw [show i - (i - qn) = qn by omega]; exact hc2, by omega⟩
          have HNX := hid hnext
          clear hA hf hstep hc hcg hcr hth hbst hdst hfin hD hD16 hdd hgo hc1 hst hpv hc2 hcr2 hqm hx1 hx2 hag hrej h16 hbl hqd hnext hhit
          have s0 : Rng b (b + 4) b := ⟨by omega, by omega⟩
          obtain ⟨eb, heb⟩ : ∃ eb : Bool, eb = ((x1 : Int) == x2) := ⟨_, rfl⟩
          have hebt : eb = true → x1 = x2 := by intro h; rw [heb] at h; simp at h; omega
          have hebf : eb = false → x1 ≠ x2 := by intro h; rw [heb] at h; simp at h; omega
          have heb2 := heb.symm
          have HEBT := hid hebt
          have HEBF := hid hebf
          clear heb hebt hebf
          go_wp2_with fail
          go_quiet (fail)
          obtain ⟨w5, hw5⟩ : ∃ w5, w5 = (wr.setCell ⟨b, 4, none⟩ (.int .i64 (wrap64 (pr + 1)))).drewN nq := ⟨_, rfl⟩
          have hA5 : MtAt w5 b { R with probes := wrap64 (pr + 1) } := by rw [hw5]; exact (HA.out.set_probes _).drewN
          have hf5 : Fr (Rng b (b + 4)) wc w5 := by rw [hw5]; exact (HF.out.setS s0 _ _).drewN
          rw [← hw5]
          have HA5 := hid hA5
          have HF5 := hid hf5
          clear hA5 hf5 hw5 hpp hpm zf cpr
          go_upto_if 65 with (fail)
          go_cut [11, 12] (fun bv dv w5 => bv = .int .i64 ((thr S i (i - qn)).1 : Nat) ∧ dv = .int .i64 ((thr S i (i - qn)).2 : Nat) ∧ (∃ pr, MtAt w5 b { R with probes := pr }) ∧ Fr (Rng b (b + 4)) wc w5)
          case first =>
            cases eb
            · have h7 := HSTN.out
              rw [if_neg (HREJ.out (HEBF.out rfl))] at h7
              have H7 := hid h7
              clear h7
              go_wp2_with fail
              go_meet
              exact ⟨by rw [H7.out, HBD.out.1], by rw [H7.out, HBD.out.2], ⟨_, HA5.out⟩, HF5.out⟩
            · by_cases hlt : bst < ag
              · have hlti : (bst : Int) < ag := by omega
                have h7 := HSTN.out
                rw [if_pos hlt] at h7
                have H7 := hid h7
                clear hlt h7
                go_wp2_with (go_at_call 172; refine (HSPN.out _).mono ?_; rintro e w6 ⟨rfl, nn, hw⟩; have hw2 := hw; subst hw2; clear hw)
                go_meet
                exact ⟨by rw [H7.out], by rw [H7.out]; have := HQD.out; congr 1; omega, ⟨_, HA5.out.drewN⟩, HF5.out.drewN⟩
              · have hlti : ¬ (bst : Int) < ag := by omega
                have h7 := HSTN.out
                rw [if_neg hlt] at h7
                have H7 := hid h7
                clear hlt h7
                go_wp2_with (go_at_call 172; refine (HSPN.out _).mono ?_; rintro e w6 ⟨rfl, nn, hw⟩; have hw2 := hw; subst hw2; clear hw)
                go_meet
                exact ⟨by rw [H7.out, HBD.out.1], by rw [H7.out, HBD.out.2], ⟨_, HA5.out.drewN⟩, HF5.out.drewN⟩
          case rest =>
            obtain ⟨rfl, rfl, ⟨pr2, hA5⟩, hf5⟩ := hcut
            have hpm := hA5.a_prev.cell qm (by omega)
            simp only [mkI] at hpm
            rw [HPV.out] at hpm
            have hpp := hA5.p_prev
            have HA5 := hid hA5
            have HF5 := hid hf5
            clear hA5 hf5
            go_wp2_with fail
            go_roundg (gk - 1)
            case measure => have := HCG.out; omega
            case rel =>
              have h8 := HNX.out _ rfl
              exact ⟨i - qn, c2, pr2, rfl, rfl, rfl, h8.1, h8.2.1, h8.2.2.1, h8.2.2.2, HA5.out, HF5.out⟩
  · have h4 : bestF (bytesOf s) i = (0, 0) := bestF_short _ _ (by rw [bytesOf_len]; omega)
    rw [h4]
    have h3i : (s.size : Int) < (i : Int) + 3 := by omega
    have hii : (i : Int) ≤ 1000000 := by omega
    clear h hc h3 h4 hi
    refine calls_via fun K hK => ?_
    unfold ptrV
    go_enter Tryz.func146, Tryz.ntmps146
    go_wp2_with fail
    exact hK.out _ _ ⟨rfl, ⟨R.probes, H.out⟩, Fr.refl _ _⟩
end Go.Proofs.Qxb6500353aGreat
