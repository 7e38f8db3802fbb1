/- The encoder: lengths, choose, walked. -/
import Derived.Test.Qxb6500353aGreatEnc
namespace Go.Proofs.Qxb6500353aGreat
open Go.RowKit
set_option linter.unusedVariables false
set_option linter.unusedSimpArgs false

theorem Enc.planA {w : World} {t a b z p : Nat} {T : Tp} {RA RB : CdR} {RZ : MtR} {R : PkR} (h : Enc w t a b z p T RA RB RZ R) {co n ccap N : Nat} {c : Nat → Nat} (hN : w.heap.size = N) (hc : Cel mkN w (p + 1) co n c) (hn : n ≤ 265) (hcb : ∀ i, i < n → c i ≤ 600) :
    Calls Tryz.prog 119 #[ptrV a, .slice (some ⟨p + 1, co, none⟩) n ccap, .int .i64 10] w fun e w' => e = .returned (.tuple #[.slice (some ⟨N, 0, none⟩) n n, .int .i64 0]) ∧ (∃ RA', Enc w' t a b z p T RA' RB RZ R) ∧ Arr 3 mkN w' N n (planF c n) ∧ Fr (Rng t (p + 5)) w w' := by
  subst hN
  have l1 := h.l1; have l2 := h.l2; have l3 := h.l3; have l4 := h.l4
  have hB := sumTo_bound c 600 n hcb
  refine (plan_any (ccap := ccap) h.ca hc (by have := h.lt; omega) (fun q => by have := q.2; omega) hn (fun i hi => by have := hcb i hi; omega) (by have : n * 600 ≤ 265 * 600 := Nat.mul_le_mul_right _ hn; omega)).mono ?_
  rintro e w' ⟨R', rfl, h1, h2, h3, h4⟩
  exact ⟨rfl, ⟨R', h.onA h4 h1⟩, h3, h.wide h4 (by omega) (by omega)⟩
theorem Enc.planB {w : World} {t a b z p : Nat} {T : Tp} {RA RB : CdR} {RZ : MtR} {R : PkR} (h : Enc w t a b z p T RA RB RZ R) {co n ccap N : Nat} {c : Nat → Nat} (hN : w.heap.size = N) (hc : Cel mkN w (p + 1) co n c) (hn : n ≤ 265) (hcb : ∀ i, i < n → c i ≤ 600) :
    Calls Tryz.prog 119 #[ptrV b, .slice (some ⟨p + 1, co, none⟩) n ccap, .int .i64 10] w fun e w' => e = .returned (.tuple #[.slice (some ⟨N, 0, none⟩) n n, .int .i64 0]) ∧ (∃ RB', Enc w' t a b z p T RA RB' RZ R) ∧ Arr 3 mkN w' N n (planF c n) ∧ Fr (Rng t (p + 5)) w w' := by
  subst hN
  have l1 := h.l1; have l2 := h.l2; have l3 := h.l3; have l4 := h.l4
  have hB := sumTo_bound c 600 n hcb
  refine (plan_any (ccap := ccap) h.cb hc (by have := h.lt; omega) (fun q => by have := q.2; omega) hn (fun i hi => by have := hcb i hi; omega) (by have : n * 600 ≤ 265 * 600 := Nat.mul_le_mul_right _ hn; omega)).mono ?_
  rintro e w' ⟨R', rfl, h1, h2, h3, h4⟩
  exact ⟨rfl, ⟨R', h.onB h4 h1⟩, h3, h.wide h4 (by omega) (by omega)⟩
theorem dynL_at (ts : List Tok) (i : Nat) (hi : i < 273) : len (dynL ts) i = if i < 265 then planF (fun i => len (cntA ts) i) 265 i else planF (fun i => len (cntB ts) i) 8 (i - 265) := by
  unfold dynL
  by_cases h : i < 265
  · rw [if_pos h, len_append_left (by rw [lensA_length]; exact h), lensA, planL_len (by rw [cntA_length]; exact h), cntA_length]
  · rw [if_neg h, len_append_right (lensA_length ts) (by omega), lensB, planL_len (by rw [cntB_length]; omega), cntB_length]
set_option maxRecDepth 100000 in
set_option maxHeartbeats 4000000 in
theorem lengths_any {w : World} {t a b z p : Nat} {T : Tp} {RA RB : CdR} {RZ : MtR} {R : PkR} (h : Enc w t a b z p T RA RB RZ R) {ts : List Tok} (hc : R.count = countsF ts) (hn : ts.length ≤ 256) :
    Calls Tryz.prog 88 #[ptrV p] w fun e w' => e = .returned (.tuple #[]) ∧ (∃ RA' RB', Enc w' t a b z p T RA' RB' RZ { R with plan := len (dynL ts) }) ∧ Fr (Rng t (p + 5)) w w' := by
  have c1 := h.pk.c_a
  have c2 := h.pk.c_b
  rw [h.ea] at c1
  rw [h.eb] at c2
  unfold ptrV at c1 c2
  have c3 := h.pk.p_count
  have c4 := h.pk.p_plan
  have hsz := h.lt
  obtain ⟨N, hN⟩ : ∃ N, w.heap.size = N := ⟨_, rfl⟩
  rw [hN] at hsz
  have hca : ∀ w2 RA RB, Enc w2 t a b z p T RA RB RZ R → Cel mkN w2 (p + 1) 0 265 (fun i => len (cntA ts) i) := by
    intro w2 RA RB h2
    have h5 := h2.pk.a_count.cel.part (k := 0) (m := 265) (by omega)
    refine Cel.congr (by simpa using h5) fun i hi => ?_
    simp only [Nat.zero_add, hc]; exact (cntA_len hi).symm
  have hcb : ∀ w2 RA RB, Enc w2 t a b z p T RA RB RZ R → Cel mkN w2 (p + 1) 265 8 (fun i => len (cntB ts) i) := by
    intro w2 RA RB h2
    have h5 := h2.pk.a_count.cel.part (k := 265) (m := 8) (by omega)
    refine Cel.congr (by simpa using h5) fun i hi => ?_
    simp only [hc]; exact (cntB_len hi).symm
  have hbA : ∀ i, i < 265 → len (cntA ts) i ≤ 600 := fun i hi => by rw [cntA_len hi]; have := countsF_le ts i; omega
  have hbB : ∀ i, i < 8 → len (cntB ts) i ≤ 600 := fun i hi => by rw [cntB_len hi]; have := countsF_le ts (265 + i); omega
  have HPA : Hid (∀ wx, Fr Nob w wx → wx.heap.size = N → _) := hid (fun wx (hf : Fr Nob w wx) (hs : wx.heap.size = N) => (h.fr hf (fun _ _ _ x => x)).planA (ccap := 273) hs (hca wx RA RB (h.fr hf (fun _ _ _ x => x))) (by omega) hbA)
  have HPB := hid (fun wx N RA RB (h2 : Enc wx t a b z p T RA RB RZ R) (hs : wx.heap.size = N) => h2.planB (ccap := 8) hs (hcb wx RA RB h2) (by omega) hbB)
  have H := hid h
  have HSZ := hid hsz
  have HL := hid (And.intro h.l1 (And.intro h.l2 (And.intro h.l3 h.l4)))
  clear h hc hn hca hcb hbA hbB hsz
  refine calls_via fun K hK => ?_
  unfold ptrV at HPA HPB ⊢
  go_enter Tryz.func88, Tryz.ntmps88
  go_upto_region 0 with fail
  go_cut [2, 3] (fun lv ev wx => lv = .slice (some ⟨N, 0, none⟩) 265 265 ∧ (∃ RA2, Enc wx t a b z p T RA2 RB RZ R) ∧ Arr 3 mkN wx N 265 (planF (fun i => len (cntA ts) i) 265) ∧ Fr (Rng t (p + 5)) w wx)
  case first =>
    go_region_with (go_at_call 119; refine (HPA.out _ (by first | exact Fr.refl _ _ | exact (Fr.refl _ _).drew | exact Fr.of_drewN) (by first | exact hN | simpa using hN)).mono ?_; rintro e w1 ⟨rfl, ⟨RA2, h1⟩, ha1, hf1⟩)
    all_goals (have HX := hid (And.intro h1 (And.intro ha1 hf1)); clear h1 ha1 hf1; go_wp2_with fail; go_meet; exact ⟨rfl, ⟨_, HX.out.1⟩, HX.out.2.1, by first | exact HX.out.2.2 | exact Fr.trans ((Fr.refl (Rng t (p + 5)) w).drew) HX.out.2.2 | exact Fr.trans (Fr.of_drewN (S := Rng t (p + 5))) HX.out.2.2⟩)
  case rest =>
  obtain ⟨rfl, ⟨RA2, h1⟩, ha1, hf1⟩ := hcut
  obtain ⟨w1, rfl⟩ : ∃ w1, w1 = wc := ⟨_, rfl⟩
  obtain ⟨N1, hN1⟩ : ∃ N, w1.heap.size = N := ⟨_, rfl⟩
  have hNN1 : N < N1 := by rw [← hN1]; exact ha1.lt
  have d1 := h1.pk.c_a
  have d2 := h1.pk.c_b
  have d3 := h1.pk.p_count
  have d4 := h1.pk.p_plan
  rw [h1.ea] at d1
  rw [h1.eb] at d2
  unfold ptrV at d1 d2
  have H1 := hid h1
  have HA1 := hid ha1
  have HF1 := hid hf1
  have HN1 := hid (And.intro hNN1 hN1)
  clear c1 c2 c3 c4 h1 ha1 hf1 hNN1 hN
  go_upto_region 1 with fail
  go_cut [4, 5] (fun lv ev wx => lv = .slice (some ⟨N1, 0, none⟩) 8 8 ∧ (∃ RB2, Enc wx t a b z p T RA2 RB2 RZ R) ∧ Arr 3 mkN wx N1 8 (planF (fun i => len (cntB ts) i) 8) ∧ Fr (Rng t (p + 5)) w1 wx)
  case first =>
    go_region_with (go_at_call 119; refine (HPB.out _ N1 RA2 RB (by first | exact H1.out | exact H1.out.drew | exact H1.out.drewN) (by first | exact hN1 | simpa using hN1)).mono ?_; rintro e w2 ⟨rfl, ⟨RB2, h2⟩, ha2, hf2⟩)
    all_goals (have HX := hid (And.intro h2 (And.intro ha2 hf2)); clear h2 ha2 hf2; go_wp2_with fail; go_meet; exact ⟨rfl, ⟨_, HX.out.1⟩, HX.out.2.1, by first | exact HX.out.2.2 | exact Fr.trans ((Fr.refl (Rng t (p + 5)) w1).drew) HX.out.2.2 | exact Fr.trans (Fr.of_drewN (S := Rng t (p + 5))) HX.out.2.2⟩)
  case rest =>
  obtain ⟨rfl, ⟨RB2, h2⟩, ha2, hf12⟩ := hcut
  obtain ⟨w2, rfl⟩ : ∃ w2, w2 = wc := ⟨_, rfl⟩
  have e3 := h2.pk.p_plan
  have hfN : Arr 3 mkN w2 N 265 (planF (fun i => len (cntA ts) i) 265) := HA1.out.fr hf12 (fun q => by have := HSZ.out; have := q.2; omega)
  have H2 := hid h2
  have HA2 := hid ha2
  have HAN := hid hfN
  have HF2 := hid (HF1.out.trans hf12)
  clear d1 d2 d3 d4 h2 ha2 hf12 hfN hN1
  go_wp2_with ((with_reducible refine gd_copy rfl ?_); first
    | (refine wp_cpo rfl _ _ 58 58 rfl Tryz.underlying58 Tryz.size3 (p + 2) 0 273 265 273 N 0 265 265 rfl rfl H2.out.pk.a_plan (Nat.le_refl _) (by omega) HAN.out.cel oneN ?_; intro w3 ha3 hs3 hf3; have H3 := hid (H2.out.onP (hf3.mono fun x hx _ => by unfold One at hx; subst hx; exact ⟨by omega, by omega⟩) (H2.out.pk.withPlan hf3 ha3) rfl rfl rfl rfl); have e3' := H3.out.pk.p_plan; have HA23 := hid (HA2.out.fr hf3 (fun q => by have := HN1.out; have := HSZ.out; unfold One at q; omega)); have HF3 := hid hf3; clear ha3 hs3 hf3)
    | (refine wp_cpo rfl _ _ 58 58 rfl Tryz.underlying58 Tryz.size3 (p + 2) 265 273 8 8 N1 0 8 8 rfl rfl H3.out.pk.a_plan (Nat.le_refl _) (by omega) HA23.out.cel oneN ?_; intro w4 ha4 hs4 hf4; have H4 := hid (H3.out.onP (hf4.mono fun x hx _ => by unfold One at hx; subst hx; exact ⟨by omega, by omega⟩) (H3.out.pk.withPlan hf4 ha4) rfl rfl rfl rfl); have HF4 := hid hf4; clear ha4 hs4 hf4))
  go_end0
  have l := HL.out
  refine hK.out _ _ ⟨rfl, ⟨RA2, RB2, ?_⟩, ?_⟩
  · have h8 := H4.out
    refine h8.onP (Fr.refl _ _) (h8.pk.congrP fun i hi => ?_) rfl rfl rfl rfl
    rw [dynL_at ts i hi]
    dsimp only
    by_cases e : i < 265
    · rw [if_neg (by omega), if_pos (by omega), if_pos e, Nat.sub_zero]
    · rw [if_pos (by omega), if_neg e]
  · have hf : ∀ {x y : World}, Fr (One (p + 2)) x y → Fr (Rng t (p + 5)) x y := fun h => h.mono fun x hx _ => by unfold One at hx; subst hx; exact ⟨by omega, by omega⟩
    exact (HF2.out.trans (hf HF3.out)).trans (hf HF4.out)
/-- Counting lays nothing. -/
theorem item_no {w : World} {b : Nat} {x v more : Nat} (hm : more ≤ 7) : Calls Tryz.prog 153 #[ptrV b, .int .i64 x, .int .i64 v, .int .i64 more, .bool false] w fun e w' => e = .returned (.int .i64 ((4 + more : Nat) : Int)) ∧ w' = w := by
  have hmi : (more : Int) ≤ 7 := by omega
  refine calls_via fun K hK => ?_
  unfold ptrV
  go_enter Tryz.func153, Tryz.ntmps153
  go_wp2_with fail
  exact hK.out _ _ ⟨ret_int (by simp), rfl⟩
theorem layNo {w : World} {b : Nat} {R : PkR} (h : PkAt w b R) : LayP b R false (fun w2 _ => w2 = w) (fun _ => True) :=
  ⟨fun w2 its e => by subst e; exact h, fun w2 its it e _ _ _ hm _ => by subst e; exact (item_no hm).mono fun e w' h => ⟨h.1, h.2⟩, fun _ _ _ => trivial⟩
theorem itemBits_le {l : List Nat} (k : Nat) : ∀ i, l.length - i = k → itemBits (itP l i) ≤ 11 * k := by
  induction k using Nat.strongRecOn with
  | _ k ih =>
    intro i hk
    by_cases hi : i < l.length
    · rw [itP_step l i hi]
      have h2 := itemAt_adv l i hi
      have h3 := ih (l.length - (i + (itemAt l i).2)) (by omega) _ rfl
      have h4 : (itemAt l i).1.more ≤ 7 := by
        unfold itemAt; split
        · simp
        · split <;> simp
      simp only [itemBits, List.map_cons, List.sum_cons] at *; omega
    · rw [itP_end l i (by omega)]; simp [itemBits]
theorem dynL_length (ts : List Tok) : (dynL ts).length = 273 := by unfold dynL; rw [List.length_append, lensA_length, lensB_length]
theorem dynL_le (ts : List Tok) (i : Nat) : len (dynL ts) i ≤ 10 := lens_le (lensA_ok ts).1 (lensB_ok ts).1 i
theorem bodyBits_le {c l : Nat → Nat} (h1 : ∀ s, s < 273 → c s ≤ 600) (h2 : ∀ s, s < 273 → l s ≤ 10) : bodyBits c l ≤ 2000000 := by
  rw [bodyBits_def]
  have := sumTo_bound (bodyG c l) 7200 273 (fun i hi => bodyG_le (h1 i hi) (h2 i hi)); omega
set_option maxRecDepth 100000 in
theorem choose_any {w : World} {b : Nat} {R : PkR} (h : PkAt w b R) {ts : List Tok} {n : Nat} (hc : R.count = countsF ts) (hp : R.plan = len (dynL ts)) (hts : ts.length ≤ 256) (hn : n ≤ 256) :
    Calls Tryz.prog 89 #[ptrV b, .int .i64 n] w fun e w' => e = .returned (.int .i64 (kindF n ts : Nat)) ∧ w' = w := by
  have hcb : ∀ s, s < 273 → R.count s ≤ 600 := fun s _ => by rw [hc]; have := countsF_le ts s; omega
  have hpb : ∀ s, s < 273 → R.plan s ≤ 10 := fun s _ => by rw [hp]; exact dynL_le ts s
  have hB := bodies_any h hcb hpb
  have hI := itemBits_le (l := dynL ts) _ 0 rfl
  rw [dynL_length] at hI
  have hL := list_any (layNo h) (w := w) rfl (dynL_length ts) (fun i _ => by rw [hp]) (dynL_le ts) trivial (by omega)
  have b1 := bodyBits_le hcb (fun s _ => fixL_le s)
  have b2 := bodyBits_le hcb hpb
  have hk : kindF n ts = chooseF (bitsSto n) (3 + bodyBits R.count (len fixL)) (3 + itemBits (itP (dynL ts) 0) + bodyBits R.count R.plan) := by
    rw [hc, hp]; rfl
  obtain ⟨f, hf⟩ : ∃ f, f = bodyBits R.count (len fixL) := ⟨_, rfl⟩
  obtain ⟨d, hd⟩ : ∃ f, f = bodyBits R.count R.plan := ⟨_, rfl⟩
  obtain ⟨i, hi⟩ : ∃ f, f = itemBits (itP (dynL ts) 0) := ⟨_, rfl⟩
  obtain ⟨kd, hkd⟩ : ∃ f, f = kindF n ts := ⟨_, rfl⟩
  rw [← hf] at hB b1 hk
  rw [← hd] at hB b2 hk
  rw [← hi] at hL hI hk
  rw [← hkd] at hk ⊢
  unfold chooseF bitsSto at hk
  have hni : (n : Int) ≤ 256 := by omega
  have hfi : (f : Int) ≤ 2000000 := by omega
  have hdi : (d : Int) ≤ 2000000 := by omega
  have hii : (i : Int) ≤ 3003 := by omega
  unfold ptrV at hB hL
  have HB := hid hB
  have HL := hid hL
  have HKD := hid hk
  clear h hc hp hts hcb hpb hB hI hL b1 b2 hf hd hi hkd hk
  refine calls_via fun K hK => ?_
  unfold ptrV
  by_cases q1 : 24 + 8 * n ≤ 3 + f
  · have q1i : (8 : Int) * (3 + n) ≤ f + 3 := by omega
    by_cases q2 : 24 + 8 * n ≤ 3 + i + d
    · have q2i : (8 : Int) * (3 + n) ≤ d + 3 + i := by omega
      go_enter Tryz.func89, Tryz.ntmps89
      go_wp2_with (first
        | (go_at_call 120; refine HB.out.mono ?_; rintro e w2 ⟨rfl, hw⟩; have hw2 := hw.symm; subst hw2; clear hw)
        | (go_at_call 121; refine HL.out.mono ?_; rintro e w2 ⟨rfl, hw⟩; have hw2 := hw.symm; subst hw2; clear hw))
      exact hK.out _ _ ⟨by rw [HKD.out, if_pos ⟨q1, q2⟩] <;> rfl, rfl⟩
    · have q2i : ¬ (8 : Int) * (3 + n) ≤ d + 3 + i := by omega
      by_cases q3 : 3 + f ≤ 3 + i + d
      · exact absurd (Nat.le_trans q1 q3) q2
      · have q3i : ¬ (f : Int) + 3 ≤ d + 3 + i := by omega
        go_enter Tryz.func89, Tryz.ntmps89
        go_wp2_with (first
          | (go_at_call 120; refine HB.out.mono ?_; rintro e w2 ⟨rfl, hw⟩; have hw2 := hw.symm; subst hw2; clear hw)
          | (go_at_call 121; refine HL.out.mono ?_; rintro e w2 ⟨rfl, hw⟩; have hw2 := hw.symm; subst hw2; clear hw))
        exact hK.out _ _ ⟨by rw [HKD.out, if_neg (fun h => q2 h.2), if_neg q3] <;> rfl, rfl⟩
  · have q1i : ¬ (8 : Int) * (3 + n) ≤ f + 3 := by omega
    by_cases q3 : 3 + f ≤ 3 + i + d
    · have q3i : (f : Int) + 3 ≤ d + 3 + i := by omega
      go_enter Tryz.func89, Tryz.ntmps89
      go_wp2_with (first
        | (go_at_call 120; refine HB.out.mono ?_; rintro e w2 ⟨rfl, hw⟩; have hw2 := hw.symm; subst hw2; clear hw)
        | (go_at_call 121; refine HL.out.mono ?_; rintro e w2 ⟨rfl, hw⟩; have hw2 := hw.symm; subst hw2; clear hw))
      exact hK.out _ _ ⟨by rw [HKD.out, if_neg (fun h => q1 h.1), if_pos q3] <;> rfl, rfl⟩
    · have q3i : ¬ (f : Int) + 3 ≤ d + 3 + i := by omega
      go_enter Tryz.func89, Tryz.ntmps89
      go_wp2_with (first
        | (go_at_call 120; refine HB.out.mono ?_; rintro e w2 ⟨rfl, hw⟩; have hw2 := hw.symm; subst hw2; clear hw)
        | (go_at_call 121; refine HL.out.mono ?_; rintro e w2 ⟨rfl, hw⟩; have hw2 := hw.symm; subst hw2; clear hw))
      exact hK.out _ _ ⟨by rw [HKD.out, if_neg (fun h => q1 h.1), if_neg q3] <;> rfl, rfl⟩
end Go.Proofs.Qxb6500353aGreat
