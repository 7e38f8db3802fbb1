/- The laying of the tables, walked. -/
import Derived.Test.Qxb6500353aGreatCow
namespace Go.Proofs.Qxb6500353aGreat
open Go.RowKit
set_option linter.unusedVariables false
set_option linter.unusedSimpArgs false

theorem or16 (s n : Nat) (hn : n < 16) : s * 16 ||| n = s * 16 + n := by
  have h := Nat.two_pow_add_eq_or_of_lt (i := 4) (b := n) (by simpa using hn) s
  rw [show s * 16 = 2 ^ 4 * s by omega, ← h]
theorem orCell {s n : Nat} (hn : n < 16) (hs : s < 1000000) : bits .or .i64 ((s : Int) * 16) (n : Int) = ((s * 16 + n : Nat) : Int) := by
  rw [show (s : Int) * 16 = ((s * 16 : Nat) : Int) by omega, orI (by omega) (by omega), or16 _ _ hn]
theorem mod_step {i d c : Nat} (h : i % d = c % d) : (i + d) % d = c % d := by rw [Nat.add_mod_right]; exact h
/-- Between one place of a residue and the next there is none. -/
theorem res_gap {i d c q : Nat} (hd : 0 < d) (hi : i % d = c) (h1 : i ≤ q) (h2 : q < i + d) (h3 : q % d = c) : q = i := by
  have e1 := Nat.div_add_mod i d
  have e2 := Nat.div_add_mod q d
  rw [hi] at e1
  rw [h3] at e2
  have : q / d = i / d := by
    have h4 : i / d ≤ q / d := Nat.div_le_div_right h1
    refine Nat.le_antisymm ?_ h4
    refine Classical.byContradiction fun hc => ?_
    have h5 : d * (i / d + 1) ≤ d * (q / d) := Nat.mul_le_mul_left _ (by omega)
    rw [Nat.mul_add, Nat.mul_one] at h5
    omega
  rw [this] at e2; omega
structure LayR (R : CdR) (l : List Nat) : Prop where
  n : R.n = l.length
  lens : ∀ s, s < l.length → R.lens s = len l s
  code : ∀ s, s < l.length → 0 < len l s → R.code s = Qxb6500353aGreat.code l s
  ok : Lawful l
set_option maxRecDepth 100000 in
set_option maxHeartbeats 4000000 in
theorem lay_any {w : World} {b : Nat} {R : CdR} {l : List Nat} (h : CdAt w b R) (ho : LayR R l) :
    Calls Tryz.prog 156 #[ptrV b] w fun e w' => e = .returned (.tuple #[]) ∧ ∃ R', CdAt w' b R' ∧ CoR R' l ∧ Fr (Rng b (b + 11)) w w' := by
  have H0 := hid h
  have HO := hid ho
  have hm3 : Rng b (b + 11) (b + 3) := ⟨by omega, by omega⟩
  have hm4 : Rng b (b + 11) (b + 4) := ⟨by omega, by omega⟩
  have hmb : Rng b (b + 11) b := ⟨by omega, by omega⟩
  have h265 := ho.ok.size
  clear h ho
  refine calls_via fun K hK => ?_
  unfold ptrV
  go_enter Tryz.func156, Tryz.ntmps156
  go_wp2_with fail
  go_loopg [2] 64 (fun g iv wr => ∃ (k : Nat) (rt : Nat → Int), g + k = 64 ∧ iv = .int .i64 (k : Nat) ∧ CdAt wr b { R with root := rt } ∧ (∀ p, p < k → rt p = 0) ∧ Fr (Rng b (b + 11)) w wr)
  case atStart => exact ⟨0, R.root, by omega, rfl, H0.out, fun p hp => by omega, Fr.refl _ _⟩
  case round =>
    obtain ⟨k, rt, hgk, rfl, hA, hz, hf⟩ := hrel
    have p3 := hA.p_root
    have z3 : ∀ i, wr.frozen? ⟨b + 3, i, none⟩ = false := hA.a_root.thaw
    by_cases hlt : k < 64
    · have hki : (k : Int) < 64 := by omega
      have x3 := hA.a_root.cell k hlt
      simp only [mkI] at x3
      have HA := hid hA
      have HZ := hid hz
      have HF := hid hf
      clear hA hz hf
      go_wp2_with fail
      go_roundg (gk - 1)
      case measure => omega
      case rel =>
        refine ⟨k + 1, _, by omega, by simp, HA.out.set_root k 0, fun p hp => ?_, HF.out.setS hm3 _ _⟩
        by_cases e : p = k
        · subst e; exact upd_self _ _ _
        · rw [upd_ne _ _ _ _ e]; exact HZ.out p (by omega)
    · have hki : ¬ (k : Int) < 64 := by omega
      have hk64 : k = 64 := by omega
      subst hk64
      have HA := hid hA
      have HZ := hid hz
      have HF := hid hf
      obtain ⟨n, hn⟩ : ∃ n, n = l.length := ⟨_, rfl⟩
      have HNN := hid hn
      clear hA hz hf
      go_wp2_with fail
      go_loopg [3] n (fun g sv w2 => ∃ (s : Nat) (rt : Nat → Int), g + s = n ∧ sv = .int .i64 (s : Nat) ∧ CdAt w2 b { R with root := rt } ∧ (∀ p, p < 64 → rt p = lay1 l s p) ∧ Fr (Rng b (b + 11)) w w2)
      case atStart => exact ⟨0, rt, by omega, rfl, HA.out, fun p hp => HZ.out p hp, HF.out⟩
      case round =>
        obtain ⟨s, rt2, hgs, rfl, hA2, hr2, hf2⟩ := hrel
        obtain ⟨gO, hgO⟩ : ∃ g, g = gk := ⟨_, rfl⟩
        rw [← hgO] at hgs
        have cn := hA2.c_n
        have hon := HO.out.n
        dsimp only at cn
        rw [hon, ← hn] at cn
        by_cases hlt : s < n
        · have hsi : (s : Int) < n := by omega
          have hs265 : (s : Int) < 265 := by omega
          have p1 := hA2.p_lens
          have p2 := hA2.p_code
          have p3 := hA2.p_root
          have x1 := hA2.a_lens.cell s (by omega)
          have x2 := hA2.a_code.cell s (by omega)
          have z3 : ∀ i, wr.frozen? ⟨b + 3, i, none⟩ = false := hA2.a_root.thaw
          simp only [mkN] at x1 x2
          have hol := HO.out.lens s (by omega)
          have hoc := HO.out.code s (by omega)
          skip
          rw [hol] at x1
          have h10 := HO.out.ok.toFit.len_le s
          obtain ⟨x, hx⟩ : ∃ x, x = len l s := ⟨_, rfl⟩
          rw [← hx] at x1 h10 hoc
          have hxi : (x : Int) ≤ 10 := by omega
          by_cases h6 : 6 < x
          · have h6i : (6 : Int) < x := by omega
            rw [hoc (by omega)] at x2
            have hcl := code_lt l s
            rw [← hx] at hcl
            have hcb : code l s < 1024 := Nat.lt_of_lt_of_le hcl (Nat.pow_le_pow_right (n := 2) (i := x) (j := 10) (by decide) h10)
            clear hcl
            obtain ⟨c, hc⟩ : ∃ c, c = code l s := ⟨_, rfl⟩
            rw [← hc] at x2 hcb
            have e63 : bits .and .i64 (c : Int) 63 = ((c % 64 : Nat) : Int) := mask63 (by omega)
            have hm : c % 64 < 64 := Nat.mod_lt _ (by decide)
            have x3 := hA2.a_root.cell (c % 64) hm
            simp only [mkI] at x3
            skip
            have hr3 := hr2 (c % 64) hm
            rw [hr3] at x3
            have hlo := lay1_ge HO.out.ok.toFit s (c % 64)
            have hhi : lay1 l s (c % 64) ≤ 265 * 16 + 16 := by
              by_cases h0 : 0 < lay1 l s (c % 64)
              · obtain ⟨t, h1, h2, h3, h4⟩ := lay1_pos s _ h0
                have h5 := len_lt h2.1
                rw [h4]; omega
              · omega
            have hnx : ∀ q, q < 64 → lay1 l (s + 1) q = if q = c % 64 ∧ -(lay1 l s q) < (x : Int) - 6 then 6 - (x : Int) else lay1 l s q := by
              intro q hq
              rw [lay1, ← hx, if_pos h6, ← hc]
            obtain ⟨m, hmm⟩ : ∃ m, m = c % 64 := ⟨_, rfl⟩
            rw [← hmm] at e63 hm x3 hlo hhi hnx
            obtain ⟨v, hv⟩ : ∃ v, v = lay1 l s m := ⟨_, rfl⟩
            rw [← hv] at x3 hlo hhi
            have hmi : (m : Int) < 64 := by omega
            have HA2 := hid hA2
            have HR2 := hid hr2
            have HF2 := hid hf2
            have HNX := hid hnx
            have HV := hid hv
            clear hA2 hr2 hf2 hnx hol hoc hx hc hmm hr3 hv
            by_cases hlt2 : -v < (x : Int) - 6
            · go_wp2_with fail
              go_roundg (gk - 1)
              case measure => omega
              case rel =>
                refine ⟨s + 1, _, by omega, by simp, HA2.out.set_root m (6 - (x : Int)), fun q hq => ?_, HF2.out.setS hm3 _ _⟩
                rw [HNX.out q hq]
                by_cases e : q = m
                · subst e; rw [upd_self, if_pos ⟨rfl, by rw [← HV.out]; exact hlt2⟩]
                · rw [upd_ne _ _ _ _ e, if_neg (fun h => e h.1)]; exact HR2.out q hq
            · go_wp2_with fail
              go_roundg (gk - 1)
              case measure => omega
              case rel =>
                refine ⟨s + 1, _, by omega, by simp, HA2.out, fun q hq => ?_, HF2.out⟩
                rw [HNX.out q hq]
                by_cases e : q = m
                · subst e; rw [if_neg (fun h => by have h2 := h.2; rw [← HV.out] at h2; omega)]; exact HR2.out q hq
                · rw [if_neg (fun h => e h.1)]; exact HR2.out q hq
          · have h6i : ¬ (6 : Int) < x := by omega
            by_cases h0 : 0 < x
            · have h0i : (0 : Int) < x := by omega
              rw [hoc h0] at x2
              have hcl := code_lt l s
              rw [← hx] at hcl
              obtain ⟨c, hc⟩ : ∃ c, c = code l s := ⟨_, rfl⟩
              rw [← hc] at x2 hcl
              have hD1 := pw_pos x
              have hD2 : 2 ^ x ≤ 2 ^ 6 := Nat.pow_le_pow_right (by decide) (by omega)
              have hsh : wrap64 (2 ^ x) = ((2 ^ x : Nat) : Int) := w64p (by omega)
              have hnx : ∀ q, q < 64 → lay1 l (s + 1) q = if q % 2 ^ x = c then ((s * 16 + x : Nat) : Int) else lay1 l s q := by
                intro q hq
                rw [lay1, ← hx, if_neg h6, if_pos h0, ← hc]
              obtain ⟨D, hD⟩ : ∃ D, D = 2 ^ x := ⟨_, rfl⟩
              rw [← hD] at hcl hD1 hD2 hsh hnx
              have h64 : (2 : Nat) ^ 6 = 64 := rfl
              rw [h64] at hD2
              have hcm : c % D = c := Nat.mod_eq_of_lt hcl
              have hor := orCell (s := s) (n := x) (by omega) (by omega)
              have hDi : (D : Int) ≤ 64 := by omega
              have hci : (c : Int) < 64 := by omega
              have HA2 := hid hA2
              have HR2 := hid hr2
              have HF2 := hid hf2
              have HNX := hid hnx
              have HD1 := hid (And.intro hD1 (And.intro hcm hcl))
              clear hA2 hr2 hf2 hnx hol hoc hx hc hD hcl hD1 hcm h64
              go_wp2_with fail
              go_loopg [6] 64 (fun g iv w3 => ∃ (i : Nat) (rt3 : Nat → Int), 64 ≤ g + i ∧ i < 128 ∧ iv = .int .i64 (i : Nat) ∧ i % D = c ∧ CdAt w3 b { R with root := rt3 } ∧ (∀ q, q < 64 → rt3 q = if q % D = c ∧ q < i then ((s * 16 + x : Nat) : Int) else lay1 l s q) ∧ Fr (Rng b (b + 11)) w w3)
              case atStart =>
                refine ⟨c, rt2, by omega, by omega, rfl, HD1.out.2.1, HA2.out, fun q hq => ?_, HF2.out⟩
                rw [if_neg]; exact HR2.out q hq
                rintro ⟨h1, h2⟩
                have := Nat.mod_eq_of_lt (Nat.lt_trans h2 HD1.out.2.2); omega
              case round =>
                obtain ⟨i, rt3, hgi, hi128, rfl, him, hA3, hr3, hf3⟩ := hrel
                have p3 := hA3.p_root
                have z3 : ∀ i, wr.frozen? ⟨b + 3, i, none⟩ = false := hA3.a_root.thaw
                have hD1 := HD1.out.1
                by_cases hi : i < 64
                · have hii : (i : Int) < 64 := by omega
                  have hstep := mod_step (d := D) (i := i) (c := c) (by rw [him, HD1.out.2.1])
                  rw [HD1.out.2.1] at hstep
                  have x3 := hA3.a_root.cell i hi
                  simp only [mkI] at x3
                  have HA3 := hid hA3
                  have HR3 := hid hr3
                  have HF3 := hid hf3
                  have HIM := hid him
                  clear hA3 hr3 hf3 him
                  go_wp2_with fail
                  go_roundg (gk - 1)
                  case measure => omega
                  case rel =>
                    refine ⟨i + D, _, by omega, by omega, by simp, hstep, HA3.out.set_root i ((s * 16 + x : Nat) : Int), fun q hq => ?_, HF3.out.setS hm3 _ _⟩
                    by_cases e : q = i
                    · dsimp only; subst e; rw [upd_self, if_pos ⟨HIM.out, by omega⟩]
                    · dsimp only
                      rw [upd_ne _ _ _ _ e, HR3.out q hq]
                      by_cases h1 : q % D = c
                      · by_cases h2 : q < i
                        · rw [if_pos ⟨h1, h2⟩, if_pos ⟨h1, by omega⟩]
                        · rw [if_neg (fun h => h2 h.2)]
                          rw [if_neg (fun h => e (res_gap hD1 HIM.out (by omega) h.2 h1))]
                      · rw [if_neg (fun h => h1 h.1), if_neg (fun h => h1 h.1)]
                · have hii : ¬ (i : Int) < 64 := by omega
                  have HA3 := hid hA3
                  have HR3 := hid hr3
                  have HF3 := hid hf3
                  clear hA3 hr3 hf3 him
                  go_wp2_with fail
                  go_roundg (gO - 1)
                  case measure => omega
                  case rel =>
                    refine ⟨s + 1, rt3, by omega, by simp, HA3.out, fun q hq => ?_, HF3.out⟩
                    rw [HNX.out q hq, HR3.out q hq]
                    by_cases h1 : q % D = c
                    · rw [if_pos ⟨h1, by omega⟩, if_pos h1]
                    · rw [if_neg (fun h => h1 h.1), if_neg h1]
            · have h0i : ¬ (0 : Int) < x := by omega
              have hx0 : x = 0 := by omega
              have hnx : ∀ q, lay1 l (s + 1) q = lay1 l s q := by
                intro q; rw [lay1, ← hx, if_neg h6, if_neg h0]
              have HA2 := hid hA2
              have HR2 := hid hr2
              have HF2 := hid hf2
              have HNX := hid hnx
              clear hA2 hr2 hf2 hnx hol hoc hx
              subst hx0
              go_wp2_with fail
              go_roundg (gk - 1)
              case measure => omega
              case rel => exact ⟨s + 1, rt2, by omega, by simp, HA2.out, fun q hq => by rw [HNX.out]; exact HR2.out q hq, HF2.out⟩
        · have hsiN : ¬ (s : Int) < n := by omega
          have hsn : s = n := by omega
          subst hsn
          obtain ⟨R1, hR1⟩ : ∃ f, f = lay1 l l.length := ⟨_, rfl⟩
          have hge : ∀ q, -4 ≤ R1 q := fun q => by rw [hR1]; exact lay1_ge HO.out.ok.toFit _ _
          have hT64 := topF_le R1 hge 64
          have hr2b : ∀ q, q < 64 → rt2 q = R1 q := fun q hq => by rw [hr2 q hq, hn, hR1]
          have HA2 := hid hA2
          have HR2 := hid hr2b
          have HF2 := hid hf2
          have HR1 := hid hR1
          have HGE := hid hge
          have HT64 := hid hT64
          have ct := hA2.c_top
          have cfz : ∀ i, wr.frozen? ⟨b, i, none⟩ = false := hA2.fz
          clear hA2 hr2 hr2b hf2 hR1 hge hT64
          go_wp2_with fail
          go_loopg [7] 64 (fun g pv w4 => ∃ (q : Nat) (rt sb : Nat → Int), g + q = 64 ∧ pv = .int .i64 (q : Nat) ∧ CdAt w4 b { R with root := rt, sub := sb, top := topF R1 q } ∧ (∀ z, z < 64 → rt z = if z < q then lay2 R1 z else R1 z) ∧ (∀ x, x < topF R1 q → sb x = 0) ∧ Fr (Rng b (b + 11)) w w4)
          case atStart => exact ⟨0, rt2, R.sub, by omega, rfl, HA2.out.set_top 0, fun z hz => by rw [if_neg (by omega)]; exact HR2.out z hz, fun x hx => by simp [topF] at hx, HF2.out.setS hmb _ _⟩
          case round =>
            obtain ⟨q, rt, sb, hgq, rfl, hA4, hr4, hs4, hf4⟩ := hrel
            obtain ⟨gO, hgO⟩ : ∃ g, g = gk := ⟨_, rfl⟩
            rw [← hgO] at hgq
            have p3 := hA4.p_root
            have z3 : ∀ i, wr.frozen? ⟨b + 3, i, none⟩ = false := hA4.a_root.thaw
            by_cases hq : q < 64
            · have hqi : (q : Int) < 64 := by omega
              have x3 := hA4.a_root.cell q hq
              simp only [mkI] at x3
              have hrq := hr4 q hq
              rw [if_neg (by omega)] at hrq
              rw [hrq] at x3
              have hgeq := HGE.out q
              have htm := topF_mono R1 (show q + 1 ≤ 64 by omega)
              have hT := HT64.out
              have htq : topF R1 (q + 1) = topF R1 q + if R1 q < 0 then 2 ^ (-R1 q).toNat else 0 := rfl
              have hrnew : ∀ v, v = lay2 R1 q → ∀ z, z < 64 → upd rt q v z = if z < q + 1 then lay2 R1 z else R1 z := by
                intro v hv z hz
                by_cases e : z = q
                · subst e; rw [upd_self, if_pos (by omega), hv]
                · rw [upd_ne _ _ _ _ e, hr4 z hz]
                  by_cases e2 : z < q
                  · rw [if_pos e2, if_pos (by omega)]
                  · rw [if_neg e2, if_neg (by omega)]
              by_cases hneg : R1 q < 0
              · obtain ⟨W, hW⟩ : ∃ W, W = (-R1 q).toNat := ⟨_, rfl⟩
                have hRW : R1 q = -(W : Int) := by omega
                rw [if_pos hneg, ← hW] at htq
                have hl2 : -(((topF R1 q * 16 + W : Nat) : Int)) = lay2 R1 q := by unfold lay2; rw [if_pos hneg, ← hW]
                rw [hRW] at x3
                have hW4 : W ≤ 4 := by omega
                have hW1 : 1 ≤ W := by omega
                have hsh : wrap64 (2 ^ W) = ((2 ^ W : Nat) : Int) := w64p (by omega)
                obtain ⟨E, hE⟩ : ∃ E, E = 2 ^ W := ⟨_, rfl⟩
                rw [← hE] at hsh htq
                have ct := hA4.c_top
                have cfz : ∀ i, wr.frozen? ⟨b, i, none⟩ = false := hA4.fz
                obtain ⟨T, hTT⟩ : ∃ T, T = topF R1 q := ⟨_, rfl⟩
                dsimp only at ct
                rw [← hTT] at ct hl2 htq hs4
                have hTb : T + E ≤ 1024 := by clear hsh; omega
                have hor := orCell (s := T) (n := W) (by omega) (by omega)
                have hTi : (T : Int) ≤ 1024 := by omega
                have hWi : (W : Int) ≤ 4 := by omega
                have hW0 : (0 : Int) < W := by omega
                have hEi : (E : Int) ≤ 1024 := by clear hsh; omega
                have HA4 := hid hA4
                have HRN := hid (hrnew _ hl2)
                have HS4 := hid hs4
                have HF4 := hid hf4
                have HTQ := hid (And.intro htq (And.intro hTb hTT))
                clear hA4 hr4 hs4 hf4 hrnew hrq hl2 htq hTb hTT hgeq htm hT hW hRW hE hneg
                go_wp2_with fail
                go_region
                go_wp2_with fail
                go_loopg [9] E (fun g jv w5 => ∃ (j : Nat) (sb5 : Nat → Int), g + j = E ∧ jv = .int .i64 (j : Nat) ∧ CdAt w5 b { R with root := upd rt q (-((T * 16 + W : Nat) : Int)), sub := sb5, top := T + j } ∧ (∀ x, x < T + j → sb5 x = 0) ∧ Fr (Rng b (b + 11)) w w5)
                case atStart =>
                  have h9 := HA4.out.set_root q (-((T * 16 + W : Nat) : Int))
                  dsimp only at h9
                  rw [← HTQ.out.2.2] at h9
                  exact ⟨0, sb, by clear hsh; omega, rfl, h9.drew, fun x hx => HS4.out x (by omega), (HF4.out.setS hm3 _ _).drew⟩
                case round =>
                  obtain ⟨j, sb5, hgj, rfl, hA5, hs5, hf5⟩ := hrel
                  have ct := hA5.c_top
                  have p4 := hA5.p_sub
                  have cfz : ∀ i, wr.frozen? ⟨b, i, none⟩ = false := hA5.fz
                  have z4 : ∀ i, wr.frozen? ⟨b + 4, i, none⟩ = false := hA5.a_sub.thaw
                  dsimp only at ct
                  obtain ⟨y, hy⟩ : ∃ y, y = T + j := ⟨_, rfl⟩
                  rw [← hy] at ct
                  by_cases hj : j < E
                  · have hji : (j : Int) < E := by omega
                    have hyb : y < 1024 := by have := HTQ.out.2.1; clear hsh; omega
                    have hyi : (y : Int) < 1024 := by omega
                    have x4 := hA5.a_sub.cell y hyb
                    simp only [mkI] at x4
                    have HA5 := hid hA5
                    have HS5 := hid hs5
                    have HF5 := hid hf5
                    have HY := hid hy
                    clear hA5 hs5 hf5 hy
                    go_wp2_with fail
                    go_region
                    go_wp2_with fail
                    go_roundg (gk - 1)
                    case measure => clear hsh; omega
                    case rel =>
                      have hy := HY.out
                      have h9 := (HA5.out.set_sub y 0).set_top (y + 1)
                      have h8 := (HF5.out.setS hm4 y (.int .i64 (0 : Int))).setS hmb 5 (.int .i64 ((y + 1 : Nat) : Int))
                      rw [Int.natCast_add] at h9 h8
                      refine ⟨j + 1, upd sb5 y 0, by clear hsh; omega, by simp, ?_, fun x hx => ?_, ?_⟩
                      · rw [show T + (j + 1) = y + 1 by omega]
                        first | exact h9.drew | exact h9
                      · by_cases e : x = y
                        · subst e; exact upd_self _ _ _
                        · rw [upd_ne _ _ _ _ e]; exact HS5.out x (by omega)
                      · first | exact h8.drew | exact h8
                  · have hji : ¬ (j : Int) < E := by omega
                    have hjE : j = E := by omega
                    have HA5 := hid hA5
                    have HS5 := hid hs5
                    have HF5 := hid hf5
                    clear hA5 hs5 hf5 hy
                    go_wp2_with fail
                    go_roundg (gO - 1)
                    case measure => clear hsh; omega
                    case rel =>
                      have h1 := HTQ.out.1
                      refine ⟨q + 1, _, sb5, by omega, by simp, ?_, HRN.out, ?_, HF5.out⟩
                      · rw [h1, ← hjE]; exact HA5.out
                      · rw [h1, ← hjE]; exact HS5.out
              · rw [if_neg hneg, Nat.add_zero] at htq
                have hl2 : R1 q = lay2 R1 q := by unfold lay2; rw [if_neg hneg]
                have hnegi : ¬ R1 q < 0 := hneg
                obtain ⟨v, hv⟩ : ∃ v, v = R1 q := ⟨_, rfl⟩
                rw [← hv] at x3 hnegi
                have hrn := hrnew _ hl2
                have hrt : ∀ z, z < 64 → rt z = if z < q + 1 then lay2 R1 z else R1 z := by
                  intro z hz
                  rw [← hrn z hz]
                  by_cases e : z = q
                  · subst e; rw [upd_self, hrq]
                  · rw [upd_ne _ _ _ _ e]
                have HA4 := hid hA4
                have HRT := hid hrt
                have HS4 := hid hs4
                have HF4 := hid hf4
                have HTQ := hid htq
                clear hA4 hr4 hs4 hf4 hrnew hrq hl2 htq hrt hrn hgeq htm hT hv hneg
                go_wp2_with fail
                go_roundg (gO - 1)
                case measure => omega
                case rel => exact ⟨q + 1, rt, sb, by omega, by simp, by rw [HTQ.out]; exact HA4.out, HRT.out, by rw [HTQ.out]; exact HS4.out, HF4.out⟩
            · have hqi : ¬ (q : Int) < 64 := by omega
              have hq64 : q = 64 := by omega
              subst hq64
              have hr6 : ∀ z, z < 64 → rt z = lay2 R1 z := fun z hz => by rw [hr4 z hz, if_pos hz]
              have HA4 := hid hA4
              have HR6 := hid hr6
              have HS4 := hid hs4
              have HF4 := hid hf4
              clear hA4 hr4 hs4 hf4 hr6
              go_wp2_with fail
              go_loopg [10] s (fun g sv w6 => ∃ (t : Nat) (sb6 : Nat → Int), g + t = s ∧ sv = .int .i64 (t : Nat) ∧ CdAt w6 b { R with root := rt, sub := sb6, top := topF R1 64 } ∧ (∀ x, x < topF R1 64 → sb6 x = ((lay3 l R1 t x : Nat) : Int)) ∧ Fr (Rng b (b + 11)) w w6)
              case atStart => exact ⟨0, sb, by omega, rfl, HA4.out, fun x hx => by rw [HS4.out x hx]; rfl, HF4.out⟩
              case round =>
                obtain ⟨t, sb6, hgt, rfl, hA6, hs6, hf6⟩ := hrel
                obtain ⟨gO, hgO⟩ : ∃ g, g = gk := ⟨_, rfl⟩
                rw [← hgO] at hgt
                have cn := hA6.c_n
                have hon := HO.out.n
                dsimp only at cn
                rw [hon, ← hn] at cn
                by_cases hlt : t < s
                · have hti : (t : Int) < s := by omega
                  have ht265 : (t : Int) < 265 := by omega
                  have p1 := hA6.p_lens
                  have p2 := hA6.p_code
                  have p3 := hA6.p_root
                  have x1 := hA6.a_lens.cell t (by omega)
                  have x2 := hA6.a_code.cell t (by omega)
                  simp only [mkN] at x1 x2
                  have hol := HO.out.lens t (by omega)
                  have hoc := HO.out.code t (by omega)
                  rw [hol] at x1
                  have h10 := HO.out.ok.toFit.len_le t
                  have hlk := fun h6 => link_ok HO.out.ok.toFit (s := t) h6
                  obtain ⟨x, hx⟩ : ∃ x, x = len l t := ⟨_, rfl⟩
                  rw [← hx] at x1 h10 hoc hlk
                  have hxi : (x : Int) ≤ 10 := by omega
                  by_cases h6 : 6 < x
                  · have h6i : (6 : Int) < x := by omega
                    rw [hoc (by omega)] at x2
                    have hcl := code_lt l t
                    rw [← hx] at hcl
                    have hcb : code l t < 1024 := Nat.lt_of_lt_of_le hcl (Nat.pow_le_pow_right (n := 2) (i := x) (j := 10) (by decide) h10)
                    have hlk2 := hlk h6
                    rw [← HR1.out] at hlk2
                    obtain ⟨c, hc⟩ : ∃ c, c = code l t := ⟨_, rfl⟩
                    rw [← hc] at x2 hcb hlk2 hcl
                    have e63 : bits .and .i64 (c : Int) 63 = ((c % 64 : Nat) : Int) := mask63 (by clear hcl; omega)
                    have hm : c % 64 < 64 := Nat.mod_lt _ (by decide)
                    obtain ⟨m, hmm⟩ : ∃ m, m = c % 64 := ⟨_, rfl⟩
                    have hge := HGE.out m
                    have htm := topF_mono R1 (show m + 1 ≤ 64 by clear hcl; omega)
                    have hT := HT64.out
                    rw [← hmm] at hlk2 e63 hm
                    have hneg : R1 m < 0 := by clear hcl; omega
                    rw [top_step hneg] at htm
                    have x3 := hA6.a_root.cell m hm
                    simp only [mkI] at x3
                    rw [HR6.out m hm, lay2, if_pos hneg] at x3
                    obtain ⟨W, hW⟩ : ∃ W, W = (-R1 m).toNat := ⟨_, rfl⟩
                    rw [← hW] at x3 htm
                    have hW4 : W ≤ 4 := by clear hcl; omega
                    have hWx : x - 6 ≤ W := by clear hcl; omega
                    obtain ⟨st, hst⟩ : ∃ z, z = topF R1 m := ⟨_, rfl⟩
                    rw [← hst] at x3 htm
                    obtain ⟨L, hL⟩ : ∃ z, z = st * 16 + W := ⟨_, rfl⟩
                    rw [← hL] at x3
                    have hst1024 : st ≤ 1024 := by
                      have h9 := pw_pos W
                      generalize 2 ^ W = z at *; clear hcl; omega
                    have e15 : bits .and .i64 (L : Int) 15 = (W : Int) := by
                      rw [mask15 (by clear hcl; omega)]; congr 1; clear hcl; omega
                    have eL : (L : Int) / 16 = (st : Int) := by clear hcl; omega
                    have e6 : (c : Int) / 64 = ((c / 64 : Nat) : Int) := by simp
                    obtain ⟨c6, hc6⟩ : ∃ z, z = c / 64 := ⟨_, rfl⟩
                    rw [← hc6] at e6
                    obtain ⟨e, he⟩ : ∃ z, z = x - 6 := ⟨_, rfl⟩
                    have hei : (x : Int) - 6 = (e : Int) := by clear hcl; omega
                    have hshE : wrap64 (2 ^ W) = ((2 ^ W : Nat) : Int) := w64p (by clear hcl; omega)
                    have hshD : wrap64 (2 ^ e) = ((2 ^ e : Nat) : Int) := w64p (by clear hcl hshE; omega)
                    have hDp := pw_pos e
                    have hD16 : 2 ^ e ≤ 2 ^ 4 := Nat.pow_le_pow_right (by decide) (by clear hcl hshE hshD hDp; omega)
                    have hE16 : 2 ^ W ≤ 2 ^ 4 := Nat.pow_le_pow_right (by decide) hW4
                    have hc6D : c6 < 2 ^ e := by
                      have h9 : c < 2 ^ 6 * 2 ^ e := by rw [← Nat.pow_add, show 6 + e = x by clear hcl hshE hshD hDp hD16 hE16; omega]; exact hcl
                      rw [hc6, Nat.div_lt_iff_lt_mul (by decide)]
                      rw [Nat.mul_comm] at h9; exact h9
                    have hl3 : ∀ z, lay3 l R1 (t + 1) z = if st ≤ z ∧ z < st + 2 ^ W ∧ (z - st) % 2 ^ e = c6 then t * 16 + x else lay3 l R1 t z := by
                      intro z
                      rw [lay3, ← hx, ← hc, ← hmm, ← hW, ← hst, ← hc6, ← he]
                      by_cases hq : st ≤ z ∧ z < st + 2 ^ W ∧ (z - st) % 2 ^ e = c6
                      · rw [if_pos ⟨h6, hq⟩, if_pos hq]
                      · rw [if_neg (fun h => hq h.2), if_neg hq]
                    clear hcl
                    obtain ⟨E, hE⟩ : ∃ E, E = 2 ^ W := ⟨_, rfl⟩
                    obtain ⟨D, hD⟩ : ∃ D, D = 2 ^ e := ⟨_, rfl⟩
                    rw [← hE] at hshE hE16 hl3 htm
                    rw [← hD] at hshD hDp hD16 hc6D hl3
                    have h24 : (2 : Nat) ^ 4 = 16 := rfl
                    rw [h24] at hD16 hE16
                    have hTE : st + E ≤ 1024 := by clear hshE hshD hE hD; omega
                    have hor := orCell (s := t) (n := x) (by clear hshE hshD hE hD; omega) (by clear hshE hshD hE hD; omega)
                    have hsti : (st : Int) ≤ 1024 := by clear hshE hshD hE hD; omega
                    have hDi : (D : Int) ≤ 16 := by clear hshE hshD hE hD; omega
                    have hEi : (E : Int) ≤ 16 := by clear hshE hshD hE hD; omega
                    have hmi : (m : Int) < 64 := by clear hshE hshD hE hD; omega
                    have hci : (c : Int) < 1024 := by clear hshE hshD hE hD; omega
                    have hLi : (L : Int) < 20000 := by clear hshE hshD hE hD; omega
                    have hcm : c6 % D = c6 := Nat.mod_eq_of_lt hc6D
                    have hc6i : (c6 : Int) < 16 := by clear hshE hshD hE hD; omega
                    have HA6 := hid hA6
                    have HS6 := hid hs6
                    have HF6 := hid hf6
                    have HL3 := hid hl3
                    have HX := hid (And.intro hDp (And.intro hcm (And.intro hc6D (And.intro hTE htm))))
                    clear hA6 hs6 hf6 hl3 hol hoc hlk hx hc hmm hge htm hT hneg hW hst hL hst1024 hc6 he hE hD hDp hcm hc6D hTE hlk2 hD16 hE16 h24
                    go_wp2_with fail
                    go_quiet (fail)
                    go_wp2_with fail
                    go_loopg [14] 16 (fun g jv w7 => ∃ (j : Nat) (sb7 : Nat → Int), 16 ≤ g + j ∧ j < 48 ∧ jv = .int .i64 (j : Nat) ∧ j % D = c6 ∧ CdAt w7 b { R with root := rt, sub := sb7, top := topF R1 64 } ∧ (∀ z, z < topF R1 64 → sb7 z = (((if st ≤ z ∧ z < st + j ∧ z < st + E ∧ (z - st) % D = c6 then t * 16 + x else lay3 l R1 t z) : Nat) : Int)) ∧ Fr (Rng b (b + 11)) w w7)
                    case atStart =>
                      refine ⟨c6, sb6, by clear hshE hshD; omega, by clear hshE hshD; omega, rfl, HX.out.2.1, HA6.out.drewN, fun z hz => ?_, HF6.out.drewN⟩
                      rw [HS6.out z hz, if_neg]
                      rintro ⟨h1, h2, h3, h4⟩
                      have h9 := HX.out.2.2.1
                      have := Nat.mod_eq_of_lt (show z - st < D by clear hshE hshD; omega)
                      clear hshE hshD; omega
                    case round =>
                      obtain ⟨j, sb7, hgj, hj48, rfl, hjm, hA7, hs7, hf7⟩ := hrel
                      have p4 := hA7.p_sub
                      have z4 : ∀ i, wr.frozen? ⟨b + 4, i, none⟩ = false := hA7.a_sub.thaw
                      by_cases hj : j < E
                      · have hji : (j : Int) < E := by clear hshE hshD; omega
                        have hyb : st + j < 1024 := by have := HX.out.2.2.2.1; clear hshE hshD; omega
                        have x4 := hA7.a_sub.cell (st + j) hyb
                        simp only [mkI] at x4
                        have hstep := mod_step (d := D) (i := j) (c := c6) (by rw [hjm, HX.out.2.1])
                        rw [HX.out.2.1] at hstep
                        have hyi : (st : Int) + j < 1024 := by clear hshE hshD; omega
                        have HA7 := hid hA7
                        have HS7 := hid hs7
                        have HF7 := hid hf7
                        have HJM := hid hjm
                        have HST := hid hstep
                        clear hA7 hs7 hf7 hjm hstep
                        go_wp2_with fail
                        go_roundg (gk - 1)
                        case measure => clear hshE hshD; omega
                        case rel =>
                          have hDp := HX.out.1
                          refine ⟨j + D, _, by clear hshE hshD; omega, by clear hshE hshD; omega, by simp, HST.out, HA7.out.set_sub (st + j) ((t * 16 + x : Nat) : Int), fun z hz => ?_, HF7.out.setS hm4 _ _⟩
                          dsimp only
                          by_cases ez : z = st + j
                          · subst ez
                            rw [upd_self, if_pos]
                            refine ⟨by clear hshE hshD; omega, by clear hshE hshD; omega, by clear hshE hshD; omega, ?_⟩
                            rw [Nat.add_sub_cancel_left]; exact HJM.out
                          · rw [upd_ne _ _ _ _ ez, HS7.out z hz]
                            by_cases h1 : st ≤ z ∧ z < st + j ∧ z < st + E ∧ (z - st) % D = c6
                            · rw [if_pos h1, if_pos ⟨h1.1, by have := h1.2.1; clear hshE hshD; omega, h1.2.2⟩]
                            · rw [if_neg h1, if_neg]
                              rintro ⟨h2, h3, h4, h5⟩
                              refine h1 ⟨h2, ?_, h4, h5⟩
                              refine Classical.byContradiction fun h6 => ez ?_
                              have := res_gap (i := j) (q := z - st) hDp HJM.out (by clear hshE hshD; omega) (by clear hshE hshD; omega) h5
                              clear hshE hshD; omega
                      · have hji : ¬ (j : Int) < E := by clear hshE hshD; omega
                        have HA7 := hid hA7
                        have HS7 := hid hs7
                        have HF7 := hid hf7
                        clear hA7 hs7 hf7 hjm
                        go_wp2_with fail
                        go_roundg (gO - 1)
                        case measure => clear hshE hshD; omega
                        case rel =>
                          refine ⟨t + 1, sb7, by clear hshE hshD; omega, by simp, HA7.out, fun z hz => ?_, HF7.out⟩
                          rw [HS7.out z hz, HL3.out z]
                          by_cases h1 : st ≤ z ∧ z < st + E ∧ (z - st) % D = c6
                          · rw [if_pos h1, if_pos ⟨h1.1, by have := h1.2.1; clear hshE hshD; omega, h1.2⟩]
                          · rw [if_neg h1, if_neg (fun h => h1 ⟨h.1, h.2.2⟩)]
                  · have h6i : ¬ (6 : Int) < x := by omega
                    have hl3 : ∀ z, lay3 l R1 (t + 1) z = lay3 l R1 t z := by
                      intro z; rw [lay3, ← hx, if_neg (fun h => h6 h.1)]
                    have HA6 := hid hA6
                    have HS6 := hid hs6
                    have HF6 := hid hf6
                    have HL3 := hid hl3
                    clear hA6 hs6 hf6 hl3 hol hoc hlk hx
                    go_wp2_with fail
                    go_roundg (gO - 1)
                    case measure => omega
                    case rel => exact ⟨t + 1, sb6, by omega, by simp, HA6.out, fun z hz => by rw [HL3.out]; exact HS6.out z hz, HF6.out⟩
                · have hti : ¬ (t : Int) < s := by omega
                  have hts : t = s := by omega
                  have HA6 := hid hA6
                  have HS6 := hid hs6
                  have HF6 := hid hf6
                  clear hA6 hs6 hf6
                  go_wp2_with fail
                  go_end0
                  refine hK.out _ _ ⟨rfl, _, HA6.out, ⟨HO.out.n, HO.out.lens, HO.out.code, ⟨fun z hz => ?_, fun x hx => ?_⟩, HO.out.ok⟩, HF6.out⟩
                  · rw [← HR1.out]; exact HR6.out z hz
                  · rw [← HR1.out] at hx ⊢
                    rw [← hn, ← hts]; exact HS6.out x hx
end Go.Proofs.Qxb6500353aGreat
