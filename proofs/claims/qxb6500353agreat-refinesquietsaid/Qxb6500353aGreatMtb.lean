/- The model's tape: Peek, Skip, Take, Sync, walked. -/
import Derived.Test.Qxb6500353aGreatOwb
namespace Go.Proofs.Qxb6500353aGreat
open Go.RowKit
set_option linter.unusedVariables false
set_option linter.unusedSimpArgs false

theorem peek_bit (X a g : Nat) : X / 2 ^ a % 2 ^ (g + 1) = X / 2 ^ a % 2 ^ g ||| (X / 2 ^ (a + g) % 2) * 2 ^ g := by
  rw [mod_succ, Nat.div_div_eq_div_mul, ← Nat.pow_add]
  have h : X / 2 ^ a % 2 ^ g < 2 ^ g := Nat.mod_lt _ (pw_pos g)
  have := Nat.two_pow_add_eq_or_of_lt h (X / 2 ^ (a + g) % 2)
  rw [Nat.or_comm, Nat.mul_comm (X / 2 ^ (a + g) % 2), ← this, Nat.add_comm]
set_option maxRecDepth 100000 in
set_option maxHeartbeats 4000000 in
theorem mpeek_any {w : World} {b cap : Nat} {ad : Option Addr} {t : Tp} (h : MTp w b ad cap t) {k : Nat} (hk : k ≤ 16) :
    Calls Tryz.prog 112 #[ptrV b, .int .i64 k] w fun e w' => e = .returned (.tuple #[.int .i64 (t.peek k : Nat), .int .i64 (t.got k : Nat)]) ∧ ∃ n, w' = w.drewN n := by
  have c0 := h.c_bit
  have c1 := h.c_at
  have hki : (k : Int) ≤ 16 := by omega
  have hn4 := h.ok.len
  have hc := h.ok.cur
  obtain ⟨n, hnn⟩ : ∃ n, n = t.n := ⟨_, rfl⟩
  obtain ⟨a, ha⟩ : ∃ a, a = t.at_ := ⟨_, rfl⟩
  rw [← hnn] at c0 hn4 hc
  rw [← ha] at c1 hc
  have hni : (n : Int) ≤ 4096 := by omega
  have hai : (a : Int) ≤ n := by omega
  have H := hid h
  have HN := hid (And.intro hnn (And.intro ha hc))
  have HGOT : Hid (t.got k = min k (n - a)) := hid (by rw [hnn, ha]; rfl)
  have HPK : Hid (t.peek k = t.X / 2 ^ a % 2 ^ t.got k) := hid (by rw [ha]; rfl)
  obtain ⟨r1, hr1⟩ : ∃ r, r = t.peek k := ⟨_, rfl⟩
  obtain ⟨r2, hr2⟩ : ∃ r, r = t.got k := ⟨_, rfl⟩
  rw [← hr1, ← hr2]
  rw [← hr2] at HGOT HPK
  rw [← hr1] at HPK
  clear h hk hnn ha hc hr1 hr2
  refine calls_via fun K hK => ?_
  unfold ptrV
  go_enter Tryz.func112, Tryz.ntmps112
  go_wp2_with fail
  go_loopg [6, 7] k (fun g0 vv i wr => ∃ (g N : Nat), i = .int .i64 (g : Nat) ∧ g0 + g = k ∧ a + g ≤ n ∧ vv = .int .i64 ((t.X / 2 ^ a % 2 ^ g : Nat) : Int) ∧ wr = w.drewN N)
  case atStart => exact ⟨0, 0, rfl, by omega, by have := HN.out; omega, by simp [Nat.mod_one], rfl⟩
  case round =>
    obtain ⟨g, N, rfl, hg, hgn, rfl, rfl⟩ := hrel
    have HG := hid (And.intro hg hgn)
    have hg16 : (g : Int) ≤ 16 := by omega
    have hagn : (a : Int) + g ≤ n := by omega
    have hv2 : t.X / 2 ^ a % 2 ^ g < 2 ^ g := Nat.mod_lt _ (pw_pos g)
    have hv3 : 2 ^ g ≤ 2 ^ 16 := Nat.pow_le_pow_right (by decide) (by omega)
    have hpb := peek_bit t.X a g
    obtain ⟨v, hv⟩ : ∃ v, v = t.X / 2 ^ a % 2 ^ g := ⟨_, rfl⟩
    obtain ⟨v2, hv2n⟩ : ∃ v, v = t.X / 2 ^ a % 2 ^ (g + 1) := ⟨_, rfl⟩
    rw [← hv2n] at hpb
    have HVN := hid hv2n
    rw [← hv] at hv2 hpb ⊢
    have HV2 := hid hv
    have hv65 : v < 2 ^ 16 := Nat.lt_of_lt_of_le hv2 hv3
    have HV65 := hid hv65
    by_cases hgk : g < k
    · have hgki : (g : Int) < k := by omega
      have hgkd : decide ((g : Int) < k) = true := decide_eq_true hgki
      by_cases hl : a + g < n
      · have hli : (a : Int) + g < n := by omega
        have hld : decide ((a : Int) + g < n) = true := decide_eq_true hli
        obtain ⟨gg, hadr, hcell⟩ := H.out.own.at (a + g) (by rw [← HN.out.1]; exact hl)
        rw [bitsL_at _ _ _ (by rw [← HN.out.1]; exact hl)] at hcell
        subst hadr
        have hy2 : t.X / 2 ^ (a + g) % 2 < 2 := Nat.mod_lt _ (by decide)
        obtain ⟨y, hy⟩ : ∃ y, y = t.X / 2 ^ (a + g) % 2 := ⟨_, rfl⟩
        rw [← hy] at hcell hy2 hpb
        have hq : y * 2 ^ g ≤ 1 * 2 ^ 16 := Nat.mul_le_mul (by omega) hv3
        have ew : wrap64 ((y : Int) * 2 ^ g) = ((y * 2 ^ g : Nat) : Int) := by
          rw [show ((y : Int) * 2 ^ g) = ((y * 2 ^ g : Nat) : Int) by simp]; exact wrap64_n (by omega)
        obtain ⟨q, hqq⟩ : ∃ q, q = y * 2 ^ g := ⟨_, rfl⟩
        rw [← hqq] at hq ew hpb
        have eo : bits .or .i64 (v : Int) (q : Int) = ((v ||| q : Nat) : Int) := orI (by omega) (by omega)
        rw [← hpb] at eo
        have hwy : IntKind.i64.wrap (y : Int) = y := wrapI (by omega) (by omega)
        have z1 : (0 : Int) ≤ (a : Int) + g := by omega
        have hyi : (y : Int) < 2 := by omega
        have hqi : (q : Int) ≤ 65536 := by clear ew eo; omega
        have hvi : (v : Int) < 65536 := by clear ew eo; omega
        clear hg hgn hv hv2 hv3 hpb hy hq hqq hv65 hgk hl hy2 hv2n
        go_wp2_with fail
        go_quiet (fail)
        go_wp2_with fail
        go_quiet (fail)
        go_wp2_with fail
        go_roundg (gk - 1)
        case measure => have := HG.out; omega
        case rel => exact ⟨g + 1, _, by simp, by have := HG.out; omega, by omega, by rw [HVN.out], by first | rfl | (repeat rw [World.drewN_drewN])⟩
      · have hli : ¬ (a : Int) + g < n := by omega
        have hld : decide ((a : Int) + g < n) = false := decide_eq_false hli
        have hfin : r2 = g ∧ r1 = v := by
          have h1 := HGOT.out
          have e : r2 = g := by have := HG.out; omega
          exact ⟨e, by rw [HPK.out, e, hv]⟩
        have HFIN := hid hfin
        clear hg hgn hv hv2 hv3 hpb hv65 hgk hl hv2n hfin
        go_wp2_with fail
        go_quiet (fail)
        go_wp2_with fail
        exact hK.out _ _ ⟨by rw [HFIN.out.1, HFIN.out.2] <;> rfl, _, by first | rfl | (repeat rw [World.drewN_drewN])⟩
    · have hgki : ¬ (g : Int) < k := by omega
      have hgkn : decide (g < k) = false := decide_eq_false hgk
      have hfin : r2 = g ∧ r1 = v := by
        have h1 := HGOT.out
        have e : r2 = g := by have := HG.out; omega
        exact ⟨e, by rw [HPK.out, e, hv]⟩
      have HFIN := hid hfin
      clear hg hgn hv hv2 hv3 hpb hv65 hgk hv2n hfin
      go_wp2_with fail
      go_quiet (fail)
      go_wp2_with fail
      exact hK.out _ _ ⟨by rw [HFIN.out.1, HFIN.out.2] <;> rfl, _, by first | rfl | (repeat rw [World.drewN_drewN])⟩
theorem mskip_yes {w : World} {b cap : Nat} {ad : Option Addr} {t : Tp} (h : MTp w b ad cap t) {k : Nat} (hk : k ≤ 16) (hl : t.at_ + k ≤ t.n) :
    Calls Tryz.prog 113 #[ptrV b, .int .i64 k] w fun e w' => e = .returned (.int .i64 0) ∧ MTp w' b ad cap (t.skip k) ∧ Fr (One b) w w' := by
  have c0 := h.c_bit
  have c1 := h.c_at
  have z : ∀ i, w.frozen? ⟨b, i, none⟩ = false := h.fz
  have hki : (k : Int) ≤ 16 := by omega
  have hn4 := h.ok.len
  have hni : (t.n : Int) ≤ 4096 := by omega
  have hai : (t.at_ : Int) ≤ t.n := by have := h.ok.cur; omega
  have hli : ¬ (t.n : Int) < (t.at_ : Int) + k := by omega
  have H := hid h
  have HM : Hid (∀ q, MTp ((w.drewN q).setCell ⟨b, 1, none⟩ (.int .i64 ((t.at_ + k : Nat) : Int))) b ad cap (t.skip k)) := hid fun q => h.drewN.move (x := t.at_ + k) hl
  clear h hk hl
  refine calls_via fun K hK => ?_
  unfold ptrV
  go_enter Tryz.func113, Tryz.ntmps113
  go_wp2_with fail
  go_quiet (fail)
  go_wp2_with fail
  refine hK.out _ _ ⟨rfl, ?_, ?_⟩
  · have := HM.out nq; rw [Int.natCast_add] at this; exact this
  · exact (Fr.of_drewN (S := One b)).set1 _ _
theorem mskip_no {w : World} {b cap : Nat} {ad : Option Addr} {t : Tp} (h : MTp w b ad cap t) {k : Nat} (hk : k ≤ 16) (hl : t.n < t.at_ + k) :
    Calls Tryz.prog 113 #[ptrV b, .int .i64 k] w fun e w' => e = .returned (.int .i64 4) ∧ ∃ q, w' = w.drewN q := by
  have c0 := h.c_bit
  have c1 := h.c_at
  have hki : (k : Int) ≤ 16 := by omega
  have hn4 := h.ok.len
  have hni : (t.n : Int) ≤ 4096 := by omega
  have hai : (t.at_ : Int) ≤ t.n := by have := h.ok.cur; omega
  have hli : (t.n : Int) < (t.at_ : Int) + k := by omega
  clear h hk hl
  refine calls_via fun K hK => ?_
  unfold ptrV
  go_enter Tryz.func113, Tryz.ntmps113
  go_wp2_with fail
  go_quiet (fail)
  go_wp2_with fail
  exact hK.out _ _ ⟨rfl, _, rfl⟩
theorem mtake_yes {w : World} {b cap : Nat} {ad : Option Addr} {t : Tp} (h : MTp w b ad cap t) {k : Nat} (hk : k ≤ 16) (hg : ¬ t.got k < k) :
    Calls Tryz.prog 80 #[ptrV b, .int .i64 k] w fun e w' => e = .returned (.tuple #[.int .i64 (t.peek k : Nat), .int .i64 0]) ∧ MTp w' b ad cap (t.skip k) ∧ Fr (One b) w w' := by
  have hl : t.at_ + k ≤ t.n := by have := h.ok.cur; unfold Tp.got at hg; omega
  have hp := mpeek_any h hk
  obtain ⟨v, hv⟩ : ∃ v, v = t.peek k := ⟨_, rfl⟩
  rw [← hv] at hp ⊢
  have HP := hid hp
  have HSK := hid (fun q => mskip_yes (h.drewN (k := q)) hk hl)
  clear h hp hv hk hg hl
  refine calls_via fun K hK => ?_
  unfold ptrV at HP HSK ⊢
  go_enter Tryz.func80, Tryz.ntmps80
  go_wp2_with fail
  refine HP.out.mono ?_
  rintro e w' ⟨rfl, q, rfl⟩
  go_wp2_with fail
  refine (HSK.out q).mono ?_
  rintro e w2 ⟨rfl, h2, hf2⟩
  have H2 := hid h2
  have HF2 := hid hf2
  clear h2 hf2
  go_wp2_with fail
  exact hK.out _ _ ⟨rfl, H2.out, (Fr.of_drewN (S := One b)).trans HF2.out⟩
theorem mtake_no {w : World} {b cap : Nat} {ad : Option Addr} {t : Tp} (h : MTp w b ad cap t) {k : Nat} (hk : k ≤ 16) (hg : t.got k < k) :
    Calls Tryz.prog 80 #[ptrV b, .int .i64 k] w fun e w' => e = .returned (.tuple #[.int .i64 0, .int .i64 4]) ∧ ∃ q, w' = w.drewN q := by
  have hl : t.n < t.at_ + k := by have := h.ok.cur; unfold Tp.got at hg; omega
  have hp := mpeek_any h hk
  obtain ⟨v, hv⟩ : ∃ v, v = t.peek k := ⟨_, rfl⟩
  obtain ⟨gt, hgt⟩ : ∃ v, v = t.got k := ⟨_, rfl⟩
  rw [← hv, ← hgt] at hp
  have HP := hid hp
  have HSK := hid (fun q => mskip_no (h.drewN (k := q)) hk hl)
  clear h hp hv hk hg hl hgt
  refine calls_via fun K hK => ?_
  unfold ptrV at HP HSK ⊢
  go_enter Tryz.func80, Tryz.ntmps80
  go_wp2_with fail
  refine HP.out.mono ?_
  rintro e w' ⟨rfl, q, rfl⟩
  go_wp2_with fail
  refine (HSK.out q).mono ?_
  rintro e w2 ⟨rfl, q2, rfl⟩
  go_wp2_with fail
  exact hK.out _ _ ⟨rfl, q + q2, rfl⟩
set_option maxRecDepth 100000 in
set_option maxHeartbeats 4000000 in
theorem msync_any {w : World} {b cap : Nat} {ad : Option Addr} {t : Tp} (h : MTp w b ad cap t) :
    Calls Tryz.prog 84 #[ptrV b] w fun e w' => e = .returned (.tuple #[]) ∧ MTp w' b ad cap t.sync ∧ Fr (One b) w w' := by
  have hok := h.ok
  have HSY : Hid (∀ x : Nat, t.at_ ≤ x → x ≤ up8 t.at_ → x ≤ t.n → (x % 8 = 0 ∨ x = t.n) → (⟨t.X, t.n, x⟩ : Tp) = t.sync) := hid (by
    intro x h1 h2 h3 h4
    unfold Tp.sync up8 at *
    congr 1
    omega)
  have H := hid h
  have HOK := hid hok
  have hn4 := hok.len
  have hni : (t.n : Int) ≤ 4096 := by omega
  clear h hok
  refine calls_via fun K hK => ?_
  unfold ptrV
  go_enter Tryz.func84, Tryz.ntmps84
  go_wp2_with fail
  go_loopg [] 8 (fun g wr => ∃ x : Nat, t.at_ ≤ x ∧ x ≤ up8 t.at_ ∧ x ≤ t.n ∧ (x % 8 ≠ 0 → 8 - x % 8 ≤ g) ∧ MTp wr b ad cap ⟨t.X, t.n, x⟩ ∧ Fr (One b) w wr)
  case atStart => exact ⟨t.at_, Nat.le_refl _, by unfold up8; omega, HOK.out.cur, fun h => by omega, H.out, Fr.refl _ _⟩
  case round =>
    obtain ⟨x, h1, h2, h3, h4, hA, hf⟩ := hrel
    have c0 := hA.c_bit
    have c1 := hA.c_at
    have z : ∀ i, wr.frozen? ⟨b, i, none⟩ = false := hA.fz
    dsimp only at c0 c1
    have HX := hid (And.intro h1 (And.intro h2 (And.intro h3 h4)))
    have HA := hid hA
    have HF := hid hf
    have hxi : (x : Int) ≤ t.n := by omega
    by_cases h8 : x % 8 = 0
    · have h8i : (x : Int) % 8 = 0 := by omega
      have he := HSY.out x h1 h2 h3 (.inl h8)
      rw [he] at hA
      have HA := hid hA
      clear h1 h2 h3 h4 hA hf h8 he
      go_wp2_with fail
      go_quiet (fail)
      go_wp2_with fail
      go_end0
      exact hK.out _ _ ⟨rfl, HA.out.drewN, HF.out.drewN⟩
    · have h8i : ((x : Int) % 8 == 0) = false := by simp; omega
      have h8j : ((x : Int) % 8 != 0) = true := by simp; omega
      by_cases hl : x < t.n
      · have hli : (x : Int) < t.n := by omega
        have hld : decide ((x : Int) < t.n) = true := decide_eq_true hli
        have H8 := hid (And.intro h8 hl)
        clear h1 h2 h3 h4 hA hf h8 hl
        go_wp2_with fail
        go_quiet (fail)
        go_wp2_with fail
        go_roundg (gk - 1)
        case measure => have h5 := HX.out; have h6 := H8.out; have := h5.2.2.2 h6.1; omega
        case rel =>
          obtain ⟨h1, h2, h3, h4⟩ := HX.out
          have h6 := H8.out
          have h7 := h4 h6.1
          refine ⟨x + 1, by omega, by unfold up8 at *; omega, by omega, fun h => by omega, ?_, (HF.out.drewN).set1 _ _⟩
          have h9 := (HA.out.drewN (k := nq)).move (x := x + 1) (by show x + 1 ≤ t.n; omega)
          rw [Int.natCast_add] at h9
          exact h9
      · have hli : ¬ (x : Int) < t.n := by omega
        have hld : decide ((x : Int) < t.n) = false := decide_eq_false hli
        have he := HSY.out x h1 h2 h3 (.inr (by omega))
        rw [he] at hA
        have HA := hid hA
        clear h1 h2 h3 h4 hA hf h8 he hl
        go_wp2_with fail
        go_quiet (fail)
        go_wp2_with fail
        go_end0
        exact hK.out _ _ ⟨rfl, HA.out.drewN, HF.out.drewN⟩
end Go.Proofs.Qxb6500353aGreat
