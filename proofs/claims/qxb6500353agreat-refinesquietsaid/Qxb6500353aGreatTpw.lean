/- The real tape, walked. -/
import Derived.Test.Qxb6500353aGreatRws
namespace Go.Proofs.Qxb6500353aGreat
open Go.RowKit
set_option linter.unusedVariables false
set_option linter.unusedSimpArgs false

/-- The real tape: its bytes in block b, the struct in block b + 1. -/
structure TapeR (w : World) (b : Nat) (f : Nat → Nat) (n a : Nat) : Prop where
  buf : w.cell? ⟨b + 1, 0, none⟩ = some (.slice (some ⟨b, 0, none⟩) 516 516)
  n : w.cell? ⟨b + 1, 1, none⟩ = some (.int .i64 (n : Nat))
  at_ : w.cell? ⟨b + 1, 2, none⟩ = some (.int .i64 (a : Nat))
  bytes : Cel mkB w b 0 516 f
  f0 : Thaw w b
  f1 : Thaw w (b + 1)
def tapP (b : Nat) : Value := .pointer (some ⟨b + 1, 0, none⟩)
theorem TapeR.lt {w : World} {b n a : Nat} {f : Nat → Nat} (h : TapeR w b f n a) : b + 1 < w.heap.size := lt_of_cellB h.buf
theorem TapeR.fr {S : Nat → Prop} {w w2 : World} {b n a : Nat} {f : Nat → Nat} (h : TapeR w b f n a) (hf : Fr S w w2) (h0 : ¬ S b) (h1 : ¬ S (b + 1)) : TapeR w2 b f n a := by
  have hl := h.lt
  exact ⟨hf.cell h.buf h1, hf.cell h.n h1, hf.cell h.at_ h1, h.bytes.fr hf h0, h.f0.fr hf (by omega) h0, h.f1.fr hf hl h1⟩
theorem TapeR.set_n {w : World} {b n a : Nat} {f : Nat → Nat} (h : TapeR w b f n a) (x : Nat) : TapeR (w.setCell ⟨b + 1, 1, none⟩ (.int .i64 (x : Nat))) b f x a :=
  ⟨(cellNe (by omega)).trans h.buf, cellSet h.n, (cellNe (by omega)).trans h.at_, h.bytes.other (by simp) _, h.f0.set _ _, h.f1.set _ _⟩
theorem TapeR.set_at {w : World} {b n a : Nat} {f : Nat → Nat} (h : TapeR w b f n a) (x : Nat) : TapeR (w.setCell ⟨b + 1, 2, none⟩ (.int .i64 (x : Nat))) b f n x :=
  ⟨(cellNe (by omega)).trans h.buf, (cellNe (by omega)).trans h.n, cellSet h.at_, h.bytes.other (by simp) _, h.f0.set _ _, h.f1.set _ _⟩
theorem otherB {w : World} {b c o p : Nat} {v : Value} (h : b ≠ c) : (w.setCell ⟨c, p, none⟩ v).cell? ⟨b, o, none⟩ = w.cell? ⟨b, o, none⟩ :=
  World.cell?_setCell_other w _ _ _ (by intro e; injection e with e1 e2; exact h e1.symm)
theorem TapeR.set_b {w : World} {b n a : Nat} {f : Nat → Nat} (h : TapeR w b f n a) (i x : Nat) : TapeR (w.setCell ⟨b, i, none⟩ (.int .u8 (x : Nat))) b (upd f i x) n a :=
  ⟨(otherB (by omega)).trans h.buf, (otherB (by omega)).trans h.n, (otherB (by omega)).trans h.at_, h.bytes.set0 i x, h.f0.set _ _, h.f1.set _ _⟩
theorem TapeR.drewN {w : World} {b k n a : Nat} {f : Nat → Nat} (h : TapeR w b f n a) : TapeR (w.drewN k) b f n a := ⟨h.buf, h.n, h.at_, h.bytes, h.f0, h.f1⟩
theorem TapeR.drew {w : World} {b n a : Nat} {f : Nat → Nat} (h : TapeR w b f n a) : TapeR w.drew b f n a := ⟨h.buf, h.n, h.at_, h.bytes, h.f0, h.f1⟩
structure TapeAt (w : World) (b : Nat) (t : Tp) : Prop extends TapeR w b (byt t.X) t.n t.at_ where
  ok : t.OK
theorem TapeAt.fr {S : Nat → Prop} {w w2 : World} {b : Nat} {t : Tp} (h : TapeAt w b t) (hf : Fr S w w2) (h0 : ¬ S b) (h1 : ¬ S (b + 1)) : TapeAt w2 b t := ⟨h.toTapeR.fr hf h0 h1, h.ok⟩
theorem TapeAt.drewN {w : World} {b k : Nat} {t : Tp} (h : TapeAt w b t) : TapeAt (w.drewN k) b t := ⟨h.toTapeR.drewN, h.ok⟩

theorem pos_any {w : World} {b : Nat} {t : Tp} (h : TapeAt w b t) : Calls Tryz.prog 142 #[tapP b] w fun e w' => e = .returned (.int .i64 (t.at_ : Nat)) ∧ w' = w := by
  have c1 := h.at_
  clear h
  refine calls_via fun K hK => ?_
  unfold tapP
  go_enter Tryz.func142, Tryz.ntmps142
  go_wp2_with fail
  exact hK.out _ _ ⟨rfl, rfl⟩
theorem tlen_any {w : World} {b : Nat} {t : Tp} (h : TapeAt w b t) : Calls Tryz.prog 143 #[tapP b] w fun e w' => e = .returned (.int .i64 (t.n : Nat)) ∧ w' = w := by
  have c1 := h.n
  clear h
  refine calls_via fun K hK => ?_
  unfold tapP
  go_enter Tryz.func143, Tryz.ntmps143
  go_wp2_with fail
  exact hK.out _ _ ⟨rfl, rfl⟩
theorem inRange_any (k : Nat) (hk : k ≤ 16) (w : World) : Calls Tryz.prog 122 #[.int .i64 k] w fun e w' => e = .returned (.bool true) ∧ w' = w := by
  have h0 : (0 : Int) ≤ k := by omega
  have h1 : (k : Int) ≤ 16 := by omega
  refine calls_via fun K hK => ?_
  go_enter Tryz.func122, Tryz.ntmps122
  go_wp2_with fail
  exact hK.out _ _ ⟨rfl, rfl⟩
theorem up8_eq (n : Nat) : ((n + 7 : Nat) : Int) = (n : Int) + 7 := by omega
theorem pad_any {w : World} {b : Nat} {t : Tp} (h : TapeAt w b t) : Calls Tryz.prog 123 #[tapP b] w fun e w' => e = .returned (.tuple #[]) ∧ TapeAt w' b t.pad ∧ Fr (One (b + 1)) w w' := by
  have c1 := h.n
  have c2 : ∀ i, w.frozen? ⟨b + 1, i, none⟩ = false := h.f1
  have hn := h.ok.len
  have H := hid h
  have e1 : bits .andNot .i64 ((t.n : Int) + 7) 7 = ((t.pad.n : Nat) : Int) := by
    have := andNot7 (a := t.n + 7) (by omega)
    rw [up8_eq] at this; exact this
  clear h
  refine calls_via fun K hK => ?_
  unfold tapP
  go_enter Tryz.func123, Tryz.ntmps123
  go_wp2_with fail
  go_end0
  exact hK.out _ _ ⟨rfl, ⟨H.out.toTapeR.set_n _, H.out.ok.pad⟩, (Fr.refl (One (b + 1)) w).set (p := ⟨b + 1, 1, none⟩) (fun _ => rfl) _⟩
theorem sync_any {w : World} {b : Nat} {t : Tp} (h : TapeAt w b t) : Calls Tryz.prog 161 #[tapP b] w fun e w' => e = .returned (.tuple #[]) ∧ TapeAt w' b t.sync ∧ Fr (One (b + 1)) w w' := by
  have c1 := h.n
  have c3 := h.at_
  have c2 : ∀ i, w.frozen? ⟨b + 1, i, none⟩ = false := h.f1
  have hn := h.ok.len
  have hc := h.ok.cur
  have H := hid h
  obtain ⟨q, hq⟩ : ∃ q, q = (t.at_ + 7) / 8 * 8 := ⟨_, rfl⟩
  have e1 : bits .andNot .i64 ((t.at_ : Int) + 7) 7 = (q : Int) := by
    have := andNot7 (a := t.at_ + 7) (by omega)
    rw [up8_eq] at this; rw [hq]; exact this
  have HQ := hid hq
  have HN := hid hn
  have HC := hid hc
  have hat : t.at_ ≤ 4096 := by omega
  clear h hq hn hc
  refine calls_via fun K hK => ?_
  unfold tapP
  have hs : t.sync.at_ = min q t.n := by rw [HQ.out]; rfl
  by_cases hlt : t.n < q
  · have hlt2 : (t.n : Int) < q := by omega
    go_enter Tryz.func161, Tryz.ntmps161
    go_wp2_with fail
    go_quiet (fail)
    go_wp2_with fail
    go_end0
    refine hK.out _ _ ⟨rfl, ?_, ?_⟩
    · have h2 := ((H.out.toTapeR.set_at q).drewN (k := nq)).set_at t.n
      refine ⟨?_, H.out.ok.sync⟩
      rw [hs, Nat.min_eq_right (by omega)]
      exact h2
    · repeat (first | with_reducible exact Fr.refl _ _ | with_reducible refine Fr.drewN ?_ | with_reducible refine Fr.set1 ?_ _ _)
  · have hlt2 : ¬ (t.n : Int) < q := by omega
    go_enter Tryz.func161, Tryz.ntmps161
    go_wp2_with fail
    go_quiet (fail)
    go_wp2_with fail
    go_end0
    refine hK.out _ _ ⟨rfl, ?_, ?_⟩
    · refine ⟨?_, H.out.ok.sync⟩
      rw [hs, Nat.min_eq_left (by omega)]
      exact (H.out.toTapeR.set_at q).drewN
    · repeat (first | with_reducible exact Fr.refl _ _ | with_reducible refine Fr.drewN ?_ | with_reducible refine Fr.set1 ?_ _ _)
theorem skip_any {w : World} {b : Nat} {t : Tp} (h : TapeAt w b t) (k : Nat) (hk : k ≤ 16) (hl : t.at_ + k ≤ t.n) :
    Calls Tryz.prog 167 #[tapP b, .int .i64 k] w fun e w' => e = .returned (.int .i64 0) ∧ TapeAt w' b (t.skip k) ∧ Fr (One (b + 1)) w w' := by
  have c1 := h.n
  have c3 := h.at_
  have c2 : ∀ i, w.frozen? ⟨b + 1, i, none⟩ = false := h.f1
  have hn := h.ok.len
  have H := hid h
  have hat : t.at_ ≤ 4096 := by omega
  have hlt : ¬ ((t.n : Int) - t.at_ < k) := by omega
  clear h
  refine calls_via fun K hK => ?_
  unfold tapP
  go_enter Tryz.func167, Tryz.ntmps167
  go_wp2_with (go_at_call 122; refine (inRange_any k hk _).mono ?_; rintro e w' ⟨rfl, rfl⟩)
  go_quiet (fail)
  go_wp2_with fail
  refine hK.out _ _ ⟨rfl, ⟨?_, H.out.ok.skip hl⟩, ?_⟩
  · have h2 := (H.out.toTapeR.drewN (k := nq)).set_at (t.at_ + k)
    rw [Int.natCast_add] at h2
    exact h2
  · repeat (first | with_reducible exact Fr.refl _ _ | with_reducible refine Fr.drewN ?_ | with_reducible refine Fr.set1 ?_ _ _)
theorem Tp.got_def (t : Tp) (k : Nat) : t.got k = min k (t.n - t.at_) := rfl
theorem peek_any {w : World} {b : Nat} {t : Tp} (h : TapeAt w b t) (k : Nat) (hk : k ≤ 16) :
    Calls Tryz.prog 166 #[tapP b, .int .i64 k] w fun e w' => e = .returned (.tuple #[.int .i64 (t.peek k : Nat), .int .i64 (t.got k : Nat)]) ∧ ∃ n, w' = w.drewN n := by
  have c0 := h.buf
  have c1 := h.n
  have c3 := h.at_
  have hn := h.ok.len
  have hc := h.ok.cur
  have H := hid h
  have hat : t.at_ ≤ 4096 := by omega
  have h0 : t.at_ / 8 + 2 < 516 := by omega
  obtain ⟨i, hi⟩ : ∃ i, i = t.at_ / 8 := ⟨_, rfl⟩
  have b0 := h.bytes.at0 i (by omega)
  have b1 := h.bytes.at0 (i + 1) (by omega)
  have b2 := h.bytes.at0 (i + 2) (by omega)
  have e1 : bits .and .i64 (t.at_ : Int) 7 = ((t.at_ % 8 : Nat) : Int) := mask7 (by omega)
  have l0 := byt_lt t.X i
  have l1 := byt_lt t.X (i + 1)
  have l2 := byt_lt t.X (i + 2)
  obtain ⟨x0, hx0⟩ : ∃ x, x = byt t.X i := ⟨_, rfl⟩
  obtain ⟨x1, hx1⟩ : ∃ x, x = byt t.X (i + 1) := ⟨_, rfl⟩
  obtain ⟨x2, hx2⟩ : ∃ x, x = byt t.X (i + 2) := ⟨_, rfl⟩
  simp only [mkB] at b0 b1 b2
  rw [← hx0] at b0 l0
  rw [← hx1] at b1 l1
  rw [← hx2] at b2 l2
  have e2 : (t.at_ : Int) / 8 = (i : Int) := by omega
  have HP : Hid (∀ g, g ≤ 16 → (x0 + x1 * 256 + x2 * 65536) / 2 ^ (t.at_ % 8) % 2 ^ g = t.X / 2 ^ t.at_ % 2 ^ g) := hid (by
    intro g hg
    have h3 := three t.X t.at_
    rw [← hi, ← hx0, ← hx1, ← hx2] at h3
    rw [← mod_pow_mod _ g 16 hg, h3, mod_pow_mod _ _ _ hg])
  have hgot := t.got_def k
  obtain ⟨g, hg⟩ : ∃ g, g = t.got k := ⟨_, rfl⟩
  have hgk0 : g ≤ 16 := by rw [hg, hgot]; omega
  obtain ⟨v, hv⟩ : ∃ v, v = t.peek k := ⟨_, rfl⟩
  have ev : bits .and .i64 (bits .or .i64 (bits .or .i64 (x0 : Int) (x1 * 256)) (x2 * 65536) / 2 ^ (t.at_ % 8)) (wrap64 (wrap64 (2 ^ g) - 1)) = (v : Int) := by
    rw [peekV l0 l1 l2 (by omega), HP.out g hgk0, hv]; unfold Tp.peek; rw [← hg]
  rw [← hg] at hgot
  refine calls_via fun K hK => ?_
  rw [← hv, ← hg] at hK
  have HG := hid hgot
  clear h hi hx0 hx1 hx2 HP hg hv hgot
  unfold tapP
  by_cases hgk : t.n - t.at_ ≤ k
  · have eg : (t.n : Int) - t.at_ = (g : Int) := by have := HG.out; omega
    have hg2 : ¬ (k : Int) < g := by have := HG.out; omega
    go_enter Tryz.func166, Tryz.ntmps166
    go_wp2_with (go_at_call 122; refine (inRange_any k hk _).mono ?_; rintro e w' ⟨rfl, rfl⟩)
    go_quiet (fail)
    go_wp2_with fail
    go_quiet (fail)
    go_wp2_with fail
    exact hK.out _ _ ⟨rfl, _, rfl⟩
  · have eg : (t.n : Int) - t.at_ = ((t.n - t.at_ : Nat) : Int) := by omega
    have hg2 : (k : Int) < ((t.n - t.at_ : Nat) : Int) := by omega
    obtain ⟨d, hd⟩ : ∃ d, d = t.n - t.at_ := ⟨_, rfl⟩
    rw [← hd] at eg hg2
    have ek : g = k := by have := HG.out; omega
    rw [ek] at ev hK hgk0
    clear hd ek hgk HG
    go_enter Tryz.func166, Tryz.ntmps166
    go_wp2_with (go_at_call 122; refine (inRange_any k hk _).mono ?_; rintro e w' ⟨rfl, rfl⟩)
    go_quiet (fail)
    go_wp2_with fail
    go_quiet (fail)
    go_wp2_with fail
    exact hK.out _ _ ⟨rfl, _, rfl⟩
theorem take_yes {w : World} {b : Nat} {t : Tp} (h : TapeAt w b t) (k : Nat) (hk : k ≤ 16) (hg : ¬ t.got k < k) :
    Calls Tryz.prog 160 #[tapP b, .int .i64 k] w fun e w' => e = .returned (.tuple #[.int .i64 (t.peek k : Nat), .int .i64 0]) ∧ TapeAt w' b (t.skip k) ∧ Fr (One (b + 1)) w w' := by
  have hl : t.at_ + k ≤ t.n := by have := h.ok.cur; unfold Tp.got at hg; omega
  have c3 := h.at_
  have c2 : ∀ i, w.frozen? ⟨b + 1, i, none⟩ = false := h.f1
  have hn := h.ok.len
  have hat : t.at_ ≤ 4096 := by omega
  have hp := peek_any h k hk
  obtain ⟨g, hgg⟩ : ∃ g, g = t.got k := ⟨_, rfl⟩
  obtain ⟨v, hv⟩ : ∃ v, v = t.peek k := ⟨_, rfl⟩
  rw [← hv, ← hgg] at hp
  rw [← hgg] at hg
  have hg2 : ¬ (g : Int) < k := by omega
  have H := hid h
  have HP := hid hp
  refine calls_via fun K hK => ?_
  rw [← hv] at hK
  clear h hp hv hgg
  unfold tapP at HP ⊢
  go_enter Tryz.func160, Tryz.ntmps160
  go_wp2_with (first | (go_at_call 166; refine HP.out.mono ?_; rintro e w' ⟨rfl, nn, hw⟩; have hw2 := hw; subst hw2; clear hw) | (go_at_call 122; refine (inRange_any k hk _).mono ?_; rintro e w' ⟨rfl, hw⟩; have hw2 := hw; subst hw2; clear hw))
  refine hK.out _ _ ⟨rfl, ⟨?_, H.out.ok.skip hl⟩, ?_⟩
  · have h2 := (H.out.toTapeR.drewN (k := nn)).set_at (t.at_ + k)
    rw [Int.natCast_add] at h2
    exact h2
  · repeat (first | with_reducible exact Fr.refl _ _ | with_reducible refine Fr.drewN ?_ | with_reducible refine Fr.set1 ?_ _ _)
theorem take_no {w : World} {b : Nat} {t : Tp} (h : TapeAt w b t) (k : Nat) (hk : k ≤ 16) (hg : t.got k < k) :
    Calls Tryz.prog 160 #[tapP b, .int .i64 k] w fun e w' => e = .returned (.tuple #[.int .i64 0, .int .i64 4]) ∧ ∃ n, w' = w.drewN n := by
  have hp := peek_any h k hk
  obtain ⟨g, hgg⟩ : ∃ g, g = t.got k := ⟨_, rfl⟩
  obtain ⟨v, hv⟩ : ∃ v, v = t.peek k := ⟨_, rfl⟩
  rw [← hv, ← hgg] at hp
  rw [← hgg] at hg
  have hg2 : (g : Int) < k := by omega
  have HP := hid hp
  refine calls_via fun K hK => ?_
  clear h hp hv hgg
  unfold tapP at HP ⊢
  go_enter Tryz.func160, Tryz.ntmps160
  go_wp2_with (first | (go_at_call 166; refine HP.out.mono ?_; rintro e w' ⟨rfl, nn, hw⟩; have hw2 := hw; subst hw2; clear hw) | (go_at_call 122; refine (inRange_any k hk _).mono ?_; rintro e w' ⟨rfl, hw⟩; have hw2 := hw; subst hw2; clear hw))
  exact hK.out _ _ ⟨rfl, _, rfl⟩
set_option maxRecDepth 100000 in
theorem put_any {w : World} {b : Nat} {t : Tp} (h : TapeAt w b t) (v k : Nat) (hk : k ≤ 16) (hv : v < 2 ^ k) (hn : t.n + k ≤ 4096) :
    Calls Tryz.prog 90 #[tapP b, .int .i64 v, .int .i64 k] w fun e w' => e = .returned (.int .i64 0) ∧ TapeAt w' b (t.put v k) ∧ Fr (Rng b (b + 2)) w w' := by
  obtain ⟨i, hi⟩ : ∃ i, i = t.n / 8 := ⟨_, rfl⟩
  have hi514 : i + 2 < 516 := by omega
  have c0 := h.buf
  have c1 := h.n
  have c2 : ∀ i, w.frozen? ⟨b + 1, i, none⟩ = false := h.f1
  have c3 : ∀ i, w.frozen? ⟨b, i, none⟩ = false := h.f0
  have b0 := h.bytes.at0 i (by omega)
  have b1 := h.bytes.at0 (i + 1) (by omega)
  have b2 := h.bytes.at0 (i + 2) (by omega)
  simp only [mkB] at b0 b1 b2
  have e1 : bits .and .i64 (t.n : Int) 7 = ((t.n % 8 : Nat) : Int) := mask7 (by omega)
  have e2 : (t.n : Int) / 8 = (i : Int) := by omega
  have hv16 : v < 65536 := Nat.lt_of_lt_of_le hv (Nat.pow_le_pow_right (n := 2) (i := k) (j := 16) (by decide) hk)
  have hv0 : (0 : Int) ≤ v := by omega
  have hroom : ¬ ((4096 : Int) - t.n < k) := by omega
  have hsh : (v : Int) / 2 ^ k = 0 := by rw [powI, Nat.div_eq_of_lt hv]; rfl
  obtain ⟨q, hq⟩ : ∃ q, q = v * 2 ^ (t.n % 8) := ⟨_, rfl⟩
  have hq23 : q < 2 ^ 24 := by
    have h8 : 2 ^ (t.n % 8) ≤ 2 ^ 7 := Nat.pow_le_pow_right (by decide) (by omega)
    have : v * 2 ^ (t.n % 8) ≤ 65535 * 2 ^ 7 := Nat.mul_le_mul (by omega) h8
    omega
  have ew : wrap64 ((v : Int) * 2 ^ (t.n % 8)) = (q : Int) := by
    rw [show ((v : Int) * 2 ^ (t.n % 8)) = ((v * 2 ^ (t.n % 8) : Nat) : Int) by simp, ← hq]; exact wrap64_n (by omega)
  obtain ⟨y0, hy0⟩ : ∃ y, y = byt t.X i ||| q % 256 := ⟨_, rfl⟩
  obtain ⟨y1, hy1⟩ : ∃ y, y = byt t.X (i + 1) ||| q / 256 % 256 := ⟨_, rfl⟩
  obtain ⟨y2, hy2⟩ : ∃ y, y = byt t.X (i + 2) ||| q / 65536 % 256 := ⟨_, rfl⟩
  obtain ⟨x0, hx0⟩ : ∃ x, x = byt t.X i := ⟨_, rfl⟩
  obtain ⟨x1, hx1⟩ : ∃ x, x = byt t.X (i + 1) := ⟨_, rfl⟩
  obtain ⟨x2, hx2⟩ : ∃ x, x = byt t.X (i + 2) := ⟨_, rfl⟩
  have l0 := byt_lt t.X i
  have l1 := byt_lt t.X (i + 1)
  have l2 := byt_lt t.X (i + 2)
  rw [← hx0] at b0 l0 hy0
  rw [← hx1] at b1 l1 hy1
  rw [← hx2] at b2 l2 hy2
  have f0 : bits .or .u8 (x0 : Int) ((q : Int) % 256) = (y0 : Int) := or8a l0 hy0
  have f1 : bits .or .u8 (x1 : Int) ((q : Int) / 256 % 256) = (y1 : Int) := or8b l1 hy1
  have f2 : bits .or .u8 (x2 : Int) ((q : Int) / 65536 % 256) = (y2 : Int) := or8c l2 hy2
  have HF : Hid (∀ j, j < 516 → upd (upd (upd (byt t.X) i y0) (i + 1) y1) (i + 2) y2 j = byt (t.put v k).X j) := hid (by
    intro j hj
    have h1 := put_fn (u := upd) (fun f i x j => rfl) h.ok.lt (v := v) (by rw [← hq]; exact hq23) j
    rw [← hi, ← hq, ← hx0, ← hx1, ← hx2, ← hy0, ← hy1, ← hy2] at h1
    exact h1)
  have H := hid h
  have HN := hid hn
  have HV := hid hv
  have hn2 : t.n ≤ 4096 := by omega
  have hii : (i : Int) + 2 < 516 := by omega
  refine calls_via fun K hK => ?_
  clear h hi hv hn hq hq23 hy0 hy1 hy2 hx0 hx1 hx2 l0 l1 l2
  unfold tapP
  go_enter Tryz.func90, Tryz.ntmps90
  go_wp2_with (go_at_call 122; refine (inRange_any k hk _).mono ?_; rintro e w' ⟨rfl, hw⟩; have hw2 := hw; subst hw2; clear hw)
  go_region
  go_wp2_with fail
  go_region
  go_wp2_with fail
  go_region
  go_wp2_with fail
  refine hK.out _ _ ⟨rfl, ⟨?_, H.out.ok.put HV.out HN.out⟩, ?_⟩
  · have h2 := ((((H.out.toTapeR.set_b i y0).set_b (i + 1) y1).set_b (i + 2) y2).set_n (t.n + k)).drew.drew.drew
    rw [Int.natCast_add] at h2
    exact ⟨h2.buf, h2.n, h2.at_, h2.bytes.congr HF.out, h2.f0, h2.f1⟩
  · have s0 : Rng b (b + 2) b := ⟨by omega, by omega⟩
    have s1 : Rng b (b + 2) (b + 1) := ⟨by omega, by omega⟩
    repeat (first | with_reducible exact Fr.refl _ _ | with_reducible refine Fr.drew ?_ | with_reducible refine Fr.setS s0 ?_ _ _ | with_reducible refine Fr.setS s1 ?_ _ _)
theorem TapeR.congr {w : World} {b n a : Nat} {f g : Nat → Nat} (h : TapeR w b f n a) (e : ∀ i, i < 516 → f i = g i) : TapeR w b g n a := ⟨h.buf, h.n, h.at_, h.bytes.congr e, h.f0, h.f1⟩
theorem wipe_any {w : World} {b : Nat} {t : Tp} (h : TapeAt w b t) : Calls Tryz.prog 42 #[tapP b] w fun e w' => e = .returned (.tuple #[]) ∧ TapeR w' b (fun _ => 0) t.n t.at_ ∧ Fr (One b) w w' := by
  have c1 := h.n
  have hn := h.ok.len
  obtain ⟨u, hu⟩ : ∃ u, u = (t.n + 7) / 8 := ⟨_, rfl⟩
  have e2 : ((t.n : Int) + 7) / 8 = (u : Int) := by omega
  have HX : Hid (∀ i, u ≤ i → byt t.X i = 0) := hid fun i hi => byt_big h.ok.lt (by omega)
  have hu516 : u ≤ 512 := by omega
  have H := hid h.toTapeR
  clear h hu
  refine calls_via fun K hK => ?_
  unfold tapP
  go_enter Tryz.func42, Tryz.ntmps42
  go_wp2_with fail
  go_loopg [3] u (fun g i wr => ∃ k : Nat, i = .int .i64 (k : Nat) ∧ g + k = u ∧ TapeR wr b (fun j => if j < k then 0 else byt t.X j) t.n t.at_ ∧ Fr (One b) w wr)
  case atStart => exact ⟨0, rfl, by omega, H.out.congr fun i _ => by simp, Fr.refl _ _⟩
  case round =>
    obtain ⟨k, rfl, hg, hA, hf⟩ := hrel
    have c0 := hA.buf
    have cf : ∀ i, wr.frozen? ⟨b, i, none⟩ = false := hA.f0
    have HA := hid hA
    have HF := hid hf
    by_cases hlt : k < u
    · have hki : (k : Int) < u := by omega
      have hk5 : (k : Int) < 516 := by omega
      have cb := hA.bytes.at0 k (by omega)
      simp only [mkB] at cb
      clear hA hf
      go_wp2_with fail
      go_roundg (gk - 1)
      case measure => omega
      case rel =>
        refine ⟨k + 1, by simp, by omega, (HA.out.set_b k 0).congr fun i _ => ?_, HF.out.set1 _ _⟩
        unfold upd
        dsimp only
        by_cases e : i = k
        · subst e; simp
        · by_cases e2 : i < k
          · rw [if_neg e, if_pos e2, if_pos (by omega)]
          · rw [if_neg e, if_neg e2, if_neg (by omega)]
    · have hki : ¬ (k : Int) < u := by omega
      clear hA hf
      go_wp2_with fail
      go_end0
      refine hK.out _ _ ⟨rfl, HA.out.congr fun i _ => ?_, HF.out⟩
      by_cases e : i < k
      · rw [if_pos e]
      · rw [if_neg e, HX.out i (by omega)]
theorem reset_any {w : World} {b : Nat} {t : Tp} (h : TapeAt w b t) : Calls Tryz.prog 24 #[tapP b] w fun e w' => e = .returned (.tuple #[]) ∧ TapeAt w' b Tp.nil ∧ Fr (Rng b (b + 2)) w w' := by
  have hw := wipe_any h
  have HW := hid hw
  have H := hid h
  clear h hw
  refine calls_via fun K hK => ?_
  unfold tapP at HW ⊢
  go_enter Tryz.func24, Tryz.ntmps24
  go_wp2_with (go_at_call 42; refine HW.out.mono ?_; rintro e w1 ⟨rfl, h1, hf1⟩; have c1 := h1.n; have c2 := h1.at_; have cf : ∀ i, w1.frozen? ⟨b + 1, i, none⟩ = false := h1.f1; have H1 := hid h1; have HF1 := hid hf1; clear h1 hf1)
  go_end0
  have s1 : Rng b (b + 2) (b + 1) := ⟨by omega, by omega⟩
  refine hK.out _ _ ⟨rfl, ⟨?_, Tp.nil_ok⟩, ?_⟩
  · exact ((H1.out.set_n 0).set_at 0).congr fun i _ => (byt_zero i).symm
  · have hf : Fr (Rng b (b + 2)) w w1 := HF1.out.mono fun x hx _ => by unfold One at hx; subst hx; exact ⟨by omega, by omega⟩
    exact (hf.setS s1 _ _).setS s1 _ _
theorem text_any {w : World} {b : Nat} {t : Tp} (h : TapeAt w b t) : Calls Tryz.prog 93 #[tapP b] w fun e w' => e = .returned (.string (strN t.text)) ∧ w' = w.drew := by
  have c1 := h.n
  have c0 := h.buf
  have hn := h.ok.len
  obtain ⟨u, hu⟩ : ∃ u, u = (t.n + 7) / 8 := ⟨_, rfl⟩
  have e2 : ((t.n : Int) + 7) / 8 = (u : Int) := by omega
  have hu516 : u ≤ 512 := by omega
  have hu1 : (u : Int) ≤ 516 := by omega
  have hu0 : (0 : Int) ≤ u := by omega
  have hcv := conv_str (w := w.drew) (g := b) (o := 0) (n := u) (cap := 516) (f := byt t.X) (fun i hi => h.bytes i (by omega))
  have ht : t.text = (List.range u).map (byt t.X) := by unfold Tp.text; rw [← hu]
  rw [← ht] at hcv
  clear h hu ht
  refine calls_via fun K hK => ?_
  unfold tapP
  go_enter Tryz.func93, Tryz.ntmps93
  go_wp2_with fail
  go_region
  go_wp2_with fail
  exact hK.out _ _ ⟨rfl, rfl⟩
end Go.Proofs.Qxb6500353aGreat
