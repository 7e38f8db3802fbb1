/- The real coder: flip, Code, Find, walked. -/
import Derived.Test.Qxb6500353aGreatTrw
namespace Go.Proofs.Qxb6500353aGreat
open Go.RowKit
set_option linter.unusedVariables false
set_option linter.unusedSimpArgs false

/-- The coder holds the code of the lengths l. -/
structure CoR (R : CdR) (l : List Nat) : Prop where
  n : R.n = l.length
  lens : ∀ s, s < l.length → R.lens s = len l s
  code : ∀ s, s < l.length → 0 < len l s → R.code s = Qxb6500353aGreat.code l s
  tab : TabOK l R.root R.sub
  ok : Lawful l
def CoAt (w : World) (b : Nat) (l : List Nat) : Prop := ∃ R, CdAt w b R ∧ CoR R l
theorem CoAt.fr {S : Nat → Prop} {w w2 : World} {b : Nat} {l : List Nat} (h : CoAt w b l) (hf : Fr S w w2) (hn : ∀ k, b ≤ k → k < b + 11 → ¬ S k) : CoAt w2 b l := by
  obtain ⟨R, h1, h2⟩ := h; exact ⟨R, h1.fr hf hn, h2⟩
theorem CoAt.drewN {w : World} {b k : Nat} {l : List Nat} (h : CoAt w b l) : CoAt (w.drewN k) b l := by
  obtain ⟨R, h1, h2⟩ := h; exact ⟨R, h1.drewN, h2⟩
theorem CoR.kept {R R2 : CdR} {l : List Nat} (h : CoR R l) (k : Kept R R2) : CoR R2 l :=
  ⟨by rw [k.n]; exact h.n, by rw [k.lens]; exact h.lens, by rw [k.code]; exact h.code, by rw [k.root, k.sub]; exact h.tab, h.ok⟩

theorem or1 (r b : Nat) (hb : b < 2) : r * 2 ||| b = 2 * r + b := by
  have h := Nat.two_pow_add_eq_or_of_lt (i := 1) (b := b) (by simpa using hb) r
  rw [show r * 2 = 2 ^ 1 * r by omega, ← h]
set_option maxRecDepth 100000 in
theorem flip_any (v n : Nat) (hv : v < 1048576) (hn : n ≤ 20) (w : World) : Calls Tryz.prog 155 #[.int .i64 v, .int .i64 n] w fun e w' => e = .returned (.int .i64 (rev n v : Nat)) ∧ w' = w := by
  refine calls_via fun K hK => ?_
  go_enter Tryz.func155, Tryz.ntmps155
  go_wp2_with fail
  go_loopg [0, 1, 5] n (fun g vv nv rv wr => ∃ k : Nat, g + k = n ∧ wr = w ∧ vv = .int .i64 ((v / 2 ^ k : Nat) : Int) ∧ nv = .int .i64 (g : Nat) ∧ rv = .int .i64 ((rev k v : Nat) : Int))
  case atStart => exact ⟨0, by omega, rfl, by simp, rfl, rfl⟩
  case round =>
    obtain ⟨k, hgk, rfl, rfl, rfl, rfl⟩ := hrel
    have hr := rev_lt k v
    have h2 : 2 ^ k ≤ 2 ^ 20 := Nat.pow_le_pow_right (by decide) (by omega)
    have hd : v / 2 ^ k ≤ v := Nat.div_le_self _ _
    have hds : v / 2 ^ k / 2 = v / 2 ^ (k + 1) := by rw [Nat.div_div_eq_div_mul, ← Nat.pow_succ]
    have hrs : rev (k + 1) v = 2 * rev k v + v / 2 ^ k % 2 := rfl
    obtain ⟨p, hp⟩ : ∃ p, p = 2 ^ k := ⟨_, rfl⟩
    rw [← hp] at hr h2 hd hds hrs ⊢
    obtain ⟨q, hq⟩ : ∃ q, q = v / p := ⟨_, rfl⟩
    obtain ⟨r, hrr⟩ : ∃ r, r = rev k v := ⟨_, rfl⟩
    rw [← hq] at hd hds hrs ⊢
    rw [← hrr] at hr hrs ⊢
    have h20 : (2 : Nat) ^ 20 = 1048576 := rfl
    rw [h20] at h2
    by_cases h0 : 0 < gk
    · have h0i : (0 : Int) < gk := by omega
      have e1 : bits .and .i64 (q : Int) 1 = ((q % 2 : Nat) : Int) := mask1 (by omega)
      have e2 : bits .or .i64 ((r : Int) * 2) ((q : Int) % 2) = ((2 * r + q % 2 : Nat) : Int) := by
        rw [show (r : Int) * 2 = ((r * 2 : Nat) : Int) by omega, show (q : Int) % 2 = ((q % 2 : Nat) : Int) by omega, orI (by omega) (by omega), or1 _ _ (by omega)]
      have e2b : bits .or .i64 ((r : Int) * 2) ((q % 2 : Nat) : Int) = ((2 * r + q % 2 : Nat) : Int) := by
        rw [show (r : Int) * 2 = ((r * 2 : Nat) : Int) by omega, orI (by omega) (by omega), or1 _ _ (by omega)]
      have hri : (r : Int) < 1048576 := by omega
      have hqi : (q : Int) < 1048576 := by omega
      have HDS := hid hds
      have HRS := hid hrs
      clear hp hq hrr hds hrs hr h2 hd
      go_wp2_with fail
      go_roundg (gk - 1)
      case measure => omega
      case rel =>
        refine ⟨k + 1, by omega, rfl, by rw [← HDS.out]; simp, by rw [show ((gk - 1 : Nat) : Int) = (gk : Int) - 1 by omega], by rw [HRS.out]; simp⟩
    · have h0i : ¬ (0 : Int) < gk := by omega
      have hkn : k = n := by omega
      subst hkn
      clear hds hrs hp hq hr h2 hd
      go_wp2_with fail
      exact hK.out _ _ ⟨by rw [← hrr], rfl⟩
set_option maxRecDepth 100000 in
theorem code_any {w : World} {b : Nat} {l : List Nat} (h : CoAt w b l) (s : Nat) (hs : 0 < len l s) :
    Calls Tryz.prog 157 #[ptrV b, .int .i64 s] w fun e w' => e = .returned (.tuple #[.int .i64 (code l s : Nat), .int .i64 (len l s : Nat), .int .i64 0]) ∧ ∃ q, w' = w.drewN q := by
  obtain ⟨R, hR, ho⟩ := h
  have hsl := len_lt hs
  have h265 := ho.ok.size
  have cn := hR.c_n
  have p1 := hR.p_lens
  have p2 := hR.p_code
  have x1 := hR.a_lens.cell s (by omega)
  have x2 := hR.a_code.cell s (by omega)
  simp only [mkN] at x1 x2
  rw [ho.lens s hsl] at x1
  rw [ho.code s hsl hs] at x2
  rw [ho.n] at cn
  obtain ⟨n, hn⟩ : ∃ n, n = l.length := ⟨_, rfl⟩
  obtain ⟨x, hx⟩ : ∃ n, n = len l s := ⟨_, rfl⟩
  obtain ⟨y, hy⟩ : ∃ n, n = code l s := ⟨_, rfl⟩
  rw [← hn] at cn hsl h265
  rw [← hx] at x1 hs ⊢
  rw [← hy] at x2 ⊢
  have hsi : (s : Int) < n := by omega
  have hs265 : (s : Int) < 265 := by omega
  have hxi : ((x : Int) == 0) = false := by simp; omega
  have hs0 : ¬ (s : Int) < 0 := by omega
  have hd0 : decide ((s : Int) < 0) = false := decide_eq_false hs0
  clear hR ho hn hx hy
  refine calls_via fun K hK => ?_
  unfold ptrV
  go_enter Tryz.func157, Tryz.ntmps157
  go_wp2_with fail
  go_quiet (fail)
  go_wp2_with fail
  go_ret3
  exact hK.out _ _ ⟨rfl, _, rfl⟩
theorem tab_bound {l : List Nat} (hl : Fit l) {root sub : Nat → Int} (h : TabOK l root sub) (a : Nat) (hneg : root (a % 64) < 0) :
    (-root (a % 64)).toNat / 16 + a / 64 % 2 ^ ((-root (a % 64)).toNat % 16) < 1024 ∧ (-root (a % 64)).toNat % 16 ≤ 4 := by
  have hp : a % 64 < 64 := Nat.mod_lt _ (by decide)
  have hlo := h.lo _ hp
  obtain ⟨R, hR⟩ : ∃ R, R = lay1 l l.length := ⟨_, rfl⟩
  rw [← hR] at hlo
  have hge : ∀ p, -4 ≤ R p := fun p => by rw [hR]; exact lay1_ge hl _ _
  have hRneg : R (a % 64) < 0 := by
    refine Classical.byContradiction fun hc => ?_
    rw [hlo, lay2, if_neg hc] at hneg; exact hc hneg
  rw [hlo, lay2, if_pos hRneg]
  have h4 := hge (a % 64)
  have e1 : (- -((topF R (a % 64) * 16 + (-R (a % 64)).toNat : Nat) : Int)).toNat = topF R (a % 64) * 16 + (-R (a % 64)).toNat := by omega
  rw [e1]
  have e2 : (topF R (a % 64) * 16 + (-R (a % 64)).toNat) / 16 = topF R (a % 64) := by omega
  have e3 : (topF R (a % 64) * 16 + (-R (a % 64)).toNat) % 16 = (-R (a % 64)).toNat := by omega
  rw [e2, e3]
  have hb := Nat.mod_lt (a / 64) (pw_pos (-R (a % 64)).toNat)
  have h5 := topF_mono R (show a % 64 + 1 ≤ 64 by omega)
  rw [top_step hRneg] at h5
  have h6 := topF_le R hge 64
  refine ⟨?_, by omega⟩
  generalize 2 ^ (-R (a % 64)).toNat = q at *
  generalize a / 64 % q = z at *
  omega
theorem find_res {l : List Nat} (hl : Lawful l) {a h : Nat} (ha : a < 2 ^ h) {c : Nat} (hc : c = look l a) :
    findF l a h = if c = 0 then (0, 0, 8) else if h < c % 16 then (0, 0, 4) else (c / 16, c % 16, 0) := by
  rw [hc]; exact look_find hl ha
set_option maxRecDepth 100000 in
set_option maxHeartbeats 1000000 in
theorem find_any {w : World} {b : Nat} {l : List Nat} (h : CoAt w b l) (a hv : Nat) (ha : a < 2 ^ hv) (hh : hv ≤ 16) :
    Calls Tryz.prog 169 #[ptrV b, .int .i64 a, .int .i64 hv] w fun e w' => e = .returned (.tuple #[.int .i64 ((findF l a hv).1 : Nat), .int .i64 ((findF l a hv).2.1 : Nat), .int .i64 ((findF l a hv).2.2 : Nat)]) ∧ w' = w := by
  obtain ⟨R, hR, ho⟩ := h
  have hlk := lookT_ok ho.ok.toFit ho.tab a
  obtain ⟨c, hc⟩ : ∃ c, c = look l a := ⟨_, rfl⟩
  have hres := find_res ho.ok ha hc
  rw [← hc] at hlk
  have hcb : c < 265 * 16 + 16 := by
    rw [hc]
    by_cases hx : ∃ s, Hit l s a
    · obtain ⟨s, hs⟩ := hx
      rw [look_hit ho.ok.toFit hs]
      have h1 := len_lt hs.1
      have h2 := ho.ok.toFit.len_le s
      have h3 := ho.ok.size
      omega
    · rw [look_no (fun s hs => hx ⟨s, hs⟩)]; omega
  have ha16 : a < 65536 := Nat.lt_of_lt_of_le ha (Nat.pow_le_pow_right (n := 2) (i := hv) (j := 16) (by decide) hh)
  have hsh : (a : Int) / 2 ^ hv = 0 := by rw [powI, Nat.div_eq_of_lt ha]; rfl
  have HSH := hid hsh
  clear hsh ha
  have p3 := hR.p_root
  have p4 := hR.p_sub
  have hm : a % 64 < 64 := Nat.mod_lt _ (by decide)
  have x3 := hR.a_root.cell (a % 64) hm
  simp only [mkI] at x3
  have e1 : bits .and .i64 (a : Int) 63 = ((a % 64 : Nat) : Int) := mask63 (by omega)
  have ha0 : (0 : Int) ≤ a := by omega
  have ha1 : ¬ (a : Int) < 0 := by omega
  have hh0 : ¬ (hv : Int) < 0 := by omega
  have hh1 : ¬ (16 : Int) < hv := by omega
  have hhn : (0 : Int) ≤ hv := by omega
  obtain ⟨n16, hn16⟩ : ∃ n, n = c % 16 := ⟨_, rfl⟩
  obtain ⟨s16, hs16⟩ : ∃ n, n = c / 16 := ⟨_, rfl⟩
  have e15 : bits .and .i64 (c : Int) 15 = (n16 : Int) := by rw [hn16]; exact mask15 (by omega)
  have es16 : (c : Int) / 16 = (s16 : Int) := by omega
  obtain ⟨res, hres2⟩ : ∃ r, r = findF l a hv := ⟨_, rfl⟩
  rw [← hres2] at hres ⊢
  rw [← hn16, ← hs16] at hres
  have hn16i : (n16 : Int) < 16 := by omega
  obtain ⟨m, hmm⟩ : ∃ m, m = a % 64 := ⟨_, rfl⟩
  rw [← hmm] at x3 e1 hm
  have hmi : (m : Int) < 64 := by omega
  have hci : (c : Int) < 5000 := by omega
  -- the tail: what becomes of the cell
  have HRES := hid hres
  by_cases hneg : R.root m < 0
  · have hb := tab_bound ho.ok.toFit ho.tab a (by rw [← hmm]; exact hneg)
    unfold lookT at hlk
    rw [← hmm, if_pos hneg] at hlk
    rw [← hmm] at hb
    obtain ⟨L, hL⟩ : ∃ L, L = (-R.root m).toNat := ⟨_, rfl⟩
    rw [← hL] at hlk hb
    have hLe : R.root m = -(L : Int) := by omega
    rw [hLe] at x3
    have hLpos : 0 < L := by omega
    obtain ⟨hb1, hb2⟩ := hb
    have hL16 : L / 16 < 1024 := by
      generalize a / 64 % 2 ^ (L % 16) = z at hb1; omega
    have hLb : L < 16384 := by omega
    obtain ⟨z, hz⟩ : ∃ z, z = a / 64 % 2 ^ (L % 16) := ⟨_, rfl⟩
    have hwd : L % 16 ≤ 62 := by omega
    have ez : bits .and .i64 ((a : Int) / 64) (wrap64 (wrap64 (2 ^ (L % 16)) - 1)) = (z : Int) := by
      rw [w64m hwd, show (a : Int) / 64 = ((a / 64 : Nat) : Int) by simp, maskI (by omega) hwd, hz]
    rw [← hz] at hlk hb1
    have x4 := hR.a_sub.cell (L / 16 + z) hb1
    simp only [mkI] at x4
    rw [hlk] at x4
    have e15L : bits .and .i64 (L : Int) 15 = ((L % 16 : Nat) : Int) := mask15 (by omega)
    have hLi : (L : Int) < 16384 := by omega
    have hL0 : (0 : Int) < L := by omega
    obtain ⟨ld, hld⟩ : ∃ d, d = L / 16 := ⟨_, rfl⟩
    rw [← hld] at x4 hb1
    have eld : (L : Int) / 16 = (ld : Int) := by omega
    have hbi : (ld : Int) + z < 1024 := by omega
    have EZ := hid ez
    clear hR ho hlk hb2 hL hLe hres hres2 hz ez hc hcb hwd hmm hld hL16 hLb hb1
    by_cases c0 : c = 0
    · subst c0
      have hr : res = (0, 0, 8) := by rw [HRES.out]; rfl
      have HR := hid hr
      clear hr HRES e15 es16 hn16 hs16 hn16i
      have ez := EZ.out
      have hsh := HSH.out
      refine calls_via fun K hK => ?_
      unfold ptrV
      go_enter Tryz.func169, Tryz.ntmps169
      go_wp2_with fail
      go_ret3
      exact hK.out _ _ ⟨by rw [HR.out]; rfl, rfl⟩
    · have c0i : ((c : Int) == 0) = false := by simp; omega
      by_cases hlt : hv < n16
      · have hlti : (hv : Int) < n16 := by omega
        have hr : res = (0, 0, 4) := by rw [HRES.out, if_neg c0, if_pos hlt]
        have HR := hid hr
        clear hr HRES hn16 hs16
        have ez := EZ.out
        have hsh := HSH.out
        refine calls_via fun K hK => ?_
        unfold ptrV
        go_enter Tryz.func169, Tryz.ntmps169
        go_wp2_with fail
        go_ret3
        exact hK.out _ _ ⟨by rw [HR.out]; rfl, rfl⟩
      · have hlti : ¬ (hv : Int) < n16 := by omega
        have hr : res = (s16, n16, 0) := by rw [HRES.out, if_neg c0, if_neg hlt]
        have HR := hid hr
        clear hr HRES hn16 hs16
        have ez := EZ.out
        have hsh := HSH.out
        refine calls_via fun K hK => ?_
        unfold ptrV
        go_enter Tryz.func169, Tryz.ntmps169
        go_wp2_with fail
        go_ret3
        exact hK.out _ _ ⟨by rw [HR.out]; rfl, rfl⟩
  · have hnegi : ¬ R.root m < 0 := hneg
    unfold lookT at hlk
    rw [← hmm, if_neg hneg] at hlk
    rw [hlk] at x3
    have hcn : ¬ (c : Int) < 0 := by omega
    clear hR ho hlk hres hres2 hc hcb hmm hnegi hneg p4
    by_cases c0 : c = 0
    · subst c0
      have hr : res = (0, 0, 8) := by rw [HRES.out]; rfl
      have HR := hid hr
      clear hr HRES e15 es16 hn16 hs16 hn16i
      have hsh := HSH.out
      refine calls_via fun K hK => ?_
      unfold ptrV
      go_enter Tryz.func169, Tryz.ntmps169
      go_wp2_with fail
      go_ret3
      exact hK.out _ _ ⟨by rw [HR.out]; rfl, rfl⟩
    · have c0i : ((c : Int) == 0) = false := by simp; omega
      by_cases hlt : hv < n16
      · have hlti : (hv : Int) < n16 := by omega
        have hr : res = (0, 0, 4) := by rw [HRES.out, if_neg c0, if_pos hlt]
        have HR := hid hr
        clear hr HRES hn16 hs16
        have hsh := HSH.out
        refine calls_via fun K hK => ?_
        unfold ptrV
        go_enter Tryz.func169, Tryz.ntmps169
        go_wp2_with fail
        go_ret3
        exact hK.out _ _ ⟨by rw [HR.out]; rfl, rfl⟩
      · have hlti : ¬ (hv : Int) < n16 := by omega
        have hr : res = (s16, n16, 0) := by rw [HRES.out, if_neg c0, if_neg hlt]
        have HR := hid hr
        clear hr HRES hn16 hs16
        have hsh := HSH.out
        refine calls_via fun K hK => ?_
        unfold ptrV
        go_enter Tryz.func169, Tryz.ntmps169
        go_wp2_with fail
        go_ret3
        exact hK.out _ _ ⟨by rw [HR.out]; rfl, rfl⟩
end Go.Proofs.Qxb6500353aGreat
