/- The real archive: the writer's strokes, walked. -/
import Derived.Test.Qxb6500353aGreatObj2
import Derived.Test.Qxb6500353aGreatCpv
import Derived.Test.Qxb6500353aGreatArc
import Derived.Test.Qxb6500353aGreatBit
namespace Go.Proofs.Qxb6500353aGreat
open Go.RowKit
set_option linter.unusedVariables false
set_option linter.unusedSimpArgs false

/-- The page holds l up to the cursor. -/
structure Pg (R : ArR) (l : List Nat) : Prop where
  fill : R.fill = l.length
  page : ∀ i, i < l.length → R.page i = l.getD i 0
  le : l.length ≤ 1200
/-- The other fields stay. -/
structure ArK (R R2 : ArR) : Prop where
  k : R2.k = R.k
  d : R2.d = R.d
  offs : R2.offs = R.offs
  fl : R.fill ≤ 1200 → R2.fill ≤ 1200
theorem ArK.refl (R : ArR) : ArK R R := ⟨rfl, rfl, rfl, fun h => h⟩
theorem ArK.trans {R R2 R3 : ArR} (h : ArK R R2) (k : ArK R2 R3) : ArK R R3 := ⟨k.k.trans h.k, k.d.trans h.d, k.offs.trans h.offs, fun q => k.fl (h.fl q)⟩
theorem Pg.app {R : ArR} {l : List Nat} (h : Pg R l) (v : Nat) (hl : l.length < 1200) {R2 : ArR} (e1 : R2.page = upd R.page l.length v) (e2 : R2.fill = l.length + 1) : Pg R2 (l ++ [v]) := by
  have hll : (l ++ [v]).length = l.length + 1 := by simp
  refine ⟨by rw [e2, hll], fun i hi => ?_, by rw [hll]; omega⟩
  rw [hll] at hi
  rw [e1]
  by_cases e : i = l.length
  · subst e; rw [upd_self, List.getD_eq_getElem?_getD, List.getElem?_append_right (Nat.le_refl _)]; simp
  · rw [upd_ne _ _ _ _ e, h.page i (by omega), List.getD_eq_getElem?_getD, List.getD_eq_getElem?_getD, List.getElem?_append_left (by omega)]
set_option maxRecDepth 100000 in
set_option maxHeartbeats 4000000 in
theorem one_any {w : World} {b : Nat} {R : ArR} {l : List Nat} (h : ArAt w b R) (hp : Pg R l) {v : Nat} (hv : v < 256) (hl : l.length < 1200) :
    Calls Tryz.prog 46 #[ptrV b, .int .i64 (v : Nat)] w fun e w' => e = .returned (.tuple #[]) ∧ (∃ R2, ArAt w' b R2 ∧ Pg R2 (l ++ [v]) ∧ ArK R R2) ∧ Fr (Rng b (b + 5)) w w' := by
  have c1 := h.p_page
  have c2 := h.c_fill
  rw [hp.fill] at c2
  obtain ⟨n, hn⟩ : ∃ z, z = l.length := ⟨_, rfl⟩
  rw [← hn] at c2 hl
  have c3 := h.a_page.cell n hl
  simp only [mkB] at c3
  obtain ⟨y, hy⟩ : ∃ z, z = R.page n := ⟨_, rfl⟩
  rw [← hy] at c3
  have cf : ∀ i, w.frozen? ⟨b, i, none⟩ = false := h.fz
  have cp : ∀ i, w.frozen? ⟨b + 1, i, none⟩ = false := h.a_page.thaw
  have hni : (n : Int) < 1200 := by omega
  have n1 : ¬ b = b + 1 := by omega
  have n2 : ¬ b + 1 = b := by omega
  have e8 : IntKind.u8.wrap (v : Int) = (v : Int) := wrap8 (by omega) (by omega)
  have h1 := ((h.set_page n v).set_fill (n + 1)).drew
  have f1 : Fr (Rng b (b + 5)) w (((w.setCell ⟨b + 1, n, none⟩ (.int .u8 (v : Nat))).setCell ⟨b, 3, none⟩ (.int .i64 ((n + 1 : Nat) : Int))).drew) := (((Fr.refl _ _).setS ⟨by omega, by omega⟩ _ _).setS ⟨by omega, by omega⟩ _ _).drew
  have hp1 := hp.app (R2 := { R with page := upd R.page n v, fill := n + 1 }) v (by rw [← hn]; exact hl) (by rw [hn]) (by rw [hn])
  rw [Int.natCast_add] at h1 f1
  have H1 := hid h1
  have F1 := hid f1
  have HP1 := hid hp1
  clear h hp hn hy h1 f1 hp1 hl hv
  refine calls_via fun K hK => ?_
  unfold ptrV
  go_enter Tryz.func46, Tryz.ntmps46
  go_wp2_with go_region
  go_end0
  exact hK.out _ _ ⟨rfl, ⟨_, H1.out, HP1.out, ⟨rfl, rfl, rfl, fun _ => by rw [HP1.out.fill]; exact HP1.out.le⟩⟩, F1.out⟩
set_option maxRecDepth 100000 in
set_option maxHeartbeats 4000000 in
theorem two_any {w : World} {b : Nat} {R : ArR} {l : List Nat} (h : ArAt w b R) (hp : Pg R l) {v : Nat} (hv : v < 65536) (hl : l.length + 1 < 1200) :
    Calls Tryz.prog 45 #[ptrV b, .int .i64 (v : Nat)] w fun e w' => e = .returned (.tuple #[]) ∧ (∃ R2, ArAt w' b R2 ∧ Pg R2 (l ++ two v) ∧ ArK R R2) ∧ Fr (Rng b (b + 5)) w w' := by
  have c1 := h.p_page
  have c2 := h.c_fill
  rw [hp.fill] at c2
  obtain ⟨n, hn⟩ : ∃ z, z = l.length := ⟨_, rfl⟩
  rw [← hn] at c2 hl
  have c3 := h.a_page.cell n (by omega)
  have c4 := h.a_page.cell (n + 1) (by omega)
  simp only [mkB] at c3 c4
  obtain ⟨y, hy⟩ : ∃ z, z = R.page n := ⟨_, rfl⟩
  rw [← hy] at c3
  obtain ⟨y2, hy2⟩ : ∃ z, z = R.page (n + 1) := ⟨_, rfl⟩
  rw [← hy2] at c4
  have cf : ∀ i, w.frozen? ⟨b, i, none⟩ = false := h.fz
  have cp : ∀ i, w.frozen? ⟨b + 1, i, none⟩ = false := h.a_page.thaw
  have hni : (n : Int) < 1199 := by omega
  have hn1 : ((n : Int) + 1).toNat = n + 1 := by omega
  have hn2 : (0 : Int) ≤ (n : Int) + 1 := by omega
  have hn3 : (n : Int) + 1 < 1200 := by omega
  have n1 : ¬ b = b + 1 := by omega
  have n2 : ¬ b + 1 = b := by omega
  have m1 : bits .and .i64 (v : Int) 255 = ((v % 256 : Nat) : Int) := mask255 (by omega)
  have m2 : bits .and .i64 ((v : Int) / 256) 255 = ((v / 256 % 256 : Nat) : Int) := by rw [show (v : Int) / 256 = ((v / 256 : Nat) : Int) by omega]; exact mask255 (by omega)
  obtain ⟨v1, hv1⟩ : ∃ z, z = v % 256 := ⟨_, rfl⟩
  obtain ⟨v2, hv2⟩ : ∃ z, z = v / 256 % 256 := ⟨_, rfl⟩
  rw [← hv1] at m1
  rw [← hv2] at m2
  have e8 : IntKind.u8.wrap (v1 : Int) = (v1 : Int) := wrap8 (by omega) (by omega)
  have e9 : IntKind.u8.wrap (v2 : Int) = (v2 : Int) := wrap8 (by omega) (by omega)
  have h1 := (((h.set_page n v1).set_page (n + 1) v2).set_fill (n + 2))
  have f1 : Fr (Rng b (b + 5)) w ((((w.setCell ⟨b + 1, n, none⟩ (.int .u8 (v1 : Nat))).setCell ⟨b + 1, n + 1, none⟩ (.int .u8 (v2 : Nat))).setCell ⟨b, 3, none⟩ (.int .i64 ((n + 2 : Nat) : Int)))) := ((((Fr.refl _ _).setS ⟨by omega, by omega⟩ _ _).setS ⟨by omega, by omega⟩ _ _).setS ⟨by omega, by omega⟩ _ _)
  have hp1 : Pg { R with page := upd (upd R.page n v1) (n + 1) v2, fill := n + 2 } (l ++ two v) := by
    have a1 := hp.app (R2 := { R with page := upd R.page n v1, fill := n + 1 }) v1 (by rw [← hn]; omega) (by rw [hn]) (by rw [hn])
    have a2 := a1.app (R2 := { R with page := upd (upd R.page n v1) (n + 1) v2, fill := n + 2 }) v2 (by rw [List.length_append, ← hn]; simp; omega) (by rw [List.length_append, ← hn]; rfl) (by rw [List.length_append, ← hn]; rfl)
    rw [List.append_assoc] at a2
    unfold two
    rw [← hv1, ← hv2]; exact a2
  rw [Int.natCast_add] at h1 f1
  have H1 := hid h1
  have F1 := hid f1
  have HP1 := hid hp1
  clear h hp hn hy h1 f1 hp1 hl hv hv1 hv2 hy2
  refine calls_via fun K hK => ?_
  unfold ptrV
  go_enter Tryz.func45, Tryz.ntmps45
  go_wp2_with go_region
  go_end0
  exact hK.out _ _ ⟨rfl, ⟨_, H1.out.drew.drew, HP1.out, ⟨rfl, rfl, rfl, fun _ => by rw [HP1.out.fill]; exact HP1.out.le⟩⟩, F1.out.drew.drew⟩
theorem ArAt.onPage {w w2 : World} {b : Nat} {R : ArR} {f : Nat → Nat} (h : ArAt w b R) (ha : Arr 5 mkB w2 (b + 1) 1200 f) (hf : Fr (One (b + 1)) w w2) : ArAt w2 b { R with page := f } := by
  have hl := h.lt
  have n1 : ∀ k, k ≠ b + 1 → ¬ One (b + 1) k := fun k a q => a q
  exact ⟨hf.cell h.c_k (n1 _ (by omega)), hf.cell h.c_d (n1 _ (by omega)), hf.cell h.p_page (n1 _ (by omega)), hf.cell h.c_fill (n1 _ (by omega)), hf.cell h.p_offs (n1 _ (by omega)), hf.cell h.p_tab (n1 _ (by omega)), hf.cell h.p_gain (n1 _ (by omega)), ha, h.a_offs.fr hf (n1 _ (by omega)), h.a_tab.fr hf (n1 _ (by omega)), h.a_gain.fr hf (n1 _ (by omega)), fun i => (hf.froz (by omega) (n1 _ (by omega)) i).trans (h.fz i)⟩
theorem Pg.apps {R : ArR} {l : List Nat} (h : Pg R l) (m : List Nat) (hl : l.length + m.length ≤ 1200) {R2 : ArR} (e1 : R2.page = fun i => if l.length ≤ i ∧ i < l.length + m.length then m.getD (i - l.length) 0 else R.page i) (e2 : R2.fill = l.length + m.length) : Pg R2 (l ++ m) := by
  have hll : (l ++ m).length = l.length + m.length := List.length_append
  refine ⟨by rw [e2, hll], fun i hi => ?_, by rw [hll]; omega⟩
  rw [hll] at hi
  rw [e1]
  dsimp only
  by_cases e : l.length ≤ i
  · rw [if_pos ⟨e, hi⟩, List.getD_eq_getElem?_getD, List.getD_eq_getElem?_getD, List.getElem?_append_right e]
  · rw [if_neg (by omega), h.page i (by omega), List.getD_eq_getElem?_getD, List.getD_eq_getElem?_getD, List.getElem?_append_left (by omega)]
set_option maxRecDepth 100000 in
set_option maxHeartbeats 4000000 in
theorem layS_any {w : World} {b : Nat} {R : ArR} {l : List Nat} (h : ArAt w b R) (hp : Pg R l) {s : ByteArray} (hlt : l.length < 1200) (hl : l.length + s.size ≤ 1200) :
    Calls Tryz.prog 62 #[ptrV b, .string s] w fun e w' => e = .returned (.tuple #[]) ∧ (∃ R2, ArAt w' b R2 ∧ Pg R2 (l ++ bytesOf s) ∧ ArK R R2) ∧ Fr (Rng b (b + 5)) w w' := by
  have c1 := h.p_page
  have c2 := h.c_fill
  rw [hp.fill] at c2
  have HL := hid hl
  obtain ⟨n, hn⟩ : ∃ z, z = l.length := ⟨_, rfl⟩
  rw [← hn] at c2 hl hlt
  have hne : ¬ 1200 = n := by omega
  have hni : (n : Int) ≤ 1200 := by omega
  have hsi : (n : Int) + s.size ≤ 1200 := by omega
  have H := hid h
  have HP := hid hp
  have HN := hid hn
  clear h hp hn
  refine calls_via fun K hK => ?_
  unfold ptrV
  go_enter Tryz.func62, Tryz.ntmps62
  go_wp2_with fail
  go_region_law (refine step_cps rfl _ _ 57 9 rfl Tryz.underlying57 (b + 1) n 1200 (1200 - n) (1200 - n) s rfl rfl H.out.drew.a_page (by omega) (by omega) ?_; intro w2 ha2 hs2 hf2; have HA2 := hid ha2; have HF2 := hid hf2; clear ha2 hs2 hf2)
  all_goals
    have h3 := H.out.drew.onPage HA2.out HF2.out
    have k1 := h3.c_fill
    dsimp only at k1
    rw [HP.out.fill, ← HN.out] at k1
    have kf : ∀ i, w2.frozen? ⟨b, i, none⟩ = false := h3.fz
    have h4 := h3.set_fill (n + s.size)
    rw [Int.natCast_add] at h4
    have H4 := hid h4
    clear h3 h4 c1 c2
    go_wp2_with fail
    go_end0
    exact hK.out _ _ ⟨rfl, ⟨_, H4.out, HP.out.apps (bytesOf s) (by rw [bytesOf_len]; exact HL.out) (by rw [bytesOf_len, ← HN.out]) (by rw [bytesOf_len, ← HN.out]), ⟨rfl, rfl, rfl, fun _ => by show n + s.size ≤ 1200; have := HL.out; rw [← HN.out] at this; exact this⟩⟩, ((Fr.refl (Rng b (b + 5)) w).drew.trans (HF2.out.mono fun x hx _ => by unfold One at hx; unfold Rng; omega)).setS ⟨by omega, by omega⟩ _ _⟩
end Go.Proofs.Qxb6500353aGreat
