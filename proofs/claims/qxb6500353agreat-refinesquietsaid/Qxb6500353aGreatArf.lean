/- The container's frame: spot, walked. -/
import Derived.Test.Qxb6500353aGreatAre
import Derived.Test.Qxb6500353aGreatStn
namespace Go.Proofs.Qxb6500353aGreat
open Go.RowKit
set_option linter.unusedVariables false
set_option linter.unusedSimpArgs false

theorem Mk.other {w : World} {N m b i : Nat} {f : Nat → Value} (h : Mk w N m f) (hne : N ≠ b) (v : Value) : Mk (w.setCell ⟨b, i, none⟩ v) N m f :=
  ⟨fun j hj => (otherB hne).trans (h.cells j hj), fun j => Thaw.set h.fz _ _ j⟩
def UpN (N : Nat) : Nat → Prop := fun k => N ≤ k
theorem UpN.nob {N : Nat} {w w2 : World} (hN : w.heap.size = N) (h : Fr (UpN N) w w2) : Fr Nob w w2 := h.mono fun x hx hl => by unfold UpN at hx; omega
def slotN (r : RowP) : List Nat := [r.off, r.head, r.to, r.size, r.sum]
set_option maxRecDepth 100000 in
set_option maxHeartbeats 8000000 in
theorem spot_any {w : World} {s : ByteArray} (hs : s.size ≤ 1200) {dir cell : Nat} (hd : dir ≤ s.size) (hc : cell + 2 ≤ s.size) :
    Calls Tryz.prog 73 #[.string s, .int .i64 (dir : Nat), .int .i64 (cell : Nat)] w fun e w' => ∃ v0 v1 v2 v3 v4 : Nat, e = .returned (.tuple #[.agg #[.int .i64 (v0 : Nat), .int .i64 (v1 : Nat), .int .i64 (v2 : Nat), .int .i64 (v3 : Nat), .int .i64 (v4 : Nat)], .int .i64 ((spotF (bytesOf s) dir cell).1 : Nat), .int .i64 ((spotF (bytesOf s) dir cell).2 : Nat)]) ∧ ((spotF (bytesOf s) dir cell).1 = 0 → [v0, v1, v2, v3, v4] = slotN (rowAt (bytesOf s) cell)) ∧ Fr Nob w w' := by
  obtain ⟨N, hN⟩ : ∃ N, w.heap.size = N := ⟨_, rfl⟩
  have p0 := Mk.start w N hN [.int .i64 0, .int .i64 0, .int .i64 0, .int .i64 0, .int .i64 0] 121
  have q0 : Fr (UpN N) w (w.alloc (Obj.cells #[.int .i64 0, .int .i64 0, .int .i64 0, .int .i64 0, .int .i64 0] 121)) := (Fr.refl _ _).alloc _
  obtain ⟨w0, hw0⟩ : ∃ w0, w.alloc (Obj.cells #[.int .i64 0, .int .i64 0, .int .i64 0, .int .i64 0, .int .i64 0] 121) = w0 := ⟨_, rfl⟩
  have hs0 : w0.heap.size = N + 1 := by rw [← hw0, ← hN]; exact World.size_alloc _ _
  have p00 : Mk w0 N 5 (fun i => ([.int .i64 0, .int .i64 0, .int .i64 0, .int .i64 0, .int .i64 0] : List Value).getD i undef) := by rw [← hw0]; exact p0
  have q00 : Fr (UpN N) w w0 := by rw [← hw0]; exact q0
  have p1 := Mk.start w0 (N + 1) hs0 [.int .i64 0, .int .i64 0, .int .i64 0, .int .i64 0, .int .i64 0] 121
  have q1 : Fr (UpN N) w0 (w0.alloc (Obj.cells #[.int .i64 0, .int .i64 0, .int .i64 0, .int .i64 0, .int .i64 0] 121)) := (Fr.refl _ _).alloc _
  obtain ⟨w1, hw1⟩ : ∃ w1, w0.alloc (Obj.cells #[.int .i64 0, .int .i64 0, .int .i64 0, .int .i64 0, .int .i64 0] 121) = w1 := ⟨_, rfl⟩
  have p11 : Mk w1 (N + 1) 5 (fun i => ([.int .i64 0, .int .i64 0, .int .i64 0, .int .i64 0, .int .i64 0] : List Value).getD i undef) := by rw [← hw1]; exact p1
  have q11 : Fr (UpN N) w w1 := by rw [← hw1]; exact q00.trans q1
  have p01 : Mk w1 N 5 (fun i => ([.int .i64 0, .int .i64 0, .int .i64 0, .int .i64 0, .int .i64 0] : List Value).getD i undef) := p00.fr (S := Nob) (by decide) (by rw [← hw1]; exact (Fr.refl _ _).alloc _) (fun x => x)
  have HM := hid p11
  have HM0 := hid p01
  have HF := hid q11
  have HNN := hid hN
  have hNN : UpN N N := Nat.le_refl _
  have hN1 : UpN N (N + 1) := Nat.le_succ _
  have n1 : ¬ N = N + 1 := by omega
  have n2 : ¬ N + 1 = N := by omega
  clear p0 q0 p00 q00 p1 q1 p11 q11 p01
  -- the row, by letters
  have hwd := fun (i : Nat) (hi : i + 2 ≤ s.size) (w : World) => word_any (w := w) (s := s) (i := i) hi (by omega)
  have hsp : spotF (bytesOf s) dir cell = spotF (bytesOf s) dir cell := rfl
  unfold spotF at hsp
  have hrow : rowAt (bytesOf s) cell = rowAt (bytesOf s) cell := rfl
  obtain ⟨off, hoff⟩ : ∃ z, z = num2 (bytesOf s) cell := ⟨_, rfl⟩
  obtain ⟨n, hn⟩ : ∃ z, z = by_ (bytesOf s) off := ⟨_, rfl⟩
  obtain ⟨hd2, hhd⟩ : ∃ z, z = off + 1 + n := ⟨_, rfl⟩
  obtain ⟨sz, hsz⟩ : ∃ z, z = num2 (bytesOf s) hd2 := ⟨_, rfl⟩
  obtain ⟨lg, hlg⟩ : ∃ z, z = num2 (bytesOf s) (hd2 + 2) := ⟨_, rfl⟩
  obtain ⟨sm, hsm⟩ : ∃ z, z = num2 (bytesOf s) (hd2 + 4) := ⟨_, rfl⟩
  have hrow2 : rowAt (bytesOf s) cell = ⟨off, hd2, sz, sm, hd2 + 6 + lg⟩ := by unfold rowAt; simp only [← hoff, ← hn, ← hhd, ← hsz, ← hlg, ← hsm]
  have hsp2 : spotF (bytesOf s) dir cell = if dir ≤ off then (15, cell) else if dir < hd2 + 6 then (15, cell) else if dir < hd2 + 6 + lg then (15, cell) else if n = 0 ∨ 8 < n then (16, off) else if 256 < sz then (19, off) else if hd2 + 6 + 512 < hd2 + 6 + lg then (1, off) else (0, 0) := by
    unfold spotF; rw [hrow2]; simp only [← hoff, ← hn]
  obtain ⟨S, hS⟩ : ∃ z, z = spotF (bytesOf s) dir cell := ⟨_, rfl⟩
  rw [← hS] at hsp2 ⊢
  rw [hrow2]
  have hwo := hwd cell hc
  rw [← hoff] at hwo
  have HWO := hid hwo
  have hn256 : n < 256 := by rw [hn]; exact byS_lt s off
  have HDD := hid (And.intro hs (And.intro hd hn256))
  have HHD := hid hhd
  have HWD := hid (show (∀ (w : World), hd2 + 6 ≤ s.size → Calls Tryz.prog 108 #[.string s, .int .i64 (hd2 : Nat)] w fun e w' => e = .returned (.int .i64 (sz : Nat)) ∧ ∃ q, w' = w.drewN q) ∧ (∀ (w : World), hd2 + 6 ≤ s.size → Calls Tryz.prog 108 #[.string s, .int .i64 ((hd2 : Int) + 2)] w fun e w' => e = .returned (.int .i64 (lg : Nat)) ∧ ∃ q, w' = w.drewN q) ∧ (∀ (w : World), hd2 + 6 ≤ s.size → Calls Tryz.prog 108 #[.string s, .int .i64 ((hd2 : Int) + 4)] w fun e w' => e = .returned (.int .i64 (sm : Nat)) ∧ ∃ q, w' = w.drewN q) from ⟨fun w h => by have h9 := hwd hd2 (by omega) w; rw [← hsz] at h9; exact h9, fun w h => by have h9 := hwd (hd2 + 2) (by omega) w; rw [← hlg, Int.natCast_add] at h9; exact h9, fun w h => by have h9 := hwd (hd2 + 4) (by omega) w; rw [← hsm, Int.natCast_add] at h9; exact h9⟩)
  have hb := fun (h : off < s.size) => byteI s (k := off) h
  rw [← hn] at hb
  have HB := hid hb
  have hlgl : lg < 65536 := by rw [hlg]; unfold num2; have := byS_lt s (hd2 + 2); have := byS_lt s (hd2 + 2 + 1); omega
  have HLG := hid hlgl
  have hszl : sz < 65536 := by rw [hsz]; unfold num2; have := byS_lt s hd2; have := byS_lt s (hd2 + 1); omega
  have HSZ := hid hszl
  clear hwd hsp hrow hoff hn hsz hlg hsm hhd hrow2 hS hwo hb hn256 hs hd hc hlgl hszl
  refine calls_via fun K hK => ?_
  go_enter Tryz.func73, Tryz.ntmps73
  have c0 : w1.cell? ⟨N + 1, 0, none⟩ = some (.int .i64 0) := HM.out.cells 0 (by decide)
  have c1 : w1.cell? ⟨N + 1, 1, none⟩ = some (.int .i64 0) := HM.out.cells 1 (by decide)
  have c2 : w1.cell? ⟨N + 1, 2, none⟩ = some (.int .i64 0) := HM.out.cells 2 (by decide)
  have c3 : w1.cell? ⟨N + 1, 3, none⟩ = some (.int .i64 0) := HM.out.cells 3 (by decide)
  have c4 : w1.cell? ⟨N + 1, 4, none⟩ = some (.int .i64 0) := HM.out.cells 4 (by decide)
  have g0 : w1.cell? ⟨N, 0, none⟩ = some (.int .i64 0) := HM0.out.cells 0 (by decide)
  have g1 : w1.cell? ⟨N, 1, none⟩ = some (.int .i64 0) := HM0.out.cells 1 (by decide)
  have g2 : w1.cell? ⟨N, 2, none⟩ = some (.int .i64 0) := HM0.out.cells 2 (by decide)
  have g3 : w1.cell? ⟨N, 3, none⟩ = some (.int .i64 0) := HM0.out.cells 3 (by decide)
  have g4 : w1.cell? ⟨N, 4, none⟩ = some (.int .i64 0) := HM0.out.cells 4 (by decide)
  have cz : ∀ i, w1.frozen? ⟨N + 1, i, none⟩ = false := HM.out.fz
  have gz : ∀ i, w1.frozen? ⟨N, i, none⟩ = false := HM0.out.fz
  go_wp2_with fail
  clear c0 c1 c2 c3 c4 g0 g1 g2 g3 g4 cz gz
  obtain ⟨w2, hw⟩ : ∃ z, z = (((((w1.setCell ⟨N + 1, 0, none⟩ (.int .i64 0)).setCell ⟨N + 1, 1, none⟩ (.int .i64 0)).setCell ⟨N + 1, 2, none⟩ (.int .i64 0)).setCell ⟨N + 1, 3, none⟩ (.int .i64 0)).setCell ⟨N + 1, 4, none⟩ (.int .i64 0)) := ⟨_, rfl⟩
  rw [← hw]
  have HM : Hid (Mk w2 (N + 1) 5 _) := hid (by rw [hw]; exact (((((HM.out.set (i := 0) (by decide) (.int .i64 0)).set (i := 1) (by decide) (.int .i64 0)).set (i := 2) (by decide) (.int .i64 0)).set (i := 3) (by decide) (.int .i64 0)).set (i := 4) (by decide) (.int .i64 0)))
  have HM0 : Hid (Mk w2 N 5 _) := hid (by rw [hw]; exact (((((HM0.out.other (b := N + 1) (i := 0) (by omega) (.int .i64 0)).other (b := N + 1) (i := 1) (by omega) (.int .i64 0)).other (b := N + 1) (i := 2) (by omega) (.int .i64 0)).other (b := N + 1) (i := 3) (by omega) (.int .i64 0)).other (b := N + 1) (i := 4) (by omega) (.int .i64 0)))
  have HF : Hid (Fr (UpN N) w w2) := hid (by rw [hw]; exact (((((HF.out.setS hN1 0 (.int .i64 0)).setS hN1 1 (.int .i64 0)).setS hN1 2 (.int .i64 0)).setS hN1 3 (.int .i64 0)).setS hN1 4 (.int .i64 0)))
  clear hw
  refine (HWO.out _).mono ?_
  rintro e w3 ⟨rfl, q, hq⟩
  have HM := hid (HM.out.fr (S := Nob) (w2 := w3) (by decide) (by rw [hq]; exact Fr.of_drewN) (fun x => x))
  have HM0 := hid (HM0.out.fr (S := Nob) (w2 := w3) (by decide) (by rw [hq]; exact Fr.of_drewN) (fun x => x))
  have HF : Hid (Fr (UpN N) w w3) := hid (by rw [hq]; exact HF.out.drewN)
  clear hq
  have c0 : w3.cell? ⟨N + 1, 0, none⟩ = some (.int .i64 0) := HM.out.cells 0 (by decide)
  have c1 : w3.cell? ⟨N + 1, 1, none⟩ = some (.int .i64 0) := HM.out.cells 1 (by decide)
  have c2 : w3.cell? ⟨N + 1, 2, none⟩ = some (.int .i64 0) := HM.out.cells 2 (by decide)
  have c3 : w3.cell? ⟨N + 1, 3, none⟩ = some (.int .i64 0) := HM.out.cells 3 (by decide)
  have c4 : w3.cell? ⟨N + 1, 4, none⟩ = some (.int .i64 0) := HM.out.cells 4 (by decide)
  have g0 : w3.cell? ⟨N, 0, none⟩ = some (.int .i64 0) := HM0.out.cells 0 (by decide)
  have g1 : w3.cell? ⟨N, 1, none⟩ = some (.int .i64 0) := HM0.out.cells 1 (by decide)
  have g2 : w3.cell? ⟨N, 2, none⟩ = some (.int .i64 0) := HM0.out.cells 2 (by decide)
  have g3 : w3.cell? ⟨N, 3, none⟩ = some (.int .i64 0) := HM0.out.cells 3 (by decide)
  have g4 : w3.cell? ⟨N, 4, none⟩ = some (.int .i64 0) := HM0.out.cells 4 (by decide)
  have cz : ∀ i, w3.frozen? ⟨N + 1, i, none⟩ = false := HM.out.fz
  have gz : ∀ i, w3.frozen? ⟨N, i, none⟩ = false := HM0.out.fz
  by_cases k1 : dir ≤ off
  · have k1i : (dir : Int) ≤ off := by omega
    rw [if_pos k1] at hsp2
    subst hsp2
    clear k1
    go_wp2_with fail
    refine bodyPost_ret (v := .tuple #[.agg #[.int .i64 (off : Nat), .int .i64 0, .int .i64 0, .int .i64 0, .int .i64 0], .int .i64 15, .int .i64 (cell : Nat)]) (by simp [results, Tryz.results73, go_sem, cellSet, g0, g1, g2, g3, g4]) rfl ?_
    exact hK.out _ _ ⟨off, 0, 0, 0, 0, rfl, fun q => by simp at q, UpN.nob HNN.out (HF.out.trans ((((((((Fr.refl (UpN N) w3).setS hN1 0 (.int .i64 (off : Nat))).setS hNN 0 (.int .i64 (off : Nat))).setS hNN 1 (.int .i64 0)).setS hNN 2 (.int .i64 0)).setS hNN 3 (.int .i64 0)).setS hNN 4 (.int .i64 0))))⟩
  · have k1i : ¬ (dir : Int) ≤ off := by omega
    rw [if_neg k1] at hsp2
    have hos : off < s.size := by have := HDD.out.2.1; omega
    have hb2 := HB.out hos
    have hosi : (off : Int) < s.size := by omega
    have hoi : (off : Int) < 1200 := by have := HDD.out.1; omega
    have hni : (n : Int) < 256 := by have := HDD.out.2.2; omega
    have hdi : (dir : Int) ≤ 1200 := by have := HDD.out; omega
    have e1 : (off : Int) + 1 + (n : Int) = (hd2 : Int) := by have := HHD.out; omega
    have hhi : (hd2 : Int) ≤ 1456 := by omega
    obtain ⟨fr, hfr⟩ : ∃ z, z = hd2 + 6 := ⟨_, rfl⟩
    have e2 : (hd2 : Int) + 6 = (fr : Int) := by omega
    rw [← hfr] at hsp2 hK
    have en : IntKind.i64.wrap (n : Int) = n := wrapI (by omega) (by omega)
    by_cases k2 : dir < fr
    · have k2i : (dir : Int) < fr := by omega
      rw [if_pos k2] at hsp2
      subst hsp2
      clear k1 k2 hfr
      go_wp2_with fail
      refine bodyPost_ret (v := .tuple #[.agg #[.int .i64 (off : Nat), .int .i64 (hd2 : Nat), .int .i64 0, .int .i64 0, .int .i64 0], .int .i64 15, .int .i64 (cell : Nat)]) (by simp [results, Tryz.results73, go_sem, cellSet, g0, g1, g2, g3, g4]) rfl ?_
      exact hK.out _ _ ⟨off, hd2, 0, 0, 0, rfl, fun q => by simp at q, UpN.nob HNN.out (HF.out.trans (((((((((Fr.refl (UpN N) w3).setS hN1 0 (.int .i64 (off : Nat))).setS hN1 1 (.int .i64 (hd2 : Nat))).setS hNN 0 (.int .i64 (off : Nat))).setS hNN 1 (.int .i64 (hd2 : Nat))).setS hNN 2 (.int .i64 0)).setS hNN 3 (.int .i64 0)).setS hNN 4 (.int .i64 0))))⟩
    · have k2i : ¬ (dir : Int) < fr := by omega
      rw [if_neg k2] at hsp2
      have hh6 : hd2 + 6 ≤ s.size := by have := HDD.out; omega
      have HH6 := hid hh6
      obtain ⟨tot, hto⟩ : ∃ z, z = fr + lg := ⟨_, rfl⟩
      have e3 : (fr : Int) + (lg : Int) = (tot : Int) := by omega
      rw [← hto] at hsp2 hK
      have HTO := hid hto
      have HFR := hid hfr
      clear k1 k2 hh6 hfr
      go_wp2_with fail
      clear c0 c1 c2 c3 c4 g0 g1 g2 g3 g4 cz gz
      obtain ⟨w4, hw⟩ : ∃ z, z = ((w3.setCell ⟨N + 1, 0, none⟩ (.int .i64 (off : Nat))).setCell ⟨N + 1, 1, none⟩ (.int .i64 (hd2 : Nat))) := ⟨_, rfl⟩
      rw [← hw]
      have HM : Hid (Mk w4 (N + 1) 5 _) := hid (by rw [hw]; exact ((HM.out.set (i := 0) (by decide) (.int .i64 (off : Nat))).set (i := 1) (by decide) (.int .i64 (hd2 : Nat))))
      have HM0 : Hid (Mk w4 N 5 _) := hid (by rw [hw]; exact ((HM0.out.other (b := N + 1) (i := 0) (by omega) (.int .i64 (off : Nat))).other (b := N + 1) (i := 1) (by omega) (.int .i64 (hd2 : Nat))))
      have HF : Hid (Fr (UpN N) w w4) := hid (by rw [hw]; exact ((HF.out.setS hN1 0 (.int .i64 (off : Nat))).setS hN1 1 (.int .i64 (hd2 : Nat))))
      clear hw
      refine (HWD.out.1 _ HH6.out).mono ?_
      rintro e w5 ⟨rfl, q, hq⟩
      have HM := hid (HM.out.fr (S := Nob) (w2 := w5) (by decide) (by rw [hq]; exact Fr.of_drewN) (fun x => x))
      have HM0 := hid (HM0.out.fr (S := Nob) (w2 := w5) (by decide) (by rw [hq]; exact Fr.of_drewN) (fun x => x))
      have HF : Hid (Fr (UpN N) w w5) := hid (by rw [hq]; exact HF.out.drewN)
      clear hq
      have c0 : w5.cell? ⟨N + 1, 0, none⟩ = some (.int .i64 (off : Nat)) := HM.out.cells 0 (by decide)
      have c1 : w5.cell? ⟨N + 1, 1, none⟩ = some (.int .i64 (hd2 : Nat)) := HM.out.cells 1 (by decide)
      have c2 : w5.cell? ⟨N + 1, 2, none⟩ = some (.int .i64 0) := HM.out.cells 2 (by decide)
      have c3 : w5.cell? ⟨N + 1, 3, none⟩ = some (.int .i64 0) := HM.out.cells 3 (by decide)
      have c4 : w5.cell? ⟨N + 1, 4, none⟩ = some (.int .i64 0) := HM.out.cells 4 (by decide)
      have g0 : w5.cell? ⟨N, 0, none⟩ = some (.int .i64 0) := HM0.out.cells 0 (by decide)
      have g1 : w5.cell? ⟨N, 1, none⟩ = some (.int .i64 0) := HM0.out.cells 1 (by decide)
      have g2 : w5.cell? ⟨N, 2, none⟩ = some (.int .i64 0) := HM0.out.cells 2 (by decide)
      have g3 : w5.cell? ⟨N, 3, none⟩ = some (.int .i64 0) := HM0.out.cells 3 (by decide)
      have g4 : w5.cell? ⟨N, 4, none⟩ = some (.int .i64 0) := HM0.out.cells 4 (by decide)
      have cz : ∀ i, w5.frozen? ⟨N + 1, i, none⟩ = false := HM.out.fz
      have gz : ∀ i, w5.frozen? ⟨N, i, none⟩ = false := HM0.out.fz
      go_wp2_with fail
      clear c0 c1 c2 c3 c4 g0 g1 g2 g3 g4 cz gz
      obtain ⟨w6, hw⟩ : ∃ z, z = (w5.setCell ⟨N + 1, 3, none⟩ (.int .i64 (sz : Nat))) := ⟨_, rfl⟩
      rw [← hw]
      have HM : Hid (Mk w6 (N + 1) 5 _) := hid (by rw [hw]; exact (HM.out.set (i := 3) (by decide) (.int .i64 (sz : Nat))))
      have HM0 : Hid (Mk w6 N 5 _) := hid (by rw [hw]; exact (HM0.out.other (b := N + 1) (i := 3) (by omega) (.int .i64 (sz : Nat))))
      have HF : Hid (Fr (UpN N) w w6) := hid (by rw [hw]; exact (HF.out.setS hN1 3 (.int .i64 (sz : Nat))))
      clear hw
      refine (HWD.out.2.1 _ HH6.out).mono ?_
      rintro e w7 ⟨rfl, q, hq⟩
      have HM := hid (HM.out.fr (S := Nob) (w2 := w7) (by decide) (by rw [hq]; exact Fr.of_drewN) (fun x => x))
      have HM0 := hid (HM0.out.fr (S := Nob) (w2 := w7) (by decide) (by rw [hq]; exact Fr.of_drewN) (fun x => x))
      have HF : Hid (Fr (UpN N) w w7) := hid (by rw [hq]; exact HF.out.drewN)
      clear hq
      have c0 : w7.cell? ⟨N + 1, 0, none⟩ = some (.int .i64 (off : Nat)) := HM.out.cells 0 (by decide)
      have c1 : w7.cell? ⟨N + 1, 1, none⟩ = some (.int .i64 (hd2 : Nat)) := HM.out.cells 1 (by decide)
      have c2 : w7.cell? ⟨N + 1, 2, none⟩ = some (.int .i64 0) := HM.out.cells 2 (by decide)
      have c3 : w7.cell? ⟨N + 1, 3, none⟩ = some (.int .i64 (sz : Nat)) := HM.out.cells 3 (by decide)
      have c4 : w7.cell? ⟨N + 1, 4, none⟩ = some (.int .i64 0) := HM.out.cells 4 (by decide)
      have g0 : w7.cell? ⟨N, 0, none⟩ = some (.int .i64 0) := HM0.out.cells 0 (by decide)
      have g1 : w7.cell? ⟨N, 1, none⟩ = some (.int .i64 0) := HM0.out.cells 1 (by decide)
      have g2 : w7.cell? ⟨N, 2, none⟩ = some (.int .i64 0) := HM0.out.cells 2 (by decide)
      have g3 : w7.cell? ⟨N, 3, none⟩ = some (.int .i64 0) := HM0.out.cells 3 (by decide)
      have g4 : w7.cell? ⟨N, 4, none⟩ = some (.int .i64 0) := HM0.out.cells 4 (by decide)
      have cz : ∀ i, w7.frozen? ⟨N + 1, i, none⟩ = false := HM.out.fz
      have gz : ∀ i, w7.frozen? ⟨N, i, none⟩ = false := HM0.out.fz
      go_wp2_with fail
      clear c0 c1 c2 c3 c4 g0 g1 g2 g3 g4 cz gz
      refine (HWD.out.2.2 _ HH6.out).mono ?_
      rintro e w8 ⟨rfl, q, hq⟩
      have HM := hid (HM.out.fr (S := Nob) (w2 := w8) (by decide) (by rw [hq]; exact Fr.of_drewN) (fun x => x))
      have HM0 := hid (HM0.out.fr (S := Nob) (w2 := w8) (by decide) (by rw [hq]; exact Fr.of_drewN) (fun x => x))
      have HF : Hid (Fr (UpN N) w w8) := hid (by rw [hq]; exact HF.out.drewN)
      clear hq
      have c0 : w8.cell? ⟨N + 1, 0, none⟩ = some (.int .i64 (off : Nat)) := HM.out.cells 0 (by decide)
      have c1 : w8.cell? ⟨N + 1, 1, none⟩ = some (.int .i64 (hd2 : Nat)) := HM.out.cells 1 (by decide)
      have c2 : w8.cell? ⟨N + 1, 2, none⟩ = some (.int .i64 0) := HM.out.cells 2 (by decide)
      have c3 : w8.cell? ⟨N + 1, 3, none⟩ = some (.int .i64 (sz : Nat)) := HM.out.cells 3 (by decide)
      have c4 : w8.cell? ⟨N + 1, 4, none⟩ = some (.int .i64 0) := HM.out.cells 4 (by decide)
      have g0 : w8.cell? ⟨N, 0, none⟩ = some (.int .i64 0) := HM0.out.cells 0 (by decide)
      have g1 : w8.cell? ⟨N, 1, none⟩ = some (.int .i64 0) := HM0.out.cells 1 (by decide)
      have g2 : w8.cell? ⟨N, 2, none⟩ = some (.int .i64 0) := HM0.out.cells 2 (by decide)
      have g3 : w8.cell? ⟨N, 3, none⟩ = some (.int .i64 0) := HM0.out.cells 3 (by decide)
      have g4 : w8.cell? ⟨N, 4, none⟩ = some (.int .i64 0) := HM0.out.cells 4 (by decide)
      have cz : ∀ i, w8.frozen? ⟨N + 1, i, none⟩ = false := HM.out.fz
      have gz : ∀ i, w8.frozen? ⟨N, i, none⟩ = false := HM0.out.fz
      have e4 : wrap64 (tot : Int) = (tot : Int) := wrap64_n (by have := HTO.out; have := HFR.out; have := HLG.out; omega)
      have E4 := hid e4
      clear e4
      by_cases k3 : dir < tot
      · have k3i : (dir : Int) < tot := by omega
        rw [if_pos k3] at hsp2
        subst hsp2
        clear k3 hto
        have e4 := E4.out
        go_wp2_with fail
        refine bodyPost_ret (v := .tuple #[.agg #[.int .i64 (off : Nat), .int .i64 (hd2 : Nat), .int .i64 (tot : Nat), .int .i64 (sz : Nat), .int .i64 (sm : Nat)], .int .i64 15, .int .i64 (cell : Nat)]) (by simp [results, Tryz.results73, go_sem, cellSet, g0, g1, g2, g3, g4]) rfl ?_
        exact hK.out _ _ ⟨off, hd2, tot, sz, sm, rfl, fun q => by simp at q, UpN.nob HNN.out (HF.out.trans (((((((((Fr.refl (UpN N) w8).setS hN1 4 (.int .i64 (sm : Nat))).setS hN1 2 (.int .i64 (tot : Nat))).setS hNN 0 (.int .i64 (off : Nat))).setS hNN 1 (.int .i64 (hd2 : Nat))).setS hNN 2 (.int .i64 (tot : Nat))).setS hNN 3 (.int .i64 (sz : Nat))).setS hNN 4 (.int .i64 (sm : Nat)))))⟩
      · have k3i : ¬ (dir : Int) < tot := by omega
        rw [if_neg k3] at hsp2
        have hti : (tot : Int) ≤ 1200 := by omega
        clear k3 hto E4
        by_cases k4 : n = 0
        · have k4i : ((n : Int) == 0) = true := by rw [k4]; rfl
          rw [if_pos (Or.inl k4)] at hsp2
          subst hsp2
          clear k4
          go_upto_region 17 with fail
          clear c0 c1 c2 c3 c4 g0 g1 g2 g3 g4 cz gz
          obtain ⟨w9, hw⟩ : ∃ z, z = ((w8.setCell ⟨N + 1, 4, none⟩ (.int .i64 (sm : Nat))).setCell ⟨N + 1, 2, none⟩ (.int .i64 (tot : Nat))) := ⟨_, rfl⟩
          rw [← hw]
          have HM : Hid (Mk w9 (N + 1) 5 _) := hid (by rw [hw]; exact ((HM.out.set (i := 4) (by decide) (.int .i64 (sm : Nat))).set (i := 2) (by decide) (.int .i64 (tot : Nat))))
          have HM0 : Hid (Mk w9 N 5 _) := hid (by rw [hw]; exact ((HM0.out.other (b := N + 1) (i := 4) (by omega) (.int .i64 (sm : Nat))).other (b := N + 1) (i := 2) (by omega) (.int .i64 (tot : Nat))))
          have HF : Hid (Fr (UpN N) w w9) := hid (by rw [hw]; exact ((HF.out.setS hN1 4 (.int .i64 (sm : Nat))).setS hN1 2 (.int .i64 (tot : Nat))))
          clear hw
          have c0 : w9.cell? ⟨N + 1, 0, none⟩ = some (.int .i64 (off : Nat)) := HM.out.cells 0 (by decide)
          have c1 : w9.cell? ⟨N + 1, 1, none⟩ = some (.int .i64 (hd2 : Nat)) := HM.out.cells 1 (by decide)
          have c2 : w9.cell? ⟨N + 1, 2, none⟩ = some (.int .i64 (tot : Nat)) := HM.out.cells 2 (by decide)
          have c3 : w9.cell? ⟨N + 1, 3, none⟩ = some (.int .i64 (sz : Nat)) := HM.out.cells 3 (by decide)
          have c4 : w9.cell? ⟨N + 1, 4, none⟩ = some (.int .i64 (sm : Nat)) := HM.out.cells 4 (by decide)
          have g0 : w9.cell? ⟨N, 0, none⟩ = some (.int .i64 0) := HM0.out.cells 0 (by decide)
          have g1 : w9.cell? ⟨N, 1, none⟩ = some (.int .i64 0) := HM0.out.cells 1 (by decide)
          have g2 : w9.cell? ⟨N, 2, none⟩ = some (.int .i64 0) := HM0.out.cells 2 (by decide)
          have g3 : w9.cell? ⟨N, 3, none⟩ = some (.int .i64 0) := HM0.out.cells 3 (by decide)
          have g4 : w9.cell? ⟨N, 4, none⟩ = some (.int .i64 0) := HM0.out.cells 4 (by decide)
          have cz : ∀ i, w9.frozen? ⟨N + 1, i, none⟩ = false := HM.out.fz
          have gz : ∀ i, w9.frozen? ⟨N, i, none⟩ = false := HM0.out.fz
          go_region
          go_wp2_with fail
          refine bodyPost_ret (v := .tuple #[.agg #[.int .i64 (off : Nat), .int .i64 (hd2 : Nat), .int .i64 (tot : Nat), .int .i64 (sz : Nat), .int .i64 (sm : Nat)], .int .i64 16, .int .i64 (off : Nat)]) (by simp [results, Tryz.results73, go_sem, cellSet, g0, g1, g2, g3, g4]) rfl ?_
          exact hK.out _ _ ⟨off, hd2, tot, sz, sm, rfl, fun q => by simp at q, UpN.nob HNN.out (HF.out.trans (((((((Fr.refl (UpN N) w9).setS hNN 0 (.int .i64 (off : Nat))).setS hNN 1 (.int .i64 (hd2 : Nat))).setS hNN 2 (.int .i64 (tot : Nat))).setS hNN 3 (.int .i64 (sz : Nat))).setS hNN 4 (.int .i64 (sm : Nat)))).drew)⟩
        · have k4i : ((n : Int) == 0) = false := beq_eq_false_iff_ne.2 (fun q => k4 (Int.ofNat.inj q))
          by_cases k5 : 8 < n
          · have k5i : (8 : Int) < n := by omega
            rw [if_pos (Or.inr k5)] at hsp2
            subst hsp2
            clear k4 k5
            go_upto_region 17 with fail
            clear c0 c1 c2 c3 c4 g0 g1 g2 g3 g4 cz gz
            obtain ⟨w9, hw⟩ : ∃ z, z = ((w8.setCell ⟨N + 1, 4, none⟩ (.int .i64 (sm : Nat))).setCell ⟨N + 1, 2, none⟩ (.int .i64 (tot : Nat))) := ⟨_, rfl⟩
            rw [← hw]
            have HM : Hid (Mk w9 (N + 1) 5 _) := hid (by rw [hw]; exact ((HM.out.set (i := 4) (by decide) (.int .i64 (sm : Nat))).set (i := 2) (by decide) (.int .i64 (tot : Nat))))
            have HM0 : Hid (Mk w9 N 5 _) := hid (by rw [hw]; exact ((HM0.out.other (b := N + 1) (i := 4) (by omega) (.int .i64 (sm : Nat))).other (b := N + 1) (i := 2) (by omega) (.int .i64 (tot : Nat))))
            have HF : Hid (Fr (UpN N) w w9) := hid (by rw [hw]; exact ((HF.out.setS hN1 4 (.int .i64 (sm : Nat))).setS hN1 2 (.int .i64 (tot : Nat))))
            clear hw
            have c0 : w9.cell? ⟨N + 1, 0, none⟩ = some (.int .i64 (off : Nat)) := HM.out.cells 0 (by decide)
            have c1 : w9.cell? ⟨N + 1, 1, none⟩ = some (.int .i64 (hd2 : Nat)) := HM.out.cells 1 (by decide)
            have c2 : w9.cell? ⟨N + 1, 2, none⟩ = some (.int .i64 (tot : Nat)) := HM.out.cells 2 (by decide)
            have c3 : w9.cell? ⟨N + 1, 3, none⟩ = some (.int .i64 (sz : Nat)) := HM.out.cells 3 (by decide)
            have c4 : w9.cell? ⟨N + 1, 4, none⟩ = some (.int .i64 (sm : Nat)) := HM.out.cells 4 (by decide)
            have g0 : w9.cell? ⟨N, 0, none⟩ = some (.int .i64 0) := HM0.out.cells 0 (by decide)
            have g1 : w9.cell? ⟨N, 1, none⟩ = some (.int .i64 0) := HM0.out.cells 1 (by decide)
            have g2 : w9.cell? ⟨N, 2, none⟩ = some (.int .i64 0) := HM0.out.cells 2 (by decide)
            have g3 : w9.cell? ⟨N, 3, none⟩ = some (.int .i64 0) := HM0.out.cells 3 (by decide)
            have g4 : w9.cell? ⟨N, 4, none⟩ = some (.int .i64 0) := HM0.out.cells 4 (by decide)
            have cz : ∀ i, w9.frozen? ⟨N + 1, i, none⟩ = false := HM.out.fz
            have gz : ∀ i, w9.frozen? ⟨N, i, none⟩ = false := HM0.out.fz
            go_region
            go_wp2_with fail
            refine bodyPost_ret (v := .tuple #[.agg #[.int .i64 (off : Nat), .int .i64 (hd2 : Nat), .int .i64 (tot : Nat), .int .i64 (sz : Nat), .int .i64 (sm : Nat)], .int .i64 16, .int .i64 (off : Nat)]) (by simp [results, Tryz.results73, go_sem, cellSet, g0, g1, g2, g3, g4]) rfl ?_
            exact hK.out _ _ ⟨off, hd2, tot, sz, sm, rfl, fun q => by simp at q, UpN.nob HNN.out (HF.out.trans (((((((Fr.refl (UpN N) w9).setS hNN 0 (.int .i64 (off : Nat))).setS hNN 1 (.int .i64 (hd2 : Nat))).setS hNN 2 (.int .i64 (tot : Nat))).setS hNN 3 (.int .i64 (sz : Nat))).setS hNN 4 (.int .i64 (sm : Nat)))).drew)⟩
          · have k5i : ¬ (8 : Int) < n := by omega
            rw [if_neg (fun q => by rcases q with a | a; exact k4 a; exact k5 a)] at hsp2
            clear k4 k5
            by_cases k6 : 256 < sz
            · have k6i : (256 : Int) < sz := by omega
              rw [if_pos k6] at hsp2
              subst hsp2
              clear k6
              go_upto_region 19 with fail
              clear c0 c1 c2 c3 c4 g0 g1 g2 g3 g4 cz gz
              obtain ⟨w9, hw⟩ : ∃ z, z = ((w8.setCell ⟨N + 1, 4, none⟩ (.int .i64 (sm : Nat))).setCell ⟨N + 1, 2, none⟩ (.int .i64 (tot : Nat))) := ⟨_, rfl⟩
              rw [← hw]
              have HM : Hid (Mk w9 (N + 1) 5 _) := hid (by rw [hw]; exact ((HM.out.set (i := 4) (by decide) (.int .i64 (sm : Nat))).set (i := 2) (by decide) (.int .i64 (tot : Nat))))
              have HM0 : Hid (Mk w9 N 5 _) := hid (by rw [hw]; exact ((HM0.out.other (b := N + 1) (i := 4) (by omega) (.int .i64 (sm : Nat))).other (b := N + 1) (i := 2) (by omega) (.int .i64 (tot : Nat))))
              have HF : Hid (Fr (UpN N) w w9) := hid (by rw [hw]; exact ((HF.out.setS hN1 4 (.int .i64 (sm : Nat))).setS hN1 2 (.int .i64 (tot : Nat))))
              clear hw
              have c0 : w9.cell? ⟨N + 1, 0, none⟩ = some (.int .i64 (off : Nat)) := HM.out.cells 0 (by decide)
              have c1 : w9.cell? ⟨N + 1, 1, none⟩ = some (.int .i64 (hd2 : Nat)) := HM.out.cells 1 (by decide)
              have c2 : w9.cell? ⟨N + 1, 2, none⟩ = some (.int .i64 (tot : Nat)) := HM.out.cells 2 (by decide)
              have c3 : w9.cell? ⟨N + 1, 3, none⟩ = some (.int .i64 (sz : Nat)) := HM.out.cells 3 (by decide)
              have c4 : w9.cell? ⟨N + 1, 4, none⟩ = some (.int .i64 (sm : Nat)) := HM.out.cells 4 (by decide)
              have g0 : w9.cell? ⟨N, 0, none⟩ = some (.int .i64 0) := HM0.out.cells 0 (by decide)
              have g1 : w9.cell? ⟨N, 1, none⟩ = some (.int .i64 0) := HM0.out.cells 1 (by decide)
              have g2 : w9.cell? ⟨N, 2, none⟩ = some (.int .i64 0) := HM0.out.cells 2 (by decide)
              have g3 : w9.cell? ⟨N, 3, none⟩ = some (.int .i64 0) := HM0.out.cells 3 (by decide)
              have g4 : w9.cell? ⟨N, 4, none⟩ = some (.int .i64 0) := HM0.out.cells 4 (by decide)
              have cz : ∀ i, w9.frozen? ⟨N + 1, i, none⟩ = false := HM.out.fz
              have gz : ∀ i, w9.frozen? ⟨N, i, none⟩ = false := HM0.out.fz
              go_region
              go_wp2_with fail
              refine bodyPost_ret (v := .tuple #[.agg #[.int .i64 (off : Nat), .int .i64 (hd2 : Nat), .int .i64 (tot : Nat), .int .i64 (sz : Nat), .int .i64 (sm : Nat)], .int .i64 19, .int .i64 (off : Nat)]) (by simp [results, Tryz.results73, go_sem, cellSet, g0, g1, g2, g3, g4]) rfl ?_
              exact hK.out _ _ ⟨off, hd2, tot, sz, sm, rfl, fun q => by simp at q, UpN.nob HNN.out (HF.out.trans (((((((Fr.refl (UpN N) w9).setS hNN 0 (.int .i64 (off : Nat))).setS hNN 1 (.int .i64 (hd2 : Nat))).setS hNN 2 (.int .i64 (tot : Nat))).setS hNN 3 (.int .i64 (sz : Nat))).setS hNN 4 (.int .i64 (sm : Nat)))).drew)⟩
            · have k6i : ¬ (256 : Int) < sz := by omega
              rw [if_neg k6] at hsp2
              clear k6
              by_cases k7 : 512 < lg
              · have k7i : (512 : Int) < lg := by omega
                rw [if_pos (by have := HTO.out; omega)] at hsp2
                subst hsp2
                clear k7
                go_upto_region 21 with fail
                clear c0 c1 c2 c3 c4 g0 g1 g2 g3 g4 cz gz
                obtain ⟨w9, hw⟩ : ∃ z, z = ((w8.setCell ⟨N + 1, 4, none⟩ (.int .i64 (sm : Nat))).setCell ⟨N + 1, 2, none⟩ (.int .i64 (tot : Nat))) := ⟨_, rfl⟩
                rw [← hw]
                have HM : Hid (Mk w9 (N + 1) 5 _) := hid (by rw [hw]; exact ((HM.out.set (i := 4) (by decide) (.int .i64 (sm : Nat))).set (i := 2) (by decide) (.int .i64 (tot : Nat))))
                have HM0 : Hid (Mk w9 N 5 _) := hid (by rw [hw]; exact ((HM0.out.other (b := N + 1) (i := 4) (by omega) (.int .i64 (sm : Nat))).other (b := N + 1) (i := 2) (by omega) (.int .i64 (tot : Nat))))
                have HF : Hid (Fr (UpN N) w w9) := hid (by rw [hw]; exact ((HF.out.setS hN1 4 (.int .i64 (sm : Nat))).setS hN1 2 (.int .i64 (tot : Nat))))
                clear hw
                have c0 : w9.cell? ⟨N + 1, 0, none⟩ = some (.int .i64 (off : Nat)) := HM.out.cells 0 (by decide)
                have c1 : w9.cell? ⟨N + 1, 1, none⟩ = some (.int .i64 (hd2 : Nat)) := HM.out.cells 1 (by decide)
                have c2 : w9.cell? ⟨N + 1, 2, none⟩ = some (.int .i64 (tot : Nat)) := HM.out.cells 2 (by decide)
                have c3 : w9.cell? ⟨N + 1, 3, none⟩ = some (.int .i64 (sz : Nat)) := HM.out.cells 3 (by decide)
                have c4 : w9.cell? ⟨N + 1, 4, none⟩ = some (.int .i64 (sm : Nat)) := HM.out.cells 4 (by decide)
                have g0 : w9.cell? ⟨N, 0, none⟩ = some (.int .i64 0) := HM0.out.cells 0 (by decide)
                have g1 : w9.cell? ⟨N, 1, none⟩ = some (.int .i64 0) := HM0.out.cells 1 (by decide)
                have g2 : w9.cell? ⟨N, 2, none⟩ = some (.int .i64 0) := HM0.out.cells 2 (by decide)
                have g3 : w9.cell? ⟨N, 3, none⟩ = some (.int .i64 0) := HM0.out.cells 3 (by decide)
                have g4 : w9.cell? ⟨N, 4, none⟩ = some (.int .i64 0) := HM0.out.cells 4 (by decide)
                have cz : ∀ i, w9.frozen? ⟨N + 1, i, none⟩ = false := HM.out.fz
                have gz : ∀ i, w9.frozen? ⟨N, i, none⟩ = false := HM0.out.fz
                go_region
                go_wp2_with fail
                refine bodyPost_ret (v := .tuple #[.agg #[.int .i64 (off : Nat), .int .i64 (hd2 : Nat), .int .i64 (tot : Nat), .int .i64 (sz : Nat), .int .i64 (sm : Nat)], .int .i64 1, .int .i64 (off : Nat)]) (by simp [results, Tryz.results73, go_sem, cellSet, g0, g1, g2, g3, g4]) rfl ?_
                exact hK.out _ _ ⟨off, hd2, tot, sz, sm, rfl, fun q => by simp at q, UpN.nob HNN.out (HF.out.trans (((((((Fr.refl (UpN N) w9).setS hNN 0 (.int .i64 (off : Nat))).setS hNN 1 (.int .i64 (hd2 : Nat))).setS hNN 2 (.int .i64 (tot : Nat))).setS hNN 3 (.int .i64 (sz : Nat))).setS hNN 4 (.int .i64 (sm : Nat)))).drew)⟩
              · have k7i : ¬ (512 : Int) < lg := by omega
                rw [if_neg (by have := HTO.out; omega)] at hsp2
                subst hsp2
                clear k7
                go_wp2_with fail
                refine bodyPost_ret (v := .tuple #[.agg #[.int .i64 (off : Nat), .int .i64 (hd2 : Nat), .int .i64 (tot : Nat), .int .i64 (sz : Nat), .int .i64 (sm : Nat)], .int .i64 0, .int .i64 0]) (by simp [results, Tryz.results73, go_sem, cellSet, g0, g1, g2, g3, g4]) rfl ?_
                exact hK.out _ _ ⟨off, hd2, tot, sz, sm, rfl, fun _ => rfl, UpN.nob HNN.out (HF.out.trans (((((((((Fr.refl (UpN N) w8).setS hN1 4 (.int .i64 (sm : Nat))).setS hN1 2 (.int .i64 (tot : Nat))).setS hNN 0 (.int .i64 (off : Nat))).setS hNN 1 (.int .i64 (hd2 : Nat))).setS hNN 2 (.int .i64 (tot : Nat))).setS hNN 3 (.int .i64 (sz : Nat))).setS hNN 4 (.int .i64 (sm : Nat)))))⟩
end Go.Proofs.Qxb6500353aGreat
