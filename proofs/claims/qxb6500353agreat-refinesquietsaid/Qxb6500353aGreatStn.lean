/- The real decoder's constructor. -/
import Derived.Test.Qxb6500353aGreatSth
import Derived.Test.Qxb6500353aGreatNwz
namespace Go.Proofs.Qxb6500353aGreat
open Go.RowKit
set_option linter.unusedVariables false
set_option linter.unusedSimpArgs false

/-- A struct of m cells in the making, in block N. -/
structure Mk (w : World) (N m : Nat) (f : Nat → Value) : Prop where
  cells : ∀ i, i < m → w.cell? ⟨N, i, none⟩ = some (f i)
  fz : ∀ i, w.frozen? ⟨N, i, none⟩ = false
theorem Mk.start (w : World) (N : Nat) (hN : w.heap.size = N) (vs : List Value) (t : TypeId) : Mk (w.alloc (.cells vs.toArray t)) N vs.length (fun i => vs.getD i undef) := by
  subst hN
  refine ⟨fun i hi => ?_, fun i => World.frozen?_alloc_new _ _ _ i⟩
  refine (World.cell?_alloc_new _ _ _ i).trans ?_
  simp [List.getD_eq_getElem?_getD, hi]
theorem Mk.fr {S : Nat → Prop} {w w2 : World} {N m : Nat} {f : Nat → Value} (h : Mk w N m f) (hm : 0 < m) (hf : Fr S w w2) (hn : ¬ S N) : Mk w2 N m f := by
  have hlt : N < w.heap.size := lt_of_cellB (h.cells 0 hm)
  exact ⟨fun i hi => hf.cell (h.cells i hi) hn, fun i => (hf.froz hlt hn i).trans (h.fz i)⟩
theorem Mk.set {w : World} {N m i : Nat} {f : Nat → Value} (h : Mk w N m f) (hi : i < m) (v : Value) : Mk (w.setCell ⟨N, i, none⟩ v) N m (upd f i v) := by
  refine ⟨fun j hj => ?_, fun j => ?_⟩
  · by_cases e : j = i
    · subst e; rw [upd_self]; exact cellSet (h.cells _ hi)
    · rw [upd_ne _ _ _ _ e]; exact (cellNe (fun e2 => e e2.symm)).trans (h.cells j hj)
  · exact Thaw.set h.fz _ _ j
set_option maxRecDepth 100000 in
set_option maxHeartbeats 4000000 in
theorem newDec_any {w : World} {Y : Nat} {t0 : Tp} (hN : w.heap.size = Y + 24) (ht : TapeAt w Y t0) (ha : ∃ Q, CdAt w (Y + 2) Q) (hb : ∃ Q, CdAt w (Y + 13) Q) :
    Calls Tryz.prog 16 #[tapP Y, ptrV (Y + 2), ptrV (Y + 13)] w fun e w' => e = .returned (ptrV (Y + 24)) ∧ DecZ w' Y ∧ Fr (Rng Y (Y + 28)) w w' := by
  have hp := Mk.start w (Y + 24) hN [.pointer (some ⟨Y + 1, 0, none⟩), .pointer (some ⟨Y + 2, 0, none⟩), .pointer (some ⟨Y + 13, 0, none⟩), .bool false, .int .i64 0, .int .i64 0, .int .i64 0, .int .i64 0, .int .i64 0, .slice none 0 0, .int .i64 0, .int .i64 0, .int .i64 0, .int .i64 0, .slice none 0 0, .int .i64 0, .int .i64 0, .slice none 0 0, .int .i64 0, .int .i64 0, .int .i64 0] 75
  obtain ⟨w0, hw0⟩ : ∃ w0, w0 = w.alloc (Obj.cells #[.pointer (some ⟨Y + 1, 0, none⟩), .pointer (some ⟨Y + 2, 0, none⟩), .pointer (some ⟨Y + 13, 0, none⟩), .bool false, .int .i64 0, .int .i64 0, .int .i64 0, .int .i64 0, .int .i64 0, .slice none 0 0, .int .i64 0, .int .i64 0, .int .i64 0, .int .i64 0, .slice none 0 0, .int .i64 0, .int .i64 0, .slice none 0 0, .int .i64 0, .int .i64 0, .int .i64 0] 75) := ⟨_, rfl⟩
  have hw0' := hw0.symm
  have hp : Mk w0 (Y + 24) 21 (fun i => ([.pointer (some ⟨Y + 1, 0, none⟩), .pointer (some ⟨Y + 2, 0, none⟩), .pointer (some ⟨Y + 13, 0, none⟩), .bool false, .int .i64 0, .int .i64 0, .int .i64 0, .int .i64 0, .int .i64 0, .slice none 0 0, .int .i64 0, .int .i64 0, .int .i64 0, .int .i64 0, .slice none 0 0, .int .i64 0, .int .i64 0, .slice none 0 0, .int .i64 0, .int .i64 0, .int .i64 0] : List Value).getD i undef) := by rw [hw0]; exact hp
  have hf0 : Fr Nob w w0 := by rw [hw0]; exact (Fr.refl _ _).alloc _
  have hs0 : w0.heap.size = Y + 24 + 1 := by rw [hw0]; rw [← hN]; exact World.size_alloc _ _
  have HP0 := hid hp
  have HF0 := hid hf0
  have HT := hid ht
  have HA := hid ha
  have HB := hid hb
  have HNN := hid hN
  clear hw0 hp hf0 ht ha hb
  refine calls_via fun K hK => ?_
  unfold ptrV tapP
  go_enter Tryz.func16, Tryz.ntmps16
  go_wp2_with (at_make; first
    | (refine wp_mkx rfl _ _ rfl 273 273 273 (Y + 24 + 1) hs0 rfl rfl rfl rfl (by omega) ?_; intro w1 hs1 ha1 hf1; have hp1 := HP0.out.fr (by simp) hf1 (fun x => x); have ck : w1.cell? ⟨Y + 24, 9, none⟩ = some (.slice none 0 0) := hp1.cells 9 (by decide); have zk : ∀ i, w1.frozen? ⟨Y + 24, i, none⟩ = false := hp1.fz; have HP1 := hid (hp1.set (i := 9) (by decide) (.slice (some ⟨Y + 24 + 1, 0, none⟩) 273 273)); have HA1 := hid (ha1.other (b := Y + 24) (o := 9) (by omega) (.slice (some ⟨Y + 24 + 1, 0, none⟩) 273 273)); have HF1 := hid hf1; clear hp1 ha1 hf1)
    | (refine wp_mkbx rfl _ _ rfl 16 16 16 (Y + 24 + 2) (by rw [World.size_setCell]; exact hs1) rfl rfl rfl rfl (by omega) ?_; intro w2 hs2 ha2 hf2; have hp2 := HP1.out.fr (by simp) hf2 (fun x => x); have ck : w2.cell? ⟨Y + 24, 14, none⟩ = some (.slice none 0 0) := hp2.cells 14 (by decide); have zk : ∀ i, w2.frozen? ⟨Y + 24, i, none⟩ = false := hp2.fz; have HP2 := hid (hp2.set (i := 14) (by decide) (.slice (some ⟨Y + 24 + 2, 0, none⟩) 16 16)); have HA2 := hid (ha2.other (b := Y + 24) (o := 14) (by omega) (.slice (some ⟨Y + 24 + 2, 0, none⟩) 16 16)); have HF2 := hid hf2; clear hp2 ha2 hf2)
    | (refine wp_mkbx rfl _ _ rfl 256 256 256 (Y + 24 + 3) (by rw [World.size_setCell]; exact hs2) rfl rfl rfl rfl (by omega) ?_; intro w3 hs3 ha3 hf3; have hp3 := HP2.out.fr (by simp) hf3 (fun x => x); have ck : w3.cell? ⟨Y + 24, 17, none⟩ = some (.slice none 0 0) := hp3.cells 17 (by decide); have zk : ∀ i, w3.frozen? ⟨Y + 24, i, none⟩ = false := hp3.fz; have HP3 := hid (hp3.set (i := 17) (by decide) (.slice (some ⟨Y + 24 + 3, 0, none⟩) 256 256)); have HA3 := hid ha3; have HF3 := hid hf3; clear hp3 ha3 hf3))
  have r0 : Rng (Y + 24) (Y + 28) (Y + 24) := ⟨Nat.le_refl _, by omega⟩
  have nob : ∀ {a b : World}, Fr Nob a b → Fr (Rng (Y + 24) (Y + 28)) a b := fun h => h.mono fun x hx _ => hx.elim
  have F := (((((((nob HF0.out).trans (nob HF1.out)).setS r0 9 (.slice (some ⟨Y + 24 + 1, 0, none⟩) 273 273)).trans (nob HF2.out)).setS r0 14 (.slice (some ⟨Y + 24 + 2, 0, none⟩) 16 16)).trans (nob HF3.out)).setS r0 17 (.slice (some ⟨Y + 24 + 3, 0, none⟩) 256 256))
  obtain ⟨w4, hw4⟩ : ∃ z, z = w3.setCell ⟨Y + 24, 17, none⟩ (.slice (some ⟨Y + 24 + 3, 0, none⟩) 256 256) := ⟨_, rfl⟩
  have hp := HP3.out
  have hA1 : Arr 3 mkN w4 (Y + 24 + 1) 273 (fun _ => 0) := by rw [hw4]; exact (((HA1.out.fr HF2.out (fun x => x)).other (b := Y + 24) (o := 14) (by omega) (.slice (some ⟨Y + 24 + 2, 0, none⟩) 16 16)).fr HF3.out (fun x => x)).other (by omega) _
  have hA2 : Arr 5 mkB w4 (Y + 24 + 2) 16 (fun _ => 0) := by rw [hw4]; exact (HA2.out.fr HF3.out (fun x => x)).other (by omega) _
  have hA3 : Arr 5 mkB w4 (Y + 24 + 3) 256 (fun _ => 0) := by rw [hw4]; exact HA3.out.other (by omega) _
  rw [← hw4] at hp F ⊢
  have n1 : ∀ k, k < Y + 24 → ¬ Rng (Y + 24) (Y + 28) k := fun k h1 h2 => by unfold Rng at h2; omega
  obtain ⟨qa, hqa⟩ := HA.out
  obtain ⟨qb, hqb⟩ := HB.out
  have hD : DecM w4 Y { t := tapP Y, a := ptrV (Y + 2), b := ptrV (Y + 13), held := false, phase := 0, final := 0, at_ := 0, head := 0, due := 0, lens := fun _ => 0, idx := 0, run := 0, base := 0, more := 0, ring := fun _ => 0, w := 0, fill := 0, buf := fun _ => 0, n := 0, total := 0, fed := 0 } t0 :=
    ⟨⟨hp.cells 0 (by decide), hp.cells 1 (by decide), hp.cells 2 (by decide), hp.cells 3 (by decide), hp.cells 4 (by decide), hp.cells 5 (by decide), hp.cells 6 (by decide), hp.cells 7 (by decide), hp.cells 8 (by decide), hp.cells 9 (by decide), hp.cells 10 (by decide), hp.cells 11 (by decide), hp.cells 12 (by decide), hp.cells 13 (by decide), hp.cells 14 (by decide), hp.cells 15 (by decide), hp.cells 16 (by decide), hp.cells 17 (by decide), hp.cells 18 (by decide), hp.cells 19 (by decide), hp.cells 20 (by decide), hA1, hA2, hA3, hp.fz⟩, rfl, rfl, rfl, HT.out.fr F (n1 _ (by omega)) (n1 _ (by omega)), ⟨qa, hqa.fr F fun k a b => n1 k (by omega)⟩, ⟨qb, hqb.fr F fun k a b => n1 k (by omega)⟩, fun q => by simp at q⟩
  have HD := hid hD
  have HF := hid F
  have hrs := reset_any hD.tp
  unfold tapP at hrs
  clear hw4 hp F hA1 hA2 hA3 n1 hqa hqb hD nob r0
  refine hrs.mono ?_
  rintro e w5 ⟨rfl, h5, f5⟩
  have H5 := hid (HD.out.tape h5 f5)
  have HF5 := hid ((rngD HF.out).trans (rngT f5))
  clear h5 f5 hrs
  go_wp2_with fail
  exact hK.out _ _ ⟨rfl, ⟨_, _, H5.out⟩, HF5.out⟩
end Go.Proofs.Qxb6500353aGreat
