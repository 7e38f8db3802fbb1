/- The real tower built, walked. -/
import Derived.Test.Qxb6500353aGreatLzn
import Derived.Test.Qxb6500353aGreatBkn
import Derived.Test.Qxb6500353aGreatArk
namespace Go.Proofs.Qxb6500353aGreat
open Go.RowKit
set_option linter.unusedVariables false
set_option linter.unusedSimpArgs false

set_option maxRecDepth 100000 in
set_option maxHeartbeats 4000000 in
theorem mtwipe2_any {w : World} {b : Nat} {R : MtR} (h : MtAt w b R) : Calls Tryz.prog 23 #[ptrV b] w fun e w' => e = .returned (.tuple #[]) ∧ MtAt w' b { R with head := fun _ => -1 } ∧ Fr (One (b + 1)) w w' ∧ w'.heap.size = w.heap.size := by
  have H := hid h
  clear h
  refine calls_via fun K hK => ?_
  unfold ptrV
  go_enter Tryz.func23, Tryz.ntmps23
  go_wp2_with fail
  go_loopg [2] 64 (fun g i wr => ∃ k : Nat, i = .int .i64 (k : Nat) ∧ g + k = 64 ∧ MtAt wr b { R with head := fun j => if j < k then -1 else R.head j } ∧ Fr (One (b + 1)) w wr ∧ wr.heap.size = w.heap.size)
  case atStart => exact ⟨0, rfl, by omega, H.out.congrH (fun i _ => by simp), Fr.refl _ _, rfl⟩
  case round =>
    obtain ⟨k, rfl, hg, hA, hf, hsz⟩ := hrel
    have HSZ := hid hsz
    have c0 := hA.p_head
    have cf : ∀ i, wr.frozen? ⟨b + 1, i, none⟩ = false := hA.a_head.thaw
    have HA := hid hA
    have HF := hid hf
    by_cases hlt : k < 64
    · have hki : (k : Int) < 64 := by omega
      have cb := hA.a_head.cell k (by omega)
      simp only [mkI] at cb
      clear hA hf hsz
      go_wp2_with fail
      go_roundg (gk - 1)
      case measure => omega
      case rel =>
        refine ⟨k + 1, by simp, by omega, (HA.out.set_head k (-1)).congrH fun i _ => ?_, HF.out.set1 _ _, by rw [World.size_setCell]; exact HSZ.out⟩
        unfold upd
        dsimp only
        by_cases e : i = k
        · subst e; simp
        · by_cases e2 : i < k
          · rw [if_neg e, if_pos e2, if_pos (by omega)]
          · rw [if_neg e, if_neg e2, if_neg (by omega)]
    · have hki : ¬ (k : Int) < 64 := by omega
      clear hA hf hsz
      go_wp2_with fail
      go_end0
      refine hK.out _ _ ⟨rfl, HA.out.congrH fun i hi => ?_, HF.out, HSZ.out⟩
      simp only []
      rw [if_pos (by omega)]

set_option maxRecDepth 100000 in
set_option maxHeartbeats 4000000 in
theorem newLz2_any (w : World) : Calls Tryz.prog 14 #[] w fun e w' => e = .returned (ptrV w.heap.size) ∧ (∃ R, MtAt w' w.heap.size R) ∧ Fr Nob w w' ∧ w'.heap.size = w.heap.size + 4 := by
  obtain ⟨N, hN⟩ : ∃ N, w.heap.size = N := ⟨_, rfl⟩
  rw [hN]
  have hp := Part.start w N hN [.slice none 0 0, .slice none 0 0, .slice none 0 0, .int .i64 0, .int .i64 0] 71
  obtain ⟨w0, hw0⟩ : ∃ w0, w0 = w.alloc (Obj.cells #[.slice none 0 0, .slice none 0 0, .slice none 0 0, .int .i64 0, .int .i64 0] 71) := ⟨_, rfl⟩
  have hw0' := hw0.symm
  have hp0 : Part w N 5 (fun i => ([.slice none 0 0, .slice none 0 0, .slice none 0 0, .int .i64 0, .int .i64 0] : List Value).getD i undef) [] w0 := by rw [hw0]; exact hp
  have hs0 : w0.heap.size = N + 1 := hp0.size
  have HP0 := hid hp0
  clear hp hp0 hw0
  refine calls_via fun K hK => ?_
  go_enter Tryz.func14, Tryz.ntmps14
  go_wp2_with (at_make; first
      | (refine wp_mkx rfl _ _ rfl 64 64 64 (N + 1) hs0 rfl rfl rfl rfl (by omega) ?_; intro w1 hs1 ha hf; have hp1 := HP0.out.made (n := 64) (by decide) hs1 ha hf; have ck : w1.cell? ⟨N, 0, none⟩ = some (.slice none 0 0) := hp1.cells 0 (by decide); have zk : ∀ i, w1.frozen? ⟨N, i, none⟩ = false := hp1.fz; have HP1 := hid hp1; clear hp1 ha hf)
      | (refine wp_mkx rfl _ _ rfl 16 16 16 (N + 2) (by rw [World.size_setCell]; exact hs1) rfl rfl rfl rfl (by omega) ?_; intro w2 hs2 ha hf; have hp2 := (HP1.out.set (i := 0) (by decide) (.slice (some ⟨N + 1, 0, none⟩) 64 64)).made (n := 16) (by decide) hs2 ha hf; have ck : w2.cell? ⟨N, 1, none⟩ = some (.slice none 0 0) := hp2.cells 1 (by decide); have zk : ∀ i, w2.frozen? ⟨N, i, none⟩ = false := hp2.fz; have HP2 := hid hp2; clear hp2 ha hf)
      | (refine wp_mkg rfl _ _ 69 168 3 24 _ rfl Tryz.underlying69 Tryz.info168 rfl 256 256 256 256 (N + 3) (by rw [World.size_setCell]; exact hs2) rfl rfl rfl rfl (Nat.le_refl _) (by omega) (by omega) ?_; intro w3 hs3 ha hf; have HSX := hid hs3; have HP3 := hid (HP2.out.set (i := 1) (by decide) (.slice (some ⟨N + 2, 0, none⟩) 16 16)); have ck : w3.cell? ⟨N, 2, none⟩ = some (.slice none 0 0) := hf.cell (HP3.out.cells 2 (by decide)) (fun x => x); have zk : ∀ i, w3.frozen? ⟨N, i, none⟩ = false := fun i => (hf.froz (by rw [HP3.out.size]; omega) (fun x => x) i).trans (HP3.out.fz i); have HF3 := hid hf; have HA3 := hid ha; clear ha hf))
  have hp3 := HP3.out
  have hf3 := HF3.out
  have hb := hp3.base
  have hsz := hp3.size
  have c0 := hf3.cell (hp3.cells 0 (by decide)) (fun x => x)
  have c1 := hf3.cell (hp3.cells 1 (by decide)) (fun x => x)
  have c3 := hf3.cell (hp3.cells 3 (by decide)) (fun x => x)
  have c4 := hf3.cell (hp3.cells 4 (by decide)) (fun x => x)
  have a0 := (hp3.arr 0 (by decide)).fr hf3 (fun x => x)
  have a1 := (hp3.arr 1 (by decide)).fr hf3 (fun x => x)
  have hM : MtAt (w3.setCell ⟨N, 2, none⟩ (.slice (some ⟨N + 3, 0, none⟩) 256 256)) N { head := fun _ => 0, prev := fun _ => 0, toks := _, n := 0, probes := 0 } :=
    ⟨(cellNe (by omega)).trans c0, (cellNe (by omega)).trans c1, cellSet ck, (cellNe (by omega)).trans c3, (cellNe (by omega)).trans c4, a0.toI.other (by omega) _, a1.toI.other (by omega) _, HA3.out.other (by omega) _, (show Thaw w3 N from zk).set _ _⟩
  have HFF := hid ((hp3.fr.trans hf3).trans2 (S2 := One N) (Fr.set1 (Fr.refl _ _) 2 (.slice (some ⟨N + 3, 0, none⟩) 256 256)) (fun x hx h2 => by unfold One at hx; omega))
  have HW := hid (mtwipe2_any hM)
  clear hM hp3 hf3 c0 c1 c3 c4 a0 a1
  refine HW.out.mono ?_
  rintro e w4 ⟨rfl, h4, hf4, hz4⟩
  rw [World.size_setCell] at hz4
  have HZ4 := hid (hz4.trans HSX.out)
  clear hz4
  have H4 := hid h4
  have HF4 := hid hf4
  clear h4 hf4
  go_wp2_with fail
  exact hK.out _ _ ⟨rfl, ⟨_, H4.out⟩, HFF.out.trans2 HF4.out (fun x hx h2 => by unfold One at hx; omega), HZ4.out⟩
set_option maxRecDepth 100000 in
set_option maxHeartbeats 4000000 in
theorem newTow_any (w : World) : Calls Tryz.prog 8 #[] w fun e w' => ∃ (Z : Nat) (R : ArR), w.heap.size + 61 ≤ Z ∧ e = .returned (ptrV Z) ∧ ArM w' w.heap.size Z R ∧ Fr Nob w w' := by
  obtain ⟨X, hX⟩ : ∃ X, w.heap.size = X := ⟨_, rfl⟩
  rw [hX]
  have HX := hid hX
  refine calls_via fun K hK => ?_
  go_enter Tryz.func8, Tryz.ntmps8
  go_wp2_with fail
  refine (newBits_any w).mono ?_
  rintro e w1 ⟨rfl, t1, f1, s1⟩
  rw [hX] at t1 s1
  unfold tapP
  rw [hX]
  have T1 := hid t1
  have F1 := hid f1
  have S1 := hid s1
  clear t1 f1
  go_wp2_with fail
  refine (newHuff_any w1).mono ?_
  rintro e w2 ⟨rfl, a1, f2, s2⟩
  rw [s1] at a1 s2
  unfold ptrV
  rw [s1]
  have A1 := hid a1
  have F2 := hid f2
  clear a1 f2
  go_wp2_with fail
  refine (newHuff_any w2).mono ?_
  rintro e w3 ⟨rfl, b1, f3, s3⟩
  rw [s2] at b1 s3
  unfold ptrV
  rw [s2]
  have B1 := hid b1
  have F3 := hid f3
  clear b1 f3
  go_wp2_with fail
  refine (newLz2_any w3).mono ?_
  rintro e w4 ⟨rfl, ⟨RZ, z1⟩, f4, s4⟩
  rw [s3] at z1 s4
  unfold ptrV
  rw [s3]
  have Z1 := hid z1
  have F4 := hid f4
  clear z1 f4
  go_wp2_with fail
  refine (newBlock_any w4 X (X + 2) (X + 2 + 11) (X + 2 + 11 + 11)).mono ?_
  rintro e w5 ⟨rfl, k1, f5, s5⟩
  rw [s4] at k1 s5
  unfold ptrV
  rw [s4]
  have K1 := hid k1
  have F5 := hid f5
  clear k1 f5
  go_wp2_with fail
  refine (newBits_any w5).mono ?_
  rintro e w6 ⟨rfl, t2, f6, s6⟩
  rw [s5] at t2 s6
  unfold tapP
  rw [s5]
  have T2 := hid t2
  have F6 := hid f6
  clear t2 f6
  go_wp2_with fail
  refine (newHuff_any w6).mono ?_
  rintro e w7 ⟨rfl, a2, f7, s7⟩
  rw [s6] at a2 s7
  unfold ptrV
  rw [s6]
  have A2 := hid a2
  have F7 := hid f7
  clear a2 f7
  go_wp2_with fail
  refine (newHuff_any w7).mono ?_
  rintro e w8 ⟨rfl, b2, f8, s8⟩
  rw [s7] at b2 s8
  unfold ptrV
  rw [s7]
  have B2 := hid b2
  have F8 := hid f8
  clear b2 f8
  have nx : ∀ (x : Nat), Nob x → x < w.heap.size → Nob x := fun _ q _ => q
  have hEn : EncS w8 X (X + 2) (X + 13) (X + 24) (X + 28) := by
    have f58 := ((F6.out.trans F7.out).trans F8.out)
    have f48 := F5.out.trans f58
    have f38 := F4.out.trans f48
    have f28 := F3.out.trans f38
    have f18 := F2.out.trans f28
    exact ⟨_, _, _, _, _, ⟨T1.out.fr f18 (fun x => x) (fun x => x), A1.out.fr f28 (fun _ _ _ x => x), B1.out.fr f38 (fun _ _ _ x => x), Z1.out.fr f48 (fun _ _ _ x => x), K1.out.fr f58 (fun _ _ _ x => x), rfl, rfl, rfl, rfl, by omega, by omega, by omega, by omega⟩⟩
  have hnd := newDec_any (w := w8) (Y := X + 33) (t0 := Tp.nil) (by rw [s8]) (T2.out.fr (F7.out.trans F8.out) (fun x => x) (fun x => x)) ⟨_, A2.out.fr F8.out (fun _ _ _ x => x)⟩ ⟨_, B2.out⟩
  have HEN := hid hEn
  have HND := hid hnd
  have FW := hid ((((((((F1.out.trans F2.out).trans F3.out).trans F4.out).trans F5.out).trans F6.out).trans F7.out).trans F8.out))
  clear hEn hnd s1 s2 s3 s4 s5 s6 s7 s8 hX nx
  unfold ptrV tapP at HND
  go_wp2_with fail
  refine HND.out.mono ?_
  rintro e w9 ⟨rfl, d9, f9⟩
  have hlt := d9.lt
  have hE9 := HEN.out.fr f9 (fun k a b q => by have := q.1; omega)
  have hna := newArch_any (w := w9) rfl hE9 d9 (by omega)
  unfold ptrV at hna
  have HNA := hid hna
  have F9 := hid (FW.out.trans2 f9 (fun x hx hl => by have := hx.1; have := HX.out; omega))
  have HLT := hid hlt
  clear d9 f9 hlt hE9 hna
  go_wp2_with fail
  refine HNA.out.mono ?_
  rintro e w10 ⟨rfl, ⟨R, h10⟩, f10⟩
  have H10 := hid h10
  have F10 := hid (F9.out.trans f10)
  clear h10 f10
  go_wp2_with fail
  exact hK.out _ _ ⟨w9.heap.size, R, by have := HLT.out; omega, rfl, H10.out, F10.out⟩
end Go.Proofs.Qxb6500353aGreat
