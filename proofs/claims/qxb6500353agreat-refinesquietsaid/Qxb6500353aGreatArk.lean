/- The real archive: New and Check, walked. -/
import Derived.Test.Qxb6500353aGreatArb
import Derived.Test.Qxb6500353aGreatStn
import Derived.Test.Qxb6500353aGreatCpv
namespace Go.Proofs.Qxb6500353aGreat
open Go.RowKit
set_option linter.unusedVariables false
set_option linter.unusedSimpArgs false

theorem Tryz.info121 : (Tryz.prog.info? 121).map (fun i => (i.zero, i.size, i.bytes)) = some (some (.agg #[.int .i64 0, .int .i64 0, .int .i64 0, .int .i64 0, .int .i64 0]), 5, 40) := by kernel_rfl
set_option maxRecDepth 100000 in
theorem check_any {w : World} {X Z : Nat} {R : ArR} (h : ArM w X Z R) : Calls Tryz.prog 10 #[ptrV Z] w fun e w' => e = .returned (.bool true) ∧ ∃ q, w' = w.drewN q := by
  have c1 := h.ar.c_k
  rw [h.k] at c1
  have c2 := h.ar.c_d
  rw [h.d] at c2
  have c3 := h.ar.p_page
  have c4 := h.ar.c_fill
  have c5 := h.ar.p_offs
  have c6 := h.ar.p_tab
  have c7 := h.ar.p_gain
  obtain ⟨f, hf⟩ : ∃ z, z = R.fill := ⟨_, rfl⟩
  have hfl := h.fl
  rw [← hf] at c4 hfl
  have hfi : (f : Int) ≤ 1200 := by omega
  have hf0 : (0 : Int) ≤ f := by omega
  clear h hf hfl
  refine calls_via fun K hK => ?_
  unfold ptrV at *
  go_enter Tryz.func10, Tryz.ntmps10
  go_wp2_with (go_quiet (fail))
  first
    | exact hK.out _ _ ⟨rfl, _, rfl⟩
    | exact hK.out _ _ ⟨rfl, 0, rfl⟩
set_option maxRecDepth 100000 in
set_option maxHeartbeats 4000000 in
theorem newArch_any {w : World} {X Z : Nat} (hN : w.heap.size = Z) (he : EncS w X (X + 2) (X + 13) (X + 24) (X + 28)) (hd : DecZ w (X + 33)) (hle : X + 61 ≤ Z) :
    Calls Tryz.prog 17 #[ptrV (X + 28), ptrV (X + 33 + 24)] w fun e w' => e = .returned (ptrV Z) ∧ (∃ R, ArM w' X Z R) ∧ Fr Nob w w' := by
  have hp := Mk.start w Z hN [.pointer (some ⟨X + 28, 0, none⟩), .pointer (some ⟨X + 33 + 24, 0, none⟩), .slice none 0 0, .int .i64 0, .slice none 0 0, .slice none 0 0, .slice none 0 0] 61
  obtain ⟨w0, hw0⟩ : ∃ w0, w0 = w.alloc (Obj.cells #[.pointer (some ⟨X + 28, 0, none⟩), .pointer (some ⟨X + 33 + 24, 0, none⟩), .slice none 0 0, .int .i64 0, .slice none 0 0, .slice none 0 0, .slice none 0 0] 61) := ⟨_, rfl⟩
  have hw0' := hw0.symm
  have hp : Mk w0 Z 7 (fun i => ([.pointer (some ⟨X + 28, 0, none⟩), .pointer (some ⟨X + 33 + 24, 0, none⟩), .slice none 0 0, .int .i64 0, .slice none 0 0, .slice none 0 0, .slice none 0 0] : List Value).getD i undef) := by rw [hw0]; exact hp
  have hf0 : Fr Nob w w0 := by rw [hw0]; exact (Fr.refl _ _).alloc _
  have hs0 : w0.heap.size = Z + 1 := by rw [hw0]; rw [← hN]; exact World.size_alloc _ _
  have HP0 := hid hp
  have HF0 := hid hf0
  have HE := hid he
  have HD := hid hd
  have HNN := hid hN
  have HLE := hid hle
  clear hw0 hp hf0 he hd
  refine calls_via fun K hK => ?_
  unfold ptrV
  go_enter Tryz.func17, Tryz.ntmps17
  go_wp2_with (at_make; first
    | (refine wp_mkbx rfl _ _ rfl 1200 1200 1200 (Z + 1) hs0 rfl rfl rfl rfl (by omega) ?_; intro w1 hs1 ha1 hf1; have hp1 := HP0.out.fr (by simp) hf1 (fun x => x); have ck : w1.cell? ⟨Z, 2, none⟩ = some (.slice none 0 0) := hp1.cells 2 (by decide); have zk : ∀ i, w1.frozen? ⟨Z, i, none⟩ = false := hp1.fz; have HP1 := hid (hp1.set (i := 2) (by decide) (.slice (some ⟨Z + 1, 0, none⟩) 1200 1200)); have HA1 := hid (ha1.other (b := Z) (o := 2) (by omega) (.slice (some ⟨Z + 1, 0, none⟩) 1200 1200)); have HF1 := hid hf1; clear hp1 ha1 hf1)
    | (refine wp_mkx rfl _ _ rfl 4 4 4 (Z + 2) (by rw [World.size_setCell]; exact hs1) rfl rfl rfl rfl (by omega) ?_; intro w2 hs2 ha2 hf2; have hp2 := HP1.out.fr (by simp) hf2 (fun x => x); have ck : w2.cell? ⟨Z, 4, none⟩ = some (.slice none 0 0) := hp2.cells 4 (by decide); have zk : ∀ i, w2.frozen? ⟨Z, i, none⟩ = false := hp2.fz; have HP2 := hid (hp2.set (i := 4) (by decide) (.slice (some ⟨Z + 2, 0, none⟩) 4 4)); have HA2 := hid (ha2.other (b := Z) (o := 4) (by omega) (.slice (some ⟨Z + 2, 0, none⟩) 4 4)); have HF2 := hid hf2; clear hp2 ha2 hf2)
    | (refine wp_mkg rfl _ _ 59 121 5 40 _ rfl Tryz.underlying59 Tryz.info121 rfl 4 4 4 4 (Z + 3) (by rw [World.size_setCell]; exact hs2) rfl rfl rfl rfl (Nat.le_refl _) (by omega) (by omega) ?_; intro w3 hs3 ha3 hf3; have hp3 := HP2.out.fr (by simp) hf3 (fun x => x); have ck : w3.cell? ⟨Z, 5, none⟩ = some (.slice none 0 0) := hp3.cells 5 (by decide); have zk : ∀ i, w3.frozen? ⟨Z, i, none⟩ = false := hp3.fz; have HP3 := hid (hp3.set (i := 5) (by decide) (.slice (some ⟨Z + 3, 0, none⟩) 4 4)); have HA3 := hid (ha3.other (b := Z) (o := 5) (by omega) (.slice (some ⟨Z + 3, 0, none⟩) 4 4)); have HF3 := hid hf3; clear hp3 ha3 hf3)
    | (refine wp_mkbx rfl _ _ rfl 256 256 256 (Z + 4) (by rw [World.size_setCell]; exact hs3) rfl rfl rfl rfl (by omega) ?_; intro w4 hs4 ha4 hf4; have hp4 := HP3.out.fr (by simp) hf4 (fun x => x); have ck : w4.cell? ⟨Z, 6, none⟩ = some (.slice none 0 0) := hp4.cells 6 (by decide); have zk : ∀ i, w4.frozen? ⟨Z, i, none⟩ = false := hp4.fz; have HP4 := hid (hp4.set (i := 6) (by decide) (.slice (some ⟨Z + 4, 0, none⟩) 256 256)); have HA4 := hid (ha4.other (b := Z) (o := 6) (by omega) (.slice (some ⟨Z + 4, 0, none⟩) 256 256)); have HF4 := hid hf4; clear hp4 ha4 hf4))
  have hz : ∀ {a b : World} (o : Nat) (v : Value), Fr Nob w a → Fr Nob a b → Fr Nob w (b.setCell ⟨Z, o, none⟩ v) := fun o v h1 h2 => (h1.trans h2).trans2 (S2 := One Z) ((Fr.refl _ _).set1 _ _) (fun x hx hl => by unfold One at hx; have := HNN.out; omega)
  have F := hz 6 (.slice (some ⟨Z + 4, 0, none⟩) 256 256) (hz 5 (.slice (some ⟨Z + 3, 0, none⟩) 4 4) (hz 4 (.slice (some ⟨Z + 2, 0, none⟩) 4 4) (hz 2 (.slice (some ⟨Z + 1, 0, none⟩) 1200 1200) HF0.out HF1.out) HF2.out) HF3.out) HF4.out
  have hp := HP4.out
  have A3 := HA3.out.fr HF4.out (fun x => x)
  have A2 := ((HA2.out.fr HF3.out (fun x => x)).other (b := Z) (o := 5) (by omega) (.slice (some ⟨Z + 3, 0, none⟩) 4 4)).fr HF4.out (fun x => x)
  have A1 := ((((HA1.out.fr HF2.out (fun x => x)).other (b := Z) (o := 4) (by omega) (.slice (some ⟨Z + 2, 0, none⟩) 4 4)).fr HF3.out (fun x => x)).other (b := Z) (o := 5) (by omega) (.slice (some ⟨Z + 3, 0, none⟩) 4 4)).fr HF4.out (fun x => x)
  exact hK.out _ _ ⟨rfl, ⟨{ k := ptrV (X + 28), d := ptrV (X + 33 + 24), page := fun _ => 0, fill := 0, offs := fun _ => 0, tab := _, gain := fun _ => 0 }, ⟨HE.out.fr F (fun _ _ _ x => x), HD.out.fr F (fun _ _ _ x => x), ⟨hp.cells 0 (by decide), hp.cells 1 (by decide), hp.cells 2 (by decide), hp.cells 3 (by decide), hp.cells 4 (by decide), hp.cells 5 (by decide), hp.cells 6 (by decide), A1.other (by omega) _, A2.other (by omega) _, A3.other (by omega) _, HA4.out, hp.fz⟩, rfl, rfl, HLE.out, by show 0 ≤ 1200; omega⟩⟩, F⟩
end Go.Proofs.Qxb6500353aGreat
