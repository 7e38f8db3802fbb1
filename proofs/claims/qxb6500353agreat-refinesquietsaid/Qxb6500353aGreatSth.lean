/- The real decoder: turn, tail, Reset, walked; what stands between two Feeds. -/
import Derived.Test.Qxb6500353aGreatSte
import Derived.Test.Qxb6500353aGreatStf
import Derived.Test.Qxb6500353aGreatStg
import Derived.Test.Qxb6500353aGreatStp
namespace Go.Proofs.Qxb6500353aGreat
open Go.RowKit
set_option linter.unusedVariables false
set_option linter.unusedSimpArgs false

set_option maxRecDepth 100000 in
set_option maxHeartbeats 8000000 in
theorem turnD_any {w : World} {Y o0 : Nat} {R : DcR} {t : Tp} {s : DS} (hD : DecM w Y R t) (hS : StR R o0 s) (hC : Coded w Y s) (hO : DSOK s) (hp : s.ph ≤ 7) :
    Calls Tryz.prog 109 #[ptrV (Y + 24)] w fun e w' => ∃ er : Nat, e = .returned (.int .i64 (er : Nat)) ∧ TurnP w' Y o0 R t s er ∧ Fr (Rng Y (Y + 28)) w w' := by
  have c1 := hD.d.c_phase
  rw [hS.ph] at c1
  have hc8 : s.ph = 0 ∨ s.ph = 1 ∨ s.ph = 2 ∨ s.ph = 3 ∨ s.ph = 4 ∨ s.ph = 5 ∨ s.ph = 6 ∨ s.ph = 7 := by omega
  rcases hc8 with e | e | e | e | e | e | e | e
  · have hq := turnFinal_any hD hS hC hO e
    unfold ptrV at hq
    have HQ := hid hq
    rw [e, show ((0 : Nat) : Int) = 0 from rfl] at c1
    clear hD hS hC hO hp e hq
    refine calls_via fun K hK => ?_
    unfold ptrV
    go_enter Tryz.func109, Tryz.ntmps109
    go_wp2_with fail
    refine HQ.out.mono ?_
    rintro e w2 ⟨er, rfl, h1, h2⟩
    have H1 := hid (And.intro h1 h2)
    clear h1 h2
    go_wp2_with fail
    exact hK.out _ _ ⟨er, rfl, H1.out⟩
  · have hq := turnKind_any hD hS hC hO e
    unfold ptrV at hq
    have HQ := hid hq
    rw [e, show ((1 : Nat) : Int) = 1 from rfl] at c1
    clear hD hS hC hO hp e hq
    refine calls_via fun K hK => ?_
    unfold ptrV
    go_enter Tryz.func109, Tryz.ntmps109
    go_wp2_with fail
    refine HQ.out.mono ?_
    rintro e w2 ⟨er, rfl, h1, h2⟩
    have H1 := hid (And.intro h1 h2)
    clear h1 h2
    go_wp2_with fail
    exact hK.out _ _ ⟨er, rfl, H1.out⟩
  · have hq := turnSize_any hD hS hC hO e
    unfold ptrV at hq
    have HQ := hid hq
    rw [e, show ((2 : Nat) : Int) = 2 from rfl] at c1
    clear hD hS hC hO hp e hq
    refine calls_via fun K hK => ?_
    unfold ptrV
    go_enter Tryz.func109, Tryz.ntmps109
    go_wp2_with fail
    refine HQ.out.mono ?_
    rintro e w2 ⟨er, rfl, h1, h2⟩
    have H1 := hid (And.intro h1 h2)
    clear h1 h2
    go_wp2_with fail
    exact hK.out _ _ ⟨er, rfl, H1.out⟩
  · have hq := turnByte_any hD hS hC hO e
    unfold ptrV at hq
    have HQ := hid hq
    rw [e, show ((3 : Nat) : Int) = 3 from rfl] at c1
    clear hD hS hC hO hp e hq
    refine calls_via fun K hK => ?_
    unfold ptrV
    go_enter Tryz.func109, Tryz.ntmps109
    go_wp2_with fail
    refine HQ.out.mono ?_
    rintro e w2 ⟨er, rfl, h1, h2⟩
    have H1 := hid (And.intro h1 h2)
    clear h1 h2
    go_wp2_with fail
    exact hK.out _ _ ⟨er, rfl, H1.out⟩
  · have hq := turnList_any hD hS hC hO e
    unfold ptrV at hq
    have HQ := hid hq
    rw [e, show ((4 : Nat) : Int) = 4 from rfl] at c1
    clear hD hS hC hO hp e hq
    refine calls_via fun K hK => ?_
    unfold ptrV
    go_enter Tryz.func109, Tryz.ntmps109
    go_wp2_with fail
    refine HQ.out.mono ?_
    rintro e w2 ⟨er, rfl, h1, h2⟩
    have H1 := hid (And.intro h1 h2)
    clear h1 h2
    go_wp2_with fail
    exact hK.out _ _ ⟨er, rfl, H1.out⟩
  · have hq := turnSym_any hD hS hC hO e
    unfold ptrV at hq
    have HQ := hid hq
    rw [e, show ((5 : Nat) : Int) = 5 from rfl] at c1
    clear hD hS hC hO hp e hq
    refine calls_via fun K hK => ?_
    unfold ptrV
    go_enter Tryz.func109, Tryz.ntmps109
    go_wp2_with fail
    refine HQ.out.mono ?_
    rintro e w2 ⟨er, rfl, h1, h2⟩
    have H1 := hid (And.intro h1 h2)
    clear h1 h2
    go_wp2_with fail
    exact hK.out _ _ ⟨er, rfl, H1.out⟩
  · have hq := turnDist_any hD hS hC hO e
    unfold ptrV at hq
    have HQ := hid hq
    rw [e, show ((6 : Nat) : Int) = 6 from rfl] at c1
    clear hD hS hC hO hp e hq
    refine calls_via fun K hK => ?_
    unfold ptrV
    go_enter Tryz.func109, Tryz.ntmps109
    go_wp2_with fail
    refine HQ.out.mono ?_
    rintro e w2 ⟨er, rfl, h1, h2⟩
    have H1 := hid (And.intro h1 h2)
    clear h1 h2
    go_wp2_with fail
    exact hK.out _ _ ⟨er, rfl, H1.out⟩
  · have hq := turnMore_any hD hS hC hO e
    unfold ptrV at hq
    have HQ := hid hq
    rw [e, show ((7 : Nat) : Int) = 7 from rfl] at c1
    clear hD hS hC hO hp e hq
    refine calls_via fun K hK => ?_
    unfold ptrV
    go_enter Tryz.func109, Tryz.ntmps109
    go_wp2_with fail
    refine HQ.out.mono ?_
    rintro e w2 ⟨er, rfl, h1, h2⟩
    have H1 := hid (And.intro h1 h2)
    clear h1 h2
    go_wp2_with fail
    exact hK.out _ _ ⟨er, rfl, H1.out⟩
set_option maxRecDepth 100000 in
theorem tailD_any {w : World} {Y : Nat} {R : DcR} {t : Tp} (hD : DecM w Y R t) :
    Calls Tryz.prog 110 #[ptrV (Y + 24)] w fun e w' => e = .returned (.int .i64 ((if t.at_ < t.n then 11 else 0 : Nat) : Int)) ∧ (∃ x, DecM w' Y { R with at_ := x } t) ∧ Fr (Rng Y (Y + 28)) w w' := by
  have c1 := hD.d.c_t
  rw [hD.rt] at c1
  have c2 := hD.d.c_at_
  have cf : ∀ i, w.frozen? ⟨Y + 24, i, none⟩ = false := hD.d.fz
  have hps := pos_any hD.tp
  obtain ⟨p, hpp⟩ : ∃ z, z = t.at_ := ⟨_, rfl⟩
  rw [← hpp] at hps
  have f1 : Fr (One (Y + 24)) w (w.setCell ⟨Y + 24, 6, none⟩ (.int .i64 ((p : Nat) : Int))) := (Fr.refl _ _).set1 _ _
  have h1 := hD.dec (hD.d.set_at_ p) (rngO f1) rfl rfl rfl (fun q => q)
  have hln := tlen_any h1.tp
  obtain ⟨n, hnn⟩ : ∃ z, z = t.n := ⟨_, rfl⟩
  rw [← hnn] at hln
  have HPS := hid hps
  have HLN := hid hln
  have H1 := hid h1
  have F1 := hid f1
  rw [← hpp, ← hnn]
  clear hD hps hln h1 f1 hpp hnn
  refine calls_via fun K hK => ?_
  unfold ptrV tapP at *
  go_enter Tryz.func110, Tryz.ntmps110
  by_cases hc : p < n
  · have hci : (p : Int) < n := by omega
    rw [if_pos hc] at hK
    clear hc
    go_wp2_with fail
    refine HPS.out.mono ?_
    rintro e w' ⟨rfl, hw⟩
    have hw2 := hw.symm; subst hw2; clear hw
    go_wp2_with fail
    refine HLN.out.mono ?_
    rintro e w' ⟨rfl, hw⟩
    have hw2 := hw.symm; subst hw2; clear hw
    go_wp2_with fail
    exact hK.out _ _ ⟨rfl, ⟨p, H1.out⟩, rngD (rngO F1.out)⟩
  · have hci : ¬ (p : Int) < n := by omega
    rw [if_neg hc] at hK
    clear hc
    go_wp2_with fail
    refine HPS.out.mono ?_
    rintro e w' ⟨rfl, hw⟩
    have hw2 := hw.symm; subst hw2; clear hw
    go_wp2_with fail
    refine HLN.out.mono ?_
    rintro e w' ⟨rfl, hw⟩
    have hw2 := hw.symm; subst hw2; clear hw
    go_wp2_with fail
    exact hK.out _ _ ⟨rfl, ⟨p, H1.out⟩, rngD (rngO F1.out)⟩
/-- The decoder's objects, in whatever state. -/
def DecZ (w : World) (Y : Nat) : Prop := ∃ (R : DcR) (t : Tp), DecM w Y R t
/-- Between two Feeds: the text P was fed, the machine stands at s. -/
def DecS (w : World) (Y : Nat) (P : List Nat) (s : DS) : Prop := ∃ (R : DcR) (t : Tp) (o0 : Nat), DecM w Y R t ∧ StR R o0 s ∧ Coded w Y s ∧ AtS P t s ∧ R.fed = P.length
theorem DecS.z {w : World} {Y : Nat} {P : List Nat} {s : DS} (h : DecS w Y P s) : DecZ w Y := by obtain ⟨R, t, _, h1, _⟩ := h; exact ⟨R, t, h1⟩
theorem DecZ.fr {S : Nat → Prop} {w w2 : World} {Y : Nat} (h : DecZ w Y) (hf : Fr S w w2) (hn : ∀ k, Y ≤ k → k < Y + 28 → ¬ S k) : DecZ w2 Y := by obtain ⟨R, t, h1⟩ := h; exact ⟨R, t, h1.fr hf hn⟩
theorem DecZ.lt {w : World} {Y : Nat} (h : DecZ w Y) : Y + 27 < w.heap.size := by obtain ⟨R, t, h1⟩ := h; exact h1.lt
theorem DecS.fr {S : Nat → Prop} {w w2 : World} {Y : Nat} {P : List Nat} {s : DS} (h : DecS w Y P s) (hf : Fr S w w2) (hn : ∀ k, Y ≤ k → k < Y + 28 → ¬ S k) : DecS w2 Y P s := by
  obtain ⟨R, t, o0, h1, h2, h3, h4, h5⟩ := h
  exact ⟨R, t, o0, h1.fr hf hn, h2, h3.fr hf (fun k a b => hn k (by omega) (by omega)), h4, h5⟩
set_option maxRecDepth 100000 in
set_option maxHeartbeats 4000000 in
theorem resetD_any {w : World} {Y : Nat} (h : DecZ w Y) :
    Calls Tryz.prog 75 #[ptrV (Y + 24)] w fun e w' => e = .returned (.tuple #[]) ∧ DecS w' Y [] DS.init ∧ Fr (Rng Y (Y + 28)) w w' := by
  obtain ⟨R, t, hD⟩ := h
  have c1 := hD.d.c_t
  rw [hD.rt] at c1
  have hrs := reset_any hD.tp
  have HRS := hid hrs
  have HD := hid hD
  clear hD hrs
  refine calls_via fun K hK => ?_
  unfold ptrV tapP at *
  go_enter Tryz.func75, Tryz.ntmps75
  go_wp2_with fail
  refine HRS.out.mono ?_
  rintro e w2 ⟨rfl, h2, f2⟩
  have hd2 := HD.out.tape h2 f2
  have HD2 := hid hd2
  have HF2 := hid (rngT f2)
  have k1 := hd2.d.c_phase
  have k2 := hd2.d.c_final
  have k3 := hd2.d.c_at_
  have k4 := hd2.d.c_head
  have k5 := hd2.d.c_w
  have k6 := hd2.d.c_fill
  have k7 := hd2.d.c_n
  have k8 := hd2.d.c_total
  have k9 := hd2.d.c_fed
  have kf : ∀ i, w2.frozen? ⟨Y + 24, i, none⟩ = false := hd2.d.fz
  clear h2 f2 hd2 c1
  go_wp2_with fail
  go_end0
  have h3 := (((((((((HD2.out.d.set_phase 0).set_final 0).set_at_ 0).set_head 0).set_w 0).set_fill 0).set_n 0).set_total 0).set_fed 0)
  have f3 := ((((((((((Fr.refl (One (Y + 24)) w2).set1 4 (.int .i64 ((0 : Nat) : Int))).set1 5 (.int .i64 ((0 : Nat) : Int))).set1 6 (.int .i64 ((0 : Nat) : Int))).set1 7 (.int .i64 ((0 : Nat) : Int))).set1 15 (.int .i64 ((0 : Nat) : Int))).set1 16 (.int .i64 ((0 : Nat) : Int))).set1 18 (.int .i64 ((0 : Nat) : Int))).set1 19 (.int .i64 ((0 : Nat) : Int))).set1 20 (.int .i64 ((0 : Nat) : Int)))
  exact hK.out _ _ ⟨rfl, ⟨_, _, 0, HD2.out.dec h3 (rngO f3) rfl rfl rfl (fun q => q), ⟨rfl, rfl, fun q => by simp [DS.init] at q, fun q => by simp [DS.init] at q, fun q => by simp [DS.init] at q, fun q => by simp [DS.init] at q, ⟨rfl, rfl, rfl, fun i hi => by simp [DS.init] at hi, rfl, fun i hi => by simp at hi, by simp [DS.init]⟩⟩, Coded.off (.inl (by simp [DS.init])), AtS.start, rfl⟩, HF2.out.trans (rngD (rngO f3))⟩
end Go.Proofs.Qxb6500353aGreat
