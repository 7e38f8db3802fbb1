/- The law's world; Untouched, SameCheck. -/
import Derived.Test.Qxb6500354aGreatNw2
namespace Go.Proofs.Qxb6500354aGreat
open Go.RowKit
set_option linter.unusedVariables false
set_option linter.unusedSimpArgs false

structure WdB where
  wb : Nat
  X : TwB
  m : Nat
  mp : Nat
  pp : Nat
  kb : Nat
  M : Nat
structure WdS where
  s : TwS
  tx : ByteArray
  pr : ByteArray
  lt : ByteArray
  lp : ByteArray
  mine : Value
  ml : List (List Int)
def wdCells (B : WdB) (S : WdS) (q : Bool) : List Value := [ptrV B.X.tb, ptrV B.m, ptrV B.pp, ptrV B.kb, .string S.tx, .string S.pr, .string S.lt, .string S.lp, S.mine, .bool q]
def side (B : WdB) : List Nat := [B.wb, B.m, B.mp, B.pp, B.kb]
def Stamped (ml : List (List Int)) : Prop := ∀ l ∈ ml, l.length ≤ 12 ∧ ∀ y ∈ l, y = -7777777
structure WdAt (w : World) (B : WdB) (S : WdS) (q : Bool) : Prop where
  cc : CellsAt w B.wb (wdCells B S q)
  tw : TwAt w B.X S.s
  ms : MsAt w B.m B.mp
  km : KmAt w B.kb B.pp
  nd : (side B).Nodup
  dj : ∀ x ∈ side B, x ∉ foot B.X S.s
  mn : OwnM w B.M S.mine S.ml (side B ++ foot B.X S.s)
  st : Stamped S.ml
  ln : S.ml.length ≤ 16
  z1 : S.tx.size ≤ 1048577
  z2 : S.pr.size ≤ 1048577
  z3 : S.lt.size ≤ 1048577
  z4 : S.lp.size ≤ maxLen
  lo : ∀ x ∈ side B, B.M ≤ x
  lf : ∀ x ∈ foot B.X S.s, B.M ≤ x

/-! ### soundness of the definition -/
theorem checkMF_sound {a b : List Nat} (h : (checkMF a b).err = 0) : (problemF a).2.1 = 0 ∧ tableF (problemF a).1 4096 0 = -1 := by
  unfold checkMF at h
  by_cases h1 : (problemF a).2.1 = 0
  · rw [if_pos h1] at h
    refine ⟨h1, ?_⟩
    by_cases h2 : (parseM b).err = 0
    · rw [if_pos h2] at h
      obtain ⟨rs, hrs, hc⟩ := parseM_flat b
      rw [hrs, rowsOf_flat hc] at h
      have hps : ∀ d ∈ (problemF a).1, RowOK d := fun d hd => RowOK.of ((problemF_ok a).2 d hd)
      have hrr : ∀ r ∈ rs, RowOK r.2 := fun r hr => RowOK.of (hc r hr)
      obtain ⟨b2, hb, he⟩ := (checkLoop_run rs 0 (problemF a).1 hps hrr).1 h
      exact hb.refutes hps hrr he
    · rw [if_neg h2] at h; exact absurd h h2
  · rw [if_neg h1] at h; exact absurd h h1

/-! ### SameCheck -/
structure SameQ (w w' : World) (x : TwB) (s s' : TwS) (pp : Nat) : Prop where
  tw : TwAt w' x s'
  nx : NxF w x s s'
  W : s'.W = s.W
  T : s'.T = s.T
  pm : PMAt w' pp
  fr : Fr (pp :: foot x s) w w'
set_option maxRecDepth 100000 in
set_option maxHeartbeats 8000000 in
theorem SameQ.mk2 {w w2 w3 w' : World} {x : TwB} {s s' : TwS} {pp N : Nat} (htw : TwAt w3 x s') (hnx : NxF w x s s') (hwt : s'.W = s.W ∧ s'.T = s.T) (hp : PMAt w3 pp) (hf2 : Fr (pp :: foot x s) w w3) (hfn : Fr [N] w3 w') (hnn : ∀ y ∈ foot x s', y ∉ [N]) (hpN : pp < N) (hN : w.heap.size = N) : SameQ w w' x s s' pp :=
  ⟨htw.fr hfn hnn, hnx, hwt.1, hwt.2, hp.fr hfn (by simp; omega), hf2.trans2 hfn (fun y hy hlt => by rw [List.mem_singleton] at hy; omega)⟩
set_option maxRecDepth 100000 in
set_option maxHeartbeats 8000000 in
theorem sameCheck_any {w : World} {B : WdB} {S : WdS} {qt : Bool} {x : TwB} {s : TwS} (hw : CellsAt w B.wb (wdCells B S qt)) (hk : KmAt w B.kb B.pp) (hx : TwAt w x s) (hs1 : B.wb ∉ foot x s) (hs2 : B.kb ∉ foot x s) (hs3 : B.pp ∉ foot x s) (h12 : B.wb ≠ B.pp) (h23 : B.kb ≠ B.pp)
    (a b : ByteArray) (ha : a.size ≤ maxLen) (hb : b.size ≤ maxLen) :
    Calls Tryz.prog 17 #[.pointer (some ⟨B.wb, 0, none⟩), .pointer (some ⟨x.tb, 0, none⟩), .string a, .string b] w fun e w' => (∃ v, v = verdV (checkMF (bytesOf a) (bytesOf b)) ∧ e = .returned (.tuple #[v, .bool true])) ∧ ∃ s', SameQ w w' x s s' B.pp := by
  obtain ⟨N, hN⟩ : ∃ N, w.heap.size = N := ⟨_, rfl⟩
  have hC0 := CellsAt.mk_alloc w [.int .i64 0, .int .i64 0, .int .i64 0] 48
  obtain ⟨w0, hw0⟩ : ∃ w0, w.alloc (Obj.cells #[.int .i64 0, .int .i64 0, .int .i64 0] 48) = w0 := ⟨_, rfl⟩
  change CellsAt (w.alloc (Obj.cells #[.int .i64 0, .int .i64 0, .int .i64 0] 48)) w.heap.size _ at hC0
  rw [hw0, hN] at hC0
  have hf0 : Fr [] w w0 := by rw [← hw0]; exact (Fr.refl _ _).alloc _
  have hsound := checkMF_sound (a := bytesOf a) (b := bytesOf b)
  obtain ⟨v, hv⟩ : ∃ z, checkMF (bytesOf a) (bytesOf b) = z := ⟨_, rfl⟩
  have hx0 := hx.fr0 hf0
  have hpl := hx.lt
  have HCH := hid (hx0.check a b ha hb)
  have HMC := hid (fun (wx : World) (h : KmAt wx B.kb B.pp) => mcheck_any h h23 a b ha hb)
  have HPB := hid (fun (wx : World) (h : PMAt wx B.pp) => problem_any h a ha [] (by simp))
  have hok := problemF_ok (bytesOf a)
  rw [hv] at hsound HCH HMC ⊢
  obtain ⟨e1, e2, e3⟩ := v
  unfold verdV at HCH ⊢
  simp only [] at HCH HMC hsound ⊢
  have ht6 := hx0.tow.c 6 _ rfl
  unfold ptrV at ht6
  have HS0 : Hid (w0.heap.size = N + 1) := hid (by rw [← hw0]; simp [hN])
  have HC0 := hid hC0
  have HF0 := hid hf0
  have HN := hid hN
  have HW := hid (hw.fr hf0 (by simp) (by simp [wdCells]))
  have HK := hid (hk.fr hf0 (by simp) (by simp))
  have HPL := hid (fun y (hy : y ∈ foot x s) => Nat.lt_of_lt_of_le (hpl y hy) (Nat.le_of_eq hN))
  have HS := hid (And.intro hs1 (And.intro hs2 hs3))
  have HNE := hid (And.intro h12 h23)
  have HSND := hid hsound
  have HOK := hid hok
  have hwbN : B.wb < N := by rw [← hN]; exact lt_of_cellB (hw.c 0 _ rfl)
  have HWB := hid hwbN
  have HPPN : Hid (B.pp < N) := hid (by rw [← hN]; exact hk.2.lt)
  have HNS : Hid (¬ N < w.heap.size) := hid (by rw [hN]; omega)
  clear hC0 hf0 hw hk hx hx0 hpl hs1 hs2 hs3 h12 h23 hsound hok hwbN hv
  refine calls_via fun K hK => ?_
  go_enter Tryz.func17, Tryz.ntmps17
  go_wp2_with fail
  refine HCH.out.mono ?_
  rintro e w1 ⟨s', rfl, hq1⟩
  have hc1 := CellsAt.mk_alloc w1 [.int .i64 (e1 : Nat), .int .i64 (e2 : Nat), .int .i64 (e3 : Nat)] 48
  obtain ⟨D1, hD1⟩ : ∃ D, w1.heap.size = D := ⟨_, rfl⟩
  obtain ⟨wa, hwa⟩ : ∃ z, w1.alloc (Obj.cells #[.int .i64 (e1 : Nat), .int .i64 (e2 : Nat), .int .i64 (e3 : Nat)] 48) = z := ⟨_, rfl⟩
  change CellsAt (w1.alloc (Obj.cells #[.int .i64 (e1 : Nat), .int .i64 (e2 : Nat), .int .i64 (e3 : Nat)] 48)) w1.heap.size _ at hc1
  rw [hwa, hD1] at hc1
  have hfa : Fr [] w1 wa := by rw [← hwa]; exact (Fr.refl _ _).alloc _
  have HFA := hid (hq1.fr.trans (hfa.mono (by simp)))
  have HTW := hid (hq1.tw.fr0 hfa)
  have HNX : Hid (NxF w x s s') := hid (fun y hy => (hq1.nx y hy).imp (fun z => z) (fun z => Nat.le_trans HF0.out.size z))
  have HWT := hid (And.intro hq1.W hq1.T)
  have HNN : Hid (∀ y ∈ foot x s', y ∉ [N]) := hid (fun y hy hm => by
    rw [List.mem_singleton] at hm
    rcases hq1.nx y hy with z | z
    · have := HPL.out y z; omega
    · have := HS0.out; omega)
  have HCA := hid hc1
  have HWA := hid (HW.out.fr HFA.out HS.out.1 (by simp [wdCells]))
  have HKA := hid (HK.out.fr HFA.out HS.out.2.1 HS.out.2.2)
  have HND : Hid (N < D1) := hid (by have := lt_of_cellB (HC0.out.c 0 _ rfl); have := hq1.fr.size; omega)
  have k3 := HWA.out.c 3 _ rfl
  unfold ptrV at k3
  clear hc1 hfa hq1 hN hw0 ht6
  go_wp2_with fail
  refine (HMC.out wa HKA.out).mono ?_
  rintro e w2 ⟨rfl, hp2, hf2⟩
  have hc2 := CellsAt.mk_alloc w2 [.int .i64 (e1 : Nat), .int .i64 (e2 : Nat), .int .i64 (e3 : Nat)] 48
  obtain ⟨D2, hD2⟩ : ∃ D, w2.heap.size = D := ⟨_, rfl⟩
  obtain ⟨wb, hwb⟩ : ∃ z, w2.alloc (Obj.cells #[.int .i64 (e1 : Nat), .int .i64 (e2 : Nat), .int .i64 (e3 : Nat)] 48) = z := ⟨_, rfl⟩
  change CellsAt (w2.alloc (Obj.cells #[.int .i64 (e1 : Nat), .int .i64 (e2 : Nat), .int .i64 (e3 : Nat)] 48)) w2.heap.size _ at hc2
  rw [hwb, hD2] at hc2
  have hfb : Fr [] w2 wb := by rw [← hwb]; exact (Fr.refl _ _).alloc _
  have HFB := hid (hf2.trans (hfb.mono (by simp)))
  have HCB := hid hc2
  have HPB2 := hid (hp2.fr hfb (by simp))
  have HCAB := hid (HCA.out.fr HFB.out (by have := HND.out; have := HPPN.out; simp; omega) (by simp))
  have HWB2 := hid (HWA.out.fr HFB.out (by simp; exact HNE.out.1) (by simp [wdCells]))
  have HTWB := hid (HTW.out.fr HFB.out (fun y hy hm => by
    rw [List.mem_singleton] at hm
    subst hm
    rcases HNX.out _ hy with z | z
    · exact HS.out.2.2 z
    · have := HPPN.out; have := HN.out; omega))
  have a0 := HCAB.out.c 0 _ rfl
  have a1 := HCAB.out.c 1 _ rfl
  have a2 := HCAB.out.c 2 _ rfl
  have b0 := HCB.out.c 0 _ rfl
  have b1 := HCB.out.c 1 _ rfl
  have b2 := HCB.out.c 2 _ rfl
  have HFT : Hid (Fr (B.pp :: foot x s) w wb) := hid (((HF0.out.mono (by simp)).trans (HFA.out.mono (fun y hy _ => List.mem_cons_of_mem _ hy))).trans (HFB.out.mono (fun y hy _ => by rw [List.mem_singleton] at hy; rw [hy]; exact List.mem_cons_self)))
  have HCN := hid ((HC0.out.fr HFA.out (fun hm => by have := HPL.out N hm; omega) (by simp)).fr HFB.out (by have := HPPN.out; simp; omega) (by simp))
  clear hc2 hfb hf2 hp2 k3 hwa hD1
  have hd1 : ¬ D1 = N := by have := HND.out; omega
  have hd2 : ¬ N = D1 := by have := HND.out; omega
  by_cases he : e1 = 0
  · subst he
    obtain ⟨hpz, htb⟩ := HSND.out rfl
    have HTB := hid htb
    have k2 := HWB2.out.c 2 _ rfl
    unfold ptrV at k2
    have hwb2 : w2.alloc (Obj.cells #[.int .i64 0, .int .i64 (e2 : Nat), .int .i64 (e3 : Nat)] 48) = wb := hwb
    have a0 : wb.cell? ⟨D1, 0, none⟩ = some (.int .i64 0) := a0
    have b0 : wb.cell? ⟨D2, 0, none⟩ = some (.int .i64 0) := b0
    clear hpz htb hwb
    go_wp2_with fail
    clear hwb2 hD2
    refine (HPB.out wb HPB2.out).mono ?_
    rintro e w3 ⟨cv, rfl, ⟨ho3, hp3, hf3⟩⟩
    have HM3 := hid ho3.mat
    have HP3 := hid hp3
    have HF3 := hid hf3
    have HN3 := hid (HCN.out.fr hf3 (by have := HPPN.out; simp; omega) (by simp))
    have HA3 := hid (HCAB.out.fr hf3 (by have := HND.out; have := HPPN.out; simp; omega) (by simp))
    have HT3 := hid (HTWB.out.fr hf3 (fun y hy hm => by
      rw [List.mem_singleton] at hm
      subst hm
      rcases HNX.out _ hy with z | z
      · exact HS.out.2.2 z
      · have := HPPN.out; have := HN.out; omega))
    clear ho3 hp3 hf3 a0 a1 a2 b0 b1 b2 k2
    go_wp2_with fail
    refine (table_any HM3.out (rowsOK_of HOK.out)).mono ?_
    rintro e w' ⟨rfl, hw⟩
    have hw2 := hw.symm
    subst hw2
    rw [HTB.out]
    have a0 : w3.cell? ⟨D1, 0, none⟩ = some (.int .i64 0) := HA3.out.c 0 _ rfl
    have a1 := HA3.out.c 1 _ rfl
    have a2 := HA3.out.c 2 _ rfl
    have c0 := HN3.out.c 0 _ rfl
    have c1 := HN3.out.c 1 _ rfl
    have c2 := HN3.out.c 2 _ rfl
    have cz := HN3.out.fz
    clear hw
    go_wp2_with fail
    have hfn : Fr [N] w3 _ := (((Fr.refl [N] w3).setG 0 (.int .i64 0)).setG 1 (.int .i64 (e2 : Nat))).setG 2 (.int .i64 (e3 : Nat))
    refine bodyPost_ret (v := .tuple #[.agg #[.int .i64 0, .int .i64 (e2 : Nat), .int .i64 (e3 : Nat)], .bool true]) (by simp [results, Tryz.results17, go_sem, cellSet, c0, c1, c2]) rfl ?_
    exact hK.out _ _ ⟨⟨_, rfl, rfl⟩, s', SameQ.mk2 (w2 := w3) HT3.out HNX.out HWT.out HP3.out (HFT.out.trans (HF3.out.mono (fun y hy _ => by rw [List.mem_singleton] at hy; rw [hy]; exact List.mem_cons_self))) hfn HNN.out HPPN.out HN.out⟩
  · have hb1 : ((e1 : Int) == 0) = false := by rw [eqN]; simp [he]
    have c0 := HCN.out.c 0 _ rfl
    have c1 := HCN.out.c 1 _ rfl
    have c2 := HCN.out.c 2 _ rfl
    have cz := HCN.out.fz
    clear he
    go_wp2_with fail
    have hfn : Fr [N] wb _ := (((Fr.refl [N] wb).setG 0 (.int .i64 (e1 : Nat))).setG 1 (.int .i64 (e2 : Nat))).setG 2 (.int .i64 (e3 : Nat))
    refine bodyPost_ret (v := .tuple #[.agg #[.int .i64 (e1 : Nat), .int .i64 (e2 : Nat), .int .i64 (e3 : Nat)], .bool true]) (by simp [results, Tryz.results17, go_sem, cellSet, c0, c1, c2]) rfl ?_
    exact hK.out _ _ ⟨⟨_, rfl, rfl⟩, s', SameQ.mk2 (w2 := wb) HTWB.out HNX.out HWT.out HPB2.out HFT.out hfn HNN.out HPPN.out HN.out⟩
end Go.Proofs.Qxb6500354aGreat
