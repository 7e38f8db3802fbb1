/- THE WALKS over check: follow. -/
import Derived.Test.Qxb6500354aGreatChk8
namespace Go.Proofs.Qxb6500354aGreat
open Go.RowKit
set_option linter.unusedVariables false
set_option linter.unusedSimpArgs false

theorem followK_cons (r : Bool × List Int) (rs : List (Bool × List Int)) (k : Nat) (sl : Slots) : followK (r :: rs) k sl = if (turnK sl r).1 = 0 then followK rs (k + 1) (turnK sl r).2 else ⟨(turnK sl r).1, 2, k⟩ := rfl
theorem followK_nil (k : Nat) (sl : Slots) : followK [] k sl = if emptyF sl = 0 then ⟨20, 2, k⟩ else ⟨0, 0, 0⟩ := rfl
set_option maxRecDepth 100000 in
set_option maxHeartbeats 8000000 in
theorem follow_any {w : World} {b q : Nat} {sl : Slots} (h : CkAt w b q sl) {v : Value} {rs : List (Bool × List Int)} (hv : Ints w v (flatOf rs)) (hb : (flatOf rs).length ≤ 1099511627776) (hc : ∀ r ∈ rs, checkClause r.2 = 0)
    (hvb : ∀ g, v.ownBlock = some g → g ≠ b) :
    Calls Tryz.prog 71 #[.pointer (some ⟨b, 0, none⟩), v] w fun e w' => e = .returned (.agg #[.int .i64 ((followK rs 0 sl).err : Nat), .int .i64 ((followK rs 0 sl).whr : Nat), .int .i64 ((followK rs 0 sl).pos : Nat)]) ∧ (∃ sl', CkAt w' b q sl') ∧ Fr [b] w w' := by
  obtain ⟨va, cap, hea⟩ := hv.len
  subst hea
  obtain ⟨n, hn⟩ : ∃ n, (flatOf rs).length = n := ⟨_, rfl⟩
  obtain ⟨res, hres⟩ : ∃ x, followK rs 0 sl = x := ⟨_, rfl⟩
  obtain ⟨C, hC⟩ : ∃ N, w.heap.size = N := ⟨_, rfl⟩
  have hC0 := CellsAt.mk_alloc w [.int .i64 0, .int .i64 0, .int .i64 0] 48
  obtain ⟨w0, hw0⟩ : ∃ w0, w.alloc (Obj.cells #[.int .i64 0, .int .i64 0, .int .i64 0] 48) = w0 := ⟨_, rfl⟩
  change CellsAt (w.alloc (Obj.cells #[.int .i64 0, .int .i64 0, .int .i64 0] 48)) w.heap.size _ at hC0
  rw [hw0, hC] at hC0
  have hf0 : Fr [] w w0 := by rw [← hw0]; exact (Fr.refl _ _).alloc _
  have hlt0 := h.lt
  rw [hC] at hlt0
  have h0 := h.fr hf0 (by simp)
  have hv0 := hv.fr hf0 (by simp)
  have HCC := hid hC
  have HC0 := hid hC0
  rw [hn] at hv0 hb hvb ⊢
  rw [hres]
  have HRES := hid hres
  have HH := hid h0
  have HV := hid hv0
  have HN := hid hn
  have HC := hid hc
  have HVB := hid hvb
  have HLT := hid hlt0
  have HF0 := hid hf0
  obtain ⟨rl, hrl⟩ : ∃ x, rs.length = x := ⟨_, rfl⟩
  have hrlb : rl ≤ n := by rw [← hrl, ← hn]; exact flatOf_ge rs
  have HRL := hid hrl
  have HRLB := hid hrlb
  have c0 := hC0.c 0 _ rfl
  have c1 := hC0.c 1 _ rfl
  have c2 := hC0.c 2 _ rfl
  have cz := hC0.fz
  clear h hv hn hc hvb hlt0 hrl hrlb h0 hv0 hC0 hf0 hres
  refine calls_via fun K hK => ?_
  go_enter Tryz.func71, Tryz.ntmps71
  go_wp2_with fail
  go_loopg [5, 6] rl (fun g at' nn wr => ∃ dn rest sl', rs = dn ++ rest ∧ g = rest.length ∧ at' = .int .i64 (((flatOf dn).length : Nat) : Int) ∧ nn = .int .i64 ((dn.length : Nat) : Int) ∧ CkAt wr b q sl' ∧ Fr [b] w0 wr ∧ res = followK rest dn.length sl')
  case atStart => exact ⟨[], rs, sl, rfl, HRL.out.symm, rfl, rfl, HH.out, Fr.refl _ _, HRES.out.symm⟩
  case round =>
    clear c0 c1 c2 cz hC hw0
    obtain ⟨dn, rest, sl', hrs, hg, rfl, rfl, hck, hf, he⟩ := hrel
    obtain ⟨k, hk⟩ : ∃ k, (flatOf dn).length = k := ⟨_, rfl⟩
    obtain ⟨dl, hdl⟩ : ∃ k, dn.length = k := ⟨_, rfl⟩
    rw [hdl] at he ⊢
    rw [hk]
    have hlen : n = k + (flatOf rest).length := by rw [← HN.out, hrs, flatOf_app, List.length_append, hk]
    have hdlb : dl + rest.length = rl := by rw [← hdl, ← HRL.out, hrs, List.length_append]
    have hdlb2 : (dl : Int) ≤ 1099511627776 := by have := HRLB.out; omega
    have hcw := HC0.out.fr hf (by simp; have := HLT.out; omega) (by simp)
    have c0 := hcw.c 0 _ rfl
    have c1 := hcw.c 1 _ rfl
    have c2 := hcw.c 2 _ rfl
    have cz := hcw.fz
    cases rest with
    | nil =>
      rw [followK_nil] at he
      have hkn : k = n := by rw [hlen]; simp [flatOf]
      subst hkn
      have hck' := hck
      obtain ⟨R, hR, ho⟩ := hck'
      have hemp := hR.empties
      rw [ho.emp] at hemp
      have HCK := hid hck
      have HF := hid hf
      obtain ⟨em, hem⟩ : ∃ x, emptyF sl' = x := ⟨_, rfl⟩
      rw [hem] at hemp he
      clear hlen hck hf hrs hk hg hR ho hem hdl hdlb
      by_cases h0 : em = 0
      · rw [if_pos h0] at he
        subst h0
        have HE := hid he
        clear he
        have HCW := hid hcw
        go_wp2_with (go_at_call 67; refine (refused_any _ _ _ _).mono ?_; rintro e' w5 ⟨rfl, hf5⟩; have HF5 := hid hf5; have hc5 := HCW.out.fr hf5 (by simp) (by simp); have c50 := hc5.c 0 _ rfl; have c51 := hc5.c 1 _ rfl; have c52 := hc5.c 2 _ rfl; have cz5 := hc5.fz; clear hf5 hc5)
        refine bodyPost_ret (v := .agg #[.int .i64 20, .int .i64 2, .int .i64 (dl : Nat)]) (by simp [results, Tryz.results71, go_sem, cellSet, c50, c51, c52]) rfl ?_
        have hfn : Fr [C] wr _ := (((HF5.out.mono (by simp)).setB 0 (.int .i64 20)).setB 1 (.int .i64 2)).setB 2 (.int .i64 (dl : Nat))
        refine hK.out _ _ ⟨by rw [HE.out]; rfl, ⟨sl', HCK.out.fr hfn (by simp; have := HLT.out; omega)⟩, ?_⟩
        exact (((HF0.out.mono (by simp)).trans HF.out)).trans2 hfn (fun x hx hlt => by rw [List.mem_singleton] at hx; have := HCC.out; omega)
      · rw [if_neg h0] at he
        have hb0 : ((em : Int) == 0) = false := by rw [eqN]; simp [h0]
        have HE := hid he
        clear he h0
        have HCW := hid hcw
        go_wp2_with fail
        refine bodyPost_ret (v := .agg #[.int .i64 0, .int .i64 0, .int .i64 0]) (by simp [results, Tryz.results71, go_sem, cellSet, c0, c1, c2]) rfl ?_
        have hfn : Fr [C] wr _ := (((Fr.refl [C] wr).setB 0 (.int .i64 0)).setB 1 (.int .i64 0)).setB 2 (.int .i64 0)
        refine hK.out _ _ ⟨by rw [HE.out]; rfl, ⟨sl', HCK.out.fr hfn (by simp; have := HLT.out; omega)⟩, ?_⟩
        exact (((HF0.out.mono (by simp)).trans HF.out)).trans2 hfn (fun x hx hlt => by rw [List.mem_singleton] at hx; have := HCC.out; omega)
    | cons r e =>
      rw [followK_cons] at he
      rw [flatOf_cons, List.length_append] at hlen
      have hfl : 0 < (flatRow r).length := by unfold flatRow; simp; omega
      have hkn : (k : Int) < n := by omega
      have hdrop : (flatOf rs).drop k = flatRow r ++ flatOf e := by rw [hrs, flatOf_app, flatOf_cons, ← hk, List.drop_left]
      have hcr : checkClause r.2 = 0 := HC.out r (by rw [hrs]; simp)
      have hrd := read_any ((HV.out).fr hf (fun g hg hm => by rw [List.mem_singleton] at hm; exact HVB.out g hg hm)) (by rw [HN.out]; exact hb) hdrop hcr
      obtain ⟨k2, hk2⟩ : ∃ k2, k + (flatRow r).length = k2 := ⟨_, rfl⟩
      have hturn := fun w2 (h2 : CkAt w2 b q sl') => turn_any h2 r hcr (k2 : Int)
      rw [hk2] at hrd
      obtain ⟨te, ts, ht⟩ : ∃ a b, turnK sl' r = (a, b) := ⟨_, _, rfl⟩
      rw [ht] at he hturn
      simp only [] at he hturn
      have HRD := hid hrd
      have HTURN := hid hturn
      have HCK := hid hck
      have HF := hid hf
      have HRS := hid hrs
      have HK0 := hid hk
      have HK2 := hid hk2
      have HLEN := hid hlen
      have HG := hid hg
      have HCW := hid hcw
      have HDL := hid hdl
      clear hrd hturn hck hf hrs hk hk2 hdrop hcr hlen hfl hg hcw ht hdl
      by_cases h0 : te = 0
      · rw [if_pos h0] at he
        subst h0
        have HE := hid he
        clear he
        go_wp2_with (first
          | (go_at_call 101; refine HRD.out.mono ?_; rintro e' w2 ⟨rfl, hfr⟩; obtain ⟨D, hD⟩ : ∃ D, w2.heap.size = D := ⟨_, rfl⟩; have hD0 := CellsAt.mk_alloc w2 [.int .u16 (posB r.2 : Nat), .int .u16 (negB r.2 : Nat), .bool r.1, .int .i64 (k2 : Nat)] 164; obtain ⟨w3, hw3⟩ : ∃ w3, w2.alloc (Obj.cells #[.int .u16 (posB r.2 : Nat), .int .u16 (negB r.2 : Nat), .bool r.1, .int .i64 (k2 : Nat)] 164) = w3 := ⟨_, rfl⟩; change CellsAt (w2.alloc (Obj.cells #[.int .u16 (posB r.2 : Nat), .int .u16 (negB r.2 : Nat), .bool r.1, .int .i64 (k2 : Nat)] 164)) w2.heap.size _ at hD0; rw [hw3, hD] at hD0; have hf3 : Fr [] wr w3 := hfr.trans (by rw [← hw3]; exact (Fr.refl _ _).alloc _); have HCK2 := hid (HCK.out.fr hf3 (by simp)); have HF3 := hid hf3; have HD0 := hid hD0; have d00 := hD0.c 0 _ rfl; have d01 := hD0.c 1 _ rfl; have d02 := hD0.c 2 _ rfl; have d03 := hD0.c 3 _ rfl; have dz := hD0.fz; have HDB := hid (show D ≠ b by have := HCK.out.lt; have := hfr.size; omega); clear hfr hf3 hD0)
          | (go_at_call 103; refine (HTURN.out _ HCK2.out).mono ?_; rintro e' w4 ⟨rfl, hck4, hf4⟩; have HCK4 := hid hck4; have HF4 := hid hf4; have HD4 := hid (HD0.out.fr hf4 (by simp; exact HDB.out) (by simp)); have d43 := HD4.out.c 3 _ rfl; have HC4 := hid ((HCW.out.fr HF3.out (by simp) (by simp)).fr hf4 (by simp; have := HLT.out; omega) (by simp)); clear hck4 hf4))
        go_roundg e.length
        case measure => rw [HG.out]; simp
        case rel =>
          refine ⟨dn ++ [r], e, ts, by rw [HRS.out]; simp, rfl, ?_, ?_, HCK4.out, (HF.out.trans (HF3.out.mono (by simp))).trans HF4.out, ?_⟩
          · rw [flatOf_app, List.length_append, HK0.out, ← HK2.out]; simp [flatOf]
          · rw [List.length_append, HDL.out]; simp
          · rw [List.length_append, HDL.out]; exact HE.out
      · rw [if_neg h0] at he
        have hb0 : ((te : Int) != 0) = true := by rw [neN]; simp [h0]
        have HE := hid he
        clear he h0
        go_wp2_with (first
          | (go_at_call 101; refine HRD.out.mono ?_; rintro e' w2 ⟨rfl, hfr⟩; obtain ⟨D, hD⟩ : ∃ D, w2.heap.size = D := ⟨_, rfl⟩; have hD0 := CellsAt.mk_alloc w2 [.int .u16 (posB r.2 : Nat), .int .u16 (negB r.2 : Nat), .bool r.1, .int .i64 (k2 : Nat)] 164; obtain ⟨w3, hw3⟩ : ∃ w3, w2.alloc (Obj.cells #[.int .u16 (posB r.2 : Nat), .int .u16 (negB r.2 : Nat), .bool r.1, .int .i64 (k2 : Nat)] 164) = w3 := ⟨_, rfl⟩; change CellsAt (w2.alloc (Obj.cells #[.int .u16 (posB r.2 : Nat), .int .u16 (negB r.2 : Nat), .bool r.1, .int .i64 (k2 : Nat)] 164)) w2.heap.size _ at hD0; rw [hw3, hD] at hD0; have hf3 : Fr [] wr w3 := hfr.trans (by rw [← hw3]; exact (Fr.refl _ _).alloc _); have HCK2 := hid (HCK.out.fr hf3 (by simp)); have HF3 := hid hf3; have HD0 := hid hD0; have d00 := hD0.c 0 _ rfl; have d01 := hD0.c 1 _ rfl; have d02 := hD0.c 2 _ rfl; have d03 := hD0.c 3 _ rfl; have dz := hD0.fz; have HDB := hid (show D ≠ b by have := HCK.out.lt; have := hfr.size; omega); clear hfr hf3 hD0)
          | (go_at_call 103; refine (HTURN.out _ HCK2.out).mono ?_; rintro e' w4 ⟨rfl, hck4, hf4⟩; have HCK4 := hid hck4; have HF4 := hid hf4; have HD4 := hid (HD0.out.fr hf4 (by simp; exact HDB.out) (by simp)); have d43 := HD4.out.c 3 _ rfl; have HC4 := hid ((HCW.out.fr HF3.out (by simp) (by simp)).fr hf4 (by simp; have := HLT.out; omega) (by simp)); clear hck4 hf4)
          | (go_at_call 67; refine (refused_any _ _ _ _).mono ?_; rintro e' w5 ⟨rfl, hf5⟩; have HF5 := hid hf5; have hc5 := HC4.out.fr hf5 (by simp) (by simp); have c50 := hc5.c 0 _ rfl; have c51 := hc5.c 1 _ rfl; have c52 := hc5.c 2 _ rfl; have cz5 := hc5.fz; clear hf5 hc5))
        refine bodyPost_ret (v := .agg #[.int .i64 (te : Nat), .int .i64 2, .int .i64 (dl : Nat)]) (by simp [results, Tryz.results71, go_sem, cellSet, c50, c51, c52]) rfl ?_
        have hfn : Fr [C] w4 _ := (((HF5.out.mono (by simp)).setB 0 (.int .i64 (te : Nat))).setB 1 (.int .i64 2)).setB 2 (.int .i64 (dl : Nat))
        refine hK.out _ _ ⟨by rw [HE.out]; rfl, ⟨ts, HCK4.out.fr hfn (by simp; have := HLT.out; omega)⟩, ?_⟩
        exact (((HF0.out.mono (by simp)).trans HF.out).trans ((HF3.out.mono (by simp)).trans HF4.out)).trans2 hfn (fun x hx hlt => by rw [List.mem_singleton] at hx; have := HCC.out; omega)
end Go.Proofs.Qxb6500354aGreat
