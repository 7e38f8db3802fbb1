/- THE WALKS over check: load, follow. -/
import Derived.Test.Qxb6500354aGreatChk7
namespace Go.Proofs.Qxb6500354aGreat
open Go.RowKit
set_option linter.unusedVariables false
set_option linter.unusedSimpArgs false

theorem read_any {w : World} {v : Value} {f : List Int} (h : Ints w v f) (hb : f.length ≤ 1099511627776) {a : Nat} {r : Bool × List Int} {rest : List Int} (hf : f.drop a = flatRow r ++ rest) (hc : checkClause r.2 = 0) :
    Calls Tryz.prog 101 #[v, .int .i64 (a : Nat)] w fun e w' => e = .returned (.agg #[.int .u16 (posB r.2 : Nat), .int .u16 (negB r.2 : Nat), .bool r.1, .int .i64 ((a + (flatRow r).length : Nat) : Int)]) ∧ Fr [] w w' := by
  have hr := RowAt.of hf hc
  obtain ⟨d, c⟩ := r
  cases d with
  | true =>
    have := read_true h hb (c := c) hr hc
    rw [show a + (flatRow (true, c)).length = a + 1 + c.length + 1 from by simp [flatRow]; omega]
    exact this
  | false =>
    have := read_false h hb (c := c) hr hc
    rw [show a + (flatRow (false, c)).length = a + 0 + c.length + 1 from by simp [flatRow]; omega]
    exact this
theorem flatOf_app (a b : List (Bool × List Int)) : flatOf (a ++ b) = flatOf a ++ flatOf b := by simp [flatOf]
theorem flatOf_cons (r : Bool × List Int) (b : List (Bool × List Int)) : flatOf (r :: b) = flatRow r ++ flatOf b := by simp [flatOf]
theorem flatOf_ge (rs : List (Bool × List Int)) : rs.length ≤ (flatOf rs).length := by
  induction rs with
  | nil => simp
  | cons r t ih =>
    have h : 0 < (flatRow r).length := by unfold flatRow; simp; omega
    rw [flatOf_cons, List.length_append, List.length_cons]; omega
theorem putK_some {sl : Slots} {s : Nat} {c : List Int} (h : lowF sl 64 0 = some s) : putK sl c = upd sl s (some c) := by unfold putK; rw [h]
def loadK (cs : List (Bool × List Int)) (sl : Slots) : Slots := cs.foldl (fun s r => putK s r.2) sl
set_option maxRecDepth 100000 in
set_option maxHeartbeats 8000000 in
theorem cload_any {w : World} {b q : Nat} {sl : Slots} (h : CkAt w b q sl) {v : Value} {rs : List (Bool × List Int)} (hv : Ints w v (flatOf rs)) (hb : (flatOf rs).length ≤ 1099511627776) (hc : ∀ r ∈ rs, checkClause r.2 = 0)
    (hroom : ∀ d c e, rs = d ++ c :: e → (lowF (loadK d sl) 64 0).isSome = true) (hvb : ∀ g, v.ownBlock = some g → g ≠ b) :
    Calls Tryz.prog 70 #[.pointer (some ⟨b, 0, none⟩), v] w fun e w' => e = .returned (.tuple #[]) ∧ CkAt w' b q (loadK rs sl) ∧ Fr [b] w w' := by
  obtain ⟨va, cap, hea⟩ := hv.len
  subst hea
  obtain ⟨n, hn⟩ : ∃ n, (flatOf rs).length = n := ⟨_, rfl⟩
  rw [hn] at hv hb hvb ⊢
  have hlt0 := h.lt
  have HH := hid h
  have HV := hid hv
  have HN := hid hn
  have HC := hid hc
  have HROOM := hid hroom
  have HVB := hid hvb
  have HLT := hid hlt0
  clear h hv hn hc hroom hvb hlt0
  refine calls_via fun K hK => ?_
  go_enter Tryz.func70, Tryz.ntmps70
  obtain ⟨rl, hrl⟩ : ∃ x, rs.length = x := ⟨_, rfl⟩
  have HRL := hid hrl
  clear hrl
  go_wp2_with fail
  go_loopg [4] rl (fun g at' wr => ∃ dn rest, rs = dn ++ rest ∧ g = rest.length ∧ at' = .int .i64 (((flatOf dn).length : Nat) : Int) ∧ CkAt wr b q (loadK dn sl) ∧ Fr [b] w wr)
  case atStart => exact ⟨[], rs, rfl, HRL.out.symm, rfl, HH.out, Fr.refl _ _⟩
  case round =>
    obtain ⟨dn, rest, hrs, hg, rfl, hck, hf⟩ := hrel
    obtain ⟨k, hk⟩ : ∃ k, (flatOf dn).length = k := ⟨_, rfl⟩
    rw [hk]
    have hlen : n = k + (flatOf rest).length := by rw [← HN.out, hrs, flatOf_app, List.length_append, hk]
    cases rest with
    | nil =>
      have hkn : k = n := by rw [hlen]; simp [flatOf]
      subst hkn
      have HCK := hid hck
      have HF := hid hf
      have HRS := hid hrs
      clear hlen hck hf hrs hk hg
      go_wp2_with fail
      try go_end0
      refine hK.out _ _ ⟨rfl, ?_, HF.out⟩
      rw [HRS.out, List.append_nil]; exact HCK.out
    | cons r e =>
      rw [flatOf_cons, List.length_append] at hlen
      have hfl : 0 < (flatRow r).length := by unfold flatRow; simp; omega
      have hkn : (k : Int) < n := by omega
      have hdrop : (flatOf rs).drop k = flatRow r ++ flatOf e := by rw [hrs, flatOf_app, flatOf_cons, ← hk, List.drop_left]
      have hcr : checkClause r.2 = 0 := HC.out r (by rw [hrs]; simp)
      have hrd := read_any ((HV.out).fr hf (fun g hg hm => by rw [List.mem_singleton] at hm; exact HVB.out g hg hm)) (by rw [HN.out]; exact hb) hdrop hcr
      have hlow := HROOM.out dn r e hrs
      obtain ⟨s, hs⟩ := Option.isSome_iff_exists.1 hlow
      have hput := fun w2 (h2 : CkAt w2 b q (loadK dn sl)) => put_any h2 hcr hs
      obtain ⟨k2, hk2⟩ : ∃ k2, k + (flatRow r).length = k2 := ⟨_, rfl⟩
      rw [hk2] at hrd
      have HRD := hid hrd
      have HPUT := hid hput
      have HCK := hid hck
      have HF := hid hf
      have HRS := hid hrs
      have HK0 := hid hk
      have HK2 := hid hk2
      have HS := hid hs
      have HLEN := hid hlen
      have HG := hid hg
      clear hrd hput hck hf hrs hk hk2 hs hlow hdrop hcr hlen hfl hg
      go_wp2_with (first
        | (go_at_call 101; refine HRD.out.mono ?_; rintro e' w2 ⟨rfl, hfr⟩; obtain ⟨D, hD⟩ : ∃ D, w2.heap.size = D := ⟨_, rfl⟩; have hD0 := CellsAt.mk_alloc w2 [.int .u16 (posB r.2 : Nat), .int .u16 (negB r.2 : Nat), .bool r.1, .int .i64 (k2 : Nat)] 164; obtain ⟨w3, hw3⟩ : ∃ w3, w2.alloc (Obj.cells #[.int .u16 (posB r.2 : Nat), .int .u16 (negB r.2 : Nat), .bool r.1, .int .i64 (k2 : Nat)] 164) = w3 := ⟨_, rfl⟩; change CellsAt (w2.alloc (Obj.cells #[.int .u16 (posB r.2 : Nat), .int .u16 (negB r.2 : Nat), .bool r.1, .int .i64 (k2 : Nat)] 164)) w2.heap.size _ at hD0; rw [hw3, hD] at hD0; have hf3 : Fr [] wr w3 := hfr.trans (by rw [← hw3]; exact (Fr.refl _ _).alloc _); have HCK2 := hid (HCK.out.fr hf3 (by simp)); have HF3 := hid hf3; have HD0 := hid hD0; have d00 := hD0.c 0 _ rfl; have d01 := hD0.c 1 _ rfl; have d03 := hD0.c 3 _ rfl; have dz := hD0.fz; have HDB := hid (show D ≠ b by have := HCK.out.lt; have := hfr.size; omega); clear hfr hf3 hD0)
        | (go_at_call 102; refine (HPUT.out _ HCK2.out).mono ?_; rintro e' w4 ⟨rfl, hck4, hf4⟩; have HCK4 := hid hck4; have HF4 := hid hf4; have HD4 := hid (HD0.out.fr hf4 (by simp; exact HDB.out) (by simp)); have d43 := HD4.out.c 3 _ rfl; clear hck4 hf4))
      go_roundg e.length
      case measure => rw [HG.out]; simp
      case rel =>
        refine ⟨dn ++ [r], e, by rw [HRS.out]; simp, rfl, ?_, ?_, (HF.out.trans (HF3.out.mono (by simp))).trans HF4.out⟩
        · rw [flatOf_app, List.length_append, HK0.out, ← HK2.out]; simp [flatOf]
        · rw [show loadK (dn ++ [r]) sl = upd (loadK dn sl) s (some r.2) from by
            unfold loadK; rw [List.foldl_append]; exact putK_some HS.out]
          exact HCK4.out

set_option maxRecDepth 100000 in
theorem refused_any (e wh at' : Int) (w : World) :
    Calls Tryz.prog 67 #[.int .i64 e, .int .i64 wh, .int .i64 at'] w fun x w' => x = .returned (.agg #[.int .i64 e, .int .i64 wh, .int .i64 at']) ∧ Fr [] w w' := by
  obtain ⟨C, hC⟩ : ∃ N, w.heap.size = N := ⟨_, rfl⟩
  have hC0 := CellsAt.mk_alloc w [.int .i64 0, .int .i64 0, .int .i64 0] 48
  obtain ⟨w0, hw0⟩ : ∃ w0, w.alloc (Obj.cells #[.int .i64 0, .int .i64 0, .int .i64 0] 48) = w0 := ⟨_, rfl⟩
  change CellsAt (w.alloc (Obj.cells #[.int .i64 0, .int .i64 0, .int .i64 0] 48)) w.heap.size _ at hC0
  rw [hw0, hC] at hC0
  have hf0 : Fr [] w w0 := by rw [← hw0]; exact (Fr.refl _ _).alloc _
  have HF0 := hid hf0
  have HCC := hid hC
  have c0 := hC0.c 0 _ rfl
  have c1 := hC0.c 1 _ rfl
  have c2 := hC0.c 2 _ rfl
  have cz := hC0.fz
  clear hC0 hf0
  refine calls_via fun K hK => ?_
  go_enter Tryz.func67, Tryz.ntmps67
  go_wp2_with fail
  refine bodyPost_ret (v := .agg #[.int .i64 e, .int .i64 wh, .int .i64 at']) (by simp [results, Tryz.results67, go_sem, cellSet, c0, c1, c2]) rfl ?_
  exact hK.out _ _ ⟨rfl, fr_new HF0.out HCC.out (Nat.le_refl _) ((((Fr.refl [C] _).setB 0 _).setB 1 _).setB 2 _)⟩
end Go.Proofs.Qxb6500354aGreat
