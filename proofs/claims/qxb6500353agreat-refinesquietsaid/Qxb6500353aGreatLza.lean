/- The matcher: wipe, enter, enterAll, span, walked. -/
import Derived.Test.Qxb6500353aGreatHsw
import Derived.Test.Qxb6500353aGreatObj2
import Derived.Test.Qxb6500353aGreatHpw
namespace Go.Proofs.Qxb6500353aGreat
open Go.RowKit
set_option linter.unusedVariables false
set_option linter.unusedSimpArgs false

theorem MtAt.congrH {w : World} {b : Nat} {R : MtR} (h : MtAt w b R) {f : Nat → Int} (e : ∀ i, i < 64 → R.head i = f i) : MtAt w b { R with head := f } :=
  ⟨h.p_head, h.p_prev, h.p_toks, h.c_n, h.c_probes, h.a_head.congr e, h.a_prev, h.a_toks, h.fz⟩
set_option maxRecDepth 100000 in
theorem mtwipe_any {w : World} {b : Nat} {R : MtR} (h : MtAt w b R) : Calls Tryz.prog 23 #[ptrV b] w fun e w' => e = .returned (.tuple #[]) ∧ MtAt w' b { R with head := fun _ => -1 } ∧ Fr (One (b + 1)) w w' := by
  have H := hid h
  clear h
  refine calls_via fun K hK => ?_
  unfold ptrV
  go_enter Tryz.func23, Tryz.ntmps23
  go_wp2_with fail
  go_loopg [2] 64 (fun g i wr => ∃ k : Nat, i = .int .i64 (k : Nat) ∧ g + k = 64 ∧ MtAt wr b { R with head := fun j => if j < k then -1 else R.head j } ∧ Fr (One (b + 1)) w wr)
  case atStart => exact ⟨0, rfl, by omega, H.out.congrH (fun i _ => by simp), Fr.refl _ _⟩
  case round =>
    obtain ⟨k, rfl, hg, hA, hf⟩ := hrel
    have c0 := hA.p_head
    have cf : ∀ i, wr.frozen? ⟨b + 1, i, none⟩ = false := hA.a_head.thaw
    have HA := hid hA
    have HF := hid hf
    by_cases hlt : k < 64
    · have hki : (k : Int) < 64 := by omega
      have cb := hA.a_head.cell k (by omega)
      simp only [mkI] at cb
      clear hA hf
      go_wp2_with fail
      go_roundg (gk - 1)
      case measure => omega
      case rel =>
        refine ⟨k + 1, by simp, by omega, (HA.out.set_head k (-1)).congrH fun i _ => ?_, HF.out.set1 _ _⟩
        unfold upd
        dsimp only
        by_cases e : i = k
        · subst e; simp
        · by_cases e2 : i < k
          · rw [if_neg e, if_pos e2, if_pos (by omega)]
          · rw [if_neg e, if_neg e2, if_neg (by omega)]
    · have hki : ¬ (k : Int) < 64 := by omega
      clear hA hf
      go_wp2_with fail
      go_end0
      refine hK.out _ _ ⟨rfl, HA.out.congrH fun i hi => ?_, HF.out⟩
      simp only []
      rw [if_pos (by omega)]

def enterF (s : List Nat) (p : Nat) (R : MtR) : MtR :=
  if p + 3 ≤ s.length then { R with head := upd R.head (hashF s p) p, prev := upd R.prev (p % 16) (R.head (hashF s p)) } else R
def enterS (s : List Nat) (i : Nat) (R : MtR) : Nat → MtR
  | 0 => R
  | n + 1 => enterF s (i + n) (enterS s i R n)
def MtB (b : Nat) : Nat → Prop := Rng b (b + 4)
set_option maxRecDepth 100000 in
set_option maxHeartbeats 1000000 in
theorem enter_any {w : World} {b : Nat} {R : MtR} (h : MtAt w b R) {s : ByteArray} {p : Nat} (hs : s.size ≤ 1000000) (hp : p ≤ 2000000) : Calls Tryz.prog 149 #[ptrV b, .string s, .int .i64 p] w fun e w' => e = .returned (.tuple #[]) ∧ MtAt w' b (enterF (bytesOf s) p R) ∧ Fr (Rng b (b + 4)) w w' := by
  have H := hid h
  by_cases h3 : p + 3 ≤ s.size
  · have e1 : enterF (bytesOf s) p R = { R with head := upd R.head (hashF (bytesOf s) p) p, prev := upd R.prev (p % 16) (R.head (hashF (bytesOf s) p)) } := by unfold enterF; rw [bytesOf_len, if_pos h3]
    have HH := hid (fun w => hash_any (w := w) h3 hs)
    have hx64 := hashF_lt (bytesOf s) p
    obtain ⟨x, hx⟩ : ∃ x, x = hashF (bytesOf s) p := ⟨_, rfl⟩
    rw [← hx] at HH hx64 e1
    have E1 := hid e1
    have c0 := h.p_head
    have c1 := h.p_prev
    have ch := h.a_head.cell x hx64
    have cp := h.a_prev.cell (p % 16) (by omega)
    have zf1 : ∀ i, w.frozen? ⟨b + 1, i, none⟩ = false := h.a_head.thaw
    have zf2 : ∀ i, w.frozen? ⟨b + 2, i, none⟩ = false := h.a_prev.thaw
    simp only [mkI] at ch cp
    have e2 : bits .and .i64 (p : Int) 15 = ((p % 16 : Nat) : Int) := mask15 (by omega)
    obtain ⟨q, hq⟩ : ∃ q, q = p % 16 := ⟨_, rfl⟩
    rw [← hq] at cp e2
    have HQ := hid hq
    have hq16 : (q : Int) < 16 := by omega
    have hxi : (x : Int) < 64 := by omega
    have h3i : ¬ ((s.size : Int) < (p : Int) + 3) := by omega
    have hpi : (p : Int) ≤ 2000000 := by omega
    obtain ⟨y, hy⟩ : ∃ y, y = R.head x := ⟨_, rfl⟩
    rw [← hy] at ch
    have HY := hid hy
    clear h hx e1 hq hy h3
    refine calls_via fun K hK => ?_
    unfold ptrV
    go_enter Tryz.func149, Tryz.ntmps149
    go_wp2_with (go_at_call 171; refine (HH.out _).mono ?_; rintro e w' ⟨rfl, hw⟩; have hw2 := hw; subst hw2; clear hw)
    go_region
    go_wp2_with fail
    go_end0
    refine hK.out _ _ ⟨rfl, ?_, ?_⟩
    · rw [E1.out, ← HQ.out, ← HY.out]
      exact ((H.out.set_prev q y).drew).set_head x p
    · have s1 : Rng b (b + 4) (b + 1) := ⟨by omega, by omega⟩
      have s2 : Rng b (b + 4) (b + 2) := ⟨by omega, by omega⟩
      repeat (first | with_reducible exact Fr.refl _ _ | with_reducible refine Fr.drew ?_ | with_reducible refine Fr.setS s1 ?_ _ _ | with_reducible refine Fr.setS s2 ?_ _ _)
  · have e1 : enterF (bytesOf s) p R = R := by unfold enterF; rw [bytesOf_len, if_neg h3]
    rw [e1]
    have h3i : (s.size : Int) < (p : Int) + 3 := by omega
    have hpi : (p : Int) ≤ 2000000 := by omega
    clear h h3 e1
    refine calls_via fun K hK => ?_
    unfold ptrV
    go_enter Tryz.func149, Tryz.ntmps149
    go_wp2_with fail
    go_end0
    exact hK.out _ _ ⟨rfl, H.out, Fr.refl _ _⟩
set_option maxRecDepth 100000 in
theorem enterAll_any {w : World} {b : Nat} {R : MtR} (h : MtAt w b R) {s : ByteArray} {i n : Nat} (hs : s.size ≤ 1000000) (hp : i + n ≤ 2000000) : Calls Tryz.prog 148 #[ptrV b, .string s, .int .i64 i, .int .i64 ((i + n : Nat) : Int)] w fun e w' => e = .returned (.tuple #[]) ∧ MtAt w' b (enterS (bytesOf s) i R n) ∧ Fr (Rng b (b + 4)) w w' := by
  have H := hid h
  have HP := hid hp
  obtain ⟨t, ht⟩ : ∃ t, t = i + n := ⟨_, rfl⟩
  have HT := hid ht
  rw [← ht]
  have hti : (t : Int) ≤ 2000000 := by omega
  clear h hp ht
  refine calls_via fun K hK => ?_
  unfold ptrV
  go_enter Tryz.func148, Tryz.ntmps148
  go_wp2_with fail
  go_loopg [8] n (fun g v wr => ∃ k p : Nat, v = .int .i64 (p : Nat) ∧ p = i + k ∧ g + k = n ∧ MtAt wr b (enterS (bytesOf s) i R k) ∧ Fr (Rng b (b + 4)) w wr)
  case atStart => exact ⟨0, i, rfl, rfl, by omega, H.out, Fr.refl _ _⟩
  case round =>
    obtain ⟨k, p, rfl, hpk, hg, hA, hf⟩ := hrel
    have HPK := hid hpk
    have HF := hid hf
    by_cases hlt : p < t
    · have hlti : (p : Int) < t := by omega
      have HE := hid (enter_any hA hs (p := p) (by omega))
      unfold ptrV at HE
      clear hA hf hpk
      go_wp2_with (go_at_call 149; refine HE.out.mono ?_; rintro e w2 ⟨rfl, h2, hf2⟩; have H2 := hid h2; have HF2 := hid hf2; clear h2 hf2)
      go_roundg (gk - 1)
      case measure => have := HPK.out; have := HT.out; omega
      case rel =>
        refine ⟨k + 1, p + 1, by simp, by have := HPK.out; omega, by have := HPK.out; have := HT.out; omega, ?_, HF.out.trans2 HF2.out (fun x hx _ => hx)⟩
        show MtAt w2 b (enterF (bytesOf s) (i + k) (enterS (bytesOf s) i R k))
        rw [← HPK.out]; exact H2.out
    · have hlti : ¬ (p : Int) < t := by omega
      have hk : k = n := by have := HT.out; omega
      subst hk
      have HA := hid hA
      clear hA hf hpk
      go_wp2_with fail
      go_end0
      exact hK.out _ _ ⟨rfl, HA.out, HF.out⟩
end Go.Proofs.Qxb6500353aGreat
