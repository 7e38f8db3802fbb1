/- The encoder: item (laying), stored, fixed, sym, walked. -/
import Derived.Test.Qxb6500353aGreatBkc
namespace Go.Proofs.Qxb6500353aGreat
open Go.RowKit
set_option linter.unusedVariables false
set_option linter.unusedSimpArgs false

theorem Enc.put {w : World} {t a b z p : Nat} {T : Tp} {RA RB : CdR} {RZ : MtR} {R : PkR} (h : Enc w t a b z p T RA RB RZ R) {v k : Nat} (kI : Int) (hkI : kI = k) (hk : k ≤ 16) (hv : v < 2 ^ k) (hn : T.n + k ≤ 4096) :
    Calls Tryz.prog 90 #[.pointer (some ⟨t + 1, 0, none⟩), .int .i64 v, .int .i64 kI] w fun e w' => e = .returned (.int .i64 0) ∧ Enc w' t a b z p (T.put v k) RA RB RZ R ∧ Fr (Rng t (p + 5)) w w' := by
  subst hkI
  have l1 := h.l1; have l2 := h.l2; have l3 := h.l3; have l4 := h.l4
  refine (put_any h.tape v k hk hv hn).mono ?_
  rintro e w' ⟨rfl, h1, h2⟩
  exact ⟨rfl, h.onT h2 h1, h.wide h2 (by omega) (by omega)⟩
theorem Enc.ptr {w : World} {t a b z p : Nat} {T : Tp} {RA RB : CdR} {RZ : MtR} {R : PkR} (h : Enc w t a b z p T RA RB RZ R) : w.cell? ⟨p, 0, none⟩ = some (.pointer (some ⟨t + 1, 0, none⟩)) := by
  have := h.pk.c_t; rw [h.et] at this; exact this
theorem put_nil (T : Tp) : T.put 0 0 = T := by unfold Tp.put; simp
set_option maxRecDepth 100000 in
theorem item_yes {w : World} {t a b z p : Nat} {T : Tp} {RA RB : CdR} {RZ : MtR} {R : PkR} (h : Enc w t a b z p T RA RB RZ R) {x v more : Nat} (hx : x < 16) (hv : v < 2 ^ more) (hm : more ≤ 7) (h0 : more = 0 → v = 0) (hf : T.n + 4 + more ≤ 4096) :
    Calls Tryz.prog 153 #[ptrV p, .int .i64 x, .int .i64 v, .int .i64 more, .bool true] w fun e w' => e = .returned (.int .i64 ((4 + more : Nat) : Int)) ∧ Enc w' t a b z p ((T.put x 4).put v more) RA RB RZ R ∧ Fr (Rng t (p + 5)) w w' := by
  have c0 := h.ptr
  have hmi : (more : Int) ≤ 7 := by omega
  have HP1 := hid (h.put (v := x) (k := 4) 4 rfl (by omega) hx (by omega))
  have HP2 := hid (fun w2 (h2 : Enc w2 t a b z p (T.put x 4) RA RB RZ R) => h2.put (v := v) (k := more) more rfl (by omega) hv (by show T.n + 4 + more ≤ 4096; exact hf))
  clear h hx hv hf
  refine calls_via fun K hK => ?_
  unfold ptrV
  by_cases hm0 : more = 0
  · obtain rfl := hm0
    obtain rfl := h0 rfl
    go_enter Tryz.func153, Tryz.ntmps153
    go_wp2_with (go_at_call 90; refine HP1.out.mono ?_; rintro e w2 ⟨rfl, h2, hf2⟩; have H2 := hid h2; have HF2 := hid hf2; clear h2 hf2)
    exact hK.out _ _ ⟨rfl, (put_nil (T.put x 4)).symm ▸ H2.out, HF2.out⟩
  · have hmp : (0 : Int) < more := by omega
    go_enter Tryz.func153, Tryz.ntmps153
    go_wp2_with fail
    refine HP1.out.mono ?_
    rintro e w2 ⟨rfl, h2, hf2⟩
    have H2 := hid h2
    have HF2 := hid hf2
    have c2 := h2.ptr
    clear h2 hf2
    go_wp2_with fail
    refine (HP2.out _ H2.out).mono ?_
    rintro e w3 ⟨rfl, h3, hf3⟩
    have H3 := hid h3
    have HF3 := hid hf3
    clear h3 hf3
    go_wp2_with fail
    exact hK.out _ _ ⟨ret_int (by simp), H3.out, HF2.out.trans HF3.out⟩
theorem puts_item (T : Tp) (its : List Item) (it : Item) : puts T ((its ++ [it]).flatMap itemPuts) = ((puts T (its.flatMap itemPuts)).put it.x 4).put it.v it.more := by
  rw [List.flatMap_append, puts_append]
  simp [itemPuts, puts]
theorem layYes {w : World} {t a b z p : Nat} {T : Tp} {RA RB : CdR} {RZ : MtR} {R : PkR} (h : Enc w t a b z p T RA RB RZ R) :
    LayP p R true (fun w2 its => Enc w2 t a b z p (puts T (its.flatMap itemPuts)) RA RB RZ R ∧ Fr (Rng t (p + 5)) w w2) (fun its => T.n + putBits (its.flatMap itemPuts) ≤ 4096) := by
  refine ⟨fun w2 its e => e.1.pk, fun w2 its it e0 hf hx hv hm h0 => ?_, fun x y hf => ?_⟩
  · have hn : (puts T (its.flatMap itemPuts)).n + 4 + it.more ≤ 4096 := by
      rw [puts_eq]
      rw [List.flatMap_append, putBits_append] at hf
      simp [itemPuts, putBits] at hf ⊢
      omega
    refine (item_yes e0.1 hx hv hm h0 hn).mono ?_
    rintro e w' ⟨rfl, h2, hf2⟩
    exact ⟨rfl, by rw [puts_item]; exact h2, e0.2.trans hf2⟩
  · rw [List.flatMap_append, putBits_append] at hf; omega
theorem Enc.pad {w : World} {t a b z p : Nat} {T : Tp} {RA RB : CdR} {RZ : MtR} {R : PkR} (h : Enc w t a b z p T RA RB RZ R) :
    Calls Tryz.prog 123 #[.pointer (some ⟨t + 1, 0, none⟩)] w fun e w' => e = .returned (.tuple #[]) ∧ Enc w' t a b z p T.pad RA RB RZ R ∧ Fr (Rng t (p + 5)) w w' := by
  have l1 := h.l1; have l2 := h.l2; have l3 := h.l3; have l4 := h.l4
  refine (pad_any h.tape).mono ?_
  rintro e w' ⟨rfl, h1, h2⟩
  have h3 : Fr (Rng t (t + 2)) w w' := h2.mono fun x hx _ => by unfold One at hx; subst hx; exact (show t ≤ t + 1 ∧ t + 1 < t + 2 by omega)
  exact ⟨rfl, h.onT h3 h1, h.wide h3 (by omega) (by omega)⟩
theorem bytes_puts (l : List Nat) : putBits (l.map fun b => (b, 8)) = 8 * l.length := by
  induction l with
  | nil => rfl
  | cons x l ih => simp only [putBits, List.map_cons, List.sum_cons, List.length_cons] at *; rw [ih]; omega
set_option maxRecDepth 100000 in
set_option maxHeartbeats 1000000 in
theorem bstored_any {w : World} {t a b z p : Nat} {T : Tp} {RA RB : CdR} {RZ : MtR} {R : PkR} (h : Enc w t a b z p T RA RB RZ R) {s : ByteArray} (hs : s.size ≤ 256) (hf : T.pad.n + 16 + 8 * s.size ≤ 4096) :
    Calls Tryz.prog 91 #[ptrV p, .string s] w fun e w' => e = .returned (.tuple #[]) ∧ Enc w' t a b z p (puts T.pad (stoPuts (bytesOf s))) RA RB RZ R ∧ Fr (Rng t (p + 5)) w w' := by
  have c0 := h.ptr
  have hsi : (s.size : Int) ≤ 256 := by omega
  have HP1 := hid h.pad
  have HP2 := hid (fun w2 (h2 : Enc w2 t a b z p T.pad RA RB RZ R) => h2.put (v := s.size) (k := 16) 16 rfl (by omega) (Nat.lt_of_le_of_lt hs (by decide)) (by omega))
  have HE : Hid (puts T.pad (stoPuts (bytesOf s)) = puts (T.pad.put s.size 16) ((bytesOf s).map fun b => (b, 8))) := hid (by
    unfold stoPuts puts; rw [List.foldl_cons, bytesOf_len])
  obtain ⟨T1, hT1⟩ : ∃ T1, T1 = T.pad.put s.size 16 := ⟨_, rfl⟩
  have hn1 : T1.n + 8 * s.size ≤ 4096 := by rw [hT1]; exact hf
  rw [← hT1] at HE HP2
  have HN1 := hid hn1
  clear h hf hT1 hn1
  refine calls_via fun K hK => ?_
  unfold ptrV
  go_enter Tryz.func91, Tryz.ntmps91
  go_wp2_with (first
    | (go_at_call 123; refine HP1.out.mono ?_; rintro e w2 ⟨rfl, h2, hf2⟩; have H2 := hid h2; have HF2 := hid hf2; have c2 := h2.ptr; clear h2 hf2)
    | (go_at_call 90; refine (HP2.out _ H2.out).mono ?_; rintro e w3 ⟨rfl, h3, hf3⟩; have H3 := hid h3; have HF3 := hid (HF2.out.trans hf3); clear h3 hf3))
  go_loopg [4] s.size (fun g v wr => ∃ k : Nat, v = .int .i64 (k : Nat) ∧ g + k = s.size ∧ Enc wr t a b z p (puts T1 (((bytesOf s).take k).map fun b => (b, 8))) RA RB RZ R ∧ Fr (Rng t (p + 5)) w wr)
  case atStart => exact ⟨0, rfl, by omega, H3.out, HF3.out⟩
  case round =>
    obtain ⟨k, rfl, hg, hA, hfr⟩ := hrel
    have HG := hid hg
    have HF := hid hfr
    by_cases hk : k < s.size
    · have hki : (k : Int) < s.size := by omega
      have c3 := hA.ptr
      have b1 := byteI s hk
      have h1 := byS_lt s k
      have hnx : (bytesOf s).take (k + 1) = (bytesOf s).take k ++ [by_ (bytesOf s) k] := by
        rw [List.take_add_one, List.getElem?_eq_getElem (by rw [bytesOf_len]; exact hk)]
        unfold by_; rw [List.getD_eq_getElem?_getD, List.getElem?_eq_getElem (by rw [bytesOf_len]; exact hk)]; rfl
      obtain ⟨x, hx⟩ : ∃ x, x = by_ (bytesOf s) k := ⟨_, rfl⟩
      rw [← hx] at b1 h1 hnx
      have hxi : (x : Int) < 256 := by omega
      have hwx : IntKind.i64.wrap (x : Int) = x := wrapI (by omega) (by omega)
      have hn : (puts T1 (((bytesOf s).take k).map fun b => (b, 8))).n + 8 ≤ 4096 := by
        rw [puts_eq]; dsimp only
        rw [bytes_puts, List.length_take, bytesOf_len]; have := HN1.out; omega
      obtain ⟨T2, hT2⟩ : ∃ T2, T2 = puts T1 (((bytesOf s).take k).map fun b => (b, 8)) := ⟨_, rfl⟩
      have hT3 : puts T1 (((bytesOf s).take (k + 1)).map fun b => (b, 8)) = T2.put x 8 := by
        rw [hnx, List.map_append, puts_append, ← hT2]; rfl
      rw [← hT2] at hA hn
      have HPUT := hid (fun w2 (hf : Fr Nob wr w2) => (hA.fr hf (fun _ _ _ x => x)).put (v := x) (k := 8) 8 rfl (by omega) h1 hn)
      have HT3 := hid hT3
      clear hA hfr hg hnx hx hn hT2 hT3
      go_wp2_with fail
      go_region_with (go_at_call 90; refine (HPUT.out _ (by first | exact Fr.refl _ _ | exact (Fr.refl _ _).drew | exact Fr.of_drewN)).mono ?_; rintro e w4 ⟨rfl, h4, hf4⟩; have H4 := hid h4; have HF4 : Hid (Fr (Rng t (p + 5)) w w4) := hid (by first | exact HF.out.trans hf4 | exact HF.out.drew.trans hf4 | exact HF.out.drewN.trans hf4); clear h4 hf4)
      all_goals go_wp2_with fail
      all_goals go_roundg (gk - 1)
      all_goals first
        | (have := HG.out; omega)
        | exact ⟨k + 1, by simp, by have := HG.out; omega, by rw [HT3.out]; exact H4.out, HF4.out⟩
    · have hki : ¬ (k : Int) < s.size := by omega
      have hk2 : k = s.size := by omega
      subst hk2
      have hall : (bytesOf s).take s.size = bytesOf s := List.take_of_length_le (by rw [bytesOf_len]; omega)
      rw [hall, ← HE.out] at hA
      have HA := hid hA
      clear hA hfr hg hall
      go_wp2_with fail
      go_end0
      exact hK.out _ _ ⟨rfl, HA.out, HF.out⟩
end Go.Proofs.Qxb6500353aGreat
