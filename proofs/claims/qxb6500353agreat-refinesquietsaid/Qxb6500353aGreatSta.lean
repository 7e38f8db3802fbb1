/- The real decoder: its objects and registers; give and shut, walked. -/
import Derived.Test.Qxb6500353aGreatBdw
import Derived.Test.Qxb6500353aGreatMdo
import Derived.Test.Qxb6500353aGreatObj
import Derived.Test.Qxb6500353aGreatTpw
namespace Go.Proofs.Qxb6500353aGreat
open Go.RowKit
set_option linter.unusedVariables false
set_option linter.unusedSimpArgs false

theorem CoAt.cd {w : World} {b : Nat} {l : List Nat} (h : CoAt w b l) : ∃ R, CdAt w b R := by obtain ⟨R, h1, _⟩ := h; exact ⟨R, h1⟩
/-- The decoder's blocks: tape Y, Y+1; the coders Y+2 .., Y+13 ..; the machine Y+24 ... -/
structure DecM (w : World) (Y : Nat) (R : DcR) (t : Tp) : Prop where
  d : DcAt w (Y + 24) R
  rt : R.t = tapP Y
  ra : R.a = ptrV (Y + 2)
  rb : R.b = ptrV (Y + 13)
  tp : TapeAt w Y t
  ca : ∃ Q, CdAt w (Y + 2) Q
  cb : ∃ Q, CdAt w (Y + 13) Q
  hl : R.held = true → CoAt w (Y + 2) fixA ∧ CoAt w (Y + 13) fixB
theorem DecM.lt {w : World} {Y : Nat} {R : DcR} {t : Tp} (h : DecM w Y R t) : Y + 27 < w.heap.size := by have := h.d.lt; omega
theorem DecM.fr {S : Nat → Prop} {w w2 : World} {Y : Nat} {R : DcR} {t : Tp} (h : DecM w Y R t) (hf : Fr S w w2) (hn : ∀ k, Y ≤ k → k < Y + 28 → ¬ S k) : DecM w2 Y R t := by
  obtain ⟨qa, ha⟩ := h.ca
  obtain ⟨qb, hb⟩ := h.cb
  exact ⟨h.d.fr hf (fun k h1 h2 => hn k (by omega) (by omega)), h.rt, h.ra, h.rb, h.tp.fr hf (hn _ (by omega) (by omega)) (hn _ (by omega) (by omega)), ⟨qa, ha.fr hf (fun k h1 h2 => hn k (by omega) (by omega))⟩, ⟨qb, hb.fr hf (fun k h1 h2 => hn k (by omega) (by omega))⟩,
    fun q => ⟨(h.hl q).1.fr hf (fun k h1 h2 => hn k (by omega) (by omega)), (h.hl q).2.fr hf (fun k h1 h2 => hn k (by omega) (by omega))⟩⟩
/-- The machine's own registers have changed. -/
theorem DecM.dec {w w2 : World} {Y : Nat} {R R2 : DcR} {t : Tp} (h : DecM w Y R t) (hd : DcAt w2 (Y + 24) R2) (hf : Fr (Rng (Y + 24) (Y + 28)) w w2) (e1 : R2.t = R.t) (e2 : R2.a = R.a) (e3 : R2.b = R.b) (e4 : R2.held = true → R.held = true) : DecM w2 Y R2 t := by
  obtain ⟨qa, ha⟩ := h.ca
  obtain ⟨qb, hb⟩ := h.cb
  have n1 : ∀ k, k < Y + 24 → ¬ Rng (Y + 24) (Y + 28) k := fun k h1 h2 => by unfold Rng at h2; omega
  exact ⟨hd, e1.trans h.rt, e2.trans h.ra, e3.trans h.rb, h.tp.fr hf (n1 _ (by omega)) (n1 _ (by omega)), ⟨qa, ha.fr hf (fun k h1 h2 => n1 k (by omega))⟩, ⟨qb, hb.fr hf (fun k h1 h2 => n1 k (by omega))⟩,
    fun q => ⟨(h.hl (e4 q)).1.fr hf (fun k h1 h2 => n1 k (by omega)), (h.hl (e4 q)).2.fr hf (fun k h1 h2 => n1 k (by omega))⟩⟩
/-- The tape has changed. -/
theorem DecM.tape {w w2 : World} {Y : Nat} {R : DcR} {t t2 : Tp} (h : DecM w Y R t) (ht : TapeAt w2 Y t2) (hf : Fr (Rng Y (Y + 2)) w w2) : DecM w2 Y R t2 := by
  obtain ⟨qa, ha⟩ := h.ca
  obtain ⟨qb, hb⟩ := h.cb
  have n1 : ∀ k, Y + 2 ≤ k → ¬ Rng Y (Y + 2) k := fun k h1 h2 => by unfold Rng at h2; omega
  exact ⟨h.d.fr hf (fun k h1 h2 => n1 k (by omega)), h.rt, h.ra, h.rb, ht, ⟨qa, ha.fr hf (fun k h1 h2 => n1 k (by omega))⟩, ⟨qb, hb.fr hf (fun k h1 h2 => n1 k (by omega))⟩,
    fun q => ⟨(h.hl q).1.fr hf (fun k h1 h2 => n1 k (by omega)), (h.hl q).2.fr hf (fun k h1 h2 => n1 k (by omega))⟩⟩
theorem one_rng {Y : Nat} {w w2 : World} (h : Fr (One (Y + 1)) w w2) : Fr (Rng Y (Y + 2)) w w2 := h.mono fun x hx _ => by unfold One at hx; unfold Rng; omega
theorem rngD {Y : Nat} {w w2 : World} (h : Fr (Rng (Y + 24) (Y + 28)) w w2) : Fr (Rng Y (Y + 28)) w w2 := h.mono fun x hx _ => by unfold Rng at *; omega
theorem rngT {Y : Nat} {w w2 : World} (h : Fr (Rng Y (Y + 2)) w w2) : Fr (Rng Y (Y + 28)) w w2 := h.mono fun x hx _ => by unfold Rng at *; omega
theorem rngO {Y : Nat} {w w2 : World} (h : Fr (One (Y + 24)) w w2) : Fr (Rng (Y + 24) (Y + 28)) w w2 := h.mono fun x hx _ => by unfold One at hx; unfold Rng; omega
/-- The coders of a coded block. -/
def Coded (w : World) (Y : Nat) (s : DS) : Prop := 5 ≤ s.ph → s.ph ≤ 7 → CoAt w (Y + 2) s.a ∧ CoAt w (Y + 13) s.b
theorem Coded.fr {S : Nat → Prop} {w w2 : World} {Y : Nat} {s : DS} (h : Coded w Y s) (hf : Fr S w w2) (hn : ∀ k, Y + 2 ≤ k → k < Y + 24 → ¬ S k) : Coded w2 Y s := fun p q =>
  ⟨(h p q).1.fr hf (fun k h1 h2 => hn k (by omega) (by omega)), (h p q).2.fr hf (fun k h1 h2 => hn k (by omega) (by omega))⟩
/-- What the registers know of the output o, of which o0 bytes were given ahead of this Feed. -/
structure OutR (R : DcR) (o0 : Nat) (o : List Nat) : Prop where
  w : R.w = o.length % 16
  fill : R.fill = min o.length 16
  total : R.total = o.length
  ring : ∀ i, i < o.length → o.length ≤ i + 16 → R.ring (i % 16) = o.getD i 0
  n : R.n + o0 = o.length
  buf : ∀ i, i < R.n → R.buf i = o.getD (o0 + i) 0
  lt : o.length ≤ 256
/-- The registers show the machine. -/
structure StR (R : DcR) (o0 : Nat) (s : DS) : Prop where
  ph : R.phase = s.ph
  fin : R.final = s.final
  due : s.ph = 3 → R.due = s.due
  ls : s.ph = 4 → R.idx = s.ls.length ∧ ∀ i, i < s.ls.length → R.lens i = len s.ls i
  run : 6 ≤ s.ph → s.ph ≤ 7 → R.run = s.run
  base : s.ph = 7 → R.base = s.base ∧ R.more = s.more
  out : OutR R o0 s.out
def giveR (R : DcR) (c : Nat) : DcR := { R with buf := upd R.buf R.n c, n := R.n + 1, ring := upd R.ring R.w c, w := if R.w + 1 = 16 then 0 else R.w + 1, fill := if R.fill < 16 then R.fill + 1 else R.fill, total := R.total + 1 }
theorem OutR.give {R : DcR} {o0 : Nat} {o : List Nat} (h : OutR R o0 o) (c : Nat) (hl : o.length < 256) : OutR (giveR R c) o0 (o ++ [c]) := by
  have hw := h.w
  have hf := h.fill
  have hn := h.n
  have hll : (o ++ [c]).length = o.length + 1 := by simp
  refine ⟨?_, ?_, ?_, fun i hi hi2 => ?_, ?_, fun i hi => ?_, by rw [hll]; omega⟩
  · rw [hll]; show (if R.w + 1 = 16 then 0 else R.w + 1) = _; split <;> omega
  · rw [hll]; show (if R.fill < 16 then R.fill + 1 else R.fill) = _; split <;> omega
  · rw [hll]; show R.total + 1 = _; rw [h.total]
  · rw [hll] at hi hi2
    show upd R.ring R.w c (i % 16) = _
    by_cases e : i = o.length
    · subst e
      rw [hw, upd_self, List.getD_eq_getElem?_getD, List.getElem?_append_right (Nat.le_refl _)]; simp
    · rw [upd_ne _ _ _ _ (by omega), h.ring i (by omega) (by omega), List.getD_eq_getElem?_getD, List.getD_eq_getElem?_getD, List.getElem?_append_left (by omega)]
  · rw [hll]; show R.n + 1 + o0 = _; omega
  · have hi' : i < R.n + 1 := hi
    show upd R.buf R.n c i = _
    by_cases e : i = R.n
    · subst e
      rw [upd_self, List.getD_eq_getElem?_getD, List.getElem?_append_right (by omega), show o0 + R.n - o.length = 0 by omega]; simp
    · rw [upd_ne _ _ _ _ e, h.buf i (by omega), List.getD_eq_getElem?_getD, List.getD_eq_getElem?_getD, List.getElem?_append_left (by omega)]
set_option maxRecDepth 100000 in
set_option maxHeartbeats 4000000 in
theorem give_any {w : World} {b : Nat} {R : DcR} (h : DcAt w b R) {c : Nat} (hc : c < 256) (hn : R.n < 256) (hw : R.w < 16) (hf : R.fill ≤ 16) (ht : R.total < 256) :
    Calls Tryz.prog 165 #[ptrV b, .int .u8 c] w fun e w' => e = .returned (.tuple #[]) ∧ DcAt w' b (giveR R c) ∧ Fr (Rng b (b + 4)) w w' := by
  obtain ⟨n, hnn⟩ : ∃ z, z = R.n := ⟨_, rfl⟩
  obtain ⟨v, hvv⟩ : ∃ z, z = R.w := ⟨_, rfl⟩
  obtain ⟨f, hff⟩ : ∃ z, z = R.fill := ⟨_, rfl⟩
  obtain ⟨tt, htt⟩ : ∃ z, z = R.total := ⟨_, rfl⟩
  have c1 := h.p_buf
  have c2 := h.c_n
  have c3 := h.p_ring
  have c4 := h.c_w
  have c5 := h.c_fill
  have c6 := h.c_total
  have cf : ∀ i, w.frozen? ⟨b, i, none⟩ = false := h.fz
  have cb : ∀ i, w.frozen? ⟨b + 3, i, none⟩ = false := h.a_buf.thaw
  have cr : ∀ i, w.frozen? ⟨b + 2, i, none⟩ = false := h.a_ring.thaw
  rw [← hnn] at hn c2
  have cn := h.a_buf.cell n hn
  rw [← hvv] at hw c4
  have cw := h.a_ring.cell v hw
  simp only [mkB] at cn cw
  rw [← hff] at hf c5
  rw [← htt] at ht c6
  obtain ⟨y1, hy1⟩ : ∃ z, z = R.buf n := ⟨_, rfl⟩
  rw [← hy1] at cn
  obtain ⟨y2, hy2⟩ : ∃ z, z = R.ring v := ⟨_, rfl⟩
  rw [← hy2] at cw
  have hni : (n : Int) < 256 := by omega
  have hvi : (v : Int) < 16 := by omega
  have hfi : (f : Int) ≤ 16 := by omega
  have hti : (tt : Int) < 256 := by omega
  have H := hid h
  have HN := hid hnn
  have HV := hid hvv
  have HF := hid hff
  have HT := hid htt
  have HB := hid hn
  have n1 : ¬ b = b + 3 := by omega
  have n2 : ¬ b = b + 2 := by omega
  have n3 : ¬ b + 3 = b + 2 := by omega
  have n4 : ¬ b + 2 = b + 3 := by omega
  have n5 : ¬ b + 3 = b := by omega
  have n6 : ¬ b + 2 = b := by omega
  clear h hnn hvv hff htt hy1 hy2 hn
  refine calls_via fun K hK => ?_
  unfold ptrV
  go_enter Tryz.func165, Tryz.ntmps165
  have hb4 : Rng b (b + 4) b ∧ Rng b (b + 4) (b + 2) ∧ Rng b (b + 4) (b + 3) := ⟨⟨by omega, by omega⟩, ⟨by omega, by omega⟩, ⟨by omega, by omega⟩⟩
  go_wp2_with go_region
  all_goals go_end0
  all_goals clear c1 c2 c3 c4 c5 c6 cf cb cr cn cw
  · rename_i a1 a2
    have e1 : v + 1 = 16 := by simp at a1; omega
    have e2 : f < 16 := by omega
    have h1 := ((((((H.out.set_buf n c).set_n (n + 1)).set_ring v c).set_w (v + 1)).set_w 0).set_fill (f + 1)).set_total (tt + 1)
    refine hK.out _ _ ⟨rfl, ?_, (((((((((Fr.refl _ _).setS hb4.2.2 _ _).setS hb4.1 _ _).setS hb4.2.1 _ _).setS hb4.1 _ _).setS hb4.1 _ _).setS hb4.1 _ _).setS hb4.1 _ _).drew).drew⟩
    unfold giveR
    rw [← HN.out, ← HV.out, ← HF.out, ← HT.out, if_pos e1, if_pos e2]
    exact h1.drew.drew
  · rename_i a1 a2
    have e1 : v + 1 = 16 := by simp at a1; omega
    have e2 : ¬ f < 16 := by omega
    have h1 := ((((((H.out.set_buf n c).set_n (n + 1)).set_ring v c).set_w (v + 1)).set_w 0)).set_total (tt + 1)
    refine hK.out _ _ ⟨rfl, ?_, ((((((((Fr.refl _ _).setS hb4.2.2 _ _).setS hb4.1 _ _).setS hb4.2.1 _ _).setS hb4.1 _ _).setS hb4.1 _ _).setS hb4.1 _ _).drew).drew⟩
    unfold giveR
    rw [← HN.out, ← HV.out, ← HT.out, if_pos e1, ← HF.out, if_neg e2, HF.out]
    exact h1.drew.drew
  · rename_i a1 a2
    have e1 : ¬ v + 1 = 16 := by simp at a1; omega
    have e2 : f < 16 := by omega
    have h1 := ((((((H.out.set_buf n c).set_n (n + 1)).set_ring v c).set_w (v + 1))).set_fill (f + 1)).set_total (tt + 1)
    refine hK.out _ _ ⟨rfl, ?_, ((((((((Fr.refl _ _).setS hb4.2.2 _ _).setS hb4.1 _ _).setS hb4.2.1 _ _).setS hb4.1 _ _).setS hb4.1 _ _).setS hb4.1 _ _).drew).drew⟩
    unfold giveR
    rw [← HN.out, ← HV.out, ← HF.out, ← HT.out, if_neg e1, if_pos e2]
    exact h1.drew.drew
  · rename_i a1 a2
    have e1 : ¬ v + 1 = 16 := by simp at a1; omega
    have e2 : ¬ f < 16 := by omega
    have h1 := ((((((H.out.set_buf n c).set_n (n + 1)).set_ring v c).set_w (v + 1)))).set_total (tt + 1)
    refine hK.out _ _ ⟨rfl, ?_, (((((((Fr.refl _ _).setS hb4.2.2 _ _).setS hb4.1 _ _).setS hb4.2.1 _ _).setS hb4.1 _ _).setS hb4.1 _ _).drew).drew⟩
    unfold giveR
    rw [← HN.out, ← HV.out, ← HT.out, if_neg e1, ← HF.out, if_neg e2, HF.out]
    exact h1.drew.drew
end Go.Proofs.Qxb6500353aGreat
