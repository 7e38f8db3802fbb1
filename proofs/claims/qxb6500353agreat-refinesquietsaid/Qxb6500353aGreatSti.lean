/- The real decoder: Feed, walked. -/
import Derived.Test.Qxb6500353aGreatSth
import Derived.Test.Qxb6500353aGreatHsw
namespace Go.Proofs.Qxb6500353aGreat
open Go.RowKit
set_option linter.unusedVariables false
set_option linter.unusedSimpArgs false

/-- A fresh struct's cells. -/
structure CellsAt (w : World) (g : Nat) (vs : List Value) : Prop where
  c : ∀ i v, vs[i]? = some v → w.cell? ⟨g, i, none⟩ = some v
  fz : ∀ i, w.frozen? ⟨g, i, none⟩ = false
theorem CellsAt.mk_alloc (w : World) (vs : List Value) (t : TypeId) : CellsAt (w.alloc (.cells vs.toArray t)) w.heap.size vs := by
  refine ⟨fun i v hv => ?_, fun i => World.frozen?_alloc_new _ _ _ i⟩
  refine (World.cell?_alloc_new _ _ _ i).trans ?_
  simpa using hv
theorem CellsAt.fr {S : Nat → Prop} {w w2 : World} {g : Nat} {vs : List Value} (h : CellsAt w g vs) (hf : Fr S w w2) (hn : ¬ S g) (hl : 0 < vs.length) : CellsAt w2 g vs := by
  have hlt : g < w.heap.size := lt_of_cellB (h.c 0 _ (List.getElem?_eq_getElem hl))
  exact ⟨fun i v hv => hf.cell (h.c i v hv) hn, fun i => (hf.froz hlt hn i).trans (h.fz i)⟩
/-- b begins with a. -/
def Px (a b : List Nat) : Prop := ∃ x, b = a ++ x
theorem Px.refl (a : List Nat) : Px a a := ⟨[], by simp⟩
theorem Px.trans {a b c : List Nat} (h : Px a b) (k : Px b c) : Px a c := by obtain ⟨x, rfl⟩ := h; obtain ⟨y, rfl⟩ := k; exact ⟨x ++ y, by rw [List.append_assoc]⟩
theorem Px.app (a b : List Nat) : Px a (a ++ b) := ⟨b, rfl⟩
theorem copyF_px (o : List Nat) (d n : Nat) : Px o (copyF o d n) := by
  induction n with
  | zero => exact Px.refl _
  | succ n ih => exact ih.trans ⟨_, copyF_succ o d n⟩
theorem shutS_px {t t1 : Tp} {s s1 : DS} (h : shutS t s = (0, t1, s1)) : s1.out = s.out := by
  unfold shutS at h
  split at h <;> (simp only [Prod.mk.injEq] at h; rw [← h.2.2])
theorem listEnd_px {t t1 : Tp} {s s1 : DS} (h : listEnd t s = (0, t1, s1)) : s1.out = s.out := by
  unfold listEnd setsS at h
  repeat' split at h
  all_goals (simp only [Prod.mk.injEq] at h; rw [← h.2.2])
theorem stepF_px {t t1 : Tp} {s s1 : DS} (h8 : s.ph ≤ 7) (h : stepF t s = (0, t1, s1)) : Px s.out s1.out := by
  have hc8 : s.ph = 0 ∨ s.ph = 1 ∨ s.ph = 2 ∨ s.ph = 3 ∨ s.ph = 4 ∨ s.ph = 5 ∨ s.ph = 6 ∨ s.ph = 7 := by omega
  rcases hc8 with e | e | e | e | e | e | e | e
  · rw [stepF_0 e] at h; unfold step0 at h
    split at h
    · simp at h
    · simp only [Prod.mk.injEq] at h; rw [← h.2.2]; exact Px.refl _
  · rw [stepF_1 e] at h; unfold step1 at h
    repeat' split at h
    all_goals first
      | (simp at h; done)
      | (simp only [Prod.mk.injEq] at h; rw [← h.2.2]; exact Px.refl _)
  · rw [stepF_2 e] at h; unfold step2 at h
    split at h
    · simp at h
    · split at h
      · rw [shutS_px h]; exact Px.refl _
      · simp only [Prod.mk.injEq] at h; rw [← h.2.2]; exact Px.refl _
  · rw [stepF_3 e] at h; unfold step3 at h
    split at h
    · simp at h
    · split at h
      · simp at h
      · split at h
        · rw [shutS_px h]; exact Px.app _ _
        · simp only [Prod.mk.injEq] at h; rw [← h.2.2]; exact Px.app _ _
  · rw [stepF_4 e] at h; unfold step4 at h
    split at h
    · simp at h
    · split at h
      · rw [listEnd_px h]; exact Px.refl _
      · split at h
        · simp at h
        · split at h
          · simp at h
          · split at h
            · simp at h
            · split at h
              · simp at h
              · rw [listEnd_px h]; exact Px.refl _
  · rw [stepF_5 e] at h; unfold step5 at h
    split at h
    · rename_i c; simp only [Prod.mk.injEq] at h; exact absurd h.1 c
    · split at h
      · rw [shutS_px h]; exact Px.refl _
      · split at h
        · split at h
          · simp at h
          · simp only [Prod.mk.injEq] at h; rw [← h.2.2]; exact Px.app _ _
        · simp only [Prod.mk.injEq] at h; rw [← h.2.2]; exact Px.refl _
  · rw [stepF_6 e] at h; unfold step6 at h
    split at h
    · rename_i c; simp only [Prod.mk.injEq] at h; exact absurd h.1 c
    · simp only [Prod.mk.injEq] at h; rw [← h.2.2]; exact Px.refl _
  · rw [stepF_7 e] at h; unfold step7 at h
    split at h
    · simp at h
    · split at h
      · simp at h
      · split at h
        · simp at h
        · simp only [Prod.mk.injEq] at h; rw [← h.2.2]; exact copyF_px _ _ _
/-- What the running Feed's buffer knows of the output. -/
structure BufR (R : DcR) (o0 : Nat) (o : List Nat) : Prop where
  n : R.n + o0 = o.length
  buf : ∀ i, i < R.n → R.buf i = o.getD (o0 + i) 0
/-- In the middle of a Feed over the text P: er = 0: the machine goes on; else it has told its error. -/
structure MidF (w : World) (Y : Nat) (P : List Nat) (o0 er : Nat) (R : DcR) (t : Tp) (s : DS) : Prop where
  d : DecM w Y R t
  buf : BufR R o0 s.out
  fed : R.fed = P.length
  ok : DSOK s
  go : er = 0 → StR R o0 s ∧ Coded w Y s ∧ AtS P t s
  stop : er ≠ 0 → Ends (Tp.load P) DS.init er s.out
  wait : er = 4 → StR R o0 s ∧ Coded w Y s ∧ AtS P t s
theorem MidF.turn {w w2 : World} {Y o0 er : Nat} {P : List Nat} {R : DcR} {t : Tp} {s : DS} (h : MidF w Y P o0 0 R t s) (h8 : s.ph ≠ 8) (k : TurnP w2 Y o0 R t s er) :
    ∃ R' t' s', MidF w2 Y P o0 er R' t' s' ∧ Px s.out s'.out ∧ (er = 0 → mu t' s' + 1 ≤ mu t s) := by
  obtain ⟨h1, h2, h3⟩ := h.go rfl
  have hp := h3.ok.ph
  obtain ⟨R', t', a1, a2, a3, a4, a5, a6⟩ := k
  by_cases e0 : er = 0
  · obtain ⟨s', b1, b2, b3⟩ := a4 e0
    have h4 := h3.step h8 b1
    exact ⟨R', t', s', ⟨a1, ⟨b2.out.n, b2.out.buf⟩, a2.trans h.fed, h4.ok, fun _ => ⟨b2, b3, h4⟩, fun q => absurd e0 q, fun q => by omega⟩, stepF_px (by omega) b1, fun _ => mu_less h3.cur (by omega) b1⟩
  · obtain ⟨b1, b2⟩ := a6 e0
    refine ⟨R', t', s, ⟨a1, ⟨by rw [b1]; exact h.buf.n, by rw [b1, b2]; exact h.buf.buf⟩, a2.trans h.fed, h.ok, fun q => absurd q e0, fun _ => ?_, fun q => ?_⟩, Px.refl _, fun q => absurd q e0⟩
    · obtain ⟨x1, x2, x3, hx⟩ : ∃ x1 x2 x3, stepF t s = (x1, x2, x3) := ⟨_, _, _, rfl⟩
      rw [hx] at a3
      dsimp only at a3
      rw [a3] at hx
      exact h3.bad h8 hx e0
    · obtain ⟨c1, c2, c3⟩ := a5 q
      rw [c1]; exact ⟨c2, c3, h3⟩
theorem drop_map {o : List Nat} {n o0 : Nat} (h : n + o0 = o.length) : (List.range n).map (fun i => o.getD (o0 + i) 0) = o.drop o0 := by
  apply List.ext_getElem?
  intro i
  rw [List.getElem?_map, List.getElem?_drop]
  by_cases hi : i < n
  · rw [List.getElem?_range hi]
    simp [List.getD_eq_getElem?_getD, List.getElem?_eq_getElem (show o0 + i < o.length by omega)]
  · rw [List.getElem?_eq_none (by simp; omega), List.getElem?_eq_none (by omega)]; rfl
/-- At the end of a Feed. -/
structure EndF (w : World) (Y : Nat) (P : List Nat) (o0 er : Nat) (R : DcR) (t : Tp) (s : DS) : Prop where
  d : DecM w Y R t
  buf : BufR R o0 s.out
  fed : R.fed = P.length
  ok : DSOK s
  en : Ends (Tp.load P) DS.init er s.out
  st : (er = 0 ∨ er = 4) → StR R o0 s ∧ Coded w Y s ∧ AtS P t s
/-- What a Feed tells: o: the whole output so far. -/
structure FeedO (w : World) (Y : Nat) (P : List Nat) (s : DS) (last : Bool) (o : List Nat) (st er : Nat) : Prop where
  z : DecZ w Y
  px : Px s.out o
  len : o.length ≤ 256
  byte : ∀ c ∈ o, c < 256
  fin : last = true → Ends (Tp.load P) DS.init er o ∧ st = if er = 0 then 1 else 2
  more : last = false → (st = 0 ∧ er = 0 ∧ ∃ s', DecS w Y P s' ∧ s'.out = o) ∨ (st = 2 ∧ er ≠ 0 ∧ er ≠ 4 ∧ Ends (Tp.load P) DS.init er o)
set_option maxRecDepth 100000 in
set_option maxHeartbeats 8000000 in
theorem feed_any {w : World} {Y : Nat} {P : List Nat} {s : DS} (h : DecS w Y P s) (hPb : ∀ b ∈ P, b < 256) {q : ByteArray} (hq : P.length + q.size ≤ 512) {last : Bool} :
    Calls Tryz.prog 76 #[ptrV (Y + 24), .string q, .bool last] w fun e w' => ∃ (o : List Nat) (st er : Nat) (ps : Int), e = .returned (.agg #[.string (strN (o.drop s.out.length)), .int .i64 (st : Nat), .int .i64 (er : Nat), .int .i64 ps]) ∧ FeedO w' Y (P ++ bytesOf q) s last o st er ∧ Fr (Rng Y (Y + 28)) w w' := by
  obtain ⟨R, t, o00, hD, hS, hC, hA, hfe⟩ := h
  obtain ⟨N, hN⟩ : ∃ N, w.heap.size = N := ⟨_, rfl⟩
  obtain ⟨w0, hw0⟩ : ∃ w0, w.alloc (Obj.cells #[.string ⟨#[]⟩, .int .i64 0, .int .i64 0, .int .i64 0] 148) = w0 := ⟨_, rfl⟩
  have hf0 : Fr Nob w w0 := by rw [← hw0]; exact (Fr.refl _ _).alloc _
  have hcl : CellsAt w0 N [.string ⟨#[]⟩, .int .i64 0, .int .i64 0, .int .i64 0] := by rw [← hw0, ← hN]; exact CellsAt.mk_alloc w [.string ⟨#[]⟩, .int .i64 0, .int .i64 0, .int .i64 0] 148
  have hYN : Y + 27 < N := by rw [← hN]; exact hD.lt
  have hd0 := hD.fr hf0 (fun _ _ _ x => x)
  have hc0 := hC.fr hf0 (fun _ _ _ x => x)
  have c1 := hd0.d.c_phase
  rw [hS.ph] at c1
  have c2 := hd0.d.c_fed
  rw [hfe] at c2
  have hph8 := hA.ok.ph
  have hphi : (s.ph : Int) ≤ 8 := by omega
  obtain ⟨ph, hph⟩ : ∃ z, z = s.ph := ⟨_, rfl⟩
  rw [← hph] at c1 hphi
  obtain ⟨pl, hpl⟩ : ∃ z, z = P.length := ⟨_, rfl⟩
  rw [← hpl] at c2 hq hfe
  have hqi : ¬ 512 - (pl : Int) < q.size := by omega
  have hqi2 : (pl : Int) + q.size ≤ 512 := by omega
  have hte := hA.eq
  have HD0 := hid hd0
  have HC0 := hid hc0
  have HS := hid hS
  have HA := hid hA
  have HTE := hid hte
  have HCL := hid hcl
  have HF0 := hid hf0
  have HYN := hid hYN
  have HPB := hid hPb
  have HPL := hid hpl
  have HQ := hid hq
  have HFE := hid hfe
  have HSZ : Hid (w0.heap.size = N + 1) := hid (by rw [← hw0, ← hN]; exact World.size_alloc _ _)
  clear hD hS hC hA hfe hf0 hcl hYN hd0 hc0 hph8 hph hpl hte hPb hq
  refine calls_via fun K hK => ?_
  unfold ptrV
  go_enter Tryz.func76, Tryz.ntmps76
  go_wp2_with fail
  go_loopg [7] q.size (fun g iv wr => ∃ k : Nat, iv = .int .i64 (k : Nat) ∧ g + k = q.size ∧ DecM wr Y R (Seek (Tp.load (P ++ (bytesOf q).take k)) t.at_) ∧ Fr (Rng Y (Y + 2)) w0 wr)
  case atStart => exact ⟨0, rfl, by omega, by rw [show (bytesOf q).take 0 = [] from rfl, List.append_nil, ← HTE.out]; exact HD0.out, Fr.refl _ _⟩
  case round =>
    obtain ⟨k, rfl, hg, hA, hfr⟩ := hrel
    have HG := hid hg
    have HF := hid hfr
    by_cases hk : k < q.size
    · have hki : (k : Int) < q.size := by omega
      have c3 := hA.d.c_t
      rw [hA.rt] at c3
      unfold tapP at c3
      have b1 := byteI q hk
      have h1 := byS_lt q k
      have hnx : (bytesOf q).take (k + 1) = (bytesOf q).take k ++ [by_ (bytesOf q) k] := by
        rw [List.take_add_one, List.getElem?_eq_getElem (by rw [bytesOf_len]; exact hk)]
        unfold by_; rw [List.getD_eq_getElem?_getD, List.getElem?_eq_getElem (by rw [bytesOf_len]; exact hk)]; rfl
      obtain ⟨x, hx⟩ : ∃ x, x = by_ (bytesOf q) k := ⟨_, rfl⟩
      rw [← hx] at b1 h1 hnx
      have hxi : (x : Int) < 256 := by omega
      have hwx : IntKind.i64.wrap (x : Int) = x := wrapI (by omega) (by omega)
      have hn : (Seek (Tp.load (P ++ (bytesOf q).take k)) t.at_).n + 8 ≤ 4096 := by
        show 8 * (P ++ (bytesOf q).take k).length + 8 ≤ 4096
        rw [List.length_append, List.length_take, bytesOf_len]; have := HQ.out; have := HPL.out; omega
      obtain ⟨T2, hT2⟩ : ∃ T2, T2 = Seek (Tp.load (P ++ (bytesOf q).take k)) t.at_ := ⟨_, rfl⟩
      have hT3 : Seek (Tp.load (P ++ (bytesOf q).take (k + 1))) t.at_ = T2.put x 8 := by rw [hT2, seek_put, hnx, List.append_assoc]
      rw [← hT2] at hA hn
      have HPUT : Hid (∀ wx, Fr Nob wr wx → Calls Tryz.prog 90 #[.pointer (some ⟨Y + 1, 0, none⟩), .int .i64 (x : Nat), .int .i64 8] wx fun e w' => e = .returned (.int .i64 0) ∧ DecM w' Y R (T2.put x 8) ∧ Fr (Rng Y (Y + 2)) wx w') := hid (fun wx hfx => by
        have h2 := hA.fr hfx (fun _ _ _ x => x)
        refine (put_any h2.tp x 8 (by omega) h1 hn).mono ?_
        rintro e w' ⟨e1, h3, f3⟩
        exact ⟨e1, h2.tape h3 f3, f3⟩)
      have HT3 := hid hT3
      clear hA hfr hg hnx hx hn hT2 hT3
      go_upto_region 9 with fail
      go_region_with (go_at_call 90; refine (HPUT.out _ (by first | exact Fr.refl _ _ | exact (Fr.refl _ _).drew | exact Fr.of_drewN)).mono ?_; rintro e w4 ⟨rfl, h4, hf4⟩; have H4 := hid h4; have HF4 : Hid (Fr (Rng Y (Y + 2)) w0 w4) := hid (by first | exact HF.out.trans hf4 | exact HF.out.drew.trans hf4 | exact HF.out.drewN.trans hf4); clear h4 hf4)
      all_goals go_wp2_with fail
      all_goals go_roundg (gk - 1)
      all_goals first
        | (have := HG.out; omega)
        | exact ⟨k + 1, by simp, by have := HG.out; omega, by rw [HT3.out]; exact H4.out, HF4.out⟩
    · have hki : ¬ (k : Int) < q.size := by omega
      have hk2 : k = q.size := by omega
      subst hk2
      have hall : (bytesOf q).take q.size = bytesOf q := List.take_of_length_le (by rw [bytesOf_len]; omega)
      rw [hall] at hA
      obtain ⟨P2, hP2⟩ : ∃ z, z = P ++ bytesOf q := ⟨_, rfl⟩
      have hAt := HA.out.more (Q := bytesOf q) HPB.out
      rw [← hP2] at hA hAt hK
      obtain ⟨t1, ht1⟩ : ∃ z, z = Seek (Tp.load P2) t.at_ := ⟨_, rfl⟩
      rw [← ht1] at hA hAt
      obtain ⟨nf, hnf⟩ : ∃ z, z = pl + q.size := ⟨_, rfl⟩
      have hnfl : nf = P2.length := by rw [hnf, hP2, List.length_append, bytesOf_len, ← HPL.out]
      have e1 : (pl : Int) + (q.size : Int) = (nf : Int) := by omega
      have e2 : wrap64 (nf : Int) = (nf : Int) := wrap64_n (by omega)
      have k1 := hA.d.c_fed
      rw [HFE.out] at k1
      have k2 := hA.d.c_n
      have kf : ∀ i, wr.frozen? ⟨Y + 24, i, none⟩ = false := hA.d.fz
      have f3 : Fr (One (Y + 24)) wr ((wr.setCell ⟨Y + 24, 20, none⟩ (.int .i64 ((nf : Nat) : Int))).setCell ⟨Y + 24, 18, none⟩ (.int .i64 ((0 : Nat) : Int))) := ((Fr.refl _ _).set1 _ _).set1 _ _
      have h3 := hA.dec ((hA.d.set_fed nf).set_n 0) (rngO f3) rfl rfl rfl (fun q => q)
      obtain ⟨o0, ho0⟩ : ∃ z, z = s.out.length := ⟨_, rfl⟩
      have hmid : MidF ((wr.setCell ⟨Y + 24, 20, none⟩ (.int .i64 ((nf : Nat) : Int))).setCell ⟨Y + 24, 18, none⟩ (.int .i64 ((0 : Nat) : Int))) Y P2 o0 0 { R with fed := nf, n := 0 } t1 s :=
        ⟨h3, ⟨by rw [ho0]; exact Nat.zero_add _, fun i hi => by simp at hi⟩, hnfl, HA.out.ok, fun _ => ⟨⟨HS.out.ph, HS.out.fin, HS.out.due, HS.out.ls, HS.out.run, HS.out.base, ⟨HS.out.out.w, HS.out.out.fill, HS.out.out.total, HS.out.out.ring, by rw [ho0]; exact Nat.zero_add _, fun i hi => by simp at hi, HS.out.out.lt⟩⟩, (HC0.out.fr hfr (fun k a b q => by have := q.2; omega)).fr f3 (fun k a b q => by unfold One at q; omega), hAt⟩, fun q => absurd rfl q, fun q => by simp at q⟩
      have HMID := hid hmid
      have HF3 := hid ((rngT hfr).trans (rngD (rngO f3)))
      have HOO := hid ho0
      rw [← ho0] at hK
      clear hA hfr hg hall hP2 hAt ht1 hnf hnfl f3 h3 ho0 hmid
      go_wp2_with fail
      clear e1 e2 k1 k2 kf hphi hqi hqi2 c1 c2
      go_loopg [8] (mu t1 s + 1) (fun g ev wr => ∃ (er : Nat) (Rq : DcR) (tq : Tp) (sq : DS), ev = .int .i64 (er : Nat) ∧ MidF wr Y P2 o0 er Rq tq sq ∧ Px s.out sq.out ∧ Fr (Rng Y (Y + 28)) w0 wr ∧ (er = 0 → mu tq sq + 1 ≤ g))
      case atStart => exact ⟨0, _, t1, s, rfl, HMID.out, Px.refl _, HF3.out, fun _ => Nat.le_refl _⟩
      case round =>
        obtain ⟨er, Rq, tq, sq, rfl, hM, hpx, hfr, hmu⟩ := hrel
        have HM := hid hM
        have HPX := hid hpx
        have HFR := hid hfr
        have HMU := hid hmu
        have k1 := hM.d.d.c_phase
        obtain ⟨ph2, hph2⟩ : ∃ z, z = Rq.phase := ⟨_, rfl⟩
        rw [← hph2] at k1
        have HPH := hid hph2
        clear hM hpx hfr hmu hph2 k1
        have k1 := HM.out.d.d.c_phase
        rw [← HPH.out] at k1
        by_cases he0 : er = 0
        · subst he0
          have hg3 := HM.out.go rfl
          have hphs : ph2 = sq.ph := by rw [HPH.out]; exact hg3.1.ph
          rw [show ((0 : Nat) : Int) = 0 from rfl]
          by_cases h8 : sq.ph = 8
          · have h8i : ((ph2 : Int) == 8) = true := by rw [hphs, h8]; rfl
            have h8j : ((ph2 : Int) != 8) = false := by rw [hphs, h8]; rfl
            have htl := tailD_any HM.out.d
            obtain ⟨er2, her2⟩ : ∃ z : Nat, z = if tq.at_ < tq.n then 11 else 0 := ⟨_, rfl⟩
            rw [← her2] at htl
            have hen := hg3.2.2.tail h8
            rw [← her2] at hen
            have her4 : er2 ≠ 4 := by rw [her2]; split <;> decide
            unfold ptrV at htl
            have HTL := hid htl
            have HEN := hid hen
            have HE4 := hid her4
            have HG3 := hid hg3
            have H8 := hid h8
            clear htl hen her4 hg3 h8 hphs her2
            go_wp2_with fail
            refine HTL.out.mono ?_
            rintro e w5 ⟨rfl, ⟨x, hd5⟩, f5⟩
            have hend : EndF w5 Y P2 o0 er2 { Rq with at_ := x } tq sq := ⟨hd5, ⟨HM.out.buf.n, HM.out.buf.buf⟩, HM.out.fed, HM.out.ok, HEN.out, fun _ => ⟨HG3.out.1.at_, Coded.off (.inr (by rw [H8.out]; decide)), HG3.out.2.2⟩⟩
            obtain ⟨Re, hRe⟩ : ∃ z : DcR, z = { Rq with at_ := x } := ⟨_, rfl⟩
            rw [← hRe] at hend
            have HEND := hid hend
            have HF5 := hid (HFR.out.trans f5)
            clear hd5 f5 hend hRe k1 h8i h8j
            have p1 := HEND.out.d.d.p_buf
            have p2 := HEND.out.d.d.c_n
            obtain ⟨n, hn⟩ : ∃ z, z = Re.n := ⟨_, rfl⟩
            rw [← hn] at p2
            have hnl : n ≤ 256 := by have h1 := HEND.out.buf.n; have h2 := HEND.out.ok.out; omega
            have hni : (n : Int) ≤ 256 := by omega
            have hcv := conv_str (w := w5.drew) (g := Y + 24 + 3) (o := 0) (n := n) (cap := 256) (f := Re.buf) (fun i hi => by rw [Nat.zero_add]; exact HEND.out.d.d.drew.a_buf.cell i (by omega))
            have hdm : (List.range n).map Re.buf = sq.out.drop o0 := by
              rw [← drop_map (o := sq.out) (n := n) (o0 := o0) (by rw [hn]; exact HEND.out.buf.n)]
              exact List.map_congr_left fun i hi => HEND.out.buf.buf i (by rw [← hn]; exact List.mem_range.1 hi)
            rw [hdm] at hcv
            obtain ⟨ov, hov⟩ : ∃ z, z = strN (sq.out.drop o0) := ⟨_, rfl⟩
            rw [← hov] at hcv
            have HOV := hid hov
            clear hn hnl hdm hov
            go_upto_region 17 with fail
            go_region
            obtain ⟨w6, hw6⟩ : ∃ z, z = w5.drew := ⟨_, rfl⟩
            rw [← hw6]
            have hd6 : DecM w6 Y Re tq := by rw [hw6]; exact HEND.out.d.fr ((Fr.refl Nob w5).drew) (fun _ _ _ x => x)
            have hf6 : Fr (Rng Y (Y + 28)) w0 w6 := by rw [hw6]; exact HF5.out.drew
            have hc6 : ∀ s : DS, Coded w5 Y s → Coded w6 Y s := by rw [hw6]; exact fun s h => h.fr ((Fr.refl Nob w5).drew) (fun _ _ _ x => x)
            have HD6 := hid hd6
            have HF6 := hid hf6
            have HC6 := hid hc6
            have HCL6 := hid (HCL.out.fr hf6 (fun q => by have := q.2; have := HYN.out; omega) (by simp))
            clear hw6 hd6 hf6 hc6 p1 p2 hcv hni
            have q0 := HCL6.out.c 0 _ rfl
            have q1 := HCL6.out.c 1 _ rfl
            have q2 := HCL6.out.c 2 _ rfl
            have q3 := HCL6.out.c 3 _ rfl
            have qf := HCL6.out.fz
            have r1 := HD6.out.d.c_phase
            have r2 := HD6.out.d.c_at_
            have rf : ∀ i, w6.frozen? ⟨Y + 24, i, none⟩ = false := HD6.out.d.fz
            obtain ⟨pv, hpv⟩ : ∃ z, z = Re.at_ := ⟨_, rfl⟩
            rw [← hpv] at r2
            obtain ⟨pz, hpz⟩ : ∃ z, z = Re.phase := ⟨_, rfl⟩
            rw [← hpz] at r1
            have m1 : ¬ N = Y + 24 := by have := HYN.out; omega
            have m2 : ¬ Y + 24 = N := by have := HYN.out; omega
            have HFW : Hid (∀ w9, Fr (fun k => Rng Y (Y + 28) k ∨ k = N) w6 w9 → Fr (Rng Y (Y + 28)) w w9) := hid (fun w9 h9 => by
              have h8 : Fr (fun k => Rng Y (Y + 28) k ∨ k = N) w0 w9 := (HF6.out.mono (fun x hx _ => Or.inl hx)).trans h9
              exact (HF0.out.mono (fun x hx _ => hx.elim)).trans2 h8 (fun x hx hl => by
                rcases hx with e | e
                · exact e
                · omega))
            clear hpv hpz
            cases hla : last
            · by_cases e0 : er2 = 0
              · subst e0
                rw [show ((0 : Nat) : Int) = 0 from rfl]
                go_wp2_with fail
                have f9 := ((((Fr.refl (One N) w6).set1 0 (.string ov)).set1 1 (.int .i64 0)).set1 2 (.int .i64 0)).set1 3 (.int .i64 0)
                have f10 := HFW.out _ (f9.mono (fun x hx _ => Or.inr hx))
                have h9 := HD6.out.fr f9 (fun k a b q => by unfold One at q; have := HYN.out; omega)
                refine bodyPost_ret (v := .agg #[.string ov, .int .i64 0, .int .i64 0, .int .i64 0]) (by simp [results, Tryz.results76, go_sem, cellSet, q0, q1, q2, q3]) rfl ?_
                refine hK.out _ _ ⟨sq.out, 0, 0, _, by rw [HOV.out]; rfl, ⟨⟨_, _, h9⟩, HPX.out, HEND.out.ok.out, HEND.out.ok.byte, fun q => by rw [hla] at q; exact absurd q (by decide), fun _ => Or.inl ⟨rfl, rfl, sq, ⟨_, _, o0, h9, (HEND.out.st (Or.inl rfl)).1, (HC6.out _ (HEND.out.st (Or.inl rfl)).2.1).fr f9 (fun k a b q => by unfold One at q; have := HYN.out; omega), (HEND.out.st (Or.inl rfl)).2.2, HEND.out.fed⟩, rfl⟩⟩, f10⟩
              · by_cases e4 : er2 = 4
                · subst e4
                  rw [show ((4 : Nat) : Int) = 4 from rfl]
                  go_wp2_with fail
                  have f9 := ((((Fr.refl (One N) w6).set1 0 (.string ov)).set1 1 (.int .i64 0)).set1 2 (.int .i64 0)).set1 3 (.int .i64 0)
                  have f10 := HFW.out _ (f9.mono (fun x hx _ => Or.inr hx))
                  have h9 := HD6.out.fr f9 (fun k a b q => by unfold One at q; have := HYN.out; omega)
                  refine bodyPost_ret (v := .agg #[.string ov, .int .i64 0, .int .i64 0, .int .i64 0]) (by simp [results, Tryz.results76, go_sem, cellSet, q0, q1, q2, q3]) rfl ?_
                  refine hK.out _ _ ⟨sq.out, 0, 0, _, by rw [HOV.out]; rfl, ⟨⟨_, _, h9⟩, HPX.out, HEND.out.ok.out, HEND.out.ok.byte, fun q => by rw [hla] at q; exact absurd q (by decide), fun _ => Or.inl ⟨rfl, rfl, sq, ⟨_, _, o0, h9, (HEND.out.st (Or.inr rfl)).1, (HC6.out _ (HEND.out.st (Or.inr rfl)).2.1).fr f9 (fun k a b q => by unfold One at q; have := HYN.out; omega), (HEND.out.st (Or.inr rfl)).2.2, HEND.out.fed⟩, rfl⟩⟩, f10⟩
                · have x0 : ((er2 : Int) == 0) = false := by simp; omega
                  have x4 : ((er2 : Int) == 4) = false := by simp; omega
                  have HX := hid (And.intro e0 e4)
                  clear e0 e4
                  go_wp2_with fail
                  have f7 : Fr (One (Y + 24)) w6 (w6.setCell ⟨Y + 24, 4, none⟩ (.int .i64 ((10 : Nat) : Int))) := (Fr.refl _ _).set1 _ _
                  have h7 := HD6.out.dec (HD6.out.d.set_phase 10) (rngO f7) rfl rfl rfl (fun q => q)
                  have f9 := ((((Fr.refl (One N) (w6.setCell ⟨Y + 24, 4, none⟩ (.int .i64 ((10 : Nat) : Int)))).set1 0 (.string ov)).set1 1 (.int .i64 2)).set1 2 (.int .i64 (er2 : Nat))).set1 3 (.int .i64 (pv : Nat))
                  have f10 := HFW.out _ ((f7.mono (fun x hx _ => Or.inl (by unfold One at hx; unfold Rng; omega))).trans (f9.mono (fun x hx _ => Or.inr hx)))
                  have h9 := h7.fr f9 (fun k a b q => by unfold One at q; have := HYN.out; omega)
                  refine bodyPost_ret (v := .agg #[.string ov, .int .i64 2, .int .i64 (er2 : Nat), .int .i64 (pv : Nat)]) (by simp [results, Tryz.results76, go_sem, cellSet, q0, q1, q2, q3]) rfl ?_
                  refine hK.out _ _ ⟨sq.out, 2, er2, _, by rw [HOV.out]; rfl, ⟨⟨_, _, h9⟩, HPX.out, HEND.out.ok.out, HEND.out.ok.byte, fun q => by rw [hla] at q; exact absurd q (by decide), fun _ => Or.inr ⟨rfl, HX.out.1, HX.out.2, HEND.out.en⟩⟩, f10⟩
            · by_cases e0 : er2 = 0
              · subst e0
                rw [show ((0 : Nat) : Int) = 0 from rfl]
                go_wp2_with fail
                have f7 : Fr (One (Y + 24)) w6 (w6.setCell ⟨Y + 24, 4, none⟩ (.int .i64 ((9 : Nat) : Int))) := (Fr.refl _ _).set1 _ _
                have h7 := HD6.out.dec (HD6.out.d.set_phase 9) (rngO f7) rfl rfl rfl (fun q => q)
                have f9 := ((((Fr.refl (One N) (w6.setCell ⟨Y + 24, 4, none⟩ (.int .i64 ((9 : Nat) : Int)))).set1 0 (.string ov)).set1 1 (.int .i64 1)).set1 2 (.int .i64 0)).set1 3 (.int .i64 0)
                have f10 := HFW.out _ ((f7.mono (fun x hx _ => Or.inl (by unfold One at hx; unfold Rng; omega))).trans (f9.mono (fun x hx _ => Or.inr hx)))
                have h9 := h7.fr f9 (fun k a b q => by unfold One at q; have := HYN.out; omega)
                refine bodyPost_ret (v := .agg #[.string ov, .int .i64 1, .int .i64 0, .int .i64 0]) (by simp [results, Tryz.results76, go_sem, cellSet, q0, q1, q2, q3]) rfl ?_
                refine hK.out _ _ ⟨sq.out, 1, 0, _, by rw [HOV.out]; rfl, ⟨⟨_, _, h9⟩, HPX.out, HEND.out.ok.out, HEND.out.ok.byte, fun _ => ⟨HEND.out.en, rfl⟩, fun q => by rw [hla] at q; exact absurd q (by decide)⟩, f10⟩
              · have x0 : ((er2 : Int) == 0) = false := by simp; omega
                have HX := hid e0
                clear e0
                go_wp2_with fail
                have f7 : Fr (One (Y + 24)) w6 (w6.setCell ⟨Y + 24, 4, none⟩ (.int .i64 ((10 : Nat) : Int))) := (Fr.refl _ _).set1 _ _
                have h7 := HD6.out.dec (HD6.out.d.set_phase 10) (rngO f7) rfl rfl rfl (fun q => q)
                have f9 := ((((Fr.refl (One N) (w6.setCell ⟨Y + 24, 4, none⟩ (.int .i64 ((10 : Nat) : Int)))).set1 0 (.string ov)).set1 1 (.int .i64 2)).set1 2 (.int .i64 (er2 : Nat))).set1 3 (.int .i64 (pv : Nat))
                have f10 := HFW.out _ ((f7.mono (fun x hx _ => Or.inl (by unfold One at hx; unfold Rng; omega))).trans (f9.mono (fun x hx _ => Or.inr hx)))
                have h9 := h7.fr f9 (fun k a b q => by unfold One at q; have := HYN.out; omega)
                refine bodyPost_ret (v := .agg #[.string ov, .int .i64 2, .int .i64 (er2 : Nat), .int .i64 (pv : Nat)]) (by simp [results, Tryz.results76, go_sem, cellSet, q0, q1, q2, q3]) rfl ?_
                refine hK.out _ _ ⟨sq.out, 2, er2, _, by rw [HOV.out]; rfl, ⟨⟨_, _, h9⟩, HPX.out, HEND.out.ok.out, HEND.out.ok.byte, fun _ => ⟨HEND.out.en, by rw [if_neg HX.out]⟩, fun q => by rw [hla] at q; exact absurd q (by decide)⟩, f10⟩
          · have h8i : ((ph2 : Int) == 8) = false := by rw [hphs]; simp; omega
            have h8j : ((ph2 : Int) != 8) = true := by rw [hphs]; simp; omega
            have htn := turnD_any HM.out.d hg3.1 hg3.2.1 HM.out.ok (by have := HM.out.ok.ph; omega)
            unfold ptrV at htn
            have HTN := hid htn
            have H8 := hid h8
            clear htn hg3 h8 hphs
            go_wp2_with fail
            refine HTN.out.mono ?_
            rintro e w5 ⟨er2, rfl, hT, f5⟩
            obtain ⟨R5, t5, s5, hM5, hp5, hm5⟩ := HM.out.turn H8.out hT
            have HM5 := hid hM5
            have HP5 := hid (HPX.out.trans hp5)
            have HMU5 := hid hm5
            have HF5 := hid (HFR.out.trans f5)
            clear hT f5 hM5 hp5 hm5 k1 h8i h8j
            go_wp2_with fail
            go_roundg (mu tq sq)
            case measure => have := HMU.out (by first | rfl | trivial); omega
            case rel => exact ⟨er2, R5, t5, s5, rfl, HM5.out, HP5.out, HF5.out, fun q => HMU5.out q⟩
        · have hne : ((er : Int) == 0) = false := by simp; omega
          have hne2 : ¬ (er : Int) = 0 := by omega
          have hend : EndF wr Y P2 o0 er Rq tq sq := ⟨HM.out.d, HM.out.buf, HM.out.fed, HM.out.ok, HM.out.stop he0, fun q => HM.out.wait (by omega)⟩
          have HEND := hid hend
          have HF5 := hid HFR.out
          have HER := hid he0
          clear he0 hend k1
          have p1 := HEND.out.d.d.p_buf
          have p2 := HEND.out.d.d.c_n
          obtain ⟨n, hn⟩ : ∃ z, z = Rq.n := ⟨_, rfl⟩
          rw [← hn] at p2
          have hnl : n ≤ 256 := by have h1 := HEND.out.buf.n; have h2 := HEND.out.ok.out; omega
          have hni : (n : Int) ≤ 256 := by omega
          have hcv := conv_str (w := wr.drew) (g := Y + 24 + 3) (o := 0) (n := n) (cap := 256) (f := Rq.buf) (fun i hi => by rw [Nat.zero_add]; exact HEND.out.d.d.drew.a_buf.cell i (by omega))
          have hdm : (List.range n).map Rq.buf = sq.out.drop o0 := by
            rw [← drop_map (o := sq.out) (n := n) (o0 := o0) (by rw [hn]; exact HEND.out.buf.n)]
            exact List.map_congr_left fun i hi => HEND.out.buf.buf i (by rw [← hn]; exact List.mem_range.1 hi)
          rw [hdm] at hcv
          obtain ⟨ov, hov⟩ : ∃ z, z = strN (sq.out.drop o0) := ⟨_, rfl⟩
          rw [← hov] at hcv
          have HOV := hid hov
          clear hn hnl hdm hov
          go_upto_region 17 with fail
          go_region
          obtain ⟨w6, hw6⟩ : ∃ z, z = wr.drew := ⟨_, rfl⟩
          rw [← hw6]
          have hd6 : DecM w6 Y Rq tq := by rw [hw6]; exact HEND.out.d.fr ((Fr.refl Nob wr).drew) (fun _ _ _ x => x)
          have hf6 : Fr (Rng Y (Y + 28)) w0 w6 := by rw [hw6]; exact HF5.out.drew
          have hc6 : ∀ s : DS, Coded wr Y s → Coded w6 Y s := by rw [hw6]; exact fun s h => h.fr ((Fr.refl Nob wr).drew) (fun _ _ _ x => x)
          have HD6 := hid hd6
          have HF6 := hid hf6
          have HC6 := hid hc6
          have HCL6 := hid (HCL.out.fr hf6 (fun q => by have := q.2; have := HYN.out; omega) (by simp))
          clear hw6 hd6 hf6 hc6 p1 p2 hcv hni
          have q0 := HCL6.out.c 0 _ rfl
          have q1 := HCL6.out.c 1 _ rfl
          have q2 := HCL6.out.c 2 _ rfl
          have q3 := HCL6.out.c 3 _ rfl
          have qf := HCL6.out.fz
          have r1 := HD6.out.d.c_phase
          have r2 := HD6.out.d.c_at_
          have rf : ∀ i, w6.frozen? ⟨Y + 24, i, none⟩ = false := HD6.out.d.fz
          obtain ⟨pv, hpv⟩ : ∃ z, z = Rq.at_ := ⟨_, rfl⟩
          rw [← hpv] at r2
          obtain ⟨pz, hpz⟩ : ∃ z, z = Rq.phase := ⟨_, rfl⟩
          rw [← hpz] at r1
          have m1 : ¬ N = Y + 24 := by have := HYN.out; omega
          have m2 : ¬ Y + 24 = N := by have := HYN.out; omega
          have HFW : Hid (∀ w9, Fr (fun k => Rng Y (Y + 28) k ∨ k = N) w6 w9 → Fr (Rng Y (Y + 28)) w w9) := hid (fun w9 h9 => by
            have h8 : Fr (fun k => Rng Y (Y + 28) k ∨ k = N) w0 w9 := (HF6.out.mono (fun x hx _ => Or.inl hx)).trans h9
            exact (HF0.out.mono (fun x hx _ => hx.elim)).trans2 h8 (fun x hx hl => by
              rcases hx with e | e
              · exact e
              · omega))
          clear hpv hpz
          cases hla : last
          · by_cases e0 : er = 0
            · exact absurd e0 HER.out
            · by_cases e4 : er = 4
              · subst e4
                rw [show ((4 : Nat) : Int) = 4 from rfl]
                go_wp2_with fail
                have f9 := ((((Fr.refl (One N) w6).set1 0 (.string ov)).set1 1 (.int .i64 0)).set1 2 (.int .i64 0)).set1 3 (.int .i64 0)
                have f10 := HFW.out _ (f9.mono (fun x hx _ => Or.inr hx))
                have h9 := HD6.out.fr f9 (fun k a b q => by unfold One at q; have := HYN.out; omega)
                refine bodyPost_ret (v := .agg #[.string ov, .int .i64 0, .int .i64 0, .int .i64 0]) (by simp [results, Tryz.results76, go_sem, cellSet, q0, q1, q2, q3]) rfl ?_
                refine hK.out _ _ ⟨sq.out, 0, 0, _, by rw [HOV.out]; rfl, ⟨⟨_, _, h9⟩, HPX.out, HEND.out.ok.out, HEND.out.ok.byte, fun q => by rw [hla] at q; exact absurd q (by decide), fun _ => Or.inl ⟨rfl, rfl, sq, ⟨_, _, o0, h9, (HEND.out.st (Or.inr rfl)).1, (HC6.out _ (HEND.out.st (Or.inr rfl)).2.1).fr f9 (fun k a b q => by unfold One at q; have := HYN.out; omega), (HEND.out.st (Or.inr rfl)).2.2, HEND.out.fed⟩, rfl⟩⟩, f10⟩
              · have x0 : ((er : Int) == 0) = false := by simp; omega
                have x4 : ((er : Int) == 4) = false := by simp; omega
                have HX := hid (And.intro e0 e4)
                clear e0 e4
                go_wp2_with fail
                have f7 : Fr (One (Y + 24)) w6 (w6.setCell ⟨Y + 24, 4, none⟩ (.int .i64 ((10 : Nat) : Int))) := (Fr.refl _ _).set1 _ _
                have h7 := HD6.out.dec (HD6.out.d.set_phase 10) (rngO f7) rfl rfl rfl (fun q => q)
                have f9 := ((((Fr.refl (One N) (w6.setCell ⟨Y + 24, 4, none⟩ (.int .i64 ((10 : Nat) : Int)))).set1 0 (.string ov)).set1 1 (.int .i64 2)).set1 2 (.int .i64 (er : Nat))).set1 3 (.int .i64 (pv : Nat))
                have f10 := HFW.out _ ((f7.mono (fun x hx _ => Or.inl (by unfold One at hx; unfold Rng; omega))).trans (f9.mono (fun x hx _ => Or.inr hx)))
                have h9 := h7.fr f9 (fun k a b q => by unfold One at q; have := HYN.out; omega)
                refine bodyPost_ret (v := .agg #[.string ov, .int .i64 2, .int .i64 (er : Nat), .int .i64 (pv : Nat)]) (by simp [results, Tryz.results76, go_sem, cellSet, q0, q1, q2, q3]) rfl ?_
                refine hK.out _ _ ⟨sq.out, 2, er, _, by rw [HOV.out]; rfl, ⟨⟨_, _, h9⟩, HPX.out, HEND.out.ok.out, HEND.out.ok.byte, fun q => by rw [hla] at q; exact absurd q (by decide), fun _ => Or.inr ⟨rfl, HX.out.1, HX.out.2, HEND.out.en⟩⟩, f10⟩
          · by_cases e0 : er = 0
            · exact absurd e0 HER.out
            · have x0 : ((er : Int) == 0) = false := by simp; omega
              have HX := hid e0
              clear e0
              go_wp2_with fail
              have f7 : Fr (One (Y + 24)) w6 (w6.setCell ⟨Y + 24, 4, none⟩ (.int .i64 ((10 : Nat) : Int))) := (Fr.refl _ _).set1 _ _
              have h7 := HD6.out.dec (HD6.out.d.set_phase 10) (rngO f7) rfl rfl rfl (fun q => q)
              have f9 := ((((Fr.refl (One N) (w6.setCell ⟨Y + 24, 4, none⟩ (.int .i64 ((10 : Nat) : Int)))).set1 0 (.string ov)).set1 1 (.int .i64 2)).set1 2 (.int .i64 (er : Nat))).set1 3 (.int .i64 (pv : Nat))
              have f10 := HFW.out _ ((f7.mono (fun x hx _ => Or.inl (by unfold One at hx; unfold Rng; omega))).trans (f9.mono (fun x hx _ => Or.inr hx)))
              have h9 := h7.fr f9 (fun k a b q => by unfold One at q; have := HYN.out; omega)
              refine bodyPost_ret (v := .agg #[.string ov, .int .i64 2, .int .i64 (er : Nat), .int .i64 (pv : Nat)]) (by simp [results, Tryz.results76, go_sem, cellSet, q0, q1, q2, q3]) rfl ?_
              refine hK.out _ _ ⟨sq.out, 2, er, _, by rw [HOV.out]; rfl, ⟨⟨_, _, h9⟩, HPX.out, HEND.out.ok.out, HEND.out.ok.byte, fun _ => ⟨HEND.out.en, by rw [if_neg HX.out]⟩, fun q => by rw [hla] at q; exact absurd q (by decide)⟩, f10⟩
end Go.Proofs.Qxb6500353aGreat
