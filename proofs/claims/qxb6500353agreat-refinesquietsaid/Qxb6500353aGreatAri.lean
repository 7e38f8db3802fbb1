/- The real archive: drain, walked. -/
import Derived.Test.Qxb6500353aGreatArh
namespace Go.Proofs.Qxb6500353aGreat
open Go.RowKit
set_option linter.unusedVariables false
set_option linter.unusedSimpArgs false

theorem slc_app {l : List Nat} {a m n : Nat} (h1 : a ≤ m) (h2 : m ≤ n) : slc l a m ++ slc l m n = slc l a n := by
  unfold slc
  rw [show n - a = (m - a) + (n - m) by omega, List.take_add, List.drop_drop, show a + (m - a) = m by omega]
theorem slc_len {l : List Nat} {a b : Nat} (h : b ≤ l.length) : (slc l a b).length = b - a := by unfold slc; rw [List.length_take, List.length_drop]; omega
theorem slc_nil (l : List Nat) (a : Nat) : slc l a a = [] := by unfold slc; rw [Nat.sub_self]; rfl
theorem slc_byte {l : List Nat} (h : ∀ x ∈ l, x < 256) (a b : Nat) : ∀ x ∈ slc l a b, x < 256 := fun x hx => h x (List.mem_of_mem_drop (List.mem_of_mem_take hx))
theorem ext_slc (s : ByteArray) (a b : Nat) : bytesOf (s.extract a b) = slc (bytesOf s) a b := bytesOf_sub s a b
theorem ArM.decz {w w2 : World} {X Z : Nat} {R : ArR} (h : ArM w X Z R) (hd : DecZ w2 (X + 33)) (hf : Fr (Rng (X + 33) (X + 33 + 28)) w w2) : ArM w2 X Z R := by
  have hl := h.le
  exact ⟨h.enc.fr hf fun k a b q => by have := q.1; omega, hd, h.ar.fr hf fun k a b q => by have := q.2; omega, h.k, h.d, h.le, h.fl⟩
theorem rngF {X Z : Nat} {w w2 : World} (h : X + 61 ≤ Z) (hf : Fr (Rng (X + 33) (X + 33 + 28)) w w2) : Fr (Rng X (Z + 5)) w w2 := hf.mono fun x hx _ => by unfold Rng at *; omega
/-- The data gathered so far. -/
structure Gn (R : ArR) (o : List Nat) : Prop where
  gain : ∀ i, i < o.length → R.gain i = o.getD i 0
  len : o.length ≤ 256
  byte : ∀ c ∈ o, c < 256
theorem CellsAt.set4 {w : World} {g : Nat} {a b c d v0 v1 v2 v3 : Value} (h : CellsAt w g [a, b, c, d]) : CellsAt ((((w.setCell ⟨g, 0, none⟩ v0).setCell ⟨g, 1, none⟩ v1).setCell ⟨g, 2, none⟩ v2).setCell ⟨g, 3, none⟩ v3) g [v0, v1, v2, v3] := by
  have h0 := h.c 0 _ rfl
  have h1 := h.c 1 _ rfl
  have h2 := h.c 2 _ rfl
  have h3 := h.c 3 _ rfl
  refine ⟨fun i v hv => ?_, fun i => (Thaw.set (Thaw.set (Thaw.set (Thaw.set h.fz _ _) _ _) _ _) _ _) i⟩
  have hi : i = 0 ∨ i = 1 ∨ i = 2 ∨ i = 3 := by
    refine Classical.byContradiction fun q => ?_
    rw [List.getElem?_eq_none (by simp; omega)] at hv; simp at hv
  rcases hi with rfl | rfl | rfl | rfl
  · simp only [List.getElem?_cons_zero, Option.some.injEq] at hv; subst hv
    exact (cellNe (by omega)).trans ((cellNe (by omega)).trans ((cellNe (by omega)).trans (cellSet h0)))
  · simp only [List.getElem?_cons_succ, List.getElem?_cons_zero, Option.some.injEq] at hv; subst hv
    exact (cellNe (by omega)).trans ((cellNe (by omega)).trans (cellSet ((cellNe (by omega)).trans h1)))
  · simp only [List.getElem?_cons_succ, List.getElem?_cons_zero, Option.some.injEq] at hv; subst hv
    exact (cellNe (by omega)).trans (cellSet ((cellNe (by omega)).trans ((cellNe (by omega)).trans h2)))
  · simp only [List.getElem?_cons_succ, List.getElem?_cons_zero, Option.some.injEq] at hv; subst hv
    exact cellSet ((cellNe (by omega)).trans ((cellNe (by omega)).trans ((cellNe (by omega)).trans h3)))
theorem CellsAt.of4 {w : World} {g : Nat} {a b c d : Value} (h0 : w.cell? ⟨g, 0, none⟩ = some a) (h1 : w.cell? ⟨g, 1, none⟩ = some b) (h2 : w.cell? ⟨g, 2, none⟩ = some c) (h3 : w.cell? ⟨g, 3, none⟩ = some d) (hz : ∀ i, w.frozen? ⟨g, i, none⟩ = false) : CellsAt w g [a, b, c, d] := by
  refine ⟨fun i v hv => ?_, hz⟩
  have hi : i = 0 ∨ i = 1 ∨ i = 2 ∨ i = 3 := by
    refine Classical.byContradiction fun q => ?_
    rw [List.getElem?_eq_none (by simp; omega)] at hv; simp at hv
  rcases hi with rfl | rfl | rfl | rfl
  · simp only [List.getElem?_cons_zero, Option.some.injEq] at hv; subst hv; exact h0
  · simp only [List.getElem?_cons_succ, List.getElem?_cons_zero, Option.some.injEq] at hv; subst hv; exact h1
  · simp only [List.getElem?_cons_succ, List.getElem?_cons_zero, Option.some.injEq] at hv; subst hv; exact h2
  · simp only [List.getElem?_cons_succ, List.getElem?_cons_zero, Option.some.injEq] at hv; subst hv; exact h3
theorem FeedO.fr {S : Nat → Prop} {w w2 : World} {Y : Nat} {P : List Nat} {s : DS} {last : Bool} {o : List Nat} {st er : Nat} (h : FeedO w Y P s last o st er) (hf : Fr S w w2) (hn : ∀ k, Y ≤ k → k < Y + 28 → ¬ S k) : FeedO w2 Y P s last o st er :=
  ⟨h.z.fr hf hn, h.px, h.len, h.byte, h.fin, fun q => by
    rcases h.more q with ⟨a, b, s', c, d⟩ | e
    · exact .inl ⟨a, b, s', c.fr hf hn, d⟩
    · exact .inr e⟩
theorem sets4 {S : Nat → Prop} {a w : World} {g : Nat} (hg : S g) (h : Fr S a w) (v0 v1 v2 v3 : Value) : Fr S a ((((w.setCell ⟨g, 0, none⟩ v0).setCell ⟨g, 1, none⟩ v1).setCell ⟨g, 2, none⟩ v2).setCell ⟨g, 3, none⟩ v3) := (((h.setS hg _ _).setS hg _ _).setS hg _ _).setS hg _ _
set_option maxRecDepth 100000 in
set_option maxHeartbeats 16000000 in
theorem drainA_any {w : World} {X Z : Nat} {R : ArR} (h : ArM w X Z R) {s : ByteArray} {a b : Nat} (hs : s.size ≤ 1200) (hab : a ≤ b) (hb : b ≤ s.size) (h512 : b ≤ a + 512) :
    Calls Tryz.prog 59 #[ptrV Z, .string s, .int .i64 (a : Nat), .int .i64 (b : Nat)] w fun e w' => ∃ (er : Nat) (o : List Nat) (R2 : ArR), e = .returned (.tuple #[.int .i64 ((if er = 0 then o.length else 0 : Nat) : Int), .int .i64 ((if er = 0 then sumF o else 0 : Nat) : Int), .int .i64 (er : Nat)]) ∧ Ends (Tp.load (slc (bytesOf s) a b)) DS.init er o ∧ ArM w' X Z R2 ∧ R2.tab = R.tab ∧ (er = 0 → Gn R2 o) ∧ Fr (Rng X (Z + 5)) w w' := by
  obtain ⟨raw, hraw⟩ : ∃ z, z = bytesOf s := ⟨_, rfl⟩
  have hbyt : ∀ x ∈ raw, x < 256 := by rw [hraw]; exact bytesOf_lt s
  have hrl : raw.length = s.size := by rw [hraw, bytesOf_len]
  rw [← hraw]
  have c1 := h.ar.c_d
  rw [h.d] at c1
  unfold ptrV at c1
  have hrs := resetD_any h.dec
  unfold ptrV at hrs
  have H := hid h
  have HRS := hid hrs
  have HRAW := hid hraw
  have HBY := hid hbyt
  have HRL := hid hrl
  have HAB := hid (And.intro hs (And.intro hab (And.intro hb h512)))
  clear h hrs hraw hbyt hrl
  refine calls_via fun K hK => ?_
  unfold ptrV
  go_enter Tryz.func59, Tryz.ntmps59
  go_wp2_with fail
  refine HRS.out.mono ?_
  rintro e w1 ⟨rfl, hd1, f1⟩
  have H1 := hid (H.out.decz hd1.z f1)
  have HD1 := hid hd1
  have F1 := hid (rngF H.out.le f1)
  clear hd1 f1 c1 hs hab hb h512
  go_wp2_with fail
  go_loopg [2, 11, 12, 13, 14] (b - a + 2) (fun g fv nv lv hv tv wr => ∃ (fr n lo hi : Nat) (lst : Bool) (o : List Nat) (Rk : ArR), fv = .int .i64 (fr : Nat) ∧ nv = .int .i64 (n : Nat) ∧ n = o.length ∧ lv = .int .i64 (lo : Nat) ∧ hv = .int .i64 (hi : Nat) ∧ (lo, hi) = sumG o 1 0 ∧ tv = .bool lst ∧ ArM wr X Z Rk ∧ Rk.tab = R.tab ∧ Gn Rk o ∧ Fr (Rng X (Z + 5)) w wr ∧ 1 ≤ g ∧ (lst = false → a ≤ fr ∧ fr ≤ b ∧ b - fr + 2 ≤ g ∧ ∃ sd, DecS wr (X + 33) (slc raw a fr) sd ∧ sd.out = o) ∧ (lst = true → Ends (Tp.load (slc raw a b)) DS.init 0 o))
  case atStart => exact ⟨a, 0, 1, 0, false, [], R, rfl, rfl, rfl, rfl, rfl, rfl, rfl, H1.out, rfl, ⟨fun i hi => by simp at hi, by simp, fun c hc => by simp at hc⟩, F1.out, by omega, fun _ => ⟨Nat.le_refl _, HAB.out.2.1, Nat.le_refl _, DS.init, by rw [slc_nil]; exact HD1.out, rfl⟩, fun q => by simp at q⟩
  case round =>
    obtain ⟨fr, n, lo, hi, lst, o, Rk, rfl, rfl, hn, rfl, rfl, hsum, rfl, hA, htab, hG, hF, hg1, hrun, hend⟩ := hrel
    have HA := hid hA
    have HTAB := hid htab
    have HGN := hid hG
    have HF := hid hF
    have HG := hid hg1
    have HN := hid hn
    have HSUM := hid hsum
    have HRUN := hid hrun
    have HEND := hid hend
    have hlt := sumG_lt o 1 0 (by decide) (by decide)
    rw [← hsum] at hlt
    dsimp only at hlt
    have hloi : (lo : Int) < 251 := by omega
    have hhii : (hi : Int) < 251 := by omega
    have hni : (n : Int) ≤ 256 := by have := hG.len; omega
    clear hA htab hG hF hg1 hn hsum hrun hend hlt
    cases lst with
    | true =>
      obtain ⟨sm, hsm⟩ : ∃ z, z = sumF o := ⟨_, rfl⟩
      have e2 : (hi : Int) * 256 + (lo : Int) = (sm : Int) := by
        rw [hsm]; unfold sumF; rw [← HSUM.out]; dsimp only; omega
      have HSM := hid hsm
      clear hsm
      go_wp2_with fail
      try go_ret3
      refine hK.out _ _ ⟨0, o, Rk, ?_, HEND.out (by first | rfl | trivial), HA.out, HTAB.out, fun _ => HGN.out, HF.out⟩
      rw [if_pos rfl, if_pos rfl, ← HN.out, ← HSM.out]; rfl
    | false =>
      obtain ⟨r1, r2, r3, sd, hds, hso⟩ := HRUN.out rfl
      have HR := hid (And.intro r1 (And.intro r2 r3))
      have HDS := hid hds
      have HSO := hid hso
      have hab := HAB.out
      have l1 : (fr : Int) ≤ b := by omega
      have l2 : (b : Int) ≤ s.size := by omega
      have l3 : (s.size : Int) ≤ 1200 := by omega
      clear hds hso r1 r2 r3 hab
      go_upto_if 30 with (fail)
      go_cut [14, 15] (fun lv ev wx => wx = wr ∧ ∃ (e : Nat) (lb : Bool), lv = .bool lb ∧ ev = .int .i64 (e : Nat) ∧ fr ≤ e ∧ e ≤ b ∧ (lb = true → e = b) ∧ (lb = false → e = fr + 64))
      case first =>
        by_cases c3 : b ≤ fr + 64
        · have c3i : (b : Int) ≤ (fr : Int) + 64 := by omega
          clear c3
          go_wp2_with fail
          go_meet
          exact ⟨rfl, b, true, rfl, rfl, HR.out.2.1, Nat.le_refl _, fun _ => rfl, fun q => by simp at q⟩
        · have c3i : ¬ (b : Int) ≤ (fr : Int) + 64 := by omega
          have hbb : fr + 64 ≤ b := by omega
          clear c3
          go_wp2_with fail
          go_meet
          exact ⟨rfl, fr + 64, false, rfl, rfl, by omega, hbb, fun q => by simp at q, fun _ => rfl⟩
      case rest =>
      obtain ⟨hwc, e, lb, rfl, rfl, hfe, heb, hlt, hlf⟩ := hcut
      rw [hwc]
      clear hwc
      have hq : bytesOf (s.extract fr e) = slc raw fr e := by rw [ext_slc, HRAW.out]
      have hqs : (s.extract fr e).size = e - fr := by rw [← bytesOf_len, hq, slc_len (by rw [HRL.out]; have := HAB.out; omega)]
      have hP2 : slc raw a fr ++ bytesOf (s.extract fr e) = slc raw a e := by rw [hq]; exact slc_app HR.out.1 hfe
      obtain ⟨NZ, hNZ⟩ : ∃ z, wr.heap.size = z := ⟨_, rfl⟩
      have hzn : Z + 5 ≤ NZ := by rw [← hNZ]; have := HA.out.lt; omega
      have HFD : Hid (∀ wx, Fr Nob wr wx → Calls Tryz.prog 76 #[.pointer (some ⟨X + 33 + 24, 0, none⟩), .string (s.extract fr e), .bool lb] wx fun e2 w' => ∃ (o2 : List Nat) (st er : Nat) (ps : Int), e2 = .returned (.agg #[.string (strN (o2.drop o.length)), .int .i64 (st : Nat), .int .i64 (er : Nat), .int .i64 ps]) ∧ FeedO w' (X + 33) (slc raw a e) sd lb o2 st er ∧ Fr (Rng (X + 33) (X + 33 + 28)) wx w') := hid (fun wx hfx => by
        have h9 := feed_any (HDS.out.fr hfx (fun _ _ _ x => x)) (slc_byte HBY.out _ _) (q := s.extract fr e) (by rw [slc_len (by rw [HRL.out]; have := HAB.out; have := HR.out; omega), hqs]; have := HAB.out; have := HR.out; omega) (last := lb)
        rw [hP2, HSO.out] at h9
        exact h9)
      have hcn := CellsAt.mk_alloc wr [.string ⟨#[]⟩, .int .i64 0, .int .i64 0, .int .i64 0] 148
      change CellsAt (wr.alloc (Obj.cells #[.string ⟨#[]⟩, .int .i64 0, .int .i64 0, .int .i64 0] 148)) wr.heap.size _ at hcn
      rw [hNZ] at hcn
      have HCN := hid hcn
      have HZ0 : Hid ((wr.alloc (Obj.cells #[.string ⟨#[]⟩, .int .i64 0, .int .i64 0, .int .i64 0] 148)).drew.cell? ⟨NZ, 0, none⟩ = some (.string ⟨#[]⟩)) := hid (hcn.c 0 _ rfl)
      have HZ1 : Hid ((wr.alloc (Obj.cells #[.string ⟨#[]⟩, .int .i64 0, .int .i64 0, .int .i64 0] 148)).drew.cell? ⟨NZ, 1, none⟩ = some (.int .i64 0)) := hid (hcn.c 1 _ rfl)
      have HZ2 : Hid ((wr.alloc (Obj.cells #[.string ⟨#[]⟩, .int .i64 0, .int .i64 0, .int .i64 0] 148)).drew.cell? ⟨NZ, 2, none⟩ = some (.int .i64 0)) := hid (hcn.c 2 _ rfl)
      have HZ3 : Hid ((wr.alloc (Obj.cells #[.string ⟨#[]⟩, .int .i64 0, .int .i64 0, .int .i64 0] 148)).drew.cell? ⟨NZ, 3, none⟩ = some (.int .i64 0)) := hid (hcn.c 3 _ rfl)
      have HZF : Hid (∀ i, (wr.alloc (Obj.cells #[.string ⟨#[]⟩, .int .i64 0, .int .i64 0, .int .i64 0] 148)).drew.frozen? ⟨NZ, i, none⟩ = false) := hid hcn.fz
      have HZS : Hid (NZ < (wr.alloc (Obj.cells #[.string ⟨#[]⟩, .int .i64 0, .int .i64 0, .int .i64 0] 148)).drew.heap.size) := hid (lt_of_cellB (hcn.c 0 _ rfl))
      have HZN := hid hzn
      have HNZ := hid hNZ
      have HEL := hid (And.intro hfe (And.intro heb (And.intro hlt hlf)))
      have c1 := HA.out.ar.c_d
      rw [HA.out.d] at c1
      unfold ptrV at c1
      have c1a : (wr.alloc (Obj.cells #[.string ⟨#[]⟩, .int .i64 0, .int .i64 0, .int .i64 0] 148)).drew.cell? ⟨Z, 1, none⟩ = some (.pointer (some ⟨X + 33 + 24, 0, none⟩)) := (((Fr.refl Nob wr).alloc (Obj.cells #[.string ⟨#[]⟩, .int .i64 0, .int .i64 0, .int .i64 0] 148)).drew).cell c1 (fun x => x)
      have m1 : (fr : Int) ≤ e := by omega
      have m2 : (e : Int) ≤ s.size := by omega
      have m3 : ¬ NZ = Z := by omega
      clear hq hqs hP2 hcn hfe heb hlt hlf hzn
      go_upto_region 11 with fail
      go_cut [16] (fun d wx => ∃ (NB : Nat) (o2 : List Nat) (st er : Nat) (ps : Int), d = .pointer (some ⟨NB, 0, none⟩) ∧ CellsAt wx NB [.string (strN (o2.drop o.length)), .int .i64 (st : Nat), .int .i64 (er : Nat), .int .i64 ps] ∧ FeedO wx (X + 33) (slc raw a e) sd lb o2 st er ∧ Fr (fun k => Rng (X + 33) (X + 33 + 28) k ∨ NZ ≤ k) wr wx ∧ NZ ≤ NB)
      case first =>
        go_region_with (go_at_call 76; refine (HFD.out _ (by first | exact Fr.refl _ _ | exact (Fr.refl _ _).drew | exact Fr.of_drewN | exact ((Fr.refl Nob wr).alloc _).drew)).mono ?_; rintro e2 w2 ⟨o2, st, er, ps, rfl, hfo, hf2⟩; have HFO := hid hfo; have HF2 := hid hf2; clear hfo hf2; first | (have e0 := HF2.out.cell HZ0.out (fun q => by have := q.2; have := HZN.out; have := HA.out.le; omega); have e1 := HF2.out.cell HZ1.out (fun q => by have := q.2; have := HZN.out; have := HA.out.le; omega); have e2' := HF2.out.cell HZ2.out (fun q => by have := q.2; have := HZN.out; have := HA.out.le; omega); have e3 := HF2.out.cell HZ3.out (fun q => by have := q.2; have := HZN.out; have := HA.out.le; omega); have ef : ∀ i, w2.frozen? ⟨NZ, i, none⟩ = false := (fun i => (HF2.out.froz HZS.out (fun q => by have := q.2; have := HZN.out; have := HA.out.le; omega) i).trans (HZF.out i)); have HCE := hid (CellsAt.of4 e0 e1 e2' e3 ef)) | (obtain ⟨w3, hw3⟩ : ∃ z, w2.alloc (Obj.cells #[.string ⟨#[]⟩, .int .i64 0, .int .i64 0, .int .i64 0] 148) = z := ⟨_, rfl⟩; have hc2 : CellsAt w3 w2.heap.size [.string ⟨#[]⟩, .int .i64 0, .int .i64 0, .int .i64 0] := hw3 ▸ CellsAt.mk_alloc w2 [.string ⟨#[]⟩, .int .i64 0, .int .i64 0, .int .i64 0] 148; have g0 := hc2.c 0 _ rfl; have g1 := hc2.c 1 _ rfl; have g2 := hc2.c 2 _ rfl; have g3 := hc2.c 3 _ rfl; have gz : ∀ i, w3.frozen? ⟨w2.heap.size, i, none⟩ = false := hc2.fz; have HC2 := hid hc2; have HF3 : Hid (Fr Nob w2 w3) := hid (hw3 ▸ (Fr.refl Nob w2).alloc _); clear hc2))
        all_goals (go_wp2_with fail; go_meet)
        all_goals first
          | exact ⟨w2.heap.size, o2, st, er, ps, rfl, HC2.out.set4, (HFO.out.fr HF3.out (fun _ _ _ x => x)).fr (sets4 (S := One w2.heap.size) rfl (Fr.refl _ _) _ _ _ _) (fun k a b q => by unfold One at q; have h1 : wr.heap.size ≤ w2.heap.size := HF2.out.size; have := HZN.out; have := HNZ.out; have := HA.out.le; omega), sets4 (Or.inr (by have h1 : wr.heap.size ≤ w2.heap.size := HF2.out.size; have := HNZ.out; omega)) (by first | exact ((HF2.out.mono (fun x hx _ => Or.inl hx)).trans (HF3.out.mono fun x hx _ => hx.elim)) | exact (((Fr.refl _ wr).drew.trans (HF2.out.mono (fun x hx _ => Or.inl hx))).trans (HF3.out.mono fun x hx _ => hx.elim))) _ _ _ _, by have h1 : wr.heap.size ≤ w2.heap.size := HF2.out.size; have := HNZ.out; omega⟩
          | exact ⟨NZ, o2, st, er, ps, rfl, HCE.out.set4, HFO.out.fr (sets4 (S := One NZ) rfl (Fr.refl _ _) _ _ _ _) (fun k a b q => by unfold One at q; have := HZN.out; have := HA.out.le; omega), sets4 (Or.inr (Nat.le_refl _)) ((((Fr.refl _ wr).alloc _).drew).trans (HF2.out.mono (fun x hx _ => Or.inl hx))) _ _ _ _, Nat.le_refl _⟩
      case rest =>
      obtain ⟨NB, o2, st, er, ps, rfl, hcB, hfo, hfr, hNB⟩ := hcut
      obtain ⟨w2, hw2⟩ : ∃ z, z = wc := ⟨_, rfl⟩
      rw [← hw2] at hcB hfo hfr ⊢
      clear hw2
      have hzle := HA.out.le
      have h2 : ArM w2 X Z Rk := ⟨HA.out.enc.fr hfr fun k a b q => by rcases q with q | q; (have := q.1; omega); (have := HZN.out; omega), hfo.z, HA.out.ar.fr hfr fun k a b q => by rcases q with q | q; (have := q.2; omega); (have := HZN.out; omega), HA.out.k, HA.out.d, HA.out.le, HA.out.fl⟩
      have F2 := hid (HF.out.trans2 hfr (fun x hx hl => by
        rcases hx with q | q
        · exact ⟨by have := q.1; omega, by have := q.2; omega⟩
        · have := HF.out.size; have := HNZ.out; omega))
      obtain ⟨xx, hxx⟩ := hfo.px
      rw [HSO.out] at hxx
      have hlen2 := hfo.len
      have hbo2 := hfo.byte
      have htk : o2.take o.length = o := by rw [hxx]; exact List.take_left
      have hol : o.length ≤ o2.length := by rw [hxx, List.length_append]; omega
      have hovb : bytesOf (strN (o2.drop o.length)) = o2.drop o.length := bytesOf_strN fun x hx => hbo2 x (List.mem_of_mem_drop hx)
      obtain ⟨ov, hov⟩ : ∃ z, z = strN (o2.drop o.length) := ⟨_, rfl⟩
      rw [← hov] at hcB hovb
      obtain ⟨m, hm⟩ : ∃ z, z = o2.length - o.length := ⟨_, rfl⟩
      have hovs : ov.size = m := by rw [← bytesOf_len, hovb, List.length_drop, hm]
      have hmi : (m : Int) ≤ 256 := by omega
      have hosi : (ov.size : Int) = (m : Int) := by omega
      have H2 := hid h2
      have HCB := hid hcB
      have HFO := hid hfo
      have HTK := hid htk
      have HOV := hid hovb
      have HM := hid (And.intro hm (And.intro hol (And.intro hlen2 hovs)))
      have HNB := hid hNB
      have HBO := hid hbo2
      have HST := hid (sumG_take o2)
      clear c1 c1a m1 m2 l1 l2 l3 hcB hfo hfr hNB hxx hlen2 hbo2 htk hol hovb hov hm hovs h2 hzle
      go_wp2_with fail
      go_loopg [11, 12, 13, 17] m (fun g nv lv hv jv wr => ∃ (j lo hi : Nat) (Rj : ArR), jv = .int .i64 (j : Nat) ∧ g + j = m ∧ nv = .int .i64 ((n + j : Nat) : Int) ∧ lv = .int .i64 (lo : Nat) ∧ hv = .int .i64 (hi : Nat) ∧ (lo, hi) = sumG (o2.take (n + j)) 1 0 ∧ ArM wr X Z Rj ∧ Rj.tab = R.tab ∧ Gn Rj (o2.take (n + j)) ∧ CellsAt wr NB [.string ov, .int .i64 (st : Nat), .int .i64 (er : Nat), .int .i64 ps] ∧ FeedO wr (X + 33) (slc raw a e) sd lb o2 st er ∧ Fr (Rng X (Z + 5)) w wr)
      case atStart => exact ⟨0, lo, hi, Rk, rfl, by omega, rfl, rfl, rfl, by rw [Nat.add_zero, HN.out, HTK.out]; exact HSUM.out, H2.out, HTAB.out, by rw [Nat.add_zero, HN.out, HTK.out]; exact HGN.out, HCB.out, HFO.out, F2.out⟩
      case round =>
        obtain ⟨j, lo2, hi2, Rj, rfl, hg, rfl, rfl, rfl, hsum, hA, htab, hG, hC, hFO, hF⟩ := hrel
        have HA2 := hid hA
        have HTAB2 := hid htab
        have HG2 := hid hG
        have HC2 := hid hC
        have HFO2 := hid hFO
        have HF2 := hid hF
        have HGK := hid hg
        have k0 := hC.c 0 _ rfl
        have k1 := hC.c 1 _ rfl
        have k2 := hC.c 2 _ rfl
        have hlt := sumG_lt (o2.take (n + j)) 1 0 (by decide) (by decide)
        rw [← hsum] at hlt
        dsimp only at hlt
        have hloi2 : (lo2 : Int) < 251 := by omega
        have hhii2 : (hi2 : Int) < 251 := by omega
        by_cases hj : j < m
        · have hji : (j : Int) < m := by omega
          have hnj : n + j < o2.length := by have := HM.out; have := HN.out; omega
          have hjs : j < ov.size := by have := HM.out.2.2.2; omega
          have b1 := byteI ov hjs
          have b2 : by_ (bytesOf ov) j = by_ o2 (n + j) := by
            rw [HOV.out, ← HN.out]; unfold by_; rw [List.getD_eq_getElem?_getD, List.getD_eq_getElem?_getD, List.getElem?_drop]
          have h1 : by_ o2 (n + j) < 256 := by_lt HBO.out _
          have hst2 := HST.out (n + j) hnj
          rw [← hsum] at hst2
          rw [b2] at b1
          obtain ⟨x, hx⟩ : ∃ x, x = by_ o2 (n + j) := ⟨_, rfl⟩
          rw [← hx] at b1 h1 hst2
          have hxi : (x : Int) < 256 := by omega
          have hwx : IntKind.i64.wrap (x : Int) = x := wrapI (by omega) (by omega)
          have hjs2 : (j : Int) < ov.size := by omega
          have hnj2 : n + j < 256 := by have := HM.out.2.2.1; omega
          obtain ⟨nj, hnj3⟩ : ∃ z, z = n + j := ⟨_, rfl⟩
          rw [← hnj3] at hnj2 hnj hst2 hx ⊢
          have hnji : (nj : Int) < 256 := by omega
          have c1 := hA.ar.p_gain
          have c2 := hA.ar.a_gain.cell nj hnj2
          simp only [mkB] at c2
          obtain ⟨y, hy⟩ : ∃ z, z = Rj.gain nj := ⟨_, rfl⟩
          rw [← hy] at c2
          have cz : ∀ i, wr.frozen? ⟨Z + 4, i, none⟩ = false := hA.ar.a_gain.thaw
          have f4 : Fr (Rng Z (Z + 5)) wr (wr.setCell ⟨Z + 4, nj, none⟩ (.int .u8 (x : Nat))) := (Fr.refl _ _).setS ⟨by omega, by omega⟩ _ _
          have h4 := hA.arch (hA.ar.set_gain nj x) ⟨rfl, rfl, rfl, fun h => h⟩ f4
          have hg4 : Gn { Rj with gain := upd Rj.gain nj x } (o2.take (nj + 1)) := by
            refine ⟨fun i hi => ?_, by rw [List.length_take]; omega, fun c hc => HBO.out c (List.mem_of_mem_take hc)⟩
            rw [List.length_take] at hi
            show upd Rj.gain nj x i = _
            by_cases e : i = nj
            · subst e; rw [upd_self, hx]; unfold by_; rw [List.getD_eq_getElem?_getD, List.getD_eq_getElem?_getD, List.getElem?_take, if_pos (by omega)]
            · rw [upd_ne _ _ _ _ e]
              have := hG.gain i (by rw [List.length_take, ← hnj3]; omega)
              rw [this, ← hnj3, List.getD_eq_getElem?_getD, List.getD_eq_getElem?_getD, List.getElem?_take, List.getElem?_take, if_pos (by omega), if_pos (by omega)]
          have H4 := hid h4
          have HG4 := hid hg4
          have HNJ := hid hnj3
          have hNz : ¬ Rng Z (Z + 5) NB := fun q => by have := q.2; have := HNB.out; have := HZN.out; omega
          have HC4 := hid (hC.fr f4 hNz (by simp))
          have HFO4 := hid (hFO.fr f4 (fun k a b q => by have := q.1; have := HA.out.le; omega))
          have HF4 := hid (hF.trans (rngZ (by have := HA.out.le; omega) f4))
          have HS2 := hid hst2
          clear hA htab hG hC hFO hF hg hlt hj hnj b2 h1 hx hy f4 h4 hg4 hnj2 hnj3 hst2 hsum hNz k1 k2
          go_wp2_with fail
          go_roundg (gk - 1)
          case measure => have := HGK.out; omega
          case rel =>
            have hnx : n + (j + 1) = nj + 1 := by have := HNJ.out; omega
            refine ⟨j + 1, (lo2 + x) % 251, (hi2 + lo2 + x) % 251, _, by simp, by have := HGK.out; omega, by rw [hnx]; simp, by first | rfl | simp, by first | rfl | (simp; omega), ?_, H4.out, HTAB2.out, by rw [hnx]; exact HG4.out, HC4.out, HFO4.out, HF4.out⟩
            rw [hnx, HS2.out]
            refine Prod.ext rfl ?_
            show (hi2 + lo2 + x) % 251 = (hi2 + (lo2 + x) % 251) % 251
            omega
        · have hji : ¬ (j : Int) < m := by omega
          have hjm : j = m := by omega
          subst hjm
          have hnm2 : n + j = o2.length := by have := HM.out; have := HN.out; omega
          have hall : o2.take (n + j) = o2 := List.take_of_length_le (by omega)
          have HALL := hid hall
          have HNM := hid hnm2
          have HSM2 := hid hsum
          clear hA htab hG hC hFO hF hg hlt hj hsum hall hnm2
          cases lb with
          | true =>
            have hb := HEL.out.2.2.1 rfl
            have hfin := HFO2.out.fin rfl
            have HFI := hid hfin
            have HB2 := hid hb
            by_cases e0 : er = 0
            · have hst1 : st = 1 := by rw [hfin.2, if_pos e0]
              subst hst1
              have E0 := hid e0
              clear hb hfin e0 k2
              rw [show ((1 : Nat) : Int) = 1 from rfl] at k1
              go_wp2_with fail
              go_roundg 1
              case measure => have := (HRUN.out (by first | rfl | trivial)).2.2.1; omega
              case rel => exact ⟨b, n + j, lo2, hi2, true, o2, Rj, by rw [← HB2.out], rfl, HNM.out, rfl, rfl, by rw [← HALL.out]; exact HSM2.out, rfl, HA2.out, HTAB2.out, by have h9 := HG2.out; rw [HALL.out] at h9; exact h9, HF2.out, Nat.le_refl _, fun q => by simp at q, fun _ => by have h9 := HFI.out.1; rw [E0.out, HB2.out] at h9; exact h9⟩
            · have hst2 : st = 2 := by rw [hfin.2, if_neg e0]
              subst hst2
              have E0 := hid e0
              clear hb hfin e0
              rw [show ((2 : Nat) : Int) = 2 from rfl] at k1
              go_upto_region 22 with fail
              go_quiet (fail)
              go_wp2_with fail
              try go_ret3
              refine hK.out _ _ ⟨er, o2, Rj, ?_, by have h9 := HFI.out.1; rw [HB2.out] at h9; exact h9, HA2.out.fr (S := Nob) Fr.of_drewN (fun _ _ _ x => x), HTAB2.out, fun q => absurd q E0.out, HF2.out.drewN⟩
              rw [if_neg E0.out, if_neg E0.out]; rfl
          | false =>
            have hmo := HFO2.out.more rfl
            have hef := HEL.out.2.2.2 rfl
            rcases hmo with ⟨hst1, he0, s', hds, hso⟩ | ⟨hst2, he0, he4, hen⟩
            · subst hst1
              have HX := hid (And.intro hds (And.intro hso hef))
              clear hds hso he0 hef k2
              rw [show ((0 : Nat) : Int) = 0 from rfl] at k1
              go_wp2_with fail
              go_roundg (b - e + 2)
              case measure => have := (HRUN.out (by first | rfl | trivial)).2.2.1; have := HX.out.2.2; have := HEL.out.2.1; omega
              case rel => exact ⟨e, n + j, lo2, hi2, false, o2, Rj, rfl, rfl, HNM.out, rfl, rfl, by rw [← HALL.out]; exact HSM2.out, rfl, HA2.out, HTAB2.out, by have h9 := HG2.out; rw [HALL.out] at h9; exact h9, HF2.out, by omega, fun _ => ⟨by have := HR.out; have := HEL.out; omega, HEL.out.2.1, Nat.le_refl _, s', HX.out.1, HX.out.2.1⟩, fun q => by simp at q⟩
            · subst hst2
              have E0 := hid he0
              have hen2 := ends_more (Q := slc raw e b) (slc_byte HBY.out a e) hen he4 he0
              rw [slc_app (by have := HR.out; have := HEL.out; omega) HEL.out.2.1] at hen2
              have HEN := hid hen2
              clear he0 he4 hen hef hen2
              rw [show ((2 : Nat) : Int) = 2 from rfl] at k1
              go_upto_region 22 with fail
              go_quiet (fail)
              go_wp2_with fail
              try go_ret3
              refine hK.out _ _ ⟨er, o2, Rj, ?_, HEN.out, HA2.out.fr (S := Nob) Fr.of_drewN (fun _ _ _ x => x), HTAB2.out, fun q => absurd q E0.out, HF2.out.drewN⟩
              rw [if_neg E0.out, if_neg E0.out]; rfl
end Go.Proofs.Qxb6500353aGreat
