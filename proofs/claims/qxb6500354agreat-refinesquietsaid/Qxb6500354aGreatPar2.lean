/- THE WALKS over cnf: rest, endRow. -/
import Derived.Test.Qxb6500354aGreatPar
namespace Go.Proofs.Qxb6500354aGreat
open Go.RowKit
set_option linter.unusedVariables false
set_option linter.unusedSimpArgs false

theorem ParAt.cut {w : World} {b : Nat} {P : ParS} {g n cap : Nat} (h : ParAt w b P (.slice (some ⟨g, 0, none⟩) n cap)) : ParAt (w.setCell ⟨b, 0, none⟩ (.slice (some ⟨g, 0, none⟩) 0 cap)) b { P with arena := [] } (.slice (some ⟨g, 0, none⟩) 0 cap) := by
  have hd : g ≠ b := fun e => h.dj (by rw [← e]; rfl)
  refine ⟨h.at_.set_arena _, ?_, h.pos, h.neg, fun e => hd (by simpa [Value.ownBlock] using e)⟩
  exact h.own.cut.fr (S := [b]) ((Fr.refl _ _).set (by simp) _) (fun q hq hm => by simp [Value.ownBlock] at hq hm; omega)
theorem ParAt.cut0 {w : World} {b : Nat} {P : ParS} (h : ParAt w b P (.slice none 0 0)) : ParAt (w.setCell ⟨b, 0, none⟩ (.slice none 0 0)) b { P with arena := [] } (.slice none 0 0) :=
  ⟨h.at_.set_arena _, OwnI.nil _ _, h.pos, h.neg, by simp [Value.ownBlock]⟩

set_option maxHeartbeats 1000000 in
theorem prest_any {w : World} {b : Nat} {P : ParS} {av : Value} (h : ParAt w b P av) :
    Calls Tryz.prog 73 #[.pointer (some ⟨b, 0, none⟩)] w fun r w' => r = .returned (.tuple #[]) ∧ ∃ av', ParAt w' b .idle av' ∧ av'.ownBlock = av.ownBlock ∧ Fr [b] w w' := by
  have h0 := h.at_.arena
  change w.cell? ⟨b, 0, none⟩ = some av at h0
  have h1 := h.at_.state
  have h2 := h.at_.start
  have h3 := h.at_.minus
  have h4 := h.at_.val
  have h5 := h.at_.pos
  have h6 := h.at_.neg
  have h7 := h.at_.del
  have h8 := h.at_.opn
  have h9 := h.at_.err
  have h10 := h.at_.at_
  have hfz := h.at_.froz
  have HH := hid h
  clear h
  have hend : ∀ (w2 : World) (av' : Value), ParAt w2 b { P with arena := [] } av' → ParAt ((((((((((w2.setCell ⟨b, 1, none⟩ (.int .i64 ((0 : Nat) : Int))).setCell ⟨b, 2, none⟩ (.int .i64 ((0 : Nat) : Int))).setCell ⟨b, 3, none⟩ (.bool false)).setCell ⟨b, 4, none⟩ (.int .i64 ((0 : Nat) : Int))).setCell ⟨b, 5, none⟩ (.int .u16 ((0 : Nat) : Int))).setCell ⟨b, 6, none⟩ (.int .u16 ((0 : Nat) : Int))).setCell ⟨b, 7, none⟩ (.bool false)).setCell ⟨b, 8, none⟩ (.bool false)).setCell ⟨b, 9, none⟩ (.int .i64 ((0 : Nat) : Int))).setCell ⟨b, 10, none⟩ (.int .i64 ((0 : Nat) : Int))) b .idle av' :=
    fun w2 av' q => (((((((((q.pState 0).pStart 0).pMinus false).pVal 0).pPos 0 (by decide)).pNeg 0 (by decide)).pDel false).pOpn false).pErr 0).pAt 0
  have hfr : ∀ (w2 : World), Fr [b] w w2 → Fr [b] w ((((((((((w2.setCell ⟨b, 1, none⟩ (.int .i64 ((0 : Nat) : Int))).setCell ⟨b, 2, none⟩ (.int .i64 ((0 : Nat) : Int))).setCell ⟨b, 3, none⟩ (.bool false)).setCell ⟨b, 4, none⟩ (.int .i64 ((0 : Nat) : Int))).setCell ⟨b, 5, none⟩ (.int .u16 ((0 : Nat) : Int))).setCell ⟨b, 6, none⟩ (.int .u16 ((0 : Nat) : Int))).setCell ⟨b, 7, none⟩ (.bool false)).setCell ⟨b, 8, none⟩ (.bool false)).setCell ⟨b, 9, none⟩ (.int .i64 ((0 : Nat) : Int))).setCell ⟨b, 10, none⟩ (.int .i64 ((0 : Nat) : Int))) :=
    fun w2 q => (((((((((q.set (by simp) _).set (by simp) _).set (by simp) _).set (by simp) _).set (by simp) _).set (by simp) _).set (by simp) _).set (by simp) _).set (by simp) _).set (by simp) _
  have HEND := hid hend
  have HFR := hid hfr
  clear hend hfr
  rcases HH.out.own.shape with ⟨rfl, hlg⟩ | ⟨g, cap, rfl, _, _⟩
  · clear hlg
    refine calls_via fun K hK => ?_
    go_enter Tryz.func73, Tryz.ntmps73
    go_wp2_with fail
    try go_end0
    exact hK.out _ _ ⟨rfl, _, HEND.out _ _ HH.out.cut0, rfl, HFR.out _ ((Fr.refl _ _).set (by simp) _)⟩
  · generalize P.arena.length = ll at *
    refine calls_via fun K hK => ?_
    go_enter Tryz.func73, Tryz.ntmps73
    go_wp2_with fail
    try go_end0
    exact hK.out _ _ ⟨rfl, _, HEND.out _ _ HH.out.cut, rfl, HFR.out _ ((Fr.refl _ _).set (by simp) _)⟩

/-- One append of one number onto the arena. -/
theorem par_step1 {w w1 : World} {b : Nat} {P : ParS} {av av' : Value} {l : List Int} {o : Obj} (h : ParAt w b P av) (hl : OwnI w1 0 av' l)
    (hg : (w.alloc o).grownBy w1 av.ownBlock) (hat : av'.ownBlock = av.ownBlock ∨ av'.ownBlock = some (w.alloc o).heap.size) :
    (∃ a n c, av' = .slice a n c) ∧ w1.cell? ⟨b, 0, none⟩ = some av ∧ w1.cell? ⟨b, 5, none⟩ = some (.int .u16 (P.pos : Nat)) ∧ w1.cell? ⟨b, 6, none⟩ = some (.int .u16 (P.neg : Nat)) ∧
    w1.cell? ⟨b, 7, none⟩ = some (.bool P.del) ∧ w1.cell? ⟨b, 8, none⟩ = some (.bool P.opn) ∧ (∀ i, w1.frozen? ⟨b, i, none⟩ = false) ∧
    ParAt (w1.setCell ⟨b, 0, none⟩ av') b { P with arena := l } av' ∧ Fr (b :: blk av) w (w1.setCell ⟨b, 0, none⟩ av') ∧ Nx w av av' := by
  have hblt := h.at_.lt
  have hfa : Fr [] w (w.alloc o) := (Fr.refl _ _).alloc o
  have hf : Fr (blk av) w w1 := (hfa.mono (by simp)).trans ((Fr.refl (blk av) (w.alloc o)).grown hg (fun k hk _ => mem_blk.2 hk))
  have hbn : b ∉ blk av := fun hm => h.dj (mem_blk.1 hm)
  have h1 := h.at_.fr hf hbn
  have hn : Nx w av av' := by
    intro g hg2
    rcases hat with e | e
    · left; rw [← e]; exact hg2
    · right; rw [e] at hg2; injection hg2 with hg2; simp at hg2; omega
  have hdj : av'.ownBlock ≠ some b := by
    intro e
    rcases hn b e with q | q
    · exact h.dj q
    · omega
  refine ⟨hl.sl, h1.arena, h1.pos, h1.neg, h1.del, h1.opn, h1.froz, ⟨h1.set_arena av', ?_, h.pos, h.neg, hdj⟩, ?_, hn⟩
  · exact hl.fr (S := [b]) ((Fr.refl _ _).set (by simp) _) (fun g hg2 hm => by rw [List.mem_singleton] at hm; subst hm; exact hdj hg2)
  · exact (hf.mono (S2 := b :: blk av) (fun x hx _ => List.mem_cons_of_mem _ hx)).set (fun _ => List.mem_cons_self) _
theorem par_fr {w w1 w2 : World} {b : Nat} {av av1 : Value} (h : Fr (b :: blk av) w w1) (hn : Nx w av av1) (k : Fr (b :: blk av1) w1 w2) : Fr (b :: blk av) w w2 := by
  refine h.trans2 k (fun x hx hlt => ?_)
  rcases List.mem_cons.1 hx with e | e
  · rw [e]; exact List.mem_cons_self
  · rcases hn x (mem_blk.1 e) with q | q
    · exact List.mem_cons_of_mem _ (mem_blk.2 q)
    · omega
theorem sweepF_succ (pos neg n v : Nat) : sweepF pos neg (n + 1) v = (if pos.testBit v then [(v : Int)] else []) ++ (if neg.testBit v then [-(v : Int)] else []) ++ sweepF pos neg n (v + 1) := rfl
theorem sweepF_len (pos neg : Nat) : ∀ n v, (sweepF pos neg n v).length ≤ 2 * n := by
  intro n
  induction n with
  | zero => intro v; simp [sweepF]
  | succ n ih =>
    intro v
    rw [sweepF_succ]
    have := ih (v + 1)
    simp only [List.length_append]
    split <;> split <;> simp <;> omega

/-- The last line of endRow. -/
theorem par_end {w : World} {b : Nat} {P : ParS} {av : Value} (h : ParAt w b P av) : ParAt ((((w.setCell ⟨b, 5, none⟩ (.int .u16 ((0 : Nat) : Int))).setCell ⟨b, 6, none⟩ (.int .u16 ((0 : Nat) : Int))).setCell ⟨b, 7, none⟩ (.bool false)).setCell ⟨b, 8, none⟩ (.bool false)) b { P with pos := 0, neg := 0, del := false, opn := false } av :=
  (((h.pPos 0 (by decide)).pNeg 0 (by decide)).pDel false).pOpn false
theorem fr_end {w w1 : World} {b : Nat} {D : List Nat} (h : Fr (b :: D) w w1) : Fr (b :: D) w ((((w1.setCell ⟨b, 5, none⟩ (.int .u16 ((0 : Nat) : Int))).setCell ⟨b, 6, none⟩ (.int .u16 ((0 : Nat) : Int))).setCell ⟨b, 7, none⟩ (.bool false)).setCell ⟨b, 8, none⟩ (.bool false)) :=
  (((h.set (by simp) _).set (by simp) _).set (by simp) _).set (by simp) _

set_option maxRecDepth 100000 in
set_option maxHeartbeats 8000000 in
theorem endRow_any {w : World} {b : Nat} {P : ParS} {av : Value} (h : ParAt w b P av) (hb : P.arena.length ≤ 1000000000) :
    Calls Tryz.prog 137 #[.pointer (some ⟨b, 0, none⟩)] w fun r w' => r = .returned (.tuple #[]) ∧ ∃ av', ParAt w' b P.endRow av' ∧ Nx w av av' ∧ Fr (b :: blk av) w w' := by
  have h0 := h.at_.arena
  change w.cell? ⟨b, 0, none⟩ = some av at h0
  have h5 := h.at_.pos
  change w.cell? ⟨b, 5, none⟩ = some (.int .u16 (P.pos : Nat)) at h5
  have h6 := h.at_.neg
  change w.cell? ⟨b, 6, none⟩ = some (.int .u16 (P.neg : Nat)) at h6
  have h7 := h.at_.del
  change w.cell? ⟨b, 7, none⟩ = some (.bool P.del) at h7
  have h8 := h.at_.opn
  change w.cell? ⟨b, 8, none⟩ = some (.bool P.opn) at h8
  have hfz := h.at_.froz
  obtain ⟨a0, m0, cp0, rfl⟩ := h.own.sl
  have hand := and16 h.pos h.neg
  obtain ⟨m, hm⟩ : ∃ m, P.pos &&& P.neg = m := ⟨_, rfl⟩
  rw [hm] at hand
  have HH := hid h
  have HM := hid hm
  have HBD := hid hb
  clear h hm hb
  by_cases hz : m = 0
  · have hb1 : (((m : Nat) : Int) == 0) = true := by simp [hz]
    have HZ : Hid (P.pos &&& P.neg = 0) := HM.out.trans hz
    clear hz
    have HB : Hid (P.arena.length + 50 ≤ 1099511627776) := by show _ ≤ _; have := HBD.out; omega
    obtain ⟨SW, hSW⟩ : ∃ x, sweepF P.pos P.neg 12 1 = x := ⟨_, rfl⟩
    have HSW := hid hSW
    clear hSW
    cases hdel : P.del with
    | true =>
      have HDEL := hid hdel
      clear hdel
      refine calls_via fun K hK => ?_
      go_enter Tryz.func137, Tryz.ntmps137
      go_wp2_with fail
      go_quiet (fail)
      obtain ⟨wd, hwd⟩ : ∃ x, w.drewN nq = x := ⟨_, rfl⟩
      rw [hwd]
      have HD : Hid (ParAt wd b P (.slice a0 m0 cp0)) := by show ParAt _ _ _ _; rw [← hwd]; exact HH.out.drewN
      have HFD : Hid (Fr (b :: blk (.slice a0 m0 cp0)) w wd) := by show Fr _ _ _; rw [← hwd]; exact (Fr.refl _ _).drewN
      clear hwd h0 h5 h6 h7 h8 hfz
      have h0 := HD.out.at_.arena
      change wd.cell? ⟨b, 0, none⟩ = some (.slice a0 m0 cp0) at h0
      have h7 := HD.out.at_.del
      change wd.cell? ⟨b, 7, none⟩ = some (.bool P.del) at h7
      rw [HDEL.out] at h7
      have h8 := HD.out.at_.opn
      change wd.cell? ⟨b, 8, none⟩ = some (.bool P.opn) at h8
      have hfz := HD.out.at_.froz
      go_wp2_with (first | (at_builtin; refine wp_app_at rfl _ _ rfl 0 (.slice a0 m0 cp0) (P.arena) rfl (HD.out.own.alloc _) (.slice (some ⟨wd.heap.size, 0, none⟩) 1 1) [13] rfl (ints_oneN (by simp) _ _) (by have := HB.out; simp; omega) (by omega) ?_; intro q0 w0 ho0 hg0 hnil0 hat0; obtain ⟨⟨s0, n0, c0, rfl⟩, ha0, hp0, hn0x, hd0, hop0, hfz0, hs0, hf0, hx0⟩ := par_step1 HD.out ho0 hg0 hat0; have HS0 := hid hs0; have HF0 := hid hf0; have HX0 := hid hx0; clear hs0 hf0 hx0 ho0 hg0 hnil0 hat0))
      go_loopg [2] 12 (fun g i wr => ∃ av' ar, g ≤ 12 ∧ i = .int .i64 ((13 - g : Nat) : Int) ∧ ParAt wr b { P with arena := ar } av' ∧ Nx wd (.slice a0 m0 cp0) av' ∧ Fr (b :: blk (.slice a0 m0 cp0)) wd wr ∧ P.arena ++ [13] ++ SW = ar ++ sweepF P.pos P.neg g (13 - g) ∧ ar.length ≤ P.arena.length + 1 + 2 * (12 - g))
      case atStart => exact ⟨.slice s0 n0 c0, P.arena ++ [13], by omega, by simp, HS0.out, HX0.out, HF0.out, by rw [← HSW.out], by simp⟩
      case round =>
        obtain ⟨av2, ar, hg, rfl, hp, hnx, hf, he, hlen⟩ := hrel
        have h0 := hp.at_.arena
        change wr.cell? ⟨b, 0, none⟩ = some av2 at h0
        have h5 := hp.at_.pos
        change wr.cell? ⟨b, 5, none⟩ = some (.int .u16 (P.pos : Nat)) at h5
        have h6 := hp.at_.neg
        change wr.cell? ⟨b, 6, none⟩ = some (.int .u16 (P.neg : Nat)) at h6
        have h7 := hp.at_.del
        change wr.cell? ⟨b, 7, none⟩ = some (.bool P.del) at h7
        have h8 := hp.at_.opn
        change wr.cell? ⟨b, 8, none⟩ = some (.bool P.opn) at h8
        have hfz := hp.at_.froz
        obtain ⟨a2, m2, cp2, rfl⟩ := hp.own.sl
        have HP := hid hp
        have HNX := hid hnx
        have HF := hid hf
        by_cases hlt : 0 < gk
        · obtain ⟨j, rfl⟩ : ∃ j, gk = j + 1 := ⟨gk - 1, by omega⟩
          obtain ⟨k, hk⟩ : ∃ k, 13 - (j + 1) = k := ⟨_, rfl⟩
          rw [hk, sweepF_succ] at he
          rw [hk]
          have hk16 : k < 16 := by omega
          have hk12 : (k : Int) ≤ 12 := by omega
          have hk1 : (1 : Int) ≤ k := by omega
          have HJ : Hid (k + 1 = 13 - j ∧ j ≤ 12 ∧ j + 1 ≤ 12) := by show _ ∧ _; omega
          have e1 := shl16 hk16
          change _ = ((pw k : Nat) : Int) at e1
          have b1 := bit16 HH.out.pos hk16
          have b2 := bit16 HH.out.neg hk16
          have HB : Hid (ar.length + 50 ≤ 1099511627776) := by show _ ≤ _; have := HBD.out; omega
          have HLEN := hid hlen
          clear hp hnx hf hlt hk hlen hg
          cases hpb : P.pos.testBit k with
          | true =>
            rw [hpb] at he b1
            cases hnb : P.neg.testBit k with
            | true =>
              rw [hnb] at he b2
              have HE := hid he
              clear he hpb hnb
              go_wp2_with (first | (at_builtin; refine wp_app_at rfl _ _ rfl 0 (.slice a2 m2 cp2) (ar) rfl (HP.out.own.alloc _) (.slice (some ⟨wr.heap.size, 0, none⟩) 1 1) [(k : Int)] rfl (ints_oneN (by simp) _ _) (by have := HB.out; simp; omega) (by omega) ?_; intro q1 w1 ho1 hg1 hnil1 hat1; obtain ⟨⟨s1, n1, c1, rfl⟩, ha1, hp1, hn1x, hd1, hop1, hfz1, hs1, hf1, hx1⟩ := par_step1 HP.out ho1 hg1 hat1; have HS1 := hid hs1; have HF1 := hid hf1; have HX1 := hid hx1; clear hs1 hf1 hx1 ho1 hg1 hnil1 hat1) | (at_builtin; refine wp_app_at rfl _ _ rfl 0 (.slice s1 n1 c1) (ar ++ [(k : Int)]) rfl (HS1.out.own.alloc _) (.slice (some ⟨w1.heap.size, 0, none⟩) 1 1) [(-(k : Int))] rfl (ints_oneN (by simp) _ _) (by have := HB.out; simp; omega) (by omega) ?_; intro q2 w2 ho2 hg2 hnil2 hat2; obtain ⟨⟨s2, n2, c2, rfl⟩, ha2, hp2, hn2x, hd2, hop2, hfz2, hs2, hf2, hx2⟩ := par_step1 HS1.out ho2 hg2 hat2; have HS2 := hid hs2; have HF2 := hid hf2; have HX2 := hid hx2; clear hs2 hf2 hx2 ho2 hg2 hnil2 hat2))
              go_roundg j
              case measure => omega
              case rel =>
                refine ⟨_, ar ++ [(k : Int)] ++ [-(k : Int)], HJ.out.2.1, by rw [← HJ.out.1]; simp, HS2.out, (HNX.out.trans HX1.out HF.out.size).trans HX2.out (Nat.le_trans HF.out.size HF1.out.size), par_fr (par_fr HF.out HNX.out HF1.out) (HNX.out.trans HX1.out HF.out.size) HF2.out, ?_, ?_⟩
                · rw [← HJ.out.1, HE.out]; simp
                · have := HLEN.out; have := HJ.out; simp; omega
            | false =>
              rw [hnb] at he b2
              have HE := hid he
              clear he hpb hnb
              go_wp2_with (first | (at_builtin; refine wp_app_at rfl _ _ rfl 0 (.slice a2 m2 cp2) (ar) rfl (HP.out.own.alloc _) (.slice (some ⟨wr.heap.size, 0, none⟩) 1 1) [(k : Int)] rfl (ints_oneN (by simp) _ _) (by have := HB.out; simp; omega) (by omega) ?_; intro q1 w1 ho1 hg1 hnil1 hat1; obtain ⟨⟨s1, n1, c1, rfl⟩, ha1, hp1, hn1x, hd1, hop1, hfz1, hs1, hf1, hx1⟩ := par_step1 HP.out ho1 hg1 hat1; have HS1 := hid hs1; have HF1 := hid hf1; have HX1 := hid hx1; clear hs1 hf1 hx1 ho1 hg1 hnil1 hat1))
              go_roundg j
              case measure => omega
              case rel =>
                refine ⟨_, ar ++ [(k : Int)], HJ.out.2.1, by rw [← HJ.out.1]; simp, HS1.out, (HNX.out).trans HX1.out HF.out.size, par_fr (HF.out) HNX.out HF1.out, ?_, ?_⟩
                · rw [← HJ.out.1, HE.out]; simp
                · have := HLEN.out; have := HJ.out; simp; omega
          | false =>
            rw [hpb] at he b1
            cases hnb : P.neg.testBit k with
            | true =>
              rw [hnb] at he b2
              have HE := hid he
              clear he hpb hnb
              go_wp2_with (first | (at_builtin; refine wp_app_at rfl _ _ rfl 0 (.slice a2 m2 cp2) (ar) rfl (HP.out.own.alloc _) (.slice (some ⟨wr.heap.size, 0, none⟩) 1 1) [(-(k : Int))] rfl (ints_oneN (by simp) _ _) (by have := HB.out; simp; omega) (by omega) ?_; intro q2 w2 ho2 hg2 hnil2 hat2; obtain ⟨⟨s2, n2, c2, rfl⟩, ha2, hp2, hn2x, hd2, hop2, hfz2, hs2, hf2, hx2⟩ := par_step1 HP.out ho2 hg2 hat2; have HS2 := hid hs2; have HF2 := hid hf2; have HX2 := hid hx2; clear hs2 hf2 hx2 ho2 hg2 hnil2 hat2))
              go_roundg j
              case measure => omega
              case rel =>
                refine ⟨_, ar ++ [-(k : Int)], HJ.out.2.1, by rw [← HJ.out.1]; simp, HS2.out, HNX.out.trans HX2.out HF.out.size, par_fr HF.out HNX.out HF2.out, ?_, ?_⟩
                · rw [← HJ.out.1, HE.out]; simp
                · have := HLEN.out; have := HJ.out; simp; omega
            | false =>
              rw [hnb] at he b2
              have HE := hid he
              clear he hpb hnb
              go_wp2_with fail
              go_roundg j
              case measure => omega
              case rel =>
                refine ⟨_, ar, HJ.out.2.1, by rw [← HJ.out.1]; simp, HP.out, HNX.out, HF.out, ?_, ?_⟩
                · rw [← HJ.out.1, HE.out]; simp
                · have := HLEN.out; have := HJ.out; simp; omega
        · have hg0 : gk = 0 := by omega
          subst hg0
          have HE := hid he
          have HB : Hid (ar.length + 50 ≤ 1099511627776) := by show _ ≤ _; have := HBD.out; omega
          clear hp hnx hf hlt hg he hlen
          go_wp2_with (first | (at_builtin; refine wp_app_at rfl _ _ rfl 0 (.slice a2 m2 cp2) (ar) rfl (HP.out.own.alloc _) (.slice (some ⟨wr.heap.size, 0, none⟩) 1 1) [0] rfl (ints_oneN (by simp) _ _) (by have := HB.out; simp; omega) (by omega) ?_; intro q3 w3 ho3 hg3 hnil3 hat3; obtain ⟨⟨s3, n3, c3, rfl⟩, ha3, hp3, hn3x, hd3, hop3, hfz3, hs3, hf3, hx3⟩ := par_step1 HP.out ho3 hg3 hat3; have HS3 := hid hs3; have HF3 := hid hf3; have HX3 := hid hx3; clear hs3 hf3 hx3 ho3 hg3 hnil3 hat3))
          try go_end0
          refine hK.out _ _ ⟨rfl, _, ?_, (fun g hg => ((HNX.out.trans HX3.out HF.out.size) g hg).imp (fun z => z) (fun z => Nat.le_trans HFD.out.size z)), HFD.out.trans (fr_end (par_fr HF.out HNX.out HF3.out))⟩
          have e : P.endRow = { P with arena := ar ++ [0], pos := 0, neg := 0, del := false, opn := false } := by
            have h1 := HE.out
            simp only [sweepF, List.append_nil] at h1
            unfold ParS.endRow
            rw [if_pos HZ.out, HDEL.out]
            simp only [Bool.false_eq_true, if_false, if_true, List.append_nil]
            rw [HSW.out, ← h1]
            try simp
          rw [e]
          exact par_end HS3.out
    | false =>
      have HDEL := hid hdel
      clear hdel
      refine calls_via fun K hK => ?_
      go_enter Tryz.func137, Tryz.ntmps137
      go_wp2_with fail
      go_quiet (fail)
      obtain ⟨wd, hwd⟩ : ∃ x, w.drewN nq = x := ⟨_, rfl⟩
      rw [hwd]
      have HD : Hid (ParAt wd b P (.slice a0 m0 cp0)) := by show ParAt _ _ _ _; rw [← hwd]; exact HH.out.drewN
      have HFD : Hid (Fr (b :: blk (.slice a0 m0 cp0)) w wd) := by show Fr _ _ _; rw [← hwd]; exact (Fr.refl _ _).drewN
      clear hwd h0 h5 h6 h7 h8 hfz
      have h0 := HD.out.at_.arena
      change wd.cell? ⟨b, 0, none⟩ = some (.slice a0 m0 cp0) at h0
      have h7 := HD.out.at_.del
      change wd.cell? ⟨b, 7, none⟩ = some (.bool P.del) at h7
      rw [HDEL.out] at h7
      have h8 := HD.out.at_.opn
      change wd.cell? ⟨b, 8, none⟩ = some (.bool P.opn) at h8
      have hfz := HD.out.at_.froz
      go_wp2_with fail
      go_loopg [2] 12 (fun g i wr => ∃ av' ar, g ≤ 12 ∧ i = .int .i64 ((13 - g : Nat) : Int) ∧ ParAt wr b { P with arena := ar } av' ∧ Nx wd (.slice a0 m0 cp0) av' ∧ Fr (b :: blk (.slice a0 m0 cp0)) wd wr ∧ P.arena ++ SW = ar ++ sweepF P.pos P.neg g (13 - g) ∧ ar.length ≤ P.arena.length + 1 + 2 * (12 - g))
      case atStart => exact ⟨.slice a0 m0 cp0, P.arena, by omega, by simp, HD.out, Nx.refl _ _, Fr.refl _ _, by rw [← HSW.out], by simp⟩
      case round =>
        obtain ⟨av2, ar, hg, rfl, hp, hnx, hf, he, hlen⟩ := hrel
        have h0 := hp.at_.arena
        change wr.cell? ⟨b, 0, none⟩ = some av2 at h0
        have h5 := hp.at_.pos
        change wr.cell? ⟨b, 5, none⟩ = some (.int .u16 (P.pos : Nat)) at h5
        have h6 := hp.at_.neg
        change wr.cell? ⟨b, 6, none⟩ = some (.int .u16 (P.neg : Nat)) at h6
        have h7 := hp.at_.del
        change wr.cell? ⟨b, 7, none⟩ = some (.bool P.del) at h7
        have h8 := hp.at_.opn
        change wr.cell? ⟨b, 8, none⟩ = some (.bool P.opn) at h8
        have hfz := hp.at_.froz
        obtain ⟨a2, m2, cp2, rfl⟩ := hp.own.sl
        have HP := hid hp
        have HNX := hid hnx
        have HF := hid hf
        by_cases hlt : 0 < gk
        · obtain ⟨j, rfl⟩ : ∃ j, gk = j + 1 := ⟨gk - 1, by omega⟩
          obtain ⟨k, hk⟩ : ∃ k, 13 - (j + 1) = k := ⟨_, rfl⟩
          rw [hk, sweepF_succ] at he
          rw [hk]
          have hk16 : k < 16 := by omega
          have hk12 : (k : Int) ≤ 12 := by omega
          have hk1 : (1 : Int) ≤ k := by omega
          have HJ : Hid (k + 1 = 13 - j ∧ j ≤ 12 ∧ j + 1 ≤ 12) := by show _ ∧ _; omega
          have e1 := shl16 hk16
          change _ = ((pw k : Nat) : Int) at e1
          have b1 := bit16 HH.out.pos hk16
          have b2 := bit16 HH.out.neg hk16
          have HB : Hid (ar.length + 50 ≤ 1099511627776) := by show _ ≤ _; have := HBD.out; omega
          have HLEN := hid hlen
          clear hp hnx hf hlt hk hlen hg
          cases hpb : P.pos.testBit k with
          | true =>
            rw [hpb] at he b1
            cases hnb : P.neg.testBit k with
            | true =>
              rw [hnb] at he b2
              have HE := hid he
              clear he hpb hnb
              go_wp2_with (first | (at_builtin; refine wp_app_at rfl _ _ rfl 0 (.slice a2 m2 cp2) (ar) rfl (HP.out.own.alloc _) (.slice (some ⟨wr.heap.size, 0, none⟩) 1 1) [(k : Int)] rfl (ints_oneN (by simp) _ _) (by have := HB.out; simp; omega) (by omega) ?_; intro q1 w1 ho1 hg1 hnil1 hat1; obtain ⟨⟨s1, n1, c1, rfl⟩, ha1, hp1, hn1x, hd1, hop1, hfz1, hs1, hf1, hx1⟩ := par_step1 HP.out ho1 hg1 hat1; have HS1 := hid hs1; have HF1 := hid hf1; have HX1 := hid hx1; clear hs1 hf1 hx1 ho1 hg1 hnil1 hat1) | (at_builtin; refine wp_app_at rfl _ _ rfl 0 (.slice s1 n1 c1) (ar ++ [(k : Int)]) rfl (HS1.out.own.alloc _) (.slice (some ⟨w1.heap.size, 0, none⟩) 1 1) [(-(k : Int))] rfl (ints_oneN (by simp) _ _) (by have := HB.out; simp; omega) (by omega) ?_; intro q2 w2 ho2 hg2 hnil2 hat2; obtain ⟨⟨s2, n2, c2, rfl⟩, ha2, hp2, hn2x, hd2, hop2, hfz2, hs2, hf2, hx2⟩ := par_step1 HS1.out ho2 hg2 hat2; have HS2 := hid hs2; have HF2 := hid hf2; have HX2 := hid hx2; clear hs2 hf2 hx2 ho2 hg2 hnil2 hat2))
              go_roundg j
              case measure => omega
              case rel =>
                refine ⟨_, ar ++ [(k : Int)] ++ [-(k : Int)], HJ.out.2.1, by rw [← HJ.out.1]; simp, HS2.out, (HNX.out.trans HX1.out HF.out.size).trans HX2.out (Nat.le_trans HF.out.size HF1.out.size), par_fr (par_fr HF.out HNX.out HF1.out) (HNX.out.trans HX1.out HF.out.size) HF2.out, ?_, ?_⟩
                · rw [← HJ.out.1, HE.out]; simp
                · have := HLEN.out; have := HJ.out; simp; omega
            | false =>
              rw [hnb] at he b2
              have HE := hid he
              clear he hpb hnb
              go_wp2_with (first | (at_builtin; refine wp_app_at rfl _ _ rfl 0 (.slice a2 m2 cp2) (ar) rfl (HP.out.own.alloc _) (.slice (some ⟨wr.heap.size, 0, none⟩) 1 1) [(k : Int)] rfl (ints_oneN (by simp) _ _) (by have := HB.out; simp; omega) (by omega) ?_; intro q1 w1 ho1 hg1 hnil1 hat1; obtain ⟨⟨s1, n1, c1, rfl⟩, ha1, hp1, hn1x, hd1, hop1, hfz1, hs1, hf1, hx1⟩ := par_step1 HP.out ho1 hg1 hat1; have HS1 := hid hs1; have HF1 := hid hf1; have HX1 := hid hx1; clear hs1 hf1 hx1 ho1 hg1 hnil1 hat1))
              go_roundg j
              case measure => omega
              case rel =>
                refine ⟨_, ar ++ [(k : Int)], HJ.out.2.1, by rw [← HJ.out.1]; simp, HS1.out, (HNX.out).trans HX1.out HF.out.size, par_fr (HF.out) HNX.out HF1.out, ?_, ?_⟩
                · rw [← HJ.out.1, HE.out]; simp
                · have := HLEN.out; have := HJ.out; simp; omega
          | false =>
            rw [hpb] at he b1
            cases hnb : P.neg.testBit k with
            | true =>
              rw [hnb] at he b2
              have HE := hid he
              clear he hpb hnb
              go_wp2_with (first | (at_builtin; refine wp_app_at rfl _ _ rfl 0 (.slice a2 m2 cp2) (ar) rfl (HP.out.own.alloc _) (.slice (some ⟨wr.heap.size, 0, none⟩) 1 1) [(-(k : Int))] rfl (ints_oneN (by simp) _ _) (by have := HB.out; simp; omega) (by omega) ?_; intro q2 w2 ho2 hg2 hnil2 hat2; obtain ⟨⟨s2, n2, c2, rfl⟩, ha2, hp2, hn2x, hd2, hop2, hfz2, hs2, hf2, hx2⟩ := par_step1 HP.out ho2 hg2 hat2; have HS2 := hid hs2; have HF2 := hid hf2; have HX2 := hid hx2; clear hs2 hf2 hx2 ho2 hg2 hnil2 hat2))
              go_roundg j
              case measure => omega
              case rel =>
                refine ⟨_, ar ++ [-(k : Int)], HJ.out.2.1, by rw [← HJ.out.1]; simp, HS2.out, HNX.out.trans HX2.out HF.out.size, par_fr HF.out HNX.out HF2.out, ?_, ?_⟩
                · rw [← HJ.out.1, HE.out]; simp
                · have := HLEN.out; have := HJ.out; simp; omega
            | false =>
              rw [hnb] at he b2
              have HE := hid he
              clear he hpb hnb
              go_wp2_with fail
              go_roundg j
              case measure => omega
              case rel =>
                refine ⟨_, ar, HJ.out.2.1, by rw [← HJ.out.1]; simp, HP.out, HNX.out, HF.out, ?_, ?_⟩
                · rw [← HJ.out.1, HE.out]; simp
                · have := HLEN.out; have := HJ.out; simp; omega
        · have hg0 : gk = 0 := by omega
          subst hg0
          have HE := hid he
          have HB : Hid (ar.length + 50 ≤ 1099511627776) := by show _ ≤ _; have := HBD.out; omega
          clear hp hnx hf hlt hg he hlen
          go_wp2_with (first | (at_builtin; refine wp_app_at rfl _ _ rfl 0 (.slice a2 m2 cp2) (ar) rfl (HP.out.own.alloc _) (.slice (some ⟨wr.heap.size, 0, none⟩) 1 1) [0] rfl (ints_oneN (by simp) _ _) (by have := HB.out; simp; omega) (by omega) ?_; intro q3 w3 ho3 hg3 hnil3 hat3; obtain ⟨⟨s3, n3, c3, rfl⟩, ha3, hp3, hn3x, hd3, hop3, hfz3, hs3, hf3, hx3⟩ := par_step1 HP.out ho3 hg3 hat3; have HS3 := hid hs3; have HF3 := hid hf3; have HX3 := hid hx3; clear hs3 hf3 hx3 ho3 hg3 hnil3 hat3))
          try go_end0
          refine hK.out _ _ ⟨rfl, _, ?_, (fun g hg => ((HNX.out.trans HX3.out HF.out.size) g hg).imp (fun z => z) (fun z => Nat.le_trans HFD.out.size z)), HFD.out.trans (fr_end (par_fr HF.out HNX.out HF3.out))⟩
          have e : P.endRow = { P with arena := ar ++ [0], pos := 0, neg := 0, del := false, opn := false } := by
            have h1 := HE.out
            simp only [sweepF, List.append_nil] at h1
            unfold ParS.endRow
            rw [if_pos HZ.out, HDEL.out]
            simp only [Bool.false_eq_true, if_false, if_true, List.append_nil]
            rw [HSW.out, ← h1]
            try simp
          rw [e]
          exact par_end HS3.out
  · have hb1 : (((m : Nat) : Int) == 0) = false := by simp [hz]
    have HZ : Hid (¬ P.pos &&& P.neg = 0) := fun e => hz (HM.out.symm.trans e)
    clear hz
    refine calls_via fun K hK => ?_
    go_enter Tryz.func137, Tryz.ntmps137
    go_wp2_with fail
    go_quiet (fail)
    go_wp2_with fail
    try go_end0
    refine hK.out _ _ ⟨rfl, _, ?_, Nx.refl _ _, fr_end ((Fr.refl _ _).drewN (n := nq))⟩
    have e : P.endRow = { P with pos := 0, neg := 0, del := false, opn := false } := by unfold ParS.endRow; rw [if_neg HZ.out]
    rw [e]; exact par_end (HH.out.drewN (n := nq))
end Go.Proofs.Qxb6500354aGreat
