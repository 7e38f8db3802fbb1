/- THE WALKS over search, 5: forget. -/
import Derived.Test.Qxb6500354aGreatSrch4
namespace Go.Proofs.Qxb6500354aGreat
open Go.RowKit
set_option linter.unusedVariables false
set_option linter.unusedSimpArgs false

theorem fr_log2 {w w1 w2 : World} {E : Eb} {D : List Nat} {lo lo1 : Value} (h : Fr (D ++ blk lo) w w1) (hn : Nx w lo lo1) (k : Fr (D ++ blk lo1) w1 w2) : Fr (D ++ blk lo) w w2 := by
  refine h.trans2 k (fun x hx hlt => ?_)
  rcases List.mem_append.1 hx with e | e
  · exact List.mem_append_left _ e
  · rcases hn x (mem_blk.1 e) with q | q
    · exact List.mem_append_right _ (mem_blk.2 q)
    · omega
theorem SlvAt.blk_lt {w : World} {E : Eb} {S : SolverS} {lo : Value} (h : SlvAt w E S lo) : ∀ g, lo.ownBlock = some g → g < w.heap.size := h.own.lt

set_option maxRecDepth 100000 in
set_option maxHeartbeats 4000000 in
theorem forget_any {w : World} {E : Eb} {s : St} {lo : Value} {ps L : List (List Int)} {N : Nat} (h : SlvAt w E s.S lo) (ht : TrlAt w E.t s.T) (hw : WatAt w E.w E.t s.W) (hnd : E.all.Nodup) (hE : ∀ g ∈ E.all, g < w.heap.size)
    (hfi : FI ps s.T L N s.W s.S) (hps : ps.length ≤ 40) (hN : N ≤ 5000) :
    Calls Tryz.prog 84 #[.pointer (some ⟨E.s, 0, none⟩)] w fun e w' => e = .returned (.tuple #[]) ∧ ∃ lo', SlvAt w' E s.forget.S lo' ∧ WatAt w' E.w E.t s.forget.W ∧ Nx w lo lo' ∧ Fr ([E.s, E.w] ++ blk lo) w w' := by
  have hne := Eb.ne hnd
  have hct := h.at_.count
  change w.cell? ⟨E.s, 33, none⟩ = some (.int .i64 (s.S.count : Nat)) at hct
  have HS := hid h
  have HT := hid ht
  have HW := hid hw
  have HND := hid hnd
  have HE := hid hE
  have HFI := hid hfi
  have hc12 := hfi.al.count
  have htw : E.t ∉ ([E.s, E.w] : List Nat) := by simp; omega
  have HNE := hid hne
  have HPS := hid hps
  have HNN := hid hN
  have HTW := hid htw
  by_cases h4 : s.S.count < 4
  · have hi4 : (s.S.count : Int) < 4 := by omega
    have HRES : Hid (s.forget = s) := by show _ = _; unfold St.forget; rw [if_pos h4]
    clear h ht hw hnd hE hfi h4 hc12 hne htw hps hN
    refine calls_via fun K hK => ?_
    go_enter Tryz.func84, Tryz.ntmps84
    go_wp2_with fail
    try go_end0
    refine hK.out _ _ ⟨rfl, lo, by rw [HRES.out]; exact HS.out, by rw [HRES.out]; exact HW.out, Nx.refl _ _, Fr.refl _ _⟩
  · have hi4 : ¬ (s.S.count : Int) < 4 := by omega
    obtain ⟨res, hres⟩ : ∃ r, forgetLoop s.T 12 0 s.W s.S = r := ⟨_, rfl⟩
    have HRES : Hid (s.forget.W = res.1 ∧ s.forget.S = res.2) := by
      show _ ∧ _; rw [← hres]; unfold St.forget; rw [if_neg h4]; exact ⟨rfl, rfl⟩
    have HR := hid hres
    clear h ht hw hnd hE hfi h4 hc12 hne htw hres hps hN
    refine calls_via fun K hK => ?_
    go_enter Tryz.func84, Tryz.ntmps84
    go_wp2_with fail
    go_loopg [2] 12 (fun g kk wr => ∃ (W' : WatchS) (S' : SolverS) (lo' : Value), g ≤ 12 ∧ kk = .int .i64 ((12 - g : Nat) : Int) ∧ SlvAt wr E S' lo' ∧ WatAt wr E.w E.t W' ∧ FI ps s.T L N W' S' ∧ Nx w lo lo' ∧ Fr ([E.s, E.w] ++ blk lo) w wr ∧ res = forgetLoop s.T g (12 - g) W' S')
    case atStart => exact ⟨s.W, s.S, lo, by omega, by simp, HS.out, HW.out, HFI.out, Nx.refl _ _, Fr.refl _ _, HR.out.symm⟩
    case round =>
      obtain ⟨W', S', lo', hg, rfl, hs, hw, hfi, hnx, hf, he⟩ := hrel
      clear hct
      have hct := hs.at_.count
      change wr.cell? ⟨E.s, 33, none⟩ = some (.int .i64 (S'.count : Nat)) at hct
      by_cases hlt : 0 < gk
      · obtain ⟨j, rfl⟩ : ∃ j, gk = j + 1 := ⟨gk - 1, by omega⟩
        obtain ⟨k, hk⟩ : ∃ k, k = 12 - (j + 1) := ⟨_, rfl⟩
        rw [← hk] at he ⊢
        rw [forgetLoop_succ] at he
        have hk12 : k < 12 := by omega
        have hki : (k : Int) < 12 := by omega
        have HJ12 : Hid (j ≤ 12) := by show _ ≤ _; omega
        have hc12 := hfi.al.count
        by_cases h2 : 2 < S'.count
        · rw [if_pos h2] at he
          have h2i : (2 : Int) < S'.count := by omega
          have hal := hs.at_.alive
          change wr.cell? ⟨E.s, 32, none⟩ = some (.int .u16 (S'.alive : Nat)) at hal
          have e1 := shl16 (show k < 16 by omega)
          change _ = ((pw k : Nat) : Int) at e1
          have e2 := bit16 hs.ok (show k < 16 by omega)
          have HKK : Hid (k + 1 = 12 - j) := by show _ = _; omega
          by_cases ha : S'.alive.testBit k = true
          · rw [if_pos ha] at he
            rw [ha] at e2
            have hu : W'.used.testBit (40 + k) = true := by
              have := hfi.al.al k; rw [ha] at this
              have := this.symm; rw [Bool.and_eq_true] at this; exact this.2
            have hid52 : 40 + k < 52 := by omega
            have hcast : ((40 + k : Nat) : Int) = 40 + (k : Int) := by simp
            have HCL := hid (clause_any hw (40 + (k : Int)))
            have hcl := hfi.wt.ws.clause hu
            rw [hcast] at hcl
            rw [hcl] at HCL
            have HRM := hid (fun w2 (hw2 : WatAt w2 E.w E.t W') (ht2 : TrlAt w2 E.t s.T) => remove_any hw2 ht2 HNE.out.2.2.2.2.2.2.2.1 (40 + k) hid52 (fun q1 q2 => ((hfi.wt.ws.v (40 + k)).sl (by
                rw [View.sound_iff]
                rw [Nat.testBit_or, Bool.or_eq_false_iff] at q1
                exact ⟨q2, q1.1, q1.2⟩)).1))
            rw [hcast] at HRM
            rw [remove_eq hfi.wt.ws s.T hu] at he HRM
            obtain ⟨c, hc⟩ : ∃ c, normC (W'.cl (40 + k)) = c := ⟨_, rfl⟩
            rw [hc] at HCL he
            have hnf : checkClause c = 0 := by rw [← hc]; exact normC_nf (hfi.wt.ws.v _).gd (hfi.wt.ws.v _).dist
            have hcl12 : c.length ≤ 12 := (checkClause_facts hnf).1
            have hfz := hs.at_.froz
            have hwp := hs.at_.wp
            change wr.cell? ⟨E.s, 2, none⟩ = some (.pointer (some ⟨E.w, 0, none⟩)) at hwp
            have hll := hfi.lg.len
            have hps := HPS.out
            have hNN := HNN.out
            have hlog : S'.log.length ≤ 200000 := by omega
            have HSR := hid hs
            have HWR := hid hw
            have HFR := hid hfi
            have HNX := hid hnx
            have HF := hid hf
            have HK0 := hid hk
            have HC := hid hc
            have HU := hid hu
            have HCL12 := hid hcl12
            have HLOG := hid hlog
            have HK12 := hid hk12
            have HHA := hid ha
            clear hs hw hfi hnx hf hk hc hu hcl hcast hnf hll hlog hcl12 hps hNN ha h2 hg hlt hid52
            have htr : TrlAt wr E.t s.T := HT.out.fr HF.out (by
              intro hm; rcases List.mem_append.1 hm with e | e
              · exact HTW.out e
              · exact HS.out.dj _ (mem_blk.1 e) (by simp [Eb.all]))
            have HTR := hid htr
            clear htr
            by_cases hl : lockedF s.T (40 + k) (W'.cl (40 + k)) = true
            · rw [if_pos hl] at he HRM
              rw [if_neg (by simp)] at he
              have HE2 := hid he
              clear he hl
              go_wp2_with fail
              refine HCL.out.mono ?_
              rintro e w2 ⟨v, rfl, hown, hf2⟩
              have hwp2 := (HSR.out.fr hf2 (by simp) (by simp)).at_.wp
              change w2.cell? ⟨E.s, 2, none⟩ = some (.pointer (some ⟨E.w, 0, none⟩)) at hwp2
              have HF2 := hid hf2
              clear hf2 hown hct hal hfz hwp
              go_wp2_with fail
              refine (HRM.out _ (HWR.out.fr HF2.out (by simp)) (HTR.out.fr HF2.out (by simp))).mono ?_
              rintro e w3 ⟨rfl, hw3, hf3⟩
              have HW3 := hid hw3
              have HF3 := hid hf3
              clear hw3 hf3
              go_wp2_with fail
              go_roundg j
              case measure => omega
              case rel =>
                have hff : Fr [E.w] wr w3 := (HF2.out.mono (by simp)).trans HF3.out
                refine ⟨W', S', lo', HJ12.out, by rw [← HKK.out]; simp, HSR.out.fr hff (by have := HNE.out; simp; omega) (fun g hg hm => HSR.out.dj g hg (by rw [List.mem_singleton] at hm; rw [hm]; simp [Eb.all])), HW3.out, HFR.out, HNX.out, ?_, by rw [← HKK.out]; exact HE2.out⟩
                exact HF.out.trans (hff.mono (by intro x hx _; rw [List.mem_singleton] at hx; rw [hx]; simp))
            · rw [if_neg hl] at he HRM
              rw [if_pos rfl] at he
              have hlf : lockedF s.T (40 + k) (W'.cl (40 + k)) = false := by simpa using hl
              have hfi2 := HFR.out.drop1 HK12.out HU.out hlf
              rw [HC.out] at hfi2
              have HFI2 := hid hfi2
              have HE2 := hid he
              clear he hl hlf hfi2
              go_wp2_with fail
              refine HCL.out.mono ?_
              rintro e w2 ⟨v, rfl, hown, hf2⟩
              have hwp2 := (HSR.out.fr hf2 (by simp) (by simp)).at_.wp
              change w2.cell? ⟨E.s, 2, none⟩ = some (.pointer (some ⟨E.w, 0, none⟩)) at hwp2
              have HF2 := hid hf2
              have HOWN := hid hown
              clear hf2 hown hct hal hfz hwp
              go_wp2_with fail
              refine (HRM.out _ (HWR.out.fr HF2.out (by simp)) (HTR.out.fr HF2.out (by simp))).mono ?_
              rintro e w3 ⟨rfl, hw3, hf3⟩
              have hff : Fr [E.w] wr w3 := (HF2.out.mono (by simp)).trans hf3
              have hs3 := HSR.out.fr hff (by have := HNE.out; simp; omega) (fun g hg hm => HSR.out.dj g hg (by rw [List.mem_singleton] at hm; rw [hm]; simp [Eb.all]))
              have hE3 : ∀ g ∈ E.all, g < wr.heap.size := fun g hg => Nat.lt_of_lt_of_le (HE.out g hg) HF.out.size
              have hvb := HOWN.out.base
              have hvl := HOWN.out.lt
              have hI3 : Ints w3 v c := HOWN.out.ints.fr hf3 (fun g hg hm => by
                rw [List.mem_singleton] at hm
                have := hvb g hg
                have := hE3 E.w (by simp [Eb.all])
                omega)
              have HNT := hid (note_any hs3 (fun g hg => Nat.lt_of_lt_of_le (hE3 g hg) hff.size) true hI3 (fun g hg => ⟨fun e => by
                  have := hvb g hg
                  have := hE3 E.s (by simp [Eb.all])
                  omega, fun e => by
                  have := hvb g hg
                  have := HSR.out.blk_lt g e
                  omega⟩) (fun g hg => Nat.lt_of_lt_of_le (hvl g hg) hf3.size) (by have := HLOG.out; have := HCL12.out; omega))
              have HW3 := hid hw3
              have HFF := hid hff
              clear hw3 hf3 hff hs3 hE3 hvb hvl hI3
              go_wp2_with fail
              refine HNT.out.mono ?_
              rintro e w4 ⟨rfl, lo2, hs4, hn4, hf4⟩
              have hal := hs4.at_.alive
              change w4.cell? ⟨E.s, 32, none⟩ = some (.int .u16 (S'.alive : Nat)) at hal
              have hct := hs4.at_.count
              change w4.cell? ⟨E.s, 33, none⟩ = some (.int .i64 (S'.count : Nat)) at hct
              have hfz := hs4.at_.froz
              have hbu := andNot16 hs4.ok (pow16 (show k < 16 by omega))
              change bits .andNot .u16 (S'.alive : Nat) (pw k : Nat) = ((clrB S'.alive k : Nat) : Int) at hbu
              have HC1 : Hid (((S'.count - 1 : Nat) : Int) = (S'.count : Int) - 1) := by show _ = _; omega
              have HS4 := hid hs4
              have HN4 := hid hn4
              have HF4 := hid hf4
              clear hs4 hn4 hf4
              go_wp2_with fail
              go_roundg j
              case measure => omega
              case rel =>
                have hs5 := (HS4.out.putAlive (clrB S'.alive k) (clrB_lt HS4.out.ok)).putCount (S'.count - 1)
                rw [HC1.out] at hs5
                have hww : E.w ∉ E.s :: blk lo' := by
                  intro hm; rcases List.mem_cons.1 hm with e | e
                  · have := HNE.out; omega
                  · exact HSR.out.dj _ (mem_blk.1 e) (by simp [Eb.all])
                refine ⟨W'.drop (40 + k), { S'.note true c with alive := clrB S'.alive k, count := S'.count - 1 }, lo2, HJ12.out, by rw [← HKK.out]; simp, hs5, ?_, HFI2.out, ?_, ?_, by rw [← HKK.out]; exact HE2.out⟩
                · exact ((HW3.out.fr HF4.out hww).other (by have := HNE.out; show E.w ≠ E.s; omega) _).other (by have := HNE.out; show E.w ≠ E.s; omega) _
                · exact HNX.out.trans (HN4.out) (Nat.le_trans HF.out.size HFF.out.size)
                · have h1 : Fr ([E.s, E.w] ++ blk lo) w w3 := HF.out.trans (HFF.out.mono (by intro x hx _; rw [List.mem_singleton] at hx; rw [hx]; simp))
                  have h2 : Fr ([E.s, E.w] ++ blk lo) w w4 := fr_log2 (E := E) h1 HNX.out (HF4.out.mono (by intro x hx _; rcases List.mem_cons.1 hx with e | e; rw [e]; simp; exact List.mem_append_right _ e))
                  exact (h2.set (by simp) _).set (by simp) _
          · rw [if_neg ha] at he
            have haf : S'.alive.testBit k = false := by simpa using ha
            rw [haf] at e2
            have HSR := hid hs
            have HWR := hid hw
            have HFR := hid hfi
            have HNX := hid hnx
            have HF := hid hf
            have HE2 := hid he
            have HK0 := hid hk
            clear hs hw hfi hnx hf he hk hlt hg h2 ha haf
            go_wp2_with fail
            try (go_quiet (fail))
            try (go_wp2_with fail)
            go_roundg j
            case measure => omega
            case rel =>
              refine ⟨W', S', lo', HJ12.out, by rw [← HKK.out]; simp, ?_, ?_, HFR.out, HNX.out, ?_, by rw [← HKK.out]; exact HE2.out⟩
              · first | exact HSR.out | exact HSR.out.drewN
              · first | exact HWR.out | exact HWR.out.drewN
              · first | exact HF.out | exact HF.out.drewN
        · rw [if_neg h2] at he
          have h2i : ¬ (2 : Int) < S'.count := by omega
          have HSR := hid hs
          have HWR := hid hw
          have HNX := hid hnx
          have HF := hid hf
          have HE2 := hid he
          clear hs hw hfi hnx hf he hk hlt hg h2 hc12
          go_wp2_with fail
          try go_end0
          refine hK.out _ _ ⟨rfl, lo', ?_, ?_, HNX.out, ?_⟩
          · rw [HRES.out.2, HE2.out]; first | exact HSR.out | exact HSR.out.drewN
          · rw [HRES.out.1, HE2.out]; first | exact HWR.out | exact HWR.out.drewN
          · first | exact HF.out | exact HF.out.drewN
      · have hg0 : gk = 0 := by omega
        subst hg0
        have HSR := hid hs
        have HWR := hid hw
        have HNX := hid hnx
        have HF := hid hf
        have HE2 : Hid (res = (W', S')) := he
        clear hs hw hfi hnx hf he hlt hg
        go_wp2_with fail
        try go_end0
        refine hK.out _ _ ⟨rfl, lo', ?_, ?_, HNX.out, ?_⟩
        · rw [HRES.out.2, HE2.out]; first | exact HSR.out | exact HSR.out.drewN
        · rw [HRES.out.1, HE2.out]; first | exact HWR.out | exact HWR.out.drewN
        · first | exact HF.out | exact HF.out.drewN
end Go.Proofs.Qxb6500354aGreat
