/- THE WALKS over search, 10: satisfied. -/
import Derived.Test.Qxb6500354aGreatSrch9
namespace Go.Proofs.Qxb6500354aGreat
open Go.RowKit
set_option linter.unusedVariables false
set_option linter.unusedSimpArgs false

theorem OwnI.cut {w : World} {base g n cap : Nat} {l : List Int} (h : OwnI w base (.slice (some ⟨g, 0, none⟩) n cap) l) : OwnI w base (.slice (some ⟨g, 0, none⟩) 0 cap) [] := by
  refine ⟨rfl, ?_⟩
  rcases h.2 with ⟨e, _⟩ | ⟨g2, cap2, cur, e, hb, hg, hnc, hcm, hcs, ht⟩
  · simp at e
  · simp only [Value.slice.injEq, Option.some.injEq, Addr.mk.injEq, and_true, true_and] at e
    obtain ⟨rfl, _, rfl⟩ := e
    exact .inr ⟨g, cap, cur, rfl, hb, hg, Nat.zero_le _, hcm, hcs, by simp [icells]⟩
theorem OwnI.capge {w : World} {base g n cap : Nat} {l : List Int} (h : OwnI w base (.slice (some ⟨g, 0, none⟩) n cap) l) : n ≤ cap := by
  rcases h.2 with ⟨e, _⟩ | ⟨g2, cap2, cur, e, hb, hg, hnc, hcm, hcs, ht⟩
  · simp at e
  · simp only [Value.slice.injEq, Option.some.injEq, Addr.mk.injEq, and_true, true_and] at e
    omega

set_option maxRecDepth 100000 in
set_option maxHeartbeats 4000000 in
theorem satisfied_any {w : World} {E : Eb} {T : TrailS} {S : SolverS} {lo : Value} (h : SlvAt w E S lo) (ht : TrlAt w E.t T) (hne : E.t ≠ E.s) :
    Calls Tryz.prog 50 #[.pointer (some ⟨E.s, 0, none⟩)] w fun e w' => ∃ g lo', e = .returned (.agg #[.int .i64 0, .int .i64 0, .bool true, .slice (some ⟨g, 0, none⟩) 12 12, .string ⟨#[]⟩, .int .i64 (S.conflicts : Nat), .int .i64 (S.restarts : Nat)]) ∧
      OwnI w' w.heap.size (.slice (some ⟨g, 0, none⟩) 12 12) (modelF T) ∧ SlvAt w' E { S with log := [] } lo' ∧ lo'.ownBlock = lo.ownBlock ∧ Fr [E.s] w w' := by
  have HS := hid h
  have HT := hid ht
  have HNE := hid hne
  clear h ht hne
  obtain ⟨N, hN⟩ : ∃ N, w.heap.size = N := ⟨_, rfl⟩
  have hC0 := CellsAt.mk_alloc w [.int .i64 0, .int .i64 0, .bool false, .slice none 0 0, .string ⟨#[]⟩, .int .i64 0, .int .i64 0] 74
  obtain ⟨w0, hw0⟩ : ∃ w0, w.alloc (Obj.cells #[.int .i64 0, .int .i64 0, .bool false, .slice none 0 0, .string ⟨#[]⟩, .int .i64 0, .int .i64 0] 74) = w0 := ⟨_, rfl⟩
  change CellsAt (w.alloc (Obj.cells #[.int .i64 0, .int .i64 0, .bool false, .slice none 0 0, .string ⟨#[]⟩, .int .i64 0, .int .i64 0] 74)) w.heap.size _ at hC0
  rw [hw0, hN] at hC0
  have hf0 : Fr [] w w0 := by rw [← hw0]; exact (Fr.refl _ _).alloc _
  have hs0 : w0.heap.size = N + 1 := by rw [← hw0]; simp [hN]
  have HC0 := hid hC0
  have HF0 := hid hf0
  have HS0 := hid hs0
  have HN := hid hN
  have hsN : E.s < N := by rw [← hN]; exact HS.out.lt
  have HSN := hid hsN
  have HLO : Hid (∀ g, lo.ownBlock = some g → g < N) := fun g hg => by rw [← hN]; exact HS.out.blk_lt g hg
  clear hC0 hf0 hs0 hsN
  refine calls_via fun K hK => ?_
  go_enter Tryz.func50, Tryz.ntmps50
  go_wp2_with (first | (at_make; refine wp_mk rfl _ _ rfl 12 12 12 rfl rfl rfl rfl (by omega) ?_; intro w1 ho1 hg1))
  rw [HS0.out] at ho1 ⊢
  have hf1 : Fr [] w0 w1 := Fr.ofGrown hg1
  have HO1 := hid ho1
  have HF1 := hid hf1
  clear hg1 ho1 hf1 hw0 hN
  go_loopg [4] 12 (fun g i wr => ∃ (l : List Int), g ≤ 12 ∧ i = .int .i64 (13 - (g : Int)) ∧ OwnI wr (N + 1) (.slice (some ⟨N + 1, 0, none⟩) 12 12) l ∧ l.length = 12 ∧ (∀ j, j < 12 - g → l.getD j 0 = if T.value ((j : Int) + 1) = 1 then (j : Int) + 1 else -((j : Int) + 1)) ∧ Fr [] w0 wr)
  case atStart => exact ⟨List.replicate 12 0, by omega, by simp, HO1.out, by simp, by intro j hj; omega, HF1.out⟩
  case round =>
    obtain ⟨l, hg, rfl, ho, hl, hall, hf⟩ := hrel
    have hfw := HF0.out.trans hf
    have hs := HS.out.fr hfw (by simp) (by simp)
    have ht := HT.out.fr hfw (by simp)
    by_cases hlt : 0 < gk
    · obtain ⟨k, rfl⟩ : ∃ k, gk = k + 1 := ⟨gk - 1, by omega⟩
      obtain ⟨v, hv⟩ : ∃ v : Nat, v = 11 - k := ⟨_, rfl⟩
      rw [show 13 - ((k + 1 : Nat) : Int) = (v : Int) + 1 from by omega]
      rw [show 12 - (k + 1) = v from by omega] at hall
      have hv12 : v < 12 := by omega
      have hvi : (v : Int) < 12 := by omega
      have htp := hs.at_.t
      change wr.cell? ⟨E.s, 1, none⟩ = some (.pointer (some ⟨E.t, 0, none⟩)) at htp
      have hcell := ho.get v (by rw [hl]; exact hv12)
      have hfz := OwnI.frozen ho
      have HV := hid (value_any ht ((v : Int) + 1))
      have HO := hid ho
      have HL := hid hl
      have HALL := hid hall
      have HF := hid hf
      have HVK : Hid (12 - k = v + 1 ∧ 13 - (k : Int) = (v : Int) + 1 + 1 ∧ k ≤ 12) := by show _ ∧ _; omega
      generalize l.getD v 0 = old at hcell
      clear hs ht ho hl hall hf hv hfw hlt hg
      have hset : ∀ (l2 : List Int) (x : Int), l2.length = 12 → (∀ j, j < v → l2.getD j 0 = if T.value ((j : Int) + 1) = 1 then (j : Int) + 1 else -((j : Int) + 1)) → x = (if T.value ((v : Int) + 1) = 1 then (v : Int) + 1 else -((v : Int) + 1)) →
          ∀ j, j < v + 1 → (l2.set v x).getD j 0 = if T.value ((j : Int) + 1) = 1 then (j : Int) + 1 else -((j : Int) + 1) := by
        intro l2 x h1 h2 h3 j hj
        by_cases e : j = v
        · subst e
          rw [← h3]; simp [List.getD_eq_getElem?_getD, h1, hv12]
        · rw [← h2 j (by omega)]
          simp only [List.getD_eq_getElem?_getD]
          rw [List.getElem?_set_ne (fun q => e q.symm)]
      have HSET := hid hset
      clear hset
      by_cases h1 : T.value ((v : Int) + 1) = 1
      · have HT1 := hid h1
        rw [h1] at HV
        clear h1
        go_wp2_with (first | (go_at_call 59; refine HV.out.mono ?_; rintro e w' ⟨rfl, hw⟩; have hw2 := hw.symm; subst hw2; clear hw))
        go_roundg k
        case measure => omega
        case rel =>
          refine ⟨(l.set v (-((v : Int) + 1))).set v ((v : Int) + 1), HVK.out.2.2, by rw [HVK.out.2.1], (HO.out.setg HL.out v _).setg (by simp [HL.out]) v _, by simp [HL.out], ?_, (HF.out.set (fun q => absurd q (by have := HS0.out; simp; omega)) _).set (fun q => absurd q (by have := HS0.out; simp; omega)) _⟩
          rw [HVK.out.1]
          refine HSET.out _ _ (by simp [HL.out]) (fun j hj => ?_) (by rw [if_pos HT1.out])
          rw [← HALL.out j hj]
          simp only [List.getD_eq_getElem?_getD]
          rw [List.getElem?_set_ne (by omega)]
      · have hb1 : (T.value ((v : Int) + 1) == 1) = false := by simpa using h1
        have HT1 := hid h1
        clear h1
        go_wp2_with (first | (go_at_call 59; refine HV.out.mono ?_; rintro e w' ⟨rfl, hw⟩; have hw2 := hw.symm; subst hw2; clear hw))
        go_roundg k
        case measure => omega
        case rel =>
          refine ⟨l.set v (-((v : Int) + 1)), HVK.out.2.2, by rw [HVK.out.2.1], HO.out.setg HL.out v _, by simp [HL.out], ?_, HF.out.set (fun q => absurd q (by have := HS0.out; simp; omega)) _⟩
          rw [HVK.out.1]
          exact HSET.out _ _ HL.out HALL.out (by rw [if_neg HT1.out])
    · have hg0 : gk = 0 := by omega
      subst hg0
      have hml : l = modelF T := by
        apply List.ext_getElem
        · rw [hl]; simp [modelF]
        · intro i h1 h2
          have := hall i (by omega)
          rw [List.getD_eq_getElem?_getD, List.getElem?_eq_getElem h1] at this
          simp only [Option.getD_some] at this
          rw [this]; simp [modelF]
      have hc := HC0.out.fr hf (by simp) (by simp)
      have c0 := hc.c 0 _ rfl
      have c1 := hc.c 1 _ rfl
      have c2 := hc.c 2 _ rfl
      have c3 := hc.c 3 _ rfl
      have c4 := hc.c 4 _ rfl
      have c5 := hc.c 5 _ rfl
      have c6 := hc.c 6 _ rfl
      have fz := hc.fz
      have hlog := hs.at_.log
      change wr.cell? ⟨E.s, 4, none⟩ = some lo at hlog
      have hcf := hs.at_.conflicts
      change wr.cell? ⟨E.s, 34, none⟩ = some (.int .i64 (S.conflicts : Nat)) at hcf
      have hrs := hs.at_.restarts
      change wr.cell? ⟨E.s, 35, none⟩ = some (.int .i64 (S.restarts : Nat)) at hrs
      have hfz := hs.at_.froz
      have hne : ¬ E.s = N := by have := HSN.out; omega
      have hne2 : ¬ N = E.s := by have := HSN.out; omega
      have HSR := hid hs
      have HML := hid hml
      have HO := hid ho
      have HFW := hid hfw
      clear hs ht ho hl hall hf hfw hlt hg hml hc
      have hNs : ¬ N < w.heap.size := by rw [HN.out]; omega
      have HNS := hid hNs
      clear hNs
      rcases HSR.out.own.shape with ⟨rfl, hlg⟩ | ⟨g, cap, rfl, _, _⟩
      · go_wp2_with fail
        go_region
        go_wp2_with fail
        try simp only [Exit.inBlock, Exit.then]
        refine bodyPost_ret (v := .agg #[.int .i64 0, .int .i64 0, .bool true, .slice (some ⟨N + 1, 0, none⟩) 12 12, .string ⟨#[]⟩, .int .i64 (S.conflicts : Nat), .int .i64 (S.restarts : Nat)]) (by simp [results, Tryz.results50, go_sem, cellSet, c0, c1, c2, c3, c4, c5, c6]) rfl ?_
        have hf7 := ((((((((Fr.refl [E.s, N] wr).set (p := ⟨E.s, 4, none⟩) (by simp) (Value.slice none 0 0)).set (p := ⟨N, 0, none⟩) (by simp) (Value.int .i64 0)).set (p := ⟨N, 1, none⟩) (by simp) (Value.int .i64 0)).set (p := ⟨N, 2, none⟩) (by simp) (Value.bool true)).set (p := ⟨N, 3, none⟩) (by simp) (Value.slice (some ⟨N + 1, 0, none⟩) 12 12)).set (p := ⟨N, 4, none⟩) (by simp) (Value.string ⟨#[]⟩)).set (p := ⟨N, 5, none⟩) (by simp) (Value.int .i64 (S.conflicts : Nat))).set (p := ⟨N, 6, none⟩) (by simp) (Value.int .i64 (S.restarts : Nat))
        have hs1 : SlvAt (wr.setCell ⟨E.s, 4, none⟩ (.slice none 0 0)) E { S with log := [] } (.slice none 0 0) := ⟨HSR.out.at_.set_log _, OwnI.nil _ _, HSR.out.ok, by simp [Value.ownBlock]⟩
        have hf6 := (((((((Fr.refl [N] (wr.setCell ⟨E.s, 4, none⟩ (.slice none 0 0))).set (p := ⟨N, 0, none⟩) (by simp) (Value.int .i64 0)).set (p := ⟨N, 1, none⟩) (by simp) (Value.int .i64 0)).set (p := ⟨N, 2, none⟩) (by simp) (Value.bool true)).set (p := ⟨N, 3, none⟩) (by simp) (Value.slice (some ⟨N + 1, 0, none⟩) 12 12)).set (p := ⟨N, 4, none⟩) (by simp) (Value.string ⟨#[]⟩)).set (p := ⟨N, 5, none⟩) (by simp) (Value.int .i64 (S.conflicts : Nat))).set (p := ⟨N, 6, none⟩) (by simp) (Value.int .i64 (S.restarts : Nat))
        refine hK.out _ _ ⟨N + 1, .slice none 0 0, rfl, ?_, ?_, rfl, ?_⟩
        · rw [← HML.out]
          exact ((HO.out.mono (by rw [HN.out]; omega)).fr hf7 (fun g hg hm => by have := HSN.out; simp [Value.ownBlock] at hg hm; omega)).drew
        · exact (hs1.fr hf6 (by simp; omega) (by simp [Value.ownBlock])).drewN (n := 1)
        · exact ((HFW.out.mono (by simp)).trans2 hf7 (fun x hx hlt => by simp at hx ⊢; rcases hx with e | e; exact e; exact absurd (e ▸ hlt) HNS.out)).drew
      · have hcap := HSR.out.own.cut
        have HCUT := hid hcap
        have hdj := HSR.out.dj g rfl
        have HDJ := hid hdj
        clear hcap hdj
        generalize S.log.length = ll at *
        go_wp2_with fail
        go_region
        go_wp2_with fail
        try simp only [Exit.inBlock, Exit.then]
        refine bodyPost_ret (v := .agg #[.int .i64 0, .int .i64 0, .bool true, .slice (some ⟨N + 1, 0, none⟩) 12 12, .string ⟨#[]⟩, .int .i64 (S.conflicts : Nat), .int .i64 (S.restarts : Nat)]) (by simp [results, Tryz.results50, go_sem, cellSet, c0, c1, c2, c3, c4, c5, c6]) rfl ?_
        have hf7 := ((((((((Fr.refl [E.s, N] wr).set (p := ⟨E.s, 4, none⟩) (by simp) (Value.slice (some ⟨g, 0, none⟩) 0 cap)).set (p := ⟨N, 0, none⟩) (by simp) (Value.int .i64 0)).set (p := ⟨N, 1, none⟩) (by simp) (Value.int .i64 0)).set (p := ⟨N, 2, none⟩) (by simp) (Value.bool true)).set (p := ⟨N, 3, none⟩) (by simp) (Value.slice (some ⟨N + 1, 0, none⟩) 12 12)).set (p := ⟨N, 4, none⟩) (by simp) (Value.string ⟨#[]⟩)).set (p := ⟨N, 5, none⟩) (by simp) (Value.int .i64 (S.conflicts : Nat))).set (p := ⟨N, 6, none⟩) (by simp) (Value.int .i64 (S.restarts : Nat))
        have hgs : g ≠ E.s := fun e => HDJ.out (by rw [e]; simp [Eb.all])
        have hgN : g ≠ N := fun e => by have := HLO.out g rfl; omega
        have hs1 : SlvAt (wr.setCell ⟨E.s, 4, none⟩ (.slice (some ⟨g, 0, none⟩) 0 cap)) E { S with log := [] } (.slice (some ⟨g, 0, none⟩) 0 cap) :=
          ⟨HSR.out.at_.set_log _, HCUT.out.fr ((Fr.refl [E.s] wr).set (by simp) _) (fun q hq hm => by simp [Value.ownBlock] at hq hm; omega), HSR.out.ok, fun q hq => by simp [Value.ownBlock] at hq; subst hq; exact HDJ.out⟩
        have hf6 := (((((((Fr.refl [N] (wr.setCell ⟨E.s, 4, none⟩ (.slice (some ⟨g, 0, none⟩) 0 cap))).set (p := ⟨N, 0, none⟩) (by simp) (Value.int .i64 0)).set (p := ⟨N, 1, none⟩) (by simp) (Value.int .i64 0)).set (p := ⟨N, 2, none⟩) (by simp) (Value.bool true)).set (p := ⟨N, 3, none⟩) (by simp) (Value.slice (some ⟨N + 1, 0, none⟩) 12 12)).set (p := ⟨N, 4, none⟩) (by simp) (Value.string ⟨#[]⟩)).set (p := ⟨N, 5, none⟩) (by simp) (Value.int .i64 (S.conflicts : Nat))).set (p := ⟨N, 6, none⟩) (by simp) (Value.int .i64 (S.restarts : Nat))
        refine hK.out _ _ ⟨N + 1, .slice (some ⟨g, 0, none⟩) 0 cap, rfl, ?_, ?_, rfl, ?_⟩
        · rw [← HML.out]
          exact ((HO.out.mono (by rw [HN.out]; omega)).fr hf7 (fun g hg hm => by have := HSN.out; simp [Value.ownBlock] at hg hm; omega)).drew
        · exact (hs1.fr hf6 (by simp; omega) (fun q hq hm => by simp [Value.ownBlock] at hq hm; omega)).drewN (n := 1)
        · exact ((HFW.out.mono (by simp)).trans2 hf7 (fun x hx hlt => by simp at hx ⊢; rcases hx with e | e; exact e; exact absurd (e ▸ hlt) HNS.out)).drew
end Go.Proofs.Qxb6500354aGreat
