/- The walk over search: refuted. -/
import Derived.Test.Qxb6500354aGreatPrt3
import Derived.Test.Qxb6500354aGreatChk12
namespace Go.Proofs.Qxb6500354aGreat
open Go.RowKit
set_option linter.unusedVariables false
set_option linter.unusedSimpArgs false

theorem flat_nums {rs : List (Bool × List Int)} (h : ∀ r ∈ rs, checkClause r.2 = 0) : ∀ x ∈ flatOf rs, flatNum x := by
  intro x hx
  unfold flatOf at hx
  obtain ⟨r, hr, hm⟩ := List.mem_flatMap.1 hx
  have hg := (checkClause_facts (h r hr)).2.1
  unfold flatRow at hm
  rcases List.mem_append.1 hm with e | e
  · rcases List.mem_append.1 e with e | e
    · split at e
      · rw [List.mem_singleton] at e; exact .inl e
      · simp at e
    · exact .inr (.inr (hg x e))
  · rw [List.mem_singleton] at e; exact .inr (.inl e)
set_option maxRecDepth 100000 in
set_option maxHeartbeats 4000000 in
theorem refuted_any {w : World} {E : Eb} {S : SolverS} {lo : Value} (h : SlvAt w E S lo) {rs : List (Bool × List Int)} (hl : S.log = flatOf rs) (hc : ∀ r ∈ rs, checkClause r.2 = 0) (hb : S.log.length ≤ 262144) :
    Calls Tryz.prog 48 #[.pointer (some ⟨E.s, 0, none⟩)] w fun e w' => ∃ lo', e = .returned (.agg #[.int .i64 0, .int .i64 0, .bool false, .slice none 0 0, .string (strN (printB S.log)), .int .i64 (S.conflicts : Nat), .int .i64 (S.restarts : Nat)]) ∧
      SlvAt w' E { S with log := [] } lo' ∧ lo'.ownBlock = lo.ownBlock ∧ Fr [E.s] w w' := by
  obtain ⟨N, hN⟩ : ∃ N, w.heap.size = N := ⟨_, rfl⟩
  have hC0 := CellsAt.mk_alloc w [.int .i64 0, .int .i64 0, .bool false, .slice none 0 0, .string ⟨#[]⟩, .int .i64 0, .int .i64 0] 74
  obtain ⟨w0, hw0⟩ : ∃ w0, w.alloc (Obj.cells #[.int .i64 0, .int .i64 0, .bool false, .slice none 0 0, .string ⟨#[]⟩, .int .i64 0, .int .i64 0] 74) = w0 := ⟨_, rfl⟩
  change CellsAt (w.alloc (Obj.cells #[.int .i64 0, .int .i64 0, .bool false, .slice none 0 0, .string ⟨#[]⟩, .int .i64 0, .int .i64 0] 74)) w.heap.size _ at hC0
  rw [hw0, hN] at hC0
  have hf0 : Fr [] w w0 := by rw [← hw0]; exact (Fr.refl _ _).alloc _
  have hsN : E.s < N := by rw [← hN]; exact h.lt
  have hlo : ∀ g, lo.ownBlock = some g → g < N := fun g hg => by rw [← hN]; exact h.own.lt g hg
  have h0 := h.fr hf0 (by simp) (by simp)
  have kp := h0.at_.p
  change w0.cell? ⟨E.s, 0, none⟩ = some (.pointer (some ⟨E.p, 0, none⟩)) at kp
  have kl := h0.at_.log
  change w0.cell? ⟨E.s, 4, none⟩ = some lo at kl
  have HPR : Hid (∀ wx, Fr [] w0 wx → Calls Tryz.prog 87 #[.pointer (some ⟨E.p, 0, none⟩), lo] wx fun e w' => e = .returned (.tuple #[.string (strN (printB S.log)), .int .i64 0]) ∧ Fr [] wx w') :=
    hid (fun wx hx => print_any _ (h0.own.ints.fr hx (by simp)) hb (by rw [hl]; exact flat_nums hc) (by rw [hl]; exact checkFlat_flat hc))
  have HC0 := hid hC0
  have HF0 := hid hf0
  have HN := hid hN
  have HSN := hid hsN
  have HLO := hid hlo
  have HS := hid h0
  have HNS : Hid (¬ N < w.heap.size) := hid (by rw [hN]; omega)
  clear hC0 hf0 hsN hlo h h0 hl hc hb
  refine calls_via fun K hK => ?_
  go_enter Tryz.func48, Tryz.ntmps48
  go_wp2_with fail
  go_region_with (go_at_call 87; refine (HPR.out _ (by first | exact Fr.refl _ _ | exact (Fr.refl _ _).drew | exact Fr.of_drewN _)).mono ?_; rintro e w2 ⟨rfl, hf2⟩)
  all_goals
    have HF2 := hid (HF0.out.trans ((Fr.refl [] w0).drew.trans hf2))
    have hs2 := HS.out.fr ((Fr.refl [] w0).drew.trans hf2) (by simp) (by simp)
    have hc2 := HC0.out.fr ((Fr.refl [] w0).drew.trans hf2) (by simp) (by simp)
    have c0 := hc2.c 0 _ rfl
    have c1 := hc2.c 1 _ rfl
    have c2 := hc2.c 2 _ rfl
    have c3 := hc2.c 3 _ rfl
    have c4 := hc2.c 4 _ rfl
    have c5 := hc2.c 5 _ rfl
    have c6 := hc2.c 6 _ rfl
    have fz := hc2.fz
    have hlog := hs2.at_.log
    change w2.cell? ⟨E.s, 4, none⟩ = some lo at hlog
    have hcf := hs2.at_.conflicts
    change w2.cell? ⟨E.s, 34, none⟩ = some (.int .i64 (S.conflicts : Nat)) at hcf
    have hrs := hs2.at_.restarts
    change w2.cell? ⟨E.s, 35, none⟩ = some (.int .i64 (S.restarts : Nat)) at hrs
    have hfz := hs2.at_.froz
    have hne : ¬ E.s = N := by have := HSN.out; omega
    have hne2 : ¬ N = E.s := by have := HSN.out; omega
    have HS2 := hid hs2
    clear hs2 hc2 hf2 kp kl hw0 hN
    obtain ⟨str, hstr⟩ : ∃ z, strN (printB S.log) = z := ⟨_, rfl⟩
    rw [hstr] at hK
    have HSTR := hid hstr
    try rw [HSTR.out]
    clear hstr
    rcases HS2.out.own.shape with ⟨rfl, hlg⟩ | ⟨g, cap, rfl, _, _⟩
    · clear hlg
      go_wp2_with fail
      go_region
      go_wp2_with fail
      try simp only [Exit.inBlock, Exit.then]
      refine bodyPost_ret (v := .agg #[.int .i64 0, .int .i64 0, .bool false, .slice none 0 0, .string str, .int .i64 (S.conflicts : Nat), .int .i64 (S.restarts : Nat)]) (by simp [results, Tryz.results48, go_sem, cellSet, c0, c1, c2, c3, c4, c5, c6]) rfl ?_
      have hf7 := ((((((((Fr.refl [E.s, N] w2).set (p := ⟨E.s, 4, none⟩) (by simp) (Value.slice none 0 0)).set (p := ⟨N, 0, none⟩) (by simp) (Value.int .i64 0)).set (p := ⟨N, 1, none⟩) (by simp) (Value.int .i64 0)).set (p := ⟨N, 2, none⟩) (by simp) (Value.bool false)).set (p := ⟨N, 3, none⟩) (by simp) (Value.slice none 0 0)).set (p := ⟨N, 4, none⟩) (by simp) (Value.string str)).set (p := ⟨N, 5, none⟩) (by simp) (Value.int .i64 (S.conflicts : Nat))).set (p := ⟨N, 6, none⟩) (by simp) (Value.int .i64 (S.restarts : Nat))
      have hs1 : SlvAt (w2.setCell ⟨E.s, 4, none⟩ (.slice none 0 0)) E { S with log := [] } (.slice none 0 0) := ⟨HS2.out.at_.set_log _, OwnI.nil _ _, HS2.out.ok, by simp [Value.ownBlock]⟩
      have hf6 := (((((((Fr.refl [N] (w2.setCell ⟨E.s, 4, none⟩ (.slice none 0 0))).set (p := ⟨N, 0, none⟩) (by simp) (Value.int .i64 0)).set (p := ⟨N, 1, none⟩) (by simp) (Value.int .i64 0)).set (p := ⟨N, 2, none⟩) (by simp) (Value.bool false)).set (p := ⟨N, 3, none⟩) (by simp) (Value.slice none 0 0)).set (p := ⟨N, 4, none⟩) (by simp) (Value.string str)).set (p := ⟨N, 5, none⟩) (by simp) (Value.int .i64 (S.conflicts : Nat))).set (p := ⟨N, 6, none⟩) (by simp) (Value.int .i64 (S.restarts : Nat))
      refine hK.out _ _ ⟨.slice none 0 0, rfl, ?_, rfl, ?_⟩
      · exact (hs1.fr hf6 (by simp; omega) (by simp [Value.ownBlock])).drewN (n := 1)
      · exact ((HF2.out.mono (by simp)).trans2 hf7 (fun x hx hlt => by simp at hx ⊢; rcases hx with e | e; exact e; exact absurd (e ▸ hlt) HNS.out)).drew
    · have hcap := HS2.out.own.cut
      have HCUT := hid hcap
      have hdj := HS2.out.dj g rfl
      have HDJ := hid hdj
      clear hcap hdj
      generalize S.log.length = ll at *
      go_wp2_with fail
      go_region
      go_wp2_with fail
      try simp only [Exit.inBlock, Exit.then]
      refine bodyPost_ret (v := .agg #[.int .i64 0, .int .i64 0, .bool false, .slice none 0 0, .string str, .int .i64 (S.conflicts : Nat), .int .i64 (S.restarts : Nat)]) (by simp [results, Tryz.results48, go_sem, cellSet, c0, c1, c2, c3, c4, c5, c6]) rfl ?_
      have hf7 := ((((((((Fr.refl [E.s, N] w2).set (p := ⟨E.s, 4, none⟩) (by simp) (Value.slice (some ⟨g, 0, none⟩) 0 cap)).set (p := ⟨N, 0, none⟩) (by simp) (Value.int .i64 0)).set (p := ⟨N, 1, none⟩) (by simp) (Value.int .i64 0)).set (p := ⟨N, 2, none⟩) (by simp) (Value.bool false)).set (p := ⟨N, 3, none⟩) (by simp) (Value.slice none 0 0)).set (p := ⟨N, 4, none⟩) (by simp) (Value.string str)).set (p := ⟨N, 5, none⟩) (by simp) (Value.int .i64 (S.conflicts : Nat))).set (p := ⟨N, 6, none⟩) (by simp) (Value.int .i64 (S.restarts : Nat))
      have hgs : g ≠ E.s := fun e => HDJ.out (by rw [e]; simp [Eb.all])
      have hgN : g ≠ N := fun e => by have := HLO.out g rfl; omega
      have hs1 : SlvAt (w2.setCell ⟨E.s, 4, none⟩ (.slice (some ⟨g, 0, none⟩) 0 cap)) E { S with log := [] } (.slice (some ⟨g, 0, none⟩) 0 cap) :=
        ⟨HS2.out.at_.set_log _, HCUT.out.fr ((Fr.refl [E.s] w2).set (by simp) _) (fun q hq hm => by simp [Value.ownBlock] at hq hm; omega), HS2.out.ok, fun q hq => by simp [Value.ownBlock] at hq; subst hq; exact HDJ.out⟩
      have hf6 := (((((((Fr.refl [N] (w2.setCell ⟨E.s, 4, none⟩ (.slice (some ⟨g, 0, none⟩) 0 cap))).set (p := ⟨N, 0, none⟩) (by simp) (Value.int .i64 0)).set (p := ⟨N, 1, none⟩) (by simp) (Value.int .i64 0)).set (p := ⟨N, 2, none⟩) (by simp) (Value.bool false)).set (p := ⟨N, 3, none⟩) (by simp) (Value.slice none 0 0)).set (p := ⟨N, 4, none⟩) (by simp) (Value.string str)).set (p := ⟨N, 5, none⟩) (by simp) (Value.int .i64 (S.conflicts : Nat))).set (p := ⟨N, 6, none⟩) (by simp) (Value.int .i64 (S.restarts : Nat))
      refine hK.out _ _ ⟨.slice (some ⟨g, 0, none⟩) 0 cap, rfl, ?_, rfl, ?_⟩
      · exact (hs1.fr hf6 (by simp; omega) (fun q hq hm => by simp [Value.ownBlock] at hq hm; omega)).drewN (n := 1)
      · exact ((HF2.out.mono (by simp)).trans2 hf7 (fun x hx hlt => by simp at hx ⊢; rcases hx with e | e; exact e; exact absurd (e ▸ hlt) HNS.out)).drew
end Go.Proofs.Qxb6500354aGreat
