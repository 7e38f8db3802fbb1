/- THE WALKS over search, 6: conflict. -/
import Derived.Test.Qxb6500354aGreatSrch5
namespace Go.Proofs.Qxb6500354aGreat
open Go.RowKit
set_option linter.unusedVariables false
set_option linter.unusedSimpArgs false

theorem Ints.nil (w : World) : Ints w (.slice none 0 0) [] := .inl ⟨rfl, rfl⟩

set_option maxRecDepth 100000 in
set_option maxHeartbeats 4000000 in
theorem conflict_no {w : World} {E : Eb} {s : St} {lo : Value} (h : EngAt w E s.W s.T s.S lo) (r : Int) (hr : analyzeF s.W s.T r = .fail 10) (hc : s.S.conflicts ≤ 1000000) (hl : s.S.log.length ≤ 100000000) :
    Calls Tryz.prog 47 #[.pointer (some ⟨E.s, 0, none⟩), .int .i64 r] w fun e w' => e = .returned (.bool false) ∧ (s.conflict r).1 = false ∧ ∃ lo', EngAt w' E (s.conflict r).2.W (s.conflict r).2.T (s.conflict r).2.S lo' ∧ Nx w lo lo' ∧ Fr (E.mid ++ blk lo) w w' := by
  have hne := Eb.ne h.nd
  have hcf := h.sv.at_.conflicts
  change w.cell? ⟨E.s, 34, none⟩ = some (.int .i64 (s.S.conflicts : Nat)) at hcf
  have hlp := h.sv.at_.l
  change w.cell? ⟨E.s, 3, none⟩ = some (.pointer (some ⟨E.l, 0, none⟩)) at hlp
  have hfz := h.sv.at_.froz
  have HRES : Hid (s.conflict r = (false, { s with S := ({ s.S with conflicts := s.S.conflicts + 1 } : SolverS).note false [] })) := by
    show _ = _; rw [conflict_eq, hr, if_neg (by decide)]
  have hf1 : Fr [E.s] w (w.setCell ⟨E.s, 34, none⟩ (.int .i64 ((s.S.conflicts + 1 : Nat) : Int))) := (Fr.refl _ _).set (by simp) _
  have hs1 := h.sv.putConflicts (s.S.conflicts + 1)
  have ht1 := h.tr.fr hf1 (by simp; omega)
  have hw1 := h.wt.fr hf1 (by simp; omega)
  have hl1 := h.ln.fr hf1 (by simp; omega)
  have HAN := hid (analyze_any hl1 hw1 ht1 (by omega) (by omega) r)
  rw [hr] at HAN
  simp only [LearntS.fail] at HAN
  rw [show ((10 : Nat) : Int) = 10 from rfl] at HAN
  have hcast : ((s.S.conflicts + 1 : Nat) : Int) = (s.S.conflicts : Int) + 1 := by simp
  rw [hcast] at hs1 ht1 hw1 hl1 HAN hf1
  have HH := hid h
  have HS1 := hid hs1
  have HT1 := hid ht1
  have HW1 := hid hw1
  have HL1 := hid hl1
  have HF1 := hid hf1
  have HNE := hid hne
  have HLOG := hid hl
  clear h hne hs1 ht1 hw1 hl1 hf1 hl hcast hr
  refine calls_via fun K hK => ?_
  go_enter Tryz.func47, Tryz.ntmps47
  go_wp2_with fail
  refine HAN.out.mono ?_
  rintro e w2 ⟨v, rfl, hown, htv, hln2, hf2⟩
  obtain ⟨a0, n0, rfl⟩ := htv.form
  obtain ⟨w2a, hw2a⟩ : ∃ x, w2.alloc (Obj.cells #[.int .i64 10, .slice a0 n0 n0, .int .i64 0, .int .i64 0] 153) = x := ⟨_, rfl⟩
  have hf2a : Fr [E.l] (w.setCell ⟨E.s, 34, none⟩ (.int .i64 ((s.S.conflicts : Int) + 1))) w2a := by rw [← hw2a]; exact hf2.alloc _
  have hln2a : LrnAt w2a E.l E.t E.w .clean := by rw [← hw2a]; exact hln2.alloc _
  have HW2A := hid hw2a
  clear hf2 hln2 hw2a
  have hf2 := hf2a
  have hln2 := hln2a
  clear hf2a hln2a
  have hs2 := HS1.out.fr hf2 (by have := HNE.out; simp; omega) (fun g hg hm => HS1.out.dj g hg (by rw [List.mem_singleton] at hm; rw [hm]; simp [Eb.all]))
  have hsz : ∀ g ∈ E.all, g < w2a.heap.size := fun g hg => Nat.lt_of_lt_of_le (HH.out.lt g hg) (Nat.le_trans HF1.out.size hf2.size)
  have HNT := hid (note_any hs2 hsz false (Ints.nil w2a) (fun g hg => by simp [Value.ownBlock] at hg) (fun g hg => by simp [Value.ownBlock] at hg) (by have := HLOG.out; simp; omega))
  have ht2 := HT1.out.fr hf2 (by have := HNE.out; simp; omega)
  have hw2 := HW1.out.fr hf2 (by have := HNE.out; simp; omega)
  have HT2 := hid ht2
  have HW2 := hid hw2
  have HLN2 := hid hln2
  have HF2 := hid hf2
  clear hs2 hsz hown htv hf2 hcf hlp hfz ht2 hw2 hln2
  go_wp2_with fail
  rw [HW2A.out]
  refine HNT.out.mono ?_
  rintro e w3 ⟨rfl, lo', hs3, hn3, hf3⟩
  have hx : ∀ g, g ∈ E.all → g ≠ E.s → g ∉ E.s :: blk lo := by
    intro g hg hne hm
    rcases List.mem_cons.1 hm with e | e
    · exact hne e
    · exact HH.out.sv.dj _ (mem_blk.1 e) hg
  have ht3 := HT2.out.fr hf3 (hx _ (by simp [Eb.all]) (by have := HNE.out; omega))
  have hw3 := HW2.out.fr hf3 (hx _ (by simp [Eb.all]) (by have := HNE.out; omega))
  have hl3 := HLN2.out.fr hf3 (hx _ (by simp [Eb.all]) (by have := HNE.out; omega))
  have hff : Fr (E.mid ++ blk lo) w w3 := by
    have h1 : Fr (E.mid ++ blk lo) w w2a := (HF1.out.mono (by intro x hx _; rw [List.mem_singleton] at hx; rw [hx]; simp [Eb.mid])).trans (HF2.out.mono (by intro x hx _; rw [List.mem_singleton] at hx; rw [hx]; simp [Eb.mid]))
    exact h1.trans (hf3.mono (by intro x hx _; rcases List.mem_cons.1 hx with e | e; rw [e]; simp [Eb.mid]; exact List.mem_append_right _ e))
  have HX : Hid (EngAt w3 E s.W s.T (({ s.S with conflicts := s.S.conflicts + 1 } : SolverS).note false []) lo' ∧ Nx w lo lo' ∧ Fr (E.mid ++ blk lo) w w3) :=
    ⟨⟨HH.out.nd, fun g hg => Nat.lt_of_lt_of_le (HH.out.lt g hg) hff.size, hs3, ht3, hw3, hl3⟩, (fun g hg => (hn3 g hg).imp (fun z => z) (fun z => Nat.le_trans (Nat.le_trans HF1.out.size HF2.out.size) z)), hff⟩
  clear hs3 hn3 hf3 hx ht3 hw3 hl3 hff
  go_wp2_with fail
  refine hK.out _ _ ⟨rfl, by rw [HRES.out], lo', ?_⟩
  rw [HRES.out]; exact HX.out
end Go.Proofs.Qxb6500354aGreat
