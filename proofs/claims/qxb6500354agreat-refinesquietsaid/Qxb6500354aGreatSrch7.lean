/- THE WALKS over search, 7: conflict, learnt from. -/
import Derived.Test.Qxb6500354aGreatSrch6
import Derived.Deep.RegionHeld3
namespace Go.Proofs.Qxb6500354aGreat
open Go.RowKit
set_option linter.unusedVariables false
set_option linter.unusedSimpArgs false

theorem learnt_alloc2 (w : World) (s : Value) (a k : Int) (t : TypeId) : LearntAt (w.alloc (.cells #[.int .i64 0, s, .int .i64 a, .int .i64 k] t)) w.heap.size 0 s a k := by
  refine ⟨?_, ?_, ?_, ?_, ?_⟩
  · exact (World.cell?_alloc_new _ _ _ 0).trans rfl
  · exact (World.cell?_alloc_new _ _ _ 1).trans rfl
  · exact (World.cell?_alloc_new _ _ _ 2).trans rfl
  · exact (World.cell?_alloc_new _ _ _ 3).trans rfl
  · intro i; exact (World.frozen?_alloc_new _ _ _ _).trans rfl
theorem sub_mid {E : Eb} {D : List Nat} {lo : Value} (h : ∀ x ∈ D, x ∈ E.mid) : ∀ x, x ∈ D ++ blk lo → x ∈ E.mid ++ blk lo := by
  intro x hx
  rcases List.mem_append.1 hx with e | e
  · exact List.mem_append_left _ (h x e)
  · exact List.mem_append_right _ e
/-- The parts of a learnt conflict, named. -/
structure Parts (s : St) (g : LearntS) (b id : Nat) (S1 : SolverS) (s2 s3 s5 : St) : Prop where
  gb : g.back = (b : Int)
  eS1 : S1 = ({ s.S with conflicts := s.S.conflicts + 1 } : SolverS).note false g.lits
  es2 : s2 = { W := s.W, T := s.T.back b, S := { S1 with phase := phaseF s.T (b : Int) s.T.st.length S1.phase } }
  es3 : s3 = s2.forget
  t3 : s3.T = s.T.back b
  add : s3.W.add g.lits true = (id, 0, s3.W.put id g.lits)
  id4 : 40 ≤ id ∧ id < 52
  es5 : s5 = { W := s3.W.put id g.lits, T := s3.T, S := ({ s3.S with alive := setB s3.S.alive (id - 40), count := s3.S.count + 1 } : SolverS).bump g.lits }
  same : SameS S1 { s3.S with phase := S1.phase }
  ct : s3.S.count ≤ 12
  res : s.learnt g = s5
theorem parts_of {ps : List (List Int)} {s : St} {g : LearntS} (h : Mid ps s g) : ∃ b id S1 s2 s3 s5, Parts s g b id S1 s2 s3 s5 ∧ FI ps s2.T [g.lits] (s.S.conflicts + 1) s2.W s2.S := by
  obtain ⟨b, hb⟩ : ∃ b : Nat, g.back = b := ⟨g.back.toNat, by have := h.an.b0; omega⟩
  have hbn : g.back.toNat = b := by omega
  obtain ⟨ha, hfi, id, hid, h40, h52, hfree⟩ := h
  rw [hbn] at hfi hid
  obtain ⟨S1, hS1⟩ : ∃ x, ({ s.S with conflicts := s.S.conflicts + 1 } : SolverS).note false g.lits = x := ⟨_, rfl⟩
  rw [hS1] at hfi hid
  obtain ⟨s2, hs2⟩ : ∃ x, ({ s with S := S1 } : St).jump b = x := ⟨_, rfl⟩
  rw [hs2] at hid
  have hs2e : s2 = { W := s.W, T := s.T.back b, S := { S1 with phase := phaseF s.T (b : Int) s.T.st.length S1.phase } } := by rw [← hs2]; rfl
  have hfi2 : FI ps s2.T [g.lits] (s.S.conflicts + 1) s2.W s2.S := by rw [hs2e]; rw [hs2, hs2e] at hfi; exact hfi
  obtain ⟨f1, f2, f3, f4, f5⟩ := forget_law (s := s2) hfi2
  have hadd : s2.forget.W.add g.lits true = (id, 0, s2.forget.W.put id g.lits) := by
    unfold WatchS.add; rw [if_pos ha.nf, hid]
  refine ⟨b, id, S1, s2, s2.forget, _, ⟨hb, hS1.symm, hs2e, rfl, by rw [f3, hs2e], hadd, ⟨h40, h52⟩, rfl, ?_, f1.al.count, ?_⟩, hfi2⟩
  · rw [hs2e] at f2 ⊢
    exact ⟨f2.act, rfl, f2.inc, f2.conflicts, f2.restarts, f2.since⟩
  · unfold St.learnt
    simp only [hbn, hS1, hs2, hadd, if_true]

set_option maxRecDepth 100000 in
set_option maxHeartbeats 8000000 in
theorem conflict_yes {w : World} {E : Eb} {s : St} {lo : Value} {ps : List (List Int)} (h : EngAt w E s.W s.T s.S lo) (r : Int) (hm : Mid ps s (analyzeF s.W s.T r)) (hps : ps.length ≤ 40) (hc : s.S.conflicts ≤ 4105) (hlog : LogIs ps s.S.log (liveL s.W) s.S.conflicts) (hgg : GG s.S) :
    Calls Tryz.prog 47 #[.pointer (some ⟨E.s, 0, none⟩), .int .i64 r] w fun e w' => e = .returned (.bool true) ∧ (s.conflict r).1 = true ∧ ∃ lo', EngAt w' E (s.conflict r).2.W (s.conflict r).2.T (s.conflict r).2.S lo' ∧ Nx w lo lo' ∧ Fr (E.mid ++ blk lo) w w' := by
  have hne := Eb.ne h.nd
  have hcf := h.sv.at_.conflicts
  change w.cell? ⟨E.s, 34, none⟩ = some (.int .i64 (s.S.conflicts : Nat)) at hcf
  have hlp := h.sv.at_.l
  change w.cell? ⟨E.s, 3, none⟩ = some (.pointer (some ⟨E.l, 0, none⟩)) at hlp
  have hfz := h.sv.at_.froz
  have hCE := conflict_eq s r
  rw [if_pos hm.an.err] at hCE
  have hf1 : Fr [E.s] w (w.setCell ⟨E.s, 34, none⟩ (.int .i64 ((s.S.conflicts + 1 : Nat) : Int))) := (Fr.refl _ _).set (by simp) _
  have hs1 := h.sv.putConflicts (s.S.conflicts + 1)
  have ht1 := h.tr.fr hf1 (by simp; omega)
  have hw1 := h.wt.fr hf1 (by simp; omega)
  have hl1 := h.ln.fr hf1 (by simp; omega)
  have HAN := hid (analyze_any hl1 hw1 ht1 (by omega) (by omega) r)
  obtain ⟨g, hg⟩ : ∃ g, analyzeF s.W s.T r = g := ⟨_, rfl⟩
  rw [hg] at HAN hm hCE
  rw [hm.an.err] at HAN
  rw [show ((0 : Nat) : Int) = 0 from rfl] at HAN
  have hcast : ((s.S.conflicts + 1 : Nat) : Int) = (s.S.conflicts : Int) + 1 := by simp
  rw [hcast] at hs1 ht1 hw1 hl1 HAN hf1
  obtain ⟨b, id, S1, s2, s3, s5, hP, hfi⟩ := parts_of hm
  rw [hP.res] at hCE
  rw [hP.gb] at HAN
  have hlits := checkClause_facts hm.an.nf
  have hbl : b ≤ s.T.lims.length := by have := hm.an.blt; have := hP.gb; omega
  have hll := hlog.len
  have HP := hid hP
  have HFI := hid hfi
  have HCE := hid hCE
  have HH := hid h
  have HS1 := hid hs1
  have HF1 := hid hf1
  have HNE := hid hne
  have HLIT := hid hlits
  have HBL := hid hbl
  have HPS := hid hps
  have HGG := hid hgg
  have HCC := hid hc
  have HLL : Hid (s.S.log.length ≤ 200000) := by show _ ≤ _; omega
  have HT1 := hid ht1
  have HW1 := hid hw1
  clear h hne hs1 ht1 hw1 hl1 hf1 hlog hcast hg hm hCE hP hfi hlits hbl hll hps hgg
  refine calls_via fun K hK => ?_
  go_enter Tryz.func47, Tryz.ntmps47
  go_wp2_with fail
  refine HAN.out.mono ?_
  rintro e w2 ⟨v, rfl, hown, htv, hln2, hf2⟩
  obtain ⟨a0, n0, rfl⟩ := htv.form
  obtain ⟨N, hN⟩ : ∃ N, w2.heap.size = N := ⟨_, rfl⟩
  have hLA := learnt_alloc2 w2 (.slice a0 n0 n0) g.assert (b : Int) 153
  obtain ⟨w2a, hw2a⟩ : ∃ x, w2.alloc (Obj.cells #[.int .i64 0, .slice a0 n0 n0, .int .i64 g.assert, .int .i64 (b : Int)] 153) = x := ⟨_, rfl⟩
  rw [hw2a, hN] at hLA
  have hszN : w2a.heap.size = N + 1 := by rw [← hw2a]; simp [hN]
  have hf2a : Fr [E.l] (w.setCell ⟨E.s, 34, none⟩ (.int .i64 ((s.S.conflicts : Int) + 1))) w2a := by rw [← hw2a]; exact hf2.alloc _
  have hln2a : LrnAt w2a E.l E.t E.w .clean := by rw [← hw2a]; exact hln2.alloc _
  have hsz1 : (w.setCell ⟨E.s, 34, none⟩ (.int .i64 ((s.S.conflicts : Int) + 1))).heap.size = w.heap.size := by simp [World.setCell]
  have hwN : w.heap.size ≤ N := by have := hf2.size; rw [hsz1, hN] at this; exact this
  -- the slice's block
  have hvb : ∀ q, (Value.slice a0 n0 n0).ownBlock = some q → w.heap.size ≤ q ∧ q < N := by
    intro q hq
    have h1 := hown.base q hq
    have h2 := hown.lt q hq
    rw [hsz1] at h1; rw [hN] at h2; exact ⟨h1, h2⟩
  have hI2 : Ints w2a (.slice a0 n0 n0) g.lits := by rw [← hw2a]; exact hown.ints.alloc _
  have hs2a := HS1.out.fr hf2a (by have := HNE.out; simp; omega) (fun q hq hm => HS1.out.dj q hq (by rw [List.mem_singleton] at hm; rw [hm]; simp [Eb.all]))
  have hEw : ∀ q ∈ E.all, q < w.heap.size := HH.out.lt
  have hsz : ∀ q ∈ E.all, q < w2a.heap.size := fun q hq => by have := hEw q hq; omega
  have hloW : ∀ q, lo.ownBlock = some q → q < w.heap.size := HH.out.sv.blk_lt
  have HNT := hid (note_any hs2a hsz false hI2 (fun q hq => ⟨fun e => by have := hvb q hq; have := hEw E.s (by simp [Eb.all]); omega, fun e => by have := hvb q hq; have := hloW q e; omega⟩)
    (fun q hq => by have := hvb q hq; omega) (by have := HLL.out; have := HLIT.out.1; show s.S.log.length + _ ≤ _; omega))
  have ht2 := HT1.out.fr hf2a (by have := HNE.out; simp; omega)
  have hw2w := HW1.out.fr hf2a (by have := HNE.out; simp; omega)
  have hfw2 : Fr (E.mid ++ blk lo) w w2a := (HF1.out.mono (by intro x hx _; rw [List.mem_singleton] at hx; rw [hx]; simp [Eb.mid])).trans (hf2a.mono (by intro x hx _; rw [List.mem_singleton] at hx; rw [hx]; simp [Eb.mid]))
  have HW2A := hid hw2a
  have HN2 := hid hN
  have HLA := hid hLA
  have HSZN := hid hszN
  have HWN := hid hwN
  have HVB := hid hvb
  have HI2 := hid hI2
  have HEW := hid hEw
  have HLOW := hid hloW
  have HT2 := hid ht2
  have HW2 := hid hw2w
  have HLN2 := hid hln2a
  have HFW2 := hid hfw2
  clear hown htv hln2 hf2 hN hLA hszN hf2a hln2a hsz1 hwN hvb hI2 hs2a hEw hsz hloW ht2 hw2w hfw2 hw2a hcf hlp hfz
  go_wp2_with fail
  rw [HW2A.out, HN2.out]
  refine HNT.out.mono ?_
  rintro e w3 ⟨rfl, lo1, hs3, hn3, hf3⟩
  rw [← HP.out.eS1] at hs3
  have hx : ∀ q, q ∈ E.all → q ≠ E.s → q ∉ E.s :: blk lo := by
    intro q hq hne hm
    rcases List.mem_cons.1 hm with e | e
    · exact hne e
    · exact HH.out.sv.dj _ (mem_blk.1 e) hq
  have hNx : ∀ q, w.heap.size ≤ q → q ∉ E.s :: blk lo := by
    intro q hq hm
    rcases List.mem_cons.1 hm with e | e
    · have := HEW.out E.s (by simp [Eb.all]); omega
    · have := HLOW.out q (mem_blk.1 e); omega
  have hla3 := HLA.out.fr hf3 (hNx N HWN.out)
  have hI3 := HI2.out.fr hf3 (fun q hq => hNx q (HVB.out q hq).1)
  have ht3 := HT2.out.fr hf3 (hx _ (by simp [Eb.all]) (by have := HNE.out; omega))
  have hw3 := HW2.out.fr hf3 (hx _ (by simp [Eb.all]) (by have := HNE.out; omega))
  have hl3 := HLN2.out.fr hf3 (hx _ (by simp [Eb.all]) (by have := HNE.out; omega))
  have hfw3 : Fr (E.mid ++ blk lo) w w3 := HFW2.out.trans (hf3.mono (by intro x hx _; rcases List.mem_cons.1 hx with e | e; rw [e]; simp [Eb.mid]; exact List.mem_append_right _ e))
  have hnx1 : Nx w lo lo1 := fun q hq => (hn3 q hq).imp (fun z => z) (fun z => by have := HSZN.out; have := HWN.out; omega)
  have hlo1 : ∀ q, lo1.ownBlock = some q → q < w.heap.size ∨ N < q := by
    intro q hq
    rcases hn3 q hq with e | e
    · exact .inl (HLOW.out q e)
    · right; have := HSZN.out; omega
  have HJ := hid (jump_any hs3 ht3 (by have := HNE.out; omega) (fun q hq e => hs3.dj q hq (by rw [e]; simp [Eb.all])) b HBL.out)
  have hb3 := hla3.c3
  have HLA3 := hid hla3
  have HI3 := hid hI3
  have HW3 := hid hw3
  have HLN3 := hid hl3
  have HFW3 := hid hfw3
  have HNX1 := hid hnx1
  have HLO1 := hid hlo1
  have HDJ1 := hid hs3.dj
  clear hs3 hn3 hf3 hx hNx hla3 hI3 ht3 hw3 hl3 hfw3 hnx1 hlo1
  go_wp2_with fail
  refine HJ.out.mono ?_
  rintro e w4 ⟨rfl, hs4, ht4, hf4⟩
  have hs4e : SlvAt w4 E s2.S lo1 := by rw [HP.out.es2]; exact hs4
  have ht4e : TrlAt w4 E.t s2.T := by rw [HP.out.es2]; exact ht4
  have hNst : ∀ q, w.heap.size ≤ q → q ∉ ([E.s, E.t] : List Nat) := by
    intro q hq hm
    have h1 := HEW.out E.s (by simp [Eb.all])
    have h2 := HEW.out E.t (by simp [Eb.all])
    simp at hm; omega
  have hw4 : WatAt w4 E.w E.t s2.W := by rw [HP.out.es2]; exact HW3.out.fr hf4 (by have := HNE.out; simp; omega)
  have hl4 := HLN3.out.fr hf4 (by have := HNE.out; simp; omega)
  have hla4 := HLA3.out.fr hf4 (hNst N HWN.out)
  have hI4 := HI3.out.fr hf4 (fun q hq => hNst q (HVB.out q hq).1)
  have hfw4 : Fr (E.mid ++ blk lo) w w4 := HFW3.out.trans (hf4.mono (by intro x hx _; simp [Eb.mid] at hx ⊢; omega))
  have HFG := hid (forget_any (s := s2) hs4e ht4e hw4 HH.out.nd (fun q hq => Nat.lt_of_lt_of_le (HEW.out q hq) hfw4.size) HFI.out HPS.out (by have := HCC.out; omega))
  have HT4 := hid ht4e
  have HLA4 := hid hla4
  have HI4 := hid hI4
  have HLN4 := hid hl4
  have HFW4 := hid hfw4
  clear hs4 ht4 hf4 hs4e ht4e hNst hw4 hl4 hla4 hI4 hfw4 hb3
  go_wp2_with fail
  refine HFG.out.mono ?_
  rintro e w5 ⟨rfl, lo2, hs5, hw5, hn5, hf5⟩
  rw [← HP.out.es3] at hs5 hw5
  have hx : ∀ q, q ∈ E.all → q ≠ E.s → q ≠ E.w → q ∉ [E.s, E.w] ++ blk lo1 := by
    intro q hq h1 h2 hm
    rcases List.mem_append.1 hm with e | e
    · simp at e; omega
    · exact HDJ1.out _ (mem_blk.1 e) hq
  have hNx : ∀ q, w.heap.size ≤ q → q ≤ N → q ∉ [E.s, E.w] ++ blk lo1 := by
    intro q hq hqN hm
    rcases List.mem_append.1 hm with e | e
    · have h1 := HEW.out E.s (by simp [Eb.all])
      have h2 := HEW.out E.w (by simp [Eb.all])
      simp at e; omega
    · rcases HLO1.out q (mem_blk.1 e) with z | z <;> omega
  have hla5 := HLA4.out.fr hf5 (hNx N HWN.out (Nat.le_refl _))
  have hI5 := HI4.out.fr hf5 (fun q hq => hNx q (HVB.out q hq).1 (Nat.le_of_lt (HVB.out q hq).2))
  have ht5 := HT4.out.fr hf5 (hx _ (by simp [Eb.all]) (by have := HNE.out; omega) (by have := HNE.out; omega))
  have hl5 := HLN4.out.fr hf5 (hx _ (by simp [Eb.all]) (by have := HNE.out; omega) (by have := HNE.out; omega))
  have hfw5 : Fr (E.mid ++ blk lo) w w5 := fr_log2 (E := E) HFW4.out HNX1.out (hf5.mono (fun x hx _ => sub_mid (by intro y hy; simp [Eb.mid] at hy ⊢; omega) x hx))
  have hnx2 : Nx w lo lo2 := HNX1.out.trans hn5 HFW4.out.size
  have hc1 := hla5.c1
  have hwp := hs5.at_.wp
  change w5.cell? ⟨E.s, 2, none⟩ = some (.pointer (some ⟨E.w, 0, none⟩)) at hwp
  have HAD := hid (add_any hw5.drew (hI5.fr (Fr.refl [] w5).drew (by simp)) (by have := HLIT.out.1; omega) (fun e => by have := HVB.out _ e; have := HEW.out E.w (by simp [Eb.all]); omega) true)
  rw [HP.out.add] at HAD
  simp only [] at HAD
  have HSW : Hid (E.s ∉ ([E.w] : List Nat)) := by show ¬ _; have := HNE.out; simp; omega
  have HNW : Hid (N ∉ ([E.w] : List Nat)) := by show ¬ _; have h1 := HEW.out E.w (by simp [Eb.all]); have := HWN.out; simp; omega
  have HLA5 := hid hla5
  have HI5 := hid hI5
  have HT5 := hid ht5
  have HLN5 := hid hl5
  have HFW5 := hid hfw5
  have HNX2 := hid hnx2
  have HS5 := hid hs5
  clear hs5 hw5 hn5 hf5 hx hNx hla5 hI5 ht5 hl5 hfw5 hnx2
  go_wp2_with fail
  go_region_held3 (fun w' => w'.cell? ⟨E.s, 2, none⟩ = some (.pointer (some ⟨E.w, 0, none⟩)) ∧ w'.cell? ⟨N, 1, none⟩ = some (.slice a0 n0 n0)) (go_keep) (first | (go_at_call 78; refine HAD.out.mono ?_; rintro e w6 ⟨rfl, hw6, hf6'⟩; have hk1 : w6.cell? ⟨E.s, 2, none⟩ = some (.pointer (some ⟨E.w, 0, none⟩)) := hf6'.cell (by simpa using hwp) HSW.out; have hk2 : w6.cell? ⟨N, 1, none⟩ = some (.slice a0 n0 n0) := hf6'.cell (by simpa using hc1) HNW.out))
  have hf6 : Fr [E.w] w5 w6 := (Fr.refl [E.w] w5).drew.trans hf6'
  clear hf6'
  have hNw : ∀ q, w.heap.size ≤ q → q ∉ ([E.w] : List Nat) := by
    intro q hq hm
    have h1 := HEW.out E.w (by simp [Eb.all])
    simp at hm; omega
  have hla6 := HLA5.out.fr hf6 (hNw N HWN.out)
  have hI6 := HI5.out.fr hf6 (fun q hq => hNw q (HVB.out q hq).1)
  have ht6 := HT5.out.fr hf6 (by have := HNE.out; simp; omega)
  have hl6 := HLN5.out.fr hf6 (by have := HNE.out; simp; omega)
  have hs6 := HS5.out.fr hf6 (by have := HNE.out; simp; omega) (fun q hq hm => HS5.out.dj q hq (by rw [List.mem_singleton] at hm; rw [hm]; simp [Eb.all]))
  have hfw6 : Fr (E.mid ++ blk lo) w w6 := HFW5.out.trans (hf6.mono (by intro x hx _; simp [Eb.mid] at hx ⊢; omega))
  have hal := hs6.at_.alive
  change w6.cell? ⟨E.s, 32, none⟩ = some (.int .u16 (s3.S.alive : Nat)) at hal
  have hct := hs6.at_.count
  change w6.cell? ⟨E.s, 33, none⟩ = some (.int .i64 (s3.S.count : Nat)) at hct
  have hfz := hs6.at_.froz
  have hid4 := HP.out.id4
  have hct12 := HP.out.ct
  obtain ⟨k, hk⟩ : ∃ k, id = 40 + k := ⟨id - 40, by omega⟩
  have hk16 : k < 16 := by omega
  have e1 := shl16 hk16
  change _ = ((pw k : Nat) : Int) at e1
  have e2 := or16 hs6.ok (pow16 hk16)
  change bits .or .u16 (s3.S.alive : Nat) (pw k : Nat) = ((setB s3.S.alive k : Nat) : Int) at e2
  have hids : ((id : Int) - 40) = (k : Int) := by omega
  have hki : (k : Int) < 16 := by omega
  have hk0 : (0 : Int) ≤ k := by omega
  have hid2 : id - 40 = k := by omega
  have hs7 := (hs6.putAlive (setB s3.S.alive k) (setB_lt hs6.ok hk16)).putCount (s3.S.count + 1)
  have hcast : ((s3.S.count + 1 : Nat) : Int) = (s3.S.count : Int) + 1 := by simp
  rw [hcast] at hs7
  obtain ⟨w7, hw7⟩ : ∃ x, (w6.setCell ⟨E.s, 32, none⟩ (.int .u16 ((setB s3.S.alive k : Nat) : Int))).setCell ⟨E.s, 33, none⟩ (.int .i64 ((s3.S.count : Int) + 1)) = x := ⟨_, rfl⟩
  rw [hw7] at hs7
  have hf67 : Fr [E.s] w6 w7 := by rw [← hw7]; exact ((Fr.refl [E.s] w6).set (by simp) _).set (by simp) _
  have hNs : ∀ q, w.heap.size ≤ q → q ∉ ([E.s] : List Nat) := by
    intro q hq hm
    have h1 := HEW.out E.s (by simp [Eb.all])
    simp at hm; omega
  have hc71 := hla6.c1
  have hI7 := hI6.fr hf67 (fun q hq => hNs q (HVB.out q hq).1)
  have ht7 := ht6.fr hf67 (by have := HNE.out; simp; omega)
  have hw7w := hw6.fr hf67 (by have := HNE.out; simp; omega)
  have hl7 := hl6.fr hf67 (by have := HNE.out; simp; omega)
  have hfw7 := hfw6.trans (hf67.mono (S2 := E.mid ++ blk lo) (by intro x hx _; simp [Eb.mid] at hx ⊢; omega))
  have hsame := HP.out.same
  have hact : ∀ v, 0 ≤ s3.S.act v ∧ s3.S.act v ≤ 1000000000 := by
    intro v
    have e : s3.S.act = s.S.act := by have := hsame.act; simp only [] at this; rw [this, HP.out.eS1]; rfl
    rw [e]
    have := HGG.out.act v
    have := HCC.out
    omega
  have hinc : s3.S.inc = s.S.conflicts + 1 := by have := hsame.inc; simp only [] at this; rw [this, HP.out.eS1]; exact HGG.out.inc
  have HBP := hid (bump_any (S := { s3.S with alive := setB s3.S.alive k, count := s3.S.count + 1 }) hs7 hI7 (fun q hq e => by have := HVB.out q hq; have := HEW.out E.s (by simp [Eb.all]); omega) HLIT.out.2.1 HLIT.out.1 hact (by show 0 ≤ s3.S.inc; rw [hinc]; omega) (by show s3.S.inc ≤ _; rw [hinc]; have := HCC.out; omega))
  have HW7 := hid hw7
  have HT7 := hid ht7
  have HWW7 := hid hw7w
  have HLN7 := hid hl7
  have HFW7 := hid hfw7
  have HDJ2 := hid hs6.dj
  have HID := hid hid2
  have HIDS := hid hids
  clear hw6 hf6 hNw hla6 hI6 ht6 hl6 hs6 hfw6 hid4 hs7 hcast hf67 hNs hI7 ht7 hw7w hl7 hfw7 hsame hact hinc hid2 hw7 hwp hc1 hids
  subst hk
  go_wp2_with fail
  rw [HW7.out]
  refine HBP.out.mono ?_
  rintro e w8 ⟨rfl, hs8, hf8⟩
  have hs8e : SlvAt w8 E s5.S lo2 := by rw [HP.out.es5]; simp only [HID.out]; exact hs8
  have ht8 : TrlAt w8 E.t s5.T := by
    have h1 := HT7.out.fr hf8 (by have := HNE.out; simp; omega)
    have e : s5.T = s2.T := by rw [HP.out.es5]; simp only []; rw [HP.out.t3, HP.out.es2]
    rw [e]; exact h1
  have hw8 : WatAt w8 E.w E.t s5.W := by
    have h1 := HWW7.out.fr hf8 (by have := HNE.out; simp; omega)
    rw [HP.out.es5]; exact h1
  have hl8 := HLN7.out.fr hf8 (by have := HNE.out; simp; omega)
  have hfw8 := HFW7.out.trans (hf8.mono (S2 := E.mid ++ blk lo) (by intro x hx _; simp [Eb.mid] at hx ⊢; omega))
  have hr4 : s5.S.restarts ≤ 4 ∧ s5.S.since ≤ 1000000 := by
    have hsame := HP.out.same
    have e1 : s5.S.restarts = s.S.restarts := by rw [HP.out.es5]; show s3.S.restarts = _; have := hsame.restarts; simp only [] at this; rw [this, HP.out.eS1]; rfl
    have e2 : s5.S.since = s.S.since := by rw [HP.out.es5]; show s3.S.since = _; have := hsame.since; simp only [] at this; rw [this, HP.out.eS1]; rfl
    rw [e1, e2]
    have := HGG.out.r4
    have := HGG.out.cf
    have := HCC.out
    omega
  have HRS := hid (restart_any (s := s5) hs8e ht8 (by have := HNE.out; omega) (fun q hq e => hs8e.dj q hq (by rw [e]; simp [Eb.all])) hr4.1 hr4.2)
  have HW8 := hid hw8
  have HL8 := hid hl8
  have HFW8 := hid hfw8
  clear hs8 hf8 hs8e ht8 hw8 hl8 hfw8 hr4
  go_wp2_with fail
  refine HRS.out.mono ?_
  rintro e w9 ⟨rfl, hs9, ht9, hf9⟩
  have hfw9 := HFW8.out.trans (hf9.mono (S2 := E.mid ++ blk lo) (by intro x hx _; simp [Eb.mid] at hx ⊢; omega))
  have hsW : s5.restart.W = s5.W := by rw [restart_eq]; split <;> rfl
  have HX : Hid (EngAt w9 E s5.restart.W s5.restart.T s5.restart.S lo2 ∧ Nx w lo lo2 ∧ Fr (E.mid ++ blk lo) w w9) := by
    refine ⟨⟨HH.out.nd, fun q hq => Nat.lt_of_lt_of_le (HEW.out q hq) hfw9.size, hs9, ht9, ?_, ?_⟩, HNX2.out, hfw9⟩
    · rw [hsW]; exact HW8.out.fr hf9 (by have := HNE.out; simp; omega)
    · exact HL8.out.fr hf9 (by have := HNE.out; simp; omega)
  clear hs9 ht9 hf9 hfw9 hsW
  go_wp2_with fail
  refine hK.out _ _ ⟨rfl, by rw [HCE.out], lo2, ?_⟩
  rw [HCE.out]; exact HX.out
end Go.Proofs.Qxb6500354aGreat
