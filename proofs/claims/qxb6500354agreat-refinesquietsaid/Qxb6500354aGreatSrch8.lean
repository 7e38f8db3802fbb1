/- THE WALKS over search, 8: begin, survey, load, satisfied. -/
import Derived.Test.Qxb6500354aGreatSrch7
namespace Go.Proofs.Qxb6500354aGreat
open Go.RowKit
set_option linter.unusedVariables false
set_option linter.unusedSimpArgs false

/-- The cells of a small object. -/
structure CellsAt (w : World) (g : Nat) (vs : List Value) : Prop where
  c : ∀ i v, vs[i]? = some v → w.cell? ⟨g, i, none⟩ = some v
  fz : ∀ i, w.frozen? ⟨g, i, none⟩ = false
theorem CellsAt.mk_alloc (w : World) (vs : List Value) (t : TypeId) : CellsAt (w.alloc (.cells vs.toArray t)) w.heap.size vs := by
  refine ⟨fun i v hv => ?_, fun i => World.frozen?_alloc_new _ _ _ i⟩
  refine (World.cell?_alloc_new _ _ _ i).trans ?_
  simpa using hv
theorem CellsAt.fr {S : List Nat} {w w2 : World} {g : Nat} {vs : List Value} (h : CellsAt w g vs) (hf : Fr S w w2) (hn : g ∉ S) (hl : 0 < vs.length) : CellsAt w2 g vs := by
  have hlt : g < w.heap.size := lt_of_cellB (h.c 0 _ (List.getElem?_eq_getElem hl))
  exact ⟨fun i v hv => hf.cell (h.c i v hv) hn, fun i => (hf.froz hlt hn).trans (h.fz i)⟩

theorem SlvAt.congr {w : World} {E : Eb} {S S2 : SolverS} {lo : Value} (h : SlvAt w E S lo) (ha : ∀ v, v < 13 → S.act v = S2.act v) (hp : ∀ v, v < 13 → S.phase v = S2.phase v) (h1 : S.log = S2.log) (h2 : S.inc = S2.inc) (h3 : S.alive = S2.alive)
    (h4 : S.count = S2.count) (h5 : S.conflicts = S2.conflicts) (h6 : S.restarts = S2.restarts) (h7 : S.since = S2.since) : SlvAt w E S2 lo := by
  obtain ⟨a, b, c, d⟩ := h
  refine ⟨⟨a.p, a.t, a.wp, a.l, a.log, fun i hi => ?_, fun i hi => ?_, ?_, ?_, ?_, ?_, ?_, ?_, a.froz⟩, h1 ▸ b, h3 ▸ c, d⟩
  · have := a.act i hi; rw [show (SlvR E S lo).act i = S.act i from rfl, ha i hi] at this; exact this
  · have := a.phase i hi; rw [show (SlvR E S lo).phase i = S.phase i from rfl, hp i hi] at this; exact this
  · have := a.inc; rw [show (SlvR E S lo).inc = S.inc from rfl, h2] at this; exact this
  · have := a.alive; rw [show (SlvR E S lo).alive = S.alive from rfl, h3] at this; exact this
  · have := a.count; rw [show (SlvR E S lo).count = (S.count : Int) from rfl, h4] at this; exact this
  · have := a.conflicts; rw [show (SlvR E S lo).conflicts = (S.conflicts : Int) from rfl, h5] at this; exact this
  · have := a.restarts; rw [show (SlvR E S lo).restarts = (S.restarts : Int) from rfl, h6] at this; exact this
  · have := a.since; rw [show (SlvR E S lo).since = (S.since : Int) from rfl, h7] at this; exact this

set_option maxHeartbeats 4000000 in
theorem begin_any {w : World} {E : Eb} {W : WatchS} {T : TrailS} {S : SolverS} {lo : Value} (h : EngAt w E W T S lo) :
    Calls Tryz.prog 44 #[.pointer (some ⟨E.s, 0, none⟩)] w fun e w' => e = .returned (.tuple #[]) ∧ EngAt w' E .empty .empty { SolverS.start with log := S.log } lo ∧ Fr E.mid w w' := by
  have hne := Eb.ne h.nd
  have htp := h.sv.at_.t
  change w.cell? ⟨E.s, 1, none⟩ = some (.pointer (some ⟨E.t, 0, none⟩)) at htp
  have HR1 := hid (reset_any h.tr)
  have HR2 := hid (fun w h => wreset_any (w := w) (b := E.w) (tb := E.t) (W := W) h)
  have HH := hid h
  have HNE := hid hne
  clear h hne
  refine calls_via fun K hK => ?_
  go_enter Tryz.func44, Tryz.ntmps44
  go_wp2_with fail
  refine HR1.out.mono ?_
  rintro e w1 ⟨rfl, ht1, hf1⟩
  have hs1 := HH.out.sv.fr hf1 (by have := HNE.out; simp; omega) (fun g hg hm => HH.out.sv.dj g hg (by rw [List.mem_singleton] at hm; rw [hm]; simp [Eb.all]))
  have hw1 := HH.out.wt.fr hf1 (by have := HNE.out; simp; omega)
  have hl1 := HH.out.ln.fr hf1 (by have := HNE.out; simp; omega)
  have hwp := hs1.at_.wp
  change w1.cell? ⟨E.s, 2, none⟩ = some (.pointer (some ⟨E.w, 0, none⟩)) at hwp
  have HS1 := hid hs1
  have HW1 := hid hw1
  have HL1 := hid hl1
  have HT1 := hid ht1
  have HF1 := hid hf1
  clear hs1 hw1 hl1 ht1 hf1 htp
  go_wp2_with fail
  refine (HR2.out _ HW1.out).mono ?_
  rintro e w2 ⟨rfl, hw2, hf2⟩
  have hs2 := HS1.out.fr hf2 (by have := HNE.out; simp; omega) (fun g hg hm => HS1.out.dj g hg (by rw [List.mem_singleton] at hm; rw [hm]; simp [Eb.all]))
  have ht2 := HT1.out.fr hf2 (by have := HNE.out; simp; omega)
  have hl2 := HL1.out.fr hf2 (by have := HNE.out; simp; omega)
  have hff : Fr E.mid w w2 := (HF1.out.mono (by intro x hx _; simp [Eb.mid] at hx ⊢; omega)).trans (hf2.mono (by intro x hx _; simp [Eb.mid] at hx ⊢; omega))
  have HS2 := hid hs2
  have HT2 := hid ht2
  have HL2 := hid hl2
  have HW2 := hid hw2
  have HF2 := hid hff
  clear hs2 ht2 hl2 hw2 hff hf2 hwp
  go_wp2_with fail
  go_loopg [2] 13 (fun g i wr => ∃ act ph, g ≤ 13 ∧ i = .int .i64 ((13 - g : Nat) : Int) ∧ (∀ v, v < 13 - g → act v = 0 ∧ ph v = -1) ∧ SlvAt wr E { S with act := act, phase := ph } lo ∧ Fr [E.s] w2 wr)
  case atStart => exact ⟨S.act, S.phase, by omega, by simp, by intro v hv; omega, HS2.out, Fr.refl _ _⟩
  case round =>
    obtain ⟨act, ph, hg, rfl, hall, hs, hf⟩ := hrel
    have hfz := hs.at_.froz
    by_cases hlt : 0 < gk
    · obtain ⟨k, hk⟩ : ∃ k, 13 - gk = k := ⟨_, rfl⟩
      rw [hk] at hall ⊢
      have hk13 : k < 13 := by omega
      have hki : (k : Int) ≤ 12 := by omega
      have hki2 : (k : Int) < 13 := by omega
      have ha := hs.at_.act k hk13
      have hp := hs.at_.phase k hk13
      change wr.cell? ⟨E.s, 5 + k, none⟩ = some (.int .i64 (act k)) at ha
      change wr.cell? ⟨E.s, 18 + k, none⟩ = some (.int .i64 (ph k)) at hp
      have HSR := hid hs
      have HF := hid hf
      have HALL := hid hall
      have HK0 := hid hk
      clear hs hf hall hk
      go_wp2_with fail
      go_roundg (gk - 1)
      case measure => omega
      case rel =>
        have hk := HK0.out
        have e1 : 13 - (gk - 1) = k + 1 := by omega
        refine ⟨upd act k 0, upd ph k (-1), by omega, by rw [e1]; simp, ?_, (HSR.out.putAct k hk13 0).putPhase k hk13 (-1), (HF.out.set (by simp) _).set (by simp) _⟩
        rw [e1]
        intro v hv
        by_cases e : v = k
        · subst e; rw [upd_self, upd_self]; exact ⟨rfl, rfl⟩
        · rw [upd_ne _ _ _ _ e, upd_ne _ _ _ _ e]; exact HALL.out v (by omega)
    · have hg0 : gk = 0 := by omega
      subst hg0
      have h31 := hs.at_.inc
      have h32 := hs.at_.alive
      have h33 := hs.at_.count
      have h34 := hs.at_.conflicts
      have h35 := hs.at_.restarts
      have h36 := hs.at_.since
      change wr.cell? ⟨E.s, 31, none⟩ = some (.int .i64 S.inc) at h31
      change wr.cell? ⟨E.s, 32, none⟩ = some (.int .u16 (S.alive : Nat)) at h32
      change wr.cell? ⟨E.s, 33, none⟩ = some (.int .i64 (S.count : Nat)) at h33
      change wr.cell? ⟨E.s, 34, none⟩ = some (.int .i64 (S.conflicts : Nat)) at h34
      change wr.cell? ⟨E.s, 35, none⟩ = some (.int .i64 (S.restarts : Nat)) at h35
      change wr.cell? ⟨E.s, 36, none⟩ = some (.int .i64 (S.since : Nat)) at h36
      have HSR := hid hs
      have HF := hid hf
      have HALL := hid hall
      clear hs hf hall hlt hg
      go_wp2_with fail
      try go_end0
      have h1 := (((((HSR.out.putInc 1).putAlive 0 (by decide)).putCount 0).putConflicts 0).putRestarts 0).putSince 0
      have hfs := (((((((Fr.refl [E.s] wr).set (p := ⟨E.s, 31, none⟩) (by simp) (.int .i64 1)).set (p := ⟨E.s, 32, none⟩) (by simp) (.int .u16 ((0 : Nat) : Int))).set (p := ⟨E.s, 33, none⟩) (by simp) (.int .i64 ((0 : Nat) : Int))).set (p := ⟨E.s, 34, none⟩) (by simp) (.int .i64 ((0 : Nat) : Int))).set (p := ⟨E.s, 35, none⟩) (by simp) (.int .i64 ((0 : Nat) : Int))).set (p := ⟨E.s, 36, none⟩) (by simp) (.int .i64 ((0 : Nat) : Int)))
      have hfe := HF.out.trans hfs
      refine hK.out _ _ ⟨rfl, ⟨HH.out.nd, ?_, ?_, ?_, ?_, ?_⟩, ?_⟩
      · intro g hg; exact Nat.lt_of_lt_of_le (HH.out.lt g hg) (Nat.le_trans HF2.out.size hfe.size)
      · exact h1.congr (fun v hv => (HALL.out v (by omega)).1) (fun v hv => (HALL.out v (by omega)).2) rfl rfl rfl rfl rfl rfl rfl
      · exact HT2.out.fr hfe (by have := HNE.out; simp; omega)
      · exact HW2.out.fr hfe (by have := HNE.out; simp; omega)
      · exact HL2.out.fr hfe (by have := HNE.out; simp; omega)
      · exact HF2.out.trans (hfe.mono (by intro x hx _; simp [Eb.mid] at hx ⊢; omega))

/-! ### survey -/
def surveyF (flat : List Int) : Nat := if flat.contains 13 then 16 else if 40 < flat.count 0 then 17 else 0
theorem count_take_succ {l : List Int} {k : Nat} (h : k < l.length) (x : Int) : (l.take (k + 1)).count x = (l.take k).count x + if l.getD k 0 = x then 1 else 0 := by
  rw [take_snocI h, List.count_append, List.count_singleton]
  simp
set_option maxHeartbeats 1000000 in
theorem survey_any {w : World} {v : Value} {l : List Int} (h : Ints w v l) (hb : l.length ≤ 1099511627776) : Calls Tryz.prog 43 #[v] w fun e w' => e = .returned (.int .i64 (surveyF l : Nat)) ∧ w' = w := by
  obtain ⟨a, cap, hea⟩ := h.len
  subst hea
  obtain ⟨n, hn⟩ : ∃ n, l.length = n := ⟨_, rfl⟩
  obtain ⟨res, hres⟩ : ∃ r, surveyF l = r := ⟨_, rfl⟩
  rw [hn] at h hb ⊢
  rw [hres]
  have HI := hid h
  have HN := hid hn
  have HRES := hid hres
  clear h hn hres
  refine calls_via fun K hK => ?_
  go_enter Tryz.func43, Tryz.ntmps43
  go_wp2_with fail
  go_loopg [3, 4] n (fun g r i wr => g ≤ n ∧ wr = w ∧ i = .int .i64 ((n - g : Nat) : Int) ∧ r = .int .i64 (((l.take (n - g)).count 0 : Nat) : Int) ∧ (l.take (n - g)).contains 13 = false)
  case atStart => exact ⟨by omega, rfl, by simp, by simp, by simp⟩
  case round =>
    obtain ⟨hg, rfl, rfl, rfl, hno⟩ := hrel
    by_cases hlt : 0 < gk
    · obtain ⟨k, hk⟩ : ∃ k, n - gk = k := ⟨_, rfl⟩
      rw [hk] at hno ⊢
      have hkn : k < n := by omega
      have hkn2 : (k : Int) < n := by omega
      obtain ⟨g1, o1, rfl, hc1⟩ := HI.out.at HN.out hkn
      have hcs := count_take_succ (l := l) (k := k) (by rw [HN.out]; exact hkn) 0
      have hts := take_snocI (c := l) (k := k) (by rw [HN.out]; exact hkn)
      have hmem : l.getD k 0 ∈ l := getD_mem (by rw [HN.out]; exact hkn)
      generalize l.getD k 0 = x at *
      obtain ⟨ct, hct⟩ : ∃ c, (l.take k).count 0 = c := ⟨_, rfl⟩
      rw [hct] at hcs ⊢
      have hctb : ct ≤ 1099511627776 := by rw [← hct]; exact Nat.le_trans List.count_le_length (by rw [List.length_take]; omega)
      have hctb2 : (ct : Int) ≤ 1099511627776 := by omega
      have HCT := hid hct
      have HCS := hid hcs
      have HTS := hid hts
      have HNO := hid hno
      have HM := hid hmem
      have HK0 := hid hk
      clear hct hcs hts hno hmem hk
      by_cases h13 : x = 13
      · have HR : Hid (res = 16) := by
          show _ = _
          rw [← HRES.out]; unfold surveyF; rw [if_pos]
          rw [List.contains_iff_mem, ← h13]; exact HM.out
        subst h13
        go_wp2_with fail
        refine hK.out _ _ ⟨?_, rfl⟩
        rw [HR.out]; rfl
      · have hb1 : (x == 13) = false := by simpa using h13
        have hno2 : (l.take (k + 1)).contains 13 = false := by
          rw [HTS.out]
          have := HNO.out
          rw [← Bool.not_eq_true, List.contains_iff_mem] at this ⊢
          intro hm
          rcases List.mem_append.1 hm with e | e
          · exact this e
          · rw [List.mem_singleton] at e; exact h13 e.symm
        have HNO2 := hid hno2
        clear hno2 h13
        by_cases h0 : x = 0
        · have hcs2 : Hid ((l.take (k + 1)).count 0 = ct + 1) := by show _ = _; rw [HCS.out, if_pos h0]
          subst h0
          go_wp2_with fail
          go_roundg (gk - 1)
          case measure => omega
          case rel =>
            have hk := HK0.out
            have e1 : n - (gk - 1) = k + 1 := by omega
            refine ⟨by omega, rfl, by rw [e1]; simp, ?_, by rw [e1]; exact HNO2.out⟩
            rw [e1, hcs2.out]; simp
        · have hcs2 : Hid ((l.take (k + 1)).count 0 = ct) := by show _ = _; rw [HCS.out, if_neg h0]; rfl
          have hb2 : (x == 0) = false := by simpa using h0
          clear h0
          go_wp2_with fail
          go_roundg (gk - 1)
          case measure => omega
          case rel =>
            have hk := HK0.out
            have e1 : n - (gk - 1) = k + 1 := by omega
            refine ⟨by omega, rfl, by rw [e1]; simp, ?_, by rw [e1]; exact HNO2.out⟩
            rw [e1, hcs2.out]
    · have hg0 : gk = 0 := by omega
      subst hg0
      rw [Nat.sub_zero, List.take_of_length_le (by rw [HN.out]; exact Nat.le_refl _)] at hno ⊢
      have hR : res = if 40 < l.count 0 then 17 else 0 := by rw [← HRES.out]; unfold surveyF; rw [hno]; simp
      obtain ⟨ct, hct⟩ : ∃ c, l.count 0 = c := ⟨_, rfl⟩
      rw [hct] at hR ⊢
      clear hct hno hlt hg
      by_cases h40 : 40 < ct
      · have hi : (40 : Int) < ct := by omega
        rw [if_pos h40] at hR
        have HR := hid hR
        clear hR h40
        go_wp2_with fail
        refine hK.out _ _ ⟨?_, rfl⟩
        rw [HR.out]; rfl
      · have hi : ¬ (40 : Int) < ct := by omega
        rw [if_neg h40] at hR
        have HR := hid hR
        clear hR h40
        go_wp2_with fail
        refine hK.out _ _ ⟨?_, rfl⟩
        rw [HR.out]; rfl
end Go.Proofs.Qxb6500354aGreat
