/- The walk over api.Rows, with blocks that the rows are apart from; what lies at a place. -/
import Derived.Test.Qxb6500354aGreatRow2
namespace Go.Proofs.Qxb6500354aGreat
open Go.RowKit
set_option linter.unusedVariables false
set_option linter.unusedSimpArgs false

theorem sub_CD (C : Nat) (B D : List Nat) : ∀ y, y ∈ C :: D → y ∈ C :: (B ++ D) := by
  intro y hy
  rcases List.mem_cons.1 hy with e | e
  · rw [e]; exact List.mem_cons_self
  · exact List.mem_cons_of_mem _ (List.mem_append_right _ e)
set_option maxRecDepth 100000 in
set_option maxHeartbeats 8000000 in
theorem rowsD_any {w : World} {v : Value} {f : List Int} (h : Ints w v f) (hb : f.length ≤ 100000000) (D0 : List Nat) (hD0 : ∀ g ∈ D0, g < w.heap.size) :
    Calls Tryz.prog 35 #[v] w fun e w' => ∃ v', e = .returned v' ∧ OwnR w' w.heap.size v' (rowsOf f) D0 ∧ Fr [] w w' := by
  obtain ⟨a, cap, hea⟩ := h.len
  subst hea
  obtain ⟨n, hn⟩ : ∃ n, f.length = n := ⟨_, rfl⟩
  obtain ⟨res, hres⟩ : ∃ r, rowsOf f = r := ⟨_, rfl⟩
  rw [hn] at h hb ⊢
  rw [hres]
  have HI := hid h
  have HN := hid hn
  have HR := hid hres
  obtain ⟨C, hC⟩ : ∃ N, w.heap.size = N := ⟨_, rfl⟩
  have hC0 := CellsAt.mk_alloc w [.bool false, .slice none 0 0] 131
  obtain ⟨w0, hw0⟩ : ∃ w0, w.alloc (Obj.cells #[.bool false, .slice none 0 0] 131) = w0 := ⟨_, rfl⟩
  change CellsAt (w.alloc (Obj.cells #[.bool false, .slice none 0 0] 131)) w.heap.size _ at hC0
  rw [hw0, hC] at hC0
  have hf0 : Fr [] w w0 := by rw [← hw0]; exact (Fr.refl _ _).alloc _
  have hs0 : w0.heap.size = C + 1 := by rw [← hw0]; simp [hC]
  have HC0 := hid hC0
  have HF0 := hid hf0
  have HS0 := hid hs0
  have HC := hid hC
  have HD0 : Hid (∀ g ∈ D0, g < C) := hid (by rw [← hC]; exact hD0)
  have cz0 := hC0.fz
  have c00 := hC0.c 0 _ rfl
  have c01 := hC0.c 1 _ rfl
  clear h hn hres hC0 hf0 hs0 hD0
  refine calls_via fun K hK => ?_
  go_enter Tryz.func35, Tryz.ntmps35
  go_wp2_with fail
  go_loopg [3, 5] n (fun g ov i wr => ∃ (rs : List (Bool × List Int)) (d : Bool) (l : List Int) (cv : Value), g ≤ n ∧ i = .int .i64 ((n - g : Nat) : Int) ∧ CellsAt wr C [.bool d, cv] ∧
    OwnR wr C ov rs (C :: (blk cv ++ D0)) ∧ OwnI wr (C + 1) cv l ∧ res = rs ++ rowsL (f.drop (n - g)) d l ∧ Fr [] w wr ∧ rs.length + l.length ≤ n - g)
  case atStart =>
    exact ⟨[], false, [], .slice none 0 0, by omega, by simp, (HC0.out.set 0 (by simp) _).set 1 (by simp) _, OwnR.nil _ _ _, OwnI.nil _ _, by simp [← HR.out, rowsOf], (HF0.out.trans2 ((Fr.refl [C] _).set (by simp) _) (fun y hy hlt2 => by simp at hy; subst hy; have := HC.out; omega)).trans2 ((Fr.refl [C] _).set (by simp) _) (fun y hy hlt2 => by simp at hy; subst hy; have := HC.out; omega), by simp⟩
  case round =>
    clear cz0 c00 c01 hw0 hC
    obtain ⟨rs, d, l, cv, hg, rfl, hcc, hor, hol, he, hf, hlen⟩ := hrel
    obtain ⟨ov, hov⟩ : ∃ x, u3 = x := ⟨_, rfl⟩
    rw [hov] at hor ⊢
    clear hov
    have hsz : C < wr.heap.size := lt_of_cellB (hcc.c 0 _ rfl)
    by_cases hlt : 0 < gk
    · obtain ⟨k, hk⟩ : ∃ k, n - gk = k := ⟨_, rfl⟩
      rw [hk] at he hlen ⊢
      have hkn : k < n := by omega
      have hkn2 : (k : Int) < n := by omega
      obtain ⟨g1, o1, rfl, hc1⟩ := (HI.out.fr hf (by simp)).at HN.out hkn
      rw [drop_cons' HN.out hkn, rowsL_cons] at he
      generalize f.getD k 0 = x at *
      have c0 := hcc.c 0 _ rfl
      have c1 := hcc.c 1 _ rfl
      have cz := hcc.fz
      obtain ⟨a2, m2, cp2, rfl⟩ := hol.sl
      have HCC := hid hcc
      have HOR := hid hor
      have HOL := hid hol
      have HF := hid hf
      have HLEN := hid hlen
      have HK0 := hid hk
      have HG := hid hg
      have HLT := hid hlt
      have HSZ := hid hsz
      clear hcc hor hol hf hlen hk hg hlt hsz
      by_cases h13 : x = 13
      · rw [if_pos h13] at he
        have HE := hid he
        have hb1 : (x == 13) = true := by simp [h13]
        clear he h13
        go_wp2_with fail
        go_roundg (gk - 1)
        case measure => have := HLT.out; omega
        case rel =>
          have hk := HK0.out
          have hg := HG.out
          have hlt := HLT.out
          have e1 : n - (gk - 1) = k + 1 := by omega
          have hfs : Fr [C] wr (wr.setCell ⟨C, 0, none⟩ (.bool true)) := (Fr.refl _ _).set (by simp) _
          refine ⟨rs, true, l, .slice a2 m2 cp2, by omega, by rw [e1]; simp, HCC.out.set 0 (by simp) _, HOR.out.fr hfs (by intro y hy; simp at hy; subst hy; left; exact List.mem_cons_self), HOL.out.fr hfs (fun g hg hm => by have := HOL.out.base g hg; simp at hm; omega), by rw [e1]; exact HE.out, ?_, by rw [e1]; have := HLEN.out; omega⟩
          exact HF.out.trans2 hfs (fun y hy hlt2 => by simp at hy; subst hy; have := HC.out; omega)
      · rw [if_neg h13] at he
        have hb1 : (x == 13) = false := by simp [h13]
        by_cases h0 : x = 0
        · rw [if_pos h0] at he
          have HE := hid he
          have hb0 : (x == 0) = true := by simp [h0]
          clear he h13 h0
          have hA : Fr [] wr (wr.alloc (.cells #[.bool d, .slice a2 m2 cp2] 131)) := (Fr.refl _ _).alloc _
          have hnew := CellsAt.mk_alloc wr [.bool d, .slice a2 m2 cp2] 131
          have HNW := hid hnew
          have HA := hid hA
          have huC : ∀ g, (Value.slice a2 m2 cp2).ownBlock = some g → C + 1 ≤ g ∧ g < wr.heap.size := fun g hg => ⟨HOL.out.base g hg, HOL.out.lt g hg⟩
          have HUC := hid huC
          have hszr : wr.heap.size ≤ (wr.alloc (.cells #[.bool d, .slice a2 m2 cp2] 131)).heap.size := hA.size
          have HSZR := hid hszr
          clear hA hnew huC hszr
          go_wp2_with (first | (at_builtin; refine wp_appR rfl _ _ rfl C ov rs rfl ((HOR.out.mono (D2 := C :: D0) (sub_CD _ _ _)).fr HA.out (by simp)) (by intro g hg; rcases List.mem_cons.1 hg with e | e; exact e ▸ Nat.lt_of_lt_of_le HSZ.out HSZR.out; exact Nat.lt_trans (HD0.out g e) (Nat.lt_of_lt_of_le HSZ.out HSZR.out)) wr.heap.size 1 d (.slice a2 m2 cp2) l rfl (HNW.out.c 0 _ rfl) (HNW.out.c 1 _ rfl) rfl (HOL.out.ints.fr HA.out (by simp)) (fun g hg => ⟨fun e => (HOR.out.apv g e) (List.mem_cons_of_mem _ (List.mem_append_left _ (mem_blk.2 hg))), Nat.lt_of_lt_of_le (HUC.out g hg).2 HSZR.out⟩) (fun g hg hm => by have h7 := (HUC.out g hg).1; rcases List.mem_cons.1 hm with e | e; omega; have := HD0.out g e; omega) (by have := HLEN.out; omega) (by have := HSZ.out; have := HSZR.out; omega) ?_; intro v' w2 ho2 hg2 hat2; have hf2 : Fr (blk ov) wr w2 := (HA.out.mono (by simp)).trans ((Fr.refl (blk ov) _).grown hg2 (fun k hk _ => mem_blk.2 hk)); have hcc2 := HCC.out.fr hf2 (fun hm => HOR.out.apv _ (mem_blk.1 hm) List.mem_cons_self) (by simp); have k0 := hcc2.c 0 _ rfl; have k1 := hcc2.c 1 _ rfl; have kz := hcc2.fz; have HCC2 := hid hcc2; have HF2 := hid hf2; have HO2 := hid ho2; clear ho2 hg2 hat2 hf2 hcc2))
          go_roundg (gk - 1)
          case measure => have := HLT.out; omega
          case rel =>
            have hk := HK0.out
            have hg := HG.out
            have hlt := HLT.out
            have e1 : n - (gk - 1) = k + 1 := by omega
            have hcw : w.heap.size ≤ C := by have := HC.out; omega
            have hfs : Fr [C] w2 ((w2.setCell ⟨C, 0, none⟩ (.bool false)).setCell ⟨C, 1, none⟩ (.slice none 0 0)) := ((Fr.refl _ _).set (by simp) _).set (by simp) _
            refine ⟨rs ++ [(d, l)], false, [], .slice none 0 0, by omega, by rw [e1]; simp, (HCC2.out.set 0 (by simp) _).set 1 (by simp) _, ?_, OwnI.nil _ _, by rw [e1, HE.out]; simp, ?_, by rw [e1]; have := HLEN.out; simp; omega⟩
            · exact (HO2.out.fr hfs (by intro y hy; rw [List.mem_singleton] at hy; rw [hy]; left; exact List.mem_cons_self)).mono (by intro y hy; simpa [blk, Value.ownBlock] using hy)
            · refine (HF.out.trans2 HF2.out (fun y hy hlt2 => ?_)).trans2 hfs (fun y hy hlt2 => by simp at hy; subst hy; omega)
              have := HOR.out.ge y (mem_blk.1 hy); omega
        · rw [if_neg h0] at he
          have HE := hid he
          have hb0 : (x == 0) = false := by simp [h0]
          clear he h13 h0
          have HCB : Hid (C ∉ blk (.slice a2 m2 cp2)) := fun hm => by have := HOL.out.base _ (mem_blk.1 hm); omega
          have hg1 := lt_of_cellB ((HI.out.get k (by rw [HN.out]; exact hkn)))
          have HGB : Hid (g1 ∉ blk (.slice a2 m2 cp2)) := fun hm => by have := HOL.out.base _ (mem_blk.1 hm); have := HC.out; omega
          have HGC : Hid (¬ C = g1) := fun e => by have := HC.out; omega
          have ca1 : (wr.alloc (Obj.cells #[.int .i64 x] 3)).cell? ⟨C, 1, none⟩ = some (.slice a2 m2 cp2) := ((Fr.refl [] wr).alloc _).cell c1 (by simp)
          have ca2 : (wr.alloc (Obj.cells #[.int .i64 x] 3)).cell? ⟨g1, o1 + k, none⟩ = some (.int .i64 x) := ((Fr.refl [] wr).alloc _).cell hc1 (by simp)
          clear hg1
          go_wp2_with fail
          go_region_law (first | (refine step_app1 rfl _ _ rfl (C + 1) (.slice a2 m2 cp2) l rfl ((HOL.out.alloc _).drew) wr.heap.size 1 x rfl ((World.cell?_alloc_new _ _ _ 0).trans rfl) (by have := HLEN.out; omega) (by have := HSZ.out; simp; omega) ?_; intro gg cc w2 ho2 hg2 hat2; have hf2 : Fr (blk (.slice a2 m2 cp2)) wr w2 := ((((Fr.refl [] wr).alloc _).drew).mono (by simp)).trans ((Fr.refl (blk (.slice a2 m2 cp2)) _).grown hg2 (fun k hk _ => mem_blk.2 hk)); have kk1 : w2.cell? ⟨C, 1, none⟩ = some (.slice a2 m2 cp2) := hf2.cell c1 HCB.out; have kk2 : w2.cell? ⟨g1, o1 + k, none⟩ = some (.int .i64 x) := hf2.cell hc1 HGB.out; have kk3 : w2.frozen? ⟨C, 1, none⟩ = false := (hf2.froz HSZ.out HCB.out).trans (cz 1)))
          all_goals
            have HF2 := hid hf2
            have HO2 := hid ho2
            have HNX : Hid (Nx wr (.slice a2 m2 cp2) (.slice (some ⟨gg, 0, none⟩) (l.length + 1) cc)) := by
              intro q hq
              simp [Value.ownBlock] at hq
              subst hq
              rcases hat2 with e | e
              · exact .inl e
              · right; rw [e]; simp
            clear hf2 ho2 hat2 hg2 kk1 kk2
            go_wp2_with fail
            go_roundg (gk - 1)
            case measure => have := HLT.out; omega
            case rel =>
              have hk := HK0.out
              have hg := HG.out
              have hlt := HLT.out
              have e1 : n - (gk - 1) = k + 1 := by omega
              have hcw : w.heap.size ≤ C := by have := HC.out; omega
              have hfs : Fr [C] w2 (w2.setCell ⟨C, 1, none⟩ (.slice (some ⟨gg, 0, none⟩) (l.length + 1) cc)) := (Fr.refl _ _).set (by simp) _
              have hcc2 := HCC.out.fr HF2.out HCB.out (by simp)
              have hor := HOR.out
              refine ⟨rs, d, l ++ [x], .slice (some ⟨gg, 0, none⟩) (l.length + 1) cc, by omega, by rw [e1]; simp, hcc2.set 1 (by simp) _, ?_, HO2.out.fr hfs (fun g hg hm => by have := HO2.out.base g hg; simp at hm; omega), by rw [e1, HE.out], ?_, by rw [e1]; have := HLEN.out; simp; omega⟩
              · have h4 := hor.fr HF2.out (fun y hy => .inl (List.mem_cons_of_mem _ (List.mem_append_left _ hy)))
                have h5 : OwnR w2 C ov rs (C :: (blk (.slice (some ⟨gg, 0, none⟩) (l.length + 1) cc) ++ D0)) := by
                  obtain ⟨us, q1, q2, q3⟩ := hor
                  have hsub : ∀ y, y ∈ C :: (blk (.slice (some ⟨gg, 0, none⟩) (l.length + 1) cc) ++ D0) → y ∈ C :: (blk (.slice a2 m2 cp2) ++ D0) ∨ wr.heap.size ≤ y := by
                    intro y hy
                    rcases List.mem_cons.1 hy with e | e
                    · left; rw [e]; exact List.mem_cons_self
                    · rcases List.mem_append.1 e with e | e
                      · rcases HNX.out y (mem_blk.1 e) with q | q
                        · left; exact List.mem_cons_of_mem _ (List.mem_append_left _ (mem_blk.2 q))
                        · exact .inr q
                      · left; exact List.mem_cons_of_mem _ (List.mem_append_right _ e)
                  refine ⟨us, owns_fr q1 HF2.out (fun g hg hm => q3.1 g hg (List.mem_cons_of_mem _ (List.mem_append_left _ hm))), q2.fr HF2.out (fun i hi g hg hm => q3.2 i (by rw [q2.len]; exact hi) g hg (List.mem_cons_of_mem _ (List.mem_append_left _ hm))), fun g hg hm => ?_, fun i hi g hg hm => ?_⟩
                  · rcases hsub g hm with e | e
                    · exact q3.1 g hg e
                    · have := (owns_lt q1 g hg).2; omega
                  · rcases hsub g hm with e | e
                    · exact q3.2 i hi g hg e
                    · have := (q2.ap i (by rw [← q2.len]; exact hi) g hg).2; omega
                exact h5.fr hfs (by intro y hy; simp at hy; subst hy; left; exact List.mem_cons_self)
              · refine (HF.out.trans2 HF2.out (fun y hy hlt2 => ?_)).trans2 hfs (fun y hy hlt2 => by simp at hy; subst hy; omega)
                have := HOL.out.base y (mem_blk.1 hy); omega
    · have hg0 : gk = 0 := by omega
      subst hg0
      rw [Nat.sub_zero, List.drop_of_length_le (by rw [HN.out]; exact Nat.le_refl _)] at he
      have HE : Hid (res = rs) := by show _ = _; rw [he]; simp [rowsL]
      have HOR := hid hor
      have HF := hid hf
      clear hcc hor hol he hf hlen hg hlt hsz
      go_wp2_with fail
      refine hK.out _ _ ⟨_, rfl, ?_, HF.out⟩
      rw [HE.out]
      show OwnR wr w.heap.size ov rs D0
      rw [HC.out]; exact HOR.out.mono (fun y hy => List.mem_cons_of_mem _ (List.mem_append_right _ hy))

/-- What lies at place k of owned rows. -/
theorem OwnR.at {w : World} {base : Nat} {a : Option Addr} {n cap : Nat} {rs : List (Bool × List Int)} {D : List Nat} (h : OwnR w base (.slice a n cap) rs D) (hl : rs.length = n) {k : Nat} (hk : k < n) :
    ∃ g b m c, a = some ⟨g, 0, none⟩ ∧ w.cell? ⟨g, k * 2, none⟩ = some (.bool (rs.getD k (false, [])).1) ∧ w.cell? ⟨g, k * 2 + 1, none⟩ = some (.slice b m c) ∧ Ints w (.slice b m c) (rs.getD k (false, [])).2 ∧
      ∀ g, (Value.slice b m c).ownBlock = some g → g < w.heap.size ∧ g ∉ D := by
  obtain ⟨us, h1, h2, h3⟩ := h
  have hlen : (rs.map (·.1)).length = us.length := by rw [h2.len]; simp
  rcases owns_shape h1 with ⟨e, e2⟩ | ⟨g, cap2, e⟩
  · omega
  · simp only [Value.slice.injEq] at e
    obtain ⟨rfl, _, _⟩ := e
    have hi1 : k < (rs.map (·.1)).length := by simp; omega
    have hi2 : k < (rs.map (·.2)).length := by simp; omega
    obtain ⟨e1, e2⟩ := rcells_get _ us hlen k hi1
    have hit := h2.it k hi2
    have e : (rs.map (·.2)).getD k [] = (rs.getD k (false, [])).2 := by simp [List.getD_eq_getElem?_getD, List.getElem?_map, List.getElem?_eq_getElem (show k < rs.length by omega)]
    rw [e] at hit
    obtain ⟨b, c, hb⟩ := hit.len
    rw [Nat.mul_comm k 2]
    subst hl
    refine ⟨g, b, _, c, rfl, ?_, ?_, hb ▸ hit, fun g hg => ⟨(h2.ap k hi2 g (hb ▸ hg)).2, h3.2 k (by rw [h2.len]; exact hi2) g (hb ▸ hg)⟩⟩
    · rw [World.ownsRow.cellAt h1 (2 * k) (by omega), e1]
      simp [List.getD_eq_getElem?_getD, List.getElem?_map, List.getElem?_eq_getElem (show k < rs.length by omega)]
    · rw [World.ownsRow.cellAt h1 (2 * k + 1) (by omega), e2, hb]
theorem OwnM.at {w : World} {base : Nat} {a : Option Addr} {n cap : Nat} {cs : List (List Int)} {D : List Nat} (h : OwnM w base (.slice a n cap) cs D) (hl : cs.length = n) {k : Nat} (hk : k < n) :
    ∃ g b m c, a = some ⟨g, 0, none⟩ ∧ w.cell? ⟨g, k, none⟩ = some (.slice b m c) ∧ Ints w (.slice b m c) (cs.getD k []) ∧ ∀ g, (Value.slice b m c).ownBlock = some g → g < w.heap.size := by
  obtain ⟨us, h1, h2, h3⟩ := h
  rcases owns_shape h1 with ⟨e, e2⟩ | ⟨g, cap2, e⟩
  · omega
  · simp only [Value.slice.injEq] at e
    obtain ⟨rfl, _, _⟩ := e
    have hit := h2.it k (by omega)
    obtain ⟨b, c, hb⟩ := hit.len
    subst hl
    refine ⟨g, b, _, c, rfl, ?_, hb ▸ hit, fun g hg => (h2.ap k hk g (hb ▸ hg)).2⟩
    rw [World.ownsRow.cellAt h1 k (by omega), List.getElem?_eq_getElem (by rw [h2.len]; exact hk)]
    rw [List.getD_eq_getElem?_getD, List.getElem?_eq_getElem (by rw [h2.len]; exact hk)] at hb
    simp only [Option.getD_some] at hb
    rw [hb]
end Go.Proofs.Qxb6500354aGreat
