/- The walk over towerlaw.LogIsStore. -/
import Derived.Test.Qxb6500354aGreatBag2
namespace Go.Proofs.Qxb6500354aGreat
open Go.RowKit
set_option linter.unusedVariables false
set_option linter.unusedSimpArgs false

theorem RunP_cons (a : List (List Int)) (r : Bool × List Int) (rs : List (Bool × List Int)) (b : List (List Int)) : RunP a (r :: rs) b = if r.1 = true then r.2 ∈ a ∧ RunP (a.erase r.2) rs b else RupP a r.2 ∧ a.length < 64 ∧ RunP (a ++ [r.2]) rs b := rfl
/-- The bag in the midst of the law. -/
structure BagSt (w wr : World) (M : Nat) (bv : Value) (bl : List (List Int)) : Prop where
  own : OwnM wr M bv bl []
  le : bl.length ≤ 64
  ok : ∀ c ∈ bl, c.length ≤ 12
  fr : Fr [] w wr
theorem BagSt.erase {w wr w2 : World} {M : Nat} {bv rv : Value} {bl : List (List Int)} {c : List Int} (h : BagSt w wr M bv bl) (hM : w.heap.size = M) (ho : OwnM w2 wr.heap.size rv (bl.erase c) []) (hf : Fr [] wr w2) : BagSt w w2 M rv (bl.erase c) :=
  ⟨ho.down (by rw [← hM]; exact h.fr.size), Nat.le_trans List.length_erase_le h.le, fun d hd => h.ok d (List.mem_of_mem_erase hd), h.fr.trans hf⟩
theorem OwnR.at0 {w w2 : World} {base : Nat} {a : Option Addr} {n cap : Nat} {rs : List (Bool × List Int)} {D : List Nat} (h : OwnR w base (.slice a n cap) rs D) (hf : Fr [] w w2) (hl : rs.length = n) {k : Nat} (hk : k < n) :
    ∃ g b m c, a = some ⟨g, 0, none⟩ ∧ w2.cell? ⟨g, k * 2, none⟩ = some (.bool (rs.getD k (false, [])).1) ∧ w2.cell? ⟨g, k * 2 + 1, none⟩ = some (.slice b m c) ∧ Ints w2 (.slice b m c) (rs.getD k (false, [])).2 ∧
      ∀ g, (Value.slice b m c).ownBlock = some g → g < w.heap.size := by
  obtain ⟨g, b, m, c, e, h1, h2, h3, h4⟩ := h.at hl hk
  exact ⟨g, b, m, c, e, hf.cell h1 (by simp), hf.cell h2 (by simp), h3.fr hf (by simp), fun g hg => (h4 g hg).1⟩
set_option maxRecDepth 100000 in
set_option maxHeartbeats 8000000 in
theorem logIsStore_any {w : World} {base : Nat} {pv rv lv : Value} {us1 us3 : List Value} {ps live b : List (List Int)} {rs : List (Bool × List Int)} {D : List Nat} (hp : MatB w pv us1 ps) (hr : OwnR w base rv rs D) (hl : MatB w lv us3 live)
    (hps : ps.length ≤ 40 ∧ ∀ c ∈ ps, checkClause c = 0) (hrs : ∀ r ∈ rs, checkClause r.2 = 0) (hrl : rs.length ≤ 1000000) (hrun : RunP ps rs b) (hpm : b.Perm ([] :: live)) (hll : live.length ≤ 64) (hlc : ∀ c ∈ live, c.length ≤ 12) :
    Calls Tryz.prog 38 #[pv, rv, lv] w fun e w' => e = .returned (.bool true) ∧ Fr [] w w' := by
  obtain ⟨x2, m2, rfl⟩ := hr.rows.len
  obtain ⟨x3, m3, rfl⟩ := hl.len
  obtain ⟨n, hn⟩ : ∃ z, rs.length = z := ⟨_, rfl⟩
  obtain ⟨n3, hn3⟩ : ∃ z, live.length = z := ⟨_, rfl⟩
  obtain ⟨M, hM⟩ : ∃ z, w.heap.size = z := ⟨_, rfl⟩
  rw [hn] at hr hrl ⊢
  rw [hn3] at hl hll ⊢
  have hni : (n : Int) ≤ 1000000 := by omega
  have hni3 : (n3 : Int) ≤ 64 := by omega
  have HP := hid hp
  have HR := hid hr
  have HL := hid hl
  have HPS := hid hps
  have HRS := hid hrs
  have HN := hid hn
  have HN3 := hid hn3
  have HM := hid hM
  have HRUN := hid hrun
  have HPM := hid hpm
  have HLC := hid hlc
  clear hp hr hl hps hrs hn hn3 hM hrun hpm hlc hrl hll
  refine calls_via fun K hK => ?_
  go_enter Tryz.func38, Tryz.ntmps38
  go_wp2_with (at_builtin; refine wp_appMs rfl _ _ rfl M (.slice none 0 0) [] rfl (OwnM.nil _ _ _) pv us1 ps rfl HP.out (by simp [Value.ownBlock]) (by have := HPS.out.1; simp; omega) (by have := HM.out; omega) ?_; intro v1 w1 ho1 hg1 ha1; have HB1 : Hid (BagSt w w1 M v1 ps) := hid ⟨ho1, Nat.le_trans HPS.out.1 (by omega), fun c hc => (checkClause_facts (HPS.out.2 c hc)).1, (Fr.refl [] w).grown hg1 (by simp [Value.ownBlock])⟩; clear ho1 hg1 ha1)
  go_loopg [7, 8] n (fun g bv i wr => ∃ bl, g ≤ n ∧ i = .int .i64 ((n - g : Nat) : Int) ∧ BagSt w wr M bv bl ∧ RunP bl (rs.drop (n - g)) b)
  case atStart => exact ⟨ps, by omega, by simp, HB1.out, by simpa using HRUN.out⟩
  case round =>
    obtain ⟨bl, hg, rfl, hbs, hrn⟩ := hrel
    obtain ⟨bv, hbv⟩ : ∃ x, u7 = x := ⟨_, rfl⟩
    rw [hbv] at hbs ⊢
    clear hbv
    have HBS := hid hbs
    have HG := hid hg
    by_cases hlt : 0 < gk
    · obtain ⟨k, hk⟩ : ∃ k, n - gk = k := ⟨_, rfl⟩
      rw [hk] at hrn ⊢
      have hkn : k < n := by omega
      have hkn2 : (k : Int) < n := by omega
      obtain ⟨g1, b1, m1, c1, rfl, k1, k2, hi1, hlt1⟩ := HR.out.at0 hbs.fr HN.out hkn
      have hmem := getDR_mem (rs := rs) (k := k) (by rw [HN.out]; exact hkn)
      rw [dropR_cons HN.out hkn, RunP_cons] at hrn
      generalize rs.getD k (false, []) = x at *
      obtain ⟨xd, xl⟩ := x
      simp only [] at k1 k2 hi1 hrn
      have hcx := HRS.out _ hmem
      simp only [] at hcx
      have HCX := hid hcx
      have HI1 := hid hi1
      have HLT1 := hid hlt1
      have HK0 := hid hk
      have HLT := hid hlt
      clear hi1 hlt1 hmem hcx hk hlt hg hbs
      cases xd with
      | true =>
        rw [if_pos rfl] at hrn
        have HRN := hid hrn
        clear hrn
        go_wp2_with fail
        refine (take1_any HBS.out.own HI1.out (by have := (checkClause_facts HCX.out).1; omega) (fun d hd => by have := HBS.out.ok d hd; omega) (by have := HBS.out.le; omega) HRN.out.1).mono ?_
        rintro e w2 ⟨rv2, rfl, ho2, hf2⟩
        have HB2 := hid (HBS.out.erase HM.out ho2 hf2)
        clear ho2 hf2
        go_wp2_with fail
        go_roundg (gk - 1)
        case measure => have := HLT.out; omega
        case rel =>
          have hk := HK0.out
          have hg := HG.out
          have hlt := HLT.out
          have e1 : n - (gk - 1) = k + 1 := by omega
          exact ⟨bl.erase xl, by omega, by rw [e1]; simp, HB2.out, by rw [e1]; exact HRN.out.2⟩
      | false =>
        rw [if_neg (by simp)] at hrn
        have HRN := hid hrn
        have ca2 : (wr.alloc (Obj.cells #[.slice b1 m1 c1] 52)).cell? ⟨wr.heap.size, 0, none⟩ = some (.slice b1 m1 c1) := (World.cell?_alloc_new _ _ _ 0).trans rfl
        have HA2 := hid ca2
        clear hrn ca2
        go_wp2_with (at_builtin; refine wp_appM rfl _ _ rfl M bv bl rfl (HBS.out.own.fr ((Fr.refl [] wr).alloc _) (by simp)) (by simp) wr.heap.size 1 (.slice b1 m1 c1) xl rfl HA2.out rfl (HI1.out.fr ((Fr.refl [] wr).alloc _) (by simp)) (fun g hg => ⟨fun e => (by have := HBS.out.own.ge g e; have := HLT1.out g hg; have := HM.out; omega), (by have := HLT1.out g hg; have := HBS.out.fr.size; simp; omega)⟩) (by simp) (by have := HBS.out.le; omega) (by have := HM.out; have := HBS.out.fr.size; simp; omega) ?_; intro v' w3 ho3 hg3 ha3; have HO3 := hid ho3; have HF3 := hid (fr_appM _ hg3); clear ho3 hg3 ha3)
        go_roundg (gk - 1)
        case measure => have := HLT.out; omega
        case rel =>
          have hk := HK0.out
          have hg := HG.out
          have hlt := HLT.out
          have hrn := HRN.out
          have e1 : n - (gk - 1) = k + 1 := by omega
          refine ⟨bl ++ [xl], by omega, by rw [e1]; simp, ⟨HO3.out, by rw [List.length_append]; simp; omega, fun c hc => ?_, HBS.out.fr.trans2 HF3.out (fun y hy hlt2 => by have := HBS.out.own.ge y (mem_blk.1 hy); have := HM.out; omega)⟩, by rw [e1]; exact hrn.2.2⟩
          rcases List.mem_append.1 hc with z | z
          · exact HBS.out.ok c z
          · rw [List.mem_singleton] at z; subst z; exact (checkClause_facts HCX.out).1
    · have hg0 : gk = 0 := by omega
      subst hg0
      rw [Nat.sub_zero, List.drop_of_length_le (by rw [HN.out]; exact Nat.le_refl _)] at hrn
      have hbb : bl = b := hrn
      have hpm : bl.Perm ([] :: live) := by rw [hbb]; exact HPM.out
      have HPMB := hid hpm
      clear hrn hbb hpm hlt hg hbs
      go_wp2_with fail
      refine (take1_any HBS.out.own (cv := .slice none 0 0) (c := []) (.inl ⟨rfl, rfl⟩) (by simp) (fun d hd => by have := HBS.out.ok d hd; omega) (by have := HBS.out.le; omega) (HPMB.out.mem_iff.2 List.mem_cons_self)).mono ?_
      rintro e w2 ⟨rv2, rfl, ho2, hf2⟩
      have HB2 := hid (HBS.out.erase HM.out ho2 hf2)
      have HP2 : Hid ((bl.erase []).Perm live) := hid (by have := HPMB.out.erase []; simpa using this)
      clear ho2 hf2
      go_wp2_with fail
      go_loopg [7, 11, 12, 13] n3 (fun g bv2 x11 x12 i wr => ∃ bl2, g ≤ n3 ∧ i = .int .i64 ((n3 - g : Nat) : Int) ∧ BagSt w wr M bv2 bl2 ∧ bl2.Perm (live.drop (n3 - g)))
      case atStart => exact ⟨bl.erase [], by omega, by simp, HB2.out, by simpa using HP2.out⟩
      case round =>
        obtain ⟨bl2, hg, rfl, hbs, hpm⟩ := hrel
        obtain ⟨bv2, hbv2⟩ : ∃ x, u7 = x := ⟨_, rfl⟩
        rw [hbv2] at hbs ⊢
        clear hbv2
        have HBS2 := hid hbs
        have HG2 := hid hg
        by_cases hlt : 0 < gk
        · obtain ⟨k, hk⟩ : ∃ k, n3 - gk = k := ⟨_, rfl⟩
          rw [hk] at hpm ⊢
          have hkn : k < n3 := by omega
          have hkn2 : (k : Int) < n3 := by omega
          obtain ⟨g1, o1, b1, m1, c1, rfl, k1, hi1, hlt1⟩ := (HL.out.fr0 hbs.fr).at HN3.out hkn
          rw [dropL_cons HN3.out hkn] at hpm
          have hyl := HLC.out _ (getDL_mem (cs := live) (k := k) (by rw [HN3.out]; exact hkn))
          generalize live.getD k [] = y at *
          have HPM2 := hid hpm
          have HI1 := hid hi1
          have HK0 := hid hk
          have HLT := hid hlt
          have HYL := hid hyl
          clear hpm hi1 hlt1 hk hlt hyl hg hbs
          go_wp2_with fail
          refine (take1_any HBS2.out.own HI1.out (by have := HYL.out; omega) (fun d hd => by have := HBS2.out.ok d hd; omega) (by have := HBS2.out.le; omega) (HPM2.out.mem_iff.2 List.mem_cons_self)).mono ?_
          rintro e w4 ⟨rv4, rfl, ho4, hf4⟩
          have HB4 := hid (HBS2.out.erase HM.out ho4 hf4)
          clear ho4 hf4
          go_wp2_with fail
          go_roundg (gk - 1)
          case measure => have := HLT.out; omega
          case rel =>
            have hk := HK0.out
            have hg := HG2.out
            have hlt := HLT.out
            have e1 : n3 - (gk - 1) = k + 1 := by omega
            refine ⟨bl2.erase y, by omega, by rw [e1]; simp, HB4.out, ?_⟩
            rw [e1]
            have := HPM2.out.erase y
            simpa using this
        · have hg0 : gk = 0 := by omega
          subst hg0
          rw [Nat.sub_zero, List.drop_of_length_le (by rw [HN3.out]; exact Nat.le_refl _)] at hpm
          have hb0 : bl2 = [] := hpm.eq_nil
          subst hb0
          obtain ⟨a9, c9, rfl⟩ := hbs.own.mat.len
          have HFF := hid hbs.fr
          clear hpm hlt hg hbs
          go_wp2_with fail
          exact hK.out _ _ ⟨rfl, HFF.out⟩
end Go.Proofs.Qxb6500354aGreat
