/- The walk over cnfm: Problem. -/
import Derived.Test.Qxb6500354aGreatRow3
import Derived.Test.Qxb6500354aGreatMod3
import Derived.Test.Qxb6500354aGreatChk13
namespace Go.Proofs.Qxb6500354aGreat
open Go.RowKit
set_option linter.unusedVariables false
set_option linter.unusedSimpArgs false

theorem RowsV.len {w : World} {v : Value} {rs : List (Bool × List Int)} (h : RowsV w v rs) : ∃ a cap, v = .slice a rs.length cap := by
  rcases h with ⟨rfl, rfl⟩ | ⟨g, o, cap, rfl, h2⟩
  · exact ⟨none, 0, rfl⟩
  · exact ⟨_, cap, rfl⟩
theorem RowsV.at {w w2 : World} {a : Option Addr} {n cap : Nat} {rs : List (Bool × List Int)} (h : RowsV w (.slice a n cap) rs) (hf : Fr [] w w2) (hl : rs.length = n) {k : Nat} (hk : k < n) :
    ∃ g o b m c, a = some ⟨g, o, none⟩ ∧ w2.cell? ⟨g, o + k * 2, none⟩ = some (.bool (rs.getD k (false, [])).1) ∧ w2.cell? ⟨g, o + k * 2 + 1, none⟩ = some (.slice b m c) ∧ Ints w2 (.slice b m c) (rs.getD k (false, [])).2 ∧
      ∀ g, (Value.slice b m c).ownBlock = some g → g < w.heap.size := by
  rcases h with ⟨e, e2⟩ | ⟨g, o, cap2, e, h2⟩
  · rw [e2] at hl; simp at hl; omega
  · simp only [Value.slice.injEq] at e
    obtain ⟨rfl, _, rfl⟩ := e
    obtain ⟨h3, u, h4, h5, h6⟩ := h2 k (by omega)
    obtain ⟨b, c, hb⟩ := h5.len
    subst hb
    rw [Nat.mul_comm k 2]
    exact ⟨g, o, _, _, _, rfl, hf.cell h3 (by simp), hf.cell h4 (by simp), h5.fr hf (by simp), h6⟩
theorem getDR_mem {rs : List (Bool × List Int)} {k : Nat} (h : k < rs.length) : rs.getD k (false, []) ∈ rs := by rw [List.getD_eq_getElem?_getD, List.getElem?_eq_getElem h]; exact List.getElem_mem _
theorem take_snocR {rs : List (Bool × List Int)} {k : Nat} (h : k < rs.length) : rs.take (k + 1) = rs.take k ++ [rs.getD k (false, [])] := by
  rw [List.take_succ_eq_append_getElem h, List.getD_eq_getElem?_getD, List.getElem?_eq_getElem h]; rfl

theorem OwnM.sl {w : World} {base : Nat} {v : Value} {cs : List (List Int)} {D : List Nat} (h : OwnM w base v cs D) : ∃ a n c, v = .slice a n c := by
  obtain ⟨us, h1, _⟩ := h
  rcases owns_shape h1 with ⟨e, _⟩ | ⟨g, cap, e⟩
  · exact ⟨_, _, _, e⟩
  · exact ⟨_, _, _, e⟩
theorem OwnM.ge {w : World} {base : Nat} {v : Value} {cs : List (List Int)} {D : List Nat} (h : OwnM w base v cs D) : ∀ g, v.ownBlock = some g → base ≤ g := let ⟨_, a, _⟩ := h; fun g hg => (owns_lt a g hg).1
theorem OwnM.down {w : World} {base base2 : Nat} {v : Value} {cs : List (List Int)} {D : List Nat} (h : OwnM w base v cs D) (hb : base2 ≤ base) : OwnM w base2 v cs D := by
  obtain ⟨us, h1, h2, h3⟩ := h
  refine ⟨us, ⟨h1.1, ?_⟩, h2, h3⟩
  rcases h1.2 with q | ⟨g, cap, cur, e, hb2, r⟩
  · exact .inl q
  · exact .inr ⟨g, cap, cur, e, Nat.le_trans hb hb2, r⟩
structure PbOut (w w' : World) (b : Nat) (r : List (List Int) × Nat × Nat) (cv : Value) (D0 : List Nat) : Prop where
  own : OwnM w' w.heap.size cv r.1 D0
  pm : PMAt w' b
  fr : Fr [b] w w'
theorem rows_len_le (rs : List (Bool × List Int)) : rs.length ≤ (flatOf rs).length := flatOf_ge rs
theorem fr_appM {w w' : World} {fv : Value} (o : Obj) (hg : (w.alloc o).grownBy w' fv.ownBlock) : Fr (blk fv) w w' := fr_app o hg
set_option maxRecDepth 100000 in
set_option maxHeartbeats 8000000 in
theorem problem_any {w : World} {b : Nat} (h : PMAt w b) (s : ByteArray) (hs : s.size ≤ maxLen) (D0 : List Nat) (hD0 : ∀ g ∈ D0, g < w.heap.size) :
    Calls Tryz.prog 29 #[.pointer (some ⟨b, 0, none⟩), .string s] w fun e w' => ∃ cv, e = .returned (.tuple #[cv, .int .i64 ((problemF (bytesOf s)).2.1 : Nat), .int .i64 ((problemF (bytesOf s)).2.2 : Nat)]) ∧ PbOut w w' b (problemF (bytesOf s)) cv D0 := by
  have HD0 := hid hD0
  have HP := hid (parseM_any h s hs)
  have hb0 := h.lt
  obtain ⟨rs, hrs, hc⟩ := parseM_flat (bytesOf s)
  have hlen := parseF_len2 (bytesOf s)
  rw [parseF_eq, hrs] at hlen
  have hpe : (parseM (bytesOf s)).err ≠ 0 → problemF (bytesOf s) = ([], (parseM (bytesOf s)).err, (parseM (bytesOf s)).pos) := by intro he; unfold problemF; simp only []; rw [if_neg he]
  have hpo : (parseM (bytesOf s)).err = 0 → problemF (bytesOf s) = _ := fun he => problemF_flat hc he hrs
  obtain ⟨res, hres⟩ : ∃ r, problemF (bytesOf s) = r := ⟨_, rfl⟩
  rw [hres] at hpe hpo ⊢
  obtain ⟨q, hq⟩ : ∃ r, parseM (bytesOf s) = r := ⟨_, rfl⟩
  rw [hq] at hpe hpo HP hrs
  obtain ⟨e1, p1, f1⟩ := q
  simp only [] at hpe hpo hrs
  subst hrs
  have HC := hid hc
  have HLEN := hid hlen
  have HB0 := hid hb0
  clear h hc hlen hres hq hb0 hD0
  by_cases h0 : e1 = 0
  · subst h0
    have HPO := hid (hpo rfl)
    clear hpe hpo
    refine calls_via fun K hK => ?_
    go_enter Tryz.func29, Tryz.ntmps29
    go_wp2_with fail
    refine HP.out.mono ?_
    rintro e w1 ⟨v, ⟨rfl, ho1, _, hp1, hf1⟩⟩
    obtain ⟨x1, n1, m1, rfl⟩ := ho1.sl
    have hc1 := CellsAt.mk_alloc w1 [.int .i64 0, .int .i64 (p1 : Nat), .slice x1 n1 m1] 86
    obtain ⟨D1, hD1⟩ : ∃ D, w1.heap.size = D := ⟨_, rfl⟩
    obtain ⟨wa, hwa⟩ : ∃ x, w1.alloc (Obj.cells #[.int .i64 0, .int .i64 (p1 : Nat), .slice x1 n1 m1] 86) = x := ⟨_, rfl⟩
    change CellsAt (w1.alloc (Obj.cells #[.int .i64 0, .int .i64 (p1 : Nat), .slice x1 n1 m1] 86)) w1.heap.size _ at hc1
    rw [hwa, hD1] at hc1
    have hfwa : Fr [] w1 wa := by rw [← hwa]; exact (Fr.refl _ _).alloc _
    have g10 := hc1.c 0 _ rfl
    have g12 := hc1.c 2 _ rfl
    have g1z := hc1.fz
    have HO1 := hid (ho1.ints.fr hfwa (by simp))
    have HP1 := hid (hp1.fr hfwa (by simp))
    have HF1 := hid (hf1.trans (hfwa.mono (by simp)))
    clear ho1 hp1 hf1 hc1 hfwa
    rw [show ((0 : Nat) : Int) = 0 from rfl]
    go_wp2_with fail
    refine (rowsD_any HO1.out (by have := HLEN.out; omega) D0 (fun g hg => Nat.lt_of_lt_of_le (HD0.out g hg) HF1.out.size)).mono ?_
    rintro e w2 ⟨rv, rfl, ho2, hf2⟩
    rw [rowsOf_flat HC.out] at ho2
    obtain ⟨x2, m2, rfl⟩ := ho2.rows.len
    have hr2 := ho2
    obtain ⟨n, hn⟩ : ∃ n, rs.length = n := ⟨_, rfl⟩
    rw [hn] at hr2 ⊢
    have hnb : n ≤ 27263002 := by have := flatOf_ge rs; have := HLEN.out; omega
    have hnb2 : (n : Int) ≤ 27263002 := by omega
    have HR2 := hid hr2
    have HN := hid hn
    have HF2 := hid (HF1.out.trans (hf2.mono (by simp)))
    have HPM2 := hid (HP1.out.fr hf2 (by simp))
    obtain ⟨M, hM⟩ : ∃ M, w2.heap.size = M := ⟨_, rfl⟩
    have HM := hid hM
    clear ho2 hf2 hr2 hn hnb hM hwa hD1 g10 g12 g1z
    go_wp2_with fail
    go_loopg [9, 10] n (fun g cv i wr => g ≤ n ∧ i = .int .i64 ((n - g : Nat) : Int) ∧ (rs.take (n - g)).any (fun r => r.1) = false ∧ OwnM wr M cv ((rs.take (n - g)).map (fun r => r.2)) D0 ∧ Fr [] w2 wr)
    case atStart => exact ⟨by omega, by simp, by simp, by simp; exact OwnM.nil _ _ _, Fr.refl _ _⟩
    case round =>
      obtain ⟨hg, rfl, hany, hom, hf⟩ := hrel
      obtain ⟨cv, hcv⟩ : ∃ x, u9 = x := ⟨_, rfl⟩
      rw [hcv] at hom ⊢
      clear hcv
      by_cases hlt : 0 < gk
      · obtain ⟨k, hk⟩ : ∃ k, n - gk = k := ⟨_, rfl⟩
        rw [hk] at hany hom ⊢
        have hkn : k < n := by omega
        have hkn2 : (k : Int) < n := by omega
        obtain ⟨g1, b1, m1, c1, rfl, k1, k2, hi1, hlt1⟩ := HR2.out.at HN.out hkn
        replace k1 := hf.cell k1 (by simp)
        replace k2 := hf.cell k2 (by simp)
        replace hi1 := hi1.fr hf (by simp)
        have hts := take_snocR (rs := rs) (k := k) (by rw [HN.out]; exact hkn)
        have hmem := getDR_mem (rs := rs) (k := k) (by rw [HN.out]; exact hkn)
        generalize rs.getD k (false, []) = x at *
        obtain ⟨xd, xl⟩ := x
        simp only [] at k1 k2 hi1
        have HOM := hid hom
        have HF := hid hf
        have HANY := hid hany
        have HI1 := hid hi1
        have HLT1 := hid hlt1
        have HTS := hid hts
        have HMEM := hid hmem
        have HK0 := hid hk
        have HG := hid hg
        have HLT := hid hlt
        clear hom hf hany hi1 hlt1 hts hmem hk hg hlt
        cases xd with
        | true =>
          have hE : Hid (res = ([], 16, 0)) := hid (by
            rw [HPO.out, survey_flat HC.out, if_pos (show rs.any (fun r => r.1) = true by rw [List.any_eq_true]; exact ⟨_, HMEM.out, rfl⟩), if_neg (by decide)])
          go_wp2_with fail
          refine bodyPost_ret (v := .tuple #[.slice none 0 0, .int .i64 16, .int .i64 0]) (by simp [results, Tryz.results29, go_sem]) rfl ?_
          refine hK.out _ _ ⟨_, by rw [hE.out]; rfl, ?_⟩
          rw [hE.out]
          exact ⟨OwnM.nil _ _ _, HPM2.out.fr HF.out (by simp), HF2.out.trans (HF.out.mono (by simp))⟩
        | false =>
          have ca2 : (wr.alloc (Obj.cells #[.slice b1 m1 c1] 52)).cell? ⟨wr.heap.size, 0, none⟩ = some (.slice b1 m1 c1) := (World.cell?_alloc_new _ _ _ 0).trans rfl
          have HA2 := hid ca2
          have HSZ : Hid (M ≤ wr.heap.size) := hid (by rw [← HM.out]; exact HF.out.size)
          clear ca2
          go_wp2_with (at_builtin; refine wp_appM rfl _ _ rfl M cv _ rfl (HOM.out.fr ((Fr.refl [] wr).alloc _) (by simp)) (fun g hg => by have := HD0.out g hg; have := HF2.out.size; have := HF.out.size; simp; omega) wr.heap.size 1 (.slice b1 m1 c1) xl rfl HA2.out rfl (HI1.out.fr ((Fr.refl [] wr).alloc _) (by simp)) (fun g hg => ⟨fun e => (by have := HOM.out.ge g e; have := (HLT1.out g hg).1; have := HM.out; omega), (by have := (HLT1.out g hg).1; have := HF.out.size; simp; omega)⟩) (fun g hg => (HLT1.out g hg).2) (by simp; have := HN.out; omega) (by have := HSZ.out; simp; omega) ?_; intro v' w3 ho3 hg3 ha3; have HO3 := hid ho3; have HF3 := hid (fr_appM _ hg3); clear ho3 hg3 ha3)
          go_roundg (gk - 1)
          case measure => have := HLT.out; omega
          case rel =>
            have hk := HK0.out
            have hg := HG.out
            have hlt := HLT.out
            have e1 : n - (gk - 1) = k + 1 := by omega
            refine ⟨by omega, by rw [e1]; simp, ?_, ?_, HF.out.trans2 HF3.out (fun y hy hlt2 => by have := HOM.out.ge y (mem_blk.1 hy); have := HM.out; omega)⟩
            · rw [e1, HTS.out, List.any_append, HANY.out]; rfl
            · rw [e1, HTS.out, List.map_append]; exact HO3.out
      · have hg0 : gk = 0 := by omega
        subst hg0
        rw [Nat.sub_zero, List.take_of_length_le (by rw [HN.out]; exact Nat.le_refl _)] at hany hom
        have hml : (rs.map (fun r => r.2)).length = n := by rw [List.length_map]; exact HN.out
        obtain ⟨vb, nb, cb, rfl⟩ := hom.sl
        have hnb1 := hom.mat.len
        obtain ⟨a3, c3, he3⟩ := hnb1
        rw [hml] at he3
        injection he3 with q1 q2 q3
        subst q1 q2 q3
        have hpo := HPO.out
        rw [survey_flat HC.out, if_neg (show ¬ rs.any (fun r => r.1) = true by rw [hany]; simp), HN.out] at hpo
        have HOM := hid hom
        have HF := hid hf
        clear hom hf hany hlt hg hml
        by_cases h40 : 40 < nb
        · have hi : (40 : Int) < nb := by omega
          rw [if_pos h40, if_neg (by decide)] at hpo
          have hE := hid hpo
          clear h40 hpo
          go_wp2_with fail
          refine bodyPost_ret (v := .tuple #[.slice none 0 0, .int .i64 17, .int .i64 0]) (by simp [results, Tryz.results29, go_sem]) rfl ?_
          refine hK.out _ _ ⟨_, by rw [hE.out]; rfl, ?_⟩
          rw [hE.out]
          exact ⟨OwnM.nil _ _ _, HPM2.out.fr HF.out (by simp), HF2.out.trans (HF.out.mono (by simp))⟩
        · have hi : ¬ (40 : Int) < nb := by omega
          rw [if_neg h40, if_pos rfl] at hpo
          have hE := hid hpo
          clear h40 hpo
          go_wp2_with fail
          refine bodyPost_ret (v := .tuple #[.slice vb nb cb, .int .i64 0, .int .i64 0]) (by simp [results, Tryz.results29, go_sem]) rfl ?_
          refine hK.out _ _ ⟨_, by rw [hE.out]; rfl, ?_⟩
          rw [hE.out]
          exact ⟨HOM.out.down (by rw [← HM.out]; exact HF2.out.size), HPM2.out.fr HF.out (by simp), HF2.out.trans (HF.out.mono (by simp))⟩
  · have HPE := hid (hpe h0)
    have hb1 : ((e1 : Int) != 0) = true := by rw [neN]; simp [h0]
    clear hpe hpo h0
    refine calls_via fun K hK => ?_
    go_enter Tryz.func29, Tryz.ntmps29
    go_wp2_with fail
    refine HP.out.mono ?_
    rintro e w1 ⟨v, ⟨rfl, ho1, _, hp1, hf1⟩⟩
    obtain ⟨x1, n1, m1, rfl⟩ := ho1.sl
    have hc1 := CellsAt.mk_alloc w1 [.int .i64 (e1 : Nat), .int .i64 (p1 : Nat), .slice x1 n1 m1] 86
    obtain ⟨D1, hD1⟩ : ∃ D, w1.heap.size = D := ⟨_, rfl⟩
    obtain ⟨wa, hwa⟩ : ∃ x, w1.alloc (Obj.cells #[.int .i64 (e1 : Nat), .int .i64 (p1 : Nat), .slice x1 n1 m1] 86) = x := ⟨_, rfl⟩
    change CellsAt (w1.alloc (Obj.cells #[.int .i64 (e1 : Nat), .int .i64 (p1 : Nat), .slice x1 n1 m1] 86)) w1.heap.size _ at hc1
    rw [hwa, hD1] at hc1
    have hfwa : Fr [] w1 wa := by rw [← hwa]; exact (Fr.refl _ _).alloc _
    have g10 := hc1.c 0 _ rfl
    have g11 := hc1.c 1 _ rfl
    have g1z := hc1.fz
    have HP1 := hid (hp1.fr hfwa (by simp))
    have HF1 := hid (hf1.trans (hfwa.mono (by simp)))
    clear ho1 hp1 hf1 hc1 hfwa
    go_wp2_with fail
    go_quiet (fail)
    go_wp2_with fail
    refine bodyPost_ret (v := .tuple #[.slice none 0 0, .int .i64 (e1 : Nat), .int .i64 (p1 : Nat)]) (by simp [results, Tryz.results29, go_sem]) rfl ?_
    refine hK.out _ _ ⟨_, by rw [HPE.out], ?_⟩
    rw [HPE.out]
    exact ⟨OwnM.nil _ _ _, HP1.out.fr (Fr.of_drewN []) (by simp), HF1.out.drewN⟩
end Go.Proofs.Qxb6500354aGreat
