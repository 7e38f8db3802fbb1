/- The model's decoder: token, walked. -/
import Derived.Test.Qxb6500353aGreatMdb
namespace Go.Proofs.Qxb6500353aGreat
open Go.RowKit
set_option linter.unusedVariables false
set_option linter.unusedSimpArgs false

theorem copyF_at (o : List Nat) (d n : Nat) : copyF o d (n + 1) = copyF o d n ++ [(copyF o d n).getD ((copyF o d n).length - d) 0] := rfl
set_option maxRecDepth 100000 in
set_option maxHeartbeats 8000000 in
theorem token_any {w : World} {b cap capo a1 g1 g2 a2 h1 h2 : Nat} {ad ado : Option Addr} {t : Tp} {o la lb : List Nat} (h : DcS w b cap ad t ado capo o) (hol : o.length ≤ 256) (hby : ∀ c ∈ o, c < 256) (hA : McR w a1 g1 g2 la) (hB : McR w a2 h1 h2 lb) (pA : ApC b ado w a1 g1 g2) (pB : ApC b ado w a2 h1 h2)
    (hla : la.length = 265) (hlb : lb.length = 8) (h10a : ∀ s, len la s ≤ 10) (h10b : ∀ s, len lb s ≤ 10) :
    Calls Tryz.prog 114 #[.pointer (some ⟨b, 0, none⟩), .pointer (some ⟨a1, 0, none⟩), .pointer (some ⟨a2, 0, none⟩), .slice ado o.length capo] w fun e w' => ∃ ad2 cp2, e = .returned (.tuple #[.slice ad2 (tokM la lb t o).2.2.2.length cp2, .bool (tokM la lb t o).1, .int .i64 ((tokM la lb t o).2.1 : Nat)]) ∧ DcS w' b cap ad (tokM la lb t o).2.2.1 ad2 cp2 (tokM la lb t o).2.2.2 ∧ Gr b w ado w' ad2 := by
  have H := hid h
  have hobi : (o.length : Int) ≤ 256 := by omega
  obtain ⟨n, hn⟩ : ∃ n, n = o.length := ⟨_, rfl⟩
  have HNL := hid hn
  by_cases c1 : (symF la t).2.2 ≠ 0
  · have e : tokM la lb t o = (true, (symF la t).2.2, t, o) := by unfold tokM; rw [if_pos c1]
    rw [e]; dsimp only
    have hs := symm_no h.tp hA (by omega) h10a c1
    obtain ⟨z, hz⟩ : ∃ z, z = (symF la t).2.2 := ⟨_, rfl⟩
    rw [← hz] at hs c1 ⊢
    rw [← hn] at hobi ⊢
    have hzi : ((z : Int) != 0) = true := by simp; omega
    have HS := hid hs
    clear h hby hA hB pA pB hs e hz hn c1
    refine calls_via fun K hK => ?_
    go_enter Tryz.func114, Tryz.ntmps114
    go_wp2_with fail
    refine HS.out.mono ?_
    rintro e w2 ⟨rfl, q, rfl⟩
    go_wp2_with fail
    have hd := H.out.nob (Fr.of_drewN : Fr Nob w (w.drewN q))
    go_ret3
    exact hK.out _ _ ⟨ado, capo, rfl, hd.1, hd.2⟩
  · have c1' : (symF la t).2.2 = 0 := by omega
    have hs := symm_yes h.tp hA (by omega) h10a c1'
    have hr := symF_got la t c1'
    rw [hla] at hr
    have HO1 := hid (fun (w2 : World) (hm : MTp w2 b ad cap (t.skip (symF la t).2.1)) (hf : Fr (One b) w w2) => h.one hm hf)
    have hsB := fun (w2 : World) (hf : Fr (One b) w w2) (hm : MTp w2 b ad cap (t.skip (symF la t).2.1)) (he : (symF lb (t.skip (symF la t).2.1)).2.2 ≠ 0) => symm_no hm (hB.fr hf (fun q => pB.1.2.1 q) (fun q => pB.2.1.2.1 q) (fun q => pB.2.2.2.1 q)) (by omega) h10b he
    have hsC := fun (w2 : World) (hf : Fr (One b) w w2) (hm : MTp w2 b ad cap (t.skip (symF la t).2.1)) (he : (symF lb (t.skip (symF la t).2.1)).2.2 = 0) => symm_yes hm (hB.fr hf (fun q => pB.1.2.1 q) (fun q => pB.2.1.2.1 q) (fun q => pB.2.2.2.1 q)) (by omega) h10b he
    have htk : tokM la lb t o = if (symF la t).1 = 256 then (true, 0, t.skip (symF la t).2.1, o)
      else if (symF la t).1 < 256 then
        if 256 ≤ o.length then (true, 10, t.skip (symF la t).2.1, o) else (false, 0, t.skip (symF la t).2.1, o ++ [(symF la t).1])
      else tokM.tokM2 lb (symF la t).1 (t.skip (symF la t).2.1) o := by
      show (if (symF la t).2.2 ≠ 0 then _ else _) = _
      rw [if_neg c1]
    rw [htk]
    obtain ⟨x, hx⟩ : ∃ z, z = (symF la t).1 := ⟨_, rfl⟩
    obtain ⟨t1, ht1⟩ : ∃ z, z = t.skip (symF la t).2.1 := ⟨_, rfl⟩
    rw [← ht1] at hs HO1 hsB hsC ⊢
    rw [← hx] at hs hr ⊢
    have hxi : (x : Int) < 265 := by omega
    have HS := hid hs
    have HSB := hid hsB
    have HSC := hid hsC
    have HBY := hid hby
    have HX := hid hr.1
    clear h hby hA hB pA pB hs hsB hsC htk hx ht1 c1 c1' hr
    by_cases c2 : x = 256
    · rw [if_pos c2]; dsimp only
      rw [← hn] at hobi ⊢
      have hxe : ((x : Int) == 256) = true := by simp; omega
      clear hn c2
      refine calls_via fun K hK => ?_
      go_enter Tryz.func114, Tryz.ntmps114
      go_wp2_with fail
      refine HS.out.mono ?_
      rintro e w2 ⟨rfl, h2, hf2⟩
      have hd := HO1.out w2 h2 hf2
      have HD := hid hd
      clear h2 hf2 hd
      go_wp2_with fail
      go_ret3
      exact hK.out _ _ ⟨ado, capo, rfl, HD.out.1, HD.out.2⟩
    · rw [if_neg c2]
      have hxe : ((x : Int) == 256) = false := by simp; omega
      by_cases c3 : x < 256
      · rw [if_pos c3]
        have hx3 : (x : Int) < 256 := by omega
        by_cases c4 : 256 ≤ o.length
        · rw [if_pos c4]; dsimp only
          rw [← hn] at hobi c4 ⊢
          have hn256 : (256 : Int) ≤ n := by omega
          clear hn c2 c3 c4
          refine calls_via fun K hK => ?_
          go_enter Tryz.func114, Tryz.ntmps114
          go_wp2_with fail
          refine HS.out.mono ?_
          rintro e w2 ⟨rfl, h2, hf2⟩
          have hd := HO1.out w2 h2 hf2
          have HD := hid hd
          clear h2 hf2 hd
          go_wp2_with fail
          go_ret3
          exact hK.out _ _ ⟨ado, capo, rfl, HD.out.1, HD.out.2⟩
        · rw [if_neg c4]; dsimp only
          have hlen1 : (o ++ [x]).length = n + 1 := by simp [hn]
          rw [hlen1]
          rw [← hn] at hobi c4 ⊢
          have hn256 : (n : Int) < 256 := by omega
          have wx8 : IntKind.u8.wrap (x : Int) = (x : Int) := wrap8 (by omega) (by omega)
          have hn1000 : n ≤ 1000000000 := by omega
          clear hn c2 c3 c4 hlen1
          refine calls_via fun K hK => ?_
          go_enter Tryz.func114, Tryz.ntmps114
          go_wp2_with fail
          refine HS.out.mono ?_
          rintro e w2 ⟨rfl, h2, hf2⟩
          have hd := HO1.out w2 h2 hf2
          have HD := hid hd
          clear h2 hf2 hd
          obtain ⟨M, hM⟩ : ∃ M, w2.heap.size = M := ⟨_, rfl⟩
          have HM := hid hM
          go_wp2_with (at_builtin; refine wp_appB rfl _ _ rfl 0 ado n capo o x rfl (by rw [HNL.out]; exact HD.out.1.ow.fr ((Fr.refl Nob w2).alloc _) (fun _ _ x => x)) M 1 rfl (by rw [← HM.out]; exact World.cell?_alloc_new _ _ _ 0) hn1000 (Nat.zero_le _) ?_; intro ad2 cap2 w3 ho2 hf2 hob2; have HO2 := hid ho2; have HF2 := hid hf2; have HB2 := hid hob2; clear ho2 hf2 hob2)
          have hfr := ((Fr.refl (Obs ado) w2).alloc (Obj.cells #[.int .u8 x] 5)).trans HF2.out
          have hap := HD.out.1.app (by rw [HNL.out]) HO2.out hfr (HB2.out.elim .inl fun q => .inr ⟨_, q, by simp⟩)
          go_ret3
          exact hK.out _ _ ⟨ad2, cap2, rfl, hap.1, HD.out.2.trans hap.2⟩
      · rw [if_neg c3]
        have hx3 : ¬ (x : Int) < 256 := by omega
        have hx4 : (256 : Int) < x := by omega
        have hr2 := symF_got lb t1
        rw [hlb] at hr2
        by_cases c5 : (symF lb t1).2.2 ≠ 0
        · have etk : tokM.tokM2 lb x t1 o = (true, (symF lb t1).2.2, t1, o) := by unfold tokM.tokM2; rw [if_pos c5]
          rw [etk]; dsimp only
          have hs2 := fun w2 hf hm => HSB.out w2 hf hm c5
          obtain ⟨z, hz⟩ : ∃ z, z = (symF lb t1).2.2 := ⟨_, rfl⟩
          rw [← hz] at hs2 c5 ⊢
          rw [← hn] at hobi ⊢
          have hzi : ((z : Int) != 0) = true := by simp; omega
          have HS2 := hid hs2
          clear hn c2 c3 c5 etk hs2 hz hr2
          refine calls_via fun K hK => ?_
          go_enter Tryz.func114, Tryz.ntmps114
          go_wp2_with fail
          refine HS.out.mono ?_
          rintro e w2 ⟨rfl, h2, hf2⟩
          have HD := hid (HO1.out w2 h2 hf2)
          have hs2 := HS2.out w2 hf2 h2
          have HS3 := hid hs2
          clear h2 hf2 hs2
          go_wp2_with fail
          refine HS3.out.mono ?_
          rintro e w3 ⟨rfl, q, rfl⟩
          go_wp2_with fail
          go_ret3
          have hd := HD.out.1.nob (Fr.of_drewN : Fr Nob w2 (w2.drewN q))
          exact hK.out _ _ ⟨ado, capo, rfl, hd.1, HD.out.2.trans hd.2⟩
        · have c5' : (symF lb t1).2.2 = 0 := by omega
          have etk : tokM.tokM2 lb x t1 o = tokM.tokM3 x (distBase (symF lb t1).1) (t1.skip (symF lb t1).2.1) o := by unfold tokM.tokM2; rw [if_neg c5]
          rw [etk]
          have hs2 := fun w2 hf hm => HSC.out w2 hf hm c5'
          have hr2' := (hr2 c5').1
          have HDB := hid (fun w => distBase_any (w := w) hr2')
          have hdf := fun x => distBase_fits (x := x) hr2'
          obtain ⟨y, hy⟩ : ∃ z, z = (symF lb t1).1 := ⟨_, rfl⟩
          obtain ⟨t2, ht2⟩ : ∃ z, z = t1.skip (symF lb t1).2.1 := ⟨_, rfl⟩
          rw [← ht2, ← hy] at hs2 ⊢
          rw [← hy] at HDB hdf
          have hsame : tokM.tokM3 x (distBase y) t2 o = if t2.got (distBase y).2 < (distBase y).2 then (true, 4, t2, o)
            else if o.length < (distBase y).1 + t2.peek (distBase y).2 then (true, 9, t2.skip (distBase y).2, o)
            else if 256 < o.length + (x - 254) then (true, 10, t2.skip (distBase y).2, o)
            else (false, 0, t2.skip (distBase y).2, copyF o ((distBase y).1 + t2.peek (distBase y).2) (x - 254)) := rfl
          rw [hsame]
          obtain ⟨bs, hbs⟩ : ∃ z, z = (distBase y).1 := ⟨_, rfl⟩
          obtain ⟨mr, hmr⟩ : ∃ z, z = (distBase y).2 := ⟨_, rfl⟩
          rw [← hbs, ← hmr] at HDB ⊢
          rw [← hbs, ← hmr] at hdf
          have hmr2 : mr ≤ 2 := (hdf 0 (Nat.two_pow_pos _)).2.2
          have hmri : (mr : Int) ≤ 2 := by omega
          have HS2 := hid hs2
          have hyi : (y : Int) < 8 := by omega
          have HTN := hid (fun (w3 : World) (hm : MTp w3 b ad cap t2) (hg : t2.got mr < mr) => mtake_no hm (k := mr) (by omega) hg)
          have HTY := hid (fun (w3 : World) (hm : MTp w3 b ad cap t2) (hg : ¬ t2.got mr < mr) => mtake_yes hm (k := mr) (by omega) hg)
          have hpk := hdf (t2.peek mr) (peek_lt2 t2 mr)
          clear c5 c5' etk hs2 hr2 hr2' hdf hy ht2 hsame hbs hmr
          obtain ⟨nn, hnn⟩ : ∃ z, z = x - 254 := ⟨_, rfl⟩
          have enn : (x : Int) - 256 - 1 + 3 = (nn : Int) := by omega
          rw [← hnn]
          have HNN := hid (And.intro hnn (show nn ≤ 10 by omega))
          have hnni : (nn : Int) ≤ 10 := by omega
          have hnni3 : (3 : Int) ≤ nn := by omega
          clear c2 c3 hnn
          have HSTEP : Hid (∀ w2, Fr (One b) w w2 → MTp w2 b ad cap t1 → True) := hid fun _ _ _ => trivial
          by_cases c6 : t2.got mr < mr
          · rw [if_pos c6]; dsimp only
            rw [← hn] at hobi ⊢
            have hs4 := fun w3 hm => HTN.out w3 hm c6
            have HS4 := hid hs4
            clear hn c6 hs4 enn
            refine calls_via fun K hK => ?_
            unfold ptrV at HS4
            go_enter Tryz.func114, Tryz.ntmps114
            go_wp2_with fail
            refine HS.out.mono ?_
            rintro e w2 ⟨rfl, h2, hf2⟩
            have HD := hid (HO1.out w2 h2 hf2)
            have HS3 := hid (HS2.out w2 hf2 h2)
            clear h2 hf2
            go_wp2_with fail
            refine HS3.out.mono ?_
            rintro e w3 ⟨rfl, h3, hf3⟩
            have hd3 := HD.out.1.one h3 hf3
            have HD3 := hid (And.intro hd3.1 (HD.out.2.trans hd3.2))
            have HS5 := hid (HS4.out w3 h3)
            clear h3 hf3 hd3
            go_wp2_with fail
            refine (HDB.out _).mono ?_
            rintro e w' ⟨rfl, hw⟩
            have hw2 := hw.symm; subst hw2; clear hw
            go_wp2_with fail
            refine HS5.out.mono ?_
            rintro e w4 ⟨rfl, q, rfl⟩
            go_wp2_with fail
            go_ret3
            have hd := HD3.out.1.nob (Fr.of_drewN : Fr Nob w3 (w3.drewN q))
            exact hK.out _ _ ⟨ado, capo, rfl, hd.1, HD3.out.2.trans hd.2⟩
          · rw [if_neg c6]
            have hs4 := fun w3 hm => HTY.out w3 hm c6
            obtain ⟨pk, hpkn⟩ : ∃ z, z = t2.peek mr := ⟨_, rfl⟩
            obtain ⟨t3, ht3⟩ : ∃ z, z = t2.skip mr := ⟨_, rfl⟩
            rw [← hpkn, ← ht3] at hs4 ⊢
            rw [← hpkn] at hpk
            have HS4 := hid hs4
            have hbp : (bs : Int) + pk ≤ 16 := by omega
            have hb1 : (1 : Int) ≤ bs := by omega
            have hpk0 : (pk : Int) ≤ 16 := by omega
            have HPK := hid hpk
            clear c6 hs4 hpkn ht3 hpk
            by_cases c7 : o.length < bs + pk
            · rw [if_pos c7]; dsimp only
              rw [← hn] at hobi c7 ⊢
              have c7i : (n : Int) < (bs : Int) + pk := by omega
              clear hn c7
              refine calls_via fun K hK => ?_
              unfold ptrV at HS4
              go_enter Tryz.func114, Tryz.ntmps114
              go_wp2_with fail
              refine HS.out.mono ?_
              rintro e w2 ⟨rfl, h2, hf2⟩
              have HD := hid (HO1.out w2 h2 hf2)
              have HS3 := hid (HS2.out w2 hf2 h2)
              clear h2 hf2
              go_wp2_with fail
              refine HS3.out.mono ?_
              rintro e w3 ⟨rfl, h3, hf3⟩
              have hd3 := HD.out.1.one h3 hf3
              have HD3 := hid (And.intro hd3.1 (HD.out.2.trans hd3.2))
              have HS5 := hid (HS4.out w3 h3)
              clear h3 hf3 hd3
              go_wp2_with fail
              refine (HDB.out _).mono ?_
              rintro e w' ⟨rfl, hw⟩
              have hw2 := hw.symm; subst hw2; clear hw
              go_wp2_with fail
              refine HS5.out.mono ?_
              rintro e w4 ⟨rfl, h4, hf4⟩
              have hd4 := HD3.out.1.one h4 hf4
              have HD4 := hid (And.intro hd4.1 (HD3.out.2.trans hd4.2))
              clear h4 hf4 hd4
              go_wp2_with fail
              go_ret3
              exact hK.out _ _ ⟨ado, capo, rfl, HD4.out.1, HD4.out.2⟩
            · rw [if_neg c7]
              by_cases c8 : 256 < o.length + nn
              · rw [if_pos c8]; dsimp only
                rw [← hn] at hobi c7 c8 ⊢
                have c7i : ¬ (n : Int) < (bs : Int) + pk := by omega
                have c8i : (256 : Int) < (n : Int) + nn := by omega
                clear hn c7 c8
                refine calls_via fun K hK => ?_
                unfold ptrV at HS4
                go_enter Tryz.func114, Tryz.ntmps114
                go_wp2_with fail
                refine HS.out.mono ?_
                rintro e w2 ⟨rfl, h2, hf2⟩
                have HD := hid (HO1.out w2 h2 hf2)
                have HS3 := hid (HS2.out w2 hf2 h2)
                clear h2 hf2
                go_wp2_with fail
                refine HS3.out.mono ?_
                rintro e w3 ⟨rfl, h3, hf3⟩
                have hd3 := HD.out.1.one h3 hf3
                have HD3 := hid (And.intro hd3.1 (HD.out.2.trans hd3.2))
                have HS5 := hid (HS4.out w3 h3)
                clear h3 hf3 hd3
                go_wp2_with fail
                refine (HDB.out _).mono ?_
                rintro e w' ⟨rfl, hw⟩
                have hw2 := hw.symm; subst hw2; clear hw
                go_wp2_with fail
                refine HS5.out.mono ?_
                rintro e w4 ⟨rfl, h4, hf4⟩
                have hd4 := HD3.out.1.one h4 hf4
                have HD4 := hid (And.intro hd4.1 (HD3.out.2.trans hd4.2))
                clear h4 hf4 hd4
                go_wp2_with fail
                go_ret3
                exact hK.out _ _ ⟨ado, capo, rfl, HD4.out.1, HD4.out.2⟩
              · rw [if_neg c8]; dsimp only
                rw [copyF_length, ← hn]
                rw [← hn] at hobi c7 c8
                have c7i : ¬ (n : Int) < (bs : Int) + pk := by omega
                have c8i : ¬ (256 : Int) < (n : Int) + nn := by omega
                have HC := hid (And.intro c7 c8)
                clear hn c7 c8
                refine calls_via fun K hK => ?_
                unfold ptrV at HS4
                go_enter Tryz.func114, Tryz.ntmps114
                go_wp2_with fail
                refine HS.out.mono ?_
                rintro e w2 ⟨rfl, h2, hf2⟩
                have HD := hid (HO1.out w2 h2 hf2)
                have HS3 := hid (HS2.out w2 hf2 h2)
                clear h2 hf2
                go_wp2_with fail
                refine HS3.out.mono ?_
                rintro e w3 ⟨rfl, h3, hf3⟩
                have hd3 := HD.out.1.one h3 hf3
                have HD3 := hid (And.intro hd3.1 (HD.out.2.trans hd3.2))
                have HS5 := hid (HS4.out w3 h3)
                clear h3 hf3 hd3
                go_wp2_with fail
                refine (HDB.out _).mono ?_
                rintro e w' ⟨rfl, hw⟩
                have hw2 := hw.symm; subst hw2; clear hw
                go_wp2_with fail
                refine HS5.out.mono ?_
                rintro e w4 ⟨rfl, h4, hf4⟩
                have hd4 := HD3.out.1.one h4 hf4
                have HD4 := hid (And.intro hd4.1 (HD3.out.2.trans hd4.2))
                clear h4 hf4 hd4
                go_wp2_with fail
                go_loopg [3, 20] nn (fun g ov v wr => ∃ (k m : Nat) (adr : Option Addr) (cpr : Nat), v = .int .i64 (k : Nat) ∧ g + k = nn ∧ m = n + k ∧ ov = .slice adr m cpr ∧ DcS wr b cap ad t3 adr cpr (copyF o (bs + pk) k) ∧ Gr b w ado wr adr)
                case atStart => exact ⟨0, n, ado, capo, rfl, by omega, rfl, rfl, HD4.out.1, HD4.out.2⟩
                case round =>
                  obtain ⟨k, m, adr, cpr, rfl, hg, hm, rfl, hE, hG⟩ := hrel
                  have HG := hid (And.intro hg hm)
                  have HE := hid hE
                  have HGR := hid hG
                  have hlen := copyF_length o (bs + pk) k
                  rw [← HNL.out, ← hm] at hlen
                  have HLEN := hid hlen
                  by_cases hk : k < nn
                  · have hki : (k : Int) < nn := by omega
                    have hm256 : (m : Int) ≤ 256 := by have := HC.out.2; omega
                    obtain ⟨j, hj⟩ : ∃ j, j = m - (bs + pk) := ⟨_, rfl⟩
                    have hjm : j < m := by have := HC.out.1; have := HPK.out.1; omega
                    have ej : (m : Int) - bs - pk = (j : Int) := by have := HC.out.1; omega
                    have hji : (j : Int) < m := by omega
                    have hj0 : 0 ≤ (m : Int) - bs - pk := by omega
                    have hj1 : (m : Int) - bs - pk < m := by omega
                    have hnx := copyF_at o (bs + pk) k
                    rw [hlen, ← hj] at hnx
                    obtain ⟨gI, hadr, c0⟩ := hE.ow.at j (by rw [hlen]; exact hjm)
                    obtain ⟨yv, hyv⟩ : ∃ z, z = (copyF o (bs + pk) k).getD j 0 := ⟨_, rfl⟩
                    rw [← hyv] at c0 hnx
                    have hm1000 : m ≤ 1000000000 := by omega
                    subst hadr
                    have HNX := hid hnx
                    have HK := hid hk
                    obtain ⟨M, hM⟩ : ∃ M, wr.heap.size = M := ⟨_, rfl⟩
                    have HM := hid hM
                    clear hE hG hg hm hlen hnx hyv hj hjm hk
                    go_wp2_with (at_builtin; refine wp_appB rfl _ _ rfl 0 (some ⟨gI, 0, none⟩) m cpr (copyF o (bs + pk) k) yv rfl (by have h9 := HE.out.ow.fr ((Fr.refl Nob wr).alloc (Obj.cells #[.int .u8 (yv : Int)] 5)) (fun _ _ x => x); rw [HLEN.out] at h9; exact h9) M 1 rfl (by rw [← HM.out]; exact World.cell?_alloc_new _ _ _ 0) hm1000 (Nat.zero_le _) ?_; intro ad2 cap2 w5 ho2 hf2 hob2; have HO2 := hid ho2; have HF2 := hid hf2; have HB2 := hid hob2; clear ho2 hf2 hob2)
                    go_roundg (gk - 1)
                    case measure => have := HG.out; have := HK.out; omega
                    case rel =>
                      have hfr := ((Fr.refl (Obs (some ⟨gI, 0, none⟩)) wr).alloc (Obj.cells #[.int .u8 (yv : Int)] 5)).trans HF2.out
                      have hap := HE.out.app (by rw [HLEN.out]) HO2.out hfr (HB2.out.elim .inl fun q => .inr ⟨_, q, by simp⟩)
                      rw [← HNX.out] at hap
                      exact ⟨k + 1, m + 1, ad2, cap2, by simp, by have := HG.out; have := HK.out; omega, by have := HG.out; omega, rfl, hap.1, HGR.out.trans hap.2⟩
                  · have hki : ¬ (k : Int) < nn := by omega
                    have hkn : k = nn := by omega
                    have hmn : m = n + nn := by omega
                    rw [hkn] at hE
                    have HE2 := hid hE
                    have HMN := hid hmn
                    clear hE hG hg hm hlen hk hkn hmn
                    go_wp2_with fail
                    go_ret3
                    exact hK.out _ _ ⟨adr, cpr, by rw [HMN.out]; rfl, HE2.out, HGR.out⟩
end Go.Proofs.Qxb6500353aGreat
