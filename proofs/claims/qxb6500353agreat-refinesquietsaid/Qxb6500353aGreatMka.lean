/- The model's encoder: New, FixedLens, Counts, Choose, walked. -/
import Derived.Test.Qxb6500353aGreatLmp
import Derived.Test.Qxb6500353aGreatBka
import Derived.Test.Qxb6500353aGreatBkb
import Derived.Test.Qxb6500353aGreatCpw
import Derived.Test.Qxb6500353aGreatMcw
namespace Go.Proofs.Qxb6500353aGreat
open Go.RowKit
set_option linter.unusedVariables false
set_option linter.unusedSimpArgs false

/-- The model's packer: two pointers that nothing hangs on. -/
structure PkM (w : World) (b : Nat) : Prop where
  c0 : ∃ z, w.cell? ⟨b, 0, none⟩ = some (.pointer (some ⟨z, 0, none⟩))
  c1 : ∃ h, w.cell? ⟨b, 1, none⟩ = some (.pointer (some ⟨h, 0, none⟩))
theorem PkM.fr {S : Nat → Prop} {w w2 : World} {b : Nat} (h : PkM w b) (hf : Fr S w w2) (hn : ¬ S b) : PkM w2 b := by
  obtain ⟨⟨z, h1⟩, ⟨y, h2⟩⟩ := h
  exact ⟨⟨z, hf.cell h1 hn⟩, ⟨y, hf.cell h2 hn⟩⟩
theorem PkM.lt {w : World} {b : Nat} (h : PkM w b) : b < w.heap.size := by obtain ⟨⟨z, h1⟩, _⟩ := h; exact lt_of_cellB h1
set_option maxRecDepth 100000 in
theorem fixedLens_any {w : World} {N : Nat} (hN : w.heap.size = N) : Calls Tryz.prog 66 #[] w fun e w' => e = .returned (.slice (some ⟨N, 0, none⟩) 273 273) ∧ Arr 3 mkN w' N 273 (len fixL) ∧ w'.heap.size = N + 1 ∧ Fr Nob w w' := by
  refine calls_via fun K hK => ?_
  go_enter Tryz.func66, Tryz.ntmps66
  go_wp2_with (at_make; refine wp_mkx rfl _ _ rfl 273 273 273 N hN rfl rfl rfl rfl (by omega) ?_; intro w1 hs1 ha hf; have HA := hid ha; have HF := hid hf; have HS := hid hs1; clear ha hf hs1)
  have HNN := hid hN
  have hos : Hid (∀ {x y : World}, Fr (One N) x y → Fr Nob w x → Fr Nob w y) := hid fun h k => k.trans2 h fun x hx hl => by unfold One at hx; have := HNN.out; omega
  go_loopg [2] 265 (fun g i wr => ∃ k : Nat, i = .int .i64 (k : Nat) ∧ g + k = 265 ∧ Arr 3 mkN wr N 273 (fun j => if j < k then len fixL j else 0) ∧ wr.heap.size = N + 1 ∧ Fr Nob w wr)
  case atStart => exact ⟨0, rfl, by omega, HA.out.congr (fun i _ => by simp), HS.out, HF.out⟩
  case round =>
    obtain ⟨k, rfl, hg, hA, hsz, hf⟩ := hrel
    have HA := hid hA
    have HF := hid hf
    have HSZ := hid hsz
    have z : ∀ i, wr.frozen? ⟨N, i, none⟩ = false := hA.thaw
    by_cases hlt : k < 265
    · have hki : (k : Int) < 265 := by omega
      have cb := hA.cell k (by omega)
      simp only [mkN] at cb
      rw [if_neg (Nat.lt_irrefl _)] at cb
      have HFL := hid (fun w => fixedLen_any (w := w) (s := k))
      obtain ⟨f, hff⟩ : ∃ f, f = fixedLen k := ⟨_, rfl⟩
      rw [← hff] at HFL
      have HFF := hid (hff.trans (fixL_lo hlt).symm)
      clear hA hf hff hsz
      go_wp2_with (go_at_call 100; refine (HFL.out _).mono ?_; rintro e w7 ⟨rfl, hw⟩; have hw2 := hw; subst hw2; clear hw)
      go_roundg (gk - 1)
      case measure => omega
      case rel =>
        refine ⟨k + 1, by simp, by omega, (HA.out.set k f).congr fun i hi => ?_, by rw [World.size_setCell]; exact HSZ.out, hos.out ((Fr.refl _ _).set1 k (.int .i64 (f : Nat))) HF.out⟩
        by_cases e : i = k
        · subst e; rw [upd_self, if_pos (by omega), HFF.out]
        · rw [upd_ne _ _ _ _ e]
          by_cases e2 : i < k
          · rw [if_pos e2, if_pos (by omega)]
          · rw [if_neg e2, if_neg (by omega)]
    · have hki : ¬ (k : Int) < 265 := by omega
      have hA0 : Arr 3 mkN wr N 273 (fun j => if j < 265 then len fixL j else 0) := hA.congr fun i hi => by
        by_cases e : i < 265
        · rw [if_pos (by omega), if_pos e]
        · rw [if_neg (by omega), if_neg e]
      have HA0 := hid hA0
      clear hA hA0 HA hf hsz
      go_wp2_with fail
      go_loopg [3] 8 (fun g i w2 => ∃ k : Nat, i = .int .i64 (k : Nat) ∧ g + k = 8 ∧ Arr 3 mkN w2 N 273 (fun j => if j < 265 + k then len fixL j else 0) ∧ w2.heap.size = N + 1 ∧ Fr Nob w w2)
      case atStart => exact ⟨0, rfl, by omega, HA0.out, HSZ.out, HF.out⟩
      case round =>
        obtain ⟨k, rfl, hg, hA, hsz, hf⟩ := hrel
        have HA := hid hA
        have HF := hid hf
        have HSZ := hid hsz
        have z : ∀ i, wr.frozen? ⟨N, i, none⟩ = false := hA.thaw
        by_cases hlt : k < 8
        · have hki : (k : Int) < 8 := by omega
          have cb := hA.cell (265 + k) (by omega)
          simp only [mkN] at cb
          rw [if_neg (Nat.lt_irrefl _)] at cb
          have HX := hid (fixL_hi hlt)
          clear hA hf hsz
          go_wp2_with fail
          go_roundg (gk - 1)
          case measure => omega
          case rel =>
            refine ⟨k + 1, by simp, by omega, (HA.out.set (265 + k) 3).congr fun i hi => ?_, by rw [World.size_setCell]; exact HSZ.out, hos.out ((Fr.refl _ _).set1 (265 + k) (.int .i64 3)) HF.out⟩
            by_cases e : i = 265 + k
            · subst e; rw [upd_self, if_pos (by omega), HX.out]
            · rw [upd_ne _ _ _ _ e]
              by_cases e2 : i < 265 + k
              · rw [if_pos e2, if_pos (by omega)]
              · rw [if_neg e2, if_neg (by omega)]
        · have hki : ¬ (k : Int) < 8 := by omega
          clear hA hf hsz
          go_wp2_with fail
          exact hK.out _ _ ⟨rfl, HA.out.congr fun i hi => by rw [if_pos (by omega)], HSZ.out, HF.out⟩
theorem mchoose_any {w : World} {st fx dy : Nat} : Calls Tryz.prog 68 #[.int .i64 st, .int .i64 fx, .int .i64 dy] w fun e w' => e = .returned (.int .i64 (chooseF st fx dy : Nat)) ∧ w' = w := by
  unfold chooseF
  refine calls_via fun K hK => ?_
  by_cases q1 : st ≤ fx
  · have q1i : (st : Int) ≤ fx := by omega
    by_cases q2 : st ≤ dy
    · have q2i : (st : Int) ≤ dy := by omega
      rw [if_pos ⟨q1, q2⟩] at hK
      go_enter Tryz.func68, Tryz.ntmps68
      go_wp2_with fail
      exact hK.out _ _ ⟨rfl, rfl⟩
    · have q2i : ¬ (st : Int) ≤ dy := by omega
      have q3 : ¬ fx ≤ dy := by omega
      have q3i : ¬ (fx : Int) ≤ dy := by omega
      rw [if_neg (fun h => q2 h.2), if_neg q3] at hK
      go_enter Tryz.func68, Tryz.ntmps68
      go_wp2_with fail
      exact hK.out _ _ ⟨rfl, rfl⟩
  · have q1i : ¬ (st : Int) ≤ fx := by omega
    rw [if_neg (fun h => q1 h.1)] at hK
    by_cases q3 : fx ≤ dy
    · have q3i : (fx : Int) ≤ dy := by omega
      rw [if_pos q3] at hK
      go_enter Tryz.func68, Tryz.ntmps68
      go_wp2_with fail
      exact hK.out _ _ ⟨rfl, rfl⟩
    · have q3i : ¬ (fx : Int) ≤ dy := by omega
      rw [if_neg q3] at hK
      go_enter Tryz.func68, Tryz.ntmps68
      go_wp2_with fail
      exact hK.out _ _ ⟨rfl, rfl⟩
set_option maxRecDepth 100000 in
set_option maxHeartbeats 4000000 in
theorem counts_any {w : World} {g cap N : Nat} {ts : List Tok} (hN : w.heap.size = N) (ht : Cel mkV w g 0 (ts.length * 3) (tokF ts)) (hgN : g < N) (hok : ∀ t ∈ ts, TokOK t) (hn : ts.length ≤ 256) :
    Calls Tryz.prog 64 #[.slice (some ⟨g, 0, none⟩) ts.length cap] w fun e w' => e = .returned (.slice (some ⟨N, 0, none⟩) 273 273) ∧ Arr 3 mkN w' N 273 (countsF ts) ∧ Fr Nob w w' := by
  have HT := hid ht
  have HOK := hid hok
  have HNT := hid hn
  have HGN := hid hgN
  obtain ⟨n, hnl⟩ : ∃ n, n = ts.length := ⟨_, rfl⟩
  rw [← hnl]
  have hni : (n : Int) ≤ 256 := by omega
  have HNL := hid hnl
  have HNN := hid hN
  have hos : Hid (∀ {x y : World}, Fr (One N) x y → Fr Nob w x → Fr Nob w y) := hid fun h k => k.trans2 h fun x hx hl => by unfold One at hx; have := HNN.out; omega
  have hgb : ¬ g = N := by omega
  have hgb2 : ¬ N = g := by omega
  clear ht hok hn hnl hgN
  refine calls_via fun K hK => ?_
  go_enter Tryz.func64, Tryz.ntmps64
  go_wp2_with (at_make; refine wp_mkx rfl _ _ rfl 273 273 273 N hN rfl rfl rfl rfl (by omega) ?_; intro w1 hs1 ha hf; have cb := ha.cell 256 (by omega); have zz : ∀ i, w1.frozen? ⟨N, i, none⟩ = false := ha.thaw; simp only [mkN] at cb; have HA := hid ha; have HF := hid hf; clear ha hf hs1)
  go_loopg [4] n (fun g0 i w2 => ∃ k : Nat, i = .int .i64 (k : Nat) ∧ g0 + k = n ∧ Arr 3 mkN w2 N 273 (cntF cnt0 (ts.take k)) ∧ Fr Nob w w2)
  case atStart => exact ⟨0, rfl, by omega, (HA.out.set 256 1).congr (fun i _ => rfl), hos.out ((Fr.refl _ _).set1 256 (.int .i64 1)) HF.out⟩
  case round =>
    obtain ⟨k, rfl, hg, hA, hf⟩ := hrel
    have cf : ∀ i, wr.frozen? ⟨N, i, none⟩ = false := hA.thaw
    have HG := hid hg
    by_cases hk : k < n
    · have hki : (k : Int) < n := by omega
      have hkl : k < ts.length := by rw [← HNL.out]; exact hk
      have hT := HT.out.fr hf (fun x => x)
      have htok := tokF_at (List.getElem?_eq_getElem hkl)
      have hok1 := HOK.out _ (List.getElem_mem hkl)
      have htk := cntF_take cnt0 ts k hkl
      have x0 := hT.at0 (k * 3) (by omega)
      have x1 := hT.at0 (k * 3 + 1) (by omega)
      have x2 := hT.at0 (k * 3 + 2) (by omega)
      simp only [mkV] at x0 x1 x2
      rw [htok.1] at x0
      rw [htok.2.1] at x1
      rw [htok.2.2] at x2
      simp only [mkN] at x0 x1 x2
      obtain ⟨t, htt⟩ : ∃ t, t = ts[k]'hkl := ⟨_, rfl⟩
      rw [← htt] at x0 x1 x2 hok1 htk
      have hfl : ∀ s, cntF cnt0 (ts.take k) s ≤ 513 := by
        intro s
        have h1 := cntF_le (ts.take k) cnt0 s
        have h2 := cnt0_le s
        have h3 : (ts.take k).length ≤ 256 := by rw [List.length_take]; have := HNT.out; omega
        omega
      obtain ⟨f, hff⟩ : ∃ f, f = cntF cnt0 (ts.take k) := ⟨_, rfl⟩
      rw [← hff] at hfl hA htk
      have HA := hid hA
      have HF := hid hf
      have HTK := hid htk
      rcases hok1 with ⟨hl0, hlit⟩ | ⟨h3, h10, d1, d16⟩
      · rw [hl0] at x0
        obtain ⟨x, hx⟩ : ∃ x, x = t.lit := ⟨_, rfl⟩
        rw [← hx] at x2 hlit
        have cx := hA.cell x (by omega)
        simp only [mkN] at cx
        have hyl := hfl x
        obtain ⟨y, hy⟩ : ∃ y, y = f x := ⟨_, rfl⟩
        rw [← hy] at cx hyl
        have hxi : (x : Int) < 256 := by omega
        have hyi : (y : Int) ≤ 513 := by omega
        have HX := hid (And.intro hx (And.intro hy hl0))
        clear hA hf hT htok htk htt hfl hff hx hy hl0 x1 hkl hg hk
        go_wp2_with fail
        go_roundg (gk - 1)
        case measure => have := HG.out; omega
        case rel =>
          have h8 := HA.out.set x (y + 1)
          simp only [mkN, Int.natCast_add] at h8
          have e : tally1 f t = upd f x (y + 1) := by
            unfold tally1 bump; rw [if_pos HX.out.2.2, ← HX.out.1, ← HX.out.2.1]
          refine ⟨k + 1, by simp, by have := HG.out; omega, ?_, hos.out ((Fr.refl _ _).set1 _ _) HF.out⟩
          rw [HTK.out, e]; exact h8
      · obtain ⟨ln, hln⟩ : ∃ x, x = t.len := ⟨_, rfl⟩
        obtain ⟨d, hd⟩ : ∃ x, x = t.dist := ⟨_, rfl⟩
        rw [← hln] at x0 h3 h10
        rw [← hd] at x1 d1 d16
        have hc8 := (dist_fits d1 d16).1
        have HDC := hid (fun w => distCode_any (w := w) d1 d16)
        obtain ⟨c, hc⟩ : ∃ c, c = distCode d := ⟨_, rfl⟩
        rw [← hc] at hc8 HDC
        obtain ⟨s1, hs1⟩ : ∃ s1, s1 = 254 + ln := ⟨_, rfl⟩
        have hs1l : s1 < 265 := by omega
        have e257 : (257 : Int) + ln - 3 = (s1 : Int) := by omega
        have ca := hA.cell s1 (by omega)
        have cb := hA.cell (265 + c) (by omega)
        simp only [mkN] at ca cb
        have hyl := hfl s1
        have hzl := hfl (265 + c)
        obtain ⟨y, hy⟩ : ∃ y, y = f s1 := ⟨_, rfl⟩
        obtain ⟨z, hz⟩ : ∃ y, y = f (265 + c) := ⟨_, rfl⟩
        rw [← hy] at ca hyl
        rw [← hz] at cb hzl
        have hs1i : (s1 : Int) < 265 := by omega
        have hci : (c : Int) < 8 := by omega
        have hyi : (y : Int) ≤ 513 := by omega
        have hzi : (z : Int) ≤ 513 := by omega
        have hln10 : (ln : Int) ≤ 10 := by omega
        have hlni : ((ln : Int) == 0) = false := by simp; omega
        have hne : ¬ s1 = 265 + c := by omega
        have hne2 : ¬ 265 + c = s1 := by omega
        have HX := hid (And.intro hs1 (And.intro hc (And.intro hy (And.intro hz (And.intro hln (And.intro hd (show t.len ≠ 0 by rw [← hln]; omega)))))))
        clear hA hf hT htok htk htt hfl hff hy hz hln hd x2 hkl hg hk hs1 hc d1 d16 h3 h10
        go_wp2_with (go_at_call 95; refine (HDC.out _).mono ?_; rintro e w' ⟨rfl, hw⟩; have hw2 := hw; subst hw2; clear hw)
        go_roundg (gk - 1)
        case measure => have := HG.out; omega
        case rel =>
          have h8 := (HA.out.set s1 (y + 1)).set (265 + c) (z + 1)
          simp only [mkN, Int.natCast_add] at h8
          obtain ⟨q1, q2, q3, q4, q5, q6, q7⟩ := HX.out
          have e : tally1 f t = upd (upd f s1 (y + 1)) (265 + c) (z + 1) := by
            unfold tally1 bump
            rw [if_neg q7, ← q5, ← q6, ← q1, ← q2, ← q3, upd_ne f _ _ _ hne2, ← q4]
          refine ⟨k + 1, by simp, by have := HG.out; omega, ?_, hos.out (((Fr.refl _ _).set1 _ _).set1 _ _) HF.out⟩
          rw [HTK.out, e]; exact h8
    · have hki : ¬ (k : Int) < n := by omega
      have hkn : k = n := by omega
      subst hkn
      have e : ts.take k = ts := by rw [HNL.out]; exact List.take_of_length_le (Nat.le_refl _)
      rw [e] at hA
      have HA := hid hA
      have HF := hid hf
      clear hA hf hg e
      go_wp2_with fail
      exact hK.out _ _ ⟨rfl, HA.out, HF.out⟩
end Go.Proofs.Qxb6500353aGreat
