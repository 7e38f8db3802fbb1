/- The encoder: tally, walked. -/
import Derived.Test.Qxb6500353aGreatApi
import Derived.Test.Qxb6500353aGreatHpw
import Derived.Test.Qxb6500353aGreatLzf
namespace Go.Proofs.Qxb6500353aGreat
open Go.RowKit
set_option linter.unusedVariables false
set_option linter.unusedSimpArgs false

theorem PkAt.congrC {w : World} {b : Nat} {R : PkR} (h : PkAt w b R) {f : Nat → Nat} (e : ∀ i, i < 273 → R.count i = f i) : PkAt w b { R with count := f } :=
  ⟨h.c_t, h.c_a, h.c_b, h.c_z, h.p_count, h.p_plan, h.p_code, h.p_wide, h.a_count.congr e, h.a_plan, h.a_code, h.a_wide, h.fz⟩
theorem bump_le (f : Nat → Nat) (a s : Nat) : bump f a s ≤ f s + 1 := by
  unfold bump upd; split
  · rename_i e; subst e; omega
  · omega
theorem tally1_le (f : Nat → Nat) (t : Tok) (s : Nat) : tally1 f t s ≤ f s + 2 := by
  unfold tally1; split
  · have := bump_le f t.lit s; omega
  · have := bump_le (bump f (254 + t.len)) (265 + distCode t.dist) s
    have := bump_le f (254 + t.len) s; omega
theorem cntF_le (ts : List Tok) : ∀ (f : Nat → Nat) (s : Nat), cntF f ts s ≤ f s + 2 * ts.length := by
  induction ts with
  | nil => intro f s; simp [cntF]
  | cons t ts ih =>
    intro f s
    have h1 := ih (tally1 f t) s
    have h2 := tally1_le f t s
    simp only [cntF, List.foldl_cons, List.length_cons] at *
    omega
theorem cnt0_le (s : Nat) : cnt0 s ≤ 1 := by
  unfold cnt0 upd; split
  · omega
  · exact Nat.zero_le _
theorem countsF_le (ts : List Tok) (s : Nat) : countsF ts s ≤ 1 + 2 * ts.length := by
  have := cntF_le ts cnt0 s; have := cnt0_le s; unfold countsF; omega
theorem cntF_take (f : Nat → Nat) (ts : List Tok) (k : Nat) (hk : k < ts.length) : cntF f (ts.take (k + 1)) = tally1 (cntF f (ts.take k)) (ts[k]'hk) := by
  rw [List.take_add_one, List.getElem?_eq_getElem hk]
  unfold cntF
  rw [List.foldl_append]; rfl
set_option maxRecDepth 100000 in
set_option maxHeartbeats 4000000 in
theorem tally_any {w : World} {b : Nat} {R : PkR} (h : PkAt w b R) {g cap : Nat} {ts : List Tok} (ht : Cel mkV w g 0 (ts.length * 3) (tokF ts)) (hgd : ¬ Rng b (b + 5) g) (hok : ∀ t ∈ ts, TokOK t) (hn : ts.length ≤ 256) :
    Calls Tryz.prog 87 #[ptrV b, .slice (some ⟨g, 0, none⟩) ts.length cap] w fun e w' => e = .returned (.tuple #[]) ∧ PkAt w' b { R with count := countsF ts } ∧ Fr (Rng b (b + 5)) w w' := by
  have H := hid h
  have HT := hid ht
  have HGD := hid hgd
  have HOK := hid hok
  have HN := hid hn
  obtain ⟨n, hnl⟩ : ∃ n, n = ts.length := ⟨_, rfl⟩
  rw [← hnl]
  have HNL := hid hnl
  have hni : (n : Int) ≤ 256 := by omega
  have s1 : Rng b (b + 5) (b + 1) := ⟨by omega, by omega⟩
  have HS1 := hid s1
  clear h ht hgd hok hn hnl s1
  refine calls_via fun K hK => ?_
  unfold ptrV
  go_enter Tryz.func87, Tryz.ntmps87
  go_wp2_with fail
  go_loopg [4] 273 (fun g i wr => ∃ k : Nat, i = .int .i64 (k : Nat) ∧ g + k = 273 ∧ PkAt wr b { R with count := fun j => if j < k then 0 else R.count j } ∧ Fr (Rng b (b + 5)) w wr)
  case atStart => exact ⟨0, rfl, by omega, H.out.congrC (fun i _ => by simp), Fr.refl _ _⟩
  case round =>
    obtain ⟨k, rfl, hg, hA, hf⟩ := hrel
    have c0 := hA.p_count
    have cf : ∀ i, wr.frozen? ⟨b + 1, i, none⟩ = false := hA.a_count.thaw
    have HA := hid hA
    have HF := hid hf
    by_cases hlt : k < 273
    · have hki : (k : Int) < 273 := by omega
      have cb := hA.a_count.cell k (by omega)
      simp only [mkN] at cb
      clear hA hf
      go_wp2_with fail
      go_roundg (gk - 1)
      case measure => omega
      case rel =>
        refine ⟨k + 1, by simp, by omega, (HA.out.set_count k 0).congrC fun i _ => ?_, HF.out.setS HS1.out _ _⟩
        unfold upd
        dsimp only
        by_cases e : i = k
        · subst e; simp
        · by_cases e2 : i < k
          · rw [if_neg e, if_pos e2, if_pos (by omega)]
          · rw [if_neg e, if_neg e2, if_neg (by omega)]
    · have hki : ¬ (k : Int) < 273 := by omega
      have hA0 : PkAt wr b { R with count := fun _ => 0 } := hA.congrC fun i hi => by dsimp only; rw [if_pos (by omega)]
      have cb := hA0.a_count.cell 256 (by omega)
      simp only [mkN] at cb
      have HA0 := hid (hA0.set_count 256 1)
      have HF0 := hid (hf.setS HS1.out 256 (.int .i64 1))
      clear hA hf hA0 HA HF
      go_wp2_with fail
      go_loopg [5] n (fun g i w2 => ∃ k : Nat, i = .int .i64 (k : Nat) ∧ g + k = n ∧ PkAt w2 b { R with count := cntF cnt0 (ts.take k) } ∧ Fr (Rng b (b + 5)) w w2)
      case atStart => exact ⟨0, rfl, by omega, HA0.out.congrC (fun i _ => rfl), HF0.out⟩
      case round =>
        obtain ⟨k, rfl, hg, hA, hf⟩ := hrel
        have c0 := hA.p_count
        have cf : ∀ i, wr.frozen? ⟨b + 1, i, none⟩ = false := hA.a_count.thaw
        have HG := hid hg
        by_cases hk : k < n
        · have hki : (k : Int) < n := by omega
          have hkl : k < ts.length := by rw [← HNL.out]; exact hk
          have hT := HT.out.fr hf HGD.out
          have htok := tokF_at (List.getElem?_eq_getElem hkl)
          have hok1 := HOK.out _ (List.getElem_mem hkl)
          have htk := cntF_take cnt0 ts k hkl
          have x0 := hT.at0 (k * 3) (by omega)
          have x1 := hT.at0 (k * 3 + 1) (by omega)
          have x2 := hT.at0 (k * 3 + 2) (by omega)
          simp only [mkV] at x0 x1 x2
          rw [htok.1] at x0
          rw [htok.2.1] at x1
          rw [htok.2.2] at x2
          simp only [mkN] at x0 x1 x2
          obtain ⟨t, htt⟩ : ∃ t, t = ts[k]'hkl := ⟨_, rfl⟩
          rw [← htt] at x0 x1 x2 hok1 htk
          have hfl : ∀ s, cntF cnt0 (ts.take k) s ≤ 513 := by
            intro s
            have h1 := cntF_le (ts.take k) cnt0 s
            have h2 := cnt0_le s
            have h3 : (ts.take k).length ≤ 256 := by rw [List.length_take]; have := HN.out; omega
            omega
          obtain ⟨f, hff⟩ : ∃ f, f = cntF cnt0 (ts.take k) := ⟨_, rfl⟩
          rw [← hff] at hfl hA htk
          have HA := hid hA
          have HF := hid hf
          have HTK := hid htk
          rcases hok1 with ⟨hl0, hlit⟩ | ⟨h3, h10, d1, d16⟩
          · rw [hl0] at x0
            obtain ⟨x, hx⟩ : ∃ x, x = t.lit := ⟨_, rfl⟩
            rw [← hx] at x2 hlit
            have cx := hA.a_count.cell x (by omega)
            simp only [mkN] at cx
            have hyl := hfl x
            obtain ⟨y, hy⟩ : ∃ y, y = f x := ⟨_, rfl⟩
            rw [← hy] at cx hyl
            have hxi : (x : Int) < 256 := by omega
            have hyi : (y : Int) ≤ 513 := by omega
            have HX := hid (And.intro hx (And.intro hy hl0))
            clear hA hf hT htok htk htt hfl hff hx hy hl0 x1 hkl hg hk
            go_wp2_with fail
            go_region
            go_wp2_with fail
            go_roundg (gk - 1)
            case measure => have := HG.out; omega
            case rel =>
              have h8 := (HA.out.set_count x (y + 1)).drew
              rw [Int.natCast_add] at h8
              have e : tally1 f t = upd f x (y + 1) := by
                unfold tally1 bump; rw [if_pos HX.out.2.2, ← HX.out.1, ← HX.out.2.1]
              refine ⟨k + 1, by simp, by have := HG.out; omega, ?_, (HF.out.setS HS1.out _ _).drew⟩
              rw [HTK.out, e]; exact h8
          · obtain ⟨ln, hln⟩ : ∃ x, x = t.len := ⟨_, rfl⟩
            obtain ⟨d, hd⟩ : ∃ x, x = t.dist := ⟨_, rfl⟩
            rw [← hln] at x0 h3 h10
            rw [← hd] at x1 d1 d16
            have hc8 := (dist_fits d1 d16).1
            have HDC := hid (fun w => distCode_any (w := w) d1 d16)
            have HLS := hid (fun w => lenSym_any (w := w) (n := ln) (by omega))
            obtain ⟨c, hc⟩ : ∃ c, c = distCode d := ⟨_, rfl⟩
            rw [← hc] at hc8 HDC
            obtain ⟨s1, hs1⟩ : ∃ s1, s1 = 254 + ln := ⟨_, rfl⟩
            rw [← hs1] at HLS
            have hs1l : s1 < 265 := by omega
            have ca := hA.a_count.cell s1 (by omega)
            have cb := hA.a_count.cell (265 + c) (by omega)
            simp only [mkN] at ca cb
            have hyl := hfl s1
            have hzl := hfl (265 + c)
            obtain ⟨y, hy⟩ : ∃ y, y = f s1 := ⟨_, rfl⟩
            obtain ⟨z, hz⟩ : ∃ y, y = f (265 + c) := ⟨_, rfl⟩
            rw [← hy] at ca hyl
            rw [← hz] at cb hzl
            have hs1i : (s1 : Int) < 265 := by omega
            have hci : (c : Int) < 8 := by omega
            have hyi : (y : Int) ≤ 513 := by omega
            have hzi : (z : Int) ≤ 513 := by omega
            have hlni : ((ln : Int) == 0) = false := by simp; omega
            have hne : ¬ s1 = 265 + c := by omega
            have hne2 : ¬ 265 + c = s1 := by omega
            have hgb : ¬ g = b + 1 := fun e => HGD.out (by rw [e]; exact HS1.out)
            have hgb2 : ¬ b + 1 = g := fun e => hgb e.symm
            have HX := hid (And.intro hs1 (And.intro hc (And.intro hy (And.intro hz (And.intro hln (And.intro hd (show t.len ≠ 0 by rw [← hln]; omega)))))))
            clear hA hf hT htok htk htt hfl hff hy hz hln hd x2 hkl hg hk hs1 hc d1 d16 h3 h10
            go_wp2_with (first
              | (go_at_call 118; refine (HLS.out _).mono ?_; rintro e w' ⟨rfl, hw⟩; have hw2 := hw.symm; subst hw2; clear hw)
              | (go_at_call 95; refine (HDC.out _).mono ?_; rintro e w' ⟨rfl, hw⟩; have hw2 := hw; subst hw2; clear hw))
            go_roundg (gk - 1)
            case measure => have := HG.out; omega
            case rel =>
              have h8 := (HA.out.set_count s1 (y + 1)).set_count (265 + c) (z + 1)
              rw [Int.natCast_add, Int.natCast_add] at h8
              obtain ⟨q1, q2, q3, q4, q5, q6, q7⟩ := HX.out
              have e : tally1 f t = upd (upd f s1 (y + 1)) (265 + c) (z + 1) := by
                unfold tally1 bump
                rw [if_neg q7, ← q5, ← q6, ← q1, ← q2, ← q3, upd_ne f _ _ _ hne2, ← q4]
              refine ⟨k + 1, by simp, by have := HG.out; omega, ?_, (HF.out.setS HS1.out _ _).setS HS1.out _ _⟩
              rw [HTK.out, e]; exact h8
        · have hki : ¬ (k : Int) < n := by omega
          have hkn : k = n := by omega
          subst hkn
          have hA2 : PkAt wr b { R with count := countsF ts } := by
            have e : ts.take k = ts := by rw [HNL.out]; exact List.take_of_length_le (Nat.le_refl _)
            rw [e] at hA; exact hA
          have HA2 := hid hA2
          have HF := hid hf
          clear hA hA2 hf hg
          go_wp2_with fail
          go_end0
          exact hK.out _ _ ⟨rfl, HA2.out, HF.out⟩
end Go.Proofs.Qxb6500353aGreat
