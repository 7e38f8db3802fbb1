/- THE WALKS over learn: shrink. -/
import Derived.Test.Qxb6500354aGreatLrn5
namespace Go.Proofs.Qxb6500354aGreat
open Go.RowKit
set_option linter.unusedVariables false
set_option linter.unusedSimpArgs false

theorem ints_one (w : World) (x : Int) (t : TypeId) : Ints (w.alloc (.cells #[.int .i64 x] t)) (.slice (some ⟨w.heap.size, 0, none⟩) 1 1) [x] := by
  refine .inr ⟨w.heap.size, 0, 1, rfl, fun i hi => ?_⟩
  have : i = 0 := by simp at hi; omega
  subst this
  exact (World.cell?_alloc_new _ _ _ 0).trans rfl
theorem OwnI.base {w : World} {base : Nat} {v : Value} {l : List Int} (h : OwnI w base v l) : ∀ g, v.ownBlock = some g → base ≤ g := by
  intro g e
  rcases h.2 with ⟨rfl, _⟩ | ⟨g, cap, cur, rfl, hg, _⟩
  · simp [Value.ownBlock] at e
  · simp [Value.ownBlock] at e; omega
theorem Fr.app {w w1 w2 : World} {base : Nat} {v : Value} {l : List Int} (h : Fr [] w w1) (hg : w1.grownBy w2 v.ownBlock) (ho : OwnI w1 base v l) (hb : w.heap.size ≤ base) : Fr [] w w2 :=
  h.grown hg (fun k hk hlt => absurd hlt (by have := ho.base k hk; omega))
theorem litOf_good (A : LearnS) {v : Nat} (h0 : 1 ≤ v) (h1 : v < 13) : A.litOf v = 0 ∨ (good (A.litOf v) = true ∧ (A.litOf v).natAbs = v) := by
  unfold LearnS.litOf
  split
  · right; rw [good_iff]; omega
  · split
    · right; rw [good_iff]; omega
    · left; rfl
theorem shrinkF_succ (W : WatchS) (T : TrailS) (a : LearnS) (asr : Int) (n v : Nat) (lits : List Int) (back : Int) : shrinkF W T a asr (n + 1) v lits back =
    if a.litOf v = asr then shrinkF W T a asr n (v + 1) (lits ++ [a.litOf v]) back
    else if a.litOf v ≠ 0 ∧ spareF W T a (a.litOf v) = false then shrinkF W T a asr n (v + 1) (lits ++ [a.litOf v]) (if back < T.level v then T.level v else back)
    else shrinkF W T a asr n (v + 1) lits back := rfl
/-- An int slice with no room behind it. -/
def TightV (v : Value) (n : Nat) : Prop := (v = .slice none 0 0 ∧ n = 0) ∨ ∃ g, v = .slice (some ⟨g, 0, none⟩) n n

theorem TightV.form {v : Value} {n : Nat} (h : TightV v n) : ∃ a m, v = .slice a m m := by
  rcases h with ⟨rfl, _⟩ | ⟨g, rfl⟩
  · exact ⟨none, 0, rfl⟩
  · exact ⟨_, n, rfl⟩
set_option maxRecDepth 100000 in
set_option maxHeartbeats 4000000 in
theorem shrink_any {w : World} {b tb wb : Nat} {A : LearnS} {W : WatchS} {T : TrailS} (h : LrnAt w b tb wb A) (hw : WatAt w wb tb W) (ht : TrlAt w tb T) (asr : Int) :
    Calls Tryz.prog 123 #[.pointer (some ⟨b, 0, none⟩), .int .i64 asr] w fun e w' => ∃ v, e = .returned (.agg #[.int .i64 0, v, .int .i64 asr, .int .i64 (shrinkF W T A asr 12 1 [] 0).2]) ∧
      OwnI w' w.heap.size v (shrinkF W T A asr 12 1 [] 0).1 ∧ TightV v (shrinkF W T A asr 12 1 [] 0).1.length ∧ (shrinkF W T A asr 12 1 [] 0).1.length ≤ 12 ∧ Fr [] w w' := by
  obtain ⟨res, hres⟩ : ∃ r, shrinkF W T A asr 12 1 [] 0 = r := ⟨_, rfl⟩
  rw [hres]
  have HA := hid h
  have HW := hid hw
  have HT := hid ht
  have HRES := hid hres
  clear h hw ht hres
  refine calls_via fun K hK => ?_
  go_enter Tryz.func123, Tryz.ntmps123
  obtain ⟨N, hN⟩ : ∃ N, w.heap.size = N := ⟨_, rfl⟩
  have hlearn := learnt_alloc w 153
  obtain ⟨w0, hw0⟩ : ∃ w0, w.alloc (Obj.cells #[.int .i64 0, .slice none 0 0, .int .i64 0, .int .i64 0] 153) = w0 := ⟨_, rfl⟩
  have hf0 : Fr [] w w0 := by rw [← hw0]; exact (Fr.refl _ _).alloc _
  have hs0 : w0.heap.size = N + 1 := by rw [← hw0]; simp [hN]
  rw [hw0, hN] at hlearn
  have HLE := hid hlearn
  have HF0 := hid hf0
  have HN := hid hN
  have HS0 := hid hs0
  have HW0 := hid hw0
  clear hlearn hf0 hs0
  go_wp2_with (first | (at_make; refine wp_mk0 rfl _ _ rfl 12 12 rfl rfl rfl (by omega) ?_; intro w1 ho1 hg1))
  rw [HS0.out] at ho1 ⊢
  have hf1 : Fr [] w0 w1 := Fr.ofGrown hg1
  have HO1 := hid ho1
  have HF1 := hid hf1
  have HG1 := hid hg1
  clear hg1 ho1 hf1 hw0 hN
  go_loopg [5, 6, 7] 12 (fun g s bk i wr => ∃ (lits : List Int) (back : Int), g ≤ 12 ∧ i = .int .i64 (13 - (g : Int)) ∧ bk = .int .i64 back ∧ res = shrinkF W T A asr g (13 - g) lits back ∧ OwnI wr (N + 1) s lits ∧ lits.length ≤ 12 - g ∧ Fr [] w0 wr)
  case atStart => exact ⟨[], 0, by omega, by simp, rfl, HRES.out.symm, HO1.out, by simp, HF1.out⟩
  case round =>
    obtain ⟨lits, back, hgn, rfl, rfl, he, ho, hlen, hf⟩ := hrel
    obtain ⟨s, hs⟩ : ∃ s, u5 = s := ⟨_, rfl⟩
    rw [hs] at ho ⊢
    clear hs
    have hfw := HF0.out.trans hf
    have hA := HA.out.fr hfw (by simp)
    have hw := HW.out.fr hfw (by simp)
    have ht := HT.out.fr hfw (by simp)
    have htp := hA.1.t
    change wr.cell? ⟨b, 0, none⟩ = some (.pointer (some ⟨tb, 0, none⟩)) at htp
    have hN0 : w.heap.size ≤ N + 1 := by rw [HN.out]; omega
    have hN1 : w0.heap.size ≤ N + 1 := by rw [HS0.out]; omega
    have hN2 : N + 1 ≤ wr.heap.size := by have := hf.size; rw [HS0.out] at this; exact this
    by_cases hlt : 0 < gk
    · obtain ⟨k, hk⟩ : ∃ k, k + 1 = gk := ⟨gk - 1, by omega⟩
      subst hk
      obtain ⟨v, hv⟩ : ∃ v, v = 12 - k := ⟨_, rfl⟩
      have hv1 : 1 ≤ v ∧ v < 13 := by omega
      have hvv : 13 - (k + 1) = v := by omega
      have hvi : 13 - ((k + 1 : Nat) : Int) = (v : Int) := by omega
      rw [hvv, shrinkF_succ] at he
      rw [hvi]
      have hv12 : (v : Int) ≤ 12 := by omega
      have hlg := litOf_good A hv1.1 hv1.2
      have HQ := hid (litOf_any hA v hv1.2)
      obtain ⟨q, hq⟩ : ∃ q, A.litOf v = q := ⟨_, rfl⟩
      rw [hq] at he HQ hlg
      have HSP : Hid (good q = true → _) := fun hg => spare_any hA hw ht q hg
      have HLV := hid (fun w h => levelOf_any (w := w) (b := tb) (T := T) h v hv1.1 hv1.2)
      obtain ⟨lv, hlv⟩ : ∃ lv, T.level v = lv := ⟨_, rfl⟩
      obtain ⟨sp, hsp⟩ : ∃ sp, spareF W T A q = sp := ⟨_, rfl⟩
      rw [hlv] at he HLV
      rw [hsp] at he HSP
      have HTR := hid ht
      have HAR := hid hA
      have HWR := hid hw
      have HF := hid hf
      have HO := hid ho
      have HLEN : Hid (lits.length ≤ 11 - k) := by show _ ≤ _; omega
      have HLG := hid hlg
      have HVK : Hid (v + 1 = 13 - k) := by show _ = _; omega
      have HVI : Hid ((v : Int) + 1 = 13 - (k : Int)) := by show _ = _; omega
      have HK12 : Hid (k ≤ 11) := by show _ ≤ _; omega
      clear hv hvv hvi hq hlv hsp ht hA hw hf ho hlen hlg hfw hgn
      by_cases hqa : q = asr
      · rw [if_pos hqa] at he
        have hb1 : (q == asr) = true := by simp [hqa]
        have HE := hid he
        clear he hqa
        go_wp2_with (first | (go_at_call 145; refine HQ.out.mono ?_; rintro e w' ⟨rfl, hw⟩; have hw2 := hw.symm; subst hw2; clear hw) | (at_builtin; refine wp_app rfl _ _ rfl (N + 1) s lits rfl (HO.out.alloc _) (.slice (some ⟨wr.heap.size, 0, none⟩) 1 1) [q] rfl (ints_one _ _ _) (by have := HLEN.out; simp; omega) (by simp; omega) ?_; intro v' w2 ho2 hg2 hnil2))
        have HO2 := hid ho2
        have hf2 : Fr [] w0 w2 := (HF.out.alloc _).app hg2 (HO.out.alloc _) hN1
        have HF2 := hid hf2
        clear ho2 hf2 hg2 hnil2
        go_roundg k
        case measure => omega
        case rel =>
          refine ⟨lits ++ [q], back, by have := HK12.out; omega, ?_, rfl, ?_, HO2.out, ?_, HF2.out⟩
          · rw [← HVI.out]
          · rw [← HVK.out]; exact HE.out
          · have := HLEN.out; simp; have := HK12.out; omega
      · rw [if_neg hqa] at he
        have hb1 : (q == asr) = false := by simp [hqa]
        by_cases hq0 : q = 0
        · rw [if_neg (fun z => z.1 hq0)] at he
          have hb2 : (q != 0) = false := by simp [hq0]
          have HE := hid he
          clear he hqa hq0
          go_wp2_with (first | (go_at_call 145; refine HQ.out.mono ?_; rintro e w' ⟨rfl, hw⟩; have hw2 := hw.symm; subst hw2; clear hw))
          go_roundg k
          case measure => omega
          case rel =>
            refine ⟨lits, back, by have := HK12.out; omega, ?_, rfl, ?_, HO.out, ?_, HF.out⟩
            · rw [← HVI.out]
            · rw [← HVK.out]; exact HE.out
            · have := HLEN.out; have := HK12.out; omega
        · have hgq : good q = true := (HLG.out.resolve_left hq0).1
          have hb2 : (q != 0) = true := by simp [hq0]
          have HSQ := hid (HSP.out hgq)
          cases hspv : sp with
          | true =>
            subst hspv
            rw [if_neg (fun z => by simp at z)] at he
            have HE := hid he
            clear he hqa hq0 hgq
            go_wp2_with (first | (go_at_call 145; refine HQ.out.mono ?_; rintro e w' ⟨rfl, hw⟩; have hw2 := hw.symm; subst hw2; clear hw) | (go_at_call 146; refine HSQ.out.mono ?_; rintro e w' ⟨rfl, hf'⟩))
            go_roundg k
            case measure => omega
            case rel =>
              have hsf : Fr [] wr w' := by assumption
              refine ⟨lits, back, by have := HK12.out; omega, ?_, rfl, ?_, HO.out.fr hsf (by simp), ?_, HF.out.trans hsf⟩
              · rw [← HVI.out]
              · rw [← HVK.out]; exact HE.out
              · have := HLEN.out; have := HK12.out; omega
          | false =>
            subst hspv
            rw [if_pos ⟨hq0, rfl⟩] at he
            by_cases hbl : back < lv
            · rw [if_pos hbl] at he
              have HE := hid he
              clear he hqa hq0 hgq
              go_wp2_with (first | (go_at_call 145; refine HQ.out.mono ?_; rintro e w' ⟨rfl, hw⟩; have hw2 := hw.symm; subst hw2; clear hw) | (go_at_call 146; refine HSQ.out.mono ?_; rintro e w' ⟨rfl, hf'⟩; have HF' := hid hf'; have HSZ : Hid (N + 1 ≤ w'.heap.size) := Nat.le_trans hN2 hf'.size; clear hf') | (at_builtin; refine wp_app rfl _ _ rfl (N + 1) s lits rfl ((HO.out.fr HF'.out (by simp)).alloc _) (.slice (some ⟨w'.heap.size, 0, none⟩) 1 1) [q] rfl (ints_one _ _ _) (by have := HLEN.out; simp; omega) (by have := HSZ.out; simp; omega) ?_; intro v' w2 ho2 hg2 hnil2; have hf2 : Fr [] w0 w2 := ((HF.out.trans HF'.out).alloc _).app hg2 ((HO.out.fr HF'.out (by simp)).alloc _) hN1; have htp2 := (HA.out.fr (HF0.out.trans hf2) (by simp)).1.t; change w2.cell? ⟨b, 0, none⟩ = some (.pointer (some ⟨tb, 0, none⟩)) at htp2; have HT2 : Hid (TrlAt w2 tb T) := HT.out.fr (HF0.out.trans hf2) (by simp); have HO2 := hid ho2; have HF2 := hid hf2; clear ho2 hg2 hnil2 hf2) | (go_at_call 125; refine (HLV.out _ HT2.out).mono ?_; rintro e w' ⟨rfl, hw⟩; have hw2 := hw.symm; subst hw2; clear hw))
              go_roundg k
              case measure => omega
              case rel =>
                refine ⟨lits ++ [q], lv, by have := HK12.out; omega, ?_, rfl, ?_, HO2.out, ?_, HF2.out⟩
                · rw [← HVI.out]
                · rw [← HVK.out]; exact HE.out
                · have := HLEN.out; simp; have := HK12.out; omega
            · rw [if_neg hbl] at he
              have HE := hid he
              clear he hqa hq0 hgq
              go_wp2_with (first | (go_at_call 145; refine HQ.out.mono ?_; rintro e w' ⟨rfl, hw⟩; have hw2 := hw.symm; subst hw2; clear hw) | (go_at_call 146; refine HSQ.out.mono ?_; rintro e w' ⟨rfl, hf'⟩; have HF' := hid hf'; have HSZ : Hid (N + 1 ≤ w'.heap.size) := Nat.le_trans hN2 hf'.size; clear hf') | (at_builtin; refine wp_app rfl _ _ rfl (N + 1) s lits rfl ((HO.out.fr HF'.out (by simp)).alloc _) (.slice (some ⟨w'.heap.size, 0, none⟩) 1 1) [q] rfl (ints_one _ _ _) (by have := HLEN.out; simp; omega) (by have := HSZ.out; simp; omega) ?_; intro v' w2 ho2 hg2 hnil2; have hf2 : Fr [] w0 w2 := ((HF.out.trans HF'.out).alloc _).app hg2 ((HO.out.fr HF'.out (by simp)).alloc _) hN1; have htp2 := (HA.out.fr (HF0.out.trans hf2) (by simp)).1.t; change w2.cell? ⟨b, 0, none⟩ = some (.pointer (some ⟨tb, 0, none⟩)) at htp2; have HT2 : Hid (TrlAt w2 tb T) := HT.out.fr (HF0.out.trans hf2) (by simp); have HO2 := hid ho2; have HF2 := hid hf2; clear ho2 hg2 hnil2 hf2) | (go_at_call 125; refine (HLV.out _ HT2.out).mono ?_; rintro e w' ⟨rfl, hw⟩; have hw2 := hw.symm; subst hw2; clear hw))
              go_roundg k
              case measure => omega
              case rel =>
                refine ⟨lits ++ [q], back, by have := HK12.out; omega, ?_, rfl, ?_, HO2.out, ?_, HF2.out⟩
                · rw [← HVI.out]
                · rw [← HVK.out]; exact HE.out
                · have := HLEN.out; simp; have := HK12.out; omega
    · have hg0 : gk = 0 := by omega
      subst hg0
      have HE : Hid (res = (lits, back)) := he
      have hl12 : lits.length ≤ 12 := by omega
      have HCP := hid (copyInts_any ho.ints (by omega))
      have HF := hid hf
      have hbi : N + 1 ≤ wr.heap.size := hN2
      clear he hA hw ht hfw ho hgn hlen
      go_wp2_with fail
      refine HCP.out.mono ?_
      rintro e w2 ⟨v', rfl, ho2, htight, hf2⟩
      have hle := HLE.out.fr (HF.out.trans hf2) (by simp)
      have c0 := hle.c0
      have c1 := hle.c1
      have c2 := hle.c2
      have c3 := hle.c3
      have fz := hle.fz
      obtain ⟨a', n', hv'⟩ := TightV.form (show TightV v' lits.length from htight.imp (fun z => ⟨z.1, by rw [z.2]; rfl⟩) id)
      have HTI : Hid (TightV v' lits.length) := htight.imp (fun z => ⟨z.1, by rw [z.2]; rfl⟩) id
      subst hv'
      have HO2 := hid ho2
      have HF2 := hid hf2
      clear ho2 htight hf2 hle
      go_wp2_with fail
      try simp only [Exit.inBlock, Exit.then]
      refine bodyPost_ret (v := .agg #[.int .i64 0, .slice a' n' n', .int .i64 asr, .int .i64 back]) (by simp [results, Tryz.results123, go_sem, cellSet, c0, c1, c2, c3]) rfl ?_
      have hNs : ¬ N < w.heap.size := by rw [HN.out]; omega
      have hNb : ∀ g, (Value.slice a' n' n').ownBlock = some g → g ≠ N := fun g hg e => by have := HO2.out.base g hg; omega
      refine hK.out _ _ ⟨_, by rw [HE.out], ?_, ?_, by rw [HE.out]; exact hl12, ?_⟩
      · rw [HE.out]
        refine ((HO2.out.mono (base2 := w.heap.size) (by rw [HN.out]; omega)).fr (S := [N]) (w2 := _) ?_ (fun g hg hm => hNb g hg (by simpa using hm)))
        exact ((((Fr.refl [N] w2).set (by simp) _).set (by simp) _).set (by simp) _).set (by simp) _
      · rw [HE.out]; exact HTI.out
      · have h1 := (HF0.out.trans HF.out).trans HF2.out
        exact (((h1.set (fun q => absurd q hNs) _).set (fun q => absurd q hNs) _).set (fun q => absurd q hNs) _).set (fun q => absurd q hNs) _
end Go.Proofs.Qxb6500354aGreat
