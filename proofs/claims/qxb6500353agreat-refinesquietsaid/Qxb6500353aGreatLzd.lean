/- The matcher: greedy, lazy, walked. -/
import Derived.Test.Qxb6500353aGreatLzb
import Derived.Test.Qxb6500353aGreatLzc
namespace Go.Proofs.Qxb6500353aGreat
open Go.RowKit
set_option linter.unusedVariables false
set_option linter.unusedSimpArgs false

theorem enterF_n (s : List Nat) (p : Nat) (R : MtR) : (enterF s p R).n = R.n ∧ (enterF s p R).toks = R.toks := by unfold enterF; split <;> exact ⟨rfl, rfl⟩
theorem enterS_n (s : List Nat) (i : Nat) (R : MtR) (k : Nat) : (enterS s i R k).n = R.n ∧ (enterS s i R k).toks = R.toks := by
  induction k with
  | zero => exact ⟨rfl, rfl⟩
  | succ k ih => rw [enterS]; have := enterF_n s (i + k) (enterS s i R k); rw [this.1, this.2]; exact ih
theorem chains_enterF {s : List Nat} {i : Nat} {R : MtR} (h : Chains s i R.head R.prev) : Chains s (i + 1) (enterF s i R).head (enterF s i R).prev := by
  unfold enterF
  by_cases h3 : i + 3 ≤ s.length
  · rw [if_pos h3]; exact h.enter h3
  · rw [if_neg h3]; exact h.skip (by omega)
theorem chains_enterS {s : List Nat} {i : Nat} {R : MtR} (h : Chains s i R.head R.prev) (k : Nat) : Chains s (i + k) (enterS s i R k).head (enterS s i R k).prev := by
  induction k with
  | zero => exact h
  | succ k ih => exact chains_enterF ih
theorem MtS.cong {s : List Nat} {lv i : Nat} {R R2 : MtR} {ts : List Tok} (h : MtS s lv i R ts) (hn : R2.n = R.n) (ht : R2.toks = R.toks) : MtS s lv i R2 ts := ⟨hn.trans h.n, by rw [ht]; exact h.row, h.eq, h.le⟩
theorem best_facts {s : List Nat} {i n d : Nat} (hi : i ≤ s.length) (hn : n = (bestF s i).1) (hd : d = (bestF s i).2) : n ≤ 10 ∧ d ≤ 16 ∧ i + n ≤ s.length ∧ bestF s i = (n, d) := by
  subst hn hd
  rcases bestF_spec s i with h | ⟨a, b, c, e, f, g⟩
  · rw [h]; exact ⟨by simp, by simp, by simpa using hi, rfl⟩
  · have := agF_len s i (bestF s i).2 hi
    exact ⟨b, e, by omega, rfl⟩
theorem take1 (s : List Nat) (i : Nat) : takeF s 1 i = bestF s i := by unfold takeF; rw [if_neg (by omega), if_neg (by omega)]
set_option maxRecDepth 100000 in
set_option maxHeartbeats 2000000 in
theorem greedy_any {w : World} {b : Nat} {R : MtR} (h : MtAt w b R) {s : ByteArray} (hs : s.size ≤ 256) (h0 : R.n = 0) (hc : Chains (bytesOf s) 0 R.head R.prev) : Calls Tryz.prog 116 #[ptrV b, .string s] w fun e w' => e = .returned (.tuple #[]) ∧ (∃ R', MtAt w' b R' ∧ R'.n = (parseP (bytesOf s) 1 0).length ∧ TokRow R'.toks (parseP (bytesOf s) 1 0)) ∧ Fr (Rng b (b + 4)) w w' := by
  have H := hid h
  have H0 := hid h0
  have HC := hid hc
  have hsi : (s.size : Int) ≤ 256 := by omega
  clear h h0 hc
  refine calls_via fun K hK => ?_
  unfold ptrV
  go_enter Tryz.func116, Tryz.ntmps116
  go_wp2_with fail
  go_loopg [4] s.size (fun g v wr => ∃ (k : Nat) (R2 : MtR) (ts : List Tok), v = .int .i64 (k : Nat) ∧ g + k = s.size ∧ MtAt wr b R2 ∧ MtS (bytesOf s) 1 k R2 ts ∧ Chains (bytesOf s) k R2.head R2.prev ∧ Fr (Rng b (b + 4)) w wr)
  case atStart => exact ⟨0, R, [], rfl, by omega, H.out, ⟨H0.out, TokRow.nil _, rfl, by simp⟩, HC.out, Fr.refl _ _⟩
  case round =>
    obtain ⟨k, R2, ts, rfl, hg, hA, hS, hC, hf⟩ := hrel
    have HS := hid hS
    have HF := hid hf
    have HG := hid hg
    by_cases hlt : k < s.size
    · have hki : (k : Int) < s.size := by omega
      have b1 := byteI s hlt
      have h1 := byS_lt s k
      have hk := mtseek_any hA (s := s) (i := k) (by omega) (by omega) hC
      obtain ⟨n, hn⟩ : ∃ n, n = (bestF (bytesOf s) k).1 := ⟨_, rfl⟩
      obtain ⟨d, hd⟩ : ∃ n, n = (bestF (bytesOf s) k).2 := ⟨_, rfl⟩
      obtain ⟨hn10, hd16, hkn, hbe⟩ := best_facts (by rw [bytesOf_len]; omega) hn hd
      rw [bytesOf_len] at hkn
      rw [← hn, ← hd] at hk
      have hni : (n : Int) ≤ 10 := by omega
      have hdi : (d : Int) ≤ 16 := by omega
      have hkni : (k : Int) + n ≤ s.size := by omega
      have HBE := hid hbe
      have HC2 := hid hC
      have hts : ts.length < 256 := by have := hS.le; omega
      have HTS := hid hts
      obtain ⟨x, hx⟩ : ∃ x, x = by_ (bytesOf s) k := ⟨_, rfl⟩
      rw [← hx] at b1 h1
      have HX := hid hx
      have H1 := hid h1
      unfold ptrV at hk
      have HKK := hid hk
      by_cases hn0 : n = 0
      · subst hn0
        clear hA hf hS hC hx hg hn hd hbe hk hts h1 hn10 hd16 hkn
        go_wp2_with (go_at_call 146; refine HKK.out.mono ?_; rintro e w2 ⟨rfl, ⟨pr, h2⟩, hf2⟩; have H2 := hid h2; have HF2 := hid (HF.out.trans2 hf2 (fun x hx _ => hx)); clear h2 hf2)
        have HL := hid (lit_any H2.out H1.out (by show R2.n < 256; rw [HS.out.n]; exact HTS.out))
        unfold ptrV at HL
        refine HL.out.mono ?_
        rintro e w3 ⟨rfl, h3, hf3⟩
        have H3 := hid h3
        have HF3 := hid (HF2.out.trans2 hf3 (fun x hx _ => hx))
        have HE := hid (enterAll_any h3 (s := s) (i := k) (n := 1) (by omega) (by omega))
        unfold ptrV at HE
        clear h3 hf3
        go_wp2_with fail
        refine HE.out.mono ?_
        rintro e w4 ⟨rfl, h4, hf4⟩
        have H4 := hid h4
        have HF4 := hid (HF3.out.trans2 hf4 (fun x hx _ => hx))
        clear h4 hf4
        go_wp2_with fail
        go_roundg (gk - 1)
        case measure => have := HG.out; omega
        case rel =>
          refine ⟨k + 1, _, ts ++ [⟨0, 0, x⟩], by simp, by have := HG.out; omega, H4.out, ?_, ?_, HF4.out⟩
          · have e := enterS_n (bytesOf s) k (putT { R2 with probes := pr } ⟨0, 0, x⟩) 1
            refine MtS.cong ?_ e.1 e.2
            rw [HX.out]
            exact (HS.out.cong (R2 := { R2 with probes := pr }) rfl rfl).lit (by rw [bytesOf_len]; exact hlt) (by rw [take1, HBE.out])
          · exact chains_enterS (R := putT { R2 with probes := pr } ⟨0, 0, x⟩) HC2.out 1
      · have hn0i : ((n : Int) == 0) = false := by simp; omega
        clear hA hf hS hC hx hg hn hd hbe hk hts h1
        have HN0 := hid (And.intro hn0 (And.intro hn10 (And.intro hd16 hkn)))
        clear hn0 hn10 hd16 hkn
        go_wp2_with (go_at_call 146; refine HKK.out.mono ?_; rintro e w2 ⟨rfl, ⟨pr, h2⟩, hf2⟩; have H2 := hid h2; have HF2 := hid (HF.out.trans2 hf2 (fun x hx _ => hx)); clear h2 hf2)
        have HL := hid (dup_any H2.out (n2 := n) (d := d) (by have := HN0.out; omega) (by have := HN0.out; omega) (by show R2.n < 256; rw [HS.out.n]; exact HTS.out))
        unfold ptrV at HL
        refine HL.out.mono ?_
        rintro e w3 ⟨rfl, h3, hf3⟩
        have H3 := hid h3
        have HF3 := hid (HF2.out.trans2 hf3 (fun x hx _ => hx))
        have HE := hid (enterAll_any h3 (s := s) (i := k) (n := n) (by omega) (by have := HN0.out; omega))
        unfold ptrV at HE
        clear h3 hf3
        go_wp2_with fail
        refine HE.out.mono ?_
        rintro e w4 ⟨rfl, h4, hf4⟩
        have H4 := hid h4
        have HF4 := hid (HF3.out.trans2 hf4 (fun x hx _ => hx))
        clear h4 hf4
        go_wp2_with fail
        go_roundg (gk - n)
        case measure => have := HG.out; have := HN0.out; omega
        case rel =>
          refine ⟨k + n, _, ts ++ [⟨n, d, 0⟩], by simp, by have := HG.out; have := HN0.out; omega, H4.out, ?_, ?_, HF4.out⟩
          · have e := enterS_n (bytesOf s) k (putT { R2 with probes := pr } ⟨n, d, 0⟩) n
            refine MtS.cong ?_ e.1 e.2
            exact (HS.out.cong (R2 := { R2 with probes := pr }) rfl rfl).dup (by rw [bytesOf_len]; exact hlt) (by rw [take1, HBE.out]) HN0.out.1
          · exact chains_enterS (R := putT { R2 with probes := pr } ⟨n, d, 0⟩) HC2.out n
    · have hki : ¬ (k : Int) < s.size := by omega
      have HA := hid hA
      have he := hS.fin (by rw [bytesOf_len]; omega)
      have HE := hid he
      clear hA hf hS hg he hC
      go_wp2_with fail
      go_end0
      refine hK.out _ _ ⟨rfl, ⟨R2, HA.out, ?_, ?_⟩, HF.out⟩
      · rw [← HE.out]; exact HS.out.n
      · rw [← HE.out]; exact HS.out.row
end Go.Proofs.Qxb6500353aGreat
