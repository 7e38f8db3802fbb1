/- The matcher: lazy, walked. -/
import Derived.Test.Qxb6500353aGreatLzd
namespace Go.Proofs.Qxb6500353aGreat
open Go.RowKit
set_option linter.unusedVariables false
set_option linter.unusedSimpArgs false

theorem take2_no {s : List Nat} {i : Nat} (h : 0 < (bestF s i).1 ∧ (bestF s i).1 < 10 ∧ (bestF s i).1 < (bestF s (i + 1)).1) : takeF s 2 i = (0, 0) := by
  unfold takeF; rw [if_neg (by omega), if_pos ⟨rfl, h⟩]
theorem take2_yes {s : List Nat} {i : Nat} (h : ¬ (0 < (bestF s i).1 ∧ (bestF s i).1 < 10 ∧ (bestF s i).1 < (bestF s (i + 1)).1)) : takeF s 2 i = bestF s i := by
  unfold takeF; rw [if_neg (by omega), if_neg (fun q => h q.2)]
set_option maxRecDepth 100000 in
set_option maxHeartbeats 4000000 in
theorem lazy_any {w : World} {b : Nat} {R : MtR} (h : MtAt w b R) {s : ByteArray} (hs : s.size ≤ 256) (h0 : R.n = 0) (hc : Chains (bytesOf s) 0 R.head R.prev) : Calls Tryz.prog 117 #[ptrV b, .string s] w fun e w' => e = .returned (.tuple #[]) ∧ (∃ R', MtAt w' b R' ∧ R'.n = (parseP (bytesOf s) 2 0).length ∧ TokRow R'.toks (parseP (bytesOf s) 2 0)) ∧ Fr (Rng b (b + 4)) w w' := by
  have H0 := hid h0
  have HC := hid hc
  have hsi : (s.size : Int) ≤ 256 := by omega
  have HK0 := hid (mtseek_any h (s := s) (i := 0) (by omega) (by omega) hc)
  clear h h0 hc
  refine calls_via fun K hK => ?_
  unfold ptrV at HK0 ⊢
  go_enter Tryz.func117, Tryz.ntmps117
  go_wp2_with (go_at_call 146; refine HK0.out.mono ?_; rintro e w2 ⟨rfl, ⟨pr, h2⟩, hf2⟩; have H2 := hid h2; have HF2 := hid hf2; clear h2 hf2)
  go_loopg [4, 5, 6] s.size (fun g v nv dv wr => ∃ (k : Nat) (R2 : MtR) (ts : List Tok), v = .int .i64 (k : Nat) ∧ g + k = s.size ∧ nv = .int .i64 ((bestF (bytesOf s) k).1 : Nat) ∧ dv = .int .i64 ((bestF (bytesOf s) k).2 : Nat) ∧ MtAt wr b R2 ∧ MtS (bytesOf s) 2 k R2 ts ∧ Chains (bytesOf s) k R2.head R2.prev ∧ Fr (Rng b (b + 4)) w wr)
  case atStart => exact ⟨0, _, [], rfl, by omega, rfl, rfl, H2.out, ⟨H0.out, TokRow.nil _, rfl, by simp⟩, HC.out, HF2.out⟩
  case round =>
    obtain ⟨k, R2, ts, rfl, hg, rfl, rfl, hA, hS, hC, hf⟩ := hrel
    have HS := hid hS
    have HG := hid hg
    obtain ⟨n, hn⟩ : ∃ n, n = (bestF (bytesOf s) k).1 := ⟨_, rfl⟩
    obtain ⟨d, hd⟩ : ∃ n, n = (bestF (bytesOf s) k).2 := ⟨_, rfl⟩
    have hgk : gk ≤ s.size := by omega
    obtain ⟨hn10, hd16, hkn, hbe⟩ := best_facts (by rw [bytesOf_len]; omega) hn hd
    rw [bytesOf_len] at hkn
    have HN := hid hn
    rw [← hn, ← hd]
    have hni : (n : Int) ≤ 10 := by omega
    have hdi : (d : Int) ≤ 16 := by omega
    by_cases hlt : k < s.size
    · have hki : (k : Int) < s.size := by omega
      have hkni : (k : Int) + n ≤ s.size := by omega
      have b1 := byteI s hlt
      have h1 := byS_lt s k
      have HBE := hid hbe
      have hts : ts.length < 256 := by have := hS.le; omega
      have HTS := hid hts
      obtain ⟨x, hx⟩ : ∃ x, x = by_ (bytesOf s) k := ⟨_, rfl⟩
      rw [← hx] at b1 h1
      have HX := hid hx
      have H1 := hid h1
      have hke := enter_any hA (s := s) (p := k) (by omega) (by omega)
      unfold ptrV at hke
      have HKE := hid hke
      have HC1 := hid (chains_enterF hC)
      have HS1 := hid (hS.cong (enterF_n (bytesOf s) k R2).1 (enterF_n (bytesOf s) k R2).2)
      have HF := hid hf
      have HNN := hid (And.intro hn10 (And.intro hd16 hkn))
      obtain ⟨R3, hR3⟩ : ∃ R3, R3 = enterF (bytesOf s) k R2 := ⟨_, rfl⟩
      rw [← hR3] at HKE HC1 HS1
      have HTN := hid (show R3.n < 256 by rw [HS1.out.n]; exact hts)
      clear hA hf hS hC hx hg hn hd hbe hke hts h1 hn10 hd16 hkn HS hR3 hgk
      by_cases hn0 : n = 0
      · subst hn0
        go_wp2_with (go_at_call 149; refine HKE.out.mono ?_; rintro e w3 ⟨rfl, h3, hf3⟩; have H3 := hid h3; have HF3 := hid (HF.out.trans2 hf3 (fun x hx _ => hx)); clear h3 hf3)
        have HL := hid (lit_any H3.out H1.out HTN.out)
        unfold ptrV at HL
        refine HL.out.mono ?_
        rintro e w4 ⟨rfl, h4, hf4⟩
        have H4 := hid h4
        have HF4 := hid (HF3.out.trans2 hf4 (fun x hx _ => hx))
        have HE := hid (mtseek_any h4 (s := s) (i := k + 1) (by omega) (by omega) HC1.out)
        unfold ptrV at HE
        clear h4 hf4
        go_wp2_with fail
        refine HE.out.mono ?_
        rintro e w5 ⟨rfl, ⟨pr5, h5⟩, hf5⟩
        have H5 := hid h5
        have HF5 := hid (HF4.out.trans2 hf5 (fun x hx _ => hx))
        clear h5 hf5
        go_wp2_with fail
        go_roundg (gk - 1)
        case measure => have := HG.out; omega
        case rel =>
          refine ⟨k + 1, _, ts ++ [⟨0, 0, x⟩], by simp, by have := HG.out; omega, rfl, rfl, H5.out, ?_, HC1.out, HF5.out⟩
          have h8 := HS1.out.lit (by rw [bytesOf_len]; exact hlt) (by rw [take2_yes (by rw [HBE.out]; simp), HBE.out])
          rw [← HX.out] at h8
          exact h8.cong rfl rfl
      · have hn0i : ((n : Int) == 0) = false := by simp; omega
        have HN0 := hid hn0
        have DUP : Hid (∀ (w3 : World) (R4 : MtR), R4.n = R3.n → R4.toks = R3.toks → R4.head = R3.head → R4.prev = R3.prev → MtAt w3 b R4 → Fr (Rng b (b + 4)) w w3 → takeF (bytesOf s) 2 k = (n, d) →
            Calls Tryz.prog 147 #[.pointer (some ⟨b, 0, none⟩), .int .i64 n, .int .i64 d] w3 fun e w4 => e = .returned (.tuple #[]) ∧ Fr (Rng b (b + 4)) w w4 ∧ 
              Calls Tryz.prog 148 #[.pointer (some ⟨b, 0, none⟩), .string s, .int .i64 ((k : Int) + 1), .int .i64 ((k : Int) + n)] w4 fun e w5 => e = .returned (.tuple #[]) ∧ Fr (Rng b (b + 4)) w w5 ∧
                Calls Tryz.prog 146 #[.pointer (some ⟨b, 0, none⟩), .string s, .int .i64 ((k : Int) + n)] w5 fun e w6 => e = .returned (.tuple #[.int .i64 ((bestF (bytesOf s) (k + n)).1 : Nat), .int .i64 ((bestF (bytesOf s) (k + n)).2 : Nat)]) ∧ Fr (Rng b (b + 4)) w w6 ∧
                  ∃ R7, MtAt w6 b R7 ∧ MtS (bytesOf s) 2 (k + n) R7 (ts ++ [⟨n, d, 0⟩]) ∧ Chains (bytesOf s) (k + n) R7.head R7.prev) := hid (by
          intro w3 R4 e1 e2 e3 e4 h3 hf3 htk
          have hN := HNN.out
          have hn0 := HN0.out
          refine (dup_any h3 (n2 := n) (d := d) (by omega) (by omega) (by rw [e1]; exact HTN.out)).mono ?_
          rintro e w4 ⟨rfl, h4, hf4⟩
          have hf4 := hf3.trans2 hf4 (fun x hx _ => hx)
          refine ⟨rfl, hf4, ?_⟩
          have h5 := enterAll_any h4 (s := s) (i := k + 1) (n := n - 1) (by omega) (by omega)
          rw [show k + 1 + (n - 1) = k + n by omega, Int.natCast_add, Int.natCast_add] at h5
          refine h5.mono ?_
          rintro e w5 ⟨rfl, h5, hf5⟩
          have hf5 := hf4.trans2 hf5 (fun x hx _ => hx)
          refine ⟨rfl, hf5, ?_⟩
          have hc5 : Chains (bytesOf s) (k + n) (enterS (bytesOf s) (k + 1) (putT R4 ⟨n, d, 0⟩) (n - 1)).head (enterS (bytesOf s) (k + 1) (putT R4 ⟨n, d, 0⟩) (n - 1)).prev := by
            have h9 := chains_enterS (s := bytesOf s) (i := k + 1) (R := putT R4 ⟨n, d, 0⟩) (by show Chains _ _ R4.head R4.prev; rw [e3, e4]; exact HC1.out) (n - 1)
            rw [show k + 1 + (n - 1) = k + n by omega] at h9
            exact h9
          have h6 := mtseek_any h5 (s := s) (i := k + n) (by omega) (by omega) hc5
          rw [Int.natCast_add] at h6
          refine h6.mono ?_
          rintro e w6 ⟨rfl, ⟨pr6, h6⟩, hf6⟩
          refine ⟨rfl, hf5.trans2 hf6 (fun x hx _ => hx), _, h6, ?_, hc5⟩
          have h8 := (HS1.out.cong e1 e2).dup (by rw [bytesOf_len]; exact hlt) htk hn0
          have e := enterS_n (bytesOf s) (k + 1) (putT R4 ⟨n, d, 0⟩) (n - 1)
          exact h8.cong e.1 e.2)
        by_cases hn10 : n < 10
        · have hn10i : (n : Int) < 10 := by omega
          go_wp2_with (go_at_call 149; refine HKE.out.mono ?_; rintro e w3 ⟨rfl, h3, hf3⟩; have H3 := hid h3; have HF3 := hid (HF.out.trans2 hf3 (fun x hx _ => hx)); clear h3 hf3)
          obtain ⟨on, hon⟩ : ∃ n, n = (bestF (bytesOf s) (k + 1)).1 := ⟨_, rfl⟩
          obtain ⟨od, hod⟩ : ∃ n, n = (bestF (bytesOf s) (k + 1)).2 := ⟨_, rfl⟩
          have HE := hid (mtseek_any H3.out (s := s) (i := k + 1) (by omega) (by omega) HC1.out)
          rw [← hon, ← hod] at HE
          have hbf := best_facts (by rw [bytesOf_len]; omega) hon hod
          have honi : (on : Int) ≤ 10 := by omega
          have hodi : (od : Int) ≤ 16 := by omega
          have HON := hid (And.intro hon hod)
          unfold ptrV at HE
          clear hon hod hbf
          refine HE.out.mono ?_
          rintro e w4 ⟨rfl, ⟨pr4, h4⟩, hf4⟩
          have H4 := hid h4
          have HF4 := hid (HF3.out.trans2 hf4 (fun x hx _ => hx))
          clear h4 hf4
          by_cases hlater : n < on
          · have hlateri : (n : Int) < on := by omega
            have HLT := hid hlater
            go_wp2_with fail
            have HL := hid (lit_any H4.out H1.out HTN.out)
            unfold ptrV at HL
            refine HL.out.mono ?_
            rintro e w5 ⟨rfl, h5, hf5⟩
            have H5 := hid h5
            have HF5 := hid (HF4.out.trans2 hf5 (fun x hx _ => hx))
            clear h5 hf5
            go_wp2_with fail
            go_roundg (gk - 1)
            case measure => have := HG.out; omega
            case rel =>
              refine ⟨k + 1, _, ts ++ [⟨0, 0, x⟩], by simp, by have := HG.out; omega, by rw [HON.out.1], by rw [HON.out.2], H5.out, ?_, HC1.out, HF5.out⟩
              have h8 := HS1.out.lit (by rw [bytesOf_len]; exact hlt) (by rw [take2_no (by rw [HBE.out, ← HON.out.1]; exact ⟨by have := HN0.out; omega, hn10, hlater⟩)])
              rw [← HX.out] at h8
              exact MtS.cong (R := putT R3 ⟨0, 0, x⟩) h8 rfl rfl
          · have hlateri : ¬ (n : Int) < on := by omega
            have HTK := hid (show takeF (bytesOf s) 2 k = (n, d) by rw [take2_yes (by rw [HBE.out, ← HON.out.1]; intro q; exact hlater q.2.2), HBE.out])
            have HD := hid (DUP.out w4 { R3 with probes := pr4 } rfl rfl rfl rfl H4.out HF4.out HTK.out)
            go_wp2_with fail
            refine HD.out.mono ?_
            rintro e w5 ⟨rfl, hf5, h5⟩
            have HD5 := hid h5
            clear h5 hf5
            go_wp2_with fail
            refine HD5.out.mono ?_
            rintro e w6 ⟨rfl, hf6, h6⟩
            have HD6 := hid h6
            clear h6 hf6
            go_wp2_with fail
            refine HD6.out.mono ?_
            rintro e w7 ⟨rfl, hf7, R7, h7, hs7, hc7⟩
            have HD7 := hid (And.intro h7 (And.intro hs7 (And.intro hc7 hf7)))
            clear h7 hs7 hc7 hf7
            go_wp2_with fail
            go_roundg (gk - n)
            case measure => have := HG.out; have := HN0.out; omega
            case rel => exact ⟨k + n, _, ts ++ [⟨n, d, 0⟩], by simp, by have := HG.out; have := HNN.out; omega, rfl, rfl, HD7.out.1, HD7.out.2.1, HD7.out.2.2.1, HD7.out.2.2.2⟩
        · have hn10i : ¬ (n : Int) < 10 := by omega
          have hl0 : ¬ (n : Int) < 0 := by omega
          go_wp2_with (go_at_call 149; refine HKE.out.mono ?_; rintro e w3 ⟨rfl, h3, hf3⟩; have H3 := hid h3; have HF3 := hid (HF.out.trans2 hf3 (fun x hx _ => hx)); clear h3 hf3)
          have HTK := hid (show takeF (bytesOf s) 2 k = (n, d) by rw [take2_yes (by rw [HBE.out]; intro q; exact hn10 q.2.1), HBE.out])
          have HD := hid (DUP.out w3 _ rfl rfl rfl rfl H3.out HF3.out HTK.out)
          refine HD.out.mono ?_
          rintro e w5 ⟨rfl, hf5, h5⟩
          have HD5 := hid h5
          clear h5 hf5
          go_wp2_with fail
          refine HD5.out.mono ?_
          rintro e w6 ⟨rfl, hf6, h6⟩
          have HD6 := hid h6
          clear h6 hf6
          go_wp2_with fail
          refine HD6.out.mono ?_
          rintro e w7 ⟨rfl, hf7, R7, h7, hs7, hc7⟩
          have HD7 := hid (And.intro h7 (And.intro hs7 (And.intro hc7 hf7)))
          clear h7 hs7 hc7 hf7
          go_wp2_with fail
          go_roundg (gk - n)
          case measure => have := HG.out; have := HN0.out; omega
          case rel => exact ⟨k + n, _, ts ++ [⟨n, d, 0⟩], by simp, by have := HG.out; have := HNN.out; omega, rfl, rfl, HD7.out.1, HD7.out.2.1, HD7.out.2.2.1, HD7.out.2.2.2⟩
    · have hki : ¬ (k : Int) < s.size := by omega
      have HA := hid hA
      have HF := hid hf
      have he := hS.fin (by rw [bytesOf_len]; omega)
      have HE := hid he
      clear hA hf hS hg he hC hn hd hbe
      go_wp2_with fail
      go_end0
      refine hK.out _ _ ⟨rfl, ⟨R2, HA.out, ?_, ?_⟩, HF.out⟩
      · rw [← HE.out]; exact HS.out.n
      · rw [← HE.out]; exact HS.out.row
end Go.Proofs.Qxb6500353aGreat
