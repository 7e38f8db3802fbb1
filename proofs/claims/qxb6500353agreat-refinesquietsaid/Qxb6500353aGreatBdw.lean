/- Build of the real coder, walked. -/
import Derived.Test.Qxb6500353aGreatLyw
import Derived.Test.Qxb6500353aGreatBdl
import Derived.Deep.DeepCutAuto
import Derived.Deep.Cut
namespace Go.Proofs.Qxb6500353aGreat
open Go.RowKit
set_option linter.unusedVariables false
set_option linter.unusedSimpArgs false

theorem arr_zero11 (w : World) : Arr 197 mkN (w.alloc (Obj.cells #[.int .i64 0, .int .i64 0, .int .i64 0, .int .i64 0, .int .i64 0, .int .i64 0, .int .i64 0, .int .i64 0, .int .i64 0, .int .i64 0, .int .i64 0] 197)) w.heap.size 11 (fun _ => 0) := by
  refine ⟨_, heap_alloc_new w _, rfl, fun i hi => ?_⟩
  have : i = 0 ∨ i = 1 ∨ i = 2 ∨ i = 3 ∨ i = 4 ∨ i = 5 ∨ i = 6 ∨ i = 7 ∨ i = 8 ∨ i = 9 ∨ i = 10 := by omega
  rcases this with h | h | h | h | h | h | h | h | h | h | h <;> subst h <;> rfl
theorem shlC {c d : Nat} (hc : c ≤ 265) (hd : d ≤ 10) : wrap64 ((c : Int) * 2 ^ d) = ((c * 2 ^ d : Nat) : Int) := by
  have h1 : 2 ^ d ≤ 2 ^ 10 := Nat.pow_le_pow_right (by decide) hd
  have h2 : c * 2 ^ d ≤ 265 * 2 ^ 10 := Nat.mul_le_mul hc h1
  rw [show (c : Int) * 2 ^ d = ((c * 2 ^ d : Nat) : Int) by simp]
  generalize c * 2 ^ d = q at *
  exact wrap64_n (by omega)
theorem take_count (l : List Nat) (k x : Nat) (h : k < l.length) : (l.take (k + 1)).count x = (l.take k).count x + if len l k = x then 1 else 0 := count_take_succ h x
set_option maxRecDepth 100000 in
set_option maxHeartbeats 4000000 in
theorem build_any {w : World} {b : Nat} {R : CdR} (h : CdAt w b R) {lg lo cap : Nat} {l : List Nat} (hl : Cel mkN w lg lo l.length (len l)) (hll : lg < w.heap.size) (hld : ¬ Rng b (b + 11) lg) (hle : ∀ x ∈ l, x ≤ 10) (hn : l.length ≤ 265) :
    Calls Tryz.prog 125 #[ptrV b, .slice (some ⟨lg, lo, none⟩) l.length cap] w fun e w' => e = .returned (.int .i64 (buildE l : Nat)) ∧ (buildE l = 0 → CoAt w' b l) ∧ (buildE l ≠ 0 → CdAt w' b R) ∧ Fr (Rng b (b + 11)) w w' := by
  have H0 := hid h
  have HL := hid hl
  have HLD := hid hld
  have HLL := hid hll
  have HLE := hid hle
  have HT := hid (build_tests hle hn)
  obtain ⟨n, hnn⟩ : ∃ n, n = l.length := ⟨_, rfl⟩
  rw [← hnn] at HL hn ⊢
  have hni : (n : Int) ≤ 265 := by omega
  have HN := hid hnn
  have hbl := h.lt
  have HBL := hid hbl
  obtain ⟨N, hNN⟩ : ∃ N, w.heap.size = N := ⟨_, rfl⟩
  obtain ⟨w0, hw0⟩ : ∃ w0, w0 = w.alloc (Obj.cells #[.int .i64 0, .int .i64 0, .int .i64 0, .int .i64 0, .int .i64 0, .int .i64 0, .int .i64 0, .int .i64 0, .int .i64 0, .int .i64 0, .int .i64 0] 197) := ⟨_, rfl⟩
  have ha0 := arr_zero11 w
  have hf0 : Fr Nob w w0 := by rw [hw0]; exact (Fr.refl _ _).alloc _
  rw [← hw0, hNN] at ha0
  have hw0' := hw0.symm
  have HA0 := hid ha0
  have HF0 := hid hf0
  have hsz0 : w0.heap.size = N + 1 := by rw [hw0, ← hNN]; simp
  have HSZ0 := hid hsz0
  have HW0 := hid hw0
  clear h hl hll hld hle hnn hbl ha0 hf0 hw0 hsz0
  refine calls_via fun K hK => ?_
  unfold ptrV
  go_enter Tryz.func125, Tryz.ntmps125
  go_wp2_with fail
  go_loopg [6] n (fun g iv wr => ∃ k : Nat, g + k = n ∧ iv = .int .i64 (k : Nat) ∧ Arr 197 mkN wr N 11 (fun x => (l.take k).count x) ∧ Fr Nob w wr)
  case atStart => exact ⟨0, by omega, rfl, HA0.out.congr (fun i hi => by simp), HF0.out⟩
  case round =>
    obtain ⟨k, hgk, rfl, hA, hf⟩ := hrel
    have zN : ∀ i, wr.frozen? ⟨N, i, none⟩ = false := hA.thaw
    by_cases hlt : k < n
    · have hki : (k : Int) < n := by omega
      have x1 := HL.out.fr hf (fun h => h) k hlt
      have hkl : k < l.length := by have := HN.out; omega
      have h10 := len_le_of HLE.out k
      simp only [mkN] at x1
      have htk := take_count l k
      obtain ⟨x, hx⟩ : ∃ x, x = len l k := ⟨_, rfl⟩
      rw [← hx] at x1 h10 htk
      have hxi : (x : Int) < 11 := by omega
      have hxi2 : ¬ (10 : Int) < x := by omega
      have hxi3 : ¬ (x : Int) < 0 := by omega
      have x2 := hA.cell x (by omega)
      simp only [mkN] at x2
      have hcb : (l.take k).count x ≤ 265 := by
        have h1 := List.count_le_length (a := x) (l := l.take k)
        have h2 := List.length_take_le k l
        omega
      obtain ⟨c, hc⟩ : ∃ c, c = (l.take k).count x := ⟨_, rfl⟩
      rw [← hc] at x2 hcb
      have hci : (c : Int) ≤ 265 := by omega
      have HA := hid hA
      have HF := hid hf
      have HC := hid hc
      have HTK := hid htk
      clear hA hf hx hc htk
      go_wp2_with fail
      go_roundg (gk - 1)
      case measure => omega
      case rel =>
        refine ⟨k + 1, by omega, by simp, (HA.out.set x (c + 1)).congr fun i hi => ?_, (HF.out.trans2 (S2 := One N) (Fr.set1 (Fr.refl _ _) _ _) ?_)⟩
        · have h1 := HTK.out i hkl
          rw [h1]
          by_cases e : i = x
          · subst e; rw [upd_self, if_pos rfl, HC.out]
          · rw [upd_ne _ _ _ _ e, if_neg (fun h => e h.symm)]; rfl
        · intro y hy h2; unfold One at hy; have := hNN; omega
    · have hki : ¬ (k : Int) < n := by omega
      have hk : k = n := by omega
      subst hk
      have hA2 : Arr 197 mkN wr N 11 (fun x => l.count x) := hA.congr fun i hi => by rw [HN.out, List.take_length]
      have HA := hid hA2
      have HF := hid hf
      clear hA hA2 hf
      go_wp2_with fail
      have hcl : ∀ x, l.count x ≤ 265 := fun x => by
        have h1 := List.count_le_length (a := x) (l := l)
        have := HN.out; omega
      have HCL := hid hcl
      clear hcl
      obtain ⟨w1, rfl⟩ : ∃ q, q = wr := ⟨_, rfl⟩
      go_loopg [7, 8] 10 (fun g kv nv w2 => ∃ j : Nat, g + j = 10 ∧ kv = .int .i64 (below l j : Nat) ∧ nv = .int .i64 ((j + 1 : Nat) : Int) ∧ w2 = w1)
      case atStart => exact ⟨0, by omega, rfl, rfl, rfl⟩
      case round =>
        obtain ⟨j, hgj, rfl, rfl, rfl⟩ := hrel
        have HA1 := HA.out
        have zN := HA1.thaw
        by_cases hlt : j < 10
        · have x2 := HA1.cell (j + 1) (by omega)
          have hb1 := below_le l j
          have hb2 : below l (j + 1) = below l j + l.count (j + 1) * 2 ^ (10 - (j + 1)) := rfl
          have hcj := HCL.out (j + 1)
          simp only [mkN] at x2
          obtain ⟨m, hm⟩ : ∃ m, m = j + 1 := ⟨_, rfl⟩
          obtain ⟨d, hd⟩ : ∃ d, d = 10 - m := ⟨_, rfl⟩
          have hdi : (10 : Int) - (m : Int) = (d : Int) := by omega
          rw [← hm] at x2 hb2 hcj ⊢
          rw [← hd] at hb2
          obtain ⟨c, hc⟩ : ∃ c, c = l.count m := ⟨_, rfl⟩
          rw [← hc] at x2 hb2 hcj
          have hsh := shlC (c := c) (d := d) hcj (by omega)
          have hpl : c * 2 ^ d ≤ 265 * 1024 := Nat.mul_le_mul hcj (Nat.pow_le_pow_right (n := 2) (i := d) (j := 10) (by decide) (by omega))
          obtain ⟨p, hp⟩ : ∃ p, p = c * 2 ^ d := ⟨_, rfl⟩
          rw [← hp] at hsh hb2 hpl
          obtain ⟨k0, hk0⟩ : ∃ k0, k0 = below l j := ⟨_, rfl⟩
          rw [← hk0] at hb2 hb1 ⊢
          have hki : (k0 : Int) ≤ 271360 := by have := HN.out; clear hsh; omega
          have hpi : (p : Int) ≤ 271360 := by clear hsh; omega
          have hmi : (m : Int) ≤ 10 := by clear hsh; omega
          have hmi2 : (m : Int) < 11 := by clear hsh; omega
          have hdi2 : (d : Int) ≤ 10 := by clear hsh; omega
          have HB := hid hb2
          have HM := hid (And.intro hm hgj)
          clear HA1 hb1 hb2 hcj hm hd hc hpl hp hk0 hgj hlt
          go_wp2_with fail
          go_roundg (gk - 1)
          case measure => have := HM.out; clear hsh; omega
          case rel =>
            have h1 := HM.out.1
            refine ⟨j + 1, by have := HM.out; clear hsh; omega, ?_, ?_, rfl⟩
            · rw [← h1, HB.out]; simp
            · rw [h1]; simp
        · have hj : j = 10 := by omega
          subst hj
          have hkb := kraft_below l HLE.out
          have ht := HT.out
          rw [hkb] at ht
          obtain ⟨kk, hkk⟩ : ∃ kk, kk = below l 10 := ⟨_, rfl⟩
          rw [← hkk] at ht ⊢
          have x0 := HA1.cell 0 (by omega)
          have x1 := HA1.cell 1 (by omega)
          simp only [mkN] at x0 x1
          have hc0 := HCL.out 0
          have hc1 := HCL.out 1
          have hc0l := List.count_le_length (a := 0) (l := l)
          rw [← HN.out] at hc0l ht
          obtain ⟨c0, hc0e⟩ : ∃ c0, c0 = l.count 0 := ⟨_, rfl⟩
          obtain ⟨c1, hc1e⟩ : ∃ c1, c1 = l.count 1 := ⟨_, rfl⟩
          rw [← hc0e] at x0 hc0 hc0l ht
          rw [← hc1e] at x1 hc1 ht
          have hkb2 := below_le l 10
          rw [← hkk, ← HN.out] at hkb2
          obtain ⟨us, hus⟩ : ∃ us, us = k - c0 := ⟨_, rfl⟩
          have husi : (k : Int) - (c0 : Int) = (us : Int) := by omega
          have husb : (us : Int) ≤ 265 := by omega
          have hkki : (kk : Int) ≤ 271360 := by omega
          rw [← hus] at ht
          have HT2 := hid ht
          have HKB := hid (And.intro hkb hkk)
          clear ht hkb hkk hc0 hc1 hc0l hc0e hc1e hkb2 hus HA1
          by_cases t1 : 1024 < kk
          · have t1i : (1024 : Int) < kk := by omega
            have he : buildE l = 6 := by rw [HT2.out, if_pos t1]
            go_wp2_with fail
            exact hK.out _ _ ⟨by rw [he]; rfl, fun h => by omega, fun _ => H0.out.fr HF.out (fun _ _ _ h => h), HF.out.mono (fun _ h _ => h.elim)⟩
          · have t1i : ¬ (1024 : Int) < kk := by omega
            obtain ⟨w1, rfl⟩ : ∃ q, q = wr := ⟨_, rfl⟩
            go_upto_if 59 with (fail)
            go_cut [] (fun wx => wx = w1 ∧ buildE l = 0)
            case first =>
              by_cases t2 : kk < 1024
              · have t2i : (kk : Int) < 1024 := by omega
                by_cases t3 : 1 < us
                · have t3i : (1 : Int) < us := by omega
                  have he : buildE l = 7 := by rw [HT2.out, if_neg t1, if_pos ⟨t2, .inl t3⟩]
                  go_wp2_with fail
                  exact hK.out _ _ ⟨by rw [he]; rfl, fun h => by omega, fun _ => H0.out.fr HF.out (fun _ _ _ h => h), HF.out.mono (fun _ h _ => h.elim)⟩
                · have t3i : ¬ (1 : Int) < us := by omega
                  by_cases t4 : us = c1
                  · subst t4
                    have he : buildE l = 0 := by rw [HT2.out, if_neg t1, if_neg]; rintro ⟨h1, h2⟩; omega
                    go_wp2_with fail
                    go_meet
                    exact ⟨rfl, he⟩
                  · have t4i : ¬ (us : Int) = c1 := by omega
                    have he : buildE l = 7 := by rw [HT2.out, if_neg t1, if_pos ⟨t2, .inr t4⟩]
                    go_wp2_with fail
                    exact hK.out _ _ ⟨by rw [he]; rfl, fun h => by omega, fun _ => H0.out.fr HF.out (fun _ _ _ h => h), HF.out.mono (fun _ h _ => h.elim)⟩
              · have t2i : ¬ (kk : Int) < 1024 := by omega
                have he : buildE l = 0 := by rw [HT2.out, if_neg t1, if_neg]; rintro ⟨h1, h2⟩; omega
                go_wp2_with fail
                go_meet
                exact ⟨rfl, he⟩
            case rest =>
              obtain ⟨hw, he⟩ := hcut
              subst hw
              have hlaw := (buildE_lawful HLE.out (by have := HN.out; omega)).1 he
              have HLW := hid hlaw
              have HE := hid he
              obtain ⟨N2, hN2⟩ : ∃ N2, wc.heap.size = N2 := ⟨_, rfl⟩
              have hNN2 : N < N2 := by rw [← hN2]; exact HA.out.lt
              have hbN : b + 10 < N := by rw [← hNN]; exact HBL.out
              obtain ⟨w2, hw2⟩ : ∃ w2, w2 = wc.alloc (Obj.cells #[.int .i64 0, .int .i64 0, .int .i64 0, .int .i64 0, .int .i64 0, .int .i64 0, .int .i64 0, .int .i64 0, .int .i64 0, .int .i64 0, .int .i64 0] 197) := ⟨_, rfl⟩
              have ha2 := arr_zero11 wc
              have hf2 : Fr Nob w w2 := by rw [hw2]; exact HF.out.alloc _
              have ha1 : Arr 197 mkN w2 N 11 (fun x => l.count x) := by rw [hw2]; exact HA.out.alloc _
              rw [← hw2, hN2] at ha2
              have hw2' := hw2.symm
              have HA1 := hid ha1
              have HA2 := hid ha2
              have HF2 := hid hf2
              have HW2 := hid hw2
              have HD := hid (And.intro hNN2 hbN)
              clear he hlaw hw2 ha1 ha2 hf2 x0 x1 husi husb hkki t1 t1i hNN2 hbN
              go_wp2_with fail
              go_loopg [11] 9 (fun g nv w3 => ∃ (j : Nat) (nx : Nat → Nat), g + j = 9 ∧ nv = .int .i64 ((j + 2 : Nat) : Int) ∧ Arr 197 mkN w3 N 11 (fun x => l.count x) ∧ Arr 197 mkN w3 N2 11 nx ∧ (∀ i, i < j + 2 → nx i = firstC l i) ∧ Fr Nob w w3)
              case atStart =>
                refine ⟨0, _, by omega, rfl, HA1.out, HA2.out, fun i hi => ?_, HF2.out⟩
                have : i = 0 ∨ i = 1 := by omega
                rcases this with h | h <;> subst h <;> rfl
              case round =>
                obtain ⟨j, nx, hgj, rfl, hB1, hB2, hnx, hf3⟩ := hrel
                have zN2 : ∀ i, wr.frozen? ⟨N2, i, none⟩ = false := hB2.thaw
                by_cases hlt : j < 9
                · have y1 := hB2.cell (j + 1) (by omega)
                  have y2 := hB1.cell (j + 1) (by omega)
                  have e1 := hnx (j + 1) (by omega)
                  have hfc := firstC_le HLW.out.toFit (j + 1) (by omega) (by omega)
                  have hcj := HCL.out (j + 1)
                  have hfs : firstC l (j + 2) = 2 * (firstC l (j + 1) + l.count (j + 1)) := rfl
                  simp only [mkN] at y1 y2
                  rw [e1] at y1
                  obtain ⟨f, hf⟩ : ∃ f, f = firstC l (j + 1) := ⟨_, rfl⟩
                  obtain ⟨c, hc⟩ : ∃ c, c = l.count (j + 1) := ⟨_, rfl⟩
                  rw [← hf] at y1 hfc hfs
                  rw [← hc] at y2 hcj hfs
                  obtain ⟨q, hq⟩ : ∃ q, q = j + 1 := ⟨_, rfl⟩
                  obtain ⟨m, hm⟩ : ∃ m, m = j + 2 := ⟨_, rfl⟩
                  rw [← hq] at y1 y2
                  rw [← hm] at hfs ⊢
                  have y3 := hB2.cell m (by omega)
                  simp only [mkN] at y3
                  have hmq : (m : Int) - 1 = (q : Int) := by omega
                  have hqi : (q : Int) < 11 := by omega
                  have hmi : (m : Int) ≤ 10 := by omega
                  have hmi2 : (m : Int) < 11 := by omega
                  have hfi : (f : Int) ≤ 1024 := by omega
                  have hci : (c : Int) ≤ 265 := by omega
                  have hnn : ¬ N = N2 := by have := HD.out; omega
                  have hnn2 : ¬ N2 = N := by have := HD.out; omega
                  have HB1 := hid hB1
                  have HB2 := hid hB2
                  have HNX := hid hnx
                  have HF3 := hid hf3
                  have HM := hid (And.intro hm (And.intro hgj hfs))
                  clear hB1 hB2 hnx hf3 e1 hf hc hq hm hgj hfs hlt hfc hcj
                  go_wp2_with fail
                  go_region
                  go_wp2_with fail
                  go_roundg (gk - 1)
                  case measure => have := HM.out; omega
                  case rel =>
                    have hM := HM.out
                    refine ⟨j + 1, upd nx m (firstC l m), by omega, by rw [hM.1]; simp; omega, ?_, ?_, fun i hi => ?_, ?_⟩
                    · exact (HB1.out.other hnn _).drew
                    · have h1 := (HB2.out.set m (firstC l m)).drew
                      have e : mkN (firstC l m) = .int .i64 (((f : Int) + (c : Int)) * 2) := by rw [hM.2.2]; unfold mkN; congr 1; simp; omega
                      rw [e] at h1
                      first | exact h1 | exact h1.drew
                    · by_cases e : i = m
                      · subst e; exact upd_self _ _ _
                      · rw [upd_ne _ _ _ _ e]; exact HNX.out i (by omega)
                    · have h1 := ((HF3.out.trans2 (S2 := One N2) (Fr.set1 (Fr.refl _ _) m (.int .i64 (((f : Int) + (c : Int)) * 2))) (fun y hy h2 => by unfold One at hy; have h3 := HD.out; rw [hNN] at h2; omega))).drew
                      first | exact h1 | exact h1.drew
                · have hj : j = 9 := by omega
                  subst hj
                  have hnx2 : ∀ m, m < 11 → nx m = firstC l m := hnx
                  have p0 := hf3
                  have hR := H0.out.fr hf3 (fun _ _ _ h => h)
                  have c0 := hR.c_n
                  have HB1 := hid hB1
                  have HB2 := hid hB2
                  have HNX := hid hnx2
                  have HF3 := hid hf3
                  have HR := hid hR
                  have hzb := hR.c_n
                  have zb : ∀ i, wr.frozen? ⟨b, i, none⟩ = false := hR.fz
                  clear hB1 hB2 hnx hnx2 hf3 p0 hR hgj hlt
                  go_wp2_with fail
                  obtain ⟨w4, hw4⟩ : ∃ w4, w4 = wr.setCell ⟨b, 0, none⟩ (.int .i64 (k : Nat)) := ⟨_, rfl⟩
                  have hm0 : Rng b (b + 11) b := ⟨by omega, by omega⟩
                  have hR4 : CdAt w4 b { R with n := k } := by rw [hw4]; exact HR.out.set_n k
                  have hB24 : Arr 197 mkN w4 N2 11 nx := by rw [hw4]; exact HB2.out.other (by have := HD.out; omega) _
                  have hF4 : Fr (Rng b (b + 11)) w w4 := by rw [hw4]; exact (HF3.out.mono (fun _ h _ => h.elim)).setS hm0 _ _
                  rw [← hw4]
                  have HR4 := hid hR4
                  have HB4 := hid hB24
                  have HF4 := hid hF4
                  clear hR4 hB24 hF4 hw4 hzb zb c0
                  go_loopg [12] k (fun g sv w5 => ∃ (t : Nat) (R2 : CdR) (nx2 : Nat → Nat), g + t = k ∧ sv = .int .i64 (t : Nat) ∧ CdAt w5 b R2 ∧ R2.n = k ∧ (∀ q, q < t → R2.lens q = len l q) ∧ (∀ q, q < t → 0 < len l q → R2.code q = code l q) ∧ Arr 197 mkN w5 N2 11 nx2 ∧ (∀ m, 0 < m → m < 11 → nx2 m = firstC l m + (l.take t).count m) ∧ Fr (Rng b (b + 11)) w w5)
                  case atStart =>
                    refine ⟨0, _, nx, by omega, rfl, HR4.out, rfl, fun q h => by omega, fun q h => by omega, HB4.out, fun m h1 h2 => ?_, HF4.out⟩
                    rw [HNX.out m h2]; simp
                  case round =>
                    obtain ⟨t, R2, nx2, hgt, rfl, hR2, hn2, hl2, hc2, hB5, hx5, hf5⟩ := hrel
                    by_cases hlt : t < k
                    · have hti : (t : Int) < k := by omega
                      have hti2 : (t : Int) < 265 := by omega
                      have p1 := hR2.p_lens
                      have p2 := hR2.p_code
                      have z1 : ∀ i, wr.frozen? ⟨b + 1, i, none⟩ = false := hR2.a_lens.thaw
                      have z2 : ∀ i, wr.frozen? ⟨b + 2, i, none⟩ = false := hR2.a_code.thaw
                      have zN2 : ∀ i, wr.frozen? ⟨N2, i, none⟩ = false := hB5.thaw
                      have x1 := hR2.a_lens.cell t (by omega)
                      have x2 := hR2.a_code.cell t (by omega)
                      have xl := HL.out.fr hf5 HLD.out t hlt
                      have h10 := len_le_of HLE.out t
                      simp only [mkN] at x1 x2 xl
                      have hcan : canon l t = firstC l (len l t) + (l.take t).count (len l t) := rfl
                      have hcod : code l t = rev (len l t) (canon l t) := rfl
                      have htk := take_count l t
                      obtain ⟨x, hx⟩ : ∃ x, x = len l t := ⟨_, rfl⟩
                      rw [← hx] at xl h10 hcan hcod htk
                      have hd1 : ¬ b + 1 = b := by omega
                      have hd2 : ¬ b + 1 = b + 2 := by omega
                      have hd3 : ¬ b + 2 = b + 1 := by omega
                      have hd4 : ¬ b = b + 1 := by omega
                      have hd5 : ¬ b = b + 2 := by omega
                      have hD := HD.out
                      have hd6 : ¬ N2 = b + 1 := by omega
                      have hd7 : ¬ N2 = b + 2 := by omega
                      have hd8 : ¬ b + 1 = N2 := by omega
                      have hd9 : ¬ b + 2 = N2 := by omega
                      have hda : ¬ b + 2 = b := by omega
                      have hdb : ¬ N2 = b := by omega
                      have hdc : ¬ b = N2 := by omega
                      have HR2 := hid hR2
                      have HL2 := hid hl2
                      have HC2 := hid hc2
                      have HB5 := hid hB5
                      have HX5 := hid hx5
                      have HF5 := hid hf5
                      have HXE := hid hx
                      have HN2 := hid hn2
                      have HTK := hid htk
                      by_cases h0 : 0 < x
                      · have h0i : (0 : Int) < x := by omega
                        have hxi : (x : Int) < 11 := by omega
                        have y1 := hB5.cell x (by omega)
                        have e1 := hx5 x h0 (by omega)
                        have hfc := firstC_le HLW.out.toFit x h0 h10
                        have hct : (l.take t).count x ≤ 265 := by
                          have h1 := List.count_le_length (a := x) (l := l.take t)
                          have h2 := List.length_take_le t l
                          omega
                        simp only [mkN] at y1
                        rw [e1, ← hcan] at y1
                        obtain ⟨v, hv⟩ : ∃ v, v = canon l t := ⟨_, rfl⟩
                        rw [← hv] at y1 hcod hcan
                        have hvb : v ≤ 1289 := by omega
                        have HQ := hid (fun wx => flip_any v x (by omega) (by omega) wx)
                        rw [← hcod] at HQ
                        obtain ⟨cc, hcc⟩ : ∃ cc, cc = code l t := ⟨_, rfl⟩
                        rw [← hcc] at HQ
                        have hvi : (v : Int) ≤ 1289 := by omega
                        have HCC := hid (And.intro hcc (And.intro hcan hgt))
                        clear hR2 hl2 hc2 hB5 hx5 hf5 hx hn2 hcan hcod htk e1 hfc hct hv hcc hgt hlt hD
                        go_upto_region 34 with fail
                        obtain ⟨w6, hw6⟩ : ∃ w6, w6 = (wr.setCell ⟨b + 1, t, none⟩ (.int .i64 (x : Nat))).setCell ⟨b + 2, t, none⟩ (.int .i64 ((0 : Nat) : Int)) := ⟨_, rfl⟩
                        have hR6 : CdAt w6 b { R2 with lens := upd R2.lens t x, code := upd R2.code t 0 } := by rw [hw6]; exact (HR2.out.set_lens t x).set_code t 0
                        have hB6 : Arr 197 mkN w6 N2 11 nx2 := by rw [hw6]; exact (HB5.out.other hd6 _).other hd7 _
                        have hm1 : Rng b (b + 11) (b + 1) := ⟨by omega, by omega⟩
                        have hm2 : Rng b (b + 11) (b + 2) := ⟨by omega, by omega⟩
                        have hF6 : Fr (Rng b (b + 11)) w w6 := by rw [hw6]; exact (HF5.out.setS hm1 _ _).setS hm2 _ _
                        have hw6' : (wr.setCell ⟨b + 1, t, none⟩ (.int .i64 (x : Nat))).setCell ⟨b + 2, t, none⟩ (.int .i64 0) = w6 := hw6.symm
                        rw [hw6']
                        have q2 := hR6.p_code
                        have z6 : ∀ i, w6.frozen? ⟨b + 2, i, none⟩ = false := hR6.a_code.thaw
                        have q3 := hR6.a_code.cell t (by omega)
                        simp only [mkN, upd_self] at q3
                        have q4 := hB6.cell x (by omega)
                        simp only [mkN] at q4
                        rw [HX5.out x h0 (by omega), ← HCC.out.2.1] at q4
                        have HR6 := hid hR6
                        have HB6 := hid hB6
                        have HF6 := hid hF6
                        clear hR6 hB6 hF6 hw6 hw6' p1 p2 x1 x2 xl y1 z1 z2
                        go_cut [] (fun wx => CdAt wx b { R2 with lens := upd R2.lens t x, code := upd R2.code t cc } ∧ Arr 197 mkN wx N2 11 nx2 ∧ Fr (Rng b (b + 11)) w wx)
                        case first =>
                          go_region_with (go_at_call 155; refine (HQ.out _).mono ?_; rintro e w7 ⟨rfl, hw⟩; have hw2 := hw; subst hw2; clear hw)
                          all_goals (go_wp2_with fail; go_meet)
                          all_goals
                            have h1 := HR6.out.set_code t cc
                            have e1 : upd (upd R2.code t 0) t cc = upd R2.code t cc := by funext q; unfold upd; split <;> rfl
                            dsimp only at h1
                            rw [e1] at h1
                            exact ⟨h1.drew, HB6.out.other hd7 _, (HF6.out.setS hm2 t (.int .i64 (cc : Nat))).drew⟩
                        case rest => 
                          obtain ⟨hR7, hB7, hF7⟩ := hcut
                          have zc : ∀ i, wc.frozen? ⟨N2, i, none⟩ = false := hB7.thaw
                          have q5 := hB7.cell x (by omega)
                          simp only [mkN] at q5
                          rw [HX5.out x h0 (by omega), ← HCC.out.2.1] at q5
                          have HR7 := hid hR7
                          have HB7 := hid hB7
                          have HF7 := hid hF7
                          clear hR7 hB7 hF7 q2 z6 q3 q4
                          go_wp2_with fail
                          go_roundg (gk - 1)
                          case measure => have := HCC.out; omega
                          case rel =>
                            have hC := HCC.out
                            have htk := HTK.out
                            have hD := HD.out
                            refine ⟨t + 1, _, upd nx2 x (v + 1), by omega, by simp, HR7.out.fr (S := One N2) (Fr.set1 (Fr.refl _ _) _ _) (fun k h1 h2 h3 => by unfold One at h3; omega), HN2.out, fun q hq => ?_, fun q hq h9 => ?_, HB7.out.set x (v + 1), fun m h1 h2 => ?_, HF7.out.trans2 (S2 := One N2) (Fr.set1 (Fr.refl _ _) _ _) ?_⟩
                            · dsimp only
                              by_cases e : q = t
                              · subst e; rw [upd_self]; exact HXE.out
                              · rw [upd_ne _ _ _ _ e]; exact HL2.out q (by omega)
                            · dsimp only
                              by_cases e : q = t
                              · subst e; rw [upd_self]; exact hC.1
                              · rw [upd_ne _ _ _ _ e]; exact HC2.out q (by omega) h9
                            · rw [htk m (by have := HN.out; omega)]
                              by_cases e : m = x
                              · subst e; rw [upd_self, if_pos rfl, hC.2.1]; rfl
                              · rw [upd_ne _ _ _ _ e, if_neg (fun h => e h.symm)]; exact HX5.out m h1 h2
                            · intro y hy h2; unfold One at hy; rw [hNN] at h2; omega
                      · have h0i : ¬ (0 : Int) < x := by omega
                        have hx0 : x = 0 := by omega
                        subst hx0
                        have HCC := hid hgt
                        clear hR2 hl2 hc2 hB5 hx5 hf5 hx hn2 hcan hcod htk hgt hD
                        go_wp2_with fail
                        go_roundg (gk - 1)
                        case measure => have := HCC.out; omega
                        case rel =>
                          have htk := HTK.out
                          have hm1 : Rng b (b + 11) (b + 1) := ⟨by omega, by omega⟩
                          have hm2 : Rng b (b + 11) (b + 2) := ⟨by omega, by omega⟩
                          refine ⟨t + 1, _, nx2, by have := HCC.out; omega, by simp, (HR2.out.set_lens t 0).set_code t 0, HN2.out, fun q hq => ?_, fun q hq h9 => ?_, (HB5.out.other hd6 _).other hd7 _, fun m h1 h2 => ?_, (HF5.out.setS hm1 _ _).setS hm2 _ _⟩
                          · dsimp only
                            by_cases e : q = t
                            · subst e; rw [upd_self]; exact HXE.out
                            · rw [upd_ne _ _ _ _ e]; exact HL2.out q (by omega)
                          · dsimp only
                            by_cases e : q = t
                            · subst e; have := HXE.out; omega
                            · rw [upd_ne _ _ _ _ e]; exact HC2.out q (by omega) h9
                          · rw [htk m (by have := HN.out; omega), if_neg (by omega)]; exact HX5.out m h1 h2
                    · have hti : ¬ (t : Int) < k := by omega
                      have htk : t = k := by omega
                      subst htk
                      have hne := HN.out
                      have hLR : LayR R2 l := ⟨by omega, fun s hs => hl2 s (by omega), fun s hs h9 => hc2 s (by omega) h9, HLW.out⟩
                      have HQ := hid (lay_any hR2 hLR)
                      have HF5 := hid hf5
                      clear hR2 hl2 hc2 hB5 hx5 hf5 hn2 hne hLR hgt hlt
                      go_wp2_with (go_at_call 156; refine HQ.out.mono ?_; rintro e w7 ⟨rfl, R9, hR9, hC9, hF9⟩)
                      have HE2 := HE.out
                      exact hK.out _ _ ⟨by rw [HE2]; rfl, fun _ => ⟨R9, hR9, hC9⟩, fun h => absurd HE2 h, HF5.out.trans2 hF9 (fun _ h _ => h)⟩
end Go.Proofs.Qxb6500353aGreat
