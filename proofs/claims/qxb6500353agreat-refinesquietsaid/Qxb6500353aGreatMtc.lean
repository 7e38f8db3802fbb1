/- The model's tape: Load, Text, walked. -/
import Derived.Test.Qxb6500353aGreatMta
import Derived.Test.Qxb6500353aGreatHsw
namespace Go.Proofs.Qxb6500353aGreat
open Go.RowKit
set_option linter.unusedVariables false
set_option linter.unusedSimpArgs false

theorem load_step (l : List Nat) (x : Nat) : (Tp.load l).put x 8 = Tp.load (l ++ [x]) := by
  unfold Tp.load Tp.put
  rw [numOf_append]
  simp [numOf]; omega
set_option maxRecDepth 100000 in
set_option maxHeartbeats 1000000 in
theorem mload_any {w : World} {b cap : Nat} {ad : Option Addr} {t : Tp} (h : MTp w b ad cap t) {s : ByteArray} (hs : s.size ≤ 512) :
    Calls Tryz.prog 78 #[ptrV b, .string s] w fun e w' => e = .returned (.int .i64 0) ∧ ∃ ad' cap', MTp w' b ad' cap' (Tp.load (bytesOf s)) ∧ Gr b w ad w' ad' := by
  have HR := hid (mreset_any h)
  have hsi : (s.size : Int) ≤ 512 := by omega
  clear h
  refine calls_via fun K hK => ?_
  unfold ptrV at HR ⊢
  go_enter Tryz.func78, Tryz.ntmps78
  go_wp2_with fail
  refine HR.out.mono ?_
  rintro e w2 ⟨rfl, h2, hg2⟩
  have H2 := hid h2
  have HG2 := hid hg2
  clear h2 hg2
  go_wp2_with fail
  go_loopg [5] s.size (fun g v wr => ∃ (k : Nat) (ad' : Option Addr) (cap' : Nat), v = .int .i64 (k : Nat) ∧ g + k = s.size ∧ MTp wr b ad' cap' (Tp.load ((bytesOf s).take k)) ∧ Gr b w ad wr ad')
  case atStart => exact ⟨0, none, 0, rfl, by omega, H2.out, HG2.out⟩
  case round =>
    obtain ⟨k, ad1, cap1, rfl, hg, hA, hG⟩ := hrel
    have HG := hid hg
    have HGR := hid hG
    by_cases hk : k < s.size
    · have hki : (k : Int) < s.size := by omega
      have b1 := byteI s hk
      have h1 := byS_lt s k
      have hnx : (bytesOf s).take (k + 1) = (bytesOf s).take k ++ [by_ (bytesOf s) k] := by
        rw [List.take_add_one, List.getElem?_eq_getElem (by rw [bytesOf_len]; exact hk)]
        unfold by_; rw [List.getD_eq_getElem?_getD, List.getElem?_eq_getElem (by rw [bytesOf_len]; exact hk)]; rfl
      obtain ⟨x, hx⟩ : ∃ x, x = by_ (bytesOf s) k := ⟨_, rfl⟩
      rw [← hx] at b1 h1 hnx
      have hxi : (x : Int) < 256 := by omega
      have hpt := mput_any hA (v := x) (k := 8) (by omega) h1 (by
        show 8 * ((bytesOf s).take k).length + 8 ≤ 4096
        rw [List.length_take, bytesOf_len]; omega)
      rw [load_step, ← hnx] at hpt
      unfold ptrV at hpt
      have HPT := hid hpt
      clear hA hG hg hnx hx hpt
      go_wp2_with fail
      refine HPT.out.mono ?_
      rintro e w3 ⟨rfl, ad3, cap3, h3, hg3⟩
      have H3 := hid h3
      have HG3 := hid hg3
      clear h3 hg3
      go_wp2_with fail
      go_roundg (gk - 1)
      case measure => have := HG.out; omega
      case rel => exact ⟨k + 1, ad3, cap3, by simp, by have := HG.out; omega, H3.out, HGR.out.trans HG3.out⟩
    · have hki : ¬ (k : Int) < s.size := by omega
      have hk2 : k = s.size := by omega
      subst hk2
      have hall : (bytesOf s).take s.size = bytesOf s := List.take_of_length_le (by rw [bytesOf_len]; omega)
      rw [hall] at hA
      have HA := hid hA
      clear hA hG hg hall
      go_wp2_with fail
      exact hK.out _ _ ⟨rfl, ad1, cap1, HA.out, HGR.out⟩
/-- One more bit in the bytes. -/
theorem byt_bit (X i j : Nat) : byt (X % 2 ^ (i + 1)) j = if j = i / 8 then byt (X % 2 ^ i) j ||| (X / 2 ^ i % 2) * 2 ^ (i % 8) else byt (X % 2 ^ i) j := by
  have hX : X % 2 ^ i < 2 ^ i := Nat.mod_lt _ (pw_pos i)
  have hb : X / 2 ^ i % 2 < 2 := Nat.mod_lt _ (by decide)
  have h := byt_put (k := 1) (v := X / 2 ^ i % 2) hX j
  rw [mod_succ, Nat.mul_comm (2 ^ i), h]
  have hr : 2 ^ (i % 8) ≤ 2 ^ 7 := Nat.pow_le_pow_right (by decide) (by omega)
  have hq : X / 2 ^ i % 2 * 2 ^ (i % 8) ≤ 1 * 2 ^ 7 := Nat.mul_le_mul (by omega) hr
  by_cases e1 : j < i / 8
  · rw [if_pos e1, if_neg (by omega)]
  · rw [if_neg e1]
    by_cases e2 : j = i / 8
    · rw [if_pos e2, if_pos e2, Nat.mod_eq_of_lt (a := X / 2 ^ i % 2 * 2 ^ (i % 8)) (by omega)]
    · rw [if_neg e2, if_neg e2, byt_big hX (by omega)]
      have h8 : 2 ^ 8 ≤ 2 ^ (8 * (j - i / 8)) := Nat.pow_le_pow_right (by decide) (by omega)
      rw [Nat.div_eq_of_lt (by omega)]
set_option maxRecDepth 100000 in
set_option maxHeartbeats 8000000 in
theorem mtext_any {w : World} {b cap : Nat} {ad : Option Addr} {t : Tp} (h : MTp w b ad cap t) :
    Calls Tryz.prog 105 #[ptrV b] w fun e w' => e = .returned (.string (strN t.text)) ∧ Fr Nob w w' := by
  have hn4 := h.ok.len
  have hXlt := h.ok.lt
  have c0 := h.c_bit
  obtain ⟨n, hnn⟩ : ∃ n, n = t.n := ⟨_, rfl⟩
  rw [← hnn] at c0 hn4 hXlt
  have hni : (n : Int) ≤ 4096 := by omega
  obtain ⟨m, hm⟩ : ∃ m, m = (n + 7) / 8 := ⟨_, rfl⟩
  have hmi : ((n : Int) + 7) / 8 = (m : Int) := by omega
  have hm5 : (m : Int) ≤ 512 := by omega
  obtain ⟨N, hN⟩ : ∃ N, w.heap.size = N := ⟨_, rfl⟩
  have H := hid h
  have HN := hid hnn
  have HM := hid hm
  have HX := hid hXlt
  have HTX : Hid (t.text = (List.range m).map (byt t.X)) := hid (by unfold Tp.text; rw [← hnn, ← hm])
  have HNN := hid hN
  have HB := hid h.lt
  clear h hnn hm hXlt
  refine calls_via fun K hK => ?_
  unfold ptrV
  go_enter Tryz.func105, Tryz.ntmps105
  go_wp2_with (at_make; refine wp_mkbx rfl _ _ rfl (((n : Int) + 7) / 8) (((n : Int) + 7) / 8) m N hN rfl rfl hmi hmi (by omega) ?_; intro w1 hs1 ha hf; have HA := hid ha; have HF := hid hf; clear ha hf hs1)
  go_loopg [4] n (fun g v wr => ∃ i : Nat, v = .int .i64 (i : Nat) ∧ g + i = n ∧ Arr 5 mkB wr N m (byt (t.X % 2 ^ i)) ∧ Fr Nob w wr)
  case atStart => exact ⟨0, rfl, by omega, HA.out.congr fun i _ => by rw [Nat.pow_zero, Nat.mod_one, byt_zero], HF.out⟩
  case round =>
    obtain ⟨i, rfl, hg, hA, hf⟩ := hrel
    have HG := hid hg
    have HA := hid hA
    have HF := hid hf
    have d0 := hf.cell c0 (fun x => x)
    by_cases hi : i < n
    · have hii : (i : Int) < n := by omega
      have hO := H.out.own.fr hf (fun _ _ x => x)
      obtain ⟨gg, hadr, hcell⟩ := hO.at i (by rw [← HN.out]; exact hi)
      rw [bitsL_at _ _ _ (by rw [← HN.out]; exact hi)] at hcell
      subst hadr
      have hgN : ¬ gg = N := by have := (H.out.own.lt (g := gg) rfl).2; have := HNN.out; omega
      have hgN2 : ¬ N = gg := fun e => hgN e.symm
      have hq8 : i / 8 < m := by have := HM.out; omega
      have x1 := hA.cell (i / 8) hq8
      simp only [mkB] at x1
      have hl := byt_lt (t.X % 2 ^ i) (i / 8)
      have hbit := byt_bit t.X i
      obtain ⟨x, hx⟩ : ∃ x, x = byt (t.X % 2 ^ i) (i / 8) := ⟨_, rfl⟩
      obtain ⟨y, hy⟩ : ∃ y, y = t.X / 2 ^ i % 2 := ⟨_, rfl⟩
      have hy2 : y < 2 := by rw [hy]; exact Nat.mod_lt _ (by decide)
      rw [← hx] at x1 hl
      rw [← hy] at hcell hbit
      have e1 : (i : Int) / 8 = ((i / 8 : Nat) : Int) := by omega
      have e2 : (i : Int) % 8 = ((i % 8 : Nat) : Int) := by omega
      have z : ∀ i, wr.frozen? ⟨N, i, none⟩ = false := hA.thaw
      obtain ⟨j, hj⟩ : ∃ j, j = i / 8 := ⟨_, rfl⟩
      obtain ⟨r, hr⟩ : ∃ r, r = i % 8 := ⟨_, rfl⟩
      have hr8 : r < 8 := by omega
      rw [← hj] at x1 e1 hq8 hx hbit
      rw [← hr] at e2 hbit
      have hji : (j : Int) < m := by omega
      have hri : (r : Int) < 8 := by omega
      have hq : y * 2 ^ r ≤ 1 * 2 ^ 7 := Nat.mul_le_mul (by omega) (Nat.pow_le_pow_right (by decide) (by omega))
      obtain ⟨q, hqq⟩ : ∃ q, q = y * 2 ^ r := ⟨_, rfl⟩
      rw [← hqq] at hq hbit
      have ew : IntKind.u8.wrap ((y : Int) * 2 ^ r) = (q : Int) := by
        rw [show ((y : Int) * 2 ^ r) = ((y * 2 ^ r : Nat) : Int) by simp, ← hqq]; exact wrap8 (by omega) (by omega)
      obtain ⟨u, hu⟩ : ∃ u, u = x ||| q := ⟨_, rfl⟩
      have eo : bits .or .u8 (x : Int) (q : Int) = (u : Int) := by rw [or8 hl (by omega), ← hu]
      have HBIT := hid (And.intro hbit (And.intro hu hx))
      clear hA hf hg hbit hu hx hy hy2 hj hr hq hqq hl hO
      go_wp2_with fail
      go_region
      go_wp2_with fail
      go_roundg (gk - 1)
      case measure => have := HG.out; omega
      case rel =>
        refine ⟨i + 1, by simp, by have := HG.out; omega, ?_, ((HF.out.drew).trans2 (S2 := One N) (Fr.refl _ _) (fun x hx hl => by unfold One at hx; have := HNN.out; omega) |> fun h => ?_)⟩
        · refine ((HA.out.set j u).drew).congr fun i' hi' => ?_
          obtain ⟨h1, h2, h3⟩ := HBIT.out
          rw [h1 i']
          by_cases e : i' = j
          · subst e; rw [upd_self, if_pos rfl, ← h3, ← h2]
          · rw [upd_ne _ _ _ _ e, if_neg e]
        · exact ((HF.out.trans2 (S2 := One N) (Fr.set1 (Fr.refl _ _) j (.int .u8 (u : Nat))) (fun x hx hl => by unfold One at hx; have := HNN.out; omega))).drew
    · have hii : ¬ (i : Int) < n := by omega
      have hin : i = n := by omega
      subst hin
      have hA2 : Arr 5 mkB wr N m (byt t.X) := by
        rw [Nat.mod_eq_of_lt HX.out] at hA; exact hA
      have hcv := conv_str (w := wr) (g := N) (o := 0) (n := m) (cap := m) (f := byt t.X) (fun i hi => by have := hA2.cell i hi; simpa [mkB] using this)
      rw [← HTX.out] at hcv
      clear hA hf hg hA2 HA
      go_wp2_with fail
      exact hK.out _ _ ⟨rfl, HF.out⟩
end Go.Proofs.Qxb6500353aGreat
