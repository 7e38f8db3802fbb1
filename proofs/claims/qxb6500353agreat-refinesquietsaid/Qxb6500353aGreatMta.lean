/- The model's tape: New, Reset, Pos, Len, Put, Pad, walked. -/
import Derived.Test.Qxb6500353aGreatOwb
import Derived.Deep.DeepCutAuto
import Derived.Deep.Cut
namespace Go.Proofs.Qxb6500353aGreat
open Go.RowKit
set_option linter.unusedVariables false
set_option linter.unusedSimpArgs false

theorem newBm_any (w : World) : Calls Tryz.prog 77 #[] w fun e w' => e = .returned (ptrV w.heap.size) ∧ MTp w' w.heap.size none 0 Tp.nil ∧ Fr Nob w w' ∧ w'.heap.size = w.heap.size + 1 := by
  obtain ⟨N, hN⟩ : ∃ N, w.heap.size = N := ⟨_, rfl⟩
  rw [hN]
  have hp := Part.start w N hN [.slice none 0 0, .int .i64 0] 178
  have hM : MTp (w.alloc (Obj.cells #[.slice none 0 0, .int .i64 0] 178)) N none 0 Tp.nil :=
    ⟨hp.cells 0 (by decide), hp.cells 1 (by decide), hp.fz, OwnB.nil _ _, Tp.nil_ok⟩
  have HM := hid hM
  have HS := hid hp.size
  have HF := hid hp.fr
  clear hp hM
  refine calls_via fun K hK => ?_
  go_enter Tryz.func77, Tryz.ntmps77
  go_wp2_with fail
  exact hK.out _ _ ⟨rfl, HM.out, HF.out, HS.out⟩
theorem mpos_any {w : World} {b cap : Nat} {ad : Option Addr} {t : Tp} (h : MTp w b ad cap t) : Calls Tryz.prog 79 #[ptrV b] w fun e w' => e = .returned (.int .i64 (t.at_ : Nat)) ∧ w' = w := by
  have c1 := h.c_at
  clear h
  refine calls_via fun K hK => ?_
  unfold ptrV
  go_enter Tryz.func79, Tryz.ntmps79
  go_wp2_with fail
  exact hK.out _ _ ⟨rfl, rfl⟩
theorem mlen_any {w : World} {b cap : Nat} {ad : Option Addr} {t : Tp} (h : MTp w b ad cap t) : Calls Tryz.prog 85 #[ptrV b] w fun e w' => e = .returned (.int .i64 (t.n : Nat)) ∧ w' = w := by
  have c1 := h.c_bit
  clear h
  refine calls_via fun K hK => ?_
  unfold ptrV
  go_enter Tryz.func85, Tryz.ntmps85
  go_wp2_with fail
  exact hK.out _ _ ⟨rfl, rfl⟩
theorem mreset_any {w : World} {b cap : Nat} {ad : Option Addr} {t : Tp} (h : MTp w b ad cap t) : Calls Tryz.prog 111 #[ptrV b] w fun e w' => e = .returned (.tuple #[]) ∧ MTp w' b none 0 Tp.nil ∧ Gr b w ad w' none := by
  have c0 := h.c_bit
  have c1 := h.c_at
  have z : ∀ i, w.frozen? ⟨b, i, none⟩ = false := h.fz
  have H := hid h
  clear h
  refine calls_via fun K hK => ?_
  unfold ptrV
  go_enter Tryz.func111, Tryz.ntmps111
  go_wp2_with fail
  go_end0
  refine hK.out _ _ ⟨rfl, ⟨(cellNe (by omega)).trans (cellSet H.out.c_bit), cellSet ((cellNe (by omega)).trans H.out.c_at), (H.out.fz.set _ _).set _ _, OwnB.nil _ _, Tp.nil_ok⟩, ⟨((Fr.refl (One b) w).set1 _ _ |>.set1 _ _).mono fun x hx _ => .inl hx, fun g hg => by simp [obk] at hg⟩⟩
theorem mget {w : World} {b cap : Nat} {ad : Option Addr} {t : Tp} (h : MTp w b ad cap t) {ad' : Option Addr} {cap' N y : Nat} {w' : World} (ho : OwnB w' (b + 1) ad' (t.n + 1) cap' (bitsL t.X t.n ++ [y])) (hf : Fr (Obs ad) w w') (hob : obk ad' = obk ad ∨ obk ad' = some N) (hN : w.heap.size ≤ N) (hy : y < 2) (hn : t.n + 1 ≤ 4096) :
    MTp (w'.setCell ⟨b, 0, none⟩ (.slice ad' (t.n + 1) cap')) b ad' cap' (t.put y 1) ∧ Gr b w ad (w'.setCell ⟨b, 0, none⟩ (.slice ad' (t.n + 1) cap')) ad' := by
  have hnb : ¬ Obs ad b := fun e => by have := (h.own.lt e).1; omega
  have hs : Fr (One b) w' (w'.setCell ⟨b, 0, none⟩ (.slice ad' (t.n + 1) cap')) := Fr.set1 (Fr.refl _ _) _ _
  refine ⟨⟨?_, ?_, ?_, ?_, h.ok.put (by simpa using hy) hn⟩, ⟨?_, fun g hg => ?_⟩⟩
  · exact cellSet (hf.cell h.c_bit hnb)
  · exact (cellNe (by omega)).trans (hf.cell h.c_at hnb)
  · exact (h.fz.fr hf h.lt hnb).set _ _
  · have h2 := ho.fr hs (fun g hg e => by have := (ho.lt hg).1; unfold One at e; omega)
    rw [← bitsL_put _ _ _ h.ok.lt hy] at h2
    exact h2
  · exact (hf.mono fun x hx _ => .inr hx).trans2 hs fun x hx _ => .inl hx
  · rcases hob with e | e
    · left; rw [← e]; exact hg
    · right; rw [e] at hg; simp at hg; omega
set_option maxRecDepth 100000 in
set_option maxHeartbeats 1000000 in
theorem mput_any {w : World} {b cap : Nat} {ad : Option Addr} {t : Tp} (h : MTp w b ad cap t) {v k : Nat} (hk : k ≤ 16) (hv : v < 2 ^ k) (hn : t.n + k ≤ 4096) :
    Calls Tryz.prog 103 #[ptrV b, .int .i64 v, .int .i64 k] w fun e w' => e = .returned (.int .i64 0) ∧ ∃ ad' cap', MTp w' b ad' cap' (t.put v k) ∧ Gr b w ad w' ad' := by
  have c0 := h.c_bit
  have hki : (k : Int) ≤ 16 := by omega
  have hv16 : v < 65536 := Nat.lt_of_lt_of_le hv (Nat.pow_le_pow_right (n := 2) (i := k) (j := 16) (by decide) hk)
  have hv0 : (0 : Int) ≤ v := by omega
  have HV16 := hid hv16
  have hsh : (v : Int) / 2 ^ k = 0 := by rw [powI, Nat.div_eq_of_lt hv]; rfl
  have hroom : ¬ ((4096 : Int) < (t.n : Int) + k) := by omega
  have hti : (t.n : Int) ≤ 4096 := by omega
  have HVM := hid (Nat.mod_eq_of_lt hv)
  have H := hid h
  have HN := hid hn
  clear h hv hn hk hv16
  refine calls_via fun K hK => ?_
  unfold ptrV
  go_enter Tryz.func103, Tryz.ntmps103
  go_wp2_with fail
  go_loopg [7] k (fun g i wr => ∃ (j : Nat) (ad' : Option Addr) (cap' : Nat), i = .int .i64 (j : Nat) ∧ g + j = k ∧ MTp wr b ad' cap' (t.put (v % 2 ^ j) j) ∧ Gr b w ad wr ad')
  case atStart => exact ⟨0, ad, cap, rfl, by omega, by rw [Nat.pow_zero, Nat.mod_one]; have e : t.put 0 0 = t := by { unfold Tp.put; simp }; rw [e]; exact H.out, Gr.refl _ _ _⟩
  case round =>
    obtain ⟨j, ad1, cap1, rfl, hg, hA, hG⟩ := hrel
    have HG := hid hg
    have HGR := hid hG
    by_cases hj : j < k
    · have hji : (j : Int) < k := by omega
      have d0 := hA.c_bit
      have z : ∀ i, wr.frozen? ⟨b, i, none⟩ = false := hA.fz
      have hnx := put_bit t v j
      obtain ⟨T1, hT1⟩ : ∃ T1, T1 = t.put (v % 2 ^ j) j := ⟨_, rfl⟩
      rw [← hT1] at hA d0 hnx
      have hT1n : T1.n = t.n + j := by rw [hT1]; rfl
      obtain ⟨n1, hn1⟩ : ∃ n1, n1 = T1.n := ⟨_, rfl⟩
      rw [← hn1] at d0
      have hn1i : (n1 : Int) ≤ 4096 := by have := HN.out; omega
      have e1 : (v : Int) / 2 ^ j = ((v / 2 ^ j : Nat) : Int) := powI v j
      have hvj : v / 2 ^ j < 65536 := Nat.lt_of_le_of_lt (Nat.div_le_self _ _) HV16.out
      obtain ⟨y0, hy0⟩ : ∃ y, y = v / 2 ^ j := ⟨_, rfl⟩
      rw [← hy0] at e1 hvj hnx
      have e2 : bits .and .i64 (y0 : Int) 1 = ((y0 % 2 : Nat) : Int) := mask1 (by omega)
      obtain ⟨y, hy⟩ : ∃ y, y = y0 % 2 := ⟨_, rfl⟩
      rw [← hy] at e2 hnx
      have hy2 : y < 2 := by omega
      have hyi : (y : Int) < 2 := by omega
      obtain ⟨M, hM⟩ : ∃ M, wr.heap.size = M := ⟨_, rfl⟩
      have HA := hid hA
      have HM := hid hM
      have HN1 := hid hn1
      have HNX := hid hnx
      have HT := hid hT1n
      have HY2 := hid hy2
      clear hA hG hg hnx hT1 hT1n hn1 hy0 hy hvj hy2 hsh
      go_wp2_with (at_builtin; refine wp_appB rfl _ _ rfl (b + 1) ad1 n1 cap1 (bitsL T1.X T1.n) y rfl (by rw [HN1.out]; exact HA.out.own.fr ((Fr.refl Nob wr).alloc _) (fun _ _ x => x)) M 1 rfl (by rw [← HM.out]; exact World.cell?_alloc_new _ _ _ 0) (by omega) (by have := HA.out.lt; simp; omega) ?_; intro ad2 cap2 w2 ho2 hf2 hob2; have zc : ∀ i, w2.frozen? ⟨b, i, none⟩ = false := (HA.out.fz.alloc HA.out.lt _).fr hf2 (by have := HA.out.lt; simp; omega) (fun e => by have := (HA.out.own.lt e).1; omega); have cc : w2.cell? ⟨b, 0, none⟩ = some (.slice ad1 n1 cap1) := hf2.cell (((Fr.refl Nob wr).alloc _).cell d0 (fun x => x)) (fun e => by have := (HA.out.own.lt e).1; omega); have HO2 := hid ho2; have HF2 := hid hf2; have HB2 := hid hob2; clear ho2 hf2 hob2)
      go_roundg (gk - 1)
      case measure => have := HG.out; omega
      case rel =>
        have hfr := ((Fr.refl (Obs ad1) wr).alloc (Obj.cells #[.int .u8 y] 5)).trans HF2.out
        have hg := mget HA.out (by have := HO2.out; rw [HN1.out] at this; exact this) hfr HB2.out (by simp) HY2.out (by have := HT.out; have := HN.out; omega)
        rw [← HN1.out, ← HNX.out] at hg
        exact ⟨j + 1, ad2, cap2, by simp, by have := HG.out; omega, hg.1, HGR.out.trans hg.2⟩
    · have hji : ¬ (j : Int) < k := by omega
      have hjk : j = k := by omega
      subst hjk
      rw [HVM.out] at hA
      have HA := hid hA
      clear hA hG hg
      go_wp2_with fail
      exact hK.out _ _ ⟨rfl, ad1, cap1, HA.out, HGR.out⟩
theorem pad_step (t : Tp) (h : t.n % 8 ≠ 0) : (t.put 0 1).pad = t.pad := by
  unfold Tp.put Tp.pad up8
  simp; omega
set_option maxRecDepth 100000 in
set_option maxHeartbeats 1000000 in
theorem mpad_any {w : World} {b cap : Nat} {ad : Option Addr} {t : Tp} (h : MTp w b ad cap t) :
    Calls Tryz.prog 104 #[ptrV b] w fun e w' => e = .returned (.tuple #[]) ∧ ∃ ad' cap', MTp w' b ad' cap' t.pad ∧ Gr b w ad w' ad' := by
  have H := hid h
  clear h
  refine calls_via fun K hK => ?_
  unfold ptrV
  go_enter Tryz.func104, Tryz.ntmps104
  go_wp2_with fail
  go_loopg [] 8 (fun g wr => ∃ (T1 : Tp) (ad' : Option Addr) (cap' : Nat), T1.pad = t.pad ∧ (T1.n % 8 ≠ 0 → 8 - T1.n % 8 ≤ g) ∧ MTp wr b ad' cap' T1 ∧ Gr b w ad wr ad')
  case atStart => exact ⟨t, ad, cap, rfl, fun h => by omega, H.out, Gr.refl _ _ _⟩
  case round =>
    obtain ⟨T1, ad1, cap1, hp, hg, hA, hG⟩ := hrel
    have HG := hid hg
    have HP := hid hp
    have HGR := hid hG
    have HA := hid hA
    have d0 := hA.c_bit
    have z : ∀ i, wr.frozen? ⟨b, i, none⟩ = false := hA.fz
    have hn4 := hA.ok.len
    obtain ⟨n1, hn1⟩ : ∃ n1, n1 = T1.n := ⟨_, rfl⟩
    rw [← hn1] at d0 hn4
    have hn1i : (n1 : Int) ≤ 4096 := by omega
    have HN1 := hid hn1
    by_cases h8 : n1 % 8 = 0
    · have h8i : (n1 : Int) % 8 = 0 := by omega
      have hpe : T1.pad = T1 := by unfold Tp.pad up8; rw [← hn1]; cases T1; simp at hn1 ⊢; omega
      have HPE := hid hpe
      clear hA hG hg hp hn1 hpe
      go_wp2_with fail
      go_end0
      refine hK.out _ _ ⟨rfl, ad1, cap1, ?_, HGR.out⟩
      rw [← HP.out, HPE.out]; exact HA.out
    · have h8i : ((n1 : Int) % 8 == 0) = false := by simp; omega
      have h8j : ((n1 : Int) % 8 != 0) = true := by simp; omega
      obtain ⟨M, hM⟩ : ∃ M, wr.heap.size = M := ⟨_, rfl⟩
      have HM := hid hM
      have H8 := hid h8
      clear hA hG hg hp hn1 h8
      go_wp2_with (at_builtin; refine wp_appB rfl _ _ rfl (b + 1) ad1 n1 cap1 (bitsL T1.X T1.n) 0 rfl (by rw [HN1.out]; exact HA.out.own.fr ((Fr.refl Nob wr).alloc _) (fun _ _ x => x)) M 1 rfl (by rw [← HM.out]; exact World.cell?_alloc_new _ _ _ 0) (by omega) (by have := HA.out.lt; simp; omega) ?_; intro ad2 cap2 w2 ho2 hf2 hob2; have zc : ∀ i, w2.frozen? ⟨b, i, none⟩ = false := (HA.out.fz.alloc HA.out.lt _).fr hf2 (by have := HA.out.lt; simp; omega) (fun e => by have := (HA.out.own.lt e).1; omega); have cc : w2.cell? ⟨b, 0, none⟩ = some (.slice ad1 n1 cap1) := hf2.cell (((Fr.refl Nob wr).alloc _).cell d0 (fun x => x)) (fun e => by have := (HA.out.own.lt e).1; omega); have HO2 := hid ho2; have HF2 := hid hf2; have HB2 := hid hob2; clear ho2 hf2 hob2)
      go_roundg (gk - 1)
      case measure => have := HG.out; have := HN1.out; have := H8.out; omega
      case rel =>
        have hfr := ((Fr.refl (Obs ad1) wr).alloc (Obj.cells #[.int .u8 0] 5)).trans HF2.out
        have hl := HA.out.ok.len
        have hg := mget HA.out (by have := HO2.out; rw [HN1.out] at this; exact this) hfr HB2.out (by simp) (by omega) (by have := HN1.out; have := H8.out; omega)
        rw [← HN1.out] at hg
        refine ⟨T1.put 0 1, ad2, cap2, ?_, fun h => ?_, hg.1, HGR.out.trans hg.2⟩
        · rw [pad_step T1 (by rw [← HN1.out]; exact H8.out)]; exact HP.out
        · have h1 := HG.out
          have h2 := H8.out
          have h3 := HN1.out
          have e : (T1.put 0 1).n = T1.n + 1 := rfl
          rw [e] at h ⊢
          have := h1 (by omega)
          omega
end Go.Proofs.Qxb6500353aGreat
