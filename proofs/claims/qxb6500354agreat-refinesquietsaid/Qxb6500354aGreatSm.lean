/- The walks over searchm: deny, row, next. -/
import Derived.Test.Qxb6500354aGreatMod3
namespace Go.Proofs.Qxb6500354aGreat
open Go.RowKit
set_option linter.unusedVariables false
set_option linter.unusedSimpArgs false

set_option maxRecDepth 100000 in
set_option maxHeartbeats 4000000 in
theorem deny_any {w : World} {v : Value} {c : List Int} (h : Ints w v c) (hg : ∀ x ∈ c, good x = true) (hb : c.length ≤ 12) :
    Calls Tryz.prog 91 #[v] w fun e w' => ∃ v', e = .returned v' ∧ OwnI w' w.heap.size v' (negL c) ∧ Fr [] w w' := by
  obtain ⟨a, cap, hea⟩ := h.len
  subst hea
  obtain ⟨n, hn⟩ : ∃ n, c.length = n := ⟨_, rfl⟩
  rw [hn] at h hb ⊢
  have HI := hid h
  have HN := hid hn
  have HG := hid hg
  obtain ⟨N, hN⟩ : ∃ N, w.heap.size = N := ⟨_, rfl⟩
  rw [hN]
  have HNN := hid hN
  clear h hn hg hN
  refine calls_via fun K hK => ?_
  go_enter Tryz.func91, Tryz.ntmps91
  go_wp2_with fail
  go_loopg [3, 4] n (fun g ov i wr => g ≤ n ∧ i = .int .i64 ((n - g : Nat) : Int) ∧ OwnI wr N ov (negL (c.take (n - g))) ∧ Fr [] w wr)
  case atStart => exact ⟨by omega, by simp, by simp [negL]; exact OwnI.nil _ _, Fr.refl _ _⟩
  case round =>
    obtain ⟨hg, rfl, ho, hf⟩ := hrel
    obtain ⟨ov, hov⟩ : ∃ x, u3 = x := ⟨_, rfl⟩
    rw [hov] at ho ⊢
    clear hov
    have HO := hid ho
    have HF := hid hf
    by_cases hlt : 0 < gk
    · obtain ⟨k, hk⟩ : ∃ k, n - gk = k := ⟨_, rfl⟩
      rw [hk] at HO ⊢
      have hkn : k < n := by omega
      have hkn2 : (k : Int) < n := by omega
      obtain ⟨g1, o1, rfl, hc1⟩ := (HI.out.fr hf (by simp)).at HN.out hkn
      have hx := HG.out _ (getD_mem (c := c) (i := k) (by rw [HN.out]; exact hkn))
      have hnt := negL_take (c := c) (k := k) (by rw [HN.out]; exact hkn)
      generalize c.getD k 0 = x at *
      have hx12 := (good_iff _).1 hx
      have hxa : -12 ≤ x := by omega
      have hxb : x ≤ 12 := by omega
      have hll : (negL (c.take k)).length ≤ 12 := by simp [negL]; omega
      have HLL := hid hll
      have HNT := hid hnt
      have HK0 := hid hk
      clear ho hf hk hx hnt hx12 hll
      go_wp2_with (first | (at_builtin; refine wp_app rfl _ _ rfl N ov (negL (c.take k)) rfl (HO.out.alloc _) (.slice (some ⟨wr.heap.size, 0, none⟩) 1 1) [-x] rfl (ints_oneN (by simp) _ _) (by have := HLL.out; simp; omega) (by have := HF.out.size; have := HNN.out; simp; omega) ?_; intro v' w2 ho3 hg3 hnil3))
      have hf3 : Fr [] w w2 := (HF.out.alloc _).app hg3 (HO.out.alloc _) (by rw [HNN.out]; omega)
      have HO3 := hid ho3
      have HF3 := hid hf3
      clear ho3 hf3 hg3 hnil3
      go_roundg (gk - 1)
      case measure => omega
      case rel =>
        have hk := HK0.out
        have e1 : n - (gk - 1) = k + 1 := by omega
        exact ⟨by omega, by rw [e1]; simp, by rw [e1, HNT.out]; exact HO3.out, HF3.out⟩
    · have hg0 : gk = 0 := by omega
      subst hg0
      rw [Nat.sub_zero, List.take_of_length_le (by rw [HN.out]; exact Nat.le_refl _)] at ho
      have HO2 := hid ho
      clear ho hf hlt hg HO
      go_wp2_with fail
      exact hK.out _ _ ⟨_, rfl, HO2.out, HF.out⟩

/-- An owned slice that has grown: where it lies now; what has turned. -/
structure Grew (w w' : World) (base : Nat) (v v' : Value) (l : List Int) : Prop where
  own : OwnI w' base v' l
  nx : Nx w v v'
  fr : Fr (blk v) w w'
theorem Grew.trans {w w1 w2 : World} {base : Nat} {v v1 v2 : Value} {l l2 : List Int} (h : Grew w w1 base v v1 l) (k : Grew w1 w2 base v1 v2 l2) : Grew w w2 base v v2 l2 := by
  refine ⟨k.own, h.nx.trans k.nx h.fr.size, h.fr.trans2 k.fr (fun x hx hlt => ?_)⟩
  rcases h.nx x (mem_blk.1 hx) with e | e
  · exact mem_blk.2 e
  · omega
theorem Grew.alloc {w w' : World} {base : Nat} {v v' : Value} {l : List Int} {o : Obj} (h : Grew (w.alloc o) w' base v v' l) : Grew w w' base v v' l := by
  have hf : Fr [] w (w.alloc o) := (Fr.refl _ _).alloc _
  exact ⟨h.own, fun g hg => (h.nx g hg).imp (fun z => z) (fun z => Nat.le_trans hf.size z), (hf.mono (by simp)).trans h.fr⟩
theorem Grew.of {w w' : World} {base : Nat} {v v' : Value} {l : List Int} (ho : OwnI w' base v' l) (hg : w.grownBy w' v.ownBlock) (ha : v'.ownBlock = v.ownBlock ∨ v'.ownBlock = some w.heap.size) : Grew w w' base v v' l :=
  ⟨ho, Nx.of_at ha, fr_app0 hg⟩

set_option maxRecDepth 100000 in
set_option maxHeartbeats 4000000 in
theorem mrow_any {w : World} {base : Nat} {fv v : Value} {l c : List Int} (ho : OwnI w base fv l) (h : Ints w v c) (d : Bool) (hlb : l.length ≤ 1000000000) (hcb : c.length ≤ 12) (hba : base ≤ w.heap.size) (hdj : ∀ g, v.ownBlock = some g → fv.ownBlock ≠ some g) :
    Calls Tryz.prog 93 #[fv, .bool d, v] w fun e w' => ∃ v', e = .returned v' ∧ Grew w w' base fv v' (l ++ flatRow (d, c)) := by
  have HO := hid ho
  have HI := hid h
  have HD := hid hdj
  have HB := hid hba
  have HL := hid hlb
  have HC := hid hcb
  clear ho h hdj hba hlb hcb
  cases d with
  | false =>
    refine calls_via fun K hK => ?_
    go_enter Tryz.func93, Tryz.ntmps93
    go_wp2_with (first
      | (at_builtin; refine wp_app_at rfl _ _ rfl base fv l rfl HO.out v c rfl HI.out (by have := HL.out; have := HC.out; omega) HB.out ?_; intro v1 w1 ho1 hg1 _ ha1; have HG1 := hid (Grew.of ho1 hg1 ha1); clear ho1 hg1 ha1)
      | (at_builtin; refine wp_app_at rfl _ _ rfl base v1 (l ++ c) rfl (HG1.out.own.alloc _) (.slice (some ⟨w1.heap.size, 0, none⟩) 1 1) [0] rfl (ints_oneN (by simp) _ _) (by have := HL.out; have := HC.out; simp; omega) (by have := HB.out; have := HG1.out.fr.size; simp; omega) ?_; intro v2 w2 ho2 hg2 _ ha2; have HG2 := hid (Grew.alloc (Grew.of ho2 hg2 ha2)); clear ho2 hg2 ha2))
    refine hK.out _ _ ⟨_, rfl, ?_⟩
    have := HG1.out.trans HG2.out
    simpa [flatRow] using this
  | true =>
    refine calls_via fun K hK => ?_
    go_enter Tryz.func93, Tryz.ntmps93
    go_wp2_with (first
      | (at_builtin; refine wp_app_at rfl _ _ rfl base fv l rfl (HO.out.alloc _) (.slice (some ⟨w.heap.size, 0, none⟩) 1 1) [13] rfl (ints_oneN (by simp) _ _) (by have := HL.out; simp; omega) (by have := HB.out; simp; omega) ?_; intro v0 w0 ho0 hg0 _ ha0; have HG0 := hid (Grew.alloc (Grew.of ho0 hg0 ha0)); have HI2 := hid (HI.out.fr HG0.out.fr (fun g hg hm => HD.out g hg (mem_blk.1 hm))); clear ho0 hg0 ha0)
      | (at_builtin; refine wp_app_at rfl _ _ rfl base v0 (l ++ [13]) rfl HG0.out.own v c rfl HI2.out (by have := HL.out; have := HC.out; simp; omega) (by have := HB.out; have := HG0.out.fr.size; omega) ?_; intro v1 w1 ho1 hg1 _ ha1; have HG1 := hid (Grew.of ho1 hg1 ha1); clear ho1 hg1 ha1)
      | (at_builtin; refine wp_app_at rfl _ _ rfl base v1 (l ++ [13] ++ c) rfl (HG1.out.own.alloc _) (.slice (some ⟨w1.heap.size, 0, none⟩) 1 1) [0] rfl (ints_oneN (by simp) _ _) (by have := HL.out; have := HC.out; simp; omega) (by have := HB.out; have := HG0.out.fr.size; have := HG1.out.fr.size; simp; omega) ?_; intro v2 w2 ho2 hg2 _ ha2; have HG2 := hid (Grew.alloc (Grew.of ho2 hg2 ha2)); clear ho2 hg2 ha2))
    refine hK.out _ _ ⟨_, rfl, ?_⟩
    have := (HG0.out.trans HG1.out).trans HG2.out
    simpa [flatRow] using this

/-! ### next -/
set_option maxHeartbeats 4000000 in
theorem next_any {w : World} {u : Value} {cs : List (List Int)} (hm : Mat w u cs) (hok : RowsOK cs) (v : Nat) (hv : v ≤ 12) :
    Calls Tryz.prog 92 #[u, .int .i64 (v : Nat)] w fun e w' => (∃ r : Nat, e = .returned (.int .i64 (r : Nat)) ∧ (r = 0 ∨ v < r ∧ r ≤ 12)) ∧ ∃ q, w' = w.drewN q := by
  obtain ⟨a, cap, hea⟩ := hm.len
  subst hea
  obtain ⟨n, hn⟩ : ∃ n, cs.length = n := ⟨_, rfl⟩
  have hnb := hok.1
  rw [hn] at hm hnb ⊢
  have HM := hid hm
  have HN := hid hn
  have HOK := hid hok
  have HV := hid hv
  have hvi : (v : Int) ≤ 12 := by omega
  clear hm hn hok hv
  refine calls_via fun K hK => ?_
  go_enter Tryz.func92, Tryz.ntmps92
  go_wp2_with fail
  go_loopg [5] (12 - v) (fun g i wr => ∃ r : Nat, g + r = 13 ∧ i = .int .i64 (r : Nat) ∧ v < r ∧ ∃ q, wr = w.drewN q)
  case atStart => exact ⟨v + 1, by omega, by simp, by omega, 0, rfl⟩
  case round =>
    obtain ⟨r, hg, rfl, hr, q, rfl⟩ := hrel
    have HG := hid hg
    have HR := hid hr
    by_cases hlt : r ≤ 12
    · have hlt2 : (r : Int) ≤ 12 := by omega
      have hdec : decide ((r : Int) ≤ 12) = true := by simpa using hlt2
      have HLT := hid hlt
      clear hg hr hlt
      go_wp2_with fail
      go_loopg [6] n (fun h j wi => h ≤ n ∧ j = .int .i64 ((n - h : Nat) : Int) ∧ ∃ q2, wi = w.drewN q2)
      case atStart => exact ⟨by omega, by simp, q, rfl⟩
      case round =>
        obtain ⟨hh, rfl, q2, rfl⟩ := hrel
        by_cases hl2 : 0 < gk
        · obtain ⟨k, hk⟩ : ∃ k, n - gk = k := ⟨_, rfl⟩
          rw [hk]
          have hkn : k < n := by omega
          have hkn2 : (k : Int) < n := by omega
          obtain ⟨g1, o1, b1, m1, c1, rfl, hc1, hi1⟩ := (HM.out.fr0 (Fr.of_drewN (w := w) (n := q2) [])).at HN.out hkn
          have hx := HOK.out.at (k := k) (by rw [HN.out]; exact hkn)
          generalize cs.getD k [] = x at *
          have HT := hid (val_any hi1 (r : Int) (by omega) (by have := HLT.out; omega) (by omega))
          obtain ⟨vv, hvv⟩ : ∃ z, valF (r : Int) x = z := ⟨_, rfl⟩
          rw [hvv] at HT
          have HK0 := hid hk
          have HHG := hid hh
          have HL2 := hid hl2
          clear hk hx hvv hi1 hh hl2
          by_cases e0 : vv = 0
          · have hb0 : (vv != 0) = false := by simp [e0]
            clear e0
            go_wp2_with (first | (go_at_call 130; refine HT.out.mono ?_; rintro e w' ⟨rfl, n2, hw⟩; have hw2 := hw; subst hw2; clear hw))
            go_roundg (gk - 1)
            case measure => have := HL2.out; omega
            case rel =>
              have hk := HK0.out
              have hg2 := HHG.out
              have hlt2 := HL2.out
              have e1 : n - (gk - 1) = k + 1 := by omega
              exact ⟨by omega, by rw [e1]; simp, _, by first | rfl | exact World.drewN_drewN _ _ _⟩
          · have hb0 : (vv != 0) = true := by simp [e0]
            clear e0
            go_wp2_with (first | (go_at_call 130; refine HT.out.mono ?_; rintro e w' ⟨rfl, n2, hw⟩; have hw2 := hw; subst hw2; clear hw))
            exact hK.out _ _ ⟨⟨r, rfl, .inr ⟨HR.out, HLT.out⟩⟩, _, by first | rfl | exact World.drewN_drewN _ _ _⟩
        · have hg0 : gk = 0 := by omega
          subst hg0
          rw [Nat.sub_zero]
          clear hh hl2
          go_wp2_with fail
          go_roundg (12 - r)
          case measure => have := HG.out; have := HLT.out; omega
          case rel =>
            have hg := HG.out
            have hr := HR.out
            have hlt := HLT.out
            exact ⟨r + 1, by omega, by simp, by omega, _, rfl⟩
    · have hr13 : r = 13 := by have := HV.out; omega
      subst hr13
      clear hg hr hlt
      go_wp2_with fail
      exact hK.out _ _ ⟨⟨0, rfl, .inl rfl⟩, _, rfl⟩
end Go.Proofs.Qxb6500354aGreat
