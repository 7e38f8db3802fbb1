/- The walk over cnfm: Print. -/
import Derived.Test.Qxb6500354aGreatIto
import Derived.Test.Qxb6500354aGreatPrt3
import Derived.Test.Qxb6500354aGreatMod3
import Derived.Lib.AppendStr
namespace Go.Proofs.Qxb6500354aGreat
open Go.RowKit
set_option linter.unusedVariables false
set_option linter.unusedSimpArgs false

theorem strCells_eq (s : ByteArray) : Lib.strCells s = bcells (bytesOf s) := by
  unfold Lib.strCells bcells bytesOf
  rw [List.map_map]; rfl
theorem wp_appS {ops : Array Oper} {rest : List Oper} {o : Oper} {a : Act} {Q : Exit → Act → World → Prop} {w : World} (hgd : o.guard = none) (sl x : Operand)
    (ho : o.op = .call { callee := .builtin .append, args := #[sl, x], argTypes := #[95, 9] }) (base : Nat)
    (v : Value) (l : List Nat) (hs : a.eval sl = v) (hown : OwnB w base v l) (s : ByteArray) (hx : a.eval x = .string s)
    (hb : l.length + s.size ≤ 1099511627776) (hbase : base ≤ w.heap.size)
    (h : ∀ v' w', OwnB w' base v' (l ++ bytesOf s) → w.grownBy w' v.ownBlock → wpList Tryz.prog ops Q rest (a.put o.dst v') w') :
    wpList Tryz.prog ops Q (o :: rest) a w := by
  obtain ⟨i0, hi, hz0, hz1, hz2⟩ := info_parts Tryz.info5
  refine Lib.wpList_append_own_string (w := w) hgd sl x 95 9 ho base 5 i0 Tryz.underlying95 Tryz.underlying9 hi hz0 hz1 hz2 v l.length (bcells l) hs hown s hx (by unfold maxLen; omega) (by omega) hbase ?_
  intro v' w' h3 h4 _
  refine h v' w' ?_ h4
  unfold OwnB
  rw [bcells_append, List.length_append, bytesOf_len, ← strCells_eq]; exact h3
theorem wp_appB1 {ops : Array Oper} {rest : List Oper} {o : Oper} {a : Act} {Q : Exit → Act → World → Prop} {w : World} (hgd : o.guard = none) (sl x : Operand)
    (ho : o.op = .call { callee := .builtin .append, args := #[sl, x], argTypes := #[95, 95] }) (base : Nat)
    (v : Value) (l : List Nat) (hs : a.eval sl = v) (hown : OwnB w base v l) (N : Nat) (y : Nat) (hx : a.eval x = .slice (some ⟨N, 0, none⟩) 1 1) (hc : w.cell? ⟨N, 0, none⟩ = some (.int .u8 (y : Int)))
    (hb : l.length ≤ 109951162777) (hbase : base ≤ w.heap.size)
    (h : ∀ v' w', OwnB w' base v' (l ++ [y]) → w.grownBy w' v.ownBlock → wpList Tryz.prog ops Q rest (a.put o.dst v') w') :
    wpList Tryz.prog ops Q (o :: rest) a w := by
  obtain ⟨i0, hi, hz0, hz1, hz2⟩ := info_parts Tryz.info5
  refine wpList_append_own w hgd sl x 95 ho base 5 i0 (.int .u8 0) 1 1 Tryz.underlying95 hi hz0 hz1 hz2 rfl (by decide) v l.length (bcells l) hs hown ⟨N, 0, none⟩ 1 1 (bcells [y]) hx (by simp [bcells]) ?_ (bcells_one _) (by unfold maxLen; omega) (by omega) hbase ?_
  · intro j u hu
    have e : j = 0 := by have := (List.getElem?_eq_some_iff.1 hu).1; simp [bcells] at this; omega
    subst e
    rw [addrAdd, Nat.zero_add, hc]; exact hu
  · intro v' w' h3 h4 _
    refine h v' w' ?_ h4
    unfold OwnB
    rw [bcells_append, List.length_append]; exact h3
theorem OwnB.base {w : World} {base : Nat} {v : Value} {l : List Nat} (h : OwnB w base v l) : ∀ g, v.ownBlock = some g → base ≤ g := by
  intro g hg
  rcases h.shape with ⟨rfl, _⟩ | ⟨g2, cap, rfl, h1, _⟩
  · simp [Value.ownBlock] at hg
  · simp [Value.ownBlock] at hg; omega
theorem cfLoop_num : ∀ (f : List Int) (st : Bool) (last : Nat), cfLoop f st last = true → ∀ x ∈ f, flatNum x := by
  intro f
  induction f with
  | nil => intro _ _ _ x hx; simp at hx
  | cons y r ih =>
    intro st last h x hx
    rw [cfLoop_cons] at h
    by_cases h1 : y = 13 ∧ st = true
    · rw [if_pos h1] at h
      by_cases hr : r = []
      · rw [if_pos hr] at h; simp at h
      · rw [if_neg hr] at h
        rcases List.mem_cons.1 hx with e | e
        · exact .inl (e.trans h1.1)
        · exact ih _ _ h x e
    · rw [if_neg h1] at h
      by_cases h0 : y = 0
      · rw [if_pos h0] at h
        rcases List.mem_cons.1 hx with e | e
        · exact .inr (.inl (e.trans h0))
        · exact ih _ _ h x e
      · rw [if_neg h0] at h
        by_cases hg : good y = true
        · rw [if_pos hg] at h
          by_cases hl : last < y.natAbs
          · rw [if_pos hl] at h
            rcases List.mem_cons.1 hx with e | e
            · exact .inr (.inr (e ▸ hg))
            · exact ih _ _ h x e
          · rw [if_neg hl] at h; simp at h
        · rw [if_neg hg] at h; simp at h
theorem checkFlat_num {f : List Int} (h : checkFlatF f = 0) : ∀ x ∈ f, flatNum x := by
  unfold checkFlatF at h
  split at h
  · next h2 => exact cfLoop_num f true 0 h2
  · omega
theorem checkFlat_ne {f : List Int} (h : checkFlatF f ≠ 0) : checkFlatF f = 6 := by
  unfold checkFlatF at h ⊢
  split
  · split
    · rfl
    · next h1 h2 => rw [if_pos h1, if_neg h2] at h; exact absurd rfl h
  · rfl

set_option maxRecDepth 100000 in
set_option maxHeartbeats 8000000 in
theorem mprint_any {w : World} {b : Nat} (h : PMAt w b) {v : Value} {f : List Int} (hv : Ints w v f) (hb : f.length ≤ 262144) (hvb : ∀ g, v.ownBlock = some g → g ≠ b) :
    Calls Tryz.prog 54 #[.pointer (some ⟨b, 0, none⟩), v] w fun e w' => (∃ (s : ByteArray) (k : Nat), e = .returned (.tuple #[.string s, .int .i64 (k : Nat)])) ∧ PMAt w' b ∧ Fr [b] w w' := by
  obtain ⟨a, cap, hea⟩ := hv.len
  subst hea
  obtain ⟨n, hn⟩ : ∃ n, f.length = n := ⟨_, rfl⟩
  rw [hn] at hv hb hvb ⊢
  have HH := hid h
  obtain ⟨⟨x0, y0, h0, h1⟩, hfz⟩ := h
  have hbi : (n : Int) ≤ 262144 := by omega
  obtain ⟨w1, hw1⟩ : ∃ w1, w.setCell ⟨b, 1, none⟩ (.int .i64 (wrap64 (y0 + 1))) = w1 := ⟨_, rfl⟩
  have hf1 : Fr [b] w w1 := by rw [← hw1]; exact (Fr.refl [b] w).set (by simp) _
  have hp1 : PMAt w1 b := by rw [← hw1]; exact HH.out.set1 _
  have hv1 := hv.fr hf1 (fun g hg hm => hvb g hg (by simpa using hm))
  have HF1 := hid hf1
  have HP1 := hid hp1
  have HV1 := hid hv1
  have HN := hid hn
  have HCF := hid (checkFlat_any hv1 (by omega))
  have hbw1 := hp1.lt
  have HBW := hid hbw1
  clear hv hvb hf1 hp1 hv1 hn hbw1
  obtain ⟨c, hc⟩ : ∃ c, checkFlatF f = c := ⟨_, rfl⟩
  rw [hc] at HCF
  by_cases hc0 : c = 0
  · subst hc0
    have HX := hid (checkFlat_num hc)
    clear hc
    refine calls_via fun K hK => ?_
    go_enter Tryz.func54, Tryz.ntmps54
    go_wp2_with fail
    refine HCF.out.mono ?_
    rintro e w' ⟨rfl, hw⟩
    have hw2 := hw.symm
    subst hw2
    rw [show ((0 : Nat) : Int) = 0 from rfl]
    obtain ⟨N, hN⟩ : ∃ N, w1.heap.size = N := ⟨_, rfl⟩
    have HNN := hid hN
    clear hw hw1 h0 h1 hfz hN
    go_wp2_with fail
    go_loopg [6, 7] n (fun g sv i wr => ∃ bs : List Nat, g ≤ n ∧ i = .int .i64 ((n - g : Nat) : Int) ∧ OwnB wr N sv bs ∧ bs.length ≤ 32 * (n - g) ∧ Fr [] w1 wr)
    case atStart => exact ⟨[], by omega, by simp, OwnB.nil _ _, by simp, Fr.refl _ _⟩
    case round =>
      obtain ⟨bs, hg, rfl, ho, hbl, hf⟩ := hrel
      obtain ⟨sv, hsv⟩ : ∃ x, u6 = x := ⟨_, rfl⟩
      rw [hsv] at ho ⊢
      clear hsv
      have HO := hid ho
      have HF := hid hf
      by_cases hlt : 0 < gk
      · obtain ⟨k, hk⟩ : ∃ k, n - gk = k := ⟨_, rfl⟩
        rw [hk] at hbl ⊢
        have hkn : k < n := by omega
        have hkn2 : (k : Int) < n := by omega
        obtain ⟨g1, o1, rfl, hc1⟩ := (HV1.out.fr hf (by simp)).at HN.out hkn
        have hx := HX.out _ (getD_mem (c := f) (i := k) (by rw [HN.out]; exact hkn))
        generalize f.getD k 0 = x at *
        have HBL : Hid (bs.length ≤ 32 * 262144) := hid (by omega)
        have HBL2 := hid hbl
        have HK0 := hid hk
        have HSZ : Hid (N ≤ wr.heap.size) := hid (by rw [← HNN.out]; exact hf.size)
        have HLT := hid hlt
        have HG := hid hg
        clear ho hf hbl hk hlt hg
        by_cases h13 : x = 13
        · subst h13
          go_wp2_with (at_builtin; refine wp_appS rfl _ _ rfl N sv bs rfl HO.out ⟨#[100, 32]⟩ rfl (by have := HBL.out; show _ + 2 ≤ _; omega) HSZ.out ?_; intro v2 w2 ho2 hg2; have HO2 := hid ho2; have HG2 := hid ((Fr.refl (blk sv) _).grown hg2 (fun k hk _ => mem_blk.2 hk)); clear ho2 hg2)
          go_roundg (gk - 1)
          case measure => have := HLT.out; omega
          case rel =>
            have hk := HK0.out
            have hg := HG.out
            have hlt := HLT.out
            have e1 : n - (gk - 1) = k + 1 := by omega
            exact ⟨_, by omega, by rw [e1]; simp, HO2.out, by rw [e1, List.length_append, bytesOf_len]; have := HBL2.out; show _ + 2 ≤ _; omega, HF.out.trans2 HG2.out (fun y hy hlt2 => by have := HO.out.base y (mem_blk.1 hy); have := HNN.out; omega)⟩
        · have hb13 : (x == 13) = false := by simpa using h13
          by_cases hx0 : x = 0
          · subst hx0
            go_wp2_with (at_builtin; refine wp_appS rfl _ _ rfl N sv bs rfl HO.out ⟨#[48, 10]⟩ rfl (by have := HBL.out; show _ + 2 ≤ _; omega) HSZ.out ?_; intro v2 w2 ho2 hg2; have HO2 := hid ho2; have HG2 := hid ((Fr.refl (blk sv) _).grown hg2 (fun k hk _ => mem_blk.2 hk)); clear ho2 hg2)
            go_roundg (gk - 1)
            case measure => have := HLT.out; omega
            case rel =>
              have hk := HK0.out
              have hg := HG.out
              have hlt := HLT.out
              have e1 : n - (gk - 1) = k + 1 := by omega
              exact ⟨_, by omega, by rw [e1]; simp, HO2.out, by rw [e1, List.length_append, bytesOf_len]; have := HBL2.out; show _ + 2 ≤ _; omega, HF.out.trans2 HG2.out (fun y hy hlt2 => by have := HO.out.base y (mem_blk.1 hy); have := HNN.out; omega)⟩
          · have hb0 : (x == 0) = false := by simpa using hx0
            have HIT := hid (itoa_any x ((hx.resolve_left h13).resolve_left hx0) wr)
            clear hx h13 hx0
            go_wp2_with fail
            refine HIT.out.mono ?_
            rintro e w3 ⟨⟨s, rfl, hs24⟩, hf3⟩
            have HO3 := hid (HO.out.fr hf3 (by simp))
            have HF3 := hid hf3
            have HS := hid hs24
            clear hf3 hs24
            go_wp2_with (first
              | (at_builtin; refine wp_appS rfl _ _ rfl N sv bs rfl HO3.out s rfl (by have := HBL.out; have := HS.out; omega) (by have := HSZ.out; have := HF3.out.size; omega) ?_; intro v4 w4 ho4 hg4; have HO4 := hid ho4; have HG4 := hid ((Fr.refl (blk sv) _).grown hg4 (fun k hk _ => mem_blk.2 hk)); clear ho4 hg4)
              | (at_builtin; refine wp_appB1 rfl _ _ rfl N v4 (bs ++ bytesOf s) rfl (HO4.out.fr ((Fr.refl [] w4).alloc _) (by simp)) w4.heap.size 32 rfl ((World.cell?_alloc_new _ _ _ 0).trans rfl) (by have := HBL.out; have := HS.out; rw [List.length_append, bytesOf_len]; omega) (by have := HSZ.out; have := HF3.out.size; have := HG4.out.size; simp; omega) ?_; intro v5 w5 ho5 hg5; have HO5 := hid ho5; have HG5 := hid (fr_app _ hg5); clear ho5 hg5))
            go_roundg (gk - 1)
            case measure => have := HLT.out; omega
            case rel =>
              have hk := HK0.out
              have hg := HG.out
              have hlt := HLT.out
              have e1 : n - (gk - 1) = k + 1 := by omega
              refine ⟨_, by omega, by rw [e1]; simp, HO5.out, by rw [e1]; simp only [List.length_append, bytesOf_len, List.length_cons, List.length_nil]; have := HBL2.out; have := HS.out; omega, ?_⟩
              exact ((HF.out.trans HF3.out).trans2 HG4.out (fun y hy hlt2 => by have := HO3.out.base y (mem_blk.1 hy); have := HNN.out; omega)).trans2 HG5.out (fun y hy hlt2 => by have := HO4.out.base y (mem_blk.1 hy); have := HNN.out; omega)
      · have hg0 : gk = 0 := by omega
        subst hg0
        rw [Nat.sub_zero]
        clear hlt hg hbl
        rcases ho.shape with ⟨rfl, rfl⟩ | ⟨g1, cap1, rfl, _, _⟩
        · have hcv := conv_strN_nil wr 0 0
          clear ho hf
          go_wp2_with fail
          exact hK.out _ _ ⟨⟨_, 0, rfl⟩, HP1.out.fr HF.out (by simp), HF1.out.trans (HF.out.mono (by simp))⟩
        · have hcv := conv_strN ho rfl
          clear ho hf
          go_wp2_with fail
          exact hK.out _ _ ⟨⟨_, 0, rfl⟩, HP1.out.fr HF.out (by simp), HF1.out.trans (HF.out.mono (by simp))⟩
  · have h6 := checkFlat_ne (f := f) (by rw [hc]; exact hc0)
    rw [hc] at h6
    subst h6
    clear hc hc0
    refine calls_via fun K hK => ?_
    go_enter Tryz.func54, Tryz.ntmps54
    go_wp2_with fail
    refine HCF.out.mono ?_
    rintro e w' ⟨rfl, hw⟩
    have hw2 := hw.symm
    subst hw2
    rw [show ((6 : Nat) : Int) = 6 from rfl]
    clear hw hw1 h0 h1 hfz
    go_wp2_with fail
    exact hK.out _ _ ⟨⟨_, 6, rfl⟩, HP1.out, HF1.out⟩
end Go.Proofs.Qxb6500354aGreat
