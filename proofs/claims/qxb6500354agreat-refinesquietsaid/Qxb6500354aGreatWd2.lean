/- The law's world: Untouched, Keep, NewWorld. -/
import Derived.Test.Qxb6500354aGreatWd
namespace Go.Proofs.Qxb6500354aGreat
open Go.RowKit
set_option linter.unusedVariables false
set_option linter.unusedSimpArgs false

set_option maxRecDepth 100000 in
set_option maxHeartbeats 4000000 in
theorem untouched_any {w : World} {wb base : Nat} {vs : List Value} {mine : Value} {ml : List (List Int)} {D : List Nat} (hw : CellsAt w wb vs) (h8 : vs[8]? = some mine) (hm : OwnM w base mine ml D) (hst : Stamped ml) (hln : ml.length ≤ 16) :
    Calls Tryz.prog 10 #[.pointer (some ⟨wb, 0, none⟩)] w fun e w' => e = .returned (.bool true) ∧ w' = w := by
  have k8 := hw.c 8 _ h8
  obtain ⟨sa, sc, rfl⟩ := hm.mat.len
  obtain ⟨n, hn⟩ : ∃ z, ml.length = z := ⟨_, rfl⟩
  rw [hn] at hm k8 hln
  have hni : (n : Int) ≤ 16 := by omega
  have HM := hid hm
  have HN := hid hn
  have HST := hid hst
  clear hm hn hst h8 hln hw
  refine calls_via fun K hK => ?_
  go_enter Tryz.func10, Tryz.ntmps10
  go_wp2_with fail
  go_loopg [3] n (fun g i wr => g ≤ n ∧ wr = w ∧ i = .int .i64 ((n - g : Nat) : Int))
  case atStart => exact ⟨by omega, rfl, by simp⟩
  case round =>
    obtain ⟨hg, rfl, rfl⟩ := hrel
    by_cases hlt : 0 < gk
    · obtain ⟨j0, rfl⟩ : ∃ j, gk = j + 1 := ⟨gk - 1, by omega⟩
      obtain ⟨k, hk⟩ : ∃ k, n - (j0 + 1) = k := ⟨_, rfl⟩
      rw [hk]
      have hkn : k < n := by omega
      have hkn2 : (k : Int) < n := by omega
      obtain ⟨g1, b1, m1, c1, rfl, q1, q2, q3⟩ := HM.out.at HN.out hkn
      have hs := HST.out _ (getDL_mem (cs := ml) (k := k) (by rw [HN.out]; exact hkn))
      obtain ⟨a9, c9, h9⟩ := q2.len
      injection h9 with z1 z2 z3
      generalize ml.getD k [] = y at *
      subst z2
      obtain ⟨yn, hyn⟩ : ∃ z, y.length = z := ⟨_, rfl⟩
      rw [hyn] at q1 q2 hs
      have hyi : (yn : Int) ≤ 12 := by omega
      have HQ2 := hid q2
      have HYN := hid hyn
      have HS := hid hs.2
      have HK0 : Hid (k + 1 = n - j0 ∧ j0 + 1 ≤ n) := hid (by omega)
      clear q2 q3 hyn hs hk hg hlt z1 z3 hkn
      go_wp2_with fail
      go_loopg [4] yn (fun h i wi => h ≤ yn ∧ wi = wr ∧ i = .int .i64 ((yn - h : Nat) : Int))
      case atStart => exact ⟨by omega, rfl, by simp⟩
      case round =>
        obtain ⟨hh, rfl, rfl⟩ := hrel
        by_cases hlt2 : 0 < gk
        · obtain ⟨jj, hjj⟩ : ∃ k, yn - gk = k := ⟨_, rfl⟩
          rw [hjj]
          have hjs : jj < yn := by omega
          have hjs2 : (jj : Int) < yn := by omega
          obtain ⟨g2, o2, rfl, hc2⟩ := HQ2.out.at HYN.out hjs
          have hx := HS.out _ (getD_mem (c := y) (i := jj) (by rw [HYN.out]; exact hjs))
          rw [hx] at hc2
          have HJJ := hid hjj
          have HHH := hid hh
          have HLT2 := hid hlt2
          clear hx hjj hh hlt2 hjs
          go_wp2_with fail
          go_roundg (gk - 1)
          case measure => have := HLT2.out; omega
          case rel =>
            have hjj := HJJ.out
            have hlt := HLT2.out
            have hh := HHH.out
            have e1 : yn - (gk - 1) = jj + 1 := by omega
            exact ⟨by omega, rfl, by rw [e1]; simp⟩
        · have hg0 : gk = 0 := by omega
          subst hg0
          rw [Nat.sub_zero]
          clear hh hlt2
          go_wp2_with fail
          go_roundg j0
          case measure => omega
          case rel =>
            have hk := HK0.out
            exact ⟨by omega, rfl, by rw [← hk.1]; simp⟩
    · have hg0 : gk = 0 := by omega
      subst hg0
      rw [Nat.sub_zero]
      clear hg hlt
      go_wp2_with fail
      exact hK.out _ _ ⟨rfl, rfl⟩

/-! ### Keep -/
theorem OwnM.matBD {w : World} {base : Nat} {v : Value} {cs : List (List Int)} {D : List Nat} (h : OwnM w base v cs D) : ∃ us, MatB w v us cs ∧ ∀ i, i < cs.length → ∀ g, (us.getD i (.bool false)).ownBlock = some g → g ∉ D := by
  obtain ⟨us, h1, h2, h3⟩ := h
  refine ⟨us, ⟨h2.len, fun i hi => ⟨h2.it i hi, (h2.it i hi).one, fun g hg => (h2.ap i hi g hg).2⟩, ?_⟩, fun i hi => h3.2 i (by rw [h2.len]; exact hi)⟩
  rcases h1.2 with ⟨rfl, h0⟩ | ⟨g, cap, cur, rfl, hb, hg, hnc, hcm, hcs, ht⟩
  · exact .inl ⟨rfl, List.eq_nil_of_length_eq_zero h0⟩
  · refine .inr ⟨g, 0, cap, rfl, fun i hi => ?_⟩
    rw [Nat.zero_add, World.ownsRow.cellAt h1 i (by omega), List.getD_eq_getElem?_getD, List.getElem?_eq_getElem (by rw [h2.len]; exact hi)]; rfl
/-- append of many lists onto nil. -/
theorem wp_appNil {ops : Array Oper} {rest : List Oper} {o : Oper} {a : Act} {Q : Exit → Act → World → Prop} {w : World} (hgd : o.guard = none) (s x : Operand)
    (ho : o.op = .call { callee := .builtin .append, args := #[s, x], argTypes := #[37, 37] }) (hs : a.eval s = .slice none 0 0) (u : Value) (us2 : List Value) (cs2 : List (List Int)) (hx : a.eval x = u) (hu : MatB w u us2 cs2) (D : List Nat) (hD : ∀ g ∈ D, g < w.heap.size)
    (huD : ∀ i, i < cs2.length → ∀ g, (us2.getD i (.bool false)).ownBlock = some g → g ∉ D) (hb : cs2.length ≤ 1000000000)
    (h : ∀ v' w', OwnM w' w.heap.size v' cs2 D → w.grownBy w' none → wpList Tryz.prog ops Q rest (a.put o.dst v') w') :
    wpList Tryz.prog ops Q (o :: rest) a w := by
  obtain ⟨i0, hi, hz0, hz1, hz2⟩ := info_parts Tryz.info52
  obtain ⟨m1, m2, m3⟩ := hu
  have hown : w.ownsRow w.heap.size 52 1 (.slice none 0 0) 0 [] := World.ownsRow_nil _ _ _ _
  rcases m3 with ⟨rfl, rfl⟩ | ⟨g, off, cap, rfl, m4⟩
  · refine wpList_append_own_none hgd s x 37 ho w.heap.size 52 i0 1 Tryz.underlying37 hi (.slice none 0 0) 0 [] hs hown hx ?_
    exact h _ w (OwnM.nil _ _ _) ⟨rfl, rfl, rfl, Nat.le_refl _, fun _ _ _ => rfl⟩
  · refine wpList_append_own_at w hgd s x 37 ho w.heap.size 52 i0 (.slice none 0 0) 1 24 Tryz.underlying37 hi hz0 hz1 hz2 rfl (by decide) (.slice none 0 0) 0 [] hs hown ⟨g, off, none⟩ cs2.length cap us2 hx (by omega) ?_ ?_ (by unfold maxLen; omega) (by omega) (Nat.le_refl _) ?_
    · intro j y hy
      rw [addrAdd]
      have hj : j < us2.length := (List.getElem?_eq_some_iff.1 hy).1
      rw [m4 j (by omega), List.getD_eq_getElem?_getD, hy]; rfl
    · intro y hy
      obtain ⟨j, hj, rfl⟩ := List.getElem_of_mem hy
      have := (m2 j (by omega)).2.1
      rw [List.getD_eq_getElem?_getD, List.getElem?_eq_getElem hj] at this
      exact this
    · intro v' w' h3 h4 h5 h6
      have hf : Fr [] w w' := (Fr.refl _ _).grown h4 (by simp [Value.ownBlock])
      have h3b : w'.ownsRow w.heap.size 52 1 v' cs2.length us2 := by simpa using h3
      have hlt := owns_lt h3b
      refine h v' w' ⟨us2, h3b, ⟨m1, fun i hi2 => (m2 i hi2).1.fr hf (by simp), fun i hi2 g hg => ⟨fun e => by have := (hlt g e).1; have := (m2 i hi2).2.2 g hg; omega, Nat.lt_of_lt_of_le ((m2 i hi2).2.2 g hg) hf.size⟩⟩, ⟨fun g hg hm => by have := (hlt g hg).1; have := hD g hm; omega, fun i hi2 => huD i (by rw [← m1]; exact hi2)⟩⟩ h4
structure KeepOut (w w' : World) (base wb : Nat) (vs : List Value) (mine : Value) (D : List Nat) : Prop where
  ex : ∃ mine' ml', CellsAt w' wb (vs.set 8 mine') ∧ OwnM w' base mine' ml' D ∧ Stamped ml' ∧ ml'.length ≤ 16
  fr : Fr (wb :: blk mine) w w'
theorem stamped_snoc {ml : List (List Int)} {l : List Int} (h : Stamped ml) (hl : l.length ≤ 12 ∧ ∀ y ∈ l, y = -7777777) : Stamped (ml ++ [l]) := by
  intro x hx
  rcases List.mem_append.1 hx with e | e
  · exact h x e
  · rw [List.mem_singleton] at e; rw [e]; exact hl
theorem set_set {vs : List Value} {a b : Value} : (vs.set 8 a).set 8 b = vs.set 8 b := by simp
/-- The last step of Keep: the stamped list joins. -/
theorem keep_end {w w2 : World} {base wb : Nat} {vs : List Value} {mine v' : Value} {ml : List (List Int)} {l : List Int} {D : List Nat} (hv : 8 < vs.length) (hw : CellsAt w wb vs) (hwD : wb ∈ D) (hm : OwnM w base mine ml D) (ho : OwnM w2 base v' (ml ++ [l]) D) (hf : Fr (blk mine) w w2) (hst : Stamped ml) (hln : ml.length ≤ 15) (hl : l.length ≤ 12 ∧ ∀ y ∈ l, y = -7777777) :
    KeepOut w (w2.setCell ⟨wb, 8, none⟩ v') base wb vs mine D := by
  have hwm : wb ∉ blk mine := fun e => by obtain ⟨us, _, _, h3⟩ := hm; exact h3.1 wb (mem_blk.1 e) hwD
  have hw2 := hw.fr hf hwm (by omega)
  have hs : Fr [wb] w2 (w2.setCell ⟨wb, 8, none⟩ v') := (Fr.refl [wb] w2).setG 8 v'
  refine ⟨⟨v', ml ++ [l], hw2.set 8 hv v', ho.fr hs (fun x hx => by rw [List.mem_singleton] at hx; rw [hx]; exact .inl hwD), stamped_snoc hst hl, by rw [List.length_append]; simp; omega⟩, (hf.mono (fun x hx _ => List.mem_cons_of_mem _ hx)).trans (hs.mono (fun x hx _ => by rw [List.mem_singleton] at hx; rw [hx]; exact List.mem_cons_self))⟩
/-- Behind the first append (n = 16): the rest is a new slice, the world as it was. -/
structure Keep16 (w w2 : World) (wb : Nat) (vs : List Value) (v1 : Value) (rl : List (List Int)) (D : List Nat) : Prop where
  cc : CellsAt w wb vs
  lt : wb < w.heap.size
  fr : Fr [] w w2
  own : OwnM w2 w.heap.size v1 rl D
theorem Keep16.mk0 {w w2 : World} {wb : Nat} {vs : List Value} {v1 : Value} {rl : List (List Int)} {D : List Nat} (a : CellsAt w wb vs) (b : wb < w.heap.size) (c : Fr [] w w2) (d : OwnM w2 w.heap.size v1 rl D) : Keep16 w w2 wb vs v1 rl D := ⟨a, b, c, d⟩
section
variable {w w2 : World} {wb : Nat} {vs : List Value} {v1 : Value} {rl : List (List Int)} {D : List Nat}
theorem Keep16.nb (K : Keep16 w w2 wb vs v1 rl D) (h : wb < w.heap.size) : wb ∉ blk v1 := fun e => by have := K.own.ge wb (mem_blk.1 e); omega
theorem Keep16.f3 (K : Keep16 w w2 wb vs v1 rl D) : Fr [wb] w2 (w2.setCell ⟨wb, 8, none⟩ v1) := (Fr.refl [wb] w2).setG 8 v1
theorem Keep16.own3 (K : Keep16 w w2 wb vs v1 rl D) {base : Nat} (hb : base ≤ w.heap.size) (hwD : wb ∈ D) : OwnM (w2.setCell ⟨wb, 8, none⟩ v1) base v1 rl D :=
  (K.own.down hb).fr K.f3 (fun x hx => by rw [List.mem_singleton] at hx; rw [hx]; exact .inl hwD)
theorem Keep16.own4 (K : Keep16 w w2 wb vs v1 rl D) {base : Nat} (hb : base ≤ w.heap.size) (hwD : wb ∈ D) (o : Obj) : OwnM ((w2.setCell ⟨wb, 8, none⟩ v1).alloc o) base v1 rl D := (K.own3 hb hwD).fr ((Fr.refl [] _).alloc _) (by simp)
theorem Keep16.size (K : Keep16 w w2 wb vs v1 rl D) (o : Obj) : w.heap.size < ((w2.setCell ⟨wb, 8, none⟩ v1).alloc o).heap.size := by
  have := K.fr.size
  simp; omega
theorem Keep16.dlt (K : Keep16 w w2 wb vs v1 rl D) (hD : ∀ g ∈ D, g < w.heap.size) (o : Obj) : ∀ g ∈ D, g < ((w2.setCell ⟨wb, 8, none⟩ v1).alloc o).heap.size := fun g hg => Nat.lt_trans (hD g hg) (K.size o)
theorem Keep16.cell (K : Keep16 w w2 wb vs v1 rl D) (u : Value) : ((w2.setCell ⟨wb, 8, none⟩ v1).alloc (Obj.cells #[u] 52)).cell? ⟨w2.heap.size, 0, none⟩ = some u := by
  have := World.cell?_alloc_new (w2.setCell ⟨wb, 8, none⟩ v1) #[u] 52 0
  rw [show (w2.setCell ⟨wb, 8, none⟩ v1).heap.size = w2.heap.size by simp] at this
  exact this.trans rfl
theorem Keep16.ints (K : Keep16 w w2 wb vs v1 rl D) {lv : Value} {l : List Int} (hwD : wb ∈ D) (hlD : ∀ g, lv.ownBlock = some g → g ∉ D) (hl : Ints w lv l) (o : Obj) : Ints ((w2.setCell ⟨wb, 8, none⟩ v1).alloc o) lv l :=
  ((hl.fr K.fr (by simp)).fr K.f3 (fun g hg hm => by rw [List.mem_singleton] at hm; subst hm; exact hlD _ hg hwD)).alloc o
theorem Keep16.ne (K : Keep16 w w2 wb vs v1 rl D) {g : Nat} (hg : g < w.heap.size) (o : Obj) : v1.ownBlock ≠ some g ∧ g < ((w2.setCell ⟨wb, 8, none⟩ v1).alloc o).heap.size := ⟨fun e => by have := K.own.ge g e; omega, Nat.lt_trans hg (K.size o)⟩
theorem Keep16.fr4 (K : Keep16 w w2 wb vs v1 rl D) {w4 : World} {o : Obj} (hg : ((w2.setCell ⟨wb, 8, none⟩ v1).alloc o).grownBy w4 v1.ownBlock) : Fr (blk v1) (w2.setCell ⟨wb, 8, none⟩ v1) w4 := fr_appM _ hg
theorem Keep16.fin (K : Keep16 w w2 wb vs v1 rl D) {base : Nat} (hb : base ≤ w.heap.size) {w4 : World} {mine v4 : Value} {l : List Int} (hv : 8 < vs.length) (hwD : wb ∈ D) (ho : OwnM w4 base v4 (rl ++ [l]) D) (hf : Fr (blk v1) (w2.setCell ⟨wb, 8, none⟩ v1) w4) (hst : Stamped rl) (hln : rl.length ≤ 15) (hl : l.length ≤ 12 ∧ ∀ y ∈ l, y = -7777777) :
    KeepOut w (w4.setCell ⟨wb, 8, none⟩ v4) base wb vs mine D := by
  have hc3 : CellsAt (w2.setCell ⟨wb, 8, none⟩ v1) wb (vs.set 8 v1) := (K.cc.fr K.fr (by simp) (by omega)).set 8 hv v1
  obtain ⟨⟨m2, l2, h1, h2, h3, h4⟩, h5⟩ := keep_end (by rw [List.length_set]; exact hv) hc3 hwD (K.own3 hb hwD) ho hf hst hln hl
  rw [set_set] at h1
  refine ⟨⟨m2, l2, h1, h2, h3, h4⟩, ?_⟩
  have hs3 : Fr [wb] w (w2.setCell ⟨wb, 8, none⟩ v1) := (K.fr.mono (by simp)).trans K.f3
  refine (hs3.mono (S2 := wb :: blk mine) (fun x hx _ => by rw [List.mem_singleton] at hx; rw [hx]; exact List.mem_cons_self)).trans2 h5 (fun x hx hlt => ?_)
  rcases List.mem_cons.1 hx with e | e
  · rw [e]; exact List.mem_cons_self
  · have := K.own.ge x (mem_blk.1 e); omega
end
set_option maxRecDepth 100000 in
set_option maxHeartbeats 8000000 in
theorem keep_any {w : World} {wb base : Nat} {vs : List Value} {mine lv : Value} {ml : List (List Int)} {l : List Int} {D : List Nat} (hv : 8 < vs.length) (hw : CellsAt w wb vs) (h8 : vs[8]? = some mine) (hwD : wb ∈ D) (hD : ∀ g ∈ D, g < w.heap.size) (hm : OwnM w base mine ml D) (hbs : base ≤ w.heap.size) (hst : Stamped ml) (hln : ml.length ≤ 16)
    (hl : Ints w lv l) (hl2 : l.length ≤ 12 ∧ ∀ y ∈ l, y = -7777777) (hlv : ∀ g, lv.ownBlock = some g → mine.ownBlock ≠ some g ∧ g < w.heap.size ∧ g ∉ D) :
    Calls Tryz.prog 33 #[.pointer (some ⟨wb, 0, none⟩), lv] w fun e w' => e = .returned (.bool true) ∧ KeepOut w w' base wb vs mine D := by
  have HBS := hid hbs
  have k8 := hw.c 8 _ h8
  have kz := hw.fz
  obtain ⟨sa, sc, rfl⟩ := hm.mat.len
  obtain ⟨la, lc, rfl⟩ := hl.len
  have hwm : wb ∉ blk (.slice sa ml.length sc) := fun e => by obtain ⟨us, _, _, h3⟩ := hm; exact h3.1 wb (mem_blk.1 e) hwD
  obtain ⟨n, hn⟩ : ∃ z, ml.length = z := ⟨_, rfl⟩
  obtain ⟨ll, hll⟩ : ∃ z, l.length = z := ⟨_, rfl⟩
  rw [hn] at hm k8 hln hwm hlv h8 ⊢
  rw [hll] at hl hlv ⊢
  have HM := hid hm
  have HN := hid hn
  have HST := hid hst
  have HW := hid hw
  have HD := hid hD
  have HL := hid hl
  have HL2 := hid hl2
  have HLV := hid hlv
  have HV := hid hv
  have HWD := hid hwD
  have HWM := hid hwm
  have H8 := hid h8
  have HLN := hid hln
  have HWS := hid (lt_of_cellB k8)
  have ca2 : (w.alloc (Obj.cells #[.slice la ll lc] 52)).cell? ⟨w.heap.size, 0, none⟩ = some (.slice la ll lc) := (World.cell?_alloc_new _ _ _ 0).trans rfl
  have HA2 := hid ca2
  clear hm hn hst hw hD hl hl2 hlv hv hwD hwm h8 hll ca2
  by_cases h16 : n < 16
  · have hi : ¬ (16 : Int) ≤ n := by omega
    have HN16 := hid h16
    clear h16 hln
    refine calls_via fun K hK => ?_
    go_enter Tryz.func33, Tryz.ntmps33
    go_wp2_with (at_builtin; refine wp_appM rfl _ _ rfl base (.slice sa n sc) ml rfl (HM.out.fr ((Fr.refl [] w).alloc _) (by simp)) (fun g hg => by have := HD.out g hg; simp; omega) w.heap.size 1 (.slice la ll lc) l rfl HA2.out rfl (HL.out.fr ((Fr.refl [] w).alloc _) (by simp)) (fun g hg => ⟨(HLV.out g hg).1, (by have := (HLV.out g hg).2.1; simp; omega)⟩) (fun g hg => (HLV.out g hg).2.2) (by have := HN.out; have := HN16.out; omega) (by have := HBS.out; simp; omega) ?_; intro v' w2 ho2 hg2 ha2; have hf2 : Fr (blk (.slice sa n sc)) w w2 := fr_appM _ hg2; have kk1 : w2.cell? ⟨wb, 8, none⟩ = some (.slice sa n sc) := hf2.cell k8 HWM.out; have kk2 : w2.frozen? ⟨wb, 8, none⟩ = false := (hf2.froz HWS.out HWM.out).trans (kz 8); obtain ⟨va, vn, vc, rfl⟩ := ho2.sl; have HO2 := hid ho2; have HF2 := hid hf2; clear ho2 hg2 ha2 hf2)
    exact hK.out _ _ ⟨rfl, keep_end HV.out HW.out HWD.out HM.out HO2.out HF2.out HST.out (by have := HN.out; have := HN16.out; omega) HL2.out⟩
  · have hn16 : n = 16 := by omega
    subst hn16
    obtain ⟨us, hub, hud⟩ := HM.out.matBD
    obtain ⟨g1, b1, m1, c1, rfl, q1, q2, q3⟩ := HM.out.at HN.out (k := 0) (by omega)
    have hcap := HM.out.cap
    have hcap1 : ¬ sc = 1 := by omega
    have hcapi : ¬ (sc : Int) < 16 := by omega
    have hcapi2 : (16 : Int) ≤ sc := by omega
    have hs := HST.out _ (getDL_mem (cs := ml) (k := 0) (by rw [HN.out]; omega))
    obtain ⟨a9, c9, h9⟩ := q2.len
    injection h9 with z1 z2 z3
    generalize ml.getD 0 [] = y at *
    subst z2
    obtain ⟨yn, hyn⟩ : ∃ z, y.length = z := ⟨_, rfl⟩
    rw [hyn] at q1 q2 hs
    have hyi : (yn : Int) ≤ 12 := by omega
    have HQ2 := hid q2
    have HYN := hid hyn
    have HS := hid hs.2
    have HUB := hid hub
    have HUD : Hid (∀ i, i < (ml.drop 1).length → ∀ g, ((us.drop 1).getD i (.bool false)).ownBlock = some g → g ∉ D) := hid (fun i hi g hg => by
      rw [List.length_drop] at hi
      refine hud (1 + i) (by omega) g ?_
      rw [← hg, List.getD_eq_getElem?_getD, List.getD_eq_getElem?_getD, List.getElem?_drop])
    clear q2 q3 hyn hs z1 z3 hub hud h16 hln hcap hcapi hcapi2
    refine calls_via fun K hK => ?_
    go_enter Tryz.func33, Tryz.ntmps33
    go_wp2_with fail
    go_loopg [6] yn (fun h i wi => h ≤ yn ∧ wi = w ∧ i = .int .i64 ((yn - h : Nat) : Int))
    case atStart => exact ⟨by omega, rfl, by simp⟩
    case round =>
      obtain ⟨hh, rfl, rfl⟩ := hrel
      by_cases hlt2 : 0 < gk
      · obtain ⟨jj, hjj⟩ : ∃ k, yn - gk = k := ⟨_, rfl⟩
        rw [hjj]
        have hjs : jj < yn := by omega
        have hjs2 : (jj : Int) < yn := by omega
        obtain ⟨g2, o2, rfl, hc2⟩ := HQ2.out.at HYN.out hjs
        have hx := HS.out _ (getD_mem (c := y) (i := jj) (by rw [HYN.out]; exact hjs))
        rw [hx] at hc2
        have HJJ := hid hjj
        have HHH := hid hh
        have HLT2 := hid hlt2
        clear hx hjj hh hlt2 hjs
        go_wp2_with fail
        go_roundg (gk - 1)
        case measure => have := HLT2.out; omega
        case rel =>
          have hjj := HJJ.out
          have hlt := HLT2.out
          have hh := HHH.out
          have e1 : yn - (gk - 1) = jj + 1 := by omega
          exact ⟨by omega, rfl, by rw [e1]; simp⟩
      · have hg0 : gk = 0 := by omega
        subst hg0
        rw [Nat.sub_zero]
        clear hh hlt2
        go_wp2_with
          (first
          | (at_builtin; refine wp_appNil rfl _ _ rfl rfl (.slice (some ⟨g1, 1, none⟩) 15 (sc - 1)) (us.drop 1) (ml.drop 1) rfl (HUB.out.drop 1 15 (sc - 1) (by rw [HN.out])) D HD.out HUD.out (by have := HN.out; rw [List.length_drop]; omega) ?_; intro v' w2 ho2 hg2; obtain ⟨va, vn, vc, rfl⟩ := ho2.sl; have HF2 := hid (show Fr [] wr w2 from (Fr.refl _ _).grown hg2 (by simp [Value.ownBlock])); have HK := hid (Keep16.mk0 HW.out HWS.out HF2.out ho2); have kk1 : w2.cell? ⟨wb, 8, none⟩ = some (.slice (some ⟨g1, 0, none⟩) 16 sc) := HF2.out.cell k8 (by simp); have kk2 : w2.frozen? ⟨wb, 8, none⟩ = false := (HF2.out.froz HWS.out (by simp)).trans (kz 8); clear ho2 hg2 k8 q1 kz)
          | (at_builtin; refine wp_appM rfl _ _ rfl base (.slice va vn vc) (ml.drop 1) rfl (HK.out.own4 HBS.out HWD.out _) (HK.out.dlt HD.out _) w2.heap.size 1 (.slice la ll lc) l rfl (HK.out.cell _) rfl (HK.out.ints HWD.out (fun g hg => (HLV.out g hg).2.2) HL.out _) (fun g hg => HK.out.ne (HLV.out g hg).2.1 _) (fun g hg => (HLV.out g hg).2.2) (by have := HN.out; rw [List.length_drop]; omega) (by have := HBS.out; have := HF2.out.size; simp; omega) ?_; intro v' w4 ho4 hg4 ha4; obtain ⟨vd, ve, vf, rfl⟩ := ho4.sl; have HF4 := hid (HK.out.fr4 hg4); have kk3 : w4.cell? ⟨wb, 8, none⟩ = some (.slice va vn vc) := HF4.out.cell (((HW.out.fr HF2.out (by simp) (by have := HV.out; omega)).set 8 HV.out (.slice va vn vc)).c 8 _ (by simp [HV.out])) (HK.out.nb HWS.out); have kk4 : w4.frozen? ⟨wb, 8, none⟩ = false := (HF4.out.froz (by have := HWS.out; have := HF2.out.size; simp; omega) (HK.out.nb HWS.out)).trans (((HW.out.fr HF2.out (by simp) (by have := HV.out; omega)).set 8 HV.out (.slice va vn vc)).fz 8); have HO4 := hid ho4; clear ho4 hg4 ha4 kk1 kk2))
        exact hK.out _ _ ⟨rfl, HK.out.fin HBS.out HV.out HWD.out HO4.out HF4.out (fun x hx => HST.out x (List.mem_of_mem_drop hx)) (by rw [List.length_drop, HN.out]; omega) HL2.out⟩
end Go.Proofs.Qxb6500354aGreat
