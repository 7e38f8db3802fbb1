/- THE WALKS over watch: CheckClause, Add. -/
import Derived.Test.Qxb6500354aGreatWat2
namespace Go.Proofs.Qxb6500354aGreat
open Go.RowKit
set_option linter.unusedVariables false
set_option linter.unusedSimpArgs false

def lastOf (l : List Int) (i : Nat) : Nat := if i = 0 then 0 else (l.getD (i - 1) 0).natAbs
theorem drop_cons {l : List Int} {i : Nat} (h : i < l.length) : l.drop i = l.getD i 0 :: l.drop (i + 1) := by
  rw [List.getD_eq_getElem?_getD, List.getElem?_eq_getElem h, List.drop_eq_getElem_cons h]; rfl
theorem ccLoop_cons (x : Int) (r : List Int) (k : Nat) : ccLoop (x :: r) k = if good x then (if k < x.natAbs then ccLoop r x.natAbs else 8) else 7 := rfl
theorem ccLoop_facts : ∀ (l : List Int) (k : Nat), ccLoop l k = 0 → (∀ x ∈ l, good x = true ∧ k < x.natAbs) ∧ (l.map Int.natAbs).Pairwise (· < ·) := by
  intro l
  induction l with
  | nil => intro k _; simp
  | cons x r ih =>
    intro k h
    unfold ccLoop at h
    split at h
    · split at h
      · rename_i hg hk
        obtain ⟨h1, h2⟩ := ih _ h
        refine ⟨?_, ?_⟩
        · intro y hy
          rcases List.mem_cons.1 hy with rfl | hy
          · exact ⟨hg, hk⟩
          · have := h1 y hy; exact ⟨this.1, by omega⟩
        · rw [List.map_cons, List.pairwise_cons]
          refine ⟨?_, h2⟩
          intro y hy
          obtain ⟨z, hz, rfl⟩ := List.mem_map.1 hy
          exact (h1 z hz).2
      · cases h
    · cases h
theorem ccLoop_mk : ∀ (l : List Int) (k : Nat), (∀ x ∈ l, good x = true ∧ k < x.natAbs) → (l.map Int.natAbs).Pairwise (· < ·) → ccLoop l k = 0 := by
  intro l
  induction l with
  | nil => intro k _ _; rfl
  | cons x r ih =>
    intro k h1 h2
    rw [List.map_cons, List.pairwise_cons] at h2
    unfold ccLoop
    have hx := h1 x (by simp)
    rw [if_pos hx.1, if_pos hx.2]
    exact ih _ (fun y hy => ⟨(h1 y (by simp [hy])).1, h2.1 _ (List.mem_map.2 ⟨y, hy, rfl⟩)⟩) h2.2

theorem checkClause_any {w : World} {v : Value} {l : List Int} (h : Ints w v l) (hb : l.length ≤ 1099511627776) :
    Calls Tryz.prog 109 #[v] w fun e w' => e = .returned (.int .i64 (checkClause l : Nat)) ∧ w' = w := by
  obtain ⟨a, cap, hea⟩ := h.len
  subst hea
  obtain ⟨n, hn⟩ : ∃ n, l.length = n := ⟨_, rfl⟩
  rw [hn] at h hb ⊢
  have HI : Hid (Ints w (.slice a n cap) l) := h
  have HN : Hid (l.length = n) := hn
  clear h
  by_cases h12 : 12 < n
  · have hq : Hid (((1 : Nat) : Int) = (checkClause l : Nat)) := by show _ = _; unfold checkClause; rw [hn, if_pos h12]
    clear hn
    refine calls_via fun K hK => ?_
    go_enter Tryz.func109, Tryz.ntmps109
    go_wp2_with fail
    exact hK.out _ _ ⟨ret_int hq.out, rfl⟩
  · have hq : Hid (checkClause l = ccLoop l 0) := by show _ = _; unfold checkClause; rw [hn, if_neg h12]
    have h12' : n ≤ 12 := by omega
    clear hn h12
    refine calls_via fun K hK => ?_
    go_enter Tryz.func109, Tryz.ntmps109
    go_wp2_with fail
    go_loopg [3] n (fun g i wr => wr = w ∧ g ≤ n ∧ i = .int .i64 ((n - g : Nat) : Int) ∧ ccLoop l 0 = ccLoop (l.drop (n - g)) (lastOf l (n - g)) ∧ (0 < n - g → good (l.getD (n - g - 1) 0) = true))
    case atStart => exact ⟨rfl, by omega, by simp, by simp [lastOf], by intro h; omega⟩
    case round =>
      obtain ⟨rfl, hg, rfl, he, hgp⟩ := hrel
      by_cases hlt : 0 < gk
      · obtain ⟨k, hk⟩ : ∃ k, n - gk = k := ⟨_, rfl⟩
        rw [hk] at he hgp ⊢
        have hkn : k < n := by omega
        have hkn2 : (k : Int) < n := by omega
        have hcl : ∃ g1 o1, a = some ⟨g1, o1, none⟩ := by
          rcases HI.out.cases with ⟨e, e2⟩ | ⟨g1, o1, cap1, e⟩
          · have := HN.out; rw [e2] at this; simp at this; omega
          · simp only [Value.slice.injEq] at e
            obtain ⟨rfl, _, rfl⟩ := e
            exact ⟨g1, o1, rfl⟩
        obtain ⟨g1, o1, rfl⟩ := hcl
        have hc1 := HI.out.get k (by rw [HN.out]; exact hkn)
        rw [drop_cons (by rw [HN.out]; exact hkn)] at he
        have HK : Hid (n - gk = k) := hk
        clear hk
        rw [ccLoop_cons] at he
        by_cases hgx : good (l.getD k 0) = true
        · have hx12 := (good_iff _).1 hgx
          rw [if_pos hgx] at he
          by_cases hk0 : k = 0
          · subst hk0
            have HE : Hid (ccLoop l 0 = ccLoop (l.drop 1) (l.getD 0 0).natAbs) := by
              show _ = _; rw [he, if_pos (by rw [show lastOf l 0 = 0 from rfl]; omega)]
            simp only [Nat.add_zero] at hc1
            clear he hgp hx12
            generalize hx : l.getD 0 0 = x at *
            have HX : Hid (l.getD 0 0 = x) := hx
            clear hx
            go_wp2_with (go_at_call 88; refine (good_any _ _).mono ?_; rintro e w' ⟨rfl, rfl⟩)
            go_roundg (gk - 1)
            case measure => omega
            case rel =>
              have hk := HK.out
              refine ⟨rfl, by omega, ?_, ?_, ?_⟩
              · rw [show n - (gk - 1) = 1 from by omega]; simp
              · rw [HE.out, show n - (gk - 1) = 1 from by omega]; unfold lastOf; rw [if_neg (by omega)]; simp only [Nat.sub_self, HX.out]
              · rw [show n - (gk - 1) = 1 from by omega]; simp only [Nat.sub_self, HX.out]; intro _; exact hgx
          · have hk1 : 0 < k := by omega
            have hgp2 := hgp hk1
            have hy12 := (good_iff _).1 hgp2
            have hc2 := HI.out.get (k - 1) (by rw [HN.out]; omega)
            have hlo : lastOf l k = (l.getD (k - 1) 0).natAbs := by unfold lastOf; rw [if_neg hk0]
            rw [hlo] at he
            generalize hx : l.getD k 0 = x at *
            generalize hy : l.getD (k - 1) 0 = y at *
            obtain ⟨vx, hvx⟩ : ∃ v, x.natAbs = v := ⟨_, rfl⟩
            obtain ⟨vy, hvy⟩ : ∃ v, y.natAbs = v := ⟨_, rfl⟩
            rw [hvx, hvy] at he
            have HX : Hid (l.getD k 0 = x) := hx
            have HVX : Hid (x.natAbs = vx) := hvx
            have HVY : Hid (y.natAbs = vy) := hvy
            have hvx12 : vx ≤ 12 := by omega
            have hvy12 : vy ≤ 12 := by omega
            have hkm : ((k : Int) - 1) < n := by omega
            have hkm2 : (0 : Int) ≤ (k : Int) - 1 := by omega
            have HE : Hid (ccLoop l 0 = if vy < vx then ccLoop (l.drop (k + 1)) vx else 8) := he
            clear he hx hy hvx hvy hx12 hy12 hgp hlo hgp2 hk0
            by_cases hlt3 : vy < vx
            · have hn3 : ¬ ((vx : Int) ≤ vy) := by omega
              go_wp2_with (first | (go_at_call 88; refine (good_any _ _).mono ?_; rintro e w' ⟨rfl, rfl⟩) | (go_at_call_of 89 (Value.int IntKind.i64 x); refine (var_v HVX.out hvx12 _).mono ?_; rintro e w' ⟨rfl, rfl⟩) | (go_at_call_of 89 (Value.int IntKind.i64 y); refine (var_v HVY.out hvy12 _).mono ?_; rintro e w' ⟨rfl, rfl⟩))
              go_roundg (gk - 1)
              case measure => omega
              case rel =>
                have hk := HK.out
                refine ⟨rfl, by omega, ?_, ?_, ?_⟩
                · rw [show n - (gk - 1) = k + 1 from by omega]; simp
                · rw [HE.out, if_pos hlt3, show n - (gk - 1) = k + 1 from by omega]; unfold lastOf; rw [if_neg (by omega)]; simp only [Nat.add_sub_cancel, HX.out, HVX.out]
                · rw [show n - (gk - 1) = k + 1 from by omega]; simp only [Nat.add_sub_cancel, HX.out]; intro _; exact hgx
            · have hn3 : (vx : Int) ≤ vy := by omega
              go_wp2_with (first | (go_at_call 88; refine (good_any _ _).mono ?_; rintro e w' ⟨rfl, rfl⟩) | (go_at_call_of 89 (Value.int IntKind.i64 x); refine (var_v HVX.out hvx12 _).mono ?_; rintro e w' ⟨rfl, rfl⟩) | (go_at_call_of 89 (Value.int IntKind.i64 y); refine (var_v HVY.out hvy12 _).mono ?_; rintro e w' ⟨rfl, rfl⟩))
              refine hK.out _ _ ⟨ret_int ?_, rfl⟩
              rw [hq.out, HE.out, if_neg (by omega)]; rfl
        · have hgx2 : good (l.getD k 0) = false := by simpa using hgx
          rw [if_neg hgx] at he
          generalize hx : l.getD k 0 = x at *
          have HE : Hid (ccLoop l 0 = 7) := he
          clear he hgx hx hgp
          go_wp2_with (go_at_call 88; refine (good_any _ _).mono ?_; rintro e w' ⟨rfl, rfl⟩)
          refine hK.out _ _ ⟨ret_int ?_, rfl⟩
          rw [hq.out, HE.out]; rfl
      · have hg0 : gk = 0 := by omega
        subst hg0
        have HE : Hid (ccLoop l 0 = 0) := by show _ = _; rw [he, List.drop_of_length_le (by have := HN.out; omega)]; rfl
        clear he hlt hg hgp
        go_wp2_with fail
        refine hK.out _ _ ⟨ret_int ?_, rfl⟩
        rw [hq.out, HE.out]; rfl

theorem checkClause_facts {l : List Int} (h : checkClause l = 0) : l.length ≤ 12 ∧ (∀ x ∈ l, good x = true) ∧ (l.map Int.natAbs).Pairwise (· < ·) := by
  unfold checkClause at h
  split at h
  · cases h
  · obtain ⟨h1, h2⟩ := ccLoop_facts _ _ h
    exact ⟨by omega, fun x hx => (h1 x hx).1, h2⟩
theorem nodup_of_lt {l : List Nat} (h : l.Pairwise (· < ·)) : l.Nodup := h.imp (fun hab e => by omega)

/-- The cells of the arena behind a copy of i numbers into slot id. -/
structure LitsTo (L0 L : Nat → Int) (id : Nat) (c : List Int) (i : Nat) : Prop where
  new : ∀ j, j < i → L (id * 12 + j) = c.getD j 0
  old : ∀ k, (k < id * 12 ∨ id * 12 + 12 ≤ k) → L k = L0 k

theorem WatchOf.put {R : WatchR} {tb : Nat} {W : WatchS} (h : WatchOf R tb W) {id : Nat} (hid : id < 52) {c : List Int} (hc : c.length ≤ 12) (hg : ∀ x ∈ c, good x = true) (hd : (c.map Int.natAbs).Nodup)
    {L : Nat → Int} (hL : LitsTo R.lits L id c c.length) : WatchOf { R with lits := L, size := upd R.size id (c.length : Nat), used := setB R.used id, fresh := setB R.fresh id } tb (W.put id c) := by
  have hcl : ∀ j, (W.put id c).cl j = if j = id then c else W.cl j := fun j => rfl
  refine ⟨h.t, ?_, ?_, ?_, ?_, ?_, ?_, ?_, h.weak, h.list, ?_, ?_, h.weaklt, h.listlt⟩
  · intro j hj; rw [hcl]; split
    · exact hc
    · exact h.len j hj
  · intro j hj; rw [hcl]; split
    · exact hg
    · exact h.gd j hj
  · intro j hj; rw [hcl]; split
    · exact hd
    · exact h.dist j hj
  · intro j hj; rw [hcl]; show upd _ _ _ _ = _; unfold upd; split
    · rfl
    · exact h.size j hj
  · intro j hj i hi
    rw [hcl] at hi ⊢
    split
    · rename_i e; subst e; rw [if_pos rfl] at hi; exact hL.new i hi
    · rename_i e; rw [if_neg e] at hi
      have := h.len j hj
      show L _ = _
      rw [hL.old _ (by omega)]; exact h.lits j hj i hi
  · show setB _ _ = setB _ _; rw [h.used]
  · show setB _ _ = setB _ _; rw [h.fresh]
  · exact setB_lt h.usedlt (by omega)
  · exact setB_lt h.freshlt (by omega)

theorem add_any {w : World} {b tb : Nat} {W : WatchS} (h : WatAt w b tb W) {v : Value} {c : List Int} (hc : Ints w v c) (hb : c.length ≤ 1099511627776) (hne : v.ownBlock ≠ some b) (learnt : Bool) :
    Calls Tryz.prog 78 #[.pointer (some ⟨b, 0, none⟩), v, .bool learnt] w fun e w' => e = .returned (.tuple #[.int .i64 (W.add c learnt).1, .int .i64 (W.add c learnt).2.1]) ∧ WatAt w' b tb (W.add c learnt).2.2 ∧ Fr [b] w w' := by
  have hcc := checkClause_any hc hb
  have hrm := room_any h learnt
  by_cases h0 : checkClause c = 0
  · rw [h0] at hcc
    cases hr : W.room learnt with
    | none =>
      rw [hr] at hrm
      have hq : Hid (W.add c learnt = (0, 12, W)) := by show _ = _; unfold WatchS.add; rw [if_pos h0, hr]
      clear h0 hr
      have HW : Hid (WatAt w b tb W) := h
      have HC : Hid (Calls Tryz.prog 109 #[v] w fun e w' => e = Ending.returned (Value.int IntKind.i64 (0 : Nat)) ∧ w' = w) := hcc
      have HR : Hid (Calls Tryz.prog 110 #[.pointer (some ⟨b, 0, none⟩), .bool learnt] w fun e w' => e = .returned (.int .i64 (optI none)) ∧ w' = w) := hrm
      clear hcc hrm h hc
      rw [hq.out]
      refine calls_via fun K hK => ?_
      go_enter Tryz.func78, Tryz.ntmps78
      go_wp2_with fail
      refine HC.out.mono ?_
      rintro e w' ⟨rfl, rfl⟩
      go_wp2_with fail
      refine HR.out.mono ?_
      rintro e w' ⟨rfl, rfl⟩
      simp only [optI]
      go_wp2_with fail
      try go_ret2
      exact hK.out _ _ ⟨rfl, HW.out, Fr.refl _ _⟩
    | some id =>
      rw [hr] at hrm
      have hq : Hid (W.add c learnt = (id, 0, W.put id c)) := by show _ = _; unfold WatchS.add; rw [if_pos h0, hr]
      have hid : id < 52 := by
        unfold WatchS.room at hr
        split at hr
        · have := roomF_some hr; omega
        · have := roomF_some hr; omega
      obtain ⟨f1, f2, f3⟩ := checkClause_facts h0
      obtain ⟨R, hR, ho⟩ := h
      have hput := fun L hL => ho.put hid f1 f2 (nodup_of_lt f3) (L := L) hL
      obtain ⟨a, cap, hea⟩ := hc.len
      subst hea
      obtain ⟨n, hn⟩ : ∃ n, c.length = n := ⟨_, rfl⟩
      rw [hn] at hc hb f1 hput hcc hne ⊢
      have HI : Hid (Ints w (.slice a n cap) c) := hc
      have HN : Hid (c.length = n) := hn
      have HR : Hid (WatchAt w b R) := hR
      have HC : Hid (Calls Tryz.prog 109 #[.slice a n cap] w fun e w' => e = Ending.returned (Value.int IntKind.i64 (0 : Nat)) ∧ w' = w) := hcc
      have HRM : Hid (Calls Tryz.prog 110 #[.pointer (some ⟨b, 0, none⟩), .bool learnt] w fun e w' => e = .returned (.int .i64 (optI (some id))) ∧ w' = w) := hrm
      have hid64 : id < 64 := by omega
      have hidi : (id : Int) < 52 := by omega
      have hus := or64 (ho.used ▸ ho.usedlt) (pow64 hid64)
      have hfs := or64 (ho.fresh ▸ ho.freshlt) (pow64 hid64)
      change bits .or .u64 (R.used : Nat) (pw id : Nat) = ((setB R.used id : Nat) : Int) at hus
      change bits .or .u64 (R.fresh : Nat) (pw id : Nat) = ((setB R.fresh id : Nat) : Int) at hfs
      clear hc hn hR hcc hrm h0 hr ho f2 f3
      rw [hq.out]
      refine calls_via fun K hK => ?_
      go_enter Tryz.func78, Tryz.ntmps78
      go_wp2_with fail
      refine HC.out.mono ?_
      rintro e w' ⟨rfl, rfl⟩
      go_wp2_with fail
      refine HRM.out.mono ?_
      rintro e w' ⟨rfl, rfl⟩
      simp only [optI]
      go_wp2_with fail
      go_loopg [11] n (fun g i wr => ∃ L, g ≤ n ∧ i = .int .i64 ((n - g : Nat) : Int) ∧ WatchAt wr b { R with lits := L } ∧ LitsTo R.lits L id c (n - g) ∧ Fr [b] w' wr)
      case atStart => exact ⟨R.lits, by omega, by simp, HR.out, ⟨by intro j hj; omega, by intros; rfl⟩, Fr.refl _ _⟩
      case round =>
        obtain ⟨L, hg, rfl, hR, hL, hf⟩ := hrel
        have hfr := hR.froz
        by_cases hlt : 0 < gk
        · obtain ⟨k, hk⟩ : ∃ k, n - gk = k := ⟨_, rfl⟩
          rw [hk] at hL ⊢
          have hkn : k < n := by omega
          have hkn2 : (k : Int) < n := by omega
          have hcl : ∃ g1 o1, a = some ⟨g1, o1, none⟩ := by
            rcases HI.out.cases with ⟨e, e2⟩ | ⟨g1, o1, cap1, e⟩
            · have := HN.out; rw [e2] at this; simp at this; omega
            · simp only [Value.slice.injEq] at e
              obtain ⟨rfl, _, rfl⟩ := e
              exact ⟨g1, o1, rfl⟩
          obtain ⟨g1, o1, rfl⟩ := hcl
          have hg1b : g1 ∉ [b] := by simp only [List.mem_singleton]; intro e; subst e; exact hne rfl
          have hc1 := hf.cell (HI.out.get k (by rw [HN.out]; exact hkn)) hg1b
          have hd1 := hR.lits (id * 12 + k) (by omega)
          have hi1 : (id : Int) * 12 + k < 624 := by omega
          have HK : Hid (n - gk = k) := hk
          have HL : Hid (LitsTo R.lits L id c k) := hL
          have HR2 : Hid (WatchAt wr b { R with lits := L }) := hR
          clear hk hL hR hput
          go_wp2_with fail
          go_region
          go_wp2_with fail
          go_roundg (gk - 1)
          case measure => omega
          case rel =>
            have hk := HK.out
            refine ⟨_, by omega, ?_, (HR2.out.set_lits (id * 12 + k) (by omega) _).drew, ?_, (hf.set (by simp) _).drew⟩
            · rw [show n - (gk - 1) = k + 1 from by omega]; simp
            · rw [show n - (gk - 1) = k + 1 from by omega]
              refine ⟨?_, ?_⟩
              · intro j hj
                by_cases e : j = k
                · subst e; exact upd_self _ _ _
                · exact (upd_ne _ _ _ _ (by omega)).trans (HL.out.new j (by omega))
              · intro j hj
                exact (upd_ne _ _ _ _ (by omega)).trans (HL.out.old j hj)
        · have hg0 : gk = 0 := by omega
          subst hg0
          have hd1 := hR.size id hid
          have hu := hR.used
          have hfs2 := hR.fresh
          have HL : Hid (LitsTo R.lits L id c n) := hL
          have HR2 : Hid (WatchAt wr b { R with lits := L }) := hR
          have HP := hput L hL
          have HP2 : Hid (WatchOf { R with lits := L, size := upd R.size id (n : Nat), used := setB R.used id, fresh := setB R.fresh id } tb (W.put id c)) := HP
          clear hL hR hput HP hlt hg
          go_wp2_with (go_at_call 111; refine (bit_any _ hid64 _).mono ?_; rintro e w' ⟨rfl, rfl⟩)
          try go_ret2
          refine hK.out _ _ ⟨rfl, ⟨_, ((HR2.out.set_size id hid n).set_used (setB R.used id)).set_fresh (setB R.fresh id), HP2.out⟩, ?_⟩
          repeat (first | with_reducible exact hf | with_reducible refine Fr.drew ?_ | with_reducible refine Fr.set ?_ (by simp) _)
  · have hq : Hid (W.add c learnt = (0, checkClause c, W)) := by show _ = _; unfold WatchS.add; rw [if_neg h0]
    obtain ⟨e, he⟩ : ∃ e, checkClause c = e := ⟨_, rfl⟩
    rw [he] at hcc h0
    have hne0 : ((e : Nat) : Int) ≠ 0 := by omega
    have hne1 : (((e : Nat) : Int) != 0) = true := by rw [bne_iff_ne]; exact hne0
    have HW : Hid (WatAt w b tb W) := h
    have HC : Hid (Calls Tryz.prog 109 #[v] w fun e2 w' => e2 = Ending.returned (Value.int IntKind.i64 (e : Nat)) ∧ w' = w) := hcc
    have HE : Hid (checkClause c = e) := he
    clear hcc hrm h hc he
    rw [hq.out, HE.out]
    refine calls_via fun K hK => ?_
    go_enter Tryz.func78, Tryz.ntmps78
    go_wp2_with fail
    refine HC.out.mono ?_
    rintro e w' ⟨rfl, rfl⟩
    go_wp2_with fail
    try go_ret2
    exact hK.out _ _ ⟨rfl, HW.out, Fr.refl _ _⟩
end Go.Proofs.Qxb6500354aGreat
