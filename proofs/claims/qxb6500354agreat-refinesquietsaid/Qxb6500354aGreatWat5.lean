/- THE WALKS over watch: Clause, Ids. -/
import Derived.Test.Qxb6500354aGreatWat4
namespace Go.Proofs.Qxb6500354aGreat
open Go.RowKit
set_option linter.unusedVariables false
set_option linter.unusedSimpArgs false

/-- the normal form's part over the first v variables. -/
def normTo (c : List Int) (v : Nat) : List Int := (List.range v).filterMap fun (i : Nat) =>
  if c.contains ((i : Int) + 1) then some ((i : Int) + 1) else if c.contains (-((i : Int) + 1)) then some (-((i : Int) + 1)) else none
theorem normTo_succ (c : List Int) (v : Nat) : normTo c (v + 1) = normTo c v ++ (if c.contains ((v : Int) + 1) then [(v : Int) + 1] else if c.contains (-((v : Int) + 1)) then [-((v : Int) + 1)] else []) := by
  unfold normTo
  rw [List.range_succ, List.filterMap_append]
  congr 1
  by_cases h1 : c.contains ((v : Int) + 1) = true
  · simp only [List.filterMap_cons, List.filterMap_nil, h1, if_true]
  · by_cases h2 : c.contains (-((v : Int) + 1)) = true
    · simp only [List.filterMap_cons, List.filterMap_nil, h1, h2, if_true]; simp
    · simp only [List.filterMap_cons, List.filterMap_nil, h1, h2]; simp
theorem mem_normTo {c : List Int} {v : Nat} {x : Int} : x ∈ normTo c v → x ∈ c ∧ 1 ≤ x.natAbs ∧ x.natAbs ≤ v := by
  unfold normTo
  rw [List.mem_filterMap]
  rintro ⟨i, hi, h⟩
  rw [List.mem_range] at hi
  split at h
  · rename_i hc; simp at h; subst h; exact ⟨by simpa using hc, by omega, by omega⟩
  · split at h
    · rename_i hc; simp at h; subst h; exact ⟨by simpa using hc, by omega, by omega⟩
    · simp at h
theorem normTo_sorted (c : List Int) : ∀ v, ((normTo c v).map Int.natAbs).Pairwise (· < ·) := by
  intro v
  induction v with
  | zero => simp [normTo]
  | succ v ih =>
    rw [normTo_succ, List.map_append, List.pairwise_append]
    refine ⟨ih, ?_, ?_⟩
    · split
      · simp
      · split <;> simp
    · intro a ha b hb
      obtain ⟨x, hx, rfl⟩ := List.mem_map.1 ha
      have := (mem_normTo hx).2.2
      obtain ⟨y, hy, rfl⟩ := List.mem_map.1 hb
      split at hy
      · simp at hy; subst hy; omega
      · split at hy
        · simp at hy; subst hy; omega
        · simp at hy
theorem eq_of_natAbs {c : List Int} (hd : (c.map Int.natAbs).Nodup) {x y : Int} (hx : x ∈ c) (hy : y ∈ c) (h : x.natAbs = y.natAbs) : x = y := by
  obtain ⟨i, hi, rfl⟩ := List.mem_iff_getElem.1 hx
  obtain ⟨j, hj, rfl⟩ := List.mem_iff_getElem.1 hy
  rcases Nat.lt_trichotomy i j with hij | hij | hij
  · have := (List.pairwise_iff_getElem.1 hd) i j (by simpa using hi) (by simpa using hj) hij
    simp only [List.getElem_map] at this; exact absurd h this
  · subst hij; rfl
  · have := (List.pairwise_iff_getElem.1 hd) j i (by simpa using hj) (by simpa using hi) hij
    simp only [List.getElem_map] at this; exact absurd h.symm this
theorem mem_normC {c : List Int} (hg : ∀ x ∈ c, good x = true) (hd : (c.map Int.natAbs).Nodup) (x : Int) : x ∈ normC c ↔ x ∈ c := by
  constructor
  · intro h; exact (mem_normTo (v := 12) h).1
  · intro h
    have hx := (good_iff _).1 (hg x h)
    show x ∈ normTo c 12
    unfold normTo
    rw [List.mem_filterMap]
    refine ⟨x.natAbs - 1, by rw [List.mem_range]; omega, ?_⟩
    have e1 : ((x.natAbs - 1 : Nat) : Int) + 1 = x.natAbs := by omega
    rw [e1]
    by_cases hp : 0 < x
    · rw [show ((x.natAbs : Nat) : Int) = x from by omega, if_pos (by simpa using h)]
    · have e2 : -((x.natAbs : Nat) : Int) = x := by omega
      rw [if_neg, e2, if_pos (by simpa using h)]
      intro hc
      have := eq_of_natAbs hd h (show ((x.natAbs : Nat) : Int) ∈ c from by simpa using hc) (by omega)
      omega
theorem nodup_of_map {α β : Type} (f : α → β) {l : List α} (h : (l.map f).Nodup) : l.Nodup := by
  unfold List.Nodup at *
  rw [List.pairwise_map] at h
  exact h.imp (fun hab e => hab (by rw [e]))
theorem normC_perm {c : List Int} (hg : ∀ x ∈ c, good x = true) (hd : (c.map Int.natAbs).Nodup) : (normC c).Perm c := by
  rw [List.perm_ext_iff_of_nodup]
  · exact mem_normC hg hd
  · exact nodup_of_map Int.natAbs (nodup_of_lt (normTo_sorted c 12))
  · exact nodup_of_map Int.natAbs hd
theorem normTo_len_le (c : List Int) {v : Nat} : ∀ {u : Nat}, v ≤ u → (normTo c v).length ≤ (normTo c u).length := by
  intro u h
  induction u with
  | zero => obtain rfl : v = 0 := by omega
            exact Nat.le_refl _
  | succ u ih =>
    by_cases e : v = u + 1
    · subst e; exact Nat.le_refl _
    · have := ih (by omega)
      rw [normTo_succ, List.length_append]; omega

theorem normTo_step (c : List Int) {v : Nat} (hv : 1 ≤ v) : normTo c v = normTo c (v - 1) ++ (if c.contains (v : Int) then [(v : Int)] else if c.contains (-(v : Int)) then [-(v : Int)] else []) := by
  have := normTo_succ c (v - 1)
  rw [show v - 1 + 1 = v from by omega, show ((v - 1 : Nat) : Int) + 1 = (v : Int) from by omega] at this
  exact this
theorem take_snocI {c : List Int} {k : Nat} (h : k < c.length) : c.take (k + 1) = c.take k ++ [c.getD k 0] := by
  rw [List.take_add_one, List.getElem?_eq_getElem h, List.getD_eq_getElem?_getD, List.getElem?_eq_getElem h]; rfl
theorem take_set {l m : List Int} {q : Nat} (h : l.take q = m) (hq : m.length = q) (hl : q < l.length) (x : Int) : (l.set q x).take (q + 1) = m ++ [x] := by
  rw [take_snocI (by simpa using hl)]
  congr 1
  · rw [List.take_set_of_le (Nat.le_refl _)]; exact h
  · simp [List.getD_eq_getElem?_getD, hl]
/-- the set of v's that stand plainly in c. -/
structure SetOf (m : Nat) (c : List Int) (s : Int) : Prop where
  lt : m < 2 ^ 16
  bit : ∀ v, 1 ≤ v → m.testBit v = c.contains (s * (v : Int))
theorem SetOf.nil (s : Int) : SetOf 0 [] s := ⟨by decide, by simp⟩
theorem SetOf.snoc {m : Nat} {c : List Int} {s : Int} (h : SetOf m c s) {x : Int} {v : Nat} (hv : 1 ≤ v) (hv2 : v < 16) (hs : s = 1 ∨ s = -1) (hx : x = s * (v : Int)) : SetOf (setB m v) (c ++ [x]) s := by
  refine ⟨setB_lt h.lt hv2, ?_⟩
  intro u hu
  rw [testBit_set, h.bit u hu, Bool.eq_iff_iff]
  simp only [Bool.or_eq_true, decide_eq_true_eq, List.contains_iff_mem, List.mem_append, List.mem_singleton]
  have : v = u ↔ s * (u : Int) = x := by subst hx; rcases hs with rfl | rfl <;> omega
  rw [this]
theorem SetOf.skip {m : Nat} {c : List Int} {s : Int} (h : SetOf m c s) {x : Int} (hx : ∀ v : Nat, 1 ≤ v → x ≠ s * (v : Int)) : SetOf m (c ++ [x]) s := by
  refine ⟨h.lt, ?_⟩
  intro u hu
  rw [h.bit u hu, Bool.eq_iff_iff]
  simp only [List.contains_iff_mem, List.mem_append, List.mem_singleton]
  have := hx u hu
  constructor
  · intro h; exact .inl h
  · rintro (h | h)
    · exact h
    · exact absurd h.symm this
theorem OwnI.store {w : World} {base g cap n : Nat} {l : List Int} (h : OwnI w base (.slice (some ⟨g, 0, none⟩) n cap) l) (hn : l.length = n) (i : Nat) (x : Int) :
    OwnI (w.setCell ⟨g, i, none⟩ (.int .i64 x)) base (.slice (some ⟨g, 0, none⟩) n cap) (l.set i x) := by
  have h1 := (World.ownsRow.stored (hn ▸ h : w.ownsRow base 3 1 (.slice (some ⟨g, 0, none⟩) n cap) n (icells l)) i (.int .i64 x)).1
  unfold OwnI
  rw [List.length_set, hn]
  have : (icells l).set i (.int .i64 x) = icells (l.set i x) := by unfold icells; rw [List.map_set]
  rw [← this]; exact h1
theorem OwnI.get {w : World} {base g cap n : Nat} {l : List Int} (h : OwnI w base (.slice (some ⟨g, 0, none⟩) n cap) l) (i : Nat) (hi : i < l.length) : w.cell? ⟨g, i, none⟩ = some (.int .i64 (l.getD i 0)) := by
  have := h.ints.get i hi; rwa [Nat.zero_add] at this
theorem OwnI.frozen {w : World} {base g cap n : Nat} {l : List Int} (h : OwnI w base (.slice (some ⟨g, 0, none⟩) n cap) l) (i : Nat) : w.frozen? ⟨g, i, none⟩ = false := by
  rcases h.2 with ⟨e, _⟩ | ⟨g2, cap2, cur, e, _, hg, _⟩
  · simp at e
  · simp only [Value.slice.injEq, Option.some.injEq, Addr.mk.injEq, and_true, true_and] at e
    obtain ⟨rfl, _, _⟩ := e
    exact frozen_of_row w g i cur 3 hg

set_option maxRecDepth 100000 in
set_option maxHeartbeats 1000000 in
theorem clause_any {w : World} {b tb : Nat} {W : WatchS} (h : WatAt w b tb W) (id : Int) :
    Calls Tryz.prog 58 #[.pointer (some ⟨b, 0, none⟩), .int .i64 id] w fun e w' => match W.clause? id with
      | none => e = .returned (.tuple #[.slice none 0 0, .int .i64 (13 : Nat)]) ∧ w' = w
      | some c => ∃ v, e = .returned (.tuple #[v, .int .i64 (0 : Nat)]) ∧ OwnI w' w.heap.size v c ∧ Fr [] w w' := by
  have hlive := live_any h id
  by_cases hlv : W.live id = true
  · rw [hlv] at hlive
    have hq : Hid (W.clause? id = some (normC (W.cl id.toNat))) := by show _ = _; unfold WatchS.clause?; rw [if_pos hlv]
    have hid2 : 0 ≤ id ∧ id < 52 := by
      unfold WatchS.live at hlv; simp at hlv; exact hlv.1
    obtain ⟨k, rfl⟩ := Int.eq_ofNat_of_zero_le hid2.1
    rw [show (Int.toNat (k : Int)) = k from by omega] at hq
    have hidi : (k : Int) < 52 := by omega
    have hid : k < 52 := by omega
    obtain ⟨R, hR, ho⟩ := h
    obtain ⟨c, hc⟩ : ∃ c, W.cl k = c := ⟨_, rfl⟩
    obtain ⟨n, hn⟩ : ∃ n, c.length = n := ⟨_, rfl⟩
    have hsz := hR.size k hid
    rw [ho.size k hid, hc, hn] at hsz
    have hn12 : n ≤ 12 := by have := ho.len k hid; rw [hc, hn] at this; exact this
    have hgd : ∀ x ∈ c, good x = true := by have := ho.gd k hid; rw [hc] at this; exact this
    have hds : (c.map Int.natAbs).Nodup := by have := ho.dist k hid; rw [hc] at this; exact this
    have hlt : ∀ j, j < n → R.lits (k * 12 + j) = c.getD j 0 := fun j hj => by rw [ho.lits k hid j (by rw [hc, hn]; exact hj), hc]
    rw [hc] at hq
    have hplen : (normC c).length = n := by rw [(normC_perm hgd hds).length_eq, hn]
    have hlits := hR.lits
    have HL : Hid (Calls Tryz.prog 97 #[.pointer (some ⟨b, 0, none⟩), .int .i64 (k : Int)] w fun e w' => e = .returned (.bool true) ∧ w' = w) := hlive
    have HN : Hid (c.length = n) := hn
    have HLT : Hid (∀ j, j < n → R.lits (k * 12 + j) = c.getD j 0) := hlt
    have HG : Hid (∀ x ∈ c, good x = true) := hgd
    have HP : Hid ((normC c).length = n) := hplen
    have HLITS : Hid (∀ i, i < 624 → w.cell? ⟨b, 1 + i, none⟩ = some (.int .i64 (R.lits i))) := hlits
    clear hlive hR ho hn hc hlt hgd hds hplen hlits hlv hid2
    rw [hq.out]
    refine calls_via fun K hK => ?_
    go_enter Tryz.func58, Tryz.ntmps58
    go_wp2_with fail
    refine HL.out.mono ?_
    rintro e w' ⟨rfl, rfl⟩
    by_cases hn0 : n = 0
    · subst hn0
      have hc0 : normC c = [] := List.eq_nil_of_length_eq_zero HP.out
      have HC0 : Hid (normC c = []) := hc0
      clear hc0
      go_wp2_with fail
      try go_ret2
      refine hK.out _ _ ⟨_, rfl, ?_, Fr.refl _ _⟩
      rw [HC0.out]; exact OwnI.nil _ _
    · have hnz : ((n : Int) == 0) = false := by simpa using hn0
      go_wp2_with fail
      go_loopg [8, 9, 10] n (fun g p q i wr => ∃ mp mq : Nat, wr = w' ∧ g ≤ n ∧ i = .int .i64 ((n - g : Nat) : Int) ∧ p = .int .u16 (mp : Nat) ∧ q = .int .u16 (mq : Nat) ∧ SetOf mp (c.take (n - g)) 1 ∧ SetOf mq (c.take (n - g)) (-1))
      case atStart => exact ⟨0, 0, rfl, by omega, by simp, rfl, rfl, by simp; exact SetOf.nil _, by simp; exact SetOf.nil _⟩
      case round =>
        obtain ⟨mp, mq, rfl, hg, rfl, rfl, rfl, h1, h2⟩ := hrel
        by_cases hlt : 0 < gk
        · obtain ⟨j, hj⟩ : ∃ j, n - gk = j := ⟨_, rfl⟩
          rw [hj] at h1 h2 ⊢
          have hjn : j < n := by omega
          have hjn2 : (j : Int) < n := by omega
          have hd1 := HLITS.out (k * 12 + j) (by omega)
          rw [HLT.out j hjn] at hd1
          have hi1 : (k : Int) * 12 + j < 624 := by omega
          have hgx := HG.out _ (getD_mem (i := j) (by rw [HN.out]; exact hjn))
          have hx12 := (good_iff _).1 hgx
          have hsn := take_snocI (show j < c.length from by rw [HN.out]; exact hjn)
          generalize c.getD j 0 = x at *
          have HJ : Hid (n - gk = j) := hj
          have HSN : Hid (c.take (j + 1) = c.take j ++ [x]) := hsn
          clear hj hgx hsn
          by_cases hp : 0 < x
          · obtain ⟨v, rfl⟩ := Int.eq_ofNat_of_zero_le (Int.le_of_lt hp)
            have hv16 : v < 16 := by omega
            have hv1 : 1 ≤ v := by omega
            have e1 := shl16 hv16
            change _ = ((pw v : Nat) : Int) at e1
            have e2 := or16 h1.lt (pow16 hv16)
            change bits .or .u16 (mp : Nat) (pw v : Nat) = ((setB mp v : Nat) : Int) at e2
            have H12 : Hid (SetOf mp (c.take j) 1 ∧ SetOf mq (c.take j) (-1)) := ⟨h1, h2⟩
            clear h1 h2 hx12
            go_wp2_with fail
            go_roundg (gk - 1)
            case measure => omega
            case rel =>
              have hj := HJ.out
              refine ⟨setB mp v, mq, rfl, by omega, ?_, rfl, rfl, ?_, ?_⟩
              · rw [show n - (gk - 1) = j + 1 from by omega]; simp
              · rw [show n - (gk - 1) = j + 1 from by omega, HSN.out]; exact H12.out.1.snoc hv1 hv16 (.inl rfl) (by omega)
              · rw [show n - (gk - 1) = j + 1 from by omega, HSN.out]; exact H12.out.2.skip (fun u hu => by omega)
          · obtain ⟨v, hvv⟩ := Int.eq_ofNat_of_zero_le (show 0 ≤ -x by omega)
            obtain rfl : x = -(v : Int) := by omega
            have hv16 : v < 16 := by omega
            have hv1 : 1 ≤ v := by omega
            have e1 := shl16 hv16
            change _ = ((pw v : Nat) : Int) at e1
            have e2 := or16 h2.lt (pow16 hv16)
            change bits .or .u16 (mq : Nat) (pw v : Nat) = ((setB mq v : Nat) : Int) at e2
            have H12 : Hid (SetOf mp (c.take j) 1 ∧ SetOf mq (c.take j) (-1)) := ⟨h1, h2⟩
            clear h1 h2 hx12 hvv
            go_wp2_with fail
            go_roundg (gk - 1)
            case measure => omega
            case rel =>
              have hj := HJ.out
              refine ⟨mp, setB mq v, rfl, by omega, ?_, rfl, rfl, ?_, ?_⟩
              · rw [show n - (gk - 1) = j + 1 from by omega]; simp
              · rw [show n - (gk - 1) = j + 1 from by omega, HSN.out]; exact H12.out.1.skip (fun u hu => by omega)
              · rw [show n - (gk - 1) = j + 1 from by omega, HSN.out]; exact H12.out.2.snoc hv1 hv16 (.inr rfl) (by omega)
        · have hg0 : gk = 0 := by omega
          subst hg0
          rw [show c.take (n - 0) = c from by rw [Nat.sub_zero]; exact List.take_of_length_le (by have := HN.out; omega)] at h1 h2
          have H12 : Hid (SetOf mp c 1 ∧ SetOf mq c (-1)) := ⟨h1, h2⟩
          have HP12 : Hid (mp < 2 ^ 16 ∧ mq < 2 ^ 16) := ⟨h1.lt, h2.lt⟩
          clear h1 h2 hlt hg
          go_wp2_with (first | (at_make; refine wp_mk rfl _ _ rfl n n n rfl rfl rfl rfl (by omega) ?_; intro w1 ho1 hg1))
          have hf1 := Fr.ofGrown hg1
          obtain ⟨w0, rfl⟩ : ∃ w0, w0 = wr := ⟨_, rfl⟩
          go_loopg [13, 14] 12 (fun g kk v wr2 => ∃ l : List Int, g ≤ 12 ∧ v = .int .i64 ((13 - g : Nat) : Int) ∧ kk = .int .i64 ((normTo c (12 - g)).length : Nat) ∧ l.length = n ∧ OwnI wr2 w0.heap.size (.slice (some ⟨w0.heap.size, 0, none⟩) n n) l ∧ l.take (normTo c (12 - g)).length = normTo c (12 - g) ∧ Fr [] w0 wr2)
          case atStart => exact ⟨List.replicate n 0, by omega, by simp, by simp [normTo], by simp, ho1, by simp [normTo], hf1⟩
          case round =>
            clear ho1 hg1 hf1 w1
            obtain ⟨l, hg, rfl, rfl, hln, hown, htk, hf⟩ := hrel
            by_cases hlt : 0 < gk
            · obtain ⟨v, hv⟩ : ∃ v, 13 - gk = v := ⟨_, rfl⟩
              have hu : 12 - gk = v - 1 := by omega
              rw [hu] at htk ⊢
              rw [hv]
              have hv1 : 1 ≤ v := by omega
              have hv12 : (v : Int) ≤ 12 := by omega
              have hvn : v ≤ 12 := by omega
              have hst := normTo_step c hv1
              have hb1 := H12.out.1.bit v hv1
              have hb2 := H12.out.2.bit v hv1
              rw [Int.one_mul] at hb1
              rw [show (-1 : Int) * (v : Int) = -(v : Int) from by omega] at hb2
              have hle := normTo_len_le c (show v ≤ 12 from by omega)
              have hn2 : (normTo c 12).length = n := HP.out
              have he1 := shr_and16 v HP12.out.1
              have he2 := shr_and16 v HP12.out.2
              obtain ⟨q, hq2⟩ : ∃ q, (normTo c (v - 1)).length = q := ⟨_, rfl⟩
              rw [hq2] at htk ⊢
              rw [hst, List.length_append, hq2, hn2] at hle
              have hfr := OwnI.frozen hown
              have HV : Hid (13 - gk = v ∧ 12 - gk = v - 1) := ⟨hv, hu⟩
              have HST : Hid (normTo c v = normTo c (v - 1) ++ (if c.contains (v : Int) then [(v : Int)] else if c.contains (-(v : Int)) then [-(v : Int)] else [])) := hst
              have HQ : Hid ((normTo c (v - 1)).length = q) := hq2
              have HTK : Hid (l.take q = normTo c (v - 1)) := htk
              have HOWN : Hid (OwnI wr w0.heap.size (.slice (some ⟨w0.heap.size, 0, none⟩) n n) l) := hown
              have HLN : Hid (l.length = n) := hln
              by_cases hc1 : c.contains (v : Int) = true
              · rw [hc1] at hb1
                rw [hb1] at he1
                rw [if_pos hc1] at hle
                have hqn : q < n := by simp at hle; omega
                have hqi : (q : Int) < n := by omega
                have hcell := OwnI.get hown q (by omega)
                have HC1 : Hid (c.contains (v : Int) = true) := hc1
                clear hst hb1 hb2 hle hn2 he2 hq2 htk hown hln hv hu hc1
                go_wp2_with fail
                go_roundg (gk - 1)
                case measure => omega
                case rel =>
                  have h1 := HV.out.1
                  have h2 := HV.out.2
                  have hnn : normTo c v = normTo c (v - 1) ++ [(v : Int)] := by rw [HST.out, if_pos HC1.out]
                  have hnl : (normTo c v).length = q + 1 := by rw [hnn, List.length_append, HQ.out]; rfl
                  refine ⟨l.set q (v : Int), by omega, ?_, ?_, by rw [List.length_set]; exact HLN.out, HOWN.out.store HLN.out _ _, ?_, hf.set (by intro hlt2; exact absurd hlt2 (Nat.lt_irrefl _)) _⟩
                  · rw [show 13 - (gk - 1) = v + 1 from by omega]; simp
                  · rw [show 12 - (gk - 1) = v from by omega, hnl]; simp
                  · rw [show 12 - (gk - 1) = v from by omega, hnl, hnn]
                    exact take_set HTK.out HQ.out (by have := HLN.out; omega) _
              · have hc1f : c.contains (v : Int) = false := by simpa using hc1
                rw [hc1f] at hb1
                rw [hb1] at he1
                rw [if_neg hc1] at hle
                by_cases hc2 : c.contains (-(v : Int)) = true
                · rw [hc2] at hb2
                  rw [hb2] at he2
                  rw [if_pos hc2] at hle
                  have hqn : q < n := by simp at hle; omega
                  have hqi : (q : Int) < n := by omega
                  have hcell := OwnI.get hown q (by omega)
                  have HC1 : Hid (c.contains (v : Int) = false) := hc1f
                  have HC2 : Hid (c.contains (-(v : Int)) = true) := hc2
                  clear hst hb1 hb2 hle hn2 hq2 htk hown hln hv hu hc1 hc1f hc2
                  go_wp2_with fail
                  go_roundg (gk - 1)
                  case measure => omega
                  case rel =>
                    have h1 := HV.out.1
                    have h2 := HV.out.2
                    have hnn : normTo c v = normTo c (v - 1) ++ [-(v : Int)] := by rw [HST.out, HC1.out, if_neg (by simp), if_pos HC2.out]
                    have hnl : (normTo c v).length = q + 1 := by rw [hnn, List.length_append, HQ.out]; rfl
                    refine ⟨l.set q (-(v : Int)), by omega, ?_, ?_, by rw [List.length_set]; exact HLN.out, HOWN.out.store HLN.out _ _, ?_, hf.set (by intro hlt2; exact absurd hlt2 (Nat.lt_irrefl _)) _⟩
                    · rw [show 13 - (gk - 1) = v + 1 from by omega]; simp
                    · rw [show 12 - (gk - 1) = v from by omega, hnl]; simp
                    · rw [show 12 - (gk - 1) = v from by omega, hnl, hnn]
                      exact take_set HTK.out HQ.out (by have := HLN.out; omega) _
                · have hc2f : c.contains (-(v : Int)) = false := by simpa using hc2
                  rw [hc2f] at hb2
                  rw [hb2] at he2
                  have HC1 : Hid (c.contains (v : Int) = false) := hc1f
                  have HC2 : Hid (c.contains (-(v : Int)) = false) := hc2f
                  clear hst hb1 hb2 hle hn2 hq2 htk hown hln hv hu hc1 hc1f hc2 hc2f
                  go_wp2_with fail
                  go_roundg (gk - 1)
                  case measure => omega
                  case rel =>
                    have h1 := HV.out.1
                    have h2 := HV.out.2
                    have hnn : normTo c v = normTo c (v - 1) := by rw [HST.out, HC1.out, HC2.out]; simp
                    refine ⟨l, by omega, ?_, ?_, HLN.out, HOWN.out, ?_, hf⟩
                    · rw [show 13 - (gk - 1) = v + 1 from by omega]; simp
                    · rw [show 12 - (gk - 1) = v from by omega, hnn, HQ.out]
                    · rw [show 12 - (gk - 1) = v from by omega, hnn, HQ.out]; exact HTK.out
            · have hg0 : gk = 0 := by omega
              subst hg0
              simp only [Nat.sub_zero] at htk
              have hn2 : (normTo c 12).length = n := HP.out
              rw [hn2, List.take_of_length_le (by omega)] at htk
              have HL2 : Hid (l = normC c) := htk
              have HOWN : Hid (OwnI wr w0.heap.size (.slice (some ⟨w0.heap.size, 0, none⟩) n n) l) := hown
              clear htk hown hlt hg hn2 hln
              go_wp2_with fail
              try go_ret2
              refine hK.out _ _ ⟨_, rfl, ?_, hf⟩
              rw [← HL2.out]; exact HOWN.out
  · have hlv2 : W.live id = false := by simpa using hlv
    rw [hlv2] at hlive
    have hq : Hid (W.clause? id = none) := by show _ = _; unfold WatchS.clause?; rw [if_neg hlv]
    have HL : Hid (Calls Tryz.prog 97 #[.pointer (some ⟨b, 0, none⟩), .int .i64 id] w fun e w' => e = .returned (.bool false) ∧ w' = w) := hlive
    clear hlive h hlv hlv2
    rw [hq.out]
    refine calls_via fun K hK => ?_
    go_enter Tryz.func58, Tryz.ntmps58
    go_wp2_with fail
    refine HL.out.mono ?_
    rintro e w' ⟨rfl, rfl⟩
    go_wp2_with fail
    try go_ret2
    exact hK.out _ _ ⟨rfl, rfl⟩
end Go.Proofs.Qxb6500354aGreat
