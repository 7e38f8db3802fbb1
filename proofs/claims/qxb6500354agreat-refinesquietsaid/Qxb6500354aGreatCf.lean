/- The walk over api: CheckFlat. -/
import Derived.Test.Qxb6500354aGreatPar5
namespace Go.Proofs.Qxb6500354aGreat
open Go.RowKit
set_option linter.unusedVariables false
set_option linter.unusedSimpArgs false

def cfLoop : List Int → Bool → Nat → Bool
  | [], _, _ => true
  | x :: r, st, last =>
    if x = 13 ∧ st = true then (if r = [] then false else cfLoop r false last)
    else if x = 0 then cfLoop r true 0
    else if good x = true then (if last < x.natAbs then cfLoop r false x.natAbs else false)
    else false
def checkFlatF (f : List Int) : Nat := if cfLoop f true 0 = true then (if f ≠ [] ∧ f.getLastD 0 ≠ 0 then 6 else 0) else 6
theorem cfLoop_cons (x : Int) (r : List Int) (st : Bool) (last : Nat) : cfLoop (x :: r) st last = if x = 13 ∧ st = true then (if r = [] then false else cfLoop r false last)
    else if x = 0 then cfLoop r true 0 else if good x = true then (if last < x.natAbs then cfLoop r false x.natAbs else false) else false := rfl
theorem drop_nil_iff {l : List Int} {n k : Nat} (hl : l.length = n) : l.drop k = [] ↔ n ≤ k := by rw [List.drop_eq_nil_iff, hl]
theorem getLastD_getD {l : List Int} {m : Nat} (hl : l.length = m + 1) : l.getLastD 0 = l.getD m 0 := by
  rw [List.getLastD_eq_getLast?, List.getLast?_eq_getElem?, List.getD_eq_getElem?_getD, hl]; rfl
set_option maxHeartbeats 4000000 in
theorem checkFlat_any {w : World} {v : Value} {f : List Int} (h : Ints w v f) (hb : f.length ≤ 1099511627776) :
    Calls Tryz.prog 94 #[v] w fun e w' => e = .returned (.int .i64 (checkFlatF f : Nat)) ∧ w' = w := by
  obtain ⟨a, cap, hea⟩ := h.len
  subst hea
  obtain ⟨n, hn⟩ : ∃ n, f.length = n := ⟨_, rfl⟩
  obtain ⟨res, hres⟩ : ∃ r, cfLoop f true 0 = r := ⟨_, rfl⟩
  obtain ⟨fin, hfin⟩ : ∃ r, checkFlatF f = r := ⟨_, rfl⟩
  rw [hn] at h hb ⊢
  rw [hfin]
  have hf2 : fin = if res = true then (if f ≠ [] ∧ f.getLastD 0 ≠ 0 then 6 else 0) else 6 := by rw [← hfin, ← hres]; rfl
  have HI := hid h
  have HN := hid hn
  have HR := hid hres
  have HF := hid hf2
  have hb2 : (n : Int) ≤ 1099511627776 := by omega
  clear h hn hres hf2 hfin
  refine calls_via fun K hK => ?_
  go_enter Tryz.func94, Tryz.ntmps94
  go_wp2_with fail
  go_loopg [3, 4, 5] n (fun g s l i wr => ∃ (st : Bool) (last : Nat), g ≤ n ∧ wr = w ∧ i = .int .i64 ((n - g : Nat) : Int) ∧ s = .bool st ∧ l = .int .i64 (last : Nat) ∧ last ≤ 12 ∧ res = cfLoop (f.drop (n - g)) st last)
  case atStart => exact ⟨true, 0, by omega, rfl, by simp, rfl, rfl, by omega, by simp [HR.out]⟩
  case round =>
    obtain ⟨st, last, hg, rfl, rfl, rfl, rfl, hlast, he⟩ := hrel
    by_cases hlt : 0 < gk
    · obtain ⟨k, hk⟩ : ∃ k, n - gk = k := ⟨_, rfl⟩
      rw [hk] at he ⊢
      have hkn : k < n := by omega
      have hkn2 : (k : Int) < n := by omega
      obtain ⟨g1, o1, rfl, hc1⟩ := HI.out.at HN.out hkn
      rw [drop_cons' HN.out hkn, cfLoop_cons] at he
      generalize f.getD k 0 = x at *
      have HK0 := hid hk
      have HG := hid hg
      have HLT := hid hlt
      have HLA := hid hlast
      clear hk hg hlt hlast
      by_cases h13 : x = 13
      · subst h13
        cases st with
        | true =>
          rw [if_pos ⟨rfl, rfl⟩] at he
          by_cases hl : n ≤ k + 1
          · rw [if_pos ((drop_nil_iff HN.out).2 hl)] at he
            have HE : Hid (fin = 6) := hid (by rw [HF.out, he]; simp)
            have hl2 : (n : Int) ≤ k + 1 := by omega
            clear he hl
            go_wp2_with fail
            exact hK.out _ _ ⟨by rw [HE.out]; rfl, rfl⟩
          · rw [if_neg (fun e => hl ((drop_nil_iff HN.out).1 e))] at he
            have hl2 : ¬ (n : Int) ≤ k + 1 := by omega
            have HE := hid he
            clear he hl
            go_wp2_with fail
            go_roundg (gk - 1)
            case measure => have := HLT.out; omega
            case rel =>
              have hk := HK0.out
              have hlt := HLT.out
              have hg := HG.out
              have e1 : n - (gk - 1) = k + 1 := by omega
              exact ⟨false, last, by omega, rfl, by rw [e1]; simp, rfl, rfl, HLA.out, by rw [e1]; exact HE.out⟩
        | false =>
          rw [if_neg (by simp), if_neg (by decide), if_neg (by decide)] at he
          have HE : Hid (fin = 6) := hid (by rw [HF.out, he]; simp)
          clear he
          go_wp2_with (first | (go_at_call 88; refine (good_any _ _).mono ?_; rintro e w' ⟨rfl, hw⟩; have hw2 := hw.symm; subst hw2; clear hw; rw [show good 13 = false from by decide]))
          exact hK.out _ _ ⟨by rw [HE.out]; rfl, rfl⟩
      · have hb1 : (x == 13) = false := by simpa using h13
        rw [if_neg (fun e => h13 e.1)] at he
        by_cases h0 : x = 0
        · subst h0
          rw [if_pos rfl] at he
          have HE := hid he
          clear he
          go_wp2_with fail
          go_roundg (gk - 1)
          case measure => have := HLT.out; omega
          case rel =>
            have hk := HK0.out
            have hlt := HLT.out
            have hg := HG.out
            have e1 : n - (gk - 1) = k + 1 := by omega
            exact ⟨true, 0, by omega, rfl, by rw [e1]; simp, rfl, rfl, by omega, by rw [e1]; exact HE.out⟩
        · have hb0 : (x == 0) = false := by simpa using h0
          rw [if_neg h0] at he
          obtain ⟨gd, hgd⟩ : ∃ z, good x = z := ⟨_, rfl⟩
          have HGD := hid hgd
          rw [hgd] at he
          cases gd with
          | false =>
            rw [if_neg (by simp)] at he
            have HE : Hid (fin = 6) := hid (by rw [HF.out, he]; simp)
            clear he hgd h0 h13
            go_wp2_with (first | (go_at_call 88; refine (good_any _ _).mono ?_; rintro e w' ⟨rfl, hw⟩; have hw2 := hw.symm; subst hw2; clear hw; try rw [HGD.out]))
            exact hK.out _ _ ⟨by rw [HE.out]; rfl, rfl⟩
          | true =>
            rw [if_pos rfl] at he
            have hx := (good_iff x).1 hgd
            have hx1 : -12 ≤ x := by omega
            have hx2 : x ≤ 12 := by omega
            have HV := hid (fun w => var_any x w hx1 hx2)
            obtain ⟨vn, hvn⟩ : ∃ z, x.natAbs = z := ⟨_, rfl⟩
            rw [hvn] at he HV
            have HVN : Hid (vn ≤ 12) := hid (by omega)
            clear hx1 hx2 hx hgd h0 h13 hvn
            by_cases hle : last < vn
            · rw [if_pos hle] at he
              have HE := hid he
              have hle2 : ¬ (vn : Int) ≤ last := by omega
              clear he hle
              go_wp2_with (first
                | (go_at_call 88; refine (good_any _ _).mono ?_; rintro e w' ⟨rfl, hw⟩; have hw2 := hw.symm; subst hw2; clear hw; try rw [HGD.out])
                | (go_at_call 89; refine (HV.out _).mono ?_; rintro e w' ⟨rfl, hw⟩; have hw2 := hw.symm; subst hw2; clear hw))
              go_roundg (gk - 1)
              case measure => have := HLT.out; omega
              case rel =>
                have hk := HK0.out
                have hlt := HLT.out
                have hg := HG.out
                have e1 : n - (gk - 1) = k + 1 := by omega
                exact ⟨false, vn, by omega, rfl, by rw [e1]; simp, rfl, rfl, HVN.out, by rw [e1]; exact HE.out⟩
            · rw [if_neg hle] at he
              have HE : Hid (fin = 6) := hid (by rw [HF.out, he]; simp)
              have hle2 : (vn : Int) ≤ last := by omega
              clear he hle
              go_wp2_with (first
                | (go_at_call 88; refine (good_any _ _).mono ?_; rintro e w' ⟨rfl, hw⟩; have hw2 := hw.symm; subst hw2; clear hw; try rw [HGD.out])
                | (go_at_call 89; refine (HV.out _).mono ?_; rintro e w' ⟨rfl, hw⟩; have hw2 := hw.symm; subst hw2; clear hw))
              exact hK.out _ _ ⟨by rw [HE.out]; rfl, rfl⟩
    · have hg0 : gk = 0 := by omega
      subst hg0
      rw [Nat.sub_zero, List.drop_of_length_le (by rw [HN.out]; exact Nat.le_refl _)] at he
      have hF := HF.out
      rw [he, if_pos (show cfLoop [] st last = true from rfl)] at hF
      clear he hlt hg hlast
      cases n with
      | zero =>
        have HE : Hid (fin = 0) := hid (by rw [hF, if_neg]; rintro ⟨a, _⟩; exact a (List.eq_nil_of_length_eq_zero HN.out))
        clear hF
        go_wp2_with fail
        exact hK.out _ _ ⟨by rw [HE.out]; rfl, rfl⟩
      | succ m =>
        rw [getLastD_getD HN.out] at hF
        obtain ⟨g1, o1, rfl, hc1⟩ := HI.out.at HN.out (Nat.lt_succ_self m)
        have hne : f ≠ [] := by intro e; have := HN.out; rw [e] at this; simp at this
        generalize f.getD m 0 = x at *
        have hm1 : (m : Int) < (m : Int) + 1 := by omega
        have hm2 : (0 : Int) < (m : Int) + 1 := by omega
        have hm3 : (0 : Int) ≤ (m : Int) := by omega
        by_cases h0 : x = 0
        · subst h0
          have HE : Hid (fin = 0) := hid (by rw [hF, if_neg]; rintro ⟨_, a⟩; exact a rfl)
          clear hF hne
          go_wp2_with fail
          exact hK.out _ _ ⟨by rw [HE.out]; rfl, rfl⟩
        · have HE : Hid (fin = 6) := hid (by rw [hF, if_pos ⟨hne, h0⟩])
          have hb0 : (x != 0) = true := by simpa using h0
          clear hF hne h0
          go_wp2_with fail
          exact hK.out _ _ ⟨by rw [HE.out]; rfl, rfl⟩

/-! ### the law: a flat form is one -/
theorem cfLoop_lits : ∀ (c : List Int) (r : List Int) (st : Bool) (last : Nat), ccLoop c last = 0 → cfLoop (c ++ 0 :: r) st last = cfLoop r true 0 := by
  intro c
  induction c with
  | nil => intro r st last _; rw [List.nil_append, cfLoop_cons, if_neg (by simp), if_pos rfl]
  | cons x c ih =>
    intro r st last h
    have h2 : (if good x = true then (if last < x.natAbs then ccLoop c x.natAbs else 8) else 7) = 0 := h
    by_cases hg : good x = true
    · rw [if_pos hg] at h2
      by_cases hl : last < x.natAbs
      · rw [if_pos hl] at h2
        have hx := (good_iff x).1 hg
        rw [List.cons_append, cfLoop_cons, if_neg (by omega), if_neg hx.1, if_pos hg, if_pos hl]
        exact ih r false _ h2
      · rw [if_neg hl] at h2; omega
    · rw [if_neg hg] at h2; omega
theorem cc_of_check {c : List Int} (h : checkClause c = 0) : ccLoop c 0 = 0 := by
  unfold checkClause at h
  split at h
  · omega
  · exact h
theorem cfLoop_flat : ∀ (rs : List (Bool × List Int)), (∀ r ∈ rs, checkClause r.2 = 0) → cfLoop (flatOf rs) true 0 = true := by
  intro rs
  induction rs with
  | nil => intro _; rfl
  | cons r rs ih =>
    intro h
    have h1 := cc_of_check (h r List.mem_cons_self)
    have h2 := ih (fun x hx => h x (List.mem_cons_of_mem _ hx))
    have e : flatOf (r :: rs) = flatRow r ++ flatOf rs := rfl
    rw [e]
    unfold flatRow
    cases hd : r.1
    · simp only [Bool.false_eq_true, if_false, List.nil_append, List.append_assoc, List.singleton_append]
      rw [cfLoop_lits _ _ _ _ h1]; exact h2
    · simp only [if_true, List.append_assoc, List.singleton_append]
      rw [List.cons_append, cfLoop_cons, if_pos ⟨rfl, rfl⟩, if_neg (by simp), cfLoop_lits _ _ _ _ h1]; exact h2
theorem flatOf_last : ∀ (rs : List (Bool × List Int)), (flatOf rs).getLastD 0 = 0 := by
  intro rs
  rcases List.eq_nil_or_concat rs with rfl | ⟨q, r, rfl⟩
  · rfl
  · rw [List.concat_eq_append, flatOf_snoc]
    unfold flatRow
    rw [List.getLastD_eq_getLast?]
    simp
theorem checkFlat_flat {rs : List (Bool × List Int)} (h : ∀ r ∈ rs, checkClause r.2 = 0) : checkFlatF (flatOf rs) = 0 := by
  unfold checkFlatF
  rw [if_pos (cfLoop_flat rs h), if_neg]
  rintro ⟨_, a⟩; exact a (flatOf_last rs)
end Go.Proofs.Qxb6500354aGreat
