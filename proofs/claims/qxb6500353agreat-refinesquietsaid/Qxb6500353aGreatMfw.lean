/- The model coder: Code, Find, walked. -/
import Derived.Test.Qxb6500353aGreatMbw
namespace Go.Proofs.Qxb6500353aGreat
open Go.RowKit
set_option linter.unusedVariables false
set_option linter.unusedSimpArgs false

set_option maxRecDepth 100000 in
theorem mcode_any {w : World} {b g1 g2 : Nat} {l : List Nat} (h : McR w b g1 g2 l) (hn : l.length ≤ 265) (s : Nat) (hs : 0 < len l s) :
    Calls Tryz.prog 133 #[ptrV b, .int .i64 s] w fun e w' => e = .returned (.tuple #[.int .i64 (code l s : Nat), .int .i64 (len l s : Nat), .int .i64 0]) ∧ ∃ q, w' = w.drewN q := by
  have hsl := len_lt hs
  have p1 := h.p1
  have p2 := h.p2
  have x1 := h.a1.cell s hsl
  have x2 := h.a2.cell s hsl
  simp only [mkN] at x1 x2
  obtain ⟨n, hnn⟩ : ∃ n, n = l.length := ⟨_, rfl⟩
  obtain ⟨x, hx⟩ : ∃ n, n = len l s := ⟨_, rfl⟩
  obtain ⟨y, hy⟩ : ∃ n, n = code l s := ⟨_, rfl⟩
  rw [← hnn] at p1 p2 hsl hn
  rw [← hx] at x1 hs ⊢
  rw [← hy] at x2 ⊢
  have hsi : (s : Int) < n := by omega
  have hni : (n : Int) ≤ 265 := by omega
  have hxi : ((x : Int) == 0) = false := by simp; omega
  have hs0 : ¬ (s : Int) < 0 := by omega
  have hd0 : decide ((s : Int) < 0) = false := decide_eq_false hs0
  clear h hnn hx hy
  refine calls_via fun K hK => ?_
  unfold ptrV
  go_enter Tryz.func133, Tryz.ntmps133
  go_wp2_with fail
  go_quiet (fail)
  go_wp2_with fail
  go_ret3
  exact hK.out _ _ ⟨rfl, _, rfl⟩
theorem fnd_at {p : Nat → Bool} {n s : Nat} (hs : s < n) (hp : p s = true) (hb : ∀ t, t < s → p t = false) : (List.range n).find? p = some s := by
  rw [List.find?_range_eq_some]
  exact ⟨hp, List.mem_range.2 hs, fun t ht => by rw [hb t ht]; rfl⟩
theorem fnd_no {p : Nat → Bool} {n : Nat} (hb : ∀ t, t < n → p t = false) : (List.range n).find? p = none := by
  rw [List.find?_eq_none]
  intro t ht
  rw [hb t (List.mem_range.1 ht)]; simp
theorem any_succ (p : Nat → Bool) (n : Nat) : (List.range (n + 1)).any p = ((List.range n).any p || p n) := by
  rw [List.range_succ, List.any_append]; simp
set_option maxRecDepth 100000 in
set_option maxHeartbeats 4000000 in
theorem mfind_any {w : World} {b g1 g2 : Nat} {l : List Nat} (h : McR w b g1 g2 l) (hn : l.length ≤ 265) (hle : ∀ s, len l s ≤ 10) (a hv : Nat) (ha : a < 2 ^ hv) (hh : hv ≤ 16) :
    Calls Tryz.prog 170 #[ptrV b, .int .i64 a, .int .i64 hv] w fun e w' => e = .returned (.tuple #[.int .i64 ((findF l a hv).1 : Nat), .int .i64 ((findF l a hv).2.1 : Nat), .int .i64 ((findF l a hv).2.2 : Nat)]) ∧ w' = w := by
  have ha16 : a < 65536 := Nat.lt_of_lt_of_le ha (Nat.pow_le_pow_right (n := 2) (i := hv) (j := 16) (by decide) hh)
  have hsh : (a : Int) / 2 ^ hv = 0 := by rw [powI, Nat.div_eq_of_lt ha]; rfl
  have HSH := hid hsh
  have p1 := h.p1
  have p2 := h.p2
  have H := hid h
  have HLE := hid hle
  obtain ⟨res, hres⟩ : ∃ r, r = findF l a hv := ⟨_, rfl⟩
  have HR := hid hres
  rw [← hres]
  obtain ⟨n, hnn⟩ : ∃ n, n = l.length := ⟨_, rfl⟩
  rw [← hnn] at p1 p2 hn
  have HN := hid hnn
  have ha0 : (0 : Int) ≤ a := by omega
  have ha1 : ¬ (a : Int) < 0 := by omega
  have hai : (a : Int) < 65536 := by omega
  have hh0 : ¬ (hv : Int) < 0 := by omega
  have hh1 : ¬ (16 : Int) < hv := by omega
  have hhn : (0 : Int) ≤ hv := by omega
  have hni : (n : Int) ≤ 265 := by omega
  clear h hle ha hres hnn hsh
  refine calls_via fun K hK => ?_
  unfold ptrV
  have hsh := HSH.out
  go_enter Tryz.func170, Tryz.ntmps170
  go_wp2_with fail
  clear hsh ha0 ha1 hh0 hhn hai
  go_loopg [9, 10] n (fun g ov sv wr => ∃ s : Nat, g + s = n ∧ sv = .int .i64 (s : Nat) ∧ ov = .bool ((List.range s).any (openB l a hv)) ∧ (∀ t, t < s → hitB l a hv t = false) ∧ wr = w)
  case atStart => exact ⟨0, by omega, rfl, rfl, fun t h => by omega, rfl⟩
  case round =>
    obtain ⟨s, hgs, rfl, rfl, hno, rfl⟩ := hrel
    by_cases hlt : s < n
    · have hsi : (s : Int) < n := by omega
      have x1 := H.out.a1.cell s (by have := HN.out; omega)
      have x2 := H.out.a2.cell s (by have := HN.out; omega)
      simp only [mkN] at x1 x2
      have h10 := HLE.out s
      have hhb : hitB l a hv s = (decide (0 < len l s) && decide (len l s ≤ hv) && decide (a % 2 ^ len l s = code l s)) := rfl
      have hob : openB l a hv s = (decide (hv < len l s) && decide (code l s % 2 ^ hv = a)) := rfl
      have has := any_succ (openB l a hv) s
      have hcl := code_lt l s
      obtain ⟨x, hx⟩ : ∃ x, x = len l s := ⟨_, rfl⟩
      obtain ⟨c, hc⟩ : ∃ c, c = code l s := ⟨_, rfl⟩
      rw [← hx] at x1 h10 hhb hob hcl
      rw [← hc] at x2 hhb hob hcl
      have hcb : c < 1024 := Nat.lt_of_lt_of_le hcl (Nat.pow_le_pow_right (n := 2) (i := x) (j := 10) (by decide) h10)
      clear hcl
      have hci : (c : Int) < 1024 := by omega
      have hxi : (x : Int) ≤ 10 := by omega
      obtain ⟨ob, hob0⟩ : ∃ ob, ob = (List.range s).any (openB l a hv) := ⟨_, rfl⟩
      rw [← hob0] at has ⊢
      have HS := hid (And.intro hgs hlt)
      have HX := hid hx
      have HNO := hid hno
      by_cases h0 : 0 < x
      · have h0i : (0 : Int) < x := by omega
        by_cases h1 : x ≤ hv
        · have h1i : (x : Int) ≤ hv := by omega
          have h1j : ¬ (hv : Int) < x := by omega
          rw [decide_eq_false (by omega), Bool.false_and] at hob
          rw [decide_eq_true h0, decide_eq_true h1, Bool.true_and, Bool.true_and] at hhb
          have e1 : bits .and .i64 (a : Int) ((2 ^ x - 1 : Nat) : Int) = ((a % 2 ^ x : Nat) : Int) := maskI (by omega) (by omega)
          have hD1 := pw_pos x
          have hD2 : 2 ^ x ≤ 2 ^ 10 := Nat.pow_le_pow_right (by decide) (by omega)
          have h210 : (2 : Nat) ^ 10 = 1024 := rfl
          rw [h210] at hD2
          obtain ⟨r, hr⟩ : ∃ r, r = a % 2 ^ x := ⟨_, rfl⟩
          rw [← hr] at e1 hhb
          have hsx : wrap64 (2 ^ x) = ((2 ^ x : Nat) : Int) := w64p (by omega)
          obtain ⟨D, hD⟩ : ∃ D, D = 2 ^ x := ⟨_, rfl⟩
          rw [← hD] at e1 hD1 hD2 hsx
          have e1 : bits .and .i64 (a : Int) ((D : Int) - 1) = (r : Int) := by rw [show (D : Int) - 1 = ((D - 1 : Nat) : Int) by clear hsx; omega]; exact e1
          have hDi : (D : Int) ≤ 1024 := by clear hsx; omega
          have hDj : (1 : Int) ≤ D := by clear hsx; omega
          clear hD hr hD1 hD2
          by_cases h2 : r = c
          · subst h2
            rw [decide_eq_true rfl] at hhb
            have hfin : res = (s, x, 0) := by
              rw [HR.out]
              unfold findF
              rw [fnd_at (s := s) (by have := HN.out; rw [← this]; exact HS.out.2) hhb HNO.out, HX.out]
            have HF := hid hfin
            clear hhb hob has hx hc hob0 hno hgs hlt hfin h10 hcb h0 h1
            go_wp2_with fail
            go_ret3
            exact hK.out _ _ ⟨by rw [HF.out]; rfl, rfl⟩
          · have h2i : ((r : Int) == c) = false := by clear hsx; simp; omega
            rw [decide_eq_false h2] at hhb
            have HHB := hid hhb
            have hh2 : (List.range (s + 1)).any (openB l a hv) = ob := by rw [has, hob, Bool.or_false]
            have HAS := hid hh2
            clear hhb hob has hx hc hob0 hno hgs hlt hh2 h10 hcb h0 h1
            go_wp2_with fail
            go_roundg (gk - 1)
            case measure => have := HS.out; clear hsx; omega
            case rel =>
              refine ⟨s + 1, by have := HS.out; clear hsx; omega, by simp, by rw [HAS.out], fun t ht => ?_, rfl⟩
              by_cases e : t = s
              · rw [e]; exact HHB.out
              · exact HNO.out t (by clear hsx; omega)
        · have h1i : ¬ (x : Int) ≤ hv := by omega
          have h1j : (hv : Int) < x := by omega
          rw [decide_eq_true (by omega), Bool.true_and] at hob
          rw [decide_eq_false h1, Bool.and_false, Bool.false_and] at hhb
          have HHB := hid hhb
          have e1 : bits .and .i64 (c : Int) ((2 ^ hv - 1 : Nat) : Int) = ((c % 2 ^ hv : Nat) : Int) := maskI (by omega) (by omega)
          have hD1 := pw_pos hv
          have hD2 : 2 ^ hv ≤ 2 ^ 16 := Nat.pow_le_pow_right (by decide) (by omega)
          have h216 : (2 : Nat) ^ 16 = 65536 := rfl
          rw [h216] at hD2
          obtain ⟨r, hr⟩ : ∃ r, r = c % 2 ^ hv := ⟨_, rfl⟩
          rw [← hr] at e1 hob
          have hsx : wrap64 (2 ^ hv) = ((2 ^ hv : Nat) : Int) := w64p (by omega)
          obtain ⟨D, hD⟩ : ∃ D, D = 2 ^ hv := ⟨_, rfl⟩
          rw [← hD] at e1 hD1 hD2 hsx
          have e1 : bits .and .i64 (c : Int) ((D : Int) - 1) = (r : Int) := by rw [show (D : Int) - 1 = ((D - 1 : Nat) : Int) by clear hsx; omega]; exact e1
          have hDi : (D : Int) ≤ 65536 := by clear hsx; omega
          have hDj : (1 : Int) ≤ D := by clear hsx; omega
          clear hD hr hD1 hD2 h216
          by_cases h2 : r = a
          · have h2i : ((r : Int) == a) = true := by clear hsx; simp [h2]
            rw [decide_eq_true h2] at hob
            have hh2 : (List.range (s + 1)).any (openB l a hv) = true := by rw [has, hob, Bool.or_true]
            have HAS := hid hh2
            clear hhb hob has hx hc hob0 hno hgs hlt hh2 h10 hcb h0 h1 h2
            go_wp2_with fail
            go_roundg (gk - 1)
            case measure => have := HS.out; clear hsx; omega
            case rel =>
              refine ⟨s + 1, by have := HS.out; clear hsx; omega, by simp, by rw [HAS.out], fun t ht => ?_, rfl⟩
              by_cases e : t = s
              · rw [e]; exact HHB.out
              · exact HNO.out t (by clear hsx; omega)
          · have h2i : ((r : Int) == a) = false := by clear hsx; simp; omega
            rw [decide_eq_false h2] at hob
            have hh2 : (List.range (s + 1)).any (openB l a hv) = ob := by rw [has, hob, Bool.or_false]
            have HAS := hid hh2
            clear hhb hob has hx hc hob0 hno hgs hlt hh2 h10 hcb h0 h1 h2
            go_wp2_with fail
            go_roundg (gk - 1)
            case measure => have := HS.out; clear hsx; omega
            case rel =>
              refine ⟨s + 1, by have := HS.out; clear hsx; omega, by simp, by rw [HAS.out], fun t ht => ?_, rfl⟩
              by_cases e : t = s
              · rw [e]; exact HHB.out
              · exact HNO.out t (by clear hsx; omega)
      · have h0i : ¬ (0 : Int) < x := by omega
        have hx0 : x = 0 := by omega
        rw [hx0] at hhb hob x1
        rw [decide_eq_false (by omega), Bool.false_and, Bool.false_and] at hhb
        rw [decide_eq_false (by omega), Bool.false_and] at hob
        have HHB := hid hhb
        have hh2 : (List.range (s + 1)).any (openB l a hv) = ob := by rw [has, hob, Bool.or_false]
        have HAS := hid hh2
        have hv0 : ¬ (hv : Int) < 0 := by omega
        clear hhb hob has hx hc hob0 hno hgs hlt hh2 h10 hcb h0 h0i hxi hx0
        go_wp2_with fail
        go_roundg (gk - 1)
        case measure => have := HS.out;  omega
        case rel =>
          refine ⟨s + 1, by have := HS.out;  omega, by simp, by rw [HAS.out], fun t ht => ?_, rfl⟩
          by_cases e : t = s
          · rw [e]; exact HHB.out
          · exact HNO.out t (by  omega)
    · have hsi : ¬ (s : Int) < n := by omega
      have hsn : s = n := by omega
      subst hsn
      have hfn : (List.range l.length).find? (hitB l a hv) = none := fnd_no (fun t ht => hno t (by have := HN.out; omega))
      have hre : res = if (List.range s).any (openB l a hv) then (0, 0, 4) else (0, 0, 8) := by
        rw [HR.out]; unfold findF; rw [hfn, HN.out]
      cases e : (List.range s).any (openB l a hv) with
      | true =>
        rw [e] at hre
        have HF := hid hre
        clear hre hfn hno e
        go_wp2_with fail
        go_ret3
        exact hK.out _ _ ⟨by rw [HF.out]; rfl, rfl⟩
      | false =>
        rw [e] at hre
        have HF := hid hre
        clear hre hfn hno e
        go_wp2_with fail
        go_ret3
        exact hK.out _ _ ⟨by rw [HF.out]; rfl, rfl⟩
end Go.Proofs.Qxb6500353aGreat
