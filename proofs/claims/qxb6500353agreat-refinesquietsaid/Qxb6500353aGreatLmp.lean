/- The model's matcher: Parse, New, walked. -/
import Derived.Test.Qxb6500353aGreatLmb
import Derived.Test.Qxb6500353aGreatLzf
import Derived.Deep.DeepAppendRoom
import Derived.Deep.DeepCutAuto
import Derived.Deep.Cut
namespace Go.Proofs.Qxb6500353aGreat
open Go.RowKit
set_option linter.unusedVariables false
set_option linter.unusedSimpArgs false

theorem newLzm_any (w : World) : Calls Tryz.prog 25 #[] w fun e w' => e = .returned (ptrV w.heap.size) ∧ Fr Nob w w' ∧ w'.heap.size = w.heap.size + 1 := by
  refine calls_via fun K hK => ?_
  go_enter Tryz.func25, Tryz.ntmps25
  go_wp2_with fail
  exact hK.out _ _ ⟨rfl, (Fr.refl _ _).alloc _, by simp⟩
/-- A growing row of tokens in block g, room for cap. -/
def OwnT (w : World) (g cap : Nat) (ts : List Tok) : Prop := w.ownsRow g 168 3 (.slice (some ⟨g, 0, none⟩) ts.length cap) ts.length (ts.flatMap tokL)
theorem OwnT.fr {S : Nat → Prop} {w w2 : World} {g cap : Nat} {ts : List Tok} (h : OwnT w g cap ts) (hf : Fr S w w2) (hn : ¬ S g) : OwnT w2 g cap ts := by
  refine ⟨h.1, ?_⟩
  rcases h.2 with ⟨e, _⟩ | ⟨g2, cap2, cur, e, hb, hg, rest⟩
  · simp at e
  · simp only [Value.slice.injEq, Option.some.injEq, Addr.mk.injEq, and_true, true_and] at e
    obtain ⟨rfl, rfl⟩ := e
    exact .inr ⟨g, cap, cur, rfl, hb, (hf.block g (Array.getElem?_eq_some_iff.1 hg).1 hn).trans hg, rest⟩
theorem OwnT.drewN {w : World} {g cap n : Nat} {ts : List Tok} (h : OwnT w g cap ts) : OwnT (w.drewN n) g cap ts := h
theorem OwnT.lt {w : World} {g cap : Nat} {ts : List Tok} (h : OwnT w g cap ts) : g < w.heap.size := (World.ownsRow.lt h g rfl).2
theorem OwnT.cel {w : World} {g cap : Nat} {ts : List Tok} (h : OwnT w g cap ts) : Cel mkV w g 0 (ts.length * 3) (tokF ts) := by
  intro i hi
  have h1 := World.ownsRow.cells h (g := g) rfl i (tokF ts i) (by
    unfold tokF
    rw [List.getD_eq_getElem?_getD, List.getElem?_eq_getElem (by rw [tokL_length]; exact hi)]; rfl)
  rw [addrAdd] at h1; exact h1
theorem wp_appT {ops : Array Oper} {rest : List Oper} {o : Oper} {a : Act} {Q : Exit → Act → World → Prop} {w : World} (hgd : o.guard = none) (s x : Operand)
    (ho : o.op = .call { callee := .builtin .append, args := #[s, x], argTypes := #[69, 69] }) (g cap : Nat) (ts : List Tok) (t : Tok) (hs : a.eval s = .slice (some ⟨g, 0, none⟩) ts.length cap) (hown : OwnT w g cap ts)
    (N c : Nat) (hx : a.eval x = .slice (some ⟨N, 0, none⟩) 1 c) (c0 : w.cell? ⟨N, 0, none⟩ = some (mkN t.len)) (c1 : w.cell? ⟨N, 1, none⟩ = some (mkN t.dist)) (c2 : w.cell? ⟨N, 2, none⟩ = some (mkN t.lit)) (hroom : ts.length + 1 ≤ cap)
    (h : ∀ w', OwnT w' g cap (ts ++ [t]) → Fr (One g) w w' → wpList Tryz.prog ops Q rest (a.put o.dst (.slice (some ⟨g, 0, none⟩) (ts.length + 1) cap)) w') :
    wpList Tryz.prog ops Q (o :: rest) a w := by
  obtain ⟨i0, hi, hz0, hz1, hz2⟩ := info_parts Tryz.info168
  refine wpList_append_own_spare w hgd s x 69 ho g 168 i0 3 Tryz.underlying69 hi hz1 g ts.length cap _ hs hown ⟨N, 0, none⟩ 1 c (tokL t) hx rfl ?_ ?_ hroom ?_
  · intro j u hj
    rw [addrAdd, Nat.zero_add]
    match j, hj with
    | 0, hj => rw [c0]; exact hj
    | 1, hj => rw [c1]; exact hj
    | 2, hj => rw [c2]; exact hj
    | j + 3, hj => simp [tokL] at hj
  · intro u hu
    simp [tokL] at hu
    rcases hu with rfl | rfl | rfl <;> rfl
  · intro w' h1 h2
    refine h w' ?_ ((Fr.refl (One g) w).grown h2 (fun k hk _ => (Option.some.inj hk).symm))
    unfold OwnT
    rw [List.flatMap_append, List.length_append]
    have e : [t].flatMap tokL = tokL t := by simp
    rw [e]
    exact h1

structure PrsS (s : List Nat) (lv i : Nat) (ts : List Tok) : Prop where
  eq : ts ++ parseP s lv i = parseP s lv 0
  le : ts.length ≤ i
theorem PrsS.lit {s : List Nat} {lv i : Nat} {ts : List Tok} (h : PrsS s lv i ts) (hi : i < s.length) (h0 : (takeF s lv i).1 = 0) : PrsS s lv (i + 1) (ts ++ [⟨0, 0, by_ s i⟩]) := by
  refine ⟨?_, by have := h.le; simp; omega⟩
  rw [← h.eq, parseP_lit s lv i hi h0]; simp
theorem PrsS.dup {s : List Nat} {lv i n d : Nat} {ts : List Tok} (h : PrsS s lv i ts) (hi : i < s.length) (h0 : takeF s lv i = (n, d)) (hn : n ≠ 0) : PrsS s lv (i + n) (ts ++ [⟨n, d, 0⟩]) := by
  refine ⟨?_, by have := h.le; simp; omega⟩
  have e1 : (takeF s lv i).1 = n := by rw [h0]
  have e2 : (takeF s lv i).2 = d := by rw [h0]
  rw [← h.eq, parseP_dup s lv i hi (by rw [e1]; exact hn), e1, e2]; simp
set_option maxRecDepth 100000 in
set_option maxHeartbeats 4000000 in
theorem mparse_any {w : World} {p : Value} {s : ByteArray} (hs : s.size ≤ 256) {lv : Nat} (hlv : lv ≤ 2) :
    Calls Tryz.prog 63 #[p, .string s, .int .i64 lv] w fun e w' => ∃ N, w.heap.size ≤ N ∧ e = .returned (.tuple #[.slice (some ⟨N, 0, none⟩) (parseP (bytesOf s) lv 0).length (parseP (bytesOf s) lv 0).length, .int .i64 0]) ∧ Arr 168 mkV w' N ((parseP (bytesOf s) lv 0).length * 3) (tokF (parseP (bytesOf s) lv 0)) ∧ Fr Nob w w' := by
  have hsi : (s.size : Int) ≤ 256 := by omega
  have hlvi : (lv : Int) ≤ 2 := by omega
  have HBST := hid (fun w i (hi : i ≤ s.size) => best_any (w := w) (s := s) hi (by omega))
  have HLN := hid (bytesOf_len s)
  obtain ⟨S, hS⟩ : ∃ S, S = bytesOf s := ⟨_, rfl⟩
  have HSB := hid (fun k (hk : k < s.size) => show (s[k]'hk).toNat = by_ S k by rw [hS]; exact byteI s hk)
  have HB2 := hid (fun k => show by_ S k < 256 by rw [hS]; exact byS_lt s k)
  rw [← hS] at HBST HLN ⊢
  clear hS
  obtain ⟨N0, hN0⟩ : ∃ N, w.heap.size = N := ⟨_, rfl⟩
  refine calls_via fun K hK => ?_
  go_enter Tryz.func63, Tryz.ntmps63
  go_wp2_with (at_make; refine wp_mkg rfl _ _ 69 168 3 24 _ rfl Tryz.underlying69 Tryz.info168 rfl 0 s.size 0 s.size N0 hN0 rfl rfl rfl rfl (Nat.zero_le _) (by omega) (by omega) ?_; intro w1 hs1 ha1 hf1; have HA1 := hid ha1; have HF1 := hid hf1; clear ha1 hf1 hs1)
  have hO1 : OwnT w1 N0 s.size [] := by
    obtain ⟨cur, hg, hn, _⟩ := HA1.out
    exact ⟨by simp, .inr ⟨N0, s.size, cur, rfl, Nat.le_refl _, hg, Nat.zero_le _, by unfold maxLen; omega, hn, by simp⟩⟩
  have HO1 := hid hO1
  have HN0 := hid hN0
  clear hO1
  go_loopg [8, 9] s.size (fun g ov v wr => ∃ (k : Nat) (ts : List Tok), v = .int .i64 (k : Nat) ∧ g + k = s.size ∧ ov = .slice (some ⟨N0, 0, none⟩) ts.length s.size ∧ OwnT wr N0 s.size ts ∧ PrsS S lv k ts ∧ Fr Nob w wr)
  case atStart => exact ⟨0, [], rfl, by omega, rfl, HO1.out, ⟨rfl, Nat.le_refl _⟩, HF1.out⟩
  case round =>
    obtain ⟨k, ts, rfl, hg, rfl, hO, hP, hf⟩ := hrel
    have HO := hid hO
    have HP := hid hP
    have HF := hid hf
    have HG := hid hg
    by_cases hlt : k < s.size
    · have hki : (k : Int) < s.size := by omega
      have HLT := hid hlt
      have hBk := HBST.out
      have hts : ts.length < s.size := by have := hP.le; omega
      have htsi : (ts.length : Int) < s.size := by omega
      have HTS := hid hts
      have hb1 := HSB.out k hlt
      have hb2 := HB2.out k
      obtain ⟨x, hx⟩ : ∃ x, x = by_ S k := ⟨_, rfl⟩
      rw [← hx] at hb1 hb2
      have HX := hid hx
      obtain ⟨n1, hn1⟩ : ∃ z, z = (bestF S k).1 := ⟨_, rfl⟩
      obtain ⟨d1, hd1⟩ : ∃ z, z = (bestF S k).2 := ⟨_, rfl⟩
      obtain ⟨n2, hn2⟩ : ∃ z, z = (bestF S (k + 1)).1 := ⟨_, rfl⟩
      obtain ⟨d2, hd2⟩ : ∃ z, z = (bestF S (k + 1)).2 := ⟨_, rfl⟩
      obtain ⟨f1, f2, f3, f4⟩ := best_facts (by rw [HLN.out]; omega) hn1 hd1
      obtain ⟨g1, g2, g3, g4⟩ := best_facts (by rw [HLN.out]; omega) hn2 hd2
      have HB1 := hid (fun w => HBST.out w k (by omega))
      have HB3 := hid (fun w => HBST.out w (k + 1) (by omega))
      rw [← hn1, ← hd1] at HB1
      rw [← hn2, ← hd2] at HB3
      have hn1i : (n1 : Int) ≤ 10 := by omega
      have hd1i : (d1 : Int) ≤ 16 := by omega
      have hn2i : (n2 : Int) ≤ 10 := by omega
      have HTK : Hid (takeF S lv k = if lv = 0 then (0, 0) else if lv = 2 ∧ 0 < n1 ∧ n1 < 10 ∧ n1 < n2 then (0, 0) else (n1, d1)) := hid (by
        unfold takeF; rw [f4, g4])
      have HFA := hid (And.intro f1 (And.intro f2 f3))
      rw [HLN.out] at HFA
      clear hO hP hf hg hts hx hn1 hd1 hn2 hd2 f1 f2 f3 f4 g1 g2 g3 g4 hBk
      go_upto_if 32 with (fail)
      go_cut [10, 11] (fun nv dv wx => ∃ n d M : Nat, nv = .int .i64 (n : Nat) ∧ dv = .int .i64 (d : Nat) ∧ n ≤ 10 ∧ d ≤ 16 ∧ k + n ≤ s.size ∧ (n, d) = (if lv = 0 then (0, 0) else (n1, d1)) ∧ wx = wr.drewN M)
      case first =>
        by_cases e : lv = 0
        · subst e
          go_wp2_with fail
          go_meet
          exact ⟨0, 0, 0, rfl, rfl, by omega, by omega, by have := HLT.out; omega, rfl, rfl⟩
        · have ei : (0 : Int) < lv := by omega
          go_wp2_with (go_at_call 94; refine (HB1.out _).mono ?_; rintro e w' ⟨rfl, nn, hw⟩; have hw2 := hw; subst hw2; clear hw)
          go_meet
          exact ⟨n1, d1, _, rfl, rfl, HFA.out.1, HFA.out.2.1, HFA.out.2.2, by rw [if_neg e], rfl⟩
      case rest =>
      obtain ⟨n, d, M, rfl, rfl, hn10, hd16, hkn, hnd, hw⟩ := hcut
      have hni : (n : Int) ≤ 10 := by omega
      have hdi : (d : Int) ≤ 16 := by omega
      have HND := hid (And.intro hnd (And.intro hn10 (And.intro hd16 hkn)))
      subst hw
      clear hnd hn10 hd16 hkn
      have HTK2 := HTK.out
      have hnd := HND.out.1
      by_cases e2 : lv = 2
      · subst e2
        rw [if_neg (by omega)] at HTK2 hnd
        simp only [Prod.mk.injEq] at hnd
        obtain ⟨rfl, rfl⟩ := hnd
        by_cases e0 : n = 0
        · subst e0
          rw [if_neg (by omega)] at HTK2
          have H7 := hid HTK2
          clear HTK2
          go_upto_if 48 with (go_at_call 94; refine (HB3.out _).mono ?_; rintro e w' ⟨rfl, nn2, hw⟩; have hw2 := hw; subst hw2; clear hw)
          go_cut [10, 11] (fun nv dv wx => ∃ n d M : Nat, nv = .int .i64 (n : Nat) ∧ dv = .int .i64 (d : Nat) ∧ n ≤ 10 ∧ d ≤ 16 ∧ (n = 0 ∧ (takeF S 2 k).1 = 0 ∨ n ≠ 0 ∧ takeF S 2 k = (n, d) ∧ k + n ≤ s.size) ∧ wx = wr.drewN M)
          case first =>
            go_wp2_with fail
            go_meet
            exact ⟨0, d, _, rfl, rfl, by omega, HFA.out.2.1, .inl ⟨rfl, by rw [H7.out]⟩, rfl⟩
          case rest =>
            clear HND HFA
            obtain ⟨n, d, M, rfl, rfl, hn10, hd16, hor, hw⟩ := hcut
            obtain ⟨w5, hw5⟩ : ∃ w5, w5 = wr.drewN M := ⟨_, rfl⟩
            have hO5 : OwnT w5 N0 s.size ts := by rw [hw5]; exact HO.out.drewN
            have hF5 : Fr Nob w w5 := by rw [hw5]; exact HF.out.drewN
            rw [← hw5] at hw
            subst hw
            have HO5 := hid hO5
            have HF5 := hid hF5
            obtain ⟨N5, hN5⟩ : ∃ N5, wc.heap.size = N5 := ⟨_, rfl⟩
            have hg5 : N0 < N5 := by rw [← hN5]; exact hO5.lt
            have HG5 := hid hg5
            have hni : (n : Int) ≤ 10 := by omega
            have hdi : (d : Int) ≤ 16 := by omega
            obtain ⟨q, hq⟩ : ∃ q, q = ts.length := ⟨_, rfl⟩
            have HQ := hid hq
            rcases hor with ⟨rfl, htk⟩ | ⟨hn0, htk, hkn⟩
            · have HTK3 := hid htk
              clear hO5 hF5 hw5 htk hq hg5 hn10 hd16
              have hA := (Fr.refl Nob wc).alloc (Obj.cells #[.int .i64 0, .int .i64 0, .int .i64 x] 168)
              have c0 := World.cell?_alloc_new wc #[.int .i64 0, .int .i64 0, .int .i64 x] 168 0
              have c1 := World.cell?_alloc_new wc #[.int .i64 0, .int .i64 0, .int .i64 x] 168 1
              have c2 := World.cell?_alloc_new wc #[.int .i64 0, .int .i64 0, .int .i64 x] 168 2
              rw [hN5] at c0 c1 c2
              have HC := hid (And.intro c0 (And.intro c1 c2))
              have HA := hid hA
              clear hA c0 c1 c2
              go_wp2_with (at_builtin; refine wp_appT rfl _ _ rfl N0 s.size ts ⟨0, 0, x⟩ rfl (HO5.out.fr HA.out (fun x => x)) N5 1 rfl HC.out.1 HC.out.2.1 HC.out.2.2 (by have := HTS.out; omega) ?_; intro w6 ho6 hf6; have HO6 := hid ho6; have HF6 := hid hf6; clear ho6 hf6)
              go_roundg (gk - 1)
              case measure => have := HG.out; omega
              case rel =>
                refine ⟨k + 1, ts ++ [⟨0, 0, x⟩], by simp, by have := HG.out; omega, by rw [List.length_append]; rfl, HO6.out, ?_, ?_⟩
                · rw [HX.out]
                  exact HP.out.lit (by rw [HLN.out]; exact HLT.out) HTK3.out
                · exact (HF5.out.trans HA.out).trans2 HF6.out (fun x hx hl => by unfold One at hx; have := HN0.out; omega)
            · have HTK3 := hid (And.intro hn0 (And.intro htk hkn))
              have hn0i : ((n : Int) == 0) = false := by simp; omega
              have hkni : (k : Int) + n ≤ s.size := by omega
              clear hO5 hF5 hw5 htk hq hg5 hn10 hd16 hn0 hkn
              have hA := (Fr.refl Nob wc).alloc (Obj.cells #[.int .i64 n, .int .i64 d, .int .i64 0] 168)
              have c0 := World.cell?_alloc_new wc #[.int .i64 n, .int .i64 d, .int .i64 0] 168 0
              have c1 := World.cell?_alloc_new wc #[.int .i64 n, .int .i64 d, .int .i64 0] 168 1
              have c2 := World.cell?_alloc_new wc #[.int .i64 n, .int .i64 d, .int .i64 0] 168 2
              rw [hN5] at c0 c1 c2
              have HC := hid (And.intro c0 (And.intro c1 c2))
              have HA := hid hA
              clear hA c0 c1 c2
              go_wp2_with (at_builtin; refine wp_appT rfl _ _ rfl N0 s.size ts ⟨n, d, 0⟩ rfl (HO5.out.fr HA.out (fun x => x)) N5 1 rfl HC.out.1 HC.out.2.1 HC.out.2.2 (by have := HTS.out; omega) ?_; intro w6 ho6 hf6; have HO6 := hid ho6; have HF6 := hid hf6; clear ho6 hf6)
              go_roundg (gk - n)
              case measure => have := HG.out; have := HTK3.out; omega
              case rel =>
                refine ⟨k + n, ts ++ [⟨n, d, 0⟩], by simp, by have := HG.out; have := HTK3.out; omega, by rw [List.length_append]; rfl, HO6.out, ?_, ?_⟩
                · exact HP.out.dup (by rw [HLN.out]; exact HLT.out) HTK3.out.2.1 HTK3.out.1
                · exact (HF5.out.trans HA.out).trans2 HF6.out (fun x hx hl => by unfold One at hx; have := HN0.out; omega)
        · have e0i : (0 : Int) < n := by omega
          by_cases e10 : n < 10
          · have e10i : (n : Int) < 10 := by omega
            have H70 := hid HTK2
            clear HTK2
            go_upto_if 48 with (go_at_call 94; refine (HB3.out _).mono ?_; rintro e w' ⟨rfl, nn2, hw⟩; have hw2 := hw; subst hw2; clear hw)
            go_cut [10, 11] (fun nv dv wx => ∃ n d M : Nat, nv = .int .i64 (n : Nat) ∧ dv = .int .i64 (d : Nat) ∧ n ≤ 10 ∧ d ≤ 16 ∧ (n = 0 ∧ (takeF S 2 k).1 = 0 ∨ n ≠ 0 ∧ takeF S 2 k = (n, d) ∧ k + n ≤ s.size) ∧ wx = wr.drewN M)
            case first =>
              have HTK2 := H70.out
              clear H70
              by_cases el : n < n2
              · have eli : (n : Int) < n2 := by omega
                rw [if_pos ⟨rfl, by omega, e10, el⟩] at HTK2
                have H7 := hid HTK2
                clear HTK2
                go_wp2_with (go_at_call 94; refine (HB3.out _).mono ?_; rintro e w' ⟨rfl, nn2, hw⟩; have hw2 := hw; subst hw2; clear hw)
                go_meet
                exact ⟨0, d, _, rfl, rfl, by omega, HFA.out.2.1, .inl ⟨rfl, by rw [H7.out]⟩, by first | rfl | (repeat rw [World.drewN_drewN])⟩
              · have eli : ¬ (n : Int) < n2 := by omega
                rw [if_neg (fun h => el h.2.2.2)] at HTK2
                have H7 := hid HTK2
                clear HTK2
                go_wp2_with (go_at_call 94; refine (HB3.out _).mono ?_; rintro e w' ⟨rfl, nn2, hw⟩; have hw2 := hw; subst hw2; clear hw)
                go_meet
                exact ⟨n, d, _, rfl, rfl, HFA.out.1, HFA.out.2.1, .inr ⟨e0, H7.out, HFA.out.2.2⟩, by first | rfl | (repeat rw [World.drewN_drewN])⟩
            case rest =>
              clear HND HFA
              obtain ⟨n, d, M, rfl, rfl, hn10, hd16, hor, hw⟩ := hcut
              obtain ⟨w5, hw5⟩ : ∃ w5, w5 = wr.drewN M := ⟨_, rfl⟩
              have hO5 : OwnT w5 N0 s.size ts := by rw [hw5]; exact HO.out.drewN
              have hF5 : Fr Nob w w5 := by rw [hw5]; exact HF.out.drewN
              rw [← hw5] at hw
              subst hw
              have HO5 := hid hO5
              have HF5 := hid hF5
              obtain ⟨N5, hN5⟩ : ∃ N5, wc.heap.size = N5 := ⟨_, rfl⟩
              have hg5 : N0 < N5 := by rw [← hN5]; exact hO5.lt
              have HG5 := hid hg5
              have hni : (n : Int) ≤ 10 := by omega
              have hdi : (d : Int) ≤ 16 := by omega
              obtain ⟨q, hq⟩ : ∃ q, q = ts.length := ⟨_, rfl⟩
              have HQ := hid hq
              rcases hor with ⟨rfl, htk⟩ | ⟨hn0, htk, hkn⟩
              · have HTK3 := hid htk
                clear hO5 hF5 hw5 htk hq hg5 hn10 hd16
                have hA := (Fr.refl Nob wc).alloc (Obj.cells #[.int .i64 0, .int .i64 0, .int .i64 x] 168)
                have c0 := World.cell?_alloc_new wc #[.int .i64 0, .int .i64 0, .int .i64 x] 168 0
                have c1 := World.cell?_alloc_new wc #[.int .i64 0, .int .i64 0, .int .i64 x] 168 1
                have c2 := World.cell?_alloc_new wc #[.int .i64 0, .int .i64 0, .int .i64 x] 168 2
                rw [hN5] at c0 c1 c2
                have HC := hid (And.intro c0 (And.intro c1 c2))
                have HA := hid hA
                clear hA c0 c1 c2
                go_wp2_with (at_builtin; refine wp_appT rfl _ _ rfl N0 s.size ts ⟨0, 0, x⟩ rfl (HO5.out.fr HA.out (fun x => x)) N5 1 rfl HC.out.1 HC.out.2.1 HC.out.2.2 (by have := HTS.out; omega) ?_; intro w6 ho6 hf6; have HO6 := hid ho6; have HF6 := hid hf6; clear ho6 hf6)
                go_roundg (gk - 1)
                case measure => have := HG.out; omega
                case rel =>
                  refine ⟨k + 1, ts ++ [⟨0, 0, x⟩], by simp, by have := HG.out; omega, by rw [List.length_append]; rfl, HO6.out, ?_, ?_⟩
                  · rw [HX.out]
                    exact HP.out.lit (by rw [HLN.out]; exact HLT.out) HTK3.out
                  · exact (HF5.out.trans HA.out).trans2 HF6.out (fun x hx hl => by unfold One at hx; have := HN0.out; omega)
              · have HTK3 := hid (And.intro hn0 (And.intro htk hkn))
                have hn0i : ((n : Int) == 0) = false := by simp; omega
                have hkni : (k : Int) + n ≤ s.size := by omega
                clear hO5 hF5 hw5 htk hq hg5 hn10 hd16 hn0 hkn
                have hA := (Fr.refl Nob wc).alloc (Obj.cells #[.int .i64 n, .int .i64 d, .int .i64 0] 168)
                have c0 := World.cell?_alloc_new wc #[.int .i64 n, .int .i64 d, .int .i64 0] 168 0
                have c1 := World.cell?_alloc_new wc #[.int .i64 n, .int .i64 d, .int .i64 0] 168 1
                have c2 := World.cell?_alloc_new wc #[.int .i64 n, .int .i64 d, .int .i64 0] 168 2
                rw [hN5] at c0 c1 c2
                have HC := hid (And.intro c0 (And.intro c1 c2))
                have HA := hid hA
                clear hA c0 c1 c2
                go_wp2_with (at_builtin; refine wp_appT rfl _ _ rfl N0 s.size ts ⟨n, d, 0⟩ rfl (HO5.out.fr HA.out (fun x => x)) N5 1 rfl HC.out.1 HC.out.2.1 HC.out.2.2 (by have := HTS.out; omega) ?_; intro w6 ho6 hf6; have HO6 := hid ho6; have HF6 := hid hf6; clear ho6 hf6)
                go_roundg (gk - n)
                case measure => have := HG.out; have := HTK3.out; omega
                case rel =>
                  refine ⟨k + n, ts ++ [⟨n, d, 0⟩], by simp, by have := HG.out; have := HTK3.out; omega, by rw [List.length_append]; rfl, HO6.out, ?_, ?_⟩
                  · exact HP.out.dup (by rw [HLN.out]; exact HLT.out) HTK3.out.2.1 HTK3.out.1
                  · exact (HF5.out.trans HA.out).trans2 HF6.out (fun x hx hl => by unfold One at hx; have := HN0.out; omega)
          · have e10i : ¬ (n : Int) < 10 := by omega
            rw [if_neg (fun h => e10 h.2.2.1)] at HTK2
            have H7 := hid HTK2
            clear HTK2
            go_upto_if 48 with (go_at_call 94; refine (HB3.out _).mono ?_; rintro e w' ⟨rfl, nn2, hw⟩; have hw2 := hw; subst hw2; clear hw)
            go_cut [10, 11] (fun nv dv wx => ∃ n d M : Nat, nv = .int .i64 (n : Nat) ∧ dv = .int .i64 (d : Nat) ∧ n ≤ 10 ∧ d ≤ 16 ∧ (n = 0 ∧ (takeF S 2 k).1 = 0 ∨ n ≠ 0 ∧ takeF S 2 k = (n, d) ∧ k + n ≤ s.size) ∧ wx = wr.drewN M)
            case first =>
              go_wp2_with fail
              go_meet
              exact ⟨n, d, _, rfl, rfl, HFA.out.1, HFA.out.2.1, .inr ⟨e0, H7.out, HFA.out.2.2⟩, rfl⟩
            case rest =>
              clear HND HFA
              obtain ⟨n, d, M, rfl, rfl, hn10, hd16, hor, hw⟩ := hcut
              obtain ⟨w5, hw5⟩ : ∃ w5, w5 = wr.drewN M := ⟨_, rfl⟩
              have hO5 : OwnT w5 N0 s.size ts := by rw [hw5]; exact HO.out.drewN
              have hF5 : Fr Nob w w5 := by rw [hw5]; exact HF.out.drewN
              rw [← hw5] at hw
              subst hw
              have HO5 := hid hO5
              have HF5 := hid hF5
              obtain ⟨N5, hN5⟩ : ∃ N5, wc.heap.size = N5 := ⟨_, rfl⟩
              have hg5 : N0 < N5 := by rw [← hN5]; exact hO5.lt
              have HG5 := hid hg5
              have hni : (n : Int) ≤ 10 := by omega
              have hdi : (d : Int) ≤ 16 := by omega
              obtain ⟨q, hq⟩ : ∃ q, q = ts.length := ⟨_, rfl⟩
              have HQ := hid hq
              rcases hor with ⟨rfl, htk⟩ | ⟨hn0, htk, hkn⟩
              · have HTK3 := hid htk
                clear hO5 hF5 hw5 htk hq hg5 hn10 hd16
                have hA := (Fr.refl Nob wc).alloc (Obj.cells #[.int .i64 0, .int .i64 0, .int .i64 x] 168)
                have c0 := World.cell?_alloc_new wc #[.int .i64 0, .int .i64 0, .int .i64 x] 168 0
                have c1 := World.cell?_alloc_new wc #[.int .i64 0, .int .i64 0, .int .i64 x] 168 1
                have c2 := World.cell?_alloc_new wc #[.int .i64 0, .int .i64 0, .int .i64 x] 168 2
                rw [hN5] at c0 c1 c2
                have HC := hid (And.intro c0 (And.intro c1 c2))
                have HA := hid hA
                clear hA c0 c1 c2
                go_wp2_with (at_builtin; refine wp_appT rfl _ _ rfl N0 s.size ts ⟨0, 0, x⟩ rfl (HO5.out.fr HA.out (fun x => x)) N5 1 rfl HC.out.1 HC.out.2.1 HC.out.2.2 (by have := HTS.out; omega) ?_; intro w6 ho6 hf6; have HO6 := hid ho6; have HF6 := hid hf6; clear ho6 hf6)
                go_roundg (gk - 1)
                case measure => have := HG.out; omega
                case rel =>
                  refine ⟨k + 1, ts ++ [⟨0, 0, x⟩], by simp, by have := HG.out; omega, by rw [List.length_append]; rfl, HO6.out, ?_, ?_⟩
                  · rw [HX.out]
                    exact HP.out.lit (by rw [HLN.out]; exact HLT.out) HTK3.out
                  · exact (HF5.out.trans HA.out).trans2 HF6.out (fun x hx hl => by unfold One at hx; have := HN0.out; omega)
              · have HTK3 := hid (And.intro hn0 (And.intro htk hkn))
                have hn0i : ((n : Int) == 0) = false := by simp; omega
                have hkni : (k : Int) + n ≤ s.size := by omega
                clear hO5 hF5 hw5 htk hq hg5 hn10 hd16 hn0 hkn
                have hA := (Fr.refl Nob wc).alloc (Obj.cells #[.int .i64 n, .int .i64 d, .int .i64 0] 168)
                have c0 := World.cell?_alloc_new wc #[.int .i64 n, .int .i64 d, .int .i64 0] 168 0
                have c1 := World.cell?_alloc_new wc #[.int .i64 n, .int .i64 d, .int .i64 0] 168 1
                have c2 := World.cell?_alloc_new wc #[.int .i64 n, .int .i64 d, .int .i64 0] 168 2
                rw [hN5] at c0 c1 c2
                have HC := hid (And.intro c0 (And.intro c1 c2))
                have HA := hid hA
                clear hA c0 c1 c2
                go_wp2_with (at_builtin; refine wp_appT rfl _ _ rfl N0 s.size ts ⟨n, d, 0⟩ rfl (HO5.out.fr HA.out (fun x => x)) N5 1 rfl HC.out.1 HC.out.2.1 HC.out.2.2 (by have := HTS.out; omega) ?_; intro w6 ho6 hf6; have HO6 := hid ho6; have HF6 := hid hf6; clear ho6 hf6)
                go_roundg (gk - n)
                case measure => have := HG.out; have := HTK3.out; omega
                case rel =>
                  refine ⟨k + n, ts ++ [⟨n, d, 0⟩], by simp, by have := HG.out; have := HTK3.out; omega, by rw [List.length_append]; rfl, HO6.out, ?_, ?_⟩
                  · exact HP.out.dup (by rw [HLN.out]; exact HLT.out) HTK3.out.2.1 HTK3.out.1
                  · exact (HF5.out.trans HA.out).trans2 HF6.out (fun x hx hl => by unfold One at hx; have := HN0.out; omega)
      · have e2i : ((lv : Int) == 2) = false := by simp; omega
        have hh : takeF S lv k = (n, d) := by
          rw [hnd, HTK2]; split
          · rfl
          · rw [if_neg (fun h => e2 h.1)]
        have H7 := hid hh
        clear HTK2 hnd hh
        go_upto_if 48 with (go_at_call 94; refine (HB3.out _).mono ?_; rintro e w' ⟨rfl, nn2, hw⟩; have hw2 := hw; subst hw2; clear hw)
        go_cut [10, 11] (fun nv dv wx => ∃ n d M : Nat, nv = .int .i64 (n : Nat) ∧ dv = .int .i64 (d : Nat) ∧ n ≤ 10 ∧ d ≤ 16 ∧ (n = 0 ∧ (takeF S lv k).1 = 0 ∨ n ≠ 0 ∧ takeF S lv k = (n, d) ∧ k + n ≤ s.size) ∧ wx = wr.drewN M)
        case first =>
          go_wp2_with fail
          go_meet
          refine ⟨n, d, _, rfl, rfl, HND.out.2.1, HND.out.2.2.1, ?_, rfl⟩
          by_cases e0 : n = 0
          · exact .inl ⟨e0, by rw [H7.out]; exact e0⟩
          · exact .inr ⟨e0, H7.out, HND.out.2.2.2⟩
        case rest =>
          clear HND HFA
          obtain ⟨n, d, M, rfl, rfl, hn10, hd16, hor, hw⟩ := hcut
          obtain ⟨w5, hw5⟩ : ∃ w5, w5 = wr.drewN M := ⟨_, rfl⟩
          have hO5 : OwnT w5 N0 s.size ts := by rw [hw5]; exact HO.out.drewN
          have hF5 : Fr Nob w w5 := by rw [hw5]; exact HF.out.drewN
          rw [← hw5] at hw
          subst hw
          have HO5 := hid hO5
          have HF5 := hid hF5
          obtain ⟨N5, hN5⟩ : ∃ N5, wc.heap.size = N5 := ⟨_, rfl⟩
          have hg5 : N0 < N5 := by rw [← hN5]; exact hO5.lt
          have HG5 := hid hg5
          have hni : (n : Int) ≤ 10 := by omega
          have hdi : (d : Int) ≤ 16 := by omega
          obtain ⟨q, hq⟩ : ∃ q, q = ts.length := ⟨_, rfl⟩
          have HQ := hid hq
          rcases hor with ⟨rfl, htk⟩ | ⟨hn0, htk, hkn⟩
          · have HTK3 := hid htk
            clear hO5 hF5 hw5 htk hq hg5 hn10 hd16
            have hA := (Fr.refl Nob wc).alloc (Obj.cells #[.int .i64 0, .int .i64 0, .int .i64 x] 168)
            have c0 := World.cell?_alloc_new wc #[.int .i64 0, .int .i64 0, .int .i64 x] 168 0
            have c1 := World.cell?_alloc_new wc #[.int .i64 0, .int .i64 0, .int .i64 x] 168 1
            have c2 := World.cell?_alloc_new wc #[.int .i64 0, .int .i64 0, .int .i64 x] 168 2
            rw [hN5] at c0 c1 c2
            have HC := hid (And.intro c0 (And.intro c1 c2))
            have HA := hid hA
            clear hA c0 c1 c2
            go_wp2_with (at_builtin; refine wp_appT rfl _ _ rfl N0 s.size ts ⟨0, 0, x⟩ rfl (HO5.out.fr HA.out (fun x => x)) N5 1 rfl HC.out.1 HC.out.2.1 HC.out.2.2 (by have := HTS.out; omega) ?_; intro w6 ho6 hf6; have HO6 := hid ho6; have HF6 := hid hf6; clear ho6 hf6)
            go_roundg (gk - 1)
            case measure => have := HG.out; omega
            case rel =>
              refine ⟨k + 1, ts ++ [⟨0, 0, x⟩], by simp, by have := HG.out; omega, by rw [List.length_append]; rfl, HO6.out, ?_, ?_⟩
              · rw [HX.out]
                exact HP.out.lit (by rw [HLN.out]; exact HLT.out) HTK3.out
              · exact (HF5.out.trans HA.out).trans2 HF6.out (fun x hx hl => by unfold One at hx; have := HN0.out; omega)
          · have HTK3 := hid (And.intro hn0 (And.intro htk hkn))
            have hn0i : ((n : Int) == 0) = false := by simp; omega
            have hkni : (k : Int) + n ≤ s.size := by omega
            clear hO5 hF5 hw5 htk hq hg5 hn10 hd16 hn0 hkn
            have hA := (Fr.refl Nob wc).alloc (Obj.cells #[.int .i64 n, .int .i64 d, .int .i64 0] 168)
            have c0 := World.cell?_alloc_new wc #[.int .i64 n, .int .i64 d, .int .i64 0] 168 0
            have c1 := World.cell?_alloc_new wc #[.int .i64 n, .int .i64 d, .int .i64 0] 168 1
            have c2 := World.cell?_alloc_new wc #[.int .i64 n, .int .i64 d, .int .i64 0] 168 2
            rw [hN5] at c0 c1 c2
            have HC := hid (And.intro c0 (And.intro c1 c2))
            have HA := hid hA
            clear hA c0 c1 c2
            go_wp2_with (at_builtin; refine wp_appT rfl _ _ rfl N0 s.size ts ⟨n, d, 0⟩ rfl (HO5.out.fr HA.out (fun x => x)) N5 1 rfl HC.out.1 HC.out.2.1 HC.out.2.2 (by have := HTS.out; omega) ?_; intro w6 ho6 hf6; have HO6 := hid ho6; have HF6 := hid hf6; clear ho6 hf6)
            go_roundg (gk - n)
            case measure => have := HG.out; have := HTK3.out; omega
            case rel =>
              refine ⟨k + n, ts ++ [⟨n, d, 0⟩], by simp, by have := HG.out; have := HTK3.out; omega, by rw [List.length_append]; rfl, HO6.out, ?_, ?_⟩
              · exact HP.out.dup (by rw [HLN.out]; exact HLT.out) HTK3.out.2.1 HTK3.out.1
              · exact (HF5.out.trans HA.out).trans2 HF6.out (fun x hx hl => by unfold One at hx; have := HN0.out; omega)
    · have hki : ¬ (k : Int) < s.size := by omega
      have he : ts = parseP S lv 0 := by have := hP.eq; rw [parseP_end S lv k (by rw [HLN.out]; omega), List.append_nil] at this; exact this
      have HE := hid he
      have hts : ts.length ≤ 256 := by have := hP.le; omega
      obtain ⟨q, hq⟩ : ∃ q, q = ts.length := ⟨_, rfl⟩
      have HQ := hid hq
      rw [← hq] at hts ⊢
      have hqi : (q : Int) ≤ 256 := by omega
      obtain ⟨N2, hN2⟩ : ∃ N2, wr.heap.size = N2 := ⟨_, rfl⟩
      have HN2 := hid hN2
      clear hO hP hf hg he hq hN2
      go_wp2_with (first
        | (at_make; refine wp_mkg rfl _ _ 69 168 3 24 _ rfl Tryz.underlying69 Tryz.info168 rfl q q q q N2 HN2.out rfl rfl rfl rfl (Nat.le_refl _) (by omega) (by omega) ?_; intro w3 hs3 ha3 hf3; have HA3 := hid ha3; have HF3 := hid (HF.out.trans hf3); have HO3 := hid (HO.out.fr hf3 (fun x => x)); clear ha3 hf3 hs3)
        | (with_reducible refine gd_copy rfl ?_; refine wp_cpg rfl _ _ 69 69 168 3 rfl Tryz.underlying69 Tryz.size168 N2 (q * 3) q q q s.size (some ⟨N0, 0, none⟩) (x := tokF ts) rfl rfl HA3.out (Nat.le_refl _) (Nat.le_refl _) (.inr ⟨N0, 0, rfl, by rw [HQ.out]; exact HO3.out.cel⟩) (fun i hi => tokF_one _ _ (by rw [← HQ.out]; exact hi)) ?_; intro w4 ha4 hs4 hf4; have HA4 := hid ha4; have HF4 := hid hf4; clear ha4 hs4 hf4))
      refine hK.out _ _ ⟨N2, ?_, ?_, ?_, ?_⟩
      · rw [← HN2.out]; exact HF.out.size
      · rw [← HE.out, ← HQ.out]
      · rw [← HE.out, ← HQ.out]; exact HA4.out.congr fun i hi => by rw [if_pos hi]
      · exact HF3.out.trans2 HF4.out (fun x hx hl => by unfold One at hx; have h5 := HF.out.size; rw [HN2.out] at h5; omega)
end Go.Proofs.Qxb6500353aGreat
