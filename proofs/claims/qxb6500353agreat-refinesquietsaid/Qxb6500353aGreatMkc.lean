/- The model's encoder: Bits, walked. -/
import Derived.Test.Qxb6500353aGreatMkb
import Derived.Test.Qxb6500353aGreatMka
import Derived.Test.Qxb6500353aGreatBkc
namespace Go.Proofs.Qxb6500353aGreat
open Go.RowKit
set_option linter.unusedVariables false
set_option linter.unusedSimpArgs false

theorem itL_at {its : List Item} : ∀ {k : Nat} {it : Item}, its[k]? = some it → (its.flatMap itL).getD (3 * k) 0 = it.x ∧ (its.flatMap itL).getD (3 * k + 1) 0 = it.v ∧ (its.flatMap itL).getD (3 * k + 2) 0 = it.more := by
  induction its with
  | nil => intro k t h; simp at h
  | cons u ts ih =>
    intro k t h
    cases k with
    | zero => simp at h; subst h; exact ⟨rfl, rfl, rfl⟩
    | succ k =>
      rw [List.getElem?_cons_succ] at h
      have h1 := ih h
      have e : ∀ j, ((u :: ts).flatMap itL).getD (3 * (k + 1) + j) 0 = (ts.flatMap itL).getD (3 * k + j) 0 := by
        intro j
        rw [List.flatMap_cons, List.getD_eq_getElem?_getD, List.getElem?_append_right (by simp [itL]; omega), List.getD_eq_getElem?_getD]
        congr 2
        simp [itL]; omega
      have e0 := e 0
      simp only [Nat.add_zero] at e0
      rw [e0, e 1, e 2]; exact h1
theorem itP_more {l : List Nat} (h : ∀ i, len l i ≤ 10) : ∀ it ∈ itP l 0, it.x < 13 ∧ it.v < 2 ^ it.more ∧ it.more ≤ 7 := by
  have key : ∀ k i, l.length - i = k → ∀ it ∈ itP l i, it.x < 13 ∧ it.v < 2 ^ it.more ∧ it.more ≤ 7 := by
    intro k
    induction k using Nat.strongRecOn with
    | _ k ih =>
      intro i hk it hit
      by_cases hi : i < l.length
      · rw [itP_step l i hi] at hit
        have h2 := itemAt_adv l i hi
        rcases List.mem_cons.1 hit with e | e
        · subst e; exact item_ok h i
        · exact ih (l.length - (i + (itemAt l i).2)) (by omega) _ rfl it e
      · rw [itP_end l i (by omega)] at hit; simp at hit
  exact key _ 0 rfl
theorem itP_count (l : List Nat) : (itP l 0).length ≤ l.length := by
  have key : ∀ k i, l.length - i = k → (itP l i).length ≤ k := by
    intro k
    induction k using Nat.strongRecOn with
    | _ k ih =>
      intro i hk
      by_cases hi : i < l.length
      · rw [itP_step l i hi]
        have h2 := itemAt_adv l i hi
        have := ih (l.length - (i + (itemAt l i).2)) (by omega) _ rfl
        simp only [List.length_cons]; omega
      · rw [itP_end l i (by omega)]; simp
  have := key _ 0 rfl; simpa using this
theorem itemBits_take (its : List Item) (k : Nat) (hk : k < its.length) : itemBits (its.take (k + 1)) = itemBits (its.take k) + (4 + (its[k]'hk).more) := by
  rw [List.take_add_one, List.getElem?_eq_getElem hk, itemBits_app]; simp [itemBits]
set_option maxRecDepth 100000 in
theorem mbits_sto {w : World} {n : Nat} {c l : Value} (hn : n ≤ 1000) : Calls Tryz.prog 67 #[.int .i64 0, .int .i64 n, c, l] w fun e w' => e = .returned (.int .i64 (bitsSto n : Nat)) ∧ w' = w := by
  have hni : (n : Int) ≤ 1000 := by omega
  have he : (24 : Int) + 8 * n = ((bitsSto n : Nat) : Int) := by unfold bitsSto; simp
  have HE := hid he
  clear he
  refine calls_via fun K hK => ?_
  go_enter Tryz.func67, Tryz.ntmps67
  go_wp2_with fail
  exact hK.out _ _ ⟨ret_int HE.out, rfl⟩
set_option maxRecDepth 100000 in
set_option maxHeartbeats 4000000 in
theorem mbits_any {w : World} {kind n cg co ccap lg lo lcap : Nat} {c : Nat → Nat} {l : List Nat} (hk : kind = 1 ∨ kind = 2) (hc : Cel mkN w cg co 273 c) (hl : Cel mkN w lg lo 273 (len l)) (hlg : lg < w.heap.size) (hln : l.length = 273) (hcb : ∀ s, s < 273 → c s ≤ 600) (h10 : ∀ i, len l i ≤ 10) :
    Calls Tryz.prog 67 #[.int .i64 kind, .int .i64 n, .slice (some ⟨cg, co, none⟩) 273 ccap, .slice (some ⟨lg, lo, none⟩) 273 lcap] w fun e w' => e = .returned (.int .i64 ((3 + (if kind = 2 then itemBits (itP l 0) else 0) + bodyBits c (len l) : Nat) : Int)) ∧ Fr Nob w w' := by
  have HC := hid hc
  have HL := hid hl
  have HLN := hid hln
  have HCB := hid hcb
  have H10 := hid h10
  have hitems := items_any (w := w) (cap := lcap) (l := l) rfl (by rw [hln]; exact hl) hlg (by omega) h10
  rw [hln] at hitems
  have HIT := hid hitems
  have hib := itemBits_le (l := l) _ 0 rfl
  rw [hln] at hib
  obtain ⟨ib, hibn⟩ : ∃ z, z = if kind = 2 then itemBits (itP l 0) else 0 := ⟨_, rfl⟩
  have hib3 : ib ≤ 3003 := by rw [hibn]; split <;> omega
  rw [← hibn]
  have HIB := hid hibn
  rw [bodyBits_def]
  have HB2 : Hid (∀ k, k ≤ 273 → sumTo (bodyG c (len l)) k ≤ 2000000) := hid fun k hk => by
    have := sumTo_bound (bodyG c (len l)) 7200 k (fun i hi => bodyG_le (hcb i (by omega)) (h10 i)); omega
  obtain ⟨G, hG⟩ : ∃ G, G = bodyG c (len l) := ⟨_, rfl⟩
  have HG2 : Hid (∀ k, k < 265 → G k = c k * len l k) := hid fun k hk => by rw [hG]; exact bodyG_lo hk
  have HG4 : Hid (∀ k, G (265 + k) = c (265 + k) * len l (265 + k) + c (265 + k) * (distBase k).2) := hid fun k => by rw [hG, bodyG_hi, Nat.mul_add]
  rw [← hG] at HB2 ⊢
  clear hc hl hlg hln hcb h10 hitems hib hibn hG
  refine calls_via fun K hK => ?_
  go_enter Tryz.func67, Tryz.ntmps67
  have hk0 : ((kind : Int) == 0) = false := by rcases hk with e | e <;> subst e <;> rfl
  go_upto_if 21 with (fail)
  go_cut [9] (fun sv wx => sv = .int .i64 ((3 + ib : Nat) : Int) ∧ Fr Nob w wx)
  case first =>
    rcases hk with rfl | rfl
    · have e0 : ib = 0 := by rw [HIB.out]; rfl
      have E0 := hid e0
      clear e0
      go_wp2_with fail
      go_meet
      exact ⟨by rw [E0.out]; rfl, Fr.refl _ _⟩
    · have eib : ib = itemBits (itP l 0) := by rw [HIB.out]; rfl
      have hmo := itP_more H10.out
      have hct := itP_count l
      rw [HLN.out] at hct
      obtain ⟨its, hits⟩ : ∃ its, its = itP l 0 := ⟨_, rfl⟩
      rw [← hits] at HIT eib hmo hct
      have hall : its.take its.length = its := List.take_length
      obtain ⟨m, hm⟩ : ∃ m, m = its.length := ⟨_, rfl⟩
      rw [← hm] at HIT hct hall
      have HM := hid hm
      have HMO := hid hmo
      have HALL := hid hall
      have HEI := hid eib
      obtain ⟨q, hq⟩ : ∃ q, q = 3 * m := ⟨_, rfl⟩
      rw [← hq] at HIT
      have hqi : (q : Int) = 3 * m := by omega
      have hmi : (m : Int) ≤ 273 := by omega
      have hq819 : (q : Int) ≤ 819 := by omega
      have HQ := hid hq
      have HI3 := hid hib3
      have HQI := hid hqi
      clear hqi hits hm hmo eib hall hct hq hib3
      go_wp2_with fail
      refine HIT.out.mono ?_
      rintro e w2 ⟨ad, cp, rfl, hO, hf2⟩
      have HO := hid hO
      have HF2 := hid hf2
      clear hO hf2
      go_wp2_with fail
      go_loopg [9, 11] m (fun g sv v wr => ∃ k k3 : Nat, v = .int .i64 (k3 : Nat) ∧ k3 = 3 * k ∧ g + k = m ∧ sv = .int .i64 ((3 + itemBits (its.take k) : Nat) : Int) ∧ wr = w2)
      case atStart => exact ⟨0, 0, rfl, rfl, by omega, rfl, rfl⟩
      case round =>
        obtain ⟨k, k3, rfl, hk3, hg, rfl, rfl⟩ := hrel
        have HG := hid (And.intro hg hk3)
        have hbl : itemBits (its.take k) ≤ 3003 := by
          have h1 := HALL.out
          have e : its = its.take k ++ its.drop k := (List.take_append_drop k its).symm
          have h2 : itemBits its ≤ 3003 := by
            rw [← HEI.out]; exact HI3.out
          rw [e, itemBits_app] at h2; omega
        obtain ⟨sm, hsm⟩ : ∃ s, s = itemBits (its.take k) := ⟨_, rfl⟩
        rw [← hsm] at hbl ⊢
        have hsmi : (sm : Int) ≤ 3003 := by omega
        have HSM := hid hsm
        obtain ⟨s3, hs3⟩ : ∃ s3, s3 = 3 + sm := ⟨_, rfl⟩
        rw [← hs3]
        have hs3i : (s3 : Int) ≤ 3006 := by omega
        have HS3 := hid hs3
        by_cases hlt : k < m
        · have hki : (k3 : Int) < q := by have := HQI.out; omega
          have hki2 : (k3 : Int) + 2 < q := by have := HQI.out; omega
          have hki3 : 0 ≤ (k3 : Int) + 2 := by omega
          have hkl : k < its.length := by rw [← HM.out]; exact hlt
          obtain ⟨gg, hadr, hcell⟩ := HO.out.at (k3 + 2) (by have := HQ.out; omega)
          have hat := (itL_at (List.getElem?_eq_getElem hkl)).2.2
          rw [← hk3] at hat
          rw [hat] at hcell
          have hm7 := (HMO.out _ (List.getElem_mem hkl)).2.2
          have hstep := itemBits_take its k hkl
          obtain ⟨mo, hmo⟩ : ∃ x, x = (its[k]'hkl).more := ⟨_, rfl⟩
          rw [← hmo] at hcell hm7 hstep
          have hmoi : (mo : Int) ≤ 7 := by omega
          subst hadr
          have HST := hid hstep
          have HLT := hid hlt
          clear hg hk3 hsm hs3 hbl hlt hat hm7 hstep hmo hkl
          go_wp2_with fail
          go_roundg (gk - 1)
          case measure => have := HG.out; have := HLT.out; omega
          case rel =>
            refine ⟨k + 1, k3 + 3, by simp, by have := HG.out; omega, by have := HG.out; have := HLT.out; omega, ?_, rfl⟩
            have h1 := HST.out
            have h2 := HSM.out
            have h3 := HS3.out
            congr 1; omega
        · have hki : ¬ (k3 : Int) < q := by have := HQI.out; omega
          have hkm : k = m := by omega
          have hend : s3 = 3 + ib := by rw [hs3, hsm, hkm, HALL.out, ← HEI.out]
          have HEND := hid hend
          clear hg hk3 hsm hs3 hbl hlt hend
          go_wp2_with fail
          go_meet
          exact ⟨by rw [HEND.out], HF2.out⟩
  case rest =>
  obtain ⟨rfl, hf⟩ := hcut
  have hCc := HC.out.fr hf (fun x => x)
  have hLc := HL.out.fr hf (fun x => x)
  have HCc := hid hCc
  have HLc := hid hLc
  have HF := hid hf
  obtain ⟨w3, rfl⟩ : ∃ w3, w3 = wc := ⟨_, rfl⟩
  have hib3i : (ib : Int) ≤ 3003 := by omega
  clear hCc hLc hf
  go_wp2_with fail
  go_loopg [9, 12] 273 (fun g sv v wr => ∃ k M : Nat, v = .int .i64 (k : Nat) ∧ g + k = 273 ∧ sv = .int .i64 ((3 + ib + sumTo G k : Nat) : Int) ∧ wr = w3.drewN M)
  case atStart => exact ⟨0, 0, rfl, by omega, rfl, rfl⟩
  case round =>
    obtain ⟨k, M, rfl, hg, rfl, rfl⟩ := hrel
    have HG := hid hg
    have hb2 := HB2.out k (by omega)
    have hs2 := sumTo_succ G k
    obtain ⟨x2, hx2⟩ : ∃ x, x = 3 + ib + sumTo G k := ⟨_, rfl⟩
    rw [← hx2]
    have hx2b : x2 ≤ 2010000 := by omega
    have hx2i : (x2 : Int) ≤ 2010000 := by omega
    have hnx : 3 + ib + sumTo G (k + 1) = x2 + G k := by rw [hs2, hx2]; omega
    by_cases hk : k < 273
    · have hki : (k : Int) < 273 := by omega
      have cc : w3.cell? ⟨cg, co + k, none⟩ = _ := HCc.out k hk
      have cl : w3.cell? ⟨lg, lo + k, none⟩ = _ := HLc.out k hk
      simp only [mkN] at cc cl
      have hc6 := HCB.out k hk
      have hp10 := H10.out k
      obtain ⟨nn, hn⟩ : ∃ n, n = c k := ⟨_, rfl⟩
      obtain ⟨p, hp⟩ : ∃ n, n = len l k := ⟨_, rfl⟩
      rw [← hn] at cc hc6
      rw [← hp] at cl hp10
      have hni : (nn : Int) ≤ 600 := by omega
      have hpi : (p : Int) ≤ 10 := by omega
      obtain ⟨m2, q2⟩ := wmul (n := nn) (f := p) hc6 hp10 (by decide)
      obtain ⟨y2, hy2⟩ : ∃ y, y = nn * p := ⟨_, rfl⟩
      rw [← hy2] at q2 m2
      have hy2i : (y2 : Int) ≤ 6000 := by clear m2; omega
      by_cases h265 : 265 ≤ k
      · have h265i : (265 : Int) ≤ k := by omega
        obtain ⟨j, hj⟩ : ∃ j, j = k - 265 := ⟨_, rfl⟩
        have hkj : k = 265 + j := by omega
        have ej : (k : Int) - 265 = (j : Int) := by omega
        have hgk := HG4.out j
        rw [← hkj, ← hn, ← hp, ← hy2] at hgk
        have hj8 : j < 8 := by omega
        have HDB := hid (fun w => distBase_any (w := w) hj8)
        have hm2 : (distBase j).2 ≤ 2 := by unfold distBase; split; omega; split <;> simp
        have hd16 : (distBase j).1 ≤ 16 := by unfold distBase; split; simp only; omega; split <;> simp only <;> omega
        obtain ⟨f, hf⟩ : ∃ n, n = (distBase j).2 := ⟨_, rfl⟩
        obtain ⟨bs, hbs⟩ : ∃ n, n = (distBase j).1 := ⟨_, rfl⟩
        rw [← hf] at hm2 HDB hgk
        rw [← hbs] at HDB hd16
        have hfi : (f : Int) ≤ 2 := by omega
        obtain ⟨m3, q3⟩ := wmul (n := nn) (f := f) hc6 hm2 (by decide)
        obtain ⟨y3, hy3⟩ : ∃ y, y = nn * f := ⟨_, rfl⟩
        rw [← hy3] at q3 m3 hgk
        have hy3i : (y3 : Int) ≤ 1200 := by clear m2 m3; omega
        have HS := hid (show 3 + ib + sumTo G (k + 1) = x2 + y2 + y3 by rw [hnx, hgk]; clear m2 m3; omega)
        clear hg hb2 hs2 hx2 hx2b hnx hc6 hp10 hn hp hy2 q2 hgk hm2 hd16 hf hbs hy3 q3 hj hj8 hkj hk h265
        go_wp2_with fail
        go_quiet (fail)
        go_wp2_with fail
        refine (HDB.out _).mono ?_
        rintro e w' ⟨rfl, hw⟩
        have hw2 := hw; subst hw2; clear hw
        go_wp2_with fail
        go_roundg (gk - 1)
        case measure => have := HG.out; omega
        case rel => exact ⟨k + 1, _, by simp, by have := HG.out; omega, by rw [HS.out]; simp, by first | rfl | (repeat rw [World.drewN_drewN])⟩
      · have h265i : ¬ (265 : Int) ≤ k := by omega
        have hgk := HG2.out k (by omega)
        rw [← hn, ← hp, ← hy2] at hgk
        have HS := hid (show 3 + ib + sumTo G (k + 1) = x2 + y2 by rw [hnx, hgk])
        clear hg hb2 hs2 hx2 hx2b hnx hc6 hp10 hn hp hy2 q2 hgk hk h265
        go_wp2_with fail
        go_quiet (fail)
        go_wp2_with fail
        go_roundg (gk - 1)
        case measure => have := HG.out; omega
        case rel => exact ⟨k + 1, _, by simp, by have := HG.out; omega, by rw [HS.out]; simp, by first | rfl | (repeat rw [World.drewN_drewN])⟩
    · have hki : ¬ (k : Int) < 273 := by omega
      have hk2 : k = 273 := by omega
      subst hk2
      have HX2 := hid hx2
      clear hg hb2 hs2 hx2 hx2b hnx hk
      go_wp2_with fail
      exact hK.out _ _ ⟨by rw [← HX2.out], HF.out.drewN⟩
end Go.Proofs.Qxb6500353aGreat
