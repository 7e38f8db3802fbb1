/- The model coder: Build, walked. -/
import Derived.Test.Qxb6500353aGreatMcw
import Derived.Test.Qxb6500353aGreatBdl
namespace Go.Proofs.Qxb6500353aGreat
open Go.RowKit
set_option linter.unusedVariables false
set_option linter.unusedSimpArgs false

theorem code_zero {l : List Nat} {s : Nat} (h : len l s = 0) : code l s = 0 := by unfold code; rw [h]; rfl
/-- The codes of the first j lengths. -/
def upTo (l : List Nat) (j s : Nat) : Nat := if len l s ≤ j then code l s else 0
structure MbS (w0 : World) (b N n : Nat) (l : List Nat) (cd : Nat → Nat) (w : World) : Prop where
  a1 : Arr 3 mkN w N n (len l)
  a2 : Arr 3 mkN w (N + 1) n cd
  p1 : w.cell? ⟨b, 0, none⟩ = some (.slice (some ⟨N, 0, none⟩) n n)
  p2 : w.cell? ⟨b, 1, none⟩ = some (.slice (some ⟨N + 1, 0, none⟩) n n)
  size : w.heap.size = N + 2
  fr : Fr (One b) w0 w
theorem MbS.set {w0 w : World} {b N n i x : Nat} {l : List Nat} {cd : Nat → Nat} (h : MbS w0 b N n l cd w) (hN : w0.heap.size = N) (hb : b < N) : MbS w0 b N n l (upd cd i x) (w.setCell ⟨N + 1, i, none⟩ (.int .i64 (x : Nat))) := by
  have hne : b ≠ N + 1 := by omega
  refine ⟨h.a1.other (by omega) _, h.a2.set i x, (otherB hne).trans h.p1, (otherB hne).trans h.p2, by rw [World.size_setCell]; exact h.size, h.fr.trans2 (S2 := One (N + 1)) (Fr.set1 (Fr.refl _ _) _ _) (fun x hx h2 => by unfold One at hx; omega)⟩
theorem MbS.drew {w0 w : World} {b N n : Nat} {l : List Nat} {cd : Nat → Nat} (h : MbS w0 b N n l cd w) : MbS w0 b N n l cd w.drew := ⟨h.a1.drew, h.a2.drew, h.p1, h.p2, h.size, h.fr.drew⟩
theorem MbS.congr {w0 w : World} {b N n : Nat} {l : List Nat} {cd ce : Nat → Nat} (h : MbS w0 b N n l cd w) (e : ∀ i, i < n → cd i = ce i) : MbS w0 b N n l ce w := ⟨h.a1, h.a2.congr e, h.p1, h.p2, h.size, h.fr⟩
set_option maxRecDepth 100000 in
set_option maxHeartbeats 4000000 in
theorem mbuild_any {w : World} {b N lg lo cap : Nat} {l : List Nat} {v0 v1 : Value} (hN : w.heap.size = N) (h0 : w.cell? ⟨b, 0, none⟩ = some v0) (h1 : w.cell? ⟨b, 1, none⟩ = some v1) (hz : Thaw w b)
    (hc : Cel mkN w lg lo l.length (len l)) (hlb : lg ≠ b) (hlN : lg < N) (hle : ∀ x ∈ l, x ≤ 10) (hn : l.length ≤ 265) :
    Calls Tryz.prog 106 #[ptrV b, .slice (some ⟨lg, lo, none⟩) l.length cap] w fun e w' => e = .returned (.int .i64 (buildE l : Nat)) ∧ (buildE l = 0 → McR w' b N (N + 1) l ∧ w'.heap.size = N + 2) ∧ (buildE l ≠ 0 → w' = w) ∧ Fr (One b) w w' := by
  have HC := hid hc
  have HLE := hid hle
  have HZ := hid hz
  have hbN : b < N := by rw [← hN]; exact lt_of_cellB h0
  have HQ := hid (checkLens_any (cap := cap) hc hle hn)
  have HCP := hid (copyInts_any (cap := cap) hN hc (by omega))
  obtain ⟨n, hnn⟩ : ∃ n, n = l.length := ⟨_, rfl⟩
  have HN := hid hnn
  obtain ⟨e, he⟩ : ∃ e, e = buildE l := ⟨_, rfl⟩
  have HE := hid he
  have hne : n ≤ 265 := by omega
  have hni : (n : Int) ≤ 265 := by omega
  have hlg : lg < N := hlN
  have HL := hid (And.intro hlb (And.intro hlg hbN))
  have heb : e ≤ 7 := by
    rw [he]; unfold buildE
    split
    · decide
    · split <;> decide
  have hei : (e : Int) ≤ 7 := by omega
  rw [← hnn] at HC HQ HCP ⊢
  rw [← he] at HQ ⊢
  clear hc hle hn hnn he hlb hz hlg hbN hlN
  refine calls_via fun K hK => ?_
  unfold ptrV
  go_enter Tryz.func106, Tryz.ntmps106
  by_cases h00 : e = 0
  · subst h00
    have hlaw := (buildE_lawful HLE.out (by have := HN.out; omega)).1 HE.out.symm
    have HLW := hid hlaw
    clear hlaw
    go_wp2_with (first
      | (go_at_call 131; refine HQ.out.mono ?_; rintro e w2 ⟨rfl, hw⟩; have hw2 := hw.symm; subst hw2; clear hw)
      | (go_at_call 128; refine HCP.out.mono ?_; rintro e w1 ⟨rfl, ha1, hs1, hf1⟩; have d0 : w1.cell? ⟨b, 0, none⟩ = some v0 := hf1.cell h0 (fun x => x); have d1 : w1.cell? ⟨b, 1, none⟩ = some v1 := hf1.cell h1 (fun x => x); have z1 : ∀ i, w1.frozen? ⟨b, i, none⟩ = false := (fun i => (hf1.froz (by have := HL.out; omega) (fun x => x) i).trans (HZ.out i)); have HA1 := hid ha1; have HF1 := hid hf1; clear ha1 hf1)
      | (at_make; refine wp_mkx rfl _ _ rfl n n n (N + 1) (by rw [World.size_setCell]; exact hs1) rfl rfl rfl rfl (by omega) ?_; intro w2 hs2 ha2 hf2; have d10 : w2.cell? ⟨b, 0, none⟩ = _ := hf2.cell (cellSet d0) (fun x => x); have d11 : w2.cell? ⟨b, 1, none⟩ = some v1 := hf2.cell ((cellNe (by omega)).trans d1) (fun x => x); have z2 : ∀ i, w2.frozen? ⟨b, i, none⟩ = false := (fun i => (hf2.froz (by rw [World.size_setCell]; have := HL.out; omega) (fun x => x) i).trans ((World.frozen?_setCell _ _ _ _).trans (z1 i))); have HA2 := hid ha2; have HF2 := hid hf2; clear ha2 hf2))
    have hst : MbS w b N n l (fun _ => 0) (w2.setCell ⟨b, 1, none⟩ (.slice (some ⟨N + 1, 0, none⟩) n n)) := by
      have hL := HL.out
      refine ⟨((HA1.out.other (by omega) _).fr HF2.out (fun x => x)).other (by omega) _, HA2.out.other (by omega) _, (cellNe (by omega)).trans d10, cellSet d11, by rw [World.size_setCell]; exact hs2, ?_⟩
      exact (((HF1.out.mono (fun _ h _ => h.elim)).set1 0 _).trans (HF2.out.mono (fun _ h _ => h.elim))).set1 1 _
    obtain ⟨w3, hw3⟩ : ∃ w3, w3 = w2.setCell ⟨b, 1, none⟩ (.slice (some ⟨N + 1, 0, none⟩) n n) := ⟨_, rfl⟩
    rw [← hw3] at hst ⊢
    have HS3 := hid hst
    clear hst hw3 d0 d1 z1 d10 d11 z2 hs1 hs2
    go_loopg [6, 7] 10 (fun g xv nv w4 => ∃ j v : Nat, g + j = 10 ∧ xv = .int .i64 (v : Nat) ∧ 2 * v = firstC l (j + 1) ∧ nv = .int .i64 ((j + 1 : Nat) : Int) ∧ MbS w b N n l (upTo l j) w4)
    case atStart =>
      refine ⟨0, 0, by omega, rfl, rfl, rfl, HS3.out.congr fun i hi => ?_⟩
      unfold upTo
      by_cases e0 : len l i = 0
      · rw [if_pos (by omega), code_zero e0]
      · rw [if_neg (by omega)]
    case round =>
      obtain ⟨j, v, hgj, rfl, hv, rfl, hS⟩ := hrel
      obtain ⟨gO, hgO⟩ : ∃ g, g = gk := ⟨_, rfl⟩
      rw [← hgO] at hgj
      by_cases hlt : j < 10
      · obtain ⟨m, hm⟩ : ∃ m, m = j + 1 := ⟨_, rfl⟩
        rw [← hm] at hv ⊢
        have hfc := firstC_le HLW.out.toFit m (by omega) (by omega)
        have hmi : (m : Int) ≤ 10 := by omega
        have hvi : (v : Int) ≤ 512 := by omega
        have HS := hid hS
        have HM := hid (And.intro hm (And.intro hgj hv))
        clear hS hm hgj hv hlt
        go_wp2_with fail
        go_loopg [6, 8] n (fun g xv sv w5 => ∃ t x : Nat, g + t = n ∧ sv = .int .i64 (t : Nat) ∧ xv = .int .i64 (x : Nat) ∧ x = firstC l m + (l.take t).count m ∧ MbS w b N n l (fun s => if s < t then upTo l m s else upTo l j s) w5)
        case atStart =>
          refine ⟨0, 2 * v, by omega, rfl, by simp; omega, ?_, HS.out.congr fun i hi => by simp⟩
          have := HM.out.2.2; simp; omega
        case round =>
          obtain ⟨t, x, hgt, rfl, rfl, hx, hT⟩ := hrel
          have hmj := HM.out.1
          have hct : (l.take t).count m ≤ 265 := by
            have h1 := List.count_le_length (a := m) (l := l.take t)
            have h2 := List.length_take_le t l
            have := HN.out; omega
          have hxb : x ≤ 1289 := by omega
          have hxi : (x : Int) ≤ 1289 := by omega
          by_cases hlt2 : t < n
          · have hti : (t : Int) < n := by omega
            have xl := HC.out.fr hT.fr (fun h => HL.out.1 h) t hlt2
            simp only [mkN] at xl
            have htl : t < l.length := by have := HN.out; omega
            have htk := count_take_succ htl m
            have hcan : canon l t = firstC l (len l t) + (l.take t).count (len l t) := rfl
            have hcod : code l t = rev (len l t) (canon l t) := rfl
            have hup : upTo l m t = if len l t = m then code l t else upTo l j t := by
              unfold upTo
              by_cases e1 : len l t = m
              · rw [if_pos (by omega), if_pos e1]
              · rw [if_neg e1]
                by_cases e2 : len l t ≤ j
                · rw [if_pos (by omega), if_pos e2]
                · rw [if_neg (by omega), if_neg e2]
            have h10 := len_le_of HLE.out t
            obtain ⟨y, hy⟩ : ∃ y, y = len l t := ⟨_, rfl⟩
            rw [← hy] at xl hcan hcod hup h10
            have hyi : (y : Int) ≤ 10 := by omega
            have HT := hid hT
            have HUP := hid hup
            by_cases e1 : y = m
            · subst e1
              have e1i : ((y : Int) == y) = true := by simp
              rw [← hx] at hcan
              have p2 := hT.p2
              have z2 : ∀ i, wr.frozen? ⟨N + 1, i, none⟩ = false := hT.a2.thaw
              have x2 := hT.a2.cell t hlt2
              simp only [mkN] at x2
              rw [if_neg (Nat.lt_irrefl _)] at x2
              obtain ⟨o, ho⟩ : ∃ o, o = upTo l j t := ⟨_, rfl⟩
              rw [← ho] at x2
              have HQT := hid (fun wx => turn_any x y (by omega) (by omega) wx)
              rw [hcan] at hcod
              rw [← hcod] at HQT
              obtain ⟨cc, hcc⟩ : ∃ cc, cc = code l t := ⟨_, rfl⟩
              rw [← hcc] at HQT
              have HX := hid (And.intro hx (And.intro hcc (And.intro hgt htk)))
              have HY := hid hy
              clear hT hx hcc hgt htk hcan hcod hup hy ho hct hmj hxb
              go_upto_region 15 with fail
              go_cut [] (fun wx => MbS w b N n l (fun s => if s < t + 1 then upTo l y s else upTo l j s) wx)
              case first =>
                go_region_with (go_at_call 132; refine (HQT.out _).mono ?_; rintro e w7 ⟨rfl, hw⟩; have hw2 := hw; subst hw2; clear hw)
                all_goals (go_wp2_with fail; go_meet)
                all_goals
                  have h9 := (HT.out.set (i := t) (x := cc) hN HL.out.2.2).drew
                  refine h9.congr fun i hi => ?_
                  by_cases e2 : i = t
                  · subst e2; rw [upd_self, if_pos (by omega), HUP.out, if_pos trivial]; exact HX.out.2.1
                  · rw [upd_ne _ _ _ _ e2]
                    by_cases e3 : i < t
                    · rw [if_pos e3, if_pos (by omega)]
                    · rw [if_neg e3, if_neg (by omega)]
              case rest =>
                have HT7 := hid hcut
                clear hcut p2 z2 x2 xl
                go_wp2_with fail
                go_roundg (gk - 1)
                case measure => have := HX.out; omega
                case rel =>
                  have hX := HX.out
                  refine ⟨t + 1, x + 1, by omega, by simp, by simp, ?_, HT7.out⟩
                  rw [hX.2.2.2, ← HY.out, if_pos rfl]; omega
            · have e1i : ((y : Int) == m) = false := by simp; omega
              have HX := hid (And.intro hx (And.intro hgt htk))
              have HY := hid hy
              clear hT hx hgt htk hcan hcod hup hy hct hmj hxb
              go_wp2_with fail
              go_roundg (gk - 1)
              case measure => have := HX.out; omega
              case rel =>
                have hX := HX.out
                refine ⟨t + 1, x, by omega, by simp, rfl, ?_, HT.out.congr fun i hi => ?_⟩
                · rw [hX.2.2, ← HY.out, if_neg e1]; omega
                · by_cases e2 : i = t
                  · subst e2; rw [if_neg (Nat.lt_irrefl _), if_pos (by omega), HUP.out, if_neg e1]
                  · by_cases e3 : i < t
                    · rw [if_pos e3, if_pos (by omega)]
                    · rw [if_neg e3, if_neg (by omega)]
          · have hti : ¬ (t : Int) < n := by omega
            have htn : t = n := by omega
            subst htn
            have hM := HM.out
            have hall : (l.take t).count m = l.count m := by rw [HN.out, List.take_length]
            have hfs : firstC l (j + 1 + 1) = 2 * (firstC l (j + 1) + l.count (j + 1)) := rfl
            have hT2 : MbS w b N t l (upTo l m) wr := hT.congr fun i hi => by rw [if_pos hi]
            have hx3 : 2 * x = firstC l (m + 1) := by rw [hall] at hx; subst hmj; rw [hfs]; omega
            have HT2 := hid hT2
            have HX3 := hid hx3
            clear hT hT2 hx hall hfs hx3 hct hM
            go_wp2_with fail
            go_roundg (gO - 1)
            case measure => have := HM.out; omega
            case rel =>
              have hM := HM.out
              refine ⟨j + 1, x, by omega, rfl, by rw [← hM.1]; exact HX3.out, by first | rfl | simp, by rw [← hM.1]; exact HT2.out⟩
      · have hj : j = 10 := by omega
        subst hj
        go_wp2_with fail
        have hS2 : MbS w b N n l (code l) wr := hS.congr fun i hi => by unfold upTo; rw [if_pos (len_le_of HLE.out i)]
        have hNe := HN.out
        refine hK.out _ _ ⟨rfl, fun _ => ⟨⟨by rw [← hNe]; exact hS2.p1, by rw [← hNe]; exact hS2.p2, by rw [← hNe]; exact hS2.a1, by rw [← hNe]; exact hS2.a2⟩, hS2.size⟩, fun h => absurd rfl h, hS2.fr⟩
  · have h00i : ((e : Int) != 0) = true := by simp; omega
    go_wp2_with (first | (go_at_call 131; refine HQ.out.mono ?_; rintro e w2 ⟨rfl, hw⟩; have hw2 := hw.symm; subst hw2; clear hw))
    exact hK.out _ _ ⟨rfl, fun h => absurd h h00, fun _ => rfl, Fr.refl _ _⟩
end Go.Proofs.Qxb6500353aGreat
