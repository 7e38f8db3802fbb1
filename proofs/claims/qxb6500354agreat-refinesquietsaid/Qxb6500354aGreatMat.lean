/- Slices of slices; the walks over api: Val, State, True, Holds, AllHold, Table. -/
import Derived.Test.Qxb6500354aGreatPar5
import Derived.Test.Qxb6500354aGreatDef3
namespace Go.Proofs.Qxb6500354aGreat
open Go.RowKit
set_option linter.unusedVariables false
set_option linter.unusedSimpArgs false

/-- The slice value v reads as the rows cs. -/
def Mat (w : World) (v : Value) (cs : List (List Int)) : Prop :=
  (v = .slice none 0 0 ∧ cs = []) ∨ ∃ g o cap, v = .slice (some ⟨g, o, none⟩) cs.length cap ∧ ∀ i, i < cs.length → ∃ u, w.cell? ⟨g, o + i, none⟩ = some u ∧ Ints w u (cs.getD i [])
theorem Mat.fr0 {w w2 : World} {v : Value} {cs : List (List Int)} (h : Mat w v cs) (hf : Fr [] w w2) : Mat w2 v cs := by
  rcases h with ⟨rfl, rfl⟩ | ⟨g, o, cap, rfl, h2⟩
  · exact .inl ⟨rfl, rfl⟩
  · refine .inr ⟨g, o, cap, rfl, fun i hi => ?_⟩
    obtain ⟨u, hc, hi2⟩ := h2 i hi
    exact ⟨u, hf.cell hc (by simp), hi2.fr hf (by simp)⟩
theorem Mat.nil (w : World) : Mat w (.slice none 0 0) [] := .inl ⟨rfl, rfl⟩
theorem Mat.len {w : World} {v : Value} {cs : List (List Int)} (h : Mat w v cs) : ∃ a cap, v = .slice a cs.length cap := by
  rcases h with ⟨rfl, rfl⟩ | ⟨g, o, cap, rfl, h2⟩
  · exact ⟨none, 0, rfl⟩
  · exact ⟨_, cap, rfl⟩
theorem Mat.at {w : World} {a : Option Addr} {n cap : Nat} {cs : List (List Int)} (h : Mat w (.slice a n cap) cs) (hl : cs.length = n) {k : Nat} (hk : k < n) :
    ∃ g o b m c, a = some ⟨g, o, none⟩ ∧ w.cell? ⟨g, o + k, none⟩ = some (.slice b m c) ∧ Ints w (.slice b m c) (cs.getD k []) := by
  rcases h with ⟨e, e2⟩ | ⟨g, o, cap2, e, h2⟩
  · rw [e2] at hl; simp at hl; omega
  · simp only [Value.slice.injEq] at e
    obtain ⟨rfl, _, rfl⟩ := e
    obtain ⟨u, h3, h4⟩ := h2 k (by omega)
    obtain ⟨b, c, hb⟩ := h4.len
    subst hb
    exact ⟨g, o, _, _, _, rfl, h3, h4⟩
theorem getDL_mem {cs : List (List Int)} {k : Nat} (h : k < cs.length) : cs.getD k [] ∈ cs := by rw [List.getD_eq_getElem?_getD, List.getElem?_eq_getElem h]; exact List.getElem_mem _
theorem dropL_cons {cs : List (List Int)} {n k : Nat} (hl : cs.length = n) (h : k < n) : cs.drop k = cs.getD k [] :: cs.drop (k + 1) := by
  rw [List.drop_eq_getElem_cons (by omega), List.getD_eq_getElem?_getD, List.getElem?_eq_getElem (by omega)]; rfl
theorem Fr.of_drewN {w : World} {n : Nat} (S : List Nat) : Fr S w (w.drewN n) := (Fr.refl S w).drewN

theorem valF_cons (l x : Int) (r : List Int) : valF l (x :: r) = if x = l then 1 else if x = -l then -1 else valF l r := rfl
set_option maxHeartbeats 1000000 in
theorem val_any {w : World} {v : Value} {on : List Int} (h : Ints w v on) (l : Int) (h0 : -12 ≤ l) (h1 : l ≤ 12) (hb : on.length ≤ 1099511627776) :
    Calls Tryz.prog 130 #[.int .i64 l, v] w fun e w' => e = .returned (.int .i64 (valF l on)) ∧ ∃ q, w' = w.drewN q := by
  obtain ⟨a, cap, hea⟩ := h.len
  subst hea
  obtain ⟨n, hn⟩ : ∃ n, on.length = n := ⟨_, rfl⟩
  obtain ⟨res, hres⟩ : ∃ r, valF l on = r := ⟨_, rfl⟩
  rw [hn] at h hb ⊢
  rw [hres]
  have HI := hid h
  have HN := hid hn
  have HR := hid hres
  clear h hn hres
  refine calls_via fun K hK => ?_
  go_enter Tryz.func130, Tryz.ntmps130
  go_wp2_with fail
  go_loopg [5] n (fun g i wr => g ≤ n ∧ (∃ q, wr = w.drewN q) ∧ i = .int .i64 ((n - g : Nat) : Int) ∧ res = valF l (on.drop (n - g)))
  case atStart => exact ⟨by omega, ⟨0, rfl⟩, by simp, by simp [HR.out]⟩
  case round =>
    obtain ⟨hg, ⟨q, rfl⟩, rfl, he⟩ := hrel
    by_cases hlt : 0 < gk
    · obtain ⟨k, hk⟩ : ∃ k, n - gk = k := ⟨_, rfl⟩
      rw [hk] at he ⊢
      have hkn : k < n := by omega
      have hkn2 : (k : Int) < n := by omega
      obtain ⟨g1, o1, rfl, hc1⟩ := HI.out.at HN.out hkn
      rw [drop_cons' HN.out hkn, valF_cons] at he
      generalize on.getD k 0 = x at *
      have HK0 := hid hk
      clear hk
      by_cases e1 : x = l
      · rw [if_pos e1] at he
        have HE := hid he
        have hb1 : (x == l) = true := by simp [e1]
        clear he e1
        go_wp2_with fail
        refine hK.out _ _ ⟨(by rw [HE.out]; rfl), _, rfl⟩
      · rw [if_neg e1] at he
        have hb1 : (x == l) = false := by simp [e1]
        by_cases e2 : x = -l
        · rw [if_pos e2] at he
          have HE := hid he
          have hb2 : (x == -l) = true := by simp [e2]
          clear he e1 e2
          go_wp2_with fail
          try (go_quiet (fail))
          try (go_wp2_with fail)
          refine hK.out _ _ ⟨(by rw [HE.out]; rfl), _, by first | rfl | exact World.drewN_drewN _ _ _⟩
        · rw [if_neg e2] at he
          have hb2 : (x == -l) = false := by simp [e2]
          have HE := hid he
          clear he e1 e2
          go_wp2_with fail
          try (go_quiet (fail))
          try (go_wp2_with fail)
          go_roundg (gk - 1)
          case measure => omega
          case rel =>
            have hk := HK0.out
            have e1 : n - (gk - 1) = k + 1 := by omega
            exact ⟨by omega, ⟨_, by first | rfl | exact World.drewN_drewN _ _ _⟩, by rw [e1]; simp, by rw [e1]; exact HE.out⟩
    · have hg0 : gk = 0 := by omega
      subst hg0
      rw [Nat.sub_zero, List.drop_of_length_le (by rw [HN.out]; exact Nat.le_refl _)] at he
      have HE : Hid (res = 0) := he
      clear he hlt hg
      go_wp2_with fail
      refine hK.out _ _ ⟨(by rw [HE.out]; rfl), _, rfl⟩

theorem stateLoop_cons (on : List Int) (x : Int) (r : List Int) (op : Nat) (un : Int) : stateLoop on (x :: r) op un = if valF x on = 1 then (1, 0) else if valF x on = 0 then stateLoop on r (op + 1) x else stateLoop on r op un := rfl
set_option maxHeartbeats 2000000 in
theorem state_any {w : World} {u v : Value} {c on : List Int} (hc : Ints w u c) (h : Ints w v on) (hg : ∀ x ∈ c, good x = true) (hb : on.length ≤ 1099511627776) (hcb : c.length ≤ 1000000) :
    Calls Tryz.prog 136 #[u, v] w fun e w' => e = .returned (.tuple #[.int .i64 (stateF c on).1, .int .i64 (stateF c on).2]) ∧ ∃ q, w' = w.drewN q := by
  obtain ⟨a, cap, hea⟩ := hc.len
  subst hea
  obtain ⟨n, hn⟩ : ∃ n, c.length = n := ⟨_, rfl⟩
  obtain ⟨res, hres⟩ : ∃ r, stateF c on = r := ⟨_, rfl⟩
  rw [hn] at hc hcb ⊢
  rw [hres]
  have HC := hid hc
  have HI := hid h
  have HN := hid hn
  have HR := hid hres
  have HG := hid hg
  have HB := hid hb
  clear hc h hn hres hg hb
  refine calls_via fun K hK => ?_
  go_enter Tryz.func136, Tryz.ntmps136
  go_wp2_with fail
  go_loopg [6, 7, 8] n (fun g opv unv i wr => ∃ (op : Nat) (un : Int), g ≤ n ∧ op ≤ n - g ∧ (∃ q, wr = w.drewN q) ∧ i = .int .i64 ((n - g : Nat) : Int) ∧ opv = .int .i64 (op : Int) ∧ unv = .int .i64 un ∧ res = stateLoop on (c.drop (n - g)) op un)
  case atStart => exact ⟨0, 0, by omega, by omega, ⟨0, rfl⟩, by simp, rfl, rfl, by simp [← HR.out, stateF]⟩
  case round =>
    obtain ⟨op, un, hg, hop, ⟨q, rfl⟩, rfl, rfl, rfl, he⟩ := hrel
    by_cases hlt : 0 < gk
    · obtain ⟨k, hk⟩ : ∃ k, n - gk = k := ⟨_, rfl⟩
      rw [hk] at he hop ⊢
      have hkn : k < n := by omega
      have hkn2 : (k : Int) < n := by omega
      obtain ⟨g1, o1, rfl, hc1⟩ := HC.out.at HN.out hkn
      have hx := HG.out _ (getD_mem (c := c) (i := k) (by rw [HN.out]; exact hkn))
      rw [drop_cons' HN.out hkn, stateLoop_cons] at he
      generalize c.getD k 0 = x at *
      have hx12 := (good_iff _).1 hx
      have hxa : -12 ≤ x := by omega
      have hxb : x ≤ 12 := by omega
      have HV := hid (fun n => val_any (w := w.drewN n) (HI.out.fr (Fr.of_drewN []) (by simp)) x hxa hxb HB.out)
      obtain ⟨vx, hvx⟩ : ∃ z, valF x on = z := ⟨_, rfl⟩
      rw [hvx] at he HV
      have HK0 := hid hk
      have hopi : (op : Int) ≤ 1000000 := by omega
      have HOP := hid hop
      clear hk hx hx12 hvx hop
      by_cases e1 : vx = 1
      · rw [if_pos e1] at he
        have HE := hid he
        have hb1 : (vx == 1) = true := by simp [e1]
        clear he e1
        go_wp2_with (first | (go_at_call 130; refine (HV.out _).mono ?_; rintro e w' ⟨rfl, n2, hw⟩; have hw2 := hw; subst hw2; clear hw))
        try go_ret2
        refine hK.out _ _ ⟨(by rw [HE.out]; rfl), _, by first | rfl | exact World.drewN_drewN _ _ _⟩
      · rw [if_neg e1] at he
        have hb1 : (vx == 1) = false := by simp [e1]
        by_cases e2 : vx = 0
        · rw [if_pos e2] at he
          have HE := hid he
          have hb2 : (vx == 0) = true := by simp [e2]
          clear he e1 e2
          go_wp2_with (first | (go_at_call 130; refine (HV.out _).mono ?_; rintro e w' ⟨rfl, n2, hw⟩; have hw2 := hw; subst hw2; clear hw))
          go_roundg (gk - 1)
          case measure => omega
          case rel =>
            have hk := HK0.out
            have hop := HOP.out
            have e1 : n - (gk - 1) = k + 1 := by omega
            exact ⟨op + 1, x, by omega, by omega, ⟨_, by first | rfl | exact World.drewN_drewN _ _ _⟩, by rw [e1]; simp, by simp, rfl, by rw [e1]; exact HE.out⟩
        · rw [if_neg e2] at he
          have hb2 : (vx == 0) = false := by simp [e2]
          have HE := hid he
          clear he e1 e2
          go_wp2_with (first | (go_at_call 130; refine (HV.out _).mono ?_; rintro e w' ⟨rfl, n2, hw⟩; have hw2 := hw; subst hw2; clear hw))
          go_roundg (gk - 1)
          case measure => omega
          case rel =>
            have hk := HK0.out
            have hop := HOP.out
            have e1 : n - (gk - 1) = k + 1 := by omega
            exact ⟨op, un, by omega, by omega, ⟨_, by first | rfl | exact World.drewN_drewN _ _ _⟩, by rw [e1]; simp, rfl, rfl, by rw [e1]; exact HE.out⟩
    · have hg0 : gk = 0 := by omega
      subst hg0
      rw [Nat.sub_zero, List.drop_of_length_le (by rw [HN.out]; exact Nat.le_refl _)] at he
      have he2 : res = if op = 0 then (-1, 0) else if op = 1 then (0, un) else (2, 0) := he
      clear he hlt hg hop
      by_cases e1 : op = 0
      · rw [if_pos e1] at he2
        have HE := hid he2
        have hb1 : ((op : Int) == 0) = true := by simp [e1]
        clear he2 e1
        go_wp2_with fail
        try go_ret2
        refine hK.out _ _ ⟨(by rw [HE.out]; rfl), _, rfl⟩
      · rw [if_neg e1] at he2
        have hb1 : ((op : Int) == 0) = false := by simp [e1]
        by_cases e2 : op = 1
        · rw [if_pos e2] at he2
          have HE := hid he2
          have hb2 : ((op : Int) == 1) = true := by simp [e2]
          clear he2 e1 e2
          go_wp2_with fail
          try go_ret2
          refine hK.out _ _ ⟨(by rw [HE.out]; rfl), _, rfl⟩
        · rw [if_neg e2] at he2
          have HE := hid he2
          have hb2 : ((op : Int) == 1) = false := by simp; omega
          clear he2 e1 e2
          go_wp2_with fail
          try go_ret2
          refine hK.out _ _ ⟨(by rw [HE.out]; rfl), _, rfl⟩
end Go.Proofs.Qxb6500354aGreat
