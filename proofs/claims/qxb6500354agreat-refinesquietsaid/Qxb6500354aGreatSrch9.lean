/- THE WALKS over search, 9: load, satisfied. -/
import Derived.Test.Qxb6500354aGreatSrch8
namespace Go.Proofs.Qxb6500354aGreat
open Go.RowKit
set_option linter.unusedVariables false
set_option linter.unusedSimpArgs false

/-- A part of a read list. -/
theorem Ints.sub {w : World} {g o n cap : Nat} {l : List Int} (h : Ints w (.slice (some ⟨g, o, none⟩) n cap) l) {lo hi : Nat} (hl : lo ≤ hi) (hh : hi ≤ l.length) (c : Nat) :
    Ints w (.slice (some ⟨g, o + lo, none⟩) (hi - lo) c) ((l.take hi).drop lo) := by
  have hlen : ((l.take hi).drop lo).length = hi - lo := by rw [List.length_drop, List.length_take]; omega
  refine .inr ⟨g, o + lo, c, by rw [hlen], fun i hi2 => ?_⟩
  rw [hlen] at hi2
  have := h.get (lo + i) (by omega)
  rw [show o + lo + i = o + (lo + i) from by omega, this]
  congr 2
  simp only [List.getD_eq_getElem?_getD, List.getElem?_drop, List.getElem?_take]
  rw [if_pos (by omega)]
theorem rowsF_cons (x : Int) (r cur : List Int) : rowsF (x :: r) cur = if x = 0 then cur :: rowsF r [] else rowsF r (cur ++ [x]) := rfl

set_option maxRecDepth 100000 in
set_option maxHeartbeats 4000000 in
theorem load_any {w : World} {E : Eb} {W : WatchS} {S : SolverS} {lo : Value} (h : SlvAt w E S lo) (hw : WatAt w E.w E.t W) (hne : E.w ≠ E.s) {v : Value} {l : List Int} (hv : Ints w v l) (htv : TightV v l.length) (hb : l.length ≤ 1099511627776)
    (hvb : ∀ g, v.ownBlock = some g → g ≠ E.w) (hvl : ∀ g, v.ownBlock = some g → g < w.heap.size) :
    Calls Tryz.prog 45 #[.pointer (some ⟨E.s, 0, none⟩), v] w fun e w' => e = .returned (.tuple #[]) ∧ WatAt w' E.w E.t (loadF W (rowsF l [])) ∧ Fr [E.w] w w' := by
  obtain ⟨a, hea⟩ : ∃ a, v = .slice a l.length l.length := by
    rcases htv with ⟨e1, e2⟩ | ⟨g, e⟩
    · exact ⟨none, by rw [e1, e2]⟩
    · exact ⟨_, e⟩
  subst hea
  clear htv
  obtain ⟨n, hn⟩ : ∃ n, l.length = n := ⟨_, rfl⟩
  obtain ⟨res, hres⟩ : ∃ r, loadF W (rowsF l []) = r := ⟨_, rfl⟩
  rw [hn] at hv hb hvb hvl ⊢
  rw [hres]
  have HS := hid h
  have HW := hid hw
  have HNE := hid hne
  have HI := hid hv
  have HN := hid hn
  have HRES := hid hres
  have HVB := hid hvb
  have HVL := hid hvl
  have HES := hid h.lt
  have HEW := hid hw.lt
  clear h hw hne hv hn hres hvb hvl
  refine calls_via fun K hK => ?_
  go_enter Tryz.func45, Tryz.ntmps45
  go_wp2_with fail
  go_loopg [4, 5] n (fun g lov i wr => ∃ (q : Nat) (W' : WatchS), g ≤ n ∧ q ≤ n - g ∧ i = .int .i64 ((n - g : Nat) : Int) ∧ lov = .int .i64 (q : Int) ∧ WatAt wr E.w E.t W' ∧ Fr [E.w] w wr ∧ res = loadF W' (rowsF (l.drop (n - g)) ((l.take (n - g)).drop q)))
  case atStart => exact ⟨0, W, by omega, by omega, by simp, by simp, HW.out, Fr.refl _ _, by simp [HRES.out]⟩
  case round =>
    obtain ⟨q, W', hg, hq, rfl, rfl, hw, hf, he⟩ := hrel
    by_cases hlt : 0 < gk
    · obtain ⟨k, hk⟩ : ∃ k, n - gk = k := ⟨_, rfl⟩
      rw [hk] at he hq ⊢
      have hkn : k < n := by omega
      have hkn2 : (k : Int) < n := by omega
      have hIr : Ints wr (.slice a n n) l := HI.out.fr hf (fun g hg hm => HVB.out g hg (by simpa using hm))
      obtain ⟨g1, o1, rfl, hc1⟩ := hIr.at HN.out hkn
      rw [drop_cons' HN.out hkn, rowsF_cons] at he
      have hts := take_snocI (c := l) (k := k) (by rw [HN.out]; exact hkn)
      have hsub := hIr.sub (lo := q) (hi := k) hq (by rw [HN.out]; omega)
      generalize l.getD k 0 = x at *
      have hlk : (l.take k).length = k := by rw [List.length_take, HN.out]; omega
      have HTS := hid hts
      have HWR := hid hw
      have HF := hid hf
      have HK0 := hid hk
      have HLK := hid hlk
      have HQ := hid hq
      have hqi : (q : Int) ≤ k := by omega
      have hqi0 : (0 : Int) ≤ q := by omega
      by_cases h0 : x = 0
      · rw [if_pos h0] at he
        have HE : Hid (res = loadF (W'.add ((l.take k).drop q) false).2.2 (rowsF (l.drop (k + 1)) [])) := he
        have HSUB := hid hsub
        have hcl : ((l.take k).drop q).length ≤ n := by rw [List.length_drop, HLK.out]; omega
        have HCL := hid hcl
        have hwp := (HS.out.fr hf (by have := HNE.out; simp; omega) (fun g hg hm => HS.out.dj g hg (by rw [List.mem_singleton] at hm; rw [hm]; simp [Eb.all]))).at_.wp
        change wr.cell? ⟨E.s, 2, none⟩ = some (.pointer (some ⟨E.w, 0, none⟩)) at hwp
        subst h0
        clear he hts hw hf hk hlk hq hsub hcl hIr
        have hqn : q < n := by have := HQ.out; omega
        have hqn2 : ¬ n = q := by omega
        have hkn3 : (k : Int) ≤ n := by omega
        have HCP := hid (copyInts_any (HSUB.out (n - q)) (by have := HCL.out; omega))
        go_wp2_with fail
        refine HCP.out.mono ?_
        rintro e w2 ⟨v', rfl, ho2, _, hf2⟩
        have hwp2 := hf2.cell hwp (by simp)
        have hw2 := HWR.out.fr hf2 (by simp)
        have HAD := hid (add_any (hw2.drewN (n := 0)) ho2.ints (by have := HCL.out; omega) (fun e => by have := ho2.base _ e; have := HEW.out; have := HF.out.size; omega) false)
        have HAD2 := hid (add_any hw2 ho2.ints (by have := HCL.out; omega) (fun e => by have := ho2.base _ e; have := HEW.out; have := HF.out.size; omega) false)
        clear HAD
        have HF2 := hid hf2
        clear ho2 hf2 hw2 hwp
        go_wp2_with fail
        refine HAD2.out.mono ?_
        rintro e w3 ⟨rfl, hw3, hf3⟩
        go_wp2_with fail
        go_roundg (gk - 1)
        case measure => omega
        case rel =>
          have hk := HK0.out
          have e1 : n - (gk - 1) = k + 1 := by omega
          refine ⟨k + 1, (W'.add ((l.take k).drop q) false).2.2, by omega, by omega, by rw [e1]; simp, by simp, hw3, ?_, ?_⟩
          · exact (HF.out.trans (HF2.out.mono (by simp))).trans hf3
          · rw [e1, HE.out]
            congr 2
            rw [List.drop_of_length_le]
            rw [HTS.out, List.length_append, HLK.out]; simp
      · rw [if_neg h0] at he
        have hb1 : (x == 0) = false := by simpa using h0
        have HE := hid he
        clear he hts hw hf hk hlk hq hsub hIr h0
        go_wp2_with fail
        go_roundg (gk - 1)
        case measure => omega
        case rel =>
          have hk := HK0.out
          have hqq := HQ.out
          have e1 : n - (gk - 1) = k + 1 := by omega
          refine ⟨q, W', by omega, by omega, by rw [e1]; simp, rfl, HWR.out, HF.out, ?_⟩
          rw [e1, HTS.out, List.drop_append_of_le_length (by rw [HLK.out]; exact hqq)]
          exact HE.out
    · have hg0 : gk = 0 := by omega
      subst hg0
      rw [Nat.sub_zero, List.drop_of_length_le (by rw [HN.out]; exact Nat.le_refl _)] at he
      have HE : Hid (res = W') := he
      have HWR := hid hw
      have HF := hid hf
      clear he hw hf hlt hg hq
      go_wp2_with fail
      try go_end0
      refine hK.out _ _ ⟨rfl, by rw [HE.out]; exact HWR.out, HF.out⟩

/-! ### satisfied -/
def modelF (T : TrailS) : List Int := (List.range 12).map fun (i : Nat) => if T.value ((i : Int) + 1) = 1 then (i : Int) + 1 else -((i : Int) + 1)
theorem OwnI.setg {w : World} {base g cap n : Nat} {l : List Int} (h : OwnI w base (.slice (some ⟨g, 0, none⟩) n cap) l) (hn : l.length = n) (i : Nat) (x : Int) :
    OwnI (w.setCell ⟨g, i, none⟩ (.int .i64 x)) base (.slice (some ⟨g, 0, none⟩) n cap) (l.set i x) := h.store hn i x
end Go.Proofs.Qxb6500354aGreat
