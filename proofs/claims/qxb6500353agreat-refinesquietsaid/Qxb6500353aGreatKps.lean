/- The law: Keeps, walked. -/
import Derived.Test.Qxb6500353aGreatDkw
import Derived.Test.Qxb6500353aGreatLwe
import Derived.Test.Qxb6500353aGreatLwb
import Derived.Test.Qxb6500353aGreatLwd
namespace Go.Proofs.Qxb6500353aGreat
open Go.RowKit
set_option linter.unusedVariables false
set_option linter.unusedSimpArgs false

theorem two_byte (n : Nat) : ∀ x ∈ two n, x < 256 := by
  intro x hx
  unfold two at hx
  simp only [List.mem_cons, List.not_mem_nil, or_false] at hx
  rcases hx with rfl | rfl <;> exact Nat.mod_lt _ (by decide)
theorem dirF_byte (lv : Nat) (l : List Ent) : ∀ o, ∀ x ∈ dirF lv o l, x < 256 := by
  induction l with
  | nil => intro o x hx; simp [dirF] at hx
  | cons e l ih =>
    intro o x hx
    rw [dirF] at hx
    rcases List.mem_append.1 hx with h | h
    · exact two_byte _ x h
    · exact ih _ x h
theorem packA_byte {lv : Nat} {es : List EB} (hok : ∀ e ∈ es.map toE, EntOK e) (h4 : es.length ≤ 4) : ∀ x ∈ packA lv (es.map toE), x < 256 := by
  intro x hx
  unfold packA at hx
  simp only [List.mem_append] at hx
  rcases hx with (((hx | hx) | hx) | hx) | hx
  · unfold textF at hx
    obtain ⟨e, he, hx⟩ := List.mem_flatMap.1 hx
    obtain ⟨e0, _, rfl⟩ := List.mem_map.1 he
    unfold recF at hx
    simp only [List.mem_append] at hx
    rcases hx with ((((hx | hx) | hx) | hx) | hx) | hx
    · have := (hok _ he).name8
      simp only [List.mem_cons, List.not_mem_nil, or_false] at hx
      omega
    · exact bytesOf_lt _ x hx
    · exact two_byte _ x hx
    · exact two_byte _ x hx
    · exact two_byte _ x hx
    · exact packF_byte _ _ x hx
  · exact dirF_byte _ _ _ x hx
  · simp only [List.mem_cons, List.not_mem_nil, or_false] at hx
    rw [hx, List.length_map]; omega
  · exact two_byte _ x hx
  · simp only [List.mem_cons, List.not_mem_nil, or_false] at hx
    omega
theorem errA_ok {es : List EB} {lv : Int} (h : errA (es.map toE) lv = 0) : es.length ≤ 4 ∧ 0 ≤ lv ∧ lv ≤ 2 ∧ ∀ e ∈ es.map toE, EntOK e := by
  unfold errA at h
  by_cases h1 : 4 < (es.map toE).length
  · rw [if_pos h1] at h; exact absurd h (by decide)
  · rw [if_neg h1] at h
    by_cases h2 : lv < 0 ∨ 2 < lv
    · rw [if_pos h2] at h; exact absurd h (by decide)
    · rw [if_neg h2] at h
      rw [List.length_map] at h1
      exact ⟨by omega, by omega, by omega, judge_ok h (toE_byte es)⟩
set_option maxRecDepth 100000 in
set_option maxHeartbeats 8000000 in
theorem keeps_any {w : World} {mb cap : Nat} {ad : Option Addr} {es : List EB} {lv : Int} (he : EntS w ad es) (h0 : errA (es.map toE) lv = 0) :
    Calls Tryz.prog 34 #[ptrV mb, .slice ad es.length cap, .string (strN (packO es lv)), .int .i64 lv] w fun e w' => e = .returned (.bool true) ∧ Fr Nob w w' := by
  obtain ⟨h4, hl0, hl2, hok⟩ := errA_ok h0
  have hpo : packO es lv = packA lv.toNat (es.map toE) := by unfold packO; rw [if_pos h0]
  obtain ⟨l, hl⟩ : ∃ l : Nat, lv = (l : Int) := ⟨lv.toNat, by omega⟩
  subst hl
  rw [Int.toNat_natCast] at hpo
  have hll : l ≤ 2 := by omega
  have hby := packA_byte (lv := l) hok h4
  obtain ⟨s, hs⟩ : ∃ s, s = strN (packO es l) := ⟨_, rfl⟩
  rw [← hs]
  have hsb : bytesOf s = packA l (es.map toE) := by rw [hs, hpo, bytesOf_strN hby]
  have hdl : s.size ≤ dearF (es.map toE) := by rw [← bytesOf_len, hsb]; exact dear_law hok
  obtain ⟨hu1, hu2, hu3⟩ := unpB_pack (lv := l) hok h4 hsb
  obtain ⟨hi1, hi2, hi3⟩ := lstB_pack (lv := l) hok h4 hsb
  have hun := munpackA_any (w := w) (b := mb) (s := s)
  have hls := fun wx => mlistA_any (w := wx) (b := mb) (s := s)
  rw [hu1, hu2, hu3] at hun
  rw [hi1, hi2, hi3] at hls
  rw [List.length_map] at hls
  have hok2 : ∀ e ∈ es, e.1.size ≤ 8 ∧ e.2.size ≤ 256 := fun e hm => by
    have h9 := hok (toE e) (List.mem_map.2 ⟨e, hm, rfl⟩)
    have a := h9.name8
    have c := h9.data
    unfold toE at a c
    dsimp only at a c
    rw [bytesOf_len] at a c
    exact ⟨a, c⟩
  have hde := fun (wx : World) (hx : Fr Nob w wx) => dear_any (cap := cap) (he.fr hx (fun _ _ x => x)) h4 (fun e hm => ⟨by have := (hok2 e hm).1; omega, by have := (hok2 e hm).2; omega⟩)
  have hse := fun (wx : World) (hx : Fr Nob w wx) (ad2 : Option Addr) (h2 : EntS wx ad2 es) => sameE_any (cap := es.length) (cap2 := cap) h2 (he.fr hx (fun _ _ x => x)) (by omega)
  obtain ⟨dr, hdr⟩ : ∃ z, z = dearF (es.map toE) := ⟨_, rfl⟩
  rw [← hdr] at hdl hde
  have HDEF := hid hdr
  obtain ⟨n, hn⟩ : ∃ z, z = es.length := ⟨_, rfl⟩
  have HES := hid he
  rw [← hn] at hun hls hde hse h4 ⊢
  have HN := hid hn
  have hni : (n : Int) ≤ 4 := by omega
  have HUN := hid hun
  have HLS := hid hls
  have HDE := hid hde
  have HSE := hid hse
  have HOK := hid hok2
  have HL := hid hll
  have hdli : (s.size : Int) ≤ (dr : Int) := by omega
  clear he h0 h4 hl0 hl2 hok hpo hll hby hs hsb hdl hu1 hu2 hu3 hi1 hi2 hi3 hun hls hok2 hde hse hdr hn
  refine calls_via fun K hK => ?_
  unfold ptrV
  unfold ptrV at HUN HLS
  go_enter Tryz.func34, Tryz.ntmps34
  go_wp2_with fail
  refine HUN.out.mono ?_
  rintro e w1 ⟨a1, rfl, hn1, f1⟩
  have he1 : EntS w1 a1 es := by
    rcases hn1 with e | ⟨g, h1, h2, h3⟩
    · exact .inl (List.eq_nil_of_length_eq_zero (by rw [← HN.out]; exact e))
    · exact .inr ⟨g, h2, h3.lt, by rw [← HN.out]; exact h3.cel⟩
  have HS1 := hid (HSE.out w1 f1 a1 he1)
  have F1 := hid f1
  rw [show ((0 : Nat) : Int) = 0 from rfl]
  clear hn1 f1 he1
  go_wp2_with fail
  refine HS1.out.mono ?_
  rintro e w2 ⟨rfl, q, hq⟩
  have F2 : Hid (Fr Nob w w2) := hid (by rw [hq]; exact F1.out.drewN)
  clear hq
  go_wp2_with fail
  refine (HLS.out w2).mono ?_
  rintro e w3 ⟨a3, rfl, hn3, f3⟩
  have hi3 : InfS w3 a3 (es.map fun e => (e.1, e.2.size, (packF (bytesOf e.2) l).length)) := by
    rcases hn3 with e | ⟨g, h1, h2, h3⟩
    · exact .inl (by rw [List.eq_nil_of_length_eq_zero (l := es) (by rw [← HN.out]; exact e)]; rfl)
    · exact .inr ⟨g, h2, h3.lt, by rw [List.length_map, ← HN.out]; exact h3.cel⟩
  have HI3 := hid hi3
  have F3 := hid (F2.out.trans f3)
  rw [show ((0 : Nat) : Int) = 0 from rfl]
  clear hn3 f3 hi3
  go_wp2_with fail
  go_loopg [15] n (fun gk i wr => ∃ k : Nat, i = .int .i64 (k : Nat) ∧ gk + k = n ∧ Fr Nob w3 wr)
  case atStart => exact ⟨0, rfl, by omega, Fr.refl _ _⟩
  case round =>
    obtain ⟨k, rfl, hg, hf⟩ := hrel
    have HG := hid hg
    have HF := hid hf
    by_cases hk : k < n
    · have hki : (k : Int) < n := by omega
      have hk4 : (k : Int) < 4 := by omega
      have hkl : k < es.length := by rw [← HN.out]; exact hk
      obtain ⟨g, e1, hgl, x0, x1⟩ := (HES.out.fr (F3.out.trans hf) (fun _ _ x => x)).at hkl
      obtain ⟨g2, e2, hgl2, y0, y1, y2⟩ := (HI3.out.fr hf (fun _ _ x => x)).at (k := k) (by rw [List.length_map]; exact hkl)
      rw [List.getElem_map] at y0 y1 y2
      dsimp only at y0 y1 y2
      have hsz := (HOK.out _ (List.getElem_mem hkl)).2
      have hwk := fun wx => work_any (w := wx) (s := (es[k]).2) hsz (lv := l) rfl HL.out
      obtain ⟨nm, hnm⟩ : ∃ z, z = (es[k]).1 := ⟨_, rfl⟩
      obtain ⟨dt, hdt⟩ : ∃ z, z = (es[k]).2 := ⟨_, rfl⟩
      rw [← hdt] at hwk y1 y2 x1 hsz
      rw [← hnm] at x0 y0
      obtain ⟨rw_, hrw⟩ : ∃ z, z = (packF (bytesOf dt) l).length := ⟨_, rfl⟩
      rw [← hrw] at hwk y2
      subst e1
      subst e2
      have HWK := hid hwk
      have hszi : (dt.size : Int) ≤ 256 := by omega
      clear hg hf hgl hgl2 hkl hk hwk hnm hdt hrw hsz
      go_upto_region 12 with fail
      go_quiet (fail)
      obtain ⟨w4, hw4⟩ : ∃ z, z = wr.drewN nq := ⟨_, rfl⟩
      rw [← hw4]
      have f4 : Fr Nob wr w4 := by rw [hw4]; exact Fr.of_drewN
      have x0 := f4.cell x0 (fun x => x)
      have x1 := f4.cell x1 (fun x => x)
      have y0 := f4.cell y0 (fun x => x)
      have y1 := f4.cell y1 (fun x => x)
      have y2 := f4.cell y2 (fun x => x)
      have F4 := hid (HF.out.trans f4)
      clear f4 hw4
      go_upto_region 14 with fail
      go_region_with (go_at_call 55; refine (HWK.out _).mono ?_; rintro e w5 ⟨rfl, f5⟩; have F5 := hid f5; have x0 := F5.out.cell x0 (fun x => x); have x1 := F5.out.cell x1 (fun x => x); have y0 := F5.out.cell y0 (fun x => x); have y1 := F5.out.cell y1 (fun x => x); have y2 := F5.out.cell y2 (fun x => x); clear f5)
      all_goals go_wp2_with fail
      all_goals go_roundg (gk - 1)
      all_goals first
        | (have := HG.out; omega)
        | exact ⟨k + 1, by simp, by have := HG.out; omega, (F4.out.drew).trans F5.out⟩
        | exact ⟨k + 1, by simp, by have := HG.out; omega, ((F4.out.drew).trans F5.out).drew⟩
        | exact ⟨k + 1, by simp, by have := HG.out; omega, ((F4.out).trans F5.out).drew⟩
        | exact ⟨k + 1, by simp, by have := HG.out; omega, (F4.out).trans F5.out⟩
    · have hki : ¬ (k : Int) < n := by omega
      clear hg hf hk
      go_wp2_with fail
      refine (HDE.out wr (F3.out.trans HF.out)).mono ?_
      rintro e w5 ⟨rfl, f5⟩
      have F5 := hid ((F3.out.trans HF.out).trans f5)
      clear f5
      go_wp2_with fail
      exact hK.out _ _ ⟨rfl, F5.out⟩
end Go.Proofs.Qxb6500353aGreat
