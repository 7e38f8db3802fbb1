/- The real archive: Unpack, walked. -/
import Derived.Test.Qxb6500353aGreatAri
namespace Go.Proofs.Qxb6500353aGreat
open Go.RowKit
set_option linter.unusedVariables false
set_option linter.unusedSimpArgs false

theorem Tryz.info98 : (Tryz.prog.info? 98).map (fun i => (i.zero, i.size, i.bytes)) = some (some (.agg #[.string ⟨#[]⟩, .string ⟨#[]⟩]), 2, 32) := by kernel_rfl
noncomputable def entB (s : ByteArray) (r : RowP) : EB := (s.extract (r.off + 1) r.head, strN (runE (textOf (bytesOf s) r)).2)
/-- What Unpack answers, as strings. -/
noncomputable def unpB (s : ByteArray) : List EB := if (unpA (bytesOf s)).1 ≠ 0 then [] else (readA (bytesOf s)).2.2.map (entB s)
theorem unpK_cons (raw : List Nat) (r : RowP) (rs : List RowP) : unpK raw (r :: rs) = if unpE raw r ≠ 0 then (unpE raw r, r.off, []) else if (unpK raw rs).1 ≠ 0 then unpK raw rs else (0, 0, ⟨nameOf raw r, (runE (textOf raw r)).2⟩ :: (unpK raw rs).2.2) := rfl
theorem unpK_pos (raw : List Nat) (rs : List RowP) : (unpK raw rs).1 = 0 → (unpK raw rs).2.1 = 0 := by
  induction rs with
  | nil => intro _; rfl
  | cons r rs ih =>
    intro h
    rw [unpK_cons] at h ⊢
    by_cases c : unpE raw r ≠ 0
    · rw [if_pos c] at h; exact absurd h c
    · rw [if_neg c] at h ⊢
      by_cases c2 : (unpK raw rs).1 ≠ 0
      · rw [if_pos c2] at h; exact absurd h c2
      · rw [if_neg c2]
theorem unpK_ok {raw : List Nat} {r : RowP} {rs : List RowP} (h : unpE raw r = 0) : (unpK raw (r :: rs)).1 = (unpK raw rs).1 ∧ (unpK raw (r :: rs)).2.1 = (unpK raw rs).2.1 := by
  rw [unpK_cons, if_neg (fun q => q h)]
  by_cases c : (unpK raw rs).1 ≠ 0
  · rw [if_pos c]; exact ⟨rfl, rfl⟩
  · rw [if_neg c]
    have c2 : (unpK raw rs).1 = 0 := by omega
    exact ⟨c2.symm, (unpK_pos raw rs c2).symm⟩
theorem unpK_bad {raw : List Nat} {r : RowP} {rs : List RowP} (h : unpE raw r ≠ 0) : (unpK raw (r :: rs)).1 = unpE raw r ∧ (unpK raw (r :: rs)).2.1 = r.off := by
  rw [unpK_cons, if_pos h]; exact ⟨rfl, rfl⟩
set_option maxRecDepth 100000 in
set_option maxHeartbeats 16000000 in
theorem unpackA_any {w : World} {X Z : Nat} {R : ArR} (h : ArM w X Z R) {s : ByteArray} :
    Calls Tryz.prog 38 #[ptrV Z, .string s] w fun e w' => ∃ ad : Option Addr, e = .returned (.tuple #[.slice ad (unpB s).length (unpB s).length, .int .i64 ((unpA (bytesOf s)).1 : Nat), .int .i64 ((unpA (bytesOf s)).2.1 : Nat)]) ∧ NewL w w' 98 2 (unpB s).length ad (entV (unpB s)) ∧ (∃ R2, ArM w' X Z R2) ∧ Fr (Rng X (Z + 5)) w w' := by
  have H := hid h
  by_cases c0 : 1200 < s.size
  · have hra : readA (bytesOf s) = (1, 0, []) := by unfold readA; rw [if_pos (by rw [bytesOf_len]; exact c0)]
    have e2 : unpA (bytesOf s) = (1, 0, []) := by unfold unpA; rw [hra, if_pos (by decide)]
    have e1 : unpB s = [] := by unfold unpB; rw [e2, if_pos (by decide)]
    rw [e1, e2]
    have c0i : (1200 : Int) < s.size := by omega
    clear h c0 hra e1 e2
    refine calls_via fun K hK => ?_
    unfold ptrV
    go_enter Tryz.func38, Tryz.ntmps38
    go_wp2_with fail
    try go_ret3
    exact hK.out _ _ ⟨none, rfl, .inl rfl, ⟨_, H.out⟩, Fr.refl _ _⟩
  · have c0i : ¬ (1200 : Int) < s.size := by omega
    have HS := hid c0
    have hfr := frameA_any h (s := s) (by omega)
    have hok := readA_ok (bytesOf s)
    have e1 : unpB s = if (unpA (bytesOf s)).1 ≠ 0 then [] else (readA (bytesOf s)).2.2.map (entB s) := rfl
    have e2 : unpA (bytesOf s) = if (readA (bytesOf s)).1 ≠ 0 then ((readA (bytesOf s)).1, (readA (bytesOf s)).2.1, []) else unpK (bytesOf s) (readA (bytesOf s)).2.2 := rfl
    obtain ⟨T, hT⟩ : ∃ z, z = readA (bytesOf s) := ⟨_, rfl⟩
    rw [← hT] at hfr hok e1 e2
    obtain ⟨er, ps, rs⟩ := T
    dsimp only at hfr hok e1 e2
    unfold ptrV at hfr
    have HFR := hid hfr
    by_cases c1 : er = 0
    · subst c1
      rw [if_neg (by simp)] at e2
      have hk := hok rfl
      rw [e2] at e1
      rw [e2]
      obtain ⟨raw, hraw⟩ : ∃ z, z = bytesOf s := ⟨_, rfl⟩
      rw [← hraw] at e1 hk ⊢
      obtain ⟨n, hn⟩ : ∃ z, z = rs.length := ⟨_, rfl⟩
      rw [← hn] at hk
      have HOK := hid hk
      have HE1 := hid e1
      have HN := hid hn
      have HRAW := hid hraw
      have hni : (n : Int) ≤ 4 := by omega
      rw [← hn] at HFR
      clear h hfr hok hT e1 e2 hk hn c0 hraw
      refine calls_via fun K hK => ?_
      unfold ptrV
      go_enter Tryz.func38, Tryz.ntmps38
      go_wp2_with fail
      refine HFR.out.mono ?_
      rintro e w1 ⟨rfl, ⟨R1, h1, htb⟩, f1⟩
      have H1 := hid h1
      have HTB := hid (htb (by first | rfl | trivial))
      have F1 := hid f1
      obtain ⟨M, hM⟩ : ∃ z, w1.heap.size = z := ⟨_, rfl⟩
      have HM := hid hM
      have hzM : Z + 4 < M := by rw [← hM]; exact h1.lt
      have HZM := hid hzM
      have HWM : Hid (w.heap.size ≤ M) := hid (by rw [← hM]; exact f1.size)
      clear h1 htb f1
      rw [show ((0 : Nat) : Int) = 0 from rfl]
      go_wp2_with (at_make; refine wp_mkg rfl _ _ 32 98 2 32 _ rfl Tryz.underlying32 Tryz.info98 rfl n n n n M HM.out rfl rfl rfl rfl (Nat.le_refl _) (by omega) (by omega) ?_; intro w2 hs2 ha2 hf2; have HA2 := hid ha2; have H2 := hid (H1.out.fr hf2 (fun _ _ _ x => x)); have F2 := hid (F1.out.trans (hf2.mono (fun _ x _ => x.elim))); clear ha2 hf2 hs2 hM)
      go_loopg [11] n (fun g i wr => ∃ (k : Nat) (f : Nat → Value) (Rk : ArR), i = .int .i64 (k : Nat) ∧ g + k = n ∧ ArM wr X Z Rk ∧ Rk.tab = R1.tab ∧ Arr 98 mkV wr M (n * 2) f ∧ (∀ j, j < k * 2 → f j = entV (rs.map (entB s)) j) ∧ (unpK raw rs).1 = (unpK raw (rs.drop k)).1 ∧ (unpK raw rs).2.1 = (unpK raw (rs.drop k)).2.1 ∧ Fr (Rng X (Z + 5)) w wr)
      case atStart => exact ⟨0, _, R1, rfl, by omega, H2.out, rfl, HA2.out, fun j hj => by omega, rfl, rfl, F2.out⟩
      case round =>
        obtain ⟨k, f, Rk, rfl, hg, hA, htab, hB, hf, hu1, hu2, hF⟩ := hrel
        have HA := hid hA
        have HTAB := hid htab
        have HB := hid hB
        have HFF := hid hf
        have HF := hid hF
        have HG := hid hg
        have HU := hid (And.intro hu1 hu2)
        by_cases hk : k < n
        · have hki : (k : Int) < n := by omega
          have hk4 : (k : Int) < 4 := by omega
          have hkl : k < rs.length := by rw [← HN.out]; exact hk
          have hrow := HOK.out.2.2.2 _ (List.getElem_mem hkl)
          have htb := HTB.out k _ (List.getElem?_eq_getElem hkl)
          have hLk : (rs.map (entB s))[k]? = some (entB s rs[k]) := by rw [List.getElem?_map, List.getElem?_eq_getElem hkl]; rfl
          have hdr : rs.drop k = rs[k] :: rs.drop (k + 1) := drop_cons hkl
          obtain ⟨r, hr⟩ : ∃ z, z = rs[k] := ⟨_, rfl⟩
          rw [← hr] at hrow htb hLk hdr
          have huo := fun q => unpK_ok (raw := raw) (r := r) (rs := rs.drop (k + 1)) q
          have hub := fun q => unpK_bad (raw := raw) (r := r) (rs := rs.drop (k + 1)) q
          rw [hdr] at hu1 hu2
          have HUO := hid huo
          have HUB := hid hub
          have HU2 := hid (And.intro hu1 hu2)
          have hue : unpE raw r = if (runE (textOf raw r)).1 ≠ 0 then (runE (textOf raw r)).1 else if (runE (textOf raw r)).2.length ≠ r.size then 19 else if sumF (runE (textOf raw r)).2 ≠ r.sum then 18 else 0 := rfl
          have HUE := hid hue
          have hiv := entV_at hLk
          obtain ⟨off, hd, sz, sm, to_⟩ := r
          have hr1 := hrow.off; have hr2 := hrow.head; have hr3 := hrow.to; have hr4 := hrow.long
          have hrl : raw.length = s.size := by rw [HRAW.out, bytesOf_len]
          rw [hrl] at hr3
          dsimp only at hr1 hr2 hr3 hr4
          have c1 := hA.ar.p_tab
          have t0 := hA.ar.a_tab.cell (k * 5) (by omega)
          have t1 := hA.ar.a_tab.cell (k * 5 + 1) (by omega)
          have t2 := hA.ar.a_tab.cell (k * 5 + 2) (by omega)
          have t3 := hA.ar.a_tab.cell (k * 5 + 3) (by omega)
          have t4 := hA.ar.a_tab.cell (k * 5 + 4) (by omega)
          simp only [mkV] at t0 t1 t2 t3 t4
          have b0 : R1.tab (k * 5) = .int .i64 (off : Nat) := htb 0 (by omega)
          have b1 : R1.tab (k * 5 + 1) = .int .i64 (hd : Nat) := htb 1 (by omega)
          have b2 : R1.tab (k * 5 + 2) = .int .i64 (to_ : Nat) := htb 2 (by omega)
          have b3 : R1.tab (k * 5 + 3) = .int .i64 (sz : Nat) := htb 3 (by omega)
          have b4 : R1.tab (k * 5 + 4) = .int .i64 (sm : Nat) := htb 4 (by omega)
          rw [htab, b0] at t0
          rw [htab, b1] at t1
          rw [htab, b2] at t2
          rw [htab, b3] at t3
          rw [htab, b4] at t4
          have hmk := Mk.start wr wr.heap.size rfl [.int .i64 0, .int .i64 0, .int .i64 0, .int .i64 0, .int .i64 0] 121
          have f5 : Fr (UpN wr.heap.size) wr (wr.alloc (Obj.cells #[.int .i64 0, .int .i64 0, .int .i64 0, .int .i64 0, .int .i64 0] 121)) := (Fr.refl _ _).alloc _
          obtain ⟨w5, hw5⟩ : ∃ z, wr.alloc (Obj.cells #[.int .i64 0, .int .i64 0, .int .i64 0, .int .i64 0, .int .i64 0] 121) = z := ⟨_, rfl⟩
          have hmk : Mk w5 wr.heap.size 5 (fun i => ([.int .i64 0, .int .i64 0, .int .i64 0, .int .i64 0, .int .i64 0] : List Value).getD i undef) := by rw [← hw5]; exact hmk
          rw [hw5] at f5
          have o0 : w5.cell? ⟨wr.heap.size, 0, none⟩ = some (.int .i64 0) := hmk.cells 0 (by decide)
          have o1 : w5.cell? ⟨wr.heap.size, 1, none⟩ = some (.int .i64 0) := hmk.cells 1 (by decide)
          have o2 : w5.cell? ⟨wr.heap.size, 2, none⟩ = some (.int .i64 0) := hmk.cells 2 (by decide)
          have o3 : w5.cell? ⟨wr.heap.size, 3, none⟩ = some (.int .i64 0) := hmk.cells 3 (by decide)
          have o4 : w5.cell? ⟨wr.heap.size, 4, none⟩ = some (.int .i64 0) := hmk.cells 4 (by decide)
          have oz : ∀ i, w5.frozen? ⟨wr.heap.size, i, none⟩ = false := hmk.fz
          have HMK := hid hmk
          have HF5 := hid f5
          have hup : UpN wr.heap.size wr.heap.size := Nat.le_refl _
          have HZ4 := hid hA.lt
          have HMW := hid hB.lt
          have HIV := hid hiv
          have HR := hid (And.intro hr1 (And.intro hr2 (And.intro hr3 hr4)))
          clear hA hB hf hF hg b0 b1 b2 b3 b4 hr htb hrow hLk hmk f5 hiv hk hkl htab hu1 hu2 huo hub hue hdr hr1 hr2 hr3 hr4 hrl
          go_upto_region 11 with fail
          obtain ⟨w6, hw6⟩ : ∃ z, z = (((((w5.setCell ⟨wr.heap.size, 0, none⟩ (.int .i64 (off : Nat))).setCell ⟨wr.heap.size, 1, none⟩ (.int .i64 (hd : Nat))).setCell ⟨wr.heap.size, 2, none⟩ (.int .i64 (to_ : Nat))).setCell ⟨wr.heap.size, 3, none⟩ (.int .i64 (sz : Nat))).setCell ⟨wr.heap.size, 4, none⟩ (.int .i64 (sm : Nat))) := ⟨_, rfl⟩
          rw [← hw6]
          have HM6 : Hid (Mk w6 wr.heap.size 5 _) := hid (by rw [hw6]; exact (((((HMK.out.set (i := 0) (by decide) (.int .i64 (off : Nat))).set (i := 1) (by decide) (.int .i64 (hd : Nat))).set (i := 2) (by decide) (.int .i64 (to_ : Nat))).set (i := 3) (by decide) (.int .i64 (sz : Nat))).set (i := 4) (by decide) (.int .i64 (sm : Nat))))
          have hf6 : Fr (UpN wr.heap.size) w5 w6 := by rw [hw6]; exact ((((((((((Fr.refl (UpN wr.heap.size) w5).setS hup 0 (.int .i64 (off : Nat)))).setS hup 1 (.int .i64 (hd : Nat)))).setS hup 2 (.int .i64 (to_ : Nat)))).setS hup 3 (.int .i64 (sz : Nat)))).setS hup 4 (.int .i64 (sm : Nat)))
          have hf56 := HF5.out.trans hf6
          have h6 := HA.out.fr hf56 (fun k a b q => by unfold UpN at q; have := HZ4.out; omega)
          have hb6 := HB.out.fr hf56 (fun q => by unfold UpN at q; have := HMW.out; omega)
          have HF6 := hid (HF.out.trans (hf56.mono (fun x hx hl => by unfold UpN at hx; omega)))
          have hwr6 : wr.heap.size < w6.heap.size := lt_of_cellB (HM6.out.cells 0 (by decide))
          have HB6 := hid hb6
          clear hw6 hf6 hf56 o0 o1 o2 o3 o4 oz hw5 t0 t1 t2 t3 t4 c1 hb6 hup
          have d0 : w6.cell? ⟨wr.heap.size, 0, none⟩ = some (.int .i64 (off : Nat)) := HM6.out.cells 0 (by decide)
          have d1 : w6.cell? ⟨wr.heap.size, 1, none⟩ = some (.int .i64 (hd : Nat)) := HM6.out.cells 1 (by decide)
          have d2 : w6.cell? ⟨wr.heap.size, 2, none⟩ = some (.int .i64 (to_ : Nat)) := HM6.out.cells 2 (by decide)
          have d3 : w6.cell? ⟨wr.heap.size, 3, none⟩ = some (.int .i64 (sz : Nat)) := HM6.out.cells 3 (by decide)
          have d4 : w6.cell? ⟨wr.heap.size, 4, none⟩ = some (.int .i64 (sm : Nat)) := HM6.out.cells 4 (by decide)
          have hhr := HR.out
          have hs12 := HS.out
          have hdn := drainA_any (a := hd + 6) (b := to_) h6 (s := s) (by omega) hhr.2.1 hhr.2.2.1 (by omega)
          have l7 : (hd : Int) ≤ 1200 := by omega
          obtain ⟨hd6, hhd6⟩ : ∃ z, z = hd + 6 := ⟨_, rfl⟩
          rw [← hhd6] at hdn
          have l8 : (hd : Int) + 6 = (hd6 : Int) := by omega
          unfold ptrV at hdn
          have HDN := hid hdn
          have HH6 := hid hhd6
          clear h6 hdn hhr hs12 hhd6
          go_wp2_with fail
          refine HDN.out.mono ?_
          rintro e w7 ⟨er, o, R2, rfl, hen, h7, htb7, hgn, f7⟩
          have hrun := runE_eq hen
          have htx : textOf raw ⟨off, hd, sz, sm, to_⟩ = slc (bytesOf s) hd6 to_ := by unfold textOf; dsimp only; rw [HRAW.out, HH6.out]
          rw [← htx] at hrun
          have hnz : ¬ Rng X (Z + 5) wr.heap.size := fun q => by have := q.2; have := HZ4.out; omega
          have hm7 := HM6.out.fr (by decide) f7 hnz
          have hb7 := HB6.out.fr f7 (fun q => by have := q.2; have := HZM.out; omega)
          have H7 := hid h7
          have HT7 := hid (htb7.trans HTAB.out)
          have HGN := hid hgn
          have HM7 := hid hm7
          have HB7 := hid hb7
          have HF7 := hid (HF6.out.trans f7)
          have hue := HUE.out
          rw [hrun] at hue
          dsimp only at hue
          have HRUN := hid hrun
          clear d0 d1 d2 d3 d4 hen h7 htb7 hgn f7 hrun htx hnz hm7 hb7
          have d0 : w7.cell? ⟨wr.heap.size, 0, none⟩ = some (.int .i64 (off : Nat)) := HM7.out.cells 0 (by decide)
          have d1 : w7.cell? ⟨wr.heap.size, 1, none⟩ = some (.int .i64 (hd : Nat)) := HM7.out.cells 1 (by decide)
          have d2 : w7.cell? ⟨wr.heap.size, 2, none⟩ = some (.int .i64 (to_ : Nat)) := HM7.out.cells 2 (by decide)
          have d3 : w7.cell? ⟨wr.heap.size, 3, none⟩ = some (.int .i64 (sz : Nat)) := HM7.out.cells 3 (by decide)
          have d4 : w7.cell? ⟨wr.heap.size, 4, none⟩ = some (.int .i64 (sm : Nat)) := HM7.out.cells 4 (by decide)
          by_cases e0 : er = 0
          · subst e0
            rw [if_neg (by simp)] at hue
            rw [if_pos (by first | rfl | trivial), if_pos (by first | rfl | trivial), show ((0 : Nat) : Int) = 0 from rfl]
            have hgn := HGN.out (by first | rfl | trivial)
            have hol := hgn.len
            obtain ⟨on, hon⟩ : ∃ z, z = o.length := ⟨_, rfl⟩
            obtain ⟨os, hos⟩ : ∃ z, z = sumF o := ⟨_, rfl⟩
            rw [← hon] at hue hol
            rw [← hos] at hue
            rw [← hon, ← hos]
            have hoi : (on : Int) ≤ 256 := by omega
            have HON := hid hon
            by_cases e1 : on = sz
            · have e1i : ((on : Int) == (sz : Int)) = true := by rw [e1]; simp
              have e1j : ((on : Int) != (sz : Int)) = false := by rw [e1]; simp
              rw [if_neg (fun q => q e1)] at hue
              by_cases e2 : os = sm
              · have e2i : ((os : Int) == (sm : Int)) = true := by rw [e2]; simp
                have e2j : ((os : Int) != (sm : Int)) = false := by rw [e2]; simp
                rw [if_neg (fun q => q e2)] at hue
                have hu := HUO.out hue
                have HUX := hid (And.intro (HU2.out.1.trans hu.1) (HU2.out.2.trans hu.2))
                have hhr := HR.out
                have hs12 := HS.out
                have x0 := HB7.out.cell (k * 2) (by have := HG.out; omega)
                have x1 := HB7.out.cell (k * 2 + 1) (by have := HG.out; omega)
                simp only [mkV] at x0 x1
                obtain ⟨y0, hy0⟩ : ∃ z, z = f (k * 2) := ⟨_, rfl⟩
                obtain ⟨y1, hy1⟩ : ∃ z, z = f (k * 2 + 1) := ⟨_, rfl⟩
                rw [← hy0] at x0
                rw [← hy1] at x1
                have xz : ∀ i, w7.frozen? ⟨M, i, none⟩ = false := HB7.out.thaw
                have n1 : ¬ M = wr.heap.size := by have := HMW.out; omega
                have n2 : ¬ wr.heap.size = M := by have := HMW.out; omega
                have n3 : ¬ Z = M := by have := HZM.out; omega
                have l1 : (off : Int) + 1 ≤ hd := by omega
                have l2 : (hd : Int) ≤ s.size := by omega
                have l3 : (0 : Int) ≤ (off : Int) + 1 := by omega
                have l4 : ((off : Int) + 1).toNat = off + 1 := by omega
                have l6 : (s.size : Int) ≤ 1200 := by omega
                have hi := HIV.out
                have heb : entB s ⟨off, hd, sz, sm, to_⟩ = (s.extract (off + 1) hd, strN o) := by unfold entB; rw [← HRAW.out, HRUN.out]
                rw [heb] at hi
                dsimp only at hi
                clear heb
                obtain ⟨nmv, hnmv⟩ : ∃ z, z = s.extract (off + 1) hd := ⟨_, rfl⟩
                obtain ⟨ov, hov⟩ : ∃ z, z = strN o := ⟨_, rfl⟩
                rw [← hnmv, ← hov] at hi
                have HI := hid hi
                have HNM := hid hnmv
                have HOV := hid hov
                have HGN2 := hid hgn
                clear hue hu e1 e2 hgn hhr hs12 hi hon hos hy0 hy1 hol hov
                go_upto_region 19 with fail
                rw [← HNM.out]
                obtain ⟨w8, hw8⟩ : ∃ z, z = w7.setCell ⟨M, k * 2, none⟩ (.string nmv) := ⟨_, rfl⟩
                rw [← hw8]
                have f8 : Fr (One M) w7 w8 := by rw [hw8]; exact (Fr.refl _ _).set1 _ _
                have hb8 : Arr 98 mkV w8 M (n * 2) (upd f (k * 2) (.string nmv)) := by rw [hw8]; exact HB7.out.set (k * 2) (.string nmv)
                have h8 := H7.out.fr f8 (fun k a b q => by unfold One at q; have := HZM.out; omega)
                have p1 := h8.ar.p_gain
                have x1 := hb8.cell (k * 2 + 1) (by have := HG.out; omega)
                simp only [mkV] at x1
                rw [upd_ne _ _ _ _ (by omega)] at x1
                obtain ⟨y2, hy2⟩ : ∃ z, z = f (k * 2 + 1) := ⟨_, rfl⟩
                rw [← hy2] at x1
                have xz : ∀ i, w8.frozen? ⟨M, i, none⟩ = false := hb8.thaw
                have hcv := conv_str (w := w8) (g := Z + 4) (o := 0) (n := on) (cap := 256) (f := R2.gain) (fun i hi => by rw [Nat.zero_add]; exact h8.ar.a_gain.cell i (by omega))
                have hcm : (List.range on).map R2.gain = o := by
                  apply List.ext_getElem?
                  intro i
                  rw [List.getElem?_map]
                  by_cases hi : i < on
                  · rw [List.getElem?_range hi]
                    have := HGN2.out.gain i (by rw [← HON.out]; exact hi)
                    rw [Option.map_some, this, List.getD_eq_getElem?_getD, List.getElem?_eq_getElem (show i < o.length by rw [← HON.out]; exact hi)]; rfl
                  · rw [List.getElem?_eq_none (by simp; omega), List.getElem?_eq_none (by rw [← HON.out]; omega)]; rfl
                rw [hcm, ← HOV.out] at hcv
                have H8 := hid h8
                have HB9 := hid (hb8.set (k * 2 + 1) (.string ov))
                have f9 := f8.set1 (k * 2 + 1) (.string ov)
                have H9 := hid (h8.fr ((Fr.refl (One M) w8).set1 (k * 2 + 1) (.string ov)) (fun k a b q => by unfold One at q; have := HZM.out; omega))
                have HF9 := hid (HF7.out.trans2 f9 (fun x hx hl => by unfold One at hx; have := HWM.out; omega))
                clear hw8 f8 hb8 h8 hy2 hcm f9 d0 d1 d2 d3 d4 l1 l2 l3 l4
                go_wp2_with fail
                go_roundg (gk - 1)
                case measure => have := HG.out; omega
                case rel =>
                  refine ⟨k + 1, _, R2, by simp, by have := HG.out; omega, H9.out, HT7.out, HB9.out, fun j hj => ?_, HUX.out.1, HUX.out.2, HF9.out⟩
                  by_cases e0 : j = k * 2
                  · subst e0; rw [upd_ne _ _ _ _ (by omega), upd_self]; exact HI.out.1.symm
                  · by_cases e1 : j = k * 2 + 1
                    · subst e1; rw [upd_self]; exact HI.out.2.symm
                    · rw [upd_ne _ _ _ _ e1, upd_ne _ _ _ _ e0]; exact HFF.out j (by omega)
              · rw [if_pos e2] at hue
                have hu := HUB.out (by rw [hue]; decide)
                have e2i : ((os : Int) == (sm : Int)) = false := beq_eq_false_iff_ne.2 (fun q => e2 (Int.ofNat.inj q))
                have e2j : ((os : Int) != (sm : Int)) = true := by rw [bne, e2i]; rfl
                have g1 := HU2.out.1.trans hu.1
                have g2 := HU2.out.2.trans hu.2
                have hub : unpB s = [] := by rw [HE1.out, g1, hue, if_pos (by decide)]
                rw [g1, g2, hue, hub] at hK
                clear hue hu g1 g2 hub e1 e2 hgn hol hon hos
                go_upto_region 17 with fail
                go_quiet (fail)
                go_wp2_with fail
                try go_ret3
                exact hK.out _ _ ⟨none, rfl, .inl rfl, ⟨_, H7.out.fr (S := Nob) Fr.of_drewN (fun _ _ _ x => x)⟩, HF7.out.drewN⟩
            · rw [if_pos e1] at hue
              have hu := HUB.out (by rw [hue]; decide)
              have e1i : ((on : Int) == (sz : Int)) = false := beq_eq_false_iff_ne.2 (fun q => e1 (Int.ofNat.inj q))
              have e1j : ((on : Int) != (sz : Int)) = true := by rw [bne, e1i]; rfl
              have g1 := HU2.out.1.trans hu.1
              have g2 := HU2.out.2.trans hu.2
              have hub : unpB s = [] := by rw [HE1.out, g1, hue, if_pos (by decide)]
              rw [g1, g2, hue, hub] at hK
              clear hue hu g1 g2 hub e1 hgn hol hon hos
              go_upto_region 15 with fail
              go_quiet (fail)
              go_wp2_with fail
              try go_ret3
              exact hK.out _ _ ⟨none, rfl, .inl rfl, ⟨_, H7.out.fr (S := Nob) Fr.of_drewN (fun _ _ _ x => x)⟩, HF7.out.drewN⟩
          · rw [if_pos e0] at hue
            rw [if_neg e0, if_neg e0]
            have hu := HUB.out (by rw [hue]; exact e0)
            have e0i : ((er : Int) == 0) = false := beq_eq_false_iff_ne.2 (fun q => e0 (Int.ofNat.inj q))
            have e0j : ((er : Int) != 0) = true := by rw [bne, e0i]; rfl
            have g1 := HU2.out.1.trans hu.1
            have g2 := HU2.out.2.trans hu.2
            have hub : unpB s = [] := by rw [HE1.out, g1, hue, if_pos e0]
            rw [g1, g2, hue, hub] at hK
            clear hue hu g1 g2 hub e0
            go_upto_region 13 with fail
            go_quiet (fail)
            go_wp2_with fail
            try go_ret3
            exact hK.out _ _ ⟨none, rfl, .inl rfl, ⟨_, H7.out.fr (S := Nob) Fr.of_drewN (fun _ _ _ x => x)⟩, HF7.out.drewN⟩
        · have hki : ¬ (k : Int) < n := by omega
          have hkn : k = n := by omega
          subst hkn
          have hdr : rs.drop k = [] := List.drop_eq_nil_of_le (by rw [← HN.out]; exact Nat.le_refl _)
          rw [hdr] at hu1 hu2
          have hub : unpB s = rs.map (entB s) := by rw [HE1.out, hu1, if_neg (by unfold unpK; simp)]
          have hlb : (unpB s).length = k := by rw [hub, List.length_map]; exact HN.out.symm
          have hbb := hB.congr (h := entV (unpB s)) (fun j hj => by rw [hub]; exact hf j hj)
          have HBB := hid hbb
          rw [hu1, hu2, hlb] at hK
          clear hA hB hf hF hg hbb hk hu1 hu2 hub hlb hdr htab
          go_wp2_with fail
          try go_ret3
          exact hK.out _ _ ⟨_, rfl, .inr ⟨M, HWM.out, rfl, HBB.out⟩, ⟨_, HA.out⟩, HF.out⟩
    · have c1i : ((er : Int) == 0) = false := beq_eq_false_iff_ne.2 (fun q => c1 (Int.ofNat.inj q))
      have c1j : ((er : Int) != 0) = true := by rw [bne, c1i]; rfl
      rw [if_pos c1] at e2
      rw [e2, if_pos c1] at e1
      rw [e1, e2]
      clear h hfr hok hT e1 e2 c0 c1
      refine calls_via fun K hK => ?_
      unfold ptrV
      go_enter Tryz.func38, Tryz.ntmps38
      go_wp2_with fail
      refine HFR.out.mono ?_
      rintro e w1 ⟨rfl, ⟨R1, h1, htb⟩, f1⟩
      have H1 := hid h1
      have F1 := hid f1
      clear h1 htb f1
      go_wp2_with fail
      try go_ret3
      exact hK.out _ _ ⟨none, rfl, .inl rfl, ⟨_, H1.out⟩, F1.out⟩
end Go.Proofs.Qxb6500353aGreat
