/- The model's archive: read, walked. -/
import Derived.Test.Qxb6500353aGreatAma
import Derived.Test.Qxb6500353aGreatArg
import Derived.Test.Qxb6500353aGreatOwg
namespace Go.Proofs.Qxb6500353aGreat
open Go.RowKit
set_option linter.unusedVariables false
set_option linter.unusedSimpArgs false

theorem Tryz.info126 : (Tryz.prog.info? 126).map (fun i => (i.zero, i.size, i.bytes)) = some (some (.agg #[.string ⟨#[]⟩, .int .i64 0, .int .i64 0, .int .i64 0, .int .i64 0, .int .i64 0]), 6, 56) := by kernel_rfl
def rowV (s : ByteArray) (r : RowP) : List Value := [.string (s.extract (r.off + 1) r.head), .int .i64 (r.size : Nat), .int .i64 (r.sum : Nat), .int .i64 ((r.head + 6 : Nat) : Int), .int .i64 (r.to : Nat), .int .i64 (r.off : Nat)]
theorem und122 : Tryz.prog.underlying 122 = some (.slice 126) := by kernel_rfl
theorem zer126 : (Value.agg #[.string ⟨#[]⟩, .int .i64 0, .int .i64 0, .int .i64 0, .int .i64 0, .int .i64 0]).cells.size = 6 := by kernel_rfl
theorem CellsAt.set {w : World} {g : Nat} {vs : List Value} (h : CellsAt w g vs) (i : Nat) (hi : i < vs.length) (v : Value) : CellsAt (w.setCell ⟨g, i, none⟩ v) g (vs.set i v) := by
  refine ⟨fun j u hj => ?_, fun j => Thaw.set h.fz _ _ j⟩
  rw [List.getElem?_set] at hj
  by_cases e : i = j
  · subst e
    rw [if_pos rfl, if_pos hi] at hj
    simp only [Option.some.injEq] at hj
    subst hj
    exact cellSet (h.c i _ (List.getElem?_eq_getElem hi))
  · rw [if_neg e] at hj
    exact (cellNe e).trans (h.c j u hj)
theorem Mk.cellsAt {w : World} {g n : Nat} {vs : List Value} (h : Mk w g n (fun i => vs.getD i undef)) (hn : vs.length = n := by rfl) : CellsAt w g vs := by
  refine ⟨fun i v hv => ?_, h.fz⟩
  have hi : i < vs.length := (List.getElem?_eq_some_iff.1 hv).1
  have h1 := h.cells i (by omega)
  rw [List.getD_eq_getElem?_getD, hv] at h1; exact h1
set_option maxRecDepth 100000 in
set_option maxHeartbeats 16000000 in
theorem mread_any {w : World} {s : ByteArray} :
    Calls Tryz.prog 58 #[.string s] w fun e w' => ∃ (ad : Option Addr) (cap : Nat), e = .returned (.tuple #[.slice ad (readA (bytesOf s)).2.2.length cap, .int .i64 ((readA (bytesOf s)).1 : Nat), .int .i64 ((readA (bytesOf s)).2.1 : Nat)]) ∧ OwnG w' w.heap.size 126 6 ad (readA (bytesOf s)).2.2.length cap ((readA (bytesOf s)).2.2.flatMap (rowV s)) ∧ Fr Nob w w' := by
  by_cases c0 : 1200 < s.size
  · have hra : readA (bytesOf s) = (1, 0, []) := by unfold readA; rw [if_pos (by rw [bytesOf_len]; exact c0)]
    rw [hra]
    have c0i : (1200 : Int) < s.size := by omega
    clear c0 hra
    refine calls_via fun K hK => ?_
    go_enter Tryz.func58, Tryz.ntmps58
    go_wp2_with fail
    try go_ret3
    exact hK.out _ _ ⟨none, 0, rfl, OwnG.nil _ _ _ _, Fr.refl _ _⟩
  have c0i : ¬ (1200 : Int) < s.size := by omega
  have hrt := readA_tail (raw := bytesOf s) (by rw [bytesOf_len]; omega)
  have HS := hid c0
  obtain ⟨T, hT⟩ : ∃ z, z = tailF (bytesOf s) := ⟨_, rfl⟩
  have hT2 := hT
  have hok := tailF_ok (raw := bytesOf s)
  unfold tailF at hT2
  rw [bytesOf_len] at hT2 hok
  rw [← hT] at hrt hok
  obtain ⟨raw, hraw⟩ : ∃ z, z = bytesOf s := ⟨_, rfl⟩
  rw [← hraw] at hrt ⊢
  have HRAW := hid hraw
  by_cases c1 : s.size < 4
  · have c1i : (s.size : Int) < 4 := by omega
    rw [if_pos (Or.inl c1)] at hT2
    subst hT2
    rw [if_pos (by decide)] at hrt
    rw [hrt]
    clear c0 c1 hrt hok hT hraw
    refine calls_via fun K hK => ?_
    go_enter Tryz.func58, Tryz.ntmps58
    go_wp2_with fail
    try go_ret3
    exact hK.out _ _ ⟨none, 0, rfl, OwnG.nil _ _ _ _, Fr.refl _ _⟩
  have c1i : ¬ (s.size : Int) < 4 := by omega
  obtain ⟨n4, hn4⟩ : ∃ n, s.size = n + 4 := ⟨s.size - 4, by omega⟩
  have p3 : n4 + 3 < s.size := by omega
  have p0 : n4 < s.size := by omega
  have b1 := byteI s (k := n4 + 3) p3
  have b2 := byteI s (k := n4) p0
  have h1 := byS_lt s (n4 + 3)
  have h2 := byS_lt s n4
  rw [show s.size - 1 = n4 + 3 by omega, show s.size - 4 = n4 by omega, show s.size - 3 = n4 + 1 by omega] at hT2
  have hwd := fun (i : Nat) (hi : i + 2 ≤ s.size) (w : World) => num_any (w := w) (s := s) (i := i) hi (by omega)
  have hw0 : ∀ w, Calls Tryz.prog 74 #[.string s, .int .i64 ((n4 : Int) + 1)] w fun e w' => e = .returned (.int .i64 (num2 (bytesOf s) (n4 + 1) : Nat)) ∧ ∃ q, w' = w.drewN q := fun w => by
    have h9 := hwd (n4 + 1) (by omega) w
    rw [Int.natCast_add] at h9; exact h9
  obtain ⟨x, hx⟩ : ∃ x, x = by_ (bytesOf s) (n4 + 3) := ⟨_, rfl⟩
  obtain ⟨cnt, hy⟩ : ∃ x, x = by_ (bytesOf s) n4 := ⟨_, rfl⟩
  obtain ⟨dir, hr⟩ : ∃ x, x = num2 (bytesOf s) (n4 + 1) := ⟨_, rfl⟩
  rw [← hx] at b1 h1 hT2
  rw [← hy] at b2 h2 hT2
  rw [← hr] at hw0 hT2
  have HW0 := hid hw0
  have hrl : dir < 65536 := by rw [hr]; unfold num2; have := byS_lt s (n4 + 1); have := byS_lt s (n4 + 1 + 1); omega
  have hxi : (x : Int) < 256 := by omega
  have hci : (cnt : Int) < 256 := by omega
  have hni : (n4 : Int) ≤ 1196 := by omega
  have hs1 : (n4 : Int) + 4 - 1 = (n4 : Int) + 3 := by omega
  have hs2 : (n4 : Int) + 4 - 4 = (n4 : Int) := by omega
  have hs4 : (s.size : Int) - 4 = (n4 : Int) := by omega
  have hs3 : (n4 : Int) + 4 - 3 = (n4 : Int) + 1 := by omega
  have g1 : (n4 : Int) + 3 < s.size := by omega
  have g2 : (n4 : Int) < s.size := by omega
  have g3 : (0 : Int) ≤ (n4 : Int) + 3 := by omega
  have g4 : ((n4 : Int) + 3).toNat = n4 + 3 := by omega
  have g5 : (s.size : Int) ≤ 1200 := by omega
  have HWD := hid hwd
  have HRL := hid hrl
  have HN4 := hid hn4
  clear hw0 hx hy hr c0 c1 hT hraw hwd hrl
  by_cases k1 : x = 90
  · subst k1
    rw [if_neg (by omega)] at hT2
    by_cases k2 : 4 < cnt
    · rw [if_pos k2] at hT2
      subst hT2
      rw [if_pos (by simp)] at hrt
      rw [hrt]
      have k2i : (4 : Int) < cnt := by omega
      clear k2 h1 h2 hrt hok
      refine calls_via fun K hK => ?_
      go_enter Tryz.func58, Tryz.ntmps58
      go_wp2_with fail
      try go_ret3
      exact hK.out _ _ ⟨none, 0, rfl, OwnG.nil _ _ _ _, Fr.refl _ _⟩
    · have k2i : ¬ (4 : Int) < cnt := by omega
      rw [if_neg k2] at hT2
      obtain ⟨z, hz⟩ : ∃ z, z = dir + 2 * cnt := ⟨_, rfl⟩
      have z1 : (dir : Int) + 2 * (cnt : Int) = (z : Int) := by omega
      have hzb : (z : Int) ≤ 66000 := by have := HRL.out; omega
      rw [← hz] at hT2
      have hn4 := HN4.out
      by_cases k3 : z = n4
      · rw [if_neg (fun q => q k3)] at hT2
        have c3i : ((z : Int) == (n4 : Int)) = true := by rw [k3]; simp
        have c3j : ((z : Int) != (n4 : Int)) = false := by rw [k3]; simp
        subst hT2
        have hk := hok rfl
        dsimp only at hk
        rw [if_neg (by simp)] at hrt
        dsimp only at hrt
        rw [hrt]
        have HK := hid hk
        have hdir : (dir : Int) ≤ 1196 := by omega
        have hcnt : (cnt : Int) ≤ 4 := by omega
        have hzb2 : (z : Int) ≤ 1196 := by omega
        clear k2 k3 h1 h2 hrt hok hk hz hn4
        refine calls_via fun K hK => ?_
        go_enter Tryz.func58, Tryz.ntmps58
        go_wp2_with fail
        refine (HW0.out w).mono ?_
        rintro e w1 ⟨rfl, q, hq⟩
        have F1 : Hid (Fr Nob w w1) := hid (by rw [hq]; exact Fr.of_drewN)
        clear hq
        go_wp2_with fail
        clear hzb hzb2 z1 c3i c3j
        go_loopg [8, 9] cnt (fun g ov iv wr => ∃ (k : Nat) (ad : Option Addr) (cap : Nat), iv = .int .i64 (k : Nat) ∧ g + k = cnt ∧ ov = .slice ad k cap ∧ (rowsR raw dir k).1 = 0 ∧ OwnG wr w.heap.size 126 6 ad k cap ((rowsR raw dir k).2.2.flatMap (rowV s)) ∧ Fr Nob w wr)
        case atStart => exact ⟨0, none, 0, rfl, by omega, rfl, rfl, OwnG.nil _ _ _ _, F1.out⟩
        case round =>
          obtain ⟨k, ad, cap, rfl, hg, rfl, hr0, hO, hF⟩ := hrel
          have HR0 := hid hr0
          have HO := hid hO
          have HF0 := hid hF
          have HG := hid hg
          by_cases hk : k < cnt
          · have hki : (k : Int) < cnt := by omega
            have hki4 : (k : Int) < 4 := by omega
            have hsu := rowsR_succ raw dir k
            rw [if_neg (fun q => q hr0)] at hsu
            have hst := fun h => rowsR_stop (raw := raw) (dir := dir) (k := k + 1) (n := cnt) h (by omega)
            -- the row, by letters
            obtain ⟨cell, hcell⟩ : ∃ z, z = dir + 2 * k := ⟨_, rfl⟩
            rw [← hcell] at hsu
            have ecell : (dir : Int) + 2 * (k : Int) = (cell : Int) := by omega
            have hdl : dir ≤ s.size := by have := HK.out.2; omega
            have hcl : cell + 2 ≤ s.size := by have := HK.out.2; omega
            obtain ⟨off, hoff⟩ : ∃ z, z = num2 (bytesOf s) cell := ⟨_, rfl⟩
            obtain ⟨n, hn⟩ : ∃ z, z = by_ (bytesOf s) off := ⟨_, rfl⟩
            obtain ⟨hd2, hhd⟩ : ∃ z, z = off + 1 + n := ⟨_, rfl⟩
            obtain ⟨sz, hsz⟩ : ∃ z, z = num2 (bytesOf s) hd2 := ⟨_, rfl⟩
            obtain ⟨lg, hlg⟩ : ∃ z, z = num2 (bytesOf s) (hd2 + 2) := ⟨_, rfl⟩
            obtain ⟨sm, hsm⟩ : ∃ z, z = num2 (bytesOf s) (hd2 + 4) := ⟨_, rfl⟩
            have hrow2 : rowAt (bytesOf s) cell = ⟨off, hd2, sz, sm, hd2 + 6 + lg⟩ := by unfold rowAt; simp only [← hoff, ← hn, ← hhd, ← hsz, ← hlg, ← hsm]
            have hsp2 : spotF (bytesOf s) dir cell = if dir ≤ off then (15, cell) else if dir < hd2 + 6 then (15, cell) else if dir < hd2 + 6 + lg then (15, cell) else if n = 0 ∨ 8 < n then (16, off) else if 256 < sz then (19, off) else if hd2 + 6 + 512 < hd2 + 6 + lg then (1, off) else (0, 0) := by
              unfold spotF; rw [hrow2]; simp only [← hoff, ← hn]
            rw [show spotF raw dir cell = spotF (bytesOf s) dir cell by rw [HRAW.out], show rowAt raw cell = rowAt (bytesOf s) cell by rw [HRAW.out], hrow2] at hsu
            obtain ⟨S, hS⟩ : ∃ z, z = spotF (bytesOf s) dir cell := ⟨_, rfl⟩
            rw [← hS] at hsp2 hsu
            have hwo := fun w => HWD.out cell hcl w
            rw [← hoff] at hwo
            have HWO := hid hwo
            have hn256 : n < 256 := by rw [hn]; exact byS_lt s off
            have HDD := hid (And.intro HS.out (And.intro hdl hn256))
            have HHD := hid hhd
            have HWX := hid (show (∀ (w : World), hd2 + 6 ≤ s.size → Calls Tryz.prog 74 #[.string s, .int .i64 (hd2 : Nat)] w fun e w' => e = .returned (.int .i64 (sz : Nat)) ∧ ∃ q, w' = w.drewN q) ∧ (∀ (w : World), hd2 + 6 ≤ s.size → Calls Tryz.prog 74 #[.string s, .int .i64 ((hd2 : Int) + 2)] w fun e w' => e = .returned (.int .i64 (lg : Nat)) ∧ ∃ q, w' = w.drewN q) ∧ (∀ (w : World), hd2 + 6 ≤ s.size → Calls Tryz.prog 74 #[.string s, .int .i64 ((hd2 : Int) + 4)] w fun e w' => e = .returned (.int .i64 (sm : Nat)) ∧ ∃ q, w' = w.drewN q) from ⟨fun w h => by have h9 := HWD.out hd2 (by omega) w; rw [← hsz] at h9; exact h9, fun w h => by have h9 := HWD.out (hd2 + 2) (by omega) w; rw [← hlg, Int.natCast_add] at h9; exact h9, fun w h => by have h9 := HWD.out (hd2 + 4) (by omega) w; rw [← hsm, Int.natCast_add] at h9; exact h9⟩)
            have hb := fun (h : off < s.size) => byteI s (k := off) h
            rw [← hn] at hb
            have HB := hid hb
            have hlgl : lg < 65536 := by rw [hlg]; unfold num2; have := byS_lt s (hd2 + 2); have := byS_lt s (hd2 + 2 + 1); omega
            have HLG := hid hlgl
            have HSU := hid hsu
            have HST := hid hst
            clear hsu hst hcell hdl hcl hoff hn hsz hlg hsm hhd hrow2 hS hwo hb hn256 hlgl hr0 hO hF hg hk
            go_wp2_with fail
            refine (HWO.out wr).mono ?_
            rintro e w3 ⟨rfl, q, hq⟩
            have F3 : Hid (Fr Nob w w3) := hid (by rw [hq]; exact HF0.out.drewN)
            have HO3 := hid (HO.out.fr (S := Nob) (w2 := w3) (by rw [hq]; exact Fr.of_drewN) (fun _ _ x => x))
            clear hq
            have HERR : Hid (∀ er pos, S = (er, pos) → er ≠ 0 → rowsR raw dir cnt = (er, pos, [])) := hid (fun er pos hs he => by
              have hsu := HSU.out
              rw [hs] at hsu
              dsimp only at hsu
              rw [if_pos he] at hsu
              rw [HST.out (by rw [hsu]; exact he), hsu])
            by_cases k1 : dir ≤ off
            · have k1i : (dir : Int) ≤ off := by omega
              rw [if_pos k1] at hsp2
              have he := HERR.out _ _ hsp2 (by decide)
              rw [he] at hK
              clear k1 hsp2 he
              go_wp2_with fail
              try go_ret3
              exact hK.out _ _ ⟨none, 0, rfl, OwnG.nil _ _ _ _, F3.out⟩
            · have k1i : ¬ (dir : Int) ≤ off := by omega
              rw [if_neg k1] at hsp2
              have hos : off < s.size := by have := HDD.out.2.1; omega
              have hb2 := HB.out hos
              have hosi : (off : Int) < s.size := by omega
              have hoi : (off : Int) < 1200 := by have := HDD.out.1; omega
              have hni : (n : Int) < 256 := by have := HDD.out.2.2; omega
              have e1 : (off : Int) + 1 + (n : Int) = (hd2 : Int) := by have := HHD.out; omega
              have hhi : (hd2 : Int) ≤ 1456 := by omega
              obtain ⟨fr, hfr⟩ : ∃ z, z = hd2 + 6 := ⟨_, rfl⟩
              have e2 : (hd2 : Int) + 6 = (fr : Int) := by omega
              rw [← hfr] at hsp2 HSU
              have en : IntKind.i64.wrap (n : Int) = n := wrapI (by omega) (by omega)
              by_cases k2 : dir < fr
              · have k2i : (dir : Int) < fr := by omega
                rw [if_pos k2] at hsp2
                have he := HERR.out _ _ hsp2 (by decide)
                rw [he] at hK
                clear k1 k2 hsp2 he hfr
                go_wp2_with fail
                try go_ret3
                exact hK.out _ _ ⟨none, 0, rfl, OwnG.nil _ _ _ _, F3.out⟩
              · have k2i : ¬ (dir : Int) < fr := by omega
                rw [if_neg k2] at hsp2
                have hh6 : hd2 + 6 ≤ s.size := by have := HDD.out; omega
                have HH6 := hid hh6
                obtain ⟨tot, hto⟩ : ∃ z, z = fr + lg := ⟨_, rfl⟩
                have e3 : (fr : Int) + (lg : Int) = (tot : Int) := by omega
                rw [← hto] at hsp2 HSU
                have HTO := hid hto
                have HFR := hid hfr
                have l1 : (off : Int) + 1 ≤ hd2 := by omega
                have l2 : (hd2 : Int) ≤ s.size := by omega
                have l3 : (0 : Int) ≤ (off : Int) + 1 := by omega
                have l4 : ((off : Int) + 1).toNat = off + 1 := by omega
                obtain ⟨nm, hnm⟩ : ∃ z, z = s.extract (off + 1) hd2 := ⟨_, rfl⟩
                have hmk := Mk.start w3 w3.heap.size rfl [.string ⟨#[]⟩, .int .i64 0, .int .i64 0, .int .i64 0, .int .i64 0, .int .i64 0] 126
                have f5 : Fr (UpN w3.heap.size) w3 (w3.alloc (Obj.cells #[.string ⟨#[]⟩, .int .i64 0, .int .i64 0, .int .i64 0, .int .i64 0, .int .i64 0] 126)) := (Fr.refl _ _).alloc _
                obtain ⟨w5, hw5⟩ : ∃ z, w3.alloc (Obj.cells #[.string ⟨#[]⟩, .int .i64 0, .int .i64 0, .int .i64 0, .int .i64 0, .int .i64 0] 126) = z := ⟨_, rfl⟩
                have hmk : Mk w5 w3.heap.size 6 (fun i => ([.string ⟨#[]⟩, .int .i64 0, .int .i64 0, .int .i64 0, .int .i64 0, .int .i64 0] : List Value).getD i undef) := by rw [← hw5]; exact hmk
                rw [hw5] at f5
                have o0 : w5.cell? ⟨w3.heap.size, 0, none⟩ = some (.string ⟨#[]⟩) := hmk.cells 0 (by decide)
                have o1 : w5.cell? ⟨w3.heap.size, 1, none⟩ = some (.int .i64 0) := hmk.cells 1 (by decide)
                have o2 : w5.cell? ⟨w3.heap.size, 2, none⟩ = some (.int .i64 0) := hmk.cells 2 (by decide)
                have o3 : w5.cell? ⟨w3.heap.size, 3, none⟩ = some (.int .i64 0) := hmk.cells 3 (by decide)
                have o4 : w5.cell? ⟨w3.heap.size, 4, none⟩ = some (.int .i64 0) := hmk.cells 4 (by decide)
                have o5 : w5.cell? ⟨w3.heap.size, 5, none⟩ = some (.int .i64 0) := hmk.cells 5 (by decide)
                have oz : ∀ i, w5.frozen? ⟨w3.heap.size, i, none⟩ = false := hmk.fz
                have HM := hid hmk
                have HF := hid f5
                have HNM := hid hnm
                have hUN : UpN w3.heap.size w3.heap.size := Nat.le_refl _
                clear k1 k2 hh6 hfr hto hmk f5
                go_wp2_with fail
                obtain ⟨N5, hN5⟩ : ∃ z, w3.heap.size = z := ⟨_, rfl⟩
                rw [hN5] at HM HF hUN ⊢
                have HN5 := hid hN5
                clear hN5 o0 o1 o2 o3 o4 o5 oz hw5
                obtain ⟨w6, hw⟩ : ∃ z, z = ((((((w5.setCell ⟨N5, 0, none⟩ (.string (s.extract (off + 1) hd2))).setCell ⟨N5, 1, none⟩ (.int .i64 0)).setCell ⟨N5, 2, none⟩ (.int .i64 0)).setCell ⟨N5, 3, none⟩ (.int .i64 (fr : Nat))).setCell ⟨N5, 4, none⟩ (.int .i64 0)).setCell ⟨N5, 5, none⟩ (.int .i64 (off : Nat))) := ⟨_, rfl⟩
                rw [← hw]
                have HM : Hid (CellsAt w6 N5 [.string (s.extract (off + 1) hd2), .int .i64 0, .int .i64 0, .int .i64 (fr : Nat), .int .i64 0, .int .i64 (off : Nat)]) := hid (by rw [hw]; exact ((((((HM.out.cellsAt.set 0 (by simp) _).set 1 (by simp) _).set 2 (by simp) _).set 3 (by simp) _).set 4 (by simp) _).set 5 (by simp) _))
                have HF : Hid (Fr (UpN N5) w3 w6) := hid (by rw [hw]; exact ((((((HF.out.setS hUN 0 _).setS hUN 1 _).setS hUN 2 _).setS hUN 3 _).setS hUN 4 _).setS hUN 5 _))
                clear hw
                refine (HWX.out.1 _ HH6.out).mono ?_
                rintro e w7 ⟨rfl, q, hq⟩
                have HM := hid (HM.out.fr (S := Nob) (w2 := w7) (by rw [hq]; exact Fr.of_drewN) (fun x => x) (by simp))
                have HF : Hid (Fr (UpN N5) w3 w7) := hid (by rw [hq]; exact HF.out.drewN)
                clear hq
                have o1 : w7.cell? ⟨N5, 1, none⟩ = some (.int .i64 0) := HM.out.c 1 _ rfl
                have oz : ∀ i, w7.frozen? ⟨N5, i, none⟩ = false := HM.out.fz
                go_upto_region 26 with fail
                obtain ⟨w8, hw⟩ : ∃ z, z = (w7.setCell ⟨N5, 1, none⟩ (.int .i64 (sz : Nat))) := ⟨_, rfl⟩
                rw [← hw]
                have HM : Hid (CellsAt w8 N5 [.string (s.extract (off + 1) hd2), .int .i64 (sz : Nat), .int .i64 0, .int .i64 (fr : Nat), .int .i64 0, .int .i64 (off : Nat)]) := hid (by rw [hw]; exact HM.out.set 1 (by simp) _)
                have HF : Hid (Fr (UpN N5) w3 w8) := hid (by rw [hw]; exact HF.out.setS hUN 1 _)
                clear hw o1 oz
                have HSP := hid hsp2
                have htb : (tot : Int) ≤ 70000 := by have := HTO.out; have := HFR.out; have := HLG.out; omega
                have e5 : (hd2 : Int) + 6 + (lg : Int) = (tot : Int) := by omega
                have hhb : (0 : Int) ≤ (hd2 : Int) := by omega
                have H90 := hid (show off < s.size ∧ n < 256 from ⟨by omega, by omega⟩)
                clear hsp2 hn4 p3 p0 b2 hs1 hs2 hs4 hs3 g1 g2 g3 g4 g5 b1 hxi hos hb2 hosi hoi hni e1 en l1 l2 l3 l4 hnm k1i k2i c0i c1i e5
                have ew1 : IntKind.i64.wrap ((hd2 : Int) + 2) = (hd2 : Int) + 2 := wrapI (by omega) (by omega)
                have ew2 : IntKind.i64.wrap (tot : Int) = (tot : Int) := wrapI (by omega) (by omega)
                have HCL := hid (show ∀ wx, Fr Nob w8 wx → Calls Tryz.prog 74 #[.string s, .int .i64 ((hd2 : Int) + 2)] wx fun e w' => e = .returned (.int .i64 (lg : Nat)) ∧ Fr Nob w8 w' ∧ CellsAt w' N5 [.string (s.extract (off + 1) hd2), .int .i64 (sz : Nat), .int .i64 0, .int .i64 (fr : Nat), .int .i64 0, .int .i64 (off : Nat)] from fun wx hx => (HWX.out.2.1 wx HH6.out).mono fun e w' h => by
                  obtain ⟨h1, q, h2⟩ := h
                  have h3 : Fr Nob w8 w' := by rw [h2]; exact hx.drewN
                  exact ⟨h1, h3, HM.out.fr h3 (fun x => x) (by simp)⟩)
                have o3 : w8.cell? ⟨N5, 3, none⟩ = some (.int .i64 (fr : Nat)) := HM.out.c 3 _ rfl
                have o4 : w8.cell? ⟨N5, 4, none⟩ = some (.int .i64 0) := HM.out.c 4 _ rfl
                have oz : ∀ i, w8.frozen? ⟨N5, i, none⟩ = false := HM.out.fz
                go_cut [] (fun wx => CellsAt wx N5 [.string (s.extract (off + 1) hd2), .int .i64 (sz : Nat), .int .i64 0, .int .i64 (fr : Nat), .int .i64 (tot : Nat), .int .i64 (off : Nat)] ∧ Fr (UpN N5) w3 wx)
                case first =>
                  go_region_with (go_at_call 74; refine (HCL.out _ (by first | exact Fr.refl _ _ | exact (Fr.refl _ _).drew | exact Fr.of_drewN)).mono ?_; rintro e w9 ⟨rfl, hf9, hc9⟩; have HF9 := hid hf9; have HC9 := hid hc9; have p3 : w9.cell? ⟨N5, 3, none⟩ = some (.int .i64 (fr : Nat)) := HC9.out.c 3 _ rfl; have p4 : w9.cell? ⟨N5, 4, none⟩ = some (.int .i64 0) := HC9.out.c 4 _ rfl; have pz : ∀ i, w9.frozen? ⟨N5, i, none⟩ = false := HC9.out.fz; clear hf9 hc9)
                  all_goals (go_wp2_with fail; go_meet)
                  all_goals exact ⟨HC9.out.set 4 (by simp) _, (HF.out.trans (HF9.out.mono (fun x hx _ => hx.elim))).setS hUN 4 _⟩
                case rest =>
                obtain ⟨hc, hf⟩ := hcut
                obtain ⟨w10, hw⟩ : ∃ z, z = wc := ⟨_, rfl⟩
                rw [← hw] at hc hf ⊢
                have HM := hid hc
                have HF := hid hf
                clear hw hc hf o3 o4 oz ew1 ew2 e3
                go_wp2_with fail
                refine (HWX.out.2.2 _ HH6.out).mono ?_
                rintro e w11 ⟨rfl, q, hq⟩
                have HM := hid (HM.out.fr (S := Nob) (w2 := w11) (by rw [hq]; exact Fr.of_drewN) (fun x => x) (by simp))
                have HF : Hid (Fr (UpN N5) w3 w11) := hid (by rw [hq]; exact HF.out.drewN)
                clear hq
                have o0 : w11.cell? ⟨N5, 0, none⟩ = some (.string (s.extract (off + 1) hd2)) := HM.out.c 0 _ rfl
                have o1 : w11.cell? ⟨N5, 1, none⟩ = some (.int .i64 (sz : Nat)) := HM.out.c 1 _ rfl
                have o2 : w11.cell? ⟨N5, 2, none⟩ = some (.int .i64 0) := HM.out.c 2 _ rfl
                have o3 : w11.cell? ⟨N5, 3, none⟩ = some (.int .i64 (fr : Nat)) := HM.out.c 3 _ rfl
                have o4 : w11.cell? ⟨N5, 4, none⟩ = some (.int .i64 (tot : Nat)) := HM.out.c 4 _ rfl
                have o5 : w11.cell? ⟨N5, 5, none⟩ = some (.int .i64 (off : Nat)) := HM.out.c 5 _ rfl
                have oz : ∀ i, w11.frozen? ⟨N5, i, none⟩ = false := HM.out.fz
                have hFin : Hid (Fr Nob w (w11.setCell ⟨N5, 2, none⟩ (.int .i64 (sm : Nat)))) := hid (F3.out.trans2 (HF.out.setS hUN 2 _) (fun x hx hl => by have h1 := HN5.out; have h2 := F3.out.size; have : N5 ≤ x := hx; omega))
                by_cases k3 : dir < tot
                · have k3i : (dir : Int) < tot := by omega
                  have he := HERR.out _ _ (by rw [HSP.out, if_pos k3]) (by decide)
                  rw [he] at hK
                  clear k3 he
                  go_wp2_with fail
                  try go_ret3
                  exact hK.out _ _ ⟨none, 0, rfl, OwnG.nil _ _ _ _, hFin.out⟩
                · have k3i : ¬ (dir : Int) < tot := by omega
                  have HSP2 := hid (HSP.out.trans (if_neg k3))
                  clear k3
                  have hti : (tot : Int) ≤ 1200 := by omega
                  clear htb
                  by_cases k4 : n = 0
                  · have k4i : ((n : Int) == 0) = true := by rw [k4]; rfl
                    have he := HERR.out _ _ (by rw [HSP2.out, if_pos (Or.inl k4)]) (by decide)
                    rw [he] at hK
                    clear k4 he
                    go_wp2_with fail
                    try go_ret3
                    exact hK.out _ _ ⟨none, 0, rfl, OwnG.nil _ _ _ _, hFin.out⟩
                  · have k4i : ((n : Int) == 0) = false := beq_eq_false_iff_ne.2 (by omega)
                    by_cases k5 : 8 < n
                    · have k5i : (8 : Int) < n := by omega
                      have he := HERR.out _ _ (by rw [HSP2.out, if_pos (Or.inr k5)]) (by decide)
                      rw [he] at hK
                      clear k4 k5 he
                      go_wp2_with fail
                      try go_ret3
                      exact hK.out _ _ ⟨none, 0, rfl, OwnG.nil _ _ _ _, hFin.out⟩
                    · have k5i : ¬ (8 : Int) < n := by omega
                      have HSP3 := hid (HSP2.out.trans (if_neg (by omega)))
                      clear k4 k5
                      by_cases k6 : 256 < sz
                      · have k6i : (256 : Int) < sz := by omega
                        have he := HERR.out _ _ (by rw [HSP3.out, if_pos k6]) (by decide)
                        rw [he] at hK
                        clear k6 he
                        go_wp2_with fail
                        try go_ret3
                        exact hK.out _ _ ⟨none, 0, rfl, OwnG.nil _ _ _ _, hFin.out⟩
                      · have k6i : ¬ (256 : Int) < sz := by omega
                        have HSP4 := hid (HSP3.out.trans (if_neg k6))
                        clear k6
                        by_cases k7 : fr + 512 < tot
                        · have k7i : (512 : Int) < (tot : Int) - (fr : Int) := by omega
                          have he := HERR.out _ _ (by rw [HSP4.out, if_pos k7]) (by decide)
                          rw [he] at hK
                          clear k7 he
                          go_wp2_with fail
                          try go_ret3
                          exact hK.out _ _ ⟨none, 0, rfl, OwnG.nil _ _ _ _, hFin.out⟩
                        · have k7i : ¬ (512 : Int) < (tot : Int) - (fr : Int) := by omega
                          have hS := HSP4.out.trans (if_neg k7)
                          have HSUC : Hid (rowsR raw dir (k + 1) = (0, 0, (rowsR raw dir k).2.2 ++ [⟨off, hd2, sz, sm, tot⟩])) := hid (by rw [HSU.out, hS]; rfl)
                          clear k7 hS
                          go_upto_region 36 with fail
                          obtain ⟨w12, hw⟩ : ∃ z, z = (w11.setCell ⟨N5, 2, none⟩ (.int .i64 (sm : Nat))) := ⟨_, rfl⟩
                          rw [← hw] at hFin ⊢
                          have HM : Hid (CellsAt w12 N5 [.string (s.extract (off + 1) hd2), .int .i64 (sz : Nat), .int .i64 (sm : Nat), .int .i64 (fr : Nat), .int .i64 (tot : Nat), .int .i64 (off : Nat)]) := hid (by rw [hw]; exact HM.out.set 2 (by simp) _)
                          have HO12 := hid (HO3.out.fr (S := UpN N5) (w2 := w12) (by rw [hw]; exact HF.out.setS hUN 2 _) (fun g hg q => by have h1 := HO3.out.lt hg; have h2 := HN5.out; have : N5 ≤ g := q; omega))
                          clear hw o0 o1 o2 o3 o4 o5 oz
                          have o0 := HM.out.c 0 _ rfl
                          have o1 := HM.out.c 1 _ rfl
                          have o2 := HM.out.c 2 _ rfl
                          have o3 := HM.out.c 3 _ rfl
                          have o4 := HM.out.c 4 _ rfl
                          have o5 := HM.out.c 5 _ rfl
                          obtain ⟨N6, hN6⟩ : ∃ z, w12.heap.size = z := ⟨_, rfl⟩
                          have hA := (Fr.refl Nob w12).alloc (Obj.cells #[.string (s.extract (off + 1) hd2), .int .i64 (sz : Nat), .int .i64 (sm : Nat), .int .i64 (fr : Nat), .int .i64 (tot : Nat), .int .i64 (off : Nat)] 126)
                          have HC : Hid (CellsAt (w12.alloc (Obj.cells #[.string (s.extract (off + 1) hd2), .int .i64 (sz : Nat), .int .i64 (sm : Nat), .int .i64 (fr : Nat), .int .i64 (tot : Nat), .int .i64 (off : Nat)] 126)) N6 [.string (s.extract (off + 1) hd2), .int .i64 (sz : Nat), .int .i64 (sm : Nat), .int .i64 (fr : Nat), .int .i64 (tot : Nat), .int .i64 (off : Nat)]) := hid (by have h9 := CellsAt.mk_alloc w12 [.string (s.extract (off + 1) hd2), .int .i64 (sz : Nat), .int .i64 (sm : Nat), .int .i64 (fr : Nat), .int .i64 (tot : Nat), .int .i64 (off : Nat)] 126; rw [hN6] at h9; exact h9)
                          have HA := hid hA
                          have HB : Hid (w.heap.size ≤ (w12.alloc (Obj.cells #[.string (s.extract (off + 1) hd2), .int .i64 (sz : Nat), .int .i64 (sm : Nat), .int .i64 (fr : Nat), .int .i64 (tot : Nat), .int .i64 (off : Nat)] 126)).heap.size) := hid (by have h1 := hFin.out.size; have h2 := hA.size; omega)
                          have hk9 : k ≤ 1000000 := by omega
                          clear hA k3i k4i k5i k6i k7i
                          go_wp2_with (at_builtin; refine wp_appG rfl _ _ 122 126 6 56 _ rfl und122 Tryz.info126 zer126 (by decide) (by decide) w.heap.size ad k cap _ [.string (s.extract (off + 1) hd2), .int .i64 (sz : Nat), .int .i64 (sm : Nat), .int .i64 (fr : Nat), .int .i64 (tot : Nat), .int .i64 (off : Nat)] rfl (HO12.out.fr HA.out (fun _ _ x => x)) N6 1 rfl rfl HC.out.c (by simp [Value.oneCell']) hk9 HB.out ?_; intro ad2 cap2 w13 ho13 hf13 hd13; have HO13 := hid ho13; have HF13 := hid hf13; clear ho13 hf13 hd13)
                          go_roundg (gk - 1)
                          case measure => have := HG.out; omega
                          case rel =>
                            refine ⟨k + 1, ad2, cap2, by simp, by have := HG.out; omega, rfl, by rw [HSUC.out], ?_, ?_⟩
                            · have h9 := HO13.out
                              rw [HSUC.out]
                              dsimp only
                              rw [List.flatMap_append]
                              have e9 : List.flatMap (rowV s) [(⟨off, hd2, sz, sm, tot⟩ : RowP)] = [.string (s.extract (off + 1) hd2), .int .i64 (sz : Nat), .int .i64 (sm : Nat), .int .i64 (fr : Nat), .int .i64 (tot : Nat), .int .i64 (off : Nat)] := by
                                rw [HFR.out]; rfl
                              rw [e9]; exact h9
                            · exact (hFin.out.trans HA.out).trans2 HF13.out (fun x hx hl => by
                                have h1 : obk ad = some x := hx
                                have h2 := HO3.out.lt h1
                                omega)
          · have hki : ¬ (k : Int) < cnt := by omega
            have hkc : k = cnt := by omega
            subst hkc
            have hr := rowsR_ok raw dir (by rw [HRAW.out, bytesOf_len]; have := HK.out.2; omega) k hr0
            rw [hr0, hr.1, hr.2.1] at hK
            clear hr0 hO hF hg hk hr
            go_wp2_with fail
            try go_ret3
            exact hK.out _ _ ⟨_, _, rfl, HO.out, HF0.out⟩
      · rw [if_pos k3] at hT2
        have c3k : ¬ (z : Int) = n4 := fun q => k3 (Int.ofNat.inj q)
        have c3i : ((z : Int) == (n4 : Int)) = false := beq_eq_false_iff_ne.2 c3k
        have c3j : ((z : Int) != (n4 : Int)) = true := by rw [bne, c3i]; rfl
        subst hT2
        rw [if_pos (by simp)] at hrt
        rw [hrt]
        clear k2 k3 h1 h2 hrt hok hz hn4 c3k
        refine calls_via fun K hK => ?_
        go_enter Tryz.func58, Tryz.ntmps58
        go_wp2_with fail
        refine (HW0.out w).mono ?_
        rintro e w1 ⟨rfl, q, hq⟩
        have F1 : Hid (Fr Nob w w1) := hid (by rw [hq]; exact Fr.of_drewN)
        clear hq
        go_wp2_with fail
        try go_ret3
        exact hK.out _ _ ⟨none, 0, rfl, OwnG.nil _ _ _ _, F1.out⟩
  · have k1i : ((x : Int) == 90) = false := beq_eq_false_iff_ne.2 (by omega)
    have k1k : ¬ (x : Int) = 90 := by omega
    have k1j : ((x : Int) != 90) = true := by rw [bne, k1i]; rfl
    rw [if_pos (Or.inr k1)] at hT2
    subst hT2
    rw [if_pos (by decide)] at hrt
    rw [hrt]
    clear h1 h2 k1 hrt hok
    refine calls_via fun K hK => ?_
    go_enter Tryz.func58, Tryz.ntmps58
    go_wp2_with fail
    try go_ret3
    exact hK.out _ _ ⟨none, 0, rfl, OwnG.nil _ _ _ _, Fr.refl _ _⟩
end Go.Proofs.Qxb6500353aGreat
