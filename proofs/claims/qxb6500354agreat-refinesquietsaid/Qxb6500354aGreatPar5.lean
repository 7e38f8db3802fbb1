/- THE WALKS over cnf: Parse. -/
import Derived.Test.Qxb6500354aGreatPar4
import Derived.Deep.RegionHeld3
namespace Go.Proofs.Qxb6500354aGreat
open Go.RowKit
set_option linter.unusedVariables false
set_option linter.unusedSimpArgs false

def bytesOf (s : ByteArray) : List Nat := s.data.toList.map UInt8.toNat
theorem bytesOf_len (s : ByteArray) : (bytesOf s).length = s.size := by simp [bytesOf]
theorem bytesOf_drop (s : ByteArray) {k : Nat} (h : k < s.size) : (bytesOf s).drop k = (s[k]'h).toNat :: (bytesOf s).drop (k + 1) := by
  have h2 : k < (bytesOf s).length := by rw [bytesOf_len]; exact h
  rw [List.drop_eq_getElem_cons h2]
  congr 1
  simp [bytesOf]; rfl
theorem feedAll_cons (c : Nat) (r : List Nat) (i : Nat) (p : ParS) : feedAll (c :: r) i p = if p.err = 0 then feedAll r (i + 1) (p.feed c i) else p := rfl
theorem feedAll_err : ∀ (l : List Nat) (i : Nat) (p : ParS), p.err ≠ 0 → feedAll l i p = p := by
  intro l
  cases l with
  | nil => intro i p _; rfl
  | cons c r => intro i p h; rw [feedAll_cons, if_neg h]

/-- The end of Parse: what the machine has come to is handed out. -/
structure ParOut (w w' : World) (b : Nat) (av : Value) (r : ParsedS) (v : Value) : Prop where
  own : OwnI w' w.heap.size v r.flat
  tight : TightV v r.flat.length
  par : ∃ av', ParAt w' b .idle av' ∧ Nx w av av' ∧ ∀ g, v.ownBlock = some g → av'.ownBlock ≠ some g
  fr : Fr (b :: blk av) w w'

set_option maxRecDepth 100000 in
set_option maxHeartbeats 8000000 in
theorem parse_any {w : World} {b : Nat} {av : Value} {P0 : ParS} (h : ParAt w b P0 av) (s : ByteArray) (hs : s.size ≤ maxLen) :
    Calls Tryz.prog 42 #[.pointer (some ⟨b, 0, none⟩), .string s] w fun e w' => ∃ v, e = .returned (.agg #[.int .i64 ((parseF (bytesOf s)).err : Nat), .int .i64 ((parseF (bytesOf s)).pos : Nat), v]) ∧ ParAt w b P0 av ∧
      (1048576 < s.size ∧ v = .slice none 0 0 ∧ ParAt w' b P0 av ∧ Fr [] w w' ∨ ParOut w w' b av (parseF (bytesOf s)) v) := by
  unfold maxLen at hs
  have hpf : parseF (bytesOf s) = if 1048576 < s.size then ⟨1, 0, []⟩ else
      (let p2 := if (feedAll (bytesOf s) 0 .idle).err = 0 then (feedAll (bytesOf s) 0 .idle).feed 32 s.size else feedAll (bytesOf s) 0 .idle
       let p3 := if p2.err = 0 ∧ p2.opn = true then p2.fail 5 s.size else p2
       ⟨p3.err, p3.at_, if p3.err = 0 then p3.arena else []⟩) := by unfold parseF; rw [bytesOf_len]
  obtain ⟨res, hres⟩ : ∃ r, parseF (bytesOf s) = r := ⟨_, rfl⟩
  rw [hres] at hpf ⊢
  have HH := hid h
  obtain ⟨N, hN⟩ : ∃ N, w.heap.size = N := ⟨_, rfl⟩
  have hC0 := CellsAt.mk_alloc w [.int .i64 0, .int .i64 0, .slice none 0 0] 86
  obtain ⟨w0, hw0⟩ : ∃ w0, w.alloc (Obj.cells #[.int .i64 0, .int .i64 0, .slice none 0 0] 86) = w0 := ⟨_, rfl⟩
  change CellsAt (w.alloc (Obj.cells #[.int .i64 0, .int .i64 0, .slice none 0 0] 86)) w.heap.size _ at hC0
  rw [hw0, hN] at hC0
  have hf0 : Fr [] w w0 := by rw [← hw0]; exact (Fr.refl _ _).alloc _
  have hs0 : w0.heap.size = N + 1 := by rw [← hw0]; simp [hN]
  have hbN : b < N := by rw [← hN]; exact h.at_.lt
  have HC0 := hid hC0
  have HF0 := hid hf0
  have HS0 := hid hs0
  have HN := hid hN
  have HBN := hid hbN
  have HW0 := hid hw0
  have HNS : Hid (¬ N < w.heap.size) := by show ¬ _; rw [hN]; omega
  clear hC0 hf0 hs0 hbN h
  by_cases hbig : 1048576 < s.size
  · rw [if_pos hbig] at hpf
    have hbi : (1048576 : Int) < s.size := by omega
    have c0 := HC0.out.c 0 _ rfl
    have c1 := HC0.out.c 1 _ rfl
    have c2 := HC0.out.c 2 _ rfl
    have fz := HC0.out.fz
    have HP := hid hpf
    have HBIG := hid hbig
    clear hpf hbig hres
    refine calls_via fun K hK => ?_
    go_enter Tryz.func42, Tryz.ntmps42
    go_wp2_with fail
    try simp only [Exit.inBlock, Exit.then]
    refine bodyPost_ret (v := .agg #[.int .i64 1, .int .i64 0, .slice none 0 0]) (by simp [results, Tryz.results42, go_sem, cellSet, c0, c1, c2]) rfl ?_
    have hff : Fr [] w (((w0.setCell ⟨N, 0, none⟩ (.int .i64 1)).setCell ⟨N, 1, none⟩ (.int .i64 0)).setCell ⟨N, 2, none⟩ (.slice none 0 0)) :=
      ((HF0.out.set (fun q => absurd q HNS.out) _).set (fun q => absurd q HNS.out) _).set (fun q => absurd q HNS.out) _
    refine hK.out _ _ ⟨.slice none 0 0, by rw [HP.out]; rfl, HH.out, .inl ⟨HBIG.out, rfl, HH.out.fr hff (by simp) (by simp), hff⟩⟩
  · rw [if_neg hbig] at hpf
    have hbi : ¬ (1048576 : Int) < s.size := by omega
    have hsz : s.size ≤ 1048576 := by omega
    obtain ⟨n, hn⟩ : ∃ n, s.size = n := ⟨_, rfl⟩
    obtain ⟨Q, hQ⟩ : ∃ Q, feedAll (bytesOf s) 0 .idle = Q := ⟨_, rfl⟩
    rw [hQ] at hpf
    have HP := hid hpf
    have HQ := hid hQ
    have HR := hid (prest_any (HH.out.fr HF0.out (by simp) (by simp)))
    clear hpf hbig hres hn n hQ
    refine calls_via fun K hK => ?_
    go_enter Tryz.func42, Tryz.ntmps42
    go_wp2_with fail
    refine HR.out.mono ?_
    rintro e w1 ⟨rfl, av1, hp1, he1, hf1⟩
    have HP1 := hid hp1
    have hfw1 : Fr [b] w w1 := (HF0.out.mono (by simp)).trans hf1
    have HFW1 := hid hfw1
    have HE1 := hid he1
    have HAV1 : Hid (∀ g, av1.ownBlock = some g → g < N) := fun g hg => by rw [← hN]; exact HH.out.own.lt g (by rw [← he1]; exact hg)
    have hcc := HC0.out.fr hf1 (by have := HBN.out; simp; omega) (by simp)
    have HC1 := hid hcc
    have HNX1 : Hid (Nx w av av1) := fun g hg => .inl (by rw [← he1]; exact hg)
    have HSZ1 : Hid (N + 1 ≤ w1.heap.size) := by show _ ≤ _; have := hf1.size; rw [HS0.out] at this; exact this
    clear hp1 hfw1 he1 hf1 hcc hw0 hN
    go_wp2_with fail
    go_loopg [5] s.size (fun g i wr => ∃ P av2, g ≤ s.size ∧ i = .int .i64 ((s.size - g : Nat) : Int) ∧ ParAt wr b P av2 ∧ Nx w1 av1 av2 ∧ Fr (b :: blk av1) w1 wr ∧ Q = feedAll ((bytesOf s).drop (s.size - g)) (s.size - g) P ∧ PK P (26 * (s.size - g)))
    case atStart => exact ⟨.idle, av1, by omega, by simp, HP1.out, Nx.refl _ _, Fr.refl _ _, by simp [HQ.out], ⟨by simp [ParS.idle], by simp [ParS.idle], by simp [ParS.idle]⟩⟩
    case round =>
      obtain ⟨P, av2, hg, rfl, hp, hnx, hf, he, hpk⟩ := hrel
      have h9 := hp.at_.err
      change wr.cell? ⟨b, 9, none⟩ = some (.int .i64 (P.err : Nat)) at h9
      have h10 := hp.at_.at_
      change wr.cell? ⟨b, 10, none⟩ = some (.int .i64 (P.at_ : Nat)) at h10
      have h8 := hp.at_.opn
      change wr.cell? ⟨b, 8, none⟩ = some (.bool P.opn) at h8
      have h0 := hp.at_.arena
      change wr.cell? ⟨b, 0, none⟩ = some av2 at h0
      have hfz := hp.at_.froz
      have HLEB : Hid (P.arena.length ≤ 26 * s.size) := Nat.le_trans hpk.ar (by omega)
      by_cases herr : P.err = 0
      · have hb1 : ((P.err : Int) == 0) = true := by simp [herr]
        rw [herr] at h9
        change wr.cell? ⟨b, 9, none⟩ = some (.int .i64 0) at h9
        have HPP := hid hp
        have HNX := hid hnx
        have HF := hid hf
        have HPK := hid hpk
        have HG := hid hg
        by_cases hlt : 0 < gk
        · obtain ⟨k, hk⟩ : ∃ k, s.size - gk = k := ⟨_, rfl⟩
          rw [hk] at he ⊢
          have hks : k < s.size := by omega
          have hlt2 : (k : Int) < s.size := by omega
          have hlt3 : (0 : Int) ≤ k := by omega
          rw [bytesOf_drop s hks, feedAll_cons, if_pos herr] at he
          obtain ⟨c, hc⟩ : ∃ c, (s[k]'hks).toNat = c := ⟨_, rfl⟩
          rw [hc] at he
          have hc256 : c < 256 := by rw [← hc]; exact UInt8.toNat_lt _
          have HFD := hid (feed_any hp c k hc256 (by omega) ⟨by have := hpk.ar; omega, hpk.val, hpk.st⟩)
          have HE := hid he
          have HK0 := hid hk
          have HKS := hid hks
          have HLT := hid hlt
          clear hp hnx hf he hpk herr hlt hg hk hc256
          go_wp2_with fail
          refine HFD.out.mono ?_
          rintro e w3 ⟨rfl, av3, hp3, hn3, hf3⟩
          go_wp2_with fail
          go_roundg (gk - 1)
          case measure => have := HLT.out; omega
          case rel =>
            have hk := HK0.out
            have hks := HKS.out
            have hlt := HLT.out
            have hg := HG.out
            have e1 : s.size - (gk - 1) = k + 1 := by omega
            refine ⟨P.feed c k, av3, by omega, by rw [e1]; simp, hp3, HNX.out.trans hn3 HF.out.size, par_fr HF.out HNX.out hf3, by rw [e1]; exact HE.out, ?_⟩
            rw [e1]
            have h1 := feed_pk HPK.out c k
            exact ⟨by have := h1.ar; omega, h1.val, h1.st⟩
        · have hg0 : gk = 0 := by omega
          subst hg0
          rw [Nat.sub_zero, List.drop_of_length_le (by rw [bytesOf_len]; exact Nat.le_refl _)] at he
          have hQP : Q = P := he
          obtain ⟨P2, hP2⟩ : ∃ x, P.feed 32 s.size = x := ⟨_, rfl⟩
          have hpk2 := feed_pk hpk 32 s.size
          have HFD := hid (feed_any hp 32 s.size (by omega) (by omega) ⟨by have := hpk.ar; omega, hpk.val, hpk.st⟩)
          rw [hP2] at hpk2 HFD
          simp only [show ((32 : Nat) : Int) = 32 from rfl] at HFD
          have hres2 := HP.out
          rw [hQP, if_pos herr, hP2] at hres2
          have HRES2 := hid hres2
          have HLE : Hid (P2.arena.length ≤ 1099511627776) := by show _ ≤ _; have := hpk2.ar; omega
          clear hp hnx hf he hpk herr hlt hg hQP hP2 hpk2 hres2
          go_wp2_with fail
          refine HFD.out.mono ?_
          rintro e w3 ⟨rfl, av3, hp3, hn3, hf3⟩
          clear h9 h10 h8 h0 hfz
          have h9 := hp3.at_.err
          change w3.cell? ⟨b, 9, none⟩ = some (.int .i64 (P2.err : Nat)) at h9
          have h10 := hp3.at_.at_
          change w3.cell? ⟨b, 10, none⟩ = some (.int .i64 (P2.at_ : Nat)) at h10
          have h8 := hp3.at_.opn
          change w3.cell? ⟨b, 8, none⟩ = some (.bool P2.opn) at h8
          have h0 := hp3.at_.arena
          change w3.cell? ⟨b, 0, none⟩ = some av3 at h0
          have hfz := hp3.at_.froz
          have HP3 := hid hp3
          have HNX3 : Hid (Nx w1 av1 av3) := HNX.out.trans hn3 HF.out.size
          have HF3 : Hid (Fr (b :: blk av1) w1 w3) := par_fr HF.out HNX.out hf3
          clear hp3 hn3 hf3
          by_cases herr : P2.err = 0
          · have HERR0 := hid herr
            rw [herr] at h9
            change w3.cell? ⟨b, 9, none⟩ = some (.int .i64 0) at h9
            cases hop : P2.opn with
            | true =>
              rw [hop] at h8
              have HQP : Hid (res = ⟨5, s.size, []⟩) := by
                show _ = _
                rw [HRES2.out]; simp only [herr, hop, true_and, if_true, ParS.fail]
                simp
              have HFL := hid (pfail_any HP3.out 5 s.size)
              simp only [show ((5 : Nat) : Int) = 5 from rfl] at HFL
              obtain ⟨P4, hP4⟩ : ∃ x, P2.fail 5 s.size = x := ⟨_, rfl⟩
              have hP4e : P4.err = 5 ∧ P4.at_ = s.size := by rw [← hP4]; exact ⟨rfl, rfl⟩
              rw [hP4] at HFL
              have HP4E := hid hP4e
              have HQ4 : Hid (res = ⟨P4.err, P4.at_, []⟩) := by show _ = _; rw [hP4e.1, hP4e.2]; exact HQP.out
              have hb4 : ((P4.err : Int) == 0) = false := by rw [hP4e.1]; rfl
              clear herr hop hP4 hP4e
              go_wp2_with fail
              refine HFL.out.mono ?_
              rintro e w4 ⟨rfl, hp4, hf4⟩
              clear h9 h10 h8 h0 hfz
              have h9 := hp4.at_.err
              change w4.cell? ⟨b, 9, none⟩ = some (.int .i64 (P4.err : Nat)) at h9
              have h10 := hp4.at_.at_
              change w4.cell? ⟨b, 10, none⟩ = some (.int .i64 (P4.at_ : Nat)) at h10
              have h8 := trivial
              have h0 := trivial
              have hfz := hp4.at_.froz
              have HP4 := hid hp4
              have HF4 : Hid (Fr (b :: blk av1) w1 w4) := HF3.out.trans (hf4.mono (by simp))
              clear hp4 hf4
              go_wp2_with fail
              have HFRX : Hid (Fr (b :: blk av1) w1 w4) := HF4.out
              have HNXX : Hid (Nx w1 av1 av3) := HNX3.out
              have HAVX : Hid (∀ g, av3.ownBlock = some g → g ≠ N ∧ g < w4.heap.size) := fun g hg => ⟨by rcases HNXX.out g hg with e | e; exact Nat.ne_of_lt (HAV1.out g e); have := HSZ1.out; omega, HP4.out.own.lt g hg⟩
              have HRSX := hid (fun w h => prest_any (w := w) (b := b) (P := P4) (av := av3) h)
              go_region_held3 (fun w' => w'.cell? ⟨b, 9, none⟩ = some (.int .i64 (P4.err : Nat)) ∧ w'.cell? ⟨b, 10, none⟩ = some (.int .i64 (P4.at_ : Nat))) (go_keep) (fail)
              obtain ⟨M, hM⟩ : ∃ M, w4.heap.size = M := ⟨_, rfl⟩
              have hCA := CellsAt.mk_alloc w4 [.int .i64 (P4.err : Nat), .int .i64 (P4.at_ : Nat), .slice none 0 0] 86
              obtain ⟨wa, hwa⟩ : ∃ x, (w4.alloc (Obj.cells #[.int .i64 (P4.err : Nat), .int .i64 (P4.at_ : Nat), .slice none 0 0] 86)).drew = x := ⟨_, rfl⟩
              have hca : CellsAt wa M [.int .i64 (P4.err : Nat), .int .i64 (P4.at_ : Nat), .slice none 0 0] := by rw [← hwa, ← hM]; exact ⟨hCA.c, hCA.fz⟩
              have hfa : Fr [] w4 wa := by rw [← hwa]; exact ((Fr.refl _ _).alloc _).drew
              have hsa : wa.heap.size = M + 1 := by rw [← hwa, ← hM]; simp
              have hpa := HP4.out.fr hfa (by simp) (by simp)
              have hMN : N < M := by rw [← hM]; exact Nat.lt_of_lt_of_le (by have := HSZ1.out; omega) HFRX.out.size
              have HAVM : Hid (∀ g, av3.ownBlock = some g → g < M) := fun g hg => by rw [← hM]; exact (HAVX.out g hg).2
              rw [hM, hwa]
              clear h9 h10 h8 h0 hfz hCA hwa hM
              have hbM : ¬ b = M := by have := HBN.out; omega
              have hbN : ¬ b = N := by have := HBN.out; omega
              have h9 := hpa.at_.err
              change wa.cell? ⟨b, 9, none⟩ = some (.int .i64 (P4.err : Nat)) at h9
              have hcN := (HC1.out.fr HFRX.out (by intro hm; rcases List.mem_cons.1 hm with e | e; exact hbN e.symm; have := HAV1.out _ (mem_blk.1 e); omega) (by simp)).fr hfa (by simp) (by simp)
              have HCN := hid hcN
              have HPA := hid hpa
              have HFA := hid hfa
              have HMN := hid hMN
              have HSA := hid hsa
              have HBM := hid hbM
              have HBNN := hid hbN
              have HCA := hid hca
              clear hpa hfa hcN hca hsa
              go_wp2_with fail
              refine (HRSX.out _ HPA.out).mono ?_
              rintro e wb ⟨rfl, av5, hp5, he5, hf5⟩
              have hcM := HCA.out.fr hf5 (by have := HBM.out; simp; omega) (by simp)
              have hcN2 := HCN.out.fr hf5 (by have := HBNN.out; simp; omega) (by simp)
              have d0 := hcM.c 0 _ rfl
              have d1 := hcM.c 1 _ rfl
              have d2 := hcM.c 2 _ rfl
              have c0 := hcN2.c 0 _ rfl
              have c1 := hcN2.c 1 _ rfl
              have c2 := hcN2.c 2 _ rfl
              have fz := hcN2.fz
              have hMN2 : ¬ M = N := by have := HMN.out; omega
              have HP5 := hid hp5
              have HE5 := hid he5
              have HF5 := hid hf5
              have HF5X := hid hf5
              clear hp5 he5 hf5 hcM hcN2 h9
              go_wp2_with fail
              try simp only [Exit.inBlock, Exit.then]
              refine bodyPost_ret (v := .agg #[.int .i64 (P4.err : Nat), .int .i64 (P4.at_ : Nat), .slice none 0 0]) (by simp [results, Tryz.results42, go_sem, cellSet, c0, c1, c2]) rfl ?_
              have hfz := (((Fr.refl [N] wb).set (p := ⟨N, 0, none⟩) (by simp) (.int .i64 (P4.err : Nat))).set (p := ⟨N, 1, none⟩) (by simp) (.int .i64 (P4.at_ : Nat))).set (p := ⟨N, 2, none⟩) (by simp) (.slice none 0 0)
              have hsub1 : ∀ x, x ∈ b :: blk av1 → x ∈ b :: blk av := fun x hx => by rcases List.mem_cons.1 hx with e | e; rw [e]; exact List.mem_cons_self; exact List.mem_cons_of_mem _ (mem_blk.2 (by rw [← HE1.out]; exact mem_blk.1 e))
              have hfall : Fr (b :: blk av) w wb := (((HFW1.out.mono (by simp)).trans (HFRX.out.mono (fun x hx _ => hsub1 x hx))).trans (HFA.out.mono (by simp))).trans (HF5.out.mono (by simp))
              refine hK.out _ _ ⟨.slice none 0 0, by rw [HQ4.out], HH.out, .inr ⟨?_, ?_, ⟨av5, ?_, ?_, fun g hg => nomatch (show (none : Option Nat) = some g from hg)⟩, ?_⟩⟩
              · rw [HQ4.out]; exact OwnI.nil _ _
              · rw [HQ4.out]; exact .inl ⟨rfl, rfl⟩
              · exact HP5.out.fr hfz (by have := HBNN.out; simp; omega) (fun g hg hm => by rw [HE5.out] at hg; have := (HAVX.out g hg).1; simp at hm; omega)
              · intro g hg
                rw [HE5.out] at hg
                rcases HNXX.out g hg with e | e
                · left; rw [← HE1.out]; exact e
                · right; exact Nat.le_trans HFW1.out.size e
              · exact hfall.trans2 hfz (fun x hx hlt => by rw [List.mem_singleton] at hx; exact absurd (hx ▸ hlt) HNS.out)
            | false =>
              rw [hop] at h8
              have HQP : Hid (res = ⟨0, P2.at_, P2.arena⟩) := by
                show _ = _
                rw [HRES2.out]; simp only [herr, hop, true_and, Bool.false_eq_true, if_false, if_true]
              clear herr hop
              go_wp2_with fail
              have HFRX : Hid (Fr (b :: blk av1) w1 w3) := HF3.out
              have HNXX : Hid (Nx w1 av1 av3) := HNX3.out
              have HAVX : Hid (∀ g, av3.ownBlock = some g → g ≠ N ∧ g < w3.heap.size) := fun g hg => ⟨by rcases HNXX.out g hg with e | e; exact Nat.ne_of_lt (HAV1.out g e); have := HSZ1.out; omega, HP3.out.own.lt g hg⟩
              have HRSX := hid (fun w h => prest_any (w := w) (b := b) (P := P2) (av := av3) h)
              go_region_held3 (fun w' => w'.cell? ⟨b, 9, none⟩ = some (.int .i64 0) ∧ w'.cell? ⟨b, 10, none⟩ = some (.int .i64 (P2.at_ : Nat))) (go_keep) (fail)
              obtain ⟨M, hM⟩ : ∃ M, w3.heap.size = M := ⟨_, rfl⟩
              have hCA := CellsAt.mk_alloc w3 [.int .i64 0, .int .i64 (P2.at_ : Nat), .slice none 0 0] 86
              obtain ⟨wa, hwa⟩ : ∃ x, (w3.alloc (Obj.cells #[.int .i64 0, .int .i64 (P2.at_ : Nat), .slice none 0 0] 86)).drew = x := ⟨_, rfl⟩
              have hca : CellsAt wa M [.int .i64 0, .int .i64 (P2.at_ : Nat), .slice none 0 0] := by rw [← hwa, ← hM]; exact ⟨hCA.c, hCA.fz⟩
              have hfa : Fr [] w3 wa := by rw [← hwa]; exact ((Fr.refl _ _).alloc _).drew
              have hsa : wa.heap.size = M + 1 := by rw [← hwa, ← hM]; simp
              have hpa := HP3.out.fr hfa (by simp) (by simp)
              have hMN : N < M := by rw [← hM]; exact Nat.lt_of_lt_of_le (by have := HSZ1.out; omega) HFRX.out.size
              have HAVM : Hid (∀ g, av3.ownBlock = some g → g < M) := fun g hg => by rw [← hM]; exact (HAVX.out g hg).2
              rw [hM, hwa]
              clear h9 h10 h8 h0 hfz hCA hwa hM
              have hbM : ¬ b = M := by have := HBN.out; omega
              have hbN : ¬ b = N := by have := HBN.out; omega
              have h9 := hpa.at_.err
              rw [show (ParR P2 av3).err = (P2.err : Int) from rfl, HERR0.out] at h9
              change wa.cell? ⟨b, 9, none⟩ = some (.int .i64 0) at h9
              have h0 := hpa.at_.arena
              change wa.cell? ⟨b, 0, none⟩ = some av3 at h0
              have hcN := (HC1.out.fr HFRX.out (by intro hm; rcases List.mem_cons.1 hm with e | e; exact hbN e.symm; have := HAV1.out _ (mem_blk.1 e); omega) (by simp)).fr hfa (by simp) (by simp)
              have HCN := hid hcN
              have HPA := hid hpa
              have HFA := hid hfa
              have HMN := hid hMN
              have HSA := hid hsa
              have HBM := hid hbM
              have HBNN := hid hbN
              have d0 := hca.c 0 _ rfl
              have d1 := hca.c 1 _ rfl
              have d2 := hca.c 2 _ rfl
              have dz := hca.fz
              have HCA := hid hca
              have HCP := hid (copyInts_any HPA.out.own.ints HLE.out)
              clear hpa hfa hcN hca hsa
              go_wp2_with fail
              refine HCP.out.mono ?_
              rintro e wc ⟨v, rfl, ho, htv, hfc⟩
              have hca3 := HCA.out.fr hfc (by simp) (by simp)
              have hcz := hca3.fz
              have hc22 := hca3.c 2 _ rfl
              have hcd : CellsAt (wc.setCell ⟨M, 2, none⟩ v) M [.int .i64 0, .int .i64 (P2.at_ : Nat), v] := by
                refine ⟨fun i x hx => ?_, fun i => (World.frozen?_setCell _ _ _ _).trans (hca3.fz i)⟩
                rcases (by have := (List.getElem?_eq_some_iff.1 hx).1; simp at this; omega : i = 0 ∨ i = 1 ∨ i = 2) with e | e | e <;> subst e
                · rw [cellNe (by omega)]; exact hca3.c 0 x hx
                · rw [cellNe (by omega)]; exact hca3.c 1 x hx
                · rw [cellSet (hca3.c 2 _ rfl)]; exact hx
              obtain ⟨a5, n5, hv5⟩ : ∃ a n, v = .slice a n n := by rcases htv with ⟨e, _⟩ | ⟨g, e⟩; exact ⟨none, 0, e⟩; exact ⟨_, _, e⟩
              subst hv5
              have hfcM : Fr [M] wa (wc.setCell ⟨M, 2, none⟩ (.slice a5 n5 n5)) := (hfc.mono (by simp)).set (by simp) _
              have hpc := HPA.out.fr hfcM (by have := HBM.out; simp; omega) (fun g hg hm => by have := HAVM.out g hg; simp at hm; omega)
              have hcN3 := HCN.out.fr hfcM (by have := HMN.out; simp; omega) (by simp)
              have HHO := hid ho
              have HTV := hid htv
              have HFCM := hid hfcM
              have HPC := hid hpc
              have HCN3 := hid hcN3
              have HCD := hid hcd
              have HFC := hid hfc
              clear ho htv hfcM hpc hcN3 hcd hfc hca3 h9 h0 d0 d1 d2 dz
              go_wp2_with fail
              refine (HRSX.out _ HPC.out).mono ?_
              rintro e wb ⟨rfl, av5, hp5, he5, hf5⟩
              have hcM := HCD.out.fr hf5 (by have := HBM.out; simp; omega) (by simp)
              have hcN2 := HCN3.out.fr hf5 (by have := HBNN.out; simp; omega) (by simp)
              have h9 := trivial
              have d0 := hcM.c 0 _ rfl
              have d1 := hcM.c 1 _ rfl
              have d2 := hcM.c 2 _ rfl
              have c0 := hcN2.c 0 _ rfl
              have c1 := hcN2.c 1 _ rfl
              have c2 := hcN2.c 2 _ rfl
              have fz := hcN2.fz
              have hMN2 : ¬ M = N := by have := HMN.out; omega
              have HP5 := hid hp5
              have HE5 := hid he5
              have HF5 := hid hf5
              have HF5X := hid hf5
              clear hp5 he5 hf5 hcM hcN2 h9
              go_wp2_with fail
              try simp only [Exit.inBlock, Exit.then]
              refine bodyPost_ret (v := .agg #[.int .i64 0, .int .i64 (P2.at_ : Nat), .slice a5 n5 n5]) (by simp [results, Tryz.results42, go_sem, cellSet, c0, c1, c2]) rfl ?_
              have hfz := (((Fr.refl [N] wb).set (p := ⟨N, 0, none⟩) (by simp) (.int .i64 0)).set (p := ⟨N, 1, none⟩) (by simp) (.int .i64 (P2.at_ : Nat))).set (p := ⟨N, 2, none⟩) (by simp) (.slice a5 n5 n5)
              have hsub1 : ∀ x, x ∈ b :: blk av1 → x ∈ b :: blk av := fun x hx => by rcases List.mem_cons.1 hx with e | e; rw [e]; exact List.mem_cons_self; exact List.mem_cons_of_mem _ (mem_blk.2 (by rw [← HE1.out]; exact mem_blk.1 e))
              have hfall : Fr (b :: blk av) w wb := ((((HFW1.out.mono (by simp)).trans (HFRX.out.mono (fun x hx _ => hsub1 x hx))).trans (HFA.out.mono (by simp))).trans2 HFCM.out (fun x hx hlt => by rw [List.mem_singleton] at hx; exact absurd (hx ▸ hlt) (by have := HMN.out; have := HNS.out; omega))).trans (HF5.out.mono (by simp))
              refine hK.out _ _ ⟨.slice a5 n5 n5, (by rw [HQP.out]; rfl), HH.out, .inr ⟨?_, ?_, ⟨av5, ?_, ?_, fun g hg e => absurd (HAVM.out g (by rw [← HE5.out]; exact e)) (by have := HHO.out.base g hg; have := HSA.out; omega)⟩, ?_⟩⟩
              · rw [HQP.out]
                have hbs : ∀ g, (Value.slice a5 n5 n5).ownBlock = some g → M < g := fun g hg => by have := HHO.out.base g hg; have := HSA.out; omega
                refine ((((HHO.out.mono (base2 := w.heap.size) (by have := HSA.out; have := HMN.out; have := HNS.out; omega)).fr (S := [M]) ((Fr.refl _ _).set (by simp) _) (fun g hg hm => by have := hbs g hg; simp at hm; omega)).fr HF5X.out (fun g hg hm => by have := hbs g hg; have := HBN.out; have := HMN.out; simp at hm; omega)).fr hfz (fun g hg hm => by have := hbs g hg; have := HMN.out; simp at hm; omega))
              · rw [HQP.out]
                rcases HTV.out with ⟨e1, e2⟩ | ⟨g, e⟩
                · exact .inl ⟨e1, by rw [e2]; rfl⟩
                · exact .inr ⟨g, e⟩
              · exact HP5.out.fr hfz (by have := HBNN.out; simp; omega) (fun g hg hm => by rw [HE5.out] at hg; have := (HAVX.out g hg).1; simp at hm; omega)
              · intro g hg
                rw [HE5.out] at hg
                rcases HNXX.out g hg with e | e
                · left; rw [← HE1.out]; exact e
                · right; exact Nat.le_trans HFW1.out.size e
              · exact hfall.trans2 hfz (fun x hx hlt => by rw [List.mem_singleton] at hx; exact absurd (hx ▸ hlt) HNS.out)
          · have hb2 : ((P2.err : Int) == 0) = false := by simp; omega
            have HQP : Hid (res = ⟨P2.err, P2.at_, []⟩) := by
              show _ = _
              rw [HRES2.out]
              simp only [herr, false_and, if_false]
            clear herr
            go_wp2_with fail
            have HFRX : Hid (Fr (b :: blk av1) w1 w3) := HF3.out
            have HNXX : Hid (Nx w1 av1 av3) := HNX3.out
            have HAVX : Hid (∀ g, av3.ownBlock = some g → g ≠ N ∧ g < w3.heap.size) := fun g hg => ⟨by rcases HNXX.out g hg with e | e; exact Nat.ne_of_lt (HAV1.out g e); have := HSZ1.out; omega, HP3.out.own.lt g hg⟩
            have HRSX := hid (fun w h => prest_any (w := w) (b := b) (P := P2) (av := av3) h)
            go_region_held3 (fun w' => w'.cell? ⟨b, 9, none⟩ = some (.int .i64 (P2.err : Nat)) ∧ w'.cell? ⟨b, 10, none⟩ = some (.int .i64 (P2.at_ : Nat))) (go_keep) (fail)
            obtain ⟨M, hM⟩ : ∃ M, w3.heap.size = M := ⟨_, rfl⟩
            have hCA := CellsAt.mk_alloc w3 [.int .i64 (P2.err : Nat), .int .i64 (P2.at_ : Nat), .slice none 0 0] 86
            obtain ⟨wa, hwa⟩ : ∃ x, (w3.alloc (Obj.cells #[.int .i64 (P2.err : Nat), .int .i64 (P2.at_ : Nat), .slice none 0 0] 86)).drew = x := ⟨_, rfl⟩
            have hca : CellsAt wa M [.int .i64 (P2.err : Nat), .int .i64 (P2.at_ : Nat), .slice none 0 0] := by rw [← hwa, ← hM]; exact ⟨hCA.c, hCA.fz⟩
            have hfa : Fr [] w3 wa := by rw [← hwa]; exact ((Fr.refl _ _).alloc _).drew
            have hsa : wa.heap.size = M + 1 := by rw [← hwa, ← hM]; simp
            have hpa := HP3.out.fr hfa (by simp) (by simp)
            have hMN : N < M := by rw [← hM]; exact Nat.lt_of_lt_of_le (by have := HSZ1.out; omega) HFRX.out.size
            have HAVM : Hid (∀ g, av3.ownBlock = some g → g < M) := fun g hg => by rw [← hM]; exact (HAVX.out g hg).2
            rw [hM, hwa]
            clear h9 h10 h8 h0 hfz hCA hwa hM
            have hbM : ¬ b = M := by have := HBN.out; omega
            have hbN : ¬ b = N := by have := HBN.out; omega
            have h9 := hpa.at_.err
            change wa.cell? ⟨b, 9, none⟩ = some (.int .i64 (P2.err : Nat)) at h9
            have hcN := (HC1.out.fr HFRX.out (by intro hm; rcases List.mem_cons.1 hm with e | e; exact hbN e.symm; have := HAV1.out _ (mem_blk.1 e); omega) (by simp)).fr hfa (by simp) (by simp)
            have HCN := hid hcN
            have HPA := hid hpa
            have HFA := hid hfa
            have HMN := hid hMN
            have HSA := hid hsa
            have HBM := hid hbM
            have HBNN := hid hbN
            have HCA := hid hca
            clear hpa hfa hcN hca hsa
            go_wp2_with fail
            refine (HRSX.out _ HPA.out).mono ?_
            rintro e wb ⟨rfl, av5, hp5, he5, hf5⟩
            have hcM := HCA.out.fr hf5 (by have := HBM.out; simp; omega) (by simp)
            have hcN2 := HCN.out.fr hf5 (by have := HBNN.out; simp; omega) (by simp)
            have d0 := hcM.c 0 _ rfl
            have d1 := hcM.c 1 _ rfl
            have d2 := hcM.c 2 _ rfl
            have c0 := hcN2.c 0 _ rfl
            have c1 := hcN2.c 1 _ rfl
            have c2 := hcN2.c 2 _ rfl
            have fz := hcN2.fz
            have hMN2 : ¬ M = N := by have := HMN.out; omega
            have HP5 := hid hp5
            have HE5 := hid he5
            have HF5 := hid hf5
            have HF5X := hid hf5
            clear hp5 he5 hf5 hcM hcN2 h9
            go_wp2_with fail
            try simp only [Exit.inBlock, Exit.then]
            refine bodyPost_ret (v := .agg #[.int .i64 (P2.err : Nat), .int .i64 (P2.at_ : Nat), .slice none 0 0]) (by simp [results, Tryz.results42, go_sem, cellSet, c0, c1, c2]) rfl ?_
            have hfz := (((Fr.refl [N] wb).set (p := ⟨N, 0, none⟩) (by simp) (.int .i64 (P2.err : Nat))).set (p := ⟨N, 1, none⟩) (by simp) (.int .i64 (P2.at_ : Nat))).set (p := ⟨N, 2, none⟩) (by simp) (.slice none 0 0)
            have hsub1 : ∀ x, x ∈ b :: blk av1 → x ∈ b :: blk av := fun x hx => by rcases List.mem_cons.1 hx with e | e; rw [e]; exact List.mem_cons_self; exact List.mem_cons_of_mem _ (mem_blk.2 (by rw [← HE1.out]; exact mem_blk.1 e))
            have hfall : Fr (b :: blk av) w wb := (((HFW1.out.mono (by simp)).trans (HFRX.out.mono (fun x hx _ => hsub1 x hx))).trans (HFA.out.mono (by simp))).trans (HF5.out.mono (by simp))
            refine hK.out _ _ ⟨.slice none 0 0, by rw [HQP.out], HH.out, .inr ⟨?_, ?_, ⟨av5, ?_, ?_, fun g hg => nomatch (show (none : Option Nat) = some g from hg)⟩, ?_⟩⟩
            · rw [HQP.out]; exact OwnI.nil _ _
            · rw [HQP.out]; exact .inl ⟨rfl, rfl⟩
            · exact HP5.out.fr hfz (by have := HBNN.out; simp; omega) (fun g hg hm => by rw [HE5.out] at hg; have := (HAVX.out g hg).1; simp at hm; omega)
            · intro g hg
              rw [HE5.out] at hg
              rcases HNXX.out g hg with e | e
              · left; rw [← HE1.out]; exact e
              · right; exact Nat.le_trans HFW1.out.size e
            · exact hfall.trans2 hfz (fun x hx hlt => by rw [List.mem_singleton] at hx; exact absurd (hx ▸ hlt) HNS.out)
      · have hb1 : ((P.err : Int) == 0) = false := by simp; omega
        rw [feedAll_err _ _ _ herr] at he
        have HQP : Hid (res = ⟨P.err, P.at_, []⟩) := by
          show _ = _
          rw [HP.out, he, if_neg herr]
          simp only [herr, false_and, if_false]
        have HPP := hid hp
        have HNX := hid hnx
        have HF := hid hf
        by_cases hlt : 0 < gk
        · have hlt2 : ((s.size - gk : Nat) : Int) < s.size := by omega
          clear hp hnx hf he hpk herr hlt hg
          go_wp2_with fail
          have HFRX : Hid (Fr (b :: blk av1) w1 wr) := HF.out
          have HNXX : Hid (Nx w1 av1 av2) := HNX.out
          have HAVX : Hid (∀ g, av2.ownBlock = some g → g ≠ N ∧ g < wr.heap.size) := fun g hg => ⟨by rcases HNXX.out g hg with e | e; exact Nat.ne_of_lt (HAV1.out g e); have := HSZ1.out; omega, HPP.out.own.lt g hg⟩
          have HRSX := hid (fun w h => prest_any (w := w) (b := b) (P := P) (av := av2) h)
          go_region_held3 (fun w' => w'.cell? ⟨b, 9, none⟩ = some (.int .i64 (P.err : Nat)) ∧ w'.cell? ⟨b, 10, none⟩ = some (.int .i64 (P.at_ : Nat))) (go_keep) (fail)
          obtain ⟨M, hM⟩ : ∃ M, wr.heap.size = M := ⟨_, rfl⟩
          have hCA := CellsAt.mk_alloc wr [.int .i64 (P.err : Nat), .int .i64 (P.at_ : Nat), .slice none 0 0] 86
          obtain ⟨wa, hwa⟩ : ∃ x, (wr.alloc (Obj.cells #[.int .i64 (P.err : Nat), .int .i64 (P.at_ : Nat), .slice none 0 0] 86)).drew = x := ⟨_, rfl⟩
          have hca : CellsAt wa M [.int .i64 (P.err : Nat), .int .i64 (P.at_ : Nat), .slice none 0 0] := by rw [← hwa, ← hM]; exact ⟨hCA.c, hCA.fz⟩
          have hfa : Fr [] wr wa := by rw [← hwa]; exact ((Fr.refl _ _).alloc _).drew
          have hsa : wa.heap.size = M + 1 := by rw [← hwa, ← hM]; simp
          have hpa := HPP.out.fr hfa (by simp) (by simp)
          have hMN : N < M := by rw [← hM]; exact Nat.lt_of_lt_of_le (by have := HSZ1.out; omega) HFRX.out.size
          have HAVM : Hid (∀ g, av2.ownBlock = some g → g < M) := fun g hg => by rw [← hM]; exact (HAVX.out g hg).2
          rw [hM, hwa]
          clear h9 h10 h8 h0 hfz hCA hwa hM
          have hbM : ¬ b = M := by have := HBN.out; omega
          have hbN : ¬ b = N := by have := HBN.out; omega
          have h9 := hpa.at_.err
          change wa.cell? ⟨b, 9, none⟩ = some (.int .i64 (P.err : Nat)) at h9
          have hcN := (HC1.out.fr HFRX.out (by intro hm; rcases List.mem_cons.1 hm with e | e; exact hbN e.symm; have := HAV1.out _ (mem_blk.1 e); omega) (by simp)).fr hfa (by simp) (by simp)
          have HCN := hid hcN
          have HPA := hid hpa
          have HFA := hid hfa
          have HMN := hid hMN
          have HSA := hid hsa
          have HBM := hid hbM
          have HBNN := hid hbN
          have HCA := hid hca
          clear hpa hfa hcN hca hsa
          go_wp2_with fail
          refine (HRSX.out _ HPA.out).mono ?_
          rintro e wb ⟨rfl, av5, hp5, he5, hf5⟩
          have hcM := HCA.out.fr hf5 (by have := HBM.out; simp; omega) (by simp)
          have hcN2 := HCN.out.fr hf5 (by have := HBNN.out; simp; omega) (by simp)
          have d0 := hcM.c 0 _ rfl
          have d1 := hcM.c 1 _ rfl
          have d2 := hcM.c 2 _ rfl
          have c0 := hcN2.c 0 _ rfl
          have c1 := hcN2.c 1 _ rfl
          have c2 := hcN2.c 2 _ rfl
          have fz := hcN2.fz
          have hMN2 : ¬ M = N := by have := HMN.out; omega
          have HP5 := hid hp5
          have HE5 := hid he5
          have HF5 := hid hf5
          have HF5X := hid hf5
          clear hp5 he5 hf5 hcM hcN2 h9
          go_wp2_with fail
          try simp only [Exit.inBlock, Exit.then]
          refine bodyPost_ret (v := .agg #[.int .i64 (P.err : Nat), .int .i64 (P.at_ : Nat), .slice none 0 0]) (by simp [results, Tryz.results42, go_sem, cellSet, c0, c1, c2]) rfl ?_
          have hfz := (((Fr.refl [N] wb).set (p := ⟨N, 0, none⟩) (by simp) (.int .i64 (P.err : Nat))).set (p := ⟨N, 1, none⟩) (by simp) (.int .i64 (P.at_ : Nat))).set (p := ⟨N, 2, none⟩) (by simp) (.slice none 0 0)
          have hsub1 : ∀ x, x ∈ b :: blk av1 → x ∈ b :: blk av := fun x hx => by rcases List.mem_cons.1 hx with e | e; rw [e]; exact List.mem_cons_self; exact List.mem_cons_of_mem _ (mem_blk.2 (by rw [← HE1.out]; exact mem_blk.1 e))
          have hfall : Fr (b :: blk av) w wb := (((HFW1.out.mono (by simp)).trans (HFRX.out.mono (fun x hx _ => hsub1 x hx))).trans (HFA.out.mono (by simp))).trans (HF5.out.mono (by simp))
          refine hK.out _ _ ⟨.slice none 0 0, by rw [HQP.out], HH.out, .inr ⟨?_, ?_, ⟨av5, ?_, ?_, fun g hg => nomatch (show (none : Option Nat) = some g from hg)⟩, ?_⟩⟩
          · rw [HQP.out]; exact OwnI.nil _ _
          · rw [HQP.out]; exact .inl ⟨rfl, rfl⟩
          · exact HP5.out.fr hfz (by have := HBNN.out; simp; omega) (fun g hg hm => by rw [HE5.out] at hg; have := (HAVX.out g hg).1; simp at hm; omega)
          · intro g hg
            rw [HE5.out] at hg
            rcases HNXX.out g hg with e | e
            · left; rw [← HE1.out]; exact e
            · right; exact Nat.le_trans HFW1.out.size e
          · exact hfall.trans2 hfz (fun x hx hlt => by rw [List.mem_singleton] at hx; exact absurd (hx ▸ hlt) HNS.out)
        · have hg0 : gk = 0 := by omega
          subst hg0
          clear hp hnx hf he hpk herr hlt hg
          go_wp2_with fail
          have HFRX : Hid (Fr (b :: blk av1) w1 wr) := HF.out
          have HNXX : Hid (Nx w1 av1 av2) := HNX.out
          have HAVX : Hid (∀ g, av2.ownBlock = some g → g ≠ N ∧ g < wr.heap.size) := fun g hg => ⟨by rcases HNXX.out g hg with e | e; exact Nat.ne_of_lt (HAV1.out g e); have := HSZ1.out; omega, HPP.out.own.lt g hg⟩
          have HRSX := hid (fun w h => prest_any (w := w) (b := b) (P := P) (av := av2) h)
          go_region_held3 (fun w' => w'.cell? ⟨b, 9, none⟩ = some (.int .i64 (P.err : Nat)) ∧ w'.cell? ⟨b, 10, none⟩ = some (.int .i64 (P.at_ : Nat))) (go_keep) (fail)
          obtain ⟨M, hM⟩ : ∃ M, wr.heap.size = M := ⟨_, rfl⟩
          have hCA := CellsAt.mk_alloc wr [.int .i64 (P.err : Nat), .int .i64 (P.at_ : Nat), .slice none 0 0] 86
          obtain ⟨wa, hwa⟩ : ∃ x, (wr.alloc (Obj.cells #[.int .i64 (P.err : Nat), .int .i64 (P.at_ : Nat), .slice none 0 0] 86)).drew = x := ⟨_, rfl⟩
          have hca : CellsAt wa M [.int .i64 (P.err : Nat), .int .i64 (P.at_ : Nat), .slice none 0 0] := by rw [← hwa, ← hM]; exact ⟨hCA.c, hCA.fz⟩
          have hfa : Fr [] wr wa := by rw [← hwa]; exact ((Fr.refl _ _).alloc _).drew
          have hsa : wa.heap.size = M + 1 := by rw [← hwa, ← hM]; simp
          have hpa := HPP.out.fr hfa (by simp) (by simp)
          have hMN : N < M := by rw [← hM]; exact Nat.lt_of_lt_of_le (by have := HSZ1.out; omega) HFRX.out.size
          have HAVM : Hid (∀ g, av2.ownBlock = some g → g < M) := fun g hg => by rw [← hM]; exact (HAVX.out g hg).2
          rw [hM, hwa]
          clear h9 h10 h8 h0 hfz hCA hwa hM
          have hbM : ¬ b = M := by have := HBN.out; omega
          have hbN : ¬ b = N := by have := HBN.out; omega
          have h9 := hpa.at_.err
          change wa.cell? ⟨b, 9, none⟩ = some (.int .i64 (P.err : Nat)) at h9
          have hcN := (HC1.out.fr HFRX.out (by intro hm; rcases List.mem_cons.1 hm with e | e; exact hbN e.symm; have := HAV1.out _ (mem_blk.1 e); omega) (by simp)).fr hfa (by simp) (by simp)
          have HCN := hid hcN
          have HPA := hid hpa
          have HFA := hid hfa
          have HMN := hid hMN
          have HSA := hid hsa
          have HBM := hid hbM
          have HBNN := hid hbN
          have HCA := hid hca
          clear hpa hfa hcN hca hsa
          go_wp2_with fail
          refine (HRSX.out _ HPA.out).mono ?_
          rintro e wb ⟨rfl, av5, hp5, he5, hf5⟩
          have hcM := HCA.out.fr hf5 (by have := HBM.out; simp; omega) (by simp)
          have hcN2 := HCN.out.fr hf5 (by have := HBNN.out; simp; omega) (by simp)
          have d0 := hcM.c 0 _ rfl
          have d1 := hcM.c 1 _ rfl
          have d2 := hcM.c 2 _ rfl
          have c0 := hcN2.c 0 _ rfl
          have c1 := hcN2.c 1 _ rfl
          have c2 := hcN2.c 2 _ rfl
          have fz := hcN2.fz
          have hMN2 : ¬ M = N := by have := HMN.out; omega
          have HP5 := hid hp5
          have HE5 := hid he5
          have HF5 := hid hf5
          have HF5X := hid hf5
          clear hp5 he5 hf5 hcM hcN2 h9
          go_wp2_with fail
          try simp only [Exit.inBlock, Exit.then]
          refine bodyPost_ret (v := .agg #[.int .i64 (P.err : Nat), .int .i64 (P.at_ : Nat), .slice none 0 0]) (by simp [results, Tryz.results42, go_sem, cellSet, c0, c1, c2]) rfl ?_
          have hfz := (((Fr.refl [N] wb).set (p := ⟨N, 0, none⟩) (by simp) (.int .i64 (P.err : Nat))).set (p := ⟨N, 1, none⟩) (by simp) (.int .i64 (P.at_ : Nat))).set (p := ⟨N, 2, none⟩) (by simp) (.slice none 0 0)
          have hsub1 : ∀ x, x ∈ b :: blk av1 → x ∈ b :: blk av := fun x hx => by rcases List.mem_cons.1 hx with e | e; rw [e]; exact List.mem_cons_self; exact List.mem_cons_of_mem _ (mem_blk.2 (by rw [← HE1.out]; exact mem_blk.1 e))
          have hfall : Fr (b :: blk av) w wb := (((HFW1.out.mono (by simp)).trans (HFRX.out.mono (fun x hx _ => hsub1 x hx))).trans (HFA.out.mono (by simp))).trans (HF5.out.mono (by simp))
          refine hK.out _ _ ⟨.slice none 0 0, by rw [HQP.out], HH.out, .inr ⟨?_, ?_, ⟨av5, ?_, ?_, fun g hg => nomatch (show (none : Option Nat) = some g from hg)⟩, ?_⟩⟩
          · rw [HQP.out]; exact OwnI.nil _ _
          · rw [HQP.out]; exact .inl ⟨rfl, rfl⟩
          · exact HP5.out.fr hfz (by have := HBNN.out; simp; omega) (fun g hg hm => by rw [HE5.out] at hg; have := (HAVX.out g hg).1; simp at hm; omega)
          · intro g hg
            rw [HE5.out] at hg
            rcases HNXX.out g hg with e | e
            · left; rw [← HE1.out]; exact e
            · right; exact Nat.le_trans HFW1.out.size e
          · exact hfall.trans2 hfz (fun x hx hlt => by rw [List.mem_singleton] at hx; exact absurd (hx ▸ hlt) HNS.out)
end Go.Proofs.Qxb6500354aGreat
