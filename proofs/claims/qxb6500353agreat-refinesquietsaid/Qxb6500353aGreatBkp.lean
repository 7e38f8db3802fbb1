/- The encoder: Pack, New, walked. -/
import Derived.Test.Qxb6500353aGreatBkg
import Derived.Test.Qxb6500353aGreatLzn
namespace Go.Proofs.Qxb6500353aGreat
open Go.RowKit
set_option linter.unusedVariables false
set_option linter.unusedSimpArgs false

/-- The encoder, whatever it holds. -/
def EncS (w : World) (t a b z p : Nat) : Prop := ∃ T RA RB RZ R, Enc w t a b z p T RA RB RZ R
theorem EncS.fr {S : Nat → Prop} {w w2 : World} {t a b z p : Nat} (h : EncS w t a b z p) (hf : Fr S w w2) (hn : ∀ k, t ≤ k → k < p + 5 → ¬ S k) : EncS w2 t a b z p := by
  obtain ⟨T, RA, RB, RZ, R, h⟩ := h; exact ⟨T, RA, RB, RZ, R, h.fr hf hn⟩
theorem Enc.parse {w : World} {t a b z p : Nat} {T : Tp} {RA RB : CdR} {RZ : MtR} {R : PkR} (h : Enc w t a b z p T RA RB RZ R) {s : ByteArray} (hs : s.size ≤ 256) {lv : Nat} (hlv : lv ≤ 2) :
    Calls Tryz.prog 86 #[.pointer (some ⟨z, 0, none⟩), .string s, .int .i64 lv] w fun e w' => ∃ N, p + 5 ≤ N ∧ e = .returned (.tuple #[.slice (some ⟨N, 0, none⟩) (parseP (bytesOf s) lv 0).length (parseP (bytesOf s) lv 0).length, .int .i64 0]) ∧ (∃ RZ', Enc w' t a b z p T RA RB RZ' R) ∧ Cel mkV w' N 0 ((parseP (bytesOf s) lv 0).length * 3) (tokF (parseP (bytesOf s) lv 0)) ∧ Fr (Rng t (p + 5)) w w' := by
  have l1 := h.l1; have l2 := h.l2; have l3 := h.l3; have l4 := h.l4
  refine (mtparse_any h.mz hs hlv).mono ?_
  rintro e w' ⟨N, hN, rfl, ⟨R', h1⟩, h2, h3⟩
  exact ⟨N, by have := h.lt; omega, rfl, ⟨R', h.onZ h3 h1⟩, h2.cel, h.wide h3 (by omega) (by omega)⟩
theorem Enc.tally {w : World} {t a b z p : Nat} {T : Tp} {RA RB : CdR} {RZ : MtR} {R : PkR} (h : Enc w t a b z p T RA RB RZ R) {g cap : Nat} {ts : List Tok} (ht : Cel mkV w g 0 (ts.length * 3) (tokF ts)) (hgd : p + 5 ≤ g) (hok : ∀ t ∈ ts, TokOK t) (hn : ts.length ≤ 256) :
    Calls Tryz.prog 87 #[.pointer (some ⟨p, 0, none⟩), .slice (some ⟨g, 0, none⟩) ts.length cap] w fun e w' => e = .returned (.tuple #[]) ∧ Enc w' t a b z p T RA RB RZ { R with count := countsF ts } ∧ Fr (Rng t (p + 5)) w w' := by
  have l1 := h.l1; have l2 := h.l2; have l3 := h.l3; have l4 := h.l4
  refine (tally_any h.pk ht (fun q => by have := q.2; omega) hok hn).mono ?_
  rintro e w' ⟨rfl, h1, h2⟩
  exact ⟨rfl, h.onP h2 h1 rfl rfl rfl rfl, h.wide h2 (by omega) (by omega)⟩
theorem Enc.reset {w : World} {t a b z p : Nat} {T : Tp} {RA RB : CdR} {RZ : MtR} {R : PkR} (h : Enc w t a b z p T RA RB RZ R) :
    Calls Tryz.prog 24 #[.pointer (some ⟨t + 1, 0, none⟩)] w fun e w' => e = .returned (.tuple #[]) ∧ Enc w' t a b z p Tp.nil RA RB RZ R ∧ Fr (Rng t (p + 5)) w w' := by
  have l1 := h.l1; have l2 := h.l2; have l3 := h.l3; have l4 := h.l4
  refine (reset_any h.tape).mono ?_
  rintro e w' ⟨rfl, h1, h2⟩
  exact ⟨rfl, h.onT h2 h1, h.wide h2 (by omega) (by omega)⟩
theorem Enc.text {w : World} {t a b z p : Nat} {T : Tp} {RA RB : CdR} {RZ : MtR} {R : PkR} (h : Enc w t a b z p T RA RB RZ R) :
    Calls Tryz.prog 93 #[.pointer (some ⟨t + 1, 0, none⟩)] w fun e w' => e = .returned (.string (strN T.text)) ∧ w' = w.drew := text_any h.tape
theorem Enc.ptrZ {w : World} {t a b z p : Nat} {T : Tp} {RA RB : CdR} {RZ : MtR} {R : PkR} (h : Enc w t a b z p T RA RB RZ R) : w.cell? ⟨p, 3, none⟩ = some (.pointer (some ⟨z, 0, none⟩)) := by
  have := h.pk.c_z; rw [h.ez] at this; exact this
set_option maxRecDepth 100000 in
set_option maxHeartbeats 4000000 in
theorem pack_any {w : World} {t a b z p : Nat} (h : EncS w t a b z p) {s : ByteArray} (hs : s.size ≤ 256) {lv : Nat} (hlv : lv ≤ 2) :
    Calls Tryz.prog 61 #[ptrV p, .string s, .int .i64 lv] w fun e w' => e = .returned (.tuple #[.string (strN (packF (bytesOf s) lv)), .int .i64 0]) ∧ EncS w' t a b z p ∧ Fr (Rng t (p + 5)) w w' := by
  obtain ⟨T, RA, RB, RZ, R, h⟩ := h
  have c0 := h.ptrZ
  have hsi : (s.size : Int) ≤ 256 := by omega
  have hlvi : (lv : Int) ≤ 2 := by omega
  have HPR := hid (h.parse hs hlv)
  have hb := bytesOf_lt s
  have hln := bytesOf_len s
  obtain ⟨S, hS⟩ : ∃ S, S = bytesOf s := ⟨_, rfl⟩
  rw [← hS] at hb hln HPR ⊢
  have hok := parse_ok S hb lv
  have hlen := tokRun_len S _ 0 (parse_run S lv _ 0 rfl (Nat.zero_le _))
  have hkb := kind_best S.length (parseP S lv 0)
  have hkl := kindF_le S.length (parseP S lv 0)
  have hpk : packF S lv = (emitK (kindF S.length (parseP S lv 0)) S (parseP S lv 0)).text := rfl
  have hek : emitK (kindF S.length (parseP S lv 0)) S (parseP S lv 0) = emitF (kindF S.length (parseP S lv 0)) S (parseP S lv 0) (setA (kindF S.length (parseP S lv 0)) (parseP S lv 0)) (setB (kindF S.length (parseP S lv 0)) (parseP S lv 0)) := rfl
  rw [hek] at hpk
  obtain ⟨ts, hts⟩ : ∃ ts, ts = parseP S lv 0 := ⟨_, rfl⟩
  rw [← hts] at hok hlen hkb hkl hpk HPR
  rw [hln] at hkb hkl hpk hlen
  obtain ⟨kd, hkd⟩ : ∃ k, k = kindF s.size ts := ⟨_, rfl⟩
  rw [← hkd] at hkb hkl hpk
  have hcb := fun h0 => coded_bits (kind := kd) (n := s.size) (ts := ts) h0 hkl hok
  obtain ⟨n, hn⟩ : ∃ n, n = ts.length := ⟨_, rfl⟩
  have hn256 : n ≤ 256 := by omega
  have hni : (n : Int) ≤ 256 := by omega
  have hkdi : (kd : Int) ≤ 2 := by omega
  have HOK := hid hok
  have HNL := hid hn
  have HKB := hid (And.intro hkb (And.intro hkl hcb))
  have HPK := hid hpk
  have HKD := hid hkd
  have HS := hid (And.intro hS hln)
  have HN2 := hid hn256
  clear h hb hln hS hok hlen hkb hkl hpk hek hts hcb hkd
  refine calls_via fun K hK => ?_
  unfold ptrV
  rw [← hn] at HPR
  clear hn hn256
  go_enter Tryz.func61, Tryz.ntmps61
  go_wp2_with fail
  refine HPR.out.mono ?_
  rintro e w1 ⟨N, hN, rfl, ⟨RZ1, h1⟩, hcel, hf1⟩
  have HN := hid hN
  have HCEL := hid hcel
  have HF1 := hid hf1
  have l1 := h1.l1; have l2 := h1.l2; have l3 := h1.l3; have l4 := h1.l4
  have HL := hid (And.intro l1 (And.intro l2 (And.intro l3 l4)))
  have hta := h1.tally (g := N) (cap := n) (by rw [← HNL.out]; exact hcel) hN HOK.out (by rw [← HNL.out]; exact HN2.out)
  rw [← HNL.out] at hta
  have HTA := hid hta
  clear h1 hcel hN hf1 hta l1 l2 l3 l4
  go_wp2_with fail
  refine HTA.out.mono ?_
  rintro e w2 ⟨rfl, h2, hf2⟩
  have HF2 := hid (HF1.out.trans hf2)
  have HG2 := hid hf2
  have hle := lengths_any h2 rfl (by rw [← HNL.out]; exact HN2.out)
  unfold ptrV at hle
  have HLE := hid hle
  clear h2 hf2 hle
  go_wp2_with fail
  refine HLE.out.mono ?_
  rintro e w3 ⟨rfl, ⟨RA3, RB3, h3⟩, hf3⟩
  have HF3 := hid (HF2.out.trans hf3)
  have HG3 := hid (HG2.out.trans hf3)
  have hch := choose_any h3.pk (n := s.size) rfl rfl (by rw [← HNL.out]; exact HN2.out) hs
  rw [← HKD.out] at hch
  unfold ptrV at hch
  have HCH := hid hch
  have H3 := hid h3
  have c3 := h3.ptr
  clear h3 hf3 hch
  go_wp2_with fail
  refine HCH.out.mono ?_
  rintro e w' ⟨rfl, hw⟩
  have hw2 := hw.symm; subst hw2; clear hw
  go_wp2_with fail
  refine H3.out.reset.mono ?_
  rintro e w4 ⟨rfl, h4, hf4⟩
  have HF4 := hid (HF3.out.trans hf4)
  have HG4 := hid (HG3.out.trans hf4)
  have c4 := h4.ptr
  have hp1 := h4.put (v := 1) (k := 1) 1 rfl (by omega) (by decide) (by decide)
  have HP1 := hid hp1
  clear h4 hf4 hp1 c3
  go_wp2_with fail
  refine HP1.out.mono ?_
  rintro e w5 ⟨rfl, h5, hf5⟩
  have HF5 := hid (HF4.out.trans hf5)
  have HG5 := hid (HG4.out.trans hf5)
  have c5 := h5.ptr
  have hp2 := h5.put (v := kd) (k := 2) 2 rfl (by omega) (Nat.lt_of_le_of_lt HKB.out.2.1 (by decide)) (by decide)
  have HP2 := hid hp2
  clear h5 hf5 hp2 c4
  go_wp2_with fail
  refine HP2.out.mono ?_
  rintro e w6 ⟨rfl, h6, hf6⟩
  have HF6 := hid (HF5.out.trans hf6)
  have HG6 := hid (HG5.out.trans hf6)
  have H6 := hid h6
  clear h6 hf6 c5
  have HEND : Hid (∀ (w7 : World) (T7 : Tp) (RA7 RB7 : CdR) (R7 : PkR), Enc w7 t a b z p T7 RA7 RB7 RZ1 R7 → Fr (Rng t (p + 5)) w w7 → T7 = emitF kd S ts (setA kd ts) (setB kd ts) → T7.text = packF S lv) := hid (by
    intro w7 T7 RA7 RB7 R7 h7 hf7 e; rw [HPK.out, e])
  by_cases h0 : kd = 0
  · subst h0
    have hst := bstored_any H6.out hs (by show 8 + 16 + 8 * s.size ≤ 4096; omega)
    unfold ptrV at hst
    rw [← HS.out.1] at hst
    have HST := hid hst
    clear hst
    go_wp2_with fail
    refine HST.out.mono ?_
    rintro e w7 ⟨rfl, h7, hf7⟩
    have HF7 := hid (HF6.out.trans hf7)
    have H7 := hid h7
    have c7 := h7.ptr
    have htx := h7.text
    rw [HEND.out w7 _ _ _ _ h7 HF7.out rfl] at htx
    have HTX := hid htx
    clear h7 hf7 htx
    go_wp2_with fail
    refine HTX.out.mono ?_
    rintro e w8 ⟨rfl, rfl⟩
    go_wp2_with fail
    exact hK.out _ _ ⟨rfl, ⟨_, _, _, _, _, H7.out.drew⟩, HF7.out.drew⟩
  · have h0i : ((kd : Int) == 0) = false := by simp; omega
    have hk12 : kd = 1 ∨ kd = 2 := by have := HKB.out.2.1; omega
    have hroom := HKB.out.2.2 h0
    have hsum : putBits (headPuts kd (setA kd ts) (setB kd ts) ++ bodyPuts (setA kd ts) (setB kd ts) ts) = 3 + putBits (itemsK kd (setA kd ts) (setB kd ts) ++ bodyPuts (setA kd ts) (setB kd ts) ts) := by
      unfold headPuts itemsK
      rw [List.append_assoc, putBits_append]; rfl
    have hbs : bitsSto s.size ≤ 2072 := by unfold bitsSto; omega
    have hcd := coded_any H6.out hk12 (g := N) (cap := n) rfl rfl HOK.out (by rw [← HNL.out]; exact HN2.out)
      (by
        have hf16 : Fr (Rng t (p + 5)) w1 w6 := HG6.out
        rw [← HNL.out]; exact HCEL.out.fr hf16 (fun q => by have := q.2; have := HN.out; omega))
      (fun q => by have := q.2; have := HN.out; omega)
      (by
        show 3 + putBits (itemsK kd (setA kd ts) (setB kd ts) ++ bodyPuts (setA kd ts) (setB kd ts) ts) ≤ 4096
        have := HKB.out.1.1; omega)
    rw [← HNL.out] at hcd
    unfold ptrV at hcd
    have HCD := hid hcd
    clear hcd hroom hsum hbs
    go_wp2_with fail
    refine HCD.out.mono ?_
    rintro e w7 ⟨rfl, ⟨RA7, RB7, R7, h7⟩, hf7⟩
    have HF7 := hid (HF6.out.trans hf7)
    have H7 := hid h7
    have c7 := h7.ptr
    have htx := h7.text
    rw [HEND.out w7 _ _ _ _ h7 HF7.out (by
      unfold emitF; rw [if_neg h0]
      rw [List.append_assoc, puts_append Tp.nil [(1, 1), (kd, 2)]]; rfl)] at htx
    have HTX := hid htx
    clear h7 hf7 htx
    go_wp2_with fail
    refine HTX.out.mono ?_
    rintro e w8 ⟨rfl, rfl⟩
    go_wp2_with fail
    exact hK.out _ _ ⟨rfl, ⟨_, _, _, _, _, H7.out.drew⟩, HF7.out.drew⟩
end Go.Proofs.Qxb6500353aGreat
