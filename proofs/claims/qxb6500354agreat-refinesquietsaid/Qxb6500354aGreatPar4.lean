/- THE WALKS over cnf: feed. -/
import Derived.Test.Qxb6500354aGreatPar3
namespace Go.Proofs.Qxb6500354aGreat
open Go.RowKit
set_option linter.unusedVariables false
set_option linter.unusedSimpArgs false

theorem classF_le (c : Nat) : classF c ≤ 5 := by unfold classF; repeat (first | split | omega)
theorem classF_digit {c : Nat} (h : classF c = 2) : 48 ≤ c ∧ c ≤ 57 := by
  unfold classF at h
  repeat (first | omega | split at h)
structure PK (P : ParS) (n : Nat) : Prop where
  ar : P.arena.length ≤ n
  val : P.val ≤ 13
  st : P.state ≤ 4
theorem endRow_len (P : ParS) : P.endRow.arena.length ≤ P.arena.length + 26 := by
  unfold ParS.endRow
  simp only []
  split
  · have := sweepF_len P.pos P.neg 12 1
    simp only [List.length_append, List.length_cons, List.length_nil]
    split <;> simp <;> omega
  · omega
theorem number_pk {P : ParS} {n : Nat} (h : PK P n) : PK P.number (n + 26) := by
  obtain ⟨a, b, c⟩ := h
  have := endRow_len P
  unfold ParS.number
  by_cases h1 : P.val = 0 ∧ P.minus = true
  · rw [if_pos h1]; exact ⟨by simp only [ParS.fail]; omega, b, c⟩
  · rw [if_neg h1]
    by_cases h2 : 12 < P.val
    · rw [if_pos h2]; exact ⟨by simp only [ParS.fail]; omega, b, c⟩
    · rw [if_neg h2]
      by_cases h3 : P.val = 0
      · rw [if_pos h3]; exact ⟨by omega, b, c⟩
      · rw [if_neg h3]
        by_cases h4 : P.minus = true
        · rw [if_pos h4]; exact ⟨by simp only []; omega, b, c⟩
        · rw [if_neg h4]; exact ⟨by simp only []; omega, b, c⟩
theorem feed_pk {P : ParS} {n : Nat} (h : PK P n) (c i : Nat) : PK (P.feed c i) (n + 26) := by
  have hd := @classF_digit c
  have hnum := number_pk (P := { P with state := 0 }) (n := n) ⟨h.ar, h.val, by simp⟩
  obtain ⟨a, b, s⟩ := h
  unfold ParS.feed
  by_cases h0 : P.state = 0
  · rw [if_pos h0]
    unfold ParS.begin
    by_cases h4 : classF c = 4
    · rw [if_pos h4]; exact ⟨by simp only []; omega, b, by simp⟩
    · rw [if_neg h4]
      by_cases h5 : classF c = 5
      · rw [if_pos h5]; split
        · exact ⟨by simp only [ParS.fail]; omega, b, s⟩
        · exact ⟨by simp only []; omega, b, by simp⟩
      · rw [if_neg h5]
        by_cases h3 : classF c = 3
        · rw [if_pos h3]; exact ⟨by simp only []; omega, by simp, by simp⟩
        · rw [if_neg h3]
          by_cases h2 : classF c = 2
          · rw [if_pos h2]; have := hd h2; exact ⟨by simp only []; omega, by simp only []; omega, by simp⟩
          · rw [if_neg h2]; split
            · exact ⟨by simp only [ParS.fail]; omega, b, s⟩
            · exact ⟨by simp only []; omega, b, s⟩
  · rw [if_neg h0]
    by_cases h1 : P.state = 1
    · rw [if_pos h1]; split
      · exact ⟨by simp only []; omega, b, by simp⟩
      · exact ⟨by omega, b, s⟩
    · rw [if_neg h1]
      by_cases h2 : P.state = 2
      · rw [if_pos h2]
        by_cases hc : classF c = 2
        · rw [if_pos hc]; have := hd hc; exact ⟨by simp only []; omega, by simp only []; omega, by simp⟩
        · rw [if_neg hc]; split <;> exact ⟨by simp only [ParS.fail]; omega, b, s⟩
      · rw [if_neg h2]
        by_cases h3 : P.state = 3
        · rw [if_pos h3]
          by_cases hc : classF c = 2
          · rw [if_pos hc]; exact ⟨by simp only []; omega, by simp only []; split <;> omega, s⟩
          · rw [if_neg hc]; split
            · exact hnum
            · exact ⟨by simp only [ParS.fail]; omega, b, s⟩
        · rw [if_neg h3]; split
          · exact ⟨by simp only []; omega, b, by simp⟩
          · exact ⟨by simp only [ParS.fail]; omega, b, s⟩

set_option maxRecDepth 100000 in
set_option maxHeartbeats 8000000 in
theorem feed_any {w : World} {b : Nat} {P : ParS} {av : Value} (h : ParAt w b P av) (c i : Nat) (hc : c < 256) (hi : i ≤ 1000000000) (hpk : PK P 1000000000) :
    Calls Tryz.prog 74 #[.pointer (some ⟨b, 0, none⟩), .int .u8 c, .int .i64 i] w fun r w' => r = .returned (.tuple #[]) ∧ ∃ av', ParAt w' b (P.feed c i) av' ∧ Nx w av av' ∧ Fr (b :: blk av) w w' := by
  have h1 := h.at_.state
  change w.cell? ⟨b, 1, none⟩ = some (.int .i64 (P.state : Nat)) at h1
  have h2 := h.at_.start
  change w.cell? ⟨b, 2, none⟩ = some (.int .i64 (P.start : Nat)) at h2
  have h4 := h.at_.val
  change w.cell? ⟨b, 4, none⟩ = some (.int .i64 (P.val : Nat)) at h4
  have hfz := h.at_.froz
  have hN : P.feed c i = if P.state = 0 then P.begin c (classF c) i
    else if P.state = 1 then (if c = 10 then { P with state := 0 } else P)
    else if P.state = 2 then (if classF c = 2 then { P with state := 3, val := c - 48 } else if classF c = 1 then P.fail 3 P.start else P.fail 2 i)
    else if P.state = 3 then (if classF c = 2 then { P with val := if 12 < P.val * 10 + (c - 48) then 13 else P.val * 10 + (c - 48) } else if classF c = 1 then ({ P with state := 0 } : ParS).number else P.fail 2 i)
    else (if classF c = 1 then { P with state := 0 } else P.fail 2 i) := rfl
  have HCL := hid (fun w => class_any c hc w)
  have hk5 := classF_le c
  have hkd := @classF_digit c
  obtain ⟨k, hk⟩ : ∃ k, classF c = k := ⟨_, rfl⟩
  rw [hk] at HCL hN hk5 hkd
  have HBG := hid (fun w h => pbegin_any (w := w) (b := b) (P := P) (av := av) h c k i hc hk5 hi (fun e => (hkd e).1))
  have HF3 := hid (fun w h => pfail_any (w := w) (b := b) (P := P) (av := av) h 3 P.start)
  have HF2 := hid (fun w h => pfail_any (w := w) (b := b) (P := P) (av := av) h 2 i)
  simp only [show ((3 : Nat) : Int) = 3 from rfl, show ((2 : Nat) : Int) = 2 from rfl] at HF3 HF2
  have hs0 := h.pState 0
  have HNU := hid (number_any hs0 hpk.ar hpk.val)
  simp only [show ((0 : Nat) : Int) = 0 from rfl] at HNU
  have HS0 := hid hs0
  have HH := hid h
  have hv13 := hpk.val
  have hst := hpk.st
  have hci : (c : Int) < 256 := by omega
  clear h hs0 hpk hk
  obtain ⟨v, hv⟩ : ∃ v, P.val = v := ⟨_, rfl⟩
  rw [hv] at h4 hv13
  have HV := hid hv
  rcases (by omega : P.state = 0 ∨ P.state = 1 ∨ P.state = 2 ∨ P.state = 3 ∨ P.state = 4) with e | e | e | e | e
  · rw [if_pos e] at hN
    rw [e] at h1
    have HN := hid hN
    clear hN e hst hv hkd
    refine calls_via fun K hK => ?_
    go_enter Tryz.func74, Tryz.ntmps74
    go_wp2_with (first | (go_at_call 105; refine (HCL.out _).mono ?_; rintro e w' ⟨rfl, hw⟩; have hw2 := hw.symm; subst hw2; clear hw))
    refine (HBG.out _ HH.out).mono ?_
    rintro e w2 ⟨rfl, hp2, hf2⟩
    go_wp2_with fail
    try go_end0
    refine hK.out _ _ ⟨rfl, av, by rw [HN.out]; exact hp2, Nx.refl _ _, hf2.mono (by simp)⟩
  · rw [if_neg (by omega), if_pos e] at hN
    rw [e] at h1
    clear e hst hv hkd
    by_cases h10 : c = 10
    · rw [if_pos h10] at hN
      have hb1 : ((c : Int) == 10) = true := by simp [h10]
      have HN := hid hN
      clear hN h10
      refine calls_via fun K hK => ?_
      go_enter Tryz.func74, Tryz.ntmps74
      go_wp2_with (first | (go_at_call 105; refine (HCL.out _).mono ?_; rintro e w' ⟨rfl, hw⟩; have hw2 := hw.symm; subst hw2; clear hw))
      try go_end0
      refine hK.out _ _ ⟨rfl, av, by rw [HN.out]; exact HS0.out, Nx.refl _ _, (Fr.refl _ _).set (by simp) _⟩
    · rw [if_neg h10] at hN
      have hb1 : ((c : Int) == 10) = false := by simp; omega
      have HN := hid hN
      clear hN h10
      refine calls_via fun K hK => ?_
      go_enter Tryz.func74, Tryz.ntmps74
      go_wp2_with (first | (go_at_call 105; refine (HCL.out _).mono ?_; rintro e w' ⟨rfl, hw⟩; have hw2 := hw.symm; subst hw2; clear hw))
      try go_end0
      refine hK.out _ _ ⟨rfl, av, by rw [HN.out]; exact HH.out, Nx.refl _ _, Fr.refl _ _⟩
  · rw [if_neg (by omega), if_neg (by omega), if_pos e] at hN
    rw [e] at h1
    clear e hst hv
    by_cases hk2 : k = 2
    · rw [if_pos hk2] at hN
      have hd := hkd hk2
      have hci2 : (48 : Int) ≤ c := by omega
      have hci3 : (c : Int) ≤ 57 := by omega
      have hcn : Hid (((c - 48 : Nat) : Int) = (c : Int) - 48) := by show _ = _; omega
      have hb1 : ((k : Int) == 2) = true := by simp [hk2]
      have HN := hid hN
      clear hN hkd hd hk2
      refine calls_via fun K hK => ?_
      go_enter Tryz.func74, Tryz.ntmps74
      go_wp2_with (first | (go_at_call 105; refine (HCL.out _).mono ?_; rintro e w' ⟨rfl, hw⟩; have hw2 := hw.symm; subst hw2; clear hw))
      try go_end0
      have := (HH.out.pState 3).pVal (c - 48)
      rw [hcn.out] at this
      refine hK.out _ _ ⟨rfl, av, by rw [HN.out]; exact this, Nx.refl _ _, ((Fr.refl _ _).set (by simp) _).set (by simp) _⟩
    · rw [if_neg hk2] at hN
      have hb1 : ((k : Int) == 2) = false := by simp; omega
      by_cases hk1 : k = 1
      · rw [if_pos hk1] at hN
        have hb2 : ((k : Int) == 1) = true := by simp [hk1]
        have HN := hid hN
        clear hN hkd hk2 hk1
        refine calls_via fun K hK => ?_
        go_enter Tryz.func74, Tryz.ntmps74
        go_wp2_with (first | (go_at_call 105; refine (HCL.out _).mono ?_; rintro e w' ⟨rfl, hw⟩; have hw2 := hw.symm; subst hw2; clear hw))
        refine (HF3.out _ HH.out).mono ?_
        rintro e w2 ⟨rfl, hp2, hf2⟩
        go_wp2_with fail
        try go_end0
        refine hK.out _ _ ⟨rfl, av, by rw [HN.out]; exact hp2, Nx.refl _ _, hf2.mono (by simp)⟩
      · rw [if_neg hk1] at hN
        have hb2 : ((k : Int) == 1) = false := by simp; omega
        have HN := hid hN
        clear hN hkd hk2 hk1
        refine calls_via fun K hK => ?_
        go_enter Tryz.func74, Tryz.ntmps74
        go_wp2_with (first | (go_at_call 105; refine (HCL.out _).mono ?_; rintro e w' ⟨rfl, hw⟩; have hw2 := hw.symm; subst hw2; clear hw))
        refine (HF2.out _ HH.out).mono ?_
        rintro e w2 ⟨rfl, hp2, hf2⟩
        go_wp2_with fail
        try go_end0
        refine hK.out _ _ ⟨rfl, av, by rw [HN.out]; exact hp2, Nx.refl _ _, hf2.mono (by simp)⟩
  · rw [if_neg (by omega), if_neg (by omega), if_neg (by omega), if_pos e] at hN
    rw [e] at h1
    clear e hst hv
    by_cases hk2 : k = 2
    · rw [if_pos hk2] at hN
      have hd := hkd hk2
      have hci2 : (48 : Int) ≤ c := by omega
      have hci3 : (c : Int) ≤ 57 := by omega
      have hvi : (v : Int) ≤ 13 := by omega
      have hcn : Hid (((v * 10 + (c - 48) : Nat) : Int) = (v : Int) * 10 + ((c : Int) - 48)) := by show _ = _; omega
      have hb1 : ((k : Int) == 2) = true := by simp [hk2]
      by_cases h12 : 12 < v * 10 + (c - 48)
      · have hgi : (12 : Int) < (v : Int) * 10 + ((c : Int) - 48) := by omega
        have HN : Hid (P.feed c i = { P with val := 13 }) := by show _ = _; rw [hN, HV.out, if_pos h12]
        clear hN hkd hd hk2 h12
        refine calls_via fun K hK => ?_
        go_enter Tryz.func74, Tryz.ntmps74
        go_wp2_with (first | (go_at_call 105; refine (HCL.out _).mono ?_; rintro e w' ⟨rfl, hw⟩; have hw2 := hw.symm; subst hw2; clear hw))
        try go_end0
        have := (HH.out.pVal (v * 10 + (c - 48))).pVal 13
        rw [hcn.out] at this
        refine hK.out _ _ ⟨rfl, av, by rw [HN.out]; exact this, Nx.refl _ _, ((Fr.refl _ _).set (by simp) _).set (by simp) _⟩
      · have hgi : ¬ (12 : Int) < (v : Int) * 10 + ((c : Int) - 48) := by omega
        have HN : Hid (P.feed c i = { P with val := v * 10 + (c - 48) }) := by show _ = _; rw [hN, HV.out, if_neg h12]
        clear hN hkd hd hk2 h12
        refine calls_via fun K hK => ?_
        go_enter Tryz.func74, Tryz.ntmps74
        go_wp2_with (first | (go_at_call 105; refine (HCL.out _).mono ?_; rintro e w' ⟨rfl, hw⟩; have hw2 := hw.symm; subst hw2; clear hw))
        try go_end0
        have := (HH.out.pVal (v * 10 + (c - 48)))
        rw [hcn.out] at this
        refine hK.out _ _ ⟨rfl, av, by rw [HN.out]; exact this, Nx.refl _ _, ((Fr.refl _ _).set (by simp) _)⟩
    · rw [if_neg hk2] at hN
      have hb1 : ((k : Int) == 2) = false := by simp; omega
      by_cases hk1 : k = 1
      · rw [if_pos hk1] at hN
        have hb2 : ((k : Int) == 1) = true := by simp [hk1]
        have HN := hid hN
        clear hN hkd hk2 hk1
        refine calls_via fun K hK => ?_
        go_enter Tryz.func74, Tryz.ntmps74
        go_wp2_with (first | (go_at_call 105; refine (HCL.out _).mono ?_; rintro e w' ⟨rfl, hw⟩; have hw2 := hw.symm; subst hw2; clear hw))
        refine HNU.out.mono ?_
        rintro e w2 ⟨rfl, av2, hp2, hn2, hf2⟩
        go_wp2_with fail
        try go_end0
        have hfs : Fr (b :: blk av) w (w.setCell ⟨b, 1, none⟩ (.int .i64 0)) := (Fr.refl _ _).set (by simp) _
        refine hK.out _ _ ⟨rfl, av2, by rw [HN.out]; exact hp2, (fun g hg => (hn2 g hg).imp (fun z => z) (fun z => Nat.le_trans hfs.size z)), hfs.trans hf2⟩
      · rw [if_neg hk1] at hN
        have hb2 : ((k : Int) == 1) = false := by simp; omega
        have HN := hid hN
        clear hN hkd hk2 hk1
        refine calls_via fun K hK => ?_
        go_enter Tryz.func74, Tryz.ntmps74
        go_wp2_with (first | (go_at_call 105; refine (HCL.out _).mono ?_; rintro e w' ⟨rfl, hw⟩; have hw2 := hw.symm; subst hw2; clear hw))
        refine (HF2.out _ HH.out).mono ?_
        rintro e w2 ⟨rfl, hp2, hf2⟩
        go_wp2_with fail
        try go_end0
        refine hK.out _ _ ⟨rfl, av, by rw [HN.out]; exact hp2, Nx.refl _ _, hf2.mono (by simp)⟩
  · rw [if_neg (by omega), if_neg (by omega), if_neg (by omega), if_neg (by omega)] at hN
    rw [e] at h1
    clear e hst hv hkd
    by_cases hk1 : k = 1
    · rw [if_pos hk1] at hN
      have hb2 : ((k : Int) == 1) = true := by simp [hk1]
      have HN := hid hN
      clear hN hk1
      refine calls_via fun K hK => ?_
      go_enter Tryz.func74, Tryz.ntmps74
      go_wp2_with (first | (go_at_call 105; refine (HCL.out _).mono ?_; rintro e w' ⟨rfl, hw⟩; have hw2 := hw.symm; subst hw2; clear hw))
      try go_end0
      refine hK.out _ _ ⟨rfl, av, by rw [HN.out]; exact HS0.out, Nx.refl _ _, (Fr.refl _ _).set (by simp) _⟩
    · rw [if_neg hk1] at hN
      have hb2 : ((k : Int) == 1) = false := by simp; omega
      have HN := hid hN
      clear hN hk1
      refine calls_via fun K hK => ?_
      go_enter Tryz.func74, Tryz.ntmps74
      go_wp2_with (first | (go_at_call 105; refine (HCL.out _).mono ?_; rintro e w' ⟨rfl, hw⟩; have hw2 := hw.symm; subst hw2; clear hw))
      refine (HF2.out _ HH.out).mono ?_
      rintro e w2 ⟨rfl, hp2, hf2⟩
      go_wp2_with fail
      try go_end0
      refine hK.out _ _ ⟨rfl, av, by rw [HN.out]; exact hp2, Nx.refl _ _, hf2.mono (by simp)⟩
end Go.Proofs.Qxb6500354aGreat
