/- THE WALKS over cnf: number, begin, feed. -/
import Derived.Test.Qxb6500354aGreatPar2
namespace Go.Proofs.Qxb6500354aGreat
open Go.RowKit
set_option linter.unusedVariables false
set_option linter.unusedSimpArgs false

set_option maxHeartbeats 4000000 in
theorem number_any {w : World} {b : Nat} {P : ParS} {av : Value} (h : ParAt w b P av) (hb : P.arena.length ≤ 1000000000) (hv : P.val ≤ 13) :
    Calls Tryz.prog 107 #[.pointer (some ⟨b, 0, none⟩)] w fun r w' => r = .returned (.tuple #[]) ∧ ∃ av', ParAt w' b P.number av' ∧ Nx w av av' ∧ Fr (b :: blk av) w w' := by
  have h2 := h.at_.start
  change w.cell? ⟨b, 2, none⟩ = some (.int .i64 (P.start : Nat)) at h2
  have h3 := h.at_.minus
  change w.cell? ⟨b, 3, none⟩ = some (.bool P.minus) at h3
  have h4 := h.at_.val
  change w.cell? ⟨b, 4, none⟩ = some (.int .i64 (P.val : Nat)) at h4
  have h5 := h.at_.pos
  change w.cell? ⟨b, 5, none⟩ = some (.int .u16 (P.pos : Nat)) at h5
  have h6 := h.at_.neg
  change w.cell? ⟨b, 6, none⟩ = some (.int .u16 (P.neg : Nat)) at h6
  have h8 := h.at_.opn
  change w.cell? ⟨b, 8, none⟩ = some (.bool P.opn) at h8
  have hfz := h.at_.froz
  have HH := hid h
  have HE := hid (fun n => endRow_any (h.drewN (n := n)) hb)
  have HE0 := hid (endRow_any h hb)
  have HF3 := hid (fun n => pfail_any (h.drewN (n := n)) 3 P.start)
  have HF4 := hid (fun n => pfail_any (h.drewN (n := n)) 4 P.start)
  have HF30 := hid (pfail_any h 3 P.start)
  have HF40 := hid (pfail_any h 4 P.start)
  simp only [show ((3 : Nat) : Int) = 3 from rfl, show ((4 : Nat) : Int) = 4 from rfl] at HF3 HF4 HF30 HF40
  have hN : P.number = if P.val = 0 ∧ P.minus = true then P.fail 3 P.start
    else if 12 < P.val then P.fail 4 P.start
    else if P.val = 0 then P.endRow
    else if P.minus = true then { P with opn := true, neg := setB P.neg P.val }
    else { P with opn := true, pos := setB P.pos P.val } := rfl
  obtain ⟨v, hvv⟩ : ∃ v, P.val = v := ⟨_, rfl⟩
  rw [hvv] at hN h4 hv
  have HV := hid hvv
  have hsub : Fr [b] w w → True := fun _ => trivial
  clear h hvv hsub
  by_cases h0 : v = 0
  · have hb1 : ((v : Int) == 0) = true := by simp [h0]
    have hng : ¬ (12 : Int) < v := by omega
    cases hm : P.minus with
    | true =>
      rw [if_pos ⟨h0, hm⟩] at hN
      rw [hm] at h3
      have HN := hid hN
      clear hN h0 hm
      refine calls_via fun K hK => ?_
      go_enter Tryz.func107, Tryz.ntmps107
      go_wp2_with fail
      refine HF30.out.mono ?_
      rintro e w2 ⟨rfl, hp2, hf2⟩
      go_wp2_with fail
      try go_end0
      refine hK.out _ _ ⟨rfl, av, by rw [HN.out]; exact hp2, Nx.refl _ _, hf2.mono (by simp)⟩
    | false =>
      rw [if_neg (fun z => by rw [hm] at z; simp at z), if_neg (by omega), if_pos h0] at hN
      rw [hm] at h3
      have HN := hid hN
      clear hN h0 hm
      refine calls_via fun K hK => ?_
      go_enter Tryz.func107, Tryz.ntmps107
      go_wp2_with fail
      refine HE0.out.mono ?_
      rintro e w2 ⟨rfl, av2, hp2, hn2, hf2⟩
      go_wp2_with fail
      try go_end0
      refine hK.out _ _ ⟨rfl, av2, by rw [HN.out]; exact hp2, hn2, hf2⟩
  · have hb1 : ((v : Int) == 0) = false := by simp [h0]
    rw [if_neg (fun z => h0 z.1)] at hN
    by_cases h12 : 12 < v
    · have hi : (12 : Int) < v := by omega
      rw [if_pos h12] at hN
      have HN := hid hN
      clear hN h0 h12
      refine calls_via fun K hK => ?_
      go_enter Tryz.func107, Tryz.ntmps107
      go_wp2_with fail
      refine HF40.out.mono ?_
      rintro e w2 ⟨rfl, hp2, hf2⟩
      go_wp2_with fail
      try go_end0
      refine hK.out _ _ ⟨rfl, av, by rw [HN.out]; exact hp2, Nx.refl _ _, hf2.mono (by simp)⟩
    · have hi : ¬ (12 : Int) < v := by omega
      have hv16 : v < 16 := by omega
      have hvi : (v : Int) < 16 := by omega
      have hv1 : (0 : Int) ≤ v := by omega
      rw [if_neg h12, if_neg h0] at hN
      have e1 := shl16 hv16
      change _ = ((pw v : Nat) : Int) at e1
      have e2 := or16 HH.out.neg (pow16 hv16)
      change bits .or .u16 (P.neg : Nat) (pw v : Nat) = ((setB P.neg v : Nat) : Int) at e2
      have e3 := or16 HH.out.pos (pow16 hv16)
      change bits .or .u16 (P.pos : Nat) (pw v : Nat) = ((setB P.pos v : Nat) : Int) at e3
      cases hm : P.minus with
      | true =>
        rw [if_pos hm] at hN
        rw [hm] at h3
        have HN := hid hN
        clear hN h0 hm h12
        refine calls_via fun K hK => ?_
        go_enter Tryz.func107, Tryz.ntmps107
        go_wp2_with fail
        try go_region
        try go_wp2_with fail
        try go_end0
        refine hK.out _ _ ⟨rfl, av, ?_, Nx.refl _ _, ?_⟩
        · rw [HN.out]
          have := (HH.out.pOpn true).pNeg (setB P.neg v) (setB_lt HH.out.neg hv16)
          simp only [← HV.out] at this ⊢
          first | exact this | exact this.drew
        · have := ((Fr.refl (b :: blk av) w).set (p := ⟨b, 8, none⟩) (by simp) (.bool true)).set (p := ⟨b, 6, none⟩) (by simp) (.int .u16 ((setB P.neg v : Nat) : Int))
          first | exact this | exact this.drew
      | false =>
        rw [if_neg (by rw [hm]; simp)] at hN
        rw [hm] at h3
        have HN := hid hN
        clear hN h0 hm h12
        refine calls_via fun K hK => ?_
        go_enter Tryz.func107, Tryz.ntmps107
        go_wp2_with fail
        try go_region
        try go_wp2_with fail
        try go_end0
        refine hK.out _ _ ⟨rfl, av, ?_, Nx.refl _ _, ?_⟩
        · rw [HN.out]
          have := (HH.out.pOpn true).pPos (setB P.pos v) (setB_lt HH.out.pos hv16)
          simp only [← HV.out] at this ⊢
          first | exact this | exact this.drew
        · have := ((Fr.refl (b :: blk av) w).set (p := ⟨b, 8, none⟩) (by simp) (.bool true)).set (p := ⟨b, 5, none⟩) (by simp) (.int .u16 ((setB P.pos v : Nat) : Int))
          first | exact this | exact this.drew

set_option maxHeartbeats 4000000 in
theorem pbegin_any {w : World} {b : Nat} {P : ParS} {av : Value} (h : ParAt w b P av) (c k i : Nat) (hc : c < 256) (hk : k ≤ 5) (hi : i ≤ 1000000000) (hk2 : k = 2 → 48 ≤ c) :
    Calls Tryz.prog 106 #[.pointer (some ⟨b, 0, none⟩), .int .u8 c, .int .i64 k, .int .i64 i] w fun r w' => r = .returned (.tuple #[]) ∧ ParAt w' b (P.begin c k i) av ∧ Fr [b] w w' := by
  have h1 := h.at_.state
  change w.cell? ⟨b, 1, none⟩ = some (.int .i64 (P.state : Nat)) at h1
  have h2 := h.at_.start
  change w.cell? ⟨b, 2, none⟩ = some (.int .i64 (P.start : Nat)) at h2
  have h3 := h.at_.minus
  change w.cell? ⟨b, 3, none⟩ = some (.bool P.minus) at h3
  have h4 := h.at_.val
  change w.cell? ⟨b, 4, none⟩ = some (.int .i64 (P.val : Nat)) at h4
  have h7 := h.at_.del
  change w.cell? ⟨b, 7, none⟩ = some (.bool P.del) at h7
  have h8 := h.at_.opn
  change w.cell? ⟨b, 8, none⟩ = some (.bool P.opn) at h8
  have hfz := h.at_.froz
  have hs := h.pStart i
  have HF := hid (pfail_any hs 2 i)
  simp only [show ((2 : Nat) : Int) = 2 from rfl] at HF
  have HS := hid hs
  have HFS : Hid (Fr [b] w (w.setCell ⟨b, 2, none⟩ (.int .i64 (i : Nat)))) := (Fr.refl _ _).set (by simp) _
  have HH := hid h
  have hB : P.begin c k i = if k = 4 then { P with start := i, state := 1 }
    else if k = 5 then (if P.opn = true then ({ P with start := i } : ParS).fail 2 i else { P with start := i, state := 4, del := true, opn := true })
    else if k = 3 then { P with start := i, state := 2, minus := true, val := 0 }
    else if k = 2 then { P with start := i, state := 3, minus := false, val := c - 48 }
    else if k = 0 then ({ P with start := i } : ParS).fail 2 i
    else { P with start := i } := rfl
  clear h hs
  rcases (by omega : k = 0 ∨ k = 1 ∨ k = 2 ∨ k = 3 ∨ k = 4 ∨ k = 5) with e | e | e | e | e | e <;> subst e
  · have HB := hid hB
    clear hB hk2 hk
    refine calls_via fun K hK => ?_
    go_enter Tryz.func106, Tryz.ntmps106
    go_wp2_with fail
    refine HF.out.mono ?_
    rintro e w2 ⟨rfl, hp2, hf2⟩
    go_wp2_with fail
    try go_end0
    exact hK.out _ _ ⟨rfl, hp2, HFS.out.trans hf2⟩
  · have HB := hid hB
    clear hB hk2 hk
    refine calls_via fun K hK => ?_
    go_enter Tryz.func106, Tryz.ntmps106
    go_wp2_with fail
    try go_end0
    exact hK.out _ _ ⟨rfl, HS.out, HFS.out⟩
  · have hc48 := hk2 rfl
    have hci : (48 : Int) ≤ c := by omega
    have hci2 : (c : Int) < 256 := by omega
    have hcn : Hid (((c - 48 : Nat) : Int) = (c : Int) - 48) := by show _ = _; omega
    have HB := hid hB
    clear hB hk2 hk hc48
    refine calls_via fun K hK => ?_
    go_enter Tryz.func106, Tryz.ntmps106
    go_wp2_with fail
    try go_region
    try go_wp2_with fail
    try go_end0
    refine hK.out _ _ ⟨rfl, ?_, ?_⟩
    · have := (((HS.out.pState 3).pMinus false).pVal (c - 48))
      rw [hcn.out] at this
      first | exact this | exact this.drew | exact this.drewN
    · have := (((HFS.out.set (p := ⟨b, 1, none⟩) (by simp) (.int .i64 3)).set (p := ⟨b, 3, none⟩) (by simp) (.bool false)).set (p := ⟨b, 4, none⟩) (by simp) (.int .i64 ((c : Int) - 48)))
      first | exact this | exact this.drew | exact this.drewN
  · have HB := hid hB
    clear hB hk2 hk
    refine calls_via fun K hK => ?_
    go_enter Tryz.func106, Tryz.ntmps106
    go_wp2_with fail
    try go_end0
    refine hK.out _ _ ⟨rfl, ?_, ?_⟩
    · have := (((HS.out.pState 2).pMinus true).pVal 0)
      first | exact this | exact this.drew | exact this.drewN
    · have := (((HFS.out.set (p := ⟨b, 1, none⟩) (by simp) (.int .i64 2)).set (p := ⟨b, 3, none⟩) (by simp) (.bool true)).set (p := ⟨b, 4, none⟩) (by simp) (.int .i64 0))
      first | exact this | exact this.drew | exact this.drewN
  · have HB := hid hB
    clear hB hk2 hk
    refine calls_via fun K hK => ?_
    go_enter Tryz.func106, Tryz.ntmps106
    go_wp2_with fail
    try go_end0
    refine hK.out _ _ ⟨rfl, ?_, ?_⟩
    · have := (HS.out.pState 1)
      first | exact this | exact this.drew | exact this.drewN
    · have := (HFS.out.set (p := ⟨b, 1, none⟩) (by simp) (.int .i64 1))
      first | exact this | exact this.drew | exact this.drewN
  · cases ho : P.opn with
    | true =>
      rw [ho] at h8
      have HB := hid hB
      have HO := hid ho
      clear hB hk2 hk ho
      refine calls_via fun K hK => ?_
      go_enter Tryz.func106, Tryz.ntmps106
      go_wp2_with fail
      refine HF.out.mono ?_
      rintro e w2 ⟨rfl, hp2, hf2⟩
      go_wp2_with fail
      try go_end0
      refine hK.out _ _ ⟨rfl, ?_, HFS.out.trans hf2⟩
      have e : P.begin c 5 i = ({ P with start := i } : ParS).fail 2 i := by unfold ParS.begin; simp [HO.out]
      rw [e]; exact hp2
    | false =>
      rw [ho] at h8
      have HB := hid hB
      have HO := hid ho
      clear hB hk2 hk ho
      refine calls_via fun K hK => ?_
      go_enter Tryz.func106, Tryz.ntmps106
      go_wp2_with fail
      try go_end0
      refine hK.out _ _ ⟨rfl, ?_, ?_⟩
      · have e : P.begin c 5 i = { P with start := i, state := 4, del := true, opn := true } := by unfold ParS.begin; simp [HO.out]
        rw [e]
        have := (((HS.out.pState 4).pDel true).pOpn true)
        first | exact this | exact this.drew | exact this.drewN
      · have := (((HFS.out.set (p := ⟨b, 1, none⟩) (by simp) (.int .i64 4)).set (p := ⟨b, 7, none⟩) (by simp) (.bool true)).set (p := ⟨b, 8, none⟩) (by simp) (.bool true))
        first | exact this | exact this.drew | exact this.drewN
end Go.Proofs.Qxb6500354aGreat
