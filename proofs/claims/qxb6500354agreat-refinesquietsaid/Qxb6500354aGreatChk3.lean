/- THE WALKS over check: drop, seek, wipe. -/
import Derived.Test.Qxb6500354aGreatChk2
namespace Go.Proofs.Qxb6500354aGreat
open Go.RowKit
set_option linter.unusedVariables false
set_option linter.unusedSimpArgs false

theorem posB_bit {c : List Int} {k : Nat} : (posB c).testBit k = true ↔ ∃ l ∈ c, 0 < l ∧ l.natAbs - 1 = k := by
  induction c with
  | nil => simp [posB]
  | cons l r ih =>
    unfold posB
    rw [Nat.testBit_or, Bool.or_eq_true, ih]
    by_cases h : 0 < l
    · rw [if_pos h]; unfold bitV; rw [Nat.testBit_two_pow, decide_eq_true_eq]
      constructor
      · rintro (e | ⟨x, hx, e⟩)
        · exact ⟨l, List.mem_cons_self, h, e⟩
        · exact ⟨x, List.mem_cons_of_mem _ hx, e⟩
      · rintro ⟨x, hx, e1, e2⟩
        rcases List.mem_cons.1 hx with q | q
        · subst q; exact .inl e2
        · exact .inr ⟨x, q, e1, e2⟩
    · rw [if_neg h]
      simp only [Nat.zero_testBit, Bool.false_eq_true, false_or]
      constructor
      · rintro ⟨x, hx, e⟩; exact ⟨x, List.mem_cons_of_mem _ hx, e⟩
      · rintro ⟨x, hx, e1, e2⟩
        rcases List.mem_cons.1 hx with q | q
        · subst q; exact absurd e1 h
        · exact ⟨x, q, e1, e2⟩
theorem negB_bit {c : List Int} {k : Nat} : (negB c).testBit k = true ↔ ∃ l ∈ c, ¬ 0 < l ∧ l.natAbs - 1 = k := by
  induction c with
  | nil => simp [negB]
  | cons l r ih =>
    unfold negB
    rw [Nat.testBit_or, Bool.or_eq_true, ih]
    by_cases h : 0 < l
    · rw [if_pos h]
      simp only [Nat.zero_testBit, Bool.false_eq_true, false_or]
      constructor
      · rintro ⟨x, hx, e⟩; exact ⟨x, List.mem_cons_of_mem _ hx, e⟩
      · rintro ⟨x, hx, e1, e2⟩
        rcases List.mem_cons.1 hx with q | q
        · subst q; exact absurd h e1
        · exact ⟨x, q, e1, e2⟩
    · rw [if_neg h]; unfold bitV; rw [Nat.testBit_two_pow, decide_eq_true_eq]
      constructor
      · rintro (e | ⟨x, hx, e⟩)
        · exact ⟨l, List.mem_cons_self, h, e⟩
        · exact ⟨x, List.mem_cons_of_mem _ hx, e⟩
      · rintro ⟨x, hx, e1, e2⟩
        rcases List.mem_cons.1 hx with q | q
        · subst q; exact .inl e2
        · exact .inr ⟨x, q, e1, e2⟩
theorem mem_of_bits {c d : List Int} (hc : ∀ x ∈ c, good x = true) (hd : ∀ x ∈ d, good x = true) (hp : posB c = posB d) (hn : negB c = negB d) {l : Int} (h : l ∈ c) : l ∈ d := by
  have hg := (good_iff l).1 (hc l h)
  by_cases e : 0 < l
  · have h1 := posB_bit.2 ⟨l, h, e, rfl⟩
    rw [hp] at h1
    obtain ⟨x, hx, e1, e2⟩ := posB_bit.1 h1
    have := (good_iff x).1 (hd x hx)
    rw [show l = x from by omega]; exact hx
  · have h1 := negB_bit.2 ⟨l, h, e, rfl⟩
    rw [hn] at h1
    obtain ⟨x, hx, e1, e2⟩ := negB_bit.1 h1
    have := (good_iff x).1 (hd x hx)
    rw [show l = x from by omega]; exact hx
theorem sorted_ext : ∀ {c d : List Int}, c.Pairwise (fun a b => a.natAbs < b.natAbs) → d.Pairwise (fun a b => a.natAbs < b.natAbs) → (∀ x, x ∈ c ↔ x ∈ d) → c = d := by
  intro c
  induction c with
  | nil =>
    intro d _ _ h
    cases d with
    | nil => rfl
    | cons m s => exact absurd ((h m).2 List.mem_cons_self) (by simp)
  | cons l r ih =>
    intro d h1 h2 h
    cases d with
    | nil => exact absurd ((h l).1 List.mem_cons_self) (by simp)
    | cons m s =>
      obtain ⟨a1, a2⟩ := List.pairwise_cons.1 h1
      obtain ⟨b1, b2⟩ := List.pairwise_cons.1 h2
      have e : l = m := by
        rcases List.mem_cons.1 ((h l).1 List.mem_cons_self) with q | q
        · exact q
        · rcases List.mem_cons.1 ((h m).2 List.mem_cons_self) with q2 | q2
          · exact q2.symm
          · have := b1 l q; have := a1 m q2; omega
      subst e
      rw [ih a2 b2 fun x => ?_]
      constructor
      · intro hx
        rcases List.mem_cons.1 ((h x).1 (List.mem_cons_of_mem _ hx)) with q | q
        · subst q; have := a1 x hx; omega
        · exact q
      · intro hx
        rcases List.mem_cons.1 ((h x).2 (List.mem_cons_of_mem _ hx)) with q | q
        · subst q; have := b1 x hx; omega
        · exact q
theorem bits_inj {c d : List Int} (hc : checkClause c = 0) (hd : checkClause d = 0) (hp : posB c = posB d) (hn : negB c = negB d) : c = d := by
  obtain ⟨_, a1, a2⟩ := checkClause_facts hc
  obtain ⟨_, b1, b2⟩ := checkClause_facts hd
  exact sorted_ext (List.pairwise_map.1 a2) (List.pairwise_map.1 b2) fun x => ⟨mem_of_bits a1 b1 hp hn, mem_of_bits b1 a1 hp.symm hn.symm⟩
theorem quiet_slot (id : Nat) (h : id < 64) (w : World) : Calls Tryz.prog 100 #[.int .i64 id] w fun e w' => e = .returned (.int .u64 (pw id : Nat)) ∧ w' = w := cslot_any id h w
theorem CkAt.drewN {w : World} {n b q : Nat} {sl : Slots} (h : CkAt w b q sl) : CkAt (w.drewN n) b q sl := let ⟨R, a, c⟩ := h; ⟨R, a.drewN, c⟩
theorem seekF_succ (sl : Slots) (c : List Int) (n s : Nat) : seekF sl c (n + 1) s = if hasRow (sl s) c = true then some s else seekF sl c n (s + 1) := rfl
theorem slot_bits {R : CheckR} {q : Nat} {sl : Slots} (h : CkOf R q sl) {c : List Int} (hc : checkClause c = 0) {k : Nat} (hk : k < 64) :
    R.used.testBit k = false ∧ hasRow (sl k) c = false ∨ R.used.testBit k = true ∧ hasRow (sl k) c = (decide (R.pos k = posB c) && decide (R.neg k = negB c)) := by
  rw [h.used k hk, h.pos k hk, h.neg k hk]
  cases e : sl k with
  | none => left; exact ⟨rfl, rfl⟩
  | some d =>
    right
    refine ⟨rfl, ?_⟩
    have hd := h.ok k hk d e
    unfold hasRow slotP slotN
    rw [Bool.eq_iff_iff, beq_iff_eq, Bool.and_eq_true, decide_eq_true_eq, decide_eq_true_eq]
    exact ⟨fun e => by subst e; exact ⟨rfl, rfl⟩, fun e => bits_inj hd hc e.1 e.2⟩
set_option maxHeartbeats 2000000 in
theorem seek_any {w : World} {b q : Nat} {sl : Slots} (h : CkAt w b q sl) {c : List Int} (hc : checkClause c = 0) :
    Calls Tryz.prog 133 #[.pointer (some ⟨b, 0, none⟩), .int .u16 (posB c : Nat), .int .u16 (negB c : Nat)] w fun e w' => e = .returned (.int .i64 (slotI (seekF sl c 64 0))) ∧ ∃ n, w' = w.drewN n := by
  obtain ⟨R, hR, ho⟩ := h
  obtain ⟨res, hres⟩ : ∃ r, seekF sl c 64 0 = r := ⟨_, rfl⟩
  have hu0 := hR.used
  have HRES := hid hres
  have HR := hid hR
  have HO := hid ho
  have HC := hid hc
  rw [hres]
  clear hres hR ho hc
  refine calls_via fun K hK => ?_
  go_enter Tryz.func133, Tryz.ntmps133
  go_wp2_with fail
  go_loopg [7] 64 (fun g i wr => g ≤ 64 ∧ (∃ n, wr = w.drewN n) ∧ i = .int .i64 ((64 - g : Nat) : Int) ∧ res = seekF sl c g (64 - g))
  case atStart => exact ⟨by omega, ⟨0, rfl⟩, by simp, HRES.out.symm⟩
  case round =>
    obtain ⟨hg, ⟨n0, rfl⟩, rfl, he⟩ := hrel
    by_cases hlt : 0 < gk
    · obtain ⟨k, hk⟩ : ∃ k, 64 - gk = k := ⟨_, rfl⟩
      rw [hk] at he ⊢
      have hk64 : k < 64 := by omega
      have hki : (k : Int) < 64 := by omega
      obtain ⟨g2, rfl⟩ : ∃ g2, gk = g2 + 1 := ⟨gk - 1, by omega⟩
      rw [seekF_succ] at he
      have hb := and64 (b := pw k) HO.out.usedlt (pow64 hk64)
      have hcp := HR.out.pos k hk64
      have hcn := HR.out.neg k hk64
      have hsb := slot_bits HO.out HC.out hk64
      have hz : (((R.used &&& pw k : Nat) : Int) != 0) = R.used.testBit k := and_pow_ne _ _
      have HQ := hid (fun w => cslot_any k hk64 w)
      have HK := hid hk
      clear hk
      rcases hsb with ⟨e1, e2⟩ | ⟨e1, e2⟩
      · rw [e2, if_neg (by simp)] at he
        rw [e1] at hz
        have HE := hid he
        clear he e1 e2 hcp hcn hk64
        go_wp2_with fail
        go_quiet ((go_at_call 100; exact (HQ.out _).mono fun _ _ h => ⟨h.1, _, h.2⟩))
        go_wp2_with fail
        go_roundg g2
        case measure => omega
        case rel =>
          have hk := HK.out
          refine ⟨by omega, ?_, ?_, ?_⟩
          · first | exact ⟨_, rfl⟩ | (rw [World.drewN_drewN]; exact ⟨_, rfl⟩)
          · rw [show 64 - g2 = k + 1 from by omega]; simp
          · rw [show 64 - g2 = k + 1 from by omega]; exact HE.out
      · rw [e1] at hz
        have hgo : ∀ x : Bool, (decide (R.pos k = posB c) && decide (R.neg k = negB c)) = x → hasRow (sl k) c = x := fun x hx => e2.trans hx
        by_cases p1 : R.pos k = posB c
        · by_cases p2 : R.neg k = negB c
          · rw [hgo true (by simp [p1, p2]), if_pos rfl] at he
            rw [p1] at hcp
            rw [p2] at hcn
            have HE := hid he
            clear he e1 e2 hk64 hgo p1 p2
            go_wp2_with fail
            go_quiet ((go_at_call 100; exact (HQ.out _).mono fun _ _ h => ⟨h.1, _, h.2⟩))
            go_wp2_with fail
            try go_quiet (fail)
            try go_wp2_with fail
            refine hK.out _ _ ⟨?_, _, by first | rfl | (rw [World.drewN_drewN])⟩
            rw [HE.out]; rfl
          · rw [hgo false (by simp [p2]), if_neg (by simp)] at he
            rw [p1] at hcp
            have hb2 : (((R.neg k : Nat) : Int) == ((negB c : Nat) : Int)) = false := by rw [← Bool.not_eq_true, beq_iff_eq]; omega
            have HE := hid he
            clear he e1 e2 hk64 hgo p1 p2
            go_wp2_with fail
            go_quiet ((go_at_call 100; exact (HQ.out _).mono fun _ _ h => ⟨h.1, _, h.2⟩))
            go_wp2_with fail
            try go_quiet (fail)
            try go_wp2_with fail
            go_roundg g2
            case measure => omega
            case rel =>
              have hk := HK.out
              refine ⟨by omega, ?_, ?_, ?_⟩
              · first | exact ⟨_, rfl⟩ | (rw [World.drewN_drewN]; exact ⟨_, rfl⟩)
              · rw [show 64 - g2 = k + 1 from by omega]; simp
              · rw [show 64 - g2 = k + 1 from by omega]; exact HE.out
        · rw [hgo false (by simp [p1]), if_neg (by simp)] at he
          have hb1 : (((R.pos k : Nat) : Int) == ((posB c : Nat) : Int)) = false := by rw [← Bool.not_eq_true, beq_iff_eq]; omega
          have HE := hid he
          clear he e1 e2 hk64 hgo p1
          go_wp2_with fail
          go_quiet ((go_at_call 100; exact (HQ.out _).mono fun _ _ h => ⟨h.1, _, h.2⟩))
          go_wp2_with fail
          try go_quiet (fail)
          try go_wp2_with fail
          go_roundg g2
          case measure => omega
          case rel =>
            have hk := HK.out
            refine ⟨by omega, ?_, ?_, ?_⟩
            · first | exact ⟨_, rfl⟩ | (rw [World.drewN_drewN]; exact ⟨_, rfl⟩)
            · rw [show 64 - g2 = k + 1 from by omega]; simp
            · rw [show 64 - g2 = k + 1 from by omega]; exact HE.out
    · have hg0 : gk = 0 := by omega
      subst hg0
      have HE : Hid (res = none) := he
      clear he hlt hg
      go_wp2_with fail
      refine hK.out _ _ ⟨?_, _, rfl⟩
      rw [HE.out]; rfl
end Go.Proofs.Qxb6500354aGreat
