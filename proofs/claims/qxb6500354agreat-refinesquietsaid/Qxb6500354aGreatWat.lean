/- THE WALKS over watch: the small ones. -/
import Derived.Test.Qxb6500354aGreatTrl4
import Derived.Test.Qxb6500354aGreatBits
namespace Go.Proofs.Qxb6500354aGreat
open Go.RowKit
set_option linter.unusedVariables false
set_option linter.unusedSimpArgs false

/-- 2 ^ id, closed to simp. -/
def pw (id : Nat) : Nat := 2 ^ id
theorem bit_any (id : Nat) (h : id < 64) (w : World) : Calls Tryz.prog 111 #[.int .i64 id] w fun e w' => e = .returned (.int .u64 (pw id : Nat)) ∧ w' = w := by
  refine calls_via fun K hK => ?_
  go_enter Tryz.func111, Tryz.ntmps111
  go_wp2
  exact hK.out _ _ ⟨ret_int (shl64 h), rfl⟩
theorem has_any (s id : Nat) (h : id < 64) (hs : s < 2 ^ 64) (w : World) : Calls Tryz.prog 99 #[.int .u64 s, .int .i64 id] w fun e w' => e = .returned (.bool (s.testBit id)) ∧ w' = w := by
  refine calls_via fun K hK => ?_
  go_enter Tryz.func99, Tryz.ntmps99
  go_wp2
  exact hK.out _ _ ⟨ret_bool (shr_and64 id hs), rfl⟩
theorem code_any (l : Int) (h : good l = true) (w : World) : Calls Tryz.prog 140 #[.int .i64 l] w fun e w' => e = .returned (.int .i64 (code l : Nat)) ∧ w' = w := by
  have hg := (good_iff l).1 h
  by_cases hp : 0 < l
  · have hq : Hid (2 * l = ((code l : Nat) : Int)) := by show _ = _; unfold code; rw [if_pos hp]; omega
    have h1 : l ≤ 12 := by omega
    have h2 : -12 ≤ l := by omega
    clear hg
    refine calls_via fun K hK => ?_
    go_enter Tryz.func140, Tryz.ntmps140
    go_wp2
    exact hK.out _ _ ⟨ret_int hq.out, rfl⟩
  · have hq : Hid (1 - 2 * l = ((code l : Nat) : Int)) := by show _ = _; unfold code; rw [if_neg hp]; omega
    have h1 : l ≤ 12 := by omega
    have h2 : -12 ≤ l := by omega
    clear hg
    refine calls_via fun K hK => ?_
    go_enter Tryz.func140, Tryz.ntmps140
    go_wp2
    exact hK.out _ _ ⟨ret_int hq.out, rfl⟩
theorem code_lt {l : Int} (h : good l = true) : code l < 26 := by
  have hg := (good_iff l).1 h
  unfold code; split <;> omega

/-- The raw cells of a store are those of W. -/
structure WatchOf (R : WatchR) (tb : Nat) (W : WatchS) : Prop where
  t : R.t = .pointer (some ⟨tb, 0, none⟩)
  len : ∀ id, id < 52 → (W.cl id).length ≤ 12
  gd : ∀ id, id < 52 → ∀ l ∈ W.cl id, good l = true
  dist : ∀ id, id < 52 → ((W.cl id).map Int.natAbs).Nodup
  size : ∀ id, id < 52 → R.size id = (W.cl id).length
  lits : ∀ id, id < 52 → ∀ i, i < (W.cl id).length → R.lits (id * 12 + i) = (W.cl id).getD i 0
  used : R.used = W.used
  fresh : R.fresh = W.fresh
  weak : R.weak = W.weak
  list : ∀ c, c < 26 → R.list c = W.wl c
  usedlt : W.used < 2 ^ 64
  freshlt : W.fresh < 2 ^ 64
  weaklt : W.weak < 2 ^ 64
  listlt : ∀ c, c < 26 → W.wl c < 2 ^ 64
def WatAt (w : World) (b tb : Nat) (W : WatchS) : Prop := ∃ R, WatchAt w b R ∧ WatchOf R tb W

theorem WatAt.drewN {w : World} {b tb n : Nat} {W : WatchS} (h : WatAt w b tb W) : WatAt (w.drewN n) b tb W := let ⟨R, a, c⟩ := h; ⟨R, a.drewN, c⟩
theorem WatAt.drew {w : World} {b tb : Nat} {W : WatchS} (h : WatAt w b tb W) : WatAt w.drew b tb W := let ⟨R, a, c⟩ := h; ⟨R, a.drew, c⟩
theorem WatAt.alloc {w : World} {b tb : Nat} {W : WatchS} (h : WatAt w b tb W) (o : Obj) : WatAt (w.alloc o) b tb W := let ⟨R, a, c⟩ := h; ⟨R, a.alloc o, c⟩
theorem WatAt.other {w : World} {b tb : Nat} {W : WatchS} (h : WatAt w b tb W) {a : Addr} (hne : b ≠ a.block) (v : Value) : WatAt (w.setCell a v) b tb W := let ⟨R, q, c⟩ := h; ⟨R, q.other hne v, c⟩
theorem WatAt.fr {S : List Nat} {w w2 : World} {b tb : Nat} {W : WatchS} (h : WatAt w b tb W) (hf : Fr S w w2) (hn : b ∉ S) : WatAt w2 b tb W := let ⟨R, q, c⟩ := h; ⟨R, q.fr hf hn, c⟩
theorem WatAt.lt {w : World} {b tb : Nat} {W : WatchS} (h : WatAt w b tb W) : b < w.heap.size := let ⟨R, q, c⟩ := h; q.lt

theorem live_any {w : World} {b tb : Nat} {W : WatchS} (h : WatAt w b tb W) (id : Int) :
    Calls Tryz.prog 97 #[.pointer (some ⟨b, 0, none⟩), .int .i64 id] w fun e w' => e = .returned (.bool (W.live id)) ∧ w' = w := by
  obtain ⟨R, hR, ho⟩ := h
  have hu := hR.used
  rw [ho.used] at hu
  have hlt := ho.usedlt
  clear hR ho
  by_cases h0 : 0 ≤ id
  · by_cases h1 : id < 52
    · obtain ⟨n, rfl⟩ := Int.eq_ofNat_of_zero_le h0
      have hn : n < 64 := by omega
      have hq : Hid (W.used.testBit n = W.live (n : Int)) := by
        show _ = _; unfold WatchS.live; simp [h1]
      refine calls_via fun K hK => ?_
      go_enter Tryz.func97, Tryz.ntmps97
      go_wp2_with (go_at_call 99; refine (has_any _ _ hn hlt _).mono ?_; rintro e w' ⟨rfl, rfl⟩)
      exact hK.out _ _ ⟨ret_bool hq.out, rfl⟩
    · have hq : Hid (false = W.live id) := by show _ = _; unfold WatchS.live; simp [h1]
      refine calls_via fun K hK => ?_
      go_enter Tryz.func97, Tryz.ntmps97
      go_wp2_with fail
      exact hK.out _ _ ⟨ret_bool hq.out, rfl⟩
  · have hq : Hid (false = W.live id) := by show _ = _; unfold WatchS.live; simp [h0]
    refine calls_via fun K hK => ?_
    go_enter Tryz.func97, Tryz.ntmps97
    go_wp2_with fail
    exact hK.out _ _ ⟨ret_bool hq.out, rfl⟩

theorem wreset_any {w : World} {b tb : Nat} {W : WatchS} (h : WatAt w b tb W) :
    Calls Tryz.prog 77 #[.pointer (some ⟨b, 0, none⟩)] w fun e w' => e = .returned (.tuple #[]) ∧ WatAt w' b tb WatchS.empty ∧ Fr [b] w w' := by
  obtain ⟨R, hR, ho⟩ := h
  have h1 := hR.used
  have h2 := hR.fresh
  have h3 := hR.weak
  have h4 := hR.visits
  have hfr := hR.froz
  have HO : Hid (WatchOf R tb W) := ho
  have HR : Hid (WatchAt w b R) := hR
  clear ho hR
  refine calls_via fun K hK => ?_
  go_enter Tryz.func77, Tryz.ntmps77
  go_wp2_with fail
  go_loopg [2] 26 (fun g c wr => ∃ R1, g ≤ 26 ∧ c = .int .i64 ((26 - g : Nat) : Int) ∧ WatchAt wr b R1 ∧ R1.t = R.t ∧ R1.used = 0 ∧ R1.fresh = 0 ∧ R1.weak = 0 ∧ (∀ i, i < 26 - g → R1.list i = 0) ∧ Fr [b] w wr)
  case atStart =>
    refine ⟨_, by omega, rfl, (((HR.out.set_used 0).set_fresh 0).set_weak 0).set_visits 0, rfl, rfl, rfl, rfl, by intro i hi; omega, ?_⟩
    repeat (first | with_reducible exact Fr.refl _ _ | with_reducible refine Fr.set ?_ (by simp) _)
  case round =>
    obtain ⟨R1, hg, rfl, hR1, e1, e2, e3, e4, e5, hf⟩ := hrel
    have hfr1 := hR1.froz
    by_cases hlt : 0 < gk
    · obtain ⟨m, hm⟩ : ∃ m, 26 - gk = m := ⟨_, rfl⟩
      have hm26 : m < 26 := by omega
      have hmi : (m : Int) < 26 := by omega
      rw [hm] at e5 ⊢
      have hc := hR1.list m hm26
      have HR1 : Hid (WatchAt wr b R1) := hR1
      have HE : Hid (R1.t = R.t ∧ R1.used = 0 ∧ R1.fresh = 0 ∧ R1.weak = 0) := ⟨e1, e2, e3, e4⟩
      have HM : Hid (26 - gk = m) := hm
      clear e1 e2 e3 e4 hR1 hm
      go_wp2_with fail
      go_roundg (gk - 1)
      case measure => omega
      case rel =>
        have hm := HM.out
        refine ⟨_, by omega, ?_, HR1.out.set_list m hm26 0, HE.out.1, HE.out.2.1, HE.out.2.2.1, HE.out.2.2.2, ?_, hf.set (by simp) _⟩
        · rw [show 26 - (gk - 1) = m + 1 from by omega]; simp
        · intro i hi
          by_cases e : i = m
          · subst e; exact upd_self _ _ _
          · exact (upd_ne _ _ _ _ e).trans (e5 i (by omega))
    · have hg0 : gk = 0 := by omega
      subst hg0
      have HR1 : Hid (WatchAt wr b R1) := hR1
      have HE : Hid (R1.t = R.t ∧ R1.used = 0 ∧ R1.fresh = 0 ∧ R1.weak = 0) := ⟨e1, e2, e3, e4⟩
      clear e1 e2 e3 e4 hR1 hlt hg
      go_wp2_with fail
      go_loopg [3] 52 (fun g c wr => ∃ R1, g ≤ 52 ∧ c = .int .i64 ((52 - g : Nat) : Int) ∧ WatchAt wr b R1 ∧ R1.t = R.t ∧ R1.used = 0 ∧ R1.fresh = 0 ∧ R1.weak = 0 ∧ (∀ i, i < 26 → R1.list i = 0) ∧ (∀ i, i < 52 - g → R1.size i = 0) ∧ Fr [b] w wr)
      case atStart =>
        exact ⟨_, by omega, rfl, HR1.out, HE.out.1, HE.out.2.1, HE.out.2.2.1, HE.out.2.2.2, by intro i hi; exact e5 i (by omega), by intro i hi; omega, hf⟩
      case round =>
        clear HR1 HE hf e5 hfr1 R1
        obtain ⟨R1, hg, rfl, hR1, e1, e2, e3, e4, e5, e6, hf⟩ := hrel
        have hfr1 := hR1.froz
        by_cases hlt : 0 < gk
        · obtain ⟨m, hm⟩ : ∃ m, 52 - gk = m := ⟨_, rfl⟩
          have hm26 : m < 52 := by omega
          have hmi : (m : Int) < 52 := by omega
          rw [hm] at e6 ⊢
          have hc := hR1.size m hm26
          have HR1 : Hid (WatchAt wr b R1) := hR1
          have HE : Hid (R1.t = R.t ∧ R1.used = 0 ∧ R1.fresh = 0 ∧ R1.weak = 0 ∧ (∀ i, i < 26 → R1.list i = 0)) := ⟨e1, e2, e3, e4, e5⟩
          have HM : Hid (52 - gk = m) := hm
          clear e1 e2 e3 e4 e5 hR1 hm
          go_wp2_with fail
          go_roundg (gk - 1)
          case measure => omega
          case rel =>
            have hm := HM.out
            refine ⟨_, by omega, ?_, HR1.out.set_size m hm26 0, HE.out.1, HE.out.2.1, HE.out.2.2.1, HE.out.2.2.2.1, HE.out.2.2.2.2, ?_, hf.set (by simp) _⟩
            · rw [show 52 - (gk - 1) = m + 1 from by omega]; simp
            · intro i hi
              by_cases e : i = m
              · subst e; exact upd_self _ _ _
              · exact (upd_ne _ _ _ _ e).trans (e6 i (by omega))
        · have hg0 : gk = 0 := by omega
          subst hg0
          have HR1 : Hid (WatchAt wr b R1) := hR1
          have HE : Hid (R1.t = R.t ∧ R1.used = 0 ∧ R1.fresh = 0 ∧ R1.weak = 0 ∧ (∀ i, i < 26 → R1.list i = 0)) := ⟨e1, e2, e3, e4, e5⟩
          clear e1 e2 e3 e4 e5 hR1 hlt hg
          go_wp2_with fail
          try go_end0
          refine hK.out _ _ ⟨rfl, ⟨_, HR1.out, ?_⟩, hf⟩
          obtain ⟨e1, e2, e3, e4, e5⟩ := HE.out
          refine ⟨e1.trans HO.out.t, by simp [WatchS.empty], by simp [WatchS.empty], by simp [WatchS.empty], ?_, by simp [WatchS.empty], e2, e3, e4, e5, by simp [WatchS.empty], by simp [WatchS.empty], by simp [WatchS.empty], by simp [WatchS.empty]⟩
          intro id hid; rw [e6 id (by omega)]; simp [WatchS.empty]
end Go.Proofs.Qxb6500354aGreat
