/- The machine fed piece by piece, plainly. -/
import Derived.Test.Qxb6500353aGreatMdo
import Derived.Test.Qxb6500353aGreatMon
import Derived.Test.Qxb6500353aGreatMtc
namespace Go.Proofs.Qxb6500353aGreat
set_option linter.unusedVariables false
set_option linter.unusedSimpArgs false

/-- A step keeps the bits, goes forward by one at least (but behind a distance's code), and comes to phase 7 from 6 alone. -/
structure Adv (t : Tp) (s : DS) (t1 : Tp) (s1 : DS) : Prop where
  X : t1.X = t.X
  go : s.ph ≠ 7 → t.at_ + 1 ≤ t1.at_
  ph : s1.ph = 7 → s.ph = 6
theorem shutS_adv {t0 t t1 : Tp} {s0 s s1 : DS} (hc : t.at_ ≤ t.n) (hx : t.X = t0.X) (ha : t0.at_ + 1 ≤ t.at_) (h : shutS t s = (0, t1, s1)) : Adv t0 s0 t1 s1 := by
  have f := shutS_fwd hc h
  unfold shutS at h
  split at h
  · simp only [Prod.mk.injEq] at h; exact ⟨by rw [← h.2.1]; exact hx, fun _ => Nat.le_trans ha f.1, fun q => by rw [← h.2.2] at q; simp at q⟩
  · simp only [Prod.mk.injEq] at h; exact ⟨by rw [← h.2.1]; exact hx, fun _ => Nat.le_trans ha f.1, fun q => by rw [← h.2.2] at q; simp at q⟩
theorem listEnd_adv {t0 t t1 : Tp} {s0 s s1 : DS} (hp : s.ph = 4) (hx : t.X = t0.X) (ha : t0.at_ + 1 ≤ t.at_) (h : listEnd t s = (0, t1, s1)) : Adv t0 s0 t1 s1 := by
  unfold listEnd setsS at h
  repeat' split at h
  all_goals (simp only [Prod.mk.injEq] at h)
  · exact ⟨by rw [← h.2.1]; exact hx, fun _ => by rw [← h.2.1]; exact ha, fun q => by rw [← h.2.2] at q; omega⟩
  · omega
  · omega
  · omega
  · exact ⟨by rw [← h.2.1]; exact hx, fun _ => by rw [← h.2.1]; exact ha, fun q => by rw [← h.2.2] at q; simp at q⟩
theorem skip_le (t : Tp) (k : Nat) (hk : 1 ≤ k) : t.at_ + 1 ≤ (t.skip k).at_ := by unfold Tp.skip; dsimp only; omega
theorem stepF_adv {t t1 : Tp} {s s1 : DS} (hc : t.at_ ≤ t.n) (h8 : s.ph ≤ 7) (h : stepF t s = (0, t1, s1)) : Adv t s t1 s1 := by
  have hc8 : s.ph = 0 ∨ s.ph = 1 ∨ s.ph = 2 ∨ s.ph = 3 ∨ s.ph = 4 ∨ s.ph = 5 ∨ s.ph = 6 ∨ s.ph = 7 := by omega
  rcases hc8 with e | e | e | e | e | e | e | e
  · rw [stepF_0 e] at h; unfold step0 at h
    split at h
    · simp at h
    · simp only [Prod.mk.injEq] at h; exact ⟨by rw [← h.2.1]; rfl, fun _ => by rw [← h.2.1]; exact skip_le _ _ (by omega), fun q => by rw [← h.2.2] at q; simp at q⟩
  · rw [stepF_1 e] at h; unfold step1 at h
    split at h
    · simp at h
    · rename_i c
      have f := skip_fwd hc c
      have g := sync_fwd f.2.1
      split at h
      · simp only [Prod.mk.injEq] at h; exact ⟨by rw [← h.2.1]; rfl, fun _ => by rw [← h.2.1]; exact Nat.le_trans (skip_le _ _ (by omega)) g.1, fun q => by rw [← h.2.2] at q; simp at q⟩
      · split at h
        · simp only [Prod.mk.injEq] at h; exact ⟨by rw [← h.2.1]; rfl, fun _ => by rw [← h.2.1]; exact skip_le _ _ (by omega), fun q => by rw [← h.2.2] at q; simp at q⟩
        · split at h
          · simp only [Prod.mk.injEq] at h; exact ⟨by rw [← h.2.1]; rfl, fun _ => by rw [← h.2.1]; exact skip_le _ _ (by omega), fun q => by rw [← h.2.2] at q; simp at q⟩
          · simp at h
  · rw [stepF_2 e] at h; unfold step2 at h
    split at h
    · simp at h
    · rename_i c
      have f := skip_fwd hc c
      split at h
      · exact shutS_adv f.2.1 rfl (skip_le _ _ (by omega)) h
      · simp only [Prod.mk.injEq] at h; exact ⟨by rw [← h.2.1]; rfl, fun _ => by rw [← h.2.1]; exact skip_le _ _ (by omega), fun q => by rw [← h.2.2] at q; simp at q⟩
  · rw [stepF_3 e] at h; unfold step3 at h
    split at h
    · simp at h
    · rename_i c
      have f := skip_fwd hc c
      split at h
      · simp at h
      · split at h
        · exact shutS_adv f.2.1 rfl (skip_le _ _ (by omega)) h
        · simp only [Prod.mk.injEq] at h; exact ⟨by rw [← h.2.1]; rfl, fun _ => by rw [← h.2.1]; exact skip_le _ _ (by omega), fun q => by rw [← h.2.2] at q; simp only at q; omega⟩
  · rw [stepF_4 e] at h; unfold step4 at h
    split at h
    · simp at h
    · split at h
      · exact listEnd_adv (t0 := t) (hp := by exact e) (hx := by rfl) (ha := by exact skip_le _ _ (by omega)) (h := h)
      · split at h
        · simp at h
        · split at h
          · simp at h
          · split at h
            · simp at h
            · split at h
              · simp at h
              · exact listEnd_adv (t0 := t) (hp := by exact e) (hx := by rfl) (ha := by exact skip_le _ _ (by omega)) (h := h)
  · rw [stepF_5 e] at h; unfold step5 at h
    split at h
    · rename_i c; simp only [Prod.mk.injEq] at h; exact absurd h.1 c
    · rename_i c
      have h1 := sym_fwd (l := s.a) hc (by omega)
      have hp := (symF_spec (l := s.a) t (by omega)).2.1
      split at h
      · exact shutS_adv h1.2.1 rfl (skip_le _ _ hp) h
      · split at h
        · split at h
          · simp at h
          · simp only [Prod.mk.injEq] at h; exact ⟨by rw [← h.2.1]; rfl, fun _ => by rw [← h.2.1]; exact skip_le _ _ hp, fun q => by rw [← h.2.2] at q; simp only at q; omega⟩
        · simp only [Prod.mk.injEq] at h; exact ⟨by rw [← h.2.1]; rfl, fun _ => by rw [← h.2.1]; exact skip_le _ _ hp, fun q => by rw [← h.2.2] at q; simp at q⟩
  · rw [stepF_6 e] at h; unfold step6 at h
    split at h
    · rename_i c; simp only [Prod.mk.injEq] at h; exact absurd h.1 c
    · rename_i c
      have hp := (symF_spec (l := s.b) t (by omega)).2.1
      simp only [Prod.mk.injEq] at h; exact ⟨by rw [← h.2.1]; rfl, fun _ => by rw [← h.2.1]; exact skip_le _ _ hp, fun q => e⟩
  · rw [stepF_7 e] at h; unfold step7 at h
    split at h
    · simp at h
    · split at h
      · simp at h
      · split at h
        · simp at h
        · simp only [Prod.mk.injEq] at h; exact ⟨by rw [← h.2.1]; rfl, fun q => absurd e q, fun q => by rw [← h.2.2] at q; simp at q⟩
/-- What is left to do. -/
def mu (t : Tp) (s : DS) : Nat := 2 * (t.n - t.at_) + if s.ph = 7 then 1 else 0
theorem mu_less {t t1 : Tp} {s s1 : DS} (hc : t.at_ ≤ t.n) (h8 : s.ph ≤ 7) (h : stepF t s = (0, t1, s1)) : mu t1 s1 + 1 ≤ mu t s := by
  have a := stepF_adv hc h8 h
  have f := stepF_fwd hc h
  have f1 := f.1; have f2 := f.2.1; have f3 := f.2.2
  unfold mu
  by_cases e : s.ph = 7
  · rw [if_pos e]
    have : s1.ph ≠ 7 := fun q => by have := a.ph q; omega
    rw [if_neg this]; omega
  · have g := a.go e
    rw [if_neg e]
    split <;> omega
def Seek (T : Tp) (a : Nat) : Tp := ⟨T.X, T.n, a⟩
theorem Steps.keepX {t t' : Tp} {s s' : DS} (hO : DSOK s) (hc : t.at_ ≤ t.n) (h : Steps t s t' s') : t'.X = t.X ∧ DSOK s' := by
  induction h with
  | refl => exact ⟨rfl, hO⟩
  | step a b _ ih =>
    have p := hO.ph
    have k := stepF_adv hc (by omega) b
    have h1 := ih (hO.step a b) (stepF_fwd hc b).2.1
    exact ⟨h1.1.trans k.X, h1.2⟩
theorem Steps.more {t T t' : Tp} {s s' : DS} (hO : DSOK s) (hp : Pre t T) (h : Steps t s t' s') : ∃ T', Steps T s T' s' ∧ Pre t' T' := by
  induction h generalizing T with
  | refl => exact ⟨T, Steps.refl _ _, hp⟩
  | step a b _ ih =>
    obtain ⟨T1, h1, h2⟩ := step_more_ok hO hp a b
    obtain ⟨T', h3, h4⟩ := ih (hO.step a b) h2
    exact ⟨T', .step a h1 h3, h4⟩
/-- Over the text P the machine stands at (t, s). -/
structure AtS (P : List Nat) (t : Tp) (s : DS) : Prop where
  st : Steps (Tp.load P) DS.init t s
  X : t.X = (Tp.load P).X
  n : t.n = (Tp.load P).n
  cur : t.at_ ≤ t.n
  ok : DSOK s
theorem AtS.start : AtS [] (Tp.load []) DS.init := ⟨Steps.refl _ _, rfl, rfl, by simp [Tp.load], DSOK.init⟩
theorem AtS.eq {P : List Nat} {t : Tp} {s : DS} (h : AtS P t s) : t = Seek (Tp.load P) t.at_ := by
  have h1 := h.X; have h2 := h.n
  obtain ⟨X, n, a⟩ := t
  unfold Seek
  dsimp only at h1 h2 ⊢
  rw [h1, h2]
theorem AtS.step {P : List Nat} {t t1 : Tp} {s s1 : DS} (h : AtS P t s) (h8 : s.ph ≠ 8) (k : stepF t s = (0, t1, s1)) : AtS P t1 s1 := by
  have p := h.ok.ph
  have a := stepF_adv h.cur (by omega) k
  have f := stepF_fwd h.cur k
  exact ⟨h.st.trans (Steps.one h8 k), a.X.trans h.X, f.2.2.trans h.n, f.2.1, h.ok.step h8 k⟩
theorem AtS.bad {P : List Nat} {t t1 : Tp} {s s1 : DS} {e : Nat} (h : AtS P t s) (h8 : s.ph ≠ 8) (k : stepF t s = (e, t1, s1)) (h0 : e ≠ 0) : Ends (Tp.load P) DS.init e s.out := h.st.ends (Ends.err h8 k h0)
theorem AtS.tail {P : List Nat} {t : Tp} {s : DS} (h : AtS P t s) (h8 : s.ph = 8) : Ends (Tp.load P) DS.init (if t.at_ < t.n then 11 else 0) s.out := h.st.ends (Ends.tail h8)
theorem pre_load {P Q : List Nat} (hP : ∀ b ∈ P, b < 256) : Pre (Tp.load P) (Tp.load (P ++ Q)) := by
  refine ⟨?_, ?_, rfl, ?_, ?_, by simp [Tp.load]⟩
  · show numOf (P ++ Q) % 2 ^ (8 * P.length) = numOf P
    rw [numOf_append, Nat.add_mul_mod_self_right, Nat.mod_eq_of_lt (numOf_lt P hP)]
  · simp [Tp.load]; omega
  · simp [Tp.load]
  · simp only [Tp.load]; omega
theorem AtS.more {P Q : List Nat} {t : Tp} {s : DS} (h : AtS P t s) (hP : ∀ b ∈ P, b < 256) : AtS (P ++ Q) (Seek (Tp.load (P ++ Q)) t.at_) s := by
  obtain ⟨T', h1, h2⟩ := h.st.more DSOK.init (pre_load (Q := Q) hP)
  have f := h1.fwd (by simp [Tp.load])
  have k := h1.keepX DSOK.init (by simp [Tp.load])
  have e : T' = Seek (Tp.load (P ++ Q)) t.at_ := by
    have a1 := k.1; have a2 := f.2.2; have a3 := h2.at_
    obtain ⟨X, n, a⟩ := T'
    dsimp only at a1 a2 a3
    unfold Seek
    rw [a1, a2, a3]
  rw [e] at h1 f
  exact ⟨h1, rfl, rfl, f.2.1, h.ok⟩
theorem seek_put (P : List Nat) (a x : Nat) : (Seek (Tp.load P) a).put x 8 = Seek (Tp.load (P ++ [x])) a := by rw [← load_step]; rfl
theorem Ends.more {t T : Tp} {s : DS} {e : Nat} {o : List Nat} (hO : DSOK s) (hp : Pre t T) (h : Ends t s e o) (h4 : e ≠ 4) (h0 : e ≠ 0) : Ends T s e o := by
  induction h generalizing T with
  | tail a =>
    rename_i t0 s0
    have h1 := hp.at_; have h2 := hp.n
    by_cases c : t0.at_ < t0.n
    · have h3 := Ends.tail (t := T) (s := s0) a
      rw [if_pos (by omega)] at h3
      rw [if_pos c]; exact h3
    · rw [if_neg c] at h0; exact absurd rfl h0
  | err a b c =>
    obtain ⟨T1, s2, h1⟩ := step_more_err hO hp a b h4
    exact Ends.err a h1 c
  | step a b _ ih =>
    obtain ⟨T1, h1, h2⟩ := step_more_ok hO hp a b
    exact Ends.step a h1 (ih (hO.step a b) h2 h4 h0)
theorem ends_more {P Q : List Nat} {e : Nat} {o : List Nat} (hP : ∀ b ∈ P, b < 256) (h : Ends (Tp.load P) DS.init e o) (h4 : e ≠ 4) (h0 : e ≠ 0) : Ends (Tp.load (P ++ Q)) DS.init e o := h.more DSOK.init (pre_load hP) h4 h0
end Go.Proofs.Qxb6500353aGreat
