/- The machine's cursor goes forward only. -/
import Derived.Test.Qxb6500353aGreatMdj
import Derived.Test.Qxb6500353aGreatMda
namespace Go.Proofs.Qxb6500353aGreat
set_option linter.unusedVariables false
set_option linter.unusedSimpArgs false

/-- The cursor goes forward and stays on the tape. -/
def Fwd (t t1 : Tp) : Prop := t.at_ ≤ t1.at_ ∧ t1.at_ ≤ t1.n ∧ t1.n = t.n
theorem Fwd.refl {t : Tp} (h : t.at_ ≤ t.n) : Fwd t t := ⟨Nat.le_refl _, h, rfl⟩
theorem Fwd.trans {t t1 t2 : Tp} (h : Fwd t t1) (k : Fwd t1 t2) : Fwd t t2 := ⟨Nat.le_trans h.1 k.1, k.2.1, k.2.2.trans h.2.2⟩
theorem sync_fwd {t : Tp} (h : t.at_ ≤ t.n) : Fwd t t.sync := by unfold Fwd Tp.sync up8; dsimp only; omega
theorem skip_fwd {t : Tp} {k : Nat} (hc : t.at_ ≤ t.n) (h : ¬ t.got k < k) : Fwd t (t.skip k) := by unfold Fwd; unfold Tp.got Tp.skip at *; dsimp only; omega
theorem skip_fwd2 {t : Tp} {j k : Nat} (hc : t.at_ ≤ t.n) (h : ¬ t.got j < k) : Fwd t (t.skip k) := by unfold Fwd; unfold Tp.got Tp.skip at *; dsimp only; omega
theorem shutS_fwd {t t1 : Tp} {s s1 : DS} (hc : t.at_ ≤ t.n) (h : shutS t s = (0, t1, s1)) : Fwd t t1 := by
  unfold shutS at h
  split at h
  · simp only [Prod.mk.injEq] at h; rw [← h.2.1]; exact Fwd.refl hc
  · simp only [Prod.mk.injEq] at h; rw [← h.2.1]; exact sync_fwd hc
theorem setsS_fwd {t t1 : Tp} {s s1 : DS} (hc : t.at_ ≤ t.n) (h : setsS t s = (0, t1, s1)) : Fwd t t1 := by
  unfold setsS at h
  repeat' split at h
  all_goals (simp only [Prod.mk.injEq] at h; rw [← h.2.1]; exact Fwd.refl hc)
theorem listEnd_fwd {t t1 : Tp} {s s1 : DS} (hc : t.at_ ≤ t.n) (h : listEnd t s = (0, t1, s1)) : Fwd t t1 := by
  unfold listEnd at h
  split at h
  · simp only [Prod.mk.injEq] at h; rw [← h.2.1]; exact Fwd.refl hc
  · exact setsS_fwd hc h
theorem step0_fwd {t t1 : Tp} {s s1 : DS} (hc : t.at_ ≤ t.n) (h : step0 t s = (0, t1, s1)) : Fwd t t1 := by
  unfold step0 at h
  split at h
  · simp at h
  · rename_i c; simp only [Prod.mk.injEq] at h; rw [← h.2.1]; exact skip_fwd hc c
theorem step1_fwd {t t1 : Tp} {s s1 : DS} (hc : t.at_ ≤ t.n) (h : step1 t s = (0, t1, s1)) : Fwd t t1 := by
  unfold step1 at h
  split at h
  · simp at h
  · rename_i c
    have h1 := skip_fwd hc c
    split at h
    · simp only [Prod.mk.injEq] at h; rw [← h.2.1]; exact h1.trans (sync_fwd h1.2.1)
    · split at h
      · simp only [Prod.mk.injEq] at h; rw [← h.2.1]; exact h1
      · split at h
        · simp only [Prod.mk.injEq] at h; rw [← h.2.1]; exact h1
        · simp at h
theorem step2_fwd {t t1 : Tp} {s s1 : DS} (hc : t.at_ ≤ t.n) (h : step2 t s = (0, t1, s1)) : Fwd t t1 := by
  unfold step2 at h
  split at h
  · simp at h
  · rename_i c
    have h1 := skip_fwd hc c
    split at h
    · exact h1.trans (shutS_fwd h1.2.1 h)
    · simp only [Prod.mk.injEq] at h; rw [← h.2.1]; exact h1
theorem step3_fwd {t t1 : Tp} {s s1 : DS} (hc : t.at_ ≤ t.n) (h : step3 t s = (0, t1, s1)) : Fwd t t1 := by
  unfold step3 at h
  split at h
  · simp at h
  · rename_i c
    have h1 := skip_fwd hc c
    split at h
    · simp at h
    · split at h
      · exact h1.trans (shutS_fwd h1.2.1 h)
      · simp only [Prod.mk.injEq] at h; rw [← h.2.1]; exact h1
theorem step4_fwd {t t1 : Tp} {s s1 : DS} (hc : t.at_ ≤ t.n) (h : step4 t s = (0, t1, s1)) : Fwd t t1 := by
  unfold step4 at h
  split at h
  · simp at h
  · rename_i c
    have h1 := skip_fwd2 hc c
    split at h
    · exact h1.trans (listEnd_fwd h1.2.1 h)
    · split at h
      · simp at h
      · split at h
        · simp at h
        · rename_i c2
          have h2 := skip_fwd2 hc c2
          split at h
          · simp at h
          · split at h
            · simp at h
            · exact h2.trans (listEnd_fwd h2.2.1 h)
theorem sym_fwd {l : List Nat} {t : Tp} (hc : t.at_ ≤ t.n) (h : (symF l t).2.2 = 0) : Fwd t (t.skip (symF l t).2.1) := by
  have hg := (symF_got l t h).2.2
  unfold Fwd; unfold Tp.got at hg; unfold Tp.skip; dsimp only; omega
theorem step5_fwd {t t1 : Tp} {s s1 : DS} (hc : t.at_ ≤ t.n) (h : step5 t s = (0, t1, s1)) : Fwd t t1 := by
  unfold step5 at h
  split at h
  · rename_i c; simp only [Prod.mk.injEq] at h; exact absurd h.1 c
  · rename_i c
    have h1 := sym_fwd (l := s.a) hc (by omega)
    split at h
    · exact h1.trans (shutS_fwd h1.2.1 h)
    · split at h
      · split at h
        · simp at h
        · simp only [Prod.mk.injEq] at h; rw [← h.2.1]; exact h1
      · simp only [Prod.mk.injEq] at h; rw [← h.2.1]; exact h1
theorem step6_fwd {t t1 : Tp} {s s1 : DS} (hc : t.at_ ≤ t.n) (h : step6 t s = (0, t1, s1)) : Fwd t t1 := by
  unfold step6 at h
  split at h
  · rename_i c; simp only [Prod.mk.injEq] at h; exact absurd h.1 c
  · rename_i c; simp only [Prod.mk.injEq] at h; rw [← h.2.1]; exact sym_fwd hc (by omega)
theorem step7_fwd {t t1 : Tp} {s s1 : DS} (hc : t.at_ ≤ t.n) (h : step7 t s = (0, t1, s1)) : Fwd t t1 := by
  unfold step7 at h
  split at h
  · simp at h
  · rename_i c
    split at h
    · simp at h
    · split at h
      · simp at h
      · simp only [Prod.mk.injEq] at h; rw [← h.2.1]; exact skip_fwd hc c
theorem stepF_fwd {t t1 : Tp} {s s1 : DS} (hc : t.at_ ≤ t.n) (h : stepF t s = (0, t1, s1)) : Fwd t t1 := by
  unfold stepF at h
  split at h
  · exact step0_fwd hc h
  · exact step1_fwd hc h
  · exact step2_fwd hc h
  · exact step3_fwd hc h
  · exact step4_fwd hc h
  · exact step5_fwd hc h
  · exact step6_fwd hc h
  · exact step7_fwd hc h
theorem Steps.fwd {t t' : Tp} {s s' : DS} (h : Steps t s t' s') (hc : t.at_ ≤ t.n) : Fwd t t' := by
  induction h with
  | refl => exact Fwd.refl hc
  | step a b _ ih => have k := stepF_fwd hc b; exact k.trans (ih k.2.1)
end Go.Proofs.Qxb6500353aGreat
