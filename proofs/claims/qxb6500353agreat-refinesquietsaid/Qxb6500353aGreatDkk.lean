/- The law: KeepE, KeepI, walked. -/
import Derived.Test.Qxb6500353aGreatDsk
namespace Go.Proofs.Qxb6500353aGreat
open Go.RowKit
set_option linter.unusedVariables false
set_option linter.unusedSimpArgs false

def DG (b g : Nat) : Nat → Prop := fun x => x = b ∨ x = g
set_option maxRecDepth 100000 in
set_option maxHeartbeats 8000000 in
theorem keepE_any {w : World} {b g m n : Nat} {R : DkR} {f : Nat → Value} (h : DkAt w b R) (ha : Arr 98 mkV w g (n * 2) f) (hm : m ≤ n) (hn : n ≤ 1000) (h0 : 0 < n) (hgb : g ≠ b) (hne : R.ne < 1000000000000000) :
    Calls Tryz.prog 54 #[ptrV b, .slice (some ⟨g, 0, none⟩) m n] w fun e w' => e = .returned (.tuple #[]) ∧ (∃ R2, DkAt w' b R2 ∧ StepE R R2 (.slice (some ⟨g, 0, none⟩) n n) ∧ R2.pl = R.pl ∧ R2.nae = R.nae) ∧ Arr 98 mkV w' g (n * 2) (fun _ => bangV) ∧ Fr (DG b g) w w' := by
  have H := hid h
  have HA := hid ha
  have hmi : (m : Int) ≤ n := by omega
  have hni : (n : Int) ≤ 1000 := by omega
  have h0i : (0 : Int) < n := by omega
  have HNE := hid hne
  have HGB := hid hgb
  have n1 : ¬ g = b := hgb
  have n2 : ¬ b = g := fun q => hgb q.symm
  clear h ha hm hn hne hgb
  refine calls_via fun K hK => ?_
  unfold ptrV
  go_enter Tryz.func54, Tryz.ntmps54
  go_wp2_with fail
  go_loopg [5] n (fun gk i wr => ∃ (k : Nat) (f2 : Nat → Value), i = .int .i64 (k : Nat) ∧ gk + k = n ∧ Arr 98 mkV wr g (n * 2) f2 ∧ (∀ j, j < k * 2 → f2 j = bangV) ∧ Fr (One g) w wr)
  case atStart => exact ⟨0, f, rfl, by omega, HA.out, fun j hj => by omega, Fr.refl _ _⟩
  case round =>
    obtain ⟨k, f2, rfl, hg, hB, hf, hF⟩ := hrel
    have HB := hid hB
    have HFF := hid hf
    have HF := hid hF
    have HG := hid hg
    by_cases hk : k < n
    · have hki : (k : Int) < n := by omega
      have hk4 : (k : Int) < 1000 := by omega
      have x0 := hB.cell (k * 2) (by omega)
      have x1 := hB.cell (k * 2 + 1) (by omega)
      simp only [mkV] at x0 x1
      obtain ⟨y0, hy0⟩ : ∃ z, z = f2 (k * 2) := ⟨_, rfl⟩
      obtain ⟨y1, hy1⟩ : ∃ z, z = f2 (k * 2 + 1) := ⟨_, rfl⟩
      rw [← hy0] at x0
      rw [← hy1] at x1
      have xz : ∀ i, wr.frozen? ⟨g, i, none⟩ = false := hB.thaw
      have HB9 := hid ((hB.set (k * 2) bangV).set (k * 2 + 1) bangV)
      have HF9 := hid ((hF.set1 (k * 2) bangV).set1 (k * 2 + 1) bangV)
      clear hB hf hF hg hk hy0 hy1
      go_wp2_with fail
      go_roundg (gk - 1)
      case measure => have := HG.out; omega
      case rel => exact ⟨k + 1, _, by simp, by have := HG.out; omega, HB9.out, updE_lt HFF.out, HF9.out⟩
    · have hki : ¬ (k : Int) < n := by omega
      have hkn : k = n := by omega
      subst hkn
      have hB2 : Arr 98 mkV wr g (k * 2) (fun _ => bangV) := hB.congr (fun j hj => hf j hj)
      have HB2 := hid hB2
      have hD := H.out.fr hF (fun q => HGB.out q.symm)
      have HD := hid hD
      have c0 : wr.cell? ⟨b, 16, none⟩ = some (.int .i64 (R.ne : Nat)) := hD.c 16 _ rfl
      have cz : ∀ i, wr.frozen? ⟨b, i, none⟩ = false := hD.fz
      obtain ⟨q, hq⟩ : ∃ q, q = R.ne % 4 := ⟨_, rfl⟩
      have hq4 : q < 4 := by omega
      have co := hD.oe hq4
      obtain ⟨vo, hvo⟩ : ∃ z, z = R.oe q := ⟨_, rfl⟩
      rw [← hvo] at co
      obtain ⟨ne, hne⟩ : ∃ z, z = R.ne := ⟨_, rfl⟩
      rw [← hne] at c0 hq
      have HQ := hid (And.intro hq (And.intro hq4 hne))
      have hqi : (q : Int) < 4 := by omega
      have hnei : (ne : Int) < 1000000000000000 := by rw [hne]; have := HNE.out; omega
      have hrm : Int.tmod (ne : Int) 4 = (q : Int) := by rw [hq]; rfl
      clear hB hf hF hg hk hB2 hD hvo hq hq4 hne
      go_wp2_with fail
      go_region
      go_wp2_with fail
      go_end0
      have hq := HQ.out
      have hD := HD.out
      have hd1 := DkAt.put (R2 := { R with oe := upd R.oe q (.slice (some ⟨g, 0, none⟩) k k) }) hD (8 + q) (.slice (some ⟨g, 0, none⟩) k k) (by omega) (dkL_oe R hq.2.1 _)
      have hd2 := DkAt.put (R2 := { R with oe := upd R.oe q (.slice (some ⟨g, 0, none⟩) k k), ne := R.ne + 1 }) hd1 16 (.int .i64 ((ne : Int) + 1)) (by omega) (by rw [hq.2.2]; simp [dkL])
      refine hK.out _ _ ⟨rfl, ⟨_, hd2.fr (S := Nob) ((Fr.refl Nob _).drew) (fun x => x), ⟨fun i => ?_, .inl rfl, .inl rfl, .inl rfl, Nat.le_refl _, Nat.le_succ _, rfl⟩, rfl, rfl⟩, ((HB2.out.other HGB.out _).other HGB.out _).drew, ?_⟩
      · by_cases e : i = q
        · subst e; exact .inr (upd_self _ _ _)
        · exact .inl (upd_ne _ _ _ _ e)
      · exact (((HF.out.mono (fun x hx _ => .inr hx) : Fr (DG b g) w wr).setS (.inl rfl) _ _).setS (.inl rfl) _ _).drew
set_option maxRecDepth 100000 in
set_option maxHeartbeats 8000000 in
theorem keepI_any {w : World} {b g m n : Nat} {R : DkR} {f : Nat → Value} (h : DkAt w b R) (ha : Arr 115 mkV w g (n * 3) f) (hm : m ≤ n) (hn : n ≤ 1000) (h0 : 0 < n) (hgb : g ≠ b) (hne : R.ni < 1000000000000000) :
    Calls Tryz.prog 70 #[ptrV b, .slice (some ⟨g, 0, none⟩) m n] w fun e w' => e = .returned (.tuple #[]) ∧ (∃ R2, DkAt w' b R2 ∧ StepI R R2 (.slice (some ⟨g, 0, none⟩) n n) ∧ R2.nai = R.nai) ∧ Arr 115 mkV w' g (n * 3) (bangI) ∧ Fr (DG b g) w w' := by
  have H := hid h
  have HA := hid ha
  have hmi : (m : Int) ≤ n := by omega
  have hni : (n : Int) ≤ 1000 := by omega
  have h0i : (0 : Int) < n := by omega
  have HNE := hid hne
  have HGB := hid hgb
  have n1 : ¬ g = b := hgb
  have n2 : ¬ b = g := fun q => hgb q.symm
  clear h ha hm hn hne hgb
  refine calls_via fun K hK => ?_
  unfold ptrV
  go_enter Tryz.func70, Tryz.ntmps70
  go_wp2_with fail
  go_loopg [5] n (fun gk i wr => ∃ (k : Nat) (f2 : Nat → Value), i = .int .i64 (k : Nat) ∧ gk + k = n ∧ Arr 115 mkV wr g (n * 3) f2 ∧ (∀ j, j < k * 3 → f2 j = bangI j) ∧ Fr (One g) w wr)
  case atStart => exact ⟨0, f, rfl, by omega, HA.out, fun j hj => by omega, Fr.refl _ _⟩
  case round =>
    obtain ⟨k, f2, rfl, hg, hB, hf, hF⟩ := hrel
    have HB := hid hB
    have HFF := hid hf
    have HF := hid hF
    have HG := hid hg
    by_cases hk : k < n
    · have hki : (k : Int) < n := by omega
      have hk4 : (k : Int) < 1000 := by omega
      have x0 := hB.cell (k * 3) (by omega)
      have x1 := hB.cell (k * 3 + 1) (by omega)
      have x2 := hB.cell (k * 3 + 2) (by omega)
      simp only [mkV] at x0 x1 x2
      obtain ⟨y0, hy0⟩ : ∃ z, z = f2 (k * 3) := ⟨_, rfl⟩
      obtain ⟨y1, hy1⟩ : ∃ z, z = f2 (k * 3 + 1) := ⟨_, rfl⟩
      rw [← hy0] at x0
      rw [← hy1] at x1
      obtain ⟨y2, hy2⟩ : ∃ z, z = f2 (k * 3 + 2) := ⟨_, rfl⟩
      rw [← hy2] at x2
      have xz : ∀ i, wr.frozen? ⟨g, i, none⟩ = false := hB.thaw
      have HB9 := hid (((hB.set (k * 3) (.string ⟨#[33]⟩)).set (k * 3 + 1) (.int .i64 (-7))).set (k * 3 + 2) (.int .i64 (-7)))
      have HF9 := hid (((hF.set1 (k * 3) (.string ⟨#[33]⟩)).set1 (k * 3 + 1) (.int .i64 (-7))).set1 (k * 3 + 2) (.int .i64 (-7)))
      clear hB hf hF hg hk hy0 hy1 hy2
      go_wp2_with fail
      go_roundg (gk - 1)
      case measure => have := HG.out; omega
      case rel => exact ⟨k + 1, _, by simp, by have := HG.out; omega, HB9.out, updI_lt HFF.out, HF9.out⟩
    · have hki : ¬ (k : Int) < n := by omega
      have hkn : k = n := by omega
      subst hkn
      have hB2 : Arr 115 mkV wr g (k * 3) (bangI) := hB.congr (fun j hj => hf j hj)
      have HB2 := hid hB2
      have hD := H.out.fr hF (fun q => HGB.out q.symm)
      have HD := hid hD
      have c0 : wr.cell? ⟨b, 17, none⟩ = some (.int .i64 (R.ni : Nat)) := hD.c 17 _ rfl
      have cz : ∀ i, wr.frozen? ⟨b, i, none⟩ = false := hD.fz
      obtain ⟨q, hq⟩ : ∃ q, q = R.ni % 4 := ⟨_, rfl⟩
      have hq4 : q < 4 := by omega
      have co := hD.oi hq4
      obtain ⟨vo, hvo⟩ : ∃ z, z = R.oi q := ⟨_, rfl⟩
      rw [← hvo] at co
      obtain ⟨ne, hne⟩ : ∃ z, z = R.ni := ⟨_, rfl⟩
      rw [← hne] at c0 hq
      have HQ := hid (And.intro hq (And.intro hq4 hne))
      have hqi : (q : Int) < 4 := by omega
      have hnei : (ne : Int) < 1000000000000000 := by rw [hne]; have := HNE.out; omega
      have hrm : Int.tmod (ne : Int) 4 = (q : Int) := by rw [hq]; rfl
      clear hB hf hF hg hk hB2 hD hvo hq hq4 hne
      go_wp2_with fail
      go_region
      go_wp2_with fail
      go_end0
      have hq := HQ.out
      have hD := HD.out
      have hd1 := DkAt.put (R2 := { R with oi := upd R.oi q (.slice (some ⟨g, 0, none⟩) k k) }) hD (12 + q) (.slice (some ⟨g, 0, none⟩) k k) (by omega) (dkL_oi R hq.2.1 _)
      have hd2 := DkAt.put (R2 := { R with oi := upd R.oi q (.slice (some ⟨g, 0, none⟩) k k), ni := R.ni + 1 }) hd1 17 (.int .i64 ((ne : Int) + 1)) (by omega) (by rw [hq.2.2]; simp [dkL])
      refine hK.out _ _ ⟨rfl, ⟨_, hd2.fr (S := Nob) ((Fr.refl Nob _).drew) (fun x => x), ⟨fun i => ?_, .inl rfl, .inl rfl, Nat.le_refl _, Nat.le_succ _, rfl⟩, rfl⟩, ((HB2.out.other HGB.out _).other HGB.out _).drew, ?_⟩
      · by_cases e : i = q
        · subst e; exact .inr (upd_self _ _ _)
        · exact .inl (upd_ne _ _ _ _ e)
      · exact (((HF.out.mono (fun x hx _ => .inr hx) : Fr (DG b g) w wr).setS (.inl rfl) _ _).setS (.inl rfl) _ _).drew
end Go.Proofs.Qxb6500353aGreat
