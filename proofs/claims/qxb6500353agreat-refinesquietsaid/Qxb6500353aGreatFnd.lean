/- The finding of a symbol, plainly. -/
import Derived.Test.Qxb6500353aGreatCod
namespace Go.Proofs.Qxb6500353aGreat
set_option linter.unusedVariables false
set_option linter.unusedSimpArgs false

def hitB (l : List Nat) (a have_ s : Nat) : Bool := decide (0 < len l s) && decide (len l s ≤ have_) && decide (a % 2 ^ len l s = code l s)
def openB (l : List Nat) (a have_ s : Nat) : Bool := decide (have_ < len l s) && decide (code l s % 2 ^ have_ = a)
def findF (l : List Nat) (a have_ : Nat) : Nat × Nat × Nat :=
  match (List.range l.length).find? (hitB l a have_) with
  | some s => (s, len l s, 0)
  | none => if (List.range l.length).any (openB l a have_) then (0, 0, 4) else (0, 0, 8)
/-- The cell of the tables. -/
def look (l : List Nat) (a : Nat) : Nat :=
  match (List.range l.length).find? (hitB l a 10) with
  | some s => s * 16 + len l s
  | none => 0

structure Lawful (l : List Nat) : Prop extends Fit l where
  full : Qxb6500353aGreat.kraft l = 1024 ∨ ((∀ s, len l s ≤ 1) ∧ l.count 1 ≤ 1)
  size : l.length ≤ 265

theorem lawful_nil : Lawful [] := ⟨⟨by simp, by decide⟩, .inr ⟨by simp [len], by simp⟩, by simp⟩

theorem hitB_iff {l : List Nat} {a h s : Nat} : hitB l a h s = true ↔ Hit l s a ∧ len l s ≤ h := by
  simp only [hitB, Bool.and_eq_true, decide_eq_true_eq, Hit]
  constructor
  · rintro ⟨⟨a, b⟩, c⟩; exact ⟨⟨a, c⟩, b⟩
  · rintro ⟨⟨a, c⟩, b⟩; exact ⟨⟨a, b⟩, c⟩
theorem find_hit {l : List Nat} (hl : Fit l) {a h s : Nat} (hs : Hit l s a) (hh : len l s ≤ h) : (List.range l.length).find? (hitB l a h) = some s := by
  have h1 := (len_mem hs.1).1
  cases e : (List.range l.length).find? (hitB l a h) with
  | none =>
    have h2 := List.find?_eq_none.1 e s (List.mem_range.2 h1)
    exact absurd (hitB_iff.2 ⟨hs, hh⟩) h2
  | some t =>
    have h2 := List.find?_some e
    rw [Hit.uniq hl hs (hitB_iff.1 h2).1]
theorem find_none {l : List Nat} {a h : Nat} (hn : ∀ s, Hit l s a → h < len l s) : (List.range l.length).find? (hitB l a h) = none := by
  rw [List.find?_eq_none]
  intro s _ h2
  have h3 := hitB_iff.1 h2
  have := hn s h3.1
  omega
theorem findF_hit {l : List Nat} (hl : Fit l) {a h s : Nat} (hs : Hit l s a) (hh : len l s ≤ h) : findF l a h = (s, len l s, 0) := by
  unfold findF; rw [find_hit hl hs hh]
theorem findF_open {l : List Nat} (hl : Fit l) {a h s : Nat} (ha : a < 2 ^ h) (hs : Hit l s a) (hh : h < len l s) : findF l a h = (0, 0, 4) := by
  unfold findF
  rw [find_none (fun t ht => by rw [← Hit.uniq hl hs ht]; exact hh)]
  have h1 := (len_mem hs.1).1
  have : (List.range l.length).any (openB l a h) = true := by
    rw [List.any_eq_true]
    refine ⟨s, List.mem_range.2 h1, ?_⟩
    simp only [openB, Bool.and_eq_true, decide_eq_true_eq]
    refine ⟨hh, ?_⟩
    rw [← hs.2, mod_pow_mod _ _ _ (by omega), Nat.mod_eq_of_lt ha]
  simp [this]
theorem findF_none {l : List Nat} (hl : Lawful l) {a h : Nat} (ha : a < 2 ^ h) (hn : ∀ s, ¬ Hit l s a) : findF l a h = (0, 0, 8) := by
  unfold findF
  rw [find_none (fun s hs => absurd hs (hn s))]
  have : (List.range l.length).any (openB l a h) = false := by
    rw [Bool.eq_false_iff]
    intro h2
    obtain ⟨s, _, h3⟩ := List.any_eq_true.1 h2
    simp only [openB, Bool.and_eq_true, decide_eq_true_eq] at h3
    rcases hl.full with hk | ⟨h4, h5⟩
    · obtain ⟨t, ht⟩ := full_hit hl.toFit hk a
      exact hn t ht
    · have h6 := h4 s
      have h0 : h = 0 := by omega
      subst h0
      have ha0 : a = 0 := by simp at ha; omega
      subst ha0
      refine hn s ⟨by omega, ?_⟩
      have h7 : len l s = 1 := by omega
      have h8 := rank_lt (l := l) (s := s) (by omega)
      rw [h7] at h8
      have h9 : canon l s = 0 := by
        unfold canon; rw [h7]; simp only [firstC]; omega
      rw [code, h9, h7]; decide
  simp [this]
/-- The table's answer is the definition's. -/
theorem look_find {l : List Nat} (hl : Lawful l) {a h : Nat} (ha : a < 2 ^ h) :
    findF l a h = if look l a = 0 then (0, 0, 8) else if h < look l a % 16 then (0, 0, 4) else (look l a / 16, look l a % 16, 0) := by
  by_cases hx : ∃ s, Hit l s a
  · obtain ⟨s, hs⟩ := hx
    have h10 := hl.toFit.len_le s
    have hlk : look l a = s * 16 + len l s := by unfold look; rw [find_hit hl.toFit hs h10]
    have h0 := hs.1
    rw [if_neg (by omega)]
    have e1 : look l a % 16 = len l s := by omega
    have e2 : look l a / 16 = s := by omega
    rw [e1, e2]
    by_cases hh : h < len l s
    · rw [if_pos hh]; exact findF_open hl.toFit ha hs hh
    · rw [if_neg hh]; exact findF_hit hl.toFit hs (by omega)
  · have hn : ∀ s, ¬ Hit l s a := fun s hs => hx ⟨s, hs⟩
    have hlk : look l a = 0 := by unfold look; rw [find_none (fun s hs => absurd hs (hn s))]
    rw [if_pos hlk]; exact findF_none hl ha hn
theorem look_hit {l : List Nat} (hl : Fit l) {a s : Nat} (hs : Hit l s a) : look l a = s * 16 + len l s := by
  unfold look; rw [find_hit hl hs (hl.len_le s)]
theorem look_no {l : List Nat} {a : Nat} (hn : ∀ s, ¬ Hit l s a) : look l a = 0 := by
  unfold look; rw [find_none (fun s hs => absurd hs (hn s))]
theorem findF_range {l : List Nat} (a h : Nat) : (findF l a h).2.2 = 0 → (findF l a h).1 < l.length ∧ 0 < (findF l a h).2.1 ∧ (findF l a h).2.1 ≤ h ∧ len l (findF l a h).1 = (findF l a h).2.1 ∧ a % 2 ^ (findF l a h).2.1 = code l (findF l a h).1 := by
  unfold findF
  cases e : (List.range l.length).find? (hitB l a h) with
  | none => intro h2; simp only at h2; split at h2 <;> simp at h2
  | some s =>
    intro _
    have h2 := hitB_iff.1 (List.find?_some e)
    exact ⟨List.mem_range.1 (List.mem_of_find?_eq_some e), h2.1.1, h2.2, rfl, h2.1.2⟩
/-- More bits turn no answer but 'the input ends'. -/
theorem findF_more {l : List Nat} (hl : Lawful l) {a b h k : Nat} (ha : a < 2 ^ h) (hb : b < 2 ^ k) (hk : h ≤ k) (e : b % 2 ^ h = a) (hn : (findF l a h).2.2 ≠ 4) : findF l b k = findF l a h := by
  by_cases hx : ∃ s, Hit l s a
  · obtain ⟨s, hs⟩ := hx
    by_cases hh : h < len l s
    · rw [findF_open hl.toFit ha hs hh] at hn; exact absurd rfl hn
    · rw [findF_hit hl.toFit hs (by omega), findF_hit hl.toFit (Hit.mod (k := h) hs (by omega) (by rw [e, Nat.mod_eq_of_lt ha])) (by omega)]
  · have hna : ∀ s, ¬ Hit l s a := fun s hs => hx ⟨s, hs⟩
    rw [findF_none hl ha hna]
    refine findF_none hl hb fun s hs => ?_
    rcases hl.full with hf | ⟨h4, h5⟩
    · obtain ⟨t, ht⟩ := full_hit hl.toFit hf a; exact hna t ht
    · by_cases h0 : h = 0
      · subst h0
        have ha0 : a = 0 := by simp at ha; omega
        have h7 : len l s = 1 := by have := h4 s; have := hs.1; omega
        have h8 := rank_lt (l := l) (s := s) (by omega)
        rw [h7] at h8
        have h9 : canon l s = 0 := by unfold canon; rw [h7]; simp only [firstC]; omega
        exact hna s ⟨by omega, by rw [code, h9, h7, ha0]; decide⟩
      · have := h4 s
        exact hna s (Hit.mod hs (k := h) (by omega) (by rw [e, Nat.mod_eq_of_lt ha]))
end Go.Proofs.Qxb6500353aGreat
