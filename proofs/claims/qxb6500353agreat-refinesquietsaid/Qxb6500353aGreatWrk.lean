/- The work, plainly: a text with a short period packs well. -/
import Derived.Test.Qxb6500353aGreatBls
namespace Go.Proofs.Qxb6500353aGreat
set_option linter.unusedVariables false
set_option linter.unusedSimpArgs false

def PerOK (s : List Nat) (p : Nat) : Prop := ∀ i, p ≤ i → i < s.length → by_ s i = by_ s (i - p)
def tokCost (t : Tok) : Nat := if t.len = 0 then 9 else 14
def costF (ts : List Tok) : Nat := (ts.map tokCost).sum
theorem fixA_le (s : Nat) : len fixA s ≤ 9 := by
  by_cases h : s < 265
  · rw [fixA_len h]; unfold fixedLen; split <;> omega
  · rw [len_out (by rw [fixA_length]; omega)]; omega
theorem fixB_le (s : Nat) : len fixB s ≤ 3 := by
  by_cases h : s < 8
  · rw [fixB_len h]; omega
  · rw [len_out (by rw [fixB_length]; omega)]; omega
theorem cost_bits (ts : List Tok) (h : ∀ t ∈ ts, TokOK t) : putBits (ts.flatMap (tokPuts fixA fixB)) ≤ costF ts := by
  induction ts with
  | nil => exact Nat.le_refl _
  | cons t ts ih =>
    have h1 := ih fun u hu => h u (by simp [hu])
    have h2 : putBits (tokPuts fixA fixB t) ≤ tokCost t := by
      unfold tokPuts tokCost
      rcases h t (by simp) with ⟨h3, h4⟩ | ⟨h3, h4, h5, h6⟩
      · rw [if_pos h3, if_pos h3]; have := fixA_le t.lit; simp [putBits]; omega
      · have h7 := dist_fits h5 h6
        rw [if_neg (by omega), if_neg (by omega)]
        have := fixA_le (254 + t.len); have := fixB_le (distCode t.dist)
        simp only [putBits, List.map_cons, List.map_nil, List.sum_cons, List.sum_nil]; omega
    rw [List.flatMap_cons, putBits_append]
    simp only [costF, List.map_cons, List.sum_cons] at *
    omega
theorem fix_cost {ts : List Tok} (h : ∀ t ∈ ts, TokOK t) : bitsFix ts ≤ 12 + costF ts := by
  have h1 := cost_bits ts h
  have h2 : bitsFix ts = 3 + putBits (bodyPuts fixA fixB ts) := by unfold bitsFix fixL; rw [body_bits fixA_length h]
  have h3 := fixA_le 256
  rw [h2]; unfold bodyPuts
  rw [putBits_append]
  have : putBits [(code fixA 256, len fixA 256)] = len fixA 256 := by simp [putBits]
  omega
theorem ag_period {s : List Nat} {p i : Nat} (hp : PerOK s p) (h1 : 1 ≤ p) (hi : p ≤ i) (hl : i ≤ s.length) : agF s i p = min 10 (s.length - i) := by
  refine agF_uniq s i p _ (by omega) (by omega) (fun m hm => hp _ (by omega) (by omega)) ?_
  omega
theorem bestF_le (s : List Nat) (i : Nat) (hl : i ≤ s.length) : (bestF s i).1 ≤ min 10 (s.length - i) := by
  rcases bestF_spec s i with h | ⟨a, b, c, d, e, f⟩
  · rw [h]; omega
  · have := agF_len s i (bestF s i).2 hl
    have := agF_le s i (bestF s i).2
    omega
/-- Beyond the first period every token is as long as can be. -/
theorem take_period {s : List Nat} {p i lv : Nat} (hp : PerOK s p) (h1 : 1 ≤ p) (h16 : p ≤ 16) (hi : p ≤ i) (hl : i < s.length) (hlv : 1 ≤ lv) :
    if 3 ≤ s.length - i then (takeF s lv i).1 = min 10 (s.length - i) else (takeF s lv i).1 = 0 := by
  have hb := bestF_le s i (by omega)
  split
  · rename_i h3
    have ha := ag_period hp h1 hi (by omega)
    have hm := bestF_max s i p h1 h16 hi (by omega)
    have he : (bestF s i).1 = min 10 (s.length - i) := by omega
    have hn := bestF_le s (i + 1) (by omega)
    unfold takeF
    rw [if_neg (by omega), if_neg (by omega), he]
  · rename_i h3
    rcases takeF_spec s lv i with h | ⟨h4, h5⟩
    · exact h
    · omega
def bitsFrom (s : List Nat) (lv i : Nat) : Nat := costF (parseP s lv i)
theorem from_end (s : List Nat) (lv i : Nat) (h : s.length ≤ i) : bitsFrom s lv i = 0 := by unfold bitsFrom; rw [parseP_end s lv i h]; rfl
theorem from_lit (s : List Nat) (lv i : Nat) (h : i < s.length) (h0 : (takeF s lv i).1 = 0) : bitsFrom s lv i = 9 + bitsFrom s lv (i + 1) := by
  unfold bitsFrom; rw [parseP_lit s lv i h h0]; simp [costF, tokCost]
theorem from_dup (s : List Nat) (lv i : Nat) (h : i < s.length) (h0 : (takeF s lv i).1 ≠ 0) : bitsFrom s lv i = 14 + bitsFrom s lv (i + (takeF s lv i).1) := by
  unfold bitsFrom; rw [parseP_dup s lv i h h0]; simp [costF, tokCost, h0]
theorem from_late {s : List Nat} {p lv : Nat} (hp : PerOK s p) (h1 : 1 ≤ p) (h16 : p ≤ 16) (hlv : 1 ≤ lv) : ∀ k i, s.length - i = k → p ≤ i → bitsFrom s lv i ≤ 14 * ((s.length - i) / 10) + 18 := by
  intro k
  induction k using Nat.strongRecOn with
  | _ k ih =>
    intro i hk hi
    by_cases hl : i < s.length
    · have ht := take_period hp h1 h16 hi hl hlv
      split at ht
      · rw [from_dup s lv i hl (by omega), ht]
        by_cases h10 : 10 ≤ s.length - i
        · have := ih (s.length - (i + 10)) (by omega) (i + 10) rfl (by omega)
          rw [Nat.min_eq_left h10]; omega
        · rw [from_end s lv _ (by omega)]; omega
      · rw [from_lit s lv i hl ht]
        by_cases h2 : i + 1 < s.length
        · have ht2 := take_period hp h1 h16 (show p ≤ i + 1 by omega) h2 hlv
          rw [if_neg (by omega)] at ht2
          rw [from_lit s lv _ h2 ht2, from_end s lv _ (by omega)]; omega
        · rw [from_end s lv _ (by omega)]; omega
    · rw [from_end s lv _ (by omega)]; omega
theorem from_early {s : List Nat} {p lv : Nat} (hp : PerOK s p) (h1 : 1 ≤ p) (h16 : p ≤ 16) (hlv : 1 ≤ lv) (hpn : p ≤ s.length) : ∀ k i, p - i = k → i ≤ p → bitsFrom s lv i ≤ 9 * (p - i) + 32 + 14 * ((s.length - p) / 10) := by
  intro k
  induction k using Nat.strongRecOn with
  | _ k ih =>
    intro i hk hi
    by_cases e : i = p
    · have := from_late hp h1 h16 hlv _ i rfl (by omega)
      subst e; omega
    · by_cases h0 : (takeF s lv i).1 = 0
      · rw [from_lit s lv i (by omega) h0]
        have := ih (p - (i + 1)) (by omega) (i + 1) rfl (by omega)
        omega
      · rw [from_dup s lv i (by omega) h0]
        have h3 : 3 ≤ (takeF s lv i).1 := by
          rcases takeF_spec s lv i with h | ⟨h4, h5⟩
          · exact absurd h h0
          · rw [h4]; exact h5
        by_cases hc : i + (takeF s lv i).1 ≤ p
        · have := ih (p - (i + (takeF s lv i).1)) (by omega) _ rfl hc
          omega
        · have := from_late hp h1 h16 hlv _ (i + (takeF s lv i).1) rfl (by omega)
          omega
theorem work_law {s : List Nat} {p lv : Nat} (hb : ∀ b ∈ s, b < 256) (hp : PerOK s p) (h1 : 1 ≤ p) (h16 : p ≤ 16) (hlv : 1 ≤ lv) (hpn : p ≤ s.length ∨ s.length = 0) :
    (packF s lv).length ≤ 10 + 2 * p + s.length / 5 ∧ (p = 1 → (packF s lv).length ≤ 8 + s.length / 5) := by
  have h2 := kind_best s.length (parseP s lv 0)
  have h3 := fix_cost (parse_ok s hb lv)
  rw [pack_length hb]
  have h4 : costF (parseP s lv 0) = bitsFrom s lv 0 := rfl
  rcases hpn with hpn | hpn
  · have h5 := from_early hp h1 h16 hlv hpn _ 0 rfl (by omega)
    constructor
    · omega
    · intro e; subst e; omega
  · have h5 := from_end s lv 0 (by omega)
    constructor
    · omega
    · intro _; omega
end Go.Proofs.Qxb6500353aGreat
