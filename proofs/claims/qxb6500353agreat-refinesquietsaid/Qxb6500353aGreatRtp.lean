/- The round trip, plainly: what the encoder lays the machine reads. -/
import Derived.Test.Qxb6500353aGreatMch
namespace Go.Proofs.Qxb6500353aGreat
set_option linter.unusedVariables false
set_option linter.unusedSimpArgs false

/-- On the tape, from the cursor on, stand these; N bits in all. -/
structure Rem (T : Tp) (N : Nat) (ps : List (Nat × Nat)) : Prop where
  X : T.X / 2 ^ T.at_ = putNum ps
  at_ : T.at_ + putBits ps = N
  n : T.n = up8 N
theorem up8_ge (n : Nat) : n ≤ up8 n ∧ up8 n < n + 8 ∧ up8 n % 8 = 0 := by unfold up8; omega
theorem Rem.take {T : Tp} {N v k : Nat} {ps : List (Nat × Nat)} (h : Rem T N ((v, k) :: ps)) (hv : v < 2 ^ k) :
    ¬ T.got k < k ∧ T.peek k = v ∧ Rem (T.skip k) N ps := by
  have h1 := h.X; have h2 := h.at_; have h3 := h.n
  have h4 := up8_ge N
  simp only [putBits, List.map_cons, List.sum_cons] at h2
  have hg : T.got k = k := by unfold Tp.got; omega
  have h5 : putNum ((v, k) :: ps) = v + 2 ^ k * putNum ps := rfl
  refine ⟨by omega, ?_, ?_, ?_, h3⟩
  · unfold Tp.peek
    rw [hg, h1, h5, Nat.add_mul_mod_self_left, Nat.mod_eq_of_lt hv]
  · simp only [Tp.skip]
    rw [Nat.pow_add, ← Nat.div_div_eq_div_mul, h1, h5, Nat.add_mul_div_left _ _ (pw_pos _), Nat.div_eq_of_lt hv, Nat.zero_add]
  · simp only [Tp.skip, putBits]; omega
theorem Rem.sym {T : Tp} {N s : Nat} {l : List Nat} {ps : List (Nat × Nat)} (h : Rem T N ((code l s, len l s) :: ps)) (hl : Lawful l) (h0 : 0 < len l s) :
    symF l T = (s, len l s, 0) ∧ Rem (T.skip (len l s)) N ps := by
  have h1 := h.X; have h2 := h.at_; have h3 := h.n
  have h4 := up8_ge N
  have h10 := hl.toFit.len_le s
  simp only [putBits, List.map_cons, List.sum_cons] at h2
  refine ⟨?_, (h.take (code_lt l s)).2.2⟩
  have hg : len l s ≤ T.got 10 := by unfold Tp.got; omega
  unfold symF
  refine findF_hit hl.toFit ?_ hg
  refine ⟨h0, ?_⟩
  unfold Tp.peek
  rw [mod_pow_mod _ _ _ hg, h1]
  have h5 : putNum ((code l s, len l s) :: ps) = code l s + 2 ^ len l s * putNum ps := rfl
  rw [h5, Nat.add_mul_mod_self_left, Nat.mod_eq_of_lt (code_lt l s)]
theorem Rem.zero {T : Tp} {N : Nat} {ps : List (Nat × Nat)} (h : Rem T N ((0, 0) :: ps)) : Rem T N ps := by
  have h1 := (h.take (by decide)).2.2
  exact h1
theorem skip_skip (T : Tp) (a b : Nat) : (T.skip a).skip b = T.skip (a + b) := by unfold Tp.skip; simp only [Nat.add_assoc]
/-- An item: its four bits, its further ones. -/
theorem Rem.item {T : Tp} {N x v m : Nat} {ps : List (Nat × Nat)} (h : Rem T N ((x, 4) :: (v, m) :: ps)) (hx : x < 16) (hv : v < 2 ^ m) (hm : m ≤ 7) :
    4 + m ≤ T.got 11 ∧ T.peek 11 % 16 = x ∧ T.peek 11 / 16 % 2 ^ m = v ∧ Rem (T.skip 4) N ((v, m) :: ps) ∧ Rem (T.skip (4 + m)) N ps := by
  have h1 := h.X; have h2 := h.at_; have h3 := h.n
  have h4 := up8_ge N
  simp only [putBits, List.map_cons, List.sum_cons] at h2
  have hg : 4 + m ≤ T.got 11 := by unfold Tp.got; omega
  have h5 : putNum ((x, 4) :: (v, m) :: ps) = x + 2 ^ 4 * (v + 2 ^ m * putNum ps) := rfl
  have h6 := (h.take (by simpa using hx)).2.2
  have h7 := (h6.take hv).2.2
  rw [skip_skip] at h7
  refine ⟨hg, ?_, ?_, h6, h7⟩
  · unfold Tp.peek
    rw [h1, h5, show (16 : Nat) = 2 ^ 4 from rfl, mod_pow_mod _ _ _ (by omega), Nat.add_mul_mod_self_left, Nat.mod_eq_of_lt hx]
  · unfold Tp.peek
    rw [h1, h5, show (16 : Nat) = 2 ^ 4 from rfl, mod_div_mod' _ _ 4 m hg]
    rw [Nat.add_mul_div_left _ _ (by decide), Nat.div_eq_of_lt hx, Nat.zero_add, Nat.add_mul_mod_self_left, Nat.mod_eq_of_lt hv]
where
  mod_div_mod' (x n a g : Nat) (h : a + g ≤ n) : x % 2 ^ n / 2 ^ a % 2 ^ g = x / 2 ^ a % 2 ^ g := by
    rw [two_pow_split a n (by omega), Nat.mod_mul_right_div_self, mod_pow_mod _ _ _ (by omega)]

theorem ends_ok {t : Tp} {s : DS} {o : List Nat} (h8 : s.ph = 8) (hat : ¬ t.at_ < t.n) (ho : s.out = o) : Ends t s 0 o := by
  have h := Ends.tail (t := t) h8
  rw [if_neg hat] at h
  subst ho; exact h
/-- In a coded block of the final kind. -/
structure InC (la lb : List Nat) (o : List Nat) (s : DS) : Prop where
  ph : s.ph = 5
  final : s.final = 1
  a : s.a = la
  b : s.b = lb
  out : s.out = o
theorem take_snoc (s : List Nat) (i : Nat) (hi : i < s.length) : s.take i ++ [by_ s i] = s.take (i + 1) := by
  rw [List.take_succ_eq_append_getElem hi]
  simp [by_, List.getD_eq_getElem?_getD, List.getElem?_eq_getElem hi]
theorem copy_take (s : List Nat) (i d n : Nat) (h1 : 1 ≤ d) (h2 : d ≤ i) (h3 : i + n ≤ s.length) (h : ∀ m, m < n → by_ s (i + m) = by_ s (i + m - d)) : copyF (s.take i) d n = s.take (i + n) := by
  induction n with
  | zero => rfl
  | succ n ih =>
    rw [copyF, ih (by omega) fun m hm => h m (by omega)]
    have hl : (s.take (i + n)).length = i + n := by simp; omega
    rw [hl]
    have e : (s.take (i + n)).getD (i + n - d) 0 = by_ s (i + n) := by
      rw [h n (by omega)]
      unfold by_
      rw [List.getD_eq_getElem?_getD, List.getD_eq_getElem?_getD, List.getElem?_take, if_pos (by omega)]
    rw [e, take_snoc s (i + n) (by omega)]; rfl
theorem toks_steps {la lb s : List Nat} {N : Nat} (hs256 : s.length ≤ 256) (hb : ∀ b ∈ s, b < 256) (ts : List Tok) : ∀ (i : Nat) (T : Tp) (d : DS), Sets la lb ts → TokRun s i ts → InC la lb (s.take i) d → Rem T N (bodyPuts la lb ts) → Ends T d 0 s := by
  have hby : ∀ i, by_ s i < 256 := by
    intro i; unfold by_
    by_cases hi : i < s.length
    · rw [List.getD_eq_getElem?_getD, List.getElem?_eq_getElem hi]; exact hb _ (List.getElem_mem _)
    · rw [List.getD_eq_getElem?_getD, List.getElem?_eq_none (by omega)]; decide
  induction ts with
  | nil =>
    intro i T d hS hr hI hR
    have hi : i = s.length := hr
    subst hi
    have hR2 : Rem T N [(code la 256, len la 256)] := hR
    obtain ⟨h1, h2⟩ := hR2.sym hS.a hS.eob
    have hsym : symF d.a T = (256, len la 256, 0) := by rw [hI.a]; exact h1
    have hst : stepF T d = (0, (T.skip (len la 256)).sync, { d with ph := 8 }) := by
      rw [stepF_5 hI.ph]; simp only [step5]
      rw [hsym]
      simp only [ne_eq, not_true_eq_false, if_false, if_true]
      unfold shutS; rw [if_neg (by rw [hI.final]; decide)]
    refine .step (by rw [hI.ph]; decide) hst ?_
    have h4 := h2.at_; have h5 := h2.n
    simp only [putBits, List.map_nil, List.sum_nil] at h4
    have h6 := up8_ge N
    refine ends_ok rfl ?_ (by simp only; rw [hI.out, List.take_length])
    simp only [Tp.sync]
    rw [show (T.skip (len la 256)).at_ = N by omega, h5]; omega
  | cons t ts ih =>
    intro i T d hS hr hI hR
    have hS2 : Sets la lb ts := ⟨hS.a, hS.b, hS.na, hS.nb, hS.eob, fun u hu => hS.lit u (by simp [hu]), fun u hu => hS.copy u (by simp [hu])⟩
    rcases hr with ⟨r1, r2, r3, r4, r5⟩ | ⟨r1, r2, r3, r4, r5, r6, r7, r8, r9⟩
    · have hR2 : Rem T N ((code la t.lit, len la t.lit) :: bodyPuts la lb ts) := by
        unfold bodyPuts tokPuts at hR; rw [List.flatMap_cons, if_pos r1] at hR; exact hR
      obtain ⟨h1, h2⟩ := hR2.sym hS.a (hS.lit t (by simp) r1)
      have hl : t.lit < 256 := by rw [r3]; exact hby i
      have hst : stepF T d = (0, T.skip (len la t.lit), { d with out := d.out ++ [t.lit] }) := by
        have hsym : symF d.a T = (t.lit, len la t.lit, 0) := by rw [hI.a]; exact h1
        have hne : t.lit ≠ 256 := by omega
        have hol : ¬ 256 ≤ d.out.length := by rw [hI.out]; simp; omega
        rw [stepF_5 hI.ph]; simp only [step5]
        rw [hsym]
        simp only [ne_eq, not_true_eq_false, if_false]
        rw [if_neg hne, if_pos hl, if_neg hol]
      refine .step (by rw [hI.ph]; decide) hst ?_
      refine ih (i + 1) _ _ hS2 r5 ⟨hI.ph, hI.final, hI.a, hI.b, ?_⟩ h2
      simp only; rw [hI.out, r3, take_snoc s i r4]
    · have r0 : t.len ≠ 0 := by omega
      have hR2 : Rem T N ((code la (254 + t.len), len la (254 + t.len)) :: (code lb (distCode t.dist), len lb (distCode t.dist)) :: (t.dist - (distBase (distCode t.dist)).1, (distBase (distCode t.dist)).2) :: bodyPuts la lb ts) := by
        unfold bodyPuts tokPuts at hR; rw [List.flatMap_cons, if_neg r0] at hR; exact hR
      have hc := hS.copy t (by simp) r0
      have hd := dist_fits r3 r4
      obtain ⟨h1, h2⟩ := hR2.sym hS.a hc.1
      obtain ⟨h3, h4⟩ := h2.sym hS.b hc.2
      obtain ⟨h5, h6, h7⟩ := h4.take hd.2.2.1
      have st1 : stepF T d = (0, T.skip (len la (254 + t.len)), { d with ph := 6, run := t.len }) := by
        have hsym : symF d.a T = (254 + t.len, len la (254 + t.len), 0) := by rw [hI.a]; exact h1
        have hne : 254 + t.len ≠ 256 := by omega
        have hnl : ¬ 254 + t.len < 256 := by omega
        rw [stepF_5 hI.ph]; simp only [step5]
        rw [hsym]
        simp only [ne_eq, not_true_eq_false, if_false]
        rw [if_neg hne, if_neg hnl, Nat.add_sub_cancel_left]
      refine .step (by rw [hI.ph]; decide) st1 ?_
      have st2 : stepF (T.skip (len la (254 + t.len))) { d with ph := 6, run := t.len } = (0, (T.skip (len la (254 + t.len))).skip (len lb (distCode t.dist)), { d with ph := 7, run := t.len, base := (distBase (distCode t.dist)).1, more := (distBase (distCode t.dist)).2 }) := by
        have hsym : symF d.b (T.skip (len la (254 + t.len))) = (distCode t.dist, len lb (distCode t.dist), 0) := by rw [hI.b]; exact h3
        rw [stepF_6 rfl]; simp only [step6]
        rw [hsym]
        simp only [ne_eq, not_true_eq_false, if_false]
      refine .step (by simp) st2 ?_
      have hol : d.out.length = i := by rw [hI.out]; simp; omega
      have st3 : stepF ((T.skip (len la (254 + t.len))).skip (len lb (distCode t.dist))) { d with ph := 7, run := t.len, base := (distBase (distCode t.dist)).1, more := (distBase (distCode t.dist)).2 } = (0, ((T.skip (len la (254 + t.len))).skip (len lb (distCode t.dist))).skip (distBase (distCode t.dist)).2, { d with ph := 5, run := t.len, base := (distBase (distCode t.dist)).1, more := (distBase (distCode t.dist)).2, out := copyF d.out t.dist t.len }) := by
        rw [stepF_7 rfl]; simp only [step7]
        rw [if_neg h5, h6, show (distBase (distCode t.dist)).1 + (t.dist - (distBase (distCode t.dist)).1) = t.dist by omega, if_neg (by omega), if_neg (by omega)]
      refine .step (by simp) st3 ?_
      refine ih (i + t.len) _ _ hS2 r9 ⟨rfl, hI.final, hI.a, hI.b, ?_⟩ h7
      simp only; rw [hI.out, copy_take s i t.dist t.len r3 r5 r7 r8]

/-! ### the list of lengths -/
theorem take_one (L : List Nat) (i : Nat) (hi : i < L.length) : L.take i ++ [len L i] = L.take (i + 1) := take_snoc L i hi
theorem take_many (L : List Nat) (i r v : Nat) (h : i + r ≤ L.length) (he : ∀ m, m < r → len L (i + m) = v) : L.take i ++ List.replicate r v = L.take (i + r) := by
  induction r with
  | zero => simp
  | succ r ih =>
    rw [List.replicate_succ', ← List.append_assoc, ih (by omega) fun m hm => he m (by omega), ← he r (by omega), take_one L (i + r) (by omega)]; rfl
theorem sets_step {la lb : List Nat} {T : Tp} {s : DS} (ha : Lawful la) (hb : Lawful lb) (na : la.length = 265) (heob : 0 < len la 256) (hls : s.ls = la ++ lb) : setsS T s = (0, T, { s with ph := 5, a := la, b := lb }) := by
  have e1 : s.ls.take 265 = la := by rw [hls, ← na, List.take_left']; rfl
  have e2 : s.ls.drop 265 = lb := by rw [hls, ← na, List.drop_left']; rfl
  have b1 := (buildE_lawful ha.le ha.size).2 ha
  have b2 := (buildE_lawful hb.le hb.size).2 hb
  unfold setsS
  rw [e1, e2, b1, b2, if_neg (by simp), if_neg (by simp), if_neg]
  rw [hls, len_append_left (by omega)]; omega
theorem list_steps {la lb : List Nat} (ha : Lawful la) (hb : Lawful lb) (na : la.length = 265) (nb : lb.length = 8) (heob : 0 < len la 256) {N : Nat} {ps : List (Nat × Nat)} (k : Nat) : ∀ (i : Nat) (T : Tp) (s : DS),
    (la ++ lb).length - i = k → i < (la ++ lb).length → s.ph = 4 → s.ls = (la ++ lb).take i → Rem T N ((itP (la ++ lb) i).flatMap itemPuts ++ ps) →
    ∃ T2 s2, Steps T s T2 s2 ∧ s2 = { s with ph := 5, ls := la ++ lb, a := la, b := lb } ∧ Rem T2 N ps := by
  have hL : (la ++ lb).length = 273 := by simp; omega
  have hle := lens_le ha hb
  induction k using Nat.strongRecOn with
  | _ k ih =>
    intro i T s hk hi h4 hls hR
    have hlen : s.ls.length = i := by rw [hls]; simp; omega
    rw [itP_step (la ++ lb) i hi, List.flatMap_cons] at hR
    have hok := item_ok hle i
    have hadv := itemAt_adv (la ++ lb) i hi
    have hR2 : Rem T N (((itemAt (la ++ lb) i).1.x, 4) :: ((itemAt (la ++ lb) i).1.v, (itemAt (la ++ lb) i).1.more) :: ((itP (la ++ lb) (i + (itemAt (la ++ lb) i).2)).flatMap itemPuts ++ ps)) := by
      simpa [itemPuts] using hR
    obtain ⟨g1, g2, g3, g4, g5⟩ := hR2.item (by omega) hok.2.1 hok.2.2
    -- the step, up to 'listEnd'
    have hst : ∃ T3, stepF T s = listEnd T3 { s with ls := (la ++ lb).take (i + (itemAt (la ++ lb) i).2) } ∧ Rem T3 N ((itP (la ++ lb) (i + (itemAt (la ++ lb) i).2)).flatMap itemPuts ++ ps) := by
      have hrle := runF_le (la ++ lb) i hi
      have hreq := runF_eq (la ++ lb) i hi
      rw [stepF_4 h4]; simp only [step4]
      rw [if_neg (show ¬ T.got 11 < 4 by omega), g2]
      by_cases c1 : len (la ++ lb) i = 0 ∧ 3 ≤ runF (la ++ lb) i
      · have e : itemAt (la ++ lb) i = (⟨11, min (runF (la ++ lb) i) 130 - 3, 7⟩, min (runF (la ++ lb) i) 130) := by unfold itemAt; rw [if_pos c1]
        rw [e] at g1 g2 g3 g5 ⊢
        simp only at g1 g2 g3 g5 ⊢
        refine ⟨T.skip 11, ?_, g5⟩
        have ew : wideF 11 = 7 := rfl
        have et : timesF T = min (runF (la ++ lb) i) 130 := by unfold timesF; rw [g2, ew, g3]; omega
        rw [if_neg (by decide), if_neg (by decide), ew, if_neg (by omega), if_neg (by simp), et, if_neg (by omega), if_neg (by decide), hls]
        rw [take_many (la ++ lb) i _ 0 (by omega) fun m hm => by rw [hreq m (by omega)]; exact c1.1]
      · by_cases c2 : 0 < i ∧ len (la ++ lb) i = len (la ++ lb) (i - 1) ∧ 3 ≤ runF (la ++ lb) i
        · have e : itemAt (la ++ lb) i = (⟨12, min (runF (la ++ lb) i) 6 - 3, 2⟩, min (runF (la ++ lb) i) 6) := by unfold itemAt; rw [if_neg c1, if_pos c2]
          rw [e] at g1 g2 g3 g5 ⊢
          simp only at g1 g2 g3 g5 ⊢
          refine ⟨T.skip 6, ?_, g5⟩
          have ew : wideF 12 = 2 := rfl
          have et : timesF T = min (runF (la ++ lb) i) 6 := by unfold timesF; rw [g2, ew, g3]; omega
          have hl0 : s.ls.length ≠ 0 := by omega
          rw [if_neg (by decide), if_neg (by decide), ew, if_neg (by omega)]
          simp only [true_and, if_true]
          rw [if_neg hl0, et, if_neg (by omega), hlen]
          have ev : len s.ls (i - 1) = len (la ++ lb) i := by
            rw [c2.2.1, hls]; unfold len
            rw [List.getD_eq_getElem?_getD, List.getD_eq_getElem?_getD, List.getElem?_take, if_pos (by omega)]
          rw [ev, hls, take_many (la ++ lb) i _ (len (la ++ lb) i) (by omega) fun m hm => hreq m (by omega)]
        · have e : itemAt (la ++ lb) i = (⟨len (la ++ lb) i, 0, 0⟩, 1) := by unfold itemAt; rw [if_neg c1, if_neg c2]
          rw [e] at g1 g2 g3 g5 ⊢
          simp only at g1 g2 g3 g5 ⊢
          refine ⟨T.skip 4, ?_, g5⟩
          rw [if_pos (hle i), hls, take_one (la ++ lb) i hi]
    obtain ⟨T3, hst, hR3⟩ := hst
    have hl2 : ((la ++ lb).take (i + (itemAt (la ++ lb) i).2)).length = i + (itemAt (la ++ lb) i).2 := by simp; omega
    by_cases hend : i + (itemAt (la ++ lb) i).2 < 273
    · have e : listEnd T3 { s with ls := (la ++ lb).take (i + (itemAt (la ++ lb) i).2) } = (0, T3, { s with ls := (la ++ lb).take (i + (itemAt (la ++ lb) i).2) }) := by
        unfold listEnd; rw [if_pos (by simp only; omega)]
      rw [e] at hst
      obtain ⟨T2, s2, q1, q2, q3⟩ := ih _ (by omega) (i + (itemAt (la ++ lb) i).2) T3 { s with ls := (la ++ lb).take (i + (itemAt (la ++ lb) i).2) } rfl (by omega) h4 rfl hR3
      exact ⟨T2, s2, .step (by rw [h4]; decide) hst q1, q2, q3⟩
    · have hall : (la ++ lb).take (i + (itemAt (la ++ lb) i).2) = la ++ lb := by rw [List.take_of_length_le (by omega)]
      have e : listEnd T3 { s with ls := (la ++ lb).take (i + (itemAt (la ++ lb) i).2) } = (0, T3, { s with ph := 5, ls := la ++ lb, a := la, b := lb }) := by
        unfold listEnd; rw [if_neg (by simp only; omega), hall]
        exact sets_step ha hb na heob rfl
      rw [e] at hst
      rw [itP_end (la ++ lb) _ (by omega)] at hR3
      exact ⟨T3, _, .one (by rw [h4]; decide) hst, rfl, by simpa using hR3⟩

/-! ### the stored block -/
theorem by_mem (s : List Nat) (i : Nat) (hi : i < s.length) : by_ s i ∈ s := by
  unfold by_; rw [List.getD_eq_getElem?_getD, List.getElem?_eq_getElem hi]; exact List.getElem_mem _
theorem bytes_steps {s : List Nat} {N : Nat} (hs256 : s.length ≤ 256) (hb : ∀ b ∈ s, b < 256) (hN : N % 8 = 0) (k : Nat) : ∀ (i : Nat) (T : Tp) (d : DS), s.length - i = k + 1 → i < s.length →
    d.ph = 3 → d.final = 1 → d.due = s.length - i → d.out = s.take i → Rem T N ((s.drop i).map fun b => (b, 8)) → Ends T d 0 s := by
  induction k with
  | zero =>
    intro i T d hk hi h3 hf hd ho hR
    have e : s.drop i = [by_ s i] := by
      rw [List.drop_eq_getElem_cons hi, List.drop_of_length_le (by omega)]
      simp [by_, List.getD_eq_getElem?_getD, List.getElem?_eq_getElem hi]
    rw [e] at hR
    obtain ⟨g1, g2, g3⟩ := hR.take (show by_ s i < 2 ^ 8 from hb _ (by_mem s i hi))
    have hst : stepF T d = (0, (T.skip 8).sync, { d with ph := 8, out := s, due := 0 }) := by
      rw [stepF_3 h3]; simp only [step3]
      rw [if_neg g1, if_neg (by rw [ho]; simp; omega), if_pos (by omega), g2, ho, take_snoc s i hi, List.take_of_length_le (by omega)]
      unfold shutS; rw [if_neg (by simp only; omega)]
    refine .step (by rw [h3]; decide) hst ?_
    have h6 := g3.at_; have h7 := g3.n
    simp only [putBits, List.map_nil, List.sum_nil] at h6
    have h8 := up8_ge N
    refine ends_ok rfl ?_ rfl
    simp only [Tp.sync]
    rw [show (T.skip 8).at_ = N by omega, h7]; omega
  | succ k ih =>
    intro i T d hk hi h3 hf hd ho hR
    have e : s.drop i = by_ s i :: s.drop (i + 1) := by
      rw [List.drop_eq_getElem_cons hi]
      simp [by_, List.getD_eq_getElem?_getD, List.getElem?_eq_getElem hi]
    rw [e] at hR
    obtain ⟨g1, g2, g3⟩ := hR.take (show by_ s i < 2 ^ 8 from hb _ (by_mem s i hi))
    have hst : stepF T d = (0, T.skip 8, { d with out := s.take (i + 1), due := d.due - 1 }) := by
      rw [stepF_3 h3]; simp only [step3]
      rw [if_neg g1, if_neg (by rw [ho]; simp; omega), if_neg (by omega), g2, ho, take_snoc s i hi]
    refine .step (by rw [h3]; decide) hst ?_
    exact ih (i + 1) _ _ (by omega) (by omega) h3 hf (by simp only; omega) rfl g3

/-! ### the whole text -/
theorem rem_load {t : Tp} (h : t.X < 2 ^ t.n) {ps : List (Nat × Nat)} (hX : t.X = putNum ps) (hn : t.n = putBits ps) : Rem (Tp.load t.text) (putBits ps) ps := by
  rw [Tp.load_text h]
  exact ⟨by simp only [Nat.pow_zero, Nat.div_one]; exact hX, by simp, by simp only; rw [hn]⟩
theorem head_steps {N kind : Nat} {T : Tp} {ps : List (Nat × Nat)} (hk : kind ≤ 2) (h : Rem T N ((1, 1) :: (kind, 2) :: ps)) :
    Steps T DS.init (T.skip 1) { DS.init with ph := 1, final := 1 } ∧ ¬ (T.skip 1).got 2 < 2 ∧ (T.skip 1).peek 2 = kind ∧ Rem ((T.skip 1).skip 2) N ps := by
  obtain ⟨g1, g2, g3⟩ := h.take (by decide)
  obtain ⟨g4, g5, g6⟩ := g3.take (show kind < 2 ^ 2 by have : (2 : Nat) ^ 2 = 4 := rfl; omega)
  refine ⟨.one (by decide) ?_, g4, g5, g6⟩
  rw [stepF_0 rfl]; unfold step0
  rw [if_neg g1, g2]
theorem round_trip {s : List Nat} (hb : ∀ b ∈ s, b < 256) (hl : s.length ≤ 256) (lv : Nat) : Ends (Tp.load (packF s lv)) DS.init 0 s := by
  obtain ⟨ts, hts⟩ := (⟨_, rfl⟩ : ∃ ts, ts = parseP s lv 0)
  have hrun : TokRun s 0 ts := by rw [hts]; exact parse_run s lv _ 0 rfl (Nat.zero_le _)
  have htok : ∀ t ∈ ts, TokOK t := by rw [hts]; exact parse_ok s hb lv
  obtain ⟨kind, hkind⟩ := (⟨_, rfl⟩ : ∃ k, k = kindF s.length ts)
  have hk2 : kind ≤ 2 := by rw [hkind]; exact kindF_le _ _
  have hS := sets_kind (kind := kind) htok
  have hpack : packF s lv = (emitK kind s ts).text := by unfold packF; rw [← hts, ← hkind]
  rw [hpack]
  by_cases h0 : kind = 0
  · rw [h0]
    have eE : emitK 0 s ts = puts Tp.nil ([(1, 1), (0, 2), (0, 5)] ++ stoPuts s) := by
      unfold emitK emitF
      rw [if_pos rfl, puts_append]
      rfl
    have hok : PutsOK ([(1, 1), (0, 2), (0, 5)] ++ stoPuts s) := putsOK_append (by intro p hp; simp at hp; rcases hp with rfl | rfl | rfl <;> decide) (stoPuts_ok hb hl)
    have hnum := putNum_lt _ hok
    have hX := puts_eq ([(1, 1), (0, 2), (0, 5)] ++ stoPuts s) Tp.nil
    have hR : Rem (Tp.load (emitK 0 s ts).text) (putBits ([(1, 1), (0, 2), (0, 5)] ++ stoPuts s)) ([(1, 1), (0, 2), (0, 5)] ++ stoPuts s) := by
      rw [eE]
      refine rem_load ?_ ?_ ?_
      · rw [hX]; simpa [Tp.nil] using hnum
      · rw [hX]; simp [Tp.nil]
      · rw [hX]; simp [Tp.nil]
    have hbits : putBits ([(1, 1), (0, 2), (0, 5)] ++ stoPuts s) = 24 + 8 * s.length := by
      rw [putBits_append, stoPuts_bits]; simp [putBits]; omega
    rw [hbits] at hR
    obtain ⟨s1, g1, g2, g3⟩ := head_steps (kind := 0) (by omega) (show Rem _ _ ((1, 1) :: (0, 2) :: (0, 5) :: stoPuts s) from hR)
    obtain ⟨T, hT⟩ : ∃ T, T = Tp.load (emitK 0 s ts).text := ⟨_, rfl⟩
    rw [← hT] at s1 g1 g2 g3 hR ⊢
    refine s1.ends ?_
    obtain ⟨_, _, g6⟩ := g3.take (by decide)
    have hat := hR.at_; have hn := hR.n
    rw [hbits] at hat
    have hsync : ((T.skip 1).skip 2).sync = ((T.skip 1).skip 2).skip 5 := by
      have h0 : T.at_ = 0 := by omega
      have h3 : ((T.skip 1).skip 2).at_ = 3 := by simp only [Tp.skip]; omega
      have h4 : min (up8 ((T.skip 1).skip 2).at_) ((T.skip 1).skip 2).n = ((T.skip 1).skip 2).at_ + 5 := by
        have e1 : ((T.skip 1).skip 2).n = up8 (24 + 8 * s.length) := hn
        have := up8_ge (24 + 8 * s.length)
        rw [h3, e1, show up8 3 = 8 from rfl]; omega
      unfold Tp.sync
      rw [h4]; rfl
    have st1 : stepF (T.skip 1) { DS.init with ph := 1, final := 1 } = (0, ((T.skip 1).skip 2).sync, { DS.init with ph := 2, final := 1 }) := by
      rw [stepF_1 rfl]; simp only [step1]; rw [if_neg g1, if_pos g2]
    refine .step (by decide) st1 ?_
    rw [hsync]
    have g7 : Rem (((T.skip 1).skip 2).skip 5) (24 + 8 * s.length) ((s.length, 16) :: s.map fun b => (b, 8)) := g6
    obtain ⟨k1, k2, k3⟩ := g7.take (show s.length < 2 ^ 16 from Nat.lt_of_le_of_lt hl (by decide))
    by_cases hz : s.length = 0
    · have st2 : stepF (((T.skip 1).skip 2).skip 5) { DS.init with ph := 2, final := 1 } = (0, ((((T.skip 1).skip 2).skip 5).skip 16).sync, { DS.init with ph := 8, final := 1 }) := by
        rw [stepF_2 rfl]; simp only [step2]; rw [if_neg k1, if_pos (by omega)]; unfold shutS; rw [if_neg (by simp only; decide)]
      refine .step (by decide) st2 ?_
      have hs0 : s = [] := List.eq_nil_of_length_eq_zero hz
      have h6 := k3.at_; have h7 := k3.n
      rw [hs0] at h6
      simp only [putBits, List.map_nil, List.sum_nil, List.length_nil] at h6
      refine ends_ok rfl ?_ (by rw [hs0]; rfl)
      simp only [Tp.sync]
      rw [h7, hz, show ((((T.skip 1).skip 2).skip 5).skip 16).at_ = 24 by omega]; decide
    · have st2 : stepF (((T.skip 1).skip 2).skip 5) { DS.init with ph := 2, final := 1 } = (0, (((T.skip 1).skip 2).skip 5).skip 16, { DS.init with ph := 3, final := 1, due := s.length }) := by
        rw [stepF_2 rfl]; simp only [step2]; rw [if_neg k1, if_neg (by omega), k2]
      refine .step (by decide) st2 ?_
      exact bytes_steps (N := 24 + 8 * s.length) hl hb (by omega) (s.length - 1) 0 _ _ (by omega) (by omega) rfl rfl (by simp only; omega) (by simp [DS.init]) (by simpa using k3)
  · have eE : emitK kind s ts = puts Tp.nil (headPuts kind (setA kind ts) (setB kind ts) ++ bodyPuts (setA kind ts) (setB kind ts) ts) := emit_coded h0 s ts _ _
    obtain ⟨la, hla⟩ : ∃ la, la = setA kind ts := ⟨_, rfl⟩
    obtain ⟨lb, hlb⟩ : ∃ lb, lb = setB kind ts := ⟨_, rfl⟩
    rw [← hla, ← hlb] at hS eE
    have hok : PutsOK (headPuts kind la lb ++ bodyPuts la lb ts) := putsOK_append (head_ok hk2 hS.a hS.b) (bodyPuts_ok hS htok)
    have hnum := putNum_lt _ hok
    have hX := puts_eq (headPuts kind la lb ++ bodyPuts la lb ts) Tp.nil
    have hR : Rem (Tp.load (emitK kind s ts).text) (putBits (headPuts kind la lb ++ bodyPuts la lb ts)) (headPuts kind la lb ++ bodyPuts la lb ts) := by
      rw [eE]
      refine rem_load ?_ ?_ ?_
      · rw [hX]; simpa [Tp.nil] using hnum
      · rw [hX]; simp [Tp.nil]
      · rw [hX]; simp [Tp.nil]
    obtain ⟨N, hN⟩ : ∃ N, N = putBits (headPuts kind la lb ++ bodyPuts la lb ts) := ⟨_, rfl⟩
    rw [← hN] at hR
    have hR2 : Rem (Tp.load (emitK kind s ts).text) N ((1, 1) :: (kind, 2) :: ((if kind = 2 then (itP (la ++ lb) 0).flatMap itemPuts else []) ++ bodyPuts la lb ts)) := by
      unfold headPuts at hR; simpa using hR
    obtain ⟨s1, g1, g2, g3⟩ := head_steps hk2 hR2
    refine s1.ends ?_
    by_cases h2 : kind = 2
    · rw [if_pos h2] at g3
      have st1 : stepF ((Tp.load (emitK kind s ts).text).skip 1) { DS.init with ph := 1, final := 1 } = (0, ((Tp.load (emitK kind s ts).text).skip 1).skip 2, { DS.init with ph := 4, final := 1, ls := [] }) := by
        rw [stepF_1 rfl]; simp only [step1]; rw [if_neg g1, g2, if_neg (by omega), if_neg (by omega), if_pos h2]
      refine .step (by decide) st1 ?_
      have hL : 0 < (la ++ lb).length := by have := hS.na; simp; omega
      obtain ⟨T2, s2, q1, q2, q3⟩ := list_steps hS.a hS.b hS.na hS.nb hS.eob _ 0 _ { DS.init with ph := 4, final := 1, ls := [] } rfl hL rfl (by simp) g3
      refine q1.ends ?_
      subst q2
      exact toks_steps hl hb ts 0 _ _ hS hrun ⟨rfl, rfl, rfl, rfl, by simp [DS.init]⟩ q3
    · rw [if_neg h2] at g3
      have h1 : kind = 1 := by omega
      have ea : la = fixA := by rw [hla]; unfold setA; rw [if_neg h2]
      have eb : lb = fixB := by rw [hlb]; unfold setB; rw [if_neg h2]
      have st1 : stepF ((Tp.load (emitK kind s ts).text).skip 1) { DS.init with ph := 1, final := 1 } = (0, ((Tp.load (emitK kind s ts).text).skip 1).skip 2, { DS.init with ph := 5, final := 1, a := fixA, b := fixB }) := by
        rw [stepF_1 rfl]; simp only [step1]; rw [if_neg g1, g2, if_neg (by omega), if_pos h1]
      refine .step (by decide) st1 ?_
      exact toks_steps hl hb ts 0 _ _ hS hrun ⟨rfl, rfl, ea.symm, eb.symm, by simp [DS.init]⟩ (by simpa using g3)
end Go.Proofs.Qxb6500353aGreat
