/- Laws of the encoder: what is put has as many bits as was reckoned; all that is put fits. -/
import Derived.Test.Qxb6500353aGreatBlk
namespace Go.Proofs.Qxb6500353aGreat
set_option linter.unusedVariables false
set_option linter.unusedSimpArgs false

theorem sumTo_upd2 (f : Nat → Nat) (g : Nat → Nat → Nat) {n i : Nat} (hi : i < n) (x : Nat) :
    sumTo (fun j => g j (upd f i x j)) n + g i (f i) = sumTo (fun j => g j (f j)) n + g i x := by
  have h := sumTo_upd (fun j => g j (f j)) hi (g i x)
  have e : sumTo (fun j => g j (upd f i x j)) n = sumTo (upd (fun j => g j (f j)) i (g i x)) n := by
    refine sumTo_congr fun j _ => ?_
    unfold upd; split
    · rename_i e; rw [e]
    · rfl
  rw [e]; exact h
theorem body_bump (f l : Nat → Nat) {s : Nat} (hs : s < 273) : bodyBits (bump f s) l = bodyBits f l + (l s + if 265 ≤ s then moreOf s else 0) := by
  unfold bodyBits bump
  have h := sumTo_upd2 f (fun s c => c * l s + if 265 ≤ s then c * moreOf s else 0) hs (f s + 1)
  simp only [Nat.add_mul, Nat.one_mul] at h
  split at h <;> rename_i h2
  · rw [if_pos h2]; omega
  · rw [if_neg h2]; omega
theorem len_append_left {a b : List Nat} {i : Nat} (h : i < a.length) : len (a ++ b) i = len a i := by
  unfold len; rw [List.getD_eq_getElem?_getD, List.getD_eq_getElem?_getD, List.getElem?_append_left h]
theorem len_append_right {a b : List Nat} {n i : Nat} (h : a.length = n) (hi : n ≤ i) : len (a ++ b) i = len b (i - n) := by
  unfold len; rw [List.getD_eq_getElem?_getD, List.getD_eq_getElem?_getD, List.getElem?_append_right (by omega), h]
theorem body_toks {la lb : List Nat} (hla : la.length = 265) (ts : List Tok) : ∀ f : Nat → Nat, (∀ t ∈ ts, TokOK t) →
    bodyBits (cntF f ts) (len (la ++ lb)) = bodyBits f (len (la ++ lb)) + putBits (ts.flatMap (tokPuts la lb)) := by
  induction ts with
  | nil => intro f _; simp [cntF, putBits]
  | cons t ts ih =>
    intro f h
    have h1 := ih (tally1 f t) fun u hu => h u (by simp [hu])
    have h2 : bodyBits (tally1 f t) (len (la ++ lb)) = bodyBits f (len (la ++ lb)) + putBits (tokPuts la lb t) := by
      unfold tally1 tokPuts
      rcases h t (by simp) with ⟨h3, h4⟩ | ⟨h3, h4, h5, h6⟩
      · rw [if_pos h3, if_pos h3, body_bump _ _ (by omega), if_neg (by omega), len_append_left (by omega)]
        simp [putBits]
      · have h7 := dist_fits h5 h6
        rw [if_neg (by omega), if_neg (by omega), body_bump _ _ (by omega), body_bump _ _ (by omega), if_neg (by omega), if_pos (by omega),
          len_append_left (by omega), len_append_right hla (by omega), Nat.add_sub_cancel_left]
        simp only [putBits, moreOf, List.map_cons, List.map_nil, List.sum_cons, List.sum_nil, Nat.add_sub_cancel_left]
        omega
    unfold cntF at *
    rw [List.foldl_cons, h1, h2, List.flatMap_cons, putBits_append]; omega
theorem body_zero (l : Nat → Nat) : bodyBits (fun _ => 0) l = 0 := sumTo_zero fun i _ => by simp
theorem body_bits {la lb : List Nat} (hla : la.length = 265) {ts : List Tok} (h : ∀ t ∈ ts, TokOK t) :
    bodyBits (countsF ts) (len (la ++ lb)) = putBits (bodyPuts la lb ts) := by
  have h1 := body_toks (lb := lb) hla ts cnt0 h
  have h2 := body_bump (fun _ => 0) (len (la ++ lb)) (s := 256) (by omega)
  rw [body_zero] at h2
  unfold countsF
  rw [h1]
  have e : cnt0 = bump (fun _ => 0) 256 := rfl
  rw [e, h2, if_neg (by omega), len_append_left (by omega)]
  unfold bodyPuts
  rw [putBits_append]
  simp [putBits]; omega
theorem itemBits_puts (its : List Item) : putBits (its.flatMap itemPuts) = itemBits its := by
  induction its with
  | nil => rfl
  | cons it its ih => rw [List.flatMap_cons, putBits_append, ih]; simp [itemPuts, putBits, itemBits]

theorem cntF_mono (ts : List Tok) : ∀ (f : Nat → Nat) (s : Nat), f s ≤ cntF f ts s := by
  induction ts with
  | nil => intro f s; exact Nat.le_refl _
  | cons t ts ih =>
    intro f s
    have h1 := ih (tally1 f t) s
    have hb : ∀ (f : Nat → Nat) (a : Nat), f s ≤ bump f a s := by
      intro f a; unfold bump upd; split
      · rename_i e; subst e; omega
      · exact Nat.le_refl _
    have h2 : f s ≤ tally1 f t s := by
      unfold tally1; split
      · exact hb _ _
      · exact Nat.le_trans (hb f (254 + t.len)) (hb _ _)
    exact Nat.le_trans h2 h1
theorem cntF_tok (ts : List Tok) : ∀ (f : Nat → Nat) (t : Tok), t ∈ ts → if t.len = 0 then 0 < cntF f ts t.lit else 0 < cntF f ts (254 + t.len) ∧ 0 < cntF f ts (265 + distCode t.dist) := by
  induction ts with
  | nil => intro f t h; simp at h
  | cons u ts ih =>
    intro f t h
    have hs : ∀ (f : Nat → Nat) (a : Nat), 0 < bump f a a := by intro f a; unfold bump; rw [upd_self]; omega
    have hb : ∀ (f : Nat → Nat) (a s : Nat), f s ≤ bump f a s := by
      intro f a s; unfold bump upd; split
      · rename_i e; subst e; omega
      · exact Nat.le_refl _
    rcases List.mem_cons.1 h with e | h2
    · subst e
      have hm := cntF_mono ts (tally1 f t)
      have e2 : cntF f (t :: ts) = cntF (tally1 f t) ts := rfl
      rw [e2]
      split
      · rename_i h3
        refine Nat.lt_of_lt_of_le ?_ (hm _)
        unfold tally1; rw [if_pos h3]; exact hs _ _
      · rename_i h3
        refine ⟨Nat.lt_of_lt_of_le ?_ (hm _), Nat.lt_of_lt_of_le ?_ (hm _)⟩
        · unfold tally1; rw [if_neg h3]; exact Nat.lt_of_lt_of_le (hs f _) (hb _ _ _)
        · unfold tally1; rw [if_neg h3]; exact hs _ _
    · exact ih (tally1 f u) t h2
theorem cnt_eob (ts : List Tok) : 0 < countsF ts 256 := Nat.lt_of_lt_of_le (by decide) (cntF_mono ts cnt0 256)
theorem cntA_len {ts : List Tok} {s : Nat} (h : s < 265) : len (cntA ts) s = countsF ts s := by
  unfold cntA len; rw [List.getD_eq_getElem?_getD, List.getElem?_map, List.getElem?_range h]; rfl
theorem cntB_len {ts : List Tok} {s : Nat} (h : s < 8) : len (cntB ts) s = countsF ts (265 + s) := by
  unfold cntB len; rw [List.getD_eq_getElem?_getD, List.getElem?_map, List.getElem?_range h]; rfl
theorem cntA_length (ts : List Tok) : (cntA ts).length = 265 := by simp [cntA]
theorem cntB_length (ts : List Tok) : (cntB ts).length = 8 := by simp [cntB]
theorem lensA_length (ts : List Tok) : (lensA ts).length = 265 := by rw [lensA, planL_length, cntA_length]
theorem lensB_length (ts : List Tok) : (lensB ts).length = 8 := by rw [lensB, planL_length, cntB_length]
theorem lensA_ok (ts : List Tok) : Lawful (lensA ts) ∧ ∀ s, s < 265 → (0 < len (lensA ts) s ↔ 0 < countsF ts s) := by
  obtain ⟨h1, h2⟩ := plan_lawful (l := cntA ts) (by rw [cntA_length]; omega)
  exact ⟨h1, fun s hs => by rw [lensA, h2 s (by rw [cntA_length]; exact hs), cntA_len hs]⟩
theorem lensB_ok (ts : List Tok) : Lawful (lensB ts) ∧ ∀ s, s < 8 → (0 < len (lensB ts) s ↔ 0 < countsF ts (265 + s)) := by
  obtain ⟨h1, h2⟩ := plan_lawful (l := cntB ts) (by rw [cntB_length]; omega)
  exact ⟨h1, fun s hs => by rw [lensB, h2 s (by rw [cntB_length]; exact hs), cntB_len hs]⟩
theorem fixA_length : fixA.length = 265 := by simp [fixA]
theorem fixB_length : fixB.length = 8 := by simp [fixB]
theorem fixA_len {s : Nat} (h : s < 265) : len fixA s = fixedLen s := by
  unfold fixA len; rw [List.getD_eq_getElem?_getD, List.getElem?_map, List.getElem?_range h]; rfl
theorem fixB_len {s : Nat} (h : s < 8) : len fixB s = 3 := by
  have : ∀ s, s < 8 → len fixB s = 3 := by decide
  exact this s h
set_option maxRecDepth 20000 in
theorem fixA_ok : Lawful fixA := by
  refine ⟨⟨?_, by decide +kernel⟩, .inl (by decide +kernel), by rw [fixA_length]; omega⟩
  intro x hx
  obtain ⟨i, _, rfl⟩ := List.mem_map.1 hx
  unfold fixedLen; split <;> omega
theorem fixB_ok : Lawful fixB := ⟨⟨by decide, by decide⟩, .inl (by decide), by decide⟩

/-- The sets of a kind. -/
structure Sets (la lb : List Nat) (ts : List Tok) : Prop where
  a : Lawful la
  b : Lawful lb
  na : la.length = 265
  nb : lb.length = 8
  eob : 0 < len la 256
  lit : ∀ t ∈ ts, t.len = 0 → 0 < len la t.lit
  copy : ∀ t ∈ ts, t.len ≠ 0 → 0 < len la (254 + t.len) ∧ 0 < len lb (distCode t.dist)
theorem sets_fix {ts : List Tok} (h : ∀ t ∈ ts, TokOK t) : Sets fixA fixB ts := by
  have hp : ∀ s, s < 265 → 0 < len fixA s := by intro s hs; rw [fixA_len hs]; unfold fixedLen; split <;> omega
  refine ⟨fixA_ok, fixB_ok, fixA_length, fixB_length, hp _ (by omega), fun t ht h0 => ?_, fun t ht h0 => ?_⟩
  · rcases h t ht with ⟨_, h2⟩ | ⟨h2, _⟩
    · exact hp _ (by omega)
    · omega
  · rcases h t ht with ⟨h2, _⟩ | ⟨h2, h3, h4, h5⟩
    · omega
    · exact ⟨hp _ (by omega), by rw [fixB_len (dist_fits h4 h5).1]; omega⟩
theorem sets_dyn {ts : List Tok} (h : ∀ t ∈ ts, TokOK t) : Sets (lensA ts) (lensB ts) ts := by
  obtain ⟨a1, a2⟩ := lensA_ok ts
  obtain ⟨b1, b2⟩ := lensB_ok ts
  refine ⟨a1, b1, lensA_length ts, lensB_length ts, (a2 _ (by omega)).2 (cnt_eob ts), fun t ht h0 => ?_, fun t ht h0 => ?_⟩
  · have h1 := cntF_tok ts cnt0 t ht
    rw [if_pos h0] at h1
    rcases h t ht with ⟨_, h2⟩ | ⟨h2, _⟩
    · exact (a2 _ (by omega)).2 h1
    · omega
  · have h1 := cntF_tok ts cnt0 t ht
    rw [if_neg h0] at h1
    rcases h t ht with ⟨h2, _⟩ | ⟨h2, h3, h4, h5⟩
    · omega
    · exact ⟨(a2 _ (by omega)).2 h1.1, (b2 _ (dist_fits h4 h5).1).2 h1.2⟩
theorem tokRun_ok (s : List Nat) (hb : ∀ b ∈ s, b < 256) (ts : List Tok) : ∀ i, TokRun s i ts → ∀ t ∈ ts, TokOK t := by
  have hby : ∀ i, by_ s i < 256 := by
    intro i; unfold by_
    by_cases hi : i < s.length
    · rw [List.getD_eq_getElem?_getD, List.getElem?_eq_getElem hi]; exact hb _ (List.getElem_mem _)
    · rw [List.getD_eq_getElem?_getD, List.getElem?_eq_none (by omega)]; decide
  induction ts with
  | nil => intro i _ t h; simp at h
  | cons u ts ih =>
    intro i h t ht
    rcases List.mem_cons.1 ht with e | h2
    · subst e
      rcases h with ⟨h1, _, h3, _, _⟩ | ⟨h1, h2, h3, h4, _⟩
      · exact .inl ⟨h1, by rw [h3]; exact hby i⟩
      · exact .inr ⟨h1, h2, h3, h4⟩
    · rcases h with ⟨_, _, _, _, h⟩ | ⟨_, _, _, _, _, _, _, _, h⟩
      · exact ih _ h t h2
      · exact ih _ h t h2
theorem parse_ok (s : List Nat) (hb : ∀ b ∈ s, b < 256) (lv : Nat) : ∀ t ∈ parseP s lv 0, TokOK t :=
  tokRun_ok s hb _ 0 (parse_run s lv _ 0 rfl (Nat.zero_le _))

theorem code_fit {l : List Nat} (h : Lawful l) (s : Nat) : code l s < 2 ^ len l s ∧ len l s ≤ 16 := ⟨code_lt l s, Nat.le_trans (h.toFit.len_le s) (by omega)⟩
theorem bodyPuts_ok {la lb : List Nat} {ts : List Tok} (h : Sets la lb ts) (ht : ∀ t ∈ ts, TokOK t) : PutsOK (bodyPuts la lb ts) := by
  intro p hp
  unfold bodyPuts at hp
  rcases List.mem_append.1 hp with hp | hp
  · obtain ⟨t, ht2, hp⟩ := List.mem_flatMap.1 hp
    unfold tokPuts at hp
    rcases ht t ht2 with ⟨h1, h2⟩ | ⟨h1, h2, h3, h4⟩
    · rw [if_pos h1] at hp
      simp at hp; subst hp; exact code_fit h.a _
    · rw [if_neg (by omega)] at hp
      have hd := dist_fits h3 h4
      simp at hp
      rcases hp with rfl | rfl | rfl
      · exact code_fit h.a _
      · exact code_fit h.b _
      · exact ⟨hd.2.2.1, by simp only; omega⟩
  · simp at hp; subst hp; exact code_fit h.a _
theorem item_ok {l : List Nat} (hl : ∀ i, len l i ≤ 10) (i : Nat) : (itemAt l i).1.x < 13 ∧ (itemAt l i).1.v < 2 ^ (itemAt l i).1.more ∧ (itemAt l i).1.more ≤ 7 := by
  have := hl i
  unfold itemAt
  split
  · simp only; have : (2 : Nat) ^ 7 = 128 := rfl
    omega
  · split
    · simp only; have : (2 : Nat) ^ 2 = 4 := rfl
      omega
    · simp only [Nat.pow_zero]; omega
theorem itPuts_ok {l : List Nat} (hl : ∀ i, len l i ≤ 10) (k : Nat) : ∀ i, l.length - i = k → PutsOK ((itP l i).flatMap itemPuts) := by
  induction k using Nat.strongRecOn with
  | _ k ih =>
    intro i hk
    by_cases hi : i < l.length
    · rw [itP_step l i hi, List.flatMap_cons]
      have h1 := item_ok hl i
      have h2 := itemAt_adv l i hi
      intro p hp
      rcases List.mem_append.1 hp with hp | hp
      · simp [itemPuts] at hp
        rcases hp with rfl | rfl
        · exact ⟨Nat.lt_of_lt_of_le h1.1 (show 13 ≤ 2 ^ 4 by decide), by simp⟩
        · exact ⟨h1.2.1, by simp only; omega⟩
      · exact ih (l.length - (i + (itemAt l i).2)) (by omega) _ rfl p hp
    · rw [itP_end l i (by omega)]; intro p hp; simp at hp
theorem lens_le {la lb : List Nat} (ha : Lawful la) (hb : Lawful lb) (i : Nat) : len (la ++ lb) i ≤ 10 := by
  by_cases h : i < la.length
  · rw [len_append_left h]; exact ha.toFit.len_le _
  · rw [len_append_right rfl (by omega)]; exact hb.toFit.len_le _

def headPuts (kind : Nat) (la lb : List Nat) : List (Nat × Nat) := [(1, 1), (kind, 2)] ++ (if kind = 2 then (itP (la ++ lb) 0).flatMap itemPuts else [])
theorem emit_coded {kind : Nat} (h : kind ≠ 0) (s : List Nat) (ts : List Tok) (la lb : List Nat) : emitF kind s ts la lb = puts Tp.nil (headPuts kind la lb ++ bodyPuts la lb ts) := by
  unfold emitF headPuts; rw [if_neg h]
theorem head_ok {kind : Nat} {la lb : List Nat} (hk : kind ≤ 2) (ha : Lawful la) (hb : Lawful lb) : PutsOK (headPuts kind la lb) := by
  intro p hp
  unfold headPuts at hp
  rcases List.mem_append.1 hp with hp | hp
  · simp at hp
    rcases hp with rfl | rfl
    · exact ⟨by decide, by decide⟩
    · exact ⟨Nat.lt_of_le_of_lt hk (show 2 < 2 ^ 2 by decide), by simp⟩
  · split at hp
    · exact itPuts_ok (lens_le ha hb) _ 0 rfl p hp
    · simp at hp
theorem putsOK_append {a b : List (Nat × Nat)} (ha : PutsOK a) (hb : PutsOK b) : PutsOK (a ++ b) := fun p hp => (List.mem_append.1 hp).elim (ha p) (hb p)
theorem kindF_le (n : Nat) (ts : List Tok) : kindF n ts ≤ 2 := by unfold kindF chooseF; split; omega; split <;> omega
/-- The bits of the chosen text. -/
def bitsK (kind n : Nat) (ts : List Tok) : Nat := if kind = 0 then bitsSto n else if kind = 2 then bitsDyn ts else bitsFix ts
theorem kind_best (n : Nat) (ts : List Tok) : bitsK (kindF n ts) n ts ≤ bitsSto n ∧ bitsK (kindF n ts) n ts ≤ bitsFix ts := by
  unfold kindF chooseF bitsK
  split
  · simp; omega
  · split
    · simp; omega
    · simp; omega
def setA (kind : Nat) (ts : List Tok) : List Nat := if kind = 2 then lensA ts else fixA
def setB (kind : Nat) (ts : List Tok) : List Nat := if kind = 2 then lensB ts else fixB
theorem sets_kind {kind : Nat} {ts : List Tok} (h : ∀ t ∈ ts, TokOK t) : Sets (setA kind ts) (setB kind ts) ts := by
  unfold setA setB; split
  · exact sets_dyn h
  · exact sets_fix h
theorem coded_bits {kind n : Nat} {ts : List Tok} (h0 : kind ≠ 0) (hk : kind ≤ 2) (h : ∀ t ∈ ts, TokOK t) :
    putBits (headPuts kind (setA kind ts) (setB kind ts) ++ bodyPuts (setA kind ts) (setB kind ts) ts) = bitsK kind n ts := by
  rw [putBits_append]
  have hs := sets_kind (kind := kind) h
  rw [← body_bits hs.na h]
  unfold headPuts bitsK setA setB bitsDyn bitsFix dynL fixL
  by_cases e : kind = 2
  · subst e
    simp only [if_true, putBits_append, itemBits_puts]
    simp [putBits]
  · simp only [e, if_false, h0, putBits_append]
    simp [putBits]
theorem stoPuts_bits (s : List Nat) : putBits (stoPuts s) = 16 + 8 * s.length := by
  have : ∀ s : List Nat, putBits (s.map fun b => (b, 8)) = 8 * s.length := by
    intro s; induction s with
    | nil => rfl
    | cons b s ih => simp only [putBits, List.map_cons, List.sum_cons, List.length_cons] at *; rw [ih]; omega
  unfold stoPuts
  have h := this s
  simp only [putBits, List.map_cons, List.sum_cons] at *; omega
theorem stoPuts_ok {s : List Nat} (hb : ∀ b ∈ s, b < 256) (hl : s.length ≤ 256) : PutsOK (stoPuts s) := by
  intro p hp
  simp only [stoPuts, List.mem_cons, List.mem_map] at hp
  rcases hp with rfl | ⟨b, h, rfl⟩
  · exact ⟨Nat.lt_of_le_of_lt hl (show 256 < 2 ^ 16 by decide), by simp⟩
  · exact ⟨hb b h, by simp⟩
theorem emit_n {kind : Nat} {s : List Nat} {ts : List Tok} (hk : kind ≤ 2) (h : ∀ t ∈ ts, TokOK t) : (emitK kind s ts).n = bitsK kind s.length ts := by
  have e : emitK kind s ts = emitF kind s ts (setA kind ts) (setB kind ts) := rfl
  rw [e]
  by_cases h0 : kind = 0
  · subst h0
    unfold emitF
    rw [if_pos rfl, puts_eq]
    simp only [stoPuts_bits, bitsK, if_true, bitsSto, Tp.pad, up8, puts, Tp.put, Tp.nil, List.foldl_cons, List.foldl_nil]
    omega
  · rw [emit_coded h0, puts_eq, coded_bits (n := s.length) h0 hk h]; simp [Tp.nil]
theorem emit_ok {kind : Nat} {s : List Nat} {ts : List Tok} (hk : kind ≤ 2) (h : ∀ t ∈ ts, TokOK t) (hb : ∀ b ∈ s, b < 256) (hl : s.length ≤ 256) (hn : bitsK kind s.length ts ≤ 4096) : (emitK kind s ts).OK := by
  have e : emitK kind s ts = emitF kind s ts (setA kind ts) (setB kind ts) := rfl
  have hs := sets_kind (kind := kind) h
  rw [e]
  by_cases h0 : kind = 0
  · subst h0
    unfold emitF
    rw [if_pos rfl]
    have h1 : (puts Tp.nil [(1, 1), (0, 2)]).OK := puts_ok Tp.nil_ok (by intro p hp; simp at hp; rcases hp with rfl | rfl <;> decide) (by decide)
    refine puts_ok h1.pad (stoPuts_ok hb hl) ?_
    rw [stoPuts_bits]
    have : (puts Tp.nil [(1, 1), (0, 2)]).pad.n = 8 := rfl
    rw [this]; omega
  · rw [emit_coded h0]
    refine puts_ok Tp.nil_ok (putsOK_append (head_ok hk hs.a hs.b) (bodyPuts_ok hs h)) ?_
    rw [coded_bits (n := s.length) h0 hk h]
    have : Tp.nil.n = 0 := rfl
    omega
theorem pack_ok {s : List Nat} (hb : ∀ b ∈ s, b < 256) (hl : s.length ≤ 256) (lv : Nat) : (emitK (kindF s.length (parseP s lv 0)) s (parseP s lv 0)).OK := by
  have h1 := kind_best s.length (parseP s lv 0)
  refine emit_ok (kindF_le _ _) (parse_ok s hb lv) hb hl ?_
  unfold bitsSto at h1; omega
theorem text_length (t : Tp) : t.text.length = (t.n + 7) / 8 := by simp [Tp.text]
theorem pack_length {s : List Nat} (hb : ∀ b ∈ s, b < 256) (lv : Nat) : (packF s lv).length = (bitsK (kindF s.length (parseP s lv 0)) s.length (parseP s lv 0) + 7) / 8 := by
  unfold packF; rw [text_length, emit_n (kindF_le _ _) (parse_ok s hb lv)]
theorem pack_short {s : List Nat} (hb : ∀ b ∈ s, b < 256) (lv : Nat) : (packF s lv).length ≤ s.length + 3 := by
  rw [pack_length hb]
  have h1 := kind_best s.length (parseP s lv 0)
  unfold bitsSto at h1; omega
end Go.Proofs.Qxb6500353aGreat
