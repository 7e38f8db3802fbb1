/- PLAIN LAW: the two parsers answer alike. -/
import Derived.Test.Qxb6500354aGreatMod2
namespace Go.Proofs.Qxb6500354aGreat
set_option linter.unusedVariables false
set_option linter.unusedSimpArgs false

theorem classF_space (c : Nat) : classF c = 1 ↔ spaceB c = true := by
  unfold classF spaceB
  simp only [Bool.or_eq_true, beq_iff_eq]
  constructor
  · intro h
    by_cases q : c = 32 ∨ c = 9 ∨ c = 13 ∨ c = 10
    · rcases q with q | q | q | q <;> simp [q]
    · rw [if_neg q] at h
      repeat (first | omega | split at h)
  · intro h
    have : c = 32 ∨ c = 9 ∨ c = 13 ∨ c = 10 := by rcases h with ((q | q) | q) | q <;> simp [q]
    rw [if_pos this]
theorem classF_dig (c : Nat) : classF c = 2 ↔ digitB c = true := by
  rw [digitB_iff]
  constructor
  · exact classF_digit
  · intro h
    unfold classF
    rw [if_neg (by omega), if_neg (by omega), if_neg (by omega), if_neg (by omega), if_pos h]
theorem classF_c {c : Nat} (h : c = 99) : classF c = 4 := by subst h; rfl
theorem classF_d {c : Nat} (h : c = 100) : classF c = 5 := by subst h; rfl
theorem classF_m {c : Nat} (h : c = 45) : classF c = 3 := by subst h; rfl
theorem classF_o {c : Nat} (h1 : spaceB c = false) (h2 : c ≠ 99) (h3 : c ≠ 100) (h4 : c ≠ 45) (h5 : digitB c = false) : classF c = 0 := by
  have n1 : ¬ (c = 32 ∨ c = 9 ∨ c = 13 ∨ c = 10) := by
    intro q
    have := (classF_space c).1 (by unfold classF; rw [if_pos q])
    rw [h1] at this; simp at this
  have n2 : ¬ (48 ≤ c ∧ c ≤ 57) := fun q => by rw [(digitB_iff c).2 q] at h5; simp at h5
  unfold classF
  rw [if_neg n1, if_neg h4, if_neg h2, if_neg h3, if_neg n2]
theorem dig_nospace {c : Nat} (h : digitB c = true) : spaceB c = false := by
  rw [digitB_iff] at h
  cases e : spaceB c with
  | false => rfl
  | true => have := (classF_space c).2 e; have := (classF_dig c).2 ((digitB_iff c).2 h); omega
theorem feedAll_ok {c : Nat} {r : List Nat} {i : Nat} {p : ParS} (h : p.err = 0) : feedAll (c :: r) i p = feedAll r (i + 1) (p.feed c i) := by rw [feedAll_cons, if_pos h]
def fin3 (q : ParS) (len : Nat) : ParsedS :=
  let p3 := if q.err = 0 ∧ q.opn = true then q.fail 5 len else q
  ⟨p3.err, p3.at_, if p3.err = 0 then p3.arena else []⟩
theorem fin3_err {q : ParS} {len : Nat} (h : q.err ≠ 0) : fin3 q len = ⟨q.err, q.at_, []⟩ := by
  unfold fin3; simp only []; rw [if_neg (fun z => h z.1), if_neg h]

theorem fin3_congr {p q : ParS} {len : Nat} (h1 : p.err = q.err) (h2 : p.opn = q.opn) (h3 : p.at_ = q.at_) (h4 : p.arena = q.arena) : fin3 p len = fin3 q len := by
  unfold fin3 ParS.fail
  simp only [h1, h2]
  by_cases e : q.err = 0 ∧ q.opn = true
  · rw [if_pos e, if_pos e]; simp
  · rw [if_neg e, if_neg e, h1, h3, h4]
/-- The machine between tokens, and the model's variables. -/
structure Rel (p : ParS) (flat row : List Int) (del opn : Bool) : Prop where
  st : p.state = 0
  er : p.err = 0
  at_ : p.at_ = 0
  ar : p.arena = flat
  dl : p.del = del
  op : p.opn = opn
  po : ∀ v : Nat, p.pos.testBit v = (decide (1 ≤ v ∧ v ≤ 12) && row.contains (v : Int))
  ne : ∀ v : Nat, p.neg.testBit v = (decide (1 ≤ v ∧ v ≤ 12) && row.contains (-(v : Int)))
theorem fin3_rel {p : ParS} {flat row : List Int} {del opn : Bool} (h : Rel p flat row del opn) (len : Nat) : fin3 p len = if opn = true then ⟨5, len, []⟩ else ⟨0, 0, flat⟩ := by
  unfold fin3
  simp only [h.er, h.op, true_and]
  cases opn with
  | true => simp [ParS.fail]
  | false => simp [h.er, h.at_, h.ar]
theorem Rel.start {p : ParS} {flat row : List Int} {del opn : Bool} (h : Rel p flat row del opn) (i : Nat) : Rel { p with start := i } flat row del opn := ⟨h.st, h.er, h.at_, h.ar, h.dl, h.op, h.po, h.ne⟩
theorem feed_space {p : ParS} (h0 : p.state = 0) {c : Nat} (hc : spaceB c = true) (i : Nat) : p.feed c i = { p with start := i } := by
  unfold ParS.feed
  rw [if_pos h0, (classF_space c).2 hc]
  unfold ParS.begin
  simp

/-- endRow against norm. -/
theorem and_zero {m n : Nat} : m &&& n = 0 ↔ ∀ v, (m.testBit v && n.testBit v) = false := by
  constructor
  · intro h v; rw [← Nat.testBit_and, h]; simp
  · intro h; apply Nat.eq_of_testBit_eq; intro v; rw [Nat.testBit_and, h v]; simp
open Classical in
theorem norm_sweep {p : ParS} {row : List Int} (hp : ∀ v : Nat, p.pos.testBit v = (decide (1 ≤ v ∧ v ≤ 12) && row.contains (v : Int))) (hn : ∀ v : Nat, p.neg.testBit v = (decide (1 ≤ v ∧ v ≤ 12) && row.contains (-(v : Int)))) :
    ∀ n v, 1 ≤ v → v + n = 13 → normM row n v = if (∃ u, v ≤ u ∧ u < 13 ∧ p.pos.testBit u = true ∧ p.neg.testBit u = true) then none else some (sweepF p.pos p.neg n v) := by
  intro n
  induction n with
  | zero =>
    intro v h1 h2
    rw [if_neg (fun ⟨u, a, b, _⟩ => by omega)]; rfl
  | succ n ih =>
    intro v h1 h2
    have hpv : p.pos.testBit v = row.contains (v : Int) := by rw [hp v]; simp; omega
    have hnv : p.neg.testBit v = row.contains (-(v : Int)) := by rw [hn v]; simp; omega
    rw [normM_succ, ih (v + 1) (by omega) (by omega)]
    by_cases hb : row.contains (v : Int) = true ∧ row.contains (-(v : Int)) = true
    · rw [if_pos hb, if_pos ⟨v, Nat.le_refl _, by omega, by rw [hpv]; exact hb.1, by rw [hnv]; exact hb.2⟩]
    · rw [if_neg hb]
      by_cases hx : ∃ u, v + 1 ≤ u ∧ u < 13 ∧ p.pos.testBit u = true ∧ p.neg.testBit u = true
      · rw [if_pos hx]
        obtain ⟨u, a, b, c, d⟩ := hx
        have hy : ∃ u, v ≤ u ∧ u < 13 ∧ p.pos.testBit u = true ∧ p.neg.testBit u = true := ⟨u, by omega, b, c, d⟩
        rw [if_pos hy]; rfl
      · have hy : ¬ ∃ u, v ≤ u ∧ u < 13 ∧ p.pos.testBit u = true ∧ p.neg.testBit u = true := by
          rintro ⟨u, a, b, c, d⟩
          by_cases e : u = v
          · subst e; exact hb ⟨by rw [← hpv]; exact c, by rw [← hnv]; exact d⟩
          · exact hx ⟨u, by omega, b, c, d⟩
        rw [if_neg hx, if_neg hy, Option.map_some, sweepF_succ, hpv, hnv]
open Classical in
theorem endRow_rel {p : ParS} {flat row : List Int} {del opn : Bool} (h : Rel p flat row del opn) : Rel p.endRow (flat ++ rowM del row) [] false false := by
  have hn := norm_sweep h.po h.ne 12 1 (Nat.le_refl _) rfl
  refine ⟨h.st, h.er, h.at_, ?_, rfl, rfl, fun v => by simp [ParS.endRow], fun v => by simp [ParS.endRow]⟩
  have hz : p.pos &&& p.neg = 0 ↔ ¬ ∃ u, 1 ≤ u ∧ u < 13 ∧ p.pos.testBit u = true ∧ p.neg.testBit u = true := by
    rw [and_zero]
    constructor
    · rintro h ⟨u, _, _, c, d⟩; have := h u; rw [c, d] at this; simp at this
    · intro hx v
      cases e1 : p.pos.testBit v with
      | false => rfl
      | true =>
        cases e2 : p.neg.testBit v with
        | false => rfl
        | true =>
          exfalso
          have := h.po v
          rw [e1] at this
          have h3 : decide (1 ≤ v ∧ v ≤ 12) = true := ((Bool.and_eq_true _ _).mp this.symm).1
          have h4 : 1 ≤ v ∧ v ≤ 12 := by simpa using h3
          exact hx ⟨v, h4.1, by omega, e1, e2⟩
  unfold ParS.endRow rowM
  simp only [h.ar, h.dl]
  rw [hn]
  by_cases hx : ∃ u, 1 ≤ u ∧ u < 13 ∧ p.pos.testBit u = true ∧ p.neg.testBit u = true
  · rw [if_pos hx, if_neg (fun z => hz.1 z hx)]; simp
  · rw [if_neg hx, if_pos (hz.2 hx)]; simp [List.append_assoc]
theorem lit_rel {p : ParS} {flat row : List Int} {del opn : Bool} (h : Rel p flat row del opn) {V : Nat} (h1 : V ≠ 0) (h2 : ¬ 12 < V) (neg : Bool) :
    Rel (if neg = true then { p with opn := true, neg := setB p.neg V } else { p with opn := true, pos := setB p.pos V }) flat (row ++ [if neg = true then -(V : Int) else (V : Int)]) del true := by
  have hcon : ∀ (x y : Int), (row ++ [x]).contains y = (row.contains y || decide (y = x)) := by
    intro x y
    rw [Bool.eq_iff_iff, List.contains_iff_mem, List.mem_append, List.mem_singleton, Bool.or_eq_true, List.contains_iff_mem, decide_eq_true_eq]
  cases neg with
  | true =>
    simp only [if_true]
    refine ⟨h.st, h.er, h.at_, h.ar, h.dl, rfl, fun v => ?_, fun v => ?_⟩
    · rw [hcon, h.po v]
      have : decide ((v : Int) = -(V : Int)) = false := by simp; omega
      rw [this]; simp
    · rw [hcon, testBit_set, h.ne v]
      by_cases e : V = v
      · subst e; simp; omega
      · have : decide (-(v : Int) = -(V : Int)) = false := by simp; omega
        rw [this]; simp [e]
  | false =>
    simp only [Bool.false_eq_true, if_false]
    refine ⟨h.st, h.er, h.at_, h.ar, h.dl, rfl, fun v => ?_, fun v => ?_⟩
    · rw [hcon, testBit_set, h.po v]
      by_cases e : V = v
      · subst e; simp; omega
      · have : decide ((v : Int) = (V : Int)) = false := by simp; omega
        rw [this]; simp [e]
    · rw [hcon, h.ne v]
      have : decide (-(v : Int) = (V : Int)) = false := by simp; omega
      rw [this]; simp

/-- In a comment. -/
theorem feed_comment : ∀ (l : List Nat) (i : Nat) (p : ParS), p.state = 1 → p.err = 0 →
    ((l.takeWhile (fun c => c != 10)).length = l.length ∧ feedAll (l ++ [32]) i p = p) ∨
    (∃ r, l.drop (l.takeWhile (fun c => c != 10)).length = 10 :: r ∧ feedAll (l ++ [32]) i p = feedAll (r ++ [32]) (i + (l.takeWhile (fun c => c != 10)).length + 1) { p with state := 0 }) := by
  intro l
  induction l with
  | nil =>
    intro i p h1 h2
    left
    refine ⟨rfl, ?_⟩
    rw [List.nil_append, feedAll_ok h2]
    unfold ParS.feed
    rw [if_neg (by omega), if_pos h1, if_neg (by decide)]; rfl
  | cons c r ih =>
    intro i p h1 h2
    rw [List.cons_append, feedAll_ok h2]
    by_cases hc : c = 10
    · right
      have hf : p.feed c i = { p with state := 0 } := by unfold ParS.feed; rw [if_neg (by omega), if_pos h1, if_pos hc]
      have ht : (c :: r).takeWhile (fun c => c != 10) = [] := by rw [List.takeWhile_cons, if_neg (by simp [hc])]
      refine ⟨r, by rw [ht]; simp [hc], ?_⟩
      rw [hf, ht]; rfl
    · have hf : p.feed c i = p := by unfold ParS.feed; rw [if_neg (by omega), if_pos h1, if_neg hc]
      have ht : (c :: r).takeWhile (fun c => c != 10) = c :: r.takeWhile (fun c => c != 10) := by rw [List.takeWhile_cons, if_pos (by simp [hc])]
      rw [hf, ht]
      rcases ih (i + 1) p h1 h2 with ⟨a, b⟩ | ⟨r2, a, b⟩
      · left; exact ⟨by simp [a], b⟩
      · right
        refine ⟨r2, by simpa using a, ?_⟩
        rw [b, List.length_cons]
        congr 1; omega

/-- In the digits of a number: up to the space. -/
theorem feed_digits : ∀ (t : List Nat) (j : Nat) (p : ParS) (sp : Nat) (z : List Nat), p.state = 3 → p.err = 0 → (∀ c ∈ t, spaceB c = false) → spaceB sp = true →
    ((∀ c ∈ t, digitB c = true) ∧ feedAll (t ++ sp :: z) j p = feedAll z (j + t.length + 1) ({ p with val := t.foldl satStep p.val, state := 0 } : ParS).number) ∨
    (∃ k, k < t.length ∧ (∀ m, m < k → digitB (t.getD m 0) = true) ∧ digitB (t.getD k 0) = false ∧ (feedAll (t ++ sp :: z) j p).err = 2 ∧ (feedAll (t ++ sp :: z) j p).at_ = j + k) := by
  intro t
  induction t with
  | nil =>
    intro j p sp z h1 h2 _ hs
    left
    refine ⟨by simp, ?_⟩
    rw [List.nil_append, feedAll_ok h2]
    unfold ParS.feed
    rw [if_neg (by omega), if_neg (by omega), if_neg (by omega), if_pos h1]
    have h4 := (classF_space sp).2 hs
    rw [if_neg (by omega), if_pos h4]; rfl
  | cons c t ih =>
    intro j p sp z h1 h2 ht hs
    have hcs := ht c List.mem_cons_self
    have hc1 : classF c ≠ 1 := fun e => by have := (classF_space c).1 e; rw [hcs] at this; simp at this
    rw [List.cons_append, feedAll_ok h2]
    cases hd : digitB c with
    | true =>
      have hc2 := (classF_dig c).2 hd
      have hf : p.feed c j = { p with val := satStep p.val c } := by
        unfold ParS.feed
        rw [if_neg (by omega), if_neg (by omega), if_neg (by omega), if_pos h1, if_pos hc2]; rfl
      rw [hf]
      rcases ih (j + 1) { p with val := satStep p.val c } sp z h1 h2 (fun d hd => ht d (List.mem_cons_of_mem _ hd)) hs with ⟨a, b⟩ | ⟨k, a, b, d, e, f⟩
      · left
        refine ⟨fun x hx => ?_, ?_⟩
        · rcases List.mem_cons.1 hx with q | q
          · subst q; exact hd
          · exact a x q
        · rw [b]
          simp only [List.foldl_cons, List.length_cons]
          congr 1; omega
      · right
        refine ⟨k + 1, by simpa using a, fun m hm => ?_, by simpa using d, e, by rw [f]; omega⟩
        cases m with
        | zero => simpa using hd
        | succ m => simpa using b m (by omega)
    | false =>
      have hc2 : classF c ≠ 2 := fun e => by have := (classF_dig c).1 e; rw [hd] at this; simp at this
      have hf : p.feed c j = p.fail 2 j := by
        unfold ParS.feed
        rw [if_neg (by omega), if_neg (by omega), if_neg (by omega), if_pos h1, if_neg hc2, if_neg hc1]
      right
      refine ⟨0, by simp, by intro m hm; omega, by simpa using hd, ?_, ?_⟩
      · rw [hf, feedAll_err _ _ _ (by simp [ParS.fail])]; rfl
      · rw [hf, feedAll_err _ _ _ (by simp [ParS.fail])]; simp [ParS.fail]
theorem take_takeWhile (l : List Nat) (p : Nat → Bool) : l.take (l.takeWhile p).length = l.takeWhile p := by
  induction l with
  | nil => rfl
  | cons c r ih => rw [List.takeWhile_cons]; split <;> simp [ih]
theorem drop_takeWhile (l : List Nat) (p : Nat → Bool) : l.drop (l.takeWhile p).length = [] ∨ ∃ c r, l.drop (l.takeWhile p).length = c :: r ∧ p c = false := by
  induction l with
  | nil => left; rfl
  | cons c r ih =>
    rw [List.takeWhile_cons]
    by_cases h : p c = true
    · rw [if_pos h]; simpa using ih
    · rw [if_neg h]; right; exact ⟨c, r, rfl, by simpa using h⟩
theorem all_takeWhile (l : List Nat) (p : Nat → Bool) : ∀ c ∈ l.takeWhile p, p c = true := by
  induction l with
  | nil => simp
  | cons c r ih =>
    rw [List.takeWhile_cons]
    by_cases h : p c = true
    · rw [if_pos h]; intro x hx; rcases List.mem_cons.1 hx with e | e
      · subst e; exact h
      · exact ih x e
    · rw [if_neg h]; simp
theorem numTail_all {neg : Bool} {ds : List Nat} {i a : Nat} (hd : ∀ c ∈ ds, digitB c = true) (hl : ds ≠ []) : numTail neg ds i a = if ds.foldl satStep 0 = 0 ∧ neg = true then (0, false, 3, a) else if 12 < ds.foldl satStep 0 then (0, false, 4, a) else (ds.foldl satStep 0, neg, 0, 0) := by
  rw [numTail_good (fun j hj => hd _ (by rw [List.getD_eq_getElem?_getD, List.getElem?_eq_getElem hj]; exact List.getElem_mem _)), if_neg (fun e => hl (List.eq_nil_of_length_eq_zero e))]
theorem parseML_cons0 (n : Nat) (c : Nat) (r : List Nat) (i : Nat) (flat row : List Int) (del opn : Bool) (h : spaceB c = true) : parseMLoop (n + 1) (c :: r) i flat row del opn = parseMLoop n r (i + 1) flat row del opn := by
  show (if spaceB c = true then _ else _) = _
  rw [if_pos h]
theorem parseML_step (n : Nat) (c : Nat) (r : List Nat) (i : Nat) (flat row : List Int) (del opn : Bool) (h : spaceB c = false) (m : Nat) (hm : m = ((c :: r).takeWhile fun c => !spaceB c).length) : parseMLoop (n + 1) (c :: r) i flat row del opn =
    if c = 99 then parseMLoop n ((c :: r).drop ((c :: r).takeWhile fun c => c != 10).length) (i + ((c :: r).takeWhile fun c => c != 10).length) flat row del opn
    else if c = 100 then
      (if opn = true then ⟨2, i, []⟩ else if 1 < m then ⟨2, i + 1, []⟩ else parseMLoop n ((c :: r).drop m) (i + m) flat row true true)
    else if (numberM ((c :: r).take m) i).2.2.1 = 0 then
      (if (numberM ((c :: r).take m) i).1 = 0 then parseMLoop n ((c :: r).drop m) (i + m) (flat ++ rowM del row) [] false false
       else parseMLoop n ((c :: r).drop m) (i + m) flat (row ++ [if (numberM ((c :: r).take m) i).2.1 = true then -((numberM ((c :: r).take m) i).1 : Int) else ((numberM ((c :: r).take m) i).1 : Int)]) del true)
    else ⟨(numberM ((c :: r).take m) i).2.2.1, (numberM ((c :: r).take m) i).2.2.2, []⟩ := by
  subst hm
  show (if spaceB c = true then _ else _) = _
  rw [if_neg (by rw [h]; simp)]
theorem parseML_nil0 (n : Nat) (i : Nat) (flat row : List Int) (del opn : Bool) : parseMLoop (n + 1) [] i flat row del opn = if opn = true then ⟨5, i, []⟩ else ⟨0, 0, flat⟩ := rfl

theorem parse_eq : ∀ (k : Nat) (l : List Nat), l.length ≤ k → ∀ (n i : Nat) (p : ParS) (flat row : List Int) (del opn : Bool), l.length < n → Rel p flat row del opn →
    fin3 (feedAll (l ++ [32]) i p) (i + l.length) = parseMLoop n l i flat row del opn := by
  intro k
  induction k with
  | zero =>
    intro l hl n i p flat row del opn hn h
    have : l = [] := List.eq_nil_of_length_eq_zero (by omega)
    subst this
    obtain ⟨n, rfl⟩ : ∃ m, n = m + 1 := ⟨n - 1, by simp at hn; omega⟩
    rw [List.nil_append, feedAll_ok h.er, feed_space h.st (by decide), parseML_nil0]
    exact fin3_rel (h.start i) _
  | succ k ih =>
    intro l hl n i p flat row del opn hn h
    obtain ⟨n, rfl⟩ : ∃ m, n = m + 1 := ⟨n - 1, by omega⟩
    cases l with
    | nil =>
      rw [List.nil_append, feedAll_ok h.er, feed_space h.st (by decide), parseML_nil0]
      exact fin3_rel (h.start i) _
    | cons c r =>
      simp only [List.length_cons] at hl hn
      -- what comes behind a token
      have hcont : ∀ (m : Nat) (rest : List Nat) (p2 : ParS) (flat2 row2 : List Int) (d2 o2 : Bool), 1 ≤ m → m + rest.length = r.length + 1 → Rel p2 flat2 row2 d2 o2 →
          (rest = [] → fin3 p2 (i + (r.length + 1)) = parseMLoop n rest (i + m) flat2 row2 d2 o2) ∧
          (∀ sp r2, rest = sp :: r2 → spaceB sp = true → fin3 (feedAll (r2 ++ [32]) (i + m + 1) p2) (i + (r.length + 1)) = parseMLoop n rest (i + m) flat2 row2 d2 o2) := by
        intro m rest p2 flat2 row2 d2 o2 hm hlen h2
        constructor
        · intro e
          subst e
          obtain ⟨n', rfl⟩ : ∃ q, n = q + 1 := ⟨n - 1, by omega⟩
          rw [parseML_nil0, fin3_rel h2]
          simp only [List.length_nil] at hlen
          rw [show i + m = i + (r.length + 1) from by omega]
        · intro sp r2 e hsp
          subst e
          simp only [List.length_cons] at hlen
          obtain ⟨n', rfl⟩ : ∃ q, n = q + 1 := ⟨n - 1, by omega⟩
          rw [parseML_cons0 _ _ _ _ _ _ _ _ hsp]
          have := ih r2 (by omega) n' (i + m + 1) p2 flat2 row2 d2 o2 (by omega) h2
          rw [← this]
          congr 1; omega
      rw [List.cons_append, feedAll_ok h.er]
      cases hsp : spaceB c with
      | true =>
        rw [feed_space h.st hsp, parseML_cons0 _ _ _ _ _ _ _ _ hsp]
        have := ih r (by omega) n (i + 1) _ flat row del opn (by omega) (h.start i)
        rw [← this]
        congr 1
        simp only [List.length_cons]; omega
      | false =>
        obtain ⟨m, hm⟩ : ∃ m, m = ((c :: r).takeWhile fun c => !spaceB c).length := ⟨_, rfl⟩
        rw [parseML_step _ _ _ _ _ _ _ _ hsp m hm]
        have htw : (c :: r).takeWhile (fun c => !spaceB c) = c :: r.takeWhile (fun c => !spaceB c) := by rw [List.takeWhile_cons, if_pos (by rw [hsp]; rfl)]
        obtain ⟨t, ht⟩ : ∃ t, r.takeWhile (fun c => !spaceB c) = t := ⟨_, rfl⟩
        have hmt : m = t.length + 1 := by rw [hm, htw, ht]; simp
        have htk : (c :: r).take m = c :: t := by rw [hm, take_takeWhile, htw, ht]
        have htns : ∀ x ∈ t, spaceB x = false := fun x hx => by
          have := all_takeWhile r (fun c => !spaceB c) x (by rw [ht]; exact hx)
          simpa using this
        have hrt : r = t ++ (c :: r).drop m := by
          have := List.take_append_drop m (c :: r)
          rw [htk] at this
          simpa using this.symm
        have hdr : (c :: r).drop m = [] ∨ ∃ sp r2, (c :: r).drop m = sp :: r2 ∧ spaceB sp = true := by
          rcases drop_takeWhile (c :: r) (fun c => !spaceB c) with e | ⟨sp, r2, e, q⟩
          · left; rw [hm]; exact e
          · right; exact ⟨sp, r2, by rw [hm]; exact e, by simpa using q⟩
        obtain ⟨rest, hrest⟩ : ∃ x, (c :: r).drop m = x := ⟨_, rfl⟩
        rw [hrest] at hrt hdr
        have hlen : m + rest.length = r.length + 1 := by rw [hrt]; simp; omega
        -- the stream behind the token
        obtain ⟨sp, z, hstream, hspb, hz⟩ : ∃ sp z, r ++ [32] = t ++ sp :: z ∧ spaceB sp = true ∧ ((rest = [] ∧ z = []) ∨ ∃ r2, rest = sp :: r2 ∧ z = r2 ++ [32]) := by
          rcases hdr with e | ⟨sp, r2, e, q⟩
          · refine ⟨32, [], ?_, by decide, .inl ⟨e, rfl⟩⟩
            conv => lhs; rw [hrt, e]
            simp
          · refine ⟨sp, r2 ++ [32], ?_, q, .inr ⟨r2, e, rfl⟩⟩
            conv => lhs; rw [hrt, e]
            simp
        have hcont2 : ∀ (p2 : ParS) (flat2 row2 : List Int) (d2 o2 : Bool), Rel p2 flat2 row2 d2 o2 → fin3 (feedAll z (i + m + 1) p2) (i + (r.length + 1)) = parseMLoop n rest (i + m) flat2 row2 d2 o2 := by
          intro p2 flat2 row2 d2 o2 h2
          obtain ⟨a, b⟩ := hcont m rest p2 flat2 row2 d2 o2 (by omega) hlen h2
          rcases hz with ⟨e1, e2⟩ | ⟨r2, e1, e2⟩
          · rw [e2]; exact a e1
          · rw [e2]; exact b sp r2 e1 hspb
        simp only [List.length_cons]
        by_cases h99 : c = 99
        · rw [if_pos h99]
          have hf : p.feed c i = { p with start := i, state := 1 } := by unfold ParS.feed; rw [if_pos h.st, classF_c h99]; rfl
          rw [hf]
          have htw2 : (c :: r).takeWhile (fun c => c != 10) = c :: r.takeWhile (fun c => c != 10) := by rw [List.takeWhile_cons, if_pos (by rw [h99]; rfl)]
          rw [htw2]
          obtain ⟨q, hq⟩ : ∃ q, (r.takeWhile (fun c => c != 10)).length = q := ⟨_, rfl⟩
          rcases feed_comment r (i + 1) { p with start := i, state := 1 } rfl h.er with ⟨a, b⟩ | ⟨r2, a, b⟩
          · rw [b, List.length_cons, a, List.drop_of_length_le (by simp)]
            obtain ⟨n', rfl⟩ : ∃ q, n = q + 1 := ⟨n - 1, by omega⟩
            rw [parseML_nil0]
            have : fin3 { p with start := i, state := 1 } (i + (r.length + 1)) = fin3 p (i + (r.length + 1)) := fin3_congr rfl rfl rfl rfl
            rw [this, fin3_rel h]
          · rw [hq] at a b
            rw [b, List.length_cons, hq]
            have hd : (c :: r).drop (q + 1) = 10 :: r2 := by simpa using a
            rw [hd]
            have hl2 : q + (r2.length + 1) = r.length := by
              have := congrArg List.length a
              rw [List.length_drop, List.length_cons] at this; omega
            obtain ⟨n', rfl⟩ : ∃ q, n = q + 1 := ⟨n - 1, by omega⟩
            rw [parseML_cons0 _ _ _ _ _ _ _ _ (by decide)]
            have := ih r2 (by omega) n' (i + 1 + q + 1) { p with start := i, state := 0 } flat row del opn (by omega) ⟨rfl, h.er, h.at_, h.ar, h.dl, h.op, h.po, h.ne⟩
            rw [show i + (q + 1) + 1 = i + 1 + q + 1 from by omega, ← this]
            congr 1; omega
        · rw [if_neg h99]
          by_cases h100 : c = 100
          · rw [if_pos h100]
            cases opn with
            | true =>
              rw [if_pos rfl]
              have hf : p.feed c i = ({ p with start := i } : ParS).fail 2 i := by
                unfold ParS.feed ParS.begin
                rw [if_pos h.st, classF_d h100, if_neg (by decide), if_pos rfl, if_pos h.op]
              rw [hf, feedAll_err _ _ _ (by simp [ParS.fail]), fin3_err (by simp [ParS.fail])]
              rfl
            | false =>
              rw [if_neg (by simp)]
              have hf : p.feed c i = { p with start := i, state := 4, del := true, opn := true } := by
                unfold ParS.feed ParS.begin
                rw [if_pos h.st, classF_d h100, if_neg (by decide), if_pos rfl, if_neg (by rw [h.op]; simp)]
              rw [hf, hstream]
              cases t with
              | nil =>
                simp only [List.length_nil] at hmt
                rw [if_neg (by omega), List.nil_append, feedAll_ok (by exact h.er)]
                have hf2 : ({ p with start := i, state := 4, del := true, opn := true } : ParS).feed sp (i + 1) = { p with start := i, state := 0, del := true, opn := true } := by
                  unfold ParS.feed
                  simp only []
                  rw [if_neg (by decide), if_neg (by decide), if_neg (by decide), if_neg (by decide), if_pos ((classF_space sp).2 hspb)]
                rw [hf2]
                have := hcont2 { p with start := i, state := 0, del := true, opn := true } flat row true true ⟨rfl, h.er, h.at_, h.ar, rfl, rfl, h.po, h.ne⟩
                rw [hmt] at this ⊢
                rw [hrest.symm, hmt] at this
                exact this
              | cons d t2 =>
                simp only [List.length_cons] at hmt
                rw [if_pos (by omega), List.cons_append, feedAll_ok (by exact h.er)]
                have hds := htns d List.mem_cons_self
                have hd1 : classF d ≠ 1 := fun e => by have := (classF_space d).1 e; rw [hds] at this; simp at this
                have hf2 : ({ p with start := i, state := 4, del := true, opn := true } : ParS).feed d (i + 1) = ({ p with start := i, state := 4, del := true, opn := true } : ParS).fail 2 (i + 1) := by
                  unfold ParS.feed
                  simp only []
                  rw [if_neg (by decide), if_neg (by decide), if_neg (by decide), if_neg (by decide), if_neg hd1]
                rw [hf2, feedAll_err _ _ _ (by simp [ParS.fail]), fin3_err (by simp [ParS.fail])]
                rfl
          · rw [if_neg h100, htk, hrest]
            -- a number
            have hnum : ∀ (neg : Bool) (V : Nat) (p3 : ParS), Rel { p3 with state := 0 } flat row del opn → p3.start = i → p3.minus = neg → p3.val = V →
                (if V = 0 ∧ neg = true then ((0, false, 3, i) : Nat × Bool × Nat × Nat) else if 12 < V then (0, false, 4, i) else (V, neg, 0, 0)) = numberM (c :: t) i →
                fin3 (feedAll z (i + m + 1) ({ p3 with state := 0 } : ParS).number) (i + (r.length + 1)) =
                  if (numberM (c :: t) i).2.2.1 = 0 then
                    (if (numberM (c :: t) i).1 = 0 then parseMLoop n rest (i + m) (flat ++ rowM del row) [] false false
                     else parseMLoop n rest (i + m) flat (row ++ [if (numberM (c :: t) i).2.1 = true then -((numberM (c :: t) i).1 : Int) else ((numberM (c :: t) i).1 : Int)]) del true)
                  else ⟨(numberM (c :: t) i).2.2.1, (numberM (c :: t) i).2.2.2, []⟩ := by
              intro neg V p3 h3 hst hmi hva hnm
              rw [← hnm]
              unfold ParS.number
              simp only [hmi, hva, hst]
              by_cases q1 : V = 0 ∧ neg = true
              · rw [if_pos q1, if_pos q1, if_neg (by simp), feedAll_err _ _ _ (by simp [ParS.fail]), fin3_err (by simp [ParS.fail])]
                rfl
              · rw [if_neg q1, if_neg q1]
                by_cases q2 : 12 < V
                · rw [if_pos q2, if_pos q2, if_neg (by simp), feedAll_err _ _ _ (by simp [ParS.fail]), fin3_err (by simp [ParS.fail])]
                  rfl
                · rw [if_neg q2, if_neg q2]
                  simp only [if_true]
                  by_cases q3 : V = 0
                  · rw [if_pos q3, if_pos q3]
                    have hr := endRow_rel h3
                    have e : ({ p3 with state := 0 } : ParS).endRow = ({ p3 with state := 0 } : ParS).endRow := rfl
                    exact hcont2 _ _ _ _ _ (by simpa [hva, hst, hmi] using hr)
                  · rw [if_neg q3, if_neg q3]
                    have hr := lit_rel h3 q3 q2 neg
                    refine hcont2 _ _ _ _ _ ?_
                    simpa [hva, hst, hmi] using hr
            have hdig : ∀ (neg : Bool) (ds : List Nat) (t2 : List Nat) (j a : Nat) (p3 : ParS), p3.state = 3 → Rel { p3 with state := 0 } flat row del opn → p3.start = i → p3.minus = neg → (∀ x ∈ t2, spaceB x = false) →
                (∀ x ∈ t2, digitB x = true → True) → j + t2.length = i + m → numberM (c :: t) i = numTail neg ds a i → (∀ x, x ∈ ds ↔ x ∈ ds) → ds.length = t2.length + 1 → ds.drop 1 = t2 → digitB (ds.getD 0 0) = true → p3.val = satStep 0 (ds.getD 0 0) → a + 1 = j →
                fin3 (feedAll (t2 ++ sp :: z) j p3) (i + (r.length + 1)) =
                  if (numberM (c :: t) i).2.2.1 = 0 then
                    (if (numberM (c :: t) i).1 = 0 then parseMLoop n rest (i + m) (flat ++ rowM del row) [] false false
                     else parseMLoop n rest (i + m) flat (row ++ [if (numberM (c :: t) i).2.1 = true then -((numberM (c :: t) i).1 : Int) else ((numberM (c :: t) i).1 : Int)]) del true)
                  else ⟨(numberM (c :: t) i).2.2.1, (numberM (c :: t) i).2.2.2, []⟩ := by
              intro neg ds t2 j a p3 hst3 h3 hst hmi hns _ hjl hnm _ hdl hdd hd0 hva haj
              obtain ⟨d0, rfl⟩ : ∃ d0, ds = d0 :: t2 := by
                cases ds with
                | nil => simp at hdl
                | cons d0 x => exact ⟨d0, by simp at hdd; rw [hdd]⟩
              simp only [List.getD_cons_zero] at hd0 hva
              rcases feed_digits t2 j p3 sp z hst3 h3.er hns hspb with ⟨q1, q2⟩ | ⟨kk, q1, q2, q3, q4, q5⟩
              · rw [q2]
                have hall : ∀ x ∈ d0 :: t2, digitB x = true := fun x hx => by
                  rcases List.mem_cons.1 hx with e | e
                  · subst e; exact hd0
                  · exact q1 x e
                rw [show j + t2.length + 1 = i + m + 1 from by omega]
                refine hnum neg ((d0 :: t2).foldl satStep 0) { p3 with val := t2.foldl satStep p3.val } ⟨h3.st, h3.er, h3.at_, h3.ar, h3.dl, h3.op, h3.po, h3.ne⟩ hst hmi (by simp only [List.foldl_cons, hva]) ?_
                rw [hnm, numTail_all hall (by simp)]
              · rw [fin3_err (by rw [q4]; decide), q4, q5]
                have hb : numTail neg (d0 :: t2) a i = (0, false, 2, a + (kk + 1)) := numTail_bad (by simp; omega) (fun m hm => by
                  cases m with
                  | zero => simpa using hd0
                  | succ m => simpa using q2 m (by omega)) (by simpa using q3)
                rw [hnm, hb, if_neg (by simp)]
                simp only []
                congr 1; omega
            by_cases h45 : c = 45
            · have hf : p.feed c i = { p with start := i, state := 2, minus := true, val := 0 } := by unfold ParS.feed; rw [if_pos h.st, classF_m h45]; rfl
              have hnm : numberM (c :: t) i = numTail true t (i + 1) i := by rw [numberM_tail, if_pos (by rw [h45]; rfl)]; rfl
              rw [hf, hstream]
              cases t with
              | nil =>
                rw [List.nil_append, feedAll_ok (by exact h.er)]
                have hf2 : ({ p with start := i, state := 2, minus := true, val := 0 } : ParS).feed sp (i + 1) = ({ p with start := i, state := 2, minus := true, val := 0 } : ParS).fail 3 i := by
                  unfold ParS.feed
                  simp only []
                  have h4 := (classF_space sp).2 hspb
                  rw [if_neg (by decide), if_neg (by decide), if_pos trivial, if_neg (by omega), if_pos h4]
                rw [hf2, feedAll_err _ _ _ (by simp [ParS.fail]), fin3_err (by simp [ParS.fail]), hnm]
                rfl
              | cons d t2 =>
                have hds := htns d List.mem_cons_self
                have hd1 : classF d ≠ 1 := fun e => by have := (classF_space d).1 e; rw [hds] at this; simp at this
                rw [List.cons_append, feedAll_ok (by exact h.er)]
                simp only [List.length_cons] at hmt
                cases hdg : digitB d with
                | true =>
                  have hf2 : ({ p with start := i, state := 2, minus := true, val := 0 } : ParS).feed d (i + 1) = { p with start := i, state := 3, minus := true, val := d - 48 } := by
                    unfold ParS.feed
                    simp only []
                    rw [if_neg (by decide), if_neg (by decide), if_pos trivial, if_pos ((classF_dig d).2 hdg)]
                  rw [hf2]
                  have h57 := (digitB_iff d).1 hdg
                  exact hdig true (d :: t2) t2 (i + 1 + 1) (i + 1) { p with start := i, state := 3, minus := true, val := d - 48 } rfl ⟨rfl, h.er, h.at_, h.ar, h.dl, h.op, h.po, h.ne⟩ rfl rfl (fun x hx => htns x (List.mem_cons_of_mem _ hx)) (fun _ _ _ => trivial) (by omega) hnm (fun _ => Iff.rfl) rfl rfl hdg (by show d - 48 = satStep 0 d; unfold satStep; rw [if_neg (by omega)]; omega) rfl
                | false =>
                  have hd2 : classF d ≠ 2 := fun e => by have := (classF_dig d).1 e; rw [hdg] at this; simp at this
                  have hf2 : ({ p with start := i, state := 2, minus := true, val := 0 } : ParS).feed d (i + 1) = ({ p with start := i, state := 2, minus := true, val := 0 } : ParS).fail 2 (i + 1) := by
                    unfold ParS.feed
                    simp only []
                    rw [if_neg (by decide), if_neg (by decide), if_pos trivial, if_neg hd2, if_neg hd1]
                  have hb : numTail true (d :: t2) (i + 1) i = (0, false, 2, i + 1 + 0) := numTail_bad (by simp) (fun m hm => by omega) (by simpa using hdg)
                  rw [hf2, feedAll_err _ _ _ (by simp [ParS.fail]), fin3_err (by simp [ParS.fail]), hnm, hb, if_neg (by simp)]
                  rfl
            · have hnm : numberM (c :: t) i = numTail false (c :: t) i i := by rw [numberM_tail, if_neg (by simpa using h45)]
              cases hdg : digitB c with
              | true =>
                have hf : p.feed c i = { p with start := i, state := 3, minus := false, val := c - 48 } := by unfold ParS.feed; rw [if_pos h.st, (classF_dig c).2 hdg]; rfl
                rw [hf, hstream]
                have h57 := (digitB_iff c).1 hdg
                exact hdig false (c :: t) t (i + 1) i { p with start := i, state := 3, minus := false, val := c - 48 } rfl ⟨rfl, h.er, h.at_, h.ar, h.dl, h.op, h.po, h.ne⟩ rfl rfl htns (fun _ _ _ => trivial) (by omega) hnm (fun _ => Iff.rfl) rfl rfl hdg (by show c - 48 = satStep 0 c; unfold satStep; rw [if_neg (by omega)]; omega) rfl
              | false =>
                have hf : p.feed c i = ({ p with start := i } : ParS).fail 2 i := by unfold ParS.feed; rw [if_pos h.st, classF_o hsp h99 h100 h45 hdg]; rfl
                have hb : numTail false (c :: t) i i = (0, false, 2, i + 0) := numTail_bad (by simp) (fun m hm => by omega) (by simpa using hdg)
                rw [hf, feedAll_err _ _ _ (by simp [ParS.fail]), fin3_err (by simp [ParS.fail]), hnm, hb, if_neg (by simp)]
                rfl
theorem feedAll_append : ∀ (a b : List Nat) (i : Nat) (p : ParS), feedAll (a ++ b) i p = feedAll b (i + a.length) (feedAll a i p) := by
  intro a
  induction a with
  | nil => intro b i p; rfl
  | cons c r ih =>
    intro b i p
    rw [List.cons_append, feedAll_cons, feedAll_cons]
    by_cases h : p.err = 0
    · rw [if_pos h, if_pos h, ih, List.length_cons]; congr 1; omega
    · rw [if_neg h, if_neg h, feedAll_err _ _ _ h]
theorem idle_rel : Rel .idle [] [] false false := ⟨rfl, rfl, rfl, rfl, rfl, rfl, fun v => by simp [ParS.idle], fun v => by simp [ParS.idle]⟩
theorem parseF_fin (bs : List Nat) : parseF bs = if 1048576 < bs.length then ⟨1, 0, []⟩ else fin3 (feedAll (bs ++ [32]) 0 .idle) bs.length := by
  unfold parseF
  by_cases h : 1048576 < bs.length
  · rw [if_pos h, if_pos h]
  · rw [if_neg h, if_neg h, feedAll_append, Nat.zero_add]
    rfl
/-- THE TWO PARSERS ANSWER ALIKE. -/
theorem parseF_eq (bs : List Nat) : parseF bs = parseM bs := by
  rw [parseF_fin]
  unfold parseM
  by_cases h : 1048576 < bs.length
  · rw [if_pos h, if_pos h]
  · rw [if_neg h, if_neg h]
    have := parse_eq bs.length bs (Nat.le_refl _) (bs.length + 1) 0 .idle [] [] false false (by omega) idle_rel
    rw [Nat.zero_add] at this
    exact this
end Go.Proofs.Qxb6500354aGreat
