/- PLAIN LAW: what Print writes, Parse reads. -/
import Derived.Test.Qxb6500354aGreatLaw4
namespace Go.Proofs.Qxb6500354aGreat
set_option linter.unusedVariables false
set_option linter.unusedSimpArgs false

theorem feedAll_app : ∀ (a b : List Nat) (i : Nat) (p : ParS), feedAll (a ++ b) i p = feedAll b (i + a.length) (feedAll a i p) := feedAll_append
theorem number_lit {p : ParS} {flat row : List Int} {del opn : Bool} (h : Rel p flat row del opn) {V : Nat} (hv : p.val = V) (h1 : V ≠ 0) (h2 : ¬ 12 < V) :
    Rel p.number flat (row ++ [if p.minus = true then -(V : Int) else (V : Int)]) del true := by
  have hr := lit_rel h h1 h2 p.minus
  have e : p.number = if p.minus = true then { p with opn := true, neg := setB p.neg V } else { p with opn := true, pos := setB p.pos V } := by
    unfold ParS.number
    rw [hv, if_neg (fun q => h1 q.1), if_neg h2, if_neg h1]
  rw [e]; exact hr
theorem number_end {p : ParS} {flat row : List Int} {del opn : Bool} (h : Rel p flat row del opn) (hv : p.val = 0) (hm : p.minus = false) : Rel p.number (flat ++ rowM del row) [] false false := by
  have hr := endRow_rel h
  have e : p.number = p.endRow := by
    unfold ParS.number
    rw [hv, if_neg (fun q => by rw [hm] at q; cases q.2), if_neg (by omega), if_pos rfl]
  rw [e]; exact hr
theorem Rel.alt {p p2 : ParS} {flat row : List Int} {del opn : Bool} (h : Rel p flat row del opn) (hs : p2.state = 0) (h1 : p2.err = p.err) (h2 : p2.at_ = p.at_) (h3 : p2.arena = p.arena) (h4 : p2.del = p.del) (h5 : p2.opn = p.opn) (h6 : p2.pos = p.pos) (h7 : p2.neg = p.neg) : Rel p2 flat row del opn :=
  ⟨hs, h1.trans h.er, h2.trans h.at_, h3.trans h.ar, h4.trans h.dl, h5.trans h.op, by rw [h6]; exact h.po, by rw [h7]; exact h.ne⟩
theorem feed_num {p : ParS} {flat row : List Int} {del opn : Bool} (h : Rel p flat row del opn) (d0 : Nat) (ds : List Nat) (sp i : Nat) (hd : ∀ c ∈ d0 :: ds, digitB c = true) (hs : spaceB sp = true) :
    ∃ p2, feedAll (d0 :: (ds ++ [sp])) i p = p2.number ∧ Rel p2 flat row del opn ∧ p2.minus = false ∧ p2.val = (d0 :: ds).foldl satStep 0 := by
  have h0 := hd d0 List.mem_cons_self
  have h57 := (digitB_iff d0).1 h0
  have hf : p.feed d0 i = { p with start := i, state := 3, minus := false, val := d0 - 48 } := by unfold ParS.feed; rw [if_pos h.st, (classF_dig d0).2 h0]; rfl
  rw [feedAll_ok h.er, hf]
  rcases feed_digits ds (i + 1) { p with start := i, state := 3, minus := false, val := d0 - 48 } sp [] rfl h.er (fun c hc => dig_nospace (hd c (List.mem_cons_of_mem _ hc))) hs with ⟨_, b⟩ | ⟨k, a, _, b, _⟩
  · refine ⟨_, b, h.alt rfl rfl rfl rfl rfl rfl rfl rfl, rfl, ?_⟩
    show ds.foldl satStep (d0 - 48) = ds.foldl satStep (satStep 0 d0)
    congr 1
    unfold satStep; rw [if_neg (by omega)]; omega
  · have := hd (ds.getD k 0) (List.mem_cons_of_mem _ (by rw [List.getD_eq_getElem?_getD, List.getElem?_eq_getElem a]; exact List.getElem_mem _))
    rw [this] at b; cases b
theorem feed_neg {p : ParS} {flat row : List Int} {del opn : Bool} (h : Rel p flat row del opn) (d0 : Nat) (ds : List Nat) (sp i : Nat) (hd : ∀ c ∈ d0 :: ds, digitB c = true) (hs : spaceB sp = true) :
    ∃ p2, feedAll (45 :: d0 :: (ds ++ [sp])) i p = p2.number ∧ Rel p2 flat row del opn ∧ p2.minus = true ∧ p2.val = (d0 :: ds).foldl satStep 0 := by
  have h0 := hd d0 List.mem_cons_self
  have h57 := (digitB_iff d0).1 h0
  have hf : p.feed 45 i = { p with start := i, state := 2, minus := true, val := 0 } := by unfold ParS.feed; rw [if_pos h.st, classF_m rfl]; rfl
  have hf2 : ({ p with start := i, state := 2, minus := true, val := 0 } : ParS).feed d0 (i + 1) = { p with start := i, state := 3, minus := true, val := d0 - 48 } := by
    unfold ParS.feed
    simp only []
    rw [if_neg (by decide), if_neg (by decide), if_pos trivial, if_pos ((classF_dig d0).2 h0)]
  rw [feedAll_ok h.er, hf, feedAll_ok (by exact h.er), hf2]
  rcases feed_digits ds (i + 1 + 1) { p with start := i, state := 3, minus := true, val := d0 - 48 } sp [] rfl h.er (fun c hc => dig_nospace (hd c (List.mem_cons_of_mem _ hc))) hs with ⟨_, b⟩ | ⟨k, a, _, b, _⟩
  · refine ⟨_, b, h.alt rfl rfl rfl rfl rfl rfl rfl rfl, rfl, ?_⟩
    show ds.foldl satStep (d0 - 48) = ds.foldl satStep (satStep 0 d0)
    congr 1
    unfold satStep; rw [if_neg (by omega)]; omega
  · have := hd (ds.getD k 0) (List.mem_cons_of_mem _ (by rw [List.getD_eq_getElem?_getD, List.getElem?_eq_getElem a]; exact List.getElem_mem _))
    rw [this] at b; cases b
/-- the digits of a variable. -/
def varB (v : Nat) : List Nat := if 10 ≤ v then [48 + v / 10, 48 + v % 10] else [48 + v]
theorem varB_law (v : Nat) (h1 : v ≤ 12) : ∃ d0 ds, varB v = d0 :: ds ∧ (∀ c ∈ d0 :: ds, digitB c = true) ∧ (d0 :: ds).foldl satStep 0 = v := by
  unfold varB
  by_cases e : 10 ≤ v
  · rw [if_pos e]
    refine ⟨_, _, rfl, fun c hc => (digitB_iff c).2 ?_, ?_⟩
    · rcases List.mem_cons.1 hc with q | q
      · omega
      · rw [List.mem_singleton] at q; omega
    · have : v = 10 ∨ v = 11 ∨ v = 12 := by omega
      rcases this with q | q | q <;> subst q <;> rfl
  · rw [if_neg e]
    refine ⟨_, [], rfl, fun c hc => (digitB_iff c).2 ?_, ?_⟩
    · rw [List.mem_singleton] at hc; omega
    · show satStep 0 (48 + v) = v
      unfold satStep; rw [if_neg (by omega)]; omega
theorem feed_lit {p : ParS} {flat row : List Int} {del opn : Bool} (h : Rel p flat row del opn) {l : Int} (hg : good l = true) (i : Nat) : Rel (feedAll (litB l) i p) flat (row ++ [l]) del true := by
  have hgi := (good_iff l).1 hg
  obtain ⟨d0, ds, e, hd, hv⟩ := varB_law l.natAbs (by omega)
  have hlit : litB l = (if l < 0 then [45] else []) ++ (d0 :: (ds ++ [32])) := by
    unfold litB
    rw [show (if 10 ≤ l.natAbs then [48 + l.natAbs / 10, 48 + l.natAbs % 10] else [48 + l.natAbs]) = varB l.natAbs from rfl, e]; simp
  rw [hlit]
  by_cases q : l < 0
  · rw [if_pos q]
    obtain ⟨p2, a, b, c, d⟩ := feed_neg h d0 ds 32 i hd (by decide)
    rw [show [45] ++ (d0 :: (ds ++ [32])) = 45 :: d0 :: (ds ++ [32]) from rfl, a]
    have := number_lit b (d.trans hv) (by omega) (by omega)
    rw [c, if_pos rfl, show -(l.natAbs : Int) = l from by omega] at this
    exact this
  · rw [if_neg q]
    obtain ⟨p2, a, b, c, d⟩ := feed_num h d0 ds 32 i hd (by decide)
    rw [List.nil_append, a]
    have := number_lit b (d.trans hv) (by omega) (by omega)
    rw [c, if_neg (by simp), show (l.natAbs : Int) = l from by omega] at this
    exact this
theorem feed_zero {p : ParS} {flat row : List Int} {del opn : Bool} (h : Rel p flat row del opn) (i : Nat) : Rel (feedAll [48, 10] i p) (flat ++ rowM del row) [] false false := by
  obtain ⟨p2, a, b, c, d⟩ := feed_num h 48 [] 10 i (by intro c hc; rw [List.mem_singleton] at hc; subst hc; decide) (by decide)
  rw [show [48, 10] = 48 :: ([] ++ [10]) from rfl, a]
  exact number_end b d c
theorem feed_del {p : ParS} {flat : List Int} (h : Rel p flat [] false false) (i : Nat) : Rel (feedAll [100, 32] i p) flat [] true true := by
  have hf : p.feed 100 i = { p with start := i, state := 4, del := true, opn := true } := by
    unfold ParS.feed ParS.begin
    rw [if_pos h.st, classF_d rfl, if_neg (by decide), if_pos rfl, if_neg (by rw [h.op]; simp)]
  have hf2 : ({ p with start := i, state := 4, del := true, opn := true } : ParS).feed 32 (i + 1) = { p with start := i, state := 0, del := true, opn := true } := by
    unfold ParS.feed
    simp only []
    rw [if_neg (by decide), if_neg (by decide), if_neg (by decide), if_neg (by decide), if_pos ((classF_space 32).2 (by decide))]
  rw [feedAll_ok h.er, hf, feedAll_ok (by exact h.er), hf2]
  exact ⟨rfl, h.er, h.at_, h.ar, rfl, rfl, h.po, h.ne⟩
theorem feed_lits {flat : List Int} {del : Bool} : ∀ (c : List Int) (p : ParS) (row : List Int) (opn : Bool) (i : Nat), (∀ x ∈ c, good x = true) → Rel p flat row del opn → ∃ o2, Rel (feedAll (c.flatMap litB) i p) flat (row ++ c) del o2 := by
  intro c
  induction c with
  | nil => intro p row opn i _ h; exact ⟨opn, by rw [List.append_nil]; exact h⟩
  | cons l t ih =>
    intro p row opn i hg h
    rw [List.flatMap_cons, feedAll_append]
    obtain ⟨o2, k⟩ := ih _ (row ++ [l]) true (i + (litB l).length) (fun x hx => hg x (List.mem_cons_of_mem _ hx)) (feed_lit h (hg l List.mem_cons_self) i)
    exact ⟨o2, by rw [List.append_assoc] at k; exact k⟩
theorem normM_mem {row : List Int} : ∀ {n v : Nat} {r : List Int}, 1 ≤ v → normM row n v = some r → ∀ x : Int, x ∈ r ↔ x ∈ row ∧ v ≤ x.natAbs ∧ x.natAbs < v + n := by
  intro n
  induction n with
  | zero => intro v r _ h x; cases h; simp <;> intros <;> omega
  | succ n ih =>
    intro v r h1 h x
    rw [normM_succ] at h
    by_cases hb : row.contains (v : Int) = true ∧ row.contains (-(v : Int)) = true
    · rw [if_pos hb] at h; cases h
    · rw [if_neg hb] at h
      cases e : normM row n (v + 1) with
      | none => rw [e] at h; cases h
      | some r2 =>
        rw [e, Option.map_some] at h
        injection h with h
        have k := ih (by omega) e x
        have p1 : row.contains (v : Int) = true ↔ (v : Int) ∈ row := List.contains_iff_mem
        have p2 : row.contains (-(v : Int)) = true ↔ (-(v : Int)) ∈ row := List.contains_iff_mem
        rw [← h, List.mem_append, List.mem_append, k]
        have q1 : x ∈ (if row.contains (v : Int) = true then [(v : Int)] else []) ↔ x = v ∧ x ∈ row := by
          split
          · rename_i z; rw [List.mem_singleton]; exact ⟨fun y => ⟨y, by rw [y]; exact p1.1 z⟩, fun y => y.1⟩
          · rename_i z; simp only [List.not_mem_nil, false_iff]; rintro ⟨y1, y2⟩; exact z (p1.2 (y1 ▸ y2))
        have q2 : x ∈ (if row.contains (-(v : Int)) = true then [-(v : Int)] else []) ↔ x = -(v : Int) ∧ x ∈ row := by
          split
          · rename_i z; rw [List.mem_singleton]; exact ⟨fun y => ⟨y, by rw [y]; exact p2.1 z⟩, fun y => y.1⟩
          · rename_i z; simp only [List.not_mem_nil, false_iff]; rintro ⟨y1, y2⟩; exact z (p2.2 (y1 ▸ y2))
        rw [q1, q2]
        constructor
        · rintro ((⟨y1, y2⟩ | ⟨y1, y2⟩) | ⟨y1, y2, y3⟩)
          · exact ⟨y2, by omega, by omega⟩
          · exact ⟨y2, by omega, by omega⟩
          · exact ⟨y1, by omega, by omega⟩
        · rintro ⟨y1, y2, y3⟩
          by_cases z : x.natAbs = v
          · left
            by_cases z2 : 0 ≤ x
            · left; exact ⟨by omega, y1⟩
            · right; exact ⟨by omega, y1⟩
          · right; exact ⟨y1, by omega, by omega⟩
theorem normM_some {row : List Int} (hd : (row.map Int.natAbs).Nodup) : ∀ {n v : Nat}, 1 ≤ v → ∃ r, normM row n v = some r := by
  intro n
  induction n with
  | zero => intro v _; exact ⟨[], rfl⟩
  | succ n ih =>
    intro v h1
    obtain ⟨r, hr⟩ := ih (v := v + 1) (by omega)
    rw [normM_succ, if_neg, hr]
    · exact ⟨_, rfl⟩
    · rintro ⟨a, b⟩
      rw [List.contains_iff_mem] at a b
      have := eq_of_natAbs hd a b (by omega)
      omega
end Go.Proofs.Qxb6500354aGreat
