/- The walk over cnfm.Parse. -/
import Derived.Test.Qxb6500354aGreatMod2
namespace Go.Proofs.Qxb6500354aGreat
open Go.RowKit
set_option linter.unusedVariables false
set_option linter.unusedSimpArgs false

/-- The model's parser: two counters that nobody asks for. -/
def PMAt (w : World) (b : Nat) : Prop := (∃ x y : Int, w.cell? ⟨b, 0, none⟩ = some (.int .i64 x) ∧ w.cell? ⟨b, 1, none⟩ = some (.int .i64 y)) ∧ ∀ i, w.frozen? ⟨b, i, none⟩ = false
theorem PMAt.lt {w : World} {b : Nat} (h : PMAt w b) : b < w.heap.size := by obtain ⟨⟨x, y, h1, _⟩, _⟩ := h; exact lt_of_cellB h1
theorem PMAt.fr {w w2 : World} {b : Nat} {D : List Nat} (h : PMAt w b) (hf : Fr D w w2) (hb : b ∉ D) : PMAt w2 b := by
  have hl := h.lt
  obtain ⟨⟨x, y, h1, h2⟩, h3⟩ := h
  exact ⟨⟨x, y, hf.cell h1 hb, hf.cell h2 hb⟩, fun i => (hf.froz hl hb).trans (h3 i)⟩
theorem PMAt.set0 {w : World} {b : Nat} (h : PMAt w b) (z : Int) : PMAt (w.setCell ⟨b, 0, none⟩ (.int .i64 z)) b := by
  obtain ⟨⟨x, y, h1, h2⟩, h3⟩ := h
  exact ⟨⟨z, y, cellSet h1, (cellNe (by omega)).trans h2⟩, fun i => (World.frozen?_setCell _ _ _ _).trans (h3 i)⟩
theorem PMAt.set1 {w : World} {b : Nat} (h : PMAt w b) (z : Int) : PMAt (w.setCell ⟨b, 1, none⟩ (.int .i64 z)) b := by
  obtain ⟨⟨x, y, h1, h2⟩, h3⟩ := h
  exact ⟨⟨x, z, (cellNe (by omega)).trans h1, cellSet h2⟩, fun i => (World.frozen?_setCell _ _ _ _).trans (h3 i)⟩

theorem takeWhile_len {l : List Nat} {q : Nat} {p : Nat → Bool} (hq : q ≤ l.length) (h : ∀ j, j < q → p (l.getD j 0) = true) (he : q = l.length ∨ p (l.getD q 0) = false) : (l.takeWhile p).length = q := by
  induction l generalizing q with
  | nil => simp at hq; simp [hq]
  | cons c r ih =>
    cases q with
    | zero =>
      rcases he with e | e
      · simp at e
      · simp at e; simp [e]
    | succ q =>
      have h0 := h 0 (by omega)
      simp at h0
      rw [List.takeWhile_cons, if_pos h0, List.length_cons]
      congr 1
      refine ih (by simpa using hq) (fun j hj => ?_) (he.imp (fun e => by simpa using e) (fun e => by simpa using e))
      have := h (j + 1) (by omega)
      simpa using this
theorem parseML_cons (n : Nat) (c : Nat) (r : List Nat) (i : Nat) (flat row : List Int) (del opn : Bool) : parseMLoop (n + 1) (c :: r) i flat row del opn =
    if spaceB c = true then parseMLoop n r (i + 1) flat row del opn
    else if c = 99 then parseMLoop n ((c :: r).drop ((c :: r).takeWhile fun c => c != 10).length) (i + ((c :: r).takeWhile fun c => c != 10).length) flat row del opn
    else if c = 100 then
      (if opn = true then ⟨2, i, []⟩ else if 1 < ((c :: r).takeWhile fun c => !spaceB c).length then ⟨2, i + 1, []⟩
       else parseMLoop n ((c :: r).drop ((c :: r).takeWhile fun c => !spaceB c).length) (i + ((c :: r).takeWhile fun c => !spaceB c).length) flat row true true)
    else if (numberM ((c :: r).take ((c :: r).takeWhile fun c => !spaceB c).length) i).2.2.1 = 0 then
      (if (numberM ((c :: r).take ((c :: r).takeWhile fun c => !spaceB c).length) i).1 = 0 then parseMLoop n ((c :: r).drop ((c :: r).takeWhile fun c => !spaceB c).length) (i + ((c :: r).takeWhile fun c => !spaceB c).length) (flat ++ rowM del row) [] false false
       else parseMLoop n ((c :: r).drop ((c :: r).takeWhile fun c => !spaceB c).length) (i + ((c :: r).takeWhile fun c => !spaceB c).length) flat (row ++ [if (numberM ((c :: r).take ((c :: r).takeWhile fun c => !spaceB c).length) i).2.1 = true then -((numberM ((c :: r).take ((c :: r).takeWhile fun c => !spaceB c).length) i).1 : Int) else ((numberM ((c :: r).take ((c :: r).takeWhile fun c => !spaceB c).length) i).1 : Int)]) del true)
    else ⟨(numberM ((c :: r).take ((c :: r).takeWhile fun c => !spaceB c).length) i).2.2.1, (numberM ((c :: r).take ((c :: r).takeWhile fun c => !spaceB c).length) i).2.2.2, []⟩ := rfl
theorem parseML_nil (n : Nat) (i : Nat) (flat row : List Int) (del opn : Bool) : parseMLoop (n + 1) [] i flat row del opn = if opn = true then ⟨5, i, []⟩ else ⟨0, 0, flat⟩ := rfl
theorem rowM_len (del : Bool) (row : List Int) : (rowM del row).length ≤ 26 := by
  have hn : ∀ n v l, normM row n v = some l → l.length ≤ 2 * n := by
    intro n
    induction n with
    | zero => intro v l h; simp [normM] at h; subst h; simp
    | succ n ih =>
      intro v l h
      rw [normM_succ] at h
      split at h
      · simp at h
      · rw [Option.map_eq_some_iff] at h
        obtain ⟨r, hr, rfl⟩ := h
        have := ih _ _ hr
        simp only [List.length_append]
        split <;> split <;> simp <;> omega
  unfold rowM
  split
  · simp
  · next n h =>
    have := hn _ _ _ h
    simp only [List.length_append]
    split <;> simp <;> omega
theorem numberM_le (tok : List Nat) (a : Nat) : (numberM tok a).1 ≤ 13 := by
  have h : ∀ neg ds i, (numTail neg ds i a).1 ≤ 13 := by
    intro neg ds i
    unfold numTail
    split
    · simp
    · split
      · simp
      · simp only []
        split
        · simp
        · split
          · simp
          · exact foldl_sat_le ds 0 (by omega)
  rw [numberM_tail]; split <;> exact h _ _ _
def rowOpt (del : Bool) : Option (List Int) → List Int
  | none => []
  | some n => (if del then [13] else []) ++ n ++ [0]
theorem rowM_opt (del : Bool) (row : List Int) : rowM del row = rowOpt del (normM row 12 1) := by unfold rowM rowOpt; cases normM row 12 1 <;> rfl
theorem rowOpt_some (del : Bool) (n : List Int) : rowOpt del (some n) = (if del then [13] else []) ++ n ++ [0] := rfl
theorem app_keep {w1 w w' : World} {b N : Nat} {fv : Value} {l : List Int} (hw1 : w1.heap.size = N + 1) (hbN : b < N) (hf : Fr [b] w1 w) (hp : PMAt w b) (ho : OwnI w (N + 1) fv l) (hg : Fr (blk fv) w w') : Fr [b] w1 w' ∧ PMAt w' b :=
  ⟨hf.trans2 hg (fun y hy hlt => by have := ho.base y (mem_blk.1 hy); omega), hp.fr hg (fun hm => by have := ho.base _ (mem_blk.1 hm); omega)⟩
theorem fr_app {w w' : World} {fv : Value} (o : Obj) (hg : (w.alloc o).grownBy w' fv.ownBlock) : Fr (blk fv) w w' := (((Fr.refl [] w).alloc o).mono (by simp)).trans ((Fr.refl (blk fv) _).grown hg (fun k hk _ => mem_blk.2 hk))
theorem fr_app0 {w w' : World} {fv : Value} (hg : w.grownBy w' fv.ownBlock) : Fr (blk fv) w w' := (Fr.refl (blk fv) _).grown hg (fun k hk _ => mem_blk.2 hk)
theorem drop_getD (B : List Nat) (i j : Nat) : (B.drop i).getD j 0 = B.getD (i + j) 0 := by simp only [List.getD_eq_getElem?_getD, List.getElem?_drop]

/-- What Parse of the model answers. -/
structure PMOut (w w' : World) (b : Nat) (r : ParsedS) (e : Ending) (v : Value) : Prop where
  e : e = .returned (.agg #[.int .i64 (r.err : Nat), .int .i64 (r.pos : Nat), v])
  own : OwnI w' w.heap.size v r.flat
  tight : TightV v r.flat.length
  pm : PMAt w' b
  fr : Fr [b] w w'

set_option maxRecDepth 100000 in
set_option maxHeartbeats 16000000 in
theorem parseM_any {w : World} {b : Nat} (h : PMAt w b) (s : ByteArray) (hs : s.size ≤ maxLen) :
    Calls Tryz.prog 34 #[.pointer (some ⟨b, 0, none⟩), .string s] w fun e w' => ∃ v, PMOut w w' b (parseM (bytesOf s)) e v := by
  unfold maxLen at hs
  have hpf : parseM (bytesOf s) = if 1048576 < s.size then ⟨1, 0, []⟩ else parseMLoop (s.size + 1) (bytesOf s) 0 [] [] false false := by unfold parseM; rw [bytesOf_len]
  obtain ⟨res, hres⟩ : ∃ r, parseM (bytesOf s) = r := ⟨_, rfl⟩
  rw [hres] at hpf ⊢
  have HH := hid h
  obtain ⟨⟨x0, y0, h0, h1⟩, hfz⟩ := h
  obtain ⟨N, hN⟩ : ∃ N, w.heap.size = N := ⟨_, rfl⟩
  have hC0 := CellsAt.mk_alloc w [.int .i64 0, .int .i64 0, .slice none 0 0] 86
  obtain ⟨w0, hw0⟩ : ∃ w0, w.alloc (Obj.cells #[.int .i64 0, .int .i64 0, .slice none 0 0] 86) = w0 := ⟨_, rfl⟩
  change CellsAt (w.alloc (Obj.cells #[.int .i64 0, .int .i64 0, .slice none 0 0] 86)) w.heap.size _ at hC0
  rw [hw0, hN] at hC0
  have hf0 : Fr [] w w0 := by rw [← hw0]; exact (Fr.refl _ _).alloc _
  have hs0 : w0.heap.size = N + 1 := by rw [← hw0]; simp [hN]
  have hbN : b < N := by rw [← hN]; exact HH.out.lt
  have k0 := hf0.cell h0 (by simp)
  have k1 := hf0.cell h1 (by simp)
  have kz : ∀ i, w0.frozen? ⟨b, i, none⟩ = false := fun i => (hf0.froz HH.out.lt (by simp)).trans (hfz i)
  have HC0 := hid hC0
  have HF0 := hid hf0
  have HS0 := hid hs0
  have HN := hid hN
  have HBN := hid hbN
  have HNS : Hid (¬ N < w.heap.size) := by show ¬ _; rw [hN]; omega
  have hbNe : ¬ b = N := by omega
  have hNbe : ¬ N = b := by omega
  clear hC0 hf0 hs0 hbN h0 h1 hfz
  have hf1 : Fr [b] w (w0.setCell ⟨b, 0, none⟩ (.int .i64 (wrap64 (x0 + 1)))) := (HF0.out.mono (by simp)).set (by simp) _
  have hp1 : PMAt (w0.setCell ⟨b, 0, none⟩ (.int .i64 (wrap64 (x0 + 1)))) b := (HH.out.fr HF0.out (by simp)).set0 _
  have hc1 := HC0.out.fr (S := [b]) ((Fr.refl _ _).set (p := ⟨b, 0, none⟩) (by simp) (.int .i64 (wrap64 (x0 + 1)))) (by simp; omega) (by simp)
  obtain ⟨w1, hw1⟩ : ∃ w1, w0.setCell ⟨b, 0, none⟩ (.int .i64 (wrap64 (x0 + 1))) = w1 := ⟨_, rfl⟩
  have hsz1 : w1.heap.size = N + 1 := by rw [← hw1]; simp [World.setCell]; exact HS0.out
  rw [hw1] at hf1 hp1 hc1
  have HF1 := hid hf1
  have HP1 := hid hp1
  have HC1 := hid hc1
  have HW1 := hid hw1
  have HSZ1 := hid hsz1
  clear hf1 hp1 hsz1
  by_cases hbig : 1048576 < s.size
  · rw [if_pos hbig] at hpf
    have hbi : (1048576 : Int) < s.size := by omega
    have c0 := hc1.c 0 _ rfl
    have c1 := hc1.c 1 _ rfl
    have c2 := hc1.c 2 _ rfl
    have fz := hc1.fz
    have HP := hid hpf
    clear hpf hbig hres hc1
    refine calls_via fun K hK => ?_
    go_enter Tryz.func34, Tryz.ntmps34
    have hcE := HC1.out.fr (Fr.refl [b] _) (by have := HBN.out; simp; omega) (by simp)
    have c0 := hcE.c 0 _ rfl
    have c1 := hcE.c 1 _ rfl
    have c2 := hcE.c 2 _ rfl
    have fz := hcE.fz
    have HFE : Hid (Fr [b] w w1) := HF1.out
    have HPE : Hid (PMAt w1 b) := HP1.out
    clear hcE
    go_wp2_with fail
    try simp only [Exit.inBlock, Exit.then]
    refine bodyPost_ret (v := .agg #[.int .i64 1, .int .i64 0, .slice none 0 0]) (by simp [results, Tryz.results34, go_sem, cellSet, c0, c1, c2]) rfl ?_
    have hfz := (((Fr.refl [N] w1).set (p := ⟨N, 0, none⟩) (by simp) (.int .i64 1)).set (p := ⟨N, 1, none⟩) (by simp) (.int .i64 0)).set (p := ⟨N, 2, none⟩) (by simp) (.slice none 0 0)
    refine hK.out _ _ ⟨.slice none 0 0, (by rw [HP.out]; rfl), by rw [HP.out]; exact OwnI.nil _ _, by rw [HP.out]; exact .inl ⟨rfl, rfl⟩, HPE.out.fr hfz (by have := HBN.out; simp; omega), HFE.out.trans2 hfz (fun y hy hlt => by simp at hy; exact absurd (hy ▸ hlt) HNS.out)⟩
  · rw [if_neg hbig] at hpf
    have hbi : ¬ (1048576 : Int) < s.size := by omega
    have hsz : s.size ≤ 1048576 := by omega
    have hszi : (s.size : Int) ≤ 1048576 := by omega
    have hlen := bytesOf_len s
    obtain ⟨B, hB⟩ : ∃ B, bytesOf s = B := ⟨_, rfl⟩
    rw [hB] at hpf hlen
    have HP := hid hpf
    have HB := hid hB
    have HLN := hid hlen
    clear hpf hbig hres hB hlen hc1
    refine calls_via fun K hK => ?_
    go_enter Tryz.func34, Tryz.ntmps34
    go_wp2_with fail
    clear hw1 hw0 hN k0 k1 kz hbNe hNbe
    go_loopg [5, 6, 7, 8, 9] (s.size + 1) (fun g fv rv dv ov iv wr => ∃ (i : Nat) (flat row : List Int) (del opn : Bool), i ≤ s.size ∧ s.size - i < g ∧ iv = .int .i64 (i : Int) ∧ dv = .bool del ∧ ov = .bool opn ∧ OwnI wr (N + 1) fv flat ∧ OwnI wr (N + 1) rv row ∧
      (∀ q, fv.ownBlock = some q → rv.ownBlock ≠ some q) ∧ flat.length ≤ 26 * i ∧ row.length ≤ i ∧ Fr [b] w1 wr ∧ PMAt wr b ∧ res = parseMLoop g (B.drop i) i flat row del opn)
    case atStart => exact ⟨0, [], [], false, false, by omega, by omega, rfl, rfl, rfl, OwnI.nil _ _, OwnI.nil _ _, by simp [Value.ownBlock], by simp, by simp, Fr.refl _ _, HP1.out, by rw [HP.out]; rfl⟩
    case round =>
      obtain ⟨i, flat, row, del, opn, hi, hgi, rfl, rfl, rfl, hof, hor, hap, hfl, hrl, hf, hpm, he⟩ := hrel
      obtain ⟨fv, hfv⟩ : ∃ x, u5 = x := ⟨_, rfl⟩
      obtain ⟨rv, hrv⟩ : ∃ x, u6 = x := ⟨_, rfl⟩
      rw [hfv] at hof hap ⊢
      rw [hrv] at hor hap ⊢
      clear hfv hrv
      obtain ⟨g, rfl⟩ : ∃ g, gk = g + 1 := ⟨gk - 1, by omega⟩
      have hii : (i : Int) ≤ s.size := by omega
      have hii0 : (0 : Int) ≤ i := by omega
      have HOF := hid hof
      have HOR := hid hor
      have HAP := hid hap
      have HFL := hid hfl
      have HRL := hid hrl
      have HF := hid hf
      have HPM := hid hpm
      have HGI := hid hgi
      have HI := hid hi
      have HSZW : Hid (N + 1 ≤ wr.heap.size) := by show _ ≤ _; have := hf.size; rw [HSZ1.out] at this; exact this
      clear hof hor hap hfl hrl hf hpm hgi
      by_cases hend : i < s.size
      · have hei : (i : Int) < s.size := by omega
        obtain ⟨c, hcd⟩ : ∃ c, B.getD i 0 = c := ⟨_, rfl⟩
        have hdc : B.drop i = c :: B.drop (i + 1) := by rw [← hcd, ← HB.out, bytesOf_drop s hend, byteAt]
        have hsc := byteAt s hend
        rw [HB.out, hcd] at hsc
        have hc256 := byte_lt s i
        rw [HB.out, hcd] at hc256
        rw [hdc, parseML_cons, ← hdc] at he
        have HDC := hid hdc
        have HSP := hid (fun w => space_any c hc256 w)
        have hci : (c : Int) < 256 := by omega
        have HCD := hid hcd
        have HEND := hid hend
        have HC256 := hid hc256
        clear hcd hdc hc256
        obtain ⟨sp, hsp⟩ : ∃ x, spaceB c = x := ⟨_, rfl⟩
        rw [hsp] at he HSP
        have HSPB := hid hsp
        cases sp with
        | true =>
          rw [if_pos rfl] at he
          have HE := hid he
          clear he hsp hi
          go_wp2_with (first | (go_at_call 61; refine (HSP.out _).mono ?_; rintro e w' ⟨rfl, hw⟩; have hw2 := hw.symm; subst hw2; clear hw))
          go_roundg g
          case measure => omega
          case rel =>
            exact ⟨i + 1, flat, row, del, opn, by have := HEND.out; omega, by have := HGI.out; have := HEND.out; omega, by simp, rfl, rfl, HOF.out, HOR.out, HAP.out, by have := HFL.out; omega, by have := HRL.out; omega, HF.out, HPM.out, HE.out⟩
        | false =>
          rw [if_neg (by simp)] at he
          by_cases h99 : c = 99
          · rw [if_pos h99] at he
            have hb1 : ((c : Int) == 99) = true := by simp [h99]
            have HE := hid he
            clear he hsp h99 hi
            go_wp2_with (first | (go_at_call 61; refine (HSP.out _).mono ?_; rintro e w' ⟨rfl, hw⟩; have hw2 := hw.symm; subst hw2; clear hw))
            go_loopg [9] s.size (fun h iv wi => ∃ q, i + q ≤ s.size ∧ s.size - (i + q) ≤ h ∧ iv = .int .i64 ((i + q : Nat) : Int) ∧ (∀ j, j < q → B.getD (i + j) 0 ≠ 10) ∧ ∃ n, wi = wr.drewN n)
            case atStart => exact ⟨0, by have := HEND.out; omega, by omega, by simp, by intro j hj; omega, 0, rfl⟩
            case round =>
              obtain ⟨q, hq, hqk, rfl, hno, n, rfl⟩ := hrel
              obtain ⟨J, hJ⟩ : ∃ J, i + q = J := ⟨_, rfl⟩
              rw [hJ] at hq hqk ⊢
              have HNO := hid hno
              have HJ := hid hJ
              have HQK := hid hqk
              clear hno hJ hqk
              have hJ0 : (0 : Int) ≤ J := by omega
              by_cases hend2 : J < s.size
              · have hei2 : (J : Int) < s.size := by omega
                have hsd := byteAt s hend2
                rw [HB.out] at hsd
                obtain ⟨d, hdd⟩ : ∃ d, B.getD J 0 = d := ⟨_, rfl⟩
                rw [hdd] at hsd
                have HDD := hid hdd
                clear hdd
                by_cases h10 : d = 10
                · have hb10 : ((d : Int) != 10) = false := by simp [h10]
                  have hq1 : 1 ≤ q := by
                    apply Nat.one_le_iff_ne_zero.2
                    intro e
                    have h1 := HDD.out
                    have h2 := HCD.out
                    rw [← HJ.out, e, Nat.add_zero, h2] at h1
                    have : (c : Int) = 99 := by simpa using hb1
                    omega
                  have htw : (List.takeWhile (fun c => c != 10) (B.drop i)).length = q := by
                    refine takeWhile_len (by rw [List.length_drop, HLN.out]; have := HJ.out; omega) (fun j hj => ?_) (.inr ?_)
                    · rw [drop_getD]; simpa using HNO.out j hj
                    · rw [drop_getD, HJ.out, HDD.out, h10]; rfl
                  have hE2 := HE.out
                  rw [htw, List.drop_drop, HJ.out] at hE2
                  have HE2 := hid hE2
                  have HQ1 := hid hq1
                  clear h10 hE2 htw hq1
                  go_wp2_with fail
                  go_roundg g
                  case measure => omega
                  case rel => exact ⟨J, flat, row, del, opn, by omega, by have := HGI.out; have := HJ.out; have := HQ1.out; have := HEND.out; omega, rfl, rfl, rfl, HOF.out.drewN, HOR.out.drewN, HAP.out, by have := HFL.out; have := HJ.out; omega, by have := HRL.out; have := HJ.out; omega, HF.out.drewN, HPM.out.fr (Fr.of_drewN []) (by simp), HE2.out⟩
                · have hb10 : ((d : Int) != 10) = true := by simp; omega
                  have HN10 := hid h10
                  clear h10
                  go_wp2_with fail
                  go_roundg (gk - 1)
                  case measure => have := HQK.out; omega
                  case rel =>
                    refine ⟨q + 1, by have := HJ.out; omega, by have := HJ.out; have := HQK.out; omega, by rw [← Nat.add_assoc, HJ.out]; simp, fun j hj => ?_, _, by first | rfl | exact World.drewN_drewN _ _ _⟩
                    by_cases e : j = q
                    · subst e; rw [HJ.out, HDD.out]; exact HN10.out
                    · exact HNO.out j (by omega)
              · have hei2 : ¬ (J : Int) < s.size := by omega
                have hJs : J = s.size := by omega
                have htw : (List.takeWhile (fun c => c != 10) (B.drop i)).length = q := by
                  refine takeWhile_len (by rw [List.length_drop, HLN.out]; have := HJ.out; omega) (fun j hj => ?_) (.inl ?_)
                  · rw [drop_getD]; simpa using HNO.out j hj
                  · rw [List.length_drop, HLN.out]; have := HJ.out; omega
                have hE2 := HE.out
                rw [htw, List.drop_drop, HJ.out] at hE2
                have HE2 := hid hE2
                have HJS := hid hJs
                clear hE2 htw hend2 hJs
                go_wp2_with fail
                go_roundg g
                case measure => omega
                case rel => exact ⟨J, flat, row, del, opn, by omega, by have := HGI.out; have := HJ.out; have := HJS.out; have := HEND.out; omega, rfl, rfl, rfl, HOF.out.drewN, HOR.out.drewN, HAP.out, by have := HFL.out; have := HJ.out; omega, by have := HRL.out; have := HJ.out; omega, HF.out.drewN, HPM.out.fr (Fr.of_drewN []) (by simp), HE2.out⟩
          · rw [if_neg h99] at he
            have hb1 : ((c : Int) == 99) = false := by simp; omega
            have HE := hid he
            clear he hsp h99 hi
            go_wp2_with (first | (go_at_call 61; refine (HSP.out _).mono ?_; rintro e w' ⟨rfl, hw⟩; have hw2 := hw.symm; subst hw2; clear hw))
            go_loopg [10] s.size (fun h jv wi => ∃ q, i + q ≤ s.size ∧ s.size - (i + q) ≤ h ∧ jv = .int .i64 ((i + q : Nat) : Int) ∧ (∀ j, j < q → spaceB (B.getD (i + j) 0) = false) ∧ ∃ n, wi = wr.drewN n)
            case atStart => exact ⟨0, by have := HEND.out; omega, by omega, by simp, by intro j hj; omega, 0, rfl⟩
            case round =>
              obtain ⟨q, hq, hqk, rfl, hno, n, rfl⟩ := hrel
              obtain ⟨J, hJ⟩ : ∃ J, i + q = J := ⟨_, rfl⟩
              rw [hJ] at hq hqk ⊢
              have HNO := hid hno
              have HJ := hid hJ
              have HQK := hid hqk
              clear hno hJ hqk
              have hJ0 : (0 : Int) ≤ J := by omega
              have hJs : (J : Int) ≤ s.size := by omega
              by_cases hgo : J < s.size ∧ spaceB (B.getD J 0) = false
              · have hend2 := hgo.1
                have hei2 : (J : Int) < s.size := by omega
                have hsd := byteAt s hend2
                rw [HB.out] at hsd
                have hd256 := byte_lt s J
                rw [HB.out] at hd256
                have hsb := hgo.2
                obtain ⟨d, hdd⟩ : ∃ d, B.getD J 0 = d := ⟨_, rfl⟩
                rw [hdd] at hsd hd256 hsb
                have HDD := hid hdd
                have HSD := hid (fun w => space_any d hd256 w)
                rw [hsb] at HSD
                have HSB := hid hsb
                clear hdd hgo hd256 hsb
                go_wp2_with (first | (go_at_call 61; refine (HSD.out _).mono ?_; rintro e w' ⟨rfl, hw⟩; have hw2 := hw.symm; subst hw2; clear hw))
                go_roundg (gk - 1)
                case measure => have := HQK.out; omega
                case rel =>
                  refine ⟨q + 1, by have := HJ.out; omega, by have := HJ.out; have := HQK.out; omega, by rw [← Nat.add_assoc, HJ.out]; simp, fun j hj => ?_, _, by first | rfl | exact World.drewN_drewN _ _ _⟩
                  by_cases e : j = q
                  · subst e; rw [HJ.out, HDD.out]; exact HSB.out
                  · exact HNO.out j (by omega)
              · -- the token's end
                have hq1 : 1 ≤ q := by
                  apply Nat.one_le_iff_ne_zero.2
                  intro e
                  apply hgo
                  rw [← HJ.out, e, Nat.add_zero]
                  exact ⟨HEND.out, by rw [HCD.out]; exact HSPB.out⟩
                have htw : (List.takeWhile (fun c => !spaceB c) (B.drop i)).length = q := by
                  refine takeWhile_len (by rw [List.length_drop, HLN.out]; have := HJ.out; omega) (fun j hj => ?_) ?_
                  · rw [drop_getD, HNO.out j hj]; rfl
                  · by_cases hl : J < s.size
                    · right
                      rw [drop_getD, HJ.out]
                      cases hb : spaceB (B.getD J 0) with
                      | true => rfl
                      | false => exact absurd ⟨hl, hb⟩ hgo
                    · left; rw [List.length_drop, HLN.out]; have := HJ.out; omega
                have hE2 := HE.out
                rw [htw, List.drop_drop, HJ.out] at hE2
                have HE2 := hid hE2
                have HQ1 := hid hq1
                have hij : (i : Int) < J := by have := HJ.out; omega
                have HORD := hid (HOR.out.drewN (n := n))
                have HOFD := hid (HOF.out.drewN (n := n))
                have HFD : Hid (Fr [b] w1 (wr.drewN n)) := HF.out.drewN
                have HPMD : Hid (PMAt (wr.drewN n) b) := HPM.out.fr (Fr.of_drewN []) (by simp)
                have HSPD : Hid (J < s.size → ∃ d, (∃ h : J < s.size, (s[J]'h).toNat = d) ∧ d < 256 ∧ spaceB d = true) := by
                  intro hl
                  have hd256 := byte_lt s J
                  refine ⟨(bytesOf s).getD J 0, ⟨hl, byteAt s hl⟩, hd256, ?_⟩
                  rw [HB.out]
                  cases hb : spaceB (B.getD J 0) with
                  | true => rfl
                  | false => exact absurd ⟨hl, hb⟩ hgo
                clear hE2 htw hq1 hgo
                -- the exit's test
                have HX : Hid True := trivial
                obtain ⟨wd, hwd⟩ : ∃ x, wr.drewN n = x := ⟨_, rfl⟩
                by_cases hl : J < s.size
                · obtain ⟨d, ⟨_, hsd⟩, hd256, hsb⟩ := HSPD.out hl
                  have hei2 : (J : Int) < s.size := by omega
                  have HSD := hid (fun w => space_any d hd256 w)
                  rw [hsb] at HSD
                  clear hsb hd256 hwd
                  by_cases h100 : c = 100
                  · have hb100 : ((c : Int) == 100) = true := by simp [h100]
                    have hE3 := HE2.out
                    rw [if_pos h100] at hE3
                    cases opn with
                    | true =>
                      rw [if_pos rfl] at hE3
                      have HR3 : Hid (res = ⟨2, i, []⟩) := hE3
                      clear hE3 h100
                      have HFR0 : Hid (Fr [b] w1 (wr.drewN n)) := HFD.out
                      have hcE := HC1.out.fr HFR0.out (by have := HBN.out; simp; omega) (by simp)
                      have c0 := hcE.c 0 _ rfl
                      have c1 := hcE.c 1 _ rfl
                      have c2 := hcE.c 2 _ rfl
                      have fz := hcE.fz
                      have HFE : Hid (Fr [b] w (wr.drewN n)) := HF1.out.trans HFR0.out
                      have HPE : Hid (PMAt (wr.drewN n) b) := HPMD.out
                      clear hcE
                      go_wp2_with (first | (go_at_call 61; refine (HSD.out _).mono ?_; rintro e w' ⟨rfl, hw⟩; have hw2 := hw.symm; subst hw2; clear hw))
                      try simp only [Exit.inBlock, Exit.then]
                      refine bodyPost_ret (v := .agg #[.int .i64 2, .int .i64 (i : Nat), .slice none 0 0]) (by simp [results, Tryz.results34, go_sem, cellSet, c0, c1, c2]) rfl ?_
                      have hfz := (((Fr.refl [N] (wr.drewN n)).set (p := ⟨N, 0, none⟩) (by simp) (.int .i64 2)).set (p := ⟨N, 1, none⟩) (by simp) (.int .i64 (i : Nat))).set (p := ⟨N, 2, none⟩) (by simp) (.slice none 0 0)
                      refine hK.out _ _ ⟨.slice none 0 0, (by rw [HR3.out]; rfl), by rw [HR3.out]; exact OwnI.nil _ _, by rw [HR3.out]; exact .inl ⟨rfl, rfl⟩, HPE.out.fr hfz (by have := HBN.out; simp; omega), HFE.out.trans2 hfz (fun y hy hlt => by simp at hy; exact absurd (hy ▸ hlt) HNS.out)⟩
                    | false =>
                      rw [if_neg (by simp)] at hE3
                      by_cases hm1 : 1 < q
                      · have hm1i : (1 : Int) < (J : Int) - (i : Int) := by have := HJ.out; omega
                        rw [if_pos hm1] at hE3
                        have HR3 : Hid (res = ⟨2, i + 1, []⟩) := hE3
                        clear hE3 h100 hm1
                        have HFR0 : Hid (Fr [b] w1 (wr.drewN n)) := HFD.out
                        have hcE := HC1.out.fr HFR0.out (by have := HBN.out; simp; omega) (by simp)
                        have c0 := hcE.c 0 _ rfl
                        have c1 := hcE.c 1 _ rfl
                        have c2 := hcE.c 2 _ rfl
                        have fz := hcE.fz
                        have HFE : Hid (Fr [b] w (wr.drewN n)) := HF1.out.trans HFR0.out
                        have HPE : Hid (PMAt (wr.drewN n) b) := HPMD.out
                        clear hcE
                        go_wp2_with (first | (go_at_call 61; refine (HSD.out _).mono ?_; rintro e w' ⟨rfl, hw⟩; have hw2 := hw.symm; subst hw2; clear hw))
                        try simp only [Exit.inBlock, Exit.then]
                        refine bodyPost_ret (v := .agg #[.int .i64 2, .int .i64 ((i : Int) + 1), .slice none 0 0]) (by simp [results, Tryz.results34, go_sem, cellSet, c0, c1, c2]) rfl ?_
                        have hfz := (((Fr.refl [N] (wr.drewN n)).set (p := ⟨N, 0, none⟩) (by simp) (.int .i64 2)).set (p := ⟨N, 1, none⟩) (by simp) (.int .i64 ((i : Int) + 1))).set (p := ⟨N, 2, none⟩) (by simp) (.slice none 0 0)
                        refine hK.out _ _ ⟨.slice none 0 0, (by rw [HR3.out]; simp), by rw [HR3.out]; exact OwnI.nil _ _, by rw [HR3.out]; exact .inl ⟨rfl, rfl⟩, HPE.out.fr hfz (by have := HBN.out; simp; omega), HFE.out.trans2 hfz (fun y hy hlt => by simp at hy; exact absurd (hy ▸ hlt) HNS.out)⟩
                      · have hm1i : ¬ (1 : Int) < (J : Int) - (i : Int) := by have := HJ.out; omega
                        rw [if_neg hm1] at hE3
                        have HR3 := hid hE3
                        clear hE3 h100 hm1
                        go_wp2_with (first | (go_at_call 61; refine (HSD.out _).mono ?_; rintro e w' ⟨rfl, hw⟩; have hw2 := hw.symm; subst hw2; clear hw))
                        go_roundg g
                        case measure => omega
                        case rel => exact ⟨J, flat, row, true, true, by omega, by have := HGI.out; have := HJ.out; have := HQ1.out; have := HEND.out; omega, rfl, rfl, rfl, HOFD.out, HORD.out, HAP.out, by have := HFL.out; have := HJ.out; omega, by have := HRL.out; have := HJ.out; omega, HFD.out, HPMD.out, HR3.out⟩
                  · have hb100 : ((c : Int) == 100) = false := by simp; omega
                    have hE3 := HE2.out
                    rw [if_neg h100] at hE3
                    have HNM := hid (fun w => number_any2 s i J (by omega) (by omega) hsz w)
                    rw [HB.out, show J - i = q from by have := HJ.out; omega] at HNM
                    have hv13 := numberM_le ((B.drop i).take q) i
                    obtain ⟨nm, hnm⟩ : ∃ x, numberM ((B.drop i).take q) i = x := ⟨_, rfl⟩
                    rw [hnm] at hE3 HNM hv13
                    obtain ⟨v, neg, e, at_⟩ := nm
                    simp only [] at hE3 HNM hv13
                    have hvi : (v : Int) ≤ 13 := by omega
                    clear hnm h100
                    by_cases he0 : e = 0
                    · have hbe : ((e : Int) != 0) = false := by simp [he0]
                      rw [if_pos he0] at hE3
                      by_cases hv0 : v = 0
                      · have hbv : ((v : Int) != 0) = false := by simp [hv0]
                        rw [if_pos hv0] at hE3
                        have HR3 := hid hE3
                        clear hE3 he0 hv0
                        have HNO2 := hid (fun m => norm_any ((HOR.out.drewN (n := m)).ints) (by have := HRL.out; omega))
                        have hrl := rowM_len del row
                        obtain ⟨nmr, hnmr⟩ : ∃ x, normM row 12 1 = x := ⟨_, rfl⟩
                        have hrm : rowM del row = rowOpt del nmr := by rw [rowM_opt, hnmr]
                        rw [hnmr] at HNO2
                        have HRL2 := hid hrl
                        have HRM := hid hrm
                        clear hrl hrm hnmr
                        go_wp2_with (first | (go_at_call 61; refine (HSD.out _).mono ?_; rintro e w' ⟨rfl, hw⟩; have hw2 := hw.symm; subst hw2; clear hw) | (go_at_call 62; refine (HNM.out _).mono ?_; rintro e w' ⟨rfl, n2, hw⟩; have hw2 := hw; subst hw2; clear hw))
                        refine (HNO2.out _).mono ?_
                        rintro e3 w3 ⟨hno, hf3⟩
                        have hdf : Fr [] wr w3 := ((Fr.refl [] wr).drewN).trans hf3
                        have HO3 : Hid (OwnI w3 (N + 1) fv flat) := HOF.out.fr hdf (by simp)
                        have HF3 : Hid (Fr [b] w1 w3) := HF.out.trans (hdf.mono (by simp))
                        have HP3 : Hid (PMAt w3 b) := HPM.out.fr hdf (by simp)
                        have HSZ3 : Hid (N + 1 ≤ w3.heap.size) := by show _ ≤ _; have := hdf.size; have := HSZW.out; omega
                        have hflt : ∀ q, fv.ownBlock = some q → q < wr.heap.size := HOF.out.lt
                        have HFLT := hid hflt
                        clear hflt hdf
                        cases nmr with
                        | none =>
                          have hno2 : e3 = .returned (.tuple #[.slice none 0 0, .bool false]) := hno
                          subst hno2
                          have HR4 : Hid (res = parseMLoop g (B.drop J) J flat [] false false) := by show _ = _; rw [HR3.out, HRM.out]; simp [rowOpt]
                          clear hno hf3
                          go_wp2_with fail
                          go_roundg g
                          case measure => omega
                          case rel => exact ⟨J, flat, [], false, false, by omega, by have := HGI.out; have := HJ.out; have := HQ1.out; have := HEND.out; omega, rfl, rfl, rfl, HO3.out, OwnI.nil _ _, by simp [Value.ownBlock], by have := HFL.out; have := HJ.out; omega, by simp, HF3.out, HP3.out, HR4.out⟩
                        | some nn =>
                          obtain ⟨nv, rfl, hon⟩ : ∃ nv, e3 = .returned (.tuple #[nv, .bool true]) ∧ OwnI w3 (wr.drewN (n + n2)).heap.size nv nn := hno
                          have HON := hid hon
                          have HNB : Hid (∀ q, nv.ownBlock = some q → q ∉ blk fv) := fun q hq hm => by have h1 := hon.base q hq; have h2 := HFLT.out q (mem_blk.1 hm); simp at h1; omega
                          have HNLT : Hid (∀ q, nv.ownBlock = some q → q < w3.heap.size) := hon.lt
                          obtain ⟨na, nc, nd, rfl⟩ := hon.sl
                          have HNNL : Hid (nn.length ≤ 26) := by show _ ≤ _; have := HRL2.out; rw [HRM.out, rowOpt_some] at this; simp only [List.length_append] at this; omega
                          clear hf3 hon
                          cases del with
                          | true =>
                            have HR4 : Hid (res = parseMLoop g (B.drop J) J (((flat ++ [13]) ++ nn) ++ [0]) [] false false) := by show _ = _; rw [HR3.out, HRM.out]; simp [rowOpt]
                            go_wp2_with (first | (at_builtin; refine wp_app_at rfl _ _ rfl (N + 1) fv (flat) rfl (HO3.out.alloc _) (.slice (some ⟨w3.heap.size, 0, none⟩) 1 1) [13] rfl (ints_oneN (by simp) _ _) (by have := HFL.out; have := HNNL.out; simp; omega) (by have := HSZ3.out; have := HSZ3.out; simp; omega) ?_; intro v4 w4 ho4 hg4 hnil4 hat4; have HO4 := hid ho4; have HFF4 := hid (fr_app _ hg4); have hsz4 := (fr_app _ hg4).size; have HSS4 : Hid (w3.heap.size ≤ w4.heap.size) := (by show _ ≤ _; have := HSZ3.out; omega); have HI4 : Hid (Ints w4 (.slice na nc nd) nn) := HON.out.ints.fr HFF4.out HNB.out; clear ho4 hg4 hnil4 hat4 hsz4) | (at_builtin; refine wp_app_at rfl _ _ rfl (N + 1) v4 (flat ++ [13]) rfl HO4.out (.slice na nc nd) nn rfl (HI4.out) (by have := HFL.out; have := HNNL.out; simp; omega) (by have := HSZ3.out; have := HSS4.out; omega) ?_; intro v5 w5 ho5 hg5 hnil5 hat5; have HO5 := hid ho5; have HFF5 := hid (fr_app0 hg5); have hsz5 := (fr_app0 hg5).size; have HSS5 : Hid (w3.heap.size ≤ w5.heap.size) := (by show _ ≤ _; have := HSS4.out; omega); clear ho5 hg5 hnil5 hat5 hsz5) | (at_builtin; refine wp_app_at rfl _ _ rfl (N + 1) v5 (flat ++ [13] ++ nn) rfl (HO5.out.alloc _) (.slice (some ⟨w5.heap.size, 0, none⟩) 1 1) [0] rfl (ints_oneN (by simp) _ _) (by have := HFL.out; have := HNNL.out; simp; omega) (by have := HSZ3.out; have := HSS5.out; simp; omega) ?_; intro v6 w6 ho6 hg6 hnil6 hat6; have HO6 := hid ho6; have HFF6 := hid (fr_app _ hg6); have hsz6 := (fr_app _ hg6).size; have HSS6 : Hid (w3.heap.size ≤ w6.heap.size) := (by show _ ≤ _; have := HSS5.out; omega); clear ho6 hg6 hnil6 hat6 hsz6))
                            obtain ⟨p1, p2⟩ := app_keep HSZ1.out HBN.out HF3.out HP3.out HO3.out HFF4.out
                            obtain ⟨p3, p4⟩ := app_keep HSZ1.out HBN.out p1 p2 HO4.out HFF5.out
                            obtain ⟨p5, p6⟩ := app_keep HSZ1.out HBN.out p3 p4 HO5.out HFF6.out
                            have P5 := hid p5
                            have P6 := hid p6
                            clear p1 p2 p3 p4 p5 p6
                            go_roundg g
                            case measure => omega
                            case rel => exact ⟨J, flat ++ [13] ++ nn ++ [0], [], false, false, by omega, by have := HGI.out; have := HJ.out; have := HQ1.out; have := HEND.out; omega, rfl, rfl, rfl, HO6.out, OwnI.nil _ _, by simp [Value.ownBlock], by have h1 := HRL2.out; rw [HRM.out, rowOpt_some] at h1; have := HFL.out; have := HJ.out; have := HQ1.out; simp at h1 ⊢; omega, by simp, P5.out, P6.out, HR4.out⟩
                          | false =>
                            have HR4 : Hid (res = parseMLoop g (B.drop J) J ((flat ++ nn) ++ [0]) [] false false) := by show _ = _; rw [HR3.out, HRM.out]; simp [rowOpt]
                            go_wp2_with (first | (at_builtin; refine wp_app_at rfl _ _ rfl (N + 1) fv (flat) rfl HO3.out (.slice na nc nd) nn rfl (HON.out.ints) (by have := HFL.out; have := HNNL.out; simp; omega) (by have := HSZ3.out; have := HSZ3.out; omega) ?_; intro v5 w5 ho5 hg5 hnil5 hat5; have HO5 := hid ho5; have HFF5 := hid (fr_app0 hg5); have hsz5 := (fr_app0 hg5).size; have HSS5 : Hid (w3.heap.size ≤ w5.heap.size) := (by show _ ≤ _; have := HSZ3.out; omega); clear ho5 hg5 hnil5 hat5 hsz5) | (at_builtin; refine wp_app_at rfl _ _ rfl (N + 1) v5 (flat ++ nn) rfl (HO5.out.alloc _) (.slice (some ⟨w5.heap.size, 0, none⟩) 1 1) [0] rfl (ints_oneN (by simp) _ _) (by have := HFL.out; have := HNNL.out; simp; omega) (by have := HSZ3.out; have := HSS5.out; simp; omega) ?_; intro v6 w6 ho6 hg6 hnil6 hat6; have HO6 := hid ho6; have HFF6 := hid (fr_app _ hg6); have hsz6 := (fr_app _ hg6).size; have HSS6 : Hid (w3.heap.size ≤ w6.heap.size) := (by show _ ≤ _; have := HSS5.out; omega); clear ho6 hg6 hnil6 hat6 hsz6))
                            obtain ⟨p3, p4⟩ := app_keep HSZ1.out HBN.out HF3.out HP3.out HO3.out HFF5.out
                            obtain ⟨p5, p6⟩ := app_keep HSZ1.out HBN.out p3 p4 HO5.out HFF6.out
                            have P5 := hid p5
                            have P6 := hid p6
                            clear p3 p4 p5 p6
                            go_roundg g
                            case measure => omega
                            case rel => exact ⟨J, flat ++ nn ++ [0], [], false, false, by omega, by have := HGI.out; have := HJ.out; have := HQ1.out; have := HEND.out; omega, rfl, rfl, rfl, HO6.out, OwnI.nil _ _, by simp [Value.ownBlock], by have h1 := HRL2.out; rw [HRM.out, rowOpt_some] at h1; have := HFL.out; have := HJ.out; have := HQ1.out; simp at h1 ⊢; omega, by simp, P5.out, P6.out, HR4.out⟩
                      · have hbv : ((v : Int) != 0) = true := by simp; omega
                        rw [if_neg hv0] at hE3
                        cases neg with
                        | true =>
                          have HR3 : Hid (res = parseMLoop g (B.drop J) J flat (row ++ [(-(v : Int))]) del true) := hE3
                          clear hE3 he0 hv0
                          go_wp2_with (first | (go_at_call 61; refine (HSD.out _).mono ?_; rintro e w' ⟨rfl, hw⟩; have hw2 := hw.symm; subst hw2; clear hw) | (go_at_call 62; refine (HNM.out _).mono ?_; rintro e w' ⟨rfl, n2, hw⟩; have hw2 := hw; subst hw2; clear hw) | (at_builtin; refine wp_app_at rfl _ _ rfl (N + 1) rv row rfl (by first | with_reducible exact HOR.out.drewN.alloc _ | with_reducible exact HORD.out.drewN.alloc _) (.slice (some ⟨wr.heap.size, 0, none⟩) 1 1) [(-(v : Int))] rfl (ints_oneN (by simp) _ _) (by have := HRL.out; simp; omega) (by have := HSZW.out; simp; omega) ?_; intro v' w2 ho2 hg2 hnil2 hat2; have hf2 : Fr (blk rv) wr w2 := (((Fr.refl (blk rv) wr).drewN (n := n + n2)).alloc _).trans ((Fr.refl (blk rv) _).grown hg2 (fun k hk _ => mem_blk.2 hk)); have HF2 := hid hf2; have HO2 := hid ho2; have HNX : Hid (Nx wr rv v') := (by intro q hq; rcases hat2 with e | e; (left; rw [← e]; exact hq); (right; rw [e] at hq; injection hq with hq; simp at hq; omega)); clear ho2 hg2 hnil2 hat2 hf2))
                          go_roundg g
                          case measure => omega
                          case rel =>
                            refine ⟨J, flat, row ++ [(-(v : Int))], del, true, by omega, by have := HGI.out; have := HJ.out; have := HQ1.out; have := HEND.out; omega, rfl, rfl, rfl, HOF.out.fr HF2.out (fun q hq hm => HAP.out q hq (mem_blk.1 hm)), HO2.out, ?_, by have := HFL.out; have := HJ.out; omega, by have := HRL.out; have := HJ.out; have := HQ1.out; simp; omega, ?_, HPM.out.fr HF2.out (fun hm => by have := HOR.out.base _ (mem_blk.1 hm); have := HBN.out; omega), HR3.out⟩
                            · intro q hq e
                              rcases HNX.out q e with z | z
                              · exact HAP.out q hq z
                              · have := HOF.out.lt q hq; omega
                            · exact HF.out.trans2 HF2.out (fun y hy hlt => by have := HOR.out.base y (mem_blk.1 hy); have := HSZ1.out; omega)
                        | false =>
                          have HR3 : Hid (res = parseMLoop g (B.drop J) J flat (row ++ [(v : Int)]) del true) := hE3
                          clear hE3 he0 hv0
                          go_wp2_with (first | (go_at_call 61; refine (HSD.out _).mono ?_; rintro e w' ⟨rfl, hw⟩; have hw2 := hw.symm; subst hw2; clear hw) | (go_at_call 62; refine (HNM.out _).mono ?_; rintro e w' ⟨rfl, n2, hw⟩; have hw2 := hw; subst hw2; clear hw) | (at_builtin; refine wp_app_at rfl _ _ rfl (N + 1) rv row rfl (by first | with_reducible exact HOR.out.drewN.alloc _ | with_reducible exact HORD.out.drewN.alloc _) (.slice (some ⟨wr.heap.size, 0, none⟩) 1 1) [(v : Int)] rfl (ints_oneN (by simp) _ _) (by have := HRL.out; simp; omega) (by have := HSZW.out; simp; omega) ?_; intro v' w2 ho2 hg2 hnil2 hat2; have hf2 : Fr (blk rv) wr w2 := (((Fr.refl (blk rv) wr).drewN (n := n + n2)).alloc _).trans ((Fr.refl (blk rv) _).grown hg2 (fun k hk _ => mem_blk.2 hk)); have HF2 := hid hf2; have HO2 := hid ho2; have HNX : Hid (Nx wr rv v') := (by intro q hq; rcases hat2 with e | e; (left; rw [← e]; exact hq); (right; rw [e] at hq; injection hq with hq; simp at hq; omega)); clear ho2 hg2 hnil2 hat2 hf2))
                          go_roundg g
                          case measure => omega
                          case rel =>
                            refine ⟨J, flat, row ++ [(v : Int)], del, true, by omega, by have := HGI.out; have := HJ.out; have := HQ1.out; have := HEND.out; omega, rfl, rfl, rfl, HOF.out.fr HF2.out (fun q hq hm => HAP.out q hq (mem_blk.1 hm)), HO2.out, ?_, by have := HFL.out; have := HJ.out; omega, by have := HRL.out; have := HJ.out; have := HQ1.out; simp; omega, ?_, HPM.out.fr HF2.out (fun hm => by have := HOR.out.base _ (mem_blk.1 hm); have := HBN.out; omega), HR3.out⟩
                            · intro q hq e
                              rcases HNX.out q e with z | z
                              · exact HAP.out q hq z
                              · have := HOF.out.lt q hq; omega
                            · exact HF.out.trans2 HF2.out (fun y hy hlt => by have := HOR.out.base y (mem_blk.1 hy); have := HSZ1.out; omega)
                    · have hbe : ((e : Int) != 0) = true := by simpa using he0
                      rw [if_neg he0] at hE3
                      have HR3 := hid hE3
                      clear hE3 he0
                      have HFR0 : Hid (Fr [b] w1 wr) := HF.out
                      have hcE := HC1.out.fr HFR0.out (by have := HBN.out; simp; omega) (by simp)
                      have c0 := hcE.c 0 _ rfl
                      have c1 := hcE.c 1 _ rfl
                      have c2 := hcE.c 2 _ rfl
                      have fz := hcE.fz
                      have HFE : Hid (Fr [b] w wr) := HF1.out.trans HFR0.out
                      have HPE : Hid (PMAt wr b) := HPM.out
                      clear hcE
                      go_wp2_with (first | (go_at_call 61; refine (HSD.out _).mono ?_; rintro e w' ⟨rfl, hw⟩; have hw2 := hw.symm; subst hw2; clear hw) | (go_at_call 62; refine (HNM.out _).mono ?_; rintro e w' ⟨rfl, n2, hw⟩; have hw2 := hw; subst hw2; clear hw))
                      try simp only [Exit.inBlock, Exit.then]
                      refine bodyPost_ret (v := .agg #[.int .i64 (e : Nat), .int .i64 (at_ : Nat), .slice none 0 0]) (by simp [results, Tryz.results34, go_sem, cellSet, c0, c1, c2]) rfl ?_
                      have hfz := (((Fr.refl [N] (wr.drewN (n + n2))).set (p := ⟨N, 0, none⟩) (by simp) (.int .i64 (e : Nat))).set (p := ⟨N, 1, none⟩) (by simp) (.int .i64 (at_ : Nat))).set (p := ⟨N, 2, none⟩) (by simp) (.slice none 0 0)
                      refine hK.out _ _ ⟨.slice none 0 0, (by rw [HR3.out]), by rw [HR3.out]; exact OwnI.nil _ _, by rw [HR3.out]; exact .inl ⟨rfl, rfl⟩, (HPE.out.fr (Fr.of_drewN []) (by simp)).fr hfz (by have := HBN.out; simp; omega), (HFE.out.drewN).trans2 hfz (fun y hy hlt => by simp at hy; exact absurd (hy ▸ hlt) HNS.out)⟩
                · have hei2 : ¬ (J : Int) < s.size := by omega
                  clear hwd
                  by_cases h100 : c = 100
                  · have hb100 : ((c : Int) == 100) = true := by simp [h100]
                    have hE3 := HE2.out
                    rw [if_pos h100] at hE3
                    cases opn with
                    | true =>
                      rw [if_pos rfl] at hE3
                      have HR3 : Hid (res = ⟨2, i, []⟩) := hE3
                      clear hE3 h100
                      have HFR0 : Hid (Fr [b] w1 (wr.drewN n)) := HFD.out
                      have hcE := HC1.out.fr HFR0.out (by have := HBN.out; simp; omega) (by simp)
                      have c0 := hcE.c 0 _ rfl
                      have c1 := hcE.c 1 _ rfl
                      have c2 := hcE.c 2 _ rfl
                      have fz := hcE.fz
                      have HFE : Hid (Fr [b] w (wr.drewN n)) := HF1.out.trans HFR0.out
                      have HPE : Hid (PMAt (wr.drewN n) b) := HPMD.out
                      clear hcE
                      go_wp2_with fail
                      try simp only [Exit.inBlock, Exit.then]
                      refine bodyPost_ret (v := .agg #[.int .i64 2, .int .i64 (i : Nat), .slice none 0 0]) (by simp [results, Tryz.results34, go_sem, cellSet, c0, c1, c2]) rfl ?_
                      have hfz := (((Fr.refl [N] (wr.drewN n)).set (p := ⟨N, 0, none⟩) (by simp) (.int .i64 2)).set (p := ⟨N, 1, none⟩) (by simp) (.int .i64 (i : Nat))).set (p := ⟨N, 2, none⟩) (by simp) (.slice none 0 0)
                      refine hK.out _ _ ⟨.slice none 0 0, (by rw [HR3.out]; rfl), by rw [HR3.out]; exact OwnI.nil _ _, by rw [HR3.out]; exact .inl ⟨rfl, rfl⟩, HPE.out.fr hfz (by have := HBN.out; simp; omega), HFE.out.trans2 hfz (fun y hy hlt => by simp at hy; exact absurd (hy ▸ hlt) HNS.out)⟩
                    | false =>
                      rw [if_neg (by simp)] at hE3
                      by_cases hm1 : 1 < q
                      · have hm1i : (1 : Int) < (J : Int) - (i : Int) := by have := HJ.out; omega
                        rw [if_pos hm1] at hE3
                        have HR3 : Hid (res = ⟨2, i + 1, []⟩) := hE3
                        clear hE3 h100 hm1
                        have HFR0 : Hid (Fr [b] w1 (wr.drewN n)) := HFD.out
                        have hcE := HC1.out.fr HFR0.out (by have := HBN.out; simp; omega) (by simp)
                        have c0 := hcE.c 0 _ rfl
                        have c1 := hcE.c 1 _ rfl
                        have c2 := hcE.c 2 _ rfl
                        have fz := hcE.fz
                        have HFE : Hid (Fr [b] w (wr.drewN n)) := HF1.out.trans HFR0.out
                        have HPE : Hid (PMAt (wr.drewN n) b) := HPMD.out
                        clear hcE
                        go_wp2_with fail
                        try simp only [Exit.inBlock, Exit.then]
                        refine bodyPost_ret (v := .agg #[.int .i64 2, .int .i64 ((i : Int) + 1), .slice none 0 0]) (by simp [results, Tryz.results34, go_sem, cellSet, c0, c1, c2]) rfl ?_
                        have hfz := (((Fr.refl [N] (wr.drewN n)).set (p := ⟨N, 0, none⟩) (by simp) (.int .i64 2)).set (p := ⟨N, 1, none⟩) (by simp) (.int .i64 ((i : Int) + 1))).set (p := ⟨N, 2, none⟩) (by simp) (.slice none 0 0)
                        refine hK.out _ _ ⟨.slice none 0 0, (by rw [HR3.out]; simp), by rw [HR3.out]; exact OwnI.nil _ _, by rw [HR3.out]; exact .inl ⟨rfl, rfl⟩, HPE.out.fr hfz (by have := HBN.out; simp; omega), HFE.out.trans2 hfz (fun y hy hlt => by simp at hy; exact absurd (hy ▸ hlt) HNS.out)⟩
                      · have hm1i : ¬ (1 : Int) < (J : Int) - (i : Int) := by have := HJ.out; omega
                        rw [if_neg hm1] at hE3
                        have HR3 := hid hE3
                        clear hE3 h100 hm1
                        go_wp2_with fail
                        go_roundg g
                        case measure => omega
                        case rel => exact ⟨J, flat, row, true, true, by omega, by have := HGI.out; have := HJ.out; have := HQ1.out; have := HEND.out; omega, rfl, rfl, rfl, HOFD.out, HORD.out, HAP.out, by have := HFL.out; have := HJ.out; omega, by have := HRL.out; have := HJ.out; omega, HFD.out, HPMD.out, HR3.out⟩
                  · have hb100 : ((c : Int) == 100) = false := by simp; omega
                    have hE3 := HE2.out
                    rw [if_neg h100] at hE3
                    have HNM := hid (fun w => number_any2 s i J (by omega) (by omega) hsz w)
                    rw [HB.out, show J - i = q from by have := HJ.out; omega] at HNM
                    have hv13 := numberM_le ((B.drop i).take q) i
                    obtain ⟨nm, hnm⟩ : ∃ x, numberM ((B.drop i).take q) i = x := ⟨_, rfl⟩
                    rw [hnm] at hE3 HNM hv13
                    obtain ⟨v, neg, e, at_⟩ := nm
                    simp only [] at hE3 HNM hv13
                    have hvi : (v : Int) ≤ 13 := by omega
                    clear hnm h100
                    by_cases he0 : e = 0
                    · have hbe : ((e : Int) != 0) = false := by simp [he0]
                      rw [if_pos he0] at hE3
                      by_cases hv0 : v = 0
                      · have hbv : ((v : Int) != 0) = false := by simp [hv0]
                        rw [if_pos hv0] at hE3
                        have HR3 := hid hE3
                        clear hE3 he0 hv0
                        have HNO2 := hid (fun m => norm_any ((HOR.out.drewN (n := m)).ints) (by have := HRL.out; omega))
                        have hrl := rowM_len del row
                        obtain ⟨nmr, hnmr⟩ : ∃ x, normM row 12 1 = x := ⟨_, rfl⟩
                        have hrm : rowM del row = rowOpt del nmr := by rw [rowM_opt, hnmr]
                        rw [hnmr] at HNO2
                        have HRL2 := hid hrl
                        have HRM := hid hrm
                        clear hrl hrm hnmr
                        go_wp2_with (first | (go_at_call 62; refine (HNM.out _).mono ?_; rintro e w' ⟨rfl, n2, hw⟩; have hw2 := hw; subst hw2; clear hw))
                        refine (HNO2.out _).mono ?_
                        rintro e3 w3 ⟨hno, hf3⟩
                        have hdf : Fr [] wr w3 := ((Fr.refl [] wr).drewN).trans hf3
                        have HO3 : Hid (OwnI w3 (N + 1) fv flat) := HOF.out.fr hdf (by simp)
                        have HF3 : Hid (Fr [b] w1 w3) := HF.out.trans (hdf.mono (by simp))
                        have HP3 : Hid (PMAt w3 b) := HPM.out.fr hdf (by simp)
                        have HSZ3 : Hid (N + 1 ≤ w3.heap.size) := by show _ ≤ _; have := hdf.size; have := HSZW.out; omega
                        have hflt : ∀ q, fv.ownBlock = some q → q < wr.heap.size := HOF.out.lt
                        have HFLT := hid hflt
                        clear hflt hdf
                        cases nmr with
                        | none =>
                          have hno2 : e3 = .returned (.tuple #[.slice none 0 0, .bool false]) := hno
                          subst hno2
                          have HR4 : Hid (res = parseMLoop g (B.drop J) J flat [] false false) := by show _ = _; rw [HR3.out, HRM.out]; simp [rowOpt]
                          clear hno hf3
                          go_wp2_with fail
                          go_roundg g
                          case measure => omega
                          case rel => exact ⟨J, flat, [], false, false, by omega, by have := HGI.out; have := HJ.out; have := HQ1.out; have := HEND.out; omega, rfl, rfl, rfl, HO3.out, OwnI.nil _ _, by simp [Value.ownBlock], by have := HFL.out; have := HJ.out; omega, by simp, HF3.out, HP3.out, HR4.out⟩
                        | some nn =>
                          obtain ⟨nv, rfl, hon⟩ : ∃ nv, e3 = .returned (.tuple #[nv, .bool true]) ∧ OwnI w3 (wr.drewN (n + n2)).heap.size nv nn := hno
                          have HON := hid hon
                          have HNB : Hid (∀ q, nv.ownBlock = some q → q ∉ blk fv) := fun q hq hm => by have h1 := hon.base q hq; have h2 := HFLT.out q (mem_blk.1 hm); simp at h1; omega
                          have HNLT : Hid (∀ q, nv.ownBlock = some q → q < w3.heap.size) := hon.lt
                          obtain ⟨na, nc, nd, rfl⟩ := hon.sl
                          have HNNL : Hid (nn.length ≤ 26) := by show _ ≤ _; have := HRL2.out; rw [HRM.out, rowOpt_some] at this; simp only [List.length_append] at this; omega
                          clear hf3 hon
                          cases del with
                          | true =>
                            have HR4 : Hid (res = parseMLoop g (B.drop J) J (((flat ++ [13]) ++ nn) ++ [0]) [] false false) := by show _ = _; rw [HR3.out, HRM.out]; simp [rowOpt]
                            go_wp2_with (first | (at_builtin; refine wp_app_at rfl _ _ rfl (N + 1) fv (flat) rfl (HO3.out.alloc _) (.slice (some ⟨w3.heap.size, 0, none⟩) 1 1) [13] rfl (ints_oneN (by simp) _ _) (by have := HFL.out; have := HNNL.out; simp; omega) (by have := HSZ3.out; have := HSZ3.out; simp; omega) ?_; intro v4 w4 ho4 hg4 hnil4 hat4; have HO4 := hid ho4; have HFF4 := hid (fr_app _ hg4); have hsz4 := (fr_app _ hg4).size; have HSS4 : Hid (w3.heap.size ≤ w4.heap.size) := (by show _ ≤ _; have := HSZ3.out; omega); have HI4 : Hid (Ints w4 (.slice na nc nd) nn) := HON.out.ints.fr HFF4.out HNB.out; clear ho4 hg4 hnil4 hat4 hsz4) | (at_builtin; refine wp_app_at rfl _ _ rfl (N + 1) v4 (flat ++ [13]) rfl HO4.out (.slice na nc nd) nn rfl (HI4.out) (by have := HFL.out; have := HNNL.out; simp; omega) (by have := HSZ3.out; have := HSS4.out; omega) ?_; intro v5 w5 ho5 hg5 hnil5 hat5; have HO5 := hid ho5; have HFF5 := hid (fr_app0 hg5); have hsz5 := (fr_app0 hg5).size; have HSS5 : Hid (w3.heap.size ≤ w5.heap.size) := (by show _ ≤ _; have := HSS4.out; omega); clear ho5 hg5 hnil5 hat5 hsz5) | (at_builtin; refine wp_app_at rfl _ _ rfl (N + 1) v5 (flat ++ [13] ++ nn) rfl (HO5.out.alloc _) (.slice (some ⟨w5.heap.size, 0, none⟩) 1 1) [0] rfl (ints_oneN (by simp) _ _) (by have := HFL.out; have := HNNL.out; simp; omega) (by have := HSZ3.out; have := HSS5.out; simp; omega) ?_; intro v6 w6 ho6 hg6 hnil6 hat6; have HO6 := hid ho6; have HFF6 := hid (fr_app _ hg6); have hsz6 := (fr_app _ hg6).size; have HSS6 : Hid (w3.heap.size ≤ w6.heap.size) := (by show _ ≤ _; have := HSS5.out; omega); clear ho6 hg6 hnil6 hat6 hsz6))
                            obtain ⟨p1, p2⟩ := app_keep HSZ1.out HBN.out HF3.out HP3.out HO3.out HFF4.out
                            obtain ⟨p3, p4⟩ := app_keep HSZ1.out HBN.out p1 p2 HO4.out HFF5.out
                            obtain ⟨p5, p6⟩ := app_keep HSZ1.out HBN.out p3 p4 HO5.out HFF6.out
                            have P5 := hid p5
                            have P6 := hid p6
                            clear p1 p2 p3 p4 p5 p6
                            go_roundg g
                            case measure => omega
                            case rel => exact ⟨J, flat ++ [13] ++ nn ++ [0], [], false, false, by omega, by have := HGI.out; have := HJ.out; have := HQ1.out; have := HEND.out; omega, rfl, rfl, rfl, HO6.out, OwnI.nil _ _, by simp [Value.ownBlock], by have h1 := HRL2.out; rw [HRM.out, rowOpt_some] at h1; have := HFL.out; have := HJ.out; have := HQ1.out; simp at h1 ⊢; omega, by simp, P5.out, P6.out, HR4.out⟩
                          | false =>
                            have HR4 : Hid (res = parseMLoop g (B.drop J) J ((flat ++ nn) ++ [0]) [] false false) := by show _ = _; rw [HR3.out, HRM.out]; simp [rowOpt]
                            go_wp2_with (first | (at_builtin; refine wp_app_at rfl _ _ rfl (N + 1) fv (flat) rfl HO3.out (.slice na nc nd) nn rfl (HON.out.ints) (by have := HFL.out; have := HNNL.out; simp; omega) (by have := HSZ3.out; have := HSZ3.out; omega) ?_; intro v5 w5 ho5 hg5 hnil5 hat5; have HO5 := hid ho5; have HFF5 := hid (fr_app0 hg5); have hsz5 := (fr_app0 hg5).size; have HSS5 : Hid (w3.heap.size ≤ w5.heap.size) := (by show _ ≤ _; have := HSZ3.out; omega); clear ho5 hg5 hnil5 hat5 hsz5) | (at_builtin; refine wp_app_at rfl _ _ rfl (N + 1) v5 (flat ++ nn) rfl (HO5.out.alloc _) (.slice (some ⟨w5.heap.size, 0, none⟩) 1 1) [0] rfl (ints_oneN (by simp) _ _) (by have := HFL.out; have := HNNL.out; simp; omega) (by have := HSZ3.out; have := HSS5.out; simp; omega) ?_; intro v6 w6 ho6 hg6 hnil6 hat6; have HO6 := hid ho6; have HFF6 := hid (fr_app _ hg6); have hsz6 := (fr_app _ hg6).size; have HSS6 : Hid (w3.heap.size ≤ w6.heap.size) := (by show _ ≤ _; have := HSS5.out; omega); clear ho6 hg6 hnil6 hat6 hsz6))
                            obtain ⟨p3, p4⟩ := app_keep HSZ1.out HBN.out HF3.out HP3.out HO3.out HFF5.out
                            obtain ⟨p5, p6⟩ := app_keep HSZ1.out HBN.out p3 p4 HO5.out HFF6.out
                            have P5 := hid p5
                            have P6 := hid p6
                            clear p3 p4 p5 p6
                            go_roundg g
                            case measure => omega
                            case rel => exact ⟨J, flat ++ nn ++ [0], [], false, false, by omega, by have := HGI.out; have := HJ.out; have := HQ1.out; have := HEND.out; omega, rfl, rfl, rfl, HO6.out, OwnI.nil _ _, by simp [Value.ownBlock], by have h1 := HRL2.out; rw [HRM.out, rowOpt_some] at h1; have := HFL.out; have := HJ.out; have := HQ1.out; simp at h1 ⊢; omega, by simp, P5.out, P6.out, HR4.out⟩
                      · have hbv : ((v : Int) != 0) = true := by simp; omega
                        rw [if_neg hv0] at hE3
                        cases neg with
                        | true =>
                          have HR3 : Hid (res = parseMLoop g (B.drop J) J flat (row ++ [(-(v : Int))]) del true) := hE3
                          clear hE3 he0 hv0
                          go_wp2_with (first | (go_at_call 62; refine (HNM.out _).mono ?_; rintro e w' ⟨rfl, n2, hw⟩; have hw2 := hw; subst hw2; clear hw) | (at_builtin; refine wp_app_at rfl _ _ rfl (N + 1) rv row rfl (by first | with_reducible exact HOR.out.drewN.alloc _ | with_reducible exact HORD.out.drewN.alloc _) (.slice (some ⟨wr.heap.size, 0, none⟩) 1 1) [(-(v : Int))] rfl (ints_oneN (by simp) _ _) (by have := HRL.out; simp; omega) (by have := HSZW.out; simp; omega) ?_; intro v' w2 ho2 hg2 hnil2 hat2; have hf2 : Fr (blk rv) wr w2 := (((Fr.refl (blk rv) wr).drewN (n := n + n2)).alloc _).trans ((Fr.refl (blk rv) _).grown hg2 (fun k hk _ => mem_blk.2 hk)); have HF2 := hid hf2; have HO2 := hid ho2; have HNX : Hid (Nx wr rv v') := (by intro q hq; rcases hat2 with e | e; (left; rw [← e]; exact hq); (right; rw [e] at hq; injection hq with hq; simp at hq; omega)); clear ho2 hg2 hnil2 hat2 hf2))
                          go_roundg g
                          case measure => omega
                          case rel =>
                            refine ⟨J, flat, row ++ [(-(v : Int))], del, true, by omega, by have := HGI.out; have := HJ.out; have := HQ1.out; have := HEND.out; omega, rfl, rfl, rfl, HOF.out.fr HF2.out (fun q hq hm => HAP.out q hq (mem_blk.1 hm)), HO2.out, ?_, by have := HFL.out; have := HJ.out; omega, by have := HRL.out; have := HJ.out; have := HQ1.out; simp; omega, ?_, HPM.out.fr HF2.out (fun hm => by have := HOR.out.base _ (mem_blk.1 hm); have := HBN.out; omega), HR3.out⟩
                            · intro q hq e
                              rcases HNX.out q e with z | z
                              · exact HAP.out q hq z
                              · have := HOF.out.lt q hq; omega
                            · exact HF.out.trans2 HF2.out (fun y hy hlt => by have := HOR.out.base y (mem_blk.1 hy); have := HSZ1.out; omega)
                        | false =>
                          have HR3 : Hid (res = parseMLoop g (B.drop J) J flat (row ++ [(v : Int)]) del true) := hE3
                          clear hE3 he0 hv0
                          go_wp2_with (first | (go_at_call 62; refine (HNM.out _).mono ?_; rintro e w' ⟨rfl, n2, hw⟩; have hw2 := hw; subst hw2; clear hw) | (at_builtin; refine wp_app_at rfl _ _ rfl (N + 1) rv row rfl (by first | with_reducible exact HOR.out.drewN.alloc _ | with_reducible exact HORD.out.drewN.alloc _) (.slice (some ⟨wr.heap.size, 0, none⟩) 1 1) [(v : Int)] rfl (ints_oneN (by simp) _ _) (by have := HRL.out; simp; omega) (by have := HSZW.out; simp; omega) ?_; intro v' w2 ho2 hg2 hnil2 hat2; have hf2 : Fr (blk rv) wr w2 := (((Fr.refl (blk rv) wr).drewN (n := n + n2)).alloc _).trans ((Fr.refl (blk rv) _).grown hg2 (fun k hk _ => mem_blk.2 hk)); have HF2 := hid hf2; have HO2 := hid ho2; have HNX : Hid (Nx wr rv v') := (by intro q hq; rcases hat2 with e | e; (left; rw [← e]; exact hq); (right; rw [e] at hq; injection hq with hq; simp at hq; omega)); clear ho2 hg2 hnil2 hat2 hf2))
                          go_roundg g
                          case measure => omega
                          case rel =>
                            refine ⟨J, flat, row ++ [(v : Int)], del, true, by omega, by have := HGI.out; have := HJ.out; have := HQ1.out; have := HEND.out; omega, rfl, rfl, rfl, HOF.out.fr HF2.out (fun q hq hm => HAP.out q hq (mem_blk.1 hm)), HO2.out, ?_, by have := HFL.out; have := HJ.out; omega, by have := HRL.out; have := HJ.out; have := HQ1.out; simp; omega, ?_, HPM.out.fr HF2.out (fun hm => by have := HOR.out.base _ (mem_blk.1 hm); have := HBN.out; omega), HR3.out⟩
                            · intro q hq e
                              rcases HNX.out q e with z | z
                              · exact HAP.out q hq z
                              · have := HOF.out.lt q hq; omega
                            · exact HF.out.trans2 HF2.out (fun y hy hlt => by have := HOR.out.base y (mem_blk.1 hy); have := HSZ1.out; omega)
                    · have hbe : ((e : Int) != 0) = true := by simpa using he0
                      rw [if_neg he0] at hE3
                      have HR3 := hid hE3
                      clear hE3 he0
                      have HFR0 : Hid (Fr [b] w1 wr) := HF.out
                      have hcE := HC1.out.fr HFR0.out (by have := HBN.out; simp; omega) (by simp)
                      have c0 := hcE.c 0 _ rfl
                      have c1 := hcE.c 1 _ rfl
                      have c2 := hcE.c 2 _ rfl
                      have fz := hcE.fz
                      have HFE : Hid (Fr [b] w wr) := HF1.out.trans HFR0.out
                      have HPE : Hid (PMAt wr b) := HPM.out
                      clear hcE
                      go_wp2_with (first | (go_at_call 62; refine (HNM.out _).mono ?_; rintro e w' ⟨rfl, n2, hw⟩; have hw2 := hw; subst hw2; clear hw))
                      try simp only [Exit.inBlock, Exit.then]
                      refine bodyPost_ret (v := .agg #[.int .i64 (e : Nat), .int .i64 (at_ : Nat), .slice none 0 0]) (by simp [results, Tryz.results34, go_sem, cellSet, c0, c1, c2]) rfl ?_
                      have hfz := (((Fr.refl [N] (wr.drewN (n + n2))).set (p := ⟨N, 0, none⟩) (by simp) (.int .i64 (e : Nat))).set (p := ⟨N, 1, none⟩) (by simp) (.int .i64 (at_ : Nat))).set (p := ⟨N, 2, none⟩) (by simp) (.slice none 0 0)
                      refine hK.out _ _ ⟨.slice none 0 0, (by rw [HR3.out]), by rw [HR3.out]; exact OwnI.nil _ _, by rw [HR3.out]; exact .inl ⟨rfl, rfl⟩, (HPE.out.fr (Fr.of_drewN []) (by simp)).fr hfz (by have := HBN.out; simp; omega), (HFE.out.drewN).trans2 hfz (fun y hy hlt => by simp at hy; exact absurd (hy ▸ hlt) HNS.out)⟩
      · have hei : ¬ (i : Int) < s.size := by omega
        have his : i = s.size := by omega
        rw [List.drop_of_length_le (by rw [HLN.out]; omega), parseML_nil] at he
        cases opn with
        | true =>
          have HE : Hid (res = ⟨5, s.size, []⟩) := by show _ = _; rw [he, if_pos rfl, his]
          clear he hend hi his
          have HFR0 : Hid (Fr [b] w1 wr) := HF.out
          have hcE := HC1.out.fr HFR0.out (by have := HBN.out; simp; omega) (by simp)
          have c0 := hcE.c 0 _ rfl
          have c1 := hcE.c 1 _ rfl
          have c2 := hcE.c 2 _ rfl
          have fz := hcE.fz
          have HFE : Hid (Fr [b] w wr) := HF1.out.trans HFR0.out
          have HPE : Hid (PMAt wr b) := HPM.out
          clear hcE
          go_wp2_with fail
          try simp only [Exit.inBlock, Exit.then]
          refine bodyPost_ret (v := .agg #[.int .i64 5, .int .i64 (s.size : Nat), .slice none 0 0]) (by simp [results, Tryz.results34, go_sem, cellSet, c0, c1, c2]) rfl ?_
          have hfz := (((Fr.refl [N] (wr)).set (p := ⟨N, 0, none⟩) (by simp) (.int .i64 5)).set (p := ⟨N, 1, none⟩) (by simp) (.int .i64 (s.size : Nat))).set (p := ⟨N, 2, none⟩) (by simp) (.slice none 0 0)
          refine hK.out _ _ ⟨.slice none 0 0, (by rw [HE.out]; rfl), by rw [HE.out]; exact OwnI.nil _ _, by rw [HE.out]; exact .inl ⟨rfl, rfl⟩, HPE.out.fr hfz (by have := HBN.out; simp; omega), HFE.out.trans2 hfz (fun y hy hlt => by simp at hy; exact absurd (hy ▸ hlt) HNS.out)⟩
        | false =>
          have HE : Hid (res = ⟨0, 0, flat⟩) := by show _ = _; rw [he, if_neg (by simp)]
          have HCP := hid (copyInts_any HOF.out.ints (by have := HFL.out; omega))
          clear he hend hi his
          go_wp2_with fail
          refine HCP.out.mono ?_
          rintro e w5 ⟨v, rfl, ho, htv, hf5⟩
          obtain ⟨a5, n5, hv5⟩ : ∃ a n, v = .slice a n n := by rcases htv with ⟨e, _⟩ | ⟨g, e⟩; exact ⟨none, 0, e⟩; exact ⟨_, _, e⟩
          subst hv5
          have HFR0 : Hid (Fr [b] w1 w5) := HF.out.trans (hf5.mono (by simp))
          have hcE := HC1.out.fr HFR0.out (by have := HBN.out; simp; omega) (by simp)
          have c0 := hcE.c 0 _ rfl
          have c1 := hcE.c 1 _ rfl
          have c2 := hcE.c 2 _ rfl
          have fz := hcE.fz
          have HFE : Hid (Fr [b] w w5) := HF1.out.trans HFR0.out
          have HPE : Hid (PMAt w5 b) := HPM.out.fr hf5 (by simp)
          have HO5 := hid ho
          have HTV := hid htv
          clear hcE ho htv hf5
          go_wp2_with fail
          try simp only [Exit.inBlock, Exit.then]
          refine bodyPost_ret (v := .agg #[.int .i64 0, .int .i64 0, .slice a5 n5 n5]) (by simp [results, Tryz.results34, go_sem, cellSet, c0, c1, c2]) rfl ?_
          have hfz := (((Fr.refl [N] w5).set (p := ⟨N, 0, none⟩) (by simp) (.int .i64 0)).set (p := ⟨N, 1, none⟩) (by simp) (.int .i64 0)).set (p := ⟨N, 2, none⟩) (by simp) (.slice a5 n5 n5)
          refine hK.out _ _ ⟨.slice a5 n5 n5, (by rw [HE.out]; rfl), ?_, ?_, HPE.out.fr hfz (by have := HBN.out; simp; omega), HFE.out.trans2 hfz (fun y hy hlt => by simp at hy; exact absurd (hy ▸ hlt) HNS.out)⟩
          · rw [HE.out]
            exact (HO5.out.mono (base2 := w.heap.size) (by have := HSZW.out; have := HNS.out; omega)).fr hfz (fun g hg hm => by have := HO5.out.base g hg; have := HSZW.out; simp at hm; omega)
          · rw [HE.out]
            rcases HTV.out with ⟨e1, e2⟩ | ⟨g, e⟩
            · exact .inl ⟨e1, by rw [e2]; rfl⟩
            · exact .inr ⟨g, e⟩
end Go.Proofs.Qxb6500354aGreat

