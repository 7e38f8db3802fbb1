/- The real archive: its objects; judge and record, walked. -/
import Derived.Test.Qxb6500353aGreatAra
import Derived.Test.Qxb6500353aGreatSti
import Derived.Test.Qxb6500353aGreatBkp
import Derived.Test.Qxb6500353aGreatApi
namespace Go.Proofs.Qxb6500353aGreat
open Go.RowKit
set_option linter.unusedVariables false
set_option linter.unusedSimpArgs false

/-- A list of entries in memory: two strings an entry. -/
abbrev EB := ByteArray × ByteArray
def entV (es : List EB) (i : Nat) : Value := if i % 2 = 0 then .string (es.getD (i / 2) (⟨#[]⟩, ⟨#[]⟩)).1 else .string (es.getD (i / 2) (⟨#[]⟩, ⟨#[]⟩)).2
theorem entV_at {es : List EB} {k : Nat} {e : EB} (h : es[k]? = some e) : entV es (k * 2) = .string e.1 ∧ entV es (k * 2 + 1) = .string e.2 := by
  unfold entV
  rw [if_pos (by omega), if_neg (by omega), show k * 2 / 2 = k by omega, show (k * 2 + 1) / 2 = k by omega, List.getD_eq_getElem?_getD, h]
  exact ⟨rfl, rfl⟩
def EntS (w : World) (ad : Option Addr) (es : List EB) : Prop := es = [] ∨ ∃ g, ad = some ⟨g, 0, none⟩ ∧ g < w.heap.size ∧ Cel mkV w g 0 (es.length * 2) (entV es)
def toE (e : EB) : Ent := ⟨bytesOf e.1, bytesOf e.2⟩
theorem EntS.at {w : World} {ad : Option Addr} {es : List EB} (h : EntS w ad es) {k : Nat} (hk : k < es.length) : ∃ g, ad = some ⟨g, 0, none⟩ ∧ g < w.heap.size ∧ w.cell? ⟨g, k * 2, none⟩ = some (.string es[k].1) ∧ w.cell? ⟨g, k * 2 + 1, none⟩ = some (.string es[k].2) := by
  rcases h with h | ⟨g, h1, h2, h3⟩
  · subst h; simp at hk
  · have a := entV_at (List.getElem?_eq_getElem hk)
    have x0 := h3.at0 (k * 2) (by omega)
    have x1 := h3.at0 (k * 2 + 1) (by omega)
    simp only [mkV] at x0 x1
    rw [a.1] at x0
    rw [a.2] at x1
    exact ⟨g, h1, h2, x0, x1⟩
def blk1 (ad : Option Addr) : Nat → Prop := fun k => obk ad = some k
theorem EntS.fr {S : Nat → Prop} {w w2 : World} {ad : Option Addr} {es : List EB} (h : EntS w ad es) (hf : Fr S w w2) (hn : ∀ g, obk ad = some g → ¬ S g) : EntS w2 ad es := by
  rcases h with h | ⟨g, h1, h2, h3⟩
  · exact .inl h
  · exact .inr ⟨g, h1, Nat.lt_of_lt_of_le h2 hf.size, h3.fr hf (hn g (by rw [h1]; rfl))⟩
theorem drop_cons {α : Type} {l : List α} {k : Nat} (h : k < l.length) : l.drop k = l[k] :: l.drop (k + 1) := List.drop_eq_getElem_cons h
theorem judgeF_cons (e : Ent) (l : List Ent) : judgeF (e :: l) = if entE e ≠ 0 then entE e else judgeF l := rfl
set_option maxRecDepth 100000 in
set_option maxHeartbeats 4000000 in
theorem judge_any {w : World} {ad : Option Addr} {cap : Nat} {es : List EB} (h : EntS w ad es) (hl : es.length ≤ 4) :
    Calls Tryz.prog 43 #[.slice ad es.length cap] w fun e w' => e = .returned (.int .i64 (judgeF (es.map toE) : Nat)) ∧ w' = w := by
  have H := hid h
  obtain ⟨n, hn⟩ : ∃ z, z = es.length := ⟨_, rfl⟩
  have HN := hid hn
  rw [← hn] at hl ⊢
  have hni : (n : Int) ≤ 4 := by omega
  clear h hn hl
  refine calls_via fun K hK => ?_
  go_enter Tryz.func43, Tryz.ntmps43
  go_wp2_with fail
  go_loopg [3] n (fun g i wr => ∃ k : Nat, i = .int .i64 (k : Nat) ∧ g + k = n ∧ wr = w ∧ judgeF (es.map toE) = judgeF ((es.drop k).map toE))
  case atStart => exact ⟨0, rfl, by omega, rfl, rfl⟩
  case round =>
    obtain ⟨k, rfl, hg, rfl, hj⟩ := hrel
    have HJ := hid hj
    have HG := hid hg
    by_cases hk : k < n
    · have hki : (k : Int) < n := by omega
      have hkl : k < es.length := by rw [← HN.out]; exact hk
      obtain ⟨g, rfl, hgl, x0, x1⟩ := H.out.at hkl
      have hj2 := HJ.out
      rw [drop_cons hkl, List.map_cons, judgeF_cons] at hj2
      have hee : entE (toE es[k]) = if es[k].1.size = 0 ∨ 8 < es[k].1.size then 16 else if 256 < es[k].2.size then 1 else 0 := by unfold entE toE; simp only [bytesOf_len]
      obtain ⟨E, hE⟩ : ∃ z, z = entE (toE es[k]) := ⟨_, rfl⟩
      rw [← hE] at hee hj2
      obtain ⟨e, he⟩ : ∃ z, z = es[k] := ⟨_, rfl⟩
      rw [← he] at x0 x1 hee
      obtain ⟨nm, dt⟩ := e
      dsimp only at x0 x1 hee
      clear hj hg hgl he hkl hk hE
      by_cases c1 : nm.size = 0
      · rw [if_pos (Or.inl c1)] at hee
        rw [hee, if_pos (by decide)] at hj2
        have c1i : ((nm.size : Int) == 0) = true := by rw [c1]; rfl
        rw [hj2] at hK
        clear hj2 c1 HJ hee
        go_wp2_with fail
        exact hK.out _ _ ⟨rfl, rfl⟩
      · have c1i : ((nm.size : Int) == 0) = false := beq_eq_false_iff_ne.2 (by omega)
        by_cases c2 : 8 < nm.size
        · rw [if_pos (Or.inr c2)] at hee
          rw [hee, if_pos (by decide)] at hj2
          have c2i : (8 : Int) < nm.size := by omega
          rw [hj2] at hK
          clear hj2 c1 c2 HJ hee
          go_wp2_with fail
          exact hK.out _ _ ⟨rfl, rfl⟩
        · rw [if_neg (show ¬ (nm.size = 0 ∨ 8 < nm.size) by omega)] at hee
          have c2i : ¬ (8 : Int) < nm.size := by omega
          by_cases c3 : 256 < dt.size
          · rw [if_pos c3] at hee
            rw [hee, if_pos (by decide)] at hj2
            have c3i : (256 : Int) < dt.size := by omega
            rw [hj2] at hK
            clear hj2 c1 c2 c3 HJ hee
            go_wp2_with fail
            exact hK.out _ _ ⟨rfl, rfl⟩
          · rw [if_neg c3] at hee
            rw [if_neg (show ¬ E ≠ 0 by omega)] at hj2
            have c3i : ¬ (256 : Int) < dt.size := by omega
            have HJ2 := hid hj2
            clear hj2 c1 c2 c3 HJ hee
            go_wp2_with fail
            go_roundg (gk - 1)
            case measure => have := HG.out; omega
            case rel => exact ⟨k + 1, by simp, by have := HG.out; omega, rfl, HJ2.out⟩
    · have hki : ¬ (k : Int) < n := by omega
      have hkn : es.drop k = [] := List.drop_eq_nil_of_le (by rw [← HN.out]; omega)
      rw [hkn] at hj
      rw [hj] at hK
      clear hj hg hk hkn HJ
      go_wp2_with fail
      exact hK.out _ _ ⟨rfl, rfl⟩
/-- The real tower: X .. the encoder, X + 33 .. the decoder, Z .. the container. -/
structure ArM (w : World) (X Z : Nat) (R : ArR) : Prop where
  enc : EncS w X (X + 2) (X + 13) (X + 24) (X + 28)
  dec : DecZ w (X + 33)
  ar : ArAt w Z R
  k : R.k = ptrV (X + 28)
  d : R.d = ptrV (X + 33 + 24)
  le : X + 61 ≤ Z
  fl : R.fill ≤ 1200
theorem ArM.lt {w : World} {X Z : Nat} {R : ArR} (h : ArM w X Z R) : Z + 4 < w.heap.size := h.ar.lt
theorem ArM.fr {S : Nat → Prop} {w w2 : World} {X Z : Nat} {R : ArR} (h : ArM w X Z R) (hf : Fr S w w2) (hn : ∀ k, X ≤ k → k < Z + 5 → ¬ S k) : ArM w2 X Z R := by
  have hl := h.le
  exact ⟨h.enc.fr hf fun k a b => hn k (by omega) (by omega), h.dec.fr hf fun k a b => hn k (by omega) (by omega), h.ar.fr hf fun k a b => hn k (by omega) (by omega), h.k, h.d, h.le, h.fl⟩
theorem ArM.arch {w w2 : World} {X Z : Nat} {R R2 : ArR} (h : ArM w X Z R) (ha : ArAt w2 Z R2) (hk : ArK R R2) (hf : Fr (Rng Z (Z + 5)) w w2) : ArM w2 X Z R2 := by
  have hl := h.le
  exact ⟨h.enc.fr hf fun k a b q => by have := q.1; omega, h.dec.fr hf fun k a b q => by have := q.1; omega, ha, hk.k.trans h.k, hk.d.trans h.d, h.le, hk.fl h.fl⟩
theorem ArM.encs {w w2 : World} {X Z : Nat} {R : ArR} (h : ArM w X Z R) (he : EncS w2 X (X + 2) (X + 13) (X + 24) (X + 28)) (hf : Fr (Rng X (X + 28 + 5)) w w2) : ArM w2 X Z R := by
  have hl := h.le
  exact ⟨he, h.dec.fr hf fun k a b q => by have := q.2; omega, h.ar.fr hf fun k a b q => by have := q.2; omega, h.k, h.d, h.le, h.fl⟩
theorem rngZ {X Z : Nat} {w w2 : World} (h : X ≤ Z) (hf : Fr (Rng Z (Z + 5)) w w2) : Fr (Rng X (Z + 5)) w w2 := hf.mono fun x hx _ => by unfold Rng at *; omega
theorem rngE {X Z : Nat} {w w2 : World} (h : X + 61 ≤ Z) (hf : Fr (Rng X (X + 28 + 5)) w w2) : Fr (Rng X (Z + 5)) w w2 := hf.mono fun x hx _ => by unfold Rng at *; omega
theorem packF_byte (s : List Nat) (lv : Nat) : ∀ x ∈ packF s lv, x < 256 := by unfold packF; exact Tp.text_byte _
set_option maxRecDepth 100000 in
set_option maxHeartbeats 4000000 in
theorem record_any {w : World} {X Z : Nat} {R : ArR} {l : List Nat} (h : ArM w X Z R) (hp : Pg R l) {nm dt : ByteArray} (hn : nm.size ≤ 8) (hd : dt.size ≤ 256) {lv : Nat} (hlv : lv ≤ 2) (hl : l.length + 300 ≤ 1200) :
    Calls Tryz.prog 44 #[ptrV Z, .string nm, .string dt, .int .i64 (lv : Nat)] w fun e w' => e = .returned (.tuple #[]) ∧ (∃ R2, ArM w' X Z R2 ∧ Pg R2 (l ++ recF lv ⟨bytesOf nm, bytesOf dt⟩) ∧ R2.offs = R.offs) ∧ Fr (Rng X (Z + 5)) w w' := by
  have c1 := h.ar.c_k
  rw [h.k] at c1
  have hle := h.le
  have hpk := pack_any h.enc hd hlv
  obtain ⟨tx, htx⟩ : ∃ z, z = packF (bytesOf dt) lv := ⟨_, rfl⟩
  have htl : tx.length ≤ 259 := by rw [htx]; have := pack_short (bytesOf_lt dt) lv; rw [bytesOf_len] at this; omega
  have htb : bytesOf (strN tx) = tx := bytesOf_strN (by rw [htx]; exact packF_byte _ _)
  have hts : (strN tx).size = tx.length := strN_size tx
  rw [← htx] at hpk
  have HPK := hid hpk
  have hsm := fun w => sum_any (w := w) (s := dt) (by omega)
  have hsl := sumF_lt (bytesOf dt)
  obtain ⟨sm, hsm2⟩ : ∃ z, z = sumF (bytesOf dt) := ⟨_, rfl⟩
  rw [← hsm2] at hsm hsl
  have HSM := hid hsm
  have hrec : l ++ recF lv ⟨bytesOf nm, bytesOf dt⟩ = ((((((l ++ [nm.size]) ++ bytesOf nm) ++ two dt.size) ++ two tx.length) ++ two sm) ++ bytesOf (strN tx)) := by
    rw [htb]; unfold recF; dsimp only; rw [bytesOf_len, bytesOf_len, ← htx, ← hsm2]; simp only [List.append_assoc]
  have HREC := hid hrec
  have H := hid h
  have HP := hid hp
  have HLE := hid hle
  have HLL := hid (And.intro hl (And.intro hn (And.intro hd (And.intro htl (And.intro hts hsl)))))
  have two2 : ∀ n, (two n).length = 2 := fun n => rfl
  have HT2 := hid two2
  clear h hp hpk htx htb hsm hsl hsm2 hrec hle hn hd hl htl hlv two2
  refine calls_via fun K hK => ?_
  unfold ptrV at *
  go_enter Tryz.func44, Tryz.ntmps44
  go_wp2_with fail
  refine HPK.out.mono ?_
  rintro e w1 ⟨rfl, he1, f1⟩
  have h1 := H.out.encs he1 f1
  have H1 := hid h1
  have F1 := hid (rngE HLE.out f1)
  clear he1 f1 h1 c1
  go_wp2_with fail
  refine (HSM.out w1).mono ?_
  rintro e w' ⟨rfl, hw⟩
  have hw2 := hw.symm; subst hw2; clear hw
  have hc := one_any (v := nm.size) H1.out.ar HP.out (by have := HLL.out.2.1; omega) (by have := HLL.out.1; omega)
  unfold ptrV at hc
  have HC := hid hc
  clear hc
  go_wp2_with fail
  refine HC.out.mono ?_
  rintro e w2 ⟨rfl, ⟨R2, ha2, hp2, hk2⟩, f2⟩
  have H2 := hid (H1.out.arch ha2 hk2 f2)
  have HP2 := hid hp2
  have HK2 := hid hk2
  have F2 := hid (F1.out.trans (rngZ (by have := HLE.out; omega) f2))
  have hc := layS_any (s := nm) ha2 hp2 (by have := HLL.out; simp; omega) (by have := HLL.out; simp; omega)
  unfold ptrV at hc
  have HC2 := hid hc
  clear hc ha2 hp2 hk2 f2 HC
  go_wp2_with fail
  refine HC2.out.mono ?_
  rintro e w3 ⟨rfl, ⟨R3, ha3, hp3, hk3⟩, f3⟩
  have H3 := hid (H2.out.arch ha3 hk3 f3)
  have HP3 := hid hp3
  have HK3 := hid (HK2.out.trans hk3)
  have F3 := hid (F2.out.trans (rngZ (by have := HLE.out; omega) f3))
  have hc := two_any (v := dt.size) ha3 hp3 (by have := HLL.out; omega) (by have := HLL.out; simp [bytesOf_len]; omega)
  unfold ptrV at hc
  have HC3 := hid hc
  clear hc ha3 hp3 hk3 f3 HC2
  go_wp2_with fail
  refine HC3.out.mono ?_
  rintro e w4 ⟨rfl, ⟨R4, ha4, hp4, hk4⟩, f4⟩
  have H4 := hid (H3.out.arch ha4 hk4 f4)
  have HP4 := hid hp4
  have HK4 := hid (HK3.out.trans hk4)
  have F4 := hid (F3.out.trans (rngZ (by have := HLE.out; omega) f4))
  have hc := two_any (v := tx.length) ha4 hp4 (by have := HLL.out; omega) (by have := HLL.out; have := HT2.out dt.size; simp [bytesOf_len]; omega)
  unfold ptrV at hc
  have HC4 := hid hc
  clear hc ha4 hp4 hk4 f4 HC3
  go_wp2_with fail
  refine HC4.out.mono ?_
  rintro e w5 ⟨rfl, ⟨R5, ha5, hp5, hk5⟩, f5⟩
  have H5 := hid (H4.out.arch ha5 hk5 f5)
  have HP5 := hid hp5
  have HK5 := hid (HK4.out.trans hk5)
  have F5 := hid (F4.out.trans (rngZ (by have := HLE.out; omega) f5))
  have hc := two_any (v := sm) ha5 hp5 (by have := HLL.out; omega) (by have := HLL.out; have := HT2.out dt.size; have := HT2.out tx.length; simp [bytesOf_len]; omega)
  unfold ptrV at hc
  have HC5 := hid hc
  clear hc ha5 hp5 hk5 f5 HC4
  go_wp2_with fail
  refine HC5.out.mono ?_
  rintro e w6 ⟨rfl, ⟨R6, ha6, hp6, hk6⟩, f6⟩
  have H6 := hid (H5.out.arch ha6 hk6 f6)
  have HP6 := hid hp6
  have HK6 := hid (HK5.out.trans hk6)
  have F6 := hid (F5.out.trans (rngZ (by have := HLE.out; omega) f6))
  have hc := layS_any (s := strN tx) ha6 hp6 (by have := HLL.out; have := HT2.out dt.size; have := HT2.out tx.length; have := HT2.out sm; simp [bytesOf_len]; omega) (by have := HLL.out; have := HT2.out dt.size; have := HT2.out tx.length; have := HT2.out sm; simp [bytesOf_len]; omega)
  unfold ptrV at hc
  have HC6 := hid hc
  clear hc ha6 hp6 hk6 f6 HC5
  go_wp2_with fail
  refine HC6.out.mono ?_
  rintro e w7 ⟨rfl, ⟨R7, ha7, hp7, hk7⟩, f7⟩
  have H7 := hid (H6.out.arch ha7 hk7 f7)
  have HP7 := hid hp7
  have HK7 := hid (HK6.out.trans hk7)
  have F7 := hid (F6.out.trans (rngZ (by have := HLE.out; omega) f7))
  clear ha7 hp7 hk7 f7 HC6
  go_wp2_with fail
  go_end0
  exact hK.out _ _ ⟨rfl, ⟨R7, H7.out, by rw [HREC.out]; exact HP7.out, HK7.out.offs⟩, F7.out⟩
end Go.Proofs.Qxb6500353aGreat
