/- The matcher: lit, dup, plain, walked. -/
import Derived.Test.Qxb6500353aGreatLza
namespace Go.Proofs.Qxb6500353aGreat
open Go.RowKit
set_option linter.unusedVariables false
set_option linter.unusedSimpArgs false

def putT (R : MtR) (t : Tok) : MtR := { R with toks := upd (upd (upd R.toks (R.n * 3) (mkN t.len)) (R.n * 3 + 1) (mkN t.dist)) (R.n * 3 + 2) (mkN t.lit), n := R.n + 1 }
theorem MtAt.put3 {w : World} {b : Nat} {R : MtR} (h : MtAt w b R) (i : Nat) (x y z : Nat) :
    MtAt (((w.setCell ⟨b + 3, i, none⟩ (.int .i64 (x : Nat))).setCell ⟨b + 3, i + 1, none⟩ (.int .i64 (y : Nat))).setCell ⟨b + 3, i + 2, none⟩ (.int .i64 (z : Nat))) b { R with toks := upd (upd (upd R.toks i (mkN x)) (i + 1) (mkN y)) (i + 2) (mkN z) } :=
  ((h.set_toks i (mkN x)).set_toks (i + 1) (mkN y)).set_toks (i + 2) (mkN z)
set_option maxRecDepth 100000 in
set_option maxHeartbeats 1000000 in
theorem lit_any {w : World} {b : Nat} {R : MtR} (h : MtAt w b R) {c : Nat} (hc : c < 256) (hn : R.n < 256) : Calls Tryz.prog 145 #[ptrV b, .int .u8 c] w fun e w' => e = .returned (.tuple #[]) ∧ MtAt w' b (putT R ⟨0, 0, c⟩) ∧ Fr (Rng b (b + 4)) w w' := by
  have H := hid h
  have c0 := h.p_toks
  have c1 := h.c_n
  have zf1 : ∀ i, w.frozen? ⟨b + 3, i, none⟩ = false := h.a_toks.thaw
  have zf2 : ∀ i, w.frozen? ⟨b, i, none⟩ = false := h.fz
  obtain ⟨n, hnn⟩ : ∃ n, n = R.n := ⟨_, rfl⟩
  rw [← hnn] at c1 hn
  have cp0 := h.a_toks.cell (n * 3) (by omega)
  have cp1 := h.a_toks.cell (n * 3 + 1) (by omega)
  have cp2 := h.a_toks.cell (n * 3 + 2) (by omega)
  have hni : (n : Int) < 256 := by omega
  have hci : (c : Int) < 256 := by omega
  have HN := hid hnn
  obtain ⟨y0, hy0⟩ : ∃ y, y = mkV (R.toks (n * 3)) := ⟨_, rfl⟩
  obtain ⟨y1, hy1⟩ : ∃ y, y = mkV (R.toks (n * 3 + 1)) := ⟨_, rfl⟩
  obtain ⟨y2, hy2⟩ : ∃ y, y = mkV (R.toks (n * 3 + 2)) := ⟨_, rfl⟩
  rw [← hy0] at cp0
  rw [← hy1] at cp1
  rw [← hy2] at cp2
  clear h hnn hc hy0 hy1 hy2
  refine calls_via fun K hK => ?_
  unfold ptrV
  go_enter Tryz.func145, Tryz.ntmps145
  go_wp2_with fail
  go_region
  go_wp2_with fail
  go_end0
  refine hK.out _ _ ⟨rfl, ?_, ?_⟩
  · have h2 := ((H.out.put3 (n * 3) 0 0 c).set_n (n + 1)).drew
    unfold putT
    rw [← HN.out]
    rw [Int.natCast_add] at h2
    exact h2
  · have s1 : Rng b (b + 4) (b + 3) := ⟨by omega, by omega⟩
    have s2 : Rng b (b + 4) b := ⟨by omega, by omega⟩
    repeat (first | with_reducible exact Fr.refl _ _ | with_reducible refine Fr.drew ?_ | with_reducible refine Fr.setS s1 ?_ _ _ | with_reducible refine Fr.setS s2 ?_ _ _)
set_option maxRecDepth 100000 in
set_option maxHeartbeats 1000000 in
theorem dup_any {w : World} {b : Nat} {R : MtR} (h : MtAt w b R) {n2 d : Nat} (hc : n2 < 256) (hc2 : d < 256) (hn : R.n < 256) : Calls Tryz.prog 147 #[ptrV b, .int .i64 n2, .int .i64 d] w fun e w' => e = .returned (.tuple #[]) ∧ MtAt w' b (putT R ⟨n2, d, 0⟩) ∧ Fr (Rng b (b + 4)) w w' := by
  have H := hid h
  have c0 := h.p_toks
  have c1 := h.c_n
  have zf1 : ∀ i, w.frozen? ⟨b + 3, i, none⟩ = false := h.a_toks.thaw
  have zf2 : ∀ i, w.frozen? ⟨b, i, none⟩ = false := h.fz
  obtain ⟨n, hnn⟩ : ∃ n, n = R.n := ⟨_, rfl⟩
  rw [← hnn] at c1 hn
  have cp0 := h.a_toks.cell (n * 3) (by omega)
  have cp1 := h.a_toks.cell (n * 3 + 1) (by omega)
  have cp2 := h.a_toks.cell (n * 3 + 2) (by omega)
  have hni : (n : Int) < 256 := by omega
  have hci : (n2 : Int) < 256 := by omega
  have hdi : (d : Int) < 256 := by omega
  have HN := hid hnn
  obtain ⟨y0, hy0⟩ : ∃ y, y = mkV (R.toks (n * 3)) := ⟨_, rfl⟩
  obtain ⟨y1, hy1⟩ : ∃ y, y = mkV (R.toks (n * 3 + 1)) := ⟨_, rfl⟩
  obtain ⟨y2, hy2⟩ : ∃ y, y = mkV (R.toks (n * 3 + 2)) := ⟨_, rfl⟩
  rw [← hy0] at cp0
  rw [← hy1] at cp1
  rw [← hy2] at cp2
  clear h hnn hc hc2 hy0 hy1 hy2
  refine calls_via fun K hK => ?_
  unfold ptrV
  go_enter Tryz.func147, Tryz.ntmps147
  go_wp2_with fail
  go_region
  go_wp2_with fail
  go_end0
  refine hK.out _ _ ⟨rfl, ?_, ?_⟩
  · have h2 := ((H.out.put3 (n * 3) n2 d 0).set_n (n + 1)).drew
    unfold putT
    rw [← HN.out]
    rw [Int.natCast_add] at h2
    exact h2
  · have s1 : Rng b (b + 4) (b + 3) := ⟨by omega, by omega⟩
    have s2 : Rng b (b + 4) b := ⟨by omega, by omega⟩
    repeat (first | with_reducible exact Fr.refl _ _ | with_reducible refine Fr.drew ?_ | with_reducible refine Fr.setS s1 ?_ _ _ | with_reducible refine Fr.setS s2 ?_ _ _)

/-- The cells of the tokens ts. -/
def TokRow (f : Nat → Value) (ts : List Tok) : Prop := ∀ k t, ts[k]? = some t → f (k * 3) = mkN t.len ∧ f (k * 3 + 1) = mkN t.dist ∧ f (k * 3 + 2) = mkN t.lit
theorem TokRow.nil (f : Nat → Value) : TokRow f [] := fun k t h => by simp at h
theorem TokRow.put {R : MtR} {ts : List Tok} (h : TokRow R.toks ts) (hn : R.n = ts.length) (t : Tok) : TokRow (putT R t).toks (ts ++ [t]) := by
  intro k u hu
  unfold putT
  dsimp only
  rw [List.getElem?_append] at hu
  by_cases hk : k < ts.length
  · rw [if_pos hk] at hu
    rw [hn, upd_ne _ _ _ _ (by omega), upd_ne _ _ _ _ (by omega), upd_ne _ _ _ _ (by omega), upd_ne _ _ _ _ (by omega), upd_ne _ _ _ _ (by omega), upd_ne _ _ _ _ (by omega), upd_ne _ _ _ _ (by omega), upd_ne _ _ _ _ (by omega), upd_ne _ _ _ _ (by omega)]
    exact h k u hu
  · rw [if_neg hk] at hu
    have hk2 : k - ts.length = 0 := by
      refine Classical.byContradiction fun hc => ?_
      rw [List.getElem?_eq_none (by simp; omega)] at hu; simp at hu
    have : k = ts.length := by omega
    subst this
    simp at hu
    subst hu
    rw [hn]
    refine ⟨?_, ?_, ?_⟩ <;> (unfold upd; simp)
/-- The tokens laid so far, i bytes done. -/
structure MtS (s : List Nat) (lv i : Nat) (R : MtR) (ts : List Tok) : Prop where
  n : R.n = ts.length
  row : TokRow R.toks ts
  eq : ts ++ parseP s lv i = parseP s lv 0
  le : ts.length ≤ i
theorem MtS.lit {s : List Nat} {lv i : Nat} {R : MtR} {ts : List Tok} (h : MtS s lv i R ts) (hi : i < s.length) (h0 : (takeF s lv i).1 = 0) : MtS s lv (i + 1) (putT R ⟨0, 0, by_ s i⟩) (ts ++ [⟨0, 0, by_ s i⟩]) := by
  refine ⟨by unfold putT; simp [h.n], h.row.put h.n _, ?_, by have := h.le; simp; omega⟩
  rw [← h.eq, parseP_lit s lv i hi h0]; simp
theorem MtS.dup {s : List Nat} {lv i n d : Nat} {R : MtR} {ts : List Tok} (h : MtS s lv i R ts) (hi : i < s.length) (h0 : takeF s lv i = (n, d)) (hn : n ≠ 0) : MtS s lv (i + n) (putT R ⟨n, d, 0⟩) (ts ++ [⟨n, d, 0⟩]) := by
  refine ⟨by unfold putT; simp [h.n], h.row.put h.n _, ?_, by have := h.le; simp; omega⟩
  have e1 : (takeF s lv i).1 = n := by rw [h0]
  have e2 : (takeF s lv i).2 = d := by rw [h0]
  rw [← h.eq, parseP_dup s lv i hi (by rw [e1]; exact hn), e1, e2]; simp
theorem MtS.fin {s : List Nat} {lv i : Nat} {R : MtR} {ts : List Tok} (h : MtS s lv i R ts) (hi : s.length ≤ i) : ts = parseP s lv 0 := by
  have := h.eq; rw [parseP_end s lv i hi, List.append_nil] at this; exact this
set_option maxRecDepth 100000 in
theorem mtplain_any {w : World} {b : Nat} {R : MtR} (h : MtAt w b R) {s : ByteArray} (hs : s.size ≤ 256) (h0 : R.n = 0) : Calls Tryz.prog 115 #[ptrV b, .string s] w fun e w' => e = .returned (.tuple #[]) ∧ (∃ R', MtAt w' b R' ∧ R'.n = (parseP (bytesOf s) 0 0).length ∧ TokRow R'.toks (parseP (bytesOf s) 0 0)) ∧ Fr (Rng b (b + 4)) w w' := by
  have H := hid h
  have H0 := hid h0
  have hsi : (s.size : Int) ≤ 256 := by omega
  clear h h0
  refine calls_via fun K hK => ?_
  unfold ptrV
  go_enter Tryz.func115, Tryz.ntmps115
  go_wp2_with fail
  go_loopg [4] s.size (fun g v wr => ∃ (k : Nat) (R2 : MtR) (ts : List Tok), v = .int .i64 (k : Nat) ∧ g + k = s.size ∧ MtAt wr b R2 ∧ MtS (bytesOf s) 0 k R2 ts ∧ Fr (Rng b (b + 4)) w wr)
  case atStart => exact ⟨0, R, [], rfl, by omega, H.out, ⟨H0.out, TokRow.nil _, rfl, by simp⟩, Fr.refl _ _⟩
  case round =>
    obtain ⟨k, R2, ts, rfl, hg, hA, hS, hf⟩ := hrel
    have HS := hid hS
    have HF := hid hf
    have HG := hid hg
    by_cases hlt : k < s.size
    · have hki : (k : Int) < s.size := by omega
      have b1 := byteI s hlt
      have h1 := byS_lt s k
      obtain ⟨x, hx⟩ : ∃ x, x = by_ (bytesOf s) k := ⟨_, rfl⟩
      rw [← hx] at b1 h1
      have HL := hid (lit_any hA h1 (by have := hS.n; have := hS.le; omega))
      unfold ptrV at HL
      have HX := hid hx
      clear hA hf hS hx hg
      go_wp2_with (go_at_call 145; refine HL.out.mono ?_; rintro e w2 ⟨rfl, h2, hf2⟩; have H2 := hid h2; have HF2 := hid hf2; clear h2 hf2)
      go_roundg (gk - 1)
      case measure => have := HG.out; omega
      case rel =>
        refine ⟨k + 1, _, ts ++ [⟨0, 0, x⟩], by simp, by have := HG.out; omega, H2.out, ?_, HF.out.trans2 HF2.out (fun x hx _ => hx)⟩
        rw [HX.out]
        exact HS.out.lit (by rw [bytesOf_len]; exact hlt) (by unfold takeF; simp)
    · have hki : ¬ (k : Int) < s.size := by omega
      have HA := hid hA
      have he := hS.fin (by rw [bytesOf_len]; omega)
      have HE := hid he
      clear hA hf hS hg he
      go_wp2_with fail
      go_end0
      refine hK.out _ _ ⟨rfl, ⟨R2, HA.out, ?_, ?_⟩, HF.out⟩
      · rw [← HE.out]; exact HS.out.n
      · rw [← HE.out]; exact HS.out.row
end Go.Proofs.Qxb6500353aGreat
