/- The matcher: Parse, New, walked. -/
import Derived.Test.Qxb6500353aGreatLze
import Derived.Test.Qxb6500353aGreatCpv
namespace Go.Proofs.Qxb6500353aGreat
open Go.RowKit
set_option linter.unusedVariables false
set_option linter.unusedSimpArgs false

theorem Tryz.info168 : (Tryz.prog.info? 168).map (fun i => (i.zero, i.size, i.bytes)) = some (some (.agg #[.int .i64 0, .int .i64 0, .int .i64 0]), 3, 24) := by kernel_rfl
theorem Tryz.size168 : (Tryz.prog.info? 168).map (·.size) = some 3 := by kernel_rfl
/-- The cells of tokens, one behind the other. -/
def tokL (t : Tok) : List Value := [mkN t.len, mkN t.dist, mkN t.lit]
def tokF (ts : List Tok) (i : Nat) : Value := (ts.flatMap tokL).getD i undef
theorem tokL_length (ts : List Tok) : (ts.flatMap tokL).length = ts.length * 3 := by
  induction ts with
  | nil => rfl
  | cons t ts ih => rw [List.flatMap_cons, List.length_append, ih]; simp [tokL]; omega
theorem tokF_at {ts : List Tok} : ∀ {k : Nat} {t : Tok}, ts[k]? = some t → tokF ts (k * 3) = mkN t.len ∧ tokF ts (k * 3 + 1) = mkN t.dist ∧ tokF ts (k * 3 + 2) = mkN t.lit := by
  induction ts with
  | nil => intro k t h; simp at h
  | cons u ts ih =>
    intro k t h
    cases k with
    | zero =>
      simp at h; subst h
      exact ⟨rfl, rfl, rfl⟩
    | succ k =>
      rw [List.getElem?_cons_succ] at h
      have h1 := ih h
      have e : ∀ j, tokF (u :: ts) ((k + 1) * 3 + j) = tokF ts (k * 3 + j) := by
        intro j
        unfold tokF
        rw [List.flatMap_cons, List.getD_eq_getElem?_getD, List.getElem?_append_right (by simp [tokL]; omega), List.getD_eq_getElem?_getD]
        congr 2
        simp [tokL]; omega
      have e0 := e 0
      simp only [Nat.add_zero] at e0
      rw [e0, e 1, e 2]; exact h1
theorem TokRow.eq {f : Nat → Value} {ts : List Tok} (h : TokRow f ts) (i : Nat) (hi : i < ts.length * 3) : f i = tokF ts i := by
  have hk : i / 3 < ts.length := by omega
  have h1 := h (i / 3) _ (List.getElem?_eq_getElem hk)
  have h2 := tokF_at (List.getElem?_eq_getElem hk)
  have : i = i / 3 * 3 ∨ i = i / 3 * 3 + 1 ∨ i = i / 3 * 3 + 2 := by omega
  rcases this with e | e | e
  · rw [e, h1.1, h2.1]
  · rw [e, h1.2.1, h2.2.1]
  · rw [e, h1.2.2, h2.2.2]
theorem tokF_one (ts : List Tok) (i : Nat) (hi : i < ts.length * 3) : (tokF ts i).oneCell' = true := by
  have hk : i / 3 < ts.length := by omega
  have h2 := tokF_at (List.getElem?_eq_getElem hk)
  have : i = i / 3 * 3 ∨ i = i / 3 * 3 + 1 ∨ i = i / 3 * 3 + 2 := by omega
  rcases this with e | e | e
  · rw [e, h2.1]; rfl
  · rw [e, h2.2.1]; rfl
  · rw [e, h2.2.2]; rfl

set_option maxRecDepth 100000 in
set_option maxHeartbeats 4000000 in
theorem mtparse_any {w : World} {b : Nat} {R : MtR} (h : MtAt w b R) {s : ByteArray} (hs : s.size ≤ 256) {lv : Nat} (hlv : lv ≤ 2) :
    Calls Tryz.prog 86 #[ptrV b, .string s, .int .i64 lv] w fun e w' => ∃ N, w.heap.size ≤ N ∧ e = .returned (.tuple #[.slice (some ⟨N, 0, none⟩) (parseP (bytesOf s) lv 0).length (parseP (bytesOf s) lv 0).length, .int .i64 0]) ∧ (∃ R', MtAt w' b R') ∧ Arr 168 mkV w' N ((parseP (bytesOf s) lv 0).length * 3) (tokF (parseP (bytesOf s) lv 0)) ∧ Fr (Rng b (b + 4)) w w' := by
  have cn := h.c_n
  have cp := h.c_probes
  have zf : ∀ i, w.frozen? ⟨b, i, none⟩ = false := h.fz
  have H1 := hid ((h.set_probes 0).set_n 0)
  have s0 : Rng b (b + 4) b := ⟨by omega, by omega⟩
  have HF1 := hid (((Fr.refl (Rng b (b + 4)) w).setS s0 4 (.int .i64 0)).setS s0 3 (.int .i64 0))
  have hsi : (s.size : Int) ≤ 256 := by omega
  have hlvi : (lv : Int) ≤ 2 := by omega
  have HLEN := hid (tokRun_len (bytesOf s) _ 0 (parse_run (bytesOf s) lv _ 0 rfl (Nat.zero_le _)))
  rw [bytesOf_len] at HLEN
  obtain ⟨ts, hts⟩ : ∃ ts, ts = parseP (bytesOf s) lv 0 := ⟨_, rfl⟩
  rw [← hts] at HLEN ⊢
  have HB := hid (h.lt)
  refine calls_via fun K hK => ?_
  -- the end, whatever the way
  have HEND : Hid (∀ (w2 : World) (R2 : MtR), MtAt w2 b R2 → R2.n = ts.length → TokRow R2.toks ts → Fr (Rng b (b + 4)) w w2 → ∃ n : Nat, w2.cell? ⟨b, 3, none⟩ = some (.int .i64 n) ∧ n = ts.length ∧ w2.cell? ⟨b, 2, none⟩ = some (.slice (some ⟨b + 3, 0, none⟩) 256 256)) := hid (by
    intro w2 R2 h2 hn ht hf
    exact ⟨R2.n, h2.c_n, hn, h2.p_toks⟩)
  have HFIN : Hid (∀ (w2 w3 w4 : World) (R2 : MtR) (n M : Nat) (f : Nat → Value), w2.heap.size = M → n = ts.length → TokRow R2.toks ts → Fr (Rng b (b + 4)) w w2 → Fr (Rng b (b + 4)) w w3 → MtAt w3 b R2 → Arr 168 mkV w4 M (n * 3) (fun i => if i < n * 3 then R2.toks i else f i) → Fr (One M) w3 w4 →
      K (.returned (.tuple #[.slice (some ⟨M, 0, none⟩) n n, .int .i64 0])) w4) := hid (by
    intro w2 w3 w4 R2 n M f hM hn ht hf2 hf3 h3 ha4 hf4
    have hle : w.heap.size ≤ M := by rw [← hM]; exact hf2.size
    have hb := HB.out
    refine hK.out _ _ ⟨M, hle, by rw [← hn], ⟨R2, h3.fr hf4 (fun k h1 h2 h3 => by unfold One at h3; omega)⟩, ?_, hf3.trans2 hf4 (fun x hx hl => by unfold One at hx; omega)⟩
    rw [← hn]
    exact ha4.congr fun i hi => by rw [if_pos hi]; exact ht.eq i (by rw [← hn]; exact hi))
  clear h
  unfold ptrV
  go_enter Tryz.func86, Tryz.ntmps86
  have : lv = 0 ∨ lv = 1 ∨ lv = 2 := by omega
  rcases this with e | e | e
  · subst e
    have HP := hid (mtplain_any H1.out hs rfl)
    unfold ptrV at HP
    rw [← hts] at HP
    clear hts
    go_wp2_with (first
      | (go_at_call 115; refine HP.out.mono ?_; rintro e w2 ⟨rfl, ⟨R2, h2, hn, ht⟩, hf2⟩; have HF2 := hid (HF1.out.trans2 hf2 (fun x hx _ => hx)); have H2 := hid h2; have HT := hid ht; obtain ⟨n, c3, hnn, c2⟩ := HEND.out w2 R2 h2 hn ht HF2.out; have HN := hid hnn; have hn256 : (n : Int) ≤ 256 := (by have := HLEN.out; omega); obtain ⟨M, hM⟩ : ∃ M, w2.heap.size = M := ⟨_, rfl⟩; have HM := hid hM; clear h2 hn ht hf2 hnn hM)
      | (at_make; refine wp_mkg rfl _ _ 69 168 3 24 _ rfl Tryz.underlying69 Tryz.info168 rfl n n n n M HM.out rfl rfl rfl rfl (Nat.le_refl _) (by omega) (by omega) ?_; intro w3 hs3 ha3 hf3; have H3 := hid (H2.out.fr hf3 (fun _ _ _ x => x)); have c3' := hf3.cell c3 (fun x => x); have c2' := hf3.cell c2 (fun x => x); have HF3 := hid (HF2.out.trans2 hf3 (fun x hx _ => hx.elim)); have HA3 := hid ha3; clear ha3 hf3 hs3))
    clear c3 c2
    go_region_law (refine step_cpg rfl _ _ 69 69 168 3 rfl Tryz.underlying69 Tryz.size168 M (n * 3) n n n 256 (some ⟨b + 3, 0, none⟩) (x := R2.toks) rfl rfl HA3.out.drew (Nat.le_refl _) (Nat.le_refl _) (.inr ⟨b + 3, 0, rfl, fun i hi => H3.out.a_toks.drew.cel i (by omega)⟩) (fun i hi => by rw [HT.out.eq i (by rw [← HN.out]; exact hi)]; exact tokF_one _ _ (by rw [← HN.out]; exact hi)) ?_; intro w4 ha4 hs4 hf4; have HA4 := hid ha4; have HF4 := hid hf4; clear ha4 hs4 hf4)
    all_goals go_wp2_with fail
    all_goals exact HFIN.out w2 w3.drew w4 R2 n M _ HM.out HN.out HT.out HF2.out HF3.out.drew H3.out.drew HA4.out HF4.out
  · subst e
    have HWI := hid (mtwipe_any H1.out)
    have HTS := hid hts
    unfold ptrV at HWI
    clear hts
    go_wp2_with (first
      | (go_at_call 23; refine HWI.out.mono ?_; rintro e w1 ⟨rfl, h1, hf1⟩; have h9 := greedy_any h1 hs rfl (Chains.start _ (fun _ _ => rfl)); rw [← HTS.out] at h9; unfold ptrV at h9; have HP := hid h9; have HFW := hid (HF1.out.trans2 hf1 (fun x hx _ => by unfold One at hx; subst hx; exact ⟨by omega, by omega⟩)); clear h1 hf1 h9)
      | (go_at_call 116; refine HP.out.mono ?_; rintro e w2 ⟨rfl, ⟨R2, h2, hn, ht⟩, hf2⟩; have HF2 := hid (HFW.out.trans2 hf2 (fun x hx _ => hx)); have H2 := hid h2; have HT := hid ht; obtain ⟨n, c3, hnn, c2⟩ := HEND.out w2 R2 h2 hn ht HF2.out; have HN := hid hnn; have hn256 : (n : Int) ≤ 256 := (by have := HLEN.out; omega); obtain ⟨M, hM⟩ : ∃ M, w2.heap.size = M := ⟨_, rfl⟩; have HM := hid hM; clear h2 hn ht hf2 hnn hM)
      | (at_make; refine wp_mkg rfl _ _ 69 168 3 24 _ rfl Tryz.underlying69 Tryz.info168 rfl n n n n M HM.out rfl rfl rfl rfl (Nat.le_refl _) (by omega) (by omega) ?_; intro w3 hs3 ha3 hf3; have H3 := hid (H2.out.fr hf3 (fun _ _ _ x => x)); have c3' := hf3.cell c3 (fun x => x); have c2' := hf3.cell c2 (fun x => x); have HF3 := hid (HF2.out.trans2 hf3 (fun x hx _ => hx.elim)); have HA3 := hid ha3; clear ha3 hf3 hs3))
    clear c3 c2
    go_region_law (refine step_cpg rfl _ _ 69 69 168 3 rfl Tryz.underlying69 Tryz.size168 M (n * 3) n n n 256 (some ⟨b + 3, 0, none⟩) (x := R2.toks) rfl rfl HA3.out.drew (Nat.le_refl _) (Nat.le_refl _) (.inr ⟨b + 3, 0, rfl, fun i hi => H3.out.a_toks.drew.cel i (by omega)⟩) (fun i hi => by rw [HT.out.eq i (by rw [← HN.out]; exact hi)]; exact tokF_one _ _ (by rw [← HN.out]; exact hi)) ?_; intro w4 ha4 hs4 hf4; have HA4 := hid ha4; have HF4 := hid hf4; clear ha4 hs4 hf4)
    all_goals go_wp2_with fail
    all_goals exact HFIN.out w2 w3.drew w4 R2 n M _ HM.out HN.out HT.out HF2.out HF3.out.drew H3.out.drew HA4.out HF4.out
  · subst e
    have HWI := hid (mtwipe_any H1.out)
    have HTS := hid hts
    unfold ptrV at HWI
    clear hts
    go_wp2_with (first
      | (go_at_call 23; refine HWI.out.mono ?_; rintro e w1 ⟨rfl, h1, hf1⟩; have h9 := lazy_any h1 hs rfl (Chains.start _ (fun _ _ => rfl)); rw [← HTS.out] at h9; unfold ptrV at h9; have HP := hid h9; have HFW := hid (HF1.out.trans2 hf1 (fun x hx _ => by unfold One at hx; subst hx; exact ⟨by omega, by omega⟩)); clear h1 hf1 h9)
      | (go_at_call 117; refine HP.out.mono ?_; rintro e w2 ⟨rfl, ⟨R2, h2, hn, ht⟩, hf2⟩; have HF2 := hid (HFW.out.trans2 hf2 (fun x hx _ => hx)); have H2 := hid h2; have HT := hid ht; obtain ⟨n, c3, hnn, c2⟩ := HEND.out w2 R2 h2 hn ht HF2.out; have HN := hid hnn; have hn256 : (n : Int) ≤ 256 := (by have := HLEN.out; omega); obtain ⟨M, hM⟩ : ∃ M, w2.heap.size = M := ⟨_, rfl⟩; have HM := hid hM; clear h2 hn ht hf2 hnn hM)
      | (at_make; refine wp_mkg rfl _ _ 69 168 3 24 _ rfl Tryz.underlying69 Tryz.info168 rfl n n n n M HM.out rfl rfl rfl rfl (Nat.le_refl _) (by omega) (by omega) ?_; intro w3 hs3 ha3 hf3; have H3 := hid (H2.out.fr hf3 (fun _ _ _ x => x)); have c3' := hf3.cell c3 (fun x => x); have c2' := hf3.cell c2 (fun x => x); have HF3 := hid (HF2.out.trans2 hf3 (fun x hx _ => hx.elim)); have HA3 := hid ha3; clear ha3 hf3 hs3))
    clear c3 c2
    go_region_law (refine step_cpg rfl _ _ 69 69 168 3 rfl Tryz.underlying69 Tryz.size168 M (n * 3) n n n 256 (some ⟨b + 3, 0, none⟩) (x := R2.toks) rfl rfl HA3.out.drew (Nat.le_refl _) (Nat.le_refl _) (.inr ⟨b + 3, 0, rfl, fun i hi => H3.out.a_toks.drew.cel i (by omega)⟩) (fun i hi => by rw [HT.out.eq i (by rw [← HN.out]; exact hi)]; exact tokF_one _ _ (by rw [← HN.out]; exact hi)) ?_; intro w4 ha4 hs4 hf4; have HA4 := hid ha4; have HF4 := hid hf4; clear ha4 hs4 hf4)
    all_goals go_wp2_with fail
    all_goals exact HFIN.out w2 w3.drew w4 R2 n M _ HM.out HN.out HT.out HF2.out HF3.out.drew H3.out.drew HA4.out HF4.out
end Go.Proofs.Qxb6500353aGreat
