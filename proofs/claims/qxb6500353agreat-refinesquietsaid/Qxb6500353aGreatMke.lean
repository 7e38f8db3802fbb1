/- The model's encoder: Emit, walked. -/
import Derived.Test.Qxb6500353aGreatMkb
import Derived.Test.Qxb6500353aGreatMkd
import Derived.Test.Qxb6500353aGreatBkg
import Derived.Test.Qxb6500353aGreatMbw
namespace Go.Proofs.Qxb6500353aGreat
open Go.RowKit
set_option linter.unusedVariables false
set_option linter.unusedSimpArgs false

/-- A growing tape, seen from a world wB where it stood at aB. -/
def EmS (b : Nat) (wB : World) (aB : Option Addr) (w : World) (T : Tp) : Prop := ∃ ad cap, MTp w b ad cap T ∧ Gr b wB aB w ad
theorem EmS.start {w : World} {b cap : Nat} {ad : Option Addr} {T : Tp} (h : MTp w b ad cap T) : EmS b w ad w T := ⟨ad, cap, h, Gr.refl _ _ _⟩
theorem EmS.put {b : Nat} {wB w : World} {aB : Option Addr} {T : Tp} (h : EmS b wB aB w T) {v k : Nat} (hk : k ≤ 16) (hv : v < 2 ^ k) (hn : T.n + k ≤ 4096) :
    Calls Tryz.prog 103 #[.pointer (some ⟨b, 0, none⟩), .int .i64 v, .int .i64 k] w fun e w' => e = .returned (.int .i64 0) ∧ EmS b wB aB w' (T.put v k) := by
  obtain ⟨ad, cap, h1, h2⟩ := h
  refine (mput_any h1 hk hv hn).mono ?_
  rintro e w' ⟨rfl, ad2, cap2, h3, h4⟩
  exact ⟨rfl, ad2, cap2, h3, h2.trans h4⟩
theorem EmS.nob {b : Nat} {wB w w2 : World} {aB : Option Addr} {T : Tp} (h : EmS b wB aB w T) (hf : Fr Nob w w2) : EmS b wB aB w2 T := by
  obtain ⟨ad, cap, h1, h2⟩ := h
  exact ⟨ad, cap, h1.fr hf (fun x => x) (fun _ _ x => x), h2.trans (Gr.nob hf)⟩
theorem EmS.pad {b : Nat} {wB w : World} {aB : Option Addr} {T : Tp} (h : EmS b wB aB w T) :
    Calls Tryz.prog 104 #[.pointer (some ⟨b, 0, none⟩)] w fun e w' => e = .returned (.tuple #[]) ∧ EmS b wB aB w' T.pad := by
  obtain ⟨ad, cap, h1, h2⟩ := h
  refine (mpad_any h1).mono ?_
  rintro e w' ⟨rfl, ad2, cap2, h3, h4⟩
  exact ⟨rfl, ad2, cap2, h3, h2.trans h4⟩
theorem EmS.text {b : Nat} {wB w : World} {aB : Option Addr} {T : Tp} (h : EmS b wB aB w T) :
    Calls Tryz.prog 105 #[.pointer (some ⟨b, 0, none⟩)] w fun e w' => e = .returned (.string (strN T.text)) ∧ Fr Nob w w' := by
  obtain ⟨ad, cap, h1, h2⟩ := h
  exact mtext_any h1
theorem EmS.cel {α : Type} {mk : α → Value} {b x o n : Nat} {f : Nat → α} {wB w : World} {aB : Option Addr} {T : Tp} (h : EmS b wB aB w T) (hc : Cel mk wB x o n f) (ha : Apart b aB wB x) : Cel mk w x o n f := by
  obtain ⟨ad, cap, h1, h2⟩ := h
  exact hc.gr ha h2
theorem EmS.puts {b : Nat} {wB w : World} {aB : Option Addr} {T : Tp} (h : EmS b wB aB w T) {a g1 g2 : Nat} {l : List Nat} (hc : McR wB a g1 g2 l) (hap : ApC b aB wB a g1 g2) (hl : l.length ≤ 265) (h10 : ∀ s, len l s ≤ 10) {s : Nat} (hs : 0 < len l s) (hn : T.n + len l s ≤ 4096) :
    Calls Tryz.prog 107 #[.pointer (some ⟨b, 0, none⟩), .pointer (some ⟨a, 0, none⟩), .int .i64 s] w fun e w' => e = .returned (.tuple #[]) ∧ EmS b wB aB w' (T.put (code l s) (len l s)) := by
  obtain ⟨ad, cap, h1, h2⟩ := h
  refine (mputs_any h1 (hc.gr hap h2) hl h10 hs hn).mono ?_
  rintro e w' ⟨rfl, ad2, cap2, h3, h4⟩
  exact ⟨rfl, ad2, cap2, h3, h2.trans h4⟩
/-- Back to an earlier world. -/
theorem EmS.back {b : Nat} {wA wB w : World} {aA aB : Option Addr} {T : Tp} (h : EmS b wB aB w T) (hg : Gr b wA aA wB aB) : EmS b wA aA w T := by
  obtain ⟨ad, cap, h1, h2⟩ := h
  exact ⟨ad, cap, h1, hg.trans h2⟩
theorem OwnN.gr {b cap n cp N : Nat} {w0 w w2 : World} {ad adI ad2 : Option Addr} {T : Tp} {l : List Nat} (h : OwnN w N adI n cp l) (hm : MTp w0 b ad cap T) (hN : w0.heap.size ≤ N) (g : Gr b w ad w2 ad2) : OwnN w2 N adI n cp l := by
  refine h.fr g.fr fun x hx e => ?_
  have h1 := (h.lt hx).1
  rcases e with e | e
  · have := hm.lt; omega
  · have := (hm.own.lt e).2; omega
theorem OwnN.at3 {w : World} {base n cap : Nat} {ad : Option Addr} {l : List Nat} (h : OwnN w base ad n cap l) (i : Nat) (hi : i + 2 < n) : ∃ g, ad = some ⟨g, 0, none⟩ ∧ w.cell? ⟨g, i, none⟩ = some (.int .i64 ((l.getD i 0 : Nat) : Int)) ∧ w.cell? ⟨g, i + 1, none⟩ = some (.int .i64 ((l.getD (i + 1) 0 : Nat) : Int)) ∧ w.cell? ⟨g, i + 2, none⟩ = some (.int .i64 ((l.getD (i + 2) 0 : Nat) : Int)) := by
  obtain ⟨g, e, c⟩ := h.at i (by omega)
  obtain ⟨g2, e2, c2⟩ := h.at (i + 1) (by omega)
  obtain ⟨g3, e3, c3⟩ := h.at (i + 2) (by omega)
  rw [e] at e2 e3
  simp only [Option.some.injEq, Addr.mk.injEq, and_true] at e2 e3
  subst e2; subst e3
  exact ⟨g, e, c, c2, c3⟩
theorem itemPuts_take (its : List Item) (k : Nat) (hk : k < its.length) (T : Tp) : puts T ((its.take (k + 1)).flatMap itemPuts) = ((puts T ((its.take k).flatMap itemPuts)).put (its[k]'hk).x 4).put (its[k]'hk).v (its[k]'hk).more := by
  rw [List.take_add_one, List.getElem?_eq_getElem hk, List.flatMap_append, puts_append]
  simp [itemPuts, puts]
theorem tokPuts_take (la lb : List Nat) (ts : List Tok) (k : Nat) (hk : k < ts.length) (T : Tp) : puts T ((ts.take (k + 1)).flatMap (tokPuts la lb)) = puts (puts T ((ts.take k).flatMap (tokPuts la lb))) (tokPuts la lb (ts[k]'hk)) := by
  rw [List.take_add_one, List.getElem?_eq_getElem hk, List.flatMap_append, puts_append]
  simp
theorem lt16 {x y : Nat} (h : x < y) (e : y = 2 ^ 16) : x < 2 ^ 16 := e ▸ h
/-- The stored text. -/
theorem stoPuts_take (s : List Nat) (k : Nat) (hk : k < s.length) (T : Tp) : puts T ((s.length, 16) :: ((s.take (k + 1)).map fun b => (b, 8))) = (puts T ((s.length, 16) :: ((s.take k).map fun b => (b, 8)))).put (s[k]'hk) 8 := by
  rw [List.take_add_one, List.getElem?_eq_getElem hk, List.map_append, ← List.cons_append, puts_append]
  simp [puts]
theorem stoPuts_n (s : List Nat) (k : Nat) (hk : k ≤ s.length) (T : Tp) : (puts T ((s.length, 16) :: ((s.take k).map fun b => (b, 8)))).n = T.n + 16 + 8 * k := by
  have h : ∀ l : List Nat, putBits (l.map fun b => (b, 8)) = 8 * l.length := by
    intro l; induction l with
    | nil => rfl
    | cons x xs ih => simp only [putBits, List.map_cons, List.sum_cons, List.length_cons] at *; rw [ih]; omega
  rw [puts_eq]; dsimp only
  have e : putBits ((s.length, 16) :: ((s.take k).map fun b => (b, 8))) = 16 + putBits ((s.take k).map fun b => (b, 8)) := by simp [putBits]
  rw [e, h, List.length_take, Nat.min_eq_left hk]; omega
set_option maxRecDepth 100000 in
set_option maxHeartbeats 4000000 in
theorem emit_sto {w : World} {s : ByteArray} (hs : s.size ≤ 256) {ts lv : Value} {tsF : List Tok} {la lb : List Nat} :
    Calls Tryz.prog 69 #[.int .i64 0, .string s, ts, lv] w fun e w' => e = .returned (.string (strN (emitF 0 (bytesOf s) tsF la lb).text)) ∧ Fr Nob w w' := by
  have hsi : (s.size : Int) ≤ 256 := by omega
  have hb := bytesOf_lt s
  have hln := bytesOf_len s
  have hem : emitF 0 (bytesOf s) tsF la lb = puts (puts Tp.nil [(1, 1), (0, 2)]).pad (stoPuts (bytesOf s)) := rfl
  rw [hem]
  obtain ⟨T4, hT4⟩ : ∃ T, T = (puts Tp.nil [(1, 1), (0, 2)]).pad := ⟨_, rfl⟩
  have hn4 : T4.n ≤ 16 := by rw [hT4]; decide
  rw [← hT4]
  have HT4 := hid hT4
  have HN4 := hid hn4
  clear hem hT4 hn4
  obtain ⟨S, hS⟩ : ∃ S, S = bytesOf s := ⟨_, rfl⟩
  rw [← hS] at hb hln ⊢
  have HS := hid hS
  have HB := hid hb
  have HLN := hid hln
  clear hS hb hln
  refine calls_via fun K hK => ?_
  go_enter Tryz.func69, Tryz.ntmps69
  go_wp2_with fail
  refine (newBm_any w).mono ?_
  rintro e w1 ⟨rfl, h1, hf1, hs1⟩
  obtain ⟨b, hbb⟩ : ∃ b, b = w.heap.size := ⟨_, rfl⟩
  unfold ptrV
  rw [← hbb] at h1 ⊢
  have HM1 := hid h1
  have HF1 := hid hf1
  have HBB := hid hbb
  have HEND : Hid (∀ {w2 : World} {T : Tp}, EmS b w1 none w2 T → Fr Nob w w2) := hid fun ⟨ad, cap, h3, h4⟩ => Gr.nobs HM1.out (by rw [HBB.out]; exact Nat.le_refl _) h4 HF1.out
  have HP1 := hid ((EmS.start h1).put (v := 1) (k := 1) (by omega) (by decide) (by decide))
  clear h1 hf1 hs1 hbb
  go_wp2_with fail
  refine HP1.out.mono ?_
  rintro e w2 ⟨rfl, h2⟩
  have HP2 := hid (h2.put (v := 0) (k := 2) (by omega) (by decide) (by decide))
  clear h2
  go_wp2_with fail
  refine HP2.out.mono ?_
  rintro e w3 ⟨rfl, h3⟩
  have HP3 := hid h3.pad
  clear h3
  go_wp2_with fail
  refine HP3.out.mono ?_
  rintro e w4 ⟨rfl, h4⟩
  have e4 : ((Tp.nil.put 1 1).put 0 2).pad = T4 := HT4.out.symm
  rw [e4] at h4
  have hz4 := h4.put (v := s.size) (k := 16) (by omega) (lt16 (y := 65536) (by omega) (by decide)) (by have := HN4.out; omega)
  have HP4 := hid hz4
  clear h4 e4 hz4
  go_wp2_with fail
  refine HP4.out.mono ?_
  rintro e w5 ⟨rfl, h5⟩
  have e5 : T4.put s.size 16 = puts T4 ((S.length, 16) :: ((S.take 0).map fun b => (b, 8))) := by rw [HLN.out]; rfl
  rw [e5] at h5
  have H5 := hid h5
  clear h5 e5
  go_wp2_with fail
  go_loopg [10] s.size (fun g v wr => ∃ k : Nat, v = .int .i64 (k : Nat) ∧ g + k = s.size ∧ EmS b w1 none wr (puts T4 ((S.length, 16) :: ((S.take k).map fun b => (b, 8)))))
  case atStart => exact ⟨0, rfl, by omega, H5.out⟩
  case round =>
    obtain ⟨k, rfl, hg, hE⟩ := hrel
    have HG := hid hg
    by_cases hk : k < s.size
    · have hki : (k : Int) < s.size := by omega
      have hkl : k < S.length := by rw [HLN.out]; exact hk
      have hnx := stoPuts_take S k hkl T4
      have hnn := stoPuts_n S k (by omega) T4
      have hby := HB.out _ (List.getElem_mem hkl)
      have b1 := byteI s hk
      rw [← HS.out] at b1
      have hge : (S[k]'hkl) = by_ S k := by
        unfold by_; rw [List.getD_eq_getElem?_getD, List.getElem?_eq_getElem hkl]; rfl
      rw [hge] at hnx hby
      obtain ⟨x, hx⟩ : ∃ x, x = by_ S k := ⟨_, rfl⟩
      rw [← hx] at b1 hby hnx
      have hxi : (x : Int) < 256 := by omega
      have hp := hE.put (v := x) (k := 8) (by omega) hby (by rw [hnn]; have := HN4.out; omega)
      have HP := hid hp
      have HNX := hid hnx
      clear hg hE hnx hnn hby hge hp hx
      go_wp2_with fail
      refine HP.out.mono ?_
      rintro e w6 ⟨rfl, h6⟩
      have H6 := hid h6
      clear h6
      go_wp2_with fail
      go_roundg (gk - 1)
      case measure => have := HG.out; omega
      case rel => exact ⟨k + 1, by simp, by have := HG.out; omega, by rw [HNX.out]; exact H6.out⟩
    · have hki : ¬ (k : Int) < s.size := by omega
      have hkn : k = s.size := by omega
      have e : S.take k = S := by rw [hkn, ← HLN.out]; exact List.take_of_length_le (Nat.le_refl _)
      rw [e] at hE
      have HE := hid hE
      have HT := hid hE.text
      clear hg hE e hkn
      go_wp2_with fail
      refine HT.out.mono ?_
      rintro e w6 ⟨rfl, hf6⟩
      have HF6 := hid hf6
      clear hf6
      go_wp2_with fail
      exact hK.out _ _ ⟨rfl, (HEND.out HE.out).trans HF6.out⟩
end Go.Proofs.Qxb6500353aGreat
