/- The law: Write, the entry that joins the list. -/
import Derived.Test.Qxb6500353aGreatDkx
namespace Go.Proofs.Qxb6500353aGreat
open Go.RowKit
set_option linter.unusedVariables false
set_option linter.unusedSimpArgs false

theorem step_appG {ops : Array Oper} {o : Oper} {a : Act} {w : World} {K : Act → World → Prop} {Q : Exit → Act → World → Prop} {E0 : Prop} (hgd : o.guard = none) (s x : Operand) (T E size bytes : Nat) (z : Value)
    (ho : o.op = .call { callee := .builtin .append, args := #[s, x], argTypes := #[T, T] }) (hu : Tryz.prog.underlying T = some (.slice E)) (hinfo : (Tryz.prog.info? E).map (fun i => (i.zero, i.size, i.bytes)) = some (some z, size, bytes)) (hz : z.cells.size = size) (hsz : 0 < size) (hby : bytes ≤ 1000)
    (base : Nat) (ad : Option Addr) (n cap : Nat) (l ys : List Value) (hs : a.eval s = .slice ad n cap) (hown : OwnG w base E size ad n cap l)
    (N c : Nat) (hx : a.eval x = .slice (some ⟨N, 0, none⟩) 1 c) (hyl : ys.length = size) (hc : ∀ j u, ys[j]? = some u → w.cell? ⟨N, j, none⟩ = some u) (h1 : ∀ u ∈ ys, u.oneCell' = true) (hn : n ≤ 1000000) (hb : base ≤ w.heap.size)
    (h : ∀ g cap' w', OwnG w' base E size (some ⟨g, 0, none⟩) (n + 1) cap' (l ++ ys) → Fr (Obs ad) w w' → (obk ad = some g ∨ g = w.heap.size) → K (a.put o.dst (.slice (some ⟨g, 0, none⟩) (n + 1) cap')) w') :
    if Region.wanted o (yielded ops a.tmps) = true then Oper.wp Tryz.prog o a w K Q else E0 := by
  obtain ⟨i0, hi, hz0, hz1, hz2⟩ := info_parts hinfo
  refine step_append_lies w hgd s x T ho base E i0 z size bytes hu hi hz0 hz1 hz2 hz hsz (.slice ad n cap) n l hs hown.own ⟨N, 0, none⟩ 1 c ys hx (by rw [hyl, Nat.one_mul]) ?_ h1 (by decide) (by unfold maxLen; omega) ?_ hb w.heap.size rfl ?_
  · intro j u hj
    rw [addrAdd, Nat.zero_add]; exact hc j u hj
  · exact Nat.le_trans (Nat.mul_le_mul (Nat.add_le_add_right hn 1) hby) (by omega)
  · intro g cap' w' h1 h2 h3 h4
    rw [own_obk] at h3
    exact h g cap' w' ⟨h1, by rw [List.length_append, hown.len, hyl, Nat.add_mul, Nat.one_mul]⟩ ((Fr.refl (Obs ad) w).grown h2 (fun k hk _ => by rw [own_obk] at hk; exact hk)) h3
theorem EntS.lt2 {w : World} {g : Nat} {ad : Option Addr} {es : List EB} (h : EntS w ad es) (hg : bl ad es.length = some g) : g < w.heap.size := by
  obtain ⟨e, h0⟩ := bl_some hg
  rcases h with h | ⟨g2, h1, h2, _⟩
  · rw [h] at e; exact absurd rfl e
  · rw [h1] at h0
    have h0 : some g2 = some g := h0
    injection h0 with h0
    subst h0; exact h2
theorem InfS.lt2 {w : World} {g : Nat} {ad : Option Addr} {es : List IB} (h : InfS w ad es) (hg : bl ad es.length = some g) : g < w.heap.size := by
  obtain ⟨e, h0⟩ := bl_some hg
  rcases h with h | ⟨g2, h1, h2, _⟩
  · rw [h] at e; exact absurd rfl e
  · rw [h1] at h0
    have h0 : some g2 = some g := h0
    injection h0 with h0
    subst h0; exact h2
/-- The list has grown. -/
theorem LawAt.putL {w w2 : World} {M X Z mb b c g cap : Nat} {R : DkR} {e : EB} (h : LawAt w M X Z mb b Nob R c) (hf : Fr (fun x => obk R.la = some x ∨ x = b) w w2) (ho : OwnG w2 (b + 1) 98 2 (some ⟨g, 0, none⟩) (R.es.length + 1) cap (R.es.flatMap entC ++ entC e)) (hg : obk R.la = some g ∨ w.heap.size ≤ g)
    (hd : DkAt w2 b { R with la := some ⟨g, 0, none⟩, lcap := cap, es := R.es ++ [e] }) (hl : R.es.length ≤ 4) : LawAt w2 M X Z mb b Nob { R with la := some ⟨g, 0, none⟩, lcap := cap, es := R.es ++ [e] } c := by
  have hst := h.st.fr (D2 := fun x => Own { R with la := some ⟨g, 0, none⟩, lcap := cap, es := R.es ++ [e] } x ∨ Nob x) hf (fun x h1 h2 q => by
    rcases q with q | q
    · exact .inl (.inl q)
    · omega) (fun x h1 h2 hx => by
    rcases hx with (hx | hx | hx) | hx
    · have hx : some g = some x := hx
      injection hx with hx
      subst hx
      rcases hg with q | q
      · exact .inl (.inl q)
      · omega
    · exact .inl (.inr (.inl hx))
    · exact .inl (.inr (.inr hx))
    · exact hx.elim)
  have hlb : ∀ x, obk R.la = some x → b < x := fun x hx => by have := h.li.lt hx; omega
  refine ⟨h.fx.fr hf (fun x h1 h2 q => by rcases q with q | q; (have := hlb x q; omega); omega), hd, ?_, by simp; omega, h.x.fr2 hf (fun x hx hbx q => ?_), h.xm.fr2 hf (fun x hx hl q => ?_), h.xmb, h.xl, h.y.fr2 hf (fun x hx hbx q => ?_), h.ym.fr2 hf (fun x hx hl q => ?_), h.ymb, h.yl, ⟨hst.oe, hst.oi, hst.fe, hst.fi, hst.he, hst.hi, hst.hl⟩, fun _ _ q => q, fun x hx => ?_, h.a2, h.ne, h.ni, h.nae, h.nai, h.z1, h.z2, h.z3⟩
  · show OwnG w2 (b + 1) 98 2 (some ⟨g, 0, none⟩) (R.es ++ [e]).length cap ((R.es ++ [e]).flatMap entC)
    rw [List.flatMap_append, List.length_append]
    simpa using ho
  · rcases q with q | q
    · exact (h.a1 x q).1 hx
    · omega
  · rcases q with q | q
    · exact (h.a1 x q).2.1 hx
    · have := h.xmb x hx; omega
  · rcases q with q | q
    · exact (h.a1 x q).2.2.1 hx
    · omega
  · rcases q with q | q
    · exact (h.a1 x q).2.2.2 hx
    · have := h.ymb x hx; omega
  · have hx : some g = some x := hx
    injection hx with hx
    subst hx
    rcases hg with q | q
    · exact h.a1 g q
    · exact ⟨fun k => by have := (h.x.lt k).2; omega, fun k => by have := h.xm.lt2 k; omega, fun k => by have := (h.y.lt k).2; omega, fun k => by have := h.ym.lt2 k; omega⟩
set_option maxRecDepth 100000 in
set_option maxHeartbeats 16000000 in
theorem write3_any {w : World} {M X Z mb b c : Nat} {R : DkR} (h : LawAt w M X Z mb b Nob R c) (a b' c' : Int) (s t : ByteArray) :
    Calls Tryz.prog 22 #[ptrV b, .agg #[.int .i64 3, .int .i64 a, .int .i64 b', .int .i64 c', .string s, .string t]] w fun e w' => e = .returned (.tuple #[]) ∧ WrOK w w' M X Z mb b c := by
  have hC0 := CellsAt.mk_alloc w [.int .i64 3, .int .i64 a, .int .i64 b', .int .i64 c', .string s, .string t] 41
  obtain ⟨w0, hw0⟩ : ∃ x, w.alloc (Obj.cells #[.int .i64 3, .int .i64 a, .int .i64 b', .int .i64 c', .string s, .string t] 41) = x := ⟨_, rfl⟩
  obtain ⟨N, hN⟩ : ∃ N, w.heap.size = N := ⟨_, rfl⟩
  change CellsAt (w.alloc (Obj.cells #[.int .i64 3, .int .i64 a, .int .i64 b', .int .i64 c', .string s, .string t] 41)) w.heap.size _ at hC0
  rw [hw0, hN] at hC0
  have hf0 : Fr Nob w w0 := by rw [← hw0]; exact (Fr.refl _ _).alloc _
  have h0 := h.fr0 hf0
  have HB := hid h
  have H0 := hid h0
  have HF0 : Hid (Fr (UpN X) w w0) := hid (hf0.mono (fun _ hx _ => hx.elim))
  have hbN : b < N := by rw [← hN]; exact h.dk.lt
  have n1 : ¬ b = N := by omega
  have n2 : ¬ N = b := by omega
  have HBN := hid hbN
  have HWS := hid hN
  have k0 : w0.cell? ⟨b, 0, none⟩ = some (.string R.nm) := h0.dk.c 0 _ rfl
  have k1 : w0.cell? ⟨b, 1, none⟩ = some (.string R.dt) := h0.dk.c 1 _ rfl
  have k3 : w0.cell? ⟨b, 3, none⟩ = some (.slice R.la R.es.length R.lcap) := h0.dk.c 3 _ rfl
  have kz : ∀ i, w0.frozen? ⟨b, i, none⟩ = false := h0.dk.fz
  have c0 := hC0.c 0 _ rfl
  obtain ⟨nm, hnm⟩ : ∃ z, z = R.nm := ⟨_, rfl⟩
  obtain ⟨dt, hdt⟩ : ∃ z, z = R.dt := ⟨_, rfl⟩
  obtain ⟨la, hla⟩ : ∃ z, z = R.la := ⟨_, rfl⟩
  obtain ⟨lc, hlc⟩ : ∃ z, z = R.lcap := ⟨_, rfl⟩
  obtain ⟨n, hn⟩ : ∃ z, z = R.es.length := ⟨_, rfl⟩
  rw [← hnm] at k0
  rw [← hdt] at k1
  rw [← hla, ← hlc, ← hn] at k3
  have HR := hid (And.intro hnm (And.intro hdt (And.intro hla (And.intro hlc hn))))
  have hn5 : (n : Int) ≤ 5 := by have := h.ln; omega
  have HO : Hid (OwnG w0 (b + 1) 98 2 la n lc (R.es.flatMap entC)) := hid (by rw [hla, hlc, hn]; exact h0.li)
  clear h h0 hf0 hC0 hbN hnm hdt hla hlc hn
  have zz : (⟨#[]⟩ : ByteArray).size ≤ maxLen := Nat.zero_le _
  have ZZ := hid zz
  clear zz
  by_cases h4 : n ≤ 4
  · have h4i : (n : Int) ≤ 4 := by omega
    have H4 := hid h4
    obtain ⟨P, hP⟩ : ∃ P, w0.heap.size = P := ⟨_, rfl⟩
    have hA := (Fr.refl Nob w0).alloc (Obj.cells #[.string nm, .string dt] 98)
    have ka0 := hA.cell k0 (fun x => x)
    have ka1 := hA.cell k1 (fun x => x)
    have ka3 := hA.cell k3 (fun x => x)
    have HCA : Hid (CellsAt (w0.alloc (Obj.cells #[.string nm, .string dt] 98)) P [.string nm, .string dt]) := hid (by have h9 := CellsAt.mk_alloc w0 [.string nm, .string dt] 98; rw [hP] at h9; exact h9)
    have HP := hid hP
    have HA := hid hA
    have HBS : Hid (b + 1 ≤ w0.heap.size) := hid (H0.out.dk.lt)
    have HBA : Hid (b < (w0.alloc (Obj.cells #[.string nm, .string dt] 98)).heap.size) := hid (Nat.lt_of_lt_of_le HBS.out hA.size)
    have HKZ : Hid (∀ i, (w0.alloc (Obj.cells #[.string nm, .string dt] 98)).frozen? ⟨b, i, none⟩ = false) := hid (fun i => (hA.froz H0.out.dk.lt (fun x => x) i).trans (kz i))
    have HLB : Hid (∀ x, obk la = some x → x ≠ b) := hid (fun x hx => by have := HO.out.lt hx; omega)
    clear h4
    clear hA
    refine calls_via fun K hK => ?_
    unfold ptrV
    go_enter Tryz.func22, Tryz.ntmps22
    go_upto_region 8 with fail
    go_cut [] (fun wx => ∃ g cap', LawAt wx M X Z mb b Nob { R with la := some ⟨g, 0, none⟩, lcap := cap', es := R.es ++ [(nm, dt)] } c ∧ Fr (UpN X) w0 wx)
    case first =>
      go_region_law (first | (refine step_appG rfl _ _ 32 98 2 32 _ rfl Tryz.underlying32 Tryz.info98 rfl (by decide) (by decide) (b + 1) la n lc _ [.string nm, .string dt] rfl (HO.out.fr (S := Nob) (HA.out.drew) (fun _ _ x => x)) P 1 rfl rfl HCA.out.c (by simp [Value.oneCell']) (by have := H4.out; omega) (Nat.le_trans HBS.out HA.out.size) ?_; intro g2 cap2 w2 ho2 hf2 hor2; have HO2 := hid ho2; have HF2 := hid hf2; have HOR2 := hid hor2; have k3 := (HF2.out.cell ka3 (fun q => HLB.out b q rfl)); have kz := fun i => (HF2.out.froz HBA.out (fun q => HLB.out b q rfl) i).trans (HKZ.out i); clear ho2 hf2 hor2))
      all_goals (go_wp2_with fail; go_meet)
      all_goals
        obtain ⟨e1, e2, e3, e4, e5⟩ := HR.out
        subst e1 e2 e3 e4 e5
        have hfs : Fr (One b) w2 (w2.setCell ⟨b, 3, none⟩ (.slice (some ⟨g2, 0, none⟩) (R.es.length + 1) cap2)) := (Fr.refl (One b) w2).set1 3 _
        have hfw : Fr (fun x => obk R.la = some x ∨ x = b) w0 (w2.setCell ⟨b, 3, none⟩ (.slice (some ⟨g2, 0, none⟩) (R.es.length + 1) cap2)) := ((HA.out.drew.mono (fun x hx _ => hx.elim)).trans (HF2.out.mono (fun x hx _ => .inl hx))).trans (hfs.mono (fun x hx _ => .inr hx))
        have hor : obk R.la = some g2 ∨ w0.heap.size ≤ g2 := HOR2.out.imp id (fun q => by rw [q]; exact HA.out.drew.size)
        have hdk : DkAt w2 b R := (H0.out.dk.fr HA.out.drew (fun x => x)).fr HF2.out (fun q => HLB.out b q rfl)
        have hd3 : DkAt (w2.setCell ⟨b, 3, none⟩ (.slice (some ⟨g2, 0, none⟩) (R.es.length + 1) cap2)) b { R with la := some ⟨g2, 0, none⟩, lcap := cap2, es := R.es ++ [(R.nm, R.dt)] } := hdk.put 3 _ (by omega) (by simp [dkL])
        have hlw := H0.out.putL hfw (HO2.out.fr hfs (fun x hx q => by unfold One at q; have := HO2.out.lt hx; omega)) hor hd3 H4.out
        have hup : Fr (UpN X) w0 (w2.setCell ⟨b, 3, none⟩ (.slice (some ⟨g2, 0, none⟩) (R.es.length + 1) cap2)) := hfw.mono (fun x hx _ => by
          have h1 := HB.out.fx.zb
          have h2 := HB.out.fx.xz
          show X ≤ x
          rcases hx with q | q
          · have := (HB.out.li.lt q).1; omega
          · omega)
        exact ⟨g2, cap2, hlw, hup⟩
    case rest =>
    obtain ⟨g2, cap2, hlw, hfw⟩ := hcut
    obtain ⟨w3, hw3⟩ : ∃ z, z = wc := ⟨_, rfl⟩
    rw [← hw3] at hlw hfw ⊢
    have k0 := hlw.dk.c 0 _ rfl
    have k1 := hlw.dk.c 1 _ rfl
    have kz : ∀ i, w3.frozen? ⟨b, i, none⟩ = false := hlw.dk.fz
    have HLW := hid hlw
    have HFW := hid hfw
    clear hw3 hlw hfw ka0 ka1 ka3 k3
    go_wp2_with fail
    go_end0
    exact hK.out _ _ ⟨rfl, ⟨_, (HLW.out.st0 ⟨#[]⟩ ZZ.out).st1 ⟨#[]⟩ ZZ.out⟩, HB.out.upOne (HF0.out.trans HFW.out) (((Fr.refl (One b) w3).set1 0 (.string ⟨#[]⟩)).set1 1 (.string ⟨#[]⟩))⟩
  · have h4i : ¬ (n : Int) ≤ 4 := by omega
    clear h4
    refine calls_via fun K hK => ?_
    unfold ptrV
    go_enter Tryz.func22, Tryz.ntmps22
    go_wp2_with fail
    go_end0
    exact hK.out _ _ ⟨rfl, ⟨_, (H0.out.st0 ⟨#[]⟩ ZZ.out).st1 ⟨#[]⟩ ZZ.out⟩, HB.out.upOne HF0.out (((Fr.refl (One b) w0).set1 0 (.string ⟨#[]⟩)).set1 1 (.string ⟨#[]⟩))⟩
end Go.Proofs.Qxb6500353aGreat
