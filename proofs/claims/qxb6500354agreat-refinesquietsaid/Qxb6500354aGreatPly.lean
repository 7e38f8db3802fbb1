/- Play. -/
import Derived.Test.Qxb6500354aGreatSs
import Derived.Test.Qxb6500354aGreatJn
namespace Go.Proofs.Qxb6500354aGreat
open Go.RowKit
set_option linter.unusedVariables false
set_option linter.unusedSimpArgs false

theorem joinS_any (a b : ByteArray) (ha : a.size ≤ 1048577) (hb : b.size ≤ maxLen) (w : World) : Calls Tryz.prog 15 #[.string a, .string b] w fun e w' => (∃ s : ByteArray, e = .returned (.string s) ∧ s.size ≤ 1048577) ∧ w' = w := by
  refine (join_any a b (by unfold maxLen; omega) hb w).mono ?_
  rintro e w' ⟨⟨s, rfl, hs⟩, rfl⟩
  refine ⟨⟨s, rfl, ?_⟩, rfl⟩
  rw [← bytesOf_len, hs]
  exact joinF_len _ _ (by rw [bytesOf_len]; exact ha)
theorem bytesOf_inj {a b : ByteArray} (h : bytesOf a = bytesOf b) : a = b := by
  unfold bytesOf at h
  have h2 : a.data.toList = b.data.toList := (List.map_inj_right (fun x y hxy => UInt8.toNat_inj.1 hxy)).1 h
  have h3 : a.data = b.data := Array.toList_inj.1 h2
  cases a; cases b; simp at h3; rw [h3]
theorem bytesOf_lt (a : ByteArray) : ∀ x ∈ bytesOf a, x < 256 := by
  intro x hx
  unfold bytesOf at hx
  obtain ⟨y, _, rfl⟩ := List.mem_map.1 hx
  exact UInt8.toNat_lt _
def joinR (a b : ByteArray) : ByteArray := strN (joinF (bytesOf a) (bytesOf b))
theorem joinR_bytes (a b : ByteArray) : bytesOf (joinR a b) = joinF (bytesOf a) (bytesOf b) := by
  refine bytesOf_strN (fun x hx => ?_)
  unfold joinF at hx
  split at hx
  · exact bytesOf_lt a x hx
  · rcases List.mem_append.1 hx with e | e
    · exact bytesOf_lt a x e
    · exact bytesOf_lt b x (List.mem_of_mem_take e)
theorem joinR_size (a b : ByteArray) (ha : a.size ≤ 1048577) : (joinR a b).size ≤ 1048577 := by
  rw [← bytesOf_len, joinR_bytes]; exact joinF_len _ _ (by rw [bytesOf_len]; exact ha)
theorem joinD_any (a b : ByteArray) (ha : a.size ≤ 1048577) (hb : b.size ≤ maxLen) (w : World) : Calls Tryz.prog 15 #[.string a, .string b] w fun e w' => e = .returned (.string (joinR a b)) ∧ w' = w := by
  refine (join_any a b (by unfold maxLen; omega) hb w).mono ?_
  rintro e w' ⟨⟨s, rfl, hs⟩, rfl⟩
  refine ⟨?_, rfl⟩
  rw [bytesOf_inj (hs.trans (joinR_bytes a b).symm)]
def opL (k a b c : Int) (s t : ByteArray) : List Value := [.int .i64 k, .int .i64 a, .int .i64 b, .int .i64 c, .string s, .string t]
def PlyOK (w w' : World) (B : WdB) (q : Bool) : Prop := (∃ S', WdAt w' B S' q) ∧ Below B.M w w'
/-- A text of the world's is stored. -/
theorem WdAt.put {w w2 : World} {B : WdB} {S S2 : WdS} {q : Bool} (h : WdAt w B S q) (hf : Fr [B.wb] w w2) (hc : CellsAt w2 B.wb (wdCells B S2 q)) (hs : S2.s = S.s) (h8 : S2.mine = S.mine) (h9 : S2.ml = S.ml) (z1 : S2.tx.size ≤ 1048577) (z2 : S2.pr.size ≤ 1048577) (z3 : S2.lt.size ≤ 1048577) (z4 : S2.lp.size ≤ maxLen) :
    WdAt w2 B S2 q ∧ Below B.M w w2 := by
  have hne := h.ne
  exact ⟨h.step hf (fun x hx _ => by rw [List.mem_singleton] at hx; exact .inl hx) hc (h.ms.pm.fr hf (by simp; exact hne.wmp.symm)) (h.km.2.fr hf (by simp; exact hne.wpp.symm)) hs h8 h9 z1 z2 z3 z4, hf.belowM h.Mle (fun x hx => by rw [List.mem_singleton] at hx; rw [hx]; exact h.lo _ (by simp [side]))⟩
theorem WdAt.fr0 {w w2 : World} {B : WdB} {S : WdS} {q : Bool} (h : WdAt w B S q) (hf : Fr [] w w2) : WdAt w2 B S q ∧ Below B.M w w2 := by
  refine ⟨h.step hf (by simp) (h.cc.fr hf (by simp) (by simp [wdCells])) (h.ms.pm.fr hf (by simp)) (h.km.2.fr hf (by simp)) rfl rfl rfl h.z1 h.z2 h.z3 h.z4, hf.belowM h.Mle (by simp)⟩
theorem WdAt.putTx {w wx : World} {B : WdB} {S : WdS} {q : Bool} (h : WdAt w B S q) (hx : Fr [] w wx) (r : ByteArray) (hr : r.size ≤ 1048577) : WdAt (wx.setCell ⟨B.wb, 4, none⟩ (.string r)) B { S with tx := r } q ∧ Below B.M w (wx.setCell ⟨B.wb, 4, none⟩ (.string r)) := by
  obtain ⟨h1, hb⟩ := h.fr0 hx
  obtain ⟨a, b⟩ := h1.put (S2 := { S with tx := r }) (((Fr.refl [B.wb] wx).setG 4 (.string r))) (h1.cc.set 4 (by simp [wdCells]) (.string r)) rfl rfl rfl hr h1.z2 h1.z3 h1.z4
  exact ⟨a, hb.trans b⟩
theorem WdAt.putPr {w wx : World} {B : WdB} {S : WdS} {q : Bool} (h : WdAt w B S q) (hx : Fr [] w wx) (r : ByteArray) (hr : r.size ≤ 1048577) : WdAt (wx.setCell ⟨B.wb, 5, none⟩ (.string r)) B { S with pr := r } q ∧ Below B.M w (wx.setCell ⟨B.wb, 5, none⟩ (.string r)) := by
  obtain ⟨h1, hb⟩ := h.fr0 hx
  obtain ⟨a, b⟩ := h1.put (S2 := { S with pr := r }) (((Fr.refl [B.wb] wx).setG 5 (.string r))) (h1.cc.set 5 (by simp [wdCells]) (.string r)) rfl rfl rfl h1.z1 hr h1.z3 h1.z4
  exact ⟨a, hb.trans b⟩
/-- Check on X, as the law plays it. -/
theorem WdAt.checkX {w : World} {B : WdB} {S : WdS} {q : Bool} (h : WdAt w B S q) (a b : ByteArray) (ha : a.size ≤ maxLen) (hb : b.size ≤ maxLen) :
    Calls Tryz.prog 17 #[.pointer (some ⟨B.wb, 0, none⟩), .pointer (some ⟨B.X.tb, 0, none⟩), .string a, .string b] w fun e w' => (∃ x y z : Int, e = .returned (.tuple #[.agg #[.int .i64 x, .int .i64 y, .int .i64 z], .bool true])) ∧ (∃ S', WdAt w' B S' q) ∧ Below B.M w w' := by
  have hne := h.ne
  refine (sameCheck_any h.cc h.km h.tw (h.dj _ (by simp [side])) (h.dj _ (by simp [side])) (h.dj _ (by simp [side])) hne.wpp hne.ppk.symm a b ha hb).mono ?_
  rintro e w' ⟨⟨v, rfl, rfl⟩, s', hq⟩
  refine ⟨⟨_, _, _, rfl⟩, ⟨_, h.checked hq⟩, hq.fr.belowM h.Mle (fun x hx => ?_)⟩
  rcases List.mem_cons.1 hx with e | e
  · rw [e]; exact h.lo _ (by simp [side])
  · exact h.lf x e
/-- Check on X while a new block NZ stands ahead of it. -/
theorem WdAt.checkN {wc wx : World} {B : WdB} {S : WdS} {q : Bool} (h : WdAt wc B S q) (hx : Fr [] wc wx) {NZ : Nat} (hN : wc.heap.size = NZ) (a b : ByteArray) (ha : a.size ≤ maxLen) (hb : b.size ≤ maxLen) :
    Calls Tryz.prog 17 #[.pointer (some ⟨B.wb, 0, none⟩), .pointer (some ⟨B.X.tb, 0, none⟩), .string a, .string b] wx fun e w' => ∃ x y z : Int, e = .returned (.tuple #[.agg #[.int .i64 x, .int .i64 y, .int .i64 z], .bool true]) ∧ (∃ S', WdAt w' B S' q ∧ (NZ < wx.heap.size → NZ ∉ side B ∧ NZ ∉ foot B.X S'.s ∧ OwnM w' B.M S'.mine S'.ml ([NZ] ++ (side B ++ foot B.X S'.s)))) ∧ Below B.M wc w' ∧
      (∀ i v, wx.cell? ⟨NZ, i, none⟩ = some v → w'.cell? ⟨NZ, i, none⟩ = some v) ∧ (∀ i, NZ < wx.heap.size → w'.frozen? ⟨NZ, i, none⟩ = wx.frozen? ⟨NZ, i, none⟩) := by
  obtain ⟨h2, hb2⟩ := h.fr0 hx
  have hne := h.ne
  have hsl := h.side_lt
  have hfl := h.tw.lt
  refine (sameCheck_any h2.cc h2.km h2.tw (h2.dj _ (by simp [side])) (h2.dj _ (by simp [side])) (h2.dj _ (by simp [side])) hne.wpp hne.ppk.symm a b ha hb).mono ?_
  rintro e w' ⟨⟨v, rfl, rfl⟩, s', hq⟩
  have hNp : NZ ∉ B.pp :: foot B.X S.s := fun hm => by
    rcases List.mem_cons.1 hm with e | e
    · have := hsl B.pp (by simp [side]); omega
    · have := hfl NZ e; omega
  refine ⟨_, _, _, rfl, ⟨{ S with s := s' }, h2.checked hq, fun hlt => ⟨fun hm => ?_, fun hm => ?_, ?_⟩⟩, hb2.trans (hq.fr.belowM h2.Mle (fun x hx => ?_)), fun i v hv => hq.fr.cell hv hNp, fun i hi => hq.fr.froz hi hNp⟩
  · have := hsl NZ hm; omega
  · rcases hq.nx NZ hm with z | z
    · have := hfl NZ z; omega
    · omega
  · refine ((((h.mn.renew (D2 := [NZ] ++ (side B ++ foot B.X S.s)) ?_).fr hx (by simp)).renew (D2 := [NZ] ++ (side B ++ foot B.X S.s ++ foot B.X s')) ?_).fr hq.fr ?_).mono ?_
    · intro x hx
      rcases List.mem_append.1 hx with e | e
      · rw [List.mem_singleton] at e; exact .inr (by omega)
      · exact .inl e
    · intro x hx
      rcases List.mem_append.1 hx with e | e
      · exact .inl (List.mem_append_left _ e)
      · rcases List.mem_append.1 e with e | e
        · exact .inl (List.mem_append_right _ e)
        · rcases hq.nx x e with z | z
          · exact .inl (by simp [z])
          · exact .inr z
    · intro x hx
      rcases List.mem_cons.1 hx with e | e
      · exact .inl (by simp [side, e])
      · exact .inl (by simp [e])
    · intro x hx
      rcases List.mem_append.1 hx with e | e
      · exact List.mem_append_left _ e
      · rcases List.mem_append.1 e with e | e
        · simp [e]
        · simp [e]
  · rcases List.mem_cons.1 hx with e | e
    · rw [e]; exact h.lo _ (by simp [side])
    · exact h.lf x e
theorem WdAt.chkEarly {w' : World} {B : WdB} {S' : WdS} {q : Bool} {NZ : Nat} (h : WdAt w' B S' q) (hM : B.M ≤ NZ) (h1 : NZ ∉ side B ∧ NZ ∉ foot B.X S'.s ∧ OwnM w' B.M S'.mine S'.ml ([NZ] ++ (side B ++ foot B.X S'.s))) (x y z : Int) :
    PlyOK w' (((w'.setCell ⟨NZ, 0, none⟩ (.int .i64 x)).setCell ⟨NZ, 1, none⟩ (.int .i64 y)).setCell ⟨NZ, 2, none⟩ (.int .i64 z)) B q := by
  have hs : Fr [NZ] w' (((w'.setCell ⟨NZ, 0, none⟩ (.int .i64 x)).setCell ⟨NZ, 1, none⟩ (.int .i64 y)).setCell ⟨NZ, 2, none⟩ (.int .i64 z)) := (((Fr.refl [NZ] w').setG 0 _).setG 1 _).setG 2 _
  exact ⟨⟨_, h.stamp hs (fun g hg => by rw [List.mem_singleton] at hg; rw [hg]; exact ⟨h1.1, h1.2.1⟩) h1.2.2⟩, hs.belowM h.Mle (fun g hg => by rw [List.mem_singleton] at hg; rw [hg]; exact hM)⟩
set_option maxRecDepth 100000 in
set_option maxHeartbeats 8000000 in
theorem play1_any {w : World} {B : WdB} {S : WdS} {q : Bool} (h : WdAt w B S q) (k a b c : Int) (s t : ByteArray) (hs : s.size ≤ maxLen) (ht : t.size ≤ maxLen) (hk : k = 1) :
    Calls Tryz.prog 9 #[.pointer (some ⟨B.wb, 0, none⟩), .agg #[.int .i64 k, .int .i64 a, .int .i64 b, .int .i64 c, .string s, .string t]] w fun e w' => e = .returned (.bool true) ∧ PlyOK w w' B q := by
  subst hk
  obtain ⟨N, hN⟩ : ∃ N, w.heap.size = N := ⟨_, rfl⟩
  have hC0 := CellsAt.mk_alloc w (opL 1 a b c s t) 31
  obtain ⟨w0, hw0⟩ : ∃ x, w.alloc (Obj.cells #[.int .i64 1, .int .i64 a, .int .i64 b, .int .i64 c, .string s, .string t] 31) = x := ⟨_, rfl⟩
  change CellsAt (w.alloc (Obj.cells #[.int .i64 1, .int .i64 a, .int .i64 b, .int .i64 c, .string s, .string t] 31)) w.heap.size _ at hC0
  rw [hw0, hN] at hC0
  have hf0 : Fr [] w w0 := by rw [← hw0]; exact (Fr.refl _ _).alloc _
  obtain ⟨h0, hb0⟩ := h.fr0 hf0
  have H0 := hid h0
  have HB0 := hid hb0
  have HC0 := hid hC0
  have HJ := hid (fun (wx : World) => joinS_any S.tx s h.z1 hs wx)
  have HJ2 := hid (fun (wx : World) => joinS_any S.pr s h.z2 hs wx)
  have HJ3 := hid (fun (wx : World) => joinS_any S.pr t h.z2 ht wx)
  have k4 := h0.cc.c 4 _ rfl
  have k5 := h0.cc.c 5 _ rfl
  have kz := h0.cc.fz
  have c0 := hC0.c 0 _ rfl
  have c4 := hC0.c 4 _ rfl
  have c5 := hC0.c 5 _ rfl
  clear h h0 hb0 hf0 hC0
  refine calls_via fun K hK => ?_
  go_enter Tryz.func9, Tryz.ntmps9
  go_wp2_with fail
  go_region_with (go_at_call 15; refine (HJ.out _).mono ?_; rintro e w' ⟨⟨r, rfl, hr⟩, hw⟩; have hw2 := hw.symm; subst hw2; clear hw; have HR := hid hr; clear hr)
  all_goals try go_wp2_with fail
  all_goals
    obtain ⟨p1, p2⟩ := H0.out.putTx (wx := w0.drew) ((Fr.refl [] w0).drew) r HR.out
    exact hK.out _ _ ⟨rfl, ⟨_, p1⟩, HB0.out.trans p2⟩
set_option maxRecDepth 100000 in
set_option maxHeartbeats 8000000 in
theorem play2_any {w : World} {B : WdB} {S : WdS} {q : Bool} (h : WdAt w B S q) (k a b c : Int) (s t : ByteArray) (hs : s.size ≤ maxLen) (ht : t.size ≤ maxLen) (hk : k = 2) :
    Calls Tryz.prog 9 #[.pointer (some ⟨B.wb, 0, none⟩), .agg #[.int .i64 k, .int .i64 a, .int .i64 b, .int .i64 c, .string s, .string t]] w fun e w' => e = .returned (.bool true) ∧ PlyOK w w' B q := by
  subst hk
  obtain ⟨N, hN⟩ : ∃ N, w.heap.size = N := ⟨_, rfl⟩
  have hC0 := CellsAt.mk_alloc w (opL 2 a b c s t) 31
  obtain ⟨w0, hw0⟩ : ∃ x, w.alloc (Obj.cells #[.int .i64 2, .int .i64 a, .int .i64 b, .int .i64 c, .string s, .string t] 31) = x := ⟨_, rfl⟩
  change CellsAt (w.alloc (Obj.cells #[.int .i64 2, .int .i64 a, .int .i64 b, .int .i64 c, .string s, .string t] 31)) w.heap.size _ at hC0
  rw [hw0, hN] at hC0
  have hf0 : Fr [] w w0 := by rw [← hw0]; exact (Fr.refl _ _).alloc _
  obtain ⟨h0, hb0⟩ := h.fr0 hf0
  have H0 := hid h0
  have HB0 := hid hb0
  have HC0 := hid hC0
  have HJ := hid (fun (wx : World) => joinS_any S.tx s h.z1 hs wx)
  have HJ2 := hid (fun (wx : World) => joinS_any S.pr s h.z2 hs wx)
  have HJ3 := hid (fun (wx : World) => joinS_any S.pr t h.z2 ht wx)
  have k4 := h0.cc.c 4 _ rfl
  have k5 := h0.cc.c 5 _ rfl
  have kz := h0.cc.fz
  have c0 := hC0.c 0 _ rfl
  have c4 := hC0.c 4 _ rfl
  have c5 := hC0.c 5 _ rfl
  clear h h0 hb0 hf0 hC0
  refine calls_via fun K hK => ?_
  go_enter Tryz.func9, Tryz.ntmps9
  go_wp2_with fail
  go_region_with (go_at_call 15; refine (HJ2.out _).mono ?_; rintro e w' ⟨⟨r, rfl, hr⟩, hw⟩; have hw2 := hw.symm; subst hw2; clear hw; have HR := hid hr; clear hr)
  all_goals try go_wp2_with fail
  all_goals
    obtain ⟨p1, p2⟩ := H0.out.putPr (wx := w0.drew) ((Fr.refl [] w0).drew) r HR.out
    exact hK.out _ _ ⟨rfl, ⟨_, p1⟩, HB0.out.trans p2⟩
set_option maxRecDepth 100000 in
set_option maxHeartbeats 8000000 in
theorem play3_any {w : World} {B : WdB} {S : WdS} {q : Bool} (h : WdAt w B S q) (k a b c : Int) (s t : ByteArray) (hs : s.size ≤ maxLen) (ht : t.size ≤ maxLen) (hk : k = 3) :
    Calls Tryz.prog 9 #[.pointer (some ⟨B.wb, 0, none⟩), .agg #[.int .i64 k, .int .i64 a, .int .i64 b, .int .i64 c, .string s, .string t]] w fun e w' => e = .returned (.bool true) ∧ PlyOK w w' B q := by
  subst hk
  obtain ⟨N, hN⟩ : ∃ N, w.heap.size = N := ⟨_, rfl⟩
  have hC0 := CellsAt.mk_alloc w (opL 3 a b c s t) 31
  obtain ⟨w0, hw0⟩ : ∃ x, w.alloc (Obj.cells #[.int .i64 3, .int .i64 a, .int .i64 b, .int .i64 c, .string s, .string t] 31) = x := ⟨_, rfl⟩
  change CellsAt (w.alloc (Obj.cells #[.int .i64 3, .int .i64 a, .int .i64 b, .int .i64 c, .string s, .string t] 31)) w.heap.size _ at hC0
  rw [hw0, hN] at hC0
  have hf0 : Fr [] w w0 := by rw [← hw0]; exact (Fr.refl _ _).alloc _
  obtain ⟨h0, hb0⟩ := h.fr0 hf0
  have H0 := hid h0
  have HB0 := hid hb0
  have HC0 := hid hC0
  have HJ := hid (fun (wx : World) => joinD_any S.tx s h.z1 hs wx)
  have HR := hid (joinR_size S.tx s h.z1)
  have k4 := h0.cc.c 4 _ rfl
  have k5 := h0.cc.c 5 _ rfl
  have kz := h0.cc.fz
  have c0 := hC0.c 0 _ rfl
  have c4 := hC0.c 4 _ rfl
  have c5 := hC0.c 5 _ rfl
  clear h h0 hb0 hf0 hC0
  refine calls_via fun K hK => ?_
  go_enter Tryz.func9, Tryz.ntmps9
  go_wp2_with fail
  obtain ⟨r, hr⟩ : ∃ z, joinR S.tx s = z := ⟨_, rfl⟩
  rw [hr] at HJ HR
  clear hr
  go_quiet ((go_at_call 15; exact (HJ.out _).mono fun _ _ h => ⟨h.1, _, h.2⟩))
  go_wp2_with fail
  obtain ⟨p1, p2⟩ := H0.out.putTx (wx := w0.drewN nq) (Fr.of_drewN []) ⟨#[]⟩ (by simp [ByteArray.size])
  have P1 := hid p1
  have P2 := hid p2
  clear p1 p2 k4 k5 kz c0 c4 c5
  refine (sameSolve_any P1.out r HR.out).mono ?_
  rintro e w' ⟨rfl, hw, hb⟩
  have HW := hid hw
  have HBB := hid hb
  clear hw hb
  go_wp2_with fail
  exact hK.out _ _ ⟨rfl, HW.out, (HB0.out.trans P2.out).trans HBB.out⟩
set_option maxRecDepth 100000 in
set_option maxHeartbeats 8000000 in
theorem play4_any {w : World} {B : WdB} {S : WdS} {q : Bool} (h : WdAt w B S q) (k a b c : Int) (s t : ByteArray) (hs : s.size ≤ maxLen) (ht : t.size ≤ maxLen) (hk : k = 4) :
    Calls Tryz.prog 9 #[.pointer (some ⟨B.wb, 0, none⟩), .agg #[.int .i64 k, .int .i64 a, .int .i64 b, .int .i64 c, .string s, .string t]] w fun e w' => e = .returned (.bool true) ∧ PlyOK w w' B q := by
  subst hk
  obtain ⟨N, hN⟩ : ∃ N, w.heap.size = N := ⟨_, rfl⟩
  have hC0 := CellsAt.mk_alloc w (opL 4 a b c s t) 31
  obtain ⟨w0, hw0⟩ : ∃ x, w.alloc (Obj.cells #[.int .i64 4, .int .i64 a, .int .i64 b, .int .i64 c, .string s, .string t] 31) = x := ⟨_, rfl⟩
  change CellsAt (w.alloc (Obj.cells #[.int .i64 4, .int .i64 a, .int .i64 b, .int .i64 c, .string s, .string t] 31)) w.heap.size _ at hC0
  rw [hw0, hN] at hC0
  have hf0 : Fr [] w w0 := by rw [← hw0]; exact (Fr.refl _ _).alloc _
  obtain ⟨h0, hb0⟩ := h.fr0 hf0
  have H0 := hid h0
  have HB0 := hid hb0
  have HC0 := hid hC0
  have HJ := hid (fun (wx : World) => joinD_any S.tx s h.z1 hs wx)
  have HR := hid (joinR_size S.tx s h.z1)
  have HJ2 := hid (fun (wx : World) => joinD_any S.pr t h.z2 ht wx)
  have HR2 := hid (joinR_size S.pr t h.z2)
  have k0 := h0.cc.c 0 _ rfl
  unfold ptrV at k0
  have k4 := h0.cc.c 4 _ rfl
  have k5 := h0.cc.c 5 _ rfl
  have kz := h0.cc.fz
  have c0 := hC0.c 0 _ rfl
  have c4 := hC0.c 4 _ rfl
  have c5 := hC0.c 5 _ rfl
  clear h h0 hb0 hf0 hC0
  refine calls_via fun K hK => ?_
  go_enter Tryz.func9, Tryz.ntmps9
  go_wp2_with fail
  obtain ⟨r, hr⟩ : ∃ z, joinR S.tx s = z := ⟨_, rfl⟩
  rw [hr] at HJ HR
  obtain ⟨r2, hr2⟩ : ∃ z, joinR S.pr t = z := ⟨_, rfl⟩
  rw [hr2] at HJ2 HR2
  clear hr hr2
  go_quiet ((go_at_call 15; exact (HJ.out _).mono fun _ _ h => ⟨h.1, _, h.2⟩))
  go_wp2_with fail
  obtain ⟨n1, hn1⟩ : ∃ z, z = nq := ⟨_, rfl⟩
  subst hn1
  go_quiet ((go_at_call 15; exact (HJ2.out _).mono fun _ _ h => ⟨h.1, _, h.2⟩))
  go_wp2_with fail
  obtain ⟨p1, p2⟩ := H0.out.putTx (wx := w0.drewN (n1 + nq)) (Fr.of_drewN []) ⟨#[]⟩ (by simp [ByteArray.size])
  obtain ⟨p3, p4⟩ := p1.putPr (Fr.refl [] _) ⟨#[]⟩ (by simp [ByteArray.size])
  have HPB := hid (p2.trans p4)
  refine (p3.checkX r r2 (by have := HR.out; unfold maxLen; omega) (by have := HR2.out; unfold maxLen; omega)).mono ?_
  clear p1 p2 p3 p4 k0 k4 k5 kz c0 c4 c5
  rintro e w' ⟨⟨x, y, z, rfl⟩, hw, hb⟩
  have HW := hid hw
  have HBB := hid hb
  clear hw hb
  go_wp2_with fail
  obtain ⟨S', hS⟩ := HW.out
  obtain ⟨q1, q2⟩ := hS.fr0 ((Fr.refl [] w').alloc (Obj.cells #[.int .i64 x, .int .i64 y, .int .i64 z] 48))
  exact hK.out _ _ ⟨rfl, ⟨_, q1⟩, ((HB0.out.trans HPB.out).trans HBB.out).trans q2⟩
set_option maxRecDepth 100000 in
set_option maxHeartbeats 8000000 in
theorem play5_any {w : World} {B : WdB} {S : WdS} {q : Bool} (h : WdAt w B S q) (k a b c : Int) (s t : ByteArray) (hs : s.size ≤ maxLen) (ht : t.size ≤ maxLen) (hk : k = 5) :
    Calls Tryz.prog 9 #[.pointer (some ⟨B.wb, 0, none⟩), .agg #[.int .i64 k, .int .i64 a, .int .i64 b, .int .i64 c, .string s, .string t]] w fun e w' => e = .returned (.bool true) ∧ PlyOK w w' B q := by
  subst hk
  obtain ⟨N, hN⟩ : ∃ N, w.heap.size = N := ⟨_, rfl⟩
  have hC0 := CellsAt.mk_alloc w (opL 5 a b c s t) 31
  obtain ⟨w0, hw0⟩ : ∃ x, w.alloc (Obj.cells #[.int .i64 5, .int .i64 a, .int .i64 b, .int .i64 c, .string s, .string t] 31) = x := ⟨_, rfl⟩
  change CellsAt (w.alloc (Obj.cells #[.int .i64 5, .int .i64 a, .int .i64 b, .int .i64 c, .string s, .string t] 31)) w.heap.size _ at hC0
  rw [hw0, hN] at hC0
  have hf0 : Fr [] w w0 := by rw [← hw0]; exact (Fr.refl _ _).alloc _
  obtain ⟨h0, hb0⟩ := h.fr0 hf0
  have H0 := hid h0
  have HB0 := hid hb0
  have HC0 := hid hC0
  have HT := hid (fun (wx : World) => turned_any S.lp h.z4 a b wx)
  have HZ := hid (And.intro h.z3 h.z4)
  have k0 := h0.cc.c 0 _ rfl
  unfold ptrV at k0
  have k6 := h0.cc.c 6 _ rfl
  have k7 := h0.cc.c 7 _ rfl
  have c1 := hC0.c 1 _ rfl
  have c2 := hC0.c 2 _ rfl
  have k4 := h0.cc.c 4 _ rfl
  have k5 := h0.cc.c 5 _ rfl
  have kz := h0.cc.fz
  have c0 := hC0.c 0 _ rfl
  have c4 := hC0.c 4 _ rfl
  have c5 := hC0.c 5 _ rfl
  clear h h0 hb0 hf0 hC0
  refine calls_via fun K hK => ?_
  go_enter Tryz.func9, Tryz.ntmps9
  go_upto_region 18 with fail
  have HTT : Hid (∀ wx, Calls Tryz.prog 18 #[.string S.lp, .int .i64 a, .int .i64 b] wx fun e w' => ∃ t2 : ByteArray, e = .returned (.string t2) ∧ t2.size ≤ maxLen ∧ Fr [] wx w') := hid (fun wx => by
    refine (HT.out wx).mono ?_
    rintro e w' ⟨⟨t2, rfl, ht2⟩, hf⟩
    exact ⟨t2, rfl, by rw [ht2]; exact HZ.out.2, hf⟩)
  go_cut [10] (fun d wx => ∃ t2 : ByteArray, d = .string t2 ∧ t2.size ≤ maxLen ∧ Fr [] w0 wx)
  case first =>
    go_region_with (go_at_call 18; refine (HTT.out _).mono ?_; rintro e w' ⟨t2, rfl, ht2, hft⟩; have HT2 := hid ht2; have HFT := hid (((Fr.refl [] w0).drew).trans hft); clear ht2 hft)
    all_goals (go_wp2_with fail; go_meet; exact ⟨_, rfl, HT2.out, HFT.out⟩)
  case rest =>
    obtain ⟨t2, rfl, ht2, hfc⟩ := hcut
    have k0c := hfc.cell k0 (by simp)
    have k6c := hfc.cell k6 (by simp)
    obtain ⟨hW, hWB⟩ := H0.out.fr0 hfc
    have HW := hid hW
    have HWB := hid hWB
    obtain ⟨NZ, hNZ⟩ : ∃ x, wc.heap.size = x := ⟨_, rfl⟩
    have HCK := hid (fun (wx : World) (hx : Fr [] wc wx) => hW.checkN hx hNZ S.lt t2 (by have := HZ.out.1; unfold maxLen; omega) ht2)
    have hn1 : B.wb < NZ := by rw [← hNZ]; exact hW.side_lt _ (by simp [side])
    have hM : Hid (B.M ≤ NZ) := hid (by rw [← hNZ]; exact hW.Mle)
    have hcn := CellsAt.mk_alloc wc [.int .i64 0, .int .i64 0, .int .i64 0] 48
    change CellsAt (wc.alloc (Obj.cells #[.int .i64 0, .int .i64 0, .int .i64 0] 48)) wc.heap.size _ at hcn
    rw [hNZ] at hcn
    have HZ0 : Hid ((wc.alloc (Obj.cells #[.int .i64 0, .int .i64 0, .int .i64 0] 48)).drew.cell? ⟨NZ, 0, none⟩ = some (.int .i64 0)) := hid (hcn.c 0 _ rfl)
    have HZ1 : Hid ((wc.alloc (Obj.cells #[.int .i64 0, .int .i64 0, .int .i64 0] 48)).drew.cell? ⟨NZ, 1, none⟩ = some (.int .i64 0)) := hid (hcn.c 1 _ rfl)
    have HZ2 : Hid ((wc.alloc (Obj.cells #[.int .i64 0, .int .i64 0, .int .i64 0] 48)).drew.cell? ⟨NZ, 2, none⟩ = some (.int .i64 0)) := hid (hcn.c 2 _ rfl)
    have HZF : Hid (∀ i, (wc.alloc (Obj.cells #[.int .i64 0, .int .i64 0, .int .i64 0] 48)).drew.frozen? ⟨NZ, i, none⟩ = false) := hid hcn.fz
    have HZS : Hid (NZ < (wc.alloc (Obj.cells #[.int .i64 0, .int .i64 0, .int .i64 0] 48)).drew.heap.size) := hid (lt_of_cellB (hcn.c 0 _ rfl))
    clear hW hWB hfc ht2 k0 k6 k7 kz k4 k5 c0 c1 c2 c4 c5 hcn hw0 hN
    go_upto_region 19 with fail
    go_cut [12] (fun d wx => d = .bool true ∧ PlyOK wc wx B q)
    case first =>
      go_region_with (go_at_call 17; refine (HCK.out _ (by first | exact Fr.refl _ _ | exact (Fr.refl _ _).drew | exact Fr.of_drewN _ | exact ((Fr.refl [] wc).alloc _).drew)).mono ?_; rintro e w2 ⟨x, y, z, rfl, ⟨S', hS, hSN⟩, hBM, hxk, hxf⟩; have HS := hid hS; have HSN := hid hSN; have HBM := hid hBM; clear hS hSN hBM; first | (have e0 := hxk 0 (.int .i64 0) HZ0.out; have e1 := hxk 1 (.int .i64 0) HZ1.out; have e2 := hxk 2 (.int .i64 0) HZ2.out; have f0 := fun i => (hxf i HZS.out).trans (HZF.out i)) | skip)
      all_goals (go_wp2_with fail; go_meet)
      all_goals first
        | exact ⟨rfl, ⟨_, (HS.out.fr0 ((Fr.refl [] w2).alloc _)).1⟩, HBM.out.trans (HS.out.fr0 ((Fr.refl [] w2).alloc _)).2⟩
        | exact ⟨rfl, (HS.out.chkEarly hM.out (HSN.out HZS.out) x y z).1, HBM.out.trans (HS.out.chkEarly hM.out (HSN.out HZS.out) x y z).2⟩
    case rest =>
      obtain ⟨rfl, hok⟩ := hcut
      have HOK := hid hok
      clear hok
      go_wp2_with fail
      exact hK.out _ _ ⟨rfl, HOK.out.1, (HB0.out.trans HWB.out).trans HOK.out.2⟩
set_option maxRecDepth 100000 in
set_option maxHeartbeats 8000000 in
theorem play0_any {w : World} {B : WdB} {S : WdS} {q : Bool} (h : WdAt w B S q) (k a b c : Int) (s t : ByteArray) (h1 : ¬ k = 1) (h2 : ¬ k = 2) (h3 : ¬ k = 3) (h4 : ¬ k = 4) (h5 : ¬ k = 5) :
    Calls Tryz.prog 9 #[.pointer (some ⟨B.wb, 0, none⟩), .agg #[.int .i64 k, .int .i64 a, .int .i64 b, .int .i64 c, .string s, .string t]] w fun e w' => e = .returned (.bool true) ∧ PlyOK w w' B q := by
  have e1 : (k == 1) = false := by simp [h1]
  have e2 : (k == 2) = false := by simp [h2]
  have e3 : (k == 3) = false := by simp [h3]
  have e4 : (k == 4) = false := by simp [h4]
  have e5 : (k == 5) = false := by simp [h5]
  clear h1 h2 h3 h4 h5
  obtain ⟨N, hN⟩ : ∃ N, w.heap.size = N := ⟨_, rfl⟩
  have hC0 := CellsAt.mk_alloc w (opL k a b c s t) 31
  obtain ⟨w0, hw0⟩ : ∃ x, w.alloc (Obj.cells #[.int .i64 k, .int .i64 a, .int .i64 b, .int .i64 c, .string s, .string t] 31) = x := ⟨_, rfl⟩
  change CellsAt (w.alloc (Obj.cells #[.int .i64 k, .int .i64 a, .int .i64 b, .int .i64 c, .string s, .string t] 31)) w.heap.size _ at hC0
  rw [hw0, hN] at hC0
  have hf0 : Fr [] w w0 := by rw [← hw0]; exact (Fr.refl _ _).alloc _
  obtain ⟨h0, hb0⟩ := h.fr0 hf0
  have H0 := hid h0
  have HB0 := hid hb0
  have HC0 := hid hC0
  have k4 := h0.cc.c 4 _ rfl
  have k5 := h0.cc.c 5 _ rfl
  have kz := h0.cc.fz
  have c0 := hC0.c 0 _ rfl
  have c4 := hC0.c 4 _ rfl
  have c5 := hC0.c 5 _ rfl
  clear h h0 hb0 hf0 hC0
  refine calls_via fun K hK => ?_
  go_enter Tryz.func9, Tryz.ntmps9
  go_wp2_with fail
  exact hK.out _ _ ⟨rfl, ⟨_, H0.out⟩, HB0.out⟩
theorem play_any {w : World} {B : WdB} {S : WdS} {q : Bool} (h : WdAt w B S q) (k a b c : Int) (s t : ByteArray) (hs : s.size ≤ maxLen) (ht : t.size ≤ maxLen) :
    Calls Tryz.prog 9 #[.pointer (some ⟨B.wb, 0, none⟩), .agg #[.int .i64 k, .int .i64 a, .int .i64 b, .int .i64 c, .string s, .string t]] w fun e w' => e = .returned (.bool true) ∧ PlyOK w w' B q := by
  by_cases h1 : k = 1
  · exact play1_any h k a b c s t hs ht h1
  by_cases h2 : k = 2
  · exact play2_any h k a b c s t hs ht h2
  by_cases h3 : k = 3
  · exact play3_any h k a b c s t hs ht h3
  by_cases h4 : k = 4
  · exact play4_any h k a b c s t hs ht h4
  by_cases h5 : k = 5
  · exact play5_any h k a b c s t hs ht h5
  exact play0_any h k a b c s t h1 h2 h3 h4 h5
end Go.Proofs.Qxb6500354aGreat
