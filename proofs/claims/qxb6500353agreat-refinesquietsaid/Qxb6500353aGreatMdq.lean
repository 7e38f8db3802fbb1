/- The model's decoder: one block, plainly. -/
import Derived.Test.Qxb6500353aGreatMdf
import Derived.Test.Qxb6500353aGreatMdk
import Derived.Test.Qxb6500353aGreatMdo
namespace Go.Proofs.Qxb6500353aGreat
set_option linter.unusedVariables false
set_option linter.unusedSimpArgs false

/-- What one block leaves: an error, the next block's beginning, or the text's end. -/
structure BlkR (T0 : Tp) (fin : Nat) (t0 : Tp) (er : Nat) (t' : Tp) (o' : List Nat) : Prop where
  len : o'.length ≤ 256
  byte : ∀ c ∈ o', c < 256
  bad : er ≠ 0 → Ends T0 DS.init er o'
  more : er = 0 → fin = 0 → t0.at_ + 1 ≤ t'.at_ ∧ t'.at_ ≤ t'.n ∧ t'.n = t0.n ∧ ∃ sq, R0 o' sq ∧ Steps T0 DS.init t' sq
  done : er = 0 → fin ≠ 0 → Ends T0 DS.init (if t'.sync.at_ < t'.sync.n then 11 else 0) o'
theorem BlkR.of {T0 t0 t t' : Tp} {fin er : Nat} {s : DS} {o' : List Nat} (h : Steps T0 DS.init t s) (hf : s.final = fin) (ha : t0.at_ + 1 ≤ t.at_) (hc : t.at_ ≤ t.n) (hn : t.n = t0.n) (k : CodR t s er t' o') : BlkR T0 fin t0 er t' o' := by
  refine ⟨k.len, k.byte, fun q => h.ends (k.bad q), fun q q2 => ?_, fun q q2 => h.ends ((k.good q).go.2 (by rw [hf]; exact q2))⟩
  obtain ⟨s', h1, h2⟩ := (k.good q).go.1 (by rw [hf]; exact q2)
  have h3 := h2.fwd hc
  exact ⟨Nat.le_trans ha h3.1, h3.2.1, h3.2.2.trans hn, s', h1, h.trans h2⟩
/-- A round's head. -/
theorem round_head {T0 t : Tp} {o : List Nat} {sq : DS} (h0 : R0 o sq) (h : Steps T0 DS.init t sq) (hc : t.at_ ≤ t.n) :
    (t.got 1 < 1 → Ends T0 DS.init 4 o) ∧ (¬ t.got 1 < 1 → (t.skip 1).got 2 < 2 → Ends T0 DS.init 4 o) ∧
    (¬ t.got 1 < 1 → ¬ (t.skip 1).got 2 < 2 → (t.skip 1).peek 2 = 3 → Ends T0 DS.init 5 o) := by
  have a := head0 (t := t) h0
  refine ⟨fun c => h.ends (a.1 c), fun c c2 => ?_, fun c c2 c3 => ?_⟩
  · obtain ⟨s1, b1, b2⟩ := a.2 c
    exact (h.trans b2).ends ((head1 b1).1 c2)
  · obtain ⟨s1, b1, b2⟩ := a.2 c
    exact (h.trans b2).ends ((head1 b1).2.1 c2 c3)
theorem round_in {T0 t : Tp} {o : List Nat} {sq : DS} (h0 : R0 o sq) (h : Steps T0 DS.init t sq) (hc : t.at_ ≤ t.n) (c : ¬ t.got 1 < 1) (c2 : ¬ (t.skip 1).got 2 < 2) :
    t.at_ + 1 ≤ ((t.skip 1).skip 2).at_ ∧ ((t.skip 1).skip 2).at_ ≤ ((t.skip 1).skip 2).n ∧ ((t.skip 1).skip 2).n = t.n ∧
    ((t.skip 1).peek 2 = 0 → ∃ s', s'.ph = 2 ∧ s'.final = t.peek 1 ∧ s'.out = o ∧ Steps T0 DS.init ((t.skip 1).skip 2).sync s') ∧
    ((t.skip 1).peek 2 = 1 → ∃ s', DJ (t.peek 1) fixA fixB o s' ∧ Steps T0 DS.init ((t.skip 1).skip 2) s') ∧
    ((t.skip 1).peek 2 = 2 → ∃ s', s'.ph = 4 ∧ s'.final = t.peek 1 ∧ s'.out = o ∧ s'.ls = [] ∧ Steps T0 DS.init ((t.skip 1).skip 2) s') := by
  obtain ⟨s1, b1, b2⟩ := (head0 (t := t) h0).2 c
  have f1 := skip_fwd hc c
  have f2 := skip_fwd f1.2.1 c2
  have hd := head1 (t := t.skip 1) b1
  refine ⟨by unfold Tp.skip; dsimp only; omega, f2.2.1, (f1.trans f2).2.2, fun q => ?_, fun q => ?_, fun q => ?_⟩
  · obtain ⟨s', p1, p2, p3, p4⟩ := hd.2.2.1 c2 q
    exact ⟨s', p1, p2, p3, (h.trans b2).trans p4⟩
  · obtain ⟨s', p1, p2, p3, p4, p5, p6⟩ := hd.2.2.2.1 c2 q
    exact ⟨s', ⟨p1, p2, p4, p5, p3⟩, (h.trans b2).trans p6⟩
  · obtain ⟨s', p1, p2, p3, p4, p5⟩ := hd.2.2.2.2 c2 q
    exact ⟨s', p1, p2, p3, p4, (h.trans b2).trans p5⟩
theorem blk_sto {T0 t0 t : Tp} {fin : Nat} {o : List Nat} {s : DS} (hp : s.ph = 2) (hf : s.final = fin) (ho : s.out = o) (h : Steps T0 DS.init t.sync s) (ha : t0.at_ + 1 ≤ t.at_) (hc : t.at_ ≤ t.n) (hn : t.n = t0.n) (hol : o.length ≤ 256) (hby : ∀ c ∈ o, c < 256) :
    BlkR T0 fin t0 (stoM t.sync o).1 (stoM t.sync o).2.1 (stoM t.sync o).2.2 := by
  have f := sync_fwd hc
  have l := stoM_law (t := t.sync) hp ho
  have hlen : (stoM t.sync o).2.2.length ≤ 256 ∧ ∀ c ∈ (stoM t.sync o).2.2, c < 256 := by
    unfold stoM
    split
    · exact ⟨hol, hby⟩
    · exact stoG_len _ _ _ hol hby
  exact BlkR.of h hf (Nat.le_trans ha f.1) f.2.1 (f.2.2.trans hn) ⟨hlen.1, hlen.2, l.1, l.2⟩
end Go.Proofs.Qxb6500353aGreat
