/- THE WALK over check.Check. -/
import Derived.Test.Qxb6500354aGreatChk9
import Derived.Test.Qxb6500354aGreatLaw4
namespace Go.Proofs.Qxb6500354aGreat
open Go.RowKit
set_option linter.unusedVariables false
set_option linter.unusedSimpArgs false

/-- The real checker, plainly. -/
def chkF (pb pf : List Nat) : VerdS :=
  if (parseF pb).err = 0 then
    (if surveyF (parseF pb).flat = 0 then
      (if (parseF pf).err = 0 then followK (rowsOf (parseF pf).flat) 0 (loadK (rowsOf (parseF pb).flat) (fun _ => none)) else ⟨(parseF pf).err, 1, (parseF pf).pos⟩)
     else ⟨surveyF (parseF pb).flat, 0, 0⟩)
  else ⟨(parseF pb).err, 0, (parseF pb).pos⟩
structure ParQ (w w' : World) (b : Nat) (av : Value) (r : ParsedS) (v : Value) : Prop where
  own : OwnI w' w.heap.size v r.flat
  tight : TightV v r.flat.length
  par : ∃ P' av', ParAt w' b P' av' ∧ Nx w av av' ∧ ∀ g, v.ownBlock = some g → av'.ownBlock ≠ some g
  fr : Fr (b :: blk av) w w'
theorem parse_any2 {w : World} {b : Nat} {av : Value} {P0 : ParS} (h : ParAt w b P0 av) (s : ByteArray) (hs : s.size ≤ maxLen) :
    Calls Tryz.prog 42 #[.pointer (some ⟨b, 0, none⟩), .string s] w fun e w' => ∃ v, e = .returned (.agg #[.int .i64 ((parseF (bytesOf s)).err : Nat), .int .i64 ((parseF (bytesOf s)).pos : Nat), v]) ∧ ParQ w w' b av (parseF (bytesOf s)) v := by
  refine (parse_any h s hs).mono ?_
  rintro e w' ⟨v, he, _, (⟨h1, rfl, h3, h4⟩ | h5)⟩
  · refine ⟨_, he, ?_, ?_, ⟨P0, av, h3, Nx.refl _ _, fun g hg => nomatch (show (none : Option Nat) = some g from hg)⟩, h4.mono (by simp)⟩
    · have : (parseF (bytesOf s)).flat = [] := by unfold parseF; rw [if_pos (by rw [bytesOf_len]; exact h1)]
      rw [this]; exact OwnI.nil _ _
    · have : (parseF (bytesOf s)).flat = [] := by unfold parseF; rw [if_pos (by rw [bytesOf_len]; exact h1)]
      rw [this]; exact .inl ⟨rfl, rfl⟩
  · obtain ⟨av', a, b'⟩ := h5.par
    exact ⟨v, he, h5.own, h5.tight, ⟨_, av', a, b'⟩, h5.fr⟩
theorem parseF_flatN (bs : List Nat) : FlatN (parseF bs).flat := by rw [parseF_eq]; exact parseM_flat bs
structure ChkOut (w w' : World) (b q : Nat) (av : Value) : Prop where
  ck : ∃ sl', CkAt w' b q sl'
  par : ∃ P' av', ParAt w' q P' av' ∧ Nx w av av'
  fr : Fr (b :: q :: blk av) w w'
end Go.Proofs.Qxb6500354aGreat
