/- THE PLAIN FUNCTIONS of the real checker. No Go in sight. -/
import Derived.Test.Qxb6500354aGreatLaw3
namespace Go.Proofs.Qxb6500354aGreat

/-- the store: slot by slot, perhaps a row. -/
abbrev Slots := Nat → Option (List Int)
def bitV (l : Int) : Nat := 2 ^ (l.natAbs - 1)
def posB : List Int → Nat
  | [] => 0
  | l :: r => (if 0 < l then bitV l else 0) ||| posB r
def negB : List Int → Nat
  | [] => 0
  | l :: r => (if 0 < l then 0 else bitV l) ||| negB r
def slotP (o : Option (List Int)) : Nat := match o with | none => 0 | some c => posB c
def slotN (o : Option (List Int)) : Nat := match o with | none => 0 | some c => negB c
def lowF (sl : Slots) : Nat → Nat → Option Nat
  | 0, _ => none
  | n + 1, s => if (sl s).isSome = true then lowF sl n (s + 1) else some s
def hasRow (o : Option (List Int)) (c : List Int) : Bool := match o with | none => false | some d => d == c
def seekF (sl : Slots) (c : List Int) : Nat → Nat → Option Nat
  | 0, _ => none
  | n + 1, s => if hasRow (sl s) c = true then some s else seekF sl c n (s + 1)
def slotI (o : Option Nat) : Int := match o with | none => -1 | some s => s
def emptyF (sl : Slots) : Nat := (List.range 64).countP fun s => hasRow (sl s) []
def putK (sl : Slots) (c : List Int) : Slots := match lowF sl 64 0 with | none => sl | some s => upd sl s (some c)
def oneB (x : Nat) : Bool := x != 0 && (x &&& (x - 1)) == 0
/-- one sweep, from slot s on, n of them. -/
def sweepK (sl : Slots) : Nat → Nat → Nat → Nat → Nat × Nat × Bool
  | 0, _, yes, no => (yes, no, false)
  | n + 1, s, yes, no => match sl s with
    | none => sweepK sl n (s + 1) yes no
    | some c =>
      if (posB c &&& yes) ||| (negB c &&& no) = 0 then
        (if minusB (posB c) (yes ||| no) ||| minusB (negB c) (yes ||| no) = 0 then (yes, no, true)
         else if minusB (negB c) (yes ||| no) = 0 then (if oneB (minusB (posB c) (yes ||| no)) = true then sweepK sl n (s + 1) (yes ||| minusB (posB c) (yes ||| no)) no else sweepK sl n (s + 1) yes no)
         else if minusB (posB c) (yes ||| no) = 0 then (if oneB (minusB (negB c) (yes ||| no)) = true then sweepK sl n (s + 1) yes (no ||| minusB (negB c) (yes ||| no)) else sweepK sl n (s + 1) yes no)
         else sweepK sl n (s + 1) yes no)
      else sweepK sl n (s + 1) yes no
def rupK (sl : Slots) : Nat → Nat → Nat → Bool
  | 0, _, _ => false
  | n + 1, yes, no =>
    if (sweepK sl 64 0 yes no).2.2 = true then true
    else if (sweepK sl 64 0 yes no).1 = yes ∧ (sweepK sl 64 0 yes no).2.1 = no then false
    else rupK sl n (sweepK sl 64 0 yes no).1 (sweepK sl 64 0 yes no).2.1
def turnK (sl : Slots) (r : Bool × List Int) : Nat × Slots :=
  if r.1 = true then (match seekF sl r.2 64 0 with | none => (19, sl) | some s => (0, upd sl s none))
  else if rupK sl 13 (negB r.2) (posB r.2) = true then (match lowF sl 64 0 with | none => (12, sl) | some s => (0, upd sl s (some r.2)))
  else (18, sl)
def followK : List (Bool × List Int) → Nat → Slots → VerdS
  | [], k, sl => if emptyF sl = 0 then ⟨20, 2, k⟩ else ⟨0, 0, 0⟩
  | r :: rs, k, sl => if (turnK sl r).1 = 0 then followK rs (k + 1) (turnK sl r).2 else ⟨(turnK sl r).1, 2, k⟩
end Go.Proofs.Qxb6500354aGreat
