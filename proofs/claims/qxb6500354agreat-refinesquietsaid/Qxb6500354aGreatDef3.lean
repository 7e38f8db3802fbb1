/- THE PLAIN FUNCTIONS of the truth table, of naive propagation and of the checker's definition. No Go in sight. -/
import Derived.Test.Qxb6500354aGreatDef2
namespace Go.Proofs.Qxb6500354aGreat

def trueF (l : Int) (mask : Nat) : Bool := mask.testBit (l.natAbs - 1) == decide (0 < l)
def holdsF (c : List Int) (mask : Nat) : Bool := c.any fun l => trueF l mask
def allHoldF (cs : List (List Int)) (mask : Nat) : Bool := cs.all fun c => holdsF c mask
/-- the least assignment from mask on, n of them, or -1. -/
def tableF (cs : List (List Int)) : Nat → Nat → Int
  | 0, _ => -1
  | n + 1, mask => if allHoldF cs mask then mask else tableF cs n (mask + 1)
def valF (l : Int) : List Int → Int
  | [] => 0
  | x :: r => if x = l then 1 else if x = -l then -1 else valF l r
def stateLoop (on : List Int) : List Int → Nat → Int → Int × Int
  | [], op, un => if op = 0 then (-1, 0) else if op = 1 then (0, un) else (2, 0)
  | x :: r, op, un => if valF x on = 1 then (1, 0) else if valF x on = 0 then stateLoop on r (op + 1) x else stateLoop on r op un
def stateF (c on : List Int) : Int × Int := stateLoop on c 0 0
def clRound : List (List Int) → List Int → Bool → List Int × Bool × Bool
  | [], out, g => (out, g, false)
  | c :: r, out, g => if (stateF c out).1 = -1 then (out, g, true) else if (stateF c out).1 = 0 then clRound r (out ++ [(stateF c out).2]) true else clRound r out g
def closureF (cs : List (List Int)) : Nat → List Int → List Int × Bool
  | 0, out => (out, false)
  | n + 1, out => if (clRound cs out false).2.2 = true then ((clRound cs out false).1, true) else if (clRound cs out false).2.1 = true then closureF cs n (clRound cs out false).1 else ((clRound cs out false).1, false)
def negL (c : List Int) : List Int := c.map fun l => -l
def rupF (cs : List (List Int)) (c : List Int) : Bool := (closureF cs 13 (negL c)).2
/-- api.Rows. -/
def rowsL : List Int → Bool → List Int → List (Bool × List Int)
  | [], _, _ => []
  | x :: r, d, cur => if x = 13 then rowsL r true cur else if x = 0 then (d, cur) :: rowsL r false [] else rowsL r d (cur ++ [x])
def rowsOf (f : List Int) : List (Bool × List Int) := rowsL f false []
/-- checkm's walk over the rows: the verdict. -/
structure VerdS where
  err : Nat
  whr : Nat
  pos : Nat
def checkLoop : List (Bool × List Int) → Nat → List (List Int) → VerdS
  | [], k, store => if store.any (fun c => c.length == 0) then ⟨0, 0, 0⟩ else ⟨20, 2, k⟩
  | r :: rs, k, store =>
    if r.1 = true then (if store.contains r.2 then checkLoop rs (k + 1) (store.erase r.2) else ⟨19, 2, k⟩)
    else if rupF store r.2 = true then (if 64 ≤ store.length then ⟨12, 2, k⟩ else checkLoop rs (k + 1) (store ++ [r.2]))
    else ⟨18, 2, k⟩
/-- cnfm.Problem: the rows, the error, its place. -/
def problemF (bs : List Nat) : List (List Int) × Nat × Nat :=
  let a := parseM bs
  if a.err = 0 then
    (if (rowsOf a.flat).any (fun r => r.1) then ([], 16, 0)
     else if 40 < (rowsOf a.flat).length then ([], 17, 0)
     else ((rowsOf a.flat).map (fun r => r.2), 0, 0))
  else ([], a.err, a.pos)
def checkMF (pb pf : List Nat) : VerdS :=
  if (problemF pb).2.1 = 0 then
    (if (parseM pf).err = 0 then checkLoop (rowsOf (parseM pf).flat) 0 (problemF pb).1 else ⟨(parseM pf).err, 1, (parseM pf).pos⟩)
  else ⟨(problemF pb).2.1, 0, (problemF pb).2.2⟩
end Go.Proofs.Qxb6500354aGreat
