/- THE PLAIN FUNCTIONS of the parsers and the checkers. No Go in sight. -/
import Derived.Test.Qxb6500354aGreatDef
namespace Go.Proofs.Qxb6500354aGreat

/-! ### cnf: the real parser, a machine -/
structure ParS where
  arena : List Int
  state : Nat
  start : Nat
  minus : Bool
  val : Nat
  pos : Nat
  neg : Nat
  del : Bool
  opn : Bool
  err : Nat
  at_ : Nat
def ParS.idle : ParS := { arena := [], state := 0, start := 0, minus := false, val := 0, pos := 0, neg := 0, del := false, opn := false, err := 0, at_ := 0 }
def classF (c : Nat) : Nat := if c = 32 ∨ c = 9 ∨ c = 13 ∨ c = 10 then 1 else if c = 45 then 3 else if c = 99 then 4 else if c = 100 then 5 else if 48 ≤ c ∧ c ≤ 57 then 2 else 0
def ParS.fail (p : ParS) (e a : Nat) : ParS := { p with err := e, at_ := a }
/-- the literals of the row, from variable v on, n of them. -/
def sweepF (pos neg : Nat) : Nat → Nat → List Int
  | 0, _ => []
  | n + 1, v => (if pos.testBit v then [(v : Int)] else []) ++ (if neg.testBit v then [-(v : Int)] else []) ++ sweepF pos neg n (v + 1)
def ParS.endRow (p : ParS) : ParS :=
  { p with arena := if p.pos &&& p.neg = 0 then p.arena ++ (if p.del then [13] else []) ++ sweepF p.pos p.neg 12 1 ++ [0] else p.arena, pos := 0, neg := 0, del := false, opn := false }
def ParS.number (p : ParS) : ParS :=
  if p.val = 0 ∧ p.minus = true then p.fail 3 p.start
  else if 12 < p.val then p.fail 4 p.start
  else if p.val = 0 then p.endRow
  else if p.minus = true then { p with opn := true, neg := setB p.neg p.val }
  else { p with opn := true, pos := setB p.pos p.val }
def ParS.begin (p : ParS) (c k i : Nat) : ParS :=
  if k = 4 then { p with start := i, state := 1 }
  else if k = 5 then (if p.opn = true then ({ p with start := i } : ParS).fail 2 i else { p with start := i, state := 4, del := true, opn := true })
  else if k = 3 then { p with start := i, state := 2, minus := true, val := 0 }
  else if k = 2 then { p with start := i, state := 3, minus := false, val := c - 48 }
  else if k = 0 then ({ p with start := i } : ParS).fail 2 i
  else { p with start := i }
def ParS.feed (p : ParS) (c i : Nat) : ParS :=
  if p.state = 0 then p.begin c (classF c) i
  else if p.state = 1 then (if c = 10 then { p with state := 0 } else p)
  else if p.state = 2 then
    (if classF c = 2 then { p with state := 3, val := c - 48 } else if classF c = 1 then p.fail 3 p.start else p.fail 2 i)
  else if p.state = 3 then
    (if classF c = 2 then { p with val := if 12 < p.val * 10 + (c - 48) then 13 else p.val * 10 + (c - 48) }
     else if classF c = 1 then ({ p with state := 0 } : ParS).number
     else p.fail 2 i)
  else (if classF c = 1 then { p with state := 0 } else p.fail 2 i)
def feedAll : List Nat → Nat → ParS → ParS
  | [], _, p => p
  | c :: r, i, p => if p.err = 0 then feedAll r (i + 1) (p.feed c i) else p
structure ParsedS where
  err : Nat
  pos : Nat
  flat : List Int
def parseF (bs : List Nat) : ParsedS :=
  if 1048576 < bs.length then ⟨1, 0, []⟩
  else
    let p1 := feedAll bs 0 .idle
    let p2 := if p1.err = 0 then p1.feed 32 bs.length else p1
    let p3 := if p2.err = 0 ∧ p2.opn = true then p2.fail 5 bs.length else p2
    ⟨p3.err, p3.at_, if p3.err = 0 then p3.arena else []⟩

/-! ### cnfm: the model -/
def spaceB (c : Nat) : Bool := c == 32 || c == 9 || c == 13 || c == 10
def digitB (c : Nat) : Bool := decide (48 ≤ c) && decide (c ≤ 57)
def satStep (v c : Nat) : Nat := if 12 < v * 10 + (c - 48) then 13 else v * 10 + (c - 48)
/-- number: the value, the sign, the error, its place. -/
def numberM (tok : List Nat) (a : Nat) : Nat × Bool × Nat × Nat :=
  let neg := tok.headD 0 == 45
  let ds := if neg then tok.drop 1 else tok
  let i := if neg then a + 1 else a
  match ds.findIdx? (fun c => !digitB c) with
  | some k => (0, false, 2, i + k)
  | none =>
    if ds.length = 0 then (0, false, 3, a)
    else
      let v := ds.foldl satStep 0
      if v = 0 ∧ neg = true then (0, false, 3, a)
      else if 12 < v then (0, false, 4, a)
      else (v, neg, 0, 0)
/-- norm: from variable v on, n of them; none: both signs. -/
def normM (row : List Int) : Nat → Nat → Option (List Int)
  | 0, _ => some []
  | n + 1, v =>
    if row.contains (v : Int) = true ∧ row.contains (-(v : Int)) = true then none
    else (normM row n (v + 1)).map fun r => (if row.contains (v : Int) then [(v : Int)] else []) ++ (if row.contains (-(v : Int)) then [-(v : Int)] else []) ++ r
def rowM (del : Bool) (row : List Int) : List Int := match normM row 12 1 with
  | none => []
  | some n => (if del then [13] else []) ++ n ++ [0]
def parseMLoop : Nat → List Nat → Nat → List Int → List Int → Bool → Bool → ParsedS
  | 0, _, _, _, _, _, _ => ⟨0, 0, []⟩
  | _ + 1, [], i, flat, _, _, opn => if opn = true then ⟨5, i, []⟩ else ⟨0, 0, flat⟩
  | n + 1, c :: r, i, flat, row, del, opn =>
    if spaceB c = true then parseMLoop n r (i + 1) flat row del opn
    else if c = 99 then
      let m := ((c :: r).takeWhile fun c => c != 10).length
      parseMLoop n ((c :: r).drop m) (i + m) flat row del opn
    else
      let m := ((c :: r).takeWhile fun c => !spaceB c).length
      let tok := (c :: r).take m
      if c = 100 then
        (if opn = true then ⟨2, i, []⟩
         else if 1 < m then ⟨2, i + 1, []⟩
         else parseMLoop n ((c :: r).drop m) (i + m) flat row true true)
      else
        let q := numberM tok i
        if q.2.2.1 = 0 then
          (if q.1 = 0 then parseMLoop n ((c :: r).drop m) (i + m) (flat ++ rowM del row) [] false false
           else parseMLoop n ((c :: r).drop m) (i + m) flat (row ++ [if q.2.1 = true then -(q.1 : Int) else (q.1 : Int)]) del true)
        else ⟨q.2.2.1, q.2.2.2, []⟩
def parseM (bs : List Nat) : ParsedS :=
  if 1048576 < bs.length then ⟨1, 0, []⟩ else parseMLoop (bs.length + 1) bs 0 [] [] false false

/-! ### print -/
def litB (l : Int) : List Nat := (if l < 0 then [45] else []) ++ (if 10 ≤ l.natAbs then [48 + l.natAbs / 10, 48 + l.natAbs % 10] else [48 + l.natAbs]) ++ [32]
def numB (x : Int) : List Nat := if x = 13 then [100, 32] else if x = 0 then [48, 10] else litB x
def printB (flat : List Int) : List Nat := flat.flatMap numB
end Go.Proofs.Qxb6500354aGreat
