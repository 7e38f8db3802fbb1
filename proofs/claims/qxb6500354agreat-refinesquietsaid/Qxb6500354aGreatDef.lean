/- THE PLAIN FUNCTIONS: what each real layer's Go function computes. No Go in sight: this text imports nothing. -/
namespace Go.Proofs.Qxb6500354aGreat

/-- The function f, but for the place k, where it is v. -/
def upd {α : Type} (f : Nat → α) (k : Nat) (v : α) : Nat → α := fun i => if i = k then v else f i
theorem upd_self {α : Type} (f : Nat → α) (k : Nat) (v : α) : upd f k v k = v := if_pos rfl
theorem upd_ne {α : Type} (f : Nat → α) (k : Nat) (v : α) (i : Nat) (h : i ≠ k) : upd f k v i = f i := if_neg h

/-- Sets of small numbers, as the bits of a number. -/
def setB (m i : Nat) : Nat := m ||| 2 ^ i
def clrB (m i : Nat) : Nat := m ^^^ (m &&& 2 ^ i)

/-- +v or -v with 1 ≤ v ≤ 12. -/
def good (l : Int) : Bool := l != 0 && decide (-12 ≤ l) && decide (l ≤ 12)

/-- api.CheckClause: 0, or the error's number. -/
def ccLoop : List Int → Nat → Nat
  | [], _ => 0
  | l :: r, last => if good l then (if last < l.natAbs then ccLoop r l.natAbs else 8) else 7
def checkClause (c : List Int) : Nat := if 12 < c.length then 1 else ccLoop c 0

/-! ### trail -/
structure TrailS where
  st : List (Int × Int)      -- the literals taken for true, each with its reason
  lims : List Nat            -- where level 1, 2 .. begins
  cursor : Nat
def findV (st : List (Int × Int)) (v : Nat) : Option (Int × Int) := st.find? (fun p => p.1.natAbs == v)
def idxV (st : List (Int × Int)) (v : Nat) : Option Nat := st.findIdx? (fun p => p.1.natAbs == v)
def valOf (o : Option (Int × Int)) (l : Int) : Int := match o with | none => 0 | some p => if p.1 = l then 1 else -1
def placeOf (o : Option Nat) : Int := match o with | none => -1 | some i => i
def reasonOf (o : Option (Int × Int)) : Int := match o with | none => -1 | some p => p.2
def levelAt (lims : List Nat) (i : Nat) : Nat := lims.countP (fun k => decide (k ≤ i))
def levelOf (lims : List Nat) (o : Option Nat) : Int := match o with | none => -1 | some i => levelAt lims i
def TrailS.value (T : TrailS) (l : Int) : Int := valOf (findV T.st l.natAbs) l
def TrailS.place (T : TrailS) (v : Nat) : Int := placeOf (idxV T.st v)
def TrailS.reason (T : TrailS) (v : Nat) : Int := reasonOf (findV T.st v)
def TrailS.level (T : TrailS) (v : Nat) : Int := levelOf T.lims (idxV T.st v)
def TrailS.push (T : TrailS) (l r : Int) : TrailS := { T with st := T.st ++ [(l, r)] }
def TrailS.popTo (T : TrailS) (n : Nat) : TrailS := { T with st := T.st.take n, cursor := min T.cursor n }
def TrailS.empty : TrailS := { st := [], lims := [], cursor := 0 }
def TrailS.decide (T : TrailS) (l : Int) : TrailS := { T with st := T.st ++ [(l, -1)], lims := T.lims ++ [T.st.length] }
/-- Backjump to a level that there is. -/
def TrailS.back (T : TrailS) (k : Nat) : TrailS :=
  if k < T.lims.length then { st := T.st.take (T.lims.getD k 0), lims := T.lims.take k, cursor := min T.cursor (T.lims.getD k 0) } else T
def TrailS.litAt (T : TrailS) (i : Nat) : Int := (T.st.getD i (0, 0)).1
def TrailS.take1 (T : TrailS) : TrailS := if T.cursor < T.st.length then { T with cursor := T.cursor + 1 } else T

/-! ### watch -/
structure WatchS where
  cl : Nat → List Int
  used : Nat
  fresh : Nat
  weak : Nat
  wl : Nat → Nat             -- by literal code
def WatchS.empty : WatchS := { cl := fun _ => [], used := 0, fresh := 0, weak := 0, wl := fun _ => 0 }
def code (l : Int) : Nat := if 0 < l then 2 * l.natAbs else 2 * l.natAbs + 1
def roomF (used : Nat) : Nat → Nat → Option Nat      -- from lo on, n places
  | _, 0 => none
  | lo, n + 1 => if used.testBit lo then roomF used (lo + 1) n else some lo
def WatchS.room (W : WatchS) (learnt : Bool) : Option Nat := if learnt then roomF W.used 40 12 else roomF W.used 0 40
def WatchS.put (W : WatchS) (id : Nat) (c : List Int) : WatchS :=
  { W with cl := upd W.cl id c, used := setB W.used id, fresh := setB W.fresh id }
/-- Add: the id, the error's number, the store. -/
def WatchS.add (W : WatchS) (c : List Int) (learnt : Bool) : Nat × Nat × WatchS :=
  if checkClause c = 0 then
    match W.room learnt with
    | none => (0, 12, W)
    | some id => (id, 0, W.put id c)
  else (0, checkClause c, W)
def WatchS.link (W : WatchS) (id : Nat) : WatchS :=
  let c0 := code ((W.cl id).getD 0 0)
  let c1 := code ((W.cl id).getD 1 0)
  let wl1 := upd W.wl c0 (setB (W.wl c0) id)
  { W with wl := upd wl1 c1 (setB (wl1 c1) id) }
def WatchS.unlink (W : WatchS) (id : Nat) : WatchS :=
  let c0 := code ((W.cl id).getD 0 0)
  let c1 := code ((W.cl id).getD 1 0)
  let wl1 := upd W.wl c0 (clrB (W.wl c0) id)
  { W with wl := upd wl1 c1 (clrB (wl1 c1) id) }
def WatchS.live (W : WatchS) (id : Int) : Bool := decide (0 ≤ id) && decide (id < 52) && W.used.testBit id.toNat
/-- some literal of it is true on the trail with this id for its reason. -/
def lockedF (T : TrailS) (id : Nat) : List Int → Bool
  | [] => false
  | l :: r => if T.value l = 1 ∧ T.reason l.natAbs = id then true else lockedF T id r
def WatchS.drop (W : WatchS) (id : Nat) : WatchS :=
  let W1 := if (W.fresh ||| W.weak).testBit id then W else W.unlink id
  { W1 with used := clrB W1.used id, fresh := clrB W1.fresh id, weak := clrB W1.weak id, cl := upd W1.cl id [] }
/-- Remove of an id: the error's number, the store. -/
def WatchS.remove (W : WatchS) (T : TrailS) (id : Nat) : Nat × WatchS :=
  if W.live id then (if lockedF T id (W.cl id) then (14, W) else (0, W.drop id)) else (13, W)
/-- Clause: the literals in normal form. -/
def normC (c : List Int) : List Int := (List.range 12).filterMap fun (i : Nat) =>
  if c.contains ((i : Int) + 1) then some ((i : Int) + 1) else if c.contains (-((i : Int) + 1)) then some (-((i : Int) + 1)) else none
def idsF (used : Nat) : List Nat := (List.range 52).filter fun i => used.testBit i
def swapL (c : List Int) (i j : Nat) : List Int := (c.set i (c.getD j 0)).set j (c.getD i 0)
/-- look's loop: from place i on, k found: n rounds at the most. -/
def lookLoop (T : TrailS) : Nat → List Int → Nat → Nat → List Int × Nat
  | 0, c, _, k => (c, k)
  | n + 1, c, i, k =>
    if i < c.length ∧ k < 2 then
      (if T.value (c.getD i 0) = -1 then lookLoop T n c (i + 1) k else lookLoop T n (swapL c i k) (i + 1) (k + 1))
    else (c, k)
def TrailS.assign (T : TrailS) (l r : Int) : TrailS := if T.value l = 0 then T.push l r else T
/-- look: the answer (-1: no conflict), the store, the trail. -/
def lookF (W : WatchS) (T : TrailS) (id : Nat) : Int × WatchS × TrailS :=
  let r := lookLoop T 13 (W.cl id) 0 0
  let W1 := { W with cl := upd W.cl id r.1, fresh := clrB W.fresh id }
  if r.2 = 2 then
    (-1, ({ W1 with weak := clrB W.weak id } : WatchS).link id, T)
  else
    let W2 := { W1 with weak := setB W.weak id }
    if r.2 = 0 then (id, W2, T)
    else (-1, W2, T.assign (r.1.getD 0 0) id)
/-- the first place from k on whose literal is not false. -/
def seekNF (T : TrailS) : List Int → Nat → Option Nat
  | [], _ => none
  | l :: r, k => if T.value l = -1 then seekNF T r (k + 1) else some k
def visitF (W : WatchS) (T : TrailS) (id : Nat) (p : Int) : Int × WatchS × TrailS :=
  let f := -p
  let c := if (W.cl id).getD 0 0 = f then swapL (W.cl id) 0 1 else W.cl id
  let W1 := { W with cl := upd W.cl id c }
  let q := c.getD 0 0
  let vq := T.value q
  if vq = 1 ∧ T.place q.natAbs < T.place p.natAbs then (-1, W1, T)
  else match seekNF T (c.drop 2) 2 with
    | some k =>
      let l := c.getD k 0
      let wl1 := upd W.wl (code f) (clrB (W.wl (code f)) id)
      (-1, { W1 with cl := upd W.cl id (swapL c 1 k), wl := upd wl1 (code l) (setB (wl1 (code l)) id) }, T)
    | none =>
      let W2 := W1.unlink id
      let W3 := { W2 with weak := setB W2.weak id }
      if vq = -1 then (id, W3, T)
      else if vq = 0 then (-1, W3, T.assign q id)
      else (-1, W3, T)
/-- wake: the ids of todo from i on, n of them. -/
def wakeF (todo : Nat) : Nat → Nat → WatchS → TrailS → Int × WatchS × TrailS
  | 0, _, W, T => (-1, W, T)
  | n + 1, i, W, T =>
    if todo.testBit i then
      let r := lookF W T i
      if 0 ≤ r.1 then r else wakeF todo n (i + 1) r.2.1 r.2.2
    else wakeF todo n (i + 1) W T
def throughF (p : Int) (todo : Nat) : Nat → Nat → WatchS → TrailS → Int × WatchS × TrailS
  | 0, _, W, T => (-1, W, T)
  | n + 1, i, W, T =>
    if todo.testBit i then
      let r := visitF W T i p
      if 0 ≤ r.1 then r else throughF p todo n (i + 1) r.2.1 r.2.2
    else throughF p todo n (i + 1) W T
def drainF : Nat → WatchS → TrailS → Int × WatchS × TrailS
  | 0, W, T => (-1, W, T)
  | n + 1, W, T =>
    if T.cursor < T.st.length then
      let p := T.litAt T.cursor
      let r := throughF p (W.wl (code (-p))) 52 0 W T
      if 0 ≤ r.1 then r else drainF n r.2.1 r.2.2.take1
    else (-1, W, T)
def propF (W : WatchS) (T : TrailS) : Int × WatchS × TrailS :=
  let r := wakeF (W.fresh ||| W.weak) 52 0 W T
  if 0 ≤ r.1 then r else drainF 13 r.2.1 r.2.2

/-! ### learn -/
structure LearnS where
  seen : Nat
  pos : Nat
  neg : Nat
  opn : Int
  lv : Int
def LearnS.clean : LearnS := { seen := 0, pos := 0, neg := 0, opn := 0, lv := 0 }
def LearnS.join (a : LearnS) (l : Int) : LearnS := if 0 < l then { a with pos := setB a.pos l.natAbs } else { a with neg := setB a.neg l.natAbs }
def LearnS.holds (a : LearnS) (l : Int) : Bool := if 0 < l then a.pos.testBit l.natAbs else a.neg.testBit l.natAbs
def markF (T : TrailS) (a : LearnS) (l : Int) : Bool × LearnS :=
  if a.seen.testBit l.natAbs then (true, a)
  else
    let k := T.level l.natAbs
    if k < 0 then (false, a)
    else
      let a1 := { a with seen := setB a.seen l.natAbs }
      if k = a.lv then (true, { a1 with opn := a.opn + 1 })
      else if 0 < k then (true, a1.join l) else (true, a1)
def markAllF (T : TrailS) : LearnS → List Int → Bool × LearnS
  | a, [] => (true, a)
  | a, l :: r => let m := markF T a l; if m.1 then markAllF T m.2 r else (false, m.2)
def WatchS.clause? (W : WatchS) (id : Int) : Option (List Int) := if W.live id then some (normC (W.cl id.toNat)) else none
/-- climb from place n-1 down. -/
def climbF (W : WatchS) (T : TrailS) : Nat → LearnS → Int × LearnS
  | 0, a => (0, a)
  | i + 1, a =>
    let p := T.litAt i
    if a.seen.testBit p.natAbs then
      if T.level p.natAbs = a.lv then
        let a1 := { a with opn := a.opn - 1 }
        if a1.opn = 0 then (p, a1)
        else match W.clause? (T.reason p.natAbs) with
          | none => (0, a1)
          | some rc => let m := markAllF T a1 rc; if m.1 then climbF W T i m.2 else (0, m.2)
      else climbF W T i a
    else climbF W T i a
def spareLoop (T : TrailS) (a : LearnS) (q : Int) : List Int → Bool
  | [] => true
  | s :: r => if s ≠ -q ∧ a.holds s = false ∧ T.level s.natAbs ≠ 0 then false else spareLoop T a q r
def spareF (W : WatchS) (T : TrailS) (a : LearnS) (q : Int) : Bool :=
  match W.clause? (T.reason q.natAbs) with
  | none => false
  | some rc => spareLoop T a q rc
def LearnS.litOf (a : LearnS) (v : Nat) : Int := if a.neg.testBit v then -v else if a.pos.testBit v then v else 0
/-- shrink's sweep: from v on, n variables: the literals that stay, the highest level among those beside the asserting one. -/
def shrinkF (W : WatchS) (T : TrailS) (a : LearnS) (as : Int) : Nat → Nat → List Int → Int → List Int × Int
  | 0, _, lits, back => (lits, back)
  | n + 1, v, lits, back =>
    let q := a.litOf v
    if q = as then shrinkF W T a as n (v + 1) (lits ++ [q]) back
    else if q ≠ 0 ∧ spareF W T a q = false then shrinkF W T a as n (v + 1) (lits ++ [q]) (if back < T.level v then T.level v else back)
    else shrinkF W T a as n (v + 1) lits back
structure LearntS where
  err : Nat
  lits : List Int
  assert : Int
  back : Int
def LearntS.fail (e : Nat) : LearntS := { err := e, lits := [], assert := 0, back := 0 }
def allFalseF (T : TrailS) (c : List Int) : Bool := c.all fun l => decide (T.value l = -1)
def analyzeF (W : WatchS) (T : TrailS) (conf : Int) : LearntS :=
  match W.clause? conf with
  | none => .fail 13
  | some c =>
    if allFalseF T c then
      if T.lims.length = 0 then .fail 10
      else
        let a := (markAllF T { LearnS.clean with lv := T.lims.length } c).2
        if a.opn = 0 then .fail 10
        else
          let r := climbF W T T.st.length a
          if r.1 = 0 then .fail 15
          else
            let s := shrinkF W T (r.2.join (-r.1)) (-r.1) 12 1 [] 0
            { err := 0, lits := s.1, assert := -r.1, back := s.2 }
    else .fail 15

/-! ### search -/
structure SolverS where
  log : List Int
  act : Nat → Int
  phase : Nat → Int
  inc : Int
  alive : Nat
  count : Nat
  conflicts : Nat
  restarts : Nat
  since : Nat
def SolverS.start : SolverS := { log := [], act := fun _ => 0, phase := fun _ => -1, inc := 1, alive := 0, count := 0, conflicts := 0, restarts := 0, since := 0 }
structure St where
  W : WatchS
  T : TrailS
  S : SolverS
/-- pick: from v on, n variables; best so far. -/
def pickLoop (T : TrailS) (S : SolverS) : Nat → Nat → Nat → Nat
  | 0, _, best => best
  | n + 1, v, best => pickLoop T S n (v + 1) (if T.value v = 0 ∧ (best = 0 ∨ S.act best < S.act v) then v else best)
def pickF (T : TrailS) (S : SolverS) : Int := let b := pickLoop T S 12 1 0; b * S.phase b
def actF (act : Nat → Int) (inc : Int) : List Int → (Nat → Int)
  | [] => act
  | l :: r => actF (upd act l.natAbs (act l.natAbs + inc)) inc r
def SolverS.bump (S : SolverS) (c : List Int) : SolverS := { S with act := actF S.act S.inc c, inc := S.inc + 1 }
def SolverS.note (S : SolverS) (del : Bool) (c : List Int) : SolverS := { S with log := S.log ++ (if del then [13] else []) ++ c ++ [0] }
/-- jump's loop over the trail's places from i-1 down. -/
def phaseF (T : TrailS) (level : Int) : Nat → (Nat → Int) → (Nat → Int)
  | 0, ph => ph
  | i + 1, ph =>
    let q := T.litAt i
    if T.level q.natAbs ≤ level then ph
    else phaseF T level i (upd ph q.natAbs (if 0 < q then 1 else -1))
def St.jump (s : St) (k : Nat) : St := { s with S := { s.S with phase := phaseF s.T k s.T.st.length s.S.phase }, T := s.T.back k }
/-- forget's loop: from k on, n of them. -/
def forgetLoop (T : TrailS) : Nat → Nat → WatchS → SolverS → WatchS × SolverS
  | 0, _, W, S => (W, S)
  | n + 1, k, W, S =>
    if 2 < S.count then
      (if S.alive.testBit k then
        let r := W.remove T (40 + k)
        if r.1 = 0 then
          forgetLoop T n (k + 1) r.2 { S.note true (normC (W.cl (40 + k))) with alive := clrB S.alive k, count := S.count - 1 }
        else forgetLoop T n (k + 1) W S
      else forgetLoop T n (k + 1) W S)
    else (W, S)
def St.forget (s : St) : St := if s.S.count < 4 then s else let r := forgetLoop s.T 12 0 s.W s.S; { s with W := r.1, S := r.2 }
def interval (i : Nat) : Nat := if i < 4 then i + 1 else 0
def St.restart (s : St) : St :=
  let S1 := { s.S with since := s.S.since + 1 }
  let k := interval s.S.restarts
  if 0 < k ∧ k ≤ S1.since then
    let s2 := ({ s with S := S1 } : St).jump 0
    { s2 with S := { s2.S with restarts := s.S.restarts + 1, since := 0 } }
  else { s with S := S1 }
/-- conflict: true: learnt from; false: refuted. -/
def St.conflict (s : St) (conf : Int) : Bool × St :=
  let s0 : St := { s with S := { s.S with conflicts := s.S.conflicts + 1 } }
  let g := analyzeF s.W s.T conf
  if g.err = 0 then
    let s1 : St := { s0 with S := s0.S.note false g.lits }
    let s2 := s1.jump g.back.toNat
    let s3 := s2.forget
    let a := s3.W.add g.lits true
    let s4 : St := if a.2.1 = 0 then { s3 with W := a.2.2, S := { s3.S with alive := setB s3.S.alive (a.1 - 40), count := s3.S.count + 1 } } else s3
    let s5 : St := { s4 with S := s4.S.bump g.lits }
    (true, s5.restart)
  else (false, { s0 with S := s0.S.note false [] })
/-- The rows of a flat form, for load: each row's numbers without its zero. -/
def rowsF : List Int → List Int → List (List Int)
  | [], _ => []
  | x :: r, cur => if x = 0 then cur :: rowsF r [] else rowsF r (cur ++ [x])
def loadF (W : WatchS) : List (List Int) → WatchS
  | [] => W
  | c :: r => loadF (W.add c false).2.2 r
/-- The loop, by fuel: how it ends. -/
structure EndS where
  sat : Bool
  s : St
def solveN : Nat → St → Option EndS
  | 0, _ => none
  | n + 1, s =>
    let r := propF s.W s.T
    let s1 : St := { s with W := r.2.1, T := r.2.2 }
    if 0 ≤ r.1 then
      let c := s1.conflict r.1
      if c.1 then solveN n c.2 else some ⟨false, c.2⟩
    else if s1.T.st.length = 12 then some ⟨true, s1⟩
    else solveN n { s1 with T := s1.T.decide (pickF s1.T s1.S) }
end Go.Proofs.Qxb6500354aGreat
