/- The abstract machine: values, a small heap of boxes and lists, compact code, what it computes. -/
import Derived.Calls
set_option linter.unusedVariables false
set_option linter.unusedSimpArgs false
namespace Go.Zq
open Go

/-- One cell's worth. -/
inductive T where
  | lit (v : Value)
  | ptr (id row off : Nat)
  | sl (id off len : Nat)
  | nls (sz : Nat)
  | imm (perm : Bool) (sz : Nat) (rows : List (List T))
  | ip (cells : List T)
  | clo (f : FuncId) (caps : List T)
  deriving Inhabited

abbrev Row := List T

/-- What a slot holds. -/
inductive SV where
  | und
  | one (t : T)
  | agg (ts : Row)
  | tup (vs : List SV)
  deriving Inhabited

inductive Blk where
  | dead
  | box (cells : Row)
  | lst (sz : Nat) (rows : List Row)
  deriving Inhabited

structure St where
  sl : List (Nat × SV)
  hp : List Blk
  deriving Inhabited

abbrev I (n : Int) : T := .lit (.int .i64 n)
abbrev B (b : Bool) : T := .lit (.bool b)

inductive Opd where
  | t (n : Nat)
  | c (v : SV)
  deriving Inhabited

abbrev Ev := Opd → Option SV

def lookup (n : Nat) : List (Nat × SV) → Option SV
  | [] => none
  | (m, v) :: r => if m = n then some v else lookup n r

/-- A value that stands for itself. -/
def litOk : Value → Bool
  | .agg _ | .tuple _ | .func .. | .slice .. | .pointer (some _) => false
  | _ => true

def St.ev (σ : St) : Opd → Option SV
  | .t n => lookup n σ.sl
  | .c v => some v

def St.set (σ : St) (d : Nat) (v : SV) : St := { σ with sl := (d, v) :: σ.sl }

def SV.cells : SV → Option Row
  | .one t => some [t]
  | .agg ts => some ts
  | _ => none

/-- A value out of cells: one cell, or an aggregate of n. -/
def SV.of : Option Nat → Row → Option SV
  | none, t :: _ => some (.one t)
  | none, [] => none
  | some n, cs => if n ≤ cs.length then some (.agg (cs.take n)) else none

/-- The rows that a slice reads. -/
def rowsOf (hp : List Blk) : T → Option (List Row)
  | .nls _ => some []
  | .imm _ _ rows => some rows
  | .sl id off len =>
    match hp[id]? with
    | some (.lst _ rows) => if off + len ≤ rows.length then some ((rows.drop off).take len) else none
    | _ => none
  | _ => none

/-- The cells from an address on. -/
def cellsAt (hp : List Blk) : T → Option Row
  | .ip cells => some cells
  | .ptr id row off =>
    match hp[id]? with
    | some (.box cells) => if row = 0 then some (cells.drop off) else none
    | some (.lst _ rows) => (rows[row]?).map (·.drop off)
    | _ => none
  | _ => none

/-- Cells written over. -/
def wr (cs : Row) (off : Nat) (new : Row) : Row := cs.take off ++ (new ++ cs.drop (off + new.length))

/-- A cell that may lie in a list. -/
def inList : T → Bool
  | .lit v => litOk v
  | .nls _ => true
  | .imm p _ _ => p
  | _ => false

/-- The size of an element of a slice. -/
def szOf (hp : List Blk) : T → Option Nat
  | .nls n => some n
  | .imm _ n _ => some n
  | .sl id _ _ =>
    match hp[id]? with
    | some (.lst n _) => some n
    | _ => none
  | _ => none

def store (hp : List Blk) (n : Nat) (a : T) (new : Row) : Option (List Blk) :=
  if new.length = n then
    match a with
    | .ptr id row off =>
      match hp[id]? with
      | some (.box cells) => if row = 0 ∧ off + n ≤ cells.length then some (hp.set id (.box (wr cells off new))) else none
      | some (.lst sz rows) =>
        match rows[row]? with
        | some r => if off + n ≤ r.length ∧ new.all inList then some (hp.set id (.lst sz (rows.set row (wr r off new)))) else none
        | none => none
      | _ => none
    | _ => none
  else none

def binInt (o : BinOp) (k : IntKind) (x y : Int) : Option Value :=
  match o with
  | .add => some (.int k (k.wrap (x + y)))
  | .sub => some (.int k (k.wrap (x - y)))
  | .mul => some (.int k (k.wrap (x * y)))
  | .quo => if y = 0 then none else some (.int k (k.wrap (x.tdiv y)))
  | .rem => if y = 0 then none else some (.int k (x.tmod y))
  | .and => some (.int k (k.wrap (BitVec.ofInt k.bits x &&& BitVec.ofInt k.bits y).toNat))
  | .or => some (.int k (k.wrap (BitVec.ofInt k.bits x ||| BitVec.ofInt k.bits y).toNat))
  | .xor => some (.int k (k.wrap (BitVec.ofInt k.bits x ^^^ BitVec.ofInt k.bits y).toNat))
  | .andNot => some (.int k (k.wrap (BitVec.ofInt k.bits x &&& ~~~ BitVec.ofInt k.bits y).toNat))
  | .eql => some (.bool (x == y))
  | .neq => some (.bool (x != y))
  | .lss => some (.bool (x < y))
  | .leq => some (.bool (x ≤ y))
  | .gtr => some (.bool (x > y))
  | .geq => some (.bool (x ≥ y))
  | _ => none

def binT (o : BinOp) : Value → Value → Option Value
  | .int k x, .int k' y =>
    match o with
    | .shl => if y < 0 then none else some (.int k (k.wrap (x * 2 ^ min y.toNat k.bits)))
    | .shr => if y < 0 then none else some (.int k (x.fdiv (2 ^ min y.toNat k.bits)))
    | o => if k = k' then binInt o k x y else none
  | .string x, .string y =>
    match o with
    | .add => if ((x.size + y.size : Nat) : Int) ≤ IntKind.i64.max then some (.string (x ++ y)) else none
    | .eql => some (.bool (x.toList == y.toList))
    | .neq => some (.bool (!(x.toList == y.toList)))
    | _ => none
  | _, _ => none

def unT : UnOp → Value → Option Value
  | .not, .bool x => some (.bool (!x))
  | .neg, .int k n => some (.int k (k.wrap (0 - n)))
  | _, _ => none

/-- Cells of one kind: 0 numbers, 1 truth values, 2 strings. -/
def eqTag : Nat → T → T → Option Bool
  | 0, .lit (.int k x), .lit (.int k' y) => if k = k' then some (x == y) else none
  | 1, .lit (.bool x), .lit (.bool y) => some (x == y)
  | 2, .lit (.string x), .lit (.string y) => some (x.toList == y.toList)
  | _, _, _ => none

/-- All cells alike. -/
def eqRow : List Nat → Row → Row → Option Bool
  | [], [], [] => some true
  | g :: gs, x :: xs, y :: ys => (eqTag g x y).bind fun e => (eqRow gs xs ys).bind fun r => some (e && r)
  | _, _, _ => none

inductive K where
  | mv (d : Nat) (x : Opd)
  | pick (d : Nat) (c x y : Opd)
  | alc (d : Nat) (z : Row)
  | box (d : Nat) (x : Opd)
  | bld (d : Nat) (z : Row) (ps : List (Nat × Nat × Opd))
  | bsl (d n : Nat) (z : Row) (ps : List (Nat × Opd))
  | ld (d : Nat) (n : Option Nat) (x : Opd)
  | st (n : Nat) (x y : Opd)
  | nilc (d : Nat) (x : Opd)
  | bin (d : Nat) (o : BinOp) (x y : Opd)
  | bb (d : Nat) (neg : Bool) (x y : Opd)
  | eqs (d : Nat) (neg : Bool) (gs : List Nat) (x y : Opd)
  | un (d : Nat) (o : UnOp) (x : Opd)
  | cv (d : Nat) (k : IntKind) (x : Opd)
  | mkf (d : Nat) (f : FuncId) (caps : List Opd)
  | mks (d by_ : Nat) (z : Row) (n c : Opd)
  | slc (d sz : Nat) (x : Opd) (lo hi : Option Opd)
  | sls (d : Nat) (x : Opd) (lo hi : Option Opd)
  | fa (d : Nat) (x : Opd) (off : Nat)
  | fld (d : Nat) (x : Opd) (off : Nat) (n : Option Nat)
  | ia (d : Nat) (sz : Nat) (x j : Opd)
  | ix (d : Nat) (x j : Opd)
  | ext (d : Nat) (x : Opd) (j : Nat)
  | call (d : Option Nat) (pu : Bool) (f : FuncId) (xs : List (Opd × Nat × Bool))
  | calv (d : Option Nat) (pu : Bool) (f : Opd) (xs : List (Opd × Nat × Bool))
  | len (d : Nat) (x : Opd)
  | lens (d : Nat) (x : Opd)
  | app (d by_ sz : Nat) (x y : Opd)
  | cpy (d sz : Nat) (x y : Opd)
  | mm (d : Nat) (isMax : Bool) (x y : Opd)
  deriving Inhabited

def asInt : SV → Option (IntKind × Int)
  | .one (.lit (.int k n)) => some (k, n)
  | _ => none
def asBool : SV → Option Bool
  | .one (.lit (.bool x)) => some x
  | _ => none
def asOne : SV → Option T
  | .one t => some t
  | _ => none
def asLit : SV → Option Value
  | .one (.lit v) => some v
  | _ => none

/-- Parts put over the zero cells: the place of each, in cells. -/
def fill (ev : Ev) (cs : Row) : List (Nat × Nat × Opd) → Option Row
  | [] => some cs
  | (o, n, x) :: r => (ev x).bind fun v => v.cells.bind fun new =>
    if new.length = n ∧ o + n ≤ cs.length then fill ev (wr cs o new) r else none
/-- Parts put over the zero rows: the number of each row. -/
def fillRows (ev : Ev) (rows : List Row) : List (Nat × Opd) → Option (List Row)
  | [] => some rows
  | (j, x) :: r => (ev x).bind fun v => v.cells.bind fun new =>
    match rows[j]? with
    | some old => if new.length = old.length ∧ new.all inList then fillRows ev (rows.set j new) r else none
    | none => none

def setD (σ : St) (d : Option Nat) (v : SV) : St := match d with | some d => σ.set d v | none => σ

/-! What a callee is handed, what a loop begins with, what is handed back: a part of the heap, numbered anew. 'Src': what lies behind each new number. -/
inductive Src where
  | box (id off n : Nat)
  | lst (id off len : Nat)
  | nil (sz : Nat)
  deriving DecidableEq, Inhabited

def addS (l : List Src) (s : Src) : List Src := if s ∈ l then l else l ++ [s]

def boxCells (hp : List Blk) (id : Nat) : Row :=
  match hp[id]? with
  | some (.box cells) => cells
  | _ => []

/-- The boxes that a cell leads to (n: how many cells; 0: all). No proof leans on the collecting. -/
def visP (hp : List Blk) (n : Nat) (l : List Src) : T → List Src
  | .ptr id _ off => addS l (if n = 0 then .box id 0 (boxCells hp id).length else .box id off n)
  | _ => l
def visB (hp : List Blk) (n : Nat) (l : List Src) : T → List Src
  | .clo _ caps => caps.foldl (visP hp 0) l
  | t => visP hp n l t
def visL (l : List Src) : T → List Src
  | .sl id off len => addS l (.lst id off len)
  | .nls n => l ++ [.nil n]
  | _ => l
def srcCells (hp : List Blk) : Src → Row
  | .box id off n => ((boxCells hp id).drop off).take n
  | _ => []
def closeB (hp : List Blk) : Nat → Nat → List Src → List Src
  | 0, _, l => l
  | f + 1, k, l =>
    match l[k]? with
    | some s => closeB hp f (k + 1) ((srcCells hp s).foldl (visP hp 0) l)
    | none => l
def svCells : SV → Row
  | .one t => [t]
  | .agg ts => ts
  | _ => []
/-- The sources: the boxes given, those that they lead to; then the lists that these have, then those of some values. -/
def gather (hp : List Blk) (bx : List Src) (cells : Row) : List Src :=
  let bx := closeB hp 6 0 bx
  bx ++ cells.foldl visL ((bx.flatMap (srcCells hp)).foldl visL [])

def findB : List Src → Nat → Nat → Nat → Option (Nat × Nat)
  | [], _, _, _ => none
  | .box id o n :: r, k, j, off => if id = j ∧ o ≤ off ∧ off < o + n then some (k, off - o) else findB r (k + 1) j off
  | _ :: r, k, j, off => findB r (k + 1) j off
def findL : List Src → Nat → Nat → Nat → Nat → Option Nat
  | [], _, _, _, _ => none
  | .lst id o l :: r, k, j, off, len => if id = j ∧ o = off ∧ l = len then some k else findL r (k + 1) j off len
  | _ :: r, k, j, off, len => findL r (k + 1) j off len
def findN : List Src → Nat → Nat → Option Nat
  | [], _, _ => none
  | .nil _ :: r, k, m => if m = 0 then some k else findN r (k + 1) (m - 1)
  | _ :: r, k, m => findN r (k + 1) m

def renP (src : List Src) : T → Option T
  | .ptr id row off => if row = 0 then (findB src 0 id off).bind fun x => some (.ptr x.1 0 x.2) else none
  | _ => none
def renPs (src : List Src) : List T → Option (List T)
  | [] => some []
  | t :: r => (renP src t).bind fun t => (renPs src r).bind fun r => some (t :: r)
/-- A cell numbered anew; m: how many nil slices were met. -/
def ren (src : List Src) (m : Nat) : T → Option (T × Nat)
  | .lit v => some (.lit v, m)
  | .nls _ => (findN src 0 m).bind fun k => some (.sl k 0 0, m + 1)
  | .sl id off len => (findL src 0 id off len).bind fun k => some (.sl k 0 len, m)
  | .imm p n rows => some (.imm p n rows, m)
  | .clo f caps => (renPs src caps).bind fun caps => some (.clo f caps, m)
  | .ptr id row off => (renP src (.ptr id row off)).bind fun t => some (t, m)
  | .ip _ => none
def renRow (src : List Src) (m : Nat) : Row → Option (Row × Nat)
  | [] => some ([], m)
  | t :: r => (ren src m t).bind fun x => (renRow src x.2 r).bind fun y => some (x.1 :: y.1, y.2)
def notLst (id : Nat) : Src → Bool
  | .lst j _ _ => j != id
  | _ => true
/-- An argument that is lent: its slices are told by what they read. -/
def lend (hp : List Blk) (src : List Src) : T → Option T
  | .lit v => some (.lit v)
  | .nls n => some (.imm false n [])
  | .imm p n rows => some (.imm p n rows)
  | .sl id off len => (szOf hp (.sl id off len)).bind fun n => (rowsOf hp (.sl id off len)).bind fun rows => if src.all (notLst id) then some (.imm false n rows) else none
  | .clo f caps => (renPs src caps).bind fun caps => some (.clo f caps)
  | .ptr id row off => renP src (.ptr id row off)
  | .ip _ => none
def lendRow (hp : List Blk) (src : List Src) : Row → Option Row
  | [] => some []
  | t :: r => (lend hp src t).bind fun t => (lendRow hp src r).bind fun r => some (t :: r)
def renBlks (hp : List Blk) (src : List Src) : Nat → List Src → Option (List Blk × Nat)
  | m, [] => some ([], m)
  | m, s :: r =>
    match s with
    | .box id off n =>
      (renRow src m (srcCells hp (.box id off n))).bind fun x => (renBlks hp src x.2 r).bind fun y => some (.box x.1 :: y.1, y.2)
    | .lst id off len =>
      (szOf hp (.sl id off len)).bind fun n => (rowsOf hp (.sl id off len)).bind fun rows => (renBlks hp src m r).bind fun y => some (.lst n rows :: y.1, y.2)
    | .nil n => (renBlks hp src m r).bind fun y => some (.lst n [] :: y.1, y.2)

def isBox (hp : List Blk) (id off n : Nat) : Bool :=
  match hp[id]? with
    | some (.box cells) => off + n ≤ cells.length && 0 < n
    | _ => false
def apart : Src → Src → Bool
  | .box j o n, .box j' o' n' => j != j' || o + n ≤ o' || o' + n' ≤ o
  | .lst j _ _, .lst j' _ _ => j != j'
  | _, _ => true
def allApart : List Src → Bool
  | [] => true
  | s :: r => r.all (apart s) && allApart r
def boxesOf : List Src → Nat
  | .box .. :: r => boxesOf r + 1
  | _ => 0
def okSrc (hp : List Blk) : Src → Bool
  | .box id off n => isBox hp id off n
  | _ => true
def notBox : Src → Bool
  | .box .. => false
  | _ => true
def srcOk (hp : List Blk) (src : List Src) : Bool :=
  allApart src && src.all (okSrc hp) && (src.drop (boxesOf src)).all notBox

structure Ent where
  args : List SV
  hp : List Blk
  src : List Src
  bor : Bool

def argCells (ev : Ev) : List (Opd × Nat × Bool) → Option (List (SV × Nat × Bool))
  | [] => some []
  | (x, n, mv) :: r => (ev x).bind fun v => (argCells ev r).bind fun r => some ((v, n, mv) :: r)
def isSl : T → Bool
  | .sl .. => true
  | _ => false
def renArgs (hp : List Blk) (src : List Src) : Nat → List (SV × Nat × Bool) → Option (List SV)
  | _, [] => some []
  | m, (v, _, mv) :: r =>
    match v with
    | .one t =>
      if mv then (ren src m t).bind fun x => (renArgs hp src x.2 r).bind fun r => some (.one x.1 :: r)
      else (lend hp src t).bind fun x => (renArgs hp src m r).bind fun r => some (.one x :: r)
    | .agg ts =>
      if mv then (renRow src m ts).bind fun x => (renArgs hp src x.2 r).bind fun r => some (.agg x.1 :: r)
      else (lendRow hp src ts).bind fun x => (renArgs hp src m r).bind fun r => some (.agg x :: r)
    | _ => none
def lentSl (v : SV × Nat × Bool) : Bool := !v.2.2 && (svCells v.1).any isSl

/-- A call's entry: the arguments and the part of the heap that go with it. -/
def enter (hp : List Blk) (vs : List (SV × Nat × Bool)) : Option Ent :=
  let bx := vs.foldl (fun l v => (svCells v.1).foldl (visB hp v.2.1) l) []
  let src := gather hp bx (vs.flatMap fun v => if v.2.2 then svCells v.1 else [])
  if srcOk hp src then
    (renBlks hp src 0 src).bind fun x => (renArgs hp src x.2 vs).bind fun args => some ⟨args, x.1, src, vs.any lentSl⟩
  else none

/-- What a callee's number is to the caller. -/
def instP (src : List Src) (nb base : Nat) : T → Option T
  | .ptr j row off =>
    if j < nb then match src[j]? with
      | some (.box id o _) => if row = 0 then some (.ptr id 0 (o + off)) else none
      | _ => none
    else some (.ptr (base + (j - nb)) row off)
  | _ => none
def instPs (src : List Src) (nb base : Nat) : List T → Option (List T)
  | [] => some []
  | t :: r => (instP src nb base t).bind fun t => (instPs src nb base r).bind fun r => some (t :: r)
def inst (src : List Src) (nb base : Nat) : T → Option T
  | .sl j off len => if nb ≤ j then some (.sl (base + (j - nb)) off len) else none
  | .clo f caps => (instPs src nb base caps).bind fun caps => some (.clo f caps)
  | .ptr j row off => instP src nb base (.ptr j row off)
  | t => some t
def instRow (src : List Src) (nb base : Nat) : Row → Option Row
  | [] => some []
  | t :: r => (inst src nb base t).bind fun t => (instRow src nb base r).bind fun r => some (t :: r)
def instFlat (src : List Src) (nb base : Nat) : SV → Option SV
  | .one t => (inst src nb base t).bind fun t => some (.one t)
  | .agg ts => (instRow src nb base ts).bind fun ts => some (.agg ts)
  | _ => none
def instSVs (src : List Src) (nb base : Nat) : List SV → Option (List SV)
  | [] => some []
  | v :: r => (instFlat src nb base v).bind fun v => (instSVs src nb base r).bind fun r => some (v :: r)
def instSV (src : List Src) (nb base : Nat) : SV → Option SV
  | .tup vs => (instSVs src nb base vs).bind fun vs => some (.tup vs)
  | v => instFlat src nb base v
def instBlk (src : List Src) (nb base : Nat) : Blk → Option Blk
  | .box cells => (instRow src nb base cells).bind fun cells => some (.box cells)
  | b => some b
def instBlks (src : List Src) (nb base : Nat) : List Blk → Option (List Blk)
  | [] => some []
  | b :: r => (instBlk src nb base b).bind fun b => (instBlks src nb base r).bind fun r => some (b :: r)

def noLent : T → Bool
  | .imm p _ _ => p
  | .ip _ => false
  | _ => true
def svNoLent : SV → Bool
  | .tup vs => vs.all fun v => (svCells v).all noLent
  | v => (svCells v).all noLent
def blkNoLent : Blk → Bool
  | .box cells => cells.all noLent
  | _ => true

/-- The caller's heap, its boxes written over, what was handed away gone. k: the number of the first source. -/
def backBoxes (src0 : List Src) (nb base : Nat) (hp' : List Blk) : Nat → List Src → List Blk → Option (List Blk)
  | k, .box id off n :: r, hp =>
    match hp'[k]?, hp[id]? with
    | some (.box new), some (.box cells) => if new.length = n then (instRow src0 nb base new).bind fun new => backBoxes src0 nb base hp' (k + 1) r (hp.set id (.box (wr cells off new))) else none
    | _, _ => none
  | k, .lst id _ _ :: r, hp => backBoxes src0 nb base hp' (k + 1) r (hp.set id .dead)
  | k, .nil _ :: r, hp => backBoxes src0 nb base hp' (k + 1) r hp
  | _, [], hp => some hp

def back (hp : List Blk) (e : Ent) (res : SV) (hp' : List Blk) : Option (SV × List Blk) :=
  let nb := boxesOf e.src
  if e.bor = true ∧ (svNoLent res && hp'.all blkNoLent) = false then none else
  (backBoxes e.src nb hp.length hp' 0 e.src hp).bind fun hp1 =>
  (instSV e.src nb hp.length res).bind fun res =>
  (instBlks e.src nb hp.length (hp'.drop nb)).bind fun new =>
  some (res, hp1 ++ new)

abbrev Rt := FuncId → List SV → List Blk → Option (SV × List Blk)

/-- A cell that no number of the heap stands in. -/
def closed : T → Bool
  | .lit _ | .nls _ | .imm .. => true
  | _ => false
def svClosed : SV → Bool
  | .tup vs => vs.all fun
    | .one t => closed t
    | .agg ts => ts.all closed
    | _ => false
  | .one t => closed t
  | .agg ts => ts.all closed
  | .und => false

/-- What comes back, its lists told by what they hold, for good. -/
def frzT (hp : List Blk) : T → Option T
  | .lit v => some (.lit v)
  | .nls n => some (.nls n)
  | .imm p n rows => some (.imm p n rows)
  | .sl id off len => (szOf hp (.sl id off len)).bind fun n => (rowsOf hp (.sl id off len)).bind fun rows => some (.imm true n rows)
  | _ => none
def frzRow (hp : List Blk) : Row → Option Row
  | [] => some []
  | t :: r => (frzT hp t).bind fun t => (frzRow hp r).bind fun r => some (t :: r)
def frzFl (hp : List Blk) : SV → Option SV
  | .one t => (frzT hp t).bind fun t => some (.one t)
  | .agg ts => (frzRow hp ts).bind fun ts => some (.agg ts)
  | _ => none
def frzFls (hp : List Blk) : List SV → Option (List SV)
  | [] => some []
  | v :: r => (frzFl hp v).bind fun v => (frzFls hp r).bind fun r => some (v :: r)
def frzSV (hp : List Blk) : SV → Option SV
  | .tup vs => (frzFls hp vs).bind fun vs => some (.tup vs)
  | v => frzFl hp v

/-- pu: nothing of the heap goes with the call, nothing comes back but what is told for good. -/
def doCall (R : Rt) (hp : List Blk) (pu : Bool) (f : FuncId) (vs : List (SV × Nat × Bool)) : Option (SV × List Blk) :=
  if pu = true then
    (renArgs hp [] 0 vs).bind fun args => (R f args []).bind fun r => (frzSV r.2 r.1).bind fun v =>
    if vs.any lentSl = false ∨ svNoLent v = true then some (v, hp) else none
  else
    (enter hp vs).bind fun e => (R f e.args e.hp).bind fun r => back hp e r.1 r.2

def K.dst : K → Option Nat
  | .mv d _ | .pick d .. | .alc d _ | .box d _ | .bld d .. | .bsl d .. | .ld d .. | .nilc d _ | .bin d .. | .bb d .. | .eqs d .. | .un d .. | .cv d .. | .mkf d .. | .mks d ..
  | .slc d .. | .sls d .. | .fa d .. | .fld d .. | .ia d .. | .ix d .. |   .ext d .. | .len d .. | .lens d .. | .app d .. | .cpy d .. | .mm d .. => some d
  | .st .. => none
  | .call d .. | .calv d .. => d

def capsOf (ev : Ev) : List Opd → Option (List T)
  | [] => some []
  | x :: r => (ev x).bind fun v => (asOne v).bind fun t =>
    match t with
    | .ptr .. => (capsOf ev r).bind fun r => some (t :: r)
    | _ => none

def tail? (hp : List Blk) : T → Bool
  | .nls _ => true
  | .sl id off len => match hp[id]? with
    | some (.lst _ rows) => off + len = rows.length
    | _ => false
  | _ => false
def killT (hp : List Blk) : T → List Blk
  | .sl id _ _ => hp.set id .dead
  | _ => hp
/-- A bound: 2 ^ 47 bytes. -/
def room : Nat := 140737488355328

/-- A slice expression's bound. -/
def bound (ev : Ev) (n : Nat) : Option Opd → Option Int
  | none => some n
  | some o => (ev o).bind fun v => (asInt v).bind fun v => some v.2
/-- A part of a slice. -/
def cut (hp : List Blk) (sz : Nat) (t : T) (rows : List Row) (l h : Int) : Option T :=
  if 0 ≤ l ∧ l ≤ h ∧ h ≤ rows.length then
    match t with
    | .sl id off ln => if szOf hp (.sl id off ln) = some sz then some (.sl id (off + l.toNat) (h.toNat - l.toNat)) else none
    | .imm p n rows => if n = sz then some (.imm p n ((rows.drop l.toNat).take (h.toNat - l.toNat))) else none
    | .nls n => some (.nls n)
    | _ => none
  else none

/-- An element's address. -/
def idx (hp : List Blk) (sz : Nat) (t : T) (j : Int) : Option SV :=
  match t with
  | .sl id off ln => if 0 ≤ j ∧ j < ln then if szOf hp (.sl id off ln) = some sz then some (.one (.ptr id (off + j.toNat) 0)) else none else none
  | .imm _ n rows => if 0 ≤ j ∧ n = sz then (rows[j.toNat]?).map fun r => .one (.ip r) else none
  | _ => none

/-- A field's address. -/
def fieldOf (off : Nat) : SV → Option SV
  | .one (.ptr id row o) => some (.one (.ptr id row (o + off)))
  | .one (.ip cells) => some (.one (.ip (cells.drop off)))
  | _ => none

/-- What an operation gives, and the heap behind it. -/
def K.exec (R : Rt) (ev : Ev) (hp : List Blk) : K → Option (SV × List Blk)
  | .mv _ x => (ev x).bind fun v => some (v, hp)
  | .pick _ c x y => (ev c).bind fun c => (asBool c).bind fun c => if c = true then (ev x).bind fun v => some (v, hp) else (ev y).bind fun v => some (v, hp)
  | .alc _ z => some (.one (.ptr hp.length 0 0), hp ++ [.box z])
  | .box _ x => (ev x).bind fun v => v.cells.bind fun cs => if 0 < cs.length then some (.one (.ptr hp.length 0 0), hp ++ [.box cs]) else none
  | .bld _ z ps => (fill ev z ps).bind fun cs => some (.agg cs, hp)
  | .bsl _ n z ps => (fillRows ev (List.replicate n z) ps).bind fun rows =>
    some (.one (.sl hp.length 0 rows.length), hp ++ [.lst z.length rows])
  | .ld _ n x => (ev x).bind fun v => (asOne v).bind fun t => (cellsAt hp t).bind fun cs => (SV.of n cs).bind fun v => some (v, hp)
  | .st n x y => (ev x).bind fun v => (asOne v).bind fun t => (ev y).bind fun u => u.cells.bind fun cs => (store hp n t cs).bind fun hp => some (.und, hp)
  | .nilc _ x => (ev x).bind fun v => match v with
    | .one (.ptr ..) | .one (.ip _) => some (v, hp)
    | _ => none
  | .bin _ o x y => (ev x).bind fun v => (asLit v).bind fun v => (ev y).bind fun u => (asLit u).bind fun u => (binT o v u).bind fun r => some (.one (.lit r), hp)
  | .bb _ neg x y => (ev x).bind fun v => (asBool v).bind fun v => (ev y).bind fun u => (asBool u).bind fun u => some (.one (B (if neg then !(v == u) else v == u)), hp)
  | .eqs _ neg gs x y => (ev x).bind fun v => (ev y).bind fun u => match v, u with
    | .agg vs, .agg us => (eqRow gs vs us).bind fun r => some (.one (B (if neg then !r else r)), hp)
    | _, _ => none
  | .un _ o x => (ev x).bind fun v => (asLit v).bind fun v => (unT o v).bind fun r => some (.one (.lit r), hp)
  | .cv _ k x => (ev x).bind fun v => (asInt v).bind fun v => some (.one (.lit (.int k (k.wrap v.2))), hp)
  | .mkf _ f caps => (capsOf ev caps).bind fun caps => some (.one (.clo f caps), hp)
  | .mks _ by_ z n c => (ev n).bind fun v => (asInt v).bind fun v => (ev c).bind fun u => (asInt u).bind fun u =>
    if 0 ≤ v.2 ∧ v.2 ≤ u.2 ∧ u.2 * by_ ≤ room ∧ u.2 ≤ room then
      some (.one (.sl hp.length 0 v.2.toNat), hp ++ [.lst z.length (List.replicate v.2.toNat z)])
    else none
  | .slc _ sz x lo hi => (ev x).bind fun v => (asOne v).bind fun t => (rowsOf hp t).bind fun rows => (bound ev 0 lo).bind fun l => (bound ev rows.length hi).bind fun h =>
    (cut hp sz t rows l h).bind fun t => some (.one t, hp)
  | .sls _ x lo hi => (ev x).bind fun v => (asLit v).bind fun v => match v with
    | .string s => (bound ev 0 lo).bind fun l => (bound ev s.size hi).bind fun h =>
      if 0 ≤ l ∧ l ≤ h ∧ h ≤ s.size then some (.one (.lit (.string (s.extract l.toNat h.toNat))), hp) else none
    | _ => none
  | .fa _ x off => (ev x).bind fun v => (fieldOf off v).bind fun v => some (v, hp)
  | .fld _ x off n => (ev x).bind fun v => match v with
    | .agg cs => (SV.of n (cs.drop off)).bind fun v => some (v, hp)
    | _ => none
  | .ia _ sz x j => (ev x).bind fun v => (asOne v).bind fun t => (ev j).bind fun u => (asInt u).bind fun u => (idx hp sz t u.2).bind fun v => some (v, hp)
  | .ix _ x j => (ev x).bind fun v => (asLit v).bind fun v => (ev j).bind fun u => (asInt u).bind fun u => match v with
    | .string s => if 0 ≤ u.2 then match s[u.2.toNat]? with
        | some c => some (.one (.lit (.int .u8 c.toNat)), hp)
        | none => none
      else none
    | _ => none
  | .ext _ x j => (ev x).bind fun v => match v with
    | .tup vs => (vs[j]?).bind fun v => some (v, hp)
    | _ => none
  | .call _ pu f xs => (argCells ev xs).bind fun vs => doCall R hp pu f vs
  | .calv _ pu f xs => (ev f).bind fun g => match g with
    | .one (.clo f caps) => (argCells ev xs).bind fun vs => doCall R hp pu f (vs ++ caps.map fun c => (.one c, 0, false))
    | _ => none
  | .len _ x => (ev x).bind fun v => (asOne v).bind fun t => (rowsOf hp t).bind fun rows => some (.one (I rows.length), hp)
  | .lens _ x => (ev x).bind fun v => (asLit v).bind fun v => match v with
    | .string s => some (.one (I s.size), hp)
    | _ => none
  | .app _ by_ sz x y => (ev x).bind fun v => (asOne v).bind fun t => (ev y).bind fun u => (asOne u).bind fun s =>
    (rowsOf hp t).bind fun xs => (rowsOf hp s).bind fun ys =>
    if tail? hp t = true ∧ szOf hp t = some sz ∧ szOf hp s = some sz ∧ (xs.length + ys.length) * by_ ≤ room ∧ xs.length + ys.length ≤ room then
      some (.one (.sl hp.length 0 (xs ++ ys).length), killT hp t ++ [.lst sz (xs ++ ys)])
    else none
  | .cpy _ sz x y => (ev x).bind fun v => (asOne v).bind fun t => (ev y).bind fun u => (asOne u).bind fun s =>
    (rowsOf hp t).bind fun xs => (rowsOf hp s).bind fun ys => match t with
    | .sl id off _ => match hp[id]? with
      | some (.lst n rows) => if n = sz ∧ szOf hp s = some sz then
          some (.one (I (min ys.length xs.length : Nat)), hp.set id (.lst n (rows.take off ++ (ys.take (min ys.length xs.length) ++ rows.drop (off + min ys.length xs.length)))))
        else none
      | _ => none
    | _ => none
  | .mm _ isMax x y => (ev x).bind fun v => (asInt v).bind fun v => (ev y).bind fun u => (asInt u).bind fun u =>
    if v.1 = u.1 then some (.one (.lit (.int v.1 (if isMax then (if u.2 > v.2 then u.2 else v.2) else (if u.2 < v.2 then u.2 else v.2)))), hp) else none

def K.run (R : Rt) (σ : St) (k : K) : Option St := (k.exec R σ.ev σ.hp).bind fun r => some (setD ⟨σ.sl, r.2⟩ k.dst r.1)

abbrev G := Option (Nat × Bool) × K

/-- One operation, if its guard says so. -/
def runG (R : Rt) (σ : St) (g : G) : Option St :=
  match g.1 with
  | none => g.2.run R σ
  | some (s, want) =>
    match lookup s σ.sl with
    | some (.one (.lit (.bool x))) => if x = want then g.2.run R σ else some (setD σ g.2.dst .und)
    | some .und => some (setD σ g.2.dst .und)
    | _ => none
def runGs (R : Rt) : List G → St → Option St
  | [], σ => some σ
  | g :: r, σ => (runG R σ g).bind (runGs R r)

/-- Only these slots are kept. -/
def keep (sl : List (Nat × SV)) : List Nat → List (Nat × SV)
  | [] => []
  | n :: r => match lookup n sl with
    | some v => (n, v) :: keep sl r
    | none => keep sl r
def trim (kp : Option (List Nat)) (σ : St) : St := match kp with
  | some l => ⟨keep σ.sl l, σ.hp⟩
  | none => σ

inductive C where
  | ops (l : List G) (kp : Option (List Nat))
  | drw (ls : List (List G)) (kp : List Nat) (cn : Bool)
  | seq (x y : C)
  | cond (c : Opd) (x y : C)
  | blk (id : Nat) (x : C)
  | loop (live : List Nat) (x : C)
  | brk (id : Nat)
  | ret
  | skip
  deriving Inhabited

inductive Out where
  | nor (σ : St)
  | brk (id : Nat) (σ : St)
  | ret (σ : St)

/-- A loop's round begins with what lives alone, numbered anew. nb: how many boxes came in. -/
def liveSl (σ : St) (src : List Src) : Nat → List Nat → Option (List (Nat × SV))
  | _, [] => some []
  | m, s :: r => (lookup s σ.sl).bind fun v => match v with
    | .one t => (ren src m t).bind fun x => (liveSl σ src x.2 r).bind fun l => some ((s, .one x.1) :: l)
    | .agg ts => (renRow src m ts).bind fun x => (liveSl σ src x.2 r).bind fun l => some ((s, .agg x.1) :: l)
    | .und => (liveSl σ src m r).bind fun l => some ((s, .und) :: l)
    | _ => none
def liveCells (σ : St) (live : List Nat) : Row := live.flatMap fun s => match lookup s σ.sl with | some v => svCells v | none => []
def parBoxes (hp : List Blk) (nb : Nat) : List Src := (List.range nb).map fun j => .box j 0 (boxCells hp j).length
def canon (nb : Nat) (live : List Nat) (σ : St) : Option St :=
  let cells := liveCells σ live
  let src := gather σ.hp (cells.foldl (visB σ.hp 0) (parBoxes σ.hp nb)) cells
  if srcOk σ.hp src = true ∧ src.take nb = parBoxes σ.hp nb then
    (renBlks σ.hp src 0 src).bind fun x => (liveSl σ src x.2 live).bind fun sl => some ⟨sl, x.1⟩
  else none

def iter (nb : Nat) (live : List Nat) (f : St → Option Out) : Nat → St → Option Out
  | 0, _ => none
  | n + 1, σ => (canon nb live σ).bind fun σ => (f σ).bind fun
    | .nor σ => iter nb live f n σ
    | o => some o

/-- What is kept of a state behind a region whose order is open. -/
def fixSt (nb : Nat) (kp : List Nat) (cn : Bool) (σ : St) : Option St :=
  if cn = true then canon nb kp σ else if (kp.all fun n => (lookup n σ.sl).isSome) = true then some (trim (some kp) σ) else none
open Classical in
/-- Each of these orders leads to the same. -/
noncomputable def drwSt (R : Rt) (nb : Nat) (kp : List Nat) (cn : Bool) : List (List G) → St → Option St
  | [], _ => none
  | l :: r, σ => ((runGs R l σ).bind (fixSt nb kp cn)).bind fun c => match r with
    | [] => some c
    | _ :: _ => (drwSt R nb kp cn r σ).bind fun c' => if c' = c then some c else none

noncomputable def evc (R : Rt) (nb n : Nat) : C → St → Option Out
  | .ops l kp, σ => (runGs R l σ).bind fun σ => some (.nor (trim kp σ))
  | .drw ls kp cn, σ => (drwSt R nb kp cn ls σ).bind fun σ => some (.nor σ)
  | .seq x y, σ => (evc R nb n x σ).bind fun
    | .nor σ => evc R nb n y σ
    | o => some o
  | .cond c x y, σ => (σ.ev c).bind fun v => (asBool v).bind fun c => if c = true then evc R nb n x σ else evc R nb n y σ
  | .blk id x, σ => (evc R nb n x σ).bind fun
    | .brk j σ => if j = id then some (.nor σ) else some (.brk j σ)
    | o => some o
  | .loop live x, σ => iter nb live (evc R nb n x) n σ
  | .brk id, σ => some (.brk id σ)
  | .ret, σ => some (.ret σ)
  | .skip, σ => some (.nor σ)

inductive Rv where
  | tmp (n : Nat)
  | cell (n : Nat) (k : Option Nat)
  deriving Inhabited

structure Fn where
  np : Nat
  res : List Rv
  body : C
  deriving Inhabited

def resVals (σ : St) : List Rv → Option (List SV)
  | [] => some []
  | .tmp n :: r => (lookup n σ.sl).bind fun v => (resVals σ r).bind fun r => some (v :: r)
  | .cell n k :: r => (lookup n σ.sl).bind fun v => (asOne v).bind fun t => (cellsAt σ.hp t).bind fun cs => (SV.of k cs).bind fun v => (resVals σ r).bind fun r => some (v :: r)
def renRes (src : List Src) : Nat → List SV → Option (List SV)
  | _, [] => some []
  | m, .one t :: r => (ren src m t).bind fun x => (renRes src x.2 r).bind fun r => some (.one x.1 :: r)
  | m, .agg ts :: r => (renRow src m ts).bind fun x => (renRes src x.2 r).bind fun r => some (.agg x.1 :: r)
  | _, _ :: _ => none

def leave (nb : Nat) (σ : St) (vs : List SV) : Option (SV × List Blk) :=
  let cells := vs.flatMap svCells
  let src := gather σ.hp (cells.foldl (visB σ.hp 0) (parBoxes σ.hp nb)) cells
  if srcOk σ.hp src = true ∧ src.take nb = parBoxes σ.hp nb then
    (renBlks σ.hp src 0 src).bind fun x => (renRes src x.2 vs).bind fun vs => some (match vs with | [v] => v | vs => .tup vs, x.1)
  else none

def hpBoxes : List Blk → Nat
  | .box _ :: r => hpBoxes r + 1
  | _ => 0

def startSl (k : Nat) : List SV → List (Nat × SV)
  | [] => []
  | v :: r => (k, v) :: startSl (k + 1) r

noncomputable def Fn.run (R : Rt) (n : Nat) (fn : Fn) (args : List SV) (hp : List Blk) : Option (SV × List Blk) :=
  if args.length = fn.np then
    (evc R (hpBoxes hp) n fn.body ⟨startSl 0 args, hp⟩).bind fun
      | .nor σ => (resVals σ fn.res).bind fun vs => leave (hpBoxes hp) σ vs
      | .ret σ => (resVals σ fn.res).bind fun vs => leave (hpBoxes hp) σ vs
      | _ => none
  else none

end Go.Zq
