/- Regions whose order is open: which operations may change places, and the orders that are left. -/
import Derived.Test.YtilfpkfifdhhdaaZqDef
set_option linter.unusedVariables false
set_option linter.unusedSimpArgs false
namespace Go.Zq
open Go

def Opd.rd : Opd → List Nat
  | .t n => [n]
  | .c _ => []
def ord (o : Option Opd) : List Nat := match o with
  | some x => x.rd
  | none => []

/-- What a quiet operation reads. -/
def K.rd : K → Option (List Nat)
  | .mv _ x | .ld _ _ x | .nilc _ x | .un _ _ x | .cv _ _ x | .fa _ x _ | .fld _ x _ _ | .ext _ x _ | .len _ x | .lens _ x => some x.rd
  | .pick _ c x y => some (c.rd ++ (x.rd ++ y.rd))
  | .bin _ _ x y | .bb _ _ x y | .eqs _ _ _ x y | .ia _ _ x y | .ix _ x y | .mm _ _ x y => some (x.rd ++ y.rd)
  | .slc _ _ x lo hi | .sls _ x lo hi => some (x.rd ++ (ord lo ++ ord hi))
  | .call _ true _ xs => some (xs.flatMap fun x => x.1.rd)
  | _ => none

/-- What any operation reads of the slots. -/
def K.rdA : K → List Nat
  | .mv _ x | .ld _ _ x | .nilc _ x | .un _ _ x | .cv _ _ x | .fa _ x _ | .fld _ x _ _ | .ext _ x _ | .len _ x | .lens _ x | .box _ x => x.rd
  | .pick _ c x y => c.rd ++ (x.rd ++ y.rd)
  | .bin _ _ x y | .bb _ _ x y | .eqs _ _ _ x y | .ia _ _ x y | .ix _ x y | .mm _ _ x y | .st _ x y | .app _ _ _ x y | .cpy _ _ x y | .mks _ _ _ x y => x.rd ++ y.rd
  | .slc _ _ x lo hi | .sls _ x lo hi => x.rd ++ (ord lo ++ ord hi)
  | .call _ _ _ xs => xs.flatMap fun x => x.1.rd
  | .calv _ _ f xs => f.rd ++ xs.flatMap fun x => x.1.rd
  | .alc .. => []
  | .bld _ _ ps => ps.flatMap fun x => x.2.2.rd
  | .bsl _ _ _ ps => ps.flatMap fun x => x.2.rd
  | .mkf _ _ cs => cs.flatMap fun x => x.rd

/-- The heap is neither read nor changed. -/
def K.still : K → Bool
  | .mv .. | .pick .. | .nilc .. | .bin .. | .bb .. | .eqs .. | .un .. | .cv .. | .fa .. | .fld .. | .ext .. | .bld .. | .sls .. | .ix .. | .lens .. | .mm .. => true
  | _ => false

def gsl (g : G) : List Nat := match g.1 with
  | some (s, _) => [s]
  | none => []
def grdA (g : G) : List Nat := gsl g ++ g.2.rdA
def grd (g : G) : Option (List Nat) := g.2.rd.map (gsl g ++ ·)

/-- Two operations that may change places. -/
def swapG (x y : G) : Bool :=
  (match x.2.dst with | some d => !(grdA y).contains d | none => true) && (match y.2.dst with | some d => !(grdA x).contains d | none => true) && (x.2.dst.isNone || x.2.dst != y.2.dst) &&
  (x.2.still || y.2.still || ((grd x).isSome && (grd y).isSome))

/-- Is there a binding edge at the operation j upon i? -/
def after? (ops : Array Oper) (j i : Nat) : Bool := match ops[j]? with
  | some o => o.after.any fun e => Region.binds .any e && e.on == i
  | none => false
/-- The same by some edges. -/
def dep (ops : Array Oper) : Nat → Nat → Nat → Bool
  | 0, _, _ => false
  | n + 1, j, i => match ops[j]? with
    | some o => o.after.any fun e => Region.binds .any e && (e.on == i || dep ops n e.on i)
    | none => false
/-- Nothing that is still to be done is bound to come ahead. -/
def readyIn (ops : Array Oper) (rem : List (Nat × G)) (j : Nat) : Bool := rem.all fun y => !after? ops j y.1
def without (rem : List (Nat × G)) (j : Nat) : List (Nat × G) := rem.filter fun y => decide (y.1 ≠ j)
/-- May come first, whatever comes then. -/
def first? (ops : Array Oper) (rem : List (Nat × G)) (x : Nat × G) : Bool :=
  readyIn ops rem x.1 && (without rem x.1).all fun y => swapG x.2 y.2 || dep ops 40 y.1 x.1

/-- Orders enough. -/
def ordersOf (ops : Array Oper) : Nat → List (Nat × G) → List (List G)
  | 0, _ => []
  | n + 1, rem => match rem with
    | [] => [[]]
    | _ :: _ => match rem.find? (first? ops rem) with
      | some x => (ordersOf ops n (without rem x.1)).map (x.2 :: ·)
      | none => (rem.filter fun x => readyIn ops rem x.1).flatMap fun x => (ordersOf ops n (without rem x.1)).map (x.2 :: ·)

/-- Each comes behind what it is bound to; all are there. -/
def topo (ops : Array Oper) : List Nat → List Nat → Bool
  | _, [] => true
  | seen, x :: r =>
    decide (x ∉ seen) && (match ops[x]? with
      | some o => o.after.all fun e => !Region.binds .any e || decide (e.on ∈ seen)
      | none => false) && topo ops (seen ++ [x]) r
def ordOk (ops : Array Oper) (pm : List Nat) : Bool :=
  decide (pm.length = ops.size) && (List.range ops.size).all (fun i => decide (i ∈ pm)) && topo ops [] pm

end Go.Zq
