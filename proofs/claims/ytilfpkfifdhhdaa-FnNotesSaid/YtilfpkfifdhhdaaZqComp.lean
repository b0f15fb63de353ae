/- The model's code as compact code. -/
import Derived.Test.YtilfpkfifdhhdaaZqRel
import Derived.Test.YtilfpkfifdhhdaaZqOrd
set_option linter.unusedVariables false
set_option linter.unusedSimpArgs false
namespace Go.Zq
open Go

/-- Of each cell of a type: is it a slice, then the size of an element. -/
def cellTy (P : Program) : Nat → TypeId → Option (List (Option Nat))
  | 0, _ => none
  | f + 1, t =>
    match P.underlying t with
    | some (.struct fs) => (fs.toList.mapM fun x => cellTy P f x.type).map List.flatten
    | some (.array n e) => (cellTy P f e).map fun c => (List.replicate n c).flatten
    | some (.slice e) => (P.info? e).map fun x => [some x.size]
    | some _ => some [none]
    | none => none

def litCell : Option Nat → Value → Option T
  | some n, .slice none 0 0 => some (.nls n)
  | none, v => if litOk v then some (.lit v) else none
  | _, _ => none

def litRow : List (Option Nat) → List Value → Option Row
  | [], [] => some []
  | c :: cs, v :: vs => (litCell c v).bind fun t => (litRow cs vs).bind fun r => some (t :: r)
  | _, _ => none

def zeroRow (P : Program) (t : TypeId) : Option Row :=
  (P.info? t).bind fun x => x.zero.bind fun z => (cellTy P 9 t).bind fun cs => if z.cells.size = x.size then litRow cs z.cells.toList else none

def constSV (P : Program) (t : TypeId) : Value → Option SV
  | .agg cs => (cellTy P 9 t).bind fun c => (litRow c cs.toList).bind fun r => some (.agg r)
  | .func (.func f) fs cs => if fs = #[] ∧ cs = #[] then some (.one (.clo f [])) else none
  | v => (cellTy P 9 t).bind fun c => match c with
    | [c] => (litCell c v).bind fun t => some (.one t)
    | _ => none

def opd (P : Program) (N : Nat) (t : TypeId) : Operand → Option Opd
  | .tmp n => if n < N then some (.t n) else none
  | .const v => (constSV P t v).map .c
  | .func f => some (.c (.one (.clo f [])))
  | .global _ => none

/-- An operand whose type does not matter: a number. -/
def opdI (N : Nat) : Operand → Option Opd
  | .tmp n => if n < N then some (.t n) else none
  | .const (.int k n) => some (.c (.one (.lit (.int k n))))
  | _ => none

def isAggT (P : Program) (t : TypeId) : Option Bool :=
  match P.underlying t with
  | some (.struct _) | some (.array ..) => some true
  | some _ => some false
  | none => none

def sizeT (P : Program) (t : TypeId) : Option Nat := (P.info? t).map (·.size)

/-- How a type is loaded: one cell, or so many. -/
def aggT (P : Program) (t : TypeId) : Option (Option Nat) :=
  (isAggT P t).bind fun x => if x then (sizeT P t).map some else some none

def elemT (P : Program) (t : TypeId) : Option TypeId :=
  match P.underlying t with
  | some (.slice e) => some e
  | _ => none

def fieldT (P : Program) (t : TypeId) (f : Nat) : Option Field :=
  match P.underlying t with
  | some (.struct fs) => fs[f]?
  | _ => none

/-- The kinds of the cells of fields that are compared one by one, from the place o on. -/
def flatL (P : Program) (k : TypeId → Option (List Nat)) : Nat → List Field → Option (List Nat)
  | _, [] => some []
  | o, f :: fs => if f.name ≠ "_" ∧ f.offset = o then
      match P.underlying f.type with
      | some (.int _) => (flatL P k (o + 1) fs).map (0 :: ·)
      | some .bool => (flatL P k (o + 1) fs).map (1 :: ·)
      | some .string => (flatL P k (o + 1) fs).map (2 :: ·)
      | some (.struct _) => (k f.type).bind fun g => if sizeT P f.type = some g.length ∧ 0 < g.length then (flatL P k (o + g.length) fs).map (g ++ ·) else none
      | _ => none
    else none
/-- A struct whose cells are compared one by one: their kinds. -/
def flatC (P : Program) : Nat → TypeId → Option (List Nat)
  | 0, _ => none
  | f + 1, t =>
    match P.underlying t with
    | some (.struct fs) => if P.stoodInHeld t then none else flatL P (flatC P f) 0 fs.toList
    | _ => none

def bldParts (P : Program) (N : Nat) (fs : Array Field) : List (Nat × Operand) → Option (List (Nat × Nat × Opd))
  | [] => some []
  | (j, x) :: r => (fs[j]?).bind fun f => (sizeT P f.type).bind fun n => (opd P N f.type x).bind fun x => (bldParts P N fs r).bind fun r => some ((f.offset, n, x) :: r)
def rowParts (P : Program) (N : Nat) (e : TypeId) : List (Nat × Operand) → Option (List (Nat × Opd))
  | [] => some []
  | (j, x) :: r => (opd P N e x).bind fun x => (rowParts P N e r).bind fun r => some ((j, x) :: r)

/-- The cells behind a pointer's type. -/
def ptrSz (P : Program) (t : TypeId) : Option Nat :=
  match P.underlying t with
  | some (.pointer e) => sizeT P e
  | some _ => some 0
  | none => none

def callArgs (P : Program) (N : Nat) (md : Nat → Bool) : Nat → List Operand → List TypeId → Option (List (Opd × Nat × Bool))
  | _, [], [] => some []
  | k, x :: xs, t :: ts => (opd P N t x).bind fun y => (ptrSz P t).bind fun n => (callArgs P N md (k + 1) xs ts).bind fun r => some ((y, n, md k) :: r)
  | _, _, _ => none

def capArgs (P : Program) (N : Nat) : List Operand → Option (List Opd)
  | [] => some []
  | .tmp n :: r => if n < N then (capArgs P N r).bind fun r => some (.t n :: r) else none
  | _ :: _ => none

def optI (N : Nat) : Option Operand → Option (Option Opd)
  | none => some none
  | some x => (opdI N x).map some

def dstOk (N : Nat) (d : Option Nat) : Bool := match d with | some d => decide (d < N) | none => true

def need (c : Bool) : Option Unit := if c then some () else none

def compK (P : Program) (N : Nat) (md : FuncId → Nat → Bool) (o : Oper) (d : Nat) : Option K :=
  match o.op with
  | .move x | .assign x => (opd P N o.type x).bind fun x => some (.mv d x)
  | .pick c x y => (opdB c).bind fun c => (opd P N o.type x).bind fun x => (opd P N o.type y).bind fun y => some (.pick d c x y)
  | .alloc e => (zeroRow P e).bind fun z => if 0 < z.length then some (.alc d z) else none
  | .box e x => (opd P N e x).bind fun x => some (.box d x)
  | .build t ps => match P.underlying t with
    | some (.struct fs) => if fs.all (fun f => (P.info? f.type).isSome) then (zeroRow P t).bind fun z => (bldParts P N fs ps.toList).bind fun ps => some (.bld d z ps) else none
    | _ => none
  | .buildSlice t n ps => (elemT P t).bind fun e => (zeroRow P e).bind fun z => (rowParts P N e ps.toList).bind fun ps =>
    if n * z.length ≤ 2 ^ 24 ∧ 0 < z.length then some (.bsl d n z ps) else none
  | .load t x => (aggT P t).bind fun n => (opdP x).bind fun x => some (.ld d n x)
  | .nilCheck x => (opdP x).bind fun x => some (.nilc d x)
  | .binOp op t x y _ =>
    match P.underlying t with
    | some (.int _) | some .string => (opd P N t x).bind fun x => (opdI' t y).bind fun y => some (.bin d op x y)
    | some .bool => (opd P N t x).bind fun x => (opd P N t y).bind fun y => match op with
      | .eql => some (.bb d false x y)
      | .neq => some (.bb d true x y)
      | _ => none
    | _ => (flatC P 9 t).bind fun gs => (opd P N t x).bind fun x => (opd P N t y).bind fun y => match op with
        | .eql => some (.eqs d false gs x y)
        | .neq => some (.eqs d true gs x y)
        | _ => none
  | .unOp op t x => (opd P N t x).bind fun x => some (.un d op x)
  | .convert src dst x => match P.underlying src, P.underlying dst with
    | some (.int _), some (.int k) => (opd P N src x).bind fun x => some (.cv d k x)
    | _, _ => none
  | .makeFunc (.func f) first caps => if first.size = 0 then (capArgs P N caps.toList).bind fun caps => some (.mkf d f caps) else none
  | .makeSlice t n c => (elemT P t).bind fun e => (zeroRow P e).bind fun z => (P.info? e).bind fun x => (opdI N n).bind fun n => (opdI N c).bind fun c =>
    if 0 < z.length then some (.mks d x.bytes z n c) else none
  | .slice t x lo hi none => match P.underlying t with
    | some (.slice e) => (sizeT P e).bind fun n => (opd P N t x).bind fun x => (optI N lo).bind fun lo => (optI N hi).bind fun hi => some (.slc d n x lo hi)
    | some .string => (opd P N t x).bind fun x => (optI N lo).bind fun lo => (optI N hi).bind fun hi => some (.sls d x lo hi)
    | _ => none
  | .fieldAddr t x f => (fieldT P t f).bind fun f => (sizeT P f.type).bind fun n => if 0 < n then (opdP x).bind fun x => some (.fa d x f.offset) else none
  | .field t x f => (fieldT P t f).bind fun f => (aggT P f.type).bind fun n => (opd P N t x).bind fun x => some (.fld d x f.offset n)
  | .indexAddr t x j => (elemT P t).bind fun e => (sizeT P e).bind fun n => (opd P N t x).bind fun x => (opdI N j).bind fun j => if 0 < n then some (.ia d n x j) else none
  | .index t x j => match P.underlying t with
    | some .string => (opd P N t x).bind fun x => (opdI N j).bind fun j => some (.ix d x j)
    | _ => none
  | .extract x j => (opdP x).bind fun x => some (.ext d x j)
  | _ => none
where
  opdB (x : Operand) : Option Opd := match x with
    | .tmp n => if n < N then some (.t n) else none
    | .const (.bool c) => some (.c (.one (B c)))
    | _ => none
  opdP (x : Operand) : Option Opd := match x with
    | .tmp n => if n < N then some (.t n) else none
    | _ => none
  opdI' (t : TypeId) (y : Operand) : Option Opd := match y with
    | .const (.int k n) => some (.c (.one (.lit (.int k n))))
    | y => opd P N t y

def pure? (dr : Bool) (xs : List (Opd × Nat × Bool)) : Bool := dr && xs.all fun x => x.2.1 == 0 && !x.2.2

def compCall (P : Program) (N : Nat) (md : FuncId → Nat → Bool) (dr : Bool) (o : Oper) (c : Call) : Option K :=
  match c.callee with
  | .value (.func f) => (callArgs P N (md f) 0 c.args.toList c.argTypes.toList).bind fun xs =>
    match P.funcs[f]? with
    | some fn => if fn.body.isSome ∧ fn.name ≠ "runtime.NumGoroutine" then some (.call o.dst (pure? (md f 999) xs) f xs) else none
    | none => none
  | .value (.tmp n) => if n < N then (callArgs P N (fun _ => false) 0 c.args.toList c.argTypes.toList).bind fun xs => some (.calv o.dst false (.t n) xs) else none
  | .builtin .len => match c.args.toList, c.argTypes.toList, o.dst with
    | [x], [t], some d => match P.underlying t with
      | some .string => (opd P N t x).bind fun x => some (.lens d x)
      | some (.slice _) => (opd P N t x).bind fun x => some (.len d x)
      | _ => none
    | _, _, _ => none
  | .builtin .append => match c.args.toList, c.argTypes.toList, o.dst with
    | [x, y], [t, u], some d => if t = u then (elemT P t).bind fun e => (P.info? e).bind fun i => (zeroRow P e).bind fun _ => (opd P N t x).bind fun x => (opd P N t y).bind fun y =>
        if 0 < i.size then some (.app d i.bytes i.size x y) else none
      else none
    | _, _, _ => none
  | .builtin .copy => match c.args.toList, c.argTypes.toList, o.dst with
    | [x, y], [t, u], some d => if t = u then (elemT P t).bind fun e => (sizeT P e).bind fun n => (opd P N t x).bind fun x => (opd P N t y).bind fun y =>
        if 0 < n then some (.cpy d n x y) else none
      else none
    | _, _, _ => none
  | .builtin .min => match c.args.toList, o.dst with
    | [x, y], some d => (opdI N x).bind fun x => (opdI N y).bind fun y => some (.mm d false x y)
    | _, _ => none
  | .builtin .max => match c.args.toList, o.dst with
    | [x, y], some d => (opdI N x).bind fun x => (opdI N y).bind fun y => some (.mm d true x y)
    | _, _ => none
  | _ => none

def compO (P : Program) (N : Nat) (md : FuncId → Nat → Bool) (dr : Bool) (ops : Array Oper) (o : Oper) : Option G :=
  if dstOk N o.dst then
    (match o.guard with
      | none => some none
      | some (j, w) => ((ops[j]?).bind (·.dst)).bind fun s => some (some (s, w))).bind fun g =>
    (match o.op, o.dst with
      | .store t x y, none => (sizeT P t).bind fun n => (match x with
        | .tmp m => if m < N then some (Opd.t m) else none
        | _ => none).bind fun x => (opd P N t y).bind fun y => some (K.st n x y)
      | .call c, _ => compCall P N md dr o c
      | _, some d => compK P N md o d
      | _, none => none).bind fun k => if k.dst = o.dst then some (g, k) else none
  else none

def compOs (P : Program) (N : Nat) (md : FuncId → Nat → Bool) (dr : Bool) (ops : Array Oper) : List Nat → Option (List G)
  | [] => some []
  | j :: r => (ops[j]?).bind fun o => (compO P N md dr ops o).bind fun g => (compOs P N md dr ops r).bind fun r => some (g :: r)

/-- md f 999: f's calls hand over no part of the heap, and give none back.
lv: what lives at the head of a loop, by the number of the first region in it. md: which parameters a callee is given to own. pm: the order in which a region that draws is told. kp: which slots live behind a region. -/
structure Hint where
  lv : Nat → List Nat
  md : FuncId → Nat → Bool
  pm : Nat → List Nat
  kp : Nat → Option (List Nat)

def firstR : Code → Nat
  | .region id _ _ => id
  | .seq x _ => firstR x
  | .block _ x => firstR x
  | .loop x => firstR x
  | .cond _ x _ => firstR x
  | _ => 0

def compC (P : Program) (N : Nat) (h : Hint) (drawOk : Array Oper → List Nat → List G → Bool) : Code → Option C
  | .skip | .label _ => some .skip
  | .region id ops draw => if draw then (compOs P N h.md true ops (h.pm id)).bind fun l => if drawOk ops (h.pm id) l then some (.ops l (h.kp id)) else
      (h.kp id).bind fun kp => if ordOk ops (h.pm id) then some (.drw (ordersOf ops (ops.size + 1) ((h.pm id).zip l)) (kp.filter fun n => n != 999999) (kp.contains 999999)) else none
    else (compOs P N h.md false ops (List.range ops.size)).bind fun l => some (.ops l (h.kp id))
  | .seq x y => (compC P N h drawOk x).bind fun x => (compC P N h drawOk y).bind fun y => some (.seq x y)
  | .cond c x y => (match c with
      | .tmp n => if n < N then some (Opd.t n) else none
      | .const (.bool v) => some (.c (.one (B v)))
      | _ => none).bind fun c => (compC P N h drawOk x).bind fun x => (compC P N h drawOk y).bind fun y => some (.cond c x y)
  | .block id x => (compC P N h drawOk x).bind fun x => some (.blk id x)
  | .loop x => (compC P N h drawOk x).bind fun y => some (.loop (h.lv (firstR x)) y)
  | .exit id => some (.brk id)
  | .ret => some .ret
  | _ => none

def compR (P : Program) (N : Nat) : List ResultVar → Option (List Rv)
  | [] => some []
  | .tmp n :: r => if n < N then (compR P N r).bind fun r => some (.tmp n :: r) else none
  | .cell n t :: r => if n < N then (aggT P t).bind fun k => (compR P N r).bind fun r => some (.cell n k :: r) else none

def compF (P : Program) (h : Hint) (drawOk : Array Oper → List Nat → List G → Bool) (fn : Func) (np : Nat) : Option Fn :=
  fn.body.bind fun c => (compC P fn.ntmps h drawOk c).bind fun c => (compR P fn.ntmps fn.results.toList).bind fun rs =>
  if np ≤ fn.ntmps then some ⟨np, rs, c⟩ else none

end Go.Zq
