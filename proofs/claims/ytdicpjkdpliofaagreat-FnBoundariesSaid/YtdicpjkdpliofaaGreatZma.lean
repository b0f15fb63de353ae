import Derived.Calls
import Derived.Laws.Sem
import Derived.Laws.World
import Derived.Laws.Entries
import Derived.Laws.StructEq
import Derived.Laws.Append
import Derived.Laws.MakeOwn
import Derived.Laws.Tables
set_option linter.unusedVariables false
set_option linter.unusedSimpArgs false
namespace Go.Zq
open Go
inductive T where
 |lit (v:Value)
 |ptr (id row off:Nat)
 |sl (id off len:Nat)
 |nls (sz:Nat)
 |imm (perm:Bool) (sz:Nat) (rows:List (List T))
 |ip (cells:List T)
 |clo (f:FuncId) (caps:List T)
 deriving Inhabited
abbrev Row:=List T
inductive SV where
 |und
 |one (t:T)
 |agg (ts:Row)
 |tup (vs:List SV)
 deriving Inhabited
inductive Blk where
 |dead
 |box (cells:Row)
 |lst (sz:Nat) (rows:List Row)
 deriving Inhabited
structure St where
 sl:List (Nat×SV)
 hp:List Blk
 deriving Inhabited
abbrev I(n:Int):T:= .lit (.int .i64 n)
abbrev B(b:Bool):T:= .lit (.bool b)
inductive Opd where
 |t (n:Nat)
 |c (v:SV)
 deriving Inhabited
abbrev Ev:=Opd→Option SV
def bH(n:Nat):List (Nat×SV)→Option SV
 |[]=>none
 |(m,v)::r=>if m=n then some v else bH n r
def GJ:Value→Bool
 | .agg _| .tuple _| .func .. | .slice .. | .pointer (some _)=>false
 |_=>true
def St.ev(σ:St):Opd→Option SV
 | .t n=>bH n σ.sl
 | .c v=>some v
def St.set(σ:St)(d:Nat)(v:SV):St:={σ with sl:=(d,v)::σ.sl}
def SV.cells:SV→Option Row
 | .one t=>some [t]
 | .agg ts=>some ts
 |_=>none
def SV.of:Option Nat→Row→Option SV
 |none,t::_=>some (.one t)
 |none,[]=>none
 |some n,cs=>if n≤cs.length then some (.agg (cs.take n))else none
def dI(hp:List Blk):T→Option (List Row)
 | .nls _=>some []
 | .imm _ _ rows=>some rows
 | .sl id off len=>
   match hp[id]? with
   |some (.lst _ rows)=>if off+len≤rows.length then some ((rows.drop off).take len)else none
   |_=>none
 |_=>none
def mO(hp:List Blk):T→Option Row
 | .ip cells=>some cells
 | .ptr id row off=>
   match hp[id]? with
   |some (.box cells)=>if row=0 then some (cells.drop off)else none
   |some (.lst _ rows)=>(rows[row]?).map (·.drop off)
   |_=>none
 |_=>none
def wr(cs:Row)(off:Nat)(new:Row):Row:=cs.take off++(new++cs.drop (off+new.length))
def inList:T→Bool
 | .lit v=>GJ v
 | .nls _=>true
 | .imm p _ _=>p
 |_=>false
def nJ(hp:List Blk):T→Option Nat
 | .nls n=>some n
 | .imm _ n _=>some n
 | .sl id _ _=>
   match hp[id]? with
   |some (.lst n _)=>some n
   |_=>none
 |_=>none
def store(hp:List Blk)(n:Nat)(a:T)(new:Row):Option (List Blk):=
 if new.length=n then
  match a with
  | .ptr id row off=>
    match hp[id]? with
    |some (.box cells)=>if row=0∧off+n≤cells.length then some (hp.set id (.box (wr cells off new)))else none
    |some (.lst sz rows)=>
     match rows[row]? with
     |some r=>if off+n≤r.length∧new.all inList then some (hp.set id (.lst sz (rows.set row (wr r off new))))else none
     |none=>none
    |_=>none
  |_=>none
 else none
def LS(o:BinOp)(k:IntKind)(x y:Int):Option Value:=
 match o with
 | .add=>some (.int k (k.wrap (x+y)))
 | .sub=>some (.int k (k.wrap (x-y)))
 | .mul=>some (.int k (k.wrap (x*y)))
 | .quo=>if y=0 then none else some (.int k (k.wrap (x.tdiv y)))
 | .rem=>if y=0 then none else some (.int k (x.tmod y))
 | .and=>some (.int k (k.wrap (BitVec.ofInt k.bits x&&&BitVec.ofInt k.bits y).toNat))
 | .or=>some (.int k (k.wrap (BitVec.ofInt k.bits x|||BitVec.ofInt k.bits y).toNat))
 | .xor=>some (.int k (k.wrap (BitVec.ofInt k.bits x^^^BitVec.ofInt k.bits y).toNat))
 | .andNot=>some (.int k (k.wrap (BitVec.ofInt k.bits x&&& ~~~BitVec.ofInt k.bits y).toNat))
 | .eql=>some (.bool (x==y))
 | .neq=>some (.bool (x !=y))
 | .lss=>some (.bool (x<y))
 | .leq=>some (.bool (x≤y))
 | .gtr=>some (.bool (x>y))
 | .geq=>some (.bool (x≥y))
 |_=>none
def LT(o:BinOp):Value→Value→Option Value
 | .int k x, .int k' y=>
   match o with
   | .shl=>if y<0 then none else some (.int k (k.wrap (x*2^min y.toNat k.bits)))
   | .shr=>if y<0 then none else some (.int k (x.fdiv (2^min y.toNat k.bits)))
   |o=>if k=k' then LS o k x y else none
 | .string x, .string y=>
   match o with
   | .add=>if((x.size+y.size:Nat):Int)≤IntKind.i64.max then some (.string (x++y))else none
   | .eql=>some (.bool (x.toList==y.toList))
   | .neq=>some (.bool (!(x.toList==y.toList)))
   |_=>none
 |_,_=>none
def unT:UnOp→Value→Option Value
 | .not, .bool x=>some (.bool (!x))
 | .neg, .int k n=>some (.int k (k.wrap (0-n)))
 |_,_=>none
def aFN:Nat→T→T→Option Bool
 |0, .lit (.int k x), .lit (.int k' y)=>if k=k' then some (x==y)else none
 |1, .lit (.bool x), .lit (.bool y)=>some (x==y)
 |2, .lit (.string x), .lit (.string y)=>some (x.toList==y.toList)
 |_,_,_=>none
def mP:List Nat→Row→Row→Option Bool
 |[],[],[]=>some true
 |g::gs,x::xs,y::ys=>(aFN g x y).bind fun e=>(mP gs xs ys).bind fun r=>some (e&&r)
 |_,_,_=>none
inductive K where
 |mv (d:Nat) (x:Opd)
 |pick (d:Nat) (c x y:Opd)
 |alc (d:Nat) (z:Row)
 |box (d:Nat) (x:Opd)
 |bld (d:Nat) (z:Row) (ps:List (Nat×Nat×Opd))
 |bsl (d n:Nat) (z:Row) (ps:List (Nat×Opd))
 |ld (d:Nat) (n:Option Nat) (x:Opd)
 |st (n:Nat) (x y:Opd)
 |nilc (d:Nat) (x:Opd)
 |bin (d:Nat) (o:BinOp) (x y:Opd)
 |bb (d:Nat) (neg:Bool) (x y:Opd)
 |eqs (d:Nat) (neg:Bool) (gs:List Nat) (x y:Opd)
 |un (d:Nat) (o:UnOp) (x:Opd)
 |cv (d:Nat) (k:IntKind) (x:Opd)
 |mkf (d:Nat) (f:FuncId) (caps:List Opd)
 |mks (d by_:Nat) (z:Row) (n c:Opd)
 |slc (d sz:Nat) (x:Opd) (lo hi:Option Opd)
 |sls (d:Nat) (x:Opd) (lo hi:Option Opd)
 |fa (d:Nat) (x:Opd) (off:Nat)
 |fld (d:Nat) (x:Opd) (off:Nat) (n:Option Nat)
 |ia (d:Nat) (sz:Nat) (x j:Opd)
 |ix (d:Nat) (x j:Opd)
 |ext (d:Nat) (x:Opd) (j:Nat)
 |call (d:Option Nat) (pu:Bool) (f:FuncId) (xs:List (Opd×Nat×Bool))
 |calv (d:Option Nat) (pu:Bool) (f:Opd) (xs:List (Opd×Nat×Bool))
 |len (d:Nat) (x:Opd)
 |lens (d:Nat) (x:Opd)
 |app (d by_ sz:Nat) (x y:Opd)
 |cpy (d sz:Nat) (x y:Opd)
 |clr (sz:Nat) (z:Row) (x:Opd)
 |mm (d:Nat) (isMax:Bool) (x y:Opd)
 deriving Inhabited
def vP:SV→Option (IntKind×Int)
 | .one (.lit (.int k n))=>some (k,n)
 |_=>none
def asBool:SV→Option Bool
 | .one (.lit (.bool x))=>some x
 |_=>none
def i6:SV→Option T
 | .one t=>some t
 |_=>none
def GK:SV→Option Value
 | .one (.lit v)=>some v
 |_=>none
def fill(ev:Ev)(cs:Row):List (Nat×Nat×Opd)→Option Row
 |[]=>some cs
 |(o,n,x)::r=>(ev x).bind fun v=>v.cells.bind fun new=>
  if new.length=n∧o+n≤cs.length then fill ev (wr cs o new) r else none
def fillRows(ev:Ev)(rows:List Row):List (Nat×Opd)→Option (List Row)
 |[]=>some rows
 |(j,x)::r=>(ev x).bind fun v=>v.cells.bind fun new=>
  match rows[j]? with
  |some old=>if new.length=old.length∧new.all inList then fillRows ev (rows.set j new) r else none
  |none=>none
def setD(σ:St)(d:Option Nat)(v:SV):St:=match d with|some d=>σ.set d v|none=>σ
inductive Src where
 |box (id off n:Nat)
 |lst (id off len:Nat)
 |nil (sz:Nat)
 deriving DecidableEq,Inhabited
def a08(l:List Src)(s:Src):List Src:=if s∈l then l else l++[s]
def tD(hp:List Blk)(id:Nat):Row:=
 match hp[id]? with
 |some (.box cells)=>cells
 |_=>[]
def a09(hp:List Blk)(n:Nat)(l:List Src):T→List Src
 | .ptr id _ off=>a08 l (if n=0 then .box id 0 (tD hp id).length else .box id off n)
 |_=>l
def LU(hp:List Blk)(n:Nat)(l:List Src):T→List Src
 | .clo _ caps=>caps.foldl (a09 hp 0) l
 |t=>a09 hp n l t
def aFO(l:List Src):T→List Src
 | .sl id off len=>a08 l (.lst id off len)
 | .nls n=>l++[.nil n]
 |_=>l
def tE(hp:List Blk):Src→Row
 | .box id off n=>((tD hp id).drop off).take n
 |_=>[]
def P3(hp:List Blk):Nat→Nat→List Src→List Src
 |0,_,l=>l
 |f+1,k,l=>
  match l[k]? with
  |some s=>P3 hp f (k+1) ((tE hp s).foldl (a09 hp 0) l)
  |none=>l
def eU:SV→Row
 | .one t=>[t]
 | .agg ts=>ts
 |_=>[]
def vQ(hp:List Blk)(bx:List Src)(cells:Row):List Src:=
 let bx:=P3 hp 6 0 bx
 bx++cells.foldl aFO ((bx.flatMap (tE hp)).foldl aFO [])
def OA:List Src→Nat→Nat→Nat→Option (Nat×Nat)
 |[],_,_,_=>none
 | .box id o n::r,k,j,off=>if id=j∧o≤off∧off<o+n then some (k,off-o)else OA r (k+1) j off
 |_::r,k,j,off=>OA r (k+1) j off
def CL:List Src→Nat→Nat→Nat→Nat→Option Nat
 |[],_,_,_,_=>none
 | .lst id o l::r,k,j,off,len=>if id=j∧o=off∧l=len then some k else CL r (k+1) j off len
 |_::r,k,j,off,len=>CL r (k+1) j off len
def aFP:List Src→Nat→Nat→Option Nat
 |[],_,_=>none
 | .nil _::r,k,m=>if m=0 then some k else aFP r (k+1) (m-1)
 |_::r,k,m=>aFP r (k+1) m
def ZE(src:List Src):T→Option T
 | .ptr id row off=>if row=0 then(OA src 0 id off).bind fun x=>some (.ptr x.1 0 x.2)else none
 |_=>none
def JL(src:List Src):List T→Option (List T)
 |[]=>some []
 |t::r=>(ZE src t).bind fun t=>(JL src r).bind fun r=>some (t::r)
def ren(src:List Src)(m:Nat):T→Option (T×Nat)
 | .lit v=>some (.lit v,m)
 | .nls _=>(aFP src 0 m).bind fun k=>some (.sl k 0 0,m+1)
 | .sl id off len=>(CL src 0 id off len).bind fun k=>some (.sl k 0 len,m)
 | .imm p n rows=>some (.imm p n rows,m)
 | .clo f caps=>(JL src caps).bind fun caps=>some (.clo f caps,m)
 | .ptr id row off=>(ZE src (.ptr id row off)).bind fun t=>some (t,m)
 | .ip _=>none
def rW(src:List Src)(m:Nat):Row→Option (Row×Nat)
 |[]=>some ([],m)
 |t::r=>(ren src m t).bind fun x=>(rW src x.2 r).bind fun y=>some (x.1::y.1,y.2)
def aIP(id:Nat):Src→Bool
 | .lst j _ _=>j !=id
 |_=>true
def CM(hp:List Blk)(src:List Src):T→Option T
 | .lit v=>some (.lit v)
 | .nls n=>some (.imm false n [])
 | .imm p n rows=>some (.imm p n rows)
 | .sl id off len=>(nJ hp (.sl id off len)).bind fun n=>(dI hp (.sl id off len)).bind fun rows=>if src.all (aIP id)then some (.imm false n rows)else none
 | .clo f caps=>(JL src caps).bind fun caps=>some (.clo f caps)
 | .ptr id row off=>ZE src (.ptr id row off)
 | .ip _=>none
def xL(hp:List Blk)(src:List Src):Row→Option Row
 |[]=>some []
 |t::r=>(CM hp src t).bind fun t=>(xL hp src r).bind fun r=>some (t::r)
def dX(hp:List Blk)(src:List Src):Nat→List Src→Option (List Blk×Nat)
 |m,[]=>some ([],m)
 |m,s::r=>
  match s with
  | .box id off n=>
    (rW src m (tE hp (.box id off n))).bind fun x=>(dX hp src x.2 r).bind fun y=>some (.box x.1::y.1,y.2)
  | .lst id off len=>
    (nJ hp (.sl id off len)).bind fun n=>(dI hp (.sl id off len)).bind fun rows=>(dX hp src m r).bind fun y=>some (.lst n rows::y.1,y.2)
  | .nil n=>(dX hp src m r).bind fun y=>some (.lst n []::y.1,y.2)
def a1A(hp:List Blk)(id off n:Nat):Bool:=
 match hp[id]? with
  |some (.box cells)=>off+n≤cells.length&&0<n
  |_=>false
def CN:Src→Src→Bool
 | .box j o n, .box j' o' n'=>j !=j'||o+n≤o'||o'+n'≤o
 | .lst j _ _, .lst j' _ _=>j !=j'
 |_,_=>true
def vR:List Src→Bool
 |[]=>true
 |s::r=>r.all (CN s)&&vR r
def cG:List Src→Nat
 | .box .. ::r=>cG r+1
 |_=>0
def a1B(hp:List Blk):Src→Bool
 | .box id off n=>a1A hp id off n
 |_=>true
def P4:Src→Bool
 | .box .. =>false
 |_=>true
def oX(hp:List Blk)(src:List Src):Bool:=
 vR src&&src.all (a1B hp)&&(src.drop (cG src)).all P4
structure Ent where
 args:List SV
 hp:List Blk
 src:List Src
 bor:Bool
def jT(ev:Ev):List (Opd×Nat×Bool)→Option (List (SV×Nat×Bool))
 |[]=>some []
 |(x,n,mv)::r=>(ev x).bind fun v=>(jT ev r).bind fun r=>some ((v,n,mv)::r)
def bM5:T→Bool
 | .sl .. =>true
 |_=>false
def lC(hp:List Blk)(src:List Src):Nat→List (SV×Nat×Bool)→Option (List SV)
 |_,[]=>some []
 |m,(v,_,mv)::r=>
  match v with
  | .one t=>
    if mv then(ren src m t).bind fun x=>(lC hp src x.2 r).bind fun r=>some (.one x.1::r)
    else(CM hp src t).bind fun x=>(lC hp src m r).bind fun r=>some (.one x::r)
  | .agg ts=>
    if mv then(rW src m ts).bind fun x=>(lC hp src x.2 r).bind fun r=>some (.agg x.1::r)
    else(xL hp src ts).bind fun x=>(lC hp src m r).bind fun r=>some (.agg x::r)
  |_=>none
def x8(v:SV×Nat×Bool):Bool:=!v.2.2&&(eU v.1).any bM5
def enter(hp:List Blk)(vs:List (SV×Nat×Bool)):Option Ent:=
 let bx:=vs.foldl (fun l v=>(eU v.1).foldl (LU hp v.2.1) l) []
 let src:=vQ hp bx (vs.flatMap fun v=>if v.2.2 then eU v.1 else [])
 if oX hp src then
  (dX hp src 0 src).bind fun x=>(lC hp src x.2 vs).bind fun args=>some ⟨args,x.1,src,vs.any x8⟩
 else none
def XC(src:List Src)(nb base:Nat):T→Option T
 | .ptr j row off=>
   if j<nb then match src[j]? with
    |some (.box id o _)=>if row=0 then some (.ptr id 0 (o+off))else none
    |_=>none
   else some (.ptr (base+(j-nb)) row off)
 |_=>none
def P5(src:List Src)(nb base:Nat):List T→Option (List T)
 |[]=>some []
 |t::r=>(XC src nb base t).bind fun t=>(P5 src nb base r).bind fun r=>some (t::r)
def O7(src:List Src)(nb base:Nat):T→Option T
 | .sl j off len=>if nb≤j then some (.sl (base+(j-nb)) off len)else none
 | .clo f caps=>(P5 src nb base caps).bind fun caps=>some (.clo f caps)
 | .ptr j row off=>XC src nb base (.ptr j row off)
 |t=>some t
def vD(src:List Src)(nb base:Nat):Row→Option Row
 |[]=>some []
 |t::r=>(O7 src nb base t).bind fun t=>(vD src nb base r).bind fun r=>some (t::r)
def nO(src:List Src)(nb base:Nat):SV→Option SV
 | .one t=>(O7 src nb base t).bind fun t=>some (.one t)
 | .agg ts=>(vD src nb base ts).bind fun ts=>some (.agg ts)
 |_=>none
def xM(src:List Src)(nb base:Nat):List SV→Option (List SV)
 |[]=>some []
 |v::r=>(nO src nb base v).bind fun v=>(xM src nb base r).bind fun r=>some (v::r)
def G9(src:List Src)(nb base:Nat):SV→Option SV
 | .tup vs=>(xM src nb base vs).bind fun vs=>some (.tup vs)
 |v=>nO src nb base v
def AK(src:List Src)(nb base:Nat):Blk→Option Blk
 | .box cells=>(vD src nb base cells).bind fun cells=>some (.box cells)
 |b=>some b
def zR(src:List Src)(nb base:Nat):List Blk→Option (List Blk)
 |[]=>some []
 |b::r=>(AK src nb base b).bind fun b=>(zR src nb base r).bind fun r=>some (b::r)
def x9:T→Bool
 | .imm p _ _=>p
 | .ip _=>false
 |_=>true
def tG:SV→Bool
 | .tup vs=>vs.all fun v=>(eU v).all x9
 |v=>(eU v).all x9
def vN:Blk→Bool
 | .box cells=>cells.all x9
 |_=>true
def mC(src0:List Src)(nb base:Nat)(hp':List Blk):Nat→List Src→List Blk→Option (List Blk)
 |k, .box id off n::r,hp=>
  match hp'[k]?,hp[id]? with
  |some (.box new),some (.box cells)=>if new.length=n then(vD src0 nb base new).bind fun new=>mC src0 nb base hp' (k+1) r (hp.set id (.box (wr cells off new)))else none
  |_,_=>none
 |k, .lst id _ _::r,hp=>mC src0 nb base hp' (k+1) r (hp.set id .dead)
 |k, .nil _::r,hp=>mC src0 nb base hp' (k+1) r hp
 |_,[],hp=>some hp
def aXT(hp:List Blk)(e:Ent)(res:SV)(hp':List Blk):Option (SV×List Blk):=
 let nb:=cG e.src
 if e.bor=true∧(tG res&&hp'.all vN)=false then none else
 (mC e.src nb hp.length hp' 0 e.src hp).bind fun hp1=>
 (G9 e.src nb hp.length res).bind fun res=>
 (zR e.src nb hp.length (hp'.drop nb)).bind fun new=>
 some (res,hp1++new)
abbrev Rt:=FuncId→List SV→List Blk→Option (SV×List Blk)
def pR:T→Bool
 | .lit _| .nls _| .imm .. =>true
 |_=>false
def CP:SV→Bool
 | .tup vs=>vs.all fun
   | .one t=>pR t
   | .agg ts=>ts.all pR
   |_=>false
 | .one t=>pR t
 | .agg ts=>ts.all pR
 | .und=>false
def LV(hp:List Blk):T→Option T
 | .lit v=>some (.lit v)
 | .nls n=>some (.nls n)
 | .imm p n rows=>some (.imm p n rows)
 | .sl id off len=>(nJ hp (.sl id off len)).bind fun n=>(dI hp (.sl id off len)).bind fun rows=>some (.imm true n rows)
 |_=>none
def HA(hp:List Blk):Row→Option Row
 |[]=>some []
 |t::r=>(LV hp t).bind fun t=>(HA hp r).bind fun r=>some (t::r)
def B4(hp:List Blk):SV→Option SV
 | .one t=>(LV hp t).bind fun t=>some (.one t)
 | .agg ts=>(HA hp ts).bind fun ts=>some (.agg ts)
 |_=>none
def HB(hp:List Blk):List SV→Option (List SV)
 |[]=>some []
 |v::r=>(B4 hp v).bind fun v=>(HB hp r).bind fun r=>some (v::r)
def OB(hp:List Blk):SV→Option SV
 | .tup vs=>(HB hp vs).bind fun vs=>some (.tup vs)
 |v=>B4 hp v
def lD(R:Rt)(hp:List Blk)(pu:Bool)(f:FuncId)(vs:List (SV×Nat×Bool)):Option (SV×List Blk):=
 if pu=true then
  (lC hp [] 0 vs).bind fun args=>(R f args []).bind fun r=>(OB r.2 r.1).bind fun v=>
  if vs.any x8=false∨tG v=true then some (v,hp)else none
 else
  (enter hp vs).bind fun e=>(R f e.args e.hp).bind fun r=>aXT hp e r.1 r.2
def swT(i j:Nat):T→T
 | .sl k a b=> .sl (if k=j then i else k) a b
 |t=>t
def swB(i j:Nat):Blk→Blk
 | .box cells=> .box (cells.map (swT i j))
 |b=>b
def swp(i j:Nat)(hp:List Blk):List Blk:=
 match hp[i]?,hp[j]? with
 |some .dead,some (.lst sz rows)=>((hp.set i (.lst sz rows)).set j .dead).map (swB i j)
 |_,_=>hp
def stay(src:List Src)(base k:Nat)(hp:List Blk):List Blk:=
 match src[k]? with
 |some (.lst id 0 _)=>swp id (base+(k-cG src)) hp
 |_=>hp
def xN(R:Rt)(hp:List Blk)(f:FuncId)(vs:List (SV×Nat×Bool)):Option (SV×List Blk):=
 (enter hp vs).bind fun e=>(R f e.args e.hp).bind fun r=>(aXT hp e r.1 r.2).bind fun x=>
   some (x.1,stay e.src hp.length (cG e.src+1) (stay e.src hp.length (cG e.src) x.2))
def sS(R:Rt)(hp:List Blk)(pu:Bool)(f:FuncId)(vs:List (SV×Nat×Bool)):Option (SV×List Blk):=
 if f<50000 then lD R hp pu f vs else none
def nP(R:Rt)(hp:List Blk)(pu:Bool)(f:FuncId)(vs:List (SV×Nat×Bool)):Option (SV×List Blk):=
 if f<50000 then lD R hp pu f vs else if pu=true then none else xN R hp f vs
def K.dst:K→Option Nat
 | .mv d _| .pick d .. | .alc d _| .box d _| .bld d .. | .bsl d .. | .ld d .. | .nilc d _| .bin d .. | .bb d .. | .eqs d .. | .un d .. | .cv d .. | .mkf d .. | .mks d ..
 | .slc d .. | .sls d .. | .fa d .. | .fld d .. | .ia d .. | .ix d .. | .ext d .. | .len d .. | .lens d .. | .app d .. | .cpy d .. | .mm d .. =>some d
 | .st .. | .clr .. =>none
 | .call d .. | .calv d .. =>d
def vS(ev:Ev):List Opd→Option (List T)
 |[]=>some []
 |x::r=>(ev x).bind fun v=>(i6 v).bind fun t=>
  match t with
  | .ptr .. =>(vS ev r).bind fun r=>some (t::r)
  |_=>none
def P6 (hp:List Blk):T→Bool
 | .nls _=>true
 | .sl id off len=>match hp[id]? with
   |some (.lst _ rows)=>off+len=rows.length
   |_=>false
 |_=>false
def JM(hp:List Blk):T→List Blk
 | .sl id _ _=>hp.set id .dead
 |_=>hp
def room:Nat:=140737488355328
def uZ(ev:Ev)(n:Nat):Option Opd→Option Int
 |none=>some n
 |some o=>(ev o).bind fun v=>(vP v).bind fun v=>some v.2
def cut(hp:List Blk)(sz:Nat)(t:T)(rows:List Row)(l h:Int):Option T:=
 if 0≤l∧l≤h∧h≤rows.length then
  match t with
  | .sl id off ln=>if nJ hp (.sl id off ln)=some sz then some (.sl id (off+l.toNat) (h.toNat-l.toNat))else none
  | .imm p n rows=>if n=sz then some (.imm p n ((rows.drop l.toNat).take (h.toNat-l.toNat)))else none
  | .nls n=>some (.nls n)
  |_=>none
 else none
def idx(hp:List Blk)(sz:Nat)(t:T)(j:Int):Option SV:=
 match t with
 | .sl id off ln=>if 0≤j∧j<ln then if nJ hp (.sl id off ln)=some sz then some (.one (.ptr id (off+j.toNat) 0))else none else none
 | .imm _ n rows=>if 0≤j∧n=sz then(rows[j.toNat]?).map fun r=> .one (.ip r)else none
 |_=>none
def ZF(off:Nat):SV→Option SV
 | .one (.ptr id row o)=>some (.one (.ptr id row (o+off)))
 | .one (.ip cells)=>some (.one (.ip (cells.drop off)))
 |_=>none
def K.exec(R:Rt)(ev:Ev)(hp:List Blk):K→Option (SV×List Blk)
 | .mv _ x=>(ev x).bind fun v=>some (v,hp)
 | .pick _ c x y=>(ev c).bind fun c=>(asBool c).bind fun c=>if c=true then(ev x).bind fun v=>some (v,hp)else(ev y).bind fun v=>some (v,hp)
 | .alc _ z=>some (.one (.ptr hp.length 0 0),hp++[.box z])
 | .box _ x=>(ev x).bind fun v=>v.cells.bind fun cs=>if 0<cs.length then some (.one (.ptr hp.length 0 0),hp++[.box cs])else none
 | .bld _ z ps=>(fill ev z ps).bind fun cs=>some (.agg cs,hp)
 | .bsl _ n z ps=>(fillRows ev (List.replicate n z) ps).bind fun rows=>
   some (.one (.sl hp.length 0 rows.length),hp++[.lst z.length rows])
 | .ld _ n x=>(ev x).bind fun v=>(i6 v).bind fun t=>(mO hp t).bind fun cs=>(SV.of n cs).bind fun v=>some (v,hp)
 | .st n x y=>(ev x).bind fun v=>(i6 v).bind fun t=>(ev y).bind fun u=>u.cells.bind fun cs=>(store hp n t cs).bind fun hp=>some (.und,hp)
 | .nilc _ x=>(ev x).bind fun v=>match v with
   | .one (.ptr ..)| .one (.ip _)=>some (v,hp)
   |_=>none
 | .bin _ o x y=>(ev x).bind fun v=>(GK v).bind fun v=>(ev y).bind fun u=>(GK u).bind fun u=>(LT o v u).bind fun r=>some (.one (.lit r),hp)
 | .bb _ neg x y=>(ev x).bind fun v=>(asBool v).bind fun v=>(ev y).bind fun u=>(asBool u).bind fun u=>some (.one (B (if neg then !(v==u)else v==u)),hp)
 | .eqs _ neg gs x y=>(ev x).bind fun v=>(ev y).bind fun u=>match v,u with
   | .agg vs, .agg us=>(mP gs vs us).bind fun r=>some (.one (B (if neg then !r else r)),hp)
   |_,_=>none
 | .un _ o x=>(ev x).bind fun v=>(GK v).bind fun v=>(unT o v).bind fun r=>some (.one (.lit r),hp)
 | .cv _ k x=>(ev x).bind fun v=>(vP v).bind fun v=>some (.one (.lit (.int k (k.wrap v.2))),hp)
 | .mkf _ f caps=>(vS ev caps).bind fun caps=>some (.one (.clo f caps),hp)
 | .mks _ by_ z n c=>(ev n).bind fun v=>(vP v).bind fun v=>(ev c).bind fun u=>(vP u).bind fun u=>
   if 0≤v.2∧v.2≤u.2∧u.2*by_≤room∧u.2≤room then
    some (.one (.sl hp.length 0 v.2.toNat),hp++[.lst z.length (List.replicate v.2.toNat z)])
   else none
 | .slc _ sz x lo hi=>(ev x).bind fun v=>(i6 v).bind fun t=>(dI hp t).bind fun rows=>(uZ ev 0 lo).bind fun l=>(uZ ev rows.length hi).bind fun h=>
   (cut hp sz t rows l h).bind fun t=>some (.one t,hp)
 | .sls _ x lo hi=>(ev x).bind fun v=>(GK v).bind fun v=>match v with
   | .string s=>(uZ ev 0 lo).bind fun l=>(uZ ev s.size hi).bind fun h=>
     if 0≤l∧l≤h∧h≤s.size then some (.one (.lit (.string (s.extract l.toNat h.toNat))),hp)else none
   |_=>none
 | .fa _ x off=>(ev x).bind fun v=>(ZF off v).bind fun v=>some (v,hp)
 | .fld _ x off n=>(ev x).bind fun v=>match v with
   | .agg cs=>(SV.of n (cs.drop off)).bind fun v=>some (v,hp)
   |_=>none
 | .ia _ sz x j=>(ev x).bind fun v=>(i6 v).bind fun t=>(ev j).bind fun u=>(vP u).bind fun u=>(idx hp sz t u.2).bind fun v=>some (v,hp)
 | .ix _ x j=>(ev x).bind fun v=>(GK v).bind fun v=>(ev j).bind fun u=>(vP u).bind fun u=>match v with
   | .string s=>if 0≤u.2 then match s[u.2.toNat]? with
      |some c=>some (.one (.lit (.int .u8 c.toNat)),hp)
      |none=>none
     else none
   |_=>none
 | .ext _ x j=>(ev x).bind fun v=>match v with
   | .tup vs=>(vs[j]?).bind fun v=>some (v,hp)
   |_=>none
 | .call _ pu f xs=>(jT ev xs).bind fun vs=>nP R hp pu f vs
 | .calv _ pu f xs=>(ev f).bind fun g=>match g with
   | .one (.clo f caps)=>(jT ev xs).bind fun vs=>sS R hp pu f (vs++caps.map fun c=>(.one c,0,false))
   |_=>none
 | .len _ x=>(ev x).bind fun v=>(i6 v).bind fun t=>(dI hp t).bind fun rows=>some (.one (I rows.length),hp)
 | .lens _ x=>(ev x).bind fun v=>(GK v).bind fun v=>match v with
   | .string s=>some (.one (I s.size),hp)
   |_=>none
 | .app _ by_ sz x y=>(ev x).bind fun v=>(i6 v).bind fun t=>(ev y).bind fun u=>(i6 u).bind fun s=>
   (dI hp t).bind fun xs=>(dI hp s).bind fun ys=>
   if P6 hp t=true∧nJ hp t=some sz∧nJ hp s=some sz∧(xs.length+ys.length)*by_≤room∧xs.length+ys.length≤room then
    some (.one (.sl hp.length 0 (xs++ys).length),JM hp t++[.lst sz (xs++ys)])
   else none
 | .cpy _ sz x y=>(ev x).bind fun v=>(i6 v).bind fun t=>(ev y).bind fun u=>(i6 u).bind fun s=>
   (dI hp t).bind fun xs=>(dI hp s).bind fun ys=>match t with
   | .sl id off _=>match hp[id]? with
     |some (.lst n rows)=>if n=sz∧nJ hp s=some sz then
       some (.one (I (min ys.length xs.length:Nat)),hp.set id (.lst n (rows.take off++(ys.take (min ys.length xs.length)++rows.drop (off+min ys.length xs.length)))))
      else none
     |_=>none
   |_=>none
 | .clr sz z x=>(ev x).bind fun v=>(i6 v).bind fun t=>match t with
   | .sl id off ln=>match hp[id]? with
     |some (.lst n rows)=>if n=sz∧off+ln≤rows.length then
       some (.tup [],hp.set id (.lst n (rows.take off++(List.replicate ln z++rows.drop (off+ln)))))
      else none
     |_=>none
   |_=>none
 | .mm _ isMax x y=>(ev x).bind fun v=>(vP v).bind fun v=>(ev y).bind fun u=>(vP u).bind fun u=>
   if v.1=u.1 then some (.one (.lit (.int v.1 (if isMax then(if u.2>v.2 then u.2 else v.2)else(if u.2<v.2 then u.2 else v.2)))),hp)else none
def K.run(R:Rt)(σ:St)(k:K):Option St:=(k.exec R σ.ev σ.hp).bind fun r=>some (setD ⟨σ.sl,r.2⟩ k.dst r.1)
abbrev G:=Option (Nat×Bool)×K
def kG(R:Rt)(σ:St)(g:G):Option St:=
 match g.1 with
 |none=>g.2.run R σ
 |some (s,want)=>
  match bH s σ.sl with
  |some (.one (.lit (.bool x)))=>if x=want then g.2.run R σ else some (setD σ g.2.dst .und)
  |some .und=>some (setD σ g.2.dst .und)
  |_=>none
def dU(R:Rt):List G→St→Option St
 |[],σ=>some σ
 |g::r,σ=>(kG R σ g).bind (dU R r)
def keep(sl:List (Nat×SV)):List Nat→List (Nat×SV)
 |[]=>[]
 |n::r=>match bH n sl with
  |some v=>(n,v)::keep sl r
  |none=>keep sl r
def trim(kp:Option (List Nat))(σ:St):St:=match kp with
 |some l=>⟨keep σ.sl l,σ.hp⟩
 |none=>σ
inductive C where
 |ops (l:List G) (kp:Option (List Nat))
 |drw (ls:List (List G)) (kp:List Nat) (cn:Bool)
 |seq (x y:C)
 |cond (c:Opd) (x y:C)
 |blk (id:Nat) (x:C)
 |loop (live:List Nat) (x:C)
 |brk (id:Nat)
 |ret
 |skip
 deriving Inhabited
inductive Out where
 |nor (σ:St)
 |brk (id:Nat) (σ:St)
 |ret (σ:St)
def lE(σ:St)(src:List Src):Nat→List Nat→Option (List (Nat×SV))
 |_,[]=>some []
 |m,s::r=>(bH s σ.sl).bind fun v=>match v with
  | .one t=>(ren src m t).bind fun x=>(lE σ src x.2 r).bind fun l=>some ((s, .one x.1)::l)
  | .agg ts=>(rW src m ts).bind fun x=>(lE σ src x.2 r).bind fun l=>some ((s, .agg x.1)::l)
  | .und=>(lE σ src m r).bind fun l=>some ((s, .und)::l)
  |_=>none
def oG(σ:St)(live:List Nat):Row:=live.flatMap fun s=>match bH s σ.sl with|some v=>eU v|none=>[]
def fC(hp:List Blk)(nb:Nat):List Src:=(List.range nb).map fun j=> .box j 0 (tD hp j).length
def canon(nb:Nat)(live:List Nat)(σ:St):Option St:=
 let cells:=oG σ live
 let src:=vQ σ.hp (cells.foldl (LU σ.hp 0) (fC σ.hp nb)) cells
 if oX σ.hp src=true∧src.take nb=fC σ.hp nb then
  (dX σ.hp src 0 src).bind fun x=>(lE σ src x.2 live).bind fun sl=>some ⟨sl,x.1⟩
 else none
def AL(nb:Nat)(live:List Nat)(f:St→Option Out):Nat→St→Option Out
 |0,_=>none
 |n+1,σ=>(canon nb live σ).bind fun σ=>(f σ).bind fun
  | .nor σ=>AL nb live f n σ
  |o=>some o
def bL0(hp:List Blk)(i:Nat):Bool:=
 match hp[i]? with
 |some (.box _)=>true
 |_=>false
def a1C(hp:List Blk)(nb:Nat):List Nat:=
 List.range nb++((((List.range hp.length).drop nb).filter fun i=>bL0 hp i)++(((List.range hp.length).drop nb).filter fun i=>!bL0 hp i))
def pP(o:List Nat):T→T
 | .ptr id r k=> .ptr (o.idxOf id) r k
 |t=>t
def pT(o:List Nat):T→T
 | .ptr id r k=> .ptr (o.idxOf id) r k
 | .sl id a b=> .sl (o.idxOf id) a b
 | .clo f caps=> .clo f (caps.map (pP o))
 |t=>t
def pB(o:List Nat):Blk→Blk
 | .box cells=> .box (cells.map (pT o))
 |b=>b
def pSl(o:List Nat):List (Nat×SV)→Option (List (Nat×SV))
 |[]=>some []
 |(n, .one t)::r=>(pSl o r).bind fun r=>some ((n, .one (pT o t))::r)
 |(n, .agg ts)::r=>(pSl o r).bind fun r=>some ((n, .agg (ts.map (pT o)))::r)
 |(n, .und)::r=>(pSl o r).bind fun r=>some ((n, .und)::r)
 |(_, .tup _)::_=>none
def okO(o:List Nat)(n nb:Nat):Bool:=
 (o.length==n)&&((List.range n).all fun i=>o[o.idxOf i]? ==some i)&&((List.range n).all fun j=>o.idxOf (o.getD j 0)==j)&&((List.range nb).all fun i=>o[i]? ==some i)&&(o.all fun i=>decide (i<n))
def ZG(nb:Nat)(σ:St):Option St:=
 if okO (a1C σ.hp nb) σ.hp.length nb=true then(pSl (a1C σ.hp nb) σ.sl).bind fun sl=>some ⟨sl,(a1C σ.hp nb).map fun i=>pB (a1C σ.hp nb) (σ.hp.getD i .dead)⟩else none
def B5(nb:Nat)(kp:List Nat)(cn:Bool)(σ:St):Option St:=
 if cn=true then
  if kp.contains 999998=true then if((kp.filter (·!=999998)).all fun n=>(bH n σ.sl).isSome)=true then ZG nb (trim (some (kp.filter (·!=999998))) σ)else none
  else canon nb kp σ
 else if(kp.all fun n=>(bH n σ.sl).isSome)=true then some (trim (some kp) σ)else none
open Classical in
noncomputable def oY(R:Rt)(nb:Nat)(kp:List Nat)(cn:Bool):List (List G)→St→Option St
 |[],_=>none
 |l::r,σ=>((dU R l σ).bind (B5 nb kp cn)).bind fun c=>match r with
  |[]=>some c
  |_::_=>(oY R nb kp cn r σ).bind fun c'=>if c'=c then some c else none
noncomputable def eY(R:Rt)(nb n:Nat):C→St→Option Out
 | .ops l kp,σ=>(dU R l σ).bind fun σ=>some (.nor (trim kp σ))
 | .drw ls kp cn,σ=>(oY R nb kp cn ls σ).bind fun σ=>some (.nor σ)
 | .seq x y,σ=>(eY R nb n x σ).bind fun
   | .nor σ=>eY R nb n y σ
   |o=>some o
 | .cond c x y,σ=>(σ.ev c).bind fun v=>(asBool v).bind fun c=>if c=true then eY R nb n x σ else eY R nb n y σ
 | .blk id x,σ=>(eY R nb n x σ).bind fun
   | .brk j σ=>if j=id then some (.nor σ)else some (.brk j σ)
   |o=>some o
 | .loop live x,σ=>AL nb live (eY R nb n x) n σ
 | .brk id,σ=>some (.brk id σ)
 | .ret,σ=>some (.ret σ)
 | .skip,σ=>some (.nor σ)
inductive Rv where
 |tmp (n:Nat)
 |cell (n:Nat) (k:Option Nat)
 deriving Inhabited
structure Fn where
 np:Nat
 res:List Rv
 body:C
 deriving Inhabited
def eO(σ:St):List Rv→Option (List SV)
 |[]=>some []
 | .tmp n::r=>(bH n σ.sl).bind fun v=>(eO σ r).bind fun r=>some (v::r)
 | .cell n k::r=>(bH n σ.sl).bind fun v=>(i6 v).bind fun t=>(mO σ.hp t).bind fun cs=>(SV.of k cs).bind fun v=>(eO σ r).bind fun r=>some (v::r)
def pS(src:List Src):Nat→List SV→Option (List SV)
 |_,[]=>some []
 |m, .one t::r=>(ren src m t).bind fun x=>(pS src x.2 r).bind fun r=>some (.one x.1::r)
 |m, .agg ts::r=>(rW src m ts).bind fun x=>(pS src x.2 r).bind fun r=>some (.agg x.1::r)
 |_,_::_=>none
def leave(nb:Nat)(σ:St)(vs:List SV):Option (SV×List Blk):=
 let cells:=vs.flatMap eU
 let src:=vQ σ.hp (cells.foldl (LU σ.hp 0) (fC σ.hp nb)) cells
 if oX σ.hp src=true∧src.take nb=fC σ.hp nb then
  (dX σ.hp src 0 src).bind fun x=>(pS src x.2 vs).bind fun vs=>some (match vs with|[v]=>v|vs=> .tup vs,x.1)
 else none
def XD(src:List Src)(k:Nat):Bool:=
 match src[k]? with
 |some (.lst id 0 _)=>id==k
 |_=>false
def leaveK(nb:Nat)(σ:St)(vs:List SV):Option (SV×List Blk):=
 let cells:=vs.flatMap eU
 let src:=vQ σ.hp (cells.foldl (LU σ.hp 0) (fC σ.hp nb)) cells
 if XD src nb=true∧XD src (nb+1)=true then leave nb σ vs else none
def cW:List Blk→Nat
 | .box _::r=>cW r+1
 |_=>0
def qW(k:Nat):List SV→List (Nat×SV)
 |[]=>[]
 |v::r=>(k,v)::qW (k+1) r
noncomputable def Fn.run(R:Rt)(n:Nat)(fn:Fn)(args:List SV)(hp:List Blk):Option (SV×List Blk):=
 if args.length=fn.np then
  (eY R (cW hp) n fn.body ⟨qW 0 args,hp⟩).bind fun
    | .nor σ=>(eO σ fn.res).bind fun vs=>leave (cW hp) σ vs
    | .ret σ=>(eO σ fn.res).bind fun vs=>leave (cW hp) σ vs
    |_=>none
 else none
noncomputable def Fn.runK(R:Rt)(n:Nat)(fn:Fn)(args:List SV)(hp:List Blk):Option (SV×List Blk):=
 if args.length=fn.np∧cW hp+2≤hp.length then
  (eY R (cW hp+2) n fn.body ⟨qW 0 args,hp⟩).bind fun
    | .nor σ=>(eO σ fn.res).bind fun vs=>leaveK (cW hp) σ vs
    | .ret σ=>(eO σ fn.res).bind fun vs=>leaveK (cW hp) σ vs
    |_=>none
 else none
end Go.Zq

namespace Go.Zq
open Go
structure Loc where
 blk:Nat
 base:Nat
 sz:Nat
 whole:Bool
abbrev Rho:=Nat→Option Loc
abbrev Rds:=Bool→Nat→Prop
inductive RI(w:World)(S:Rds):T→Value→Prop
 |lit {v:Value} (h:GJ v=true):RI w S (.lit v) v
 |nls {n:Nat}:RI w S (.nls n) (.slice none 0 0)
 |nil {p:Bool} {sz:Nat} {a:Option Addr} {cap:Nat}:RI w S (.imm p sz []) (.slice a 0 cap)
 |imm {p:Bool} {rows:List Row} {b off cap sz:Nat} {g:Nat→Nat→Value} (hS:S p b) (hcap:rows.length≤cap) (hsz: ∀r∈rows,r.length=sz) (hin: ∀r∈rows,r.all inList=true)
   (hg: ∀(j k:Nat)(t:T),(rows[j]?).bind (·[k]?)=some t→w.cell? ⟨b,off+j*sz+k,none⟩=some (g j k))
   (h: ∀(j k:Nat)(t:T),(rows[j]?).bind (·[k]?)=some t→RI w S t (g j k)):RI w S (.imm p sz rows) (.slice (some ⟨b,off,none⟩) rows.length cap)
inductive RT(ρ:Rho)(w:World)(S:Rds):T→Value→Prop
 |ri {t:T} {v:Value} (h:RI w S t v):RT ρ w S t v
 |ptr {id row off:Nat} {L:Loc} (h:ρ id=some L):RT ρ w S (.ptr id row off) (.pointer (some ⟨L.blk,L.base+row*L.sz+off,none⟩))
 |nil {id off:Nat}:RT ρ w S (.sl id off 0) (.slice none 0 0)
 |sl {id off len cap:Nat} {a:Addr} {L:Loc} {e:TypeId} {n:Nat} (h:ρ id=some L) (hc:len≤cap) (hs:w.shape? L.blk=some (e,n))
   (ha:cap=0∨a=⟨L.blk,L.base+off*L.sz,none⟩∧L.base+(off+cap)*L.sz≤n):RT ρ w S (.sl id off len) (.slice (some a) len cap)
 |ip {cells:Row} {b o:Nat} {p:Bool} {g:Nat→Value} (hS:S p b) (hg: ∀(k:Nat)(t:T),cells[k]? =some t→w.cell? ⟨b,o+k,none⟩=some (g k))
   (h: ∀(k:Nat)(t:T),cells[k]? =some t→RI w S t (g k)):RT ρ w S (.ip cells) (.pointer (some ⟨b,o,none⟩))
 |clo {f:FuncId} {caps:List T} {vs:Array Value} (hn:caps.length=vs.size)
   (h: ∀(k:Nat)(t:T),caps[k]? =some t→ ∃id row off L,t= .ptr id row off∧ρ id=some L∧vs.getD k undef= .pointer (some ⟨L.blk,L.base+row*L.sz+off,none⟩)):
   RT ρ w S (.clo f caps) (.func (.func f) #[] vs)
inductive RS(ρ:Rho)(w:World)(S:Rds):SV→Value→Prop
 |und:RS ρ w S .und undef
 |one {t:T} {v:Value} (h:RT ρ w S t v):RS ρ w S (.one t) v
 |agg {ts:Row} {vs:Array Value} (hn:ts.length=vs.size) (h: ∀(k:Nat)(t:T),ts[k]? =some t→RT ρ w S t (vs.getD k undef)):RS ρ w S (.agg ts) (.agg vs)
 |tup {vs:List SV} {us:Array Value} (hn:vs.length=us.size) (h: ∀k v,vs[k]? =some v→RS ρ w S v (us.getD k undef)):RS ρ w S (.tup vs) (.tuple us)
structure RR(ρ:Rho)(w:World)(S:Rds)(L:Loc)(rows:List Row):Prop where
 obj: ∃c e,w.heap[L.blk]? =some (.cells c e (0,0))∧L.base+rows.length*L.sz≤c.size
 len: ∀r∈rows,r.length=L.sz
 cell: ∀(j k:Nat)(t:T),(rows[j]?).bind (·[k]?)=some t→ ∃v,w.cell? ⟨L.blk,L.base+j*L.sz+k,none⟩=some v∧RT ρ w S t v
def BR(ρ:Rho)(w:World)(S:Rds)(id:Nat):Blk→Prop
 | .dead=>True
 | .box cells=> ∃L,ρ id=some L∧(L.whole=false∧0<L.sz)∧RR ρ w S L [cells]
 | .lst sz rows=>(ρ id=none∧rows=[])∨ ∃L,ρ id=some L∧L.whole=true∧L.sz=sz∧0<sz∧RR ρ w S L rows∧ ∀r∈rows,r.all inList=true
def live(hp:List Blk)(id:Nat):Prop:= ∃x,hp[id]? =some x∧x≠ .dead
def Loc.has(L:Loc)(b o:Nat):Prop:=b=L.blk∧(L.whole=true∨L.base≤o∧o<L.base+L.sz)
structure Hp(ρ:Rho)(w:World)(S:Rds)(hp:List Blk):Prop where
 br: ∀id x,hp[id]? =some x→BR ρ w S id x
 dj: ∀i j L M b o,i≠j→live hp i→live hp j→ρ i=some L→ρ j=some M→L.has b o→¬M.has b o
 sd: ∀p b,S p b→ ∀j L,live hp j→ρ j=some L→L.blk≠b
 sb: ∀p b,S p b→b<w.heap.size
 st: ∀b,S true b→S false b
 fr: ∀j,hp.length≤j→ρ j=none
structure Keep(W:Nat→Nat→Prop)(w w':World):Prop where
 os:w'.os=w.os
 tape:w'.tape=w.tape
 output:w'.output=w.output
 size:w.heap.size≤w'.heap.size
 cells: ∀(b:Nat) c e z,w.heap[b]? =some (.cells c e z)→ ∃c',w'.heap[b]? =some (.cells c' e z)∧c'.size=c.size∧ ∀o,¬W b o→c'[o]? =c[o]?
 other: ∀(b:Nat)(x:Obj),w.heap[b]? =some x→(∀c e z,x≠Obj.cells c e z)→w'.heap[b]? =some x
structure Sim(w0:World)(W:Nat→Nat→Prop)(S0:Rds)(ρ0:Rho)(nb N:Nat)(ρ:Rho)(S:Rds)(σ:St)(a:Act)(w:World):Prop where
 slots: ∀n v,bH n σ.sl=some v→n<N∧RS ρ w S v (a.tmps.getD n undef)
 size:a.tmps.size=N
 defers:a.defers=[]
 heap:Hp ρ w S σ.hp
 keep:Keep W w0 w
 own: ∀i L b o,live σ.hp i→ρ i=some L→L.has b o→W b o∨w0.heap.size≤b
 sn: ∀p b,S p b→S0 p b∨w0.heap.size≤b
 ss: ∀p b,S0 p b→S p b
 boxes: ∀i,i<nb→ρ i=ρ0 i
 nbl:nb≤σ.hp.length
end Go.Zq

namespace Go.Zq
open Go
def aIQ(S:Rds)(w w':World):Prop:= ∀p b,S p b→w'.heap[b]? =w.heap[b]?
theorem oH{w w':World}{b:Nat}(h:w'.heap[b]? =w.heap[b]?)(o:Nat):w'.cell? ⟨b,o,none⟩=w.cell? ⟨b,o,none⟩:=by
 simp only[World.cell?,h]
theorem yA{w w':World}{b:Nat}(h:w'.heap[b]? =w.heap[b]?):w'.shape? b=w.shape? b:=by
 simp only[World.shape?,h]
theorem RI.mono{w w':World}{S S':Rds}{t:T}{v:Value}(h:RI w S t v)(hS: ∀p b,S p b→S' p b)(hw:aIQ S w w'):RI w' S' t v:=by
 induction h with
 |lit h=>exact .lit h
 |nls=>exact .nls
 |nil=>exact .nil
 |imm hb hcap hsz hin hg _ ih=>
  exact .imm (hS _ _ hb) hcap hsz hin (fun j k t ht=>by rw[oH (hw _ _ hb)];exact hg j k t ht) (fun j k t ht=>ih j k t ht)
def Shp(ρ:Rho)(w w':World):Prop:= ∀i L e n,ρ i=some L→w.shape? L.blk=some (e,n)→w'.shape? L.blk=some (e,n)
theorem RT.mono{ρ ρ':Rho}{w w':World}{S S':Rds}{t:T}{v:Value}(h:RT ρ w S t v)(hρ: ∀i L,ρ i=some L→ρ' i=some L)
  (hS: ∀p b,S p b→S' p b) (hw:aIQ S w w') (hs:Shp ρ w w'):RT ρ' w' S' t v:=by
 cases h with
 |ri h=>exact .ri (h.mono hS hw)
 |ptr h=>exact .ptr (hρ _ _ h)
 |nil=>exact .nil
 |sl h hc hsh ha=>exact .sl (hρ _ _ h) hc (hs _ _ _ _ h hsh) ha
 |ip hb hg h=>exact .ip (hS _ _ hb) (fun k t ht=>by rw[oH (hw _ _ hb)];exact hg k t ht) (fun k t ht=>(h k t ht).mono hS hw)
 |clo hn h=>exact .clo hn (fun k t ht=>by obtain⟨id,row,off,L,e,hl,hv⟩:=h k t ht;exact⟨id,row,off,L,e,hρ _ _ hl,hv⟩)
theorem RS.mono{ρ ρ':Rho}{w w':World}{S S':Rds}{s:SV}{v:Value}(h:RS ρ w S s v)(hρ: ∀i L,ρ i=some L→ρ' i=some L)
  (hS: ∀p b,S p b→S' p b) (hw:aIQ S w w') (hs:Shp ρ w w'):RS ρ' w' S' s v:=by
 induction h with
 |und=>exact .und
 |one h=>exact .one (h.mono hρ hS hw hs)
 |agg hn h=>exact .agg hn (fun k t ht=>(h k t ht).mono hρ hS hw hs)
 |tup hn _ ih=>exact .tup hn ih
theorem RT.one{ρ:Rho}{w:World}{S:Rds}{t:T}{v:Value}(h:RT ρ w S t v):v.cells= #[v]∧(∀c,v≠ .agg c)∧ ∀c,v≠ .tuple c:=by
 cases h with
 |ri h=>cases h with
  |lit h=>cases v<;>simp_all [GJ,Value.cells]
  |_=>simp[Value.cells]
 |_=>simp[Value.cells]
theorem RS.cells{ρ:Rho}{w:World}{S:Rds}{s:SV}{v:Value}{cs:Row}(h:RS ρ w S s v)(hc:s.cells=some cs):
  cs.length=v.cells.size∧ ∀(k:Nat)(t:T),cs[k]? =some t→ ∃u,v.cells[k]? =some u∧RT ρ w S t u:=by
 cases h with
 |und=>simp[SV.cells]at hc
 |tup=>simp[SV.cells]at hc
 |one h=>
  simp only[SV.cells,Option.some.injEq]at hc;subst hc;obtain⟨h1,-,-⟩:=h.one;rw[h1];refine⟨rfl,fun k t ht=>?_⟩
  cases k with
  |zero=>simp at ht;subst ht;exact⟨v,by simp,h⟩
  |succ k=>simp at ht
 |agg hn h=>
  rename_i ts vs;simp only[SV.cells,Option.some.injEq]at hc;subst hc;refine⟨by simpa [Value.cells]using hn,fun k t ht=>?_⟩
  have hk:k<vs.size:=by rw[←hn];exact(List.getElem?_eq_some_iff.1 ht).1
  have:=h k t ht;simp only[Value.cells];exact⟨vs[k],by simp[hk],by simpa [hk]using this⟩
theorem Addr.add_at{a:Addr}(h:a.spot=none)(n:Nat):a.add n=⟨a.block,a.off+n,none⟩:=by
 obtain⟨b,o,s⟩:=a;simp only at h;subst h;unfold Addr.add;split
 ·simp_all
 ·rfl
theorem GL{ρ:Rho}{w:World}{S:Rds}{hp:List Blk}{t:T}{v:Value}{cs:Row}(h:RT ρ w S t v)(hh:Hp ρ w S hp)(hc:mO hp t=some cs):
  ∃b o,v= .pointer (some ⟨b,o,none⟩)∧ ∀(k:Nat)(t:T),cs[k]? =some t→ ∃u,w.cell? ⟨b,o+k,none⟩=some u∧RT ρ w S t u:=by
 cases h with
 |ri h=>cases h<;>simp[mO]at hc
 |nil=>simp[mO]at hc
 |sl=>simp[mO]at hc
 |clo=>simp[mO]at hc
 |ip hb hg h=>
  rename_i cells b o p g;simp only[mO,Option.some.injEq]at hc;subst hc;exact⟨b,o,rfl,fun k t ht=>⟨_,hg k t ht, .ri (h k t ht)⟩⟩
 |ptr hl=>
  rename_i id row off L;simp only[mO]at hc;cases hx:hp[id]? with
  |none=>simp[hx]at hc
  |some x=>
   have hb:=hh.br id x hx;cases x with
   |dead=>simp[hx]at hc
   |box cells=>
    simp only[hx]at hc;split at hc
    ·rename_i h0;subst h0;simp only[Option.some.injEq]at hc;subst hc;obtain⟨M,hM,-,hr⟩:=hb;rw[hl]at hM;obtain rfl:L=M:=by simpa using hM
     refine⟨L.blk,L.base+0*L.sz+off,rfl,fun k t ht=>?_⟩
     have:=hr.cell 0 (off+k) t (by simpa [List.getElem?_drop]using ht)
     obtain⟨u,hu,hr⟩:=this;exact⟨u,by rw[←hu,Nat.add_assoc],hr⟩
    ·simp at hc
   |lst sz rows=>
    simp only[hx]at hc;rcases hb with⟨-,he⟩|⟨M,hM,-,-,-,hr,-⟩
    ·simp[he]at hc
    rw[hl]at hM;obtain rfl:L=M:=by simpa using hM
    cases hrow:rows[row]? with
    |none=>simp[hrow]at hc
    |some r=>
     simp only[hrow,Option.map_some,Option.some.injEq]at hc;subst hc;refine⟨L.blk,L.base+row*L.sz+off,rfl,fun k t ht=>?_⟩
     have:=hr.cell row (off+k) t (by simpa [hrow,List.getElem?_drop]using ht)
     obtain⟨u,hu,hr⟩:=this;exact⟨u,by rw[←hu,Nat.add_assoc],hr⟩
theorem SV.of_sound{ρ:Rho}{w:World}{S:Rds}{cs:Row}{n:Option Nat}{s:SV}{g:Nat→Value}(ho:SV.of n cs=some s)
  (h: ∀(k:Nat)(t:T),cs[k]? =some t→RT ρ w S t (g k)):
  match n with
  |none=>RS ρ w S s (g 0)
  |some n=>n≤cs.length∧RS ρ w S s (.agg ((Array.range n).map g)):=by
 cases n with
 |none=>
  cases cs with
  |nil=>simp[SV.of]at ho
  |cons t r=>
   simp only[SV.of,Option.some.injEq]at ho;subst ho;exact .one (h 0 t rfl)
 |some n=>
  simp only[SV.of]at ho;split at ho
  ·rename_i hn;simp only[Option.some.injEq]at ho;subst ho;refine⟨hn, .agg (by simp[Nat.min_eq_left hn]) fun k t ht=>?_⟩
   have hk:k<n:=by
    have:=(List.getElem?_eq_some_iff.1 ht).1;simp at this;omega
   have:cs[k]? =some t:=by rw[List.getElem?_take_of_lt hk]at ht;exact ht
   simpa [hk]using h k t this
  ·simp at ho
end Go.Zq

namespace Go.Zq
open Go
section
variable{P:Program}{w:World}
theorem JN{b o:Nat}{g:Nat→Value}: ∀(n i:Nat)(acc:Array Value),(∀k,i≤k→k<i+n→w.cell? ⟨b,o+k,none⟩=some (g k))→
  (loadCellsFrom ⟨b,o,none⟩ i n acc).run P w= .ok (acc++((Array.range n).map fun k=>g (i+k))) w:=by
 intro n
 induction n with
 |zero=>intro i acc _;simp[loadCellsFrom]
 |succ n ih=>
  intro i acc h;have h0:w.cell? ((⟨b,o,none⟩:Addr).add i)=some (g i):=by
   rw[Addr.add_at rfl];exact h i (Nat.le_refl _) (by omega)
  simp only[loadCellsFrom,Sem.run_bind,run_load,h0,Result.andThen_ok];rw[ih (i+1) _ fun k hk hk'=>h k (by omega) (by omega)]
  congr 1
  apply Array.toList_inj.1;simp only[Array.toList_append,Array.toList_push,Array.toList_map,Array.toList_range,List.append_assoc,List.range_succ_eq_map,List.map_cons,List.map_map];simp[Function.comp_def,Nat.add_assoc,Nat.add_comm 1]
theorem GM{b o n:Nat}{g:Nat→Value}(h: ∀k,k<n→w.cell? ⟨b,o+k,none⟩=some (g k)):
  (loadCells ⟨b,o,none⟩ n).run P w= .ok ((Array.range n).map g) w:=by
 unfold loadCells;rw[JN n 0 #[] fun k _ hk=>h k (by omega)]
 simp
theorem HC{w:World}{b:Nat}{c:Array Value}{e:TypeId}{z:Nat×Nat}(h:w.heap[b]? =some (.cells c e z))(o:Nat):w.cell? ⟨b,o,none⟩=c[o]? :=by
 simp[World.cell?,h]
theorem P7{w:World}{b o:Nat}{u:Value}(h:w.cell? ⟨b,o,none⟩=some u): ∃c e z,w.heap[b]? =some (.cells c e z)∧c[o]? =some u:=by
 simp only[World.cell?]at h;cases hx:w.heap[b]? with
 |none=>simp[hx]at h
 |some x=>cases x<;>simp[hx]at h;exact⟨_,_,_,rfl,h⟩
structure Wrote(w w':World)(b off:Nat)(vs:List Value):Prop where
 os:w'.os=w.os
 tape:w'.tape=w.tape
 output:w'.output=w.output
 size:w'.heap.size=w.heap.size
 other: ∀k,k≠b→w'.heap[k]? =w.heap[k]?
 obj: ∀(x:Obj),w.heap[b]? =some x→(∀c e z,x≠Obj.cells c e z)→w'.heap[b]? =some x
 here: ∀c e z,w.heap[b]? =some (.cells c e z)→ ∃c',w'.heap[b]? =some (.cells c' e z)∧c'.size=c.size∧
  ∀o,c'[o]? =if off≤o∧o<off+vs.length∧o<c.size then vs[o-off]? else c[o]?
theorem Wrote.refl(w:World)(b off:Nat):Wrote w w b off []:=
 ⟨rfl,rfl,rfl,rfl,fun _ _=>rfl,fun _ h _=>h,fun c e z h=>⟨c,h,rfl,fun o=>by rw[if_neg (by simp;omega)]⟩⟩
theorem WG(w:World)(b off:Nat)(v:Value):Wrote w (w.setCell ⟨b,off,none⟩ v) b off [v]:=by
 refine⟨rfl,rfl,rfl,by simp[World.setCell],fun k hk=>?_,fun x hx hn=>?_,fun c e z h=>?_⟩
 ·simp only[World.setCell,Array.getElem?_modify];rw[if_neg (by omega)]
 ·simp only[World.setCell,Array.getElem?_modify,if_true,hx,Option.map_some]
 ·refine⟨c.setIfInBounds off v,?_,by simp,fun o=>?_⟩
  ·simp[World.setCell,Array.getElem?_modify,h]
  rw[Array.getElem?_setIfInBounds];by_cases ho:off=o
  ·subst ho;by_cases hs:off<c.size<;>simp[hs]
  ·rw[if_neg ho,if_neg (by simp;omega)]
theorem Wrote.trans{w w1 w2:World}{b off:Nat}{v:Value}{vs:List Value}(h:Wrote w w1 b off [v])(k:Wrote w1 w2 b (off+1) vs):Wrote w w2 b off (v::vs):=by
 refine⟨k.os.trans h.os,k.tape.trans h.tape,k.output.trans h.output,k.size.trans h.size,fun i hi=>(k.other i hi).trans (h.other i hi),
  fun x hx hn=>k.obj x (h.obj x hx hn) hn,fun c e z hc=>?_⟩
 obtain⟨c1,h1,hs1,hv1⟩:=h.here c e z hc;obtain⟨c2,h2,hs2,hv2⟩:=k.here c1 e z h1;refine⟨c2,h2,hs2.trans hs1,fun o=>?_⟩
 rw[hv2,hv1,hs1];simp only[List.length_cons,List.length_nil,Nat.zero_add];by_cases h3:off+1≤o∧o<off+1+vs.length∧o<c.size
 ·rw[if_pos h3,if_pos (by omega)]
  obtain⟨j,rfl⟩: ∃j,o=off+1+j:=⟨o-(off+1),by omega⟩
  rw[show off+1+j-(off+1)=j by omega,show off+1+j-off=j+1 by omega,List.getElem?_cons_succ]
 ·rw[if_neg h3];by_cases h4:off≤o∧o<off+1∧o<c.size
  ·rw[if_pos h4,if_pos (by omega)]
   obtain rfl:o=off:=by omega
   simp
  ·rw[if_neg h4,if_neg (by omega)]
theorem Wrote.cell{w w':World}{b off:Nat}{vs:List Value}(h:Wrote w w' b off vs){k o:Nat}{u:Value}(hu:w.cell? ⟨k,o,none⟩=some u)
  (hne:k≠b∨o<off∨off+vs.length≤o):w'.cell? ⟨k,o,none⟩=some u:=by
 obtain⟨c,e,z,hc,hv⟩:=P7 hu;by_cases hk:k=b
 ·subst hk;obtain⟨c',h',-,hv'⟩:=h.here c e z hc;rw[HC h',hv',if_neg (by omega)]
  exact hv
 ·rw[oH (h.other k hk)];exact hu
theorem Wrote.new{w w':World}{b off:Nat}{vs:List Value}(h:Wrote w w' b off vs){c:Array Value}{e:TypeId}{z:Nat×Nat}(hc:w.heap[b]? =some (.cells c e z))
  (hs:off+vs.length≤c.size) {k:Nat} {u:Value} (hu:vs[k]? =some u):w'.cell? ⟨b,off+k,none⟩=some u:=by
 obtain⟨c',h',-,hv⟩:=h.here c e z hc;have hk:k<vs.length:=(List.getElem?_eq_some_iff.1 hu).1;rw[HC h',hv,if_pos (by omega),show off+k-off=k by omega]
 exact hu
theorem Wrote.shape{w w':World}{b off:Nat}{vs:List Value}(h:Wrote w w' b off vs){k:Nat}{e:TypeId}{n:Nat}(hs:w.shape? k=some (e,n)):w'.shape? k=some (e,n):=by
 by_cases hk:k=b
 ·subst hk;simp only[World.shape?]at hs⊢;cases hx:w.heap[k]? with
  |none=>simp[hx]at hs
  |some x=>
   cases x with
   |cells c e' z=>
    obtain⟨c',h',hs',-⟩:=h.here c e' z hx;simp only[hx,Option.some.injEq,Prod.mk.injEq]at hs;simp only[h',Option.some.injEq,Prod.mk.injEq];exact⟨hs.1,hs'.trans hs.2⟩
   |_=>simp[hx]at hs
 ·rw[yA (h.other k hk)];exact hs
theorem nQ{b:Nat}: ∀(vs:List Value)(o i:Nat)(w:World)(c:Array Value)(e:TypeId),w.heap[b]? =some (.cells c e (0,0))→o+i+vs.length≤c.size→
  (∀v∈vs,(∀x,v≠ .agg x)∧ ∀x,v≠ .tuple x)→
  ∃w',(storeCells ⟨b,o,none⟩ vs i).run P w= .ok () w'∧Wrote w w' b (o+i) vs:=by
 intro vs
 induction vs with
 |nil=>intro o i w c e _ _ _;exact⟨w,rfl,Wrote.refl _ _ _⟩
 |cons v vs ih=>
  intro o i w c e hc hn hv;simp only[List.length_cons]at hn;have hw:=WG w b (o+i) v;obtain⟨c1,h1,hs1,-⟩:=hw.here c e (0,0) hc;obtain⟨w',hr,hw'⟩:=ih o (i+1) (w.setCell ⟨b,o+i,none⟩ v) c1 e h1 (by omega) fun u hu=>hv u (List.mem_cons_of_mem _ hu)
  refine⟨w',?_,hw.trans (by rw[Nat.add_assoc];exact hw')⟩
  have hcell:w.cell? ⟨b,o+i,none⟩=some (c[o+i]'(by omega)):=by simp[World.cell?,hc,show o+i<c.size by omega]
  have hfr:w.frozen? ⟨b,o+i,none⟩=false:=by simp[World.frozen?,hc]
  obtain⟨hv1,hv2⟩:=hv v (List.mem_cons_self ..);simp only[storeCells,Sem.run_bind];rw[Addr.add_at rfl];have hst:(Go.store ⟨b,o+i,none⟩ v).run P w= .ok () (w.setCell ⟨b,o+i,none⟩ v):=by
   unfold Go.store;cases v<;>first|exact absurd rfl (hv1 _)|exact absurd rfl (hv2 _)|simp[Sem.run,hcell,hfr]
  rw[hst];exact hr
end
end Go.Zq

namespace Go.Zq
open Go
def Opd.rd:Opd→List Nat
 | .t n=>[n]
 | .c _=>[]
def ord(o:Option Opd):List Nat:=match o with
 |some x=>x.rd
 |none=>[]
def K.rd:K→Option (List Nat)
 | .mv _ x| .ld _ _ x| .nilc _ x| .un _ _ x| .cv _ _ x| .fa _ x _| .fld _ x _ _| .ext _ x _| .len _ x| .lens _ x=>some x.rd
 | .pick _ c x y=>some (c.rd++(x.rd++y.rd))
 | .bin _ _ x y| .bb _ _ x y| .eqs _ _ _ x y| .ia _ _ x y| .ix _ x y| .mm _ _ x y=>some (x.rd++y.rd)
 | .slc _ _ x lo hi| .sls _ x lo hi=>some (x.rd++(ord lo++ord hi))
 | .call _ true _ xs=>some (xs.flatMap fun x=>x.1.rd)
 |_=>none
def K.rdA:K→List Nat
 | .mv _ x| .ld _ _ x| .nilc _ x| .un _ _ x| .cv _ _ x| .fa _ x _| .fld _ x _ _| .ext _ x _| .len _ x| .lens _ x| .box _ x| .clr _ _ x=>x.rd
 | .pick _ c x y=>c.rd++(x.rd++y.rd)
 | .bin _ _ x y| .bb _ _ x y| .eqs _ _ _ x y| .ia _ _ x y| .ix _ x y| .mm _ _ x y| .st _ x y| .app _ _ _ x y| .cpy _ _ x y| .mks _ _ _ x y=>x.rd++y.rd
 | .slc _ _ x lo hi| .sls _ x lo hi=>x.rd++(ord lo++ord hi)
 | .call _ _ _ xs=>xs.flatMap fun x=>x.1.rd
 | .calv _ _ f xs=>f.rd++xs.flatMap fun x=>x.1.rd
 | .alc .. =>[]
 | .bld _ _ ps=>ps.flatMap fun x=>x.2.2.rd
 | .bsl _ _ _ ps=>ps.flatMap fun x=>x.2.rd
 | .mkf _ _ cs=>cs.flatMap fun x=>x.rd
def K.still:K→Bool
 | .mv .. | .pick .. | .nilc .. | .bin .. | .bb .. | .eqs .. | .un .. | .cv .. | .fa .. | .fld .. | .ext .. | .bld .. | .sls .. | .ix .. | .lens .. | .mm .. =>true
 |_=>false
def gsl(g:G):List Nat:=match g.1 with
 |some (s,_)=>[s]
 |none=>[]
def P8(g:G):List Nat:=gsl g++g.2.rdA
def grd(g:G):Option (List Nat):=g.2.rd.map (gsl g++ ·)
def aFQ(x y:G):Bool:=
 (match x.2.dst with|some d=>!(P8 y).contains d|none=>true)&&(match y.2.dst with|some d=>!(P8 x).contains d|none=>true)&&(x.2.dst.isNone||x.2.dst !=y.2.dst)&&
 (x.2.still||y.2.still||((grd x).isSome&&(grd y).isSome))
def after? (ops:Array Oper)(j i:Nat):Bool:=match ops[j]? with
 |some o=>o.after.any fun e=>Region.binds .any e&&e.on==i
 |none=>false
def dep(ops:Array Oper):Nat→Nat→Nat→Bool
 |0,_,_=>false
 |n+1,j,i=>match ops[j]? with
  |some o=>o.after.any fun e=>Region.binds .any e&&(e.on==i||dep ops n e.on i)
  |none=>false
def iX(ops:Array Oper)(rem:List (Nat×G))(j:Nat):Bool:=rem.all fun y=>!after? ops j y.1
def without(rem:List (Nat×G))(j:Nat):List (Nat×G):=rem.filter fun y=>decide (y.1≠j)
def a1E (ops:Array Oper)(rem:List (Nat×G))(x:Nat×G):Bool:=
 iX ops rem x.1&&(without rem x.1).all fun y=>aFQ x.2 y.2||dep ops 40 y.1 x.1
def nS(ops:Array Oper):Nat→List (Nat×G)→List (List G)
 |0,_=>[]
 |n+1,rem=>match rem with
  |[]=>[[]]
  |_::_=>match rem.find? (a1E ops rem)with
   |some x=>(nS ops n (without rem x.1)).map (x.2:: ·)
   |none=>(rem.filter fun x=>iX ops rem x.1).flatMap fun x=>(nS ops n (without rem x.1)).map (x.2:: ·)
def bDT(ops:Array Oper):List Nat→List Nat→Bool
 |_,[]=>true
 |seen,x::r=>
  decide (x∉seen)&&(match ops[x]? with
   |some o=>o.after.all fun e=>!Region.binds .any e||decide (e.on∈seen)
   |none=>false)&&bDT ops (seen++[x]) r
def a1F(ops:Array Oper)(pm:List Nat):Bool:=
 decide (pm.length=ops.size)&&(List.range ops.size).all (fun i=>decide (i∈pm))&&bDT ops [] pm
end Go.Zq

namespace Go.Zq
open Go
def P9(P:Program):Nat→TypeId→Option (List (Option Nat))
 |0,_=>none
 |f+1,t=>
  match P.underlying t with
  |some (.struct fs)=>(fs.toList.mapM fun x=>P9 P f x.type).map List.flatten
  |some (.array n e)=>(P9 P f e).map fun c=>(List.replicate n c).flatten
  |some (.slice e)=>(P.info? e).map fun x=>[some x.size]
  |some _=>some [none]
  |none=>none
def EQ:Option Nat→Value→Option T
 |some n, .slice none 0 0=>some (.nls n)
 |none,v=>if GJ v then some (.lit v)else none
 |_,_=>none
def qX:List (Option Nat)→List Value→Option Row
 |[],[]=>some []
 |c::cs,v::vs=>(EQ c v).bind fun t=>(qX cs vs).bind fun r=>some (t::r)
 |_,_=>none
def iY(P:Program)(t:TypeId):Option Row:=
 (P.info? t).bind fun x=>x.zero.bind fun z=>(P9 P 9 t).bind fun cs=>if z.cells.size=x.size then qX cs z.cells.toList else none
def ZH(P:Program)(t:TypeId):Value→Option SV
 | .agg cs=>(P9 P 9 t).bind fun c=>(qX c cs.toList).bind fun r=>some (.agg r)
 | .func (.func f) fs cs=>if fs= #[]∧cs= #[]then some (.one (.clo f []))else none
 |v=>(P9 P 9 t).bind fun c=>match c with
  |[c]=>(EQ c v).bind fun t=>some (.one t)
  |_=>none
def B6(P:Program)(N:Nat)(t:TypeId):Operand→Option Opd
 | .tmp n=>if n<N then some (.t n)else none
 | .const v=>(ZH P t v).map .c
 | .func f=>some (.c (.one (.clo f [])))
 | .global _=>none
def QA(N:Nat):Operand→Option Opd
 | .tmp n=>if n<N then some (.t n)else none
 | .const (.int k n)=>some (.c (.one (.lit (.int k n))))
 |_=>none
def HD(P:Program)(t:TypeId):Option Bool:=
 match P.underlying t with
 |some (.struct _)|some (.array ..)=>some true
 |some _=>some false
 |none=>none
def oZ(P:Program)(t:TypeId):Option Nat:=(P.info? t).map (·.size)
def ZI(P:Program)(t:TypeId):Option (Option Nat):=
 (HD P t).bind fun x=>if x then(oZ P t).map some else some none
def JO(P:Program)(t:TypeId):Option TypeId:=
 match P.underlying t with
 |some (.slice e)=>some e
 |_=>none
def LW(P:Program)(t:TypeId)(f:Nat):Option Field:=
 match P.underlying t with
 |some (.struct fs)=>fs[f]?
 |_=>none
def CQ(P:Program)(k:TypeId→Option (List Nat)):Nat→List Field→Option (List Nat)
 |_,[]=>some []
 |o,f::fs=>if f.name≠ "_" ∧f.offset=o then
   match P.underlying f.type with
   |some (.int _)=>(CQ P k (o+1) fs).map (0:: ·)
   |some .bool=>(CQ P k (o+1) fs).map (1:: ·)
   |some .string=>(CQ P k (o+1) fs).map (2:: ·)
   |some (.struct _)=>(k f.type).bind fun g=>if oZ P f.type=some g.length∧0<g.length then(CQ P k (o+g.length) fs).map (g++ ·)else none
   |_=>none
  else none
def B7(P:Program):Nat→TypeId→Option (List Nat)
 |0,_=>none
 |f+1,t=>
  match P.underlying t with
  |some (.struct fs)=>if P.stoodInHeld t then none else CQ P (B7 P f) 0 fs.toList
  |_=>none
def zS(P:Program)(N:Nat)(fs:Array Field):List (Nat×Operand)→Option (List (Nat×Nat×Opd))
 |[]=>some []
 |(j,x)::r=>(fs[j]?).bind fun f=>(oZ P f.type).bind fun n=>(B6 P N f.type x).bind fun x=>(zS P N fs r).bind fun r=>some ((f.offset,n,x)::r)
def zT(P:Program)(N:Nat)(e:TypeId):List (Nat×Operand)→Option (List (Nat×Opd))
 |[]=>some []
 |(j,x)::r=>(B6 P N e x).bind fun x=>(zT P N e r).bind fun r=>some ((j,x)::r)
def bL1(P:Program)(t:TypeId):Option Nat:=
 match P.underlying t with
 |some (.pointer e)=>oZ P e
 |some _=>some 0
 |none=>none
def bM7(P:Program)(t:TypeId)(p:Option TypeId):Option Nat:=(bL1 P t).bind fun n=>some (if n=0 then(p.bind (bL1 P)).getD 0 else n)
def a1G(P:Program)(f:FuncId):List TypeId:=match P.funcs[f]? with
 |some fn=>fn.params.toList
 |none=>[]
def tH(P:Program)(N:Nat)(md:Nat→Bool)(ps:List TypeId):Nat→List Operand→List TypeId→Option (List (Opd×Nat×Bool))
 |_,[],[]=>some []
 |k,x::xs,t::ts=>(B6 P N t x).bind fun y=>(bM7 P t ps[k]?).bind fun n=>(tH P N md ps (k+1) xs ts).bind fun r=>some ((y,n,md k)::r)
 |_,_,_=>none
def ER(P:Program)(N:Nat):List Operand→Option (List Opd)
 |[]=>some []
 | .tmp n::r=>if n<N then(ER P N r).bind fun r=>some (.t n::r)else none
 |_::_=>none
def aIR(N:Nat):Option Operand→Option (Option Opd)
 |none=>some none
 |some x=>(QA N x).map some
def QB(N:Nat)(d:Option Nat):Bool:=match d with|some d=>decide (d<N)|none=>true
def need(c:Bool):Option Unit:=if c then some ()else none
def compK(P:Program)(N:Nat)(md:FuncId→Nat→Bool)(o:Oper)(d:Nat):Option K:=
 match o.op with
 | .move x| .assign x=>(B6 P N o.type x).bind fun x=>some (.mv d x)
 | .pick c x y=>(opdB c).bind fun c=>(B6 P N o.type x).bind fun x=>(B6 P N o.type y).bind fun y=>some (.pick d c x y)
 | .alloc e=>(iY P e).bind fun z=>if 0<z.length then some (.alc d z)else none
 | .box e x=>(B6 P N e x).bind fun x=>some (.box d x)
 | .build t ps=>match P.underlying t with
   |some (.struct fs)=>if fs.all (fun f=>(P.info? f.type).isSome)then(iY P t).bind fun z=>(zS P N fs ps.toList).bind fun ps=>some (.bld d z ps)else none
   |_=>none
 | .buildSlice t n ps=>(JO P t).bind fun e=>(iY P e).bind fun z=>(zT P N e ps.toList).bind fun ps=>
   if n*z.length≤2^24∧0<z.length then some (.bsl d n z ps)else none
 | .load t x=>(ZI P t).bind fun n=>(opdP x).bind fun x=>some (.ld d n x)
 | .nilCheck x=>(opdP x).bind fun x=>some (.nilc d x)
 | .binOp op t x y _=>
   match P.underlying t with
   |some (.int _)|some .string=>(B6 P N t x).bind fun x=>(opdI' t y).bind fun y=>some (.bin d op x y)
   |some .bool=>(B6 P N t x).bind fun x=>(B6 P N t y).bind fun y=>match op with
    | .eql=>some (.bb d false x y)
    | .neq=>some (.bb d true x y)
    |_=>none
   |_=>(B7 P 9 t).bind fun gs=>(B6 P N t x).bind fun x=>(B6 P N t y).bind fun y=>match op with
     | .eql=>some (.eqs d false gs x y)
     | .neq=>some (.eqs d true gs x y)
     |_=>none
 | .unOp op t x=>(B6 P N t x).bind fun x=>some (.un d op x)
 | .convert src dst x=>match P.underlying src,P.underlying dst with
   |some (.int _),some (.int k)=>(B6 P N src x).bind fun x=>some (.cv d k x)
   |_,_=>none
 | .makeFunc (.func f) first caps=>if first.size=0 then(ER P N caps.toList).bind fun caps=>some (.mkf d f caps)else none
 | .makeSlice t n c=>(JO P t).bind fun e=>(iY P e).bind fun z=>(P.info? e).bind fun x=>(QA N n).bind fun n=>(QA N c).bind fun c=>
   if 0<z.length then some (.mks d x.bytes z n c)else none
 | .slice t x lo hi none=>match P.underlying t with
   |some (.slice e)=>(oZ P e).bind fun n=>(B6 P N t x).bind fun x=>(aIR N lo).bind fun lo=>(aIR N hi).bind fun hi=>some (.slc d n x lo hi)
   |some .string=>(B6 P N t x).bind fun x=>(aIR N lo).bind fun lo=>(aIR N hi).bind fun hi=>some (.sls d x lo hi)
   |_=>none
 | .fieldAddr t x f=>(LW P t f).bind fun f=>(oZ P f.type).bind fun n=>if 0<n then(opdP x).bind fun x=>some (.fa d x f.offset)else none
 | .field t x f=>(LW P t f).bind fun f=>(ZI P f.type).bind fun n=>(B6 P N t x).bind fun x=>some (.fld d x f.offset n)
 | .indexAddr t x j=>(JO P t).bind fun e=>(oZ P e).bind fun n=>(B6 P N t x).bind fun x=>(QA N j).bind fun j=>if 0<n then some (.ia d n x j)else none
 | .index t x j=>match P.underlying t with
   |some .string=>(B6 P N t x).bind fun x=>(QA N j).bind fun j=>some (.ix d x j)
   |_=>none
 | .extract x j=>(opdP x).bind fun x=>some (.ext d x j)
 |_=>none
where
 opdB (x:Operand):Option Opd:=match x with
  | .tmp n=>if n<N then some (.t n)else none
  | .const (.bool c)=>some (.c (.one (B c)))
  |_=>none
 opdP (x:Operand):Option Opd:=match x with
  | .tmp n=>if n<N then some (.t n)else none
  |_=>none
 opdI' (t:TypeId) (y:Operand):Option Opd:=match y with
  | .const (.int k n)=>some (.c (.one (.lit (.int k n))))
  |y=>B6 P N t y
def bWH (dr:Bool)(xs:List (Opd×Nat×Bool)):Bool:=dr&&xs.all fun x=>x.2.1==0&&!x.2.2
def QC(P:Program)(N:Nat)(md:FuncId→Nat→Bool)(dr:Bool)(o:Oper)(c:Call):Option K:=
 match c.callee with
 | .value (.func f)=>(tH P N (md f) (a1G P f) 0 c.args.toList c.argTypes.toList).bind fun xs=>
   match P.funcs[f]? with
   |some fn=>if f<50000∧fn.body.isSome∧fn.name≠ "runtime.NumGoroutine" then some (.call o.dst (bWH (md f 999) xs) (if md f 998=true then f+50000 else f) xs)else none
   |none=>none
 | .value (.tmp n)=>if n<N then(tH P N (fun _=>false) [] 0 c.args.toList c.argTypes.toList).bind fun xs=>some (.calv o.dst false (.t n) xs)else none
 | .builtin .len=>match c.args.toList,c.argTypes.toList,o.dst with
   |[x],[t],some d=>match P.underlying t with
    |some .string=>(B6 P N t x).bind fun x=>some (.lens d x)
    |some (.slice _)=>(B6 P N t x).bind fun x=>some (.len d x)
    |_=>none
   |_,_,_=>none
 | .builtin .append=>match c.args.toList,c.argTypes.toList,o.dst with
   |[x,y],[t,u],some d=>if t=u then(JO P t).bind fun e=>(P.info? e).bind fun i=>(iY P e).bind fun _=>(B6 P N t x).bind fun x=>(B6 P N t y).bind fun y=>
      if 0<i.size then some (.app d i.bytes i.size x y)else none
    else none
   |_,_,_=>none
 | .builtin .copy=>match c.args.toList,c.argTypes.toList,o.dst with
   |[x,y],[t,u],some d=>if t=u then(JO P t).bind fun e=>(oZ P e).bind fun n=>(B6 P N t x).bind fun x=>(B6 P N t y).bind fun y=>
      if 0<n then some (.cpy d n x y)else none
    else none
   |_,_,_=>none
 | .builtin .clear=>match c.args.toList,c.argTypes.toList,o.dst with
   |[x],[t],none=>(JO P t).bind fun e=>(P.info? e).bind fun i=>(iY P e).bind fun z=>(B6 P N t x).bind fun x=>if 0<i.size then some (.clr i.size z x)else none
   |_,_,_=>none
 | .builtin .min=>match c.args.toList,o.dst with
   |[x,y],some d=>(QA N x).bind fun x=>(QA N y).bind fun y=>some (.mm d false x y)
   |_,_=>none
 | .builtin .max=>match c.args.toList,o.dst with
   |[x,y],some d=>(QA N x).bind fun x=>(QA N y).bind fun y=>some (.mm d true x y)
   |_,_=>none
 |_=>none
def GN(P:Program)(N:Nat)(md:FuncId→Nat→Bool)(dr:Bool)(ops:Array Oper)(o:Oper):Option G:=
 if QB N o.dst then
  (match o.guard with
    |none=>some none
    |some (j,w)=>((ops[j]?).bind (·.dst)).bind fun s=>some (some (s,w))).bind fun g=>
  (match o.op,o.dst with
    | .store t x y,none=>(oZ P t).bind fun n=>(match x with
      | .tmp m=>if m<N then some (Opd.t m)else none
      |_=>none).bind fun x=>(B6 P N t y).bind fun y=>some (K.st n x y)
    | .call c,_=>QC P N md dr o c
    |_,some d=>compK P N md o d
    |_,none=>none).bind fun k=>if k.dst=o.dst then some (g,k)else none
 else none
def vT(P:Program)(N:Nat)(md:FuncId→Nat→Bool)(dr:Bool)(ops:Array Oper):List Nat→Option (List G)
 |[]=>some []
 |j::r=>(ops[j]?).bind fun o=>(GN P N md dr ops o).bind fun g=>(vT P N md dr ops r).bind fun r=>some (g::r)
structure Hint where
 lv:Nat→List Nat
 md:FuncId→Nat→Bool
 pm:Nat→List Nat
 kp:Nat→Option (List Nat)
def HE:Code→Nat
 | .region id _ _=>id
 | .seq x _=>HE x
 | .block _ x=>HE x
 | .loop x=>HE x
 | .cond _ x _=>HE x
 |_=>0
def pE(P:Program)(N:Nat)(h:Hint)(drawOk:Array Oper→List Nat→List G→Bool):Code→Option C
 | .skip| .label _=>some .skip
 | .region id ops draw=>if draw then(vT P N h.md true ops (h.pm id)).bind fun l=>if drawOk ops (h.pm id) l then some (.ops l (h.kp id))else
    (h.kp id).bind fun kp=>if a1F ops (h.pm id)then some (.drw (nS ops (ops.size+1) ((h.pm id).zip l)) (kp.filter fun n=>n !=999999) (kp.contains 999999))else none
   else(vT P N h.md false ops (List.range ops.size)).bind fun l=>some (.ops l (h.kp id))
 | .seq x y=>(pE P N h drawOk x).bind fun x=>(pE P N h drawOk y).bind fun y=>some (.seq x y)
 | .cond c x y=>(match c with
    | .tmp n=>if n<N then some (Opd.t n)else none
    | .const (.bool v)=>some (.c (.one (B v)))
    |_=>none).bind fun c=>(pE P N h drawOk x).bind fun x=>(pE P N h drawOk y).bind fun y=>some (.cond c x y)
 | .block id x=>(pE P N h drawOk x).bind fun x=>some (.blk id x)
 | .loop x=>(pE P N h drawOk x).bind fun y=>some (.loop (h.lv (HE x)) y)
 | .exit id=>some (.brk id)
 | .ret=>some .ret
 |_=>none
def JP(P:Program)(N:Nat):List ResultVar→Option (List Rv)
 |[]=>some []
 | .tmp n::r=>if n<N then(JP P N r).bind fun r=>some (.tmp n::r)else none
 | .cell n t::r=>if n<N then(ZI P t).bind fun k=>(JP P N r).bind fun r=>some (.cell n k::r)else none
def QD(P:Program)(h:Hint)(drawOk:Array Oper→List Nat→List G→Bool)(fn:Func)(np:Nat):Option Fn:=
 fn.body.bind fun c=>(pE P fn.ntmps h drawOk c).bind fun c=>(JP P fn.ntmps fn.results.toList).bind fun rs=>
 if np≤fn.ntmps then some ⟨np,rs,c⟩else none
end Go.Zq

namespace Go.Zq
open Go
section
variable{w0:World}{W:Nat→Nat→Prop}{S0:Rds}{ρ0:Rho}{nb N:Nat}{ρ:Rho}{S:Rds}{σ:St}{a:Act}{w:World}
theorem tI(n d:Nat)(v:SV)(r:List (Nat×SV)):bH n ((d,v)::r)=if d=n then some v else bH n r:=rfl
theorem a1H{a:Act}{d:Nat}{u:Value}(hd:d<a.tmps.size)(n:Nat):(a.put (some d) u).tmps.getD n undef=if d=n then u else a.tmps.getD n undef:=by
 simp only[Act.put,Array.getD_eq_getD_getElem?,Array.getElem?_setIfInBounds];by_cases h:d=n
 ·subst h;simp[hd]
 ·simp[h]
theorem Sim.set(h:Sim w0 W S0 ρ0 nb N ρ S σ a w){d:Option Nat}(hd:QB N d=true){v:SV}{u:Value}(hv:RS ρ w S v u):
  Sim w0 W S0 ρ0 nb N ρ S (setD σ d v) (a.put d u) w:=by
 cases d with
 |none=>exact h
 |some d=>
  have hd':d<N:=by simpa [QB]using hd
  refine{h with slots:=fun n x hx=>?_,size:=?_,defers:=h.defers}
  ·simp only[setD,St.set,tI]at hx;rw[a1H (by rw[h.size];exact hd')]
   by_cases e:d=n
   ·subst e;rw[if_pos rfl]at hx⊢;obtain rfl:v=x:=by simpa using hx
    exact⟨hd',hv⟩
   ·rw[if_neg e]at hx⊢;exact h.slots n x hx
  ·simp[Act.put,h.size]
theorem Keep.refl(W:Nat→Nat→Prop)(w:World):Keep W w w:=
 ⟨rfl,rfl,rfl,Nat.le_refl _,fun _ c _ _ h=>⟨c,h,rfl,fun _ _=>rfl⟩,fun _ _ h _=>h⟩
theorem Keep.trans{W:Nat→Nat→Prop}{w w1 w2:World}(h:Keep W w w1)(k:Keep (fun b o=>W b o∨w.heap.size≤b) w1 w2):Keep W w w2:=by
 refine⟨k.os.trans h.os,k.tape.trans h.tape,k.output.trans h.output,Nat.le_trans h.size k.size,fun b c e z hc=>?_,fun b x hx hn=>k.other b x (h.other b x hx hn) hn⟩
 obtain⟨c1,h1,s1,v1⟩:=h.cells b c e z hc;obtain⟨c2,h2,s2,v2⟩:=k.cells b c1 e z h1;refine⟨c2,h2,s2.trans s1,fun o ho=>?_⟩
 have hb:b<w.heap.size:=by
  by_cases hlt:b<w.heap.size
  ·exact hlt
  ·simp[hlt]at hc
 rw[v2 o (by intro hx;rcases hx with hx|hx;exact ho hx;omega),v1 o ho]
theorem Sim.drawn(h:Sim w0 W S0 ρ0 nb N ρ S σ a w){w':World}(hh:w'.heap=w.heap)(ho:w'.os=w.os)(ht:w'.tape=w.tape)(hp:w'.output=w.output):
  Sim w0 W S0 ρ0 nb N ρ S σ a w':=by
 have hsame:aIQ S w w':=fun p b _=>by rw[hh]
 have hshp:Shp ρ w w':=fun i L e n _ hs=>by rw[yA (w:=w) (by rw[hh])];exact hs
 have hcell: ∀b o,w'.cell? ⟨b,o,none⟩=w.cell? ⟨b,o,none⟩:=fun b o=>oH (by rw[hh]) o
 have hrr: ∀L rows,RR ρ w S L rows→RR ρ w' S L rows:=fun L rows r=>
  ⟨by rw[hh];exact r.obj,r.len,fun j k t ht=>by obtain⟨v,hv,hr⟩:=r.cell j k t ht;exact⟨v,by rw[hcell];exact hv,hr.mono (fun _ _ h=>h) (fun _ _ h=>h) hsame hshp⟩⟩
 refine{h with slots:=fun n v hv=>?_,heap:=?_,keep:=?_}
 ·obtain⟨h1,h2⟩:=h.slots n v hv;exact⟨h1,h2.mono (fun _ _ h=>h) (fun _ _ h=>h) hsame hshp⟩
 ·refine{h.heap with br:=fun id x hx=>?_,sb:=fun p b hb=>by rw[hh];exact h.heap.sb p b hb}
  have:=h.heap.br id x hx;cases x with
  |dead=>trivial
  |box cells=>obtain⟨L,h1,h2,h3⟩:=this;exact⟨L,h1,h2,hrr _ _ h3⟩
  |lst sz rows=>
   rcases this with this|⟨L,h1,h2,h3,h4,h5,h6⟩
   ·exact .inl this
   ·exact .inr ⟨L,h1,h2,h3,h4,hrr _ _ h5,h6⟩
 ·exact⟨ho.trans h.keep.os,ht.trans h.keep.tape,hp.trans h.keep.output,by rw[hh];exact h.keep.size,by rw[hh];exact h.keep.cells,by rw[hh];exact h.keep.other⟩
theorem Sim.push(h:Sim w0 W S0 ρ0 nb N ρ S σ a w)(arr:Array Value)(e:TypeId)(x:Blk)(hx:x≠ .dead)(sz:Nat)(wh:Bool)
  (hx':match x with
    | .dead=>False
    | .box cells=>(wh=false∧0<sz)∧cells.length=sz∧sz≤arr.size∧ ∀(k:Nat)(t:T),cells[k]? =some t→ ∃u,arr[k]? =some u∧RT ρ w S t u
    | .lst n rows=>wh=true∧n=sz∧0<sz∧rows.length*sz≤arr.size∧(∀r∈rows,r.length=sz)∧(∀r∈rows,r.all inList=true)∧
      ∀(j k:Nat)(t:T),(rows[j]?).bind (·[k]?)=some t→ ∃u,arr[j*sz+k]? =some u∧RT ρ w S t u):
  Sim w0 W S0 ρ0 nb N (fun j=>if j=σ.hp.length then some ⟨w.heap.size,0,sz,wh⟩else ρ j) S ⟨σ.sl,σ.hp++[x]⟩ a {w with heap:=w.heap.push (.cells arr e)}:=by
 generalize hρ':(fun j=>if j=σ.hp.length then some (⟨w.heap.size,0,sz,wh⟩:Loc)else ρ j)=ρ'
 generalize hw':({w with heap:=w.heap.push (.cells arr e)}:World)=w'
 have hheap:w'.heap=w.heap.push (.cells arr e):=by rw[←hw']
 have old: ∀b,b<w.heap.size→w'.heap[b]? =w.heap[b]? :=fun b hb=>by rw[hheap,Array.getElem?_push,if_neg (by omega)]
 have hnew:w'.heap[w.heap.size]? =some (.cells arr e):=by rw[hheap];simp
 have hlt: ∀j L,ρ j=some L→j<σ.hp.length:=fun j L hj=>by
  by_cases hl:j<σ.hp.length
  ·exact hl
  ·rw[h.heap.fr j (by omega)]at hj;simp at hj
 have hmono: ∀j L,ρ j=some L→ρ' j=some L:=fun j L hj=>by rw[←hρ'];simp only;rw[if_neg (by have:=hlt j L hj;omega)];exact hj
 have hsame:aIQ S w w':=fun p b hb=>old b (h.heap.sb p b hb)
 have shapeLt: ∀b y,w.shape? b=some y→b<w.heap.size:=fun b y hy=>by
  by_cases hl:b<w.heap.size
  ·exact hl
  ·simp[World.shape?,hl]at hy
 have hshp:Shp ρ w w':=fun i L e n _ hs=>by rw[yA (old _ (shapeLt _ _ hs))];exact hs
 have objLt: ∀b y,w.heap[b]? =some y→b<w.heap.size:=fun b y hy=>by
  by_cases hl:b<w.heap.size
  ·exact hl
  ·simp[hl]at hy
 have hrt: ∀t v,RT ρ w S t v→RT ρ' w' S t v:=fun t v ht=>ht.mono hmono (fun _ _ h=>h) hsame hshp
 have hrr: ∀L rows,RR ρ w S L rows→RR ρ' w' S L rows:=fun L rows r=>by
  obtain⟨c,e',hc,hs⟩:=r.obj;refine⟨⟨c,e',by rw[old _ (objLt _ _ hc)];exact hc,hs⟩,r.len,fun j k t ht=>?_⟩
  obtain⟨v,hv,hr⟩:=r.cell j k t ht;exact⟨v,by rw[oH (old _ (objLt _ _ hc))];exact hv,hrt _ _ hr⟩
 have hcellnew: ∀k u,arr[k]? =some u→w'.cell? ⟨w.heap.size,k,none⟩=some u:=fun k u hu=>by simp[World.cell?,hnew,hu]
 have liveOld: ∀j,live (σ.hp++[x]) j→j≠σ.hp.length→live σ.hp j:=fun j ⟨y,hy,hd⟩ hj=>by
  refine⟨y,?_,hd⟩;rw[List.getElem?_append]at hy;split at hy
  ·exact hy
  ·rw[List.getElem?_eq_none (by simp;omega)]at hy;simp at hy
 have locLt: ∀j L,live σ.hp j→ρ j=some L→L.blk<w.heap.size:=fun j L ⟨y,hy,hd⟩ hj=>by
  have:=h.heap.br j y hy;cases y with
  |dead=>exact absurd rfl hd
  |box cells=>
   obtain⟨M,h1,-,h3⟩:=this;obtain rfl:M=L:=by rw[hj]at h1;simpa using h1.symm
   obtain⟨c,e',hc,-⟩:=h3.obj;exact objLt _ _ hc
  |lst n rows=>
   rcases this with⟨h1,-⟩|⟨M,h1,-,-,-,h3,-⟩
   ·rw[hj]at h1;simp at h1
   ·obtain rfl:M=L:=by rw[hj]at h1;simpa using h1.symm
    obtain⟨c,e',hc,-⟩:=h3.obj;exact objLt _ _ hc
 have hself:ρ' σ.hp.length=some ⟨w.heap.size,0,sz,wh⟩:=by rw[←hρ'];simp
 refine{slots:=fun n v hv=>?_,size:=h.size,defers:=h.defers,heap:=?_,keep:=?_,own:=?_,sn:=h.sn,ss:=h.ss,boxes:=fun j hj=>?_,nbl:=by simp;have:=h.nbl;omega}
 ·obtain⟨h1,h2⟩:=h.slots n v hv;exact⟨h1,h2.mono hmono (fun _ _ h=>h) hsame hshp⟩
 ·refine⟨fun id y hy=>?_,?_,?_,fun p b hb=>by rw[hheap];simp;have:=h.heap.sb p b hb;omega,h.heap.st,fun j hj=>?_⟩
  ·rw[List.getElem?_append]at hy;split at hy
   ·have:=h.heap.br id y hy;cases y with
    |dead=>trivial
    |box cells=>obtain⟨L,h1,h2,h3⟩:=this;exact⟨L,hmono _ _ h1,h2,hrr _ _ h3⟩
    |lst n rows=>
     rcases this with⟨h1,h2⟩|⟨L,h1,h2,h3,h4,h5,h6⟩
     ·refine .inl ⟨?_,h2⟩;rw[←hρ'];simp only;rw[if_neg (by omega)];exact h1
     ·exact .inr ⟨L,hmono _ _ h1,h2,h3,h4,hrr _ _ h5,h6⟩
   ·rename_i hge;obtain rfl:id=σ.hp.length:=by
     have:=(List.getElem?_eq_some_iff.1 hy).1;simp at this;omega
    simp at hy;subst hy;cases x with
    |dead=>exact absurd rfl hx
    |box cells=>
     obtain⟨⟨rfl,h0⟩,h2,h3,h4⟩:=hx';refine⟨_,hself,⟨rfl,h0⟩,⟨⟨arr,e,hnew,by simpa using h3⟩,by simpa using h2,fun j k t ht=>?_⟩⟩
     cases j with
     |zero=>
      simp at ht;obtain⟨u,hu,hr⟩:=h4 k t ht;exact⟨u,by simpa using hcellnew k u hu,hrt _ _ hr⟩
     |succ j=>simp at ht
    |lst n rows=>
     obtain⟨rfl,h2,h3,h4,h5,h6,h7⟩:=hx';refine .inr ⟨_,hself,rfl,h2.symm,by omega,⟨⟨arr,e,hnew,by simpa using h4⟩,h5,fun j k t ht=>?_⟩,h6⟩
     obtain⟨u,hu,hr⟩:=h7 j k t ht;exact⟨u,by simpa using hcellnew _ u hu,hrt _ _ hr⟩
  ·intro i j L M b o hij hi hj hL hM hLb hMb;by_cases e1:i=σ.hp.length
   ·subst e1;have hj':=liveOld j hj (fun e=>hij e.symm)
    rw[hself]at hL;obtain rfl:=by simpa using hL
    have hM':ρ j=some M:=by rw[←hρ']at hM;simp only at hM;rwa [if_neg (fun e=>hij e.symm)]at hM
    have:=locLt j M hj' hM';have h1:=hLb.1;have h2:=hMb.1;simp only at h1;omega
   ·have hi':=liveOld i hi e1;have hL':ρ i=some L:=by rw[←hρ']at hL;simp only at hL;rwa [if_neg e1]at hL
    by_cases e2:j=σ.hp.length
    ·subst e2;rw[hself]at hM;obtain rfl:=by simpa using hM
     have:=locLt i L hi' hL';have h1:=hLb.1;have h2:=hMb.1;simp only at h2;omega
    ·have hM':ρ j=some M:=by rw[←hρ']at hM;simp only at hM;rwa [if_neg e2]at hM
     exact h.heap.dj i j L M b o hij hi' (liveOld j hj e2) hL' hM' hLb hMb
  ·intro p b hb j L hj hL;by_cases e1:j=σ.hp.length
   ·subst e1;rw[hself]at hL;obtain rfl:=by simpa using hL
    have:=h.heap.sb p b hb;simp only;omega
   ·have hL':ρ j=some L:=by rw[←hρ']at hL;simp only at hL;rwa [if_neg e1]at hL
    exact h.heap.sd p b hb j L (liveOld j hj e1) hL'
  ·simp only[List.length_append,List.length_cons,List.length_nil]at hj;rw[←hρ'];simp only;rw[if_neg (by omega)]
   exact h.heap.fr j (by omega)
 ·refine h.keep.trans ⟨by rw[←hw'],by rw[←hw'],by rw[←hw'],by rw[hheap];simp,fun b c e' z hc=>⟨c,by rw[old _ (objLt _ _ hc)];exact hc,rfl,fun _ _=>rfl⟩,
   fun b y hy _=>by rw[old _ (objLt _ _ hy)];exact hy⟩
 ·intro i L b o hi hL hb;by_cases e1:i=σ.hp.length
  ·subst e1;rw[hself]at hL;obtain rfl:=by simpa using hL
   right
   have:=h.keep.size;have h1:=hb.1;simp only at h1;omega
  ·have hL':ρ i=some L:=by rw[←hρ']at hL;simp only at hL;rwa [if_neg e1]at hL
   exact h.own i L b o (liveOld i hi e1) hL' hb
 ·rw[←hρ'];simp only;rw[if_neg (by have:=h.nbl;omega)]
  exact h.boxes j hj
end
end Go.Zq

namespace Go.Zq
open Go
section
variable{w0:World}{W:Nat→Nat→Prop}{S0:Rds}{ρ0:Rho}{nb N:Nat}{ρ:Rho}{S:Rds}{σ:St}{a:Act}{w:World}
theorem JQ{hp:List Blk}{id j:Nat}{x:Blk}(h:live (hp.set id x) j)(hne:j≠id):live hp j:=by
 obtain⟨y,hy,hd⟩:=h;rw[List.getElem?_set_ne (by omega)]at hy
 exact⟨y,hy,hd⟩
theorem Hp.kill{hp:List Blk}(h:Hp ρ w S hp)(id:Nat):Hp ρ w S (hp.set id .dead):=by
 have lv: ∀j,live (hp.set id .dead) j→live hp j:=fun j hj=>by
  by_cases e:j=id
  ·subst e;obtain⟨y,hy,hd⟩:=hj;rw[List.getElem?_set]at hy;simp only[if_true]at hy;split at hy
   ·exact absurd (by simpa using hy.symm) hd
   ·simp at hy
  ·exact JQ hj e
 refine⟨fun j y hy=>?_,fun i j L M b o hij hi hj=>h.dj i j L M b o hij (lv i hi) (lv j hj),fun p b hb j L hj=>h.sd p b hb j L (lv j hj),h.sb,h.st,fun j hj=>h.fr j (by simpa using hj)⟩
 by_cases e:j=id
 ·subst e;rw[List.getElem?_set]at hy;simp only[if_true]at hy;split at hy
  ·obtain rfl:Blk.dead=y:=by simpa using hy
   trivial
  ·simp at hy
 ·rw[List.getElem?_set_ne (by omega)]at hy
  exact h.br j y hy
theorem Sim.kill(h:Sim w0 W S0 ρ0 nb N ρ S σ a w)(id:Nat):Sim w0 W S0 ρ0 nb N ρ S ⟨σ.sl,σ.hp.set id .dead⟩ a w:=by
 refine{h with slots:=h.slots,heap:=h.heap.kill id,own:=fun i L b o hi=>h.own i L b o ?_,nbl:=by simpa using h.nbl}
 by_cases e:i=id
 ·subst e;obtain⟨y,hy,hd⟩:=hi;rw[List.getElem?_set]at hy;simp only[if_true]at hy;split at hy
  ·exact absurd (by simpa using hy.symm) hd
  ·simp at hy
 ·exact JQ hi e
theorem Hp.obj{hp:List Blk}(h:Hp ρ w S hp){id:Nat}{L:Loc}(hl:live hp id)(hL:ρ id=some L):
  ∃c e,w.heap[L.blk]? =some (.cells c e (0,0))∧(L.whole=false→L.base+L.sz≤c.size):=by
 obtain⟨x,hx,hd⟩:=hl;have:=h.br id x hx;cases x with
 |dead=>exact absurd rfl hd
 |box cells=>
  obtain⟨M,h1,-,h3⟩:=this;obtain rfl:M=L:=by rw[hL]at h1;simpa using h1.symm
  obtain⟨c,e,hc,hs⟩:=h3.obj;exact⟨c,e,hc,fun _=>by simpa using hs⟩
 |lst n rows=>
  rcases this with⟨h1,-⟩|⟨M,h1,h2,-,-,h3,-⟩
  ·rw[hL]at h1;simp at h1
  ·obtain rfl:M=L:=by rw[hL]at h1;simpa using h1.symm
   obtain⟨c,e,hc,hs⟩:=h3.obj;exact⟨c,e,hc,fun hf=>by rw[h2]at hf;simp at hf⟩
theorem Hp.alone{hp:List Blk}(h:Hp ρ w S hp){id j:Nat}{L M:Loc}(hl:live hp id)(hL:ρ id=some L)(hw:L.whole=true)(hj:live hp j)(hM:ρ j=some M)(hne:j≠id):M.blk≠L.blk:=by
 intro e;obtain⟨y,hy,hd⟩:=hj;have hb:=h.br j y hy;cases y with
 |dead=>exact absurd rfl hd
 |box cells=>
  obtain⟨M',hM',⟨hw',hpos⟩,-⟩:=hb;obtain rfl:M=M':=by rw[hM]at hM';exact Option.some.inj hM'
  exact h.dj j id M L M.blk M.base hne ⟨_,hy,hd⟩ hl hM hL ⟨rfl, .inr ⟨Nat.le_refl _,by omega⟩⟩ ⟨e, .inl hw⟩
 |lst n rows=>
  rcases hb with⟨hn,-⟩|⟨M',hM',hw',-⟩
  ·rw[hM]at hn;simp at hn
  ·obtain rfl:M=M':=by rw[hM]at hM';exact Option.some.inj hM'
   exact h.dj j id M L M.blk 0 hne ⟨_,hy,hd⟩ hl hM hL ⟨rfl, .inl hw'⟩ ⟨e, .inl hw⟩
theorem XE{hp:List Blk}{id j:Nat}(h:live (hp.set id .dead) j):j≠id∧live hp j:=by
 have hne:j≠id:=by
  intro e;subst e;obtain⟨y,hy,hd⟩:=h;rw[List.getElem?_set]at hy;simp only[if_true]at hy;split at hy
  ·exact absurd (by simpa using hy.symm) hd
  ·simp at hy
 exact⟨hne,JQ h hne⟩
theorem Hp.mem{hp:List Blk}(h:Hp ρ w S hp){id:Nat}{L:Loc}(hl:live hp id)(hL:ρ id=some L){w':World}{off:Nat}{vs:List Value}
  (hw:Wrote w w' L.blk off vs):aIQ S w w'∧Shp ρ w w':=
 ⟨fun p b hb=>hw.other b (fun e=>h.sd p b hb id L hl hL e.symm),fun _ _ _ _ _ hs=>hw.shape hs⟩
theorem Hp.rt{hp:List Blk}(h:Hp ρ w S hp){id:Nat}{L:Loc}(hl:live hp id)(hL:ρ id=some L){w':World}{off:Nat}{vs:List Value}
  (hw:Wrote w w' L.blk off vs) {t:T} {v:Value} (ht:RT ρ w S t v):RT ρ w' S t v:=
 ht.mono (fun _ _ h=>h) (fun _ _ h=>h) (h.mem hl hL hw).1 (h.mem hl hL hw).2
theorem Hp.rr{hp:List Blk}(h:Hp ρ w S hp){id j:Nat}{L M:Loc}(hl:live hp id)(hL:ρ id=some L)(hj:live hp j)(hM:ρ j=some M)(hne:j≠id)
  {w':World} {off:Nat} {vs:List Value} (hw:Wrote w w' L.blk off vs) (hr: ∀o,off≤o→o<off+vs.length→L.has L.blk o) {rows:List Row}
  (hin: ∀k r o,rows[k]? =some r→o<r.length→M.has M.blk (M.base+k*M.sz+o)) (r:RR ρ w S M rows):RR ρ w' S M rows:=by
 obtain⟨c,e,hc,hs⟩:=r.obj;refine⟨?_,r.len,fun jj k t ht=>?_⟩
 ·by_cases e1:M.blk=L.blk
  ·rw[e1]at hc⊢;obtain⟨c',h',hs',-⟩:=hw.here c e (0,0) hc;exact⟨c',e,h',by omega⟩
  ·exact⟨c,e,by rw[hw.other _ e1];exact hc,hs⟩
 ·obtain⟨v,hv,hrt⟩:=r.cell jj k t ht;refine⟨v,hw.cell hv ?_,h.rt hl hL hw hrt⟩;by_cases e1:M.blk=L.blk
  ·right
   by_cases e2:M.base+jj*M.sz+k<off∨off+vs.length≤M.base+jj*M.sz+k
   ·exact e2
   ·exfalso;have h1:=hr (M.base+jj*M.sz+k) (by omega) (by omega)
    cases hrow:rows[jj]? with
    |none=>simp[hrow]at ht
    |some row=>
     simp only[hrow,Option.bind_some]at ht;have h2:=hin jj row k hrow (List.getElem?_eq_some_iff.1 ht).1;rw[e1]at h2;exact h.dj id j L M _ _ (by omega) hl hj hL hM h1 (by obtain⟨-,h2⟩:=h2;exact⟨e1.symm,h2⟩)
  ·exact .inl e1
theorem Sim.write(h:Sim w0 W S0 ρ0 nb N ρ S σ a w){id:Nat}{L:Loc}(hl:live σ.hp id)(hL:ρ id=some L){w':World}{off:Nat}{vs:List Value}
  (hw:Wrote w w' L.blk off vs) (hr: ∀o,off≤o→o<off+vs.length→L.has L.blk o) (x:Blk) (hbr:BR ρ w' S id x):
  Sim w0 W S0 ρ0 nb N ρ S ⟨σ.sl,σ.hp.set id x⟩ a w':=by
 obtain⟨hsame,hshp⟩:=h.heap.mem hl hL hw;have lv: ∀j,live (σ.hp.set id x) j→live σ.hp j:=fun j hj=>by
  by_cases e:j=id
  ·subst e;exact hl
  ·exact JQ hj e
 have objLt: ∀b y,w.heap[b]? =some y→b<w.heap.size:=fun b y hy=>by
  by_cases hl:b<w.heap.size
  ·exact hl
  ·simp[hl]at hy
 refine{slots:=fun n v hv=>?_,size:=h.size,defers:=h.defers,heap:=?_,keep:=?_,own:=fun i M b o hi=>h.own i M b o (lv i hi),sn:=h.sn,ss:=h.ss,boxes:=h.boxes,nbl:=by simpa using h.nbl}
 ·obtain⟨h1,h2⟩:=h.slots n v hv;exact⟨h1,h2.mono (fun _ _ h=>h) (fun _ _ h=>h) hsame hshp⟩
 ·refine⟨fun j y hy=>?_,fun i j M M' b o hij hi hj=>h.heap.dj i j M M' b o hij (lv i hi) (lv j hj),fun p b hb j M hj=>h.heap.sd p b hb j M (lv j hj),
   fun p b hb=>by rw[hw.size];exact h.heap.sb p b hb,h.heap.st,fun j hj=>h.heap.fr j (by simpa using hj)⟩
  by_cases e:j=id
  ·subst e;rw[List.getElem?_set]at hy;simp only[if_true]at hy;split at hy
   ·obtain rfl:x=y:=by simpa using hy
    exact hbr
   ·simp at hy
  ·rw[List.getElem?_set_ne (by omega)]at hy
   have:=h.heap.br j y hy;cases y with
   |dead=>trivial
   |box cells=>
    obtain⟨M,h1,h2,h3⟩:=this;refine⟨M,h1,h2,h.heap.rr hl hL ⟨_,hy,by simp⟩ h1 e hw hr (fun k r o hk ho=>⟨rfl, .inr ?_⟩) h3⟩
    have hk0:k=0:=by
     have:=(List.getElem?_eq_some_iff.1 hk).1;simp at this;omega
    subst hk0;simp at hk;subst hk;have:=h3.len cells (by simp)
    simp;omega
   |lst n rows=>
    rcases this with this|⟨M,h1,h2,h3,h4,h5,h6⟩
    ·exact .inl this
    ·exact .inr ⟨M,h1,h2,h3,h4,h.heap.rr hl hL ⟨_,hy,by simp⟩ h1 e hw hr (fun k r o hk ho=>⟨rfl, .inl h2⟩) h5,h6⟩
 ·refine h.keep.trans ⟨hw.os,hw.tape,hw.output,by rw[hw.size];exact Nat.le_refl _,fun b c e z hc=>?_,fun b y hy hn=>?_⟩
  ·by_cases e1:b=L.blk
   ·subst e1;obtain⟨c',h',hs,hv⟩:=hw.here c e z hc;refine⟨c',h',hs,fun o ho=>?_⟩
    rw[hv o,if_neg]
    rintro⟨h1,h2,h3⟩
    exact ho (h.own id L L.blk o hl hL (hr o h1 h2))
   ·exact⟨c,by rw[hw.other b e1];exact hc,rfl,fun _ _=>rfl⟩
  ·by_cases e1:b=L.blk
   ·subst e1;exact hw.obj y hy hn
   ·rw[hw.other b e1];exact hy
end
end Go.Zq

namespace Go.Zq
open Go
section
variable{P:Program}{w0:World}{W:Nat→Nat→Prop}{S0:Rds}{ρ0:Rho}{nb N:Nat}{ρ:Rho}{S:Rds}{σ:St}{a:Act}{w:World}
theorem GO{c:Option Nat}{v:Value}{t:T}(h:EQ c v=some t):RI w S t v:=by
 unfold EQ at h;split at h
 ·obtain rfl:=by simpa using h
  exact .nls
 ·split at h
  ·rename_i hl;obtain rfl:=by simpa using h
   exact .lit hl
  ·simp at h
 ·simp at h
theorem JR: ∀{cs:List (Option Nat)}{vs:List Value}{r:Row},qX cs vs=some r→r.length=vs.length∧ ∀(k:Nat)(t:T),r[k]? =some t→ ∃v,vs[k]? =some v∧RI w S t v:=by
 intro cs
 induction cs with
 |nil=>
  intro vs r h;cases vs with
  |nil=>obtain rfl:[]=r:=by simpa [qX]using h
        exact⟨rfl,fun k t ht=>by simp at ht⟩
  |cons=>simp[qX]at h
 |cons c cs ih=>
  intro vs r h;cases vs with
  |nil=>simp[qX]at h
  |cons v vs=>
   simp only[qX,Option.bind_eq_some_iff]at h;obtain⟨t,ht,r',hr',h⟩:=h;obtain rfl:=by simpa using h
   obtain⟨h1,h2⟩:=ih hr';refine⟨by simp[h1],fun k u hu=>?_⟩
   cases k with
   |zero=>obtain rfl:=by simpa using hu
          exact⟨v,rfl,GO ht⟩
   |succ k=>exact h2 k u (by simpa using hu)
theorem WH{t:TypeId}{v:Value}{s:SV}(h:ZH P t v=some s):RS ρ w S s v:=by
 unfold ZH at h;split at h
 ·rename_i cs;simp only[Option.bind_eq_some_iff]at h;obtain⟨c,-,r,hr,h⟩:=h;obtain rfl:=by simpa using h
  obtain⟨h1,h2⟩:=JR (w:=w) (S:=S) hr;refine .agg (by simpa using h1) fun k t ht=>?_
  obtain⟨u,hu,hru⟩:=h2 k t ht;have:cs.getD k undef=u:=by
   have:=hu;simp only[Array.getElem?_toList]at this;simp[Array.getD_eq_getD_getElem?,this]
  rw[this];exact .ri hru
 ·split at h
  ·rename_i hh;obtain⟨rfl,rfl⟩:=hh;obtain rfl:=by simpa using h
   exact .one (.clo rfl (fun k t ht=>by simp at ht))
  ·simp at h
 ·simp only[Option.bind_eq_some_iff]at h;obtain⟨c,-,h⟩:=h;split at h
  ·simp only[Option.bind_eq_some_iff]at h;obtain⟨t,ht,h⟩:=h;obtain rfl:=by simpa using h
   exact .one (.ri (GO ht))
  ·simp at h
theorem nT(h:Sim w0 W S0 ρ0 nb N ρ S σ a w){n:Nat}{v:SV}(he:σ.ev (.t n)=some v):RS ρ w S v (a.eval (.tmp n)):=(h.slots n v he).2
theorem dY(h:Sim w0 W S0 ρ0 nb N ρ S σ a w){t:TypeId}{x:Operand}{y:Opd}{v:SV}(ho:B6 P N t x=some y)(he:σ.ev y=some v):RS ρ w S v (a.eval x):=by
 cases x with
 |tmp n=>
  simp only[B6]at ho;split at ho
  ·obtain rfl:=by simpa using ho
   exact nT h he
  ·simp at ho
 |const c=>
  simp only[B6,Option.map_eq_some_iff]at ho;obtain⟨s,hs,rfl⟩:=ho;obtain rfl:s=v:=by simpa [St.ev]using he
  exact WH hs
 |func f=>
  simp only[B6,Option.some.injEq]at ho;subst ho;obtain rfl:=by simpa [St.ev]using he
  exact .one (.clo rfl (fun k t ht=>by simp at ht))
 |global g=>simp[B6]at ho
theorem oI(h:Sim w0 W S0 ρ0 nb N ρ S σ a w){x:Operand}{y:Opd}{v:SV}(ho:QA N x=some y)(he:σ.ev y=some v):RS ρ w S v (a.eval x):=by
 unfold QA at ho;split at ho
 ·split at ho
  ·obtain rfl:=by simpa using ho
   exact nT h he
  ·simp at ho
 ·obtain rfl:=by simpa using ho
  obtain rfl:=by simpa [St.ev]using he
  exact .one (.ri (.lit rfl))
 ·simp at ho
theorem iG{s:SV}{v:Value}{x:IntKind×Int}(h:RS ρ w S s v)(hx:vP s=some x):v= .int x.1 x.2:=by
 unfold vP at hx;split at hx
 ·obtain rfl:=by simpa using hx
  cases h with
  |one h=>cases h with
   |ri h=>cases h;rfl
 ·simp at hx
theorem lF{s:SV}{v:Value}{x:Bool}(h:RS ρ w S s v)(hx:asBool s=some x):v= .bool x:=by
 unfold asBool at hx;split at hx
 ·obtain rfl:=by simpa using hx
  cases h with
  |one h=>cases h with
   |ri h=>cases h;rfl
 ·simp at hx
theorem qE{s:SV}{v:Value}{x:Value}(h:RS ρ w S s v)(hx:GK s=some x):v=x∧GJ x=true:=by
 unfold GK at hx;split at hx
 ·obtain rfl:=by simpa using hx
  cases h with
  |one h=>cases h with
   |ri h=>cases h with
    |lit h=>exact⟨rfl,h⟩
 ·simp at hx
theorem fT{s:SV}{v:Value}{t:T}(h:RS ρ w S s v)(hx:i6 s=some t):RT ρ w S t v:=by
 unfold i6 at hx;split at hx
 ·obtain rfl:=by simpa using hx
  cases h with
  |one h=>exact h
 ·simp at hx
theorem RT.inList{t:T}{v:Value}(h:RT ρ w S t v)(hi:inList t=true):RI w S t v:=by
 cases h with
 |ri h=>exact h
 |_=>simp[Zq.inList]at hi
end
end Go.Zq

namespace Go.Zq
open Go
section
variable{P:Program}{w0:World}{W:Nat→Nat→Prop}{S0:Rds}{ρ0:Rho}{nb N:Nat}{ρ:Rho}{S:Rds}{σ:St}{a:Act}{w:World}
theorem QE{t:TypeId}{x:TypeInfo}(h:P.info? t=some x)(w:World):(typeInfo t).run P w= .ok x w:=by
 simp[typeInfo,h]
theorem vU{t:TypeId}{n:Nat}(h:oZ P t=some n)(w:World):(sizeOf t).run P w= .ok n w:=by
 simp only[oZ,Option.map_eq_some_iff]at h;obtain⟨x,hx,rfl⟩:=h;simp[sizeOf,QE hx]
theorem OC{t:TypeId}{x:TypeInfo}{z:Value}(h:P.info? t=some x)(hz:x.zero=some z)(w:World):(zeroValue t).run P w= .ok z w:=by
 simp[zeroValue,QE h,hz]
theorem ES{t:TypeId}{c:Bool}(h:HD P t=some c)(w:World):(isAgg t).run P w= .ok c w:=by
 unfold HD at h;split at h<;>simp_all [isAgg,run_underlying]
 all_goals (rename_i hd hd';cases hx:P.underlying t with
  |none=>simp_all
  |some d=>cases d<;>simp_all [run_underlying])
def lY(P:Program)(w0:World)(W:Nat→Nat→Prop)(S0:Rds)(ρ0:Rho)(nb N:Nat)(σ:St)(a:Act)(w:World)(o:Oper)(r:SV)(hp':List Blk):Prop:=
 ∃u w' ρ' S',(execOp a.eval o).run P w= .ok (.value u) w'∧Sim w0 W S0 ρ0 nb N ρ' S' ⟨σ.sl,hp'⟩ a w'∧RS ρ' w' S' r u
theorem eG(h:Sim w0 W S0 ρ0 nb N ρ S σ a w){o:Oper}{r:SV}{u:Value}(hr:(execOp a.eval o).run P w= .ok (.value u) w)(hv:RS ρ w S r u):
  lY P w0 W S0 ρ0 nb N σ a w o r σ.hp:=⟨u,w,ρ,S,hr,h,hv⟩
theorem aQA(h:Sim w0 W S0 ρ0 nb N ρ S σ a w){o:Oper}{x:Operand}(ho:o.op= .move x∨o.op= .assign x){r:SV}(hv:RS ρ w S r (a.eval x)):
  lY P w0 W S0 ρ0 nb N σ a w o r σ.hp:=
 eG h (by rcases ho with ho|ho<;>simp[execOp,ho]) hv
theorem XF(h:Sim w0 W S0 ρ0 nb N ρ S σ a w){o:Oper}{c x y:Operand}(ho:o.op= .pick c x y){cb:Bool}(hc:a.eval c= .bool cb){r:SV}(hv:RS ρ w S r (a.eval (if cb=true then x else y))):
  lY P w0 W S0 ρ0 nb N σ a w o r σ.hp:=
 eG h (u:=a.eval (if cb=true then x else y)) (by simp only[execOp,ho,hc,Go.asBool];cases cb<;>simp) hv
theorem JS{cs:List (Option Nat)}{arr:Array Value}{r:Row}(h:qX cs arr.toList=some r):r.length=arr.size∧ ∀(k:Nat)(t:T),r[k]? =some t→ ∃u,arr[k]? =some u∧RT ρ w S t u:=by
 obtain⟨h1,h2⟩:=JR (w:=w) (S:=S) h;refine⟨by simpa using h1,fun k t ht=>?_⟩
 obtain⟨u,hu,hr⟩:=h2 k t ht;exact⟨u,by simpa using hu, .ri hr⟩
theorem jU{t:TypeId}{z:Row}(h:iY P t=some z): ∃x zv,P.info? t=some x∧x.zero=some zv∧zv.cells.size=x.size∧z.length=x.size∧
  ∀{ρ:Rho}{w:World}{S:Rds},∀(k:Nat)(t:T),z[k]? =some t→ ∃u,zv.cells[k]? =some u∧RT ρ w S t u:=by
 unfold iY at h;simp only[Option.bind_eq_some_iff]at h;obtain⟨x,hx,zv,hz,cs,-,h⟩:=h;split at h
 ·rename_i hs;have:=JS (ρ:=fun _=>none) (w:=default) (S:=fun _ _=>False) h
  exact⟨x,zv,hx,hz,hs,by rw[this.1,hs],fun{ρ} {w} {S}=>(JS (ρ:=ρ) (w:=w) (S:=S) h).2⟩
 ·simp at h
theorem a1I(h:Sim w0 W S0 ρ0 nb N ρ S σ a w){o:Oper}{e:TypeId}(ho:o.op= .alloc e){z:Row}(hz:iY P e=some z)(hpos:0<z.length):
  lY P w0 W S0 ρ0 nb N σ a w o (.one (.ptr σ.hp.length 0 0)) (σ.hp++[.box z]):=by
 obtain⟨x,zv,h1,h2,h3,h4,h5⟩:=jU hz;refine⟨.pointer (some ⟨w.heap.size,0,none⟩),_,_,S,?_,h.push zv.cells e (.box z) (by simp) z.length false ⟨⟨rfl,hpos⟩,rfl,by omega,h5⟩, .one ?_⟩
 ·simp[execOp,ho,Instr.alloc,OC h1 h2,newVar,newRow]
 ·have:=RT.ptr (ρ:=fun j=>if j=σ.hp.length then some (⟨w.heap.size,0,z.length,false⟩:Loc)else ρ j) (w:={w with heap:=w.heap.push (.cells zv.cells e)}) (S:=S) (id:=σ.hp.length) (row:=0) (off:=0) (L:=⟨w.heap.size,0,z.length,false⟩) (by simp)
  simpa using this
theorem a1J(h:Sim w0 W S0 ρ0 nb N ρ S σ a w){o:Oper}{e:TypeId}{x:Operand}(ho:o.op= .box e x){v:SV}(hv:RS ρ w S v (a.eval x)){cs:Row}(hc:v.cells=some cs)(hpos:0<cs.length):
  lY P w0 W S0 ρ0 nb N σ a w o (.one (.ptr σ.hp.length 0 0)) (σ.hp++[.box cs]):=by
 obtain⟨h1,h2⟩:=hv.cells hc;refine⟨.pointer (some ⟨w.heap.size,0,none⟩),_,_,S,?_,h.push (a.eval x).cells e (.box cs) (by simp) cs.length false ⟨⟨rfl,hpos⟩,rfl,by omega,h2⟩, .one ?_⟩
 ·simp[execOp,ho,Instr.box,newVar,newRow]
 ·have:=RT.ptr (ρ:=fun j=>if j=σ.hp.length then some (⟨w.heap.size,0,cs.length,false⟩:Loc)else ρ j) (w:={w with heap:=w.heap.push (.cells (a.eval x).cells e)}) (S:=S) (id:=σ.hp.length) (row:=0) (off:=0) (L:=⟨w.heap.size,0,cs.length,false⟩) (by simp)
  simpa using this
theorem XG{t:TypeId}{n:Option Nat}(h:ZI P t=some n): ∃c,HD P t=some c∧(c=true→ ∃k,oZ P t=some k∧n=some k)∧(c=false→n=none):=by
 unfold ZI at h;simp only[Option.bind_eq_some_iff]at h;obtain⟨c,hc,h⟩:=h;refine⟨c,hc,fun e=>?_,fun e=>?_⟩
 ·subst e;simp only[if_true,Option.map_eq_some_iff]at h;obtain⟨k,hk,rfl⟩:=h;exact⟨k,hk,rfl⟩
 ·subst e;simpa using h.symm
theorem OD{t:TypeId}{n:Option Nat}(hn:ZI P t=some n){b o:Nat}{cs:Row}{s:SV}(hs:SV.of n cs=some s)
  (hcell: ∀(k:Nat)(t:T),cs[k]? =some t→ ∃u,w.cell? ⟨b,o+k,none⟩=some u∧RT ρ w S t u):
  ∃u,(loadVar t ⟨b,o,none⟩).run P w= .ok u w∧RS ρ w S s u:=by
 obtain⟨c,hc,hct,hcf⟩:=XG hn
 let g:Nat→Value:=fun k=>(w.cell? ⟨b,o+k,none⟩).getD undef
 have hg: ∀(k:Nat)(t:T),cs[k]? =some t→w.cell? ⟨b,o+k,none⟩=some (g k)∧RT ρ w S t (g k):=fun k t ht=>by
  obtain⟨u,hu,hr⟩:=hcell k t ht;have:g k=u:=by simp only[g];rw[hu];rfl
  rw[this];exact⟨hu,hr⟩
 have hso:=SV.of_sound hs (fun k t ht=>(hg k t ht).2)
 cases c with
 |true=>
  obtain⟨k,hk,rfl⟩:=hct rfl;obtain⟨hle,hso⟩:=hso;refine⟨_,?_,hso⟩;simp only[loadVar,Sem.run_bind,ES hc,Result.andThen_ok,if_true,vU hk];rw[GM (g:=g) fun j hj=>(hg j cs[j] (by simp[show j<cs.length by omega])).1]
  simp
 |false=>
  obtain rfl:=hcf rfl;refine⟨_,?_,hso⟩;simp only[loadVar,Sem.run_bind,ES hc,Result.andThen_ok,Bool.false_eq_true,if_false];cases cs with
  |nil=>simp[SV.of]at hs
  |cons t r=>
   have:=(hg 0 t rfl).1;simp only[Nat.add_zero]at this;simp[this]
theorem bDU(h:Sim w0 W S0 ρ0 nb N ρ S σ a w){o:Oper}{t:TypeId}{x:Operand}(ho:o.op= .load t x){n:Option Nat}(hn:ZI P t=some n){tx:T}(hx:RT ρ w S tx (a.eval x))
  {cs:Row} (hc:mO σ.hp tx=some cs) {s:SV} (hs:SV.of n cs=some s):lY P w0 W S0 ρ0 nb N σ a w o s σ.hp:=by
 obtain⟨b,off,hv,hcell⟩:=GL hx h.heap hc;obtain⟨u,hu,hr⟩:=OD hn hs hcell;refine eG h ?_ hr;simp[execOp,ho,Instr.loadAt,Instr.sureAddr,hv,hu]
theorem XH(h:Sim w0 W S0 ρ0 nb N ρ S σ a w){o:Oper}{x:Operand}(ho:o.op= .nilCheck x){s:SV}(hx:RS ρ w S s (a.eval x))(hs:(∃i r f,s= .one (.ptr i r f))∨ ∃c,s= .one (.ip c)):
  lY P w0 W S0 ρ0 nb N σ a w o s σ.hp:=by
 refine eG h ?_ hx;have: ∃ad,a.eval x= .pointer (some ad):=by
  generalize a.eval x=v at hx⊢;rcases hs with⟨i,r,f,rfl⟩|⟨c,rfl⟩
  ·cases hx with
   |one h=>cases h with
    |ri h=>cases h
    |ptr=>exact⟨_,rfl⟩
  ·cases hx with
   |one h=>cases h with
    |ri h=>cases h
    |ip=>exact⟨_,rfl⟩
 obtain⟨ad,hv⟩:=this;simp[execOp,ho,hv]
end
end Go.Zq

namespace Go.Zq
open Go
section
variable{P:Program}{w0:World}{W:Nat→Nat→Prop}{S0:Rds}{ρ0:Rho}{nb N:Nat}{ρ:Rho}{S:Rds}{σ:St}{a:Act}{w:World}
theorem bQ{α:Type}{c:Prop} [Decidable c]{x:Option α}{y:α}(h:(if c then x else none)=some y):c∧x=some y:=by
 split at h
 ·exact⟨by assumption,h⟩
 ·simp at h
theorem LX{cs new:Row}{off:Nat}(h:off+new.length≤cs.length):(wr cs off new).length=cs.length:=by
 simp[wr];omega
theorem aIS{cs new:Row}{off:Nat}(h:off+new.length≤cs.length)(k:Nat):
  (wr cs off new)[k]? =if off≤k∧k<off+new.length then new[k-off]? else cs[k]? :=by
 unfold wr;rw[List.getElem?_append,List.getElem?_append];simp only[List.length_take,Nat.min_eq_left (show off≤cs.length by omega)]
 by_cases h1:k<off
 ·rw[if_pos h1,if_neg (by omega),List.getElem?_take_of_lt h1]
 ·rw[if_neg h1];by_cases h2:k-off<new.length
  ·rw[if_pos h2,if_pos (by omega)]
  ·rw[if_neg h2,if_neg (by omega),List.getElem?_drop]
   congr 1
   omega
theorem bM8{j k sz row off n:Nat}(hj:j≠row)(hk:k<sz)(ho:off+n≤sz)(base:Nat):base+j*sz+k<base+row*sz+off∨base+row*sz+off+n≤base+j*sz+k:=by
 rcases Nat.lt_or_gt_of_ne hj with h|h
 ·left
  have:=Nat.mul_le_mul_right sz (show j+1≤row by omega)
  rw[Nat.add_mul]at this;omega
 ·right
  have:=Nat.mul_le_mul_right sz (show row+1≤j by omega)
  rw[Nat.add_mul]at this;omega
theorem RR.wr{L:Loc}{rows:List Row}(hr:RR ρ w S L rows){row off:Nat}{r:Row}(hrow:rows[row]? =some r){new:Row}(hle:off+new.length≤r.length){w':World}{vs:List Value}
  (hw:Wrote w w' L.blk (L.base+row*L.sz+off) vs) (hvs:vs.length=new.length) (hnew: ∀(k:Nat)(t:T),new[k]? =some t→ ∃u,vs[k]? =some u∧RT ρ w S t u)
  (hmono: ∀t v,RT ρ w S t v→RT ρ w' S t v):RR ρ w' S L (rows.set row (Zq.wr r off new)):=by
 obtain⟨c,e,hc,hs⟩:=hr.obj;have hlt:row<rows.length:=(List.getElem?_eq_some_iff.1 hrow).1;have hrl:r.length=L.sz:=hr.len r (List.mem_of_getElem? hrow);obtain⟨c',hc',hs',-⟩:=hw.here c e (0,0) hc;refine⟨⟨c',e,hc',by rw[hs'];simpa using hs⟩,fun x hx=>?_,fun j k t ht=>?_⟩
 ·rcases List.mem_or_eq_of_mem_set hx with hx|hx
  ·exact hr.len x hx
  ·rw[hx,LX hle,hrl]
 ·rw[List.getElem?_set]at ht;by_cases e1:row=j
  ·subst e1;rw[if_pos rfl,if_pos hlt]at ht;simp only[Option.bind_some]at ht;rw[aIS hle]at ht;split at ht
   ·rename_i hk;obtain⟨u,hu,hru⟩:=hnew _ t ht;refine⟨u,?_,hmono _ _ hru⟩;have hb:L.base+row*L.sz+off+vs.length≤c.size:=by
     have:=Nat.mul_le_mul_right L.sz (show row+1≤rows.length by omega)
     rw[Nat.add_mul]at this;omega
    have:=hw.new hc hb hu;rw[show L.base+row*L.sz+k=L.base+row*L.sz+off+(k-off) by omega]
    exact this
   ·rename_i hk;obtain⟨u,hu,hru⟩:=hr.cell row k t (by simp[hrow,ht])
    exact⟨u,hw.cell hu (.inr (by omega)),hmono _ _ hru⟩
  ·rw[if_neg e1]at ht;obtain⟨u,hu,hru⟩:=hr.cell j k t ht;refine⟨u,hw.cell hu (.inr ?_),hmono _ _ hru⟩;have hk:k<L.sz:=by
    cases hx:rows[j]? with
    |none=>simp[hx]at ht
    |some x=>
     simp only[hx,Option.bind_some]at ht;have:=hr.len x (List.mem_of_getElem? hx);have:=(List.getElem?_eq_some_iff.1 ht).1;omega
   rw[hvs];exact bM8 (fun e=>e1 e.symm) hk (by omega) L.base
theorem RT.oneCells{vs:List Value}{cs:Row}(hn:cs.length=vs.length)(h: ∀(k:Nat)(t:T),cs[k]? =some t→ ∃u,vs[k]? =some u∧RT ρ w S t u):
  ∀v∈vs,(∀x,v≠ .agg x)∧ ∀x,v≠ .tuple x:=by
 intro v hv;obtain⟨k,hk,rfl⟩:=List.mem_iff_getElem.1 hv;obtain⟨u,hu,hr⟩:=h k cs[k] (by simp)
 obtain rfl:vs[k]=u:=by simpa [hk]using hu
 exact⟨hr.one.2.1,hr.one.2.2⟩
theorem aFR(h:Sim w0 W S0 ρ0 nb N ρ S σ a w){n:Nat}{tx:T}{vx:Value}(hx:RT ρ w S tx vx){cs:Row}{arr:Array Value}(hn:cs.length=arr.size)
  (hcs: ∀(k:Nat)(t:T),cs[k]? =some t→ ∃u,arr[k]? =some u∧RT ρ w S t u) {hp':List Blk} (hst:store σ.hp n tx cs=some hp'):
  cs.length=n∧ ∃ad w',vx= .pointer (some ad)∧(storeCells ad arr.toList).run P w= .ok () w'∧Sim w0 W S0 ρ0 nb N ρ S ⟨σ.sl,hp'⟩ a w':=by
 unfold store at hst;obtain⟨hlen,hst⟩:=bQ hst;refine⟨hlen,?_⟩;have hcs': ∀(k:Nat)(t:T),cs[k]? =some t→ ∃u,arr.toList[k]? =some u∧RT ρ w S t u:=fun k t ht=>by
  obtain⟨u,hu,hr⟩:=hcs k t ht;exact⟨u,by simpa using hu,hr⟩
 have hone:=RT.oneCells (by simpa using hn) hcs'
 cases tx with
 |ptr id row off=>
  cases hx with
  |ri h=>cases h
  |ptr hL=>
  rename_i L;simp only at hst;cases hb:σ.hp[id]? with
  |none=>simp[hb]at hst
  |some x=>
   have hbr:=h.heap.br id x hb;cases x with
   |dead=>simp[hb]at hst
   |box cells=>
    simp only[hb]at hst;obtain⟨hc0,hst1⟩:=bQ hst;obtain rfl:=Option.some.inj hst1;obtain⟨rfl,hle⟩:=hc0;obtain⟨M,hM,hwh,hr⟩:=hbr;obtain rfl:L=M:=by rw[hL]at hM;simpa using hM
    have hlive:live σ.hp id:=⟨_,hb,by simp⟩
    obtain⟨c,e,hc,hs⟩:=hr.obj;have hcl:=hr.len cells (by simp)
    obtain⟨w',hrun,hw⟩:=nQ (P:=P) arr.toList (L.base+0*L.sz+off) 0 w c e hc (by simp at hs⊢;omega) hone
    refine⟨_,w',rfl,hrun,?_⟩;have hbr':=hr.wr (row:=0) (off:=off) (r:=cells) rfl (new:=cs) (by omega) hw (by simpa using hn.symm) hcs' (fun t v ht=>h.heap.rt hlive hL hw ht)
    exact h.write hlive hL hw (fun o h1 h2=>⟨rfl, .inr (by simp at h2⊢;omega)⟩) _ ⟨L,hL,hwh,by simpa using hbr'⟩
   |lst sz rows=>
    simp only[hb]at hst;cases hrow:rows[row]? with
    |none=>simp[hrow]at hst
    |some r=>
     simp only[hrow]at hst;obtain⟨hc0,hst1⟩:=bQ hst;obtain rfl:=Option.some.inj hst1;obtain⟨hle,hin⟩:=hc0;rcases hbr with⟨hnone,-⟩|⟨M,hM,hwh,hsz,hpos,hr,hall⟩
     ·rw[hL]at hnone;simp at hnone
     obtain rfl:L=M:=by rw[hL]at hM;simpa using hM
     have hlive:live σ.hp id:=⟨_,hb,by simp⟩
     obtain⟨c,e,hc,hs⟩:=hr.obj;have hrl:=hr.len r (List.mem_of_getElem? hrow);have hlt:row<rows.length:=(List.getElem?_eq_some_iff.1 hrow).1;have hmul:=Nat.mul_le_mul_right L.sz (show row+1≤rows.length by omega)
     rw[Nat.add_mul]at hmul;obtain⟨w',hrun,hw⟩:=nQ (P:=P) arr.toList (L.base+row*L.sz+off) 0 w c e hc (by simp;omega) hone
     refine⟨_,w',rfl,hrun,?_⟩;have hbr':=hr.wr (off:=off) hrow (new:=cs) (by omega) hw (by simpa using hn.symm) hcs' (fun t v ht=>h.heap.rt hlive hL hw ht)
     refine h.write hlive hL hw (fun o h1 h2=>⟨rfl, .inl hwh⟩) _ (.inr ⟨L,hL,hwh,hsz,hpos,hbr',fun x hx=>?_⟩)
     rcases List.mem_or_eq_of_mem_set hx with hx|hx
     ·exact hall x hx
     ·rw[hx,List.all_eq_true];intro y hy;unfold Zq.wr at hy;have hr':=List.all_eq_true.1 (hall r (List.mem_of_getElem? hrow));simp only[List.mem_append]at hy;rcases hy with hy|hy|hy
      ·exact hr' y (List.mem_of_mem_take hy)
      ·exact List.all_eq_true.1 hin y hy
      ·exact hr' y (List.mem_of_mem_drop hy)
 |_=>simp at hst
theorem a1K(h:Sim w0 W S0 ρ0 nb N ρ S σ a w){o:Oper}{t:TypeId}{x y:Operand}(ho:o.op= .store t x y){n:Nat}(hn:oZ P t=some n){tx:T}(hx:RT ρ w S tx (a.eval x))
  {s:SV} (hy:RS ρ w S s (a.eval y)) {cs:Row} (hc:s.cells=some cs) {hp':List Blk} (hst:store σ.hp n tx cs=some hp'):
  ∃w',(execOp a.eval o).run P w= .ok .skip w'∧Sim w0 W S0 ρ0 nb N ρ S ⟨σ.sl,hp'⟩ a w':=by
 obtain⟨h1,h2⟩:=hy.cells hc;obtain⟨hlen,ad,w',hv,hrun,hs⟩:=aFR (P:=P) h hx h1 h2 hst;refine⟨w',?_,hs⟩;simp only[execOp,ho,Instr.storeAt,hv,Instr.sureAddr,Sem.run_bind,Sem.run_pure,Result.andThen_ok,storeVar,vU hn];rw[if_neg (by omega)]
 simp[hrun]
end
end Go.Zq

namespace Go.Zq
open Option.some renaming inj → qi
open Go
section
variable{P:Program}{w0:World}{W:Nat→Nat→Prop}{S0:Rds}{ρ0:Rho}{nb N:Nat}{ρ:Rho}{S:Rds}{σ:St}{a:Act}{w:World}
theorem RS.lit{v:Value}(h:GJ v=true):RS ρ w S (.one (.lit v)) v:= .one (.ri (.lit h))
theorem RS.int{k:IntKind}{n:Int}:RS ρ w S (.one (.lit (.int k n))) (.int k n):= .lit rfl
theorem RS.bool{x:Bool}:RS ρ w S (.one (B x)) (.bool x):= .lit rfl
theorem aIT{op:BinOp}{k:IntKind}{x y:Int}{r:Value}(hr:LS op k x y=some r):
  (match op with
    | .add| .sub| .mul=>Op.intArith op k x y
    | .quo| .rem=>Op.intDiv op k x y
    | .and| .or| .xor| .andNot=>Op.intBits op k x y
    |_=>Op.intCmp op x y).run P w= .ok r w∧GJ r=true∧op≠ .shl∧op≠ .shr:=by
 cases op<;>simp only[LS,Option.some.injEq]at hr<;>first
  |(subst hr;exact⟨rfl,rfl,by simp,by simp⟩)
  |(split at hr
    ·simp at hr
    ·rename_i h0;obtain rfl:=qi hr;exact⟨by simp[Op.intDiv,h0],rfl,by simp,by simp⟩)
  |simp at hr
theorem a1L{op:BinOp}{t:TypeId}{x y r:Value}(hr:LT op x y=some r):(Go.binOp op t x y).run P w= .ok r w∧GJ r=true:=by
 unfold LT at hr;split at hr
 ·rename_i k x k' y;split at hr
  ·split at hr
   ·simp at hr
   ·rename_i h0;obtain rfl:=qi hr;exact⟨by simp[Go.binOp,Op.shift,h0],rfl⟩
  ·split at hr
   ·simp at hr
   ·rename_i h0;obtain rfl:=qi hr;exact⟨by simp[Go.binOp,Op.shift,h0],rfl⟩
  ·obtain⟨hk,hr1⟩:=bQ hr;subst hk;obtain⟨h1,h2,h3,h4⟩:=aIT (P:=P) (w:=w) hr1;refine⟨?_,h2⟩;cases op<;>first|exact absurd rfl h3|exact absurd rfl h4|simpa [Go.binOp]using h1
 ·rename_i x y;split at hr
  ·obtain⟨h,hr1⟩:=bQ hr;obtain rfl:=qi hr1;exact⟨by simp only[Go.binOp,Op.stringOp];rw[if_neg (by omega)];rfl,rfl⟩
  ·obtain rfl:=qi hr;exact⟨rfl,rfl⟩
  ·obtain rfl:=qi hr;exact⟨rfl,rfl⟩
  ·simp at hr
 ·simp at hr
theorem aIU{op:BinOp}{x y r:Value}(hr:LT op x y=some r):(∃k n k' m,x= .int k n∧y= .int k' m)∨ ∃s t,x= .string s∧y= .string t:=by
 unfold LT at hr;split at hr
 ·exact .inl ⟨_,_,_,_,rfl,rfl⟩
 ·exact .inr ⟨_,_,rfl,rfl⟩
 ·simp at hr
theorem aFS{op:BinOp}{t:TypeId}{x y:Operand}{k k':IntKind}{m n:Int}:(eqGuard op t x y (.int k m) (.int k' n)).run P w= .ok () w:=by
 cases op<;>rfl
theorem ZJ{op:BinOp}{t:TypeId}{x y:Operand}{m n:Bool}:(eqGuard op t x y (.bool m) (.bool n)).run P w= .ok () w:=by
 cases op<;>rfl
theorem QF{op:BinOp}{t:TypeId}{x y:Operand}{m n:ByteArray}:(eqGuard op t x y (.string m) (.string n)).run P w= .ok () w:=by
 cases op<;>rfl
theorem a1M(h:Sim w0 W S0 ρ0 nb N ρ S σ a w){o:Oper}{op:BinOp}{t u:TypeId}{x y:Operand}(ho:o.op= .binOp op t x y u){vx vy r:Value}(hx:a.eval x=vx)(hy:a.eval y=vy)
  (hr:LT op vx vy=some r):lY P w0 W S0 ρ0 nb N σ a w o (.one (.lit r)) σ.hp:=by
 obtain⟨h1,h2⟩:=a1L (P:=P) (w:=w) (t:=t) hr;refine eG h ?_ (.lit h2);have hk:=aIU hr;simp only[execOp,ho,Sem.run_bind,hx,hy];have hg:(eqGuard op t x y vx vy).run P w= .ok () w:=by
  rcases hk with⟨_,_,_,_,rfl,rfl⟩|⟨_,_,rfl,rfl⟩
  ·exact aFS
  ·exact QF
 simp[hg,h1]
theorem bDV(h:Sim w0 W S0 ρ0 nb N ρ S σ a w){o:Oper}{neg:Bool}{t u:TypeId}{x y:Operand}(ho:o.op= .binOp (if neg then .neq else .eql) t x y u)(ht:P.underlying t=some .bool)
  {vx vy:Bool} (hx:a.eval x= .bool vx) (hy:a.eval y= .bool vy):lY P w0 W S0 ρ0 nb N σ a w o (.one (B (if neg then !(vx==vy)else vx==vy))) σ.hp:=by
 refine eG h (u:= .bool (if neg then !(vx==vy)else vx==vy)) ?_ .bool
 simp only[execOp,ho,Sem.run_bind,hx,hy];rw[ZJ];have he:(Op.equal t (.bool vx) (.bool vy)).run P w= .ok (vx==vy) w:=run_equalIn_bool' w 9999 t vx vy ht;cases neg<;>simp[Go.binOp,he]
theorem bDW(h:Sim w0 W S0 ρ0 nb N ρ S σ a w){o:Oper}{op:UnOp}{t:TypeId}{x:Operand}(ho:o.op= .unOp op t x){v r:Value}(hx:a.eval x=v)
  (hr:unT op v=some r):lY P w0 W S0 ρ0 nb N σ a w o (.one (.lit r)) σ.hp:=by
 have:(Op.unary op v).run P w= .ok r w∧GJ r=true:=by
  unfold unT at hr;split at hr
  ·obtain rfl:=qi hr;exact⟨rfl,rfl⟩
  ·obtain rfl:=qi hr;exact⟨rfl,rfl⟩
  ·simp at hr
 refine eG h ?_ (.lit this.2);simp[execOp,ho,hx,this.1]
theorem bDX(h:Sim w0 W S0 ρ0 nb N ρ S σ a w){o:Oper}{src dst:TypeId}{x:Operand}(ho:o.op= .convert src dst x){k k0 k':IntKind}(hs:P.underlying src=some (.int k0))(hd:P.underlying dst=some (.int k))
  {n:Int} (hx:a.eval x= .int k' n):lY P w0 W S0 ρ0 nb N σ a w o (.one (.lit (.int k (k.wrap n)))) σ.hp:=by
 refine eG h ?_ .int;simp[execOp,ho,hx,Go.convert,run_underlying hs,run_underlying hd,Conv.intToInt]
theorem bDY(h:Sim w0 W S0 ρ0 nb N ρ S σ a w){o:Oper}{t:TypeId}{x:Operand}{j:Nat}(ho:o.op= .fieldAddr t x j){f:Field}(hf:LW P t j=some f){n:Nat}(hn:oZ P f.type=some n)(hpos:0<n)
  {s r:SV} (hx:RS ρ w S s (a.eval x)) (hr:ZF f.offset s=some r):lY P w0 W S0 ρ0 nb N σ a w o r σ.hp:=by
 have key: ∃b off,a.eval x= .pointer (some ⟨b,off,none⟩)∧RS ρ w S r (.pointer (some ⟨b,off+f.offset,none⟩)):=by
  generalize a.eval x=v at hx⊢;unfold ZF at hr;split at hr
  ·obtain rfl:=qi hr;cases hx with
   |one h=>cases h with
    |ri h=>cases h
    |ptr hL=>exact⟨_,_,rfl, .one (by rw[Nat.add_assoc];exact RT.ptr hL)⟩
  ·obtain rfl:=qi hr;cases hx with
   |one h=>cases h with
    |ri h=>cases h
    |ip hS hg hc=>
     rename_i cells b o p g;refine⟨b,o,rfl, .one (.ip (g:=fun k=>g (f.offset+k)) hS (fun k t ht=>?_) fun k t ht=>hc _ t (by simpa [List.getElem?_drop]using ht))⟩
     rw[Nat.add_assoc];exact hg _ t (by simpa [List.getElem?_drop]using ht)
  ·simp at hr
 obtain⟨b,off,hv,hres⟩:=key;refine eG h ?_ hres;unfold LW at hf;split at hf
 ·rename_i fs hu;simp only[execOp,ho,hv,Instr.fieldAt,Sem.run_bind,run_underlying hu,Result.andThen_ok,hf];simp only[Instr.sureAddr,Sem.run_pure,Result.andThen_ok,fieldPlace,Sem.run_bind,vU hn,if_neg (show¬n=0 by omega)]
  rw[Addr.add_at rfl]
 ·simp at hf
theorem a1N{t:TypeId}{n:Option Nat}(hn:ZI P t=some n){cs:Row}{vs:Array Value}(hl:cs.length=vs.size)(hcs: ∀(k:Nat)(t:T),cs[k]? =some t→RT ρ w S t (vs.getD k undef)){off:Nat}{r:SV}
  (hr:SV.of n (cs.drop off)=some r): ∃u,(part t vs off).run P w= .ok u w∧RS ρ w S r u:=by
 obtain⟨c,hc,hct,hcf⟩:=XG hn;have hd: ∀(k:Nat)(t:T),(cs.drop off)[k]? =some t→RT ρ w S t (vs.getD (off+k) undef):=fun k t ht=>hcs _ t (by simpa [List.getElem?_drop]using ht)
 have hso:=SV.of_sound hr hd;cases c with
 |true=>
  obtain⟨k,hk,rfl⟩:=hct rfl;obtain⟨hle,hso⟩:=hso;simp only[List.length_drop]at hle;refine⟨_,?_,hso⟩;simp only[part,Sem.run_bind,ES hc,Result.andThen_ok,if_true,vU hk,Sem.run_pure]
  congr 2
  apply Array.ext
  ·simp;omega
  ·intro i h1 h2;simp at h1 h2;simp[Array.getD_eq_getD_getElem?,show off+i<vs.size by omega]
 |false=>
  obtain rfl:=hcf rfl;refine⟨_,?_,hso⟩;simp only[part,Sem.run_bind,ES hc,Result.andThen_ok,Bool.false_eq_true,if_false];have hlt:off<vs.size:=by
   cases hdd:cs.drop off with
   |nil=>simp[hdd,SV.of]at hr
   |cons t r=>
    have:=congrArg List.length hdd;simp at this;omega
  simp[hlt]
theorem a1O(h:Sim w0 W S0 ρ0 nb N ρ S σ a w){o:Oper}{t:TypeId}{x:Operand}{j:Nat}(ho:o.op= .field t x j){f:Field}(hf:LW P t j=some f){n:Option Nat}(hn:ZI P f.type=some n)
  {cs:Row} {r:SV} (hx:RS ρ w S (.agg cs) (a.eval x)) (hr:SV.of n (cs.drop f.offset)=some r):lY P w0 W S0 ρ0 nb N σ a w o r σ.hp:=by
 generalize hv:a.eval x=v at hx;cases hx with
 |agg hl hcs=>
  rename_i vs;obtain⟨u,hu,hres⟩:=a1N hn hl hcs hr;refine eG h ?_ hres;unfold LW at hf;split at hf
  ·rename_i fs hu';simp[execOp,ho,hv,Instr.field,run_underlying hu',hf,asAgg,hu]
  ·simp at hf
theorem a1P(h:Sim w0 W S0 ρ0 nb N ρ S σ a w){o:Oper}{x:Operand}{j:Nat}(ho:o.op= .extract x j){vs:List SV}{r:SV}(hx:RS ρ w S (.tup vs) (a.eval x))(hr:vs[j]? =some r):
  lY P w0 W S0 ρ0 nb N σ a w o r σ.hp:=by
 generalize hv:a.eval x=v at hx;cases hx with
 |tup hl hvs=>
  rename_i us;have hlt:j<us.size:=by rw[←hl];exact(List.getElem?_eq_some_iff.1 hr).1
  refine eG h (u:=us[j]) ?_ (by simpa [Array.getD_eq_getD_getElem?,hlt]using hvs j r hr)
  simp[execOp,ho,hv,Instr.extract,hlt]
end
end Go.Zq

namespace Go.Zq
open Go
section
variable{P:Program}{w0:World}{W:Nat→Nat→Prop}{S0:Rds}{ρ0:Rho}{nb N:Nat}{ρ:Rho}{S:Rds}{σ:St}{a:Act}{w:World}
def Reads(ρ:Rho)(w:World)(S:Rds)(hp:List Blk)(t:T)(sz:Nat)(rows:List Row)(v:Value):Prop:=
 ∃ad cap,v= .slice ad rows.length cap∧rows.length≤cap∧(rows=[]∨ ∃b o,ad=some ⟨b,o,none⟩∧(∀r∈rows,r.length=sz)∧(∀r∈rows,r.all inList=true)∧
  (∀(j k:Nat)(t:T),(rows[j]?).bind (·[k]?)=some t→ ∃u,w.cell? ⟨b,o+j*sz+k,none⟩=some u∧RI w S t u)∧
  (S false b∨ ∃id off len L,t= .sl id off len∧ρ id=some L∧live hp id∧b=L.blk))
theorem hD{rows:List Row}{j k:Nat}{t:T}(h:(rows[j]?).bind (·[k]?)=some t): ∃r,rows[j]? =some r∧r[k]? =some t:=by
 cases hr:rows[j]? with
 |none=>simp[hr]at h
 |some r=>exact⟨r,rfl,by simpa [hr]using h⟩
theorem qY{hp:List Blk}(hh:Hp ρ w S hp){t:T}{v:Value}(h:RT ρ w S t v){rows:List Row}(hr:dI hp t=some rows){sz:Nat}(hz:nJ hp t=some sz):
  Reads ρ w S hp t sz rows v:=by
 cases h with
 |ri h=>
  cases h with
  |lit=>simp[dI]at hr
  |nls=>
   obtain rfl:=by simpa [dI]using hr
   exact⟨none,0,rfl,Nat.le_refl _, .inl rfl⟩
  |nil=>
   obtain rfl:=by simpa [dI]using hr
   exact⟨_,_,rfl,Nat.zero_le _, .inl rfl⟩
  |imm hS hcap hsz hin hg h=>
   rename_i p rows' b off cap sz' g;obtain rfl:=by simpa [dI]using hr
   obtain rfl:=by simpa [nJ]using hz
   refine⟨_,_,rfl,hcap, .inr ⟨b,off,rfl,hsz,hin,fun j k t ht=>⟨_,hg j k t ht,h j k t ht⟩, .inl ?_⟩⟩
   cases p
   ·exact hS
   ·exact hh.st _ hS
 |ptr=>simp[dI]at hr
 |ip=>simp[dI]at hr
 |clo=>simp[dI]at hr
 |nil=>
  rename_i id off;simp only[dI]at hr;cases hb:hp[id]? with
  |none=>simp[hb]at hr
  |some x=>
   cases x with
   |lst n rows'=>
    simp only[hb]at hr;obtain⟨-,hr1⟩:=bQ hr;obtain rfl:=Option.some.inj hr1;exact⟨none,0,by simp,by simp, .inl (by simp)⟩
   |_=>simp[hb]at hr
 |sl hL hc hs ha=>
  rename_i id off len cap ad L e n;simp only[dI]at hr;cases hb:hp[id]? with
  |none=>simp[hb]at hr
  |some x=>
   have hbr:=hh.br id x hb;cases x with
   |lst n' rows'=>
    simp only[hb]at hr;obtain⟨hle,hr1⟩:=bQ hr;obtain rfl:=Option.some.inj hr1;have hn':n'=sz:=by simpa [nJ,hb]using hz
    have hlen:((rows'.drop off).take len).length=len:=by simp;omega
    refine⟨some ad,cap,by rw[hlen],by omega,?_⟩
    rcases hbr with⟨hnone,rfl⟩|⟨M,hM,hwh,hsz,hpos,hrr,hall⟩
    ·left
     simp
    obtain rfl:L=M:=by rw[hL]at hM;simpa using hM
    by_cases h0:len=0
    ·left
     subst h0;simp
    ·right
     rcases ha with ha|⟨rfl,hfit⟩
     ·omega
     refine⟨L.blk,L.base+off*L.sz,rfl,fun r hr=>?_,fun r hr=>?_,fun j k t ht=>?_, .inr ⟨id,off,len,L,rfl,hL,⟨_,hb,by simp⟩,rfl⟩⟩
     ·rw[hrr.len r (List.mem_of_mem_drop (List.mem_of_mem_take hr)),hsz,hn']
     ·exact hall r (List.mem_of_mem_drop (List.mem_of_mem_take hr))
     ·obtain⟨r,hr,hk⟩:=hD ht;have hj:j<len:=by
       have:=(List.getElem?_eq_some_iff.1 hr).1;omega
      rw[List.getElem?_take_of_lt hj,List.getElem?_drop]at hr;obtain⟨u,hu,hru⟩:=hrr.cell (off+j) k t (by simp[hr,hk])
      refine⟨u,?_,hru.inList (List.all_eq_true.1 (hall r (List.mem_of_getElem? hr)) t (List.mem_of_getElem? hk))⟩;rw[←hn',←hsz];rw[show L.base+off*L.sz+j*L.sz+k=L.base+(off+j)*L.sz+k by rw[Nat.add_mul];omega]
      exact hu
   |_=>simp[hb]at hr
theorem QG{hp:List Blk}(hh:Hp ρ w S hp){t:T}{v:Value}(h:RT ρ w S t v){rows:List Row}(hr:dI hp t=some rows): ∃ad cap,v= .slice ad rows.length cap∧rows.length≤cap:=by
 have: ∃sz,nJ hp t=some sz:=by
  cases t with
  |lit v=>simp[dI]at hr
  |ptr=>simp[dI]at hr
  |ip=>simp[dI]at hr
  |clo=>simp[dI]at hr
  |nls n=>exact⟨n,rfl⟩
  |imm p n r=>exact⟨n,rfl⟩
  |sl id off len=>
   simp only[dI]at hr;cases hb:hp[id]? with
   |none=>simp[hb]at hr
   |some x=>cases x with
    |lst n r=>exact⟨n,by simp[nJ,hb]⟩
    |_=>simp[hb]at hr
 obtain⟨sz,hz⟩:=this;obtain⟨ad,cap,hv,hc,-⟩:=qY hh h hr hz;exact⟨ad,cap,hv,hc⟩
theorem a1Q(h:Sim w0 W S0 ρ0 nb N ρ S σ a w){o:Oper}{c:Call}{x:Operand}{t e:TypeId}(ho:o.op= .call c)(hc:c.callee= .builtin .len)(hargs:c.args.toList=[x])(htys:c.argTypes.toList=[t])
  (ht:P.underlying t=some (.slice e)) {tx:T} (hx:RT ρ w S tx (a.eval x)) {rows:List Row} (hn:dI σ.hp tx=some rows):lY P w0 W S0 ρ0 nb N σ a w o (.one (I rows.length)) σ.hp:=by
 have hargs':c.args= #[x]:=Array.toList_inj.1 hargs;have htys':c.argTypes= #[t]:=Array.toList_inj.1 htys;obtain⟨ad,cap,hv,-⟩:=QG h.heap hx hn;refine eG h (u:= .int .i64 rows.length) ?_ .int;simp only[execOp,ho,resolve,hc,hargs',htys',Sem.run_bind,Sem.run_pure,Result.andThen_ok,invoke,builtin];simp[Builtin.len_,run_underlying ht,hv,goInt]
theorem aXU(h:Sim w0 W S0 ρ0 nb N ρ S σ a w){o:Oper}{c:Call}{x:Operand}{t:TypeId}(ho:o.op= .call c)(hc:c.callee= .builtin .len)(hargs:c.args.toList=[x])(htys:c.argTypes.toList=[t])
  (ht:P.underlying t=some .string) {s:ByteArray} (hx:a.eval x= .string s):lY P w0 W S0 ρ0 nb N σ a w o (.one (I s.size)) σ.hp:=by
 have hargs':c.args= #[x]:=Array.toList_inj.1 hargs;have htys':c.argTypes= #[t]:=Array.toList_inj.1 htys;refine eG h (u:= .int .i64 s.size) ?_ .int;simp only[execOp,ho,resolve,hc,hargs',htys',Sem.run_bind,Sem.run_pure,Result.andThen_ok,invoke,builtin];simp[Builtin.len_,run_underlying ht,hx,goInt]
theorem bDZ(h:Sim w0 W S0 ρ0 nb N ρ S σ a w){o:Oper}{t e:TypeId}{x j:Operand}(ho:o.op= .indexAddr t x j)(ht:P.underlying t=some (.slice e)){sz:Nat}(hsz:oZ P e=some sz)
  {tx:T} (hx:RT ρ w S tx (a.eval x)) {k:IntKind} {i:Int} (hj:a.eval j= .int k i) {r:SV} (hr:idx σ.hp sz tx i=some r):lY P w0 W S0 ρ0 nb N σ a w o r σ.hp:=by
 have key: ∃b off n cap,a.eval x= .slice (some ⟨b,off,none⟩) n cap∧0≤i∧i<n∧RS ρ w S r (.pointer (some ⟨b,off+i.toNat*sz,none⟩)):=by
  generalize a.eval x=v at hx⊢;unfold idx at hr;split at hr
  ·rename_i id off len;obtain⟨⟨h0,hlt⟩,hr1⟩:=bQ hr;obtain⟨hz,hr2⟩:=bQ hr1;obtain rfl:=Option.some.inj hr2;cases hx with
   |ri h=>cases h
   |nil=>simp at hlt;omega
   |sl hL hc hs ha=>
    rename_i cap ad L e' n;rcases ha with ha|⟨rfl,hfit⟩
    ·omega
    have hLsz:L.sz=sz:=by
     simp only[nJ]at hz;cases hb:σ.hp[id]? with
     |none=>simp[hb]at hz
     |some y=>
      have hbr:=h.heap.br id y hb;cases y with
      |lst n' rows'=>
       rcases hbr with⟨hnone,-⟩|⟨M,hM,-,hM2,-,-,-⟩
       ·rw[hL]at hnone;simp at hnone
       ·obtain rfl:L=M:=by rw[hL]at hM;simpa using hM
        simp[hb]at hz;omega
      |_=>simp[hb]at hz
    refine⟨_,_,len,cap,rfl,h0,hlt, .one ?_⟩;have:=RT.ptr (w:=w) (S:=S) (row:=off+i.toNat) (off:=0) hL;rw[←hLsz,show L.base+off*L.sz+i.toNat*L.sz=L.base+(off+i.toNat)*L.sz+0 by rw[Nat.add_mul];omega]
    exact this
  ·rename_i p n rows;obtain⟨⟨h0,rfl⟩,hr1⟩:=bQ hr;cases hrow:rows[i.toNat]? with
   |none=>simp[hrow]at hr1
   |some row=>
    simp only[hrow,Option.map_some]at hr1;obtain rfl:=Option.some.inj hr1;have hlt:i.toNat<rows.length:=(List.getElem?_eq_some_iff.1 hrow).1;cases hx with
    |ri h=>
     cases h with
     |nil=>simp at hlt
     |imm hS hcap hs hin hg h=>
      rename_i b off cap g;refine⟨b,off,rows.length,cap,rfl,h0,by omega, .one (.ip (g:=fun k=>g i.toNat k) hS (fun k t ht=>?_) fun k t ht=>h i.toNat k t (by simp[hrow,ht]))⟩
      exact hg i.toNat k t (by simp[hrow,ht])
  ·simp at hr
 obtain⟨b,off,n,cap,hv,h0,hlt,hres⟩:=key;refine eG h ?_ hres;simp only[execOp,ho,hv,hj,Instr.indexAt,asIntOf,Sem.run_bind,Sem.run_pure,Result.andThen_ok,run_underlying ht];rw[if_pos ⟨h0,hlt⟩];simp only[Sem.run_bind,vU hsz,Result.andThen_ok,Sem.run_pure];rw[Addr.add_at rfl]
theorem bD0(h:Sim w0 W S0 ρ0 nb N ρ S σ a w){o:Oper}{t:TypeId}{x j:Operand}(ho:o.op= .index t x j)(ht:P.underlying t=some .string){s:ByteArray}(hx:a.eval x= .string s)
  {k:IntKind} {i:Int} (hj:a.eval j= .int k i) (h0:0≤i) {c:UInt8} (hc:s[i.toNat]? =some c):lY P w0 W S0 ρ0 nb N σ a w o (.one (.lit (.int .u8 c.toNat))) σ.hp:=by
 refine eG h ?_ .int;simp[execOp,ho,hx,hj,Instr.index,asIntOf,run_underlying ht,h0,hc]
end
end Go.Zq

namespace Go.Zq
open Go
section
variable{P:Program}{w0:World}{W:Nat→Nat→Prop}{S0:Rds}{ρ0:Rho}{nb N:Nat}{ρ:Rho}{S:Rds}{σ:St}{a:Act}{w:World}
def qZ(n:Nat)(v:Option Value)(l:Int):Prop:=match v with
 |none=>l=n
 |some v=> ∃k,v= .int k l
theorem xO(h:Sim w0 W S0 ρ0 nb N ρ S σ a w){x:Option Operand}{y:Option Opd}(ho:aIR N x=some y){n:Nat}{l:Int}(hl:uZ σ.ev n y=some l):qZ n (x.map a.eval) l:=by
 cases x with
 |none=>
  obtain rfl:=by simpa [aIR]using ho
  simpa [uZ,qZ]using hl.symm
 |some x=>
  simp only[aIR,Option.map_eq_some_iff]at ho;obtain⟨z,hz,rfl⟩:=ho;simp only[uZ,Option.bind_eq_some_iff]at hl;obtain⟨v,hv,i,hi,hl⟩:=hl;obtain rfl:=Option.some.inj hl;have:=iG (oI h hz hv) hi;exact⟨i.1,this⟩
theorem QH{b:Bool}{len cap:Nat}{lo hi:Option Value}{l h:Int}(hl:qZ 0 lo l)(hh:qZ len hi h)(h0:0≤l)(h1:l≤h)(h2:h≤len)(h3:len≤cap):
  (Instr.sliceBounds b len cap lo hi none).run P w= .ok (l.toNat,h.toNat,cap) w:=by
 have sb: ∀(k:IntKind)(i:Int)(y:Nat)(code:BoundsCode),0≤i→i≤y→(Instr.sliceBound (.int k i) y code).run P w= .ok i.toNat w:=fun k i y code h h'=>by
  simp only[Instr.sliceBound,asIntOf,Sem.run_bind,Sem.run_pure,Result.andThen_ok];rw[if_pos ⟨h,h'⟩];rfl
 unfold Instr.sliceBounds;cases hi with
 |none=>
  simp only[qZ]at hh;cases lo with
  |none=>simp only[qZ]at hl;subst hl hh;simp
  |some v=>
   obtain⟨k,rfl⟩:=hl;simp only[Sem.run_bind,Sem.run_pure,Result.andThen_ok,sb k l len _ h0 (by omega)]
   subst hh;simp
 |some u=>
  obtain⟨k',rfl⟩:=hh;cases lo with
  |none=>
   simp only[qZ]at hl;simp only[Sem.run_bind,Sem.run_pure,Result.andThen_ok,sb k' h cap _ (by omega) (by omega)]
   subst hl;simp
  |some v=>
   obtain⟨k,rfl⟩:=hl;simp only[Sem.run_bind,Sem.run_pure,Result.andThen_ok,sb k' h cap _ (by omega) (by omega),sb k l h.toNat _ h0 (by omega)]
theorem JT{hp:List Blk}(hh:Hp ρ w S hp){id off len sz:Nat}{L:Loc}(hL:ρ id=some L)(hz:nJ hp (.sl id off len)=some sz):L.sz=sz∧L.whole=true∧live hp id:=by
 simp only[nJ]at hz;cases hb:hp[id]? with
 |none=>simp[hb]at hz
 |some y=>
  have hbr:=hh.br id y hb;cases y with
  |lst n' rows'=>
   rcases hbr with⟨hnone,-⟩|⟨M,hM,hwh,hM2,-,-,-⟩
   ·rw[hL]at hnone;simp at hnone
   ·obtain rfl:L=M:=by rw[hL]at hM;simpa using hM
    simp[hb]at hz;exact⟨by omega,hwh,⟨_,hb,by simp⟩⟩
  |_=>simp[hb]at hz
theorem a1R(h:Sim w0 W S0 ρ0 nb N ρ S σ a w){o:Oper}{t e:TypeId}{x:Operand}{lo hi:Option Operand}(ho:o.op= .slice t x lo hi none)(ht:P.underlying t=some (.slice e)){sz:Nat}(hsz:oZ P e=some sz)
  {tx:T} (hx:RT ρ w S tx (a.eval x)) {rows:List Row} (hr:dI σ.hp tx=some rows) {l hh:Int} (hl:qZ 0 (lo.map a.eval) l) (hhi:qZ rows.length (hi.map a.eval) hh)
  {r:T} (hc:cut σ.hp sz tx rows l hh=some r):lY P w0 W S0 ρ0 nb N σ a w o (.one r) σ.hp:=by
 unfold cut at hc;obtain⟨⟨h0,h1,h2⟩,hc1⟩:=bQ hc;obtain⟨ad,cap,hv,hcap⟩:=QG h.heap hx hr;have hrun:(execOp a.eval o).run P w= .ok (.value (.slice (if cap=l.toNat then ad else ad.map (·.add (l.toNat*sz))) (hh.toNat-l.toNat) (cap-l.toNat))) w:=by
  simp only[execOp,ho,Instr.sliceAt,Sem.run_bind,run_underlying ht,Result.andThen_ok,Option.map_none,Instr.slice,hv,QH hl hhi h0 h1 h2 hcap,vU hsz,Sem.run_pure]
 refine eG h hrun (.one ?_);rw[hv]at hx;cases tx with
 |sl id off len=>
  simp only at hc1;obtain⟨hz,hc2⟩:=bQ hc1;obtain rfl:=Option.some.inj hc2;generalize hrl:rows.length=n at hx;cases hx with
  |ri h=>cases h
  |nil=>
   have:l.toNat=0:=by omega
   have h3:hh.toNat-l.toNat=0:=by omega
   rw[this];simp only[Nat.sub_zero,Option.map_none,ite_self];rw[show hh.toNat=0 by omega]
   exact .nil
  |sl hL hc' hs ha=>
   rename_i ad L e' n';obtain⟨hLs,-,-⟩:=JT h.heap hL hz;have key: ∃ad':Addr,(if cap=l.toNat then some ad else Option.map (·.add (l.toNat*sz)) (some ad))=some ad'∧(cap-l.toNat=0∨ad'=⟨L.blk,L.base+(off+l.toNat)*L.sz,none⟩∧L.base+(off+l.toNat+(cap-l.toNat))*L.sz≤n'):=by
    by_cases e1:cap=l.toNat
    ·exact⟨ad,by rw[if_pos e1], .inl (by omega)⟩
    ·rcases ha with ha|⟨rfl,hfit⟩
     ·omega
     ·refine⟨_,by rw[if_neg e1,Option.map_some], .inr ⟨?_,?_⟩⟩
      ·rw[Addr.add_at rfl,hLs,Nat.add_mul,Nat.add_assoc]
      ·rw[show off+l.toNat+(cap-l.toNat)=off+cap by omega];exact hfit
   obtain⟨ad',had,hfit⟩:=key;rw[had];exact .sl hL (by omega) hs hfit
 |imm p n rows'=>
  simp only at hc1;obtain⟨rfl,hc2⟩:=bQ hc1;obtain rfl:=Option.some.inj hc2;obtain rfl:rows'=rows:=by simpa [dI]using hr
  refine .ri ?_;by_cases e0:hh.toNat-l.toNat=0
  ·rw[e0];simp only[List.take_zero];exact .nil
  ·generalize hrl:rows'.length=m at hx;cases hx with
   |ri h=>
    cases h with
    |nil=>simp at h2;omega
    |imm hS hcap' hs hin hg h=>
     rename_i b off g;have hlen:((rows'.drop l.toNat).take (hh.toNat-l.toNat)).length=hh.toNat-l.toNat:=by simp;omega
     rw[if_neg (by omega),Option.map_some,Addr.add_at rfl]
     have hsub: ∀(j k:Nat)(t:T),((((rows'.drop l.toNat).take (hh.toNat-l.toNat))[j]?).bind (·[k]?))=some t→(rows'[l.toNat+j]?).bind (·[k]?)=some t:=fun j k t ht=>by
      obtain⟨r,hr,hk⟩:=hD ht;have hj:j<hh.toNat-l.toNat:=by
       have:=(List.getElem?_eq_some_iff.1 hr).1;omega
      rw[List.getElem?_take_of_lt hj,List.getElem?_drop]at hr;simp[hr,hk]
     have:=RI.imm (w:=w) (S:=S) (p:=p) (rows:=(rows'.drop l.toNat).take (hh.toNat-l.toNat)) (b:=b) (off:=off+l.toNat*n) (cap:=cap-l.toNat) (sz:=n) (g:=fun j k=>g (l.toNat+j) k) hS (by omega)
      (fun r hr=>hs r (List.mem_of_mem_drop (List.mem_of_mem_take hr))) (fun r hr=>hin r (List.mem_of_mem_drop (List.mem_of_mem_take hr)))
      (fun j k t ht=>by rw[←hg _ k t (hsub j k t ht)];congr 2;rw[Nat.add_mul];omega) (fun j k t ht=>h _ k t (hsub j k t ht))
     rw[hlen]at this;exact this
 |nls n=>
  obtain rfl:=Option.some.inj hc1;obtain rfl:[]=rows:=by simpa [dI]using hr
  simp only[List.length_nil,Int.natCast_zero]at h2;have e1:l.toNat=0:=by omega
  have e2:hh.toNat=0:=by omega
  cases hx with
  |ri h=>
   cases h with
   |nls=>rw[e1,e2];simp only[Nat.sub_zero,Option.map_none,ite_self];exact .ri .nls
 |_=>simp at hc1
theorem a1S(h:Sim w0 W S0 ρ0 nb N ρ S σ a w){o:Oper}{t:TypeId}{x:Operand}{lo hi:Option Operand}(ho:o.op= .slice t x lo hi none)(ht:P.underlying t=some .string){s:ByteArray}(hx:a.eval x= .string s)
  {l hh:Int} (hl:qZ 0 (lo.map a.eval) l) (hhi:qZ s.size (hi.map a.eval) hh) (h0:0≤l) (h1:l≤hh) (h2:hh≤s.size):
  lY P w0 W S0 ρ0 nb N σ a w o (.one (.lit (.string (s.extract l.toNat hh.toNat)))) σ.hp:=by
 refine eG h ?_ (.lit rfl);simp only[execOp,ho,Instr.sliceAt,Sem.run_bind,run_underlying ht,Result.andThen_ok,Option.map_none,Instr.slice,hx,Option.isSome_none,Bool.false_eq_true,if_false,Sem.run_pure,
  QH (b:=false) hl hhi h0 h1 h2 (Nat.le_refl _)]
theorem a1T(h:Sim w0 W S0 ρ0 nb N ρ S σ a w){o:Oper}{f:FuncId}{first caps:Array Operand}(ho:o.op= .makeFunc (.func f) first caps)(h1:first.size=0){ts:List T}
  (hn:ts.length=caps.size) (hts: ∀(k:Nat)(t:T),ts[k]? =some t→(∃id row off,t= .ptr id row off)∧ ∃x,caps[k]? =some x∧RT ρ w S t (a.eval x)):lY P w0 W S0 ρ0 nb N σ a w o (.one (.clo f ts)) σ.hp:=by
 refine eG h (u:= .func (.func f) #[] (caps.map a.eval)) ?_ (.one (.clo (by simpa using hn) fun k t ht=>?_))
 ·have:first= #[]:=Array.eq_empty_of_size_eq_zero h1
  subst this;simp[execOp,ho,Instr.makeFunc]
 ·obtain⟨⟨id,row,off,rfl⟩,x,hx,hr⟩:=hts k t ht;generalize hv:a.eval x=v at hr;cases hr with
  |ri h=>cases h
  |ptr hL=>exact⟨id,row,off,_,rfl,hL,by simp[Array.getD_eq_getD_getElem?,hx,hv]⟩
theorem aQB(h:Sim w0 W S0 ρ0 nb N ρ S σ a w){o:Oper}{c:Call}{isMax:Bool}{x y:Operand}(ho:o.op= .call c)(hc:c.callee= .builtin (if isMax then .max else .min))(hargs:c.args.toList=[x,y])
  {k:IntKind} {m n:Int} (hx:a.eval x= .int k m) (hy:a.eval y= .int k n):lY P w0 W S0 ρ0 nb N σ a w o (.one (.lit (.int k (if isMax then(if n>m then n else m)else(if n<m then n else m))))) σ.hp:=by
 have hargs':c.args= #[x,y]:=Array.toList_inj.1 hargs;refine eG h ?_ .int;cases isMax
 ·simp[execOp,ho,resolve,hc,hargs',invoke,builtin,Builtin.min_,Builtin.min2,hx,hy]
 ·simp[execOp,ho,resolve,hc,hargs',invoke,builtin,Builtin.max_,Builtin.max2,hx,hy]
end
end Go.Zq

namespace Go.Zq
open Go
section
variable{P:Program}{w0:World}{W:Nat→Nat→Prop}{S0:Rds}{ρ0:Rho}{nb N:Nat}{ρ:Rho}{S:Rds}{σ:St}{a:Act}{w:World}
def Flat(R:T→Value→Prop)(sz:Nat)(rows:List Row)(vs:List Value):Prop:=
 vs.length=rows.length*sz∧(∀r∈rows,r.length=sz)∧ ∀(j k:Nat)(t:T),(rows[j]?).bind (·[k]?)=some t→ ∃u,vs[j*sz+k]? =some u∧R t u
theorem Flat.append{R:T→Value→Prop}{sz:Nat}{xs ys:List Row}{us vs:List Value}(h:Flat R sz xs us)(k:Flat R sz ys vs):Flat R sz (xs++ys) (us++vs):=by
 obtain⟨h1,h2,h3⟩:=h;obtain⟨k1,k2,k3⟩:=k;refine⟨by simp[h1,k1,Nat.add_mul],fun r hr=>?_,fun j i t ht=>?_⟩
 ·rcases List.mem_append.1 hr with hr|hr
  ·exact h2 r hr
  ·exact k2 r hr
 ·obtain⟨r,hr,hk⟩:=hD ht;by_cases hj:j<xs.length
  ·rw[List.getElem?_append_left hj]at hr;obtain⟨u,hu,hru⟩:=h3 j i t (by simp[hr,hk])
   refine⟨u,?_,hru⟩;rw[List.getElem?_append_left (List.getElem?_eq_some_iff.1 hu).1];exact hu
  ·rw[List.getElem?_append_right (by omega)]at hr
   obtain⟨u,hu,hru⟩:=k3 (j-xs.length) i t (by simp[hr,hk])
   refine⟨u,?_,hru⟩;have:xs.length*sz≤j*sz:=Nat.mul_le_mul_right _ (by omega)
   rw[List.getElem?_append_right (by omega),h1,←hu]
   congr 1
   rw[Nat.sub_mul];omega
theorem Reads.flat{hp:List Blk}{t:T}{sz:Nat}{rows:List Row}{v:Value}(h:Reads ρ w S hp t sz rows v)(hpos:0<sz):
  ∃ad cap us,v= .slice ad rows.length cap∧rows.length≤cap∧Flat (RI w S) sz rows us∧(∀r∈rows,r.all inList=true)∧
   ∀w':World,w'.heap=w.heap→ ∀c,(Builtin.firstCells sz rows.length (.slice ad rows.length c)).run P w'= .ok us.toArray w':=by
 obtain⟨ad,cap,rfl,hcap,h⟩:=h;rcases h with rfl|⟨b,o,rfl,hsz,hin,hc,-⟩
 ·refine⟨ad,cap,[],rfl,hcap,⟨by simp,by simp,by simp⟩,by simp,fun w' _ c=>?_⟩
  cases ad with
  |none=>simp[Builtin.firstCells]
  |some ad=>simp[Builtin.firstCells,loadCells,loadCellsFrom]
 ·let us:=(List.range (rows.length*sz)).map fun i=>(w.cell? ⟨b,o+i,none⟩).getD undef
  have hcell: ∀i,i<rows.length*sz→ ∃u,w.cell? ⟨b,o+i,none⟩=some u∧us[i]? =some u:=fun i hi=>by
   have hj:i/sz<rows.length:=(Nat.div_lt_iff_lt_mul hpos).2 hi;have hk:i%sz<sz:=Nat.mod_lt _ hpos;have hl:=hsz rows[i/sz] (List.getElem_mem hj);obtain⟨u,hu,-⟩:=hc (i/sz) (i%sz) (rows[i/sz][i%sz]'(by omega)) (by simp[hj])
   have e:o+i/sz*sz+i%sz=o+i:=by have:=Nat.div_add_mod i sz;rw[Nat.mul_comm]at this;omega
   rw[e]at hu;exact⟨u,hu,by simp[us,hi,hu]⟩
  refine⟨_,cap,us,rfl,hcap,⟨by simp[us],hsz,fun j k t ht=>?_⟩,hin,fun w' hw' c=>?_⟩
  ·obtain⟨r,hr,hk⟩:=hD ht;obtain⟨u,hu,hru⟩:=hc j k t ht;have hj:=(List.getElem?_eq_some_iff.1 hr).1;have hk':=(List.getElem?_eq_some_iff.1 hk).1;have hl:=hsz r (List.mem_of_getElem? hr);have hlt:j*sz+k<rows.length*sz:=by
    have:=Nat.mul_le_mul_right sz (show j+1≤rows.length by omega)
    rw[Nat.add_mul]at this;omega
   obtain⟨u',hu',hus⟩:=hcell _ hlt;rw[←Nat.add_assoc,hu]at hu';obtain rfl:=Option.some.inj hu';exact⟨u,hus,hru⟩
  ·simp only[Builtin.firstCells];rw[GM (g:=fun i=>(w.cell? ⟨b,o+i,none⟩).getD undef) fun i hi=>?_]
   ·congr 1
    apply Array.toList_inj.1;simp[us]
   ·obtain⟨u,hu,-⟩:=hcell i hi;rw[oH (w:=w) (by rw[hw'])]
    rw[hu];rfl
theorem Sim.adopt(h:Sim w0 W S0 ρ0 nb N ρ S σ a w)(L:Loc)(x:Blk)(hx:x≠ .dead)(hother: ∀j M,live σ.hp j→ρ j=some M→M.blk≠L.blk)(hS: ∀p b,S p b→b≠L.blk)
  (hown: ∀o,W L.blk o∨w0.heap.size≤L.blk) (hbr:BR (fun j=>if j=σ.hp.length then some L else ρ j) w S σ.hp.length x):
  Sim w0 W S0 ρ0 nb N (fun j=>if j=σ.hp.length then some L else ρ j) S ⟨σ.sl,σ.hp++[x]⟩ a w:=by
 generalize hρ':(fun j=>if j=σ.hp.length then some L else ρ j)=ρ' at*
 have hlt: ∀j M,ρ j=some M→j<σ.hp.length:=fun j M hj=>by
  by_cases hl:j<σ.hp.length
  ·exact hl
  ·rw[h.heap.fr j (by omega)]at hj;simp at hj
 have hmono: ∀j M,ρ j=some M→ρ' j=some M:=fun j M hj=>by rw[←hρ'];simp only;rw[if_neg (by have:=hlt j M hj;omega)];exact hj
 have hback: ∀j M,j≠σ.hp.length→ρ' j=some M→ρ j=some M:=fun j M hj hM=>by rw[←hρ']at hM;simp only at hM;rwa [if_neg hj]at hM
 have hself:ρ' σ.hp.length=some L:=by rw[←hρ'];simp
 have hshp:Shp ρ w w:=fun _ _ _ _ _ h=>h
 have hrt: ∀t v,RT ρ w S t v→RT ρ' w S t v:=fun t v ht=>ht.mono hmono (fun _ _ h=>h) (fun _ _ _=>rfl) hshp
 have hrr: ∀L rows,RR ρ w S L rows→RR ρ' w S L rows:=fun L rows r=>⟨r.obj,r.len,fun j k t ht=>by obtain⟨v,hv,hr⟩:=r.cell j k t ht;exact⟨v,hv,hrt _ _ hr⟩⟩
 have liveOld: ∀j,live (σ.hp++[x]) j→j≠σ.hp.length→live σ.hp j:=fun j ⟨y,hy,hd⟩ hj=>by
  refine⟨y,?_,hd⟩;rw[List.getElem?_append]at hy;split at hy
  ·exact hy
  ·rw[List.getElem?_eq_none (by simp;omega)]at hy;simp at hy
 refine{slots:=fun n v hv=>?_,size:=h.size,defers:=h.defers,heap:=⟨fun id y hy=>?_,?_,?_,h.heap.sb,h.heap.st,fun j hj=>?_⟩,keep:=h.keep,own:=?_,sn:=h.sn,ss:=h.ss,boxes:=fun j hj=>?_,nbl:=by simp;have:=h.nbl;omega}
 ·obtain⟨h1,h2⟩:=h.slots n v hv;exact⟨h1,h2.mono hmono (fun _ _ h=>h) (fun _ _ _=>rfl) hshp⟩
 ·rw[List.getElem?_append]at hy;split at hy
  ·have:=h.heap.br id y hy;cases y with
   |dead=>trivial
   |box cells=>obtain⟨M,h1,h2,h3⟩:=this;exact⟨M,hmono _ _ h1,h2,hrr _ _ h3⟩
   |lst n rows=>
    rcases this with⟨h1,h2⟩|⟨M,h1,h2,h3,h4,h5,h6⟩
    ·exact .inl ⟨by rw[←hρ'];simp only;rw[if_neg (by omega)];exact h1,h2⟩
    ·exact .inr ⟨M,hmono _ _ h1,h2,h3,h4,hrr _ _ h5,h6⟩
  ·obtain rfl:id=σ.hp.length:=by
    have:=(List.getElem?_eq_some_iff.1 hy).1;simp at this;omega
   simp at hy;subst hy;exact hbr
 ·intro i j M M' b o hij hi hj hM hM' hLb hMb;by_cases e1:i=σ.hp.length
  ·subst e1;rw[hself]at hM;obtain rfl:=Option.some.inj hM;exact hother j M' (liveOld j hj (fun e=>hij e.symm)) (hback j M' (fun e=>hij e.symm) hM') (hMb.1.symm.trans hLb.1)
  ·by_cases e2:j=σ.hp.length
   ·subst e2;rw[hself]at hM';obtain rfl:=Option.some.inj hM';exact hother i M (liveOld i hi e1) (hback i M e1 hM) (hLb.1.symm.trans hMb.1)
   ·exact h.heap.dj i j M M' b o hij (liveOld i hi e1) (liveOld j hj e2) (hback i M e1 hM) (hback j M' e2 hM') hLb hMb
 ·intro p b hb j M hj hM;by_cases e1:j=σ.hp.length
  ·subst e1;rw[hself]at hM;obtain rfl:=Option.some.inj hM;exact fun e=>hS p b hb e.symm
  ·exact h.heap.sd p b hb j M (liveOld j hj e1) (hback j M e1 hM)
 ·simp only[List.length_append,List.length_cons,List.length_nil]at hj;rw[←hρ'];simp only;rw[if_neg (by omega)]
  exact h.heap.fr j (by omega)
 ·intro i M b o hi hM hb;by_cases e1:i=σ.hp.length
  ·subst e1;rw[hself]at hM;obtain rfl:=Option.some.inj hM;rw[hb.1];exact hown o
  ·exact h.own i M b o (liveOld i hi e1) (hback i M e1 hM) hb
 ·rw[←hρ'];simp only;rw[if_neg (by have:=h.nbl;omega)]
  exact h.boxes j hj
end
end Go.Zq

namespace Go.Zq
open Go
section
variable{P:Program}{w0:World}{W:Nat→Nat→Prop}{S0:Rds}{ρ0:Rho}{nb N:Nat}{ρ:Rho}{S:Rds}{σ:St}{a:Act}{w:World}
theorem WI{z:Array Value}{n:Nat}:(Builtin.zeroCells z n).size=n*z.size:=by simp[Builtin.zeroCells]
theorem tS{t ty e:TypeId}{i:TypeInfo}(ht:P.underlying t=some (.slice e))(hi:P.info? e=some i){ad1 ad2:Option Addr}{n1 n2 cap1 cap2:Nat}{news:List Value}
  (hn:(Builtin.firstCells i.size n2 (.slice ad2 n2 cap2)).run P w= .ok news.toArray w) (hroom:n1+n2≤cap1) {w':World}
  (hst: ∀b,ad1=some b→(storeCells (b.add (n1*i.size)) news).run P w= .ok () w') (hst0:ad1=none→w'=w):
  (Builtin.append_ #[t,t] ty #[.slice ad1 n1 cap1, .slice ad2 n2 cap2]).run P w= .ok (.slice ad1 (n1+n2) cap1) w':=by
 cases ad1 with
 |none=>
  obtain rfl:=hst0 rfl;simp[Builtin.append_,run_underlying ht,sizeOf,typeInfo,hi,Builtin.lenOf,hroom,hn]
 |some b=>
  simp[Builtin.append_,run_underlying ht,sizeOf,typeInfo,hi,Builtin.lenOf,hroom,hn,hst b rfl]
theorem O8{t ty e:TypeId}{i:TypeInfo}{z:Value}(ht:P.underlying t=some (.slice e))(hi:P.info? e=some i)(hz:i.zero=some z){ad1 ad2:Option Addr}{n1 n2 cap1 cap2:Nat}{olds news:List Value}
  (ho:(Builtin.firstCells i.size n1 (.slice ad1 n1 cap1)).run P w.drew= .ok olds.toArray w.drew) (hn:(Builtin.firstCells i.size n2 (.slice ad2 n2 cap2)).run P w.drew= .ok news.toArray w.drew)
  (hroom:¬n1+n2≤cap1) (h63:n1+n2≤room) (h48:(n1+n2)*i.bytes≤room):
  (Builtin.append_ #[t,t] ty #[.slice ad1 n1 cap1, .slice ad2 n2 cap2]).run P w=
    .ok (.slice (some ⟨w.heap.size,0,none⟩) (n1+n2) (grownCap w (n1+n2) cap1 e)) (w.drew.alloc (.cells (olds.toArray++news.toArray++Builtin.zeroCells z.cells (grownCap w (n1+n2) cap1 e-(n1+n2))) e)):=by
 unfold room at h63 h48;have h63':¬(9223372036854775807<((n1:Int)+(n2:Int))):=by omega
 have hfit:=growslice_fits (need:=n1+n2) (old:=cap1) (bytes:=i.bytes) (by omega) h48
 have h48':¬(281474976710656<Builtin.nextslicecap (n1+n2) cap1*i.bytes):=by omega
 simp[Builtin.append_,run_underlying ht,sizeOf,typeInfo,zeroValue,hi,hz,Builtin.lenOf,hroom,h63',h48',Question.forced,ho,hn,newRow,grownCap]
 congr 2
 apply Array.ext';simp[List.append_assoc]
theorem aIV(w:World)(arr:Array Value)(e:TypeId):World.shape? {w.drew with heap:=w.drew.heap.push (.cells arr e)} w.heap.size=some (e,arr.size):=by
 have:({w.drew with heap:=w.drew.heap.push (.cells arr e)}:World).heap[w.heap.size]? =some (.cells arr e):=by
  show(w.heap.push (.cells arr e))[w.heap.size]? =_
  simp
 simp only[World.shape?,this]
theorem CS{n c:Nat}{e:TypeId}:n≤grownCap w n c e:=by
 unfold grownCap;simp only[Question.cut];omega
theorem Sim.drew(h:Sim w0 W S0 ρ0 nb N ρ S σ a w):Sim w0 W S0 ρ0 nb N ρ S σ a w.drew:=h.drawn rfl rfl rfl rfl
theorem Flat.one{sz:Nat}{rows:List Row}{vs:List Value}(h:Flat (RI w S) sz rows vs)(hpos:0<sz): ∀v∈vs,(∀x,v≠ .agg x)∧ ∀x,v≠ .tuple x:=by
 intro v hv;obtain⟨i,hi,rfl⟩:=List.mem_iff_getElem.1 hv;obtain⟨h1,h2,h3⟩:=h;rw[h1]at hi;have hj:i/sz<rows.length:=(Nat.div_lt_iff_lt_mul hpos).2 hi;have hk:i%sz<sz:=Nat.mod_lt _ hpos;have hl:=h2 rows[i/sz] (List.getElem_mem hj);obtain⟨u,hu,hr⟩:=h3 (i/sz) (i%sz) (rows[i/sz][i%sz]'(by omega)) (by simp[hj])
 have e:i/sz*sz+i%sz=i:=by have:=Nat.div_add_mod i sz;rw[Nat.mul_comm]at this;omega
 rw[e]at hu;have hu':vs[i]=u:=(List.getElem?_eq_some_iff.1 hu).2;rw[hu'];exact(RT.ri (ρ:=fun _=>none) hr).one.2
theorem ZK{hp:List Blk}{x:Blk}{j:Nat}(h:live (hp++[x]) j)(hj:j≠hp.length):live hp j:=by
 obtain⟨y,hy,hd⟩:=h;refine⟨y,?_,hd⟩;rw[List.getElem?_append]at hy;split at hy
 ·exact hy
 ·rw[List.getElem?_eq_none (by simp;omega)]at hy;simp at hy
theorem Sim.nil(h:Sim w0 W S0 ρ0 nb N ρ S σ a w)(n:Nat):Sim w0 W S0 ρ0 nb N ρ S ⟨σ.sl,σ.hp++[.lst n []]⟩ a w:=by
 have no: ∀j L,ρ j=some L→j≠σ.hp.length:=fun j L hj e=>by
  rw[e,h.heap.fr _ (Nat.le_refl _)]at hj;simp at hj
 refine{h with slots:=h.slots,heap:=⟨fun id y hy=>?_,?_,?_,h.heap.sb,h.heap.st,fun j hj=>h.heap.fr j (by simp at hj;omega)⟩,own:=fun j L b o hj hL=>h.own j L b o (ZK hj (no j L hL)) hL,nbl:=by simp;have:=h.nbl;omega}
 ·rw[List.getElem?_append]at hy;split at hy
  ·exact h.heap.br id y hy
  ·obtain rfl:id=σ.hp.length:=by
    have:=(List.getElem?_eq_some_iff.1 hy).1;simp at this;omega
   simp at hy;subst hy;exact .inl ⟨h.heap.fr _ (Nat.le_refl _),rfl⟩
 ·intro i' j L M b o' hij hi' hj hL hM;exact h.heap.dj i' j L M b o' hij (ZK hi' (no i' L hL)) (ZK hj (no j M hM)) hL hM
 ·intro p b hb j L hj hL;exact h.heap.sd p b hb j L (ZK hj (no j L hL)) hL
theorem a1U(h:Sim w0 W S0 ρ0 nb N ρ S σ a w){o:Oper}{c:Call}{x y:Operand}{t e:TypeId}{i:TypeInfo}(ho:o.op= .call c)(hc:c.callee= .builtin .append)(hargs:c.args.toList=[x,y])(htys:c.argTypes.toList=[t,t])
  (ht:P.underlying t=some (.slice e)) (hi:P.info? e=some i) {zr:Row} (hz:iY P e=some zr) (hpos:0<i.size) {tx ty:T} (hx:RT ρ w S tx (a.eval x)) (hy:RT ρ w S ty (a.eval y))
  {xs ys:List Row} (hxs:dI σ.hp tx=some xs) (hys:dI σ.hp ty=some ys) (htail:P6 σ.hp tx=true) (hzx:nJ σ.hp tx=some i.size) (hzy:nJ σ.hp ty=some i.size)
  (hby:(xs.length+ys.length)*i.bytes≤room) (hlen:xs.length+ys.length≤room):
  lY P w0 W S0 ρ0 nb N σ a w o (.one (.sl σ.hp.length 0 (xs++ys).length)) (JM σ.hp tx++[.lst i.size (xs++ys)]):=by
 have hargs':c.args= #[x,y]:=Array.toList_inj.1 hargs;have htys':c.argTypes= #[t,t]:=Array.toList_inj.1 htys;obtain⟨xi,zv,hxi,hzv,hzs,-,-⟩:=jU hz;obtain rfl:i=xi:=by rw[hi]at hxi;exact Option.some.inj hxi
 have hreads:=qY h.heap hx hxs hzx;obtain⟨ad1,cap1,us,hv1,hcap1,hf1,hin1,hr1⟩:=hreads.flat (P:=P) hpos;obtain⟨ad2,cap2,vs,hv2,hcap2,hf2,hin2,hr2⟩:=(qY h.heap hy hys hzy).flat (P:=P) hpos;have hexec: ∀u w',(Builtin.append_ #[t,t] o.type #[a.eval x,a.eval y]).run P w= .ok u w'→(execOp a.eval o).run P w= .ok (.value u) w':=fun u w' hu=>by
  simp only[execOp,ho,resolve,hc,hargs',htys',Sem.run_bind,Sem.run_pure,Result.andThen_ok,invoke,builtin];simp[hu]
 have hkl:(JM σ.hp tx).length=σ.hp.length:=by cases tx<;>simp[JM]
 have hk:Sim w0 W S0 ρ0 nb N ρ S ⟨σ.sl,JM σ.hp tx⟩ a w:=by
  cases tx with
  |sl id off len=>exact h.kill id
  |_=>exact h
 have hinall: ∀r∈xs++ys,r.all inList=true:=fun r hr=>by
  rcases List.mem_append.1 hr with hr|hr
  ·exact hin1 r hr
  ·exact hin2 r hr
 rw[hv1]at hx hexec;rw[hv2]at hexec;by_cases hroom:xs.length+ys.length≤cap1
 ·
  have nothing:xs=[]→ys=[]→ad1=none→lY P w0 W S0 ρ0 nb N σ a w o (.one (.sl σ.hp.length 0 (xs++ys).length)) (JM σ.hp tx++[.lst i.size (xs++ys)]):=by
   intro e1 e2 e3;subst e1 e2 e3;have hrun:=tS (P:=P) (w:=w) (ty:=o.type) ht hi (ad1:=none) (n1:=0) (n2:=0) (cap1:=cap1) (news:=vs) (hr2 w rfl cap2) (by omega) (w':=w) (by simp) (by simp)
   have hc0:cap1=0:=by
    cases hx with
    |ri h=>cases h with
     |nls=>rfl
     |nil=>simp[P6]at htail
     |lit h=>simp[GJ]at h
    |nil=>rfl
   subst hc0;refine⟨.slice none 0 0,w,ρ,S,hexec _ _ hrun,?_, .one (by simpa using RT.nil)⟩
   simpa using hk.nil i.size
  cases tx with
  |nls n=>
   have hxs0:xs=[]:=by simpa [dI]using hxs.symm
   have:ad1=none∧cap1=0:=by
    subst hxs0;cases hx with
    |ri h=>cases h;exact⟨rfl,rfl⟩
   exact nothing hxs0 (List.eq_nil_of_length_eq_zero (by omega)) this.1
  |sl id off len=>
   have hlenx:xs.length=len:=by
    simp only[dI]at hxs;cases hb:σ.hp[id]? with
    |none=>simp[hb]at hxs
    |some b=>cases b with
     |lst n rows=>
      simp only[hb]at hxs;obtain⟨hle,hxs1⟩:=bQ hxs;obtain rfl:=Option.some.inj hxs1;simp;omega
     |_=>simp[hb]at hxs
   generalize hn1:xs.length=n1 at hx;cases hx with
   |ri h=>cases h
   |nil=>exact nothing (List.eq_nil_of_length_eq_zero (by omega)) (List.eq_nil_of_length_eq_zero (by omega)) rfl
   |sl hL hcl hs ha=>
    rename_i ad L e' n';subst hn1;obtain⟨hLs,hLw,hlive⟩:=JT h.heap hL hzx;obtain⟨c0,e0,hc0,-⟩:=h.heap.obj hlive hL;have hother: ∀j M,live (σ.hp.set id .dead) j→ρ j=some M→M.blk≠L.blk:=fun j M hj hM=>h.heap.alone hlive hL hLw (XE hj).2 hM (XE hj).1
    have hbnot: ∀p b,S p b→b≠L.blk:=fun p b hb e=>h.heap.sd p b hb id L hlive hL e.symm
    have hown: ∀o,W L.blk o∨w0.heap.size≤L.blk:=fun o=>h.own id L L.blk o hlive hL ⟨rfl, .inl hLw⟩
    by_cases hcap0:cap1=0
    ·
     subst hcap0;have hxs0:xs=[]:=List.eq_nil_of_length_eq_zero (by omega)
     have hys0:ys=[]:=List.eq_nil_of_length_eq_zero (by omega)
     subst hxs0 hys0;have hvs0:vs=[]:=List.eq_nil_of_length_eq_zero (by have:=hf2.1;simpa using this)
     subst hvs0;have hrun:=tS (P:=P) (w:=w) (ty:=o.type) ht hi (ad1:=some ad) (n1:=0) (n2:=0) (cap1:=0) (news:=[]) (hr2 w rfl cap2) (by simp) (w':=w) (by simp[storeCells]) (by simp)
     have had:=hk.adopt ⟨L.blk,0,L.sz,true⟩ (.lst i.size []) (by simp) hother hbnot hown
      (.inr ⟨_,if_pos rfl,rfl,hLs,hpos,⟨⟨c0,e0,hc0,by simp⟩,by simp,by simp⟩,by simp⟩)
     simp only[JM,List.length_set]at had;exact⟨.slice (some ad) 0 0,w,_,S,hexec _ _ hrun,had, .one (.sl (L:=⟨L.blk,0,L.sz,true⟩) (if_pos rfl) (Nat.le_refl _) hs (.inl rfl))⟩
    ·rcases ha with ha|⟨rfl,hfit⟩
     ·exact absurd ha hcap0
     have hshape:n'=c0.size:=by
      simp[World.shape?,hc0]at hs;exact hs.2.symm
     have hmul:(off+xs.length+ys.length)*L.sz≤(off+cap1)*L.sz:=Nat.mul_le_mul_right _ (by omega)
     have hvl:vs.length=ys.length*L.sz:=by rw[hf2.1,hLs]
     obtain⟨w',hst,hw⟩:=nQ (P:=P) vs (L.base+off*L.sz+xs.length*i.size) 0 w c0 e0 hc0
      (by rw[hvl,←hLs,←hshape];simp only[Nat.add_mul]at hmul hfit;omega)
      (hf2.one hpos)
     have hrun:=tS (P:=P) (w:=w) (ty:=o.type) ht hi (ad1:=some ⟨L.blk,L.base+off*L.sz,none⟩) (n1:=xs.length) (n2:=ys.length) (cap1:=cap1) (news:=vs) (hr2 w rfl cap2) hroom (w':=w')
      (by rintro b hb;obtain rfl:=Option.some.inj hb;rw[Addr.add_at rfl];exact hst) (by simp)
     have hwk:Sim w0 W S0 ρ0 nb N ρ S ⟨σ.sl,σ.hp.set id .dead⟩ a w':=h.write hlive hL hw (fun o _ _=>⟨rfl, .inl hLw⟩) .dead trivial
     obtain⟨c1,hc1,hs1,-⟩:=hw.here c0 e0 (0,0) hc0;obtain⟨hsame,hshp⟩:=h.heap.mem hlive hL hw;have hx1: ∀(j k:Nat)(t:T),(xs[j]?).bind (·[k]?)=some t→ ∃u,w.cell? ⟨L.blk,L.base+off*L.sz+j*L.sz+k,none⟩=some u∧RI w S t u:=fun j k t ht=>by
      obtain⟨ad',cap',hv',-,hrd⟩:=hreads;rw[hv1]at hv';simp only[Value.slice.injEq]at hv';rcases hrd with hrd|⟨b,o',hb,-,-,hcell,-⟩
      ·simp[hrd]at ht
      ·rw[←hv'.1]at hb;obtain⟨rfl,rfl⟩:L.blk=b∧L.base+off*L.sz=o':=by simpa using hb
       rw[hLs];rw[←hLs]at hcell⊢;exact hcell j k t ht
     have hrows:RR (fun j=>if j=(σ.hp.set id .dead).length then some ⟨L.blk,L.base+off*L.sz,L.sz,true⟩else ρ j) w' S ⟨L.blk,L.base+off*L.sz,L.sz,true⟩ (xs++ys):=by
      refine⟨⟨c1,e0,hc1,?_⟩,fun r hr=>?_,fun j k t ht=>?_⟩
      ·simp only[List.length_append,Nat.add_mul]at hmul hfit⊢;omega
      ·rw[hLs];rcases List.mem_append.1 hr with hr|hr
       ·exact hf1.2.1 r hr
       ·exact hf2.2.1 r hr
      ·obtain⟨r,hr,hk'⟩:=hD ht;have hkl':=(List.getElem?_eq_some_iff.1 hk').1;by_cases hj:j<xs.length
       ·rw[List.getElem?_append_left hj]at hr;obtain⟨u,hu,hru⟩:=hx1 j k t (by simp[hr,hk'])
        have hrl:=hf1.2.1 r (List.mem_of_getElem? hr);have hm2:=Nat.mul_le_mul_right L.sz (show j+1≤xs.length by omega)
        rw[Nat.add_mul]at hm2;refine⟨u,hw.cell hu (.inr (.inl ?_)), .ri (hru.mono (fun _ _ h=>h) hsame)⟩
        rw[←hLs]at hrl;rw[←hLs];simp only;omega
       ·rw[List.getElem?_append_right (by omega)]at hr
        obtain⟨u,hu,hru⟩:=hf2.2.2 (j-xs.length) k t (by simp[hr,hk'])
        have hb:L.base+off*L.sz+xs.length*i.size+0+vs.length≤c0.size:=by rw[hvl,←hLs,←hshape];simp only[Nat.add_mul]at hmul hfit;omega
        have hnew:=hw.new hc0 hb hu;refine⟨u,?_, .ri (hru.mono (fun _ _ h=>h) hsame)⟩
        rw[←hnew]
        congr 2
        rw[←hLs,Nat.sub_mul];have:=Nat.mul_le_mul_right L.sz (show xs.length≤j by omega)
        simp only;omega
     have had:=hwk.adopt ⟨L.blk,L.base+off*L.sz,L.sz,true⟩ (.lst i.size (xs++ys)) (by simp) hother hbnot hown (.inr ⟨_,if_pos rfl,rfl,hLs,hpos,hrows,hinall⟩)
     simp only[List.length_set]at had;refine⟨_,w',_,S,hexec _ _ hrun,had, .one ?_⟩;have:=RT.sl (S:=S) (id:=σ.hp.length) (off:=0) (len:=xs.length+ys.length) (cap:=cap1) (a:=⟨L.blk,L.base+off*L.sz,none⟩) (L:=⟨L.blk,L.base+off*L.sz,L.sz,true⟩)
      (ρ:=fun j=>if j=σ.hp.length then some ⟨L.blk,L.base+off*L.sz,L.sz,true⟩else ρ j) (w:=w') (e:=e') (n:=n') (if_pos rfl) hroom (hw.shape hs)
      (.inr ⟨by simp,by simp only[Nat.add_mul]at hfit⊢;omega⟩)
     rw[List.length_append];exact this
  |_=>simp[P6]at htail
 ·
  have hfl:=hf1.append hf2
  let arr:=us.toArray++vs.toArray++Builtin.zeroCells zv.cells (grownCap w (xs.length+ys.length) cap1 e-(xs.length+ys.length))
  have hrun:=O8 (P:=P) (w:=w) (ty:=o.type) ht hi hzv (hr1 w.drew rfl cap1) (hr2 w.drew rfl cap2) hroom hlen hby;have hsz:arr.size=grownCap w (xs.length+ys.length) cap1 e*i.size:=by
   have h1:=hf1.1;have h2:=hf2.1;have h3:=CS (w:=w) (n:=xs.length+ys.length) (c:=cap1) (e:=e);simp only[arr,Array.size_append,List.size_toArray,WI,hzs,h1,h2,←Nat.add_mul]
   congr 1
   omega
  have hp:=hk.drew.push arr e (.lst i.size (xs++ys)) (by simp) i.size true
   ⟨rfl,rfl,hpos,by rw[hsz];exact Nat.mul_le_mul_right _ (by simpa using CS),hfl.2.1,hinall,fun j k t ht=>by
     obtain⟨u,hu,hru⟩:=hfl.2.2 j k t ht;refine⟨u,?_, .ri (hru.mono (fun _ _ h=>h) (fun _ _ _=>rfl))⟩
     have hlt:=(List.getElem?_eq_some_iff.1 hu).1;simp only[arr];rw[Array.getElem?_append_left (by simpa using hlt)]
     simpa using hu⟩
  simp only[hkl]at hp;refine⟨_,_,_,S,hexec _ _ hrun,hp, .one ?_⟩;have:=RT.sl (S:=S) (id:=σ.hp.length) (off:=0) (len:=xs.length+ys.length) (cap:=grownCap w (xs.length+ys.length) cap1 e) (a:=⟨w.heap.size,0,none⟩) (L:=⟨w.heap.size,0,i.size,true⟩)
   (ρ:=fun j=>if j=σ.hp.length then some ⟨w.drew.heap.size,0,i.size,true⟩else ρ j) (w:={w.drew with heap:=w.drew.heap.push (.cells arr e)}) (e:=e) (n:=arr.size) (if_pos rfl) CS
   (aIV _ _ _) (.inr ⟨by simp,by rw[hsz];simp⟩)
  rw[List.length_append];exact this
end
end Go.Zq

namespace Go.Zq
open Go
section
variable{P:Program}{w0:World}{W:Nat→Nat→Prop}{S0:Rds}{ρ0:Rho}{nb N:Nat}{ρ:Rho}{S:Rds}{σ:St}{a:Act}{w:World}
theorem aIW{α:Type}{cs new:List α}{off:Nat}(h:off+new.length≤cs.length)(k:Nat):
  (cs.take off++(new++cs.drop (off+new.length)))[k]? =if off≤k∧k<off+new.length then new[k-off]? else cs[k]? :=by
 have hl:(cs.take off).length=off:=by simp;omega
 by_cases h1:k<off
 ·rw[List.getElem?_append_left (by omega),if_neg (by omega),List.getElem?_take_of_lt h1]
 ·rw[List.getElem?_append_right (by omega),hl]
  by_cases h2:k<off+new.length
  ·rw[List.getElem?_append_left (by omega),if_pos (by omega)]
  ·rw[List.getElem?_append_right (by omega),if_neg (by omega),List.getElem?_drop]
   congr 1
   omega
theorem RR.splice{L:Loc}{rows:List Row}(hr:RR ρ w S L rows){off:Nat}{new:List Row}(hle:off+new.length≤rows.length){w':World}{vs:List Value}
  (hw:Wrote w w' L.blk (L.base+off*L.sz) vs) (hnew:Flat (fun t v=>RT ρ w S t v) L.sz new vs)
  (hmono: ∀t v,RT ρ w S t v→RT ρ w' S t v):RR ρ w' S L (rows.take off++(new++rows.drop (off+new.length))):=by
 obtain⟨c,e,hc,hs⟩:=hr.obj;obtain⟨c',hc',hs',-⟩:=hw.here c e (0,0) hc;obtain⟨hn1,hn2,hn3⟩:=hnew;have hlen:(rows.take off++(new++rows.drop (off+new.length))).length=rows.length:=by simp;omega
 refine⟨⟨c',e,hc',by rw[hs',hlen];exact hs⟩,fun x hx=>?_,fun j k t ht=>?_⟩
 ·simp only[List.mem_append]at hx;rcases hx with hx|hx|hx
  ·exact hr.len x (List.mem_of_mem_take hx)
  ·exact hn2 x hx
  ·exact hr.len x (List.mem_of_mem_drop hx)
 ·rw[aIW hle]at ht;split at ht
  ·rename_i hj;obtain⟨u,hu,hru⟩:=hn3 _ k t ht;refine⟨u,?_,hmono _ _ hru⟩;have hb:L.base+off*L.sz+vs.length≤c.size:=by
    have:=Nat.mul_le_mul_right L.sz hle;rw[Nat.add_mul]at this;omega
   have:=hw.new hc hb hu;rw[←this]
   congr 2
   rw[Nat.sub_mul];have:=Nat.mul_le_mul_right L.sz hj.1;omega
  ·rename_i hj;obtain⟨u,hu,hru⟩:=hr.cell j k t ht;refine⟨u,hw.cell hu (.inr ?_),hmono _ _ hru⟩;have hk:k<L.sz:=by
    obtain⟨x,hx,hk⟩:=hD ht;have:=hr.len x (List.mem_of_getElem? hx);have:=(List.getElem?_eq_some_iff.1 hk).1;omega
   rw[hn1];by_cases h1:j<off
   ·left
    have:=Nat.mul_le_mul_right L.sz (show j+1≤off by omega)
    rw[Nat.add_mul]at this;omega
   ·right
    have:=Nat.mul_le_mul_right L.sz (show off+new.length≤j by omega)
    rw[Nat.add_mul]at this;omega
theorem Flat.take{R:T→Value→Prop}{sz:Nat}{rows:List Row}{vs:List Value}(h:Flat R sz rows vs){n:Nat}(hn:n≤rows.length):Flat R sz (rows.take n) (vs.take (n*sz)):=by
 obtain⟨h1,h2,h3⟩:=h;have hm:=Nat.mul_le_mul_right sz hn;refine⟨by simp[h1,Nat.min_eq_left hn],fun r hr=>h2 r (List.mem_of_mem_take hr),fun j k t ht=>?_⟩
 obtain⟨r,hr,hk⟩:=hD ht;have hj:j<n:=by have:=(List.getElem?_eq_some_iff.1 hr).1;simp at this;omega
 rw[List.getElem?_take_of_lt hj]at hr;obtain⟨u,hu,hru⟩:=h3 j k t (by simp[hr,hk])
 refine⟨u,?_,hru⟩;have hkl:k<sz:=by
  have:=h2 r (List.mem_of_getElem? hr);have:=(List.getElem?_eq_some_iff.1 hk).1;omega
 rw[List.getElem?_take_of_lt (by
  have:=Nat.mul_le_mul_right sz (show j+1≤n by omega)
  rw[Nat.add_mul]at this;omega)]
 exact hu
theorem Flat.imp{R R':T→Value→Prop}{sz:Nat}{rows:List Row}{vs:List Value}(h:Flat R sz rows vs)(k: ∀t v,R t v→R' t v):Flat R' sz rows vs:=
 ⟨h.1,h.2.1,fun j i t ht=>by obtain⟨u,hu,hr⟩:=h.2.2 j i t ht;exact⟨u,hu,k _ _ hr⟩⟩
theorem Reads.first{hp:List Blk}{t:T}{sz:Nat}{rows:List Row}{v:Value}(h:Reads ρ w S hp t sz rows v)(hpos:0<sz){n:Nat}(hn:n≤rows.length):
  ∃ad cap us,v= .slice ad rows.length cap∧Flat (RI w S) sz (rows.take n) us∧(∀r∈rows,r.all inList=true)∧
   (Builtin.firstCells sz n v).run P w= .ok us.toArray w:=by
 obtain⟨ad,cap,rfl,hcap,h⟩:=h;rcases h with rfl|⟨b,o,rfl,hsz,hin,hc,hS⟩
 ·obtain rfl:n=0:=by simpa using hn
  refine⟨ad,cap,[],rfl,⟨by simp,by simp,by simp⟩,by simp,?_⟩
  cases ad with
  |none=>simp[Builtin.firstCells]
  |some ad=>simp[Builtin.firstCells,loadCells,loadCellsFrom]
 ·have hr:Reads ρ w S hp t sz (rows.take n) (.slice (some ⟨b,o,none⟩) (rows.take n).length cap):=
   ⟨_,cap,rfl,by simp;omega, .inr ⟨b,o,rfl,fun r hr=>hsz r (List.mem_of_mem_take hr),fun r hr=>hin r (List.mem_of_mem_take hr),fun j k t ht=>?_,hS⟩⟩
  ·obtain⟨ad,cap',us,hv,-,hf,-,hrun⟩:=hr.flat (P:=P) hpos;have:=hrun w rfl cap';rw[←hv]at this;rw[show(rows.take n).length=n by simp;omega]at this
   refine⟨_,cap,us,rfl,hf,hin,?_⟩;simpa [Builtin.firstCells]using this
  ·obtain⟨r,hr,hk⟩:=hD ht;have hj:j<n:=by have:=(List.getElem?_eq_some_iff.1 hr).1;simp at this;omega
   rw[List.getElem?_take_of_lt hj]at hr;exact hc j k t (by simp[hr,hk])
theorem a1V(h:Sim w0 W S0 ρ0 nb N ρ S σ a w){o:Oper}{c:Call}{x y:Operand}{t e:TypeId}{i:TypeInfo}(ho:o.op= .call c)(hc:c.callee= .builtin .copy)(hargs:c.args.toList=[x,y])(htys:c.argTypes.toList=[t,t])
  (ht:P.underlying t=some (.slice e)) (hi:P.info? e=some i) (hpos:0<i.size) {id off len:Nat} {ty:T} (hx:RT ρ w S (.sl id off len) (a.eval x)) (hy:RT ρ w S ty (a.eval y))
  {xs ys rows:List Row} (hxs:dI σ.hp (.sl id off len)=some xs) (hys:dI σ.hp ty=some ys) (hb:σ.hp[id]? =some (.lst i.size rows)) (hzy:nJ σ.hp ty=some i.size):
  lY P w0 W S0 ρ0 nb N σ a w o (.one (I (min ys.length xs.length:Nat)))
   (σ.hp.set id (.lst i.size (rows.take off++(ys.take (min ys.length xs.length)++rows.drop (off+min ys.length xs.length))))):=by
 have hargs':c.args= #[x,y]:=Array.toList_inj.1 hargs;have htys':c.argTypes= #[t,t]:=Array.toList_inj.1 htys;obtain⟨hle,hxs1⟩:off+len≤rows.length∧xs=(rows.drop off).take len:=by
  simp only[dI,hb]at hxs;obtain⟨h1,h2⟩:=bQ hxs;exact⟨h1,(Option.some.inj h2).symm⟩
 have hxl:xs.length=len:=by rw[hxs1];simp;omega
 rw[hxl];obtain⟨ad2,cap2,us,hv2,hf,hin,hrun⟩:=(qY h.heap hy hys hzy).first (P:=P) hpos (Nat.min_le_left ys.length len);have hlen':(ys.take (min ys.length len)).length=min ys.length len:=by simp
 have hexec: ∀u w',(Builtin.copy_ #[t,t] o.type #[a.eval x,a.eval y]).run P w= .ok u w'→(execOp a.eval o).run P w= .ok (.value u) w':=fun u w' hu=>by
  simp only[execOp,ho,resolve,hc,hargs',htys',Sem.run_bind,Sem.run_pure,Result.andThen_ok,invoke,builtin];simp[hu]
 rw[hv2]at hrun hexec;have same:(rows.take off++(ys.take 0++rows.drop (off+0)))=rows:=by simp
 have hcopy: ∀ad1 cap1 w',(∀b,ad1=some b→(storeCells b us).run P w= .ok () w')→(ad1=none→w'=w)→
   (Builtin.copy_ #[t,t] o.type #[.slice ad1 len cap1, .slice ad2 ys.length cap2]).run P w= .ok (.int .i64 (min ys.length len:Nat)) w':=by
  intro ad1 cap1 w' h1 h2;have hm:Nat.min ys.length len=min ys.length len:=rfl;cases ad1 with
  |none=>
   obtain rfl:=h2 rfl;simp[Builtin.copy_,run_underlying ht,sizeOf,typeInfo,hi,Builtin.lenOf,hrun,goInt,hm]
  |some b=>simp[Builtin.copy_,run_underlying ht,sizeOf,typeInfo,hi,Builtin.lenOf,hrun,goInt,hm,h1 b rfl]
 have noth:len=0→ ∀ad1 cap1,a.eval x= .slice ad1 len cap1→lY P w0 W S0 ρ0 nb N σ a w o (.one (I (min ys.length len:Nat)))
   (σ.hp.set id (.lst i.size (rows.take off++(ys.take (min ys.length len)++rows.drop (off+min ys.length len))))):=by
  intro h0 ad1 cap1 hv;subst h0;have hus:us=[]:=List.eq_nil_of_length_eq_zero (by have:=hf.1;simpa using this)
  rw[hv]at hexec;refine⟨_,w,ρ,S,hexec _ _ (hcopy ad1 cap1 w (fun b _=>by rw[hus];simp[storeCells]) (fun _=>rfl)),?_, .int⟩
  rw[Nat.min_zero,same];have:σ.hp.set id (.lst i.size rows)=σ.hp:=by
   apply List.ext_getElem?;intro j;rw[List.getElem?_set];split
   ·rename_i e1;subst e1;rw[if_pos (List.getElem?_eq_some_iff.1 hb).1,hb]
   ·rfl
  rw[this];exact h
 generalize hvx:a.eval x=vx at hx;cases hx with
 |ri h=>cases h
 |nil=>exact noth rfl _ _ hvx
 |sl hL hcl hs ha=>
  rename_i cap1 ad L e' n';by_cases h0:len=0
  ·exact noth h0 _ _ hvx
  rcases ha with ha|⟨rfl,hfit⟩
  ·omega
  rw[hvx]at hexec;have hbr:=h.heap.br id _ hb;rcases hbr with⟨hnone,-⟩|⟨M,hM,hwh,hsz,-,hrr,hall⟩
  ·rw[hL]at hnone;simp at hnone
  obtain rfl:L=M:=by rw[hL]at hM;exact Option.some.inj hM
  have hlive:live σ.hp id:=⟨_,hb,by simp⟩
  obtain⟨c0,e0,hc0,hs0⟩:=hrr.obj;have hfl:us.length=min ys.length len*L.sz:=by rw[hf.1,hlen',hsz]
  have hmul:(off+min ys.length len)*L.sz≤rows.length*L.sz:=Nat.mul_le_mul_right _ (by omega)
  rw[Nat.add_mul]at hmul;obtain⟨w',hst,hw⟩:=nQ (P:=P) us (L.base+off*L.sz) 0 w c0 e0 hc0 (by omega) (hf.one hpos)
  have hle':off+(ys.take (min ys.length len)).length≤rows.length:=by omega
  have hnew:=hrr.splice hle' hw (by rw[hsz];exact hf.imp fun _ _ h=> .ri h) (fun t v ht=>h.heap.rt hlive hL hw ht)
  rw[hlen']at hnew;refine⟨_,w',ρ,S,hexec _ _ (hcopy _ cap1 w' (fun b hb=>by obtain rfl:=Option.some.inj hb;exact hst) (by simp)),?_, .int⟩
  refine h.write hlive hL hw (fun o _ _=>⟨rfl, .inl hwh⟩) _ (.inr ⟨L,hL,hwh,hsz,by omega,hnew,fun r hr=>?_⟩)
  simp only[List.mem_append]at hr;rcases hr with hr|hr|hr
  ·exact hall r (List.mem_of_mem_take hr)
  ·exact hin r (List.mem_of_mem_take hr)
  ·exact hall r (List.mem_of_mem_drop hr)
end
end Go.Zq

namespace Go.Zq
open Go
section
variable{P:Program}{w0:World}{W:Nat→Nat→Prop}{S0:Rds}{ρ0:Rho}{nb N:Nat}{ρ:Rho}{S:Rds}{σ:St}{a:Act}{w:World}
theorem aIX{c:Option Nat}{v:Value}{t:T}(h:EQ c v=some t):inList t=true:=by
 unfold EQ at h;split at h
 ·obtain rfl:=Option.some.inj h;rfl
 ·obtain⟨h1,h2⟩:=bQ h;obtain rfl:=Option.some.inj h2;exact h1
 ·simp at h
theorem XI: ∀{cs:List (Option Nat)}{vs:List Value}{r:Row},qX cs vs=some r→r.all inList=true
 |[],[],r,h=>by
  simp only[qX,Option.some.injEq]at h;subst h;rfl
 |c::cs,v::vs,r,h=>by
  simp only[qX,Option.bind_eq_some_iff,Option.some.injEq]at h;obtain⟨t,ht,r',hr,rfl⟩:=h;simp[aIX ht,XI hr]
 |[],_::_,_,h=>by simp[qX]at h
 |_::_,[],_,h=>by simp[qX]at h
theorem HF{t:TypeId}{z:Row}(h:iY P t=some z):z.all inList=true:=by
 unfold iY at h;simp only[Option.bind_eq_some_iff]at h;obtain⟨x,hx,zv,hz,cs,-,h⟩:=h;exact XI (bQ h).2
def CR(ρ:Rho)(w:World)(S:Rds)(cs:Row)(arr:Array Value):Prop:=
 cs.length=arr.size∧ ∀(k:Nat)(t:T),cs[k]? =some t→ ∃u,arr[k]? =some u∧RT ρ w S t u
theorem CT{e:TypeId}{z:Row}(hz:iY P e=some z){x:TypeInfo}{zv:Value}(hx:P.info? e=some x)(hzv:x.zero=some zv)(n:Nat){m:Nat}(hm:n≤m):
  ∀(j k:Nat)(t:T),((List.replicate n z)[j]?).bind (·[k]?)=some t→ ∃u,(madeCells zv.cells (m*x.size))[j*x.size+k]? =some u∧RT ρ w S t u:=by
 intro j k t ht;obtain⟨x',zv',h1,h2,h3,h4,h5⟩:=jU hz;obtain rfl:x=x':=by rw[hx]at h1;exact Option.some.inj h1
 obtain rfl:zv=zv':=by rw[hzv]at h2;exact Option.some.inj h2
 obtain⟨r,hr,hk⟩:=hD ht;have hj:j<n:=by have:=(List.getElem?_eq_some_iff.1 hr).1;simpa using this
 obtain rfl:z=r:=by simpa [List.getElem?_replicate,hj]using hr
 obtain⟨u,hu,hru⟩:=h5 (ρ:=ρ) (w:=w) (S:=S) k t hk;have hkl:=(List.getElem?_eq_some_iff.1 hk).1;have hlt:j*x.size+k<m*x.size:=by
  have:=Nat.mul_le_mul_right x.size (show j+1≤m by omega)
  rw[Nat.add_mul]at this;omega
 refine⟨u,?_,hru⟩;have hmod:(j*x.size+k)%zv.cells.size=k:=by
  rw[h3,Nat.add_comm,Nat.mul_comm,Nat.add_mul_mod_self_left];exact Nat.mod_eq_of_lt (by omega)
 have hku:k<zv.cells.size:=by omega
 have hu':zv.cells[k]! =u:=by
  rw[getElem!_pos zv.cells k hku];exact(Array.getElem?_eq_some_iff.1 hu).2
 simp[madeCells,hlt,hmod,hu']
theorem a1W(h:Sim w0 W S0 ρ0 nb N ρ S σ a w){o:Oper}{t e:TypeId}{i:TypeInfo}{n c:Operand}(ho:o.op= .makeSlice t n c)(ht:P.underlying t=some (.slice e)){z:Row}(hz:iY P e=some z)
  (hi:P.info? e=some i) (hpos:0<z.length) {kn kc:IntKind} {vn vc:Int} (hn:a.eval n= .int kn vn) (hc:a.eval c= .int kc vc) (h0:0≤vn) (h1:vn≤vc) (h2:vc*i.bytes≤room) (h3:vc≤room):
  lY P w0 W S0 ρ0 nb N σ a w o (.one (.sl σ.hp.length 0 vn.toNat)) (σ.hp++[.lst z.length (List.replicate vn.toNat z)]):=by
 obtain⟨x,zv,k1,k2,k3,k4,-⟩:=jU hz;obtain rfl:i=x:=by rw[hi]at k1;exact Option.some.inj k1
 unfold room at h2 h3;have hrun:=run_make (P:=P) w t e i zv ht hi k2 kn kc vn vc h0 h1 (by rw[Int.mul_comm];omega) (by omega)
 have hsz:(madeCells zv.cells (vc.toNat*i.size)).size=vc.toNat*i.size:=size_madeCells _ _;refine⟨.slice (some ⟨w.heap.size,0,none⟩) vn.toNat vc.toNat,_,_,S,?_,h.push (madeCells zv.cells (vc.toNat*i.size)) e (.lst z.length (List.replicate vn.toNat z)) (by simp) z.length true
  ⟨rfl,rfl,hpos,?_,fun r hr=>by rw[(List.mem_replicate.1 hr).2],fun r hr=>by rw[(List.mem_replicate.1 hr).2];exact HF hz,?_⟩, .one ?_⟩
 ·simp only[execOp,ho,hn,hc];simp[hrun]
 ·rw[hsz,k4,List.length_replicate];exact Nat.mul_le_mul_right _ (by omega)
 ·rw[k4];exact CT hz hi k2 vn.toNat (by omega)
 ·have:=RT.sl (S:=S) (id:=σ.hp.length) (off:=0) (len:=vn.toNat) (cap:=vc.toNat) (a:=⟨w.heap.size,0,none⟩) (L:=⟨w.heap.size,0,z.length,true⟩)
   (ρ:=fun j=>if j=σ.hp.length then some ⟨w.heap.size,0,z.length,true⟩else ρ j) (w:={w with heap:=w.heap.push (.cells (madeCells zv.cells (vc.toNat*i.size)) e)}) (e:=e) (n:=vc.toNat*i.size)
   (if_pos rfl) (by omega) (by simp[World.shape?,hsz]) (.inr ⟨by simp,by simp[k4]⟩)
  exact this
theorem XJ(off:Nat): ∀(l:List Value)(i:Nat)(arr:Array Value)(k:Nat),
  (((l.zipIdx i).foldl (fun cs x=>cs.setIfInBounds (off+x.2) x.1) arr).size=arr.size)∧
  ((l.zipIdx i).foldl (fun cs x=>cs.setIfInBounds (off+x.2) x.1) arr)[k]? =if off+i≤k∧k<off+i+l.length∧k<arr.size then l[k-(off+i)]? else arr[k]? :=by
 intro l
 induction l with
 |nil=>intro i arr k;simp;omega
 |cons v l ih=>
  intro i arr k;obtain⟨h1,h2⟩:=ih (i+1) (arr.setIfInBounds (off+i) v) k;simp only[List.zipIdx_cons,List.foldl_cons];refine⟨by rw[h1];simp,?_⟩
  rw[h2];simp only[Array.size_setIfInBounds,List.length_cons];by_cases c1:off+(i+1)≤k∧k<off+(i+1)+l.length∧k<arr.size
  ·rw[if_pos c1,if_pos (by omega)]
   obtain⟨j,rfl⟩: ∃j,k=off+(i+1)+j:=⟨k-(off+(i+1)),by omega⟩
   rw[show off+(i+1)+j-(off+(i+1))=j by omega,show off+(i+1)+j-(off+i)=j+1 by omega,List.getElem?_cons_succ]
  ·rw[if_neg c1,Array.getElem?_setIfInBounds];by_cases c2:off+i=k
   ·subst c2;by_cases c3:off+i<arr.size
    ·rw[if_pos rfl,if_pos c3,if_pos (by omega)];simp
    ·rw[if_pos rfl,if_neg c3,if_neg (by omega),Array.getElem?_eq_none (by omega)]
   ·rw[if_neg c2,if_neg (by omega)]
def put(cells:Array Value)(off:Nat)(v:Value):Array Value:=v.cells.zipIdx.foldl (fun cs (c,j)=>cs.setIfInBounds (off+j) c) cells
theorem aFT(cells:Array Value)(off:Nat)(v:Value)(h:off+v.cells.size≤cells.size):
  (put cells off v).size=cells.size∧ ∀k:Nat,(put cells off v)[k]? =if off≤k∧k<off+v.cells.size then v.cells[k-off]? else cells[k]? :=by
 have e:put cells off v=((v.cells.toList.zipIdx 0).foldl (fun cs x=>cs.setIfInBounds (off+x.2) x.1) cells):=by
  unfold put;rw[←Array.foldl_toList,Array.toList_zipIdx]
 rw[e];refine⟨(XJ off v.cells.toList 0 cells 0).1,fun k=>?_⟩
 rw[(XJ off v.cells.toList 0 cells k).2];simp only[Nat.add_zero,Array.length_toList,Array.getElem?_toList];by_cases c:off≤k∧k<off+v.cells.size
 ·rw[if_pos c,if_pos (by omega)]
 ·rw[if_neg c,if_neg (by omega)]
theorem CR.put{cs:Row}{cells:Array Value}(h:CR ρ w S cs cells){off:Nat}{v:Value}{new:Row}(hn:CR ρ w S new v.cells)(hle:off+new.length≤cs.length):
  CR ρ w S (wr cs off new) (Zq.put cells off v):=by
 obtain⟨h1,h2⟩:=h;obtain⟨n1,n2⟩:=hn;obtain⟨p1,p2⟩:=aFT cells off v (by omega)
 refine⟨by rw[LX hle,p1,h1],fun k t ht=>?_⟩
 rw[aIS hle]at ht;rw[p2];split at ht
 ·rename_i c;rw[if_pos (by omega)]
  exact n2 _ t ht
 ·rename_i c;rw[if_neg (by omega)]
  exact h2 k t ht
theorem aIY(h:Sim w0 W S0 ρ0 nb N ρ S σ a w){fs:Array Field}: ∀(l:List (Nat×Operand))(ps:List (Nat×Nat×Opd)),zS P N fs l=some ps→ ∀(cs r:Row)(cells:Array Value),CR ρ w S cs cells→
  Zq.fill σ.ev cs ps=some r→ ∀place:Nat→Option (Nat×Nat),(∀(j:Nat)(f:Field)(n:Nat),fs[j]? =some f→oZ P f.type=some n→place j=some (f.offset,n))→
  ∃arr,Instr.fill place cells (l.map fun(i,x)=>(i,a.eval x))=some arr∧CR ρ w S r arr:=by
 intro l
 induction l with
 |nil=>
  intro ps hps cs r cells hcr hf place _;obtain rfl:=by simpa [zS]using hps
  obtain rfl:=by simpa [Zq.fill]using hf
  exact⟨cells,rfl,hcr⟩
 |cons p l ih=>
  intro ps hps cs r cells hcr hf place hpl;obtain⟨j,x⟩:=p;simp only[zS,Option.bind_eq_some_iff,Option.some.injEq]at hps;obtain⟨f,hfj,n,hn,y,hy,ps',hps',rfl⟩:=hps;simp only[Zq.fill,Option.bind_eq_some_iff]at hf;obtain⟨v,hv,new,hnew,hf⟩:=hf;obtain⟨⟨hl,hle⟩,hf1⟩:=bQ hf;have hrs:=dY h hy hv;have hcn:=hrs.cells hnew;have hs:(a.eval x).cells.size=n:=by rw[←hcn.1];exact hl
  obtain⟨arr,ha,hra⟩:=ih ps' hps' _ r _ (hcr.put hcn (by omega)) hf1 place hpl
  refine⟨arr,?_,hra⟩;have hcs:=hcr.1;simp only[List.map_cons,Instr.fill,hpl j f n hfj hn];rw[if_neg (by simp;omega)]
  exact ha
end
end Go.Zq

namespace Go.Zq
open Go
section
variable{P:Program}{w0:World}{W:Nat→Nat→Prop}{S0:Rds}{ρ0:Rho}{nb N:Nat}{ρ:Rho}{S:Rds}{σ:St}{a:Act}{w:World}
def FR(ρ:Rho)(w:World)(S:Rds)(sz:Nat)(rows:List Row)(arr:Array Value):Prop:=
 arr.size=rows.length*sz∧(∀r∈rows,r.length=sz)∧(∀r∈rows,r.all inList=true)∧
 ∀(j k:Nat)(t:T),(rows[j]?).bind (·[k]?)=some t→ ∃u,arr[j*sz+k]? =some u∧RT ρ w S t u
theorem FR.set{sz:Nat}{rows:List Row}{arr:Array Value}(h:FR ρ w S sz rows arr){j:Nat}{old new:Row}(hj:rows[j]? =some old)(hl:new.length=old.length)(hin:new.all inList=true)
  {v:Value} (hn:CR ρ w S new v.cells):FR ρ w S sz (rows.set j new) (put arr (j*sz) v):=by
 obtain⟨h1,h2,h3,h4⟩:=h;obtain⟨n1,n2⟩:=hn;have hjl:=(List.getElem?_eq_some_iff.1 hj).1;have hol:=h2 old (List.mem_of_getElem? hj);have hm:=Nat.mul_le_mul_right sz (show j+1≤rows.length by omega)
 rw[Nat.add_mul]at hm;obtain⟨p1,p2⟩:=aFT arr (j*sz) v (by omega)
 refine⟨by rw[p1,h1];simp,fun r hr=>?_,fun r hr=>?_,fun i k t ht=>?_⟩
 ·rcases List.mem_or_eq_of_mem_set hr with hr|hr
  ·exact h2 r hr
  ·rw[hr];omega
 ·rcases List.mem_or_eq_of_mem_set hr with hr|hr
  ·exact h3 r hr
  ·rw[hr];exact hin
 ·rw[List.getElem?_set]at ht;rw[p2];by_cases e:j=i
  ·subst e;rw[if_pos rfl,if_pos hjl,Option.bind_some]at ht;have hk:=(List.getElem?_eq_some_iff.1 ht).1;rw[if_pos (by omega),show j*sz+k-j*sz=k by omega]
   exact n2 k t ht
  ·rw[if_neg e]at ht;obtain⟨r,hr,hk⟩:=hD ht;have hrl:=h2 r (List.mem_of_getElem? hr);have hkl:=(List.getElem?_eq_some_iff.1 hk).1;rw[if_neg]
   ·exact h4 i k t ht
   ·rcases Nat.lt_or_gt_of_ne e with e|e
    ·have:=Nat.mul_le_mul_right sz (show j+1≤i by omega)
     rw[Nat.add_mul]at this;omega
    ·have:=Nat.mul_le_mul_right sz (show i+1≤j by omega)
     rw[Nat.add_mul]at this;omega
theorem QI(h:Sim w0 W S0 ρ0 nb N ρ S σ a w){e:TypeId}{sz:Nat}: ∀(l:List (Nat×Operand))(ps:List (Nat×Opd)),zT P N e l=some ps→ ∀(rows r:List Row)(cells:Array Value),FR ρ w S sz rows cells→
  Zq.fillRows σ.ev rows ps=some r→
  ∃arr,Instr.fill (fun i=>some (i*sz,sz)) cells (l.map fun(i,x)=>(i,a.eval x))=some arr∧FR ρ w S sz r arr:=by
 intro l
 induction l with
 |nil=>
  intro ps hps rows r cells hcr hf;obtain rfl:=by simpa [zT]using hps
  obtain rfl:=by simpa [Zq.fillRows]using hf
  exact⟨cells,rfl,hcr⟩
 |cons p l ih=>
  intro ps hps rows r cells hcr hf;obtain⟨j,x⟩:=p;simp only[zT,Option.bind_eq_some_iff,Option.some.injEq]at hps;obtain⟨y,hy,ps',hps',rfl⟩:=hps;simp only[Zq.fillRows,Option.bind_eq_some_iff]at hf;obtain⟨v,hv,new,hnew,hf⟩:=hf;cases hold:rows[j]? with
  |none=>simp[hold]at hf
  |some old=>
   simp only[hold]at hf;obtain⟨⟨hl,hin⟩,hf1⟩:=bQ hf;have hcn:=(dY h hy hv).cells hnew;obtain⟨arr,ha,hra⟩:=ih ps' hps' _ r _ (hcr.set hold hl hin hcn) hf1;refine⟨arr,?_,hra⟩;obtain⟨h1,h2,-,-⟩:=hcr;have hol:=h2 old (List.mem_of_getElem? hold);have hjl:=(List.getElem?_eq_some_iff.1 hold).1;have hm:=Nat.mul_le_mul_right sz (show j+1≤rows.length by omega)
   rw[Nat.add_mul]at hm;have hs:=hcn.1;simp only[List.map_cons,Instr.fill];rw[if_neg (by simp;omega)]
   exact ha
theorem a1X(h:Sim w0 W S0 ρ0 nb N ρ S σ a w){o:Oper}{t e:TypeId}{n:Nat}{parts:Array (Nat×Operand)}(ho:o.op= .buildSlice t n parts)(ht:P.underlying t=some (.slice e)){z:Row}(hz:iY P e=some z)
  (hpos:0<z.length) (hlim:n*z.length≤2^24) {ps:List (Nat×Opd)} (hps:zT P N e parts.toList=some ps) {rows:List Row} (hr:Zq.fillRows σ.ev (List.replicate n z) ps=some rows):
  lY P w0 W S0 ρ0 nb N σ a w o (.one (.sl σ.hp.length 0 rows.length)) (σ.hp++[.lst z.length rows]):=by
 obtain⟨x,zv,k1,k2,k3,k4,-⟩:=jU hz;have hfr:FR ρ w S x.size (List.replicate n z) (madeCells zv.cells (n*x.size)):=
  ⟨by rw[size_madeCells];simp,fun r hr=>by rw[(List.mem_replicate.1 hr).2,k4],fun r hr=>by rw[(List.mem_replicate.1 hr).2];exact HF hz,CT hz k1 k2 n (Nat.le_refl n)⟩
 obtain⟨arr,ha,g1,g2,g3,g4⟩:=QI h parts.toList ps hps _ rows _ hfr hr;have hn:rows.length=n:=by
  clear ha g1 g2 g3 g4 hfr
  have: ∀(ps:List (Nat×Opd))(rs rows:List Row),Zq.fillRows σ.ev rs ps=some rows→rows.length=rs.length:=by
   intro ps
   induction ps with
   |nil=>
    intro rs rows hr;simp only[Zq.fillRows,Option.some.injEq]at hr;rw[hr]
   |cons p ps ih=>
    intro rs rows hr;obtain⟨j,y⟩:=p;simp only[Zq.fillRows,Option.bind_eq_some_iff]at hr;obtain⟨v,-,new,-,hr⟩:=hr;cases hold:rs[j]? with
    |none=>simp[hold]at hr
    |some old=>
     simp only[hold]at hr;have:=ih _ _ (bQ hr).2;simpa using this
  simpa using this _ _ _ hr
 refine⟨.slice (some ⟨w.heap.size,0,none⟩) n n,_,_,S,?_,h.push arr e (.lst z.length rows) (by simp) z.length true ⟨rfl,rfl,hpos,by rw[g1,k4];exact Nat.le_refl _,by rw[k4];exact g2,g3,by rw[k4];exact g4⟩, .one ?_⟩
 ·simp only[execOp,ho];have hpos':¬(n*x.size>2^24):=by rw[←k4];omega
  have hmade:(Array.range (n*x.size)).map (fun i=>zv.cells[i%zv.cells.size]!)=madeCells zv.cells (n*x.size):=rfl
  have ha':Instr.fill (fun i=>some (i*x.size,x.size)) ((Array.range (n*x.size)).map (fun i=>zv.cells[i%zv.cells.size]!)) (parts.map fun(i,x)=>(i,a.eval x)).toList=some arr:=by
   rw[hmade,Array.toList_map];exact ha
  by_cases h0:n*x.size=0
  ·have ha0:Instr.fill (fun i=>some (i*x.size,x.size)) #[] (parts.map fun(i,x)=>(i,a.eval x)).toList=some arr:=by
    rw[h0]at ha';simpa [Array.range_zero']using ha'
   simp[Instr.buildSlice,run_underlying ht,sizeOf,typeInfo,k1,h0,newRow,Array.range_zero']at ha0⊢;rw[ha0];rfl
  ·simp[Instr.buildSlice,run_underlying ht,sizeOf,typeInfo,zeroValue,k1,k2,newRow,h0]at ha'⊢;rw[if_neg (by omega),ha']
   rfl
 ·have:=RT.sl (S:=S) (id:=σ.hp.length) (off:=0) (len:=n) (cap:=n) (a:=⟨w.heap.size,0,none⟩) (L:=⟨w.heap.size,0,z.length,true⟩)
   (ρ:=fun j=>if j=σ.hp.length then some ⟨w.heap.size,0,z.length,true⟩else ρ j) (w:={w with heap:=w.heap.push (.cells arr e)}) (e:=e) (n:=arr.size)
   (if_pos rfl) (Nat.le_refl _) (by simp[World.shape?]) (.inr ⟨by simp,by rw[g1,hn,k4];simp⟩)
  rw[hn];exact this
theorem OE: ∀(fs:List Field),(∀f∈fs,(P.info? f.type).isSome=true)→ ∃places,fs.mapM (fun f=>(P.info? f.type).map fun i=>(f.offset,i.size))=some places∧
  ∀(j:Nat)(f:Field)(n:Nat),fs[j]? =some f→oZ P f.type=some n→places[j]? =some (f.offset,n)
 |[],_=>⟨[],rfl,fun j f n h=>by simp at h⟩
 |f::fs,h=>by
  obtain⟨ps,h1,h2⟩:=OE fs (fun g hg=>h g (List.mem_cons_of_mem _ hg))
  obtain⟨i,hi⟩:=Option.isSome_iff_exists.1 (h f (List.mem_cons_self ..));refine⟨(f.offset,i.size)::ps,by simp[List.mapM_cons,hi,h1],fun j g n hj hn=>?_⟩
  cases j with
  |zero=>
   obtain rfl:f=g:=by simpa using hj
   obtain rfl:i.size=n:=by simpa [oZ,hi]using hn
   rfl
  |succ j=>exact h2 j g n (by simpa using hj) hn
theorem a1Y(h:Sim w0 W S0 ρ0 nb N ρ S σ a w){o:Oper}{t:TypeId}{parts:Array (Nat×Operand)}(ho:o.op= .build t parts){fs:Array Field}(ht:P.underlying t=some (.struct fs))
  (hall:fs.all (fun f=>(P.info? f.type).isSome)=true) {z:Row} (hz:iY P t=some z) {ps:List (Nat×Nat×Opd)} (hps:zS P N fs parts.toList=some ps) {cs:Row} (hr:Zq.fill σ.ev z ps=some cs):
  lY P w0 W S0 ρ0 nb N σ a w o (.agg cs) σ.hp:=by
 obtain⟨x,zv,k1,k2,k3,k4,k5⟩:=jU hz;obtain⟨places,p1,p2⟩:=OE (P:=P) fs.toList (fun f hf=>by rw[Array.all_eq_true']at hall;exact hall f (Array.mem_def.2 hf))
 obtain⟨arr,ha,hcr⟩:=aIY h parts.toList ps hps z cs zv.cells ⟨by omega,k5⟩ hr (places.toArray[·]?) (fun j f n hj hn=>by simpa using p2 j f n (by simpa using hj) hn)
 have hb:P.built t (parts.map fun(i,x)=>(i,a.eval x)).toList=some arr:=by
  simp only[Program.built,k1,ht,k2,p1];rw[Array.toList_map];exact ha
 refine eG h (u:= .agg arr) ?_ (.agg hcr.1 fun k t ht=>?_)
 ·simp only[execOp,ho];simp[run_build w t _ arr hb]
 ·obtain⟨u,hu,hru⟩:=hcr.2 k t ht;simpa [Array.getD_eq_getD_getElem?,hu]using hru
end
end Go.Zq

namespace Go.Zq
open Option renaming bind_eq_some_iff → qB
open Option renaming map_eq_some_iff → q_c
open Go
section
variable{P:Program}{w0:World}{W:Nat→Nat→Prop}{S0:Rds}{ρ0:Rho}{nb N:Nat}{ρ:Rho}{S:Rds}{σ:St}{a:Act}{w:World}
theorem LY: ∀{gs:List Nat}{xs ys:Row}{r:Bool},mP gs xs ys=some r→xs.length=gs.length∧ys.length=gs.length
 |[],[],[],_,_=>⟨rfl,rfl⟩
 |g::gs,x::xs,y::ys,r,h=>by
  simp only[mP,qB]at h;obtain⟨e,-,r',h2,-⟩:=h;obtain⟨h3,h4⟩:=LY h2;exact⟨by simp[h3],by simp[h4]⟩
 |[],[],_::_,_,h=>by simp[mP]at h
 |[],_::_,_,_,h=>by simp[mP]at h
 |_::_,[],_,_,h=>by simp[mP]at h
 |_::_,_::_,[],_,h=>by simp[mP]at h
theorem JU: ∀{gs hs:List Nat}{xs ys:Row}{r:Bool},mP (gs++hs) xs ys=some r→
  ∃r1 r2,mP gs (xs.take gs.length) (ys.take gs.length)=some r1∧mP hs (xs.drop gs.length) (ys.drop gs.length)=some r2∧r=(r1&&r2)
 |[],hs,xs,ys,r,h=>⟨true,r,by simp[mP],by simpa using h,by simp⟩
 |g::gs,hs,x::xs,y::ys,r,h=>by
  simp only[List.cons_append,mP,qB,Option.some.injEq]at h;obtain⟨e,h1,r',h2,rfl⟩:=h;obtain⟨r1,r2,h3,h4,rfl⟩:=JU h2;exact⟨e&&r1,r2,by simp[mP,h1,h3],by simpa using h4,by simp[Bool.and_assoc]⟩
 |_::_,_,[],_,_,h=>by simp[mP]at h
 |_::_,_,_::_,[],_,h=>by simp[mP]at h
theorem RT.litv{v u:Value}(h:RT ρ w S (.lit v) u):u=v:=by
 cases h with
 |ri h=>cases h;rfl
def AR(ρ:Rho)(w:World)(S:Rds)(cs:Row)(arr:Array Value):Prop:=cs.length=arr.size∧ ∀(k:Nat)(t:T),cs[k]? =some t→RT ρ w S t (arr.getD k undef)
theorem AR.extract{cs:Row}{arr:Array Value}(h:AR ρ w S cs arr){o n:Nat}(hn:o+n≤cs.length):AR ρ w S ((cs.drop o).take n) (arr.extract o (o+n)):=by
 obtain⟨h1,h2⟩:=h;refine⟨by simp;omega,fun k t ht=>?_⟩
 have hk:k<n:=by have:=(List.getElem?_eq_some_iff.1 ht).1;simp at this;omega
 rw[List.getElem?_take_of_lt hk,List.getElem?_drop]at ht;have:=h2 _ t ht;have hlt:o+k<arr.size:=by omega
 simpa [Array.getD_eq_getD_getElem?,Array.getElem?_extract,hk,hlt,show min (o+n) arr.size=o+n by omega]using this
theorem aXV{t:TypeId}{d:TypeDesc}(h:P.underlying t=some d)(h1: ∀fs,d≠ .struct fs)(h2: ∀n e,d≠ .array n e):(isAgg t).run P w= .ok false w:=by
 apply ES;unfold HD;rw[h];cases d<;>simp_all
theorem zU{t:TypeId}{d:TypeDesc}(h:P.underlying t=some d)(h1: ∀fs,d≠ .struct fs)(h2: ∀n e,d≠ .array n e){cs:Row}{arr:Array Value}(hr:AR ρ w S cs arr){o:Nat}{v:Value}(hv:cs[o]? =some (.lit v)):
  (part t arr o).run P w= .ok v w:=by
 have hlt:o<arr.size:=by rw[←hr.1];exact(List.getElem?_eq_some_iff.1 hv).1
 have:=(hr.2 o _ hv).litv;simp only[Array.getD_eq_getD_getElem?,hlt,Array.getElem?_eq_getElem,Option.getD_some]at this;simp[part,aXV h h1 h2,hlt,this]
theorem aFU{t:TypeId}{fs:Array Field}(h:P.underlying t=some (.struct fs)){n:Nat}(hn:oZ P t=some n){arr:Array Value}{o:Nat}:(part t arr o).run P w= .ok (.agg (arr.extract o (o+n))) w:=by
 have:HD P t=some true:=by simp[HD,h]
 simp[part,ES this,vU hn]
theorem QJ{k:TypeId→Option (List Nat)}{d:Nat}(hk: ∀t gs,k t=some gs→ ∀(xs ys:Row)(r:Bool)(as bs:Array Value),AR ρ w S xs as→AR ρ w S ys bs→mP gs xs ys=some r→
   (Op.equalIn (d+1) t (.agg as) (.agg bs)).run P w= .ok r w) {xs ys:Row} {as bs:Array Value} (hx:AR ρ w S xs as) (hy:AR ρ w S ys bs):
  ∀(fs:List Field)(o:Nat)(gs:List Nat),CQ P k o fs=some gs→ ∀r,mP gs (xs.drop o) (ys.drop o)=some r→(Op.eqFields (d+1) as bs fs).run P w= .ok r w:=by
 intro fs
 induction fs with
 |nil=>
  intro o gs hg r hr;obtain rfl:=by simpa [CQ]using hg
  obtain⟨h1,h2⟩:=LY hr;rw[List.eq_nil_of_length_eq_zero h1,List.eq_nil_of_length_eq_zero h2]at hr;obtain rfl:=by simpa [mP]using hr
  rfl
 |cons f fs ih=>
  intro o gs hg r hr;simp only[CQ]at hg;obtain⟨⟨hname,rfl⟩,hg1⟩:=bQ hg;have one: ∀(g:Nat)(gs':List Nat),CQ P k (f.offset+1) fs=some gs'→gs=g::gs'→ ∃x y e r',xs[f.offset]? =some x∧ys[f.offset]? =some y∧aFN g x y=some e∧r=(e&&r')∧
    (Op.eqFields (d+1) as bs fs).run P w= .ok r' w:=by
   intro g gs' hgs' e;subst e;cases hdx:xs.drop f.offset with
   |nil=>simp[hdx,mP]at hr
   |cons x xr=>
    cases hdy:ys.drop f.offset with
    |nil=>simp[hdx,hdy,mP]at hr
    |cons y yr=>
     simp only[hdx,hdy,mP,qB,Option.some.injEq]at hr;obtain⟨e,h1,r',h2,rfl⟩:=hr;have hx0:xs[f.offset]? =some x:=by rw[←Nat.add_zero f.offset,←List.getElem?_drop,hdx];rfl
     have hy0:ys[f.offset]? =some y:=by rw[←Nat.add_zero f.offset,←List.getElem?_drop,hdy];rfl
     have hxr:xs.drop (f.offset+1)=xr:=by rw[←List.drop_drop,hdx];rfl
     have hyr:ys.drop (f.offset+1)=yr:=by rw[←List.drop_drop,hdy];rfl
     exact⟨x,y,e,r',hx0,hy0,h1,rfl,ih _ gs' hgs' r' (by rw[hxr,hyr];exact h2)⟩
  have join: ∀{va vb:Value}{e r':Bool},(part f.type as f.offset).run P w= .ok va w→(part f.type bs f.offset).run P w= .ok vb w→(Op.equalIn (d+1) f.type va vb).run P w= .ok e w→
    (Op.eqFields (d+1) as bs fs).run P w= .ok r' w→(Op.eqFields (d+1) as bs (f::fs)).run P w= .ok (e&&r') w:=by
   intro va vb e r' h1 h2 h3 h4;simp only[Op.eqFields];rw[if_pos hname];cases e<;>simp[h1,h2,h3,h4]
  split at hg1
  ·rename_i kk hu;simp only[q_c]at hg1;obtain⟨gs',hgs',rfl⟩:=hg1;obtain⟨x,y,e,r',hx0,hy0,h1,rfl,h2⟩:=one 0 gs' hgs' rfl;unfold aFN at h1;split at h1
   ·rename_i k1 va k2 vb _;obtain⟨rfl,h1'⟩:=bQ h1;obtain rfl:=Option.some.inj h1';exact join (zU hu (by simp) (by simp) hx hx0) (zU hu (by simp) (by simp) hy hy0) (run_equalIn_int w d f.type _ kk _ _ hu) h2
   ·simp at*
   ·simp at*
   ·simp at h1
  ·rename_i hu;simp only[q_c]at hg1;obtain⟨gs',hgs',rfl⟩:=hg1;obtain⟨x,y,e,r',hx0,hy0,h1,rfl,h2⟩:=one 1 gs' hgs' rfl;unfold aFN at h1;split at h1
   ·simp at*
   ·obtain rfl:=Option.some.inj h1;exact join (zU hu (by simp) (by simp) hx hx0) (zU hu (by simp) (by simp) hy hy0) (run_equalIn_bool' w d f.type _ _ hu) h2
   ·simp at*
   ·simp at h1
  ·rename_i hu;simp only[q_c]at hg1;obtain⟨gs',hgs',rfl⟩:=hg1;obtain⟨x,y,e,r',hx0,hy0,h1,rfl,h2⟩:=one 2 gs' hgs' rfl;unfold aFN at h1;split at h1
   ·simp at*
   ·simp at*
   ·obtain rfl:=Option.some.inj h1;exact join (zU hu (by simp) (by simp) hx hx0) (zU hu (by simp) (by simp) hy hy0) (run_equalIn_string w d f.type _ _ hu) h2
   ·simp at h1
  ·rename_i fs' hu;simp only[qB]at hg1;obtain⟨g,hgk,hg2⟩:=hg1;obtain⟨⟨hsz,hg0⟩,hg3⟩:=bQ hg2;simp only[q_c]at hg3;obtain⟨gs',hgs',rfl⟩:=hg3;obtain⟨hl1,hl2⟩:=LY hr;simp only[List.length_drop,List.length_append]at hl1 hl2;obtain⟨r1,r2,h1,h2,rfl⟩:=JU hr;rw[List.drop_drop,List.drop_drop]at h2;exact join (aFU hu hsz) (aFU hu hsz) (hk f.type g hgk _ _ r1 _ _ (hx.extract (by omega)) (hy.extract (by omega)) h1) (ih _ gs' hgs' r2 h2)
  ·simp at hg1
theorem ZL: ∀(f:Nat)(t:TypeId)(gs:List Nat),B7 P f t=some gs→ ∀(d:Nat)(xs ys:Row)(r:Bool)(as bs:Array Value),AR ρ w S xs as→AR ρ w S ys bs→mP gs xs ys=some r→
  (Op.equalIn (d+f+1) t (.agg as) (.agg bs)).run P w= .ok r w:=by
 intro f
 induction f with
 |zero=>intro t gs h;simp[B7]at h
 |succ f ih=>
  intro t gs h d xs ys r as bs hx hy hr;simp only[B7]at h;cases hu:P.underlying t with
  |none=>simp[hu]at h
  |some td=>
   cases td with
   |struct fs=>
    simp only[hu]at h;split at h
    ·simp at h
    ·rename_i hst;have hfo:P.fieldsOf t=fs:=by simp[Program.fieldsOf,hu]
     rw[show d+(f+1)+1=(d+f+1)+1 by omega,run_equalIn_struct w (d+f+1) t as bs (by rw[hfo];exact hu) (by simpa using hst),hfo]
     exact QJ (k:=B7 P f) (d:=d+f) (fun t gs hg xs ys r as bs h1 h2 h3=>ih t gs hg d xs ys r as bs h1 h2 h3) hx hy fs.toList 0 gs h r (by simpa using hr)
   |_=>simp[hu]at h
theorem a1Z{k:TypeId→Option (List Nat)}{d:Nat}(hk: ∀t gs,k t=some gs→P.eqGuardType (d+1) t=false): ∀(fs:List Field)(o:Nat)(gs:List Nat),CQ P k o fs=some gs→
  ∀f∈fs,(f.name != "_" &&P.eqGuardType (d+1) f.type)=false:=by
 intro fs
 induction fs with
 |nil=>intro o gs _ f hf;simp at hf
 |cons g fs ih=>
  intro o gs hg f hf;simp only[CQ]at hg;obtain⟨⟨hname,rfl⟩,hg1⟩:=bQ hg;rcases List.mem_cons.1 hf with rfl|hf
  ·split at hg1
   ·rename_i hu;simp[Program.eqGuardType,hu]
   ·rename_i hu;simp[Program.eqGuardType,hu]
   ·rename_i hu;simp[Program.eqGuardType,hu]
   ·simp only[qB]at hg1;obtain⟨g',hg',-⟩:=hg1;simp[hk _ _ hg']
   ·simp at hg1
  ·split at hg1
   ·simp only[q_c]at hg1;obtain⟨gs',hgs',-⟩:=hg1;exact ih _ _ hgs' f hf
   ·simp only[q_c]at hg1;obtain⟨gs',hgs',-⟩:=hg1;exact ih _ _ hgs' f hf
   ·simp only[q_c]at hg1;obtain⟨gs',hgs',-⟩:=hg1;exact ih _ _ hgs' f hf
   ·simp only[qB]at hg1;obtain⟨g',hg',hg2⟩:=hg1;have hg3:=(bQ hg2).2;simp only[q_c]at hg3;obtain⟨gs',hgs',-⟩:=hg3;exact ih _ _ hgs' f hf
   ·simp at hg1
theorem ZM: ∀(f:Nat)(t:TypeId)(gs:List Nat),B7 P f t=some gs→ ∀d,P.eqGuardType (d+f+1) t=false:=by
 intro f
 induction f with
 |zero=>intro t gs h;simp[B7]at h
 |succ f ih=>
  intro t gs h d;simp only[B7]at h;cases hu:P.underlying t with
  |none=>simp[hu]at h
  |some td=>
   cases td with
   |struct fs=>
    simp only[hu]at h;split at h
    ·simp at h
    ·rw[show d+(f+1)+1=(d+f+1)+1 by omega]
     have:=a1Z (k:=B7 P f) (d:=d+f) (fun t gs hg=>ih t gs hg d) fs.toList 0 gs h
     rw[Program.eqGuardType,hu];simp only;rw[Array.any_eq_false'];intro x hx;have:=this x (Array.mem_def.1 hx);simpa using this
   |_=>simp[hu]at h
theorem a10(h:Sim w0 W S0 ρ0 nb N ρ S σ a w){o:Oper}{neg:Bool}{t u:TypeId}{x y:Operand}(ho:o.op= .binOp (if neg then .neq else .eql) t x y u){gs:List Nat}(hg:B7 P 9 t=some gs)
  {vs us:Row} (hx:RS ρ w S (.agg vs) (a.eval x)) (hy:RS ρ w S (.agg us) (a.eval y)) {r:Bool} (hr:mP gs vs us=some r):
  lY P w0 W S0 ρ0 nb N σ a w o (.one (B (if neg then !r else r))) σ.hp:=by
 generalize hvx:a.eval x=vx at hx;generalize hvy:a.eval y=vy at hy;cases hx with
 |agg h1 h2=>
 cases hy with
 |agg h3 h4=>
 rename_i as bs;have he:=ZL (ρ:=ρ) (w:=w) (S:=S) 9 t gs hg 9990 vs us r as bs ⟨h1,h2⟩ ⟨h3,h4⟩ hr;have hd: ∃d,P.depth=d+9+1:=⟨P.depth-10,by simp only[Program.depth,Made.depth];omega⟩
 obtain⟨d,hd⟩:=hd;have hgd:=ZM 9 t gs hg d;refine eG h (u:= .bool (if neg then !r else r)) ?_ .bool
 simp only[execOp,ho,hvx,hvy];cases neg
 ·simp[run_eqGuard_agg w _ t x y as bs (by rw[hd];exact hgd),run_eql_struct,he]
 ·simp[run_eqGuard_agg w _ t x y as bs (by rw[hd];exact hgd),run_neq_struct,he]
end
end Go.Zq

namespace Go.Zq
open Option renaming bind_eq_some_iff → qB
open Option.some renaming injEq → qI
open Prod.mk renaming injEq → qP
open Go
section
variable{P:Program}{w0:World}{W:Nat→Nat→Prop}{S0:Rds}{ρ0:Rho}{nb N:Nat}{ρ:Rho}{S:Rds}{σ:St}{a:Act}{w:World}
theorem aXW(h:Sim w0 W S0 ρ0 nb N ρ S σ a w){x:Operand}{y:Opd}{v:SV}(ho:compK.opdB N x=some y)(he:σ.ev y=some v):RS ρ w S v (a.eval x):=by
 unfold compK.opdB at ho;split at ho
 ·split at ho
  ·obtain rfl:=by simpa using ho
   exact nT h he
  ·simp at ho
 ·obtain rfl:=by simpa using ho
  obtain rfl:=by simpa [St.ev]using he
  exact .one (.ri (.lit rfl))
 ·simp at ho
theorem ET(h:Sim w0 W S0 ρ0 nb N ρ S σ a w){x:Operand}{y:Opd}{v:SV}(ho:compK.opdP N x=some y)(he:σ.ev y=some v):RS ρ w S v (a.eval x):=by
 unfold compK.opdP at ho;split at ho
 ·split at ho
  ·obtain rfl:=by simpa using ho
   exact nT h he
  ·simp at ho
 ·simp at ho
theorem aIZ(h:Sim w0 W S0 ρ0 nb N ρ S σ a w){t:TypeId}{x:Operand}{y:Opd}{v:SV}(ho:compK.opdI' P N t x=some y)(he:σ.ev y=some v):RS ρ w S v (a.eval x):=by
 unfold compK.opdI' at ho;split at ho
 ·obtain rfl:=by simpa using ho
  obtain rfl:=by simpa [St.ev]using he
  exact .one (.ri (.lit rfl))
 ·exact dY h ho he
theorem aI0(h:Sim w0 W S0 ρ0 nb N ρ S σ a w): ∀(l:List Operand)(ps:List Opd),ER P N l=some ps→ ∀ts,vS σ.ev ps=some ts→
  ts.length=l.length∧ ∀(k:Nat)(t:T),ts[k]? =some t→(∃id row off,t= .ptr id row off)∧ ∃x,l[k]? =some x∧RT ρ w S t (a.eval x):=by
 intro l
 induction l with
 |nil=>
  intro ps hps ts hts;simp only[ER,qI]at hps;subst hps;simp only[vS,qI]at hts;subst hts;exact⟨rfl,fun k t ht=>by simp at ht⟩
 |cons x l ih=>
  intro ps hps ts hts;cases x with
  |tmp n=>
   simp only[ER]at hps;obtain⟨hn,hps1⟩:=bQ hps;simp only[qB,qI]at hps1;obtain⟨ps',hps',rfl⟩:=hps1;simp only[vS,qB]at hts;obtain⟨v,hv,t,ht,hts⟩:=hts;split at hts
   ·rename_i id row off;simp only[qB,qI]at hts;obtain⟨r,hr,rfl⟩:=hts;obtain⟨h1,h2⟩:=ih ps' hps' r hr;refine⟨by simp[h1],fun k t hk=>?_⟩
    cases k with
    |zero=>
     simp only[List.getElem?_cons_zero,qI]at hk;subst hk;exact⟨⟨id,row,off,rfl⟩, .tmp n,rfl,fT (nT h hv) ht⟩
    |succ k=>exact h2 k t (by simpa using hk)
   ·simp at hts
  |_=>simp[ER]at hps
set_option maxHeartbeats 1000000 in
theorem k_sound(R:Rt)(h:Sim w0 W S0 ρ0 nb N ρ S σ a w){md:FuncId→Nat→Bool}{o:Oper}{d:Nat}{k:K}(hk:compK P N md o d=some k){r:SV}{hp':List Blk}(hx:k.exec R σ.ev σ.hp=some (r,hp')):
  k.dst=some d∧lY P w0 W S0 ρ0 nb N σ a w o r hp':=by
 unfold compK at hk;split at hk
 ·
  rename_i x ho;simp only[qB,qI]at hk;obtain⟨y,hy,rfl⟩:=hk;simp only[K.exec,qB,qI,qP]at hx;obtain⟨v,hv,rfl,rfl⟩:=hx;exact⟨rfl,aQA h (.inl ho) (dY h hy hv)⟩
 ·rename_i x ho;simp only[qB,qI]at hk;obtain⟨y,hy,rfl⟩:=hk;simp only[K.exec,qB,qI,qP]at hx;obtain⟨v,hv,rfl,rfl⟩:=hx;exact⟨rfl,aQA h (.inr ho) (dY h hy hv)⟩
 ·
  rename_i c x y ho;simp only[qB,qI]at hk;obtain⟨c',hc',x',hx',y',hy',rfl⟩:=hk;simp only[K.exec,qB]at hx;obtain⟨vc,hvc,cb,hcb,hx⟩:=hx;refine⟨rfl,?_⟩;have hc:=lF (aXW h hc' hvc) hcb;cases cb
  ·simp only[Bool.false_eq_true,if_false,qB,qI,qP]at hx;obtain⟨v,hv,rfl,rfl⟩:=hx;exact XF h ho hc (by simpa using dY h hy' hv)
  ·simp only[if_true,qB,qI,qP]at hx;obtain⟨v,hv,rfl,rfl⟩:=hx;exact XF h ho hc (by simpa using dY h hx' hv)
 ·
  rename_i e ho;simp only[qB]at hk;obtain⟨z,hz,hk⟩:=hk;obtain⟨hpos,hk1⟩:=bQ hk;obtain rfl:=Option.some.inj hk1;simp only[K.exec,qI,qP]at hx;obtain⟨rfl,rfl⟩:=hx;exact⟨rfl,a1I h ho hz hpos⟩
 ·
  rename_i e x ho;simp only[qB,qI]at hk;obtain⟨y,hy,rfl⟩:=hk;simp only[K.exec,qB]at hx;obtain⟨v,hv,cs,hcs,hx⟩:=hx;obtain⟨hpos,hx1⟩:=bQ hx;simp only[qI,qP]at hx1;obtain⟨rfl,rfl⟩:=hx1;exact⟨rfl,a1J h ho (dY h hy hv) hcs hpos⟩
 ·
  rename_i t ps ho;split at hk
  ·rename_i fs ht;obtain⟨hall,hk1⟩:=bQ hk;simp only[qB,qI]at hk1;obtain⟨z,hz,ps',hps',rfl⟩:=hk1;simp only[K.exec,qB,qI,qP]at hx;obtain⟨cs,hcs,rfl,rfl⟩:=hx;exact⟨rfl,a1Y h ho ht hall hz hps' hcs⟩
  ·simp at hk
 ·
  rename_i t n ps ho;simp only[qB]at hk;obtain⟨e,he,z,hz,ps',hps',hk⟩:=hk;obtain⟨⟨hlim,hpos⟩,hk1⟩:=bQ hk;obtain rfl:=Option.some.inj hk1;simp only[K.exec,qB,qI,qP]at hx;obtain⟨rows,hrows,rfl,rfl⟩:=hx;exact⟨rfl,a1X h ho (elem_und he) hz hpos hlim hps' hrows⟩
 ·
  rename_i t x ho;simp only[qB,qI]at hk;obtain⟨n,hn,y,hy,rfl⟩:=hk;simp only[K.exec,qB,qI,qP]at hx;obtain⟨v,hv,tx,htx,cs,hcs,s,hs,rfl,rfl⟩:=hx;exact⟨rfl,bDU h ho hn (fT (ET h hy hv) htx) hcs hs⟩
 ·
  rename_i x ho;simp only[qB,qI]at hk;obtain⟨y,hy,rfl⟩:=hk;simp only[K.exec,qB]at hx;obtain⟨v,hv,hx⟩:=hx;have hr:=ET h hy hv;split at hx
  ·simp only[qI,qP]at hx;obtain⟨rfl,rfl⟩:=hx;exact⟨rfl,XH h ho hr (.inl ⟨_,_,_,rfl⟩)⟩
  ·simp only[qI,qP]at hx;obtain⟨rfl,rfl⟩:=hx;exact⟨rfl,XH h ho hr (.inr ⟨_,rfl⟩)⟩
  ·simp at hx
 ·
  rename_i op t x y u ho;have bin:(B6 P N t x).bind (fun x=>(compK.opdI' P N t y).bind fun y=>some (K.bin d op x y))=some k→k.dst=some d∧lY P w0 W S0 ρ0 nb N σ a w o r hp':=by
   intro hk;simp only[qB,qI]at hk;obtain⟨x',hx',y',hy',rfl⟩:=hk;simp only[K.exec,qB,qI,qP]at hx;obtain⟨v,hv,vx,hvx,v',hv',vy,hvy,q,hq,rfl,rfl⟩:=hx;exact⟨rfl,a1M h ho (qE (dY h hx' hv) hvx).1 (qE (aIZ h hy' hv') hvy).1 hq⟩
  have bb: ∀neg:Bool,op=(if neg then .neq else .eql)→P.underlying t=some .bool→ ∀x' y',B6 P N t x=some x'→B6 P N t y=some y'→k=K.bb d neg x' y'→k.dst=some d∧lY P w0 W S0 ρ0 nb N σ a w o r hp':=by
   intro neg e hu x' y' hx' hy' hk;subst hk;subst e;simp only[K.exec,qB,qI,qP]at hx;obtain⟨v,hv,vx,hvx,v',hv',vy,hvy,rfl,rfl⟩:=hx;exact⟨rfl,bDV h ho hu (lF (dY h hx' hv) hvx) (lF (dY h hy' hv') hvy)⟩
  have eqs: ∀neg:Bool,op=(if neg then .neq else .eql)→ ∀gs,B7 P 9 t=some gs→ ∀x' y',B6 P N t x=some x'→B6 P N t y=some y'→k=K.eqs d neg gs x' y'→k.dst=some d∧lY P w0 W S0 ρ0 nb N σ a w o r hp':=by
   intro neg e gs hg x' y' hx' hy' hk;subst hk;subst e;simp only[K.exec,qB]at hx;obtain⟨v,hv,v',hv',hx⟩:=hx;split at hx
   ·simp only[qB,qI,qP]at hx;obtain⟨q,hq,rfl,rfl⟩:=hx;exact⟨rfl,a10 h ho hg (dY h hx' hv) (dY h hy' hv') hq⟩
   ·simp at hx
  split at hk
  ·exact bin hk
  ·exact bin hk
  ·rename_i hu;simp only[qB]at hk;obtain⟨x',hx',y',hy',hk⟩:=hk;split at hk
   ·exact bb false rfl hu x' y' hx' hy' (Option.some.inj hk).symm
   ·exact bb true rfl hu x' y' hx' hy' (Option.some.inj hk).symm
   ·simp at hk
  ·simp only[qB]at hk;obtain⟨gs,hg,x',hx',y',hy',hk⟩:=hk;split at hk
   ·exact eqs false rfl gs hg x' y' hx' hy' (Option.some.inj hk).symm
   ·exact eqs true rfl gs hg x' y' hx' hy' (Option.some.inj hk).symm
   ·simp at hk
 ·
  rename_i op t x ho;simp only[qB,qI]at hk;obtain⟨y,hy,rfl⟩:=hk;simp only[K.exec,qB,qI,qP]at hx;obtain⟨v,hv,vx,hvx,q,hq,rfl,rfl⟩:=hx;exact⟨rfl,bDW h ho (qE (dY h hy hv) hvx).1 hq⟩
 ·
  rename_i src dst x ho;split at hk
  ·rename_i k1 k2 hs hd;simp only[qB,qI]at hk;obtain⟨y,hy,rfl⟩:=hk;simp only[K.exec,qB,qI,qP]at hx;obtain⟨v,hv,vx,hvx,rfl,rfl⟩:=hx;exact⟨rfl,bDX h ho hs hd (iG (dY h hy hv) hvx)⟩
  ·simp at hk
 ·
  rename_i f first caps ho
  obtain⟨h1,hk1⟩:=bQ hk;simp only[qB,qI]at hk1;obtain⟨ps,hps,rfl⟩:=hk1;simp only[K.exec,qB,qI,qP]at hx;obtain⟨ts,hts,rfl,rfl⟩:=hx;obtain⟨c1,c2⟩:=aI0 h caps.toList ps hps ts hts;exact⟨rfl,a1T h ho h1 (by simpa using c1) (fun k t ht=>by obtain⟨c3,x,hx,c4⟩:=c2 k t ht;exact⟨c3,x,by simpa using hx,c4⟩)⟩
 ·
  rename_i t n c ho;simp only[qB]at hk;obtain⟨e,he,z,hz,i,hi,n',hn',c',hc',hk⟩:=hk;obtain⟨hpos,hk1⟩:=bQ hk;obtain rfl:=Option.some.inj hk1;simp only[K.exec,qB]at hx;obtain⟨v,hv,vn,hvn,v',hv',vc,hvc,hx⟩:=hx;obtain⟨⟨c0,c1,c2,c3⟩,hx1⟩:=bQ hx;simp only[qI,qP]at hx1;obtain⟨rfl,rfl⟩:=hx1;exact⟨rfl,a1W h ho (elem_und he) hz hi hpos (iG (oI h hn' hv) hvn) (iG (oI h hc' hv') hvc) c0 c1 c2 c3⟩
 ·
  rename_i t x lo hi ho;split at hk
  ·rename_i e hu;simp only[qB,qI]at hk;obtain⟨n,hn,x',hx',lo',hlo',hi',hhi',rfl⟩:=hk;simp only[K.exec,qB,qI,qP]at hx;obtain⟨v,hv,tx,htx,rows,hrows,l,hl,hh,hhh,q,hq,rfl,rfl⟩:=hx;exact⟨rfl,a1R h ho hu hn (fT (dY h hx' hv) htx) hrows (xO h hlo' hl) (xO h hhi' hhh) hq⟩
  ·rename_i hu;simp only[qB,qI]at hk;obtain⟨x',hx',lo',hlo',hi',hhi',rfl⟩:=hk;simp only[K.exec,qB]at hx;obtain⟨v,hv,s,hs,hx⟩:=hx;split at hx
   ·simp only[qB]at hx;obtain⟨l,hl,hh,hhh,hx⟩:=hx;obtain⟨⟨c0,c1,c2⟩,hx1⟩:=bQ hx;simp only[qI,qP]at hx1;obtain⟨rfl,rfl⟩:=hx1;exact⟨rfl,a1S h ho hu (qE (dY h hx' hv) hs).1 (xO h hlo' hl) (xO h hhi' hhh) c0 c1 c2⟩
   ·simp at hx
  ·simp at hk
 ·
  rename_i t x j ho;simp only[qB]at hk;obtain⟨f,hf,n,hn,hk⟩:=hk;obtain⟨hpos,hk1⟩:=bQ hk;simp only[qB,qI]at hk1;obtain⟨y,hy,rfl⟩:=hk1;simp only[K.exec,qB,qI,qP]at hx;obtain⟨v,hv,s,hs,rfl,rfl⟩:=hx;exact⟨rfl,bDY h ho hf hn hpos (ET h hy hv) hs⟩
 ·
  rename_i t x j ho;simp only[qB,qI]at hk;obtain⟨f,hf,n,hn,y,hy,rfl⟩:=hk;simp only[K.exec,qB]at hx;obtain⟨v,hv,hx⟩:=hx;split at hx
  ·simp only[qB,qI,qP]at hx;obtain⟨s,hs,rfl,rfl⟩:=hx;exact⟨rfl,a1O h ho hf hn (dY h hy hv) hs⟩
  ·simp at hx
 ·
  rename_i t x j ho;simp only[qB]at hk;obtain⟨e,he,n,hn,x',hx',j',hj',hk⟩:=hk;obtain⟨hpos,hk1⟩:=bQ hk;obtain rfl:=Option.some.inj hk1;simp only[K.exec,qB,qI,qP]at hx;obtain⟨v,hv,tx,htx,v',hv',vj,hvj,s,hs,rfl,rfl⟩:=hx;exact⟨rfl,bDZ h ho (elem_und he) hn (fT (dY h hx' hv) htx) (iG (oI h hj' hv') hvj) hs⟩
 ·
  rename_i t x j ho;split at hk
  ·rename_i hu;simp only[qB,qI]at hk;obtain⟨x',hx',j',hj',rfl⟩:=hk;simp only[K.exec,qB]at hx;obtain⟨v,hv,s,hs,v',hv',vj,hvj,hx⟩:=hx;split at hx
   ·obtain⟨c0,hx1⟩:=bQ hx;split at hx1
    ·rename_i c hc;simp only[qI,qP]at hx1;obtain⟨rfl,rfl⟩:=hx1;exact⟨rfl,bD0 h ho hu (qE (dY h hx' hv) hs).1 (iG (oI h hj' hv') hvj) c0 hc⟩
    ·simp at hx1
   ·simp at hx
  ·simp at hk
 ·
  rename_i x j ho;simp only[qB,qI]at hk;obtain⟨y,hy,rfl⟩:=hk;simp only[K.exec,qB]at hx;obtain⟨v,hv,hx⟩:=hx;split at hx
  ·simp only[qB,qI,qP]at hx;obtain⟨s,hs,rfl,rfl⟩:=hx;exact⟨rfl,a1P h ho (ET h hy hv) hs⟩
  ·simp at hx
 ·simp at hk
where
 elem_und {t e:TypeId} (h:JO P t=some e):P.underlying t=some (.slice e):=by
  unfold JO at h;split at h
  ·rename_i e' he;rw[he,Option.some.inj h]
  ·simp at h
end
end Go.Zq
