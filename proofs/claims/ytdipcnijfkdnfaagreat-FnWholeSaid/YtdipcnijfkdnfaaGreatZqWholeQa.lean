import Derived.Test.YtdipcnijfkdnfaaGreatZqTabWhole
import Derived.Test.YtdipcnijfkdnfaaGreatZmc
import Derived.KernelRfl
import Derived.Test.YtdipcnijfkdnfaaGreatZqWholeR
set_option linter.unusedVariables false
set_option linter.unusedSimpArgs false
namespace Go.Proofs.YtdipcnijfkdnfaaGreatWhole
open Option.some renaming inj → qi
open Prod.mk renaming inj → qp
open Int renaming toNat → iN
open Go Go.Zq
open List renaming length→ln
set_option maxRecDepth 100000
set_option maxHeartbeats 4000000
noncomputable section
structure aN where
 mk::
 (fcode:List Row)
 (fat:Int)
 (fseed:Int)
def aN.row(x:aN):Row:=[.imm true 1 x.fcode, .lit (.int .i64 x.fat), .lit (.int .u64 x.fseed)]
def aN.at(r:List Row)(j i:Nat):aN:=⟨pR r j i,bR r j (i+1),bR r j (i+2)⟩
structure aF where
 mk::
 (Mode:Int)
 (Reg:Int)
 (Ext:Int)
def aF.row(x:aF):Row:=[.lit (.int .i64 x.Mode), .lit (.int .i64 x.Reg), .lit (.int .i64 x.Ext)]
def aF.at(r:List Row)(j i:Nat):aF:=⟨bR r j i,bR r j (i+1),bR r j (i+2)⟩
structure aS where
 mk::
 (Op:Int)
 (Size:Int)
 (Reg:Int)
 (Ea:aF)
 (Sub:Int)
def aS.row(x:aS):Row:=[.lit (.int .i64 x.Op), .lit (.int .i64 x.Size), .lit (.int .i64 x.Reg), .lit (.int .i64 x.Ea.Mode), .lit (.int .i64 x.Ea.Reg), .lit (.int .i64 x.Ea.Ext), .lit (.int .i64 x.Sub)]
def aS.at(r:List Row)(j i:Nat):aS:=⟨bR r j i,bR r j (i+1),bR r j (i+2),⟨bR r j (i+3),bR r j (i+4),bR r j (i+5)⟩,bR r j (i+6)⟩
structure aJ where
 mk::
 (D:List Row)
 (A:List Row)
 (Other:Int)
 (PC:Int)
 (Flags:Int)
 (Mask:Int)
 (Super:Bool)
 (Trace:Bool)
def aJ.row(x:aJ):Row:=[.imm true 1 x.D, .imm true 1 x.A, .lit (.int .i64 x.Other), .lit (.int .i64 x.PC), .lit (.int .i64 x.Flags), .lit (.int .i64 x.Mask), .lit (.bool x.Super), .lit (.bool x.Trace)]
def aJ.at(r:List Row)(j i:Nat):aJ:=⟨pR r j i,pR r j (i+1),bR r j (i+2),bR r j (i+3),bR r j (i+4),bR r j (i+5),sC r j (i+6),sC r j (i+7)⟩
structure bM where
 mk::
 (Bytes:List Row)
 (Log:List Row)
def bM.row(x:bM):Row:=[.imm true 1 x.Bytes, .imm true 5 x.Log]
def bM.at(r:List Row)(j i:Nat):bM:=⟨pR r j i,pR r j (i+1)⟩
structure aG where
 mk::
 (R:aJ)
 (Bus:bM)
 (Stop:Bool)
 (Halt:Bool)
def aG.row(x:aG):Row:=[.imm true 1 x.R.D, .imm true 1 x.R.A, .lit (.int .i64 x.R.Other), .lit (.int .i64 x.R.PC), .lit (.int .i64 x.R.Flags), .lit (.int .i64 x.R.Mask), .lit (.bool x.R.Super), .lit (.bool x.R.Trace), .imm true 1 x.Bus.Bytes, .imm true 5 x.Bus.Log, .lit (.bool x.Stop), .lit (.bool x.Halt)]
def aG.at(r:List Row)(j i:Nat):aG:=⟨⟨pR r j i,pR r j (i+1),bR r j (i+2),bR r j (i+3),bR r j (i+4),bR r j (i+5),sC r j (i+6),sC r j (i+7)⟩,⟨pR r j (i+8),pR r j (i+9)⟩,sC r j (i+10),sC r j (i+11)⟩
structure aE where
 mk::
 (Kind:Int)
 (Size:Int)
 (Addr:Int)
 (Value:Int)
 (Code:Int)
def aE.row(x:aE):Row:=[.lit (.int .i64 x.Kind), .lit (.int .i64 x.Size), .lit (.int .i64 x.Addr), .lit (.int .i64 x.Value), .lit (.int .i64 x.Code)]
def aE.at(r:List Row)(j i:Nat):aE:=⟨bR r j i,bR r j (i+1),bR r j (i+2),bR r j (i+3),bR r j (i+4)⟩
structure aL where
 mk::
 (Vector:Int)
 (PC:Int)
 (Addr:Int)
 (Word:Int)
 (Write:Bool)
def aL.row(x:aL):Row:=[.lit (.int .i64 x.Vector), .lit (.int .i64 x.PC), .lit (.int .i64 x.Addr), .lit (.int .i64 x.Word), .lit (.bool x.Write)]
def aL.at(r:List Row)(j i:Nat):aL:=⟨bR r j i,bR r j (i+1),bR r j (i+2),bR r j (i+3),sC r j (i+4)⟩
structure bJ where
 mk::
 (fx:aS)
 (fpc:Int)
 (fword:Int)
 (ffault:aL)
structure aQ where
 mk::
 (fr:aJ)
 (fbus:bM)
 (fstop:Bool)
 (ffault:aL)
def aQ.row(x:aQ):Row:=[.imm true 1 x.fr.D, .imm true 1 x.fr.A, .lit (.int .i64 x.fr.Other), .lit (.int .i64 x.fr.PC), .lit (.int .i64 x.fr.Flags), .lit (.int .i64 x.fr.Mask), .lit (.bool x.fr.Super), .lit (.bool x.fr.Trace), .imm true 1 x.fbus.Bytes, .imm true 5 x.fbus.Log, .lit (.bool x.fstop), .lit (.int .i64 x.ffault.Vector), .lit (.int .i64 x.ffault.PC), .lit (.int .i64 x.ffault.Addr), .lit (.int .i64 x.ffault.Word), .lit (.bool x.ffault.Write)]
def aQ.at(r:List Row)(j i:Nat):aQ:=⟨⟨pR r j i,pR r j (i+1),bR r j (i+2),bR r j (i+3),bR r j (i+4),bR r j (i+5),sC r j (i+6),sC r j (i+7)⟩,⟨pR r j (i+8),pR r j (i+9)⟩,sC r j (i+10),⟨bR r j (i+11),bR r j (i+12),bR r j (i+13),bR r j (i+14),sC r j (i+15)⟩⟩
def dd(t u:Bool):Bool:=(((t&&t)&&true)&&u)
theorem b8M(t u:Bool):dd t u=(t&&u):=by cases t<;>cases u<;>rfl
def nN(x:aS)(k:Bool):Bool:=((s1 x.Op)&&((s1 x.Size)&&((s1 x.Reg)&&((s1 x.Ea.Mode)&&((s1 x.Ea.Reg)&&((s1 x.Ea.Ext)&&((s1 x.Sub)&&k)))))))
theorem a0K(x:aS)(k:Bool):nN x k=k:=by simp[nN]
def sE(x:aF)(k:Bool):Bool:=((s1 x.Mode)&&((s1 x.Reg)&&((s1 x.Ext)&&k)))
theorem Z6(x:aF)(k:Bool):sE x k=k:=by simp[sE]
def aO(x:aJ)(k:Bool):Bool:=((e1 (ln x.D))&&((e1 (ln x.A))&&k))
theorem aVY(x:aJ)(k:Bool):aO x k=k:=by simp[aO]
def iH(x:aJ)(k:Bool):Bool:=(((aO x true&&aO x true)&&true)&&aO x k)
theorem aVZ(x:aJ)(k:Bool):iH x k=k:=by simp[iH,aO]
def fW(x:aJ)(k:Bool):Bool:=((s1 (ln x.D))&&((s1 (ln x.A))&&((s1 x.Other)&&((s1 x.PC)&&((s1 x.Flags)&&((s1 x.Mask)&&((s1 x.Super)&&((s1 x.Trace)&&k))))))))
theorem aV0(x:aJ)(k:Bool):fW x k=k:=by simp[fW]
def eZ(x:aJ)(k:Bool):Bool:=((r1 x.D)&&((r1 x.A)&&k))
theorem aV1(x:aJ)(k:Bool):eZ x k=k:=by simp[eZ]
def bN(x:bM)(k:Bool):Bool:=((e1 (ln x.Bytes))&&((e1 (ln x.Log))&&k))
theorem a0L(x:bM)(k:Bool):bN x k=k:=by simp[bN]
def sF(x:bM)(k:Bool):Bool:=(((bN x true&&bN x true)&&true)&&bN x k)
theorem a0M(x:bM)(k:Bool):sF x k=k:=by simp[sF,bN]
def dO(x:bM)(k:Bool):Bool:=((s1 (ln x.Bytes))&&((s1 (ln x.Log))&&k))
theorem a0N(x:bM)(k:Bool):dO x k=k:=by simp[dO]
def dI(x:bM)(k:Bool):Bool:=((r1 x.Bytes)&&((r1 x.Log)&&k))
theorem a0O(x:bM)(k:Bool):dI x k=k:=by simp[dI]
def aM(x:aG)(k:Bool):Bool:=((e1 (ln x.R.D))&&((e1 (ln x.R.A))&&((e1 (ln x.Bus.Bytes))&&((e1 (ln x.Bus.Log))&&k))))
theorem a0P(x:aG)(k:Bool):aM x k=k:=by simp[aM]
def cG(x:aG)(k:Bool):Bool:=(((aM x true&&aM x true)&&true)&&aM x k)
theorem a0Q(x:aG)(k:Bool):cG x k=k:=by simp[cG,aM]
def fA(x:aG)(k:Bool):Bool:=((s1 (ln x.R.D))&&((s1 (ln x.R.A))&&((s1 x.R.Other)&&((s1 x.R.PC)&&((s1 x.R.Flags)&&((s1 x.R.Mask)&&((s1 x.R.Super)&&((s1 x.R.Trace)&&((s1 (ln x.Bus.Bytes))&&((s1 (ln x.Bus.Log))&&((s1 x.Stop)&&((s1 x.Halt)&&k))))))))))))
theorem a0R(x:aG)(k:Bool):fA x k=k:=by simp[fA]
def fK(x:aG)(k:Bool):Bool:=((r1 x.R.D)&&((r1 x.R.A)&&((r1 x.Bus.Bytes)&&((r1 x.Bus.Log)&&k))))
theorem a0S(x:aG)(k:Bool):fK x k=k:=by simp[fK]
def vP(x:bJ)(k:Bool):Bool:=((s1 x.fx.Op)&&((s1 x.fx.Size)&&((s1 x.fx.Reg)&&((s1 x.fx.Ea.Mode)&&((s1 x.fx.Ea.Reg)&&((s1 x.fx.Ea.Ext)&&((s1 x.fx.Sub)&&((s1 x.fpc)&&((s1 x.fword)&&((s1 x.ffault.Vector)&&((s1 x.ffault.PC)&&((s1 x.ffault.Addr)&&((s1 x.ffault.Word)&&((s1 x.ffault.Write)&&k))))))))))))))
theorem aV2(x:bJ)(k:Bool):vP x k=k:=by simp[vP]
def eP(x:aL)(k:Bool):Bool:=((s1 x.Vector)&&((s1 x.PC)&&((s1 x.Addr)&&((s1 x.Word)&&((s1 x.Write)&&k)))))
theorem aI3(x:aL)(k:Bool):eP x k=k:=by simp[eP]
def bT(x:aQ)(k:Bool):Bool:=((e1 (ln x.fr.D))&&((e1 (ln x.fr.A))&&((e1 (ln x.fbus.Bytes))&&((e1 (ln x.fbus.Log))&&k))))
theorem aV3(x:aQ)(k:Bool):bT x k=k:=by simp[bT]
def cA(x:aQ)(k:Bool):Bool:=(((bT x true&&bT x true)&&true)&&bT x k)
theorem aV4(x:aQ)(k:Bool):cA x k=k:=by simp[cA,bT]
def J3(x:aQ)(k:Bool):Bool:=((s1 (ln x.fr.D))&&((s1 (ln x.fr.A))&&((s1 x.fr.Other)&&((s1 x.fr.PC)&&((s1 x.fr.Flags)&&((s1 x.fr.Mask)&&((s1 x.fr.Super)&&((s1 x.fr.Trace)&&((s1 (ln x.fbus.Bytes))&&((s1 (ln x.fbus.Log))&&((s1 x.fstop)&&((s1 x.ffault.Vector)&&((s1 x.ffault.PC)&&((s1 x.ffault.Addr)&&((s1 x.ffault.Word)&&((s1 x.ffault.Write)&&k))))))))))))))))
theorem aV5(x:aQ)(k:Bool):J3 x k=k:=by simp[J3]
theorem wz:(∀t u,dd t u=(t&&u))∧(∀x k,nN x k=k)∧(∀x k,sE x k=k)∧(∀x k,aO x k=k)∧(∀x k,iH x k=k)∧(∀x k,fW x k=k)∧(∀x k,eZ x k=k)∧(∀x k,bN x k=k)∧(∀x k,sF x k=k)∧(∀x k,dO x k=k)∧(∀x k,dI x k=k)∧(∀x k,aM x k=k)∧(∀x k,cG x k=k)∧(∀x k,fA x k=k)∧(∀x k,fK x k=k)∧(∀x k,vP x k=k)∧(∀x k,eP x k=k)∧(∀x k,bT x k=k)∧(∀x k,cA x k=k)∧(∀x k,J3 x k=k):=⟨b8M,a0K,Z6,aVY,aVZ,aV0,aV1,a0L,a0M,a0N,a0O,a0P,a0Q,a0R,a0S,aV2,aI3,aV3,aV4,aV5⟩
def K0:List Kd:=[.int .i64]
def K1:List Kd:=[.imm 1]
def K2:List Kd:=[.int .u8]
def K3:List Kd:=[.int .u64]
def AS0(a:aN):List SV:=[(.one (.ptr 0 0 0))]
def HS0(a:aN):List Blk:=[.box [.imm true 1 a.fcode,li a.fat, .lit (.int .u64 a.fseed)]]
def DS0(N:aN→SV×List Blk)(K:aN→Bool):List SV→List Blk→Option ((SV×List Blk)×Bool)
 |[(.one (.ptr 0 0 0))],[.box [.imm true 1 c0,li c1, .lit (.int .u64 c2)]]=>some (N (aN.mk c0 c1 c2),K (aN.mk c0 c1 c2))
 |_,_=>none
theorem O5{N:aN→SV×List Blk}{K:aN→Bool}{f:Nat}(h: ∀(a:aN),K a=true→dQ R f (AS0 a) (HS0 a)=some (N a)):cP f (DS0 N K):=fun _ _ _ e=>by
 unfold DS0 at e;split at e
 ·exact yF e (h _)
 ·cases e
section
variable(a:aN)
def SM:Int:=(bif (ltI a.fat (bX a.fcode))then(yE .i64 (bR a.fcode (iN a.fat) 0))else 0)
def aI4:Int:=(b03 .u64 (b03 .u64 (b8J .u64 a.fseed 6364136223846793005) (yE .u64 (SM a))) 1442695040888963407)
end
def a0T(a:aN):Pt (aN×Int):=(.ok true (.ok true (.ok true (.ok ((((iG [.int .u8] a.fcode a.fat)&&true)||(!(ltI a.fat (bX a.fcode))))&&true) (.ok true (.ok true (.ok true (.br (leI (bE a.fat 1) (bX a.fcode)) (.ok true (.ok true (.leaf ((aN.mk a.fcode (bE a.fat 1) (aI4 a)),(SM a))))) (.ok true (.ok true (.leaf ((aN.mk a.fcode (bE a.fat 1) (aI4 a)),(yE .i64 (bA1 .u64 (a0E .u64 (aI4 a) 40) 255))))))))))))))
def CS(a:aN):aN×Int:=hid (a0T a).val
def bA2(a:aN):Bool:=hid (a0T a).okv
def b07(a:aN)(r:aN×Int):SV×List Blk:=((.one (li r.2)),[.box [.imm true 1 r.1.fcode,li r.1.fat, .lit (.int .u64 r.1.fseed)]])
def q162:=DS0 (fun a=>b07 a (CS a)) bA2
theorem b8N:cP 162 q162:=O5 fun a hk=>tc bW5 aOY [(7,K0),(11,K1),(17,K1),(21,K0),(22,K2),(23,K2),(28,K0),(36,K3),(47,K0),(51,K1),(58,K3)] [] true (a0T a) (b07 a) hk
def Q162:=bD 162 q162 qnil
theorem aO2:QO Q162:=aH b8N aOY
def AS1(b:Int)(a:aN):List SV:=[(.one (.ptr 0 0 0)),(.one (li b))]
def HS1(b:Int)(a:aN):List Blk:=[.box [.imm true 1 a.fcode,li a.fat, .lit (.int .u64 a.fseed)]]
def DS1(N:Int→aN→SV×List Blk)(K:Int→aN→Bool):List SV→List Blk→Option ((SV×List Blk)×Bool)
 |[(.one (.ptr 0 0 0)),(.one (li c0))],[.box [.imm true 1 c1,li c2, .lit (.int .u64 c3)]]=>some (N c0 (aN.mk c1 c2 c3),K c0 (aN.mk c1 c2 c3))
 |_,_=>none
theorem bHX{N:Int→aN→SV×List Blk}{K:Int→aN→Bool}{f:Nat}(h: ∀(b:Int)(a:aN),K b a=true→dQ R f (AS1 b a) (HS1 b a)=some (N b a)):cP f (DS1 N K):=fun _ _ _ e=>by
 unfold DS1 at e;split at e
 ·exact yF e (h _ _)
 ·cases e
def T89(b:Int)(a:aN):Pt (aN×Int):=(.ok true (.ok true (.br (leI b 1) (.ok true (.ok true (.leaf (a,0)))) (.ok ((bA2 a)&&true) (.ok true (.br (pG b 200) (.ok ((bA2 (CS a).1)&&true) (.ok ((dD b 0)&&true) (.ok true (.leaf ((CS (CS a).1).1,(nM (bE (dE (CS a).2 256) (CS (CS a).1).2) b)))))) (.ok ((dD b 0)&&true) (.ok true (.leaf ((CS a).1,(nM (CS a).2 b)))))))))))
def cV(b:Int)(a:aN):aN×Int:=hid (T89 b a).val
def yG(b:Int)(a:aN):Bool:=hid (T89 b a).okv
def n89(b:Int)(a:aN)(r:aN×Int):SV×List Blk:=((.one (li r.2)),[.box [.imm true 1 r.1.fcode,li r.1.fat, .lit (.int .u64 r.1.fseed)]])
def q89:=DS1 (fun b a=>n89 b a (cV b a)) yG
theorem t89:cP 89 q89:=bHX fun b a hk=>tc b78 aO2 [] [] true (T89 b a) (n89 b a) hk
def Q89:=bD 89 q89 Q162
theorem a0U:QO Q89:=aH t89 aO2
def T86(b:Int)(a:aN):Pt (aN×Bool):=(.ok true (.ok ((yG b a)&&true) (.ok true (.leaf ((cV b a).1,(eqI (cV b a).2 0))))))
def oZ(b:Int)(a:aN):aN×Bool:=hid (T86 b a).val
def k86(b:Int)(a:aN):Bool:=hid (T86 b a).okv
def n86(b:Int)(a:aN)(r:aN×Bool):SV×List Blk:=((.one (.lit (.bool r.2))),[.box [.imm true 1 r.1.fcode,li r.1.fat, .lit (.int .u64 r.1.fseed)]])
def q86:=DS1 (fun b a=>n86 b a (oZ b a)) k86
theorem t86:cP 86 q86:=bHX fun b a hk=>tc b77 a0U [] [] true (T86 b a) (n86 b a) hk
def Q86:=bD 86 q86 Q89
theorem aI5:QO Q86:=aH t86 a0U
def AS2(a:Int):List SV:=[(.one (li a))]
def HS2(a:Int):List Blk:=[]
def CM(N:Int→SV×List Blk)(K:Int→Bool):List SV→List Blk→Option ((SV×List Blk)×Bool)
 |[(.one (li c0))],[]=>some (N c0,K c0)
 |_,_=>none
theorem hH{N:Int→SV×List Blk}{K:Int→Bool}{f:Nat}(h: ∀(a:Int),K a=true→dQ R f (AS2 a) (HS2 a)=some (N a)):cP f (CM N K):=fun _ _ _ e=>by
 unfold CM at e;split at e
 ·exact yF e (h _)
 ·cases e
def a0V(a:Int):Pt (Bool):=(.ok true (.ok true (.ok true (.ok true (.leaf (geI a 5))))))
def aI6(a:Int):Bool:=hid (a0V a).val
def aI7(a:Int):Bool:=hid (a0V a).okv
def j9(a:Int)(r:Bool):SV×List Blk:=((.one (.lit (.bool r))),[])
def q240:=CM (fun a=>j9 a (aI6 a)) aI7
theorem b8O:cP 100240 q240:=hH fun a hk=>tz bY0 aI5 [] [] true (a0V a) (j9 a) hk
def Q240:=bD 100240 q240 Q86
theorem aO3:QO Q240:=aH b8O aI5
def AS3(b:List Row)(a:aN):List SV:=[(.one (.ptr 0 0 0)),(.one (.imm false 1 b))]
def HS3(b:List Row)(a:aN):List Blk:=[.box [.imm true 1 a.fcode,li a.fat, .lit (.int .u64 a.fseed)]]
def DS3(N:List Row→aN→SV×List Blk)(K:List Row→aN→Bool):List SV→List Blk→Option ((SV×List Blk)×Bool)
 |[(.one (.ptr 0 0 0)),(.one (.imm false 1 c0))],[.box [.imm true 1 c1,li c2, .lit (.int .u64 c3)]]=>some (N c0 (aN.mk c1 c2 c3),K c0 (aN.mk c1 c2 c3))
 |_,_=>none
theorem b1A{N:List Row→aN→SV×List Blk}{K:List Row→aN→Bool}{f:Nat}(h: ∀(b:List Row)(a:aN),K b a=true→dQ R f (AS3 b a) (HS3 b a)=some (N b a)):cP f (DS3 N K):=fun _ _ _ e=>by
 unfold DS3 at e;split at e
 ·exact yF e (h _ _)
 ·cases e
def T90(b:List Row)(a:aN):Pt (aN×Int):=(.ok true (.ok ((yG (bX b) a)&&((iG [.int .i64] b (cV (bX b) a).2)&&true)) (.ok true (.leaf ((cV (bX b) a).1,(bR b (iN (cV (bX b) a).2) 0))))))
def PP(b:List Row)(a:aN):aN×Int:=hid (T90 b a).val
def k90(b:List Row)(a:aN):Bool:=hid (T90 b a).okv
def n90(b:List Row)(a:aN)(r:aN×Int):SV×List Blk:=((.one (li r.2)),[.box [.imm true 1 r.1.fcode,li r.1.fat, .lit (.int .u64 r.1.fseed)]])
def q90:=DS3 (fun b a=>n90 b a (PP b a)) k90
theorem t90:cP 90 q90:=b1A fun b a hk=>tc b79 aO3 [(10,K0),(11,K0)] [] true (T90 b a) (n90 b a) hk
def Q90:=bD 90 q90 Q240
theorem a0W:QO Q90:=aH t90 aO3
def K4:List Kd:=[.int .i64, .int .i64, .int .i64]
section
variable(a:aN)
def HO:aN×Int:=(PP [(aY 0),(aY 1),(aY 2),(aY 20),(aY 100),(aY 200),(aY 384),(aY 448),(aY 65535),(aY 65534)] (cV 4 (cV 8 a).1).1)
def MP:aN×Int:=(cV 9 (oZ 60 (HO a).1).1)
def aI8:aN×Int:=(cV 2 (cV 5 (MP a).1).1)
def HP:aN×Bool:=(oZ 60 (cV 4 (cV 8 a).1).1)
def SN:aN×Int:=(cV 5 (cV 9 (HP a).1).1)
def HQ:aN×Int:=(PP [(aY 0),(aY 1),(aY 2),(aY 20),(aY 100),(aY 200),(aY 384),(aY 448),(aY 65535),(aY 65534)] (cV 8 a).1)
def MQ:aN×Int:=(cV 9 (oZ 60 (HQ a).1).1)
def aI9:aN×Int:=(cV 2 (cV 5 (MQ a).1).1)
def MR:aN×Int:=(cV 9 (oZ 60 (cV 8 a).1).1)
def aJA:aN×Int:=(cV 2 (cV 5 (MR a).1).1)
end
def a0X(a:aN):Pt (aN×aF):=(.ok true (.ok ((yG 8 a)&&true) (.ok true (.br (ltI (cV 8 a).2 6) (.ok ((yG 4 (cV 8 a).1)&&true) (.ok ((aI7 (cV 8 a).2)&&true) (.br (aI6 (cV 8 a).2) (.ok ((k90 [(aY 0),(aY 1),(aY 2),(aY 20),(aY 100),(aY 200),(aY 384),(aY 448),(aY 65535),(aY 65534)] (cV 4 (cV 8 a).1).1)&&true) (.ok ((k86 60 (HO a).1)&&true) (.br (oZ 60 (HO a).1).2 (.ok ((yG 9 (oZ 60 (HO a).1).1)&&((yG 5 (MP a).1)&&((yG 2 (cV 5 (MP a).1).1)&&true))) (.ok true (.ok true (.leaf ((aI8 a).1,(aF.mk (MP a).2 (cV 5 (MP a).1).2 (aI8 a).2)))))) (.ok true (.ok true (.leaf ((oZ 60 (HO a).1).1,(aF.mk (cV 8 a).2 (cV 4 (cV 8 a).1).2 (HO a).2)))))))) (.ok ((k86 60 (cV 4 (cV 8 a).1).1)&&true) (.br (HP a).2 (.ok ((yG 9 (HP a).1)&&((yG 5 (cV 9 (HP a).1).1)&&((yG 2 (SN a).1)&&true))) (.ok true (.ok true (.leaf ((cV 2 (SN a).1).1,(aF.mk (cV 9 (HP a).1).2 (SN a).2 (cV 2 (SN a).1).2)))))) (.ok true (.ok true (.leaf ((HP a).1,(aF.mk (cV 8 a).2 (cV 4 (cV 8 a).1).2 0)))))))))) (.ok ((aI7 (cV 8 a).2)&&true) (.br (aI6 (cV 8 a).2) (.ok ((k90 [(aY 0),(aY 1),(aY 2),(aY 20),(aY 100),(aY 200),(aY 384),(aY 448),(aY 65535),(aY 65534)] (cV 8 a).1)&&true) (.ok ((k86 60 (HQ a).1)&&true) (.br (oZ 60 (HQ a).1).2 (.ok ((yG 9 (oZ 60 (HQ a).1).1)&&((yG 5 (MQ a).1)&&((yG 2 (cV 5 (MQ a).1).1)&&true))) (.ok true (.ok true (.leaf ((aI9 a).1,(aF.mk (MQ a).2 (cV 5 (MQ a).1).2 (aI9 a).2)))))) (.ok true (.ok true (.leaf ((oZ 60 (HQ a).1).1,(aF.mk (cV 8 a).2 0 (HQ a).2)))))))) (.ok ((k86 60 (cV 8 a).1)&&true) (.br (oZ 60 (cV 8 a).1).2 (.ok ((yG 9 (oZ 60 (cV 8 a).1).1)&&((yG 5 (MR a).1)&&((yG 2 (cV 5 (MR a).1).1)&&true))) (.ok true (.ok true (.leaf ((aJA a).1,(aF.mk (MR a).2 (cV 5 (MR a).1).2 (aJA a).2)))))) (.ok true (.ok true (.leaf ((oZ 60 (cV 8 a).1).1,(aF.mk (cV 8 a).2 0 0)))))))))))))
def sG(a:aN):aN×aF:=hid (a0X a).val
def bA3(a:aN):Bool:=hid (a0X a).okv
def b1C(a:aN)(r:aN×aF):SV×List Blk:=((.agg [li r.2.Mode,li r.2.Reg,li r.2.Ext]),[.box [.imm true 1 r.1.fcode,li r.1.fat, .lit (.int .u64 r.1.fseed)]])
def q186:=DS0 (fun a=>b1C a (sG a)) bA3
theorem b8Q:cP 186 q186:=O5 fun a hk=>tc bXP a0W [(8,K0),(14,K0),(29,K4)] [] true (a0X a) (b1C a) hk
def Q186:=bD 186 q186 Q90
theorem aO4:QO Q186:=aH b8Q a0W
def AS4(a:Bool)(b:Int):List SV:=[(.one (.lit (.bool a))),(.one (li b))]
def HS4(a:Bool)(b:Int):List Blk:=[]
def DS4(N:Bool→Int→SV×List Blk)(K:Bool→Int→Bool):List SV→List Blk→Option ((SV×List Blk)×Bool)
 |[(.one (.lit (.bool c0))),(.one (li c1))],[]=>some (N c0 c1,K c0 c1)
 |_,_=>none
theorem bHY{N:Bool→Int→SV×List Blk}{K:Bool→Int→Bool}{f:Nat}(h: ∀(a:Bool)(b:Int),K a b=true→dQ R f (AS4 a b) (HS4 a b)=some (N a b)):cP f (DS4 N K):=fun _ _ _ e=>by
 unfold DS4 at e;split at e
 ·exact yF e (h _ _)
 ·cases e
def aJB(a:Bool)(b:Int):Pt (Int):=(.ok true (.ok true (.br a (.ok true (.ok true (.ok true (.leaf b)))) (.ok true (.ok true (.ok true (.leaf 0)))))))
def yT(a:Bool)(b:Int):Int:=hid (aJB a b).val
def yU(a:Bool)(b:Int):Bool:=hid (aJB a b).okv
def bA4(a:Bool)(b:Int)(r:Int):SV×List Blk:=((.one (li r)),[])
def q179:=DS4 (fun a b=>bA4 a b (yT a b)) yU
theorem b8R:cP 100179 q179:=bHY fun a b hk=>tz bXI aO4 [] [] true (aJB a b) (bA4 a b) hk
def Q179:=bD 100179 q179 Q186
theorem aO5:QO Q179:=aH b8R aO4
def aJC(a:Int):Pt (Bool):=(.ok true (.ok true (.ok true (.ok true (.leaf (bif (eqI a 1)then true else(eqI a 2)))))))
def aF5(a:Int):Bool:=hid (aJC a).val
def aV6(a:Int):Bool:=hid (aJC a).okv
def q190:=CM (fun a=>j9 a (aF5 a)) aV6
theorem b8S:cP 100190 q190:=hH fun a hk=>tz bXT aO5 [] [] true (aJC a) (j9 a) hk
def Q190:=bD 100190 q190 Q179
theorem aO6:QO Q190:=aH b8S aO5
def AS5(a:Int)(b:Int)(c:Int):List SV:=[(.one (li a)),(.one (li b)),(.one (li c))]
def HS5(a:Int)(b:Int)(c:Int):List Blk:=[]
def DS5(N:Int→Int→Int→SV×List Blk)(K:Int→Int→Int→Bool):List SV→List Blk→Option ((SV×List Blk)×Bool)
 |[(.one (li c0)),(.one (li c1)),(.one (li c2))],[]=>some (N c0 c1 c2,K c0 c1 c2)
 |_,_=>none
theorem DI{N:Int→Int→Int→SV×List Blk}{K:Int→Int→Int→Bool}{f:Nat}(h: ∀(a:Int)(b:Int)(c:Int),K a b c=true→dQ R f (AS5 a b c) (HS5 a b c)=some (N a b c)):cP f (DS5 N K):=fun _ _ _ e=>by
 unfold DS5 at e;split at e
 ·exact yF e (h _ _ _)
 ·cases e
def a0Y(a:Int)(b:Int)(c:Int):Pt (Bool):=(.ok true (.ok true (.ok true (.ok true (.leaf (bif (geI a b)then(leI a c)else false))))))
def wG(a:Int)(b:Int)(c:Int):Bool:=hid (a0Y a b c).val
def yV(a:Int)(b:Int)(c:Int):Bool:=hid (a0Y a b c).okv
def bA5(a:Int)(b:Int)(c:Int)(r:Bool):SV×List Blk:=((.one (.lit (.bool r))),[])
def q108:=DS5 (fun a b c=>bA5 a b c (wG a b c)) yV
theorem b8T:cP 100108 q108:=DI fun a b c hk=>tz bWE aO6 [] [] true (a0Y a b c) (bA5 a b c) hk
def Q108:=bD 100108 q108 Q190
theorem aO7:QO Q108:=aH b8T aO6
def T77(a:Int):Pt (Bool):=(.ok true (.ok ((yV a 0 65535)&&true) (.ok true (.ok true (.leaf (wG a 0 65535))))))
def g77(a:Int):Bool:=hid (T77 a).val
def k77(a:Int):Bool:=hid (T77 a).okv
def q77:=CM (fun a=>j9 a (g77 a)) k77
theorem t77:cP 100077 q77:=hH fun a hk=>tz b7Z aO7 [] [] true (T77 a) (j9 a) hk
def Q77:=bD 100077 q77 Q108
theorem a0Z:QO Q77:=aH t77 aO7
def AS6(a:aF):List SV:=[(.agg [li a.Mode,li a.Reg,li a.Ext])]
def HS6(a:aF):List Blk:=[]
def DS6(N:aF→SV×List Blk)(K:aF→Bool):List SV→List Blk→Option ((SV×List Blk)×Bool)
 |[(.agg [li c0,li c1,li c2])],[]=>some (N (aF.mk c0 c1 c2),K (aF.mk c0 c1 c2))
 |_,_=>none
theorem aF6{N:aF→SV×List Blk}{K:aF→Bool}{f:Nat}(h: ∀(a:aF),K a=true→dQ R f (AS6 a) (HS6 a)=some (N a)):cP f (DS6 N K):=fun _ _ _ e=>by
 unfold DS6 at e;split at e
 ·exact yF e (h _)
 ·cases e
def a00(a:aF):Pt (Bool):=(.ok true (.ok ((yV a.Mode 0 7)&&((((yV a.Reg 0 3)&&true)||(!(wG a.Mode 0 7)))&&true)) (.br (bif (bif (!(wG a.Mode 0 7))then true else(!(wG a.Reg 0 3)))then true else(bif (geI a.Mode 6)then(dD a.Reg 0)else false)) (.ok true (.ok true (.ok true (.leaf false)))) (.ok ((k77 a.Ext)&&((((aI7 a.Mode)&&true)||(!(g77 a.Ext)))&&true)) (.ok true (.ok true (.leaf (bif (g77 a.Ext)then(bif (aI6 a.Mode)then true else(eqI a.Ext 0))else false))))))))
def bJR(a:aF):Bool:=hid (a00 a).val
def bJS(a:aF):Bool:=hid (a00 a).okv
def WV(a:aF)(r:Bool):SV×List Blk:=((.one (.lit (.bool r))),[])
def q191:=DS6 (fun a=>WV a (bJR a)) bJS
theorem b8U:cP 100191 q191:=aF6 fun a hk=>tz bXU a0Z [(4,K0),(9,K0),(15,K0),(19,K0),(24,K0),(28,K0),(32,K0)] [] true (a00 a) (WV a) hk
def Q191:=bD 100191 q191 Q77
theorem aO8:QO Q191:=aH b8U a0Z
def a01(a:Int):Pt (Bool):=(.ok true (.ok ((yV a 2 6)&&true) (.ok true (.ok true (.leaf (wG a 2 6))))))
def bJT(a:Int):Bool:=hid (a01 a).val
def bJU(a:Int):Bool:=hid (a01 a).okv
def q192:=CM (fun a=>j9 a (bJT a)) bJU
theorem b8V:cP 100192 q192:=hH fun a hk=>tz bXV aO8 [] [] true (a01 a) (j9 a) hk
def Q192:=bD 100192 q192 Q191
theorem aO9:QO Q192:=aH b8V aO8
def a02(a:Int):Pt (Bool):=(.ok true (.ok true (.ok true (.ok true (.leaf (bif (bif (eqI a 2)then true else(eqI a 5))then true else(eqI a 6)))))))
def bA7(a:Int):Bool:=hid (a02 a).val
def bA8(a:Int):Bool:=hid (a02 a).okv
def q193:=CM (fun a=>j9 a (bA7 a)) bA8
theorem b8W:cP 100193 q193:=hH fun a hk=>tz bXW aO9 [] [] true (a02 a) (j9 a) hk
def Q193:=bD 100193 q193 Q192
theorem aPA:QO Q193:=aH b8W aO9
def a03(a:aF):Pt (Bool):=(.ok true (.ok true (.ok true (.ok true (.leaf (bif (eqI a.Mode 7)then(leI a.Ext 1023)else false))))))
def bA9(a:aF):Bool:=hid (a03 a).val
def bBA(a:aF):Bool:=hid (a03 a).okv
def q194:=DS6 (fun a=>WV a (bA9 a)) bBA
theorem b8X:cP 100194 q194:=aF6 fun a hk=>tz bXX aPA [(4,K0),(8,K0)] [] true (a03 a) (WV a) hk
def Q194:=bD 100194 q194 Q193
theorem aPB:QO Q194:=aH b8X aPA
def a04(a:aF):Pt (Bool):=(.ok true (.ok true (.ok true (.ok true (.leaf ((eqI a.Mode 0)&&((eqI a.Reg 0)&&((eqI a.Ext 0)&&true))))))))
def bBB(a:aF):Bool:=hid (a04 a).val
def bBC(a:aF):Bool:=hid (a04 a).okv
def q195:=DS6 (fun a=>WV a (bBB a)) bBC
theorem b8Y:cP 100195 q195:=aF6 fun a hk=>tz bXY aPB [(3,K4)] [] true (a04 a) (WV a) hk
def Q195:=bD 100195 q195 Q194
theorem aPC:QO Q195:=aH b8Y aPB
def AS7(a:aS):List SV:=[(.agg [li a.Op,li a.Size,li a.Reg,li a.Ea.Mode,li a.Ea.Reg,li a.Ea.Ext,li a.Sub])]
def HS7(a:aS):List Blk:=[]
def DS7(N:aS→SV×List Blk)(K:aS→Bool):List SV→List Blk→Option ((SV×List Blk)×Bool)
 |[(.agg [li c0,li c1,li c2,li c3,li c4,li c5,li c6])],[]=>some (N (aS.mk c0 c1 c2 (aF.mk c3 c4 c5) c6),K (aS.mk c0 c1 c2 (aF.mk c3 c4 c5) c6))
 |_,_=>none
theorem O6{N:aS→SV×List Blk}{K:aS→Bool}{f:Nat}(h: ∀(a:aS),K a=true→dQ R f (AS7 a) (HS7 a)=some (N a)):cP f (DS7 N K):=fun _ _ _ e=>by
 unfold DS7 at e;split at e
 ·exact yF e (h _)
 ·cases e
section
variable(a:aS)
def aJD:Bool:=(bif (!(aF5 a.Size))then true else(!(wG a.Reg 0 3)))
def aJE:Bool:=(bif (aJD a)then true else(!(bJR a.Ea)))
def aJF:Bool:=((((bJU a.Ea.Mode)&&true)||(eqI a.Ea.Mode 0))&&true)
def aJG:Bool:=(bif (eqI a.Ea.Mode 0)then true else(bJT a.Ea.Mode))
def SO:Bool:=(bif (eqI a.Size 2)then(eqI a.Sub 0)else false)
def aJH:Bool:=(bif (eqI a.Reg 0)then(leI a.Sub 3)else false)
def Z7:Bool:=(bif (eqI a.Size 2)then(eqI a.Reg 0)else false)
def aJI:Bool:=(bif (Z7 a)then(leI a.Sub 1)else false)
def aJJ:Bool:=(bif (eqI a.Sub 0)then(eqI a.Reg 0)else false)
def aJK:Bool:=(bif (aJJ a)then(bA9 a.Ea)else false)
def Z8:Bool:=(bif (eqI a.Size 2)then(leI a.Sub 6)else false)
end
def a05(a:aS):Pt (Bool):=(.ok true (.ok ((aV6 a.Size)&&((((yV a.Reg 0 3)&&true)||(!(aF5 a.Size)))&&((((bJS a.Ea)&&true)||(aJD a))&&((((yV a.Sub 0 7)&&true)||(aJE a))&&true)))) (.br (bif (bif (aJE a)then true else(!(wG a.Sub 0 7)))then true else(bif (bif (eqI a.Ea.Mode 7)then(eqI a.Size 1)else false)then(pG a.Ea.Ext 255)else false)) (.ok true (.ok true (.ok true (.leaf false)))) (.ok true (.ok true (.ok true (.ok true (.ok true (.br (bif (eqI a.Op 1)then(eqI a.Op 1)else(bif (eqI a.Op 3)then(eqI a.Op 3)else(bif (eqI a.Op 4)then(eqI a.Op 4)else(bif (eqI a.Op 5)then(eqI a.Op 5)else(bif (eqI a.Op 6)then(eqI a.Op 6)else(bif (eqI a.Op 7)then(eqI a.Op 7)else(eqI a.Op 8))))))) (.ok true (.ok true (.ok true (.leaf (bif (eqI a.Sub 0)then(bif (eqI a.Size 2)then true else(dD a.Ea.Mode 1))else false))))) (.ok true (.br (eqI a.Op 2) (.ok (((aJF a)||(!(eqI a.Sub 0)))&&true) (.ok true (.ok true (.leaf (bif (eqI a.Sub 0)then(aJG a)else false))))) (.ok true (.br (eqI a.Op 9) (.ok true (.ok true (.ok true (.leaf (SO a))))) (.ok true (.br (eqI a.Op 10) (.ok ((((bA8 a.Ea.Mode)&&true)||(!(SO a)))&&true) (.ok true (.ok true (.leaf (bif (SO a)then(bA7 a.Ea.Mode)else false))))) (.ok true (.br (eqI a.Op 11) (.ok (((aJF a)||(!(aJH a)))&&true) (.ok true (.ok true (.leaf (bif (aJH a)then(aJG a)else false))))) (.ok true (.br (eqI a.Op 12) (.ok true (.ok true (.ok true (.leaf (eqI a.Ea.Mode 0))))) (.ok true (.br (eqI a.Op 13) (.ok true (.ok true (.ok true (.leaf (bif (bif (eqI a.Size 2)then(leI a.Reg 1)else false)then(eqI a.Ea.Mode 7)else false))))) (.ok true (.br (eqI a.Op 14) (.ok ((((bA8 a.Ea.Mode)&&true)||(!(aJI a)))&&true) (.ok true (.ok true (.leaf (bif (aJI a)then(bA7 a.Ea.Mode)else false))))) (.ok true (.ok true (.br (bif (eqI a.Op 16)then(eqI a.Op 16)else(eqI a.Op 17)) (.ok true (.ok true (.ok true (.leaf (bif (SO a)then(dD a.Ea.Mode 1)else false))))) (.ok true (.br (eqI a.Op 18) (.ok true (.ok true (.ok true (.leaf (bif (bif (!(eqI a.Size 2))then(leI a.Sub 1)else false)then(eqI a.Ea.Mode 0)else false))))) (.ok true (.br (eqI a.Op 19) (.ok ((((((bBA a.Ea)&&true)||(!(aJJ a)))&&((((((bBC a.Ea)&&true)||(!(eqI a.Sub 1)))&&true)||(aJK a))&&true))||(!(eqI a.Size 2)))&&true) (.ok true (.ok true (.leaf (bif (eqI a.Size 2)then(bif (aJK a)then true else(bif (eqI a.Sub 1)then(bBB a.Ea)else false))else false))))) (.ok true (.br (eqI a.Op 15) (.ok true (.br (eqI a.Sub 3) (.ok ((((bBA a.Ea)&&true)||(!(Z7 a)))&&true) (.ok true (.ok true (.leaf (bif (Z7 a)then(bA9 a.Ea)else false))))) (.ok ((((bBC a.Ea)&&true)||(!(Z8 a)))&&true) (.ok true (.ok true (.leaf (bif (bif (Z8 a)then(bBB a.Ea)else false)then(bif (pG a.Sub 3)then true else(eqI a.Reg 0))else false))))))) (.ok true (.ok true (.ok true (.leaf false))))))))))))))))))))))))))))))))))))
def tS(a:aS):Bool:=hid (a05 a).val
def tT(a:aS):Bool:=hid (a05 a).okv
def PQ(a:aS)(r:Bool):SV×List Blk:=((.one (.lit (.bool r))),[])
def q126:=DS7 (fun a=>PQ a (tS a)) tT
theorem b8Z:cP 100126 q126:=O6 fun a hk=>tz bWR aPC [(6,K0),(11,K0),(17,K4),(23,K0),(30,K0),(34,K0),(40,K0),(45,K0),(49,K0),(51,K0),(61,K0),(73,K0),(88,K0),(96,K0),(106,K0),(110,K0),(130,K0),(142,K0),(147,K0),(160,K0),(173,K0),(185,K0),(189,K0),(194,K4),(199,K0),(203,K4),(211,K0),(216,K0),(221,K4),(227,K0),(232,K4),(237,K0),(241,K0)] [] true (a05 a) (PQ a) hk
def Q126:=bD 100126 q126 Q195
theorem Z9:QO Q126:=aH b8Z aPC
def K5:List Kd:=[.int .i64, .int .i64, .int .i64, .int .i64, .int .i64, .int .i64, .int .i64]
structure V185_0 where
 mk::
 (b0:aN)
 (b1:aS)
 (s3:Int)
section
variable(v:V185_0)
def cN:aN×Int:=(cV 4 (cV 2 (cV 19 v.b0).1).1)
def HR:Bool:=(eqI (bE 1 (cV 2 (cV 19 v.b0).1).2) 1)
def HS:Bool:=(bif (HR v)then(eqI (sG (cN v).1).2.Mode 7)else false)
def lJ:aF:={(sG (cN v).1).2 with Ext:=(bF (sG (cN v).1).2.Ext 255)}
def pS:aN×Int:=(cV 4 (sG (cN v).1).1)
def BJ:Bool:=(yG 2 (sG (cN v).1).1)
def dL:aN×Int:=(cV 2 (sG (cN v).1).1)
def BK:Bool:=(((BJ v)&&((yG 7 (dL v).1)&&((yU (eqI (bE 1 (cV 19 v.b0).2) 12) 1)&&true)))&&true)
def sH:Int:=(dE (dL v).2 (bE 1 (dE (cV 7 (dL v).1).2 (yT (eqI (bE 1 (cV 19 v.b0).2) 12) 1))))
def HT:Bool:=(((s1 v.s3)&&true)&&((((s1 true)&&(r1 (cV 7 (dL v).1).1.fcode))&&((s1 (cV 7 (dL v).1).1.fat)&&((s1 (cV 7 (dL v).1).1.fseed)&&true)))&&((nN v.b1 true)&&(((s1 (bE 1 (cV 19 v.b0).2))&&((s1 (bE 1 (cV 2 (cV 19 v.b0).1).2))&&((s1 (cN v).2)&&(sE (sG (cN v).1).2 ((s1 (sH v))&&true)))))&&true))))
def qG:aN×Int:=(cV 4 (cV 7 (dL v).1).1)
def DJ:Bool:=((tT (aS.mk (bE 1 (cV 19 v.b0).2) 1 (cN v).2 (aF.mk 0 (qG v).2 0) (bF (sH v) 7)))&&true)
def DK:Bool:=(tS (aS.mk (bE 1 (cV 19 v.b0).2) 1 (cN v).2 (aF.mk 0 (qG v).2 0) (bF (sH v) 7)))
def tU:V185_0:=(V185_0.mk (qG v).1 v.b1 (bE v.s3 1))
def DL:Bool:=((tT (aS.mk (bE 1 (cV 19 v.b0).2) (bE 1 (cV 2 (cV 19 v.b0).1).2) (cN v).2 (aF.mk 0 (qG v).2 0) (bF (sH v) 7)))&&true)
def DM:Bool:=(tS (aS.mk (bE 1 (cV 19 v.b0).2) (bE 1 (cV 2 (cV 19 v.b0).1).2) (cN v).2 (aF.mk 0 (qG v).2 0) (bF (sH v) 7)))
def nO:aN×Int:=(PP [(aY 2),(aY 4),(aY 6),(aY 8),(aY 65526),(aY 65530),(aY 0),(aY 3)] (cV 8 (dL v).1).1)
def dP:aN×Int:=(PP [(aY 0),(aY 1),(aY 2),(aY 2),(aY 3),(aY 4),(aY 5),(aY 6)] (sG (cN v).1).1)
def iD:aN×Int:=(cV 4 (dP v).1)
def nP:aN×Int:=(PP [(aY 0),(aY 256),(aY 512),(aY 1023)] (iD v).1)
def DN:Bool:=((tT (aS.mk 15 2 (iD v).2 (aF.mk 0 0 0) (dP v).2))&&true)
def DO:Bool:=(tS (aS.mk 15 2 (iD v).2 (aF.mk 0 0 0) (dP v).2))
def nQ:aN×Int:=(PP [(aY 0),(aY 256),(aY 512),(aY 1023)] (dP v).1)
def DP:Bool:=((tT (aS.mk 15 2 0 (aF.mk 0 0 0) (dP v).2))&&true)
def DQ:Bool:=(tS (aS.mk 15 2 0 (aF.mk 0 0 0) (dP v).2))
def nS:aN×Int:=(PP [(aY 0),(aY 256),(aY 480),(aY 768),(aY 31)] (sG (cN v).1).1)
def qH:aN×Bool:=(oZ 2 (nS v).1)
def tW:aN×Int:=(cV 4 (qH v).1)
def DR:Bool:=((tT (aS.mk 19 2 (tW v).2 (aF.mk 0 0 0) 1))&&true)
def DS:Bool:=(tS (aS.mk 19 2 (tW v).2 (aF.mk 0 0 0) 1))
def tX:V185_0:=(V185_0.mk (sG (cN v).1).1 v.b1 (bE v.s3 1))
end
def DT(v:V185_0):Pt (Option V185_0):=(.ok true (.br (ltI v.s3 6) (.ok ((yG 19 v.b0)&&((yG 2 (cV 19 v.b0).1)&&((yG 4 (cV 2 (cV 19 v.b0).1).1)&&((bA3 (cN v).1)&&true)))) (.ok true (.ok true (.br (eqI (bE 1 (cV 19 v.b0).2) 11) (.ok true (.ok ((yG 4 (sG (cN v).1).1)&&true) (.ok true (.br (HS v) (.ok true (.ok ((tT (aS.mk (bE 1 (cV 19 v.b0).2) (bE 1 (cV 2 (cV 19 v.b0).1).2) 0 (lJ v) (pS v).2))&&true) (.br (tS (aS.mk (bE 1 (cV 19 v.b0).2) (bE 1 (cV 2 (cV 19 v.b0).1).2) 0 (lJ v) (pS v).2)) (.ok true (.leaf none)) (.ok true (.ok true (.leaf (some (V185_0.mk (pS v).1 v.b1 (bE v.s3 1))))))))) (.ok ((tT (aS.mk (bE 1 (cV 19 v.b0).2) (bE 1 (cV 2 (cV 19 v.b0).1).2) 0 (sG (cN v).1).2 (pS v).2))&&true) (.br (tS (aS.mk (bE 1 (cV 19 v.b0).2) (bE 1 (cV 2 (cV 19 v.b0).1).2) 0 (sG (cN v).1).2 (pS v).2)) (.ok true (.leaf none)) (.ok true (.ok true (.leaf (some (V185_0.mk (pS v).1 v.b1 (bE v.s3 1)))))))))))) (.ok true (.ok true (.br (bif (eqI (bE 1 (cV 19 v.b0).2) 12)then(eqI (bE 1 (cV 19 v.b0).2) 12)else(eqI (bE 1 (cV 19 v.b0).2) 18)) (.ok ((BK v)&&(((BK v)&&((BK v)&&(HT v)))&&(HT v))) (.ok true (.ok ((yG 4 (cV 7 (dL v).1).1)&&true) (.ok true (.br (eqI (bE 1 (cV 19 v.b0).2) 18) (.ok true (.ok true (.br false (.ok true (.ok (DJ v) (.br (DK v) (.ok true (.leaf none)) (.ok true (.ok true (.leaf (some (tU v)))))))) (.ok (DJ v) (.br (DK v) (.ok true (.leaf none)) (.ok true (.ok true (.leaf (some (tU v)))))))))) (.ok true (.br (bif (HR v)then false else false) (.ok true (.ok (DL v) (.br (DM v) (.ok true (.leaf none)) (.ok true (.ok true (.leaf (some (tU v)))))))) (.ok (DL v) (.br (DM v) (.ok true (.leaf none)) (.ok true (.ok true (.leaf (some (tU v)))))))))))))) (.ok true (.br (eqI (bE 1 (cV 19 v.b0).2) 13) (.ok ((BJ v)&&((yG 8 (dL v).1)&&((k90 [(aY 2),(aY 4),(aY 6),(aY 8),(aY 65526),(aY 65530),(aY 0),(aY 3)] (cV 8 (dL v).1).1)&&true))) (.ok true (.br false (.ok true (.ok ((tT (aS.mk 13 2 (dL v).2 (aF.mk 7 0 (bF (nO v).2 255)) (cV 8 (dL v).1).2))&&true) (.br (tS (aS.mk 13 2 (dL v).2 (aF.mk 7 0 (bF (nO v).2 255)) (cV 8 (dL v).1).2)) (.ok true (.leaf none)) (.ok true (.ok true (.leaf (some (V185_0.mk (nO v).1 v.b1 (bE v.s3 1))))))))) (.ok ((tT (aS.mk 13 2 (dL v).2 (aF.mk 7 0 (nO v).2) (cV 8 (dL v).1).2))&&true) (.br (tS (aS.mk 13 2 (dL v).2 (aF.mk 7 0 (nO v).2) (cV 8 (dL v).1).2)) (.ok true (.leaf none)) (.ok true (.ok true (.leaf (some (V185_0.mk (nO v).1 v.b1 (bE v.s3 1))))))))))) (.ok true (.br (eqI (bE 1 (cV 19 v.b0).2) 14) (.ok true (.ok true (.ok ((BJ v)&&true) (.ok true (.br false (.ok true (.ok ((tT (aS.mk (bE 1 (cV 19 v.b0).2) 2 0 (lJ v) (dL v).2))&&true) (.br (tS (aS.mk (bE 1 (cV 19 v.b0).2) 2 0 (lJ v) (dL v).2)) (.ok true (.leaf none)) (.ok true (.ok true (.leaf (some (V185_0.mk (dL v).1 v.b1 (bE v.s3 1))))))))) (.ok ((tT (aS.mk (bE 1 (cV 19 v.b0).2) 2 0 (sG (cN v).1).2 (dL v).2))&&true) (.br (tS (aS.mk (bE 1 (cV 19 v.b0).2) 2 0 (sG (cN v).1).2 (dL v).2)) (.ok true (.leaf none)) (.ok true (.ok true (.leaf (some (V185_0.mk (dL v).1 v.b1 (bE v.s3 1))))))))))))) (.ok true (.br (eqI (bE 1 (cV 19 v.b0).2) 15) (.ok ((k90 [(aY 0),(aY 1),(aY 2),(aY 2),(aY 3),(aY 4),(aY 5),(aY 6)] (sG (cN v).1).1)&&true) (.ok true (.br (pG (dP v).2 3) (.ok ((yG 4 (dP v).1)&&true) (.ok true (.br (eqI (dP v).2 3) (.ok ((k90 [(aY 0),(aY 256),(aY 512),(aY 1023)] (iD v).1)&&true) (.ok true (.br false (.ok true (.ok ((tT (aS.mk 15 2 (iD v).2 (aF.mk 7 0 (bF (nP v).2 255)) (dP v).2))&&true) (.br (tS (aS.mk 15 2 (iD v).2 (aF.mk 7 0 (bF (nP v).2 255)) (dP v).2)) (.ok true (.leaf none)) (.ok true (.ok true (.leaf (some (V185_0.mk (nP v).1 v.b1 (bE v.s3 1))))))))) (.ok ((tT (aS.mk 15 2 (iD v).2 (aF.mk 7 0 (nP v).2) (dP v).2))&&true) (.br (tS (aS.mk 15 2 (iD v).2 (aF.mk 7 0 (nP v).2) (dP v).2)) (.ok true (.leaf none)) (.ok true (.ok true (.leaf (some (V185_0.mk (nP v).1 v.b1 (bE v.s3 1))))))))))) (.ok true (.br false (.ok true (.ok (DN v) (.br (DO v) (.ok true (.leaf none)) (.ok true (.ok true (.leaf (some (V185_0.mk (iD v).1 v.b1 (bE v.s3 1))))))))) (.ok (DN v) (.br (DO v) (.ok true (.leaf none)) (.ok true (.ok true (.leaf (some (V185_0.mk (iD v).1 v.b1 (bE v.s3 1))))))))))))) (.ok true (.br (eqI (dP v).2 3) (.ok ((k90 [(aY 0),(aY 256),(aY 512),(aY 1023)] (dP v).1)&&true) (.ok true (.br false (.ok true (.ok ((tT (aS.mk 15 2 0 (aF.mk 7 0 (bF (nQ v).2 255)) (dP v).2))&&true) (.br (tS (aS.mk 15 2 0 (aF.mk 7 0 (bF (nQ v).2 255)) (dP v).2)) (.ok true (.leaf none)) (.ok true (.ok true (.leaf (some (V185_0.mk (nQ v).1 v.b1 (bE v.s3 1))))))))) (.ok ((tT (aS.mk 15 2 0 (aF.mk 7 0 (nQ v).2) (dP v).2))&&true) (.br (tS (aS.mk 15 2 0 (aF.mk 7 0 (nQ v).2) (dP v).2)) (.ok true (.leaf none)) (.ok true (.ok true (.leaf (some (V185_0.mk (nQ v).1 v.b1 (bE v.s3 1))))))))))) (.ok true (.br false (.ok true (.ok (DP v) (.br (DQ v) (.ok true (.leaf none)) (.ok true (.ok true (.leaf (some (V185_0.mk (dP v).1 v.b1 (bE v.s3 1))))))))) (.ok (DP v) (.br (DQ v) (.ok true (.leaf none)) (.ok true (.ok true (.leaf (some (V185_0.mk (dP v).1 v.b1 (bE v.s3 1))))))))))))))) (.ok true (.br (eqI (bE 1 (cV 19 v.b0).2) 19) (.ok ((k90 [(aY 0),(aY 256),(aY 480),(aY 768),(aY 31)] (sG (cN v).1).1)&&true) (.ok ((k86 2 (nS v).1)&&true) (.br (qH v).2 (.ok ((yG 4 (qH v).1)&&true) (.ok true (.br false (.ok true (.ok (DR v) (.br (DS v) (.ok true (.leaf none)) (.ok true (.ok true (.leaf (some (V185_0.mk (tW v).1 v.b1 (bE v.s3 1))))))))) (.ok (DR v) (.br (DS v) (.ok true (.leaf none)) (.ok true (.ok true (.leaf (some (V185_0.mk (tW v).1 v.b1 (bE v.s3 1))))))))))) (.ok true (.br false (.ok true (.ok ((tT (aS.mk 19 2 0 (aF.mk 7 0 (bF (nS v).2 255)) 0))&&true) (.br (tS (aS.mk 19 2 0 (aF.mk 7 0 (bF (nS v).2 255)) 0)) (.ok true (.leaf none)) (.ok true (.ok true (.leaf (some (V185_0.mk (qH v).1 v.b1 (bE v.s3 1))))))))) (.ok ((tT (aS.mk 19 2 0 (aF.mk 7 0 (nS v).2) 0))&&true) (.br (tS (aS.mk 19 2 0 (aF.mk 7 0 (nS v).2) 0)) (.ok true (.leaf none)) (.ok true (.ok true (.leaf (some (V185_0.mk (qH v).1 v.b1 (bE v.s3 1))))))))))))) (.ok true (.ok true (.br (bif (eqI (bE 1 (cV 19 v.b0).2) 16)then(eqI (bE 1 (cV 19 v.b0).2) 16)else(bif (eqI (bE 1 (cV 19 v.b0).2) 17)then(eqI (bE 1 (cV 19 v.b0).2) 17)else(bif (eqI (bE 1 (cV 19 v.b0).2) 9)then(eqI (bE 1 (cV 19 v.b0).2) 9)else(eqI (bE 1 (cV 19 v.b0).2) 10)))) (.ok true (.ok true (.br false (.ok true (.ok ((tT (aS.mk (bE 1 (cV 19 v.b0).2) 2 (cN v).2 (lJ v) 0))&&true) (.br (tS (aS.mk (bE 1 (cV 19 v.b0).2) 2 (cN v).2 (lJ v) 0)) (.ok true (.leaf none)) (.ok true (.ok true (.leaf (some (tX v)))))))) (.ok ((tT (aS.mk (bE 1 (cV 19 v.b0).2) 2 (cN v).2 (sG (cN v).1).2 0))&&true) (.br (tS (aS.mk (bE 1 (cV 19 v.b0).2) 2 (cN v).2 (sG (cN v).1).2 0)) (.ok true (.leaf none)) (.ok true (.ok true (.leaf (some (tX v)))))))))) (.ok true (.br (HS v) (.ok true (.ok ((tT (aS.mk (bE 1 (cV 19 v.b0).2) (bE 1 (cV 2 (cV 19 v.b0).1).2) (cN v).2 (lJ v) 0))&&true) (.br (tS (aS.mk (bE 1 (cV 19 v.b0).2) (bE 1 (cV 2 (cV 19 v.b0).1).2) (cN v).2 (lJ v) 0)) (.ok true (.leaf none)) (.ok true (.ok true (.leaf (some (tX v)))))))) (.ok ((tT (aS.mk (bE 1 (cV 19 v.b0).2) (bE 1 (cV 2 (cV 19 v.b0).1).2) (cN v).2 (sG (cN v).1).2 0))&&true) (.br (tS (aS.mk (bE 1 (cV 19 v.b0).2) (bE 1 (cV 2 (cV 19 v.b0).1).2) (cN v).2 (sG (cN v).1).2 0)) (.ok true (.leaf none)) (.ok true (.ok true (.leaf (some (tX v))))))))))))))))))))))))))) (.leaf none)))
def SQ(v:V185_0):St:=⟨[(0,(.one (.ptr 0 0 0))),(2,(.one (.ptr 1 0 0))),(3,(.one (li v.s3)))],[.box [.imm true 1 v.b0.fcode,li v.b0.fat, .lit (.int .u64 v.b0.fseed)], .box [li v.b1.Op,li v.b1.Size,li v.b1.Reg,li v.b1.Ea.Mode,li v.b1.Ea.Reg,li v.b1.Ea.Ext,li v.b1.Sub]]⟩
def aAA:St→Option (V185_0×Bool)
 |⟨[(0,(.one (.ptr 0 0 0))),(2,(.one (.ptr 1 0 0))),(3,(.one (li c10)))],[.box [.imm true 1 c0,li c1, .lit (.int .u64 c2)], .box [li c3,li c4,li c5,li c6,li c7,li c8,li c9]]⟩=>some ((V185_0.mk (aN.mk c0 c1 c2) (aS.mk c3 c4 c5 (aF.mk c6 c7 c8) c9) c10),true)
 |_=>none
def aAB:St→Option (Pt Out):=xN Q126 [(21,K0),(36,K0),(44,K0),(52,K0),(80,K0),(86,K0),(112,K0),(117,K0),(122,K0),(126,K5),(128,K5)] [] true [] 1 2097152 aIU
theorem bBD(v:V185_0):((aAB (SQ v)).bind (rW true false 1 [0,2,3]))=some ((DT v).map (Option.map SQ)):=by kernel_rfl
theorem bBE(σ:St)(v:V185_0)(h:aAA σ=some (v,true)):σ=SQ v:=by
 unfold aAA at h;split at h
 ·obtain⟨hr,hk⟩:=qp (qi h);rw[←hr];rfl
 ·simp at h
theorem bBF:cY (uB true false 1 [0,2,3] aAB aAA SQ DT 2097152) (fT R 1 2097152 (.loop [0,2,3] aIU)):=eE (cZ Z9 (cI (l:=[]) (by kernel_rfl) trivial)) bBE bBD
def bBG:Lp:=(5,uB true false 1 [0,2,3] aAB aAA SQ DT 2097152)::[]
def aJL(v:V185_0):V185_0:=(hid (dW DT 2097152 v)).getD v
def aJM(v:V185_0):Bool:=(hid (dW DT 2097152 v)).isSome
section
variable(a:aN)
def gW:V185_0:=(aJL (V185_0.mk a (aS.mk 0 0 0 (aF.mk 0 0 0) 0) 0))
def lZ:aN×Int:=(cV 2 (cV 19 (gW a).b0).1)
def gX:aN×aF:=(sG (cV 4 (lZ a).1).1)
def aJN:Bool:=(bif (eqI (bE 1 (lZ a).2) 1)then(eqI (gX a).2.Mode 7)else false)
def SR:aF:={(gX a).2 with Ext:=(bF (gX a).2.Ext 255)}
def aAC:Bool:=(eqI (bE 1 (cV 19 (gW a).b0).2) 12)
def aJO:Bool:=(eqI (bE 1 (cV 19 (gW a).b0).2) 18)
def yW:aN×Int:=(cV 7 (cV 2 (gX a).1).1)
def SS:Int:=(bF (dE (cV 2 (gX a).1).2 (bE 1 (dE (yW a).2 (yT (aAC a) 1)))) 7)
def aAD:aN×Int:=(cV 8 (cV 2 (gX a).1).1)
def J4:aN×Int:=(PP [(aY 2),(aY 4),(aY 6),(aY 8),(aY 65526),(aY 65530),(aY 0),(aY 3)] (aAD a).1)
def gJ:aN×Int:=(PP [(aY 0),(aY 1),(aY 2),(aY 2),(aY 3),(aY 4),(aY 5),(aY 6)] (gX a).1)
def J5:aN×Int:=(PP [(aY 0),(aY 256),(aY 512),(aY 1023)] (cV 4 (gJ a).1).1)
def J6:aN×Int:=(PP [(aY 0),(aY 256),(aY 512),(aY 1023)] (gJ a).1)
def BL:aN×Int:=(PP [(aY 0),(aY 256),(aY 480),(aY 768),(aY 31)] (gX a).1)
def J7:aN×Int:=(cV 4 (oZ 2 (BL a).1).1)
def aAE:Bool:=(eqI (bE 1 (cV 19 (gW a).b0).2) 16)
def aAF:Bool:=(eqI (bE 1 (cV 19 (gW a).b0).2) 17)
def aAG:Bool:=(eqI (bE 1 (cV 19 (gW a).b0).2) 9)
end
def aV8(a:aN):Pt (aN×aS):=(.ok true (.ok true (.ok true (.ok true (.ok (aJM (V185_0.mk a (aS.mk 0 0 0 (aF.mk 0 0 0) 0) 0)) (.br (ltI (gW a).s3 6) (.br (eqI (bE 1 (cV 19 (gW a).b0).2) 11) (.br (aJN a) (.ok true (.leaf ((cV 4 (gX a).1).1,(aS.mk (bE 1 (cV 19 (gW a).b0).2) (bE 1 (lZ a).2) 0 (SR a) (cV 4 (gX a).1).2)))) (.ok true (.leaf ((cV 4 (gX a).1).1,(aS.mk (bE 1 (cV 19 (gW a).b0).2) (bE 1 (lZ a).2) 0 (gX a).2 (cV 4 (gX a).1).2))))) (.br (bif (aAC a)then(aAC a)else(aJO a)) (.br (aJO a) (.br false (.ok true (.leaf ((cV 4 (yW a).1).1,(aS.mk (bE 1 (cV 19 (gW a).b0).2) 1 (cV 4 (lZ a).1).2 (aF.mk 0 (cV 4 (yW a).1).2 0) (SS a))))) (.ok true (.leaf ((cV 4 (yW a).1).1,(aS.mk (bE 1 (cV 19 (gW a).b0).2) 1 (cV 4 (lZ a).1).2 (aF.mk 0 (cV 4 (yW a).1).2 0) (SS a)))))) (.br (bif (eqI (bE 1 (lZ a).2) 1)then false else false) (.ok true (.leaf ((cV 4 (yW a).1).1,(aS.mk (bE 1 (cV 19 (gW a).b0).2) (bE 1 (lZ a).2) (cV 4 (lZ a).1).2 (aF.mk 0 (cV 4 (yW a).1).2 0) (SS a))))) (.ok true (.leaf ((cV 4 (yW a).1).1,(aS.mk (bE 1 (cV 19 (gW a).b0).2) (bE 1 (lZ a).2) (cV 4 (lZ a).1).2 (aF.mk 0 (cV 4 (yW a).1).2 0) (SS a))))))) (.br (eqI (bE 1 (cV 19 (gW a).b0).2) 13) (.br false (.ok true (.leaf ((J4 a).1,(aS.mk 13 2 (cV 2 (gX a).1).2 (aF.mk 7 0 (bF (J4 a).2 255)) (aAD a).2)))) (.ok true (.leaf ((J4 a).1,(aS.mk 13 2 (cV 2 (gX a).1).2 (aF.mk 7 0 (J4 a).2) (aAD a).2))))) (.br (eqI (bE 1 (cV 19 (gW a).b0).2) 14) (.br false (.ok true (.leaf ((cV 2 (gX a).1).1,(aS.mk (bE 1 (cV 19 (gW a).b0).2) 2 0 (SR a) (cV 2 (gX a).1).2)))) (.ok true (.leaf ((cV 2 (gX a).1).1,(aS.mk (bE 1 (cV 19 (gW a).b0).2) 2 0 (gX a).2 (cV 2 (gX a).1).2))))) (.br (eqI (bE 1 (cV 19 (gW a).b0).2) 15) (.br (pG (gJ a).2 3) (.br (eqI (gJ a).2 3) (.br false (.ok true (.leaf ((J5 a).1,(aS.mk 15 2 (cV 4 (gJ a).1).2 (aF.mk 7 0 (bF (J5 a).2 255)) (gJ a).2)))) (.ok true (.leaf ((J5 a).1,(aS.mk 15 2 (cV 4 (gJ a).1).2 (aF.mk 7 0 (J5 a).2) (gJ a).2))))) (.br false (.ok true (.leaf ((cV 4 (gJ a).1).1,(aS.mk 15 2 (cV 4 (gJ a).1).2 (aF.mk 0 0 0) (gJ a).2)))) (.ok true (.leaf ((cV 4 (gJ a).1).1,(aS.mk 15 2 (cV 4 (gJ a).1).2 (aF.mk 0 0 0) (gJ a).2)))))) (.br (eqI (gJ a).2 3) (.br false (.ok true (.leaf ((J6 a).1,(aS.mk 15 2 0 (aF.mk 7 0 (bF (J6 a).2 255)) (gJ a).2)))) (.ok true (.leaf ((J6 a).1,(aS.mk 15 2 0 (aF.mk 7 0 (J6 a).2) (gJ a).2))))) (.br false (.ok true (.leaf ((gJ a).1,(aS.mk 15 2 0 (aF.mk 0 0 0) (gJ a).2)))) (.ok true (.leaf ((gJ a).1,(aS.mk 15 2 0 (aF.mk 0 0 0) (gJ a).2))))))) (.br (eqI (bE 1 (cV 19 (gW a).b0).2) 19) (.br (oZ 2 (BL a).1).2 (.br false (.ok true (.leaf ((J7 a).1,(aS.mk 19 2 (J7 a).2 (aF.mk 0 0 0) 1)))) (.ok true (.leaf ((J7 a).1,(aS.mk 19 2 (J7 a).2 (aF.mk 0 0 0) 1))))) (.br false (.ok true (.leaf ((oZ 2 (BL a).1).1,(aS.mk 19 2 0 (aF.mk 7 0 (bF (BL a).2 255)) 0)))) (.ok true (.leaf ((oZ 2 (BL a).1).1,(aS.mk 19 2 0 (aF.mk 7 0 (BL a).2) 0)))))) (.br (bif (aAE a)then(aAE a)else(bif (aAF a)then(aAF a)else(bif (aAG a)then(aAG a)else(eqI (bE 1 (cV 19 (gW a).b0).2) 10)))) (.br false (.ok true (.leaf ((gX a).1,(aS.mk (bE 1 (cV 19 (gW a).b0).2) 2 (cV 4 (lZ a).1).2 (SR a) 0)))) (.ok true (.leaf ((gX a).1,(aS.mk (bE 1 (cV 19 (gW a).b0).2) 2 (cV 4 (lZ a).1).2 (gX a).2 0))))) (.br (aJN a) (.ok true (.leaf ((gX a).1,(aS.mk (bE 1 (cV 19 (gW a).b0).2) (bE 1 (lZ a).2) (cV 4 (lZ a).1).2 (SR a) 0)))) (.ok true (.leaf ((gX a).1,(aS.mk (bE 1 (cV 19 (gW a).b0).2) (bE 1 (lZ a).2) (cV 4 (lZ a).1).2 (gX a).2 0)))))))))))) (.ok true (.ok true (.leaf ((gW a).b0,(aS.mk 15 2 0 (aF.mk 0 0 0) 2)))))))))))
def PR(a:aN):aN×aS:=hid (aV8 a).val
def bBH(a:aN):Bool:=hid (aV8 a).okv
def bBI(a:aN)(r:aN×aS):SV×List Blk:=((.agg [li r.2.Op,li r.2.Size,li r.2.Reg,li r.2.Ea.Mode,li r.2.Ea.Reg,li r.2.Ea.Ext,li r.2.Sub]),[.box [.imm true 1 r.1.fcode,li r.1.fat, .lit (.int .u64 r.1.fseed)]])
def q185:=DS0 (fun a=>bBI a (PR a)) bBH
theorem b1E:fN (fun live x=>cY (nL bBG (lV x)) (fT R 1 2097152 (.loop live x))) F185.body:=(cI (l:=[([0,2,3],aIU)]) (by kernel_rfl) ⟨fH (n:=5) (by kernel_rfl) fun σ σr t h ho hl=>bBF σ σr t h ho hl,trivial⟩)
theorem b80:cP 185 q185:=O5 fun a hk=>tcl bXO Z9 b1E [(21,K0),(36,K0),(44,K0),(52,K0),(80,K0),(86,K0),(112,K0),(117,K0),(122,K0),(126,K5),(128,K5)] [] true (aV8 a) (bBI a) hk
def Q185:=bD 185 q185 Q126
theorem aPD:QO Q185:=aH b80 Z9
section
variable(a:aN)
def MS:aN×Int:=(cV 22 (oZ 20 (PR a).1).1)
def MT:aN×Int:=(cV 5 (cV 4 (MS a).1).1)
def aJP:aN×Int:=(cV 9 (sG (MT a).1).1)
end
def a06(a:aN):Pt (aN×aS):=(.ok true (.ok ((bBH a)&&true) (.ok ((k86 20 (PR a).1)&&true) (.br (oZ 20 (PR a).1).2 (.ok ((yG 22 (oZ 20 (PR a).1).1)&&((yG 4 (MS a).1)&&((yG 5 (cV 4 (MS a).1).1)&&((bA3 (MT a).1)&&((yG 9 (sG (MT a).1).1)&&true))))) (.ok true (.ok true (.leaf ((aJP a).1,(aS.mk (MS a).2 (cV 4 (MS a).1).2 (MT a).2 (sG (MT a).1).2 (aJP a).2)))))) (.ok true (.ok true (.leaf ((oZ 20 (PR a).1).1,(PR a).2))))))))
def aJQ(a:aN):aN×aS:=hid (a06 a).val
def a07(a:aN):Bool:=hid (a06 a).okv
def q123:=DS0 (fun a=>bBI a (aJQ a)) a07
theorem b81:cP 123 q123:=O5 fun a hk=>tc bWP aPD [(19,K5)] [] true (a06 a) (bBI a) hk
def Q123:=bD 123 q123 Q185
theorem aAH:QO Q123:=aH b81 aPD
structure V202_0 where
 mk::
 (b0:aN)
 (s3:List Row)
 (s4:Int)
section
variable(v:V202_0)
def HU:Nat:=(ln (v.s3++[(aS.row (PR v.b0).2)]))
end
def MU(v:V202_0):Pt (Option V202_0):=(.ok true (.br (pG v.s4 0) (.ok ((bBH v.b0)&&(((e1 (ln v.s3))&&((dZ (0+(ln v.s3)) (ln v.s3))&&((nX (qY ((ln v.s3)+1) 56) 140737488355328)&&(nX ((ln v.s3)+1) 140737488355328))))&&true)) (.ok true (.ok (((e1 (HU v))&&true)&&((e1 (HU v))&&true)) (.leaf (some (V202_0.mk (PR v.b0).1 (v.s3++[(aS.row (PR v.b0).2)]) (cM v.s4 1))))))) (.leaf none)))
def ST(v:V202_0):St:=⟨[(0,(.one (.ptr 0 0 0))),(3,(.one (.sl 1 0 (ln v.s3)))),(4,(.one (li v.s4)))],[.box [.imm true 1 v.b0.fcode,li v.b0.fat, .lit (.int .u64 v.b0.fseed)], .lst 7 v.s3]⟩
def aAI:St→Option (V202_0×Bool)
 |⟨[(0,(.one (.ptr 0 0 0))),(3,(.one (.sl 1 0 l1))),(4,(.one (li c3)))],[.box [.imm true 1 c0,li c1, .lit (.int .u64 c2)], .lst 7 c_1]⟩=>some ((V202_0.mk (aN.mk c0 c1 c2) c_1 c3),dZ l1 (ln c_1)&&(true))
 |_=>none
def aAJ:St→Option (Pt Out):=xN Q123 [(31,K5),(1000000,[])] [] true [] 1 2097152 aIW
theorem bBJ(v:V202_0):((aAJ (ST v)).bind (rW true false 1 [0,3,4]))=some ((MU v).map (Option.map ST)):=by kernel_rfl
theorem bBK(σ:St)(v:V202_0)(h:aAI σ=some (v,true)):σ=ST v:=by
 unfold aAI at h;split at h
 ·obtain⟨hr,hk⟩:=qp (qi h);obtain⟨d0,hk0⟩:=bI hk;obtain rfl:=of_decide_eq_true d0;rw[←hr];rfl
 ·simp at h
theorem bBL:cY (uB true false 1 [0,3,4] aAJ aAI ST MU 2097152) (fT R 1 2097152 (.loop [0,3,4] aIW)):=eE (cZ aAH (cI (l:=[]) (by kernel_rfl) trivial)) bBK bBJ
def bBM:Lp:=(12,uB true false 1 [0,3,4] aAJ aAI ST MU 2097152)::[]
def SU(v:V202_0):V202_0:=(hid (dW MU 2097152 v)).getD v
def aAK(v:V202_0):Bool:=(hid (dW MU 2097152 v)).isSome
section
variable(a:aN)
def SW:aN×Int:=(cV 2 (oZ 20 (cV 8 a).1).1)
def gY:V202_0:=(SU (V202_0.mk (SW a).1 [] (bE 40 (SW a).2)))
def SX:aN:=(aN.mk (bif (pG (bX (gY a).s3) 0)then(oZ 20 (gY a).b0).1.fcode else(gY a).b0.fcode) (bif (pG (bX (gY a).s3) 0)then(oZ 20 (gY a).b0).1.fat else(gY a).b0.fat) (bif (pG (bX (gY a).s3) 0)then(oZ 20 (gY a).b0).1.fseed else(gY a).b0.fseed))
def MV:List Row:=(bif (pG (bX (gY a).s3) 0)then(gY a).s3 else(gY a).s3)
def aJR:List Row:=(List.set (MV a) 0 (aS.row (aJQ (SX a)).2))
def aJS:Bool:=((e1 (ln (gY a).s3))&&true)
def aJT:List Row:=(List.take (ln (gY a).s3) (aJR a))
def aJU:List Row:=(List.take (ln (gY a).s3) (MV a))
def gZ:V202_0:=(SU (V202_0.mk (oZ 20 (cV 8 a).1).1 [] (cV 8 a).2))
def SY:aN:=(aN.mk (bif (pG (bX (gZ a).s3) 0)then(oZ 20 (gZ a).b0).1.fcode else(gZ a).b0.fcode) (bif (pG (bX (gZ a).s3) 0)then(oZ 20 (gZ a).b0).1.fat else(gZ a).b0.fat) (bif (pG (bX (gZ a).s3) 0)then(oZ 20 (gZ a).b0).1.fseed else(gZ a).b0.fseed))
def FQ:List Row:=(bif (pG (bX (gZ a).s3) 0)then(gZ a).s3 else(gZ a).s3)
def aAL:List Row:=(List.set (FQ a) 0 (aS.row (aJQ (SY a)).2))
def aAM:Bool:=((e1 (ln (gZ a).s3))&&true)
def aAN:List Row:=(List.take (ln (gZ a).s3) (aAL a))
def aAO:List Row:=(List.take (ln (gZ a).s3) (FQ a))
end
def a08(a:aN):Pt (aN×List Row):=(.ok true (.ok true (.ok ((yG 8 a)&&true) (.ok ((k86 20 (cV 8 a).1)&&true) (.br (oZ 20 (cV 8 a).1).2 (.ok ((yG 2 (oZ 20 (cV 8 a).1).1)&&true) (.ok true (.ok true (.ok (aAK (V202_0.mk (SW a).1 [] (bE 40 (SW a).2))) (.ok ((nX (0+(ln (gY a).s3)) (ln (gY a).s3))&&((((k86 20 (gY a).b0)&&true)||(!(pG (bX (gY a).s3) 0)))&&true)) (.br (bif (pG (bX (gY a).s3) 0)then(oZ 20 (gY a).b0).2 else false) (.ok ((a07 (SX a))&&((ltI 0 (bX (gY a).s3))&&(((blt 0 (ln (MV a)))&&(j7 (j8 (MV a) 0) 7))&&true))) (.ok true (.ok ((((nX (0+(ln (gY a).s3)) (ln (aJR a)))&&true)&&(aJS a))&&((dZ (ln (gY a).s3) (ln (aJT a)))&&true)) (.leaf ((aJQ (SX a)).1,(aJT a)))))) (.ok true (.ok ((((nX (0+(ln (gY a).s3)) (ln (MV a)))&&true)&&(aJS a))&&((dZ (ln (gY a).s3) (ln (aJU a)))&&true)) (.leaf ((SX a),(aJU a))))))))))) (.ok true (.ok true (.ok (aAK (V202_0.mk (oZ 20 (cV 8 a).1).1 [] (cV 8 a).2)) (.ok ((nX (0+(ln (gZ a).s3)) (ln (gZ a).s3))&&((((k86 20 (gZ a).b0)&&true)||(!(pG (bX (gZ a).s3) 0)))&&true)) (.br (bif (pG (bX (gZ a).s3) 0)then(oZ 20 (gZ a).b0).2 else false) (.ok ((a07 (SY a))&&((ltI 0 (bX (gZ a).s3))&&(((blt 0 (ln (FQ a)))&&(j7 (j8 (FQ a) 0) 7))&&true))) (.ok true (.ok ((((nX (0+(ln (gZ a).s3)) (ln (aAL a)))&&true)&&(aAM a))&&((dZ (ln (gZ a).s3) (ln (aAN a)))&&true)) (.leaf ((aJQ (SY a)).1,(aAN a)))))) (.ok true (.ok ((((nX (0+(ln (gZ a).s3)) (ln (FQ a)))&&true)&&(aAM a))&&((dZ (ln (gZ a).s3) (ln (aAO a)))&&true)) (.leaf ((SY a),(aAO a)))))))))))))))
def PS(a:aN):aN×List Row:=hid (a08 a).val
def bJV(a:aN):Bool:=hid (a08 a).okv
def b1F(a:aN)(r:aN×List Row):SV×List Blk:=((.one (.sl 1 0 (ln r.2))),[.box [.imm true 1 r.1.fcode,li r.1.fat, .lit (.int .u64 r.1.fseed)], .lst 7 r.2])
def q202:=DS0 (fun a=>b1F a (PS a)) bJV
theorem b1G:fN (fun live x=>cY (nL bBM (lV x)) (fT R 1 2097152 (.loop live x))) F202.body:=(cI (l:=[([0,3,4],aIW)]) (by kernel_rfl) ⟨fH (n:=12) (by kernel_rfl) fun σ σr t h ho hl=>bBL σ σr t h ho hl,trivial⟩)
theorem b82:cP 202 q202:=O5 fun a hk=>tcl bX2 aAH b1G [(31,K5),(1000000,[])] [] true (a08 a) (b1F a) hk
def Q202:=bD 202 q202 Q123
theorem aPE:QO Q202:=aH b82 aAH
def a09(a:aS):Pt (List Row):=(.ok true (.ok true (.ok ((aI7 a.Ea.Mode)&&true) (.br (aI6 a.Ea.Mode) (.ok true (.ok true (.ok true (.leaf [(aY (fB (fB (fB (fB (fB (m9 a.Op 11) (m9 (cM a.Size 1) 10)) (m9 a.Reg 8)) (m9 a.Ea.Mode 5)) (m9 a.Ea.Reg 3)) a.Sub)),(aY a.Ea.Ext)])))) (.ok true (.ok true (.leaf [(aY (fB (fB (fB (fB (fB (m9 a.Op 11) (m9 (cM a.Size 1) 10)) (m9 a.Reg 8)) (m9 a.Ea.Mode 5)) (m9 a.Ea.Reg 3)) a.Sub))])))))))
def bJW(a:aS):List Row:=hid (a09 a).val
def bJX(a:aS):Bool:=hid (a09 a).okv
def bBN(a:aS)(r:List Row):SV×List Blk:=((.one (.sl 0 0 (ln r))),[.lst 1 r])
def q196:=DS7 (fun a=>bBN a (bJW a)) bJX
theorem b83:cP 196 q196:=O6 fun a hk=>tc bXZ aPE [(5,K0),(8,K0),(13,K0),(18,K0),(23,K0),(27,K0),(32,K0),(37,K0)] [] true (a09 a) (bBN a) hk
def Q196:=bD 196 q196 Q202
theorem aAP:QO Q196:=aH b83 aPE
def AS8(a:List Row):List SV:=[(.one (.imm false 7 a))]
def HS8(a:List Row):List Blk:=[]
def DS8(N:List Row→SV×List Blk)(K:List Row→Bool):List SV→List Blk→Option ((SV×List Blk)×Bool)
 |[(.one (.imm false 7 c0))],[]=>some (N c0,K c0)
 |_,_=>none
theorem b1H{N:List Row→SV×List Blk}{K:List Row→Bool}{f:Nat}(h: ∀(a:List Row),K a=true→dQ R f (AS8 a) (HS8 a)=some (N a)):cP f (DS8 N K):=fun _ _ _ e=>by
 unfold DS8 at e;split at e
 ·exact yF e (h _)
 ·cases e
structure V201_0 where
 mk::
 (s0:List Row)
 (s4:List Row)
 (s7:List Row)
 (s8:Int)
 (s9:Int)
section
variable(v:V201_0)
def wH:List Row:=(bJW (aS.at v.s7 (iN v.s9) 0))
def HV:Nat:=((ln v.s4)+(ln (wH v)))
def HW:Bool:=((e1 (ln (v.s4++(wH v))))&&true)
end
def MW(v:V201_0):Pt (Option V201_0):=(.ok true (.br (ltI v.s9 v.s8) (.ok ((iG [.int .i64, .int .i64, .int .i64, .int .i64, .int .i64, .int .i64, .int .i64] v.s7 v.s9)&&true) (.ok ((tT (aS.at v.s7 (iN v.s9) 0))&&true) (.br (!(tS (aS.at v.s7 (iN v.s9) 0))) (.ok true (.leaf none)) (.ok ((bJX (aS.at v.s7 (iN v.s9) 0))&&(((e1 (ln v.s4))&&((e1 (ln (wH v)))&&((dZ (0+(ln v.s4)) (ln v.s4))&&((nX (qY (HV v) 8) 140737488355328)&&(nX (HV v) 140737488355328)))))&&true)) (.ok true (.ok ((HW v)&&(HW v)) (.leaf (some {v with s4:=(v.s4++(wH v)),s9:=(bE v.s9 1)})))))))) (.leaf none)))
def SZ(v:V201_0):St:=⟨[(0,(.one (.imm false 7 v.s0))),(4,(.one (.sl 0 0 (ln v.s4)))),(7,(.one (.imm false 7 v.s7))),(8,(.one (li v.s8))),(9,(.one (li v.s9)))],[.lst 1 v.s4]⟩
def aAQ:St→Option (V201_0×Bool)
 |⟨[(0,(.one (.imm false 7 c0))),(4,(.one (.sl 0 0 l0))),(7,(.one (.imm false 7 c1))),(8,(.one (li c2))),(9,(.one (li c3)))],[.lst 1 c_0]⟩=>some ((V201_0.mk c0 c_0 c1 c2 c3),dZ l0 (ln c_0)&&(true))
 |_=>none
def aAR:St→Option (Pt Out):=xN Q196 [(11,K5),(12,K5),(13,K5),(17,K5)] [] true [] 0 2097152 aIV
theorem bBO(v:V201_0):((aAR (SZ v)).bind (rW true false 0 [0,4,7,8,9]))=some ((MW v).map (Option.map SZ)):=by kernel_rfl
theorem bBP(σ:St)(v:V201_0)(h:aAQ σ=some (v,true)):σ=SZ v:=by
 unfold aAQ at h;split at h
 ·obtain⟨hr,hk⟩:=qp (qi h);obtain⟨d0,hk0⟩:=bI hk;obtain rfl:=of_decide_eq_true d0;rw[←hr];rfl
 ·simp at h
theorem bBQ:cY (uB true false 0 [0,4,7,8,9] aAR aAQ SZ MW 2097152) (fT R 0 2097152 (.loop [0,4,7,8,9] aIV)):=eE (cZ aAP (cI (l:=[]) (by kernel_rfl) trivial)) bBP bBO
def bBR:Lp:=(10,uB true false 0 [0,4,7,8,9] aAR aAQ SZ MW 2097152)::[]
def aJV(v:V201_0):V201_0:=(hid (dW MW 2097152 v)).getD v
def aJW(v:V201_0):Bool:=(hid (dW MW 2097152 v)).isSome
section
variable(a:List Row)
def MX:V201_0:=(aJV (V201_0.mk a [] a (bX a) 0))
def aJX:Bool:=((e1 (ln (MX a).s4))&&true)
end
def a1A(a:List Row):Pt (List Row×Bool):=(.ok true (.ok true (.ok true (.ok true (.ok true (.ok (aJW (V201_0.mk a [] a (bX a) 0)) (.br (ltI (MX a).s9 (MX a).s8) (.ok true (.leaf ([],false))) (.ok true (.br (pG (bX (MX a).s0) 40) (.ok true (.ok true (.leaf ([],false)))) (.ok true (.ok ((aJX a)&&(aJX a)) (.leaf ((MX a).s4,true)))))))))))))
def aJY(a:List Row):List Row×Bool:=hid (a1A a).val
def bJY(a:List Row):Bool:=hid (a1A a).okv
def b1I(a:List Row)(r:List Row×Bool):SV×List Blk:=((.tup [(.one (.sl 0 0 (ln r.1))),(.one (.lit (.bool r.2)))]),[.lst 1 r.1])
def q201:=DS8 (fun a=>b1I a (aJY a)) bJY
theorem b1J:fN (fun live x=>cY (nL bBR (lV x)) (fT R 0 2097152 (.loop live x))) F201.body:=(cI (l:=[([0,4,7,8,9],aIV)]) (by kernel_rfl) ⟨fH (n:=10) (by kernel_rfl) fun σ σr t h ho hl=>bBQ σ σr t h ho hl,trivial⟩)
theorem b85:cP 201 q201:=b1H fun a hk=>tcl bX1 aAP b1J [(11,K5),(12,K5),(13,K5),(17,K5)] [] true (a1A a) (b1I a) hk
def Q201:=bD 201 q201 Q196
theorem aAS:QO Q201:=aH b85 aAP
structure V149_0 where
 mk::
 (b0:aN)
 (s4:Int)
 (s5:List Row)
 (s16:Int)
 (s17:Int)
section
variable(v:V149_0)
def HX:List Row:=(List.set v.s5 (0+(iN v.s17)) (aY (cV 256 (oZ 8 v.b0).1).2))
def HY:Bool:=((dZ (ln v.s5) (ln (HX v)))&&true)
end
def MY(v:V149_0):Pt (Option V149_0):=(.ok true (.br (ltI v.s17 v.s16) (.ok true (.ok ((k86 8 v.b0)&&true) (.br (oZ 8 v.b0).2 (.ok ((yG 256 (oZ 8 v.b0).1)&&(((leI 0 v.s17)&&(ltI v.s17 (bX v.s5)))&&(((blt (0+(iN v.s17)) (ln v.s5))&&(j7 (j8 v.s5 (0+(iN v.s17))) 1))&&true))) (.ok true (.ok (((HY v)&&((e1 (ln v.s5))&&true))&&((HY v)&&true)) (.leaf (some (V149_0.mk (cV 256 (oZ 8 v.b0).1).1 v.s4 (HX v) v.s16 (bE v.s17 1))))))) (.ok true (.ok ((((e1 (ln v.s5))&&true)&&((e1 (ln v.s5))&&true))&&(((e1 (ln v.s5))&&true)&&true)) (.leaf (some {v with b0:=(oZ 8 v.b0).1,s17:=(bE v.s17 1)}))))))) (.leaf none)))
def S5(v:V149_0):St:=⟨[(0,(.one (.ptr 0 0 0))),(4,(.one (li v.s4))),(5,(.one (.sl 1 0 (ln v.s5)))),(16,(.one (li v.s16))),(17,(.one (li v.s17)))],[.box [.imm true 1 v.b0.fcode,li v.b0.fat, .lit (.int .u64 v.b0.fseed)], .lst 1 v.s5]⟩
def aAT:St→Option (V149_0×Bool)
 |⟨[(0,(.one (.ptr 0 0 0))),(4,(.one (li c3))),(5,(.one (.sl 1 0 l1))),(16,(.one (li c4))),(17,(.one (li c5)))],[.box [.imm true 1 c0,li c1, .lit (.int .u64 c2)], .lst 1 c_1]⟩=>some ((V149_0.mk (aN.mk c0 c1 c2) c3 c_1 c4 c5),dZ l1 (ln c_1)&&(true))
 |_=>none
def aAU:St→Option (Pt Out):=xN Q86 [(26,K0),(39,K0),(40,K0),(56,K0),(65,K0),(1000003,[])] [] true [] 1 2097152 aIP
theorem bBS(v:V149_0):((aAU (S5 v)).bind (rW true true 1 [0,4,5,16,17]))=some ((MY v).map (Option.map S5)):=by kernel_rfl
theorem bBT(σ:St)(v:V149_0)(h:aAT σ=some (v,true)):σ=S5 v:=by
 unfold aAT at h;split at h
 ·obtain⟨hr,hk⟩:=qp (qi h);obtain⟨d0,hk0⟩:=bI hk;obtain rfl:=of_decide_eq_true d0;rw[←hr];rfl
 ·simp at h
theorem bBU:cY (uB true true 1 [0,4,5,16,17] aAU aAT S5 MY 2097152) (fT R 1 2097152 (.loop [0,4,5,16,17] aIP)):=eE (cZ aI5 (cI (l:=[]) (by kernel_rfl) trivial)) bBT bBS
def aPF:Lp:=(18,uB true true 1 [0,4,5,16,17] aAU aAT S5 MY 2097152)::[]
def S6(v:V149_0):V149_0:=(hid (dW MY 2097152 v)).getD v
def aJZ(v:V149_0):Bool:=(hid (dW MY 2097152 v)).isSome
structure V149_1 where
 mk::
 (b0:aN)
 (s4:Int)
 (s5:List Row)
 (s34:List Row)
 (s35:Int)
 (s36:Int)
section
variable(v:V149_1)
def HZ:Bool:=(ltI (bE (bE v.s4 (dE 2 v.s36)) 1) (bX v.s5))
def BM:Nat:=(0+(iN (bE v.s4 (dE 2 v.s36))))
def BN:Nat:=(0+(iN (bE (bE v.s4 (dE 2 v.s36)) 1)))
def BO:List Row:=(List.set v.s5 (BM v) (aY (fF (bR v.s34 (0+(iN v.s36)) 0) 8)))
def H0:List Row:=(List.set (BO v) (BN v) (aY (bF (bR v.s34 (0+(iN v.s36)) 0) 255)))
def H1:Bool:=((dZ (ln v.s5) (ln (H0 v)))&&((e1 (ln v.s34))&&true))
def wI:Bool:=((e1 (ln v.s5))&&((e1 (ln v.s34))&&true))
end
def MZ(v:V149_1):Pt (Option V149_1):=(.ok true (.br (ltI v.s36 v.s35) (.ok (((leI 0 v.s36)&&(ltI v.s36 (bX v.s34)))&&((dV [.int .i64] v.s34 (0+(iN v.s36)) 0)&&true)) (.ok ((nX (0+(ln v.s5)) (ln v.s5))&&true) (.br (HZ v) (.ok (((leI 0 (bE v.s4 (dE 2 v.s36)))&&(ltI (bE v.s4 (dE 2 v.s36)) (bX v.s5)))&&(((blt (BM v) (ln v.s5))&&(j7 (j8 v.s5 (BM v)) 1))&&true)) (.ok (((leI 0 (bE (bE v.s4 (dE 2 v.s36)) 1))&&(HZ v))&&(((blt (BN v) (ln (BO v)))&&(j7 (j8 (BO v) (BN v)) 1))&&true)) (.ok true (.ok (((H1 v)&&(wI v))&&((H1 v)&&true)) (.leaf (some {v with s5:=(H0 v),s36:=(bE v.s36 1)})))))) (.ok true (.ok (((wI v)&&(wI v))&&((wI v)&&true)) (.leaf (some {v with s36:=(bE v.s36 1)}))))))) (.leaf none)))
def S7(v:V149_1):St:=⟨[(4,(.one (li v.s4))),(5,(.one (.sl 1 0 (ln v.s5)))),(34,(.one (.sl 2 0 (ln v.s34)))),(35,(.one (li v.s35))),(36,(.one (li v.s36)))],[.box [.imm true 1 v.b0.fcode,li v.b0.fat, .lit (.int .u64 v.b0.fseed)], .lst 1 v.s5, .lst 1 v.s34]⟩
def aAV:St→Option (V149_1×Bool)
 |⟨[(4,(.one (li c3))),(5,(.one (.sl 1 0 l1))),(34,(.one (.sl 2 0 l2))),(35,(.one (li c4))),(36,(.one (li c5)))],[.box [.imm true 1 c0,li c1, .lit (.int .u64 c2)], .lst 1 c_1, .lst 1 c_2]⟩=>some ((V149_1.mk (aN.mk c0 c1 c2) c3 c_1 c_2 c4 c5),dZ l1 (ln c_1)&&(dZ l2 (ln c_2)&&(true)))
 |_=>none
def aAW:St→Option (Pt Out):=xN Q201 [(26,K0),(39,K0),(40,K0),(56,K0),(65,K0),(1000003,[])] [] true aPF 1 2097152 aIQ
theorem bBV(v:V149_1):((aAW (S7 v)).bind (rW true true 1 [4,5,34,35,36]))=some ((MZ v).map (Option.map S7)):=by kernel_rfl
theorem bBW(σ:St)(v:V149_1)(h:aAV σ=some (v,true)):σ=S7 v:=by
 unfold aAV at h;split at h
 ·obtain⟨hr,hk⟩:=qp (qi h);obtain⟨d0,hk0⟩:=bI hk;obtain⟨d1,hk1⟩:=bI hk0;obtain rfl:=of_decide_eq_true d0;obtain rfl:=of_decide_eq_true d1;rw[←hr];rfl
 ·simp at h
theorem bBX:cY (uB true true 1 [4,5,34,35,36] aAW aAV S7 MZ 2097152) (fT R 1 2097152 (.loop [4,5,34,35,36] aIQ)):=eE (cZ aAS (cI (l:=[]) (by kernel_rfl) trivial)) bBW bBV
def bBY:Lp:=(37,uB true true 1 [4,5,34,35,36] aAW aAV S7 MZ 2097152)::aPF
def S8(v:V149_1):V149_1:=(hid (dW MZ 2097152 v)).getD v
def aJ0(v:V149_1):Bool:=(hid (dW MZ 2097152 v)).isSome
section
variable(a:aN)
def o6:V149_0:=(S6 (V149_0.mk (cV 30 a).1 (dE 2 (cV 30 a).2) (List.replicate 384 (aY 0)) 384 0))
def aAX:Nat:=(ln (aJY (PS (o6 a).b0).2).1)
def S9:Bool:=((e1 (ln (o6 a).s5))&&((e1 (aAX a))&&true))
def TA:V149_1:=(S8 (V149_1.mk (PS (o6 a).b0).1 (o6 a).s4 (o6 a).s5 (aJY (PS (o6 a).b0).2).1 (bX (aJY (PS (o6 a).b0).2).1) 0))
def aJ1:Bool:=((e1 (ln (TA a).s5))&&true)
end
def a1B(a:aN):Pt (aN×List Row×Int):=(.ok true (.ok ((yG 30 a)&&true) (.ok true (.ok true (.ok true (.ok true (.ok (aJZ (V149_0.mk (cV 30 a).1 (dE 2 (cV 30 a).2) (List.replicate 384 (aY 0)) 384 0)) (.ok ((bJV (o6 a).b0)&&((((e1 (ln (PS (o6 a).b0).2))&&true)&&(bJY (PS (o6 a).b0).2))&&true)) (.ok ((nX (0+(aAX a)) (aAX a))&&true) (.ok (((S9 a)&&(S9 a))&&((S9 a)&&true)) (.ok (S9 a) (.ok (aJ0 (V149_1.mk (PS (o6 a).b0).1 (o6 a).s4 (o6 a).s5 (aJY (PS (o6 a).b0).2).1 (bX (aJY (PS (o6 a).b0).2).1) 0)) (.ok true (.ok ((aJ1 a)&&(aJ1 a)) (.leaf ((TA a).b0,(TA a).s5,(TA a).s4))))))))))))))))
def xO(a:aN):aN×List Row×Int:=hid (a1B a).val
def bJZ(a:aN):Bool:=hid (a1B a).okv
def b1K(a:aN)(r:aN×List Row×Int):SV×List Blk:=((.tup [(.one (.sl 1 0 (ln r.2.1))),(.one (li r.2.2))]),[.box [.imm true 1 r.1.fcode,li r.1.fat, .lit (.int .u64 r.1.fseed)], .lst 1 r.2.1])
def q149:=DS0 (fun a=>b1K a (xO a)) bJZ
theorem b1L:fN (fun live x=>cY (nL bBY (lV x)) (fT R 1 2097152 (.loop live x))) F149.body:=(cI (l:=[([0,4,5,16,17],aIP),([4,5,34,35,36],aIQ)]) (by kernel_rfl) ⟨fH (n:=18) (by kernel_rfl) fun σ σr t h ho hl=>bBU σ σr t h ho hl,fH (n:=37) (by kernel_rfl) fun σ σr t h ho hl=>bBX σ σr t h ho hl,trivial⟩)
theorem b86:cP 149 q149:=O5 fun a hk=>tcl bWS aAS b1L [(26,K0),(39,K0),(40,K0),(56,K0),(65,K0),(1000003,[])] [] true (a1B a) (b1K a) hk
def Q149:=bD 149 q149 Q201
theorem aPG:QO Q149:=aH b86 aAS
def AS9:List SV:=[]
def HS9:List Blk:=[]
def DS9(N:SV×List Blk)(K:Bool):List SV→List Blk→Option ((SV×List Blk)×Bool)
 |[],[]=>some (N,K)
 |_,_=>none
theorem b1M{N:SV×List Blk}{K:Bool}{f:Nat}(h:K=true→dQ R f AS9 HS9=some N):cP f (DS9 N K):=fun args hp r e=>by
 unfold DS9 at e;split at e
 ·obtain⟨hr,hk⟩:=qp (qi e);rw[←hr];exact h hk
 ·simp at e
def T94:Pt (aJ):=(.ok true (.ok true (.ok true (.leaf (aJ.mk [(aY 0),(aY 0),(aY 0),(aY 0)] [(aY 0),(aY 0),(aY 0),(aY 0)] 0 0 0 7 true false)))))
def g94:aJ:=hid (T94).val
def k94:Bool:=hid (T94).okv
def n94(r:aJ):SV×List Blk:=((.agg [.sl 0 0 (ln r.D), .sl 1 0 (ln r.A),li r.Other,li r.PC,li r.Flags,li r.Mask, .lit (.bool r.Super), .lit (.bool r.Trace)]),[.lst 1 r.D, .lst 1 r.A])
def q94:=DS9 (n94 (g94)) k94
theorem t94:cP 94 q94:=b1M fun hk=>tc b8B aPG [] [] true T94 n94 hk
def Q94:=bD 94 q94 Q149
theorem aJ2:QO Q94:=aH t94 aPG
def K6:List Kd:=[.imm 1, .imm 1, .int .i64, .int .i64, .int .i64, .int .i64, .bool, .bool]
structure V150_0 where
 mk::
 (b0:aN)
 (b1:aJ)
 (b2:aJ)
 (s4:Int)
section
variable(v:V150_0)
def BP:Bool:=(((k90 [(aY 0),(aY 1),(aY 2),(aY 5),(aY 128),(aY 255),(aY 32768),(aY 65535)] v.b0)&&(((leI 0 v.s4)&&(ltI v.s4 (bX v.b2.D)))&&(((blt (0+(iN v.s4)) (ln v.b2.D))&&(j7 (j8 v.b2.D (0+(iN v.s4))) 1))&&true)))&&true)
def pU:aN×Int:=(PP [(aY 0),(aY 1),(aY 2),(aY 5),(aY 128),(aY 255),(aY 32768),(aY 65535)] v.b0)
def wJ:List Row:=(List.set v.b2.D (0+(iN v.s4)) (aY (pU v).2))
def H2:Bool:=(r1 [(aY 0),(aY 1),(aY 2),(aY 5),(aY 128),(aY 255),(aY 32768),(aY 65535)])
def H3:Bool:=(((s1 v.s4)&&true)&&((((s1 true)&&(r1 (pU v).1.fcode))&&((s1 (pU v).1.fat)&&((s1 (pU v).1.fseed)&&true)))&&((fW v.b1 true)&&((fW v.b2 true)&&(eZ v.b1 ((r1 (wJ v))&&((r1 v.b2.A)&&(H2&&true))))))))
def BQ:Bool:=(((k90 [(aY 0),(aY 2),(aY 20),(aY 40),(aY 100),(aY 300),(aY 301),(aY 384),(aY 448),(aY 500),(aY 65534)] (pU v).1)&&(((leI 0 v.s4)&&(ltI v.s4 (bX v.b2.A)))&&(((blt (0+(iN v.s4)) (ln v.b2.A))&&(j7 (j8 v.b2.A (0+(iN v.s4))) 1))&&true)))&&true)
def sI:aN×Int:=(PP [(aY 0),(aY 2),(aY 20),(aY 40),(aY 100),(aY 300),(aY 301),(aY 384),(aY 448),(aY 500),(aY 65534)] (pU v).1)
def BS:List Row:=(List.set v.b2.A (0+(iN v.s4)) (aY (sI v).2))
def H4:Bool:=(((s1 v.s4)&&true)&&((((s1 true)&&(r1 (sI v).1.fcode))&&((s1 (sI v).1.fat)&&((s1 (sI v).1.fseed)&&true)))&&((fW v.b1 true)&&((fW v.b2 true)&&(eZ v.b1 ((r1 (wJ v))&&((r1 (BS v))&&(H2&&((r1 [(aY 0),(aY 2),(aY 20),(aY 40),(aY 100),(aY 300),(aY 301),(aY 384),(aY 448),(aY 500),(aY 65534)])&&true)))))))))
def H5:Bool:=((dZ (ln v.b2.D) (ln (wJ v)))&&((dZ (ln v.b2.A) (ln (BS v)))&&true))
end
def M1(v:V150_0):Pt (Option V150_0):=(.ok true (.br (ltI v.s4 4) (.ok ((BP v)&&(((BP v)&&((BP v)&&(H3 v)))&&(H3 v))) (.ok ((BQ v)&&(((BQ v)&&((BQ v)&&(H4 v)))&&(H4 v))) (.ok true (.ok ((((aO v.b1 true)&&((aO v.b2 true)&&(aO v.b1 (H5 v))))&&true)&&((aO v.b1 true)&&((H5 v)&&true))) (.leaf (some (V150_0.mk (sI v).1 v.b1 {v.b2 with D:=(wJ v),A:=(BS v)} (bE v.s4 1)))))))) (.leaf none)))
def TB(v:V150_0):St:=⟨[(0,(.one (.ptr 0 0 0))),(2,(.one (.ptr 1 0 0))),(3,(.one (.ptr 2 0 0))),(4,(.one (li v.s4)))],[.box [.imm true 1 v.b0.fcode,li v.b0.fat, .lit (.int .u64 v.b0.fseed)], .box [.sl 3 0 (ln v.b1.D), .sl 4 0 (ln v.b1.A),li v.b1.Other,li v.b1.PC,li v.b1.Flags,li v.b1.Mask, .lit (.bool v.b1.Super), .lit (.bool v.b1.Trace)], .box [.sl 5 0 (ln v.b2.D), .sl 6 0 (ln v.b2.A),li v.b2.Other,li v.b2.PC,li v.b2.Flags,li v.b2.Mask, .lit (.bool v.b2.Super), .lit (.bool v.b2.Trace)], .lst 1 v.b1.D, .lst 1 v.b1.A, .lst 1 v.b2.D, .lst 1 v.b2.A]⟩
def aAY:St→Option (V150_0×Bool)
 |⟨[(0,(.one (.ptr 0 0 0))),(2,(.one (.ptr 1 0 0))),(3,(.one (.ptr 2 0 0))),(4,(.one (li c15)))],[.box [.imm true 1 c0,li c1, .lit (.int .u64 c2)], .box [.sl 3 0 l3, .sl 4 0 l4,li c3,li c4,li c5,li c6, .lit (.bool c7), .lit (.bool c8)], .box [.sl 5 0 l5, .sl 6 0 l6,li c9,li c10,li c11,li c12, .lit (.bool c13), .lit (.bool c14)], .lst 1 c_3, .lst 1 c_4, .lst 1 c_5, .lst 1 c_6]⟩=>some ((V150_0.mk (aN.mk c0 c1 c2) (aJ.mk c_3 c_4 c3 c4 c5 c6 c7 c8) (aJ.mk c_5 c_6 c9 c10 c11 c12 c13 c14) c15),dZ l3 (ln c_3)&&(dZ l4 (ln c_4)&&(dZ l5 (ln c_5)&&(dZ l6 (ln c_6)&&(true)))))
 |_=>none
def aAZ:St→Option (Pt Out):=xN Q94 [(11,K1),(16,K0),(18,K1),(23,K0),(25,K1),(29,K0),(56,K1),(57,K0),(61,K6),(1000001,[]),(1000003,[])] [] true [] 1 2097152 aIR
theorem bBZ(v:V150_0):((aAZ (TB v)).bind (rW true true 1 [0,2,3,4]))=some ((M1 v).map (Option.map TB)):=by kernel_rfl
theorem bB0(σ:St)(v:V150_0)(h:aAY σ=some (v,true)):σ=TB v:=by
 unfold aAY at h;split at h
 ·obtain⟨hr,hk⟩:=qp (qi h);obtain⟨d0,hk0⟩:=bI hk;obtain⟨d1,hk1⟩:=bI hk0;obtain⟨d2,hk2⟩:=bI hk1;obtain⟨d3,hk3⟩:=bI hk2;obtain rfl:=of_decide_eq_true d0;obtain rfl:=of_decide_eq_true d1;obtain rfl:=of_decide_eq_true d2;obtain rfl:=of_decide_eq_true d3;rw[←hr];rfl
 ·simp at h
theorem bB1:cY (uB true true 1 [0,2,3,4] aAZ aAY TB M1 2097152) (fT R 1 2097152 (.loop [0,2,3,4] aIR)):=eE (cZ aJ2 (cI (l:=[]) (by kernel_rfl) trivial)) bB0 bBZ
def bB2:Lp:=(6,uB true true 1 [0,2,3,4] aAZ aAY TB M1 2097152)::[]
def aA0(v:V150_0):V150_0:=(hid (dW M1 2097152 v)).getD v
def aJ3(v:V150_0):Bool:=(hid (dW M1 2097152 v)).isSome
section
variable(a:aN)
def jK:V150_0:=(aA0 (V150_0.mk a (aJ.mk [] [] 0 0 0 0 false false) (g94) 0))
def aA1:Bool:=(((k90 [(aY 200),(aY 202),(aY 380),(aY 65534),(aY 0),(aY 301)] (jK a).b0)&&((ltI 3 (bX (jK a).b2.A))&&(((blt 3 (ln (jK a).b2.A))&&(j7 (j8 (jK a).b2.A 3) 1))&&true)))&&true)
def H6:aN×Int:=(PP [(aY 200),(aY 202),(aY 380),(aY 65534),(aY 0),(aY 301)] (jK a).b0)
def M2:List Row:=(List.set (jK a).b2.A 3 (aY (H6 a).2))
def aJ4:Bool:=((((s1 true)&&(r1 (H6 a).1.fcode))&&((s1 (H6 a).1.fat)&&((s1 (H6 a).1.fseed)&&true)))&&((fW (jK a).b1 true)&&((fW (jK a).b2 true)&&(eZ (jK a).b1 ((r1 (jK a).b2.D)&&((r1 (M2 a))&&((r1 [(aY 200),(aY 202),(aY 380),(aY 65534),(aY 0),(aY 301)])&&true)))))))
def M3:aN×Int:=(PP [(aY 300),(aY 0),(aY 447)] (H6 a).1)
def yX:aN×Int:=(PP [(aY 0),(aY 2),(aY 10),(aY 40),(aY 384),(aY 3),(aY 448)] (M3 a).1)
def BT:aN×Int:=(cV 8 (cV 32 (yX a).1).1)
def yY:aN×Bool:=(oZ 8 (oZ 3 (BT a).1).1)
def aJ5:List Row:=(List.set (jK a).b2.D 0 (aY 65536))
def aA2:Bool:=((dZ (ln (jK a).b2.A) (ln (M2 a)))&&true)
def aA3:Bool:=((dZ (ln (jK a).b2.D) (ln (aJ5 a)))&&(aA2 a))
def aA4:Bool:=((e1 (ln (jK a).b2.D))&&(aA2 a))
def aA5:Bool:=(((aA4 a)&&((aO (jK a).b2 true)&&true))&&((aA4 a)&&true))
end
def a1C(a:aN):Pt (aN×aJ):=(.ok true (.ok ((k94)&&true) (.ok true (.ok (dd (aO (g94) true) ((aO (g94) true)&&true)) (.ok (aO (g94) true) (.ok (aJ3 (V150_0.mk a (aJ.mk [] [] 0 0 0 0 false false) (g94) 0)) (.ok ((aA1 a)&&(((aA1 a)&&((aA1 a)&&(aJ4 a)))&&(aJ4 a))) (.ok ((k90 [(aY 300),(aY 0),(aY 447)] (H6 a).1)&&true) (.ok ((k90 [(aY 0),(aY 2),(aY 10),(aY 40),(aY 384),(aY 3),(aY 448)] (M3 a).1)&&true) (.ok ((yG 32 (yX a).1)&&true) (.ok ((yG 8 (cV 32 (yX a).1).1)&&true) (.ok ((k86 3 (BT a).1)&&true) (.ok ((k86 8 (oZ 3 (BT a).1).1)&&true) (.ok ((yG 60 (yY a).1)&&true) (.ok true (.br (eqI (cV 60 (yY a).1).2 0) (.ok ((ltI 0 (bX (jK a).b2.D))&&(((blt 0 (ln (jK a).b2.D))&&(j7 (j8 (jK a).b2.D 0) 1))&&true)) (.ok true (.ok (((aA3 a)&&((aO (jK a).b2 true)&&true))&&((aA3 a)&&true)) (.leaf ((cV 60 (yY a).1).1,(aJ.mk (aJ5 a) (M2 a) (M3 a).2 (yX a).2 (cV 32 (yX a).1).2 (BT a).2 (!(oZ 3 (BT a).1).2) (yY a).2)))))) (.ok true (.br (eqI (cV 60 (yY a).1).2 1) (.ok true (.ok true (.ok (aA5 a) (.leaf ((cV 60 (yY a).1).1,(aJ.mk (jK a).b2.D (M2 a) (M3 a).2 (yX a).2 (cV 32 (yX a).1).2 8 (!(oZ 3 (BT a).1).2) (yY a).2)))))) (.ok true (.ok (aA5 a) (.leaf ((cV 60 (yY a).1).1,(aJ.mk (jK a).b2.D (M2 a) (M3 a).2 (yX a).2 (cV 32 (yX a).1).2 (BT a).2 (!(oZ 3 (BT a).1).2) (yY a).2)))))))))))))))))))))))
def PT(a:aN):aN×aJ:=hid (a1C a).val
def bJ0(a:aN):Bool:=hid (a1C a).okv
def b1O(a:aN)(r:aN×aJ):SV×List Blk:=((.agg [.sl 1 0 (ln r.2.D), .sl 2 0 (ln r.2.A),li r.2.Other,li r.2.PC,li r.2.Flags,li r.2.Mask, .lit (.bool r.2.Super), .lit (.bool r.2.Trace)]),[.box [.imm true 1 r.1.fcode,li r.1.fat, .lit (.int .u64 r.1.fseed)], .lst 1 r.2.D, .lst 1 r.2.A])
def q150:=DS0 (fun a=>b1O a (PT a)) bJ0
theorem b1P:fN (fun live x=>cY (nL bB2 (lV x)) (fT R 1 2097152 (.loop live x))) F150.body:=(cI (l:=[([0,2,3,4],aIR)]) (by kernel_rfl) ⟨fH (n:=6) (by kernel_rfl) fun σ σr t h ho hl=>bB1 σ σr t h ho hl,trivial⟩)
theorem b88:cP 150 q150:=O5 fun a hk=>tcl bWT aJ2 b1P [(11,K1),(16,K0),(18,K1),(23,K0),(25,K1),(29,K0),(56,K1),(57,K0),(61,K6),(1000001,[]),(1000003,[])] [] true (a1C a) (b1O a) hk
def Q150:=bD 150 q150 Q94
theorem aA6:QO Q150:=aH b88 aJ2
def b89(a:List Row):List SV:=[(.one (.imm false 1 a))]
def b9A(a:List Row):List Blk:=[]
def bJ1(N:List Row→SV×List Blk)(K:List Row→Bool):List SV→List Blk→Option ((SV×List Blk)×Bool)
 |[(.one (.imm false 1 c0))],[]=>some (N c0,K c0)
 |_,_=>none
theorem bJ2{N:List Row→SV×List Blk}{K:List Row→Bool}{f:Nat}(h: ∀(a:List Row),K a=true→dQ R f (b89 a) (b9A a)=some (N a)):cP f (bJ1 N K):=fun _ _ _ e=>by
 unfold bJ1 at e;split at e
 ·exact yF e (h _)
 ·cases e
structure V164_0 where
 mk::
 (s5:List Row)
 (s6:Int)
 (s7:Int)
def M4(v:V164_0):Pt (Option V164_0):=(.ok true (.br (ltI v.s7 v.s6) (.ok ((iG [.int .i64] v.s5 v.s7)&&true) (.ok ((yV (bR v.s5 (iN v.s7) 0) 0 255)&&true) (.br (!(wG (bR v.s5 (iN v.s7) 0) 0 255)) (.ok true (.leaf none)) (.ok true (.ok true (.leaf (some {v with s7:=(bE v.s7 1)}))))))) (.leaf none)))
def TD(v:V164_0):St:=⟨[(5,(.one (.imm false 1 v.s5))),(6,(.one (li v.s6))),(7,(.one (li v.s7)))],[]⟩
def aA7:St→Option (V164_0×Bool)
 |⟨[(5,(.one (.imm false 1 c0))),(6,(.one (li c1))),(7,(.one (li c2)))],[]⟩=>some ((V164_0.mk c0 c1 c2),true)
 |_=>none
def aA8:St→Option (Pt Out):=xN Q150 [(9,K0),(10,K0)] [] true [] 0 2097152 MN
theorem bB3(v:V164_0):((aA8 (TD v)).bind (rW true false 0 [5,6,7]))=some ((M4 v).map (Option.map TD)):=by kernel_rfl
theorem bB4(σ:St)(v:V164_0)(h:aA7 σ=some (v,true)):σ=TD v:=by
 unfold aA7 at h;split at h
 ·obtain⟨hr,hk⟩:=qp (qi h);rw[←hr];rfl
 ·simp at h
theorem bB5:cY (uB true false 0 [5,6,7] aA8 aA7 TD M4 2097152) (fT R 0 2097152 (.loop [5,6,7] MN)):=eE (cZ aA6 (cI (l:=[]) (by kernel_rfl) trivial)) bB4 bB3
def bB6:Lp:=(8,uB true false 0 [5,6,7] aA8 aA7 TD M4 2097152)::[]
def aA9(v:V164_0):V164_0:=(hid (dW M4 2097152 v)).getD v
def aJ6(v:V164_0):Bool:=(hid (dW M4 2097152 v)).isSome
section
variable(a:List Row)
def aJ7:V164_0:=(aA9 (V164_0.mk a (bX a) 0))
end
def bB7(a:List Row):Pt (Bool):=(.ok true (.ok true (.ok true (.ok true (.ok (aJ6 (V164_0.mk a (bX a) 0)) (.br (ltI (aJ7 a).s7 (aJ7 a).s6) (.ok true (.ok true (.leaf false))) (.ok true (.ok true (.ok true (.leaf true))))))))))
def aV9(a:List Row):Bool:=hid (bB7 a).val
def a1D(a:List Row):Bool:=hid (bB7 a).okv
def J8(a:List Row)(r:Bool):SV×List Blk:=((.one (.lit (.bool r))),[])
def q164:=bJ1 (fun a=>J8 a (aV9 a)) a1D
theorem b1Q:fN (fun live x=>cY (nL bB6 (lV x)) (fT R 0 2097152 (.loop live x))) F164.body:=(cI (l:=[([5,6,7],MN)]) (by kernel_rfl) ⟨fH (n:=8) (by kernel_rfl) fun σ σr t h ho hl=>bB5 σ σr t h ho hl,trivial⟩)
theorem b9B:cP 100164 q164:=bJ2 fun a hk=>tzl bHQ aA6 b1Q [(9,K0),(10,K0)] [] true (bB7 a) (J8 a) hk
def Q164:=bD 100164 q164 Q150
theorem QC:QO Q164:=aH b9B aA6
def K7:List Kd:=[.imm 1, .imm 5]
def b9C(a:List Row)(b:List Row):List SV:=[(.one (.imm false 1 a)),(.one (.imm false 1 b))]
def b9D(a:List Row)(b:List Row):List Blk:=[]
def bJ3(N:List Row→List Row→SV×List Blk)(K:List Row→List Row→Bool):List SV→List Blk→Option ((SV×List Blk)×Bool)
 |[(.one (.imm false 1 c0)),(.one (.imm false 1 c1))],[]=>some (N c0 c1,K c0 c1)
 |_,_=>none
theorem bJ4{N:List Row→List Row→SV×List Blk}{K:List Row→List Row→Bool}{f:Nat}(h: ∀(a:List Row)(b:List Row),K a b=true→dQ R f (b9C a b) (b9D a b)=some (N a b)):cP f (bJ3 N K):=fun _ _ _ e=>by
 unfold bJ3 at e;split at e
 ·exact yF e (h _ _)
 ·cases e
structure V93_0 where
 mk::
 (b0:bM)
 (b1:bM)
 (s1:List Row)
 (s32:List Row)
 (s33:Int)
 (s34:Int)
section
variable(v:V93_0)
def M5:List Row:=(List.set v.b1.Bytes (0+(iN v.s34)) (aY (bR v.s32 (iN v.s34) 0)))
def M6:Bool:=((dZ (ln v.b1.Bytes) (ln (M5 v)))&&((e1 (ln v.b1.Log))&&true))
end
def O7(v:V93_0):Pt (Option V93_0):=(.ok true (.br (ltI v.s34 v.s33) (.ok ((iG [.int .i64] v.s32 v.s34)&&true) (.ok (((leI 0 v.s34)&&(ltI v.s34 (bX v.b1.Bytes)))&&(((blt (0+(iN v.s34)) (ln v.b1.Bytes))&&(j7 (j8 v.b1.Bytes (0+(iN v.s34))) 1))&&true)) (.ok true (.ok ((((bN v.b0 true)&&((bN v.b1 true)&&(bN v.b0 (M6 v))))&&true)&&((bN v.b0 true)&&((M6 v)&&true))) (.leaf (some {v with b1:={v.b1 with Bytes:=(M5 v)},s34:=(bE v.s34 1)})))))) (.leaf none)))
def aF7(v:V93_0):St:=⟨[(1,(.one (.imm false 1 v.s1))),(4,(.one (.ptr 0 0 0))),(6,(.one (.ptr 1 0 0))),(32,(.one (.imm false 1 v.s32))),(33,(.one (li v.s33))),(34,(.one (li v.s34)))],[.box [.sl 2 0 (ln v.b0.Bytes), .sl 3 0 (ln v.b0.Log)], .box [.sl 4 0 (ln v.b1.Bytes), .sl 5 0 (ln v.b1.Log)], .lst 1 v.b0.Bytes, .lst 5 v.b0.Log, .lst 1 v.b1.Bytes, .lst 5 v.b1.Log]⟩
def aPH:St→Option (V93_0×Bool)
 |⟨[(1,(.one (.imm false 1 c0))),(4,(.one (.ptr 0 0 0))),(6,(.one (.ptr 1 0 0))),(32,(.one (.imm false 1 c1))),(33,(.one (li c2))),(34,(.one (li c3)))],[.box [.sl 2 0 l2, .sl 3 0 l3], .box [.sl 4 0 l4, .sl 5 0 l5], .lst 1 c_2, .lst 5 c_3, .lst 1 c_4, .lst 5 c_5]⟩=>some ((V93_0.mk (bM.mk c_2 c_3) (bM.mk c_4 c_5) c0 c1 c2 c3),dZ l2 (ln c_2)&&(dZ l3 (ln c_3)&&(dZ l4 (ln c_4)&&(dZ l5 (ln c_5)&&(true)))))
 |_=>none
def aJ8:St→Option (Pt Out):=xN Q164 [(37,K0),(38,K0),(40,K1),(43,K0),(50,K0),(51,K0),(53,K1),(57,K0),(59,K7),(1000003,[])] [] true [] 0 2097152 a0I
theorem bJ5(v:V93_0):((aJ8 (aF7 v)).bind (rW true true 0 [1,4,6,32,33,34]))=some ((O7 v).map (Option.map aF7)):=by kernel_rfl
theorem bJ6(σ:St)(v:V93_0)(h:aPH σ=some (v,true)):σ=aF7 v:=by
 unfold aPH at h;split at h
 ·obtain⟨hr,hk⟩:=qp (qi h);obtain⟨d0,hk0⟩:=bI hk;obtain⟨d1,hk1⟩:=bI hk0;obtain⟨d2,hk2⟩:=bI hk1;obtain⟨d3,hk3⟩:=bI hk2;obtain rfl:=of_decide_eq_true d0;obtain rfl:=of_decide_eq_true d1;obtain rfl:=of_decide_eq_true d2;obtain rfl:=of_decide_eq_true d3;rw[←hr];rfl
 ·simp at h
theorem bJ7:cY (uB true true 0 [1,4,6,32,33,34] aJ8 aPH aF7 O7 2097152) (fT R 0 2097152 (.loop [1,4,6,32,33,34] a0I)):=eE (cZ QC (cI (l:=[]) (by kernel_rfl) trivial)) bJ6 bJ5
def a1E:Lp:=(35,uB true true 0 [1,4,6,32,33,34] aJ8 aPH aF7 O7 2097152)::[]
def bH0(v:V93_0):V93_0:=(hid (dW O7 2097152 v)).getD v
def bH1(v:V93_0):Bool:=(hid (dW O7 2097152 v)).isSome
structure V93_1 where
 mk::
 (b0:bM)
 (b1:bM)
 (s45:List Row)
 (s46:Int)
 (s47:Int)
section
variable(v:V93_1)
def M7:List Row:=(List.set v.b1.Bytes (0+(iN (bE 384 v.s47))) (aY (bR v.s45 (iN v.s47) 0)))
def M8:Bool:=((dZ (ln v.b1.Bytes) (ln (M7 v)))&&((e1 (ln v.b1.Log))&&true))
end
def O8(v:V93_1):Pt (Option V93_1):=(.ok true (.br (ltI v.s47 v.s46) (.ok ((iG [.int .i64] v.s45 v.s47)&&true) (.ok (((leI 0 (bE 384 v.s47))&&(ltI (bE 384 v.s47) (bX v.b1.Bytes)))&&(((blt (0+(iN (bE 384 v.s47))) (ln v.b1.Bytes))&&(j7 (j8 v.b1.Bytes (0+(iN (bE 384 v.s47)))) 1))&&true)) (.ok true (.ok ((((bN v.b0 true)&&((bN v.b1 true)&&(bN v.b0 (M8 v))))&&true)&&((bN v.b0 true)&&((M8 v)&&true))) (.leaf (some {v with b1:={v.b1 with Bytes:=(M7 v)},s47:=(bE v.s47 1)})))))) (.leaf none)))
def aF8(v:V93_1):St:=⟨[(4,(.one (.ptr 0 0 0))),(6,(.one (.ptr 1 0 0))),(45,(.one (.imm false 1 v.s45))),(46,(.one (li v.s46))),(47,(.one (li v.s47)))],[.box [.sl 2 0 (ln v.b0.Bytes), .sl 3 0 (ln v.b0.Log)], .box [.sl 4 0 (ln v.b1.Bytes), .sl 5 0 (ln v.b1.Log)], .lst 1 v.b0.Bytes, .lst 5 v.b0.Log, .lst 1 v.b1.Bytes, .lst 5 v.b1.Log]⟩
def aPI:St→Option (V93_1×Bool)
 |⟨[(4,(.one (.ptr 0 0 0))),(6,(.one (.ptr 1 0 0))),(45,(.one (.imm false 1 c0))),(46,(.one (li c1))),(47,(.one (li c2)))],[.box [.sl 2 0 l2, .sl 3 0 l3], .box [.sl 4 0 l4, .sl 5 0 l5], .lst 1 c_2, .lst 5 c_3, .lst 1 c_4, .lst 5 c_5]⟩=>some ((V93_1.mk (bM.mk c_2 c_3) (bM.mk c_4 c_5) c0 c1 c2),dZ l2 (ln c_2)&&(dZ l3 (ln c_3)&&(dZ l4 (ln c_4)&&(dZ l5 (ln c_5)&&(true)))))
 |_=>none
def aJ9:St→Option (Pt Out):=xN Q164 [(37,K0),(38,K0),(40,K1),(43,K0),(50,K0),(51,K0),(53,K1),(57,K0),(59,K7),(1000003,[])] [] true a1E 0 2097152 a0J
theorem bJ8(v:V93_1):((aJ9 (aF8 v)).bind (rW true true 0 [4,6,45,46,47]))=some ((O8 v).map (Option.map aF8)):=by kernel_rfl
theorem bJ9(σ:St)(v:V93_1)(h:aPI σ=some (v,true)):σ=aF8 v:=by
 unfold aPI at h;split at h
 ·obtain⟨hr,hk⟩:=qp (qi h);obtain⟨d0,hk0⟩:=bI hk;obtain⟨d1,hk1⟩:=bI hk0;obtain⟨d2,hk2⟩:=bI hk1;obtain⟨d3,hk3⟩:=bI hk2;obtain rfl:=of_decide_eq_true d0;obtain rfl:=of_decide_eq_true d1;obtain rfl:=of_decide_eq_true d2;obtain rfl:=of_decide_eq_true d3;rw[←hr];rfl
 ·simp at h
theorem bKA:cY (uB true true 0 [4,6,45,46,47] aJ9 aPI aF8 O8 2097152) (fT R 0 2097152 (.loop [4,6,45,46,47] a0J)):=eE (cZ QC (cI (l:=[]) (by kernel_rfl) trivial)) bJ9 bJ8
def bKB:Lp:=(48,uB true true 0 [4,6,45,46,47] aJ9 aPI aF8 O8 2097152)::a1E
def a1F(v:V93_1):V93_1:=(hid (dW O8 2097152 v)).getD v
def bH2(v:V93_1):Bool:=(hid (dW O8 2097152 v)).isSome
section
variable(a:List Row)(b:List Row)
def qZ:V93_0:=(bH0 (V93_0.mk (bM.mk [] []) (bM.mk (List.replicate 512 (aY 0)) []) b a (bX a) 0))
def a1G:Bool:=(bN (qZ a b).b0 (bN (qZ a b).b1 true))
def a1H:Bool:=(bN (a1F (V93_1.mk (qZ a b).b0 (qZ a b).b1 (qZ a b).s1 (bX (qZ a b).s1) 0)).b1 true)
end
def T93(a:List Row)(b:List Row):Pt (bM×Bool):=(.ok true (.ok ((a1D a)&&((((a1D b)&&true)||(!(aV9 a)))&&true)) (.br (bif (bif (bif (!(aV9 a))then true else(!(aV9 b)))then true else(pG (bX a) 384))then true else(pG (bX b) 64)) (.ok true (.ok true (.leaf ((bM.mk [] []),false)))) (.ok true (.ok true (.ok true (.ok true (.ok (bH1 (V93_0.mk (bM.mk [] []) (bM.mk (List.replicate 512 (aY 0)) []) b a (bX a) 0)) (.ok true (.ok ((((bN (qZ a b).b0 true)&&((bN (qZ a b).b1 true)&&(a1G a b)))&&true)&&((bN (qZ a b).b0 true)&&((bN (qZ a b).b1 true)&&true))) (.ok (a1G a b) (.ok (bH2 (V93_1.mk (qZ a b).b0 (qZ a b).b1 (qZ a b).s1 (bX (qZ a b).s1) 0)) (.ok true (.ok ((a1H a b)&&((a1H a b)&&true)) (.leaf ((a1F (V93_1.mk (qZ a b).b0 (qZ a b).b1 (qZ a b).s1 (bX (qZ a b).s1) 0)).b1,true))))))))))))))))
def g93(a:List Row)(b:List Row):bM×Bool:=hid (T93 a b).val
def k93(a:List Row)(b:List Row):Bool:=hid (T93 a b).okv
def n93(a:List Row)(b:List Row)(r:bM×Bool):SV×List Blk:=((.tup [(.agg [.sl 0 0 (ln r.1.Bytes), .sl 1 0 (ln r.1.Log)]),(.one (.lit (.bool r.2)))]),[.lst 1 r.1.Bytes, .lst 5 r.1.Log])
def q93:=bJ3 (fun a b=>n93 a b (g93 a b)) k93
theorem b9E:fN (fun live x=>cY (nL bKB (lV x)) (fT R 0 2097152 (.loop live x))) F93.body:=(cI (l:=[([1,4,6,32,33,34],a0I),([4,6,45,46,47],a0J)]) (by kernel_rfl) ⟨fH (n:=35) (by kernel_rfl) fun σ σr t h ho hl=>bJ7 σ σr t h ho hl,fH (n:=48) (by kernel_rfl) fun σ σr t h ho hl=>bKA σ σr t h ho hl,trivial⟩)
theorem t93:cP 93 q93:=bJ4 fun a b hk=>tcl b8A QC b9E [(37,K0),(38,K0),(40,K1),(43,K0),(50,K0),(51,K0),(53,K1),(57,K0),(59,K7),(1000003,[])] [] true (T93 a b) (n93 a b) hk
def Q93:=bD 93 q93 Q164
theorem a1I:QO Q93:=aH t93 QC
def b9F(a:List Row)(b:Int):List SV:=[(.one (.imm false 1 a)),(.one (li b))]
def b9G(a:List Row)(b:Int):List Blk:=[]
def bKC(N:List Row→Int→SV×List Blk)(K:List Row→Int→Bool):List SV→List Blk→Option ((SV×List Blk)×Bool)
 |[(.one (.imm false 1 c0)),(.one (li c1))],[]=>some (N c0 c1,K c0 c1)
 |_,_=>none
theorem bKD{N:List Row→Int→SV×List Blk}{K:List Row→Int→Bool}{f:Nat}(h: ∀(a:List Row)(b:Int),K a b=true→dQ R f (b9F a b) (b9G a b)=some (N a b)):cP f (bKC N K):=fun _ _ _ e=>by
 unfold bKC at e;split at e
 ·exact yF e (h _ _)
 ·cases e
section
variable(a:List Row)
def a1J:Bool:=((e1 (ln (g94).D))&&((dZ (ln (g94).A) (ln (List.set (g94).A 3 (aY 384))))&&(bN (g93 a []).1 true)))
end
def T20(a:List Row)(b:Int):Pt (aG×Bool):=(.ok true (.ok ((k93 a [])&&true) (.ok ((((k77 b)&&true)||(!(g93 a []).2))&&true) (.br (bif (!(g93 a []).2)then true else(!(g77 b))) (.ok true (.ok true (.leaf ((aG.mk (aJ.mk [] [] 0 0 0 0 false false) (bM.mk [] []) false false),false)))) (.ok ((k94)&&true) (.ok true (.ok ((ltI 3 (bX (g94).A))&&(((blt 3 (ln (g94).A))&&(j7 (j8 (g94).A 3) 1))&&true)) (.ok true (.ok (((a1J a)&&((aO (g94) (bN (g93 a []).1 true))&&true))&&(((a1J a)&&true)&&true)) (.leaf ((aG.mk {(g94)with A:=(List.set (g94).A 3 (aY 384)),PC:=b} (g93 a []).1 false false),true)))))))))))
def g20(a:List Row)(b:Int):aG×Bool:=hid (T20 a b).val
def k20(a:List Row)(b:Int):Bool:=hid (T20 a b).okv
def n20(a:List Row)(b:Int)(r:aG×Bool):SV×List Blk:=((.tup [(.agg [.sl 0 0 (ln r.1.R.D), .sl 1 0 (ln r.1.R.A),li r.1.R.Other,li r.1.R.PC,li r.1.R.Flags,li r.1.R.Mask, .lit (.bool r.1.R.Super), .lit (.bool r.1.R.Trace), .sl 2 0 (ln r.1.Bus.Bytes), .sl 3 0 (ln r.1.Bus.Log), .lit (.bool r.1.Stop), .lit (.bool r.1.Halt)]),(.one (.lit (.bool r.2)))]),[.lst 1 r.1.R.D, .lst 1 r.1.R.A, .lst 1 r.1.Bus.Bytes, .lst 5 r.1.Bus.Log])
def q20:=bKC (fun a b=>n20 a b (g20 a b)) k20
theorem t20:cP 20 q20:=bKD fun a b hk=>tc b7J a1I [(26,K1),(27,K0),(28,K6),(29,K7),(1000001,[])] [] true (T20 a b) (n20 a b) hk
def Q20:=bD 20 q20 Q93
theorem a1K:QO Q20:=aH t20 a1I
def K8:List Kd:=[.imm 1, .imm 1, .int .i64, .int .i64, .int .i64, .int .i64, .bool, .bool, .imm 1, .imm 5, .bool, .bool]
section
variable(a:aN)
def J9:aG×Bool:=(g20 (xO a).2.1 (xO a).2.2)
def vI:aN×Int:=(cV 60 (PT (xO a).1).1)
def GU:Bool:=(aO (PT (xO a).1).2 (bN (g20 [] 0).1.Bus true))
def aF9:aJ:={(PT (xO a).1).2 with PC:=(g20 [] 0).1.R.PC}
def GV:Bool:=(aO (PT (xO a).1).2 (bN (J9 a).1.Bus true))
def aGA:aJ:={(PT (xO a).1).2 with PC:=(J9 a).1.R.PC}
end
def T71(a:aN):Pt (aN×aG):=(.ok true (.ok ((bJZ a)&&true) (.ok ((bJ0 (xO a).1)&&true) (.ok ((((e1 (ln (xO a).2.1))&&true)&&(k20 (xO a).2.1 (xO a).2.2))&&true) (.ok true (.br (!(J9 a).2) (.ok ((k20 [] 0)&&true) (.ok true (.ok true (.ok true (.ok ((yG 60 (PT (xO a).1).1)&&true) (.ok true (.br (eqI (vI a).2 0) (.ok true (.ok true (.ok ((GU a)&&((GU a)&&true)) (.leaf ((vI a).1,{(g20 [] 0).1 with R:=(aF9 a),Stop:=true}))))) (.ok true (.br (eqI (vI a).2 1) (.ok true (.ok true (.ok ((GU a)&&((GU a)&&true)) (.leaf ((vI a).1,{(g20 [] 0).1 with R:=(aF9 a),Halt:=true}))))) (.ok true (.br (eqI (vI a).2 2) (.ok true (.ok true (.ok ((GU a)&&((GU a)&&true)) (.leaf ((vI a).1,{(g20 [] 0).1 with R:=(PT (xO a).1).2}))))) (.ok true (.ok ((GU a)&&((GU a)&&true)) (.leaf ((vI a).1,{(g20 [] 0).1 with R:=(aF9 a)}))))))))))))))) (.ok true (.ok true (.ok true (.ok ((yG 60 (PT (xO a).1).1)&&true) (.ok true (.br (eqI (vI a).2 0) (.ok true (.ok true (.ok ((GV a)&&((GV a)&&true)) (.leaf ((vI a).1,{(J9 a).1 with R:=(aGA a),Stop:=true}))))) (.ok true (.br (eqI (vI a).2 1) (.ok true (.ok true (.ok ((GV a)&&((GV a)&&true)) (.leaf ((vI a).1,{(J9 a).1 with R:=(aGA a),Halt:=true}))))) (.ok true (.br (eqI (vI a).2 2) (.ok true (.ok true (.ok ((GV a)&&((GV a)&&true)) (.leaf ((vI a).1,{(J9 a).1 with R:=(PT (xO a).1).2}))))) (.ok true (.ok ((GV a)&&((GV a)&&true)) (.leaf ((vI a).1,{(J9 a).1 with R:=(aGA a)}))))))))))))))))))))
def g71(a:aN):aN×aG:=hid (T71 a).val
def k71(a:aN):Bool:=hid (T71 a).okv
def n71(a:aN)(r:aN×aG):SV×List Blk:=((.agg [.sl 1 0 (ln r.2.R.D), .sl 2 0 (ln r.2.R.A),li r.2.R.Other,li r.2.R.PC,li r.2.R.Flags,li r.2.R.Mask, .lit (.bool r.2.R.Super), .lit (.bool r.2.R.Trace), .sl 3 0 (ln r.2.Bus.Bytes), .sl 4 0 (ln r.2.Bus.Log), .lit (.bool r.2.Stop), .lit (.bool r.2.Halt)]),[.box [.imm true 1 r.1.fcode,li r.1.fat, .lit (.int .u64 r.1.fseed)], .lst 1 r.2.R.D, .lst 1 r.2.R.A, .lst 1 r.2.Bus.Bytes, .lst 5 r.2.Bus.Log])
def q71:=DS0 (fun a=>n71 a (g71 a)) k71
theorem t71:cP 71 q71:=O5 fun a hk=>tc b7U a1K [(30,K0),(31,K6),(47,K0),(50,K8)] [] true (T71 a) (n71 a) hk
def Q71:=bD 71 q71 Q20
theorem a1L:QO Q71:=aH t71 a1K
def b9H(a:List Row):List SV:=[(.one (.imm true 1 a))]
def b9I(a:List Row):List Blk:=[]
def aGB(N:List Row→SV×List Blk)(K:List Row→Bool):List SV→List Blk→Option ((SV×List Blk)×Bool)
 |[(.one (.imm true 1 c0))],[]=>some (N c0,K c0)
 |_,_=>none
theorem M9{N:List Row→SV×List Blk}{K:List Row→Bool}{f:Nat}(h: ∀(a:List Row),K a=true→dQ R f (b9H a) (b9I a)=some (N a)):cP f (aGB N K):=fun _ _ _ e=>by
 unfold aGB at e;split at e
 ·exact yF e (h _)
 ·cases e
def T40(a:List Row):Pt (aG):=(.ok true (.ok true (.ok ((k71 (aN.mk a 0 0))&&true) (.ok ((aM (g71 (aN.mk a 0 0)).2 true)&&((aM (g71 (aN.mk a 0 0)).2 true)&&true)) (.ok (aM (g71 (aN.mk a 0 0)).2 true) (.leaf (g71 (aN.mk a 0 0)).2))))))
def CN(a:List Row):aG:=hid (T40 a).val
def k40(a:List Row):Bool:=hid (T40 a).okv
def n40(a:List Row)(r:aG):SV×List Blk:=((.agg [.imm true 1 r.R.D, .imm true 1 r.R.A,li r.R.Other,li r.R.PC,li r.R.Flags,li r.R.Mask, .lit (.bool r.R.Super), .lit (.bool r.R.Trace), .imm true 1 r.Bus.Bytes, .imm true 5 r.Bus.Log, .lit (.bool r.Stop), .lit (.bool r.Halt)]),[])
def q40:=aGB (fun a=>n40 a (CN a)) k40
theorem t40:cP 100040 q40:=M9 fun a hk=>tz b7N a1L [] [] true (T40 a) (n40 a) hk
def Q40:=bD 100040 q40 Q71
theorem a1M:QO Q40:=aH t40 a1L
def a1N(a:Int)(b:Int)(c:Int):Pt (Bool):=(.ok true (.ok true (.ok true (.ok true (.leaf (bif (geI a b)then(leI a c)else false))))))
def uF(a:Int)(b:Int)(c:Int):Bool:=hid (a1N a b c).val
def xP(a:Int)(b:Int)(c:Int):Bool:=hid (a1N a b c).okv
def q106:=DS5 (fun a b c=>bA5 a b c (uF a b c)) xP
theorem b9K:cP 100106 q106:=DI fun a b c hk=>tz bWC a1M [] [] true (a1N a b c) (bA5 a b c) hk
def Q106:=bD 100106 q106 Q40
theorem aPJ:QO Q106:=aH b9K a1M
def T73(a:Int):Pt (Bool):=(.ok true (.ok ((xP a 0 65535)&&true) (.ok true (.ok true (.leaf (uF a 0 65535))))))
def g73(a:Int):Bool:=hid (T73 a).val
def k73(a:Int):Bool:=hid (T73 a).okv
def q73:=CM (fun a=>j9 a (g73 a)) k73
theorem t73:cP 100073 q73:=hH fun a hk=>tz b7V aPJ [] [] true (T73 a) (j9 a) hk
def Q73:=bD 100073 q73 Q106
theorem a1O:QO Q73:=aH t73 aPJ
def a1P(a:Int):Pt (Bool):=(.ok true (.ok ((k73 a)&&true) (.ok true (.leaf (!(g73 a))))))
def bB8(a:Int):Bool:=hid (a1P a).val
def bB9(a:Int):Bool:=hid (a1P a).okv
def q226:=CM (fun a=>j9 a (bB8 a)) bB9
theorem b9L:cP 226 q226:=hH fun a hk=>tc bYN a1O [] [] true (a1P a) (j9 a) hk
def Q226:=bD 226 q226 Q73
theorem aBA:QO Q226:=aH b9L a1O
def b9M(a:List Row):List SV:=[(.one (.imm true 1 a)),(.one (.clo 226 []))]
def b9N(a:List Row):List Blk:=[]
def bCA(N:List Row→SV×List Blk)(K:List Row→Bool):List SV→List Blk→Option ((SV×List Blk)×Bool)
 |[(.one (.imm true 1 c0)),(.one (.clo 226 []))],[]=>some (N c0,K c0)
 |_,_=>none
theorem a1Q{N:List Row→SV×List Blk}{K:List Row→Bool}{f:Nat}(h: ∀(a:List Row),K a=true→dQ R f (b9M a) (b9N a)=some (N a)):cP f (bCA N K):=fun _ _ _ e=>by
 unfold bCA at e;split at e
 ·exact yF e (h _)
 ·cases e
structure V227_0 where
 mk::
 (s0:List Row)
 (s7:Int)
 (s8:Int)
def NA(v:V227_0):Pt (Option V227_0):=(.ok true (.br (ltI v.s8 v.s7) (.ok true (.ok ((iG [.int .i64] v.s0 v.s8)&&((bB9 (bR v.s0 (iN v.s8) 0))&&true)) (.br (bB8 (bR v.s0 (iN v.s8) 0)) (.ok true (.leaf none)) (.ok true (.ok true (.leaf (some {v with s8:=(bE v.s8 1)}))))))) (.leaf none)))
def TE(v:V227_0):St:=⟨[(0,(.one (.imm true 1 v.s0))),(1,(.one (.clo 226 []))),(7,(.one (li v.s7))),(8,(.one (li v.s8)))],[]⟩
def aBB:St→Option (V227_0×Bool)
 |⟨[(0,(.one (.imm true 1 c0))),(1,(.one (.clo 226 []))),(7,(.one (li c1))),(8,(.one (li c2)))],[]⟩=>some ((V227_0.mk c0 c1 c2),true)
 |_=>none
def aBC:St→Option (Pt Out):=xN Q226 [(14,K0),(15,K0)] [] true [] 0 2097152 MO
theorem bCB(v:V227_0):((aBC (TE v)).bind (rW true false 0 [0,1,7,8]))=some ((NA v).map (Option.map TE)):=by kernel_rfl
theorem bCC(σ:St)(v:V227_0)(h:aBB σ=some (v,true)):σ=TE v:=by
 unfold aBB at h;split at h
 ·obtain⟨hr,hk⟩:=qp (qi h);rw[←hr];rfl
 ·simp at h
theorem bCD:cY (uB true false 0 [0,1,7,8] aBC aBB TE NA 2097152) (fT R 0 2097152 (.loop [0,1,7,8] MO)):=eE (cZ aBA (cI (l:=[]) (by kernel_rfl) trivial)) bCC bCB
def bCE:Lp:=(9,uB true false 0 [0,1,7,8] aBC aBB TE NA 2097152)::[]
def TF(v:V227_0):V227_0:=(hid (dW NA 2097152 v)).getD v
def aKA(v:V227_0):Bool:=(hid (dW NA 2097152 v)).isSome
section
variable(a:List Row)
def aBD:V227_0:=(TF (V227_0.mk a (bX a) 0))
end
def bCF(a:List Row):Pt (Int):=(.ok true (.ok true (.ok true (.ok true (.ok (aKA (V227_0.mk a (bX a) 0)) (.br (ltI (aBD a).s8 (aBD a).s7) (.ok true (.leaf (aBD a).s8)) (.ok true (.ok true (.leaf (-1))))))))))
def bCG(a:List Row):Int:=hid (bCF a).val
def bCH(a:List Row):Bool:=hid (bCF a).okv
def aWC(a:List Row)(r:Int):SV×List Blk:=((.one (li r)),[])
def q227:=bCA (fun a=>aWC a (bCG a)) bCH
theorem b1W:fN (fun live x=>cY (nL bCE (lV x)) (fT R 0 2097152 (.loop live x))) F227.body:=(cI (l:=[([0,1,7,8],MO)]) (by kernel_rfl) ⟨fH (n:=9) (by kernel_rfl) fun σ σr t h ho hl=>bCD σ σr t h ho hl,trivial⟩)
theorem b9O:cP 227 q227:=a1Q fun a hk=>tcl bHS aBA b1W [(14,K0),(15,K0)] [] true (bCF a) (aWC a) hk
def Q227:=bD 227 q227 Q226
theorem aPK:QO Q227:=aH b9O aBA
def bCI(a:List Row):Pt (Bool):=(.ok true (.ok ((bCH a)&&true) (.ok true (.leaf (geI (bCG a) 0)))))
def a1R(a:List Row):Bool:=hid (bCI a).val
def a1S(a:List Row):Bool:=hid (bCI a).okv
def q171:=bCA (fun a=>J8 a (a1R a)) a1S
theorem b9P:cP 171 q171:=a1Q fun a hk=>tc bHR aPK [] [] true (bCI a) (J8 a) hk
def Q171:=bD 171 q171 Q227
theorem aPL:QO Q171:=aH b9P aPK
def a1T(a:List Row):Pt (Bool):=(.ok true (.ok ((((a1S a)&&true)||(!(eqI (bX a) 4)))&&true) (.ok true (.ok true (.leaf (bif (eqI (bX a) 4)then(!(a1R a))else false))))))
def a1U(a:List Row):Bool:=hid (a1T a).val
def bCJ(a:List Row):Bool:=hid (a1T a).okv
def q169:=aGB (fun a=>J8 a (a1U a)) bCJ
theorem b9Q:cP 100169 q169:=M9 fun a hk=>tz bW9 aPL [] [] true (a1T a) (J8 a) hk
def Q169:=bD 100169 q169 Q171
theorem aPM:QO Q169:=aH b9Q aPL
def a1V(a:Int):Pt (Bool):=(.ok true (.ok ((xP a 0 31)&&true) (.ok true (.ok true (.leaf (uF a 0 31))))))
def bKF(a:Int):Bool:=hid (a1V a).val
def bKG(a:Int):Bool:=hid (a1V a).okv
def q170:=CM (fun a=>j9 a (bKF a)) bKG
theorem b9R:cP 100170 q170:=hH fun a hk=>tz bXA aPM [] [] true (a1V a) (j9 a) hk
def Q170:=bD 100170 q170 Q169
theorem aPN:QO Q170:=aH b9R aPM
def b9S(a:aJ):List SV:=[(.agg [.imm true 1 a.D, .imm true 1 a.A,li a.Other,li a.PC,li a.Flags,li a.Mask, .lit (.bool a.Super), .lit (.bool a.Trace)])]
def b9T(a:aJ):List Blk:=[]
def bCK(N:aJ→SV×List Blk)(K:aJ→Bool):List SV→List Blk→Option ((SV×List Blk)×Bool)
 |[(.agg [.imm true 1 c0, .imm true 1 c1,li c2,li c3,li c4,li c5, .lit (.bool c6), .lit (.bool c7)])],[]=>some (N (aJ.mk c0 c1 c2 c3 c4 c5 c6 c7),K (aJ.mk c0 c1 c2 c3 c4 c5 c6 c7))
 |_,_=>none
theorem a1W{N:aJ→SV×List Blk}{K:aJ→Bool}{f:Nat}(h: ∀(a:aJ),K a=true→dQ R f (b9S a) (b9T a)=some (N a)):cP f (bCK N K):=fun _ _ _ e=>by
 unfold bCK at e;split at e
 ·exact yF e (h _)
 ·cases e
section
variable(a:aJ)
def aKB:Bool:=(bif (a1U a.D)then(a1U a.A)else false)
def aKC:Bool:=(bif (aKB a)then(g73 a.Other)else false)
def aKD:Bool:=(bif (aKC a)then(g73 a.PC)else false)
def aKE:Bool:=(bif (aKD a)then(bKF a.Flags)else false)
end
def a1X(a:aJ):Pt (Bool):=(.ok true (.ok ((bCJ a.D)&&((((bCJ a.A)&&true)||(!(a1U a.D)))&&((((k73 a.Other)&&true)||(!(aKB a)))&&((((k73 a.PC)&&true)||(!(aKC a)))&&((((bKG a.Flags)&&true)||(!(aKD a)))&&((((xP a.Mask 0 7)&&true)||(!(aKE a)))&&true)))))) (.ok true (.ok true (.leaf (bif (aKE a)then(uF a.Mask 0 7)else false))))))
def bCL(a:aJ):Bool:=hid (a1X a).val
def bKH(a:aJ):Bool:=hid (a1X a).okv
def bCM(a:aJ)(r:Bool):SV×List Blk:=((.one (.lit (.bool r))),[])
def q110:=bCK (fun a=>bCM a (bCL a)) bKH
theorem b9U:cP 100110 q110:=a1W fun a hk=>tz bWG aPN [(4,K1),(8,K1),(13,K0),(18,K0),(23,K0),(28,K0)] [] true (a1X a) (bCM a) hk
def Q110:=bD 100110 q110 Q170
theorem aPO:QO Q110:=aH b9U aPN
def a1Y(a:Int):Pt (Bool):=(.ok true (.ok ((xP a 0 255)&&true) (.ok true (.leaf (!(uF a 0 255))))))
def bCN(a:Int):Bool:=hid (a1Y a).val
def bCO(a:Int):Bool:=hid (a1Y a).okv
def q172:=CM (fun a=>j9 a (bCN a)) bCO
theorem b9V:cP 172 q172:=hH fun a hk=>tc bXB aPO [] [] true (a1Y a) (j9 a) hk
def Q172:=bD 172 q172 Q110
theorem aBE:QO Q172:=aH b9V aPO
def b9W(a:List Row):List SV:=[(.one (.imm true 1 a)),(.one (.clo 172 []))]
def b9X(a:List Row):List Blk:=[]
def bCP(N:List Row→SV×List Blk)(K:List Row→Bool):List SV→List Blk→Option ((SV×List Blk)×Bool)
 |[(.one (.imm true 1 c0)),(.one (.clo 172 []))],[]=>some (N c0,K c0)
 |_,_=>none
theorem a1Z{N:List Row→SV×List Blk}{K:List Row→Bool}{f:Nat}(h: ∀(a:List Row),K a=true→dQ R f (b9W a) (b9X a)=some (N a)):cP f (bCP N K):=fun _ _ _ e=>by
 unfold bCP at e;split at e
 ·exact yF e (h _)
 ·cases e
structure V227v1_0 where
 mk::
 (s0:List Row)
 (s7:Int)
 (s8:Int)
def AH(v:V227v1_0):Pt (Option V227v1_0):=(.ok true (.br (ltI v.s8 v.s7) (.ok true (.ok ((iG [.int .i64] v.s0 v.s8)&&((bCO (bR v.s0 (iN v.s8) 0))&&true)) (.br (bCN (bR v.s0 (iN v.s8) 0)) (.ok true (.leaf none)) (.ok true (.ok true (.leaf (some {v with s8:=(bE v.s8 1)}))))))) (.leaf none)))
def DU(v:V227v1_0):St:=⟨[(0,(.one (.imm true 1 v.s0))),(1,(.one (.clo 172 []))),(7,(.one (li v.s7))),(8,(.one (li v.s8)))],[]⟩
def KA:St→Option (V227v1_0×Bool)
 |⟨[(0,(.one (.imm true 1 c0))),(1,(.one (.clo 172 []))),(7,(.one (li c1))),(8,(.one (li c2)))],[]⟩=>some ((V227v1_0.mk c0 c1 c2),true)
 |_=>none
def NB:St→Option (Pt Out):=xN Q172 [(14,K0),(15,K0)] [] true [] 0 2097152 MO
theorem aWD(v:V227v1_0):((NB (DU v)).bind (rW true false 0 [0,1,7,8]))=some ((AH v).map (Option.map DU)):=by kernel_rfl
theorem aWE(σ:St)(v:V227v1_0)(h:KA σ=some (v,true)):σ=DU v:=by
 unfold KA at h;split at h
 ·obtain⟨hr,hk⟩:=qp (qi h);rw[←hr];rfl
 ·simp at h
theorem aWF:cY (uB true false 0 [0,1,7,8] NB KA DU AH 2097152) (fT R 0 2097152 (.loop [0,1,7,8] MO)):=eE (cZ aBE (cI (l:=[]) (by kernel_rfl) trivial)) aWE aWD
def aWG:Lp:=(9,uB true false 0 [0,1,7,8] NB KA DU AH 2097152)::[]
def DV(v:V227v1_0):V227v1_0:=(hid (dW AH 2097152 v)).getD v
def TG(v:V227v1_0):Bool:=(hid (dW AH 2097152 v)).isSome
section
variable(a:List Row)
def KB:V227v1_0:=(DV (V227v1_0.mk a (bX a) 0))
end
def aBF(a:List Row):Pt (Int):=(.ok true (.ok true (.ok true (.ok true (.ok (TG (V227v1_0.mk a (bX a) 0)) (.br (ltI (KB a).s8 (KB a).s7) (.ok true (.leaf (KB a).s8)) (.ok true (.ok true (.leaf (-1))))))))))
def aBG(a:List Row):Int:=hid (aBF a).val
def aBH(a:List Row):Bool:=hid (aBF a).okv
def q227v1:=bCP (fun a=>aWC a (aBG a)) aBH
theorem bCQ:fN (fun live x=>cY (nL aWG (lV x)) (fT R 0 2097152 (.loop live x))) F227.body:=(cI (l:=[([0,1,7,8],MO)]) (by kernel_rfl) ⟨fH (n:=9) (by kernel_rfl) fun σ σr t h ho hl=>aWF σ σr t h ho hl,trivial⟩)
theorem bKI:cP 227 q227v1:=a1Z fun a hk=>tcl bHS aBE bCQ [(14,K0),(15,K0)] [] true (aBF a) (aWC a) hk
def Q227v1:=bD 227 q227v1 Q172
theorem YK:QO Q227v1:=aH bKI aBE
def aBI(a:List Row):Pt (Bool):=(.ok true (.ok ((aBH a)&&true) (.ok true (.leaf (geI (aBG a) 0)))))
def TH(a:List Row):Bool:=hid (aBI a).val
def TI(a:List Row):Bool:=hid (aBI a).okv
def q171v1:=bCP (fun a=>J8 a (TH a)) TI
theorem bKJ:cP 171 q171v1:=a1Z fun a hk=>tc bHR YK [] [] true (aBI a) (J8 a) hk
def Q171v1:=bD 171 q171v1 Q227v1
theorem YL:QO Q171v1:=aH bKJ YK
def aKF(a:Int):Pt (Bool):=(.ok true (.ok true (.ok true (.ok true (.leaf (bif (eqI a 1)then true else(eqI a 2)))))))
def aGC(a:Int):Bool:=hid (aKF a).val
def aWH(a:Int):Bool:=hid (aKF a).okv
def q187:=CM (fun a=>j9 a (aGC a)) aWH
theorem b9Y:cP 100187 q187:=hH fun a hk=>tz bXQ YL [] [] true (aKF a) (j9 a) hk
def Q187:=bD 100187 q187 Q171v1
theorem aPP:QO Q187:=aH b9Y YL
def aKG(a:Int):Pt (Int):=(.ok true (.ok ((leI 0 (dE 8 a))&&true) (.ok true (.ok true (.leaf (m9 1 (dE 8 a)))))))
def pV(a:Int):Int:=hid (aKG a).val
def DW(a:Int):Bool:=hid (aKG a).okv
def xQ(a:Int)(r:Int):SV×List Blk:=((.one (li r)),[])
def q262:=CM (fun a=>xQ a (pV a)) DW
theorem b9Z:cP 100262 q262:=hH fun a hk=>tz bZM aPP [] [] true (aKG a) (xQ a) hk
def Q262:=bD 100262 q262 Q187
theorem aPQ:QO Q262:=aH b9Z aPP
def b90(a:Int)(b:Int):List SV:=[(.one (li a)),(.one (li b))]
def b91(a:Int)(b:Int):List Blk:=[]
def KC(N:Int→Int→SV×List Blk)(K:Int→Int→Bool):List SV→List Blk→Option ((SV×List Blk)×Bool)
 |[(.one (li c0)),(.one (li c1))],[]=>some (N c0 c1,K c0 c1)
 |_,_=>none
theorem uG{N:Int→Int→SV×List Blk}{K:Int→Int→Bool}{f:Nat}(h: ∀(a:Int)(b:Int),K a b=true→dQ R f (b90 a b) (b91 a b)=some (N a b)):cP f (KC N K):=fun _ _ _ e=>by
 unfold KC at e;split at e
 ·exact yF e (h _ _)
 ·cases e
def a10(a:Int)(b:Int):Pt (Bool):=(.ok true (.ok ((aWH a)&&((((DW a)&&((xP b 0 (cM (pV a) 1))&&true))||(!(aGC a)))&&true)) (.ok true (.ok true (.leaf (bif (aGC a)then(uF b 0 (cM (pV a) 1))else false))))))
def bKK(a:Int)(b:Int):Bool:=hid (a10 a b).val
def bKL(a:Int)(b:Int):Bool:=hid (a10 a b).okv
def WW(a:Int)(b:Int)(r:Bool):SV×List Blk:=((.one (.lit (.bool r))),[])
def q229:=KC (fun a b=>WW a b (bKK a b)) bKL
theorem b92:cP 100229 q229:=uG fun a b hk=>tz bYP aPQ [] [] true (a10 a b) (WW a b) hk
def Q229:=bD 100229 q229 Q262
theorem aPR:QO Q229:=aH b92 aPQ
def b93(a:aE):List SV:=[(.agg [li a.Kind,li a.Size,li a.Addr,li a.Value,li a.Code])]
def b94(a:aE):List Blk:=[]
def a11(N:aE→SV×List Blk)(K:aE→Bool):List SV→List Blk→Option ((SV×List Blk)×Bool)
 |[(.agg [li c0,li c1,li c2,li c3,li c4])],[]=>some (N (aE.mk c0 c1 c2 c3 c4),K (aE.mk c0 c1 c2 c3 c4))
 |_,_=>none
theorem aKH{N:aE→SV×List Blk}{K:aE→Bool}{f:Nat}(h: ∀(a:aE),K a=true→dQ R f (b93 a) (b94 a)=some (N a)):cP f (a11 N K):=fun _ _ _ e=>by
 unfold a11 at e;split at e
 ·exact yF e (h _)
 ·cases e
section
variable(a:aE)
def aKI:Bool:=(bif (uF a.Kind 1 3)then(g73 a.Addr)else false)
def aKJ:Bool:=(bif (aKI a)then(bKK a.Size a.Value)else false)
end
def a12(a:aE):Pt (Bool):=(.ok true (.ok ((xP a.Kind 1 3)&&((((k73 a.Addr)&&true)||(!(uF a.Kind 1 3)))&&((((bKL a.Size a.Value)&&true)||(!(aKI a)))&&((((xP a.Code 0 3)&&true)||(!(aKJ a)))&&true)))) (.ok true (.ok true (.leaf (bif (bif (aKJ a)then(uF a.Code 0 3)else false)then(!(bif (eqI a.Kind 3)then(eqI a.Code 0)else false))else false))))))
def bKM(a:aE):Bool:=hid (a12 a).val
def bKN(a:aE):Bool:=hid (a12 a).okv
def aWI(a:aE)(r:Bool):SV×List Blk:=((.one (.lit (.bool r))),[])
def q175:=a11 (fun a=>aWI a (bKM a)) bKN
theorem b95:cP 100175 q175:=aKH fun a hk=>tz bXE aPR [(4,K0),(8,K0),(13,K0),(15,K0),(20,K0),(25,K0),(29,K0)] [] true (a12 a) (aWI a) hk
def Q175:=bD 100175 q175 Q229
theorem aPS:QO Q175:=aH b95 aPR
def K9:List Kd:=[.int .i64, .int .i64, .int .i64, .int .i64, .int .i64]
def a13(a:aE):Pt (Bool):=(.ok true (.ok ((bKN a)&&true) (.ok true (.leaf (!(bKM a))))))
def bCR(a:aE):Bool:=hid (a13 a).val
def bCS(a:aE):Bool:=hid (a13 a).okv
def q174:=a11 (fun a=>aWI a (bCR a)) bCS
theorem b96:cP 174 q174:=aKH fun a hk=>tc bXD aPS [(3,K9)] [] true (a13 a) (aWI a) hk
def Q174:=bD 174 q174 Q175
theorem aBJ:QO Q174:=aH b96 aPS
def b97(a:List Row):List SV:=[(.one (.imm true 5 a)),(.one (.clo 174 []))]
def b98(a:List Row):List Blk:=[]
def bCT(N:List Row→SV×List Blk)(K:List Row→Bool):List SV→List Blk→Option ((SV×List Blk)×Bool)
 |[(.one (.imm true 5 c0)),(.one (.clo 174 []))],[]=>some (N c0,K c0)
 |_,_=>none
theorem a14{N:List Row→SV×List Blk}{K:List Row→Bool}{f:Nat}(h: ∀(a:List Row),K a=true→dQ R f (b97 a) (b98 a)=some (N a)):cP f (bCT N K):=fun _ _ _ e=>by
 unfold bCT at e;split at e
 ·exact yF e (h _)
 ·cases e
structure V228_0 where
 mk::
 (s0:List Row)
 (s7:Int)
 (s8:Int)
def NC(v:V228_0):Pt (Option V228_0):=(.ok true (.br (ltI v.s8 v.s7) (.ok true (.ok ((iG [.int .i64, .int .i64, .int .i64, .int .i64, .int .i64] v.s0 v.s8)&&((bCS (aE.at v.s0 (iN v.s8) 0))&&true)) (.br (bCR (aE.at v.s0 (iN v.s8) 0)) (.ok true (.leaf none)) (.ok true (.ok true (.leaf (some {v with s8:=(bE v.s8 1)}))))))) (.leaf none)))
def TJ(v:V228_0):St:=⟨[(0,(.one (.imm true 5 v.s0))),(1,(.one (.clo 174 []))),(7,(.one (li v.s7))),(8,(.one (li v.s8)))],[]⟩
def aBK:St→Option (V228_0×Bool)
 |⟨[(0,(.one (.imm true 5 c0))),(1,(.one (.clo 174 []))),(7,(.one (li c1))),(8,(.one (li c2)))],[]⟩=>some ((V228_0.mk c0 c1 c2),true)
 |_=>none
def aBL:St→Option (Pt Out):=xN Q174 [(14,K9),(15,K9)] [] true [] 0 2097152 aI0
theorem bCU(v:V228_0):((aBL (TJ v)).bind (rW true false 0 [0,1,7,8]))=some ((NC v).map (Option.map TJ)):=by kernel_rfl
theorem bCV(σ:St)(v:V228_0)(h:aBK σ=some (v,true)):σ=TJ v:=by
 unfold aBK at h;split at h
 ·obtain⟨hr,hk⟩:=qp (qi h);rw[←hr];rfl
 ·simp at h
theorem bCW:cY (uB true false 0 [0,1,7,8] aBL aBK TJ NC 2097152) (fT R 0 2097152 (.loop [0,1,7,8] aI0)):=eE (cZ aBJ (cI (l:=[]) (by kernel_rfl) trivial)) bCV bCU
def bCX:Lp:=(9,uB true false 0 [0,1,7,8] aBL aBK TJ NC 2097152)::[]
def TK(v:V228_0):V228_0:=(hid (dW NC 2097152 v)).getD v
def aKK(v:V228_0):Bool:=(hid (dW NC 2097152 v)).isSome
section
variable(a:List Row)
def aBM:V228_0:=(TK (V228_0.mk a (bX a) 0))
end
def bCY(a:List Row):Pt (Int):=(.ok true (.ok true (.ok true (.ok true (.ok (aKK (V228_0.mk a (bX a) 0)) (.br (ltI (aBM a).s8 (aBM a).s7) (.ok true (.leaf (aBM a).s8)) (.ok true (.ok true (.leaf (-1))))))))))
def bCZ(a:List Row):Int:=hid (bCY a).val
def bC0(a:List Row):Bool:=hid (bCY a).okv
def q228:=bCT (fun a=>aWC a (bCZ a)) bC0
theorem b1X:fN (fun live x=>cY (nL bCX (lV x)) (fT R 0 2097152 (.loop live x))) F228.body:=(cI (l:=[([0,1,7,8],aI0)]) (by kernel_rfl) ⟨fH (n:=9) (by kernel_rfl) fun σ σr t h ho hl=>bCW σ σr t h ho hl,trivial⟩)
theorem b99:cP 228 q228:=a14 fun a hk=>tcl bYO aBJ b1X [(14,K9),(15,K9)] [] true (bCY a) (aWC a) hk
def Q228:=bD 228 q228 Q174
theorem aPT:QO Q228:=aH b99 aBJ
def bC1(a:List Row):Pt (Bool):=(.ok true (.ok ((bC0 a)&&true) (.ok true (.leaf (geI (bCZ a) 0)))))
def a15(a:List Row):Bool:=hid (bC1 a).val
def a16(a:List Row):Bool:=hid (bC1 a).okv
def q173:=bCT (fun a=>J8 a (a15 a)) a16
theorem cAA:cP 173 q173:=a14 fun a hk=>tc bXC aPT [] [] true (bC1 a) (J8 a) hk
def Q173:=bD 173 q173 Q228
theorem aPU:QO Q173:=aH cAA aPT
def K10:List Kd:=[.imm 5]
def cAB(a:bM):List SV:=[(.agg [.imm true 1 a.Bytes, .imm true 5 a.Log])]
def cAC(a:bM):List Blk:=[]
def a17(N:bM→SV×List Blk)(K:bM→Bool):List SV→List Blk→Option ((SV×List Blk)×Bool)
 |[(.agg [.imm true 1 c0, .imm true 5 c1])],[]=>some (N (bM.mk c0 c1),K (bM.mk c0 c1))
 |_,_=>none
theorem aKL{N:bM→SV×List Blk}{K:bM→Bool}{f:Nat}(h: ∀(a:bM),K a=true→dQ R f (cAB a) (cAC a)=some (N a)):cP f (a17 N K):=fun _ _ _ e=>by
 unfold a17 at e;split at e
 ·exact yF e (h _)
 ·cases e
section
variable(a:bM)
def aBN:Bool:=(bif (eqI (bX a.Bytes) 512)then(leI (bX a.Log) 400)else false)
def aKM:List Row:=(bif (aBN a)then a.Log else a.Log)
def aKN:Bool:=(bif (aBN a)then(!(TH a.Bytes))else false)
end
def a18(a:bM):Pt (Bool):=(.ok true (.ok ((((TI a.Bytes)&&true)||(!(aBN a)))&&((((a16 (aKM a))&&true)||(!(aKN a)))&&true)) (.ok true (.ok true (.leaf (bif (aKN a)then(!(a15 (aKM a)))else false))))))
def bC2(a:bM):Bool:=hid (a18 a).val
def bC3(a:bM):Bool:=hid (a18 a).okv
def bC4(a:bM)(r:Bool):SV×List Blk:=((.one (.lit (.bool r))),[])
def q111:=a17 (fun a=>bC4 a (bC2 a)) bC3
theorem cAD:cP 100111 q111:=aKL fun a hk=>tz bWH aPU [(4,K1),(9,K10),(15,K1),(21,K10)] [] true (a18 a) (bC4 a) hk
def Q111:=bD 100111 q111 Q173
theorem aPV:QO Q111:=aH cAD aPU
def rV:List Kd:=[.bool]
def cAE(a:aG):List SV:=[(.agg [.imm true 1 a.R.D, .imm true 1 a.R.A,li a.R.Other,li a.R.PC,li a.R.Flags,li a.R.Mask, .lit (.bool a.R.Super), .lit (.bool a.R.Trace), .imm true 1 a.Bus.Bytes, .imm true 5 a.Bus.Log, .lit (.bool a.Stop), .lit (.bool a.Halt)])]
def cAF(a:aG):List Blk:=[]
def TL(N:aG→SV×List Blk)(K:aG→Bool):List SV→List Blk→Option ((SV×List Blk)×Bool)
 |[(.agg [.imm true 1 c0, .imm true 1 c1,li c2,li c3,li c4,li c5, .lit (.bool c6), .lit (.bool c7), .imm true 1 c8, .imm true 5 c9, .lit (.bool c10), .lit (.bool c11)])],[]=>some (N (aG.mk (aJ.mk c0 c1 c2 c3 c4 c5 c6 c7) (bM.mk c8 c9) c10 c11),K (aG.mk (aJ.mk c0 c1 c2 c3 c4 c5 c6 c7) (bM.mk c8 c9) c10 c11))
 |_,_=>none
theorem BU{N:aG→SV×List Blk}{K:aG→Bool}{f:Nat}(h: ∀(a:aG),K a=true→dQ R f (cAE a) (cAF a)=some (N a)):cP f (TL N K):=fun _ _ _ e=>by
 unfold TL at e;split at e
 ·exact yF e (h _)
 ·cases e
def T30(a:aG):Pt (Bool):=(.ok true (.ok ((bKH a.R)&&((((bC3 a.Bus)&&true)||(!(bCL a.R)))&&true)) (.ok true (.ok true (.leaf (bif (bif (bCL a.R)then(bC2 a.Bus)else false)then(!(bif a.Stop then a.Halt else false))else false))))))
def g30(a:aG):Bool:=hid (T30 a).val
def k30(a:aG):Bool:=hid (T30 a).okv
def n30(a:aG)(r:Bool):SV×List Blk:=((.one (.lit (.bool r))),[])
def q30:=TL (fun a=>n30 a (g30 a)) k30
theorem t30:cP 100030 q30:=BU fun a hk=>tz b7M aPV [(4,K6),(8,K7),(13,rV),(16,rV)] [] true (T30 a) (n30 a) hk
def Q30:=bD 100030 q30 Q111
theorem a19:QO Q30:=aH t30 aPV
def a2A(a:aG):Pt (Bool):=(.ok true (.ok ((k30 a)&&true) (.ok true (.ok true (.leaf (bif (bif (g30 a)then(!a.Stop)else false)then(!a.Halt)else false))))))
def bC5(a:aG):Bool:=hid (a2A a).val
def bC6(a:aG):Bool:=hid (a2A a).okv
def q117:=TL (fun a=>n30 a (bC5 a)) bC6
theorem cAG:cP 100117 q117:=BU fun a hk=>tz bWK a19 [(3,K8),(7,rV),(12,rV)] [] true (a2A a) (n30 a) hk
def Q117:=bD 100117 q117 Q30
theorem bC7:QO Q117:=aH cAG a19
def bKO:List SV→List Blk→Option ((SV×List Blk)×Bool)
 |[.one (.imm p 1 rows)],[]=>some ((SV.one (T.sl 0 0 (ln rows)),[Blk.lst 1 rows]),decide (ln rows*8≤room))
 |_,_=>none
theorem cAH(args:List SV)(hp:List Blk)(r:SV×List Blk)(h:bKO args hp=some (r,true)):dQ R 203 args hp=some r:=by
 rw[HI (by decide)]
 unfold bKO at h;split at h
 ·rename_i p rows;simp only[Option.some.injEq,Prod.mk.injEq,decide_eq_true_eq]at h;obtain⟨rfl,h⟩:=h;refine aOL (by decide) bV5 ?_
  have h':ln rows≤room:=by omega
  simp[ZT,GQ,ZS,h,h']
 ·simp at h
noncomputable def Q203:Qt:=bD 203 bKO Q117
theorem aPW:X7 (dQ R) Q203:=aH cAH bC7
def cAI(a:aJ)(p0:Bool)(p1:Bool):List SV:=[(.agg [.imm p0 1 a.D, .imm p1 1 a.A,li a.Other,li a.PC,li a.Flags,li a.Mask, .lit (.bool a.Super), .lit (.bool a.Trace)])]
def cAJ(a:aJ)(p0:Bool)(p1:Bool):List Blk:=[]
def a2B(N:aJ→SV×List Blk)(K:aJ→Bool):List SV→List Blk→Option ((SV×List Blk)×Bool)
 |[(.agg [.imm p0 1 c0, .imm p1 1 c1,li c2,li c3,li c4,li c5, .lit (.bool c6), .lit (.bool c7)])],[]=>some (N (aJ.mk c0 c1 c2 c3 c4 c5 c6 c7),K (aJ.mk c0 c1 c2 c3 c4 c5 c6 c7))
 |_,_=>none
theorem aKO{N:aJ→SV×List Blk}{K:aJ→Bool}{f:Nat}(h: ∀(a:aJ)(p0:Bool)(p1:Bool),K a=true→dQ R f (cAI a p0 p1) (cAJ a p0 p1)=some (N a)):cP f (a2B N K):=fun _ _ _ e=>by
 unfold a2B at e;split at e
 ·exact yF e (h _ _ _)
 ·cases e
section
variable(a:aJ)
def aKP:Bool:=(((nX (qY (ln a.D) 8) 140737488355328)&&((nX (qY (ln a.A) 8) 140737488355328)&&true))&&true)
end
def a2C(a:aJ):Pt (aJ):=(.ok true (.ok ((aKP a)&&((aKP a)&&((fW a true)&&(((s1 (0:Int))&&((s1 (0:Int))&&((s1 (0:Int))&&((s1 (0:Int))&&((s1 false)&&((s1 false)&&true))))))&&(eZ a true))))) (.ok true (.ok ((aO a true)&&((aO a true)&&true)) (.leaf a)))))
def WX(a:aJ):aJ:=hid (a2C a).val
def bC8(a:aJ):Bool:=hid (a2C a).okv
def bC9(a:aJ)(r:aJ):SV×List Blk:=((.agg [.sl 0 0 (ln r.D), .sl 1 0 (ln r.A),li r.Other,li r.PC,li r.Flags,li r.Mask, .lit (.bool r.Super), .lit (.bool r.Trace)]),[.lst 1 r.D, .lst 1 r.A])
def q151:=a2B (fun a=>bC9 a (WX a)) bC8
theorem cAK:cP 151 q151:=aKO fun a p0 p1 hk=>tc bWU aPW [(4,K1),(7,K1),(11,K6)] [] true (a2C a) (bC9 a) hk
def Q151:=bD 151 q151 Q203
theorem bDA:QO Q151:=aH cAK aPW
def bKP:List SV→List Blk→Option ((SV×List Blk)×Bool)
 |[.one (.imm p 5 rows)],[]=>some ((SV.one (T.sl 0 0 (ln rows)),[Blk.lst 5 rows]),decide (ln rows*40≤room))
 |_,_=>none
theorem cAL(args:List SV)(hp:List Blk)(r:SV×List Blk)(h:bKP args hp=some (r,true)):dQ R 204 args hp=some r:=by
 rw[HI (by decide)]
 unfold bKP at h;split at h
 ·rename_i p rows;simp only[Option.some.injEq,Prod.mk.injEq,decide_eq_true_eq]at h;obtain⟨rfl,h⟩:=h;refine aOL (by decide) bV6 ?_
  have h':ln rows≤room:=by omega
  simp[ZT,GQ,ZS,h,h']
 ·simp at h
noncomputable def Q204:Qt:=bD 204 bKP Q151
theorem aPX:X7 (dQ R) Q204:=aH cAL bDA
section
variable(a:bM)
def aKQ:Bool:=(((nX (qY (ln a.Bytes) 8) 140737488355328)&&((nX (qY (ln a.Log) 40) 140737488355328)&&true))&&true)
end
def a2D(a:bM):Pt (bM):=(.ok true (.ok ((aKQ a)&&((aKQ a)&&((((s1 true)&&(r1 a.Bytes))&&(((s1 true)&&(r1 a.Log))&&true))&&((dO a true)&&(dI a true))))) (.ok ((bN a true)&&((bN a true)&&true)) (.leaf a))))
def aWJ(a:bM):bM:=hid (a2D a).val
def bKQ(a:bM):Bool:=hid (a2D a).okv
def bDB(a:bM)(r:bM):SV×List Blk:=((.agg [.sl 0 0 (ln r.Bytes), .sl 1 0 (ln r.Log)]),[.lst 1 r.Bytes, .lst 5 r.Log])
def q152:=a17 (fun a=>bDB a (aWJ a)) bKQ
theorem cAM:cP 152 q152:=aKL fun a hk=>tc bWV aPX [(4,K1),(7,K10)] [] true (a2D a) (bDB a) hk
def Q152:=bD 152 q152 Q204
theorem aPY:QO Q152:=aH cAM aPX
section
variable(a:aG)
def iV:Bool:=(((bC8 a.R)&&((bKQ a.Bus)&&true))&&true)
def jI:Bool:=((((s1 true)&&(r1 a.R.D))&&(((s1 true)&&(r1 a.R.A))&&((s1 a.R.Other)&&((s1 a.R.PC)&&((s1 a.R.Flags)&&((s1 a.R.Mask)&&((s1 a.R.Super)&&((s1 a.R.Trace)&&(((s1 true)&&(r1 a.Bus.Bytes))&&(((s1 true)&&(r1 a.Bus.Log))&&((s1 a.Stop)&&((s1 a.Halt)&&true))))))))))))&&((fW (WX a.R) (dO (aWJ a.Bus) ((s1 a.Stop)&&((s1 a.Halt)&&true))))&&(eZ (WX a.R) (dI (aWJ a.Bus) true))))
def bH4:Bool:=(((iV a)&&(((iV a)&&(((iV a)&&(((iV a)&&(((iV a)&&(((iV a)&&(((iV a)&&(((iV a)&&(((iV a)&&(((iV a)&&(((iV a)&&(((iV a)&&((iV a)&&(jI a)))&&(jI a)))&&(jI a)))&&(jI a)))&&(jI a)))&&(jI a)))&&(jI a)))&&(jI a)))&&(jI a)))&&(jI a)))&&(jI a)))&&(jI a)))&&(jI a))
def bH5:Bool:=((iV a)&&(((iV a)&&(((iV a)&&(((iV a)&&(((iV a)&&(((iV a)&&(((iV a)&&(((iV a)&&(((iV a)&&(((iV a)&&(((iV a)&&(((iV a)&&(((iV a)&&(bH4 a))&&(jI a)))&&(jI a)))&&(jI a)))&&(jI a)))&&(jI a)))&&(jI a)))&&(jI a)))&&(jI a)))&&(jI a)))&&(jI a)))&&(jI a)))&&(jI a)))
def a2E:Bool:=(aO (WX a.R) (bN (aWJ a.Bus) true))
end
def T74(a:aG):Pt (aG):=(.ok true (.ok ((iV a)&&(((iV a)&&(((iV a)&&(((iV a)&&((bH5 a)&&(jI a)))&&(jI a)))&&(jI a)))&&(jI a))) (.ok ((a2E a)&&((a2E a)&&true)) (.leaf {a with R:=(WX a.R),Bus:=(aWJ a.Bus)}))))
def KD(a:aG):aG:=hid (T74 a).val
def k74(a:aG):Bool:=hid (T74 a).okv
def n74(a:aG)(r:aG):SV×List Blk:=((.agg [.sl 0 0 (ln r.R.D), .sl 1 0 (ln r.R.A),li r.R.Other,li r.R.PC,li r.R.Flags,li r.R.Mask, .lit (.bool r.R.Super), .lit (.bool r.R.Trace), .sl 2 0 (ln r.Bus.Bytes), .sl 3 0 (ln r.Bus.Log), .lit (.bool r.Stop), .lit (.bool r.Halt)]),[.lst 1 r.R.D, .lst 1 r.R.A, .lst 1 r.Bus.Bytes, .lst 5 r.Bus.Log])
def q74:=TL (fun a=>n74 a (KD a)) k74
theorem t74:cP 74 q74:=BU fun a hk=>tc b7W aPY [(4,K6),(7,K7),(10,rV),(12,rV)] [] true (T74 a) (n74 a) hk
def Q74:=bD 74 q74 Q152
theorem a2F:QO Q74:=aH t74 aPY
def a2G(a:Int):Pt (Int):=(.ok true (.ok ((xP a 448 495)&&true) (.br (bif (uF a 448 495)then true else(geI a 512)) (.ok true (.ok true (.ok true (.leaf 1)))) (.ok ((xP a 384 447)&&true) (.br (uF a 384 447) (.ok true (.ok true (.ok true (.leaf 3)))) (.ok true (.ok true (.ok true (.leaf 0)))))))))
def a2H(a:Int):Int:=hid (a2G a).val
def bDC(a:Int):Bool:=hid (a2G a).okv
def q230:=CM (fun a=>xQ a (a2H a)) bDC
theorem cAN:cP 100230 q230:=hH fun a hk=>tz bYQ a2F [] [] true (a2G a) (xQ a) hk
def Q230:=bD 100230 q230 Q74
theorem aPZ:QO Q230:=aH cAN a2F
section
variable(b:Int)(c:Int)
def aKR:Int:=(a2H (cM (bE c b) 1))
end
def a2I(a:Int)(b:Int)(c:Int):Pt (Int):=(.ok true (.ok true (.br (bif (eqI b 2)then(eqI (nM c 2) 1)else false) (.ok true (.ok true (.ok true (.leaf 2)))) (.ok ((bDC c)&&((bDC (cM (bE c b) 1))&&true)) (.ok true (.br (bif (eqI (a2H c) 1)then true else(eqI (aKR b c) 1)) (.ok true (.ok true (.ok true (.leaf 1)))) (.ok true (.br (bif (eqI a 2)then(bif (eqI (a2H c) 3)then true else(eqI (aKR b c) 3))else false) (.ok true (.ok true (.ok true (.leaf 3)))) (.ok true (.ok true (.ok true (.leaf 0))))))))))))
def ND(a:Int)(b:Int)(c:Int):Int:=hid (a2I a b c).val
def bKR(a:Int)(b:Int)(c:Int):Bool:=hid (a2I a b c).okv
def aGD(a:Int)(b:Int)(c:Int)(r:Int):SV×List Blk:=((.one (li r)),[])
def q176:=DS5 (fun a b c=>aGD a b c (ND a b c)) bKR
theorem cAO:cP 100176 q176:=DI fun a b c hk=>tz bXF aPZ [] [] true (a2I a b c) (aGD a b c) hk
def Q176:=bD 100176 q176 Q230
theorem aP0:QO Q176:=aH cAO aPZ
def cAP(b:Int)(c:Int)(d:Int)(a:bM):List SV:=[(.one (.ptr 0 0 0)),(.one (li b)),(.one (li c)),(.one (li d))]
def cAQ(b:Int)(c:Int)(d:Int)(a:bM):List Blk:=[.box [.sl 1 0 (ln a.Bytes), .sl 2 0 (ln a.Log)], .lst 1 a.Bytes, .lst 5 a.Log]
def bKS(N:Int→Int→Int→bM→SV×List Blk)(K:Int→Int→Int→bM→Bool):List SV→List Blk→Option ((SV×List Blk)×Bool)
 |[(.one (.ptr 0 0 0)),(.one (li c0)),(.one (li c1)),(.one (li c2))],[.box [.sl 1 0 l1, .sl 2 0 l2], .lst 1 c_1, .lst 5 c_2]=>some (N c0 c1 c2 (bM.mk c_1 c_2),dZ l1 (ln c_1)&&(dZ l2 (ln c_2)&&(K c0 c1 c2 (bM.mk c_1 c_2))))
 |_,_=>none
theorem bKT{N:Int→Int→Int→bM→SV×List Blk}{K:Int→Int→Int→bM→Bool}{f:Nat}(h: ∀(b:Int)(c:Int)(d:Int)(a:bM),K b c d a=true→dQ R f (cAP b c d a) (cAQ b c d a)=some (N b c d a)):cP f (bKS N K):=fun args hp r e=>by
 unfold bKS at e;split at e
 ·rename_i c0 c1 c2 l1 l2 c_1 c_2;obtain⟨hr,hk⟩:=qp (qi e);obtain⟨d0,hk0⟩:=bI hk;obtain⟨d1,hk1⟩:=bI hk0;obtain rfl:=of_decide_eq_true d0;obtain rfl:=of_decide_eq_true d1;rw[←hr];exact h c0 c1 c2 (bM.mk c_1 c_2) hk1
 ·simp at e
section
variable(c:Int)(d:Int)(a:bM)
def aBO:Bool:=(((leI 0 c)&&(ltI c (bX a.Bytes)))&&(((blt (0+(iN c)) (ln a.Bytes))&&(j7 (j8 a.Bytes (0+(iN c))) 1))&&true))
def TM:List Row:=(List.set a.Bytes (0+(iN c)) (aY (fF d 8)))
def aBP:List Row:=(List.set (TM c d a) (0+(iN (bE c 1))) (aY (bF d 255)))
def aBQ:Bool:=((dZ (ln a.Bytes) (ln (aBP c d a)))&&((e1 (ln a.Log))&&true))
def aBR:List Row:=(List.set a.Bytes (0+(iN c)) (aY (bF d 255)))
def aBS:Bool:=((dZ (ln a.Bytes) (ln (aBR c d a)))&&((e1 (ln a.Log))&&true))
end
def a2J(b:Int)(c:Int)(d:Int)(a:bM):Pt (bM):=(.ok true (.br (eqI b 2) (.ok (aBO c a) (.ok true (.ok (((leI 0 (bE c 1))&&(ltI (bE c 1) (bX a.Bytes)))&&(((blt (0+(iN (bE c 1))) (ln (TM c d a)))&&(j7 (j8 (TM c d a) (0+(iN (bE c 1)))) 1))&&true)) (.ok ((((bN a true)&&(aBQ c d a))&&true)&&((aBQ c d a)&&true)) (.leaf {a with Bytes:=(aBP c d a)}))))) (.ok (aBO c a) (.ok ((((bN a true)&&(aBS c d a))&&true)&&((aBS c d a)&&true)) (.leaf {a with Bytes:=(aBR c d a)})))))
def KE(b:Int)(c:Int)(d:Int)(a:bM):bM:=hid (a2J b c d a).val
def bKU(b:Int)(c:Int)(d:Int)(a:bM):Bool:=hid (a2J b c d a).okv
def b10(b:Int)(c:Int)(d:Int)(a:bM)(r:bM):SV×List Blk:=((.tup []),[.box [.sl 1 0 (ln r.Bytes), .sl 2 0 (ln r.Log)], .lst 1 r.Bytes, .lst 5 r.Log])
def q205:=bKS (fun b c d a=>b10 b c d a (KE b c d a)) bKU
theorem cAR:cP 205 q205:=bKT fun b c d a hk=>tc bX3 aP0 [(13,K1),(17,K0),(23,K1),(27,K0),(1000001,[])] [] true (a2J b c d a) (b10 b c d a) hk
def Q205:=bD 205 q205 Q176
theorem aP1:QO Q205:=aH cAR aP0
def cAS(b:Int)(c:Int)(a:bM):List SV:=[(.one (.ptr 0 0 0)),(.one (li b)),(.one (li c))]
def cAT(b:Int)(c:Int)(a:bM):List Blk:=[.box [.sl 1 0 (ln a.Bytes), .sl 2 0 (ln a.Log)], .lst 1 a.Bytes, .lst 5 a.Log]
def bKV(N:Int→Int→bM→SV×List Blk)(K:Int→Int→bM→Bool):List SV→List Blk→Option ((SV×List Blk)×Bool)
 |[(.one (.ptr 0 0 0)),(.one (li c0)),(.one (li c1))],[.box [.sl 1 0 l1, .sl 2 0 l2], .lst 1 c_1, .lst 5 c_2]=>some (N c0 c1 (bM.mk c_1 c_2),dZ l1 (ln c_1)&&(dZ l2 (ln c_2)&&(K c0 c1 (bM.mk c_1 c_2))))
 |_,_=>none
theorem bKW{N:Int→Int→bM→SV×List Blk}{K:Int→Int→bM→Bool}{f:Nat}(h: ∀(b:Int)(c:Int)(a:bM),K b c a=true→dQ R f (cAS b c a) (cAT b c a)=some (N b c a)):cP f (bKV N K):=fun args hp r e=>by
 unfold bKV at e;split at e
 ·rename_i c0 c1 l1 l2 c_1 c_2;obtain⟨hr,hk⟩:=qp (qi e);obtain⟨d0,hk0⟩:=bI hk;obtain⟨d1,hk1⟩:=bI hk0;obtain rfl:=of_decide_eq_true d0;obtain rfl:=of_decide_eq_true d1;rw[←hr];exact h c0 c1 (bM.mk c_1 c_2) hk1
 ·simp at e
section
variable(c:Int)(a:bM)
def aBT:Bool:=(dV [.int .i64] a.Bytes (0+(iN c)) 0)
def aBU:Bool:=(((bN a true)&&(bN a true))&&true)
end
def a2K(b:Int)(c:Int)(a:bM):Pt (Int):=(.ok true (.ok true (.br (eqI b 1) (.ok (((leI 0 c)&&(ltI c (bX a.Bytes)))&&((aBT c a)&&true)) (.ok (aBU a) (.leaf (bR a.Bytes (0+(iN c)) 0)))) (.ok (((leI 0 c)&&(ltI c (bX a.Bytes)))&&((aBT c a)&&(((leI 0 (bE c 1))&&(ltI (bE c 1) (bX a.Bytes)))&&((dV [.int .i64] a.Bytes (0+(iN (bE c 1))) 0)&&true)))) (.ok (aBU a) (.leaf (fB (m9 (bR a.Bytes (0+(iN c)) 0) 8) (bR a.Bytes (0+(iN (bE c 1))) 0))))))))
def a2L(b:Int)(c:Int)(a:bM):Int:=hid (a2K b c a).val
def bKX(b:Int)(c:Int)(a:bM):Bool:=hid (a2K b c a).okv
def b11(b:Int)(c:Int)(a:bM)(r:Int):SV×List Blk:=((.one (li r)),[.box [.sl 1 0 (ln a.Bytes), .sl 2 0 (ln a.Log)], .lst 1 a.Bytes, .lst 5 a.Log])
def q177:=bKV (fun b c a=>b11 b c a (a2L b c a)) bKX
theorem cAU:cP 177 q177:=bKW fun b c a hk=>tc bXG aP1 [(12,K1),(14,K0),(15,K0),(19,K1),(21,K0),(22,K0),(27,K1),(30,K0),(31,K0)] [] true (a2K b c a) (b11 b c a) hk
def Q177:=bD 177 q177 Q205
theorem aP2:QO Q177:=aH cAU aP1
def cAV(b:Int)(c:Int)(d:Int)(o:Int)(a:bM):List SV:=[(.one (.ptr 0 0 0)),(.one (li b)),(.one (li c)),(.one (li d)),(.one (li o))]
def cAW(b:Int)(c:Int)(d:Int)(o:Int)(a:bM):List Blk:=[.box [.sl 1 0 (ln a.Bytes), .sl 2 0 (ln a.Log)], .lst 1 a.Bytes, .lst 5 a.Log]
def bDD(N:Int→Int→Int→Int→bM→SV×List Blk)(K:Int→Int→Int→Int→bM→Bool):List SV→List Blk→Option ((SV×List Blk)×Bool)
 |[(.one (.ptr 0 0 0)),(.one (li c0)),(.one (li c1)),(.one (li c2)),(.one (li c3))],[.box [.sl 1 0 l1, .sl 2 0 l2], .lst 1 c_1, .lst 5 c_2]=>some (N c0 c1 c2 c3 (bM.mk c_1 c_2),dZ l1 (ln c_1)&&(dZ l2 (ln c_2)&&(K c0 c1 c2 c3 (bM.mk c_1 c_2))))
 |_,_=>none
theorem a2M{N:Int→Int→Int→Int→bM→SV×List Blk}{K:Int→Int→Int→Int→bM→Bool}{f:Nat}(h: ∀(b:Int)(c:Int)(d:Int)(o:Int)(a:bM),K b c d o a=true→dQ R f (cAV b c d o a) (cAW b c d o a)=some (N b c d o a)):cP f (bDD N K):=fun args hp r e=>by
 unfold bDD at e;split at e
 ·rename_i c0 c1 c2 c3 l1 l2 c_1 c_2;obtain⟨hr,hk⟩:=qp (qi e);obtain⟨d0,hk0⟩:=bI hk;obtain⟨d1,hk1⟩:=bI hk0;obtain rfl:=of_decide_eq_true d0;obtain rfl:=of_decide_eq_true d1;rw[←hr];exact h c0 c1 c2 c3 (bM.mk c_1 c_2) hk1
 ·simp at e
section
variable(b:Int)(c:Int)(d:Int)(o:Int)(a:bM)
def TN:Bool:=((nX (0+(ln a.Log)) (ln a.Log))&&true)
def TO:Bool:=(!(bif (eqI b 3)then(eqI (ND b c d) 0)else false))
def TP:Bool:=(bif (ltI (bX a.Log) 400)then(TO b c d)else false)
def TQ:Bool:=(((e1 (ln a.Log))&&((dZ (0+(ln a.Log)) (ln a.Log))&&((nX (qY ((ln a.Log)+1) 40) 140737488355328)&&(nX ((ln a.Log)+1) 140737488355328))))&&true)
def TR:List Row:=(a.Log++[(aE.row (aE.mk b c d (bif (dD b 2)then 0 else o) (ND b c d)))])
def TS:Bool:=((e1 (ln a.Bytes))&&((e1 (ln (TR b c d o a)))&&true))
def TT:Bool:=(((bN a true)&&(bN a true))&&true)
def TU:Nat:=(0+(ln (KE c d o a).Log))
def TV:Nat:=((ln (KE c d o a).Log)+1)
def TW:List Row:=((KE c d o a).Log++[(aE.row (aE.mk b c d (bif (dD b 2)then 0 else o) (ND b c d)))])
def KF:Bool:=((e1 (ln (KE c d o a).Bytes))&&((e1 (ln (TW b c d o a)))&&true))
def KG:List Row:=(a.Log++[(aE.row (aE.mk b c d (a2L c d a) (ND b c d)))])
def KH:Bool:=((e1 (ln a.Bytes))&&((e1 (ln (KG b c d a)))&&true))
end
def aKS(b:Int)(c:Int)(d:Int)(o:Int)(a:bM):Pt (bM×Int×Int):=(.ok true (.ok ((bKR b c d)&&true) (.ok true (.ok true (.ok true (.ok true (.ok true (.br (dD (ND b c d) 0) (.ok (TN a) (.br (TP b c d a) (.ok (TQ a) (.ok true (.ok (((TS b c d o a)&&(TS b c d o a))&&true) (.leaf ({a with Log:=(TR b c d o a)},0,(ND b c d)))))) (.ok true (.ok (TT a) (.leaf (a,0,(ND b c d))))))) (.ok true (.br (eqI b 2) (.ok ((sF a (bKU c d o a))&&true) (.ok ((nX (TU c d o a) (ln (KE c d o a).Log))&&true) (.br (bif (ltI (bX (KE c d o a).Log) 400)then(TO b c d)else false) (.ok (((e1 (ln (KE c d o a).Log))&&((dZ (TU c d o a) (ln (KE c d o a).Log))&&((nX (qY (TV c d o a) 40) 140737488355328)&&(nX (TV c d o a) 140737488355328))))&&true) (.ok true (.ok (((KF b c d o a)&&(KF b c d o a))&&true) (.leaf ({(KE c d o a)with Log:=(TW b c d o a)},0,(ND b c d)))))) (.ok true (.ok (((bN (KE c d o a) true)&&(bN (KE c d o a) true))&&true) (.leaf ((KE c d o a),0,(ND b c d)))))))) (.ok ((sF a (bKX c d a))&&true) (.ok true (.ok (TN a) (.br (TP b c d a) (.ok (TQ a) (.ok true (.ok (((KH b c d a)&&(KH b c d a))&&true) (.leaf ({a with Log:=(KG b c d a)},(a2L c d a),(ND b c d)))))) (.ok true (.ok (TT a) (.leaf (a,(a2L c d a),(ND b c d)))))))))))))))))))
def KI(b:Int)(c:Int)(d:Int)(o:Int)(a:bM):bM×Int×Int:=hid (aKS b c d o a).val
def H7(b:Int)(c:Int)(d:Int)(o:Int)(a:bM):Bool:=hid (aKS b c d o a).okv
def bDE(b:Int)(c:Int)(d:Int)(o:Int)(a:bM)(r:bM×Int×Int):SV×List Blk:=((.tup [(.one (li r.2.1)),(.one (li r.2.2))]),[.box [.sl 1 0 (ln r.1.Bytes), .sl 2 0 (ln r.1.Log)], .lst 1 r.1.Bytes, .lst 5 r.1.Log])
def q153:=bDD (fun b c d o a=>bDE b c d o a (KI b c d o a)) H7
theorem cAX:cP 153 q153:=a2M fun b c d o a hk=>tc bWW aP2 [(41,K10),(57,K10)] [] true (aKS b c d o a) (bDE b c d o a) hk
def Q153:=bD 153 q153 Q177
theorem aP3:QO Q153:=aH cAX aP2
def a2N(a:Int):Pt (Int):=(.ok true (.ok true (.br (eqI a 2) (.ok true (.ok true (.ok true (.leaf 3)))) (.ok true (.ok true (.ok true (.leaf 2)))))))
def aWK(a:Int):Int:=hid (a2N a).val
def a2O(a:Int):Bool:=hid (a2N a).okv
def q232:=CM (fun a=>xQ a (aWK a)) a2O
theorem cAY:cP 100232 q232:=hH fun a hk=>tz bYS aP3 [] [] true (a2N a) (xQ a) hk
def Q232:=bD 100232 q232 Q153
theorem aP4:QO Q232:=aH cAY aP3
def a2P(a:Int):Pt (Bool):=(.ok true (.ok true (.ok true (.ok true (.leaf (bif (bif (eqI a 5)then true else(eqI a 6))then true else(eqI a 7)))))))
def a2Q(a:Int):Bool:=hid (a2P a).val
def a2R(a:Int):Bool:=hid (a2P a).okv
def q241:=CM (fun a=>j9 a (a2Q a)) a2R
theorem cAZ:cP 100241 q241:=hH fun a hk=>tz bY1 aP4 [] [] true (a2P a) (j9 a) hk
def Q241:=bD 100241 q241 Q232
theorem aP5:QO Q241:=aH cAZ aP4
def aBV(a:Bool)(b:Int):Pt (Int):=(.ok true (.ok true (.br a (.ok true (.ok true (.ok true (.leaf b)))) (.ok true (.ok true (.ok true (.leaf 0)))))))
def yZ(a:Bool)(b:Int):Int:=hid (aBV a b).val
def zA(a:Bool)(b:Int):Bool:=hid (aBV a b).okv
def q178:=DS4 (fun a b=>bA4 a b (yZ a b)) zA
theorem cA0:cP 100178 q178:=bHY fun a b hk=>tz bXH aP5 [] [] true (aBV a b) (bA4 a b) hk
def Q178:=bD 100178 q178 Q241
theorem aP6:QO Q178:=aH cA0 aP5
section
variable(a:Int)
def aKT:Bool:=(a2Q (bF (fF a 5) 7))
end
def a2S(a:Int):Pt (Int):=(.ok true (.ok ((a2R (bF (fF a 5) 7))&&((zA (aKT a) 1)&&true)) (.ok true (.ok true (.leaf (bE 1 (yZ (aKT a) 1)))))))
def aWL(a:Int):Int:=hid (a2S a).val
def a2T(a:Int):Bool:=hid (a2S a).okv
def q233:=CM (fun a=>xQ a (aWL a)) a2T
theorem cA1:cP 100233 q233:=hH fun a hk=>tz bYT aP6 [] [] true (a2S a) (xQ a) hk
def Q233:=bD 100233 q233 Q178
theorem aP7:QO Q233:=aH cA1 aP6
def a2U(a:Int)(b:Int):Pt (aS):=(.ok true (.ok true (.ok true (.ok ((a2T a)&&true) (.br (eqI (aWL a) 2) (.ok true (.ok true (.ok true (.ok true (.leaf (aS.mk (fF a 11) (bE (bF (fF a 10) 1) 1) (bF (fF a 8) 3) (aF.mk (bF (fF a 5) 7) (bF (fF a 3) 3) b) (bF a 7))))))) (.ok true (.ok true (.ok true (.leaf (aS.mk (fF a 11) (bE (bF (fF a 10) 1) 1) (bF (fF a 8) 3) (aF.mk (bF (fF a 5) 7) (bF (fF a 3) 3) 0) (bF a 7)))))))))))
def aWM(a:Int)(b:Int):aS:=hid (a2U a b).val
def bDF(a:Int)(b:Int):Bool:=hid (a2U a b).okv
def bDG(a:Int)(b:Int)(r:aS):SV×List Blk:=((.agg [li r.Op,li r.Size,li r.Reg,li r.Ea.Mode,li r.Ea.Reg,li r.Ea.Ext,li r.Sub]),[])
def q234:=KC (fun a b=>bDG a b (aWM a b)) bDF
theorem cA2:cP 100234 q234:=uG fun a b hk=>tz bYU aP7 [(32,K5)] [] true (a2U a b) (bDG a b) hk
def Q234:=bD 100234 q234 Q233
theorem aP8:QO Q234:=aH cA2 aP7
section
variable(a:aF)
def aKU:Bool:=(bif (!(uF a.Mode 0 7))then true else(!(g73 a.Ext)))
end
def a2V(a:aF):Pt (Bool):=(.ok true (.ok ((xP a.Mode 0 7)&&((((k73 a.Ext)&&true)||(!(uF a.Mode 0 7)))&&((((a2R a.Mode)&&true)||(aKU a))&&true))) (.br (bif (aKU a)then true else(bif (!(a2Q a.Mode))then(dD a.Ext 0)else false)) (.ok true (.ok true (.ok true (.leaf false)))) (.ok ((xP a.Reg 0 3)&&true) (.ok true (.ok true (.leaf (bif (uF a.Reg 0 3)then(bif (eqI a.Reg 0)then true else(ltI a.Mode 6))else false))))))))
def bKY(a:aF):Bool:=hid (a2V a).val
def bKZ(a:aF):Bool:=hid (a2V a).okv
def q188:=DS6 (fun a=>WV a (bKY a)) bKZ
theorem cA3:cP 100188 q188:=aF6 fun a hk=>tz bXR aP8 [(4,K0),(9,K0),(15,K0),(20,K0),(25,K0),(29,K0),(33,K0)] [] true (a2V a) (WV a) hk
def Q188:=bD 100188 q188 Q234
theorem aP9:QO Q188:=aH cA3 aP8
def a2W(a:Int):Pt (Bool):=(.ok true (.ok ((xP a 2 6)&&true) (.ok true (.ok true (.leaf (uF a 2 6))))))
def bK0(a:Int):Bool:=hid (a2W a).val
def bK1(a:Int):Bool:=hid (a2W a).okv
def q199:=CM (fun a=>j9 a (bK0 a)) bK1
theorem cA4:cP 100199 q199:=hH fun a hk=>tz bX0 aP9 [] [] true (a2W a) (j9 a) hk
def Q199:=bD 100199 q199 Q188
theorem aQA:QO Q199:=aH cA4 aP9
def a2X(a:Int):Pt (Bool):=(.ok true (.ok ((((bK1 a)&&true)||(eqI a 0))&&true) (.ok true (.ok true (.leaf (bif (eqI a 0)then true else(bK0 a)))))))
def bDH(a:Int):Bool:=hid (a2X a).val
def bDI(a:Int):Bool:=hid (a2X a).okv
def q242:=CM (fun a=>j9 a (bDH a)) bDI
theorem cA5:cP 100242 q242:=hH fun a hk=>tz bY2 aQA [] [] true (a2X a) (j9 a) hk
def Q242:=bD 100242 q242 Q199
theorem aQB:QO Q242:=aH cA5 aQA
def a2Y(a:Int):Pt (Bool):=(.ok true (.ok true (.ok true (.ok true (.leaf (bif (bif (eqI a 2)then true else(eqI a 5))then true else(eqI a 6)))))))
def bDJ(a:Int):Bool:=hid (a2Y a).val
def bDK(a:Int):Bool:=hid (a2Y a).okv
def q243:=CM (fun a=>j9 a (bDJ a)) bDK
theorem cA6:cP 100243 q243:=hH fun a hk=>tz bY3 aQB [] [] true (a2Y a) (j9 a) hk
def Q243:=bD 100243 q243 Q242
theorem aQC:QO Q243:=aH cA6 aQB
def a2Z(a:aF):Pt (Bool):=(.ok true (.ok true (.ok true (.ok true (.leaf (bif (eqI a.Mode 7)then(leI a.Ext 1023)else false))))))
def bDL(a:aF):Bool:=hid (a2Z a).val
def bDM(a:aF):Bool:=hid (a2Z a).okv
def q245:=DS6 (fun a=>WV a (bDL a)) bDM
theorem cA7:cP 100245 q245:=aF6 fun a hk=>tz bY5 aQC [(4,K0),(8,K0)] [] true (a2Z a) (WV a) hk
def Q245:=bD 100245 q245 Q243
theorem aQD:QO Q245:=aH cA7 aQC
def a20(a:aS):Pt (Bool):=(.ok true (.ok true (.br (bif (dD a.Size 2)then true else(pG a.Sub 6)) (.ok true (.ok true (.ok true (.leaf false)))) (.ok true (.br (eqI a.Sub 3) (.ok ((((bDM a.Ea)&&true)||(!(eqI a.Reg 0)))&&true) (.ok true (.ok true (.leaf (bif (eqI a.Reg 0)then(bDL a.Ea)else false))))) (.ok true (.br (bif (ltI a.Sub 3)then(dD a.Reg 0)else false) (.ok true (.ok true (.ok true (.leaf false)))) (.ok true (.ok true (.ok true (.leaf ((eqI a.Ea.Mode 0)&&((eqI a.Ea.Reg 0)&&((eqI a.Ea.Ext 0)&&true))))))))))))))
def bK2(a:aS):Bool:=hid (a20 a).val
def bK3(a:aS):Bool:=hid (a20 a).okv
def q244:=DS7 (fun a=>PQ a (bK2 a)) bK3
theorem cA8:cP 100244 q244:=O6 fun a hk=>tz bY4 aQD [(5,K0),(9,K0),(14,K0),(17,K0),(21,K4),(26,K0),(30,K0),(34,K4)] [] true (a20 a) (PQ a) hk
def Q244:=bD 100244 q244 Q245
theorem aQE:QO Q244:=aH cA8 aQD
section
variable(a:aS)
def TX:Bool:=(bif (eqI a.Size 2)then(eqI a.Sub 0)else false)
def aKV:Bool:=(bif (eqI a.Reg 0)then(leI a.Sub 3)else false)
def aKW:Bool:=(bif (bif (eqI a.Size 2)then(eqI a.Reg 0)else false)then(leI a.Sub 1)else false)
def aKX:Bool:=(bif (eqI a.Sub 0)then(eqI a.Reg 0)else false)
end
def a21(a:aS):Pt (Bool):=(.ok true (.ok true (.ok true (.ok true (.ok true (.ok true (.br (bif (eqI a.Op 1)then(eqI a.Op 1)else(bif (eqI a.Op 3)then(eqI a.Op 3)else(bif (eqI a.Op 4)then(eqI a.Op 4)else(bif (eqI a.Op 5)then(eqI a.Op 5)else(bif (eqI a.Op 6)then(eqI a.Op 6)else(bif (eqI a.Op 7)then(eqI a.Op 7)else(eqI a.Op 8))))))) (.ok true (.ok true (.ok true (.leaf (bif (eqI a.Sub 0)then(bif (dD a.Ea.Mode 1)then true else(eqI a.Size 2))else false))))) (.ok true (.br (eqI a.Op 2) (.ok ((((bDI a.Ea.Mode)&&true)||(!(eqI a.Sub 0)))&&true) (.ok true (.ok true (.leaf (bif (eqI a.Sub 0)then(bDH a.Ea.Mode)else false))))) (.ok true (.br (eqI a.Op 9) (.ok true (.ok true (.ok true (.leaf (TX a))))) (.ok true (.br (eqI a.Op 10) (.ok ((((bDK a.Ea.Mode)&&true)||(!(TX a)))&&true) (.ok true (.ok true (.leaf (bif (TX a)then(bDJ a.Ea.Mode)else false))))) (.ok true (.br (eqI a.Op 11) (.ok ((((bDI a.Ea.Mode)&&true)||(!(aKV a)))&&true) (.ok true (.ok true (.leaf (bif (aKV a)then(bDH a.Ea.Mode)else false))))) (.ok true (.br (eqI a.Op 12) (.ok true (.ok true (.ok true (.leaf (eqI a.Ea.Mode 0))))) (.ok true (.br (eqI a.Op 13) (.ok true (.ok true (.ok true (.leaf (bif (bif (eqI a.Size 2)then(leI a.Reg 1)else false)then(eqI a.Ea.Mode 7)else false))))) (.ok true (.br (eqI a.Op 14) (.ok ((((bDK a.Ea.Mode)&&true)||(!(aKW a)))&&true) (.ok true (.ok true (.leaf (bif (aKW a)then(bDJ a.Ea.Mode)else false))))) (.ok true (.br (eqI a.Op 15) (.ok ((bK3 a)&&true) (.ok true (.ok true (.leaf (bK2 a))))) (.ok true (.ok true (.br (bif (eqI a.Op 16)then(eqI a.Op 16)else(eqI a.Op 17)) (.ok true (.ok true (.ok true (.leaf (bif (TX a)then(dD a.Ea.Mode 1)else false))))) (.ok true (.br (eqI a.Op 18) (.ok true (.ok true (.ok true (.leaf (bif (bif (!(eqI a.Size 2))then(leI a.Sub 1)else false)then(eqI a.Ea.Mode 0)else false))))) (.ok true (.br (eqI a.Op 19) (.ok ((((((bDM a.Ea)&&true)||(!(aKX a)))&&true)||(!(eqI a.Size 2)))&&true) (.ok true (.ok true (.leaf (bif (eqI a.Size 2)then(bif (bif (aKX a)then(bDL a.Ea)else false)then true else(bif (eqI a.Sub 1)then((eqI a.Ea.Mode 0)&&((eqI a.Ea.Reg 0)&&((eqI a.Ea.Ext 0)&&true)))else false))else false))))) (.ok true (.ok true (.ok true (.leaf false))))))))))))))))))))))))))))))))))
def bK4(a:aS):Bool:=hid (a21 a).val
def bK5(a:aS):Bool:=hid (a21 a).okv
def q189:=DS7 (fun a=>PQ a (bK4 a)) bK5
theorem cA9:cP 100189 q189:=O6 fun a hk=>tz bXS aQE [(7,K0),(9,K0),(12,K0),(22,K0),(34,K0),(45,K0),(53,K0),(63,K0),(67,K0),(83,K0),(95,K0),(100,K0),(109,K5),(117,K0),(130,K0),(142,K0),(146,K0),(151,K4),(156,K0),(160,K4)] [] true (a21 a) (PQ a) hk
def Q189:=bD 100189 q189 Q244
theorem aQF:QO Q189:=aH cA9 aQE
section
variable(a:aS)
def aKY:Bool:=(bif (aGC a.Size)then(uF a.Reg 0 3)else false)
def aKZ:Bool:=(bif (aKY a)then(uF a.Sub 0 7)else false)
def aK0:Bool:=(bif (bif (aKZ a)then(bKY a.Ea)else false)then(!(bif (bif (eqI a.Ea.Mode 7)then(eqI a.Size 1)else false)then(pG a.Ea.Ext 255)else false))else false)
end
def a22(a:aS):Pt (Bool):=(.ok true (.ok ((aWH a.Size)&&((((xP a.Reg 0 3)&&true)||(!(aGC a.Size)))&&((((xP a.Sub 0 7)&&true)||(!(aKY a)))&&((((bKZ a.Ea)&&true)||(!(aKZ a)))&&((((bK5 a)&&true)||(!(aK0 a)))&&true))))) (.ok true (.ok true (.leaf (bif (aK0 a)then(bK4 a)else false))))))
def a23(a:aS):Bool:=hid (a22 a).val
def a24(a:aS):Bool:=hid (a22 a).okv
def q124:=DS7 (fun a=>PQ a (a23 a)) a24
theorem cBA:cP 100124 q124:=O6 fun a hk=>tz bWQ aQF [(4,K0),(8,K0),(13,K0),(18,K4),(24,K0),(28,K0),(34,K0),(40,K5)] [] true (a22 a) (PQ a) hk
def Q124:=bD 100124 q124 Q189
theorem aQG:QO Q124:=aH cBA aQF
def cBB(a:aG):List SV:=[(.one (.ptr 0 0 0))]
def cBC(a:aG):List Blk:=[.box [.sl 1 0 (ln a.R.D), .sl 2 0 (ln a.R.A),li a.R.Other,li a.R.PC,li a.R.Flags,li a.R.Mask, .lit (.bool a.R.Super), .lit (.bool a.R.Trace), .sl 3 0 (ln a.Bus.Bytes), .sl 4 0 (ln a.Bus.Log), .lit (.bool a.Stop), .lit (.bool a.Halt)], .lst 1 a.R.D, .lst 1 a.R.A, .lst 1 a.Bus.Bytes, .lst 5 a.Bus.Log]
def aWN(N:aG→SV×List Blk)(K:aG→Bool):List SV→List Blk→Option ((SV×List Blk)×Bool)
 |[(.one (.ptr 0 0 0))],[.box [.sl 1 0 l1, .sl 2 0 l2,li c0,li c1,li c2,li c3, .lit (.bool c4), .lit (.bool c5), .sl 3 0 l3, .sl 4 0 l4, .lit (.bool c6), .lit (.bool c7)], .lst 1 c_1, .lst 1 c_2, .lst 1 c_3, .lst 5 c_4]=>some (N (aG.mk (aJ.mk c_1 c_2 c0 c1 c2 c3 c4 c5) (bM.mk c_3 c_4) c6 c7),dZ l1 (ln c_1)&&(dZ l2 (ln c_2)&&(dZ l3 (ln c_3)&&(dZ l4 (ln c_4)&&(K (aG.mk (aJ.mk c_1 c_2 c0 c1 c2 c3 c4 c5) (bM.mk c_3 c_4) c6 c7))))))
 |_,_=>none
theorem aBW{N:aG→SV×List Blk}{K:aG→Bool}{f:Nat}(h: ∀(a:aG),K a=true→dQ R f (cBB a) (cBC a)=some (N a)):cP f (aWN N K):=fun args hp r e=>by
 unfold aWN at e;split at e
 ·rename_i l1 l2 c0 c1 c2 c3 c4 c5 l3 l4 c6 c7 c_1 c_2 c_3 c_4;obtain⟨hr,hk⟩:=qp (qi e);obtain⟨d0,hk0⟩:=bI hk;obtain⟨d1,hk1⟩:=bI hk0;obtain⟨d2,hk2⟩:=bI hk1;obtain⟨d3,hk3⟩:=bI hk2;obtain rfl:=of_decide_eq_true d0;obtain rfl:=of_decide_eq_true d1;obtain rfl:=of_decide_eq_true d2;obtain rfl:=of_decide_eq_true d3;rw[←hr];exact h (aG.mk (aJ.mk c_1 c_2 c0 c1 c2 c3 c4 c5) (bM.mk c_3 c_4) c6 c7) hk3
 ·simp at e
section
variable(a:aG)
def fG:bM×Int×Int:=(KI 3 2 a.R.PC 0 a.Bus)
def uH:Bool:=(aO a.R (bN (fG a).1 true))
def pW:bM×Int×Int:=(KI 3 2 (bF (bE a.R.PC 2) 65535) 0 (fG a).1)
def uI:Bool:=(aO a.R (bN (pW a).1 true))
def BW:aS:=(aWM (fG a).2.1 (pW a).2.1)
def DX:Bool:=(((a2T (fG a).2.1)&&true)&&true)
end
def H8(a:aG):Pt (aG×aS×Int×Int×aL):=(.ok true (.ok true (.ok ((sF a.Bus (H7 3 2 a.R.PC 0 a.Bus))&&true) (.ok true (.br (dD (fG a).2.2 0) (.ok ((a2O (fG a).2.2)&&true) (.ok (((uH a)&&(uH a))&&true) (.leaf ({a with Bus:=(fG a).1},(aS.mk 0 0 0 (aF.mk 0 0 0) 0),0,0,(aL.mk (aWK (fG a).2.2) a.R.PC a.R.PC 0 false))))) (.ok true (.ok ((a2T (fG a).2.1)&&true) (.br (eqI (aWL (fG a).2.1) 2) (.ok true (.ok ((sF (fG a).1 (H7 3 2 (bF (bE a.R.PC 2) 65535) 0 (fG a).1))&&true) (.ok true (.br (dD (pW a).2.2 0) (.ok ((a2O (pW a).2.2)&&true) (.ok (((uI a)&&(uI a))&&true) (.leaf ({a with Bus:=(pW a).1},(aS.mk 0 0 0 (aF.mk 0 0 0) 0),0,0,(aL.mk (aWK (pW a).2.2) a.R.PC (bF (bE a.R.PC 2) 65535) (fG a).2.1 false))))) (.ok ((bDF (fG a).2.1 (pW a).2.1)&&true) (.ok ((a24 (BW a))&&true) (.br (!(a23 (BW a))) (.ok true (.ok (((uI a)&&(uI a))&&true) (.leaf ({a with Bus:=(pW a).1},(aS.mk 0 0 0 (aF.mk 0 0 0) 0),0,0,(aL.mk 4 a.R.PC 0 (fG a).2.1 false))))) (.ok (DX a) (.ok (((uI a)&&(uI a))&&true) (.leaf ({a with Bus:=(pW a).1},(BW a),(aWL (fG a).2.1),(fG a).2.1,(aL.mk 0 0 0 0 false)))))))))))) (.ok ((bDF (fG a).2.1 0)&&true) (.ok ((a24 (aWM (fG a).2.1 0))&&true) (.br (!(a23 (aWM (fG a).2.1 0))) (.ok true (.ok (((uH a)&&(uH a))&&true) (.leaf ({a with Bus:=(fG a).1},(aS.mk 0 0 0 (aF.mk 0 0 0) 0),0,0,(aL.mk 4 a.R.PC 0 (fG a).2.1 false))))) (.ok (DX a) (.ok (((uH a)&&(uH a))&&true) (.leaf ({a with Bus:=(fG a).1},(aWM (fG a).2.1 0),(aWL (fG a).2.1),(fG a).2.1,(aL.mk 0 0 0 0 false))))))))))))))))
def KJ(a:aG):aG×aS×Int×Int×aL:=hid (H8 a).val
def bK6(a:aG):Bool:=hid (H8 a).okv
def b12(a:aG)(r:aG×aS×Int×Int×aL):SV×List Blk:=((.tup [(.agg [li r.2.1.Op,li r.2.1.Size,li r.2.1.Reg,li r.2.1.Ea.Mode,li r.2.1.Ea.Reg,li r.2.1.Ea.Ext,li r.2.1.Sub]),(.one (li r.2.2.1)),(.one (li r.2.2.2.1)),(.agg [li r.2.2.2.2.Vector,li r.2.2.2.2.PC,li r.2.2.2.2.Addr,li r.2.2.2.2.Word, .lit (.bool r.2.2.2.2.Write)])]),[.box [.sl 1 0 (ln r.1.R.D), .sl 2 0 (ln r.1.R.A),li r.1.R.Other,li r.1.R.PC,li r.1.R.Flags,li r.1.R.Mask, .lit (.bool r.1.R.Super), .lit (.bool r.1.R.Trace), .sl 3 0 (ln r.1.Bus.Bytes), .sl 4 0 (ln r.1.Bus.Log), .lit (.bool r.1.Stop), .lit (.bool r.1.Halt)], .lst 1 r.1.R.D, .lst 1 r.1.R.A, .lst 1 r.1.Bus.Bytes, .lst 5 r.1.Bus.Log])
def q182:=aWN (fun a=>b12 a (KJ a)) bK6
theorem cBD:cP 182 q182:=aBW fun a hk=>tc bXL aQG [(16,K0),(59,K5),(66,K5)] [] true (H8 a) (b12 a) hk
def Q182:=bD 182 q182 Q124
theorem aQH:QO Q182:=aH cBD aQG
def a25(a:aS):Pt (List Row):=(.ok true (.ok true (.ok ((a2R a.Ea.Mode)&&true) (.br (a2Q a.Ea.Mode) (.ok true (.ok true (.ok true (.leaf [(aY (bE (bE (bE (bE (bE (dE a.Op 2048) (dE (cM a.Size 1) 1024)) (dE a.Reg 256)) (dE a.Ea.Mode 32)) (dE a.Ea.Reg 8)) a.Sub)),(aY a.Ea.Ext)])))) (.ok true (.ok true (.leaf [(aY (bE (bE (bE (bE (bE (dE a.Op 2048) (dE (cM a.Size 1) 1024)) (dE a.Reg 256)) (dE a.Ea.Mode 32)) (dE a.Ea.Reg 8)) a.Sub))])))))))
def TY(a:aS):List Row:=hid (a25 a).val
def bDN(a:aS):Bool:=hid (a25 a).okv
def q235:=DS7 (fun a=>bBN a (TY a)) bDN
theorem cBE:cP 235 q235:=O6 fun a hk=>tc bYV aQH [(5,K0),(8,K0),(13,K0),(18,K0),(23,K0),(27,K0),(32,K0),(37,K0)] [] true (a25 a) (bBN a) hk
def Q235:=bD 235 q235 Q182
theorem aQI:QO Q235:=aH cBE aQH
def a26(a:aS):Pt (Bool):=(.ok true (.ok true (.ok true (.ok true (.leaf (bif (bif (eqI a.Op 15)then(bif (eqI a.Sub 1)then true else(eqI a.Sub 3))else false)then true else(bif (eqI a.Op 19)then(eqI a.Sub 0)else false)))))))
def bK7(a:aS):Bool:=hid (a26 a).val
def bK8(a:aS):Bool:=hid (a26 a).okv
def q236:=DS7 (fun a=>PQ a (bK7 a)) bK8
theorem cBF:cP 100236 q236:=O6 fun a hk=>tz bYW aQI [(4,K0),(8,K0),(12,K0),(18,K0),(22,K0)] [] true (a26 a) (PQ a) hk
def Q236:=bD 100236 q236 Q235
theorem aQJ:QO Q236:=aH cBF aQI
def cBG(b:Int)(c:Int)(a:bJ)(x0_fc:aG):List SV:=[(.one (.ptr 0 0 0)),(.one (li b)),(.one (li c))]
def cBH(b:Int)(c:Int)(a:bJ)(x0_fc:aG):List Blk:=[.box [.ptr 1 0 0,li a.fx.Op,li a.fx.Size,li a.fx.Reg,li a.fx.Ea.Mode,li a.fx.Ea.Reg,li a.fx.Ea.Ext,li a.fx.Sub,li a.fpc,li a.fword,li a.ffault.Vector,li a.ffault.PC,li a.ffault.Addr,li a.ffault.Word, .lit (.bool a.ffault.Write)], .box [.sl 2 0 (ln x0_fc.R.D), .sl 3 0 (ln x0_fc.R.A),li x0_fc.R.Other,li x0_fc.R.PC,li x0_fc.R.Flags,li x0_fc.R.Mask, .lit (.bool x0_fc.R.Super), .lit (.bool x0_fc.R.Trace), .sl 4 0 (ln x0_fc.Bus.Bytes), .sl 5 0 (ln x0_fc.Bus.Log), .lit (.bool x0_fc.Stop), .lit (.bool x0_fc.Halt)], .lst 1 x0_fc.R.D, .lst 1 x0_fc.R.A, .lst 1 x0_fc.Bus.Bytes, .lst 5 x0_fc.Bus.Log]
def a27(N:Int→Int→bJ→aG→SV×List Blk)(K:Int→Int→bJ→aG→Bool):List SV→List Blk→Option ((SV×List Blk)×Bool)
 |[(.one (.ptr 0 0 0)),(.one (li c0)),(.one (li c1))],[.box [.ptr 1 0 0,li c2,li c3,li c4,li c5,li c6,li c7,li c8,li c9,li c10,li c11,li c12,li c13,li c14, .lit (.bool c15)], .box [.sl 2 0 l2, .sl 3 0 l3,li c16,li c17,li c18,li c19, .lit (.bool c20), .lit (.bool c21), .sl 4 0 l4, .sl 5 0 l5, .lit (.bool c22), .lit (.bool c23)], .lst 1 c_2, .lst 1 c_3, .lst 1 c_4, .lst 5 c_5]=>some (N c0 c1 (bJ.mk (aS.mk c2 c3 c4 (aF.mk c5 c6 c7) c8) c9 c10 (aL.mk c11 c12 c13 c14 c15)) (aG.mk (aJ.mk c_2 c_3 c16 c17 c18 c19 c20 c21) (bM.mk c_4 c_5) c22 c23),dZ l2 (ln c_2)&&(dZ l3 (ln c_3)&&(dZ l4 (ln c_4)&&(dZ l5 (ln c_5)&&(K c0 c1 (bJ.mk (aS.mk c2 c3 c4 (aF.mk c5 c6 c7) c8) c9 c10 (aL.mk c11 c12 c13 c14 c15)) (aG.mk (aJ.mk c_2 c_3 c16 c17 c18 c19 c20 c21) (bM.mk c_4 c_5) c22 c23))))))
 |_,_=>none
theorem aK1{N:Int→Int→bJ→aG→SV×List Blk}{K:Int→Int→bJ→aG→Bool}{f:Nat}(h: ∀(b:Int)(c:Int)(a:bJ)(x0_fc:aG),K b c a x0_fc=true→dQ R f (cBG b c a x0_fc) (cBH b c a x0_fc)=some (N b c a x0_fc)):cP f (a27 N K):=fun args hp r e=>by
 unfold a27 at e;split at e
 ·rename_i c0 c1 c2 c3 c4 c5 c6 c7 c8 c9 c10 c11 c12 c13 c14 c15 l2 l3 c16 c17 c18 c19 c20 c21 l4 l5 c22 c23 c_2 c_3 c_4 c_5;obtain⟨hr,hk⟩:=qp (qi e);obtain⟨d0,hk0⟩:=bI hk;obtain⟨d1,hk1⟩:=bI hk0;obtain⟨d2,hk2⟩:=bI hk1;obtain⟨d3,hk3⟩:=bI hk2;obtain rfl:=of_decide_eq_true d0;obtain rfl:=of_decide_eq_true d1;obtain rfl:=of_decide_eq_true d2;obtain rfl:=of_decide_eq_true d3;rw[←hr];exact h c0 c1 (bJ.mk (aS.mk c2 c3 c4 (aF.mk c5 c6 c7) c8) c9 c10 (aL.mk c11 c12 c13 c14 c15)) (aG.mk (aJ.mk c_2 c_3 c16 c17 c18 c19 c20 c21) (bM.mk c_4 c_5) c22 c23) hk3
 ·simp at e
section
variable(x0_fc:aG)
def aK2:Bool:=(((aM x0_fc true)&&(aM x0_fc true))&&true)
end
def a28(b:Int)(c:Int)(a:bJ)(x0_fc:aG):Pt (bJ):=(.ok true (.br (eqI a.ffault.Vector 0) (.ok true (.ok (aK2 x0_fc) (.leaf {a with ffault:=(aL.mk b c 0 a.fword false)}))) (.ok (aK2 x0_fc) (.leaf a))))
def aK3(b:Int)(c:Int)(a:bJ)(x0_fc:aG):bJ:=hid (a28 b c a x0_fc).val
def aK4(b:Int)(c:Int)(a:bJ)(x0_fc:aG):Bool:=hid (a28 b c a x0_fc).okv
def b13(b:Int)(c:Int)(a:bJ)(x0_fc:aG)(r:bJ):SV×List Blk:=((.tup []),[.box [.ptr 1 0 0,li r.fx.Op,li r.fx.Size,li r.fx.Reg,li r.fx.Ea.Mode,li r.fx.Ea.Reg,li r.fx.Ea.Ext,li r.fx.Sub,li r.fpc,li r.fword,li r.ffault.Vector,li r.ffault.PC,li r.ffault.Addr,li r.ffault.Word, .lit (.bool r.ffault.Write)], .box [.sl 2 0 (ln x0_fc.R.D), .sl 3 0 (ln x0_fc.R.A),li x0_fc.R.Other,li x0_fc.R.PC,li x0_fc.R.Flags,li x0_fc.R.Mask, .lit (.bool x0_fc.R.Super), .lit (.bool x0_fc.R.Trace), .sl 4 0 (ln x0_fc.Bus.Bytes), .sl 5 0 (ln x0_fc.Bus.Log), .lit (.bool x0_fc.Stop), .lit (.bool x0_fc.Halt)], .lst 1 x0_fc.R.D, .lst 1 x0_fc.R.A, .lst 1 x0_fc.Bus.Bytes, .lst 5 x0_fc.Bus.Log])
def q237:=a27 (fun b c a x0_fc=>b13 b c a x0_fc (aK3 b c a x0_fc)) aK4
theorem cBI:cP 50237 q237:=aK1 fun b c a x0_fc hk=>tck bYX aQJ [(10,K0),(18,K0)] [] true (a28 b c a x0_fc) (b13 b c a x0_fc) hk
def Q237:=bD 50237 q237 Q236
theorem aQK:QO Q237:=aH cBI aQJ
def cBJ(a:bJ)(x0_fc:aG):List SV:=[(.one (.ptr 0 0 0))]
def cBK(a:bJ)(x0_fc:aG):List Blk:=[.box [.ptr 1 0 0,li a.fx.Op,li a.fx.Size,li a.fx.Reg,li a.fx.Ea.Mode,li a.fx.Ea.Reg,li a.fx.Ea.Ext,li a.fx.Sub,li a.fpc,li a.fword,li a.ffault.Vector,li a.ffault.PC,li a.ffault.Addr,li a.ffault.Word, .lit (.bool a.ffault.Write)], .box [.sl 2 0 (ln x0_fc.R.D), .sl 3 0 (ln x0_fc.R.A),li x0_fc.R.Other,li x0_fc.R.PC,li x0_fc.R.Flags,li x0_fc.R.Mask, .lit (.bool x0_fc.R.Super), .lit (.bool x0_fc.R.Trace), .sl 4 0 (ln x0_fc.Bus.Bytes), .sl 5 0 (ln x0_fc.Bus.Log), .lit (.bool x0_fc.Stop), .lit (.bool x0_fc.Halt)], .lst 1 x0_fc.R.D, .lst 1 x0_fc.R.A, .lst 1 x0_fc.Bus.Bytes, .lst 5 x0_fc.Bus.Log]
def NE(N:bJ→aG→SV×List Blk)(K:bJ→aG→Bool):List SV→List Blk→Option ((SV×List Blk)×Bool)
 |[(.one (.ptr 0 0 0))],[.box [.ptr 1 0 0,li c0,li c1,li c2,li c3,li c4,li c5,li c6,li c7,li c8,li c9,li c10,li c11,li c12, .lit (.bool c13)], .box [.sl 2 0 l2, .sl 3 0 l3,li c14,li c15,li c16,li c17, .lit (.bool c18), .lit (.bool c19), .sl 4 0 l4, .sl 5 0 l5, .lit (.bool c20), .lit (.bool c21)], .lst 1 c_2, .lst 1 c_3, .lst 1 c_4, .lst 5 c_5]=>some (N (bJ.mk (aS.mk c0 c1 c2 (aF.mk c3 c4 c5) c6) c7 c8 (aL.mk c9 c10 c11 c12 c13)) (aG.mk (aJ.mk c_2 c_3 c14 c15 c16 c17 c18 c19) (bM.mk c_4 c_5) c20 c21),dZ l2 (ln c_2)&&(dZ l3 (ln c_3)&&(dZ l4 (ln c_4)&&(dZ l5 (ln c_5)&&(K (bJ.mk (aS.mk c0 c1 c2 (aF.mk c3 c4 c5) c6) c7 c8 (aL.mk c9 c10 c11 c12 c13)) (aG.mk (aJ.mk c_2 c_3 c14 c15 c16 c17 c18 c19) (bM.mk c_4 c_5) c20 c21))))))
 |_,_=>none
theorem wK{N:bJ→aG→SV×List Blk}{K:bJ→aG→Bool}{f:Nat}(h: ∀(a:bJ)(x0_fc:aG),K a x0_fc=true→dQ R f (cBJ a x0_fc) (cBK a x0_fc)=some (N a x0_fc)):cP f (NE N K):=fun args hp r e=>by
 unfold NE at e;split at e
 ·rename_i c0 c1 c2 c3 c4 c5 c6 c7 c8 c9 c10 c11 c12 c13 l2 l3 c14 c15 c16 c17 c18 c19 l4 l5 c20 c21 c_2 c_3 c_4 c_5;obtain⟨hr,hk⟩:=qp (qi e);obtain⟨d0,hk0⟩:=bI hk;obtain⟨d1,hk1⟩:=bI hk0;obtain⟨d2,hk2⟩:=bI hk1;obtain⟨d3,hk3⟩:=bI hk2;obtain rfl:=of_decide_eq_true d0;obtain rfl:=of_decide_eq_true d1;obtain rfl:=of_decide_eq_true d2;obtain rfl:=of_decide_eq_true d3;rw[←hr];exact h (bJ.mk (aS.mk c0 c1 c2 (aF.mk c3 c4 c5) c6) c7 c8 (aL.mk c9 c10 c11 c12 c13)) (aG.mk (aJ.mk c_2 c_3 c14 c15 c16 c17 c18 c19) (bM.mk c_4 c_5) c20 c21) hk3
 ·simp at e
section
variable(a:bJ)
def aK5:Bool:=(((bDN a.fx)&&((nX (0+(ln (TY a.fx))) (ln (TY a.fx)))&&true))&&true)
def aK6:Int:=(bF (bE a.fpc (dE 2 (bX (TY a.fx)))) 65535)
end
def a29(a:bJ)(x0_fc:aG):Pt (Int):=(.ok true (.ok ((aK5 a)&&((aK5 a)&&(((s1 (aK6 a))&&true)&&((vP a true)&&((fA x0_fc true)&&(fK x0_fc ((r1 (TY a.fx))&&true))))))) (.ok (((aM x0_fc true)&&(aM x0_fc true))&&true) (.leaf (aK6 a)))))
def aGE(a:bJ)(x0_fc:aG):Int:=hid (a29 a x0_fc).val
def aWO(a:bJ)(x0_fc:aG):Bool:=hid (a29 a x0_fc).okv
def b14(a:bJ)(x0_fc:aG)(r:Int):SV×List Blk:=((.one (li r)),[.box [.ptr 1 0 0,li a.fx.Op,li a.fx.Size,li a.fx.Reg,li a.fx.Ea.Mode,li a.fx.Ea.Reg,li a.fx.Ea.Ext,li a.fx.Sub,li a.fpc,li a.fword,li a.ffault.Vector,li a.ffault.PC,li a.ffault.Addr,li a.ffault.Word, .lit (.bool a.ffault.Write)], .box [.sl 2 0 (ln x0_fc.R.D), .sl 3 0 (ln x0_fc.R.A),li x0_fc.R.Other,li x0_fc.R.PC,li x0_fc.R.Flags,li x0_fc.R.Mask, .lit (.bool x0_fc.R.Super), .lit (.bool x0_fc.R.Trace), .sl 4 0 (ln x0_fc.Bus.Bytes), .sl 5 0 (ln x0_fc.Bus.Log), .lit (.bool x0_fc.Stop), .lit (.bool x0_fc.Halt)], .lst 1 x0_fc.R.D, .lst 1 x0_fc.R.A, .lst 1 x0_fc.Bus.Bytes, .lst 5 x0_fc.Bus.Log])
def q238:=NE (fun a x0_fc=>b14 a x0_fc (aGE a x0_fc)) aWO
theorem cBL:cP 238 q238:=wK fun a x0_fc hk=>tc bYY aQK [(6,K0),(10,K5)] [] true (a29 a x0_fc) (b14 a x0_fc) hk
def Q238:=bD 238 q238 Q237
theorem aQL:QO Q238:=aH cBL aQK
def cBM(b:Int)(a:bJ)(x0_fc:aG):List SV:=[(.one (.ptr 0 0 0)),(.one (li b))]
def cBN(b:Int)(a:bJ)(x0_fc:aG):List Blk:=[.box [.ptr 1 0 0,li a.fx.Op,li a.fx.Size,li a.fx.Reg,li a.fx.Ea.Mode,li a.fx.Ea.Reg,li a.fx.Ea.Ext,li a.fx.Sub,li a.fpc,li a.fword,li a.ffault.Vector,li a.ffault.PC,li a.ffault.Addr,li a.ffault.Word, .lit (.bool a.ffault.Write)], .box [.sl 2 0 (ln x0_fc.R.D), .sl 3 0 (ln x0_fc.R.A),li x0_fc.R.Other,li x0_fc.R.PC,li x0_fc.R.Flags,li x0_fc.R.Mask, .lit (.bool x0_fc.R.Super), .lit (.bool x0_fc.R.Trace), .sl 4 0 (ln x0_fc.Bus.Bytes), .sl 5 0 (ln x0_fc.Bus.Log), .lit (.bool x0_fc.Stop), .lit (.bool x0_fc.Halt)], .lst 1 x0_fc.R.D, .lst 1 x0_fc.R.A, .lst 1 x0_fc.Bus.Bytes, .lst 5 x0_fc.Bus.Log]
def aK7(N:Int→bJ→aG→SV×List Blk)(K:Int→bJ→aG→Bool):List SV→List Blk→Option ((SV×List Blk)×Bool)
 |[(.one (.ptr 0 0 0)),(.one (li c0))],[.box [.ptr 1 0 0,li c1,li c2,li c3,li c4,li c5,li c6,li c7,li c8,li c9,li c10,li c11,li c12,li c13, .lit (.bool c14)], .box [.sl 2 0 l2, .sl 3 0 l3,li c15,li c16,li c17,li c18, .lit (.bool c19), .lit (.bool c20), .sl 4 0 l4, .sl 5 0 l5, .lit (.bool c21), .lit (.bool c22)], .lst 1 c_2, .lst 1 c_3, .lst 1 c_4, .lst 5 c_5]=>some (N c0 (bJ.mk (aS.mk c1 c2 c3 (aF.mk c4 c5 c6) c7) c8 c9 (aL.mk c10 c11 c12 c13 c14)) (aG.mk (aJ.mk c_2 c_3 c15 c16 c17 c18 c19 c20) (bM.mk c_4 c_5) c21 c22),dZ l2 (ln c_2)&&(dZ l3 (ln c_3)&&(dZ l4 (ln c_4)&&(dZ l5 (ln c_5)&&(K c0 (bJ.mk (aS.mk c1 c2 c3 (aF.mk c4 c5 c6) c7) c8 c9 (aL.mk c10 c11 c12 c13 c14)) (aG.mk (aJ.mk c_2 c_3 c15 c16 c17 c18 c19 c20) (bM.mk c_4 c_5) c21 c22))))))
 |_,_=>none
theorem TZ{N:Int→bJ→aG→SV×List Blk}{K:Int→bJ→aG→Bool}{f:Nat}(h: ∀(b:Int)(a:bJ)(x0_fc:aG),K b a x0_fc=true→dQ R f (cBM b a x0_fc) (cBN b a x0_fc)=some (N b a x0_fc)):cP f (aK7 N K):=fun args hp r e=>by
 unfold aK7 at e;split at e
 ·rename_i c0 c1 c2 c3 c4 c5 c6 c7 c8 c9 c10 c11 c12 c13 c14 l2 l3 c15 c16 c17 c18 c19 c20 l4 l5 c21 c22 c_2 c_3 c_4 c_5;obtain⟨hr,hk⟩:=qp (qi e);obtain⟨d0,hk0⟩:=bI hk;obtain⟨d1,hk1⟩:=bI hk0;obtain⟨d2,hk2⟩:=bI hk1;obtain⟨d3,hk3⟩:=bI hk2;obtain rfl:=of_decide_eq_true d0;obtain rfl:=of_decide_eq_true d1;obtain rfl:=of_decide_eq_true d2;obtain rfl:=of_decide_eq_true d3;rw[←hr];exact h c0 (bJ.mk (aS.mk c1 c2 c3 (aF.mk c4 c5 c6) c7) c8 c9 (aL.mk c10 c11 c12 c13 c14)) (aG.mk (aJ.mk c_2 c_3 c15 c16 c17 c18 c19 c20) (bM.mk c_4 c_5) c21 c22) hk3
 ·simp at e
def a3A(b:Int)(a:bJ)(x0_fc:aG):Pt (Int):=(.ok true (.ok (((leI 0 b)&&(ltI b (bX x0_fc.R.D)))&&((dV [.int .i64] x0_fc.R.D (0+(iN b)) 0)&&((DW a.fx.Size)&&true))) (.ok (((aM x0_fc true)&&(aM x0_fc true))&&true) (.leaf (bF (bR x0_fc.R.D (0+(iN b)) 0) (cM (pV a.fx.Size) 1))))))
def aGF(b:Int)(a:bJ)(x0_fc:aG):Int:=hid (a3A b a x0_fc).val
def aGG(b:Int)(a:bJ)(x0_fc:aG):Bool:=hid (a3A b a x0_fc).okv
def b15(b:Int)(a:bJ)(x0_fc:aG)(r:Int):SV×List Blk:=((.one (li r)),[.box [.ptr 1 0 0,li a.fx.Op,li a.fx.Size,li a.fx.Reg,li a.fx.Ea.Mode,li a.fx.Ea.Reg,li a.fx.Ea.Ext,li a.fx.Sub,li a.fpc,li a.fword,li a.ffault.Vector,li a.ffault.PC,li a.ffault.Addr,li a.ffault.Word, .lit (.bool a.ffault.Write)], .box [.sl 2 0 (ln x0_fc.R.D), .sl 3 0 (ln x0_fc.R.A),li x0_fc.R.Other,li x0_fc.R.PC,li x0_fc.R.Flags,li x0_fc.R.Mask, .lit (.bool x0_fc.R.Super), .lit (.bool x0_fc.R.Trace), .sl 4 0 (ln x0_fc.Bus.Bytes), .sl 5 0 (ln x0_fc.Bus.Log), .lit (.bool x0_fc.Stop), .lit (.bool x0_fc.Halt)], .lst 1 x0_fc.R.D, .lst 1 x0_fc.R.A, .lst 1 x0_fc.Bus.Bytes, .lst 5 x0_fc.Bus.Log])
def q269:=aK7 (fun b a x0_fc=>b15 b a x0_fc (aGF b a x0_fc)) aGG
theorem cBO:cP 50269 q269:=TZ fun b a x0_fc hk=>tck bZT aQL [(12,K1),(14,K0),(15,K0),(20,K0)] [] true (a3A b a x0_fc) (b15 b a x0_fc) hk
def Q269:=bD 50269 q269 Q238
theorem aQM:QO Q269:=aH cBO aQL
def cBP(b:Int)(c:aF)(a:aJ):List SV:=[(.one (.ptr 0 0 0)),(.one (li b)),(.agg [li c.Mode,li c.Reg,li c.Ext])]
def cBQ(b:Int)(c:aF)(a:aJ):List Blk:=[.box [.sl 1 0 (ln a.D), .sl 2 0 (ln a.A),li a.Other,li a.PC,li a.Flags,li a.Mask, .lit (.bool a.Super), .lit (.bool a.Trace)], .lst 1 a.D, .lst 1 a.A]
def bK9(N:Int→aF→aJ→SV×List Blk)(K:Int→aF→aJ→Bool):List SV→List Blk→Option ((SV×List Blk)×Bool)
 |[(.one (.ptr 0 0 0)),(.one (li c0)),(.agg [li c1,li c2,li c3])],[.box [.sl 1 0 l1, .sl 2 0 l2,li c4,li c5,li c6,li c7, .lit (.bool c8), .lit (.bool c9)], .lst 1 c_1, .lst 1 c_2]=>some (N c0 (aF.mk c1 c2 c3) (aJ.mk c_1 c_2 c4 c5 c6 c7 c8 c9),dZ l1 (ln c_1)&&(dZ l2 (ln c_2)&&(K c0 (aF.mk c1 c2 c3) (aJ.mk c_1 c_2 c4 c5 c6 c7 c8 c9))))
 |_,_=>none
theorem bLA{N:Int→aF→aJ→SV×List Blk}{K:Int→aF→aJ→Bool}{f:Nat}(h: ∀(b:Int)(c:aF)(a:aJ),K b c a=true→dQ R f (cBP b c a) (cBQ b c a)=some (N b c a)):cP f (bK9 N K):=fun args hp r e=>by
 unfold bK9 at e;split at e
 ·rename_i c0 c1 c2 c3 l1 l2 c4 c5 c6 c7 c8 c9 c_1 c_2;obtain⟨hr,hk⟩:=qp (qi e);obtain⟨d0,hk0⟩:=bI hk;obtain⟨d1,hk1⟩:=bI hk0;obtain rfl:=of_decide_eq_true d0;obtain rfl:=of_decide_eq_true d1;rw[←hr];exact h c0 (aF.mk c1 c2 c3) (aJ.mk c_1 c_2 c4 c5 c6 c7 c8 c9) hk1
 ·simp at e
section
variable(b:Int)(c:aF)(a:aJ)
def UA:Bool:=((leI 0 c.Reg)&&(ltI c.Reg (bX a.A)))
def aK8:Bool:=(dV [.int .i64] a.A (0+(iN c.Reg)) 0)
def aBX:Bool:=((UA c a)&&((aK8 c a)&&true))
def aBY:Bool:=(dd (aO a true) ((aO a true)&&true))
def aK9:Bool:=((UA c a)&&(((blt (0+(iN c.Reg)) (ln a.A))&&(j7 (j8 a.A (0+(iN c.Reg))) 1))&&true))
def aLA:List Row:=(List.set a.A (0+(iN c.Reg)) (aY (bF (bE (bR a.A (0+(iN c.Reg)) 0) (bif (eqI c.Reg 3)then 2 else b)) 65535)))
def aLB:Bool:=((e1 (ln a.D))&&((dZ (ln a.A) (ln (aLA b c a)))&&true))
def UB:List Row:=(List.set a.A (0+(iN c.Reg)) (aY (bF (cM (bR a.A (0+(iN c.Reg)) 0) (bif (eqI c.Reg 3)then 2 else b)) 65535)))
def aLC:Bool:=((e1 (ln a.D))&&((dZ (ln a.A) (ln (UB b c a)))&&true))
end
def a3B(b:Int)(c:aF)(a:aJ):Pt (aJ×Int):=(.ok true (.ok true (.ok true (.ok true (.ok true (.ok true (.br (eqI c.Mode 2) (.ok (aBX c a) (.ok (aBY a) (.leaf (a,(bR a.A (0+(iN c.Reg)) 0))))) (.ok true (.br (eqI c.Mode 3) (.ok (aBX c a) (.ok ((aK9 c a)&&true) (.ok true (.ok ((((aO a true)&&(aLB b c a))&&true)&&((aLB b c a)&&true)) (.leaf ({a with A:=(aLA b c a)},(bR a.A (0+(iN c.Reg)) 0))))))) (.ok true (.br (eqI c.Mode 4) (.ok (((UA c a)&&((aK8 c a)&&(aK9 c a)))&&true) (.ok ((UA c a)&&((dV [.int .i64] (UB b c a) (0+(iN c.Reg)) 0)&&true)) (.ok ((((aO a true)&&(aLC b c a))&&true)&&((aLC b c a)&&true)) (.leaf ({a with A:=(UB b c a)},(bR (UB b c a) (0+(iN c.Reg)) 0)))))) (.ok true (.br (eqI c.Mode 5) (.ok (aBX c a) (.ok (aBY a) (.leaf (a,(bF (bE (bR a.A (0+(iN c.Reg)) 0) c.Ext) 65535))))) (.ok true (.ok (aBY a) (.leaf (a,c.Ext)))))))))))))))))
def aLD(b:Int)(c:aF)(a:aJ):aJ×Int:=hid (a3B b c a).val
def aLE(b:Int)(c:aF)(a:aJ):Bool:=hid (a3B b c a).okv
def b16(b:Int)(c:aF)(a:aJ)(r:aJ×Int):SV×List Blk:=((.one (li r.2)),[.box [.sl 1 0 (ln r.1.D), .sl 2 0 (ln r.1.A),li r.1.Other,li r.1.PC,li r.1.Flags,li r.1.Mask, .lit (.bool r.1.Super), .lit (.bool r.1.Trace)], .lst 1 r.1.D, .lst 1 r.1.A])
def q266:=bK9 (fun b c a=>b16 b c a (aLD b c a)) aLE
theorem cBR:cP 50266 q266:=bLA fun b c a hk=>tck bZQ aQM [(11,K0),(14,K0),(20,K1),(22,K0),(23,K0),(24,K0),(30,K1),(32,K0),(33,K0),(34,K0),(38,K1),(40,K0),(45,K0),(52,K1),(54,K0),(58,K1),(60,K0),(61,K0),(62,K0),(66,K0),(70,K1),(72,K0),(73,K0),(74,K0),(80,K1),(82,K0),(83,K0),(84,K0),(86,K0),(90,K0),(1000001,[])] [] true (a3B b c a) (b16 b c a) hk
def Q266:=bD 50266 q266 Q269
theorem aQN:QO Q266:=aH cBR aQM
def cBS(b:Int)(c:Int)(d:Bool)(a:bJ)(x0_fc:aG):List SV:=[(.one (.ptr 0 0 0)),(.one (li b)),(.one (li c)),(.one (.lit (.bool d)))]
def cBT(b:Int)(c:Int)(d:Bool)(a:bJ)(x0_fc:aG):List Blk:=[.box [.ptr 1 0 0,li a.fx.Op,li a.fx.Size,li a.fx.Reg,li a.fx.Ea.Mode,li a.fx.Ea.Reg,li a.fx.Ea.Ext,li a.fx.Sub,li a.fpc,li a.fword,li a.ffault.Vector,li a.ffault.PC,li a.ffault.Addr,li a.ffault.Word, .lit (.bool a.ffault.Write)], .box [.sl 2 0 (ln x0_fc.R.D), .sl 3 0 (ln x0_fc.R.A),li x0_fc.R.Other,li x0_fc.R.PC,li x0_fc.R.Flags,li x0_fc.R.Mask, .lit (.bool x0_fc.R.Super), .lit (.bool x0_fc.R.Trace), .sl 4 0 (ln x0_fc.Bus.Bytes), .sl 5 0 (ln x0_fc.Bus.Log), .lit (.bool x0_fc.Stop), .lit (.bool x0_fc.Halt)], .lst 1 x0_fc.R.D, .lst 1 x0_fc.R.A, .lst 1 x0_fc.Bus.Bytes, .lst 5 x0_fc.Bus.Log]
def bLB(N:Int→Int→Bool→bJ→aG→SV×List Blk)(K:Int→Int→Bool→bJ→aG→Bool):List SV→List Blk→Option ((SV×List Blk)×Bool)
 |[(.one (.ptr 0 0 0)),(.one (li c0)),(.one (li c1)),(.one (.lit (.bool c2)))],[.box [.ptr 1 0 0,li c3,li c4,li c5,li c6,li c7,li c8,li c9,li c10,li c11,li c12,li c13,li c14,li c15, .lit (.bool c16)], .box [.sl 2 0 l2, .sl 3 0 l3,li c17,li c18,li c19,li c20, .lit (.bool c21), .lit (.bool c22), .sl 4 0 l4, .sl 5 0 l5, .lit (.bool c23), .lit (.bool c24)], .lst 1 c_2, .lst 1 c_3, .lst 1 c_4, .lst 5 c_5]=>some (N c0 c1 c2 (bJ.mk (aS.mk c3 c4 c5 (aF.mk c6 c7 c8) c9) c10 c11 (aL.mk c12 c13 c14 c15 c16)) (aG.mk (aJ.mk c_2 c_3 c17 c18 c19 c20 c21 c22) (bM.mk c_4 c_5) c23 c24),dZ l2 (ln c_2)&&(dZ l3 (ln c_3)&&(dZ l4 (ln c_4)&&(dZ l5 (ln c_5)&&(K c0 c1 c2 (bJ.mk (aS.mk c3 c4 c5 (aF.mk c6 c7 c8) c9) c10 c11 (aL.mk c12 c13 c14 c15 c16)) (aG.mk (aJ.mk c_2 c_3 c17 c18 c19 c20 c21 c22) (bM.mk c_4 c_5) c23 c24))))))
 |_,_=>none
theorem bLC{N:Int→Int→Bool→bJ→aG→SV×List Blk}{K:Int→Int→Bool→bJ→aG→Bool}{f:Nat}(h: ∀(b:Int)(c:Int)(d:Bool)(a:bJ)(x0_fc:aG),K b c d a x0_fc=true→dQ R f (cBS b c d a x0_fc) (cBT b c d a x0_fc)=some (N b c d a x0_fc)):cP f (bLB N K):=fun args hp r e=>by
 unfold bLB at e;split at e
 ·rename_i c0 c1 c2 c3 c4 c5 c6 c7 c8 c9 c10 c11 c12 c13 c14 c15 c16 l2 l3 c17 c18 c19 c20 c21 c22 l4 l5 c23 c24 c_2 c_3 c_4 c_5;obtain⟨hr,hk⟩:=qp (qi e);obtain⟨d0,hk0⟩:=bI hk;obtain⟨d1,hk1⟩:=bI hk0;obtain⟨d2,hk2⟩:=bI hk1;obtain⟨d3,hk3⟩:=bI hk2;obtain rfl:=of_decide_eq_true d0;obtain rfl:=of_decide_eq_true d1;obtain rfl:=of_decide_eq_true d2;obtain rfl:=of_decide_eq_true d3;rw[←hr];exact h c0 c1 c2 (bJ.mk (aS.mk c3 c4 c5 (aF.mk c6 c7 c8) c9) c10 c11 (aL.mk c12 c13 c14 c15 c16)) (aG.mk (aJ.mk c_2 c_3 c17 c18 c19 c20 c21 c22) (bM.mk c_4 c_5) c23 c24) hk3
 ·simp at e
section
variable(b:Int)(a:bJ)(x0_fc:aG)
def aLF:Bool:=(((aM x0_fc true)&&(aM x0_fc true))&&true)
def aLG:bJ:=(aK3 (aWK b) a.fpc a x0_fc)
end
def a3C(b:Int)(c:Int)(d:Bool)(a:bJ)(x0_fc:aG):Pt (bJ):=(.ok true (.br (bif (eqI b 0)then true else(dD a.ffault.Vector 0)) (.ok (aLF x0_fc) (.leaf a)) (.ok (((a2O b)&&((cG x0_fc (aK4 (aWK b) a.fpc a x0_fc))&&true))&&true) (.ok true (.ok (aLF x0_fc) (.leaf {(aLG b a x0_fc)with ffault:={(aLG b a x0_fc).ffault with Addr:=c,Write:=d}}))))))
def aWP(b:Int)(c:Int)(d:Bool)(a:bJ)(x0_fc:aG):bJ:=hid (a3C b c d a x0_fc).val
def aWQ(b:Int)(c:Int)(d:Bool)(a:bJ)(x0_fc:aG):Bool:=hid (a3C b c d a x0_fc).okv
def b17(b:Int)(c:Int)(d:Bool)(a:bJ)(x0_fc:aG)(r:bJ):SV×List Blk:=((.tup []),[.box [.ptr 1 0 0,li r.fx.Op,li r.fx.Size,li r.fx.Reg,li r.fx.Ea.Mode,li r.fx.Ea.Reg,li r.fx.Ea.Ext,li r.fx.Sub,li r.fpc,li r.fword,li r.ffault.Vector,li r.ffault.PC,li r.ffault.Addr,li r.ffault.Word, .lit (.bool r.ffault.Write)], .box [.sl 2 0 (ln x0_fc.R.D), .sl 3 0 (ln x0_fc.R.A),li x0_fc.R.Other,li x0_fc.R.PC,li x0_fc.R.Flags,li x0_fc.R.Mask, .lit (.bool x0_fc.R.Super), .lit (.bool x0_fc.R.Trace), .sl 4 0 (ln x0_fc.Bus.Bytes), .sl 5 0 (ln x0_fc.Bus.Log), .lit (.bool x0_fc.Stop), .lit (.bool x0_fc.Halt)], .lst 1 x0_fc.R.D, .lst 1 x0_fc.R.A, .lst 1 x0_fc.Bus.Bytes, .lst 5 x0_fc.Bus.Log])
def q300:=bLB (fun b c d a x0_fc=>b17 b c d a x0_fc (aWP b c d a x0_fc)) aWQ
theorem cBU:cP 50300 q300:=bLC fun b c d a x0_fc hk=>tck b0O aQN [(15,K0),(24,K0)] [] true (a3C b c d a x0_fc) (b17 b c d a x0_fc) hk
def Q300:=bD 50300 q300 Q266
theorem aQO:QO Q300:=aH cBU aQN
section
variable(b:Int)(a:bJ)(x0_fc:aG)
def H9:bM×Int×Int:=(KI 1 a.fx.Size b 0 x0_fc.Bus)
def aBZ:Bool:=(aO x0_fc.R (bN (H9 b a x0_fc).1 true))
def aB0:aG:={x0_fc with Bus:=(H9 b a x0_fc).1}
end
def a3D(b:Int)(a:bJ)(x0_fc:aG):Pt (bJ×aG×Int):=(.ok true (.ok (((sF x0_fc.Bus (H7 1 a.fx.Size b 0 x0_fc.Bus))&&true)&&true) (.ok ((dd (aBZ b a x0_fc) (aO x0_fc.R (bN (H9 b a x0_fc).1 (aWQ (H9 b a x0_fc).2.2 b false a (aB0 b a x0_fc)))))&&true) (.ok true (.ok (((aBZ b a x0_fc)&&(aBZ b a x0_fc))&&true) (.leaf ((aWP (H9 b a x0_fc).2.2 b false a (aB0 b a x0_fc)),(aB0 b a x0_fc),(H9 b a x0_fc).2.1)))))))
def kY(b:Int)(a:bJ)(x0_fc:aG):bJ×aG×Int:=hid (a3D b a x0_fc).val
def a3E(b:Int)(a:bJ)(x0_fc:aG):Bool:=hid (a3D b a x0_fc).okv
def b18(b:Int)(a:bJ)(x0_fc:aG)(r:bJ×aG×Int):SV×List Blk:=((.one (li r.2.2)),[.box [.ptr 1 0 0,li r.1.fx.Op,li r.1.fx.Size,li r.1.fx.Reg,li r.1.fx.Ea.Mode,li r.1.fx.Ea.Reg,li r.1.fx.Ea.Ext,li r.1.fx.Sub,li r.1.fpc,li r.1.fword,li r.1.ffault.Vector,li r.1.ffault.PC,li r.1.ffault.Addr,li r.1.ffault.Word, .lit (.bool r.1.ffault.Write)], .box [.sl 2 0 (ln r.2.1.R.D), .sl 3 0 (ln r.2.1.R.A),li r.2.1.R.Other,li r.2.1.R.PC,li r.2.1.R.Flags,li r.2.1.R.Mask, .lit (.bool r.2.1.R.Super), .lit (.bool r.2.1.R.Trace), .sl 4 0 (ln r.2.1.Bus.Bytes), .sl 5 0 (ln r.2.1.Bus.Log), .lit (.bool r.2.1.Stop), .lit (.bool r.2.1.Halt)], .lst 1 r.2.1.R.D, .lst 1 r.2.1.R.A, .lst 1 r.2.1.Bus.Bytes, .lst 5 r.2.1.Bus.Log])
def q288:=aK7 (fun b a x0_fc=>b18 b a x0_fc (kY b a x0_fc)) a3E
theorem cBV:cP 50288 q288:=TZ fun b a x0_fc hk=>tck b0C aQO [(18,K0)] [] true (a3D b a x0_fc) (b18 b a x0_fc) hk
def Q288:=bD 50288 q288 Q300
theorem aQP:QO Q288:=aH cBV aQO
section
variable(a:bJ)(x0_fc:aG)
def aB1:Bool:=(((aM x0_fc true)&&(aM x0_fc true))&&true)
def IA:aJ×Int:=(aLD a.fx.Size a.fx.Ea x0_fc.R)
def NF:bJ×aG×Int:=(kY (IA a x0_fc).2 a {x0_fc with R:=(IA a x0_fc).1})
end
def a3F(a:bJ)(x0_fc:aG):Pt (bJ×aG×Int):=(.ok true (.ok true (.ok true (.ok true (.br (eqI a.fx.Ea.Mode 0) (.ok ((cG x0_fc (aGG a.fx.Ea.Reg a x0_fc))&&true) (.ok (aB1 x0_fc) (.leaf (a,x0_fc,(aGF a.fx.Ea.Reg a x0_fc))))) (.ok true (.br (eqI a.fx.Ea.Mode 1) (.ok (((leI 0 a.fx.Ea.Reg)&&(ltI a.fx.Ea.Reg (bX x0_fc.R.A)))&&((dV [.int .i64] x0_fc.R.A (0+(iN a.fx.Ea.Reg)) 0)&&true)) (.ok (aB1 x0_fc) (.leaf (a,x0_fc,(bR x0_fc.R.A (0+(iN a.fx.Ea.Reg)) 0))))) (.ok true (.br (eqI a.fx.Ea.Mode 7) (.ok true (.ok (aB1 x0_fc) (.leaf (a,x0_fc,a.fx.Ea.Ext)))) (.ok (((iH x0_fc.R (aLE a.fx.Size a.fx.Ea x0_fc.R))&&((dd (aO (IA a x0_fc).1 (bN x0_fc.Bus true)) (aO (IA a x0_fc).1 (bN x0_fc.Bus (a3E (IA a x0_fc).2 a {x0_fc with R:=(IA a x0_fc).1}))))&&true))&&true) (.ok (((aM (NF a x0_fc).2.1 true)&&(aM (NF a x0_fc).2.1 true))&&true) (.leaf ((NF a x0_fc).1,(NF a x0_fc).2.1,(NF a x0_fc).2.2)))))))))))))
def cT(a:bJ)(x0_fc:aG):bJ×aG×Int:=hid (a3F a x0_fc).val
def aWR(a:bJ)(x0_fc:aG):Bool:=hid (a3F a x0_fc).okv
def bDO(a:bJ)(x0_fc:aG)(r:bJ×aG×Int):SV×List Blk:=((.one (li r.2.2)),[.box [.ptr 1 0 0,li r.1.fx.Op,li r.1.fx.Size,li r.1.fx.Reg,li r.1.fx.Ea.Mode,li r.1.fx.Ea.Reg,li r.1.fx.Ea.Ext,li r.1.fx.Sub,li r.1.fpc,li r.1.fword,li r.1.ffault.Vector,li r.1.ffault.PC,li r.1.ffault.Addr,li r.1.ffault.Word, .lit (.bool r.1.ffault.Write)], .box [.sl 2 0 (ln r.2.1.R.D), .sl 3 0 (ln r.2.1.R.A),li r.2.1.R.Other,li r.2.1.R.PC,li r.2.1.R.Flags,li r.2.1.R.Mask, .lit (.bool r.2.1.R.Super), .lit (.bool r.2.1.R.Trace), .sl 4 0 (ln r.2.1.Bus.Bytes), .sl 5 0 (ln r.2.1.Bus.Log), .lit (.bool r.2.1.Stop), .lit (.bool r.2.1.Halt)], .lst 1 r.2.1.R.D, .lst 1 r.2.1.R.A, .lst 1 r.2.1.Bus.Bytes, .lst 5 r.2.1.Bus.Log])
def q265:=NE (fun a x0_fc=>bDO a x0_fc (cT a x0_fc)) aWR
theorem cBW:cP 50265 q265:=wK fun a x0_fc hk=>tck bZP aQP [(8,K4),(10,K0),(15,K0),(26,K1),(28,K0),(29,K0),(30,K0),(34,K0),(46,K0),(47,K4)] [] true (a3F a x0_fc) (bDO a x0_fc) hk
def Q265:=bD 50265 q265 Q288
theorem aQQ:QO Q265:=aH cBW aQP
def cBX(b:Int)(c:Int)(d:Int)(a:aJ):List SV:=[(.one (.ptr 0 0 0)),(.one (li b)),(.one (li c)),(.one (li d))]
def cBY(b:Int)(c:Int)(d:Int)(a:aJ):List Blk:=[.box [.sl 1 0 (ln a.D), .sl 2 0 (ln a.A),li a.Other,li a.PC,li a.Flags,li a.Mask, .lit (.bool a.Super), .lit (.bool a.Trace)], .lst 1 a.D, .lst 1 a.A]
def bLD(N:Int→Int→Int→aJ→SV×List Blk)(K:Int→Int→Int→aJ→Bool):List SV→List Blk→Option ((SV×List Blk)×Bool)
 |[(.one (.ptr 0 0 0)),(.one (li c0)),(.one (li c1)),(.one (li c2))],[.box [.sl 1 0 l1, .sl 2 0 l2,li c3,li c4,li c5,li c6, .lit (.bool c7), .lit (.bool c8)], .lst 1 c_1, .lst 1 c_2]=>some (N c0 c1 c2 (aJ.mk c_1 c_2 c3 c4 c5 c6 c7 c8),dZ l1 (ln c_1)&&(dZ l2 (ln c_2)&&(K c0 c1 c2 (aJ.mk c_1 c_2 c3 c4 c5 c6 c7 c8))))
 |_,_=>none
theorem bLE{N:Int→Int→Int→aJ→SV×List Blk}{K:Int→Int→Int→aJ→Bool}{f:Nat}(h: ∀(b:Int)(c:Int)(d:Int)(a:aJ),K b c d a=true→dQ R f (cBX b c d a) (cBY b c d a)=some (N b c d a)):cP f (bLD N K):=fun args hp r e=>by
 unfold bLD at e;split at e
 ·rename_i c0 c1 c2 l1 l2 c3 c4 c5 c6 c7 c8 c_1 c_2;obtain⟨hr,hk⟩:=qp (qi e);obtain⟨d0,hk0⟩:=bI hk;obtain⟨d1,hk1⟩:=bI hk0;obtain rfl:=of_decide_eq_true d0;obtain rfl:=of_decide_eq_true d1;rw[←hr];exact h c0 c1 c2 (aJ.mk c_1 c_2 c3 c4 c5 c6 c7 c8) hk1
 ·simp at e
section
variable(b:Int)(c:Int)(d:Int)(a:aJ)
def aLH:List Row:=(List.set a.D (0+(iN c)) (aY (bif (eqI b 1)then(fB d (gI (bR a.D (0+(iN c)) 0) 255))else d)))
def aLI:Bool:=((dZ (ln a.D) (ln (aLH b c d a)))&&((e1 (ln a.A))&&true))
end
def a3G(b:Int)(c:Int)(d:Int)(a:aJ):Pt (aJ):=(.ok true (.ok (((((leI 0 c)&&(ltI c (bX a.D)))&&((dV [.int .i64] a.D (0+(iN c)) 0)&&true))||(!(eqI b 1)))&&true) (.ok (((leI 0 c)&&(ltI c (bX a.D)))&&(((blt (0+(iN c)) (ln a.D))&&(j7 (j8 a.D (0+(iN c))) 1))&&true)) (.ok ((((aO a true)&&(aLI b c d a))&&true)&&((aLI b c d a)&&true)) (.leaf {a with D:=(aLH b c d a)})))))
def aB2(b:Int)(c:Int)(d:Int)(a:aJ):aJ:=hid (a3G b c d a).val
def aB3(b:Int)(c:Int)(d:Int)(a:aJ):Bool:=hid (a3G b c d a).okv
def b19(b:Int)(c:Int)(d:Int)(a:aJ)(r:aJ):SV×List Blk:=((.tup []),[.box [.sl 1 0 (ln r.D), .sl 2 0 (ln r.A),li r.Other,li r.PC,li r.Flags,li r.Mask, .lit (.bool r.Super), .lit (.bool r.Trace)], .lst 1 r.D, .lst 1 r.A])
def q270:=bLD (fun b c d a=>b19 b c d a (aB2 b c d a)) aB3
theorem cBZ:cP 270 q270:=bLE fun b c d a hk=>tc bZU aQQ [(14,K1),(16,K0),(17,K0),(23,K1),(26,K0),(1000001,[])] [] true (a3G b c d a) (b19 b c d a) hk
def Q270:=bD 270 q270 Q265
theorem aQR:QO Q270:=aH cBZ aQQ
def a3H(a:Int)(b:Int):Pt (Int):=(.ok true (.ok ((zA (eqI b 0) 4)&&((DW a)&&((zA (geI b (lW (pV a) 2)) 8)&&true))) (.ok true (.ok true (.leaf (fB (yZ (eqI b 0) 4) (yZ (geI b (lW (pV a) 2)) 8)))))))
def aWS(a:Int)(b:Int):Int:=hid (a3H a b).val
def aWT(a:Int)(b:Int):Bool:=hid (a3H a b).okv
def WY(a:Int)(b:Int)(r:Int):SV×List Blk:=((.one (li r)),[])
def q289:=KC (fun a b=>WY a b (aWS a b)) aWT
theorem cB0:cP 100289 q289:=uG fun a b hk=>tz b0D aQR [] [] true (a3H a b) (WY a b) hk
def Q289:=bD 100289 q289 Q270
theorem aQS:QO Q289:=aH cB0 aQR
def a3I(a:Int)(b:Int)(c:Int):Pt (Int):=(.ok true (.ok ((aWT a c)&&true) (.ok true (.ok true (.leaf (fB (bF b 16) (aWS a c)))))))
def bLF(a:Int)(b:Int)(c:Int):Int:=hid (a3I a b c).val
def bLG(a:Int)(b:Int)(c:Int):Bool:=hid (a3I a b c).okv
def q299:=DS5 (fun a b c=>aGD a b c (bLF a b c)) bLG
theorem cB1:cP 100299 q299:=DI fun a b c hk=>tz b0N aQS [] [] true (a3I a b c) (aGD a b c) hk
def Q299:=bD 100299 q299 Q289
theorem aQT:QO Q299:=aH cB1 aQS
def a3J(b:Int)(a:bJ)(x0_fc:aG):Pt (aG):=(.ok (((bLG a.fx.Size x0_fc.R.Flags b)&&true)&&true) (.ok (((aM x0_fc true)&&(aM x0_fc true))&&true) (.leaf {x0_fc with R:={x0_fc.R with Flags:=(bLF a.fx.Size x0_fc.R.Flags b)}})))
def uJ(b:Int)(a:bJ)(x0_fc:aG):aG:=hid (a3J b a x0_fc).val
def wL(b:Int)(a:bJ)(x0_fc:aG):Bool:=hid (a3J b a x0_fc).okv
def bDP(b:Int)(a:bJ)(x0_fc:aG)(r:aG):SV×List Blk:=((.tup []),[.box [.ptr 1 0 0,li a.fx.Op,li a.fx.Size,li a.fx.Reg,li a.fx.Ea.Mode,li a.fx.Ea.Reg,li a.fx.Ea.Ext,li a.fx.Sub,li a.fpc,li a.fword,li a.ffault.Vector,li a.ffault.PC,li a.ffault.Addr,li a.ffault.Word, .lit (.bool a.ffault.Write)], .box [.sl 2 0 (ln r.R.D), .sl 3 0 (ln r.R.A),li r.R.Other,li r.R.PC,li r.R.Flags,li r.R.Mask, .lit (.bool r.R.Super), .lit (.bool r.R.Trace), .sl 4 0 (ln r.Bus.Bytes), .sl 5 0 (ln r.Bus.Log), .lit (.bool r.Stop), .lit (.bool r.Halt)], .lst 1 r.R.D, .lst 1 r.R.A, .lst 1 r.Bus.Bytes, .lst 5 r.Bus.Log])
def q287:=aK7 (fun b a x0_fc=>bDP b a x0_fc (uJ b a x0_fc)) wL
theorem cB2:cP 287 q287:=TZ fun b a x0_fc hk=>tc b0B aQT [(12,K0),(20,K0)] [] true (a3J b a x0_fc) (bDP b a x0_fc) hk
def Q287:=bD 287 q287 Q299
theorem aQU:QO Q287:=aH cB2 aQT
section
variable(b:Int)(a:bJ)(x0_fc:aG)
def UC:aJ:=(aB2 a.fx.Size a.fx.Reg b x0_fc.R)
def aB4:aG:=(uJ b a {x0_fc with R:=(UC b a x0_fc)})
end
def a3K(b:Int)(a:bJ)(x0_fc:aG):Pt (aG):=(.ok true (.br (dD a.ffault.Vector 0) (.ok (((aM x0_fc true)&&(aM x0_fc true))&&true) (.leaf x0_fc)) (.ok (((iH x0_fc.R (aB3 a.fx.Size a.fx.Reg b x0_fc.R))&&true)&&true) (.ok ((dd (aO (UC b a x0_fc) (bN x0_fc.Bus true)) (aO (UC b a x0_fc) (bN x0_fc.Bus (wL b a {x0_fc with R:=(UC b a x0_fc)}))))&&true) (.ok (((aM (aB4 b a x0_fc) true)&&(aM (aB4 b a x0_fc) true))&&true) (.leaf (aB4 b a x0_fc)))))))
def PU(b:Int)(a:bJ)(x0_fc:aG):aG:=hid (a3K b a x0_fc).val
def PV(b:Int)(a:bJ)(x0_fc:aG):Bool:=hid (a3K b a x0_fc).okv
def q282:=aK7 (fun b a x0_fc=>bDP b a x0_fc (PU b a x0_fc)) PV
theorem cB3:cP 282 q282:=TZ fun b a x0_fc hk=>tc bZ6 aQU [(8,K0),(20,K0),(25,K0)] [] true (a3K b a x0_fc) (bDP b a x0_fc) hk
def Q282:=bD 282 q282 Q287
theorem aQV:QO Q282:=aH cB3 aQU
def a3L(a:Int)(b:Int):Pt (Int):=(.ok true (.ok ((DW a)&&true) (.br (geI b (lW (pV a) 2)) (.ok ((DW a)&&true) (.ok true (.ok true (.leaf (cM b (pV a)))))) (.ok true (.ok true (.ok true (.leaf b)))))))
def aB5(a:Int)(b:Int):Int:=hid (a3L a b).val
def aGH(a:Int)(b:Int):Bool:=hid (a3L a b).okv
def q294:=KC (fun a b=>WY a b (aB5 a b)) aGH
theorem cB4:cP 100294 q294:=uG fun a b hk=>tz b0I aQV [] [] true (a3L a b) (WY a b) hk
def Q294:=bD 100294 q294 Q282
theorem aQW:QO Q294:=aH cB4 aQV
section
variable(a:Int)(b:Int)(c:Int)
def aLJ:Bool:=(dD c (aB5 a (bF b (cM (pV a) 1))))
end
def a3M(a:Int)(b:Int)(c:Int):Pt (Int×Int):=(.ok true (.ok ((DW a)&&true) (.ok ((aGH a (bF b (cM (pV a) 1)))&&true) (.ok ((zA (dD b (bF b (cM (pV a) 1))) 17)&&((zA (aLJ a b c) 2)&&((aWT a (bF b (cM (pV a) 1)))&&true))) (.ok true (.ok true (.leaf ((bF b (cM (pV a) 1)),(fB (fB (yZ (dD b (bF b (cM (pV a) 1))) 17) (yZ (aLJ a b c) 2)) (aWS a (bF b (cM (pV a) 1))))))))))))
def bDQ(a:Int)(b:Int)(c:Int):Int×Int:=hid (a3M a b c).val
def bDR(a:Int)(b:Int)(c:Int):Bool:=hid (a3M a b c).okv
def aWU(a:Int)(b:Int)(c:Int)(r:Int×Int):SV×List Blk:=((.tup [(.one (li r.1)),(.one (li r.2))]),[])
def q297:=DS5 (fun a b c=>aWU a b c (bDQ a b c)) bDR
theorem cB5:cP 100297 q297:=DI fun a b c hk=>tz b0L aQW [] [] true (a3M a b c) (aWU a b c) hk
def Q297:=bD 100297 q297 Q294
theorem aQX:QO Q297:=aH cB5 aQW
def cB6(a:Int)(b:Int)(c:Int)(d:Int):List SV:=[(.one (li a)),(.one (li b)),(.one (li c)),(.one (li d))]
def cB7(a:Int)(b:Int)(c:Int)(d:Int):List Blk:=[]
def WZ(N:Int→Int→Int→Int→SV×List Blk)(K:Int→Int→Int→Int→Bool):List SV→List Blk→Option ((SV×List Blk)×Bool)
 |[(.one (li c0)),(.one (li c1)),(.one (li c2)),(.one (li c3))],[]=>some (N c0 c1 c2 c3,K c0 c1 c2 c3)
 |_,_=>none
theorem DY{N:Int→Int→Int→Int→SV×List Blk}{K:Int→Int→Int→Int→Bool}{f:Nat}(h: ∀(a:Int)(b:Int)(c:Int)(d:Int),K a b c d=true→dQ R f (cB6 a b c d) (cB7 a b c d)=some (N a b c d)):cP f (WZ N K):=fun _ _ _ e=>by
 unfold WZ at e;split at e
 ·exact yF e (h _ _ _ _)
 ·cases e
section
variable(a:Int)(b:Int)(c:Int)(d:Int)
def aLK:Int:=(cM (cM (aB5 a c) (aB5 a d)) b)
def aLL:Int×Int:=(bDQ a (cM (cM c d) b) (aLK a b c d))
end
def a3N(a:Int)(b:Int)(c:Int)(d:Int):Pt (Int×Int):=(.ok true (.ok ((aGH a c)&&((aGH a d)&&((bDR a (cM (cM c d) b) (aLK a b c d))&&true))) (.ok true (.ok true (.leaf ((aLL a b c d).1,(aLL a b c d).2))))))
def KK(a:Int)(b:Int)(c:Int)(d:Int):Int×Int:=hid (a3N a b c d).val
def XA(a:Int)(b:Int)(c:Int)(d:Int):Bool:=hid (a3N a b c d).okv
def PW(a:Int)(b:Int)(c:Int)(d:Int)(r:Int×Int):SV×List Blk:=((.tup [(.one (li r.1)),(.one (li r.2))]),[])
def q285:=WZ (fun a b c d=>PW a b c d (KK a b c d)) XA
theorem cB8:cP 100285 q285:=DY fun a b c d hk=>tz bZ9 aQX [] [] true (a3N a b c d) (PW a b c d) hk
def Q285:=bD 100285 q285 Q297
theorem aQY:QO Q285:=aH cB8 aQX
def a3O(a:Int)(b:Int)(c:Int)(d:Int):Pt (Int):=(.ok true (.ok ((XA a 0 c d)&&true) (.ok true (.ok true (.ok true (.leaf (fB (gI (KK a 0 c d).2 16) (bF b 16))))))))
def bLH(a:Int)(b:Int)(c:Int)(d:Int):Int:=hid (a3O a b c d).val
def bLI(a:Int)(b:Int)(c:Int)(d:Int):Bool:=hid (a3O a b c d).okv
def bDS(a:Int)(b:Int)(c:Int)(d:Int)(r:Int):SV×List Blk:=((.one (li r)),[])
def q283:=WZ (fun a b c d=>bDS a b c d (bLH a b c d)) bLI
theorem cB9:cP 100283 q283:=DY fun a b c d hk=>tz bZ7 aQY [] [] true (a3O a b c d) (bDS a b c d) hk
def Q283:=bD 100283 q283 Q285
theorem aQZ:QO Q283:=aH cB9 aQY
section
variable(a:Int)(b:Int)(c:Int)(d:Int)
def aLM:Int:=(bE (bE (aB5 a c) (aB5 a d)) b)
def aLN:Int×Int:=(bDQ a (bE (bE c d) b) (aLM a b c d))
end
def a3P(a:Int)(b:Int)(c:Int)(d:Int):Pt (Int×Int):=(.ok true (.ok ((aGH a c)&&((aGH a d)&&((bDR a (bE (bE c d) b) (aLM a b c d))&&true))) (.ok true (.ok true (.leaf ((aLN a b c d).1,(aLN a b c d).2))))))
def bLJ(a:Int)(b:Int)(c:Int)(d:Int):Int×Int:=hid (a3P a b c d).val
def bLK(a:Int)(b:Int)(c:Int)(d:Int):Bool:=hid (a3P a b c d).okv
def q284:=WZ (fun a b c d=>PW a b c d (bLJ a b c d)) bLK
theorem cCA:cP 100284 q284:=DY fun a b c d hk=>tz bZ8 aQZ [] [] true (a3P a b c d) (PW a b c d) hk
def Q284:=bD 100284 q284 Q283
theorem aQ0:QO Q284:=aH cCA aQZ
section
variable(a:bJ)(x0_fc:aG)
def wM:Bool:=(((aM (cT a x0_fc).2.1 true)&&(aM (cT a x0_fc).2.1 true))&&true)
def wN:aG:=(PU (cT a x0_fc).2.2 (cT a x0_fc).1 (cT a x0_fc).2.1)
def nT:Int:=(aGF (cT a x0_fc).1.fx.Reg (cT a x0_fc).1 (cT a x0_fc).2.1)
def zB:Int:=(bF (nT a x0_fc) (cT a x0_fc).2.2)
def wO:aG:=(PU (zB a x0_fc) (cT a x0_fc).1 (cT a x0_fc).2.1)
def zD:Int:=(fB (nT a x0_fc) (cT a x0_fc).2.2)
def wP:aG:=(PU (zD a x0_fc) (cT a x0_fc).1 (cT a x0_fc).2.1)
def zE:Int:=(qN (nT a x0_fc) (cT a x0_fc).2.2)
def wQ:aG:=(PU (zE a x0_fc) (cT a x0_fc).1 (cT a x0_fc).2.1)
def wR:Int×Int:=(bLJ a.fx.Size 0 (nT a x0_fc) (cT a x0_fc).2.2)
def sZ:aJ:=(aB2 a.fx.Size (cT a x0_fc).1.fx.Reg (wR a x0_fc).1 (cT a x0_fc).2.1.R)
def tA:Bool:=(aO (sZ a x0_fc) (bN (cT a x0_fc).2.1.Bus true))
def rA:Int×Int:=(KK a.fx.Size 0 (nT a x0_fc) (cT a x0_fc).2.2)
def tC:aJ:=(aB2 a.fx.Size (cT a x0_fc).1.fx.Reg (rA a x0_fc).1 (cT a x0_fc).2.1.R)
def tD:Bool:=(aO (tC a x0_fc) (bN (cT a x0_fc).2.1.Bus true))
end
def a3Q(a:bJ)(x0_fc:aG):Pt (bJ×aG):=(.ok true (.ok ((cG x0_fc (aWR a x0_fc))&&true) (.ok true (.br (dD (cT a x0_fc).1.ffault.Vector 0) (.ok (wM a x0_fc) (.leaf ((cT a x0_fc).1,(cT a x0_fc).2.1))) (.ok ((cG (cT a x0_fc).2.1 (aGG (cT a x0_fc).1.fx.Reg (cT a x0_fc).1 (cT a x0_fc).2.1))&&true) (.ok true (.ok true (.br (eqI (cT a x0_fc).1.fx.Op 1) (.ok ((cG (cT a x0_fc).2.1 (PV (cT a x0_fc).2.2 (cT a x0_fc).1 (cT a x0_fc).2.1))&&true) (.ok (((aM (wN a x0_fc) true)&&(aM (wN a x0_fc) true))&&true) (.leaf ((cT a x0_fc).1,(wN a x0_fc))))) (.ok true (.br (eqI (cT a x0_fc).1.fx.Op 5) (.ok ((cG (cT a x0_fc).2.1 (PV (zB a x0_fc) (cT a x0_fc).1 (cT a x0_fc).2.1))&&true) (.ok (((aM (wO a x0_fc) true)&&(aM (wO a x0_fc) true))&&true) (.leaf ((cT a x0_fc).1,(wO a x0_fc))))) (.ok true (.br (eqI (cT a x0_fc).1.fx.Op 6) (.ok ((cG (cT a x0_fc).2.1 (PV (zD a x0_fc) (cT a x0_fc).1 (cT a x0_fc).2.1))&&true) (.ok (((aM (wP a x0_fc) true)&&(aM (wP a x0_fc) true))&&true) (.leaf ((cT a x0_fc).1,(wP a x0_fc))))) (.ok true (.br (eqI (cT a x0_fc).1.fx.Op 7) (.ok ((cG (cT a x0_fc).2.1 (PV (zE a x0_fc) (cT a x0_fc).1 (cT a x0_fc).2.1))&&true) (.ok (((aM (wQ a x0_fc) true)&&(aM (wQ a x0_fc) true))&&true) (.leaf ((cT a x0_fc).1,(wQ a x0_fc))))) (.ok true (.br (eqI (cT a x0_fc).1.fx.Op 8) (.ok ((bLI a.fx.Size (cT a x0_fc).2.1.R.Flags (nT a x0_fc) (cT a x0_fc).2.2)&&true) (.ok (wM a x0_fc) (.leaf ((cT a x0_fc).1,{(cT a x0_fc).2.1 with R:={(cT a x0_fc).2.1.R with Flags:=(bLH a.fx.Size (cT a x0_fc).2.1.R.Flags (nT a x0_fc) (cT a x0_fc).2.2)}})))) (.ok true (.br (eqI (cT a x0_fc).1.fx.Op 3) (.ok ((bLK a.fx.Size 0 (nT a x0_fc) (cT a x0_fc).2.2)&&true) (.ok ((iH (cT a x0_fc).2.1.R (aB3 a.fx.Size (cT a x0_fc).1.fx.Reg (wR a x0_fc).1 (cT a x0_fc).2.1.R))&&true) (.ok true (.ok (((tA a x0_fc)&&(tA a x0_fc))&&true) (.leaf ((cT a x0_fc).1,{(cT a x0_fc).2.1 with R:={(sZ a x0_fc)with Flags:=(wR a x0_fc).2}})))))) (.ok true (.br (eqI (cT a x0_fc).1.fx.Op 4) (.ok ((XA a.fx.Size 0 (nT a x0_fc) (cT a x0_fc).2.2)&&true) (.ok ((iH (cT a x0_fc).2.1.R (aB3 a.fx.Size (cT a x0_fc).1.fx.Reg (rA a x0_fc).1 (cT a x0_fc).2.1.R))&&true) (.ok true (.ok (((tD a x0_fc)&&(tD a x0_fc))&&true) (.leaf ((cT a x0_fc).1,{(cT a x0_fc).2.1 with R:={(tC a x0_fc)with Flags:=(rA a x0_fc).2}})))))) (.ok (wM a x0_fc) (.leaf ((cT a x0_fc).1,(cT a x0_fc).2.1)))))))))))))))))))))))
def aWV(a:bJ)(x0_fc:aG):bJ×aG:=hid (a3Q a x0_fc).val
def bLL(a:bJ)(x0_fc:aG):Bool:=hid (a3Q a x0_fc).okv
def GC(a:bJ)(x0_fc:aG)(r:bJ×aG):SV×List Blk:=((.tup []),[.box [.ptr 1 0 0,li r.1.fx.Op,li r.1.fx.Size,li r.1.fx.Reg,li r.1.fx.Ea.Mode,li r.1.fx.Ea.Reg,li r.1.fx.Ea.Ext,li r.1.fx.Sub,li r.1.fpc,li r.1.fword,li r.1.ffault.Vector,li r.1.ffault.PC,li r.1.ffault.Addr,li r.1.ffault.Word, .lit (.bool r.1.ffault.Write)], .box [.sl 2 0 (ln r.2.R.D), .sl 3 0 (ln r.2.R.A),li r.2.R.Other,li r.2.R.PC,li r.2.R.Flags,li r.2.R.Mask, .lit (.bool r.2.R.Super), .lit (.bool r.2.R.Trace), .sl 4 0 (ln r.2.Bus.Bytes), .sl 5 0 (ln r.2.Bus.Log), .lit (.bool r.2.Stop), .lit (.bool r.2.Halt)], .lst 1 r.2.R.D, .lst 1 r.2.R.A, .lst 1 r.2.Bus.Bytes, .lst 5 r.2.Bus.Log])
def q263:=NE (fun a x0_fc=>GC a x0_fc (aWV a x0_fc)) bLL
theorem cCB:cP 263 q263:=wK fun a x0_fc hk=>tc bZN aQ0 [(14,K0),(27,K0),(34,K0),(40,K0),(74,K0),(95,K0),(117,K0)] [] true (a3Q a x0_fc) (GC a x0_fc) hk
def Q263:=bD 263 q263 Q284
theorem aQ1:QO Q263:=aH cCB aQ0
section
variable(b:Int)(c:Int)(a:bJ)(x0_fc:aG)
def NG:bM×Int×Int:=(KI 2 a.fx.Size b c x0_fc.Bus)
def aB6:Bool:=(aO x0_fc.R (bN (NG b c a x0_fc).1 true))
def aB7:aG:={x0_fc with Bus:=(NG b c a x0_fc).1}
end
def a3R(b:Int)(c:Int)(a:bJ)(x0_fc:aG):Pt (bJ×aG):=(.ok (((sF x0_fc.Bus (H7 2 a.fx.Size b c x0_fc.Bus))&&true)&&true) (.ok ((dd (aB6 b c a x0_fc) (aO x0_fc.R (bN (NG b c a x0_fc).1 (aWQ (NG b c a x0_fc).2.2 b true a (aB7 b c a x0_fc)))))&&true) (.ok (((aB6 b c a x0_fc)&&(aB6 b c a x0_fc))&&true) (.leaf ((aWP (NG b c a x0_fc).2.2 b true a (aB7 b c a x0_fc)),(aB7 b c a x0_fc))))))
def aWW(b:Int)(c:Int)(a:bJ)(x0_fc:aG):bJ×aG:=hid (a3R b c a x0_fc).val
def bLM(b:Int)(c:Int)(a:bJ)(x0_fc:aG):Bool:=hid (a3R b c a x0_fc).okv
def bDT(b:Int)(c:Int)(a:bJ)(x0_fc:aG)(r:bJ×aG):SV×List Blk:=((.tup []),[.box [.ptr 1 0 0,li r.1.fx.Op,li r.1.fx.Size,li r.1.fx.Reg,li r.1.fx.Ea.Mode,li r.1.fx.Ea.Reg,li r.1.fx.Ea.Ext,li r.1.fx.Sub,li r.1.fpc,li r.1.fword,li r.1.ffault.Vector,li r.1.ffault.PC,li r.1.ffault.Addr,li r.1.ffault.Word, .lit (.bool r.1.ffault.Write)], .box [.sl 2 0 (ln r.2.R.D), .sl 3 0 (ln r.2.R.A),li r.2.R.Other,li r.2.R.PC,li r.2.R.Flags,li r.2.R.Mask, .lit (.bool r.2.R.Super), .lit (.bool r.2.R.Trace), .sl 4 0 (ln r.2.Bus.Bytes), .sl 5 0 (ln r.2.Bus.Log), .lit (.bool r.2.Stop), .lit (.bool r.2.Halt)], .lst 1 r.2.R.D, .lst 1 r.2.R.A, .lst 1 r.2.Bus.Bytes, .lst 5 r.2.Bus.Log])
def q298:=a27 (fun b c a x0_fc=>bDT b c a x0_fc (aWW b c a x0_fc)) bLM
theorem cCC:cP 298 q298:=aK1 fun b c a x0_fc hk=>tc b0M aQ1 [(19,K0)] [] true (a3R b c a x0_fc) (bDT b c a x0_fc) hk
def Q298:=bD 298 q298 Q263
theorem aQ2:QO Q298:=aH cCC aQ1
section
variable(c:Int)(a:bJ)(x0_fc:aG)
def aLO:aJ:=(aB2 a.fx.Size a.fx.Ea.Reg c x0_fc.R)
def aLP:Bool:=(aO (aLO c a x0_fc) (bN x0_fc.Bus true))
end
def a3S(b:Int)(c:Int)(a:bJ)(x0_fc:aG):Pt (bJ×aG):=(.ok true (.br (eqI a.fx.Ea.Mode 0) (.ok (((iH x0_fc.R (aB3 a.fx.Size a.fx.Ea.Reg c x0_fc.R))&&true)&&true) (.ok (((aLP c a x0_fc)&&(aLP c a x0_fc))&&true) (.leaf (a,{x0_fc with R:=(aLO c a x0_fc)})))) (.ok ((cG x0_fc (bLM b c a x0_fc))&&true) (.ok (((aM (aWW b c a x0_fc).2 true)&&(aM (aWW b c a x0_fc).2 true))&&true) (.leaf ((aWW b c a x0_fc).1,(aWW b c a x0_fc).2))))))
def sJ(b:Int)(c:Int)(a:bJ)(x0_fc:aG):bJ×aG:=hid (a3S b c a x0_fc).val
def zF(b:Int)(c:Int)(a:bJ)(x0_fc:aG):Bool:=hid (a3S b c a x0_fc).okv
def q286:=a27 (fun b c a x0_fc=>bDT b c a x0_fc (sJ b c a x0_fc)) zF
theorem cCD:cP 286 q286:=aK1 fun b c a x0_fc hk=>tc b0A aQ2 [(11,K0),(23,K0),(29,K0)] [] true (a3S b c a x0_fc) (bDT b c a x0_fc) hk
def Q286:=bD 286 q286 Q298
theorem aQ3:QO Q286:=aH cCD aQ2
section
variable(a:bJ)(x0_fc:aG)
def DZ:aJ×Int:=(aLD a.fx.Size a.fx.Ea x0_fc.R)
def zG:Int:=(aGF a.fx.Reg a x0_fc)
def D0:bJ×aG:=(sJ (DZ a x0_fc).2 (zG a x0_fc) a {x0_fc with R:=(DZ a x0_fc).1})
def UD:aG:=(uJ (zG a x0_fc) (D0 a x0_fc).1 (D0 a x0_fc).2)
def D1:bJ×aG:=(sJ 0 (zG a x0_fc) a x0_fc)
def UE:aG:=(uJ (zG a x0_fc) (D1 a x0_fc).1 (D1 a x0_fc).2)
end
def a3T(a:bJ)(x0_fc:aG):Pt (bJ×aG):=(.ok true (.ok ((cG x0_fc (aGG a.fx.Reg a x0_fc))&&true) (.ok true (.br (dD a.fx.Ea.Mode 0) (.ok (((iH x0_fc.R (aLE a.fx.Size a.fx.Ea x0_fc.R))&&true)&&true) (.ok ((dd (aO (DZ a x0_fc).1 (bN x0_fc.Bus true)) (aO (DZ a x0_fc).1 (bN x0_fc.Bus (zF (DZ a x0_fc).2 (zG a x0_fc) a {x0_fc with R:=(DZ a x0_fc).1}))))&&true) (.ok ((cG (D0 a x0_fc).2 (wL (zG a x0_fc) (D0 a x0_fc).1 (D0 a x0_fc).2))&&true) (.ok (((aM (UD a x0_fc) true)&&(aM (UD a x0_fc) true))&&true) (.leaf ((D0 a x0_fc).1,(UD a x0_fc))))))) (.ok ((cG x0_fc (zF 0 (zG a x0_fc) a x0_fc))&&true) (.ok ((cG (D1 a x0_fc).2 (wL (zG a x0_fc) (D1 a x0_fc).1 (D1 a x0_fc).2))&&true) (.ok (((aM (UE a x0_fc) true)&&(aM (UE a x0_fc) true))&&true) (.leaf ((D1 a x0_fc).1,(UE a x0_fc))))))))))
def aWX(a:bJ)(x0_fc:aG):bJ×aG:=hid (a3T a x0_fc).val
def bLN(a:bJ)(x0_fc:aG):Bool:=hid (a3T a x0_fc).okv
def q264:=NE (fun a x0_fc=>GC a x0_fc (aWX a x0_fc)) bLN
theorem cCE:cP 264 q264:=wK fun a x0_fc hk=>tc bZO aQ3 [(9,K0),(16,K0),(28,K0),(33,K4)] [] true (a3T a x0_fc) (GC a x0_fc) hk
def Q264:=bD 264 q264 Q286
theorem aQ4:QO Q264:=aH cCE aQ3
end
end Go.Proofs.YtdipcnijfkdnfaaGreatWhole
