import Derived.Test.YtdicpjkdpliofaaGreatZqTabBoundaries
import Derived.Test.YtdicpjkdpliofaaGreatZmc
import Derived.KernelRfl
import Derived.Test.YtdicpjkdpliofaaGreatZqBoundariesR
set_option linter.unusedVariables false
set_option linter.unusedSimpArgs false
namespace Go.Proofs.YtdicpjkdpliofaaGreatBoundaries
open Option.some renaming inj → qi
open Prod.mk renaming inj → qp
open Int renaming toNat → iN
open Go Go.Zq
open List renaming length→ln
set_option maxRecDepth 100000
set_option maxHeartbeats 4000000
noncomputable section
structure aG where
 mk::
 (fcode:List Row)
 (fat:Int)
 (fseed:Int)
def aG.row(x:aG):Row:=[.imm true 1 x.fcode, .lit (.int .i64 x.fat), .lit (.int .u64 x.fseed)]
def aG.at(r:List Row)(j i:Nat):aG:=⟨lG r j i,bF r j (i+1),bF r j (i+2)⟩
structure aC where
 mk::
 (Mode:Int)
 (Reg:Int)
 (Ext:Int)
def aC.row(x:aC):Row:=[.lit (.int .i64 x.Mode), .lit (.int .i64 x.Reg), .lit (.int .i64 x.Ext)]
def aC.at(r:List Row)(j i:Nat):aC:=⟨bF r j i,bF r j (i+1),bF r j (i+2)⟩
structure aN where
 mk::
 (Op:Int)
 (Size:Int)
 (Reg:Int)
 (Ea:aC)
 (Sub:Int)
def aN.row(x:aN):Row:=[.lit (.int .i64 x.Op), .lit (.int .i64 x.Size), .lit (.int .i64 x.Reg), .lit (.int .i64 x.Ea.Mode), .lit (.int .i64 x.Ea.Reg), .lit (.int .i64 x.Ea.Ext), .lit (.int .i64 x.Sub)]
def aN.at(r:List Row)(j i:Nat):aN:=⟨bF r j i,bF r j (i+1),bF r j (i+2),⟨bF r j (i+3),bF r j (i+4),bF r j (i+5)⟩,bF r j (i+6)⟩
structure aE where
 mk::
 (D:List Row)
 (A:List Row)
 (Other:Int)
 (PC:Int)
 (Flags:Int)
 (Mask:Int)
 (Super:Bool)
 (Trace:Bool)
def aE.row(x:aE):Row:=[.imm true 1 x.D, .imm true 1 x.A, .lit (.int .i64 x.Other), .lit (.int .i64 x.PC), .lit (.int .i64 x.Flags), .lit (.int .i64 x.Mask), .lit (.bool x.Super), .lit (.bool x.Trace)]
def aE.at(r:List Row)(j i:Nat):aE:=⟨lG r j i,lG r j (i+1),bF r j (i+2),bF r j (i+3),bF r j (i+4),bF r j (i+5),mF r j (i+6),mF r j (i+7)⟩
structure bC where
 mk::
 (Bytes:List Row)
 (Log:List Row)
def bC.row(x:bC):Row:=[.imm true 1 x.Bytes, .imm true 5 x.Log]
def bC.at(r:List Row)(j i:Nat):bC:=⟨lG r j i,lG r j (i+1)⟩
structure aD where
 mk::
 (R:aE)
 (Bus:bC)
 (Stop:Bool)
 (Halt:Bool)
def aD.row(x:aD):Row:=[.imm true 1 x.R.D, .imm true 1 x.R.A, .lit (.int .i64 x.R.Other), .lit (.int .i64 x.R.PC), .lit (.int .i64 x.R.Flags), .lit (.int .i64 x.R.Mask), .lit (.bool x.R.Super), .lit (.bool x.R.Trace), .imm true 1 x.Bus.Bytes, .imm true 5 x.Bus.Log, .lit (.bool x.Stop), .lit (.bool x.Halt)]
def aD.at(r:List Row)(j i:Nat):aD:=⟨⟨lG r j i,lG r j (i+1),bF r j (i+2),bF r j (i+3),bF r j (i+4),bF r j (i+5),mF r j (i+6),mF r j (i+7)⟩,⟨lG r j (i+8),lG r j (i+9)⟩,mF r j (i+10),mF r j (i+11)⟩
structure bA where
 mk::
 (Cpu:aD)
 (Line:Int)
 (Edge:Bool)
def bA.row(x:bA):Row:=[.imm true 1 x.Cpu.R.D, .imm true 1 x.Cpu.R.A, .lit (.int .i64 x.Cpu.R.Other), .lit (.int .i64 x.Cpu.R.PC), .lit (.int .i64 x.Cpu.R.Flags), .lit (.int .i64 x.Cpu.R.Mask), .lit (.bool x.Cpu.R.Super), .lit (.bool x.Cpu.R.Trace), .imm true 1 x.Cpu.Bus.Bytes, .imm true 5 x.Cpu.Bus.Log, .lit (.bool x.Cpu.Stop), .lit (.bool x.Cpu.Halt), .lit (.int .i64 x.Line), .lit (.bool x.Edge)]
def bA.at(r:List Row)(j i:Nat):bA:=⟨⟨⟨lG r j i,lG r j (i+1),bF r j (i+2),bF r j (i+3),bF r j (i+4),bF r j (i+5),mF r j (i+6),mF r j (i+7)⟩,⟨lG r j (i+8),lG r j (i+9)⟩,mF r j (i+10),mF r j (i+11)⟩,bF r j (i+12),mF r j (i+13)⟩
structure aA where
 mk::
 (Kind:Int)
 (Size:Int)
 (Addr:Int)
 (Value:Int)
 (Code:Int)
def aA.row(x:aA):Row:=[.lit (.int .i64 x.Kind), .lit (.int .i64 x.Size), .lit (.int .i64 x.Addr), .lit (.int .i64 x.Value), .lit (.int .i64 x.Code)]
def aA.at(r:List Row)(j i:Nat):aA:=⟨bF r j i,bF r j (i+1),bF r j (i+2),bF r j (i+3),bF r j (i+4)⟩
structure aH where
 mk::
 (Vector:Int)
 (PC:Int)
 (Addr:Int)
 (Word:Int)
 (Write:Bool)
def aH.row(x:aH):Row:=[.lit (.int .i64 x.Vector), .lit (.int .i64 x.PC), .lit (.int .i64 x.Addr), .lit (.int .i64 x.Word), .lit (.bool x.Write)]
def aH.at(r:List Row)(j i:Nat):aH:=⟨bF r j i,bF r j (i+1),bF r j (i+2),bF r j (i+3),mF r j (i+4)⟩
structure bD where
 mk::
 (fx:aN)
 (fpc:Int)
 (fword:Int)
 (ffault:aH)
structure aO where
 mk::
 (fr:aE)
 (fbus:bC)
 (fstop:Bool)
 (ffault:aH)
def aO.row(x:aO):Row:=[.imm true 1 x.fr.D, .imm true 1 x.fr.A, .lit (.int .i64 x.fr.Other), .lit (.int .i64 x.fr.PC), .lit (.int .i64 x.fr.Flags), .lit (.int .i64 x.fr.Mask), .lit (.bool x.fr.Super), .lit (.bool x.fr.Trace), .imm true 1 x.fbus.Bytes, .imm true 5 x.fbus.Log, .lit (.bool x.fstop), .lit (.int .i64 x.ffault.Vector), .lit (.int .i64 x.ffault.PC), .lit (.int .i64 x.ffault.Addr), .lit (.int .i64 x.ffault.Word), .lit (.bool x.ffault.Write)]
def aO.at(r:List Row)(j i:Nat):aO:=⟨⟨lG r j i,lG r j (i+1),bF r j (i+2),bF r j (i+3),bF r j (i+4),bF r j (i+5),mF r j (i+6),mF r j (i+7)⟩,⟨lG r j (i+8),lG r j (i+9)⟩,mF r j (i+10),⟨bF r j (i+11),bF r j (i+12),bF r j (i+13),bF r j (i+14),mF r j (i+15)⟩⟩
def dd(t u:Bool):Bool:=(((t&&t)&&true)&&u)
theorem bW4(t u:Bool):dd t u=(t&&u):=by cases t<;>cases u<;>rfl
def sB(x:aN)(k:Bool):Bool:=((s1 x.Op)&&((s1 x.Size)&&((s1 x.Reg)&&((s1 x.Ea.Mode)&&((s1 x.Ea.Reg)&&((s1 x.Ea.Ext)&&((s1 x.Sub)&&k)))))))
theorem a29(x:aN)(k:Bool):sB x k=k:=by simp[sB]
def sC(x:aC)(k:Bool):Bool:=((s1 x.Mode)&&((s1 x.Reg)&&((s1 x.Ext)&&k)))
theorem Z7(x:aC)(k:Bool):sC x k=k:=by simp[sC]
def aK(x:aE)(k:Bool):Bool:=((e1 (ln x.D))&&((e1 (ln x.A))&&k))
theorem aYM(x:aE)(k:Bool):aK x k=k:=by simp[aK]
def hX(x:aE)(k:Bool):Bool:=(((aK x true&&aK x true)&&true)&&aK x k)
theorem aYN(x:aE)(k:Bool):hX x k=k:=by simp[hX,aK]
def iB(x:aE)(k:Bool):Bool:=((s1 (ln x.D))&&((s1 (ln x.A))&&((s1 x.Other)&&((s1 x.PC)&&((s1 x.Flags)&&((s1 x.Mask)&&((s1 x.Super)&&((s1 x.Trace)&&k))))))))
theorem aYO(x:aE)(k:Bool):iB x k=k:=by simp[iB]
def hY(x:aE)(k:Bool):Bool:=((r1 x.D)&&((r1 x.A)&&k))
theorem aYP(x:aE)(k:Bool):hY x k=k:=by simp[hY]
def bI(x:bC)(k:Bool):Bool:=((e1 (ln x.Bytes))&&((e1 (ln x.Log))&&k))
theorem a3A(x:bC)(k:Bool):bI x k=k:=by simp[bI]
def sD(x:bC)(k:Bool):Bool:=(((bI x true&&bI x true)&&true)&&bI x k)
theorem a3B(x:bC)(k:Bool):sD x k=k:=by simp[sD,bI]
def dQ(x:bC)(k:Bool):Bool:=((s1 (ln x.Bytes))&&((s1 (ln x.Log))&&k))
theorem a3C(x:bC)(k:Bool):dQ x k=k:=by simp[dQ]
def dJ(x:bC)(k:Bool):Bool:=((r1 x.Bytes)&&((r1 x.Log)&&k))
theorem a3D(x:bC)(k:Bool):dJ x k=k:=by simp[dJ]
def aI(x:aD)(k:Bool):Bool:=((e1 (ln x.R.D))&&((e1 (ln x.R.A))&&((e1 (ln x.Bus.Bytes))&&((e1 (ln x.Bus.Log))&&k))))
theorem a3E(x:aD)(k:Bool):aI x k=k:=by simp[aI]
def cC(x:aD)(k:Bool):Bool:=(((aI x true&&aI x true)&&true)&&aI x k)
theorem a3F(x:aD)(k:Bool):cC x k=k:=by simp[cC,aI]
def i9(x:aD)(k:Bool):Bool:=((s1 (ln x.R.D))&&((s1 (ln x.R.A))&&((s1 x.R.Other)&&((s1 x.R.PC)&&((s1 x.R.Flags)&&((s1 x.R.Mask)&&((s1 x.R.Super)&&((s1 x.R.Trace)&&((s1 (ln x.Bus.Bytes))&&((s1 (ln x.Bus.Log))&&((s1 x.Stop)&&((s1 x.Halt)&&k))))))))))))
theorem a3G(x:aD)(k:Bool):i9 x k=k:=by simp[i9]
def lK(x:aD)(k:Bool):Bool:=((r1 x.R.D)&&((r1 x.R.A)&&((r1 x.Bus.Bytes)&&((r1 x.Bus.Log)&&k))))
theorem a3H(x:aD)(k:Bool):lK x k=k:=by simp[lK]
def bV(x:bA)(k:Bool):Bool:=((e1 (ln x.Cpu.R.D))&&((e1 (ln x.Cpu.R.A))&&((e1 (ln x.Cpu.Bus.Bytes))&&((e1 (ln x.Cpu.Bus.Log))&&k))))
theorem a3I(x:bA)(k:Bool):bV x k=k:=by simp[bV]
def yG(x:bA)(k:Bool):Bool:=(((bV x true&&bV x true)&&true)&&bV x k)
theorem a3J(x:bA)(k:Bool):yG x k=k:=by simp[yG,bV]
def kS(x:aH)(k:Bool):Bool:=((s1 x.Vector)&&((s1 x.PC)&&((s1 x.Addr)&&((s1 x.Word)&&((s1 x.Write)&&k)))))
theorem aJ7(x:aH)(k:Bool):kS x k=k:=by simp[kS]
def vI(x:bD)(k:Bool):Bool:=((s1 x.fx.Op)&&((s1 x.fx.Size)&&((s1 x.fx.Reg)&&((s1 x.fx.Ea.Mode)&&((s1 x.fx.Ea.Reg)&&((s1 x.fx.Ea.Ext)&&((s1 x.fx.Sub)&&((s1 x.fpc)&&((s1 x.fword)&&((s1 x.ffault.Vector)&&((s1 x.ffault.PC)&&((s1 x.ffault.Addr)&&((s1 x.ffault.Word)&&((s1 x.ffault.Write)&&k))))))))))))))
theorem aYQ(x:bD)(k:Bool):vI x k=k:=by simp[vI]
def bL(x:aO)(k:Bool):Bool:=((e1 (ln x.fr.D))&&((e1 (ln x.fr.A))&&((e1 (ln x.fbus.Bytes))&&((e1 (ln x.fbus.Log))&&k))))
theorem aYR(x:aO)(k:Bool):bL x k=k:=by simp[bL]
def bU(x:aO)(k:Bool):Bool:=(((bL x true&&bL x true)&&true)&&bL x k)
theorem aYS(x:aO)(k:Bool):bU x k=k:=by simp[bU,bL]
def KK(x:aO)(k:Bool):Bool:=((s1 (ln x.fr.D))&&((s1 (ln x.fr.A))&&((s1 x.fr.Other)&&((s1 x.fr.PC)&&((s1 x.fr.Flags)&&((s1 x.fr.Mask)&&((s1 x.fr.Super)&&((s1 x.fr.Trace)&&((s1 (ln x.fbus.Bytes))&&((s1 (ln x.fbus.Log))&&((s1 x.fstop)&&((s1 x.ffault.Vector)&&((s1 x.ffault.PC)&&((s1 x.ffault.Addr)&&((s1 x.ffault.Word)&&((s1 x.ffault.Write)&&k))))))))))))))))
theorem aYT(x:aO)(k:Bool):KK x k=k:=by simp[KK]
theorem wz:(∀t u,dd t u=(t&&u))∧(∀x k,sB x k=k)∧(∀x k,sC x k=k)∧(∀x k,aK x k=k)∧(∀x k,hX x k=k)∧(∀x k,iB x k=k)∧(∀x k,hY x k=k)∧(∀x k,bI x k=k)∧(∀x k,sD x k=k)∧(∀x k,dQ x k=k)∧(∀x k,dJ x k=k)∧(∀x k,aI x k=k)∧(∀x k,cC x k=k)∧(∀x k,i9 x k=k)∧(∀x k,lK x k=k)∧(∀x k,bV x k=k)∧(∀x k,yG x k=k)∧(∀x k,kS x k=k)∧(∀x k,vI x k=k)∧(∀x k,bL x k=k)∧(∀x k,bU x k=k)∧(∀x k,KK x k=k):=⟨bW4,a29,Z7,aYM,aYN,aYO,aYP,a3A,a3B,a3C,a3D,a3E,a3F,a3G,a3H,a3I,a3J,aJ7,aYQ,aYR,aYS,aYT⟩
def AS0(a:aG):List SV:=[(.one (.ptr 0 0 0))]
def HS0(a:aG):List Blk:=[.box [.imm true 1 a.fcode,li a.fat, .lit (.int .u64 a.fseed)]]
def DS0(N:aG→SV×List Blk)(K:aG→Bool):List SV→List Blk→Option ((SV×List Blk)×Bool)
 |[(.one (.ptr 0 0 0))],[.box [.imm true 1 c0,li c1, .lit (.int .u64 c2)]]=>some (N (aG.mk c0 c1 c2),K (aG.mk c0 c1 c2))
 |_,_=>none
theorem KL{N:aG→SV×List Blk}{K:aG→Bool}{f:Nat}(h: ∀(a:aG),K a=true→cY R f (AS0 a) (HS0 a)=some (N a)):cD f (DS0 N K):=fun _ _ _ e=>by
 unfold DS0 at e;split at e
 ·exact vO e (h _)
 ·cases e
section
variable(a:aG)
def R7:Int:=(bif (ltI a.fat (bN a.fcode))then(wA .i64 (bF a.fcode (iN a.fat) 0))else 0)
def aJ8:Int:=(bWY .u64 (bWY .u64 (b3D .u64 a.fseed 6364136223846793005) (wA .u64 (R7 a))) 1442695040888963407)
end
def a3L(a:aG):Pt (aG×Int):=(ot (ot (ot (.ok ((((fU [.int .u8] a.fcode a.fat)&&true)||(!(ltI a.fat (bN a.fcode))))&&true) (ot (ot (ot (.br (leI (aV a.fat 1) (bN a.fcode)) (ot (ot (.leaf ((aG.mk a.fcode (aV a.fat 1) (aJ8 a)),(R7 a))))) (ot (ot (.leaf ((aG.mk a.fcode (aV a.fat 1) (aJ8 a)),(wA .i64 (bEL .u64 (a22 .u64 (aJ8 a) 40) 255))))))))))))))
def CF(a:aG):aG×Int:=hid (a3L a).val
def bEM(a:aG):Bool:=hid (a3L a).okv
def bW5(a:aG)(r:aG×Int):SV×List Blk:=((.one (li r.2)),[.box [.imm true 1 r.1.fcode,li r.1.fat, .lit (.int .u64 r.1.fseed)]])
def q170:=DS0 (fun a=>bW5 a (CF a)) bEM
theorem b3G:cD 170 q170:=KL fun a hk=>tc aQT (a3L a) (bW5 a) hk
def Q170:=aX 170 q170 qnil
theorem aQZ:QO Q170:=aB b3G aQT
def AS1(b:Int)(a:aG):List SV:=[(.one (.ptr 0 0 0)),(.one (li b))]
def HS1(b:Int)(a:aG):List Blk:=[.box [.imm true 1 a.fcode,li a.fat, .lit (.int .u64 a.fseed)]]
def DS1(N:Int→aG→SV×List Blk)(K:Int→aG→Bool):List SV→List Blk→Option ((SV×List Blk)×Bool)
 |[(.one (.ptr 0 0 0)),(.one (li c0))],[.box [.imm true 1 c1,li c2, .lit (.int .u64 c3)]]=>some (N c0 (aG.mk c1 c2 c3),K c0 (aG.mk c1 c2 c3))
 |_,_=>none
theorem bL6{N:Int→aG→SV×List Blk}{K:Int→aG→Bool}{f:Nat}(h: ∀(b:Int)(a:aG),K b a=true→cY R f (AS1 b a) (HS1 b a)=some (N b a)):cD f (DS1 N K):=fun _ _ _ e=>by
 unfold DS1 at e;split at e
 ·exact vO e (h _ _)
 ·cases e
def T83(b:Int)(a:aG):Pt (aG×Int):=(ot (ot (.br (leI b 1) (ot (ot (.leaf (a,0)))) (.ok ((bEM a)&&true) (ot (.br (kV b 200) (.ok ((bEM (CF a).1)&&true) (.ok ((cU b 0)&&true) (ot (.leaf ((CF (CF a).1).1,(kD (aV (cX (CF a).2 256) (CF (CF a).1).2) b)))))) (.ok ((cU b 0)&&true) (ot (.leaf ((CF a).1,(kD (CF a).2 b)))))))))))
def cO(b:Int)(a:aG):aG×Int:=hid (T83 b a).val
def xG(b:Int)(a:aG):Bool:=hid (T83 b a).okv
def n83(b:Int)(a:aG)(r:aG×Int):SV×List Blk:=((.one (li r.2)),[.box [.imm true 1 r.1.fcode,li r.1.fat, .lit (.int .u64 r.1.fseed)]])
def q83:=DS1 (fun b a=>n83 b a (cO b a)) xG
theorem t83:cD 83 q83:=bL6 fun b a hk=>tc aQZ (T83 b a) (n83 b a) hk
def Q83:=aX 83 q83 Q170
theorem a3M:QO Q83:=aB t83 aQZ
def T84(b:Int)(a:aG):Pt (aG×Bool):=(ot (.ok ((xG b a)&&true) (ot (.leaf ((cO b a).1,(eqI (cO b a).2 0))))))
def kX(b:Int)(a:aG):aG×Bool:=hid (T84 b a).val
def Z8(b:Int)(a:aG):Bool:=hid (T84 b a).okv
def n84(b:Int)(a:aG)(r:aG×Bool):SV×List Blk:=((.one (.lit (.bool r.2))),[.box [.imm true 1 r.1.fcode,li r.1.fat, .lit (.int .u64 r.1.fseed)]])
def q84:=DS1 (fun b a=>n84 b a (kX b a)) Z8
theorem t84:cD 84 q84:=bL6 fun b a hk=>tc a3M (T84 b a) (n84 b a) hk
def Q84:=aX 84 q84 Q83
theorem aJ9:QO Q84:=aB t84 a3M
def AS2(a:Int):List SV:=[(.one (li a))]
def HS2(a:Int):List Blk:=[]
def B8(N:Int→SV×List Blk)(K:Int→Bool):List SV→List Blk→Option ((SV×List Blk)×Bool)
 |[(.one (li c0))],[]=>some (N c0,K c0)
 |_,_=>none
theorem gQ{N:Int→SV×List Blk}{K:Int→Bool}{f:Nat}(h: ∀(a:Int),K a=true→cY R f (AS2 a) (HS2 a)=some (N a)):cD f (B8 N K):=fun _ _ _ e=>by
 unfold B8 at e;split at e
 ·exact vO e (h _)
 ·cases e
def a3N(a:Int):Pt (Bool):=(ot (ot (ot (ot (.leaf (geI a 5))))))
def aKA(a:Int):Bool:=hid (a3N a).val
def aKB(a:Int):Bool:=hid (a3N a).okv
def jY(a:Int)(r:Bool):SV×List Blk:=((.one (.lit (.bool r))),[])
def q211:=B8 (fun a=>jY a (aKA a)) aKB
theorem b3H:cD 100211 q211:=gQ fun a hk=>tz aJ9 (a3N a) (jY a) hk
def Q211:=aX 100211 q211 Q84
theorem aQ0:QO Q211:=aB b3H aJ9
def AS3(b:List Row)(a:aG):List SV:=[(.one (.ptr 0 0 0)),(.one (.imm false 1 b))]
def HS3(b:List Row)(a:aG):List Blk:=[.box [.imm true 1 a.fcode,li a.fat, .lit (.int .u64 a.fseed)]]
def DS3(N:List Row→aG→SV×List Blk)(K:List Row→aG→Bool):List SV→List Blk→Option ((SV×List Blk)×Bool)
 |[(.one (.ptr 0 0 0)),(.one (.imm false 1 c0))],[.box [.imm true 1 c1,li c2, .lit (.int .u64 c3)]]=>some (N c0 (aG.mk c1 c2 c3),K c0 (aG.mk c1 c2 c3))
 |_,_=>none
theorem bW8{N:List Row→aG→SV×List Blk}{K:List Row→aG→Bool}{f:Nat}(h: ∀(b:List Row)(a:aG),K b a=true→cY R f (AS3 b a) (HS3 b a)=some (N b a)):cD f (DS3 N K):=fun _ _ _ e=>by
 unfold DS3 at e;split at e
 ·exact vO e (h _ _)
 ·cases e
def a3O(b:List Row)(a:aG):Pt (aG×Int):=(ot (.ok ((xG (bN b) a)&&((fU [.int .i64] b (cO (bN b) a).2)&&true)) (ot (.leaf ((cO (bN b) a).1,(bF b (iN (cO (bN b) a).2) 0))))))
def rE(b:List Row)(a:aG):aG×Int:=hid (a3O b a).val
def z8(b:List Row)(a:aG):Bool:=hid (a3O b a).okv
def bW9(b:List Row)(a:aG)(r:aG×Int):SV×List Blk:=((.one (li r.2)),[.box [.imm true 1 r.1.fcode,li r.1.fat, .lit (.int .u64 r.1.fseed)]])
def q107:=DS3 (fun b a=>bW9 b a (rE b a)) z8
theorem b3J:cD 107 q107:=bW8 fun b a hk=>tc aQ0 (a3O b a) (bW9 b a) hk
def Q107:=aX 107 q107 Q211
theorem aQ1:QO Q107:=aB b3J aQ0
section
variable(a:aG)
def HY:aG×Int:=(rE [(aL 0),(aL 1),(aL 2),(aL 20),(aL 100),(aL 200),(aL 384),(aL 448),(aL 65535),(aL 65534)] (cO 4 (cO 8 a).1).1)
def MJ:aG×Int:=(cO 9 (kX 60 (HY a).1).1)
def aKC:aG×Int:=(cO 2 (cO 5 (MJ a).1).1)
def HZ:aG×Bool:=(kX 60 (cO 4 (cO 8 a).1).1)
def R8:aG×Int:=(cO 5 (cO 9 (HZ a).1).1)
def H0:aG×Int:=(rE [(aL 0),(aL 1),(aL 2),(aL 20),(aL 100),(aL 200),(aL 384),(aL 448),(aL 65535),(aL 65534)] (cO 8 a).1)
def MK:aG×Int:=(cO 9 (kX 60 (H0 a).1).1)
def aKD:aG×Int:=(cO 2 (cO 5 (MK a).1).1)
def ML:aG×Int:=(cO 9 (kX 60 (cO 8 a).1).1)
def aKE:aG×Int:=(cO 2 (cO 5 (ML a).1).1)
end
def a3P(a:aG):Pt (aG×aC):=(ot (.ok ((xG 8 a)&&true) (ot (.br (ltI (cO 8 a).2 6) (.ok ((xG 4 (cO 8 a).1)&&true) (.ok ((aKB (cO 8 a).2)&&true) (.br (aKA (cO 8 a).2) (.ok ((z8 [(aL 0),(aL 1),(aL 2),(aL 20),(aL 100),(aL 200),(aL 384),(aL 448),(aL 65535),(aL 65534)] (cO 4 (cO 8 a).1).1)&&true) (.ok ((Z8 60 (HY a).1)&&true) (.br (kX 60 (HY a).1).2 (.ok ((xG 9 (kX 60 (HY a).1).1)&&((xG 5 (MJ a).1)&&((xG 2 (cO 5 (MJ a).1).1)&&true))) (ot (ot (.leaf ((aKC a).1,(aC.mk (MJ a).2 (cO 5 (MJ a).1).2 (aKC a).2)))))) (ot (ot (.leaf ((kX 60 (HY a).1).1,(aC.mk (cO 8 a).2 (cO 4 (cO 8 a).1).2 (HY a).2)))))))) (.ok ((Z8 60 (cO 4 (cO 8 a).1).1)&&true) (.br (HZ a).2 (.ok ((xG 9 (HZ a).1)&&((xG 5 (cO 9 (HZ a).1).1)&&((xG 2 (R8 a).1)&&true))) (ot (ot (.leaf ((cO 2 (R8 a).1).1,(aC.mk (cO 9 (HZ a).1).2 (R8 a).2 (cO 2 (R8 a).1).2)))))) (ot (ot (.leaf ((HZ a).1,(aC.mk (cO 8 a).2 (cO 4 (cO 8 a).1).2 0)))))))))) (.ok ((aKB (cO 8 a).2)&&true) (.br (aKA (cO 8 a).2) (.ok ((z8 [(aL 0),(aL 1),(aL 2),(aL 20),(aL 100),(aL 200),(aL 384),(aL 448),(aL 65535),(aL 65534)] (cO 8 a).1)&&true) (.ok ((Z8 60 (H0 a).1)&&true) (.br (kX 60 (H0 a).1).2 (.ok ((xG 9 (kX 60 (H0 a).1).1)&&((xG 5 (MK a).1)&&((xG 2 (cO 5 (MK a).1).1)&&true))) (ot (ot (.leaf ((aKD a).1,(aC.mk (MK a).2 (cO 5 (MK a).1).2 (aKD a).2)))))) (ot (ot (.leaf ((kX 60 (H0 a).1).1,(aC.mk (cO 8 a).2 0 (H0 a).2)))))))) (.ok ((Z8 60 (cO 8 a).1)&&true) (.br (kX 60 (cO 8 a).1).2 (.ok ((xG 9 (kX 60 (cO 8 a).1).1)&&((xG 5 (ML a).1)&&((xG 2 (cO 5 (ML a).1).1)&&true))) (ot (ot (.leaf ((aKE a).1,(aC.mk (ML a).2 (cO 5 (ML a).1).2 (aKE a).2)))))) (ot (ot (.leaf ((kX 60 (cO 8 a).1).1,(aC.mk (cO 8 a).2 0 0)))))))))))))
def sE(a:aG):aG×aC:=hid (a3P a).val
def bEN(a:aG):Bool:=hid (a3P a).okv
def bXA(a:aG)(r:aG×aC):SV×List Blk:=((.agg [li r.2.Mode,li r.2.Reg,li r.2.Ext]),[.box [.imm true 1 r.1.fcode,li r.1.fat, .lit (.int .u64 r.1.fseed)]])
def q169:=DS0 (fun a=>bXA a (sE a)) bEN
theorem b3K:cD 169 q169:=KL fun a hk=>tc aQ1 (a3P a) (bXA a) hk
def Q169:=aX 169 q169 Q107
theorem aQ2:QO Q169:=aB b3K aQ1
def AS4(a:Bool)(b:Int):List SV:=[(.one (.lit (.bool a))),(.one (li b))]
def HS4(a:Bool)(b:Int):List Blk:=[]
def DS4(N:Bool→Int→SV×List Blk)(K:Bool→Int→Bool):List SV→List Blk→Option ((SV×List Blk)×Bool)
 |[(.one (.lit (.bool c0))),(.one (li c1))],[]=>some (N c0 c1,K c0 c1)
 |_,_=>none
theorem bL7{N:Bool→Int→SV×List Blk}{K:Bool→Int→Bool}{f:Nat}(h: ∀(a:Bool)(b:Int),K a b=true→cY R f (AS4 a b) (HS4 a b)=some (N a b)):cD f (DS4 N K):=fun _ _ _ e=>by
 unfold DS4 at e;split at e
 ·exact vO e (h _ _)
 ·cases e
def aKF(a:Bool)(b:Int):Pt (Int):=(ot (ot (.br a (ot (ot (ot (.leaf b)))) (ot (ot (ot (.leaf 0)))))))
def yH(a:Bool)(b:Int):Int:=hid (aKF a b).val
def yI(a:Bool)(b:Int):Bool:=hid (aKF a b).okv
def bEO(a:Bool)(b:Int)(r:Int):SV×List Blk:=((.one (li r)),[])
def q189:=DS4 (fun a b=>bEO a b (yH a b)) yI
theorem b3L:cD 100189 q189:=bL7 fun a b hk=>tz aQ2 (aKF a b) (bEO a b) hk
def Q189:=aX 100189 q189 Q169
theorem aQ3:QO Q189:=aB b3L aQ2
def aKG(a:Int):Pt (Bool):=(ot (ot (ot (ot (.leaf (bif (eqI a 1)then true else(eqI a 2)))))))
def aGN(a:Int):Bool:=hid (aKG a).val
def aYU(a:Int):Bool:=hid (aKG a).okv
def q158:=B8 (fun a=>jY a (aGN a)) aYU
theorem b3M:cD 100158 q158:=gQ fun a hk=>tz aQ3 (aKG a) (jY a) hk
def Q158:=aX 100158 q158 Q189
theorem aQ4:QO Q158:=aB b3M aQ3
def AS5(a:Int)(b:Int)(c:Int):List SV:=[(.one (li a)),(.one (li b)),(.one (li c))]
def HS5(a:Int)(b:Int)(c:Int):List Blk:=[]
def DS5(N:Int→Int→Int→SV×List Blk)(K:Int→Int→Int→Bool):List SV→List Blk→Option ((SV×List Blk)×Bool)
 |[(.one (li c0)),(.one (li c1)),(.one (li c2))],[]=>some (N c0 c1 c2,K c0 c1 c2)
 |_,_=>none
theorem C9{N:Int→Int→Int→SV×List Blk}{K:Int→Int→Int→Bool}{f:Nat}(h: ∀(a:Int)(b:Int)(c:Int),K a b c=true→cY R f (AS5 a b c) (HS5 a b c)=some (N a b c)):cD f (DS5 N K):=fun _ _ _ e=>by
 unfold DS5 at e;split at e
 ·exact vO e (h _ _ _)
 ·cases e
def a3Q(a:Int)(b:Int)(c:Int):Pt (Bool):=(ot (ot (ot (ot (.leaf (bif (geI a b)then(leI a c)else false))))))
def tU(a:Int)(b:Int)(c:Int):Bool:=hid (a3Q a b c).val
def wB(a:Int)(b:Int)(c:Int):Bool:=hid (a3Q a b c).okv
def bEP(a:Int)(b:Int)(c:Int)(r:Bool):SV×List Blk:=((.one (.lit (.bool r))),[])
def q113:=DS5 (fun a b c=>bEP a b c (tU a b c)) wB
theorem b3N:cD 100113 q113:=C9 fun a b c hk=>tz aQ4 (a3Q a b c) (bEP a b c) hk
def Q113:=aX 100113 q113 Q158
theorem aQ5:QO Q113:=aB b3N aQ4
def T92(a:Int):Pt (Bool):=(ot (.ok ((wB a 0 65535)&&true) (ot (ot (.leaf (tU a 0 65535))))))
def g92(a:Int):Bool:=hid (T92 a).val
def k92(a:Int):Bool:=hid (T92 a).okv
def q92:=B8 (fun a=>jY a (g92 a)) k92
theorem t92:cD 100092 q92:=gQ fun a hk=>tz aQ5 (T92 a) (jY a) hk
def Q92:=aX 100092 q92 Q113
theorem a3R:QO Q92:=aB t92 aQ5
def AS6(a:aC):List SV:=[(.agg [li a.Mode,li a.Reg,li a.Ext])]
def HS6(a:aC):List Blk:=[]
def DS6(N:aC→SV×List Blk)(K:aC→Bool):List SV→List Blk→Option ((SV×List Blk)×Bool)
 |[(.agg [li c0,li c1,li c2])],[]=>some (N (aC.mk c0 c1 c2),K (aC.mk c0 c1 c2))
 |_,_=>none
theorem aGO{N:aC→SV×List Blk}{K:aC→Bool}{f:Nat}(h: ∀(a:aC),K a=true→cY R f (AS6 a) (HS6 a)=some (N a)):cD f (DS6 N K):=fun _ _ _ e=>by
 unfold DS6 at e;split at e
 ·exact vO e (h _)
 ·cases e
def a3S(a:aC):Pt (Bool):=(ot (.ok ((wB a.Mode 0 7)&&((((wB a.Reg 0 3)&&true)||(!(tU a.Mode 0 7)))&&true)) (.br (bif (bif (!(tU a.Mode 0 7))then true else(!(tU a.Reg 0 3)))then true else(bif (geI a.Mode 6)then(cU a.Reg 0)else false)) (ot (ot (ot (.leaf false)))) (.ok ((k92 a.Ext)&&((((aKB a.Mode)&&true)||(!(g92 a.Ext)))&&true)) (ot (ot (.leaf (bif (g92 a.Ext)then(bif (aKA a.Mode)then true else(eqI a.Ext 0))else false))))))))
def bN1(a:aC):Bool:=hid (a3S a).val
def bN2(a:aC):Bool:=hid (a3S a).okv
def WM(a:aC)(r:Bool):SV×List Blk:=((.one (.lit (.bool r))),[])
def q178:=DS6 (fun a=>WM a (bN1 a)) bN2
theorem b3O:cD 100178 q178:=aGO fun a hk=>tz a3R (a3S a) (WM a) hk
def Q178:=aX 100178 q178 Q92
theorem aQ6:QO Q178:=aB b3O a3R
def a3T(a:Int):Pt (Bool):=(ot (.ok ((wB a 2 6)&&true) (ot (ot (.leaf (tU a 2 6))))))
def bN3(a:Int):Bool:=hid (a3T a).val
def bN4(a:Int):Bool:=hid (a3T a).okv
def q179:=B8 (fun a=>jY a (bN3 a)) bN4
theorem b3P:cD 100179 q179:=gQ fun a hk=>tz aQ6 (a3T a) (jY a) hk
def Q179:=aX 100179 q179 Q178
theorem aQ7:QO Q179:=aB b3P aQ6
def a3U(a:Int):Pt (Bool):=(ot (ot (ot (ot (.leaf (bif (bif (eqI a 2)then true else(eqI a 5))then true else(eqI a 6)))))))
def bER(a:Int):Bool:=hid (a3U a).val
def bES(a:Int):Bool:=hid (a3U a).okv
def q180:=B8 (fun a=>jY a (bER a)) bES
theorem b3Q:cD 100180 q180:=gQ fun a hk=>tz aQ7 (a3U a) (jY a) hk
def Q180:=aX 100180 q180 Q179
theorem aQ8:QO Q180:=aB b3Q aQ7
def a3V(a:aC):Pt (Bool):=(ot (ot (ot (ot (.leaf (bif (eqI a.Mode 7)then(leI a.Ext 1023)else false))))))
def bET(a:aC):Bool:=hid (a3V a).val
def bEU(a:aC):Bool:=hid (a3V a).okv
def q181:=DS6 (fun a=>WM a (bET a)) bEU
theorem b3R:cD 100181 q181:=aGO fun a hk=>tz aQ8 (a3V a) (WM a) hk
def Q181:=aX 100181 q181 Q180
theorem aQ9:QO Q181:=aB b3R aQ8
def a3W(a:aC):Pt (Bool):=(ot (ot (ot (ot (.leaf ((eqI a.Mode 0)&&((eqI a.Reg 0)&&((eqI a.Ext 0)&&true))))))))
def bEV(a:aC):Bool:=hid (a3W a).val
def bEW(a:aC):Bool:=hid (a3W a).okv
def q182:=DS6 (fun a=>WM a (bEV a)) bEW
theorem b3S:cD 100182 q182:=aGO fun a hk=>tz aQ9 (a3W a) (WM a) hk
def Q182:=aX 100182 q182 Q181
theorem aRA:QO Q182:=aB b3S aQ9
def AS7(a:aN):List SV:=[(.agg [li a.Op,li a.Size,li a.Reg,li a.Ea.Mode,li a.Ea.Reg,li a.Ea.Ext,li a.Sub])]
def HS7(a:aN):List Blk:=[]
def DS7(N:aN→SV×List Blk)(K:aN→Bool):List SV→List Blk→Option ((SV×List Blk)×Bool)
 |[(.agg [li c0,li c1,li c2,li c3,li c4,li c5,li c6])],[]=>some (N (aN.mk c0 c1 c2 (aC.mk c3 c4 c5) c6),K (aN.mk c0 c1 c2 (aC.mk c3 c4 c5) c6))
 |_,_=>none
theorem OV{N:aN→SV×List Blk}{K:aN→Bool}{f:Nat}(h: ∀(a:aN),K a=true→cY R f (AS7 a) (HS7 a)=some (N a)):cD f (DS7 N K):=fun _ _ _ e=>by
 unfold DS7 at e;split at e
 ·exact vO e (h _)
 ·cases e
section
variable(a:aN)
def a3X:Bool:=(bif (!(aGN a.Size))then true else(!(tU a.Reg 0 3)))
def a3Y:Bool:=(bif (a3X a)then true else(!(bN1 a.Ea)))
def a3Z:Bool:=((((bN4 a.Ea.Mode)&&true)||(eqI a.Ea.Mode 0))&&true)
def a30:Bool:=(bif (eqI a.Ea.Mode 0)then true else(bN3 a.Ea.Mode))
def aGP:Bool:=(bif (eqI a.Size 2)then(eqI a.Sub 0)else false)
def a31:Bool:=(bif (eqI a.Reg 0)then(leI a.Sub 3)else false)
def aRB:Bool:=(bif (eqI a.Size 2)then(eqI a.Reg 0)else false)
def a32:Bool:=(bif (aRB a)then(leI a.Sub 1)else false)
def a33:Bool:=(bif (eqI a.Sub 0)then(eqI a.Reg 0)else false)
def a34:Bool:=(bif (a33 a)then(bET a.Ea)else false)
def aKH:Bool:=(bif (eqI a.Size 2)then(leI a.Sub 6)else false)
end
def T91(a:aN):Pt (Bool):=(ot (.ok ((aYU a.Size)&&((((wB a.Reg 0 3)&&true)||(!(aGN a.Size)))&&((((bN2 a.Ea)&&true)||(a3X a))&&((((wB a.Sub 0 7)&&true)||(a3Y a))&&true)))) (.br (bif (bif (a3Y a)then true else(!(tU a.Sub 0 7)))then true else(bif (bif (eqI a.Ea.Mode 7)then(eqI a.Size 1)else false)then(kV a.Ea.Ext 255)else false)) (ot (ot (ot (.leaf false)))) (ot (ot (ot (ot (ot (.br (bif (eqI a.Op 1)then(eqI a.Op 1)else(bif (eqI a.Op 3)then(eqI a.Op 3)else(bif (eqI a.Op 4)then(eqI a.Op 4)else(bif (eqI a.Op 5)then(eqI a.Op 5)else(bif (eqI a.Op 6)then(eqI a.Op 6)else(bif (eqI a.Op 7)then(eqI a.Op 7)else(eqI a.Op 8))))))) (ot (ot (ot (.leaf (bif (eqI a.Sub 0)then(bif (eqI a.Size 2)then true else(cU a.Ea.Mode 1))else false))))) (ot (.br (eqI a.Op 2) (.ok (((a3Z a)||(!(eqI a.Sub 0)))&&true) (ot (ot (.leaf (bif (eqI a.Sub 0)then(a30 a)else false))))) (ot (.br (eqI a.Op 9) (ot (ot (ot (.leaf (aGP a))))) (ot (.br (eqI a.Op 10) (.ok ((((bES a.Ea.Mode)&&true)||(!(aGP a)))&&true) (ot (ot (.leaf (bif (aGP a)then(bER a.Ea.Mode)else false))))) (ot (.br (eqI a.Op 11) (.ok (((a3Z a)||(!(a31 a)))&&true) (ot (ot (.leaf (bif (a31 a)then(a30 a)else false))))) (ot (.br (eqI a.Op 12) (ot (ot (ot (.leaf (eqI a.Ea.Mode 0))))) (ot (.br (eqI a.Op 13) (ot (ot (ot (.leaf (bif (bif (eqI a.Size 2)then(leI a.Reg 1)else false)then(eqI a.Ea.Mode 7)else false))))) (ot (.br (eqI a.Op 14) (.ok ((((bES a.Ea.Mode)&&true)||(!(a32 a)))&&true) (ot (ot (.leaf (bif (a32 a)then(bER a.Ea.Mode)else false))))) (ot (ot (.br (bif (eqI a.Op 16)then(eqI a.Op 16)else(eqI a.Op 17)) (ot (ot (ot (.leaf (bif (aGP a)then(cU a.Ea.Mode 1)else false))))) (ot (.br (eqI a.Op 18) (ot (ot (ot (.leaf (bif (bif (!(eqI a.Size 2))then(leI a.Sub 1)else false)then(eqI a.Ea.Mode 0)else false))))) (ot (.br (eqI a.Op 19) (.ok ((((((bEU a.Ea)&&true)||(!(a33 a)))&&((((((bEW a.Ea)&&true)||(!(eqI a.Sub 1)))&&true)||(a34 a))&&true))||(!(eqI a.Size 2)))&&true) (ot (ot (.leaf (bif (eqI a.Size 2)then(bif (a34 a)then true else(bif (eqI a.Sub 1)then(bEV a.Ea)else false))else false))))) (ot (.br (eqI a.Op 15) (ot (.br (eqI a.Sub 3) (.ok ((((bEU a.Ea)&&true)||(!(aRB a)))&&true) (ot (ot (.leaf (bif (aRB a)then(bET a.Ea)else false))))) (.ok ((((bEW a.Ea)&&true)||(!(aKH a)))&&true) (ot (ot (.leaf (bif (bif (aKH a)then(bEV a.Ea)else false)then(bif (kV a.Sub 3)then true else(eqI a.Reg 0))else false))))))) (ot (ot (ot (.leaf false))))))))))))))))))))))))))))))))))))
def OW(a:aN):Bool:=hid (T91 a).val
def OX(a:aN):Bool:=hid (T91 a).okv
def n91(a:aN)(r:Bool):SV×List Blk:=((.one (.lit (.bool r))),[])
def q91:=DS7 (fun a=>n91 a (OW a)) OX
theorem t91:cD 100091 q91:=OV fun a hk=>tz aRA (T91 a) (n91 a) hk
def Q91:=aX 100091 q91 Q182
theorem aKI:QO Q91:=aB t91 aRA
structure V168_0 where
 mk::
 (b0:aG)
 (b1:aN)
 (s3:Int)
section
variable(v:V168_0)
def cI:aG×Int:=(cO 4 (cO 2 (cO 19 v.b0).1).1)
def H1:Bool:=(eqI (aV 1 (cO 2 (cO 19 v.b0).1).2) 1)
def H2:Bool:=(bif (H1 v)then(eqI (sE (cI v).1).2.Mode 7)else false)
def lL:aC:={(sE (cI v).1).2 with Ext:=(aZ (sE (cI v).1).2.Ext 255)}
def pU:aG×Int:=(cO 4 (sE (cI v).1).1)
def A6:Bool:=(xG 2 (sE (cI v).1).1)
def dC:aG×Int:=(cO 2 (sE (cI v).1).1)
def A7:Bool:=(((A6 v)&&((xG 7 (dC v).1)&&((yI (eqI (aV 1 (cO 19 v.b0).2) 12) 1)&&true)))&&true)
def sF:Int:=(cX (dC v).2 (aV 1 (cX (cO 7 (dC v).1).2 (yH (eqI (aV 1 (cO 19 v.b0).2) 12) 1))))
def H3:Bool:=(((s1 v.s3)&&true)&&((((s1 true)&&(r1 (cO 7 (dC v).1).1.fcode))&&((s1 (cO 7 (dC v).1).1.fat)&&((s1 (cO 7 (dC v).1).1.fseed)&&true)))&&((sB v.b1 true)&&(((s1 (aV 1 (cO 19 v.b0).2))&&((s1 (aV 1 (cO 2 (cO 19 v.b0).1).2))&&((s1 (cI v).2)&&(sC (sE (cI v).1).2 ((s1 (sF v))&&true)))))&&true))))
def qL:aG×Int:=(cO 4 (cO 7 (dC v).1).1)
def DA:Bool:=((OX (aN.mk (aV 1 (cO 19 v.b0).2) 1 (cI v).2 (aC.mk 0 (qL v).2 0) (aZ (sF v) 7)))&&true)
def DB:Bool:=(OW (aN.mk (aV 1 (cO 19 v.b0).2) 1 (cI v).2 (aC.mk 0 (qL v).2 0) (aZ (sF v) 7)))
def tK:V168_0:=(V168_0.mk (qL v).1 v.b1 (aV v.s3 1))
def DC:Bool:=((OX (aN.mk (aV 1 (cO 19 v.b0).2) (aV 1 (cO 2 (cO 19 v.b0).1).2) (cI v).2 (aC.mk 0 (qL v).2 0) (aZ (sF v) 7)))&&true)
def DD:Bool:=(OW (aN.mk (aV 1 (cO 19 v.b0).2) (aV 1 (cO 2 (cO 19 v.b0).1).2) (cI v).2 (aC.mk 0 (qL v).2 0) (aZ (sF v) 7)))
def nY:aG×Int:=(rE [(aL 2),(aL 4),(aL 6),(aL 8),(aL 65526),(aL 65530),(aL 0),(aL 3)] (cO 8 (dC v).1).1)
def dK:aG×Int:=(rE [(aL 0),(aL 1),(aL 2),(aL 2),(aL 3),(aL 4),(aL 5),(aL 6)] (sE (cI v).1).1)
def hG:aG×Int:=(cO 4 (dK v).1)
def nZ:aG×Int:=(rE [(aL 0),(aL 256),(aL 512),(aL 1023)] (hG v).1)
def DE:Bool:=((OX (aN.mk 15 2 (hG v).2 (aC.mk 0 0 0) (dK v).2))&&true)
def DF:Bool:=(OW (aN.mk 15 2 (hG v).2 (aC.mk 0 0 0) (dK v).2))
def oA:aG×Int:=(rE [(aL 0),(aL 256),(aL 512),(aL 1023)] (dK v).1)
def DG:Bool:=((OX (aN.mk 15 2 0 (aC.mk 0 0 0) (dK v).2))&&true)
def DH:Bool:=(OW (aN.mk 15 2 0 (aC.mk 0 0 0) (dK v).2))
def oB:aG×Int:=(rE [(aL 0),(aL 256),(aL 480),(aL 768),(aL 31)] (sE (cI v).1).1)
def qM:aG×Bool:=(kX 2 (oB v).1)
def tM:aG×Int:=(cO 4 (qM v).1)
def DI:Bool:=((OX (aN.mk 19 2 (tM v).2 (aC.mk 0 0 0) 1))&&true)
def DJ:Bool:=(OW (aN.mk 19 2 (tM v).2 (aC.mk 0 0 0) 1))
def tN:V168_0:=(V168_0.mk (sE (cI v).1).1 v.b1 (aV v.s3 1))
end
def DK(v:V168_0):Pt (Option V168_0):=(ot (.br (ltI v.s3 6) (.ok ((xG 19 v.b0)&&((xG 2 (cO 19 v.b0).1)&&((xG 4 (cO 2 (cO 19 v.b0).1).1)&&((bEN (cI v).1)&&true)))) (ot (ot (.br (eqI (aV 1 (cO 19 v.b0).2) 11) (ot (.ok ((xG 4 (sE (cI v).1).1)&&true) (ot (.br (H2 v) (ot (.ok ((OX (aN.mk (aV 1 (cO 19 v.b0).2) (aV 1 (cO 2 (cO 19 v.b0).1).2) 0 (lL v) (pU v).2))&&true) (.br (OW (aN.mk (aV 1 (cO 19 v.b0).2) (aV 1 (cO 2 (cO 19 v.b0).1).2) 0 (lL v) (pU v).2)) (ot (.leaf none)) (ot (ot (.leaf (some (V168_0.mk (pU v).1 v.b1 (aV v.s3 1))))))))) (.ok ((OX (aN.mk (aV 1 (cO 19 v.b0).2) (aV 1 (cO 2 (cO 19 v.b0).1).2) 0 (sE (cI v).1).2 (pU v).2))&&true) (.br (OW (aN.mk (aV 1 (cO 19 v.b0).2) (aV 1 (cO 2 (cO 19 v.b0).1).2) 0 (sE (cI v).1).2 (pU v).2)) (ot (.leaf none)) (ot (ot (.leaf (some (V168_0.mk (pU v).1 v.b1 (aV v.s3 1)))))))))))) (ot (ot (.br (bif (eqI (aV 1 (cO 19 v.b0).2) 12)then(eqI (aV 1 (cO 19 v.b0).2) 12)else(eqI (aV 1 (cO 19 v.b0).2) 18)) (.ok ((A7 v)&&(((A7 v)&&((A7 v)&&(H3 v)))&&(H3 v))) (ot (.ok ((xG 4 (cO 7 (dC v).1).1)&&true) (ot (.br (eqI (aV 1 (cO 19 v.b0).2) 18) (ot (ot (.br false (ot (.ok (DA v) (.br (DB v) (ot (.leaf none)) (ot (ot (.leaf (some (tK v)))))))) (.ok (DA v) (.br (DB v) (ot (.leaf none)) (ot (ot (.leaf (some (tK v)))))))))) (ot (.br (bif (H1 v)then false else false) (ot (.ok (DC v) (.br (DD v) (ot (.leaf none)) (ot (ot (.leaf (some (tK v)))))))) (.ok (DC v) (.br (DD v) (ot (.leaf none)) (ot (ot (.leaf (some (tK v)))))))))))))) (ot (.br (eqI (aV 1 (cO 19 v.b0).2) 13) (.ok ((A6 v)&&((xG 8 (dC v).1)&&((z8 [(aL 2),(aL 4),(aL 6),(aL 8),(aL 65526),(aL 65530),(aL 0),(aL 3)] (cO 8 (dC v).1).1)&&true))) (ot (.br false (ot (.ok ((OX (aN.mk 13 2 (dC v).2 (aC.mk 7 0 (aZ (nY v).2 255)) (cO 8 (dC v).1).2))&&true) (.br (OW (aN.mk 13 2 (dC v).2 (aC.mk 7 0 (aZ (nY v).2 255)) (cO 8 (dC v).1).2)) (ot (.leaf none)) (ot (ot (.leaf (some (V168_0.mk (nY v).1 v.b1 (aV v.s3 1))))))))) (.ok ((OX (aN.mk 13 2 (dC v).2 (aC.mk 7 0 (nY v).2) (cO 8 (dC v).1).2))&&true) (.br (OW (aN.mk 13 2 (dC v).2 (aC.mk 7 0 (nY v).2) (cO 8 (dC v).1).2)) (ot (.leaf none)) (ot (ot (.leaf (some (V168_0.mk (nY v).1 v.b1 (aV v.s3 1))))))))))) (ot (.br (eqI (aV 1 (cO 19 v.b0).2) 14) (ot (ot (.ok ((A6 v)&&true) (ot (.br false (ot (.ok ((OX (aN.mk (aV 1 (cO 19 v.b0).2) 2 0 (lL v) (dC v).2))&&true) (.br (OW (aN.mk (aV 1 (cO 19 v.b0).2) 2 0 (lL v) (dC v).2)) (ot (.leaf none)) (ot (ot (.leaf (some (V168_0.mk (dC v).1 v.b1 (aV v.s3 1))))))))) (.ok ((OX (aN.mk (aV 1 (cO 19 v.b0).2) 2 0 (sE (cI v).1).2 (dC v).2))&&true) (.br (OW (aN.mk (aV 1 (cO 19 v.b0).2) 2 0 (sE (cI v).1).2 (dC v).2)) (ot (.leaf none)) (ot (ot (.leaf (some (V168_0.mk (dC v).1 v.b1 (aV v.s3 1))))))))))))) (ot (.br (eqI (aV 1 (cO 19 v.b0).2) 15) (.ok ((z8 [(aL 0),(aL 1),(aL 2),(aL 2),(aL 3),(aL 4),(aL 5),(aL 6)] (sE (cI v).1).1)&&true) (ot (.br (kV (dK v).2 3) (.ok ((xG 4 (dK v).1)&&true) (ot (.br (eqI (dK v).2 3) (.ok ((z8 [(aL 0),(aL 256),(aL 512),(aL 1023)] (hG v).1)&&true) (ot (.br false (ot (.ok ((OX (aN.mk 15 2 (hG v).2 (aC.mk 7 0 (aZ (nZ v).2 255)) (dK v).2))&&true) (.br (OW (aN.mk 15 2 (hG v).2 (aC.mk 7 0 (aZ (nZ v).2 255)) (dK v).2)) (ot (.leaf none)) (ot (ot (.leaf (some (V168_0.mk (nZ v).1 v.b1 (aV v.s3 1))))))))) (.ok ((OX (aN.mk 15 2 (hG v).2 (aC.mk 7 0 (nZ v).2) (dK v).2))&&true) (.br (OW (aN.mk 15 2 (hG v).2 (aC.mk 7 0 (nZ v).2) (dK v).2)) (ot (.leaf none)) (ot (ot (.leaf (some (V168_0.mk (nZ v).1 v.b1 (aV v.s3 1))))))))))) (ot (.br false (ot (.ok (DE v) (.br (DF v) (ot (.leaf none)) (ot (ot (.leaf (some (V168_0.mk (hG v).1 v.b1 (aV v.s3 1))))))))) (.ok (DE v) (.br (DF v) (ot (.leaf none)) (ot (ot (.leaf (some (V168_0.mk (hG v).1 v.b1 (aV v.s3 1))))))))))))) (ot (.br (eqI (dK v).2 3) (.ok ((z8 [(aL 0),(aL 256),(aL 512),(aL 1023)] (dK v).1)&&true) (ot (.br false (ot (.ok ((OX (aN.mk 15 2 0 (aC.mk 7 0 (aZ (oA v).2 255)) (dK v).2))&&true) (.br (OW (aN.mk 15 2 0 (aC.mk 7 0 (aZ (oA v).2 255)) (dK v).2)) (ot (.leaf none)) (ot (ot (.leaf (some (V168_0.mk (oA v).1 v.b1 (aV v.s3 1))))))))) (.ok ((OX (aN.mk 15 2 0 (aC.mk 7 0 (oA v).2) (dK v).2))&&true) (.br (OW (aN.mk 15 2 0 (aC.mk 7 0 (oA v).2) (dK v).2)) (ot (.leaf none)) (ot (ot (.leaf (some (V168_0.mk (oA v).1 v.b1 (aV v.s3 1))))))))))) (ot (.br false (ot (.ok (DG v) (.br (DH v) (ot (.leaf none)) (ot (ot (.leaf (some (V168_0.mk (dK v).1 v.b1 (aV v.s3 1))))))))) (.ok (DG v) (.br (DH v) (ot (.leaf none)) (ot (ot (.leaf (some (V168_0.mk (dK v).1 v.b1 (aV v.s3 1))))))))))))))) (ot (.br (eqI (aV 1 (cO 19 v.b0).2) 19) (.ok ((z8 [(aL 0),(aL 256),(aL 480),(aL 768),(aL 31)] (sE (cI v).1).1)&&true) (.ok ((Z8 2 (oB v).1)&&true) (.br (qM v).2 (.ok ((xG 4 (qM v).1)&&true) (ot (.br false (ot (.ok (DI v) (.br (DJ v) (ot (.leaf none)) (ot (ot (.leaf (some (V168_0.mk (tM v).1 v.b1 (aV v.s3 1))))))))) (.ok (DI v) (.br (DJ v) (ot (.leaf none)) (ot (ot (.leaf (some (V168_0.mk (tM v).1 v.b1 (aV v.s3 1))))))))))) (ot (.br false (ot (.ok ((OX (aN.mk 19 2 0 (aC.mk 7 0 (aZ (oB v).2 255)) 0))&&true) (.br (OW (aN.mk 19 2 0 (aC.mk 7 0 (aZ (oB v).2 255)) 0)) (ot (.leaf none)) (ot (ot (.leaf (some (V168_0.mk (qM v).1 v.b1 (aV v.s3 1))))))))) (.ok ((OX (aN.mk 19 2 0 (aC.mk 7 0 (oB v).2) 0))&&true) (.br (OW (aN.mk 19 2 0 (aC.mk 7 0 (oB v).2) 0)) (ot (.leaf none)) (ot (ot (.leaf (some (V168_0.mk (qM v).1 v.b1 (aV v.s3 1))))))))))))) (ot (ot (.br (bif (eqI (aV 1 (cO 19 v.b0).2) 16)then(eqI (aV 1 (cO 19 v.b0).2) 16)else(bif (eqI (aV 1 (cO 19 v.b0).2) 17)then(eqI (aV 1 (cO 19 v.b0).2) 17)else(bif (eqI (aV 1 (cO 19 v.b0).2) 9)then(eqI (aV 1 (cO 19 v.b0).2) 9)else(eqI (aV 1 (cO 19 v.b0).2) 10)))) (ot (ot (.br false (ot (.ok ((OX (aN.mk (aV 1 (cO 19 v.b0).2) 2 (cI v).2 (lL v) 0))&&true) (.br (OW (aN.mk (aV 1 (cO 19 v.b0).2) 2 (cI v).2 (lL v) 0)) (ot (.leaf none)) (ot (ot (.leaf (some (tN v)))))))) (.ok ((OX (aN.mk (aV 1 (cO 19 v.b0).2) 2 (cI v).2 (sE (cI v).1).2 0))&&true) (.br (OW (aN.mk (aV 1 (cO 19 v.b0).2) 2 (cI v).2 (sE (cI v).1).2 0)) (ot (.leaf none)) (ot (ot (.leaf (some (tN v)))))))))) (ot (.br (H2 v) (ot (.ok ((OX (aN.mk (aV 1 (cO 19 v.b0).2) (aV 1 (cO 2 (cO 19 v.b0).1).2) (cI v).2 (lL v) 0))&&true) (.br (OW (aN.mk (aV 1 (cO 19 v.b0).2) (aV 1 (cO 2 (cO 19 v.b0).1).2) (cI v).2 (lL v) 0)) (ot (.leaf none)) (ot (ot (.leaf (some (tN v)))))))) (.ok ((OX (aN.mk (aV 1 (cO 19 v.b0).2) (aV 1 (cO 2 (cO 19 v.b0).1).2) (cI v).2 (sE (cI v).1).2 0))&&true) (.br (OW (aN.mk (aV 1 (cO 19 v.b0).2) (aV 1 (cO 2 (cO 19 v.b0).1).2) (cI v).2 (sE (cI v).1).2 0)) (ot (.leaf none)) (ot (ot (.leaf (some (tN v))))))))))))))))))))))))))) (.leaf none)))
def R9(v:V168_0):St:=⟨[(0,(.one (.ptr 0 0 0))),(2,(.one (.ptr 1 0 0))),(3,(.one (li v.s3)))],[.box [.imm true 1 v.b0.fcode,li v.b0.fat, .lit (.int .u64 v.b0.fseed)], .box [li v.b1.Op,li v.b1.Size,li v.b1.Reg,li v.b1.Ea.Mode,li v.b1.Ea.Reg,li v.b1.Ea.Ext,li v.b1.Sub]]⟩
def Z9:St→Option (V168_0×Bool)
 |⟨[(0,(.one (.ptr 0 0 0))),(2,(.one (.ptr 1 0 0))),(3,(.one (li c10)))],[.box [.imm true 1 c0,li c1, .lit (.int .u64 c2)], .box [li c3,li c4,li c5,li c6,li c7,li c8,li c9]]⟩=>some ((V168_0.mk (aG.mk c0 c1 c2) (aN.mk c3 c4 c5 (aC.mk c6 c7 c8) c9) c10),true)
 |_=>none
def aAA:St→Option (Pt Out):=vH Q91 ([]++CD 168) [] true [] 1 9223372036854775808 aJR
theorem bEX(v:V168_0):((aAA (R9 v)).bind (pG true false 1 [0,2,3]))=some ((DK v).map (Option.map R9)):=by kernel_rfl
theorem bEY(σ:St)(v:V168_0)(h:Z9 σ=some (v,true)):σ=R9 v:=by
 unfold Z9 at h;split at h
 ·obtain⟨hr,hk⟩:=qp (qi h);rw[←hr];rfl
 ·simp at h
theorem bEZ:cK (qU true false 1 [0,2,3] aAA Z9 R9 DK 9223372036854775808) (eY R 1 9223372036854775808 (.loop [0,2,3] aJR)):=dD (cL aKI (bT (l:=[]) (by kernel_rfl) trivial)) bEY bEX
def bE0:Lp:=(5,qU true false 1 [0,2,3] aAA Z9 R9 DK 9223372036854775808)::[]
def aKJ(v:V168_0):V168_0:=(hid (dB DK 9223372036854775808 v)).getD v
def aKK(v:V168_0):Bool:=(hid (dB DK 9223372036854775808 v)).isSome
section
variable(a:aG)
def gJ:V168_0:=(aKJ (V168_0.mk a (aN.mk 0 0 0 (aC.mk 0 0 0) 0) 0))
def mH:aG×Int:=(cO 2 (cO 19 (gJ a).b0).1)
def gK:aG×aC:=(sE (cO 4 (mH a).1).1)
def aKL:Bool:=(bif (eqI (aV 1 (mH a).2) 1)then(eqI (gK a).2.Mode 7)else false)
def SA:aC:={(gK a).2 with Ext:=(aZ (gK a).2.Ext 255)}
def aAB:Bool:=(eqI (aV 1 (cO 19 (gJ a).b0).2) 12)
def aKM:Bool:=(eqI (aV 1 (cO 19 (gJ a).b0).2) 18)
def yJ:aG×Int:=(cO 7 (cO 2 (gK a).1).1)
def SB:Int:=(aZ (cX (cO 2 (gK a).1).2 (aV 1 (cX (yJ a).2 (yH (aAB a) 1)))) 7)
def aAC:aG×Int:=(cO 8 (cO 2 (gK a).1).1)
def KM:aG×Int:=(rE [(aL 2),(aL 4),(aL 6),(aL 8),(aL 65526),(aL 65530),(aL 0),(aL 3)] (aAC a).1)
def fY:aG×Int:=(rE [(aL 0),(aL 1),(aL 2),(aL 2),(aL 3),(aL 4),(aL 5),(aL 6)] (gK a).1)
def KN:aG×Int:=(rE [(aL 0),(aL 256),(aL 512),(aL 1023)] (cO 4 (fY a).1).1)
def KO:aG×Int:=(rE [(aL 0),(aL 256),(aL 512),(aL 1023)] (fY a).1)
def A8:aG×Int:=(rE [(aL 0),(aL 256),(aL 480),(aL 768),(aL 31)] (gK a).1)
def KP:aG×Int:=(cO 4 (kX 2 (A8 a).1).1)
def aAD:Bool:=(eqI (aV 1 (cO 19 (gJ a).b0).2) 16)
def aAE:Bool:=(eqI (aV 1 (cO 19 (gJ a).b0).2) 17)
def aAF:Bool:=(eqI (aV 1 (cO 19 (gJ a).b0).2) 9)
end
def aYW(a:aG):Pt (aG×aN):=(ot (ot (ot (ot (.ok (aKK (V168_0.mk a (aN.mk 0 0 0 (aC.mk 0 0 0) 0) 0)) (.br (ltI (gJ a).s3 6) (.br (eqI (aV 1 (cO 19 (gJ a).b0).2) 11) (.br (aKL a) (ot (.leaf ((cO 4 (gK a).1).1,(aN.mk (aV 1 (cO 19 (gJ a).b0).2) (aV 1 (mH a).2) 0 (SA a) (cO 4 (gK a).1).2)))) (ot (.leaf ((cO 4 (gK a).1).1,(aN.mk (aV 1 (cO 19 (gJ a).b0).2) (aV 1 (mH a).2) 0 (gK a).2 (cO 4 (gK a).1).2))))) (.br (bif (aAB a)then(aAB a)else(aKM a)) (.br (aKM a) (.br false (ot (.leaf ((cO 4 (yJ a).1).1,(aN.mk (aV 1 (cO 19 (gJ a).b0).2) 1 (cO 4 (mH a).1).2 (aC.mk 0 (cO 4 (yJ a).1).2 0) (SB a))))) (ot (.leaf ((cO 4 (yJ a).1).1,(aN.mk (aV 1 (cO 19 (gJ a).b0).2) 1 (cO 4 (mH a).1).2 (aC.mk 0 (cO 4 (yJ a).1).2 0) (SB a)))))) (.br (bif (eqI (aV 1 (mH a).2) 1)then false else false) (ot (.leaf ((cO 4 (yJ a).1).1,(aN.mk (aV 1 (cO 19 (gJ a).b0).2) (aV 1 (mH a).2) (cO 4 (mH a).1).2 (aC.mk 0 (cO 4 (yJ a).1).2 0) (SB a))))) (ot (.leaf ((cO 4 (yJ a).1).1,(aN.mk (aV 1 (cO 19 (gJ a).b0).2) (aV 1 (mH a).2) (cO 4 (mH a).1).2 (aC.mk 0 (cO 4 (yJ a).1).2 0) (SB a))))))) (.br (eqI (aV 1 (cO 19 (gJ a).b0).2) 13) (.br false (ot (.leaf ((KM a).1,(aN.mk 13 2 (cO 2 (gK a).1).2 (aC.mk 7 0 (aZ (KM a).2 255)) (aAC a).2)))) (ot (.leaf ((KM a).1,(aN.mk 13 2 (cO 2 (gK a).1).2 (aC.mk 7 0 (KM a).2) (aAC a).2))))) (.br (eqI (aV 1 (cO 19 (gJ a).b0).2) 14) (.br false (ot (.leaf ((cO 2 (gK a).1).1,(aN.mk (aV 1 (cO 19 (gJ a).b0).2) 2 0 (SA a) (cO 2 (gK a).1).2)))) (ot (.leaf ((cO 2 (gK a).1).1,(aN.mk (aV 1 (cO 19 (gJ a).b0).2) 2 0 (gK a).2 (cO 2 (gK a).1).2))))) (.br (eqI (aV 1 (cO 19 (gJ a).b0).2) 15) (.br (kV (fY a).2 3) (.br (eqI (fY a).2 3) (.br false (ot (.leaf ((KN a).1,(aN.mk 15 2 (cO 4 (fY a).1).2 (aC.mk 7 0 (aZ (KN a).2 255)) (fY a).2)))) (ot (.leaf ((KN a).1,(aN.mk 15 2 (cO 4 (fY a).1).2 (aC.mk 7 0 (KN a).2) (fY a).2))))) (.br false (ot (.leaf ((cO 4 (fY a).1).1,(aN.mk 15 2 (cO 4 (fY a).1).2 (aC.mk 0 0 0) (fY a).2)))) (ot (.leaf ((cO 4 (fY a).1).1,(aN.mk 15 2 (cO 4 (fY a).1).2 (aC.mk 0 0 0) (fY a).2)))))) (.br (eqI (fY a).2 3) (.br false (ot (.leaf ((KO a).1,(aN.mk 15 2 0 (aC.mk 7 0 (aZ (KO a).2 255)) (fY a).2)))) (ot (.leaf ((KO a).1,(aN.mk 15 2 0 (aC.mk 7 0 (KO a).2) (fY a).2))))) (.br false (ot (.leaf ((fY a).1,(aN.mk 15 2 0 (aC.mk 0 0 0) (fY a).2)))) (ot (.leaf ((fY a).1,(aN.mk 15 2 0 (aC.mk 0 0 0) (fY a).2))))))) (.br (eqI (aV 1 (cO 19 (gJ a).b0).2) 19) (.br (kX 2 (A8 a).1).2 (.br false (ot (.leaf ((KP a).1,(aN.mk 19 2 (KP a).2 (aC.mk 0 0 0) 1)))) (ot (.leaf ((KP a).1,(aN.mk 19 2 (KP a).2 (aC.mk 0 0 0) 1))))) (.br false (ot (.leaf ((kX 2 (A8 a).1).1,(aN.mk 19 2 0 (aC.mk 7 0 (aZ (A8 a).2 255)) 0)))) (ot (.leaf ((kX 2 (A8 a).1).1,(aN.mk 19 2 0 (aC.mk 7 0 (A8 a).2) 0)))))) (.br (bif (aAD a)then(aAD a)else(bif (aAE a)then(aAE a)else(bif (aAF a)then(aAF a)else(eqI (aV 1 (cO 19 (gJ a).b0).2) 10)))) (.br false (ot (.leaf ((gK a).1,(aN.mk (aV 1 (cO 19 (gJ a).b0).2) 2 (cO 4 (mH a).1).2 (SA a) 0)))) (ot (.leaf ((gK a).1,(aN.mk (aV 1 (cO 19 (gJ a).b0).2) 2 (cO 4 (mH a).1).2 (gK a).2 0))))) (.br (aKL a) (ot (.leaf ((gK a).1,(aN.mk (aV 1 (cO 19 (gJ a).b0).2) (aV 1 (mH a).2) (cO 4 (mH a).1).2 (SA a) 0)))) (ot (.leaf ((gK a).1,(aN.mk (aV 1 (cO 19 (gJ a).b0).2) (aV 1 (mH a).2) (cO 4 (mH a).1).2 (gK a).2 0)))))))))))) (ot (ot (.leaf ((gJ a).b0,(aN.mk 15 2 0 (aC.mk 0 0 0) 2)))))))))))
def PB(a:aG):aG×aN:=hid (aYW a).val
def bE1(a:aG):Bool:=hid (aYW a).okv
def bE2(a:aG)(r:aG×aN):SV×List Blk:=((.agg [li r.2.Op,li r.2.Size,li r.2.Reg,li r.2.Ea.Mode,li r.2.Ea.Reg,li r.2.Ea.Ext,li r.2.Sub]),[.box [.imm true 1 r.1.fcode,li r.1.fat, .lit (.int .u64 r.1.fseed)]])
def q168:=DS0 (fun a=>bE2 a (PB a)) bE1
theorem bXD:eS (fun live x=>cK (lH bE0 (kH x)) (eY R 1 9223372036854775808 (.loop live x))) (nK 168).body:=(bT (l:=[([0,2,3],aJR)]) (by kernel_rfl) ⟨eP (n:=5) (by kernel_rfl) fun σ σr t h ho hl=>bEZ σ σr t h ho hl,trivial⟩)
theorem b3T:cD 168 q168:=KL fun a hk=>tcl aKI bXD [] [] true (aYW a) (bE2 a) hk
def Q168:=aX 168 q168 Q91
theorem aRC:QO Q168:=aB b3T aKI
section
variable(a:aG)
def YF:aG×Int:=(cO 22 (kX 20 (PB a).1).1)
def YG:aG×Int:=(cO 5 (cO 4 (YF a).1).1)
def a35:aG×Int:=(cO 9 (sE (YG a).1).1)
end
def T82(a:aG):Pt (aG×aN):=(ot (.ok ((bE1 a)&&true) (.ok ((Z8 20 (PB a).1)&&true) (.br (kX 20 (PB a).1).2 (.ok ((xG 22 (kX 20 (PB a).1).1)&&((xG 4 (YF a).1)&&((xG 5 (cO 4 (YF a).1).1)&&((bEN (YG a).1)&&((xG 9 (sE (YG a).1).1)&&true))))) (ot (ot (.leaf ((a35 a).1,(aN.mk (YF a).2 (cO 4 (YF a).1).2 (YG a).2 (sE (YG a).1).2 (a35 a).2)))))) (ot (ot (.leaf ((kX 20 (PB a).1).1,(PB a).2))))))))
def g82(a:aG):aG×aN:=hid (T82 a).val
def k82(a:aG):Bool:=hid (T82 a).okv
def q82:=DS0 (fun a=>bE2 a (g82 a)) k82
theorem t82:cD 82 q82:=KL fun a hk=>tc aRC (T82 a) (bE2 a) hk
def Q82:=aX 82 q82 Q168
theorem aKN:QO Q82:=aB t82 aRC
structure V231_0 where
 mk::
 (b0:aG)
 (s3:List Row)
 (s4:Int)
section
variable(v:V231_0)
def H4:Nat:=(ln (v.s3++[(aN.row (PB v.b0).2)]))
end
def MN(v:V231_0):Pt (Option V231_0):=(ot (.br (kV v.s4 0) (.ok ((bE1 v.b0)&&(((e1 (ln v.s3))&&((cV (0+(ln v.s3)) (ln v.s3))&&((lJ (mA ((ln v.s3)+1) 56) 140737488355328)&&(lJ ((ln v.s3)+1) 140737488355328))))&&true)) (ot (.ok (((e1 (H4 v))&&true)&&((e1 (H4 v))&&true)) (.leaf (some (V231_0.mk (PB v.b0).1 (v.s3++[(aN.row (PB v.b0).2)]) (cF v.s4 1))))))) (.leaf none)))
def SC(v:V231_0):St:=⟨[(0,(.one (.ptr 0 0 0))),(3,(.one (.sl 1 0 (ln v.s3)))),(4,(.one (li v.s4)))],[.box [.imm true 1 v.b0.fcode,li v.b0.fat, .lit (.int .u64 v.b0.fseed)], .lst 7 v.s3]⟩
def aAG:St→Option (V231_0×Bool)
 |⟨[(0,(.one (.ptr 0 0 0))),(3,(.one (.sl 1 0 l1))),(4,(.one (li c3)))],[.box [.imm true 1 c0,li c1, .lit (.int .u64 c2)], .lst 7 c_1]⟩=>some ((V231_0.mk (aG.mk c0 c1 c2) c_1 c3),cV l1 (ln c_1)&&(true))
 |_=>none
def aAH:St→Option (Pt Out):=vH Q82 ([(1000000,[])]++CD 231) [] true [] 1 9223372036854775808 aJW
theorem bE3(v:V231_0):((aAH (SC v)).bind (pG true false 1 [0,3,4]))=some ((MN v).map (Option.map SC)):=by kernel_rfl
theorem bE4(σ:St)(v:V231_0)(h:aAG σ=some (v,true)):σ=SC v:=by
 unfold aAG at h;split at h
 ·obtain⟨hr,hk⟩:=qp (qi h);obtain⟨d0,hk0⟩:=aS hk;obtain rfl:=of_decide_eq_true d0;rw[←hr];rfl
 ·simp at h
theorem bE5:cK (qU true false 1 [0,3,4] aAH aAG SC MN 9223372036854775808) (eY R 1 9223372036854775808 (.loop [0,3,4] aJW)):=dD (cL aKN (bT (l:=[]) (by kernel_rfl) trivial)) bE4 bE3
def bE6:Lp:=(12,qU true false 1 [0,3,4] aAH aAG SC MN 9223372036854775808)::[]
def SD(v:V231_0):V231_0:=(hid (dB MN 9223372036854775808 v)).getD v
def aAI(v:V231_0):Bool:=(hid (dB MN 9223372036854775808 v)).isSome
section
variable(a:aG)
def SE:aG×Int:=(cO 2 (kX 20 (cO 8 a).1).1)
def gL:V231_0:=(SD (V231_0.mk (SE a).1 [] (aV 40 (SE a).2)))
def SF:aG:=(aG.mk (bif (kV (bN (gL a).s3) 0)then(kX 20 (gL a).b0).1.fcode else(gL a).b0.fcode) (bif (kV (bN (gL a).s3) 0)then(kX 20 (gL a).b0).1.fat else(gL a).b0.fat) (bif (kV (bN (gL a).s3) 0)then(kX 20 (gL a).b0).1.fseed else(gL a).b0.fseed))
def MO:List Row:=(bif (kV (bN (gL a).s3) 0)then(gL a).s3 else(gL a).s3)
def aKO:List Row:=(List.set (MO a) 0 (aN.row (g82 (SF a)).2))
def aKP:Bool:=((e1 (ln (gL a).s3))&&true)
def aKQ:List Row:=(List.take (ln (gL a).s3) (aKO a))
def aKR:List Row:=(List.take (ln (gL a).s3) (MO a))
def gM:V231_0:=(SD (V231_0.mk (kX 20 (cO 8 a).1).1 [] (cO 8 a).2))
def SG:aG:=(aG.mk (bif (kV (bN (gM a).s3) 0)then(kX 20 (gM a).b0).1.fcode else(gM a).b0.fcode) (bif (kV (bN (gM a).s3) 0)then(kX 20 (gM a).b0).1.fat else(gM a).b0.fat) (bif (kV (bN (gM a).s3) 0)then(kX 20 (gM a).b0).1.fseed else(gM a).b0.fseed))
def FK:List Row:=(bif (kV (bN (gM a).s3) 0)then(gM a).s3 else(gM a).s3)
def aAJ:List Row:=(List.set (FK a) 0 (aN.row (g82 (SG a)).2))
def aAK:Bool:=((e1 (ln (gM a).s3))&&true)
def aAL:List Row:=(List.take (ln (gM a).s3) (aAJ a))
def aAM:List Row:=(List.take (ln (gM a).s3) (FK a))
end
def a36(a:aG):Pt (aG×List Row):=(ot (ot (.ok ((xG 8 a)&&true) (.ok ((Z8 20 (cO 8 a).1)&&true) (.br (kX 20 (cO 8 a).1).2 (.ok ((xG 2 (kX 20 (cO 8 a).1).1)&&true) (ot (ot (.ok (aAI (V231_0.mk (SE a).1 [] (aV 40 (SE a).2))) (.ok ((lJ (0+(ln (gL a).s3)) (ln (gL a).s3))&&((((Z8 20 (gL a).b0)&&true)||(!(kV (bN (gL a).s3) 0)))&&true)) (.br (bif (kV (bN (gL a).s3) 0)then(kX 20 (gL a).b0).2 else false) (.ok ((k82 (SF a))&&((ltI 0 (bN (gL a).s3))&&(((blt 0 (ln (MO a)))&&(jW (jX (MO a) 0) 7))&&true))) (ot (.ok ((((lJ (0+(ln (gL a).s3)) (ln (aKO a)))&&true)&&(aKP a))&&((cV (ln (gL a).s3) (ln (aKQ a)))&&true)) (.leaf ((g82 (SF a)).1,(aKQ a)))))) (ot (.ok ((((lJ (0+(ln (gL a).s3)) (ln (MO a)))&&true)&&(aKP a))&&((cV (ln (gL a).s3) (ln (aKR a)))&&true)) (.leaf ((SF a),(aKR a))))))))))) (ot (ot (.ok (aAI (V231_0.mk (kX 20 (cO 8 a).1).1 [] (cO 8 a).2)) (.ok ((lJ (0+(ln (gM a).s3)) (ln (gM a).s3))&&((((Z8 20 (gM a).b0)&&true)||(!(kV (bN (gM a).s3) 0)))&&true)) (.br (bif (kV (bN (gM a).s3) 0)then(kX 20 (gM a).b0).2 else false) (.ok ((k82 (SG a))&&((ltI 0 (bN (gM a).s3))&&(((blt 0 (ln (FK a)))&&(jW (jX (FK a) 0) 7))&&true))) (ot (.ok ((((lJ (0+(ln (gM a).s3)) (ln (aAJ a)))&&true)&&(aAK a))&&((cV (ln (gM a).s3) (ln (aAL a)))&&true)) (.leaf ((g82 (SG a)).1,(aAL a)))))) (ot (.ok ((((lJ (0+(ln (gM a).s3)) (ln (FK a)))&&true)&&(aAK a))&&((cV (ln (gM a).s3) (ln (aAM a)))&&true)) (.leaf ((SG a),(aAM a)))))))))))))))
def PD(a:aG):aG×List Row:=hid (a36 a).val
def bN6(a:aG):Bool:=hid (a36 a).okv
def bXG(a:aG)(r:aG×List Row):SV×List Blk:=((.one (.sl 1 0 (ln r.2))),[.box [.imm true 1 r.1.fcode,li r.1.fat, .lit (.int .u64 r.1.fseed)], .lst 7 r.2])
def q231:=DS0 (fun a=>bXG a (PD a)) bN6
theorem bXH:eS (fun live x=>cK (lH bE6 (kH x)) (eY R 1 9223372036854775808 (.loop live x))) (nK 231).body:=(bT (l:=[([0,3,4],aJW)]) (by kernel_rfl) ⟨eP (n:=12) (by kernel_rfl) fun σ σr t h ho hl=>bE5 σ σr t h ho hl,trivial⟩)
theorem b3U:cD 231 q231:=KL fun a hk=>tcl aKN bXH [(1000000,[])] [] true (a36 a) (bXG a) hk
def Q231:=aX 231 q231 Q82
theorem aRD:QO Q231:=aB b3U aKN
def a37(a:aN):Pt (List Row):=(ot (ot (.ok ((aKB a.Ea.Mode)&&true) (.br (aKA a.Ea.Mode) (ot (ot (ot (.leaf [(aL (eT (eT (eT (eT (eT (nL a.Op 11) (nL (cF a.Size 1) 10)) (nL a.Reg 8)) (nL a.Ea.Mode 5)) (nL a.Ea.Reg 3)) a.Sub)),(aL a.Ea.Ext)])))) (ot (ot (.leaf [(aL (eT (eT (eT (eT (eT (nL a.Op 11) (nL (cF a.Size 1) 10)) (nL a.Reg 8)) (nL a.Ea.Mode 5)) (nL a.Ea.Reg 3)) a.Sub))])))))))
def bN7(a:aN):List Row:=hid (a37 a).val
def bN8(a:aN):Bool:=hid (a37 a).okv
def bE7(a:aN)(r:List Row):SV×List Blk:=((.one (.sl 0 0 (ln r))),[.lst 1 r])
def q136:=DS7 (fun a=>bE7 a (bN7 a)) bN8
theorem b3V:cD 136 q136:=OV fun a hk=>tc aRD (a37 a) (bE7 a) hk
def Q136:=aX 136 q136 Q231
theorem aAN:QO Q136:=aB b3V aRD
def AS8(a:List Row):List SV:=[(.one (.imm false 7 a))]
def HS8(a:List Row):List Blk:=[]
def DS8(N:List Row→SV×List Blk)(K:List Row→Bool):List SV→List Blk→Option ((SV×List Blk)×Bool)
 |[(.one (.imm false 7 c0))],[]=>some (N c0,K c0)
 |_,_=>none
theorem bXI{N:List Row→SV×List Blk}{K:List Row→Bool}{f:Nat}(h: ∀(a:List Row),K a=true→cY R f (AS8 a) (HS8 a)=some (N a)):cD f (DS8 N K):=fun _ _ _ e=>by
 unfold DS8 at e;split at e
 ·exact vO e (h _)
 ·cases e
structure V230_0 where
 mk::
 (s0:List Row)
 (s4:List Row)
 (s7:List Row)
 (s8:Int)
 (s9:Int)
section
variable(v:V230_0)
def wC:List Row:=(bN7 (aN.at v.s7 (iN v.s9) 0))
def H5:Nat:=((ln v.s4)+(ln (wC v)))
def H6:Bool:=((e1 (ln (v.s4++(wC v))))&&true)
end
def MP(v:V230_0):Pt (Option V230_0):=(ot (.br (ltI v.s9 v.s8) (.ok ((fU [.int .i64, .int .i64, .int .i64, .int .i64, .int .i64, .int .i64, .int .i64] v.s7 v.s9)&&true) (.ok ((OX (aN.at v.s7 (iN v.s9) 0))&&true) (.br (!(OW (aN.at v.s7 (iN v.s9) 0))) (ot (.leaf none)) (.ok ((bN8 (aN.at v.s7 (iN v.s9) 0))&&(((e1 (ln v.s4))&&((e1 (ln (wC v)))&&((cV (0+(ln v.s4)) (ln v.s4))&&((lJ (mA (H5 v) 8) 140737488355328)&&(lJ (H5 v) 140737488355328)))))&&true)) (ot (.ok ((H6 v)&&(H6 v)) (.leaf (some {v with s4:=(v.s4++(wC v)),s9:=(aV v.s9 1)})))))))) (.leaf none)))
def SH(v:V230_0):St:=⟨[(0,(.one (.imm false 7 v.s0))),(4,(.one (.sl 0 0 (ln v.s4)))),(7,(.one (.imm false 7 v.s7))),(8,(.one (li v.s8))),(9,(.one (li v.s9)))],[.lst 1 v.s4]⟩
def aAO:St→Option (V230_0×Bool)
 |⟨[(0,(.one (.imm false 7 c0))),(4,(.one (.sl 0 0 l0))),(7,(.one (.imm false 7 c1))),(8,(.one (li c2))),(9,(.one (li c3)))],[.lst 1 c_0]⟩=>some ((V230_0.mk c0 c_0 c1 c2 c3),cV l0 (ln c_0)&&(true))
 |_=>none
def aAP:St→Option (Pt Out):=vH Q136 ([]++CD 230) [] true [] 0 9223372036854775808 aJV
theorem bE8(v:V230_0):((aAP (SH v)).bind (pG true false 0 [0,4,7,8,9]))=some ((MP v).map (Option.map SH)):=by kernel_rfl
theorem bE9(σ:St)(v:V230_0)(h:aAO σ=some (v,true)):σ=SH v:=by
 unfold aAO at h;split at h
 ·obtain⟨hr,hk⟩:=qp (qi h);obtain⟨d0,hk0⟩:=aS hk;obtain rfl:=of_decide_eq_true d0;rw[←hr];rfl
 ·simp at h
theorem bFA:cK (qU true false 0 [0,4,7,8,9] aAP aAO SH MP 9223372036854775808) (eY R 0 9223372036854775808 (.loop [0,4,7,8,9] aJV)):=dD (cL aAN (bT (l:=[]) (by kernel_rfl) trivial)) bE9 bE8
def bFB:Lp:=(10,qU true false 0 [0,4,7,8,9] aAP aAO SH MP 9223372036854775808)::[]
def aKS(v:V230_0):V230_0:=(hid (dB MP 9223372036854775808 v)).getD v
def aKT(v:V230_0):Bool:=(hid (dB MP 9223372036854775808 v)).isSome
section
variable(a:List Row)
def MQ:V230_0:=(aKS (V230_0.mk a [] a (bN a) 0))
def aKU:Bool:=((e1 (ln (MQ a).s4))&&true)
end
def a38(a:List Row):Pt (List Row×Bool):=(ot (ot (ot (ot (ot (.ok (aKT (V230_0.mk a [] a (bN a) 0)) (.br (ltI (MQ a).s9 (MQ a).s8) (ot (.leaf ([],false))) (ot (.br (kV (bN (MQ a).s0) 40) (ot (ot (.leaf ([],false)))) (ot (.ok ((aKU a)&&(aKU a)) (.leaf ((MQ a).s4,true)))))))))))))
def aKV(a:List Row):List Row×Bool:=hid (a38 a).val
def bN9(a:List Row):Bool:=hid (a38 a).okv
def bXJ(a:List Row)(r:List Row×Bool):SV×List Blk:=((.tup [(.one (.sl 0 0 (ln r.1))),(.one (.lit (.bool r.2)))]),[.lst 1 r.1])
def q230:=DS8 (fun a=>bXJ a (aKV a)) bN9
theorem bXK:eS (fun live x=>cK (lH bFB (kH x)) (eY R 0 9223372036854775808 (.loop live x))) (nK 230).body:=(bT (l:=[([0,4,7,8,9],aJV)]) (by kernel_rfl) ⟨eP (n:=10) (by kernel_rfl) fun σ σr t h ho hl=>bFA σ σr t h ho hl,trivial⟩)
theorem b3X:cD 230 q230:=bXI fun a hk=>tcl aAN bXK [] [] true (a38 a) (bXJ a) hk
def Q230:=aX 230 q230 Q136
theorem aAQ:QO Q230:=aB b3X aAN
structure V165_0 where
 mk::
 (b0:aG)
 (s4:Int)
 (s5:List Row)
 (s16:Int)
 (s17:Int)
section
variable(v:V165_0)
def H7:List Row:=(List.set v.s5 (0+(iN v.s17)) (aL (cO 256 (kX 8 v.b0).1).2))
def H8:Bool:=((cV (ln v.s5) (ln (H7 v)))&&true)
end
def MR(v:V165_0):Pt (Option V165_0):=(ot (.br (ltI v.s17 v.s16) (ot (.ok ((Z8 8 v.b0)&&true) (.br (kX 8 v.b0).2 (.ok ((xG 256 (kX 8 v.b0).1)&&(((leI 0 v.s17)&&(ltI v.s17 (bN v.s5)))&&(((blt (0+(iN v.s17)) (ln v.s5))&&(jW (jX v.s5 (0+(iN v.s17))) 1))&&true))) (ot (.ok (((H8 v)&&((e1 (ln v.s5))&&true))&&((H8 v)&&true)) (.leaf (some (V165_0.mk (cO 256 (kX 8 v.b0).1).1 v.s4 (H7 v) v.s16 (aV v.s17 1))))))) (ot (.ok ((((e1 (ln v.s5))&&true)&&((e1 (ln v.s5))&&true))&&(((e1 (ln v.s5))&&true)&&true)) (.leaf (some {v with b0:=(kX 8 v.b0).1,s17:=(aV v.s17 1)}))))))) (.leaf none)))
def SI(v:V165_0):St:=⟨[(0,(.one (.ptr 0 0 0))),(4,(.one (li v.s4))),(5,(.one (.sl 1 0 (ln v.s5)))),(16,(.one (li v.s16))),(17,(.one (li v.s17)))],[.box [.imm true 1 v.b0.fcode,li v.b0.fat, .lit (.int .u64 v.b0.fseed)], .lst 1 v.s5]⟩
def aAR:St→Option (V165_0×Bool)
 |⟨[(0,(.one (.ptr 0 0 0))),(4,(.one (li c3))),(5,(.one (.sl 1 0 l1))),(16,(.one (li c4))),(17,(.one (li c5)))],[.box [.imm true 1 c0,li c1, .lit (.int .u64 c2)], .lst 1 c_1]⟩=>some ((V165_0.mk (aG.mk c0 c1 c2) c3 c_1 c4 c5),cV l1 (ln c_1)&&(true))
 |_=>none
def aAS:St→Option (Pt Out):=vH Q84 ([(1000003,[])]++CD 165) [] true [] 1 9223372036854775808 aJO
theorem bFC(v:V165_0):((aAS (SI v)).bind (pG true true 1 [0,4,5,16,17]))=some ((MR v).map (Option.map SI)):=by kernel_rfl
theorem bFD(σ:St)(v:V165_0)(h:aAR σ=some (v,true)):σ=SI v:=by
 unfold aAR at h;split at h
 ·obtain⟨hr,hk⟩:=qp (qi h);obtain⟨d0,hk0⟩:=aS hk;obtain rfl:=of_decide_eq_true d0;rw[←hr];rfl
 ·simp at h
theorem bFE:cK (qU true true 1 [0,4,5,16,17] aAS aAR SI MR 9223372036854775808) (eY R 1 9223372036854775808 (.loop [0,4,5,16,17] aJO)):=dD (cL aJ9 (bT (l:=[]) (by kernel_rfl) trivial)) bFD bFC
def aRE:Lp:=(18,qU true true 1 [0,4,5,16,17] aAS aAR SI MR 9223372036854775808)::[]
def SJ(v:V165_0):V165_0:=(hid (dB MR 9223372036854775808 v)).getD v
def aKW(v:V165_0):Bool:=(hid (dB MR 9223372036854775808 v)).isSome
structure V165_1 where
 mk::
 (b0:aG)
 (s4:Int)
 (s5:List Row)
 (s34:List Row)
 (s35:Int)
 (s36:Int)
section
variable(v:V165_1)
def H9:Bool:=(ltI (aV (aV v.s4 (cX 2 v.s36)) 1) (bN v.s5))
def A9:Nat:=(0+(iN (aV v.s4 (cX 2 v.s36))))
def BA:Nat:=(0+(iN (aV (aV v.s4 (cX 2 v.s36)) 1)))
def BB:List Row:=(List.set v.s5 (A9 v) (aL (eW (bF v.s34 (0+(iN v.s36)) 0) 8)))
def IA:List Row:=(List.set (BB v) (BA v) (aL (aZ (bF v.s34 (0+(iN v.s36)) 0) 255)))
def IB:Bool:=((cV (ln v.s5) (ln (IA v)))&&((e1 (ln v.s34))&&true))
def wD:Bool:=((e1 (ln v.s5))&&((e1 (ln v.s34))&&true))
end
def MS(v:V165_1):Pt (Option V165_1):=(ot (.br (ltI v.s36 v.s35) (.ok (((leI 0 v.s36)&&(ltI v.s36 (bN v.s34)))&&((dO [.int .i64] v.s34 (0+(iN v.s36)) 0)&&true)) (.ok ((lJ (0+(ln v.s5)) (ln v.s5))&&true) (.br (H9 v) (.ok (((leI 0 (aV v.s4 (cX 2 v.s36)))&&(ltI (aV v.s4 (cX 2 v.s36)) (bN v.s5)))&&(((blt (A9 v) (ln v.s5))&&(jW (jX v.s5 (A9 v)) 1))&&true)) (.ok (((leI 0 (aV (aV v.s4 (cX 2 v.s36)) 1))&&(H9 v))&&(((blt (BA v) (ln (BB v)))&&(jW (jX (BB v) (BA v)) 1))&&true)) (ot (.ok (((IB v)&&(wD v))&&((IB v)&&true)) (.leaf (some {v with s5:=(IA v),s36:=(aV v.s36 1)})))))) (ot (.ok (((wD v)&&(wD v))&&((wD v)&&true)) (.leaf (some {v with s36:=(aV v.s36 1)}))))))) (.leaf none)))
def SK(v:V165_1):St:=⟨[(4,(.one (li v.s4))),(5,(.one (.sl 1 0 (ln v.s5)))),(34,(.one (.sl 2 0 (ln v.s34)))),(35,(.one (li v.s35))),(36,(.one (li v.s36)))],[.box [.imm true 1 v.b0.fcode,li v.b0.fat, .lit (.int .u64 v.b0.fseed)], .lst 1 v.s5, .lst 1 v.s34]⟩
def aAT:St→Option (V165_1×Bool)
 |⟨[(4,(.one (li c3))),(5,(.one (.sl 1 0 l1))),(34,(.one (.sl 2 0 l2))),(35,(.one (li c4))),(36,(.one (li c5)))],[.box [.imm true 1 c0,li c1, .lit (.int .u64 c2)], .lst 1 c_1, .lst 1 c_2]⟩=>some ((V165_1.mk (aG.mk c0 c1 c2) c3 c_1 c_2 c4 c5),cV l1 (ln c_1)&&(cV l2 (ln c_2)&&(true)))
 |_=>none
def aAU:St→Option (Pt Out):=vH Q230 ([(1000003,[])]++CD 165) [] true aRE 1 9223372036854775808 aJP
theorem bFF(v:V165_1):((aAU (SK v)).bind (pG true true 1 [4,5,34,35,36]))=some ((MS v).map (Option.map SK)):=by kernel_rfl
theorem bFG(σ:St)(v:V165_1)(h:aAT σ=some (v,true)):σ=SK v:=by
 unfold aAT at h;split at h
 ·obtain⟨hr,hk⟩:=qp (qi h);obtain⟨d0,hk0⟩:=aS hk;obtain⟨d1,hk1⟩:=aS hk0;obtain rfl:=of_decide_eq_true d0;obtain rfl:=of_decide_eq_true d1;rw[←hr];rfl
 ·simp at h
theorem bFH:cK (qU true true 1 [4,5,34,35,36] aAU aAT SK MS 9223372036854775808) (eY R 1 9223372036854775808 (.loop [4,5,34,35,36] aJP)):=dD (cL aAQ (bT (l:=[]) (by kernel_rfl) trivial)) bFG bFF
def bFI:Lp:=(37,qU true true 1 [4,5,34,35,36] aAU aAT SK MS 9223372036854775808)::aRE
def SL(v:V165_1):V165_1:=(hid (dB MS 9223372036854775808 v)).getD v
def aKX(v:V165_1):Bool:=(hid (dB MS 9223372036854775808 v)).isSome
section
variable(a:aG)
def o9:V165_0:=(SJ (V165_0.mk (cO 30 a).1 (cX 2 (cO 30 a).2) (List.replicate 384 (aL 0)) 384 0))
def aAV:Nat:=(ln (aKV (PD (o9 a).b0).2).1)
def SM:Bool:=((e1 (ln (o9 a).s5))&&((e1 (aAV a))&&true))
def SN:V165_1:=(SL (V165_1.mk (PD (o9 a).b0).1 (o9 a).s4 (o9 a).s5 (aKV (PD (o9 a).b0).2).1 (bN (aKV (PD (o9 a).b0).2).1) 0))
def aKY:Bool:=((e1 (ln (SN a).s5))&&true)
end
def a39(a:aG):Pt (aG×List Row×Int):=(ot (.ok ((xG 30 a)&&true) (ot (ot (ot (ot (.ok (aKW (V165_0.mk (cO 30 a).1 (cX 2 (cO 30 a).2) (List.replicate 384 (aL 0)) 384 0)) (.ok ((bN6 (o9 a).b0)&&((((e1 (ln (PD (o9 a).b0).2))&&true)&&(bN9 (PD (o9 a).b0).2))&&true)) (.ok ((lJ (0+(aAV a)) (aAV a))&&true) (.ok (((SM a)&&(SM a))&&((SM a)&&true)) (.ok (SM a) (.ok (aKX (V165_1.mk (PD (o9 a).b0).1 (o9 a).s4 (o9 a).s5 (aKV (PD (o9 a).b0).2).1 (bN (aKV (PD (o9 a).b0).2).1) 0)) (ot (.ok ((aKY a)&&(aKY a)) (.leaf ((SN a).b0,(SN a).s5,(SN a).s4))))))))))))))))
def xI(a:aG):aG×List Row×Int:=hid (a39 a).val
def bOA(a:aG):Bool:=hid (a39 a).okv
def bXL(a:aG)(r:aG×List Row×Int):SV×List Blk:=((.tup [(.one (.sl 1 0 (ln r.2.1))),(.one (li r.2.2))]),[.box [.imm true 1 r.1.fcode,li r.1.fat, .lit (.int .u64 r.1.fseed)], .lst 1 r.2.1])
def q165:=DS0 (fun a=>bXL a (xI a)) bOA
theorem bXM:eS (fun live x=>cK (lH bFI (kH x)) (eY R 1 9223372036854775808 (.loop live x))) (nK 165).body:=(bT (l:=[([0,4,5,16,17],aJO),([4,5,34,35,36],aJP)]) (by kernel_rfl) ⟨eP (n:=18) (by kernel_rfl) fun σ σr t h ho hl=>bFE σ σr t h ho hl,eP (n:=37) (by kernel_rfl) fun σ σr t h ho hl=>bFH σ σr t h ho hl,trivial⟩)
theorem b3Y:cD 165 q165:=KL fun a hk=>tcl aAQ bXM [(1000003,[])] [] true (a39 a) (bXL a) hk
def Q165:=aX 165 q165 Q230
theorem aRF:QO Q165:=aB b3Y aAQ
def AS9:List SV:=[]
def HS9:List Blk:=[]
def DS9(N:SV×List Blk)(K:Bool):List SV→List Blk→Option ((SV×List Blk)×Bool)
 |[],[]=>some (N,K)
 |_,_=>none
theorem bXN{N:SV×List Blk}{K:Bool}{f:Nat}(h:K=true→cY R f AS9 HS9=some N):cD f (DS9 N K):=fun args hp r e=>by
 unfold DS9 at e;split at e
 ·obtain⟨hr,hk⟩:=qp (qi e);rw[←hr];exact h hk
 ·simp at e
def a4A:Pt (aE):=(ot (ot (ot (.leaf (aE.mk [(aL 0),(aL 0),(aL 0),(aL 0)] [(aL 0),(aL 0),(aL 0),(aL 0)] 0 0 0 7 true false)))))
def GE:aE:=hid (a4A).val
def bFJ:Bool:=hid (a4A).okv
def bXO(r:aE):SV×List Blk:=((.agg [.sl 0 0 (ln r.D), .sl 1 0 (ln r.A),li r.Other,li r.PC,li r.Flags,li r.Mask, .lit (.bool r.Super), .lit (.bool r.Trace)]),[.lst 1 r.D, .lst 1 r.A])
def q208:=DS9 (bXO (GE)) bFJ
theorem b30:cD 208 q208:=bXN fun hk=>tc aRF a4A bXO hk
def Q208:=aX 208 q208 Q165
theorem aAW:QO Q208:=aB b30 aRF
structure V166_0 where
 mk::
 (b0:aG)
 (b1:aE)
 (b2:aE)
 (s4:Int)
section
variable(v:V166_0)
def BC:Bool:=(((z8 [(aL 0),(aL 1),(aL 2),(aL 5),(aL 128),(aL 255),(aL 32768),(aL 65535)] v.b0)&&(((leI 0 v.s4)&&(ltI v.s4 (bN v.b2.D)))&&(((blt (0+(iN v.s4)) (ln v.b2.D))&&(jW (jX v.b2.D (0+(iN v.s4))) 1))&&true)))&&true)
def pV:aG×Int:=(rE [(aL 0),(aL 1),(aL 2),(aL 5),(aL 128),(aL 255),(aL 32768),(aL 65535)] v.b0)
def wE:List Row:=(List.set v.b2.D (0+(iN v.s4)) (aL (pV v).2))
def IC:Bool:=(r1 [(aL 0),(aL 1),(aL 2),(aL 5),(aL 128),(aL 255),(aL 32768),(aL 65535)])
def ID:Bool:=(((s1 v.s4)&&true)&&((((s1 true)&&(r1 (pV v).1.fcode))&&((s1 (pV v).1.fat)&&((s1 (pV v).1.fseed)&&true)))&&((iB v.b1 true)&&((iB v.b2 true)&&(hY v.b1 ((r1 (wE v))&&((r1 v.b2.A)&&(IC&&true))))))))
def BD:Bool:=(((z8 [(aL 0),(aL 2),(aL 20),(aL 40),(aL 100),(aL 300),(aL 301),(aL 384),(aL 448),(aL 500),(aL 65534)] (pV v).1)&&(((leI 0 v.s4)&&(ltI v.s4 (bN v.b2.A)))&&(((blt (0+(iN v.s4)) (ln v.b2.A))&&(jW (jX v.b2.A (0+(iN v.s4))) 1))&&true)))&&true)
def sG:aG×Int:=(rE [(aL 0),(aL 2),(aL 20),(aL 40),(aL 100),(aL 300),(aL 301),(aL 384),(aL 448),(aL 500),(aL 65534)] (pV v).1)
def BE:List Row:=(List.set v.b2.A (0+(iN v.s4)) (aL (sG v).2))
def IE:Bool:=(((s1 v.s4)&&true)&&((((s1 true)&&(r1 (sG v).1.fcode))&&((s1 (sG v).1.fat)&&((s1 (sG v).1.fseed)&&true)))&&((iB v.b1 true)&&((iB v.b2 true)&&(hY v.b1 ((r1 (wE v))&&((r1 (BE v))&&(IC&&((r1 [(aL 0),(aL 2),(aL 20),(aL 40),(aL 100),(aL 300),(aL 301),(aL 384),(aL 448),(aL 500),(aL 65534)])&&true)))))))))
def IF:Bool:=((cV (ln v.b2.D) (ln (wE v)))&&((cV (ln v.b2.A) (ln (BE v)))&&true))
end
def MT(v:V166_0):Pt (Option V166_0):=(ot (.br (ltI v.s4 4) (.ok ((BC v)&&(((BC v)&&((BC v)&&(ID v)))&&(ID v))) (.ok ((BD v)&&(((BD v)&&((BD v)&&(IE v)))&&(IE v))) (ot (.ok ((((aK v.b1 true)&&((aK v.b2 true)&&(aK v.b1 (IF v))))&&true)&&((aK v.b1 true)&&((IF v)&&true))) (.leaf (some (V166_0.mk (sG v).1 v.b1 {v.b2 with D:=(wE v),A:=(BE v)} (aV v.s4 1)))))))) (.leaf none)))
def SO(v:V166_0):St:=⟨[(0,(.one (.ptr 0 0 0))),(2,(.one (.ptr 1 0 0))),(3,(.one (.ptr 2 0 0))),(4,(.one (li v.s4)))],[.box [.imm true 1 v.b0.fcode,li v.b0.fat, .lit (.int .u64 v.b0.fseed)], .box [.sl 3 0 (ln v.b1.D), .sl 4 0 (ln v.b1.A),li v.b1.Other,li v.b1.PC,li v.b1.Flags,li v.b1.Mask, .lit (.bool v.b1.Super), .lit (.bool v.b1.Trace)], .box [.sl 5 0 (ln v.b2.D), .sl 6 0 (ln v.b2.A),li v.b2.Other,li v.b2.PC,li v.b2.Flags,li v.b2.Mask, .lit (.bool v.b2.Super), .lit (.bool v.b2.Trace)], .lst 1 v.b1.D, .lst 1 v.b1.A, .lst 1 v.b2.D, .lst 1 v.b2.A]⟩
def aAX:St→Option (V166_0×Bool)
 |⟨[(0,(.one (.ptr 0 0 0))),(2,(.one (.ptr 1 0 0))),(3,(.one (.ptr 2 0 0))),(4,(.one (li c15)))],[.box [.imm true 1 c0,li c1, .lit (.int .u64 c2)], .box [.sl 3 0 l3, .sl 4 0 l4,li c3,li c4,li c5,li c6, .lit (.bool c7), .lit (.bool c8)], .box [.sl 5 0 l5, .sl 6 0 l6,li c9,li c10,li c11,li c12, .lit (.bool c13), .lit (.bool c14)], .lst 1 c_3, .lst 1 c_4, .lst 1 c_5, .lst 1 c_6]⟩=>some ((V166_0.mk (aG.mk c0 c1 c2) (aE.mk c_3 c_4 c3 c4 c5 c6 c7 c8) (aE.mk c_5 c_6 c9 c10 c11 c12 c13 c14) c15),cV l3 (ln c_3)&&(cV l4 (ln c_4)&&(cV l5 (ln c_5)&&(cV l6 (ln c_6)&&(true)))))
 |_=>none
def aAY:St→Option (Pt Out):=vH Q208 ([(1000001,[]),(1000003,[])]++CD 166) [] true [] 1 9223372036854775808 aJQ
theorem bFK(v:V166_0):((aAY (SO v)).bind (pG true true 1 [0,2,3,4]))=some ((MT v).map (Option.map SO)):=by kernel_rfl
theorem bFL(σ:St)(v:V166_0)(h:aAX σ=some (v,true)):σ=SO v:=by
 unfold aAX at h;split at h
 ·obtain⟨hr,hk⟩:=qp (qi h);obtain⟨d0,hk0⟩:=aS hk;obtain⟨d1,hk1⟩:=aS hk0;obtain⟨d2,hk2⟩:=aS hk1;obtain⟨d3,hk3⟩:=aS hk2;obtain rfl:=of_decide_eq_true d0;obtain rfl:=of_decide_eq_true d1;obtain rfl:=of_decide_eq_true d2;obtain rfl:=of_decide_eq_true d3;rw[←hr];rfl
 ·simp at h
theorem bFM:cK (qU true true 1 [0,2,3,4] aAY aAX SO MT 9223372036854775808) (eY R 1 9223372036854775808 (.loop [0,2,3,4] aJQ)):=dD (cL aAW (bT (l:=[]) (by kernel_rfl) trivial)) bFL bFK
def bFN:Lp:=(6,qU true true 1 [0,2,3,4] aAY aAX SO MT 9223372036854775808)::[]
def aAZ(v:V166_0):V166_0:=(hid (dB MT 9223372036854775808 v)).getD v
def aKZ(v:V166_0):Bool:=(hid (dB MT 9223372036854775808 v)).isSome
section
variable(a:aG)
def jA:V166_0:=(aAZ (V166_0.mk a (aE.mk [] [] 0 0 0 0 false false) (GE) 0))
def aA0:Bool:=(((z8 [(aL 200),(aL 202),(aL 380),(aL 65534),(aL 0),(aL 301)] (jA a).b0)&&((ltI 3 (bN (jA a).b2.A))&&(((blt 3 (ln (jA a).b2.A))&&(jW (jX (jA a).b2.A 3) 1))&&true)))&&true)
def IG:aG×Int:=(rE [(aL 200),(aL 202),(aL 380),(aL 65534),(aL 0),(aL 301)] (jA a).b0)
def MU:List Row:=(List.set (jA a).b2.A 3 (aL (IG a).2))
def aK0:Bool:=((((s1 true)&&(r1 (IG a).1.fcode))&&((s1 (IG a).1.fat)&&((s1 (IG a).1.fseed)&&true)))&&((iB (jA a).b1 true)&&((iB (jA a).b2 true)&&(hY (jA a).b1 ((r1 (jA a).b2.D)&&((r1 (MU a))&&((r1 [(aL 200),(aL 202),(aL 380),(aL 65534),(aL 0),(aL 301)])&&true)))))))
def MV:aG×Int:=(rE [(aL 300),(aL 0),(aL 447)] (IG a).1)
def yK:aG×Int:=(rE [(aL 0),(aL 2),(aL 10),(aL 40),(aL 384),(aL 3),(aL 448)] (MV a).1)
def BF:aG×Int:=(cO 8 (cO 32 (yK a).1).1)
def yL:aG×Bool:=(kX 8 (kX 3 (BF a).1).1)
def aK1:List Row:=(List.set (jA a).b2.D 0 (aL 65536))
def aA1:Bool:=((cV (ln (jA a).b2.A) (ln (MU a)))&&true)
def aA2:Bool:=((cV (ln (jA a).b2.D) (ln (aK1 a)))&&(aA1 a))
def aA3:Bool:=((e1 (ln (jA a).b2.D))&&(aA1 a))
def aA4:Bool:=(((aA3 a)&&((aK (jA a).b2 true)&&true))&&((aA3 a)&&true))
end
def a4B(a:aG):Pt (aG×aE):=(ot (.ok ((bFJ)&&true) (ot (.ok (dd (aK (GE) true) ((aK (GE) true)&&true)) (.ok (aK (GE) true) (.ok (aKZ (V166_0.mk a (aE.mk [] [] 0 0 0 0 false false) (GE) 0)) (.ok ((aA0 a)&&(((aA0 a)&&((aA0 a)&&(aK0 a)))&&(aK0 a))) (.ok ((z8 [(aL 300),(aL 0),(aL 447)] (IG a).1)&&true) (.ok ((z8 [(aL 0),(aL 2),(aL 10),(aL 40),(aL 384),(aL 3),(aL 448)] (MV a).1)&&true) (.ok ((xG 32 (yK a).1)&&true) (.ok ((xG 8 (cO 32 (yK a).1).1)&&true) (.ok ((Z8 3 (BF a).1)&&true) (.ok ((Z8 8 (kX 3 (BF a).1).1)&&true) (.ok ((xG 60 (yL a).1)&&true) (ot (.br (eqI (cO 60 (yL a).1).2 0) (.ok ((ltI 0 (bN (jA a).b2.D))&&(((blt 0 (ln (jA a).b2.D))&&(jW (jX (jA a).b2.D 0) 1))&&true)) (ot (.ok (((aA2 a)&&((aK (jA a).b2 true)&&true))&&((aA2 a)&&true)) (.leaf ((cO 60 (yL a).1).1,(aE.mk (aK1 a) (MU a) (MV a).2 (yK a).2 (cO 32 (yK a).1).2 (BF a).2 (!(kX 3 (BF a).1).2) (yL a).2)))))) (ot (.br (eqI (cO 60 (yL a).1).2 1) (ot (ot (.ok (aA4 a) (.leaf ((cO 60 (yL a).1).1,(aE.mk (jA a).b2.D (MU a) (MV a).2 (yK a).2 (cO 32 (yK a).1).2 8 (!(kX 3 (BF a).1).2) (yL a).2)))))) (ot (.ok (aA4 a) (.leaf ((cO 60 (yL a).1).1,(aE.mk (jA a).b2.D (MU a) (MV a).2 (yK a).2 (cO 32 (yK a).1).2 (BF a).2 (!(kX 3 (BF a).1).2) (yL a).2)))))))))))))))))))))))
def PE(a:aG):aG×aE:=hid (a4B a).val
def bOB(a:aG):Bool:=hid (a4B a).okv
def bXP(a:aG)(r:aG×aE):SV×List Blk:=((.agg [.sl 1 0 (ln r.2.D), .sl 2 0 (ln r.2.A),li r.2.Other,li r.2.PC,li r.2.Flags,li r.2.Mask, .lit (.bool r.2.Super), .lit (.bool r.2.Trace)]),[.box [.imm true 1 r.1.fcode,li r.1.fat, .lit (.int .u64 r.1.fseed)], .lst 1 r.2.D, .lst 1 r.2.A])
def q166:=DS0 (fun a=>bXP a (PE a)) bOB
theorem bXQ:eS (fun live x=>cK (lH bFN (kH x)) (eY R 1 9223372036854775808 (.loop live x))) (nK 166).body:=(bT (l:=[([0,2,3,4],aJQ)]) (by kernel_rfl) ⟨eP (n:=6) (by kernel_rfl) fun σ σr t h ho hl=>bFM σ σr t h ho hl,trivial⟩)
theorem b31:cD 166 q166:=KL fun a hk=>tcl aAW bXQ [(1000001,[]),(1000003,[])] [] true (a4B a) (bXP a) hk
def Q166:=aX 166 q166 Q208
theorem aA5:QO Q166:=aB b31 aAW
def b32(a:List Row):List SV:=[(.one (.imm false 1 a))]
def b33(a:List Row):List Blk:=[]
def bOC(N:List Row→SV×List Blk)(K:List Row→Bool):List SV→List Blk→Option ((SV×List Blk)×Bool)
 |[(.one (.imm false 1 c0))],[]=>some (N c0,K c0)
 |_,_=>none
theorem bOD{N:List Row→SV×List Blk}{K:List Row→Bool}{f:Nat}(h: ∀(a:List Row),K a=true→cY R f (b32 a) (b33 a)=some (N a)):cD f (bOC N K):=fun _ _ _ e=>by
 unfold bOC at e;split at e
 ·exact vO e (h _)
 ·cases e
structure V245_0 where
 mk::
 (s5:List Row)
 (s6:Int)
 (s7:Int)
def MW(v:V245_0):Pt (Option V245_0):=(ot (.br (ltI v.s7 v.s6) (.ok ((fU [.int .i64] v.s5 v.s7)&&true) (.ok ((wB (bF v.s5 (iN v.s7) 0) 0 255)&&true) (.br (!(tU (bF v.s5 (iN v.s7) 0) 0 255)) (ot (.leaf none)) (ot (ot (.leaf (some {v with s7:=(aV v.s7 1)}))))))) (.leaf none)))
def SQ(v:V245_0):St:=⟨[(5,(.one (.imm false 1 v.s5))),(6,(.one (li v.s6))),(7,(.one (li v.s7)))],[]⟩
def aA6:St→Option (V245_0×Bool)
 |⟨[(5,(.one (.imm false 1 c0))),(6,(.one (li c1))),(7,(.one (li c2)))],[]⟩=>some ((V245_0.mk c0 c1 c2),true)
 |_=>none
def aA7:St→Option (Pt Out):=vH Q166 ([]++CD 245) [] true [] 0 9223372036854775808 MH
theorem bFO(v:V245_0):((aA7 (SQ v)).bind (pG true false 0 [5,6,7]))=some ((MW v).map (Option.map SQ)):=by kernel_rfl
theorem bFP(σ:St)(v:V245_0)(h:aA6 σ=some (v,true)):σ=SQ v:=by
 unfold aA6 at h;split at h
 ·obtain⟨hr,hk⟩:=qp (qi h);rw[←hr];rfl
 ·simp at h
theorem bFQ:cK (qU true false 0 [5,6,7] aA7 aA6 SQ MW 9223372036854775808) (eY R 0 9223372036854775808 (.loop [5,6,7] MH)):=dD (cL aA5 (bT (l:=[]) (by kernel_rfl) trivial)) bFP bFO
def bFR:Lp:=(8,qU true false 0 [5,6,7] aA7 aA6 SQ MW 9223372036854775808)::[]
def aA8(v:V245_0):V245_0:=(hid (dB MW 9223372036854775808 v)).getD v
def aK2(v:V245_0):Bool:=(hid (dB MW 9223372036854775808 v)).isSome
section
variable(a:List Row)
def aK3:V245_0:=(aA8 (V245_0.mk a (bN a) 0))
end
def bFS(a:List Row):Pt (Bool):=(ot (ot (ot (ot (.ok (aK2 (V245_0.mk a (bN a) 0)) (.br (ltI (aK3 a).s7 (aK3 a).s6) (ot (ot (.leaf false))) (ot (ot (ot (.leaf true))))))))))
def aYX(a:List Row):Bool:=hid (bFS a).val
def a4C(a:List Row):Bool:=hid (bFS a).okv
def KQ(a:List Row)(r:Bool):SV×List Blk:=((.one (.lit (.bool r))),[])
def q245:=bOC (fun a=>KQ a (aYX a)) a4C
theorem bXR:eS (fun live x=>cK (lH bFR (kH x)) (eY R 0 9223372036854775808 (.loop live x))) (nK 245).body:=(bT (l:=[([5,6,7],MH)]) (by kernel_rfl) ⟨eP (n:=8) (by kernel_rfl) fun σ σr t h ho hl=>bFQ σ σr t h ho hl,trivial⟩)
theorem b34:cD 100245 q245:=bOD fun a hk=>tzl aA5 bXR [] [] true (bFS a) (KQ a) hk
def Q245:=aX 100245 q245 Q166
theorem PR:QO Q245:=aB b34 aA5
def b35(a:List Row)(b:List Row):List SV:=[(.one (.imm false 1 a)),(.one (.imm false 1 b))]
def b36(a:List Row)(b:List Row):List Blk:=[]
def bOE(N:List Row→List Row→SV×List Blk)(K:List Row→List Row→Bool):List SV→List Blk→Option ((SV×List Blk)×Bool)
 |[(.one (.imm false 1 c0)),(.one (.imm false 1 c1))],[]=>some (N c0 c1,K c0 c1)
 |_,_=>none
theorem bOF{N:List Row→List Row→SV×List Blk}{K:List Row→List Row→Bool}{f:Nat}(h: ∀(a:List Row)(b:List Row),K a b=true→cY R f (b35 a b) (b36 a b)=some (N a b)):cD f (bOE N K):=fun _ _ _ e=>by
 unfold bOE at e;split at e
 ·exact vO e (h _ _)
 ·cases e
structure V232_0 where
 mk::
 (b0:bC)
 (b1:bC)
 (s1:List Row)
 (s32:List Row)
 (s33:Int)
 (s34:Int)
section
variable(v:V232_0)
def IH:List Row:=(List.set v.b1.Bytes (0+(iN v.s34)) (aL (bF v.s32 (iN v.s34) 0)))
def II:Bool:=((cV (ln v.b1.Bytes) (ln (IH v)))&&((e1 (ln v.b1.Log))&&true))
end
def DL(v:V232_0):Pt (Option V232_0):=(ot (.br (ltI v.s34 v.s33) (.ok ((fU [.int .i64] v.s32 v.s34)&&true) (.ok (((leI 0 v.s34)&&(ltI v.s34 (bN v.b1.Bytes)))&&(((blt (0+(iN v.s34)) (ln v.b1.Bytes))&&(jW (jX v.b1.Bytes (0+(iN v.s34))) 1))&&true)) (ot (.ok ((((bI v.b0 true)&&((bI v.b1 true)&&(bI v.b0 (II v))))&&true)&&((bI v.b0 true)&&((II v)&&true))) (.leaf (some {v with b1:={v.b1 with Bytes:=(IH v)},s34:=(aV v.s34 1)})))))) (.leaf none)))
def SR(v:V232_0):St:=⟨[(1,(.one (.imm false 1 v.s1))),(4,(.one (.ptr 0 0 0))),(6,(.one (.ptr 1 0 0))),(32,(.one (.imm false 1 v.s32))),(33,(.one (li v.s33))),(34,(.one (li v.s34)))],[.box [.sl 2 0 (ln v.b0.Bytes), .sl 3 0 (ln v.b0.Log)], .box [.sl 4 0 (ln v.b1.Bytes), .sl 5 0 (ln v.b1.Log)], .lst 1 v.b0.Bytes, .lst 5 v.b0.Log, .lst 1 v.b1.Bytes, .lst 5 v.b1.Log]⟩
def aA9:St→Option (V232_0×Bool)
 |⟨[(1,(.one (.imm false 1 c0))),(4,(.one (.ptr 0 0 0))),(6,(.one (.ptr 1 0 0))),(32,(.one (.imm false 1 c1))),(33,(.one (li c2))),(34,(.one (li c3)))],[.box [.sl 2 0 l2, .sl 3 0 l3], .box [.sl 4 0 l4, .sl 5 0 l5], .lst 1 c_2, .lst 5 c_3, .lst 1 c_4, .lst 5 c_5]⟩=>some ((V232_0.mk (bC.mk c_2 c_3) (bC.mk c_4 c_5) c0 c1 c2 c3),cV l2 (ln c_2)&&(cV l3 (ln c_3)&&(cV l4 (ln c_4)&&(cV l5 (ln c_5)&&(true)))))
 |_=>none
def aBA:St→Option (Pt Out):=vH Q245 ([(1000003,[])]++CD 232) [] true [] 0 9223372036854775808 aJX
theorem bFT(v:V232_0):((aBA (SR v)).bind (pG true true 0 [1,4,6,32,33,34]))=some ((DL v).map (Option.map SR)):=by kernel_rfl
theorem bFU(σ:St)(v:V232_0)(h:aA9 σ=some (v,true)):σ=SR v:=by
 unfold aA9 at h;split at h
 ·obtain⟨hr,hk⟩:=qp (qi h);obtain⟨d0,hk0⟩:=aS hk;obtain⟨d1,hk1⟩:=aS hk0;obtain⟨d2,hk2⟩:=aS hk1;obtain⟨d3,hk3⟩:=aS hk2;obtain rfl:=of_decide_eq_true d0;obtain rfl:=of_decide_eq_true d1;obtain rfl:=of_decide_eq_true d2;obtain rfl:=of_decide_eq_true d3;rw[←hr];rfl
 ·simp at h
theorem bFV:cK (qU true true 0 [1,4,6,32,33,34] aBA aA9 SR DL 9223372036854775808) (eY R 0 9223372036854775808 (.loop [1,4,6,32,33,34] aJX)):=dD (cL PR (bT (l:=[]) (by kernel_rfl) trivial)) bFU bFT
def aRG:Lp:=(35,qU true true 0 [1,4,6,32,33,34] aBA aA9 SR DL 9223372036854775808)::[]
def a4D(v:V232_0):V232_0:=(hid (dB DL 9223372036854775808 v)).getD v
def a4E(v:V232_0):Bool:=(hid (dB DL 9223372036854775808 v)).isSome
structure V232_1 where
 mk::
 (b0:bC)
 (b1:bC)
 (s45:List Row)
 (s46:Int)
 (s47:Int)
section
variable(v:V232_1)
def IJ:List Row:=(List.set v.b1.Bytes (0+(iN (aV 384 v.s47))) (aL (bF v.s45 (iN v.s47) 0)))
def IK:Bool:=((cV (ln v.b1.Bytes) (ln (IJ v)))&&((e1 (ln v.b1.Log))&&true))
end
def DM(v:V232_1):Pt (Option V232_1):=(ot (.br (ltI v.s47 v.s46) (.ok ((fU [.int .i64] v.s45 v.s47)&&true) (.ok (((leI 0 (aV 384 v.s47))&&(ltI (aV 384 v.s47) (bN v.b1.Bytes)))&&(((blt (0+(iN (aV 384 v.s47))) (ln v.b1.Bytes))&&(jW (jX v.b1.Bytes (0+(iN (aV 384 v.s47)))) 1))&&true)) (ot (.ok ((((bI v.b0 true)&&((bI v.b1 true)&&(bI v.b0 (IK v))))&&true)&&((bI v.b0 true)&&((IK v)&&true))) (.leaf (some {v with b1:={v.b1 with Bytes:=(IJ v)},s47:=(aV v.s47 1)})))))) (.leaf none)))
def SS(v:V232_1):St:=⟨[(4,(.one (.ptr 0 0 0))),(6,(.one (.ptr 1 0 0))),(45,(.one (.imm false 1 v.s45))),(46,(.one (li v.s46))),(47,(.one (li v.s47)))],[.box [.sl 2 0 (ln v.b0.Bytes), .sl 3 0 (ln v.b0.Log)], .box [.sl 4 0 (ln v.b1.Bytes), .sl 5 0 (ln v.b1.Log)], .lst 1 v.b0.Bytes, .lst 5 v.b0.Log, .lst 1 v.b1.Bytes, .lst 5 v.b1.Log]⟩
def aBB:St→Option (V232_1×Bool)
 |⟨[(4,(.one (.ptr 0 0 0))),(6,(.one (.ptr 1 0 0))),(45,(.one (.imm false 1 c0))),(46,(.one (li c1))),(47,(.one (li c2)))],[.box [.sl 2 0 l2, .sl 3 0 l3], .box [.sl 4 0 l4, .sl 5 0 l5], .lst 1 c_2, .lst 5 c_3, .lst 1 c_4, .lst 5 c_5]⟩=>some ((V232_1.mk (bC.mk c_2 c_3) (bC.mk c_4 c_5) c0 c1 c2),cV l2 (ln c_2)&&(cV l3 (ln c_3)&&(cV l4 (ln c_4)&&(cV l5 (ln c_5)&&(true)))))
 |_=>none
def aBC:St→Option (Pt Out):=vH Q245 ([(1000003,[])]++CD 232) [] true aRG 0 9223372036854775808 aJY
theorem bFW(v:V232_1):((aBC (SS v)).bind (pG true true 0 [4,6,45,46,47]))=some ((DM v).map (Option.map SS)):=by kernel_rfl
theorem bFX(σ:St)(v:V232_1)(h:aBB σ=some (v,true)):σ=SS v:=by
 unfold aBB at h;split at h
 ·obtain⟨hr,hk⟩:=qp (qi h);obtain⟨d0,hk0⟩:=aS hk;obtain⟨d1,hk1⟩:=aS hk0;obtain⟨d2,hk2⟩:=aS hk1;obtain⟨d3,hk3⟩:=aS hk2;obtain rfl:=of_decide_eq_true d0;obtain rfl:=of_decide_eq_true d1;obtain rfl:=of_decide_eq_true d2;obtain rfl:=of_decide_eq_true d3;rw[←hr];rfl
 ·simp at h
theorem bFY:cK (qU true true 0 [4,6,45,46,47] aBC aBB SS DM 9223372036854775808) (eY R 0 9223372036854775808 (.loop [4,6,45,46,47] aJY)):=dD (cL PR (bT (l:=[]) (by kernel_rfl) trivial)) bFX bFW
def bFZ:Lp:=(48,qU true true 0 [4,6,45,46,47] aBC aBB SS DM 9223372036854775808)::aRG
def aK4(v:V232_1):V232_1:=(hid (dB DM 9223372036854775808 v)).getD v
def a4F(v:V232_1):Bool:=(hid (dB DM 9223372036854775808 v)).isSome
section
variable(a:List Row)(b:List Row)
def lM:V232_0:=(a4D (V232_0.mk (bC.mk [] []) (bC.mk (List.replicate 512 (aL 0)) []) b a (bN a) 0))
def aK5:Bool:=(bI (lM a b).b0 (bI (lM a b).b1 true))
def aK6:Bool:=(bI (aK4 (V232_1.mk (lM a b).b0 (lM a b).b1 (lM a b).s1 (bN (lM a b).s1) 0)).b1 true)
end
def a4G(a:List Row)(b:List Row):Pt (bC×Bool):=(ot (.ok ((a4C a)&&((((a4C b)&&true)||(!(aYX a)))&&true)) (.br (bif (bif (bif (!(aYX a))then true else(!(aYX b)))then true else(kV (bN a) 384))then true else(kV (bN b) 64)) (ot (ot (.leaf ((bC.mk [] []),false)))) (ot (ot (ot (ot (.ok (a4E (V232_0.mk (bC.mk [] []) (bC.mk (List.replicate 512 (aL 0)) []) b a (bN a) 0)) (ot (.ok ((((bI (lM a b).b0 true)&&((bI (lM a b).b1 true)&&(aK5 a b)))&&true)&&((bI (lM a b).b0 true)&&((bI (lM a b).b1 true)&&true))) (.ok (aK5 a b) (.ok (a4F (V232_1.mk (lM a b).b0 (lM a b).b1 (lM a b).s1 (bN (lM a b).s1) 0)) (ot (.ok ((aK6 a b)&&((aK6 a b)&&true)) (.leaf ((aK4 (V232_1.mk (lM a b).b0 (lM a b).b1 (lM a b).s1 (bN (lM a b).s1) 0)).b1,true))))))))))))))))
def aGQ(a:List Row)(b:List Row):bC×Bool:=hid (a4G a b).val
def bF0(a:List Row)(b:List Row):Bool:=hid (a4G a b).okv
def bXS(a:List Row)(b:List Row)(r:bC×Bool):SV×List Blk:=((.tup [(.agg [.sl 0 0 (ln r.1.Bytes), .sl 1 0 (ln r.1.Log)]),(.one (.lit (.bool r.2)))]),[.lst 1 r.1.Bytes, .lst 5 r.1.Log])
def q232:=bOE (fun a b=>bXS a b (aGQ a b)) bF0
theorem bXT:eS (fun live x=>cK (lH bFZ (kH x)) (eY R 0 9223372036854775808 (.loop live x))) (nK 232).body:=(bT (l:=[([1,4,6,32,33,34],aJX),([4,6,45,46,47],aJY)]) (by kernel_rfl) ⟨eP (n:=35) (by kernel_rfl) fun σ σr t h ho hl=>bFV σ σr t h ho hl,eP (n:=48) (by kernel_rfl) fun σ σr t h ho hl=>bFY σ σr t h ho hl,trivial⟩)
theorem b37:cD 232 q232:=bOF fun a b hk=>tcl PR bXT [(1000003,[])] [] true (a4G a b) (bXS a b) hk
def Q232:=aX 232 q232 Q245
theorem aRH:QO Q232:=aB b37 PR
def b38(a:List Row)(b:Int):List SV:=[(.one (.imm false 1 a)),(.one (li b))]
def b39(a:List Row)(b:Int):List Blk:=[]
def bOG(N:List Row→Int→SV×List Blk)(K:List Row→Int→Bool):List SV→List Blk→Option ((SV×List Blk)×Bool)
 |[(.one (.imm false 1 c0)),(.one (li c1))],[]=>some (N c0 c1,K c0 c1)
 |_,_=>none
theorem bOH{N:List Row→Int→SV×List Blk}{K:List Row→Int→Bool}{f:Nat}(h: ∀(a:List Row)(b:Int),K a b=true→cY R f (b38 a b) (b39 a b)=some (N a b)):cD f (bOG N K):=fun _ _ _ e=>by
 unfold bOG at e;split at e
 ·exact vO e (h _ _)
 ·cases e
section
variable(a:List Row)
def aK7:Bool:=((e1 (ln (GE).D))&&((cV (ln (GE).A) (ln (List.set (GE).A 3 (aL 384))))&&(bI (aGQ a []).1 true)))
end
def a4H(a:List Row)(b:Int):Pt (aD×Bool):=(ot (.ok ((bF0 a [])&&true) (.ok ((((k92 b)&&true)||(!(aGQ a []).2))&&true) (.br (bif (!(aGQ a []).2)then true else(!(g92 b))) (ot (ot (.leaf ((aD.mk (aE.mk [] [] 0 0 0 0 false false) (bC.mk [] []) false false),false)))) (.ok ((bFJ)&&true) (ot (.ok ((ltI 3 (bN (GE).A))&&(((blt 3 (ln (GE).A))&&(jW (jX (GE).A 3) 1))&&true)) (ot (.ok (((aK7 a)&&((aK (GE) (bI (aGQ a []).1 true))&&true))&&(((aK7 a)&&true)&&true)) (.leaf ((aD.mk {(GE)with A:=(List.set (GE).A 3 (aL 384)),PC:=b} (aGQ a []).1 false false),true)))))))))))
def WN(a:List Row)(b:Int):aD×Bool:=hid (a4H a b).val
def a4I(a:List Row)(b:Int):Bool:=hid (a4H a b).okv
def bXU(a:List Row)(b:Int)(r:aD×Bool):SV×List Blk:=((.tup [(.agg [.sl 0 0 (ln r.1.R.D), .sl 1 0 (ln r.1.R.A),li r.1.R.Other,li r.1.R.PC,li r.1.R.Flags,li r.1.R.Mask, .lit (.bool r.1.R.Super), .lit (.bool r.1.R.Trace), .sl 2 0 (ln r.1.Bus.Bytes), .sl 3 0 (ln r.1.Bus.Log), .lit (.bool r.1.Stop), .lit (.bool r.1.Halt)]),(.one (.lit (.bool r.2)))]),[.lst 1 r.1.R.D, .lst 1 r.1.R.A, .lst 1 r.1.Bus.Bytes, .lst 5 r.1.Bus.Log])
def q167:=bOG (fun a b=>bXU a b (WN a b)) a4I
theorem b4A:cD 167 q167:=bOH fun a b hk=>tcx aRH [(1000001,[])] [] true (a4H a b) (bXU a b) hk
def Q167:=aX 167 q167 Q232
theorem aRI:QO Q167:=aB b4A aRH
section
variable(a:aG)
def KR:aD×Bool:=(WN (xI a).2.1 (xI a).2.2)
def vA:aG×Int:=(cO 60 (PE (xI a).1).1)
def GX:Bool:=(aK (PE (xI a).1).2 (bI (WN [] 0).1.Bus true))
def aGR:aE:={(PE (xI a).1).2 with PC:=(WN [] 0).1.R.PC}
def GY:Bool:=(aK (PE (xI a).1).2 (bI (KR a).1.Bus true))
def aGS:aE:={(PE (xI a).1).2 with PC:=(KR a).1.R.PC}
end
def T81(a:aG):Pt (aG×aD):=(ot (.ok ((bOA a)&&true) (.ok ((bOB (xI a).1)&&true) (.ok ((((e1 (ln (xI a).2.1))&&true)&&(a4I (xI a).2.1 (xI a).2.2))&&true) (ot (.br (!(KR a).2) (.ok ((a4I [] 0)&&true) (ot (ot (ot (.ok ((xG 60 (PE (xI a).1).1)&&true) (ot (.br (eqI (vA a).2 0) (ot (ot (.ok ((GX a)&&((GX a)&&true)) (.leaf ((vA a).1,{(WN [] 0).1 with R:=(aGR a),Stop:=true}))))) (ot (.br (eqI (vA a).2 1) (ot (ot (.ok ((GX a)&&((GX a)&&true)) (.leaf ((vA a).1,{(WN [] 0).1 with R:=(aGR a),Halt:=true}))))) (ot (.br (eqI (vA a).2 2) (ot (ot (.ok ((GX a)&&((GX a)&&true)) (.leaf ((vA a).1,{(WN [] 0).1 with R:=(PE (xI a).1).2}))))) (ot (.ok ((GX a)&&((GX a)&&true)) (.leaf ((vA a).1,{(WN [] 0).1 with R:=(aGR a)}))))))))))))))) (ot (ot (ot (.ok ((xG 60 (PE (xI a).1).1)&&true) (ot (.br (eqI (vA a).2 0) (ot (ot (.ok ((GY a)&&((GY a)&&true)) (.leaf ((vA a).1,{(KR a).1 with R:=(aGS a),Stop:=true}))))) (ot (.br (eqI (vA a).2 1) (ot (ot (.ok ((GY a)&&((GY a)&&true)) (.leaf ((vA a).1,{(KR a).1 with R:=(aGS a),Halt:=true}))))) (ot (.br (eqI (vA a).2 2) (ot (ot (.ok ((GY a)&&((GY a)&&true)) (.leaf ((vA a).1,{(KR a).1 with R:=(PE (xI a).1).2}))))) (ot (.ok ((GY a)&&((GY a)&&true)) (.leaf ((vA a).1,{(KR a).1 with R:=(aGS a)}))))))))))))))))))))
def GZ(a:aG):aG×aD:=hid (T81 a).val
def k81(a:aG):Bool:=hid (T81 a).okv
def n81(a:aG)(r:aG×aD):SV×List Blk:=((.agg [.sl 1 0 (ln r.2.R.D), .sl 2 0 (ln r.2.R.A),li r.2.R.Other,li r.2.R.PC,li r.2.R.Flags,li r.2.R.Mask, .lit (.bool r.2.R.Super), .lit (.bool r.2.R.Trace), .sl 3 0 (ln r.2.Bus.Bytes), .sl 4 0 (ln r.2.Bus.Log), .lit (.bool r.2.Stop), .lit (.bool r.2.Halt)]),[.box [.imm true 1 r.1.fcode,li r.1.fat, .lit (.int .u64 r.1.fseed)], .lst 1 r.2.R.D, .lst 1 r.2.R.A, .lst 1 r.2.Bus.Bytes, .lst 5 r.2.Bus.Log])
def q81:=DS0 (fun a=>n81 a (GZ a)) k81
theorem t81:cD 81 q81:=KL fun a hk=>tc aRI (T81 a) (n81 a) hk
def Q81:=aX 81 q81 Q167
theorem a4J:QO Q81:=aB t81 aRI
section
variable(a:aG)
def IM:aG×Int:=(rE [(aL 0),(aL 0),(aL 2),(aL 5),(aL 7)] (GZ a).1)
def ST:aG×Bool:=(kX 40 (kX 6 (IM a).1).1)
def aK8:Bool:=((aI (GZ a).2 true)&&((aI (GZ a).2 true)&&true))
def aK9:aG×Int:=(rE [(aL (-1)),(aL 8)] (ST a).1)
end
def a4K(a:aG):Pt (aG×bA):=(ot (.ok ((k81 a)&&((z8 [(aL 0),(aL 0),(aL 2),(aL 5),(aL 7)] (GZ a).1)&&((Z8 6 (IM a).1)&&true))) (.ok ((Z8 40 (kX 6 (IM a).1).1)&&true) (.br (ST a).2 (.ok ((z8 [(aL (-1)),(aL 8)] (ST a).1)&&true) (ot (.ok (aK8 a) (.leaf ((aK9 a).1,(bA.mk (GZ a).2 (aK9 a).2 (kX 6 (IM a).1).2)))))) (ot (.ok (aK8 a) (.leaf ((ST a).1,(bA.mk (GZ a).2 (IM a).2 (kX 6 (IM a).1).2)))))))))
def bF1(a:aG):aG×bA:=hid (a4K a).val
def bOI(a:aG):Bool:=hid (a4K a).okv
def bXX(a:aG)(r:aG×bA):SV×List Blk:=((.agg [.sl 1 0 (ln r.2.Cpu.R.D), .sl 2 0 (ln r.2.Cpu.R.A),li r.2.Cpu.R.Other,li r.2.Cpu.R.PC,li r.2.Cpu.R.Flags,li r.2.Cpu.R.Mask, .lit (.bool r.2.Cpu.R.Super), .lit (.bool r.2.Cpu.R.Trace), .sl 3 0 (ln r.2.Cpu.Bus.Bytes), .sl 4 0 (ln r.2.Cpu.Bus.Log), .lit (.bool r.2.Cpu.Stop), .lit (.bool r.2.Cpu.Halt),li r.2.Line, .lit (.bool r.2.Edge)]),[.box [.imm true 1 r.1.fcode,li r.1.fat, .lit (.int .u64 r.1.fseed)], .lst 1 r.2.Cpu.R.D, .lst 1 r.2.Cpu.R.A, .lst 1 r.2.Cpu.Bus.Bytes, .lst 5 r.2.Cpu.Bus.Log])
def q106:=DS0 (fun a=>bXX a (bF1 a)) bOI
theorem b4B:cD 106 q106:=KL fun a hk=>tc a4J (a4K a) (bXX a) hk
def Q106:=aX 106 q106 Q81
theorem aRJ:QO Q106:=aB b4B a4J
def b4C(a:List Row):List SV:=[(.one (.imm true 1 a))]
def b4D(a:List Row):List Blk:=[]
def aBD(N:List Row→SV×List Blk)(K:List Row→Bool):List SV→List Blk→Option ((SV×List Blk)×Bool)
 |[(.one (.imm true 1 c0))],[]=>some (N c0,K c0)
 |_,_=>none
theorem IN{N:List Row→SV×List Blk}{K:List Row→Bool}{f:Nat}(h: ∀(a:List Row),K a=true→cY R f (b4C a) (b4D a)=some (N a)):cD f (aBD N K):=fun _ _ _ e=>by
 unfold aBD at e;split at e
 ·exact vO e (h _)
 ·cases e
section
variable(a:List Row)
def SU:aG×bA:=(bF1 (aG.mk a 0 0))
end
def T26(a:List Row):Pt (bA×Int):=(ot (ot (.ok ((bOI (aG.mk a 0 0))&&((z8 [(aL (-1)),(aL 0),(aL 1),(aL 5),(aL 20),(aL 60),(aL 61)] (SU a).1)&&true)) (.ok ((bV (SU a).2 true)&&((bV (SU a).2 true)&&true)) (.ok ((bV (SU a).2 true)&&true) (.leaf ((SU a).2,(rE [(aL (-1)),(aL 0),(aL 1),(aL 5),(aL 20),(aL 60),(aL 61)] (SU a).1).2)))))))
def KS(a:List Row):bA×Int:=hid (T26 a).val
def k26(a:List Row):Bool:=hid (T26 a).okv
def n26(a:List Row)(r:bA×Int):SV×List Blk:=((.tup [(.agg [.imm true 1 r.1.Cpu.R.D, .imm true 1 r.1.Cpu.R.A,li r.1.Cpu.R.Other,li r.1.Cpu.R.PC,li r.1.Cpu.R.Flags,li r.1.Cpu.R.Mask, .lit (.bool r.1.Cpu.R.Super), .lit (.bool r.1.Cpu.R.Trace), .imm true 1 r.1.Cpu.Bus.Bytes, .imm true 5 r.1.Cpu.Bus.Log, .lit (.bool r.1.Cpu.Stop), .lit (.bool r.1.Cpu.Halt),li r.1.Line, .lit (.bool r.1.Edge)]),(.one (li r.2))]),[])
def q26:=aBD (fun a=>n26 a (KS a)) k26
theorem t26:cD 100026 q26:=IN fun a hk=>tz aRJ (T26 a) (n26 a) hk
def Q26:=aX 100026 q26 Q106
theorem a4L:QO Q26:=aB t26 aRJ
def a4M(a:Int)(b:Int)(c:Int):Pt (Bool):=(ot (ot (ot (ot (.leaf (bif (geI a b)then(leI a c)else false))))))
def tW(a:Int)(b:Int)(c:Int):Bool:=hid (a4M a b c).val
def wF(a:Int)(b:Int)(c:Int):Bool:=hid (a4M a b c).okv
def q109:=DS5 (fun a b c=>bEP a b c (tW a b c)) wF
theorem b4F:cD 100109 q109:=C9 fun a b c hk=>tz a4L (a4M a b c) (bEP a b c) hk
def Q109:=aX 100109 q109 Q26
theorem aRK:QO Q109:=aB b4F a4L
def T87(a:Int):Pt (Bool):=(ot (.ok ((wF a 0 65535)&&true) (ot (ot (.leaf (tW a 0 65535))))))
def g87(a:Int):Bool:=hid (T87 a).val
def k87(a:Int):Bool:=hid (T87 a).okv
def q87:=B8 (fun a=>jY a (g87 a)) k87
theorem t87:cD 100087 q87:=gQ fun a hk=>tz aRK (T87 a) (jY a) hk
def Q87:=aX 100087 q87 Q109
theorem a4N:QO Q87:=aB t87 aRK
def a4O(a:Int):Pt (Bool):=(ot (.ok ((k87 a)&&true) (ot (.leaf (!(g87 a))))))
def bF2(a:Int):Bool:=hid (a4O a).val
def bF3(a:Int):Bool:=hid (a4O a).okv
def q320:=B8 (fun a=>jY a (bF2 a)) bF3
theorem b4G:cD 320 q320:=gQ fun a hk=>tc a4N (a4O a) (jY a) hk
def Q320:=aX 320 q320 Q87
theorem aBE:QO Q320:=aB b4G a4N
def b4H(a:List Row):List SV:=[(.one (.imm true 1 a)),(.one (.clo 320 []))]
def b4I(a:List Row):List Blk:=[]
def bF4(N:List Row→SV×List Blk)(K:List Row→Bool):List SV→List Blk→Option ((SV×List Blk)×Bool)
 |[(.one (.imm true 1 c0)),(.one (.clo 320 []))],[]=>some (N c0,K c0)
 |_,_=>none
theorem a4P{N:List Row→SV×List Blk}{K:List Row→Bool}{f:Nat}(h: ∀(a:List Row),K a=true→cY R f (b4H a) (b4I a)=some (N a)):cD f (bF4 N K):=fun _ _ _ e=>by
 unfold bF4 at e;split at e
 ·exact vO e (h _)
 ·cases e
structure V275_0 where
 mk::
 (s0:List Row)
 (s7:Int)
 (s8:Int)
def MX(v:V275_0):Pt (Option V275_0):=(ot (.br (ltI v.s8 v.s7) (ot (.ok ((fU [.int .i64] v.s0 v.s8)&&((bF3 (bF v.s0 (iN v.s8) 0))&&true)) (.br (bF2 (bF v.s0 (iN v.s8) 0)) (ot (.leaf none)) (ot (ot (.leaf (some {v with s8:=(aV v.s8 1)}))))))) (.leaf none)))
def SW(v:V275_0):St:=⟨[(0,(.one (.imm true 1 v.s0))),(1,(.one (.clo 320 []))),(7,(.one (li v.s7))),(8,(.one (li v.s8)))],[]⟩
def aBF:St→Option (V275_0×Bool)
 |⟨[(0,(.one (.imm true 1 c0))),(1,(.one (.clo 320 []))),(7,(.one (li c1))),(8,(.one (li c2)))],[]⟩=>some ((V275_0.mk c0 c1 c2),true)
 |_=>none
def aBG:St→Option (Pt Out):=vH Q320 ([]++CD 275) [] true [] 0 9223372036854775808 MI
theorem bF5(v:V275_0):((aBG (SW v)).bind (pG true false 0 [0,1,7,8]))=some ((MX v).map (Option.map SW)):=by kernel_rfl
theorem bF6(σ:St)(v:V275_0)(h:aBF σ=some (v,true)):σ=SW v:=by
 unfold aBF at h;split at h
 ·obtain⟨hr,hk⟩:=qp (qi h);rw[←hr];rfl
 ·simp at h
theorem bF7:cK (qU true false 0 [0,1,7,8] aBG aBF SW MX 9223372036854775808) (eY R 0 9223372036854775808 (.loop [0,1,7,8] MI)):=dD (cL aBE (bT (l:=[]) (by kernel_rfl) trivial)) bF6 bF5
def bF8:Lp:=(9,qU true false 0 [0,1,7,8] aBG aBF SW MX 9223372036854775808)::[]
def SX(v:V275_0):V275_0:=(hid (dB MX 9223372036854775808 v)).getD v
def aLA(v:V275_0):Bool:=(hid (dB MX 9223372036854775808 v)).isSome
section
variable(a:List Row)
def aBH:V275_0:=(SX (V275_0.mk a (bN a) 0))
end
def bF9(a:List Row):Pt (Int):=(ot (ot (ot (ot (.ok (aLA (V275_0.mk a (bN a) 0)) (.br (ltI (aBH a).s8 (aBH a).s7) (ot (.leaf (aBH a).s8)) (ot (ot (.leaf (-1))))))))))
def bGA(a:List Row):Int:=hid (bF9 a).val
def bGB(a:List Row):Bool:=hid (bF9 a).okv
def aGT(a:List Row)(r:Int):SV×List Blk:=((.one (li r)),[])
def q275:=bF4 (fun a=>aGT a (bGA a)) bGB
theorem bXZ:eS (fun live x=>cK (lH bF8 (kH x)) (eY R 0 9223372036854775808 (.loop live x))) (nK 275).body:=(bT (l:=[([0,1,7,8],MI)]) (by kernel_rfl) ⟨eP (n:=9) (by kernel_rfl) fun σ σr t h ho hl=>bF7 σ σr t h ho hl,trivial⟩)
theorem b4J:cD 275 q275:=a4P fun a hk=>tcl aBE bXZ [] [] true (bF9 a) (aGT a) hk
def Q275:=aX 275 q275 Q320
theorem aRL:QO Q275:=aB b4J aBE
def bGC(a:List Row):Pt (Bool):=(ot (.ok ((bGB a)&&true) (ot (.leaf (geI (bGA a) 0)))))
def a4Q(a:List Row):Bool:=hid (bGC a).val
def a4R(a:List Row):Bool:=hid (bGC a).okv
def q222:=bF4 (fun a=>KQ a (a4Q a)) a4R
theorem b4K:cD 222 q222:=a4P fun a hk=>tc aRL (bGC a) (KQ a) hk
def Q222:=aX 222 q222 Q275
theorem aRM:QO Q222:=aB b4K aRL
def a4S(a:List Row):Pt (Bool):=(ot (.ok ((((a4R a)&&true)||(!(eqI (bN a) 4)))&&true) (ot (ot (.leaf (bif (eqI (bN a) 4)then(!(a4Q a))else false))))))
def a4T(a:List Row):Bool:=hid (a4S a).val
def bGD(a:List Row):Bool:=hid (a4S a).okv
def q268:=aBD (fun a=>KQ a (a4T a)) bGD
theorem b4L:cD 100268 q268:=IN fun a hk=>tz aRM (a4S a) (KQ a) hk
def Q268:=aX 100268 q268 Q222
theorem aRN:QO Q268:=aB b4L aRM
def a4U(a:Int):Pt (Bool):=(ot (.ok ((wF a 0 31)&&true) (ot (ot (.leaf (tW a 0 31))))))
def bOK(a:Int):Bool:=hid (a4U a).val
def bOL(a:Int):Bool:=hid (a4U a).okv
def q269:=B8 (fun a=>jY a (bOK a)) bOL
theorem b4M:cD 100269 q269:=gQ fun a hk=>tz aRN (a4U a) (jY a) hk
def Q269:=aX 100269 q269 Q268
theorem aRO:QO Q269:=aB b4M aRN
def b4N(a:aE):List SV:=[(.agg [.imm true 1 a.D, .imm true 1 a.A,li a.Other,li a.PC,li a.Flags,li a.Mask, .lit (.bool a.Super), .lit (.bool a.Trace)])]
def b4O(a:aE):List Blk:=[]
def bGE(N:aE→SV×List Blk)(K:aE→Bool):List SV→List Blk→Option ((SV×List Blk)×Bool)
 |[(.agg [.imm true 1 c0, .imm true 1 c1,li c2,li c3,li c4,li c5, .lit (.bool c6), .lit (.bool c7)])],[]=>some (N (aE.mk c0 c1 c2 c3 c4 c5 c6 c7),K (aE.mk c0 c1 c2 c3 c4 c5 c6 c7))
 |_,_=>none
theorem a4V{N:aE→SV×List Blk}{K:aE→Bool}{f:Nat}(h: ∀(a:aE),K a=true→cY R f (b4N a) (b4O a)=some (N a)):cD f (bGE N K):=fun _ _ _ e=>by
 unfold bGE at e;split at e
 ·exact vO e (h _)
 ·cases e
section
variable(a:aE)
def aLB:Bool:=(bif (a4T a.D)then(a4T a.A)else false)
def aLC:Bool:=(bif (aLB a)then(g87 a.Other)else false)
def aLD:Bool:=(bif (aLC a)then(g87 a.PC)else false)
def aLE:Bool:=(bif (aLD a)then(bOK a.Flags)else false)
end
def a4W(a:aE):Pt (Bool):=(ot (.ok ((bGD a.D)&&((((bGD a.A)&&true)||(!(a4T a.D)))&&((((k87 a.Other)&&true)||(!(aLB a)))&&((((k87 a.PC)&&true)||(!(aLC a)))&&((((bOL a.Flags)&&true)||(!(aLD a)))&&((((wF a.Mask 0 7)&&true)||(!(aLE a)))&&true)))))) (ot (ot (.leaf (bif (aLE a)then(tW a.Mask 0 7)else false))))))
def bGF(a:aE):Bool:=hid (a4W a).val
def bOM(a:aE):Bool:=hid (a4W a).okv
def bGG(a:aE)(r:Bool):SV×List Blk:=((.one (.lit (.bool r))),[])
def q200:=bGE (fun a=>bGG a (bGF a)) bOM
theorem b4P:cD 100200 q200:=a4V fun a hk=>tz aRO (a4W a) (bGG a) hk
def Q200:=aX 100200 q200 Q269
theorem aRP:QO Q200:=aB b4P aRO
def a4X(a:Int):Pt (Bool):=(ot (.ok ((wF a 0 255)&&true) (ot (.leaf (!(tW a 0 255))))))
def bGH(a:Int):Bool:=hid (a4X a).val
def bGI(a:Int):Bool:=hid (a4X a).okv
def q223:=B8 (fun a=>jY a (bGH a)) bGI
theorem b4Q:cD 223 q223:=gQ fun a hk=>tc aRP (a4X a) (jY a) hk
def Q223:=aX 223 q223 Q200
theorem aBI:QO Q223:=aB b4Q aRP
def b4R(a:List Row):List SV:=[(.one (.imm true 1 a)),(.one (.clo 223 []))]
def b4S(a:List Row):List Blk:=[]
def bGJ(N:List Row→SV×List Blk)(K:List Row→Bool):List SV→List Blk→Option ((SV×List Blk)×Bool)
 |[(.one (.imm true 1 c0)),(.one (.clo 223 []))],[]=>some (N c0,K c0)
 |_,_=>none
theorem a4Y{N:List Row→SV×List Blk}{K:List Row→Bool}{f:Nat}(h: ∀(a:List Row),K a=true→cY R f (b4R a) (b4S a)=some (N a)):cD f (bGJ N K):=fun _ _ _ e=>by
 unfold bGJ at e;split at e
 ·exact vO e (h _)
 ·cases e
structure V275v1_0 where
 mk::
 (s0:List Row)
 (s7:Int)
 (s8:Int)
def z9(v:V275v1_0):Pt (Option V275v1_0):=(ot (.br (ltI v.s8 v.s7) (ot (.ok ((fU [.int .i64] v.s0 v.s8)&&((bGI (bF v.s0 (iN v.s8) 0))&&true)) (.br (bGH (bF v.s0 (iN v.s8) 0)) (ot (.leaf none)) (ot (ot (.leaf (some {v with s8:=(aV v.s8 1)}))))))) (.leaf none)))
def DN(v:V275v1_0):St:=⟨[(0,(.one (.imm true 1 v.s0))),(1,(.one (.clo 223 []))),(7,(.one (li v.s7))),(8,(.one (li v.s8)))],[]⟩
def KT:St→Option (V275v1_0×Bool)
 |⟨[(0,(.one (.imm true 1 c0))),(1,(.one (.clo 223 []))),(7,(.one (li c1))),(8,(.one (li c2)))],[]⟩=>some ((V275v1_0.mk c0 c1 c2),true)
 |_=>none
def MY:St→Option (Pt Out):=vH Q223 ([]++CD 275) [] true [] 0 9223372036854775808 MI
theorem aYY(v:V275v1_0):((MY (DN v)).bind (pG true false 0 [0,1,7,8]))=some ((z9 v).map (Option.map DN)):=by kernel_rfl
theorem aYZ(σ:St)(v:V275v1_0)(h:KT σ=some (v,true)):σ=DN v:=by
 unfold KT at h;split at h
 ·obtain⟨hr,hk⟩:=qp (qi h);rw[←hr];rfl
 ·simp at h
theorem aY0:cK (qU true false 0 [0,1,7,8] MY KT DN z9 9223372036854775808) (eY R 0 9223372036854775808 (.loop [0,1,7,8] MI)):=dD (cL aBI (bT (l:=[]) (by kernel_rfl) trivial)) aYZ aYY
def aY1:Lp:=(9,qU true false 0 [0,1,7,8] MY KT DN z9 9223372036854775808)::[]
def DO(v:V275v1_0):V275v1_0:=(hid (dB z9 9223372036854775808 v)).getD v
def SY(v:V275v1_0):Bool:=(hid (dB z9 9223372036854775808 v)).isSome
section
variable(a:List Row)
def KU:V275v1_0:=(DO (V275v1_0.mk a (bN a) 0))
end
def aBJ(a:List Row):Pt (Int):=(ot (ot (ot (ot (.ok (SY (V275v1_0.mk a (bN a) 0)) (.br (ltI (KU a).s8 (KU a).s7) (ot (.leaf (KU a).s8)) (ot (ot (.leaf (-1))))))))))
def aBK(a:List Row):Int:=hid (aBJ a).val
def aBL(a:List Row):Bool:=hid (aBJ a).okv
def q275v1:=bGJ (fun a=>aGT a (aBK a)) aBL
theorem bGK:eS (fun live x=>cK (lH aY1 (kH x)) (eY R 0 9223372036854775808 (.loop live x))) (nK 275).body:=(bT (l:=[([0,1,7,8],MI)]) (by kernel_rfl) ⟨eP (n:=9) (by kernel_rfl) fun σ σr t h ho hl=>aY0 σ σr t h ho hl,trivial⟩)
theorem bON:cD 275 q275v1:=a4Y fun a hk=>tcl aBI bGK [] [] true (aBJ a) (aGT a) hk
def Q275v1:=aX 275 q275v1 Q223
theorem YH:QO Q275v1:=aB bON aBI
def aBM(a:List Row):Pt (Bool):=(ot (.ok ((aBL a)&&true) (ot (.leaf (geI (aBK a) 0)))))
def SZ(a:List Row):Bool:=hid (aBM a).val
def S5(a:List Row):Bool:=hid (aBM a).okv
def q222v1:=bGJ (fun a=>KQ a (SZ a)) S5
theorem bOO:cD 222 q222v1:=a4Y fun a hk=>tc YH (aBM a) (KQ a) hk
def Q222v1:=aX 222 q222v1 Q275v1
theorem YI:QO Q222v1:=aB bOO YH
def aLF(a:Int):Pt (Bool):=(ot (ot (ot (ot (.leaf (bif (eqI a 1)then true else(eqI a 2)))))))
def aGU(a:Int):Bool:=hid (aLF a).val
def aY2(a:Int):Bool:=hid (aLF a).okv
def q155:=B8 (fun a=>jY a (aGU a)) aY2
theorem b4T:cD 100155 q155:=gQ fun a hk=>tz YI (aLF a) (jY a) hk
def Q155:=aX 100155 q155 Q222v1
theorem aRQ:QO Q155:=aB b4T YI
def aLG(a:Int):Pt (Int):=(ot (.ok ((leI 0 (cX 8 a))&&true) (ot (ot (.leaf (nL 1 (cX 8 a)))))))
def pW(a:Int):Int:=hid (aLG a).val
def DP(a:Int):Bool:=hid (aLG a).okv
def xJ(a:Int)(r:Int):SV×List Blk:=((.one (li r)),[])
def q324:=B8 (fun a=>xJ a (pW a)) DP
theorem b4U:cD 100324 q324:=gQ fun a hk=>tz aRQ (aLG a) (xJ a) hk
def Q324:=aX 100324 q324 Q155
theorem aRR:QO Q324:=aB b4U aRQ
def b4V(a:Int)(b:Int):List SV:=[(.one (li a)),(.one (li b))]
def b4W(a:Int)(b:Int):List Blk:=[]
def KV(N:Int→Int→SV×List Blk)(K:Int→Int→Bool):List SV→List Blk→Option ((SV×List Blk)×Bool)
 |[(.one (li c0)),(.one (li c1))],[]=>some (N c0 c1,K c0 c1)
 |_,_=>none
theorem tX{N:Int→Int→SV×List Blk}{K:Int→Int→Bool}{f:Nat}(h: ∀(a:Int)(b:Int),K a b=true→cY R f (b4V a b) (b4W a b)=some (N a b)):cD f (KV N K):=fun _ _ _ e=>by
 unfold KV at e;split at e
 ·exact vO e (h _ _)
 ·cases e
def a4Z(a:Int)(b:Int):Pt (Bool):=(ot (.ok ((aY2 a)&&((((DP a)&&((wF b 0 (cF (pW a) 1))&&true))||(!(aGU a)))&&true)) (ot (ot (.leaf (bif (aGU a)then(tW b 0 (cF (pW a) 1))else false))))))
def bOP(a:Int)(b:Int):Bool:=hid (a4Z a b).val
def bOQ(a:Int)(b:Int):Bool:=hid (a4Z a b).okv
def WO(a:Int)(b:Int)(r:Bool):SV×List Blk:=((.one (.lit (.bool r))),[])
def q277:=KV (fun a b=>WO a b (bOP a b)) bOQ
theorem b4X:cD 100277 q277:=tX fun a b hk=>tz aRR (a4Z a b) (WO a b) hk
def Q277:=aX 100277 q277 Q324
theorem aRS:QO Q277:=aB b4X aRR
def b4Y(a:aA):List SV:=[(.agg [li a.Kind,li a.Size,li a.Addr,li a.Value,li a.Code])]
def b4Z(a:aA):List Blk:=[]
def a40(N:aA→SV×List Blk)(K:aA→Bool):List SV→List Blk→Option ((SV×List Blk)×Bool)
 |[(.agg [li c0,li c1,li c2,li c3,li c4])],[]=>some (N (aA.mk c0 c1 c2 c3 c4),K (aA.mk c0 c1 c2 c3 c4))
 |_,_=>none
theorem aLH{N:aA→SV×List Blk}{K:aA→Bool}{f:Nat}(h: ∀(a:aA),K a=true→cY R f (b4Y a) (b4Z a)=some (N a)):cD f (a40 N K):=fun _ _ _ e=>by
 unfold a40 at e;split at e
 ·exact vO e (h _)
 ·cases e
section
variable(a:aA)
def aLI:Bool:=(bif (tW a.Kind 1 3)then(g87 a.Addr)else false)
def aLJ:Bool:=(bif (aLI a)then(bOP a.Size a.Value)else false)
end
def a41(a:aA):Pt (Bool):=(ot (.ok ((wF a.Kind 1 3)&&((((k87 a.Addr)&&true)||(!(tW a.Kind 1 3)))&&((((bOQ a.Size a.Value)&&true)||(!(aLI a)))&&((((wF a.Code 0 3)&&true)||(!(aLJ a)))&&true)))) (ot (ot (.leaf (bif (bif (aLJ a)then(tW a.Code 0 3)else false)then(!(bif (eqI a.Kind 3)then(eqI a.Code 0)else false))else false))))))
def bOR(a:aA):Bool:=hid (a41 a).val
def bOS(a:aA):Bool:=hid (a41 a).okv
def aY3(a:aA)(r:Bool):SV×List Blk:=((.one (.lit (.bool r))),[])
def q226:=a40 (fun a=>aY3 a (bOR a)) bOS
theorem b40:cD 100226 q226:=aLH fun a hk=>tz aRS (a41 a) (aY3 a) hk
def Q226:=aX 100226 q226 Q277
theorem aRT:QO Q226:=aB b40 aRS
def a42(a:aA):Pt (Bool):=(ot (.ok ((bOS a)&&true) (ot (.leaf (!(bOR a))))))
def bGL(a:aA):Bool:=hid (a42 a).val
def bGM(a:aA):Bool:=hid (a42 a).okv
def q225:=a40 (fun a=>aY3 a (bGL a)) bGM
theorem b41:cD 225 q225:=aLH fun a hk=>tc aRT (a42 a) (aY3 a) hk
def Q225:=aX 225 q225 Q226
theorem aBN:QO Q225:=aB b41 aRT
def b42(a:List Row):List SV:=[(.one (.imm true 5 a)),(.one (.clo 225 []))]
def b43(a:List Row):List Blk:=[]
def bGN(N:List Row→SV×List Blk)(K:List Row→Bool):List SV→List Blk→Option ((SV×List Blk)×Bool)
 |[(.one (.imm true 5 c0)),(.one (.clo 225 []))],[]=>some (N c0,K c0)
 |_,_=>none
theorem a43{N:List Row→SV×List Blk}{K:List Row→Bool}{f:Nat}(h: ∀(a:List Row),K a=true→cY R f (b42 a) (b43 a)=some (N a)):cD f (bGN N K):=fun _ _ _ e=>by
 unfold bGN at e;split at e
 ·exact vO e (h _)
 ·cases e
structure V276_0 where
 mk::
 (s0:List Row)
 (s7:Int)
 (s8:Int)
def MZ(v:V276_0):Pt (Option V276_0):=(ot (.br (ltI v.s8 v.s7) (ot (.ok ((fU [.int .i64, .int .i64, .int .i64, .int .i64, .int .i64] v.s0 v.s8)&&((bGM (aA.at v.s0 (iN v.s8) 0))&&true)) (.br (bGL (aA.at v.s0 (iN v.s8) 0)) (ot (.leaf none)) (ot (ot (.leaf (some {v with s8:=(aV v.s8 1)}))))))) (.leaf none)))
def S6(v:V276_0):St:=⟨[(0,(.one (.imm true 5 v.s0))),(1,(.one (.clo 225 []))),(7,(.one (li v.s7))),(8,(.one (li v.s8)))],[]⟩
def aBO:St→Option (V276_0×Bool)
 |⟨[(0,(.one (.imm true 5 c0))),(1,(.one (.clo 225 []))),(7,(.one (li c1))),(8,(.one (li c2)))],[]⟩=>some ((V276_0.mk c0 c1 c2),true)
 |_=>none
def aBP:St→Option (Pt Out):=vH Q225 ([]++CD 276) [] true [] 0 9223372036854775808 aJ2
theorem bGO(v:V276_0):((aBP (S6 v)).bind (pG true false 0 [0,1,7,8]))=some ((MZ v).map (Option.map S6)):=by kernel_rfl
theorem bGP(σ:St)(v:V276_0)(h:aBO σ=some (v,true)):σ=S6 v:=by
 unfold aBO at h;split at h
 ·obtain⟨hr,hk⟩:=qp (qi h);rw[←hr];rfl
 ·simp at h
theorem bGQ:cK (qU true false 0 [0,1,7,8] aBP aBO S6 MZ 9223372036854775808) (eY R 0 9223372036854775808 (.loop [0,1,7,8] aJ2)):=dD (cL aBN (bT (l:=[]) (by kernel_rfl) trivial)) bGP bGO
def bGR:Lp:=(9,qU true false 0 [0,1,7,8] aBP aBO S6 MZ 9223372036854775808)::[]
def S7(v:V276_0):V276_0:=(hid (dB MZ 9223372036854775808 v)).getD v
def aLK(v:V276_0):Bool:=(hid (dB MZ 9223372036854775808 v)).isSome
section
variable(a:List Row)
def aBQ:V276_0:=(S7 (V276_0.mk a (bN a) 0))
end
def bGS(a:List Row):Pt (Int):=(ot (ot (ot (ot (.ok (aLK (V276_0.mk a (bN a) 0)) (.br (ltI (aBQ a).s8 (aBQ a).s7) (ot (.leaf (aBQ a).s8)) (ot (ot (.leaf (-1))))))))))
def bGT(a:List Row):Int:=hid (bGS a).val
def bGU(a:List Row):Bool:=hid (bGS a).okv
def q276:=bGN (fun a=>aGT a (bGT a)) bGU
theorem bX0:eS (fun live x=>cK (lH bGR (kH x)) (eY R 0 9223372036854775808 (.loop live x))) (nK 276).body:=(bT (l:=[([0,1,7,8],aJ2)]) (by kernel_rfl) ⟨eP (n:=9) (by kernel_rfl) fun σ σr t h ho hl=>bGQ σ σr t h ho hl,trivial⟩)
theorem b44:cD 276 q276:=a43 fun a hk=>tcl aBN bX0 [] [] true (bGS a) (aGT a) hk
def Q276:=aX 276 q276 Q225
theorem aRU:QO Q276:=aB b44 aBN
def bGV(a:List Row):Pt (Bool):=(ot (.ok ((bGU a)&&true) (ot (.leaf (geI (bGT a) 0)))))
def a44(a:List Row):Bool:=hid (bGV a).val
def a45(a:List Row):Bool:=hid (bGV a).okv
def q224:=bGN (fun a=>KQ a (a44 a)) a45
theorem b45:cD 224 q224:=a43 fun a hk=>tc aRU (bGV a) (KQ a) hk
def Q224:=aX 224 q224 Q276
theorem aRV:QO Q224:=aB b45 aRU
def b46(a:bC):List SV:=[(.agg [.imm true 1 a.Bytes, .imm true 5 a.Log])]
def b47(a:bC):List Blk:=[]
def a46(N:bC→SV×List Blk)(K:bC→Bool):List SV→List Blk→Option ((SV×List Blk)×Bool)
 |[(.agg [.imm true 1 c0, .imm true 5 c1])],[]=>some (N (bC.mk c0 c1),K (bC.mk c0 c1))
 |_,_=>none
theorem aLL{N:bC→SV×List Blk}{K:bC→Bool}{f:Nat}(h: ∀(a:bC),K a=true→cY R f (b46 a) (b47 a)=some (N a)):cD f (a46 N K):=fun _ _ _ e=>by
 unfold a46 at e;split at e
 ·exact vO e (h _)
 ·cases e
section
variable(a:bC)
def aBR:Bool:=(bif (eqI (bN a.Bytes) 512)then(leI (bN a.Log) 400)else false)
def aLM:List Row:=(bif (aBR a)then a.Log else a.Log)
def aLN:Bool:=(bif (aBR a)then(!(SZ a.Bytes))else false)
end
def a47(a:bC):Pt (Bool):=(ot (.ok ((((S5 a.Bytes)&&true)||(!(aBR a)))&&((((a45 (aLM a))&&true)||(!(aLN a)))&&true)) (ot (ot (.leaf (bif (aLN a)then(!(a44 (aLM a)))else false))))))
def bGW(a:bC):Bool:=hid (a47 a).val
def bGX(a:bC):Bool:=hid (a47 a).okv
def bGY(a:bC)(r:Bool):SV×List Blk:=((.one (.lit (.bool r))),[])
def q151:=a46 (fun a=>bGY a (bGW a)) bGX
theorem b48:cD 100151 q151:=aLL fun a hk=>tz aRV (a47 a) (bGY a) hk
def Q151:=aX 100151 q151 Q224
theorem aRW:QO Q151:=aB b48 aRV
def b49(a:aD):List SV:=[(.agg [.imm true 1 a.R.D, .imm true 1 a.R.A,li a.R.Other,li a.R.PC,li a.R.Flags,li a.R.Mask, .lit (.bool a.R.Super), .lit (.bool a.R.Trace), .imm true 1 a.Bus.Bytes, .imm true 5 a.Bus.Log, .lit (.bool a.Stop), .lit (.bool a.Halt)])]
def b5A(a:aD):List Blk:=[]
def aBS(N:aD→SV×List Blk)(K:aD→Bool):List SV→List Blk→Option ((SV×List Blk)×Bool)
 |[(.agg [.imm true 1 c0, .imm true 1 c1,li c2,li c3,li c4,li c5, .lit (.bool c6), .lit (.bool c7), .imm true 1 c8, .imm true 5 c9, .lit (.bool c10), .lit (.bool c11)])],[]=>some (N (aD.mk (aE.mk c0 c1 c2 c3 c4 c5 c6 c7) (bC.mk c8 c9) c10 c11),K (aD.mk (aE.mk c0 c1 c2 c3 c4 c5 c6 c7) (bC.mk c8 c9) c10 c11))
 |_,_=>none
theorem IP{N:aD→SV×List Blk}{K:aD→Bool}{f:Nat}(h: ∀(a:aD),K a=true→cY R f (b49 a) (b5A a)=some (N a)):cD f (aBS N K):=fun _ _ _ e=>by
 unfold aBS at e;split at e
 ·exact vO e (h _)
 ·cases e
def a48(a:aD):Pt (Bool):=(ot (.ok ((bOM a.R)&&((((bGX a.Bus)&&true)||(!(bGF a.R)))&&true)) (ot (ot (.leaf (bif (bif (bGF a.R)then(bGW a.Bus)else false)then(!(bif a.Stop then a.Halt else false))else false))))))
def aY4(a:aD):Bool:=hid (a48 a).val
def a49(a:aD):Bool:=hid (a48 a).okv
def bGZ(a:aD)(r:Bool):SV×List Blk:=((.one (.lit (.bool r))),[])
def q119:=aBS (fun a=>bGZ a (aY4 a)) a49
theorem b5B:cD 100119 q119:=IP fun a hk=>tz aRW (a48 a) (bGZ a) hk
def Q119:=aX 100119 q119 Q151
theorem aRX:QO Q119:=aB b5B aRW
def b5C(a:bA):List SV:=[(.agg [.imm true 1 a.Cpu.R.D, .imm true 1 a.Cpu.R.A,li a.Cpu.R.Other,li a.Cpu.R.PC,li a.Cpu.R.Flags,li a.Cpu.R.Mask, .lit (.bool a.Cpu.R.Super), .lit (.bool a.Cpu.R.Trace), .imm true 1 a.Cpu.Bus.Bytes, .imm true 5 a.Cpu.Bus.Log, .lit (.bool a.Cpu.Stop), .lit (.bool a.Cpu.Halt),li a.Line, .lit (.bool a.Edge)])]
def b5D(a:bA):List Blk:=[]
def a5A(N:bA→SV×List Blk)(K:bA→Bool):List SV→List Blk→Option ((SV×List Blk)×Bool)
 |[(.agg [.imm true 1 c0, .imm true 1 c1,li c2,li c3,li c4,li c5, .lit (.bool c6), .lit (.bool c7), .imm true 1 c8, .imm true 5 c9, .lit (.bool c10), .lit (.bool c11),li c12, .lit (.bool c13)])],[]=>some (N (bA.mk (aD.mk (aE.mk c0 c1 c2 c3 c4 c5 c6 c7) (bC.mk c8 c9) c10 c11) c12 c13),K (bA.mk (aD.mk (aE.mk c0 c1 c2 c3 c4 c5 c6 c7) (bC.mk c8 c9) c10 c11) c12 c13))
 |_,_=>none
theorem aLO{N:bA→SV×List Blk}{K:bA→Bool}{f:Nat}(h: ∀(a:bA),K a=true→cY R f (b5C a) (b5D a)=some (N a)):cD f (a5A N K):=fun _ _ _ e=>by
 unfold a5A at e;split at e
 ·exact vO e (h _)
 ·cases e
def a5B(a:bA):Pt (Bool):=(ot (.ok ((a49 a.Cpu)&&((((wF a.Line 0 7)&&true)||(!(aY4 a.Cpu)))&&true)) (ot (ot (.leaf (bif (aY4 a.Cpu)then(tW a.Line 0 7)else false))))))
def bG0(a:bA):Bool:=hid (a5B a).val
def bOT(a:bA):Bool:=hid (a5B a).okv
def bG1(a:bA)(r:Bool):SV×List Blk:=((.one (.lit (.bool r))),[])
def q108:=a5A (fun a=>bG1 a (bG0 a)) bOT
theorem b5E:cD 100108 q108:=aLO fun a hk=>tz aRX (a5B a) (bG1 a) hk
def Q108:=aX 100108 q108 Q119
theorem bG2:QO Q108:=aB b5E aRX
def bOU:List SV→List Blk→Option ((SV×List Blk)×Bool)
 |[.one (.imm p 1 rows)],[]=>some ((SV.one (T.sl 0 0 (ln rows)),[Blk.lst 1 rows]),decide (ln rows*8≤room))
 |_,_=>none
theorem b5F(args:List SV)(hp:List Blk)(r:SV×List Blk)(h:bOU args hp=some (r,true)):cY R 219 args hp=some r:=by
 rw[HR (by decide)]
 unfold bOU at h;split at h
 ·rename_i p rows;simp only[Option.some.injEq,Prod.mk.injEq,decide_eq_true_eq]at h;obtain⟨rfl,h⟩:=h;refine aQE (by decide) bWT ?_
  have h':ln rows≤room:=by omega
  simp[ZZ,GT,ZT,h,h']
 ·simp at h
noncomputable def Q219:Qt:=aX 219 bOU Q108
theorem aRY:X2 (cY R) Q219:=aB b5F bG2
def b5G(a:aE)(p0:Bool)(p1:Bool):List SV:=[(.agg [.imm p0 1 a.D, .imm p1 1 a.A,li a.Other,li a.PC,li a.Flags,li a.Mask, .lit (.bool a.Super), .lit (.bool a.Trace)])]
def b5H(a:aE)(p0:Bool)(p1:Bool):List Blk:=[]
def a5C(N:aE→SV×List Blk)(K:aE→Bool):List SV→List Blk→Option ((SV×List Blk)×Bool)
 |[(.agg [.imm p0 1 c0, .imm p1 1 c1,li c2,li c3,li c4,li c5, .lit (.bool c6), .lit (.bool c7)])],[]=>some (N (aE.mk c0 c1 c2 c3 c4 c5 c6 c7),K (aE.mk c0 c1 c2 c3 c4 c5 c6 c7))
 |_,_=>none
theorem aLP{N:aE→SV×List Blk}{K:aE→Bool}{f:Nat}(h: ∀(a:aE)(p0:Bool)(p1:Bool),K a=true→cY R f (b5G a p0 p1) (b5H a p0 p1)=some (N a)):cD f (a5C N K):=fun _ _ _ e=>by
 unfold a5C at e;split at e
 ·exact vO e (h _ _ _)
 ·cases e
section
variable(a:aE)
def aLQ:Bool:=(((lJ (mA (ln a.D) 8) 140737488355328)&&((lJ (mA (ln a.A) 8) 140737488355328)&&true))&&true)
end
def a5D(a:aE):Pt (aE):=(ot (.ok ((aLQ a)&&((aLQ a)&&((iB a true)&&(((s1 (0:Int))&&((s1 (0:Int))&&((s1 (0:Int))&&((s1 (0:Int))&&((s1 false)&&((s1 false)&&true))))))&&(hY a true))))) (ot (.ok ((aK a true)&&((aK a true)&&true)) (.leaf a)))))
def WP(a:aE):aE:=hid (a5D a).val
def bG3(a:aE):Bool:=hid (a5D a).okv
def bG4(a:aE)(r:aE):SV×List Blk:=((.agg [.sl 0 0 (ln r.D), .sl 1 0 (ln r.A),li r.Other,li r.PC,li r.Flags,li r.Mask, .lit (.bool r.Super), .lit (.bool r.Trace)]),[.lst 1 r.D, .lst 1 r.A])
def q173:=a5C (fun a=>bG4 a (WP a)) bG3
theorem b5I:cD 173 q173:=aLP fun a p0 p1 hk=>tc aRY (a5D a) (bG4 a) hk
def Q173:=aX 173 q173 Q219
theorem bG5:QO Q173:=aB b5I aRY
def bOV:List SV→List Blk→Option ((SV×List Blk)×Bool)
 |[.one (.imm p 5 rows)],[]=>some ((SV.one (T.sl 0 0 (ln rows)),[Blk.lst 5 rows]),decide (ln rows*40≤room))
 |_,_=>none
theorem b5J(args:List SV)(hp:List Blk)(r:SV×List Blk)(h:bOV args hp=some (r,true)):cY R 237 args hp=some r:=by
 rw[HR (by decide)]
 unfold bOV at h;split at h
 ·rename_i p rows;simp only[Option.some.injEq,Prod.mk.injEq,decide_eq_true_eq]at h;obtain⟨rfl,h⟩:=h;refine aQE (by decide) bWU ?_
  have h':ln rows≤room:=by omega
  simp[ZZ,GT,ZT,h,h']
 ·simp at h
noncomputable def Q237:Qt:=aX 237 bOV Q173
theorem aRZ:X2 (cY R) Q237:=aB b5J bG5
section
variable(a:bC)
def aLR:Bool:=(((lJ (mA (ln a.Bytes) 8) 140737488355328)&&((lJ (mA (ln a.Log) 40) 140737488355328)&&true))&&true)
end
def a5E(a:bC):Pt (bC):=(ot (.ok ((aLR a)&&((aLR a)&&((((s1 true)&&(r1 a.Bytes))&&(((s1 true)&&(r1 a.Log))&&true))&&((dQ a true)&&(dJ a true))))) (.ok ((bI a true)&&((bI a true)&&true)) (.leaf a))))
def aY5(a:bC):bC:=hid (a5E a).val
def bOW(a:bC):Bool:=hid (a5E a).okv
def bG6(a:bC)(r:bC):SV×List Blk:=((.agg [.sl 0 0 (ln r.Bytes), .sl 1 0 (ln r.Log)]),[.lst 1 r.Bytes, .lst 5 r.Log])
def q174:=a46 (fun a=>bG6 a (aY5 a)) bOW
theorem b5K:cD 174 q174:=aLL fun a hk=>tc aRZ (a5E a) (bG6 a) hk
def Q174:=aX 174 q174 Q237
theorem aR0:QO Q174:=aB b5K aRZ
section
variable(a:aD)
def iJ:Bool:=(((bG3 a.R)&&((bOW a.Bus)&&true))&&true)
def i7:Bool:=((((s1 true)&&(r1 a.R.D))&&(((s1 true)&&(r1 a.R.A))&&((s1 a.R.Other)&&((s1 a.R.PC)&&((s1 a.R.Flags)&&((s1 a.R.Mask)&&((s1 a.R.Super)&&((s1 a.R.Trace)&&(((s1 true)&&(r1 a.Bus.Bytes))&&(((s1 true)&&(r1 a.Bus.Log))&&((s1 a.Stop)&&((s1 a.Halt)&&true))))))))))))&&((iB (WP a.R) (dQ (aY5 a.Bus) ((s1 a.Stop)&&((s1 a.Halt)&&true))))&&(hY (WP a.R) (dJ (aY5 a.Bus) true))))
def bL9:Bool:=(((iJ a)&&(((iJ a)&&(((iJ a)&&(((iJ a)&&(((iJ a)&&(((iJ a)&&(((iJ a)&&(((iJ a)&&(((iJ a)&&(((iJ a)&&(((iJ a)&&(((iJ a)&&((iJ a)&&(i7 a)))&&(i7 a)))&&(i7 a)))&&(i7 a)))&&(i7 a)))&&(i7 a)))&&(i7 a)))&&(i7 a)))&&(i7 a)))&&(i7 a)))&&(i7 a)))&&(i7 a)))&&(i7 a))
def bMA:Bool:=((iJ a)&&(((iJ a)&&(((iJ a)&&(((iJ a)&&(((iJ a)&&(((iJ a)&&(((iJ a)&&(((iJ a)&&(((iJ a)&&(((iJ a)&&(((iJ a)&&(((iJ a)&&(((iJ a)&&(bL9 a))&&(i7 a)))&&(i7 a)))&&(i7 a)))&&(i7 a)))&&(i7 a)))&&(i7 a)))&&(i7 a)))&&(i7 a)))&&(i7 a)))&&(i7 a)))&&(i7 a)))&&(i7 a)))
def a5F:Bool:=(aK (WP a.R) (bI (aY5 a.Bus) true))
end
def T88(a:aD):Pt (aD):=(ot (.ok ((iJ a)&&(((iJ a)&&(((iJ a)&&(((iJ a)&&((bMA a)&&(i7 a)))&&(i7 a)))&&(i7 a)))&&(i7 a))) (.ok ((a5F a)&&((a5F a)&&true)) (.leaf {a with R:=(WP a.R),Bus:=(aY5 a.Bus)}))))
def g88(a:aD):aD:=hid (T88 a).val
def k88(a:aD):Bool:=hid (T88 a).okv
def n88(a:aD)(r:aD):SV×List Blk:=((.agg [.sl 0 0 (ln r.R.D), .sl 1 0 (ln r.R.A),li r.R.Other,li r.R.PC,li r.R.Flags,li r.R.Mask, .lit (.bool r.R.Super), .lit (.bool r.R.Trace), .sl 2 0 (ln r.Bus.Bytes), .sl 3 0 (ln r.Bus.Log), .lit (.bool r.Stop), .lit (.bool r.Halt)]),[.lst 1 r.R.D, .lst 1 r.R.A, .lst 1 r.Bus.Bytes, .lst 5 r.Bus.Log])
def q88:=aBS (fun a=>n88 a (g88 a)) k88
theorem t88:cD 88 q88:=IP fun a hk=>tc aR0 (T88 a) (n88 a) hk
def Q88:=aX 88 q88 Q174
theorem a5G:QO Q88:=aB t88 aR0
section
variable(a:bA)
def S8:Bool:=((((s1 true)&&(r1 a.Cpu.R.D))&&(((s1 true)&&(r1 a.Cpu.R.A))&&((s1 a.Cpu.R.Other)&&((s1 a.Cpu.R.PC)&&((s1 a.Cpu.R.Flags)&&((s1 a.Cpu.R.Mask)&&((s1 a.Cpu.R.Super)&&((s1 a.Cpu.R.Trace)&&(((s1 true)&&(r1 a.Cpu.Bus.Bytes))&&(((s1 true)&&(r1 a.Cpu.Bus.Log))&&((s1 a.Cpu.Stop)&&((s1 a.Cpu.Halt)&&((s1 a.Line)&&((s1 a.Edge)&&true))))))))))))))&&((i9 (g88 a.Cpu) ((s1 a.Line)&&((s1 a.Edge)&&true)))&&(lK (g88 a.Cpu) true)))
end
def a5H(a:bA):Pt (bA):=(ot (.ok ((((k88 a.Cpu)&&true)&&true)&&(((((k88 a.Cpu)&&true)&&true)&&(((((k88 a.Cpu)&&true)&&true)&&(((((k88 a.Cpu)&&true)&&true)&&((((k88 a.Cpu)&&true)&&true)&&(S8 a)))&&(S8 a)))&&(S8 a)))&&(S8 a))) (.ok ((aI (g88 a.Cpu) true)&&((aI (g88 a.Cpu) true)&&true)) (.leaf {a with Cpu:=(g88 a.Cpu)}))))
def aBT(a:bA):bA:=hid (a5H a).val
def bOX(a:bA):Bool:=hid (a5H a).okv
def bG8(a:bA)(r:bA):SV×List Blk:=((.agg [.sl 0 0 (ln r.Cpu.R.D), .sl 1 0 (ln r.Cpu.R.A),li r.Cpu.R.Other,li r.Cpu.R.PC,li r.Cpu.R.Flags,li r.Cpu.R.Mask, .lit (.bool r.Cpu.R.Super), .lit (.bool r.Cpu.R.Trace), .sl 2 0 (ln r.Cpu.Bus.Bytes), .sl 3 0 (ln r.Cpu.Bus.Log), .lit (.bool r.Cpu.Stop), .lit (.bool r.Cpu.Halt),li r.Line, .lit (.bool r.Edge)]),[.lst 1 r.Cpu.R.D, .lst 1 r.Cpu.R.A, .lst 1 r.Cpu.Bus.Bytes, .lst 5 r.Cpu.Bus.Log])
def q110:=a5A (fun a=>bG8 a (aBT a)) bOX
theorem b5L:cD 110 q110:=aLO fun a hk=>tc a5G (a5H a) (bG8 a) hk
def Q110:=aX 110 q110 Q88
theorem aR2:QO Q110:=aB b5L a5G
def b5M(a:bA):List SV:=[(.one (.ptr 0 0 0))]
def b5N(a:bA):List Blk:=[.box [.sl 1 0 (ln a.Cpu.R.D), .sl 2 0 (ln a.Cpu.R.A),li a.Cpu.R.Other,li a.Cpu.R.PC,li a.Cpu.R.Flags,li a.Cpu.R.Mask, .lit (.bool a.Cpu.R.Super), .lit (.bool a.Cpu.R.Trace), .sl 3 0 (ln a.Cpu.Bus.Bytes), .sl 4 0 (ln a.Cpu.Bus.Log), .lit (.bool a.Cpu.Stop), .lit (.bool a.Cpu.Halt),li a.Line, .lit (.bool a.Edge)], .lst 1 a.Cpu.R.D, .lst 1 a.Cpu.R.A, .lst 1 a.Cpu.Bus.Bytes, .lst 5 a.Cpu.Bus.Log]
def bG9(N:bA→SV×List Blk)(K:bA→Bool):List SV→List Blk→Option ((SV×List Blk)×Bool)
 |[(.one (.ptr 0 0 0))],[.box [.sl 1 0 l1, .sl 2 0 l2,li c0,li c1,li c2,li c3, .lit (.bool c4), .lit (.bool c5), .sl 3 0 l3, .sl 4 0 l4, .lit (.bool c6), .lit (.bool c7),li c8, .lit (.bool c9)], .lst 1 c_1, .lst 1 c_2, .lst 1 c_3, .lst 5 c_4]=>some (N (bA.mk (aD.mk (aE.mk c_1 c_2 c0 c1 c2 c3 c4 c5) (bC.mk c_3 c_4) c6 c7) c8 c9),cV l1 (ln c_1)&&(cV l2 (ln c_2)&&(cV l3 (ln c_3)&&(cV l4 (ln c_4)&&(K (bA.mk (aD.mk (aE.mk c_1 c_2 c0 c1 c2 c3 c4 c5) (bC.mk c_3 c_4) c6 c7) c8 c9))))))
 |_,_=>none
theorem a5I{N:bA→SV×List Blk}{K:bA→Bool}{f:Nat}(h: ∀(a:bA),K a=true→cY R f (b5M a) (b5N a)=some (N a)):cD f (bG9 N K):=fun args hp r e=>by
 unfold bG9 at e;split at e
 ·rename_i l1 l2 c0 c1 c2 c3 c4 c5 l3 l4 c6 c7 c8 c9 c_1 c_2 c_3 c_4;obtain⟨hr,hk⟩:=qp (qi e);obtain⟨d0,hk0⟩:=aS hk;obtain⟨d1,hk1⟩:=aS hk0;obtain⟨d2,hk2⟩:=aS hk1;obtain⟨d3,hk3⟩:=aS hk2;obtain rfl:=of_decide_eq_true d0;obtain rfl:=of_decide_eq_true d1;obtain rfl:=of_decide_eq_true d2;obtain rfl:=of_decide_eq_true d3;rw[←hr];exact h (bA.mk (aD.mk (aE.mk c_1 c_2 c0 c1 c2 c3 c4 c5) (bC.mk c_3 c_4) c6 c7) c8 c9) hk3
 ·simp at e
section
variable(a:bA)
def aBU:Bool:=(((bV a true)&&(bV a true))&&true)
end
def a5J(a:bA):Pt (Int):=(ot (ot (.br a.Edge (ot (.ok (aBU a) (.leaf 7))) (ot (.br (kV a.Line a.Cpu.R.Mask) (ot (.ok (aBU a) (.leaf a.Line))) (ot (.ok (aBU a) (.leaf 0))))))))
def WQ(a:bA):Int:=hid (a5J a).val
def bOY(a:bA):Bool:=hid (a5J a).okv
def bX2(a:bA)(r:Int):SV×List Blk:=((.one (li r)),[.box [.sl 1 0 (ln a.Cpu.R.D), .sl 2 0 (ln a.Cpu.R.A),li a.Cpu.R.Other,li a.Cpu.R.PC,li a.Cpu.R.Flags,li a.Cpu.R.Mask, .lit (.bool a.Cpu.R.Super), .lit (.bool a.Cpu.R.Trace), .sl 3 0 (ln a.Cpu.Bus.Bytes), .sl 4 0 (ln a.Cpu.Bus.Log), .lit (.bool a.Cpu.Stop), .lit (.bool a.Cpu.Halt),li a.Line, .lit (.bool a.Edge)], .lst 1 a.Cpu.R.D, .lst 1 a.Cpu.R.A, .lst 1 a.Cpu.Bus.Bytes, .lst 5 a.Cpu.Bus.Log])
def q197:=bG9 (fun a=>bX2 a (WQ a)) bOY
theorem b5O:cD 197 q197:=a5I fun a hk=>tc aR2 (a5J a) (bX2 a) hk
def Q197:=aX 197 q197 Q110
theorem aR3:QO Q197:=aB b5O aR2
def aBV(a:Bool)(b:Int):Pt (Int):=(ot (ot (.br a (ot (ot (ot (.leaf b)))) (ot (ot (ot (.leaf 0)))))))
def yM(a:Bool)(b:Int):Int:=hid (aBV a b).val
def yN(a:Bool)(b:Int):Bool:=hid (aBV a b).okv
def q317:=DS4 (fun a b=>bEO a b (yM a b)) yN
theorem b5P:cD 100317 q317:=bL7 fun a b hk=>tz aR3 (aBV a b) (bEO a b) hk
def Q317:=aX 100317 q317 Q197
theorem aR4:QO Q317:=aB b5P aR3
def b5Q(a:aE):List SV:=[(.one (.ptr 0 0 0))]
def b5R(a:aE):List Blk:=[.box [.imm false 1 a.D, .imm false 1 a.A,li a.Other,li a.PC,li a.Flags,li a.Mask, .lit (.bool a.Super), .lit (.bool a.Trace)]]
def bOZ(N:aE→SV×List Blk)(K:aE→Bool):List SV→List Blk→Option ((SV×List Blk)×Bool)
 |[(.one (.ptr 0 0 0))],[.box [.imm false 1 c0, .imm false 1 c1,li c2,li c3,li c4,li c5, .lit (.bool c6), .lit (.bool c7)]]=>some (N (aE.mk c0 c1 c2 c3 c4 c5 c6 c7),K (aE.mk c0 c1 c2 c3 c4 c5 c6 c7))
 |_,_=>none
theorem bO0{N:aE→SV×List Blk}{K:aE→Bool}{f:Nat}(h: ∀(a:aE),K a=true→cY R f (b5Q a) (b5R a)=some (N a)):cD f (bOZ N K):=fun _ _ _ e=>by
 unfold bOZ at e;split at e
 ·exact vO e (h _)
 ·cases e
def a5K(a:aE):Pt (Int):=(ot (.ok ((yN a.Super 256)&&((yN a.Trace 512)&&true)) (ot (.leaf (aV (aV (aV a.Flags (cX 32 a.Mask)) (yM a.Super 256)) (yM a.Trace 512))))))
def a5L(a:aE):Int:=hid (a5K a).val
def bHA(a:aE):Bool:=hid (a5K a).okv
def bX3(a:aE)(r:Int):SV×List Blk:=((.one (li r)),[.box [.imm false 1 a.D, .imm false 1 a.A,li a.Other,li a.PC,li a.Flags,li a.Mask, .lit (.bool a.Super), .lit (.bool a.Trace)]])
def q265:=bOZ (fun a=>bX3 a (a5L a)) bHA
theorem b5S:cD 265 q265:=bO0 fun a hk=>tc aR4 (a5K a) (bX3 a) hk
def Q265:=aX 265 q265 Q317
theorem aR5:QO Q265:=aB b5S aR4
def b5T(a:aH):List SV:=[(.agg [li a.Vector,li a.PC,li a.Addr,li a.Word, .lit (.bool a.Write)])]
def b5U(a:aH):List Blk:=[]
def bO1(N:aH→SV×List Blk)(K:aH→Bool):List SV→List Blk→Option ((SV×List Blk)×Bool)
 |[(.agg [li c0,li c1,li c2,li c3, .lit (.bool c4)])],[]=>some (N (aH.mk c0 c1 c2 c3 c4),K (aH.mk c0 c1 c2 c3 c4))
 |_,_=>none
theorem bO2{N:aH→SV×List Blk}{K:aH→Bool}{f:Nat}(h: ∀(a:aH),K a=true→cY R f (b5T a) (b5U a)=some (N a)):cD f (bO1 N K):=fun _ _ _ e=>by
 unfold bO1 at e;split at e
 ·exact vO e (h _)
 ·cases e
def a5M(a:aH):Pt (Bool):=(ot (ot (ot (ot (.leaf (bif (eqI a.Vector 2)then true else(eqI a.Vector 3)))))))
def bO3(a:aH):Bool:=hid (a5M a).val
def bO4(a:aH):Bool:=hid (a5M a).okv
def bX4(a:aH)(r:Bool):SV×List Blk:=((.one (.lit (.bool r))),[])
def q315:=bO1 (fun a=>bX4 a (bO3 a)) bO4
theorem b5V:cD 100315 q315:=bO2 fun a hk=>tz aR5 (a5M a) (bX4 a) hk
def Q315:=aX 100315 q315 Q265
theorem aR6:QO Q315:=aB b5V aR5
def b5W(a:aD)(b:aH)(p0:Bool)(p1:Bool)(p2:Bool)(p3:Bool):List SV:=[(.agg [.imm p0 1 a.R.D, .imm p1 1 a.R.A,li a.R.Other,li a.R.PC,li a.R.Flags,li a.R.Mask, .lit (.bool a.R.Super), .lit (.bool a.R.Trace), .imm p2 1 a.Bus.Bytes, .imm p3 5 a.Bus.Log, .lit (.bool a.Stop), .lit (.bool a.Halt)]),(.agg [li b.Vector,li b.PC,li b.Addr,li b.Word, .lit (.bool b.Write)])]
def b5X(a:aD)(b:aH)(p0:Bool)(p1:Bool)(p2:Bool)(p3:Bool):List Blk:=[]
def bO5(N:aD→aH→SV×List Blk)(K:aD→aH→Bool):List SV→List Blk→Option ((SV×List Blk)×Bool)
 |[(.agg [.imm p0 1 c0, .imm p1 1 c1,li c2,li c3,li c4,li c5, .lit (.bool c6), .lit (.bool c7), .imm p2 1 c8, .imm p3 5 c9, .lit (.bool c10), .lit (.bool c11)]),(.agg [li c12,li c13,li c14,li c15, .lit (.bool c16)])],[]=>some (N (aD.mk (aE.mk c0 c1 c2 c3 c4 c5 c6 c7) (bC.mk c8 c9) c10 c11) (aH.mk c12 c13 c14 c15 c16),K (aD.mk (aE.mk c0 c1 c2 c3 c4 c5 c6 c7) (bC.mk c8 c9) c10 c11) (aH.mk c12 c13 c14 c15 c16))
 |_,_=>none
theorem bO6{N:aD→aH→SV×List Blk}{K:aD→aH→Bool}{f:Nat}(h: ∀(a:aD)(b:aH)(p0:Bool)(p1:Bool)(p2:Bool)(p3:Bool),K a b=true→cY R f (b5W a b p0 p1 p2 p3) (b5X a b p0 p1 p2 p3)=some (N a b)):cD f (bO5 N K):=fun _ _ _ e=>by
 unfold bO5 at e;split at e
 ·exact vO e (h _ _ _ _ _ _)
 ·cases e
def a5N(a:aD)(b:aH):Pt (Int):=(ot (.ok ((yN b.Write 1)&&((yN a.R.Super 2)&&true)) (ot (ot (.leaf (eT (yM b.Write 1) (yM a.R.Super 2)))))))
def bO7(a:aD)(b:aH):Int:=hid (a5N a b).val
def bO8(a:aD)(b:aH):Bool:=hid (a5N a b).okv
def bX5(a:aD)(b:aH)(r:Int):SV×List Blk:=((.one (li r)),[])
def q316:=bO5 (fun a b=>bX5 a b (bO7 a b)) bO8
theorem b5Y:cD 100316 q316:=bO6 fun a b p0 p1 p2 p3 hk=>tz aR6 (a5N a b) (bX5 a b) hk
def Q316:=aX 100316 q316 Q315
theorem aR7:QO Q316:=aB b5Y aR6
def b5Z(a:aD)(b:aH):List SV:=[(.agg [.imm false 1 a.R.D, .imm false 1 a.R.A,li a.R.Other,li a.R.PC,li a.R.Flags,li a.R.Mask, .lit (.bool a.R.Super), .lit (.bool a.R.Trace), .imm false 1 a.Bus.Bytes, .imm false 5 a.Bus.Log, .lit (.bool a.Stop), .lit (.bool a.Halt)]),(.agg [li b.Vector,li b.PC,li b.Addr,li b.Word, .lit (.bool b.Write)])]
def b50(a:aD)(b:aH):List Blk:=[]
def bO9(N:aD→aH→SV×List Blk)(K:aD→aH→Bool):List SV→List Blk→Option ((SV×List Blk)×Bool)
 |[(.agg [.imm false 1 c0, .imm false 1 c1,li c2,li c3,li c4,li c5, .lit (.bool c6), .lit (.bool c7), .imm false 1 c8, .imm false 5 c9, .lit (.bool c10), .lit (.bool c11)]),(.agg [li c12,li c13,li c14,li c15, .lit (.bool c16)])],[]=>some (N (aD.mk (aE.mk c0 c1 c2 c3 c4 c5 c6 c7) (bC.mk c8 c9) c10 c11) (aH.mk c12 c13 c14 c15 c16),K (aD.mk (aE.mk c0 c1 c2 c3 c4 c5 c6 c7) (bC.mk c8 c9) c10 c11) (aH.mk c12 c13 c14 c15 c16))
 |_,_=>none
theorem bPA{N:aD→aH→SV×List Blk}{K:aD→aH→Bool}{f:Nat}(h: ∀(a:aD)(b:aH),K a b=true→cY R f (b5Z a b) (b50 a b)=some (N a b)):cD f (bO9 N K):=fun _ _ _ e=>by
 unfold bO9 at e;split at e
 ·exact vO e (h _ _)
 ·cases e
section
variable(a:aD)(b:aH)
def a5O:Bool:=(((s1 (2:Nat))&&true)&&((((s1 false)&&(r1 a.R.D))&&(((s1 false)&&(r1 a.R.A))&&((s1 a.R.Other)&&((s1 a.R.PC)&&((s1 a.R.Flags)&&((s1 a.R.Mask)&&((s1 a.R.Super)&&((s1 a.R.Trace)&&(((s1 false)&&(r1 a.Bus.Bytes))&&(((s1 false)&&(r1 a.Bus.Log))&&((s1 a.Stop)&&((s1 a.Halt)&&true))))))))))))&&((kS b true)&&((r1 [(aL b.PC),(aL (a5L a.R))])&&true))))
end
def a5P(a:aD)(b:aH):Pt (List Row):=(ot (.ok ((((bHA a.R)&&true)&&true)&&((((bHA a.R)&&true)&&true)&&(a5O a b))) (.ok ((bO4 b)&&true) (.br (bO3 b) (.ok (((bO8 a b)&&true)&&true) (ot (ot (.leaf [(aL b.PC),(aL (a5L a.R)),(aL b.Word),(aL b.Addr),(aL (bO7 a b))])))) (ot (ot (.leaf [(aL b.PC),(aL (a5L a.R))])))))))
def aBW(a:aD)(b:aH):List Row:=hid (a5P a b).val
def bPB(a:aD)(b:aH):Bool:=hid (a5P a b).okv
def bX6(a:aD)(b:aH)(r:List Row):SV×List Blk:=((.one (.sl 0 0 (ln r))),[.lst 1 r])
def q263:=bO9 (fun a b=>bX6 a b (aBW a b)) bPB
theorem b51:cD 263 q263:=bPA fun a b hk=>tc aR7 (a5P a b) (bX6 a b) hk
def Q263:=aX 263 q263 Q316
theorem aR8:QO Q263:=aB b51 aR7
def b52(a:aE):List SV:=[(.one (.ptr 0 0 0))]
def b53(a:aE):List Blk:=[.box [.sl 1 0 (ln a.D), .sl 2 0 (ln a.A),li a.Other,li a.PC,li a.Flags,li a.Mask, .lit (.bool a.Super), .lit (.bool a.Trace)], .lst 1 a.D, .lst 1 a.A]
def bHB(N:aE→SV×List Blk)(K:aE→Bool):List SV→List Blk→Option ((SV×List Blk)×Bool)
 |[(.one (.ptr 0 0 0))],[.box [.sl 1 0 l1, .sl 2 0 l2,li c0,li c1,li c2,li c3, .lit (.bool c4), .lit (.bool c5)], .lst 1 c_1, .lst 1 c_2]=>some (N (aE.mk c_1 c_2 c0 c1 c2 c3 c4 c5),cV l1 (ln c_1)&&(cV l2 (ln c_2)&&(K (aE.mk c_1 c_2 c0 c1 c2 c3 c4 c5))))
 |_,_=>none
theorem a5Q{N:aE→SV×List Blk}{K:aE→Bool}{f:Nat}(h: ∀(a:aE),K a=true→cY R f (b52 a) (b53 a)=some (N a)):cD f (bHB N K):=fun args hp r e=>by
 unfold bHB at e;split at e
 ·rename_i l1 l2 c0 c1 c2 c3 c4 c5 c_1 c_2;obtain⟨hr,hk⟩:=qp (qi e);obtain⟨d0,hk0⟩:=aS hk;obtain⟨d1,hk1⟩:=aS hk0;obtain rfl:=of_decide_eq_true d0;obtain rfl:=of_decide_eq_true d1;rw[←hr];exact h (aE.mk c_1 c_2 c0 c1 c2 c3 c4 c5) hk1
 ·simp at e
def S9(a:aE):Pt (Int):=(ot (.ok ((yN a.Super 256)&&((yN a.Trace 512)&&true)) (.ok (((aK a true)&&(aK a true))&&true) (.leaf (aV (aV (aV a.Flags (cX 32 a.Mask)) (yM a.Super 256)) (yM a.Trace 512))))))
def aBX(a:aE):Int:=hid (S9 a).val
def aLS(a:aE):Bool:=hid (S9 a).okv
def aBY(a:aE)(r:Int):SV×List Blk:=((.one (li r)),[.box [.sl 1 0 (ln a.D), .sl 2 0 (ln a.A),li a.Other,li a.PC,li a.Flags,li a.Mask, .lit (.bool a.Super), .lit (.bool a.Trace)], .lst 1 a.D, .lst 1 a.A])
def q265v1:=bHB (fun a=>aBY a (aBX a)) aLS
theorem bPC:cD 265 q265v1:=a5Q fun a hk=>tc aR8 (S9 a) (aBY a) hk
def Q265v1:=aX 265 q265v1 Q263
theorem YJ:QO Q265v1:=aB bPC aR8
def b54(b:Int)(a:aE):List SV:=[(.one (.ptr 0 0 0)),(.one (li b))]
def b55(b:Int)(a:aE):List Blk:=[.box [.sl 1 0 (ln a.D), .sl 2 0 (ln a.A),li a.Other,li a.PC,li a.Flags,li a.Mask, .lit (.bool a.Super), .lit (.bool a.Trace)], .lst 1 a.D, .lst 1 a.A]
def bPD(N:Int→aE→SV×List Blk)(K:Int→aE→Bool):List SV→List Blk→Option ((SV×List Blk)×Bool)
 |[(.one (.ptr 0 0 0)),(.one (li c0))],[.box [.sl 1 0 l1, .sl 2 0 l2,li c1,li c2,li c3,li c4, .lit (.bool c5), .lit (.bool c6)], .lst 1 c_1, .lst 1 c_2]=>some (N c0 (aE.mk c_1 c_2 c1 c2 c3 c4 c5 c6),cV l1 (ln c_1)&&(cV l2 (ln c_2)&&(K c0 (aE.mk c_1 c_2 c1 c2 c3 c4 c5 c6))))
 |_,_=>none
theorem bPE{N:Int→aE→SV×List Blk}{K:Int→aE→Bool}{f:Nat}(h: ∀(b:Int)(a:aE),K b a=true→cY R f (b54 b a) (b55 b a)=some (N b a)):cD f (bPD N K):=fun args hp r e=>by
 unfold bPD at e;split at e
 ·rename_i c0 l1 l2 c1 c2 c3 c4 c5 c6 c_1 c_2;obtain⟨hr,hk⟩:=qp (qi e);obtain⟨d0,hk0⟩:=aS hk;obtain⟨d1,hk1⟩:=aS hk0;obtain rfl:=of_decide_eq_true d0;obtain rfl:=of_decide_eq_true d1;rw[←hr];exact h c0 (aE.mk c_1 c_2 c1 c2 c3 c4 c5 c6) hk1
 ·simp at e
section
variable(a:aE)
def aLT:Bool:=((e1 (ln a.D))&&((cV (ln a.A) (ln (List.set a.A 3 (aL a.Other))))&&true))
end
def a5R(b:Int)(a:aE):Pt (aE):=(ot (ot (ot (.br (!(yF (cU (aZ b 256) 0) a.Super)) (ot (.ok (((ltI 3 (bN a.A))&&((dO [.int .i64] a.A 3 0)&&((ltI 3 (bN a.A))&&(((blt 3 (ln a.A))&&(jW (jX a.A 3) 1))&&true))))&&true) (.ok ((((aK a true)&&(aLT a))&&true)&&((aLT a)&&true)) (.leaf (aE.mk a.D (List.set a.A 3 (aL a.Other)) (bF a.A 3 0) a.PC (aZ b 31) (aZ (eW b 5) 7) (cU (aZ b 256) 0) (cU (aZ b 512) 0)))))) (.ok (dd (aK a true) ((aK a true)&&true)) (.leaf {a with Flags:=(aZ b 31),Mask:=(aZ (eW b 5) 7),Trace:=(cU (aZ b 512) 0)}))))))
def aY6(b:Int)(a:aE):aE:=hid (a5R b a).val
def aY7(b:Int)(a:aE):Bool:=hid (a5R b a).okv
def bX7(b:Int)(a:aE)(r:aE):SV×List Blk:=((.tup []),[.box [.sl 1 0 (ln r.D), .sl 2 0 (ln r.A),li r.Other,li r.PC,li r.Flags,li r.Mask, .lit (.bool r.Super), .lit (.bool r.Trace)], .lst 1 r.D, .lst 1 r.A])
def q264:=bPD (fun b a=>bX7 b a (aY6 b a)) aY7
theorem b56:cD 264 q264:=bPE fun b a hk=>tcx YJ [(1000001,[])] [] true (a5R b a) (bX7 b a) hk
def Q264:=aX 264 q264 Q265v1
theorem aR9:QO Q264:=aB b56 YJ
def a5S(a:Int):Pt (Int):=(ot (.ok ((wF a 448 495)&&true) (.br (bif (tW a 448 495)then true else(geI a 512)) (ot (ot (ot (.leaf 1)))) (.ok ((wF a 384 447)&&true) (.br (tW a 384 447) (ot (ot (ot (.leaf 3)))) (ot (ot (ot (.leaf 0)))))))))
def a5T(a:Int):Int:=hid (a5S a).val
def bHC(a:Int):Bool:=hid (a5S a).okv
def q349:=B8 (fun a=>xJ a (a5T a)) bHC
theorem b57:cD 100349 q349:=gQ fun a hk=>tz aR9 (a5S a) (xJ a) hk
def Q349:=aX 100349 q349 Q264
theorem aSA:QO Q349:=aB b57 aR9
section
variable(b:Int)(c:Int)
def aLU:Int:=(a5T (cF (aV c b) 1))
end
def a5U(a:Int)(b:Int)(c:Int):Pt (Int):=(ot (ot (.br (bif (eqI b 2)then(eqI (kD c 2) 1)else false) (ot (ot (ot (.leaf 2)))) (.ok ((bHC c)&&((bHC (cF (aV c b) 1))&&true)) (ot (.br (bif (eqI (a5T c) 1)then true else(eqI (aLU b c) 1)) (ot (ot (ot (.leaf 1)))) (ot (.br (bif (eqI a 2)then(bif (eqI (a5T c) 3)then true else(eqI (aLU b c) 3))else false) (ot (ot (ot (.leaf 3)))) (ot (ot (ot (.leaf 0))))))))))))
def M1(a:Int)(b:Int)(c:Int):Int:=hid (a5U a b c).val
def bPF(a:Int)(b:Int)(c:Int):Bool:=hid (a5U a b c).okv
def aGV(a:Int)(b:Int)(c:Int)(r:Int):SV×List Blk:=((.one (li r)),[])
def q318:=DS5 (fun a b c=>aGV a b c (M1 a b c)) bPF
theorem b58:cD 100318 q318:=C9 fun a b c hk=>tz aSA (a5U a b c) (aGV a b c) hk
def Q318:=aX 100318 q318 Q349
theorem aSB:QO Q318:=aB b58 aSA
def b59(b:Int)(c:Int)(d:Int)(a:bC):List SV:=[(.one (.ptr 0 0 0)),(.one (li b)),(.one (li c)),(.one (li d))]
def b6A(b:Int)(c:Int)(d:Int)(a:bC):List Blk:=[.box [.sl 1 0 (ln a.Bytes), .sl 2 0 (ln a.Log)], .lst 1 a.Bytes, .lst 5 a.Log]
def bPG(N:Int→Int→Int→bC→SV×List Blk)(K:Int→Int→Int→bC→Bool):List SV→List Blk→Option ((SV×List Blk)×Bool)
 |[(.one (.ptr 0 0 0)),(.one (li c0)),(.one (li c1)),(.one (li c2))],[.box [.sl 1 0 l1, .sl 2 0 l2], .lst 1 c_1, .lst 5 c_2]=>some (N c0 c1 c2 (bC.mk c_1 c_2),cV l1 (ln c_1)&&(cV l2 (ln c_2)&&(K c0 c1 c2 (bC.mk c_1 c_2))))
 |_,_=>none
theorem bPH{N:Int→Int→Int→bC→SV×List Blk}{K:Int→Int→Int→bC→Bool}{f:Nat}(h: ∀(b:Int)(c:Int)(d:Int)(a:bC),K b c d a=true→cY R f (b59 b c d a) (b6A b c d a)=some (N b c d a)):cD f (bPG N K):=fun args hp r e=>by
 unfold bPG at e;split at e
 ·rename_i c0 c1 c2 l1 l2 c_1 c_2;obtain⟨hr,hk⟩:=qp (qi e);obtain⟨d0,hk0⟩:=aS hk;obtain⟨d1,hk1⟩:=aS hk0;obtain rfl:=of_decide_eq_true d0;obtain rfl:=of_decide_eq_true d1;rw[←hr];exact h c0 c1 c2 (bC.mk c_1 c_2) hk1
 ·simp at e
section
variable(c:Int)(d:Int)(a:bC)
def aBZ:Bool:=(((leI 0 c)&&(ltI c (bN a.Bytes)))&&(((blt (0+(iN c)) (ln a.Bytes))&&(jW (jX a.Bytes (0+(iN c))) 1))&&true))
def TA:List Row:=(List.set a.Bytes (0+(iN c)) (aL (eW d 8)))
def aB0:List Row:=(List.set (TA c d a) (0+(iN (aV c 1))) (aL (aZ d 255)))
def aB1:Bool:=((cV (ln a.Bytes) (ln (aB0 c d a)))&&((e1 (ln a.Log))&&true))
def aB2:List Row:=(List.set a.Bytes (0+(iN c)) (aL (aZ d 255)))
def aB3:Bool:=((cV (ln a.Bytes) (ln (aB2 c d a)))&&((e1 (ln a.Log))&&true))
end
def a5V(b:Int)(c:Int)(d:Int)(a:bC):Pt (bC):=(ot (.br (eqI b 2) (.ok (aBZ c a) (ot (.ok (((leI 0 (aV c 1))&&(ltI (aV c 1) (bN a.Bytes)))&&(((blt (0+(iN (aV c 1))) (ln (TA c d a)))&&(jW (jX (TA c d a) (0+(iN (aV c 1)))) 1))&&true)) (.ok ((((bI a true)&&(aB1 c d a))&&true)&&((aB1 c d a)&&true)) (.leaf {a with Bytes:=(aB0 c d a)}))))) (.ok (aBZ c a) (.ok ((((bI a true)&&(aB3 c d a))&&true)&&((aB3 c d a)&&true)) (.leaf {a with Bytes:=(aB2 c d a)})))))
def KW(b:Int)(c:Int)(d:Int)(a:bC):bC:=hid (a5V b c d a).val
def bPI(b:Int)(c:Int)(d:Int)(a:bC):Bool:=hid (a5V b c d a).okv
def bX8(b:Int)(c:Int)(d:Int)(a:bC)(r:bC):SV×List Blk:=((.tup []),[.box [.sl 1 0 (ln r.Bytes), .sl 2 0 (ln r.Log)], .lst 1 r.Bytes, .lst 5 r.Log])
def q319:=bPG (fun b c d a=>bX8 b c d a (KW b c d a)) bPI
theorem b6B:cD 319 q319:=bPH fun b c d a hk=>tcx aSB [(1000001,[])] [] true (a5V b c d a) (bX8 b c d a) hk
def Q319:=aX 319 q319 Q318
theorem aSC:QO Q319:=aB b6B aSB
def b6C(b:Int)(c:Int)(a:bC):List SV:=[(.one (.ptr 0 0 0)),(.one (li b)),(.one (li c))]
def b6D(b:Int)(c:Int)(a:bC):List Blk:=[.box [.sl 1 0 (ln a.Bytes), .sl 2 0 (ln a.Log)], .lst 1 a.Bytes, .lst 5 a.Log]
def bPJ(N:Int→Int→bC→SV×List Blk)(K:Int→Int→bC→Bool):List SV→List Blk→Option ((SV×List Blk)×Bool)
 |[(.one (.ptr 0 0 0)),(.one (li c0)),(.one (li c1))],[.box [.sl 1 0 l1, .sl 2 0 l2], .lst 1 c_1, .lst 5 c_2]=>some (N c0 c1 (bC.mk c_1 c_2),cV l1 (ln c_1)&&(cV l2 (ln c_2)&&(K c0 c1 (bC.mk c_1 c_2))))
 |_,_=>none
theorem bPK{N:Int→Int→bC→SV×List Blk}{K:Int→Int→bC→Bool}{f:Nat}(h: ∀(b:Int)(c:Int)(a:bC),K b c a=true→cY R f (b6C b c a) (b6D b c a)=some (N b c a)):cD f (bPJ N K):=fun args hp r e=>by
 unfold bPJ at e;split at e
 ·rename_i c0 c1 l1 l2 c_1 c_2;obtain⟨hr,hk⟩:=qp (qi e);obtain⟨d0,hk0⟩:=aS hk;obtain⟨d1,hk1⟩:=aS hk0;obtain rfl:=of_decide_eq_true d0;obtain rfl:=of_decide_eq_true d1;rw[←hr];exact h c0 c1 (bC.mk c_1 c_2) hk1
 ·simp at e
section
variable(c:Int)(a:bC)
def aB4:Bool:=(dO [.int .i64] a.Bytes (0+(iN c)) 0)
def aB5:Bool:=(((bI a true)&&(bI a true))&&true)
end
def a5W(b:Int)(c:Int)(a:bC):Pt (Int):=(ot (ot (.br (eqI b 1) (.ok (((leI 0 c)&&(ltI c (bN a.Bytes)))&&((aB4 c a)&&true)) (.ok (aB5 a) (.leaf (bF a.Bytes (0+(iN c)) 0)))) (.ok (((leI 0 c)&&(ltI c (bN a.Bytes)))&&((aB4 c a)&&(((leI 0 (aV c 1))&&(ltI (aV c 1) (bN a.Bytes)))&&((dO [.int .i64] a.Bytes (0+(iN (aV c 1))) 0)&&true)))) (.ok (aB5 a) (.leaf (eT (nL (bF a.Bytes (0+(iN c)) 0) 8) (bF a.Bytes (0+(iN (aV c 1))) 0))))))))
def a5X(b:Int)(c:Int)(a:bC):Int:=hid (a5W b c a).val
def bPL(b:Int)(c:Int)(a:bC):Bool:=hid (a5W b c a).okv
def bX9(b:Int)(c:Int)(a:bC)(r:Int):SV×List Blk:=((.one (li r)),[.box [.sl 1 0 (ln a.Bytes), .sl 2 0 (ln a.Log)], .lst 1 a.Bytes, .lst 5 a.Log])
def q228:=bPJ (fun b c a=>bX9 b c a (a5X b c a)) bPL
theorem b6E:cD 228 q228:=bPK fun b c a hk=>tc aSC (a5W b c a) (bX9 b c a) hk
def Q228:=aX 228 q228 Q319
theorem aSD:QO Q228:=aB b6E aSC
def b6F(b:Int)(c:Int)(d:Int)(o:Int)(a:bC):List SV:=[(.one (.ptr 0 0 0)),(.one (li b)),(.one (li c)),(.one (li d)),(.one (li o))]
def b6G(b:Int)(c:Int)(d:Int)(o:Int)(a:bC):List Blk:=[.box [.sl 1 0 (ln a.Bytes), .sl 2 0 (ln a.Log)], .lst 1 a.Bytes, .lst 5 a.Log]
def bHD(N:Int→Int→Int→Int→bC→SV×List Blk)(K:Int→Int→Int→Int→bC→Bool):List SV→List Blk→Option ((SV×List Blk)×Bool)
 |[(.one (.ptr 0 0 0)),(.one (li c0)),(.one (li c1)),(.one (li c2)),(.one (li c3))],[.box [.sl 1 0 l1, .sl 2 0 l2], .lst 1 c_1, .lst 5 c_2]=>some (N c0 c1 c2 c3 (bC.mk c_1 c_2),cV l1 (ln c_1)&&(cV l2 (ln c_2)&&(K c0 c1 c2 c3 (bC.mk c_1 c_2))))
 |_,_=>none
theorem a5Y{N:Int→Int→Int→Int→bC→SV×List Blk}{K:Int→Int→Int→Int→bC→Bool}{f:Nat}(h: ∀(b:Int)(c:Int)(d:Int)(o:Int)(a:bC),K b c d o a=true→cY R f (b6F b c d o a) (b6G b c d o a)=some (N b c d o a)):cD f (bHD N K):=fun args hp r e=>by
 unfold bHD at e;split at e
 ·rename_i c0 c1 c2 c3 l1 l2 c_1 c_2;obtain⟨hr,hk⟩:=qp (qi e);obtain⟨d0,hk0⟩:=aS hk;obtain⟨d1,hk1⟩:=aS hk0;obtain rfl:=of_decide_eq_true d0;obtain rfl:=of_decide_eq_true d1;rw[←hr];exact h c0 c1 c2 c3 (bC.mk c_1 c_2) hk1
 ·simp at e
section
variable(b:Int)(c:Int)(d:Int)(o:Int)(a:bC)
def TB:Bool:=((lJ (0+(ln a.Log)) (ln a.Log))&&true)
def TD:Bool:=(!(bif (eqI b 3)then(eqI (M1 b c d) 0)else false))
def TE:Bool:=(bif (ltI (bN a.Log) 400)then(TD b c d)else false)
def TF:Bool:=(((e1 (ln a.Log))&&((cV (0+(ln a.Log)) (ln a.Log))&&((lJ (mA ((ln a.Log)+1) 40) 140737488355328)&&(lJ ((ln a.Log)+1) 140737488355328))))&&true)
def TG:List Row:=(a.Log++[(aA.row (aA.mk b c d (bif (cU b 2)then 0 else o) (M1 b c d)))])
def TH:Bool:=((e1 (ln a.Bytes))&&((e1 (ln (TG b c d o a)))&&true))
def TI:Bool:=(((bI a true)&&(bI a true))&&true)
def TJ:Nat:=(0+(ln (KW c d o a).Log))
def TK:Nat:=((ln (KW c d o a).Log)+1)
def TL:List Row:=((KW c d o a).Log++[(aA.row (aA.mk b c d (bif (cU b 2)then 0 else o) (M1 b c d)))])
def KX:Bool:=((e1 (ln (KW c d o a).Bytes))&&((e1 (ln (TL b c d o a)))&&true))
def KY:List Row:=(a.Log++[(aA.row (aA.mk b c d (a5X c d a) (M1 b c d)))])
def KZ:Bool:=((e1 (ln a.Bytes))&&((e1 (ln (KY b c d a)))&&true))
end
def aLV(b:Int)(c:Int)(d:Int)(o:Int)(a:bC):Pt (bC×Int×Int):=(ot (.ok ((bPF b c d)&&true) (ot (ot (ot (ot (ot (.br (cU (M1 b c d) 0) (.ok (TB a) (.br (TE b c d a) (.ok (TF a) (ot (.ok (((TH b c d o a)&&(TH b c d o a))&&true) (.leaf ({a with Log:=(TG b c d o a)},0,(M1 b c d)))))) (ot (.ok (TI a) (.leaf (a,0,(M1 b c d))))))) (ot (.br (eqI b 2) (.ok ((sD a (bPI c d o a))&&true) (.ok ((lJ (TJ c d o a) (ln (KW c d o a).Log))&&true) (.br (bif (ltI (bN (KW c d o a).Log) 400)then(TD b c d)else false) (.ok (((e1 (ln (KW c d o a).Log))&&((cV (TJ c d o a) (ln (KW c d o a).Log))&&((lJ (mA (TK c d o a) 40) 140737488355328)&&(lJ (TK c d o a) 140737488355328))))&&true) (ot (.ok (((KX b c d o a)&&(KX b c d o a))&&true) (.leaf ({(KW c d o a)with Log:=(TL b c d o a)},0,(M1 b c d)))))) (ot (.ok (((bI (KW c d o a) true)&&(bI (KW c d o a) true))&&true) (.leaf ((KW c d o a),0,(M1 b c d)))))))) (.ok ((sD a (bPL c d a))&&true) (ot (.ok (TB a) (.br (TE b c d a) (.ok (TF a) (ot (.ok (((KZ b c d a)&&(KZ b c d a))&&true) (.leaf ({a with Log:=(KY b c d a)},(a5X c d a),(M1 b c d)))))) (ot (.ok (TI a) (.leaf (a,(a5X c d a),(M1 b c d)))))))))))))))))))
def K0(b:Int)(c:Int)(d:Int)(o:Int)(a:bC):bC×Int×Int:=hid (aLV b c d o a).val
def IQ(b:Int)(c:Int)(d:Int)(o:Int)(a:bC):Bool:=hid (aLV b c d o a).okv
def bHE(b:Int)(c:Int)(d:Int)(o:Int)(a:bC)(r:bC×Int×Int):SV×List Blk:=((.tup [(.one (li r.2.1)),(.one (li r.2.2))]),[.box [.sl 1 0 (ln r.1.Bytes), .sl 2 0 (ln r.1.Log)], .lst 1 r.1.Bytes, .lst 5 r.1.Log])
def q267:=bHD (fun b c d o a=>bHE b c d o a (K0 b c d o a)) IQ
theorem b6H:cD 267 q267:=a5Y fun b c d o a hk=>tc aSD (aLV b c d o a) (bHE b c d o a) hk
def Q267:=aX 267 q267 Q228
theorem aSE:QO Q267:=aB b6H aSD
def b6I(b:Int)(a:aD):List SV:=[(.one (.ptr 0 0 0)),(.one (li b))]
def b6J(b:Int)(a:aD):List Blk:=[.box [.sl 1 0 (ln a.R.D), .sl 2 0 (ln a.R.A),li a.R.Other,li a.R.PC,li a.R.Flags,li a.R.Mask, .lit (.bool a.R.Super), .lit (.bool a.R.Trace), .sl 3 0 (ln a.Bus.Bytes), .sl 4 0 (ln a.Bus.Log), .lit (.bool a.Stop), .lit (.bool a.Halt)], .lst 1 a.R.D, .lst 1 a.R.A, .lst 1 a.Bus.Bytes, .lst 5 a.Bus.Log]
def bPM(N:Int→aD→SV×List Blk)(K:Int→aD→Bool):List SV→List Blk→Option ((SV×List Blk)×Bool)
 |[(.one (.ptr 0 0 0)),(.one (li c0))],[.box [.sl 1 0 l1, .sl 2 0 l2,li c1,li c2,li c3,li c4, .lit (.bool c5), .lit (.bool c6), .sl 3 0 l3, .sl 4 0 l4, .lit (.bool c7), .lit (.bool c8)], .lst 1 c_1, .lst 1 c_2, .lst 1 c_3, .lst 5 c_4]=>some (N c0 (aD.mk (aE.mk c_1 c_2 c1 c2 c3 c4 c5 c6) (bC.mk c_3 c_4) c7 c8),cV l1 (ln c_1)&&(cV l2 (ln c_2)&&(cV l3 (ln c_3)&&(cV l4 (ln c_4)&&(K c0 (aD.mk (aE.mk c_1 c_2 c1 c2 c3 c4 c5 c6) (bC.mk c_3 c_4) c7 c8))))))
 |_,_=>none
theorem bPN{N:Int→aD→SV×List Blk}{K:Int→aD→Bool}{f:Nat}(h: ∀(b:Int)(a:aD),K b a=true→cY R f (b6I b a) (b6J b a)=some (N b a)):cD f (bPM N K):=fun args hp r e=>by
 unfold bPM at e;split at e
 ·rename_i c0 l1 l2 c1 c2 c3 c4 c5 c6 l3 l4 c7 c8 c_1 c_2 c_3 c_4;obtain⟨hr,hk⟩:=qp (qi e);obtain⟨d0,hk0⟩:=aS hk;obtain⟨d1,hk1⟩:=aS hk0;obtain⟨d2,hk2⟩:=aS hk1;obtain⟨d3,hk3⟩:=aS hk2;obtain rfl:=of_decide_eq_true d0;obtain rfl:=of_decide_eq_true d1;obtain rfl:=of_decide_eq_true d2;obtain rfl:=of_decide_eq_true d3;rw[←hr];exact h c0 (aD.mk (aE.mk c_1 c_2 c1 c2 c3 c4 c5 c6) (bC.mk c_3 c_4) c7 c8) hk3
 ·simp at e
section
variable(b:Int)(a:aD)
def DQ:bC×Int×Int:=(K0 2 2 (aZ (cF (bF a.R.A 3 0) 2) 65535) b a.Bus)
def aB6:Bool:=(aK a.R (bI (DQ b a).1 true))
def aLW:List Row:=(List.set a.R.A 3 (aL (aZ (cF (bF a.R.A 3 0) 2) 65535)))
def aLX:Bool:=((e1 (ln a.R.D))&&((cV (ln a.R.A) (ln (aLW a)))&&(bI (DQ b a).1 true)))
end
def a5Z(b:Int)(a:aD):Pt (aD×Int×Int):=(ot (.ok ((ltI 3 (bN a.R.A))&&((dO [.int .i64] a.R.A 3 0)&&true)) (.ok ((sD a.Bus (IQ 2 2 (aZ (cF (bF a.R.A 3 0) 2) 65535) b a.Bus))&&true) (ot (.br (eqI (DQ b a).2.2 0) (.ok ((ltI 3 (bN a.R.A))&&(((blt 3 (ln a.R.A))&&(jW (jX a.R.A 3) 1))&&true)) (ot (.ok ((((aB6 b a)&&(aLX b a))&&true)&&((aLX b a)&&true)) (.leaf ({a with R:={a.R with A:=(aLW a)},Bus:=(DQ b a).1},(aZ (cF (bF a.R.A 3 0) 2) 65535),(DQ b a).2.2))))) (ot (.ok (dd (aB6 b a) ((aB6 b a)&&true)) (.leaf ({a with Bus:=(DQ b a).1},(aZ (cF (bF a.R.A 3 0) 2) 65535),(DQ b a).2.2)))))))))
def IR(b:Int)(a:aD):aD×Int×Int:=hid (a5Z b a).val
def bHF(b:Int)(a:aD):Bool:=hid (a5Z b a).okv
def bYA(b:Int)(a:aD)(r:aD×Int×Int):SV×List Blk:=((.tup [(.one (li r.2.1)),(.one (li r.2.2))]),[.box [.sl 1 0 (ln r.1.R.D), .sl 2 0 (ln r.1.R.A),li r.1.R.Other,li r.1.R.PC,li r.1.R.Flags,li r.1.R.Mask, .lit (.bool r.1.R.Super), .lit (.bool r.1.R.Trace), .sl 3 0 (ln r.1.Bus.Bytes), .sl 4 0 (ln r.1.Bus.Log), .lit (.bool r.1.Stop), .lit (.bool r.1.Halt)], .lst 1 r.1.R.D, .lst 1 r.1.R.A, .lst 1 r.1.Bus.Bytes, .lst 5 r.1.Bus.Log])
def q266:=bPM (fun b a=>bYA b a (IR b a)) bHF
theorem b6K:cD 266 q266:=bPN fun b a hk=>tcx aSE [(1000001,[])] [] true (a5Z b a) (bYA b a) hk
def Q266:=aX 266 q266 Q267
theorem aB7:QO Q266:=aB b6K aSE
def b6L(b:aH)(a:aD):List SV:=[(.one (.ptr 0 0 0)),(.agg [li b.Vector,li b.PC,li b.Addr,li b.Word, .lit (.bool b.Write)])]
def b6M(b:aH)(a:aD):List Blk:=[.box [.sl 1 0 (ln a.R.D), .sl 2 0 (ln a.R.A),li a.R.Other,li a.R.PC,li a.R.Flags,li a.R.Mask, .lit (.bool a.R.Super), .lit (.bool a.R.Trace), .sl 3 0 (ln a.Bus.Bytes), .sl 4 0 (ln a.Bus.Log), .lit (.bool a.Stop), .lit (.bool a.Halt)], .lst 1 a.R.D, .lst 1 a.R.A, .lst 1 a.Bus.Bytes, .lst 5 a.Bus.Log]
def bPO(N:aH→aD→SV×List Blk)(K:aH→aD→Bool):List SV→List Blk→Option ((SV×List Blk)×Bool)
 |[(.one (.ptr 0 0 0)),(.agg [li c0,li c1,li c2,li c3, .lit (.bool c4)])],[.box [.sl 1 0 l1, .sl 2 0 l2,li c5,li c6,li c7,li c8, .lit (.bool c9), .lit (.bool c10), .sl 3 0 l3, .sl 4 0 l4, .lit (.bool c11), .lit (.bool c12)], .lst 1 c_1, .lst 1 c_2, .lst 1 c_3, .lst 5 c_4]=>some (N (aH.mk c0 c1 c2 c3 c4) (aD.mk (aE.mk c_1 c_2 c5 c6 c7 c8 c9 c10) (bC.mk c_3 c_4) c11 c12),cV l1 (ln c_1)&&(cV l2 (ln c_2)&&(cV l3 (ln c_3)&&(cV l4 (ln c_4)&&(K (aH.mk c0 c1 c2 c3 c4) (aD.mk (aE.mk c_1 c_2 c5 c6 c7 c8 c9 c10) (bC.mk c_3 c_4) c11 c12))))))
 |_,_=>none
theorem bPP{N:aH→aD→SV×List Blk}{K:aH→aD→Bool}{f:Nat}(h: ∀(b:aH)(a:aD),K b a=true→cY R f (b6L b a) (b6M b a)=some (N b a)):cD f (bPO N K):=fun args hp r e=>by
 unfold bPO at e;split at e
 ·rename_i c0 c1 c2 c3 c4 l1 l2 c5 c6 c7 c8 c9 c10 l3 l4 c11 c12 c_1 c_2 c_3 c_4;obtain⟨hr,hk⟩:=qp (qi e);obtain⟨d0,hk0⟩:=aS hk;obtain⟨d1,hk1⟩:=aS hk0;obtain⟨d2,hk2⟩:=aS hk1;obtain⟨d3,hk3⟩:=aS hk2;obtain rfl:=of_decide_eq_true d0;obtain rfl:=of_decide_eq_true d1;obtain rfl:=of_decide_eq_true d2;obtain rfl:=of_decide_eq_true d3;rw[←hr];exact h (aH.mk c0 c1 c2 c3 c4) (aD.mk (aE.mk c_1 c_2 c5 c6 c7 c8 c9 c10) (bC.mk c_3 c_4) c11 c12) hk3
 ·simp at e
structure V198_0 where
 mk::
 (b0:aD)
 (b1:aH)
 (s29:List Row)
 (s30:Int)
 (s31:Int)
section
variable(v:V198_0)
def wG:aD×Int×Int:=(IR (bF v.s29 (0+(iN v.s31)) 0) v.b0)
end
def IS(v:V198_0):Pt (Option V198_0):=(ot (.br (ltI v.s31 v.s30) (.ok (((leI 0 v.s31)&&(ltI v.s31 (bN v.s29)))&&((dO [.int .i64] v.s29 (0+(iN v.s31)) 0)&&true)) (.ok ((cC v.b0 (bHF (bF v.s29 (0+(iN v.s31)) 0) v.b0))&&true) (ot (.br (cU (wG v).2.2 0) (ot (.leaf none)) (ot (.ok (((aI (wG v).1 true)&&(aI (wG v).1 ((e1 (ln v.s29))&&true)))&&((e1 (ln v.s29))&&true)) (.leaf (some {v with b0:=(wG v).1,s31:=(aV v.s31 1)})))))))) (.leaf none)))
def TM(v:V198_0):St:=⟨[(0,(.one (.ptr 0 0 0))),(3,(.one (.ptr 1 0 0))),(29,(.one (.sl 6 0 (ln v.s29)))),(30,(.one (li v.s30))),(31,(.one (li v.s31)))],[.box [.sl 2 0 (ln v.b0.R.D), .sl 3 0 (ln v.b0.R.A),li v.b0.R.Other,li v.b0.R.PC,li v.b0.R.Flags,li v.b0.R.Mask, .lit (.bool v.b0.R.Super), .lit (.bool v.b0.R.Trace), .sl 4 0 (ln v.b0.Bus.Bytes), .sl 5 0 (ln v.b0.Bus.Log), .lit (.bool v.b0.Stop), .lit (.bool v.b0.Halt)], .box [li v.b1.Vector,li v.b1.PC,li v.b1.Addr,li v.b1.Word, .lit (.bool v.b1.Write)], .lst 1 v.b0.R.D, .lst 1 v.b0.R.A, .lst 1 v.b0.Bus.Bytes, .lst 5 v.b0.Bus.Log, .lst 1 v.s29]⟩
def aB8:St→Option (V198_0×Bool)
 |⟨[(0,(.one (.ptr 0 0 0))),(3,(.one (.ptr 1 0 0))),(29,(.one (.sl 6 0 l6))),(30,(.one (li c13))),(31,(.one (li c14)))],[.box [.sl 2 0 l2, .sl 3 0 l3,li c0,li c1,li c2,li c3, .lit (.bool c4), .lit (.bool c5), .sl 4 0 l4, .sl 5 0 l5, .lit (.bool c6), .lit (.bool c7)], .box [li c8,li c9,li c10,li c11, .lit (.bool c12)], .lst 1 c_2, .lst 1 c_3, .lst 1 c_4, .lst 5 c_5, .lst 1 c_6]⟩=>some ((V198_0.mk (aD.mk (aE.mk c_2 c_3 c0 c1 c2 c3 c4 c5) (bC.mk c_4 c_5) c6 c7) (aH.mk c8 c9 c10 c11 c12) c_6 c13 c14),cV l2 (ln c_2)&&(cV l3 (ln c_3)&&(cV l4 (ln c_4)&&(cV l5 (ln c_5)&&(cV l6 (ln c_6)&&(true))))))
 |_=>none
def aB9:St→Option (Pt Out):=vH Q266 ([]++CD 198) [] true [] 1 9223372036854775808 aJU
theorem bHG(v:V198_0):((aB9 (TM v)).bind (pG true false 1 [0,3,29,30,31]))=some ((IS v).map (Option.map TM)):=by kernel_rfl
theorem bHH(σ:St)(v:V198_0)(h:aB8 σ=some (v,true)):σ=TM v:=by
 unfold aB8 at h;split at h
 ·obtain⟨hr,hk⟩:=qp (qi h);obtain⟨d0,hk0⟩:=aS hk;obtain⟨d1,hk1⟩:=aS hk0;obtain⟨d2,hk2⟩:=aS hk1;obtain⟨d3,hk3⟩:=aS hk2;obtain⟨d4,hk4⟩:=aS hk3;obtain rfl:=of_decide_eq_true d0;obtain rfl:=of_decide_eq_true d1;obtain rfl:=of_decide_eq_true d2;obtain rfl:=of_decide_eq_true d3;obtain rfl:=of_decide_eq_true d4;rw[←hr];rfl
 ·simp at h
theorem bHI:cK (qU true false 1 [0,3,29,30,31] aB9 aB8 TM IS 9223372036854775808) (eY R 1 9223372036854775808 (.loop [0,3,29,30,31] aJU)):=dD (cL aB7 (bT (l:=[]) (by kernel_rfl) trivial)) bHH bHG
def bHJ:Lp:=(32,qU true false 1 [0,3,29,30,31] aB9 aB8 TM IS 9223372036854775808)::[]
def a50(v:V198_0):V198_0:=(hid (dB IS 9223372036854775808 v)).getD v
def a51(v:V198_0):Bool:=(hid (dB IS 9223372036854775808 v)).isSome
section
variable(b:aH)(a:aD)
def M2:aE:=(aY6 (eT (fX (aBX a.R) 512) 256) a.R)
def aCA:Bool:=((e1 (ln (aBW a b)))&&true)
def aCB:Bool:=(aK (M2 a) (bI a.Bus (aCA b a)))
def lO:V198_0:=(a50 (V198_0.mk {a with R:=(M2 a),Stop:=false} b (aBW a b) (bN (aBW a b)) 0))
def aCC:Bool:=(aI (IR (bF (lO b a).s29 (0+(iN (lO b a).s31)) 0) (lO b a).b0).1 true)
def IT:bC×Int×Int:=(K0 1 2 (cX 2 (lO b a).b1.Vector) 0 (lO b a).b0.Bus)
def aCD:Bool:=(aK (lO b a).b0.R (bI (IT b a).1 true))
def aCE:Bool:=(((aCD b a)&&(aCD b a))&&true)
end
def a52(b:aH)(a:aD):Pt (aD):=(ot (.ok (((((aI a true)&&true)&&(bPB a b))&&true)&&true) (ot (.ok (((hX a.R (aLS a.R))&&((hX a.R (aY7 (eT (fX (aBX a.R) 512) 256) a.R))&&true))&&true) (.ok ((lJ (0+(ln (aBW a b))) (ln (aBW a b)))&&true) (.ok (((aK (M2 a) (bI a.Bus true))&&(aCB b a))&&(aCA b a)) (.ok (aCB b a) (.ok (a51 (V198_0.mk {a with R:=(M2 a),Stop:=false} b (aBW a b) (bN (aBW a b)) 0)) (.br (ltI (lO b a).s31 (lO b a).s30) (.ok (((aCC b a)&&(aCC b a))&&true) (.leaf {(IR (bF (lO b a).s29 (0+(iN (lO b a).s31)) 0) (lO b a).b0).1 with Halt:=true})) (.ok (((sD (lO b a).b0.Bus (IQ 1 2 (cX 2 (lO b a).b1.Vector) 0 (lO b a).b0.Bus))&&true)&&true) (ot (.br (cU (IT b a).2.2 0) (ot (.ok (aCE b a) (.leaf {(lO b a).b0 with Bus:=(IT b a).1,Halt:=true}))) (ot (.ok (aCE b a) (.leaf {(lO b a).b0 with R:={(lO b a).b0.R with PC:=(IT b a).2.1},Bus:=(IT b a).1})))))))))))))))
def aCF(b:aH)(a:aD):aD:=hid (a52 b a).val
def aCG(b:aH)(a:aD):Bool:=hid (a52 b a).okv
def bYB(b:aH)(a:aD)(r:aD):SV×List Blk:=((.tup []),[.box [.sl 1 0 (ln r.R.D), .sl 2 0 (ln r.R.A),li r.R.Other,li r.R.PC,li r.R.Flags,li r.R.Mask, .lit (.bool r.R.Super), .lit (.bool r.R.Trace), .sl 3 0 (ln r.Bus.Bytes), .sl 4 0 (ln r.Bus.Log), .lit (.bool r.Stop), .lit (.bool r.Halt)], .lst 1 r.R.D, .lst 1 r.R.A, .lst 1 r.Bus.Bytes, .lst 5 r.Bus.Log])
def q198:=bPO (fun b a=>bYB b a (aCF b a)) aCG
theorem bYC:eS (fun live x=>cK (lH bHJ (kH x)) (eY R 1 9223372036854775808 (.loop live x))) (nK 198).body:=(bT (l:=[([0,3,29,30,31],aJU)]) (by kernel_rfl) ⟨eP (n:=32) (by kernel_rfl) fun σ σr t h ho hl=>bHI σ σr t h ho hl,trivial⟩)
theorem b6N:cD 198 q198:=bPP fun b a hk=>tcl aB7 bYC [] [] true (a52 b a) (bYB b a) hk
def Q198:=aX 198 q198 Q266
theorem aSF:QO Q198:=aB b6N aB7
def a53(a:Int):Pt (Int):=(ot (ot (.br (eqI a 2) (ot (ot (ot (.leaf 3)))) (ot (ot (ot (.leaf 2)))))))
def aY8(a:Int):Int:=hid (a53 a).val
def a54(a:Int):Bool:=hid (a53 a).okv
def q278:=B8 (fun a=>xJ a (aY8 a)) a54
theorem b6O:cD 100278 q278:=gQ fun a hk=>tz aSF (a53 a) (xJ a) hk
def Q278:=aX 100278 q278 Q198
theorem aSG:QO Q278:=aB b6O aSF
def a55(a:Int):Pt (Bool):=(ot (ot (ot (ot (.leaf (bif (bif (eqI a 5)then true else(eqI a 6))then true else(eqI a 7)))))))
def a56(a:Int):Bool:=hid (a55 a).val
def a57(a:Int):Bool:=hid (a55 a).okv
def q215:=B8 (fun a=>jY a (a56 a)) a57
theorem b6P:cD 100215 q215:=gQ fun a hk=>tz aSG (a55 a) (jY a) hk
def Q215:=aX 100215 q215 Q278
theorem aSH:QO Q215:=aB b6P aSG
section
variable(a:Int)
def aLY:Bool:=(a56 (aZ (eW a 5) 7))
end
def a58(a:Int):Pt (Int):=(ot (.ok ((a57 (aZ (eW a 5) 7))&&((yN (aLY a) 1)&&true)) (ot (ot (.leaf (aV 1 (yM (aLY a) 1)))))))
def aY9(a:Int):Int:=hid (a58 a).val
def a59(a:Int):Bool:=hid (a58 a).okv
def q279:=B8 (fun a=>xJ a (aY9 a)) a59
theorem b6Q:cD 100279 q279:=gQ fun a hk=>tz aSH (a58 a) (xJ a) hk
def Q279:=aX 100279 q279 Q215
theorem aSI:QO Q279:=aB b6Q aSH
def a6A(a:Int)(b:Int):Pt (aN):=(ot (ot (ot (.ok ((a59 a)&&true) (.br (eqI (aY9 a) 2) (ot (ot (ot (ot (.leaf (aN.mk (eW a 11) (aV (aZ (eW a 10) 1) 1) (aZ (eW a 8) 3) (aC.mk (aZ (eW a 5) 7) (aZ (eW a 3) 3) b) (aZ a 7))))))) (ot (ot (ot (.leaf (aN.mk (eW a 11) (aV (aZ (eW a 10) 1) 1) (aZ (eW a 8) 3) (aC.mk (aZ (eW a 5) 7) (aZ (eW a 3) 3) 0) (aZ a 7)))))))))))
def aZA(a:Int)(b:Int):aN:=hid (a6A a b).val
def bHK(a:Int)(b:Int):Bool:=hid (a6A a b).okv
def bHL(a:Int)(b:Int)(r:aN):SV×List Blk:=((.agg [li r.Op,li r.Size,li r.Reg,li r.Ea.Mode,li r.Ea.Reg,li r.Ea.Ext,li r.Sub]),[])
def q280:=KV (fun a b=>bHL a b (aZA a b)) bHK
theorem b6R:cD 100280 q280:=tX fun a b hk=>tz aSI (a6A a b) (bHL a b) hk
def Q280:=aX 100280 q280 Q279
theorem aSJ:QO Q280:=aB b6R aSI
section
variable(a:aC)
def aLZ:Bool:=(bif (!(tW a.Mode 0 7))then true else(!(g87 a.Ext)))
end
def a6B(a:aC):Pt (Bool):=(ot (.ok ((wF a.Mode 0 7)&&((((k87 a.Ext)&&true)||(!(tW a.Mode 0 7)))&&((((a57 a.Mode)&&true)||(aLZ a))&&true))) (.br (bif (aLZ a)then true else(bif (!(a56 a.Mode))then(cU a.Ext 0)else false)) (ot (ot (ot (.leaf false)))) (.ok ((wF a.Reg 0 3)&&true) (ot (ot (.leaf (bif (tW a.Reg 0 3)then(bif (eqI a.Reg 0)then true else(ltI a.Mode 6))else false))))))))
def bPQ(a:aC):Bool:=hid (a6B a).val
def bPR(a:aC):Bool:=hid (a6B a).okv
def q171:=DS6 (fun a=>WM a (bPQ a)) bPR
theorem b6S:cD 100171 q171:=aGO fun a hk=>tz aSJ (a6B a) (WM a) hk
def Q171:=aX 100171 q171 Q280
theorem aSK:QO Q171:=aB b6S aSJ
def a6C(a:Int):Pt (Bool):=(ot (.ok ((wF a 2 6)&&true) (ot (ot (.leaf (tW a 2 6))))))
def bPS(a:Int):Bool:=hid (a6C a).val
def bPT(a:Int):Bool:=hid (a6C a).okv
def q192:=B8 (fun a=>jY a (bPS a)) bPT
theorem b6T:cD 100192 q192:=gQ fun a hk=>tz aSK (a6C a) (jY a) hk
def Q192:=aX 100192 q192 Q171
theorem aSL:QO Q192:=aB b6T aSK
def a6D(a:Int):Pt (Bool):=(ot (.ok ((((bPT a)&&true)||(eqI a 0))&&true) (ot (ot (.leaf (bif (eqI a 0)then true else(bPS a)))))))
def bHM(a:Int):Bool:=hid (a6D a).val
def bHN(a:Int):Bool:=hid (a6D a).okv
def q233:=B8 (fun a=>jY a (bHM a)) bHN
theorem b6U:cD 100233 q233:=gQ fun a hk=>tz aSL (a6D a) (jY a) hk
def Q233:=aX 100233 q233 Q192
theorem aSM:QO Q233:=aB b6U aSL
def a6E(a:Int):Pt (Bool):=(ot (ot (ot (ot (.leaf (bif (bif (eqI a 2)then true else(eqI a 5))then true else(eqI a 6)))))))
def bHO(a:Int):Bool:=hid (a6E a).val
def bHP(a:Int):Bool:=hid (a6E a).okv
def q234:=B8 (fun a=>jY a (bHO a)) bHP
theorem b6V:cD 100234 q234:=gQ fun a hk=>tz aSM (a6E a) (jY a) hk
def Q234:=aX 100234 q234 Q233
theorem aSN:QO Q234:=aB b6V aSM
def a6F(a:aC):Pt (Bool):=(ot (ot (ot (ot (.leaf (bif (eqI a.Mode 7)then(leI a.Ext 1023)else false))))))
def bHQ(a:aC):Bool:=hid (a6F a).val
def bHR(a:aC):Bool:=hid (a6F a).okv
def q236:=DS6 (fun a=>WM a (bHQ a)) bHR
theorem b6W:cD 100236 q236:=aGO fun a hk=>tz aSN (a6F a) (WM a) hk
def Q236:=aX 100236 q236 Q234
theorem aSO:QO Q236:=aB b6W aSN
def a6G(a:aN):Pt (Bool):=(ot (ot (.br (bif (cU a.Size 2)then true else(kV a.Sub 6)) (ot (ot (ot (.leaf false)))) (ot (.br (eqI a.Sub 3) (.ok ((((bHR a.Ea)&&true)||(!(eqI a.Reg 0)))&&true) (ot (ot (.leaf (bif (eqI a.Reg 0)then(bHQ a.Ea)else false))))) (ot (.br (bif (ltI a.Sub 3)then(cU a.Reg 0)else false) (ot (ot (ot (.leaf false)))) (ot (ot (ot (.leaf ((eqI a.Ea.Mode 0)&&((eqI a.Ea.Reg 0)&&((eqI a.Ea.Ext 0)&&true))))))))))))))
def bPU(a:aN):Bool:=hid (a6G a).val
def bPV(a:aN):Bool:=hid (a6G a).okv
def q235:=DS7 (fun a=>n91 a (bPU a)) bPV
theorem b6X:cD 100235 q235:=OV fun a hk=>tz aSO (a6G a) (n91 a) hk
def Q235:=aX 100235 q235 Q236
theorem aSP:QO Q235:=aB b6X aSO
section
variable(a:aN)
def TN:Bool:=(bif (eqI a.Size 2)then(eqI a.Sub 0)else false)
def aL0:Bool:=(bif (eqI a.Reg 0)then(leI a.Sub 3)else false)
def aL1:Bool:=(bif (bif (eqI a.Size 2)then(eqI a.Reg 0)else false)then(leI a.Sub 1)else false)
def aL2:Bool:=(bif (eqI a.Sub 0)then(eqI a.Reg 0)else false)
end
def a6H(a:aN):Pt (Bool):=(ot (ot (ot (ot (ot (ot (.br (bif (eqI a.Op 1)then(eqI a.Op 1)else(bif (eqI a.Op 3)then(eqI a.Op 3)else(bif (eqI a.Op 4)then(eqI a.Op 4)else(bif (eqI a.Op 5)then(eqI a.Op 5)else(bif (eqI a.Op 6)then(eqI a.Op 6)else(bif (eqI a.Op 7)then(eqI a.Op 7)else(eqI a.Op 8))))))) (ot (ot (ot (.leaf (bif (eqI a.Sub 0)then(bif (cU a.Ea.Mode 1)then true else(eqI a.Size 2))else false))))) (ot (.br (eqI a.Op 2) (.ok ((((bHN a.Ea.Mode)&&true)||(!(eqI a.Sub 0)))&&true) (ot (ot (.leaf (bif (eqI a.Sub 0)then(bHM a.Ea.Mode)else false))))) (ot (.br (eqI a.Op 9) (ot (ot (ot (.leaf (TN a))))) (ot (.br (eqI a.Op 10) (.ok ((((bHP a.Ea.Mode)&&true)||(!(TN a)))&&true) (ot (ot (.leaf (bif (TN a)then(bHO a.Ea.Mode)else false))))) (ot (.br (eqI a.Op 11) (.ok ((((bHN a.Ea.Mode)&&true)||(!(aL0 a)))&&true) (ot (ot (.leaf (bif (aL0 a)then(bHM a.Ea.Mode)else false))))) (ot (.br (eqI a.Op 12) (ot (ot (ot (.leaf (eqI a.Ea.Mode 0))))) (ot (.br (eqI a.Op 13) (ot (ot (ot (.leaf (bif (bif (eqI a.Size 2)then(leI a.Reg 1)else false)then(eqI a.Ea.Mode 7)else false))))) (ot (.br (eqI a.Op 14) (.ok ((((bHP a.Ea.Mode)&&true)||(!(aL1 a)))&&true) (ot (ot (.leaf (bif (aL1 a)then(bHO a.Ea.Mode)else false))))) (ot (.br (eqI a.Op 15) (.ok ((bPV a)&&true) (ot (ot (.leaf (bPU a))))) (ot (ot (.br (bif (eqI a.Op 16)then(eqI a.Op 16)else(eqI a.Op 17)) (ot (ot (ot (.leaf (bif (TN a)then(cU a.Ea.Mode 1)else false))))) (ot (.br (eqI a.Op 18) (ot (ot (ot (.leaf (bif (bif (!(eqI a.Size 2))then(leI a.Sub 1)else false)then(eqI a.Ea.Mode 0)else false))))) (ot (.br (eqI a.Op 19) (.ok ((((((bHR a.Ea)&&true)||(!(aL2 a)))&&true)||(!(eqI a.Size 2)))&&true) (ot (ot (.leaf (bif (eqI a.Size 2)then(bif (bif (aL2 a)then(bHQ a.Ea)else false)then true else(bif (eqI a.Sub 1)then((eqI a.Ea.Mode 0)&&((eqI a.Ea.Reg 0)&&((eqI a.Ea.Ext 0)&&true)))else false))else false))))) (ot (ot (ot (.leaf false))))))))))))))))))))))))))))))))))
def bPW(a:aN):Bool:=hid (a6H a).val
def bPX(a:aN):Bool:=hid (a6H a).okv
def q172:=DS7 (fun a=>n91 a (bPW a)) bPX
theorem b6Y:cD 100172 q172:=OV fun a hk=>tz aSP (a6H a) (n91 a) hk
def Q172:=aX 100172 q172 Q235
theorem aSQ:QO Q172:=aB b6Y aSP
section
variable(a:aN)
def a6I:Bool:=(bif (aGU a.Size)then(tW a.Reg 0 3)else false)
def a6J:Bool:=(bif (a6I a)then(tW a.Sub 0 7)else false)
def a6K:Bool:=(bif (bif (a6J a)then(bPQ a.Ea)else false)then(!(bif (bif (eqI a.Ea.Mode 7)then(eqI a.Size 1)else false)then(kV a.Ea.Ext 255)else false))else false)
end
def T86(a:aN):Pt (Bool):=(ot (.ok ((aY2 a.Size)&&((((wF a.Reg 0 3)&&true)||(!(aGU a.Size)))&&((((wF a.Sub 0 7)&&true)||(!(a6I a)))&&((((bPR a.Ea)&&true)||(!(a6J a)))&&((((bPX a)&&true)||(!(a6K a)))&&true))))) (ot (ot (.leaf (bif (a6K a)then(bPW a)else false))))))
def g86(a:aN):Bool:=hid (T86 a).val
def k86(a:aN):Bool:=hid (T86 a).okv
def q86:=DS7 (fun a=>n91 a (g86 a)) k86
theorem t86:cD 100086 q86:=OV fun a hk=>tz aSQ (T86 a) (n91 a) hk
def Q86:=aX 100086 q86 Q172
theorem a6L:QO Q86:=aB t86 aSQ
def b6Z(a:aD):List SV:=[(.one (.ptr 0 0 0))]
def b60(a:aD):List Blk:=[.box [.sl 1 0 (ln a.R.D), .sl 2 0 (ln a.R.A),li a.R.Other,li a.R.PC,li a.R.Flags,li a.R.Mask, .lit (.bool a.R.Super), .lit (.bool a.R.Trace), .sl 3 0 (ln a.Bus.Bytes), .sl 4 0 (ln a.Bus.Log), .lit (.bool a.Stop), .lit (.bool a.Halt)], .lst 1 a.R.D, .lst 1 a.R.A, .lst 1 a.Bus.Bytes, .lst 5 a.Bus.Log]
def aZB(N:aD→SV×List Blk)(K:aD→Bool):List SV→List Blk→Option ((SV×List Blk)×Bool)
 |[(.one (.ptr 0 0 0))],[.box [.sl 1 0 l1, .sl 2 0 l2,li c0,li c1,li c2,li c3, .lit (.bool c4), .lit (.bool c5), .sl 3 0 l3, .sl 4 0 l4, .lit (.bool c6), .lit (.bool c7)], .lst 1 c_1, .lst 1 c_2, .lst 1 c_3, .lst 5 c_4]=>some (N (aD.mk (aE.mk c_1 c_2 c0 c1 c2 c3 c4 c5) (bC.mk c_3 c_4) c6 c7),cV l1 (ln c_1)&&(cV l2 (ln c_2)&&(cV l3 (ln c_3)&&(cV l4 (ln c_4)&&(K (aD.mk (aE.mk c_1 c_2 c0 c1 c2 c3 c4 c5) (bC.mk c_3 c_4) c6 c7))))))
 |_,_=>none
theorem aCH{N:aD→SV×List Blk}{K:aD→Bool}{f:Nat}(h: ∀(a:aD),K a=true→cY R f (b6Z a) (b60 a)=some (N a)):cD f (aZB N K):=fun args hp r e=>by
 unfold aZB at e;split at e
 ·rename_i l1 l2 c0 c1 c2 c3 c4 c5 l3 l4 c6 c7 c_1 c_2 c_3 c_4;obtain⟨hr,hk⟩:=qp (qi e);obtain⟨d0,hk0⟩:=aS hk;obtain⟨d1,hk1⟩:=aS hk0;obtain⟨d2,hk2⟩:=aS hk1;obtain⟨d3,hk3⟩:=aS hk2;obtain rfl:=of_decide_eq_true d0;obtain rfl:=of_decide_eq_true d1;obtain rfl:=of_decide_eq_true d2;obtain rfl:=of_decide_eq_true d3;rw[←hr];exact h (aD.mk (aE.mk c_1 c_2 c0 c1 c2 c3 c4 c5) (bC.mk c_3 c_4) c6 c7) hk3
 ·simp at e
section
variable(a:aD)
def eX:bC×Int×Int:=(K0 3 2 a.R.PC 0 a.Bus)
def tY:Bool:=(aK a.R (bI (eX a).1 true))
def pX:bC×Int×Int:=(K0 3 2 (aZ (aV a.R.PC 2) 65535) 0 (eX a).1)
def tZ:Bool:=(aK a.R (bI (pX a).1 true))
def BG:aN:=(aZA (eX a).2.1 (pX a).2.1)
def DR:Bool:=(((a59 (eX a).2.1)&&true)&&true)
end
def IU(a:aD):Pt (aD×aN×Int×Int×aH):=(ot (ot (.ok ((sD a.Bus (IQ 3 2 a.R.PC 0 a.Bus))&&true) (ot (.br (cU (eX a).2.2 0) (.ok ((a54 (eX a).2.2)&&true) (.ok (((tY a)&&(tY a))&&true) (.leaf ({a with Bus:=(eX a).1},(aN.mk 0 0 0 (aC.mk 0 0 0) 0),0,0,(aH.mk (aY8 (eX a).2.2) a.R.PC a.R.PC 0 false))))) (ot (.ok ((a59 (eX a).2.1)&&true) (.br (eqI (aY9 (eX a).2.1) 2) (ot (.ok ((sD (eX a).1 (IQ 3 2 (aZ (aV a.R.PC 2) 65535) 0 (eX a).1))&&true) (ot (.br (cU (pX a).2.2 0) (.ok ((a54 (pX a).2.2)&&true) (.ok (((tZ a)&&(tZ a))&&true) (.leaf ({a with Bus:=(pX a).1},(aN.mk 0 0 0 (aC.mk 0 0 0) 0),0,0,(aH.mk (aY8 (pX a).2.2) a.R.PC (aZ (aV a.R.PC 2) 65535) (eX a).2.1 false))))) (.ok ((bHK (eX a).2.1 (pX a).2.1)&&true) (.ok ((k86 (BG a))&&true) (.br (!(g86 (BG a))) (ot (.ok (((tZ a)&&(tZ a))&&true) (.leaf ({a with Bus:=(pX a).1},(aN.mk 0 0 0 (aC.mk 0 0 0) 0),0,0,(aH.mk 4 a.R.PC 0 (eX a).2.1 false))))) (.ok (DR a) (.ok (((tZ a)&&(tZ a))&&true) (.leaf ({a with Bus:=(pX a).1},(BG a),(aY9 (eX a).2.1),(eX a).2.1,(aH.mk 0 0 0 0 false)))))))))))) (.ok ((bHK (eX a).2.1 0)&&true) (.ok ((k86 (aZA (eX a).2.1 0))&&true) (.br (!(g86 (aZA (eX a).2.1 0))) (ot (.ok (((tY a)&&(tY a))&&true) (.leaf ({a with Bus:=(eX a).1},(aN.mk 0 0 0 (aC.mk 0 0 0) 0),0,0,(aH.mk 4 a.R.PC 0 (eX a).2.1 false))))) (.ok (DR a) (.ok (((tY a)&&(tY a))&&true) (.leaf ({a with Bus:=(eX a).1},(aZA (eX a).2.1 0),(aY9 (eX a).2.1),(eX a).2.1,(aH.mk 0 0 0 0 false))))))))))))))))
def K1(a:aD):aD×aN×Int×Int×aH:=hid (IU a).val
def bPY(a:aD):Bool:=hid (IU a).okv
def bYG(a:aD)(r:aD×aN×Int×Int×aH):SV×List Blk:=((.tup [(.agg [li r.2.1.Op,li r.2.1.Size,li r.2.1.Reg,li r.2.1.Ea.Mode,li r.2.1.Ea.Reg,li r.2.1.Ea.Ext,li r.2.1.Sub]),(.one (li r.2.2.1)),(.one (li r.2.2.2.1)),(.agg [li r.2.2.2.2.Vector,li r.2.2.2.2.PC,li r.2.2.2.2.Addr,li r.2.2.2.2.Word, .lit (.bool r.2.2.2.2.Write)])]),[.box [.sl 1 0 (ln r.1.R.D), .sl 2 0 (ln r.1.R.A),li r.1.R.Other,li r.1.R.PC,li r.1.R.Flags,li r.1.R.Mask, .lit (.bool r.1.R.Super), .lit (.bool r.1.R.Trace), .sl 3 0 (ln r.1.Bus.Bytes), .sl 4 0 (ln r.1.Bus.Log), .lit (.bool r.1.Stop), .lit (.bool r.1.Halt)], .lst 1 r.1.R.D, .lst 1 r.1.R.A, .lst 1 r.1.Bus.Bytes, .lst 5 r.1.Bus.Log])
def q229:=aZB (fun a=>bYG a (K1 a)) bPY
theorem b61:cD 229 q229:=aCH fun a hk=>tc a6L (IU a) (bYG a) hk
def Q229:=aX 229 q229 Q86
theorem aSR:QO Q229:=aB b61 a6L
def a6M(a:aN):Pt (List Row):=(ot (ot (.ok ((a57 a.Ea.Mode)&&true) (.br (a56 a.Ea.Mode) (ot (ot (ot (.leaf [(aL (aV (aV (aV (aV (aV (cX a.Op 2048) (cX (cF a.Size 1) 1024)) (cX a.Reg 256)) (cX a.Ea.Mode 32)) (cX a.Ea.Reg 8)) a.Sub)),(aL a.Ea.Ext)])))) (ot (ot (.leaf [(aL (aV (aV (aV (aV (aV (cX a.Op 2048) (cX (cF a.Size 1) 1024)) (cX a.Reg 256)) (cX a.Ea.Mode 32)) (cX a.Ea.Reg 8)) a.Sub))])))))))
def TO(a:aN):List Row:=hid (a6M a).val
def bHS(a:aN):Bool:=hid (a6M a).okv
def q139:=DS7 (fun a=>bE7 a (TO a)) bHS
theorem b62:cD 139 q139:=OV fun a hk=>tc aSR (a6M a) (bE7 a) hk
def Q139:=aX 139 q139 Q229
theorem aSS:QO Q139:=aB b62 aSR
def a6N(a:aN):Pt (Bool):=(ot (ot (ot (ot (.leaf (bif (bif (eqI a.Op 15)then(bif (eqI a.Sub 1)then true else(eqI a.Sub 3))else false)then true else(bif (eqI a.Op 19)then(eqI a.Sub 0)else false)))))))
def bPZ(a:aN):Bool:=hid (a6N a).val
def bP0(a:aN):Bool:=hid (a6N a).okv
def q238:=DS7 (fun a=>n91 a (bPZ a)) bP0
theorem b63:cD 100238 q238:=OV fun a hk=>tz aSS (a6N a) (n91 a) hk
def Q238:=aX 100238 q238 Q139
theorem aST:QO Q238:=aB b63 aSS
def b64(b:Int)(c:Int)(a:bD)(x0_fc:aD):List SV:=[(.one (.ptr 0 0 0)),(.one (li b)),(.one (li c))]
def b65(b:Int)(c:Int)(a:bD)(x0_fc:aD):List Blk:=[.box [.ptr 1 0 0,li a.fx.Op,li a.fx.Size,li a.fx.Reg,li a.fx.Ea.Mode,li a.fx.Ea.Reg,li a.fx.Ea.Ext,li a.fx.Sub,li a.fpc,li a.fword,li a.ffault.Vector,li a.ffault.PC,li a.ffault.Addr,li a.ffault.Word, .lit (.bool a.ffault.Write)], .box [.sl 2 0 (ln x0_fc.R.D), .sl 3 0 (ln x0_fc.R.A),li x0_fc.R.Other,li x0_fc.R.PC,li x0_fc.R.Flags,li x0_fc.R.Mask, .lit (.bool x0_fc.R.Super), .lit (.bool x0_fc.R.Trace), .sl 4 0 (ln x0_fc.Bus.Bytes), .sl 5 0 (ln x0_fc.Bus.Log), .lit (.bool x0_fc.Stop), .lit (.bool x0_fc.Halt)], .lst 1 x0_fc.R.D, .lst 1 x0_fc.R.A, .lst 1 x0_fc.Bus.Bytes, .lst 5 x0_fc.Bus.Log]
def a6O(N:Int→Int→bD→aD→SV×List Blk)(K:Int→Int→bD→aD→Bool):List SV→List Blk→Option ((SV×List Blk)×Bool)
 |[(.one (.ptr 0 0 0)),(.one (li c0)),(.one (li c1))],[.box [.ptr 1 0 0,li c2,li c3,li c4,li c5,li c6,li c7,li c8,li c9,li c10,li c11,li c12,li c13,li c14, .lit (.bool c15)], .box [.sl 2 0 l2, .sl 3 0 l3,li c16,li c17,li c18,li c19, .lit (.bool c20), .lit (.bool c21), .sl 4 0 l4, .sl 5 0 l5, .lit (.bool c22), .lit (.bool c23)], .lst 1 c_2, .lst 1 c_3, .lst 1 c_4, .lst 5 c_5]=>some (N c0 c1 (bD.mk (aN.mk c2 c3 c4 (aC.mk c5 c6 c7) c8) c9 c10 (aH.mk c11 c12 c13 c14 c15)) (aD.mk (aE.mk c_2 c_3 c16 c17 c18 c19 c20 c21) (bC.mk c_4 c_5) c22 c23),cV l2 (ln c_2)&&(cV l3 (ln c_3)&&(cV l4 (ln c_4)&&(cV l5 (ln c_5)&&(K c0 c1 (bD.mk (aN.mk c2 c3 c4 (aC.mk c5 c6 c7) c8) c9 c10 (aH.mk c11 c12 c13 c14 c15)) (aD.mk (aE.mk c_2 c_3 c16 c17 c18 c19 c20 c21) (bC.mk c_4 c_5) c22 c23))))))
 |_,_=>none
theorem aL3{N:Int→Int→bD→aD→SV×List Blk}{K:Int→Int→bD→aD→Bool}{f:Nat}(h: ∀(b:Int)(c:Int)(a:bD)(x0_fc:aD),K b c a x0_fc=true→cY R f (b64 b c a x0_fc) (b65 b c a x0_fc)=some (N b c a x0_fc)):cD f (a6O N K):=fun args hp r e=>by
 unfold a6O at e;split at e
 ·rename_i c0 c1 c2 c3 c4 c5 c6 c7 c8 c9 c10 c11 c12 c13 c14 c15 l2 l3 c16 c17 c18 c19 c20 c21 l4 l5 c22 c23 c_2 c_3 c_4 c_5;obtain⟨hr,hk⟩:=qp (qi e);obtain⟨d0,hk0⟩:=aS hk;obtain⟨d1,hk1⟩:=aS hk0;obtain⟨d2,hk2⟩:=aS hk1;obtain⟨d3,hk3⟩:=aS hk2;obtain rfl:=of_decide_eq_true d0;obtain rfl:=of_decide_eq_true d1;obtain rfl:=of_decide_eq_true d2;obtain rfl:=of_decide_eq_true d3;rw[←hr];exact h c0 c1 (bD.mk (aN.mk c2 c3 c4 (aC.mk c5 c6 c7) c8) c9 c10 (aH.mk c11 c12 c13 c14 c15)) (aD.mk (aE.mk c_2 c_3 c16 c17 c18 c19 c20 c21) (bC.mk c_4 c_5) c22 c23) hk3
 ·simp at e
section
variable(x0_fc:aD)
def aL4:Bool:=(((aI x0_fc true)&&(aI x0_fc true))&&true)
end
def a6P(b:Int)(c:Int)(a:bD)(x0_fc:aD):Pt (bD):=(ot (.br (eqI a.ffault.Vector 0) (ot (.ok (aL4 x0_fc) (.leaf {a with ffault:=(aH.mk b c 0 a.fword false)}))) (.ok (aL4 x0_fc) (.leaf a))))
def aL5(b:Int)(c:Int)(a:bD)(x0_fc:aD):bD:=hid (a6P b c a x0_fc).val
def aL6(b:Int)(c:Int)(a:bD)(x0_fc:aD):Bool:=hid (a6P b c a x0_fc).okv
def bYH(b:Int)(c:Int)(a:bD)(x0_fc:aD)(r:bD):SV×List Blk:=((.tup []),[.box [.ptr 1 0 0,li r.fx.Op,li r.fx.Size,li r.fx.Reg,li r.fx.Ea.Mode,li r.fx.Ea.Reg,li r.fx.Ea.Ext,li r.fx.Sub,li r.fpc,li r.fword,li r.ffault.Vector,li r.ffault.PC,li r.ffault.Addr,li r.ffault.Word, .lit (.bool r.ffault.Write)], .box [.sl 2 0 (ln x0_fc.R.D), .sl 3 0 (ln x0_fc.R.A),li x0_fc.R.Other,li x0_fc.R.PC,li x0_fc.R.Flags,li x0_fc.R.Mask, .lit (.bool x0_fc.R.Super), .lit (.bool x0_fc.R.Trace), .sl 4 0 (ln x0_fc.Bus.Bytes), .sl 5 0 (ln x0_fc.Bus.Log), .lit (.bool x0_fc.Stop), .lit (.bool x0_fc.Halt)], .lst 1 x0_fc.R.D, .lst 1 x0_fc.R.A, .lst 1 x0_fc.Bus.Bytes, .lst 5 x0_fc.Bus.Log])
def q239:=a6O (fun b c a x0_fc=>bYH b c a x0_fc (aL5 b c a x0_fc)) aL6
theorem b66:cD 50239 q239:=aL3 fun b c a x0_fc hk=>tck aST (a6P b c a x0_fc) (bYH b c a x0_fc) hk
def Q239:=aX 50239 q239 Q238
theorem aSU:QO Q239:=aB b66 aST
def b67(a:bD)(x0_fc:aD):List SV:=[(.one (.ptr 0 0 0))]
def b68(a:bD)(x0_fc:aD):List Blk:=[.box [.ptr 1 0 0,li a.fx.Op,li a.fx.Size,li a.fx.Reg,li a.fx.Ea.Mode,li a.fx.Ea.Reg,li a.fx.Ea.Ext,li a.fx.Sub,li a.fpc,li a.fword,li a.ffault.Vector,li a.ffault.PC,li a.ffault.Addr,li a.ffault.Word, .lit (.bool a.ffault.Write)], .box [.sl 2 0 (ln x0_fc.R.D), .sl 3 0 (ln x0_fc.R.A),li x0_fc.R.Other,li x0_fc.R.PC,li x0_fc.R.Flags,li x0_fc.R.Mask, .lit (.bool x0_fc.R.Super), .lit (.bool x0_fc.R.Trace), .sl 4 0 (ln x0_fc.Bus.Bytes), .sl 5 0 (ln x0_fc.Bus.Log), .lit (.bool x0_fc.Stop), .lit (.bool x0_fc.Halt)], .lst 1 x0_fc.R.D, .lst 1 x0_fc.R.A, .lst 1 x0_fc.Bus.Bytes, .lst 5 x0_fc.Bus.Log]
def M3(N:bD→aD→SV×List Blk)(K:bD→aD→Bool):List SV→List Blk→Option ((SV×List Blk)×Bool)
 |[(.one (.ptr 0 0 0))],[.box [.ptr 1 0 0,li c0,li c1,li c2,li c3,li c4,li c5,li c6,li c7,li c8,li c9,li c10,li c11,li c12, .lit (.bool c13)], .box [.sl 2 0 l2, .sl 3 0 l3,li c14,li c15,li c16,li c17, .lit (.bool c18), .lit (.bool c19), .sl 4 0 l4, .sl 5 0 l5, .lit (.bool c20), .lit (.bool c21)], .lst 1 c_2, .lst 1 c_3, .lst 1 c_4, .lst 5 c_5]=>some (N (bD.mk (aN.mk c0 c1 c2 (aC.mk c3 c4 c5) c6) c7 c8 (aH.mk c9 c10 c11 c12 c13)) (aD.mk (aE.mk c_2 c_3 c14 c15 c16 c17 c18 c19) (bC.mk c_4 c_5) c20 c21),cV l2 (ln c_2)&&(cV l3 (ln c_3)&&(cV l4 (ln c_4)&&(cV l5 (ln c_5)&&(K (bD.mk (aN.mk c0 c1 c2 (aC.mk c3 c4 c5) c6) c7 c8 (aH.mk c9 c10 c11 c12 c13)) (aD.mk (aE.mk c_2 c_3 c14 c15 c16 c17 c18 c19) (bC.mk c_4 c_5) c20 c21))))))
 |_,_=>none
theorem wH{N:bD→aD→SV×List Blk}{K:bD→aD→Bool}{f:Nat}(h: ∀(a:bD)(x0_fc:aD),K a x0_fc=true→cY R f (b67 a x0_fc) (b68 a x0_fc)=some (N a x0_fc)):cD f (M3 N K):=fun args hp r e=>by
 unfold M3 at e;split at e
 ·rename_i c0 c1 c2 c3 c4 c5 c6 c7 c8 c9 c10 c11 c12 c13 l2 l3 c14 c15 c16 c17 c18 c19 l4 l5 c20 c21 c_2 c_3 c_4 c_5;obtain⟨hr,hk⟩:=qp (qi e);obtain⟨d0,hk0⟩:=aS hk;obtain⟨d1,hk1⟩:=aS hk0;obtain⟨d2,hk2⟩:=aS hk1;obtain⟨d3,hk3⟩:=aS hk2;obtain rfl:=of_decide_eq_true d0;obtain rfl:=of_decide_eq_true d1;obtain rfl:=of_decide_eq_true d2;obtain rfl:=of_decide_eq_true d3;rw[←hr];exact h (bD.mk (aN.mk c0 c1 c2 (aC.mk c3 c4 c5) c6) c7 c8 (aH.mk c9 c10 c11 c12 c13)) (aD.mk (aE.mk c_2 c_3 c14 c15 c16 c17 c18 c19) (bC.mk c_4 c_5) c20 c21) hk3
 ·simp at e
section
variable(a:bD)
def aL7:Bool:=(((bHS a.fx)&&((lJ (0+(ln (TO a.fx))) (ln (TO a.fx)))&&true))&&true)
def aL8:Int:=(aZ (aV a.fpc (cX 2 (bN (TO a.fx)))) 65535)
end
def a6Q(a:bD)(x0_fc:aD):Pt (Int):=(ot (.ok ((aL7 a)&&((aL7 a)&&(((s1 (aL8 a))&&true)&&((vI a true)&&((i9 x0_fc true)&&(lK x0_fc ((r1 (TO a.fx))&&true))))))) (.ok (((aI x0_fc true)&&(aI x0_fc true))&&true) (.leaf (aL8 a)))))
def aGW(a:bD)(x0_fc:aD):Int:=hid (a6Q a x0_fc).val
def aZC(a:bD)(x0_fc:aD):Bool:=hid (a6Q a x0_fc).okv
def bYI(a:bD)(x0_fc:aD)(r:Int):SV×List Blk:=((.one (li r)),[.box [.ptr 1 0 0,li a.fx.Op,li a.fx.Size,li a.fx.Reg,li a.fx.Ea.Mode,li a.fx.Ea.Reg,li a.fx.Ea.Ext,li a.fx.Sub,li a.fpc,li a.fword,li a.ffault.Vector,li a.ffault.PC,li a.ffault.Addr,li a.ffault.Word, .lit (.bool a.ffault.Write)], .box [.sl 2 0 (ln x0_fc.R.D), .sl 3 0 (ln x0_fc.R.A),li x0_fc.R.Other,li x0_fc.R.PC,li x0_fc.R.Flags,li x0_fc.R.Mask, .lit (.bool x0_fc.R.Super), .lit (.bool x0_fc.R.Trace), .sl 4 0 (ln x0_fc.Bus.Bytes), .sl 5 0 (ln x0_fc.Bus.Log), .lit (.bool x0_fc.Stop), .lit (.bool x0_fc.Halt)], .lst 1 x0_fc.R.D, .lst 1 x0_fc.R.A, .lst 1 x0_fc.Bus.Bytes, .lst 5 x0_fc.Bus.Log])
def q240:=M3 (fun a x0_fc=>bYI a x0_fc (aGW a x0_fc)) aZC
theorem b69:cD 240 q240:=wH fun a x0_fc hk=>tc aSU (a6Q a x0_fc) (bYI a x0_fc) hk
def Q240:=aX 240 q240 Q239
theorem aSV:QO Q240:=aB b69 aSU
def b7A(b:Int)(a:bD)(x0_fc:aD):List SV:=[(.one (.ptr 0 0 0)),(.one (li b))]
def b7B(b:Int)(a:bD)(x0_fc:aD):List Blk:=[.box [.ptr 1 0 0,li a.fx.Op,li a.fx.Size,li a.fx.Reg,li a.fx.Ea.Mode,li a.fx.Ea.Reg,li a.fx.Ea.Ext,li a.fx.Sub,li a.fpc,li a.fword,li a.ffault.Vector,li a.ffault.PC,li a.ffault.Addr,li a.ffault.Word, .lit (.bool a.ffault.Write)], .box [.sl 2 0 (ln x0_fc.R.D), .sl 3 0 (ln x0_fc.R.A),li x0_fc.R.Other,li x0_fc.R.PC,li x0_fc.R.Flags,li x0_fc.R.Mask, .lit (.bool x0_fc.R.Super), .lit (.bool x0_fc.R.Trace), .sl 4 0 (ln x0_fc.Bus.Bytes), .sl 5 0 (ln x0_fc.Bus.Log), .lit (.bool x0_fc.Stop), .lit (.bool x0_fc.Halt)], .lst 1 x0_fc.R.D, .lst 1 x0_fc.R.A, .lst 1 x0_fc.Bus.Bytes, .lst 5 x0_fc.Bus.Log]
def aL9(N:Int→bD→aD→SV×List Blk)(K:Int→bD→aD→Bool):List SV→List Blk→Option ((SV×List Blk)×Bool)
 |[(.one (.ptr 0 0 0)),(.one (li c0))],[.box [.ptr 1 0 0,li c1,li c2,li c3,li c4,li c5,li c6,li c7,li c8,li c9,li c10,li c11,li c12,li c13, .lit (.bool c14)], .box [.sl 2 0 l2, .sl 3 0 l3,li c15,li c16,li c17,li c18, .lit (.bool c19), .lit (.bool c20), .sl 4 0 l4, .sl 5 0 l5, .lit (.bool c21), .lit (.bool c22)], .lst 1 c_2, .lst 1 c_3, .lst 1 c_4, .lst 5 c_5]=>some (N c0 (bD.mk (aN.mk c1 c2 c3 (aC.mk c4 c5 c6) c7) c8 c9 (aH.mk c10 c11 c12 c13 c14)) (aD.mk (aE.mk c_2 c_3 c15 c16 c17 c18 c19 c20) (bC.mk c_4 c_5) c21 c22),cV l2 (ln c_2)&&(cV l3 (ln c_3)&&(cV l4 (ln c_4)&&(cV l5 (ln c_5)&&(K c0 (bD.mk (aN.mk c1 c2 c3 (aC.mk c4 c5 c6) c7) c8 c9 (aH.mk c10 c11 c12 c13 c14)) (aD.mk (aE.mk c_2 c_3 c15 c16 c17 c18 c19 c20) (bC.mk c_4 c_5) c21 c22))))))
 |_,_=>none
theorem TP{N:Int→bD→aD→SV×List Blk}{K:Int→bD→aD→Bool}{f:Nat}(h: ∀(b:Int)(a:bD)(x0_fc:aD),K b a x0_fc=true→cY R f (b7A b a x0_fc) (b7B b a x0_fc)=some (N b a x0_fc)):cD f (aL9 N K):=fun args hp r e=>by
 unfold aL9 at e;split at e
 ·rename_i c0 c1 c2 c3 c4 c5 c6 c7 c8 c9 c10 c11 c12 c13 c14 l2 l3 c15 c16 c17 c18 c19 c20 l4 l5 c21 c22 c_2 c_3 c_4 c_5;obtain⟨hr,hk⟩:=qp (qi e);obtain⟨d0,hk0⟩:=aS hk;obtain⟨d1,hk1⟩:=aS hk0;obtain⟨d2,hk2⟩:=aS hk1;obtain⟨d3,hk3⟩:=aS hk2;obtain rfl:=of_decide_eq_true d0;obtain rfl:=of_decide_eq_true d1;obtain rfl:=of_decide_eq_true d2;obtain rfl:=of_decide_eq_true d3;rw[←hr];exact h c0 (bD.mk (aN.mk c1 c2 c3 (aC.mk c4 c5 c6) c7) c8 c9 (aH.mk c10 c11 c12 c13 c14)) (aD.mk (aE.mk c_2 c_3 c15 c16 c17 c18 c19 c20) (bC.mk c_4 c_5) c21 c22) hk3
 ·simp at e
def a6R(b:Int)(a:bD)(x0_fc:aD):Pt (Int):=(ot (.ok (((leI 0 b)&&(ltI b (bN x0_fc.R.D)))&&((dO [.int .i64] x0_fc.R.D (0+(iN b)) 0)&&((DP a.fx.Size)&&true))) (.ok (((aI x0_fc true)&&(aI x0_fc true))&&true) (.leaf (aZ (bF x0_fc.R.D (0+(iN b)) 0) (cF (pW a.fx.Size) 1))))))
def aGX(b:Int)(a:bD)(x0_fc:aD):Int:=hid (a6R b a x0_fc).val
def aGY(b:Int)(a:bD)(x0_fc:aD):Bool:=hid (a6R b a x0_fc).okv
def bYJ(b:Int)(a:bD)(x0_fc:aD)(r:Int):SV×List Blk:=((.one (li r)),[.box [.ptr 1 0 0,li a.fx.Op,li a.fx.Size,li a.fx.Reg,li a.fx.Ea.Mode,li a.fx.Ea.Reg,li a.fx.Ea.Ext,li a.fx.Sub,li a.fpc,li a.fword,li a.ffault.Vector,li a.ffault.PC,li a.ffault.Addr,li a.ffault.Word, .lit (.bool a.ffault.Write)], .box [.sl 2 0 (ln x0_fc.R.D), .sl 3 0 (ln x0_fc.R.A),li x0_fc.R.Other,li x0_fc.R.PC,li x0_fc.R.Flags,li x0_fc.R.Mask, .lit (.bool x0_fc.R.Super), .lit (.bool x0_fc.R.Trace), .sl 4 0 (ln x0_fc.Bus.Bytes), .sl 5 0 (ln x0_fc.Bus.Log), .lit (.bool x0_fc.Stop), .lit (.bool x0_fc.Halt)], .lst 1 x0_fc.R.D, .lst 1 x0_fc.R.A, .lst 1 x0_fc.Bus.Bytes, .lst 5 x0_fc.Bus.Log])
def q287:=aL9 (fun b a x0_fc=>bYJ b a x0_fc (aGX b a x0_fc)) aGY
theorem b7C:cD 50287 q287:=TP fun b a x0_fc hk=>tck aSV (a6R b a x0_fc) (bYJ b a x0_fc) hk
def Q287:=aX 50287 q287 Q240
theorem aSW:QO Q287:=aB b7C aSV
def b7D(b:Int)(c:aC)(a:aE):List SV:=[(.one (.ptr 0 0 0)),(.one (li b)),(.agg [li c.Mode,li c.Reg,li c.Ext])]
def b7E(b:Int)(c:aC)(a:aE):List Blk:=[.box [.sl 1 0 (ln a.D), .sl 2 0 (ln a.A),li a.Other,li a.PC,li a.Flags,li a.Mask, .lit (.bool a.Super), .lit (.bool a.Trace)], .lst 1 a.D, .lst 1 a.A]
def bP1(N:Int→aC→aE→SV×List Blk)(K:Int→aC→aE→Bool):List SV→List Blk→Option ((SV×List Blk)×Bool)
 |[(.one (.ptr 0 0 0)),(.one (li c0)),(.agg [li c1,li c2,li c3])],[.box [.sl 1 0 l1, .sl 2 0 l2,li c4,li c5,li c6,li c7, .lit (.bool c8), .lit (.bool c9)], .lst 1 c_1, .lst 1 c_2]=>some (N c0 (aC.mk c1 c2 c3) (aE.mk c_1 c_2 c4 c5 c6 c7 c8 c9),cV l1 (ln c_1)&&(cV l2 (ln c_2)&&(K c0 (aC.mk c1 c2 c3) (aE.mk c_1 c_2 c4 c5 c6 c7 c8 c9))))
 |_,_=>none
theorem bP2{N:Int→aC→aE→SV×List Blk}{K:Int→aC→aE→Bool}{f:Nat}(h: ∀(b:Int)(c:aC)(a:aE),K b c a=true→cY R f (b7D b c a) (b7E b c a)=some (N b c a)):cD f (bP1 N K):=fun args hp r e=>by
 unfold bP1 at e;split at e
 ·rename_i c0 c1 c2 c3 l1 l2 c4 c5 c6 c7 c8 c9 c_1 c_2;obtain⟨hr,hk⟩:=qp (qi e);obtain⟨d0,hk0⟩:=aS hk;obtain⟨d1,hk1⟩:=aS hk0;obtain rfl:=of_decide_eq_true d0;obtain rfl:=of_decide_eq_true d1;rw[←hr];exact h c0 (aC.mk c1 c2 c3) (aE.mk c_1 c_2 c4 c5 c6 c7 c8 c9) hk1
 ·simp at e
section
variable(b:Int)(c:aC)(a:aE)
def TQ:Bool:=((leI 0 c.Reg)&&(ltI c.Reg (bN a.A)))
def aMA:Bool:=(dO [.int .i64] a.A (0+(iN c.Reg)) 0)
def aCI:Bool:=((TQ c a)&&((aMA c a)&&true))
def aCJ:Bool:=(dd (aK a true) ((aK a true)&&true))
def aMB:Bool:=((TQ c a)&&(((blt (0+(iN c.Reg)) (ln a.A))&&(jW (jX a.A (0+(iN c.Reg))) 1))&&true))
def aMC:List Row:=(List.set a.A (0+(iN c.Reg)) (aL (aZ (aV (bF a.A (0+(iN c.Reg)) 0) (bif (eqI c.Reg 3)then 2 else b)) 65535)))
def aMD:Bool:=((e1 (ln a.D))&&((cV (ln a.A) (ln (aMC b c a)))&&true))
def TR:List Row:=(List.set a.A (0+(iN c.Reg)) (aL (aZ (cF (bF a.A (0+(iN c.Reg)) 0) (bif (eqI c.Reg 3)then 2 else b)) 65535)))
def aME:Bool:=((e1 (ln a.D))&&((cV (ln a.A) (ln (TR b c a)))&&true))
end
def a6S(b:Int)(c:aC)(a:aE):Pt (aE×Int):=(ot (ot (ot (ot (ot (ot (.br (eqI c.Mode 2) (.ok (aCI c a) (.ok (aCJ a) (.leaf (a,(bF a.A (0+(iN c.Reg)) 0))))) (ot (.br (eqI c.Mode 3) (.ok (aCI c a) (.ok ((aMB c a)&&true) (ot (.ok ((((aK a true)&&(aMD b c a))&&true)&&((aMD b c a)&&true)) (.leaf ({a with A:=(aMC b c a)},(bF a.A (0+(iN c.Reg)) 0))))))) (ot (.br (eqI c.Mode 4) (.ok (((TQ c a)&&((aMA c a)&&(aMB c a)))&&true) (.ok ((TQ c a)&&((dO [.int .i64] (TR b c a) (0+(iN c.Reg)) 0)&&true)) (.ok ((((aK a true)&&(aME b c a))&&true)&&((aME b c a)&&true)) (.leaf ({a with A:=(TR b c a)},(bF (TR b c a) (0+(iN c.Reg)) 0)))))) (ot (.br (eqI c.Mode 5) (.ok (aCI c a) (.ok (aCJ a) (.leaf (a,(aZ (aV (bF a.A (0+(iN c.Reg)) 0) c.Ext) 65535))))) (ot (.ok (aCJ a) (.leaf (a,c.Ext)))))))))))))))))
def aMF(b:Int)(c:aC)(a:aE):aE×Int:=hid (a6S b c a).val
def aMG(b:Int)(c:aC)(a:aE):Bool:=hid (a6S b c a).okv
def bYK(b:Int)(c:aC)(a:aE)(r:aE×Int):SV×List Blk:=((.one (li r.2)),[.box [.sl 1 0 (ln r.1.D), .sl 2 0 (ln r.1.A),li r.1.Other,li r.1.PC,li r.1.Flags,li r.1.Mask, .lit (.bool r.1.Super), .lit (.bool r.1.Trace)], .lst 1 r.1.D, .lst 1 r.1.A])
def q284:=bP1 (fun b c a=>bYK b c a (aMF b c a)) aMG
theorem b7F:cD 50284 q284:=bP2 fun b c a hk=>bW3 aSW [(1000001,[])] [] true (a6S b c a) (bYK b c a) hk
def Q284:=aX 50284 q284 Q287
theorem aSX:QO Q284:=aB b7F aSW
def b7G(b:Int)(c:Int)(d:Bool)(a:bD)(x0_fc:aD):List SV:=[(.one (.ptr 0 0 0)),(.one (li b)),(.one (li c)),(.one (.lit (.bool d)))]
def b7H(b:Int)(c:Int)(d:Bool)(a:bD)(x0_fc:aD):List Blk:=[.box [.ptr 1 0 0,li a.fx.Op,li a.fx.Size,li a.fx.Reg,li a.fx.Ea.Mode,li a.fx.Ea.Reg,li a.fx.Ea.Ext,li a.fx.Sub,li a.fpc,li a.fword,li a.ffault.Vector,li a.ffault.PC,li a.ffault.Addr,li a.ffault.Word, .lit (.bool a.ffault.Write)], .box [.sl 2 0 (ln x0_fc.R.D), .sl 3 0 (ln x0_fc.R.A),li x0_fc.R.Other,li x0_fc.R.PC,li x0_fc.R.Flags,li x0_fc.R.Mask, .lit (.bool x0_fc.R.Super), .lit (.bool x0_fc.R.Trace), .sl 4 0 (ln x0_fc.Bus.Bytes), .sl 5 0 (ln x0_fc.Bus.Log), .lit (.bool x0_fc.Stop), .lit (.bool x0_fc.Halt)], .lst 1 x0_fc.R.D, .lst 1 x0_fc.R.A, .lst 1 x0_fc.Bus.Bytes, .lst 5 x0_fc.Bus.Log]
def bP3(N:Int→Int→Bool→bD→aD→SV×List Blk)(K:Int→Int→Bool→bD→aD→Bool):List SV→List Blk→Option ((SV×List Blk)×Bool)
 |[(.one (.ptr 0 0 0)),(.one (li c0)),(.one (li c1)),(.one (.lit (.bool c2)))],[.box [.ptr 1 0 0,li c3,li c4,li c5,li c6,li c7,li c8,li c9,li c10,li c11,li c12,li c13,li c14,li c15, .lit (.bool c16)], .box [.sl 2 0 l2, .sl 3 0 l3,li c17,li c18,li c19,li c20, .lit (.bool c21), .lit (.bool c22), .sl 4 0 l4, .sl 5 0 l5, .lit (.bool c23), .lit (.bool c24)], .lst 1 c_2, .lst 1 c_3, .lst 1 c_4, .lst 5 c_5]=>some (N c0 c1 c2 (bD.mk (aN.mk c3 c4 c5 (aC.mk c6 c7 c8) c9) c10 c11 (aH.mk c12 c13 c14 c15 c16)) (aD.mk (aE.mk c_2 c_3 c17 c18 c19 c20 c21 c22) (bC.mk c_4 c_5) c23 c24),cV l2 (ln c_2)&&(cV l3 (ln c_3)&&(cV l4 (ln c_4)&&(cV l5 (ln c_5)&&(K c0 c1 c2 (bD.mk (aN.mk c3 c4 c5 (aC.mk c6 c7 c8) c9) c10 c11 (aH.mk c12 c13 c14 c15 c16)) (aD.mk (aE.mk c_2 c_3 c17 c18 c19 c20 c21 c22) (bC.mk c_4 c_5) c23 c24))))))
 |_,_=>none
theorem bP4{N:Int→Int→Bool→bD→aD→SV×List Blk}{K:Int→Int→Bool→bD→aD→Bool}{f:Nat}(h: ∀(b:Int)(c:Int)(d:Bool)(a:bD)(x0_fc:aD),K b c d a x0_fc=true→cY R f (b7G b c d a x0_fc) (b7H b c d a x0_fc)=some (N b c d a x0_fc)):cD f (bP3 N K):=fun args hp r e=>by
 unfold bP3 at e;split at e
 ·rename_i c0 c1 c2 c3 c4 c5 c6 c7 c8 c9 c10 c11 c12 c13 c14 c15 c16 l2 l3 c17 c18 c19 c20 c21 c22 l4 l5 c23 c24 c_2 c_3 c_4 c_5;obtain⟨hr,hk⟩:=qp (qi e);obtain⟨d0,hk0⟩:=aS hk;obtain⟨d1,hk1⟩:=aS hk0;obtain⟨d2,hk2⟩:=aS hk1;obtain⟨d3,hk3⟩:=aS hk2;obtain rfl:=of_decide_eq_true d0;obtain rfl:=of_decide_eq_true d1;obtain rfl:=of_decide_eq_true d2;obtain rfl:=of_decide_eq_true d3;rw[←hr];exact h c0 c1 c2 (bD.mk (aN.mk c3 c4 c5 (aC.mk c6 c7 c8) c9) c10 c11 (aH.mk c12 c13 c14 c15 c16)) (aD.mk (aE.mk c_2 c_3 c17 c18 c19 c20 c21 c22) (bC.mk c_4 c_5) c23 c24) hk3
 ·simp at e
section
variable(b:Int)(a:bD)(x0_fc:aD)
def aMH:Bool:=(((aI x0_fc true)&&(aI x0_fc true))&&true)
def aMI:bD:=(aL5 (aY8 b) a.fpc a x0_fc)
end
def a6T(b:Int)(c:Int)(d:Bool)(a:bD)(x0_fc:aD):Pt (bD):=(ot (.br (bif (eqI b 0)then true else(cU a.ffault.Vector 0)) (.ok (aMH x0_fc) (.leaf a)) (.ok (((a54 b)&&((cC x0_fc (aL6 (aY8 b) a.fpc a x0_fc))&&true))&&true) (ot (.ok (aMH x0_fc) (.leaf {(aMI b a x0_fc)with ffault:={(aMI b a x0_fc).ffault with Addr:=c,Write:=d}}))))))
def aZD(b:Int)(c:Int)(d:Bool)(a:bD)(x0_fc:aD):bD:=hid (a6T b c d a x0_fc).val
def aZE(b:Int)(c:Int)(d:Bool)(a:bD)(x0_fc:aD):Bool:=hid (a6T b c d a x0_fc).okv
def bYL(b:Int)(c:Int)(d:Bool)(a:bD)(x0_fc:aD)(r:bD):SV×List Blk:=((.tup []),[.box [.ptr 1 0 0,li r.fx.Op,li r.fx.Size,li r.fx.Reg,li r.fx.Ea.Mode,li r.fx.Ea.Reg,li r.fx.Ea.Ext,li r.fx.Sub,li r.fpc,li r.fword,li r.ffault.Vector,li r.ffault.PC,li r.ffault.Addr,li r.ffault.Word, .lit (.bool r.ffault.Write)], .box [.sl 2 0 (ln x0_fc.R.D), .sl 3 0 (ln x0_fc.R.A),li x0_fc.R.Other,li x0_fc.R.PC,li x0_fc.R.Flags,li x0_fc.R.Mask, .lit (.bool x0_fc.R.Super), .lit (.bool x0_fc.R.Trace), .sl 4 0 (ln x0_fc.Bus.Bytes), .sl 5 0 (ln x0_fc.Bus.Log), .lit (.bool x0_fc.Stop), .lit (.bool x0_fc.Halt)], .lst 1 x0_fc.R.D, .lst 1 x0_fc.R.A, .lst 1 x0_fc.Bus.Bytes, .lst 5 x0_fc.Bus.Log])
def q354:=bP3 (fun b c d a x0_fc=>bYL b c d a x0_fc (aZD b c d a x0_fc)) aZE
theorem b7I:cD 50354 q354:=bP4 fun b c d a x0_fc hk=>tck aSX (a6T b c d a x0_fc) (bYL b c d a x0_fc) hk
def Q354:=aX 50354 q354 Q284
theorem aSY:QO Q354:=aB b7I aSX
section
variable(b:Int)(a:bD)(x0_fc:aD)
def IV:bC×Int×Int:=(K0 1 a.fx.Size b 0 x0_fc.Bus)
def aCK:Bool:=(aK x0_fc.R (bI (IV b a x0_fc).1 true))
def aCL:aD:={x0_fc with Bus:=(IV b a x0_fc).1}
end
def a6U(b:Int)(a:bD)(x0_fc:aD):Pt (bD×aD×Int):=(ot (.ok (((sD x0_fc.Bus (IQ 1 a.fx.Size b 0 x0_fc.Bus))&&true)&&true) (.ok ((dd (aCK b a x0_fc) (aK x0_fc.R (bI (IV b a x0_fc).1 (aZE (IV b a x0_fc).2.2 b false a (aCL b a x0_fc)))))&&true) (ot (.ok (((aCK b a x0_fc)&&(aCK b a x0_fc))&&true) (.leaf ((aZD (IV b a x0_fc).2.2 b false a (aCL b a x0_fc)),(aCL b a x0_fc),(IV b a x0_fc).2.1)))))))
def kT(b:Int)(a:bD)(x0_fc:aD):bD×aD×Int:=hid (a6U b a x0_fc).val
def a6V(b:Int)(a:bD)(x0_fc:aD):Bool:=hid (a6U b a x0_fc).okv
def bYM(b:Int)(a:bD)(x0_fc:aD)(r:bD×aD×Int):SV×List Blk:=((.one (li r.2.2)),[.box [.ptr 1 0 0,li r.1.fx.Op,li r.1.fx.Size,li r.1.fx.Reg,li r.1.fx.Ea.Mode,li r.1.fx.Ea.Reg,li r.1.fx.Ea.Ext,li r.1.fx.Sub,li r.1.fpc,li r.1.fword,li r.1.ffault.Vector,li r.1.ffault.PC,li r.1.ffault.Addr,li r.1.ffault.Word, .lit (.bool r.1.ffault.Write)], .box [.sl 2 0 (ln r.2.1.R.D), .sl 3 0 (ln r.2.1.R.A),li r.2.1.R.Other,li r.2.1.R.PC,li r.2.1.R.Flags,li r.2.1.R.Mask, .lit (.bool r.2.1.R.Super), .lit (.bool r.2.1.R.Trace), .sl 4 0 (ln r.2.1.Bus.Bytes), .sl 5 0 (ln r.2.1.Bus.Log), .lit (.bool r.2.1.Stop), .lit (.bool r.2.1.Halt)], .lst 1 r.2.1.R.D, .lst 1 r.2.1.R.A, .lst 1 r.2.1.Bus.Bytes, .lst 5 r.2.1.Bus.Log])
def q331:=aL9 (fun b a x0_fc=>bYM b a x0_fc (kT b a x0_fc)) a6V
theorem b7J:cD 50331 q331:=TP fun b a x0_fc hk=>tck aSY (a6U b a x0_fc) (bYM b a x0_fc) hk
def Q331:=aX 50331 q331 Q354
theorem aSZ:QO Q331:=aB b7J aSY
section
variable(a:bD)(x0_fc:aD)
def aCM:Bool:=(((aI x0_fc true)&&(aI x0_fc true))&&true)
def IW:aE×Int:=(aMF a.fx.Size a.fx.Ea x0_fc.R)
def M4:bD×aD×Int:=(kT (IW a x0_fc).2 a {x0_fc with R:=(IW a x0_fc).1})
end
def a6W(a:bD)(x0_fc:aD):Pt (bD×aD×Int):=(ot (ot (ot (ot (.br (eqI a.fx.Ea.Mode 0) (.ok ((cC x0_fc (aGY a.fx.Ea.Reg a x0_fc))&&true) (.ok (aCM x0_fc) (.leaf (a,x0_fc,(aGX a.fx.Ea.Reg a x0_fc))))) (ot (.br (eqI a.fx.Ea.Mode 1) (.ok (((leI 0 a.fx.Ea.Reg)&&(ltI a.fx.Ea.Reg (bN x0_fc.R.A)))&&((dO [.int .i64] x0_fc.R.A (0+(iN a.fx.Ea.Reg)) 0)&&true)) (.ok (aCM x0_fc) (.leaf (a,x0_fc,(bF x0_fc.R.A (0+(iN a.fx.Ea.Reg)) 0))))) (ot (.br (eqI a.fx.Ea.Mode 7) (ot (.ok (aCM x0_fc) (.leaf (a,x0_fc,a.fx.Ea.Ext)))) (.ok (((hX x0_fc.R (aMG a.fx.Size a.fx.Ea x0_fc.R))&&((dd (aK (IW a x0_fc).1 (bI x0_fc.Bus true)) (aK (IW a x0_fc).1 (bI x0_fc.Bus (a6V (IW a x0_fc).2 a {x0_fc with R:=(IW a x0_fc).1}))))&&true))&&true) (.ok (((aI (M4 a x0_fc).2.1 true)&&(aI (M4 a x0_fc).2.1 true))&&true) (.leaf ((M4 a x0_fc).1,(M4 a x0_fc).2.1,(M4 a x0_fc).2.2)))))))))))))
def cN(a:bD)(x0_fc:aD):bD×aD×Int:=hid (a6W a x0_fc).val
def aZF(a:bD)(x0_fc:aD):Bool:=hid (a6W a x0_fc).okv
def bHT(a:bD)(x0_fc:aD)(r:bD×aD×Int):SV×List Blk:=((.one (li r.2.2)),[.box [.ptr 1 0 0,li r.1.fx.Op,li r.1.fx.Size,li r.1.fx.Reg,li r.1.fx.Ea.Mode,li r.1.fx.Ea.Reg,li r.1.fx.Ea.Ext,li r.1.fx.Sub,li r.1.fpc,li r.1.fword,li r.1.ffault.Vector,li r.1.ffault.PC,li r.1.ffault.Addr,li r.1.ffault.Word, .lit (.bool r.1.ffault.Write)], .box [.sl 2 0 (ln r.2.1.R.D), .sl 3 0 (ln r.2.1.R.A),li r.2.1.R.Other,li r.2.1.R.PC,li r.2.1.R.Flags,li r.2.1.R.Mask, .lit (.bool r.2.1.R.Super), .lit (.bool r.2.1.R.Trace), .sl 4 0 (ln r.2.1.Bus.Bytes), .sl 5 0 (ln r.2.1.Bus.Log), .lit (.bool r.2.1.Stop), .lit (.bool r.2.1.Halt)], .lst 1 r.2.1.R.D, .lst 1 r.2.1.R.A, .lst 1 r.2.1.Bus.Bytes, .lst 5 r.2.1.Bus.Log])
def q283:=M3 (fun a x0_fc=>bHT a x0_fc (cN a x0_fc)) aZF
theorem b7K:cD 50283 q283:=wH fun a x0_fc hk=>tck aSZ (a6W a x0_fc) (bHT a x0_fc) hk
def Q283:=aX 50283 q283 Q331
theorem aS0:QO Q283:=aB b7K aSZ
def b7L(b:Int)(c:Int)(d:Int)(a:aE):List SV:=[(.one (.ptr 0 0 0)),(.one (li b)),(.one (li c)),(.one (li d))]
def b7M(b:Int)(c:Int)(d:Int)(a:aE):List Blk:=[.box [.sl 1 0 (ln a.D), .sl 2 0 (ln a.A),li a.Other,li a.PC,li a.Flags,li a.Mask, .lit (.bool a.Super), .lit (.bool a.Trace)], .lst 1 a.D, .lst 1 a.A]
def bP5(N:Int→Int→Int→aE→SV×List Blk)(K:Int→Int→Int→aE→Bool):List SV→List Blk→Option ((SV×List Blk)×Bool)
 |[(.one (.ptr 0 0 0)),(.one (li c0)),(.one (li c1)),(.one (li c2))],[.box [.sl 1 0 l1, .sl 2 0 l2,li c3,li c4,li c5,li c6, .lit (.bool c7), .lit (.bool c8)], .lst 1 c_1, .lst 1 c_2]=>some (N c0 c1 c2 (aE.mk c_1 c_2 c3 c4 c5 c6 c7 c8),cV l1 (ln c_1)&&(cV l2 (ln c_2)&&(K c0 c1 c2 (aE.mk c_1 c_2 c3 c4 c5 c6 c7 c8))))
 |_,_=>none
theorem bP6{N:Int→Int→Int→aE→SV×List Blk}{K:Int→Int→Int→aE→Bool}{f:Nat}(h: ∀(b:Int)(c:Int)(d:Int)(a:aE),K b c d a=true→cY R f (b7L b c d a) (b7M b c d a)=some (N b c d a)):cD f (bP5 N K):=fun args hp r e=>by
 unfold bP5 at e;split at e
 ·rename_i c0 c1 c2 l1 l2 c3 c4 c5 c6 c7 c8 c_1 c_2;obtain⟨hr,hk⟩:=qp (qi e);obtain⟨d0,hk0⟩:=aS hk;obtain⟨d1,hk1⟩:=aS hk0;obtain rfl:=of_decide_eq_true d0;obtain rfl:=of_decide_eq_true d1;rw[←hr];exact h c0 c1 c2 (aE.mk c_1 c_2 c3 c4 c5 c6 c7 c8) hk1
 ·simp at e
section
variable(b:Int)(c:Int)(d:Int)(a:aE)
def aMJ:List Row:=(List.set a.D (0+(iN c)) (aL (bif (eqI b 1)then(eT d (fX (bF a.D (0+(iN c)) 0) 255))else d)))
def aMK:Bool:=((cV (ln a.D) (ln (aMJ b c d a)))&&((e1 (ln a.A))&&true))
end
def a6X(b:Int)(c:Int)(d:Int)(a:aE):Pt (aE):=(ot (.ok (((((leI 0 c)&&(ltI c (bN a.D)))&&((dO [.int .i64] a.D (0+(iN c)) 0)&&true))||(!(eqI b 1)))&&true) (.ok (((leI 0 c)&&(ltI c (bN a.D)))&&(((blt (0+(iN c)) (ln a.D))&&(jW (jX a.D (0+(iN c))) 1))&&true)) (.ok ((((aK a true)&&(aMK b c d a))&&true)&&((aMK b c d a)&&true)) (.leaf {a with D:=(aMJ b c d a)})))))
def aCN(b:Int)(c:Int)(d:Int)(a:aE):aE:=hid (a6X b c d a).val
def aCO(b:Int)(c:Int)(d:Int)(a:aE):Bool:=hid (a6X b c d a).okv
def bYN(b:Int)(c:Int)(d:Int)(a:aE)(r:aE):SV×List Blk:=((.tup []),[.box [.sl 1 0 (ln r.D), .sl 2 0 (ln r.A),li r.Other,li r.PC,li r.Flags,li r.Mask, .lit (.bool r.Super), .lit (.bool r.Trace)], .lst 1 r.D, .lst 1 r.A])
def q288:=bP5 (fun b c d a=>bYN b c d a (aCN b c d a)) aCO
theorem b7N:cD 288 q288:=bP6 fun b c d a hk=>tcx aS0 [(1000001,[])] [] true (a6X b c d a) (bYN b c d a) hk
def Q288:=aX 288 q288 Q283
theorem aS1:QO Q288:=aB b7N aS0
def a6Y(a:Int)(b:Int):Pt (Int):=(ot (.ok ((yN (eqI b 0) 4)&&((DP a)&&((yN (geI b (lZ (pW a) 2)) 8)&&true))) (ot (ot (.leaf (eT (yM (eqI b 0) 4) (yM (geI b (lZ (pW a) 2)) 8)))))))
def aZG(a:Int)(b:Int):Int:=hid (a6Y a b).val
def aZH(a:Int)(b:Int):Bool:=hid (a6Y a b).okv
def WR(a:Int)(b:Int)(r:Int):SV×List Blk:=((.one (li r)),[])
def q332:=KV (fun a b=>WR a b (aZG a b)) aZH
theorem b7O:cD 100332 q332:=tX fun a b hk=>tz aS1 (a6Y a b) (WR a b) hk
def Q332:=aX 100332 q332 Q288
theorem aS2:QO Q332:=aB b7O aS1
def a6Z(a:Int)(b:Int)(c:Int):Pt (Int):=(ot (.ok ((aZH a c)&&true) (ot (ot (.leaf (eT (aZ b 16) (aZG a c)))))))
def bP7(a:Int)(b:Int)(c:Int):Int:=hid (a6Z a b c).val
def bP8(a:Int)(b:Int)(c:Int):Bool:=hid (a6Z a b c).okv
def q353:=DS5 (fun a b c=>aGV a b c (bP7 a b c)) bP8
theorem b7P:cD 100353 q353:=C9 fun a b c hk=>tz aS2 (a6Z a b c) (aGV a b c) hk
def Q353:=aX 100353 q353 Q332
theorem aS3:QO Q353:=aB b7P aS2
end
end Go.Proofs.YtdicpjkdpliofaaGreatBoundaries
