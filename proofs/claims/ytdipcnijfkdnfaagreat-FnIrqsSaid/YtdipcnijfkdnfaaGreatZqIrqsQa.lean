import Derived.Test.YtdipcnijfkdnfaaGreatZqTabIrqs
import Derived.Test.YtdipcnijfkdnfaaGreatZmc
import Derived.KernelRfl
import Derived.Test.YtdipcnijfkdnfaaGreatZqIrqsR
set_option linter.unusedVariables false
set_option linter.unusedSimpArgs false
namespace Go.Proofs.YtdipcnijfkdnfaaGreatIrqs
open Option.some renaming inj → qi
open Prod.mk renaming inj → qp
open Int renaming toNat → iN
open Go Go.Zq
open List renaming length→ln
set_option maxRecDepth 100000
set_option maxHeartbeats 4000000
noncomputable section
structure aM where
 mk::
 (fcode:List Row)
 (fat:Int)
 (fseed:Int)
def aM.row(x:aM):Row:=[.imm true 1 x.fcode, .lit (.int .i64 x.fat), .lit (.int .u64 x.fseed)]
def aM.at(r:List Row)(j i:Nat):aM:=⟨lF r j i,bQ r j (i+1),bQ r j (i+2)⟩
structure aG where
 mk::
 (Mode:Int)
 (Reg:Int)
 (Ext:Int)
def aG.row(x:aG):Row:=[.lit (.int .i64 x.Mode), .lit (.int .i64 x.Reg), .lit (.int .i64 x.Ext)]
def aG.at(r:List Row)(j i:Nat):aG:=⟨bQ r j i,bQ r j (i+1),bQ r j (i+2)⟩
structure aQ where
 mk::
 (Op:Int)
 (Size:Int)
 (Reg:Int)
 (Ea:aG)
 (Sub:Int)
def aQ.row(x:aQ):Row:=[.lit (.int .i64 x.Op), .lit (.int .i64 x.Size), .lit (.int .i64 x.Reg), .lit (.int .i64 x.Ea.Mode), .lit (.int .i64 x.Ea.Reg), .lit (.int .i64 x.Ea.Ext), .lit (.int .i64 x.Sub)]
def aQ.at(r:List Row)(j i:Nat):aQ:=⟨bQ r j i,bQ r j (i+1),bQ r j (i+2),⟨bQ r j (i+3),bQ r j (i+4),bQ r j (i+5)⟩,bQ r j (i+6)⟩
structure aH where
 mk::
 (D:List Row)
 (A:List Row)
 (Other:Int)
 (PC:Int)
 (Flags:Int)
 (Mask:Int)
 (Super:Bool)
 (Trace:Bool)
def aH.row(x:aH):Row:=[.imm true 1 x.D, .imm true 1 x.A, .lit (.int .i64 x.Other), .lit (.int .i64 x.PC), .lit (.int .i64 x.Flags), .lit (.int .i64 x.Mask), .lit (.bool x.Super), .lit (.bool x.Trace)]
def aH.at(r:List Row)(j i:Nat):aH:=⟨lF r j i,lF r j (i+1),bQ r j (i+2),bQ r j (i+3),bQ r j (i+4),bQ r j (i+5),lW r j (i+6),lW r j (i+7)⟩
structure bM where
 mk::
 (Bytes:List Row)
 (Log:List Row)
def bM.row(x:bM):Row:=[.imm true 1 x.Bytes, .imm true 5 x.Log]
def bM.at(r:List Row)(j i:Nat):bM:=⟨lF r j i,lF r j (i+1)⟩
structure aI where
 mk::
 (R:aH)
 (Bus:bM)
 (Stop:Bool)
 (Halt:Bool)
def aI.row(x:aI):Row:=[.imm true 1 x.R.D, .imm true 1 x.R.A, .lit (.int .i64 x.R.Other), .lit (.int .i64 x.R.PC), .lit (.int .i64 x.R.Flags), .lit (.int .i64 x.R.Mask), .lit (.bool x.R.Super), .lit (.bool x.R.Trace), .imm true 1 x.Bus.Bytes, .imm true 5 x.Bus.Log, .lit (.bool x.Stop), .lit (.bool x.Halt)]
def aI.at(r:List Row)(j i:Nat):aI:=⟨⟨lF r j i,lF r j (i+1),bQ r j (i+2),bQ r j (i+3),bQ r j (i+4),bQ r j (i+5),lW r j (i+6),lW r j (i+7)⟩,⟨lF r j (i+8),lF r j (i+9)⟩,lW r j (i+10),lW r j (i+11)⟩
structure bN where
 mk::
 (Cpu:aI)
 (Line:Int)
 (Edge:Bool)
def bN.row(x:bN):Row:=[.imm true 1 x.Cpu.R.D, .imm true 1 x.Cpu.R.A, .lit (.int .i64 x.Cpu.R.Other), .lit (.int .i64 x.Cpu.R.PC), .lit (.int .i64 x.Cpu.R.Flags), .lit (.int .i64 x.Cpu.R.Mask), .lit (.bool x.Cpu.R.Super), .lit (.bool x.Cpu.R.Trace), .imm true 1 x.Cpu.Bus.Bytes, .imm true 5 x.Cpu.Bus.Log, .lit (.bool x.Cpu.Stop), .lit (.bool x.Cpu.Halt), .lit (.int .i64 x.Line), .lit (.bool x.Edge)]
def bN.at(r:List Row)(j i:Nat):bN:=⟨⟨⟨lF r j i,lF r j (i+1),bQ r j (i+2),bQ r j (i+3),bQ r j (i+4),bQ r j (i+5),lW r j (i+6),lW r j (i+7)⟩,⟨lF r j (i+8),lF r j (i+9)⟩,lW r j (i+10),lW r j (i+11)⟩,bQ r j (i+12),lW r j (i+13)⟩
structure aE where
 mk::
 (Kind:Int)
 (Size:Int)
 (Addr:Int)
 (Value:Int)
 (Code:Int)
def aE.row(x:aE):Row:=[.lit (.int .i64 x.Kind), .lit (.int .i64 x.Size), .lit (.int .i64 x.Addr), .lit (.int .i64 x.Value), .lit (.int .i64 x.Code)]
def aE.at(r:List Row)(j i:Nat):aE:=⟨bQ r j i,bQ r j (i+1),bQ r j (i+2),bQ r j (i+3),bQ r j (i+4)⟩
structure aL where
 mk::
 (Vector:Int)
 (PC:Int)
 (Addr:Int)
 (Word:Int)
 (Write:Bool)
def aL.row(x:aL):Row:=[.lit (.int .i64 x.Vector), .lit (.int .i64 x.PC), .lit (.int .i64 x.Addr), .lit (.int .i64 x.Word), .lit (.bool x.Write)]
def aL.at(r:List Row)(j i:Nat):aL:=⟨bQ r j i,bQ r j (i+1),bQ r j (i+2),bQ r j (i+3),lW r j (i+4)⟩
structure bK where
 mk::
 (fx:aQ)
 (fpc:Int)
 (fword:Int)
 (ffault:aL)
structure aS where
 mk::
 (fr:aH)
 (fbus:bM)
 (fstop:Bool)
 (ffault:aL)
def aS.row(x:aS):Row:=[.imm true 1 x.fr.D, .imm true 1 x.fr.A, .lit (.int .i64 x.fr.Other), .lit (.int .i64 x.fr.PC), .lit (.int .i64 x.fr.Flags), .lit (.int .i64 x.fr.Mask), .lit (.bool x.fr.Super), .lit (.bool x.fr.Trace), .imm true 1 x.fbus.Bytes, .imm true 5 x.fbus.Log, .lit (.bool x.fstop), .lit (.int .i64 x.ffault.Vector), .lit (.int .i64 x.ffault.PC), .lit (.int .i64 x.ffault.Addr), .lit (.int .i64 x.ffault.Word), .lit (.bool x.ffault.Write)]
def aS.at(r:List Row)(j i:Nat):aS:=⟨⟨lF r j i,lF r j (i+1),bQ r j (i+2),bQ r j (i+3),bQ r j (i+4),bQ r j (i+5),lW r j (i+6),lW r j (i+7)⟩,⟨lF r j (i+8),lF r j (i+9)⟩,lW r j (i+10),⟨bQ r j (i+11),bQ r j (i+12),bQ r j (i+13),bQ r j (i+14),lW r j (i+15)⟩⟩
def dd(t u:Bool):Bool:=(((t&&t)&&true)&&u)
theorem b2I(t u:Bool):dd t u=(t&&u):=by cases t<;>cases u<;>rfl
def rQ(x:aQ)(k:Bool):Bool:=((s1 x.Op)&&((s1 x.Size)&&((s1 x.Reg)&&((s1 x.Ea.Mode)&&((s1 x.Ea.Reg)&&((s1 x.Ea.Ext)&&((s1 x.Sub)&&k)))))))
theorem aZ7(x:aQ)(k:Bool):rQ x k=k:=by simp[rQ]
def rR(x:aG)(k:Bool):Bool:=((s1 x.Mode)&&((s1 x.Reg)&&((s1 x.Ext)&&k)))
theorem Y6(x:aG)(k:Bool):rR x k=k:=by simp[rR]
def aP(x:aH)(k:Bool):Bool:=((e1 (ln x.D))&&((e1 (ln x.A))&&k))
theorem aVL(x:aH)(k:Bool):aP x k=k:=by simp[aP]
def iA(x:aH)(k:Bool):Bool:=(((aP x true&&aP x true)&&true)&&aP x k)
theorem aVM(x:aH)(k:Bool):iA x k=k:=by simp[iA,aP]
def iE(x:aH)(k:Bool):Bool:=((s1 (ln x.D))&&((s1 (ln x.A))&&((s1 x.Other)&&((s1 x.PC)&&((s1 x.Flags)&&((s1 x.Mask)&&((s1 x.Super)&&((s1 x.Trace)&&k))))))))
theorem aVN(x:aH)(k:Bool):iE x k=k:=by simp[iE]
def iB(x:aH)(k:Bool):Bool:=((r1 x.D)&&((r1 x.A)&&k))
theorem aVO(x:aH)(k:Bool):iB x k=k:=by simp[iB]
def bS(x:bM)(k:Bool):Bool:=((e1 (ln x.Bytes))&&((e1 (ln x.Log))&&k))
theorem aZ8(x:bM)(k:Bool):bS x k=k:=by simp[bS]
def rS(x:bM)(k:Bool):Bool:=(((bS x true&&bS x true)&&true)&&bS x k)
theorem aZ9(x:bM)(k:Bool):rS x k=k:=by simp[rS,bS]
def dW(x:bM)(k:Bool):Bool:=((s1 (ln x.Bytes))&&((s1 (ln x.Log))&&k))
theorem a0A(x:bM)(k:Bool):dW x k=k:=by simp[dW]
def dP(x:bM)(k:Bool):Bool:=((r1 x.Bytes)&&((r1 x.Log)&&k))
theorem a0B(x:bM)(k:Bool):dP x k=k:=by simp[dP]
def aO(x:aI)(k:Bool):Bool:=((e1 (ln x.R.D))&&((e1 (ln x.R.A))&&((e1 (ln x.Bus.Bytes))&&((e1 (ln x.Bus.Log))&&k))))
theorem a0C(x:aI)(k:Bool):aO x k=k:=by simp[aO]
def cH(x:aI)(k:Bool):Bool:=(((aO x true&&aO x true)&&true)&&aO x k)
theorem a0D(x:aI)(k:Bool):cH x k=k:=by simp[cH,aO]
def jC(x:aI)(k:Bool):Bool:=((s1 (ln x.R.D))&&((s1 (ln x.R.A))&&((s1 x.R.Other)&&((s1 x.R.PC)&&((s1 x.R.Flags)&&((s1 x.R.Mask)&&((s1 x.R.Super)&&((s1 x.R.Trace)&&((s1 (ln x.Bus.Bytes))&&((s1 (ln x.Bus.Log))&&((s1 x.Stop)&&((s1 x.Halt)&&k))))))))))))
theorem a0E(x:aI)(k:Bool):jC x k=k:=by simp[jC]
def lG(x:aI)(k:Bool):Bool:=((r1 x.R.D)&&((r1 x.R.A)&&((r1 x.Bus.Bytes)&&((r1 x.Bus.Log)&&k))))
theorem a0F(x:aI)(k:Bool):lG x k=k:=by simp[lG]
def d9(x:bN)(k:Bool):Bool:=((e1 (ln x.Cpu.R.D))&&((e1 (ln x.Cpu.R.A))&&((e1 (ln x.Cpu.Bus.Bytes))&&((e1 (ln x.Cpu.Bus.Log))&&k))))
theorem a0G(x:bN)(k:Bool):d9 x k=k:=by simp[d9]
def CM(x:bN)(k:Bool):Bool:=(((d9 x true&&d9 x true)&&true)&&d9 x k)
theorem a0H(x:bN)(k:Bool):CM x k=k:=by simp[CM,d9]
def jY(x:aL)(k:Bool):Bool:=((s1 x.Vector)&&((s1 x.PC)&&((s1 x.Addr)&&((s1 x.Word)&&((s1 x.Write)&&k)))))
theorem aH3(x:aL)(k:Bool):jY x k=k:=by simp[jY]
def uZ(x:bK)(k:Bool):Bool:=((s1 x.fx.Op)&&((s1 x.fx.Size)&&((s1 x.fx.Reg)&&((s1 x.fx.Ea.Mode)&&((s1 x.fx.Ea.Reg)&&((s1 x.fx.Ea.Ext)&&((s1 x.fx.Sub)&&((s1 x.fpc)&&((s1 x.fword)&&((s1 x.ffault.Vector)&&((s1 x.ffault.PC)&&((s1 x.ffault.Addr)&&((s1 x.ffault.Word)&&((s1 x.ffault.Write)&&k))))))))))))))
theorem aVP(x:bK)(k:Bool):uZ x k=k:=by simp[uZ]
def bU(x:aS)(k:Bool):Bool:=((e1 (ln x.fr.D))&&((e1 (ln x.fr.A))&&((e1 (ln x.fbus.Bytes))&&((e1 (ln x.fbus.Log))&&k))))
theorem aVQ(x:aS)(k:Bool):bU x k=k:=by simp[bU]
def cE(x:aS)(k:Bool):Bool:=(((bU x true&&bU x true)&&true)&&bU x k)
theorem aVR(x:aS)(k:Bool):cE x k=k:=by simp[cE,bU]
def JF(x:aS)(k:Bool):Bool:=((s1 (ln x.fr.D))&&((s1 (ln x.fr.A))&&((s1 x.fr.Other)&&((s1 x.fr.PC)&&((s1 x.fr.Flags)&&((s1 x.fr.Mask)&&((s1 x.fr.Super)&&((s1 x.fr.Trace)&&((s1 (ln x.fbus.Bytes))&&((s1 (ln x.fbus.Log))&&((s1 x.fstop)&&((s1 x.ffault.Vector)&&((s1 x.ffault.PC)&&((s1 x.ffault.Addr)&&((s1 x.ffault.Word)&&((s1 x.ffault.Write)&&k))))))))))))))))
theorem aVS(x:aS)(k:Bool):JF x k=k:=by simp[JF]
theorem wz:(∀t u,dd t u=(t&&u))∧(∀x k,rQ x k=k)∧(∀x k,rR x k=k)∧(∀x k,aP x k=k)∧(∀x k,iA x k=k)∧(∀x k,iE x k=k)∧(∀x k,iB x k=k)∧(∀x k,bS x k=k)∧(∀x k,rS x k=k)∧(∀x k,dW x k=k)∧(∀x k,dP x k=k)∧(∀x k,aO x k=k)∧(∀x k,cH x k=k)∧(∀x k,jC x k=k)∧(∀x k,lG x k=k)∧(∀x k,d9 x k=k)∧(∀x k,CM x k=k)∧(∀x k,jY x k=k)∧(∀x k,uZ x k=k)∧(∀x k,bU x k=k)∧(∀x k,cE x k=k)∧(∀x k,JF x k=k):=⟨b2I,aZ7,Y6,aVL,aVM,aVN,aVO,aZ8,aZ9,a0A,a0B,a0C,a0D,a0E,a0F,a0G,a0H,aH3,aVP,aVQ,aVR,aVS⟩
def K0:List Kd:=[.int .i64]
def K1:List Kd:=[.imm 1]
def K2:List Kd:=[.int .u8]
def K3:List Kd:=[.int .u64]
def AS0(a:aM):List SV:=[(.one (.ptr 0 0 0))]
def HS0(a:aM):List Blk:=[.box [.imm true 1 a.fcode,li a.fat, .lit (.int .u64 a.fseed)]]
def DS0(N:aM→SV×List Blk)(K:aM→Bool):List SV→List Blk→Option ((SV×List Blk)×Bool)
 |[(.one (.ptr 0 0 0))],[.box [.imm true 1 c0,li c1, .lit (.int .u64 c2)]]=>some (N (aM.mk c0 c1 c2),K (aM.mk c0 c1 c2))
 |_,_=>none
theorem JG{N:aM→SV×List Blk}{K:aM→Bool}{f:Nat}(h: ∀(a:aM),K a=true→dJ R f (AS0 a) (HS0 a)=some (N a)):cK f (DS0 N K):=fun _ _ _ e=>by
 unfold DS0 at e;split at e
 ·exact vH e (h _)
 ·cases e
section
variable(a:aM)
def RB:Int:=(bif (ltI a.fat (cA a.fcode))then(xU .i64 (bQ a.fcode (iN a.fat) 0))else 0)
def aH4:Int:=(b2E .u64 (b2E .u64 (cAH .u64 a.fseed 6364136223846793005) (xU .u64 (RB a))) 1442695040888963407)
end
def a0J(a:aM):Pt (aM×Int):=(.ok true (.ok true (.ok true (.ok ((((hZ [.int .u8] a.fcode a.fat)&&true)||(!(ltI a.fat (cA a.fcode))))&&true) (.ok true (.ok true (.ok true (.br (leI (bE a.fat 1) (cA a.fcode)) (.ok true (.ok true (.leaf ((aM.mk a.fcode (bE a.fat 1) (aH4 a)),(RB a))))) (.ok true (.ok true (.leaf ((aM.mk a.fcode (bE a.fat 1) (aH4 a)),(xU .i64 (bA5 .u64 (aZ3 .u64 (aH4 a) 40) 255))))))))))))))
def BU(a:aM):aM×Int:=hid (a0J a).val
def bA6(a:aM):Bool:=hid (a0J a).okv
def b2J(a:aM)(r:aM×Int):SV×List Blk:=((.one (li r.2)),[.box [.imm true 1 r.1.fcode,li r.1.fat, .lit (.int .u64 r.1.fseed)]])
def q162:=DS0 (fun a=>b2J a (BU a)) bA6
theorem cAK:cK 162 q162:=JG fun a hk=>tc bYF aOD [(7,K0),(11,K1),(17,K1),(21,K0),(22,K2),(23,K2),(28,K0),(36,K3),(47,K0),(51,K1),(58,K3)] [] true (a0J a) (b2J a) hk
def Q162:=aZ 162 q162 qnil
theorem aOH:QO Q162:=aF cAK aOD
def AS1(b:Int)(a:aM):List SV:=[(.one (.ptr 0 0 0)),(.one (li b))]
def HS1(b:Int)(a:aM):List Blk:=[.box [.imm true 1 a.fcode,li a.fat, .lit (.int .u64 a.fseed)]]
def DS1(N:Int→aM→SV×List Blk)(K:Int→aM→Bool):List SV→List Blk→Option ((SV×List Blk)×Bool)
 |[(.one (.ptr 0 0 0)),(.one (li c0))],[.box [.imm true 1 c1,li c2, .lit (.int .u64 c3)]]=>some (N c0 (aM.mk c1 c2 c3),K c0 (aM.mk c1 c2 c3))
 |_,_=>none
theorem bH2{N:Int→aM→SV×List Blk}{K:Int→aM→Bool}{f:Nat}(h: ∀(b:Int)(a:aM),K b a=true→dJ R f (AS1 b a) (HS1 b a)=some (N b a)):cK f (DS1 N K):=fun _ _ _ e=>by
 unfold DS1 at e;split at e
 ·exact vH e (h _ _)
 ·cases e
def T89(b:Int)(a:aM):Pt (aM×Int):=(.ok true (.ok true (.br (leI b 1) (.ok true (.ok true (.leaf (a,0)))) (.ok ((bA6 a)&&true) (.ok true (.br (kU b 200) (.ok ((bA6 (BU a).1)&&true) (.ok ((dC b 0)&&true) (.ok true (.leaf ((BU (BU a).1).1,(nM (bE (dH (BU a).2 256) (BU (BU a).1).2) b)))))) (.ok ((dC b 0)&&true) (.ok true (.leaf ((BU a).1,(nM (BU a).2 b)))))))))))
def cW(b:Int)(a:aM):aM×Int:=hid (T89 b a).val
def w7(b:Int)(a:aM):Bool:=hid (T89 b a).okv
def n89(b:Int)(a:aM)(r:aM×Int):SV×List Blk:=((.one (li r.2)),[.box [.imm true 1 r.1.fcode,li r.1.fat, .lit (.int .u64 r.1.fseed)]])
def q89:=DS1 (fun b a=>n89 b a (cW b a)) w7
theorem t89:cK 89 q89:=bH2 fun b a hk=>tc b96 aOH [] [] true (T89 b a) (n89 b a) hk
def Q89:=aZ 89 q89 Q162
theorem a0K:QO Q89:=aF t89 aOH
def T86(b:Int)(a:aM):Pt (aM×Bool):=(.ok true (.ok ((w7 b a)&&true) (.ok true (.leaf ((cW b a).1,(eqI (cW b a).2 0))))))
def nB(b:Int)(a:aM):aM×Bool:=hid (T86 b a).val
def k86(b:Int)(a:aM):Bool:=hid (T86 b a).okv
def n86(b:Int)(a:aM)(r:aM×Bool):SV×List Blk:=((.one (.lit (.bool r.2))),[.box [.imm true 1 r.1.fcode,li r.1.fat, .lit (.int .u64 r.1.fseed)]])
def q86:=DS1 (fun b a=>n86 b a (nB b a)) k86
theorem t86:cK 86 q86:=bH2 fun b a hk=>tc b94 a0K [] [] true (T86 b a) (n86 b a) hk
def Q86:=aZ 86 q86 Q89
theorem aH5:QO Q86:=aF t86 a0K
def AS2(a:Int):List SV:=[(.one (li a))]
def HS2(a:Int):List Blk:=[]
def BP(N:Int→SV×List Blk)(K:Int→Bool):List SV→List Blk→Option ((SV×List Blk)×Bool)
 |[(.one (li c0))],[]=>some (N c0,K c0)
 |_,_=>none
theorem gS{N:Int→SV×List Blk}{K:Int→Bool}{f:Nat}(h: ∀(a:Int),K a=true→dJ R f (AS2 a) (HS2 a)=some (N a)):cK f (BP N K):=fun _ _ _ e=>by
 unfold BP at e;split at e
 ·exact vH e (h _)
 ·cases e
def a0L(a:Int):Pt (Bool):=(.ok true (.ok true (.ok true (.ok true (.leaf (geI a 5))))))
def aH6(a:Int):Bool:=hid (a0L a).val
def aH7(a:Int):Bool:=hid (a0L a).okv
def jZ(a:Int)(r:Bool):SV×List Blk:=((.one (.lit (.bool r))),[])
def q240:=BP (fun a=>jZ a (aH6 a)) aH7
theorem cAL:cK 100240 q240:=gS fun a hk=>tz b0B aH5 [] [] true (a0L a) (jZ a) hk
def Q240:=aZ 100240 q240 Q86
theorem aOI:QO Q240:=aF cAL aH5
def AS3(b:List Row)(a:aM):List SV:=[(.one (.ptr 0 0 0)),(.one (.imm false 1 b))]
def HS3(b:List Row)(a:aM):List Blk:=[.box [.imm true 1 a.fcode,li a.fat, .lit (.int .u64 a.fseed)]]
def DS3(N:List Row→aM→SV×List Blk)(K:List Row→aM→Bool):List SV→List Blk→Option ((SV×List Blk)×Bool)
 |[(.one (.ptr 0 0 0)),(.one (.imm false 1 c0))],[.box [.imm true 1 c1,li c2, .lit (.int .u64 c3)]]=>some (N c0 (aM.mk c1 c2 c3),K c0 (aM.mk c1 c2 c3))
 |_,_=>none
theorem b2M{N:List Row→aM→SV×List Blk}{K:List Row→aM→Bool}{f:Nat}(h: ∀(b:List Row)(a:aM),K b a=true→dJ R f (AS3 b a) (HS3 b a)=some (N b a)):cK f (DS3 N K):=fun _ _ _ e=>by
 unfold DS3 at e;split at e
 ·exact vH e (h _ _)
 ·cases e
def T90(b:List Row)(a:aM):Pt (aM×Int):=(.ok true (.ok ((w7 (cA b) a)&&((hZ [.int .i64] b (cW (cA b) a).2)&&true)) (.ok true (.leaf ((cW (cA b) a).1,(bQ b (iN (cW (cA b) a).2) 0))))))
def N6(b:List Row)(a:aM):aM×Int:=hid (T90 b a).val
def k90(b:List Row)(a:aM):Bool:=hid (T90 b a).okv
def n90(b:List Row)(a:aM)(r:aM×Int):SV×List Blk:=((.one (li r.2)),[.box [.imm true 1 r.1.fcode,li r.1.fat, .lit (.int .u64 r.1.fseed)]])
def q90:=DS3 (fun b a=>n90 b a (N6 b a)) k90
theorem t90:cK 90 q90:=b2M fun b a hk=>tc b97 aOI [(10,K0),(11,K0)] [] true (T90 b a) (n90 b a) hk
def Q90:=aZ 90 q90 Q240
theorem a0M:QO Q90:=aF t90 aOI
def K4:List Kd:=[.int .i64, .int .i64, .int .i64]
section
variable(a:aM)
def GX:aM×Int:=(N6 [(bB 0),(bB 1),(bB 2),(bB 20),(bB 100),(bB 200),(bB 384),(bB 448),(bB 65535),(bB 65534)] (cW 4 (cW 8 a).1).1)
def LK:aM×Int:=(cW 9 (nB 60 (GX a).1).1)
def aH8:aM×Int:=(cW 2 (cW 5 (LK a).1).1)
def GY:aM×Bool:=(nB 60 (cW 4 (cW 8 a).1).1)
def RC:aM×Int:=(cW 5 (cW 9 (GY a).1).1)
def GZ:aM×Int:=(N6 [(bB 0),(bB 1),(bB 2),(bB 20),(bB 100),(bB 200),(bB 384),(bB 448),(bB 65535),(bB 65534)] (cW 8 a).1)
def LM:aM×Int:=(cW 9 (nB 60 (GZ a).1).1)
def aH9:aM×Int:=(cW 2 (cW 5 (LM a).1).1)
def LN:aM×Int:=(cW 9 (nB 60 (cW 8 a).1).1)
def aIA:aM×Int:=(cW 2 (cW 5 (LN a).1).1)
end
def a0N(a:aM):Pt (aM×aG):=(.ok true (.ok ((w7 8 a)&&true) (.ok true (.br (ltI (cW 8 a).2 6) (.ok ((w7 4 (cW 8 a).1)&&true) (.ok ((aH7 (cW 8 a).2)&&true) (.br (aH6 (cW 8 a).2) (.ok ((k90 [(bB 0),(bB 1),(bB 2),(bB 20),(bB 100),(bB 200),(bB 384),(bB 448),(bB 65535),(bB 65534)] (cW 4 (cW 8 a).1).1)&&true) (.ok ((k86 60 (GX a).1)&&true) (.br (nB 60 (GX a).1).2 (.ok ((w7 9 (nB 60 (GX a).1).1)&&((w7 5 (LK a).1)&&((w7 2 (cW 5 (LK a).1).1)&&true))) (.ok true (.ok true (.leaf ((aH8 a).1,(aG.mk (LK a).2 (cW 5 (LK a).1).2 (aH8 a).2)))))) (.ok true (.ok true (.leaf ((nB 60 (GX a).1).1,(aG.mk (cW 8 a).2 (cW 4 (cW 8 a).1).2 (GX a).2)))))))) (.ok ((k86 60 (cW 4 (cW 8 a).1).1)&&true) (.br (GY a).2 (.ok ((w7 9 (GY a).1)&&((w7 5 (cW 9 (GY a).1).1)&&((w7 2 (RC a).1)&&true))) (.ok true (.ok true (.leaf ((cW 2 (RC a).1).1,(aG.mk (cW 9 (GY a).1).2 (RC a).2 (cW 2 (RC a).1).2)))))) (.ok true (.ok true (.leaf ((GY a).1,(aG.mk (cW 8 a).2 (cW 4 (cW 8 a).1).2 0)))))))))) (.ok ((aH7 (cW 8 a).2)&&true) (.br (aH6 (cW 8 a).2) (.ok ((k90 [(bB 0),(bB 1),(bB 2),(bB 20),(bB 100),(bB 200),(bB 384),(bB 448),(bB 65535),(bB 65534)] (cW 8 a).1)&&true) (.ok ((k86 60 (GZ a).1)&&true) (.br (nB 60 (GZ a).1).2 (.ok ((w7 9 (nB 60 (GZ a).1).1)&&((w7 5 (LM a).1)&&((w7 2 (cW 5 (LM a).1).1)&&true))) (.ok true (.ok true (.leaf ((aH9 a).1,(aG.mk (LM a).2 (cW 5 (LM a).1).2 (aH9 a).2)))))) (.ok true (.ok true (.leaf ((nB 60 (GZ a).1).1,(aG.mk (cW 8 a).2 0 (GZ a).2)))))))) (.ok ((k86 60 (cW 8 a).1)&&true) (.br (nB 60 (cW 8 a).1).2 (.ok ((w7 9 (nB 60 (cW 8 a).1).1)&&((w7 5 (LN a).1)&&((w7 2 (cW 5 (LN a).1).1)&&true))) (.ok true (.ok true (.leaf ((aIA a).1,(aG.mk (LN a).2 (cW 5 (LN a).1).2 (aIA a).2)))))) (.ok true (.ok true (.leaf ((nB 60 (cW 8 a).1).1,(aG.mk (cW 8 a).2 0 0)))))))))))))
def rT(a:aM):aM×aG:=hid (a0N a).val
def bA7(a:aM):Bool:=hid (a0N a).okv
def b2O(a:aM)(r:aM×aG):SV×List Blk:=((.agg [li r.2.Mode,li r.2.Reg,li r.2.Ext]),[.box [.imm true 1 r.1.fcode,li r.1.fat, .lit (.int .u64 r.1.fseed)]])
def q186:=DS0 (fun a=>b2O a (rT a)) bA7
theorem cAN:cK 186 q186:=JG fun a hk=>tc bYZ a0M [(8,K0),(14,K0),(29,K4)] [] true (a0N a) (b2O a) hk
def Q186:=aZ 186 q186 Q90
theorem aOJ:QO Q186:=aF cAN a0M
def AS4(a:Bool)(b:Int):List SV:=[(.one (.lit (.bool a))),(.one (li b))]
def HS4(a:Bool)(b:Int):List Blk:=[]
def DS4(N:Bool→Int→SV×List Blk)(K:Bool→Int→Bool):List SV→List Blk→Option ((SV×List Blk)×Bool)
 |[(.one (.lit (.bool c0))),(.one (li c1))],[]=>some (N c0 c1,K c0 c1)
 |_,_=>none
theorem bH3{N:Bool→Int→SV×List Blk}{K:Bool→Int→Bool}{f:Nat}(h: ∀(a:Bool)(b:Int),K a b=true→dJ R f (AS4 a b) (HS4 a b)=some (N a b)):cK f (DS4 N K):=fun _ _ _ e=>by
 unfold DS4 at e;split at e
 ·exact vH e (h _ _)
 ·cases e
def aIB(a:Bool)(b:Int):Pt (Int):=(.ok true (.ok true (.br a (.ok true (.ok true (.ok true (.leaf b)))) (.ok true (.ok true (.ok true (.leaf 0)))))))
def yA(a:Bool)(b:Int):Int:=hid (aIB a b).val
def yB(a:Bool)(b:Int):Bool:=hid (aIB a b).okv
def bA8(a:Bool)(b:Int)(r:Int):SV×List Blk:=((.one (li r)),[])
def q179:=DS4 (fun a b=>bA8 a b (yA a b)) yB
theorem cAO:cK 100179 q179:=bH3 fun a b hk=>tz bYS aOJ [] [] true (aIB a b) (bA8 a b) hk
def Q179:=aZ 100179 q179 Q186
theorem aOK:QO Q179:=aF cAO aOJ
def aIC(a:Int):Pt (Bool):=(.ok true (.ok true (.ok true (.ok true (.leaf (bif (eqI a 1)then true else(eqI a 2)))))))
def aFA(a:Int):Bool:=hid (aIC a).val
def aVT(a:Int):Bool:=hid (aIC a).okv
def q190:=BP (fun a=>jZ a (aFA a)) aVT
theorem cAP:cK 100190 q190:=gS fun a hk=>tz bY3 aOK [] [] true (aIC a) (jZ a) hk
def Q190:=aZ 100190 q190 Q179
theorem aOL:QO Q190:=aF cAP aOK
def AS5(a:Int)(b:Int)(c:Int):List SV:=[(.one (li a)),(.one (li b)),(.one (li c))]
def HS5(a:Int)(b:Int)(c:Int):List Blk:=[]
def DS5(N:Int→Int→Int→SV×List Blk)(K:Int→Int→Int→Bool):List SV→List Blk→Option ((SV×List Blk)×Bool)
 |[(.one (li c0)),(.one (li c1)),(.one (li c2))],[]=>some (N c0 c1 c2,K c0 c1 c2)
 |_,_=>none
theorem CN{N:Int→Int→Int→SV×List Blk}{K:Int→Int→Int→Bool}{f:Nat}(h: ∀(a:Int)(b:Int)(c:Int),K a b c=true→dJ R f (AS5 a b c) (HS5 a b c)=some (N a b c)):cK f (DS5 N K):=fun _ _ _ e=>by
 unfold DS5 at e;split at e
 ·exact vH e (h _ _ _)
 ·cases e
def a0O(a:Int)(b:Int)(c:Int):Pt (Bool):=(.ok true (.ok true (.ok true (.ok true (.leaf (bif (geI a b)then(leI a c)else false))))))
def vA(a:Int)(b:Int)(c:Int):Bool:=hid (a0O a b c).val
def w8(a:Int)(b:Int)(c:Int):Bool:=hid (a0O a b c).okv
def bA9(a:Int)(b:Int)(c:Int)(r:Bool):SV×List Blk:=((.one (.lit (.bool r))),[])
def q108:=DS5 (fun a b c=>bA9 a b c (vA a b c)) w8
theorem cAQ:cK 100108 q108:=CN fun a b c hk=>tz bXF aOL [] [] true (a0O a b c) (bA9 a b c) hk
def Q108:=aZ 100108 q108 Q190
theorem aOM:QO Q108:=aF cAQ aOL
def T77(a:Int):Pt (Bool):=(.ok true (.ok ((w8 a 0 65535)&&true) (.ok true (.ok true (.leaf (vA a 0 65535))))))
def g77(a:Int):Bool:=hid (T77 a).val
def k77(a:Int):Bool:=hid (T77 a).okv
def q77:=BP (fun a=>jZ a (g77 a)) k77
theorem t77:cK 100077 q77:=gS fun a hk=>tz b9W aOM [] [] true (T77 a) (jZ a) hk
def Q77:=aZ 100077 q77 Q108
theorem a0P:QO Q77:=aF t77 aOM
def AS6(a:aG):List SV:=[(.agg [li a.Mode,li a.Reg,li a.Ext])]
def HS6(a:aG):List Blk:=[]
def DS6(N:aG→SV×List Blk)(K:aG→Bool):List SV→List Blk→Option ((SV×List Blk)×Bool)
 |[(.agg [li c0,li c1,li c2])],[]=>some (N (aG.mk c0 c1 c2),K (aG.mk c0 c1 c2))
 |_,_=>none
theorem aFB{N:aG→SV×List Blk}{K:aG→Bool}{f:Nat}(h: ∀(a:aG),K a=true→dJ R f (AS6 a) (HS6 a)=some (N a)):cK f (DS6 N K):=fun _ _ _ e=>by
 unfold DS6 at e;split at e
 ·exact vH e (h _)
 ·cases e
def a0Q(a:aG):Pt (Bool):=(.ok true (.ok ((w8 a.Mode 0 7)&&((((w8 a.Reg 0 3)&&true)||(!(vA a.Mode 0 7)))&&true)) (.br (bif (bif (!(vA a.Mode 0 7))then true else(!(vA a.Reg 0 3)))then true else(bif (geI a.Mode 6)then(dC a.Reg 0)else false)) (.ok true (.ok true (.ok true (.leaf false)))) (.ok ((k77 a.Ext)&&((((aH7 a.Mode)&&true)||(!(g77 a.Ext)))&&true)) (.ok true (.ok true (.leaf (bif (g77 a.Ext)then(bif (aH6 a.Mode)then true else(eqI a.Ext 0))else false))))))))
def bJ1(a:aG):Bool:=hid (a0Q a).val
def bJ2(a:aG):Bool:=hid (a0Q a).okv
def VS(a:aG)(r:Bool):SV×List Blk:=((.one (.lit (.bool r))),[])
def q191:=DS6 (fun a=>VS a (bJ1 a)) bJ2
theorem cAR:cK 100191 q191:=aFB fun a hk=>tz bY4 a0P [(4,K0),(9,K0),(15,K0),(19,K0),(24,K0),(28,K0),(32,K0)] [] true (a0Q a) (VS a) hk
def Q191:=aZ 100191 q191 Q77
theorem aON:QO Q191:=aF cAR a0P
def a0R(a:Int):Pt (Bool):=(.ok true (.ok ((w8 a 2 6)&&true) (.ok true (.ok true (.leaf (vA a 2 6))))))
def bJ3(a:Int):Bool:=hid (a0R a).val
def bJ4(a:Int):Bool:=hid (a0R a).okv
def q192:=BP (fun a=>jZ a (bJ3 a)) bJ4
theorem cAS:cK 100192 q192:=gS fun a hk=>tz bY5 aON [] [] true (a0R a) (jZ a) hk
def Q192:=aZ 100192 q192 Q191
theorem aOO:QO Q192:=aF cAS aON
def a0S(a:Int):Pt (Bool):=(.ok true (.ok true (.ok true (.ok true (.leaf (bif (bif (eqI a 2)then true else(eqI a 5))then true else(eqI a 6)))))))
def bBB(a:Int):Bool:=hid (a0S a).val
def bBC(a:Int):Bool:=hid (a0S a).okv
def q193:=BP (fun a=>jZ a (bBB a)) bBC
theorem cAT:cK 100193 q193:=gS fun a hk=>tz bY6 aOO [] [] true (a0S a) (jZ a) hk
def Q193:=aZ 100193 q193 Q192
theorem aOP:QO Q193:=aF cAT aOO
def a0T(a:aG):Pt (Bool):=(.ok true (.ok true (.ok true (.ok true (.leaf (bif (eqI a.Mode 7)then(leI a.Ext 1023)else false))))))
def bBD(a:aG):Bool:=hid (a0T a).val
def bBE(a:aG):Bool:=hid (a0T a).okv
def q194:=DS6 (fun a=>VS a (bBD a)) bBE
theorem cAU:cK 100194 q194:=aFB fun a hk=>tz bY7 aOP [(4,K0),(8,K0)] [] true (a0T a) (VS a) hk
def Q194:=aZ 100194 q194 Q193
theorem aOQ:QO Q194:=aF cAU aOP
def a0U(a:aG):Pt (Bool):=(.ok true (.ok true (.ok true (.ok true (.leaf ((eqI a.Mode 0)&&((eqI a.Reg 0)&&((eqI a.Ext 0)&&true))))))))
def bBF(a:aG):Bool:=hid (a0U a).val
def bBG(a:aG):Bool:=hid (a0U a).okv
def q195:=DS6 (fun a=>VS a (bBF a)) bBG
theorem cAV:cK 100195 q195:=aFB fun a hk=>tz bY8 aOQ [(3,K4)] [] true (a0U a) (VS a) hk
def Q195:=aZ 100195 q195 Q194
theorem aOR:QO Q195:=aF cAV aOQ
def AS7(a:aQ):List SV:=[(.agg [li a.Op,li a.Size,li a.Reg,li a.Ea.Mode,li a.Ea.Reg,li a.Ea.Ext,li a.Sub])]
def HS7(a:aQ):List Blk:=[]
def DS7(N:aQ→SV×List Blk)(K:aQ→Bool):List SV→List Blk→Option ((SV×List Blk)×Bool)
 |[(.agg [li c0,li c1,li c2,li c3,li c4,li c5,li c6])],[]=>some (N (aQ.mk c0 c1 c2 (aG.mk c3 c4 c5) c6),K (aQ.mk c0 c1 c2 (aG.mk c3 c4 c5) c6))
 |_,_=>none
theorem N7{N:aQ→SV×List Blk}{K:aQ→Bool}{f:Nat}(h: ∀(a:aQ),K a=true→dJ R f (AS7 a) (HS7 a)=some (N a)):cK f (DS7 N K):=fun _ _ _ e=>by
 unfold DS7 at e;split at e
 ·exact vH e (h _)
 ·cases e
section
variable(a:aQ)
def aID:Bool:=(bif (!(aFA a.Size))then true else(!(vA a.Reg 0 3)))
def aIE:Bool:=(bif (aID a)then true else(!(bJ1 a.Ea)))
def aIF:Bool:=((((bJ4 a.Ea.Mode)&&true)||(eqI a.Ea.Mode 0))&&true)
def aIG:Bool:=(bif (eqI a.Ea.Mode 0)then true else(bJ3 a.Ea.Mode))
def RD:Bool:=(bif (eqI a.Size 2)then(eqI a.Sub 0)else false)
def aIH:Bool:=(bif (eqI a.Reg 0)then(leI a.Sub 3)else false)
def Y7:Bool:=(bif (eqI a.Size 2)then(eqI a.Reg 0)else false)
def aII:Bool:=(bif (Y7 a)then(leI a.Sub 1)else false)
def aIJ:Bool:=(bif (eqI a.Sub 0)then(eqI a.Reg 0)else false)
def aIK:Bool:=(bif (aIJ a)then(bBD a.Ea)else false)
def Y8:Bool:=(bif (eqI a.Size 2)then(leI a.Sub 6)else false)
end
def a0V(a:aQ):Pt (Bool):=(.ok true (.ok ((aVT a.Size)&&((((w8 a.Reg 0 3)&&true)||(!(aFA a.Size)))&&((((bJ2 a.Ea)&&true)||(aID a))&&((((w8 a.Sub 0 7)&&true)||(aIE a))&&true)))) (.br (bif (bif (aIE a)then true else(!(vA a.Sub 0 7)))then true else(bif (bif (eqI a.Ea.Mode 7)then(eqI a.Size 1)else false)then(kU a.Ea.Ext 255)else false)) (.ok true (.ok true (.ok true (.leaf false)))) (.ok true (.ok true (.ok true (.ok true (.ok true (.br (bif (eqI a.Op 1)then(eqI a.Op 1)else(bif (eqI a.Op 3)then(eqI a.Op 3)else(bif (eqI a.Op 4)then(eqI a.Op 4)else(bif (eqI a.Op 5)then(eqI a.Op 5)else(bif (eqI a.Op 6)then(eqI a.Op 6)else(bif (eqI a.Op 7)then(eqI a.Op 7)else(eqI a.Op 8))))))) (.ok true (.ok true (.ok true (.leaf (bif (eqI a.Sub 0)then(bif (eqI a.Size 2)then true else(dC a.Ea.Mode 1))else false))))) (.ok true (.br (eqI a.Op 2) (.ok (((aIF a)||(!(eqI a.Sub 0)))&&true) (.ok true (.ok true (.leaf (bif (eqI a.Sub 0)then(aIG a)else false))))) (.ok true (.br (eqI a.Op 9) (.ok true (.ok true (.ok true (.leaf (RD a))))) (.ok true (.br (eqI a.Op 10) (.ok ((((bBC a.Ea.Mode)&&true)||(!(RD a)))&&true) (.ok true (.ok true (.leaf (bif (RD a)then(bBB a.Ea.Mode)else false))))) (.ok true (.br (eqI a.Op 11) (.ok (((aIF a)||(!(aIH a)))&&true) (.ok true (.ok true (.leaf (bif (aIH a)then(aIG a)else false))))) (.ok true (.br (eqI a.Op 12) (.ok true (.ok true (.ok true (.leaf (eqI a.Ea.Mode 0))))) (.ok true (.br (eqI a.Op 13) (.ok true (.ok true (.ok true (.leaf (bif (bif (eqI a.Size 2)then(leI a.Reg 1)else false)then(eqI a.Ea.Mode 7)else false))))) (.ok true (.br (eqI a.Op 14) (.ok ((((bBC a.Ea.Mode)&&true)||(!(aII a)))&&true) (.ok true (.ok true (.leaf (bif (aII a)then(bBB a.Ea.Mode)else false))))) (.ok true (.ok true (.br (bif (eqI a.Op 16)then(eqI a.Op 16)else(eqI a.Op 17)) (.ok true (.ok true (.ok true (.leaf (bif (RD a)then(dC a.Ea.Mode 1)else false))))) (.ok true (.br (eqI a.Op 18) (.ok true (.ok true (.ok true (.leaf (bif (bif (!(eqI a.Size 2))then(leI a.Sub 1)else false)then(eqI a.Ea.Mode 0)else false))))) (.ok true (.br (eqI a.Op 19) (.ok ((((((bBE a.Ea)&&true)||(!(aIJ a)))&&((((((bBG a.Ea)&&true)||(!(eqI a.Sub 1)))&&true)||(aIK a))&&true))||(!(eqI a.Size 2)))&&true) (.ok true (.ok true (.leaf (bif (eqI a.Size 2)then(bif (aIK a)then true else(bif (eqI a.Sub 1)then(bBF a.Ea)else false))else false))))) (.ok true (.br (eqI a.Op 15) (.ok true (.br (eqI a.Sub 3) (.ok ((((bBE a.Ea)&&true)||(!(Y7 a)))&&true) (.ok true (.ok true (.leaf (bif (Y7 a)then(bBD a.Ea)else false))))) (.ok ((((bBG a.Ea)&&true)||(!(Y8 a)))&&true) (.ok true (.ok true (.leaf (bif (bif (Y8 a)then(bBF a.Ea)else false)then(bif (kU a.Sub 3)then true else(eqI a.Reg 0))else false))))))) (.ok true (.ok true (.ok true (.leaf false))))))))))))))))))))))))))))))))))))
def sZ(a:aQ):Bool:=hid (a0V a).val
def tA(a:aQ):Bool:=hid (a0V a).okv
def OM(a:aQ)(r:Bool):SV×List Blk:=((.one (.lit (.bool r))),[])
def q126:=DS7 (fun a=>OM a (sZ a)) tA
theorem cAW:cK 100126 q126:=N7 fun a hk=>tz bXR aOR [(6,K0),(11,K0),(17,K4),(23,K0),(30,K0),(34,K0),(40,K0),(45,K0),(49,K0),(51,K0),(61,K0),(73,K0),(88,K0),(96,K0),(106,K0),(110,K0),(130,K0),(142,K0),(147,K0),(160,K0),(173,K0),(185,K0),(189,K0),(194,K4),(199,K0),(203,K4),(211,K0),(216,K0),(221,K4),(227,K0),(232,K4),(237,K0),(241,K0)] [] true (a0V a) (OM a) hk
def Q126:=aZ 100126 q126 Q195
theorem Y9:QO Q126:=aF cAW aOR
def K5:List Kd:=[.int .i64, .int .i64, .int .i64, .int .i64, .int .i64, .int .i64, .int .i64]
structure V185_0 where
 mk::
 (b0:aM)
 (b1:aQ)
 (s3:Int)
section
variable(v:V185_0)
def cO:aM×Int:=(cW 4 (cW 2 (cW 19 v.b0).1).1)
def G0:Bool:=(eqI (bE 1 (cW 2 (cW 19 v.b0).1).2) 1)
def G1:Bool:=(bif (G0 v)then(eqI (rT (cO v).1).2.Mode 7)else false)
def lH:aG:={(rT (cO v).1).2 with Ext:=(bH (rT (cO v).1).2.Ext 255)}
def pK:aM×Int:=(cW 4 (rT (cO v).1).1)
def AS:Bool:=(w7 2 (rT (cO v).1).1)
def dL:aM×Int:=(cW 2 (rT (cO v).1).1)
def AT:Bool:=(((AS v)&&((w7 7 (dL v).1)&&((yB (eqI (bE 1 (cW 19 v.b0).2) 12) 1)&&true)))&&true)
def rU:Int:=(dH (dL v).2 (bE 1 (dH (cW 7 (dL v).1).2 (yA (eqI (bE 1 (cW 19 v.b0).2) 12) 1))))
def G2:Bool:=(((s1 v.s3)&&true)&&((((s1 true)&&(r1 (cW 7 (dL v).1).1.fcode))&&((s1 (cW 7 (dL v).1).1.fat)&&((s1 (cW 7 (dL v).1).1.fseed)&&true)))&&((rQ v.b1 true)&&(((s1 (bE 1 (cW 19 v.b0).2))&&((s1 (bE 1 (cW 2 (cW 19 v.b0).1).2))&&((s1 (cO v).2)&&(rR (rT (cO v).1).2 ((s1 (rU v))&&true)))))&&true))))
def p7:aM×Int:=(cW 4 (cW 7 (dL v).1).1)
def CP:Bool:=((tA (aQ.mk (bE 1 (cW 19 v.b0).2) 1 (cO v).2 (aG.mk 0 (p7 v).2 0) (bH (rU v) 7)))&&true)
def CQ:Bool:=(sZ (aQ.mk (bE 1 (cW 19 v.b0).2) 1 (cO v).2 (aG.mk 0 (p7 v).2 0) (bH (rU v) 7)))
def tC:V185_0:=(V185_0.mk (p7 v).1 v.b1 (bE v.s3 1))
def CS:Bool:=((tA (aQ.mk (bE 1 (cW 19 v.b0).2) (bE 1 (cW 2 (cW 19 v.b0).1).2) (cO v).2 (aG.mk 0 (p7 v).2 0) (bH (rU v) 7)))&&true)
def CT:Bool:=(sZ (aQ.mk (bE 1 (cW 19 v.b0).2) (bE 1 (cW 2 (cW 19 v.b0).1).2) (cO v).2 (aG.mk 0 (p7 v).2 0) (bH (rU v) 7)))
def nN:aM×Int:=(N6 [(bB 2),(bB 4),(bB 6),(bB 8),(bB 65526),(bB 65530),(bB 0),(bB 3)] (cW 8 (dL v).1).1)
def dQ:aM×Int:=(N6 [(bB 0),(bB 1),(bB 2),(bB 2),(bB 3),(bB 4),(bB 5),(bB 6)] (rT (cO v).1).1)
def hU:aM×Int:=(cW 4 (dQ v).1)
def nO:aM×Int:=(N6 [(bB 0),(bB 256),(bB 512),(bB 1023)] (hU v).1)
def CU:Bool:=((tA (aQ.mk 15 2 (hU v).2 (aG.mk 0 0 0) (dQ v).2))&&true)
def CV:Bool:=(sZ (aQ.mk 15 2 (hU v).2 (aG.mk 0 0 0) (dQ v).2))
def nP:aM×Int:=(N6 [(bB 0),(bB 256),(bB 512),(bB 1023)] (dQ v).1)
def CW:Bool:=((tA (aQ.mk 15 2 0 (aG.mk 0 0 0) (dQ v).2))&&true)
def CX:Bool:=(sZ (aQ.mk 15 2 0 (aG.mk 0 0 0) (dQ v).2))
def nQ:aM×Int:=(N6 [(bB 0),(bB 256),(bB 480),(bB 768),(bB 31)] (rT (cO v).1).1)
def p8:aM×Bool:=(nB 2 (nQ v).1)
def tD:aM×Int:=(cW 4 (p8 v).1)
def CY:Bool:=((tA (aQ.mk 19 2 (tD v).2 (aG.mk 0 0 0) 1))&&true)
def CZ:Bool:=(sZ (aQ.mk 19 2 (tD v).2 (aG.mk 0 0 0) 1))
def tE:V185_0:=(V185_0.mk (rT (cO v).1).1 v.b1 (bE v.s3 1))
end
def C0(v:V185_0):Pt (Option V185_0):=(.ok true (.br (ltI v.s3 6) (.ok ((w7 19 v.b0)&&((w7 2 (cW 19 v.b0).1)&&((w7 4 (cW 2 (cW 19 v.b0).1).1)&&((bA7 (cO v).1)&&true)))) (.ok true (.ok true (.br (eqI (bE 1 (cW 19 v.b0).2) 11) (.ok true (.ok ((w7 4 (rT (cO v).1).1)&&true) (.ok true (.br (G1 v) (.ok true (.ok ((tA (aQ.mk (bE 1 (cW 19 v.b0).2) (bE 1 (cW 2 (cW 19 v.b0).1).2) 0 (lH v) (pK v).2))&&true) (.br (sZ (aQ.mk (bE 1 (cW 19 v.b0).2) (bE 1 (cW 2 (cW 19 v.b0).1).2) 0 (lH v) (pK v).2)) (.ok true (.leaf none)) (.ok true (.ok true (.leaf (some (V185_0.mk (pK v).1 v.b1 (bE v.s3 1))))))))) (.ok ((tA (aQ.mk (bE 1 (cW 19 v.b0).2) (bE 1 (cW 2 (cW 19 v.b0).1).2) 0 (rT (cO v).1).2 (pK v).2))&&true) (.br (sZ (aQ.mk (bE 1 (cW 19 v.b0).2) (bE 1 (cW 2 (cW 19 v.b0).1).2) 0 (rT (cO v).1).2 (pK v).2)) (.ok true (.leaf none)) (.ok true (.ok true (.leaf (some (V185_0.mk (pK v).1 v.b1 (bE v.s3 1)))))))))))) (.ok true (.ok true (.br (bif (eqI (bE 1 (cW 19 v.b0).2) 12)then(eqI (bE 1 (cW 19 v.b0).2) 12)else(eqI (bE 1 (cW 19 v.b0).2) 18)) (.ok ((AT v)&&(((AT v)&&((AT v)&&(G2 v)))&&(G2 v))) (.ok true (.ok ((w7 4 (cW 7 (dL v).1).1)&&true) (.ok true (.br (eqI (bE 1 (cW 19 v.b0).2) 18) (.ok true (.ok true (.br false (.ok true (.ok (CP v) (.br (CQ v) (.ok true (.leaf none)) (.ok true (.ok true (.leaf (some (tC v)))))))) (.ok (CP v) (.br (CQ v) (.ok true (.leaf none)) (.ok true (.ok true (.leaf (some (tC v)))))))))) (.ok true (.br (bif (G0 v)then false else false) (.ok true (.ok (CS v) (.br (CT v) (.ok true (.leaf none)) (.ok true (.ok true (.leaf (some (tC v)))))))) (.ok (CS v) (.br (CT v) (.ok true (.leaf none)) (.ok true (.ok true (.leaf (some (tC v)))))))))))))) (.ok true (.br (eqI (bE 1 (cW 19 v.b0).2) 13) (.ok ((AS v)&&((w7 8 (dL v).1)&&((k90 [(bB 2),(bB 4),(bB 6),(bB 8),(bB 65526),(bB 65530),(bB 0),(bB 3)] (cW 8 (dL v).1).1)&&true))) (.ok true (.br false (.ok true (.ok ((tA (aQ.mk 13 2 (dL v).2 (aG.mk 7 0 (bH (nN v).2 255)) (cW 8 (dL v).1).2))&&true) (.br (sZ (aQ.mk 13 2 (dL v).2 (aG.mk 7 0 (bH (nN v).2 255)) (cW 8 (dL v).1).2)) (.ok true (.leaf none)) (.ok true (.ok true (.leaf (some (V185_0.mk (nN v).1 v.b1 (bE v.s3 1))))))))) (.ok ((tA (aQ.mk 13 2 (dL v).2 (aG.mk 7 0 (nN v).2) (cW 8 (dL v).1).2))&&true) (.br (sZ (aQ.mk 13 2 (dL v).2 (aG.mk 7 0 (nN v).2) (cW 8 (dL v).1).2)) (.ok true (.leaf none)) (.ok true (.ok true (.leaf (some (V185_0.mk (nN v).1 v.b1 (bE v.s3 1))))))))))) (.ok true (.br (eqI (bE 1 (cW 19 v.b0).2) 14) (.ok true (.ok true (.ok ((AS v)&&true) (.ok true (.br false (.ok true (.ok ((tA (aQ.mk (bE 1 (cW 19 v.b0).2) 2 0 (lH v) (dL v).2))&&true) (.br (sZ (aQ.mk (bE 1 (cW 19 v.b0).2) 2 0 (lH v) (dL v).2)) (.ok true (.leaf none)) (.ok true (.ok true (.leaf (some (V185_0.mk (dL v).1 v.b1 (bE v.s3 1))))))))) (.ok ((tA (aQ.mk (bE 1 (cW 19 v.b0).2) 2 0 (rT (cO v).1).2 (dL v).2))&&true) (.br (sZ (aQ.mk (bE 1 (cW 19 v.b0).2) 2 0 (rT (cO v).1).2 (dL v).2)) (.ok true (.leaf none)) (.ok true (.ok true (.leaf (some (V185_0.mk (dL v).1 v.b1 (bE v.s3 1))))))))))))) (.ok true (.br (eqI (bE 1 (cW 19 v.b0).2) 15) (.ok ((k90 [(bB 0),(bB 1),(bB 2),(bB 2),(bB 3),(bB 4),(bB 5),(bB 6)] (rT (cO v).1).1)&&true) (.ok true (.br (kU (dQ v).2 3) (.ok ((w7 4 (dQ v).1)&&true) (.ok true (.br (eqI (dQ v).2 3) (.ok ((k90 [(bB 0),(bB 256),(bB 512),(bB 1023)] (hU v).1)&&true) (.ok true (.br false (.ok true (.ok ((tA (aQ.mk 15 2 (hU v).2 (aG.mk 7 0 (bH (nO v).2 255)) (dQ v).2))&&true) (.br (sZ (aQ.mk 15 2 (hU v).2 (aG.mk 7 0 (bH (nO v).2 255)) (dQ v).2)) (.ok true (.leaf none)) (.ok true (.ok true (.leaf (some (V185_0.mk (nO v).1 v.b1 (bE v.s3 1))))))))) (.ok ((tA (aQ.mk 15 2 (hU v).2 (aG.mk 7 0 (nO v).2) (dQ v).2))&&true) (.br (sZ (aQ.mk 15 2 (hU v).2 (aG.mk 7 0 (nO v).2) (dQ v).2)) (.ok true (.leaf none)) (.ok true (.ok true (.leaf (some (V185_0.mk (nO v).1 v.b1 (bE v.s3 1))))))))))) (.ok true (.br false (.ok true (.ok (CU v) (.br (CV v) (.ok true (.leaf none)) (.ok true (.ok true (.leaf (some (V185_0.mk (hU v).1 v.b1 (bE v.s3 1))))))))) (.ok (CU v) (.br (CV v) (.ok true (.leaf none)) (.ok true (.ok true (.leaf (some (V185_0.mk (hU v).1 v.b1 (bE v.s3 1))))))))))))) (.ok true (.br (eqI (dQ v).2 3) (.ok ((k90 [(bB 0),(bB 256),(bB 512),(bB 1023)] (dQ v).1)&&true) (.ok true (.br false (.ok true (.ok ((tA (aQ.mk 15 2 0 (aG.mk 7 0 (bH (nP v).2 255)) (dQ v).2))&&true) (.br (sZ (aQ.mk 15 2 0 (aG.mk 7 0 (bH (nP v).2 255)) (dQ v).2)) (.ok true (.leaf none)) (.ok true (.ok true (.leaf (some (V185_0.mk (nP v).1 v.b1 (bE v.s3 1))))))))) (.ok ((tA (aQ.mk 15 2 0 (aG.mk 7 0 (nP v).2) (dQ v).2))&&true) (.br (sZ (aQ.mk 15 2 0 (aG.mk 7 0 (nP v).2) (dQ v).2)) (.ok true (.leaf none)) (.ok true (.ok true (.leaf (some (V185_0.mk (nP v).1 v.b1 (bE v.s3 1))))))))))) (.ok true (.br false (.ok true (.ok (CW v) (.br (CX v) (.ok true (.leaf none)) (.ok true (.ok true (.leaf (some (V185_0.mk (dQ v).1 v.b1 (bE v.s3 1))))))))) (.ok (CW v) (.br (CX v) (.ok true (.leaf none)) (.ok true (.ok true (.leaf (some (V185_0.mk (dQ v).1 v.b1 (bE v.s3 1))))))))))))))) (.ok true (.br (eqI (bE 1 (cW 19 v.b0).2) 19) (.ok ((k90 [(bB 0),(bB 256),(bB 480),(bB 768),(bB 31)] (rT (cO v).1).1)&&true) (.ok ((k86 2 (nQ v).1)&&true) (.br (p8 v).2 (.ok ((w7 4 (p8 v).1)&&true) (.ok true (.br false (.ok true (.ok (CY v) (.br (CZ v) (.ok true (.leaf none)) (.ok true (.ok true (.leaf (some (V185_0.mk (tD v).1 v.b1 (bE v.s3 1))))))))) (.ok (CY v) (.br (CZ v) (.ok true (.leaf none)) (.ok true (.ok true (.leaf (some (V185_0.mk (tD v).1 v.b1 (bE v.s3 1))))))))))) (.ok true (.br false (.ok true (.ok ((tA (aQ.mk 19 2 0 (aG.mk 7 0 (bH (nQ v).2 255)) 0))&&true) (.br (sZ (aQ.mk 19 2 0 (aG.mk 7 0 (bH (nQ v).2 255)) 0)) (.ok true (.leaf none)) (.ok true (.ok true (.leaf (some (V185_0.mk (p8 v).1 v.b1 (bE v.s3 1))))))))) (.ok ((tA (aQ.mk 19 2 0 (aG.mk 7 0 (nQ v).2) 0))&&true) (.br (sZ (aQ.mk 19 2 0 (aG.mk 7 0 (nQ v).2) 0)) (.ok true (.leaf none)) (.ok true (.ok true (.leaf (some (V185_0.mk (p8 v).1 v.b1 (bE v.s3 1))))))))))))) (.ok true (.ok true (.br (bif (eqI (bE 1 (cW 19 v.b0).2) 16)then(eqI (bE 1 (cW 19 v.b0).2) 16)else(bif (eqI (bE 1 (cW 19 v.b0).2) 17)then(eqI (bE 1 (cW 19 v.b0).2) 17)else(bif (eqI (bE 1 (cW 19 v.b0).2) 9)then(eqI (bE 1 (cW 19 v.b0).2) 9)else(eqI (bE 1 (cW 19 v.b0).2) 10)))) (.ok true (.ok true (.br false (.ok true (.ok ((tA (aQ.mk (bE 1 (cW 19 v.b0).2) 2 (cO v).2 (lH v) 0))&&true) (.br (sZ (aQ.mk (bE 1 (cW 19 v.b0).2) 2 (cO v).2 (lH v) 0)) (.ok true (.leaf none)) (.ok true (.ok true (.leaf (some (tE v)))))))) (.ok ((tA (aQ.mk (bE 1 (cW 19 v.b0).2) 2 (cO v).2 (rT (cO v).1).2 0))&&true) (.br (sZ (aQ.mk (bE 1 (cW 19 v.b0).2) 2 (cO v).2 (rT (cO v).1).2 0)) (.ok true (.leaf none)) (.ok true (.ok true (.leaf (some (tE v)))))))))) (.ok true (.br (G1 v) (.ok true (.ok ((tA (aQ.mk (bE 1 (cW 19 v.b0).2) (bE 1 (cW 2 (cW 19 v.b0).1).2) (cO v).2 (lH v) 0))&&true) (.br (sZ (aQ.mk (bE 1 (cW 19 v.b0).2) (bE 1 (cW 2 (cW 19 v.b0).1).2) (cO v).2 (lH v) 0)) (.ok true (.leaf none)) (.ok true (.ok true (.leaf (some (tE v)))))))) (.ok ((tA (aQ.mk (bE 1 (cW 19 v.b0).2) (bE 1 (cW 2 (cW 19 v.b0).1).2) (cO v).2 (rT (cO v).1).2 0))&&true) (.br (sZ (aQ.mk (bE 1 (cW 19 v.b0).2) (bE 1 (cW 2 (cW 19 v.b0).1).2) (cO v).2 (rT (cO v).1).2 0)) (.ok true (.leaf none)) (.ok true (.ok true (.leaf (some (tE v))))))))))))))))))))))))))) (.leaf none)))
def RE(v:V185_0):St:=⟨[(0,(.one (.ptr 0 0 0))),(2,(.one (.ptr 1 0 0))),(3,(.one (li v.s3)))],[.box [.imm true 1 v.b0.fcode,li v.b0.fat, .lit (.int .u64 v.b0.fseed)], .box [li v.b1.Op,li v.b1.Size,li v.b1.Reg,li v.b1.Ea.Mode,li v.b1.Ea.Reg,li v.b1.Ea.Ext,li v.b1.Sub]]⟩
def ZA:St→Option (V185_0×Bool)
 |⟨[(0,(.one (.ptr 0 0 0))),(2,(.one (.ptr 1 0 0))),(3,(.one (li c10)))],[.box [.imm true 1 c0,li c1, .lit (.int .u64 c2)], .box [li c3,li c4,li c5,li c6,li c7,li c8,li c9]]⟩=>some ((V185_0.mk (aM.mk c0 c1 c2) (aQ.mk c3 c4 c5 (aG.mk c6 c7 c8) c9) c10),true)
 |_=>none
def ZB:St→Option (Pt Out):=x9 Q126 [(21,K0),(36,K0),(44,K0),(52,K0),(80,K0),(86,K0),(112,K0),(117,K0),(122,K0),(126,K5),(128,K5)] [] true [] 1 2097152 aHU
theorem bBH(v:V185_0):((ZB (RE v)).bind (sY true false 1 [0,2,3]))=some ((C0 v).map (Option.map RE)):=by kernel_rfl
theorem bBI(σ:St)(v:V185_0)(h:ZA σ=some (v,true)):σ=RE v:=by
 unfold ZA at h;split at h
 ·obtain⟨hr,hk⟩:=qp (qi h);rw[←hr];rfl
 ·simp at h
theorem bBJ:dB (vF true false 1 [0,2,3] ZB ZA RE C0 2097152) (fY R 1 2097152 (.loop [0,2,3] aHU)):=eM (dD Y9 (cQ (l:=[]) (by kernel_rfl) trivial)) bBI bBH
def bBK:Lp:=(5,vF true false 1 [0,2,3] ZB ZA RE C0 2097152)::[]
def aIL(v:V185_0):V185_0:=(hid (eG C0 2097152 v)).getD v
def aIM(v:V185_0):Bool:=(hid (eG C0 2097152 v)).isSome
section
variable(a:aM)
def gM:V185_0:=(aIL (V185_0.mk a (aQ.mk 0 0 0 (aG.mk 0 0 0) 0) 0))
def lX:aM×Int:=(cW 2 (cW 19 (gM a).b0).1)
def gN:aM×aG:=(rT (cW 4 (lX a).1).1)
def aIN:Bool:=(bif (eqI (bE 1 (lX a).2) 1)then(eqI (gN a).2.Mode 7)else false)
def RF:aG:={(gN a).2 with Ext:=(bH (gN a).2.Ext 255)}
def ZC:Bool:=(eqI (bE 1 (cW 19 (gM a).b0).2) 12)
def aIO:Bool:=(eqI (bE 1 (cW 19 (gM a).b0).2) 18)
def yC:aM×Int:=(cW 7 (cW 2 (gN a).1).1)
def RG:Int:=(bH (dH (cW 2 (gN a).1).2 (bE 1 (dH (yC a).2 (yA (ZC a) 1)))) 7)
def ZD:aM×Int:=(cW 8 (cW 2 (gN a).1).1)
def JH:aM×Int:=(N6 [(bB 2),(bB 4),(bB 6),(bB 8),(bB 65526),(bB 65530),(bB 0),(bB 3)] (ZD a).1)
def gC:aM×Int:=(N6 [(bB 0),(bB 1),(bB 2),(bB 2),(bB 3),(bB 4),(bB 5),(bB 6)] (gN a).1)
def JI:aM×Int:=(N6 [(bB 0),(bB 256),(bB 512),(bB 1023)] (cW 4 (gC a).1).1)
def JJ:aM×Int:=(N6 [(bB 0),(bB 256),(bB 512),(bB 1023)] (gC a).1)
def AU:aM×Int:=(N6 [(bB 0),(bB 256),(bB 480),(bB 768),(bB 31)] (gN a).1)
def JK:aM×Int:=(cW 4 (nB 2 (AU a).1).1)
def ZE:Bool:=(eqI (bE 1 (cW 19 (gM a).b0).2) 16)
def ZF:Bool:=(eqI (bE 1 (cW 19 (gM a).b0).2) 17)
def ZG:Bool:=(eqI (bE 1 (cW 19 (gM a).b0).2) 9)
end
def aVV(a:aM):Pt (aM×aQ):=(.ok true (.ok true (.ok true (.ok true (.ok (aIM (V185_0.mk a (aQ.mk 0 0 0 (aG.mk 0 0 0) 0) 0)) (.br (ltI (gM a).s3 6) (.br (eqI (bE 1 (cW 19 (gM a).b0).2) 11) (.br (aIN a) (.ok true (.leaf ((cW 4 (gN a).1).1,(aQ.mk (bE 1 (cW 19 (gM a).b0).2) (bE 1 (lX a).2) 0 (RF a) (cW 4 (gN a).1).2)))) (.ok true (.leaf ((cW 4 (gN a).1).1,(aQ.mk (bE 1 (cW 19 (gM a).b0).2) (bE 1 (lX a).2) 0 (gN a).2 (cW 4 (gN a).1).2))))) (.br (bif (ZC a)then(ZC a)else(aIO a)) (.br (aIO a) (.br false (.ok true (.leaf ((cW 4 (yC a).1).1,(aQ.mk (bE 1 (cW 19 (gM a).b0).2) 1 (cW 4 (lX a).1).2 (aG.mk 0 (cW 4 (yC a).1).2 0) (RG a))))) (.ok true (.leaf ((cW 4 (yC a).1).1,(aQ.mk (bE 1 (cW 19 (gM a).b0).2) 1 (cW 4 (lX a).1).2 (aG.mk 0 (cW 4 (yC a).1).2 0) (RG a)))))) (.br (bif (eqI (bE 1 (lX a).2) 1)then false else false) (.ok true (.leaf ((cW 4 (yC a).1).1,(aQ.mk (bE 1 (cW 19 (gM a).b0).2) (bE 1 (lX a).2) (cW 4 (lX a).1).2 (aG.mk 0 (cW 4 (yC a).1).2 0) (RG a))))) (.ok true (.leaf ((cW 4 (yC a).1).1,(aQ.mk (bE 1 (cW 19 (gM a).b0).2) (bE 1 (lX a).2) (cW 4 (lX a).1).2 (aG.mk 0 (cW 4 (yC a).1).2 0) (RG a))))))) (.br (eqI (bE 1 (cW 19 (gM a).b0).2) 13) (.br false (.ok true (.leaf ((JH a).1,(aQ.mk 13 2 (cW 2 (gN a).1).2 (aG.mk 7 0 (bH (JH a).2 255)) (ZD a).2)))) (.ok true (.leaf ((JH a).1,(aQ.mk 13 2 (cW 2 (gN a).1).2 (aG.mk 7 0 (JH a).2) (ZD a).2))))) (.br (eqI (bE 1 (cW 19 (gM a).b0).2) 14) (.br false (.ok true (.leaf ((cW 2 (gN a).1).1,(aQ.mk (bE 1 (cW 19 (gM a).b0).2) 2 0 (RF a) (cW 2 (gN a).1).2)))) (.ok true (.leaf ((cW 2 (gN a).1).1,(aQ.mk (bE 1 (cW 19 (gM a).b0).2) 2 0 (gN a).2 (cW 2 (gN a).1).2))))) (.br (eqI (bE 1 (cW 19 (gM a).b0).2) 15) (.br (kU (gC a).2 3) (.br (eqI (gC a).2 3) (.br false (.ok true (.leaf ((JI a).1,(aQ.mk 15 2 (cW 4 (gC a).1).2 (aG.mk 7 0 (bH (JI a).2 255)) (gC a).2)))) (.ok true (.leaf ((JI a).1,(aQ.mk 15 2 (cW 4 (gC a).1).2 (aG.mk 7 0 (JI a).2) (gC a).2))))) (.br false (.ok true (.leaf ((cW 4 (gC a).1).1,(aQ.mk 15 2 (cW 4 (gC a).1).2 (aG.mk 0 0 0) (gC a).2)))) (.ok true (.leaf ((cW 4 (gC a).1).1,(aQ.mk 15 2 (cW 4 (gC a).1).2 (aG.mk 0 0 0) (gC a).2)))))) (.br (eqI (gC a).2 3) (.br false (.ok true (.leaf ((JJ a).1,(aQ.mk 15 2 0 (aG.mk 7 0 (bH (JJ a).2 255)) (gC a).2)))) (.ok true (.leaf ((JJ a).1,(aQ.mk 15 2 0 (aG.mk 7 0 (JJ a).2) (gC a).2))))) (.br false (.ok true (.leaf ((gC a).1,(aQ.mk 15 2 0 (aG.mk 0 0 0) (gC a).2)))) (.ok true (.leaf ((gC a).1,(aQ.mk 15 2 0 (aG.mk 0 0 0) (gC a).2))))))) (.br (eqI (bE 1 (cW 19 (gM a).b0).2) 19) (.br (nB 2 (AU a).1).2 (.br false (.ok true (.leaf ((JK a).1,(aQ.mk 19 2 (JK a).2 (aG.mk 0 0 0) 1)))) (.ok true (.leaf ((JK a).1,(aQ.mk 19 2 (JK a).2 (aG.mk 0 0 0) 1))))) (.br false (.ok true (.leaf ((nB 2 (AU a).1).1,(aQ.mk 19 2 0 (aG.mk 7 0 (bH (AU a).2 255)) 0)))) (.ok true (.leaf ((nB 2 (AU a).1).1,(aQ.mk 19 2 0 (aG.mk 7 0 (AU a).2) 0)))))) (.br (bif (ZE a)then(ZE a)else(bif (ZF a)then(ZF a)else(bif (ZG a)then(ZG a)else(eqI (bE 1 (cW 19 (gM a).b0).2) 10)))) (.br false (.ok true (.leaf ((gN a).1,(aQ.mk (bE 1 (cW 19 (gM a).b0).2) 2 (cW 4 (lX a).1).2 (RF a) 0)))) (.ok true (.leaf ((gN a).1,(aQ.mk (bE 1 (cW 19 (gM a).b0).2) 2 (cW 4 (lX a).1).2 (gN a).2 0))))) (.br (aIN a) (.ok true (.leaf ((gN a).1,(aQ.mk (bE 1 (cW 19 (gM a).b0).2) (bE 1 (lX a).2) (cW 4 (lX a).1).2 (RF a) 0)))) (.ok true (.leaf ((gN a).1,(aQ.mk (bE 1 (cW 19 (gM a).b0).2) (bE 1 (lX a).2) (cW 4 (lX a).1).2 (gN a).2 0)))))))))))) (.ok true (.ok true (.leaf ((gM a).b0,(aQ.mk 15 2 0 (aG.mk 0 0 0) 2)))))))))))
def ON(a:aM):aM×aQ:=hid (aVV a).val
def bBL(a:aM):Bool:=hid (aVV a).okv
def bBM(a:aM)(r:aM×aQ):SV×List Blk:=((.agg [li r.2.Op,li r.2.Size,li r.2.Reg,li r.2.Ea.Mode,li r.2.Ea.Reg,li r.2.Ea.Ext,li r.2.Sub]),[.box [.imm true 1 r.1.fcode,li r.1.fat, .lit (.int .u64 r.1.fseed)]])
def q185:=DS0 (fun a=>bBM a (ON a)) bBL
theorem b2Q:fM (fun live x=>dB (oV bBK (m6 x)) (fY R 1 2097152 (.loop live x))) F185.body:=(cQ (l:=[([0,2,3],aHU)]) (by kernel_rfl) ⟨fN (n:=5) (by kernel_rfl) fun σ σr t h ho hl=>bBJ σ σr t h ho hl,trivial⟩)
theorem cAX:cK 185 q185:=JG fun a hk=>tcl bYY Y9 b2Q [(21,K0),(36,K0),(44,K0),(52,K0),(80,K0),(86,K0),(112,K0),(117,K0),(122,K0),(126,K5),(128,K5)] [] true (aVV a) (bBM a) hk
def Q185:=aZ 185 q185 Q126
theorem aOS:QO Q185:=aF cAX Y9
section
variable(a:aM)
def LO:aM×Int:=(cW 22 (nB 20 (ON a).1).1)
def LP:aM×Int:=(cW 5 (cW 4 (LO a).1).1)
def aIP:aM×Int:=(cW 9 (rT (LP a).1).1)
end
def a0W(a:aM):Pt (aM×aQ):=(.ok true (.ok ((bBL a)&&true) (.ok ((k86 20 (ON a).1)&&true) (.br (nB 20 (ON a).1).2 (.ok ((w7 22 (nB 20 (ON a).1).1)&&((w7 4 (LO a).1)&&((w7 5 (cW 4 (LO a).1).1)&&((bA7 (LP a).1)&&((w7 9 (rT (LP a).1).1)&&true))))) (.ok true (.ok true (.leaf ((aIP a).1,(aQ.mk (LO a).2 (cW 4 (LO a).1).2 (LP a).2 (rT (LP a).1).2 (aIP a).2)))))) (.ok true (.ok true (.leaf ((nB 20 (ON a).1).1,(ON a).2))))))))
def aIQ(a:aM):aM×aQ:=hid (a0W a).val
def a0X(a:aM):Bool:=hid (a0W a).okv
def q123:=DS0 (fun a=>bBM a (aIQ a)) a0X
theorem cAY:cK 123 q123:=JG fun a hk=>tc bXP aOS [(19,K5)] [] true (a0W a) (bBM a) hk
def Q123:=aZ 123 q123 Q185
theorem ZH:QO Q123:=aF cAY aOS
structure V202_0 where
 mk::
 (b0:aM)
 (s3:List Row)
 (s4:Int)
section
variable(v:V202_0)
def G3:Nat:=(ln (v.s3++[(aQ.row (ON v.b0).2)]))
end
def LQ(v:V202_0):Pt (Option V202_0):=(.ok true (.br (kU v.s4 0) (.ok ((bBL v.b0)&&(((e1 (ln v.s3))&&((eC (0+(ln v.s3)) (ln v.s3))&&((qQ (vX ((ln v.s3)+1) 56) 140737488355328)&&(qQ ((ln v.s3)+1) 140737488355328))))&&true)) (.ok true (.ok (((e1 (G3 v))&&true)&&((e1 (G3 v))&&true)) (.leaf (some (V202_0.mk (ON v.b0).1 (v.s3++[(aQ.row (ON v.b0).2)]) (cN v.s4 1))))))) (.leaf none)))
def RH(v:V202_0):St:=⟨[(0,(.one (.ptr 0 0 0))),(3,(.one (.sl 1 0 (ln v.s3)))),(4,(.one (li v.s4)))],[.box [.imm true 1 v.b0.fcode,li v.b0.fat, .lit (.int .u64 v.b0.fseed)], .lst 7 v.s3]⟩
def ZI:St→Option (V202_0×Bool)
 |⟨[(0,(.one (.ptr 0 0 0))),(3,(.one (.sl 1 0 l1))),(4,(.one (li c3)))],[.box [.imm true 1 c0,li c1, .lit (.int .u64 c2)], .lst 7 c_1]⟩=>some ((V202_0.mk (aM.mk c0 c1 c2) c_1 c3),eC l1 (ln c_1)&&(true))
 |_=>none
def ZJ:St→Option (Pt Out):=x9 Q123 [(31,K5),(1000000,[])] [] true [] 1 2097152 aHW
theorem bBN(v:V202_0):((ZJ (RH v)).bind (sY true false 1 [0,3,4]))=some ((LQ v).map (Option.map RH)):=by kernel_rfl
theorem bBO(σ:St)(v:V202_0)(h:ZI σ=some (v,true)):σ=RH v:=by
 unfold ZI at h;split at h
 ·obtain⟨hr,hk⟩:=qp (qi h);obtain⟨d0,hk0⟩:=bJ hk;obtain rfl:=of_decide_eq_true d0;rw[←hr];rfl
 ·simp at h
theorem bBP:dB (vF true false 1 [0,3,4] ZJ ZI RH LQ 2097152) (fY R 1 2097152 (.loop [0,3,4] aHW)):=eM (dD ZH (cQ (l:=[]) (by kernel_rfl) trivial)) bBO bBN
def bBQ:Lp:=(12,vF true false 1 [0,3,4] ZJ ZI RH LQ 2097152)::[]
def RJ(v:V202_0):V202_0:=(hid (eG LQ 2097152 v)).getD v
def ZK(v:V202_0):Bool:=(hid (eG LQ 2097152 v)).isSome
section
variable(a:aM)
def RK:aM×Int:=(cW 2 (nB 20 (cW 8 a).1).1)
def gO:V202_0:=(RJ (V202_0.mk (RK a).1 [] (bE 40 (RK a).2)))
def RL:aM:=(aM.mk (bif (kU (cA (gO a).s3) 0)then(nB 20 (gO a).b0).1.fcode else(gO a).b0.fcode) (bif (kU (cA (gO a).s3) 0)then(nB 20 (gO a).b0).1.fat else(gO a).b0.fat) (bif (kU (cA (gO a).s3) 0)then(nB 20 (gO a).b0).1.fseed else(gO a).b0.fseed))
def LR:List Row:=(bif (kU (cA (gO a).s3) 0)then(gO a).s3 else(gO a).s3)
def aIR:List Row:=(List.set (LR a) 0 (aQ.row (aIQ (RL a)).2))
def aIS:Bool:=((e1 (ln (gO a).s3))&&true)
def aIT:List Row:=(List.take (ln (gO a).s3) (aIR a))
def aIU:List Row:=(List.take (ln (gO a).s3) (LR a))
def gP:V202_0:=(RJ (V202_0.mk (nB 20 (cW 8 a).1).1 [] (cW 8 a).2))
def RN:aM:=(aM.mk (bif (kU (cA (gP a).s3) 0)then(nB 20 (gP a).b0).1.fcode else(gP a).b0.fcode) (bif (kU (cA (gP a).s3) 0)then(nB 20 (gP a).b0).1.fat else(gP a).b0.fat) (bif (kU (cA (gP a).s3) 0)then(nB 20 (gP a).b0).1.fseed else(gP a).b0.fseed))
def EM:List Row:=(bif (kU (cA (gP a).s3) 0)then(gP a).s3 else(gP a).s3)
def ZL:List Row:=(List.set (EM a) 0 (aQ.row (aIQ (RN a)).2))
def ZM:Bool:=((e1 (ln (gP a).s3))&&true)
def ZN:List Row:=(List.take (ln (gP a).s3) (ZL a))
def ZO:List Row:=(List.take (ln (gP a).s3) (EM a))
end
def a0Y(a:aM):Pt (aM×List Row):=(.ok true (.ok true (.ok ((w7 8 a)&&true) (.ok ((k86 20 (cW 8 a).1)&&true) (.br (nB 20 (cW 8 a).1).2 (.ok ((w7 2 (nB 20 (cW 8 a).1).1)&&true) (.ok true (.ok true (.ok (ZK (V202_0.mk (RK a).1 [] (bE 40 (RK a).2))) (.ok ((qQ (0+(ln (gO a).s3)) (ln (gO a).s3))&&((((k86 20 (gO a).b0)&&true)||(!(kU (cA (gO a).s3) 0)))&&true)) (.br (bif (kU (cA (gO a).s3) 0)then(nB 20 (gO a).b0).2 else false) (.ok ((a0X (RL a))&&((ltI 0 (cA (gO a).s3))&&(((blt 0 (ln (LR a)))&&(jW (jX (LR a) 0) 7))&&true))) (.ok true (.ok ((((qQ (0+(ln (gO a).s3)) (ln (aIR a)))&&true)&&(aIS a))&&((eC (ln (gO a).s3) (ln (aIT a)))&&true)) (.leaf ((aIQ (RL a)).1,(aIT a)))))) (.ok true (.ok ((((qQ (0+(ln (gO a).s3)) (ln (LR a)))&&true)&&(aIS a))&&((eC (ln (gO a).s3) (ln (aIU a)))&&true)) (.leaf ((RL a),(aIU a))))))))))) (.ok true (.ok true (.ok (ZK (V202_0.mk (nB 20 (cW 8 a).1).1 [] (cW 8 a).2)) (.ok ((qQ (0+(ln (gP a).s3)) (ln (gP a).s3))&&((((k86 20 (gP a).b0)&&true)||(!(kU (cA (gP a).s3) 0)))&&true)) (.br (bif (kU (cA (gP a).s3) 0)then(nB 20 (gP a).b0).2 else false) (.ok ((a0X (RN a))&&((ltI 0 (cA (gP a).s3))&&(((blt 0 (ln (EM a)))&&(jW (jX (EM a) 0) 7))&&true))) (.ok true (.ok ((((qQ (0+(ln (gP a).s3)) (ln (ZL a)))&&true)&&(ZM a))&&((eC (ln (gP a).s3) (ln (ZN a)))&&true)) (.leaf ((aIQ (RN a)).1,(ZN a)))))) (.ok true (.ok ((((qQ (0+(ln (gP a).s3)) (ln (EM a)))&&true)&&(ZM a))&&((eC (ln (gP a).s3) (ln (ZO a)))&&true)) (.leaf ((RN a),(ZO a)))))))))))))))
def OO(a:aM):aM×List Row:=hid (a0Y a).val
def bJ5(a:aM):Bool:=hid (a0Y a).okv
def b2R(a:aM)(r:aM×List Row):SV×List Blk:=((.one (.sl 1 0 (ln r.2))),[.box [.imm true 1 r.1.fcode,li r.1.fat, .lit (.int .u64 r.1.fseed)], .lst 7 r.2])
def q202:=DS0 (fun a=>b2R a (OO a)) bJ5
theorem b2S:fM (fun live x=>dB (oV bBQ (m6 x)) (fY R 1 2097152 (.loop live x))) F202.body:=(cQ (l:=[([0,3,4],aHW)]) (by kernel_rfl) ⟨fN (n:=12) (by kernel_rfl) fun σ σr t h ho hl=>bBP σ σr t h ho hl,trivial⟩)
theorem cAZ:cK 202 q202:=JG fun a hk=>tcl bZD ZH b2S [(31,K5),(1000000,[])] [] true (a0Y a) (b2R a) hk
def Q202:=aZ 202 q202 Q123
theorem aOT:QO Q202:=aF cAZ ZH
def a0Z(a:aQ):Pt (List Row):=(.ok true (.ok true (.ok ((aH7 a.Ea.Mode)&&true) (.br (aH6 a.Ea.Mode) (.ok true (.ok true (.ok true (.leaf [(bB (eW (eW (eW (eW (eW (m7 a.Op 11) (m7 (cN a.Size 1) 10)) (m7 a.Reg 8)) (m7 a.Ea.Mode 5)) (m7 a.Ea.Reg 3)) a.Sub)),(bB a.Ea.Ext)])))) (.ok true (.ok true (.leaf [(bB (eW (eW (eW (eW (eW (m7 a.Op 11) (m7 (cN a.Size 1) 10)) (m7 a.Reg 8)) (m7 a.Ea.Mode 5)) (m7 a.Ea.Reg 3)) a.Sub))])))))))
def bJ6(a:aQ):List Row:=hid (a0Z a).val
def bJ7(a:aQ):Bool:=hid (a0Z a).okv
def bBR(a:aQ)(r:List Row):SV×List Blk:=((.one (.sl 0 0 (ln r))),[.lst 1 r])
def q196:=DS7 (fun a=>bBR a (bJ6 a)) bJ7
theorem cA0:cK 196 q196:=N7 fun a hk=>tc bY9 aOT [(5,K0),(8,K0),(13,K0),(18,K0),(23,K0),(27,K0),(32,K0),(37,K0)] [] true (a0Z a) (bBR a) hk
def Q196:=aZ 196 q196 Q202
theorem ZP:QO Q196:=aF cA0 aOT
def AS8(a:List Row):List SV:=[(.one (.imm false 7 a))]
def HS8(a:List Row):List Blk:=[]
def DS8(N:List Row→SV×List Blk)(K:List Row→Bool):List SV→List Blk→Option ((SV×List Blk)×Bool)
 |[(.one (.imm false 7 c0))],[]=>some (N c0,K c0)
 |_,_=>none
theorem b2T{N:List Row→SV×List Blk}{K:List Row→Bool}{f:Nat}(h: ∀(a:List Row),K a=true→dJ R f (AS8 a) (HS8 a)=some (N a)):cK f (DS8 N K):=fun _ _ _ e=>by
 unfold DS8 at e;split at e
 ·exact vH e (h _)
 ·cases e
structure V201_0 where
 mk::
 (s0:List Row)
 (s4:List Row)
 (s7:List Row)
 (s8:Int)
 (s9:Int)
section
variable(v:V201_0)
def vY:List Row:=(bJ6 (aQ.at v.s7 (iN v.s9) 0))
def G4:Nat:=((ln v.s4)+(ln (vY v)))
def G5:Bool:=((e1 (ln (v.s4++(vY v))))&&true)
end
def LS(v:V201_0):Pt (Option V201_0):=(.ok true (.br (ltI v.s9 v.s8) (.ok ((hZ [.int .i64, .int .i64, .int .i64, .int .i64, .int .i64, .int .i64, .int .i64] v.s7 v.s9)&&true) (.ok ((tA (aQ.at v.s7 (iN v.s9) 0))&&true) (.br (!(sZ (aQ.at v.s7 (iN v.s9) 0))) (.ok true (.leaf none)) (.ok ((bJ7 (aQ.at v.s7 (iN v.s9) 0))&&(((e1 (ln v.s4))&&((e1 (ln (vY v)))&&((eC (0+(ln v.s4)) (ln v.s4))&&((qQ (vX (G4 v) 8) 140737488355328)&&(qQ (G4 v) 140737488355328)))))&&true)) (.ok true (.ok ((G5 v)&&(G5 v)) (.leaf (some {v with s4:=(v.s4++(vY v)),s9:=(bE v.s9 1)})))))))) (.leaf none)))
def RO(v:V201_0):St:=⟨[(0,(.one (.imm false 7 v.s0))),(4,(.one (.sl 0 0 (ln v.s4)))),(7,(.one (.imm false 7 v.s7))),(8,(.one (li v.s8))),(9,(.one (li v.s9)))],[.lst 1 v.s4]⟩
def ZQ:St→Option (V201_0×Bool)
 |⟨[(0,(.one (.imm false 7 c0))),(4,(.one (.sl 0 0 l0))),(7,(.one (.imm false 7 c1))),(8,(.one (li c2))),(9,(.one (li c3)))],[.lst 1 c_0]⟩=>some ((V201_0.mk c0 c_0 c1 c2 c3),eC l0 (ln c_0)&&(true))
 |_=>none
def ZR:St→Option (Pt Out):=x9 Q196 [(11,K5),(12,K5),(13,K5),(17,K5)] [] true [] 0 2097152 aHV
theorem bBS(v:V201_0):((ZR (RO v)).bind (sY true false 0 [0,4,7,8,9]))=some ((LS v).map (Option.map RO)):=by kernel_rfl
theorem bBT(σ:St)(v:V201_0)(h:ZQ σ=some (v,true)):σ=RO v:=by
 unfold ZQ at h;split at h
 ·obtain⟨hr,hk⟩:=qp (qi h);obtain⟨d0,hk0⟩:=bJ hk;obtain rfl:=of_decide_eq_true d0;rw[←hr];rfl
 ·simp at h
theorem bBU:dB (vF true false 0 [0,4,7,8,9] ZR ZQ RO LS 2097152) (fY R 0 2097152 (.loop [0,4,7,8,9] aHV)):=eM (dD ZP (cQ (l:=[]) (by kernel_rfl) trivial)) bBT bBS
def bBV:Lp:=(10,vF true false 0 [0,4,7,8,9] ZR ZQ RO LS 2097152)::[]
def aIV(v:V201_0):V201_0:=(hid (eG LS 2097152 v)).getD v
def aIW(v:V201_0):Bool:=(hid (eG LS 2097152 v)).isSome
section
variable(a:List Row)
def LT:V201_0:=(aIV (V201_0.mk a [] a (cA a) 0))
def aIX:Bool:=((e1 (ln (LT a).s4))&&true)
end
def a00(a:List Row):Pt (List Row×Bool):=(.ok true (.ok true (.ok true (.ok true (.ok true (.ok (aIW (V201_0.mk a [] a (cA a) 0)) (.br (ltI (LT a).s9 (LT a).s8) (.ok true (.leaf ([],false))) (.ok true (.br (kU (cA (LT a).s0) 40) (.ok true (.ok true (.leaf ([],false)))) (.ok true (.ok ((aIX a)&&(aIX a)) (.leaf ((LT a).s4,true)))))))))))))
def aIY(a:List Row):List Row×Bool:=hid (a00 a).val
def bJ8(a:List Row):Bool:=hid (a00 a).okv
def b2U(a:List Row)(r:List Row×Bool):SV×List Blk:=((.tup [(.one (.sl 0 0 (ln r.1))),(.one (.lit (.bool r.2)))]),[.lst 1 r.1])
def q201:=DS8 (fun a=>b2U a (aIY a)) bJ8
theorem b2V:fM (fun live x=>dB (oV bBV (m6 x)) (fY R 0 2097152 (.loop live x))) F201.body:=(cQ (l:=[([0,4,7,8,9],aHV)]) (by kernel_rfl) ⟨fN (n:=10) (by kernel_rfl) fun σ σr t h ho hl=>bBU σ σr t h ho hl,trivial⟩)
theorem cA2:cK 201 q201:=b2T fun a hk=>tcl bZC ZP b2V [(11,K5),(12,K5),(13,K5),(17,K5)] [] true (a00 a) (b2U a) hk
def Q201:=aZ 201 q201 Q196
theorem ZS:QO Q201:=aF cA2 ZP
structure V149_0 where
 mk::
 (b0:aM)
 (s4:Int)
 (s5:List Row)
 (s16:Int)
 (s17:Int)
section
variable(v:V149_0)
def G6:List Row:=(List.set v.s5 (0+(iN v.s17)) (bB (cW 256 (nB 8 v.b0).1).2))
def G7:Bool:=((eC (ln v.s5) (ln (G6 v)))&&true)
end
def LU(v:V149_0):Pt (Option V149_0):=(.ok true (.br (ltI v.s17 v.s16) (.ok true (.ok ((k86 8 v.b0)&&true) (.br (nB 8 v.b0).2 (.ok ((w7 256 (nB 8 v.b0).1)&&(((leI 0 v.s17)&&(ltI v.s17 (cA v.s5)))&&(((blt (0+(iN v.s17)) (ln v.s5))&&(jW (jX v.s5 (0+(iN v.s17))) 1))&&true))) (.ok true (.ok (((G7 v)&&((e1 (ln v.s5))&&true))&&((G7 v)&&true)) (.leaf (some (V149_0.mk (cW 256 (nB 8 v.b0).1).1 v.s4 (G6 v) v.s16 (bE v.s17 1))))))) (.ok true (.ok ((((e1 (ln v.s5))&&true)&&((e1 (ln v.s5))&&true))&&(((e1 (ln v.s5))&&true)&&true)) (.leaf (some {v with b0:=(nB 8 v.b0).1,s17:=(bE v.s17 1)}))))))) (.leaf none)))
def RQ(v:V149_0):St:=⟨[(0,(.one (.ptr 0 0 0))),(4,(.one (li v.s4))),(5,(.one (.sl 1 0 (ln v.s5)))),(16,(.one (li v.s16))),(17,(.one (li v.s17)))],[.box [.imm true 1 v.b0.fcode,li v.b0.fat, .lit (.int .u64 v.b0.fseed)], .lst 1 v.s5]⟩
def ZT:St→Option (V149_0×Bool)
 |⟨[(0,(.one (.ptr 0 0 0))),(4,(.one (li c3))),(5,(.one (.sl 1 0 l1))),(16,(.one (li c4))),(17,(.one (li c5)))],[.box [.imm true 1 c0,li c1, .lit (.int .u64 c2)], .lst 1 c_1]⟩=>some ((V149_0.mk (aM.mk c0 c1 c2) c3 c_1 c4 c5),eC l1 (ln c_1)&&(true))
 |_=>none
def ZU:St→Option (Pt Out):=x9 Q86 [(26,K0),(39,K0),(40,K0),(56,K0),(65,K0),(1000003,[])] [] true [] 1 2097152 aHP
theorem bBW(v:V149_0):((ZU (RQ v)).bind (sY true true 1 [0,4,5,16,17]))=some ((LU v).map (Option.map RQ)):=by kernel_rfl
theorem bBX(σ:St)(v:V149_0)(h:ZT σ=some (v,true)):σ=RQ v:=by
 unfold ZT at h;split at h
 ·obtain⟨hr,hk⟩:=qp (qi h);obtain⟨d0,hk0⟩:=bJ hk;obtain rfl:=of_decide_eq_true d0;rw[←hr];rfl
 ·simp at h
theorem bBY:dB (vF true true 1 [0,4,5,16,17] ZU ZT RQ LU 2097152) (fY R 1 2097152 (.loop [0,4,5,16,17] aHP)):=eM (dD aH5 (cQ (l:=[]) (by kernel_rfl) trivial)) bBX bBW
def aOU:Lp:=(18,vF true true 1 [0,4,5,16,17] ZU ZT RQ LU 2097152)::[]
def RU(v:V149_0):V149_0:=(hid (eG LU 2097152 v)).getD v
def aIZ(v:V149_0):Bool:=(hid (eG LU 2097152 v)).isSome
structure V149_1 where
 mk::
 (b0:aM)
 (s4:Int)
 (s5:List Row)
 (s34:List Row)
 (s35:Int)
 (s36:Int)
section
variable(v:V149_1)
def G8:Bool:=(ltI (bE (bE v.s4 (dH 2 v.s36)) 1) (cA v.s5))
def AV:Nat:=(0+(iN (bE v.s4 (dH 2 v.s36))))
def AW:Nat:=(0+(iN (bE (bE v.s4 (dH 2 v.s36)) 1)))
def AX:List Row:=(List.set v.s5 (AV v) (bB (eZ (bQ v.s34 (0+(iN v.s36)) 0) 8)))
def G9:List Row:=(List.set (AX v) (AW v) (bB (bH (bQ v.s34 (0+(iN v.s36)) 0) 255)))
def HA:Bool:=((eC (ln v.s5) (ln (G9 v)))&&((e1 (ln v.s34))&&true))
def vZ:Bool:=((e1 (ln v.s5))&&((e1 (ln v.s34))&&true))
end
def LV(v:V149_1):Pt (Option V149_1):=(.ok true (.br (ltI v.s36 v.s35) (.ok (((leI 0 v.s36)&&(ltI v.s36 (cA v.s34)))&&((dU [.int .i64] v.s34 (0+(iN v.s36)) 0)&&true)) (.ok ((qQ (0+(ln v.s5)) (ln v.s5))&&true) (.br (G8 v) (.ok (((leI 0 (bE v.s4 (dH 2 v.s36)))&&(ltI (bE v.s4 (dH 2 v.s36)) (cA v.s5)))&&(((blt (AV v) (ln v.s5))&&(jW (jX v.s5 (AV v)) 1))&&true)) (.ok (((leI 0 (bE (bE v.s4 (dH 2 v.s36)) 1))&&(G8 v))&&(((blt (AW v) (ln (AX v)))&&(jW (jX (AX v) (AW v)) 1))&&true)) (.ok true (.ok (((HA v)&&(vZ v))&&((HA v)&&true)) (.leaf (some {v with s5:=(G9 v),s36:=(bE v.s36 1)})))))) (.ok true (.ok (((vZ v)&&(vZ v))&&((vZ v)&&true)) (.leaf (some {v with s36:=(bE v.s36 1)}))))))) (.leaf none)))
def RV(v:V149_1):St:=⟨[(4,(.one (li v.s4))),(5,(.one (.sl 1 0 (ln v.s5)))),(34,(.one (.sl 2 0 (ln v.s34)))),(35,(.one (li v.s35))),(36,(.one (li v.s36)))],[.box [.imm true 1 v.b0.fcode,li v.b0.fat, .lit (.int .u64 v.b0.fseed)], .lst 1 v.s5, .lst 1 v.s34]⟩
def ZV:St→Option (V149_1×Bool)
 |⟨[(4,(.one (li c3))),(5,(.one (.sl 1 0 l1))),(34,(.one (.sl 2 0 l2))),(35,(.one (li c4))),(36,(.one (li c5)))],[.box [.imm true 1 c0,li c1, .lit (.int .u64 c2)], .lst 1 c_1, .lst 1 c_2]⟩=>some ((V149_1.mk (aM.mk c0 c1 c2) c3 c_1 c_2 c4 c5),eC l1 (ln c_1)&&(eC l2 (ln c_2)&&(true)))
 |_=>none
def ZW:St→Option (Pt Out):=x9 Q201 [(26,K0),(39,K0),(40,K0),(56,K0),(65,K0),(1000003,[])] [] true aOU 1 2097152 aHQ
theorem bBZ(v:V149_1):((ZW (RV v)).bind (sY true true 1 [4,5,34,35,36]))=some ((LV v).map (Option.map RV)):=by kernel_rfl
theorem bB0(σ:St)(v:V149_1)(h:ZV σ=some (v,true)):σ=RV v:=by
 unfold ZV at h;split at h
 ·obtain⟨hr,hk⟩:=qp (qi h);obtain⟨d0,hk0⟩:=bJ hk;obtain⟨d1,hk1⟩:=bJ hk0;obtain rfl:=of_decide_eq_true d0;obtain rfl:=of_decide_eq_true d1;rw[←hr];rfl
 ·simp at h
theorem bB1:dB (vF true true 1 [4,5,34,35,36] ZW ZV RV LV 2097152) (fY R 1 2097152 (.loop [4,5,34,35,36] aHQ)):=eM (dD ZS (cQ (l:=[]) (by kernel_rfl) trivial)) bB0 bBZ
def bB2:Lp:=(37,vF true true 1 [4,5,34,35,36] ZW ZV RV LV 2097152)::aOU
def RW(v:V149_1):V149_1:=(hid (eG LV 2097152 v)).getD v
def aI0(v:V149_1):Bool:=(hid (eG LV 2097152 v)).isSome
section
variable(a:aM)
def oW:V149_0:=(RU (V149_0.mk (cW 30 a).1 (dH 2 (cW 30 a).2) (List.replicate 384 (bB 0)) 384 0))
def ZX:Nat:=(ln (aIY (OO (oW a).b0).2).1)
def RX:Bool:=((e1 (ln (oW a).s5))&&((e1 (ZX a))&&true))
def RY:V149_1:=(RW (V149_1.mk (OO (oW a).b0).1 (oW a).s4 (oW a).s5 (aIY (OO (oW a).b0).2).1 (cA (aIY (OO (oW a).b0).2).1) 0))
def aI1:Bool:=((e1 (ln (RY a).s5))&&true)
end
def a01(a:aM):Pt (aM×List Row×Int):=(.ok true (.ok ((w7 30 a)&&true) (.ok true (.ok true (.ok true (.ok true (.ok (aIZ (V149_0.mk (cW 30 a).1 (dH 2 (cW 30 a).2) (List.replicate 384 (bB 0)) 384 0)) (.ok ((bJ5 (oW a).b0)&&((((e1 (ln (OO (oW a).b0).2))&&true)&&(bJ8 (OO (oW a).b0).2))&&true)) (.ok ((qQ (0+(ZX a)) (ZX a))&&true) (.ok (((RX a)&&(RX a))&&((RX a)&&true)) (.ok (RX a) (.ok (aI0 (V149_1.mk (OO (oW a).b0).1 (oW a).s4 (oW a).s5 (aIY (OO (oW a).b0).2).1 (cA (aIY (OO (oW a).b0).2).1) 0)) (.ok true (.ok ((aI1 a)&&(aI1 a)) (.leaf ((RY a).b0,(RY a).s5,(RY a).s4))))))))))))))))
def w9(a:aM):aM×List Row×Int:=hid (a01 a).val
def bJ9(a:aM):Bool:=hid (a01 a).okv
def b2W(a:aM)(r:aM×List Row×Int):SV×List Blk:=((.tup [(.one (.sl 1 0 (ln r.2.1))),(.one (li r.2.2))]),[.box [.imm true 1 r.1.fcode,li r.1.fat, .lit (.int .u64 r.1.fseed)], .lst 1 r.2.1])
def q149:=DS0 (fun a=>b2W a (w9 a)) bJ9
theorem b2X:fM (fun live x=>dB (oV bB2 (m6 x)) (fY R 1 2097152 (.loop live x))) F149.body:=(cQ (l:=[([0,4,5,16,17],aHP),([4,5,34,35,36],aHQ)]) (by kernel_rfl) ⟨fN (n:=18) (by kernel_rfl) fun σ σr t h ho hl=>bBY σ σr t h ho hl,fN (n:=37) (by kernel_rfl) fun σ σr t h ho hl=>bB1 σ σr t h ho hl,trivial⟩)
theorem cA3:cK 149 q149:=JG fun a hk=>tcl bX2 ZS b2X [(26,K0),(39,K0),(40,K0),(56,K0),(65,K0),(1000003,[])] [] true (a01 a) (b2W a) hk
def Q149:=aZ 149 q149 Q201
theorem aOV:QO Q149:=aF cA3 ZS
def AS9:List SV:=[]
def HS9:List Blk:=[]
def DS9(N:SV×List Blk)(K:Bool):List SV→List Blk→Option ((SV×List Blk)×Bool)
 |[],[]=>some (N,K)
 |_,_=>none
theorem b2Y{N:SV×List Blk}{K:Bool}{f:Nat}(h:K=true→dJ R f AS9 HS9=some N):cK f (DS9 N K):=fun args hp r e=>by
 unfold DS9 at e;split at e
 ·obtain⟨hr,hk⟩:=qp (qi e);rw[←hr];exact h hk
 ·simp at e
def T94:Pt (aH):=(.ok true (.ok true (.ok true (.leaf (aH.mk [(bB 0),(bB 0),(bB 0),(bB 0)] [(bB 0),(bB 0),(bB 0),(bB 0)] 0 0 0 7 true false)))))
def g94:aH:=hid (T94).val
def k94:Bool:=hid (T94).okv
def n94(r:aH):SV×List Blk:=((.agg [.sl 0 0 (ln r.D), .sl 1 0 (ln r.A),li r.Other,li r.PC,li r.Flags,li r.Mask, .lit (.bool r.Super), .lit (.bool r.Trace)]),[.lst 1 r.D, .lst 1 r.A])
def q94:=DS9 (n94 (g94)) k94
theorem t94:cK 94 q94:=b2Y fun hk=>tc b99 aOV [] [] true T94 n94 hk
def Q94:=aZ 94 q94 Q149
theorem aI2:QO Q94:=aF t94 aOV
def K6:List Kd:=[.imm 1, .imm 1, .int .i64, .int .i64, .int .i64, .int .i64, .bool, .bool]
structure V150_0 where
 mk::
 (b0:aM)
 (b1:aH)
 (b2:aH)
 (s4:Int)
section
variable(v:V150_0)
def AY:Bool:=(((k90 [(bB 0),(bB 1),(bB 2),(bB 5),(bB 128),(bB 255),(bB 32768),(bB 65535)] v.b0)&&(((leI 0 v.s4)&&(ltI v.s4 (cA v.b2.D)))&&(((blt (0+(iN v.s4)) (ln v.b2.D))&&(jW (jX v.b2.D (0+(iN v.s4))) 1))&&true)))&&true)
def pL:aM×Int:=(N6 [(bB 0),(bB 1),(bB 2),(bB 5),(bB 128),(bB 255),(bB 32768),(bB 65535)] v.b0)
def v6:List Row:=(List.set v.b2.D (0+(iN v.s4)) (bB (pL v).2))
def HB:Bool:=(r1 [(bB 0),(bB 1),(bB 2),(bB 5),(bB 128),(bB 255),(bB 32768),(bB 65535)])
def HC:Bool:=(((s1 v.s4)&&true)&&((((s1 true)&&(r1 (pL v).1.fcode))&&((s1 (pL v).1.fat)&&((s1 (pL v).1.fseed)&&true)))&&((iE v.b1 true)&&((iE v.b2 true)&&(iB v.b1 ((r1 (v6 v))&&((r1 v.b2.A)&&(HB&&true))))))))
def AZ:Bool:=(((k90 [(bB 0),(bB 2),(bB 20),(bB 40),(bB 100),(bB 300),(bB 301),(bB 384),(bB 448),(bB 500),(bB 65534)] (pL v).1)&&(((leI 0 v.s4)&&(ltI v.s4 (cA v.b2.A)))&&(((blt (0+(iN v.s4)) (ln v.b2.A))&&(jW (jX v.b2.A (0+(iN v.s4))) 1))&&true)))&&true)
def rV:aM×Int:=(N6 [(bB 0),(bB 2),(bB 20),(bB 40),(bB 100),(bB 300),(bB 301),(bB 384),(bB 448),(bB 500),(bB 65534)] (pL v).1)
def A0:List Row:=(List.set v.b2.A (0+(iN v.s4)) (bB (rV v).2))
def HD:Bool:=(((s1 v.s4)&&true)&&((((s1 true)&&(r1 (rV v).1.fcode))&&((s1 (rV v).1.fat)&&((s1 (rV v).1.fseed)&&true)))&&((iE v.b1 true)&&((iE v.b2 true)&&(iB v.b1 ((r1 (v6 v))&&((r1 (A0 v))&&(HB&&((r1 [(bB 0),(bB 2),(bB 20),(bB 40),(bB 100),(bB 300),(bB 301),(bB 384),(bB 448),(bB 500),(bB 65534)])&&true)))))))))
def HE:Bool:=((eC (ln v.b2.D) (ln (v6 v)))&&((eC (ln v.b2.A) (ln (A0 v)))&&true))
end
def LW(v:V150_0):Pt (Option V150_0):=(.ok true (.br (ltI v.s4 4) (.ok ((AY v)&&(((AY v)&&((AY v)&&(HC v)))&&(HC v))) (.ok ((AZ v)&&(((AZ v)&&((AZ v)&&(HD v)))&&(HD v))) (.ok true (.ok ((((aP v.b1 true)&&((aP v.b2 true)&&(aP v.b1 (HE v))))&&true)&&((aP v.b1 true)&&((HE v)&&true))) (.leaf (some (V150_0.mk (rV v).1 v.b1 {v.b2 with D:=(v6 v),A:=(A0 v)} (bE v.s4 1)))))))) (.leaf none)))
def RZ(v:V150_0):St:=⟨[(0,(.one (.ptr 0 0 0))),(2,(.one (.ptr 1 0 0))),(3,(.one (.ptr 2 0 0))),(4,(.one (li v.s4)))],[.box [.imm true 1 v.b0.fcode,li v.b0.fat, .lit (.int .u64 v.b0.fseed)], .box [.sl 3 0 (ln v.b1.D), .sl 4 0 (ln v.b1.A),li v.b1.Other,li v.b1.PC,li v.b1.Flags,li v.b1.Mask, .lit (.bool v.b1.Super), .lit (.bool v.b1.Trace)], .box [.sl 5 0 (ln v.b2.D), .sl 6 0 (ln v.b2.A),li v.b2.Other,li v.b2.PC,li v.b2.Flags,li v.b2.Mask, .lit (.bool v.b2.Super), .lit (.bool v.b2.Trace)], .lst 1 v.b1.D, .lst 1 v.b1.A, .lst 1 v.b2.D, .lst 1 v.b2.A]⟩
def ZY:St→Option (V150_0×Bool)
 |⟨[(0,(.one (.ptr 0 0 0))),(2,(.one (.ptr 1 0 0))),(3,(.one (.ptr 2 0 0))),(4,(.one (li c15)))],[.box [.imm true 1 c0,li c1, .lit (.int .u64 c2)], .box [.sl 3 0 l3, .sl 4 0 l4,li c3,li c4,li c5,li c6, .lit (.bool c7), .lit (.bool c8)], .box [.sl 5 0 l5, .sl 6 0 l6,li c9,li c10,li c11,li c12, .lit (.bool c13), .lit (.bool c14)], .lst 1 c_3, .lst 1 c_4, .lst 1 c_5, .lst 1 c_6]⟩=>some ((V150_0.mk (aM.mk c0 c1 c2) (aH.mk c_3 c_4 c3 c4 c5 c6 c7 c8) (aH.mk c_5 c_6 c9 c10 c11 c12 c13 c14) c15),eC l3 (ln c_3)&&(eC l4 (ln c_4)&&(eC l5 (ln c_5)&&(eC l6 (ln c_6)&&(true)))))
 |_=>none
def ZZ:St→Option (Pt Out):=x9 Q94 [(11,K1),(16,K0),(18,K1),(23,K0),(25,K1),(29,K0),(56,K1),(57,K0),(61,K6),(1000001,[]),(1000003,[])] [] true [] 1 2097152 aHR
theorem bB3(v:V150_0):((ZZ (RZ v)).bind (sY true true 1 [0,2,3,4]))=some ((LW v).map (Option.map RZ)):=by kernel_rfl
theorem bB4(σ:St)(v:V150_0)(h:ZY σ=some (v,true)):σ=RZ v:=by
 unfold ZY at h;split at h
 ·obtain⟨hr,hk⟩:=qp (qi h);obtain⟨d0,hk0⟩:=bJ hk;obtain⟨d1,hk1⟩:=bJ hk0;obtain⟨d2,hk2⟩:=bJ hk1;obtain⟨d3,hk3⟩:=bJ hk2;obtain rfl:=of_decide_eq_true d0;obtain rfl:=of_decide_eq_true d1;obtain rfl:=of_decide_eq_true d2;obtain rfl:=of_decide_eq_true d3;rw[←hr];rfl
 ·simp at h
theorem bB5:dB (vF true true 1 [0,2,3,4] ZZ ZY RZ LW 2097152) (fY R 1 2097152 (.loop [0,2,3,4] aHR)):=eM (dD aI2 (cQ (l:=[]) (by kernel_rfl) trivial)) bB4 bB3
def bB6:Lp:=(6,vF true true 1 [0,2,3,4] ZZ ZY RZ LW 2097152)::[]
def Z0(v:V150_0):V150_0:=(hid (eG LW 2097152 v)).getD v
def aI3(v:V150_0):Bool:=(hid (eG LW 2097152 v)).isSome
section
variable(a:aM)
def jD:V150_0:=(Z0 (V150_0.mk a (aH.mk [] [] 0 0 0 0 false false) (g94) 0))
def Z1:Bool:=(((k90 [(bB 200),(bB 202),(bB 380),(bB 65534),(bB 0),(bB 301)] (jD a).b0)&&((ltI 3 (cA (jD a).b2.A))&&(((blt 3 (ln (jD a).b2.A))&&(jW (jX (jD a).b2.A 3) 1))&&true)))&&true)
def HF:aM×Int:=(N6 [(bB 200),(bB 202),(bB 380),(bB 65534),(bB 0),(bB 301)] (jD a).b0)
def LX:List Row:=(List.set (jD a).b2.A 3 (bB (HF a).2))
def aI4:Bool:=((((s1 true)&&(r1 (HF a).1.fcode))&&((s1 (HF a).1.fat)&&((s1 (HF a).1.fseed)&&true)))&&((iE (jD a).b1 true)&&((iE (jD a).b2 true)&&(iB (jD a).b1 ((r1 (jD a).b2.D)&&((r1 (LX a))&&((r1 [(bB 200),(bB 202),(bB 380),(bB 65534),(bB 0),(bB 301)])&&true)))))))
def LY:aM×Int:=(N6 [(bB 300),(bB 0),(bB 447)] (HF a).1)
def yD:aM×Int:=(N6 [(bB 0),(bB 2),(bB 10),(bB 40),(bB 384),(bB 3),(bB 448)] (LY a).1)
def A2:aM×Int:=(cW 8 (cW 32 (yD a).1).1)
def yE:aM×Bool:=(nB 8 (nB 3 (A2 a).1).1)
def aI5:List Row:=(List.set (jD a).b2.D 0 (bB 65536))
def Z2:Bool:=((eC (ln (jD a).b2.A) (ln (LX a)))&&true)
def Z3:Bool:=((eC (ln (jD a).b2.D) (ln (aI5 a)))&&(Z2 a))
def Z4:Bool:=((e1 (ln (jD a).b2.D))&&(Z2 a))
def Z5:Bool:=(((Z4 a)&&((aP (jD a).b2 true)&&true))&&((Z4 a)&&true))
end
def a02(a:aM):Pt (aM×aH):=(.ok true (.ok ((k94)&&true) (.ok true (.ok (dd (aP (g94) true) ((aP (g94) true)&&true)) (.ok (aP (g94) true) (.ok (aI3 (V150_0.mk a (aH.mk [] [] 0 0 0 0 false false) (g94) 0)) (.ok ((Z1 a)&&(((Z1 a)&&((Z1 a)&&(aI4 a)))&&(aI4 a))) (.ok ((k90 [(bB 300),(bB 0),(bB 447)] (HF a).1)&&true) (.ok ((k90 [(bB 0),(bB 2),(bB 10),(bB 40),(bB 384),(bB 3),(bB 448)] (LY a).1)&&true) (.ok ((w7 32 (yD a).1)&&true) (.ok ((w7 8 (cW 32 (yD a).1).1)&&true) (.ok ((k86 3 (A2 a).1)&&true) (.ok ((k86 8 (nB 3 (A2 a).1).1)&&true) (.ok ((w7 60 (yE a).1)&&true) (.ok true (.br (eqI (cW 60 (yE a).1).2 0) (.ok ((ltI 0 (cA (jD a).b2.D))&&(((blt 0 (ln (jD a).b2.D))&&(jW (jX (jD a).b2.D 0) 1))&&true)) (.ok true (.ok (((Z3 a)&&((aP (jD a).b2 true)&&true))&&((Z3 a)&&true)) (.leaf ((cW 60 (yE a).1).1,(aH.mk (aI5 a) (LX a) (LY a).2 (yD a).2 (cW 32 (yD a).1).2 (A2 a).2 (!(nB 3 (A2 a).1).2) (yE a).2)))))) (.ok true (.br (eqI (cW 60 (yE a).1).2 1) (.ok true (.ok true (.ok (Z5 a) (.leaf ((cW 60 (yE a).1).1,(aH.mk (jD a).b2.D (LX a) (LY a).2 (yD a).2 (cW 32 (yD a).1).2 8 (!(nB 3 (A2 a).1).2) (yE a).2)))))) (.ok true (.ok (Z5 a) (.leaf ((cW 60 (yE a).1).1,(aH.mk (jD a).b2.D (LX a) (LY a).2 (yD a).2 (cW 32 (yD a).1).2 (A2 a).2 (!(nB 3 (A2 a).1).2) (yE a).2)))))))))))))))))))))))
def OP(a:aM):aM×aH:=hid (a02 a).val
def bKA(a:aM):Bool:=hid (a02 a).okv
def b20(a:aM)(r:aM×aH):SV×List Blk:=((.agg [.sl 1 0 (ln r.2.D), .sl 2 0 (ln r.2.A),li r.2.Other,li r.2.PC,li r.2.Flags,li r.2.Mask, .lit (.bool r.2.Super), .lit (.bool r.2.Trace)]),[.box [.imm true 1 r.1.fcode,li r.1.fat, .lit (.int .u64 r.1.fseed)], .lst 1 r.2.D, .lst 1 r.2.A])
def q150:=DS0 (fun a=>b20 a (OP a)) bKA
theorem b21:fM (fun live x=>dB (oV bB6 (m6 x)) (fY R 1 2097152 (.loop live x))) F150.body:=(cQ (l:=[([0,2,3,4],aHR)]) (by kernel_rfl) ⟨fN (n:=6) (by kernel_rfl) fun σ σr t h ho hl=>bB5 σ σr t h ho hl,trivial⟩)
theorem cA5:cK 150 q150:=JG fun a hk=>tcl bX3 aI2 b21 [(11,K1),(16,K0),(18,K1),(23,K0),(25,K1),(29,K0),(56,K1),(57,K0),(61,K6),(1000001,[]),(1000003,[])] [] true (a02 a) (b20 a) hk
def Q150:=aZ 150 q150 Q94
theorem Z6:QO Q150:=aF cA5 aI2
def cA6(a:List Row):List SV:=[(.one (.imm false 1 a))]
def cA7(a:List Row):List Blk:=[]
def bKB(N:List Row→SV×List Blk)(K:List Row→Bool):List SV→List Blk→Option ((SV×List Blk)×Bool)
 |[(.one (.imm false 1 c0))],[]=>some (N c0,K c0)
 |_,_=>none
theorem bKC{N:List Row→SV×List Blk}{K:List Row→Bool}{f:Nat}(h: ∀(a:List Row),K a=true→dJ R f (cA6 a) (cA7 a)=some (N a)):cK f (bKB N K):=fun _ _ _ e=>by
 unfold bKB at e;split at e
 ·exact vH e (h _)
 ·cases e
structure V164_0 where
 mk::
 (s5:List Row)
 (s6:Int)
 (s7:Int)
def LZ(v:V164_0):Pt (Option V164_0):=(.ok true (.br (ltI v.s7 v.s6) (.ok ((hZ [.int .i64] v.s5 v.s7)&&true) (.ok ((w8 (bQ v.s5 (iN v.s7) 0) 0 255)&&true) (.br (!(vA (bQ v.s5 (iN v.s7) 0) 0 255)) (.ok true (.leaf none)) (.ok true (.ok true (.leaf (some {v with s7:=(bE v.s7 1)}))))))) (.leaf none)))
def R0(v:V164_0):St:=⟨[(5,(.one (.imm false 1 v.s5))),(6,(.one (li v.s6))),(7,(.one (li v.s7)))],[]⟩
def Z7:St→Option (V164_0×Bool)
 |⟨[(5,(.one (.imm false 1 c0))),(6,(.one (li c1))),(7,(.one (li c2)))],[]⟩=>some ((V164_0.mk c0 c1 c2),true)
 |_=>none
def Z8:St→Option (Pt Out):=x9 Q150 [(9,K0),(10,K0)] [] true [] 0 2097152 LI
theorem bB7(v:V164_0):((Z8 (R0 v)).bind (sY true false 0 [5,6,7]))=some ((LZ v).map (Option.map R0)):=by kernel_rfl
theorem bB8(σ:St)(v:V164_0)(h:Z7 σ=some (v,true)):σ=R0 v:=by
 unfold Z7 at h;split at h
 ·obtain⟨hr,hk⟩:=qp (qi h);rw[←hr];rfl
 ·simp at h
theorem bB9:dB (vF true false 0 [5,6,7] Z8 Z7 R0 LZ 2097152) (fY R 0 2097152 (.loop [5,6,7] LI)):=eM (dD Z6 (cQ (l:=[]) (by kernel_rfl) trivial)) bB8 bB7
def bCA:Lp:=(8,vF true false 0 [5,6,7] Z8 Z7 R0 LZ 2097152)::[]
def Z9(v:V164_0):V164_0:=(hid (eG LZ 2097152 v)).getD v
def aI6(v:V164_0):Bool:=(hid (eG LZ 2097152 v)).isSome
section
variable(a:List Row)
def aI7:V164_0:=(Z9 (V164_0.mk a (cA a) 0))
end
def bCB(a:List Row):Pt (Bool):=(.ok true (.ok true (.ok true (.ok true (.ok (aI6 (V164_0.mk a (cA a) 0)) (.br (ltI (aI7 a).s7 (aI7 a).s6) (.ok true (.ok true (.leaf false))) (.ok true (.ok true (.ok true (.leaf true))))))))))
def aVW(a:List Row):Bool:=hid (bCB a).val
def a03(a:List Row):Bool:=hid (bCB a).okv
def JL(a:List Row)(r:Bool):SV×List Blk:=((.one (.lit (.bool r))),[])
def q164:=bKB (fun a=>JL a (aVW a)) a03
theorem b22:fM (fun live x=>dB (oV bCA (m6 x)) (fY R 0 2097152 (.loop live x))) F164.body:=(cQ (l:=[([5,6,7],LI)]) (by kernel_rfl) ⟨fN (n:=8) (by kernel_rfl) fun σ σr t h ho hl=>bB9 σ σr t h ho hl,trivial⟩)
theorem cA8:cK 100164 q164:=bKC fun a hk=>tzl bHV Z6 b22 [(9,K0),(10,K0)] [] true (bCB a) (JL a) hk
def Q164:=aZ 100164 q164 Q150
theorem O3:QO Q164:=aF cA8 Z6
def K7:List Kd:=[.imm 1, .imm 5]
def cA9(a:List Row)(b:List Row):List SV:=[(.one (.imm false 1 a)),(.one (.imm false 1 b))]
def cBA(a:List Row)(b:List Row):List Blk:=[]
def bKD(N:List Row→List Row→SV×List Blk)(K:List Row→List Row→Bool):List SV→List Blk→Option ((SV×List Blk)×Bool)
 |[(.one (.imm false 1 c0)),(.one (.imm false 1 c1))],[]=>some (N c0 c1,K c0 c1)
 |_,_=>none
theorem bKE{N:List Row→List Row→SV×List Blk}{K:List Row→List Row→Bool}{f:Nat}(h: ∀(a:List Row)(b:List Row),K a b=true→dJ R f (cA9 a b) (cBA a b)=some (N a b)):cK f (bKD N K):=fun _ _ _ e=>by
 unfold bKD at e;split at e
 ·exact vH e (h _ _)
 ·cases e
structure V93_0 where
 mk::
 (b0:bM)
 (b1:bM)
 (s1:List Row)
 (s32:List Row)
 (s33:Int)
 (s34:Int)
section
variable(v:V93_0)
def L4:List Row:=(List.set v.b1.Bytes (0+(iN v.s34)) (bB (bQ v.s32 (iN v.s34) 0)))
def L5:Bool:=((eC (ln v.b1.Bytes) (ln (L4 v)))&&((e1 (ln v.b1.Log))&&true))
end
def N8(v:V93_0):Pt (Option V93_0):=(.ok true (.br (ltI v.s34 v.s33) (.ok ((hZ [.int .i64] v.s32 v.s34)&&true) (.ok (((leI 0 v.s34)&&(ltI v.s34 (cA v.b1.Bytes)))&&(((blt (0+(iN v.s34)) (ln v.b1.Bytes))&&(jW (jX v.b1.Bytes (0+(iN v.s34))) 1))&&true)) (.ok true (.ok ((((bS v.b0 true)&&((bS v.b1 true)&&(bS v.b0 (L5 v))))&&true)&&((bS v.b0 true)&&((L5 v)&&true))) (.leaf (some {v with b1:={v.b1 with Bytes:=(L4 v)},s34:=(bE v.s34 1)})))))) (.leaf none)))
def aFC(v:V93_0):St:=⟨[(1,(.one (.imm false 1 v.s1))),(4,(.one (.ptr 0 0 0))),(6,(.one (.ptr 1 0 0))),(32,(.one (.imm false 1 v.s32))),(33,(.one (li v.s33))),(34,(.one (li v.s34)))],[.box [.sl 2 0 (ln v.b0.Bytes), .sl 3 0 (ln v.b0.Log)], .box [.sl 4 0 (ln v.b1.Bytes), .sl 5 0 (ln v.b1.Log)], .lst 1 v.b0.Bytes, .lst 5 v.b0.Log, .lst 1 v.b1.Bytes, .lst 5 v.b1.Log]⟩
def aOW:St→Option (V93_0×Bool)
 |⟨[(1,(.one (.imm false 1 c0))),(4,(.one (.ptr 0 0 0))),(6,(.one (.ptr 1 0 0))),(32,(.one (.imm false 1 c1))),(33,(.one (li c2))),(34,(.one (li c3)))],[.box [.sl 2 0 l2, .sl 3 0 l3], .box [.sl 4 0 l4, .sl 5 0 l5], .lst 1 c_2, .lst 5 c_3, .lst 1 c_4, .lst 5 c_5]⟩=>some ((V93_0.mk (bM.mk c_2 c_3) (bM.mk c_4 c_5) c0 c1 c2 c3),eC l2 (ln c_2)&&(eC l3 (ln c_3)&&(eC l4 (ln c_4)&&(eC l5 (ln c_5)&&(true)))))
 |_=>none
def aI8:St→Option (Pt Out):=x9 Q164 [(37,K0),(38,K0),(40,K1),(43,K0),(50,K0),(51,K0),(53,K1),(57,K0),(59,K7),(1000003,[])] [] true [] 0 2097152 aZ5
theorem bKF(v:V93_0):((aI8 (aFC v)).bind (sY true true 0 [1,4,6,32,33,34]))=some ((N8 v).map (Option.map aFC)):=by kernel_rfl
theorem bKG(σ:St)(v:V93_0)(h:aOW σ=some (v,true)):σ=aFC v:=by
 unfold aOW at h;split at h
 ·obtain⟨hr,hk⟩:=qp (qi h);obtain⟨d0,hk0⟩:=bJ hk;obtain⟨d1,hk1⟩:=bJ hk0;obtain⟨d2,hk2⟩:=bJ hk1;obtain⟨d3,hk3⟩:=bJ hk2;obtain rfl:=of_decide_eq_true d0;obtain rfl:=of_decide_eq_true d1;obtain rfl:=of_decide_eq_true d2;obtain rfl:=of_decide_eq_true d3;rw[←hr];rfl
 ·simp at h
theorem bKH:dB (vF true true 0 [1,4,6,32,33,34] aI8 aOW aFC N8 2097152) (fY R 0 2097152 (.loop [1,4,6,32,33,34] aZ5)):=eM (dD O3 (cQ (l:=[]) (by kernel_rfl) trivial)) bKG bKF
def a04:Lp:=(35,vF true true 0 [1,4,6,32,33,34] aI8 aOW aFC N8 2097152)::[]
def bH5(v:V93_0):V93_0:=(hid (eG N8 2097152 v)).getD v
def bH6(v:V93_0):Bool:=(hid (eG N8 2097152 v)).isSome
structure V93_1 where
 mk::
 (b0:bM)
 (b1:bM)
 (s45:List Row)
 (s46:Int)
 (s47:Int)
section
variable(v:V93_1)
def L6:List Row:=(List.set v.b1.Bytes (0+(iN (bE 384 v.s47))) (bB (bQ v.s45 (iN v.s47) 0)))
def L7:Bool:=((eC (ln v.b1.Bytes) (ln (L6 v)))&&((e1 (ln v.b1.Log))&&true))
end
def N9(v:V93_1):Pt (Option V93_1):=(.ok true (.br (ltI v.s47 v.s46) (.ok ((hZ [.int .i64] v.s45 v.s47)&&true) (.ok (((leI 0 (bE 384 v.s47))&&(ltI (bE 384 v.s47) (cA v.b1.Bytes)))&&(((blt (0+(iN (bE 384 v.s47))) (ln v.b1.Bytes))&&(jW (jX v.b1.Bytes (0+(iN (bE 384 v.s47)))) 1))&&true)) (.ok true (.ok ((((bS v.b0 true)&&((bS v.b1 true)&&(bS v.b0 (L7 v))))&&true)&&((bS v.b0 true)&&((L7 v)&&true))) (.leaf (some {v with b1:={v.b1 with Bytes:=(L6 v)},s47:=(bE v.s47 1)})))))) (.leaf none)))
def aFD(v:V93_1):St:=⟨[(4,(.one (.ptr 0 0 0))),(6,(.one (.ptr 1 0 0))),(45,(.one (.imm false 1 v.s45))),(46,(.one (li v.s46))),(47,(.one (li v.s47)))],[.box [.sl 2 0 (ln v.b0.Bytes), .sl 3 0 (ln v.b0.Log)], .box [.sl 4 0 (ln v.b1.Bytes), .sl 5 0 (ln v.b1.Log)], .lst 1 v.b0.Bytes, .lst 5 v.b0.Log, .lst 1 v.b1.Bytes, .lst 5 v.b1.Log]⟩
def aOX:St→Option (V93_1×Bool)
 |⟨[(4,(.one (.ptr 0 0 0))),(6,(.one (.ptr 1 0 0))),(45,(.one (.imm false 1 c0))),(46,(.one (li c1))),(47,(.one (li c2)))],[.box [.sl 2 0 l2, .sl 3 0 l3], .box [.sl 4 0 l4, .sl 5 0 l5], .lst 1 c_2, .lst 5 c_3, .lst 1 c_4, .lst 5 c_5]⟩=>some ((V93_1.mk (bM.mk c_2 c_3) (bM.mk c_4 c_5) c0 c1 c2),eC l2 (ln c_2)&&(eC l3 (ln c_3)&&(eC l4 (ln c_4)&&(eC l5 (ln c_5)&&(true)))))
 |_=>none
def aI9:St→Option (Pt Out):=x9 Q164 [(37,K0),(38,K0),(40,K1),(43,K0),(50,K0),(51,K0),(53,K1),(57,K0),(59,K7),(1000003,[])] [] true a04 0 2097152 aZ6
theorem bKI(v:V93_1):((aI9 (aFD v)).bind (sY true true 0 [4,6,45,46,47]))=some ((N9 v).map (Option.map aFD)):=by kernel_rfl
theorem bKJ(σ:St)(v:V93_1)(h:aOX σ=some (v,true)):σ=aFD v:=by
 unfold aOX at h;split at h
 ·obtain⟨hr,hk⟩:=qp (qi h);obtain⟨d0,hk0⟩:=bJ hk;obtain⟨d1,hk1⟩:=bJ hk0;obtain⟨d2,hk2⟩:=bJ hk1;obtain⟨d3,hk3⟩:=bJ hk2;obtain rfl:=of_decide_eq_true d0;obtain rfl:=of_decide_eq_true d1;obtain rfl:=of_decide_eq_true d2;obtain rfl:=of_decide_eq_true d3;rw[←hr];rfl
 ·simp at h
theorem bKK:dB (vF true true 0 [4,6,45,46,47] aI9 aOX aFD N9 2097152) (fY R 0 2097152 (.loop [4,6,45,46,47] aZ6)):=eM (dD O3 (cQ (l:=[]) (by kernel_rfl) trivial)) bKJ bKI
def bKL:Lp:=(48,vF true true 0 [4,6,45,46,47] aI9 aOX aFD N9 2097152)::a04
def a05(v:V93_1):V93_1:=(hid (eG N9 2097152 v)).getD v
def bH7(v:V93_1):Bool:=(hid (eG N9 2097152 v)).isSome
section
variable(a:List Row)(b:List Row)
def qR:V93_0:=(bH5 (V93_0.mk (bM.mk [] []) (bM.mk (List.replicate 512 (bB 0)) []) b a (cA a) 0))
def a06:Bool:=(bS (qR a b).b0 (bS (qR a b).b1 true))
def a07:Bool:=(bS (a05 (V93_1.mk (qR a b).b0 (qR a b).b1 (qR a b).s1 (cA (qR a b).s1) 0)).b1 true)
end
def T93(a:List Row)(b:List Row):Pt (bM×Bool):=(.ok true (.ok ((a03 a)&&((((a03 b)&&true)||(!(aVW a)))&&true)) (.br (bif (bif (bif (!(aVW a))then true else(!(aVW b)))then true else(kU (cA a) 384))then true else(kU (cA b) 64)) (.ok true (.ok true (.leaf ((bM.mk [] []),false)))) (.ok true (.ok true (.ok true (.ok true (.ok (bH6 (V93_0.mk (bM.mk [] []) (bM.mk (List.replicate 512 (bB 0)) []) b a (cA a) 0)) (.ok true (.ok ((((bS (qR a b).b0 true)&&((bS (qR a b).b1 true)&&(a06 a b)))&&true)&&((bS (qR a b).b0 true)&&((bS (qR a b).b1 true)&&true))) (.ok (a06 a b) (.ok (bH7 (V93_1.mk (qR a b).b0 (qR a b).b1 (qR a b).s1 (cA (qR a b).s1) 0)) (.ok true (.ok ((a07 a b)&&((a07 a b)&&true)) (.leaf ((a05 (V93_1.mk (qR a b).b0 (qR a b).b1 (qR a b).s1 (cA (qR a b).s1) 0)).b1,true))))))))))))))))
def g93(a:List Row)(b:List Row):bM×Bool:=hid (T93 a b).val
def k93(a:List Row)(b:List Row):Bool:=hid (T93 a b).okv
def n93(a:List Row)(b:List Row)(r:bM×Bool):SV×List Blk:=((.tup [(.agg [.sl 0 0 (ln r.1.Bytes), .sl 1 0 (ln r.1.Log)]),(.one (.lit (.bool r.2)))]),[.lst 1 r.1.Bytes, .lst 5 r.1.Log])
def q93:=bKD (fun a b=>n93 a b (g93 a b)) k93
theorem cBB:fM (fun live x=>dB (oV bKL (m6 x)) (fY R 0 2097152 (.loop live x))) F93.body:=(cQ (l:=[([1,4,6,32,33,34],aZ5),([4,6,45,46,47],aZ6)]) (by kernel_rfl) ⟨fN (n:=35) (by kernel_rfl) fun σ σr t h ho hl=>bKH σ σr t h ho hl,fN (n:=48) (by kernel_rfl) fun σ σr t h ho hl=>bKK σ σr t h ho hl,trivial⟩)
theorem t93:cK 93 q93:=bKE fun a b hk=>tcl b98 O3 cBB [(37,K0),(38,K0),(40,K1),(43,K0),(50,K0),(51,K0),(53,K1),(57,K0),(59,K7),(1000003,[])] [] true (T93 a b) (n93 a b) hk
def Q93:=aZ 93 q93 Q164
theorem a08:QO Q93:=aF t93 O3
def cBC(a:List Row)(b:Int):List SV:=[(.one (.imm false 1 a)),(.one (li b))]
def cBD(a:List Row)(b:Int):List Blk:=[]
def bKM(N:List Row→Int→SV×List Blk)(K:List Row→Int→Bool):List SV→List Blk→Option ((SV×List Blk)×Bool)
 |[(.one (.imm false 1 c0)),(.one (li c1))],[]=>some (N c0 c1,K c0 c1)
 |_,_=>none
theorem bKN{N:List Row→Int→SV×List Blk}{K:List Row→Int→Bool}{f:Nat}(h: ∀(a:List Row)(b:Int),K a b=true→dJ R f (cBC a b) (cBD a b)=some (N a b)):cK f (bKM N K):=fun _ _ _ e=>by
 unfold bKM at e;split at e
 ·exact vH e (h _ _)
 ·cases e
section
variable(a:List Row)
def a09:Bool:=((e1 (ln (g94).D))&&((eC (ln (g94).A) (ln (List.set (g94).A 3 (bB 384))))&&(bS (g93 a []).1 true)))
end
def T20(a:List Row)(b:Int):Pt (aI×Bool):=(.ok true (.ok ((k93 a [])&&true) (.ok ((((k77 b)&&true)||(!(g93 a []).2))&&true) (.br (bif (!(g93 a []).2)then true else(!(g77 b))) (.ok true (.ok true (.leaf ((aI.mk (aH.mk [] [] 0 0 0 0 false false) (bM.mk [] []) false false),false)))) (.ok ((k94)&&true) (.ok true (.ok ((ltI 3 (cA (g94).A))&&(((blt 3 (ln (g94).A))&&(jW (jX (g94).A 3) 1))&&true)) (.ok true (.ok (((a09 a)&&((aP (g94) (bS (g93 a []).1 true))&&true))&&(((a09 a)&&true)&&true)) (.leaf ((aI.mk {(g94)with A:=(List.set (g94).A 3 (bB 384)),PC:=b} (g93 a []).1 false false),true)))))))))))
def g20(a:List Row)(b:Int):aI×Bool:=hid (T20 a b).val
def k20(a:List Row)(b:Int):Bool:=hid (T20 a b).okv
def n20(a:List Row)(b:Int)(r:aI×Bool):SV×List Blk:=((.tup [(.agg [.sl 0 0 (ln r.1.R.D), .sl 1 0 (ln r.1.R.A),li r.1.R.Other,li r.1.R.PC,li r.1.R.Flags,li r.1.R.Mask, .lit (.bool r.1.R.Super), .lit (.bool r.1.R.Trace), .sl 2 0 (ln r.1.Bus.Bytes), .sl 3 0 (ln r.1.Bus.Log), .lit (.bool r.1.Stop), .lit (.bool r.1.Halt)]),(.one (.lit (.bool r.2)))]),[.lst 1 r.1.R.D, .lst 1 r.1.R.A, .lst 1 r.1.Bus.Bytes, .lst 5 r.1.Bus.Log])
def q20:=bKM (fun a b=>n20 a b (g20 a b)) k20
theorem t20:cK 20 q20:=bKN fun a b hk=>tc b9F a08 [(26,K1),(27,K0),(28,K6),(29,K7),(1000001,[])] [] true (T20 a b) (n20 a b) hk
def Q20:=aZ 20 q20 Q93
theorem a1A:QO Q20:=aF t20 a08
def K8:List Kd:=[.imm 1, .imm 1, .int .i64, .int .i64, .int .i64, .int .i64, .bool, .bool, .imm 1, .imm 5, .bool, .bool]
section
variable(a:aM)
def JM:aI×Bool:=(g20 (w9 a).2.1 (w9 a).2.2)
def uS:aM×Int:=(cW 60 (OP (w9 a).1).1)
def FM:Bool:=(aP (OP (w9 a).1).2 (bS (g20 [] 0).1.Bus true))
def aFE:aH:={(OP (w9 a).1).2 with PC:=(g20 [] 0).1.R.PC}
def FN:Bool:=(aP (OP (w9 a).1).2 (bS (JM a).1.Bus true))
def aFF:aH:={(OP (w9 a).1).2 with PC:=(JM a).1.R.PC}
end
def T71(a:aM):Pt (aM×aI):=(.ok true (.ok ((bJ9 a)&&true) (.ok ((bKA (w9 a).1)&&true) (.ok ((((e1 (ln (w9 a).2.1))&&true)&&(k20 (w9 a).2.1 (w9 a).2.2))&&true) (.ok true (.br (!(JM a).2) (.ok ((k20 [] 0)&&true) (.ok true (.ok true (.ok true (.ok ((w7 60 (OP (w9 a).1).1)&&true) (.ok true (.br (eqI (uS a).2 0) (.ok true (.ok true (.ok ((FM a)&&((FM a)&&true)) (.leaf ((uS a).1,{(g20 [] 0).1 with R:=(aFE a),Stop:=true}))))) (.ok true (.br (eqI (uS a).2 1) (.ok true (.ok true (.ok ((FM a)&&((FM a)&&true)) (.leaf ((uS a).1,{(g20 [] 0).1 with R:=(aFE a),Halt:=true}))))) (.ok true (.br (eqI (uS a).2 2) (.ok true (.ok true (.ok ((FM a)&&((FM a)&&true)) (.leaf ((uS a).1,{(g20 [] 0).1 with R:=(OP (w9 a).1).2}))))) (.ok true (.ok ((FM a)&&((FM a)&&true)) (.leaf ((uS a).1,{(g20 [] 0).1 with R:=(aFE a)}))))))))))))))) (.ok true (.ok true (.ok true (.ok ((w7 60 (OP (w9 a).1).1)&&true) (.ok true (.br (eqI (uS a).2 0) (.ok true (.ok true (.ok ((FN a)&&((FN a)&&true)) (.leaf ((uS a).1,{(JM a).1 with R:=(aFF a),Stop:=true}))))) (.ok true (.br (eqI (uS a).2 1) (.ok true (.ok true (.ok ((FN a)&&((FN a)&&true)) (.leaf ((uS a).1,{(JM a).1 with R:=(aFF a),Halt:=true}))))) (.ok true (.br (eqI (uS a).2 2) (.ok true (.ok true (.ok ((FN a)&&((FN a)&&true)) (.leaf ((uS a).1,{(JM a).1 with R:=(OP (w9 a).1).2}))))) (.ok true (.ok ((FN a)&&((FN a)&&true)) (.leaf ((uS a).1,{(JM a).1 with R:=(aFF a)}))))))))))))))))))))
def g71(a:aM):aM×aI:=hid (T71 a).val
def k71(a:aM):Bool:=hid (T71 a).okv
def n71(a:aM)(r:aM×aI):SV×List Blk:=((.agg [.sl 1 0 (ln r.2.R.D), .sl 2 0 (ln r.2.R.A),li r.2.R.Other,li r.2.R.PC,li r.2.R.Flags,li r.2.R.Mask, .lit (.bool r.2.R.Super), .lit (.bool r.2.R.Trace), .sl 3 0 (ln r.2.Bus.Bytes), .sl 4 0 (ln r.2.Bus.Log), .lit (.bool r.2.Stop), .lit (.bool r.2.Halt)]),[.box [.imm true 1 r.1.fcode,li r.1.fat, .lit (.int .u64 r.1.fseed)], .lst 1 r.2.R.D, .lst 1 r.2.R.A, .lst 1 r.2.Bus.Bytes, .lst 5 r.2.Bus.Log])
def q71:=DS0 (fun a=>n71 a (g71 a)) k71
theorem t71:cK 71 q71:=JG fun a hk=>tc b9R a1A [(30,K0),(31,K6),(47,K0),(50,K8)] [] true (T71 a) (n71 a) hk
def Q71:=aZ 71 q71 Q20
theorem a1B:QO Q71:=aF t71 a1A
def K9:List Kd:=[.imm 1, .imm 1, .int .i64, .int .i64, .int .i64, .int .i64, .bool, .bool, .imm 1, .imm 5, .bool, .bool, .int .i64, .bool]
section
variable(a:aM)
def HG:aM×Int:=(N6 [(bB 0),(bB 0),(bB 2),(bB 5),(bB 7)] (g71 a).1)
def R1:aM×Bool:=(nB 40 (nB 6 (HG a).1).1)
def aJA:Bool:=((aO (g71 a).2 true)&&((aO (g71 a).2 true)&&true))
def aJB:aM×Int:=(N6 [(bB (-1)),(bB 8)] (R1 a).1)
end
def a1C(a:aM):Pt (aM×bN):=(.ok true (.ok ((k71 a)&&((k90 [(bB 0),(bB 0),(bB 2),(bB 5),(bB 7)] (g71 a).1)&&((k86 6 (HG a).1)&&true))) (.ok ((k86 40 (nB 6 (HG a).1).1)&&true) (.br (R1 a).2 (.ok ((k90 [(bB (-1)),(bB 8)] (R1 a).1)&&true) (.ok true (.ok (aJA a) (.leaf ((aJB a).1,(bN.mk (g71 a).2 (aJB a).2 (nB 6 (HG a).1).2)))))) (.ok true (.ok (aJA a) (.leaf ((R1 a).1,(bN.mk (g71 a).2 (HG a).2 (nB 6 (HG a).1).2)))))))))
def aVX(a:aM):aM×bN:=hid (a1C a).val
def bCD(a:aM):Bool:=hid (a1C a).okv
def b27(a:aM)(r:aM×bN):SV×List Blk:=((.agg [.sl 1 0 (ln r.2.Cpu.R.D), .sl 2 0 (ln r.2.Cpu.R.A),li r.2.Cpu.R.Other,li r.2.Cpu.R.PC,li r.2.Cpu.R.Flags,li r.2.Cpu.R.Mask, .lit (.bool r.2.Cpu.R.Super), .lit (.bool r.2.Cpu.R.Trace), .sl 3 0 (ln r.2.Cpu.Bus.Bytes), .sl 4 0 (ln r.2.Cpu.Bus.Log), .lit (.bool r.2.Cpu.Stop), .lit (.bool r.2.Cpu.Halt),li r.2.Line, .lit (.bool r.2.Edge)]),[.box [.imm true 1 r.1.fcode,li r.1.fat, .lit (.int .u64 r.1.fseed)], .lst 1 r.2.Cpu.R.D, .lst 1 r.2.Cpu.R.A, .lst 1 r.2.Cpu.Bus.Bytes, .lst 5 r.2.Cpu.Bus.Log])
def q146:=DS0 (fun a=>b27 a (aVX a)) bCD
theorem cBF:cK 146 q146:=JG fun a hk=>tc bXZ a1B [(18,K9)] [] true (a1C a) (b27 a) hk
def Q146:=aZ 146 q146 Q71
theorem aOY:QO Q146:=aF cBF a1B
def cBG(a:List Row):List SV:=[(.one (.imm true 1 a))]
def cBH(a:List Row):List Blk:=[]
def aFG(N:List Row→SV×List Blk)(K:List Row→Bool):List SV→List Blk→Option ((SV×List Blk)×Bool)
 |[(.one (.imm true 1 c0))],[]=>some (N c0,K c0)
 |_,_=>none
theorem L8{N:List Row→SV×List Blk}{K:List Row→Bool}{f:Nat}(h: ∀(a:List Row),K a=true→dJ R f (cBG a) (cBH a)=some (N a)):cK f (aFG N K):=fun _ _ _ e=>by
 unfold aFG at e;split at e
 ·exact vH e (h _)
 ·cases e
section
variable(a:List Row)
def aJC:Bool:=(d9 (aVX (aM.mk a 0 0)).2 true)
end
def a1D(a:List Row):Pt (bN):=(.ok true (.ok true (.ok ((bCD (aM.mk a 0 0))&&true) (.ok ((aJC a)&&((aJC a)&&true)) (.leaf (aVX (aM.mk a 0 0)).2)))))
def aVY(a:List Row):bN:=hid (a1D a).val
def bKO(a:List Row):Bool:=hid (a1D a).okv
def b28(a:List Row)(r:bN):SV×List Blk:=((.agg [.sl 0 0 (ln r.Cpu.R.D), .sl 1 0 (ln r.Cpu.R.A),li r.Cpu.R.Other,li r.Cpu.R.PC,li r.Cpu.R.Flags,li r.Cpu.R.Mask, .lit (.bool r.Cpu.R.Super), .lit (.bool r.Cpu.R.Trace), .sl 2 0 (ln r.Cpu.Bus.Bytes), .sl 3 0 (ln r.Cpu.Bus.Log), .lit (.bool r.Cpu.Stop), .lit (.bool r.Cpu.Halt),li r.Line, .lit (.bool r.Edge)]),[.lst 1 r.Cpu.R.D, .lst 1 r.Cpu.R.A, .lst 1 r.Cpu.Bus.Bytes, .lst 5 r.Cpu.Bus.Log])
def q138:=aFG (fun a=>b28 a (aVY a)) bKO
theorem cBI:cK 138 q138:=L8 fun a hk=>tc bXS aOY [] [] true (a1D a) (b28 a) hk
def Q138:=aZ 138 q138 Q146
theorem aOZ:QO Q138:=aF cBI aOY
def T61(a:List Row):Pt (bN):=(.ok true (.ok ((bKO a)&&true) (.ok ((d9 (aVY a) true)&&((d9 (aVY a) true)&&true)) (.ok (d9 (aVY a) true) (.leaf (aVY a))))))
def rK(a:List Row):bN:=hid (T61 a).val
def k61(a:List Row):Bool:=hid (T61 a).okv
def n61(a:List Row)(r:bN):SV×List Blk:=((.agg [.imm true 1 r.Cpu.R.D, .imm true 1 r.Cpu.R.A,li r.Cpu.R.Other,li r.Cpu.R.PC,li r.Cpu.R.Flags,li r.Cpu.R.Mask, .lit (.bool r.Cpu.R.Super), .lit (.bool r.Cpu.R.Trace), .imm true 1 r.Cpu.Bus.Bytes, .imm true 5 r.Cpu.Bus.Log, .lit (.bool r.Cpu.Stop), .lit (.bool r.Cpu.Halt),li r.Line, .lit (.bool r.Edge)]),[])
def q61:=aFG (fun a=>n61 a (rK a)) k61
theorem t61:cK 100061 q61:=L8 fun a hk=>tz b9H aOZ [] [] true (T61 a) (n61 a) hk
def Q61:=aZ 100061 q61 Q138
theorem a1E:QO Q61:=aF t61 aOZ
def a1F(a:Int)(b:Int)(c:Int):Pt (Bool):=(.ok true (.ok true (.ok true (.ok true (.leaf (bif (geI a b)then(leI a c)else false))))))
def vB(a:Int)(b:Int)(c:Int):Bool:=hid (a1F a b c).val
def xA(a:Int)(b:Int)(c:Int):Bool:=hid (a1F a b c).okv
def q106:=DS5 (fun a b c=>bA9 a b c (vB a b c)) xA
theorem cBK:cK 100106 q106:=CN fun a b c hk=>tz bXD a1E [] [] true (a1F a b c) (bA9 a b c) hk
def Q106:=aZ 100106 q106 Q61
theorem aO0:QO Q106:=aF cBK a1E
def T73(a:Int):Pt (Bool):=(.ok true (.ok ((xA a 0 65535)&&true) (.ok true (.ok true (.leaf (vB a 0 65535))))))
def g73(a:Int):Bool:=hid (T73 a).val
def k73(a:Int):Bool:=hid (T73 a).okv
def q73:=BP (fun a=>jZ a (g73 a)) k73
theorem t73:cK 100073 q73:=gS fun a hk=>tz b9S aO0 [] [] true (T73 a) (jZ a) hk
def Q73:=aZ 100073 q73 Q106
theorem a1G:QO Q73:=aF t73 aO0
def a1H(a:Int):Pt (Bool):=(.ok true (.ok ((k73 a)&&true) (.ok true (.leaf (!(g73 a))))))
def bCE(a:Int):Bool:=hid (a1H a).val
def bCF(a:Int):Bool:=hid (a1H a).okv
def q226:=BP (fun a=>jZ a (bCE a)) bCF
theorem cBL:cK 226 q226:=gS fun a hk=>tc bZY a1G [] [] true (a1H a) (jZ a) hk
def Q226:=aZ 226 q226 Q73
theorem aAA:QO Q226:=aF cBL a1G
def cBM(a:List Row):List SV:=[(.one (.imm true 1 a)),(.one (.clo 226 []))]
def cBN(a:List Row):List Blk:=[]
def bCG(N:List Row→SV×List Blk)(K:List Row→Bool):List SV→List Blk→Option ((SV×List Blk)×Bool)
 |[(.one (.imm true 1 c0)),(.one (.clo 226 []))],[]=>some (N c0,K c0)
 |_,_=>none
theorem a1I{N:List Row→SV×List Blk}{K:List Row→Bool}{f:Nat}(h: ∀(a:List Row),K a=true→dJ R f (cBM a) (cBN a)=some (N a)):cK f (bCG N K):=fun _ _ _ e=>by
 unfold bCG at e;split at e
 ·exact vH e (h _)
 ·cases e
structure V227_0 where
 mk::
 (s0:List Row)
 (s7:Int)
 (s8:Int)
def L9(v:V227_0):Pt (Option V227_0):=(.ok true (.br (ltI v.s8 v.s7) (.ok true (.ok ((hZ [.int .i64] v.s0 v.s8)&&((bCF (bQ v.s0 (iN v.s8) 0))&&true)) (.br (bCE (bQ v.s0 (iN v.s8) 0)) (.ok true (.leaf none)) (.ok true (.ok true (.leaf (some {v with s8:=(bE v.s8 1)}))))))) (.leaf none)))
def R2(v:V227_0):St:=⟨[(0,(.one (.imm true 1 v.s0))),(1,(.one (.clo 226 []))),(7,(.one (li v.s7))),(8,(.one (li v.s8)))],[]⟩
def aAB:St→Option (V227_0×Bool)
 |⟨[(0,(.one (.imm true 1 c0))),(1,(.one (.clo 226 []))),(7,(.one (li c1))),(8,(.one (li c2)))],[]⟩=>some ((V227_0.mk c0 c1 c2),true)
 |_=>none
def aAC:St→Option (Pt Out):=x9 Q226 [(14,K0),(15,K0)] [] true [] 0 2097152 LJ
theorem bCH(v:V227_0):((aAC (R2 v)).bind (sY true false 0 [0,1,7,8]))=some ((L9 v).map (Option.map R2)):=by kernel_rfl
theorem bCI(σ:St)(v:V227_0)(h:aAB σ=some (v,true)):σ=R2 v:=by
 unfold aAB at h;split at h
 ·obtain⟨hr,hk⟩:=qp (qi h);rw[←hr];rfl
 ·simp at h
theorem bCJ:dB (vF true false 0 [0,1,7,8] aAC aAB R2 L9 2097152) (fY R 0 2097152 (.loop [0,1,7,8] LJ)):=eM (dD aAA (cQ (l:=[]) (by kernel_rfl) trivial)) bCI bCH
def bCK:Lp:=(9,vF true false 0 [0,1,7,8] aAC aAB R2 L9 2097152)::[]
def R3(v:V227_0):V227_0:=(hid (eG L9 2097152 v)).getD v
def aJD(v:V227_0):Bool:=(hid (eG L9 2097152 v)).isSome
section
variable(a:List Row)
def aAD:V227_0:=(R3 (V227_0.mk a (cA a) 0))
end
def bCL(a:List Row):Pt (Int):=(.ok true (.ok true (.ok true (.ok true (.ok (aJD (V227_0.mk a (cA a) 0)) (.br (ltI (aAD a).s8 (aAD a).s7) (.ok true (.leaf (aAD a).s8)) (.ok true (.ok true (.leaf (-1))))))))))
def bCM(a:List Row):Int:=hid (bCL a).val
def bCN(a:List Row):Bool:=hid (bCL a).okv
def aVZ(a:List Row)(r:Int):SV×List Blk:=((.one (li r)),[])
def q227:=bCG (fun a=>aVZ a (bCM a)) bCN
theorem b3A:fM (fun live x=>dB (oV bCK (m6 x)) (fY R 0 2097152 (.loop live x))) F227.body:=(cQ (l:=[([0,1,7,8],LJ)]) (by kernel_rfl) ⟨fN (n:=9) (by kernel_rfl) fun σ σr t h ho hl=>bCJ σ σr t h ho hl,trivial⟩)
theorem cBO:cK 227 q227:=a1I fun a hk=>tcl bHX aAA b3A [(14,K0),(15,K0)] [] true (bCL a) (aVZ a) hk
def Q227:=aZ 227 q227 Q226
theorem aO1:QO Q227:=aF cBO aAA
def bCO(a:List Row):Pt (Bool):=(.ok true (.ok ((bCN a)&&true) (.ok true (.leaf (geI (bCM a) 0)))))
def a1J(a:List Row):Bool:=hid (bCO a).val
def a1K(a:List Row):Bool:=hid (bCO a).okv
def q171:=bCG (fun a=>JL a (a1J a)) a1K
theorem cBP:cK 171 q171:=a1I fun a hk=>tc bHW aO1 [] [] true (bCO a) (JL a) hk
def Q171:=aZ 171 q171 Q227
theorem aO2:QO Q171:=aF cBP aO1
def a1L(a:List Row):Pt (Bool):=(.ok true (.ok ((((a1K a)&&true)||(!(eqI (cA a) 4)))&&true) (.ok true (.ok true (.leaf (bif (eqI (cA a) 4)then(!(a1J a))else false))))))
def a1M(a:List Row):Bool:=hid (a1L a).val
def bCP(a:List Row):Bool:=hid (a1L a).okv
def q169:=aFG (fun a=>JL a (a1M a)) bCP
theorem cBQ:cK 100169 q169:=L8 fun a hk=>tz bYJ aO2 [] [] true (a1L a) (JL a) hk
def Q169:=aZ 100169 q169 Q171
theorem aO3:QO Q169:=aF cBQ aO2
def a1N(a:Int):Pt (Bool):=(.ok true (.ok ((xA a 0 31)&&true) (.ok true (.ok true (.leaf (vB a 0 31))))))
def bKQ(a:Int):Bool:=hid (a1N a).val
def bKR(a:Int):Bool:=hid (a1N a).okv
def q170:=BP (fun a=>jZ a (bKQ a)) bKR
theorem cBR:cK 100170 q170:=gS fun a hk=>tz bYK aO3 [] [] true (a1N a) (jZ a) hk
def Q170:=aZ 100170 q170 Q169
theorem aO4:QO Q170:=aF cBR aO3
def cBS(a:aH):List SV:=[(.agg [.imm true 1 a.D, .imm true 1 a.A,li a.Other,li a.PC,li a.Flags,li a.Mask, .lit (.bool a.Super), .lit (.bool a.Trace)])]
def cBT(a:aH):List Blk:=[]
def bCQ(N:aH→SV×List Blk)(K:aH→Bool):List SV→List Blk→Option ((SV×List Blk)×Bool)
 |[(.agg [.imm true 1 c0, .imm true 1 c1,li c2,li c3,li c4,li c5, .lit (.bool c6), .lit (.bool c7)])],[]=>some (N (aH.mk c0 c1 c2 c3 c4 c5 c6 c7),K (aH.mk c0 c1 c2 c3 c4 c5 c6 c7))
 |_,_=>none
theorem a1O{N:aH→SV×List Blk}{K:aH→Bool}{f:Nat}(h: ∀(a:aH),K a=true→dJ R f (cBS a) (cBT a)=some (N a)):cK f (bCQ N K):=fun _ _ _ e=>by
 unfold bCQ at e;split at e
 ·exact vH e (h _)
 ·cases e
section
variable(a:aH)
def aJE:Bool:=(bif (a1M a.D)then(a1M a.A)else false)
def aJF:Bool:=(bif (aJE a)then(g73 a.Other)else false)
def aJG:Bool:=(bif (aJF a)then(g73 a.PC)else false)
def aJH:Bool:=(bif (aJG a)then(bKQ a.Flags)else false)
end
def a1P(a:aH):Pt (Bool):=(.ok true (.ok ((bCP a.D)&&((((bCP a.A)&&true)||(!(a1M a.D)))&&((((k73 a.Other)&&true)||(!(aJE a)))&&((((k73 a.PC)&&true)||(!(aJF a)))&&((((bKR a.Flags)&&true)||(!(aJG a)))&&((((xA a.Mask 0 7)&&true)||(!(aJH a)))&&true)))))) (.ok true (.ok true (.leaf (bif (aJH a)then(vB a.Mask 0 7)else false))))))
def bCR(a:aH):Bool:=hid (a1P a).val
def bKS(a:aH):Bool:=hid (a1P a).okv
def bCS(a:aH)(r:Bool):SV×List Blk:=((.one (.lit (.bool r))),[])
def q110:=bCQ (fun a=>bCS a (bCR a)) bKS
theorem cBU:cK 100110 q110:=a1O fun a hk=>tz bXH aO4 [(4,K1),(8,K1),(13,K0),(18,K0),(23,K0),(28,K0)] [] true (a1P a) (bCS a) hk
def Q110:=aZ 100110 q110 Q170
theorem aO5:QO Q110:=aF cBU aO4
def a1Q(a:Int):Pt (Bool):=(.ok true (.ok ((xA a 0 255)&&true) (.ok true (.leaf (!(vB a 0 255))))))
def bCT(a:Int):Bool:=hid (a1Q a).val
def bCU(a:Int):Bool:=hid (a1Q a).okv
def q172:=BP (fun a=>jZ a (bCT a)) bCU
theorem cBV:cK 172 q172:=gS fun a hk=>tc bYL aO5 [] [] true (a1Q a) (jZ a) hk
def Q172:=aZ 172 q172 Q110
theorem aAE:QO Q172:=aF cBV aO5
def cBW(a:List Row):List SV:=[(.one (.imm true 1 a)),(.one (.clo 172 []))]
def cBX(a:List Row):List Blk:=[]
def bCV(N:List Row→SV×List Blk)(K:List Row→Bool):List SV→List Blk→Option ((SV×List Blk)×Bool)
 |[(.one (.imm true 1 c0)),(.one (.clo 172 []))],[]=>some (N c0,K c0)
 |_,_=>none
theorem a1R{N:List Row→SV×List Blk}{K:List Row→Bool}{f:Nat}(h: ∀(a:List Row),K a=true→dJ R f (cBW a) (cBX a)=some (N a)):cK f (bCV N K):=fun _ _ _ e=>by
 unfold bCV at e;split at e
 ·exact vH e (h _)
 ·cases e
structure V227v1_0 where
 mk::
 (s0:List Row)
 (s7:Int)
 (s8:Int)
def zS(v:V227v1_0):Pt (Option V227v1_0):=(.ok true (.br (ltI v.s8 v.s7) (.ok true (.ok ((hZ [.int .i64] v.s0 v.s8)&&((bCU (bQ v.s0 (iN v.s8) 0))&&true)) (.br (bCT (bQ v.s0 (iN v.s8) 0)) (.ok true (.leaf none)) (.ok true (.ok true (.leaf (some {v with s8:=(bE v.s8 1)}))))))) (.leaf none)))
def C2(v:V227v1_0):St:=⟨[(0,(.one (.imm true 1 v.s0))),(1,(.one (.clo 172 []))),(7,(.one (li v.s7))),(8,(.one (li v.s8)))],[]⟩
def JN:St→Option (V227v1_0×Bool)
 |⟨[(0,(.one (.imm true 1 c0))),(1,(.one (.clo 172 []))),(7,(.one (li c1))),(8,(.one (li c2)))],[]⟩=>some ((V227v1_0.mk c0 c1 c2),true)
 |_=>none
def MA:St→Option (Pt Out):=x9 Q172 [(14,K0),(15,K0)] [] true [] 0 2097152 LJ
theorem aV0(v:V227v1_0):((MA (C2 v)).bind (sY true false 0 [0,1,7,8]))=some ((zS v).map (Option.map C2)):=by kernel_rfl
theorem aV1(σ:St)(v:V227v1_0)(h:JN σ=some (v,true)):σ=C2 v:=by
 unfold JN at h;split at h
 ·obtain⟨hr,hk⟩:=qp (qi h);rw[←hr];rfl
 ·simp at h
theorem aV2:dB (vF true false 0 [0,1,7,8] MA JN C2 zS 2097152) (fY R 0 2097152 (.loop [0,1,7,8] LJ)):=eM (dD aAE (cQ (l:=[]) (by kernel_rfl) trivial)) aV1 aV0
def aV3:Lp:=(9,vF true false 0 [0,1,7,8] MA JN C2 zS 2097152)::[]
def C3(v:V227v1_0):V227v1_0:=(hid (eG zS 2097152 v)).getD v
def R4(v:V227v1_0):Bool:=(hid (eG zS 2097152 v)).isSome
section
variable(a:List Row)
def JO:V227v1_0:=(C3 (V227v1_0.mk a (cA a) 0))
end
def aAF(a:List Row):Pt (Int):=(.ok true (.ok true (.ok true (.ok true (.ok (R4 (V227v1_0.mk a (cA a) 0)) (.br (ltI (JO a).s8 (JO a).s7) (.ok true (.leaf (JO a).s8)) (.ok true (.ok true (.leaf (-1))))))))))
def aAG(a:List Row):Int:=hid (aAF a).val
def aAH(a:List Row):Bool:=hid (aAF a).okv
def q227v1:=bCV (fun a=>aVZ a (aAG a)) aAH
theorem bCW:fM (fun live x=>dB (oV aV3 (m6 x)) (fY R 0 2097152 (.loop live x))) F227.body:=(cQ (l:=[([0,1,7,8],LJ)]) (by kernel_rfl) ⟨fN (n:=9) (by kernel_rfl) fun σ σr t h ho hl=>aV2 σ σr t h ho hl,trivial⟩)
theorem bKT:cK 227 q227v1:=a1R fun a hk=>tcl bHX aAE bCW [(14,K0),(15,K0)] [] true (aAF a) (aVZ a) hk
def Q227v1:=aZ 227 q227v1 Q172
theorem XJ:QO Q227v1:=aF bKT aAE
def aAI(a:List Row):Pt (Bool):=(.ok true (.ok ((aAH a)&&true) (.ok true (.leaf (geI (aAG a) 0)))))
def R5(a:List Row):Bool:=hid (aAI a).val
def R6(a:List Row):Bool:=hid (aAI a).okv
def q171v1:=bCV (fun a=>JL a (R5 a)) R6
theorem bKU:cK 171 q171v1:=a1R fun a hk=>tc bHW XJ [] [] true (aAI a) (JL a) hk
def Q171v1:=aZ 171 q171v1 Q227v1
theorem XK:QO Q171v1:=aF bKU XJ
def aJI(a:Int):Pt (Bool):=(.ok true (.ok true (.ok true (.ok true (.leaf (bif (eqI a 1)then true else(eqI a 2)))))))
def aFH(a:Int):Bool:=hid (aJI a).val
def aV4(a:Int):Bool:=hid (aJI a).okv
def q187:=BP (fun a=>jZ a (aFH a)) aV4
theorem cBY:cK 100187 q187:=gS fun a hk=>tz bY0 XK [] [] true (aJI a) (jZ a) hk
def Q187:=aZ 100187 q187 Q171v1
theorem aO6:QO Q187:=aF cBY XK
def aJJ(a:Int):Pt (Int):=(.ok true (.ok ((leI 0 (dH 8 a))&&true) (.ok true (.ok true (.leaf (m7 1 (dH 8 a)))))))
def pM(a:Int):Int:=hid (aJJ a).val
def C4(a:Int):Bool:=hid (aJJ a).okv
def xB(a:Int)(r:Int):SV×List Blk:=((.one (li r)),[])
def q262:=BP (fun a=>xB a (pM a)) C4
theorem cBZ:cK 100262 q262:=gS fun a hk=>tz b0X aO6 [] [] true (aJJ a) (xB a) hk
def Q262:=aZ 100262 q262 Q187
theorem aO7:QO Q262:=aF cBZ aO6
def cB0(a:Int)(b:Int):List SV:=[(.one (li a)),(.one (li b))]
def cB1(a:Int)(b:Int):List Blk:=[]
def JP(N:Int→Int→SV×List Blk)(K:Int→Int→Bool):List SV→List Blk→Option ((SV×List Blk)×Bool)
 |[(.one (li c0)),(.one (li c1))],[]=>some (N c0 c1,K c0 c1)
 |_,_=>none
theorem tM{N:Int→Int→SV×List Blk}{K:Int→Int→Bool}{f:Nat}(h: ∀(a:Int)(b:Int),K a b=true→dJ R f (cB0 a b) (cB1 a b)=some (N a b)):cK f (JP N K):=fun _ _ _ e=>by
 unfold JP at e;split at e
 ·exact vH e (h _ _)
 ·cases e
def a1S(a:Int)(b:Int):Pt (Bool):=(.ok true (.ok ((aV4 a)&&((((C4 a)&&((xA b 0 (cN (pM a) 1))&&true))||(!(aFH a)))&&true)) (.ok true (.ok true (.leaf (bif (aFH a)then(vB b 0 (cN (pM a) 1))else false))))))
def bKV(a:Int)(b:Int):Bool:=hid (a1S a b).val
def bKW(a:Int)(b:Int):Bool:=hid (a1S a b).okv
def VT(a:Int)(b:Int)(r:Bool):SV×List Blk:=((.one (.lit (.bool r))),[])
def q229:=JP (fun a b=>VT a b (bKV a b)) bKW
theorem cB2:cK 100229 q229:=tM fun a b hk=>tz bZ0 aO7 [] [] true (a1S a b) (VT a b) hk
def Q229:=aZ 100229 q229 Q262
theorem aO8:QO Q229:=aF cB2 aO7
def cB3(a:aE):List SV:=[(.agg [li a.Kind,li a.Size,li a.Addr,li a.Value,li a.Code])]
def cB4(a:aE):List Blk:=[]
def a1T(N:aE→SV×List Blk)(K:aE→Bool):List SV→List Blk→Option ((SV×List Blk)×Bool)
 |[(.agg [li c0,li c1,li c2,li c3,li c4])],[]=>some (N (aE.mk c0 c1 c2 c3 c4),K (aE.mk c0 c1 c2 c3 c4))
 |_,_=>none
theorem aJK{N:aE→SV×List Blk}{K:aE→Bool}{f:Nat}(h: ∀(a:aE),K a=true→dJ R f (cB3 a) (cB4 a)=some (N a)):cK f (a1T N K):=fun _ _ _ e=>by
 unfold a1T at e;split at e
 ·exact vH e (h _)
 ·cases e
section
variable(a:aE)
def aJL:Bool:=(bif (vB a.Kind 1 3)then(g73 a.Addr)else false)
def aJM:Bool:=(bif (aJL a)then(bKV a.Size a.Value)else false)
end
def a1U(a:aE):Pt (Bool):=(.ok true (.ok ((xA a.Kind 1 3)&&((((k73 a.Addr)&&true)||(!(vB a.Kind 1 3)))&&((((bKW a.Size a.Value)&&true)||(!(aJL a)))&&((((xA a.Code 0 3)&&true)||(!(aJM a)))&&true)))) (.ok true (.ok true (.leaf (bif (bif (aJM a)then(vB a.Code 0 3)else false)then(!(bif (eqI a.Kind 3)then(eqI a.Code 0)else false))else false))))))
def bKX(a:aE):Bool:=hid (a1U a).val
def bKY(a:aE):Bool:=hid (a1U a).okv
def aV5(a:aE)(r:Bool):SV×List Blk:=((.one (.lit (.bool r))),[])
def q175:=a1T (fun a=>aV5 a (bKX a)) bKY
theorem cB5:cK 100175 q175:=aJK fun a hk=>tz bYO aO8 [(4,K0),(8,K0),(13,K0),(15,K0),(20,K0),(25,K0),(29,K0)] [] true (a1U a) (aV5 a) hk
def Q175:=aZ 100175 q175 Q229
theorem aO9:QO Q175:=aF cB5 aO8
def K10:List Kd:=[.int .i64, .int .i64, .int .i64, .int .i64, .int .i64]
def a1V(a:aE):Pt (Bool):=(.ok true (.ok ((bKY a)&&true) (.ok true (.leaf (!(bKX a))))))
def bCX(a:aE):Bool:=hid (a1V a).val
def bCY(a:aE):Bool:=hid (a1V a).okv
def q174:=a1T (fun a=>aV5 a (bCX a)) bCY
theorem cB6:cK 174 q174:=aJK fun a hk=>tc bYN aO9 [(3,K10)] [] true (a1V a) (aV5 a) hk
def Q174:=aZ 174 q174 Q175
theorem aAK:QO Q174:=aF cB6 aO9
def cB7(a:List Row):List SV:=[(.one (.imm true 5 a)),(.one (.clo 174 []))]
def cB8(a:List Row):List Blk:=[]
def bCZ(N:List Row→SV×List Blk)(K:List Row→Bool):List SV→List Blk→Option ((SV×List Blk)×Bool)
 |[(.one (.imm true 5 c0)),(.one (.clo 174 []))],[]=>some (N c0,K c0)
 |_,_=>none
theorem a1W{N:List Row→SV×List Blk}{K:List Row→Bool}{f:Nat}(h: ∀(a:List Row),K a=true→dJ R f (cB7 a) (cB8 a)=some (N a)):cK f (bCZ N K):=fun _ _ _ e=>by
 unfold bCZ at e;split at e
 ·exact vH e (h _)
 ·cases e
structure V228_0 where
 mk::
 (s0:List Row)
 (s7:Int)
 (s8:Int)
def MB(v:V228_0):Pt (Option V228_0):=(.ok true (.br (ltI v.s8 v.s7) (.ok true (.ok ((hZ [.int .i64, .int .i64, .int .i64, .int .i64, .int .i64] v.s0 v.s8)&&((bCY (aE.at v.s0 (iN v.s8) 0))&&true)) (.br (bCX (aE.at v.s0 (iN v.s8) 0)) (.ok true (.leaf none)) (.ok true (.ok true (.leaf (some {v with s8:=(bE v.s8 1)}))))))) (.leaf none)))
def R7(v:V228_0):St:=⟨[(0,(.one (.imm true 5 v.s0))),(1,(.one (.clo 174 []))),(7,(.one (li v.s7))),(8,(.one (li v.s8)))],[]⟩
def aAL:St→Option (V228_0×Bool)
 |⟨[(0,(.one (.imm true 5 c0))),(1,(.one (.clo 174 []))),(7,(.one (li c1))),(8,(.one (li c2)))],[]⟩=>some ((V228_0.mk c0 c1 c2),true)
 |_=>none
def aAM:St→Option (Pt Out):=x9 Q174 [(14,K10),(15,K10)] [] true [] 0 2097152 aH0
theorem bC0(v:V228_0):((aAM (R7 v)).bind (sY true false 0 [0,1,7,8]))=some ((MB v).map (Option.map R7)):=by kernel_rfl
theorem bC1(σ:St)(v:V228_0)(h:aAL σ=some (v,true)):σ=R7 v:=by
 unfold aAL at h;split at h
 ·obtain⟨hr,hk⟩:=qp (qi h);rw[←hr];rfl
 ·simp at h
theorem bC2:dB (vF true false 0 [0,1,7,8] aAM aAL R7 MB 2097152) (fY R 0 2097152 (.loop [0,1,7,8] aH0)):=eM (dD aAK (cQ (l:=[]) (by kernel_rfl) trivial)) bC1 bC0
def bC3:Lp:=(9,vF true false 0 [0,1,7,8] aAM aAL R7 MB 2097152)::[]
def R8(v:V228_0):V228_0:=(hid (eG MB 2097152 v)).getD v
def aJN(v:V228_0):Bool:=(hid (eG MB 2097152 v)).isSome
section
variable(a:List Row)
def aAN:V228_0:=(R8 (V228_0.mk a (cA a) 0))
end
def bC4(a:List Row):Pt (Int):=(.ok true (.ok true (.ok true (.ok true (.ok (aJN (V228_0.mk a (cA a) 0)) (.br (ltI (aAN a).s8 (aAN a).s7) (.ok true (.leaf (aAN a).s8)) (.ok true (.ok true (.leaf (-1))))))))))
def bC5(a:List Row):Int:=hid (bC4 a).val
def bC6(a:List Row):Bool:=hid (bC4 a).okv
def q228:=bCZ (fun a=>aVZ a (bC5 a)) bC6
theorem b3B:fM (fun live x=>dB (oV bC3 (m6 x)) (fY R 0 2097152 (.loop live x))) F228.body:=(cQ (l:=[([0,1,7,8],aH0)]) (by kernel_rfl) ⟨fN (n:=9) (by kernel_rfl) fun σ σr t h ho hl=>bC2 σ σr t h ho hl,trivial⟩)
theorem cB9:cK 228 q228:=a1W fun a hk=>tcl bZZ aAK b3B [(14,K10),(15,K10)] [] true (bC4 a) (aVZ a) hk
def Q228:=aZ 228 q228 Q174
theorem aPA:QO Q228:=aF cB9 aAK
def bC7(a:List Row):Pt (Bool):=(.ok true (.ok ((bC6 a)&&true) (.ok true (.leaf (geI (bC5 a) 0)))))
def a1X(a:List Row):Bool:=hid (bC7 a).val
def a1Y(a:List Row):Bool:=hid (bC7 a).okv
def q173:=bCZ (fun a=>JL a (a1X a)) a1Y
theorem cCA:cK 173 q173:=a1W fun a hk=>tc bYM aPA [] [] true (bC7 a) (JL a) hk
def Q173:=aZ 173 q173 Q228
theorem aPB:QO Q173:=aF cCA aPA
def K11:List Kd:=[.imm 5]
def cCB(a:bM):List SV:=[(.agg [.imm true 1 a.Bytes, .imm true 5 a.Log])]
def cCC(a:bM):List Blk:=[]
def a1Z(N:bM→SV×List Blk)(K:bM→Bool):List SV→List Blk→Option ((SV×List Blk)×Bool)
 |[(.agg [.imm true 1 c0, .imm true 5 c1])],[]=>some (N (bM.mk c0 c1),K (bM.mk c0 c1))
 |_,_=>none
theorem aJO{N:bM→SV×List Blk}{K:bM→Bool}{f:Nat}(h: ∀(a:bM),K a=true→dJ R f (cCB a) (cCC a)=some (N a)):cK f (a1Z N K):=fun _ _ _ e=>by
 unfold a1Z at e;split at e
 ·exact vH e (h _)
 ·cases e
section
variable(a:bM)
def aAO:Bool:=(bif (eqI (cA a.Bytes) 512)then(leI (cA a.Log) 400)else false)
def aJP:List Row:=(bif (aAO a)then a.Log else a.Log)
def aJQ:Bool:=(bif (aAO a)then(!(R5 a.Bytes))else false)
end
def a10(a:bM):Pt (Bool):=(.ok true (.ok ((((R6 a.Bytes)&&true)||(!(aAO a)))&&((((a1Y (aJP a))&&true)||(!(aJQ a)))&&true)) (.ok true (.ok true (.leaf (bif (aJQ a)then(!(a1X (aJP a)))else false))))))
def bC8(a:bM):Bool:=hid (a10 a).val
def bC9(a:bM):Bool:=hid (a10 a).okv
def bDA(a:bM)(r:Bool):SV×List Blk:=((.one (.lit (.bool r))),[])
def q111:=a1Z (fun a=>bDA a (bC8 a)) bC9
theorem cCD:cK 100111 q111:=aJO fun a hk=>tz bXI aPB [(4,K1),(9,K11),(15,K1),(21,K11)] [] true (a10 a) (bDA a) hk
def Q111:=aZ 100111 q111 Q173
theorem aPC:QO Q111:=aF cCD aPB
def sK:List Kd:=[.bool]
def cCE(a:aI):List SV:=[(.agg [.imm true 1 a.R.D, .imm true 1 a.R.A,li a.R.Other,li a.R.PC,li a.R.Flags,li a.R.Mask, .lit (.bool a.R.Super), .lit (.bool a.R.Trace), .imm true 1 a.Bus.Bytes, .imm true 5 a.Bus.Log, .lit (.bool a.Stop), .lit (.bool a.Halt)])]
def cCF(a:aI):List Blk:=[]
def a11(N:aI→SV×List Blk)(K:aI→Bool):List SV→List Blk→Option ((SV×List Blk)×Bool)
 |[(.agg [.imm true 1 c0, .imm true 1 c1,li c2,li c3,li c4,li c5, .lit (.bool c6), .lit (.bool c7), .imm true 1 c8, .imm true 5 c9, .lit (.bool c10), .lit (.bool c11)])],[]=>some (N (aI.mk (aH.mk c0 c1 c2 c3 c4 c5 c6 c7) (bM.mk c8 c9) c10 c11),K (aI.mk (aH.mk c0 c1 c2 c3 c4 c5 c6 c7) (bM.mk c8 c9) c10 c11))
 |_,_=>none
theorem aJR{N:aI→SV×List Blk}{K:aI→Bool}{f:Nat}(h: ∀(a:aI),K a=true→dJ R f (cCE a) (cCF a)=some (N a)):cK f (a11 N K):=fun _ _ _ e=>by
 unfold a11 at e;split at e
 ·exact vH e (h _)
 ·cases e
def T30(a:aI):Pt (Bool):=(.ok true (.ok ((bKS a.R)&&((((bC9 a.Bus)&&true)||(!(bCR a.R)))&&true)) (.ok true (.ok true (.leaf (bif (bif (bCR a.R)then(bC8 a.Bus)else false)then(!(bif a.Stop then a.Halt else false))else false))))))
def g30(a:aI):Bool:=hid (T30 a).val
def k30(a:aI):Bool:=hid (T30 a).okv
def n30(a:aI)(r:Bool):SV×List Blk:=((.one (.lit (.bool r))),[])
def q30:=a11 (fun a=>n30 a (g30 a)) k30
theorem t30:cK 100030 q30:=aJR fun a hk=>tz b9G aPC [(4,K6),(8,K7),(13,sK),(16,sK)] [] true (T30 a) (n30 a) hk
def Q30:=aZ 100030 q30 Q111
theorem a12:QO Q30:=aF t30 aPC
def cCH(a:bN):List SV:=[(.agg [.imm true 1 a.Cpu.R.D, .imm true 1 a.Cpu.R.A,li a.Cpu.R.Other,li a.Cpu.R.PC,li a.Cpu.R.Flags,li a.Cpu.R.Mask, .lit (.bool a.Cpu.R.Super), .lit (.bool a.Cpu.R.Trace), .imm true 1 a.Cpu.Bus.Bytes, .imm true 5 a.Cpu.Bus.Log, .lit (.bool a.Cpu.Stop), .lit (.bool a.Cpu.Halt),li a.Line, .lit (.bool a.Edge)])]
def cCI(a:bN):List Blk:=[]
def aAP(N:bN→SV×List Blk)(K:bN→Bool):List SV→List Blk→Option ((SV×List Blk)×Bool)
 |[(.agg [.imm true 1 c0, .imm true 1 c1,li c2,li c3,li c4,li c5, .lit (.bool c6), .lit (.bool c7), .imm true 1 c8, .imm true 5 c9, .lit (.bool c10), .lit (.bool c11),li c12, .lit (.bool c13)])],[]=>some (N (bN.mk (aI.mk (aH.mk c0 c1 c2 c3 c4 c5 c6 c7) (bM.mk c8 c9) c10 c11) c12 c13),K (bN.mk (aI.mk (aH.mk c0 c1 c2 c3 c4 c5 c6 c7) (bM.mk c8 c9) c10 c11) c12 c13))
 |_,_=>none
theorem HH{N:bN→SV×List Blk}{K:bN→Bool}{f:Nat}(h: ∀(a:bN),K a=true→dJ R f (cCH a) (cCI a)=some (N a)):cK f (aAP N K):=fun _ _ _ e=>by
 unfold aAP at e;split at e
 ·exact vH e (h _)
 ·cases e
def T67(a:bN):Pt (Bool):=(.ok true (.ok ((k30 a.Cpu)&&((((xA a.Line 0 7)&&true)||(!(g30 a.Cpu)))&&true)) (.ok true (.ok true (.leaf (bif (g30 a.Cpu)then(vB a.Line 0 7)else false))))))
def g67(a:bN):Bool:=hid (T67 a).val
def k67(a:bN):Bool:=hid (T67 a).okv
def n67(a:bN)(r:Bool):SV×List Blk:=((.one (.lit (.bool r))),[])
def q67:=aAP (fun a=>n67 a (g67 a)) k67
theorem t67:cK 100067 q67:=HH fun a hk=>tz b9N a12 [(4,K8),(8,K0)] [] true (T67 a) (n67 a) hk
def Q67:=aZ 100067 q67 Q30
theorem bKZ:QO Q67:=aF t67 a12
def bK0:List SV→List Blk→Option ((SV×List Blk)×Bool)
 |[.one (.imm p 1 rows)],[]=>some ((SV.one (T.sl 0 0 (ln rows)),[Blk.lst 1 rows]),decide (ln rows*8≤room))
 |_,_=>none
theorem cCJ(args:List SV)(hp:List Blk)(r:SV×List Blk)(h:bK0 args hp=some (r,true)):dJ R 203 args hp=some r:=by
 rw[GR (by decide)]
 unfold bK0 at h;split at h
 ·rename_i p rows;simp only[Option.some.injEq,Prod.mk.injEq,decide_eq_true_eq]at h;obtain⟨rfl,h⟩:=h;refine aN0 (by decide) bW7 ?_
  have h':ln rows≤room:=by omega
  simp[YT,FH,YS,h,h']
 ·simp at h
noncomputable def Q203:Qt:=aZ 203 bK0 Q67
theorem aPD:WW (dJ R) Q203:=aF cCJ bKZ
def cCK(a:aH)(p0:Bool)(p1:Bool):List SV:=[(.agg [.imm p0 1 a.D, .imm p1 1 a.A,li a.Other,li a.PC,li a.Flags,li a.Mask, .lit (.bool a.Super), .lit (.bool a.Trace)])]
def cCL(a:aH)(p0:Bool)(p1:Bool):List Blk:=[]
def a13(N:aH→SV×List Blk)(K:aH→Bool):List SV→List Blk→Option ((SV×List Blk)×Bool)
 |[(.agg [.imm p0 1 c0, .imm p1 1 c1,li c2,li c3,li c4,li c5, .lit (.bool c6), .lit (.bool c7)])],[]=>some (N (aH.mk c0 c1 c2 c3 c4 c5 c6 c7),K (aH.mk c0 c1 c2 c3 c4 c5 c6 c7))
 |_,_=>none
theorem aJS{N:aH→SV×List Blk}{K:aH→Bool}{f:Nat}(h: ∀(a:aH)(p0:Bool)(p1:Bool),K a=true→dJ R f (cCK a p0 p1) (cCL a p0 p1)=some (N a)):cK f (a13 N K):=fun _ _ _ e=>by
 unfold a13 at e;split at e
 ·exact vH e (h _ _ _)
 ·cases e
section
variable(a:aH)
def aJT:Bool:=(((qQ (vX (ln a.D) 8) 140737488355328)&&((qQ (vX (ln a.A) 8) 140737488355328)&&true))&&true)
end
def a14(a:aH):Pt (aH):=(.ok true (.ok ((aJT a)&&((aJT a)&&((iE a true)&&(((s1 (0:Int))&&((s1 (0:Int))&&((s1 (0:Int))&&((s1 (0:Int))&&((s1 false)&&((s1 false)&&true))))))&&(iB a true))))) (.ok true (.ok ((aP a true)&&((aP a true)&&true)) (.leaf a)))))
def VU(a:aH):aH:=hid (a14 a).val
def bDC(a:aH):Bool:=hid (a14 a).okv
def bDD(a:aH)(r:aH):SV×List Blk:=((.agg [.sl 0 0 (ln r.D), .sl 1 0 (ln r.A),li r.Other,li r.PC,li r.Flags,li r.Mask, .lit (.bool r.Super), .lit (.bool r.Trace)]),[.lst 1 r.D, .lst 1 r.A])
def q151:=a13 (fun a=>bDD a (VU a)) bDC
theorem cCM:cK 151 q151:=aJS fun a p0 p1 hk=>tc bX4 aPD [(4,K1),(7,K1),(11,K6)] [] true (a14 a) (bDD a) hk
def Q151:=aZ 151 q151 Q203
theorem bDE:QO Q151:=aF cCM aPD
def bK1:List SV→List Blk→Option ((SV×List Blk)×Bool)
 |[.one (.imm p 5 rows)],[]=>some ((SV.one (T.sl 0 0 (ln rows)),[Blk.lst 5 rows]),decide (ln rows*40≤room))
 |_,_=>none
theorem cCN(args:List SV)(hp:List Blk)(r:SV×List Blk)(h:bK1 args hp=some (r,true)):dJ R 204 args hp=some r:=by
 rw[GR (by decide)]
 unfold bK1 at h;split at h
 ·rename_i p rows;simp only[Option.some.injEq,Prod.mk.injEq,decide_eq_true_eq]at h;obtain⟨rfl,h⟩:=h;refine aN0 (by decide) bW8 ?_
  have h':ln rows≤room:=by omega
  simp[YT,FH,YS,h,h']
 ·simp at h
noncomputable def Q204:Qt:=aZ 204 bK1 Q151
theorem aPE:WW (dJ R) Q204:=aF cCN bDE
section
variable(a:bM)
def aJU:Bool:=(((qQ (vX (ln a.Bytes) 8) 140737488355328)&&((qQ (vX (ln a.Log) 40) 140737488355328)&&true))&&true)
end
def a15(a:bM):Pt (bM):=(.ok true (.ok ((aJU a)&&((aJU a)&&((((s1 true)&&(r1 a.Bytes))&&(((s1 true)&&(r1 a.Log))&&true))&&((dW a true)&&(dP a true))))) (.ok ((bS a true)&&((bS a true)&&true)) (.leaf a))))
def aV6(a:bM):bM:=hid (a15 a).val
def bK2(a:bM):Bool:=hid (a15 a).okv
def bDF(a:bM)(r:bM):SV×List Blk:=((.agg [.sl 0 0 (ln r.Bytes), .sl 1 0 (ln r.Log)]),[.lst 1 r.Bytes, .lst 5 r.Log])
def q152:=a1Z (fun a=>bDF a (aV6 a)) bK2
theorem cCO:cK 152 q152:=aJO fun a hk=>tc bX5 aPE [(4,K1),(7,K11)] [] true (a15 a) (bDF a) hk
def Q152:=aZ 152 q152 Q204
theorem aPF:QO Q152:=aF cCO aPE
section
variable(a:aI)
def iM:Bool:=(((bDC a.R)&&((bK2 a.Bus)&&true))&&true)
def jA:Bool:=((((s1 true)&&(r1 a.R.D))&&(((s1 true)&&(r1 a.R.A))&&((s1 a.R.Other)&&((s1 a.R.PC)&&((s1 a.R.Flags)&&((s1 a.R.Mask)&&((s1 a.R.Super)&&((s1 a.R.Trace)&&(((s1 true)&&(r1 a.Bus.Bytes))&&(((s1 true)&&(r1 a.Bus.Log))&&((s1 a.Stop)&&((s1 a.Halt)&&true))))))))))))&&((iE (VU a.R) (dW (aV6 a.Bus) ((s1 a.Stop)&&((s1 a.Halt)&&true))))&&(iB (VU a.R) (dP (aV6 a.Bus) true))))
def bIA:Bool:=(((iM a)&&(((iM a)&&(((iM a)&&(((iM a)&&(((iM a)&&(((iM a)&&(((iM a)&&(((iM a)&&(((iM a)&&(((iM a)&&(((iM a)&&(((iM a)&&((iM a)&&(jA a)))&&(jA a)))&&(jA a)))&&(jA a)))&&(jA a)))&&(jA a)))&&(jA a)))&&(jA a)))&&(jA a)))&&(jA a)))&&(jA a)))&&(jA a)))&&(jA a))
def bIB:Bool:=((iM a)&&(((iM a)&&(((iM a)&&(((iM a)&&(((iM a)&&(((iM a)&&(((iM a)&&(((iM a)&&(((iM a)&&(((iM a)&&(((iM a)&&(((iM a)&&(((iM a)&&(bIA a))&&(jA a)))&&(jA a)))&&(jA a)))&&(jA a)))&&(jA a)))&&(jA a)))&&(jA a)))&&(jA a)))&&(jA a)))&&(jA a)))&&(jA a)))&&(jA a)))
def a16:Bool:=(aP (VU a.R) (bS (aV6 a.Bus) true))
end
def T74(a:aI):Pt (aI):=(.ok true (.ok ((iM a)&&(((iM a)&&(((iM a)&&(((iM a)&&((bIB a)&&(jA a)))&&(jA a)))&&(jA a)))&&(jA a))) (.ok ((a16 a)&&((a16 a)&&true)) (.leaf {a with R:=(VU a.R),Bus:=(aV6 a.Bus)}))))
def g74(a:aI):aI:=hid (T74 a).val
def k74(a:aI):Bool:=hid (T74 a).okv
def n74(a:aI)(r:aI):SV×List Blk:=((.agg [.sl 0 0 (ln r.R.D), .sl 1 0 (ln r.R.A),li r.R.Other,li r.R.PC,li r.R.Flags,li r.R.Mask, .lit (.bool r.R.Super), .lit (.bool r.R.Trace), .sl 2 0 (ln r.Bus.Bytes), .sl 3 0 (ln r.Bus.Log), .lit (.bool r.Stop), .lit (.bool r.Halt)]),[.lst 1 r.R.D, .lst 1 r.R.A, .lst 1 r.Bus.Bytes, .lst 5 r.Bus.Log])
def q74:=a11 (fun a=>n74 a (g74 a)) k74
theorem t74:cK 74 q74:=aJR fun a hk=>tc b9T aPF [(4,K6),(7,K7),(10,sK),(12,sK)] [] true (T74 a) (n74 a) hk
def Q74:=aZ 74 q74 Q152
theorem a17:QO Q74:=aF t74 aPF
section
variable(a:bN)
def R9:Bool:=((((s1 true)&&(r1 a.Cpu.R.D))&&(((s1 true)&&(r1 a.Cpu.R.A))&&((s1 a.Cpu.R.Other)&&((s1 a.Cpu.R.PC)&&((s1 a.Cpu.R.Flags)&&((s1 a.Cpu.R.Mask)&&((s1 a.Cpu.R.Super)&&((s1 a.Cpu.R.Trace)&&(((s1 true)&&(r1 a.Cpu.Bus.Bytes))&&(((s1 true)&&(r1 a.Cpu.Bus.Log))&&((s1 a.Cpu.Stop)&&((s1 a.Cpu.Halt)&&((s1 a.Line)&&((s1 a.Edge)&&true))))))))))))))&&((jC (g74 a.Cpu) ((s1 a.Line)&&((s1 a.Edge)&&true)))&&(lG (g74 a.Cpu) true)))
end
def a18(a:bN):Pt (bN):=(.ok true (.ok ((((k74 a.Cpu)&&true)&&true)&&(((((k74 a.Cpu)&&true)&&true)&&(((((k74 a.Cpu)&&true)&&true)&&(((((k74 a.Cpu)&&true)&&true)&&((((k74 a.Cpu)&&true)&&true)&&(R9 a)))&&(R9 a)))&&(R9 a)))&&(R9 a))) (.ok ((aO (g74 a.Cpu) true)&&((aO (g74 a.Cpu) true)&&true)) (.leaf {a with Cpu:=(g74 a.Cpu)}))))
def MC(a:bN):bN:=hid (a18 a).val
def bDG(a:bN):Bool:=hid (a18 a).okv
def bDH(a:bN)(r:bN):SV×List Blk:=((.agg [.sl 0 0 (ln r.Cpu.R.D), .sl 1 0 (ln r.Cpu.R.A),li r.Cpu.R.Other,li r.Cpu.R.PC,li r.Cpu.R.Flags,li r.Cpu.R.Mask, .lit (.bool r.Cpu.R.Super), .lit (.bool r.Cpu.R.Trace), .sl 2 0 (ln r.Cpu.Bus.Bytes), .sl 3 0 (ln r.Cpu.Bus.Log), .lit (.bool r.Cpu.Stop), .lit (.bool r.Cpu.Halt),li r.Line, .lit (.bool r.Edge)]),[.lst 1 r.Cpu.R.D, .lst 1 r.Cpu.R.A, .lst 1 r.Cpu.Bus.Bytes, .lst 5 r.Cpu.Bus.Log])
def q139:=aAP (fun a=>bDH a (MC a)) bDG
theorem cCP:cK 139 q139:=HH fun a hk=>tc bXT a17 [(4,K8),(7,K0),(9,sK)] [] true (a18 a) (bDH a) hk
def Q139:=aZ 139 q139 Q74
theorem aPG:QO Q139:=aF cCP a17
def cCQ(a:bN):List SV:=[(.one (.ptr 0 0 0))]
def cCR(a:bN):List Blk:=[.box [.sl 1 0 (ln a.Cpu.R.D), .sl 2 0 (ln a.Cpu.R.A),li a.Cpu.R.Other,li a.Cpu.R.PC,li a.Cpu.R.Flags,li a.Cpu.R.Mask, .lit (.bool a.Cpu.R.Super), .lit (.bool a.Cpu.R.Trace), .sl 3 0 (ln a.Cpu.Bus.Bytes), .sl 4 0 (ln a.Cpu.Bus.Log), .lit (.bool a.Cpu.Stop), .lit (.bool a.Cpu.Halt),li a.Line, .lit (.bool a.Edge)], .lst 1 a.Cpu.R.D, .lst 1 a.Cpu.R.A, .lst 1 a.Cpu.Bus.Bytes, .lst 5 a.Cpu.Bus.Log]
def bDI(N:bN→SV×List Blk)(K:bN→Bool):List SV→List Blk→Option ((SV×List Blk)×Bool)
 |[(.one (.ptr 0 0 0))],[.box [.sl 1 0 l1, .sl 2 0 l2,li c0,li c1,li c2,li c3, .lit (.bool c4), .lit (.bool c5), .sl 3 0 l3, .sl 4 0 l4, .lit (.bool c6), .lit (.bool c7),li c8, .lit (.bool c9)], .lst 1 c_1, .lst 1 c_2, .lst 1 c_3, .lst 5 c_4]=>some (N (bN.mk (aI.mk (aH.mk c_1 c_2 c0 c1 c2 c3 c4 c5) (bM.mk c_3 c_4) c6 c7) c8 c9),eC l1 (ln c_1)&&(eC l2 (ln c_2)&&(eC l3 (ln c_3)&&(eC l4 (ln c_4)&&(K (bN.mk (aI.mk (aH.mk c_1 c_2 c0 c1 c2 c3 c4 c5) (bM.mk c_3 c_4) c6 c7) c8 c9))))))
 |_,_=>none
theorem a19{N:bN→SV×List Blk}{K:bN→Bool}{f:Nat}(h: ∀(a:bN),K a=true→dJ R f (cCQ a) (cCR a)=some (N a)):cK f (bDI N K):=fun args hp r e=>by
 unfold bDI at e;split at e
 ·rename_i l1 l2 c0 c1 c2 c3 c4 c5 l3 l4 c6 c7 c8 c9 c_1 c_2 c_3 c_4;obtain⟨hr,hk⟩:=qp (qi e);obtain⟨d0,hk0⟩:=bJ hk;obtain⟨d1,hk1⟩:=bJ hk0;obtain⟨d2,hk2⟩:=bJ hk1;obtain⟨d3,hk3⟩:=bJ hk2;obtain rfl:=of_decide_eq_true d0;obtain rfl:=of_decide_eq_true d1;obtain rfl:=of_decide_eq_true d2;obtain rfl:=of_decide_eq_true d3;rw[←hr];exact h (bN.mk (aI.mk (aH.mk c_1 c_2 c0 c1 c2 c3 c4 c5) (bM.mk c_3 c_4) c6 c7) c8 c9) hk3
 ·simp at e
section
variable(a:bN)
def aAQ:Bool:=(((d9 a true)&&(d9 a true))&&true)
end
def a2A(a:bN):Pt (Int):=(.ok true (.ok true (.br a.Edge (.ok true (.ok (aAQ a) (.leaf 7))) (.ok true (.br (kU a.Line a.Cpu.R.Mask) (.ok true (.ok (aAQ a) (.leaf a.Line))) (.ok true (.ok (aAQ a) (.leaf 0))))))))
def VV(a:bN):Int:=hid (a2A a).val
def bK5(a:bN):Bool:=hid (a2A a).okv
def b3F(a:bN)(r:Int):SV×List Blk:=((.one (li r)),[.box [.sl 1 0 (ln a.Cpu.R.D), .sl 2 0 (ln a.Cpu.R.A),li a.Cpu.R.Other,li a.Cpu.R.PC,li a.Cpu.R.Flags,li a.Cpu.R.Mask, .lit (.bool a.Cpu.R.Super), .lit (.bool a.Cpu.R.Trace), .sl 3 0 (ln a.Cpu.Bus.Bytes), .sl 4 0 (ln a.Cpu.Bus.Log), .lit (.bool a.Cpu.Stop), .lit (.bool a.Cpu.Halt),li a.Line, .lit (.bool a.Edge)], .lst 1 a.Cpu.R.D, .lst 1 a.Cpu.R.A, .lst 1 a.Cpu.Bus.Bytes, .lst 5 a.Cpu.Bus.Log])
def q144:=bDI (fun a=>b3F a (VV a)) bK5
theorem cCS:cK 144 q144:=a19 fun a hk=>tc bHU aPG [(7,sK),(12,K0),(18,K0),(23,K0)] [] true (a2A a) (b3F a) hk
def Q144:=aZ 144 q144 Q139
theorem aPH:QO Q144:=aF cCS aPG
def aAR(a:Bool)(b:Int):Pt (Int):=(.ok true (.ok true (.br a (.ok true (.ok true (.ok true (.leaf b)))) (.ok true (.ok true (.ok true (.leaf 0)))))))
def yF(a:Bool)(b:Int):Int:=hid (aAR a b).val
def yG(a:Bool)(b:Int):Bool:=hid (aAR a b).okv
def q178:=DS4 (fun a b=>bA8 a b (yF a b)) yG
theorem cCT:cK 100178 q178:=bH3 fun a b hk=>tz bYR aPH [] [] true (aAR a b) (bA8 a b) hk
def Q178:=aZ 100178 q178 Q144
theorem aPI:QO Q178:=aF cCT aPH
def cCU(a:aH):List SV:=[(.one (.ptr 0 0 0))]
def cCV(a:aH):List Blk:=[.box [.imm false 1 a.D, .imm false 1 a.A,li a.Other,li a.PC,li a.Flags,li a.Mask, .lit (.bool a.Super), .lit (.bool a.Trace)]]
def bK6(N:aH→SV×List Blk)(K:aH→Bool):List SV→List Blk→Option ((SV×List Blk)×Bool)
 |[(.one (.ptr 0 0 0))],[.box [.imm false 1 c0, .imm false 1 c1,li c2,li c3,li c4,li c5, .lit (.bool c6), .lit (.bool c7)]]=>some (N (aH.mk c0 c1 c2 c3 c4 c5 c6 c7),K (aH.mk c0 c1 c2 c3 c4 c5 c6 c7))
 |_,_=>none
theorem bK7{N:aH→SV×List Blk}{K:aH→Bool}{f:Nat}(h: ∀(a:aH),K a=true→dJ R f (cCU a) (cCV a)=some (N a)):cK f (bK6 N K):=fun _ _ _ e=>by
 unfold bK6 at e;split at e
 ·exact vH e (h _)
 ·cases e
def a2B(a:aH):Pt (Int):=(.ok true (.ok ((yG a.Super 256)&&((yG a.Trace 512)&&true)) (.ok true (.leaf (bE (bE (bE a.Flags (dH 32 a.Mask)) (yF a.Super 256)) (yF a.Trace 512))))))
def a2C(a:aH):Int:=hid (a2B a).val
def bDJ(a:aH):Bool:=hid (a2B a).okv
def b3G(a:aH)(r:Int):SV×List Blk:=((.one (li r)),[.box [.imm false 1 a.D, .imm false 1 a.A,li a.Other,li a.PC,li a.Flags,li a.Mask, .lit (.bool a.Super), .lit (.bool a.Trace)]])
def q166:=bK6 (fun a=>b3G a (a2C a)) bDJ
theorem cCW:cK 166 q166:=bK7 fun a hk=>tc aZE aPI [(6,K0),(10,K0),(16,sK),(22,sK)] [] true (a2B a) (b3G a) hk
def Q166:=aZ 166 q166 Q178
theorem aPJ:QO Q166:=aF cCW aPI
def cCX(a:aL):List SV:=[(.agg [li a.Vector,li a.PC,li a.Addr,li a.Word, .lit (.bool a.Write)])]
def cCY(a:aL):List Blk:=[]
def bK8(N:aL→SV×List Blk)(K:aL→Bool):List SV→List Blk→Option ((SV×List Blk)×Bool)
 |[(.agg [li c0,li c1,li c2,li c3, .lit (.bool c4)])],[]=>some (N (aL.mk c0 c1 c2 c3 c4),K (aL.mk c0 c1 c2 c3 c4))
 |_,_=>none
theorem bK9{N:aL→SV×List Blk}{K:aL→Bool}{f:Nat}(h: ∀(a:aL),K a=true→dJ R f (cCX a) (cCY a)=some (N a)):cK f (bK8 N K):=fun _ _ _ e=>by
 unfold bK8 at e;split at e
 ·exact vH e (h _)
 ·cases e
def a2D(a:aL):Pt (Bool):=(.ok true (.ok true (.ok true (.ok true (.leaf (bif (eqI a.Vector 2)then true else(eqI a.Vector 3)))))))
def bLA(a:aL):Bool:=hid (a2D a).val
def bLB(a:aL):Bool:=hid (a2D a).okv
def b3H(a:aL)(r:Bool):SV×List Blk:=((.one (.lit (.bool r))),[])
def q107:=bK8 (fun a=>b3H a (bLA a)) bLB
theorem cCZ:cK 100107 q107:=bK9 fun a hk=>tz bXE aPJ [(4,K0),(8,K0)] [] true (a2D a) (b3H a) hk
def Q107:=aZ 100107 q107 Q166
theorem aPK:QO Q107:=aF cCZ aPJ
def cC0(a:aI)(b:aL)(p0:Bool)(p1:Bool)(p2:Bool)(p3:Bool):List SV:=[(.agg [.imm p0 1 a.R.D, .imm p1 1 a.R.A,li a.R.Other,li a.R.PC,li a.R.Flags,li a.R.Mask, .lit (.bool a.R.Super), .lit (.bool a.R.Trace), .imm p2 1 a.Bus.Bytes, .imm p3 5 a.Bus.Log, .lit (.bool a.Stop), .lit (.bool a.Halt)]),(.agg [li b.Vector,li b.PC,li b.Addr,li b.Word, .lit (.bool b.Write)])]
def cC1(a:aI)(b:aL)(p0:Bool)(p1:Bool)(p2:Bool)(p3:Bool):List Blk:=[]
def bLC(N:aI→aL→SV×List Blk)(K:aI→aL→Bool):List SV→List Blk→Option ((SV×List Blk)×Bool)
 |[(.agg [.imm p0 1 c0, .imm p1 1 c1,li c2,li c3,li c4,li c5, .lit (.bool c6), .lit (.bool c7), .imm p2 1 c8, .imm p3 5 c9, .lit (.bool c10), .lit (.bool c11)]),(.agg [li c12,li c13,li c14,li c15, .lit (.bool c16)])],[]=>some (N (aI.mk (aH.mk c0 c1 c2 c3 c4 c5 c6 c7) (bM.mk c8 c9) c10 c11) (aL.mk c12 c13 c14 c15 c16),K (aI.mk (aH.mk c0 c1 c2 c3 c4 c5 c6 c7) (bM.mk c8 c9) c10 c11) (aL.mk c12 c13 c14 c15 c16))
 |_,_=>none
theorem bLD{N:aI→aL→SV×List Blk}{K:aI→aL→Bool}{f:Nat}(h: ∀(a:aI)(b:aL)(p0:Bool)(p1:Bool)(p2:Bool)(p3:Bool),K a b=true→dJ R f (cC0 a b p0 p1 p2 p3) (cC1 a b p0 p1 p2 p3)=some (N a b)):cK f (bLC N K):=fun _ _ _ e=>by
 unfold bLC at e;split at e
 ·exact vH e (h _ _ _ _ _ _)
 ·cases e
def a2E(a:aI)(b:aL):Pt (Int):=(.ok true (.ok ((yG b.Write 1)&&((yG a.R.Super 2)&&true)) (.ok true (.ok true (.leaf (eW (yF b.Write 1) (yF a.R.Super 2)))))))
def bLE(a:aI)(b:aL):Int:=hid (a2E a b).val
def bLF(a:aI)(b:aL):Bool:=hid (a2E a b).okv
def b3I(a:aI)(b:aL)(r:Int):SV×List Blk:=((.one (li r)),[])
def q113:=bLC (fun a b=>b3I a b (bLE a b)) bLF
theorem cC2:cK 100113 q113:=bLD fun a b p0 p1 p2 p3 hk=>tz bXJ aPK [(6,sK),(10,sK)] [] true (a2E a b) (b3I a b) hk
def Q113:=aZ 100113 q113 Q107
theorem aPL:QO Q113:=aF cC2 aPK
def K13:List Kd:=[.int .i64, .int .i64, .int .i64, .int .i64, .bool]
def cC3(a:aI)(b:aL):List SV:=[(.agg [.imm false 1 a.R.D, .imm false 1 a.R.A,li a.R.Other,li a.R.PC,li a.R.Flags,li a.R.Mask, .lit (.bool a.R.Super), .lit (.bool a.R.Trace), .imm false 1 a.Bus.Bytes, .imm false 5 a.Bus.Log, .lit (.bool a.Stop), .lit (.bool a.Halt)]),(.agg [li b.Vector,li b.PC,li b.Addr,li b.Word, .lit (.bool b.Write)])]
def cC4(a:aI)(b:aL):List Blk:=[]
def bLG(N:aI→aL→SV×List Blk)(K:aI→aL→Bool):List SV→List Blk→Option ((SV×List Blk)×Bool)
 |[(.agg [.imm false 1 c0, .imm false 1 c1,li c2,li c3,li c4,li c5, .lit (.bool c6), .lit (.bool c7), .imm false 1 c8, .imm false 5 c9, .lit (.bool c10), .lit (.bool c11)]),(.agg [li c12,li c13,li c14,li c15, .lit (.bool c16)])],[]=>some (N (aI.mk (aH.mk c0 c1 c2 c3 c4 c5 c6 c7) (bM.mk c8 c9) c10 c11) (aL.mk c12 c13 c14 c15 c16),K (aI.mk (aH.mk c0 c1 c2 c3 c4 c5 c6 c7) (bM.mk c8 c9) c10 c11) (aL.mk c12 c13 c14 c15 c16))
 |_,_=>none
theorem bLH{N:aI→aL→SV×List Blk}{K:aI→aL→Bool}{f:Nat}(h: ∀(a:aI)(b:aL),K a b=true→dJ R f (cC3 a b) (cC4 a b)=some (N a b)):cK f (bLG N K):=fun _ _ _ e=>by
 unfold bLG at e;split at e
 ·exact vH e (h _ _)
 ·cases e
section
variable(a:aI)(b:aL)
def a2F:Bool:=(((s1 (2:Nat))&&true)&&((((s1 false)&&(r1 a.R.D))&&(((s1 false)&&(r1 a.R.A))&&((s1 a.R.Other)&&((s1 a.R.PC)&&((s1 a.R.Flags)&&((s1 a.R.Mask)&&((s1 a.R.Super)&&((s1 a.R.Trace)&&(((s1 false)&&(r1 a.Bus.Bytes))&&(((s1 false)&&(r1 a.Bus.Log))&&((s1 a.Stop)&&((s1 a.Halt)&&true))))))))))))&&((jY b true)&&((r1 [(bB b.PC),(bB (a2C a.R))])&&true))))
end
def a2G(a:aI)(b:aL):Pt (List Row):=(.ok true (.ok ((((bDJ a.R)&&true)&&true)&&((((bDJ a.R)&&true)&&true)&&(a2F a b))) (.ok ((bLB b)&&true) (.br (bLA b) (.ok (((bLF a b)&&true)&&true) (.ok true (.ok true (.leaf [(bB b.PC),(bB (a2C a.R)),(bB b.Word),(bB b.Addr),(bB (bLE a b))])))) (.ok true (.ok true (.leaf [(bB b.PC),(bB (a2C a.R))])))))))
def aAS(a:aI)(b:aL):List Row:=hid (a2G a b).val
def bLI(a:aI)(b:aL):Bool:=hid (a2G a b).okv
def b3J(a:aI)(b:aL)(r:List Row):SV×List Blk:=((.one (.sl 0 0 (ln r))),[.lst 1 r])
def q104:=bLG (fun a b=>b3J a b (aAS a b)) bLI
theorem cC5:cK 104 q104:=bLH fun a b hk=>tc bXB aPL [(7,K0),(11,K13),(15,K0),(17,K0),(18,K8),(19,K13)] [] true (a2G a b) (b3J a b) hk
def Q104:=aZ 104 q104 Q113
theorem aPM:QO Q104:=aF cC5 aPL
def cC6(a:aH):List SV:=[(.one (.ptr 0 0 0))]
def cC7(a:aH):List Blk:=[.box [.sl 1 0 (ln a.D), .sl 2 0 (ln a.A),li a.Other,li a.PC,li a.Flags,li a.Mask, .lit (.bool a.Super), .lit (.bool a.Trace)], .lst 1 a.D, .lst 1 a.A]
def bDK(N:aH→SV×List Blk)(K:aH→Bool):List SV→List Blk→Option ((SV×List Blk)×Bool)
 |[(.one (.ptr 0 0 0))],[.box [.sl 1 0 l1, .sl 2 0 l2,li c0,li c1,li c2,li c3, .lit (.bool c4), .lit (.bool c5)], .lst 1 c_1, .lst 1 c_2]=>some (N (aH.mk c_1 c_2 c0 c1 c2 c3 c4 c5),eC l1 (ln c_1)&&(eC l2 (ln c_2)&&(K (aH.mk c_1 c_2 c0 c1 c2 c3 c4 c5))))
 |_,_=>none
theorem a2H{N:aH→SV×List Blk}{K:aH→Bool}{f:Nat}(h: ∀(a:aH),K a=true→dJ R f (cC6 a) (cC7 a)=some (N a)):cK f (bDK N K):=fun args hp r e=>by
 unfold bDK at e;split at e
 ·rename_i l1 l2 c0 c1 c2 c3 c4 c5 c_1 c_2;obtain⟨hr,hk⟩:=qp (qi e);obtain⟨d0,hk0⟩:=bJ hk;obtain⟨d1,hk1⟩:=bJ hk0;obtain rfl:=of_decide_eq_true d0;obtain rfl:=of_decide_eq_true d1;rw[←hr];exact h (aH.mk c_1 c_2 c0 c1 c2 c3 c4 c5) hk1
 ·simp at e
def SA(a:aH):Pt (Int):=(.ok true (.ok ((yG a.Super 256)&&((yG a.Trace 512)&&true)) (.ok (((aP a true)&&(aP a true))&&true) (.leaf (bE (bE (bE a.Flags (dH 32 a.Mask)) (yF a.Super 256)) (yF a.Trace 512))))))
def aAT(a:aH):Int:=hid (SA a).val
def aJV(a:aH):Bool:=hid (SA a).okv
def aAU(a:aH)(r:Int):SV×List Blk:=((.one (li r)),[.box [.sl 1 0 (ln a.D), .sl 2 0 (ln a.A),li a.Other,li a.PC,li a.Flags,li a.Mask, .lit (.bool a.Super), .lit (.bool a.Trace)], .lst 1 a.D, .lst 1 a.A])
def q166v1:=bDK (fun a=>aAU a (aAT a)) aJV
theorem bLJ:cK 166 q166v1:=a2H fun a hk=>tc aZE aPM [(6,K0),(10,K0),(16,sK),(22,sK)] [] true (SA a) (aAU a) hk
def Q166v1:=aZ 166 q166v1 Q104
theorem XL:QO Q166v1:=aF bLJ aPM
def cC8(b:Int)(a:aH):List SV:=[(.one (.ptr 0 0 0)),(.one (li b))]
def cC9(b:Int)(a:aH):List Blk:=[.box [.sl 1 0 (ln a.D), .sl 2 0 (ln a.A),li a.Other,li a.PC,li a.Flags,li a.Mask, .lit (.bool a.Super), .lit (.bool a.Trace)], .lst 1 a.D, .lst 1 a.A]
def bLK(N:Int→aH→SV×List Blk)(K:Int→aH→Bool):List SV→List Blk→Option ((SV×List Blk)×Bool)
 |[(.one (.ptr 0 0 0)),(.one (li c0))],[.box [.sl 1 0 l1, .sl 2 0 l2,li c1,li c2,li c3,li c4, .lit (.bool c5), .lit (.bool c6)], .lst 1 c_1, .lst 1 c_2]=>some (N c0 (aH.mk c_1 c_2 c1 c2 c3 c4 c5 c6),eC l1 (ln c_1)&&(eC l2 (ln c_2)&&(K c0 (aH.mk c_1 c_2 c1 c2 c3 c4 c5 c6))))
 |_,_=>none
theorem bLL{N:Int→aH→SV×List Blk}{K:Int→aH→Bool}{f:Nat}(h: ∀(b:Int)(a:aH),K b a=true→dJ R f (cC8 b a) (cC9 b a)=some (N b a)):cK f (bLK N K):=fun args hp r e=>by
 unfold bLK at e;split at e
 ·rename_i c0 l1 l2 c1 c2 c3 c4 c5 c6 c_1 c_2;obtain⟨hr,hk⟩:=qp (qi e);obtain⟨d0,hk0⟩:=bJ hk;obtain⟨d1,hk1⟩:=bJ hk0;obtain rfl:=of_decide_eq_true d0;obtain rfl:=of_decide_eq_true d1;rw[←hr];exact h c0 (aH.mk c_1 c_2 c1 c2 c3 c4 c5 c6) hk1
 ·simp at e
section
variable(a:aH)
def aJW:Bool:=((e1 (ln a.D))&&((eC (ln a.A) (ln (List.set a.A 3 (bB a.Other))))&&true))
end
def a2I(b:Int)(a:aH):Pt (aH):=(.ok true (.ok true (.ok true (.br (!(vG (dC (bH b 256) 0) a.Super)) (.ok true (.ok (((ltI 3 (cA a.A))&&((dU [.int .i64] a.A 3 0)&&((ltI 3 (cA a.A))&&(((blt 3 (ln a.A))&&(jW (jX a.A 3) 1))&&true))))&&true) (.ok ((((aP a true)&&(aJW a))&&true)&&((aJW a)&&true)) (.leaf (aH.mk a.D (List.set a.A 3 (bB a.Other)) (bQ a.A 3 0) a.PC (bH b 31) (bH (eZ b 5) 7) (dC (bH b 256) 0) (dC (bH b 512) 0)))))) (.ok (dd (aP a true) ((aP a true)&&true)) (.leaf {a with Flags:=(bH b 31),Mask:=(bH (eZ b 5) 7),Trace:=(dC (bH b 512) 0)}))))))
def aV8(b:Int)(a:aH):aH:=hid (a2I b a).val
def aV9(b:Int)(a:aH):Bool:=hid (a2I b a).okv
def b3K(b:Int)(a:aH)(r:aH):SV×List Blk:=((.tup []),[.box [.sl 1 0 (ln r.D), .sl 2 0 (ln r.A),li r.Other,li r.PC,li r.Flags,li r.Mask, .lit (.bool r.Super), .lit (.bool r.Trace)], .lst 1 r.D, .lst 1 r.A])
def q165:=bLK (fun b a=>b3K b a (aV8 b a)) aV9
theorem cDA:cK 165 q165:=bLL fun b a hk=>tc bYG XL [(29,sK),(38,K1),(43,K0),(47,K1),(48,K0),(49,K0),(50,K0),(1000001,[])] [] true (a2I b a) (b3K b a) hk
def Q165:=aZ 165 q165 Q166v1
theorem aPN:QO Q165:=aF cDA XL
def a2J(a:Int):Pt (Int):=(.ok true (.ok ((xA a 448 495)&&true) (.br (bif (vB a 448 495)then true else(geI a 512)) (.ok true (.ok true (.ok true (.leaf 1)))) (.ok ((xA a 384 447)&&true) (.br (vB a 384 447) (.ok true (.ok true (.ok true (.leaf 3)))) (.ok true (.ok true (.ok true (.leaf 0)))))))))
def a2K(a:Int):Int:=hid (a2J a).val
def bDL(a:Int):Bool:=hid (a2J a).okv
def q230:=BP (fun a=>xB a (a2K a)) bDL
theorem cDB:cK 100230 q230:=gS fun a hk=>tz bZ1 aPN [] [] true (a2J a) (xB a) hk
def Q230:=aZ 100230 q230 Q165
theorem aPO:QO Q230:=aF cDB aPN
section
variable(b:Int)(c:Int)
def aJX:Int:=(a2K (cN (bE c b) 1))
end
def a2L(a:Int)(b:Int)(c:Int):Pt (Int):=(.ok true (.ok true (.br (bif (eqI b 2)then(eqI (nM c 2) 1)else false) (.ok true (.ok true (.ok true (.leaf 2)))) (.ok ((bDL c)&&((bDL (cN (bE c b) 1))&&true)) (.ok true (.br (bif (eqI (a2K c) 1)then true else(eqI (aJX b c) 1)) (.ok true (.ok true (.ok true (.leaf 1)))) (.ok true (.br (bif (eqI a 2)then(bif (eqI (a2K c) 3)then true else(eqI (aJX b c) 3))else false) (.ok true (.ok true (.ok true (.leaf 3)))) (.ok true (.ok true (.ok true (.leaf 0))))))))))))
def MD(a:Int)(b:Int)(c:Int):Int:=hid (a2L a b c).val
def bLM(a:Int)(b:Int)(c:Int):Bool:=hid (a2L a b c).okv
def aFI(a:Int)(b:Int)(c:Int)(r:Int):SV×List Blk:=((.one (li r)),[])
def q176:=DS5 (fun a b c=>aFI a b c (MD a b c)) bLM
theorem cDC:cK 100176 q176:=CN fun a b c hk=>tz bYP aPO [] [] true (a2L a b c) (aFI a b c) hk
def Q176:=aZ 100176 q176 Q230
theorem aPP:QO Q176:=aF cDC aPO
def cDD(b:Int)(c:Int)(d:Int)(a:bM):List SV:=[(.one (.ptr 0 0 0)),(.one (li b)),(.one (li c)),(.one (li d))]
def cDE(b:Int)(c:Int)(d:Int)(a:bM):List Blk:=[.box [.sl 1 0 (ln a.Bytes), .sl 2 0 (ln a.Log)], .lst 1 a.Bytes, .lst 5 a.Log]
def bLN(N:Int→Int→Int→bM→SV×List Blk)(K:Int→Int→Int→bM→Bool):List SV→List Blk→Option ((SV×List Blk)×Bool)
 |[(.one (.ptr 0 0 0)),(.one (li c0)),(.one (li c1)),(.one (li c2))],[.box [.sl 1 0 l1, .sl 2 0 l2], .lst 1 c_1, .lst 5 c_2]=>some (N c0 c1 c2 (bM.mk c_1 c_2),eC l1 (ln c_1)&&(eC l2 (ln c_2)&&(K c0 c1 c2 (bM.mk c_1 c_2))))
 |_,_=>none
theorem bLO{N:Int→Int→Int→bM→SV×List Blk}{K:Int→Int→Int→bM→Bool}{f:Nat}(h: ∀(b:Int)(c:Int)(d:Int)(a:bM),K b c d a=true→dJ R f (cDD b c d a) (cDE b c d a)=some (N b c d a)):cK f (bLN N K):=fun args hp r e=>by
 unfold bLN at e;split at e
 ·rename_i c0 c1 c2 l1 l2 c_1 c_2;obtain⟨hr,hk⟩:=qp (qi e);obtain⟨d0,hk0⟩:=bJ hk;obtain⟨d1,hk1⟩:=bJ hk0;obtain rfl:=of_decide_eq_true d0;obtain rfl:=of_decide_eq_true d1;rw[←hr];exact h c0 c1 c2 (bM.mk c_1 c_2) hk1
 ·simp at e
section
variable(c:Int)(d:Int)(a:bM)
def aAV:Bool:=(((leI 0 c)&&(ltI c (cA a.Bytes)))&&(((blt (0+(iN c)) (ln a.Bytes))&&(jW (jX a.Bytes (0+(iN c))) 1))&&true))
def SB:List Row:=(List.set a.Bytes (0+(iN c)) (bB (eZ d 8)))
def aAW:List Row:=(List.set (SB c d a) (0+(iN (bE c 1))) (bB (bH d 255)))
def aAX:Bool:=((eC (ln a.Bytes) (ln (aAW c d a)))&&((e1 (ln a.Log))&&true))
def aAY:List Row:=(List.set a.Bytes (0+(iN c)) (bB (bH d 255)))
def aAZ:Bool:=((eC (ln a.Bytes) (ln (aAY c d a)))&&((e1 (ln a.Log))&&true))
end
def a2M(b:Int)(c:Int)(d:Int)(a:bM):Pt (bM):=(.ok true (.br (eqI b 2) (.ok (aAV c a) (.ok true (.ok (((leI 0 (bE c 1))&&(ltI (bE c 1) (cA a.Bytes)))&&(((blt (0+(iN (bE c 1))) (ln (SB c d a)))&&(jW (jX (SB c d a) (0+(iN (bE c 1)))) 1))&&true)) (.ok ((((bS a true)&&(aAX c d a))&&true)&&((aAX c d a)&&true)) (.leaf {a with Bytes:=(aAW c d a)}))))) (.ok (aAV c a) (.ok ((((bS a true)&&(aAZ c d a))&&true)&&((aAZ c d a)&&true)) (.leaf {a with Bytes:=(aAY c d a)})))))
def JQ(b:Int)(c:Int)(d:Int)(a:bM):bM:=hid (a2M b c d a).val
def bLP(b:Int)(c:Int)(d:Int)(a:bM):Bool:=hid (a2M b c d a).okv
def b3L(b:Int)(c:Int)(d:Int)(a:bM)(r:bM):SV×List Blk:=((.tup []),[.box [.sl 1 0 (ln r.Bytes), .sl 2 0 (ln r.Log)], .lst 1 r.Bytes, .lst 5 r.Log])
def q205:=bLN (fun b c d a=>b3L b c d a (JQ b c d a)) bLP
theorem cDF:cK 205 q205:=bLO fun b c d a hk=>tc bZE aPP [(13,K1),(17,K0),(23,K1),(27,K0),(1000001,[])] [] true (a2M b c d a) (b3L b c d a) hk
def Q205:=aZ 205 q205 Q176
theorem aPQ:QO Q205:=aF cDF aPP
def cDG(b:Int)(c:Int)(a:bM):List SV:=[(.one (.ptr 0 0 0)),(.one (li b)),(.one (li c))]
def cDH(b:Int)(c:Int)(a:bM):List Blk:=[.box [.sl 1 0 (ln a.Bytes), .sl 2 0 (ln a.Log)], .lst 1 a.Bytes, .lst 5 a.Log]
def bLQ(N:Int→Int→bM→SV×List Blk)(K:Int→Int→bM→Bool):List SV→List Blk→Option ((SV×List Blk)×Bool)
 |[(.one (.ptr 0 0 0)),(.one (li c0)),(.one (li c1))],[.box [.sl 1 0 l1, .sl 2 0 l2], .lst 1 c_1, .lst 5 c_2]=>some (N c0 c1 (bM.mk c_1 c_2),eC l1 (ln c_1)&&(eC l2 (ln c_2)&&(K c0 c1 (bM.mk c_1 c_2))))
 |_,_=>none
theorem bLR{N:Int→Int→bM→SV×List Blk}{K:Int→Int→bM→Bool}{f:Nat}(h: ∀(b:Int)(c:Int)(a:bM),K b c a=true→dJ R f (cDG b c a) (cDH b c a)=some (N b c a)):cK f (bLQ N K):=fun args hp r e=>by
 unfold bLQ at e;split at e
 ·rename_i c0 c1 l1 l2 c_1 c_2;obtain⟨hr,hk⟩:=qp (qi e);obtain⟨d0,hk0⟩:=bJ hk;obtain⟨d1,hk1⟩:=bJ hk0;obtain rfl:=of_decide_eq_true d0;obtain rfl:=of_decide_eq_true d1;rw[←hr];exact h c0 c1 (bM.mk c_1 c_2) hk1
 ·simp at e
section
variable(c:Int)(a:bM)
def aA0:Bool:=(dU [.int .i64] a.Bytes (0+(iN c)) 0)
def aA1:Bool:=(((bS a true)&&(bS a true))&&true)
end
def a2N(b:Int)(c:Int)(a:bM):Pt (Int):=(.ok true (.ok true (.br (eqI b 1) (.ok (((leI 0 c)&&(ltI c (cA a.Bytes)))&&((aA0 c a)&&true)) (.ok (aA1 a) (.leaf (bQ a.Bytes (0+(iN c)) 0)))) (.ok (((leI 0 c)&&(ltI c (cA a.Bytes)))&&((aA0 c a)&&(((leI 0 (bE c 1))&&(ltI (bE c 1) (cA a.Bytes)))&&((dU [.int .i64] a.Bytes (0+(iN (bE c 1))) 0)&&true)))) (.ok (aA1 a) (.leaf (eW (m7 (bQ a.Bytes (0+(iN c)) 0) 8) (bQ a.Bytes (0+(iN (bE c 1))) 0))))))))
def a2O(b:Int)(c:Int)(a:bM):Int:=hid (a2N b c a).val
def bLS(b:Int)(c:Int)(a:bM):Bool:=hid (a2N b c a).okv
def b3M(b:Int)(c:Int)(a:bM)(r:Int):SV×List Blk:=((.one (li r)),[.box [.sl 1 0 (ln a.Bytes), .sl 2 0 (ln a.Log)], .lst 1 a.Bytes, .lst 5 a.Log])
def q177:=bLQ (fun b c a=>b3M b c a (a2O b c a)) bLS
theorem cDI:cK 177 q177:=bLR fun b c a hk=>tc bYQ aPQ [(12,K1),(14,K0),(15,K0),(19,K1),(21,K0),(22,K0),(27,K1),(30,K0),(31,K0)] [] true (a2N b c a) (b3M b c a) hk
def Q177:=aZ 177 q177 Q205
theorem aPR:QO Q177:=aF cDI aPQ
def cDJ(b:Int)(c:Int)(d:Int)(o:Int)(a:bM):List SV:=[(.one (.ptr 0 0 0)),(.one (li b)),(.one (li c)),(.one (li d)),(.one (li o))]
def cDK(b:Int)(c:Int)(d:Int)(o:Int)(a:bM):List Blk:=[.box [.sl 1 0 (ln a.Bytes), .sl 2 0 (ln a.Log)], .lst 1 a.Bytes, .lst 5 a.Log]
def bDM(N:Int→Int→Int→Int→bM→SV×List Blk)(K:Int→Int→Int→Int→bM→Bool):List SV→List Blk→Option ((SV×List Blk)×Bool)
 |[(.one (.ptr 0 0 0)),(.one (li c0)),(.one (li c1)),(.one (li c2)),(.one (li c3))],[.box [.sl 1 0 l1, .sl 2 0 l2], .lst 1 c_1, .lst 5 c_2]=>some (N c0 c1 c2 c3 (bM.mk c_1 c_2),eC l1 (ln c_1)&&(eC l2 (ln c_2)&&(K c0 c1 c2 c3 (bM.mk c_1 c_2))))
 |_,_=>none
theorem a2P{N:Int→Int→Int→Int→bM→SV×List Blk}{K:Int→Int→Int→Int→bM→Bool}{f:Nat}(h: ∀(b:Int)(c:Int)(d:Int)(o:Int)(a:bM),K b c d o a=true→dJ R f (cDJ b c d o a) (cDK b c d o a)=some (N b c d o a)):cK f (bDM N K):=fun args hp r e=>by
 unfold bDM at e;split at e
 ·rename_i c0 c1 c2 c3 l1 l2 c_1 c_2;obtain⟨hr,hk⟩:=qp (qi e);obtain⟨d0,hk0⟩:=bJ hk;obtain⟨d1,hk1⟩:=bJ hk0;obtain rfl:=of_decide_eq_true d0;obtain rfl:=of_decide_eq_true d1;rw[←hr];exact h c0 c1 c2 c3 (bM.mk c_1 c_2) hk1
 ·simp at e
section
variable(b:Int)(c:Int)(d:Int)(o:Int)(a:bM)
def SC:Bool:=((qQ (0+(ln a.Log)) (ln a.Log))&&true)
def SD:Bool:=(!(bif (eqI b 3)then(eqI (MD b c d) 0)else false))
def SE:Bool:=(bif (ltI (cA a.Log) 400)then(SD b c d)else false)
def SF:Bool:=(((e1 (ln a.Log))&&((eC (0+(ln a.Log)) (ln a.Log))&&((qQ (vX ((ln a.Log)+1) 40) 140737488355328)&&(qQ ((ln a.Log)+1) 140737488355328))))&&true)
def SG:List Row:=(a.Log++[(aE.row (aE.mk b c d (bif (dC b 2)then 0 else o) (MD b c d)))])
def SH:Bool:=((e1 (ln a.Bytes))&&((e1 (ln (SG b c d o a)))&&true))
def SI:Bool:=(((bS a true)&&(bS a true))&&true)
def SJ:Nat:=(0+(ln (JQ c d o a).Log))
def SK:Nat:=((ln (JQ c d o a).Log)+1)
def SL:List Row:=((JQ c d o a).Log++[(aE.row (aE.mk b c d (bif (dC b 2)then 0 else o) (MD b c d)))])
def JR:Bool:=((e1 (ln (JQ c d o a).Bytes))&&((e1 (ln (SL b c d o a)))&&true))
def JS:List Row:=(a.Log++[(aE.row (aE.mk b c d (a2O c d a) (MD b c d)))])
def JT:Bool:=((e1 (ln a.Bytes))&&((e1 (ln (JS b c d a)))&&true))
end
def aJY(b:Int)(c:Int)(d:Int)(o:Int)(a:bM):Pt (bM×Int×Int):=(.ok true (.ok ((bLM b c d)&&true) (.ok true (.ok true (.ok true (.ok true (.ok true (.br (dC (MD b c d) 0) (.ok (SC a) (.br (SE b c d a) (.ok (SF a) (.ok true (.ok (((SH b c d o a)&&(SH b c d o a))&&true) (.leaf ({a with Log:=(SG b c d o a)},0,(MD b c d)))))) (.ok true (.ok (SI a) (.leaf (a,0,(MD b c d))))))) (.ok true (.br (eqI b 2) (.ok ((rS a (bLP c d o a))&&true) (.ok ((qQ (SJ c d o a) (ln (JQ c d o a).Log))&&true) (.br (bif (ltI (cA (JQ c d o a).Log) 400)then(SD b c d)else false) (.ok (((e1 (ln (JQ c d o a).Log))&&((eC (SJ c d o a) (ln (JQ c d o a).Log))&&((qQ (vX (SK c d o a) 40) 140737488355328)&&(qQ (SK c d o a) 140737488355328))))&&true) (.ok true (.ok (((JR b c d o a)&&(JR b c d o a))&&true) (.leaf ({(JQ c d o a)with Log:=(SL b c d o a)},0,(MD b c d)))))) (.ok true (.ok (((bS (JQ c d o a) true)&&(bS (JQ c d o a) true))&&true) (.leaf ((JQ c d o a),0,(MD b c d)))))))) (.ok ((rS a (bLS c d a))&&true) (.ok true (.ok (SC a) (.br (SE b c d a) (.ok (SF a) (.ok true (.ok (((JT b c d a)&&(JT b c d a))&&true) (.leaf ({a with Log:=(JS b c d a)},(a2O c d a),(MD b c d)))))) (.ok true (.ok (SI a) (.leaf (a,(a2O c d a),(MD b c d)))))))))))))))))))
def JU(b:Int)(c:Int)(d:Int)(o:Int)(a:bM):bM×Int×Int:=hid (aJY b c d o a).val
def HI(b:Int)(c:Int)(d:Int)(o:Int)(a:bM):Bool:=hid (aJY b c d o a).okv
def bDN(b:Int)(c:Int)(d:Int)(o:Int)(a:bM)(r:bM×Int×Int):SV×List Blk:=((.tup [(.one (li r.2.1)),(.one (li r.2.2))]),[.box [.sl 1 0 (ln r.1.Bytes), .sl 2 0 (ln r.1.Log)], .lst 1 r.1.Bytes, .lst 5 r.1.Log])
def q153:=bDM (fun b c d o a=>bDN b c d o a (JU b c d o a)) HI
theorem cDL:cK 153 q153:=a2P fun b c d o a hk=>tc bX6 aPR [(41,K11),(57,K11)] [] true (aJY b c d o a) (bDN b c d o a) hk
def Q153:=aZ 153 q153 Q177
theorem aPS:QO Q153:=aF cDL aPR
def cDM(b:Int)(a:aI):List SV:=[(.one (.ptr 0 0 0)),(.one (li b))]
def cDN(b:Int)(a:aI):List Blk:=[.box [.sl 1 0 (ln a.R.D), .sl 2 0 (ln a.R.A),li a.R.Other,li a.R.PC,li a.R.Flags,li a.R.Mask, .lit (.bool a.R.Super), .lit (.bool a.R.Trace), .sl 3 0 (ln a.Bus.Bytes), .sl 4 0 (ln a.Bus.Log), .lit (.bool a.Stop), .lit (.bool a.Halt)], .lst 1 a.R.D, .lst 1 a.R.A, .lst 1 a.Bus.Bytes, .lst 5 a.Bus.Log]
def bLT(N:Int→aI→SV×List Blk)(K:Int→aI→Bool):List SV→List Blk→Option ((SV×List Blk)×Bool)
 |[(.one (.ptr 0 0 0)),(.one (li c0))],[.box [.sl 1 0 l1, .sl 2 0 l2,li c1,li c2,li c3,li c4, .lit (.bool c5), .lit (.bool c6), .sl 3 0 l3, .sl 4 0 l4, .lit (.bool c7), .lit (.bool c8)], .lst 1 c_1, .lst 1 c_2, .lst 1 c_3, .lst 5 c_4]=>some (N c0 (aI.mk (aH.mk c_1 c_2 c1 c2 c3 c4 c5 c6) (bM.mk c_3 c_4) c7 c8),eC l1 (ln c_1)&&(eC l2 (ln c_2)&&(eC l3 (ln c_3)&&(eC l4 (ln c_4)&&(K c0 (aI.mk (aH.mk c_1 c_2 c1 c2 c3 c4 c5 c6) (bM.mk c_3 c_4) c7 c8))))))
 |_,_=>none
theorem bLU{N:Int→aI→SV×List Blk}{K:Int→aI→Bool}{f:Nat}(h: ∀(b:Int)(a:aI),K b a=true→dJ R f (cDM b a) (cDN b a)=some (N b a)):cK f (bLT N K):=fun args hp r e=>by
 unfold bLT at e;split at e
 ·rename_i c0 l1 l2 c1 c2 c3 c4 c5 c6 l3 l4 c7 c8 c_1 c_2 c_3 c_4;obtain⟨hr,hk⟩:=qp (qi e);obtain⟨d0,hk0⟩:=bJ hk;obtain⟨d1,hk1⟩:=bJ hk0;obtain⟨d2,hk2⟩:=bJ hk1;obtain⟨d3,hk3⟩:=bJ hk2;obtain rfl:=of_decide_eq_true d0;obtain rfl:=of_decide_eq_true d1;obtain rfl:=of_decide_eq_true d2;obtain rfl:=of_decide_eq_true d3;rw[←hr];exact h c0 (aI.mk (aH.mk c_1 c_2 c1 c2 c3 c4 c5 c6) (bM.mk c_3 c_4) c7 c8) hk3
 ·simp at e
section
variable(b:Int)(a:aI)
def OA:bM×Int×Int:=(JU 2 2 (bH (cN (bQ a.R.A 3 0) 2) 65535) b a.Bus)
def aPT:Bool:=(aP a.R (bS (OA b a).1 true))
def a2Q:List Row:=(List.set a.R.A 3 (bB (bH (cN (bQ a.R.A 3 0) 2) 65535)))
def a2R:Bool:=((e1 (ln a.R.D))&&((eC (ln a.R.A) (ln (a2Q a)))&&(bS (OA b a).1 true)))
end
def T75(b:Int)(a:aI):Pt (aI×Int×Int):=(.ok true (.ok ((ltI 3 (cA a.R.A))&&((dU [.int .i64] a.R.A 3 0)&&true)) (.ok ((rS a.Bus (HI 2 2 (bH (cN (bQ a.R.A 3 0) 2) 65535) b a.Bus))&&true) (.ok true (.br (eqI (OA b a).2.2 0) (.ok ((ltI 3 (cA a.R.A))&&(((blt 3 (ln a.R.A))&&(jW (jX a.R.A 3) 1))&&true)) (.ok true (.ok ((((aPT b a)&&(a2R b a))&&true)&&((a2R b a)&&true)) (.leaf ({a with R:={a.R with A:=(a2Q a)},Bus:=(OA b a).1},(bH (cN (bQ a.R.A 3 0) 2) 65535),(OA b a).2.2))))) (.ok true (.ok (dd (aPT b a) ((aPT b a)&&true)) (.leaf ({a with Bus:=(OA b a).1},(bH (cN (bQ a.R.A 3 0) 2) 65535),(OA b a).2.2)))))))))
def g75(b:Int)(a:aI):aI×Int×Int:=hid (T75 b a).val
def k75(b:Int)(a:aI):Bool:=hid (T75 b a).okv
def n75(b:Int)(a:aI)(r:aI×Int×Int):SV×List Blk:=((.tup [(.one (li r.2.1)),(.one (li r.2.2))]),[.box [.sl 1 0 (ln r.1.R.D), .sl 2 0 (ln r.1.R.A),li r.1.R.Other,li r.1.R.PC,li r.1.R.Flags,li r.1.R.Mask, .lit (.bool r.1.R.Super), .lit (.bool r.1.R.Trace), .sl 3 0 (ln r.1.Bus.Bytes), .sl 4 0 (ln r.1.Bus.Log), .lit (.bool r.1.Stop), .lit (.bool r.1.Halt)], .lst 1 r.1.R.D, .lst 1 r.1.R.A, .lst 1 r.1.Bus.Bytes, .lst 5 r.1.Bus.Log])
def q75:=bLT (fun b a=>n75 b a (g75 b a)) k75
theorem t75:cK 75 q75:=bLU fun b a hk=>tc b9U aPS [(13,K1),(14,K0),(15,K0),(33,K1),(35,K0),(1000001,[])] [] true (T75 b a) (n75 b a) hk
def Q75:=aZ 75 q75 Q153
theorem aJ0:QO Q75:=aF t75 aPS
def cDO(b:aL)(a:aI):List SV:=[(.one (.ptr 0 0 0)),(.agg [li b.Vector,li b.PC,li b.Addr,li b.Word, .lit (.bool b.Write)])]
def cDP(b:aL)(a:aI):List Blk:=[.box [.sl 1 0 (ln a.R.D), .sl 2 0 (ln a.R.A),li a.R.Other,li a.R.PC,li a.R.Flags,li a.R.Mask, .lit (.bool a.R.Super), .lit (.bool a.R.Trace), .sl 3 0 (ln a.Bus.Bytes), .sl 4 0 (ln a.Bus.Log), .lit (.bool a.Stop), .lit (.bool a.Halt)], .lst 1 a.R.D, .lst 1 a.R.A, .lst 1 a.Bus.Bytes, .lst 5 a.Bus.Log]
def bLV(N:aL→aI→SV×List Blk)(K:aL→aI→Bool):List SV→List Blk→Option ((SV×List Blk)×Bool)
 |[(.one (.ptr 0 0 0)),(.agg [li c0,li c1,li c2,li c3, .lit (.bool c4)])],[.box [.sl 1 0 l1, .sl 2 0 l2,li c5,li c6,li c7,li c8, .lit (.bool c9), .lit (.bool c10), .sl 3 0 l3, .sl 4 0 l4, .lit (.bool c11), .lit (.bool c12)], .lst 1 c_1, .lst 1 c_2, .lst 1 c_3, .lst 5 c_4]=>some (N (aL.mk c0 c1 c2 c3 c4) (aI.mk (aH.mk c_1 c_2 c5 c6 c7 c8 c9 c10) (bM.mk c_3 c_4) c11 c12),eC l1 (ln c_1)&&(eC l2 (ln c_2)&&(eC l3 (ln c_3)&&(eC l4 (ln c_4)&&(K (aL.mk c0 c1 c2 c3 c4) (aI.mk (aH.mk c_1 c_2 c5 c6 c7 c8 c9 c10) (bM.mk c_3 c_4) c11 c12))))))
 |_,_=>none
theorem bLW{N:aL→aI→SV×List Blk}{K:aL→aI→Bool}{f:Nat}(h: ∀(b:aL)(a:aI),K b a=true→dJ R f (cDO b a) (cDP b a)=some (N b a)):cK f (bLV N K):=fun args hp r e=>by
 unfold bLV at e;split at e
 ·rename_i c0 c1 c2 c3 c4 l1 l2 c5 c6 c7 c8 c9 c10 l3 l4 c11 c12 c_1 c_2 c_3 c_4;obtain⟨hr,hk⟩:=qp (qi e);obtain⟨d0,hk0⟩:=bJ hk;obtain⟨d1,hk1⟩:=bJ hk0;obtain⟨d2,hk2⟩:=bJ hk1;obtain⟨d3,hk3⟩:=bJ hk2;obtain rfl:=of_decide_eq_true d0;obtain rfl:=of_decide_eq_true d1;obtain rfl:=of_decide_eq_true d2;obtain rfl:=of_decide_eq_true d3;rw[←hr];exact h (aL.mk c0 c1 c2 c3 c4) (aI.mk (aH.mk c_1 c_2 c5 c6 c7 c8 c9 c10) (bM.mk c_3 c_4) c11 c12) hk3
 ·simp at e
structure V102_0 where
 mk::
 (b0:aI)
 (b1:aL)
 (s29:List Row)
 (s30:Int)
 (s31:Int)
section
variable(v:V102_0)
def v7:aI×Int×Int:=(g75 (bQ v.s29 (0+(iN v.s31)) 0) v.b0)
end
def HJ(v:V102_0):Pt (Option V102_0):=(.ok true (.br (ltI v.s31 v.s30) (.ok (((leI 0 v.s31)&&(ltI v.s31 (cA v.s29)))&&((dU [.int .i64] v.s29 (0+(iN v.s31)) 0)&&true)) (.ok ((cH v.b0 (k75 (bQ v.s29 (0+(iN v.s31)) 0) v.b0))&&true) (.ok true (.br (dC (v7 v).2.2 0) (.ok true (.leaf none)) (.ok true (.ok (((aO (v7 v).1 true)&&(aO (v7 v).1 ((e1 (ln v.s29))&&true)))&&((e1 (ln v.s29))&&true)) (.leaf (some {v with b0:=(v7 v).1,s31:=(bE v.s31 1)})))))))) (.leaf none)))
def SM(v:V102_0):St:=⟨[(0,(.one (.ptr 0 0 0))),(3,(.one (.ptr 1 0 0))),(29,(.one (.sl 6 0 (ln v.s29)))),(30,(.one (li v.s30))),(31,(.one (li v.s31)))],[.box [.sl 2 0 (ln v.b0.R.D), .sl 3 0 (ln v.b0.R.A),li v.b0.R.Other,li v.b0.R.PC,li v.b0.R.Flags,li v.b0.R.Mask, .lit (.bool v.b0.R.Super), .lit (.bool v.b0.R.Trace), .sl 4 0 (ln v.b0.Bus.Bytes), .sl 5 0 (ln v.b0.Bus.Log), .lit (.bool v.b0.Stop), .lit (.bool v.b0.Halt)], .box [li v.b1.Vector,li v.b1.PC,li v.b1.Addr,li v.b1.Word, .lit (.bool v.b1.Write)], .lst 1 v.b0.R.D, .lst 1 v.b0.R.A, .lst 1 v.b0.Bus.Bytes, .lst 5 v.b0.Bus.Log, .lst 1 v.s29]⟩
def aA2:St→Option (V102_0×Bool)
 |⟨[(0,(.one (.ptr 0 0 0))),(3,(.one (.ptr 1 0 0))),(29,(.one (.sl 6 0 l6))),(30,(.one (li c13))),(31,(.one (li c14)))],[.box [.sl 2 0 l2, .sl 3 0 l3,li c0,li c1,li c2,li c3, .lit (.bool c4), .lit (.bool c5), .sl 4 0 l4, .sl 5 0 l5, .lit (.bool c6), .lit (.bool c7)], .box [li c8,li c9,li c10,li c11, .lit (.bool c12)], .lst 1 c_2, .lst 1 c_3, .lst 1 c_4, .lst 5 c_5, .lst 1 c_6]⟩=>some ((V102_0.mk (aI.mk (aH.mk c_2 c_3 c0 c1 c2 c3 c4 c5) (bM.mk c_4 c_5) c6 c7) (aL.mk c8 c9 c10 c11 c12) c_6 c13 c14),eC l2 (ln c_2)&&(eC l3 (ln c_3)&&(eC l4 (ln c_4)&&(eC l5 (ln c_5)&&(eC l6 (ln c_6)&&(true))))))
 |_=>none
def aA3:St→Option (Pt Out):=x9 Q75 [(13,K8),(14,K13),(33,K0),(34,K0),(52,K0)] [] true [] 1 2097152 aHN
theorem bDO(v:V102_0):((aA3 (SM v)).bind (sY true false 1 [0,3,29,30,31]))=some ((HJ v).map (Option.map SM)):=by kernel_rfl
theorem bDP(σ:St)(v:V102_0)(h:aA2 σ=some (v,true)):σ=SM v:=by
 unfold aA2 at h;split at h
 ·obtain⟨hr,hk⟩:=qp (qi h);obtain⟨d0,hk0⟩:=bJ hk;obtain⟨d1,hk1⟩:=bJ hk0;obtain⟨d2,hk2⟩:=bJ hk1;obtain⟨d3,hk3⟩:=bJ hk2;obtain⟨d4,hk4⟩:=bJ hk3;obtain rfl:=of_decide_eq_true d0;obtain rfl:=of_decide_eq_true d1;obtain rfl:=of_decide_eq_true d2;obtain rfl:=of_decide_eq_true d3;obtain rfl:=of_decide_eq_true d4;rw[←hr];rfl
 ·simp at h
theorem bDQ:dB (vF true false 1 [0,3,29,30,31] aA3 aA2 SM HJ 2097152) (fY R 1 2097152 (.loop [0,3,29,30,31] aHN)):=eM (dD aJ0 (cQ (l:=[]) (by kernel_rfl) trivial)) bDP bDO
def bDR:Lp:=(32,vF true false 1 [0,3,29,30,31] aA3 aA2 SM HJ 2097152)::[]
def a2S(v:V102_0):V102_0:=(hid (eG HJ 2097152 v)).getD v
def a2T(v:V102_0):Bool:=(hid (eG HJ 2097152 v)).isSome
section
variable(b:aL)(a:aI)
def ME:aH:=(aV8 (eW (gB (aAT a.R) 512) 256) a.R)
def aA4:Bool:=((e1 (ln (aAS a b)))&&true)
def aA5:Bool:=(aP (ME a) (bS a.Bus (aA4 b a)))
def lI:V102_0:=(a2S (V102_0.mk {a with R:=(ME a),Stop:=false} b (aAS a b) (cA (aAS a b)) 0))
def aA6:Bool:=(aO (g75 (bQ (lI b a).s29 (0+(iN (lI b a).s31)) 0) (lI b a).b0).1 true)
def HK:bM×Int×Int:=(JU 1 2 (dH 2 (lI b a).b1.Vector) 0 (lI b a).b0.Bus)
def aA7:Bool:=(aP (lI b a).b0.R (bS (HK b a).1 true))
def aA8:Bool:=(((aA7 b a)&&(aA7 b a))&&true)
end
def a2U(b:aL)(a:aI):Pt (aI):=(.ok true (.ok (((((aO a true)&&true)&&(bLI a b))&&true)&&true) (.ok true (.ok (((iA a.R (aJV a.R))&&((iA a.R (aV9 (eW (gB (aAT a.R) 512) 256) a.R))&&true))&&true) (.ok ((qQ (0+(ln (aAS a b))) (ln (aAS a b)))&&true) (.ok (((aP (ME a) (bS a.Bus true))&&(aA5 b a))&&(aA4 b a)) (.ok (aA5 b a) (.ok (a2T (V102_0.mk {a with R:=(ME a),Stop:=false} b (aAS a b) (cA (aAS a b)) 0)) (.br (ltI (lI b a).s31 (lI b a).s30) (.ok (((aA6 b a)&&(aA6 b a))&&true) (.leaf {(g75 (bQ (lI b a).s29 (0+(iN (lI b a).s31)) 0) (lI b a).b0).1 with Halt:=true})) (.ok (((rS (lI b a).b0.Bus (HI 1 2 (dH 2 (lI b a).b1.Vector) 0 (lI b a).b0.Bus))&&true)&&true) (.ok true (.br (dC (HK b a).2.2 0) (.ok true (.ok (aA8 b a) (.leaf {(lI b a).b0 with Bus:=(HK b a).1,Halt:=true}))) (.ok true (.ok (aA8 b a) (.leaf {(lI b a).b0 with R:={(lI b a).b0.R with PC:=(HK b a).2.1},Bus:=(HK b a).1})))))))))))))))
def aA9(b:aL)(a:aI):aI:=hid (a2U b a).val
def aBA(b:aL)(a:aI):Bool:=hid (a2U b a).okv
def b3O(b:aL)(a:aI)(r:aI):SV×List Blk:=((.tup []),[.box [.sl 1 0 (ln r.R.D), .sl 2 0 (ln r.R.A),li r.R.Other,li r.R.PC,li r.R.Flags,li r.R.Mask, .lit (.bool r.R.Super), .lit (.bool r.R.Trace), .sl 3 0 (ln r.Bus.Bytes), .sl 4 0 (ln r.Bus.Log), .lit (.bool r.Stop), .lit (.bool r.Halt)], .lst 1 r.R.D, .lst 1 r.R.A, .lst 1 r.Bus.Bytes, .lst 5 r.Bus.Log])
def q102:=bLV (fun b a=>b3O b a (aA9 b a)) aBA
theorem b3P:fM (fun live x=>dB (oV bDR (m6 x)) (fY R 1 2097152 (.loop live x))) F102.body:=(cQ (l:=[([0,3,29,30,31],aHN)]) (by kernel_rfl) ⟨fN (n:=32) (by kernel_rfl) fun σ σr t h ho hl=>bDQ σ σr t h ho hl,trivial⟩)
theorem cDQ:cK 102 q102:=bLW fun b a hk=>tcl bW9 aJ0 b3P [(13,K8),(14,K13),(33,K0),(34,K0),(52,K0)] [] true (a2U b a) (b3O b a) hk
def Q102:=aZ 102 q102 Q75
theorem aPU:QO Q102:=aF cDQ aJ0
def a2V(a:Int):Pt (Int):=(.ok true (.ok true (.br (eqI a 2) (.ok true (.ok true (.ok true (.leaf 3)))) (.ok true (.ok true (.ok true (.leaf 2)))))))
def aWA(a:Int):Int:=hid (a2V a).val
def a2W(a:Int):Bool:=hid (a2V a).okv
def q232:=BP (fun a=>xB a (aWA a)) a2W
theorem cDR:cK 100232 q232:=gS fun a hk=>tz bZ3 aPU [] [] true (a2V a) (xB a) hk
def Q232:=aZ 100232 q232 Q102
theorem aPV:QO Q232:=aF cDR aPU
def a2X(a:Int):Pt (Bool):=(.ok true (.ok true (.ok true (.ok true (.leaf (bif (bif (eqI a 5)then true else(eqI a 6))then true else(eqI a 7)))))))
def a2Y(a:Int):Bool:=hid (a2X a).val
def a2Z(a:Int):Bool:=hid (a2X a).okv
def q241:=BP (fun a=>jZ a (a2Y a)) a2Z
theorem cDS:cK 100241 q241:=gS fun a hk=>tz b0C aPV [] [] true (a2X a) (jZ a) hk
def Q241:=aZ 100241 q241 Q232
theorem aPW:QO Q241:=aF cDS aPV
section
variable(a:Int)
def aJ1:Bool:=(a2Y (bH (eZ a 5) 7))
end
def a20(a:Int):Pt (Int):=(.ok true (.ok ((a2Z (bH (eZ a 5) 7))&&((yG (aJ1 a) 1)&&true)) (.ok true (.ok true (.leaf (bE 1 (yF (aJ1 a) 1)))))))
def aWB(a:Int):Int:=hid (a20 a).val
def a21(a:Int):Bool:=hid (a20 a).okv
def q233:=BP (fun a=>xB a (aWB a)) a21
theorem cDT:cK 100233 q233:=gS fun a hk=>tz bZ4 aPW [] [] true (a20 a) (xB a) hk
def Q233:=aZ 100233 q233 Q241
theorem aPX:QO Q233:=aF cDT aPW
def a22(a:Int)(b:Int):Pt (aQ):=(.ok true (.ok true (.ok true (.ok ((a21 a)&&true) (.br (eqI (aWB a) 2) (.ok true (.ok true (.ok true (.ok true (.leaf (aQ.mk (eZ a 11) (bE (bH (eZ a 10) 1) 1) (bH (eZ a 8) 3) (aG.mk (bH (eZ a 5) 7) (bH (eZ a 3) 3) b) (bH a 7))))))) (.ok true (.ok true (.ok true (.leaf (aQ.mk (eZ a 11) (bE (bH (eZ a 10) 1) 1) (bH (eZ a 8) 3) (aG.mk (bH (eZ a 5) 7) (bH (eZ a 3) 3) 0) (bH a 7)))))))))))
def aWC(a:Int)(b:Int):aQ:=hid (a22 a b).val
def bDS(a:Int)(b:Int):Bool:=hid (a22 a b).okv
def bDT(a:Int)(b:Int)(r:aQ):SV×List Blk:=((.agg [li r.Op,li r.Size,li r.Reg,li r.Ea.Mode,li r.Ea.Reg,li r.Ea.Ext,li r.Sub]),[])
def q234:=JP (fun a b=>bDT a b (aWC a b)) bDS
theorem cDU:cK 100234 q234:=tM fun a b hk=>tz bZ5 aPX [(32,K5)] [] true (a22 a b) (bDT a b) hk
def Q234:=aZ 100234 q234 Q233
theorem aPY:QO Q234:=aF cDU aPX
section
variable(a:aG)
def aJ2:Bool:=(bif (!(vB a.Mode 0 7))then true else(!(g73 a.Ext)))
end
def a23(a:aG):Pt (Bool):=(.ok true (.ok ((xA a.Mode 0 7)&&((((k73 a.Ext)&&true)||(!(vB a.Mode 0 7)))&&((((a2Z a.Mode)&&true)||(aJ2 a))&&true))) (.br (bif (aJ2 a)then true else(bif (!(a2Y a.Mode))then(dC a.Ext 0)else false)) (.ok true (.ok true (.ok true (.leaf false)))) (.ok ((xA a.Reg 0 3)&&true) (.ok true (.ok true (.leaf (bif (vB a.Reg 0 3)then(bif (eqI a.Reg 0)then true else(ltI a.Mode 6))else false))))))))
def bLX(a:aG):Bool:=hid (a23 a).val
def bLY(a:aG):Bool:=hid (a23 a).okv
def q188:=DS6 (fun a=>VS a (bLX a)) bLY
theorem cDV:cK 100188 q188:=aFB fun a hk=>tz bY1 aPY [(4,K0),(9,K0),(15,K0),(20,K0),(25,K0),(29,K0),(33,K0)] [] true (a23 a) (VS a) hk
def Q188:=aZ 100188 q188 Q234
theorem aPZ:QO Q188:=aF cDV aPY
def a24(a:Int):Pt (Bool):=(.ok true (.ok ((xA a 2 6)&&true) (.ok true (.ok true (.leaf (vB a 2 6))))))
def bLZ(a:Int):Bool:=hid (a24 a).val
def bL0(a:Int):Bool:=hid (a24 a).okv
def q199:=BP (fun a=>jZ a (bLZ a)) bL0
theorem cDW:cK 100199 q199:=gS fun a hk=>tz bZA aPZ [] [] true (a24 a) (jZ a) hk
def Q199:=aZ 100199 q199 Q188
theorem aP0:QO Q199:=aF cDW aPZ
def a25(a:Int):Pt (Bool):=(.ok true (.ok ((((bL0 a)&&true)||(eqI a 0))&&true) (.ok true (.ok true (.leaf (bif (eqI a 0)then true else(bLZ a)))))))
def bDU(a:Int):Bool:=hid (a25 a).val
def bDV(a:Int):Bool:=hid (a25 a).okv
def q242:=BP (fun a=>jZ a (bDU a)) bDV
theorem cDX:cK 100242 q242:=gS fun a hk=>tz b0D aP0 [] [] true (a25 a) (jZ a) hk
def Q242:=aZ 100242 q242 Q199
theorem aP1:QO Q242:=aF cDX aP0
def a26(a:Int):Pt (Bool):=(.ok true (.ok true (.ok true (.ok true (.leaf (bif (bif (eqI a 2)then true else(eqI a 5))then true else(eqI a 6)))))))
def bDW(a:Int):Bool:=hid (a26 a).val
def bDX(a:Int):Bool:=hid (a26 a).okv
def q243:=BP (fun a=>jZ a (bDW a)) bDX
theorem cDY:cK 100243 q243:=gS fun a hk=>tz b0E aP1 [] [] true (a26 a) (jZ a) hk
def Q243:=aZ 100243 q243 Q242
theorem aP2:QO Q243:=aF cDY aP1
def a27(a:aG):Pt (Bool):=(.ok true (.ok true (.ok true (.ok true (.leaf (bif (eqI a.Mode 7)then(leI a.Ext 1023)else false))))))
def bDY(a:aG):Bool:=hid (a27 a).val
def bDZ(a:aG):Bool:=hid (a27 a).okv
def q245:=DS6 (fun a=>VS a (bDY a)) bDZ
theorem cDZ:cK 100245 q245:=aFB fun a hk=>tz b0G aP2 [(4,K0),(8,K0)] [] true (a27 a) (VS a) hk
def Q245:=aZ 100245 q245 Q243
theorem aP3:QO Q245:=aF cDZ aP2
def a28(a:aQ):Pt (Bool):=(.ok true (.ok true (.br (bif (dC a.Size 2)then true else(kU a.Sub 6)) (.ok true (.ok true (.ok true (.leaf false)))) (.ok true (.br (eqI a.Sub 3) (.ok ((((bDZ a.Ea)&&true)||(!(eqI a.Reg 0)))&&true) (.ok true (.ok true (.leaf (bif (eqI a.Reg 0)then(bDY a.Ea)else false))))) (.ok true (.br (bif (ltI a.Sub 3)then(dC a.Reg 0)else false) (.ok true (.ok true (.ok true (.leaf false)))) (.ok true (.ok true (.ok true (.leaf ((eqI a.Ea.Mode 0)&&((eqI a.Ea.Reg 0)&&((eqI a.Ea.Ext 0)&&true))))))))))))))
def bL1(a:aQ):Bool:=hid (a28 a).val
def bL2(a:aQ):Bool:=hid (a28 a).okv
def q244:=DS7 (fun a=>OM a (bL1 a)) bL2
theorem cD0:cK 100244 q244:=N7 fun a hk=>tz b0F aP3 [(5,K0),(9,K0),(14,K0),(17,K0),(21,K4),(26,K0),(30,K0),(34,K4)] [] true (a28 a) (OM a) hk
def Q244:=aZ 100244 q244 Q245
theorem aP4:QO Q244:=aF cD0 aP3
section
variable(a:aQ)
def SN:Bool:=(bif (eqI a.Size 2)then(eqI a.Sub 0)else false)
def aJ3:Bool:=(bif (eqI a.Reg 0)then(leI a.Sub 3)else false)
def aJ4:Bool:=(bif (bif (eqI a.Size 2)then(eqI a.Reg 0)else false)then(leI a.Sub 1)else false)
def aJ5:Bool:=(bif (eqI a.Sub 0)then(eqI a.Reg 0)else false)
end
def a29(a:aQ):Pt (Bool):=(.ok true (.ok true (.ok true (.ok true (.ok true (.ok true (.br (bif (eqI a.Op 1)then(eqI a.Op 1)else(bif (eqI a.Op 3)then(eqI a.Op 3)else(bif (eqI a.Op 4)then(eqI a.Op 4)else(bif (eqI a.Op 5)then(eqI a.Op 5)else(bif (eqI a.Op 6)then(eqI a.Op 6)else(bif (eqI a.Op 7)then(eqI a.Op 7)else(eqI a.Op 8))))))) (.ok true (.ok true (.ok true (.leaf (bif (eqI a.Sub 0)then(bif (dC a.Ea.Mode 1)then true else(eqI a.Size 2))else false))))) (.ok true (.br (eqI a.Op 2) (.ok ((((bDV a.Ea.Mode)&&true)||(!(eqI a.Sub 0)))&&true) (.ok true (.ok true (.leaf (bif (eqI a.Sub 0)then(bDU a.Ea.Mode)else false))))) (.ok true (.br (eqI a.Op 9) (.ok true (.ok true (.ok true (.leaf (SN a))))) (.ok true (.br (eqI a.Op 10) (.ok ((((bDX a.Ea.Mode)&&true)||(!(SN a)))&&true) (.ok true (.ok true (.leaf (bif (SN a)then(bDW a.Ea.Mode)else false))))) (.ok true (.br (eqI a.Op 11) (.ok ((((bDV a.Ea.Mode)&&true)||(!(aJ3 a)))&&true) (.ok true (.ok true (.leaf (bif (aJ3 a)then(bDU a.Ea.Mode)else false))))) (.ok true (.br (eqI a.Op 12) (.ok true (.ok true (.ok true (.leaf (eqI a.Ea.Mode 0))))) (.ok true (.br (eqI a.Op 13) (.ok true (.ok true (.ok true (.leaf (bif (bif (eqI a.Size 2)then(leI a.Reg 1)else false)then(eqI a.Ea.Mode 7)else false))))) (.ok true (.br (eqI a.Op 14) (.ok ((((bDX a.Ea.Mode)&&true)||(!(aJ4 a)))&&true) (.ok true (.ok true (.leaf (bif (aJ4 a)then(bDW a.Ea.Mode)else false))))) (.ok true (.br (eqI a.Op 15) (.ok ((bL2 a)&&true) (.ok true (.ok true (.leaf (bL1 a))))) (.ok true (.ok true (.br (bif (eqI a.Op 16)then(eqI a.Op 16)else(eqI a.Op 17)) (.ok true (.ok true (.ok true (.leaf (bif (SN a)then(dC a.Ea.Mode 1)else false))))) (.ok true (.br (eqI a.Op 18) (.ok true (.ok true (.ok true (.leaf (bif (bif (!(eqI a.Size 2))then(leI a.Sub 1)else false)then(eqI a.Ea.Mode 0)else false))))) (.ok true (.br (eqI a.Op 19) (.ok ((((((bDZ a.Ea)&&true)||(!(aJ5 a)))&&true)||(!(eqI a.Size 2)))&&true) (.ok true (.ok true (.leaf (bif (eqI a.Size 2)then(bif (bif (aJ5 a)then(bDY a.Ea)else false)then true else(bif (eqI a.Sub 1)then((eqI a.Ea.Mode 0)&&((eqI a.Ea.Reg 0)&&((eqI a.Ea.Ext 0)&&true)))else false))else false))))) (.ok true (.ok true (.ok true (.leaf false))))))))))))))))))))))))))))))))))
def bL3(a:aQ):Bool:=hid (a29 a).val
def bL4(a:aQ):Bool:=hid (a29 a).okv
def q189:=DS7 (fun a=>OM a (bL3 a)) bL4
theorem cD1:cK 100189 q189:=N7 fun a hk=>tz bY2 aP4 [(7,K0),(9,K0),(12,K0),(22,K0),(34,K0),(45,K0),(53,K0),(63,K0),(67,K0),(83,K0),(95,K0),(100,K0),(109,K5),(117,K0),(130,K0),(142,K0),(146,K0),(151,K4),(156,K0),(160,K4)] [] true (a29 a) (OM a) hk
def Q189:=aZ 100189 q189 Q244
theorem aP5:QO Q189:=aF cD1 aP4
section
variable(a:aQ)
def aJ6:Bool:=(bif (aFH a.Size)then(vB a.Reg 0 3)else false)
def aJ7:Bool:=(bif (aJ6 a)then(vB a.Sub 0 7)else false)
def aJ8:Bool:=(bif (bif (aJ7 a)then(bLX a.Ea)else false)then(!(bif (bif (eqI a.Ea.Mode 7)then(eqI a.Size 1)else false)then(kU a.Ea.Ext 255)else false))else false)
end
def a3A(a:aQ):Pt (Bool):=(.ok true (.ok ((aV4 a.Size)&&((((xA a.Reg 0 3)&&true)||(!(aFH a.Size)))&&((((xA a.Sub 0 7)&&true)||(!(aJ6 a)))&&((((bLY a.Ea)&&true)||(!(aJ7 a)))&&((((bL4 a)&&true)||(!(aJ8 a)))&&true))))) (.ok true (.ok true (.leaf (bif (aJ8 a)then(bL3 a)else false))))))
def a3B(a:aQ):Bool:=hid (a3A a).val
def a3C(a:aQ):Bool:=hid (a3A a).okv
def q124:=DS7 (fun a=>OM a (a3B a)) a3C
theorem cD2:cK 100124 q124:=N7 fun a hk=>tz bXQ aP5 [(4,K0),(8,K0),(13,K0),(18,K4),(24,K0),(28,K0),(34,K0),(40,K5)] [] true (a3A a) (OM a) hk
def Q124:=aZ 100124 q124 Q189
theorem aP6:QO Q124:=aF cD2 aP5
def cD3(a:aI):List SV:=[(.one (.ptr 0 0 0))]
def cD4(a:aI):List Blk:=[.box [.sl 1 0 (ln a.R.D), .sl 2 0 (ln a.R.A),li a.R.Other,li a.R.PC,li a.R.Flags,li a.R.Mask, .lit (.bool a.R.Super), .lit (.bool a.R.Trace), .sl 3 0 (ln a.Bus.Bytes), .sl 4 0 (ln a.Bus.Log), .lit (.bool a.Stop), .lit (.bool a.Halt)], .lst 1 a.R.D, .lst 1 a.R.A, .lst 1 a.Bus.Bytes, .lst 5 a.Bus.Log]
def aWD(N:aI→SV×List Blk)(K:aI→Bool):List SV→List Blk→Option ((SV×List Blk)×Bool)
 |[(.one (.ptr 0 0 0))],[.box [.sl 1 0 l1, .sl 2 0 l2,li c0,li c1,li c2,li c3, .lit (.bool c4), .lit (.bool c5), .sl 3 0 l3, .sl 4 0 l4, .lit (.bool c6), .lit (.bool c7)], .lst 1 c_1, .lst 1 c_2, .lst 1 c_3, .lst 5 c_4]=>some (N (aI.mk (aH.mk c_1 c_2 c0 c1 c2 c3 c4 c5) (bM.mk c_3 c_4) c6 c7),eC l1 (ln c_1)&&(eC l2 (ln c_2)&&(eC l3 (ln c_3)&&(eC l4 (ln c_4)&&(K (aI.mk (aH.mk c_1 c_2 c0 c1 c2 c3 c4 c5) (bM.mk c_3 c_4) c6 c7))))))
 |_,_=>none
theorem aBB{N:aI→SV×List Blk}{K:aI→Bool}{f:Nat}(h: ∀(a:aI),K a=true→dJ R f (cD3 a) (cD4 a)=some (N a)):cK f (aWD N K):=fun args hp r e=>by
 unfold aWD at e;split at e
 ·rename_i l1 l2 c0 c1 c2 c3 c4 c5 l3 l4 c6 c7 c_1 c_2 c_3 c_4;obtain⟨hr,hk⟩:=qp (qi e);obtain⟨d0,hk0⟩:=bJ hk;obtain⟨d1,hk1⟩:=bJ hk0;obtain⟨d2,hk2⟩:=bJ hk1;obtain⟨d3,hk3⟩:=bJ hk2;obtain rfl:=of_decide_eq_true d0;obtain rfl:=of_decide_eq_true d1;obtain rfl:=of_decide_eq_true d2;obtain rfl:=of_decide_eq_true d3;rw[←hr];exact h (aI.mk (aH.mk c_1 c_2 c0 c1 c2 c3 c4 c5) (bM.mk c_3 c_4) c6 c7) hk3
 ·simp at e
section
variable(a:aI)
def fA:bM×Int×Int:=(JU 3 2 a.R.PC 0 a.Bus)
def tN:Bool:=(aP a.R (bS (fA a).1 true))
def pN:bM×Int×Int:=(JU 3 2 (bH (bE a.R.PC 2) 65535) 0 (fA a).1)
def tO:Bool:=(aP a.R (bS (pN a).1 true))
def A3:aQ:=(aWC (fA a).2.1 (pN a).2.1)
def C5:Bool:=(((a21 (fA a).2.1)&&true)&&true)
end
def HL(a:aI):Pt (aI×aQ×Int×Int×aL):=(.ok true (.ok true (.ok ((rS a.Bus (HI 3 2 a.R.PC 0 a.Bus))&&true) (.ok true (.br (dC (fA a).2.2 0) (.ok ((a2W (fA a).2.2)&&true) (.ok (((tN a)&&(tN a))&&true) (.leaf ({a with Bus:=(fA a).1},(aQ.mk 0 0 0 (aG.mk 0 0 0) 0),0,0,(aL.mk (aWA (fA a).2.2) a.R.PC a.R.PC 0 false))))) (.ok true (.ok ((a21 (fA a).2.1)&&true) (.br (eqI (aWB (fA a).2.1) 2) (.ok true (.ok ((rS (fA a).1 (HI 3 2 (bH (bE a.R.PC 2) 65535) 0 (fA a).1))&&true) (.ok true (.br (dC (pN a).2.2 0) (.ok ((a2W (pN a).2.2)&&true) (.ok (((tO a)&&(tO a))&&true) (.leaf ({a with Bus:=(pN a).1},(aQ.mk 0 0 0 (aG.mk 0 0 0) 0),0,0,(aL.mk (aWA (pN a).2.2) a.R.PC (bH (bE a.R.PC 2) 65535) (fA a).2.1 false))))) (.ok ((bDS (fA a).2.1 (pN a).2.1)&&true) (.ok ((a3C (A3 a))&&true) (.br (!(a3B (A3 a))) (.ok true (.ok (((tO a)&&(tO a))&&true) (.leaf ({a with Bus:=(pN a).1},(aQ.mk 0 0 0 (aG.mk 0 0 0) 0),0,0,(aL.mk 4 a.R.PC 0 (fA a).2.1 false))))) (.ok (C5 a) (.ok (((tO a)&&(tO a))&&true) (.leaf ({a with Bus:=(pN a).1},(A3 a),(aWB (fA a).2.1),(fA a).2.1,(aL.mk 0 0 0 0 false)))))))))))) (.ok ((bDS (fA a).2.1 0)&&true) (.ok ((a3C (aWC (fA a).2.1 0))&&true) (.br (!(a3B (aWC (fA a).2.1 0))) (.ok true (.ok (((tN a)&&(tN a))&&true) (.leaf ({a with Bus:=(fA a).1},(aQ.mk 0 0 0 (aG.mk 0 0 0) 0),0,0,(aL.mk 4 a.R.PC 0 (fA a).2.1 false))))) (.ok (C5 a) (.ok (((tN a)&&(tN a))&&true) (.leaf ({a with Bus:=(fA a).1},(aWC (fA a).2.1 0),(aWB (fA a).2.1),(fA a).2.1,(aL.mk 0 0 0 0 false))))))))))))))))
def JV(a:aI):aI×aQ×Int×Int×aL:=hid (HL a).val
def bL5(a:aI):Bool:=hid (HL a).okv
def b3Q(a:aI)(r:aI×aQ×Int×Int×aL):SV×List Blk:=((.tup [(.agg [li r.2.1.Op,li r.2.1.Size,li r.2.1.Reg,li r.2.1.Ea.Mode,li r.2.1.Ea.Reg,li r.2.1.Ea.Ext,li r.2.1.Sub]),(.one (li r.2.2.1)),(.one (li r.2.2.2.1)),(.agg [li r.2.2.2.2.Vector,li r.2.2.2.2.PC,li r.2.2.2.2.Addr,li r.2.2.2.2.Word, .lit (.bool r.2.2.2.2.Write)])]),[.box [.sl 1 0 (ln r.1.R.D), .sl 2 0 (ln r.1.R.A),li r.1.R.Other,li r.1.R.PC,li r.1.R.Flags,li r.1.R.Mask, .lit (.bool r.1.R.Super), .lit (.bool r.1.R.Trace), .sl 3 0 (ln r.1.Bus.Bytes), .sl 4 0 (ln r.1.Bus.Log), .lit (.bool r.1.Stop), .lit (.bool r.1.Halt)], .lst 1 r.1.R.D, .lst 1 r.1.R.A, .lst 1 r.1.Bus.Bytes, .lst 5 r.1.Bus.Log])
def q182:=aWD (fun a=>b3Q a (JV a)) bL5
theorem cD5:cK 182 q182:=aBB fun a hk=>tc bYV aP6 [(16,K0),(59,K5),(66,K5)] [] true (HL a) (b3Q a) hk
def Q182:=aZ 182 q182 Q124
theorem aP7:QO Q182:=aF cD5 aP6
def a3D(a:aQ):Pt (List Row):=(.ok true (.ok true (.ok ((a2Z a.Ea.Mode)&&true) (.br (a2Y a.Ea.Mode) (.ok true (.ok true (.ok true (.leaf [(bB (bE (bE (bE (bE (bE (dH a.Op 2048) (dH (cN a.Size 1) 1024)) (dH a.Reg 256)) (dH a.Ea.Mode 32)) (dH a.Ea.Reg 8)) a.Sub)),(bB a.Ea.Ext)])))) (.ok true (.ok true (.leaf [(bB (bE (bE (bE (bE (bE (dH a.Op 2048) (dH (cN a.Size 1) 1024)) (dH a.Reg 256)) (dH a.Ea.Mode 32)) (dH a.Ea.Reg 8)) a.Sub))])))))))
def SO(a:aQ):List Row:=hid (a3D a).val
def bD0(a:aQ):Bool:=hid (a3D a).okv
def q235:=DS7 (fun a=>bBR a (SO a)) bD0
theorem cD6:cK 235 q235:=N7 fun a hk=>tc bZ6 aP7 [(5,K0),(8,K0),(13,K0),(18,K0),(23,K0),(27,K0),(32,K0),(37,K0)] [] true (a3D a) (bBR a) hk
def Q235:=aZ 235 q235 Q182
theorem aP8:QO Q235:=aF cD6 aP7
def a3E(a:aQ):Pt (Bool):=(.ok true (.ok true (.ok true (.ok true (.leaf (bif (bif (eqI a.Op 15)then(bif (eqI a.Sub 1)then true else(eqI a.Sub 3))else false)then true else(bif (eqI a.Op 19)then(eqI a.Sub 0)else false)))))))
def bL6(a:aQ):Bool:=hid (a3E a).val
def bL7(a:aQ):Bool:=hid (a3E a).okv
def q236:=DS7 (fun a=>OM a (bL6 a)) bL7
theorem cD7:cK 100236 q236:=N7 fun a hk=>tz bZ7 aP8 [(4,K0),(8,K0),(12,K0),(18,K0),(22,K0)] [] true (a3E a) (OM a) hk
def Q236:=aZ 100236 q236 Q235
theorem aP9:QO Q236:=aF cD7 aP8
def cD8(b:Int)(c:Int)(a:bK)(x0_fc:aI):List SV:=[(.one (.ptr 0 0 0)),(.one (li b)),(.one (li c))]
def cD9(b:Int)(c:Int)(a:bK)(x0_fc:aI):List Blk:=[.box [.ptr 1 0 0,li a.fx.Op,li a.fx.Size,li a.fx.Reg,li a.fx.Ea.Mode,li a.fx.Ea.Reg,li a.fx.Ea.Ext,li a.fx.Sub,li a.fpc,li a.fword,li a.ffault.Vector,li a.ffault.PC,li a.ffault.Addr,li a.ffault.Word, .lit (.bool a.ffault.Write)], .box [.sl 2 0 (ln x0_fc.R.D), .sl 3 0 (ln x0_fc.R.A),li x0_fc.R.Other,li x0_fc.R.PC,li x0_fc.R.Flags,li x0_fc.R.Mask, .lit (.bool x0_fc.R.Super), .lit (.bool x0_fc.R.Trace), .sl 4 0 (ln x0_fc.Bus.Bytes), .sl 5 0 (ln x0_fc.Bus.Log), .lit (.bool x0_fc.Stop), .lit (.bool x0_fc.Halt)], .lst 1 x0_fc.R.D, .lst 1 x0_fc.R.A, .lst 1 x0_fc.Bus.Bytes, .lst 5 x0_fc.Bus.Log]
def a3F(N:Int→Int→bK→aI→SV×List Blk)(K:Int→Int→bK→aI→Bool):List SV→List Blk→Option ((SV×List Blk)×Bool)
 |[(.one (.ptr 0 0 0)),(.one (li c0)),(.one (li c1))],[.box [.ptr 1 0 0,li c2,li c3,li c4,li c5,li c6,li c7,li c8,li c9,li c10,li c11,li c12,li c13,li c14, .lit (.bool c15)], .box [.sl 2 0 l2, .sl 3 0 l3,li c16,li c17,li c18,li c19, .lit (.bool c20), .lit (.bool c21), .sl 4 0 l4, .sl 5 0 l5, .lit (.bool c22), .lit (.bool c23)], .lst 1 c_2, .lst 1 c_3, .lst 1 c_4, .lst 5 c_5]=>some (N c0 c1 (bK.mk (aQ.mk c2 c3 c4 (aG.mk c5 c6 c7) c8) c9 c10 (aL.mk c11 c12 c13 c14 c15)) (aI.mk (aH.mk c_2 c_3 c16 c17 c18 c19 c20 c21) (bM.mk c_4 c_5) c22 c23),eC l2 (ln c_2)&&(eC l3 (ln c_3)&&(eC l4 (ln c_4)&&(eC l5 (ln c_5)&&(K c0 c1 (bK.mk (aQ.mk c2 c3 c4 (aG.mk c5 c6 c7) c8) c9 c10 (aL.mk c11 c12 c13 c14 c15)) (aI.mk (aH.mk c_2 c_3 c16 c17 c18 c19 c20 c21) (bM.mk c_4 c_5) c22 c23))))))
 |_,_=>none
theorem aJ9{N:Int→Int→bK→aI→SV×List Blk}{K:Int→Int→bK→aI→Bool}{f:Nat}(h: ∀(b:Int)(c:Int)(a:bK)(x0_fc:aI),K b c a x0_fc=true→dJ R f (cD8 b c a x0_fc) (cD9 b c a x0_fc)=some (N b c a x0_fc)):cK f (a3F N K):=fun args hp r e=>by
 unfold a3F at e;split at e
 ·rename_i c0 c1 c2 c3 c4 c5 c6 c7 c8 c9 c10 c11 c12 c13 c14 c15 l2 l3 c16 c17 c18 c19 c20 c21 l4 l5 c22 c23 c_2 c_3 c_4 c_5;obtain⟨hr,hk⟩:=qp (qi e);obtain⟨d0,hk0⟩:=bJ hk;obtain⟨d1,hk1⟩:=bJ hk0;obtain⟨d2,hk2⟩:=bJ hk1;obtain⟨d3,hk3⟩:=bJ hk2;obtain rfl:=of_decide_eq_true d0;obtain rfl:=of_decide_eq_true d1;obtain rfl:=of_decide_eq_true d2;obtain rfl:=of_decide_eq_true d3;rw[←hr];exact h c0 c1 (bK.mk (aQ.mk c2 c3 c4 (aG.mk c5 c6 c7) c8) c9 c10 (aL.mk c11 c12 c13 c14 c15)) (aI.mk (aH.mk c_2 c_3 c16 c17 c18 c19 c20 c21) (bM.mk c_4 c_5) c22 c23) hk3
 ·simp at e
section
variable(x0_fc:aI)
def aKA:Bool:=(((aO x0_fc true)&&(aO x0_fc true))&&true)
end
def a3G(b:Int)(c:Int)(a:bK)(x0_fc:aI):Pt (bK):=(.ok true (.br (eqI a.ffault.Vector 0) (.ok true (.ok (aKA x0_fc) (.leaf {a with ffault:=(aL.mk b c 0 a.fword false)}))) (.ok (aKA x0_fc) (.leaf a))))
def aKB(b:Int)(c:Int)(a:bK)(x0_fc:aI):bK:=hid (a3G b c a x0_fc).val
def aKC(b:Int)(c:Int)(a:bK)(x0_fc:aI):Bool:=hid (a3G b c a x0_fc).okv
def b3R(b:Int)(c:Int)(a:bK)(x0_fc:aI)(r:bK):SV×List Blk:=((.tup []),[.box [.ptr 1 0 0,li r.fx.Op,li r.fx.Size,li r.fx.Reg,li r.fx.Ea.Mode,li r.fx.Ea.Reg,li r.fx.Ea.Ext,li r.fx.Sub,li r.fpc,li r.fword,li r.ffault.Vector,li r.ffault.PC,li r.ffault.Addr,li r.ffault.Word, .lit (.bool r.ffault.Write)], .box [.sl 2 0 (ln x0_fc.R.D), .sl 3 0 (ln x0_fc.R.A),li x0_fc.R.Other,li x0_fc.R.PC,li x0_fc.R.Flags,li x0_fc.R.Mask, .lit (.bool x0_fc.R.Super), .lit (.bool x0_fc.R.Trace), .sl 4 0 (ln x0_fc.Bus.Bytes), .sl 5 0 (ln x0_fc.Bus.Log), .lit (.bool x0_fc.Stop), .lit (.bool x0_fc.Halt)], .lst 1 x0_fc.R.D, .lst 1 x0_fc.R.A, .lst 1 x0_fc.Bus.Bytes, .lst 5 x0_fc.Bus.Log])
def q237:=a3F (fun b c a x0_fc=>b3R b c a x0_fc (aKB b c a x0_fc)) aKC
theorem cEA:cK 50237 q237:=aJ9 fun b c a x0_fc hk=>tck bZ8 aP9 [(10,K0),(18,K0)] [] true (a3G b c a x0_fc) (b3R b c a x0_fc) hk
def Q237:=aZ 50237 q237 Q236
theorem aQA:QO Q237:=aF cEA aP9
def cEB(a:bK)(x0_fc:aI):List SV:=[(.one (.ptr 0 0 0))]
def cEC(a:bK)(x0_fc:aI):List Blk:=[.box [.ptr 1 0 0,li a.fx.Op,li a.fx.Size,li a.fx.Reg,li a.fx.Ea.Mode,li a.fx.Ea.Reg,li a.fx.Ea.Ext,li a.fx.Sub,li a.fpc,li a.fword,li a.ffault.Vector,li a.ffault.PC,li a.ffault.Addr,li a.ffault.Word, .lit (.bool a.ffault.Write)], .box [.sl 2 0 (ln x0_fc.R.D), .sl 3 0 (ln x0_fc.R.A),li x0_fc.R.Other,li x0_fc.R.PC,li x0_fc.R.Flags,li x0_fc.R.Mask, .lit (.bool x0_fc.R.Super), .lit (.bool x0_fc.R.Trace), .sl 4 0 (ln x0_fc.Bus.Bytes), .sl 5 0 (ln x0_fc.Bus.Log), .lit (.bool x0_fc.Stop), .lit (.bool x0_fc.Halt)], .lst 1 x0_fc.R.D, .lst 1 x0_fc.R.A, .lst 1 x0_fc.Bus.Bytes, .lst 5 x0_fc.Bus.Log]
def MF(N:bK→aI→SV×List Blk)(K:bK→aI→Bool):List SV→List Blk→Option ((SV×List Blk)×Bool)
 |[(.one (.ptr 0 0 0))],[.box [.ptr 1 0 0,li c0,li c1,li c2,li c3,li c4,li c5,li c6,li c7,li c8,li c9,li c10,li c11,li c12, .lit (.bool c13)], .box [.sl 2 0 l2, .sl 3 0 l3,li c14,li c15,li c16,li c17, .lit (.bool c18), .lit (.bool c19), .sl 4 0 l4, .sl 5 0 l5, .lit (.bool c20), .lit (.bool c21)], .lst 1 c_2, .lst 1 c_3, .lst 1 c_4, .lst 5 c_5]=>some (N (bK.mk (aQ.mk c0 c1 c2 (aG.mk c3 c4 c5) c6) c7 c8 (aL.mk c9 c10 c11 c12 c13)) (aI.mk (aH.mk c_2 c_3 c14 c15 c16 c17 c18 c19) (bM.mk c_4 c_5) c20 c21),eC l2 (ln c_2)&&(eC l3 (ln c_3)&&(eC l4 (ln c_4)&&(eC l5 (ln c_5)&&(K (bK.mk (aQ.mk c0 c1 c2 (aG.mk c3 c4 c5) c6) c7 c8 (aL.mk c9 c10 c11 c12 c13)) (aI.mk (aH.mk c_2 c_3 c14 c15 c16 c17 c18 c19) (bM.mk c_4 c_5) c20 c21))))))
 |_,_=>none
theorem v8{N:bK→aI→SV×List Blk}{K:bK→aI→Bool}{f:Nat}(h: ∀(a:bK)(x0_fc:aI),K a x0_fc=true→dJ R f (cEB a x0_fc) (cEC a x0_fc)=some (N a x0_fc)):cK f (MF N K):=fun args hp r e=>by
 unfold MF at e;split at e
 ·rename_i c0 c1 c2 c3 c4 c5 c6 c7 c8 c9 c10 c11 c12 c13 l2 l3 c14 c15 c16 c17 c18 c19 l4 l5 c20 c21 c_2 c_3 c_4 c_5;obtain⟨hr,hk⟩:=qp (qi e);obtain⟨d0,hk0⟩:=bJ hk;obtain⟨d1,hk1⟩:=bJ hk0;obtain⟨d2,hk2⟩:=bJ hk1;obtain⟨d3,hk3⟩:=bJ hk2;obtain rfl:=of_decide_eq_true d0;obtain rfl:=of_decide_eq_true d1;obtain rfl:=of_decide_eq_true d2;obtain rfl:=of_decide_eq_true d3;rw[←hr];exact h (bK.mk (aQ.mk c0 c1 c2 (aG.mk c3 c4 c5) c6) c7 c8 (aL.mk c9 c10 c11 c12 c13)) (aI.mk (aH.mk c_2 c_3 c14 c15 c16 c17 c18 c19) (bM.mk c_4 c_5) c20 c21) hk3
 ·simp at e
section
variable(a:bK)
def aKD:Bool:=(((bD0 a.fx)&&((qQ (0+(ln (SO a.fx))) (ln (SO a.fx)))&&true))&&true)
def aKE:Int:=(bH (bE a.fpc (dH 2 (cA (SO a.fx)))) 65535)
end
def a3H(a:bK)(x0_fc:aI):Pt (Int):=(.ok true (.ok ((aKD a)&&((aKD a)&&(((s1 (aKE a))&&true)&&((uZ a true)&&((jC x0_fc true)&&(lG x0_fc ((r1 (SO a.fx))&&true))))))) (.ok (((aO x0_fc true)&&(aO x0_fc true))&&true) (.leaf (aKE a)))))
def aFJ(a:bK)(x0_fc:aI):Int:=hid (a3H a x0_fc).val
def aWE(a:bK)(x0_fc:aI):Bool:=hid (a3H a x0_fc).okv
def b3S(a:bK)(x0_fc:aI)(r:Int):SV×List Blk:=((.one (li r)),[.box [.ptr 1 0 0,li a.fx.Op,li a.fx.Size,li a.fx.Reg,li a.fx.Ea.Mode,li a.fx.Ea.Reg,li a.fx.Ea.Ext,li a.fx.Sub,li a.fpc,li a.fword,li a.ffault.Vector,li a.ffault.PC,li a.ffault.Addr,li a.ffault.Word, .lit (.bool a.ffault.Write)], .box [.sl 2 0 (ln x0_fc.R.D), .sl 3 0 (ln x0_fc.R.A),li x0_fc.R.Other,li x0_fc.R.PC,li x0_fc.R.Flags,li x0_fc.R.Mask, .lit (.bool x0_fc.R.Super), .lit (.bool x0_fc.R.Trace), .sl 4 0 (ln x0_fc.Bus.Bytes), .sl 5 0 (ln x0_fc.Bus.Log), .lit (.bool x0_fc.Stop), .lit (.bool x0_fc.Halt)], .lst 1 x0_fc.R.D, .lst 1 x0_fc.R.A, .lst 1 x0_fc.Bus.Bytes, .lst 5 x0_fc.Bus.Log])
def q238:=MF (fun a x0_fc=>b3S a x0_fc (aFJ a x0_fc)) aWE
theorem cED:cK 238 q238:=v8 fun a x0_fc hk=>tc bZ9 aQA [(6,K0),(10,K5)] [] true (a3H a x0_fc) (b3S a x0_fc) hk
def Q238:=aZ 238 q238 Q237
theorem aQB:QO Q238:=aF cED aQA
def cEE(b:Int)(a:bK)(x0_fc:aI):List SV:=[(.one (.ptr 0 0 0)),(.one (li b))]
def cEF(b:Int)(a:bK)(x0_fc:aI):List Blk:=[.box [.ptr 1 0 0,li a.fx.Op,li a.fx.Size,li a.fx.Reg,li a.fx.Ea.Mode,li a.fx.Ea.Reg,li a.fx.Ea.Ext,li a.fx.Sub,li a.fpc,li a.fword,li a.ffault.Vector,li a.ffault.PC,li a.ffault.Addr,li a.ffault.Word, .lit (.bool a.ffault.Write)], .box [.sl 2 0 (ln x0_fc.R.D), .sl 3 0 (ln x0_fc.R.A),li x0_fc.R.Other,li x0_fc.R.PC,li x0_fc.R.Flags,li x0_fc.R.Mask, .lit (.bool x0_fc.R.Super), .lit (.bool x0_fc.R.Trace), .sl 4 0 (ln x0_fc.Bus.Bytes), .sl 5 0 (ln x0_fc.Bus.Log), .lit (.bool x0_fc.Stop), .lit (.bool x0_fc.Halt)], .lst 1 x0_fc.R.D, .lst 1 x0_fc.R.A, .lst 1 x0_fc.Bus.Bytes, .lst 5 x0_fc.Bus.Log]
def aKF(N:Int→bK→aI→SV×List Blk)(K:Int→bK→aI→Bool):List SV→List Blk→Option ((SV×List Blk)×Bool)
 |[(.one (.ptr 0 0 0)),(.one (li c0))],[.box [.ptr 1 0 0,li c1,li c2,li c3,li c4,li c5,li c6,li c7,li c8,li c9,li c10,li c11,li c12,li c13, .lit (.bool c14)], .box [.sl 2 0 l2, .sl 3 0 l3,li c15,li c16,li c17,li c18, .lit (.bool c19), .lit (.bool c20), .sl 4 0 l4, .sl 5 0 l5, .lit (.bool c21), .lit (.bool c22)], .lst 1 c_2, .lst 1 c_3, .lst 1 c_4, .lst 5 c_5]=>some (N c0 (bK.mk (aQ.mk c1 c2 c3 (aG.mk c4 c5 c6) c7) c8 c9 (aL.mk c10 c11 c12 c13 c14)) (aI.mk (aH.mk c_2 c_3 c15 c16 c17 c18 c19 c20) (bM.mk c_4 c_5) c21 c22),eC l2 (ln c_2)&&(eC l3 (ln c_3)&&(eC l4 (ln c_4)&&(eC l5 (ln c_5)&&(K c0 (bK.mk (aQ.mk c1 c2 c3 (aG.mk c4 c5 c6) c7) c8 c9 (aL.mk c10 c11 c12 c13 c14)) (aI.mk (aH.mk c_2 c_3 c15 c16 c17 c18 c19 c20) (bM.mk c_4 c_5) c21 c22))))))
 |_,_=>none
theorem SQ{N:Int→bK→aI→SV×List Blk}{K:Int→bK→aI→Bool}{f:Nat}(h: ∀(b:Int)(a:bK)(x0_fc:aI),K b a x0_fc=true→dJ R f (cEE b a x0_fc) (cEF b a x0_fc)=some (N b a x0_fc)):cK f (aKF N K):=fun args hp r e=>by
 unfold aKF at e;split at e
 ·rename_i c0 c1 c2 c3 c4 c5 c6 c7 c8 c9 c10 c11 c12 c13 c14 l2 l3 c15 c16 c17 c18 c19 c20 l4 l5 c21 c22 c_2 c_3 c_4 c_5;obtain⟨hr,hk⟩:=qp (qi e);obtain⟨d0,hk0⟩:=bJ hk;obtain⟨d1,hk1⟩:=bJ hk0;obtain⟨d2,hk2⟩:=bJ hk1;obtain⟨d3,hk3⟩:=bJ hk2;obtain rfl:=of_decide_eq_true d0;obtain rfl:=of_decide_eq_true d1;obtain rfl:=of_decide_eq_true d2;obtain rfl:=of_decide_eq_true d3;rw[←hr];exact h c0 (bK.mk (aQ.mk c1 c2 c3 (aG.mk c4 c5 c6) c7) c8 c9 (aL.mk c10 c11 c12 c13 c14)) (aI.mk (aH.mk c_2 c_3 c15 c16 c17 c18 c19 c20) (bM.mk c_4 c_5) c21 c22) hk3
 ·simp at e
def a3I(b:Int)(a:bK)(x0_fc:aI):Pt (Int):=(.ok true (.ok (((leI 0 b)&&(ltI b (cA x0_fc.R.D)))&&((dU [.int .i64] x0_fc.R.D (0+(iN b)) 0)&&((C4 a.fx.Size)&&true))) (.ok (((aO x0_fc true)&&(aO x0_fc true))&&true) (.leaf (bH (bQ x0_fc.R.D (0+(iN b)) 0) (cN (pM a.fx.Size) 1))))))
def aFK(b:Int)(a:bK)(x0_fc:aI):Int:=hid (a3I b a x0_fc).val
def aFL(b:Int)(a:bK)(x0_fc:aI):Bool:=hid (a3I b a x0_fc).okv
def b3T(b:Int)(a:bK)(x0_fc:aI)(r:Int):SV×List Blk:=((.one (li r)),[.box [.ptr 1 0 0,li a.fx.Op,li a.fx.Size,li a.fx.Reg,li a.fx.Ea.Mode,li a.fx.Ea.Reg,li a.fx.Ea.Ext,li a.fx.Sub,li a.fpc,li a.fword,li a.ffault.Vector,li a.ffault.PC,li a.ffault.Addr,li a.ffault.Word, .lit (.bool a.ffault.Write)], .box [.sl 2 0 (ln x0_fc.R.D), .sl 3 0 (ln x0_fc.R.A),li x0_fc.R.Other,li x0_fc.R.PC,li x0_fc.R.Flags,li x0_fc.R.Mask, .lit (.bool x0_fc.R.Super), .lit (.bool x0_fc.R.Trace), .sl 4 0 (ln x0_fc.Bus.Bytes), .sl 5 0 (ln x0_fc.Bus.Log), .lit (.bool x0_fc.Stop), .lit (.bool x0_fc.Halt)], .lst 1 x0_fc.R.D, .lst 1 x0_fc.R.A, .lst 1 x0_fc.Bus.Bytes, .lst 5 x0_fc.Bus.Log])
def q269:=aKF (fun b a x0_fc=>b3T b a x0_fc (aFK b a x0_fc)) aFL
theorem cEG:cK 50269 q269:=SQ fun b a x0_fc hk=>tck b04 aQB [(12,K1),(14,K0),(15,K0),(20,K0)] [] true (a3I b a x0_fc) (b3T b a x0_fc) hk
def Q269:=aZ 50269 q269 Q238
theorem aQC:QO Q269:=aF cEG aQB
def cEH(b:Int)(c:aG)(a:aH):List SV:=[(.one (.ptr 0 0 0)),(.one (li b)),(.agg [li c.Mode,li c.Reg,li c.Ext])]
def cEI(b:Int)(c:aG)(a:aH):List Blk:=[.box [.sl 1 0 (ln a.D), .sl 2 0 (ln a.A),li a.Other,li a.PC,li a.Flags,li a.Mask, .lit (.bool a.Super), .lit (.bool a.Trace)], .lst 1 a.D, .lst 1 a.A]
def bL8(N:Int→aG→aH→SV×List Blk)(K:Int→aG→aH→Bool):List SV→List Blk→Option ((SV×List Blk)×Bool)
 |[(.one (.ptr 0 0 0)),(.one (li c0)),(.agg [li c1,li c2,li c3])],[.box [.sl 1 0 l1, .sl 2 0 l2,li c4,li c5,li c6,li c7, .lit (.bool c8), .lit (.bool c9)], .lst 1 c_1, .lst 1 c_2]=>some (N c0 (aG.mk c1 c2 c3) (aH.mk c_1 c_2 c4 c5 c6 c7 c8 c9),eC l1 (ln c_1)&&(eC l2 (ln c_2)&&(K c0 (aG.mk c1 c2 c3) (aH.mk c_1 c_2 c4 c5 c6 c7 c8 c9))))
 |_,_=>none
theorem bL9{N:Int→aG→aH→SV×List Blk}{K:Int→aG→aH→Bool}{f:Nat}(h: ∀(b:Int)(c:aG)(a:aH),K b c a=true→dJ R f (cEH b c a) (cEI b c a)=some (N b c a)):cK f (bL8 N K):=fun args hp r e=>by
 unfold bL8 at e;split at e
 ·rename_i c0 c1 c2 c3 l1 l2 c4 c5 c6 c7 c8 c9 c_1 c_2;obtain⟨hr,hk⟩:=qp (qi e);obtain⟨d0,hk0⟩:=bJ hk;obtain⟨d1,hk1⟩:=bJ hk0;obtain rfl:=of_decide_eq_true d0;obtain rfl:=of_decide_eq_true d1;rw[←hr];exact h c0 (aG.mk c1 c2 c3) (aH.mk c_1 c_2 c4 c5 c6 c7 c8 c9) hk1
 ·simp at e
section
variable(b:Int)(c:aG)(a:aH)
def SR:Bool:=((leI 0 c.Reg)&&(ltI c.Reg (cA a.A)))
def aKG:Bool:=(dU [.int .i64] a.A (0+(iN c.Reg)) 0)
def aBC:Bool:=((SR c a)&&((aKG c a)&&true))
def aBD:Bool:=(dd (aP a true) ((aP a true)&&true))
def aKH:Bool:=((SR c a)&&(((blt (0+(iN c.Reg)) (ln a.A))&&(jW (jX a.A (0+(iN c.Reg))) 1))&&true))
def aKI:List Row:=(List.set a.A (0+(iN c.Reg)) (bB (bH (bE (bQ a.A (0+(iN c.Reg)) 0) (bif (eqI c.Reg 3)then 2 else b)) 65535)))
def aKJ:Bool:=((e1 (ln a.D))&&((eC (ln a.A) (ln (aKI b c a)))&&true))
def SS:List Row:=(List.set a.A (0+(iN c.Reg)) (bB (bH (cN (bQ a.A (0+(iN c.Reg)) 0) (bif (eqI c.Reg 3)then 2 else b)) 65535)))
def aKK:Bool:=((e1 (ln a.D))&&((eC (ln a.A) (ln (SS b c a)))&&true))
end
def a3J(b:Int)(c:aG)(a:aH):Pt (aH×Int):=(.ok true (.ok true (.ok true (.ok true (.ok true (.ok true (.br (eqI c.Mode 2) (.ok (aBC c a) (.ok (aBD a) (.leaf (a,(bQ a.A (0+(iN c.Reg)) 0))))) (.ok true (.br (eqI c.Mode 3) (.ok (aBC c a) (.ok ((aKH c a)&&true) (.ok true (.ok ((((aP a true)&&(aKJ b c a))&&true)&&((aKJ b c a)&&true)) (.leaf ({a with A:=(aKI b c a)},(bQ a.A (0+(iN c.Reg)) 0))))))) (.ok true (.br (eqI c.Mode 4) (.ok (((SR c a)&&((aKG c a)&&(aKH c a)))&&true) (.ok ((SR c a)&&((dU [.int .i64] (SS b c a) (0+(iN c.Reg)) 0)&&true)) (.ok ((((aP a true)&&(aKK b c a))&&true)&&((aKK b c a)&&true)) (.leaf ({a with A:=(SS b c a)},(bQ (SS b c a) (0+(iN c.Reg)) 0)))))) (.ok true (.br (eqI c.Mode 5) (.ok (aBC c a) (.ok (aBD a) (.leaf (a,(bH (bE (bQ a.A (0+(iN c.Reg)) 0) c.Ext) 65535))))) (.ok true (.ok (aBD a) (.leaf (a,c.Ext)))))))))))))))))
def aKL(b:Int)(c:aG)(a:aH):aH×Int:=hid (a3J b c a).val
def aKM(b:Int)(c:aG)(a:aH):Bool:=hid (a3J b c a).okv
def b3U(b:Int)(c:aG)(a:aH)(r:aH×Int):SV×List Blk:=((.one (li r.2)),[.box [.sl 1 0 (ln r.1.D), .sl 2 0 (ln r.1.A),li r.1.Other,li r.1.PC,li r.1.Flags,li r.1.Mask, .lit (.bool r.1.Super), .lit (.bool r.1.Trace)], .lst 1 r.1.D, .lst 1 r.1.A])
def q266:=bL8 (fun b c a=>b3U b c a (aKL b c a)) aKM
theorem cEJ:cK 50266 q266:=bL9 fun b c a hk=>tck b01 aQC [(11,K0),(14,K0),(20,K1),(22,K0),(23,K0),(24,K0),(30,K1),(32,K0),(33,K0),(34,K0),(38,K1),(40,K0),(45,K0),(52,K1),(54,K0),(58,K1),(60,K0),(61,K0),(62,K0),(66,K0),(70,K1),(72,K0),(73,K0),(74,K0),(80,K1),(82,K0),(83,K0),(84,K0),(86,K0),(90,K0),(1000001,[])] [] true (a3J b c a) (b3U b c a) hk
def Q266:=aZ 50266 q266 Q269
theorem aQD:QO Q266:=aF cEJ aQC
def cEK(b:Int)(c:Int)(d:Bool)(a:bK)(x0_fc:aI):List SV:=[(.one (.ptr 0 0 0)),(.one (li b)),(.one (li c)),(.one (.lit (.bool d)))]
def cEL(b:Int)(c:Int)(d:Bool)(a:bK)(x0_fc:aI):List Blk:=[.box [.ptr 1 0 0,li a.fx.Op,li a.fx.Size,li a.fx.Reg,li a.fx.Ea.Mode,li a.fx.Ea.Reg,li a.fx.Ea.Ext,li a.fx.Sub,li a.fpc,li a.fword,li a.ffault.Vector,li a.ffault.PC,li a.ffault.Addr,li a.ffault.Word, .lit (.bool a.ffault.Write)], .box [.sl 2 0 (ln x0_fc.R.D), .sl 3 0 (ln x0_fc.R.A),li x0_fc.R.Other,li x0_fc.R.PC,li x0_fc.R.Flags,li x0_fc.R.Mask, .lit (.bool x0_fc.R.Super), .lit (.bool x0_fc.R.Trace), .sl 4 0 (ln x0_fc.Bus.Bytes), .sl 5 0 (ln x0_fc.Bus.Log), .lit (.bool x0_fc.Stop), .lit (.bool x0_fc.Halt)], .lst 1 x0_fc.R.D, .lst 1 x0_fc.R.A, .lst 1 x0_fc.Bus.Bytes, .lst 5 x0_fc.Bus.Log]
def bMA(N:Int→Int→Bool→bK→aI→SV×List Blk)(K:Int→Int→Bool→bK→aI→Bool):List SV→List Blk→Option ((SV×List Blk)×Bool)
 |[(.one (.ptr 0 0 0)),(.one (li c0)),(.one (li c1)),(.one (.lit (.bool c2)))],[.box [.ptr 1 0 0,li c3,li c4,li c5,li c6,li c7,li c8,li c9,li c10,li c11,li c12,li c13,li c14,li c15, .lit (.bool c16)], .box [.sl 2 0 l2, .sl 3 0 l3,li c17,li c18,li c19,li c20, .lit (.bool c21), .lit (.bool c22), .sl 4 0 l4, .sl 5 0 l5, .lit (.bool c23), .lit (.bool c24)], .lst 1 c_2, .lst 1 c_3, .lst 1 c_4, .lst 5 c_5]=>some (N c0 c1 c2 (bK.mk (aQ.mk c3 c4 c5 (aG.mk c6 c7 c8) c9) c10 c11 (aL.mk c12 c13 c14 c15 c16)) (aI.mk (aH.mk c_2 c_3 c17 c18 c19 c20 c21 c22) (bM.mk c_4 c_5) c23 c24),eC l2 (ln c_2)&&(eC l3 (ln c_3)&&(eC l4 (ln c_4)&&(eC l5 (ln c_5)&&(K c0 c1 c2 (bK.mk (aQ.mk c3 c4 c5 (aG.mk c6 c7 c8) c9) c10 c11 (aL.mk c12 c13 c14 c15 c16)) (aI.mk (aH.mk c_2 c_3 c17 c18 c19 c20 c21 c22) (bM.mk c_4 c_5) c23 c24))))))
 |_,_=>none
theorem bMB{N:Int→Int→Bool→bK→aI→SV×List Blk}{K:Int→Int→Bool→bK→aI→Bool}{f:Nat}(h: ∀(b:Int)(c:Int)(d:Bool)(a:bK)(x0_fc:aI),K b c d a x0_fc=true→dJ R f (cEK b c d a x0_fc) (cEL b c d a x0_fc)=some (N b c d a x0_fc)):cK f (bMA N K):=fun args hp r e=>by
 unfold bMA at e;split at e
 ·rename_i c0 c1 c2 c3 c4 c5 c6 c7 c8 c9 c10 c11 c12 c13 c14 c15 c16 l2 l3 c17 c18 c19 c20 c21 c22 l4 l5 c23 c24 c_2 c_3 c_4 c_5;obtain⟨hr,hk⟩:=qp (qi e);obtain⟨d0,hk0⟩:=bJ hk;obtain⟨d1,hk1⟩:=bJ hk0;obtain⟨d2,hk2⟩:=bJ hk1;obtain⟨d3,hk3⟩:=bJ hk2;obtain rfl:=of_decide_eq_true d0;obtain rfl:=of_decide_eq_true d1;obtain rfl:=of_decide_eq_true d2;obtain rfl:=of_decide_eq_true d3;rw[←hr];exact h c0 c1 c2 (bK.mk (aQ.mk c3 c4 c5 (aG.mk c6 c7 c8) c9) c10 c11 (aL.mk c12 c13 c14 c15 c16)) (aI.mk (aH.mk c_2 c_3 c17 c18 c19 c20 c21 c22) (bM.mk c_4 c_5) c23 c24) hk3
 ·simp at e
section
variable(b:Int)(a:bK)(x0_fc:aI)
def aKN:Bool:=(((aO x0_fc true)&&(aO x0_fc true))&&true)
def aKO:bK:=(aKB (aWA b) a.fpc a x0_fc)
end
def a3K(b:Int)(c:Int)(d:Bool)(a:bK)(x0_fc:aI):Pt (bK):=(.ok true (.br (bif (eqI b 0)then true else(dC a.ffault.Vector 0)) (.ok (aKN x0_fc) (.leaf a)) (.ok (((a2W b)&&((cH x0_fc (aKC (aWA b) a.fpc a x0_fc))&&true))&&true) (.ok true (.ok (aKN x0_fc) (.leaf {(aKO b a x0_fc)with ffault:={(aKO b a x0_fc).ffault with Addr:=c,Write:=d}}))))))
def aWF(b:Int)(c:Int)(d:Bool)(a:bK)(x0_fc:aI):bK:=hid (a3K b c d a x0_fc).val
def aWG(b:Int)(c:Int)(d:Bool)(a:bK)(x0_fc:aI):Bool:=hid (a3K b c d a x0_fc).okv
def b3V(b:Int)(c:Int)(d:Bool)(a:bK)(x0_fc:aI)(r:bK):SV×List Blk:=((.tup []),[.box [.ptr 1 0 0,li r.fx.Op,li r.fx.Size,li r.fx.Reg,li r.fx.Ea.Mode,li r.fx.Ea.Reg,li r.fx.Ea.Ext,li r.fx.Sub,li r.fpc,li r.fword,li r.ffault.Vector,li r.ffault.PC,li r.ffault.Addr,li r.ffault.Word, .lit (.bool r.ffault.Write)], .box [.sl 2 0 (ln x0_fc.R.D), .sl 3 0 (ln x0_fc.R.A),li x0_fc.R.Other,li x0_fc.R.PC,li x0_fc.R.Flags,li x0_fc.R.Mask, .lit (.bool x0_fc.R.Super), .lit (.bool x0_fc.R.Trace), .sl 4 0 (ln x0_fc.Bus.Bytes), .sl 5 0 (ln x0_fc.Bus.Log), .lit (.bool x0_fc.Stop), .lit (.bool x0_fc.Halt)], .lst 1 x0_fc.R.D, .lst 1 x0_fc.R.A, .lst 1 x0_fc.Bus.Bytes, .lst 5 x0_fc.Bus.Log])
def q300:=bMA (fun b c d a x0_fc=>b3V b c d a x0_fc (aWF b c d a x0_fc)) aWG
theorem cEM:cK 50300 q300:=bMB fun b c d a x0_fc hk=>tck b1Z aQD [(15,K0),(24,K0)] [] true (a3K b c d a x0_fc) (b3V b c d a x0_fc) hk
def Q300:=aZ 50300 q300 Q266
theorem aQE:QO Q300:=aF cEM aQD
end
end Go.Proofs.YtdipcnijfkdnfaaGreatIrqs
