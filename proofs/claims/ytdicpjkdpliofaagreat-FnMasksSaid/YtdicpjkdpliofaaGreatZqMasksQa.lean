import Derived.Test.YtdicpjkdpliofaaGreatZqTabMasks
import Derived.Test.YtdicpjkdpliofaaGreatZmc
import Derived.KernelRfl
import Derived.Test.YtdicpjkdpliofaaGreatZqMasksR
set_option linter.unusedVariables false
set_option linter.unusedSimpArgs false
namespace Go.Proofs.YtdicpjkdpliofaaGreatMasks
open Option.some renaming inj → qi
open Prod.mk renaming inj → qp
open Int renaming toNat → iN
open Go Go.Zq
open List renaming length→ln
set_option maxRecDepth 100000
set_option maxHeartbeats 4000000
noncomputable section
structure aI where
 mk::
 (fcode:List Row)
 (fat:Int)
 (fseed:Int)
def aI.row(x:aI):Row:=[.imm true 1 x.fcode, .lit (.int .i64 x.fat), .lit (.int .u64 x.fseed)]
def aI.at(r:List Row)(j i:Nat):aI:=⟨pF r j i,bD r j (i+1),bD r j (i+2)⟩
structure aB where
 mk::
 (Mode:Int)
 (Reg:Int)
 (Ext:Int)
def aB.row(x:aB):Row:=[.lit (.int .i64 x.Mode), .lit (.int .i64 x.Reg), .lit (.int .i64 x.Ext)]
def aB.at(r:List Row)(j i:Nat):aB:=⟨bD r j i,bD r j (i+1),bD r j (i+2)⟩
structure aF where
 mk::
 (Op:Int)
 (Size:Int)
 (Reg:Int)
 (Ea:aB)
 (Sub:Int)
def aF.row(x:aF):Row:=[.lit (.int .i64 x.Op), .lit (.int .i64 x.Size), .lit (.int .i64 x.Reg), .lit (.int .i64 x.Ea.Mode), .lit (.int .i64 x.Ea.Reg), .lit (.int .i64 x.Ea.Ext), .lit (.int .i64 x.Sub)]
def aF.at(r:List Row)(j i:Nat):aF:=⟨bD r j i,bD r j (i+1),bD r j (i+2),⟨bD r j (i+3),bD r j (i+4),bD r j (i+5)⟩,bD r j (i+6)⟩
structure aG where
 mk::
 (D:List Row)
 (A:List Row)
 (Other:Int)
 (PC:Int)
 (Flags:Int)
 (Mask:Int)
 (Super:Bool)
 (Trace:Bool)
def aG.row(x:aG):Row:=[.imm true 1 x.D, .imm true 1 x.A, .lit (.int .i64 x.Other), .lit (.int .i64 x.PC), .lit (.int .i64 x.Flags), .lit (.int .i64 x.Mask), .lit (.bool x.Super), .lit (.bool x.Trace)]
def aG.at(r:List Row)(j i:Nat):aG:=⟨pF r j i,pF r j (i+1),bD r j (i+2),bD r j (i+3),bD r j (i+4),bD r j (i+5),rJ r j (i+6),rJ r j (i+7)⟩
structure bG where
 mk::
 (Bytes:List Row)
 (Log:List Row)
def bG.row(x:bG):Row:=[.imm true 1 x.Bytes, .imm true 5 x.Log]
def bG.at(r:List Row)(j i:Nat):bG:=⟨pF r j i,pF r j (i+1)⟩
structure aH where
 mk::
 (R:aG)
 (Bus:bG)
 (Stop:Bool)
 (Halt:Bool)
def aH.row(x:aH):Row:=[.imm true 1 x.R.D, .imm true 1 x.R.A, .lit (.int .i64 x.R.Other), .lit (.int .i64 x.R.PC), .lit (.int .i64 x.R.Flags), .lit (.int .i64 x.R.Mask), .lit (.bool x.R.Super), .lit (.bool x.R.Trace), .imm true 1 x.Bus.Bytes, .imm true 5 x.Bus.Log, .lit (.bool x.Stop), .lit (.bool x.Halt)]
def aH.at(r:List Row)(j i:Nat):aH:=⟨⟨pF r j i,pF r j (i+1),bD r j (i+2),bD r j (i+3),bD r j (i+4),bD r j (i+5),rJ r j (i+6),rJ r j (i+7)⟩,⟨pF r j (i+8),pF r j (i+9)⟩,rJ r j (i+10),rJ r j (i+11)⟩
structure aA where
 mk::
 (Kind:Int)
 (Size:Int)
 (Addr:Int)
 (Value:Int)
 (Code:Int)
def aA.row(x:aA):Row:=[.lit (.int .i64 x.Kind), .lit (.int .i64 x.Size), .lit (.int .i64 x.Addr), .lit (.int .i64 x.Value), .lit (.int .i64 x.Code)]
def aA.at(r:List Row)(j i:Nat):aA:=⟨bD r j i,bD r j (i+1),bD r j (i+2),bD r j (i+3),bD r j (i+4)⟩
structure bO where
 mk::
 (Vector:Int)
 (PC:Int)
 (Addr:Int)
 (Word:Int)
 (Write:Bool)
def bO.row(x:bO):Row:=[.lit (.int .i64 x.Vector), .lit (.int .i64 x.PC), .lit (.int .i64 x.Addr), .lit (.int .i64 x.Word), .lit (.bool x.Write)]
def bO.at(r:List Row)(j i:Nat):bO:=⟨bD r j i,bD r j (i+1),bD r j (i+2),bD r j (i+3),rJ r j (i+4)⟩
structure aX where
 mk::
 (fx:aF)
 (fpc:Int)
 (fword:Int)
 (ffault:bO)
structure aL where
 mk::
 (fr:aG)
 (fbus:bG)
 (fstop:Bool)
 (ffault:bO)
def aL.row(x:aL):Row:=[.imm true 1 x.fr.D, .imm true 1 x.fr.A, .lit (.int .i64 x.fr.Other), .lit (.int .i64 x.fr.PC), .lit (.int .i64 x.fr.Flags), .lit (.int .i64 x.fr.Mask), .lit (.bool x.fr.Super), .lit (.bool x.fr.Trace), .imm true 1 x.fbus.Bytes, .imm true 5 x.fbus.Log, .lit (.bool x.fstop), .lit (.int .i64 x.ffault.Vector), .lit (.int .i64 x.ffault.PC), .lit (.int .i64 x.ffault.Addr), .lit (.int .i64 x.ffault.Word), .lit (.bool x.ffault.Write)]
def aL.at(r:List Row)(j i:Nat):aL:=⟨⟨pF r j i,pF r j (i+1),bD r j (i+2),bD r j (i+3),bD r j (i+4),bD r j (i+5),rJ r j (i+6),rJ r j (i+7)⟩,⟨pF r j (i+8),pF r j (i+9)⟩,rJ r j (i+10),⟨bD r j (i+11),bD r j (i+12),bD r j (i+13),bD r j (i+14),rJ r j (i+15)⟩⟩
def dd(t u:Bool):Bool:=(((t&&t)&&true)&&u)
theorem bR6(t u:Bool):dd t u=(t&&u):=by cases t<;>cases u<;>rfl
def rL(x:aF)(k:Bool):Bool:=((s1 x.Op)&&((s1 x.Size)&&((s1 x.Reg)&&((s1 x.Ea.Mode)&&((s1 x.Ea.Reg)&&((s1 x.Ea.Ext)&&((s1 x.Sub)&&k)))))))
theorem aVV(x:aF)(k:Bool):rL x k=k:=by simp[rL]
def rM(x:aB)(k:Bool):Bool:=((s1 x.Mode)&&((s1 x.Reg)&&((s1 x.Ext)&&k)))
theorem WX(x:aB)(k:Bool):rM x k=k:=by simp[rM]
def aK(x:aG)(k:Bool):Bool:=((e1 (ln x.D))&&((e1 (ln x.A))&&k))
theorem aRK(x:aG)(k:Bool):aK x k=k:=by simp[aK]
def iW(x:aG)(k:Bool):Bool:=(((aK x true&&aK x true)&&true)&&aK x k)
theorem aRL(x:aG)(k:Bool):iW x k=k:=by simp[iW,aK]
def jV(x:aG)(k:Bool):Bool:=((s1 (ln x.D))&&((s1 (ln x.A))&&((s1 x.Other)&&((s1 x.PC)&&((s1 x.Flags)&&((s1 x.Mask)&&((s1 x.Super)&&((s1 x.Trace)&&k))))))))
theorem aRM(x:aG)(k:Bool):jV x k=k:=by simp[jV]
def kH(x:aG)(k:Bool):Bool:=((r1 x.D)&&((r1 x.A)&&k))
theorem aRN(x:aG)(k:Bool):kH x k=k:=by simp[kH]
def bH(x:bG)(k:Bool):Bool:=((e1 (ln x.Bytes))&&((e1 (ln x.Log))&&k))
theorem aVW(x:bG)(k:Bool):bH x k=k:=by simp[bH]
def xK(x:bG)(k:Bool):Bool:=(((bH x true&&bH x true)&&true)&&bH x k)
theorem aVX(x:bG)(k:Bool):xK x k=k:=by simp[xK,bH]
def dP(x:bG)(k:Bool):Bool:=((s1 (ln x.Bytes))&&((s1 (ln x.Log))&&k))
theorem aVY(x:bG)(k:Bool):dP x k=k:=by simp[dP]
def dI(x:bG)(k:Bool):Bool:=((r1 x.Bytes)&&((r1 x.Log)&&k))
theorem aVZ(x:bG)(k:Bool):dI x k=k:=by simp[dI]
def aS(x:aH)(k:Bool):Bool:=((e1 (ln x.R.D))&&((e1 (ln x.R.A))&&((e1 (ln x.Bus.Bytes))&&((e1 (ln x.Bus.Log))&&k))))
theorem aV0(x:aH)(k:Bool):aS x k=k:=by simp[aS]
def bX(x:aH)(k:Bool):Bool:=(((aS x true&&aS x true)&&true)&&aS x k)
theorem aV1(x:aH)(k:Bool):bX x k=k:=by simp[bX,aS]
def pH(x:aH)(k:Bool):Bool:=((s1 (ln x.R.D))&&((s1 (ln x.R.A))&&((s1 x.R.Other)&&((s1 x.R.PC)&&((s1 x.R.Flags)&&((s1 x.R.Mask)&&((s1 x.R.Super)&&((s1 x.R.Trace)&&((s1 (ln x.Bus.Bytes))&&((s1 (ln x.Bus.Log))&&((s1 x.Stop)&&((s1 x.Halt)&&k))))))))))))
theorem aV2(x:aH)(k:Bool):pH x k=k:=by simp[pH]
def xL(x:aH)(k:Bool):Bool:=((r1 x.R.D)&&((r1 x.R.A)&&((r1 x.Bus.Bytes)&&((r1 x.Bus.Log)&&k))))
theorem aV3(x:aH)(k:Bool):xL x k=k:=by simp[xL]
def uI(x:aX)(k:Bool):Bool:=((s1 x.fx.Op)&&((s1 x.fx.Size)&&((s1 x.fx.Reg)&&((s1 x.fx.Ea.Mode)&&((s1 x.fx.Ea.Reg)&&((s1 x.fx.Ea.Ext)&&((s1 x.fx.Sub)&&((s1 x.fpc)&&((s1 x.fword)&&((s1 x.ffault.Vector)&&((s1 x.ffault.PC)&&((s1 x.ffault.Addr)&&((s1 x.ffault.Word)&&((s1 x.ffault.Write)&&k))))))))))))))
theorem aRO(x:aX)(k:Bool):uI x k=k:=by simp[uI]
def sW(x:bO)(k:Bool):Bool:=((s1 x.Vector)&&((s1 x.PC)&&((s1 x.Addr)&&((s1 x.Word)&&((s1 x.Write)&&k)))))
theorem aE1(x:bO)(k:Bool):sW x k=k:=by simp[sW]
def bM(x:aL)(k:Bool):Bool:=((e1 (ln x.fr.D))&&((e1 (ln x.fr.A))&&((e1 (ln x.fbus.Bytes))&&((e1 (ln x.fbus.Log))&&k))))
theorem aRP(x:aL)(k:Bool):bM x k=k:=by simp[bM]
def cM(x:aL)(k:Bool):Bool:=(((bM x true&&bM x true)&&true)&&bM x k)
theorem aRQ(x:aL)(k:Bool):cM x k=k:=by simp[cM,bM]
def IG(x:aL)(k:Bool):Bool:=((s1 (ln x.fr.D))&&((s1 (ln x.fr.A))&&((s1 x.fr.Other)&&((s1 x.fr.PC)&&((s1 x.fr.Flags)&&((s1 x.fr.Mask)&&((s1 x.fr.Super)&&((s1 x.fr.Trace)&&((s1 (ln x.fbus.Bytes))&&((s1 (ln x.fbus.Log))&&((s1 x.fstop)&&((s1 x.ffault.Vector)&&((s1 x.ffault.PC)&&((s1 x.ffault.Addr)&&((s1 x.ffault.Word)&&((s1 x.ffault.Write)&&k))))))))))))))))
theorem aRR(x:aL)(k:Bool):IG x k=k:=by simp[IG]
theorem wz:(∀t u,dd t u=(t&&u))∧(∀x k,rL x k=k)∧(∀x k,rM x k=k)∧(∀x k,aK x k=k)∧(∀x k,iW x k=k)∧(∀x k,jV x k=k)∧(∀x k,kH x k=k)∧(∀x k,bH x k=k)∧(∀x k,xK x k=k)∧(∀x k,dP x k=k)∧(∀x k,dI x k=k)∧(∀x k,aS x k=k)∧(∀x k,bX x k=k)∧(∀x k,pH x k=k)∧(∀x k,xL x k=k)∧(∀x k,uI x k=k)∧(∀x k,sW x k=k)∧(∀x k,bM x k=k)∧(∀x k,cM x k=k)∧(∀x k,IG x k=k):=⟨bR6,aVV,WX,aRK,aRL,aRM,aRN,aVW,aVX,aVY,aVZ,aV0,aV1,aV2,aV3,aRO,aE1,aRP,aRQ,aRR⟩
def AS0(a:aI):List SV:=[(.one (.ptr 0 0 0))]
def HS0(a:aI):List Blk:=[.box [.imm true 1 a.fcode,li a.fat, .lit (.int .u64 a.fseed)]]
def DS0(N:aI→SV×List Blk)(K:aI→Bool):List SV→List Blk→Option ((SV×List Blk)×Bool)
 |[(.one (.ptr 0 0 0))],[.box [.imm true 1 c0,li c1, .lit (.int .u64 c2)]]=>some (N (aI.mk c0 c1 c2),K (aI.mk c0 c1 c2))
 |_,_=>none
theorem MK{N:aI→SV×List Blk}{K:aI→Bool}{f:Nat}(h: ∀(a:aI),K a=true→dL R f (AS0 a) (HS0 a)=some (N a)):cG f (DS0 N K):=fun _ _ _ e=>by
 unfold DS0 at e;split at e
 ·exact BT e (h _)
 ·cases e
section
variable(a:aI)
def PI:Int:=(bif (ltI a.fat (bL a.fcode))then(vB .i64 (bD a.fcode (iN a.fat) 0))else 0)
def aE2:Int:=(bL3 .u64 (bL3 .u64 (bR3 .u64 a.fseed 6364136223846793005) (vB .u64 (PI a))) 1442695040888963407)
end
def aV4(a:aI):Pt (aI×Int):=(ot (ot (ot (.ok ((((gN [.int .u8] a.fcode a.fat)&&true)||(!(ltI a.fat (bL a.fcode))))&&true) (ot (ot (ot (.br (leI (aV a.fat 1) (bL a.fcode)) (ot (ot (.leaf ((aI.mk a.fcode (aV a.fat 1) (aE2 a)),(PI a))))) (ot (ot (.leaf ((aI.mk a.fcode (aV a.fat 1) (aE2 a)),(vB .i64 (a58 .u64 (aVQ .u64 (aE2 a) 40) 255))))))))))))))
def AY(a:aI):aI×Int:=hid (aV4 a).val
def a59(a:aI):Bool:=hid (aV4 a).okv
def bL9(a:aI)(r:aI×Int):SV×List Blk:=((.one (li r.2)),[.box [.imm true 1 r.1.fcode,li r.1.fat, .lit (.int .u64 r.1.fseed)]])
def q170:=DS0 (fun a=>bL9 a (AY a)) a59
theorem bR7:cG 170 q170:=MK fun a hk=>tc aKM (aV4 a) (bL9 a) hk
def Q170:=aT 170 q170 qnil
theorem aKR:QO Q170:=aC bR7 aKM
def AS1(b:Int)(a:aI):List SV:=[(.one (.ptr 0 0 0)),(.one (li b))]
def HS1(b:Int)(a:aI):List Blk:=[.box [.imm true 1 a.fcode,li a.fat, .lit (.int .u64 a.fseed)]]
def DS1(N:Int→aI→SV×List Blk)(K:Int→aI→Bool):List SV→List Blk→Option ((SV×List Blk)×Bool)
 |[(.one (.ptr 0 0 0)),(.one (li c0))],[.box [.imm true 1 c1,li c2, .lit (.int .u64 c3)]]=>some (N c0 (aI.mk c1 c2 c3),K c0 (aI.mk c1 c2 c3))
 |_,_=>none
theorem bCL{N:Int→aI→SV×List Blk}{K:Int→aI→Bool}{f:Nat}(h: ∀(b:Int)(a:aI),K b a=true→dL R f (AS1 b a) (HS1 b a)=some (N b a)):cG f (DS1 N K):=fun _ _ _ e=>by
 unfold DS1 at e;split at e
 ·exact BT e (h _ _)
 ·cases e
def T83(b:Int)(a:aI):Pt (aI×Int):=(ot (ot (.br (leI b 1) (ot (ot (.leaf (a,0)))) (.ok ((a59 a)&&true) (ot (.br (pG b 200) (.ok ((a59 (AY a).1)&&true) (.ok ((cV b 0)&&true) (ot (.leaf ((AY (AY a).1).1,(iC (aV (dB (AY a).2 256) (AY (AY a).1).2) b)))))) (.ok ((cV b 0)&&true) (ot (.leaf ((AY a).1,(iC (AY a).2 b)))))))))))
def cK(b:Int)(a:aI):aI×Int:=hid (T83 b a).val
def wG(b:Int)(a:aI):Bool:=hid (T83 b a).okv
def n83(b:Int)(a:aI)(r:aI×Int):SV×List Blk:=((.one (li r.2)),[.box [.imm true 1 r.1.fcode,li r.1.fat, .lit (.int .u64 r.1.fseed)]])
def q83:=DS1 (fun b a=>n83 b a (cK b a)) wG
theorem t83:cG 83 q83:=bCL fun b a hk=>tc aKR (T83 b a) (n83 b a) hk
def Q83:=aT 83 q83 Q170
theorem aV5:QO Q83:=aC t83 aKR
def T84(b:Int)(a:aI):Pt (aI×Bool):=(ot (.ok ((wG b a)&&true) (ot (.leaf ((cK b a).1,(eqI (cK b a).2 0))))))
def oE(b:Int)(a:aI):aI×Bool:=hid (T84 b a).val
def k84(b:Int)(a:aI):Bool:=hid (T84 b a).okv
def n84(b:Int)(a:aI)(r:aI×Bool):SV×List Blk:=((.one (.lit (.bool r.2))),[.box [.imm true 1 r.1.fcode,li r.1.fat, .lit (.int .u64 r.1.fseed)]])
def q84:=DS1 (fun b a=>n84 b a (oE b a)) k84
theorem t84:cG 84 q84:=bCL fun b a hk=>tc aV5 (T84 b a) (n84 b a) hk
def Q84:=aT 84 q84 Q83
theorem aE3:QO Q84:=aC t84 aV5
def AS2(a:Int):List SV:=[(.one (li a))]
def HS2(a:Int):List Blk:=[]
def AZ(N:Int→SV×List Blk)(K:Int→Bool):List SV→List Blk→Option ((SV×List Blk)×Bool)
 |[(.one (li c0))],[]=>some (N c0,K c0)
 |_,_=>none
theorem gX{N:Int→SV×List Blk}{K:Int→Bool}{f:Nat}(h: ∀(a:Int),K a=true→dL R f (AS2 a) (HS2 a)=some (N a)):cG f (AZ N K):=fun _ _ _ e=>by
 unfold AZ at e;split at e
 ·exact BT e (h _)
 ·cases e
def aV6(a:Int):Pt (Bool):=(ot (ot (ot (ot (.leaf (jO a 5))))))
def aRS(a:Int):Bool:=hid (aV6 a).val
def aRT(a:Int):Bool:=hid (aV6 a).okv
def kG(a:Int)(r:Bool):SV×List Blk:=((.one (.lit (.bool r))),[])
def q211:=AZ (fun a=>kG a (aRS a)) aRT
theorem bR8:cG 100211 q211:=gX fun a hk=>tz aE3 (aV6 a) (kG a) hk
def Q211:=aT 100211 q211 Q84
theorem aKS:QO Q211:=aC bR8 aE3
def AS3(b:List Row)(a:aI):List SV:=[(.one (.ptr 0 0 0)),(.one (.imm false 1 b))]
def HS3(b:List Row)(a:aI):List Blk:=[.box [.imm true 1 a.fcode,li a.fat, .lit (.int .u64 a.fseed)]]
def DS3(N:List Row→aI→SV×List Blk)(K:List Row→aI→Bool):List SV→List Blk→Option ((SV×List Blk)×Bool)
 |[(.one (.ptr 0 0 0)),(.one (.imm false 1 c0))],[.box [.imm true 1 c1,li c2, .lit (.int .u64 c3)]]=>some (N c0 (aI.mk c1 c2 c3),K c0 (aI.mk c1 c2 c3))
 |_,_=>none
theorem bMC{N:List Row→aI→SV×List Blk}{K:List Row→aI→Bool}{f:Nat}(h: ∀(b:List Row)(a:aI),K b a=true→dL R f (AS3 b a) (HS3 b a)=some (N b a)):cG f (DS3 N K):=fun _ _ _ e=>by
 unfold DS3 at e;split at e
 ·exact BT e (h _ _)
 ·cases e
def aV7(b:List Row)(a:aI):Pt (aI×Int):=(ot (.ok ((wG (bL b) a)&&((gN [.int .i64] b (cK (bL b) a).2)&&true)) (ot (.leaf ((cK (bL b) a).1,(bD b (iN (cK (bL b) a).2) 0))))))
def uJ(b:List Row)(a:aI):aI×Int:=hid (aV7 b a).val
def D1(b:List Row)(a:aI):Bool:=hid (aV7 b a).okv
def bMD(b:List Row)(a:aI)(r:aI×Int):SV×List Blk:=((.one (li r.2)),[.box [.imm true 1 r.1.fcode,li r.1.fat, .lit (.int .u64 r.1.fseed)]])
def q107:=DS3 (fun b a=>bMD b a (uJ b a)) D1
theorem bSA:cG 107 q107:=bMC fun b a hk=>tc aKS (aV7 b a) (bMD b a) hk
def Q107:=aT 107 q107 Q211
theorem aKT:QO Q107:=aC bSA aKS
section
variable(a:aI)
def FS:aI×Int:=(uJ [(aU 0),(aU 1),(aU 2),(aU 20),(aU 100),(aU 200),(aU 384),(aU 448),(aU 65535),(aU 65534)] (cK 4 (cK 8 a).1).1)
def J8:aI×Int:=(cK 9 (oE 60 (FS a).1).1)
def aE4:aI×Int:=(cK 2 (cK 5 (J8 a).1).1)
def FT:aI×Bool:=(oE 60 (cK 4 (cK 8 a).1).1)
def PJ:aI×Int:=(cK 5 (cK 9 (FT a).1).1)
def FU:aI×Int:=(uJ [(aU 0),(aU 1),(aU 2),(aU 20),(aU 100),(aU 200),(aU 384),(aU 448),(aU 65535),(aU 65534)] (cK 8 a).1)
def J9:aI×Int:=(cK 9 (oE 60 (FU a).1).1)
def aE5:aI×Int:=(cK 2 (cK 5 (J9 a).1).1)
def KA:aI×Int:=(cK 9 (oE 60 (cK 8 a).1).1)
def aE6:aI×Int:=(cK 2 (cK 5 (KA a).1).1)
end
def aV8(a:aI):Pt (aI×aB):=(ot (.ok ((wG 8 a)&&true) (ot (.br (ltI (cK 8 a).2 6) (.ok ((wG 4 (cK 8 a).1)&&true) (.ok ((aRT (cK 8 a).2)&&true) (.br (aRS (cK 8 a).2) (.ok ((D1 [(aU 0),(aU 1),(aU 2),(aU 20),(aU 100),(aU 200),(aU 384),(aU 448),(aU 65535),(aU 65534)] (cK 4 (cK 8 a).1).1)&&true) (.ok ((k84 60 (FS a).1)&&true) (.br (oE 60 (FS a).1).2 (.ok ((wG 9 (oE 60 (FS a).1).1)&&((wG 5 (J8 a).1)&&((wG 2 (cK 5 (J8 a).1).1)&&true))) (ot (ot (.leaf ((aE4 a).1,(aB.mk (J8 a).2 (cK 5 (J8 a).1).2 (aE4 a).2)))))) (ot (ot (.leaf ((oE 60 (FS a).1).1,(aB.mk (cK 8 a).2 (cK 4 (cK 8 a).1).2 (FS a).2)))))))) (.ok ((k84 60 (cK 4 (cK 8 a).1).1)&&true) (.br (FT a).2 (.ok ((wG 9 (FT a).1)&&((wG 5 (cK 9 (FT a).1).1)&&((wG 2 (PJ a).1)&&true))) (ot (ot (.leaf ((cK 2 (PJ a).1).1,(aB.mk (cK 9 (FT a).1).2 (PJ a).2 (cK 2 (PJ a).1).2)))))) (ot (ot (.leaf ((FT a).1,(aB.mk (cK 8 a).2 (cK 4 (cK 8 a).1).2 0)))))))))) (.ok ((aRT (cK 8 a).2)&&true) (.br (aRS (cK 8 a).2) (.ok ((D1 [(aU 0),(aU 1),(aU 2),(aU 20),(aU 100),(aU 200),(aU 384),(aU 448),(aU 65535),(aU 65534)] (cK 8 a).1)&&true) (.ok ((k84 60 (FU a).1)&&true) (.br (oE 60 (FU a).1).2 (.ok ((wG 9 (oE 60 (FU a).1).1)&&((wG 5 (J9 a).1)&&((wG 2 (cK 5 (J9 a).1).1)&&true))) (ot (ot (.leaf ((aE5 a).1,(aB.mk (J9 a).2 (cK 5 (J9 a).1).2 (aE5 a).2)))))) (ot (ot (.leaf ((oE 60 (FU a).1).1,(aB.mk (cK 8 a).2 0 (FU a).2)))))))) (.ok ((k84 60 (cK 8 a).1)&&true) (.br (oE 60 (cK 8 a).1).2 (.ok ((wG 9 (oE 60 (cK 8 a).1).1)&&((wG 5 (KA a).1)&&((wG 2 (cK 5 (KA a).1).1)&&true))) (ot (ot (.leaf ((aE6 a).1,(aB.mk (KA a).2 (cK 5 (KA a).1).2 (aE6 a).2)))))) (ot (ot (.leaf ((oE 60 (cK 8 a).1).1,(aB.mk (cK 8 a).2 0 0)))))))))))))
def rN(a:aI):aI×aB:=hid (aV8 a).val
def a6A(a:aI):Bool:=hid (aV8 a).okv
def bME(a:aI)(r:aI×aB):SV×List Blk:=((.agg [li r.2.Mode,li r.2.Reg,li r.2.Ext]),[.box [.imm true 1 r.1.fcode,li r.1.fat, .lit (.int .u64 r.1.fseed)]])
def q169:=DS0 (fun a=>bME a (rN a)) a6A
theorem bSB:cG 169 q169:=MK fun a hk=>tc aKT (aV8 a) (bME a) hk
def Q169:=aT 169 q169 Q107
theorem aKU:QO Q169:=aC bSB aKT
def AS4(a:Bool)(b:Int):List SV:=[(.one (.lit (.bool a))),(.one (li b))]
def HS4(a:Bool)(b:Int):List Blk:=[]
def DS4(N:Bool→Int→SV×List Blk)(K:Bool→Int→Bool):List SV→List Blk→Option ((SV×List Blk)×Bool)
 |[(.one (.lit (.bool c0))),(.one (li c1))],[]=>some (N c0 c1,K c0 c1)
 |_,_=>none
theorem bCM{N:Bool→Int→SV×List Blk}{K:Bool→Int→Bool}{f:Nat}(h: ∀(a:Bool)(b:Int),K a b=true→dL R f (AS4 a b) (HS4 a b)=some (N a b)):cG f (DS4 N K):=fun _ _ _ e=>by
 unfold DS4 at e;split at e
 ·exact BT e (h _ _)
 ·cases e
def WY(a:Bool)(b:Int):Pt (Int):=(ot (ot (.br a (ot (ot (ot (.leaf b)))) (ot (ot (ot (.leaf 0)))))))
def rO(a:Bool)(b:Int):Int:=hid (WY a b).val
def rP(a:Bool)(b:Int):Bool:=hid (WY a b).okv
def a6B(a:Bool)(b:Int)(r:Int):SV×List Blk:=((.one (li r)),[])
def q189:=DS4 (fun a b=>a6B a b (rO a b)) rP
theorem bSC:cG 100189 q189:=bCM fun a b hk=>tz aKU (WY a b) (a6B a b) hk
def Q189:=aT 100189 q189 Q169
theorem aKV:QO Q189:=aC bSC aKU
def aE7(a:Int):Pt (Bool):=(ot (ot (ot (ot (.leaf (bif (eqI a 1)then true else(eqI a 2)))))))
def aCE(a:Int):Bool:=hid (aE7 a).val
def aRU(a:Int):Bool:=hid (aE7 a).okv
def q158:=AZ (fun a=>kG a (aCE a)) aRU
theorem bSD:cG 100158 q158:=gX fun a hk=>tz aKV (aE7 a) (kG a) hk
def Q158:=aT 100158 q158 Q189
theorem aKW:QO Q158:=aC bSD aKV
def AS5(a:Int)(b:Int)(c:Int):List SV:=[(.one (li a)),(.one (li b)),(.one (li c))]
def HS5(a:Int)(b:Int)(c:Int):List Blk:=[]
def DS5(N:Int→Int→Int→SV×List Blk)(K:Int→Int→Int→Bool):List SV→List Blk→Option ((SV×List Blk)×Bool)
 |[(.one (li c0)),(.one (li c1)),(.one (li c2))],[]=>some (N c0 c1 c2,K c0 c1 c2)
 |_,_=>none
theorem BU{N:Int→Int→Int→SV×List Blk}{K:Int→Int→Int→Bool}{f:Nat}(h: ∀(a:Int)(b:Int)(c:Int),K a b c=true→dL R f (AS5 a b c) (HS5 a b c)=some (N a b c)):cG f (DS5 N K):=fun _ _ _ e=>by
 unfold DS5 at e;split at e
 ·exact BT e (h _ _ _)
 ·cases e
def aV9(a:Int)(b:Int)(c:Int):Pt (Bool):=(ot (ot (ot (ot (.leaf (bif (jO a b)then(leI a c)else false))))))
def wH(a:Int)(b:Int)(c:Int):Bool:=hid (aV9 a b c).val
def yT(a:Int)(b:Int)(c:Int):Bool:=hid (aV9 a b c).okv
def a6C(a:Int)(b:Int)(c:Int)(r:Bool):SV×List Blk:=((.one (.lit (.bool r))),[])
def q113:=DS5 (fun a b c=>a6C a b c (wH a b c)) yT
theorem bSE:cG 100113 q113:=BU fun a b c hk=>tz aKW (aV9 a b c) (a6C a b c) hk
def Q113:=aT 100113 q113 Q158
theorem aKX:QO Q113:=aC bSE aKW
def T92(a:Int):Pt (Bool):=(ot (.ok ((yT a 0 65535)&&true) (ot (ot (.leaf (wH a 0 65535))))))
def g92(a:Int):Bool:=hid (T92 a).val
def k92(a:Int):Bool:=hid (T92 a).okv
def q92:=AZ (fun a=>kG a (g92 a)) k92
theorem t92:cG 100092 q92:=gX fun a hk=>tz aKX (T92 a) (kG a) hk
def Q92:=aT 100092 q92 Q113
theorem aWA:QO Q92:=aC t92 aKX
def AS6(a:aB):List SV:=[(.agg [li a.Mode,li a.Reg,li a.Ext])]
def HS6(a:aB):List Blk:=[]
def DS6(N:aB→SV×List Blk)(K:aB→Bool):List SV→List Blk→Option ((SV×List Blk)×Bool)
 |[(.agg [li c0,li c1,li c2])],[]=>some (N (aB.mk c0 c1 c2),K (aB.mk c0 c1 c2))
 |_,_=>none
theorem aCF{N:aB→SV×List Blk}{K:aB→Bool}{f:Nat}(h: ∀(a:aB),K a=true→dL R f (AS6 a) (HS6 a)=some (N a)):cG f (DS6 N K):=fun _ _ _ e=>by
 unfold DS6 at e;split at e
 ·exact BT e (h _)
 ·cases e
def aWB(a:aB):Pt (Bool):=(ot (.ok ((yT a.Mode 0 7)&&((((yT a.Reg 0 3)&&true)||(!(wH a.Mode 0 7)))&&true)) (.br (bif (bif (!(wH a.Mode 0 7))then true else(!(wH a.Reg 0 3)))then true else(bif (jO a.Mode 6)then(cV a.Reg 0)else false)) (ot (ot (ot (.leaf false)))) (.ok ((k92 a.Ext)&&((((aRT a.Mode)&&true)||(!(g92 a.Ext)))&&true)) (ot (ot (.leaf (bif (g92 a.Ext)then(bif (aRS a.Mode)then true else(eqI a.Ext 0))else false))))))))
def bEN(a:aB):Bool:=hid (aWB a).val
def bEO(a:aB):Bool:=hid (aWB a).okv
def S5(a:aB)(r:Bool):SV×List Blk:=((.one (.lit (.bool r))),[])
def q178:=DS6 (fun a=>S5 a (bEN a)) bEO
theorem bSF:cG 100178 q178:=aCF fun a hk=>tz aWA (aWB a) (S5 a) hk
def Q178:=aT 100178 q178 Q92
theorem aKY:QO Q178:=aC bSF aWA
def aWC(a:Int):Pt (Bool):=(ot (.ok ((yT a 2 6)&&true) (ot (ot (.leaf (wH a 2 6))))))
def aRW(a:Int):Bool:=hid (aWC a).val
def aRX(a:Int):Bool:=hid (aWC a).okv
def q179:=AZ (fun a=>kG a (aRW a)) aRX
theorem bSG:cG 100179 q179:=gX fun a hk=>tz aKY (aWC a) (kG a) hk
def Q179:=aT 100179 q179 Q178
theorem aKZ:QO Q179:=aC bSG aKY
def aWD(a:Int):Pt (Bool):=(ot (ot (ot (ot (.leaf (bif (bif (eqI a 2)then true else(eqI a 5))then true else(eqI a 6)))))))
def a6E(a:Int):Bool:=hid (aWD a).val
def a6F(a:Int):Bool:=hid (aWD a).okv
def q180:=AZ (fun a=>kG a (a6E a)) a6F
theorem bSH:cG 100180 q180:=gX fun a hk=>tz aKZ (aWD a) (kG a) hk
def Q180:=aT 100180 q180 Q179
theorem aK0:QO Q180:=aC bSH aKZ
def aWE(a:aB):Pt (Bool):=(ot (ot (ot (ot (.leaf (bif (eqI a.Mode 7)then(leI a.Ext 1023)else false))))))
def a6G(a:aB):Bool:=hid (aWE a).val
def a6H(a:aB):Bool:=hid (aWE a).okv
def q181:=DS6 (fun a=>S5 a (a6G a)) a6H
theorem bSI:cG 100181 q181:=aCF fun a hk=>tz aK0 (aWE a) (S5 a) hk
def Q181:=aT 100181 q181 Q180
theorem aK1:QO Q181:=aC bSI aK0
def aWF(a:aB):Pt (Bool):=(ot (ot (ot (ot (.leaf ((eqI a.Mode 0)&&((eqI a.Reg 0)&&((eqI a.Ext 0)&&true))))))))
def a6I(a:aB):Bool:=hid (aWF a).val
def a6J(a:aB):Bool:=hid (aWF a).okv
def q182:=DS6 (fun a=>S5 a (a6I a)) a6J
theorem bSJ:cG 100182 q182:=aCF fun a hk=>tz aK1 (aWF a) (S5 a) hk
def Q182:=aT 100182 q182 Q181
theorem aK2:QO Q182:=aC bSJ aK1
def AS7(a:aF):List SV:=[(.agg [li a.Op,li a.Size,li a.Reg,li a.Ea.Mode,li a.Ea.Reg,li a.Ea.Ext,li a.Sub])]
def HS7(a:aF):List Blk:=[]
def HE(N:aF→SV×List Blk)(K:aF→Bool):List SV→List Blk→Option ((SV×List Blk)×Bool)
 |[(.agg [li c0,li c1,li c2,li c3,li c4,li c5,li c6])],[]=>some (N (aF.mk c0 c1 c2 (aB.mk c3 c4 c5) c6),K (aF.mk c0 c1 c2 (aB.mk c3 c4 c5) c6))
 |_,_=>none
theorem kD{N:aF→SV×List Blk}{K:aF→Bool}{f:Nat}(h: ∀(a:aF),K a=true→dL R f (AS7 a) (HS7 a)=some (N a)):cG f (HE N K):=fun _ _ _ e=>by
 unfold HE at e;split at e
 ·exact BT e (h _)
 ·cases e
section
variable(a:aF)
def aWG:Bool:=(bif (!(aCE a.Size))then true else(!(wH a.Reg 0 3)))
def aWH:Bool:=(bif (aWG a)then true else(!(bEN a.Ea)))
def aWI:Bool:=((((aRX a.Ea.Mode)&&true)||(eqI a.Ea.Mode 0))&&true)
def aWJ:Bool:=(bif (eqI a.Ea.Mode 0)then true else(aRW a.Ea.Mode))
def aCG:Bool:=(bif (eqI a.Size 2)then(eqI a.Sub 0)else false)
def aWK:Bool:=(bif (eqI a.Reg 0)then(leI a.Sub 3)else false)
def aK3:Bool:=(bif (eqI a.Size 2)then(eqI a.Reg 0)else false)
def aWL:Bool:=(bif (aK3 a)then(leI a.Sub 1)else false)
def aWM:Bool:=(bif (eqI a.Sub 0)then(eqI a.Reg 0)else false)
def aWN:Bool:=(bif (aWM a)then(a6G a.Ea)else false)
def aE8:Bool:=(bif (eqI a.Size 2)then(leI a.Sub 6)else false)
end
def T91(a:aF):Pt (Bool):=(ot (.ok ((aRU a.Size)&&((((yT a.Reg 0 3)&&true)||(!(aCE a.Size)))&&((((bEO a.Ea)&&true)||(aWG a))&&((((yT a.Sub 0 7)&&true)||(aWH a))&&true)))) (.br (bif (bif (aWH a)then true else(!(wH a.Sub 0 7)))then true else(bif (bif (eqI a.Ea.Mode 7)then(eqI a.Size 1)else false)then(pG a.Ea.Ext 255)else false)) (ot (ot (ot (.leaf false)))) (ot (ot (ot (ot (ot (.br (bif (eqI a.Op 1)then(eqI a.Op 1)else(bif (eqI a.Op 3)then(eqI a.Op 3)else(bif (eqI a.Op 4)then(eqI a.Op 4)else(bif (eqI a.Op 5)then(eqI a.Op 5)else(bif (eqI a.Op 6)then(eqI a.Op 6)else(bif (eqI a.Op 7)then(eqI a.Op 7)else(eqI a.Op 8))))))) (ot (ot (ot (.leaf (bif (eqI a.Sub 0)then(bif (eqI a.Size 2)then true else(cV a.Ea.Mode 1))else false))))) (ot (.br (eqI a.Op 2) (.ok (((aWI a)||(!(eqI a.Sub 0)))&&true) (ot (ot (.leaf (bif (eqI a.Sub 0)then(aWJ a)else false))))) (ot (.br (eqI a.Op 9) (ot (ot (ot (.leaf (aCG a))))) (ot (.br (eqI a.Op 10) (.ok ((((a6F a.Ea.Mode)&&true)||(!(aCG a)))&&true) (ot (ot (.leaf (bif (aCG a)then(a6E a.Ea.Mode)else false))))) (ot (.br (eqI a.Op 11) (.ok (((aWI a)||(!(aWK a)))&&true) (ot (ot (.leaf (bif (aWK a)then(aWJ a)else false))))) (ot (.br (eqI a.Op 12) (ot (ot (ot (.leaf (eqI a.Ea.Mode 0))))) (ot (.br (eqI a.Op 13) (ot (ot (ot (.leaf (bif (bif (eqI a.Size 2)then(leI a.Reg 1)else false)then(eqI a.Ea.Mode 7)else false))))) (ot (.br (eqI a.Op 14) (.ok ((((a6F a.Ea.Mode)&&true)||(!(aWL a)))&&true) (ot (ot (.leaf (bif (aWL a)then(a6E a.Ea.Mode)else false))))) (ot (ot (.br (bif (eqI a.Op 16)then(eqI a.Op 16)else(eqI a.Op 17)) (ot (ot (ot (.leaf (bif (aCG a)then(cV a.Ea.Mode 1)else false))))) (ot (.br (eqI a.Op 18) (ot (ot (ot (.leaf (bif (bif (!(eqI a.Size 2))then(leI a.Sub 1)else false)then(eqI a.Ea.Mode 0)else false))))) (ot (.br (eqI a.Op 19) (.ok ((((((a6H a.Ea)&&true)||(!(aWM a)))&&((((((a6J a.Ea)&&true)||(!(eqI a.Sub 1)))&&true)||(aWN a))&&true))||(!(eqI a.Size 2)))&&true) (ot (ot (.leaf (bif (eqI a.Size 2)then(bif (aWN a)then true else(bif (eqI a.Sub 1)then(a6I a.Ea)else false))else false))))) (ot (.br (eqI a.Op 15) (ot (.br (eqI a.Sub 3) (.ok ((((a6H a.Ea)&&true)||(!(aK3 a)))&&true) (ot (ot (.leaf (bif (aK3 a)then(a6G a.Ea)else false))))) (.ok ((((a6J a.Ea)&&true)||(!(aE8 a)))&&true) (ot (ot (.leaf (bif (bif (aE8 a)then(a6I a.Ea)else false)then(bif (pG a.Sub 3)then true else(eqI a.Reg 0))else false))))))) (ot (ot (ot (.leaf false))))))))))))))))))))))))))))))))))))
def HF(a:aF):Bool:=hid (T91 a).val
def HG(a:aF):Bool:=hid (T91 a).okv
def NF(a:aF)(r:Bool):SV×List Blk:=((.one (.lit (.bool r))),[])
def q91:=HE (fun a=>NF a (HF a)) HG
theorem t91:cG 100091 q91:=kD fun a hk=>tz aK2 (T91 a) (NF a) hk
def Q91:=aT 100091 q91 Q182
theorem aE9:QO Q91:=aC t91 aK2
structure V168_0 where
 mk::
 (b0:aI)
 (b1:aF)
 (s3:Int)
section
variable(v:V168_0)
def cA:aI×Int:=(cK 4 (cK 2 (cK 19 v.b0).1).1)
def FV:Bool:=(eqI (aV 1 (cK 2 (cK 19 v.b0).1).2) 1)
def FW:Bool:=(bif (FV v)then(eqI (rN (cA v).1).2.Mode 7)else false)
def lA:aB:={(rN (cA v).1).2 with Ext:=(aD (rN (cA v).1).2.Ext 255)}
def pI:aI×Int:=(cK 4 (rN (cA v).1).1)
def zZ:Bool:=(wG 2 (rN (cA v).1).1)
def dC:aI×Int:=(cK 2 (rN (cA v).1).1)
def z6:Bool:=(((zZ v)&&((wG 7 (dC v).1)&&((rP (eqI (aV 1 (cK 19 v.b0).2) 12) 1)&&true)))&&true)
def rQ:Int:=(dB (dC v).2 (aV 1 (dB (cK 7 (dC v).1).2 (rO (eqI (aV 1 (cK 19 v.b0).2) 12) 1))))
def FX:Bool:=(((s1 v.s3)&&true)&&((((s1 true)&&(r1 (cK 7 (dC v).1).1.fcode))&&((s1 (cK 7 (dC v).1).1.fat)&&((s1 (cK 7 (dC v).1).1.fseed)&&true)))&&((rL v.b1 true)&&(((s1 (aV 1 (cK 19 v.b0).2))&&((s1 (aV 1 (cK 2 (cK 19 v.b0).1).2))&&((s1 (cA v).2)&&(rM (rN (cA v).1).2 ((s1 (rQ v))&&true)))))&&true))))
def pX:aI×Int:=(cK 4 (cK 7 (dC v).1).1)
def BW:Bool:=((HG (aF.mk (aV 1 (cK 19 v.b0).2) 1 (cA v).2 (aB.mk 0 (pX v).2 0) (aD (rQ v) 7)))&&true)
def BX:Bool:=(HF (aF.mk (aV 1 (cK 19 v.b0).2) 1 (cA v).2 (aB.mk 0 (pX v).2 0) (aD (rQ v) 7)))
def sX:V168_0:=(V168_0.mk (pX v).1 v.b1 (aV v.s3 1))
def BY:Bool:=((HG (aF.mk (aV 1 (cK 19 v.b0).2) (aV 1 (cK 2 (cK 19 v.b0).1).2) (cA v).2 (aB.mk 0 (pX v).2 0) (aD (rQ v) 7)))&&true)
def BZ:Bool:=(HF (aF.mk (aV 1 (cK 19 v.b0).2) (aV 1 (cK 2 (cK 19 v.b0).1).2) (cA v).2 (aB.mk 0 (pX v).2 0) (aD (rQ v) 7)))
def m7:aI×Int:=(uJ [(aU 2),(aU 4),(aU 6),(aU 8),(aU 65526),(aU 65530),(aU 0),(aU 3)] (cK 8 (dC v).1).1)
def dH:aI×Int:=(uJ [(aU 0),(aU 1),(aU 2),(aU 2),(aU 3),(aU 4),(aU 5),(aU 6)] (rN (cA v).1).1)
def gY:aI×Int:=(cK 4 (dH v).1)
def m9:aI×Int:=(uJ [(aU 0),(aU 256),(aU 512),(aU 1023)] (gY v).1)
def B0:Bool:=((HG (aF.mk 15 2 (gY v).2 (aB.mk 0 0 0) (dH v).2))&&true)
def B4:Bool:=(HF (aF.mk 15 2 (gY v).2 (aB.mk 0 0 0) (dH v).2))
def nA:aI×Int:=(uJ [(aU 0),(aU 256),(aU 512),(aU 1023)] (dH v).1)
def B5:Bool:=((HG (aF.mk 15 2 0 (aB.mk 0 0 0) (dH v).2))&&true)
def B6:Bool:=(HF (aF.mk 15 2 0 (aB.mk 0 0 0) (dH v).2))
def nB:aI×Int:=(uJ [(aU 0),(aU 256),(aU 480),(aU 768),(aU 31)] (rN (cA v).1).1)
def pY:aI×Bool:=(oE 2 (nB v).1)
def sY:aI×Int:=(cK 4 (pY v).1)
def B7:Bool:=((HG (aF.mk 19 2 (sY v).2 (aB.mk 0 0 0) 1))&&true)
def B8:Bool:=(HF (aF.mk 19 2 (sY v).2 (aB.mk 0 0 0) 1))
def sZ:V168_0:=(V168_0.mk (rN (cA v).1).1 v.b1 (aV v.s3 1))
end
def B9(v:V168_0):Pt (Option V168_0):=(ot (.br (ltI v.s3 6) (.ok ((wG 19 v.b0)&&((wG 2 (cK 19 v.b0).1)&&((wG 4 (cK 2 (cK 19 v.b0).1).1)&&((a6A (cA v).1)&&true)))) (ot (ot (.br (eqI (aV 1 (cK 19 v.b0).2) 11) (ot (.ok ((wG 4 (rN (cA v).1).1)&&true) (ot (.br (FW v) (ot (.ok ((HG (aF.mk (aV 1 (cK 19 v.b0).2) (aV 1 (cK 2 (cK 19 v.b0).1).2) 0 (lA v) (pI v).2))&&true) (.br (HF (aF.mk (aV 1 (cK 19 v.b0).2) (aV 1 (cK 2 (cK 19 v.b0).1).2) 0 (lA v) (pI v).2)) (ot (.leaf none)) (ot (ot (.leaf (some (V168_0.mk (pI v).1 v.b1 (aV v.s3 1))))))))) (.ok ((HG (aF.mk (aV 1 (cK 19 v.b0).2) (aV 1 (cK 2 (cK 19 v.b0).1).2) 0 (rN (cA v).1).2 (pI v).2))&&true) (.br (HF (aF.mk (aV 1 (cK 19 v.b0).2) (aV 1 (cK 2 (cK 19 v.b0).1).2) 0 (rN (cA v).1).2 (pI v).2)) (ot (.leaf none)) (ot (ot (.leaf (some (V168_0.mk (pI v).1 v.b1 (aV v.s3 1)))))))))))) (ot (ot (.br (bif (eqI (aV 1 (cK 19 v.b0).2) 12)then(eqI (aV 1 (cK 19 v.b0).2) 12)else(eqI (aV 1 (cK 19 v.b0).2) 18)) (.ok ((z6 v)&&(((z6 v)&&((z6 v)&&(FX v)))&&(FX v))) (ot (.ok ((wG 4 (cK 7 (dC v).1).1)&&true) (ot (.br (eqI (aV 1 (cK 19 v.b0).2) 18) (ot (ot (.br false (ot (.ok (BW v) (.br (BX v) (ot (.leaf none)) (ot (ot (.leaf (some (sX v)))))))) (.ok (BW v) (.br (BX v) (ot (.leaf none)) (ot (ot (.leaf (some (sX v)))))))))) (ot (.br (bif (FV v)then false else false) (ot (.ok (BY v) (.br (BZ v) (ot (.leaf none)) (ot (ot (.leaf (some (sX v)))))))) (.ok (BY v) (.br (BZ v) (ot (.leaf none)) (ot (ot (.leaf (some (sX v)))))))))))))) (ot (.br (eqI (aV 1 (cK 19 v.b0).2) 13) (.ok ((zZ v)&&((wG 8 (dC v).1)&&((D1 [(aU 2),(aU 4),(aU 6),(aU 8),(aU 65526),(aU 65530),(aU 0),(aU 3)] (cK 8 (dC v).1).1)&&true))) (ot (.br false (ot (.ok ((HG (aF.mk 13 2 (dC v).2 (aB.mk 7 0 (aD (m7 v).2 255)) (cK 8 (dC v).1).2))&&true) (.br (HF (aF.mk 13 2 (dC v).2 (aB.mk 7 0 (aD (m7 v).2 255)) (cK 8 (dC v).1).2)) (ot (.leaf none)) (ot (ot (.leaf (some (V168_0.mk (m7 v).1 v.b1 (aV v.s3 1))))))))) (.ok ((HG (aF.mk 13 2 (dC v).2 (aB.mk 7 0 (m7 v).2) (cK 8 (dC v).1).2))&&true) (.br (HF (aF.mk 13 2 (dC v).2 (aB.mk 7 0 (m7 v).2) (cK 8 (dC v).1).2)) (ot (.leaf none)) (ot (ot (.leaf (some (V168_0.mk (m7 v).1 v.b1 (aV v.s3 1))))))))))) (ot (.br (eqI (aV 1 (cK 19 v.b0).2) 14) (ot (ot (.ok ((zZ v)&&true) (ot (.br false (ot (.ok ((HG (aF.mk (aV 1 (cK 19 v.b0).2) 2 0 (lA v) (dC v).2))&&true) (.br (HF (aF.mk (aV 1 (cK 19 v.b0).2) 2 0 (lA v) (dC v).2)) (ot (.leaf none)) (ot (ot (.leaf (some (V168_0.mk (dC v).1 v.b1 (aV v.s3 1))))))))) (.ok ((HG (aF.mk (aV 1 (cK 19 v.b0).2) 2 0 (rN (cA v).1).2 (dC v).2))&&true) (.br (HF (aF.mk (aV 1 (cK 19 v.b0).2) 2 0 (rN (cA v).1).2 (dC v).2)) (ot (.leaf none)) (ot (ot (.leaf (some (V168_0.mk (dC v).1 v.b1 (aV v.s3 1))))))))))))) (ot (.br (eqI (aV 1 (cK 19 v.b0).2) 15) (.ok ((D1 [(aU 0),(aU 1),(aU 2),(aU 2),(aU 3),(aU 4),(aU 5),(aU 6)] (rN (cA v).1).1)&&true) (ot (.br (pG (dH v).2 3) (.ok ((wG 4 (dH v).1)&&true) (ot (.br (eqI (dH v).2 3) (.ok ((D1 [(aU 0),(aU 256),(aU 512),(aU 1023)] (gY v).1)&&true) (ot (.br false (ot (.ok ((HG (aF.mk 15 2 (gY v).2 (aB.mk 7 0 (aD (m9 v).2 255)) (dH v).2))&&true) (.br (HF (aF.mk 15 2 (gY v).2 (aB.mk 7 0 (aD (m9 v).2 255)) (dH v).2)) (ot (.leaf none)) (ot (ot (.leaf (some (V168_0.mk (m9 v).1 v.b1 (aV v.s3 1))))))))) (.ok ((HG (aF.mk 15 2 (gY v).2 (aB.mk 7 0 (m9 v).2) (dH v).2))&&true) (.br (HF (aF.mk 15 2 (gY v).2 (aB.mk 7 0 (m9 v).2) (dH v).2)) (ot (.leaf none)) (ot (ot (.leaf (some (V168_0.mk (m9 v).1 v.b1 (aV v.s3 1))))))))))) (ot (.br false (ot (.ok (B0 v) (.br (B4 v) (ot (.leaf none)) (ot (ot (.leaf (some (V168_0.mk (gY v).1 v.b1 (aV v.s3 1))))))))) (.ok (B0 v) (.br (B4 v) (ot (.leaf none)) (ot (ot (.leaf (some (V168_0.mk (gY v).1 v.b1 (aV v.s3 1))))))))))))) (ot (.br (eqI (dH v).2 3) (.ok ((D1 [(aU 0),(aU 256),(aU 512),(aU 1023)] (dH v).1)&&true) (ot (.br false (ot (.ok ((HG (aF.mk 15 2 0 (aB.mk 7 0 (aD (nA v).2 255)) (dH v).2))&&true) (.br (HF (aF.mk 15 2 0 (aB.mk 7 0 (aD (nA v).2 255)) (dH v).2)) (ot (.leaf none)) (ot (ot (.leaf (some (V168_0.mk (nA v).1 v.b1 (aV v.s3 1))))))))) (.ok ((HG (aF.mk 15 2 0 (aB.mk 7 0 (nA v).2) (dH v).2))&&true) (.br (HF (aF.mk 15 2 0 (aB.mk 7 0 (nA v).2) (dH v).2)) (ot (.leaf none)) (ot (ot (.leaf (some (V168_0.mk (nA v).1 v.b1 (aV v.s3 1))))))))))) (ot (.br false (ot (.ok (B5 v) (.br (B6 v) (ot (.leaf none)) (ot (ot (.leaf (some (V168_0.mk (dH v).1 v.b1 (aV v.s3 1))))))))) (.ok (B5 v) (.br (B6 v) (ot (.leaf none)) (ot (ot (.leaf (some (V168_0.mk (dH v).1 v.b1 (aV v.s3 1))))))))))))))) (ot (.br (eqI (aV 1 (cK 19 v.b0).2) 19) (.ok ((D1 [(aU 0),(aU 256),(aU 480),(aU 768),(aU 31)] (rN (cA v).1).1)&&true) (.ok ((k84 2 (nB v).1)&&true) (.br (pY v).2 (.ok ((wG 4 (pY v).1)&&true) (ot (.br false (ot (.ok (B7 v) (.br (B8 v) (ot (.leaf none)) (ot (ot (.leaf (some (V168_0.mk (sY v).1 v.b1 (aV v.s3 1))))))))) (.ok (B7 v) (.br (B8 v) (ot (.leaf none)) (ot (ot (.leaf (some (V168_0.mk (sY v).1 v.b1 (aV v.s3 1))))))))))) (ot (.br false (ot (.ok ((HG (aF.mk 19 2 0 (aB.mk 7 0 (aD (nB v).2 255)) 0))&&true) (.br (HF (aF.mk 19 2 0 (aB.mk 7 0 (aD (nB v).2 255)) 0)) (ot (.leaf none)) (ot (ot (.leaf (some (V168_0.mk (pY v).1 v.b1 (aV v.s3 1))))))))) (.ok ((HG (aF.mk 19 2 0 (aB.mk 7 0 (nB v).2) 0))&&true) (.br (HF (aF.mk 19 2 0 (aB.mk 7 0 (nB v).2) 0)) (ot (.leaf none)) (ot (ot (.leaf (some (V168_0.mk (pY v).1 v.b1 (aV v.s3 1))))))))))))) (ot (ot (.br (bif (eqI (aV 1 (cK 19 v.b0).2) 16)then(eqI (aV 1 (cK 19 v.b0).2) 16)else(bif (eqI (aV 1 (cK 19 v.b0).2) 17)then(eqI (aV 1 (cK 19 v.b0).2) 17)else(bif (eqI (aV 1 (cK 19 v.b0).2) 9)then(eqI (aV 1 (cK 19 v.b0).2) 9)else(eqI (aV 1 (cK 19 v.b0).2) 10)))) (ot (ot (.br false (ot (.ok ((HG (aF.mk (aV 1 (cK 19 v.b0).2) 2 (cA v).2 (lA v) 0))&&true) (.br (HF (aF.mk (aV 1 (cK 19 v.b0).2) 2 (cA v).2 (lA v) 0)) (ot (.leaf none)) (ot (ot (.leaf (some (sZ v)))))))) (.ok ((HG (aF.mk (aV 1 (cK 19 v.b0).2) 2 (cA v).2 (rN (cA v).1).2 0))&&true) (.br (HF (aF.mk (aV 1 (cK 19 v.b0).2) 2 (cA v).2 (rN (cA v).1).2 0)) (ot (.leaf none)) (ot (ot (.leaf (some (sZ v)))))))))) (ot (.br (FW v) (ot (.ok ((HG (aF.mk (aV 1 (cK 19 v.b0).2) (aV 1 (cK 2 (cK 19 v.b0).1).2) (cA v).2 (lA v) 0))&&true) (.br (HF (aF.mk (aV 1 (cK 19 v.b0).2) (aV 1 (cK 2 (cK 19 v.b0).1).2) (cA v).2 (lA v) 0)) (ot (.leaf none)) (ot (ot (.leaf (some (sZ v)))))))) (.ok ((HG (aF.mk (aV 1 (cK 19 v.b0).2) (aV 1 (cK 2 (cK 19 v.b0).1).2) (cA v).2 (rN (cA v).1).2 0))&&true) (.br (HF (aF.mk (aV 1 (cK 19 v.b0).2) (aV 1 (cK 2 (cK 19 v.b0).1).2) (cA v).2 (rN (cA v).1).2 0)) (ot (.leaf none)) (ot (ot (.leaf (some (sZ v))))))))))))))))))))))))))) (.leaf none)))
def PK(v:V168_0):St:=⟨[(0,(.one (.ptr 0 0 0))),(2,(.one (.ptr 1 0 0))),(3,(.one (li v.s3)))],[.box [.imm true 1 v.b0.fcode,li v.b0.fat, .lit (.int .u64 v.b0.fseed)], .box [li v.b1.Op,li v.b1.Size,li v.b1.Reg,li v.b1.Ea.Mode,li v.b1.Ea.Reg,li v.b1.Ea.Ext,li v.b1.Sub]]⟩
def WZ:St→Option (V168_0×Bool)
 |⟨[(0,(.one (.ptr 0 0 0))),(2,(.one (.ptr 1 0 0))),(3,(.one (li c10)))],[.box [.imm true 1 c0,li c1, .lit (.int .u64 c2)], .box [li c3,li c4,li c5,li c6,li c7,li c8,li c9]]⟩=>some ((V168_0.mk (aI.mk c0 c1 c2) (aF.mk c3 c4 c5 (aB.mk c6 c7 c8) c9) c10),true)
 |_=>none
def XA:St→Option (Pt Out):=yI Q91 ([]++HD 168) [] true [] 1 9223372036854775808 aEO
theorem a6K(v:V168_0):((XA (PK v)).bind (tF true false 1 [0,2,3]))=some ((B9 v).map (Option.map PK)):=by kernel_rfl
theorem a6L(σ:St)(v:V168_0)(h:WZ σ=some (v,true)):σ=PK v:=by
 unfold WZ at h;split at h
 ·obtain⟨hr,hk⟩:=qp (qi h);rw[←hr];rfl
 ·simp at h
theorem a6M:cS (wD true false 1 [0,2,3] XA WZ PK B9 9223372036854775808) (fV R 1 9223372036854775808 (.loop [0,2,3] aEO)):=d8 (cW aE9 (cF (l:=[]) (by kernel_rfl) trivial)) a6L a6K
def a6N:Lp:=(5,wD true false 1 [0,2,3] XA WZ PK B9 9223372036854775808)::[]
def aFA(v:V168_0):V168_0:=(hid (dV B9 9223372036854775808 v)).getD v
def aFB(v:V168_0):Bool:=(hid (dV B9 9223372036854775808 v)).isSome
section
variable(a:aI)
def gH:V168_0:=(aFA (V168_0.mk a (aF.mk 0 0 0 (aB.mk 0 0 0) 0) 0))
def lP:aI×Int:=(cK 2 (cK 19 (gH a).b0).1)
def gI:aI×aB:=(rN (cK 4 (lP a).1).1)
def aFC:Bool:=(bif (eqI (aV 1 (lP a).2) 1)then(eqI (gI a).2.Mode 7)else false)
def PL:aB:={(gI a).2 with Ext:=(aD (gI a).2.Ext 255)}
def XB:Bool:=(eqI (aV 1 (cK 19 (gH a).b0).2) 12)
def aFD:Bool:=(eqI (aV 1 (cK 19 (gH a).b0).2) 18)
def xM:aI×Int:=(cK 7 (cK 2 (gI a).1).1)
def PM:Int:=(aD (dB (cK 2 (gI a).1).2 (aV 1 (dB (xM a).2 (rO (XB a) 1)))) 7)
def XC:aI×Int:=(cK 8 (cK 2 (gI a).1).1)
def IH:aI×Int:=(uJ [(aU 2),(aU 4),(aU 6),(aU 8),(aU 65526),(aU 65530),(aU 0),(aU 3)] (XC a).1)
def f6:aI×Int:=(uJ [(aU 0),(aU 1),(aU 2),(aU 2),(aU 3),(aU 4),(aU 5),(aU 6)] (gI a).1)
def II:aI×Int:=(uJ [(aU 0),(aU 256),(aU 512),(aU 1023)] (cK 4 (f6 a).1).1)
def IJ:aI×Int:=(uJ [(aU 0),(aU 256),(aU 512),(aU 1023)] (f6 a).1)
def z8:aI×Int:=(uJ [(aU 0),(aU 256),(aU 480),(aU 768),(aU 31)] (gI a).1)
def IK:aI×Int:=(cK 4 (oE 2 (z8 a).1).1)
def XD:Bool:=(eqI (aV 1 (cK 19 (gH a).b0).2) 16)
def XE:Bool:=(eqI (aV 1 (cK 19 (gH a).b0).2) 17)
def XF:Bool:=(eqI (aV 1 (cK 19 (gH a).b0).2) 9)
end
def aRY(a:aI):Pt (aI×aF):=(ot (ot (ot (ot (.ok (aFB (V168_0.mk a (aF.mk 0 0 0 (aB.mk 0 0 0) 0) 0)) (.br (ltI (gH a).s3 6) (.br (eqI (aV 1 (cK 19 (gH a).b0).2) 11) (.br (aFC a) (ot (.leaf ((cK 4 (gI a).1).1,(aF.mk (aV 1 (cK 19 (gH a).b0).2) (aV 1 (lP a).2) 0 (PL a) (cK 4 (gI a).1).2)))) (ot (.leaf ((cK 4 (gI a).1).1,(aF.mk (aV 1 (cK 19 (gH a).b0).2) (aV 1 (lP a).2) 0 (gI a).2 (cK 4 (gI a).1).2))))) (.br (bif (XB a)then(XB a)else(aFD a)) (.br (aFD a) (.br false (ot (.leaf ((cK 4 (xM a).1).1,(aF.mk (aV 1 (cK 19 (gH a).b0).2) 1 (cK 4 (lP a).1).2 (aB.mk 0 (cK 4 (xM a).1).2 0) (PM a))))) (ot (.leaf ((cK 4 (xM a).1).1,(aF.mk (aV 1 (cK 19 (gH a).b0).2) 1 (cK 4 (lP a).1).2 (aB.mk 0 (cK 4 (xM a).1).2 0) (PM a)))))) (.br (bif (eqI (aV 1 (lP a).2) 1)then false else false) (ot (.leaf ((cK 4 (xM a).1).1,(aF.mk (aV 1 (cK 19 (gH a).b0).2) (aV 1 (lP a).2) (cK 4 (lP a).1).2 (aB.mk 0 (cK 4 (xM a).1).2 0) (PM a))))) (ot (.leaf ((cK 4 (xM a).1).1,(aF.mk (aV 1 (cK 19 (gH a).b0).2) (aV 1 (lP a).2) (cK 4 (lP a).1).2 (aB.mk 0 (cK 4 (xM a).1).2 0) (PM a))))))) (.br (eqI (aV 1 (cK 19 (gH a).b0).2) 13) (.br false (ot (.leaf ((IH a).1,(aF.mk 13 2 (cK 2 (gI a).1).2 (aB.mk 7 0 (aD (IH a).2 255)) (XC a).2)))) (ot (.leaf ((IH a).1,(aF.mk 13 2 (cK 2 (gI a).1).2 (aB.mk 7 0 (IH a).2) (XC a).2))))) (.br (eqI (aV 1 (cK 19 (gH a).b0).2) 14) (.br false (ot (.leaf ((cK 2 (gI a).1).1,(aF.mk (aV 1 (cK 19 (gH a).b0).2) 2 0 (PL a) (cK 2 (gI a).1).2)))) (ot (.leaf ((cK 2 (gI a).1).1,(aF.mk (aV 1 (cK 19 (gH a).b0).2) 2 0 (gI a).2 (cK 2 (gI a).1).2))))) (.br (eqI (aV 1 (cK 19 (gH a).b0).2) 15) (.br (pG (f6 a).2 3) (.br (eqI (f6 a).2 3) (.br false (ot (.leaf ((II a).1,(aF.mk 15 2 (cK 4 (f6 a).1).2 (aB.mk 7 0 (aD (II a).2 255)) (f6 a).2)))) (ot (.leaf ((II a).1,(aF.mk 15 2 (cK 4 (f6 a).1).2 (aB.mk 7 0 (II a).2) (f6 a).2))))) (.br false (ot (.leaf ((cK 4 (f6 a).1).1,(aF.mk 15 2 (cK 4 (f6 a).1).2 (aB.mk 0 0 0) (f6 a).2)))) (ot (.leaf ((cK 4 (f6 a).1).1,(aF.mk 15 2 (cK 4 (f6 a).1).2 (aB.mk 0 0 0) (f6 a).2)))))) (.br (eqI (f6 a).2 3) (.br false (ot (.leaf ((IJ a).1,(aF.mk 15 2 0 (aB.mk 7 0 (aD (IJ a).2 255)) (f6 a).2)))) (ot (.leaf ((IJ a).1,(aF.mk 15 2 0 (aB.mk 7 0 (IJ a).2) (f6 a).2))))) (.br false (ot (.leaf ((f6 a).1,(aF.mk 15 2 0 (aB.mk 0 0 0) (f6 a).2)))) (ot (.leaf ((f6 a).1,(aF.mk 15 2 0 (aB.mk 0 0 0) (f6 a).2))))))) (.br (eqI (aV 1 (cK 19 (gH a).b0).2) 19) (.br (oE 2 (z8 a).1).2 (.br false (ot (.leaf ((IK a).1,(aF.mk 19 2 (IK a).2 (aB.mk 0 0 0) 1)))) (ot (.leaf ((IK a).1,(aF.mk 19 2 (IK a).2 (aB.mk 0 0 0) 1))))) (.br false (ot (.leaf ((oE 2 (z8 a).1).1,(aF.mk 19 2 0 (aB.mk 7 0 (aD (z8 a).2 255)) 0)))) (ot (.leaf ((oE 2 (z8 a).1).1,(aF.mk 19 2 0 (aB.mk 7 0 (z8 a).2) 0)))))) (.br (bif (XD a)then(XD a)else(bif (XE a)then(XE a)else(bif (XF a)then(XF a)else(eqI (aV 1 (cK 19 (gH a).b0).2) 10)))) (.br false (ot (.leaf ((gI a).1,(aF.mk (aV 1 (cK 19 (gH a).b0).2) 2 (cK 4 (lP a).1).2 (PL a) 0)))) (ot (.leaf ((gI a).1,(aF.mk (aV 1 (cK 19 (gH a).b0).2) 2 (cK 4 (lP a).1).2 (gI a).2 0))))) (.br (aFC a) (ot (.leaf ((gI a).1,(aF.mk (aV 1 (cK 19 (gH a).b0).2) (aV 1 (lP a).2) (cK 4 (lP a).1).2 (PL a) 0)))) (ot (.leaf ((gI a).1,(aF.mk (aV 1 (cK 19 (gH a).b0).2) (aV 1 (lP a).2) (cK 4 (lP a).1).2 (gI a).2 0)))))))))))) (ot (ot (.leaf ((gH a).b0,(aF.mk 15 2 0 (aB.mk 0 0 0) 2)))))))))))
def MX(a:aI):aI×aF:=hid (aRY a).val
def a6O(a:aI):Bool:=hid (aRY a).okv
def a6P(a:aI)(r:aI×aF):SV×List Blk:=((.agg [li r.2.Op,li r.2.Size,li r.2.Reg,li r.2.Ea.Mode,li r.2.Ea.Reg,li r.2.Ea.Ext,li r.2.Sub]),[.box [.imm true 1 r.1.fcode,li r.1.fat, .lit (.int .u64 r.1.fseed)]])
def q168:=DS0 (fun a=>a6P a (MX a)) a6O
theorem bMH:fT (fun live x=>cS (oQ a6N (m6 x)) (fV R 1 9223372036854775808 (.loop live x))) (qL 168).body:=(cF (l:=[([0,2,3],aEO)]) (by kernel_rfl) ⟨fZ (n:=5) (by kernel_rfl) fun σ σr t h ho hl=>a6M σ σr t h ho hl,trivial⟩)
theorem bSK:cG 168 q168:=MK fun a hk=>tcl aE9 bMH [] [] true (aRY a) (a6P a) hk
def Q168:=aT 168 q168 Q91
theorem aK4:QO Q168:=aC bSK aE9
section
variable(a:aI)
def UZ:aI×Int:=(cK 22 (oE 20 (MX a).1).1)
def VA:aI×Int:=(cK 5 (cK 4 (UZ a).1).1)
def aWO:aI×Int:=(cK 9 (rN (VA a).1).1)
end
def T82(a:aI):Pt (aI×aF):=(ot (.ok ((a6O a)&&true) (.ok ((k84 20 (MX a).1)&&true) (.br (oE 20 (MX a).1).2 (.ok ((wG 22 (oE 20 (MX a).1).1)&&((wG 4 (UZ a).1)&&((wG 5 (cK 4 (UZ a).1).1)&&((a6A (VA a).1)&&((wG 9 (rN (VA a).1).1)&&true))))) (ot (ot (.leaf ((aWO a).1,(aF.mk (UZ a).2 (cK 4 (UZ a).1).2 (VA a).2 (rN (VA a).1).2 (aWO a).2)))))) (ot (ot (.leaf ((oE 20 (MX a).1).1,(MX a).2))))))))
def g82(a:aI):aI×aF:=hid (T82 a).val
def k82(a:aI):Bool:=hid (T82 a).okv
def q82:=DS0 (fun a=>a6P a (g82 a)) k82
theorem t82:cG 82 q82:=MK fun a hk=>tc aK4 (T82 a) (a6P a) hk
def Q82:=aT 82 q82 Q168
theorem aFE:QO Q82:=aC t82 aK4
structure V231_0 where
 mk::
 (b0:aI)
 (s3:List Row)
 (s4:Int)
section
variable(v:V231_0)
def FY:Nat:=(ln (v.s3++[(aF.row (MX v.b0).2)]))
end
def KB(v:V231_0):Pt (Option V231_0):=(ot (.br (pG v.s4 0) (.ok ((a6O v.b0)&&(((e1 (ln v.s3))&&((eD (0+(ln v.s3)) (ln v.s3))&&((qN (vC ((ln v.s3)+1) 56) 140737488355328)&&(qN ((ln v.s3)+1) 140737488355328))))&&true)) (ot (.ok (((e1 (FY v))&&true)&&((e1 (FY v))&&true)) (.leaf (some (V231_0.mk (MX v.b0).1 (v.s3++[(aF.row (MX v.b0).2)]) (bZ v.s4 1))))))) (.leaf none)))
def PN(v:V231_0):St:=⟨[(0,(.one (.ptr 0 0 0))),(3,(.one (.sl 1 0 (ln v.s3)))),(4,(.one (li v.s4)))],[.box [.imm true 1 v.b0.fcode,li v.b0.fat, .lit (.int .u64 v.b0.fseed)], .lst 7 v.s3]⟩
def XG:St→Option (V231_0×Bool)
 |⟨[(0,(.one (.ptr 0 0 0))),(3,(.one (.sl 1 0 l1))),(4,(.one (li c3)))],[.box [.imm true 1 c0,li c1, .lit (.int .u64 c2)], .lst 7 c_1]⟩=>some ((V231_0.mk (aI.mk c0 c1 c2) c_1 c3),eD l1 (ln c_1)&&(true))
 |_=>none
def XH:St→Option (Pt Out):=yI Q82 ([(1000000,[])]++HD 231) [] true [] 1 9223372036854775808 aES
theorem a6Q(v:V231_0):((XH (PN v)).bind (tF true false 1 [0,3,4]))=some ((KB v).map (Option.map PN)):=by kernel_rfl
theorem a6R(σ:St)(v:V231_0)(h:XG σ=some (v,true)):σ=PN v:=by
 unfold XG at h;split at h
 ·obtain⟨hr,hk⟩:=qp (qi h);obtain⟨d0,hk0⟩:=bB hk;obtain rfl:=of_decide_eq_true d0;rw[←hr];rfl
 ·simp at h
theorem a6S:cS (wD true false 1 [0,3,4] XH XG PN KB 9223372036854775808) (fV R 1 9223372036854775808 (.loop [0,3,4] aES)):=d8 (cW aFE (cF (l:=[]) (by kernel_rfl) trivial)) a6R a6Q
def a6T:Lp:=(12,wD true false 1 [0,3,4] XH XG PN KB 9223372036854775808)::[]
def PO(v:V231_0):V231_0:=(hid (dV KB 9223372036854775808 v)).getD v
def XI(v:V231_0):Bool:=(hid (dV KB 9223372036854775808 v)).isSome
section
variable(a:aI)
def PP:aI×Int:=(cK 2 (oE 20 (cK 8 a).1).1)
def gJ:V231_0:=(PO (V231_0.mk (PP a).1 [] (aV 40 (PP a).2)))
def PQ:aI:=(aI.mk (bif (pG (bL (gJ a).s3) 0)then(oE 20 (gJ a).b0).1.fcode else(gJ a).b0.fcode) (bif (pG (bL (gJ a).s3) 0)then(oE 20 (gJ a).b0).1.fat else(gJ a).b0.fat) (bif (pG (bL (gJ a).s3) 0)then(oE 20 (gJ a).b0).1.fseed else(gJ a).b0.fseed))
def KC:List Row:=(bif (pG (bL (gJ a).s3) 0)then(gJ a).s3 else(gJ a).s3)
def aFF:List Row:=(List.set (KC a) 0 (aF.row (g82 (PQ a)).2))
def aFG:Bool:=((e1 (ln (gJ a).s3))&&true)
def aFH:List Row:=(List.take (ln (gJ a).s3) (aFF a))
def aFI:List Row:=(List.take (ln (gJ a).s3) (KC a))
def gK:V231_0:=(PO (V231_0.mk (oE 20 (cK 8 a).1).1 [] (cK 8 a).2))
def PR:aI:=(aI.mk (bif (pG (bL (gK a).s3) 0)then(oE 20 (gK a).b0).1.fcode else(gK a).b0.fcode) (bif (pG (bL (gK a).s3) 0)then(oE 20 (gK a).b0).1.fat else(gK a).b0.fat) (bif (pG (bL (gK a).s3) 0)then(oE 20 (gK a).b0).1.fseed else(gK a).b0.fseed))
def DW:List Row:=(bif (pG (bL (gK a).s3) 0)then(gK a).s3 else(gK a).s3)
def XJ:List Row:=(List.set (DW a) 0 (aF.row (g82 (PR a)).2))
def XK:Bool:=((e1 (ln (gK a).s3))&&true)
def XL:List Row:=(List.take (ln (gK a).s3) (XJ a))
def XM:List Row:=(List.take (ln (gK a).s3) (DW a))
end
def aWP(a:aI):Pt (aI×List Row):=(ot (ot (.ok ((wG 8 a)&&true) (.ok ((k84 20 (cK 8 a).1)&&true) (.br (oE 20 (cK 8 a).1).2 (.ok ((wG 2 (oE 20 (cK 8 a).1).1)&&true) (ot (ot (.ok (XI (V231_0.mk (PP a).1 [] (aV 40 (PP a).2))) (.ok ((qN (0+(ln (gJ a).s3)) (ln (gJ a).s3))&&((((k84 20 (gJ a).b0)&&true)||(!(pG (bL (gJ a).s3) 0)))&&true)) (.br (bif (pG (bL (gJ a).s3) 0)then(oE 20 (gJ a).b0).2 else false) (.ok ((k82 (PQ a))&&((ltI 0 (bL (gJ a).s3))&&(((blt 0 (ln (KC a)))&&(jT (jU (KC a) 0) 7))&&true))) (ot (.ok ((((qN (0+(ln (gJ a).s3)) (ln (aFF a)))&&true)&&(aFG a))&&((eD (ln (gJ a).s3) (ln (aFH a)))&&true)) (.leaf ((g82 (PQ a)).1,(aFH a)))))) (ot (.ok ((((qN (0+(ln (gJ a).s3)) (ln (KC a)))&&true)&&(aFG a))&&((eD (ln (gJ a).s3) (ln (aFI a)))&&true)) (.leaf ((PQ a),(aFI a))))))))))) (ot (ot (.ok (XI (V231_0.mk (oE 20 (cK 8 a).1).1 [] (cK 8 a).2)) (.ok ((qN (0+(ln (gK a).s3)) (ln (gK a).s3))&&((((k84 20 (gK a).b0)&&true)||(!(pG (bL (gK a).s3) 0)))&&true)) (.br (bif (pG (bL (gK a).s3) 0)then(oE 20 (gK a).b0).2 else false) (.ok ((k82 (PR a))&&((ltI 0 (bL (gK a).s3))&&(((blt 0 (ln (DW a)))&&(jT (jU (DW a) 0) 7))&&true))) (ot (.ok ((((qN (0+(ln (gK a).s3)) (ln (XJ a)))&&true)&&(XK a))&&((eD (ln (gK a).s3) (ln (XL a)))&&true)) (.leaf ((g82 (PR a)).1,(XL a)))))) (ot (.ok ((((qN (0+(ln (gK a).s3)) (ln (DW a)))&&true)&&(XK a))&&((eD (ln (gK a).s3) (ln (XM a)))&&true)) (.leaf ((PR a),(XM a)))))))))))))))
def MY(a:aI):aI×List Row:=hid (aWP a).val
def bEP(a:aI):Bool:=hid (aWP a).okv
def bMJ(a:aI)(r:aI×List Row):SV×List Blk:=((.one (.sl 1 0 (ln r.2))),[.box [.imm true 1 r.1.fcode,li r.1.fat, .lit (.int .u64 r.1.fseed)], .lst 7 r.2])
def q231:=DS0 (fun a=>bMJ a (MY a)) bEP
theorem bMK:fT (fun live x=>cS (oQ a6T (m6 x)) (fV R 1 9223372036854775808 (.loop live x))) (qL 231).body:=(cF (l:=[([0,3,4],aES)]) (by kernel_rfl) ⟨fZ (n:=12) (by kernel_rfl) fun σ σr t h ho hl=>a6S σ σr t h ho hl,trivial⟩)
theorem bSL:cG 231 q231:=MK fun a hk=>tcl aFE bMK [(1000000,[])] [] true (aWP a) (bMJ a) hk
def Q231:=aT 231 q231 Q82
theorem aK5:QO Q231:=aC bSL aFE
def aFJ(a:aF):Pt (List Row):=(ot (ot (.ok ((aRT a.Ea.Mode)&&true) (.br (aRS a.Ea.Mode) (ot (ot (ot (.leaf [(aU (cD (cD (cD (cD (cD (hX a.Op 11) (hX (bZ a.Size 1) 10)) (hX a.Reg 8)) (hX a.Ea.Mode 5)) (hX a.Ea.Reg 3)) a.Sub)),(aU a.Ea.Ext)])))) (ot (ot (.leaf [(aU (cD (cD (cD (cD (cD (hX a.Op 11) (hX (bZ a.Size 1) 10)) (hX a.Reg 8)) (hX a.Ea.Mode 5)) (hX a.Ea.Reg 3)) a.Sub))])))))))
def D2(a:aF):List Row:=hid (aFJ a).val
def aWQ(a:aF):Bool:=hid (aFJ a).okv
def a6U(a:aF)(r:List Row):SV×List Blk:=((.one (.sl 0 0 (ln r))),[.lst 1 r])
def q136:=HE (fun a=>a6U a (D2 a)) aWQ
theorem bSM:cG 136 q136:=kD fun a hk=>tc aK5 (aFJ a) (a6U a) hk
def Q136:=aT 136 q136 Q231
theorem XN:QO Q136:=aC bSM aK5
def AS8(a:List Row):List SV:=[(.one (.imm false 7 a))]
def HS8(a:List Row):List Blk:=[]
def DS8(N:List Row→SV×List Blk)(K:List Row→Bool):List SV→List Blk→Option ((SV×List Blk)×Bool)
 |[(.one (.imm false 7 c0))],[]=>some (N c0,K c0)
 |_,_=>none
theorem bML{N:List Row→SV×List Blk}{K:List Row→Bool}{f:Nat}(h: ∀(a:List Row),K a=true→dL R f (AS8 a) (HS8 a)=some (N a)):cG f (DS8 N K):=fun _ _ _ e=>by
 unfold DS8 at e;split at e
 ·exact BT e (h _)
 ·cases e
structure V230_0 where
 mk::
 (s0:List Row)
 (s4:List Row)
 (s7:List Row)
 (s8:Int)
 (s9:Int)
section
variable(v:V230_0)
def vD:List Row:=(D2 (aF.at v.s7 (iN v.s9) 0))
def FZ:Nat:=((ln v.s4)+(ln (vD v)))
def GA:Bool:=((e1 (ln (v.s4++(vD v))))&&true)
end
def KD(v:V230_0):Pt (Option V230_0):=(ot (.br (ltI v.s9 v.s8) (.ok ((gN [.int .i64, .int .i64, .int .i64, .int .i64, .int .i64, .int .i64, .int .i64] v.s7 v.s9)&&true) (.ok ((HG (aF.at v.s7 (iN v.s9) 0))&&true) (.br (!(HF (aF.at v.s7 (iN v.s9) 0))) (ot (.leaf none)) (.ok ((aWQ (aF.at v.s7 (iN v.s9) 0))&&(((e1 (ln v.s4))&&((e1 (ln (vD v)))&&((eD (0+(ln v.s4)) (ln v.s4))&&((qN (vC (FZ v) 8) 140737488355328)&&(qN (FZ v) 140737488355328)))))&&true)) (ot (.ok ((GA v)&&(GA v)) (.leaf (some {v with s4:=(v.s4++(vD v)),s9:=(aV v.s9 1)})))))))) (.leaf none)))
def PS(v:V230_0):St:=⟨[(0,(.one (.imm false 7 v.s0))),(4,(.one (.sl 0 0 (ln v.s4)))),(7,(.one (.imm false 7 v.s7))),(8,(.one (li v.s8))),(9,(.one (li v.s9)))],[.lst 1 v.s4]⟩
def XO:St→Option (V230_0×Bool)
 |⟨[(0,(.one (.imm false 7 c0))),(4,(.one (.sl 0 0 l0))),(7,(.one (.imm false 7 c1))),(8,(.one (li c2))),(9,(.one (li c3)))],[.lst 1 c_0]⟩=>some ((V230_0.mk c0 c_0 c1 c2 c3),eD l0 (ln c_0)&&(true))
 |_=>none
def XP:St→Option (Pt Out):=yI Q136 ([]++HD 230) [] true [] 0 9223372036854775808 aER
theorem a6V(v:V230_0):((XP (PS v)).bind (tF true false 0 [0,4,7,8,9]))=some ((KD v).map (Option.map PS)):=by kernel_rfl
theorem a6W(σ:St)(v:V230_0)(h:XO σ=some (v,true)):σ=PS v:=by
 unfold XO at h;split at h
 ·obtain⟨hr,hk⟩:=qp (qi h);obtain⟨d0,hk0⟩:=bB hk;obtain rfl:=of_decide_eq_true d0;rw[←hr];rfl
 ·simp at h
theorem a6X:cS (wD true false 0 [0,4,7,8,9] XP XO PS KD 9223372036854775808) (fV R 0 9223372036854775808 (.loop [0,4,7,8,9] aER)):=d8 (cW XN (cF (l:=[]) (by kernel_rfl) trivial)) a6W a6V
def a6Y:Lp:=(10,wD true false 0 [0,4,7,8,9] XP XO PS KD 9223372036854775808)::[]
def aFK(v:V230_0):V230_0:=(hid (dV KD 9223372036854775808 v)).getD v
def aFL(v:V230_0):Bool:=(hid (dV KD 9223372036854775808 v)).isSome
section
variable(a:List Row)
def KE:V230_0:=(aFK (V230_0.mk a [] a (bL a) 0))
def aFM:Bool:=((e1 (ln (KE a).s4))&&true)
end
def aWR(a:List Row):Pt (List Row×Bool):=(ot (ot (ot (ot (ot (.ok (aFL (V230_0.mk a [] a (bL a) 0)) (.br (ltI (KE a).s9 (KE a).s8) (ot (.leaf ([],false))) (ot (.br (pG (bL (KE a).s0) 40) (ot (ot (.leaf ([],false)))) (ot (.ok ((aFM a)&&(aFM a)) (.leaf ((KE a).s4,true)))))))))))))
def aFN(a:List Row):List Row×Bool:=hid (aWR a).val
def bEQ(a:List Row):Bool:=hid (aWR a).okv
def bMM(a:List Row)(r:List Row×Bool):SV×List Blk:=((.tup [(.one (.sl 0 0 (ln r.1))),(.one (.lit (.bool r.2)))]),[.lst 1 r.1])
def q230:=DS8 (fun a=>bMM a (aFN a)) bEQ
theorem bMN:fT (fun live x=>cS (oQ a6Y (m6 x)) (fV R 0 9223372036854775808 (.loop live x))) (qL 230).body:=(cF (l:=[([0,4,7,8,9],aER)]) (by kernel_rfl) ⟨fZ (n:=10) (by kernel_rfl) fun σ σr t h ho hl=>a6X σ σr t h ho hl,trivial⟩)
theorem bSO:cG 230 q230:=bML fun a hk=>tcl XN bMN [] [] true (aWR a) (bMM a) hk
def Q230:=aT 230 q230 Q136
theorem XQ:QO Q230:=aC bSO XN
structure V165_0 where
 mk::
 (b0:aI)
 (s4:Int)
 (s5:List Row)
 (s16:Int)
 (s17:Int)
section
variable(v:V165_0)
def GB:List Row:=(List.set v.s5 (0+(iN v.s17)) (aU (cK 256 (oE 8 v.b0).1).2))
def GC:Bool:=((eD (ln v.s5) (ln (GB v)))&&true)
end
def KF(v:V165_0):Pt (Option V165_0):=(ot (.br (ltI v.s17 v.s16) (ot (.ok ((k84 8 v.b0)&&true) (.br (oE 8 v.b0).2 (.ok ((wG 256 (oE 8 v.b0).1)&&(((leI 0 v.s17)&&(ltI v.s17 (bL v.s5)))&&(((blt (0+(iN v.s17)) (ln v.s5))&&(jT (jU v.s5 (0+(iN v.s17))) 1))&&true))) (ot (.ok (((GC v)&&((e1 (ln v.s5))&&true))&&((GC v)&&true)) (.leaf (some (V165_0.mk (cK 256 (oE 8 v.b0).1).1 v.s4 (GB v) v.s16 (aV v.s17 1))))))) (ot (.ok ((((e1 (ln v.s5))&&true)&&((e1 (ln v.s5))&&true))&&(((e1 (ln v.s5))&&true)&&true)) (.leaf (some {v with b0:=(oE 8 v.b0).1,s17:=(aV v.s17 1)}))))))) (.leaf none)))
def PT(v:V165_0):St:=⟨[(0,(.one (.ptr 0 0 0))),(4,(.one (li v.s4))),(5,(.one (.sl 1 0 (ln v.s5)))),(16,(.one (li v.s16))),(17,(.one (li v.s17)))],[.box [.imm true 1 v.b0.fcode,li v.b0.fat, .lit (.int .u64 v.b0.fseed)], .lst 1 v.s5]⟩
def XR:St→Option (V165_0×Bool)
 |⟨[(0,(.one (.ptr 0 0 0))),(4,(.one (li c3))),(5,(.one (.sl 1 0 l1))),(16,(.one (li c4))),(17,(.one (li c5)))],[.box [.imm true 1 c0,li c1, .lit (.int .u64 c2)], .lst 1 c_1]⟩=>some ((V165_0.mk (aI.mk c0 c1 c2) c3 c_1 c4 c5),eD l1 (ln c_1)&&(true))
 |_=>none
def XS:St→Option (Pt Out):=yI Q84 ([(1000003,[])]++HD 165) [] true [] 1 9223372036854775808 aEL
theorem a6Z(v:V165_0):((XS (PT v)).bind (tF true true 1 [0,4,5,16,17]))=some ((KF v).map (Option.map PT)):=by kernel_rfl
theorem a60(σ:St)(v:V165_0)(h:XR σ=some (v,true)):σ=PT v:=by
 unfold XR at h;split at h
 ·obtain⟨hr,hk⟩:=qp (qi h);obtain⟨d0,hk0⟩:=bB hk;obtain rfl:=of_decide_eq_true d0;rw[←hr];rfl
 ·simp at h
theorem a61:cS (wD true true 1 [0,4,5,16,17] XS XR PT KF 9223372036854775808) (fV R 1 9223372036854775808 (.loop [0,4,5,16,17] aEL)):=d8 (cW aE3 (cF (l:=[]) (by kernel_rfl) trivial)) a60 a6Z
def aK6:Lp:=(18,wD true true 1 [0,4,5,16,17] XS XR PT KF 9223372036854775808)::[]
def PU(v:V165_0):V165_0:=(hid (dV KF 9223372036854775808 v)).getD v
def aFO(v:V165_0):Bool:=(hid (dV KF 9223372036854775808 v)).isSome
structure V165_1 where
 mk::
 (b0:aI)
 (s4:Int)
 (s5:List Row)
 (s34:List Row)
 (s35:Int)
 (s36:Int)
section
variable(v:V165_1)
def GD:Bool:=(ltI (aV (aV v.s4 (dB 2 v.s36)) 1) (bL v.s5))
def z9:Nat:=(0+(iN (aV v.s4 (dB 2 v.s36))))
def AA:Nat:=(0+(iN (aV (aV v.s4 (dB 2 v.s36)) 1)))
def AB:List Row:=(List.set v.s5 (z9 v) (aU (lO (bD v.s34 (0+(iN v.s36)) 0) 8)))
def GE:List Row:=(List.set (AB v) (AA v) (aU (aD (bD v.s34 (0+(iN v.s36)) 0) 255)))
def GF:Bool:=((eD (ln v.s5) (ln (GE v)))&&((e1 (ln v.s34))&&true))
def vE:Bool:=((e1 (ln v.s5))&&((e1 (ln v.s34))&&true))
end
def KG(v:V165_1):Pt (Option V165_1):=(ot (.br (ltI v.s36 v.s35) (.ok (((leI 0 v.s36)&&(ltI v.s36 (bL v.s34)))&&((dM [.int .i64] v.s34 (0+(iN v.s36)) 0)&&true)) (.ok ((qN (0+(ln v.s5)) (ln v.s5))&&true) (.br (GD v) (.ok (((leI 0 (aV v.s4 (dB 2 v.s36)))&&(ltI (aV v.s4 (dB 2 v.s36)) (bL v.s5)))&&(((blt (z9 v) (ln v.s5))&&(jT (jU v.s5 (z9 v)) 1))&&true)) (.ok (((leI 0 (aV (aV v.s4 (dB 2 v.s36)) 1))&&(GD v))&&(((blt (AA v) (ln (AB v)))&&(jT (jU (AB v) (AA v)) 1))&&true)) (ot (.ok (((GF v)&&(vE v))&&((GF v)&&true)) (.leaf (some {v with s5:=(GE v),s36:=(aV v.s36 1)})))))) (ot (.ok (((vE v)&&(vE v))&&((vE v)&&true)) (.leaf (some {v with s36:=(aV v.s36 1)}))))))) (.leaf none)))
def PV(v:V165_1):St:=⟨[(4,(.one (li v.s4))),(5,(.one (.sl 1 0 (ln v.s5)))),(34,(.one (.sl 2 0 (ln v.s34)))),(35,(.one (li v.s35))),(36,(.one (li v.s36)))],[.box [.imm true 1 v.b0.fcode,li v.b0.fat, .lit (.int .u64 v.b0.fseed)], .lst 1 v.s5, .lst 1 v.s34]⟩
def XT:St→Option (V165_1×Bool)
 |⟨[(4,(.one (li c3))),(5,(.one (.sl 1 0 l1))),(34,(.one (.sl 2 0 l2))),(35,(.one (li c4))),(36,(.one (li c5)))],[.box [.imm true 1 c0,li c1, .lit (.int .u64 c2)], .lst 1 c_1, .lst 1 c_2]⟩=>some ((V165_1.mk (aI.mk c0 c1 c2) c3 c_1 c_2 c4 c5),eD l1 (ln c_1)&&(eD l2 (ln c_2)&&(true)))
 |_=>none
def XU:St→Option (Pt Out):=yI Q230 ([(1000003,[])]++HD 165) [] true aK6 1 9223372036854775808 aEM
theorem a62(v:V165_1):((XU (PV v)).bind (tF true true 1 [4,5,34,35,36]))=some ((KG v).map (Option.map PV)):=by kernel_rfl
theorem a63(σ:St)(v:V165_1)(h:XT σ=some (v,true)):σ=PV v:=by
 unfold XT at h;split at h
 ·obtain⟨hr,hk⟩:=qp (qi h);obtain⟨d0,hk0⟩:=bB hk;obtain⟨d1,hk1⟩:=bB hk0;obtain rfl:=of_decide_eq_true d0;obtain rfl:=of_decide_eq_true d1;rw[←hr];rfl
 ·simp at h
theorem a64:cS (wD true true 1 [4,5,34,35,36] XU XT PV KG 9223372036854775808) (fV R 1 9223372036854775808 (.loop [4,5,34,35,36] aEM)):=d8 (cW XQ (cF (l:=[]) (by kernel_rfl) trivial)) a63 a62
def a65:Lp:=(37,wD true true 1 [4,5,34,35,36] XU XT PV KG 9223372036854775808)::aK6
def PW(v:V165_1):V165_1:=(hid (dV KG 9223372036854775808 v)).getD v
def aFP(v:V165_1):Bool:=(hid (dV KG 9223372036854775808 v)).isSome
section
variable(a:aI)
def oI:V165_0:=(PU (V165_0.mk (cK 30 a).1 (dB 2 (cK 30 a).2) (List.replicate 384 (aU 0)) 384 0))
def XV:Nat:=(ln (aFN (MY (oI a).b0).2).1)
def PX:Bool:=((e1 (ln (oI a).s5))&&((e1 (XV a))&&true))
def PY:V165_1:=(PW (V165_1.mk (MY (oI a).b0).1 (oI a).s4 (oI a).s5 (aFN (MY (oI a).b0).2).1 (bL (aFN (MY (oI a).b0).2).1) 0))
def aFQ:Bool:=((e1 (ln (PY a).s5))&&true)
end
def aWS(a:aI):Pt (aI×List Row×Int):=(ot (.ok ((wG 30 a)&&true) (ot (ot (ot (ot (.ok (aFO (V165_0.mk (cK 30 a).1 (dB 2 (cK 30 a).2) (List.replicate 384 (aU 0)) 384 0)) (.ok ((bEP (oI a).b0)&&((((e1 (ln (MY (oI a).b0).2))&&true)&&(bEQ (MY (oI a).b0).2))&&true)) (.ok ((qN (0+(XV a)) (XV a))&&true) (.ok (((PX a)&&(PX a))&&((PX a)&&true)) (.ok (PX a) (.ok (aFP (V165_1.mk (MY (oI a).b0).1 (oI a).s4 (oI a).s5 (aFN (MY (oI a).b0).2).1 (bL (aFN (MY (oI a).b0).2).1) 0)) (ot (.ok ((aFQ a)&&(aFQ a)) (.leaf ((PY a).b0,(PY a).s5,(PY a).s4))))))))))))))))
def wI(a:aI):aI×List Row×Int:=hid (aWS a).val
def bER(a:aI):Bool:=hid (aWS a).okv
def bMO(a:aI)(r:aI×List Row×Int):SV×List Blk:=((.tup [(.one (.sl 1 0 (ln r.2.1))),(.one (li r.2.2))]),[.box [.imm true 1 r.1.fcode,li r.1.fat, .lit (.int .u64 r.1.fseed)], .lst 1 r.2.1])
def q165:=DS0 (fun a=>bMO a (wI a)) bER
theorem bMP:fT (fun live x=>cS (oQ a65 (m6 x)) (fV R 1 9223372036854775808 (.loop live x))) (qL 165).body:=(cF (l:=[([0,4,5,16,17],aEL),([4,5,34,35,36],aEM)]) (by kernel_rfl) ⟨fZ (n:=18) (by kernel_rfl) fun σ σr t h ho hl=>a61 σ σr t h ho hl,fZ (n:=37) (by kernel_rfl) fun σ σr t h ho hl=>a64 σ σr t h ho hl,trivial⟩)
theorem bSP:cG 165 q165:=MK fun a hk=>tcl XQ bMP [(1000003,[])] [] true (aWS a) (bMO a) hk
def Q165:=aT 165 q165 Q230
theorem aK7:QO Q165:=aC bSP XQ
def AS9:List SV:=[]
def HS9:List Blk:=[]
def DS9(N:SV×List Blk)(K:Bool):List SV→List Blk→Option ((SV×List Blk)×Bool)
 |[],[]=>some (N,K)
 |_,_=>none
theorem bMQ{N:SV×List Blk}{K:Bool}{f:Nat}(h:K=true→dL R f AS9 HS9=some N):cG f (DS9 N K):=fun args hp r e=>by
 unfold DS9 at e;split at e
 ·obtain⟨hr,hk⟩:=qp (qi e);rw[←hr];exact h hk
 ·simp at e
def aWT:Pt (aG):=(ot (ot (ot (.leaf (aG.mk [(aU 0),(aU 0),(aU 0),(aU 0)] [(aU 0),(aU 0),(aU 0),(aU 0)] 0 0 0 7 true false)))))
def D3:aG:=hid (aWT).val
def a66:Bool:=hid (aWT).okv
def bMR(r:aG):SV×List Blk:=((.agg [.sl 0 0 (ln r.D), .sl 1 0 (ln r.A),li r.Other,li r.PC,li r.Flags,li r.Mask, .lit (.bool r.Super), .lit (.bool r.Trace)]),[.lst 1 r.D, .lst 1 r.A])
def q208:=DS9 (bMR (D3)) a66
theorem bSR:cG 208 q208:=bMQ fun hk=>tc aK7 aWT bMR hk
def Q208:=aT 208 q208 Q165
theorem XW:QO Q208:=aC bSR aK7
structure V166_0 where
 mk::
 (b0:aI)
 (b1:aG)
 (b2:aG)
 (s4:Int)
section
variable(v:V166_0)
def AC:Bool:=(((D1 [(aU 0),(aU 1),(aU 2),(aU 5),(aU 128),(aU 255),(aU 32768),(aU 65535)] v.b0)&&(((leI 0 v.s4)&&(ltI v.s4 (bL v.b2.D)))&&(((blt (0+(iN v.s4)) (ln v.b2.D))&&(jT (jU v.b2.D (0+(iN v.s4))) 1))&&true)))&&true)
def pJ:aI×Int:=(uJ [(aU 0),(aU 1),(aU 2),(aU 5),(aU 128),(aU 255),(aU 32768),(aU 65535)] v.b0)
def vF:List Row:=(List.set v.b2.D (0+(iN v.s4)) (aU (pJ v).2))
def GG:Bool:=(r1 [(aU 0),(aU 1),(aU 2),(aU 5),(aU 128),(aU 255),(aU 32768),(aU 65535)])
def GH:Bool:=(((s1 v.s4)&&true)&&((((s1 true)&&(r1 (pJ v).1.fcode))&&((s1 (pJ v).1.fat)&&((s1 (pJ v).1.fseed)&&true)))&&((jV v.b1 true)&&((jV v.b2 true)&&(kH v.b1 ((r1 (vF v))&&((r1 v.b2.A)&&(GG&&true))))))))
def AD:Bool:=(((D1 [(aU 0),(aU 2),(aU 20),(aU 40),(aU 100),(aU 300),(aU 301),(aU 384),(aU 448),(aU 500),(aU 65534)] (pJ v).1)&&(((leI 0 v.s4)&&(ltI v.s4 (bL v.b2.A)))&&(((blt (0+(iN v.s4)) (ln v.b2.A))&&(jT (jU v.b2.A (0+(iN v.s4))) 1))&&true)))&&true)
def rR:aI×Int:=(uJ [(aU 0),(aU 2),(aU 20),(aU 40),(aU 100),(aU 300),(aU 301),(aU 384),(aU 448),(aU 500),(aU 65534)] (pJ v).1)
def AE:List Row:=(List.set v.b2.A (0+(iN v.s4)) (aU (rR v).2))
def GI:Bool:=(((s1 v.s4)&&true)&&((((s1 true)&&(r1 (rR v).1.fcode))&&((s1 (rR v).1.fat)&&((s1 (rR v).1.fseed)&&true)))&&((jV v.b1 true)&&((jV v.b2 true)&&(kH v.b1 ((r1 (vF v))&&((r1 (AE v))&&(GG&&((r1 [(aU 0),(aU 2),(aU 20),(aU 40),(aU 100),(aU 300),(aU 301),(aU 384),(aU 448),(aU 500),(aU 65534)])&&true)))))))))
def GJ:Bool:=((eD (ln v.b2.D) (ln (vF v)))&&((eD (ln v.b2.A) (ln (AE v)))&&true))
end
def KH(v:V166_0):Pt (Option V166_0):=(ot (.br (ltI v.s4 4) (.ok ((AC v)&&(((AC v)&&((AC v)&&(GH v)))&&(GH v))) (.ok ((AD v)&&(((AD v)&&((AD v)&&(GI v)))&&(GI v))) (ot (.ok ((((aK v.b1 true)&&((aK v.b2 true)&&(aK v.b1 (GJ v))))&&true)&&((aK v.b1 true)&&((GJ v)&&true))) (.leaf (some (V166_0.mk (rR v).1 v.b1 {v.b2 with D:=(vF v),A:=(AE v)} (aV v.s4 1)))))))) (.leaf none)))
def PZ(v:V166_0):St:=⟨[(0,(.one (.ptr 0 0 0))),(2,(.one (.ptr 1 0 0))),(3,(.one (.ptr 2 0 0))),(4,(.one (li v.s4)))],[.box [.imm true 1 v.b0.fcode,li v.b0.fat, .lit (.int .u64 v.b0.fseed)], .box [.sl 3 0 (ln v.b1.D), .sl 4 0 (ln v.b1.A),li v.b1.Other,li v.b1.PC,li v.b1.Flags,li v.b1.Mask, .lit (.bool v.b1.Super), .lit (.bool v.b1.Trace)], .box [.sl 5 0 (ln v.b2.D), .sl 6 0 (ln v.b2.A),li v.b2.Other,li v.b2.PC,li v.b2.Flags,li v.b2.Mask, .lit (.bool v.b2.Super), .lit (.bool v.b2.Trace)], .lst 1 v.b1.D, .lst 1 v.b1.A, .lst 1 v.b2.D, .lst 1 v.b2.A]⟩
def XX:St→Option (V166_0×Bool)
 |⟨[(0,(.one (.ptr 0 0 0))),(2,(.one (.ptr 1 0 0))),(3,(.one (.ptr 2 0 0))),(4,(.one (li c15)))],[.box [.imm true 1 c0,li c1, .lit (.int .u64 c2)], .box [.sl 3 0 l3, .sl 4 0 l4,li c3,li c4,li c5,li c6, .lit (.bool c7), .lit (.bool c8)], .box [.sl 5 0 l5, .sl 6 0 l6,li c9,li c10,li c11,li c12, .lit (.bool c13), .lit (.bool c14)], .lst 1 c_3, .lst 1 c_4, .lst 1 c_5, .lst 1 c_6]⟩=>some ((V166_0.mk (aI.mk c0 c1 c2) (aG.mk c_3 c_4 c3 c4 c5 c6 c7 c8) (aG.mk c_5 c_6 c9 c10 c11 c12 c13 c14) c15),eD l3 (ln c_3)&&(eD l4 (ln c_4)&&(eD l5 (ln c_5)&&(eD l6 (ln c_6)&&(true)))))
 |_=>none
def XY:St→Option (Pt Out):=yI Q208 ([(1000001,[]),(1000003,[])]++HD 166) [] true [] 1 9223372036854775808 aEN
theorem a67(v:V166_0):((XY (PZ v)).bind (tF true true 1 [0,2,3,4]))=some ((KH v).map (Option.map PZ)):=by kernel_rfl
theorem a68(σ:St)(v:V166_0)(h:XX σ=some (v,true)):σ=PZ v:=by
 unfold XX at h;split at h
 ·obtain⟨hr,hk⟩:=qp (qi h);obtain⟨d0,hk0⟩:=bB hk;obtain⟨d1,hk1⟩:=bB hk0;obtain⟨d2,hk2⟩:=bB hk1;obtain⟨d3,hk3⟩:=bB hk2;obtain rfl:=of_decide_eq_true d0;obtain rfl:=of_decide_eq_true d1;obtain rfl:=of_decide_eq_true d2;obtain rfl:=of_decide_eq_true d3;rw[←hr];rfl
 ·simp at h
theorem a69:cS (wD true true 1 [0,2,3,4] XY XX PZ KH 9223372036854775808) (fV R 1 9223372036854775808 (.loop [0,2,3,4] aEN)):=d8 (cW XW (cF (l:=[]) (by kernel_rfl) trivial)) a68 a67
def a7A:Lp:=(6,wD true true 1 [0,2,3,4] XY XX PZ KH 9223372036854775808)::[]
def XZ(v:V166_0):V166_0:=(hid (dV KH 9223372036854775808 v)).getD v
def aFR(v:V166_0):Bool:=(hid (dV KH 9223372036854775808 v)).isSome
section
variable(a:aI)
def i6:V166_0:=(XZ (V166_0.mk a (aG.mk [] [] 0 0 0 0 false false) (D3) 0))
def X0:Bool:=(((D1 [(aU 200),(aU 202),(aU 380),(aU 65534),(aU 0),(aU 301)] (i6 a).b0)&&((ltI 3 (bL (i6 a).b2.A))&&(((blt 3 (ln (i6 a).b2.A))&&(jT (jU (i6 a).b2.A 3) 1))&&true)))&&true)
def GK:aI×Int:=(uJ [(aU 200),(aU 202),(aU 380),(aU 65534),(aU 0),(aU 301)] (i6 a).b0)
def KI:List Row:=(List.set (i6 a).b2.A 3 (aU (GK a).2))
def aFS:Bool:=((((s1 true)&&(r1 (GK a).1.fcode))&&((s1 (GK a).1.fat)&&((s1 (GK a).1.fseed)&&true)))&&((jV (i6 a).b1 true)&&((jV (i6 a).b2 true)&&(kH (i6 a).b1 ((r1 (i6 a).b2.D)&&((r1 (KI a))&&((r1 [(aU 200),(aU 202),(aU 380),(aU 65534),(aU 0),(aU 301)])&&true)))))))
def KJ:aI×Int:=(uJ [(aU 300),(aU 0),(aU 447)] (GK a).1)
def xN:aI×Int:=(uJ [(aU 0),(aU 2),(aU 10),(aU 40),(aU 384),(aU 3),(aU 448)] (KJ a).1)
def AF:aI×Int:=(cK 8 (cK 32 (xN a).1).1)
def xO:aI×Bool:=(oE 8 (oE 3 (AF a).1).1)
def aFT:List Row:=(List.set (i6 a).b2.D 0 (aU 65536))
def X1:Bool:=((eD (ln (i6 a).b2.A) (ln (KI a)))&&true)
def X2:Bool:=((eD (ln (i6 a).b2.D) (ln (aFT a)))&&(X1 a))
def X3:Bool:=((e1 (ln (i6 a).b2.D))&&(X1 a))
def X4:Bool:=(((X3 a)&&((aK (i6 a).b2 true)&&true))&&((X3 a)&&true))
end
def aWU(a:aI):Pt (aI×aG):=(ot (.ok ((a66)&&true) (ot (.ok (dd (aK (D3) true) ((aK (D3) true)&&true)) (.ok (aK (D3) true) (.ok (aFR (V166_0.mk a (aG.mk [] [] 0 0 0 0 false false) (D3) 0)) (.ok ((X0 a)&&(((X0 a)&&((X0 a)&&(aFS a)))&&(aFS a))) (.ok ((D1 [(aU 300),(aU 0),(aU 447)] (GK a).1)&&true) (.ok ((D1 [(aU 0),(aU 2),(aU 10),(aU 40),(aU 384),(aU 3),(aU 448)] (KJ a).1)&&true) (.ok ((wG 32 (xN a).1)&&true) (.ok ((wG 8 (cK 32 (xN a).1).1)&&true) (.ok ((k84 3 (AF a).1)&&true) (.ok ((k84 8 (oE 3 (AF a).1).1)&&true) (.ok ((wG 60 (xO a).1)&&true) (ot (.br (eqI (cK 60 (xO a).1).2 0) (.ok ((ltI 0 (bL (i6 a).b2.D))&&(((blt 0 (ln (i6 a).b2.D))&&(jT (jU (i6 a).b2.D 0) 1))&&true)) (ot (.ok (((X2 a)&&((aK (i6 a).b2 true)&&true))&&((X2 a)&&true)) (.leaf ((cK 60 (xO a).1).1,(aG.mk (aFT a) (KI a) (KJ a).2 (xN a).2 (cK 32 (xN a).1).2 (AF a).2 (!(oE 3 (AF a).1).2) (xO a).2)))))) (ot (.br (eqI (cK 60 (xO a).1).2 1) (ot (ot (.ok (X4 a) (.leaf ((cK 60 (xO a).1).1,(aG.mk (i6 a).b2.D (KI a) (KJ a).2 (xN a).2 (cK 32 (xN a).1).2 8 (!(oE 3 (AF a).1).2) (xO a).2)))))) (ot (.ok (X4 a) (.leaf ((cK 60 (xO a).1).1,(aG.mk (i6 a).b2.D (KI a) (KJ a).2 (xN a).2 (cK 32 (xN a).1).2 (AF a).2 (!(oE 3 (AF a).1).2) (xO a).2)))))))))))))))))))))))
def MZ(a:aI):aI×aG:=hid (aWU a).val
def bES(a:aI):Bool:=hid (aWU a).okv
def bMS(a:aI)(r:aI×aG):SV×List Blk:=((.agg [.sl 1 0 (ln r.2.D), .sl 2 0 (ln r.2.A),li r.2.Other,li r.2.PC,li r.2.Flags,li r.2.Mask, .lit (.bool r.2.Super), .lit (.bool r.2.Trace)]),[.box [.imm true 1 r.1.fcode,li r.1.fat, .lit (.int .u64 r.1.fseed)], .lst 1 r.2.D, .lst 1 r.2.A])
def q166:=DS0 (fun a=>bMS a (MZ a)) bES
theorem bMT:fT (fun live x=>cS (oQ a7A (m6 x)) (fV R 1 9223372036854775808 (.loop live x))) (qL 166).body:=(cF (l:=[([0,2,3,4],aEN)]) (by kernel_rfl) ⟨fZ (n:=6) (by kernel_rfl) fun σ σr t h ho hl=>a69 σ σr t h ho hl,trivial⟩)
theorem bSS:cG 166 q166:=MK fun a hk=>tcl XW bMT [(1000001,[]),(1000003,[])] [] true (aWU a) (bMS a) hk
def Q166:=aT 166 q166 Q208
theorem X5:QO Q166:=aC bSS XW
def bST(a:List Row):List SV:=[(.one (.imm false 1 a))]
def bSU(a:List Row):List Blk:=[]
def bET(N:List Row→SV×List Blk)(K:List Row→Bool):List SV→List Blk→Option ((SV×List Blk)×Bool)
 |[(.one (.imm false 1 c0))],[]=>some (N c0,K c0)
 |_,_=>none
theorem bEU{N:List Row→SV×List Blk}{K:List Row→Bool}{f:Nat}(h: ∀(a:List Row),K a=true→dL R f (bST a) (bSU a)=some (N a)):cG f (bET N K):=fun _ _ _ e=>by
 unfold bET at e;split at e
 ·exact BT e (h _)
 ·cases e
structure V245_0 where
 mk::
 (s5:List Row)
 (s6:Int)
 (s7:Int)
def KK(v:V245_0):Pt (Option V245_0):=(ot (.br (ltI v.s7 v.s6) (.ok ((gN [.int .i64] v.s5 v.s7)&&true) (.ok ((yT (bD v.s5 (iN v.s7) 0) 0 255)&&true) (.br (!(wH (bD v.s5 (iN v.s7) 0) 0 255)) (ot (.leaf none)) (ot (ot (.leaf (some {v with s7:=(aV v.s7 1)}))))))) (.leaf none)))
def P0(v:V245_0):St:=⟨[(5,(.one (.imm false 1 v.s5))),(6,(.one (li v.s6))),(7,(.one (li v.s7)))],[]⟩
def X6:St→Option (V245_0×Bool)
 |⟨[(5,(.one (.imm false 1 c0))),(6,(.one (li c1))),(7,(.one (li c2)))],[]⟩=>some ((V245_0.mk c0 c1 c2),true)
 |_=>none
def X7:St→Option (Pt Out):=yI Q166 ([]++HD 245) [] true [] 0 9223372036854775808 J6
theorem a7B(v:V245_0):((X7 (P0 v)).bind (tF true false 0 [5,6,7]))=some ((KK v).map (Option.map P0)):=by kernel_rfl
theorem a7C(σ:St)(v:V245_0)(h:X6 σ=some (v,true)):σ=P0 v:=by
 unfold X6 at h;split at h
 ·obtain⟨hr,hk⟩:=qp (qi h);rw[←hr];rfl
 ·simp at h
theorem a7D:cS (wD true false 0 [5,6,7] X7 X6 P0 KK 9223372036854775808) (fV R 0 9223372036854775808 (.loop [5,6,7] J6)):=d8 (cW X5 (cF (l:=[]) (by kernel_rfl) trivial)) a7C a7B
def a7E:Lp:=(8,wD true false 0 [5,6,7] X7 X6 P0 KK 9223372036854775808)::[]
def X8(v:V245_0):V245_0:=(hid (dV KK 9223372036854775808 v)).getD v
def aFU(v:V245_0):Bool:=(hid (dV KK 9223372036854775808 v)).isSome
section
variable(a:List Row)
def aFV:V245_0:=(X8 (V245_0.mk a (bL a) 0))
end
def a7F(a:List Row):Pt (Bool):=(ot (ot (ot (ot (.ok (aFU (V245_0.mk a (bL a) 0)) (.br (ltI (aFV a).s7 (aFV a).s6) (ot (ot (.leaf false))) (ot (ot (ot (.leaf true))))))))))
def aRZ(a:List Row):Bool:=hid (a7F a).val
def aWV(a:List Row):Bool:=hid (a7F a).okv
def IM(a:List Row)(r:Bool):SV×List Blk:=((.one (.lit (.bool r))),[])
def q245:=bET (fun a=>IM a (aRZ a)) aWV
theorem bMU:fT (fun live x=>cS (oQ a7E (m6 x)) (fV R 0 9223372036854775808 (.loop live x))) (qL 245).body:=(cF (l:=[([5,6,7],J6)]) (by kernel_rfl) ⟨fZ (n:=8) (by kernel_rfl) fun σ σr t h ho hl=>a7D σ σr t h ho hl,trivial⟩)
theorem bSV:cG 100245 q245:=bEU fun a hk=>tzl X5 bMU [] [] true (a7F a) (IM a) hk
def Q245:=aT 100245 q245 Q166
theorem NG:QO Q245:=aC bSV X5
def bSW(a:List Row)(b:List Row):List SV:=[(.one (.imm false 1 a)),(.one (.imm false 1 b))]
def bSX(a:List Row)(b:List Row):List Blk:=[]
def bEV(N:List Row→List Row→SV×List Blk)(K:List Row→List Row→Bool):List SV→List Blk→Option ((SV×List Blk)×Bool)
 |[(.one (.imm false 1 c0)),(.one (.imm false 1 c1))],[]=>some (N c0 c1,K c0 c1)
 |_,_=>none
theorem bEW{N:List Row→List Row→SV×List Blk}{K:List Row→List Row→Bool}{f:Nat}(h: ∀(a:List Row)(b:List Row),K a b=true→dL R f (bSW a b) (bSX a b)=some (N a b)):cG f (bEV N K):=fun _ _ _ e=>by
 unfold bEV at e;split at e
 ·exact BT e (h _ _)
 ·cases e
structure V232_0 where
 mk::
 (b0:bG)
 (b1:bG)
 (s1:List Row)
 (s32:List Row)
 (s33:Int)
 (s34:Int)
section
variable(v:V232_0)
def GL:List Row:=(List.set v.b1.Bytes (0+(iN v.s34)) (aU (bD v.s32 (iN v.s34) 0)))
def GM:Bool:=((eD (ln v.b1.Bytes) (ln (GL v)))&&((e1 (ln v.b1.Log))&&true))
end
def CA(v:V232_0):Pt (Option V232_0):=(ot (.br (ltI v.s34 v.s33) (.ok ((gN [.int .i64] v.s32 v.s34)&&true) (.ok (((leI 0 v.s34)&&(ltI v.s34 (bL v.b1.Bytes)))&&(((blt (0+(iN v.s34)) (ln v.b1.Bytes))&&(jT (jU v.b1.Bytes (0+(iN v.s34))) 1))&&true)) (ot (.ok ((((bH v.b0 true)&&((bH v.b1 true)&&(bH v.b0 (GM v))))&&true)&&((bH v.b0 true)&&((GM v)&&true))) (.leaf (some {v with b1:={v.b1 with Bytes:=(GL v)},s34:=(aV v.s34 1)})))))) (.leaf none)))
def P1(v:V232_0):St:=⟨[(1,(.one (.imm false 1 v.s1))),(4,(.one (.ptr 0 0 0))),(6,(.one (.ptr 1 0 0))),(32,(.one (.imm false 1 v.s32))),(33,(.one (li v.s33))),(34,(.one (li v.s34)))],[.box [.sl 2 0 (ln v.b0.Bytes), .sl 3 0 (ln v.b0.Log)], .box [.sl 4 0 (ln v.b1.Bytes), .sl 5 0 (ln v.b1.Log)], .lst 1 v.b0.Bytes, .lst 5 v.b0.Log, .lst 1 v.b1.Bytes, .lst 5 v.b1.Log]⟩
def X9:St→Option (V232_0×Bool)
 |⟨[(1,(.one (.imm false 1 c0))),(4,(.one (.ptr 0 0 0))),(6,(.one (.ptr 1 0 0))),(32,(.one (.imm false 1 c1))),(33,(.one (li c2))),(34,(.one (li c3)))],[.box [.sl 2 0 l2, .sl 3 0 l3], .box [.sl 4 0 l4, .sl 5 0 l5], .lst 1 c_2, .lst 5 c_3, .lst 1 c_4, .lst 5 c_5]⟩=>some ((V232_0.mk (bG.mk c_2 c_3) (bG.mk c_4 c_5) c0 c1 c2 c3),eD l2 (ln c_2)&&(eD l3 (ln c_3)&&(eD l4 (ln c_4)&&(eD l5 (ln c_5)&&(true)))))
 |_=>none
def YA:St→Option (Pt Out):=yI Q245 ([(1000003,[])]++HD 232) [] true [] 0 9223372036854775808 aET
theorem a7G(v:V232_0):((YA (P1 v)).bind (tF true true 0 [1,4,6,32,33,34]))=some ((CA v).map (Option.map P1)):=by kernel_rfl
theorem a7H(σ:St)(v:V232_0)(h:X9 σ=some (v,true)):σ=P1 v:=by
 unfold X9 at h;split at h
 ·obtain⟨hr,hk⟩:=qp (qi h);obtain⟨d0,hk0⟩:=bB hk;obtain⟨d1,hk1⟩:=bB hk0;obtain⟨d2,hk2⟩:=bB hk1;obtain⟨d3,hk3⟩:=bB hk2;obtain rfl:=of_decide_eq_true d0;obtain rfl:=of_decide_eq_true d1;obtain rfl:=of_decide_eq_true d2;obtain rfl:=of_decide_eq_true d3;rw[←hr];rfl
 ·simp at h
theorem a7I:cS (wD true true 0 [1,4,6,32,33,34] YA X9 P1 CA 9223372036854775808) (fV R 0 9223372036854775808 (.loop [1,4,6,32,33,34] aET)):=d8 (cW NG (cF (l:=[]) (by kernel_rfl) trivial)) a7H a7G
def aK8:Lp:=(35,wD true true 0 [1,4,6,32,33,34] YA X9 P1 CA 9223372036854775808)::[]
def aWW(v:V232_0):V232_0:=(hid (dV CA 9223372036854775808 v)).getD v
def aWX(v:V232_0):Bool:=(hid (dV CA 9223372036854775808 v)).isSome
structure V232_1 where
 mk::
 (b0:bG)
 (b1:bG)
 (s45:List Row)
 (s46:Int)
 (s47:Int)
section
variable(v:V232_1)
def GN:List Row:=(List.set v.b1.Bytes (0+(iN (aV 384 v.s47))) (aU (bD v.s45 (iN v.s47) 0)))
def GO:Bool:=((eD (ln v.b1.Bytes) (ln (GN v)))&&((e1 (ln v.b1.Log))&&true))
end
def CB(v:V232_1):Pt (Option V232_1):=(ot (.br (ltI v.s47 v.s46) (.ok ((gN [.int .i64] v.s45 v.s47)&&true) (.ok (((leI 0 (aV 384 v.s47))&&(ltI (aV 384 v.s47) (bL v.b1.Bytes)))&&(((blt (0+(iN (aV 384 v.s47))) (ln v.b1.Bytes))&&(jT (jU v.b1.Bytes (0+(iN (aV 384 v.s47)))) 1))&&true)) (ot (.ok ((((bH v.b0 true)&&((bH v.b1 true)&&(bH v.b0 (GO v))))&&true)&&((bH v.b0 true)&&((GO v)&&true))) (.leaf (some {v with b1:={v.b1 with Bytes:=(GN v)},s47:=(aV v.s47 1)})))))) (.leaf none)))
def P2(v:V232_1):St:=⟨[(4,(.one (.ptr 0 0 0))),(6,(.one (.ptr 1 0 0))),(45,(.one (.imm false 1 v.s45))),(46,(.one (li v.s46))),(47,(.one (li v.s47)))],[.box [.sl 2 0 (ln v.b0.Bytes), .sl 3 0 (ln v.b0.Log)], .box [.sl 4 0 (ln v.b1.Bytes), .sl 5 0 (ln v.b1.Log)], .lst 1 v.b0.Bytes, .lst 5 v.b0.Log, .lst 1 v.b1.Bytes, .lst 5 v.b1.Log]⟩
def YB:St→Option (V232_1×Bool)
 |⟨[(4,(.one (.ptr 0 0 0))),(6,(.one (.ptr 1 0 0))),(45,(.one (.imm false 1 c0))),(46,(.one (li c1))),(47,(.one (li c2)))],[.box [.sl 2 0 l2, .sl 3 0 l3], .box [.sl 4 0 l4, .sl 5 0 l5], .lst 1 c_2, .lst 5 c_3, .lst 1 c_4, .lst 5 c_5]⟩=>some ((V232_1.mk (bG.mk c_2 c_3) (bG.mk c_4 c_5) c0 c1 c2),eD l2 (ln c_2)&&(eD l3 (ln c_3)&&(eD l4 (ln c_4)&&(eD l5 (ln c_5)&&(true)))))
 |_=>none
def YC:St→Option (Pt Out):=yI Q245 ([(1000003,[])]++HD 232) [] true aK8 0 9223372036854775808 aEU
theorem a7J(v:V232_1):((YC (P2 v)).bind (tF true true 0 [4,6,45,46,47]))=some ((CB v).map (Option.map P2)):=by kernel_rfl
theorem a7K(σ:St)(v:V232_1)(h:YB σ=some (v,true)):σ=P2 v:=by
 unfold YB at h;split at h
 ·obtain⟨hr,hk⟩:=qp (qi h);obtain⟨d0,hk0⟩:=bB hk;obtain⟨d1,hk1⟩:=bB hk0;obtain⟨d2,hk2⟩:=bB hk1;obtain⟨d3,hk3⟩:=bB hk2;obtain rfl:=of_decide_eq_true d0;obtain rfl:=of_decide_eq_true d1;obtain rfl:=of_decide_eq_true d2;obtain rfl:=of_decide_eq_true d3;rw[←hr];rfl
 ·simp at h
theorem a7L:cS (wD true true 0 [4,6,45,46,47] YC YB P2 CB 9223372036854775808) (fV R 0 9223372036854775808 (.loop [4,6,45,46,47] aEU)):=d8 (cW NG (cF (l:=[]) (by kernel_rfl) trivial)) a7K a7J
def a7M:Lp:=(48,wD true true 0 [4,6,45,46,47] YC YB P2 CB 9223372036854775808)::aK8
def aFW(v:V232_1):V232_1:=(hid (dV CB 9223372036854775808 v)).getD v
def aWY(v:V232_1):Bool:=(hid (dV CB 9223372036854775808 v)).isSome
section
variable(a:List Row)(b:List Row)
def lB:V232_0:=(aWW (V232_0.mk (bG.mk [] []) (bG.mk (List.replicate 512 (aU 0)) []) b a (bL a) 0))
def aFX:Bool:=(bH (lB a b).b0 (bH (lB a b).b1 true))
def aFY:Bool:=(bH (aFW (V232_1.mk (lB a b).b0 (lB a b).b1 (lB a b).s1 (bL (lB a b).s1) 0)).b1 true)
end
def aWZ(a:List Row)(b:List Row):Pt (bG×Bool):=(ot (.ok ((aWV a)&&((((aWV b)&&true)||(!(aRZ a)))&&true)) (.br (bif (bif (bif (!(aRZ a))then true else(!(aRZ b)))then true else(pG (bL a) 384))then true else(pG (bL b) 64)) (ot (ot (.leaf ((bG.mk [] []),false)))) (ot (ot (ot (ot (.ok (aWX (V232_0.mk (bG.mk [] []) (bG.mk (List.replicate 512 (aU 0)) []) b a (bL a) 0)) (ot (.ok ((((bH (lB a b).b0 true)&&((bH (lB a b).b1 true)&&(aFX a b)))&&true)&&((bH (lB a b).b0 true)&&((bH (lB a b).b1 true)&&true))) (.ok (aFX a b) (.ok (aWY (V232_1.mk (lB a b).b0 (lB a b).b1 (lB a b).s1 (bL (lB a b).s1) 0)) (ot (.ok ((aFY a b)&&((aFY a b)&&true)) (.leaf ((aFW (V232_1.mk (lB a b).b0 (lB a b).b1 (lB a b).s1 (bL (lB a b).s1) 0)).b1,true))))))))))))))))
def aCH(a:List Row)(b:List Row):bG×Bool:=hid (aWZ a b).val
def a7N(a:List Row)(b:List Row):Bool:=hid (aWZ a b).okv
def bMV(a:List Row)(b:List Row)(r:bG×Bool):SV×List Blk:=((.tup [(.agg [.sl 0 0 (ln r.1.Bytes), .sl 1 0 (ln r.1.Log)]),(.one (.lit (.bool r.2)))]),[.lst 1 r.1.Bytes, .lst 5 r.1.Log])
def q232:=bEV (fun a b=>bMV a b (aCH a b)) a7N
theorem bMW:fT (fun live x=>cS (oQ a7M (m6 x)) (fV R 0 9223372036854775808 (.loop live x))) (qL 232).body:=(cF (l:=[([1,4,6,32,33,34],aET),([4,6,45,46,47],aEU)]) (by kernel_rfl) ⟨fZ (n:=35) (by kernel_rfl) fun σ σr t h ho hl=>a7I σ σr t h ho hl,fZ (n:=48) (by kernel_rfl) fun σ σr t h ho hl=>a7L σ σr t h ho hl,trivial⟩)
theorem bSY:cG 232 q232:=bEW fun a b hk=>tcl NG bMW [(1000003,[])] [] true (aWZ a b) (bMV a b) hk
def Q232:=aT 232 q232 Q245
theorem aK9:QO Q232:=aC bSY NG
def bSZ(a:List Row)(b:Int):List SV:=[(.one (.imm false 1 a)),(.one (li b))]
def bS0(a:List Row)(b:Int):List Blk:=[]
def bEX(N:List Row→Int→SV×List Blk)(K:List Row→Int→Bool):List SV→List Blk→Option ((SV×List Blk)×Bool)
 |[(.one (.imm false 1 c0)),(.one (li c1))],[]=>some (N c0 c1,K c0 c1)
 |_,_=>none
theorem bEY{N:List Row→Int→SV×List Blk}{K:List Row→Int→Bool}{f:Nat}(h: ∀(a:List Row)(b:Int),K a b=true→dL R f (bSZ a b) (bS0 a b)=some (N a b)):cG f (bEX N K):=fun _ _ _ e=>by
 unfold bEX at e;split at e
 ·exact BT e (h _ _)
 ·cases e
section
variable(a:List Row)
def aFZ:Bool:=((e1 (ln (D3).D))&&((eD (ln (D3).A) (ln (List.set (D3).A 3 (aU 384))))&&(bH (aCH a []).1 true)))
end
def aW0(a:List Row)(b:Int):Pt (aH×Bool):=(ot (.ok ((a7N a [])&&true) (.ok ((((k92 b)&&true)||(!(aCH a []).2))&&true) (.br (bif (!(aCH a []).2)then true else(!(g92 b))) (ot (ot (.leaf ((aH.mk (aG.mk [] [] 0 0 0 0 false false) (bG.mk [] []) false false),false)))) (.ok ((a66)&&true) (ot (.ok ((ltI 3 (bL (D3).A))&&(((blt 3 (ln (D3).A))&&(jT (jU (D3).A 3) 1))&&true)) (ot (.ok (((aFZ a)&&((aK (D3) (bH (aCH a []).1 true))&&true))&&(((aFZ a)&&true)&&true)) (.leaf ((aH.mk {(D3)with A:=(List.set (D3).A 3 (aU 384)),PC:=b} (aCH a []).1 false false),true)))))))))))
def S6(a:List Row)(b:Int):aH×Bool:=hid (aW0 a b).val
def aW1(a:List Row)(b:Int):Bool:=hid (aW0 a b).okv
def bMX(a:List Row)(b:Int)(r:aH×Bool):SV×List Blk:=((.tup [(.agg [.sl 0 0 (ln r.1.R.D), .sl 1 0 (ln r.1.R.A),li r.1.R.Other,li r.1.R.PC,li r.1.R.Flags,li r.1.R.Mask, .lit (.bool r.1.R.Super), .lit (.bool r.1.R.Trace), .sl 2 0 (ln r.1.Bus.Bytes), .sl 3 0 (ln r.1.Bus.Log), .lit (.bool r.1.Stop), .lit (.bool r.1.Halt)]),(.one (.lit (.bool r.2)))]),[.lst 1 r.1.R.D, .lst 1 r.1.R.A, .lst 1 r.1.Bus.Bytes, .lst 5 r.1.Bus.Log])
def q167:=bEX (fun a b=>bMX a b (S6 a b)) aW1
theorem bS1:cG 167 q167:=bEY fun a b hk=>tcx aK9 [(1000001,[])] [] true (aW0 a b) (bMX a b) hk
def Q167:=aT 167 q167 Q232
theorem aLA:QO Q167:=aC bS1 aK9
section
variable(a:aI)
def IN:aH×Bool:=(S6 (wI a).2.1 (wI a).2.2)
def uD:aI×Int:=(cK 60 (MZ (wI a).1).1)
def EM:Bool:=(aK (MZ (wI a).1).2 (bH (S6 [] 0).1.Bus true))
def aCI:aG:={(MZ (wI a).1).2 with PC:=(S6 [] 0).1.R.PC}
def EN:Bool:=(aK (MZ (wI a).1).2 (bH (IN a).1.Bus true))
def aCJ:aG:={(MZ (wI a).1).2 with PC:=(IN a).1.R.PC}
end
def T81(a:aI):Pt (aI×aH):=(ot (.ok ((bER a)&&true) (.ok ((bES (wI a).1)&&true) (.ok ((((e1 (ln (wI a).2.1))&&true)&&(aW1 (wI a).2.1 (wI a).2.2))&&true) (ot (.br (!(IN a).2) (.ok ((aW1 [] 0)&&true) (ot (ot (ot (.ok ((wG 60 (MZ (wI a).1).1)&&true) (ot (.br (eqI (uD a).2 0) (ot (ot (.ok ((EM a)&&((EM a)&&true)) (.leaf ((uD a).1,{(S6 [] 0).1 with R:=(aCI a),Stop:=true}))))) (ot (.br (eqI (uD a).2 1) (ot (ot (.ok ((EM a)&&((EM a)&&true)) (.leaf ((uD a).1,{(S6 [] 0).1 with R:=(aCI a),Halt:=true}))))) (ot (.br (eqI (uD a).2 2) (ot (ot (.ok ((EM a)&&((EM a)&&true)) (.leaf ((uD a).1,{(S6 [] 0).1 with R:=(MZ (wI a).1).2}))))) (ot (.ok ((EM a)&&((EM a)&&true)) (.leaf ((uD a).1,{(S6 [] 0).1 with R:=(aCI a)}))))))))))))))) (ot (ot (ot (.ok ((wG 60 (MZ (wI a).1).1)&&true) (ot (.br (eqI (uD a).2 0) (ot (ot (.ok ((EN a)&&((EN a)&&true)) (.leaf ((uD a).1,{(IN a).1 with R:=(aCJ a),Stop:=true}))))) (ot (.br (eqI (uD a).2 1) (ot (ot (.ok ((EN a)&&((EN a)&&true)) (.leaf ((uD a).1,{(IN a).1 with R:=(aCJ a),Halt:=true}))))) (ot (.br (eqI (uD a).2 2) (ot (ot (.ok ((EN a)&&((EN a)&&true)) (.leaf ((uD a).1,{(IN a).1 with R:=(MZ (wI a).1).2}))))) (ot (.ok ((EN a)&&((EN a)&&true)) (.leaf ((uD a).1,{(IN a).1 with R:=(aCJ a)}))))))))))))))))))))
def g81(a:aI):aI×aH:=hid (T81 a).val
def k81(a:aI):Bool:=hid (T81 a).okv
def n81(a:aI)(r:aI×aH):SV×List Blk:=((.agg [.sl 1 0 (ln r.2.R.D), .sl 2 0 (ln r.2.R.A),li r.2.R.Other,li r.2.R.PC,li r.2.R.Flags,li r.2.R.Mask, .lit (.bool r.2.R.Super), .lit (.bool r.2.R.Trace), .sl 3 0 (ln r.2.Bus.Bytes), .sl 4 0 (ln r.2.Bus.Log), .lit (.bool r.2.Stop), .lit (.bool r.2.Halt)]),[.box [.imm true 1 r.1.fcode,li r.1.fat, .lit (.int .u64 r.1.fseed)], .lst 1 r.2.R.D, .lst 1 r.2.R.A, .lst 1 r.2.Bus.Bytes, .lst 5 r.2.Bus.Log])
def q81:=DS0 (fun a=>n81 a (g81 a)) k81
theorem t81:cG 81 q81:=MK fun a hk=>tc aLA (T81 a) (n81 a) hk
def Q81:=aT 81 q81 Q167
theorem aW2:QO Q81:=aC t81 aLA
def bS3(a:List Row):List SV:=[(.one (.imm true 1 a))]
def bS4(a:List Row):List Blk:=[]
def aF0(N:List Row→SV×List Blk)(K:List Row→Bool):List SV→List Blk→Option ((SV×List Blk)×Bool)
 |[(.one (.imm true 1 c0))],[]=>some (N c0,K c0)
 |_,_=>none
theorem P3{N:List Row→SV×List Blk}{K:List Row→Bool}{f:Nat}(h: ∀(a:List Row),K a=true→dL R f (bS3 a) (bS4 a)=some (N a)):cG f (aF0 N K):=fun _ _ _ e=>by
 unfold aF0 at e;split at e
 ·exact BT e (h _)
 ·cases e
section
variable(a:List Row)
def VB:aI×aF:=(g82 (g81 (aI.mk a 0 0)).1)
def aW3:Bool:=((aS (g81 (aI.mk a 0 0)).2 true)&&true)
end
def T10(a:List Row):Pt (aH×aF×Int×Bool):=(ot (ot (.ok ((k81 (aI.mk a 0 0))&&((k82 (g81 (aI.mk a 0 0)).1)&&((wG 200 (VB a).1)&&((k84 3 (cK 200 (VB a).1).1)&&true)))) (.ok ((aS (g81 (aI.mk a 0 0)).2 true)&&(aW3 a)) (.ok (aW3 a) (.leaf ((g81 (aI.mk a 0 0)).2,(VB a).2,(dB 2 (cK 200 (VB a).1).2),(oE 3 (cK 200 (VB a).1).1).2)))))))
def jW(a:List Row):aH×aF×Int×Bool:=hid (T10 a).val
def k10(a:List Row):Bool:=hid (T10 a).okv
def n10(a:List Row)(r:aH×aF×Int×Bool):SV×List Blk:=((.tup [(.agg [.imm true 1 r.1.R.D, .imm true 1 r.1.R.A,li r.1.R.Other,li r.1.R.PC,li r.1.R.Flags,li r.1.R.Mask, .lit (.bool r.1.R.Super), .lit (.bool r.1.R.Trace), .imm true 1 r.1.Bus.Bytes, .imm true 5 r.1.Bus.Log, .lit (.bool r.1.Stop), .lit (.bool r.1.Halt)]),(.agg [li r.2.1.Op,li r.2.1.Size,li r.2.1.Reg,li r.2.1.Ea.Mode,li r.2.1.Ea.Reg,li r.2.1.Ea.Ext,li r.2.1.Sub]),(.one (li r.2.2.1)),(.one (.lit (.bool r.2.2.2)))]),[])
def q10:=aF0 (fun a=>n10 a (jW a)) k10
theorem t10:cG 100010 q10:=P3 fun a hk=>tz aW2 (T10 a) (n10 a) hk
def Q10:=aT 100010 q10 Q81
theorem aW4:QO Q10:=aC t10 aW2
def aW5(a:Int)(b:Int)(c:Int):Pt (Bool):=(ot (ot (ot (ot (.leaf (bif (jO a b)then(leI a c)else false))))))
def wJ(a:Int)(b:Int)(c:Int):Bool:=hid (aW5 a b c).val
def yU(a:Int)(b:Int)(c:Int):Bool:=hid (aW5 a b c).okv
def q109:=DS5 (fun a b c=>a6C a b c (wJ a b c)) yU
theorem bS6:cG 100109 q109:=BU fun a b c hk=>tz aW4 (aW5 a b c) (a6C a b c) hk
def Q109:=aT 100109 q109 Q10
theorem aLB:QO Q109:=aC bS6 aW4
def T87(a:Int):Pt (Bool):=(ot (.ok ((yU a 0 65535)&&true) (ot (ot (.leaf (wJ a 0 65535))))))
def g87(a:Int):Bool:=hid (T87 a).val
def k87(a:Int):Bool:=hid (T87 a).okv
def q87:=AZ (fun a=>kG a (g87 a)) k87
theorem t87:cG 100087 q87:=gX fun a hk=>tz aLB (T87 a) (kG a) hk
def Q87:=aT 100087 q87 Q109
theorem aW8:QO Q87:=aC t87 aLB
def aW9(a:Int):Pt (Bool):=(ot (.ok ((k87 a)&&true) (ot (.leaf (!(g87 a))))))
def a7O(a:Int):Bool:=hid (aW9 a).val
def a7P(a:Int):Bool:=hid (aW9 a).okv
def q320:=AZ (fun a=>kG a (a7O a)) a7P
theorem bS7:cG 320 q320:=gX fun a hk=>tc aW8 (aW9 a) (kG a) hk
def Q320:=aT 320 q320 Q87
theorem YD:QO Q320:=aC bS7 aW8
def bS8(a:List Row):List SV:=[(.one (.imm true 1 a)),(.one (.clo 320 []))]
def bS9(a:List Row):List Blk:=[]
def a7Q(N:List Row→SV×List Blk)(K:List Row→Bool):List SV→List Blk→Option ((SV×List Blk)×Bool)
 |[(.one (.imm true 1 c0)),(.one (.clo 320 []))],[]=>some (N c0,K c0)
 |_,_=>none
theorem aXA{N:List Row→SV×List Blk}{K:List Row→Bool}{f:Nat}(h: ∀(a:List Row),K a=true→dL R f (bS8 a) (bS9 a)=some (N a)):cG f (a7Q N K):=fun _ _ _ e=>by
 unfold a7Q at e;split at e
 ·exact BT e (h _)
 ·cases e
structure V275_0 where
 mk::
 (s0:List Row)
 (s7:Int)
 (s8:Int)
def KL(v:V275_0):Pt (Option V275_0):=(ot (.br (ltI v.s8 v.s7) (ot (.ok ((gN [.int .i64] v.s0 v.s8)&&((a7P (bD v.s0 (iN v.s8) 0))&&true)) (.br (a7O (bD v.s0 (iN v.s8) 0)) (ot (.leaf none)) (ot (ot (.leaf (some {v with s8:=(aV v.s8 1)}))))))) (.leaf none)))
def P4(v:V275_0):St:=⟨[(0,(.one (.imm true 1 v.s0))),(1,(.one (.clo 320 []))),(7,(.one (li v.s7))),(8,(.one (li v.s8)))],[]⟩
def YE:St→Option (V275_0×Bool)
 |⟨[(0,(.one (.imm true 1 c0))),(1,(.one (.clo 320 []))),(7,(.one (li c1))),(8,(.one (li c2)))],[]⟩=>some ((V275_0.mk c0 c1 c2),true)
 |_=>none
def YF:St→Option (Pt Out):=yI Q320 ([]++HD 275) [] true [] 0 9223372036854775808 J7
theorem a7R(v:V275_0):((YF (P4 v)).bind (tF true false 0 [0,1,7,8]))=some ((KL v).map (Option.map P4)):=by kernel_rfl
theorem a7S(σ:St)(v:V275_0)(h:YE σ=some (v,true)):σ=P4 v:=by
 unfold YE at h;split at h
 ·obtain⟨hr,hk⟩:=qp (qi h);rw[←hr];rfl
 ·simp at h
theorem a7T:cS (wD true false 0 [0,1,7,8] YF YE P4 KL 9223372036854775808) (fV R 0 9223372036854775808 (.loop [0,1,7,8] J7)):=d8 (cW YD (cF (l:=[]) (by kernel_rfl) trivial)) a7S a7R
def a7U:Lp:=(9,wD true false 0 [0,1,7,8] YF YE P4 KL 9223372036854775808)::[]
def P5(v:V275_0):V275_0:=(hid (dV KL 9223372036854775808 v)).getD v
def aF1(v:V275_0):Bool:=(hid (dV KL 9223372036854775808 v)).isSome
section
variable(a:List Row)
def YG:V275_0:=(P5 (V275_0.mk a (bL a) 0))
end
def a7V(a:List Row):Pt (Int):=(ot (ot (ot (ot (.ok (aF1 (V275_0.mk a (bL a) 0)) (.br (ltI (YG a).s8 (YG a).s7) (ot (.leaf (YG a).s8)) (ot (ot (.leaf (-1))))))))))
def a7W(a:List Row):Int:=hid (a7V a).val
def a7X(a:List Row):Bool:=hid (a7V a).okv
def aCK(a:List Row)(r:Int):SV×List Blk:=((.one (li r)),[])
def q275:=a7Q (fun a=>aCK a (a7W a)) a7X
theorem bM0:fT (fun live x=>cS (oQ a7U (m6 x)) (fV R 0 9223372036854775808 (.loop live x))) (qL 275).body:=(cF (l:=[([0,1,7,8],J7)]) (by kernel_rfl) ⟨fZ (n:=9) (by kernel_rfl) fun σ σr t h ho hl=>a7T σ σr t h ho hl,trivial⟩)
theorem bTA:cG 275 q275:=aXA fun a hk=>tcl YD bM0 [] [] true (a7V a) (aCK a) hk
def Q275:=aT 275 q275 Q320
theorem aLC:QO Q275:=aC bTA YD
def a7Y(a:List Row):Pt (Bool):=(ot (.ok ((a7X a)&&true) (ot (.leaf (jO (a7W a) 0)))))
def aXB(a:List Row):Bool:=hid (a7Y a).val
def aXC(a:List Row):Bool:=hid (a7Y a).okv
def q222:=a7Q (fun a=>IM a (aXB a)) aXC
theorem bTB:cG 222 q222:=aXA fun a hk=>tc aLC (a7Y a) (IM a) hk
def Q222:=aT 222 q222 Q275
theorem aLD:QO Q222:=aC bTB aLC
def aXD(a:List Row):Pt (Bool):=(ot (.ok ((((aXC a)&&true)||(!(eqI (bL a) 4)))&&true) (ot (ot (.leaf (bif (eqI (bL a) 4)then(!(aXB a))else false))))))
def aXE(a:List Row):Bool:=hid (aXD a).val
def a7Z(a:List Row):Bool:=hid (aXD a).okv
def q268:=aF0 (fun a=>IM a (aXE a)) a7Z
theorem bTC:cG 100268 q268:=P3 fun a hk=>tz aLD (aXD a) (IM a) hk
def Q268:=aT 100268 q268 Q222
theorem aLE:QO Q268:=aC bTC aLD
def aXF(a:Int):Pt (Bool):=(ot (.ok ((yU a 0 31)&&true) (ot (ot (.leaf (wJ a 0 31))))))
def bE0(a:Int):Bool:=hid (aXF a).val
def bE1(a:Int):Bool:=hid (aXF a).okv
def q269:=AZ (fun a=>kG a (bE0 a)) bE1
theorem bTD:cG 100269 q269:=gX fun a hk=>tz aLE (aXF a) (kG a) hk
def Q269:=aT 100269 q269 Q268
theorem aLF:QO Q269:=aC bTD aLE
def bTE(a:aG):List SV:=[(.agg [.imm true 1 a.D, .imm true 1 a.A,li a.Other,li a.PC,li a.Flags,li a.Mask, .lit (.bool a.Super), .lit (.bool a.Trace)])]
def bTF(a:aG):List Blk:=[]
def a70(N:aG→SV×List Blk)(K:aG→Bool):List SV→List Blk→Option ((SV×List Blk)×Bool)
 |[(.agg [.imm true 1 c0, .imm true 1 c1,li c2,li c3,li c4,li c5, .lit (.bool c6), .lit (.bool c7)])],[]=>some (N (aG.mk c0 c1 c2 c3 c4 c5 c6 c7),K (aG.mk c0 c1 c2 c3 c4 c5 c6 c7))
 |_,_=>none
theorem aXG{N:aG→SV×List Blk}{K:aG→Bool}{f:Nat}(h: ∀(a:aG),K a=true→dL R f (bTE a) (bTF a)=some (N a)):cG f (a70 N K):=fun _ _ _ e=>by
 unfold a70 at e;split at e
 ·exact BT e (h _)
 ·cases e
section
variable(a:aG)
def aF2:Bool:=(bif (aXE a.D)then(aXE a.A)else false)
def aF3:Bool:=(bif (aF2 a)then(g87 a.Other)else false)
def aF4:Bool:=(bif (aF3 a)then(g87 a.PC)else false)
def aF5:Bool:=(bif (aF4 a)then(bE0 a.Flags)else false)
end
def aXH(a:aG):Pt (Bool):=(ot (.ok ((a7Z a.D)&&((((a7Z a.A)&&true)||(!(aXE a.D)))&&((((k87 a.Other)&&true)||(!(aF2 a)))&&((((k87 a.PC)&&true)||(!(aF3 a)))&&((((bE1 a.Flags)&&true)||(!(aF4 a)))&&((((yU a.Mask 0 7)&&true)||(!(aF5 a)))&&true)))))) (ot (ot (.leaf (bif (aF5 a)then(wJ a.Mask 0 7)else false))))))
def a71(a:aG):Bool:=hid (aXH a).val
def bE2(a:aG):Bool:=hid (aXH a).okv
def a72(a:aG)(r:Bool):SV×List Blk:=((.one (.lit (.bool r))),[])
def q200:=a70 (fun a=>a72 a (a71 a)) bE2
theorem bTG:cG 100200 q200:=aXG fun a hk=>tz aLF (aXH a) (a72 a) hk
def Q200:=aT 100200 q200 Q269
theorem aLG:QO Q200:=aC bTG aLF
def aXI(a:Int):Pt (Bool):=(ot (.ok ((yU a 0 255)&&true) (ot (.leaf (!(wJ a 0 255))))))
def a73(a:Int):Bool:=hid (aXI a).val
def a74(a:Int):Bool:=hid (aXI a).okv
def q223:=AZ (fun a=>kG a (a73 a)) a74
theorem bTH:cG 223 q223:=gX fun a hk=>tc aLG (aXI a) (kG a) hk
def Q223:=aT 223 q223 Q200
theorem YH:QO Q223:=aC bTH aLG
def bTI(a:List Row):List SV:=[(.one (.imm true 1 a)),(.one (.clo 223 []))]
def bTJ(a:List Row):List Blk:=[]
def a75(N:List Row→SV×List Blk)(K:List Row→Bool):List SV→List Blk→Option ((SV×List Blk)×Bool)
 |[(.one (.imm true 1 c0)),(.one (.clo 223 []))],[]=>some (N c0,K c0)
 |_,_=>none
theorem aXJ{N:List Row→SV×List Blk}{K:List Row→Bool}{f:Nat}(h: ∀(a:List Row),K a=true→dL R f (bTI a) (bTJ a)=some (N a)):cG f (a75 N K):=fun _ _ _ e=>by
 unfold a75 at e;split at e
 ·exact BT e (h _)
 ·cases e
structure V275v1_0 where
 mk::
 (s0:List Row)
 (s7:Int)
 (s8:Int)
def yV(v:V275v1_0):Pt (Option V275v1_0):=(ot (.br (ltI v.s8 v.s7) (ot (.ok ((gN [.int .i64] v.s0 v.s8)&&((a74 (bD v.s0 (iN v.s8) 0))&&true)) (.br (a73 (bD v.s0 (iN v.s8) 0)) (ot (.leaf none)) (ot (ot (.leaf (some {v with s8:=(aV v.s8 1)}))))))) (.leaf none)))
def CC(v:V275v1_0):St:=⟨[(0,(.one (.imm true 1 v.s0))),(1,(.one (.clo 223 []))),(7,(.one (li v.s7))),(8,(.one (li v.s8)))],[]⟩
def IP:St→Option (V275v1_0×Bool)
 |⟨[(0,(.one (.imm true 1 c0))),(1,(.one (.clo 223 []))),(7,(.one (li c1))),(8,(.one (li c2)))],[]⟩=>some ((V275v1_0.mk c0 c1 c2),true)
 |_=>none
def KM:St→Option (Pt Out):=yI Q223 ([]++HD 275) [] true [] 0 9223372036854775808 J7
theorem aR0(v:V275v1_0):((KM (CC v)).bind (tF true false 0 [0,1,7,8]))=some ((yV v).map (Option.map CC)):=by kernel_rfl
theorem aR1(σ:St)(v:V275v1_0)(h:IP σ=some (v,true)):σ=CC v:=by
 unfold IP at h;split at h
 ·obtain⟨hr,hk⟩:=qp (qi h);rw[←hr];rfl
 ·simp at h
theorem aR2:cS (wD true false 0 [0,1,7,8] KM IP CC yV 9223372036854775808) (fV R 0 9223372036854775808 (.loop [0,1,7,8] J7)):=d8 (cW YH (cF (l:=[]) (by kernel_rfl) trivial)) aR1 aR0
def aR3:Lp:=(9,wD true false 0 [0,1,7,8] KM IP CC yV 9223372036854775808)::[]
def CD(v:V275v1_0):V275v1_0:=(hid (dV yV 9223372036854775808 v)).getD v
def P6(v:V275v1_0):Bool:=(hid (dV yV 9223372036854775808 v)).isSome
section
variable(a:List Row)
def IQ:V275v1_0:=(CD (V275v1_0.mk a (bL a) 0))
end
def YI(a:List Row):Pt (Int):=(ot (ot (ot (ot (.ok (P6 (V275v1_0.mk a (bL a) 0)) (.br (ltI (IQ a).s8 (IQ a).s7) (ot (.leaf (IQ a).s8)) (ot (ot (.leaf (-1))))))))))
def YJ(a:List Row):Int:=hid (YI a).val
def YK(a:List Row):Bool:=hid (YI a).okv
def q275v1:=a75 (fun a=>aCK a (YJ a)) YK
theorem a76:fT (fun live x=>cS (oQ aR3 (m6 x)) (fV R 0 9223372036854775808 (.loop live x))) (qL 275).body:=(cF (l:=[([0,1,7,8],J7)]) (by kernel_rfl) ⟨fZ (n:=9) (by kernel_rfl) fun σ σr t h ho hl=>aR2 σ σr t h ho hl,trivial⟩)
theorem bE3:cG 275 q275v1:=aXJ fun a hk=>tcl YH a76 [] [] true (YI a) (aCK a) hk
def Q275v1:=aT 275 q275v1 Q223
theorem VC:QO Q275v1:=aC bE3 YH
def YL(a:List Row):Pt (Bool):=(ot (.ok ((YK a)&&true) (ot (.leaf (jO (YJ a) 0)))))
def P7(a:List Row):Bool:=hid (YL a).val
def P8(a:List Row):Bool:=hid (YL a).okv
def q222v1:=a75 (fun a=>IM a (P7 a)) P8
theorem bE4:cG 222 q222v1:=aXJ fun a hk=>tc VC (YL a) (IM a) hk
def Q222v1:=aT 222 q222v1 Q275v1
theorem VD:QO Q222v1:=aC bE4 VC
def aF6(a:Int):Pt (Bool):=(ot (ot (ot (ot (.leaf (bif (eqI a 1)then true else(eqI a 2)))))))
def aCL(a:Int):Bool:=hid (aF6 a).val
def aR4(a:Int):Bool:=hid (aF6 a).okv
def q155:=AZ (fun a=>kG a (aCL a)) aR4
theorem bTK:cG 100155 q155:=gX fun a hk=>tz VD (aF6 a) (kG a) hk
def Q155:=aT 100155 q155 Q222v1
theorem aLH:QO Q155:=aC bTK VD
def aF7(a:Int):Pt (Int):=(ot (.ok ((leI 0 (dB 8 a))&&true) (ot (ot (.leaf (hX 1 (dB 8 a)))))))
def pK(a:Int):Int:=hid (aF7 a).val
def CF(a:Int):Bool:=hid (aF7 a).okv
def wK(a:Int)(r:Int):SV×List Blk:=((.one (li r)),[])
def q324:=AZ (fun a=>wK a (pK a)) CF
theorem bTL:cG 100324 q324:=gX fun a hk=>tz aLH (aF7 a) (wK a) hk
def Q324:=aT 100324 q324 Q155
theorem aLI:QO Q324:=aC bTL aLH
def bTM(a:Int)(b:Int):List SV:=[(.one (li a)),(.one (li b))]
def bTN(a:Int)(b:Int):List Blk:=[]
def M1(N:Int→Int→SV×List Blk)(K:Int→Int→Bool):List SV→List Blk→Option ((SV×List Blk)×Bool)
 |[(.one (li c0)),(.one (li c1))],[]=>some (N c0 c1,K c0 c1)
 |_,_=>none
theorem xP{N:Int→Int→SV×List Blk}{K:Int→Int→Bool}{f:Nat}(h: ∀(a:Int)(b:Int),K a b=true→dL R f (bTM a b) (bTN a b)=some (N a b)):cG f (M1 N K):=fun _ _ _ e=>by
 unfold M1 at e;split at e
 ·exact BT e (h _ _)
 ·cases e
def aXK(a:Int)(b:Int):Pt (Bool):=(ot (.ok ((aR4 a)&&((((CF a)&&((yU b 0 (bZ (pK a) 1))&&true))||(!(aCL a)))&&true)) (ot (ot (.leaf (bif (aCL a)then(wJ b 0 (bZ (pK a) 1))else false))))))
def bE5(a:Int)(b:Int):Bool:=hid (aXK a b).val
def bE6(a:Int)(b:Int):Bool:=hid (aXK a b).okv
def S7(a:Int)(b:Int)(r:Bool):SV×List Blk:=((.one (.lit (.bool r))),[])
def q277:=M1 (fun a b=>S7 a b (bE5 a b)) bE6
theorem bTO:cG 100277 q277:=xP fun a b hk=>tz aLI (aXK a b) (S7 a b) hk
def Q277:=aT 100277 q277 Q324
theorem aLJ:QO Q277:=aC bTO aLI
def bTP(a:aA):List SV:=[(.agg [li a.Kind,li a.Size,li a.Addr,li a.Value,li a.Code])]
def bTQ(a:aA):List Blk:=[]
def aXL(N:aA→SV×List Blk)(K:aA→Bool):List SV→List Blk→Option ((SV×List Blk)×Bool)
 |[(.agg [li c0,li c1,li c2,li c3,li c4])],[]=>some (N (aA.mk c0 c1 c2 c3 c4),K (aA.mk c0 c1 c2 c3 c4))
 |_,_=>none
theorem aF8{N:aA→SV×List Blk}{K:aA→Bool}{f:Nat}(h: ∀(a:aA),K a=true→dL R f (bTP a) (bTQ a)=some (N a)):cG f (aXL N K):=fun _ _ _ e=>by
 unfold aXL at e;split at e
 ·exact BT e (h _)
 ·cases e
section
variable(a:aA)
def aF9:Bool:=(bif (wJ a.Kind 1 3)then(g87 a.Addr)else false)
def aGA:Bool:=(bif (aF9 a)then(bE5 a.Size a.Value)else false)
end
def aXM(a:aA):Pt (Bool):=(ot (.ok ((yU a.Kind 1 3)&&((((k87 a.Addr)&&true)||(!(wJ a.Kind 1 3)))&&((((bE6 a.Size a.Value)&&true)||(!(aF9 a)))&&((((yU a.Code 0 3)&&true)||(!(aGA a)))&&true)))) (ot (ot (.leaf (bif (bif (aGA a)then(wJ a.Code 0 3)else false)then(!(bif (eqI a.Kind 3)then(eqI a.Code 0)else false))else false))))))
def bE7(a:aA):Bool:=hid (aXM a).val
def bE8(a:aA):Bool:=hid (aXM a).okv
def aR5(a:aA)(r:Bool):SV×List Blk:=((.one (.lit (.bool r))),[])
def q226:=aXL (fun a=>aR5 a (bE7 a)) bE8
theorem bTR:cG 100226 q226:=aF8 fun a hk=>tz aLJ (aXM a) (aR5 a) hk
def Q226:=aT 100226 q226 Q277
theorem aLK:QO Q226:=aC bTR aLJ
def aXN(a:aA):Pt (Bool):=(ot (.ok ((bE8 a)&&true) (ot (.leaf (!(bE7 a))))))
def a77(a:aA):Bool:=hid (aXN a).val
def a78(a:aA):Bool:=hid (aXN a).okv
def q225:=aXL (fun a=>aR5 a (a77 a)) a78
theorem bTS:cG 225 q225:=aF8 fun a hk=>tc aLK (aXN a) (aR5 a) hk
def Q225:=aT 225 q225 Q226
theorem YM:QO Q225:=aC bTS aLK
def bTT(a:List Row):List SV:=[(.one (.imm true 5 a)),(.one (.clo 225 []))]
def bTU(a:List Row):List Blk:=[]
def a79(N:List Row→SV×List Blk)(K:List Row→Bool):List SV→List Blk→Option ((SV×List Blk)×Bool)
 |[(.one (.imm true 5 c0)),(.one (.clo 225 []))],[]=>some (N c0,K c0)
 |_,_=>none
theorem aXO{N:List Row→SV×List Blk}{K:List Row→Bool}{f:Nat}(h: ∀(a:List Row),K a=true→dL R f (bTT a) (bTU a)=some (N a)):cG f (a79 N K):=fun _ _ _ e=>by
 unfold a79 at e;split at e
 ·exact BT e (h _)
 ·cases e
structure V276_0 where
 mk::
 (s0:List Row)
 (s7:Int)
 (s8:Int)
def KN(v:V276_0):Pt (Option V276_0):=(ot (.br (ltI v.s8 v.s7) (ot (.ok ((gN [.int .i64, .int .i64, .int .i64, .int .i64, .int .i64] v.s0 v.s8)&&((a78 (aA.at v.s0 (iN v.s8) 0))&&true)) (.br (a77 (aA.at v.s0 (iN v.s8) 0)) (ot (.leaf none)) (ot (ot (.leaf (some {v with s8:=(aV v.s8 1)}))))))) (.leaf none)))
def P9(v:V276_0):St:=⟨[(0,(.one (.imm true 5 v.s0))),(1,(.one (.clo 225 []))),(7,(.one (li v.s7))),(8,(.one (li v.s8)))],[]⟩
def YN:St→Option (V276_0×Bool)
 |⟨[(0,(.one (.imm true 5 c0))),(1,(.one (.clo 225 []))),(7,(.one (li c1))),(8,(.one (li c2)))],[]⟩=>some ((V276_0.mk c0 c1 c2),true)
 |_=>none
def YO:St→Option (Pt Out):=yI Q225 ([]++HD 276) [] true [] 0 9223372036854775808 aEX
theorem a8A(v:V276_0):((YO (P9 v)).bind (tF true false 0 [0,1,7,8]))=some ((KN v).map (Option.map P9)):=by kernel_rfl
theorem a8B(σ:St)(v:V276_0)(h:YN σ=some (v,true)):σ=P9 v:=by
 unfold YN at h;split at h
 ·obtain⟨hr,hk⟩:=qp (qi h);rw[←hr];rfl
 ·simp at h
theorem a8C:cS (wD true false 0 [0,1,7,8] YO YN P9 KN 9223372036854775808) (fV R 0 9223372036854775808 (.loop [0,1,7,8] aEX)):=d8 (cW YM (cF (l:=[]) (by kernel_rfl) trivial)) a8B a8A
def a8D:Lp:=(9,wD true false 0 [0,1,7,8] YO YN P9 KN 9223372036854775808)::[]
def QA(v:V276_0):V276_0:=(hid (dV KN 9223372036854775808 v)).getD v
def aGB(v:V276_0):Bool:=(hid (dV KN 9223372036854775808 v)).isSome
section
variable(a:List Row)
def YP:V276_0:=(QA (V276_0.mk a (bL a) 0))
end
def a8E(a:List Row):Pt (Int):=(ot (ot (ot (ot (.ok (aGB (V276_0.mk a (bL a) 0)) (.br (ltI (YP a).s8 (YP a).s7) (ot (.leaf (YP a).s8)) (ot (ot (.leaf (-1))))))))))
def a8F(a:List Row):Int:=hid (a8E a).val
def a8G(a:List Row):Bool:=hid (a8E a).okv
def q276:=a79 (fun a=>aCK a (a8F a)) a8G
theorem bM1:fT (fun live x=>cS (oQ a8D (m6 x)) (fV R 0 9223372036854775808 (.loop live x))) (qL 276).body:=(cF (l:=[([0,1,7,8],aEX)]) (by kernel_rfl) ⟨fZ (n:=9) (by kernel_rfl) fun σ σr t h ho hl=>a8C σ σr t h ho hl,trivial⟩)
theorem bTV:cG 276 q276:=aXO fun a hk=>tcl YM bM1 [] [] true (a8E a) (aCK a) hk
def Q276:=aT 276 q276 Q225
theorem aLL:QO Q276:=aC bTV YM
def a8H(a:List Row):Pt (Bool):=(ot (.ok ((a8G a)&&true) (ot (.leaf (jO (a8F a) 0)))))
def aXP(a:List Row):Bool:=hid (a8H a).val
def aXQ(a:List Row):Bool:=hid (a8H a).okv
def q224:=a79 (fun a=>IM a (aXP a)) aXQ
theorem bTW:cG 224 q224:=aXO fun a hk=>tc aLL (a8H a) (IM a) hk
def Q224:=aT 224 q224 Q276
theorem aLM:QO Q224:=aC bTW aLL
def bTX(a:bG):List SV:=[(.agg [.imm true 1 a.Bytes, .imm true 5 a.Log])]
def bTY(a:bG):List Blk:=[]
def aXR(N:bG→SV×List Blk)(K:bG→Bool):List SV→List Blk→Option ((SV×List Blk)×Bool)
 |[(.agg [.imm true 1 c0, .imm true 5 c1])],[]=>some (N (bG.mk c0 c1),K (bG.mk c0 c1))
 |_,_=>none
theorem aGC{N:bG→SV×List Blk}{K:bG→Bool}{f:Nat}(h: ∀(a:bG),K a=true→dL R f (bTX a) (bTY a)=some (N a)):cG f (aXR N K):=fun _ _ _ e=>by
 unfold aXR at e;split at e
 ·exact BT e (h _)
 ·cases e
section
variable(a:bG)
def YQ:Bool:=(bif (eqI (bL a.Bytes) 512)then(leI (bL a.Log) 400)else false)
def aGD:List Row:=(bif (YQ a)then a.Log else a.Log)
def aGE:Bool:=(bif (YQ a)then(!(P7 a.Bytes))else false)
end
def aXS(a:bG):Pt (Bool):=(ot (.ok ((((P8 a.Bytes)&&true)||(!(YQ a)))&&((((aXQ (aGD a))&&true)||(!(aGE a)))&&true)) (ot (ot (.leaf (bif (aGE a)then(!(aXP (aGD a)))else false))))))
def a8I(a:bG):Bool:=hid (aXS a).val
def a8J(a:bG):Bool:=hid (aXS a).okv
def a8K(a:bG)(r:Bool):SV×List Blk:=((.one (.lit (.bool r))),[])
def q151:=aXR (fun a=>a8K a (a8I a)) a8J
theorem bTZ:cG 100151 q151:=aGC fun a hk=>tz aLM (aXS a) (a8K a) hk
def Q151:=aT 100151 q151 Q224
theorem aLN:QO Q151:=aC bTZ aLM
def bT0(a:aH):List SV:=[(.agg [.imm true 1 a.R.D, .imm true 1 a.R.A,li a.R.Other,li a.R.PC,li a.R.Flags,li a.R.Mask, .lit (.bool a.R.Super), .lit (.bool a.R.Trace), .imm true 1 a.Bus.Bytes, .imm true 5 a.Bus.Log, .lit (.bool a.Stop), .lit (.bool a.Halt)])]
def bT1(a:aH):List Blk:=[]
def aR6(N:aH→SV×List Blk)(K:aH→Bool):List SV→List Blk→Option ((SV×List Blk)×Bool)
 |[(.agg [.imm true 1 c0, .imm true 1 c1,li c2,li c3,li c4,li c5, .lit (.bool c6), .lit (.bool c7), .imm true 1 c8, .imm true 5 c9, .lit (.bool c10), .lit (.bool c11)])],[]=>some (N (aH.mk (aG.mk c0 c1 c2 c3 c4 c5 c6 c7) (bG.mk c8 c9) c10 c11),K (aH.mk (aG.mk c0 c1 c2 c3 c4 c5 c6 c7) (bG.mk c8 c9) c10 c11))
 |_,_=>none
theorem YR{N:aH→SV×List Blk}{K:aH→Bool}{f:Nat}(h: ∀(a:aH),K a=true→dL R f (bT0 a) (bT1 a)=some (N a)):cG f (aR6 N K):=fun _ _ _ e=>by
 unfold aR6 at e;split at e
 ·exact BT e (h _)
 ·cases e
def aXT(a:aH):Pt (Bool):=(ot (.ok ((bE2 a.R)&&((((a8J a.Bus)&&true)||(!(a71 a.R)))&&true)) (ot (ot (.leaf (bif (bif (a71 a.R)then(a8I a.Bus)else false)then(!(bif a.Stop then a.Halt else false))else false))))))
def bE9(a:aH):Bool:=hid (aXT a).val
def bFA(a:aH):Bool:=hid (aXT a).okv
def aR7(a:aH)(r:Bool):SV×List Blk:=((.one (.lit (.bool r))),[])
def q119:=aR6 (fun a=>aR7 a (bE9 a)) bFA
theorem bT2:cG 100119 q119:=YR fun a hk=>tz aLN (aXT a) (aR7 a) hk
def Q119:=aT 100119 q119 Q151
theorem aLO:QO Q119:=aC bT2 aLN
def T85(a:aH):Pt (Bool):=(ot (.ok ((bFA a)&&true) (ot (ot (.leaf (bif (bif (bE9 a)then(!a.Stop)else false)then(!a.Halt)else false))))))
def g85(a:aH):Bool:=hid (T85 a).val
def k85(a:aH):Bool:=hid (T85 a).okv
def q85:=aR6 (fun a=>aR7 a (g85 a)) k85
theorem t85:cG 100085 q85:=YR fun a hk=>tz aLO (T85 a) (aR7 a) hk
def Q85:=aT 100085 q85 Q119
theorem aXU:QO Q85:=aC t85 aLO
def aXV(a:Int):Pt (Bool):=(ot (ot (ot (ot (.leaf (bif (bif (eqI a 5)then true else(eqI a 6))then true else(eqI a 7)))))))
def a8L(a:Int):Bool:=hid (aXV a).val
def a8M(a:Int):Bool:=hid (aXV a).okv
def q215:=AZ (fun a=>kG a (a8L a)) a8M
theorem bT4:cG 100215 q215:=gX fun a hk=>tz aXU (aXV a) (kG a) hk
def Q215:=aT 100215 q215 Q85
theorem aLP:QO Q215:=aC bT4 aXU
section
variable(a:aB)
def aGF:Bool:=(bif (!(wJ a.Mode 0 7))then true else(!(g87 a.Ext)))
end
def aXW(a:aB):Pt (Bool):=(ot (.ok ((yU a.Mode 0 7)&&((((k87 a.Ext)&&true)||(!(wJ a.Mode 0 7)))&&((((a8M a.Mode)&&true)||(aGF a))&&true))) (.br (bif (aGF a)then true else(bif (!(a8L a.Mode))then(cV a.Ext 0)else false)) (ot (ot (ot (.leaf false)))) (.ok ((yU a.Reg 0 3)&&true) (ot (ot (.leaf (bif (wJ a.Reg 0 3)then(bif (eqI a.Reg 0)then true else(ltI a.Mode 6))else false))))))))
def bFB(a:aB):Bool:=hid (aXW a).val
def bFC(a:aB):Bool:=hid (aXW a).okv
def q171:=DS6 (fun a=>S5 a (bFB a)) bFC
theorem bT5:cG 100171 q171:=aCF fun a hk=>tz aLP (aXW a) (S5 a) hk
def Q171:=aT 100171 q171 Q215
theorem aLQ:QO Q171:=aC bT5 aLP
def aXX(a:Int):Pt (Bool):=(ot (.ok ((yU a 2 6)&&true) (ot (ot (.leaf (wJ a 2 6))))))
def aXY(a:Int):Bool:=hid (aXX a).val
def aXZ(a:Int):Bool:=hid (aXX a).okv
def q192:=AZ (fun a=>kG a (aXY a)) aXZ
theorem bT6:cG 100192 q192:=gX fun a hk=>tz aLQ (aXX a) (kG a) hk
def Q192:=aT 100192 q192 Q171
theorem aLR:QO Q192:=aC bT6 aLQ
def aX0(a:Int):Pt (Bool):=(ot (.ok ((((aXZ a)&&true)||(eqI a 0))&&true) (ot (ot (.leaf (bif (eqI a 0)then true else(aXY a)))))))
def a8N(a:Int):Bool:=hid (aX0 a).val
def a8O(a:Int):Bool:=hid (aX0 a).okv
def q233:=AZ (fun a=>kG a (a8N a)) a8O
theorem bT7:cG 100233 q233:=gX fun a hk=>tz aLR (aX0 a) (kG a) hk
def Q233:=aT 100233 q233 Q192
theorem aLS:QO Q233:=aC bT7 aLR
def aX1(a:Int):Pt (Bool):=(ot (ot (ot (ot (.leaf (bif (bif (eqI a 2)then true else(eqI a 5))then true else(eqI a 6)))))))
def a8P(a:Int):Bool:=hid (aX1 a).val
def a8Q(a:Int):Bool:=hid (aX1 a).okv
def q234:=AZ (fun a=>kG a (a8P a)) a8Q
theorem bT8:cG 100234 q234:=gX fun a hk=>tz aLS (aX1 a) (kG a) hk
def Q234:=aT 100234 q234 Q233
theorem aLT:QO Q234:=aC bT8 aLS
def aX2(a:aB):Pt (Bool):=(ot (ot (ot (ot (.leaf (bif (eqI a.Mode 7)then(leI a.Ext 1023)else false))))))
def a8R(a:aB):Bool:=hid (aX2 a).val
def a8S(a:aB):Bool:=hid (aX2 a).okv
def q236:=DS6 (fun a=>S5 a (a8R a)) a8S
theorem bT9:cG 100236 q236:=aCF fun a hk=>tz aLT (aX2 a) (S5 a) hk
def Q236:=aT 100236 q236 Q234
theorem aLU:QO Q236:=aC bT9 aLT
def aX3(a:aF):Pt (Bool):=(ot (ot (.br (bif (cV a.Size 2)then true else(pG a.Sub 6)) (ot (ot (ot (.leaf false)))) (ot (.br (eqI a.Sub 3) (.ok ((((a8S a.Ea)&&true)||(!(eqI a.Reg 0)))&&true) (ot (ot (.leaf (bif (eqI a.Reg 0)then(a8R a.Ea)else false))))) (ot (.br (bif (ltI a.Sub 3)then(cV a.Reg 0)else false) (ot (ot (ot (.leaf false)))) (ot (ot (ot (.leaf ((eqI a.Ea.Mode 0)&&((eqI a.Ea.Reg 0)&&((eqI a.Ea.Ext 0)&&true))))))))))))))
def bFD(a:aF):Bool:=hid (aX3 a).val
def bFE(a:aF):Bool:=hid (aX3 a).okv
def q235:=HE (fun a=>NF a (bFD a)) bFE
theorem bUA:cG 100235 q235:=kD fun a hk=>tz aLU (aX3 a) (NF a) hk
def Q235:=aT 100235 q235 Q236
theorem aLV:QO Q235:=aC bUA aLU
section
variable(a:aF)
def QB:Bool:=(bif (eqI a.Size 2)then(eqI a.Sub 0)else false)
def aGG:Bool:=(bif (eqI a.Reg 0)then(leI a.Sub 3)else false)
def aGH:Bool:=(bif (bif (eqI a.Size 2)then(eqI a.Reg 0)else false)then(leI a.Sub 1)else false)
def aGI:Bool:=(bif (eqI a.Sub 0)then(eqI a.Reg 0)else false)
end
def aX4(a:aF):Pt (Bool):=(ot (ot (ot (ot (ot (ot (.br (bif (eqI a.Op 1)then(eqI a.Op 1)else(bif (eqI a.Op 3)then(eqI a.Op 3)else(bif (eqI a.Op 4)then(eqI a.Op 4)else(bif (eqI a.Op 5)then(eqI a.Op 5)else(bif (eqI a.Op 6)then(eqI a.Op 6)else(bif (eqI a.Op 7)then(eqI a.Op 7)else(eqI a.Op 8))))))) (ot (ot (ot (.leaf (bif (eqI a.Sub 0)then(bif (cV a.Ea.Mode 1)then true else(eqI a.Size 2))else false))))) (ot (.br (eqI a.Op 2) (.ok ((((a8O a.Ea.Mode)&&true)||(!(eqI a.Sub 0)))&&true) (ot (ot (.leaf (bif (eqI a.Sub 0)then(a8N a.Ea.Mode)else false))))) (ot (.br (eqI a.Op 9) (ot (ot (ot (.leaf (QB a))))) (ot (.br (eqI a.Op 10) (.ok ((((a8Q a.Ea.Mode)&&true)||(!(QB a)))&&true) (ot (ot (.leaf (bif (QB a)then(a8P a.Ea.Mode)else false))))) (ot (.br (eqI a.Op 11) (.ok ((((a8O a.Ea.Mode)&&true)||(!(aGG a)))&&true) (ot (ot (.leaf (bif (aGG a)then(a8N a.Ea.Mode)else false))))) (ot (.br (eqI a.Op 12) (ot (ot (ot (.leaf (eqI a.Ea.Mode 0))))) (ot (.br (eqI a.Op 13) (ot (ot (ot (.leaf (bif (bif (eqI a.Size 2)then(leI a.Reg 1)else false)then(eqI a.Ea.Mode 7)else false))))) (ot (.br (eqI a.Op 14) (.ok ((((a8Q a.Ea.Mode)&&true)||(!(aGH a)))&&true) (ot (ot (.leaf (bif (aGH a)then(a8P a.Ea.Mode)else false))))) (ot (.br (eqI a.Op 15) (.ok ((bFE a)&&true) (ot (ot (.leaf (bFD a))))) (ot (ot (.br (bif (eqI a.Op 16)then(eqI a.Op 16)else(eqI a.Op 17)) (ot (ot (ot (.leaf (bif (QB a)then(cV a.Ea.Mode 1)else false))))) (ot (.br (eqI a.Op 18) (ot (ot (ot (.leaf (bif (bif (!(eqI a.Size 2))then(leI a.Sub 1)else false)then(eqI a.Ea.Mode 0)else false))))) (ot (.br (eqI a.Op 19) (.ok ((((((a8S a.Ea)&&true)||(!(aGI a)))&&true)||(!(eqI a.Size 2)))&&true) (ot (ot (.leaf (bif (eqI a.Size 2)then(bif (bif (aGI a)then(a8R a.Ea)else false)then true else(bif (eqI a.Sub 1)then((eqI a.Ea.Mode 0)&&((eqI a.Ea.Reg 0)&&((eqI a.Ea.Ext 0)&&true)))else false))else false))))) (ot (ot (ot (.leaf false))))))))))))))))))))))))))))))))))
def bFF(a:aF):Bool:=hid (aX4 a).val
def bFG(a:aF):Bool:=hid (aX4 a).okv
def q172:=HE (fun a=>NF a (bFF a)) bFG
theorem bUB:cG 100172 q172:=kD fun a hk=>tz aLV (aX4 a) (NF a) hk
def Q172:=aT 100172 q172 Q235
theorem aLW:QO Q172:=aC bUB aLV
section
variable(a:aF)
def aX5:Bool:=(bif (aCL a.Size)then(wJ a.Reg 0 3)else false)
def aX6:Bool:=(bif (aX5 a)then(wJ a.Sub 0 7)else false)
def aX7:Bool:=(bif (bif (aX6 a)then(bFB a.Ea)else false)then(!(bif (bif (eqI a.Ea.Mode 7)then(eqI a.Size 1)else false)then(pG a.Ea.Ext 255)else false))else false)
end
def T86(a:aF):Pt (Bool):=(ot (.ok ((aR4 a.Size)&&((((yU a.Reg 0 3)&&true)||(!(aCL a.Size)))&&((((yU a.Sub 0 7)&&true)||(!(aX5 a)))&&((((bFC a.Ea)&&true)||(!(aX6 a)))&&((((bFG a)&&true)||(!(aX7 a)))&&true))))) (ot (ot (.leaf (bif (aX7 a)then(bFF a)else false))))))
def g86(a:aF):Bool:=hid (T86 a).val
def k86(a:aF):Bool:=hid (T86 a).okv
def q86:=HE (fun a=>NF a (g86 a)) k86
theorem t86:cG 100086 q86:=kD fun a hk=>tz aLW (T86 a) (NF a) hk
def Q86:=aT 100086 q86 Q172
theorem bFH:QO Q86:=aC t86 aLW
def bFI:List SV→List Blk→Option ((SV×List Blk)×Bool)
 |[.one (.imm p 1 rows)],[]=>some ((SV.one (T.sl 0 0 (ln rows)),[Blk.lst 1 rows]),decide (ln rows*8≤room))
 |_,_=>none
theorem bUC(args:List SV)(hp:List Blk)(r:SV×List Blk)(h:bFI args hp=some (r,true)):dL R 219 args hp=some r:=by
 rw[FK (by decide)]
 unfold bFI at h;split at h
 ·rename_i p rows;simp only[Option.some.injEq,Prod.mk.injEq,decide_eq_true_eq]at h;obtain⟨rfl,h⟩:=h;refine aJ7 (by decide) bLY ?_
  have h':ln rows≤room:=by omega
  simp[WP,EH,WJ,h,h']
 ·simp at h
noncomputable def Q219:Qt:=aT 219 bFI Q86
theorem aLX:UM (dL R) Q219:=aC bUC bFH
def bUD(a:aG)(p0:Bool)(p1:Bool):List SV:=[(.agg [.imm p0 1 a.D, .imm p1 1 a.A,li a.Other,li a.PC,li a.Flags,li a.Mask, .lit (.bool a.Super), .lit (.bool a.Trace)])]
def bUE(a:aG)(p0:Bool)(p1:Bool):List Blk:=[]
def aX8(N:aG→SV×List Blk)(K:aG→Bool):List SV→List Blk→Option ((SV×List Blk)×Bool)
 |[(.agg [.imm p0 1 c0, .imm p1 1 c1,li c2,li c3,li c4,li c5, .lit (.bool c6), .lit (.bool c7)])],[]=>some (N (aG.mk c0 c1 c2 c3 c4 c5 c6 c7),K (aG.mk c0 c1 c2 c3 c4 c5 c6 c7))
 |_,_=>none
theorem aGJ{N:aG→SV×List Blk}{K:aG→Bool}{f:Nat}(h: ∀(a:aG)(p0:Bool)(p1:Bool),K a=true→dL R f (bUD a p0 p1) (bUE a p0 p1)=some (N a)):cG f (aX8 N K):=fun _ _ _ e=>by
 unfold aX8 at e;split at e
 ·exact BT e (h _ _ _)
 ·cases e
section
variable(a:aG)
def aGK:Bool:=(((qN (vC (ln a.D) 8) 140737488355328)&&((qN (vC (ln a.A) 8) 140737488355328)&&true))&&true)
end
def aX9(a:aG):Pt (aG):=(ot (.ok ((aGK a)&&((aGK a)&&((jV a true)&&(((s1 (0:Int))&&((s1 (0:Int))&&((s1 (0:Int))&&((s1 (0:Int))&&((s1 false)&&((s1 false)&&true))))))&&(kH a true))))) (ot (.ok ((aK a true)&&((aK a true)&&true)) (.leaf a)))))
def S8(a:aG):aG:=hid (aX9 a).val
def a8T(a:aG):Bool:=hid (aX9 a).okv
def a8U(a:aG)(r:aG):SV×List Blk:=((.agg [.sl 0 0 (ln r.D), .sl 1 0 (ln r.A),li r.Other,li r.PC,li r.Flags,li r.Mask, .lit (.bool r.Super), .lit (.bool r.Trace)]),[.lst 1 r.D, .lst 1 r.A])
def q173:=aX8 (fun a=>a8U a (S8 a)) a8T
theorem bUF:cG 173 q173:=aGJ fun a p0 p1 hk=>tc aLX (aX9 a) (a8U a) hk
def Q173:=aT 173 q173 Q219
theorem a8V:QO Q173:=aC bUF aLX
def bFJ:List SV→List Blk→Option ((SV×List Blk)×Bool)
 |[.one (.imm p 5 rows)],[]=>some ((SV.one (T.sl 0 0 (ln rows)),[Blk.lst 5 rows]),decide (ln rows*40≤room))
 |_,_=>none
theorem bUG(args:List SV)(hp:List Blk)(r:SV×List Blk)(h:bFJ args hp=some (r,true)):dL R 237 args hp=some r:=by
 rw[FK (by decide)]
 unfold bFJ at h;split at h
 ·rename_i p rows;simp only[Option.some.injEq,Prod.mk.injEq,decide_eq_true_eq]at h;obtain⟨rfl,h⟩:=h;refine aJ7 (by decide) bLZ ?_
  have h':ln rows≤room:=by omega
  simp[WP,EH,WJ,h,h']
 ·simp at h
noncomputable def Q237:Qt:=aT 237 bFJ Q173
theorem aLY:UM (dL R) Q237:=aC bUG a8V
section
variable(a:bG)
def aGL:Bool:=(((qN (vC (ln a.Bytes) 8) 140737488355328)&&((qN (vC (ln a.Log) 40) 140737488355328)&&true))&&true)
end
def aYA(a:bG):Pt (bG):=(ot (.ok ((aGL a)&&((aGL a)&&((((s1 true)&&(r1 a.Bytes))&&(((s1 true)&&(r1 a.Log))&&true))&&((dP a true)&&(dI a true))))) (.ok ((bH a true)&&((bH a true)&&true)) (.leaf a))))
def aR8(a:bG):bG:=hid (aYA a).val
def bFK(a:bG):Bool:=hid (aYA a).okv
def a8W(a:bG)(r:bG):SV×List Blk:=((.agg [.sl 0 0 (ln r.Bytes), .sl 1 0 (ln r.Log)]),[.lst 1 r.Bytes, .lst 5 r.Log])
def q174:=aXR (fun a=>a8W a (aR8 a)) bFK
theorem bUH:cG 174 q174:=aGC fun a hk=>tc aLY (aYA a) (a8W a) hk
def Q174:=aT 174 q174 Q237
theorem aLZ:QO Q174:=aC bUH aLY
section
variable(a:aH)
def iJ:Bool:=(((a8T a.R)&&((bFK a.Bus)&&true))&&true)
def iZ:Bool:=((((s1 true)&&(r1 a.R.D))&&(((s1 true)&&(r1 a.R.A))&&((s1 a.R.Other)&&((s1 a.R.PC)&&((s1 a.R.Flags)&&((s1 a.R.Mask)&&((s1 a.R.Super)&&((s1 a.R.Trace)&&(((s1 true)&&(r1 a.Bus.Bytes))&&(((s1 true)&&(r1 a.Bus.Log))&&((s1 a.Stop)&&((s1 a.Halt)&&true))))))))))))&&((jV (S8 a.R) (dP (aR8 a.Bus) ((s1 a.Stop)&&((s1 a.Halt)&&true))))&&(kH (S8 a.R) (dI (aR8 a.Bus) true))))
def bCR:Bool:=(((iJ a)&&(((iJ a)&&(((iJ a)&&(((iJ a)&&(((iJ a)&&(((iJ a)&&(((iJ a)&&(((iJ a)&&(((iJ a)&&(((iJ a)&&(((iJ a)&&(((iJ a)&&((iJ a)&&(iZ a)))&&(iZ a)))&&(iZ a)))&&(iZ a)))&&(iZ a)))&&(iZ a)))&&(iZ a)))&&(iZ a)))&&(iZ a)))&&(iZ a)))&&(iZ a)))&&(iZ a)))&&(iZ a))
def bCS:Bool:=((iJ a)&&(((iJ a)&&(((iJ a)&&(((iJ a)&&(((iJ a)&&(((iJ a)&&(((iJ a)&&(((iJ a)&&(((iJ a)&&(((iJ a)&&(((iJ a)&&(((iJ a)&&(((iJ a)&&(bCR a))&&(iZ a)))&&(iZ a)))&&(iZ a)))&&(iZ a)))&&(iZ a)))&&(iZ a)))&&(iZ a)))&&(iZ a)))&&(iZ a)))&&(iZ a)))&&(iZ a)))&&(iZ a)))
def aYB:Bool:=(aK (S8 a.R) (bH (aR8 a.Bus) true))
end
def T88(a:aH):Pt (aH):=(ot (.ok ((iJ a)&&(((iJ a)&&(((iJ a)&&(((iJ a)&&((bCS a)&&(iZ a)))&&(iZ a)))&&(iZ a)))&&(iZ a))) (.ok ((aYB a)&&((aYB a)&&true)) (.leaf {a with R:=(S8 a.R),Bus:=(aR8 a.Bus)}))))
def g88(a:aH):aH:=hid (T88 a).val
def k88(a:aH):Bool:=hid (T88 a).okv
def n88(a:aH)(r:aH):SV×List Blk:=((.agg [.sl 0 0 (ln r.R.D), .sl 1 0 (ln r.R.A),li r.R.Other,li r.R.PC,li r.R.Flags,li r.R.Mask, .lit (.bool r.R.Super), .lit (.bool r.R.Trace), .sl 2 0 (ln r.Bus.Bytes), .sl 3 0 (ln r.Bus.Log), .lit (.bool r.Stop), .lit (.bool r.Halt)]),[.lst 1 r.R.D, .lst 1 r.R.A, .lst 1 r.Bus.Bytes, .lst 5 r.Bus.Log])
def q88:=aR6 (fun a=>n88 a (g88 a)) k88
theorem t88:cG 88 q88:=YR fun a hk=>tc aLZ (T88 a) (n88 a) hk
def Q88:=aT 88 q88 Q174
theorem aYC:QO Q88:=aC t88 aLZ
def aYD(a:aF):Pt (List Row):=(ot (ot (.ok ((a8M a.Ea.Mode)&&true) (.br (a8L a.Ea.Mode) (ot (ot (ot (.leaf [(aU (aV (aV (aV (aV (aV (dB a.Op 2048) (dB (bZ a.Size 1) 1024)) (dB a.Reg 256)) (dB a.Ea.Mode 32)) (dB a.Ea.Reg 8)) a.Sub)),(aU a.Ea.Ext)])))) (ot (ot (.leaf [(aU (aV (aV (aV (aV (aV (dB a.Op 2048) (dB (bZ a.Size 1) 1024)) (dB a.Reg 256)) (dB a.Ea.Mode 32)) (dB a.Ea.Reg 8)) a.Sub))])))))))
def QC(a:aF):List Row:=hid (aYD a).val
def a8X(a:aF):Bool:=hid (aYD a).okv
def q139:=HE (fun a=>a6U a (QC a)) a8X
theorem bUJ:cG 139 q139:=kD fun a hk=>tc aYC (aYD a) (a6U a) hk
def Q139:=aT 139 q139 Q88
theorem aL0:QO Q139:=aC bUJ aYC
def aYE(a:aF):Pt (Bool):=(ot (ot (ot (ot (.leaf (bif (bif (eqI a.Op 15)then(bif (eqI a.Sub 1)then true else(eqI a.Sub 3))else false)then true else(bif (eqI a.Op 19)then(eqI a.Sub 0)else false)))))))
def bFL(a:aF):Bool:=hid (aYE a).val
def bFM(a:aF):Bool:=hid (aYE a).okv
def q238:=HE (fun a=>NF a (bFL a)) bFM
theorem bUK:cG 100238 q238:=kD fun a hk=>tz aL0 (aYE a) (NF a) hk
def Q238:=aT 100238 q238 Q139
theorem aL1:QO Q238:=aC bUK aL0
def bUL(b:Int)(c:Int)(a:aX)(x0_fc:aH):List SV:=[(.one (.ptr 0 0 0)),(.one (li b)),(.one (li c))]
def bUM(b:Int)(c:Int)(a:aX)(x0_fc:aH):List Blk:=[.box [.ptr 1 0 0,li a.fx.Op,li a.fx.Size,li a.fx.Reg,li a.fx.Ea.Mode,li a.fx.Ea.Reg,li a.fx.Ea.Ext,li a.fx.Sub,li a.fpc,li a.fword,li a.ffault.Vector,li a.ffault.PC,li a.ffault.Addr,li a.ffault.Word, .lit (.bool a.ffault.Write)], .box [.sl 2 0 (ln x0_fc.R.D), .sl 3 0 (ln x0_fc.R.A),li x0_fc.R.Other,li x0_fc.R.PC,li x0_fc.R.Flags,li x0_fc.R.Mask, .lit (.bool x0_fc.R.Super), .lit (.bool x0_fc.R.Trace), .sl 4 0 (ln x0_fc.Bus.Bytes), .sl 5 0 (ln x0_fc.Bus.Log), .lit (.bool x0_fc.Stop), .lit (.bool x0_fc.Halt)], .lst 1 x0_fc.R.D, .lst 1 x0_fc.R.A, .lst 1 x0_fc.Bus.Bytes, .lst 5 x0_fc.Bus.Log]
def aYF(N:Int→Int→aX→aH→SV×List Blk)(K:Int→Int→aX→aH→Bool):List SV→List Blk→Option ((SV×List Blk)×Bool)
 |[(.one (.ptr 0 0 0)),(.one (li c0)),(.one (li c1))],[.box [.ptr 1 0 0,li c2,li c3,li c4,li c5,li c6,li c7,li c8,li c9,li c10,li c11,li c12,li c13,li c14, .lit (.bool c15)], .box [.sl 2 0 l2, .sl 3 0 l3,li c16,li c17,li c18,li c19, .lit (.bool c20), .lit (.bool c21), .sl 4 0 l4, .sl 5 0 l5, .lit (.bool c22), .lit (.bool c23)], .lst 1 c_2, .lst 1 c_3, .lst 1 c_4, .lst 5 c_5]=>some (N c0 c1 (aX.mk (aF.mk c2 c3 c4 (aB.mk c5 c6 c7) c8) c9 c10 (bO.mk c11 c12 c13 c14 c15)) (aH.mk (aG.mk c_2 c_3 c16 c17 c18 c19 c20 c21) (bG.mk c_4 c_5) c22 c23),eD l2 (ln c_2)&&(eD l3 (ln c_3)&&(eD l4 (ln c_4)&&(eD l5 (ln c_5)&&(K c0 c1 (aX.mk (aF.mk c2 c3 c4 (aB.mk c5 c6 c7) c8) c9 c10 (bO.mk c11 c12 c13 c14 c15)) (aH.mk (aG.mk c_2 c_3 c16 c17 c18 c19 c20 c21) (bG.mk c_4 c_5) c22 c23))))))
 |_,_=>none
theorem aGM{N:Int→Int→aX→aH→SV×List Blk}{K:Int→Int→aX→aH→Bool}{f:Nat}(h: ∀(b:Int)(c:Int)(a:aX)(x0_fc:aH),K b c a x0_fc=true→dL R f (bUL b c a x0_fc) (bUM b c a x0_fc)=some (N b c a x0_fc)):cG f (aYF N K):=fun args hp r e=>by
 unfold aYF at e;split at e
 ·rename_i c0 c1 c2 c3 c4 c5 c6 c7 c8 c9 c10 c11 c12 c13 c14 c15 l2 l3 c16 c17 c18 c19 c20 c21 l4 l5 c22 c23 c_2 c_3 c_4 c_5;obtain⟨hr,hk⟩:=qp (qi e);obtain⟨d0,hk0⟩:=bB hk;obtain⟨d1,hk1⟩:=bB hk0;obtain⟨d2,hk2⟩:=bB hk1;obtain⟨d3,hk3⟩:=bB hk2;obtain rfl:=of_decide_eq_true d0;obtain rfl:=of_decide_eq_true d1;obtain rfl:=of_decide_eq_true d2;obtain rfl:=of_decide_eq_true d3;rw[←hr];exact h c0 c1 (aX.mk (aF.mk c2 c3 c4 (aB.mk c5 c6 c7) c8) c9 c10 (bO.mk c11 c12 c13 c14 c15)) (aH.mk (aG.mk c_2 c_3 c16 c17 c18 c19 c20 c21) (bG.mk c_4 c_5) c22 c23) hk3
 ·simp at e
section
variable(x0_fc:aH)
def aGN:Bool:=(((aS x0_fc true)&&(aS x0_fc true))&&true)
end
def aYG(b:Int)(c:Int)(a:aX)(x0_fc:aH):Pt (aX):=(ot (.br (eqI a.ffault.Vector 0) (ot (.ok (aGN x0_fc) (.leaf {a with ffault:=(bO.mk b c 0 a.fword false)}))) (.ok (aGN x0_fc) (.leaf a))))
def aGO(b:Int)(c:Int)(a:aX)(x0_fc:aH):aX:=hid (aYG b c a x0_fc).val
def aGP(b:Int)(c:Int)(a:aX)(x0_fc:aH):Bool:=hid (aYG b c a x0_fc).okv
def bM5(b:Int)(c:Int)(a:aX)(x0_fc:aH)(r:aX):SV×List Blk:=((.tup []),[.box [.ptr 1 0 0,li r.fx.Op,li r.fx.Size,li r.fx.Reg,li r.fx.Ea.Mode,li r.fx.Ea.Reg,li r.fx.Ea.Ext,li r.fx.Sub,li r.fpc,li r.fword,li r.ffault.Vector,li r.ffault.PC,li r.ffault.Addr,li r.ffault.Word, .lit (.bool r.ffault.Write)], .box [.sl 2 0 (ln x0_fc.R.D), .sl 3 0 (ln x0_fc.R.A),li x0_fc.R.Other,li x0_fc.R.PC,li x0_fc.R.Flags,li x0_fc.R.Mask, .lit (.bool x0_fc.R.Super), .lit (.bool x0_fc.R.Trace), .sl 4 0 (ln x0_fc.Bus.Bytes), .sl 5 0 (ln x0_fc.Bus.Log), .lit (.bool x0_fc.Stop), .lit (.bool x0_fc.Halt)], .lst 1 x0_fc.R.D, .lst 1 x0_fc.R.A, .lst 1 x0_fc.Bus.Bytes, .lst 5 x0_fc.Bus.Log])
def q239:=aYF (fun b c a x0_fc=>bM5 b c a x0_fc (aGO b c a x0_fc)) aGP
theorem bUN:cG 50239 q239:=aGM fun b c a x0_fc hk=>tck aL1 (aYG b c a x0_fc) (bM5 b c a x0_fc) hk
def Q239:=aT 50239 q239 Q238
theorem aL2:QO Q239:=aC bUN aL1
def bUO(a:aX)(x0_fc:aH):List SV:=[(.one (.ptr 0 0 0))]
def bUP(a:aX)(x0_fc:aH):List Blk:=[.box [.ptr 1 0 0,li a.fx.Op,li a.fx.Size,li a.fx.Reg,li a.fx.Ea.Mode,li a.fx.Ea.Reg,li a.fx.Ea.Ext,li a.fx.Sub,li a.fpc,li a.fword,li a.ffault.Vector,li a.ffault.PC,li a.ffault.Addr,li a.ffault.Word, .lit (.bool a.ffault.Write)], .box [.sl 2 0 (ln x0_fc.R.D), .sl 3 0 (ln x0_fc.R.A),li x0_fc.R.Other,li x0_fc.R.PC,li x0_fc.R.Flags,li x0_fc.R.Mask, .lit (.bool x0_fc.R.Super), .lit (.bool x0_fc.R.Trace), .sl 4 0 (ln x0_fc.Bus.Bytes), .sl 5 0 (ln x0_fc.Bus.Log), .lit (.bool x0_fc.Stop), .lit (.bool x0_fc.Halt)], .lst 1 x0_fc.R.D, .lst 1 x0_fc.R.A, .lst 1 x0_fc.Bus.Bytes, .lst 5 x0_fc.Bus.Log]
def KO(N:aX→aH→SV×List Blk)(K:aX→aH→Bool):List SV→List Blk→Option ((SV×List Blk)×Bool)
 |[(.one (.ptr 0 0 0))],[.box [.ptr 1 0 0,li c0,li c1,li c2,li c3,li c4,li c5,li c6,li c7,li c8,li c9,li c10,li c11,li c12, .lit (.bool c13)], .box [.sl 2 0 l2, .sl 3 0 l3,li c14,li c15,li c16,li c17, .lit (.bool c18), .lit (.bool c19), .sl 4 0 l4, .sl 5 0 l5, .lit (.bool c20), .lit (.bool c21)], .lst 1 c_2, .lst 1 c_3, .lst 1 c_4, .lst 5 c_5]=>some (N (aX.mk (aF.mk c0 c1 c2 (aB.mk c3 c4 c5) c6) c7 c8 (bO.mk c9 c10 c11 c12 c13)) (aH.mk (aG.mk c_2 c_3 c14 c15 c16 c17 c18 c19) (bG.mk c_4 c_5) c20 c21),eD l2 (ln c_2)&&(eD l3 (ln c_3)&&(eD l4 (ln c_4)&&(eD l5 (ln c_5)&&(K (aX.mk (aF.mk c0 c1 c2 (aB.mk c3 c4 c5) c6) c7 c8 (bO.mk c9 c10 c11 c12 c13)) (aH.mk (aG.mk c_2 c_3 c14 c15 c16 c17 c18 c19) (bG.mk c_4 c_5) c20 c21))))))
 |_,_=>none
theorem vG{N:aX→aH→SV×List Blk}{K:aX→aH→Bool}{f:Nat}(h: ∀(a:aX)(x0_fc:aH),K a x0_fc=true→dL R f (bUO a x0_fc) (bUP a x0_fc)=some (N a x0_fc)):cG f (KO N K):=fun args hp r e=>by
 unfold KO at e;split at e
 ·rename_i c0 c1 c2 c3 c4 c5 c6 c7 c8 c9 c10 c11 c12 c13 l2 l3 c14 c15 c16 c17 c18 c19 l4 l5 c20 c21 c_2 c_3 c_4 c_5;obtain⟨hr,hk⟩:=qp (qi e);obtain⟨d0,hk0⟩:=bB hk;obtain⟨d1,hk1⟩:=bB hk0;obtain⟨d2,hk2⟩:=bB hk1;obtain⟨d3,hk3⟩:=bB hk2;obtain rfl:=of_decide_eq_true d0;obtain rfl:=of_decide_eq_true d1;obtain rfl:=of_decide_eq_true d2;obtain rfl:=of_decide_eq_true d3;rw[←hr];exact h (aX.mk (aF.mk c0 c1 c2 (aB.mk c3 c4 c5) c6) c7 c8 (bO.mk c9 c10 c11 c12 c13)) (aH.mk (aG.mk c_2 c_3 c14 c15 c16 c17 c18 c19) (bG.mk c_4 c_5) c20 c21) hk3
 ·simp at e
section
variable(a:aX)
def aGQ:Bool:=(((a8X a.fx)&&((qN (0+(ln (QC a.fx))) (ln (QC a.fx)))&&true))&&true)
def aGR:Int:=(aD (aV a.fpc (dB 2 (bL (QC a.fx)))) 65535)
end
def aYH(a:aX)(x0_fc:aH):Pt (Int):=(ot (.ok ((aGQ a)&&((aGQ a)&&(((s1 (aGR a))&&true)&&((uI a true)&&((pH x0_fc true)&&(xL x0_fc ((r1 (QC a.fx))&&true))))))) (.ok (((aS x0_fc true)&&(aS x0_fc true))&&true) (.leaf (aGR a)))))
def aCM(a:aX)(x0_fc:aH):Int:=hid (aYH a x0_fc).val
def aR9(a:aX)(x0_fc:aH):Bool:=hid (aYH a x0_fc).okv
def bM6(a:aX)(x0_fc:aH)(r:Int):SV×List Blk:=((.one (li r)),[.box [.ptr 1 0 0,li a.fx.Op,li a.fx.Size,li a.fx.Reg,li a.fx.Ea.Mode,li a.fx.Ea.Reg,li a.fx.Ea.Ext,li a.fx.Sub,li a.fpc,li a.fword,li a.ffault.Vector,li a.ffault.PC,li a.ffault.Addr,li a.ffault.Word, .lit (.bool a.ffault.Write)], .box [.sl 2 0 (ln x0_fc.R.D), .sl 3 0 (ln x0_fc.R.A),li x0_fc.R.Other,li x0_fc.R.PC,li x0_fc.R.Flags,li x0_fc.R.Mask, .lit (.bool x0_fc.R.Super), .lit (.bool x0_fc.R.Trace), .sl 4 0 (ln x0_fc.Bus.Bytes), .sl 5 0 (ln x0_fc.Bus.Log), .lit (.bool x0_fc.Stop), .lit (.bool x0_fc.Halt)], .lst 1 x0_fc.R.D, .lst 1 x0_fc.R.A, .lst 1 x0_fc.Bus.Bytes, .lst 5 x0_fc.Bus.Log])
def q240:=KO (fun a x0_fc=>bM6 a x0_fc (aCM a x0_fc)) aR9
theorem bUQ:cG 240 q240:=vG fun a x0_fc hk=>tc aL2 (aYH a x0_fc) (bM6 a x0_fc) hk
def Q240:=aT 240 q240 Q239
theorem aL3:QO Q240:=aC bUQ aL2
def bUR(b:Int)(a:aX)(x0_fc:aH):List SV:=[(.one (.ptr 0 0 0)),(.one (li b))]
def bUS(b:Int)(a:aX)(x0_fc:aH):List Blk:=[.box [.ptr 1 0 0,li a.fx.Op,li a.fx.Size,li a.fx.Reg,li a.fx.Ea.Mode,li a.fx.Ea.Reg,li a.fx.Ea.Ext,li a.fx.Sub,li a.fpc,li a.fword,li a.ffault.Vector,li a.ffault.PC,li a.ffault.Addr,li a.ffault.Word, .lit (.bool a.ffault.Write)], .box [.sl 2 0 (ln x0_fc.R.D), .sl 3 0 (ln x0_fc.R.A),li x0_fc.R.Other,li x0_fc.R.PC,li x0_fc.R.Flags,li x0_fc.R.Mask, .lit (.bool x0_fc.R.Super), .lit (.bool x0_fc.R.Trace), .sl 4 0 (ln x0_fc.Bus.Bytes), .sl 5 0 (ln x0_fc.Bus.Log), .lit (.bool x0_fc.Stop), .lit (.bool x0_fc.Halt)], .lst 1 x0_fc.R.D, .lst 1 x0_fc.R.A, .lst 1 x0_fc.Bus.Bytes, .lst 5 x0_fc.Bus.Log]
def aGS(N:Int→aX→aH→SV×List Blk)(K:Int→aX→aH→Bool):List SV→List Blk→Option ((SV×List Blk)×Bool)
 |[(.one (.ptr 0 0 0)),(.one (li c0))],[.box [.ptr 1 0 0,li c1,li c2,li c3,li c4,li c5,li c6,li c7,li c8,li c9,li c10,li c11,li c12,li c13, .lit (.bool c14)], .box [.sl 2 0 l2, .sl 3 0 l3,li c15,li c16,li c17,li c18, .lit (.bool c19), .lit (.bool c20), .sl 4 0 l4, .sl 5 0 l5, .lit (.bool c21), .lit (.bool c22)], .lst 1 c_2, .lst 1 c_3, .lst 1 c_4, .lst 5 c_5]=>some (N c0 (aX.mk (aF.mk c1 c2 c3 (aB.mk c4 c5 c6) c7) c8 c9 (bO.mk c10 c11 c12 c13 c14)) (aH.mk (aG.mk c_2 c_3 c15 c16 c17 c18 c19 c20) (bG.mk c_4 c_5) c21 c22),eD l2 (ln c_2)&&(eD l3 (ln c_3)&&(eD l4 (ln c_4)&&(eD l5 (ln c_5)&&(K c0 (aX.mk (aF.mk c1 c2 c3 (aB.mk c4 c5 c6) c7) c8 c9 (bO.mk c10 c11 c12 c13 c14)) (aH.mk (aG.mk c_2 c_3 c15 c16 c17 c18 c19 c20) (bG.mk c_4 c_5) c21 c22))))))
 |_,_=>none
theorem QD{N:Int→aX→aH→SV×List Blk}{K:Int→aX→aH→Bool}{f:Nat}(h: ∀(b:Int)(a:aX)(x0_fc:aH),K b a x0_fc=true→dL R f (bUR b a x0_fc) (bUS b a x0_fc)=some (N b a x0_fc)):cG f (aGS N K):=fun args hp r e=>by
 unfold aGS at e;split at e
 ·rename_i c0 c1 c2 c3 c4 c5 c6 c7 c8 c9 c10 c11 c12 c13 c14 l2 l3 c15 c16 c17 c18 c19 c20 l4 l5 c21 c22 c_2 c_3 c_4 c_5;obtain⟨hr,hk⟩:=qp (qi e);obtain⟨d0,hk0⟩:=bB hk;obtain⟨d1,hk1⟩:=bB hk0;obtain⟨d2,hk2⟩:=bB hk1;obtain⟨d3,hk3⟩:=bB hk2;obtain rfl:=of_decide_eq_true d0;obtain rfl:=of_decide_eq_true d1;obtain rfl:=of_decide_eq_true d2;obtain rfl:=of_decide_eq_true d3;rw[←hr];exact h c0 (aX.mk (aF.mk c1 c2 c3 (aB.mk c4 c5 c6) c7) c8 c9 (bO.mk c10 c11 c12 c13 c14)) (aH.mk (aG.mk c_2 c_3 c15 c16 c17 c18 c19 c20) (bG.mk c_4 c_5) c21 c22) hk3
 ·simp at e
def aYI(b:Int)(a:aX)(x0_fc:aH):Pt (Int):=(ot (.ok (((leI 0 b)&&(ltI b (bL x0_fc.R.D)))&&((dM [.int .i64] x0_fc.R.D (0+(iN b)) 0)&&((CF a.fx.Size)&&true))) (.ok (((aS x0_fc true)&&(aS x0_fc true))&&true) (.leaf (aD (bD x0_fc.R.D (0+(iN b)) 0) (bZ (pK a.fx.Size) 1))))))
def aCN(b:Int)(a:aX)(x0_fc:aH):Int:=hid (aYI b a x0_fc).val
def aCO(b:Int)(a:aX)(x0_fc:aH):Bool:=hid (aYI b a x0_fc).okv
def bM7(b:Int)(a:aX)(x0_fc:aH)(r:Int):SV×List Blk:=((.one (li r)),[.box [.ptr 1 0 0,li a.fx.Op,li a.fx.Size,li a.fx.Reg,li a.fx.Ea.Mode,li a.fx.Ea.Reg,li a.fx.Ea.Ext,li a.fx.Sub,li a.fpc,li a.fword,li a.ffault.Vector,li a.ffault.PC,li a.ffault.Addr,li a.ffault.Word, .lit (.bool a.ffault.Write)], .box [.sl 2 0 (ln x0_fc.R.D), .sl 3 0 (ln x0_fc.R.A),li x0_fc.R.Other,li x0_fc.R.PC,li x0_fc.R.Flags,li x0_fc.R.Mask, .lit (.bool x0_fc.R.Super), .lit (.bool x0_fc.R.Trace), .sl 4 0 (ln x0_fc.Bus.Bytes), .sl 5 0 (ln x0_fc.Bus.Log), .lit (.bool x0_fc.Stop), .lit (.bool x0_fc.Halt)], .lst 1 x0_fc.R.D, .lst 1 x0_fc.R.A, .lst 1 x0_fc.Bus.Bytes, .lst 5 x0_fc.Bus.Log])
def q287:=aGS (fun b a x0_fc=>bM7 b a x0_fc (aCN b a x0_fc)) aCO
theorem bUT:cG 50287 q287:=QD fun b a x0_fc hk=>tck aL3 (aYI b a x0_fc) (bM7 b a x0_fc) hk
def Q287:=aT 50287 q287 Q240
theorem aL4:QO Q287:=aC bUT aL3
def bUU(b:Int)(c:aB)(a:aG):List SV:=[(.one (.ptr 0 0 0)),(.one (li b)),(.agg [li c.Mode,li c.Reg,li c.Ext])]
def bUV(b:Int)(c:aB)(a:aG):List Blk:=[.box [.sl 1 0 (ln a.D), .sl 2 0 (ln a.A),li a.Other,li a.PC,li a.Flags,li a.Mask, .lit (.bool a.Super), .lit (.bool a.Trace)], .lst 1 a.D, .lst 1 a.A]
def bFN(N:Int→aB→aG→SV×List Blk)(K:Int→aB→aG→Bool):List SV→List Blk→Option ((SV×List Blk)×Bool)
 |[(.one (.ptr 0 0 0)),(.one (li c0)),(.agg [li c1,li c2,li c3])],[.box [.sl 1 0 l1, .sl 2 0 l2,li c4,li c5,li c6,li c7, .lit (.bool c8), .lit (.bool c9)], .lst 1 c_1, .lst 1 c_2]=>some (N c0 (aB.mk c1 c2 c3) (aG.mk c_1 c_2 c4 c5 c6 c7 c8 c9),eD l1 (ln c_1)&&(eD l2 (ln c_2)&&(K c0 (aB.mk c1 c2 c3) (aG.mk c_1 c_2 c4 c5 c6 c7 c8 c9))))
 |_,_=>none
theorem bFO{N:Int→aB→aG→SV×List Blk}{K:Int→aB→aG→Bool}{f:Nat}(h: ∀(b:Int)(c:aB)(a:aG),K b c a=true→dL R f (bUU b c a) (bUV b c a)=some (N b c a)):cG f (bFN N K):=fun args hp r e=>by
 unfold bFN at e;split at e
 ·rename_i c0 c1 c2 c3 l1 l2 c4 c5 c6 c7 c8 c9 c_1 c_2;obtain⟨hr,hk⟩:=qp (qi e);obtain⟨d0,hk0⟩:=bB hk;obtain⟨d1,hk1⟩:=bB hk0;obtain rfl:=of_decide_eq_true d0;obtain rfl:=of_decide_eq_true d1;rw[←hr];exact h c0 (aB.mk c1 c2 c3) (aG.mk c_1 c_2 c4 c5 c6 c7 c8 c9) hk1
 ·simp at e
section
variable(b:Int)(c:aB)(a:aG)
def QE:Bool:=((leI 0 c.Reg)&&(ltI c.Reg (bL a.A)))
def aGT:Bool:=(dM [.int .i64] a.A (0+(iN c.Reg)) 0)
def YS:Bool:=((QE c a)&&((aGT c a)&&true))
def YT:Bool:=(dd (aK a true) ((aK a true)&&true))
def aGU:Bool:=((QE c a)&&(((blt (0+(iN c.Reg)) (ln a.A))&&(jT (jU a.A (0+(iN c.Reg))) 1))&&true))
def aGV:List Row:=(List.set a.A (0+(iN c.Reg)) (aU (aD (aV (bD a.A (0+(iN c.Reg)) 0) (bif (eqI c.Reg 3)then 2 else b)) 65535)))
def aGW:Bool:=((e1 (ln a.D))&&((eD (ln a.A) (ln (aGV b c a)))&&true))
def QF:List Row:=(List.set a.A (0+(iN c.Reg)) (aU (aD (bZ (bD a.A (0+(iN c.Reg)) 0) (bif (eqI c.Reg 3)then 2 else b)) 65535)))
def aGX:Bool:=((e1 (ln a.D))&&((eD (ln a.A) (ln (QF b c a)))&&true))
end
def aYJ(b:Int)(c:aB)(a:aG):Pt (aG×Int):=(ot (ot (ot (ot (ot (ot (.br (eqI c.Mode 2) (.ok (YS c a) (.ok (YT a) (.leaf (a,(bD a.A (0+(iN c.Reg)) 0))))) (ot (.br (eqI c.Mode 3) (.ok (YS c a) (.ok ((aGU c a)&&true) (ot (.ok ((((aK a true)&&(aGW b c a))&&true)&&((aGW b c a)&&true)) (.leaf ({a with A:=(aGV b c a)},(bD a.A (0+(iN c.Reg)) 0))))))) (ot (.br (eqI c.Mode 4) (.ok (((QE c a)&&((aGT c a)&&(aGU c a)))&&true) (.ok ((QE c a)&&((dM [.int .i64] (QF b c a) (0+(iN c.Reg)) 0)&&true)) (.ok ((((aK a true)&&(aGX b c a))&&true)&&((aGX b c a)&&true)) (.leaf ({a with A:=(QF b c a)},(bD (QF b c a) (0+(iN c.Reg)) 0)))))) (ot (.br (eqI c.Mode 5) (.ok (YS c a) (.ok (YT a) (.leaf (a,(aD (aV (bD a.A (0+(iN c.Reg)) 0) c.Ext) 65535))))) (ot (.ok (YT a) (.leaf (a,c.Ext)))))))))))))))))
def aGY(b:Int)(c:aB)(a:aG):aG×Int:=hid (aYJ b c a).val
def aGZ(b:Int)(c:aB)(a:aG):Bool:=hid (aYJ b c a).okv
def bM8(b:Int)(c:aB)(a:aG)(r:aG×Int):SV×List Blk:=((.one (li r.2)),[.box [.sl 1 0 (ln r.1.D), .sl 2 0 (ln r.1.A),li r.1.Other,li r.1.PC,li r.1.Flags,li r.1.Mask, .lit (.bool r.1.Super), .lit (.bool r.1.Trace)], .lst 1 r.1.D, .lst 1 r.1.A])
def q284:=bFN (fun b c a=>bM8 b c a (aGY b c a)) aGZ
theorem bUW:cG 50284 q284:=bFO fun b c a hk=>bL8 aL4 [(1000001,[])] [] true (aYJ b c a) (bM8 b c a) hk
def Q284:=aT 50284 q284 Q287
theorem aL5:QO Q284:=aC bUW aL4
def aYK(a:Int):Pt (Int):=(ot (.ok ((yU a 448 495)&&true) (.br (bif (wJ a 448 495)then true else(jO a 512)) (ot (ot (ot (.leaf 1)))) (.ok ((yU a 384 447)&&true) (.br (wJ a 384 447) (ot (ot (ot (.leaf 3)))) (ot (ot (ot (.leaf 0)))))))))
def aYL(a:Int):Int:=hid (aYK a).val
def a8Y(a:Int):Bool:=hid (aYK a).okv
def q349:=AZ (fun a=>wK a (aYL a)) a8Y
theorem bUX:cG 100349 q349:=gX fun a hk=>tz aL5 (aYK a) (wK a) hk
def Q349:=aT 100349 q349 Q284
theorem aL6:QO Q349:=aC bUX aL5
section
variable(b:Int)(c:Int)
def aG0:Int:=(aYL (bZ (aV c b) 1))
end
def aYM(a:Int)(b:Int)(c:Int):Pt (Int):=(ot (ot (.br (bif (eqI b 2)then(eqI (iC c 2) 1)else false) (ot (ot (ot (.leaf 2)))) (.ok ((a8Y c)&&((a8Y (bZ (aV c b) 1))&&true)) (ot (.br (bif (eqI (aYL c) 1)then true else(eqI (aG0 b c) 1)) (ot (ot (ot (.leaf 1)))) (ot (.br (bif (eqI a 2)then(bif (eqI (aYL c) 3)then true else(eqI (aG0 b c) 3))else false) (ot (ot (ot (.leaf 3)))) (ot (ot (ot (.leaf 0))))))))))))
def KP(a:Int)(b:Int)(c:Int):Int:=hid (aYM a b c).val
def bFP(a:Int)(b:Int)(c:Int):Bool:=hid (aYM a b c).okv
def aCP(a:Int)(b:Int)(c:Int)(r:Int):SV×List Blk:=((.one (li r)),[])
def q318:=DS5 (fun a b c=>aCP a b c (KP a b c)) bFP
theorem bUY:cG 100318 q318:=BU fun a b c hk=>tz aL6 (aYM a b c) (aCP a b c) hk
def Q318:=aT 100318 q318 Q349
theorem aL7:QO Q318:=aC bUY aL6
def bUZ(b:Int)(c:Int)(d:Int)(a:bG):List SV:=[(.one (.ptr 0 0 0)),(.one (li b)),(.one (li c)),(.one (li d))]
def bU0(b:Int)(c:Int)(d:Int)(a:bG):List Blk:=[.box [.sl 1 0 (ln a.Bytes), .sl 2 0 (ln a.Log)], .lst 1 a.Bytes, .lst 5 a.Log]
def bFQ(N:Int→Int→Int→bG→SV×List Blk)(K:Int→Int→Int→bG→Bool):List SV→List Blk→Option ((SV×List Blk)×Bool)
 |[(.one (.ptr 0 0 0)),(.one (li c0)),(.one (li c1)),(.one (li c2))],[.box [.sl 1 0 l1, .sl 2 0 l2], .lst 1 c_1, .lst 5 c_2]=>some (N c0 c1 c2 (bG.mk c_1 c_2),eD l1 (ln c_1)&&(eD l2 (ln c_2)&&(K c0 c1 c2 (bG.mk c_1 c_2))))
 |_,_=>none
theorem bFR{N:Int→Int→Int→bG→SV×List Blk}{K:Int→Int→Int→bG→Bool}{f:Nat}(h: ∀(b:Int)(c:Int)(d:Int)(a:bG),K b c d a=true→dL R f (bUZ b c d a) (bU0 b c d a)=some (N b c d a)):cG f (bFQ N K):=fun args hp r e=>by
 unfold bFQ at e;split at e
 ·rename_i c0 c1 c2 l1 l2 c_1 c_2;obtain⟨hr,hk⟩:=qp (qi e);obtain⟨d0,hk0⟩:=bB hk;obtain⟨d1,hk1⟩:=bB hk0;obtain rfl:=of_decide_eq_true d0;obtain rfl:=of_decide_eq_true d1;rw[←hr];exact h c0 c1 c2 (bG.mk c_1 c_2) hk1
 ·simp at e
section
variable(c:Int)(d:Int)(a:bG)
def YU:Bool:=(((leI 0 c)&&(ltI c (bL a.Bytes)))&&(((blt (0+(iN c)) (ln a.Bytes))&&(jT (jU a.Bytes (0+(iN c))) 1))&&true))
def QG:List Row:=(List.set a.Bytes (0+(iN c)) (aU (lO d 8)))
def YV:List Row:=(List.set (QG c d a) (0+(iN (aV c 1))) (aU (aD d 255)))
def YW:Bool:=((eD (ln a.Bytes) (ln (YV c d a)))&&((e1 (ln a.Log))&&true))
def YX:List Row:=(List.set a.Bytes (0+(iN c)) (aU (aD d 255)))
def YY:Bool:=((eD (ln a.Bytes) (ln (YX c d a)))&&((e1 (ln a.Log))&&true))
end
def aYN(b:Int)(c:Int)(d:Int)(a:bG):Pt (bG):=(ot (.br (eqI b 2) (.ok (YU c a) (ot (.ok (((leI 0 (aV c 1))&&(ltI (aV c 1) (bL a.Bytes)))&&(((blt (0+(iN (aV c 1))) (ln (QG c d a)))&&(jT (jU (QG c d a) (0+(iN (aV c 1)))) 1))&&true)) (.ok ((((bH a true)&&(YW c d a))&&true)&&((YW c d a)&&true)) (.leaf {a with Bytes:=(YV c d a)}))))) (.ok (YU c a) (.ok ((((bH a true)&&(YY c d a))&&true)&&((YY c d a)&&true)) (.leaf {a with Bytes:=(YX c d a)})))))
def IR(b:Int)(c:Int)(d:Int)(a:bG):bG:=hid (aYN b c d a).val
def bFS(b:Int)(c:Int)(d:Int)(a:bG):Bool:=hid (aYN b c d a).okv
def bM9(b:Int)(c:Int)(d:Int)(a:bG)(r:bG):SV×List Blk:=((.tup []),[.box [.sl 1 0 (ln r.Bytes), .sl 2 0 (ln r.Log)], .lst 1 r.Bytes, .lst 5 r.Log])
def q319:=bFQ (fun b c d a=>bM9 b c d a (IR b c d a)) bFS
theorem bU1:cG 319 q319:=bFR fun b c d a hk=>tcx aL7 [(1000001,[])] [] true (aYN b c d a) (bM9 b c d a) hk
def Q319:=aT 319 q319 Q318
theorem aL8:QO Q319:=aC bU1 aL7
def bU2(b:Int)(c:Int)(a:bG):List SV:=[(.one (.ptr 0 0 0)),(.one (li b)),(.one (li c))]
def bU3(b:Int)(c:Int)(a:bG):List Blk:=[.box [.sl 1 0 (ln a.Bytes), .sl 2 0 (ln a.Log)], .lst 1 a.Bytes, .lst 5 a.Log]
def bFT(N:Int→Int→bG→SV×List Blk)(K:Int→Int→bG→Bool):List SV→List Blk→Option ((SV×List Blk)×Bool)
 |[(.one (.ptr 0 0 0)),(.one (li c0)),(.one (li c1))],[.box [.sl 1 0 l1, .sl 2 0 l2], .lst 1 c_1, .lst 5 c_2]=>some (N c0 c1 (bG.mk c_1 c_2),eD l1 (ln c_1)&&(eD l2 (ln c_2)&&(K c0 c1 (bG.mk c_1 c_2))))
 |_,_=>none
theorem bFU{N:Int→Int→bG→SV×List Blk}{K:Int→Int→bG→Bool}{f:Nat}(h: ∀(b:Int)(c:Int)(a:bG),K b c a=true→dL R f (bU2 b c a) (bU3 b c a)=some (N b c a)):cG f (bFT N K):=fun args hp r e=>by
 unfold bFT at e;split at e
 ·rename_i c0 c1 l1 l2 c_1 c_2;obtain⟨hr,hk⟩:=qp (qi e);obtain⟨d0,hk0⟩:=bB hk;obtain⟨d1,hk1⟩:=bB hk0;obtain rfl:=of_decide_eq_true d0;obtain rfl:=of_decide_eq_true d1;rw[←hr];exact h c0 c1 (bG.mk c_1 c_2) hk1
 ·simp at e
section
variable(c:Int)(a:bG)
def YZ:Bool:=(dM [.int .i64] a.Bytes (0+(iN c)) 0)
def Y0:Bool:=(((bH a true)&&(bH a true))&&true)
end
def aYO(b:Int)(c:Int)(a:bG):Pt (Int):=(ot (ot (.br (eqI b 1) (.ok (((leI 0 c)&&(ltI c (bL a.Bytes)))&&((YZ c a)&&true)) (.ok (Y0 a) (.leaf (bD a.Bytes (0+(iN c)) 0)))) (.ok (((leI 0 c)&&(ltI c (bL a.Bytes)))&&((YZ c a)&&(((leI 0 (aV c 1))&&(ltI (aV c 1) (bL a.Bytes)))&&((dM [.int .i64] a.Bytes (0+(iN (aV c 1))) 0)&&true)))) (.ok (Y0 a) (.leaf (cD (hX (bD a.Bytes (0+(iN c)) 0) 8) (bD a.Bytes (0+(iN (aV c 1))) 0))))))))
def aYP(b:Int)(c:Int)(a:bG):Int:=hid (aYO b c a).val
def bFV(b:Int)(c:Int)(a:bG):Bool:=hid (aYO b c a).okv
def bNA(b:Int)(c:Int)(a:bG)(r:Int):SV×List Blk:=((.one (li r)),[.box [.sl 1 0 (ln a.Bytes), .sl 2 0 (ln a.Log)], .lst 1 a.Bytes, .lst 5 a.Log])
def q228:=bFT (fun b c a=>bNA b c a (aYP b c a)) bFV
theorem bU4:cG 228 q228:=bFU fun b c a hk=>tc aL8 (aYO b c a) (bNA b c a) hk
def Q228:=aT 228 q228 Q319
theorem aL9:QO Q228:=aC bU4 aL8
def bU5(b:Int)(c:Int)(d:Int)(o:Int)(a:bG):List SV:=[(.one (.ptr 0 0 0)),(.one (li b)),(.one (li c)),(.one (li d)),(.one (li o))]
def bU6(b:Int)(c:Int)(d:Int)(o:Int)(a:bG):List Blk:=[.box [.sl 1 0 (ln a.Bytes), .sl 2 0 (ln a.Log)], .lst 1 a.Bytes, .lst 5 a.Log]
def a8Z(N:Int→Int→Int→Int→bG→SV×List Blk)(K:Int→Int→Int→Int→bG→Bool):List SV→List Blk→Option ((SV×List Blk)×Bool)
 |[(.one (.ptr 0 0 0)),(.one (li c0)),(.one (li c1)),(.one (li c2)),(.one (li c3))],[.box [.sl 1 0 l1, .sl 2 0 l2], .lst 1 c_1, .lst 5 c_2]=>some (N c0 c1 c2 c3 (bG.mk c_1 c_2),eD l1 (ln c_1)&&(eD l2 (ln c_2)&&(K c0 c1 c2 c3 (bG.mk c_1 c_2))))
 |_,_=>none
theorem aYQ{N:Int→Int→Int→Int→bG→SV×List Blk}{K:Int→Int→Int→Int→bG→Bool}{f:Nat}(h: ∀(b:Int)(c:Int)(d:Int)(o:Int)(a:bG),K b c d o a=true→dL R f (bU5 b c d o a) (bU6 b c d o a)=some (N b c d o a)):cG f (a8Z N K):=fun args hp r e=>by
 unfold a8Z at e;split at e
 ·rename_i c0 c1 c2 c3 l1 l2 c_1 c_2;obtain⟨hr,hk⟩:=qp (qi e);obtain⟨d0,hk0⟩:=bB hk;obtain⟨d1,hk1⟩:=bB hk0;obtain rfl:=of_decide_eq_true d0;obtain rfl:=of_decide_eq_true d1;rw[←hr];exact h c0 c1 c2 c3 (bG.mk c_1 c_2) hk1
 ·simp at e
section
variable(b:Int)(c:Int)(d:Int)(o:Int)(a:bG)
def QH:Bool:=((qN (0+(ln a.Log)) (ln a.Log))&&true)
def QI:Bool:=(!(bif (eqI b 3)then(eqI (KP b c d) 0)else false))
def QJ:Bool:=(bif (ltI (bL a.Log) 400)then(QI b c d)else false)
def QK:Bool:=(((e1 (ln a.Log))&&((eD (0+(ln a.Log)) (ln a.Log))&&((qN (vC ((ln a.Log)+1) 40) 140737488355328)&&(qN ((ln a.Log)+1) 140737488355328))))&&true)
def QL:List Row:=(a.Log++[(aA.row (aA.mk b c d (bif (cV b 2)then 0 else o) (KP b c d)))])
def QM:Bool:=((e1 (ln a.Bytes))&&((e1 (ln (QL b c d o a)))&&true))
def QN:Bool:=(((bH a true)&&(bH a true))&&true)
def QP:Nat:=(0+(ln (IR c d o a).Log))
def QQ:Nat:=((ln (IR c d o a).Log)+1)
def QR:List Row:=((IR c d o a).Log++[(aA.row (aA.mk b c d (bif (cV b 2)then 0 else o) (KP b c d)))])
def IS:Bool:=((e1 (ln (IR c d o a).Bytes))&&((e1 (ln (QR b c d o a)))&&true))
def IT:List Row:=(a.Log++[(aA.row (aA.mk b c d (aYP c d a) (KP b c d)))])
def IU:Bool:=((e1 (ln a.Bytes))&&((e1 (ln (IT b c d a)))&&true))
end
def aG1(b:Int)(c:Int)(d:Int)(o:Int)(a:bG):Pt (bG×Int×Int):=(ot (.ok ((bFP b c d)&&true) (ot (ot (ot (ot (ot (.br (cV (KP b c d) 0) (.ok (QH a) (.br (QJ b c d a) (.ok (QK a) (ot (.ok (((QM b c d o a)&&(QM b c d o a))&&true) (.leaf ({a with Log:=(QL b c d o a)},0,(KP b c d)))))) (ot (.ok (QN a) (.leaf (a,0,(KP b c d))))))) (ot (.br (eqI b 2) (.ok ((xK a (bFS c d o a))&&true) (.ok ((qN (QP c d o a) (ln (IR c d o a).Log))&&true) (.br (bif (ltI (bL (IR c d o a).Log) 400)then(QI b c d)else false) (.ok (((e1 (ln (IR c d o a).Log))&&((eD (QP c d o a) (ln (IR c d o a).Log))&&((qN (vC (QQ c d o a) 40) 140737488355328)&&(qN (QQ c d o a) 140737488355328))))&&true) (ot (.ok (((IS b c d o a)&&(IS b c d o a))&&true) (.leaf ({(IR c d o a)with Log:=(QR b c d o a)},0,(KP b c d)))))) (ot (.ok (((bH (IR c d o a) true)&&(bH (IR c d o a) true))&&true) (.leaf ((IR c d o a),0,(KP b c d)))))))) (.ok ((xK a (bFV c d a))&&true) (ot (.ok (QH a) (.br (QJ b c d a) (.ok (QK a) (ot (.ok (((IU b c d a)&&(IU b c d a))&&true) (.leaf ({a with Log:=(IT b c d a)},(aYP c d a),(KP b c d)))))) (ot (.ok (QN a) (.leaf (a,(aYP c d a),(KP b c d)))))))))))))))))))
def S9(b:Int)(c:Int)(d:Int)(o:Int)(a:bG):bG×Int×Int:=hid (aG1 b c d o a).val
def TA(b:Int)(c:Int)(d:Int)(o:Int)(a:bG):Bool:=hid (aG1 b c d o a).okv
def a80(b:Int)(c:Int)(d:Int)(o:Int)(a:bG)(r:bG×Int×Int):SV×List Blk:=((.tup [(.one (li r.2.1)),(.one (li r.2.2))]),[.box [.sl 1 0 (ln r.1.Bytes), .sl 2 0 (ln r.1.Log)], .lst 1 r.1.Bytes, .lst 5 r.1.Log])
def q267:=a8Z (fun b c d o a=>a80 b c d o a (S9 b c d o a)) TA
theorem bU7:cG 267 q267:=aYQ fun b c d o a hk=>tc aL9 (aG1 b c d o a) (a80 b c d o a) hk
def Q267:=aT 267 q267 Q228
theorem aMA:QO Q267:=aC bU7 aL9
def aYR(a:Int):Pt (Int):=(ot (ot (.br (eqI a 2) (ot (ot (ot (.leaf 3)))) (ot (ot (ot (.leaf 2)))))))
def a81(a:Int):Int:=hid (aYR a).val
def bFW(a:Int):Bool:=hid (aYR a).okv
def q278:=AZ (fun a=>wK a (a81 a)) bFW
theorem bU8:cG 100278 q278:=gX fun a hk=>tz aMA (aYR a) (wK a) hk
def Q278:=aT 100278 q278 Q267
theorem aMB:QO Q278:=aC bU8 aMA
def bU9(b:Int)(c:Int)(d:Bool)(a:aX)(x0_fc:aH):List SV:=[(.one (.ptr 0 0 0)),(.one (li b)),(.one (li c)),(.one (.lit (.bool d)))]
def bVA(b:Int)(c:Int)(d:Bool)(a:aX)(x0_fc:aH):List Blk:=[.box [.ptr 1 0 0,li a.fx.Op,li a.fx.Size,li a.fx.Reg,li a.fx.Ea.Mode,li a.fx.Ea.Reg,li a.fx.Ea.Ext,li a.fx.Sub,li a.fpc,li a.fword,li a.ffault.Vector,li a.ffault.PC,li a.ffault.Addr,li a.ffault.Word, .lit (.bool a.ffault.Write)], .box [.sl 2 0 (ln x0_fc.R.D), .sl 3 0 (ln x0_fc.R.A),li x0_fc.R.Other,li x0_fc.R.PC,li x0_fc.R.Flags,li x0_fc.R.Mask, .lit (.bool x0_fc.R.Super), .lit (.bool x0_fc.R.Trace), .sl 4 0 (ln x0_fc.Bus.Bytes), .sl 5 0 (ln x0_fc.Bus.Log), .lit (.bool x0_fc.Stop), .lit (.bool x0_fc.Halt)], .lst 1 x0_fc.R.D, .lst 1 x0_fc.R.A, .lst 1 x0_fc.Bus.Bytes, .lst 5 x0_fc.Bus.Log]
def bFX(N:Int→Int→Bool→aX→aH→SV×List Blk)(K:Int→Int→Bool→aX→aH→Bool):List SV→List Blk→Option ((SV×List Blk)×Bool)
 |[(.one (.ptr 0 0 0)),(.one (li c0)),(.one (li c1)),(.one (.lit (.bool c2)))],[.box [.ptr 1 0 0,li c3,li c4,li c5,li c6,li c7,li c8,li c9,li c10,li c11,li c12,li c13,li c14,li c15, .lit (.bool c16)], .box [.sl 2 0 l2, .sl 3 0 l3,li c17,li c18,li c19,li c20, .lit (.bool c21), .lit (.bool c22), .sl 4 0 l4, .sl 5 0 l5, .lit (.bool c23), .lit (.bool c24)], .lst 1 c_2, .lst 1 c_3, .lst 1 c_4, .lst 5 c_5]=>some (N c0 c1 c2 (aX.mk (aF.mk c3 c4 c5 (aB.mk c6 c7 c8) c9) c10 c11 (bO.mk c12 c13 c14 c15 c16)) (aH.mk (aG.mk c_2 c_3 c17 c18 c19 c20 c21 c22) (bG.mk c_4 c_5) c23 c24),eD l2 (ln c_2)&&(eD l3 (ln c_3)&&(eD l4 (ln c_4)&&(eD l5 (ln c_5)&&(K c0 c1 c2 (aX.mk (aF.mk c3 c4 c5 (aB.mk c6 c7 c8) c9) c10 c11 (bO.mk c12 c13 c14 c15 c16)) (aH.mk (aG.mk c_2 c_3 c17 c18 c19 c20 c21 c22) (bG.mk c_4 c_5) c23 c24))))))
 |_,_=>none
theorem bFY{N:Int→Int→Bool→aX→aH→SV×List Blk}{K:Int→Int→Bool→aX→aH→Bool}{f:Nat}(h: ∀(b:Int)(c:Int)(d:Bool)(a:aX)(x0_fc:aH),K b c d a x0_fc=true→dL R f (bU9 b c d a x0_fc) (bVA b c d a x0_fc)=some (N b c d a x0_fc)):cG f (bFX N K):=fun args hp r e=>by
 unfold bFX at e;split at e
 ·rename_i c0 c1 c2 c3 c4 c5 c6 c7 c8 c9 c10 c11 c12 c13 c14 c15 c16 l2 l3 c17 c18 c19 c20 c21 c22 l4 l5 c23 c24 c_2 c_3 c_4 c_5;obtain⟨hr,hk⟩:=qp (qi e);obtain⟨d0,hk0⟩:=bB hk;obtain⟨d1,hk1⟩:=bB hk0;obtain⟨d2,hk2⟩:=bB hk1;obtain⟨d3,hk3⟩:=bB hk2;obtain rfl:=of_decide_eq_true d0;obtain rfl:=of_decide_eq_true d1;obtain rfl:=of_decide_eq_true d2;obtain rfl:=of_decide_eq_true d3;rw[←hr];exact h c0 c1 c2 (aX.mk (aF.mk c3 c4 c5 (aB.mk c6 c7 c8) c9) c10 c11 (bO.mk c12 c13 c14 c15 c16)) (aH.mk (aG.mk c_2 c_3 c17 c18 c19 c20 c21 c22) (bG.mk c_4 c_5) c23 c24) hk3
 ·simp at e
section
variable(b:Int)(a:aX)(x0_fc:aH)
def aG2:Bool:=(((aS x0_fc true)&&(aS x0_fc true))&&true)
def aG3:aX:=(aGO (a81 b) a.fpc a x0_fc)
end
def aYS(b:Int)(c:Int)(d:Bool)(a:aX)(x0_fc:aH):Pt (aX):=(ot (.br (bif (eqI b 0)then true else(cV a.ffault.Vector 0)) (.ok (aG2 x0_fc) (.leaf a)) (.ok (((bFW b)&&((bX x0_fc (aGP (a81 b) a.fpc a x0_fc))&&true))&&true) (ot (.ok (aG2 x0_fc) (.leaf {(aG3 b a x0_fc)with ffault:={(aG3 b a x0_fc).ffault with Addr:=c,Write:=d}}))))))
def aSA(b:Int)(c:Int)(d:Bool)(a:aX)(x0_fc:aH):aX:=hid (aYS b c d a x0_fc).val
def aSB(b:Int)(c:Int)(d:Bool)(a:aX)(x0_fc:aH):Bool:=hid (aYS b c d a x0_fc).okv
def bNB(b:Int)(c:Int)(d:Bool)(a:aX)(x0_fc:aH)(r:aX):SV×List Blk:=((.tup []),[.box [.ptr 1 0 0,li r.fx.Op,li r.fx.Size,li r.fx.Reg,li r.fx.Ea.Mode,li r.fx.Ea.Reg,li r.fx.Ea.Ext,li r.fx.Sub,li r.fpc,li r.fword,li r.ffault.Vector,li r.ffault.PC,li r.ffault.Addr,li r.ffault.Word, .lit (.bool r.ffault.Write)], .box [.sl 2 0 (ln x0_fc.R.D), .sl 3 0 (ln x0_fc.R.A),li x0_fc.R.Other,li x0_fc.R.PC,li x0_fc.R.Flags,li x0_fc.R.Mask, .lit (.bool x0_fc.R.Super), .lit (.bool x0_fc.R.Trace), .sl 4 0 (ln x0_fc.Bus.Bytes), .sl 5 0 (ln x0_fc.Bus.Log), .lit (.bool x0_fc.Stop), .lit (.bool x0_fc.Halt)], .lst 1 x0_fc.R.D, .lst 1 x0_fc.R.A, .lst 1 x0_fc.Bus.Bytes, .lst 5 x0_fc.Bus.Log])
def q354:=bFX (fun b c d a x0_fc=>bNB b c d a x0_fc (aSA b c d a x0_fc)) aSB
theorem bVB:cG 50354 q354:=bFY fun b c d a x0_fc hk=>tck aMB (aYS b c d a x0_fc) (bNB b c d a x0_fc) hk
def Q354:=aT 50354 q354 Q278
theorem aMC:QO Q354:=aC bVB aMB
section
variable(b:Int)(a:aX)(x0_fc:aH)
def GP:bG×Int×Int:=(S9 1 a.fx.Size b 0 x0_fc.Bus)
def Y1:Bool:=(aK x0_fc.R (bH (GP b a x0_fc).1 true))
def Y2:aH:={x0_fc with Bus:=(GP b a x0_fc).1}
end
def aYT(b:Int)(a:aX)(x0_fc:aH):Pt (aX×aH×Int):=(ot (.ok (((xK x0_fc.Bus (TA 1 a.fx.Size b 0 x0_fc.Bus))&&true)&&true) (.ok ((dd (Y1 b a x0_fc) (aK x0_fc.R (bH (GP b a x0_fc).1 (aSB (GP b a x0_fc).2.2 b false a (Y2 b a x0_fc)))))&&true) (ot (.ok (((Y1 b a x0_fc)&&(Y1 b a x0_fc))&&true) (.leaf ((aSA (GP b a x0_fc).2.2 b false a (Y2 b a x0_fc)),(Y2 b a x0_fc),(GP b a x0_fc).2.1)))))))
def kQ(b:Int)(a:aX)(x0_fc:aH):aX×aH×Int:=hid (aYT b a x0_fc).val
def aYU(b:Int)(a:aX)(x0_fc:aH):Bool:=hid (aYT b a x0_fc).okv
def bNC(b:Int)(a:aX)(x0_fc:aH)(r:aX×aH×Int):SV×List Blk:=((.one (li r.2.2)),[.box [.ptr 1 0 0,li r.1.fx.Op,li r.1.fx.Size,li r.1.fx.Reg,li r.1.fx.Ea.Mode,li r.1.fx.Ea.Reg,li r.1.fx.Ea.Ext,li r.1.fx.Sub,li r.1.fpc,li r.1.fword,li r.1.ffault.Vector,li r.1.ffault.PC,li r.1.ffault.Addr,li r.1.ffault.Word, .lit (.bool r.1.ffault.Write)], .box [.sl 2 0 (ln r.2.1.R.D), .sl 3 0 (ln r.2.1.R.A),li r.2.1.R.Other,li r.2.1.R.PC,li r.2.1.R.Flags,li r.2.1.R.Mask, .lit (.bool r.2.1.R.Super), .lit (.bool r.2.1.R.Trace), .sl 4 0 (ln r.2.1.Bus.Bytes), .sl 5 0 (ln r.2.1.Bus.Log), .lit (.bool r.2.1.Stop), .lit (.bool r.2.1.Halt)], .lst 1 r.2.1.R.D, .lst 1 r.2.1.R.A, .lst 1 r.2.1.Bus.Bytes, .lst 5 r.2.1.Bus.Log])
def q331:=aGS (fun b a x0_fc=>bNC b a x0_fc (kQ b a x0_fc)) aYU
theorem bVC:cG 50331 q331:=QD fun b a x0_fc hk=>tck aMC (aYT b a x0_fc) (bNC b a x0_fc) hk
def Q331:=aT 50331 q331 Q354
theorem aMD:QO Q331:=aC bVC aMC
section
variable(a:aX)(x0_fc:aH)
def Y3:Bool:=(((aS x0_fc true)&&(aS x0_fc true))&&true)
def GQ:aG×Int:=(aGY a.fx.Size a.fx.Ea x0_fc.R)
def KQ:aX×aH×Int:=(kQ (GQ a x0_fc).2 a {x0_fc with R:=(GQ a x0_fc).1})
end
def aYV(a:aX)(x0_fc:aH):Pt (aX×aH×Int):=(ot (ot (ot (ot (.br (eqI a.fx.Ea.Mode 0) (.ok ((bX x0_fc (aCO a.fx.Ea.Reg a x0_fc))&&true) (.ok (Y3 x0_fc) (.leaf (a,x0_fc,(aCN a.fx.Ea.Reg a x0_fc))))) (ot (.br (eqI a.fx.Ea.Mode 1) (.ok (((leI 0 a.fx.Ea.Reg)&&(ltI a.fx.Ea.Reg (bL x0_fc.R.A)))&&((dM [.int .i64] x0_fc.R.A (0+(iN a.fx.Ea.Reg)) 0)&&true)) (.ok (Y3 x0_fc) (.leaf (a,x0_fc,(bD x0_fc.R.A (0+(iN a.fx.Ea.Reg)) 0))))) (ot (.br (eqI a.fx.Ea.Mode 7) (ot (.ok (Y3 x0_fc) (.leaf (a,x0_fc,a.fx.Ea.Ext)))) (.ok (((iW x0_fc.R (aGZ a.fx.Size a.fx.Ea x0_fc.R))&&((dd (aK (GQ a x0_fc).1 (bH x0_fc.Bus true)) (aK (GQ a x0_fc).1 (bH x0_fc.Bus (aYU (GQ a x0_fc).2 a {x0_fc with R:=(GQ a x0_fc).1}))))&&true))&&true) (.ok (((aS (KQ a x0_fc).2.1 true)&&(aS (KQ a x0_fc).2.1 true))&&true) (.leaf ((KQ a x0_fc).1,(KQ a x0_fc).2.1,(KQ a x0_fc).2.2)))))))))))))
def cH(a:aX)(x0_fc:aH):aX×aH×Int:=hid (aYV a x0_fc).val
def aSC(a:aX)(x0_fc:aH):Bool:=hid (aYV a x0_fc).okv
def a82(a:aX)(x0_fc:aH)(r:aX×aH×Int):SV×List Blk:=((.one (li r.2.2)),[.box [.ptr 1 0 0,li r.1.fx.Op,li r.1.fx.Size,li r.1.fx.Reg,li r.1.fx.Ea.Mode,li r.1.fx.Ea.Reg,li r.1.fx.Ea.Ext,li r.1.fx.Sub,li r.1.fpc,li r.1.fword,li r.1.ffault.Vector,li r.1.ffault.PC,li r.1.ffault.Addr,li r.1.ffault.Word, .lit (.bool r.1.ffault.Write)], .box [.sl 2 0 (ln r.2.1.R.D), .sl 3 0 (ln r.2.1.R.A),li r.2.1.R.Other,li r.2.1.R.PC,li r.2.1.R.Flags,li r.2.1.R.Mask, .lit (.bool r.2.1.R.Super), .lit (.bool r.2.1.R.Trace), .sl 4 0 (ln r.2.1.Bus.Bytes), .sl 5 0 (ln r.2.1.Bus.Log), .lit (.bool r.2.1.Stop), .lit (.bool r.2.1.Halt)], .lst 1 r.2.1.R.D, .lst 1 r.2.1.R.A, .lst 1 r.2.1.Bus.Bytes, .lst 5 r.2.1.Bus.Log])
def q283:=KO (fun a x0_fc=>a82 a x0_fc (cH a x0_fc)) aSC
theorem bVD:cG 50283 q283:=vG fun a x0_fc hk=>tck aMD (aYV a x0_fc) (a82 a x0_fc) hk
def Q283:=aT 50283 q283 Q331
theorem aME:QO Q283:=aC bVD aMD
def bVE(b:Int)(c:Int)(d:Int)(a:aG):List SV:=[(.one (.ptr 0 0 0)),(.one (li b)),(.one (li c)),(.one (li d))]
def bVF(b:Int)(c:Int)(d:Int)(a:aG):List Blk:=[.box [.sl 1 0 (ln a.D), .sl 2 0 (ln a.A),li a.Other,li a.PC,li a.Flags,li a.Mask, .lit (.bool a.Super), .lit (.bool a.Trace)], .lst 1 a.D, .lst 1 a.A]
def bFZ(N:Int→Int→Int→aG→SV×List Blk)(K:Int→Int→Int→aG→Bool):List SV→List Blk→Option ((SV×List Blk)×Bool)
 |[(.one (.ptr 0 0 0)),(.one (li c0)),(.one (li c1)),(.one (li c2))],[.box [.sl 1 0 l1, .sl 2 0 l2,li c3,li c4,li c5,li c6, .lit (.bool c7), .lit (.bool c8)], .lst 1 c_1, .lst 1 c_2]=>some (N c0 c1 c2 (aG.mk c_1 c_2 c3 c4 c5 c6 c7 c8),eD l1 (ln c_1)&&(eD l2 (ln c_2)&&(K c0 c1 c2 (aG.mk c_1 c_2 c3 c4 c5 c6 c7 c8))))
 |_,_=>none
theorem bF0{N:Int→Int→Int→aG→SV×List Blk}{K:Int→Int→Int→aG→Bool}{f:Nat}(h: ∀(b:Int)(c:Int)(d:Int)(a:aG),K b c d a=true→dL R f (bVE b c d a) (bVF b c d a)=some (N b c d a)):cG f (bFZ N K):=fun args hp r e=>by
 unfold bFZ at e;split at e
 ·rename_i c0 c1 c2 l1 l2 c3 c4 c5 c6 c7 c8 c_1 c_2;obtain⟨hr,hk⟩:=qp (qi e);obtain⟨d0,hk0⟩:=bB hk;obtain⟨d1,hk1⟩:=bB hk0;obtain rfl:=of_decide_eq_true d0;obtain rfl:=of_decide_eq_true d1;rw[←hr];exact h c0 c1 c2 (aG.mk c_1 c_2 c3 c4 c5 c6 c7 c8) hk1
 ·simp at e
section
variable(b:Int)(c:Int)(d:Int)(a:aG)
def aG4:List Row:=(List.set a.D (0+(iN c)) (aU (bif (eqI b 1)then(cD d (aJ (bD a.D (0+(iN c)) 0) 255))else d)))
def aG5:Bool:=((eD (ln a.D) (ln (aG4 b c d a)))&&((e1 (ln a.A))&&true))
end
def aYW(b:Int)(c:Int)(d:Int)(a:aG):Pt (aG):=(ot (.ok (((((leI 0 c)&&(ltI c (bL a.D)))&&((dM [.int .i64] a.D (0+(iN c)) 0)&&true))||(!(eqI b 1)))&&true) (.ok (((leI 0 c)&&(ltI c (bL a.D)))&&(((blt (0+(iN c)) (ln a.D))&&(jT (jU a.D (0+(iN c))) 1))&&true)) (.ok ((((aK a true)&&(aG5 b c d a))&&true)&&((aG5 b c d a)&&true)) (.leaf {a with D:=(aG4 b c d a)})))))
def Y4(b:Int)(c:Int)(d:Int)(a:aG):aG:=hid (aYW b c d a).val
def Y5(b:Int)(c:Int)(d:Int)(a:aG):Bool:=hid (aYW b c d a).okv
def bND(b:Int)(c:Int)(d:Int)(a:aG)(r:aG):SV×List Blk:=((.tup []),[.box [.sl 1 0 (ln r.D), .sl 2 0 (ln r.A),li r.Other,li r.PC,li r.Flags,li r.Mask, .lit (.bool r.Super), .lit (.bool r.Trace)], .lst 1 r.D, .lst 1 r.A])
def q288:=bFZ (fun b c d a=>bND b c d a (Y4 b c d a)) Y5
theorem bVG:cG 288 q288:=bF0 fun b c d a hk=>tcx aME [(1000001,[])] [] true (aYW b c d a) (bND b c d a) hk
def Q288:=aT 288 q288 Q283
theorem aMF:QO Q288:=aC bVG aME
def aG6(a:Bool)(b:Int):Pt (Int):=(ot (ot (.br a (ot (ot (ot (.leaf b)))) (ot (ot (ot (.leaf 0)))))))
def KR(a:Bool)(b:Int):Int:=hid (aG6 a b).val
def KS(a:Bool)(b:Int):Bool:=hid (aG6 a b).okv
def q317:=DS4 (fun a b=>a6B a b (KR a b)) KS
theorem bVH:cG 100317 q317:=bCM fun a b hk=>tz aMF (aG6 a b) (a6B a b) hk
def Q317:=aT 100317 q317 Q288
theorem aMG:QO Q317:=aC bVH aMF
def aYX(a:Int)(b:Int):Pt (Int):=(ot (.ok ((KS (eqI b 0) 4)&&((CF a)&&((KS (jO b (kF (pK a) 2)) 8)&&true))) (ot (ot (.leaf (cD (KR (eqI b 0) 4) (KR (jO b (kF (pK a) 2)) 8)))))))
def aSD(a:Int)(b:Int):Int:=hid (aYX a b).val
def aSE(a:Int)(b:Int):Bool:=hid (aYX a b).okv
def TB(a:Int)(b:Int)(r:Int):SV×List Blk:=((.one (li r)),[])
def q332:=M1 (fun a b=>TB a b (aSD a b)) aSE
theorem bVI:cG 100332 q332:=xP fun a b hk=>tz aMG (aYX a b) (TB a b) hk
def Q332:=aT 100332 q332 Q317
theorem aMH:QO Q332:=aC bVI aMG
def aYY(a:Int)(b:Int)(c:Int):Pt (Int):=(ot (.ok ((aSE a c)&&true) (ot (ot (.leaf (cD (aD b 16) (aSD a c)))))))
def bF1(a:Int)(b:Int)(c:Int):Int:=hid (aYY a b c).val
def bF2(a:Int)(b:Int)(c:Int):Bool:=hid (aYY a b c).okv
def q353:=DS5 (fun a b c=>aCP a b c (bF1 a b c)) bF2
theorem bVJ:cG 100353 q353:=BU fun a b c hk=>tz aMH (aYY a b c) (aCP a b c) hk
def Q353:=aT 100353 q353 Q332
theorem aMI:QO Q353:=aC bVJ aMH
def aYZ(b:Int)(a:aX)(x0_fc:aH):Pt (aH):=(.ok (((bF2 a.fx.Size x0_fc.R.Flags b)&&true)&&true) (.ok (((aS x0_fc true)&&(aS x0_fc true))&&true) (.leaf {x0_fc with R:={x0_fc.R with Flags:=(bF1 a.fx.Size x0_fc.R.Flags b)}})))
def tG(b:Int)(a:aX)(x0_fc:aH):aH:=hid (aYZ b a x0_fc).val
def vH(b:Int)(a:aX)(x0_fc:aH):Bool:=hid (aYZ b a x0_fc).okv
def a83(b:Int)(a:aX)(x0_fc:aH)(r:aH):SV×List Blk:=((.tup []),[.box [.ptr 1 0 0,li a.fx.Op,li a.fx.Size,li a.fx.Reg,li a.fx.Ea.Mode,li a.fx.Ea.Reg,li a.fx.Ea.Ext,li a.fx.Sub,li a.fpc,li a.fword,li a.ffault.Vector,li a.ffault.PC,li a.ffault.Addr,li a.ffault.Word, .lit (.bool a.ffault.Write)], .box [.sl 2 0 (ln r.R.D), .sl 3 0 (ln r.R.A),li r.R.Other,li r.R.PC,li r.R.Flags,li r.R.Mask, .lit (.bool r.R.Super), .lit (.bool r.R.Trace), .sl 4 0 (ln r.Bus.Bytes), .sl 5 0 (ln r.Bus.Log), .lit (.bool r.Stop), .lit (.bool r.Halt)], .lst 1 r.R.D, .lst 1 r.R.A, .lst 1 r.Bus.Bytes, .lst 5 r.Bus.Log])
def q330:=aGS (fun b a x0_fc=>a83 b a x0_fc (tG b a x0_fc)) vH
theorem bVK:cG 330 q330:=QD fun b a x0_fc hk=>tc aMI (aYZ b a x0_fc) (a83 b a x0_fc) hk
def Q330:=aT 330 q330 Q353
theorem aMJ:QO Q330:=aC bVK aMI
section
variable(b:Int)(a:aX)(x0_fc:aH)
def QS:aG:=(Y4 a.fx.Size a.fx.Reg b x0_fc.R)
def Y6:aH:=(tG b a {x0_fc with R:=(QS b a x0_fc)})
end
def aY0(b:Int)(a:aX)(x0_fc:aH):Pt (aH):=(ot (.br (cV a.ffault.Vector 0) (.ok (((aS x0_fc true)&&(aS x0_fc true))&&true) (.leaf x0_fc)) (.ok (((iW x0_fc.R (Y5 a.fx.Size a.fx.Reg b x0_fc.R))&&true)&&true) (.ok ((dd (aK (QS b a x0_fc) (bH x0_fc.Bus true)) (aK (QS b a x0_fc) (bH x0_fc.Bus (vH b a {x0_fc with R:=(QS b a x0_fc)}))))&&true) (.ok (((aS (Y6 b a x0_fc) true)&&(aS (Y6 b a x0_fc) true))&&true) (.leaf (Y6 b a x0_fc)))))))
def M2(b:Int)(a:aX)(x0_fc:aH):aH:=hid (aY0 b a x0_fc).val
def M3(b:Int)(a:aX)(x0_fc:aH):Bool:=hid (aY0 b a x0_fc).okv
def q325:=aGS (fun b a x0_fc=>a83 b a x0_fc (M2 b a x0_fc)) M3
theorem bVL:cG 325 q325:=QD fun b a x0_fc hk=>tc aMJ (aY0 b a x0_fc) (a83 b a x0_fc) hk
def Q325:=aT 325 q325 Q330
theorem aMK:QO Q325:=aC bVL aMJ
def aY1(a:Int)(b:Int):Pt (Int):=(ot (.ok ((CF a)&&true) (.br (jO b (kF (pK a) 2)) (.ok ((CF a)&&true) (ot (ot (.leaf (bZ b (pK a)))))) (ot (ot (ot (.leaf b)))))))
def Y7(a:Int)(b:Int):Int:=hid (aY1 a b).val
def aCQ(a:Int)(b:Int):Bool:=hid (aY1 a b).okv
def q337:=M1 (fun a b=>TB a b (Y7 a b)) aCQ
theorem bVM:cG 100337 q337:=xP fun a b hk=>tz aMK (aY1 a b) (TB a b) hk
def Q337:=aT 100337 q337 Q325
theorem aML:QO Q337:=aC bVM aMK
section
variable(a:Int)(b:Int)(c:Int)
def aG7:Bool:=(cV c (Y7 a (aD b (bZ (pK a) 1))))
end
def aY2(a:Int)(b:Int)(c:Int):Pt (Int×Int):=(ot (.ok ((CF a)&&true) (.ok ((aCQ a (aD b (bZ (pK a) 1)))&&true) (.ok ((KS (cV b (aD b (bZ (pK a) 1))) 17)&&((KS (aG7 a b c) 2)&&((aSE a (aD b (bZ (pK a) 1)))&&true))) (ot (ot (.leaf ((aD b (bZ (pK a) 1)),(cD (cD (KR (cV b (aD b (bZ (pK a) 1))) 17) (KR (aG7 a b c) 2)) (aSD a (aD b (bZ (pK a) 1))))))))))))
def a84(a:Int)(b:Int)(c:Int):Int×Int:=hid (aY2 a b c).val
def a85(a:Int)(b:Int)(c:Int):Bool:=hid (aY2 a b c).okv
def aSF(a:Int)(b:Int)(c:Int)(r:Int×Int):SV×List Blk:=((.tup [(.one (li r.1)),(.one (li r.2))]),[])
def q351:=DS5 (fun a b c=>aSF a b c (a84 a b c)) a85
theorem bVN:cG 100351 q351:=BU fun a b c hk=>tz aML (aY2 a b c) (aSF a b c) hk
def Q351:=aT 100351 q351 Q337
theorem aMM:QO Q351:=aC bVN aML
def bVO(a:Int)(b:Int)(c:Int)(d:Int):List SV:=[(.one (li a)),(.one (li b)),(.one (li c)),(.one (li d))]
def bVP(a:Int)(b:Int)(c:Int)(d:Int):List Blk:=[]
def TD(N:Int→Int→Int→Int→SV×List Blk)(K:Int→Int→Int→Int→Bool):List SV→List Blk→Option ((SV×List Blk)×Bool)
 |[(.one (li c0)),(.one (li c1)),(.one (li c2)),(.one (li c3))],[]=>some (N c0 c1 c2 c3,K c0 c1 c2 c3)
 |_,_=>none
theorem CH{N:Int→Int→Int→Int→SV×List Blk}{K:Int→Int→Int→Int→Bool}{f:Nat}(h: ∀(a:Int)(b:Int)(c:Int)(d:Int),K a b c d=true→dL R f (bVO a b c d) (bVP a b c d)=some (N a b c d)):cG f (TD N K):=fun _ _ _ e=>by
 unfold TD at e;split at e
 ·exact BT e (h _ _ _ _)
 ·cases e
section
variable(a:Int)(b:Int)(c:Int)(d:Int)
def aG8:Int:=(bZ (bZ (Y7 a c) (Y7 a d)) b)
def aG9:Int×Int:=(a84 a (bZ (bZ c d) b) (aG8 a b c d))
end
def aY3(a:Int)(b:Int)(c:Int)(d:Int):Pt (Int×Int):=(ot (.ok ((aCQ a c)&&((aCQ a d)&&((a85 a (bZ (bZ c d) b) (aG8 a b c d))&&true))) (ot (ot (.leaf ((aG9 a b c d).1,(aG9 a b c d).2))))))
def IV(a:Int)(b:Int)(c:Int)(d:Int):Int×Int:=hid (aY3 a b c d).val
def TE(a:Int)(b:Int)(c:Int)(d:Int):Bool:=hid (aY3 a b c d).okv
def M4(a:Int)(b:Int)(c:Int)(d:Int)(r:Int×Int):SV×List Blk:=((.tup [(.one (li r.1)),(.one (li r.2))]),[])
def q328:=TD (fun a b c d=>M4 a b c d (IV a b c d)) TE
theorem bVQ:cG 100328 q328:=CH fun a b c d hk=>tz aMM (aY3 a b c d) (M4 a b c d) hk
def Q328:=aT 100328 q328 Q351
theorem aMN:QO Q328:=aC bVQ aMM
def aY4(a:Int)(b:Int)(c:Int)(d:Int):Pt (Int):=(ot (.ok ((TE a 0 c d)&&true) (ot (ot (ot (.leaf (cD (aJ (IV a 0 c d).2 16) (aD b 16))))))))
def bF3(a:Int)(b:Int)(c:Int)(d:Int):Int:=hid (aY4 a b c d).val
def bF4(a:Int)(b:Int)(c:Int)(d:Int):Bool:=hid (aY4 a b c d).okv
def a86(a:Int)(b:Int)(c:Int)(d:Int)(r:Int):SV×List Blk:=((.one (li r)),[])
def q326:=TD (fun a b c d=>a86 a b c d (bF3 a b c d)) bF4
theorem bVR:cG 100326 q326:=CH fun a b c d hk=>tz aMN (aY4 a b c d) (a86 a b c d) hk
def Q326:=aT 100326 q326 Q328
theorem aMO:QO Q326:=aC bVR aMN
section
variable(a:Int)(b:Int)(c:Int)(d:Int)
def aHA:Int:=(aV (aV (Y7 a c) (Y7 a d)) b)
def aHB:Int×Int:=(a84 a (aV (aV c d) b) (aHA a b c d))
end
def aY5(a:Int)(b:Int)(c:Int)(d:Int):Pt (Int×Int):=(ot (.ok ((aCQ a c)&&((aCQ a d)&&((a85 a (aV (aV c d) b) (aHA a b c d))&&true))) (ot (ot (.leaf ((aHB a b c d).1,(aHB a b c d).2))))))
def bF5(a:Int)(b:Int)(c:Int)(d:Int):Int×Int:=hid (aY5 a b c d).val
def bF6(a:Int)(b:Int)(c:Int)(d:Int):Bool:=hid (aY5 a b c d).okv
def q327:=TD (fun a b c d=>M4 a b c d (bF5 a b c d)) bF6
theorem bVS:cG 100327 q327:=CH fun a b c d hk=>tz aMO (aY5 a b c d) (M4 a b c d) hk
def Q327:=aT 100327 q327 Q326
theorem aMP:QO Q327:=aC bVS aMO
section
variable(a:aX)(x0_fc:aH)
def vI:Bool:=(((aS (cH a x0_fc).2.1 true)&&(aS (cH a x0_fc).2.1 true))&&true)
def vJ:aH:=(M2 (cH a x0_fc).2.2 (cH a x0_fc).1 (cH a x0_fc).2.1)
def nC:Int:=(aCN (cH a x0_fc).1.fx.Reg (cH a x0_fc).1 (cH a x0_fc).2.1)
def xQ:Int:=(aD (nC a x0_fc) (cH a x0_fc).2.2)
def vK:aH:=(M2 (xQ a x0_fc) (cH a x0_fc).1 (cH a x0_fc).2.1)
def xR:Int:=(cD (nC a x0_fc) (cH a x0_fc).2.2)
def vL:aH:=(M2 (xR a x0_fc) (cH a x0_fc).1 (cH a x0_fc).2.1)
def xS:Int:=(oR (nC a x0_fc) (cH a x0_fc).2.2)
def vM:aH:=(M2 (xS a x0_fc) (cH a x0_fc).1 (cH a x0_fc).2.1)
def vN:Int×Int:=(bF5 a.fx.Size 0 (nC a x0_fc) (cH a x0_fc).2.2)
def sI:aG:=(Y4 a.fx.Size (cH a x0_fc).1.fx.Reg (vN a x0_fc).1 (cH a x0_fc).2.1.R)
def sJ:Bool:=(aK (sI a x0_fc) (bH (cH a x0_fc).2.1.Bus true))
def qO:Int×Int:=(IV a.fx.Size 0 (nC a x0_fc) (cH a x0_fc).2.2)
def sK:aG:=(Y4 a.fx.Size (cH a x0_fc).1.fx.Reg (qO a x0_fc).1 (cH a x0_fc).2.1.R)
def sL:Bool:=(aK (sK a x0_fc) (bH (cH a x0_fc).2.1.Bus true))
end
def aY6(a:aX)(x0_fc:aH):Pt (aX×aH):=(ot (.ok ((bX x0_fc (aSC a x0_fc))&&true) (ot (.br (cV (cH a x0_fc).1.ffault.Vector 0) (.ok (vI a x0_fc) (.leaf ((cH a x0_fc).1,(cH a x0_fc).2.1))) (.ok ((bX (cH a x0_fc).2.1 (aCO (cH a x0_fc).1.fx.Reg (cH a x0_fc).1 (cH a x0_fc).2.1))&&true) (ot (ot (.br (eqI (cH a x0_fc).1.fx.Op 1) (.ok ((bX (cH a x0_fc).2.1 (M3 (cH a x0_fc).2.2 (cH a x0_fc).1 (cH a x0_fc).2.1))&&true) (.ok (((aS (vJ a x0_fc) true)&&(aS (vJ a x0_fc) true))&&true) (.leaf ((cH a x0_fc).1,(vJ a x0_fc))))) (ot (.br (eqI (cH a x0_fc).1.fx.Op 5) (.ok ((bX (cH a x0_fc).2.1 (M3 (xQ a x0_fc) (cH a x0_fc).1 (cH a x0_fc).2.1))&&true) (.ok (((aS (vK a x0_fc) true)&&(aS (vK a x0_fc) true))&&true) (.leaf ((cH a x0_fc).1,(vK a x0_fc))))) (ot (.br (eqI (cH a x0_fc).1.fx.Op 6) (.ok ((bX (cH a x0_fc).2.1 (M3 (xR a x0_fc) (cH a x0_fc).1 (cH a x0_fc).2.1))&&true) (.ok (((aS (vL a x0_fc) true)&&(aS (vL a x0_fc) true))&&true) (.leaf ((cH a x0_fc).1,(vL a x0_fc))))) (ot (.br (eqI (cH a x0_fc).1.fx.Op 7) (.ok ((bX (cH a x0_fc).2.1 (M3 (xS a x0_fc) (cH a x0_fc).1 (cH a x0_fc).2.1))&&true) (.ok (((aS (vM a x0_fc) true)&&(aS (vM a x0_fc) true))&&true) (.leaf ((cH a x0_fc).1,(vM a x0_fc))))) (ot (.br (eqI (cH a x0_fc).1.fx.Op 8) (.ok ((bF4 a.fx.Size (cH a x0_fc).2.1.R.Flags (nC a x0_fc) (cH a x0_fc).2.2)&&true) (.ok (vI a x0_fc) (.leaf ((cH a x0_fc).1,{(cH a x0_fc).2.1 with R:={(cH a x0_fc).2.1.R with Flags:=(bF3 a.fx.Size (cH a x0_fc).2.1.R.Flags (nC a x0_fc) (cH a x0_fc).2.2)}})))) (ot (.br (eqI (cH a x0_fc).1.fx.Op 3) (.ok ((bF6 a.fx.Size 0 (nC a x0_fc) (cH a x0_fc).2.2)&&true) (.ok ((iW (cH a x0_fc).2.1.R (Y5 a.fx.Size (cH a x0_fc).1.fx.Reg (vN a x0_fc).1 (cH a x0_fc).2.1.R))&&true) (ot (.ok (((sJ a x0_fc)&&(sJ a x0_fc))&&true) (.leaf ((cH a x0_fc).1,{(cH a x0_fc).2.1 with R:={(sI a x0_fc)with Flags:=(vN a x0_fc).2}})))))) (ot (.br (eqI (cH a x0_fc).1.fx.Op 4) (.ok ((TE a.fx.Size 0 (nC a x0_fc) (cH a x0_fc).2.2)&&true) (.ok ((iW (cH a x0_fc).2.1.R (Y5 a.fx.Size (cH a x0_fc).1.fx.Reg (qO a x0_fc).1 (cH a x0_fc).2.1.R))&&true) (ot (.ok (((sL a x0_fc)&&(sL a x0_fc))&&true) (.leaf ((cH a x0_fc).1,{(cH a x0_fc).2.1 with R:={(sK a x0_fc)with Flags:=(qO a x0_fc).2}})))))) (.ok (vI a x0_fc) (.leaf ((cH a x0_fc).1,(cH a x0_fc).2.1)))))))))))))))))))))))
def aSG(a:aX)(x0_fc:aH):aX×aH:=hid (aY6 a x0_fc).val
def bF7(a:aX)(x0_fc:aH):Bool:=hid (aY6 a x0_fc).okv
def D4(a:aX)(x0_fc:aH)(r:aX×aH):SV×List Blk:=((.tup []),[.box [.ptr 1 0 0,li r.1.fx.Op,li r.1.fx.Size,li r.1.fx.Reg,li r.1.fx.Ea.Mode,li r.1.fx.Ea.Reg,li r.1.fx.Ea.Ext,li r.1.fx.Sub,li r.1.fpc,li r.1.fword,li r.1.ffault.Vector,li r.1.ffault.PC,li r.1.ffault.Addr,li r.1.ffault.Word, .lit (.bool r.1.ffault.Write)], .box [.sl 2 0 (ln r.2.R.D), .sl 3 0 (ln r.2.R.A),li r.2.R.Other,li r.2.R.PC,li r.2.R.Flags,li r.2.R.Mask, .lit (.bool r.2.R.Super), .lit (.bool r.2.R.Trace), .sl 4 0 (ln r.2.Bus.Bytes), .sl 5 0 (ln r.2.Bus.Log), .lit (.bool r.2.Stop), .lit (.bool r.2.Halt)], .lst 1 r.2.R.D, .lst 1 r.2.R.A, .lst 1 r.2.Bus.Bytes, .lst 5 r.2.Bus.Log])
def q281:=KO (fun a x0_fc=>D4 a x0_fc (aSG a x0_fc)) bF7
theorem bVT:cG 281 q281:=vG fun a x0_fc hk=>tc aMP (aY6 a x0_fc) (D4 a x0_fc) hk
def Q281:=aT 281 q281 Q327
theorem aMQ:QO Q281:=aC bVT aMP
section
variable(b:Int)(c:Int)(a:aX)(x0_fc:aH)
def KT:bG×Int×Int:=(S9 2 a.fx.Size b c x0_fc.Bus)
def Y8:Bool:=(aK x0_fc.R (bH (KT b c a x0_fc).1 true))
def Y9:aH:={x0_fc with Bus:=(KT b c a x0_fc).1}
end
def aY7(b:Int)(c:Int)(a:aX)(x0_fc:aH):Pt (aX×aH):=(.ok (((xK x0_fc.Bus (TA 2 a.fx.Size b c x0_fc.Bus))&&true)&&true) (.ok ((dd (Y8 b c a x0_fc) (aK x0_fc.R (bH (KT b c a x0_fc).1 (aSB (KT b c a x0_fc).2.2 b true a (Y9 b c a x0_fc)))))&&true) (.ok (((Y8 b c a x0_fc)&&(Y8 b c a x0_fc))&&true) (.leaf ((aSA (KT b c a x0_fc).2.2 b true a (Y9 b c a x0_fc)),(Y9 b c a x0_fc))))))
def aSH(b:Int)(c:Int)(a:aX)(x0_fc:aH):aX×aH:=hid (aY7 b c a x0_fc).val
def bF8(b:Int)(c:Int)(a:aX)(x0_fc:aH):Bool:=hid (aY7 b c a x0_fc).okv
def a87(b:Int)(c:Int)(a:aX)(x0_fc:aH)(r:aX×aH):SV×List Blk:=((.tup []),[.box [.ptr 1 0 0,li r.1.fx.Op,li r.1.fx.Size,li r.1.fx.Reg,li r.1.fx.Ea.Mode,li r.1.fx.Ea.Reg,li r.1.fx.Ea.Ext,li r.1.fx.Sub,li r.1.fpc,li r.1.fword,li r.1.ffault.Vector,li r.1.ffault.PC,li r.1.ffault.Addr,li r.1.ffault.Word, .lit (.bool r.1.ffault.Write)], .box [.sl 2 0 (ln r.2.R.D), .sl 3 0 (ln r.2.R.A),li r.2.R.Other,li r.2.R.PC,li r.2.R.Flags,li r.2.R.Mask, .lit (.bool r.2.R.Super), .lit (.bool r.2.R.Trace), .sl 4 0 (ln r.2.Bus.Bytes), .sl 5 0 (ln r.2.Bus.Log), .lit (.bool r.2.Stop), .lit (.bool r.2.Halt)], .lst 1 r.2.R.D, .lst 1 r.2.R.A, .lst 1 r.2.Bus.Bytes, .lst 5 r.2.Bus.Log])
def q352:=aYF (fun b c a x0_fc=>a87 b c a x0_fc (aSH b c a x0_fc)) bF8
theorem bVU:cG 352 q352:=aGM fun b c a x0_fc hk=>tc aMQ (aY7 b c a x0_fc) (a87 b c a x0_fc) hk
def Q352:=aT 352 q352 Q281
theorem aMR:QO Q352:=aC bVU aMQ
section
variable(c:Int)(a:aX)(x0_fc:aH)
def aHC:aG:=(Y4 a.fx.Size a.fx.Ea.Reg c x0_fc.R)
def aHD:Bool:=(aK (aHC c a x0_fc) (bH x0_fc.Bus true))
end
def aY8(b:Int)(c:Int)(a:aX)(x0_fc:aH):Pt (aX×aH):=(ot (.br (eqI a.fx.Ea.Mode 0) (.ok (((iW x0_fc.R (Y5 a.fx.Size a.fx.Ea.Reg c x0_fc.R))&&true)&&true) (.ok (((aHD c a x0_fc)&&(aHD c a x0_fc))&&true) (.leaf (a,{x0_fc with R:=(aHC c a x0_fc)})))) (.ok ((bX x0_fc (bF8 b c a x0_fc))&&true) (.ok (((aS (aSH b c a x0_fc).2 true)&&(aS (aSH b c a x0_fc).2 true))&&true) (.leaf ((aSH b c a x0_fc).1,(aSH b c a x0_fc).2))))))
def rS(b:Int)(c:Int)(a:aX)(x0_fc:aH):aX×aH:=hid (aY8 b c a x0_fc).val
def xT(b:Int)(c:Int)(a:aX)(x0_fc:aH):Bool:=hid (aY8 b c a x0_fc).okv
def q329:=aYF (fun b c a x0_fc=>a87 b c a x0_fc (rS b c a x0_fc)) xT
theorem bVV:cG 329 q329:=aGM fun b c a x0_fc hk=>tc aMR (aY8 b c a x0_fc) (a87 b c a x0_fc) hk
def Q329:=aT 329 q329 Q352
theorem aMS:QO Q329:=aC bVV aMR
section
variable(a:aX)(x0_fc:aH)
def CI:aG×Int:=(aGY a.fx.Size a.fx.Ea x0_fc.R)
def xU:Int:=(aCN a.fx.Reg a x0_fc)
def CJ:aX×aH:=(rS (CI a x0_fc).2 (xU a x0_fc) a {x0_fc with R:=(CI a x0_fc).1})
def QT:aH:=(tG (xU a x0_fc) (CJ a x0_fc).1 (CJ a x0_fc).2)
def CK:aX×aH:=(rS 0 (xU a x0_fc) a x0_fc)
def QU:aH:=(tG (xU a x0_fc) (CK a x0_fc).1 (CK a x0_fc).2)
end
def aY9(a:aX)(x0_fc:aH):Pt (aX×aH):=(ot (.ok ((bX x0_fc (aCO a.fx.Reg a x0_fc))&&true) (ot (.br (cV a.fx.Ea.Mode 0) (.ok (((iW x0_fc.R (aGZ a.fx.Size a.fx.Ea x0_fc.R))&&true)&&true) (.ok ((dd (aK (CI a x0_fc).1 (bH x0_fc.Bus true)) (aK (CI a x0_fc).1 (bH x0_fc.Bus (xT (CI a x0_fc).2 (xU a x0_fc) a {x0_fc with R:=(CI a x0_fc).1}))))&&true) (.ok ((bX (CJ a x0_fc).2 (vH (xU a x0_fc) (CJ a x0_fc).1 (CJ a x0_fc).2))&&true) (.ok (((aS (QT a x0_fc) true)&&(aS (QT a x0_fc) true))&&true) (.leaf ((CJ a x0_fc).1,(QT a x0_fc))))))) (.ok ((bX x0_fc (xT 0 (xU a x0_fc) a x0_fc))&&true) (.ok ((bX (CK a x0_fc).2 (vH (xU a x0_fc) (CK a x0_fc).1 (CK a x0_fc).2))&&true) (.ok (((aS (QU a x0_fc) true)&&(aS (QU a x0_fc) true))&&true) (.leaf ((CK a x0_fc).1,(QU a x0_fc))))))))))
def aSI(a:aX)(x0_fc:aH):aX×aH:=hid (aY9 a x0_fc).val
def bF9(a:aX)(x0_fc:aH):Bool:=hid (aY9 a x0_fc).okv
def q282:=KO (fun a x0_fc=>D4 a x0_fc (aSI a x0_fc)) bF9
theorem bVW:cG 282 q282:=vG fun a x0_fc hk=>tc aMS (aY9 a x0_fc) (D4 a x0_fc) hk
def Q282:=aT 282 q282 Q329
theorem aMT:QO Q282:=aC bVW aMS
section
variable(a:aX)(x0_fc:aH)
def cN:aG×Int:=(aGY a.fx.Size a.fx.Ea x0_fc.R)
def i7:Bool:=(aK (cN a x0_fc).1 (bH x0_fc.Bus true))
def pL:Bool:=(((i7 a x0_fc)&&(i7 a x0_fc))&&true)
def rT:Bool:=((dd (i7 a x0_fc) (aK (cN a x0_fc).1 (bH x0_fc.Bus (xT (cN a x0_fc).2 0 a {x0_fc with R:=(cN a x0_fc).1}))))&&true)
def lQ:aX×aH:=(rS (cN a x0_fc).2 0 a {x0_fc with R:=(cN a x0_fc).1})
def rU:Bool:=((bX (lQ a x0_fc).2 (vH 0 (lQ a x0_fc).1 (lQ a x0_fc).2))&&true)
def pM:aH:=(tG 0 (lQ a x0_fc).1 (lQ a x0_fc).2)
def rV:Bool:=(((aS (pM a x0_fc) true)&&(aS (pM a x0_fc) true))&&true)
def oJ:aX×aH:=(rS (cN a x0_fc).2 (IV a.fx.Size 0 0 0).1 a {x0_fc with R:=(cN a x0_fc).1})
def nD:aX×aH:=(rS (cN a x0_fc).2 (oR 0 (bZ (pK a.fx.Size) 1)) a {x0_fc with R:=(cN a x0_fc).1})
def lX:aH:=(tG (oR 0 (bZ (pK a.fx.Size) 1)) (nD a x0_fc).1 (nD a x0_fc).2)
def lY:aH:=(tG 0 a {x0_fc with R:=(cN a x0_fc).1})
def kI:Int:=(aCN a.fx.Ea.Reg a {x0_fc with R:=(cN a x0_fc).1})
def lZ:Int×Int:=(IV a.fx.Size 0 0 (kI a x0_fc))
def kJ:aX×aH:=(rS (cN a x0_fc).2 (lZ a x0_fc).1 a {x0_fc with R:=(cN a x0_fc).1})
def lC:Int:=(oR (kI a x0_fc) (bZ (pK a.fx.Size) 1))
def jX:aX×aH:=(rS (cN a x0_fc).2 (lC a x0_fc) a {x0_fc with R:=(cN a x0_fc).1})
def mA:aH:=(tG (lC a x0_fc) (jX a x0_fc).1 (jX a x0_fc).2)
def mB:aH:=(tG (kI a x0_fc) a {x0_fc with R:=(cN a x0_fc).1})
def cO:aX×aH×Int:=(kQ (cN a x0_fc).2 a {x0_fc with R:=(cN a x0_fc).1})
def nO:Bool:=(((aS (cO a x0_fc).2.1 true)&&(aS (cO a x0_fc).2.1 true))&&true)
def jY:aX×aH:=(rS (cN a x0_fc).2 0 (cO a x0_fc).1 (cO a x0_fc).2.1)
def mC:aH:=(tG 0 (jY a x0_fc).1 (jY a x0_fc).2)
def mD:Int×Int:=(IV a.fx.Size 0 0 (cO a x0_fc).2.2)
def kK:aX×aH:=(rS (cN a x0_fc).2 (mD a x0_fc).1 (cO a x0_fc).1 (cO a x0_fc).2.1)
def lD:Int:=(oR (cO a x0_fc).2.2 (bZ (pK a.fx.Size) 1))
def jZ:aX×aH:=(rS (cN a x0_fc).2 (lD a x0_fc) (cO a x0_fc).1 (cO a x0_fc).2.1)
def mE:aH:=(tG (lD a x0_fc) (jZ a x0_fc).1 (jZ a x0_fc).2)
def mF:aH:=(tG (cO a x0_fc).2.2 (cO a x0_fc).1 (cO a x0_fc).2.1)
def lE:Bool:=(((aS x0_fc true)&&(aS x0_fc true))&&true)
def nP:Bool:=((bX x0_fc (xT 0 0 a x0_fc))&&true)
def nQ:Bool:=((bX (rS 0 0 a x0_fc).2 (vH 0 (rS 0 0 a x0_fc).1 (rS 0 0 a x0_fc).2))&&true)
def lF:aH:=(tG 0 (rS 0 0 a x0_fc).1 (rS 0 0 a x0_fc).2)
def nS:Bool:=(((aS (lF a x0_fc) true)&&(aS (lF a x0_fc) true))&&true)
def kL:aX×aH:=(rS 0 (IV a.fx.Size 0 0 0).1 a x0_fc)
def j0:aX×aH:=(rS 0 (oR 0 (bZ (pK a.fx.Size) 1)) a x0_fc)
def mG:aH:=(tG (oR 0 (bZ (pK a.fx.Size) 1)) (j0 a x0_fc).1 (j0 a x0_fc).2)
def kM:Int:=(aCN a.fx.Ea.Reg a x0_fc)
def mH:Int×Int:=(IV a.fx.Size 0 0 (kM a x0_fc))
def kN:aX×aH:=(rS 0 (mH a x0_fc).1 a x0_fc)
def lG:Int:=(oR (kM a x0_fc) (bZ (pK a.fx.Size) 1))
def j5:aX×aH:=(rS 0 (lG a x0_fc) a x0_fc)
def mI:aH:=(tG (lG a x0_fc) (j5 a x0_fc).1 (j5 a x0_fc).2)
def mJ:aH:=(tG (kM a x0_fc) a x0_fc)
def nT:Bool:=(((aS (kQ 0 a x0_fc).2.1 true)&&(aS (kQ 0 a x0_fc).2.1 true))&&true)
def j6:aX×aH:=(rS 0 0 (kQ 0 a x0_fc).1 (kQ 0 a x0_fc).2.1)
def mK:aH:=(tG 0 (j6 a x0_fc).1 (j6 a x0_fc).2)
def mL:Int×Int:=(IV a.fx.Size 0 0 (kQ 0 a x0_fc).2.2)
def kO:aX×aH:=(rS 0 (mL a x0_fc).1 (kQ 0 a x0_fc).1 (kQ 0 a x0_fc).2.1)
def lH:Int:=(oR (kQ 0 a x0_fc).2.2 (bZ (pK a.fx.Size) 1))
def j7:aX×aH:=(rS 0 (lH a x0_fc) (kQ 0 a x0_fc).1 (kQ 0 a x0_fc).2.1)
def mM:aH:=(tG (lH a x0_fc) (j7 a x0_fc).1 (j7 a x0_fc).2)
def mN:aH:=(tG (kQ 0 a x0_fc).2.2 (kQ 0 a x0_fc).1 (kQ 0 a x0_fc).2.1)
end
def aZA(a:aX)(x0_fc:aH):Pt (aX×aH):=(ot (ot (ot (.br (cV a.fx.Ea.Mode 0) (.ok ((iW x0_fc.R (aGZ a.fx.Size a.fx.Ea x0_fc.R))&&true) (ot (.br (eqI a.fx.Sub 0) (ot (.br (cV a.ffault.Vector 0) (.ok (pL a x0_fc) (.leaf (a,{x0_fc with R:=(cN a x0_fc).1}))) (ot (ot (.br (eqI a.fx.Sub 0) (.ok (rT a x0_fc) (.ok (rU a x0_fc) (.ok (rV a x0_fc) (.leaf ((lQ a x0_fc).1,(pM a x0_fc)))))) (ot (.br (eqI a.fx.Sub 1) (.ok ((TE a.fx.Size 0 0 0)&&true) (.ok ((dd (i7 a x0_fc) (aK (cN a x0_fc).1 (bH x0_fc.Bus (xT (cN a x0_fc).2 (IV a.fx.Size 0 0 0).1 a {x0_fc with R:=(cN a x0_fc).1}))))&&true) (ot (.ok (((aS (oJ a x0_fc).2 true)&&(aS (oJ a x0_fc).2 true))&&true) (.leaf ((oJ a x0_fc).1,{(oJ a x0_fc).2 with R:={(oJ a x0_fc).2.R with Flags:=(IV a.fx.Size 0 0 0).2}})))))) (ot (.br (eqI a.fx.Sub 2) (.ok ((CF a.fx.Size)&&true) (.ok ((dd (i7 a x0_fc) (aK (cN a x0_fc).1 (bH x0_fc.Bus (xT (cN a x0_fc).2 (oR 0 (bZ (pK a.fx.Size) 1)) a {x0_fc with R:=(cN a x0_fc).1}))))&&true) (.ok ((bX (nD a x0_fc).2 (vH (oR 0 (bZ (pK a.fx.Size) 1)) (nD a x0_fc).1 (nD a x0_fc).2))&&true) (.ok (((aS (lX a x0_fc) true)&&(aS (lX a x0_fc) true))&&true) (.leaf ((nD a x0_fc).1,(lX a x0_fc))))))) (ot (.br (eqI a.fx.Sub 3) (.ok ((dd (i7 a x0_fc) (aK (cN a x0_fc).1 (bH x0_fc.Bus (vH 0 a {x0_fc with R:=(cN a x0_fc).1}))))&&true) (.ok (((aS (lY a x0_fc) true)&&(aS (lY a x0_fc) true))&&true) (.leaf (a,(lY a x0_fc))))) (.ok (pL a x0_fc) (.leaf (a,{x0_fc with R:=(cN a x0_fc).1})))))))))))))) (ot (.br (eqI a.fx.Ea.Mode 0) (.ok ((dd (i7 a x0_fc) (aK (cN a x0_fc).1 (bH x0_fc.Bus (aCO a.fx.Ea.Reg a {x0_fc with R:=(cN a x0_fc).1}))))&&true) (ot (.br (cV a.ffault.Vector 0) (.ok (pL a x0_fc) (.leaf (a,{x0_fc with R:=(cN a x0_fc).1}))) (ot (ot (.br (eqI a.fx.Sub 0) (.ok (rT a x0_fc) (.ok (rU a x0_fc) (.ok (rV a x0_fc) (.leaf ((lQ a x0_fc).1,(pM a x0_fc)))))) (ot (.br (eqI a.fx.Sub 1) (.ok ((TE a.fx.Size 0 0 (kI a x0_fc))&&true) (.ok ((dd (i7 a x0_fc) (aK (cN a x0_fc).1 (bH x0_fc.Bus (xT (cN a x0_fc).2 (lZ a x0_fc).1 a {x0_fc with R:=(cN a x0_fc).1}))))&&true) (ot (.ok (((aS (kJ a x0_fc).2 true)&&(aS (kJ a x0_fc).2 true))&&true) (.leaf ((kJ a x0_fc).1,{(kJ a x0_fc).2 with R:={(kJ a x0_fc).2.R with Flags:=(lZ a x0_fc).2}})))))) (ot (.br (eqI a.fx.Sub 2) (.ok ((CF a.fx.Size)&&true) (.ok ((dd (i7 a x0_fc) (aK (cN a x0_fc).1 (bH x0_fc.Bus (xT (cN a x0_fc).2 (lC a x0_fc) a {x0_fc with R:=(cN a x0_fc).1}))))&&true) (.ok ((bX (jX a x0_fc).2 (vH (lC a x0_fc) (jX a x0_fc).1 (jX a x0_fc).2))&&true) (.ok (((aS (mA a x0_fc) true)&&(aS (mA a x0_fc) true))&&true) (.leaf ((jX a x0_fc).1,(mA a x0_fc))))))) (ot (.br (eqI a.fx.Sub 3) (.ok ((dd (i7 a x0_fc) (aK (cN a x0_fc).1 (bH x0_fc.Bus (vH (kI a x0_fc) a {x0_fc with R:=(cN a x0_fc).1}))))&&true) (.ok (((aS (mB a x0_fc) true)&&(aS (mB a x0_fc) true))&&true) (.leaf (a,(mB a x0_fc))))) (.ok (pL a x0_fc) (.leaf (a,{x0_fc with R:=(cN a x0_fc).1}))))))))))))))) (.ok ((dd (i7 a x0_fc) (aK (cN a x0_fc).1 (bH x0_fc.Bus (aYU (cN a x0_fc).2 a {x0_fc with R:=(cN a x0_fc).1}))))&&true) (ot (.br (cV (cO a x0_fc).1.ffault.Vector 0) (.ok (nO a x0_fc) (.leaf ((cO a x0_fc).1,(cO a x0_fc).2.1))) (ot (ot (.br (eqI (cO a x0_fc).1.fx.Sub 0) (.ok ((bX (cO a x0_fc).2.1 (xT (cN a x0_fc).2 0 (cO a x0_fc).1 (cO a x0_fc).2.1))&&true) (.ok ((bX (jY a x0_fc).2 (vH 0 (jY a x0_fc).1 (jY a x0_fc).2))&&true) (.ok (((aS (mC a x0_fc) true)&&(aS (mC a x0_fc) true))&&true) (.leaf ((jY a x0_fc).1,(mC a x0_fc)))))) (ot (.br (eqI (cO a x0_fc).1.fx.Sub 1) (.ok ((TE a.fx.Size 0 0 (cO a x0_fc).2.2)&&true) (.ok ((bX (cO a x0_fc).2.1 (xT (cN a x0_fc).2 (mD a x0_fc).1 (cO a x0_fc).1 (cO a x0_fc).2.1))&&true) (ot (.ok (((aS (kK a x0_fc).2 true)&&(aS (kK a x0_fc).2 true))&&true) (.leaf ((kK a x0_fc).1,{(kK a x0_fc).2 with R:={(kK a x0_fc).2.R with Flags:=(mD a x0_fc).2}})))))) (ot (.br (eqI (cO a x0_fc).1.fx.Sub 2) (.ok ((CF a.fx.Size)&&true) (.ok ((bX (cO a x0_fc).2.1 (xT (cN a x0_fc).2 (lD a x0_fc) (cO a x0_fc).1 (cO a x0_fc).2.1))&&true) (.ok ((bX (jZ a x0_fc).2 (vH (lD a x0_fc) (jZ a x0_fc).1 (jZ a x0_fc).2))&&true) (.ok (((aS (mE a x0_fc) true)&&(aS (mE a x0_fc) true))&&true) (.leaf ((jZ a x0_fc).1,(mE a x0_fc))))))) (ot (.br (eqI (cO a x0_fc).1.fx.Sub 3) (.ok ((bX (cO a x0_fc).2.1 (vH (cO a x0_fc).2.2 (cO a x0_fc).1 (cO a x0_fc).2.1))&&true) (.ok (((aS (mF a x0_fc) true)&&(aS (mF a x0_fc) true))&&true) (.leaf ((cO a x0_fc).1,(mF a x0_fc))))) (.ok (nO a x0_fc) (.leaf ((cO a x0_fc).1,(cO a x0_fc).2.1)))))))))))))))))))) (ot (.br (eqI a.fx.Sub 0) (ot (.br (cV a.ffault.Vector 0) (.ok (lE x0_fc) (.leaf (a,x0_fc))) (ot (ot (.br (eqI a.fx.Sub 0) (.ok (nP a x0_fc) (.ok (nQ a x0_fc) (.ok (nS a x0_fc) (.leaf ((rS 0 0 a x0_fc).1,(lF a x0_fc)))))) (ot (.br (eqI a.fx.Sub 1) (.ok ((TE a.fx.Size 0 0 0)&&true) (.ok ((bX x0_fc (xT 0 (IV a.fx.Size 0 0 0).1 a x0_fc))&&true) (ot (.ok (((aS (kL a x0_fc).2 true)&&(aS (kL a x0_fc).2 true))&&true) (.leaf ((kL a x0_fc).1,{(kL a x0_fc).2 with R:={(kL a x0_fc).2.R with Flags:=(IV a.fx.Size 0 0 0).2}})))))) (ot (.br (eqI a.fx.Sub 2) (.ok ((CF a.fx.Size)&&true) (.ok ((bX x0_fc (xT 0 (oR 0 (bZ (pK a.fx.Size) 1)) a x0_fc))&&true) (.ok ((bX (j0 a x0_fc).2 (vH (oR 0 (bZ (pK a.fx.Size) 1)) (j0 a x0_fc).1 (j0 a x0_fc).2))&&true) (.ok (((aS (mG a x0_fc) true)&&(aS (mG a x0_fc) true))&&true) (.leaf ((j0 a x0_fc).1,(mG a x0_fc))))))) (ot (.br (eqI a.fx.Sub 3) (.ok ((bX x0_fc (vH 0 a x0_fc))&&true) (.ok (((aS (tG 0 a x0_fc) true)&&(aS (tG 0 a x0_fc) true))&&true) (.leaf (a,(tG 0 a x0_fc))))) (.ok (lE x0_fc) (.leaf (a,x0_fc)))))))))))))) (ot (.br (eqI a.fx.Ea.Mode 0) (.ok ((bX x0_fc (aCO a.fx.Ea.Reg a x0_fc))&&true) (ot (.br (cV a.ffault.Vector 0) (.ok (lE x0_fc) (.leaf (a,x0_fc))) (ot (ot (.br (eqI a.fx.Sub 0) (.ok (nP a x0_fc) (.ok (nQ a x0_fc) (.ok (nS a x0_fc) (.leaf ((rS 0 0 a x0_fc).1,(lF a x0_fc)))))) (ot (.br (eqI a.fx.Sub 1) (.ok ((TE a.fx.Size 0 0 (kM a x0_fc))&&true) (.ok ((bX x0_fc (xT 0 (mH a x0_fc).1 a x0_fc))&&true) (ot (.ok (((aS (kN a x0_fc).2 true)&&(aS (kN a x0_fc).2 true))&&true) (.leaf ((kN a x0_fc).1,{(kN a x0_fc).2 with R:={(kN a x0_fc).2.R with Flags:=(mH a x0_fc).2}})))))) (ot (.br (eqI a.fx.Sub 2) (.ok ((CF a.fx.Size)&&true) (.ok ((bX x0_fc (xT 0 (lG a x0_fc) a x0_fc))&&true) (.ok ((bX (j5 a x0_fc).2 (vH (lG a x0_fc) (j5 a x0_fc).1 (j5 a x0_fc).2))&&true) (.ok (((aS (mI a x0_fc) true)&&(aS (mI a x0_fc) true))&&true) (.leaf ((j5 a x0_fc).1,(mI a x0_fc))))))) (ot (.br (eqI a.fx.Sub 3) (.ok ((bX x0_fc (vH (kM a x0_fc) a x0_fc))&&true) (.ok (((aS (mJ a x0_fc) true)&&(aS (mJ a x0_fc) true))&&true) (.leaf (a,(mJ a x0_fc))))) (.ok (lE x0_fc) (.leaf (a,x0_fc))))))))))))))) (.ok ((bX x0_fc (aYU 0 a x0_fc))&&true) (ot (.br (cV (kQ 0 a x0_fc).1.ffault.Vector 0) (.ok (nT a x0_fc) (.leaf ((kQ 0 a x0_fc).1,(kQ 0 a x0_fc).2.1))) (ot (ot (.br (eqI (kQ 0 a x0_fc).1.fx.Sub 0) (.ok ((bX (kQ 0 a x0_fc).2.1 (xT 0 0 (kQ 0 a x0_fc).1 (kQ 0 a x0_fc).2.1))&&true) (.ok ((bX (j6 a x0_fc).2 (vH 0 (j6 a x0_fc).1 (j6 a x0_fc).2))&&true) (.ok (((aS (mK a x0_fc) true)&&(aS (mK a x0_fc) true))&&true) (.leaf ((j6 a x0_fc).1,(mK a x0_fc)))))) (ot (.br (eqI (kQ 0 a x0_fc).1.fx.Sub 1) (.ok ((TE a.fx.Size 0 0 (kQ 0 a x0_fc).2.2)&&true) (.ok ((bX (kQ 0 a x0_fc).2.1 (xT 0 (mL a x0_fc).1 (kQ 0 a x0_fc).1 (kQ 0 a x0_fc).2.1))&&true) (ot (.ok (((aS (kO a x0_fc).2 true)&&(aS (kO a x0_fc).2 true))&&true) (.leaf ((kO a x0_fc).1,{(kO a x0_fc).2 with R:={(kO a x0_fc).2.R with Flags:=(mL a x0_fc).2}})))))) (ot (.br (eqI (kQ 0 a x0_fc).1.fx.Sub 2) (.ok ((CF a.fx.Size)&&true) (.ok ((bX (kQ 0 a x0_fc).2.1 (xT 0 (lH a x0_fc) (kQ 0 a x0_fc).1 (kQ 0 a x0_fc).2.1))&&true) (.ok ((bX (j7 a x0_fc).2 (vH (lH a x0_fc) (j7 a x0_fc).1 (j7 a x0_fc).2))&&true) (.ok (((aS (mM a x0_fc) true)&&(aS (mM a x0_fc) true))&&true) (.leaf ((j7 a x0_fc).1,(mM a x0_fc))))))) (ot (.br (eqI (kQ 0 a x0_fc).1.fx.Sub 3) (.ok ((bX (kQ 0 a x0_fc).2.1 (vH (kQ 0 a x0_fc).2.2 (kQ 0 a x0_fc).1 (kQ 0 a x0_fc).2.1))&&true) (.ok (((aS (mN a x0_fc) true)&&(aS (mN a x0_fc) true))&&true) (.leaf ((kQ 0 a x0_fc).1,(mN a x0_fc))))) (.ok (nT a x0_fc) (.leaf ((kQ 0 a x0_fc).1,(kQ 0 a x0_fc).2.1)))))))))))))))))))))))
def aSJ(a:aX)(x0_fc:aH):aX×aH:=hid (aZA a x0_fc).val
def bGA(a:aX)(x0_fc:aH):Bool:=hid (aZA a x0_fc).okv
def q285:=KO (fun a x0_fc=>D4 a x0_fc (aSJ a x0_fc)) bGA
theorem bVX:cG 285 q285:=vG fun a x0_fc hk=>tc aMT (aZA a x0_fc) (D4 a x0_fc) hk
def Q285:=aT 285 q285 Q282
theorem aMU:QO Q285:=aC bVX aMT
def aZB(a:Int):Pt (Bool):=(ot (ot (ot (ot (.leaf (eqI (iC a 2) 0))))))
def aSK(a:Int):Bool:=hid (aZB a).val
def a88(a:Int):Bool:=hid (aZB a).okv
def q355:=AZ (fun a=>kG a (aSK a)) a88
theorem bVY:cG 100355 q355:=gX fun a hk=>tz aMU (aZB a) (kG a) hk
def Q355:=aT 100355 q355 Q285
theorem aMV:QO Q355:=aC bVY aMU
def bVZ(a:Int)(b:Int)(c:Int)(d:Int)(o:Int):List SV:=[(.one (li a)),(.one (li b)),(.one (li c)),(.one (li d)),(.one (li o))]
def bV0(a:Int)(b:Int)(c:Int)(d:Int)(o:Int):List Blk:=[]
def aZC(N:Int→Int→Int→Int→Int→SV×List Blk)(K:Int→Int→Int→Int→Int→Bool):List SV→List Blk→Option ((SV×List Blk)×Bool)
 |[(.one (li c0)),(.one (li c1)),(.one (li c2)),(.one (li c3)),(.one (li c4))],[]=>some (N c0 c1 c2 c3 c4,K c0 c1 c2 c3 c4)
 |_,_=>none
theorem aHE{N:Int→Int→Int→Int→Int→SV×List Blk}{K:Int→Int→Int→Int→Int→Bool}{f:Nat}(h: ∀(a:Int)(b:Int)(c:Int)(d:Int)(o:Int),K a b c d o=true→dL R f (bVZ a b c d o) (bV0 a b c d o)=some (N a b c d o)):cG f (aZC N K):=fun _ _ _ e=>by
 unfold aZC at e;split at e
 ·exact BT e (h _ _ _ _ _)
 ·cases e
def aZD(a:Int)(b:Int)(c:Int)(d:Int)(o:Int):Pt (Int):=(ot (ot (ot (.br (eqI a 1) (.ok ((leI 0 (bZ (dB 8 b) 1))&&true) (ot (ot (.leaf (lO d (bZ (dB 8 b) 1)))))) (ot (ot (.br (bif (eqI a 4)then(eqI a 4)else(eqI a 5)) (ot (ot (ot (.leaf o)))) (ot (ot (.br (bif (eqI a 6)then(eqI a 6)else(eqI a 7)) (ot (ot (ot (.leaf (kF c 16))))) (ot (ot (ot (.leaf 0))))))))))))))
def bGB(a:Int)(b:Int)(c:Int)(d:Int)(o:Int):Int:=hid (aZD a b c d o).val
def bGC(a:Int)(b:Int)(c:Int)(d:Int)(o:Int):Bool:=hid (aZD a b c d o).okv
def bNE(a:Int)(b:Int)(c:Int)(d:Int)(o:Int)(r:Int):SV×List Blk:=((.one (li r)),[])
def q356:=aZC (fun a b c d o=>bNE a b c d o (bGB a b c d o)) bGC
theorem bV1:cG 100356 q356:=aHE fun a b c d o hk=>tz aMV (aZD a b c d o) (bNE a b c d o) hk
def Q356:=aT 100356 q356 Q355
theorem aMW:QO Q356:=aC bV1 aMV
section
variable(a:Int)(b:Int)(c:Int)(d:Int)
def KU:Int:=(bif (aSK a)then(lO d (bZ (dB 8 b) 1))else(aD d 1))
def ZA:Int:=(bGB a b c d (KU a b d))
def KV:Int:=(bif (aSK a)then(cD (aD (hX d 1) (bZ (pK b) 1)) (ZA a b c d))else(cD (lO d 1) (hX (ZA a b c d) (bZ (dB 8 b) 1))))
def aHF:Bool:=(bif (eqI a 0)then(cV (lO (KV a b c d) (bZ (dB 8 b) 1)) (lO d (bZ (dB 8 b) 1)))else false)
end
def aZE(a:Int)(b:Int)(c:Int)(d:Int):Pt (Int×Int):=(ot (ot (ot (.ok ((a88 a)&&true) (.ok ((((leI 0 (bZ (dB 8 b) 1))&&true)||(!(aSK a)))&&true) (.ok ((bGC a b c d (KU a b d))&&true) (.ok ((leI 0 (bZ (dB 8 b) 1))&&true) (.ok ((a88 a)&&true) (.ok ((((CF b)&&true)||(!(aSK a)))&&true) (ot (ot (ot (.ok ((((leI 0 (bZ (dB 8 b) 1))&&((leI 0 (bZ (dB 8 b) 1))&&true))||(!(eqI a 0)))&&true) (.ok ((KS (aHF a b c d) 2)&&((aSE b (KV a b c d))&&true)) (ot (ot (.leaf ((KV a b c d),(cD (cD (cD (dB (KU a b d) 1) (bif (bif (eqI a 4)then true else(eqI a 5))then(aD c 16)else(dB (KU a b d) 16))) (KR (aHF a b c d) 2)) (aSD b (KV a b c d)))))))))))))))))))))
def bGD(a:Int)(b:Int)(c:Int)(d:Int):Int×Int:=hid (aZE a b c d).val
def bGE(a:Int)(b:Int)(c:Int)(d:Int):Bool:=hid (aZE a b c d).okv
def q333:=TD (fun a b c d=>M4 a b c d (bGD a b c d)) bGE
theorem bV2:cG 100333 q333:=CH fun a b c d hk=>tz aMW (aZE a b c d) (M4 a b c d) hk
def Q333:=aT 100333 q333 Q356
theorem ZB:QO Q333:=aC bV2 aMW
structure V286_0 where
 mk::
 (s0:Int)
 (s1:Int)
 (s2:Int)
 (s3:Int)
 (s4:Int)
 (s14:Int)
section
variable(v:V286_0)
def AG:Int×Int:=(bGD v.s0 v.s1 v.s2 v.s3)
end
def KW(v:V286_0):Pt (Option V286_0):=(ot (.br (pG v.s4 0) (.ok ((bGE v.s0 v.s1 v.s2 v.s3)&&true) (ot (ot (ot (.leaf (some (V286_0.mk v.s0 v.s1 (AG v).2 (AG v).1 (bZ v.s4 1) (cD v.s14 (aD (AG v).2 2))))))))) (.leaf none)))
def QV(v:V286_0):St:=⟨[(0,(.one (li v.s0))),(1,(.one (li v.s1))),(2,(.one (li v.s2))),(3,(.one (li v.s3))),(4,(.one (li v.s4))),(14,(.one (li v.s14)))],[]⟩
def ZC:St→Option (V286_0×Bool)
 |⟨[(0,(.one (li c0))),(1,(.one (li c1))),(2,(.one (li c2))),(3,(.one (li c3))),(4,(.one (li c4))),(14,(.one (li c5)))],[]⟩=>some ((V286_0.mk c0 c1 c2 c3 c4 c5),true)
 |_=>none
def ZD:St→Option (Pt Out):=yI Q333 ([]++HD 286) [] true [] 0 9223372036854775808 aEY
theorem a89(v:V286_0):((ZD (QV v)).bind (tF true false 0 [0,1,2,3,4,14]))=some ((KW v).map (Option.map QV)):=by kernel_rfl
theorem a9A(σ:St)(v:V286_0)(h:ZC σ=some (v,true)):σ=QV v:=by
 unfold ZC at h;split at h
 ·obtain⟨hr,hk⟩:=qp (qi h);rw[←hr];rfl
 ·simp at h
theorem a9B:cS (wD true false 0 [0,1,2,3,4,14] ZD ZC QV KW 9223372036854775808) (fV R 0 9223372036854775808 (.loop [0,1,2,3,4,14] aEY)):=d8 (cW ZB (cF (l:=[]) (by kernel_rfl) trivial)) a9A a89
def a9C:Lp:=(34,wD true false 0 [0,1,2,3,4,14] ZD ZC QV KW 9223372036854775808)::[]
def QW(v:V286_0):V286_0:=(hid (dV KW 9223372036854775808 v)).getD v
def aHG(v:V286_0):Bool:=(hid (dV KW 9223372036854775808 v)).isSome
section
variable(a:Int)(b:Int)(c:Int)(d:Int)(o:Int)
def aHH:Bool:=(bif (cV (aD c 16) 0)then(jO a 6)else false)
def ZE:V286_0:=(QW (V286_0.mk a b c d o 0))
end
def aZF(a:Int)(b:Int)(c:Int)(d:Int)(o:Int):Pt (Int×Int):=(ot (ot (.br (eqI o 0) (ot (.ok ((KS (aHH a c) 1)&&true) (.ok ((aSE b d)&&true) (ot (ot (.leaf (d,(cD (cD (aD c 16) (KR (aHH a c) 1)) (aSD b d))))))))) (ot (ot (ot (.ok (aHG (V286_0.mk a b c d o 0)) (ot (ot (ot (.leaf ((ZE a b c d o).s3,(cD (ZE a b c d o).s2 (ZE a b c d o).s14)))))))))))))
def bGF(a:Int)(b:Int)(c:Int)(d:Int)(o:Int):Int×Int:=hid (aZF a b c d o).val
def bGG(a:Int)(b:Int)(c:Int)(d:Int)(o:Int):Bool:=hid (aZF a b c d o).okv
def a9D(a:Int)(b:Int)(c:Int)(d:Int)(o:Int)(r:Int×Int):SV×List Blk:=((.tup [(.one (li r.1)),(.one (li r.2))]),[])
def q286:=aZC (fun a b c d o=>a9D a b c d o (bGF a b c d o)) bGG
theorem bNF:fT (fun live x=>cS (oQ a9C (m6 x)) (fV R 0 9223372036854775808 (.loop live x))) (qL 286).body:=(cF (l:=[([0,1,2,3,4,14],aEY)]) (by kernel_rfl) ⟨fZ (n:=34) (by kernel_rfl) fun σ σr t h ho hl=>a9B σ σr t h ho hl,trivial⟩)
theorem bV3:cG 100286 q286:=aHE fun a b c d o hk=>tzl ZB bNF [] [] true (aZF a b c d o) (a9D a b c d o) hk
def Q286:=aT 100286 q286 Q333
theorem aMX:QO Q286:=aC bV3 ZB
def bV4(a:Int)(b:Int):List SV:=[(.one (li a)),(.one (.ptr 0 0 0))]
def bV5(a:Int)(b:Int):List Blk:=[.box [li b]]
def bGH(N:Int→Int→SV×List Blk)(K:Int→Int→Bool):List SV→List Blk→Option ((SV×List Blk)×Bool)
 |[(.one (li c0)),(.one (.ptr 0 0 0))],[.box [li c1]]=>some (N c0 c1,K c0 c1)
 |_,_=>none
theorem bGI{N:Int→Int→SV×List Blk}{K:Int→Int→Bool}{f:Nat}(h: ∀(a:Int)(b:Int),K a b=true→dL R f (bV4 a b) (bV5 a b)=some (N a b)):cG f (bGH N K):=fun _ _ _ e=>by
 unfold bGH at e;split at e
 ·exact BT e (h _ _)
 ·cases e
def aZG(a:Int)(b:Int):Pt (Bool):=(ot (ot (ot (.leaf (cV (aD b a) 0)))))
def KX(a:Int)(b:Int):Bool:=hid (aZG a b).val
def M5(a:Int)(b:Int):Bool:=hid (aZG a b).okv
def bNG(a:Int)(b:Int)(r:Bool):SV×List Blk:=((.one (.lit (.bool r))),[.box [li b]])
def q334:=bGH (fun a b=>bNG a b (KX a b)) M5
theorem bV6:cG 334 q334:=bGI fun a b hk=>tc aMX (aZG a b) (bNG a b) hk
def Q334:=aT 334 q334 Q286
theorem aMY:QO Q334:=aC bV6 aMX
end
end Go.Proofs.YtdicpjkdpliofaaGreatMasks
