import Derived.Test.YtdipcnijfkdnfaaGreatZqTabFrames
import Derived.Test.YtdipcnijfkdnfaaGreatZmc
import Derived.KernelRfl
import Derived.Test.YtdipcnijfkdnfaaGreatZqFramesR
set_option linter.unusedVariables false
set_option linter.unusedSimpArgs false
namespace Go.Proofs.YtdipcnijfkdnfaaGreatFrames
open Option.some renaming inj → qi
open Prod.mk renaming inj → qp
open Int renaming toNat → iN
open Go Go.Zq
open List renaming length→ln
set_option maxRecDepth 100000
noncomputable section
structure aB where
 mk::
 (fcode:List Row)
 (fat:Int)
 (fseed:Int)
def aB.row(x:aB):Row:=[.imm true 1 x.fcode, .lit (.int .i64 x.fat), .lit (.int .u64 x.fseed)]
def aB.at(r:List Row)(j i:Nat):aB:=⟨gQ r j i,aU r j (i+1),aU r j (i+2)⟩
structure aK where
 mk::
 (Mode:Int)
 (Reg:Int)
 (Ext:Int)
def aK.row(x:aK):Row:=[.lit (.int .i64 x.Mode), .lit (.int .i64 x.Reg), .lit (.int .i64 x.Ext)]
def aK.at(r:List Row)(j i:Nat):aK:=⟨aU r j i,aU r j (i+1),aU r j (i+2)⟩
structure bD where
 mk::
 (Op:Int)
 (Size:Int)
 (Reg:Int)
 (Ea:aK)
 (Sub:Int)
def bD.row(x:bD):Row:=[.lit (.int .i64 x.Op), .lit (.int .i64 x.Size), .lit (.int .i64 x.Reg), .lit (.int .i64 x.Ea.Mode), .lit (.int .i64 x.Ea.Reg), .lit (.int .i64 x.Ea.Ext), .lit (.int .i64 x.Sub)]
def bD.at(r:List Row)(j i:Nat):bD:=⟨aU r j i,aU r j (i+1),aU r j (i+2),⟨aU r j (i+3),aU r j (i+4),aU r j (i+5)⟩,aU r j (i+6)⟩
structure aI where
 mk::
 (D:List Row)
 (A:List Row)
 (Other:Int)
 (PC:Int)
 (Flags:Int)
 (Mask:Int)
 (Super:Bool)
 (Trace:Bool)
def aI.row(x:aI):Row:=[.imm true 1 x.D, .imm true 1 x.A, .lit (.int .i64 x.Other), .lit (.int .i64 x.PC), .lit (.int .i64 x.Flags), .lit (.int .i64 x.Mask), .lit (.bool x.Super), .lit (.bool x.Trace)]
def aI.at(r:List Row)(j i:Nat):aI:=⟨gQ r j i,gQ r j (i+1),aU r j (i+2),aU r j (i+3),aU r j (i+4),aU r j (i+5),iI r j (i+6),iI r j (i+7)⟩
structure aO where
 mk::
 (Bytes:List Row)
 (Log:List Row)
def aO.row(x:aO):Row:=[.imm true 1 x.Bytes, .imm true 5 x.Log]
def aO.at(r:List Row)(j i:Nat):aO:=⟨gQ r j i,gQ r j (i+1)⟩
structure aJ where
 mk::
 (R:aI)
 (Bus:aO)
 (Stop:Bool)
 (Halt:Bool)
def aJ.row(x:aJ):Row:=[.imm true 1 x.R.D, .imm true 1 x.R.A, .lit (.int .i64 x.R.Other), .lit (.int .i64 x.R.PC), .lit (.int .i64 x.R.Flags), .lit (.int .i64 x.R.Mask), .lit (.bool x.R.Super), .lit (.bool x.R.Trace), .imm true 1 x.Bus.Bytes, .imm true 5 x.Bus.Log, .lit (.bool x.Stop), .lit (.bool x.Halt)]
def aJ.at(r:List Row)(j i:Nat):aJ:=⟨⟨gQ r j i,gQ r j (i+1),aU r j (i+2),aU r j (i+3),aU r j (i+4),aU r j (i+5),iI r j (i+6),iI r j (i+7)⟩,⟨gQ r j (i+8),gQ r j (i+9)⟩,iI r j (i+10),iI r j (i+11)⟩
structure aE where
 mk::
 (Vector:Int)
 (PC:Int)
 (Addr:Int)
 (Word:Int)
 (Write:Bool)
def aE.row(x:aE):Row:=[.lit (.int .i64 x.Vector), .lit (.int .i64 x.PC), .lit (.int .i64 x.Addr), .lit (.int .i64 x.Word), .lit (.bool x.Write)]
def aE.at(r:List Row)(j i:Nat):aE:=⟨aU r j i,aU r j (i+1),aU r j (i+2),aU r j (i+3),iI r j (i+4)⟩
structure aA where
 mk::
 (Kind:Int)
 (Size:Int)
 (Addr:Int)
 (Value:Int)
 (Code:Int)
def aA.row(x:aA):Row:=[.lit (.int .i64 x.Kind), .lit (.int .i64 x.Size), .lit (.int .i64 x.Addr), .lit (.int .i64 x.Value), .lit (.int .i64 x.Code)]
def aA.at(r:List Row)(j i:Nat):aA:=⟨aU r j i,aU r j (i+1),aU r j (i+2),aU r j (i+3),aU r j (i+4)⟩
structure bL where
 mk::
 (fr:aI)
 (fbus:aO)
 (fstop:Bool)
 (ffault:aE)
def bL.row(x:bL):Row:=[.imm true 1 x.fr.D, .imm true 1 x.fr.A, .lit (.int .i64 x.fr.Other), .lit (.int .i64 x.fr.PC), .lit (.int .i64 x.fr.Flags), .lit (.int .i64 x.fr.Mask), .lit (.bool x.fr.Super), .lit (.bool x.fr.Trace), .imm true 1 x.fbus.Bytes, .imm true 5 x.fbus.Log, .lit (.bool x.fstop), .lit (.int .i64 x.ffault.Vector), .lit (.int .i64 x.ffault.PC), .lit (.int .i64 x.ffault.Addr), .lit (.int .i64 x.ffault.Word), .lit (.bool x.ffault.Write)]
def bL.at(r:List Row)(j i:Nat):bL:=⟨⟨gQ r j i,gQ r j (i+1),aU r j (i+2),aU r j (i+3),aU r j (i+4),aU r j (i+5),iI r j (i+6),iI r j (i+7)⟩,⟨gQ r j (i+8),gQ r j (i+9)⟩,iI r j (i+10),⟨aU r j (i+11),aU r j (i+12),aU r j (i+13),aU r j (i+14),iI r j (i+15)⟩⟩
def K0:List Kd:=[.int .i64]
def K1:List Kd:=[.imm 1]
def K2:List Kd:=[.int .u8]
def K3:List Kd:=[.int .u64]
def AS0(a:aB):List SV:=[(.one (.ptr 0 0 0))]
def HS0(a:aB):List Blk:=[.box [.imm true 1 a.fcode,li a.fat, .lit (.int .u64 a.fseed)]]
def DS0(N:aB→SV×List Blk)(K:aB→Bool):List SV→List Blk→Option ((SV×List Blk)×Bool)
 |[(.one (.ptr 0 0 0))],[.box [.imm true 1 c0,li c1, .lit (.int .u64 c2)]]=>some (N (aB.mk c0 c1 c2),K (aB.mk c0 c1 c2))
 |_,_=>none
theorem sE{N:aB→SV×List Blk}{K:aB→Bool}{f:Nat}(h: ∀(a:aB),K a=true→cF R f (AS0 a) (HS0 a)=some (N a)):bX f (DS0 N K):=fun _ _ _ e=>by
 unfold DS0 at e;split at e
 ·exact mQ e (h _)
 ·cases e
section
variable(a:aB)
def CY:Int:=(bif (ltI a.fat (aX a.fcode))then(lM .i64 (aU a.fcode (iN a.fat) 0))else 0)
def PP:Int:=(a0W .u64 (a0W .u64 (a7N .u64 a.fseed 6364136223846793005) (lM .u64 (CY a))) 1442695040888963407)
end
def aCQ(a:aB):Pt (aB×Int):=(.ok true (.ok true (.ok true (.ok ((((dJ [.int .u8] a.fcode a.fat)&&true)||(!(ltI a.fat (aX a.fcode))))&&true) (.ok true (.ok true (.ok true (.br (leI (aR a.fat 1) (aX a.fcode)) (.ok true (.ok true (.leaf ((aB.mk a.fcode (aR a.fat 1) (PP a)),(CY a))))) (.ok true (.ok true (.leaf ((aB.mk a.fcode (aR a.fat 1) (PP a)),(lM .i64 (aKH .u64 (aCM .u64 (PP a) 40) 255))))))))))))))
def oM(a:aB):aB×Int:=hid (aCQ a).val
def aKI(a:aB):Bool:=hid (aCQ a).okv
def aKJ(a:aB)(r:aB×Int):SV×List Blk:=((.one (li r.2)),[.box [.imm true 1 r.1.fcode,li r.1.fat, .lit (.int .u64 r.1.fseed)]])
def q162:=DS0 (fun a=>aKJ a (oM a)) aKI
theorem a7Q:bX 162 q162:=sE fun a hk=>tc aZK UK [(7,K0),(11,K1),(17,K1),(21,K0),(22,K2),(23,K2),(28,K0),(36,K3),(47,K0),(51,K1),(58,K3)] [] true (aCQ a) (aKJ a) hk
def Q162:=aV 162 q162 qnil
theorem UO:QO Q162:=aG a7Q UK
def AS1(b:Int)(a:aB):List SV:=[(.one (.ptr 0 0 0)),(.one (li b))]
def HS1(b:Int)(a:aB):List Blk:=[.box [.imm true 1 a.fcode,li a.fat, .lit (.int .u64 a.fseed)]]
def DS1(N:Int→aB→SV×List Blk)(K:Int→aB→Bool):List SV→List Blk→Option ((SV×List Blk)×Bool)
 |[(.one (.ptr 0 0 0)),(.one (li c0))],[.box [.imm true 1 c1,li c2, .lit (.int .u64 c3)]]=>some (N c0 (aB.mk c1 c2 c3),K c0 (aB.mk c1 c2 c3))
 |_,_=>none
theorem aPO{N:Int→aB→SV×List Blk}{K:Int→aB→Bool}{f:Nat}(h: ∀(b:Int)(a:aB),K b a=true→cF R f (AS1 b a) (HS1 b a)=some (N b a)):bX f (DS1 N K):=fun _ _ _ e=>by
 unfold DS1 at e;split at e
 ·exact mQ e (h _ _)
 ·cases e
def T89(b:Int)(a:aB):Pt (aB×Int):=(.ok true (.ok true (.br (leI b 1) (.ok true (.ok true (.leaf (a,0)))) (.ok ((aKI a)&&true) (.ok true (.br (kK b 200) (.ok ((aKI (oM a).1)&&true) (.ok ((eV b 0)&&true) (.ok true (.leaf ((oM (oM a).1).1,(M4 (aR (dD (oM a).2 256) (oM (oM a).1).2) b)))))) (.ok ((eV b 0)&&true) (.ok true (.leaf ((oM a).1,(M4 (oM a).2 b)))))))))))
def bF(b:Int)(a:aB):aB×Int:=hid (T89 b a).val
def jV(b:Int)(a:aB):Bool:=hid (T89 b a).okv
def n89(b:Int)(a:aB)(r:aB×Int):SV×List Blk:=((.one (li r.2)),[.box [.imm true 1 r.1.fcode,li r.1.fat, .lit (.int .u64 r.1.fseed)]])
def q89:=DS1 (fun b a=>n89 b a (bF b a)) jV
theorem t89:bX 89 q89:=aPO fun b a hk=>tc a7C UO [] [] true (T89 b a) (n89 b a) hk
def Q89:=aV 89 q89 Q162
theorem aCR:QO Q89:=aG t89 UO
def T86(b:Int)(a:aB):Pt (aB×Bool):=(.ok true (.ok ((jV b a)&&true) (.ok true (.leaf ((bF b a).1,(eqI (bF b a).2 0))))))
def eT(b:Int)(a:aB):aB×Bool:=hid (T86 b a).val
def HD(b:Int)(a:aB):Bool:=hid (T86 b a).okv
def n86(b:Int)(a:aB)(r:aB×Bool):SV×List Blk:=((.one (.lit (.bool r.2))),[.box [.imm true 1 r.1.fcode,li r.1.fat, .lit (.int .u64 r.1.fseed)]])
def q86:=DS1 (fun b a=>n86 b a (eT b a)) HD
theorem t86:bX 86 q86:=aPO fun b a hk=>tc a7B aCR [] [] true (T86 b a) (n86 b a) hk
def Q86:=aV 86 q86 Q89
theorem PQ:QO Q86:=aG t86 aCR
def AS2(a:Int):List SV:=[(.one (li a))]
def HS2(a:Int):List Blk:=[]
def IG(N:Int→SV×List Blk)(K:Int→Bool):List SV→List Blk→Option ((SV×List Blk)×Bool)
 |[(.one (li c0))],[]=>some (N c0,K c0)
 |_,_=>none
theorem i9{N:Int→SV×List Blk}{K:Int→Bool}{f:Nat}(h: ∀(a:Int),K a=true→cF R f (AS2 a) (HS2 a)=some (N a)):bX f (IG N K):=fun _ _ _ e=>by
 unfold IG at e;split at e
 ·exact mQ e (h _)
 ·cases e
def aCS(a:Int):Pt (Bool):=(.ok true (.ok true (.ok true (.ok true (.leaf (rE a 5))))))
def ZG(a:Int):Bool:=hid (aCS a).val
def ZH(a:Int):Bool:=hid (aCS a).okv
def jA(a:Int)(r:Bool):SV×List Blk:=((.one (.lit (.bool r))),[])
def q240:=IG (fun a=>jA a (ZG a)) ZH
theorem a7R:bX 100240 q240:=i9 fun a hk=>tz a0M PQ [] [] true (aCS a) (jA a) hk
def Q240:=aV 100240 q240 Q86
theorem UP:QO Q240:=aG a7R PQ
def AS3(b:List Row)(a:aB):List SV:=[(.one (.ptr 0 0 0)),(.one (.imm false 1 b))]
def HS3(b:List Row)(a:aB):List Blk:=[.box [.imm true 1 a.fcode,li a.fat, .lit (.int .u64 a.fseed)]]
def DS3(N:List Row→aB→SV×List Blk)(K:List Row→aB→Bool):List SV→List Blk→Option ((SV×List Blk)×Bool)
 |[(.one (.ptr 0 0 0)),(.one (.imm false 1 c0))],[.box [.imm true 1 c1,li c2, .lit (.int .u64 c3)]]=>some (N c0 (aB.mk c1 c2 c3),K c0 (aB.mk c1 c2 c3))
 |_,_=>none
theorem a02{N:List Row→aB→SV×List Blk}{K:List Row→aB→Bool}{f:Nat}(h: ∀(b:List Row)(a:aB),K b a=true→cF R f (AS3 b a) (HS3 b a)=some (N b a)):bX f (DS3 N K):=fun _ _ _ e=>by
 unfold DS3 at e;split at e
 ·exact mQ e (h _ _)
 ·cases e
def T90(b:List Row)(a:aB):Pt (aB×Int):=(.ok true (.ok ((jV (aX b) a)&&((dJ [.int .i64] b (bF (aX b) a).2)&&true)) (.ok true (.leaf ((bF (aX b) a).1,(aU b (iN (bF (aX b) a).2) 0))))))
def wB(b:List Row)(a:aB):aB×Int:=hid (T90 b a).val
def FY(b:List Row)(a:aB):Bool:=hid (T90 b a).okv
def n90(b:List Row)(a:aB)(r:aB×Int):SV×List Blk:=((.one (li r.2)),[.box [.imm true 1 r.1.fcode,li r.1.fat, .lit (.int .u64 r.1.fseed)]])
def q90:=DS3 (fun b a=>n90 b a (wB b a)) FY
theorem t90:bX 90 q90:=a02 fun b a hk=>tc a7D UP [(10,K0),(11,K0)] [] true (T90 b a) (n90 b a) hk
def Q90:=aV 90 q90 Q240
theorem aCT:QO Q90:=aG t90 UP
def K4:List Kd:=[.int .i64, .int .i64, .int .i64]
section
variable(a:aB)
def tN:aB×Int:=(wB [(aH 0),(aH 1),(aH 2),(aH 20),(aH 100),(aH 200),(aH 384),(aH 448),(aH 65535),(aH 65534)] (bF 4 (bF 8 a).1).1)
def xT:aB×Int:=(bF 9 (eT 60 (tN a).1).1)
def PR:aB×Int:=(bF 2 (bF 5 (xT a).1).1)
def tO:aB×Bool:=(eT 60 (bF 4 (bF 8 a).1).1)
def CZ:aB×Int:=(bF 5 (bF 9 (tO a).1).1)
def tP:aB×Int:=(wB [(aH 0),(aH 1),(aH 2),(aH 20),(aH 100),(aH 200),(aH 384),(aH 448),(aH 65535),(aH 65534)] (bF 8 a).1)
def xU:aB×Int:=(bF 9 (eT 60 (tP a).1).1)
def PS:aB×Int:=(bF 2 (bF 5 (xU a).1).1)
def xV:aB×Int:=(bF 9 (eT 60 (bF 8 a).1).1)
def PT:aB×Int:=(bF 2 (bF 5 (xV a).1).1)
end
def aCU(a:aB):Pt (aB×aK):=(.ok true (.ok ((jV 8 a)&&true) (.ok true (.br (ltI (bF 8 a).2 6) (.ok ((jV 4 (bF 8 a).1)&&true) (.ok ((ZH (bF 8 a).2)&&true) (.br (ZG (bF 8 a).2) (.ok ((FY [(aH 0),(aH 1),(aH 2),(aH 20),(aH 100),(aH 200),(aH 384),(aH 448),(aH 65535),(aH 65534)] (bF 4 (bF 8 a).1).1)&&true) (.ok ((HD 60 (tN a).1)&&true) (.br (eT 60 (tN a).1).2 (.ok ((jV 9 (eT 60 (tN a).1).1)&&((jV 5 (xT a).1)&&((jV 2 (bF 5 (xT a).1).1)&&true))) (.ok true (.ok true (.leaf ((PR a).1,(aK.mk (xT a).2 (bF 5 (xT a).1).2 (PR a).2)))))) (.ok true (.ok true (.leaf ((eT 60 (tN a).1).1,(aK.mk (bF 8 a).2 (bF 4 (bF 8 a).1).2 (tN a).2)))))))) (.ok ((HD 60 (bF 4 (bF 8 a).1).1)&&true) (.br (tO a).2 (.ok ((jV 9 (tO a).1)&&((jV 5 (bF 9 (tO a).1).1)&&((jV 2 (CZ a).1)&&true))) (.ok true (.ok true (.leaf ((bF 2 (CZ a).1).1,(aK.mk (bF 9 (tO a).1).2 (CZ a).2 (bF 2 (CZ a).1).2)))))) (.ok true (.ok true (.leaf ((tO a).1,(aK.mk (bF 8 a).2 (bF 4 (bF 8 a).1).2 0)))))))))) (.ok ((ZH (bF 8 a).2)&&true) (.br (ZG (bF 8 a).2) (.ok ((FY [(aH 0),(aH 1),(aH 2),(aH 20),(aH 100),(aH 200),(aH 384),(aH 448),(aH 65535),(aH 65534)] (bF 8 a).1)&&true) (.ok ((HD 60 (tP a).1)&&true) (.br (eT 60 (tP a).1).2 (.ok ((jV 9 (eT 60 (tP a).1).1)&&((jV 5 (xU a).1)&&((jV 2 (bF 5 (xU a).1).1)&&true))) (.ok true (.ok true (.leaf ((PS a).1,(aK.mk (xU a).2 (bF 5 (xU a).1).2 (PS a).2)))))) (.ok true (.ok true (.leaf ((eT 60 (tP a).1).1,(aK.mk (bF 8 a).2 0 (tP a).2)))))))) (.ok ((HD 60 (bF 8 a).1)&&true) (.br (eT 60 (bF 8 a).1).2 (.ok ((jV 9 (eT 60 (bF 8 a).1).1)&&((jV 5 (xV a).1)&&((jV 2 (bF 5 (xV a).1).1)&&true))) (.ok true (.ok true (.leaf ((PT a).1,(aK.mk (xV a).2 (bF 5 (xV a).1).2 (PT a).2)))))) (.ok true (.ok true (.leaf ((eT 60 (bF 8 a).1).1,(aK.mk (bF 8 a).2 0 0)))))))))))))
def hZ(a:aB):aB×aK:=hid (aCU a).val
def aKK(a:aB):Bool:=hid (aCU a).okv
def a04(a:aB)(r:aB×aK):SV×List Blk:=((.agg [li r.2.Mode,li r.2.Reg,li r.2.Ext]),[.box [.imm true 1 r.1.fcode,li r.1.fat, .lit (.int .u64 r.1.fseed)]])
def q186:=DS0 (fun a=>a04 a (hZ a)) aKK
theorem a7T:bX 186 q186:=sE fun a hk=>tc aZ1 aCT [(8,K0),(14,K0),(29,K4)] [] true (aCU a) (a04 a) hk
def Q186:=aV 186 q186 Q90
theorem UQ:QO Q186:=aG a7T aCT
def AS4(a:Bool)(b:Int):List SV:=[(.one (.lit (.bool a))),(.one (li b))]
def HS4(a:Bool)(b:Int):List Blk:=[]
def DS4(N:Bool→Int→SV×List Blk)(K:Bool→Int→Bool):List SV→List Blk→Option ((SV×List Blk)×Bool)
 |[(.one (.lit (.bool c0))),(.one (li c1))],[]=>some (N c0 c1,K c0 c1)
 |_,_=>none
theorem aPP{N:Bool→Int→SV×List Blk}{K:Bool→Int→Bool}{f:Nat}(h: ∀(a:Bool)(b:Int),K a b=true→cF R f (AS4 a b) (HS4 a b)=some (N a b)):bX f (DS4 N K):=fun _ _ _ e=>by
 unfold DS4 at e;split at e
 ·exact mQ e (h _ _)
 ·cases e
def PU(a:Bool)(b:Int):Pt (Int):=(.ok true (.ok true (.br a (.ok true (.ok true (.ok true (.leaf b)))) (.ok true (.ok true (.ok true (.leaf 0)))))))
def M5(a:Bool)(b:Int):Int:=hid (PU a b).val
def M6(a:Bool)(b:Int):Bool:=hid (PU a b).okv
def aKL(a:Bool)(b:Int)(r:Int):SV×List Blk:=((.one (li r)),[])
def q179:=DS4 (fun a b=>aKL a b (M5 a b)) M6
theorem a7U:bX 100179 q179:=aPP fun a b hk=>tz aZW UQ [] [] true (PU a b) (aKL a b) hk
def Q179:=aV 100179 q179 Q186
theorem UR:QO Q179:=aG a7U UQ
def PV(a:Int):Pt (Bool):=(.ok true (.ok true (.ok true (.ok true (.leaf (bif (eqI a 1)then true else(eqI a 2)))))))
def M7(a:Int):Bool:=hid (PV a).val
def ZI(a:Int):Bool:=hid (PV a).okv
def q190:=IG (fun a=>jA a (M7 a)) ZI
theorem a7V:bX 100190 q190:=i9 fun a hk=>tz aZ3 UR [] [] true (PV a) (jA a) hk
def Q190:=aV 100190 q190 Q179
theorem US:QO Q190:=aG a7V UR
def AS5(a:Int)(b:Int)(c:Int):List SV:=[(.one (li a)),(.one (li b)),(.one (li c))]
def HS5(a:Int)(b:Int)(c:Int):List Blk:=[]
def DS5(N:Int→Int→Int→SV×List Blk)(K:Int→Int→Int→Bool):List SV→List Blk→Option ((SV×List Blk)×Bool)
 |[(.one (li c0)),(.one (li c1)),(.one (li c2))],[]=>some (N c0 c1 c2,K c0 c1 c2)
 |_,_=>none
theorem UT{N:Int→Int→Int→SV×List Blk}{K:Int→Int→Int→Bool}{f:Nat}(h: ∀(a:Int)(b:Int)(c:Int),K a b c=true→cF R f (AS5 a b c) (HS5 a b c)=some (N a b c)):bX f (DS5 N K):=fun _ _ _ e=>by
 unfold DS5 at e;split at e
 ·exact mQ e (h _ _ _)
 ·cases e
def aCV(a:Int)(b:Int)(c:Int):Pt (Bool):=(.ok true (.ok true (.ok true (.ok true (.leaf (bif (rE a b)then(leI a c)else false))))))
def jW(a:Int)(b:Int)(c:Int):Bool:=hid (aCV a b c).val
def lX(a:Int)(b:Int)(c:Int):Bool:=hid (aCV a b c).okv
def aKM(a:Int)(b:Int)(c:Int)(r:Bool):SV×List Blk:=((.one (.lit (.bool r))),[])
def q108:=DS5 (fun a b c=>aKM a b c (jW a b c)) lX
theorem a7W:bX 100108 q108:=UT fun a b c hk=>tz aYY US [] [] true (aCV a b c) (aKM a b c) hk
def Q108:=aV 100108 q108 Q190
theorem UU:QO Q108:=aG a7W US
def T77(a:Int):Pt (Bool):=(.ok true (.ok ((lX a 0 65535)&&true) (.ok true (.ok true (.leaf (jW a 0 65535))))))
def g77(a:Int):Bool:=hid (T77 a).val
def k77(a:Int):Bool:=hid (T77 a).okv
def q77:=IG (fun a=>jA a (g77 a)) k77
theorem t77:bX 100077 q77:=i9 fun a hk=>tz a64 UU [] [] true (T77 a) (jA a) hk
def Q77:=aV 100077 q77 Q108
theorem aCX:QO Q77:=aG t77 UU
def AS6(a:aK):List SV:=[(.agg [li a.Mode,li a.Reg,li a.Ext])]
def HS6(a:aK):List Blk:=[]
def DS6(N:aK→SV×List Blk)(K:aK→Bool):List SV→List Blk→Option ((SV×List Blk)×Bool)
 |[(.agg [li c0,li c1,li c2])],[]=>some (N (aK.mk c0 c1 c2),K (aK.mk c0 c1 c2))
 |_,_=>none
theorem aCY{N:aK→SV×List Blk}{K:aK→Bool}{f:Nat}(h: ∀(a:aK),K a=true→cF R f (AS6 a) (HS6 a)=some (N a)):bX f (DS6 N K):=fun _ _ _ e=>by
 unfold DS6 at e;split at e
 ·exact mQ e (h _)
 ·cases e
def aCZ(a:aK):Pt (Bool):=(.ok true (.ok ((lX a.Mode 0 7)&&((((lX a.Reg 0 3)&&true)||(!(jW a.Mode 0 7)))&&true)) (.br (bif (bif (!(jW a.Mode 0 7))then true else(!(jW a.Reg 0 3)))then true else(bif (rE a.Mode 6)then(eV a.Reg 0)else false)) (.ok true (.ok true (.ok true (.leaf false)))) (.ok ((k77 a.Ext)&&((((ZH a.Mode)&&true)||(!(g77 a.Ext)))&&true)) (.ok true (.ok true (.leaf (bif (g77 a.Ext)then(bif (ZG a.Mode)then true else(eqI a.Ext 0))else false))))))))
def aRK(a:aK):Bool:=hid (aCZ a).val
def aRL(a:aK):Bool:=hid (aCZ a).okv
def ZJ(a:aK)(r:Bool):SV×List Blk:=((.one (.lit (.bool r))),[])
def q191:=DS6 (fun a=>ZJ a (aRK a)) aRL
theorem a7X:bX 100191 q191:=aCY fun a hk=>tz aZ4 aCX [(4,K0),(9,K0),(15,K0),(19,K0),(24,K0),(28,K0),(32,K0)] [] true (aCZ a) (ZJ a) hk
def Q191:=aV 100191 q191 Q77
theorem UV:QO Q191:=aG a7X aCX
def aC0(a:Int):Pt (Bool):=(.ok true (.ok ((lX a 2 6)&&true) (.ok true (.ok true (.leaf (jW a 2 6))))))
def aRM(a:Int):Bool:=hid (aC0 a).val
def aRN(a:Int):Bool:=hid (aC0 a).okv
def q192:=IG (fun a=>jA a (aRM a)) aRN
theorem a7Y:bX 100192 q192:=i9 fun a hk=>tz aZ5 UV [] [] true (aC0 a) (jA a) hk
def Q192:=aV 100192 q192 Q191
theorem UW:QO Q192:=aG a7Y UV
def aC1(a:Int):Pt (Bool):=(.ok true (.ok true (.ok true (.ok true (.leaf (bif (bif (eqI a 2)then true else(eqI a 5))then true else(eqI a 6)))))))
def aKN(a:Int):Bool:=hid (aC1 a).val
def aKO(a:Int):Bool:=hid (aC1 a).okv
def q193:=IG (fun a=>jA a (aKN a)) aKO
theorem a7Z:bX 100193 q193:=i9 fun a hk=>tz aZ6 UW [] [] true (aC1 a) (jA a) hk
def Q193:=aV 100193 q193 Q192
theorem UX:QO Q193:=aG a7Z UW
def aC2(a:aK):Pt (Bool):=(.ok true (.ok true (.ok true (.ok true (.leaf (bif (eqI a.Mode 7)then(leI a.Ext 1023)else false))))))
def aKP(a:aK):Bool:=hid (aC2 a).val
def aKQ(a:aK):Bool:=hid (aC2 a).okv
def q194:=DS6 (fun a=>ZJ a (aKP a)) aKQ
theorem a70:bX 100194 q194:=aCY fun a hk=>tz aZ7 UX [(4,K0),(8,K0)] [] true (aC2 a) (ZJ a) hk
def Q194:=aV 100194 q194 Q193
theorem UY:QO Q194:=aG a70 UX
def aC3(a:aK):Pt (Bool):=(.ok true (.ok true (.ok true (.ok true (.leaf ((eqI a.Mode 0)&&((eqI a.Reg 0)&&((eqI a.Ext 0)&&true))))))))
def aKR(a:aK):Bool:=hid (aC3 a).val
def aKS(a:aK):Bool:=hid (aC3 a).okv
def q195:=DS6 (fun a=>ZJ a (aKR a)) aKS
theorem a71:bX 100195 q195:=aCY fun a hk=>tz aZ8 UY [(3,K4)] [] true (aC3 a) (ZJ a) hk
def Q195:=aV 100195 q195 Q194
theorem UZ:QO Q195:=aG a71 UY
def AS7(a:bD):List SV:=[(.agg [li a.Op,li a.Size,li a.Reg,li a.Ea.Mode,li a.Ea.Reg,li a.Ea.Ext,li a.Sub])]
def HS7(a:bD):List Blk:=[]
def DS7(N:bD→SV×List Blk)(K:bD→Bool):List SV→List Blk→Option ((SV×List Blk)×Bool)
 |[(.agg [li c0,li c1,li c2,li c3,li c4,li c5,li c6])],[]=>some (N (bD.mk c0 c1 c2 (aK.mk c3 c4 c5) c6),K (bD.mk c0 c1 c2 (aK.mk c3 c4 c5) c6))
 |_,_=>none
theorem aPQ{N:bD→SV×List Blk}{K:bD→Bool}{f:Nat}(h: ∀(a:bD),K a=true→cF R f (AS7 a) (HS7 a)=some (N a)):bX f (DS7 N K):=fun _ _ _ e=>by
 unfold DS7 at e;split at e
 ·exact mQ e (h _)
 ·cases e
section
variable(a:bD)
def PW:Bool:=(bif (!(M7 a.Size))then true else(!(jW a.Reg 0 3)))
def PX:Bool:=(bif (PW a)then true else(!(aRK a.Ea)))
def PY:Bool:=((((aRN a.Ea.Mode)&&true)||(eqI a.Ea.Mode 0))&&true)
def PZ:Bool:=(bif (eqI a.Ea.Mode 0)then true else(aRM a.Ea.Mode))
def C0:Bool:=(bif (eqI a.Size 2)then(eqI a.Sub 0)else false)
def P0:Bool:=(bif (eqI a.Reg 0)then(leI a.Sub 3)else false)
def IH:Bool:=(bif (eqI a.Size 2)then(eqI a.Reg 0)else false)
def P1:Bool:=(bif (IH a)then(leI a.Sub 1)else false)
def P2:Bool:=(bif (eqI a.Sub 0)then(eqI a.Reg 0)else false)
def P3:Bool:=(bif (P2 a)then(aKP a.Ea)else false)
def II:Bool:=(bif (eqI a.Size 2)then(leI a.Sub 6)else false)
end
def aC4(a:bD):Pt (Bool):=(.ok true (.ok ((ZI a.Size)&&((((lX a.Reg 0 3)&&true)||(!(M7 a.Size)))&&((((aRL a.Ea)&&true)||(PW a))&&((((lX a.Sub 0 7)&&true)||(PX a))&&true)))) (.br (bif (bif (PX a)then true else(!(jW a.Sub 0 7)))then true else(bif (bif (eqI a.Ea.Mode 7)then(eqI a.Size 1)else false)then(kK a.Ea.Ext 255)else false)) (.ok true (.ok true (.ok true (.leaf false)))) (.ok true (.ok true (.ok true (.ok true (.ok true (.br (bif (eqI a.Op 1)then(eqI a.Op 1)else(bif (eqI a.Op 3)then(eqI a.Op 3)else(bif (eqI a.Op 4)then(eqI a.Op 4)else(bif (eqI a.Op 5)then(eqI a.Op 5)else(bif (eqI a.Op 6)then(eqI a.Op 6)else(bif (eqI a.Op 7)then(eqI a.Op 7)else(eqI a.Op 8))))))) (.ok true (.ok true (.ok true (.leaf (bif (eqI a.Sub 0)then(bif (eqI a.Size 2)then true else(eV a.Ea.Mode 1))else false))))) (.ok true (.br (eqI a.Op 2) (.ok (((PY a)||(!(eqI a.Sub 0)))&&true) (.ok true (.ok true (.leaf (bif (eqI a.Sub 0)then(PZ a)else false))))) (.ok true (.br (eqI a.Op 9) (.ok true (.ok true (.ok true (.leaf (C0 a))))) (.ok true (.br (eqI a.Op 10) (.ok ((((aKO a.Ea.Mode)&&true)||(!(C0 a)))&&true) (.ok true (.ok true (.leaf (bif (C0 a)then(aKN a.Ea.Mode)else false))))) (.ok true (.br (eqI a.Op 11) (.ok (((PY a)||(!(P0 a)))&&true) (.ok true (.ok true (.leaf (bif (P0 a)then(PZ a)else false))))) (.ok true (.br (eqI a.Op 12) (.ok true (.ok true (.ok true (.leaf (eqI a.Ea.Mode 0))))) (.ok true (.br (eqI a.Op 13) (.ok true (.ok true (.ok true (.leaf (bif (bif (eqI a.Size 2)then(leI a.Reg 1)else false)then(eqI a.Ea.Mode 7)else false))))) (.ok true (.br (eqI a.Op 14) (.ok ((((aKO a.Ea.Mode)&&true)||(!(P1 a)))&&true) (.ok true (.ok true (.leaf (bif (P1 a)then(aKN a.Ea.Mode)else false))))) (.ok true (.ok true (.br (bif (eqI a.Op 16)then(eqI a.Op 16)else(eqI a.Op 17)) (.ok true (.ok true (.ok true (.leaf (bif (C0 a)then(eV a.Ea.Mode 1)else false))))) (.ok true (.br (eqI a.Op 18) (.ok true (.ok true (.ok true (.leaf (bif (bif (!(eqI a.Size 2))then(leI a.Sub 1)else false)then(eqI a.Ea.Mode 0)else false))))) (.ok true (.br (eqI a.Op 19) (.ok ((((((aKQ a.Ea)&&true)||(!(P2 a)))&&((((((aKS a.Ea)&&true)||(!(eqI a.Sub 1)))&&true)||(P3 a))&&true))||(!(eqI a.Size 2)))&&true) (.ok true (.ok true (.leaf (bif (eqI a.Size 2)then(bif (P3 a)then true else(bif (eqI a.Sub 1)then(aKR a.Ea)else false))else false))))) (.ok true (.br (eqI a.Op 15) (.ok true (.br (eqI a.Sub 3) (.ok ((((aKQ a.Ea)&&true)||(!(IH a)))&&true) (.ok true (.ok true (.leaf (bif (IH a)then(aKP a.Ea)else false))))) (.ok ((((aKS a.Ea)&&true)||(!(II a)))&&true) (.ok true (.ok true (.leaf (bif (bif (II a)then(aKR a.Ea)else false)then(bif (kK a.Sub 3)then true else(eqI a.Reg 0))else false))))))) (.ok true (.ok true (.ok true (.leaf false))))))))))))))))))))))))))))))))))))
def jX(a:bD):Bool:=hid (aC4 a).val
def jY(a:bD):Bool:=hid (aC4 a).okv
def a07(a:bD)(r:Bool):SV×List Blk:=((.one (.lit (.bool r))),[])
def q126:=DS7 (fun a=>a07 a (jX a)) jY
theorem a72:bX 100126 q126:=aPQ fun a hk=>tz aY9 UZ [(6,K0),(11,K0),(17,K4),(23,K0),(30,K0),(34,K0),(40,K0),(45,K0),(49,K0),(51,K0),(61,K0),(73,K0),(88,K0),(96,K0),(106,K0),(110,K0),(130,K0),(142,K0),(147,K0),(160,K0),(173,K0),(185,K0),(189,K0),(194,K4),(199,K0),(203,K4),(211,K0),(216,K0),(221,K4),(227,K0),(232,K4),(237,K0),(241,K0)] [] true (aC4 a) (a07 a) hk
def Q126:=aV 100126 q126 Q195
theorem IJ:QO Q126:=aG a72 UZ
def K5:List Kd:=[.int .i64, .int .i64, .int .i64, .int .i64, .int .i64, .int .i64, .int .i64]
structure V185_0 where
 mk::
 (b0:aB)
 (b1:bD)
 (s3:Int)
section
variable(v:V185_0)
def bC:aB×Int:=(bF 4 (bF 2 (bF 19 v.b0).1).1)
def tQ:Bool:=(eqI (aR 1 (bF 2 (bF 19 v.b0).1).2) 1)
def tR:Bool:=(bif (tQ v)then(eqI (hZ (bC v).1).2.Mode 7)else false)
def eZ:aK:={(hZ (bC v).1).2 with Ext:=(cM (hZ (bC v).1).2.Ext 255)}
def gR:aB×Int:=(bF 4 (hZ (bC v).1).1)
def nJ:Bool:=(jV 2 (hZ (bC v).1).1)
def bP:aB×Int:=(bF 2 (hZ (bC v).1).1)
def nK:Bool:=(((nJ v)&&((jV 7 (bP v).1)&&((M6 (eqI (aR 1 (bF 19 v.b0).2) 12) 1)&&true)))&&true)
def iK:Int:=(dD (bP v).2 (aR 1 (dD (bF 7 (bP v).1).2 (M5 (eqI (aR 1 (bF 19 v.b0).2) 12) 1))))
def C1:Bool:=(((s1 v.b1.Op)&&((s1 v.b1.Size)&&((s1 v.b1.Reg)&&((s1 v.b1.Ea.Mode)&&((s1 v.b1.Ea.Reg)&&((s1 v.b1.Ea.Ext)&&((s1 v.b1.Sub)&&true)))))))&&(((s1 (aR 1 (bF 19 v.b0).2))&&((s1 (aR 1 (bF 2 (bF 19 v.b0).1).2))&&((s1 (bC v).2)&&((s1 (hZ (bC v).1).2.Mode)&&((s1 (hZ (bC v).1).2.Reg)&&((s1 (hZ (bC v).1).2.Ext)&&((s1 (iK v))&&true)))))))&&true))
def pD:Bool:=(((s1 v.s3)&&true)&&((((s1 true)&&(r1 (bF 7 (bP v).1).1.fcode))&&((s1 (bF 7 (bP v).1).1.fat)&&((s1 (bF 7 (bP v).1).1.fseed)&&true)))&&(C1 v)))
def gZ:aB×Int:=(bF 4 (bF 7 (bP v).1).1)
def pE:Bool:=((jY (bD.mk (aR 1 (bF 19 v.b0).2) 1 (bC v).2 (aK.mk 0 (gZ v).2 0) (cM (iK v) 7)))&&true)
def pF:Bool:=(jX (bD.mk (aR 1 (bF 19 v.b0).2) 1 (bC v).2 (aK.mk 0 (gZ v).2 0) (cM (iK v) 7)))
def jB:V185_0:=(V185_0.mk (gZ v).1 v.b1 (aR v.s3 1))
def pG:Bool:=((jY (bD.mk (aR 1 (bF 19 v.b0).2) (aR 1 (bF 2 (bF 19 v.b0).1).2) (bC v).2 (aK.mk 0 (gZ v).2 0) (cM (iK v) 7)))&&true)
def pH:Bool:=(jX (bD.mk (aR 1 (bF 19 v.b0).2) (aR 1 (bF 2 (bF 19 v.b0).1).2) (bC v).2 (aK.mk 0 (gZ v).2 0) (cM (iK v) 7)))
def fP:aB×Int:=(wB [(aH 2),(aH 4),(aH 6),(aH 8),(aH 65526),(aH 65530),(aH 0),(aH 3)] (bF 8 (bP v).1).1)
def bS:aB×Int:=(wB [(aH 0),(aH 1),(aH 2),(aH 2),(aH 3),(aH 4),(aH 5),(aH 6)] (hZ (bC v).1).1)
def dO:aB×Int:=(bF 4 (bS v).1)
def fQ:aB×Int:=(wB [(aH 0),(aH 256),(aH 512),(aH 1023)] (dO v).1)
def pI:Bool:=((jY (bD.mk 15 2 (dO v).2 (aK.mk 0 0 0) (bS v).2))&&true)
def pJ:Bool:=(jX (bD.mk 15 2 (dO v).2 (aK.mk 0 0 0) (bS v).2))
def fR:aB×Int:=(wB [(aH 0),(aH 256),(aH 512),(aH 1023)] (bS v).1)
def pK:Bool:=((jY (bD.mk 15 2 0 (aK.mk 0 0 0) (bS v).2))&&true)
def pL:Bool:=(jX (bD.mk 15 2 0 (aK.mk 0 0 0) (bS v).2))
def fS:aB×Int:=(wB [(aH 0),(aH 256),(aH 480),(aH 768),(aH 31)] (hZ (bC v).1).1)
def hC:aB×Bool:=(eT 2 (fS v).1)
def jC:aB×Int:=(bF 4 (hC v).1)
def pM:Bool:=((jY (bD.mk 19 2 (jC v).2 (aK.mk 0 0 0) 1))&&true)
def pN:Bool:=(jX (bD.mk 19 2 (jC v).2 (aK.mk 0 0 0) 1))
def jD:V185_0:=(V185_0.mk (hZ (bC v).1).1 v.b1 (aR v.s3 1))
end
def pO(v:V185_0):Pt (Option V185_0):=(.ok true (.br (ltI v.s3 6) (.ok ((jV 19 v.b0)&&((jV 2 (bF 19 v.b0).1)&&((jV 4 (bF 2 (bF 19 v.b0).1).1)&&((aKK (bC v).1)&&true)))) (.ok true (.ok true (.br (eqI (aR 1 (bF 19 v.b0).2) 11) (.ok true (.ok ((jV 4 (hZ (bC v).1).1)&&true) (.ok true (.br (tR v) (.ok true (.ok ((jY (bD.mk (aR 1 (bF 19 v.b0).2) (aR 1 (bF 2 (bF 19 v.b0).1).2) 0 (eZ v) (gR v).2))&&true) (.br (jX (bD.mk (aR 1 (bF 19 v.b0).2) (aR 1 (bF 2 (bF 19 v.b0).1).2) 0 (eZ v) (gR v).2)) (.ok true (.leaf none)) (.ok true (.ok true (.leaf (some (V185_0.mk (gR v).1 v.b1 (aR v.s3 1))))))))) (.ok ((jY (bD.mk (aR 1 (bF 19 v.b0).2) (aR 1 (bF 2 (bF 19 v.b0).1).2) 0 (hZ (bC v).1).2 (gR v).2))&&true) (.br (jX (bD.mk (aR 1 (bF 19 v.b0).2) (aR 1 (bF 2 (bF 19 v.b0).1).2) 0 (hZ (bC v).1).2 (gR v).2)) (.ok true (.leaf none)) (.ok true (.ok true (.leaf (some (V185_0.mk (gR v).1 v.b1 (aR v.s3 1)))))))))))) (.ok true (.ok true (.br (bif (eqI (aR 1 (bF 19 v.b0).2) 12)then(eqI (aR 1 (bF 19 v.b0).2) 12)else(eqI (aR 1 (bF 19 v.b0).2) 18)) (.ok ((nK v)&&(((nK v)&&((nK v)&&(pD v)))&&(pD v))) (.ok true (.ok ((jV 4 (bF 7 (bP v).1).1)&&true) (.ok true (.br (eqI (aR 1 (bF 19 v.b0).2) 18) (.ok true (.ok true (.br false (.ok true (.ok (pE v) (.br (pF v) (.ok true (.leaf none)) (.ok true (.ok true (.leaf (some (jB v)))))))) (.ok (pE v) (.br (pF v) (.ok true (.leaf none)) (.ok true (.ok true (.leaf (some (jB v)))))))))) (.ok true (.br (bif (tQ v)then false else false) (.ok true (.ok (pG v) (.br (pH v) (.ok true (.leaf none)) (.ok true (.ok true (.leaf (some (jB v)))))))) (.ok (pG v) (.br (pH v) (.ok true (.leaf none)) (.ok true (.ok true (.leaf (some (jB v)))))))))))))) (.ok true (.br (eqI (aR 1 (bF 19 v.b0).2) 13) (.ok ((nJ v)&&((jV 8 (bP v).1)&&((FY [(aH 2),(aH 4),(aH 6),(aH 8),(aH 65526),(aH 65530),(aH 0),(aH 3)] (bF 8 (bP v).1).1)&&true))) (.ok true (.br false (.ok true (.ok ((jY (bD.mk 13 2 (bP v).2 (aK.mk 7 0 (cM (fP v).2 255)) (bF 8 (bP v).1).2))&&true) (.br (jX (bD.mk 13 2 (bP v).2 (aK.mk 7 0 (cM (fP v).2 255)) (bF 8 (bP v).1).2)) (.ok true (.leaf none)) (.ok true (.ok true (.leaf (some (V185_0.mk (fP v).1 v.b1 (aR v.s3 1))))))))) (.ok ((jY (bD.mk 13 2 (bP v).2 (aK.mk 7 0 (fP v).2) (bF 8 (bP v).1).2))&&true) (.br (jX (bD.mk 13 2 (bP v).2 (aK.mk 7 0 (fP v).2) (bF 8 (bP v).1).2)) (.ok true (.leaf none)) (.ok true (.ok true (.leaf (some (V185_0.mk (fP v).1 v.b1 (aR v.s3 1))))))))))) (.ok true (.br (eqI (aR 1 (bF 19 v.b0).2) 14) (.ok true (.ok true (.ok ((nJ v)&&true) (.ok true (.br false (.ok true (.ok ((jY (bD.mk (aR 1 (bF 19 v.b0).2) 2 0 (eZ v) (bP v).2))&&true) (.br (jX (bD.mk (aR 1 (bF 19 v.b0).2) 2 0 (eZ v) (bP v).2)) (.ok true (.leaf none)) (.ok true (.ok true (.leaf (some (V185_0.mk (bP v).1 v.b1 (aR v.s3 1))))))))) (.ok ((jY (bD.mk (aR 1 (bF 19 v.b0).2) 2 0 (hZ (bC v).1).2 (bP v).2))&&true) (.br (jX (bD.mk (aR 1 (bF 19 v.b0).2) 2 0 (hZ (bC v).1).2 (bP v).2)) (.ok true (.leaf none)) (.ok true (.ok true (.leaf (some (V185_0.mk (bP v).1 v.b1 (aR v.s3 1))))))))))))) (.ok true (.br (eqI (aR 1 (bF 19 v.b0).2) 15) (.ok ((FY [(aH 0),(aH 1),(aH 2),(aH 2),(aH 3),(aH 4),(aH 5),(aH 6)] (hZ (bC v).1).1)&&true) (.ok true (.br (kK (bS v).2 3) (.ok ((jV 4 (bS v).1)&&true) (.ok true (.br (eqI (bS v).2 3) (.ok ((FY [(aH 0),(aH 256),(aH 512),(aH 1023)] (dO v).1)&&true) (.ok true (.br false (.ok true (.ok ((jY (bD.mk 15 2 (dO v).2 (aK.mk 7 0 (cM (fQ v).2 255)) (bS v).2))&&true) (.br (jX (bD.mk 15 2 (dO v).2 (aK.mk 7 0 (cM (fQ v).2 255)) (bS v).2)) (.ok true (.leaf none)) (.ok true (.ok true (.leaf (some (V185_0.mk (fQ v).1 v.b1 (aR v.s3 1))))))))) (.ok ((jY (bD.mk 15 2 (dO v).2 (aK.mk 7 0 (fQ v).2) (bS v).2))&&true) (.br (jX (bD.mk 15 2 (dO v).2 (aK.mk 7 0 (fQ v).2) (bS v).2)) (.ok true (.leaf none)) (.ok true (.ok true (.leaf (some (V185_0.mk (fQ v).1 v.b1 (aR v.s3 1))))))))))) (.ok true (.br false (.ok true (.ok (pI v) (.br (pJ v) (.ok true (.leaf none)) (.ok true (.ok true (.leaf (some (V185_0.mk (dO v).1 v.b1 (aR v.s3 1))))))))) (.ok (pI v) (.br (pJ v) (.ok true (.leaf none)) (.ok true (.ok true (.leaf (some (V185_0.mk (dO v).1 v.b1 (aR v.s3 1))))))))))))) (.ok true (.br (eqI (bS v).2 3) (.ok ((FY [(aH 0),(aH 256),(aH 512),(aH 1023)] (bS v).1)&&true) (.ok true (.br false (.ok true (.ok ((jY (bD.mk 15 2 0 (aK.mk 7 0 (cM (fR v).2 255)) (bS v).2))&&true) (.br (jX (bD.mk 15 2 0 (aK.mk 7 0 (cM (fR v).2 255)) (bS v).2)) (.ok true (.leaf none)) (.ok true (.ok true (.leaf (some (V185_0.mk (fR v).1 v.b1 (aR v.s3 1))))))))) (.ok ((jY (bD.mk 15 2 0 (aK.mk 7 0 (fR v).2) (bS v).2))&&true) (.br (jX (bD.mk 15 2 0 (aK.mk 7 0 (fR v).2) (bS v).2)) (.ok true (.leaf none)) (.ok true (.ok true (.leaf (some (V185_0.mk (fR v).1 v.b1 (aR v.s3 1))))))))))) (.ok true (.br false (.ok true (.ok (pK v) (.br (pL v) (.ok true (.leaf none)) (.ok true (.ok true (.leaf (some (V185_0.mk (bS v).1 v.b1 (aR v.s3 1))))))))) (.ok (pK v) (.br (pL v) (.ok true (.leaf none)) (.ok true (.ok true (.leaf (some (V185_0.mk (bS v).1 v.b1 (aR v.s3 1))))))))))))))) (.ok true (.br (eqI (aR 1 (bF 19 v.b0).2) 19) (.ok ((FY [(aH 0),(aH 256),(aH 480),(aH 768),(aH 31)] (hZ (bC v).1).1)&&true) (.ok ((HD 2 (fS v).1)&&true) (.br (hC v).2 (.ok ((jV 4 (hC v).1)&&true) (.ok true (.br false (.ok true (.ok (pM v) (.br (pN v) (.ok true (.leaf none)) (.ok true (.ok true (.leaf (some (V185_0.mk (jC v).1 v.b1 (aR v.s3 1))))))))) (.ok (pM v) (.br (pN v) (.ok true (.leaf none)) (.ok true (.ok true (.leaf (some (V185_0.mk (jC v).1 v.b1 (aR v.s3 1))))))))))) (.ok true (.br false (.ok true (.ok ((jY (bD.mk 19 2 0 (aK.mk 7 0 (cM (fS v).2 255)) 0))&&true) (.br (jX (bD.mk 19 2 0 (aK.mk 7 0 (cM (fS v).2 255)) 0)) (.ok true (.leaf none)) (.ok true (.ok true (.leaf (some (V185_0.mk (hC v).1 v.b1 (aR v.s3 1))))))))) (.ok ((jY (bD.mk 19 2 0 (aK.mk 7 0 (fS v).2) 0))&&true) (.br (jX (bD.mk 19 2 0 (aK.mk 7 0 (fS v).2) 0)) (.ok true (.leaf none)) (.ok true (.ok true (.leaf (some (V185_0.mk (hC v).1 v.b1 (aR v.s3 1))))))))))))) (.ok true (.ok true (.br (bif (eqI (aR 1 (bF 19 v.b0).2) 16)then(eqI (aR 1 (bF 19 v.b0).2) 16)else(bif (eqI (aR 1 (bF 19 v.b0).2) 17)then(eqI (aR 1 (bF 19 v.b0).2) 17)else(bif (eqI (aR 1 (bF 19 v.b0).2) 9)then(eqI (aR 1 (bF 19 v.b0).2) 9)else(eqI (aR 1 (bF 19 v.b0).2) 10)))) (.ok true (.ok true (.br false (.ok true (.ok ((jY (bD.mk (aR 1 (bF 19 v.b0).2) 2 (bC v).2 (eZ v) 0))&&true) (.br (jX (bD.mk (aR 1 (bF 19 v.b0).2) 2 (bC v).2 (eZ v) 0)) (.ok true (.leaf none)) (.ok true (.ok true (.leaf (some (jD v)))))))) (.ok ((jY (bD.mk (aR 1 (bF 19 v.b0).2) 2 (bC v).2 (hZ (bC v).1).2 0))&&true) (.br (jX (bD.mk (aR 1 (bF 19 v.b0).2) 2 (bC v).2 (hZ (bC v).1).2 0)) (.ok true (.leaf none)) (.ok true (.ok true (.leaf (some (jD v)))))))))) (.ok true (.br (tR v) (.ok true (.ok ((jY (bD.mk (aR 1 (bF 19 v.b0).2) (aR 1 (bF 2 (bF 19 v.b0).1).2) (bC v).2 (eZ v) 0))&&true) (.br (jX (bD.mk (aR 1 (bF 19 v.b0).2) (aR 1 (bF 2 (bF 19 v.b0).1).2) (bC v).2 (eZ v) 0)) (.ok true (.leaf none)) (.ok true (.ok true (.leaf (some (jD v)))))))) (.ok ((jY (bD.mk (aR 1 (bF 19 v.b0).2) (aR 1 (bF 2 (bF 19 v.b0).1).2) (bC v).2 (hZ (bC v).1).2 0))&&true) (.br (jX (bD.mk (aR 1 (bF 19 v.b0).2) (aR 1 (bF 2 (bF 19 v.b0).1).2) (bC v).2 (hZ (bC v).1).2 0)) (.ok true (.leaf none)) (.ok true (.ok true (.leaf (some (jD v))))))))))))))))))))))))))) (.leaf none)))
def C2(v:V185_0):St:=⟨[(0,(.one (.ptr 0 0 0))),(2,(.one (.ptr 1 0 0))),(3,(.one (li v.s3)))],[.box [.imm true 1 v.b0.fcode,li v.b0.fat, .lit (.int .u64 v.b0.fseed)], .box [li v.b1.Op,li v.b1.Size,li v.b1.Reg,li v.b1.Ea.Mode,li v.b1.Ea.Reg,li v.b1.Ea.Ext,li v.b1.Sub]]⟩
def IK:St→Option (V185_0×Bool)
 |⟨[(0,(.one (.ptr 0 0 0))),(2,(.one (.ptr 1 0 0))),(3,(.one (li c10)))],[.box [.imm true 1 c0,li c1, .lit (.int .u64 c2)], .box [li c3,li c4,li c5,li c6,li c7,li c8,li c9]]⟩=>some ((V185_0.mk (aB.mk c0 c1 c2) (bD.mk c3 c4 c5 (aK.mk c6 c7 c8) c9) c10),true)
 |_=>none
def IM:St→Option (Pt Out):=mV Q126 [(21,K0),(36,K0),(44,K0),(52,K0),(80,K0),(86,K0),(112,K0),(117,K0),(122,K0),(126,K5),(128,K5)] [] true [] 1 2097152 PJ
theorem aKT(v:V185_0):((IM (C2 v)).bind (jS true false 1 [0,2,3]))=some ((pO v).map (Option.map C2)):=by kernel_rfl
theorem aKU(σ:St)(v:V185_0)(h:IK σ=some (v,true)):σ=C2 v:=by
 unfold IK at h;split at h
 ·obtain⟨hr,hk⟩:=qp (qi h);rw[←hr];rfl
 ·simp at h
theorem aKV:bN (lL true false 1 [0,2,3] IM IK C2 pO 2097152) (dI R 1 2097152 (.loop [0,2,3] PJ)):=cH (bO IJ (bH (l:=[]) (by kernel_rfl) trivial)) aKU aKT
def aKW:Lp:=(5,lL true false 1 [0,2,3] IM IK C2 pO 2097152)::[]
def P4(v:V185_0):V185_0:=(hid (cB pO 2097152 v)).getD v
def P5(v:V185_0):Bool:=(hid (cB pO 2097152 v)).isSome
section
variable(a:aB)
def dE:V185_0:=(P4 (V185_0.mk a (bD.mk 0 0 0 (aK.mk 0 0 0) 0) 0))
def e9:aB×Int:=(bF 2 (bF 19 (dE a).b0).1)
def dF:aB×aK:=(hZ (bF 4 (e9 a).1).1)
def P6:Bool:=(bif (eqI (aR 1 (e9 a).2) 1)then(eqI (dF a).2.Mode 7)else false)
def C3:aK:={(dF a).2 with Ext:=(cM (dF a).2.Ext 255)}
def IN:Bool:=(eqI (aR 1 (bF 19 (dE a).b0).2) 12)
def P7:Bool:=(eqI (aR 1 (bF 19 (dE a).b0).2) 18)
def lY:aB×Int:=(bF 7 (bF 2 (dF a).1).1)
def C4:Int:=(cM (dD (bF 2 (dF a).1).2 (aR 1 (dD (lY a).2 (M5 (IN a) 1)))) 7)
def IP:aB×Int:=(bF 8 (bF 2 (dF a).1).1)
def wC:aB×Int:=(wB [(aH 2),(aH 4),(aH 6),(aH 8),(aH 65526),(aH 65530),(aH 0),(aH 3)] (IP a).1)
def cZ:aB×Int:=(wB [(aH 0),(aH 1),(aH 2),(aH 2),(aH 3),(aH 4),(aH 5),(aH 6)] (dF a).1)
def wD:aB×Int:=(wB [(aH 0),(aH 256),(aH 512),(aH 1023)] (bF 4 (cZ a).1).1)
def wE:aB×Int:=(wB [(aH 0),(aH 256),(aH 512),(aH 1023)] (cZ a).1)
def nL:aB×Int:=(wB [(aH 0),(aH 256),(aH 480),(aH 768),(aH 31)] (dF a).1)
def wF:aB×Int:=(bF 4 (eT 2 (nL a).1).1)
def IQ:Bool:=(eqI (aR 1 (bF 19 (dE a).b0).2) 16)
def IR:Bool:=(eqI (aR 1 (bF 19 (dE a).b0).2) 17)
def IS:Bool:=(eqI (aR 1 (bF 19 (dE a).b0).2) 9)
end
def ZK(a:aB):Pt (aB×bD):=(.ok true (.ok true (.ok true (.ok true (.ok (P5 (V185_0.mk a (bD.mk 0 0 0 (aK.mk 0 0 0) 0) 0)) (.br (ltI (dE a).s3 6) (.br (eqI (aR 1 (bF 19 (dE a).b0).2) 11) (.br (P6 a) (.ok true (.leaf ((bF 4 (dF a).1).1,(bD.mk (aR 1 (bF 19 (dE a).b0).2) (aR 1 (e9 a).2) 0 (C3 a) (bF 4 (dF a).1).2)))) (.ok true (.leaf ((bF 4 (dF a).1).1,(bD.mk (aR 1 (bF 19 (dE a).b0).2) (aR 1 (e9 a).2) 0 (dF a).2 (bF 4 (dF a).1).2))))) (.br (bif (IN a)then(IN a)else(P7 a)) (.br (P7 a) (.br false (.ok true (.leaf ((bF 4 (lY a).1).1,(bD.mk (aR 1 (bF 19 (dE a).b0).2) 1 (bF 4 (e9 a).1).2 (aK.mk 0 (bF 4 (lY a).1).2 0) (C4 a))))) (.ok true (.leaf ((bF 4 (lY a).1).1,(bD.mk (aR 1 (bF 19 (dE a).b0).2) 1 (bF 4 (e9 a).1).2 (aK.mk 0 (bF 4 (lY a).1).2 0) (C4 a)))))) (.br (bif (eqI (aR 1 (e9 a).2) 1)then false else false) (.ok true (.leaf ((bF 4 (lY a).1).1,(bD.mk (aR 1 (bF 19 (dE a).b0).2) (aR 1 (e9 a).2) (bF 4 (e9 a).1).2 (aK.mk 0 (bF 4 (lY a).1).2 0) (C4 a))))) (.ok true (.leaf ((bF 4 (lY a).1).1,(bD.mk (aR 1 (bF 19 (dE a).b0).2) (aR 1 (e9 a).2) (bF 4 (e9 a).1).2 (aK.mk 0 (bF 4 (lY a).1).2 0) (C4 a))))))) (.br (eqI (aR 1 (bF 19 (dE a).b0).2) 13) (.br false (.ok true (.leaf ((wC a).1,(bD.mk 13 2 (bF 2 (dF a).1).2 (aK.mk 7 0 (cM (wC a).2 255)) (IP a).2)))) (.ok true (.leaf ((wC a).1,(bD.mk 13 2 (bF 2 (dF a).1).2 (aK.mk 7 0 (wC a).2) (IP a).2))))) (.br (eqI (aR 1 (bF 19 (dE a).b0).2) 14) (.br false (.ok true (.leaf ((bF 2 (dF a).1).1,(bD.mk (aR 1 (bF 19 (dE a).b0).2) 2 0 (C3 a) (bF 2 (dF a).1).2)))) (.ok true (.leaf ((bF 2 (dF a).1).1,(bD.mk (aR 1 (bF 19 (dE a).b0).2) 2 0 (dF a).2 (bF 2 (dF a).1).2))))) (.br (eqI (aR 1 (bF 19 (dE a).b0).2) 15) (.br (kK (cZ a).2 3) (.br (eqI (cZ a).2 3) (.br false (.ok true (.leaf ((wD a).1,(bD.mk 15 2 (bF 4 (cZ a).1).2 (aK.mk 7 0 (cM (wD a).2 255)) (cZ a).2)))) (.ok true (.leaf ((wD a).1,(bD.mk 15 2 (bF 4 (cZ a).1).2 (aK.mk 7 0 (wD a).2) (cZ a).2))))) (.br false (.ok true (.leaf ((bF 4 (cZ a).1).1,(bD.mk 15 2 (bF 4 (cZ a).1).2 (aK.mk 0 0 0) (cZ a).2)))) (.ok true (.leaf ((bF 4 (cZ a).1).1,(bD.mk 15 2 (bF 4 (cZ a).1).2 (aK.mk 0 0 0) (cZ a).2)))))) (.br (eqI (cZ a).2 3) (.br false (.ok true (.leaf ((wE a).1,(bD.mk 15 2 0 (aK.mk 7 0 (cM (wE a).2 255)) (cZ a).2)))) (.ok true (.leaf ((wE a).1,(bD.mk 15 2 0 (aK.mk 7 0 (wE a).2) (cZ a).2))))) (.br false (.ok true (.leaf ((cZ a).1,(bD.mk 15 2 0 (aK.mk 0 0 0) (cZ a).2)))) (.ok true (.leaf ((cZ a).1,(bD.mk 15 2 0 (aK.mk 0 0 0) (cZ a).2))))))) (.br (eqI (aR 1 (bF 19 (dE a).b0).2) 19) (.br (eT 2 (nL a).1).2 (.br false (.ok true (.leaf ((wF a).1,(bD.mk 19 2 (wF a).2 (aK.mk 0 0 0) 1)))) (.ok true (.leaf ((wF a).1,(bD.mk 19 2 (wF a).2 (aK.mk 0 0 0) 1))))) (.br false (.ok true (.leaf ((eT 2 (nL a).1).1,(bD.mk 19 2 0 (aK.mk 7 0 (cM (nL a).2 255)) 0)))) (.ok true (.leaf ((eT 2 (nL a).1).1,(bD.mk 19 2 0 (aK.mk 7 0 (nL a).2) 0)))))) (.br (bif (IQ a)then(IQ a)else(bif (IR a)then(IR a)else(bif (IS a)then(IS a)else(eqI (aR 1 (bF 19 (dE a).b0).2) 10)))) (.br false (.ok true (.leaf ((dF a).1,(bD.mk (aR 1 (bF 19 (dE a).b0).2) 2 (bF 4 (e9 a).1).2 (C3 a) 0)))) (.ok true (.leaf ((dF a).1,(bD.mk (aR 1 (bF 19 (dE a).b0).2) 2 (bF 4 (e9 a).1).2 (dF a).2 0))))) (.br (P6 a) (.ok true (.leaf ((dF a).1,(bD.mk (aR 1 (bF 19 (dE a).b0).2) (aR 1 (e9 a).2) (bF 4 (e9 a).1).2 (C3 a) 0)))) (.ok true (.leaf ((dF a).1,(bD.mk (aR 1 (bF 19 (dE a).b0).2) (aR 1 (e9 a).2) (bF 4 (e9 a).1).2 (dF a).2 0)))))))))))) (.ok true (.ok true (.leaf ((dE a).b0,(bD.mk 15 2 0 (aK.mk 0 0 0) 2)))))))))))
def AC(a:aB):aB×bD:=hid (ZK a).val
def aKX(a:aB):Bool:=hid (ZK a).okv
def aKY(a:aB)(r:aB×bD):SV×List Blk:=((.agg [li r.2.Op,li r.2.Size,li r.2.Reg,li r.2.Ea.Mode,li r.2.Ea.Reg,li r.2.Ea.Ext,li r.2.Sub]),[.box [.imm true 1 r.1.fcode,li r.1.fat, .lit (.int .u64 r.1.fseed)]])
def q185:=DS0 (fun a=>aKY a (AC a)) aKX
theorem a08:dN (fun live x=>bN (hX aKW (gK x)) (dI R 1 2097152 (.loop live x))) F185.body:=(bH (l:=[([0,2,3],PJ)]) (by kernel_rfl) ⟨dK (n:=5) (by kernel_rfl) fun σ σr t h ho hl=>aKV σ σr t h ho hl,trivial⟩)
theorem a73:bX 185 q185:=sE fun a hk=>UN aZ0 IJ a08 [(21,K0),(36,K0),(44,K0),(52,K0),(80,K0),(86,K0),(112,K0),(117,K0),(122,K0),(126,K5),(128,K5)] [] true (ZK a) (aKY a) hk
def Q185:=aV 185 q185 Q126
theorem VA:QO Q185:=aG a73 IJ
section
variable(a:aB)
def xW:aB×Int:=(bF 22 (eT 20 (AC a).1).1)
def xX:aB×Int:=(bF 5 (bF 4 (xW a).1).1)
def P8:aB×Int:=(bF 9 (hZ (xX a).1).1)
end
def aC5(a:aB):Pt (aB×bD):=(.ok true (.ok ((aKX a)&&true) (.ok ((HD 20 (AC a).1)&&true) (.br (eT 20 (AC a).1).2 (.ok ((jV 22 (eT 20 (AC a).1).1)&&((jV 4 (xW a).1)&&((jV 5 (bF 4 (xW a).1).1)&&((aKK (xX a).1)&&((jV 9 (hZ (xX a).1).1)&&true))))) (.ok true (.ok true (.leaf ((P8 a).1,(bD.mk (xW a).2 (bF 4 (xW a).1).2 (xX a).2 (hZ (xX a).1).2 (P8 a).2)))))) (.ok true (.ok true (.leaf ((eT 20 (AC a).1).1,(AC a).2))))))))
def P9(a:aB):aB×bD:=hid (aC5 a).val
def aC6(a:aB):Bool:=hid (aC5 a).okv
def q123:=DS0 (fun a=>aKY a (P9 a)) aC6
theorem a74:bX 123 q123:=sE fun a hk=>tc aY8 VA [(19,K5)] [] true (aC5 a) (aKY a) hk
def Q123:=aV 123 q123 Q185
theorem IT:QO Q123:=aG a74 VA
structure V202_0 where
 mk::
 (b0:aB)
 (s3:List Row)
 (s4:Int)
section
variable(v:V202_0)
def tS:Nat:=(ln (v.s3++[(bD.row (AC v.b0).2)]))
end
def xY(v:V202_0):Pt (Option V202_0):=(.ok true (.br (kK v.s4 0) (.ok ((aKX v.b0)&&(((e1 (ln v.s3))&&((dR (0+(ln v.s3)) (ln v.s3))&&((iE (kL ((ln v.s3)+1) 56) 140737488355328)&&(iE ((ln v.s3)+1) 140737488355328))))&&true)) (.ok true (.ok (((e1 (tS v))&&true)&&((e1 (tS v))&&true)) (.leaf (some (V202_0.mk (AC v.b0).1 (v.s3++[(bD.row (AC v.b0).2)]) (eQ v.s4 1))))))) (.leaf none)))
def C5(v:V202_0):St:=⟨[(0,(.one (.ptr 0 0 0))),(3,(.one (.sl 1 0 (ln v.s3)))),(4,(.one (li v.s4)))],[.box [.imm true 1 v.b0.fcode,li v.b0.fat, .lit (.int .u64 v.b0.fseed)], .lst 7 v.s3]⟩
def IU:St→Option (V202_0×Bool)
 |⟨[(0,(.one (.ptr 0 0 0))),(3,(.one (.sl 1 0 l1))),(4,(.one (li c3)))],[.box [.imm true 1 c0,li c1, .lit (.int .u64 c2)], .lst 7 c_1]⟩=>some ((V202_0.mk (aB.mk c0 c1 c2) c_1 c3),dR l1 (ln c_1)&&(true))
 |_=>none
def IV:St→Option (Pt Out):=mV Q123 [(31,K5),(1000000,[])] [] true [] 1 2097152 PL
theorem aKZ(v:V202_0):((IV (C5 v)).bind (jS true false 1 [0,3,4]))=some ((xY v).map (Option.map C5)):=by kernel_rfl
theorem aK0(σ:St)(v:V202_0)(h:IU σ=some (v,true)):σ=C5 v:=by
 unfold IU at h;split at h
 ·obtain⟨hr,hk⟩:=qp (qi h);obtain⟨d0,hk0⟩:=aT hk;obtain rfl:=of_decide_eq_true d0;rw[←hr];rfl
 ·simp at h
theorem aK1:bN (lL true false 1 [0,3,4] IV IU C5 xY 2097152) (dI R 1 2097152 (.loop [0,3,4] PL)):=cH (bO IT (bH (l:=[]) (by kernel_rfl) trivial)) aK0 aKZ
def aK2:Lp:=(12,lL true false 1 [0,3,4] IV IU C5 xY 2097152)::[]
def C6(v:V202_0):V202_0:=(hid (cB xY 2097152 v)).getD v
def IW(v:V202_0):Bool:=(hid (cB xY 2097152 v)).isSome
section
variable(a:aB)
def C7:aB×Int:=(bF 2 (eT 20 (bF 8 a).1).1)
def dG:V202_0:=(C6 (V202_0.mk (C7 a).1 [] (aR 40 (C7 a).2)))
def C8:aB:=(aB.mk (bif (kK (aX (dG a).s3) 0)then(eT 20 (dG a).b0).1.fcode else(dG a).b0.fcode) (bif (kK (aX (dG a).s3) 0)then(eT 20 (dG a).b0).1.fat else(dG a).b0.fat) (bif (kK (aX (dG a).s3) 0)then(eT 20 (dG a).b0).1.fseed else(dG a).b0.fseed))
def xZ:List Row:=(bif (kK (aX (dG a).s3) 0)then(dG a).s3 else(dG a).s3)
def QA:List Row:=(List.set (xZ a) 0 (bD.row (P9 (C8 a)).2))
def QB:Bool:=((e1 (ln (dG a).s3))&&true)
def QC:List Row:=(List.take (ln (dG a).s3) (QA a))
def QD:List Row:=(List.take (ln (dG a).s3) (xZ a))
def dH:V202_0:=(C6 (V202_0.mk (eT 20 (bF 8 a).1).1 [] (bF 8 a).2))
def C9:aB:=(aB.mk (bif (kK (aX (dH a).s3) 0)then(eT 20 (dH a).b0).1.fcode else(dH a).b0.fcode) (bif (kK (aX (dH a).s3) 0)then(eT 20 (dH a).b0).1.fat else(dH a).b0.fat) (bif (kK (aX (dH a).s3) 0)then(eT 20 (dH a).b0).1.fseed else(dH a).b0.fseed))
def rF:List Row:=(bif (kK (aX (dH a).s3) 0)then(dH a).s3 else(dH a).s3)
def IX:List Row:=(List.set (rF a) 0 (bD.row (P9 (C9 a)).2))
def IY:Bool:=((e1 (ln (dH a).s3))&&true)
def IZ:List Row:=(List.take (ln (dH a).s3) (IX a))
def I0:List Row:=(List.take (ln (dH a).s3) (rF a))
end
def aC7(a:aB):Pt (aB×List Row):=(.ok true (.ok true (.ok ((jV 8 a)&&true) (.ok ((HD 20 (bF 8 a).1)&&true) (.br (eT 20 (bF 8 a).1).2 (.ok ((jV 2 (eT 20 (bF 8 a).1).1)&&true) (.ok true (.ok true (.ok (IW (V202_0.mk (C7 a).1 [] (aR 40 (C7 a).2))) (.ok ((iE (0+(ln (dG a).s3)) (ln (dG a).s3))&&((((HD 20 (dG a).b0)&&true)||(!(kK (aX (dG a).s3) 0)))&&true)) (.br (bif (kK (aX (dG a).s3) 0)then(eT 20 (dG a).b0).2 else false) (.ok ((aC6 (C8 a))&&((ltI 0 (aX (dG a).s3))&&(((blt 0 (ln (xZ a)))&&(gD (gE (xZ a) 0) 7))&&true))) (.ok true (.ok ((((iE (0+(ln (dG a).s3)) (ln (QA a)))&&true)&&(QB a))&&((dR (ln (dG a).s3) (ln (QC a)))&&true)) (.leaf ((P9 (C8 a)).1,(QC a)))))) (.ok true (.ok ((((iE (0+(ln (dG a).s3)) (ln (xZ a)))&&true)&&(QB a))&&((dR (ln (dG a).s3) (ln (QD a)))&&true)) (.leaf ((C8 a),(QD a))))))))))) (.ok true (.ok true (.ok (IW (V202_0.mk (eT 20 (bF 8 a).1).1 [] (bF 8 a).2)) (.ok ((iE (0+(ln (dH a).s3)) (ln (dH a).s3))&&((((HD 20 (dH a).b0)&&true)||(!(kK (aX (dH a).s3) 0)))&&true)) (.br (bif (kK (aX (dH a).s3) 0)then(eT 20 (dH a).b0).2 else false) (.ok ((aC6 (C9 a))&&((ltI 0 (aX (dH a).s3))&&(((blt 0 (ln (rF a)))&&(gD (gE (rF a) 0) 7))&&true))) (.ok true (.ok ((((iE (0+(ln (dH a).s3)) (ln (IX a)))&&true)&&(IY a))&&((dR (ln (dH a).s3) (ln (IZ a)))&&true)) (.leaf ((P9 (C9 a)).1,(IZ a)))))) (.ok true (.ok ((((iE (0+(ln (dH a).s3)) (ln (rF a)))&&true)&&(IY a))&&((dR (ln (dH a).s3) (ln (I0 a)))&&true)) (.leaf ((C9 a),(I0 a)))))))))))))))
def AD(a:aB):aB×List Row:=hid (aC7 a).val
def aRO(a:aB):Bool:=hid (aC7 a).okv
def a09(a:aB)(r:aB×List Row):SV×List Blk:=((.one (.sl 1 0 (ln r.2))),[.box [.imm true 1 r.1.fcode,li r.1.fat, .lit (.int .u64 r.1.fseed)], .lst 7 r.2])
def q202:=DS0 (fun a=>a09 a (AD a)) aRO
theorem a1A:dN (fun live x=>bN (hX aK2 (gK x)) (dI R 1 2097152 (.loop live x))) F202.body:=(bH (l:=[([0,3,4],PL)]) (by kernel_rfl) ⟨dK (n:=12) (by kernel_rfl) fun σ σr t h ho hl=>aK1 σ σr t h ho hl,trivial⟩)
theorem a75:bX 202 q202:=sE fun a hk=>UN a0B IT a1A [(31,K5),(1000000,[])] [] true (aC7 a) (a09 a) hk
def Q202:=aV 202 q202 Q123
theorem VB:QO Q202:=aG a75 IT
def aC8(a:bD):Pt (List Row):=(.ok true (.ok true (.ok ((ZH a.Ea.Mode)&&true) (.br (ZG a.Ea.Mode) (.ok true (.ok true (.ok true (.leaf [(aH (rM (rM (rM (rM (rM (nH a.Op 11) (nH (eQ a.Size 1) 10)) (nH a.Reg 8)) (nH a.Ea.Mode 5)) (nH a.Ea.Reg 3)) a.Sub)),(aH a.Ea.Ext)])))) (.ok true (.ok true (.leaf [(aH (rM (rM (rM (rM (rM (nH a.Op 11) (nH (eQ a.Size 1) 10)) (nH a.Reg 8)) (nH a.Ea.Mode 5)) (nH a.Ea.Reg 3)) a.Sub))])))))))
def aRP(a:bD):List Row:=hid (aC8 a).val
def aRQ(a:bD):Bool:=hid (aC8 a).okv
def a1B(a:bD)(r:List Row):SV×List Blk:=((.one (.sl 0 0 (ln r))),[.lst 1 r])
def q196:=DS7 (fun a=>a1B a (aRP a)) aRQ
theorem a76:bX 196 q196:=aPQ fun a hk=>tc aZ9 VB [(5,K0),(8,K0),(13,K0),(18,K0),(23,K0),(27,K0),(32,K0),(37,K0)] [] true (aC8 a) (a1B a) hk
def Q196:=aV 196 q196 Q202
theorem I1:QO Q196:=aG a76 VB
def AS8(a:List Row):List SV:=[(.one (.imm false 7 a))]
def HS8(a:List Row):List Blk:=[]
def DS8(N:List Row→SV×List Blk)(K:List Row→Bool):List SV→List Blk→Option ((SV×List Blk)×Bool)
 |[(.one (.imm false 7 c0))],[]=>some (N c0,K c0)
 |_,_=>none
theorem a1C{N:List Row→SV×List Blk}{K:List Row→Bool}{f:Nat}(h: ∀(a:List Row),K a=true→cF R f (AS8 a) (HS8 a)=some (N a)):bX f (DS8 N K):=fun _ _ _ e=>by
 unfold DS8 at e;split at e
 ·exact mQ e (h _)
 ·cases e
structure V201_0 where
 mk::
 (s0:List Row)
 (s4:List Row)
 (s7:List Row)
 (s8:Int)
 (s9:Int)
section
variable(v:V201_0)
def kM:List Row:=(aRP (bD.at v.s7 (iN v.s9) 0))
def tT:Nat:=((ln v.s4)+(ln (kM v)))
def tU:Bool:=((e1 (ln (v.s4++(kM v))))&&true)
end
def x5(v:V201_0):Pt (Option V201_0):=(.ok true (.br (ltI v.s9 v.s8) (.ok ((dJ [.int .i64, .int .i64, .int .i64, .int .i64, .int .i64, .int .i64, .int .i64] v.s7 v.s9)&&true) (.ok ((jY (bD.at v.s7 (iN v.s9) 0))&&true) (.br (!(jX (bD.at v.s7 (iN v.s9) 0))) (.ok true (.leaf none)) (.ok ((aRQ (bD.at v.s7 (iN v.s9) 0))&&(((e1 (ln v.s4))&&((e1 (ln (kM v)))&&((dR (0+(ln v.s4)) (ln v.s4))&&((iE (kL (tT v) 8) 140737488355328)&&(iE (tT v) 140737488355328)))))&&true)) (.ok true (.ok ((tU v)&&(tU v)) (.leaf (some {v with s4:=(v.s4++(kM v)),s9:=(aR v.s9 1)})))))))) (.leaf none)))
def DA(v:V201_0):St:=⟨[(0,(.one (.imm false 7 v.s0))),(4,(.one (.sl 0 0 (ln v.s4)))),(7,(.one (.imm false 7 v.s7))),(8,(.one (li v.s8))),(9,(.one (li v.s9)))],[.lst 1 v.s4]⟩
def I2:St→Option (V201_0×Bool)
 |⟨[(0,(.one (.imm false 7 c0))),(4,(.one (.sl 0 0 l0))),(7,(.one (.imm false 7 c1))),(8,(.one (li c2))),(9,(.one (li c3)))],[.lst 1 c_0]⟩=>some ((V201_0.mk c0 c_0 c1 c2 c3),dR l0 (ln c_0)&&(true))
 |_=>none
def I3:St→Option (Pt Out):=mV Q196 [(11,K5),(12,K5),(13,K5),(17,K5)] [] true [] 0 2097152 PK
theorem aK3(v:V201_0):((I3 (DA v)).bind (jS true false 0 [0,4,7,8,9]))=some ((x5 v).map (Option.map DA)):=by kernel_rfl
theorem aK4(σ:St)(v:V201_0)(h:I2 σ=some (v,true)):σ=DA v:=by
 unfold I2 at h;split at h
 ·obtain⟨hr,hk⟩:=qp (qi h);obtain⟨d0,hk0⟩:=aT hk;obtain rfl:=of_decide_eq_true d0;rw[←hr];rfl
 ·simp at h
theorem aK5:bN (lL true false 0 [0,4,7,8,9] I3 I2 DA x5 2097152) (dI R 0 2097152 (.loop [0,4,7,8,9] PK)):=cH (bO I1 (bH (l:=[]) (by kernel_rfl) trivial)) aK4 aK3
def aK6:Lp:=(10,lL true false 0 [0,4,7,8,9] I3 I2 DA x5 2097152)::[]
def QE(v:V201_0):V201_0:=(hid (cB x5 2097152 v)).getD v
def QF(v:V201_0):Bool:=(hid (cB x5 2097152 v)).isSome
section
variable(a:List Row)
def x6:V201_0:=(QE (V201_0.mk a [] a (aX a) 0))
def QG:Bool:=((e1 (ln (x6 a).s4))&&true)
end
def aC9(a:List Row):Pt (List Row×Bool):=(.ok true (.ok true (.ok true (.ok true (.ok true (.ok (QF (V201_0.mk a [] a (aX a) 0)) (.br (ltI (x6 a).s9 (x6 a).s8) (.ok true (.leaf ([],false))) (.ok true (.br (kK (aX (x6 a).s0) 40) (.ok true (.ok true (.leaf ([],false)))) (.ok true (.ok ((QG a)&&(QG a)) (.leaf ((x6 a).s4,true)))))))))))))
def QH(a:List Row):List Row×Bool:=hid (aC9 a).val
def aRR(a:List Row):Bool:=hid (aC9 a).okv
def a1D(a:List Row)(r:List Row×Bool):SV×List Blk:=((.tup [(.one (.sl 0 0 (ln r.1))),(.one (.lit (.bool r.2)))]),[.lst 1 r.1])
def q201:=DS8 (fun a=>a1D a (QH a)) aRR
theorem a1E:dN (fun live x=>bN (hX aK6 (gK x)) (dI R 0 2097152 (.loop live x))) F201.body:=(bH (l:=[([0,4,7,8,9],PK)]) (by kernel_rfl) ⟨dK (n:=10) (by kernel_rfl) fun σ σr t h ho hl=>aK5 σ σr t h ho hl,trivial⟩)
theorem a78:bX 201 q201:=a1C fun a hk=>UN a0A I1 a1E [(11,K5),(12,K5),(13,K5),(17,K5)] [] true (aC9 a) (a1D a) hk
def Q201:=aV 201 q201 Q196
theorem I4:QO Q201:=aG a78 I1
structure V149_0 where
 mk::
 (b0:aB)
 (s4:Int)
 (s5:List Row)
 (s16:Int)
 (s17:Int)
section
variable(v:V149_0)
def tW:List Row:=(List.set v.s5 (0+(iN v.s17)) (aH (bF 256 (eT 8 v.b0).1).2))
def tX:Bool:=((dR (ln v.s5) (ln (tW v)))&&true)
end
def x7(v:V149_0):Pt (Option V149_0):=(.ok true (.br (ltI v.s17 v.s16) (.ok true (.ok ((HD 8 v.b0)&&true) (.br (eT 8 v.b0).2 (.ok ((jV 256 (eT 8 v.b0).1)&&(((leI 0 v.s17)&&(ltI v.s17 (aX v.s5)))&&(((blt (0+(iN v.s17)) (ln v.s5))&&(gD (gE v.s5 (0+(iN v.s17))) 1))&&true))) (.ok true (.ok (((tX v)&&((e1 (ln v.s5))&&true))&&((tX v)&&true)) (.leaf (some (V149_0.mk (bF 256 (eT 8 v.b0).1).1 v.s4 (tW v) v.s16 (aR v.s17 1))))))) (.ok true (.ok ((((e1 (ln v.s5))&&true)&&((e1 (ln v.s5))&&true))&&(((e1 (ln v.s5))&&true)&&true)) (.leaf (some {v with b0:=(eT 8 v.b0).1,s17:=(aR v.s17 1)}))))))) (.leaf none)))
def DB(v:V149_0):St:=⟨[(0,(.one (.ptr 0 0 0))),(4,(.one (li v.s4))),(5,(.one (.sl 1 0 (ln v.s5)))),(16,(.one (li v.s16))),(17,(.one (li v.s17)))],[.box [.imm true 1 v.b0.fcode,li v.b0.fat, .lit (.int .u64 v.b0.fseed)], .lst 1 v.s5]⟩
def I5:St→Option (V149_0×Bool)
 |⟨[(0,(.one (.ptr 0 0 0))),(4,(.one (li c3))),(5,(.one (.sl 1 0 l1))),(16,(.one (li c4))),(17,(.one (li c5)))],[.box [.imm true 1 c0,li c1, .lit (.int .u64 c2)], .lst 1 c_1]⟩=>some ((V149_0.mk (aB.mk c0 c1 c2) c3 c_1 c4 c5),dR l1 (ln c_1)&&(true))
 |_=>none
def I6:St→Option (Pt Out):=mV Q86 [(26,K0),(39,K0),(40,K0),(56,K0),(65,K0),(1000003,[])] [] true [] 1 2097152 PE
theorem aK7(v:V149_0):((I6 (DB v)).bind (jS true true 1 [0,4,5,16,17]))=some ((x7 v).map (Option.map DB)):=by kernel_rfl
theorem aK8(σ:St)(v:V149_0)(h:I5 σ=some (v,true)):σ=DB v:=by
 unfold I5 at h;split at h
 ·obtain⟨hr,hk⟩:=qp (qi h);obtain⟨d0,hk0⟩:=aT hk;obtain rfl:=of_decide_eq_true d0;rw[←hr];rfl
 ·simp at h
theorem aK9:bN (lL true true 1 [0,4,5,16,17] I6 I5 DB x7 2097152) (dI R 1 2097152 (.loop [0,4,5,16,17] PE)):=cH (bO PQ (bH (l:=[]) (by kernel_rfl) trivial)) aK8 aK7
def VC:Lp:=(18,lL true true 1 [0,4,5,16,17] I6 I5 DB x7 2097152)::[]
def DC(v:V149_0):V149_0:=(hid (cB x7 2097152 v)).getD v
def QI(v:V149_0):Bool:=(hid (cB x7 2097152 v)).isSome
structure V149_1 where
 mk::
 (b0:aB)
 (s4:Int)
 (s5:List Row)
 (s34:List Row)
 (s35:Int)
 (s36:Int)
section
variable(v:V149_1)
def tY:Bool:=(ltI (aR (aR v.s4 (dD 2 v.s36)) 1) (aX v.s5))
def nM:Nat:=(0+(iN (aR v.s4 (dD 2 v.s36))))
def nN:Nat:=(0+(iN (aR (aR v.s4 (dD 2 v.s36)) 1)))
def nO:List Row:=(List.set v.s5 (nM v) (aH (xQ (aU v.s34 (0+(iN v.s36)) 0) 8)))
def tZ:List Row:=(List.set (nO v) (nN v) (aH (cM (aU v.s34 (0+(iN v.s36)) 0) 255)))
def uA:Bool:=((dR (ln v.s5) (ln (tZ v)))&&((e1 (ln v.s34))&&true))
def kN:Bool:=((e1 (ln v.s5))&&((e1 (ln v.s34))&&true))
end
def x8(v:V149_1):Pt (Option V149_1):=(.ok true (.br (ltI v.s36 v.s35) (.ok (((leI 0 v.s36)&&(ltI v.s36 (aX v.s34)))&&((dC [.int .i64] v.s34 (0+(iN v.s36)) 0)&&true)) (.ok ((iE (0+(ln v.s5)) (ln v.s5))&&true) (.br (tY v) (.ok (((leI 0 (aR v.s4 (dD 2 v.s36)))&&(ltI (aR v.s4 (dD 2 v.s36)) (aX v.s5)))&&(((blt (nM v) (ln v.s5))&&(gD (gE v.s5 (nM v)) 1))&&true)) (.ok (((leI 0 (aR (aR v.s4 (dD 2 v.s36)) 1))&&(tY v))&&(((blt (nN v) (ln (nO v)))&&(gD (gE (nO v) (nN v)) 1))&&true)) (.ok true (.ok (((uA v)&&(kN v))&&((uA v)&&true)) (.leaf (some {v with s5:=(tZ v),s36:=(aR v.s36 1)})))))) (.ok true (.ok (((kN v)&&(kN v))&&((kN v)&&true)) (.leaf (some {v with s36:=(aR v.s36 1)}))))))) (.leaf none)))
def DD(v:V149_1):St:=⟨[(4,(.one (li v.s4))),(5,(.one (.sl 1 0 (ln v.s5)))),(34,(.one (.sl 2 0 (ln v.s34)))),(35,(.one (li v.s35))),(36,(.one (li v.s36)))],[.box [.imm true 1 v.b0.fcode,li v.b0.fat, .lit (.int .u64 v.b0.fseed)], .lst 1 v.s5, .lst 1 v.s34]⟩
def I7:St→Option (V149_1×Bool)
 |⟨[(4,(.one (li c3))),(5,(.one (.sl 1 0 l1))),(34,(.one (.sl 2 0 l2))),(35,(.one (li c4))),(36,(.one (li c5)))],[.box [.imm true 1 c0,li c1, .lit (.int .u64 c2)], .lst 1 c_1, .lst 1 c_2]⟩=>some ((V149_1.mk (aB.mk c0 c1 c2) c3 c_1 c_2 c4 c5),dR l1 (ln c_1)&&(dR l2 (ln c_2)&&(true)))
 |_=>none
def I8:St→Option (Pt Out):=mV Q201 [(26,K0),(39,K0),(40,K0),(56,K0),(65,K0),(1000003,[])] [] true VC 1 2097152 PF
theorem aLA(v:V149_1):((I8 (DD v)).bind (jS true true 1 [4,5,34,35,36]))=some ((x8 v).map (Option.map DD)):=by kernel_rfl
theorem aLB(σ:St)(v:V149_1)(h:I7 σ=some (v,true)):σ=DD v:=by
 unfold I7 at h;split at h
 ·obtain⟨hr,hk⟩:=qp (qi h);obtain⟨d0,hk0⟩:=aT hk;obtain⟨d1,hk1⟩:=aT hk0;obtain rfl:=of_decide_eq_true d0;obtain rfl:=of_decide_eq_true d1;rw[←hr];rfl
 ·simp at h
theorem aLC:bN (lL true true 1 [4,5,34,35,36] I8 I7 DD x8 2097152) (dI R 1 2097152 (.loop [4,5,34,35,36] PF)):=cH (bO I4 (bH (l:=[]) (by kernel_rfl) trivial)) aLB aLA
def aLD:Lp:=(37,lL true true 1 [4,5,34,35,36] I8 I7 DD x8 2097152)::VC
def DE(v:V149_1):V149_1:=(hid (cB x8 2097152 v)).getD v
def QJ(v:V149_1):Bool:=(hid (cB x8 2097152 v)).isSome
section
variable(a:aB)
def gF:V149_0:=(DC (V149_0.mk (bF 30 a).1 (dD 2 (bF 30 a).2) (List.replicate 384 (aH 0)) 384 0))
def I9:Nat:=(ln (QH (AD (gF a).b0).2).1)
def DF:Bool:=((e1 (ln (gF a).s5))&&((e1 (I9 a))&&true))
def DG:V149_1:=(DE (V149_1.mk (AD (gF a).b0).1 (gF a).s4 (gF a).s5 (QH (AD (gF a).b0).2).1 (aX (QH (AD (gF a).b0).2).1) 0))
def QK:Bool:=((e1 (ln (DG a).s5))&&true)
end
def aDA(a:aB):Pt (aB×List Row×Int):=(.ok true (.ok ((jV 30 a)&&true) (.ok true (.ok true (.ok true (.ok true (.ok (QI (V149_0.mk (bF 30 a).1 (dD 2 (bF 30 a).2) (List.replicate 384 (aH 0)) 384 0)) (.ok ((aRO (gF a).b0)&&((((e1 (ln (AD (gF a).b0).2))&&true)&&(aRR (AD (gF a).b0).2))&&true)) (.ok ((iE (0+(I9 a)) (I9 a))&&true) (.ok (((DF a)&&(DF a))&&((DF a)&&true)) (.ok (DF a) (.ok (QJ (V149_1.mk (AD (gF a).b0).1 (gF a).s4 (gF a).s5 (QH (AD (gF a).b0).2).1 (aX (QH (AD (gF a).b0).2).1) 0)) (.ok true (.ok ((QK a)&&(QK a)) (.leaf ((DG a).b0,(DG a).s5,(DG a).s4))))))))))))))))
def kT(a:aB):aB×List Row×Int:=hid (aDA a).val
def aRS(a:aB):Bool:=hid (aDA a).okv
def a1F(a:aB)(r:aB×List Row×Int):SV×List Blk:=((.tup [(.one (.sl 1 0 (ln r.2.1))),(.one (li r.2.2))]),[.box [.imm true 1 r.1.fcode,li r.1.fat, .lit (.int .u64 r.1.fseed)], .lst 1 r.2.1])
def q149:=DS0 (fun a=>a1F a (kT a)) aRS
theorem a1G:dN (fun live x=>bN (hX aLD (gK x)) (dI R 1 2097152 (.loop live x))) F149.body:=(bH (l:=[([0,4,5,16,17],PE),([4,5,34,35,36],PF)]) (by kernel_rfl) ⟨dK (n:=18) (by kernel_rfl) fun σ σr t h ho hl=>aK9 σ σr t h ho hl,dK (n:=37) (by kernel_rfl) fun σ σr t h ho hl=>aLC σ σr t h ho hl,trivial⟩)
theorem a79:bX 149 q149:=sE fun a hk=>UN aZA I4 a1G [(26,K0),(39,K0),(40,K0),(56,K0),(65,K0),(1000003,[])] [] true (aDA a) (a1F a) hk
def Q149:=aV 149 q149 Q201
theorem VD:QO Q149:=aG a79 I4
def AS9:List SV:=[]
def HS9:List Blk:=[]
def DS9(N:SV×List Blk)(K:Bool):List SV→List Blk→Option ((SV×List Blk)×Bool)
 |[],[]=>some (N,K)
 |_,_=>none
theorem a1H{N:SV×List Blk}{K:Bool}{f:Nat}(h:K=true→cF R f AS9 HS9=some N):bX f (DS9 N K):=fun args hp r e=>by
 unfold DS9 at e;split at e
 ·obtain⟨hr,hk⟩:=qp (qi e);rw[←hr];exact h hk
 ·simp at e
def T94:Pt (aI):=(.ok true (.ok true (.ok true (.leaf (aI.mk [(aH 0),(aH 0),(aH 0),(aH 0)] [(aH 0),(aH 0),(aH 0),(aH 0)] 0 0 0 7 true false)))))
def OB:aI:=hid (T94).val
def k94:Bool:=hid (T94).okv
def n94(r:aI):SV×List Blk:=((.agg [.sl 0 0 (ln r.D), .sl 1 0 (ln r.A),li r.Other,li r.PC,li r.Flags,li r.Mask, .lit (.bool r.Super), .lit (.bool r.Trace)]),[.lst 1 r.D, .lst 1 r.A])
def q94:=DS9 (n94 (OB)) k94
theorem t94:bX 94 q94:=a1H fun hk=>tc a7F VD [] [] true T94 n94 hk
def Q94:=aV 94 q94 Q149
theorem QL:QO Q94:=aG t94 VD
def K6:List Kd:=[.imm 1, .imm 1, .int .i64, .int .i64, .int .i64, .int .i64, .bool, .bool]
structure V150_0 where
 mk::
 (b0:aB)
 (b1:aI)
 (b2:aI)
 (s4:Int)
section
variable(v:V150_0)
def nP:Bool:=(((FY [(aH 0),(aH 1),(aH 2),(aH 5),(aH 128),(aH 255),(aH 32768),(aH 65535)] v.b0)&&(((leI 0 v.s4)&&(ltI v.s4 (aX v.b2.D)))&&(((blt (0+(iN v.s4)) (ln v.b2.D))&&(gD (gE v.b2.D (0+(iN v.s4))) 1))&&true)))&&true)
def gS:aB×Int:=(wB [(aH 0),(aH 1),(aH 2),(aH 5),(aH 128),(aH 255),(aH 32768),(aH 65535)] v.b0)
def uB:Bool:=((s1 (ln v.b1.D))&&((s1 (ln v.b1.A))&&((s1 v.b1.Other)&&((s1 v.b1.PC)&&((s1 v.b1.Flags)&&((s1 v.b1.Mask)&&((s1 v.b1.Super)&&((s1 v.b1.Trace)&&true))))))))
def uC:Bool:=((s1 (ln v.b2.D))&&((s1 (ln v.b2.A))&&((s1 v.b2.Other)&&((s1 v.b2.PC)&&((s1 v.b2.Flags)&&((s1 v.b2.Mask)&&((s1 v.b2.Super)&&((s1 v.b2.Trace)&&true))))))))
def kO:List Row:=(List.set v.b2.D (0+(iN v.s4)) (aH (gS v).2))
def uD:Bool:=(r1 [(aH 0),(aH 1),(aH 2),(aH 5),(aH 128),(aH 255),(aH 32768),(aH 65535)])
def uE:Bool:=(((s1 v.s4)&&true)&&((((s1 true)&&(r1 (gS v).1.fcode))&&((s1 (gS v).1.fat)&&((s1 (gS v).1.fseed)&&true)))&&((uB v)&&((uC v)&&((r1 v.b1.D)&&((r1 v.b1.A)&&((r1 (kO v))&&((r1 v.b2.A)&&(uD&&true)))))))))
def nQ:Bool:=(((FY [(aH 0),(aH 2),(aH 20),(aH 40),(aH 100),(aH 300),(aH 301),(aH 384),(aH 448),(aH 500),(aH 65534)] (gS v).1)&&(((leI 0 v.s4)&&(ltI v.s4 (aX v.b2.A)))&&(((blt (0+(iN v.s4)) (ln v.b2.A))&&(gD (gE v.b2.A (0+(iN v.s4))) 1))&&true)))&&true)
def iL:aB×Int:=(wB [(aH 0),(aH 2),(aH 20),(aH 40),(aH 100),(aH 300),(aH 301),(aH 384),(aH 448),(aH 500),(aH 65534)] (gS v).1)
def nS:List Row:=(List.set v.b2.A (0+(iN v.s4)) (aH (iL v).2))
def pQ:Bool:=((((s1 true)&&(r1 (iL v).1.fcode))&&((s1 (iL v).1.fat)&&((s1 (iL v).1.fseed)&&true)))&&((uB v)&&((uC v)&&((r1 v.b1.D)&&((r1 v.b1.A)&&((r1 (kO v))&&((r1 (nS v))&&(uD&&((r1 [(aH 0),(aH 2),(aH 20),(aH 40),(aH 100),(aH 300),(aH 301),(aH 384),(aH 448),(aH 500),(aH 65534)])&&true)))))))))
def pR:Bool:=((e1 (ln v.b1.D))&&((e1 (ln v.b1.A))&&true))
def pS:Bool:=((dR (ln v.b2.D) (ln (kO v)))&&((dR (ln v.b2.A) (ln (nS v)))&&true))
end
def x9(v:V150_0):Pt (Option V150_0):=(.ok true (.br (ltI v.s4 4) (.ok ((nP v)&&(((nP v)&&((nP v)&&(uE v)))&&(uE v))) (.ok ((nQ v)&&(((nQ v)&&((nQ v)&&(((s1 v.s4)&&true)&&(pQ v))))&&(((s1 v.s4)&&true)&&(pQ v)))) (.ok true (.ok ((((pR v)&&(((e1 (ln v.b2.D))&&((e1 (ln v.b2.A))&&true))&&((e1 (ln v.b1.D))&&((e1 (ln v.b1.A))&&(pS v)))))&&true)&&((pR v)&&((pS v)&&true))) (.leaf (some (V150_0.mk (iL v).1 v.b1 {v.b2 with D:=(kO v),A:=(nS v)} (aR v.s4 1)))))))) (.leaf none)))
def DH(v:V150_0):St:=⟨[(0,(.one (.ptr 0 0 0))),(2,(.one (.ptr 1 0 0))),(3,(.one (.ptr 2 0 0))),(4,(.one (li v.s4)))],[.box [.imm true 1 v.b0.fcode,li v.b0.fat, .lit (.int .u64 v.b0.fseed)], .box [.sl 3 0 (ln v.b1.D), .sl 4 0 (ln v.b1.A),li v.b1.Other,li v.b1.PC,li v.b1.Flags,li v.b1.Mask, .lit (.bool v.b1.Super), .lit (.bool v.b1.Trace)], .box [.sl 5 0 (ln v.b2.D), .sl 6 0 (ln v.b2.A),li v.b2.Other,li v.b2.PC,li v.b2.Flags,li v.b2.Mask, .lit (.bool v.b2.Super), .lit (.bool v.b2.Trace)], .lst 1 v.b1.D, .lst 1 v.b1.A, .lst 1 v.b2.D, .lst 1 v.b2.A]⟩
def JA:St→Option (V150_0×Bool)
 |⟨[(0,(.one (.ptr 0 0 0))),(2,(.one (.ptr 1 0 0))),(3,(.one (.ptr 2 0 0))),(4,(.one (li c15)))],[.box [.imm true 1 c0,li c1, .lit (.int .u64 c2)], .box [.sl 3 0 l3, .sl 4 0 l4,li c3,li c4,li c5,li c6, .lit (.bool c7), .lit (.bool c8)], .box [.sl 5 0 l5, .sl 6 0 l6,li c9,li c10,li c11,li c12, .lit (.bool c13), .lit (.bool c14)], .lst 1 c_3, .lst 1 c_4, .lst 1 c_5, .lst 1 c_6]⟩=>some ((V150_0.mk (aB.mk c0 c1 c2) (aI.mk c_3 c_4 c3 c4 c5 c6 c7 c8) (aI.mk c_5 c_6 c9 c10 c11 c12 c13 c14) c15),dR l3 (ln c_3)&&(dR l4 (ln c_4)&&(dR l5 (ln c_5)&&(dR l6 (ln c_6)&&(true)))))
 |_=>none
def JB:St→Option (Pt Out):=mV Q94 [(11,K1),(16,K0),(18,K1),(23,K0),(25,K1),(29,K0),(56,K1),(57,K0),(61,K6),(1000001,[]),(1000003,[])] [] true [] 1 2097152 PG
theorem aLE(v:V150_0):((JB (DH v)).bind (jS true true 1 [0,2,3,4]))=some ((x9 v).map (Option.map DH)):=by kernel_rfl
theorem aLF(σ:St)(v:V150_0)(h:JA σ=some (v,true)):σ=DH v:=by
 unfold JA at h;split at h
 ·obtain⟨hr,hk⟩:=qp (qi h);obtain⟨d0,hk0⟩:=aT hk;obtain⟨d1,hk1⟩:=aT hk0;obtain⟨d2,hk2⟩:=aT hk1;obtain⟨d3,hk3⟩:=aT hk2;obtain rfl:=of_decide_eq_true d0;obtain rfl:=of_decide_eq_true d1;obtain rfl:=of_decide_eq_true d2;obtain rfl:=of_decide_eq_true d3;rw[←hr];rfl
 ·simp at h
theorem aLG:bN (lL true true 1 [0,2,3,4] JB JA DH x9 2097152) (dI R 1 2097152 (.loop [0,2,3,4] PG)):=cH (bO QL (bH (l:=[]) (by kernel_rfl) trivial)) aLF aLE
def aLH:Lp:=(6,lL true true 1 [0,2,3,4] JB JA DH x9 2097152)::[]
def JC(v:V150_0):V150_0:=(hid (cB x9 2097152 v)).getD v
def QM(v:V150_0):Bool:=(hid (cB x9 2097152 v)).isSome
section
variable(a:aB)
def DI:Bool:=((e1 (ln (OB).D))&&((e1 (ln (OB).A))&&true))
def cI:V150_0:=(JC (V150_0.mk a (aI.mk [] [] 0 0 0 0 false false) (OB) 0))
def JD:Bool:=(((FY [(aH 200),(aH 202),(aH 380),(aH 65534),(aH 0),(aH 301)] (cI a).b0)&&((ltI 3 (aX (cI a).b2.A))&&(((blt 3 (ln (cI a).b2.A))&&(gD (gE (cI a).b2.A 3) 1))&&true)))&&true)
def uF:aB×Int:=(wB [(aH 200),(aH 202),(aH 380),(aH 65534),(aH 0),(aH 301)] (cI a).b0)
def yA:List Row:=(List.set (cI a).b2.A 3 (aH (uF a).2))
def aDB:Bool:=(((s1 (ln (cI a).b2.D))&&((s1 (ln (cI a).b2.A))&&((s1 (cI a).b2.Other)&&((s1 (cI a).b2.PC)&&((s1 (cI a).b2.Flags)&&((s1 (cI a).b2.Mask)&&((s1 (cI a).b2.Super)&&((s1 (cI a).b2.Trace)&&true))))))))&&((r1 (cI a).b1.D)&&((r1 (cI a).b1.A)&&((r1 (cI a).b2.D)&&((r1 (yA a))&&((r1 [(aH 200),(aH 202),(aH 380),(aH 65534),(aH 0),(aH 301)])&&true))))))
def QN:Bool:=((((s1 true)&&(r1 (uF a).1.fcode))&&((s1 (uF a).1.fat)&&((s1 (uF a).1.fseed)&&true)))&&(((s1 (ln (cI a).b1.D))&&((s1 (ln (cI a).b1.A))&&((s1 (cI a).b1.Other)&&((s1 (cI a).b1.PC)&&((s1 (cI a).b1.Flags)&&((s1 (cI a).b1.Mask)&&((s1 (cI a).b1.Super)&&((s1 (cI a).b1.Trace)&&true))))))))&&(aDB a)))
def yB:aB×Int:=(wB [(aH 300),(aH 0),(aH 447)] (uF a).1)
def lZ:aB×Int:=(wB [(aH 0),(aH 2),(aH 10),(aH 40),(aH 384),(aH 3),(aH 448)] (yB a).1)
def nT:aB×Int:=(bF 8 (bF 32 (lZ a).1).1)
def iX:aB×Bool:=(eT 8 (eT 3 (nT a).1).1)
def JE:List Row:=(List.set (cI a).b2.D 0 (aH 65536))
def JF:Bool:=((dR (ln (cI a).b2.A) (ln (yA a)))&&true)
def JG:Bool:=((dR (ln (cI a).b2.D) (ln (JE a)))&&(JF a))
def JH:Bool:=(((e1 (ln (cI a).b2.D))&&((e1 (ln (cI a).b2.A))&&true))&&true)
def JI:Bool:=((e1 (ln (cI a).b2.D))&&(JF a))
def JJ:Bool:=(((JI a)&&(JH a))&&((JI a)&&true))
end
def aDC(a:aB):Pt (aB×aI):=(.ok true (.ok ((k94)&&true) (.ok true (.ok (((DI&&DI)&&true)&&(DI&&true)) (.ok DI (.ok (QM (V150_0.mk a (aI.mk [] [] 0 0 0 0 false false) (OB) 0)) (.ok ((JD a)&&(((JD a)&&((JD a)&&(QN a)))&&(QN a))) (.ok ((FY [(aH 300),(aH 0),(aH 447)] (uF a).1)&&true) (.ok ((FY [(aH 0),(aH 2),(aH 10),(aH 40),(aH 384),(aH 3),(aH 448)] (yB a).1)&&true) (.ok ((jV 32 (lZ a).1)&&true) (.ok ((jV 8 (bF 32 (lZ a).1).1)&&true) (.ok ((HD 3 (nT a).1)&&true) (.ok ((HD 8 (eT 3 (nT a).1).1)&&true) (.ok ((jV 60 (iX a).1)&&true) (.ok true (.br (eqI (bF 60 (iX a).1).2 0) (.ok ((ltI 0 (aX (cI a).b2.D))&&(((blt 0 (ln (cI a).b2.D))&&(gD (gE (cI a).b2.D 0) 1))&&true)) (.ok true (.ok (((JG a)&&(JH a))&&((JG a)&&true)) (.leaf ((bF 60 (iX a).1).1,(aI.mk (JE a) (yA a) (yB a).2 (lZ a).2 (bF 32 (lZ a).1).2 (nT a).2 (!(eT 3 (nT a).1).2) (iX a).2)))))) (.ok true (.br (eqI (bF 60 (iX a).1).2 1) (.ok true (.ok true (.ok (JJ a) (.leaf ((bF 60 (iX a).1).1,(aI.mk (cI a).b2.D (yA a) (yB a).2 (lZ a).2 (bF 32 (lZ a).1).2 8 (!(eT 3 (nT a).1).2) (iX a).2)))))) (.ok true (.ok (JJ a) (.leaf ((bF 60 (iX a).1).1,(aI.mk (cI a).b2.D (yA a) (yB a).2 (lZ a).2 (bF 32 (lZ a).1).2 (nT a).2 (!(eT 3 (nT a).1).2) (iX a).2)))))))))))))))))))))))
def AE(a:aB):aB×aI:=hid (aDC a).val
def aRT(a:aB):Bool:=hid (aDC a).okv
def a1J(a:aB)(r:aB×aI):SV×List Blk:=((.agg [.sl 1 0 (ln r.2.D), .sl 2 0 (ln r.2.A),li r.2.Other,li r.2.PC,li r.2.Flags,li r.2.Mask, .lit (.bool r.2.Super), .lit (.bool r.2.Trace)]),[.box [.imm true 1 r.1.fcode,li r.1.fat, .lit (.int .u64 r.1.fseed)], .lst 1 r.2.D, .lst 1 r.2.A])
def q150:=DS0 (fun a=>a1J a (AE a)) aRT
theorem a1K:dN (fun live x=>bN (hX aLH (gK x)) (dI R 1 2097152 (.loop live x))) F150.body:=(bH (l:=[([0,2,3,4],PG)]) (by kernel_rfl) ⟨dK (n:=6) (by kernel_rfl) fun σ σr t h ho hl=>aLG σ σr t h ho hl,trivial⟩)
theorem a8B:bX 150 q150:=sE fun a hk=>UN aZB QL a1K [(11,K1),(16,K0),(18,K1),(23,K0),(25,K1),(29,K0),(56,K1),(57,K0),(61,K6),(1000001,[]),(1000003,[])] [] true (aDC a) (a1J a) hk
def Q150:=aV 150 q150 Q94
theorem JK:QO Q150:=aG a8B QL
def a8C(a:List Row):List SV:=[(.one (.imm false 1 a))]
def a8D(a:List Row):List Blk:=[]
def aRU(N:List Row→SV×List Blk)(K:List Row→Bool):List SV→List Blk→Option ((SV×List Blk)×Bool)
 |[(.one (.imm false 1 c0))],[]=>some (N c0,K c0)
 |_,_=>none
theorem aRV{N:List Row→SV×List Blk}{K:List Row→Bool}{f:Nat}(h: ∀(a:List Row),K a=true→cF R f (a8C a) (a8D a)=some (N a)):bX f (aRU N K):=fun _ _ _ e=>by
 unfold aRU at e;split at e
 ·exact mQ e (h _)
 ·cases e
structure V164_0 where
 mk::
 (s5:List Row)
 (s6:Int)
 (s7:Int)
def yC(v:V164_0):Pt (Option V164_0):=(.ok true (.br (ltI v.s7 v.s6) (.ok ((dJ [.int .i64] v.s5 v.s7)&&true) (.ok ((lX (aU v.s5 (iN v.s7) 0) 0 255)&&true) (.br (!(jW (aU v.s5 (iN v.s7) 0) 0 255)) (.ok true (.leaf none)) (.ok true (.ok true (.leaf (some {v with s7:=(aR v.s7 1)}))))))) (.leaf none)))
def DJ(v:V164_0):St:=⟨[(5,(.one (.imm false 1 v.s5))),(6,(.one (li v.s6))),(7,(.one (li v.s7)))],[]⟩
def JL:St→Option (V164_0×Bool)
 |⟨[(5,(.one (.imm false 1 c0))),(6,(.one (li c1))),(7,(.one (li c2)))],[]⟩=>some ((V164_0.mk c0 c1 c2),true)
 |_=>none
def JM:St→Option (Pt Out):=mV Q150 [(9,K0),(10,K0)] [] true [] 0 2097152 xR
theorem aLI(v:V164_0):((JM (DJ v)).bind (jS true false 0 [5,6,7]))=some ((yC v).map (Option.map DJ)):=by kernel_rfl
theorem aLJ(σ:St)(v:V164_0)(h:JL σ=some (v,true)):σ=DJ v:=by
 unfold JL at h;split at h
 ·obtain⟨hr,hk⟩:=qp (qi h);rw[←hr];rfl
 ·simp at h
theorem aLK:bN (lL true false 0 [5,6,7] JM JL DJ yC 2097152) (dI R 0 2097152 (.loop [5,6,7] xR)):=cH (bO JK (bH (l:=[]) (by kernel_rfl) trivial)) aLJ aLI
def aLL:Lp:=(8,lL true false 0 [5,6,7] JM JL DJ yC 2097152)::[]
def JN(v:V164_0):V164_0:=(hid (cB yC 2097152 v)).getD v
def QP(v:V164_0):Bool:=(hid (cB yC 2097152 v)).isSome
section
variable(a:List Row)
def QQ:V164_0:=(JN (V164_0.mk a (aX a) 0))
end
def aLM(a:List Row):Pt (Bool):=(.ok true (.ok true (.ok true (.ok true (.ok (QP (V164_0.mk a (aX a) 0)) (.br (ltI (QQ a).s7 (QQ a).s6) (.ok true (.ok true (.leaf false))) (.ok true (.ok true (.ok true (.leaf true))))))))))
def ZL(a:List Row):Bool:=hid (aLM a).val
def aDD(a:List Row):Bool:=hid (aLM a).okv
def wG(a:List Row)(r:Bool):SV×List Blk:=((.one (.lit (.bool r))),[])
def q164:=aRU (fun a=>wG a (ZL a)) aDD
theorem a1L:dN (fun live x=>bN (hX aLL (gK x)) (dI R 0 2097152 (.loop live x))) F164.body:=(bH (l:=[([5,6,7],xR)]) (by kernel_rfl) ⟨dK (n:=8) (by kernel_rfl) fun σ σr t h ho hl=>aLK σ σr t h ho hl,trivial⟩)
theorem a8E:bX 100164 q164:=aRV fun a hk=>tzl aPG JK a1L [(9,K0),(10,K0)] [] true (aLM a) (wG a) hk
def Q164:=aV 100164 q164 Q150
theorem AP:QO Q164:=aG a8E JK
def K7:List Kd:=[.imm 1, .imm 5]
def a8F(a:List Row)(b:List Row):List SV:=[(.one (.imm false 1 a)),(.one (.imm false 1 b))]
def a8G(a:List Row)(b:List Row):List Blk:=[]
def aRW(N:List Row→List Row→SV×List Blk)(K:List Row→List Row→Bool):List SV→List Blk→Option ((SV×List Blk)×Bool)
 |[(.one (.imm false 1 c0)),(.one (.imm false 1 c1))],[]=>some (N c0 c1,K c0 c1)
 |_,_=>none
theorem aRX{N:List Row→List Row→SV×List Blk}{K:List Row→List Row→Bool}{f:Nat}(h: ∀(a:List Row)(b:List Row),K a b=true→cF R f (a8F a b) (a8G a b)=some (N a b)):bX f (aRW N K):=fun _ _ _ e=>by
 unfold aRW at e;split at e
 ·exact mQ e (h _ _)
 ·cases e
structure V93_0 where
 mk::
 (b0:aO)
 (b1:aO)
 (s1:List Row)
 (s32:List Row)
 (s33:Int)
 (s34:Int)
section
variable(v:V93_0)
def yD:Bool:=((e1 (ln v.b0.Bytes))&&((e1 (ln v.b0.Log))&&true))
def yE:List Row:=(List.set v.b1.Bytes (0+(iN v.s34)) (aH (aU v.s32 (iN v.s34) 0)))
def yF:Bool:=((dR (ln v.b1.Bytes) (ln (yE v)))&&((e1 (ln v.b1.Log))&&true))
end
def zU(v:V93_0):Pt (Option V93_0):=(.ok true (.br (ltI v.s34 v.s33) (.ok ((dJ [.int .i64] v.s32 v.s34)&&true) (.ok (((leI 0 v.s34)&&(ltI v.s34 (aX v.b1.Bytes)))&&(((blt (0+(iN v.s34)) (ln v.b1.Bytes))&&(gD (gE v.b1.Bytes (0+(iN v.s34))) 1))&&true)) (.ok true (.ok ((((yD v)&&(((e1 (ln v.b1.Bytes))&&((e1 (ln v.b1.Log))&&true))&&((e1 (ln v.b0.Bytes))&&((e1 (ln v.b0.Log))&&(yF v)))))&&true)&&((yD v)&&((yF v)&&true))) (.leaf (some {v with b1:={v.b1 with Bytes:=(yE v)},s34:=(aR v.s34 1)})))))) (.leaf none)))
def M8(v:V93_0):St:=⟨[(1,(.one (.imm false 1 v.s1))),(4,(.one (.ptr 0 0 0))),(6,(.one (.ptr 1 0 0))),(32,(.one (.imm false 1 v.s32))),(33,(.one (li v.s33))),(34,(.one (li v.s34)))],[.box [.sl 2 0 (ln v.b0.Bytes), .sl 3 0 (ln v.b0.Log)], .box [.sl 4 0 (ln v.b1.Bytes), .sl 5 0 (ln v.b1.Log)], .lst 1 v.b0.Bytes, .lst 5 v.b0.Log, .lst 1 v.b1.Bytes, .lst 5 v.b1.Log]⟩
def VE:St→Option (V93_0×Bool)
 |⟨[(1,(.one (.imm false 1 c0))),(4,(.one (.ptr 0 0 0))),(6,(.one (.ptr 1 0 0))),(32,(.one (.imm false 1 c1))),(33,(.one (li c2))),(34,(.one (li c3)))],[.box [.sl 2 0 l2, .sl 3 0 l3], .box [.sl 4 0 l4, .sl 5 0 l5], .lst 1 c_2, .lst 5 c_3, .lst 1 c_4, .lst 5 c_5]⟩=>some ((V93_0.mk (aO.mk c_2 c_3) (aO.mk c_4 c_5) c0 c1 c2 c3),dR l2 (ln c_2)&&(dR l3 (ln c_3)&&(dR l4 (ln c_4)&&(dR l5 (ln c_5)&&(true)))))
 |_=>none
def QR:St→Option (Pt Out):=mV Q164 [(37,K0),(38,K0),(40,K1),(43,K0),(50,K0),(51,K0),(53,K1),(57,K0),(59,K7),(1000003,[])] [] true [] 0 2097152 aCO
theorem aRY(v:V93_0):((QR (M8 v)).bind (jS true true 0 [1,4,6,32,33,34]))=some ((zU v).map (Option.map M8)):=by kernel_rfl
theorem aRZ(σ:St)(v:V93_0)(h:VE σ=some (v,true)):σ=M8 v:=by
 unfold VE at h;split at h
 ·obtain⟨hr,hk⟩:=qp (qi h);obtain⟨d0,hk0⟩:=aT hk;obtain⟨d1,hk1⟩:=aT hk0;obtain⟨d2,hk2⟩:=aT hk1;obtain⟨d3,hk3⟩:=aT hk2;obtain rfl:=of_decide_eq_true d0;obtain rfl:=of_decide_eq_true d1;obtain rfl:=of_decide_eq_true d2;obtain rfl:=of_decide_eq_true d3;rw[←hr];rfl
 ·simp at h
theorem aR0:bN (lL true true 0 [1,4,6,32,33,34] QR VE M8 zU 2097152) (dI R 0 2097152 (.loop [1,4,6,32,33,34] aCO)):=cH (bO AP (bH (l:=[]) (by kernel_rfl) trivial)) aRZ aRY
def aDE:Lp:=(35,lL true true 0 [1,4,6,32,33,34] QR VE M8 zU 2097152)::[]
def aPR(v:V93_0):V93_0:=(hid (cB zU 2097152 v)).getD v
def aPS(v:V93_0):Bool:=(hid (cB zU 2097152 v)).isSome
structure V93_1 where
 mk::
 (b0:aO)
 (b1:aO)
 (s45:List Row)
 (s46:Int)
 (s47:Int)
section
variable(v:V93_1)
def yG:Bool:=((e1 (ln v.b0.Bytes))&&((e1 (ln v.b0.Log))&&true))
def yH:List Row:=(List.set v.b1.Bytes (0+(iN (aR 384 v.s47))) (aH (aU v.s45 (iN v.s47) 0)))
def yI:Bool:=((dR (ln v.b1.Bytes) (ln (yH v)))&&((e1 (ln v.b1.Log))&&true))
end
def zV(v:V93_1):Pt (Option V93_1):=(.ok true (.br (ltI v.s47 v.s46) (.ok ((dJ [.int .i64] v.s45 v.s47)&&true) (.ok (((leI 0 (aR 384 v.s47))&&(ltI (aR 384 v.s47) (aX v.b1.Bytes)))&&(((blt (0+(iN (aR 384 v.s47))) (ln v.b1.Bytes))&&(gD (gE v.b1.Bytes (0+(iN (aR 384 v.s47)))) 1))&&true)) (.ok true (.ok ((((yG v)&&(((e1 (ln v.b1.Bytes))&&((e1 (ln v.b1.Log))&&true))&&((e1 (ln v.b0.Bytes))&&((e1 (ln v.b0.Log))&&(yI v)))))&&true)&&((yG v)&&((yI v)&&true))) (.leaf (some {v with b1:={v.b1 with Bytes:=(yH v)},s47:=(aR v.s47 1)})))))) (.leaf none)))
def M9(v:V93_1):St:=⟨[(4,(.one (.ptr 0 0 0))),(6,(.one (.ptr 1 0 0))),(45,(.one (.imm false 1 v.s45))),(46,(.one (li v.s46))),(47,(.one (li v.s47)))],[.box [.sl 2 0 (ln v.b0.Bytes), .sl 3 0 (ln v.b0.Log)], .box [.sl 4 0 (ln v.b1.Bytes), .sl 5 0 (ln v.b1.Log)], .lst 1 v.b0.Bytes, .lst 5 v.b0.Log, .lst 1 v.b1.Bytes, .lst 5 v.b1.Log]⟩
def VF:St→Option (V93_1×Bool)
 |⟨[(4,(.one (.ptr 0 0 0))),(6,(.one (.ptr 1 0 0))),(45,(.one (.imm false 1 c0))),(46,(.one (li c1))),(47,(.one (li c2)))],[.box [.sl 2 0 l2, .sl 3 0 l3], .box [.sl 4 0 l4, .sl 5 0 l5], .lst 1 c_2, .lst 5 c_3, .lst 1 c_4, .lst 5 c_5]⟩=>some ((V93_1.mk (aO.mk c_2 c_3) (aO.mk c_4 c_5) c0 c1 c2),dR l2 (ln c_2)&&(dR l3 (ln c_3)&&(dR l4 (ln c_4)&&(dR l5 (ln c_5)&&(true)))))
 |_=>none
def QS:St→Option (Pt Out):=mV Q164 [(37,K0),(38,K0),(40,K1),(43,K0),(50,K0),(51,K0),(53,K1),(57,K0),(59,K7),(1000003,[])] [] true aDE 0 2097152 aCP
theorem aR1(v:V93_1):((QS (M9 v)).bind (jS true true 0 [4,6,45,46,47]))=some ((zV v).map (Option.map M9)):=by kernel_rfl
theorem aR2(σ:St)(v:V93_1)(h:VF σ=some (v,true)):σ=M9 v:=by
 unfold VF at h;split at h
 ·obtain⟨hr,hk⟩:=qp (qi h);obtain⟨d0,hk0⟩:=aT hk;obtain⟨d1,hk1⟩:=aT hk0;obtain⟨d2,hk2⟩:=aT hk1;obtain⟨d3,hk3⟩:=aT hk2;obtain rfl:=of_decide_eq_true d0;obtain rfl:=of_decide_eq_true d1;obtain rfl:=of_decide_eq_true d2;obtain rfl:=of_decide_eq_true d3;rw[←hr];rfl
 ·simp at h
theorem aR3:bN (lL true true 0 [4,6,45,46,47] QS VF M9 zV 2097152) (dI R 0 2097152 (.loop [4,6,45,46,47] aCP)):=cH (bO AP (bH (l:=[]) (by kernel_rfl) trivial)) aR2 aR1
def aR4:Lp:=(48,lL true true 0 [4,6,45,46,47] QS VF M9 zV 2097152)::aDE
def VG(v:V93_1):V93_1:=(hid (cB zV 2097152 v)).getD v
def aPT(v:V93_1):Bool:=(hid (cB zV 2097152 v)).isSome
section
variable(a:List Row)(b:List Row)
def gB:V93_0:=(aPR (V93_0.mk (aO.mk [] []) (aO.mk (List.replicate 512 (aH 0)) []) b a (aX a) 0))
def aDF:Bool:=(e1 (ln (gB a b).b0.Bytes))
def aDG:Bool:=((aDF a b)&&((e1 (ln (gB a b).b0.Log))&&true))
def VH:Bool:=((e1 (ln (gB a b).b1.Bytes))&&((e1 (ln (gB a b).b1.Log))&&true))
def aDH:Bool:=((aDF a b)&&((e1 (ln (gB a b).b0.Log))&&(VH a b)))
def aPU:Nat:=(ln (VG (V93_1.mk (gB a b).b0 (gB a b).b1 (gB a b).s1 (aX (gB a b).s1) 0)).b1.Bytes)
def aPV:Nat:=(ln (VG (V93_1.mk (gB a b).b0 (gB a b).b1 (gB a b).s1 (aX (gB a b).s1) 0)).b1.Log)
def aDI:Bool:=((e1 (aPU a b))&&((e1 (aPV a b))&&true))
end
def T93(a:List Row)(b:List Row):Pt (aO×Bool):=(.ok true (.ok ((aDD a)&&((((aDD b)&&true)||(!(ZL a)))&&true)) (.br (bif (bif (bif (!(ZL a))then true else(!(ZL b)))then true else(kK (aX a) 384))then true else(kK (aX b) 64)) (.ok true (.ok true (.leaf ((aO.mk [] []),false)))) (.ok true (.ok true (.ok true (.ok true (.ok (aPS (V93_0.mk (aO.mk [] []) (aO.mk (List.replicate 512 (aH 0)) []) b a (aX a) 0)) (.ok true (.ok ((((aDG a b)&&((VH a b)&&(aDH a b)))&&true)&&((aDG a b)&&((VH a b)&&true))) (.ok (aDH a b) (.ok (aPT (V93_1.mk (gB a b).b0 (gB a b).b1 (gB a b).s1 (aX (gB a b).s1) 0)) (.ok true (.ok ((aDI a b)&&((aDI a b)&&true)) (.leaf ((VG (V93_1.mk (gB a b).b0 (gB a b).b1 (gB a b).s1 (aX (gB a b).s1) 0)).b1,true))))))))))))))))
def g93(a:List Row)(b:List Row):aO×Bool:=hid (T93 a b).val
def k93(a:List Row)(b:List Row):Bool:=hid (T93 a b).okv
def n93(a:List Row)(b:List Row)(r:aO×Bool):SV×List Blk:=((.tup [(.agg [.sl 0 0 (ln r.1.Bytes), .sl 1 0 (ln r.1.Log)]),(.one (.lit (.bool r.2)))]),[.lst 1 r.1.Bytes, .lst 5 r.1.Log])
def q93:=aRW (fun a b=>n93 a b (g93 a b)) k93
theorem a8H:dN (fun live x=>bN (hX aR4 (gK x)) (dI R 0 2097152 (.loop live x))) F93.body:=(bH (l:=[([1,4,6,32,33,34],aCO),([4,6,45,46,47],aCP)]) (by kernel_rfl) ⟨dK (n:=35) (by kernel_rfl) fun σ σr t h ho hl=>aR0 σ σr t h ho hl,dK (n:=48) (by kernel_rfl) fun σ σr t h ho hl=>aR3 σ σr t h ho hl,trivial⟩)
theorem t93:bX 93 q93:=aRX fun a b hk=>UN a7E AP a8H [(37,K0),(38,K0),(40,K1),(43,K0),(50,K0),(51,K0),(53,K1),(57,K0),(59,K7),(1000003,[])] [] true (T93 a b) (n93 a b) hk
def Q93:=aV 93 q93 Q164
theorem aDJ:QO Q93:=aG t93 AP
def a8I(a:List Row)(b:Int):List SV:=[(.one (.imm false 1 a)),(.one (li b))]
def a8J(a:List Row)(b:Int):List Blk:=[]
def aR5(N:List Row→Int→SV×List Blk)(K:List Row→Int→Bool):List SV→List Blk→Option ((SV×List Blk)×Bool)
 |[(.one (.imm false 1 c0)),(.one (li c1))],[]=>some (N c0 c1,K c0 c1)
 |_,_=>none
theorem aR6{N:List Row→Int→SV×List Blk}{K:List Row→Int→Bool}{f:Nat}(h: ∀(a:List Row)(b:Int),K a b=true→cF R f (a8I a b) (a8J a b)=some (N a b)):bX f (aR5 N K):=fun _ _ _ e=>by
 unfold aR5 at e;split at e
 ·exact mQ e (h _ _)
 ·cases e
section
variable(a:List Row)
def aDK:Bool:=((e1 (ln (g93 a []).1.Bytes))&&((e1 (ln (g93 a []).1.Log))&&true))
def aDL:Bool:=((e1 (ln (OB).D))&&((dR (ln (OB).A) (ln (List.set (OB).A 3 (aH 384))))&&(aDK a)))
end
def T20(a:List Row)(b:Int):Pt (aJ×Bool):=(.ok true (.ok ((k93 a [])&&true) (.ok ((((k77 b)&&true)||(!(g93 a []).2))&&true) (.br (bif (!(g93 a []).2)then true else(!(g77 b))) (.ok true (.ok true (.leaf ((aJ.mk (aI.mk [] [] 0 0 0 0 false false) (aO.mk [] []) false false),false)))) (.ok ((k94)&&true) (.ok true (.ok ((ltI 3 (aX (OB).A))&&(((blt 3 (ln (OB).A))&&(gD (gE (OB).A 3) 1))&&true)) (.ok true (.ok (((aDL a)&&(((e1 (ln (OB).D))&&((e1 (ln (OB).A))&&(aDK a)))&&true))&&(((aDL a)&&true)&&true)) (.leaf ((aJ.mk {(OB)with A:=(List.set (OB).A 3 (aH 384)),PC:=b} (g93 a []).1 false false),true)))))))))))
def g20(a:List Row)(b:Int):aJ×Bool:=hid (T20 a b).val
def k20(a:List Row)(b:Int):Bool:=hid (T20 a b).okv
def n20(a:List Row)(b:Int)(r:aJ×Bool):SV×List Blk:=((.tup [(.agg [.sl 0 0 (ln r.1.R.D), .sl 1 0 (ln r.1.R.A),li r.1.R.Other,li r.1.R.PC,li r.1.R.Flags,li r.1.R.Mask, .lit (.bool r.1.R.Super), .lit (.bool r.1.R.Trace), .sl 2 0 (ln r.1.Bus.Bytes), .sl 3 0 (ln r.1.Bus.Log), .lit (.bool r.1.Stop), .lit (.bool r.1.Halt)]),(.one (.lit (.bool r.2)))]),[.lst 1 r.1.R.D, .lst 1 r.1.R.A, .lst 1 r.1.Bus.Bytes, .lst 5 r.1.Bus.Log])
def q20:=aR5 (fun a b=>n20 a b (g20 a b)) k20
theorem t20:bX 20 q20:=aR6 fun a b hk=>tc a6H aDJ [(26,K1),(27,K0),(28,K6),(29,K7),(1000001,[])] [] true (T20 a b) (n20 a b) hk
def Q20:=aV 20 q20 Q93
theorem aDN:QO Q20:=aG t20 aDJ
def K8:List Kd:=[.imm 1, .imm 1, .int .i64, .int .i64, .int .i64, .int .i64, .bool, .bool, .imm 1, .imm 5, .bool, .bool]
section
variable(a:aB)
def sF:aJ×Bool:=(g20 (kT a).2.1 (kT a).2.2)
def jM:aB×Int:=(bF 60 (AE (kT a).1).1)
def VI:Bool:=(e1 (ln (AE (kT a).1).2.D))
def VJ:Bool:=(e1 (ln (AE (kT a).1).2.A))
def sG:Bool:=((VI a)&&((VJ a)&&((e1 (ln (g20 [] 0).1.Bus.Bytes))&&((e1 (ln (g20 [] 0).1.Bus.Log))&&true))))
def NA:aI:={(AE (kT a).1).2 with PC:=(g20 [] 0).1.R.PC}
def sH:Bool:=((VI a)&&((VJ a)&&((e1 (ln (sF a).1.Bus.Bytes))&&((e1 (ln (sF a).1.Bus.Log))&&true))))
def NB:aI:={(AE (kT a).1).2 with PC:=(sF a).1.R.PC}
end
def T71(a:aB):Pt (aB×aJ):=(.ok true (.ok ((aRS a)&&true) (.ok ((aRT (kT a).1)&&true) (.ok ((((e1 (ln (kT a).2.1))&&true)&&(k20 (kT a).2.1 (kT a).2.2))&&true) (.ok true (.br (!(sF a).2) (.ok ((k20 [] 0)&&true) (.ok true (.ok true (.ok true (.ok ((jV 60 (AE (kT a).1).1)&&true) (.ok true (.br (eqI (jM a).2 0) (.ok true (.ok true (.ok ((sG a)&&((sG a)&&true)) (.leaf ((jM a).1,{(g20 [] 0).1 with R:=(NA a),Stop:=true}))))) (.ok true (.br (eqI (jM a).2 1) (.ok true (.ok true (.ok ((sG a)&&((sG a)&&true)) (.leaf ((jM a).1,{(g20 [] 0).1 with R:=(NA a),Halt:=true}))))) (.ok true (.br (eqI (jM a).2 2) (.ok true (.ok true (.ok ((sG a)&&((sG a)&&true)) (.leaf ((jM a).1,{(g20 [] 0).1 with R:=(AE (kT a).1).2}))))) (.ok true (.ok ((sG a)&&((sG a)&&true)) (.leaf ((jM a).1,{(g20 [] 0).1 with R:=(NA a)}))))))))))))))) (.ok true (.ok true (.ok true (.ok ((jV 60 (AE (kT a).1).1)&&true) (.ok true (.br (eqI (jM a).2 0) (.ok true (.ok true (.ok ((sH a)&&((sH a)&&true)) (.leaf ((jM a).1,{(sF a).1 with R:=(NB a),Stop:=true}))))) (.ok true (.br (eqI (jM a).2 1) (.ok true (.ok true (.ok ((sH a)&&((sH a)&&true)) (.leaf ((jM a).1,{(sF a).1 with R:=(NB a),Halt:=true}))))) (.ok true (.br (eqI (jM a).2 2) (.ok true (.ok true (.ok ((sH a)&&((sH a)&&true)) (.leaf ((jM a).1,{(sF a).1 with R:=(AE (kT a).1).2}))))) (.ok true (.ok ((sH a)&&((sH a)&&true)) (.leaf ((jM a).1,{(sF a).1 with R:=(NB a)}))))))))))))))))))))
def AQ(a:aB):aB×aJ:=hid (T71 a).val
def k71(a:aB):Bool:=hid (T71 a).okv
def n71(a:aB)(r:aB×aJ):SV×List Blk:=((.agg [.sl 1 0 (ln r.2.R.D), .sl 2 0 (ln r.2.R.A),li r.2.R.Other,li r.2.R.PC,li r.2.R.Flags,li r.2.R.Mask, .lit (.bool r.2.R.Super), .lit (.bool r.2.R.Trace), .sl 3 0 (ln r.2.Bus.Bytes), .sl 4 0 (ln r.2.Bus.Log), .lit (.bool r.2.Stop), .lit (.bool r.2.Halt)]),[.box [.imm true 1 r.1.fcode,li r.1.fat, .lit (.int .u64 r.1.fseed)], .lst 1 r.2.R.D, .lst 1 r.2.R.A, .lst 1 r.2.Bus.Bytes, .lst 5 r.2.Bus.Log])
def q71:=DS0 (fun a=>n71 a (AQ a)) k71
theorem t71:bX 71 q71:=sE fun a hk=>tc a6Y aDN [(30,K0),(31,K6),(47,K0),(50,K8)] [] true (T71 a) (n71 a) hk
def Q71:=aV 71 q71 Q20
theorem aDO:QO Q71:=aG t71 aDN
section
variable(a:aB)
def aPX:aB×Int:=(wB [(aH 0),(aH 1),(aH 127),(aH 128),(aH 255),(aH 256),(aH 32767),(aH 32768),(aH 65535),(aH 65536),(aH (-1))] (eT 2 a).1)
def VK:aB×Int:=(bF 2 (bF 256 (eT 2 a).1).1)
end
def T72(a:aB):Pt (aB×Int):=(.ok true (.ok ((HD 2 a)&&true) (.br (eT 2 a).2 (.ok ((FY [(aH 0),(aH 1),(aH 127),(aH 128),(aH 255),(aH 256),(aH 32767),(aH 32768),(aH 65535),(aH 65536),(aH (-1))] (eT 2 a).1)&&true) (.ok true (.leaf ((aPX a).1,(aPX a).2)))) (.ok ((jV 256 (eT 2 a).1)&&((jV 2 (bF 256 (eT 2 a).1).1)&&((jV 256 (VK a).1)&&true))) (.ok true (.leaf ((bF 256 (VK a).1).1,(aR (dD (dD (bF 256 (eT 2 a).1).2 (VK a).2) 256) (bF 256 (VK a).1).2))))))))
def g72(a:aB):aB×Int:=hid (T72 a).val
def k72(a:aB):Bool:=hid (T72 a).okv
def q72:=DS0 (fun a=>aKJ a (g72 a)) k72
theorem t72:bX 72 q72:=sE fun a hk=>tc a6Z aDO [] [] true (T72 a) (aKJ a) hk
def Q72:=aV 72 q72 Q71
theorem aDP:QO Q72:=aG t72 aDO
def aDQ(a:Int):Pt (Bool):=(.ok true (.ok true (.ok true (.ok true (.leaf (bif (eqI a 2)then true else(eqI a 3)))))))
def QT(a:Int):Bool:=hid (aDQ a).val
def NC(a:Int):Bool:=hid (aDQ a).okv
def q109:=IG (fun a=>jA a (QT a)) NC
theorem a8M:bX 100109 q109:=i9 fun a hk=>tz aYZ aDP [] [] true (aDQ a) (jA a) hk
def Q109:=aV 100109 q109 Q72
theorem VL:QO Q109:=aG a8M aDP
def K9:List Kd:=[.int .i64, .int .i64, .int .i64, .int .i64, .bool]
section
variable(a:aB)
def jH:aB×Int:=(wB [(aH 2),(aH 3),(aH 4),(aH 5),(aH 8),(aH 9),(aH 11),(aH 18),(aH 21)] a)
def jI:aB×Int:=(g72 (bF 200 (jH a).1).1)
def pU:aB×Int:=(wB [(aH 1),(aH 448),(aH 65535),(aH 500)] (jI a).1)
def DK:aB×Bool:=(eT 30 (eT 2 (pU a).1).1)
def QU:aB×Int:=(wB [(aH 0),(aH 1),(aH 22)] (DK a).1)
def QV:aB×Int:=(wB [(aH 0),(aH 1),(aH 22)] (eT 30 (jI a).1).1)
end
def aDR(a:aB):Pt (aB×aE):=(.ok true (.ok ((FY [(aH 2),(aH 3),(aH 4),(aH 5),(aH 8),(aH 9),(aH 11),(aH 18),(aH 21)] a)&&((jV 200 (jH a).1)&&((k72 (bF 200 (jH a).1).1)&&true))) (.ok ((NC (jH a).2)&&true) (.br (QT (jH a).2) (.ok ((FY [(aH 1),(aH 448),(aH 65535),(aH 500)] (jI a).1)&&true) (.ok ((HD 2 (pU a).1)&&true) (.ok ((HD 30 (eT 2 (pU a).1).1)&&true) (.br (DK a).2 (.ok ((FY [(aH 0),(aH 1),(aH 22)] (DK a).1)&&true) (.ok true (.ok true (.leaf ((QU a).1,(aE.mk (QU a).2 (dD 2 (bF 200 (jH a).1).2) (pU a).2 (cM (jI a).2 65535) (eT 2 (pU a).1).2)))))) (.ok true (.ok true (.leaf ((DK a).1,(aE.mk (jH a).2 (dD 2 (bF 200 (jH a).1).2) (pU a).2 (cM (jI a).2 65535) (eT 2 (pU a).1).2))))))))) (.ok ((HD 30 (jI a).1)&&true) (.br (eT 30 (jI a).1).2 (.ok ((FY [(aH 0),(aH 1),(aH 22)] (eT 30 (jI a).1).1)&&true) (.ok true (.ok true (.leaf ((QV a).1,(aE.mk (QV a).2 (dD 2 (bF 200 (jH a).1).2) 0 (cM (jI a).2 65535) false)))))) (.ok true (.ok true (.leaf ((eT 30 (jI a).1).1,(aE.mk (jH a).2 (dD 2 (bF 200 (jH a).1).2) 0 (cM (jI a).2 65535) false)))))))))))
def aDS(a:aB):aB×aE:=hid (aDR a).val
def aDT(a:aB):Bool:=hid (aDR a).okv
def a1S(a:aB)(r:aB×aE):SV×List Blk:=((.agg [li r.2.Vector,li r.2.PC,li r.2.Addr,li r.2.Word, .lit (.bool r.2.Write)]),[.box [.imm true 1 r.1.fcode,li r.1.fat, .lit (.int .u64 r.1.fseed)]])
def q101:=DS0 (fun a=>a1S a (aDS a)) aDT
theorem a8N:bX 101 q101:=sE fun a hk=>tc aYS VL [(15,K0),(30,K9)] [] true (aDR a) (a1S a) hk
def Q101:=aV 101 q101 Q109
theorem VM:QO Q101:=aG a8N VL
def a8O(a:List Row):List SV:=[(.one (.imm true 1 a))]
def a8P(a:List Row):List Blk:=[]
def DL(N:List Row→SV×List Blk)(K:List Row→Bool):List SV→List Blk→Option ((SV×List Blk)×Bool)
 |[(.one (.imm true 1 c0))],[]=>some (N c0,K c0)
 |_,_=>none
theorem nU{N:List Row→SV×List Blk}{K:List Row→Bool}{f:Nat}(h: ∀(a:List Row),K a=true→cF R f (a8O a) (a8P a)=some (N a)):bX f (DL N K):=fun _ _ _ e=>by
 unfold DL at e;split at e
 ·exact mQ e (h _)
 ·cases e
section
variable(a:List Row)
def aPY:Nat:=(ln (AQ (aB.mk a 0 0)).2.R.D)
def aPZ:Nat:=(ln (AQ (aB.mk a 0 0)).2.R.A)
def aP0:Nat:=(ln (AQ (aB.mk a 0 0)).2.Bus.Bytes)
def aP1:Nat:=(ln (AQ (aB.mk a 0 0)).2.Bus.Log)
def VN:Bool:=((e1 (aPY a))&&((e1 (aPZ a))&&((e1 (aP0 a))&&((e1 (aP1 a))&&true))))
end
def T23(a:List Row):Pt (aJ×aE):=(.ok true (.ok true (.ok ((k71 (aB.mk a 0 0))&&((aDT (AQ (aB.mk a 0 0)).1)&&true)) (.ok ((VN a)&&((VN a)&&true)) (.ok ((VN a)&&true) (.leaf ((AQ (aB.mk a 0 0)).2,(aDS (AQ (aB.mk a 0 0)).1).2)))))))
def rN(a:List Row):aJ×aE:=hid (T23 a).val
def k23(a:List Row):Bool:=hid (T23 a).okv
def n23(a:List Row)(r:aJ×aE):SV×List Blk:=((.tup [(.agg [.imm true 1 r.1.R.D, .imm true 1 r.1.R.A,li r.1.R.Other,li r.1.R.PC,li r.1.R.Flags,li r.1.R.Mask, .lit (.bool r.1.R.Super), .lit (.bool r.1.R.Trace), .imm true 1 r.1.Bus.Bytes, .imm true 5 r.1.Bus.Log, .lit (.bool r.1.Stop), .lit (.bool r.1.Halt)]),(.agg [li r.2.Vector,li r.2.PC,li r.2.Addr,li r.2.Word, .lit (.bool r.2.Write)])]),[])
def q23:=DL (fun a=>n23 a (rN a)) k23
theorem t23:bX 100023 q23:=nU fun a hk=>tz aYR VM [] [] true (T23 a) (n23 a) hk
def Q23:=aV 100023 q23 Q101
theorem aDU:QO Q23:=aG t23 VM
def aDV(a:Int)(b:Int)(c:Int):Pt (Bool):=(.ok true (.ok true (.ok true (.ok true (.leaf (bif (rE a b)then(leI a c)else false))))))
def rO(a:Int)(b:Int)(c:Int):Bool:=hid (aDV a b c).val
def wH(a:Int)(b:Int)(c:Int):Bool:=hid (aDV a b c).okv
def q106:=DS5 (fun a b c=>aKM a b c (rO a b c)) wH
theorem a8R:bX 100106 q106:=UT fun a b c hk=>tz aYW aDU [] [] true (aDV a b c) (aKM a b c) hk
def Q106:=aV 100106 q106 Q23
theorem VO:QO Q106:=aG a8R aDU
def T73(a:Int):Pt (Bool):=(.ok true (.ok ((wH a 0 65535)&&true) (.ok true (.ok true (.leaf (rO a 0 65535))))))
def g73(a:Int):Bool:=hid (T73 a).val
def k73(a:Int):Bool:=hid (T73 a).okv
def q73:=IG (fun a=>jA a (g73 a)) k73
theorem t73:bX 100073 q73:=i9 fun a hk=>tz a60 VO [] [] true (T73 a) (jA a) hk
def Q73:=aV 100073 q73 Q106
theorem aDY:QO Q73:=aG t73 VO
def aDZ(a:Int):Pt (Bool):=(.ok true (.ok ((k73 a)&&true) (.ok true (.leaf (!(g73 a))))))
def aLN(a:Int):Bool:=hid (aDZ a).val
def aLO(a:Int):Bool:=hid (aDZ a).okv
def q226:=IG (fun a=>jA a (aLN a)) aLO
theorem a8S:bX 226 q226:=i9 fun a hk=>tc a0H aDY [] [] true (aDZ a) (jA a) hk
def Q226:=aV 226 q226 Q73
theorem JO:QO Q226:=aG a8S aDY
def a8T(a:List Row):List SV:=[(.one (.imm true 1 a)),(.one (.clo 226 []))]
def a8U(a:List Row):List Blk:=[]
def aLP(N:List Row→SV×List Blk)(K:List Row→Bool):List SV→List Blk→Option ((SV×List Blk)×Bool)
 |[(.one (.imm true 1 c0)),(.one (.clo 226 []))],[]=>some (N c0,K c0)
 |_,_=>none
theorem aD0{N:List Row→SV×List Blk}{K:List Row→Bool}{f:Nat}(h: ∀(a:List Row),K a=true→cF R f (a8T a) (a8U a)=some (N a)):bX f (aLP N K):=fun _ _ _ e=>by
 unfold aLP at e;split at e
 ·exact mQ e (h _)
 ·cases e
structure V227_0 where
 mk::
 (s0:List Row)
 (s7:Int)
 (s8:Int)
def yJ(v:V227_0):Pt (Option V227_0):=(.ok true (.br (ltI v.s8 v.s7) (.ok true (.ok ((dJ [.int .i64] v.s0 v.s8)&&((aLO (aU v.s0 (iN v.s8) 0))&&true)) (.br (aLN (aU v.s0 (iN v.s8) 0)) (.ok true (.leaf none)) (.ok true (.ok true (.leaf (some {v with s8:=(aR v.s8 1)}))))))) (.leaf none)))
def DM(v:V227_0):St:=⟨[(0,(.one (.imm true 1 v.s0))),(1,(.one (.clo 226 []))),(7,(.one (li v.s7))),(8,(.one (li v.s8)))],[]⟩
def JP:St→Option (V227_0×Bool)
 |⟨[(0,(.one (.imm true 1 c0))),(1,(.one (.clo 226 []))),(7,(.one (li c1))),(8,(.one (li c2)))],[]⟩=>some ((V227_0.mk c0 c1 c2),true)
 |_=>none
def JQ:St→Option (Pt Out):=mV Q226 [(14,K0),(15,K0)] [] true [] 0 2097152 xS
theorem aLQ(v:V227_0):((JQ (DM v)).bind (jS true false 0 [0,1,7,8]))=some ((yJ v).map (Option.map DM)):=by kernel_rfl
theorem aLR(σ:St)(v:V227_0)(h:JP σ=some (v,true)):σ=DM v:=by
 unfold JP at h;split at h
 ·obtain⟨hr,hk⟩:=qp (qi h);rw[←hr];rfl
 ·simp at h
theorem aLS:bN (lL true false 0 [0,1,7,8] JQ JP DM yJ 2097152) (dI R 0 2097152 (.loop [0,1,7,8] xS)):=cH (bO JO (bH (l:=[]) (by kernel_rfl) trivial)) aLR aLQ
def aLT:Lp:=(9,lL true false 0 [0,1,7,8] JQ JP DM yJ 2097152)::[]
def DN(v:V227_0):V227_0:=(hid (cB yJ 2097152 v)).getD v
def QW(v:V227_0):Bool:=(hid (cB yJ 2097152 v)).isSome
section
variable(a:List Row)
def JR:V227_0:=(DN (V227_0.mk a (aX a) 0))
end
def aLU(a:List Row):Pt (Int):=(.ok true (.ok true (.ok true (.ok true (.ok (QW (V227_0.mk a (aX a) 0)) (.br (ltI (JR a).s8 (JR a).s7) (.ok true (.leaf (JR a).s8)) (.ok true (.ok true (.leaf (-1))))))))))
def aLV(a:List Row):Int:=hid (aLU a).val
def aLW(a:List Row):Bool:=hid (aLU a).okv
def ZM(a:List Row)(r:Int):SV×List Blk:=((.one (li r)),[])
def q227:=aLP (fun a=>ZM a (aLV a)) aLW
theorem a1V:dN (fun live x=>bN (hX aLT (gK x)) (dI R 0 2097152 (.loop live x))) F227.body:=(bH (l:=[([0,1,7,8],xS)]) (by kernel_rfl) ⟨dK (n:=9) (by kernel_rfl) fun σ σr t h ho hl=>aLS σ σr t h ho hl,trivial⟩)
theorem a8V:bX 227 q227:=aD0 fun a hk=>UN aPJ JO a1V [(14,K0),(15,K0)] [] true (aLU a) (ZM a) hk
def Q227:=aV 227 q227 Q226
theorem VP:QO Q227:=aG a8V JO
def aLX(a:List Row):Pt (Bool):=(.ok true (.ok ((aLW a)&&true) (.ok true (.leaf (rE (aLV a) 0)))))
def aD1(a:List Row):Bool:=hid (aLX a).val
def aD2(a:List Row):Bool:=hid (aLX a).okv
def q171:=aLP (fun a=>wG a (aD1 a)) aD2
theorem a8W:bX 171 q171:=aD0 fun a hk=>tc aPH VP [] [] true (aLX a) (wG a) hk
def Q171:=aV 171 q171 Q227
theorem VQ:QO Q171:=aG a8W VP
def aD3(a:List Row):Pt (Bool):=(.ok true (.ok ((((aD2 a)&&true)||(!(eqI (aX a) 4)))&&true) (.ok true (.ok true (.leaf (bif (eqI (aX a) 4)then(!(aD1 a))else false))))))
def aD4(a:List Row):Bool:=hid (aD3 a).val
def aLY(a:List Row):Bool:=hid (aD3 a).okv
def q169:=DL (fun a=>wG a (aD4 a)) aLY
theorem a8X:bX 100169 q169:=nU fun a hk=>tz aZO VQ [] [] true (aD3 a) (wG a) hk
def Q169:=aV 100169 q169 Q171
theorem VR:QO Q169:=aG a8X VQ
def aD5(a:Int):Pt (Bool):=(.ok true (.ok ((wH a 0 31)&&true) (.ok true (.ok true (.leaf (rO a 0 31))))))
def aLZ(a:Int):Bool:=hid (aD5 a).val
def aL0(a:Int):Bool:=hid (aD5 a).okv
def q170:=IG (fun a=>jA a (aLZ a)) aL0
theorem a8Y:bX 100170 q170:=i9 fun a hk=>tz aZP VR [] [] true (aD5 a) (jA a) hk
def Q170:=aV 100170 q170 Q169
theorem VS:QO Q170:=aG a8Y VR
def a8Z(a:aI):List SV:=[(.agg [.imm true 1 a.D, .imm true 1 a.A,li a.Other,li a.PC,li a.Flags,li a.Mask, .lit (.bool a.Super), .lit (.bool a.Trace)])]
def a80(a:aI):List Blk:=[]
def aL1(N:aI→SV×List Blk)(K:aI→Bool):List SV→List Blk→Option ((SV×List Blk)×Bool)
 |[(.agg [.imm true 1 c0, .imm true 1 c1,li c2,li c3,li c4,li c5, .lit (.bool c6), .lit (.bool c7)])],[]=>some (N (aI.mk c0 c1 c2 c3 c4 c5 c6 c7),K (aI.mk c0 c1 c2 c3 c4 c5 c6 c7))
 |_,_=>none
theorem aD6{N:aI→SV×List Blk}{K:aI→Bool}{f:Nat}(h: ∀(a:aI),K a=true→cF R f (a8Z a) (a80 a)=some (N a)):bX f (aL1 N K):=fun _ _ _ e=>by
 unfold aL1 at e;split at e
 ·exact mQ e (h _)
 ·cases e
section
variable(a:aI)
def QX:Bool:=(bif (aD4 a.D)then(aD4 a.A)else false)
def QY:Bool:=(bif (QX a)then(g73 a.Other)else false)
def QZ:Bool:=(bif (QY a)then(g73 a.PC)else false)
def RA:Bool:=(bif (QZ a)then(aLZ a.Flags)else false)
end
def aD7(a:aI):Pt (Bool):=(.ok true (.ok ((aLY a.D)&&((((aLY a.A)&&true)||(!(aD4 a.D)))&&((((k73 a.Other)&&true)||(!(QX a)))&&((((k73 a.PC)&&true)||(!(QY a)))&&((((aL0 a.Flags)&&true)||(!(QZ a)))&&((((wH a.Mask 0 7)&&true)||(!(RA a)))&&true)))))) (.ok true (.ok true (.leaf (bif (RA a)then(rO a.Mask 0 7)else false))))))
def aL2(a:aI):Bool:=hid (aD7 a).val
def aR7(a:aI):Bool:=hid (aD7 a).okv
def aL3(a:aI)(r:Bool):SV×List Blk:=((.one (.lit (.bool r))),[])
def q110:=aL1 (fun a=>aL3 a (aL2 a)) aR7
theorem a81:bX 100110 q110:=aD6 fun a hk=>tz aY0 VS [(4,K1),(8,K1),(13,K0),(18,K0),(23,K0),(28,K0)] [] true (aD7 a) (aL3 a) hk
def Q110:=aV 100110 q110 Q170
theorem VT:QO Q110:=aG a81 VS
def aD8(a:Int):Pt (Bool):=(.ok true (.ok ((wH a 0 255)&&true) (.ok true (.leaf (!(rO a 0 255))))))
def aL4(a:Int):Bool:=hid (aD8 a).val
def aL5(a:Int):Bool:=hid (aD8 a).okv
def q172:=IG (fun a=>jA a (aL4 a)) aL5
theorem a82:bX 172 q172:=i9 fun a hk=>tc aZQ VT [] [] true (aD8 a) (jA a) hk
def Q172:=aV 172 q172 Q110
theorem JS:QO Q172:=aG a82 VT
def a83(a:List Row):List SV:=[(.one (.imm true 1 a)),(.one (.clo 172 []))]
def a84(a:List Row):List Blk:=[]
def aL6(N:List Row→SV×List Blk)(K:List Row→Bool):List SV→List Blk→Option ((SV×List Blk)×Bool)
 |[(.one (.imm true 1 c0)),(.one (.clo 172 []))],[]=>some (N c0,K c0)
 |_,_=>none
theorem aD9{N:List Row→SV×List Blk}{K:List Row→Bool}{f:Nat}(h: ∀(a:List Row),K a=true→cF R f (a83 a) (a84 a)=some (N a)):bX f (aL6 N K):=fun _ _ _ e=>by
 unfold aL6 at e;split at e
 ·exact mQ e (h _)
 ·cases e
structure V227v1_0 where
 mk::
 (s0:List Row)
 (s7:Int)
 (s8:Int)
def mR(v:V227v1_0):Pt (Option V227v1_0):=(.ok true (.br (ltI v.s8 v.s7) (.ok true (.ok ((dJ [.int .i64] v.s0 v.s8)&&((aL5 (aU v.s0 (iN v.s8) 0))&&true)) (.br (aL4 (aU v.s0 (iN v.s8) 0)) (.ok true (.leaf none)) (.ok true (.ok true (.leaf (some {v with s8:=(aR v.s8 1)}))))))) (.leaf none)))
def pV(v:V227v1_0):St:=⟨[(0,(.one (.imm true 1 v.s0))),(1,(.one (.clo 172 []))),(7,(.one (li v.s7))),(8,(.one (li v.s8)))],[]⟩
def wI:St→Option (V227v1_0×Bool)
 |⟨[(0,(.one (.imm true 1 c0))),(1,(.one (.clo 172 []))),(7,(.one (li c1))),(8,(.one (li c2)))],[]⟩=>some ((V227v1_0.mk c0 c1 c2),true)
 |_=>none
def yK:St→Option (Pt Out):=mV Q172 [(14,K0),(15,K0)] [] true [] 0 2097152 xS
theorem ZN(v:V227v1_0):((yK (pV v)).bind (jS true false 0 [0,1,7,8]))=some ((mR v).map (Option.map pV)):=by kernel_rfl
theorem ZO(σ:St)(v:V227v1_0)(h:wI σ=some (v,true)):σ=pV v:=by
 unfold wI at h;split at h
 ·obtain⟨hr,hk⟩:=qp (qi h);rw[←hr];rfl
 ·simp at h
theorem ZP:bN (lL true false 0 [0,1,7,8] yK wI pV mR 2097152) (dI R 0 2097152 (.loop [0,1,7,8] xS)):=cH (bO JS (bH (l:=[]) (by kernel_rfl) trivial)) ZO ZN
def ZQ:Lp:=(9,lL true false 0 [0,1,7,8] yK wI pV mR 2097152)::[]
def pW(v:V227v1_0):V227v1_0:=(hid (cB mR 2097152 v)).getD v
def DO(v:V227v1_0):Bool:=(hid (cB mR 2097152 v)).isSome
section
variable(a:List Row)
def wJ:V227v1_0:=(pW (V227v1_0.mk a (aX a) 0))
end
def JT(a:List Row):Pt (Int):=(.ok true (.ok true (.ok true (.ok true (.ok (DO (V227v1_0.mk a (aX a) 0)) (.br (ltI (wJ a).s8 (wJ a).s7) (.ok true (.leaf (wJ a).s8)) (.ok true (.ok true (.leaf (-1))))))))))
def JU(a:List Row):Int:=hid (JT a).val
def JV(a:List Row):Bool:=hid (JT a).okv
def q227v1:=aL6 (fun a=>ZM a (JU a)) JV
theorem aL7:dN (fun live x=>bN (hX ZQ (gK x)) (dI R 0 2097152 (.loop live x))) F227.body:=(bH (l:=[([0,1,7,8],xS)]) (by kernel_rfl) ⟨dK (n:=9) (by kernel_rfl) fun σ σr t h ho hl=>ZP σ σr t h ho hl,trivial⟩)
theorem aR8:bX 227 q227v1:=aD9 fun a hk=>UN aPJ JS aL7 [(14,K0),(15,K0)] [] true (JT a) (ZM a) hk
def Q227v1:=aV 227 q227v1 Q172
theorem HE:QO Q227v1:=aG aR8 JS
def JW(a:List Row):Pt (Bool):=(.ok true (.ok ((JV a)&&true) (.ok true (.leaf (rE (JU a) 0)))))
def DP(a:List Row):Bool:=hid (JW a).val
def DQ(a:List Row):Bool:=hid (JW a).okv
def q171v1:=aL6 (fun a=>wG a (DP a)) DQ
theorem aR9:bX 171 q171v1:=aD9 fun a hk=>tc aPH HE [] [] true (JW a) (wG a) hk
def Q171v1:=aV 171 q171v1 Q227v1
theorem HF:QO Q171v1:=aG aR9 HE
def aEA(a:Int):Pt (Bool):=(.ok true (.ok true (.ok true (.ok true (.leaf (bif (eqI a 1)then true else(eqI a 2)))))))
def aEB(a:Int):Bool:=hid (aEA a).val
def aL8(a:Int):Bool:=hid (aEA a).okv
def q187:=IG (fun a=>jA a (aEB a)) aL8
theorem a85:bX 100187 q187:=i9 fun a hk=>tz aZ2 HF [] [] true (aEA a) (jA a) hk
def Q187:=aV 100187 q187 Q171v1
theorem VU:QO Q187:=aG a85 HF
def RB(a:Int):Pt (Int):=(.ok true (.ok ((leI 0 (dD 8 a))&&true) (.ok true (.ok true (.leaf (nH 1 (dD 8 a)))))))
def aEC(a:Int):Int:=hid (RB a).val
def aL9(a:Int):Bool:=hid (RB a).okv
def ND(a:Int)(r:Int):SV×List Blk:=((.one (li r)),[])
def q262:=IG (fun a=>ND a (aEC a)) aL9
theorem a86:bX 100262 q262:=i9 fun a hk=>tz a0P VU [] [] true (RB a) (ND a) hk
def Q262:=aV 100262 q262 Q187
theorem VV:QO Q262:=aG a86 VU
def a87(a:Int)(b:Int):List SV:=[(.one (li a)),(.one (li b))]
def a88(a:Int)(b:Int):List Blk:=[]
def aMA(N:Int→Int→SV×List Blk)(K:Int→Int→Bool):List SV→List Blk→Option ((SV×List Blk)×Bool)
 |[(.one (li c0)),(.one (li c1))],[]=>some (N c0 c1,K c0 c1)
 |_,_=>none
theorem aED{N:Int→Int→SV×List Blk}{K:Int→Int→Bool}{f:Nat}(h: ∀(a:Int)(b:Int),K a b=true→cF R f (a87 a b) (a88 a b)=some (N a b)):bX f (aMA N K):=fun _ _ _ e=>by
 unfold aMA at e;split at e
 ·exact mQ e (h _ _)
 ·cases e
def aEE(a:Int)(b:Int):Pt (Bool):=(.ok true (.ok ((aL8 a)&&((((aL9 a)&&((wH b 0 (eQ (aEC a) 1))&&true))||(!(aEB a)))&&true)) (.ok true (.ok true (.leaf (bif (aEB a)then(rO b 0 (eQ (aEC a) 1))else false))))))
def aSA(a:Int)(b:Int):Bool:=hid (aEE a b).val
def aSB(a:Int)(b:Int):Bool:=hid (aEE a b).okv
def aMB(a:Int)(b:Int)(r:Bool):SV×List Blk:=((.one (.lit (.bool r))),[])
def q229:=aMA (fun a b=>aMB a b (aSA a b)) aSB
theorem a89:bX 100229 q229:=aED fun a b hk=>tz a0J VV [] [] true (aEE a b) (aMB a b) hk
def Q229:=aV 100229 q229 Q262
theorem VW:QO Q229:=aG a89 VV
def a9A(a:aA):List SV:=[(.agg [li a.Kind,li a.Size,li a.Addr,li a.Value,li a.Code])]
def a9B(a:aA):List Blk:=[]
def aEF(N:aA→SV×List Blk)(K:aA→Bool):List SV→List Blk→Option ((SV×List Blk)×Bool)
 |[(.agg [li c0,li c1,li c2,li c3,li c4])],[]=>some (N (aA.mk c0 c1 c2 c3 c4),K (aA.mk c0 c1 c2 c3 c4))
 |_,_=>none
theorem RC{N:aA→SV×List Blk}{K:aA→Bool}{f:Nat}(h: ∀(a:aA),K a=true→cF R f (a9A a) (a9B a)=some (N a)):bX f (aEF N K):=fun _ _ _ e=>by
 unfold aEF at e;split at e
 ·exact mQ e (h _)
 ·cases e
section
variable(a:aA)
def RD:Bool:=(bif (rO a.Kind 1 3)then(g73 a.Addr)else false)
def RE:Bool:=(bif (RD a)then(aSA a.Size a.Value)else false)
end
def aEG(a:aA):Pt (Bool):=(.ok true (.ok ((wH a.Kind 1 3)&&((((k73 a.Addr)&&true)||(!(rO a.Kind 1 3)))&&((((aSB a.Size a.Value)&&true)||(!(RD a)))&&((((wH a.Code 0 3)&&true)||(!(RE a)))&&true)))) (.ok true (.ok true (.leaf (bif (bif (RE a)then(rO a.Code 0 3)else false)then(!(bif (eqI a.Kind 3)then(eqI a.Code 0)else false))else false))))))
def aSC(a:aA):Bool:=hid (aEG a).val
def aSD(a:aA):Bool:=hid (aEG a).okv
def ZR(a:aA)(r:Bool):SV×List Blk:=((.one (.lit (.bool r))),[])
def q175:=aEF (fun a=>ZR a (aSC a)) aSD
theorem a9C:bX 100175 q175:=RC fun a hk=>tz aZT VW [(4,K0),(8,K0),(13,K0),(15,K0),(20,K0),(25,K0),(29,K0)] [] true (aEG a) (ZR a) hk
def Q175:=aV 100175 q175 Q229
theorem VX:QO Q175:=aG a9C VW
def JX:List Kd:=[.int .i64, .int .i64, .int .i64, .int .i64, .int .i64]
def aEH(a:aA):Pt (Bool):=(.ok true (.ok ((aSD a)&&true) (.ok true (.leaf (!(aSC a))))))
def aMC(a:aA):Bool:=hid (aEH a).val
def aMD(a:aA):Bool:=hid (aEH a).okv
def q174:=aEF (fun a=>ZR a (aMC a)) aMD
theorem a9D:bX 174 q174:=RC fun a hk=>tc aZS VX [(3,JX)] [] true (aEH a) (ZR a) hk
def Q174:=aV 174 q174 Q175
theorem JY:QO Q174:=aG a9D VX
def a9E(a:List Row):List SV:=[(.one (.imm true 5 a)),(.one (.clo 174 []))]
def a9F(a:List Row):List Blk:=[]
def aME(N:List Row→SV×List Blk)(K:List Row→Bool):List SV→List Blk→Option ((SV×List Blk)×Bool)
 |[(.one (.imm true 5 c0)),(.one (.clo 174 []))],[]=>some (N c0,K c0)
 |_,_=>none
theorem aEI{N:List Row→SV×List Blk}{K:List Row→Bool}{f:Nat}(h: ∀(a:List Row),K a=true→cF R f (a9E a) (a9F a)=some (N a)):bX f (aME N K):=fun _ _ _ e=>by
 unfold aME at e;split at e
 ·exact mQ e (h _)
 ·cases e
structure V228_0 where
 mk::
 (s0:List Row)
 (s7:Int)
 (s8:Int)
def yL(v:V228_0):Pt (Option V228_0):=(.ok true (.br (ltI v.s8 v.s7) (.ok true (.ok ((dJ [.int .i64, .int .i64, .int .i64, .int .i64, .int .i64] v.s0 v.s8)&&((aMD (aA.at v.s0 (iN v.s8) 0))&&true)) (.br (aMC (aA.at v.s0 (iN v.s8) 0)) (.ok true (.leaf none)) (.ok true (.ok true (.leaf (some {v with s8:=(aR v.s8 1)}))))))) (.leaf none)))
def DR(v:V228_0):St:=⟨[(0,(.one (.imm true 5 v.s0))),(1,(.one (.clo 174 []))),(7,(.one (li v.s7))),(8,(.one (li v.s8)))],[]⟩
def JZ:St→Option (V228_0×Bool)
 |⟨[(0,(.one (.imm true 5 c0))),(1,(.one (.clo 174 []))),(7,(.one (li c1))),(8,(.one (li c2)))],[]⟩=>some ((V228_0.mk c0 c1 c2),true)
 |_=>none
def J0:St→Option (Pt Out):=mV Q174 [(14,JX),(15,JX)] [] true [] 0 2097152 PO
theorem aMF(v:V228_0):((J0 (DR v)).bind (jS true false 0 [0,1,7,8]))=some ((yL v).map (Option.map DR)):=by kernel_rfl
theorem aMG(σ:St)(v:V228_0)(h:JZ σ=some (v,true)):σ=DR v:=by
 unfold JZ at h;split at h
 ·obtain⟨hr,hk⟩:=qp (qi h);rw[←hr];rfl
 ·simp at h
theorem aMH:bN (lL true false 0 [0,1,7,8] J0 JZ DR yL 2097152) (dI R 0 2097152 (.loop [0,1,7,8] PO)):=cH (bO JY (bH (l:=[]) (by kernel_rfl) trivial)) aMG aMF
def aMI:Lp:=(9,lL true false 0 [0,1,7,8] J0 JZ DR yL 2097152)::[]
def DS(v:V228_0):V228_0:=(hid (cB yL 2097152 v)).getD v
def RF(v:V228_0):Bool:=(hid (cB yL 2097152 v)).isSome
section
variable(a:List Row)
def J1:V228_0:=(DS (V228_0.mk a (aX a) 0))
end
def aMJ(a:List Row):Pt (Int):=(.ok true (.ok true (.ok true (.ok true (.ok (RF (V228_0.mk a (aX a) 0)) (.br (ltI (J1 a).s8 (J1 a).s7) (.ok true (.leaf (J1 a).s8)) (.ok true (.ok true (.leaf (-1))))))))))
def aMK(a:List Row):Int:=hid (aMJ a).val
def aML(a:List Row):Bool:=hid (aMJ a).okv
def q228:=aME (fun a=>ZM a (aMK a)) aML
theorem a1W:dN (fun live x=>bN (hX aMI (gK x)) (dI R 0 2097152 (.loop live x))) F228.body:=(bH (l:=[([0,1,7,8],PO)]) (by kernel_rfl) ⟨dK (n:=9) (by kernel_rfl) fun σ σr t h ho hl=>aMH σ σr t h ho hl,trivial⟩)
theorem a9G:bX 228 q228:=aEI fun a hk=>UN a0I JY a1W [(14,JX),(15,JX)] [] true (aMJ a) (ZM a) hk
def Q228:=aV 228 q228 Q174
theorem VY:QO Q228:=aG a9G JY
def aMM(a:List Row):Pt (Bool):=(.ok true (.ok ((aML a)&&true) (.ok true (.leaf (rE (aMK a) 0)))))
def aEJ(a:List Row):Bool:=hid (aMM a).val
def aEK(a:List Row):Bool:=hid (aMM a).okv
def q173:=aME (fun a=>wG a (aEJ a)) aEK
theorem a9H:bX 173 q173:=aEI fun a hk=>tc aZR VY [] [] true (aMM a) (wG a) hk
def Q173:=aV 173 q173 Q228
theorem VZ:QO Q173:=aG a9H VY
def OC:List Kd:=[.imm 5]
def a9I(a:aO):List SV:=[(.agg [.imm true 1 a.Bytes, .imm true 5 a.Log])]
def a9J(a:aO):List Blk:=[]
def aEL(N:aO→SV×List Blk)(K:aO→Bool):List SV→List Blk→Option ((SV×List Blk)×Bool)
 |[(.agg [.imm true 1 c0, .imm true 5 c1])],[]=>some (N (aO.mk c0 c1),K (aO.mk c0 c1))
 |_,_=>none
theorem RG{N:aO→SV×List Blk}{K:aO→Bool}{f:Nat}(h: ∀(a:aO),K a=true→cF R f (a9I a) (a9J a)=some (N a)):bX f (aEL N K):=fun _ _ _ e=>by
 unfold aEL at e;split at e
 ·exact mQ e (h _)
 ·cases e
section
variable(a:aO)
def J2:Bool:=(bif (eqI (aX a.Bytes) 512)then(leI (aX a.Log) 400)else false)
def RH:List Row:=(bif (J2 a)then a.Log else a.Log)
def RJ:Bool:=(bif (J2 a)then(!(DP a.Bytes))else false)
end
def aEM(a:aO):Pt (Bool):=(.ok true (.ok ((((DQ a.Bytes)&&true)||(!(J2 a)))&&((((aEK (RH a))&&true)||(!(RJ a)))&&true)) (.ok true (.ok true (.leaf (bif (RJ a)then(!(aEJ (RH a)))else false))))))
def RK(a:aO):Bool:=hid (aEM a).val
def ZS(a:aO):Bool:=hid (aEM a).okv
def aMN(a:aO)(r:Bool):SV×List Blk:=((.one (.lit (.bool r))),[])
def q111:=aEL (fun a=>aMN a (RK a)) ZS
theorem a9K:bX 100111 q111:=RG fun a hk=>tz aY1 VZ [(4,K1),(9,OC),(15,K1),(21,OC)] [] true (aEM a) (aMN a) hk
def Q111:=aV 100111 q111 Q173
theorem V0:QO Q111:=aG a9K VZ
def mA:List Kd:=[.bool]
def a9L(a:aJ):List SV:=[(.agg [.imm true 1 a.R.D, .imm true 1 a.R.A,li a.R.Other,li a.R.PC,li a.R.Flags,li a.R.Mask, .lit (.bool a.R.Super), .lit (.bool a.R.Trace), .imm true 1 a.Bus.Bytes, .imm true 5 a.Bus.Log, .lit (.bool a.Stop), .lit (.bool a.Halt)])]
def a9M(a:aJ):List Blk:=[]
def ZT(N:aJ→SV×List Blk)(K:aJ→Bool):List SV→List Blk→Option ((SV×List Blk)×Bool)
 |[(.agg [.imm true 1 c0, .imm true 1 c1,li c2,li c3,li c4,li c5, .lit (.bool c6), .lit (.bool c7), .imm true 1 c8, .imm true 5 c9, .lit (.bool c10), .lit (.bool c11)])],[]=>some (N (aJ.mk (aI.mk c0 c1 c2 c3 c4 c5 c6 c7) (aO.mk c8 c9) c10 c11),K (aJ.mk (aI.mk c0 c1 c2 c3 c4 c5 c6 c7) (aO.mk c8 c9) c10 c11))
 |_,_=>none
theorem J3{N:aJ→SV×List Blk}{K:aJ→Bool}{f:Nat}(h: ∀(a:aJ),K a=true→cF R f (a9L a) (a9M a)=some (N a)):bX f (ZT N K):=fun _ _ _ e=>by
 unfold ZT at e;split at e
 ·exact mQ e (h _)
 ·cases e
def T30(a:aJ):Pt (Bool):=(.ok true (.ok ((aR7 a.R)&&((((ZS a.Bus)&&true)||(!(aL2 a.R)))&&true)) (.ok true (.ok true (.leaf (bif (bif (aL2 a.R)then(RK a.Bus)else false)then(!(bif a.Stop then a.Halt else false))else false))))))
def g30(a:aJ):Bool:=hid (T30 a).val
def k30(a:aJ):Bool:=hid (T30 a).okv
def n30(a:aJ)(r:Bool):SV×List Blk:=((.one (.lit (.bool r))),[])
def q30:=ZT (fun a=>n30 a (g30 a)) k30
theorem t30:bX 100030 q30:=J3 fun a hk=>tz a6O V0 [(4,K6),(8,K7),(13,mA),(16,mA)] [] true (T30 a) (n30 a) hk
def Q30:=aV 100030 q30 Q111
theorem aEN:QO Q30:=aG t30 V0
def a9N(a:aE):List SV:=[(.agg [li a.Vector,li a.PC,li a.Addr,li a.Word, .lit (.bool a.Write)])]
def a9O(a:aE):List Blk:=[]
def RL(N:aE→SV×List Blk)(K:aE→Bool):List SV→List Blk→Option ((SV×List Blk)×Bool)
 |[(.agg [li c0,li c1,li c2,li c3, .lit (.bool c4)])],[]=>some (N (aE.mk c0 c1 c2 c3 c4),K (aE.mk c0 c1 c2 c3 c4))
 |_,_=>none
theorem DT{N:aE→SV×List Blk}{K:aE→Bool}{f:Nat}(h: ∀(a:aE),K a=true→cF R f (a9N a) (a9O a)=some (N a)):bX f (RL N K):=fun _ _ _ e=>by
 unfold RL at e;split at e
 ·exact mQ e (h _)
 ·cases e
def aEO(a:aE):Pt (Bool):=(.ok true (.ok true (.ok true (.ok true (.leaf (bif (eqI a.Vector 2)then true else(eqI a.Vector 3)))))))
def RN(a:aE):Bool:=hid (aEO a).val
def RO(a:aE):Bool:=hid (aEO a).okv
def ZU(a:aE)(r:Bool):SV×List Blk:=((.one (.lit (.bool r))),[])
def q107:=RL (fun a=>ZU a (RN a)) RO
theorem a9P:bX 100107 q107:=DT fun a hk=>tz aYX aEN [(4,K0),(8,K0)] [] true (aEO a) (ZU a) hk
def Q107:=aV 100107 q107 Q30
theorem V1:QO Q107:=aG a9P aEN
section
variable(a:aE)
def aEP:Bool:=(bif (!(rO a.Vector 2 21))then true else(!(g73 a.PC)))
def aEQ:Bool:=(bif (aEP a)then true else(!(g73 a.Addr)))
end
def T28(a:aE):Pt (Bool):=(.ok true (.ok ((wH a.Vector 2 21)&&((((k73 a.PC)&&true)||(!(rO a.Vector 2 21)))&&((((k73 a.Addr)&&true)||(aEP a))&&((((k73 a.Word)&&true)||(aEQ a))&&true)))) (.br (bif (aEQ a)then true else(!(g73 a.Word))) (.ok true (.ok true (.ok true (.leaf false)))) (.ok ((RO a)&&true) (.ok true (.ok true (.leaf (bif (RN a)then true else(bif (eqI a.Addr 0)then(!a.Write)else false)))))))))
def g28(a:aE):Bool:=hid (T28 a).val
def k28(a:aE):Bool:=hid (T28 a).okv
def q28:=RL (fun a=>ZU a (g28 a)) k28
theorem t28:bX 100028 q28:=DT fun a hk=>tz a6M V1 [(4,K0),(9,K0),(15,K0),(21,K0),(25,K9),(29,K0),(33,mA)] [] true (T28 a) (ZU a) hk
def Q28:=aV 100028 q28 Q107
theorem aSG:QO Q28:=aG t28 V1
def aSH:List SV→List Blk→Option ((SV×List Blk)×Bool)
 |[.one (.imm p 1 rows)],[]=>some ((SV.one (T.sl 0 0 (ln rows)),[Blk.lst 1 rows]),decide (ln rows*8≤room))
 |_,_=>none
theorem a9Q(args:List SV)(hp:List Blk)(r:SV×List Blk)(h:aSH args hp=some (r,true)):cF R 203 args hp=some r:=by
 rw[CF (by decide)]
 unfold aSH at h;split at h
 ·rename_i p rows;simp only[Option.some.injEq,Prod.mk.injEq,decide_eq_true_eq]at h;obtain⟨rfl,h⟩:=h;refine TX aYP ?_;have h':ln rows≤room:=by omega
  simp[H6,sA,H5,h,h']
 ·simp at h
noncomputable def Q203:Qt:=aV 203 aSH Q28
theorem V2:O1 (cF R) Q203:=aG a9Q aSG
def a9R(a:aI)(p0:Bool)(p1:Bool):List SV:=[(.agg [.imm p0 1 a.D, .imm p1 1 a.A,li a.Other,li a.PC,li a.Flags,li a.Mask, .lit (.bool a.Super), .lit (.bool a.Trace)])]
def a9S(a:aI)(p0:Bool)(p1:Bool):List Blk:=[]
def aER(N:aI→SV×List Blk)(K:aI→Bool):List SV→List Blk→Option ((SV×List Blk)×Bool)
 |[(.agg [.imm p0 1 c0, .imm p1 1 c1,li c2,li c3,li c4,li c5, .lit (.bool c6), .lit (.bool c7)])],[]=>some (N (aI.mk c0 c1 c2 c3 c4 c5 c6 c7),K (aI.mk c0 c1 c2 c3 c4 c5 c6 c7))
 |_,_=>none
theorem RQ{N:aI→SV×List Blk}{K:aI→Bool}{f:Nat}(h: ∀(a:aI)(p0:Bool)(p1:Bool),K a=true→cF R f (a9R a p0 p1) (a9S a p0 p1)=some (N a)):bX f (aER N K):=fun _ _ _ e=>by
 unfold aER at e;split at e
 ·exact mQ e (h _ _ _)
 ·cases e
section
variable(a:aI)
def RU:Bool:=(((iE (kL (ln a.D) 8) 140737488355328)&&((iE (kL (ln a.A) 8) 140737488355328)&&true))&&true)
def RV:Bool:=((e1 (ln a.D))&&((e1 (ln a.A))&&true))
end
def aES(a:aI):Pt (aI):=(.ok true (.ok ((RU a)&&((RU a)&&(((s1 (ln a.D))&&((s1 (ln a.A))&&((s1 a.Other)&&((s1 a.PC)&&((s1 a.Flags)&&((s1 a.Mask)&&((s1 a.Super)&&((s1 a.Trace)&&true))))))))&&(((s1 (0:Int))&&((s1 (0:Int))&&((s1 (0:Int))&&((s1 (0:Int))&&((s1 false)&&((s1 false)&&true))))))&&((r1 a.D)&&((r1 a.A)&&true)))))) (.ok true (.ok ((RV a)&&((RV a)&&true)) (.leaf a)))))
def uG(a:aI):aI:=hid (aES a).val
def aSI(a:aI):Bool:=hid (aES a).okv
def aMO(a:aI)(r:aI):SV×List Blk:=((.agg [.sl 0 0 (ln r.D), .sl 1 0 (ln r.A),li r.Other,li r.PC,li r.Flags,li r.Mask, .lit (.bool r.Super), .lit (.bool r.Trace)]),[.lst 1 r.D, .lst 1 r.A])
def q151:=aER (fun a=>aMO a (uG a)) aSI
theorem a9T:bX 151 q151:=RQ fun a p0 p1 hk=>tc aZC V2 [(4,K1),(7,K1),(11,K6)] [] true (aES a) (aMO a) hk
def Q151:=aV 151 q151 Q203
theorem aMP:QO Q151:=aG a9T V2
def aSJ:List SV→List Blk→Option ((SV×List Blk)×Bool)
 |[.one (.imm p 5 rows)],[]=>some ((SV.one (T.sl 0 0 (ln rows)),[Blk.lst 5 rows]),decide (ln rows*40≤room))
 |_,_=>none
theorem a9U(args:List SV)(hp:List Blk)(r:SV×List Blk)(h:aSJ args hp=some (r,true)):cF R 204 args hp=some r:=by
 rw[CF (by decide)]
 unfold aSJ at h;split at h
 ·rename_i p rows;simp only[Option.some.injEq,Prod.mk.injEq,decide_eq_true_eq]at h;obtain⟨rfl,h⟩:=h;refine TX aYQ ?_;have h':ln rows≤room:=by omega
  simp[H6,sA,H5,h,h']
 ·simp at h
noncomputable def Q204:Qt:=aV 204 aSJ Q151
theorem V3:O1 (cF R) Q204:=aG a9U aMP
section
variable(a:aO)
def RW:Bool:=(((iE (kL (ln a.Bytes) 8) 140737488355328)&&((iE (kL (ln a.Log) 40) 140737488355328)&&true))&&true)
def RX:Bool:=((e1 (ln a.Bytes))&&((e1 (ln a.Log))&&true))
end
def aET(a:aO):Pt (aO):=(.ok true (.ok ((RW a)&&((RW a)&&((((s1 true)&&(r1 a.Bytes))&&(((s1 true)&&(r1 a.Log))&&true))&&(((s1 (ln a.Bytes))&&((s1 (ln a.Log))&&true))&&((r1 a.Bytes)&&((r1 a.Log)&&true)))))) (.ok ((RX a)&&((RX a)&&true)) (.leaf a))))
def J4(a:aO):aO:=hid (aET a).val
def aSK(a:aO):Bool:=hid (aET a).okv
def aMQ(a:aO)(r:aO):SV×List Blk:=((.agg [.sl 0 0 (ln r.Bytes), .sl 1 0 (ln r.Log)]),[.lst 1 r.Bytes, .lst 5 r.Log])
def q152:=aEL (fun a=>aMQ a (J4 a)) aSK
theorem a9V:bX 152 q152:=RG fun a hk=>tc aZD V3 [(4,K1),(7,OC)] [] true (aET a) (aMQ a) hk
def Q152:=aV 152 q152 Q204
theorem V4:QO Q152:=aG a9V V3
section
variable(a:aJ)
def eA:Bool:=(((aSI a.R)&&((aSK a.Bus)&&true))&&true)
def aP3:Bool:=(((s1 (ln (uG a.R).D))&&((s1 (ln (uG a.R).A))&&((s1 (uG a.R).Other)&&((s1 (uG a.R).PC)&&((s1 (uG a.R).Flags)&&((s1 (uG a.R).Mask)&&((s1 (uG a.R).Super)&&((s1 (uG a.R).Trace)&&((s1 (ln (J4 a.Bus).Bytes))&&((s1 (ln (J4 a.Bus).Log))&&((s1 a.Stop)&&((s1 a.Halt)&&true))))))))))))&&((r1 (uG a.R).D)&&((r1 (uG a.R).A)&&((r1 (J4 a.Bus).Bytes)&&((r1 (J4 a.Bus).Log)&&true)))))
def eG:Bool:=((((s1 true)&&(r1 a.R.D))&&(((s1 true)&&(r1 a.R.A))&&((s1 a.R.Other)&&((s1 a.R.PC)&&((s1 a.R.Flags)&&((s1 a.R.Mask)&&((s1 a.R.Super)&&((s1 a.R.Trace)&&(((s1 true)&&(r1 a.Bus.Bytes))&&(((s1 true)&&(r1 a.Bus.Log))&&((s1 a.Stop)&&((s1 a.Halt)&&true))))))))))))&&(aP3 a))
def aP4:Bool:=(((eA a)&&(((eA a)&&(((eA a)&&(((eA a)&&(((eA a)&&(((eA a)&&(((eA a)&&(((eA a)&&(((eA a)&&(((eA a)&&(((eA a)&&(((eA a)&&((eA a)&&(eG a)))&&(eG a)))&&(eG a)))&&(eG a)))&&(eG a)))&&(eG a)))&&(eG a)))&&(eG a)))&&(eG a)))&&(eG a)))&&(eG a)))&&(eG a)))&&(eG a))
def aP5:Bool:=((eA a)&&(((eA a)&&(((eA a)&&(((eA a)&&(((eA a)&&(((eA a)&&(((eA a)&&(((eA a)&&(((eA a)&&(((eA a)&&(((eA a)&&(((eA a)&&(((eA a)&&(aP4 a))&&(eG a)))&&(eG a)))&&(eG a)))&&(eG a)))&&(eG a)))&&(eG a)))&&(eG a)))&&(eG a)))&&(eG a)))&&(eG a)))&&(eG a)))&&(eG a)))
def aEU:Bool:=((e1 (ln (uG a.R).D))&&((e1 (ln (uG a.R).A))&&((e1 (ln (J4 a.Bus).Bytes))&&((e1 (ln (J4 a.Bus).Log))&&true))))
end
def T74(a:aJ):Pt (aJ):=(.ok true (.ok ((eA a)&&(((eA a)&&(((eA a)&&(((eA a)&&((aP5 a)&&(eG a)))&&(eG a)))&&(eG a)))&&(eG a))) (.ok ((aEU a)&&((aEU a)&&true)) (.leaf {a with R:=(uG a.R),Bus:=(J4 a.Bus)}))))
def sI(a:aJ):aJ:=hid (T74 a).val
def k74(a:aJ):Bool:=hid (T74 a).okv
def n74(a:aJ)(r:aJ):SV×List Blk:=((.agg [.sl 0 0 (ln r.R.D), .sl 1 0 (ln r.R.A),li r.R.Other,li r.R.PC,li r.R.Flags,li r.R.Mask, .lit (.bool r.R.Super), .lit (.bool r.R.Trace), .sl 2 0 (ln r.Bus.Bytes), .sl 3 0 (ln r.Bus.Log), .lit (.bool r.Stop), .lit (.bool r.Halt)]),[.lst 1 r.R.D, .lst 1 r.R.A, .lst 1 r.Bus.Bytes, .lst 5 r.Bus.Log])
def q74:=ZT (fun a=>n74 a (sI a)) k74
theorem t74:bX 74 q74:=J3 fun a hk=>tc a61 V4 [(4,K6),(7,K7),(10,mA),(12,mA)] [] true (T74 a) (n74 a) hk
def Q74:=aV 74 q74 Q152
theorem aEV:QO Q74:=aG t74 V4
def aEW(a:Bool)(b:Int):Pt (Int):=(.ok true (.ok true (.br a (.ok true (.ok true (.ok true (.leaf b)))) (.ok true (.ok true (.ok true (.leaf 0)))))))
def FZ(a:Bool)(b:Int):Int:=hid (aEW a b).val
def GA(a:Bool)(b:Int):Bool:=hid (aEW a b).okv
def q178:=DS4 (fun a b=>aKL a b (FZ a b)) GA
theorem a9W:bX 100178 q178:=aPP fun a b hk=>tz aZV aEV [] [] true (aEW a b) (aKL a b) hk
def Q178:=aV 100178 q178 Q74
theorem V5:QO Q178:=aG a9W aEV
def a9X(a:aI):List SV:=[(.one (.ptr 0 0 0))]
def a9Y(a:aI):List Blk:=[.box [.imm false 1 a.D, .imm false 1 a.A,li a.Other,li a.PC,li a.Flags,li a.Mask, .lit (.bool a.Super), .lit (.bool a.Trace)]]
def aSL(N:aI→SV×List Blk)(K:aI→Bool):List SV→List Blk→Option ((SV×List Blk)×Bool)
 |[(.one (.ptr 0 0 0))],[.box [.imm false 1 c0, .imm false 1 c1,li c2,li c3,li c4,li c5, .lit (.bool c6), .lit (.bool c7)]]=>some (N (aI.mk c0 c1 c2 c3 c4 c5 c6 c7),K (aI.mk c0 c1 c2 c3 c4 c5 c6 c7))
 |_,_=>none
theorem aSM{N:aI→SV×List Blk}{K:aI→Bool}{f:Nat}(h: ∀(a:aI),K a=true→cF R f (a9X a) (a9Y a)=some (N a)):bX f (aSL N K):=fun _ _ _ e=>by
 unfold aSL at e;split at e
 ·exact mQ e (h _)
 ·cases e
def aEX(a:aI):Pt (Int):=(.ok true (.ok ((GA a.Super 256)&&((GA a.Trace 512)&&true)) (.ok true (.leaf (aR (aR (aR a.Flags (dD 32 a.Mask)) (FZ a.Super 256)) (FZ a.Trace 512))))))
def aEY(a:aI):Int:=hid (aEX a).val
def aMR(a:aI):Bool:=hid (aEX a).okv
def a10(a:aI)(r:Int):SV×List Blk:=((.one (li r)),[.box [.imm false 1 a.D, .imm false 1 a.A,li a.Other,li a.PC,li a.Flags,li a.Mask, .lit (.bool a.Super), .lit (.bool a.Trace)]])
def q166:=aSL (fun a=>a10 a (aEY a)) aMR
theorem a9Z:bX 166 q166:=aSM fun a hk=>tc aBY V5 [(6,K0),(10,K0),(16,mA),(22,mA)] [] true (aEX a) (a10 a) hk
def Q166:=aV 166 q166 Q178
theorem V6:QO Q166:=aG a9Z V5
def a90(a:aJ)(b:aE)(p0:Bool)(p1:Bool)(p2:Bool)(p3:Bool):List SV:=[(.agg [.imm p0 1 a.R.D, .imm p1 1 a.R.A,li a.R.Other,li a.R.PC,li a.R.Flags,li a.R.Mask, .lit (.bool a.R.Super), .lit (.bool a.R.Trace), .imm p2 1 a.Bus.Bytes, .imm p3 5 a.Bus.Log, .lit (.bool a.Stop), .lit (.bool a.Halt)]),(.agg [li b.Vector,li b.PC,li b.Addr,li b.Word, .lit (.bool b.Write)])]
def a91(a:aJ)(b:aE)(p0:Bool)(p1:Bool)(p2:Bool)(p3:Bool):List Blk:=[]
def aSN(N:aJ→aE→SV×List Blk)(K:aJ→aE→Bool):List SV→List Blk→Option ((SV×List Blk)×Bool)
 |[(.agg [.imm p0 1 c0, .imm p1 1 c1,li c2,li c3,li c4,li c5, .lit (.bool c6), .lit (.bool c7), .imm p2 1 c8, .imm p3 5 c9, .lit (.bool c10), .lit (.bool c11)]),(.agg [li c12,li c13,li c14,li c15, .lit (.bool c16)])],[]=>some (N (aJ.mk (aI.mk c0 c1 c2 c3 c4 c5 c6 c7) (aO.mk c8 c9) c10 c11) (aE.mk c12 c13 c14 c15 c16),K (aJ.mk (aI.mk c0 c1 c2 c3 c4 c5 c6 c7) (aO.mk c8 c9) c10 c11) (aE.mk c12 c13 c14 c15 c16))
 |_,_=>none
theorem aSO{N:aJ→aE→SV×List Blk}{K:aJ→aE→Bool}{f:Nat}(h: ∀(a:aJ)(b:aE)(p0:Bool)(p1:Bool)(p2:Bool)(p3:Bool),K a b=true→cF R f (a90 a b p0 p1 p2 p3) (a91 a b p0 p1 p2 p3)=some (N a b)):bX f (aSN N K):=fun _ _ _ e=>by
 unfold aSN at e;split at e
 ·exact mQ e (h _ _ _ _ _ _)
 ·cases e
def aEZ(a:aJ)(b:aE):Pt (Int):=(.ok true (.ok ((GA b.Write 1)&&((GA a.R.Super 2)&&true)) (.ok true (.ok true (.leaf (rM (FZ b.Write 1) (FZ a.R.Super 2)))))))
def aE0(a:aJ)(b:aE):Int:=hid (aEZ a b).val
def aE1(a:aJ)(b:aE):Bool:=hid (aEZ a b).okv
def a11(a:aJ)(b:aE)(r:Int):SV×List Blk:=((.one (li r)),[])
def q113:=aSN (fun a b=>a11 a b (aE0 a b)) aE1
theorem a92:bX 100113 q113:=aSO fun a b p0 p1 p2 p3 hk=>tz aY3 V6 [(6,mA),(10,mA)] [] true (aEZ a b) (a11 a b) hk
def Q113:=aV 100113 q113 Q166
theorem V7:QO Q113:=aG a92 V6
def a93(a:aJ)(b:aE):List SV:=[(.agg [.imm false 1 a.R.D, .imm false 1 a.R.A,li a.R.Other,li a.R.PC,li a.R.Flags,li a.R.Mask, .lit (.bool a.R.Super), .lit (.bool a.R.Trace), .imm false 1 a.Bus.Bytes, .imm false 5 a.Bus.Log, .lit (.bool a.Stop), .lit (.bool a.Halt)]),(.agg [li b.Vector,li b.PC,li b.Addr,li b.Word, .lit (.bool b.Write)])]
def a94(a:aJ)(b:aE):List Blk:=[]
def aSP(N:aJ→aE→SV×List Blk)(K:aJ→aE→Bool):List SV→List Blk→Option ((SV×List Blk)×Bool)
 |[(.agg [.imm false 1 c0, .imm false 1 c1,li c2,li c3,li c4,li c5, .lit (.bool c6), .lit (.bool c7), .imm false 1 c8, .imm false 5 c9, .lit (.bool c10), .lit (.bool c11)]),(.agg [li c12,li c13,li c14,li c15, .lit (.bool c16)])],[]=>some (N (aJ.mk (aI.mk c0 c1 c2 c3 c4 c5 c6 c7) (aO.mk c8 c9) c10 c11) (aE.mk c12 c13 c14 c15 c16),K (aJ.mk (aI.mk c0 c1 c2 c3 c4 c5 c6 c7) (aO.mk c8 c9) c10 c11) (aE.mk c12 c13 c14 c15 c16))
 |_,_=>none
theorem aSQ{N:aJ→aE→SV×List Blk}{K:aJ→aE→Bool}{f:Nat}(h: ∀(a:aJ)(b:aE),K a b=true→cF R f (a93 a b) (a94 a b)=some (N a b)):bX f (aSP N K):=fun _ _ _ e=>by
 unfold aSP at e;split at e
 ·exact mQ e (h _ _)
 ·cases e
section
variable(a:aJ)(b:aE)
def aE2:Bool:=((((s1 false)&&(r1 a.R.D))&&(((s1 false)&&(r1 a.R.A))&&((s1 a.R.Other)&&((s1 a.R.PC)&&((s1 a.R.Flags)&&((s1 a.R.Mask)&&((s1 a.R.Super)&&((s1 a.R.Trace)&&(((s1 false)&&(r1 a.Bus.Bytes))&&(((s1 false)&&(r1 a.Bus.Log))&&((s1 a.Stop)&&((s1 a.Halt)&&true))))))))))))&&(((s1 b.Vector)&&((s1 b.PC)&&((s1 b.Addr)&&((s1 b.Word)&&((s1 b.Write)&&true)))))&&((r1 [(aH b.PC),(aH (aEY a.R))])&&true)))
end
def aE3(a:aJ)(b:aE):Pt (List Row):=(.ok true (.ok ((((aMR a.R)&&true)&&true)&&((((aMR a.R)&&true)&&true)&&(((s1 (2:Nat))&&true)&&(aE2 a b)))) (.ok ((RO b)&&true) (.br (RN b) (.ok (((aE1 a b)&&true)&&true) (.ok true (.ok true (.leaf [(aH b.PC),(aH (aEY a.R)),(aH b.Word),(aH b.Addr),(aH (aE0 a b))])))) (.ok true (.ok true (.leaf [(aH b.PC),(aH (aEY a.R))])))))))
def J5(a:aJ)(b:aE):List Row:=hid (aE3 a b).val
def aSR(a:aJ)(b:aE):Bool:=hid (aE3 a b).okv
def aMS(a:aJ)(b:aE)(r:List Row):SV×List Blk:=((.one (.sl 0 0 (ln r))),[.lst 1 r])
def q104:=aSP (fun a b=>aMS a b (J5 a b)) aSR
theorem a95:bX 104 q104:=aSQ fun a b hk=>tc aPF V7 [(7,K0),(11,K9),(15,K0),(17,K0),(18,K8),(19,K9)] [] true (aE3 a b) (aMS a b) hk
def Q104:=aV 104 q104 Q113
theorem V8:QO Q104:=aG a95 V7
def a96(a:aI):List SV:=[(.one (.ptr 0 0 0))]
def a97(a:aI):List Blk:=[.box [.sl 1 0 (ln a.D), .sl 2 0 (ln a.A),li a.Other,li a.PC,li a.Flags,li a.Mask, .lit (.bool a.Super), .lit (.bool a.Trace)], .lst 1 a.D, .lst 1 a.A]
def aSS(N:aI→SV×List Blk)(K:aI→Bool):List SV→List Blk→Option ((SV×List Blk)×Bool)
 |[(.one (.ptr 0 0 0))],[.box [.sl 1 0 l1, .sl 2 0 l2,li c0,li c1,li c2,li c3, .lit (.bool c4), .lit (.bool c5)], .lst 1 c_1, .lst 1 c_2]=>some (N (aI.mk c_1 c_2 c0 c1 c2 c3 c4 c5),dR l1 (ln c_1)&&(dR l2 (ln c_2)&&(K (aI.mk c_1 c_2 c0 c1 c2 c3 c4 c5))))
 |_,_=>none
theorem aST{N:aI→SV×List Blk}{K:aI→Bool}{f:Nat}(h: ∀(a:aI),K a=true→cF R f (a96 a) (a97 a)=some (N a)):bX f (aSS N K):=fun args hp r e=>by
 unfold aSS at e;split at e
 ·rename_i l1 l2 c0 c1 c2 c3 c4 c5 c_1 c_2;obtain⟨hr,hk⟩:=qp (qi e);obtain⟨d0,hk0⟩:=aT hk;obtain⟨d1,hk1⟩:=aT hk0;obtain rfl:=of_decide_eq_true d0;obtain rfl:=of_decide_eq_true d1;rw[←hr];exact h (aI.mk c_1 c_2 c0 c1 c2 c3 c4 c5) hk1
 ·simp at e
section
variable(a:aI)
def DU:Bool:=((e1 (ln a.D))&&((e1 (ln a.A))&&true))
end
def DV(a:aI):Pt (Int):=(.ok true (.ok ((GA a.Super 256)&&((GA a.Trace 512)&&true)) (.ok (((DU a)&&(DU a))&&true) (.leaf (aR (aR (aR a.Flags (dD 32 a.Mask)) (FZ a.Super 256)) (FZ a.Trace 512))))))
def J6(a:aI):Int:=hid (DV a).val
def RY(a:aI):Bool:=hid (DV a).okv
def aE4(a:aI)(r:Int):SV×List Blk:=((.one (li r)),[.box [.sl 1 0 (ln a.D), .sl 2 0 (ln a.A),li a.Other,li a.PC,li a.Flags,li a.Mask, .lit (.bool a.Super), .lit (.bool a.Trace)], .lst 1 a.D, .lst 1 a.A])
def q166v1:=aSS (fun a=>aE4 a (J6 a)) RY
theorem aSU:bX 166 q166v1:=aST fun a hk=>tc aBY V8 [(6,K0),(10,K0),(16,mA),(22,mA)] [] true (DV a) (aE4 a) hk
def Q166v1:=aV 166 q166v1 Q104
theorem HG:QO Q166v1:=aG aSU V8
def a98(b:Int)(a:aI):List SV:=[(.one (.ptr 0 0 0)),(.one (li b))]
def a99(b:Int)(a:aI):List Blk:=[.box [.sl 1 0 (ln a.D), .sl 2 0 (ln a.A),li a.Other,li a.PC,li a.Flags,li a.Mask, .lit (.bool a.Super), .lit (.bool a.Trace)], .lst 1 a.D, .lst 1 a.A]
def aSV(N:Int→aI→SV×List Blk)(K:Int→aI→Bool):List SV→List Blk→Option ((SV×List Blk)×Bool)
 |[(.one (.ptr 0 0 0)),(.one (li c0))],[.box [.sl 1 0 l1, .sl 2 0 l2,li c1,li c2,li c3,li c4, .lit (.bool c5), .lit (.bool c6)], .lst 1 c_1, .lst 1 c_2]=>some (N c0 (aI.mk c_1 c_2 c1 c2 c3 c4 c5 c6),dR l1 (ln c_1)&&(dR l2 (ln c_2)&&(K c0 (aI.mk c_1 c_2 c1 c2 c3 c4 c5 c6))))
 |_,_=>none
theorem aSW{N:Int→aI→SV×List Blk}{K:Int→aI→Bool}{f:Nat}(h: ∀(b:Int)(a:aI),K b a=true→cF R f (a98 b a) (a99 b a)=some (N b a)):bX f (aSV N K):=fun args hp r e=>by
 unfold aSV at e;split at e
 ·rename_i c0 l1 l2 c1 c2 c3 c4 c5 c6 c_1 c_2;obtain⟨hr,hk⟩:=qp (qi e);obtain⟨d0,hk0⟩:=aT hk;obtain⟨d1,hk1⟩:=aT hk0;obtain rfl:=of_decide_eq_true d0;obtain rfl:=of_decide_eq_true d1;rw[←hr];exact h c0 (aI.mk c_1 c_2 c1 c2 c3 c4 c5 c6) hk1
 ·simp at e
section
variable(a:aI)
def DW:Bool:=((e1 (ln a.D))&&((e1 (ln a.A))&&true))
def RZ:Bool:=((e1 (ln a.D))&&((dR (ln a.A) (ln (List.set a.A 3 (aH a.Other))))&&true))
end
def aE5(b:Int)(a:aI):Pt (aI):=(.ok true (.ok true (.ok true (.br (!(uZ (eV (cM b 256) 0) a.Super)) (.ok true (.ok (((ltI 3 (aX a.A))&&((dC [.int .i64] a.A 3 0)&&((ltI 3 (aX a.A))&&(((blt 3 (ln a.A))&&(gD (gE a.A 3) 1))&&true))))&&true) (.ok ((((DW a)&&(RZ a))&&true)&&((RZ a)&&true)) (.leaf (aI.mk a.D (List.set a.A 3 (aH a.Other)) (aU a.A 3 0) a.PC (cM b 31) (cM (xQ b 5) 7) (eV (cM b 256) 0) (eV (cM b 512) 0)))))) (.ok ((((DW a)&&(DW a))&&true)&&((DW a)&&true)) (.leaf {a with Flags:=(cM b 31),Mask:=(cM (xQ b 5) 7),Trace:=(eV (cM b 512) 0)}))))))
def aSX(b:Int)(a:aI):aI:=hid (aE5 b a).val
def aSY(b:Int)(a:aI):Bool:=hid (aE5 b a).okv
def a12(b:Int)(a:aI)(r:aI):SV×List Blk:=((.tup []),[.box [.sl 1 0 (ln r.D), .sl 2 0 (ln r.A),li r.Other,li r.PC,li r.Flags,li r.Mask, .lit (.bool r.Super), .lit (.bool r.Trace)], .lst 1 r.D, .lst 1 r.A])
def q165:=aSV (fun b a=>a12 b a (aSX b a)) aSY
theorem bAA:bX 165 q165:=aSW fun b a hk=>tc aZL HG [(29,mA),(38,K1),(43,K0),(47,K1),(48,K0),(49,K0),(50,K0),(1000001,[])] [] true (aE5 b a) (a12 b a) hk
def Q165:=aV 165 q165 Q166v1
theorem V9:QO Q165:=aG bAA HG
def aE6(a:Int):Pt (Int):=(.ok true (.ok ((wH a 448 495)&&true) (.br (bif (rO a 448 495)then true else(rE a 512)) (.ok true (.ok true (.ok true (.leaf 1)))) (.ok ((wH a 384 447)&&true) (.br (rO a 384 447) (.ok true (.ok true (.ok true (.leaf 3)))) (.ok true (.ok true (.ok true (.leaf 0)))))))))
def aE7(a:Int):Int:=hid (aE6 a).val
def aMT(a:Int):Bool:=hid (aE6 a).okv
def q230:=IG (fun a=>ND a (aE7 a)) aMT
theorem bAB:bX 100230 q230:=i9 fun a hk=>tz a0K V9 [] [] true (aE6 a) (ND a) hk
def Q230:=aV 100230 q230 Q165
theorem WA:QO Q230:=aG bAB V9
section
variable(b:Int)(c:Int)
def R0:Int:=(aE7 (eQ (aR c b) 1))
end
def aE8(a:Int)(b:Int)(c:Int):Pt (Int):=(.ok true (.ok true (.br (bif (eqI b 2)then(eqI (M4 c 2) 1)else false) (.ok true (.ok true (.ok true (.leaf 2)))) (.ok ((aMT c)&&((aMT (eQ (aR c b) 1))&&true)) (.ok true (.br (bif (eqI (aE7 c) 1)then true else(eqI (R0 b c) 1)) (.ok true (.ok true (.ok true (.leaf 1)))) (.ok true (.br (bif (eqI a 2)then(bif (eqI (aE7 c) 3)then true else(eqI (R0 b c) 3))else false) (.ok true (.ok true (.ok true (.leaf 3)))) (.ok true (.ok true (.ok true (.leaf 0))))))))))))
def wK(a:Int)(b:Int)(c:Int):Int:=hid (aE8 a b c).val
def aMU(a:Int)(b:Int)(c:Int):Bool:=hid (aE8 a b c).okv
def aMV(a:Int)(b:Int)(c:Int)(r:Int):SV×List Blk:=((.one (li r)),[])
def q176:=DS5 (fun a b c=>aMV a b c (wK a b c)) aMU
theorem bAC:bX 100176 q176:=UT fun a b c hk=>tz aZU WA [] [] true (aE8 a b c) (aMV a b c) hk
def Q176:=aV 100176 q176 Q230
theorem WB:QO Q176:=aG bAC WA
def bAD(b:Int)(c:Int)(d:Int)(a:aO):List SV:=[(.one (.ptr 0 0 0)),(.one (li b)),(.one (li c)),(.one (li d))]
def bAE(b:Int)(c:Int)(d:Int)(a:aO):List Blk:=[.box [.sl 1 0 (ln a.Bytes), .sl 2 0 (ln a.Log)], .lst 1 a.Bytes, .lst 5 a.Log]
def aSZ(N:Int→Int→Int→aO→SV×List Blk)(K:Int→Int→Int→aO→Bool):List SV→List Blk→Option ((SV×List Blk)×Bool)
 |[(.one (.ptr 0 0 0)),(.one (li c0)),(.one (li c1)),(.one (li c2))],[.box [.sl 1 0 l1, .sl 2 0 l2], .lst 1 c_1, .lst 5 c_2]=>some (N c0 c1 c2 (aO.mk c_1 c_2),dR l1 (ln c_1)&&(dR l2 (ln c_2)&&(K c0 c1 c2 (aO.mk c_1 c_2))))
 |_,_=>none
theorem aS0{N:Int→Int→Int→aO→SV×List Blk}{K:Int→Int→Int→aO→Bool}{f:Nat}(h: ∀(b:Int)(c:Int)(d:Int)(a:aO),K b c d a=true→cF R f (bAD b c d a) (bAE b c d a)=some (N b c d a)):bX f (aSZ N K):=fun args hp r e=>by
 unfold aSZ at e;split at e
 ·rename_i c0 c1 c2 l1 l2 c_1 c_2;obtain⟨hr,hk⟩:=qp (qi e);obtain⟨d0,hk0⟩:=aT hk;obtain⟨d1,hk1⟩:=aT hk0;obtain rfl:=of_decide_eq_true d0;obtain rfl:=of_decide_eq_true d1;rw[←hr];exact h c0 c1 c2 (aO.mk c_1 c_2) hk1
 ·simp at e
section
variable(c:Int)(d:Int)(a:aO)
def J7:Bool:=(((leI 0 c)&&(ltI c (aX a.Bytes)))&&(((blt (0+(iN c)) (ln a.Bytes))&&(gD (gE a.Bytes (0+(iN c))) 1))&&true))
def DX:List Row:=(List.set a.Bytes (0+(iN c)) (aH (xQ d 8)))
def J8:Bool:=((e1 (ln a.Bytes))&&((e1 (ln a.Log))&&true))
def J9:List Row:=(List.set (DX c d a) (0+(iN (aR c 1))) (aH (cM d 255)))
def KA:Bool:=((dR (ln a.Bytes) (ln (J9 c d a)))&&((e1 (ln a.Log))&&true))
def KB:List Row:=(List.set a.Bytes (0+(iN c)) (aH (cM d 255)))
def KC:Bool:=((dR (ln a.Bytes) (ln (KB c d a)))&&((e1 (ln a.Log))&&true))
end
def aE9(b:Int)(c:Int)(d:Int)(a:aO):Pt (aO):=(.ok true (.br (eqI b 2) (.ok (J7 c a) (.ok true (.ok (((leI 0 (aR c 1))&&(ltI (aR c 1) (aX a.Bytes)))&&(((blt (0+(iN (aR c 1))) (ln (DX c d a)))&&(gD (gE (DX c d a) (0+(iN (aR c 1)))) 1))&&true)) (.ok ((((J8 a)&&(KA c d a))&&true)&&((KA c d a)&&true)) (.leaf {a with Bytes:=(J9 c d a)}))))) (.ok (J7 c a) (.ok ((((J8 a)&&(KC c d a))&&true)&&((KC c d a)&&true)) (.leaf {a with Bytes:=(KB c d a)})))))
def AF(b:Int)(c:Int)(d:Int)(a:aO):aO:=hid (aE9 b c d a).val
def aS1(b:Int)(c:Int)(d:Int)(a:aO):Bool:=hid (aE9 b c d a).okv
def a13(b:Int)(c:Int)(d:Int)(a:aO)(r:aO):SV×List Blk:=((.tup []),[.box [.sl 1 0 (ln r.Bytes), .sl 2 0 (ln r.Log)], .lst 1 r.Bytes, .lst 5 r.Log])
def q205:=aSZ (fun b c d a=>a13 b c d a (AF b c d a)) aS1
theorem bAF:bX 205 q205:=aS0 fun b c d a hk=>tc a0C WB [(13,K1),(17,K0),(23,K1),(27,K0),(1000001,[])] [] true (aE9 b c d a) (a13 b c d a) hk
def Q205:=aV 205 q205 Q176
theorem WC:QO Q205:=aG bAF WB
def bAG(b:Int)(c:Int)(a:aO):List SV:=[(.one (.ptr 0 0 0)),(.one (li b)),(.one (li c))]
def bAH(b:Int)(c:Int)(a:aO):List Blk:=[.box [.sl 1 0 (ln a.Bytes), .sl 2 0 (ln a.Log)], .lst 1 a.Bytes, .lst 5 a.Log]
def aS2(N:Int→Int→aO→SV×List Blk)(K:Int→Int→aO→Bool):List SV→List Blk→Option ((SV×List Blk)×Bool)
 |[(.one (.ptr 0 0 0)),(.one (li c0)),(.one (li c1))],[.box [.sl 1 0 l1, .sl 2 0 l2], .lst 1 c_1, .lst 5 c_2]=>some (N c0 c1 (aO.mk c_1 c_2),dR l1 (ln c_1)&&(dR l2 (ln c_2)&&(K c0 c1 (aO.mk c_1 c_2))))
 |_,_=>none
theorem aS3{N:Int→Int→aO→SV×List Blk}{K:Int→Int→aO→Bool}{f:Nat}(h: ∀(b:Int)(c:Int)(a:aO),K b c a=true→cF R f (bAG b c a) (bAH b c a)=some (N b c a)):bX f (aS2 N K):=fun args hp r e=>by
 unfold aS2 at e;split at e
 ·rename_i c0 c1 l1 l2 c_1 c_2;obtain⟨hr,hk⟩:=qp (qi e);obtain⟨d0,hk0⟩:=aT hk;obtain⟨d1,hk1⟩:=aT hk0;obtain rfl:=of_decide_eq_true d0;obtain rfl:=of_decide_eq_true d1;rw[←hr];exact h c0 c1 (aO.mk c_1 c_2) hk1
 ·simp at e
section
variable(c:Int)(a:aO)
def KD:Bool:=(dC [.int .i64] a.Bytes (0+(iN c)) 0)
def yM:Bool:=((e1 (ln a.Bytes))&&((e1 (ln a.Log))&&true))
end
def aFA(b:Int)(c:Int)(a:aO):Pt (Int):=(.ok true (.ok true (.br (eqI b 1) (.ok (((leI 0 c)&&(ltI c (aX a.Bytes)))&&((KD c a)&&true)) (.ok (((yM a)&&(yM a))&&true) (.leaf (aU a.Bytes (0+(iN c)) 0)))) (.ok (((leI 0 c)&&(ltI c (aX a.Bytes)))&&((KD c a)&&(((leI 0 (aR c 1))&&(ltI (aR c 1) (aX a.Bytes)))&&((dC [.int .i64] a.Bytes (0+(iN (aR c 1))) 0)&&true)))) (.ok (((yM a)&&(yM a))&&true) (.leaf (rM (nH (aU a.Bytes (0+(iN c)) 0) 8) (aU a.Bytes (0+(iN (aR c 1))) 0))))))))
def aFB(b:Int)(c:Int)(a:aO):Int:=hid (aFA b c a).val
def aS4(b:Int)(c:Int)(a:aO):Bool:=hid (aFA b c a).okv
def a14(b:Int)(c:Int)(a:aO)(r:Int):SV×List Blk:=((.one (li r)),[.box [.sl 1 0 (ln a.Bytes), .sl 2 0 (ln a.Log)], .lst 1 a.Bytes, .lst 5 a.Log])
def q177:=aS2 (fun b c a=>a14 b c a (aFB b c a)) aS4
theorem bAI:bX 177 q177:=aS3 fun b c a hk=>tc aPI WC [(12,K1),(14,K0),(15,K0),(19,K1),(21,K0),(22,K0),(27,K1),(30,K0),(31,K0)] [] true (aFA b c a) (a14 b c a) hk
def Q177:=aV 177 q177 Q205
theorem WD:QO Q177:=aG bAI WC
def bAJ(b:Int)(c:Int)(d:Int)(o:Int)(a:aO):List SV:=[(.one (.ptr 0 0 0)),(.one (li b)),(.one (li c)),(.one (li d)),(.one (li o))]
def bAK(b:Int)(c:Int)(d:Int)(o:Int)(a:aO):List Blk:=[.box [.sl 1 0 (ln a.Bytes), .sl 2 0 (ln a.Log)], .lst 1 a.Bytes, .lst 5 a.Log]
def aMW(N:Int→Int→Int→Int→aO→SV×List Blk)(K:Int→Int→Int→Int→aO→Bool):List SV→List Blk→Option ((SV×List Blk)×Bool)
 |[(.one (.ptr 0 0 0)),(.one (li c0)),(.one (li c1)),(.one (li c2)),(.one (li c3))],[.box [.sl 1 0 l1, .sl 2 0 l2], .lst 1 c_1, .lst 5 c_2]=>some (N c0 c1 c2 c3 (aO.mk c_1 c_2),dR l1 (ln c_1)&&(dR l2 (ln c_2)&&(K c0 c1 c2 c3 (aO.mk c_1 c_2))))
 |_,_=>none
theorem aFC{N:Int→Int→Int→Int→aO→SV×List Blk}{K:Int→Int→Int→Int→aO→Bool}{f:Nat}(h: ∀(b:Int)(c:Int)(d:Int)(o:Int)(a:aO),K b c d o a=true→cF R f (bAJ b c d o a) (bAK b c d o a)=some (N b c d o a)):bX f (aMW N K):=fun args hp r e=>by
 unfold aMW at e;split at e
 ·rename_i c0 c1 c2 c3 l1 l2 c_1 c_2;obtain⟨hr,hk⟩:=qp (qi e);obtain⟨d0,hk0⟩:=aT hk;obtain⟨d1,hk1⟩:=aT hk0;obtain rfl:=of_decide_eq_true d0;obtain rfl:=of_decide_eq_true d1;rw[←hr];exact h c0 c1 c2 c3 (aO.mk c_1 c_2) hk1
 ·simp at e
section
variable(b:Int)(c:Int)(d:Int)(o:Int)(a:aO)
def DY:Bool:=((iE (0+(ln a.Log)) (ln a.Log))&&true)
def DZ:Bool:=(!(bif (eqI b 3)then(eqI (wK b c d) 0)else false))
def D0:Bool:=(bif (ltI (aX a.Log) 400)then(DZ b c d)else false)
def D1:Bool:=(((e1 (ln a.Log))&&((dR (0+(ln a.Log)) (ln a.Log))&&((iE (kL ((ln a.Log)+1) 40) 140737488355328)&&(iE ((ln a.Log)+1) 140737488355328))))&&true)
def D2:List Row:=(a.Log++[(aA.row (aA.mk b c d (bif (eV b 2)then 0 else o) (wK b c d)))])
def D3:Bool:=((e1 (ln a.Bytes))&&((e1 (ln (D2 b c d o a)))&&true))
def kP:Bool:=((e1 (ln a.Bytes))&&((e1 (ln a.Log))&&true))
def D4:Nat:=(0+(ln (AF c d o a).Log))
def D5:Bool:=(e1 (ln (AF c d o a).Log))
def D6:Nat:=((ln (AF c d o a).Log)+1)
def wL:Bool:=(e1 (ln (AF c d o a).Bytes))
def wM:List Row:=((AF c d o a).Log++[(aA.row (aA.mk b c d (bif (eV b 2)then 0 else o) (wK b c d)))])
def wN:Bool:=((wL c d o a)&&((e1 (ln (wM b c d o a)))&&true))
def wO:Bool:=((wL c d o a)&&((D5 c d o a)&&true))
def wP:List Row:=(a.Log++[(aA.row (aA.mk b c d (aFB c d a) (wK b c d)))])
def wQ:Bool:=((e1 (ln a.Bytes))&&((e1 (ln (wP b c d a)))&&true))
end
def R1(b:Int)(c:Int)(d:Int)(o:Int)(a:aO):Pt (aO×Int×Int):=(.ok true (.ok ((aMU b c d)&&true) (.ok true (.ok true (.ok true (.ok true (.ok true (.br (eV (wK b c d) 0) (.ok (DY a) (.br (D0 b c d a) (.ok (D1 a) (.ok true (.ok (((D3 b c d o a)&&(D3 b c d o a))&&true) (.leaf ({a with Log:=(D2 b c d o a)},0,(wK b c d)))))) (.ok true (.ok (((kP a)&&(kP a))&&true) (.leaf (a,0,(wK b c d))))))) (.ok true (.br (eqI b 2) (.ok (((((kP a)&&(kP a))&&true)&&((e1 (ln a.Bytes))&&((e1 (ln a.Log))&&(aS1 c d o a))))&&true) (.ok ((iE (D4 c d o a) (ln (AF c d o a).Log))&&true) (.br (bif (ltI (aX (AF c d o a).Log) 400)then(DZ b c d)else false) (.ok (((D5 c d o a)&&((dR (D4 c d o a) (ln (AF c d o a).Log))&&((iE (kL (D6 c d o a) 40) 140737488355328)&&(iE (D6 c d o a) 140737488355328))))&&true) (.ok true (.ok (((wN b c d o a)&&(wN b c d o a))&&true) (.leaf ({(AF c d o a)with Log:=(wM b c d o a)},0,(wK b c d)))))) (.ok true (.ok (((wO c d o a)&&(wO c d o a))&&true) (.leaf ((AF c d o a),0,(wK b c d)))))))) (.ok (((((kP a)&&(kP a))&&true)&&((e1 (ln a.Bytes))&&((e1 (ln a.Log))&&(aS4 c d a))))&&true) (.ok true (.ok (DY a) (.br (D0 b c d a) (.ok (D1 a) (.ok true (.ok (((wQ b c d a)&&(wQ b c d a))&&true) (.leaf ({a with Log:=(wP b c d a)},(aFB c d a),(wK b c d)))))) (.ok true (.ok (((kP a)&&(kP a))&&true) (.leaf (a,(aFB c d a),(wK b c d)))))))))))))))))))
def R2(b:Int)(c:Int)(d:Int)(o:Int)(a:aO):aO×Int×Int:=hid (R1 b c d o a).val
def NE(b:Int)(c:Int)(d:Int)(o:Int)(a:aO):Bool:=hid (R1 b c d o a).okv
def aMX(b:Int)(c:Int)(d:Int)(o:Int)(a:aO)(r:aO×Int×Int):SV×List Blk:=((.tup [(.one (li r.2.1)),(.one (li r.2.2))]),[.box [.sl 1 0 (ln r.1.Bytes), .sl 2 0 (ln r.1.Log)], .lst 1 r.1.Bytes, .lst 5 r.1.Log])
def q153:=aMW (fun b c d o a=>aMX b c d o a (R2 b c d o a)) NE
theorem bAL:bX 153 q153:=aFC fun b c d o a hk=>tc aZE WD [(41,OC),(57,OC)] [] true (R1 b c d o a) (aMX b c d o a) hk
def Q153:=aV 153 q153 Q177
theorem WE:QO Q153:=aG bAL WD
def bAM(b:Int)(a:aJ):List SV:=[(.one (.ptr 0 0 0)),(.one (li b))]
def bAN(b:Int)(a:aJ):List Blk:=[.box [.sl 1 0 (ln a.R.D), .sl 2 0 (ln a.R.A),li a.R.Other,li a.R.PC,li a.R.Flags,li a.R.Mask, .lit (.bool a.R.Super), .lit (.bool a.R.Trace), .sl 3 0 (ln a.Bus.Bytes), .sl 4 0 (ln a.Bus.Log), .lit (.bool a.Stop), .lit (.bool a.Halt)], .lst 1 a.R.D, .lst 1 a.R.A, .lst 1 a.Bus.Bytes, .lst 5 a.Bus.Log]
def aS5(N:Int→aJ→SV×List Blk)(K:Int→aJ→Bool):List SV→List Blk→Option ((SV×List Blk)×Bool)
 |[(.one (.ptr 0 0 0)),(.one (li c0))],[.box [.sl 1 0 l1, .sl 2 0 l2,li c1,li c2,li c3,li c4, .lit (.bool c5), .lit (.bool c6), .sl 3 0 l3, .sl 4 0 l4, .lit (.bool c7), .lit (.bool c8)], .lst 1 c_1, .lst 1 c_2, .lst 1 c_3, .lst 5 c_4]=>some (N c0 (aJ.mk (aI.mk c_1 c_2 c1 c2 c3 c4 c5 c6) (aO.mk c_3 c_4) c7 c8),dR l1 (ln c_1)&&(dR l2 (ln c_2)&&(dR l3 (ln c_3)&&(dR l4 (ln c_4)&&(K c0 (aJ.mk (aI.mk c_1 c_2 c1 c2 c3 c4 c5 c6) (aO.mk c_3 c_4) c7 c8))))))
 |_,_=>none
theorem aS6{N:Int→aJ→SV×List Blk}{K:Int→aJ→Bool}{f:Nat}(h: ∀(b:Int)(a:aJ),K b a=true→cF R f (bAM b a) (bAN b a)=some (N b a)):bX f (aS5 N K):=fun args hp r e=>by
 unfold aS5 at e;split at e
 ·rename_i c0 l1 l2 c1 c2 c3 c4 c5 c6 l3 l4 c7 c8 c_1 c_2 c_3 c_4;obtain⟨hr,hk⟩:=qp (qi e);obtain⟨d0,hk0⟩:=aT hk;obtain⟨d1,hk1⟩:=aT hk0;obtain⟨d2,hk2⟩:=aT hk1;obtain⟨d3,hk3⟩:=aT hk2;obtain rfl:=of_decide_eq_true d0;obtain rfl:=of_decide_eq_true d1;obtain rfl:=of_decide_eq_true d2;obtain rfl:=of_decide_eq_true d3;rw[←hr];exact h c0 (aJ.mk (aI.mk c_1 c_2 c1 c2 c3 c4 c5 c6) (aO.mk c_3 c_4) c7 c8) hk3
 ·simp at e
section
variable(b:Int)(a:aJ)
def aFD:Bool:=((e1 (ln a.Bus.Bytes))&&((e1 (ln a.Bus.Log))&&true))
def zW:aO×Int×Int:=(R2 2 2 (cM (eQ (aU a.R.A 3 0) 2) 65535) b a.Bus)
def aFE:Bool:=((e1 (ln (zW b a).1.Bytes))&&((e1 (ln (zW b a).1.Log))&&true))
def NF:Bool:=((e1 (ln a.R.D))&&((e1 (ln a.R.A))&&(aFE b a)))
def aFF:List Row:=(List.set a.R.A 3 (aH (cM (eQ (aU a.R.A 3 0) 2) 65535)))
def aFG:Bool:=((e1 (ln a.R.D))&&((dR (ln a.R.A) (ln (aFF a)))&&(aFE b a)))
end
def T75(b:Int)(a:aJ):Pt (aJ×Int×Int):=(.ok true (.ok ((ltI 3 (aX a.R.A))&&((dC [.int .i64] a.R.A 3 0)&&true)) (.ok (((((aFD a)&&(aFD a))&&true)&&((e1 (ln a.Bus.Bytes))&&((e1 (ln a.Bus.Log))&&(NE 2 2 (cM (eQ (aU a.R.A 3 0) 2) 65535) b a.Bus))))&&true) (.ok true (.br (eqI (zW b a).2.2 0) (.ok ((ltI 3 (aX a.R.A))&&(((blt 3 (ln a.R.A))&&(gD (gE a.R.A 3) 1))&&true)) (.ok true (.ok ((((NF b a)&&(aFG b a))&&true)&&((aFG b a)&&true)) (.leaf ({a with R:={a.R with A:=(aFF a)},Bus:=(zW b a).1},(cM (eQ (aU a.R.A 3 0) 2) 65535),(zW b a).2.2))))) (.ok true (.ok ((((NF b a)&&(NF b a))&&true)&&((NF b a)&&true)) (.leaf ({a with Bus:=(zW b a).1},(cM (eQ (aU a.R.A 3 0) 2) 65535),(zW b a).2.2)))))))))
def g75(b:Int)(a:aJ):aJ×Int×Int:=hid (T75 b a).val
def k75(b:Int)(a:aJ):Bool:=hid (T75 b a).okv
def n75(b:Int)(a:aJ)(r:aJ×Int×Int):SV×List Blk:=((.tup [(.one (li r.2.1)),(.one (li r.2.2))]),[.box [.sl 1 0 (ln r.1.R.D), .sl 2 0 (ln r.1.R.A),li r.1.R.Other,li r.1.R.PC,li r.1.R.Flags,li r.1.R.Mask, .lit (.bool r.1.R.Super), .lit (.bool r.1.R.Trace), .sl 3 0 (ln r.1.Bus.Bytes), .sl 4 0 (ln r.1.Bus.Log), .lit (.bool r.1.Stop), .lit (.bool r.1.Halt)], .lst 1 r.1.R.D, .lst 1 r.1.R.A, .lst 1 r.1.Bus.Bytes, .lst 5 r.1.Bus.Log])
def q75:=aS5 (fun b a=>n75 b a (g75 b a)) k75
theorem t75:bX 75 q75:=aS6 fun b a hk=>tc a62 WE [(13,K1),(14,K0),(15,K0),(33,K1),(35,K0),(1000001,[])] [] true (T75 b a) (n75 b a) hk
def Q75:=aV 75 q75 Q153
theorem R3:QO Q75:=aG t75 WE
def bAP(b:aE)(a:aJ):List SV:=[(.one (.ptr 0 0 0)),(.agg [li b.Vector,li b.PC,li b.Addr,li b.Word, .lit (.bool b.Write)])]
def bAQ(b:aE)(a:aJ):List Blk:=[.box [.sl 1 0 (ln a.R.D), .sl 2 0 (ln a.R.A),li a.R.Other,li a.R.PC,li a.R.Flags,li a.R.Mask, .lit (.bool a.R.Super), .lit (.bool a.R.Trace), .sl 3 0 (ln a.Bus.Bytes), .sl 4 0 (ln a.Bus.Log), .lit (.bool a.Stop), .lit (.bool a.Halt)], .lst 1 a.R.D, .lst 1 a.R.A, .lst 1 a.Bus.Bytes, .lst 5 a.Bus.Log]
def aS7(N:aE→aJ→SV×List Blk)(K:aE→aJ→Bool):List SV→List Blk→Option ((SV×List Blk)×Bool)
 |[(.one (.ptr 0 0 0)),(.agg [li c0,li c1,li c2,li c3, .lit (.bool c4)])],[.box [.sl 1 0 l1, .sl 2 0 l2,li c5,li c6,li c7,li c8, .lit (.bool c9), .lit (.bool c10), .sl 3 0 l3, .sl 4 0 l4, .lit (.bool c11), .lit (.bool c12)], .lst 1 c_1, .lst 1 c_2, .lst 1 c_3, .lst 5 c_4]=>some (N (aE.mk c0 c1 c2 c3 c4) (aJ.mk (aI.mk c_1 c_2 c5 c6 c7 c8 c9 c10) (aO.mk c_3 c_4) c11 c12),dR l1 (ln c_1)&&(dR l2 (ln c_2)&&(dR l3 (ln c_3)&&(dR l4 (ln c_4)&&(K (aE.mk c0 c1 c2 c3 c4) (aJ.mk (aI.mk c_1 c_2 c5 c6 c7 c8 c9 c10) (aO.mk c_3 c_4) c11 c12))))))
 |_,_=>none
theorem aS8{N:aE→aJ→SV×List Blk}{K:aE→aJ→Bool}{f:Nat}(h: ∀(b:aE)(a:aJ),K b a=true→cF R f (bAP b a) (bAQ b a)=some (N b a)):bX f (aS7 N K):=fun args hp r e=>by
 unfold aS7 at e;split at e
 ·rename_i c0 c1 c2 c3 c4 l1 l2 c5 c6 c7 c8 c9 c10 l3 l4 c11 c12 c_1 c_2 c_3 c_4;obtain⟨hr,hk⟩:=qp (qi e);obtain⟨d0,hk0⟩:=aT hk;obtain⟨d1,hk1⟩:=aT hk0;obtain⟨d2,hk2⟩:=aT hk1;obtain⟨d3,hk3⟩:=aT hk2;obtain rfl:=of_decide_eq_true d0;obtain rfl:=of_decide_eq_true d1;obtain rfl:=of_decide_eq_true d2;obtain rfl:=of_decide_eq_true d3;rw[←hr];exact h (aE.mk c0 c1 c2 c3 c4) (aJ.mk (aI.mk c_1 c_2 c5 c6 c7 c8 c9 c10) (aO.mk c_3 c_4) c11 c12) hk3
 ·simp at e
structure V102_0 where
 mk::
 (b0:aJ)
 (b1:aE)
 (s29:List Row)
 (s30:Int)
 (s31:Int)
section
variable(v:V102_0)
def uH:Bool:=((e1 (ln v.b0.R.D))&&((e1 (ln v.b0.R.A))&&((e1 (ln v.b0.Bus.Bytes))&&((e1 (ln v.b0.Bus.Log))&&true))))
def e5:aJ×Int×Int:=(g75 (aU v.s29 (0+(iN v.s31)) 0) v.b0)
def uI:Bool:=(e1 (ln (e5 v).1.Bus.Bytes))
def uJ:Bool:=(e1 (ln (e5 v).1.Bus.Log))
end
def uK(v:V102_0):Pt (Option V102_0):=(.ok true (.br (ltI v.s31 v.s30) (.ok (((leI 0 v.s31)&&(ltI v.s31 (aX v.s29)))&&((dC [.int .i64] v.s29 (0+(iN v.s31)) 0)&&true)) (.ok (((((uH v)&&(uH v))&&true)&&((e1 (ln v.b0.R.D))&&((e1 (ln v.b0.R.A))&&((e1 (ln v.b0.Bus.Bytes))&&((e1 (ln v.b0.Bus.Log))&&(k75 (aU v.s29 (0+(iN v.s31)) 0) v.b0))))))&&true) (.ok true (.br (eV (e5 v).2.2 0) (.ok true (.leaf none)) (.ok true (.ok ((((e1 (ln (e5 v).1.R.D))&&((e1 (ln (e5 v).1.R.A))&&((uI v)&&((uJ v)&&true))))&&((e1 (ln (e5 v).1.R.D))&&((e1 (ln (e5 v).1.R.A))&&((uI v)&&((uJ v)&&((e1 (ln v.s29))&&true))))))&&((e1 (ln v.s29))&&true)) (.leaf (some {v with b0:=(e5 v).1,s31:=(aR v.s31 1)})))))))) (.leaf none)))
def D7(v:V102_0):St:=⟨[(0,(.one (.ptr 0 0 0))),(3,(.one (.ptr 1 0 0))),(29,(.one (.sl 6 0 (ln v.s29)))),(30,(.one (li v.s30))),(31,(.one (li v.s31)))],[.box [.sl 2 0 (ln v.b0.R.D), .sl 3 0 (ln v.b0.R.A),li v.b0.R.Other,li v.b0.R.PC,li v.b0.R.Flags,li v.b0.R.Mask, .lit (.bool v.b0.R.Super), .lit (.bool v.b0.R.Trace), .sl 4 0 (ln v.b0.Bus.Bytes), .sl 5 0 (ln v.b0.Bus.Log), .lit (.bool v.b0.Stop), .lit (.bool v.b0.Halt)], .box [li v.b1.Vector,li v.b1.PC,li v.b1.Addr,li v.b1.Word, .lit (.bool v.b1.Write)], .lst 1 v.b0.R.D, .lst 1 v.b0.R.A, .lst 1 v.b0.Bus.Bytes, .lst 5 v.b0.Bus.Log, .lst 1 v.s29]⟩
def KE:St→Option (V102_0×Bool)
 |⟨[(0,(.one (.ptr 0 0 0))),(3,(.one (.ptr 1 0 0))),(29,(.one (.sl 6 0 l6))),(30,(.one (li c13))),(31,(.one (li c14)))],[.box [.sl 2 0 l2, .sl 3 0 l3,li c0,li c1,li c2,li c3, .lit (.bool c4), .lit (.bool c5), .sl 4 0 l4, .sl 5 0 l5, .lit (.bool c6), .lit (.bool c7)], .box [li c8,li c9,li c10,li c11, .lit (.bool c12)], .lst 1 c_2, .lst 1 c_3, .lst 1 c_4, .lst 5 c_5, .lst 1 c_6]⟩=>some ((V102_0.mk (aJ.mk (aI.mk c_2 c_3 c0 c1 c2 c3 c4 c5) (aO.mk c_4 c_5) c6 c7) (aE.mk c8 c9 c10 c11 c12) c_6 c13 c14),dR l2 (ln c_2)&&(dR l3 (ln c_3)&&(dR l4 (ln c_4)&&(dR l5 (ln c_5)&&(dR l6 (ln c_6)&&(true))))))
 |_=>none
def KF:St→Option (Pt Out):=mV Q75 [(13,K8),(14,K9),(33,K0),(34,K0),(52,K0)] [] true [] 1 2097152 PB
theorem aMY(v:V102_0):((KF (D7 v)).bind (jS true false 1 [0,3,29,30,31]))=some ((uK v).map (Option.map D7)):=by kernel_rfl
theorem aMZ(σ:St)(v:V102_0)(h:KE σ=some (v,true)):σ=D7 v:=by
 unfold KE at h;split at h
 ·obtain⟨hr,hk⟩:=qp (qi h);obtain⟨d0,hk0⟩:=aT hk;obtain⟨d1,hk1⟩:=aT hk0;obtain⟨d2,hk2⟩:=aT hk1;obtain⟨d3,hk3⟩:=aT hk2;obtain⟨d4,hk4⟩:=aT hk3;obtain rfl:=of_decide_eq_true d0;obtain rfl:=of_decide_eq_true d1;obtain rfl:=of_decide_eq_true d2;obtain rfl:=of_decide_eq_true d3;obtain rfl:=of_decide_eq_true d4;rw[←hr];rfl
 ·simp at h
theorem aM0:bN (lL true false 1 [0,3,29,30,31] KF KE D7 uK 2097152) (dI R 1 2097152 (.loop [0,3,29,30,31] PB)):=cH (bO R3 (bH (l:=[]) (by kernel_rfl) trivial)) aMZ aMY
def aM1:Lp:=(32,lL true false 1 [0,3,29,30,31] KF KE D7 uK 2097152)::[]
def aFH(v:V102_0):V102_0:=(hid (cB uK 2097152 v)).getD v
def aFI(v:V102_0):Bool:=(hid (cB uK 2097152 v)).isSome
section
variable(b:aE)(a:aJ)
def KG:Bool:=((e1 (ln a.Bus.Bytes))&&((e1 (ln a.Bus.Log))&&true))
def yN:Bool:=((e1 (ln a.R.D))&&((e1 (ln a.R.A))&&true))
def pX:aI:=(aSX (rM (AO (J6 a.R) 512) 256) a.R)
def KH:Bool:=((e1 (ln (J5 a b)))&&true)
def KI:Bool:=((e1 (ln (pX a).D))&&((e1 (ln (pX a).A))&&((e1 (ln a.Bus.Bytes))&&((e1 (ln a.Bus.Log))&&(KH b a)))))
def cS:V102_0:=(aFH (V102_0.mk {a with R:=(pX a),Stop:=false} b (J5 a b) (aX (J5 a b)) 0))
def R4:Nat:=(ln (g75 (aU (cS b a).s29 (0+(iN (cS b a).s31)) 0) (cS b a).b0).1.R.D)
def R5:Nat:=(ln (g75 (aU (cS b a).s29 (0+(iN (cS b a).s31)) 0) (cS b a).b0).1.R.A)
def R6:Nat:=(ln (g75 (aU (cS b a).s29 (0+(iN (cS b a).s31)) 0) (cS b a).b0).1.Bus.Bytes)
def R7:Nat:=(ln (g75 (aU (cS b a).s29 (0+(iN (cS b a).s31)) 0) (cS b a).b0).1.Bus.Log)
def AS:Bool:=((e1 (R4 b a))&&((e1 (R5 b a))&&((e1 (R6 b a))&&((e1 (R7 b a))&&true))))
def AT:Nat:=(ln (cS b a).b0.Bus.Bytes)
def AU:Bool:=(e1 (ln (cS b a).b0.Bus.Log))
def AV:Bool:=((e1 (AT b a))&&((AU b a)&&true))
def lN:aO×Int×Int:=(R2 1 2 (dD 2 (cS b a).b1.Vector) 0 (cS b a).b0.Bus)
def AW:Bool:=((e1 (ln (cS b a).b0.R.D))&&((e1 (ln (cS b a).b0.R.A))&&((e1 (ln (lN b a).1.Bytes))&&((e1 (ln (lN b a).1.Log))&&true))))
def AX:Bool:=(((AW b a)&&(AW b a))&&true)
end
def aFJ(b:aE)(a:aJ):Pt (aJ):=(.ok true (.ok ((((((e1 (ln a.R.D))&&((e1 (ln a.R.A))&&(KG a)))&&true)&&(aSR a b))&&true)&&true) (.ok true (.ok ((((((yN a)&&(yN a))&&true)&&((e1 (ln a.R.D))&&((e1 (ln a.R.A))&&(RY a.R))))&&(((((yN a)&&(yN a))&&true)&&((e1 (ln a.R.D))&&((e1 (ln a.R.A))&&(aSY (rM (AO (J6 a.R) 512) 256) a.R))))&&true))&&true) (.ok ((iE (0+(ln (J5 a b))) (ln (J5 a b)))&&true) (.ok ((((e1 (ln (pX a).D))&&((e1 (ln (pX a).A))&&(KG a)))&&(KI b a))&&(KH b a)) (.ok (KI b a) (.ok (aFI (V102_0.mk {a with R:=(pX a),Stop:=false} b (J5 a b) (aX (J5 a b)) 0)) (.br (ltI (cS b a).s31 (cS b a).s30) (.ok (((AS b a)&&(AS b a))&&true) (.leaf {(g75 (aU (cS b a).s29 (0+(iN (cS b a).s31)) 0) (cS b a).b0).1 with Halt:=true})) (.ok ((((((AV b a)&&(AV b a))&&true)&&((e1 (AT b a))&&((AU b a)&&(NE 1 2 (dD 2 (cS b a).b1.Vector) 0 (cS b a).b0.Bus))))&&true)&&true) (.ok true (.br (eV (lN b a).2.2 0) (.ok true (.ok (AX b a) (.leaf {(cS b a).b0 with Bus:=(lN b a).1,Halt:=true}))) (.ok true (.ok (AX b a) (.leaf {(cS b a).b0 with R:={(cS b a).b0.R with PC:=(lN b a).2.1},Bus:=(lN b a).1})))))))))))))))
def R8(b:aE)(a:aJ):aJ:=hid (aFJ b a).val
def aS9(b:aE)(a:aJ):Bool:=hid (aFJ b a).okv
def a16(b:aE)(a:aJ)(r:aJ):SV×List Blk:=((.tup []),[.box [.sl 1 0 (ln r.R.D), .sl 2 0 (ln r.R.A),li r.R.Other,li r.R.PC,li r.R.Flags,li r.R.Mask, .lit (.bool r.R.Super), .lit (.bool r.R.Trace), .sl 3 0 (ln r.Bus.Bytes), .sl 4 0 (ln r.Bus.Log), .lit (.bool r.Stop), .lit (.bool r.Halt)], .lst 1 r.R.D, .lst 1 r.R.A, .lst 1 r.Bus.Bytes, .lst 5 r.Bus.Log])
def q102:=aS7 (fun b a=>a16 b a (R8 b a)) aS9
theorem a17:dN (fun live x=>bN (hX aM1 (gK x)) (dI R 1 2097152 (.loop live x))) F102.body:=(bH (l:=[([0,3,29,30,31],PB)]) (by kernel_rfl) ⟨dK (n:=32) (by kernel_rfl) fun σ σr t h ho hl=>aM0 σ σr t h ho hl,trivial⟩)
theorem bAR:bX 102 q102:=aS8 fun b a hk=>UN aYT R3 a17 [(13,K8),(14,K9),(33,K0),(34,K0),(52,K0)] [] true (aFJ b a) (a16 b a) hk
def Q102:=aV 102 q102 Q75
theorem WF:QO Q102:=aG bAR R3
def bAS(a:aJ)(b:aE):List SV:=[(.agg [.imm true 1 a.R.D, .imm true 1 a.R.A,li a.R.Other,li a.R.PC,li a.R.Flags,li a.R.Mask, .lit (.bool a.R.Super), .lit (.bool a.R.Trace), .imm true 1 a.Bus.Bytes, .imm true 5 a.Bus.Log, .lit (.bool a.Stop), .lit (.bool a.Halt)]),(.agg [li b.Vector,li b.PC,li b.Addr,li b.Word, .lit (.bool b.Write)])]
def bAT(a:aJ)(b:aE):List Blk:=[]
def KJ(N:aJ→aE→SV×List Blk)(K:aJ→aE→Bool):List SV→List Blk→Option ((SV×List Blk)×Bool)
 |[(.agg [.imm true 1 c0, .imm true 1 c1,li c2,li c3,li c4,li c5, .lit (.bool c6), .lit (.bool c7), .imm true 1 c8, .imm true 5 c9, .lit (.bool c10), .lit (.bool c11)]),(.agg [li c12,li c13,li c14,li c15, .lit (.bool c16)])],[]=>some (N (aJ.mk (aI.mk c0 c1 c2 c3 c4 c5 c6 c7) (aO.mk c8 c9) c10 c11) (aE.mk c12 c13 c14 c15 c16),K (aJ.mk (aI.mk c0 c1 c2 c3 c4 c5 c6 c7) (aO.mk c8 c9) c10 c11) (aE.mk c12 c13 c14 c15 c16))
 |_,_=>none
theorem uL{N:aJ→aE→SV×List Blk}{K:aJ→aE→Bool}{f:Nat}(h: ∀(a:aJ)(b:aE),K a b=true→cF R f (bAS a b) (bAT a b)=some (N a b)):bX f (KJ N K):=fun _ _ _ e=>by
 unfold KJ at e;split at e
 ·exact mQ e (h _ _)
 ·cases e
section
variable(a:aJ)(b:aE)
def HH:Bool:=((e1 (ln (sI a).R.D))&&((e1 (ln (sI a).R.A))&&((e1 (ln (sI a).Bus.Bytes))&&((e1 (ln (sI a).Bus.Log))&&true))))
def NG:Nat:=(ln (R8 b (sI a)).Bus.Bytes)
def D8:Bool:=((e1 (ln (R8 b (sI a)).R.D))&&((e1 (ln (R8 b (sI a)).R.A))&&((e1 (NG a b))&&((e1 (ln (R8 b (sI a)).Bus.Log))&&true))))
end
def T24(a:aJ)(b:aE):Pt (aJ×Bool):=(.ok true (.ok ((k30 a)&&((((k28 b)&&true)||(bif (!(g30 a))then true else a.Halt))&&true)) (.br (bif (bif (!(g30 a))then true else a.Halt)then true else(!(g28 b))) (.ok true (.ok true (.ok true (.leaf ((aJ.mk (aI.mk [] [] 0 0 0 0 false false) (aO.mk [] []) false false),false))))) (.ok ((k74 a)&&true) (.ok (((((HH a)&&(HH a))&&true)&&((e1 (ln (sI a).R.D))&&((e1 (ln (sI a).R.A))&&((e1 (ln (sI a).Bus.Bytes))&&((e1 (ln (sI a).Bus.Log))&&(aS9 b (sI a)))))))&&true) (.ok true (.ok ((D8 a b)&&((D8 a b)&&true)) (.ok ((D8 a b)&&true) (.leaf ((R8 b (sI a)),true))))))))))
def g24(a:aJ)(b:aE):aJ×Bool:=hid (T24 a b).val
def k24(a:aJ)(b:aE):Bool:=hid (T24 a b).okv
def n24(a:aJ)(b:aE)(r:aJ×Bool):SV×List Blk:=((.tup [(.agg [.imm true 1 r.1.R.D, .imm true 1 r.1.R.A,li r.1.R.Other,li r.1.R.PC,li r.1.R.Flags,li r.1.R.Mask, .lit (.bool r.1.R.Super), .lit (.bool r.1.R.Trace), .imm true 1 r.1.Bus.Bytes, .imm true 5 r.1.Bus.Log, .lit (.bool r.1.Stop), .lit (.bool r.1.Halt)]),(.one (.lit (.bool r.2)))]),[])
def q24:=KJ (fun a b=>n24 a b (g24 a b)) k24
theorem t24:bX 100024 q24:=uL fun a b hk=>tz a6I WF [(7,K8),(12,mA),(15,K9),(20,K8),(22,K9),(24,K8)] [] true (T24 a b) (n24 a b) hk
def Q24:=aV 100024 q24 Q102
theorem R9:QO Q24:=aG t24 WF
structure V206_0 where
 mk::
 (s0:List Row)
 (s5:List Row)
 (s6:Int)
 (s7:Int)
def yO(v:V206_0):Pt (Option V206_0):=(.ok true (.br (ltI v.s7 v.s6) (.ok ((dJ [.int .i64] v.s5 v.s7)&&true) (.ok ((k77 (aU v.s5 (iN v.s7) 0))&&true) (.br (!(g77 (aU v.s5 (iN v.s7) 0))) (.ok true (.leaf none)) (.ok true (.ok true (.leaf (some {v with s7:=(aR v.s7 1)}))))))) (.leaf none)))
def D9(v:V206_0):St:=⟨[(0,(.one (.imm true 1 v.s0))),(5,(.one (.imm true 1 v.s5))),(6,(.one (li v.s6))),(7,(.one (li v.s7)))],[]⟩
def KK:St→Option (V206_0×Bool)
 |⟨[(0,(.one (.imm true 1 c0))),(5,(.one (.imm true 1 c1))),(6,(.one (li c2))),(7,(.one (li c3)))],[]⟩=>some ((V206_0.mk c0 c1 c2 c3),true)
 |_=>none
def KL:St→Option (Pt Out):=mV Q24 [(9,K0),(10,K0)] [] true [] 0 2097152 PM
theorem aM2(v:V206_0):((KL (D9 v)).bind (jS true false 0 [0,5,6,7]))=some ((yO v).map (Option.map D9)):=by kernel_rfl
theorem aM3(σ:St)(v:V206_0)(h:KK σ=some (v,true)):σ=D9 v:=by
 unfold KK at h;split at h
 ·obtain⟨hr,hk⟩:=qp (qi h);rw[←hr];rfl
 ·simp at h
theorem aM4:bN (lL true false 0 [0,5,6,7] KL KK D9 yO 2097152) (dI R 0 2097152 (.loop [0,5,6,7] PM)):=cH (bO R9 (bH (l:=[]) (by kernel_rfl) trivial)) aM3 aM2
def aM5:Lp:=(8,lL true false 0 [0,5,6,7] KL KK D9 yO 2097152)::[]
def EA(v:V206_0):V206_0:=(hid (cB yO 2097152 v)).getD v
def SA(v:V206_0):Bool:=(hid (cB yO 2097152 v)).isSome
section
variable(a:List Row)
def KM:V206_0:=(EA (V206_0.mk a a (aX a) 0))
end
def aFK(a:List Row):Pt (Bool):=(.ok true (.ok true (.ok true (.ok true (.ok (SA (V206_0.mk a a (aX a) 0)) (.br (ltI (KM a).s7 (KM a).s6) (.ok true (.ok true (.leaf false))) (.ok true (.ok true (.ok true (.leaf (eqI (aX (KM a).s0) 4)))))))))))
def aFL(a:List Row):Bool:=hid (aFK a).val
def aM6(a:List Row):Bool:=hid (aFK a).okv
def q206:=DL (fun a=>wG a (aFL a)) aM6
theorem a19:dN (fun live x=>bN (hX aM5 (gK x)) (dI R 0 2097152 (.loop live x))) F206.body:=(bH (l:=[([0,5,6,7],PM)]) (by kernel_rfl) ⟨dK (n:=8) (by kernel_rfl) fun σ σr t h ho hl=>aM4 σ σr t h ho hl,trivial⟩)
theorem bAW:bX 100206 q206:=nU fun a hk=>tzl a0D R9 a19 [(9,K0),(10,K0)] [] true (aFK a) (wG a) hk
def Q206:=aV 100206 q206 Q24
theorem WG:QO Q206:=aG bAW R9
def aFM(a:Int):Pt (Bool):=(.ok true (.ok ((lX a 0 31)&&true) (.ok true (.ok true (.leaf (jW a 0 31))))))
def aM7(a:Int):Bool:=hid (aFM a).val
def aM8(a:Int):Bool:=hid (aFM a).okv
def q207:=IG (fun a=>jA a (aM7 a)) aM8
theorem bAX:bX 100207 q207:=i9 fun a hk=>tz a0E WG [] [] true (aFM a) (jA a) hk
def Q207:=aV 100207 q207 Q206
theorem WH:QO Q207:=aG bAX WG
section
variable(a:aI)
def SB:Bool:=(bif (aFL a.D)then(aFL a.A)else false)
def SC:Bool:=(bif (SB a)then(g77 a.Other)else false)
def SD:Bool:=(bif (SC a)then(g77 a.PC)else false)
def SE:Bool:=(bif (SD a)then(aM7 a.Flags)else false)
end
def aFN(a:aI):Pt (Bool):=(.ok true (.ok ((aM6 a.D)&&((((aM6 a.A)&&true)||(!(aFL a.D)))&&((((k77 a.Other)&&true)||(!(SB a)))&&((((k77 a.PC)&&true)||(!(SC a)))&&((((aM8 a.Flags)&&true)||(!(SD a)))&&((((lX a.Mask 0 7)&&true)||(!(SE a)))&&true)))))) (.ok true (.ok true (.leaf (bif (SE a)then(jW a.Mask 0 7)else false))))))
def aM9(a:aI):Bool:=hid (aFN a).val
def aTA(a:aI):Bool:=hid (aFN a).okv
def q154:=aL1 (fun a=>aL3 a (aM9 a)) aTA
theorem bAY:bX 100154 q154:=aD6 fun a hk=>tz aZF WH [(4,K1),(8,K1),(13,K0),(18,K0),(23,K0),(28,K0)] [] true (aFN a) (aL3 a) hk
def Q154:=aV 100154 q154 Q207
theorem WI:QO Q154:=aG bAY WH
def SF(a:Int):Pt (Int):=(.ok true (.ok ((leI 0 (lM .u64 (dD 8 a)))&&true) (.ok true (.ok true (.leaf (nH 1 (lM .u64 (dD 8 a))))))))
def aFO(a:Int):Int:=hid (SF a).val
def aNA(a:Int):Bool:=hid (SF a).okv
def q248:=IG (fun a=>ND a (aFO a)) aNA
theorem bAZ:bX 100248 q248:=i9 fun a hk=>tz a0O WI [] [] true (SF a) (ND a) hk
def Q248:=aV 100248 q248 Q154
theorem WJ:QO Q248:=aG bAZ WI
def aFP(a:Int)(b:Int):Pt (Bool):=(.ok true (.ok ((ZI a)&&((((aNA a)&&((lX b 0 (eQ (aFO a) 1))&&true))||(!(M7 a)))&&true)) (.ok true (.ok true (.leaf (bif (M7 a)then(jW b 0 (eQ (aFO a) 1))else false))))))
def aTB(a:Int)(b:Int):Bool:=hid (aFP a b).val
def aTC(a:Int)(b:Int):Bool:=hid (aFP a b).okv
def q246:=aMA (fun a b=>aMB a b (aTB a b)) aTC
theorem bA0:bX 100246 q246:=aED fun a b hk=>tz a0N WJ [] [] true (aFP a b) (aMB a b) hk
def Q246:=aV 100246 q246 Q248
theorem WK:QO Q246:=aG bA0 WJ
def aFQ(a:Int):Pt (Bool):=(.ok true (.ok ((lX a 0 65535)&&true) (.ok true (.ok true (.leaf (jW a 0 65535))))))
def aFR(a:Int):Bool:=hid (aFQ a).val
def aFS(a:Int):Bool:=hid (aFQ a).okv
def q180:=IG (fun a=>jA a (aFR a)) aFS
theorem bA1:bX 100180 q180:=i9 fun a hk=>tz aZX WK [] [] true (aFQ a) (jA a) hk
def Q180:=aV 100180 q180 Q246
theorem WL:QO Q180:=aG bA1 WK
section
variable(a:aA)
def SG:Bool:=(bif (!(jW a.Kind 1 3))then true else(!(aTB a.Size a.Value)))
def SH:Bool:=(bif (SG a)then true else(!(aFR a.Addr)))
end
def aFT(a:aA):Pt (Bool):=(.ok true (.ok ((lX a.Kind 1 3)&&((((aTC a.Size a.Value)&&true)||(!(jW a.Kind 1 3)))&&((((aFS a.Addr)&&true)||(SG a))&&((((lX a.Code 0 3)&&true)||(SH a))&&true)))) (.br (bif (SH a)then true else(!(jW a.Code 0 3))) (.ok true (.ok true (.ok true (.leaf false)))) (.ok true (.ok true (.ok true (.leaf (bif (eV a.Kind 3)then true else(eV a.Code 0)))))))))
def aTD(a:aA):Bool:=hid (aFT a).val
def aTE(a:aA):Bool:=hid (aFT a).okv
def q208:=aEF (fun a=>ZR a (aTD a)) aTE
theorem bA2:bX 100208 q208:=RC fun a hk=>tz a0F WL [(4,K0),(9,K0),(11,K0),(17,K0),(23,K0),(28,K0),(32,K0)] [] true (aFT a) (ZR a) hk
def Q208:=aV 100208 q208 Q180
theorem AY:QO Q208:=aG bA2 WL
structure V164v1_0 where
 mk::
 (s5:List Row)
 (s6:Int)
 (s7:Int)
def mS(v:V164v1_0):Pt (Option V164v1_0):=(.ok true (.br (ltI v.s7 v.s6) (.ok ((dJ [.int .i64] v.s5 v.s7)&&true) (.ok ((lX (aU v.s5 (iN v.s7) 0) 0 255)&&true) (.br (!(jW (aU v.s5 (iN v.s7) 0) 0 255)) (.ok true (.leaf none)) (.ok true (.ok true (.leaf (some {v with s7:=(aR v.s7 1)}))))))) (.leaf none)))
def pY(v:V164v1_0):St:=⟨[(5,(.one (.imm true 1 v.s5))),(6,(.one (li v.s6))),(7,(.one (li v.s7)))],[]⟩
def wR:St→Option (V164v1_0×Bool)
 |⟨[(5,(.one (.imm true 1 c0))),(6,(.one (li c1))),(7,(.one (li c2)))],[]⟩=>some ((V164v1_0.mk c0 c1 c2),true)
 |_=>none
def yP:St→Option (Pt Out):=mV Q208 [(9,K0),(10,K0)] [] true [] 0 2097152 xR
theorem ZV(v:V164v1_0):((yP (pY v)).bind (jS true false 0 [5,6,7]))=some ((mS v).map (Option.map pY)):=by kernel_rfl
theorem ZW(σ:St)(v:V164v1_0)(h:wR σ=some (v,true)):σ=pY v:=by
 unfold wR at h;split at h
 ·obtain⟨hr,hk⟩:=qp (qi h);rw[←hr];rfl
 ·simp at h
theorem ZX:bN (lL true false 0 [5,6,7] yP wR pY mS 2097152) (dI R 0 2097152 (.loop [5,6,7] xR)):=cH (bO AY (bH (l:=[]) (by kernel_rfl) trivial)) ZW ZV
def ZY:Lp:=(8,lL true false 0 [5,6,7] yP wR pY mS 2097152)::[]
def wS(v:V164v1_0):V164v1_0:=(hid (cB mS 2097152 v)).getD v
def EB(v:V164v1_0):Bool:=(hid (cB mS 2097152 v)).isSome
section
variable(a:List Row)
def EC:V164v1_0:=(wS (V164v1_0.mk a (aX a) 0))
end
def KN(a:List Row):Pt (Bool):=(.ok true (.ok true (.ok true (.ok true (.ok (EB (V164v1_0.mk a (aX a) 0)) (.br (ltI (EC a).s7 (EC a).s6) (.ok true (.ok true (.leaf false))) (.ok true (.ok true (.ok true (.leaf true))))))))))
def KO(a:List Row):Bool:=hid (KN a).val
def KP(a:List Row):Bool:=hid (KN a).okv
def q164v1:=DL (fun a=>wG a (KO a)) KP
theorem aNB:dN (fun live x=>bN (hX ZY (gK x)) (dI R 0 2097152 (.loop live x))) F164.body:=(bH (l:=[([5,6,7],xR)]) (by kernel_rfl) ⟨dK (n:=8) (by kernel_rfl) fun σ σr t h ho hl=>ZX σ σr t h ho hl,trivial⟩)
theorem aTF:bX 100164 q164v1:=nU fun a hk=>tzl aPG AY aNB [(9,K0),(10,K0)] [] true (KN a) (wG a) hk
def Q164v1:=aV 100164 q164v1 Q208
theorem HI:QO Q164v1:=aG aTF AY
structure V155_0 where
 mk::
 (b0:aO)
 (s6:List Row)
 (s7:Int)
 (s8:Int)
def yQ(v:V155_0):Pt (Option V155_0):=(.ok true (.br (ltI v.s8 v.s7) (.ok ((dJ [.int .i64, .int .i64, .int .i64, .int .i64, .int .i64] v.s6 v.s8)&&true) (.ok ((aTE (aA.at v.s6 (iN v.s8) 0))&&true) (.br (!(aTD (aA.at v.s6 (iN v.s8) 0))) (.ok true (.leaf none)) (.ok true (.ok true (.leaf (some {v with s8:=(aR v.s8 1)}))))))) (.leaf none)))
def ED(v:V155_0):St:=⟨[(1,(.one (.ptr 0 0 0))),(6,(.one (.imm true 5 v.s6))),(7,(.one (li v.s7))),(8,(.one (li v.s8)))],[.box [.imm true 1 v.b0.Bytes, .imm true 5 v.b0.Log]]⟩
def KQ:St→Option (V155_0×Bool)
 |⟨[(1,(.one (.ptr 0 0 0))),(6,(.one (.imm true 5 c2))),(7,(.one (li c3))),(8,(.one (li c4)))],[.box [.imm true 1 c0, .imm true 5 c1]]⟩=>some ((V155_0.mk (aO.mk c0 c1) c2 c3 c4),true)
 |_=>none
def KR:St→Option (Pt Out):=mV Q208 [(6,OC),(10,JX),(11,JX),(12,JX),(17,K1),(22,K1),(27,OC)] [] true [] 0 2097152 PH
theorem aNC(v:V155_0):((KR (ED v)).bind (jS true false 0 [1,6,7,8]))=some ((yQ v).map (Option.map ED)):=by kernel_rfl
theorem aND(σ:St)(v:V155_0)(h:KQ σ=some (v,true)):σ=ED v:=by
 unfold KQ at h;split at h
 ·obtain⟨hr,hk⟩:=qp (qi h);rw[←hr];rfl
 ·simp at h
theorem aNE:bN (lL true false 0 [1,6,7,8] KR KQ ED yQ 2097152) (dI R 0 2097152 (.loop [1,6,7,8] PH)):=cH (bO AY (bH (l:=[]) (by kernel_rfl) trivial)) aND aNC
def aNF:Lp:=(9,lL true false 0 [1,6,7,8] KR KQ ED yQ 2097152)::[]
def EE(v:V155_0):V155_0:=(hid (cB yQ 2097152 v)).getD v
def SI(v:V155_0):Bool:=(hid (cB yQ 2097152 v)).isSome
section
variable(a:aO)
def pZ:V155_0:=(EE (V155_0.mk a a.Log (aX a.Log) 0))
end
def aFU(a:aO):Pt (Bool):=(.ok true (.ok true (.ok true (.ok true (.ok (SI (V155_0.mk a a.Log (aX a.Log) 0)) (.br (ltI (pZ a).s8 (pZ a).s7) (.ok true (.ok true (.leaf false))) (.ok ((((KP (pZ a).b0.Bytes)&&true)||(!(eqI (aX (pZ a).b0.Bytes) 512)))&&true) (.ok true (.ok true (.leaf (bif (bif (eqI (aX (pZ a).b0.Bytes) 512)then(KO (pZ a).b0.Bytes)else false)then(leI (aX (pZ a).b0.Log) 400)else false)))))))))))
def aFV(a:aO):Bool:=hid (aFU a).val
def aNG(a:aO):Bool:=hid (aFU a).okv
def q155:=aEL (fun a=>aMN a (aFV a)) aNG
theorem a2A:dN (fun live x=>bN (hX aNF (gK x)) (dI R 0 2097152 (.loop live x))) F155.body:=(bH (l:=[([1,6,7,8],PH)]) (by kernel_rfl) ⟨dK (n:=9) (by kernel_rfl) fun σ σr t h ho hl=>aNE σ σr t h ho hl,trivial⟩)
theorem bA3:bX 100155 q155:=RG fun a hk=>tzl aZG HI a2A [(6,OC),(10,JX),(11,JX),(12,JX),(17,K1),(22,K1),(27,OC)] [] true (aFU a) (aMN a) hk
def Q155:=aV 100155 q155 Q164v1
theorem WM:QO Q155:=aG bA3 HI
def T76(a:aJ):Pt (Bool):=(.ok true (.ok ((aTA a.R)&&((((aNG a.Bus)&&true)||(!(aM9 a.R)))&&true)) (.ok true (.ok true (.leaf (bif (bif (aM9 a.R)then(aFV a.Bus)else false)then(!(bif a.Stop then a.Halt else false))else false))))))
def g76(a:aJ):Bool:=hid (T76 a).val
def k76(a:aJ):Bool:=hid (T76 a).okv
def q76:=ZT (fun a=>n30 a (g76 a)) k76
theorem t76:bX 100076 q76:=J3 fun a hk=>tz a63 WM [(4,K6),(8,K7),(13,mA),(16,mA)] [] true (T76 a) (n30 a) hk
def Q76:=aV 100076 q76 Q155
theorem aFW:QO Q76:=aG t76 WM
section
variable(a:aE)
def aFX:Bool:=(bif (!(jW a.Vector 2 21))then true else(!(g77 a.PC)))
def aFY:Bool:=(bif (aFX a)then true else(!(g77 a.Addr)))
end
def T29(a:aE):Pt (Bool):=(.ok true (.ok ((lX a.Vector 2 21)&&((((k77 a.PC)&&true)||(!(jW a.Vector 2 21)))&&((((k77 a.Addr)&&true)||(aFX a))&&((((k77 a.Word)&&true)||(aFY a))&&true)))) (.br (bif (aFY a)then true else(!(g77 a.Word))) (.ok true (.ok true (.ok true (.leaf false)))) (.ok ((NC a.Vector)&&true) (.ok true (.ok true (.leaf (bif (QT a.Vector)then true else(bif (eqI a.Addr 0)then(!a.Write)else false)))))))))
def g29(a:aE):Bool:=hid (T29 a).val
def k29(a:aE):Bool:=hid (T29 a).okv
def q29:=RL (fun a=>ZU a (g29 a)) k29
theorem t29:bX 100029 q29:=DT fun a hk=>tz a6N aFW [(4,K0),(9,K0),(15,K0),(21,K0),(26,K0),(30,K0),(34,mA)] [] true (T29 a) (ZU a) hk
def Q29:=aV 100029 q29 Q76
theorem aFZ:QO Q29:=aG t29 aFW
section
variable(a:aI)
def SJ:Bool:=((e1 (ln a.D))&&((e1 (ln a.A))&&true))
end
def aF0(a:aI):Pt (aI):=(.ok true (.ok (((iE (kL (0+(ln a.D)) 8) 140737488355328)&&(iE (0+(ln a.D)) 140737488355328))&&true) (.ok (((iE (kL (0+(ln a.A)) 8) 140737488355328)&&(iE (0+(ln a.A)) 140737488355328))&&true) (.ok true (.ok ((SJ a)&&((SJ a)&&true)) (.leaf a))))))
def aF1(a:aI):aI:=hid (aF0 a).val
def aTI(a:aI):Bool:=hid (aF0 a).okv
def q161:=aER (fun a=>aMO a (aF1 a)) aTI
theorem bA4:bX 161 q161:=RQ fun a p0 p1 hk=>tc aZJ aFZ [(5,K1),(10,K1),(13,K6)] [] true (aF0 a) (aMO a) hk
def Q161:=aV 161 q161 Q29
theorem WN:QO Q161:=aG bA4 aFZ
def bA5(a:aO)(p0:Bool)(p1:Bool):List SV:=[(.agg [.imm p0 1 a.Bytes, .imm p1 5 a.Log])]
def bA6(a:aO)(p0:Bool)(p1:Bool):List Blk:=[]
def aTJ(N:aO→SV×List Blk)(K:aO→Bool):List SV→List Blk→Option ((SV×List Blk)×Bool)
 |[(.agg [.imm p0 1 c0, .imm p1 5 c1])],[]=>some (N (aO.mk c0 c1),K (aO.mk c0 c1))
 |_,_=>none
theorem aTK{N:aO→SV×List Blk}{K:aO→Bool}{f:Nat}(h: ∀(a:aO)(p0:Bool)(p1:Bool),K a=true→cF R f (bA5 a p0 p1) (bA6 a p0 p1)=some (N a)):bX f (aTJ N K):=fun _ _ _ e=>by
 unfold aTJ at e;split at e
 ·exact mQ e (h _ _ _)
 ·cases e
section
variable(a:aO)
def EF:Bool:=((e1 (ln a.Bytes))&&((e1 (ln a.Log))&&true))
def cE:Bool:=((((iE (kL (0+(ln a.Bytes)) 8) 140737488355328)&&(iE (0+(ln a.Bytes)) 140737488355328))&&(((iE (kL (0+(ln a.Log)) 40) 140737488355328)&&(iE (0+(ln a.Log)) 140737488355328))&&true))&&(((EF a)&&(EF a))&&true))
def cG:Bool:=(((s1 (ln a.Bytes))&&((s1 (ln a.Log))&&true))&&((r1 a.Bytes)&&((r1 a.Log)&&true)))
def aF2:Bool:=(((cE a)&&(((cE a)&&(((cE a)&&(((cE a)&&(((cE a)&&(((cE a)&&(((cE a)&&(((cE a)&&(((cE a)&&(((cE a)&&(((cE a)&&((cE a)&&(cG a)))&&(cG a)))&&(cG a)))&&(cG a)))&&(cG a)))&&(cG a)))&&(cG a)))&&(cG a)))&&(cG a)))&&(cG a)))&&(cG a)))&&(cG a))
def aF3:Bool:=((cE a)&&(((cE a)&&(((cE a)&&(((cE a)&&(((cE a)&&(((cE a)&&(((cE a)&&(((cE a)&&(((cE a)&&(((cE a)&&(((cE a)&&(((cE a)&&(aF2 a))&&(cG a)))&&(cG a)))&&(cG a)))&&(cG a)))&&(cG a)))&&(cG a)))&&(cG a)))&&(cG a)))&&(cG a)))&&(cG a)))&&(cG a)))
def aF4:Bool:=(((cE a)&&(((cE a)&&(((cE a)&&(((cE a)&&(((cE a)&&(((cE a)&&(((cE a)&&(((cE a)&&(((cE a)&&(((cE a)&&(((cE a)&&((aF3 a)&&(cG a)))&&(cG a)))&&(cG a)))&&(cG a)))&&(cG a)))&&(cG a)))&&(cG a)))&&(cG a)))&&(cG a)))&&(cG a)))&&(cG a)))&&(cG a))
end
def aF5(a:aO):Pt (aO):=(.ok true (.ok ((cE a)&&(((cE a)&&(((cE a)&&(aF4 a))&&(cG a)))&&(cG a))) (.ok ((EF a)&&((EF a)&&true)) (.leaf a))))
def aF6(a:aO):aO:=hid (aF5 a).val
def aTL(a:aO):Bool:=hid (aF5 a).okv
def q184:=aTJ (fun a=>aMQ a (aF6 a)) aTL
theorem bA7:bX 184 q184:=aTK fun a p0 p1 hk=>tc aZZ WN [(5,K1),(9,OC)] [] true (aF5 a) (aMQ a) hk
def Q184:=aV 184 q184 Q161
theorem WO:QO Q184:=aG bA7 WN
def bA8(a:aJ)(p0:Bool)(p1:Bool)(p2:Bool)(p3:Bool):List SV:=[(.agg [.imm p0 1 a.R.D, .imm p1 1 a.R.A,li a.R.Other,li a.R.PC,li a.R.Flags,li a.R.Mask, .lit (.bool a.R.Super), .lit (.bool a.R.Trace), .imm p2 1 a.Bus.Bytes, .imm p3 5 a.Bus.Log, .lit (.bool a.Stop), .lit (.bool a.Halt)])]
def bA9(a:aJ)(p0:Bool)(p1:Bool)(p2:Bool)(p3:Bool):List Blk:=[]
def aNH(N:aJ→SV×List Blk)(K:aJ→Bool):List SV→List Blk→Option ((SV×List Blk)×Bool)
 |[(.agg [.imm p0 1 c0, .imm p1 1 c1,li c2,li c3,li c4,li c5, .lit (.bool c6), .lit (.bool c7), .imm p2 1 c8, .imm p3 5 c9, .lit (.bool c10), .lit (.bool c11)])],[]=>some (N (aJ.mk (aI.mk c0 c1 c2 c3 c4 c5 c6 c7) (aO.mk c8 c9) c10 c11),K (aJ.mk (aI.mk c0 c1 c2 c3 c4 c5 c6 c7) (aO.mk c8 c9) c10 c11))
 |_,_=>none
theorem aF7{N:aJ→SV×List Blk}{K:aJ→Bool}{f:Nat}(h: ∀(a:aJ)(p0:Bool)(p1:Bool)(p2:Bool)(p3:Bool),K a=true→cF R f (bA8 a p0 p1 p2 p3) (bA9 a p0 p1 p2 p3)=some (N a)):bX f (aNH N K):=fun _ _ _ e=>by
 unfold aNH at e;split at e
 ·exact mQ e (h _ _ _ _ _)
 ·cases e
section
variable(a:aJ)
def SK:Bool:=((e1 (ln (aF1 a.R).D))&&((e1 (ln (aF1 a.R).A))&&((e1 (ln (aF6 a.Bus).Bytes))&&((e1 (ln (aF6 a.Bus).Log))&&true))))
end
def aF8(a:aJ):Pt (aJ):=(.ok true (.ok ((aTI a.R)&&true) (.ok ((aTL a.Bus)&&true) (.ok true (.ok ((SK a)&&((SK a)&&true)) (.leaf {a with R:=(aF1 a.R),Bus:=(aF6 a.Bus)}))))))
def GB(a:aJ):aJ:=hid (aF8 a).val
def aNI(a:aJ):Bool:=hid (aF8 a).okv
def q122:=aNH (fun a=>n74 a (GB a)) aNI
theorem bBA:bX 122 q122:=aF7 fun a p0 p1 p2 p3 hk=>tc aY7 WO [(4,K6),(8,K7),(11,K8)] [] true (aF8 a) (n74 a) hk
def Q122:=aV 122 q122 Q184
theorem WP:QO Q122:=aG bBA WO
section
variable(a:aJ)
def aF9:Bool:=((e1 (ln (GB a).R.D))&&((e1 (ln (GB a).R.A))&&((e1 (ln (GB a).Bus.Bytes))&&((e1 (ln (GB a).Bus.Log))&&true))))
end
def T78(a:aJ):Pt (bL):=(.ok true (.ok ((aNI a)&&true) (.ok true (.ok (((aF9 a)&&(aF9 a))&&true) (.leaf (bL.mk (GB a).R (GB a).Bus (GB a).Stop (aE.mk 0 0 0 0 false)))))))
def AG(a:aJ):bL:=hid (T78 a).val
def k78(a:aJ):Bool:=hid (T78 a).okv
def n78(a:aJ)(r:bL):SV×List Blk:=((.one (.ptr 0 0 0)),[.box [.sl 1 0 (ln r.fr.D), .sl 2 0 (ln r.fr.A),li r.fr.Other,li r.fr.PC,li r.fr.Flags,li r.fr.Mask, .lit (.bool r.fr.Super), .lit (.bool r.fr.Trace), .sl 3 0 (ln r.fbus.Bytes), .sl 4 0 (ln r.fbus.Log), .lit (.bool r.fstop),li r.ffault.Vector,li r.ffault.PC,li r.ffault.Addr,li r.ffault.Word, .lit (.bool r.ffault.Write)], .lst 1 r.fr.D, .lst 1 r.fr.A, .lst 1 r.fbus.Bytes, .lst 5 r.fbus.Log])
def q78:=aNH (fun a=>n78 a (AG a)) k78
theorem t78:bX 78 q78:=aF7 fun a p0 p1 p2 p3 hk=>tc a65 WP [(4,K8),(7,K6),(9,K7),(11,mA)] [] true (T78 a) (n78 a) hk
def Q78:=aV 78 q78 Q122
theorem aGA:QO Q78:=aG t78 WP
def aGB(a:aI):Pt (Int):=(.ok true (.ok ((M6 a.Super 256)&&((M6 a.Trace 512)&&true)) (.ok true (.ok true (.leaf (aR (aR (aR a.Flags (dD 32 a.Mask)) (M5 a.Super 256)) (M5 a.Trace 512)))))))
def aNJ(a:aI):Int:=hid (aGB a).val
def aTM(a:aI):Bool:=hid (aGB a).okv
def a2E(a:aI)(r:Int):SV×List Blk:=((.one (li r)),[])
def q168:=aER (fun a=>a2E a (aNJ a)) aTM
theorem bBB:bX 100168 q168:=RQ fun a p0 p1 hk=>tz aZN aGA [(4,K0),(6,K0),(10,mA),(14,mA)] [] true (aGB a) (a2E a) hk
def Q168:=aV 100168 q168 Q78
theorem WQ:QO Q168:=aG bBB aGA
def bBC(a:Bool)(b:aE):List SV:=[(.one (.lit (.bool a))),(.agg [li b.Vector,li b.PC,li b.Addr,li b.Word, .lit (.bool b.Write)])]
def bBD(a:Bool)(b:aE):List Blk:=[]
def aTN(N:Bool→aE→SV×List Blk)(K:Bool→aE→Bool):List SV→List Blk→Option ((SV×List Blk)×Bool)
 |[(.one (.lit (.bool c0))),(.agg [li c1,li c2,li c3,li c4, .lit (.bool c5)])],[]=>some (N c0 (aE.mk c1 c2 c3 c4 c5),K c0 (aE.mk c1 c2 c3 c4 c5))
 |_,_=>none
theorem aTO{N:Bool→aE→SV×List Blk}{K:Bool→aE→Bool}{f:Nat}(h: ∀(a:Bool)(b:aE),K a b=true→cF R f (bBC a b) (bBD a b)=some (N a b)):bX f (aTN N K):=fun _ _ _ e=>by
 unfold aTN at e;split at e
 ·exact mQ e (h _ _)
 ·cases e
def aGC(a:Bool)(b:aE):Pt (Int):=(.ok true (.ok ((M6 b.Write 1)&&((M6 a 2)&&true)) (.ok true (.ok true (.leaf (rM (M5 b.Write 1) (M5 a 2)))))))
def aNK(a:Bool)(b:aE):Int:=hid (aGC a b).val
def aNL(a:Bool)(b:aE):Bool:=hid (aGC a b).okv
def a2F(a:Bool)(b:aE)(r:Int):SV×List Blk:=((.one (li r)),[])
def q114:=aTN (fun a b=>a2F a b (aNK a b)) aNL
theorem bBE:bX 100114 q114:=aTO fun a b hk=>tz aY4 WQ [(6,mA)] [] true (aGC a b) (a2F a b) hk
def Q114:=aV 100114 q114 Q168
theorem WR:QO Q114:=aG bBE WQ
def bBF(a:aI)(b:aE)(p0:Bool)(p1:Bool):List SV:=[(.agg [.imm p0 1 a.D, .imm p1 1 a.A,li a.Other,li a.PC,li a.Flags,li a.Mask, .lit (.bool a.Super), .lit (.bool a.Trace)]),(.agg [li b.Vector,li b.PC,li b.Addr,li b.Word, .lit (.bool b.Write)])]
def bBG(a:aI)(b:aE)(p0:Bool)(p1:Bool):List Blk:=[]
def aTP(N:aI→aE→SV×List Blk)(K:aI→aE→Bool):List SV→List Blk→Option ((SV×List Blk)×Bool)
 |[(.agg [.imm p0 1 c0, .imm p1 1 c1,li c2,li c3,li c4,li c5, .lit (.bool c6), .lit (.bool c7)]),(.agg [li c8,li c9,li c10,li c11, .lit (.bool c12)])],[]=>some (N (aI.mk c0 c1 c2 c3 c4 c5 c6 c7) (aE.mk c8 c9 c10 c11 c12),K (aI.mk c0 c1 c2 c3 c4 c5 c6 c7) (aE.mk c8 c9 c10 c11 c12))
 |_,_=>none
theorem aTQ{N:aI→aE→SV×List Blk}{K:aI→aE→Bool}{f:Nat}(h: ∀(a:aI)(b:aE)(p0:Bool)(p1:Bool),K a b=true→cF R f (bBF a b p0 p1) (bBG a b p0 p1)=some (N a b)):bX f (aTP N K):=fun _ _ _ e=>by
 unfold aTP at e;split at e
 ·exact mQ e (h _ _ _ _)
 ·cases e
def aGD(a:aI)(b:aE):Pt (List Row):=(.ok true (.ok (((aTM a)&&true)&&true) (.ok ((NC b.Vector)&&true) (.br (QT b.Vector) (.ok (((aNL a.Super b)&&true)&&true) (.ok true (.ok true (.leaf [(aH b.PC),(aH (aNJ a)),(aH b.Word),(aH b.Addr),(aH (aNK a.Super b))])))) (.ok true (.ok true (.leaf [(aH b.PC),(aH (aNJ a))])))))))
def EG(a:aI)(b:aE):List Row:=hid (aGD a b).val
def aNM(a:aI)(b:aE):Bool:=hid (aGD a b).okv
def a2G(a:aI)(b:aE)(r:List Row):SV×List Blk:=((.one (.sl 0 0 (ln r))),[.lst 1 r])
def q105:=aTP (fun a b=>a2G a b (EG a b)) aNM
theorem bBH:bX 105 q105:=aTQ fun a b p0 p1 hk=>tc aYV WR [(7,K0),(8,K6),(12,K0),(16,K0),(18,K0),(20,mA),(21,K9)] [] true (aGD a b) (a2G a b) hk
def Q105:=aV 105 q105 Q114
theorem WS:QO Q105:=aG bBH WR
def bBI(a:aI)(b:Int):List SV:=[(.agg [.sl 0 0 (ln a.D), .sl 1 0 (ln a.A),li a.Other,li a.PC,li a.Flags,li a.Mask, .lit (.bool a.Super), .lit (.bool a.Trace)]),(.one (li b))]
def bBJ(a:aI)(b:Int):List Blk:=[.lst 1 a.D, .lst 1 a.A]
def aTR(N:aI→Int→SV×List Blk)(K:aI→Int→Bool):List SV→List Blk→Option ((SV×List Blk)×Bool)
 |[(.agg [.sl 0 0 l0, .sl 1 0 l1,li c0,li c1,li c2,li c3, .lit (.bool c4), .lit (.bool c5)]),(.one (li c6))],[.lst 1 c_0, .lst 1 c_1]=>some (N (aI.mk c_0 c_1 c0 c1 c2 c3 c4 c5) c6,dR l0 (ln c_0)&&(dR l1 (ln c_1)&&(K (aI.mk c_0 c_1 c0 c1 c2 c3 c4 c5) c6)))
 |_,_=>none
theorem aTS{N:aI→Int→SV×List Blk}{K:aI→Int→Bool}{f:Nat}(h: ∀(a:aI)(b:Int),K a b=true→cF R f (bBI a b) (bBJ a b)=some (N a b)):bX f (aTR N K):=fun args hp r e=>by
 unfold aTR at e;split at e
 ·rename_i l0 l1 c0 c1 c2 c3 c4 c5 c6 c_0 c_1;obtain⟨hr,hk⟩:=qp (qi e);obtain⟨d0,hk0⟩:=aT hk;obtain⟨d1,hk1⟩:=aT hk0;obtain rfl:=of_decide_eq_true d0;obtain rfl:=of_decide_eq_true d1;rw[←hr];exact h (aI.mk c_0 c_1 c0 c1 c2 c3 c4 c5) c6 hk1
 ·simp at e
section
variable(a:aI)
def SL:Bool:=((e1 (ln a.D))&&((dR (ln a.A) (ln (List.set a.A 3 (aH a.Other))))&&true))
def EH:Bool:=((e1 (ln a.D))&&((e1 (ln a.A))&&true))
end
def aGE(a:aI)(b:Int):Pt (aI):=(.ok true (.ok true (.ok true (.br (!(uZ (eV (cM b 256) 0) a.Super)) (.ok ((ltI 3 (aX a.A))&&((dC [.int .i64] a.A 3 0)&&true)) (.ok ((ltI 3 (aX a.A))&&(((blt 3 (ln a.A))&&(gD (gE a.A 3) 1))&&true)) (.ok true (.ok true (.ok true (.ok true (.ok true (.ok true (.ok (((SL a)&&((EH a)&&true))&&((SL a)&&true)) (.leaf (aI.mk a.D (List.set a.A 3 (aH a.Other)) (aU a.A 3 0) a.PC (cM b 31) (cM (xQ b 5) 7) (eV (cM b 256) 0) (eV (cM b 512) 0)))))))))))) (.ok true (.ok true (.ok true (.ok true (.ok true (.ok (((EH a)&&((EH a)&&true))&&((EH a)&&true)) (.leaf {a with Flags:=(cM b 31),Mask:=(cM (xQ b 5) 7),Super:=(eV (cM b 256) 0),Trace:=(eV (cM b 512) 0)})))))))))))
def aTT(a:aI)(b:Int):aI:=hid (aGE a b).val
def aTU(a:aI)(b:Int):Bool:=hid (aGE a b).okv
def a2H(a:aI)(b:Int)(r:aI):SV×List Blk:=((.agg [.sl 0 0 (ln r.D), .sl 1 0 (ln r.A),li r.Other,li r.PC,li r.Flags,li r.Mask, .lit (.bool r.Super), .lit (.bool r.Trace)]),[.lst 1 r.D, .lst 1 r.A])
def q167:=aTR (fun a b=>a2H a b (aTT a b)) aTU
theorem bBK:bX 167 q167:=aTS fun a b hk=>tc aZM WS [(12,mA),(15,K1),(16,K0),(17,K0),(19,K1),(21,K0),(22,K0),(38,K6),(1000001,[])] [] true (aGE a b) (a2H a b) hk
def Q167:=aV 167 q167 Q105
theorem WT:QO Q167:=aG bBK WS
def bBL(a:bL):List SV:=[(.one (.ptr 0 0 0))]
def bBM(a:bL):List Blk:=[.box [.sl 1 0 (ln a.fr.D), .sl 2 0 (ln a.fr.A),li a.fr.Other,li a.fr.PC,li a.fr.Flags,li a.fr.Mask, .lit (.bool a.fr.Super), .lit (.bool a.fr.Trace), .sl 3 0 (ln a.fbus.Bytes), .sl 4 0 (ln a.fbus.Log), .lit (.bool a.fstop),li a.ffault.Vector,li a.ffault.PC,li a.ffault.Addr,li a.ffault.Word, .lit (.bool a.ffault.Write)], .lst 1 a.fr.D, .lst 1 a.fr.A, .lst 1 a.fbus.Bytes, .lst 5 a.fbus.Log]
def aNN(N:bL→SV×List Blk)(K:bL→Bool):List SV→List Blk→Option ((SV×List Blk)×Bool)
 |[(.one (.ptr 0 0 0))],[.box [.sl 1 0 l1, .sl 2 0 l2,li c0,li c1,li c2,li c3, .lit (.bool c4), .lit (.bool c5), .sl 3 0 l3, .sl 4 0 l4, .lit (.bool c6),li c7,li c8,li c9,li c10, .lit (.bool c11)], .lst 1 c_1, .lst 1 c_2, .lst 1 c_3, .lst 5 c_4]=>some (N (bL.mk (aI.mk c_1 c_2 c0 c1 c2 c3 c4 c5) (aO.mk c_3 c_4) c6 (aE.mk c7 c8 c9 c10 c11)),dR l1 (ln c_1)&&(dR l2 (ln c_2)&&(dR l3 (ln c_3)&&(dR l4 (ln c_4)&&(K (bL.mk (aI.mk c_1 c_2 c0 c1 c2 c3 c4 c5) (aO.mk c_3 c_4) c6 (aE.mk c7 c8 c9 c10 c11)))))))
 |_,_=>none
theorem aGF{N:bL→SV×List Blk}{K:bL→Bool}{f:Nat}(h: ∀(a:bL),K a=true→cF R f (bBL a) (bBM a)=some (N a)):bX f (aNN N K):=fun args hp r e=>by
 unfold aNN at e;split at e
 ·rename_i l1 l2 c0 c1 c2 c3 c4 c5 l3 l4 c6 c7 c8 c9 c10 c11 c_1 c_2 c_3 c_4;obtain⟨hr,hk⟩:=qp (qi e);obtain⟨d0,hk0⟩:=aT hk;obtain⟨d1,hk1⟩:=aT hk0;obtain⟨d2,hk2⟩:=aT hk1;obtain⟨d3,hk3⟩:=aT hk2;obtain rfl:=of_decide_eq_true d0;obtain rfl:=of_decide_eq_true d1;obtain rfl:=of_decide_eq_true d2;obtain rfl:=of_decide_eq_true d3;rw[←hr];exact h (bL.mk (aI.mk c_1 c_2 c0 c1 c2 c3 c4 c5) (aO.mk c_3 c_4) c6 (aE.mk c7 c8 c9 c10 c11)) hk3
 ·simp at e
section
variable(a:bL)
def aGG:Bool:=((e1 (ln a.fr.D))&&((e1 (ln a.fr.A))&&((e1 (ln a.fbus.Bytes))&&((e1 (ln a.fbus.Log))&&true))))
end
def T81(a:bL):Pt (Bool):=(.ok true (.ok true (.ok (((aGG a)&&(aGG a))&&true) (.leaf (eqI a.ffault.Vector 0)))))
def g81(a:bL):Bool:=hid (T81 a).val
def k81(a:bL):Bool:=hid (T81 a).okv
def n81(a:bL)(r:Bool):SV×List Blk:=((.one (.lit (.bool r))),[.box [.sl 1 0 (ln a.fr.D), .sl 2 0 (ln a.fr.A),li a.fr.Other,li a.fr.PC,li a.fr.Flags,li a.fr.Mask, .lit (.bool a.fr.Super), .lit (.bool a.fr.Trace), .sl 3 0 (ln a.fbus.Bytes), .sl 4 0 (ln a.fbus.Log), .lit (.bool a.fstop),li a.ffault.Vector,li a.ffault.PC,li a.ffault.Addr,li a.ffault.Word, .lit (.bool a.ffault.Write)], .lst 1 a.fr.D, .lst 1 a.fr.A, .lst 1 a.fbus.Bytes, .lst 5 a.fbus.Log])
def q81:=aNN (fun a=>n81 a (g81 a)) k81
theorem t81:bX 81 q81:=aGF fun a hk=>tc a68 WT [(7,K0)] [] true (T81 a) (n81 a) hk
def Q81:=aV 81 q81 Q167
theorem aGH:QO Q81:=aG t81 WT
def aGI(a:Int):Pt (Int):=(.ok true (.ok true (.ok (((lX a 448 495)&&true)||(rE a 512)) (.br (bif (rE a 512)then(rE a 512)else(jW a 448 495)) (.ok true (.ok true (.ok true (.leaf 1)))) (.ok ((lX a 384 447)&&true) (.br (jW a 384 447) (.ok true (.ok true (.ok true (.leaf 3)))) (.ok true (.ok true (.ok true (.leaf 0))))))))))
def SM(a:Int):Int:=hid (aGI a).val
def ZZ(a:Int):Bool:=hid (aGI a).okv
def q231:=IG (fun a=>ND a (SM a)) ZZ
theorem bBN:bX 100231 q231:=i9 fun a hk=>tz a0L aGH [] [] true (aGI a) (ND a) hk
def Q231:=aV 100231 q231 Q81
theorem WU:QO Q231:=aG bBN aGH
section
variable(b:Int)(c:Int)
def SN:Int:=(SM (eQ (aR c b) 1))
end
def aGJ(a:Int)(b:Int)(c:Int):Pt (Int):=(.ok true (.ok true (.ok true (.br (bif (eqI b 2)then(eqI (cM c 1) 1)else false) (.ok true (.ok true (.ok true (.leaf 2)))) (.ok ((ZZ c)&&((((ZZ (eQ (aR c b) 1))&&true)||(eqI (SM c) 1))&&true)) (.br (bif (eqI (SM c) 1)then true else(eqI (SN b c) 1)) (.ok true (.ok true (.ok true (.leaf 1)))) (.ok ((((ZZ c)&&((((ZZ (eQ (aR c b) 1))&&true)||(eqI (SM c) 3))&&true))||(!(eqI a 2)))&&true) (.br (bif (eqI a 2)then(bif (eqI (SM c) 3)then true else(eqI (SN b c) 3))else false) (.ok true (.ok true (.ok true (.leaf 3)))) (.ok true (.ok true (.ok true (.leaf 0))))))))))))
def GC(a:Int)(b:Int)(c:Int):Int:=hid (aGJ a b c).val
def aNQ(a:Int)(b:Int)(c:Int):Bool:=hid (aGJ a b c).okv
def q181:=DS5 (fun a b c=>aMV a b c (GC a b c)) aNQ
theorem bBO:bX 100181 q181:=UT fun a b c hk=>tz aZY WU [] [] true (aGJ a b c) (aMV a b c) hk
def Q181:=aV 100181 q181 Q231
theorem KS:QO Q181:=aG bBO WU
structure V209_0 where
 mk::
 (b0:aO)
 (s1:Int)
 (s2:Int)
 (s3:Int)
 (s4:Int)
 (s12:Int)
 (s13:Int)
 (s14:Int)
section
variable(v:V209_0)
def iM:Int:=(lM .u64 (dD 8 (eQ (eQ v.s2 1) v.s14)))
def iO:Bool:=((leI 0 (aR v.s3 v.s14))&&(ltI (aR v.s3 v.s14) (aX v.b0.Bytes)))
def fT:Bool:=((e1 (ln v.b0.Bytes))&&((e1 (ln v.b0.Log))&&true))
def iP:List Row:=(List.set v.b0.Bytes (0+(iN (aR v.s3 v.s14))) (aH (cM (xQ v.s4 (iM v)) 255)))
def iQ:Bool:=((dR (ln v.b0.Bytes) (ln (iP v)))&&((e1 (ln v.b0.Log))&&true))
end
def iR(v:V209_0):Pt (Option V209_0):=(.ok true (.br (ltI v.s14 v.s2) (.ok true (.br (eqI v.s1 2) (.ok ((leI 0 (iM v))&&((iO v)&&(((blt (0+(iN (aR v.s3 v.s14))) (ln v.b0.Bytes))&&(gD (gE v.b0.Bytes (0+(iN (aR v.s3 v.s14)))) 1))&&true))) (.ok true (.ok ((((fT v)&&(iQ v))&&true)&&((iQ v)&&true)) (.leaf (some {v with b0:={v.b0 with Bytes:=(iP v)},s14:=(aR v.s14 1)}))))) (.ok ((iO v)&&((dC [.int .i64] v.b0.Bytes (0+(iN (aR v.s3 v.s14))) 0)&&true)) (.ok true (.ok ((((fT v)&&(fT v))&&true)&&((fT v)&&true)) (.leaf (some {v with s13:=(rM (nH v.s13 8) (aU v.b0.Bytes (0+(iN (aR v.s3 v.s14))) 0)),s14:=(aR v.s14 1)}))))))) (.leaf none)))
def EI(v:V209_0):St:=⟨[(0,(.one (.ptr 0 0 0))),(1,(.one (li v.s1))),(2,(.one (li v.s2))),(3,(.one (li v.s3))),(4,(.one (li v.s4))),(12,(.one (li v.s12))),(13,(.one (li v.s13))),(14,(.one (li v.s14)))],[.box [.sl 1 0 (ln v.b0.Bytes), .sl 2 0 (ln v.b0.Log)], .lst 1 v.b0.Bytes, .lst 5 v.b0.Log]⟩
def KT:St→Option (V209_0×Bool)
 |⟨[(0,(.one (.ptr 0 0 0))),(1,(.one (li c0))),(2,(.one (li c1))),(3,(.one (li c2))),(4,(.one (li c3))),(12,(.one (li c4))),(13,(.one (li c5))),(14,(.one (li c6)))],[.box [.sl 1 0 l1, .sl 2 0 l2], .lst 1 c_1, .lst 5 c_2]⟩=>some ((V209_0.mk (aO.mk c_1 c_2) c0 c1 c2 c3 c4 c5 c6),dR l1 (ln c_1)&&(dR l2 (ln c_2)&&(true)))
 |_=>none
def KU:St→Option (Pt Out):=mV Q181 [(34,K1),(47,K0),(53,K1),(57,K0),(58,K0),(63,OC),(78,OC),(1000003,[])] [] true [] 1 2097152 PN
theorem aNR(v:V209_0):((KU (EI v)).bind (jS true true 1 [0,1,2,3,4,12,13,14]))=some ((iR v).map (Option.map EI)):=by kernel_rfl
theorem aNS(σ:St)(v:V209_0)(h:KT σ=some (v,true)):σ=EI v:=by
 unfold KT at h;split at h
 ·obtain⟨hr,hk⟩:=qp (qi h);obtain⟨d0,hk0⟩:=aT hk;obtain⟨d1,hk1⟩:=aT hk0;obtain rfl:=of_decide_eq_true d0;obtain rfl:=of_decide_eq_true d1;rw[←hr];rfl
 ·simp at h
theorem aNT:bN (lL true true 1 [0,1,2,3,4,12,13,14] KU KT EI iR 2097152) (dI R 1 2097152 (.loop [0,1,2,3,4,12,13,14] PN)):=cH (bO KS (bH (l:=[]) (by kernel_rfl) trivial)) aNS aNR
def aNU:Lp:=(24,lL true true 1 [0,1,2,3,4,12,13,14] KU KT EI iR 2097152)::[]
def SO(v:V209_0):V209_0:=(hid (cB iR 2097152 v)).getD v
def SP(v:V209_0):Bool:=(hid (cB iR 2097152 v)).isSome
section
variable(b:Int)(c:Int)(d:Int)(o:Int)(a:aO)
def nV:Bool:=((e1 (ln a.Bytes))&&((e1 (ln a.Log))&&true))
def eU:V209_0:=(SO (V209_0.mk a b c d o (GC b c d) (bif (eV b 2)then 0 else o) 0))
def kQ:Nat:=(ln (eU b c d o a).b0.Log)
def EJ:Nat:=(ln (eU b c d o a).b0.Bytes)
def EK:List Row:=((eU b c d o a).b0.Log++[(aA.row (aA.mk (eU b c d o a).s1 (eU b c d o a).s2 (eU b c d o a).s3 (eU b c d o a).s13 (eU b c d o a).s12))])
def EM:Bool:=((e1 (EJ b c d o a))&&((e1 (ln (EK b c d o a)))&&true))
def EN:Bool:=((e1 (EJ b c d o a))&&((e1 (kQ b c d o a))&&true))
def EO:List Row:=(a.Log++[(aA.row (aA.mk b c d (bif (eV b 2)then 0 else o) (GC b c d)))])
def EP:Bool:=((e1 (ln a.Bytes))&&((e1 (ln (EO b c d o a)))&&true))
end
def SQ(b:Int)(c:Int)(d:Int)(o:Int)(a:aO):Pt (aO×Int×Int):=(.ok true (.ok ((aNQ b c d)&&true) (.ok true (.ok true (.ok true (.ok true (.br (eqI (GC b c d) 0) (.ok true (.ok ((((nV a)&&(nV a))&&true)&&((nV a)&&true)) (.ok (nV a) (.ok (SP (V209_0.mk a b c d o (GC b c d) (bif (eV b 2)then 0 else o) 0)) (.ok ((iE (0+(kQ b c d o a)) (kQ b c d o a))&&true) (.br (bif (ltI (aX (eU b c d o a).b0.Log) 400)then(bif (eV (eU b c d o a).s1 3)then true else(eV (eU b c d o a).s12 0))else false) (.ok (((e1 (kQ b c d o a))&&((dR (0+(kQ b c d o a)) (kQ b c d o a))&&((iE (kL ((kQ b c d o a)+1) 40) 140737488355328)&&(iE ((kQ b c d o a)+1) 140737488355328))))&&true) (.ok true (.ok (((EM b c d o a)&&(EM b c d o a))&&true) (.leaf ({(eU b c d o a).b0 with Log:=(EK b c d o a)},(eU b c d o a).s13,(eU b c d o a).s12))))) (.ok true (.ok (((EN b c d o a)&&(EN b c d o a))&&true) (.leaf ((eU b c d o a).b0,(eU b c d o a).s13,(eU b c d o a).s12)))))))))) (.ok ((iE (0+(ln a.Log)) (ln a.Log))&&true) (.br (bif (ltI (aX a.Log) 400)then(bif (eV b 3)then true else(eV (GC b c d) 0))else false) (.ok (((e1 (ln a.Log))&&((dR (0+(ln a.Log)) (ln a.Log))&&((iE (kL ((ln a.Log)+1) 40) 140737488355328)&&(iE ((ln a.Log)+1) 140737488355328))))&&true) (.ok true (.ok (((EP b c d o a)&&(EP b c d o a))&&true) (.leaf ({a with Log:=(EO b c d o a)},(bif (eV b 2)then 0 else o),(GC b c d)))))) (.ok true (.ok (((nV a)&&(nV a))&&true) (.leaf (a,(bif (eV b 2)then 0 else o),(GC b c d))))))))))))))
def aNV(b:Int)(c:Int)(d:Int)(o:Int)(a:aO):aO×Int×Int:=hid (SQ b c d o a).val
def aNW(b:Int)(c:Int)(d:Int)(o:Int)(a:aO):Bool:=hid (SQ b c d o a).okv
def q209:=aMW (fun b c d o a=>aMX b c d o a (aNV b c d o a)) aNW
theorem a2J:dN (fun live x=>bN (hX aNU (gK x)) (dI R 1 2097152 (.loop live x))) F209.body:=(bH (l:=[([0,1,2,3,4,12,13,14],PN)]) (by kernel_rfl) ⟨dK (n:=24) (by kernel_rfl) fun σ σr t h ho hl=>aNT σ σr t h ho hl,trivial⟩)
theorem bBP:bX 209 q209:=aFC fun b c d o a hk=>UN a0G KS a2J [(34,K1),(47,K0),(53,K1),(57,K0),(58,K0),(63,OC),(78,OC),(1000003,[])] [] true (SQ b c d o a) (aMX b c d o a) hk
def Q209:=aV 209 q209 Q181
theorem WV:QO Q209:=aG bBP KS
end
end Go.Proofs.YtdipcnijfkdnfaaGreatFrames
