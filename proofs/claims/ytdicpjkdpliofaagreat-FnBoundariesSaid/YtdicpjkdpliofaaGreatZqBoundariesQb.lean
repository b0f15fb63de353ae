import Derived.Test.YtdicpjkdpliofaaGreatZqTabBoundaries
import Derived.Test.YtdicpjkdpliofaaGreatZmc
import Derived.KernelRfl
import Derived.Test.YtdicpjkdpliofaaGreatZqBoundariesR
import Derived.Test.YtdicpjkdpliofaaGreatZqBoundariesQa
set_option linter.unusedVariables false
set_option linter.unusedSimpArgs false
namespace Go.Proofs.YtdicpjkdpliofaaGreatBoundaries
open Option.some renaming inj → qi
open Prod.mk renaming inj → qp
open Int renaming toNat → iN
open Go Go.Zq
open List renaming length→ln
set_option maxRecDepth 100000
set_option maxHeartbeats 4000000
noncomputable section
def a60(b:Int)(a:bD)(x0_fc:aD):Pt (aD):=(.ok (((bP8 a.fx.Size x0_fc.R.Flags b)&&true)&&true) (.ok (((aI x0_fc true)&&(aI x0_fc true))&&true) (.leaf {x0_fc with R:={x0_fc.R with Flags:=(bP7 a.fx.Size x0_fc.R.Flags b)}})))
def uA(b:Int)(a:bD)(x0_fc:aD):aD:=hid (a60 b a x0_fc).val
def wI(b:Int)(a:bD)(x0_fc:aD):Bool:=hid (a60 b a x0_fc).okv
def bHU(b:Int)(a:bD)(x0_fc:aD)(r:aD):SV×List Blk:=((.tup []),[.box [.ptr 1 0 0,li a.fx.Op,li a.fx.Size,li a.fx.Reg,li a.fx.Ea.Mode,li a.fx.Ea.Reg,li a.fx.Ea.Ext,li a.fx.Sub,li a.fpc,li a.fword,li a.ffault.Vector,li a.ffault.PC,li a.ffault.Addr,li a.ffault.Word, .lit (.bool a.ffault.Write)], .box [.sl 2 0 (ln r.R.D), .sl 3 0 (ln r.R.A),li r.R.Other,li r.R.PC,li r.R.Flags,li r.R.Mask, .lit (.bool r.R.Super), .lit (.bool r.R.Trace), .sl 4 0 (ln r.Bus.Bytes), .sl 5 0 (ln r.Bus.Log), .lit (.bool r.Stop), .lit (.bool r.Halt)], .lst 1 r.R.D, .lst 1 r.R.A, .lst 1 r.Bus.Bytes, .lst 5 r.Bus.Log])
def q330:=aL9 (fun b a x0_fc=>bHU b a x0_fc (uA b a x0_fc)) wI
theorem b7Q:cD 330 q330:=TP fun b a x0_fc hk=>tc aS3 (a60 b a x0_fc) (bHU b a x0_fc) hk
def Q330:=aX 330 q330 Q353
theorem aS4:QO Q330:=aB b7Q aS3
section
variable(b:Int)(a:bD)(x0_fc:aD)
def TS:aE:=(aCN a.fx.Size a.fx.Reg b x0_fc.R)
def aCP:aD:=(uA b a {x0_fc with R:=(TS b a x0_fc)})
end
def a61(b:Int)(a:bD)(x0_fc:aD):Pt (aD):=(ot (.br (cU a.ffault.Vector 0) (.ok (((aI x0_fc true)&&(aI x0_fc true))&&true) (.leaf x0_fc)) (.ok (((hX x0_fc.R (aCO a.fx.Size a.fx.Reg b x0_fc.R))&&true)&&true) (.ok ((dd (aK (TS b a x0_fc) (bI x0_fc.Bus true)) (aK (TS b a x0_fc) (bI x0_fc.Bus (wI b a {x0_fc with R:=(TS b a x0_fc)}))))&&true) (.ok (((aI (aCP b a x0_fc) true)&&(aI (aCP b a x0_fc) true))&&true) (.leaf (aCP b a x0_fc)))))))
def PF(b:Int)(a:bD)(x0_fc:aD):aD:=hid (a61 b a x0_fc).val
def PG(b:Int)(a:bD)(x0_fc:aD):Bool:=hid (a61 b a x0_fc).okv
def q325:=aL9 (fun b a x0_fc=>bHU b a x0_fc (PF b a x0_fc)) PG
theorem b7R:cD 325 q325:=TP fun b a x0_fc hk=>tc aS4 (a61 b a x0_fc) (bHU b a x0_fc) hk
def Q325:=aX 325 q325 Q330
theorem aS5:QO Q325:=aB b7R aS4
def a62(a:Int)(b:Int):Pt (Int):=(ot (.ok ((DP a)&&true) (.br (geI b (lZ (pW a) 2)) (.ok ((DP a)&&true) (ot (ot (.leaf (cF b (pW a)))))) (ot (ot (ot (.leaf b)))))))
def aCQ(a:Int)(b:Int):Int:=hid (a62 a b).val
def aGZ(a:Int)(b:Int):Bool:=hid (a62 a b).okv
def q337:=KV (fun a b=>WR a b (aCQ a b)) aGZ
theorem b7S:cD 100337 q337:=tX fun a b hk=>tz aS5 (a62 a b) (WR a b) hk
def Q337:=aX 100337 q337 Q325
theorem aS6:QO Q337:=aB b7S aS5
section
variable(a:Int)(b:Int)(c:Int)
def aML:Bool:=(cU c (aCQ a (aZ b (cF (pW a) 1))))
end
def a63(a:Int)(b:Int)(c:Int):Pt (Int×Int):=(ot (.ok ((DP a)&&true) (.ok ((aGZ a (aZ b (cF (pW a) 1)))&&true) (.ok ((yN (cU b (aZ b (cF (pW a) 1))) 17)&&((yN (aML a b c) 2)&&((aZH a (aZ b (cF (pW a) 1)))&&true))) (ot (ot (.leaf ((aZ b (cF (pW a) 1)),(eT (eT (yM (cU b (aZ b (cF (pW a) 1))) 17) (yM (aML a b c) 2)) (aZG a (aZ b (cF (pW a) 1))))))))))))
def bHV(a:Int)(b:Int)(c:Int):Int×Int:=hid (a63 a b c).val
def bHW(a:Int)(b:Int)(c:Int):Bool:=hid (a63 a b c).okv
def aZI(a:Int)(b:Int)(c:Int)(r:Int×Int):SV×List Blk:=((.tup [(.one (li r.1)),(.one (li r.2))]),[])
def q351:=DS5 (fun a b c=>aZI a b c (bHV a b c)) bHW
theorem b7T:cD 100351 q351:=C9 fun a b c hk=>tz aS6 (a63 a b c) (aZI a b c) hk
def Q351:=aX 100351 q351 Q337
theorem aS7:QO Q351:=aB b7T aS6
def b7U(a:Int)(b:Int)(c:Int)(d:Int):List SV:=[(.one (li a)),(.one (li b)),(.one (li c)),(.one (li d))]
def b7V(a:Int)(b:Int)(c:Int)(d:Int):List Blk:=[]
def WS(N:Int→Int→Int→Int→SV×List Blk)(K:Int→Int→Int→Int→Bool):List SV→List Blk→Option ((SV×List Blk)×Bool)
 |[(.one (li c0)),(.one (li c1)),(.one (li c2)),(.one (li c3))],[]=>some (N c0 c1 c2 c3,K c0 c1 c2 c3)
 |_,_=>none
theorem DS{N:Int→Int→Int→Int→SV×List Blk}{K:Int→Int→Int→Int→Bool}{f:Nat}(h: ∀(a:Int)(b:Int)(c:Int)(d:Int),K a b c d=true→cY R f (b7U a b c d) (b7V a b c d)=some (N a b c d)):cD f (WS N K):=fun _ _ _ e=>by
 unfold WS at e;split at e
 ·exact vO e (h _ _ _ _)
 ·cases e
section
variable(a:Int)(b:Int)(c:Int)(d:Int)
def aMM:Int:=(cF (cF (aCQ a c) (aCQ a d)) b)
def aMN:Int×Int:=(bHV a (cF (cF c d) b) (aMM a b c d))
end
def a64(a:Int)(b:Int)(c:Int)(d:Int):Pt (Int×Int):=(ot (.ok ((aGZ a c)&&((aGZ a d)&&((bHW a (cF (cF c d) b) (aMM a b c d))&&true))) (ot (ot (.leaf ((aMN a b c d).1,(aMN a b c d).2))))))
def K2(a:Int)(b:Int)(c:Int)(d:Int):Int×Int:=hid (a64 a b c d).val
def WT(a:Int)(b:Int)(c:Int)(d:Int):Bool:=hid (a64 a b c d).okv
def PH(a:Int)(b:Int)(c:Int)(d:Int)(r:Int×Int):SV×List Blk:=((.tup [(.one (li r.1)),(.one (li r.2))]),[])
def q328:=WS (fun a b c d=>PH a b c d (K2 a b c d)) WT
theorem b7W:cD 100328 q328:=DS fun a b c d hk=>tz aS7 (a64 a b c d) (PH a b c d) hk
def Q328:=aX 100328 q328 Q351
theorem aS8:QO Q328:=aB b7W aS7
def a65(a:Int)(b:Int)(c:Int)(d:Int):Pt (Int):=(ot (.ok ((WT a 0 c d)&&true) (ot (ot (ot (.leaf (eT (fX (K2 a 0 c d).2 16) (aZ b 16))))))))
def bP9(a:Int)(b:Int)(c:Int)(d:Int):Int:=hid (a65 a b c d).val
def bQA(a:Int)(b:Int)(c:Int)(d:Int):Bool:=hid (a65 a b c d).okv
def bHX(a:Int)(b:Int)(c:Int)(d:Int)(r:Int):SV×List Blk:=((.one (li r)),[])
def q326:=WS (fun a b c d=>bHX a b c d (bP9 a b c d)) bQA
theorem b7X:cD 100326 q326:=DS fun a b c d hk=>tz aS8 (a65 a b c d) (bHX a b c d) hk
def Q326:=aX 100326 q326 Q328
theorem aS9:QO Q326:=aB b7X aS8
section
variable(a:Int)(b:Int)(c:Int)(d:Int)
def aMO:Int:=(aV (aV (aCQ a c) (aCQ a d)) b)
def aMP:Int×Int:=(bHV a (aV (aV c d) b) (aMO a b c d))
end
def a66(a:Int)(b:Int)(c:Int)(d:Int):Pt (Int×Int):=(ot (.ok ((aGZ a c)&&((aGZ a d)&&((bHW a (aV (aV c d) b) (aMO a b c d))&&true))) (ot (ot (.leaf ((aMP a b c d).1,(aMP a b c d).2))))))
def bQB(a:Int)(b:Int)(c:Int)(d:Int):Int×Int:=hid (a66 a b c d).val
def bQC(a:Int)(b:Int)(c:Int)(d:Int):Bool:=hid (a66 a b c d).okv
def q327:=WS (fun a b c d=>PH a b c d (bQB a b c d)) bQC
theorem b7Y:cD 100327 q327:=DS fun a b c d hk=>tz aS9 (a66 a b c d) (PH a b c d) hk
def Q327:=aX 100327 q327 Q326
theorem aTA:QO Q327:=aB b7Y aS9
section
variable(a:bD)(x0_fc:aD)
def wJ:Bool:=(((aI (cN a x0_fc).2.1 true)&&(aI (cN a x0_fc).2.1 true))&&true)
def wK:aD:=(PF (cN a x0_fc).2.2 (cN a x0_fc).1 (cN a x0_fc).2.1)
def oC:Int:=(aGX (cN a x0_fc).1.fx.Reg (cN a x0_fc).1 (cN a x0_fc).2.1)
def yO:Int:=(aZ (oC a x0_fc) (cN a x0_fc).2.2)
def wL:aD:=(PF (yO a x0_fc) (cN a x0_fc).1 (cN a x0_fc).2.1)
def yP:Int:=(eT (oC a x0_fc) (cN a x0_fc).2.2)
def wM:aD:=(PF (yP a x0_fc) (cN a x0_fc).1 (cN a x0_fc).2.1)
def yQ:Int:=(qR (oC a x0_fc) (cN a x0_fc).2.2)
def wN:aD:=(PF (yQ a x0_fc) (cN a x0_fc).1 (cN a x0_fc).2.1)
def wO:Int×Int:=(bQB a.fx.Size 0 (oC a x0_fc) (cN a x0_fc).2.2)
def sV:aE:=(aCN a.fx.Size (cN a x0_fc).1.fx.Reg (wO a x0_fc).1 (cN a x0_fc).2.1.R)
def sW:Bool:=(aK (sV a x0_fc) (bI (cN a x0_fc).2.1.Bus true))
def rF:Int×Int:=(K2 a.fx.Size 0 (oC a x0_fc) (cN a x0_fc).2.2)
def sX:aE:=(aCN a.fx.Size (cN a x0_fc).1.fx.Reg (rF a x0_fc).1 (cN a x0_fc).2.1.R)
def sY:Bool:=(aK (sX a x0_fc) (bI (cN a x0_fc).2.1.Bus true))
end
def a67(a:bD)(x0_fc:aD):Pt (bD×aD):=(ot (.ok ((cC x0_fc (aZF a x0_fc))&&true) (ot (.br (cU (cN a x0_fc).1.ffault.Vector 0) (.ok (wJ a x0_fc) (.leaf ((cN a x0_fc).1,(cN a x0_fc).2.1))) (.ok ((cC (cN a x0_fc).2.1 (aGY (cN a x0_fc).1.fx.Reg (cN a x0_fc).1 (cN a x0_fc).2.1))&&true) (ot (ot (.br (eqI (cN a x0_fc).1.fx.Op 1) (.ok ((cC (cN a x0_fc).2.1 (PG (cN a x0_fc).2.2 (cN a x0_fc).1 (cN a x0_fc).2.1))&&true) (.ok (((aI (wK a x0_fc) true)&&(aI (wK a x0_fc) true))&&true) (.leaf ((cN a x0_fc).1,(wK a x0_fc))))) (ot (.br (eqI (cN a x0_fc).1.fx.Op 5) (.ok ((cC (cN a x0_fc).2.1 (PG (yO a x0_fc) (cN a x0_fc).1 (cN a x0_fc).2.1))&&true) (.ok (((aI (wL a x0_fc) true)&&(aI (wL a x0_fc) true))&&true) (.leaf ((cN a x0_fc).1,(wL a x0_fc))))) (ot (.br (eqI (cN a x0_fc).1.fx.Op 6) (.ok ((cC (cN a x0_fc).2.1 (PG (yP a x0_fc) (cN a x0_fc).1 (cN a x0_fc).2.1))&&true) (.ok (((aI (wM a x0_fc) true)&&(aI (wM a x0_fc) true))&&true) (.leaf ((cN a x0_fc).1,(wM a x0_fc))))) (ot (.br (eqI (cN a x0_fc).1.fx.Op 7) (.ok ((cC (cN a x0_fc).2.1 (PG (yQ a x0_fc) (cN a x0_fc).1 (cN a x0_fc).2.1))&&true) (.ok (((aI (wN a x0_fc) true)&&(aI (wN a x0_fc) true))&&true) (.leaf ((cN a x0_fc).1,(wN a x0_fc))))) (ot (.br (eqI (cN a x0_fc).1.fx.Op 8) (.ok ((bQA a.fx.Size (cN a x0_fc).2.1.R.Flags (oC a x0_fc) (cN a x0_fc).2.2)&&true) (.ok (wJ a x0_fc) (.leaf ((cN a x0_fc).1,{(cN a x0_fc).2.1 with R:={(cN a x0_fc).2.1.R with Flags:=(bP9 a.fx.Size (cN a x0_fc).2.1.R.Flags (oC a x0_fc) (cN a x0_fc).2.2)}})))) (ot (.br (eqI (cN a x0_fc).1.fx.Op 3) (.ok ((bQC a.fx.Size 0 (oC a x0_fc) (cN a x0_fc).2.2)&&true) (.ok ((hX (cN a x0_fc).2.1.R (aCO a.fx.Size (cN a x0_fc).1.fx.Reg (wO a x0_fc).1 (cN a x0_fc).2.1.R))&&true) (ot (.ok (((sW a x0_fc)&&(sW a x0_fc))&&true) (.leaf ((cN a x0_fc).1,{(cN a x0_fc).2.1 with R:={(sV a x0_fc)with Flags:=(wO a x0_fc).2}})))))) (ot (.br (eqI (cN a x0_fc).1.fx.Op 4) (.ok ((WT a.fx.Size 0 (oC a x0_fc) (cN a x0_fc).2.2)&&true) (.ok ((hX (cN a x0_fc).2.1.R (aCO a.fx.Size (cN a x0_fc).1.fx.Reg (rF a x0_fc).1 (cN a x0_fc).2.1.R))&&true) (ot (.ok (((sY a x0_fc)&&(sY a x0_fc))&&true) (.leaf ((cN a x0_fc).1,{(cN a x0_fc).2.1 with R:={(sX a x0_fc)with Flags:=(rF a x0_fc).2}})))))) (.ok (wJ a x0_fc) (.leaf ((cN a x0_fc).1,(cN a x0_fc).2.1)))))))))))))))))))))))
def aZJ(a:bD)(x0_fc:aD):bD×aD:=hid (a67 a x0_fc).val
def bQD(a:bD)(x0_fc:aD):Bool:=hid (a67 a x0_fc).okv
def GF(a:bD)(x0_fc:aD)(r:bD×aD):SV×List Blk:=((.tup []),[.box [.ptr 1 0 0,li r.1.fx.Op,li r.1.fx.Size,li r.1.fx.Reg,li r.1.fx.Ea.Mode,li r.1.fx.Ea.Reg,li r.1.fx.Ea.Ext,li r.1.fx.Sub,li r.1.fpc,li r.1.fword,li r.1.ffault.Vector,li r.1.ffault.PC,li r.1.ffault.Addr,li r.1.ffault.Word, .lit (.bool r.1.ffault.Write)], .box [.sl 2 0 (ln r.2.R.D), .sl 3 0 (ln r.2.R.A),li r.2.R.Other,li r.2.R.PC,li r.2.R.Flags,li r.2.R.Mask, .lit (.bool r.2.R.Super), .lit (.bool r.2.R.Trace), .sl 4 0 (ln r.2.Bus.Bytes), .sl 5 0 (ln r.2.Bus.Log), .lit (.bool r.2.Stop), .lit (.bool r.2.Halt)], .lst 1 r.2.R.D, .lst 1 r.2.R.A, .lst 1 r.2.Bus.Bytes, .lst 5 r.2.Bus.Log])
def q281:=M3 (fun a x0_fc=>GF a x0_fc (aZJ a x0_fc)) bQD
theorem b7Z:cD 281 q281:=wH fun a x0_fc hk=>tc aTA (a67 a x0_fc) (GF a x0_fc) hk
def Q281:=aX 281 q281 Q327
theorem aTB:QO Q281:=aB b7Z aTA
section
variable(b:Int)(c:Int)(a:bD)(x0_fc:aD)
def M5:bC×Int×Int:=(K0 2 a.fx.Size b c x0_fc.Bus)
def aCR:Bool:=(aK x0_fc.R (bI (M5 b c a x0_fc).1 true))
def aCS:aD:={x0_fc with Bus:=(M5 b c a x0_fc).1}
end
def a68(b:Int)(c:Int)(a:bD)(x0_fc:aD):Pt (bD×aD):=(.ok (((sD x0_fc.Bus (IQ 2 a.fx.Size b c x0_fc.Bus))&&true)&&true) (.ok ((dd (aCR b c a x0_fc) (aK x0_fc.R (bI (M5 b c a x0_fc).1 (aZE (M5 b c a x0_fc).2.2 b true a (aCS b c a x0_fc)))))&&true) (.ok (((aCR b c a x0_fc)&&(aCR b c a x0_fc))&&true) (.leaf ((aZD (M5 b c a x0_fc).2.2 b true a (aCS b c a x0_fc)),(aCS b c a x0_fc))))))
def aZK(b:Int)(c:Int)(a:bD)(x0_fc:aD):bD×aD:=hid (a68 b c a x0_fc).val
def bQE(b:Int)(c:Int)(a:bD)(x0_fc:aD):Bool:=hid (a68 b c a x0_fc).okv
def bHY(b:Int)(c:Int)(a:bD)(x0_fc:aD)(r:bD×aD):SV×List Blk:=((.tup []),[.box [.ptr 1 0 0,li r.1.fx.Op,li r.1.fx.Size,li r.1.fx.Reg,li r.1.fx.Ea.Mode,li r.1.fx.Ea.Reg,li r.1.fx.Ea.Ext,li r.1.fx.Sub,li r.1.fpc,li r.1.fword,li r.1.ffault.Vector,li r.1.ffault.PC,li r.1.ffault.Addr,li r.1.ffault.Word, .lit (.bool r.1.ffault.Write)], .box [.sl 2 0 (ln r.2.R.D), .sl 3 0 (ln r.2.R.A),li r.2.R.Other,li r.2.R.PC,li r.2.R.Flags,li r.2.R.Mask, .lit (.bool r.2.R.Super), .lit (.bool r.2.R.Trace), .sl 4 0 (ln r.2.Bus.Bytes), .sl 5 0 (ln r.2.Bus.Log), .lit (.bool r.2.Stop), .lit (.bool r.2.Halt)], .lst 1 r.2.R.D, .lst 1 r.2.R.A, .lst 1 r.2.Bus.Bytes, .lst 5 r.2.Bus.Log])
def q352:=a6O (fun b c a x0_fc=>bHY b c a x0_fc (aZK b c a x0_fc)) bQE
theorem b70:cD 352 q352:=aL3 fun b c a x0_fc hk=>tc aTB (a68 b c a x0_fc) (bHY b c a x0_fc) hk
def Q352:=aX 352 q352 Q281
theorem aTC:QO Q352:=aB b70 aTB
section
variable(c:Int)(a:bD)(x0_fc:aD)
def aMQ:aE:=(aCN a.fx.Size a.fx.Ea.Reg c x0_fc.R)
def aMR:Bool:=(aK (aMQ c a x0_fc) (bI x0_fc.Bus true))
end
def a69(b:Int)(c:Int)(a:bD)(x0_fc:aD):Pt (bD×aD):=(ot (.br (eqI a.fx.Ea.Mode 0) (.ok (((hX x0_fc.R (aCO a.fx.Size a.fx.Ea.Reg c x0_fc.R))&&true)&&true) (.ok (((aMR c a x0_fc)&&(aMR c a x0_fc))&&true) (.leaf (a,{x0_fc with R:=(aMQ c a x0_fc)})))) (.ok ((cC x0_fc (bQE b c a x0_fc))&&true) (.ok (((aI (aZK b c a x0_fc).2 true)&&(aI (aZK b c a x0_fc).2 true))&&true) (.leaf ((aZK b c a x0_fc).1,(aZK b c a x0_fc).2))))))
def sH(b:Int)(c:Int)(a:bD)(x0_fc:aD):bD×aD:=hid (a69 b c a x0_fc).val
def yR(b:Int)(c:Int)(a:bD)(x0_fc:aD):Bool:=hid (a69 b c a x0_fc).okv
def q329:=a6O (fun b c a x0_fc=>bHY b c a x0_fc (sH b c a x0_fc)) yR
theorem b71:cD 329 q329:=aL3 fun b c a x0_fc hk=>tc aTC (a69 b c a x0_fc) (bHY b c a x0_fc) hk
def Q329:=aX 329 q329 Q352
theorem aTD:QO Q329:=aB b71 aTC
section
variable(a:bD)(x0_fc:aD)
def DT:aE×Int:=(aMF a.fx.Size a.fx.Ea x0_fc.R)
def yS:Int:=(aGX a.fx.Reg a x0_fc)
def DU:bD×aD:=(sH (DT a x0_fc).2 (yS a x0_fc) a {x0_fc with R:=(DT a x0_fc).1})
def TT:aD:=(uA (yS a x0_fc) (DU a x0_fc).1 (DU a x0_fc).2)
def DV:bD×aD:=(sH 0 (yS a x0_fc) a x0_fc)
def TU:aD:=(uA (yS a x0_fc) (DV a x0_fc).1 (DV a x0_fc).2)
end
def a7A(a:bD)(x0_fc:aD):Pt (bD×aD):=(ot (.ok ((cC x0_fc (aGY a.fx.Reg a x0_fc))&&true) (ot (.br (cU a.fx.Ea.Mode 0) (.ok (((hX x0_fc.R (aMG a.fx.Size a.fx.Ea x0_fc.R))&&true)&&true) (.ok ((dd (aK (DT a x0_fc).1 (bI x0_fc.Bus true)) (aK (DT a x0_fc).1 (bI x0_fc.Bus (yR (DT a x0_fc).2 (yS a x0_fc) a {x0_fc with R:=(DT a x0_fc).1}))))&&true) (.ok ((cC (DU a x0_fc).2 (wI (yS a x0_fc) (DU a x0_fc).1 (DU a x0_fc).2))&&true) (.ok (((aI (TT a x0_fc) true)&&(aI (TT a x0_fc) true))&&true) (.leaf ((DU a x0_fc).1,(TT a x0_fc))))))) (.ok ((cC x0_fc (yR 0 (yS a x0_fc) a x0_fc))&&true) (.ok ((cC (DV a x0_fc).2 (wI (yS a x0_fc) (DV a x0_fc).1 (DV a x0_fc).2))&&true) (.ok (((aI (TU a x0_fc) true)&&(aI (TU a x0_fc) true))&&true) (.leaf ((DV a x0_fc).1,(TU a x0_fc))))))))))
def aZL(a:bD)(x0_fc:aD):bD×aD:=hid (a7A a x0_fc).val
def bQF(a:bD)(x0_fc:aD):Bool:=hid (a7A a x0_fc).okv
def q282:=M3 (fun a x0_fc=>GF a x0_fc (aZL a x0_fc)) bQF
theorem b72:cD 282 q282:=wH fun a x0_fc hk=>tc aTD (a7A a x0_fc) (GF a x0_fc) hk
def Q282:=aX 282 q282 Q329
theorem aTE:QO Q282:=aB b72 aTD
section
variable(a:bD)(x0_fc:aD)
def cS:aE×Int:=(aMF a.fx.Size a.fx.Ea x0_fc.R)
def jB:Bool:=(aK (cS a x0_fc).1 (bI x0_fc.Bus true))
def pY:Bool:=(((jB a x0_fc)&&(jB a x0_fc))&&true)
def sI:Bool:=((dd (jB a x0_fc) (aK (cS a x0_fc).1 (bI x0_fc.Bus (yR (cS a x0_fc).2 0 a {x0_fc with R:=(cS a x0_fc).1}))))&&true)
def mI:bD×aD:=(sH (cS a x0_fc).2 0 a {x0_fc with R:=(cS a x0_fc).1})
def sJ:Bool:=((cC (mI a x0_fc).2 (wI 0 (mI a x0_fc).1 (mI a x0_fc).2))&&true)
def pZ:aD:=(uA 0 (mI a x0_fc).1 (mI a x0_fc).2)
def sK:Bool:=(((aI (pZ a x0_fc) true)&&(aI (pZ a x0_fc) true))&&true)
def pA:bD×aD:=(sH (cS a x0_fc).2 (K2 a.fx.Size 0 0 0).1 a {x0_fc with R:=(cS a x0_fc).1})
def oD:bD×aD:=(sH (cS a x0_fc).2 (qR 0 (cF (pW a.fx.Size) 1)) a {x0_fc with R:=(cS a x0_fc).1})
def mQ:aD:=(uA (qR 0 (cF (pW a.fx.Size) 1)) (oD a x0_fc).1 (oD a x0_fc).2)
def mR:aD:=(uA 0 a {x0_fc with R:=(cS a x0_fc).1})
def kJ:Int:=(aGX a.fx.Ea.Reg a {x0_fc with R:=(cS a x0_fc).1})
def mS:Int×Int:=(K2 a.fx.Size 0 0 (kJ a x0_fc))
def kK:bD×aD:=(sH (cS a x0_fc).2 (mS a x0_fc).1 a {x0_fc with R:=(cS a x0_fc).1})
def lP:Int:=(qR (kJ a x0_fc) (cF (pW a.fx.Size) 1))
def jZ:bD×aD:=(sH (cS a x0_fc).2 (lP a x0_fc) a {x0_fc with R:=(cS a x0_fc).1})
def mT:aD:=(uA (lP a x0_fc) (jZ a x0_fc).1 (jZ a x0_fc).2)
def mU:aD:=(uA (kJ a x0_fc) a {x0_fc with R:=(cS a x0_fc).1})
def cT:bD×aD×Int:=(kT (cS a x0_fc).2 a {x0_fc with R:=(cS a x0_fc).1})
def oM:Bool:=(((aI (cT a x0_fc).2.1 true)&&(aI (cT a x0_fc).2.1 true))&&true)
def j0:bD×aD:=(sH (cS a x0_fc).2 0 (cT a x0_fc).1 (cT a x0_fc).2.1)
def mV:aD:=(uA 0 (j0 a x0_fc).1 (j0 a x0_fc).2)
def mW:Int×Int:=(K2 a.fx.Size 0 0 (cT a x0_fc).2.2)
def kL:bD×aD:=(sH (cS a x0_fc).2 (mW a x0_fc).1 (cT a x0_fc).1 (cT a x0_fc).2.1)
def lQ:Int:=(qR (cT a x0_fc).2.2 (cF (pW a.fx.Size) 1))
def j5:bD×aD:=(sH (cS a x0_fc).2 (lQ a x0_fc) (cT a x0_fc).1 (cT a x0_fc).2.1)
def mX:aD:=(uA (lQ a x0_fc) (j5 a x0_fc).1 (j5 a x0_fc).2)
def mY:aD:=(uA (cT a x0_fc).2.2 (cT a x0_fc).1 (cT a x0_fc).2.1)
def lS:Bool:=(((aI x0_fc true)&&(aI x0_fc true))&&true)
def oN:Bool:=((cC x0_fc (yR 0 0 a x0_fc))&&true)
def oO:Bool:=((cC (sH 0 0 a x0_fc).2 (wI 0 (sH 0 0 a x0_fc).1 (sH 0 0 a x0_fc).2))&&true)
def lT:aD:=(uA 0 (sH 0 0 a x0_fc).1 (sH 0 0 a x0_fc).2)
def oP:Bool:=(((aI (lT a x0_fc) true)&&(aI (lT a x0_fc) true))&&true)
def kM:bD×aD:=(sH 0 (K2 a.fx.Size 0 0 0).1 a x0_fc)
def j6:bD×aD:=(sH 0 (qR 0 (cF (pW a.fx.Size) 1)) a x0_fc)
def mZ:aD:=(uA (qR 0 (cF (pW a.fx.Size) 1)) (j6 a x0_fc).1 (j6 a x0_fc).2)
def kN:Int:=(aGX a.fx.Ea.Reg a x0_fc)
def m5:Int×Int:=(K2 a.fx.Size 0 0 (kN a x0_fc))
def kO:bD×aD:=(sH 0 (m5 a x0_fc).1 a x0_fc)
def lU:Int:=(qR (kN a x0_fc) (cF (pW a.fx.Size) 1))
def j7:bD×aD:=(sH 0 (lU a x0_fc) a x0_fc)
def m6:aD:=(uA (lU a x0_fc) (j7 a x0_fc).1 (j7 a x0_fc).2)
def m7:aD:=(uA (kN a x0_fc) a x0_fc)
def oQ:Bool:=(((aI (kT 0 a x0_fc).2.1 true)&&(aI (kT 0 a x0_fc).2.1 true))&&true)
def j8:bD×aD:=(sH 0 0 (kT 0 a x0_fc).1 (kT 0 a x0_fc).2.1)
def m9:aD:=(uA 0 (j8 a x0_fc).1 (j8 a x0_fc).2)
def nA:Int×Int:=(K2 a.fx.Size 0 0 (kT 0 a x0_fc).2.2)
def kP:bD×aD:=(sH 0 (nA a x0_fc).1 (kT 0 a x0_fc).1 (kT 0 a x0_fc).2.1)
def lV:Int:=(qR (kT 0 a x0_fc).2.2 (cF (pW a.fx.Size) 1))
def j9:bD×aD:=(sH 0 (lV a x0_fc) (kT 0 a x0_fc).1 (kT 0 a x0_fc).2.1)
def nB:aD:=(uA (lV a x0_fc) (j9 a x0_fc).1 (j9 a x0_fc).2)
def nC:aD:=(uA (kT 0 a x0_fc).2.2 (kT 0 a x0_fc).1 (kT 0 a x0_fc).2.1)
end
def a7B(a:bD)(x0_fc:aD):Pt (bD×aD):=(ot (ot (ot (.br (cU a.fx.Ea.Mode 0) (.ok ((hX x0_fc.R (aMG a.fx.Size a.fx.Ea x0_fc.R))&&true) (ot (.br (eqI a.fx.Sub 0) (ot (.br (cU a.ffault.Vector 0) (.ok (pY a x0_fc) (.leaf (a,{x0_fc with R:=(cS a x0_fc).1}))) (ot (ot (.br (eqI a.fx.Sub 0) (.ok (sI a x0_fc) (.ok (sJ a x0_fc) (.ok (sK a x0_fc) (.leaf ((mI a x0_fc).1,(pZ a x0_fc)))))) (ot (.br (eqI a.fx.Sub 1) (.ok ((WT a.fx.Size 0 0 0)&&true) (.ok ((dd (jB a x0_fc) (aK (cS a x0_fc).1 (bI x0_fc.Bus (yR (cS a x0_fc).2 (K2 a.fx.Size 0 0 0).1 a {x0_fc with R:=(cS a x0_fc).1}))))&&true) (ot (.ok (((aI (pA a x0_fc).2 true)&&(aI (pA a x0_fc).2 true))&&true) (.leaf ((pA a x0_fc).1,{(pA a x0_fc).2 with R:={(pA a x0_fc).2.R with Flags:=(K2 a.fx.Size 0 0 0).2}})))))) (ot (.br (eqI a.fx.Sub 2) (.ok ((DP a.fx.Size)&&true) (.ok ((dd (jB a x0_fc) (aK (cS a x0_fc).1 (bI x0_fc.Bus (yR (cS a x0_fc).2 (qR 0 (cF (pW a.fx.Size) 1)) a {x0_fc with R:=(cS a x0_fc).1}))))&&true) (.ok ((cC (oD a x0_fc).2 (wI (qR 0 (cF (pW a.fx.Size) 1)) (oD a x0_fc).1 (oD a x0_fc).2))&&true) (.ok (((aI (mQ a x0_fc) true)&&(aI (mQ a x0_fc) true))&&true) (.leaf ((oD a x0_fc).1,(mQ a x0_fc))))))) (ot (.br (eqI a.fx.Sub 3) (.ok ((dd (jB a x0_fc) (aK (cS a x0_fc).1 (bI x0_fc.Bus (wI 0 a {x0_fc with R:=(cS a x0_fc).1}))))&&true) (.ok (((aI (mR a x0_fc) true)&&(aI (mR a x0_fc) true))&&true) (.leaf (a,(mR a x0_fc))))) (.ok (pY a x0_fc) (.leaf (a,{x0_fc with R:=(cS a x0_fc).1})))))))))))))) (ot (.br (eqI a.fx.Ea.Mode 0) (.ok ((dd (jB a x0_fc) (aK (cS a x0_fc).1 (bI x0_fc.Bus (aGY a.fx.Ea.Reg a {x0_fc with R:=(cS a x0_fc).1}))))&&true) (ot (.br (cU a.ffault.Vector 0) (.ok (pY a x0_fc) (.leaf (a,{x0_fc with R:=(cS a x0_fc).1}))) (ot (ot (.br (eqI a.fx.Sub 0) (.ok (sI a x0_fc) (.ok (sJ a x0_fc) (.ok (sK a x0_fc) (.leaf ((mI a x0_fc).1,(pZ a x0_fc)))))) (ot (.br (eqI a.fx.Sub 1) (.ok ((WT a.fx.Size 0 0 (kJ a x0_fc))&&true) (.ok ((dd (jB a x0_fc) (aK (cS a x0_fc).1 (bI x0_fc.Bus (yR (cS a x0_fc).2 (mS a x0_fc).1 a {x0_fc with R:=(cS a x0_fc).1}))))&&true) (ot (.ok (((aI (kK a x0_fc).2 true)&&(aI (kK a x0_fc).2 true))&&true) (.leaf ((kK a x0_fc).1,{(kK a x0_fc).2 with R:={(kK a x0_fc).2.R with Flags:=(mS a x0_fc).2}})))))) (ot (.br (eqI a.fx.Sub 2) (.ok ((DP a.fx.Size)&&true) (.ok ((dd (jB a x0_fc) (aK (cS a x0_fc).1 (bI x0_fc.Bus (yR (cS a x0_fc).2 (lP a x0_fc) a {x0_fc with R:=(cS a x0_fc).1}))))&&true) (.ok ((cC (jZ a x0_fc).2 (wI (lP a x0_fc) (jZ a x0_fc).1 (jZ a x0_fc).2))&&true) (.ok (((aI (mT a x0_fc) true)&&(aI (mT a x0_fc) true))&&true) (.leaf ((jZ a x0_fc).1,(mT a x0_fc))))))) (ot (.br (eqI a.fx.Sub 3) (.ok ((dd (jB a x0_fc) (aK (cS a x0_fc).1 (bI x0_fc.Bus (wI (kJ a x0_fc) a {x0_fc with R:=(cS a x0_fc).1}))))&&true) (.ok (((aI (mU a x0_fc) true)&&(aI (mU a x0_fc) true))&&true) (.leaf (a,(mU a x0_fc))))) (.ok (pY a x0_fc) (.leaf (a,{x0_fc with R:=(cS a x0_fc).1}))))))))))))))) (.ok ((dd (jB a x0_fc) (aK (cS a x0_fc).1 (bI x0_fc.Bus (a6V (cS a x0_fc).2 a {x0_fc with R:=(cS a x0_fc).1}))))&&true) (ot (.br (cU (cT a x0_fc).1.ffault.Vector 0) (.ok (oM a x0_fc) (.leaf ((cT a x0_fc).1,(cT a x0_fc).2.1))) (ot (ot (.br (eqI (cT a x0_fc).1.fx.Sub 0) (.ok ((cC (cT a x0_fc).2.1 (yR (cS a x0_fc).2 0 (cT a x0_fc).1 (cT a x0_fc).2.1))&&true) (.ok ((cC (j0 a x0_fc).2 (wI 0 (j0 a x0_fc).1 (j0 a x0_fc).2))&&true) (.ok (((aI (mV a x0_fc) true)&&(aI (mV a x0_fc) true))&&true) (.leaf ((j0 a x0_fc).1,(mV a x0_fc)))))) (ot (.br (eqI (cT a x0_fc).1.fx.Sub 1) (.ok ((WT a.fx.Size 0 0 (cT a x0_fc).2.2)&&true) (.ok ((cC (cT a x0_fc).2.1 (yR (cS a x0_fc).2 (mW a x0_fc).1 (cT a x0_fc).1 (cT a x0_fc).2.1))&&true) (ot (.ok (((aI (kL a x0_fc).2 true)&&(aI (kL a x0_fc).2 true))&&true) (.leaf ((kL a x0_fc).1,{(kL a x0_fc).2 with R:={(kL a x0_fc).2.R with Flags:=(mW a x0_fc).2}})))))) (ot (.br (eqI (cT a x0_fc).1.fx.Sub 2) (.ok ((DP a.fx.Size)&&true) (.ok ((cC (cT a x0_fc).2.1 (yR (cS a x0_fc).2 (lQ a x0_fc) (cT a x0_fc).1 (cT a x0_fc).2.1))&&true) (.ok ((cC (j5 a x0_fc).2 (wI (lQ a x0_fc) (j5 a x0_fc).1 (j5 a x0_fc).2))&&true) (.ok (((aI (mX a x0_fc) true)&&(aI (mX a x0_fc) true))&&true) (.leaf ((j5 a x0_fc).1,(mX a x0_fc))))))) (ot (.br (eqI (cT a x0_fc).1.fx.Sub 3) (.ok ((cC (cT a x0_fc).2.1 (wI (cT a x0_fc).2.2 (cT a x0_fc).1 (cT a x0_fc).2.1))&&true) (.ok (((aI (mY a x0_fc) true)&&(aI (mY a x0_fc) true))&&true) (.leaf ((cT a x0_fc).1,(mY a x0_fc))))) (.ok (oM a x0_fc) (.leaf ((cT a x0_fc).1,(cT a x0_fc).2.1)))))))))))))))))))) (ot (.br (eqI a.fx.Sub 0) (ot (.br (cU a.ffault.Vector 0) (.ok (lS x0_fc) (.leaf (a,x0_fc))) (ot (ot (.br (eqI a.fx.Sub 0) (.ok (oN a x0_fc) (.ok (oO a x0_fc) (.ok (oP a x0_fc) (.leaf ((sH 0 0 a x0_fc).1,(lT a x0_fc)))))) (ot (.br (eqI a.fx.Sub 1) (.ok ((WT a.fx.Size 0 0 0)&&true) (.ok ((cC x0_fc (yR 0 (K2 a.fx.Size 0 0 0).1 a x0_fc))&&true) (ot (.ok (((aI (kM a x0_fc).2 true)&&(aI (kM a x0_fc).2 true))&&true) (.leaf ((kM a x0_fc).1,{(kM a x0_fc).2 with R:={(kM a x0_fc).2.R with Flags:=(K2 a.fx.Size 0 0 0).2}})))))) (ot (.br (eqI a.fx.Sub 2) (.ok ((DP a.fx.Size)&&true) (.ok ((cC x0_fc (yR 0 (qR 0 (cF (pW a.fx.Size) 1)) a x0_fc))&&true) (.ok ((cC (j6 a x0_fc).2 (wI (qR 0 (cF (pW a.fx.Size) 1)) (j6 a x0_fc).1 (j6 a x0_fc).2))&&true) (.ok (((aI (mZ a x0_fc) true)&&(aI (mZ a x0_fc) true))&&true) (.leaf ((j6 a x0_fc).1,(mZ a x0_fc))))))) (ot (.br (eqI a.fx.Sub 3) (.ok ((cC x0_fc (wI 0 a x0_fc))&&true) (.ok (((aI (uA 0 a x0_fc) true)&&(aI (uA 0 a x0_fc) true))&&true) (.leaf (a,(uA 0 a x0_fc))))) (.ok (lS x0_fc) (.leaf (a,x0_fc)))))))))))))) (ot (.br (eqI a.fx.Ea.Mode 0) (.ok ((cC x0_fc (aGY a.fx.Ea.Reg a x0_fc))&&true) (ot (.br (cU a.ffault.Vector 0) (.ok (lS x0_fc) (.leaf (a,x0_fc))) (ot (ot (.br (eqI a.fx.Sub 0) (.ok (oN a x0_fc) (.ok (oO a x0_fc) (.ok (oP a x0_fc) (.leaf ((sH 0 0 a x0_fc).1,(lT a x0_fc)))))) (ot (.br (eqI a.fx.Sub 1) (.ok ((WT a.fx.Size 0 0 (kN a x0_fc))&&true) (.ok ((cC x0_fc (yR 0 (m5 a x0_fc).1 a x0_fc))&&true) (ot (.ok (((aI (kO a x0_fc).2 true)&&(aI (kO a x0_fc).2 true))&&true) (.leaf ((kO a x0_fc).1,{(kO a x0_fc).2 with R:={(kO a x0_fc).2.R with Flags:=(m5 a x0_fc).2}})))))) (ot (.br (eqI a.fx.Sub 2) (.ok ((DP a.fx.Size)&&true) (.ok ((cC x0_fc (yR 0 (lU a x0_fc) a x0_fc))&&true) (.ok ((cC (j7 a x0_fc).2 (wI (lU a x0_fc) (j7 a x0_fc).1 (j7 a x0_fc).2))&&true) (.ok (((aI (m6 a x0_fc) true)&&(aI (m6 a x0_fc) true))&&true) (.leaf ((j7 a x0_fc).1,(m6 a x0_fc))))))) (ot (.br (eqI a.fx.Sub 3) (.ok ((cC x0_fc (wI (kN a x0_fc) a x0_fc))&&true) (.ok (((aI (m7 a x0_fc) true)&&(aI (m7 a x0_fc) true))&&true) (.leaf (a,(m7 a x0_fc))))) (.ok (lS x0_fc) (.leaf (a,x0_fc))))))))))))))) (.ok ((cC x0_fc (a6V 0 a x0_fc))&&true) (ot (.br (cU (kT 0 a x0_fc).1.ffault.Vector 0) (.ok (oQ a x0_fc) (.leaf ((kT 0 a x0_fc).1,(kT 0 a x0_fc).2.1))) (ot (ot (.br (eqI (kT 0 a x0_fc).1.fx.Sub 0) (.ok ((cC (kT 0 a x0_fc).2.1 (yR 0 0 (kT 0 a x0_fc).1 (kT 0 a x0_fc).2.1))&&true) (.ok ((cC (j8 a x0_fc).2 (wI 0 (j8 a x0_fc).1 (j8 a x0_fc).2))&&true) (.ok (((aI (m9 a x0_fc) true)&&(aI (m9 a x0_fc) true))&&true) (.leaf ((j8 a x0_fc).1,(m9 a x0_fc)))))) (ot (.br (eqI (kT 0 a x0_fc).1.fx.Sub 1) (.ok ((WT a.fx.Size 0 0 (kT 0 a x0_fc).2.2)&&true) (.ok ((cC (kT 0 a x0_fc).2.1 (yR 0 (nA a x0_fc).1 (kT 0 a x0_fc).1 (kT 0 a x0_fc).2.1))&&true) (ot (.ok (((aI (kP a x0_fc).2 true)&&(aI (kP a x0_fc).2 true))&&true) (.leaf ((kP a x0_fc).1,{(kP a x0_fc).2 with R:={(kP a x0_fc).2.R with Flags:=(nA a x0_fc).2}})))))) (ot (.br (eqI (kT 0 a x0_fc).1.fx.Sub 2) (.ok ((DP a.fx.Size)&&true) (.ok ((cC (kT 0 a x0_fc).2.1 (yR 0 (lV a x0_fc) (kT 0 a x0_fc).1 (kT 0 a x0_fc).2.1))&&true) (.ok ((cC (j9 a x0_fc).2 (wI (lV a x0_fc) (j9 a x0_fc).1 (j9 a x0_fc).2))&&true) (.ok (((aI (nB a x0_fc) true)&&(aI (nB a x0_fc) true))&&true) (.leaf ((j9 a x0_fc).1,(nB a x0_fc))))))) (ot (.br (eqI (kT 0 a x0_fc).1.fx.Sub 3) (.ok ((cC (kT 0 a x0_fc).2.1 (wI (kT 0 a x0_fc).2.2 (kT 0 a x0_fc).1 (kT 0 a x0_fc).2.1))&&true) (.ok (((aI (nC a x0_fc) true)&&(aI (nC a x0_fc) true))&&true) (.leaf ((kT 0 a x0_fc).1,(nC a x0_fc))))) (.ok (oQ a x0_fc) (.leaf ((kT 0 a x0_fc).1,(kT 0 a x0_fc).2.1)))))))))))))))))))))))
def aZM(a:bD)(x0_fc:aD):bD×aD:=hid (a7B a x0_fc).val
def bQG(a:bD)(x0_fc:aD):Bool:=hid (a7B a x0_fc).okv
def q285:=M3 (fun a x0_fc=>GF a x0_fc (aZM a x0_fc)) bQG
theorem b73:cD 285 q285:=wH fun a x0_fc hk=>tc aTE (a7B a x0_fc) (GF a x0_fc) hk
def Q285:=aX 285 q285 Q282
theorem aTF:QO Q285:=aB b73 aTE
def a7C(a:Int):Pt (Bool):=(ot (ot (ot (ot (.leaf (eqI (kD a 2) 0))))))
def aZN(a:Int):Bool:=hid (a7C a).val
def bHZ(a:Int):Bool:=hid (a7C a).okv
def q355:=B8 (fun a=>jY a (aZN a)) bHZ
theorem b74:cD 100355 q355:=gQ fun a hk=>tz aTF (a7C a) (jY a) hk
def Q355:=aX 100355 q355 Q285
theorem aTG:QO Q355:=aB b74 aTF
def b75(a:Int)(b:Int)(c:Int)(d:Int)(o:Int):List SV:=[(.one (li a)),(.one (li b)),(.one (li c)),(.one (li d)),(.one (li o))]
def b76(a:Int)(b:Int)(c:Int)(d:Int)(o:Int):List Blk:=[]
def a7D(N:Int→Int→Int→Int→Int→SV×List Blk)(K:Int→Int→Int→Int→Int→Bool):List SV→List Blk→Option ((SV×List Blk)×Bool)
 |[(.one (li c0)),(.one (li c1)),(.one (li c2)),(.one (li c3)),(.one (li c4))],[]=>some (N c0 c1 c2 c3 c4,K c0 c1 c2 c3 c4)
 |_,_=>none
theorem aMS{N:Int→Int→Int→Int→Int→SV×List Blk}{K:Int→Int→Int→Int→Int→Bool}{f:Nat}(h: ∀(a:Int)(b:Int)(c:Int)(d:Int)(o:Int),K a b c d o=true→cY R f (b75 a b c d o) (b76 a b c d o)=some (N a b c d o)):cD f (a7D N K):=fun _ _ _ e=>by
 unfold a7D at e;split at e
 ·exact vO e (h _ _ _ _ _)
 ·cases e
def a7E(a:Int)(b:Int)(c:Int)(d:Int)(o:Int):Pt (Int):=(ot (ot (ot (.br (eqI a 1) (.ok ((leI 0 (cF (cX 8 b) 1))&&true) (ot (ot (.leaf (eW d (cF (cX 8 b) 1)))))) (ot (ot (.br (bif (eqI a 4)then(eqI a 4)else(eqI a 5)) (ot (ot (ot (.leaf o)))) (ot (ot (.br (bif (eqI a 6)then(eqI a 6)else(eqI a 7)) (ot (ot (ot (.leaf (lZ c 16))))) (ot (ot (ot (.leaf 0))))))))))))))
def bQH(a:Int)(b:Int)(c:Int)(d:Int)(o:Int):Int:=hid (a7E a b c d o).val
def bQI(a:Int)(b:Int)(c:Int)(d:Int)(o:Int):Bool:=hid (a7E a b c d o).okv
def bYO(a:Int)(b:Int)(c:Int)(d:Int)(o:Int)(r:Int):SV×List Blk:=((.one (li r)),[])
def q356:=a7D (fun a b c d o=>bYO a b c d o (bQH a b c d o)) bQI
theorem b77:cD 100356 q356:=aMS fun a b c d o hk=>tz aTG (a7E a b c d o) (bYO a b c d o) hk
def Q356:=aX 100356 q356 Q355
theorem aTH:QO Q356:=aB b77 aTG
section
variable(a:Int)(b:Int)(c:Int)(d:Int)
def M6:Int:=(bif (aZN a)then(eW d (cF (cX 8 b) 1))else(aZ d 1))
def aCT:Int:=(bQH a b c d (M6 a b d))
def M7:Int:=(bif (aZN a)then(eT (aZ (nL d 1) (cF (pW b) 1)) (aCT a b c d))else(eT (eW d 1) (nL (aCT a b c d) (cF (cX 8 b) 1))))
def aMT:Bool:=(bif (eqI a 0)then(cU (eW (M7 a b c d) (cF (cX 8 b) 1)) (eW d (cF (cX 8 b) 1)))else false)
end
def a7F(a:Int)(b:Int)(c:Int)(d:Int):Pt (Int×Int):=(ot (ot (ot (.ok ((bHZ a)&&true) (.ok ((((leI 0 (cF (cX 8 b) 1))&&true)||(!(aZN a)))&&true) (.ok ((bQI a b c d (M6 a b d))&&true) (.ok ((leI 0 (cF (cX 8 b) 1))&&true) (.ok ((bHZ a)&&true) (.ok ((((DP b)&&true)||(!(aZN a)))&&true) (ot (ot (ot (.ok ((((leI 0 (cF (cX 8 b) 1))&&((leI 0 (cF (cX 8 b) 1))&&true))||(!(eqI a 0)))&&true) (.ok ((yN (aMT a b c d) 2)&&((aZH b (M7 a b c d))&&true)) (ot (ot (.leaf ((M7 a b c d),(eT (eT (eT (cX (M6 a b d) 1) (bif (bif (eqI a 4)then true else(eqI a 5))then(aZ c 16)else(cX (M6 a b d) 16))) (yM (aMT a b c d) 2)) (aZG b (M7 a b c d)))))))))))))))))))))
def bQJ(a:Int)(b:Int)(c:Int)(d:Int):Int×Int:=hid (a7F a b c d).val
def bQK(a:Int)(b:Int)(c:Int)(d:Int):Bool:=hid (a7F a b c d).okv
def q333:=WS (fun a b c d=>PH a b c d (bQJ a b c d)) bQK
theorem b78:cD 100333 q333:=DS fun a b c d hk=>tz aTH (a7F a b c d) (PH a b c d) hk
def Q333:=aX 100333 q333 Q356
theorem aCU:QO Q333:=aB b78 aTH
structure V286_0 where
 mk::
 (s0:Int)
 (s1:Int)
 (s2:Int)
 (s3:Int)
 (s4:Int)
 (s14:Int)
section
variable(v:V286_0)
def BH:Int×Int:=(bQJ v.s0 v.s1 v.s2 v.s3)
end
def M8(v:V286_0):Pt (Option V286_0):=(ot (.br (kV v.s4 0) (.ok ((bQK v.s0 v.s1 v.s2 v.s3)&&true) (ot (ot (ot (.leaf (some (V286_0.mk v.s0 v.s1 (BH v).2 (BH v).1 (cF v.s4 1) (eT v.s14 (aZ (BH v).2 2))))))))) (.leaf none)))
def TV(v:V286_0):St:=⟨[(0,(.one (li v.s0))),(1,(.one (li v.s1))),(2,(.one (li v.s2))),(3,(.one (li v.s3))),(4,(.one (li v.s4))),(14,(.one (li v.s14)))],[]⟩
def aCV:St→Option (V286_0×Bool)
 |⟨[(0,(.one (li c0))),(1,(.one (li c1))),(2,(.one (li c2))),(3,(.one (li c3))),(4,(.one (li c4))),(14,(.one (li c5)))],[]⟩=>some ((V286_0.mk c0 c1 c2 c3 c4 c5),true)
 |_=>none
def aCW:St→Option (Pt Out):=vH Q333 ([]++CD 286) [] true [] 0 9223372036854775808 aJ3
theorem bH0(v:V286_0):((aCW (TV v)).bind (pG true false 0 [0,1,2,3,4,14]))=some ((M8 v).map (Option.map TV)):=by kernel_rfl
theorem bH1(σ:St)(v:V286_0)(h:aCV σ=some (v,true)):σ=TV v:=by
 unfold aCV at h;split at h
 ·obtain⟨hr,hk⟩:=qp (qi h);rw[←hr];rfl
 ·simp at h
theorem bH2:cK (qU true false 0 [0,1,2,3,4,14] aCW aCV TV M8 9223372036854775808) (eY R 0 9223372036854775808 (.loop [0,1,2,3,4,14] aJ3)):=dD (cL aCU (bT (l:=[]) (by kernel_rfl) trivial)) bH1 bH0
def bH3:Lp:=(34,qU true false 0 [0,1,2,3,4,14] aCW aCV TV M8 9223372036854775808)::[]
def TW(v:V286_0):V286_0:=(hid (dB M8 9223372036854775808 v)).getD v
def aMU(v:V286_0):Bool:=(hid (dB M8 9223372036854775808 v)).isSome
section
variable(a:Int)(b:Int)(c:Int)(d:Int)(o:Int)
def aMV:Bool:=(bif (cU (aZ c 16) 0)then(geI a 6)else false)
def aCX:V286_0:=(TW (V286_0.mk a b c d o 0))
end
def a7G(a:Int)(b:Int)(c:Int)(d:Int)(o:Int):Pt (Int×Int):=(ot (ot (.br (eqI o 0) (ot (.ok ((yN (aMV a c) 1)&&true) (.ok ((aZH b d)&&true) (ot (ot (.leaf (d,(eT (eT (aZ c 16) (yM (aMV a c) 1)) (aZG b d))))))))) (ot (ot (ot (.ok (aMU (V286_0.mk a b c d o 0)) (ot (ot (ot (.leaf ((aCX a b c d o).s3,(eT (aCX a b c d o).s2 (aCX a b c d o).s14)))))))))))))
def bQL(a:Int)(b:Int)(c:Int)(d:Int)(o:Int):Int×Int:=hid (a7G a b c d o).val
def bQM(a:Int)(b:Int)(c:Int)(d:Int)(o:Int):Bool:=hid (a7G a b c d o).okv
def bH4(a:Int)(b:Int)(c:Int)(d:Int)(o:Int)(r:Int×Int):SV×List Blk:=((.tup [(.one (li r.1)),(.one (li r.2))]),[])
def q286:=a7D (fun a b c d o=>bH4 a b c d o (bQL a b c d o)) bQM
theorem bYP:eS (fun live x=>cK (lH bH3 (kH x)) (eY R 0 9223372036854775808 (.loop live x))) (nK 286).body:=(bT (l:=[([0,1,2,3,4,14],aJ3)]) (by kernel_rfl) ⟨eP (n:=34) (by kernel_rfl) fun σ σr t h ho hl=>bH2 σ σr t h ho hl,trivial⟩)
theorem b79:cD 100286 q286:=aMS fun a b c d o hk=>tzl aCU bYP [] [] true (a7G a b c d o) (bH4 a b c d o) hk
def Q286:=aX 100286 q286 Q333
theorem aTI:QO Q286:=aB b79 aCU
def b8A(a:Int)(b:Int):List SV:=[(.one (li a)),(.one (.ptr 0 0 0))]
def b8B(a:Int)(b:Int):List Blk:=[.box [li b]]
def bQN(N:Int→Int→SV×List Blk)(K:Int→Int→Bool):List SV→List Blk→Option ((SV×List Blk)×Bool)
 |[(.one (li c0)),(.one (.ptr 0 0 0))],[.box [li c1]]=>some (N c0 c1,K c0 c1)
 |_,_=>none
theorem bQO{N:Int→Int→SV×List Blk}{K:Int→Int→Bool}{f:Nat}(h: ∀(a:Int)(b:Int),K a b=true→cY R f (b8A a b) (b8B a b)=some (N a b)):cD f (bQN N K):=fun _ _ _ e=>by
 unfold bQN at e;split at e
 ·exact vO e (h _ _)
 ·cases e
def a7H(a:Int)(b:Int):Pt (Bool):=(ot (ot (ot (.leaf (cU (aZ b a) 0)))))
def M9(a:Int)(b:Int):Bool:=hid (a7H a b).val
def PI(a:Int)(b:Int):Bool:=hid (a7H a b).okv
def bYQ(a:Int)(b:Int)(r:Bool):SV×List Blk:=((.one (.lit (.bool r))),[.box [li b]])
def q334:=bQN (fun a b=>bYQ a b (M9 a b)) PI
theorem b8C:cD 334 q334:=bQO fun a b hk=>tc aTI (a7H a b) (bYQ a b) hk
def Q334:=aX 334 q334 Q286
theorem aTJ:QO Q334:=aB b8C aTI
def a7I(a:Int)(b:Int):Pt (Bool):=(ot (ot (ot (ot (ot (.br (eqI (fX a 1) 2) (.ok ((PI 5 b)&&true) (ot (ot (ot (.leaf (yF (!(M9 5 b)) (eqI (kD a 2) 0))))))) (ot (.br (eqI (fX a 1) 4) (.ok ((PI 1 b)&&true) (ot (ot (ot (.leaf (yF (!(M9 1 b)) (eqI (kD a 2) 0))))))) (ot (.br (eqI (fX a 1) 6) (.ok ((PI 4 b)&&true) (ot (ot (ot (.leaf (yF (!(M9 4 b)) (eqI (kD a 2) 0))))))) (ot (.br (eqI (fX a 1) 8) (.ok ((PI 2 b)&&true) (ot (ot (ot (.leaf (yF (!(M9 2 b)) (eqI (kD a 2) 0))))))) (ot (.br (eqI (fX a 1) 10) (.ok ((PI 8 b)&&true) (ot (ot (ot (.leaf (yF (!(M9 8 b)) (eqI (kD a 2) 0))))))) (ot (.br (eqI (fX a 1) 12) (.ok ((PI 8 b)&&((PI 2 b)&&true)) (ot (ot (ot (.leaf (yF (yF (M9 8 b) (M9 2 b)) (eqI (kD a 2) 0))))))) (ot (.br (eqI (fX a 1) 14) (.ok ((PI 4 b)&&((((PI 8 b)&&((PI 2 b)&&true))||(!(!(M9 4 b))))&&true)) (ot (ot (ot (.leaf (yF (bif (!(M9 4 b))then(yF (M9 8 b) (M9 2 b))else false) (eqI (kD a 2) 0))))))) (ot (ot (ot (.leaf (yF true (eqI (kD a 2) 0))))))))))))))))))))))))
def bQP(a:Int)(b:Int):Bool:=hid (a7I a b).val
def bQQ(a:Int)(b:Int):Bool:=hid (a7I a b).okv
def q289:=KV (fun a b=>WO a b (bQP a b)) bQQ
theorem b8D:cD 100289 q289:=tX fun a b hk=>tz aTJ (a7I a b) (WO a b) hk
def Q289:=aX 100289 q289 Q334
theorem aTK:QO Q289:=aB b8D aTJ
def a7J(b:Int)(a:bD)(x0_fc:aD):Pt (bD×aD):=(.ok ((cC x0_fc (bHF b x0_fc))&&true) (.ok ((cC (IR b x0_fc).1 (aZE (IR b x0_fc).2.2 (IR b x0_fc).2.1 true a (IR b x0_fc).1))&&true) (.ok (((aI (IR b x0_fc).1 true)&&(aI (IR b x0_fc).1 true))&&true) (.leaf ((aZD (IR b x0_fc).2.2 (IR b x0_fc).2.1 true a (IR b x0_fc).1),(IR b x0_fc).1)))))
def bQR(b:Int)(a:bD)(x0_fc:aD):bD×aD:=hid (a7J b a x0_fc).val
def bQS(b:Int)(a:bD)(x0_fc:aD):Bool:=hid (a7J b a x0_fc).okv
def bYR(b:Int)(a:bD)(x0_fc:aD)(r:bD×aD):SV×List Blk:=((.tup []),[.box [.ptr 1 0 0,li r.1.fx.Op,li r.1.fx.Size,li r.1.fx.Reg,li r.1.fx.Ea.Mode,li r.1.fx.Ea.Reg,li r.1.fx.Ea.Ext,li r.1.fx.Sub,li r.1.fpc,li r.1.fword,li r.1.ffault.Vector,li r.1.ffault.PC,li r.1.ffault.Addr,li r.1.ffault.Word, .lit (.bool r.1.ffault.Write)], .box [.sl 2 0 (ln r.2.R.D), .sl 3 0 (ln r.2.R.A),li r.2.R.Other,li r.2.R.PC,li r.2.R.Flags,li r.2.R.Mask, .lit (.bool r.2.R.Super), .lit (.bool r.2.R.Trace), .sl 4 0 (ln r.2.Bus.Bytes), .sl 5 0 (ln r.2.Bus.Log), .lit (.bool r.2.Stop), .lit (.bool r.2.Halt)], .lst 1 r.2.R.D, .lst 1 r.2.R.A, .lst 1 r.2.Bus.Bytes, .lst 5 r.2.Bus.Log])
def q335:=aL9 (fun b a x0_fc=>bYR b a x0_fc (bQR b a x0_fc)) bQS
theorem b8E:cD 335 q335:=TP fun b a x0_fc hk=>tc aTK (a7J b a x0_fc) (bYR b a x0_fc) hk
def Q335:=aX 335 q335 Q289
theorem aTL:QO Q335:=aB b8E aTK
section
variable(a:bD)(x0_fc:aD)
def wP:aE×Int:=(aMF a.fx.Size a.fx.Ea x0_fc.R)
def TX:Bool:=(aK (wP a x0_fc).1 (bI x0_fc.Bus true))
def aMW:Int:=(aGW a {x0_fc with R:=(wP a x0_fc).1})
def NA:bD×aD:=(bQR (aMW a x0_fc) a {x0_fc with R:=(wP a x0_fc).1})
end
def a7K(a:bD)(x0_fc:aD):Pt (bD×aD):=(.ok (((hX x0_fc.R (aMG a.fx.Size a.fx.Ea x0_fc.R))&&true)&&true) (ot (.br (eqI a.fx.Sub 1) (.ok ((dd (TX a x0_fc) (aK (wP a x0_fc).1 (bI x0_fc.Bus (aZC a {x0_fc with R:=(wP a x0_fc).1}))))&&((dd (TX a x0_fc) (aK (wP a x0_fc).1 (bI x0_fc.Bus (bQS (aMW a x0_fc) a {x0_fc with R:=(wP a x0_fc).1}))))&&true)) (ot (.ok (((aI (NA a x0_fc).2 true)&&(aI (NA a x0_fc).2 true))&&true) (.leaf ((NA a x0_fc).1,{(NA a x0_fc).2 with R:={(NA a x0_fc).2.R with PC:=(wP a x0_fc).2}}))))) (ot (.ok (((TX a x0_fc)&&(TX a x0_fc))&&true) (.leaf (a,{x0_fc with R:={(wP a x0_fc).1 with PC:=(wP a x0_fc).2}})))))))
def aZO(a:bD)(x0_fc:aD):bD×aD:=hid (a7K a x0_fc).val
def bQT(a:bD)(x0_fc:aD):Bool:=hid (a7K a x0_fc).okv
def q290:=M3 (fun a x0_fc=>GF a x0_fc (aZO a x0_fc)) bQT
theorem b8F:cD 290 q290:=wH fun a x0_fc hk=>tc aTL (a7K a x0_fc) (GF a x0_fc) hk
def Q290:=aX 290 q290 Q335
theorem aTM:QO Q290:=aB b8F aTL
section
variable(a:aD)
def yT:bC×Int×Int:=(K0 1 2 (bF a.R.A 3 0) 0 a.Bus)
def aCY:Bool:=(aK a.R (bI (yT a).1 true))
def aMX:List Row:=(List.set a.R.A 3 (aL (aZ (aV (bF a.R.A 3 0) 2) 65535)))
def aMY:Bool:=((e1 (ln a.R.D))&&((cV (ln a.R.A) (ln (aMX a)))&&(bI (yT a).1 true)))
end
def a7L(a:aD):Pt (aD×Int×Int×Int):=(ot (.ok ((ltI 3 (bN a.R.A))&&((dO [.int .i64] a.R.A 3 0)&&true)) (.ok ((sD a.Bus (IQ 1 2 (bF a.R.A 3 0) 0 a.Bus))&&true) (ot (.br (eqI (yT a).2.2 0) (.ok ((ltI 3 (bN a.R.A))&&(((blt 3 (ln a.R.A))&&(jW (jX a.R.A 3) 1))&&true)) (ot (.ok ((((aCY a)&&(aMY a))&&true)&&((aMY a)&&true)) (.leaf ({a with R:={a.R with A:=(aMX a)},Bus:=(yT a).1},(yT a).2.1,(bF a.R.A 3 0),(yT a).2.2))))) (ot (.ok (dd (aCY a) ((aCY a)&&true)) (.leaf ({a with Bus:=(yT a).1},(yT a).2.1,(bF a.R.A 3 0),(yT a).2.2)))))))))
def NB(a:aD):aD×Int×Int×Int:=hid (a7L a).val
def bQU(a:aD):Bool:=hid (a7L a).okv
def bYS(a:aD)(r:aD×Int×Int×Int):SV×List Blk:=((.tup [(.one (li r.2.1)),(.one (li r.2.2.1)),(.one (li r.2.2.2))]),[.box [.sl 1 0 (ln r.1.R.D), .sl 2 0 (ln r.1.R.A),li r.1.R.Other,li r.1.R.PC,li r.1.R.Flags,li r.1.R.Mask, .lit (.bool r.1.R.Super), .lit (.bool r.1.R.Trace), .sl 3 0 (ln r.1.Bus.Bytes), .sl 4 0 (ln r.1.Bus.Log), .lit (.bool r.1.Stop), .lit (.bool r.1.Halt)], .lst 1 r.1.R.D, .lst 1 r.1.R.A, .lst 1 r.1.Bus.Bytes, .lst 5 r.1.Bus.Log])
def q357:=aZB (fun a=>bYS a (NB a)) bQU
theorem b8G:cD 357 q357:=aCH fun a hk=>tcx aTM [(1000001,[])] [] true (a7L a) (bYS a) hk
def Q357:=aX 357 q357 Q290
theorem aTN:QO Q357:=aB b8G aTM
def aMZ(a:bD)(x0_fc:aD):Pt (bD×aD×Int):=(ot (ot (.br (cU a.ffault.Vector 0) (ot (.ok (((aI x0_fc true)&&(aI x0_fc true))&&true) (.leaf (a,x0_fc,0)))) (.ok ((cC x0_fc (bQU x0_fc))&&true) (.ok ((cC (NB x0_fc).1 (aZE (NB x0_fc).2.2.2 (NB x0_fc).2.2.1 false a (NB x0_fc).1))&&true) (ot (.ok (((aI (NB x0_fc).1 true)&&(aI (NB x0_fc).1 true))&&true) (.leaf ((aZD (NB x0_fc).2.2.2 (NB x0_fc).2.2.1 false a (NB x0_fc).1),(NB x0_fc).1,(NB x0_fc).2.1)))))))))
def DW(a:bD)(x0_fc:aD):bD×aD×Int:=hid (aMZ a x0_fc).val
def aZP(a:bD)(x0_fc:aD):Bool:=hid (aMZ a x0_fc).okv
def q336:=M3 (fun a x0_fc=>bHT a x0_fc (DW a x0_fc)) aZP
theorem b8H:cD 336 q336:=wH fun a x0_fc hk=>tc aTN (aMZ a x0_fc) (bHT a x0_fc) hk
def Q336:=aX 336 q336 Q357
theorem aTO:QO Q336:=aB b8H aTN
section
variable(a:bD)(x0_fc:aD)
def jC:bD×aD×Int:=(DW (DW a x0_fc).1 (DW a x0_fc).2.1)
def uB:aE:=(aY6 (aZ (DW a x0_fc).2.2 1023) (jC a x0_fc).2.1.R)
def uC:Bool:=(aK (uB a x0_fc) (bI (jC a x0_fc).2.1.Bus true))
def uD:aE:=(aY6 a.fx.Ea.Ext x0_fc.R)
def uE:Bool:=(aK (uD a x0_fc) (bI x0_fc.Bus true))
def uF:Bool:=(((cC x0_fc (aZC a x0_fc))&&((cC x0_fc (aL6 (aV 18 a.fx.Reg) (aGW a x0_fc) a x0_fc))&&true))&&true)
def uG:bD:=(aL5 (aV 18 a.fx.Reg) (aGW a x0_fc) a x0_fc)
def uH:Bool:=(((aI x0_fc true)&&(aI x0_fc true))&&true)
def uI:Bool:=((leI 0 a.fx.Reg)&&(ltI a.fx.Reg (bN x0_fc.R.D)))
def uJ:Bool:=(dO [.int .i64] x0_fc.R.D (0+(iN a.fx.Reg)) 0)
def nD:Int:=(aZ (bF x0_fc.R.D (0+(iN a.fx.Reg)) 0) 255)
def pO:Int:=(eT (eW (bF x0_fc.R.D (0+(iN a.fx.Reg)) 0) 8) (nL (nD a x0_fc) 8))
def oR:aD:=(PF (pO a x0_fc) a x0_fc)
def oS:aD:=(PF (aZ (aCQ 1 (nD a x0_fc)) 65535) a x0_fc)
end
def a7M(a:bD)(x0_fc:aD):Pt (bD×aD):=(ot (ot (ot (.br (eqI a.fx.Sub 0) (.ok ((cC x0_fc (aZP a x0_fc))&&true) (.ok (((aI (DW a x0_fc).2.1 true)&&(aI (DW a x0_fc).2.1 true))&&true) (.leaf ((DW a x0_fc).1,{(DW a x0_fc).2.1 with R:={(DW a x0_fc).2.1.R with PC:=(DW a x0_fc).2.2}})))) (ot (.br (eqI a.fx.Sub 1) (.ok ((cC x0_fc (aZP a x0_fc))&&true) (.ok ((cC (DW a x0_fc).2.1 (aZP (DW a x0_fc).1 (DW a x0_fc).2.1))&&true) (ot (.br (eqI (jC a x0_fc).1.ffault.Vector 0) (.ok ((hX (jC a x0_fc).2.1.R (aY7 (aZ (DW a x0_fc).2.2 1023) (jC a x0_fc).2.1.R))&&true) (ot (.ok (((uC a x0_fc)&&(uC a x0_fc))&&true) (.leaf ((jC a x0_fc).1,{(jC a x0_fc).2.1 with R:={(uB a x0_fc)with PC:=(jC a x0_fc).2.2}}))))) (.ok (((aI (jC a x0_fc).2.1 true)&&(aI (jC a x0_fc).2.1 true))&&true) (.leaf ((jC a x0_fc).1,(jC a x0_fc).2.1))))))) (ot (.br (eqI a.fx.Sub 3) (.ok ((hX x0_fc.R (aY7 a.fx.Ea.Ext x0_fc.R))&&true) (ot (.ok (((uE a x0_fc)&&(uE a x0_fc))&&true) (.leaf (a,{x0_fc with R:=(uD a x0_fc),Stop:=true}))))) (ot (.br (eqI a.fx.Sub 4) (.ok ((uF a x0_fc)&&((uF a x0_fc)&&((vI (uG a x0_fc) true)&&((i9 x0_fc true)&&(lK x0_fc true))))) (.ok (uH x0_fc) (.leaf ((uG a x0_fc),x0_fc)))) (ot (.br (eqI a.fx.Sub 5) (.ok ((uI a x0_fc)&&((uJ a x0_fc)&&true)) (.ok ((cC x0_fc (PG (pO a x0_fc) a x0_fc))&&true) (.ok (((aI (oR a x0_fc) true)&&(aI (oR a x0_fc) true))&&true) (.leaf (a,(oR a x0_fc)))))) (ot (.br (eqI a.fx.Sub 6) (.ok (((uI a x0_fc)&&((uJ a x0_fc)&&((aGZ 1 (nD a x0_fc))&&((cC x0_fc (PG (aZ (aCQ 1 (nD a x0_fc)) 65535) a x0_fc))&&true))))&&true) (.ok (((aI (oS a x0_fc) true)&&(aI (oS a x0_fc) true))&&true) (.leaf (a,(oS a x0_fc))))) (.ok (uH x0_fc) (.leaf (a,x0_fc)))))))))))))))))
def aZQ(a:bD)(x0_fc:aD):bD×aD:=hid (a7M a x0_fc).val
def bQV(a:bD)(x0_fc:aD):Bool:=hid (a7M a x0_fc).okv
def q291:=M3 (fun a x0_fc=>GF a x0_fc (aZQ a x0_fc)) bQV
theorem b8I:cD 291 q291:=wH fun a x0_fc hk=>tc aTO (a7M a x0_fc) (GF a x0_fc) hk
def Q291:=aX 291 q291 Q336
theorem aTP:QO Q291:=aB b8I aTO
section
variable(a:bD)(x0_fc:aD)
def NC:Bool:=(((aI (cN a x0_fc).2.1 true)&&(aI (cN a x0_fc).2.1 true))&&true)
def IX:Nat:=(0+(iN (cN a x0_fc).1.fx.Reg))
def DX:Int:=(cX (bF (cN a x0_fc).2.1.R.D (IX a x0_fc) 0) (cN a x0_fc).2.2)
def BI:aD:=(PF (aZ (DX a x0_fc) 65535) (cN a x0_fc).1 (cN a x0_fc).2.1)
def ND:Int:=(aGW (cN a x0_fc).1 (cN a x0_fc).2.1)
def NE:Int:=(lZ (bF (cN a x0_fc).2.1.R.D (IX a x0_fc) 0) (cN a x0_fc).2.2)
def IY:aD:=(PF (NE a x0_fc) (cN a x0_fc).1 (cN a x0_fc).2.1)
end
def a7N(a:bD)(x0_fc:aD):Pt (bD×aD):=(.ok ((cC x0_fc (aZF a x0_fc))&&true) (ot (.br (cU (cN a x0_fc).1.ffault.Vector 0) (.ok (NC a x0_fc) (.leaf ((cN a x0_fc).1,(cN a x0_fc).2.1))) (.ok (((leI 0 (cN a x0_fc).1.fx.Reg)&&(ltI (cN a x0_fc).1.fx.Reg (bN (cN a x0_fc).2.1.R.D)))&&((dO [.int .i64] (cN a x0_fc).2.1.R.D (IX a x0_fc) 0)&&true)) (ot (.br (eqI (cN a x0_fc).1.fx.Op 16) (.ok ((cC (cN a x0_fc).2.1 (PG (aZ (DX a x0_fc) 65535) (cN a x0_fc).1 (cN a x0_fc).2.1))&&true) (.ok (((yN (kV (DX a x0_fc) 65535) 2)&&true)&&true) (.ok (((aI (BI a x0_fc) true)&&(aI (BI a x0_fc) true))&&true) (.leaf ((cN a x0_fc).1,{(BI a x0_fc)with R:={(BI a x0_fc).R with Flags:=(eT (BI a x0_fc).R.Flags (yM (kV (DX a x0_fc) 65535) 2))}}))))) (ot (.br (eqI (cN a x0_fc).2.2 0) (.ok ((cC (cN a x0_fc).2.1 (aZC (cN a x0_fc).1 (cN a x0_fc).2.1))&&((cC (cN a x0_fc).2.1 (aL6 5 (ND a x0_fc) (cN a x0_fc).1 (cN a x0_fc).2.1))&&true)) (.ok (NC a x0_fc) (.leaf ((aL5 5 (ND a x0_fc) (cN a x0_fc).1 (cN a x0_fc).2.1),(cN a x0_fc).2.1)))) (.ok ((cU (cN a x0_fc).2.2 0)&&((cC (cN a x0_fc).2.1 (PG (NE a x0_fc) (cN a x0_fc).1 (cN a x0_fc).2.1))&&true)) (.ok (((aI (IY a x0_fc) true)&&(aI (IY a x0_fc) true))&&true) (.leaf ((cN a x0_fc).1,(IY a x0_fc)))))))))))))
def aZR(a:bD)(x0_fc:aD):bD×aD:=hid (a7N a x0_fc).val
def bQW(a:bD)(x0_fc:aD):Bool:=hid (a7N a x0_fc).okv
def q292:=M3 (fun a x0_fc=>GF a x0_fc (aZR a x0_fc)) bQW
theorem b8J:cD 292 q292:=wH fun a x0_fc hk=>tc aTP (a7N a x0_fc) (GF a x0_fc) hk
def Q292:=aX 292 q292 Q291
theorem aTQ:QO Q292:=aB b8J aTP
def a7O(a:Int):Pt (Bool):=(ot (.ok ((wF a 0 153)&&true) (ot (ot (.leaf (bif (tW a 0 153)then(leI (aZ a 15) 9)else false))))))
def bQX(a:Int):Bool:=hid (a7O a).val
def a7P(a:Int):Bool:=hid (a7O a).okv
def q362:=B8 (fun a=>jY a (bQX a)) a7P
theorem b8K:cD 100362 q362:=gQ fun a hk=>tz aTQ (a7O a) (jY a) hk
def Q362:=aX 100362 q362 Q292
theorem aCZ:QO Q362:=aB b8K aTQ
def a7Q(a:Int):Pt (Bool):=(ot (.ok ((wF a 0 1)&&true) (ot (ot (.leaf (tW a 0 1))))))
def bQY(a:Int):Bool:=hid (a7Q a).val
def bQZ(a:Int):Bool:=hid (a7Q a).okv
def q363:=B8 (fun a=>jY a (bQY a)) bQZ
theorem b8L:cD 100363 q363:=gQ fun a hk=>tz aCZ (a7Q a) (jY a) hk
def Q363:=aX 100363 q363 Q362
theorem aTR:QO Q363:=aB b8L aCZ
def b8M(a:Int)(b:List Row):List SV:=[(.one (li a)),(.one (.imm false 1 b))]
def b8N(a:Int)(b:List Row):List Blk:=[]
def bQ0(N:Int→List Row→SV×List Blk)(K:Int→List Row→Bool):List SV→List Blk→Option ((SV×List Blk)×Bool)
 |[(.one (li c0)),(.one (.imm false 1 c1))],[]=>some (N c0 c1,K c0 c1)
 |_,_=>none
theorem bQ1{N:Int→List Row→SV×List Blk}{K:Int→List Row→Bool}{f:Nat}(h: ∀(a:Int)(b:List Row),K a b=true→cY R f (b8M a b) (b8N a b)=some (N a b)):cD f (bQ0 N K):=fun _ _ _ e=>by
 unfold bQ0 at e;split at e
 ·exact vO e (h _ _)
 ·cases e
structure V358_0 where
 mk::
 (s0:Int)
 (s7:List Row)
 (s8:Int)
 (s9:Int)
def NF(v:V358_0):Pt (Option V358_0):=(ot (.br (ltI v.s9 v.s8) (.ok ((fU [.int .i64] v.s7 v.s9)&&true) (.ok ((a7P (bF v.s7 (iN v.s9) 0))&&true) (.br (!(bQX (bF v.s7 (iN v.s9) 0))) (ot (.leaf none)) (ot (ot (.leaf (some {v with s9:=(aV v.s9 1)}))))))) (.leaf none)))
def TY(v:V358_0):St:=⟨[(0,(.one (li v.s0))),(7,(.one (.imm false 1 v.s7))),(8,(.one (li v.s8))),(9,(.one (li v.s9)))],[]⟩
def aC0:St→Option (V358_0×Bool)
 |⟨[(0,(.one (li c0))),(7,(.one (.imm false 1 c1))),(8,(.one (li c2))),(9,(.one (li c3)))],[]⟩=>some ((V358_0.mk c0 c1 c2 c3),true)
 |_=>none
def aC1:St→Option (Pt Out):=vH Q362 ([]++CD 358) [] true [] 0 9223372036854775808 aJ5
theorem bH5(v:V358_0):((aC1 (TY v)).bind (pG true false 0 [0,7,8,9]))=some ((NF v).map (Option.map TY)):=by kernel_rfl
theorem bH6(σ:St)(v:V358_0)(h:aC0 σ=some (v,true)):σ=TY v:=by
 unfold aC0 at h;split at h
 ·obtain⟨hr,hk⟩:=qp (qi h);rw[←hr];rfl
 ·simp at h
theorem bH7:cK (qU true false 0 [0,7,8,9] aC1 aC0 TY NF 9223372036854775808) (eY R 0 9223372036854775808 (.loop [0,7,8,9] aJ5)):=dD (cL aCZ (bT (l:=[]) (by kernel_rfl) trivial)) bH6 bH5
def bH8:Lp:=(10,qU true false 0 [0,7,8,9] aC1 aC0 TY NF 9223372036854775808)::[]
def TZ(v:V358_0):V358_0:=(hid (dB NF 9223372036854775808 v)).getD v
def aM0(v:V358_0):Bool:=(hid (dB NF 9223372036854775808 v)).isSome
section
variable(a:Int)(b:List Row)
def UA:V358_0:=(TZ (V358_0.mk a b (bN b) 0))
end
def a7R(a:Int)(b:List Row):Pt (Bool):=(ot (ot (ot (ot (.ok (aM0 (V358_0.mk a b (bN b) 0)) (.br (ltI (UA a b).s9 (UA a b).s8) (ot (ot (.leaf false))) (.ok ((bQZ (UA a b).s0)&&true) (ot (ot (.leaf (bQY (UA a b).s0)))))))))))
def bH9(a:Int)(b:List Row):Bool:=hid (a7R a b).val
def bIA(a:Int)(b:List Row):Bool:=hid (a7R a b).okv
def bYT(a:Int)(b:List Row)(r:Bool):SV×List Blk:=((.one (.lit (.bool r))),[])
def q358:=bQ0 (fun a b=>bYT a b (bH9 a b)) bIA
theorem bYU:eS (fun live x=>cK (lH bH8 (kH x)) (eY R 0 9223372036854775808 (.loop live x))) (nK 358).body:=(bT (l:=[([0,7,8,9],aJ5)]) (by kernel_rfl) ⟨eP (n:=10) (by kernel_rfl) fun σ σr t h ho hl=>bH7 σ σr t h ho hl,trivial⟩)
theorem b8O:cD 100358 q358:=bQ1 fun a b hk=>tzl aTR bYU [] [] true (a7R a b) (bYT a b) hk
def Q358:=aX 100358 q358 Q363
theorem aTS:QO Q358:=aB b8O aTR
def a7S(a:Int):Pt (Int):=(ot (ot (ot (ot (.leaf (aV (cX (eW a 4) 10) (aZ a 15)))))))
def WU(a:Int):Int:=hid (a7S a).val
def aZS(a:Int):Bool:=hid (a7S a).okv
def q360:=B8 (fun a=>xJ a (WU a)) aZS
theorem b8P:cD 100360 q360:=gQ fun a hk=>tz aTS (a7S a) (xJ a) hk
def Q360:=aX 100360 q360 Q358
theorem aTT:QO Q360:=aB b8P aTS
def a7T(a:Int):Pt (Int):=(ot (ot (ot (ot (.leaf (eT (nL (lZ a 10) 4) (kD a 10)))))))
def bIB(a:Int):Int:=hid (a7T a).val
def bIC(a:Int):Bool:=hid (a7T a).okv
def q364:=B8 (fun a=>xJ a (bIB a)) bIC
theorem b8Q:cD 100364 q364:=gQ fun a hk=>tz aTT (a7T a) (xJ a) hk
def Q364:=aX 100364 q364 Q360
theorem aTU:QO Q364:=aB b8Q aTT
def a7U(a:Int):Pt (Int×Int):=(ot (.ok ((wF a 0 99)&&true) (.br (tW a 0 99) (.ok ((bIC a)&&true) (ot (ot (.leaf ((bIB a),0))))) (.ok ((bIC (kD (aV a 100) 100))&&true) (ot (ot (.leaf ((bIB (kD (aV a 100) 100)),1))))))))
def bID(a:Int):Int×Int:=hid (a7U a).val
def bIE(a:Int):Bool:=hid (a7U a).okv
def bYV(a:Int)(r:Int×Int):SV×List Blk:=((.tup [(.one (li r.1)),(.one (li r.2))]),[])
def q359:=B8 (fun a=>bYV a (bID a)) bIE
theorem b8R:cD 100359 q359:=gQ fun a hk=>tz aTU (a7U a) (bYV a) hk
def Q359:=aX 100359 q359 Q364
theorem aTV:QO Q359:=aB b8R aTU
section
variable(a:Int)(b:Int)(c:Int)
def aM1:Int×Int:=(bID (aV (aV (WU b) (WU c)) a))
end
def a7V(a:Int)(b:Int)(c:Int):Pt (Int×Int×Bool):=(ot (.ok ((bIA a [(aL b),(aL c)])&&true) (.br (!(bH9 a [(aL b),(aL c)])) (ot (ot (ot (.leaf (0,0,false))))) (.ok ((aZS b)&&((aZS c)&&((bIE (aV (aV (WU b) (WU c)) a))&&true))) (ot (ot (ot (.leaf ((aM1 a b c).1,(aM1 a b c).2,true)))))))))
def bQ2(a:Int)(b:Int)(c:Int):Int×Int×Bool:=hid (a7V a b c).val
def bQ3(a:Int)(b:Int)(c:Int):Bool:=hid (a7V a b c).okv
def bIF(a:Int)(b:Int)(c:Int)(r:Int×Int×Bool):SV×List Blk:=((.tup [(.one (li r.1)),(.one (li r.2.1)),(.one (.lit (.bool r.2.2)))]),[])
def q338:=DS5 (fun a b c=>bIF a b c (bQ2 a b c)) bQ3
theorem b8S:cD 100338 q338:=C9 fun a b c hk=>tz aTV (a7V a b c) (bIF a b c) hk
def Q338:=aX 100338 q338 Q359
theorem aTW:QO Q338:=aB b8S aTV
section
variable(a:Int)(b:Int)(c:Int)
def aM2:Int×Int:=(bID (cF (cF (WU b) (WU c)) a))
end
def a7W(a:Int)(b:Int)(c:Int):Pt (Int×Int×Bool):=(ot (.ok ((bIA a [(aL b),(aL c)])&&true) (.br (!(bH9 a [(aL b),(aL c)])) (ot (ot (ot (.leaf (0,0,false))))) (.ok ((aZS b)&&((aZS c)&&((bIE (cF (cF (WU b) (WU c)) a))&&true))) (ot (ot (ot (.leaf ((aM2 a b c).1,(aM2 a b c).2,true)))))))))
def bQ4(a:Int)(b:Int)(c:Int):Int×Int×Bool:=hid (a7W a b c).val
def bQ5(a:Int)(b:Int)(c:Int):Bool:=hid (a7W a b c).okv
def q339:=DS5 (fun a b c=>bIF a b c (bQ4 a b c)) bQ5
theorem b8T:cD 100339 q339:=C9 fun a b c hk=>tz aTW (a7W a b c) (bIF a b c) hk
def Q339:=aX 100339 q339 Q338
theorem aTX:QO Q339:=aB b8T aTW
section
variable(a:bD)(x0_fc:aD)
def NG:Int:=(aZ (bF x0_fc.R.D (0+(iN a.fx.Reg)) 0) 255)
def NH:Int:=(aZ (bF x0_fc.R.D (0+(iN a.fx.Ea.Reg)) 0) 255)
def UB:Int×Int×Bool:=(bQ4 (lZ x0_fc.R.Flags 16) (NG a x0_fc) (NH a x0_fc))
def UC:Int×Int×Bool:=(bQ2 (lZ x0_fc.R.Flags 16) (NG a x0_fc) (NH a x0_fc))
def UD:Int:=(bif (eqI a.fx.Sub 1)then(UB a x0_fc).1 else(UC a x0_fc).1)
def aC2:Bool:=(eqI (bif (eqI a.fx.Sub 1)then(UB a x0_fc).2.1 else(UC a x0_fc).2.1) 1)
def UE:aE:=(aCN 1 a.fx.Reg (UD a x0_fc) x0_fc.R)
def aC3:Bool:=(aK (UE a x0_fc) (bI x0_fc.Bus true))
end
def a7X(a:bD)(x0_fc:aD):Pt (bD×aD):=(ot (.ok (((leI 0 a.fx.Reg)&&(ltI a.fx.Reg (bN x0_fc.R.D)))&&((dO [.int .i64] x0_fc.R.D (0+(iN a.fx.Reg)) 0)&&(((leI 0 a.fx.Ea.Reg)&&(ltI a.fx.Ea.Reg (bN x0_fc.R.D)))&&((dO [.int .i64] x0_fc.R.D (0+(iN a.fx.Ea.Reg)) 0)&&true)))) (ot (.ok ((bQ3 (lZ x0_fc.R.Flags 16) (NG a x0_fc) (NH a x0_fc))&&true) (ot (.ok ((((bQ5 (lZ x0_fc.R.Flags 16) (NG a x0_fc) (NH a x0_fc))&&true)||(!(eqI a.fx.Sub 1)))&&true) (ot (.br (!(bif (eqI a.fx.Sub 1)then(UB a x0_fc).2.2 else(UC a x0_fc).2.2)) (.ok ((cC x0_fc (aL6 4 a.fpc a x0_fc))&&true) (.ok (((aI x0_fc true)&&(aI x0_fc true))&&true) (.leaf ((aL5 4 a.fpc a x0_fc),x0_fc)))) (.ok ((hX x0_fc.R (aCO 1 a.fx.Reg (UD a x0_fc) x0_fc.R))&&true) (ot (ot (ot (.ok ((yN (aC2 a x0_fc) 17)&&true) (.ok (((aC3 a x0_fc)&&(aC3 a x0_fc))&&true) (.leaf (a,{x0_fc with R:={(UE a x0_fc)with Flags:=(eT (bif (eqI (UD a x0_fc) 0)then(aZ (UE a x0_fc).Flags 4)else 0) (yM (aC2 a x0_fc) 17))}}))))))))))))))))
def aZT(a:bD)(x0_fc:aD):bD×aD:=hid (a7X a x0_fc).val
def bQ6(a:bD)(x0_fc:aD):Bool:=hid (a7X a x0_fc).okv
def q293:=M3 (fun a x0_fc=>GF a x0_fc (aZT a x0_fc)) bQ6
theorem b8U:cD 293 q293:=wH fun a x0_fc hk=>tc aTX (a7X a x0_fc) (GF a x0_fc) hk
def Q293:=aX 293 q293 Q339
theorem aTY:QO Q293:=aB b8U aTX
def UF(a:aE):Pt (Int):=(ot (.ok ((yN a.Super 256)&&((yN a.Trace 512)&&true)) (.ok (((aK a true)&&(aK a true))&&true) (.leaf (aV (aV (aV a.Flags (cX 32 a.Mask)) (yM a.Super 256)) (yM a.Trace 512))))))
def aM3(a:aE):Int:=hid (UF a).val
def aM4(a:aE):Bool:=hid (UF a).okv
def q265v2:=bHB (fun a=>aBY a (aM3 a)) aM4
theorem bQ7:cD 50265 q265v2:=a5Q fun a hk=>tck aTY (UF a) (aBY a) hk
def Q265v2:=aX 50265 q265v2 Q293
theorem YK:QO Q265v2:=aB bQ7 aTY
section
variable(a:bD)(x0_fc:aD)
def jD:Bool:=((leI 0 a.fx.Reg)&&(ltI a.fx.Reg (bN x0_fc.R.A)))
def jE:Bool:=(((blt (0+(iN a.fx.Reg)) (ln (cN a x0_fc).2.1.R.A))&&(jW (jX (cN a x0_fc).2.1.R.A (0+(iN a.fx.Reg))) 1))&&true)
def iK:Bool:=(((cC x0_fc (aZF a x0_fc))&&((jD a x0_fc)&&(jE a x0_fc)))&&true)
def jF:Bool:=(((cC x0_fc (aZF a x0_fc))&&(((leI 0 a.fx.Reg)&&(ltI a.fx.Reg (bN (cN a x0_fc).2.1.R.A)))&&(jE a x0_fc)))&&true)
def iL:List Row:=(List.set (cN a x0_fc).2.1.R.A (0+(iN a.fx.Reg)) (aL (cN a x0_fc).2.2))
def iC:Bool:=((vI (cN a x0_fc).1 true)&&((i9 (cN a x0_fc).2.1 true)&&((r1 (cN a x0_fc).2.1.R.D)&&((r1 (iL a x0_fc))&&((sB a.fx true)&&(dJ (cN a x0_fc).2.1.Bus true))))))
def jG:Bool:=((e1 (ln (cN a x0_fc).2.1.R.D))&&((cV (ln (cN a x0_fc).2.1.R.A) (ln (iL a x0_fc)))&&(bI (cN a x0_fc).2.1.Bus true)))
def jH:Bool:=(hX x0_fc.R (aMG a.fx.Size a.fx.Ea x0_fc.R))
def fB:aE×Int:=(aMF a.fx.Size a.fx.Ea x0_fc.R)
def jI:Bool:=(((blt (0+(iN a.fx.Reg)) (ln (fB a x0_fc).1.A))&&(jW (jX (fB a x0_fc).1.A (0+(iN a.fx.Reg))) 1))&&true)
def fJ:Bool:=(((jH a x0_fc)&&((jD a x0_fc)&&(jI a x0_fc)))&&true)
def fZ:Bool:=(((jH a x0_fc)&&(((leI 0 a.fx.Reg)&&(ltI a.fx.Reg (bN (fB a x0_fc).1.A)))&&(jI a x0_fc)))&&true)
def fK:List Row:=(List.set (fB a x0_fc).1.A (0+(iN a.fx.Reg)) (aL (fB a x0_fc).2))
def f7:Bool:=(dJ x0_fc.Bus ((sB a.fx true)&&true))
def fE:Bool:=((vI a true)&&((iB (fB a x0_fc).1 (dQ x0_fc.Bus ((s1 x0_fc.Stop)&&((s1 x0_fc.Halt)&&true))))&&((r1 (fB a x0_fc).1.D)&&((r1 (fK a x0_fc))&&(f7 a x0_fc)))))
def f9:Bool:=((e1 (ln (fB a x0_fc).1.D))&&((cV (ln (fB a x0_fc).1.A) (ln (fK a x0_fc)))&&(bI x0_fc.Bus true)))
def gA:Int:=(aGX a.fx.Reg a x0_fc)
def bO:Bool:=(((cC x0_fc (aGY a.fx.Reg a x0_fc))&&((bQM a.fx.Sub a.fx.Size x0_fc.R.Flags (gA a x0_fc) (aV a.fx.Ea.Reg 1))&&true))&&true)
def eZ:Int×Int:=(bQL a.fx.Sub a.fx.Size x0_fc.R.Flags (gA a x0_fc) (aV a.fx.Ea.Reg 1))
def bP:Bool:=(((s1 (eZ a x0_fc).1)&&((s1 (eZ a x0_fc).2)&&true))&&((vI a true)&&((i9 x0_fc true)&&(hY x0_fc.R ((sB a.fx true)&&(dJ x0_fc.Bus true))))))
def gR:Bool:=((bO a x0_fc)&&(((bO a x0_fc)&&(((bO a x0_fc)&&(((bO a x0_fc)&&(((bO a x0_fc)&&(((bO a x0_fc)&&(((bO a x0_fc)&&(((bO a x0_fc)&&((bO a x0_fc)&&(bP a x0_fc)))&&(bP a x0_fc)))&&(bP a x0_fc)))&&(bP a x0_fc)))&&(bP a x0_fc)))&&(bP a x0_fc)))&&(bP a x0_fc)))&&(bP a x0_fc)))
def gS:Bool:=((bO a x0_fc)&&(((bO a x0_fc)&&(((bO a x0_fc)&&(((bO a x0_fc)&&(((bO a x0_fc)&&(((bO a x0_fc)&&(((bO a x0_fc)&&(((bO a x0_fc)&&((gR a x0_fc)&&(bP a x0_fc)))&&(bP a x0_fc)))&&(bP a x0_fc)))&&(bP a x0_fc)))&&(bP a x0_fc)))&&(bP a x0_fc)))&&(bP a x0_fc)))&&(bP a x0_fc)))
def gT:Bool:=((bO a x0_fc)&&(((bO a x0_fc)&&(((bO a x0_fc)&&(((bO a x0_fc)&&(((bO a x0_fc)&&(((bO a x0_fc)&&(((bO a x0_fc)&&(((bO a x0_fc)&&((gS a x0_fc)&&(bP a x0_fc)))&&(bP a x0_fc)))&&(bP a x0_fc)))&&(bP a x0_fc)))&&(bP a x0_fc)))&&(bP a x0_fc)))&&(bP a x0_fc)))&&(bP a x0_fc)))
def gU:Bool:=((bO a x0_fc)&&(((bO a x0_fc)&&(((bO a x0_fc)&&(((bO a x0_fc)&&(((bO a x0_fc)&&(((bO a x0_fc)&&(((bO a x0_fc)&&(((bO a x0_fc)&&((gT a x0_fc)&&(bP a x0_fc)))&&(bP a x0_fc)))&&(bP a x0_fc)))&&(bP a x0_fc)))&&(bP a x0_fc)))&&(bP a x0_fc)))&&(bP a x0_fc)))&&(bP a x0_fc)))
def gV:Bool:=((bO a x0_fc)&&(((bO a x0_fc)&&(((bO a x0_fc)&&(((bO a x0_fc)&&(((bO a x0_fc)&&(((bO a x0_fc)&&(((bO a x0_fc)&&(((bO a x0_fc)&&((gU a x0_fc)&&(bP a x0_fc)))&&(bP a x0_fc)))&&(bP a x0_fc)))&&(bP a x0_fc)))&&(bP a x0_fc)))&&(bP a x0_fc)))&&(bP a x0_fc)))&&(bP a x0_fc)))
def gW:Bool:=((bO a x0_fc)&&(((bO a x0_fc)&&(((bO a x0_fc)&&(((bO a x0_fc)&&(((bO a x0_fc)&&(((bO a x0_fc)&&(((bO a x0_fc)&&(((bO a x0_fc)&&((gV a x0_fc)&&(bP a x0_fc)))&&(bP a x0_fc)))&&(bP a x0_fc)))&&(bP a x0_fc)))&&(bP a x0_fc)))&&(bP a x0_fc)))&&(bP a x0_fc)))&&(bP a x0_fc)))
def gX:Bool:=((bO a x0_fc)&&(((bO a x0_fc)&&(((bO a x0_fc)&&(((bO a x0_fc)&&(((bO a x0_fc)&&(((bO a x0_fc)&&(((bO a x0_fc)&&(((bO a x0_fc)&&((gW a x0_fc)&&(bP a x0_fc)))&&(bP a x0_fc)))&&(bP a x0_fc)))&&(bP a x0_fc)))&&(bP a x0_fc)))&&(bP a x0_fc)))&&(bP a x0_fc)))&&(bP a x0_fc)))
def gY:Bool:=((bO a x0_fc)&&(((bO a x0_fc)&&(((bO a x0_fc)&&(((bO a x0_fc)&&(((bO a x0_fc)&&(((bO a x0_fc)&&(((bO a x0_fc)&&(((bO a x0_fc)&&((gX a x0_fc)&&(bP a x0_fc)))&&(bP a x0_fc)))&&(bP a x0_fc)))&&(bP a x0_fc)))&&(bP a x0_fc)))&&(bP a x0_fc)))&&(bP a x0_fc)))&&(bP a x0_fc)))
def gB:aE:=(aCN a.fx.Size a.fx.Reg (eZ a x0_fc).1 x0_fc.R)
def gC:Bool:=(aK (gB a x0_fc) (bI x0_fc.Bus true))
def fL:Bool:=(dd (aI x0_fc true) ((aI x0_fc true)&&true))
def gD:aE:=(aY6 a.fx.Ea.Ext x0_fc.R)
def gE:Bool:=(aK (gD a x0_fc) (bI x0_fc.Bus true))
def fA:Bool:=(((hX x0_fc.R (aM4 x0_fc.R))&&(((leI 0 a.fx.Reg)&&(ltI a.fx.Reg (bN x0_fc.R.D)))&&(((blt (0+(iN a.fx.Reg)) (ln x0_fc.R.D))&&(jW (jX x0_fc.R.D (0+(iN a.fx.Reg))) 1))&&true)))&&true)
def fM:List Row:=(List.set x0_fc.R.D (0+(iN a.fx.Reg)) (aL (aM3 x0_fc.R)))
def fF:Bool:=((vI a true)&&((i9 x0_fc true)&&((r1 (fM a x0_fc))&&((r1 x0_fc.R.A)&&(f7 a x0_fc)))))
def gF:Bool:=((cV (ln x0_fc.R.D) (ln (fM a x0_fc)))&&((e1 (ln x0_fc.R.A))&&(bI x0_fc.Bus true)))
end
def a7Y(a:bD)(x0_fc:aD):Pt (bD×aD):=(ot (ot (ot (ot (ot (.br (bif (eqI a.fx.Op 1)then(eqI a.fx.Op 1)else(bif (eqI a.fx.Op 3)then(eqI a.fx.Op 3)else(bif (eqI a.fx.Op 4)then(eqI a.fx.Op 4)else(bif (eqI a.fx.Op 5)then(eqI a.fx.Op 5)else(bif (eqI a.fx.Op 6)then(eqI a.fx.Op 6)else(bif (eqI a.fx.Op 7)then(eqI a.fx.Op 7)else(eqI a.fx.Op 8))))))) (.ok ((cC x0_fc (bQD a x0_fc))&&true) (.ok (dd (aI (aZJ a x0_fc).2 true) ((aI (aZJ a x0_fc).2 true)&&true)) (.leaf ((aZJ a x0_fc).1,(aZJ a x0_fc).2)))) (ot (.br (eqI a.fx.Op 2) (.ok ((cC x0_fc (bQF a x0_fc))&&true) (.ok (dd (aI (aZL a x0_fc).2 true) ((aI (aZL a x0_fc).2 true)&&true)) (.leaf ((aZL a x0_fc).1,(aZL a x0_fc).2)))) (ot (.br (eqI a.fx.Op 9) (.ok ((iK a x0_fc)&&(((iK a x0_fc)&&(((iK a x0_fc)&&(((jF a x0_fc)&&((jF a x0_fc)&&(iC a x0_fc)))&&(iC a x0_fc)))&&(iC a x0_fc)))&&(iC a x0_fc))) (.ok ((((aI (cN a x0_fc).2.1 true)&&(jG a x0_fc))&&true)&&((jG a x0_fc)&&true)) (.leaf ((cN a x0_fc).1,{(cN a x0_fc).2.1 with R:={(cN a x0_fc).2.1.R with A:=(iL a x0_fc)}})))) (ot (.br (eqI a.fx.Op 10) (.ok ((fJ a x0_fc)&&(((fJ a x0_fc)&&(((fJ a x0_fc)&&(((fZ a x0_fc)&&((fZ a x0_fc)&&(fE a x0_fc)))&&(fE a x0_fc)))&&(fE a x0_fc)))&&(fE a x0_fc))) (.ok ((((aK (fB a x0_fc).1 (bI x0_fc.Bus true))&&(f9 a x0_fc))&&true)&&((f9 a x0_fc)&&true)) (.leaf (a,{x0_fc with R:={(fB a x0_fc).1 with A:=(fK a x0_fc)}})))) (ot (.br (eqI a.fx.Op 11) (.ok ((cC x0_fc (bQG a x0_fc))&&true) (.ok (dd (aI (aZM a x0_fc).2 true) ((aI (aZM a x0_fc).2 true)&&true)) (.leaf ((aZM a x0_fc).1,(aZM a x0_fc).2)))) (ot (.br (eqI a.fx.Op 12) (.ok (gY a x0_fc) (.ok ((hX x0_fc.R (aCO a.fx.Size a.fx.Reg (eZ a x0_fc).1 x0_fc.R))&&true) (ot (.ok (dd (gC a x0_fc) ((gC a x0_fc)&&true)) (.leaf (a,{x0_fc with R:={(gB a x0_fc)with Flags:=(eZ a x0_fc).2}})))))) (ot (.br (eqI a.fx.Op 13) (.ok ((bQQ (aV a.fx.Sub (cX 8 a.fx.Reg)) x0_fc.R.Flags)&&true) (.br (bQP (aV a.fx.Sub (cX 8 a.fx.Reg)) x0_fc.R.Flags) (ot (.ok (fL x0_fc) (.leaf (a,{x0_fc with R:={x0_fc.R with PC:=(aZ (aV (aV a.fpc 2) a.fx.Ea.Ext) 65535)}})))) (.ok (fL x0_fc) (.leaf (a,x0_fc))))) (ot (.br (eqI a.fx.Op 14) (.ok ((cC x0_fc (bQT a x0_fc))&&true) (.ok (dd (aI (aZO a x0_fc).2 true) ((aI (aZO a x0_fc).2 true)&&true)) (.leaf ((aZO a x0_fc).1,(aZO a x0_fc).2)))) (ot (.br (eqI a.fx.Op 15) (.ok ((cC x0_fc (bQV a x0_fc))&&true) (.ok (dd (aI (aZQ a x0_fc).2 true) ((aI (aZQ a x0_fc).2 true)&&true)) (.leaf ((aZQ a x0_fc).1,(aZQ a x0_fc).2)))) (ot (ot (.br (bif (eqI a.fx.Op 16)then(eqI a.fx.Op 16)else(eqI a.fx.Op 17)) (.ok ((cC x0_fc (bQW a x0_fc))&&true) (.ok (dd (aI (aZR a x0_fc).2 true) ((aI (aZR a x0_fc).2 true)&&true)) (.leaf ((aZR a x0_fc).1,(aZR a x0_fc).2)))) (ot (.br (eqI a.fx.Op 18) (.ok ((cC x0_fc (bQ6 a x0_fc))&&true) (.ok (dd (aI (aZT a x0_fc).2 true) ((aI (aZT a x0_fc).2 true)&&true)) (.leaf ((aZT a x0_fc).1,(aZT a x0_fc).2)))) (ot (.br (eqI a.fx.Op 19) (ot (.br (eqI a.fx.Sub 0) (.ok ((hX x0_fc.R (aY7 a.fx.Ea.Ext x0_fc.R))&&true) (.ok (dd (gE a x0_fc) ((gE a x0_fc)&&true)) (.leaf (a,{x0_fc with R:=(gD a x0_fc)})))) (.ok ((fA a x0_fc)&&(((fA a x0_fc)&&(((fA a x0_fc)&&(((fA a x0_fc)&&((fA a x0_fc)&&(fF a x0_fc)))&&(fF a x0_fc)))&&(fF a x0_fc)))&&(fF a x0_fc))) (.ok ((((aI x0_fc true)&&(gF a x0_fc))&&true)&&((gF a x0_fc)&&true)) (.leaf (a,{x0_fc with R:={x0_fc.R with D:=(fM a x0_fc)}})))))) (.ok (fL x0_fc) (.leaf (a,x0_fc))))))))))))))))))))))))))))))))
def bQ8(a:bD)(x0_fc:aD):bD×aD:=hid (a7Y a x0_fc).val
def bQ9(a:bD)(x0_fc:aD):Bool:=hid (a7Y a x0_fc).okv
def q241:=M3 (fun a x0_fc=>GF a x0_fc (bQ8 a x0_fc)) bQ9
theorem b8V:cD 241 q241:=wH fun a x0_fc hk=>tcx YK [(1000001,[])] [] true (a7Y a x0_fc) (GF a x0_fc) hk
def Q241:=aX 241 q241 Q265v2
theorem aTZ:QO Q241:=aB b8V YK
def b8W(b:aN)(c:Int)(a:aD):List SV:=[(.one (.ptr 0 0 0)),(.agg [li b.Op,li b.Size,li b.Reg,li b.Ea.Mode,li b.Ea.Reg,li b.Ea.Ext,li b.Sub]),(.one (li c))]
def b8X(b:aN)(c:Int)(a:aD):List Blk:=[.box [.sl 1 0 (ln a.R.D), .sl 2 0 (ln a.R.A),li a.R.Other,li a.R.PC,li a.R.Flags,li a.R.Mask, .lit (.bool a.R.Super), .lit (.bool a.R.Trace), .sl 3 0 (ln a.Bus.Bytes), .sl 4 0 (ln a.Bus.Log), .lit (.bool a.Stop), .lit (.bool a.Halt)], .lst 1 a.R.D, .lst 1 a.R.A, .lst 1 a.Bus.Bytes, .lst 5 a.Bus.Log]
def bRA(N:aN→Int→aD→SV×List Blk)(K:aN→Int→aD→Bool):List SV→List Blk→Option ((SV×List Blk)×Bool)
 |[(.one (.ptr 0 0 0)),(.agg [li c0,li c1,li c2,li c3,li c4,li c5,li c6]),(.one (li c7))],[.box [.sl 1 0 l1, .sl 2 0 l2,li c8,li c9,li c10,li c11, .lit (.bool c12), .lit (.bool c13), .sl 3 0 l3, .sl 4 0 l4, .lit (.bool c14), .lit (.bool c15)], .lst 1 c_1, .lst 1 c_2, .lst 1 c_3, .lst 5 c_4]=>some (N (aN.mk c0 c1 c2 (aC.mk c3 c4 c5) c6) c7 (aD.mk (aE.mk c_1 c_2 c8 c9 c10 c11 c12 c13) (bC.mk c_3 c_4) c14 c15),cV l1 (ln c_1)&&(cV l2 (ln c_2)&&(cV l3 (ln c_3)&&(cV l4 (ln c_4)&&(K (aN.mk c0 c1 c2 (aC.mk c3 c4 c5) c6) c7 (aD.mk (aE.mk c_1 c_2 c8 c9 c10 c11 c12 c13) (bC.mk c_3 c_4) c14 c15))))))
 |_,_=>none
theorem bRB{N:aN→Int→aD→SV×List Blk}{K:aN→Int→aD→Bool}{f:Nat}(h: ∀(b:aN)(c:Int)(a:aD),K b c a=true→cY R f (b8W b c a) (b8X b c a)=some (N b c a)):cD f (bRA N K):=fun args hp r e=>by
 unfold bRA at e;split at e
 ·rename_i c0 c1 c2 c3 c4 c5 c6 c7 l1 l2 c8 c9 c10 c11 c12 c13 l3 l4 c14 c15 c_1 c_2 c_3 c_4;obtain⟨hr,hk⟩:=qp (qi e);obtain⟨d0,hk0⟩:=aS hk;obtain⟨d1,hk1⟩:=aS hk0;obtain⟨d2,hk2⟩:=aS hk1;obtain⟨d3,hk3⟩:=aS hk2;obtain rfl:=of_decide_eq_true d0;obtain rfl:=of_decide_eq_true d1;obtain rfl:=of_decide_eq_true d2;obtain rfl:=of_decide_eq_true d3;rw[←hr];exact h (aN.mk c0 c1 c2 (aC.mk c3 c4 c5) c6) c7 (aD.mk (aE.mk c_1 c_2 c8 c9 c10 c11 c12 c13) (bC.mk c_3 c_4) c14 c15) hk3
 ·simp at e
section
variable(b:aN)(c:Int)(a:aD)
def aM5:Bool:=(((bHS b)&&((ltI 0 (bN (TO b)))&&((dO [.int .i64] (TO b) 0 0)&&true)))&&true)
def aM6:Bool:=((s1 (0:Int))&&((s1 (0:Int))&&((s1 (0:Int))&&((s1 (0:Int))&&((s1 false)&&true)))))
def DY:bD:=(bD.mk b c (bF (TO b) 0 0) (aH.mk 0 0 0 0 false))
def BJ:bD×aD:=(bQ8 (DY b c) {a with R:={a.R with PC:=(aGW (DY b c) a)}})
def aM7:Bool:=(aK (WP a.R) (bI (BJ b c a).2.Bus true))
end
def a7Z(b:aN)(c:Int)(a:aD):Pt (aD×aH):=(ot (.ok ((((aK a.R true)&&true)&&(bG3 a.R))&&true) (.ok ((aM5 b)&&((aM5 b)&&(((s1 c)&&true)&&((i9 a true)&&(lK a ((sB b true)&&(aM6&&(hY (WP a.R) ((iB (WP a.R) true)&&((r1 (TO b))&&((sB b ((s1 c)&&((s1 (bF (TO b) 0 0))&&aM6)))&&true))))))))))) (.ok ((bP0 b)&&true) (.br (bif (bPZ b)then(!a.R.Super)else false) (.ok ((cC a (aL6 8 c (DY b c) a))&&true) (ot (.ok (((aI a true)&&(aI a true))&&true) (.leaf (a,(aL5 8 c (DY b c) a).ffault))))) (.ok ((cC a (aZC (DY b c) a))&&true) (.ok ((cC a (bQ9 (DY b c) {a with R:={a.R with PC:=(aGW (DY b c) a)}}))&&true) (ot (.br (cU (BJ b c a).1.ffault.Vector 0) (ot (ot (.ok (((aM7 b c a)&&(aM7 b c a))&&true) (.leaf ({(BJ b c a).2 with R:=(WP a.R)},(BJ b c a).1.ffault))))) (ot (.ok (((aI (BJ b c a).2 true)&&(aI (BJ b c a).2 true))&&true) (.leaf ((BJ b c a).2,(BJ b c a).1.ffault)))))))))))))
def bIG(b:aN)(c:Int)(a:aD):aD×aH:=hid (a7Z b c a).val
def bIH(b:aN)(c:Int)(a:aD):Bool:=hid (a7Z b c a).okv
def bYW(b:aN)(c:Int)(a:aD)(r:aD×aH):SV×List Blk:=((.agg [li r.2.Vector,li r.2.PC,li r.2.Addr,li r.2.Word, .lit (.bool r.2.Write)]),[.box [.sl 1 0 (ln r.1.R.D), .sl 2 0 (ln r.1.R.A),li r.1.R.Other,li r.1.R.PC,li r.1.R.Flags,li r.1.R.Mask, .lit (.bool r.1.R.Super), .lit (.bool r.1.R.Trace), .sl 3 0 (ln r.1.Bus.Bytes), .sl 4 0 (ln r.1.Bus.Log), .lit (.bool r.1.Stop), .lit (.bool r.1.Halt)], .lst 1 r.1.R.D, .lst 1 r.1.R.A, .lst 1 r.1.Bus.Bytes, .lst 5 r.1.Bus.Log])
def q175:=bRA (fun b c a=>bYW b c a (bIG b c a)) bIH
theorem b8Y:cD 175 q175:=bRB fun b c a hk=>tc aTZ (a7Z b c a) (bYW b c a) hk
def Q175:=aX 175 q175 Q241
theorem aT0:QO Q175:=aB b8Y aTZ
section
variable(a:aD)
def NI:aD×aH:=(bIG (K1 a).2.1 (K1 a).1.R.PC (K1 a).1)
end
def a70(a:aD):Pt (aD×aH):=(ot (.ok ((cC a (bPY a))&&true) (ot (.br (cU (K1 a).2.2.2.2.Vector 0) (ot (.ok (((aI (K1 a).1 true)&&(aI (K1 a).1 true))&&true) (.leaf ((K1 a).1,(K1 a).2.2.2.2)))) (.ok (((cC (K1 a).1 (bIH (K1 a).2.1 (K1 a).1.R.PC (K1 a).1))&&true)&&true) (.ok (((aI (NI a).1 true)&&(aI (NI a).1 true))&&true) (.leaf ((NI a).1,(NI a).2))))))))
def uK(a:aD):aD×aH:=hid (a70 a).val
def bRC(a:aD):Bool:=hid (a70 a).okv
def bYX(a:aD)(r:aD×aH):SV×List Blk:=((.agg [li r.2.Vector,li r.2.PC,li r.2.Addr,li r.2.Word, .lit (.bool r.2.Write)]),[.box [.sl 1 0 (ln r.1.R.D), .sl 2 0 (ln r.1.R.A),li r.1.R.Other,li r.1.R.PC,li r.1.R.Flags,li r.1.R.Mask, .lit (.bool r.1.R.Super), .lit (.bool r.1.R.Trace), .sl 3 0 (ln r.1.Bus.Bytes), .sl 4 0 (ln r.1.Bus.Log), .lit (.bool r.1.Stop), .lit (.bool r.1.Halt)], .lst 1 r.1.R.D, .lst 1 r.1.R.A, .lst 1 r.1.Bus.Bytes, .lst 5 r.1.Bus.Log])
def q153:=aZB (fun a=>bYX a (uK a)) bRC
theorem b8Z:cD 153 q153:=aCH fun a hk=>tc aT0 (a70 a) (bYX a) hk
def Q153:=aX 153 q153 Q175
theorem aT1:QO Q153:=aB b8Z aT0
section
variable(a:aD)
def wQ:aD:=(aCF (uK a).2 (uK a).1)
def aC4:Bool:=(bif (bif (eqI (uK a).2.Vector 0)then true else(eqI (uK a).2.Vector 5))then true else(geI (uK a).2.Vector 18))
def UG:aD:=(aCF (aH.mk 9 (wQ a).R.PC 0 0 false) (wQ a))
def aC5:Int:=(bif (eqI (uK a).2.Vector 0)then 9 else(uK a).2.Vector)
def UH:aD:=(aCF (aH.mk 9 (uK a).1.R.PC 0 0 false) (uK a).1)
end
def a71(a:aD):Pt (aD×Int):=(ot (ot (.ok ((cC a (bRC a))&&true) (ot (ot (.br (cU (uK a).2.Vector 0) (.ok ((cC (uK a).1 (aCG (uK a).2 (uK a).1))&&true) (ot (.br (bif (bif a.R.Trace then(!(wQ a).Halt)else false)then(aC4 a)else false) (.ok ((cC (wQ a) (aCG (aH.mk 9 (wQ a).R.PC 0 0 false) (wQ a)))&&true) (ot (ot (ot (.ok (((aI (UG a) true)&&(aI (UG a) true))&&true) (.leaf ((UG a),(aC5 a)))))))) (ot (.ok (((aI (wQ a) true)&&(aI (wQ a) true))&&true) (.leaf ((wQ a),(uK a).2.Vector))))))) (ot (.br (bif (bif a.R.Trace then(!(uK a).1.Halt)else false)then(aC4 a)else false) (.ok ((cC (uK a).1 (aCG (aH.mk 9 (uK a).1.R.PC 0 0 false) (uK a).1))&&true) (ot (ot (ot (.ok (((aI (UH a) true)&&(aI (UH a) true))&&true) (.leaf ((UH a),(aC5 a)))))))) (ot (.ok (((aI (uK a).1 true)&&(aI (uK a).1 true))&&true) (.leaf ((uK a).1,(uK a).2.Vector))))))))))))
def aZU(a:aD):aD×Int:=hid (a71 a).val
def bRD(a:aD):Bool:=hid (a71 a).okv
def bYY(a:aD)(r:aD×Int):SV×List Blk:=((.one (li r.2)),[.box [.sl 1 0 (ln r.1.R.D), .sl 2 0 (ln r.1.R.A),li r.1.R.Other,li r.1.R.PC,li r.1.R.Flags,li r.1.R.Mask, .lit (.bool r.1.R.Super), .lit (.bool r.1.R.Trace), .sl 3 0 (ln r.1.Bus.Bytes), .sl 4 0 (ln r.1.Bus.Log), .lit (.bool r.1.Stop), .lit (.bool r.1.Halt)], .lst 1 r.1.R.D, .lst 1 r.1.R.A, .lst 1 r.1.Bus.Bytes, .lst 5 r.1.Bus.Log])
def q199:=aZB (fun a=>bYY a (aZU a)) bRD
theorem b80:cD 199 q199:=aCH fun a hk=>tc aT1 (a71 a) (bYY a) hk
def Q199:=aX 199 q199 Q153
theorem aT2:QO Q199:=aB b80 aT1
section
variable(a:bA)
def NJ:Bool:=(((bV a true)&&(bV a true))&&true)
def yU:aD:=(aCF (aH.mk (aV 10 (WQ a)) a.Cpu.R.PC 0 0 false) a.Cpu)
def NK:Bool:=(((aI (yU a) true)&&(aI (yU a) true))&&true)
end
def a72(a:bA):Pt (bA×Int):=(ot (ot (ot (.br a.Cpu.Halt (ot (.ok (NJ a) (.leaf (a,(-1))))) (.ok ((yG a (bOY a))&&true) (ot (.br (kV (WQ a) 0) (.ok ((yG a (aCG (aH.mk (aV 10 (WQ a)) a.Cpu.R.PC 0 0 false) a.Cpu))&&true) (ot (ot (.br (eqI (WQ a) 7) (ot (ot (.ok (NK a) (.leaf ((bA.mk {(yU a)with R:={(yU a).R with Mask:=(WQ a)}} a.Line false),(aV 100 (WQ a))))))) (ot (.ok (NK a) (.leaf ({a with Cpu:={(yU a)with R:={(yU a).R with Mask:=(WQ a)}}},(aV 100 (WQ a)))))))))) (ot (.br a.Cpu.Stop (ot (.ok (NJ a) (.leaf (a,(-1))))) (.ok ((yG a (bRD a.Cpu))&&true) (.ok (((aI (aZU a.Cpu).1 true)&&(aI (aZU a.Cpu).1 true))&&true) (.leaf ({a with Cpu:=(aZU a.Cpu).1},(aZU a.Cpu).2)))))))))))))
def NL(a:bA):bA×Int:=hid (a72 a).val
def a73(a:bA):Bool:=hid (a72 a).okv
def bYZ(a:bA)(r:bA×Int):SV×List Blk:=((.one (li r.2)),[.box [.sl 1 0 (ln r.1.Cpu.R.D), .sl 2 0 (ln r.1.Cpu.R.A),li r.1.Cpu.R.Other,li r.1.Cpu.R.PC,li r.1.Cpu.R.Flags,li r.1.Cpu.R.Mask, .lit (.bool r.1.Cpu.R.Super), .lit (.bool r.1.Cpu.R.Trace), .sl 3 0 (ln r.1.Cpu.Bus.Bytes), .sl 4 0 (ln r.1.Cpu.Bus.Log), .lit (.bool r.1.Cpu.Stop), .lit (.bool r.1.Cpu.Halt),li r.1.Line, .lit (.bool r.1.Edge)], .lst 1 r.1.Cpu.R.D, .lst 1 r.1.Cpu.R.A, .lst 1 r.1.Cpu.Bus.Bytes, .lst 5 r.1.Cpu.Bus.Log])
def q116:=bG9 (fun a=>bYZ a (NL a)) a73
theorem b81:cD 116 q116:=a5I fun a hk=>tc aT2 (a72 a) (bYZ a) hk
def Q116:=aX 116 q116 Q199
theorem aC6:QO Q116:=aB b81 aT2
def b82(b:Int)(a:bA):List SV:=[(.one (.ptr 0 0 0)),(.one (li b))]
def b83(b:Int)(a:bA):List Blk:=[.box [.sl 1 0 (ln a.Cpu.R.D), .sl 2 0 (ln a.Cpu.R.A),li a.Cpu.R.Other,li a.Cpu.R.PC,li a.Cpu.R.Flags,li a.Cpu.R.Mask, .lit (.bool a.Cpu.R.Super), .lit (.bool a.Cpu.R.Trace), .sl 3 0 (ln a.Cpu.Bus.Bytes), .sl 4 0 (ln a.Cpu.Bus.Log), .lit (.bool a.Cpu.Stop), .lit (.bool a.Cpu.Halt),li a.Line, .lit (.bool a.Edge)], .lst 1 a.Cpu.R.D, .lst 1 a.Cpu.R.A, .lst 1 a.Cpu.Bus.Bytes, .lst 5 a.Cpu.Bus.Log]
def bII(N:Int→bA→SV×List Blk)(K:Int→bA→Bool):List SV→List Blk→Option ((SV×List Blk)×Bool)
 |[(.one (.ptr 0 0 0)),(.one (li c0))],[.box [.sl 1 0 l1, .sl 2 0 l2,li c1,li c2,li c3,li c4, .lit (.bool c5), .lit (.bool c6), .sl 3 0 l3, .sl 4 0 l4, .lit (.bool c7), .lit (.bool c8),li c9, .lit (.bool c10)], .lst 1 c_1, .lst 1 c_2, .lst 1 c_3, .lst 5 c_4]=>some (N c0 (bA.mk (aD.mk (aE.mk c_1 c_2 c1 c2 c3 c4 c5 c6) (bC.mk c_3 c_4) c7 c8) c9 c10),cV l1 (ln c_1)&&(cV l2 (ln c_2)&&(cV l3 (ln c_3)&&(cV l4 (ln c_4)&&(K c0 (bA.mk (aD.mk (aE.mk c_1 c_2 c1 c2 c3 c4 c5 c6) (bC.mk c_3 c_4) c7 c8) c9 c10))))))
 |_,_=>none
theorem a74{N:Int→bA→SV×List Blk}{K:Int→bA→Bool}{f:Nat}(h: ∀(b:Int)(a:bA),K b a=true→cY R f (b82 b a) (b83 b a)=some (N b a)):cD f (bII N K):=fun args hp r e=>by
 unfold bII at e;split at e
 ·rename_i c0 l1 l2 c1 c2 c3 c4 c5 c6 l3 l4 c7 c8 c9 c10 c_1 c_2 c_3 c_4;obtain⟨hr,hk⟩:=qp (qi e);obtain⟨d0,hk0⟩:=aS hk;obtain⟨d1,hk1⟩:=aS hk0;obtain⟨d2,hk2⟩:=aS hk1;obtain⟨d3,hk3⟩:=aS hk2;obtain rfl:=of_decide_eq_true d0;obtain rfl:=of_decide_eq_true d1;obtain rfl:=of_decide_eq_true d2;obtain rfl:=of_decide_eq_true d3;rw[←hr];exact h c0 (bA.mk (aD.mk (aE.mk c_1 c_2 c1 c2 c3 c4 c5 c6) (bC.mk c_3 c_4) c7 c8) c9 c10) hk3
 ·simp at e
structure V111_0 where
 mk::
 (b0:bA)
 (s5:List Row)
 (s7:Int)
 (s8:Int)
section
variable(v:V111_0)
def BK:Nat:=(ln (v.s5++[(aL (NL v.b0).2)]))
end
def NM(v:V111_0):Pt (Option V111_0):=(ot (.br (ltI v.s8 v.s7) (.ok ((yG v.b0 (a73 v.b0))&&(((e1 (ln v.s5))&&((cV (0+(ln v.s5)) (ln v.s5))&&((lJ (mA ((ln v.s5)+1) 8) 140737488355328)&&(lJ ((ln v.s5)+1) 140737488355328))))&&true)) (ot (.ok (((bV (NL v.b0).1 true)&&(bV (NL v.b0).1 ((e1 (BK v))&&true)))&&((e1 (BK v))&&true)) (.leaf (some (V111_0.mk (NL v.b0).1 (v.s5++[(aL (NL v.b0).2)]) v.s7 (aV v.s8 1))))))) (.leaf none)))
def UI(v:V111_0):St:=⟨[(0,(.one (.ptr 0 0 0))),(5,(.one (.sl 5 0 (ln v.s5)))),(7,(.one (li v.s7))),(8,(.one (li v.s8)))],[.box [.sl 1 0 (ln v.b0.Cpu.R.D), .sl 2 0 (ln v.b0.Cpu.R.A),li v.b0.Cpu.R.Other,li v.b0.Cpu.R.PC,li v.b0.Cpu.R.Flags,li v.b0.Cpu.R.Mask, .lit (.bool v.b0.Cpu.R.Super), .lit (.bool v.b0.Cpu.R.Trace), .sl 3 0 (ln v.b0.Cpu.Bus.Bytes), .sl 4 0 (ln v.b0.Cpu.Bus.Log), .lit (.bool v.b0.Cpu.Stop), .lit (.bool v.b0.Cpu.Halt),li v.b0.Line, .lit (.bool v.b0.Edge)], .lst 1 v.b0.Cpu.R.D, .lst 1 v.b0.Cpu.R.A, .lst 1 v.b0.Cpu.Bus.Bytes, .lst 5 v.b0.Cpu.Bus.Log, .lst 1 v.s5]⟩
def aC7:St→Option (V111_0×Bool)
 |⟨[(0,(.one (.ptr 0 0 0))),(5,(.one (.sl 5 0 l5))),(7,(.one (li c10))),(8,(.one (li c11)))],[.box [.sl 1 0 l1, .sl 2 0 l2,li c0,li c1,li c2,li c3, .lit (.bool c4), .lit (.bool c5), .sl 3 0 l3, .sl 4 0 l4, .lit (.bool c6), .lit (.bool c7),li c8, .lit (.bool c9)], .lst 1 c_1, .lst 1 c_2, .lst 1 c_3, .lst 5 c_4, .lst 1 c_5]⟩=>some ((V111_0.mk (bA.mk (aD.mk (aE.mk c_1 c_2 c0 c1 c2 c3 c4 c5) (bC.mk c_3 c_4) c6 c7) c8 c9) c_5 c10 c11),cV l1 (ln c_1)&&(cV l2 (ln c_2)&&(cV l3 (ln c_3)&&(cV l4 (ln c_4)&&(cV l5 (ln c_5)&&(true))))))
 |_=>none
def aC8:St→Option (Pt Out):=vH Q116 ([]++CD 111) [] true [] 1 9223372036854775808 aJN
theorem bIJ(v:V111_0):((aC8 (UI v)).bind (pG true false 1 [0,5,7,8]))=some ((NM v).map (Option.map UI)):=by kernel_rfl
theorem bIK(σ:St)(v:V111_0)(h:aC7 σ=some (v,true)):σ=UI v:=by
 unfold aC7 at h;split at h
 ·obtain⟨hr,hk⟩:=qp (qi h);obtain⟨d0,hk0⟩:=aS hk;obtain⟨d1,hk1⟩:=aS hk0;obtain⟨d2,hk2⟩:=aS hk1;obtain⟨d3,hk3⟩:=aS hk2;obtain⟨d4,hk4⟩:=aS hk3;obtain rfl:=of_decide_eq_true d0;obtain rfl:=of_decide_eq_true d1;obtain rfl:=of_decide_eq_true d2;obtain rfl:=of_decide_eq_true d3;obtain rfl:=of_decide_eq_true d4;rw[←hr];rfl
 ·simp at h
theorem bIL:cK (qU true false 1 [0,5,7,8] aC8 aC7 UI NM 9223372036854775808) (eY R 1 9223372036854775808 (.loop [0,5,7,8] aJN)):=dD (cL aC6 (bT (l:=[]) (by kernel_rfl) trivial)) bIK bIJ
def bIM:Lp:=(9,qU true false 1 [0,5,7,8] aC8 aC7 UI NM 9223372036854775808)::[]
def aC9(v:V111_0):V111_0:=(hid (dB NM 9223372036854775808 v)).getD v
def aM8(v:V111_0):Bool:=(hid (dB NM 9223372036854775808 v)).isSome
section
variable(b:Int)(a:bA)
def NN:V111_0:=(aC9 (V111_0.mk a [] b 0))
def aM9:Bool:=((e1 (ln (NN b a).s5))&&true)
end
def a75(b:Int)(a:bA):Pt (bA×List Row):=(ot (ot (ot (.ok (((bV a true)&&(bV a true))&&true) (.ok (bV a true) (.ok (aM8 (V111_0.mk a [] b 0)) (ot (.ok (((bV (NN b a).b0 true)&&(bV (NN b a).b0 (aM9 b a)))&&(aM9 b a)) (.leaf ((NN b a).b0,(NN b a).s5))))))))))
def aNA(b:Int)(a:bA):bA×List Row:=hid (a75 b a).val
def bRE(b:Int)(a:bA):Bool:=hid (a75 b a).okv
def bY0(b:Int)(a:bA)(r:bA×List Row):SV×List Blk:=((.one (.sl 5 0 (ln r.2))),[.box [.sl 1 0 (ln r.1.Cpu.R.D), .sl 2 0 (ln r.1.Cpu.R.A),li r.1.Cpu.R.Other,li r.1.Cpu.R.PC,li r.1.Cpu.R.Flags,li r.1.Cpu.R.Mask, .lit (.bool r.1.Cpu.R.Super), .lit (.bool r.1.Cpu.R.Trace), .sl 3 0 (ln r.1.Cpu.Bus.Bytes), .sl 4 0 (ln r.1.Cpu.Bus.Log), .lit (.bool r.1.Cpu.Stop), .lit (.bool r.1.Cpu.Halt),li r.1.Line, .lit (.bool r.1.Edge)], .lst 1 r.1.Cpu.R.D, .lst 1 r.1.Cpu.R.A, .lst 1 r.1.Cpu.Bus.Bytes, .lst 5 r.1.Cpu.Bus.Log, .lst 1 r.2])
def q111:=bII (fun b a=>bY0 b a (aNA b a)) bRE
theorem bY1:eS (fun live x=>cK (lH bIM (kH x)) (eY R 1 9223372036854775808 (.loop live x))) (nK 111).body:=(bT (l:=[([0,5,7,8],aJN)]) (by kernel_rfl) ⟨eP (n:=9) (by kernel_rfl) fun σ σr t h ho hl=>bIL σ σr t h ho hl,trivial⟩)
theorem b84:cD 111 q111:=a74 fun b a hk=>tcl aC6 bY1 [] [] true (a75 b a) (bY0 b a) hk
def Q111:=aX 111 q111 Q116
theorem aT3:QO Q111:=aB b84 aC6
def b85(a:bA)(b:Int):List SV:=[(.agg [.imm true 1 a.Cpu.R.D, .imm true 1 a.Cpu.R.A,li a.Cpu.R.Other,li a.Cpu.R.PC,li a.Cpu.R.Flags,li a.Cpu.R.Mask, .lit (.bool a.Cpu.R.Super), .lit (.bool a.Cpu.R.Trace), .imm true 1 a.Cpu.Bus.Bytes, .imm true 5 a.Cpu.Bus.Log, .lit (.bool a.Cpu.Stop), .lit (.bool a.Cpu.Halt),li a.Line, .lit (.bool a.Edge)]),(.one (li b))]
def b86(a:bA)(b:Int):List Blk:=[]
def bIN(N:bA→Int→SV×List Blk)(K:bA→Int→Bool):List SV→List Blk→Option ((SV×List Blk)×Bool)
 |[(.agg [.imm true 1 c0, .imm true 1 c1,li c2,li c3,li c4,li c5, .lit (.bool c6), .lit (.bool c7), .imm true 1 c8, .imm true 5 c9, .lit (.bool c10), .lit (.bool c11),li c12, .lit (.bool c13)]),(.one (li c14))],[]=>some (N (bA.mk (aD.mk (aE.mk c0 c1 c2 c3 c4 c5 c6 c7) (bC.mk c8 c9) c10 c11) c12 c13) c14,K (bA.mk (aD.mk (aE.mk c0 c1 c2 c3 c4 c5 c6 c7) (bC.mk c8 c9) c10 c11) c12 c13) c14)
 |_,_=>none
theorem a76{N:bA→Int→SV×List Blk}{K:bA→Int→Bool}{f:Nat}(h: ∀(a:bA)(b:Int),K a b=true→cY R f (b85 a b) (b86 a b)=some (N a b)):cD f (bIN N K):=fun _ _ _ e=>by
 unfold bIN at e;split at e
 ·exact vO e (h _ _)
 ·cases e
section
variable(a:bA)(b:Int)
def aG0:Bool:=((e1 (ln (aNA b (aBT a)).2))&&true)
def aG1:Bool:=((bV (aNA b (aBT a)).1 true)&&(aG0 a b))
end
def T27(a:bA)(b:Int):Pt (bA×List Row×Bool):=(ot (.ok ((bOT a)&&((((wF b 0 60)&&true)||(!(bG0 a)))&&true)) (.br (bif (!(bG0 a))then true else(!(tW b 0 60))) (ot (ot (ot (.leaf ((bA.mk (aD.mk (aE.mk [] [] 0 0 0 0 false false) (bC.mk [] []) false false) 0 false),[],false))))) (.ok ((bOX a)&&true) (.ok ((yG (aBT a) (bRE b (aBT a)))&&true) (ot (.ok ((bV (aNA b (aBT a)).1 (aG0 a b))&&(aG1 a b)) (.ok (aG1 a b) (.leaf ((aNA b (aBT a)).1,(aNA b (aBT a)).2,true))))))))))
def g27(a:bA)(b:Int):bA×List Row×Bool:=hid (T27 a b).val
def k27(a:bA)(b:Int):Bool:=hid (T27 a b).okv
def n27(a:bA)(b:Int)(r:bA×List Row×Bool):SV×List Blk:=((.tup [(.agg [.imm true 1 r.1.Cpu.R.D, .imm true 1 r.1.Cpu.R.A,li r.1.Cpu.R.Other,li r.1.Cpu.R.PC,li r.1.Cpu.R.Flags,li r.1.Cpu.R.Mask, .lit (.bool r.1.Cpu.R.Super), .lit (.bool r.1.Cpu.R.Trace), .imm true 1 r.1.Cpu.Bus.Bytes, .imm true 5 r.1.Cpu.Bus.Log, .lit (.bool r.1.Cpu.Stop), .lit (.bool r.1.Cpu.Halt),li r.1.Line, .lit (.bool r.1.Edge)]),(.one (.imm true 1 r.2.1)),(.one (.lit (.bool r.2.2)))]),[])
def q27:=bIN (fun a b=>n27 a b (g27 a b)) k27
theorem t27:cD 100027 q27:=a76 fun a b hk=>tz aT3 (T27 a b) (n27 a b) hk
def Q27:=aX 100027 q27 Q111
theorem aNB:QO Q27:=aB t27 aT3
structure V242_0 where
 mk::
 (s0:List Row)
 (s5:List Row)
 (s6:Int)
 (s7:Int)
def NO(v:V242_0):Pt (Option V242_0):=(ot (.br (ltI v.s7 v.s6) (.ok ((fU [.int .i64] v.s5 v.s7)&&true) (.ok ((k92 (bF v.s5 (iN v.s7) 0))&&true) (.br (!(g92 (bF v.s5 (iN v.s7) 0))) (ot (.leaf none)) (ot (ot (.leaf (some {v with s7:=(aV v.s7 1)}))))))) (.leaf none)))
def UJ(v:V242_0):St:=⟨[(0,(.one (.imm true 1 v.s0))),(5,(.one (.imm true 1 v.s5))),(6,(.one (li v.s6))),(7,(.one (li v.s7)))],[]⟩
def aDA:St→Option (V242_0×Bool)
 |⟨[(0,(.one (.imm true 1 c0))),(5,(.one (.imm true 1 c1))),(6,(.one (li c2))),(7,(.one (li c3)))],[]⟩=>some ((V242_0.mk c0 c1 c2 c3),true)
 |_=>none
def aDB:St→Option (Pt Out):=vH Q27 ([]++CD 242) [] true [] 0 9223372036854775808 aJZ
theorem bIO(v:V242_0):((aDB (UJ v)).bind (pG true false 0 [0,5,6,7]))=some ((NO v).map (Option.map UJ)):=by kernel_rfl
theorem bIP(σ:St)(v:V242_0)(h:aDA σ=some (v,true)):σ=UJ v:=by
 unfold aDA at h;split at h
 ·obtain⟨hr,hk⟩:=qp (qi h);rw[←hr];rfl
 ·simp at h
theorem bIQ:cK (qU true false 0 [0,5,6,7] aDB aDA UJ NO 9223372036854775808) (eY R 0 9223372036854775808 (.loop [0,5,6,7] aJZ)):=dD (cL aNB (bT (l:=[]) (by kernel_rfl) trivial)) bIP bIO
def bIR:Lp:=(8,qU true false 0 [0,5,6,7] aDB aDA UJ NO 9223372036854775808)::[]
def UK(v:V242_0):V242_0:=(hid (dB NO 9223372036854775808 v)).getD v
def aNC(v:V242_0):Bool:=(hid (dB NO 9223372036854775808 v)).isSome
section
variable(a:List Row)
def aDC:V242_0:=(UK (V242_0.mk a a (bN a) 0))
end
def a77(a:List Row):Pt (Bool):=(ot (ot (ot (ot (.ok (aNC (V242_0.mk a a (bN a) 0)) (.br (ltI (aDC a).s7 (aDC a).s6) (ot (ot (.leaf false))) (ot (ot (ot (.leaf (eqI (bN (aDC a).s0) 4)))))))))))
def a78(a:List Row):Bool:=hid (a77 a).val
def bIS(a:List Row):Bool:=hid (a77 a).okv
def q242:=aBD (fun a=>KQ a (a78 a)) bIS
theorem bY3:eS (fun live x=>cK (lH bIR (kH x)) (eY R 0 9223372036854775808 (.loop live x))) (nK 242).body:=(bT (l:=[([0,5,6,7],aJZ)]) (by kernel_rfl) ⟨eP (n:=8) (by kernel_rfl) fun σ σr t h ho hl=>bIQ σ σr t h ho hl,trivial⟩)
theorem b87:cD 100242 q242:=IN fun a hk=>tzl aNB bY3 [] [] true (a77 a) (KQ a) hk
def Q242:=aX 100242 q242 Q27
theorem aT4:QO Q242:=aB b87 aNB
def a79(a:Int):Pt (Bool):=(ot (.ok ((wB a 0 31)&&true) (ot (ot (.leaf (tU a 0 31))))))
def bRF(a:Int):Bool:=hid (a79 a).val
def bRG(a:Int):Bool:=hid (a79 a).okv
def q243:=B8 (fun a=>jY a (bRF a)) bRG
theorem b88:cD 100243 q243:=gQ fun a hk=>tz aT4 (a79 a) (jY a) hk
def Q243:=aX 100243 q243 Q242
theorem aT5:QO Q243:=aB b88 aT4
section
variable(a:aE)
def aND:Bool:=(bif (a78 a.D)then(a78 a.A)else false)
def aNE:Bool:=(bif (aND a)then(g92 a.Other)else false)
def aNF:Bool:=(bif (aNE a)then(g92 a.PC)else false)
def aNG:Bool:=(bif (aNF a)then(bRF a.Flags)else false)
end
def a8A(a:aE):Pt (Bool):=(ot (.ok ((bIS a.D)&&((((bIS a.A)&&true)||(!(a78 a.D)))&&((((k92 a.Other)&&true)||(!(aND a)))&&((((k92 a.PC)&&true)||(!(aNE a)))&&((((bRG a.Flags)&&true)||(!(aNF a)))&&((((wB a.Mask 0 7)&&true)||(!(aNG a)))&&true)))))) (ot (ot (.leaf (bif (aNG a)then(tU a.Mask 0 7)else false))))))
def bIT(a:aE):Bool:=hid (a8A a).val
def bRH(a:aE):Bool:=hid (a8A a).okv
def q176:=bGE (fun a=>bGG a (bIT a)) bRH
theorem b89:cD 100176 q176:=a4V fun a hk=>tz aT5 (a8A a) (bGG a) hk
def Q176:=aX 100176 q176 Q243
theorem aT6:QO Q176:=aB b89 aT5
def aNH(a:Int):Pt (Int):=(ot (.ok ((leI 0 (wA .u64 (cX 8 a)))&&true) (ot (ot (.leaf (nL 1 (wA .u64 (cX 8 a))))))))
def xK(a:Int):Int:=hid (aNH a).val
def K3(a:Int):Bool:=hid (aNH a).okv
def q297:=B8 (fun a=>xJ a (xK a)) K3
theorem b9A:cD 100297 q297:=gQ fun a hk=>tz aT6 (aNH a) (xJ a) hk
def Q297:=aX 100297 q297 Q176
theorem aT7:QO Q297:=aB b9A aT6
def a8B(a:Int)(b:Int):Pt (Bool):=(ot (.ok ((aYU a)&&((((K3 a)&&((wB b 0 (cF (xK a) 1))&&true))||(!(aGN a)))&&true)) (ot (ot (.leaf (bif (aGN a)then(tU b 0 (cF (xK a) 1))else false))))))
def a8C(a:Int)(b:Int):Bool:=hid (a8B a b).val
def a8D(a:Int)(b:Int):Bool:=hid (a8B a b).okv
def q294:=KV (fun a b=>WO a b (a8C a b)) a8D
theorem b9B:cD 100294 q294:=tX fun a b hk=>tz aT7 (a8B a b) (WO a b) hk
def Q294:=aX 100294 q294 Q297
theorem aT8:QO Q294:=aB b9B aT7
def a8E(a:Int):Pt (Bool):=(ot (.ok ((wB a 0 65535)&&true) (ot (ot (.leaf (tU a 0 65535))))))
def bIU(a:Int):Bool:=hid (a8E a).val
def bIV(a:Int):Bool:=hid (a8E a).okv
def q157:=B8 (fun a=>jY a (bIU a)) bIV
theorem b9C:cD 100157 q157:=gQ fun a hk=>tz aT8 (a8E a) (jY a) hk
def Q157:=aX 100157 q157 Q294
theorem aT9:QO Q157:=aB b9C aT8
section
variable(a:aA)
def aNI:Bool:=(bif (!(tU a.Kind 1 3))then true else(!(a8C a.Size a.Value)))
def aNJ:Bool:=(bif (aNI a)then true else(!(bIU a.Addr)))
end
def a8F(a:aA):Pt (Bool):=(ot (.ok ((wB a.Kind 1 3)&&((((a8D a.Size a.Value)&&true)||(!(tU a.Kind 1 3)))&&((((bIV a.Addr)&&true)||(aNI a))&&((((wB a.Code 0 3)&&true)||(aNJ a))&&true)))) (.br (bif (aNJ a)then true else(!(tU a.Code 0 3))) (ot (ot (ot (.leaf false)))) (ot (ot (ot (.leaf (bif (cU a.Kind 3)then true else(cU a.Code 0)))))))))
def bRI(a:aA):Bool:=hid (a8F a).val
def bRJ(a:aA):Bool:=hid (a8F a).okv
def q244:=a40 (fun a=>aY3 a (bRI a)) bRJ
theorem b9D:cD 100244 q244:=aLH fun a hk=>tz aT9 (a8F a) (aY3 a) hk
def Q244:=aX 100244 q244 Q157
theorem PS:QO Q244:=aB b9D aT9
structure V245v1_0 where
 mk::
 (s5:List Row)
 (s6:Int)
 (s7:Int)
def AA(v:V245v1_0):Pt (Option V245v1_0):=(ot (.br (ltI v.s7 v.s6) (.ok ((fU [.int .i64] v.s5 v.s7)&&true) (.ok ((wB (bF v.s5 (iN v.s7) 0) 0 255)&&true) (.br (!(tU (bF v.s5 (iN v.s7) 0) 0 255)) (ot (.leaf none)) (ot (ot (.leaf (some {v with s7:=(aV v.s7 1)}))))))) (.leaf none)))
def DZ(v:V245v1_0):St:=⟨[(5,(.one (.imm true 1 v.s5))),(6,(.one (li v.s6))),(7,(.one (li v.s7)))],[]⟩
def K4:St→Option (V245v1_0×Bool)
 |⟨[(5,(.one (.imm true 1 c0))),(6,(.one (li c1))),(7,(.one (li c2)))],[]⟩=>some ((V245v1_0.mk c0 c1 c2),true)
 |_=>none
def NP:St→Option (Pt Out):=vH Q244 ([]++CD 245) [] true [] 0 9223372036854775808 MH
theorem aZV(v:V245v1_0):((NP (DZ v)).bind (pG true false 0 [5,6,7]))=some ((AA v).map (Option.map DZ)):=by kernel_rfl
theorem aZW(σ:St)(v:V245v1_0)(h:K4 σ=some (v,true)):σ=DZ v:=by
 unfold K4 at h;split at h
 ·obtain⟨hr,hk⟩:=qp (qi h);rw[←hr];rfl
 ·simp at h
theorem aZX:cK (qU true false 0 [5,6,7] NP K4 DZ AA 9223372036854775808) (eY R 0 9223372036854775808 (.loop [5,6,7] MH)):=dD (cL PS (bT (l:=[]) (by kernel_rfl) trivial)) aZW aZV
def aZY:Lp:=(8,qU true false 0 [5,6,7] NP K4 DZ AA 9223372036854775808)::[]
def K5(v:V245v1_0):V245v1_0:=(hid (dB AA 9223372036854775808 v)).getD v
def UL(v:V245v1_0):Bool:=(hid (dB AA 9223372036854775808 v)).isSome
section
variable(a:List Row)
def UM:V245v1_0:=(K5 (V245v1_0.mk a (bN a) 0))
end
def aDD(a:List Row):Pt (Bool):=(ot (ot (ot (ot (.ok (UL (V245v1_0.mk a (bN a) 0)) (.br (ltI (UM a).s7 (UM a).s6) (ot (ot (.leaf false))) (ot (ot (ot (.leaf true))))))))))
def aDE(a:List Row):Bool:=hid (aDD a).val
def aDF(a:List Row):Bool:=hid (aDD a).okv
def q245v1:=aBD (fun a=>KQ a (aDE a)) aDF
theorem bIW:eS (fun live x=>cK (lH aZY (kH x)) (eY R 0 9223372036854775808 (.loop live x))) (nK 245).body:=(bT (l:=[([5,6,7],MH)]) (by kernel_rfl) ⟨eP (n:=8) (by kernel_rfl) fun σ σr t h ho hl=>aZX σ σr t h ho hl,trivial⟩)
theorem bRK:cD 100245 q245v1:=IN fun a hk=>tzl PS bIW [] [] true (aDD a) (KQ a) hk
def Q245v1:=aX 100245 q245v1 Q244
theorem YL:QO Q245v1:=aB bRK PS
structure V177_0 where
 mk::
 (b0:bC)
 (s6:List Row)
 (s7:Int)
 (s8:Int)
def NQ(v:V177_0):Pt (Option V177_0):=(ot (.br (ltI v.s8 v.s7) (.ok ((fU [.int .i64, .int .i64, .int .i64, .int .i64, .int .i64] v.s6 v.s8)&&true) (.ok ((bRJ (aA.at v.s6 (iN v.s8) 0))&&true) (.br (!(bRI (aA.at v.s6 (iN v.s8) 0))) (ot (.leaf none)) (ot (ot (.leaf (some {v with s8:=(aV v.s8 1)}))))))) (.leaf none)))
def UN(v:V177_0):St:=⟨[(1,(.one (.ptr 0 0 0))),(6,(.one (.imm true 5 v.s6))),(7,(.one (li v.s7))),(8,(.one (li v.s8)))],[.box [.imm true 1 v.b0.Bytes, .imm true 5 v.b0.Log]]⟩
def aDG:St→Option (V177_0×Bool)
 |⟨[(1,(.one (.ptr 0 0 0))),(6,(.one (.imm true 5 c2))),(7,(.one (li c3))),(8,(.one (li c4)))],[.box [.imm true 1 c0, .imm true 5 c1]]⟩=>some ((V177_0.mk (bC.mk c0 c1) c2 c3 c4),true)
 |_=>none
def aDH:St→Option (Pt Out):=vH Q244 ([]++CD 177) [] true [] 0 9223372036854775808 aJS
theorem bIX(v:V177_0):((aDH (UN v)).bind (pG true false 0 [1,6,7,8]))=some ((NQ v).map (Option.map UN)):=by kernel_rfl
theorem bIY(σ:St)(v:V177_0)(h:aDG σ=some (v,true)):σ=UN v:=by
 unfold aDG at h;split at h
 ·obtain⟨hr,hk⟩:=qp (qi h);rw[←hr];rfl
 ·simp at h
theorem bIZ:cK (qU true false 0 [1,6,7,8] aDH aDG UN NQ 9223372036854775808) (eY R 0 9223372036854775808 (.loop [1,6,7,8] aJS)):=dD (cL PS (bT (l:=[]) (by kernel_rfl) trivial)) bIY bIX
def bI0:Lp:=(9,qU true false 0 [1,6,7,8] aDH aDG UN NQ 9223372036854775808)::[]
def UO(v:V177_0):V177_0:=(hid (dB NQ 9223372036854775808 v)).getD v
def aNK(v:V177_0):Bool:=(hid (dB NQ 9223372036854775808 v)).isSome
section
variable(a:bC)
def D0:V177_0:=(UO (V177_0.mk a a.Log (bN a.Log) 0))
end
def a8G(a:bC):Pt (Bool):=(ot (ot (ot (ot (.ok (aNK (V177_0.mk a a.Log (bN a.Log) 0)) (.br (ltI (D0 a).s8 (D0 a).s7) (ot (ot (.leaf false))) (.ok ((((aDF (D0 a).b0.Bytes)&&true)||(!(eqI (bN (D0 a).b0.Bytes) 512)))&&true) (ot (ot (.leaf (bif (bif (eqI (bN (D0 a).b0.Bytes) 512)then(aDE (D0 a).b0.Bytes)else false)then(leI (bN (D0 a).b0.Log) 400)else false)))))))))))
def bRL(a:bC):Bool:=hid (a8G a).val
def bRM(a:bC):Bool:=hid (a8G a).okv
def q177:=a46 (fun a=>bGY a (bRL a)) bRM
theorem bY4:eS (fun live x=>cK (lH bI0 (kH x)) (eY R 0 9223372036854775808 (.loop live x))) (nK 177).body:=(bT (l:=[([1,6,7,8],aJS)]) (by kernel_rfl) ⟨eP (n:=9) (by kernel_rfl) fun σ σr t h ho hl=>bIZ σ σr t h ho hl,trivial⟩)
theorem b9E:cD 100177 q177:=aLL fun a hk=>tzl YL bY4 [] [] true (a8G a) (bGY a) hk
def Q177:=aX 100177 q177 Q245v1
theorem aUA:QO Q177:=aB b9E YL
def T90(a:aD):Pt (Bool):=(ot (.ok ((bRH a.R)&&((((bRM a.Bus)&&true)||(!(bIT a.R)))&&true)) (ot (ot (.leaf (bif (bif (bIT a.R)then(bRL a.Bus)else false)then(!(bif a.Stop then a.Halt else false))else false))))))
def g90(a:aD):Bool:=hid (T90 a).val
def k90(a:aD):Bool:=hid (T90 a).okv
def q90:=aBS (fun a=>bGZ a (g90 a)) k90
theorem t90:cD 100090 q90:=IP fun a hk=>tz aUA (T90 a) (bGZ a) hk
def Q90:=aX 100090 q90 Q177
theorem a8H:QO Q90:=aB t90 aUA
def a8I(a:bA):Pt (Bool):=(ot (.ok ((k90 a.Cpu)&&((((wB a.Line 0 7)&&true)||(!(g90 a.Cpu)))&&true)) (ot (ot (.leaf (bif (g90 a.Cpu)then(tU a.Line 0 7)else false))))))
def bI1(a:bA):Bool:=hid (a8I a).val
def bRN(a:bA):Bool:=hid (a8I a).okv
def q112:=a5A (fun a=>bG1 a (bI1 a)) bRN
theorem b9F:cD 100112 q112:=aLO fun a hk=>tz a8H (a8I a) (bG1 a) hk
def Q112:=aX 100112 q112 Q90
theorem aUB:QO Q112:=aB b9F a8H
def a8J(a:aE):Pt (aE):=(ot (.ok (((lJ (mA (0+(ln a.D)) 8) 140737488355328)&&(lJ (0+(ln a.D)) 140737488355328))&&true) (.ok (((lJ (mA (0+(ln a.A)) 8) 140737488355328)&&(lJ (0+(ln a.A)) 140737488355328))&&true) (ot (.ok ((aK a true)&&((aK a true)&&true)) (.leaf a))))))
def sL(a:aE):aE:=hid (a8J a).val
def aNL(a:aE):Bool:=hid (a8J a).okv
def q188:=a5C (fun a=>bG4 a (sL a)) aNL
theorem b9G:cD 188 q188:=aLP fun a p0 p1 hk=>tc aUB (a8J a) (bG4 a) hk
def Q188:=aX 188 q188 Q112
theorem aUC:QO Q188:=aB b9G aUB
def b9H(a:bC)(p0:Bool)(p1:Bool):List SV:=[(.agg [.imm p0 1 a.Bytes, .imm p1 5 a.Log])]
def b9I(a:bC)(p0:Bool)(p1:Bool):List Blk:=[]
def bRO(N:bC→SV×List Blk)(K:bC→Bool):List SV→List Blk→Option ((SV×List Blk)×Bool)
 |[(.agg [.imm p0 1 c0, .imm p1 5 c1])],[]=>some (N (bC.mk c0 c1),K (bC.mk c0 c1))
 |_,_=>none
theorem bRP{N:bC→SV×List Blk}{K:bC→Bool}{f:Nat}(h: ∀(a:bC)(p0:Bool)(p1:Bool),K a=true→cY R f (b9H a p0 p1) (b9I a p0 p1)=some (N a)):cD f (bRO N K):=fun _ _ _ e=>by
 unfold bRO at e;split at e
 ·exact vO e (h _ _ _)
 ·cases e
section
variable(a:bC)
def eH:Bool:=((((lJ (mA (0+(ln a.Bytes)) 8) 140737488355328)&&(lJ (0+(ln a.Bytes)) 140737488355328))&&(((lJ (mA (0+(ln a.Log)) 40) 140737488355328)&&(lJ (0+(ln a.Log)) 140737488355328))&&true))&&(((bI a true)&&(bI a true))&&true))
def a8K:Bool:=(((eH a)&&(((eH a)&&(((eH a)&&(((eH a)&&(((eH a)&&(((eH a)&&((eH a)&&((dQ a true)&&(dJ a true))))&&((dQ a true)&&(dJ a true))))&&((dQ a true)&&(dJ a true))))&&((dQ a true)&&(dJ a true))))&&((dQ a true)&&(dJ a true))))&&((dQ a true)&&(dJ a true))))&&((dQ a true)&&(dJ a true)))
def a8L:Bool:=(((eH a)&&(((eH a)&&(((eH a)&&(((eH a)&&(((eH a)&&(((eH a)&&(((eH a)&&(a8K a))&&((dQ a true)&&(dJ a true))))&&((dQ a true)&&(dJ a true))))&&((dQ a true)&&(dJ a true))))&&((dQ a true)&&(dJ a true))))&&((dQ a true)&&(dJ a true))))&&((dQ a true)&&(dJ a true))))&&((dQ a true)&&(dJ a true)))
def a8M:Bool:=(((eH a)&&(((eH a)&&(((eH a)&&(((eH a)&&(((eH a)&&(((eH a)&&(((eH a)&&(a8L a))&&((dQ a true)&&(dJ a true))))&&((dQ a true)&&(dJ a true))))&&((dQ a true)&&(dJ a true))))&&((dQ a true)&&(dJ a true))))&&((dQ a true)&&(dJ a true))))&&((dQ a true)&&(dJ a true))))&&((dQ a true)&&(dJ a true)))
def a8N:Bool:=(((eH a)&&(((eH a)&&(((eH a)&&(((eH a)&&(((eH a)&&(((eH a)&&(((eH a)&&(a8M a))&&((dQ a true)&&(dJ a true))))&&((dQ a true)&&(dJ a true))))&&((dQ a true)&&(dJ a true))))&&((dQ a true)&&(dJ a true))))&&((dQ a true)&&(dJ a true))))&&((dQ a true)&&(dJ a true))))&&((dQ a true)&&(dJ a true)))
def a8O:Bool:=(((eH a)&&(((eH a)&&(((eH a)&&(((eH a)&&(((eH a)&&(((eH a)&&(((eH a)&&(a8N a))&&((dQ a true)&&(dJ a true))))&&((dQ a true)&&(dJ a true))))&&((dQ a true)&&(dJ a true))))&&((dQ a true)&&(dJ a true))))&&((dQ a true)&&(dJ a true))))&&((dQ a true)&&(dJ a true))))&&((dQ a true)&&(dJ a true)))
end
def a8P(a:bC):Pt (bC):=(ot (.ok ((eH a)&&(((eH a)&&(((eH a)&&(a8O a))&&((dQ a true)&&(dJ a true))))&&((dQ a true)&&(dJ a true)))) (.ok ((bI a true)&&((bI a true)&&true)) (.leaf a))))
def bI2(a:bC):bC:=hid (a8P a).val
def bRQ(a:bC):Bool:=hid (a8P a).okv
def q201:=bRO (fun a=>bG6 a (bI2 a)) bRQ
theorem b9J:cD 201 q201:=bRP fun a p0 p1 hk=>tc aUC (a8P a) (bG6 a) hk
def Q201:=aX 201 q201 Q188
theorem aUD:QO Q201:=aB b9J aUC
def b9K(a:aD)(p0:Bool)(p1:Bool)(p2:Bool)(p3:Bool):List SV:=[(.agg [.imm p0 1 a.R.D, .imm p1 1 a.R.A,li a.R.Other,li a.R.PC,li a.R.Flags,li a.R.Mask, .lit (.bool a.R.Super), .lit (.bool a.R.Trace), .imm p2 1 a.Bus.Bytes, .imm p3 5 a.Bus.Log, .lit (.bool a.Stop), .lit (.bool a.Halt)])]
def b9L(a:aD)(p0:Bool)(p1:Bool)(p2:Bool)(p3:Bool):List Blk:=[]
def bI3(N:aD→SV×List Blk)(K:aD→Bool):List SV→List Blk→Option ((SV×List Blk)×Bool)
 |[(.agg [.imm p0 1 c0, .imm p1 1 c1,li c2,li c3,li c4,li c5, .lit (.bool c6), .lit (.bool c7), .imm p2 1 c8, .imm p3 5 c9, .lit (.bool c10), .lit (.bool c11)])],[]=>some (N (aD.mk (aE.mk c0 c1 c2 c3 c4 c5 c6 c7) (bC.mk c8 c9) c10 c11),K (aD.mk (aE.mk c0 c1 c2 c3 c4 c5 c6 c7) (bC.mk c8 c9) c10 c11))
 |_,_=>none
theorem a8Q{N:aD→SV×List Blk}{K:aD→Bool}{f:Nat}(h: ∀(a:aD)(p0:Bool)(p1:Bool)(p2:Bool)(p3:Bool),K a=true→cY R f (b9K a p0 p1 p2 p3) (b9L a p0 p1 p2 p3)=some (N a)):cD f (bI3 N K):=fun _ _ _ e=>by
 unfold bI3 at e;split at e
 ·exact vO e (h _ _ _ _ _)
 ·cases e
section
variable(a:aD)
def aNM:Bool:=(aK (sL a.R) (bI (bI2 a.Bus) true))
end
def a8R(a:aD):Pt (aD):=(ot (.ok ((aNL a.R)&&true) (.ok ((bRQ a.Bus)&&true) (ot (.ok ((aNM a)&&((aNM a)&&true)) (.leaf {a with R:=(sL a.R),Bus:=(bI2 a.Bus)}))))))
def CH(a:aD):aD:=hid (a8R a).val
def aNN(a:aD):Bool:=hid (a8R a).okv
def q120:=bI3 (fun a=>n88 a (CH a)) aNN
theorem b9M:cD 120 q120:=a8Q fun a p0 p1 p2 p3 hk=>tc aUD (a8R a) (n88 a) hk
def Q120:=aX 120 q120 Q201
theorem aUE:QO Q120:=aB b9M aUD
def b9N(a:bA)(p0:Bool)(p1:Bool)(p2:Bool)(p3:Bool):List SV:=[(.agg [.imm p0 1 a.Cpu.R.D, .imm p1 1 a.Cpu.R.A,li a.Cpu.R.Other,li a.Cpu.R.PC,li a.Cpu.R.Flags,li a.Cpu.R.Mask, .lit (.bool a.Cpu.R.Super), .lit (.bool a.Cpu.R.Trace), .imm p2 1 a.Cpu.Bus.Bytes, .imm p3 5 a.Cpu.Bus.Log, .lit (.bool a.Cpu.Stop), .lit (.bool a.Cpu.Halt),li a.Line, .lit (.bool a.Edge)])]
def b9O(a:bA)(p0:Bool)(p1:Bool)(p2:Bool)(p3:Bool):List Blk:=[]
def bI4(N:bA→SV×List Blk)(K:bA→Bool):List SV→List Blk→Option ((SV×List Blk)×Bool)
 |[(.agg [.imm p0 1 c0, .imm p1 1 c1,li c2,li c3,li c4,li c5, .lit (.bool c6), .lit (.bool c7), .imm p2 1 c8, .imm p3 5 c9, .lit (.bool c10), .lit (.bool c11),li c12, .lit (.bool c13)])],[]=>some (N (bA.mk (aD.mk (aE.mk c0 c1 c2 c3 c4 c5 c6 c7) (bC.mk c8 c9) c10 c11) c12 c13),K (bA.mk (aD.mk (aE.mk c0 c1 c2 c3 c4 c5 c6 c7) (bC.mk c8 c9) c10 c11) c12 c13))
 |_,_=>none
theorem a8S{N:bA→SV×List Blk}{K:bA→Bool}{f:Nat}(h: ∀(a:bA)(p0:Bool)(p1:Bool)(p2:Bool)(p3:Bool),K a=true→cY R f (b9N a p0 p1 p2 p3) (b9O a p0 p1 p2 p3)=some (N a)):cD f (bI4 N K):=fun _ _ _ e=>by
 unfold bI4 at e;split at e
 ·exact vO e (h _ _ _ _ _)
 ·cases e
def a8T(a:bA):Pt (bA):=(ot (.ok ((aNN a.Cpu)&&true) (ot (.ok ((aI (CH a.Cpu) true)&&((aI (CH a.Cpu) true)&&true)) (.leaf {a with Cpu:=(CH a.Cpu)})))))
def NR(a:bA):bA:=hid (a8T a).val
def a8U(a:bA):Bool:=hid (a8T a).okv
def q114:=bI4 (fun a=>bG8 a (NR a)) a8U
theorem b9P:cD 114 q114:=a8S fun a p0 p1 p2 p3 hk=>tc aUE (a8T a) (bG8 a) hk
def Q114:=aX 114 q114 Q120
theorem aUF:QO Q114:=aB b9P aUE
def a8V(a:bA):Pt (Int):=(ot (ot (.br a.Edge (ot (ot (ot (.leaf 7)))) (ot (.br (kV a.Line a.Cpu.R.Mask) (ot (ot (ot (.leaf a.Line)))) (ot (ot (ot (.leaf 0)))))))))
def aG2(a:bA):Int:=hid (a8V a).val
def bRR(a:bA):Bool:=hid (a8V a).okv
def bY7(a:bA)(r:Int):SV×List Blk:=((.one (li r)),[])
def q194:=bI4 (fun a=>bY7 a (aG2 a)) bRR
theorem b9Q:cD 100194 q194:=a8S fun a p0 p1 p2 p3 hk=>tz aUF (a8V a) (bY7 a) hk
def Q194:=aX 100194 q194 Q114
theorem aUG:QO Q194:=aB b9Q aUF
def a8W(a:aD):Pt (aO):=(ot (.ok ((aNN a)&&true) (ot (.ok (((aI (CH a) true)&&(aI (CH a) true))&&true) (.leaf (aO.mk (CH a).R (CH a).Bus (CH a).Stop (aH.mk 0 0 0 0 false)))))))
def d9(a:aD):aO:=hid (a8W a).val
def a8X(a:aD):Bool:=hid (a8W a).okv
def bY8(a:aD)(r:aO):SV×List Blk:=((.one (.ptr 0 0 0)),[.box [.sl 1 0 (ln r.fr.D), .sl 2 0 (ln r.fr.A),li r.fr.Other,li r.fr.PC,li r.fr.Flags,li r.fr.Mask, .lit (.bool r.fr.Super), .lit (.bool r.fr.Trace), .sl 3 0 (ln r.fbus.Bytes), .sl 4 0 (ln r.fbus.Log), .lit (.bool r.fstop),li r.ffault.Vector,li r.ffault.PC,li r.ffault.Addr,li r.ffault.Word, .lit (.bool r.ffault.Write)], .lst 1 r.fr.D, .lst 1 r.fr.A, .lst 1 r.fbus.Bytes, .lst 5 r.fbus.Log])
def q183:=bI3 (fun a=>bY8 a (d9 a)) a8X
theorem b9R:cD 183 q183:=a8Q fun a p0 p1 p2 p3 hk=>tc aUG (a8W a) (bY8 a) hk
def Q183:=aX 183 q183 Q194
theorem aUH:QO Q183:=aB b9R aUG
def a8Y(a:aE):Pt (Int):=(ot (.ok ((yI a.Super 256)&&((yI a.Trace 512)&&true)) (ot (ot (.leaf (aV (aV (aV a.Flags (cX 32 a.Mask)) (yH a.Super 256)) (yH a.Trace 512)))))))
def a8Z(a:aE):Int:=hid (a8Y a).val
def bI5(a:aE):Bool:=hid (a8Y a).okv
def bY9(a:aE)(r:Int):SV×List Blk:=((.one (li r)),[])
def q259:=a5C (fun a=>bY9 a (a8Z a)) bI5
theorem b9S:cD 100259 q259:=aLP fun a p0 p1 hk=>tz aUH (a8Y a) (bY9 a) hk
def Q259:=aX 100259 q259 Q183
theorem aUI:QO Q259:=aB b9S aUH
def a80(a:Int):Pt (Bool):=(ot (ot (ot (ot (.leaf (bif (eqI a 2)then true else(eqI a 3)))))))
def bRS(a:Int):Bool:=hid (a80 a).val
def bRT(a:Int):Bool:=hid (a80 a).okv
def q347:=B8 (fun a=>jY a (bRS a)) bRT
theorem b9T:cD 100347 q347:=gQ fun a hk=>tz aUI (a80 a) (jY a) hk
def Q347:=aX 100347 q347 Q259
theorem aUJ:QO Q347:=aB b9T aUI
def b9U(a:Bool)(b:aH):List SV:=[(.one (.lit (.bool a))),(.agg [li b.Vector,li b.PC,li b.Addr,li b.Word, .lit (.bool b.Write)])]
def b9V(a:Bool)(b:aH):List Blk:=[]
def bRU(N:Bool→aH→SV×List Blk)(K:Bool→aH→Bool):List SV→List Blk→Option ((SV×List Blk)×Bool)
 |[(.one (.lit (.bool c0))),(.agg [li c1,li c2,li c3,li c4, .lit (.bool c5)])],[]=>some (N c0 (aH.mk c1 c2 c3 c4 c5),K c0 (aH.mk c1 c2 c3 c4 c5))
 |_,_=>none
theorem bRV{N:Bool→aH→SV×List Blk}{K:Bool→aH→Bool}{f:Nat}(h: ∀(a:Bool)(b:aH),K a b=true→cY R f (b9U a b) (b9V a b)=some (N a b)):cD f (bRU N K):=fun _ _ _ e=>by
 unfold bRU at e;split at e
 ·exact vO e (h _ _)
 ·cases e
def a81(a:Bool)(b:aH):Pt (Int):=(ot (.ok ((yI b.Write 1)&&((yI a 2)&&true)) (ot (ot (.leaf (eT (yH b.Write 1) (yH a 2)))))))
def bRW(a:Bool)(b:aH):Int:=hid (a81 a b).val
def bRX(a:Bool)(b:aH):Bool:=hid (a81 a b).okv
def bZA(a:Bool)(b:aH)(r:Int):SV×List Blk:=((.one (li r)),[])
def q348:=bRU (fun a b=>bZA a b (bRW a b)) bRX
theorem b9W:cD 100348 q348:=bRV fun a b hk=>tz aUJ (a81 a b) (bZA a b) hk
def Q348:=aX 100348 q348 Q347
theorem aUK:QO Q348:=aB b9W aUJ
def b9X(a:aE)(b:aH)(p0:Bool)(p1:Bool):List SV:=[(.agg [.imm p0 1 a.D, .imm p1 1 a.A,li a.Other,li a.PC,li a.Flags,li a.Mask, .lit (.bool a.Super), .lit (.bool a.Trace)]),(.agg [li b.Vector,li b.PC,li b.Addr,li b.Word, .lit (.bool b.Write)])]
def b9Y(a:aE)(b:aH)(p0:Bool)(p1:Bool):List Blk:=[]
def bRY(N:aE→aH→SV×List Blk)(K:aE→aH→Bool):List SV→List Blk→Option ((SV×List Blk)×Bool)
 |[(.agg [.imm p0 1 c0, .imm p1 1 c1,li c2,li c3,li c4,li c5, .lit (.bool c6), .lit (.bool c7)]),(.agg [li c8,li c9,li c10,li c11, .lit (.bool c12)])],[]=>some (N (aE.mk c0 c1 c2 c3 c4 c5 c6 c7) (aH.mk c8 c9 c10 c11 c12),K (aE.mk c0 c1 c2 c3 c4 c5 c6 c7) (aH.mk c8 c9 c10 c11 c12))
 |_,_=>none
theorem bRZ{N:aE→aH→SV×List Blk}{K:aE→aH→Bool}{f:Nat}(h: ∀(a:aE)(b:aH)(p0:Bool)(p1:Bool),K a b=true→cY R f (b9X a b p0 p1) (b9Y a b p0 p1)=some (N a b)):cD f (bRY N K):=fun _ _ _ e=>by
 unfold bRY at e;split at e
 ·exact vO e (h _ _ _ _)
 ·cases e
def a82(a:aE)(b:aH):Pt (List Row):=(ot (.ok (((bI5 a)&&true)&&true) (.ok ((bRT b.Vector)&&true) (.br (bRS b.Vector) (.ok (((bRX a.Super b)&&true)&&true) (ot (ot (.leaf [(aL b.PC),(aL (a8Z a)),(aL b.Word),(aL b.Addr),(aL (bRW a.Super b))])))) (ot (ot (.leaf [(aL b.PC),(aL (a8Z a))])))))))
def aDI(a:aE)(b:aH):List Row:=hid (a82 a b).val
def bR0(a:aE)(b:aH):Bool:=hid (a82 a b).okv
def bZB(a:aE)(b:aH)(r:List Row):SV×List Blk:=((.one (.sl 0 0 (ln r))),[.lst 1 r])
def q313:=bRY (fun a b=>bZB a b (aDI a b)) bR0
theorem b9Z:cD 313 q313:=bRZ fun a b p0 p1 hk=>tc aUK (a82 a b) (bZB a b) hk
def Q313:=aX 313 q313 Q348
theorem aUL:QO Q313:=aB b9Z aUK
def b90(a:aE)(b:Int):List SV:=[(.agg [.sl 0 0 (ln a.D), .sl 1 0 (ln a.A),li a.Other,li a.PC,li a.Flags,li a.Mask, .lit (.bool a.Super), .lit (.bool a.Trace)]),(.one (li b))]
def b91(a:aE)(b:Int):List Blk:=[.lst 1 a.D, .lst 1 a.A]
def bR1(N:aE→Int→SV×List Blk)(K:aE→Int→Bool):List SV→List Blk→Option ((SV×List Blk)×Bool)
 |[(.agg [.sl 0 0 l0, .sl 1 0 l1,li c0,li c1,li c2,li c3, .lit (.bool c4), .lit (.bool c5)]),(.one (li c6))],[.lst 1 c_0, .lst 1 c_1]=>some (N (aE.mk c_0 c_1 c0 c1 c2 c3 c4 c5) c6,cV l0 (ln c_0)&&(cV l1 (ln c_1)&&(K (aE.mk c_0 c_1 c0 c1 c2 c3 c4 c5) c6)))
 |_,_=>none
theorem bR2{N:aE→Int→SV×List Blk}{K:aE→Int→Bool}{f:Nat}(h: ∀(a:aE)(b:Int),K a b=true→cY R f (b90 a b) (b91 a b)=some (N a b)):cD f (bR1 N K):=fun args hp r e=>by
 unfold bR1 at e;split at e
 ·rename_i l0 l1 c0 c1 c2 c3 c4 c5 c6 c_0 c_1;obtain⟨hr,hk⟩:=qp (qi e);obtain⟨d0,hk0⟩:=aS hk;obtain⟨d1,hk1⟩:=aS hk0;obtain rfl:=of_decide_eq_true d0;obtain rfl:=of_decide_eq_true d1;rw[←hr];exact h (aE.mk c_0 c_1 c0 c1 c2 c3 c4 c5) c6 hk1
 ·simp at e
section
variable(a:aE)
def aNO:Bool:=((e1 (ln a.D))&&((cV (ln a.A) (ln (List.set a.A 3 (aL a.Other))))&&true))
end
def a83(a:aE)(b:Int):Pt (aE):=(ot (ot (ot (.br (!(yF (cU (aZ b 256) 0) a.Super)) (.ok ((ltI 3 (bN a.A))&&((dO [.int .i64] a.A 3 0)&&true)) (.ok ((ltI 3 (bN a.A))&&(((blt 3 (ln a.A))&&(jW (jX a.A 3) 1))&&true)) (ot (ot (ot (ot (ot (ot (.ok (((aNO a)&&((aK a true)&&true))&&((aNO a)&&true)) (.leaf (aE.mk a.D (List.set a.A 3 (aL a.Other)) (bF a.A 3 0) a.PC (aZ b 31) (aZ (eW b 5) 7) (cU (aZ b 256) 0) (cU (aZ b 512) 0)))))))))))) (ot (ot (ot (ot (ot (.ok (((aK a true)&&((aK a true)&&true))&&((aK a true)&&true)) (.leaf {a with Flags:=(aZ b 31),Mask:=(aZ (eW b 5) 7),Super:=(cU (aZ b 256) 0),Trace:=(cU (aZ b 512) 0)})))))))))))
def aG3(a:aE)(b:Int):aE:=hid (a83 a b).val
def aZZ(a:aE)(b:Int):Bool:=hid (a83 a b).okv
def bZC(a:aE)(b:Int)(r:aE):SV×List Blk:=((.agg [.sl 0 0 (ln r.D), .sl 1 0 (ln r.A),li r.Other,li r.PC,li r.Flags,li r.Mask, .lit (.bool r.Super), .lit (.bool r.Trace)]),[.lst 1 r.D, .lst 1 r.A])
def q258:=bR1 (fun a b=>bZC a b (aG3 a b)) aZZ
theorem b92:cD 258 q258:=bR2 fun a b hk=>tcx aUL [(1000001,[])] [] true (a83 a b) (bZC a b) hk
def Q258:=aX 258 q258 Q313
theorem aUM:QO Q258:=aB b92 aUL
def b93(a:aO):List SV:=[(.one (.ptr 0 0 0))]
def b94(a:aO):List Blk:=[.box [.sl 1 0 (ln a.fr.D), .sl 2 0 (ln a.fr.A),li a.fr.Other,li a.fr.PC,li a.fr.Flags,li a.fr.Mask, .lit (.bool a.fr.Super), .lit (.bool a.fr.Trace), .sl 3 0 (ln a.fbus.Bytes), .sl 4 0 (ln a.fbus.Log), .lit (.bool a.fstop),li a.ffault.Vector,li a.ffault.PC,li a.ffault.Addr,li a.ffault.Word, .lit (.bool a.ffault.Write)], .lst 1 a.fr.D, .lst 1 a.fr.A, .lst 1 a.fbus.Bytes, .lst 5 a.fbus.Log]
def aZ0(N:aO→SV×List Blk)(K:aO→Bool):List SV→List Blk→Option ((SV×List Blk)×Bool)
 |[(.one (.ptr 0 0 0))],[.box [.sl 1 0 l1, .sl 2 0 l2,li c0,li c1,li c2,li c3, .lit (.bool c4), .lit (.bool c5), .sl 3 0 l3, .sl 4 0 l4, .lit (.bool c6),li c7,li c8,li c9,li c10, .lit (.bool c11)], .lst 1 c_1, .lst 1 c_2, .lst 1 c_3, .lst 5 c_4]=>some (N (aO.mk (aE.mk c_1 c_2 c0 c1 c2 c3 c4 c5) (bC.mk c_3 c_4) c6 (aH.mk c7 c8 c9 c10 c11)),cV l1 (ln c_1)&&(cV l2 (ln c_2)&&(cV l3 (ln c_3)&&(cV l4 (ln c_4)&&(K (aO.mk (aE.mk c_1 c_2 c0 c1 c2 c3 c4 c5) (bC.mk c_3 c_4) c6 (aH.mk c7 c8 c9 c10 c11)))))))
 |_,_=>none
theorem aDJ{N:aO→SV×List Blk}{K:aO→Bool}{f:Nat}(h: ∀(a:aO),K a=true→cY R f (b93 a) (b94 a)=some (N a)):cD f (aZ0 N K):=fun args hp r e=>by
 unfold aZ0 at e;split at e
 ·rename_i l1 l2 c0 c1 c2 c3 c4 c5 l3 l4 c6 c7 c8 c9 c10 c11 c_1 c_2 c_3 c_4;obtain⟨hr,hk⟩:=qp (qi e);obtain⟨d0,hk0⟩:=aS hk;obtain⟨d1,hk1⟩:=aS hk0;obtain⟨d2,hk2⟩:=aS hk1;obtain⟨d3,hk3⟩:=aS hk2;obtain rfl:=of_decide_eq_true d0;obtain rfl:=of_decide_eq_true d1;obtain rfl:=of_decide_eq_true d2;obtain rfl:=of_decide_eq_true d3;rw[←hr];exact h (aO.mk (aE.mk c_1 c_2 c0 c1 c2 c3 c4 c5) (bC.mk c_3 c_4) c6 (aH.mk c7 c8 c9 c10 c11)) hk3
 ·simp at e
def a84(a:aO):Pt (Bool):=(ot (ot (.ok (((bL a true)&&(bL a true))&&true) (.leaf (eqI a.ffault.Vector 0)))))
def tO(a:aO):Bool:=hid (a84 a).val
def uL(a:aO):Bool:=hid (a84 a).okv
def bZD(a:aO)(r:Bool):SV×List Blk:=((.one (.lit (.bool r))),[.box [.sl 1 0 (ln a.fr.D), .sl 2 0 (ln a.fr.A),li a.fr.Other,li a.fr.PC,li a.fr.Flags,li a.fr.Mask, .lit (.bool a.fr.Super), .lit (.bool a.fr.Trace), .sl 3 0 (ln a.fbus.Bytes), .sl 4 0 (ln a.fbus.Log), .lit (.bool a.fstop),li a.ffault.Vector,li a.ffault.PC,li a.ffault.Addr,li a.ffault.Word, .lit (.bool a.ffault.Write)], .lst 1 a.fr.D, .lst 1 a.fr.A, .lst 1 a.fbus.Bytes, .lst 5 a.fbus.Log])
def q186:=aZ0 (fun a=>bZD a (tO a)) uL
theorem b95:cD 186 q186:=aDJ fun a hk=>tc aUM (a84 a) (bZD a) hk
def Q186:=aX 186 q186 Q258
theorem aUN:QO Q186:=aB b95 aUM
def a85(a:Int):Pt (Int):=(ot (ot (.ok (((wB a 448 495)&&true)||(geI a 512)) (.br (bif (geI a 512)then(geI a 512)else(tU a 448 495)) (ot (ot (ot (.leaf 1)))) (.ok ((wB a 384 447)&&true) (.br (tU a 384 447) (ot (ot (ot (.leaf 3)))) (ot (ot (ot (.leaf 0))))))))))
def aNP(a:Int):Int:=hid (a85 a).val
def aZ1(a:Int):Bool:=hid (a85 a).okv
def q361:=B8 (fun a=>xJ a (aNP a)) aZ1
theorem b96:cD 100361 q361:=gQ fun a hk=>tz aUN (a85 a) (xJ a) hk
def Q361:=aX 100361 q361 Q186
theorem aUO:QO Q361:=aB b96 aUN
section
variable(b:Int)(c:Int)
def aNQ:Int:=(aNP (cF (aV c b) 1))
end
def a86(a:Int)(b:Int)(c:Int):Pt (Int):=(ot (ot (ot (.br (bif (eqI b 2)then(eqI (aZ c 1) 1)else false) (ot (ot (ot (.leaf 2)))) (.ok ((aZ1 c)&&((((aZ1 (cF (aV c b) 1))&&true)||(eqI (aNP c) 1))&&true)) (.br (bif (eqI (aNP c) 1)then true else(eqI (aNQ b c) 1)) (ot (ot (ot (.leaf 1)))) (.ok ((((aZ1 c)&&((((aZ1 (cF (aV c b) 1))&&true)||(eqI (aNP c) 3))&&true))||(!(eqI a 2)))&&true) (.br (bif (eqI a 2)then(bif (eqI (aNP c) 3)then true else(eqI (aNQ b c) 3))else false) (ot (ot (ot (.leaf 3)))) (ot (ot (ot (.leaf 0))))))))))))
def aDK(a:Int)(b:Int)(c:Int):Int:=hid (a86 a b c).val
def bR3(a:Int)(b:Int)(c:Int):Bool:=hid (a86 a b c).okv
def q350:=DS5 (fun a b c=>aGV a b c (aDK a b c)) bR3
theorem b97:cD 100350 q350:=C9 fun a b c hk=>tz aUO (a86 a b c) (aGV a b c) hk
def Q350:=aX 100350 q350 Q361
theorem aDL:QO Q350:=aB b97 aUO
structure V341_0 where
 mk::
 (b0:bC)
 (s1:Int)
 (s2:Int)
 (s3:Int)
 (s4:Int)
 (s12:Int)
 (s13:Int)
 (s14:Int)
section
variable(v:V341_0)
def sM:Int:=(wA .u64 (cX 8 (cF (cF v.s2 1) v.s14)))
def sN:Bool:=((leI 0 (aV v.s3 v.s14))&&(ltI (aV v.s3 v.s14) (bN v.b0.Bytes)))
def sO:List Row:=(List.set v.b0.Bytes (0+(iN (aV v.s3 v.s14))) (aL (aZ (eW v.s4 (sM v)) 255)))
def sP:Bool:=((cV (ln v.b0.Bytes) (ln (sO v)))&&((e1 (ln v.b0.Log))&&true))
end
def sQ(v:V341_0):Pt (Option V341_0):=(ot (.br (ltI v.s14 v.s2) (ot (.br (eqI v.s1 2) (.ok ((leI 0 (sM v))&&((sN v)&&(((blt (0+(iN (aV v.s3 v.s14))) (ln v.b0.Bytes))&&(jW (jX v.b0.Bytes (0+(iN (aV v.s3 v.s14)))) 1))&&true))) (ot (.ok ((((bI v.b0 true)&&(sP v))&&true)&&((sP v)&&true)) (.leaf (some {v with b0:={v.b0 with Bytes:=(sO v)},s14:=(aV v.s14 1)}))))) (.ok ((sN v)&&((dO [.int .i64] v.b0.Bytes (0+(iN (aV v.s3 v.s14))) 0)&&true)) (ot (.ok (dd (bI v.b0 true) ((bI v.b0 true)&&true)) (.leaf (some {v with s13:=(eT (nL v.s13 8) (bF v.b0.Bytes (0+(iN (aV v.s3 v.s14))) 0)),s14:=(aV v.s14 1)}))))))) (.leaf none)))
def UP(v:V341_0):St:=⟨[(0,(.one (.ptr 0 0 0))),(1,(.one (li v.s1))),(2,(.one (li v.s2))),(3,(.one (li v.s3))),(4,(.one (li v.s4))),(12,(.one (li v.s12))),(13,(.one (li v.s13))),(14,(.one (li v.s14)))],[.box [.sl 1 0 (ln v.b0.Bytes), .sl 2 0 (ln v.b0.Log)], .lst 1 v.b0.Bytes, .lst 5 v.b0.Log]⟩
def aDM:St→Option (V341_0×Bool)
 |⟨[(0,(.one (.ptr 0 0 0))),(1,(.one (li c0))),(2,(.one (li c1))),(3,(.one (li c2))),(4,(.one (li c3))),(12,(.one (li c4))),(13,(.one (li c5))),(14,(.one (li c6)))],[.box [.sl 1 0 l1, .sl 2 0 l2], .lst 1 c_1, .lst 5 c_2]⟩=>some ((V341_0.mk (bC.mk c_1 c_2) c0 c1 c2 c3 c4 c5 c6),cV l1 (ln c_1)&&(cV l2 (ln c_2)&&(true)))
 |_=>none
def aDN:St→Option (Pt Out):=vH Q350 ([(1000003,[])]++CD 341) [] true [] 1 9223372036854775808 aJ4
theorem bI6(v:V341_0):((aDN (UP v)).bind (pG true true 1 [0,1,2,3,4,12,13,14]))=some ((sQ v).map (Option.map UP)):=by kernel_rfl
theorem bI7(σ:St)(v:V341_0)(h:aDM σ=some (v,true)):σ=UP v:=by
 unfold aDM at h;split at h
 ·obtain⟨hr,hk⟩:=qp (qi h);obtain⟨d0,hk0⟩:=aS hk;obtain⟨d1,hk1⟩:=aS hk0;obtain rfl:=of_decide_eq_true d0;obtain rfl:=of_decide_eq_true d1;rw[←hr];rfl
 ·simp at h
theorem bI8:cK (qU true true 1 [0,1,2,3,4,12,13,14] aDN aDM UP sQ 9223372036854775808) (eY R 1 9223372036854775808 (.loop [0,1,2,3,4,12,13,14] aJ4)):=dD (cL aDL (bT (l:=[]) (by kernel_rfl) trivial)) bI7 bI6
def bI9:Lp:=(24,qU true true 1 [0,1,2,3,4,12,13,14] aDN aDM UP sQ 9223372036854775808)::[]
def aNR(v:V341_0):V341_0:=(hid (dB sQ 9223372036854775808 v)).getD v
def aNS(v:V341_0):Bool:=(hid (dB sQ 9223372036854775808 v)).isSome
section
variable(b:Int)(c:Int)(d:Int)(o:Int)(a:bC)
def jJ:V341_0:=(aNR (V341_0.mk a b c d o (aDK b c d) (bif (cU b 2)then 0 else o) 0))
def yV:Nat:=(ln (jJ b c d o a).b0.Log)
def aDO:Nat:=(ln (jJ b c d o a).b0.Bytes)
def UQ:List Row:=((jJ b c d o a).b0.Log++[(aA.row (aA.mk (jJ b c d o a).s1 (jJ b c d o a).s2 (jJ b c d o a).s3 (jJ b c d o a).s13 (jJ b c d o a).s12))])
def UR:Bool:=((e1 (aDO b c d o a))&&((e1 (ln (UQ b c d o a)))&&true))
def US:List Row:=(a.Log++[(aA.row (aA.mk b c d (bif (cU b 2)then 0 else o) (aDK b c d)))])
def UT:Bool:=((e1 (ln a.Bytes))&&((e1 (ln (US b c d o a)))&&true))
end
def aNT(b:Int)(c:Int)(d:Int)(o:Int)(a:bC):Pt (bC×Int×Int):=(ot (.ok ((bR3 b c d)&&true) (ot (ot (ot (ot (.br (eqI (aDK b c d) 0) (ot (.ok (dd (bI a true) ((bI a true)&&true)) (.ok (bI a true) (.ok (aNS (V341_0.mk a b c d o (aDK b c d) (bif (cU b 2)then 0 else o) 0)) (.ok ((lJ (0+(yV b c d o a)) (yV b c d o a))&&true) (.br (bif (ltI (bN (jJ b c d o a).b0.Log) 400)then(bif (cU (jJ b c d o a).s1 3)then true else(cU (jJ b c d o a).s12 0))else false) (.ok (((e1 (yV b c d o a))&&((cV (0+(yV b c d o a)) (yV b c d o a))&&((lJ (mA ((yV b c d o a)+1) 40) 140737488355328)&&(lJ ((yV b c d o a)+1) 140737488355328))))&&true) (ot (.ok (((UR b c d o a)&&(UR b c d o a))&&true) (.leaf ({(jJ b c d o a).b0 with Log:=(UQ b c d o a)},(jJ b c d o a).s13,(jJ b c d o a).s12))))) (ot (.ok (((bI (jJ b c d o a).b0 true)&&(bI (jJ b c d o a).b0 true))&&true) (.leaf ((jJ b c d o a).b0,(jJ b c d o a).s13,(jJ b c d o a).s12)))))))))) (.ok ((lJ (0+(ln a.Log)) (ln a.Log))&&true) (.br (bif (ltI (bN a.Log) 400)then(bif (cU b 3)then true else(cU (aDK b c d) 0))else false) (.ok (((e1 (ln a.Log))&&((cV (0+(ln a.Log)) (ln a.Log))&&((lJ (mA ((ln a.Log)+1) 40) 140737488355328)&&(lJ ((ln a.Log)+1) 140737488355328))))&&true) (ot (.ok (((UT b c d o a)&&(UT b c d o a))&&true) (.leaf ({a with Log:=(US b c d o a)},(bif (cU b 2)then 0 else o),(aDK b c d)))))) (ot (.ok (((bI a true)&&(bI a true))&&true) (.leaf (a,(bif (cU b 2)then 0 else o),(aDK b c d))))))))))))))
def bJA(b:Int)(c:Int)(d:Int)(o:Int)(a:bC):bC×Int×Int:=hid (aNT b c d o a).val
def bJB(b:Int)(c:Int)(d:Int)(o:Int)(a:bC):Bool:=hid (aNT b c d o a).okv
def q341:=bHD (fun b c d o a=>bHE b c d o a (bJA b c d o a)) bJB
theorem bZE:eS (fun live x=>cK (lH bI9 (kH x)) (eY R 1 9223372036854775808 (.loop live x))) (nK 341).body:=(bT (l:=[([0,1,2,3,4,12,13,14],aJ4)]) (by kernel_rfl) ⟨eP (n:=24) (by kernel_rfl) fun σ σr t h ho hl=>bI8 σ σr t h ho hl,trivial⟩)
theorem b98:cD 341 q341:=a5Y fun b c d o a hk=>tcl aDL bZE [(1000003,[])] [] true (aNT b c d o a) (bHE b c d o a) hk
def Q341:=aX 341 q341 Q350
theorem aUP:QO Q341:=aB b98 aDL
def b99(b:Int)(c:Int)(d:Int)(o:Int)(a:aO):List SV:=[(.one (.ptr 0 0 0)),(.one (li b)),(.one (li c)),(.one (li d)),(.one (li o))]
def cAA(b:Int)(c:Int)(d:Int)(o:Int)(a:aO):List Blk:=[.box [.sl 1 0 (ln a.fr.D), .sl 2 0 (ln a.fr.A),li a.fr.Other,li a.fr.PC,li a.fr.Flags,li a.fr.Mask, .lit (.bool a.fr.Super), .lit (.bool a.fr.Trace), .sl 3 0 (ln a.fbus.Bytes), .sl 4 0 (ln a.fbus.Log), .lit (.bool a.fstop),li a.ffault.Vector,li a.ffault.PC,li a.ffault.Addr,li a.ffault.Word, .lit (.bool a.ffault.Write)], .lst 1 a.fr.D, .lst 1 a.fr.A, .lst 1 a.fbus.Bytes, .lst 5 a.fbus.Log]
def bR4(N:Int→Int→Int→Int→aO→SV×List Blk)(K:Int→Int→Int→Int→aO→Bool):List SV→List Blk→Option ((SV×List Blk)×Bool)
 |[(.one (.ptr 0 0 0)),(.one (li c0)),(.one (li c1)),(.one (li c2)),(.one (li c3))],[.box [.sl 1 0 l1, .sl 2 0 l2,li c4,li c5,li c6,li c7, .lit (.bool c8), .lit (.bool c9), .sl 3 0 l3, .sl 4 0 l4, .lit (.bool c10),li c11,li c12,li c13,li c14, .lit (.bool c15)], .lst 1 c_1, .lst 1 c_2, .lst 1 c_3, .lst 5 c_4]=>some (N c0 c1 c2 c3 (aO.mk (aE.mk c_1 c_2 c4 c5 c6 c7 c8 c9) (bC.mk c_3 c_4) c10 (aH.mk c11 c12 c13 c14 c15)),cV l1 (ln c_1)&&(cV l2 (ln c_2)&&(cV l3 (ln c_3)&&(cV l4 (ln c_4)&&(K c0 c1 c2 c3 (aO.mk (aE.mk c_1 c_2 c4 c5 c6 c7 c8 c9) (bC.mk c_3 c_4) c10 (aH.mk c11 c12 c13 c14 c15)))))))
 |_,_=>none
theorem bR5{N:Int→Int→Int→Int→aO→SV×List Blk}{K:Int→Int→Int→Int→aO→Bool}{f:Nat}(h: ∀(b:Int)(c:Int)(d:Int)(o:Int)(a:aO),K b c d o a=true→cY R f (b99 b c d o a) (cAA b c d o a)=some (N b c d o a)):cD f (bR4 N K):=fun args hp r e=>by
 unfold bR4 at e;split at e
 ·rename_i c0 c1 c2 c3 l1 l2 c4 c5 c6 c7 c8 c9 l3 l4 c10 c11 c12 c13 c14 c15 c_1 c_2 c_3 c_4;obtain⟨hr,hk⟩:=qp (qi e);obtain⟨d0,hk0⟩:=aS hk;obtain⟨d1,hk1⟩:=aS hk0;obtain⟨d2,hk2⟩:=aS hk1;obtain⟨d3,hk3⟩:=aS hk2;obtain rfl:=of_decide_eq_true d0;obtain rfl:=of_decide_eq_true d1;obtain rfl:=of_decide_eq_true d2;obtain rfl:=of_decide_eq_true d3;rw[←hr];exact h c0 c1 c2 c3 (aO.mk (aE.mk c_1 c_2 c4 c5 c6 c7 c8 c9) (bC.mk c_3 c_4) c10 (aH.mk c11 c12 c13 c14 c15)) hk3
 ·simp at e
section
variable(b:Int)(c:Int)(d:Int)(o:Int)(a:aO)
def yW:bC×Int×Int:=(bJA b c d o a.fbus)
def aNU:Bool:=(aK a.fr (bI (yW b c d o a).1 true))
def aDP:Bool:=(((aNU b c d o a)&&(aNU b c d o a))&&true)
end
def a87(b:Int)(c:Int)(d:Int)(o:Int)(a:aO):Pt (aO×Int):=(ot (.ok ((sD a.fbus (bJB b c d o a.fbus))&&true) (ot (.br (bif (cU (yW b c d o a).2.2 0)then(eqI a.ffault.Vector 0)else false) (ot (ot (.br (eqI (yW b c d o a).2.2 2) (ot (ot (ot (ot (.ok (aDP b c d o a) (.leaf ({a with fbus:=(yW b c d o a).1,ffault:=(aH.mk 3 a.ffault.PC d a.ffault.Word (eqI b 2))},(yW b c d o a).2.1))))))) (ot (ot (ot (.ok (aDP b c d o a) (.leaf ({a with fbus:=(yW b c d o a).1,ffault:=(aH.mk 2 a.ffault.PC d a.ffault.Word (eqI b 2))},(yW b c d o a).2.1))))))))) (ot (.ok (aDP b c d o a) (.leaf ({a with fbus:=(yW b c d o a).1},(yW b c d o a).2.1))))))))
def wR(b:Int)(c:Int)(d:Int)(o:Int)(a:aO):aO×Int:=hid (a87 b c d o a).val
def aDQ(b:Int)(c:Int)(d:Int)(o:Int)(a:aO):Bool:=hid (a87 b c d o a).okv
def bZF(b:Int)(c:Int)(d:Int)(o:Int)(a:aO)(r:aO×Int):SV×List Blk:=((.one (li r.2)),[.box [.sl 1 0 (ln r.1.fr.D), .sl 2 0 (ln r.1.fr.A),li r.1.fr.Other,li r.1.fr.PC,li r.1.fr.Flags,li r.1.fr.Mask, .lit (.bool r.1.fr.Super), .lit (.bool r.1.fr.Trace), .sl 3 0 (ln r.1.fbus.Bytes), .sl 4 0 (ln r.1.fbus.Log), .lit (.bool r.1.fstop),li r.1.ffault.Vector,li r.1.ffault.PC,li r.1.ffault.Addr,li r.1.ffault.Word, .lit (.bool r.1.ffault.Write)], .lst 1 r.1.fr.D, .lst 1 r.1.fr.A, .lst 1 r.1.fbus.Bytes, .lst 5 r.1.fbus.Log])
def q296:=bR4 (fun b c d o a=>bZF b c d o a (wR b c d o a)) aDQ
theorem cAB:cD 296 q296:=bR5 fun b c d o a hk=>tc aUP (a87 b c d o a) (bZF b c d o a) hk
def Q296:=aX 296 q296 Q341
theorem aUQ:QO Q296:=aB cAB aUP
def cAC(b:Int)(a:aO):List SV:=[(.one (.ptr 0 0 0)),(.one (li b))]
def cAD(b:Int)(a:aO):List Blk:=[.box [.sl 1 0 (ln a.fr.D), .sl 2 0 (ln a.fr.A),li a.fr.Other,li a.fr.PC,li a.fr.Flags,li a.fr.Mask, .lit (.bool a.fr.Super), .lit (.bool a.fr.Trace), .sl 3 0 (ln a.fbus.Bytes), .sl 4 0 (ln a.fbus.Log), .lit (.bool a.fstop),li a.ffault.Vector,li a.ffault.PC,li a.ffault.Addr,li a.ffault.Word, .lit (.bool a.ffault.Write)], .lst 1 a.fr.D, .lst 1 a.fr.A, .lst 1 a.fbus.Bytes, .lst 5 a.fbus.Log]
def bJC(N:Int→aO→SV×List Blk)(K:Int→aO→Bool):List SV→List Blk→Option ((SV×List Blk)×Bool)
 |[(.one (.ptr 0 0 0)),(.one (li c0))],[.box [.sl 1 0 l1, .sl 2 0 l2,li c1,li c2,li c3,li c4, .lit (.bool c5), .lit (.bool c6), .sl 3 0 l3, .sl 4 0 l4, .lit (.bool c7),li c8,li c9,li c10,li c11, .lit (.bool c12)], .lst 1 c_1, .lst 1 c_2, .lst 1 c_3, .lst 5 c_4]=>some (N c0 (aO.mk (aE.mk c_1 c_2 c1 c2 c3 c4 c5 c6) (bC.mk c_3 c_4) c7 (aH.mk c8 c9 c10 c11 c12)),cV l1 (ln c_1)&&(cV l2 (ln c_2)&&(cV l3 (ln c_3)&&(cV l4 (ln c_4)&&(K c0 (aO.mk (aE.mk c_1 c_2 c1 c2 c3 c4 c5 c6) (bC.mk c_3 c_4) c7 (aH.mk c8 c9 c10 c11 c12)))))))
 |_,_=>none
theorem a88{N:Int→aO→SV×List Blk}{K:Int→aO→Bool}{f:Nat}(h: ∀(b:Int)(a:aO),K b a=true→cY R f (cAC b a) (cAD b a)=some (N b a)):cD f (bJC N K):=fun args hp r e=>by
 unfold bJC at e;split at e
 ·rename_i c0 l1 l2 c1 c2 c3 c4 c5 c6 l3 l4 c7 c8 c9 c10 c11 c12 c_1 c_2 c_3 c_4;obtain⟨hr,hk⟩:=qp (qi e);obtain⟨d0,hk0⟩:=aS hk;obtain⟨d1,hk1⟩:=aS hk0;obtain⟨d2,hk2⟩:=aS hk1;obtain⟨d3,hk3⟩:=aS hk2;obtain rfl:=of_decide_eq_true d0;obtain rfl:=of_decide_eq_true d1;obtain rfl:=of_decide_eq_true d2;obtain rfl:=of_decide_eq_true d3;rw[←hr];exact h c0 (aO.mk (aE.mk c_1 c_2 c1 c2 c3 c4 c5 c6) (bC.mk c_3 c_4) c7 (aH.mk c8 c9 c10 c11 c12)) hk3
 ·simp at e
section
variable(b:Int)(a:aO)
def pC:Int:=(aZ (cF (bF a.fr.A 3 0) 2) 65535)
def aNV:Nat:=(ln (wR 2 2 (pC a) b a).1.fr.A)
def aDR:Bool:=(bL (wR 2 2 (pC a) b a).1 true)
def a89:Nat:=(ln (wR 2 2 (pC a) b a).1.fr.D)
def aNW:List Row:=(List.set (wR 2 2 (pC a) b a).1.fr.A 3 (aL (pC a)))
def aNX:Bool:=((e1 (a89 b a))&&((cV (aNV b a) (ln (aNW b a)))&&(bI (wR 2 2 (pC a) b a).1.fbus true)))
end
def a9A(b:Int)(a:aO):Pt (aO):=(.ok ((ltI 3 (bN a.fr.A))&&((dO [.int .i64] a.fr.A 3 0)&&true)) (.ok ((bU a (aDQ 2 2 (pC a) b a))&&true) (.ok ((bU (wR 2 2 (pC a) b a).1 (uL (wR 2 2 (pC a) b a).1))&&true) (.br (tO (wR 2 2 (pC a) b a).1) (.ok ((ltI 3 (bN (wR 2 2 (pC a) b a).1.fr.A))&&(((blt 3 (aNV b a))&&(jW (jX (wR 2 2 (pC a) b a).1.fr.A 3) 1))&&true)) (.ok ((((aDR b a)&&(aNX b a))&&true)&&((aNX b a)&&true)) (.leaf {(wR 2 2 (pC a) b a).1 with fr:={(wR 2 2 (pC a) b a).1.fr with A:=(aNW b a)}}))) (.ok (dd (aDR b a) ((aDR b a)&&true)) (.leaf (wR 2 2 (pC a) b a).1))))))
def bJD(b:Int)(a:aO):aO:=hid (a9A b a).val
def bJE(b:Int)(a:aO):Bool:=hid (a9A b a).okv
def bJF(b:Int)(a:aO)(r:aO):SV×List Blk:=((.tup []),[.box [.sl 1 0 (ln r.fr.D), .sl 2 0 (ln r.fr.A),li r.fr.Other,li r.fr.PC,li r.fr.Flags,li r.fr.Mask, .lit (.bool r.fr.Super), .lit (.bool r.fr.Trace), .sl 3 0 (ln r.fbus.Bytes), .sl 4 0 (ln r.fbus.Log), .lit (.bool r.fstop),li r.ffault.Vector,li r.ffault.PC,li r.ffault.Addr,li r.ffault.Word, .lit (.bool r.ffault.Write)], .lst 1 r.fr.D, .lst 1 r.fr.A, .lst 1 r.fbus.Bytes, .lst 5 r.fbus.Log])
def q302:=bJC (fun b a=>bJF b a (bJD b a)) bJE
theorem cAE:cD 302 q302:=a88 fun b a hk=>tcx aUQ [(1000001,[])] [] true (a9A b a) (bJF b a) hk
def Q302:=aX 302 q302 Q296
theorem aDS:QO Q302:=aB cAE aUQ
section
variable(a:aO)
def aDT:aD:=(CH (aD.mk a.fr a.fbus a.fstop false))
end
def a9B(a:aO):Pt (aD):=(ot (.ok (((((bL a true)&&true)&&(aNN (aD.mk a.fr a.fbus a.fstop false)))&&true)&&true) (.ok (((bL a true)&&(bL a (aI (aDT a) true)))&&((aI (aDT a) true)&&true)) (.leaf (aDT a)))))
def qT(a:aO):aD:=hid (a9B a).val
def CI(a:aO):Bool:=hid (a9B a).okv
def bZG(a:aO)(r:aD):SV×List Blk:=((.agg [.sl 5 0 (ln r.R.D), .sl 6 0 (ln r.R.A),li r.R.Other,li r.R.PC,li r.R.Flags,li r.R.Mask, .lit (.bool r.R.Super), .lit (.bool r.R.Trace), .sl 7 0 (ln r.Bus.Bytes), .sl 8 0 (ln r.Bus.Log), .lit (.bool r.Stop), .lit (.bool r.Halt)]),[.box [.sl 1 0 (ln a.fr.D), .sl 2 0 (ln a.fr.A),li a.fr.Other,li a.fr.PC,li a.fr.Flags,li a.fr.Mask, .lit (.bool a.fr.Super), .lit (.bool a.fr.Trace), .sl 3 0 (ln a.fbus.Bytes), .sl 4 0 (ln a.fbus.Log), .lit (.bool a.fstop),li a.ffault.Vector,li a.ffault.PC,li a.ffault.Addr,li a.ffault.Word, .lit (.bool a.ffault.Write)], .lst 1 a.fr.D, .lst 1 a.fr.A, .lst 1 a.fbus.Bytes, .lst 5 a.fbus.Log, .lst 1 r.R.D, .lst 1 r.R.A, .lst 1 r.Bus.Bytes, .lst 5 r.Bus.Log])
def q187:=aZ0 (fun a=>bZG a (qT a)) CI
theorem cAF:cD 187 q187:=aDJ fun a hk=>tc aDS (a9B a) (bZG a) hk
def Q187:=aX 187 q187 Q302
theorem aUR:QO Q187:=aB cAF aDS
def cAG(a:aD)(b:aH)(c:Int)(p0:Bool)(p1:Bool)(p2:Bool)(p3:Bool):List SV:=[(.agg [.imm p0 1 a.R.D, .imm p1 1 a.R.A,li a.R.Other,li a.R.PC,li a.R.Flags,li a.R.Mask, .lit (.bool a.R.Super), .lit (.bool a.R.Trace), .imm p2 1 a.Bus.Bytes, .imm p3 5 a.Bus.Log, .lit (.bool a.Stop), .lit (.bool a.Halt)]),(.agg [li b.Vector,li b.PC,li b.Addr,li b.Word, .lit (.bool b.Write)]),(.one (li c))]
def cAH(a:aD)(b:aH)(c:Int)(p0:Bool)(p1:Bool)(p2:Bool)(p3:Bool):List Blk:=[]
def bR6(N:aD→aH→Int→SV×List Blk)(K:aD→aH→Int→Bool):List SV→List Blk→Option ((SV×List Blk)×Bool)
 |[(.agg [.imm p0 1 c0, .imm p1 1 c1,li c2,li c3,li c4,li c5, .lit (.bool c6), .lit (.bool c7), .imm p2 1 c8, .imm p3 5 c9, .lit (.bool c10), .lit (.bool c11)]),(.agg [li c12,li c13,li c14,li c15, .lit (.bool c16)]),(.one (li c17))],[]=>some (N (aD.mk (aE.mk c0 c1 c2 c3 c4 c5 c6 c7) (bC.mk c8 c9) c10 c11) (aH.mk c12 c13 c14 c15 c16) c17,K (aD.mk (aE.mk c0 c1 c2 c3 c4 c5 c6 c7) (bC.mk c8 c9) c10 c11) (aH.mk c12 c13 c14 c15 c16) c17)
 |_,_=>none
theorem bR7{N:aD→aH→Int→SV×List Blk}{K:aD→aH→Int→Bool}{f:Nat}(h: ∀(a:aD)(b:aH)(c:Int)(p0:Bool)(p1:Bool)(p2:Bool)(p3:Bool),K a b c=true→cY R f (cAG a b c p0 p1 p2 p3) (cAH a b c p0 p1 p2 p3)=some (N a b c)):cD f (bR6 N K):=fun _ _ _ e=>by
 unfold bR6 at e;split at e
 ·exact vO e (h _ _ _ _ _ _ _)
 ·cases e
structure V261_0 where
 mk::
 (b0:aH)
 (b1:aD)
 (b2:aO)
 (s38:List Row)
 (s39:Int)
 (s40:Int)
section
variable(v:V261_0)
def BL:aO:=(bJD (bF v.s38 (0+(iN v.s40)) 0) v.b2)
end
def D1(v:V261_0):Pt (Option V261_0):=(ot (.br (ltI v.s40 v.s39) (.ok (((leI 0 v.s40)&&(ltI v.s40 (bN v.s38)))&&((dO [.int .i64] v.s38 (0+(iN v.s40)) 0)&&true)) (.ok ((bU v.b2 (uL v.b2))&&true) (.br (tO v.b2) (.ok ((bU v.b2 (bJE (bF v.s38 (0+(iN v.s40)) 0) v.b2))&&true) (ot (.ok (((aI v.b1 true)&&((bL (BL v) true)&&(aI v.b1 (bL (BL v) ((e1 (ln v.s38))&&true)))))&&((e1 (ln v.s38))&&true)) (.leaf (some {v with b2:=(BL v),s40:=(aV v.s40 1)}))))) (ot (.ok (((aI v.b1 true)&&((bL v.b2 true)&&(aI v.b1 (bL v.b2 ((e1 (ln v.s38))&&true)))))&&((e1 (ln v.s38))&&true)) (.leaf (some {v with s40:=(aV v.s40 1)}))))))) (.leaf none)))
def UU(v:V261_0):St:=⟨[(4,(.one (.ptr 0 0 0))),(6,(.one (.ptr 1 0 0))),(7,(.one (.ptr 2 0 0))),(38,(.one (.sl 11 0 (ln v.s38)))),(39,(.one (li v.s39))),(40,(.one (li v.s40)))],[.box [li v.b0.Vector,li v.b0.PC,li v.b0.Addr,li v.b0.Word, .lit (.bool v.b0.Write)], .box [.sl 3 0 (ln v.b1.R.D), .sl 4 0 (ln v.b1.R.A),li v.b1.R.Other,li v.b1.R.PC,li v.b1.R.Flags,li v.b1.R.Mask, .lit (.bool v.b1.R.Super), .lit (.bool v.b1.R.Trace), .sl 5 0 (ln v.b1.Bus.Bytes), .sl 6 0 (ln v.b1.Bus.Log), .lit (.bool v.b1.Stop), .lit (.bool v.b1.Halt)], .box [.sl 7 0 (ln v.b2.fr.D), .sl 8 0 (ln v.b2.fr.A),li v.b2.fr.Other,li v.b2.fr.PC,li v.b2.fr.Flags,li v.b2.fr.Mask, .lit (.bool v.b2.fr.Super), .lit (.bool v.b2.fr.Trace), .sl 9 0 (ln v.b2.fbus.Bytes), .sl 10 0 (ln v.b2.fbus.Log), .lit (.bool v.b2.fstop),li v.b2.ffault.Vector,li v.b2.ffault.PC,li v.b2.ffault.Addr,li v.b2.ffault.Word, .lit (.bool v.b2.ffault.Write)], .lst 1 v.b1.R.D, .lst 1 v.b1.R.A, .lst 1 v.b1.Bus.Bytes, .lst 5 v.b1.Bus.Log, .lst 1 v.b2.fr.D, .lst 1 v.b2.fr.A, .lst 1 v.b2.fbus.Bytes, .lst 5 v.b2.fbus.Log, .lst 1 v.s38]⟩
def aDU:St→Option (V261_0×Bool)
 |⟨[(4,(.one (.ptr 0 0 0))),(6,(.one (.ptr 1 0 0))),(7,(.one (.ptr 2 0 0))),(38,(.one (.sl 11 0 l11))),(39,(.one (li c25))),(40,(.one (li c26)))],[.box [li c0,li c1,li c2,li c3, .lit (.bool c4)], .box [.sl 3 0 l3, .sl 4 0 l4,li c5,li c6,li c7,li c8, .lit (.bool c9), .lit (.bool c10), .sl 5 0 l5, .sl 6 0 l6, .lit (.bool c11), .lit (.bool c12)], .box [.sl 7 0 l7, .sl 8 0 l8,li c13,li c14,li c15,li c16, .lit (.bool c17), .lit (.bool c18), .sl 9 0 l9, .sl 10 0 l10, .lit (.bool c19),li c20,li c21,li c22,li c23, .lit (.bool c24)], .lst 1 c_3, .lst 1 c_4, .lst 1 c_5, .lst 5 c_6, .lst 1 c_7, .lst 1 c_8, .lst 1 c_9, .lst 5 c_10, .lst 1 c_11]⟩=>some ((V261_0.mk (aH.mk c0 c1 c2 c3 c4) (aD.mk (aE.mk c_3 c_4 c5 c6 c7 c8 c9 c10) (bC.mk c_5 c_6) c11 c12) (aO.mk (aE.mk c_7 c_8 c13 c14 c15 c16 c17 c18) (bC.mk c_9 c_10) c19 (aH.mk c20 c21 c22 c23 c24)) c_11 c25 c26),cV l3 (ln c_3)&&(cV l4 (ln c_4)&&(cV l5 (ln c_5)&&(cV l6 (ln c_6)&&(cV l7 (ln c_7)&&(cV l8 (ln c_8)&&(cV l9 (ln c_9)&&(cV l10 (ln c_10)&&(cV l11 (ln c_11)&&(true))))))))))
 |_=>none
def aDV:St→Option (Pt Out):=vH Q302 ([]++CD 261) [] true [] 0 9223372036854775808 aJ1
theorem bJG(v:V261_0):((aDV (UU v)).bind (pG true false 0 [4,6,7,38,39,40]))=some ((D1 v).map (Option.map UU)):=by kernel_rfl
theorem bJH(σ:St)(v:V261_0)(h:aDU σ=some (v,true)):σ=UU v:=by
 unfold aDU at h;split at h
 ·obtain⟨hr,hk⟩:=qp (qi h);obtain⟨d0,hk0⟩:=aS hk;obtain⟨d1,hk1⟩:=aS hk0;obtain⟨d2,hk2⟩:=aS hk1;obtain⟨d3,hk3⟩:=aS hk2;obtain⟨d4,hk4⟩:=aS hk3;obtain⟨d5,hk5⟩:=aS hk4;obtain⟨d6,hk6⟩:=aS hk5;obtain⟨d7,hk7⟩:=aS hk6;obtain⟨d8,hk8⟩:=aS hk7;obtain rfl:=of_decide_eq_true d0;obtain rfl:=of_decide_eq_true d1;obtain rfl:=of_decide_eq_true d2;obtain rfl:=of_decide_eq_true d3;obtain rfl:=of_decide_eq_true d4;obtain rfl:=of_decide_eq_true d5;obtain rfl:=of_decide_eq_true d6;obtain rfl:=of_decide_eq_true d7;obtain rfl:=of_decide_eq_true d8;rw[←hr];rfl
 ·simp at h
theorem bJI:cK (qU true false 0 [4,6,7,38,39,40] aDV aDU UU D1 9223372036854775808) (eY R 0 9223372036854775808 (.loop [4,6,7,38,39,40] aJ1)):=dD (cL aDS (bT (l:=[]) (by kernel_rfl) trivial)) bJH bJG
def bJJ:Lp:=(41,qU true false 0 [4,6,7,38,39,40] aDV aDU UU D1 9223372036854775808)::[]
def a9C(v:V261_0):V261_0:=(hid (dB D1 9223372036854775808 v)).getD v
def a9D(v:V261_0):Bool:=(hid (dB D1 9223372036854775808 v)).isSome
section
variable(a:aD)(b:aH)(c:Int)
def aNY:Int:=(eT (eT (d9 a).fr.Flags (cX 32 c)) 256)
def UV:aE:=(aG3 (d9 a).fr (aNY a c))
def aNZ:Bool:=((e1 (ln (aDI (d9 a).fr b)))&&true)
def aN0:Bool:=(aK (UV a c) (bI (d9 a).fbus (aNZ a b)))
def uM:V261_0:=(a9C (V261_0.mk b (aD.mk (aE.mk [] [] 0 0 0 0 false false) (bC.mk [] []) false false) {(d9 a)with fr:=(UV a c)} (aDI (d9 a).fr b) (bN (aDI (d9 a).fr b)) 0))
def uN:aO×Int:=(wR 1 2 (cX 2 (uM a b c).b0.Vector) 0 (uM a b c).b2)
def IZ:aO:={(uN a b c).1 with fr:={(uN a b c).1.fr with PC:=(uN a b c).2},fstop:=false}
def I0:aO:={(uN a b c).1 with fstop:=false}
def I1:aO:={(uM a b c).b2 with fstop:=false}
end
def a9E(a:aD)(b:aH)(c:Int):Pt (aD):=(ot (.ok ((a8X a)&&true) (.ok (((((aK (d9 a).fr true)&&true)&&(bR0 (d9 a).fr b))&&true)&&true) (.ok (((((aK (d9 a).fr true)&&((aK (d9 a).fr true)&&true))&&(aK (d9 a).fr (aZZ (d9 a).fr (aNY a c))))&&true)&&true) (.ok ((lJ (0+(ln (aDI (d9 a).fr b))) (ln (aDI (d9 a).fr b)))&&true) (.ok (((aK (UV a c) (bI (d9 a).fbus true))&&(aN0 a b c))&&(aNZ a b)) (.ok (aN0 a b c) (.ok (a9D (V261_0.mk b (aD.mk (aE.mk [] [] 0 0 0 0 false false) (bC.mk [] []) false false) {(d9 a)with fr:=(UV a c)} (aDI (d9 a).fr b) (bN (aDI (d9 a).fr b)) 0)) (.ok ((bU (uM a b c).b2 (uL (uM a b c).b2))&&true) (.br (tO (uM a b c).b2) (.ok ((bU (uM a b c).b2 (aDQ 1 2 (cX 2 (uM a b c).b0.Vector) 0 (uM a b c).b2))&&true) (.ok ((bU (uN a b c).1 (uL (uN a b c).1))&&true) (.br (tO (uN a b c).1) (ot (ot (.ok ((bU (uN a b c).1 (CI (IZ a b c)))&&true) (.ok ((bU (uN a b c).1 (uL (IZ a b c)))&&true) (ot (.ok ((aI (qT (IZ a b c)) true)&&((aI (qT (IZ a b c)) true)&&true)) (.leaf {(qT (IZ a b c))with Halt:=(!(tO (IZ a b c)))}))))))) (ot (.ok ((bU (uN a b c).1 (CI (I0 a b c)))&&true) (.ok ((bU (uN a b c).1 (uL (I0 a b c)))&&true) (ot (.ok ((aI (qT (I0 a b c)) true)&&((aI (qT (I0 a b c)) true)&&true)) (.leaf {(qT (I0 a b c))with Halt:=(!(tO (I0 a b c)))}))))))))) (ot (.ok ((bU (uM a b c).b2 (CI (I1 a b c)))&&true) (.ok ((bU (uM a b c).b2 (uL (I1 a b c)))&&true) (ot (.ok ((aI (qT (I1 a b c)) true)&&((aI (qT (I1 a b c)) true)&&true)) (.leaf {(qT (I1 a b c))with Halt:=(!(tO (I1 a b c)))}))))))))))))))))
def WV(a:aD)(b:aH)(c:Int):aD:=hid (a9E a b c).val
def WW(a:aD)(b:aH)(c:Int):Bool:=hid (a9E a b c).okv
def bZH(a:aD)(b:aH)(c:Int)(r:aD):SV×List Blk:=((.agg [.sl 0 0 (ln r.R.D), .sl 1 0 (ln r.R.A),li r.R.Other,li r.R.PC,li r.R.Flags,li r.R.Mask, .lit (.bool r.R.Super), .lit (.bool r.R.Trace), .sl 2 0 (ln r.Bus.Bytes), .sl 3 0 (ln r.Bus.Log), .lit (.bool r.Stop), .lit (.bool r.Halt)]),[.lst 1 r.R.D, .lst 1 r.R.A, .lst 1 r.Bus.Bytes, .lst 5 r.Bus.Log])
def q261:=bR6 (fun a b c=>bZH a b c (WV a b c)) WW
theorem bZI:eS (fun live x=>cK (lH bJJ (kH x)) (eY R 0 9223372036854775808 (.loop live x))) (nK 261).body:=(bT (l:=[([4,6,7,38,39,40],aJ1)]) (by kernel_rfl) ⟨eP (n:=41) (by kernel_rfl) fun σ σr t h ho hl=>bJI σ σr t h ho hl,trivial⟩)
theorem cAI:cD 261 q261:=bR7 fun a b c p0 p1 p2 p3 hk=>tcl aUR bZI [] [] true (a9E a b c) (bZH a b c) hk
def Q261:=aX 261 q261 Q187
theorem aUS:QO Q261:=aB cAI aUR
def cAJ(a:bA)(b:Int)(p0:Bool)(p1:Bool)(p2:Bool)(p3:Bool):List SV:=[(.agg [.imm p0 1 a.Cpu.R.D, .imm p1 1 a.Cpu.R.A,li a.Cpu.R.Other,li a.Cpu.R.PC,li a.Cpu.R.Flags,li a.Cpu.R.Mask, .lit (.bool a.Cpu.R.Super), .lit (.bool a.Cpu.R.Trace), .imm p2 1 a.Cpu.Bus.Bytes, .imm p3 5 a.Cpu.Bus.Log, .lit (.bool a.Cpu.Stop), .lit (.bool a.Cpu.Halt),li a.Line, .lit (.bool a.Edge)]),(.one (li b))]
def cAK(a:bA)(b:Int)(p0:Bool)(p1:Bool)(p2:Bool)(p3:Bool):List Blk:=[]
def bR8(N:bA→Int→SV×List Blk)(K:bA→Int→Bool):List SV→List Blk→Option ((SV×List Blk)×Bool)
 |[(.agg [.imm p0 1 c0, .imm p1 1 c1,li c2,li c3,li c4,li c5, .lit (.bool c6), .lit (.bool c7), .imm p2 1 c8, .imm p3 5 c9, .lit (.bool c10), .lit (.bool c11),li c12, .lit (.bool c13)]),(.one (li c14))],[]=>some (N (bA.mk (aD.mk (aE.mk c0 c1 c2 c3 c4 c5 c6 c7) (bC.mk c8 c9) c10 c11) c12 c13) c14,K (bA.mk (aD.mk (aE.mk c0 c1 c2 c3 c4 c5 c6 c7) (bC.mk c8 c9) c10 c11) c12 c13) c14)
 |_,_=>none
theorem bR9{N:bA→Int→SV×List Blk}{K:bA→Int→Bool}{f:Nat}(h: ∀(a:bA)(b:Int)(p0:Bool)(p1:Bool)(p2:Bool)(p3:Bool),K a b=true→cY R f (cAJ a b p0 p1 p2 p3) (cAK a b p0 p1 p2 p3)=some (N a b)):cD f (bR8 N K):=fun _ _ _ e=>by
 unfold bR8 at e;split at e
 ·exact vO e (h _ _ _ _ _ _)
 ·cases e
section
variable(a:bA)(b:Int)
def UW:aD:=(WV a.Cpu (aH.mk (aV 10 b) a.Cpu.R.PC 0 0 false) b)
def aN1:Bool:=((aI (UW a b) true)&&((aI (UW a b) true)&&true))
end
def a9F(a:bA)(b:Int):Pt (bA):=(ot (.ok ((WW a.Cpu (aH.mk (aV 10 b) a.Cpu.R.PC 0 0 false) b)&&true) (ot (.br (eqI b 7) (ot (ot (.ok (aN1 a b) (.leaf (bA.mk (UW a b) a.Line false))))) (ot (.ok (aN1 a b) (.leaf {a with Cpu:=(UW a b)})))))))
def a9G(a:bA)(b:Int):bA:=hid (a9F a b).val
def bSA(a:bA)(b:Int):Bool:=hid (a9F a b).okv
def bJK(a:bA)(b:Int)(r:bA):SV×List Blk:=((.agg [.sl 0 0 (ln r.Cpu.R.D), .sl 1 0 (ln r.Cpu.R.A),li r.Cpu.R.Other,li r.Cpu.R.PC,li r.Cpu.R.Flags,li r.Cpu.R.Mask, .lit (.bool r.Cpu.R.Super), .lit (.bool r.Cpu.R.Trace), .sl 2 0 (ln r.Cpu.Bus.Bytes), .sl 3 0 (ln r.Cpu.Bus.Log), .lit (.bool r.Cpu.Stop), .lit (.bool r.Cpu.Halt),li r.Line, .lit (.bool r.Edge)]),[.lst 1 r.Cpu.R.D, .lst 1 r.Cpu.R.A, .lst 1 r.Cpu.Bus.Bytes, .lst 5 r.Cpu.Bus.Log])
def q195:=bR8 (fun a b=>bJK a b (a9G a b)) bSA
theorem cAL:cD 195 q195:=bR9 fun a b p0 p1 p2 p3 hk=>tc aUS (a9F a b) (bJK a b) hk
def Q195:=aX 195 q195 Q261
theorem aUT:QO Q195:=aB cAL aUS
def a9H(a:Int):Pt (Int):=(ot (.ok ((aKB (aZ (eW a 5) 7))&&true) (.br (aKA (aZ (eW a 5) 7)) (ot (ot (ot (.leaf 2)))) (ot (ot (ot (.leaf 1)))))))
def aZ2(a:Int):Int:=hid (a9H a).val
def bJL(a:Int):Bool:=hid (a9H a).okv
def q322:=B8 (fun a=>xJ a (aZ2 a)) bJL
theorem cAM:cD 100322 q322:=gQ fun a hk=>tz aUT (a9H a) (xJ a) hk
def Q322:=aX 100322 q322 Q195
theorem aUU:QO Q322:=aB cAM aUT
def a9I(a:Int)(b:Int):Pt (aN):=(ot (ot (ot (.ok ((bJL a)&&true) (.br (eqI (aZ2 a) 2) (ot (ot (ot (ot (.leaf (aN.mk (eW a 11) (aV (aZ (eW a 10) 1) 1) (aZ (eW a 8) 3) (aC.mk (aZ (eW a 5) 7) (aZ (eW a 3) 3) b) (aZ a 7))))))) (ot (ot (ot (.leaf (aN.mk (eW a 11) (aV (aZ (eW a 10) 1) 1) (aZ (eW a 8) 3) (aC.mk (aZ (eW a 5) 7) (aZ (eW a 3) 3) 0) (aZ a 7)))))))))))
def aZ3(a:Int)(b:Int):aN:=hid (a9I a b).val
def bJM(a:Int)(b:Int):Bool:=hid (a9I a b).okv
def q323:=KV (fun a b=>bHL a b (aZ3 a b)) bJM
theorem cAN:cD 100323 q323:=tX fun a b hk=>tz aUU (a9I a b) (bHL a b) hk
def Q323:=aX 100323 q323 Q322
theorem aUV:QO Q323:=aB cAN aUU
section
variable(a:aO)
def iD:aO×Int:=(wR 3 2 a.fr.PC 0 {a with ffault:={a.ffault with PC:=a.fr.PC}})
def aDW:Bool:=(((bL (iD a).1 true)&&(bL (iD a).1 true))&&true)
def aDX:aO:={(iD a).1 with ffault:={(iD a).1.ffault with Word:=(iD a).2}}
def uO:aO×Int:=(wR 3 2 (aZ (aV a.fr.PC 2) 65535) 0 (aDX a))
def aDY:Bool:=(((bL (uO a).1 true)&&(bL (uO a).1 true))&&true)
def aDZ:aN:=(aZ3 (iD a).2 (uO a).2)
end
def a9J(a:aO):Pt (aO×aN×Int):=(ot (ot (ot (.ok ((bU a (aDQ 3 2 a.fr.PC 0 {a with ffault:={a.ffault with PC:=a.fr.PC}}))&&true) (.ok ((bU (iD a).1 (uL (iD a).1))&&true) (.br (!(tO (iD a).1)) (ot (.ok (aDW a) (.leaf ((iD a).1,(aN.mk 0 0 0 (aC.mk 0 0 0) 0),0)))) (ot (ot (.ok ((bJL (iD a).2)&&true) (ot (.br (eqI (aZ2 (iD a).2) 2) (.ok ((bU (iD a).1 (aDQ 3 2 (aZ (aV a.fr.PC 2) 65535) 0 (aDX a)))&&true) (.ok ((bU (uO a).1 (uL (uO a).1))&&true) (.br (!(tO (uO a).1)) (ot (.ok (aDY a) (.leaf ((uO a).1,(aN.mk 0 0 0 (aC.mk 0 0 0) 0),0)))) (.ok ((bJM (iD a).2 (uO a).2)&&true) (.ok ((OX (aDZ a))&&true) (.br (!(OW (aDZ a))) (ot (ot (.ok (aDY a) (.leaf ({(uO a).1 with ffault:={(uO a).1.ffault with Vector:=4}},(aN.mk 0 0 0 (aC.mk 0 0 0) 0),0))))) (ot (.ok (aDY a) (.leaf ((uO a).1,(aDZ a),(aZ2 (iD a).2))))))))))) (.ok ((bJM (iD a).2 0)&&true) (.ok ((OX (aZ3 (iD a).2 0))&&true) (.br (!(OW (aZ3 (iD a).2 0))) (ot (ot (.ok (aDW a) (.leaf ({(iD a).1 with ffault:={(iD a).1.ffault with Vector:=4,Word:=(iD a).2}},(aN.mk 0 0 0 (aC.mk 0 0 0) 0),0))))) (ot (.ok (aDW a) (.leaf ((aDX a),(aZ3 (iD a).2 0),(aZ2 (iD a).2)))))))))))))))))))
def gI(a:aO):aO×aN×Int:=hid (a9J a).val
def bSB(a:aO):Bool:=hid (a9J a).okv
def bZJ(a:aO)(r:aO×aN×Int):SV×List Blk:=((.tup [(.agg [li r.2.1.Op,li r.2.1.Size,li r.2.1.Reg,li r.2.1.Ea.Mode,li r.2.1.Ea.Reg,li r.2.1.Ea.Ext,li r.2.1.Sub]),(.one (li r.2.2))]),[.box [.sl 1 0 (ln r.1.fr.D), .sl 2 0 (ln r.1.fr.A),li r.1.fr.Other,li r.1.fr.PC,li r.1.fr.Flags,li r.1.fr.Mask, .lit (.bool r.1.fr.Super), .lit (.bool r.1.fr.Trace), .sl 3 0 (ln r.1.fbus.Bytes), .sl 4 0 (ln r.1.fbus.Log), .lit (.bool r.1.fstop),li r.1.ffault.Vector,li r.1.ffault.PC,li r.1.ffault.Addr,li r.1.ffault.Word, .lit (.bool r.1.ffault.Write)], .lst 1 r.1.fr.D, .lst 1 r.1.fr.A, .lst 1 r.1.fbus.Bytes, .lst 5 r.1.fbus.Log])
def q314:=aZ0 (fun a=>bZJ a (gI a)) bSB
theorem cAO:cD 314 q314:=aDJ fun a hk=>tc aUV (a9J a) (bZJ a) hk
def Q314:=aX 314 q314 Q323
theorem aUW:QO Q314:=aB cAO aUV
def a9K(a:aN):Pt (Bool):=(ot (ot (ot (ot (.leaf (bif (bif (eqI a.Op 15)then(bif (eqI a.Sub 1)then true else(eqI a.Sub 3))else false)then true else(bif (eqI a.Op 19)then(eqI a.Sub 0)else false)))))))
def bSC(a:aN):Bool:=hid (a9K a).val
def bSD(a:aN):Bool:=hid (a9K a).okv
def q184:=DS7 (fun a=>n91 a (bSC a)) bSD
theorem cAP:cD 100184 q184:=OV fun a hk=>tz aUW (a9K a) (n91 a) hk
def Q184:=aX 100184 q184 Q314
theorem aUX:QO Q184:=aB cAP aUW
def cAQ(a:aE)(b:Int)(c:Int)(p0:Bool)(p1:Bool):List SV:=[(.agg [.imm p0 1 a.D, .imm p1 1 a.A,li a.Other,li a.PC,li a.Flags,li a.Mask, .lit (.bool a.Super), .lit (.bool a.Trace)]),(.one (li b)),(.one (li c))]
def cAR(a:aE)(b:Int)(c:Int)(p0:Bool)(p1:Bool):List Blk:=[]
def bSE(N:aE→Int→Int→SV×List Blk)(K:aE→Int→Int→Bool):List SV→List Blk→Option ((SV×List Blk)×Bool)
 |[(.agg [.imm p0 1 c0, .imm p1 1 c1,li c2,li c3,li c4,li c5, .lit (.bool c6), .lit (.bool c7)]),(.one (li c8)),(.one (li c9))],[]=>some (N (aE.mk c0 c1 c2 c3 c4 c5 c6 c7) c8 c9,K (aE.mk c0 c1 c2 c3 c4 c5 c6 c7) c8 c9)
 |_,_=>none
theorem bSF{N:aE→Int→Int→SV×List Blk}{K:aE→Int→Int→Bool}{f:Nat}(h: ∀(a:aE)(b:Int)(c:Int)(p0:Bool)(p1:Bool),K a b c=true→cY R f (cAQ a b c p0 p1) (cAR a b c p0 p1)=some (N a b c)):cD f (bSE N K):=fun _ _ _ e=>by
 unfold bSE at e;split at e
 ·exact vO e (h _ _ _ _ _)
 ·cases e
def a9L(a:aE)(b:Int)(c:Int):Pt (Int):=(ot (.ok ((fU [.int .i64] a.D c)&&((K3 b)&&true)) (ot (ot (.leaf (aZ (bF a.D (iN c) 0) (cF (xK b) 1)))))))
def a9M(a:aE)(b:Int)(c:Int):Int:=hid (a9L a b c).val
def a9N(a:aE)(b:Int)(c:Int):Bool:=hid (a9L a b c).okv
def bZK(a:aE)(b:Int)(c:Int)(r:Int):SV×List Blk:=((.one (li r)),[])
def q248:=bSE (fun a b c=>bZK a b c (a9M a b c)) a9N
theorem cAS:cD 100248 q248:=bSF fun a b c p0 p1 hk=>tz aUX (a9L a b c) (bZK a b c) hk
def Q248:=aX 100248 q248 Q184
theorem aUY:QO Q248:=aB cAS aUX
def a9O(a:Int)(b:Int):Pt (Int):=(ot (ot (.br (bif (eqI a 1)then(cU b 3)else false) (ot (ot (ot (.leaf 1)))) (ot (ot (ot (.leaf 2)))))))
def bJN(a:Int)(b:Int):Int:=hid (a9O a b).val
def bJO(a:Int)(b:Int):Bool:=hid (a9O a b).okv
def q340:=KV (fun a b=>WR a b (bJN a b)) bJO
theorem cAT:cD 100340 q340:=tX fun a b hk=>tz aUY (a9O a b) (WR a b) hk
def Q340:=aX 100340 q340 Q248
theorem aUZ:QO Q340:=aB cAT aUY
def cAU(a:aE)(b:Int)(c:aC):List SV:=[(.agg [.sl 0 0 (ln a.D), .sl 1 0 (ln a.A),li a.Other,li a.PC,li a.Flags,li a.Mask, .lit (.bool a.Super), .lit (.bool a.Trace)]),(.one (li b)),(.agg [li c.Mode,li c.Reg,li c.Ext])]
def cAV(a:aE)(b:Int)(c:aC):List Blk:=[.lst 1 a.D, .lst 1 a.A]
def bSG(N:aE→Int→aC→SV×List Blk)(K:aE→Int→aC→Bool):List SV→List Blk→Option ((SV×List Blk)×Bool)
 |[(.agg [.sl 0 0 l0, .sl 1 0 l1,li c0,li c1,li c2,li c3, .lit (.bool c4), .lit (.bool c5)]),(.one (li c6)),(.agg [li c7,li c8,li c9])],[.lst 1 c_0, .lst 1 c_1]=>some (N (aE.mk c_0 c_1 c0 c1 c2 c3 c4 c5) c6 (aC.mk c7 c8 c9),cV l0 (ln c_0)&&(cV l1 (ln c_1)&&(K (aE.mk c_0 c_1 c0 c1 c2 c3 c4 c5) c6 (aC.mk c7 c8 c9))))
 |_,_=>none
theorem bSH{N:aE→Int→aC→SV×List Blk}{K:aE→Int→aC→Bool}{f:Nat}(h: ∀(a:aE)(b:Int)(c:aC),K a b c=true→cY R f (cAU a b c) (cAV a b c)=some (N a b c)):cD f (bSG N K):=fun args hp r e=>by
 unfold bSG at e;split at e
 ·rename_i l0 l1 c0 c1 c2 c3 c4 c5 c6 c7 c8 c9 c_0 c_1;obtain⟨hr,hk⟩:=qp (qi e);obtain⟨d0,hk0⟩:=aS hk;obtain⟨d1,hk1⟩:=aS hk0;obtain rfl:=of_decide_eq_true d0;obtain rfl:=of_decide_eq_true d1;rw[←hr];exact h (aE.mk c_0 c_1 c0 c1 c2 c3 c4 c5) c6 (aC.mk c7 c8 c9) hk1
 ·simp at e
section
variable(a:aE)(b:Int)(c:aC)
def aN2:Bool:=((leI 0 c.Reg)&&(ltI c.Reg (bN a.A)))
def aN3:Bool:=((aN2 a c)&&(((blt (0+(iN c.Reg)) (ln a.A))&&(jW (jX a.A (0+(iN c.Reg))) 1))&&true))
def aN4:List Row:=(List.set a.A (0+(iN c.Reg)) (aL (aZ (aV (bF a.A (0+(iN c.Reg)) 0) (bJN b c.Reg)) 65535)))
def aN5:Bool:=((e1 (ln a.D))&&((cV (ln a.A) (ln (aN4 a b c)))&&true))
def aN6:Int:=(aZ (cF (bF a.A (0+(iN c.Reg)) 0) (bJN b c.Reg)) 65535)
def aN7:List Row:=(List.set a.A (0+(iN c.Reg)) (aL (aN6 a b c)))
def aN8:Bool:=((e1 (ln a.D))&&((cV (ln a.A) (ln (aN7 a b c)))&&true))
end
def a9P(a:aE)(b:Int)(c:aC):Pt (aE×Int):=(ot (.ok ((aN2 a c)&&((dO [.int .i64] a.A (0+(iN c.Reg)) 0)&&true)) (ot (ot (.br (eqI c.Mode 3) (.ok (((bJO b c.Reg)&&(aN3 a c))&&true) (ot (.ok (((aN5 a b c)&&((aK a true)&&true))&&(((aN5 a b c)&&true)&&true)) (.leaf ({a with A:=(aN4 a b c)},(bF a.A (0+(iN c.Reg)) 0)))))) (ot (.br (eqI c.Mode 4) (.ok ((bJO b c.Reg)&&true) (.ok (aN3 a c) (ot (.ok (((aN8 a b c)&&((aK a true)&&true))&&(((aN8 a b c)&&true)&&true)) (.leaf ({a with A:=(aN7 a b c)},(aN6 a b c))))))) (ot (ot (ot (.ok (((aK a true)&&((aK a true)&&true))&&(((aK a true)&&true)&&true)) (.leaf (a,(bif (eqI c.Mode 5)then(aZ (aV (bF a.A (0+(iN c.Reg)) 0) c.Ext) 65535)else(bif (eqI c.Mode 6)then c.Ext else(bF a.A (0+(iN c.Reg)) 0))))))))))))))))
def CJ(a:aE)(b:Int)(c:aC):aE×Int:=hid (a9P a b c).val
def bJP(a:aE)(b:Int)(c:aC):Bool:=hid (a9P a b c).okv
def bZL(a:aE)(b:Int)(c:aC)(r:aE×Int):SV×List Blk:=((.tup [(.agg [.sl 0 0 (ln r.1.D), .sl 1 0 (ln r.1.A),li r.1.Other,li r.1.PC,li r.1.Flags,li r.1.Mask, .lit (.bool r.1.Super), .lit (.bool r.1.Trace)]),(.one (li r.2))]),[.lst 1 r.1.D, .lst 1 r.1.A])
def q295:=bSG (fun a b c=>bZL a b c (CJ a b c)) bJP
theorem cAW:cD 295 q295:=bSH fun a b c hk=>tcx aUZ [(1000001,[])] [] true (a9P a b c) (bZL a b c) hk
def Q295:=aX 295 q295 Q340
theorem aU0:QO Q295:=aB cAW aUZ
def cAX(b:Int)(c:aC)(a:aO):List SV:=[(.one (.ptr 0 0 0)),(.one (li b)),(.agg [li c.Mode,li c.Reg,li c.Ext])]
def cAY(b:Int)(c:aC)(a:aO):List Blk:=[.box [.sl 1 0 (ln a.fr.D), .sl 2 0 (ln a.fr.A),li a.fr.Other,li a.fr.PC,li a.fr.Flags,li a.fr.Mask, .lit (.bool a.fr.Super), .lit (.bool a.fr.Trace), .sl 3 0 (ln a.fbus.Bytes), .sl 4 0 (ln a.fbus.Log), .lit (.bool a.fstop),li a.ffault.Vector,li a.ffault.PC,li a.ffault.Addr,li a.ffault.Word, .lit (.bool a.ffault.Write)], .lst 1 a.fr.D, .lst 1 a.fr.A, .lst 1 a.fbus.Bytes, .lst 5 a.fbus.Log]
def bJQ(N:Int→aC→aO→SV×List Blk)(K:Int→aC→aO→Bool):List SV→List Blk→Option ((SV×List Blk)×Bool)
 |[(.one (.ptr 0 0 0)),(.one (li c0)),(.agg [li c1,li c2,li c3])],[.box [.sl 1 0 l1, .sl 2 0 l2,li c4,li c5,li c6,li c7, .lit (.bool c8), .lit (.bool c9), .sl 3 0 l3, .sl 4 0 l4, .lit (.bool c10),li c11,li c12,li c13,li c14, .lit (.bool c15)], .lst 1 c_1, .lst 1 c_2, .lst 1 c_3, .lst 5 c_4]=>some (N c0 (aC.mk c1 c2 c3) (aO.mk (aE.mk c_1 c_2 c4 c5 c6 c7 c8 c9) (bC.mk c_3 c_4) c10 (aH.mk c11 c12 c13 c14 c15)),cV l1 (ln c_1)&&(cV l2 (ln c_2)&&(cV l3 (ln c_3)&&(cV l4 (ln c_4)&&(K c0 (aC.mk c1 c2 c3) (aO.mk (aE.mk c_1 c_2 c4 c5 c6 c7 c8 c9) (bC.mk c_3 c_4) c10 (aH.mk c11 c12 c13 c14 c15)))))))
 |_,_=>none
theorem a9Q{N:Int→aC→aO→SV×List Blk}{K:Int→aC→aO→Bool}{f:Nat}(h: ∀(b:Int)(c:aC)(a:aO),K b c a=true→cY R f (cAX b c a) (cAY b c a)=some (N b c a)):cD f (bJQ N K):=fun args hp r e=>by
 unfold bJQ at e;split at e
 ·rename_i c0 c1 c2 c3 l1 l2 c4 c5 c6 c7 c8 c9 l3 l4 c10 c11 c12 c13 c14 c15 c_1 c_2 c_3 c_4;obtain⟨hr,hk⟩:=qp (qi e);obtain⟨d0,hk0⟩:=aS hk;obtain⟨d1,hk1⟩:=aS hk0;obtain⟨d2,hk2⟩:=aS hk1;obtain⟨d3,hk3⟩:=aS hk2;obtain rfl:=of_decide_eq_true d0;obtain rfl:=of_decide_eq_true d1;obtain rfl:=of_decide_eq_true d2;obtain rfl:=of_decide_eq_true d3;rw[←hr];exact h c0 (aC.mk c1 c2 c3) (aO.mk (aE.mk c_1 c_2 c4 c5 c6 c7 c8 c9) (bC.mk c_3 c_4) c10 (aH.mk c11 c12 c13 c14 c15)) hk3
 ·simp at e
section
variable(b:Int)(c:aC)(a:aO)
def aD0:Bool:=(((bL a true)&&(bL a true))&&true)
def D2:Bool:=(((((aK a.fr true)&&((aK a.fr true)&&true))&&(aK a.fr (bJP a.fr b c)))&&true)&&true)
def I2:Bool:=(((s1 b)&&((s1 (CJ a.fr b c).2)&&true))&&((KK a true)&&((sC c true)&&((iB (CJ a.fr b c).1 true)&&(dJ a.fbus (hY (CJ a.fr b c).1 true))))))
def UX:aO×Int:=(wR 1 b (CJ a.fr b c).2 0 {a with fr:=(CJ a.fr b c).1})
end
def a9R(b:Int)(c:aC)(a:aO):Pt (aO×Int×Int):=(ot (ot (ot (.br (eqI c.Mode 0) (.ok ((((aK a.fr true)&&true)&&(a9N a.fr b c.Reg))&&true) (.ok (aD0 a) (.leaf (a,(a9M a.fr b c.Reg),0)))) (ot (.br (eqI c.Mode 1) (.ok (((leI 0 c.Reg)&&(ltI c.Reg (bN a.fr.A)))&&((dO [.int .i64] a.fr.A (0+(iN c.Reg)) 0)&&true)) (.ok (aD0 a) (.leaf (a,(bF a.fr.A (0+(iN c.Reg)) 0),0)))) (ot (.br (eqI c.Mode 7) (ot (.ok (aD0 a) (.leaf (a,c.Ext,0)))) (.ok ((D2 b c a)&&(((D2 b c a)&&(((D2 b c a)&&(((D2 b c a)&&(((D2 b c a)&&(((D2 b c a)&&((D2 b c a)&&(I2 b c a)))&&(I2 b c a)))&&(I2 b c a)))&&(I2 b c a)))&&(I2 b c a)))&&(I2 b c a))) (ot (.ok ((dd (aK (CJ a.fr b c).1 (bI a.fbus true)) (aK (CJ a.fr b c).1 (bI a.fbus (aDQ 1 b (CJ a.fr b c).2 0 {a with fr:=(CJ a.fr b c).1}))))&&true) (.ok (((bL (UX b c a).1 true)&&(bL (UX b c a).1 true))&&true) (.leaf ((UX b c a).1,(UX b c a).2,(CJ a.fr b c).2))))))))))))))
def cJ(b:Int)(c:aC)(a:aO):aO×Int×Int:=hid (a9R b c a).val
def aZ4(b:Int)(c:aC)(a:aO):Bool:=hid (a9R b c a).okv
def bZM(b:Int)(c:aC)(a:aO)(r:aO×Int×Int):SV×List Blk:=((.tup [(.one (li r.2.1)),(.one (li r.2.2))]),[.box [.sl 1 0 (ln r.1.fr.D), .sl 2 0 (ln r.1.fr.A),li r.1.fr.Other,li r.1.fr.PC,li r.1.fr.Flags,li r.1.fr.Mask, .lit (.bool r.1.fr.Super), .lit (.bool r.1.fr.Trace), .sl 3 0 (ln r.1.fbus.Bytes), .sl 4 0 (ln r.1.fbus.Log), .lit (.bool r.1.fstop),li r.1.ffault.Vector,li r.1.ffault.PC,li r.1.ffault.Addr,li r.1.ffault.Word, .lit (.bool r.1.ffault.Write)], .lst 1 r.1.fr.D, .lst 1 r.1.fr.A, .lst 1 r.1.fbus.Bytes, .lst 5 r.1.fbus.Log])
def q246:=bJQ (fun b c a=>bZM b c a (cJ b c a)) aZ4
theorem cAZ:cD 246 q246:=a9Q fun b c a hk=>tc aU0 (a9R b c a) (bZM b c a) hk
def Q246:=aX 246 q246 Q295
theorem aU1:QO Q246:=aB cAZ aU0
section
variable(b:Int)(c:aC)(a:aO)
def D3:Bool:=(((((aK a.fr true)&&((aK a.fr true)&&true))&&(aK a.fr (bJP a.fr b c)))&&true)&&true)
def I3:Bool:=(((s1 (CJ a.fr b c).2)&&true)&&((KK a true)&&((sC c true)&&((iB (CJ a.fr b c).1 true)&&(dJ a.fbus (hY (CJ a.fr b c).1 true))))))
def aN9:Bool:=(aK (CJ a.fr b c).1 (bI a.fbus true))
end
def a9S(b:Int)(c:aC)(a:aO):Pt (aO×Int):=(ot (ot (.br (eqI c.Mode 0) (ot (.ok (((bL a true)&&(bL a true))&&true) (.leaf (a,0)))) (.ok ((D3 b c a)&&(((D3 b c a)&&(((D3 b c a)&&(((D3 b c a)&&(((D3 b c a)&&(((D3 b c a)&&((D3 b c a)&&(I3 b c a)))&&(I3 b c a)))&&(I3 b c a)))&&(I3 b c a)))&&(I3 b c a)))&&(I3 b c a))) (ot (ot (.ok (((aN9 b c a)&&(aN9 b c a))&&true) (.leaf ({a with fr:=(CJ a.fr b c).1},(CJ a.fr b c).2)))))))))
def iA(b:Int)(c:aC)(a:aO):aO×Int:=hid (a9S b c a).val
def aZ5(b:Int)(c:aC)(a:aO):Bool:=hid (a9S b c a).okv
def bZN(b:Int)(c:aC)(a:aO)(r:aO×Int):SV×List Blk:=((.one (li r.2)),[.box [.sl 1 0 (ln r.1.fr.D), .sl 2 0 (ln r.1.fr.A),li r.1.fr.Other,li r.1.fr.PC,li r.1.fr.Flags,li r.1.fr.Mask, .lit (.bool r.1.fr.Super), .lit (.bool r.1.fr.Trace), .sl 3 0 (ln r.1.fbus.Bytes), .sl 4 0 (ln r.1.fbus.Log), .lit (.bool r.1.fstop),li r.1.ffault.Vector,li r.1.ffault.PC,li r.1.ffault.Addr,li r.1.ffault.Word, .lit (.bool r.1.ffault.Write)], .lst 1 r.1.fr.D, .lst 1 r.1.fr.A, .lst 1 r.1.fbus.Bytes, .lst 5 r.1.fbus.Log])
def q247:=bJQ (fun b c a=>bZN b c a (iA b c a)) aZ5
theorem cA0:cD 247 q247:=a9Q fun b c a hk=>tc aU1 (a9S b c a) (bZN b c a) hk
def Q247:=aX 247 q247 Q246
theorem aU2:QO Q247:=aB cA0 aU1
def cA1(a:aE)(b:Int)(c:Int)(d:Int):List SV:=[(.agg [.sl 0 0 (ln a.D), .sl 1 0 (ln a.A),li a.Other,li a.PC,li a.Flags,li a.Mask, .lit (.bool a.Super), .lit (.bool a.Trace)]),(.one (li b)),(.one (li c)),(.one (li d))]
def cA2(a:aE)(b:Int)(c:Int)(d:Int):List Blk:=[.lst 1 a.D, .lst 1 a.A]
def bSI(N:aE→Int→Int→Int→SV×List Blk)(K:aE→Int→Int→Int→Bool):List SV→List Blk→Option ((SV×List Blk)×Bool)
 |[(.agg [.sl 0 0 l0, .sl 1 0 l1,li c0,li c1,li c2,li c3, .lit (.bool c4), .lit (.bool c5)]),(.one (li c6)),(.one (li c7)),(.one (li c8))],[.lst 1 c_0, .lst 1 c_1]=>some (N (aE.mk c_0 c_1 c0 c1 c2 c3 c4 c5) c6 c7 c8,cV l0 (ln c_0)&&(cV l1 (ln c_1)&&(K (aE.mk c_0 c_1 c0 c1 c2 c3 c4 c5) c6 c7 c8)))
 |_,_=>none
theorem bSJ{N:aE→Int→Int→Int→SV×List Blk}{K:aE→Int→Int→Int→Bool}{f:Nat}(h: ∀(a:aE)(b:Int)(c:Int)(d:Int),K a b c d=true→cY R f (cA1 a b c d) (cA2 a b c d)=some (N a b c d)):cD f (bSI N K):=fun args hp r e=>by
 unfold bSI at e;split at e
 ·rename_i l0 l1 c0 c1 c2 c3 c4 c5 c6 c7 c8 c_0 c_1;obtain⟨hr,hk⟩:=qp (qi e);obtain⟨d0,hk0⟩:=aS hk;obtain⟨d1,hk1⟩:=aS hk0;obtain rfl:=of_decide_eq_true d0;obtain rfl:=of_decide_eq_true d1;rw[←hr];exact h (aE.mk c_0 c_1 c0 c1 c2 c3 c4 c5) c6 c7 c8 hk1
 ·simp at e
section
variable(a:aE)(c:Int)(d:Int)
def aD1:Bool:=(((leI 0 c)&&(ltI c (bN a.D)))&&(((blt (0+(iN c)) (ln a.D))&&(jW (jX a.D (0+(iN c))) 1))&&true))
def aD2:List Row:=(List.set a.D (0+(iN c)) (aL (eT (aZ (bF a.D (0+(iN c)) 0) 65280) d)))
def aD3:Bool:=((cV (ln a.D) (ln (aD2 a c d)))&&((e1 (ln a.A))&&true))
def aD4:List Row:=(List.set a.D (0+(iN c)) (aL d))
def aD5:Bool:=((cV (ln a.D) (ln (aD4 a c d)))&&((e1 (ln a.A))&&true))
end
def a9T(a:aE)(b:Int)(c:Int)(d:Int):Pt (aE):=(ot (ot (.br (eqI b 1) (.ok ((((leI 0 c)&&(ltI c (bN a.D)))&&((dO [.int .i64] a.D (0+(iN c)) 0)&&(aD1 a c)))&&true) (ot (.ok (((aD3 a c d)&&((aK a true)&&true))&&((aD3 a c d)&&true)) (.leaf {a with D:=(aD2 a c d)})))) (.ok (aD1 a c) (ot (.ok (((aD5 a c d)&&((aK a true)&&true))&&((aD5 a c d)&&true)) (.leaf {a with D:=(aD4 a c d)})))))))
def K6(a:aE)(b:Int)(c:Int)(d:Int):aE:=hid (a9T a b c d).val
def K7(a:aE)(b:Int)(c:Int)(d:Int):Bool:=hid (a9T a b c d).okv
def bZO(a:aE)(b:Int)(c:Int)(d:Int)(r:aE):SV×List Blk:=((.agg [.sl 0 0 (ln r.D), .sl 1 0 (ln r.A),li r.Other,li r.PC,li r.Flags,li r.Mask, .lit (.bool r.Super), .lit (.bool r.Trace)]),[.lst 1 r.D, .lst 1 r.A])
def q253:=bSI (fun a b c d=>bZO a b c d (K6 a b c d)) K7
theorem cA3:cD 253 q253:=bSJ fun a b c d hk=>tcx aU2 [(1000001,[])] [] true (a9T a b c d) (bZO a b c d) hk
def Q253:=aX 253 q253 Q247
theorem aU3:QO Q253:=aB cA3 aU2
def cA4(b:Int)(c:aC)(d:Int)(o:Int)(a:aO):List SV:=[(.one (.ptr 0 0 0)),(.one (li b)),(.agg [li c.Mode,li c.Reg,li c.Ext]),(.one (li d)),(.one (li o))]
def cA5(b:Int)(c:aC)(d:Int)(o:Int)(a:aO):List Blk:=[.box [.sl 1 0 (ln a.fr.D), .sl 2 0 (ln a.fr.A),li a.fr.Other,li a.fr.PC,li a.fr.Flags,li a.fr.Mask, .lit (.bool a.fr.Super), .lit (.bool a.fr.Trace), .sl 3 0 (ln a.fbus.Bytes), .sl 4 0 (ln a.fbus.Log), .lit (.bool a.fstop),li a.ffault.Vector,li a.ffault.PC,li a.ffault.Addr,li a.ffault.Word, .lit (.bool a.ffault.Write)], .lst 1 a.fr.D, .lst 1 a.fr.A, .lst 1 a.fbus.Bytes, .lst 5 a.fbus.Log]
def bSK(N:Int→aC→Int→Int→aO→SV×List Blk)(K:Int→aC→Int→Int→aO→Bool):List SV→List Blk→Option ((SV×List Blk)×Bool)
 |[(.one (.ptr 0 0 0)),(.one (li c0)),(.agg [li c1,li c2,li c3]),(.one (li c4)),(.one (li c5))],[.box [.sl 1 0 l1, .sl 2 0 l2,li c6,li c7,li c8,li c9, .lit (.bool c10), .lit (.bool c11), .sl 3 0 l3, .sl 4 0 l4, .lit (.bool c12),li c13,li c14,li c15,li c16, .lit (.bool c17)], .lst 1 c_1, .lst 1 c_2, .lst 1 c_3, .lst 5 c_4]=>some (N c0 (aC.mk c1 c2 c3) c4 c5 (aO.mk (aE.mk c_1 c_2 c6 c7 c8 c9 c10 c11) (bC.mk c_3 c_4) c12 (aH.mk c13 c14 c15 c16 c17)),cV l1 (ln c_1)&&(cV l2 (ln c_2)&&(cV l3 (ln c_3)&&(cV l4 (ln c_4)&&(K c0 (aC.mk c1 c2 c3) c4 c5 (aO.mk (aE.mk c_1 c_2 c6 c7 c8 c9 c10 c11) (bC.mk c_3 c_4) c12 (aH.mk c13 c14 c15 c16 c17)))))))
 |_,_=>none
theorem bSL{N:Int→aC→Int→Int→aO→SV×List Blk}{K:Int→aC→Int→Int→aO→Bool}{f:Nat}(h: ∀(b:Int)(c:aC)(d:Int)(o:Int)(a:aO),K b c d o a=true→cY R f (cA4 b c d o a) (cA5 b c d o a)=some (N b c d o a)):cD f (bSK N K):=fun args hp r e=>by
 unfold bSK at e;split at e
 ·rename_i c0 c1 c2 c3 c4 c5 l1 l2 c6 c7 c8 c9 c10 c11 l3 l4 c12 c13 c14 c15 c16 c17 c_1 c_2 c_3 c_4;obtain⟨hr,hk⟩:=qp (qi e);obtain⟨d0,hk0⟩:=aS hk;obtain⟨d1,hk1⟩:=aS hk0;obtain⟨d2,hk2⟩:=aS hk1;obtain⟨d3,hk3⟩:=aS hk2;obtain rfl:=of_decide_eq_true d0;obtain rfl:=of_decide_eq_true d1;obtain rfl:=of_decide_eq_true d2;obtain rfl:=of_decide_eq_true d3;rw[←hr];exact h c0 (aC.mk c1 c2 c3) c4 c5 (aO.mk (aE.mk c_1 c_2 c6 c7 c8 c9 c10 c11) (bC.mk c_3 c_4) c12 (aH.mk c13 c14 c15 c16 c17)) hk3
 ·simp at e
section
variable(b:Int)(c:aC)(o:Int)(a:aO)
def aOA:aE:=(K6 a.fr b c.Reg o)
def aOB:Bool:=(aK (aOA b c o a) (bI a.fbus true))
end
def a9U(b:Int)(c:aC)(d:Int)(o:Int)(a:aO):Pt (aO):=(ot (ot (.br (eqI c.Mode 0) (.ok (((((aK a.fr true)&&((aK a.fr true)&&true))&&(aK a.fr (K7 a.fr b c.Reg o)))&&true)&&true) (.ok (((aOB b c o a)&&(aOB b c o a))&&true) (.leaf {a with fr:=(aOA b c o a)}))) (.ok ((bU a (aDQ 2 b d o a))&&true) (.ok (((bL (wR 2 b d o a).1 true)&&(bL (wR 2 b d o a).1 true))&&true) (.leaf (wR 2 b d o a).1))))))
def a9V(b:Int)(c:aC)(d:Int)(o:Int)(a:aO):aO:=hid (a9U b c d o a).val
def a9W(b:Int)(c:aC)(d:Int)(o:Int)(a:aO):Bool:=hid (a9U b c d o a).okv
def bZP(b:Int)(c:aC)(d:Int)(o:Int)(a:aO)(r:aO):SV×List Blk:=((.tup []),[.box [.sl 1 0 (ln r.fr.D), .sl 2 0 (ln r.fr.A),li r.fr.Other,li r.fr.PC,li r.fr.Flags,li r.fr.Mask, .lit (.bool r.fr.Super), .lit (.bool r.fr.Trace), .sl 3 0 (ln r.fbus.Bytes), .sl 4 0 (ln r.fbus.Log), .lit (.bool r.fstop),li r.ffault.Vector,li r.ffault.PC,li r.ffault.Addr,li r.ffault.Word, .lit (.bool r.ffault.Write)], .lst 1 r.fr.D, .lst 1 r.fr.A, .lst 1 r.fbus.Bytes, .lst 5 r.fbus.Log])
def q249:=bSK (fun b c d o a=>bZP b c d o a (a9V b c d o a)) a9W
theorem cA6:cD 249 q249:=bSL fun b c d o a hk=>tc aU3 (a9U b c d o a) (bZP b c d o a) hk
def Q249:=aX 249 q249 Q253
theorem aU4:QO Q249:=aB cA6 aU3
def a9X(a:Int)(b:Int):Pt (Int):=(ot (.ok ((yI (eqI b 0) 4)&&((K3 a)&&((yI (geI b (lZ (xK a) 2)) 8)&&true))) (ot (ot (.leaf (eT (yH (eqI b 0) 4) (yH (geI b (lZ (xK a) 2)) 8)))))))
def aOC(a:Int)(b:Int):Int:=hid (a9X a b).val
def aOD(a:Int)(b:Int):Bool:=hid (a9X a b).okv
def q298:=KV (fun a b=>WR a b (aOC a b)) aOD
theorem cA7:cD 100298 q298:=tX fun a b hk=>tz aU4 (a9X a b) (WR a b) hk
def Q298:=aX 100298 q298 Q249
theorem aU5:QO Q298:=aB cA7 aU4
def aOE(a:Int)(b:Int)(c:Int):Pt (Int):=(ot (.ok ((aOD a c)&&true) (ot (ot (.leaf (eT (aZ b 16) (aOC a c)))))))
def hU(a:Int)(b:Int)(c:Int):Int:=hid (aOE a b c).val
def D4(a:Int)(b:Int)(c:Int):Bool:=hid (aOE a b c).okv
def q250:=DS5 (fun a b c=>aGV a b c (hU a b c)) D4
theorem cA8:cD 100250 q250:=C9 fun a b c hk=>tz aU5 (aOE a b c) (aGV a b c) hk
def Q250:=aX 100250 q250 Q298
theorem aU6:QO Q250:=aB cA8 aU5
def a9Y(a:Int)(b:Int):Pt (Int):=(ot (.ok ((K3 a)&&true) (.br (geI b (lZ (xK a) 2)) (.ok ((K3 a)&&true) (ot (ot (.leaf (cF b (xK a)))))) (ot (ot (ot (.leaf b)))))))
def aD6(a:Int)(b:Int):Int:=hid (a9Y a b).val
def aD7(a:Int)(b:Int):Bool:=hid (a9Y a b).okv
def q342:=KV (fun a b=>WR a b (aD6 a b)) aD7
theorem cA9:cD 100342 q342:=tX fun a b hk=>tz aU6 (a9Y a b) (WR a b) hk
def Q342:=aX 100342 q342 Q250
theorem aU7:QO Q342:=aB cA9 aU6
section
variable(a:Int)(b:Int)(c:Int)(d:Int)
def I4:Int:=(aZ (cF (cF c d) b) (cF (xK a) 1))
def aD8:Bool:=(cU (cF (cF (aD6 a c) (aD6 a d)) b) (aD6 a (I4 a b c d)))
end
def aOF(a:Int)(b:Int)(c:Int)(d:Int):Pt (Int×Int):=(ot (ot (.ok ((K3 a)&&true) (.ok ((aD7 a c)&&((aD7 a d)&&true)) (.ok ((yI (ltI (cF (cF c d) b) 0) 17)&&((aD7 a (I4 a b c d))&&((yI (aD8 a b c d) 2)&&((aOD a (I4 a b c d))&&true)))) (ot (ot (.leaf ((I4 a b c d),(eT (eT (yH (ltI (cF (cF c d) b) 0) 17) (yH (aD8 a b c d) 2)) (aOC a (I4 a b c d))))))))))))
def aD9(a:Int)(b:Int)(c:Int)(d:Int):Int×Int:=hid (aOF a b c d).val
def aG4(a:Int)(b:Int)(c:Int)(d:Int):Bool:=hid (aOF a b c d).okv
def q299:=WS (fun a b c d=>PH a b c d (aD9 a b c d)) aG4
theorem cBA:cD 100299 q299:=DS fun a b c d hk=>tz aU7 (aOF a b c d) (PH a b c d) hk
def Q299:=aX 100299 q299 Q342
theorem aU8:QO Q299:=aB cBA aU7
def cBB(b:aN)(a:aO):List SV:=[(.one (.ptr 0 0 0)),(.agg [li b.Op,li b.Size,li b.Reg,li b.Ea.Mode,li b.Ea.Reg,li b.Ea.Ext,li b.Sub])]
def cBC(b:aN)(a:aO):List Blk:=[.box [.sl 1 0 (ln a.fr.D), .sl 2 0 (ln a.fr.A),li a.fr.Other,li a.fr.PC,li a.fr.Flags,li a.fr.Mask, .lit (.bool a.fr.Super), .lit (.bool a.fr.Trace), .sl 3 0 (ln a.fbus.Bytes), .sl 4 0 (ln a.fbus.Log), .lit (.bool a.fstop),li a.ffault.Vector,li a.ffault.PC,li a.ffault.Addr,li a.ffault.Word, .lit (.bool a.ffault.Write)], .lst 1 a.fr.D, .lst 1 a.fr.A, .lst 1 a.fbus.Bytes, .lst 5 a.fbus.Log]
def aOG(N:aN→aO→SV×List Blk)(K:aN→aO→Bool):List SV→List Blk→Option ((SV×List Blk)×Bool)
 |[(.one (.ptr 0 0 0)),(.agg [li c0,li c1,li c2,li c3,li c4,li c5,li c6])],[.box [.sl 1 0 l1, .sl 2 0 l2,li c7,li c8,li c9,li c10, .lit (.bool c11), .lit (.bool c12), .sl 3 0 l3, .sl 4 0 l4, .lit (.bool c13),li c14,li c15,li c16,li c17, .lit (.bool c18)], .lst 1 c_1, .lst 1 c_2, .lst 1 c_3, .lst 5 c_4]=>some (N (aN.mk c0 c1 c2 (aC.mk c3 c4 c5) c6) (aO.mk (aE.mk c_1 c_2 c7 c8 c9 c10 c11 c12) (bC.mk c_3 c_4) c13 (aH.mk c14 c15 c16 c17 c18)),cV l1 (ln c_1)&&(cV l2 (ln c_2)&&(cV l3 (ln c_3)&&(cV l4 (ln c_4)&&(K (aN.mk c0 c1 c2 (aC.mk c3 c4 c5) c6) (aO.mk (aE.mk c_1 c_2 c7 c8 c9 c10 c11 c12) (bC.mk c_3 c_4) c13 (aH.mk c14 c15 c16 c17 c18)))))))
 |_,_=>none
theorem UY{N:aN→aO→SV×List Blk}{K:aN→aO→Bool}{f:Nat}(h: ∀(b:aN)(a:aO),K b a=true→cY R f (cBB b a) (cBC b a)=some (N b a)):cD f (aOG N K):=fun args hp r e=>by
 unfold aOG at e;split at e
 ·rename_i c0 c1 c2 c3 c4 c5 c6 l1 l2 c7 c8 c9 c10 c11 c12 l3 l4 c13 c14 c15 c16 c17 c18 c_1 c_2 c_3 c_4;obtain⟨hr,hk⟩:=qp (qi e);obtain⟨d0,hk0⟩:=aS hk;obtain⟨d1,hk1⟩:=aS hk0;obtain⟨d2,hk2⟩:=aS hk1;obtain⟨d3,hk3⟩:=aS hk2;obtain rfl:=of_decide_eq_true d0;obtain rfl:=of_decide_eq_true d1;obtain rfl:=of_decide_eq_true d2;obtain rfl:=of_decide_eq_true d3;rw[←hr];exact h (aN.mk c0 c1 c2 (aC.mk c3 c4 c5) c6) (aO.mk (aE.mk c_1 c_2 c7 c8 c9 c10 c11 c12) (bC.mk c_3 c_4) c13 (aH.mk c14 c15 c16 c17 c18)) hk3
 ·simp at e
section
variable(b:aN)(a:aO)
def yX:Bool:=(((bL (iA b.Size b.Ea a).1 true)&&(bL (iA b.Size b.Ea a).1 true))&&true)
def yY:Int:=(bif (eqI b.Sub 1)then(aD9 b.Size 0 0 0).1 else(bif (eqI b.Sub 2)then(cF (cF (xK b.Size) 1) 0)else 0))
def uP:aO:=(a9V b.Size b.Ea (iA b.Size b.Ea a).2 (yY b) (iA b.Size b.Ea a).1)
def yZ:Int:=(bif (eqI b.Sub 1)then(aD9 b.Size 0 0 0).2 else(bif (eqI b.Sub 2)then(hU b.Size (iA b.Size b.Ea a).1.fr.Flags (cF (cF (xK b.Size) 1) 0))else(hU b.Size (iA b.Size b.Ea a).1.fr.Flags 0)))
def zA:Bool:=(((bL (cJ b.Size b.Ea a).1 true)&&(bL (cJ b.Size b.Ea a).1 true))&&true)
def wS:Int:=(cF (cF (xK b.Size) 1) (cJ b.Size b.Ea a).2.1)
def zB:Int×Int:=(aD9 b.Size 0 0 (cJ b.Size b.Ea a).2.1)
def zD:Int:=(bif (eqI b.Sub 1)then(zB b a).1 else(bif (eqI b.Sub 2)then(wS b a)else(cJ b.Size b.Ea a).2.1))
def uQ:aO:=(a9V b.Size b.Ea (cJ b.Size b.Ea a).2.2 (zD b a) (cJ b.Size b.Ea a).1)
def zE:Int:=(bif (eqI b.Sub 1)then(zB b a).2 else(bif (eqI b.Sub 2)then(hU b.Size (cJ b.Size b.Ea a).1.fr.Flags (wS b a))else(hU b.Size (cJ b.Size b.Ea a).1.fr.Flags (cJ b.Size b.Ea a).2.1)))
end
def a9Z(b:aN)(a:aO):Pt (aO):=(ot (ot (ot (ot (.br (eqI b.Sub 0) (.ok ((bU a (aZ5 b.Size b.Ea a))&&true) (.ok ((bU (iA b.Size b.Ea a).1 (uL (iA b.Size b.Ea a).1))&&true) (.br (!(tO (iA b.Size b.Ea a).1)) (.ok (yX b a) (.leaf (iA b.Size b.Ea a).1)) (.ok ((D4 b.Size (iA b.Size b.Ea a).1.fr.Flags 0)&&true) (ot (ot (.ok ((((aG4 b.Size 0 0 0)&&true)||(!(eqI b.Sub 1)))&&((((((K3 b.Size)&&true)&&((D4 b.Size (iA b.Size b.Ea a).1.fr.Flags (cF (cF (xK b.Size) 1) 0))&&true))||(!(eqI b.Sub 2)))&&true)||(eqI b.Sub 1))) (ot (.br (ltI b.Sub 3) (.ok ((bU (iA b.Size b.Ea a).1 (a9W b.Size b.Ea (iA b.Size b.Ea a).2 (yY b) (iA b.Size b.Ea a).1))&&true) (ot (.ok (((bL (uP b a) true)&&(bL (uP b a) true))&&true) (.leaf {(uP b a)with fr:={(uP b a).fr with Flags:=(yZ b a)}})))) (ot (.ok (yX b a) (.leaf {(iA b.Size b.Ea a).1 with fr:={(iA b.Size b.Ea a).1.fr with Flags:=(yZ b a)}})))))))))))) (.ok ((bU a (aZ4 b.Size b.Ea a))&&true) (.ok ((bU (cJ b.Size b.Ea a).1 (uL (cJ b.Size b.Ea a).1))&&true) (.br (!(tO (cJ b.Size b.Ea a).1)) (.ok (zA b a) (.leaf (cJ b.Size b.Ea a).1)) (.ok ((D4 b.Size (cJ b.Size b.Ea a).1.fr.Flags (cJ b.Size b.Ea a).2.1)&&true) (ot (ot (.ok ((((aG4 b.Size 0 0 (cJ b.Size b.Ea a).2.1)&&true)||(!(eqI b.Sub 1)))&&((((((K3 b.Size)&&true)&&((D4 b.Size (cJ b.Size b.Ea a).1.fr.Flags (wS b a))&&true))||(!(eqI b.Sub 2)))&&true)||(eqI b.Sub 1))) (ot (.br (ltI b.Sub 3) (.ok ((bU (cJ b.Size b.Ea a).1 (a9W b.Size b.Ea (cJ b.Size b.Ea a).2.2 (zD b a) (cJ b.Size b.Ea a).1))&&true) (ot (.ok (((bL (uQ b a) true)&&(bL (uQ b a) true))&&true) (.leaf {(uQ b a)with fr:={(uQ b a).fr with Flags:=(zE b a)}})))) (ot (.ok (zA b a) (.leaf {(cJ b.Size b.Ea a).1 with fr:={(cJ b.Size b.Ea a).1.fr with Flags:=(zE b a)}})))))))))))))))))
def a90(b:aN)(a:aO):aO:=hid (a9Z b a).val
def bSM(b:aN)(a:aO):Bool:=hid (a9Z b a).okv
def WX(b:aN)(a:aO)(r:aO):SV×List Blk:=((.tup []),[.box [.sl 1 0 (ln r.fr.D), .sl 2 0 (ln r.fr.A),li r.fr.Other,li r.fr.PC,li r.fr.Flags,li r.fr.Mask, .lit (.bool r.fr.Super), .lit (.bool r.fr.Trace), .sl 3 0 (ln r.fbus.Bytes), .sl 4 0 (ln r.fbus.Log), .lit (.bool r.fstop),li r.ffault.Vector,li r.ffault.PC,li r.ffault.Addr,li r.ffault.Word, .lit (.bool r.ffault.Write)], .lst 1 r.fr.D, .lst 1 r.fr.A, .lst 1 r.fbus.Bytes, .lst 5 r.fbus.Log])
def q251:=aOG (fun b a=>WX b a (a90 b a)) bSM
theorem cBD:cD 251 q251:=UY fun b a hk=>tc aU8 (a9Z b a) (WX b a) hk
def Q251:=aX 251 q251 Q299
theorem aU9:QO Q251:=aB cBD aU8
def aOH(a:Int):Pt (Bool):=(ot (ot (ot (ot (.leaf (eqI (aZ a 1) 0))))))
def a91(a:Int):Bool:=hid (aOH a).val
def bJR(a:Int):Bool:=hid (aOH a).okv
def q343:=B8 (fun a=>jY a (a91 a)) bJR
theorem cBE:cD 100343 q343:=gQ fun a hk=>tz aU9 (aOH a) (jY a) hk
def Q343:=aX 100343 q343 Q251
theorem aVA:QO Q343:=aB cBE aU9
section
variable(a:Int)(b:Int)(c:Int)(d:Int)
def aOI:Bool:=(bif (eqI a 6)then(eqI a 6)else(eqI a 7))
def aOJ:Bool:=(bif (eqI a 4)then(eqI a 4)else(eqI a 5))
def I5:Int:=(yH (geI d (lZ (xK b) 2)) 1)
def mJ:Int:=(bif (a91 a)then(I5 b d)else(aZ d 1))
def D5:Int:=(bif (eqI a 1)then(I5 b d)else(bif (aOJ a)then(mJ a b d)else(bif (aOI a)then(yH (cU (aZ c 16) 0) 1)else 0)))
def pD:Int:=(bif (a91 a)then(eT (aZ (nL d 1) (cF (cX 2 (lZ (xK b) 2)) 1)) (D5 a b c d))else(eT (eW d 1) (cX (D5 a b c d) (lZ (xK b) 2))))
def aOK:Bool:=(geI (pD a b c d) (lZ (xK b) 2))
def aOL:Bool:=(bif (eqI a 0)then(cU (I5 b d) (yH (aOK a b c d) 1))else false)
def I6:Int:=(eT (eT (mJ a b d) (aOC b (pD a b c d))) (yH (aOL a b c d) 2))
end
def aOM(a:Int)(b:Int)(c:Int)(d:Int):Pt (Int×Int):=(ot (.ok ((K3 b)&&true) (.ok ((yI (geI d (lZ (xK b) 2)) 1)&&true) (ot (ot (.ok ((bJR a)&&true) (ot (ot (ot (.ok ((((((yI (cU (aZ c 16) 0) 1)&&true)||(!(aOI a)))&&true)||(aOJ a))||(eqI a 1)) (ot (.ok ((bJR a)&&true) (ot (.ok ((aOD b (pD a b c d))&&((((yI (aOK a b c d) 1)&&true)||(!(eqI a 0)))&&((yI (aOL a b c d) 2)&&true))) (ot (.br (bif (eqI a 4)then true else(eqI a 5)) (ot (ot (ot (.leaf ((pD a b c d),(eT (I6 a b c d) (aZ c 16))))))) (ot (ot (ot (.leaf ((pD a b c d),(eT (I6 a b c d) (cX (mJ a b d) 16)))))))))))))))))))))))
def PJ(a:Int)(b:Int)(c:Int)(d:Int):Int×Int:=hid (aOM a b c d).val
def bSN(a:Int)(b:Int)(c:Int)(d:Int):Bool:=hid (aOM a b c d).okv
def q300:=WS (fun a b c d=>PH a b c d (PJ a b c d)) bSN
theorem cBF:cD 100300 q300:=DS fun a b c d hk=>tz aVA (aOM a b c d) (PH a b c d) hk
def Q300:=aX 100300 q300 Q343
theorem aEA:QO Q300:=aB cBF aVA
structure V252_0 where
 mk::
 (s0:Int)
 (s1:Int)
 (s2:Int)
 (s3:Int)
 (s4:Int)
 (s13:Int)
section
variable(v:V252_0)
def wT:Int×Int:=(PJ v.s0 v.s1 v.s2 v.s3)
end
def I7(v:V252_0):Pt (Option V252_0):=(ot (.br (kV v.s4 0) (.ok ((bSN v.s0 v.s1 v.s2 v.s3)&&true) (ot (ot (ot (ot (ot (.leaf (some (V252_0.mk v.s0 v.s1 (wT v).2 (wT v).1 (cF v.s4 1) (eT v.s13 (aZ (wT v).2 2))))))))))) (.leaf none)))
def UZ(v:V252_0):St:=⟨[(0,(.one (li v.s0))),(1,(.one (li v.s1))),(2,(.one (li v.s2))),(3,(.one (li v.s3))),(4,(.one (li v.s4))),(13,(.one (li v.s13)))],[]⟩
def aEB:St→Option (V252_0×Bool)
 |⟨[(0,(.one (li c0))),(1,(.one (li c1))),(2,(.one (li c2))),(3,(.one (li c3))),(4,(.one (li c4))),(13,(.one (li c5)))],[]⟩=>some ((V252_0.mk c0 c1 c2 c3 c4 c5),true)
 |_=>none
def aEC:St→Option (Pt Out):=vH Q300 ([]++CD 252) [] true [] 0 9223372036854775808 aJ0
theorem bJS(v:V252_0):((aEC (UZ v)).bind (pG true false 0 [0,1,2,3,4,13]))=some ((I7 v).map (Option.map UZ)):=by kernel_rfl
theorem bJT(σ:St)(v:V252_0)(h:aEB σ=some (v,true)):σ=UZ v:=by
 unfold aEB at h;split at h
 ·obtain⟨hr,hk⟩:=qp (qi h);rw[←hr];rfl
 ·simp at h
theorem bJU:cK (qU true false 0 [0,1,2,3,4,13] aEC aEB UZ I7 9223372036854775808) (eY R 0 9223372036854775808 (.loop [0,1,2,3,4,13] aJ0)):=dD (cL aEA (bT (l:=[]) (by kernel_rfl) trivial)) bJT bJS
def bJV:Lp:=(34,qU true false 0 [0,1,2,3,4,13] aEC aEB UZ I7 9223372036854775808)::[]
def BM(v:V252_0):V252_0:=(hid (dB I7 9223372036854775808 v)).getD v
def VA(v:V252_0):Bool:=(hid (dB I7 9223372036854775808 v)).isSome
section
variable(a:Int)(b:Int)(c:Int)(d:Int)(o:Int)
def aED:Bool:=(bif (cU (aZ c 16) 0)then(geI a 6)else false)
def VB:V252_0:=(BM (V252_0.mk a b c d o 0))
end
def aON(a:Int)(b:Int)(c:Int)(d:Int)(o:Int):Pt (Int×Int):=(ot (ot (.br (eqI o 0) (ot (.ok ((aOD b d)&&((yI (aED a c) 1)&&true)) (ot (ot (.leaf (d,(eT (eT (aZ c 16) (aOC b d)) (yH (aED a c) 1)))))))) (ot (ot (ot (.ok (VA (V252_0.mk a b c d o 0)) (ot (ot (ot (.leaf ((VB a b c d o).s3,(eT (VB a b c d o).s2 (VB a b c d o).s13)))))))))))))
def aG5(a:Int)(b:Int)(c:Int)(d:Int)(o:Int):Int×Int:=hid (aON a b c d o).val
def bJW(a:Int)(b:Int)(c:Int)(d:Int)(o:Int):Bool:=hid (aON a b c d o).okv
def q252:=a7D (fun a b c d o=>bH4 a b c d o (aG5 a b c d o)) bJW
theorem bZQ:eS (fun live x=>cK (lH bJV (kH x)) (eY R 0 9223372036854775808 (.loop live x))) (nK 252).body:=(bT (l:=[([0,1,2,3,4,13],aJ0)]) (by kernel_rfl) ⟨eP (n:=34) (by kernel_rfl) fun σ σr t h ho hl=>bJU σ σr t h ho hl,trivial⟩)
theorem cBG:cD 100252 q252:=aMS fun a b c d o hk=>tzl aEA bZQ [] [] true (aON a b c d o) (bH4 a b c d o) hk
def Q252:=aX 100252 q252 Q300
theorem aVB:QO Q252:=aB cBG aEA
section
variable(b:Int)
def aOO:Bool:=(yF (cU (aZ b 8) 0) (cU (aZ b 2) 0))
end
def aOP(a:Int)(b:Int):Pt (Bool):=(ot (ot (ot (ot (.br (eqI a 2) (ot (ot (ot (.leaf (eqI (aZ b 5) 0))))) (ot (.br (eqI a 4) (ot (ot (ot (.leaf (eqI (aZ b 1) 0))))) (ot (.br (eqI a 6) (ot (ot (ot (.leaf (eqI (aZ b 4) 0))))) (ot (.br (eqI a 8) (ot (ot (ot (.leaf (eqI (aZ b 2) 0))))) (ot (.br (eqI a 10) (ot (ot (ot (.leaf (eqI (aZ b 8) 0))))) (ot (.br (eqI a 12) (ot (ot (ot (.leaf (aOO b))))) (ot (.br (eqI a 14) (ot (ot (ot (.leaf (bif (aOO b)then(eqI (aZ b 4) 0)else false))))) (ot (ot (ot (.leaf true)))))))))))))))))))))
def a92(a:Int)(b:Int):Bool:=hid (aOP a b).val
def bSO(a:Int)(b:Int):Bool:=hid (aOP a b).okv
def q344:=KV (fun a b=>WO a b (a92 a b)) bSO
theorem cBH:cD 100344 q344:=tX fun a b hk=>tz aVB (aOP a b) (WO a b) hk
def Q344:=aX 100344 q344 Q252
theorem aVC:QO Q344:=aB cBH aVB
def aOQ(a:Int)(b:Int):Pt (Bool):=(ot (.ok ((bSO (fX a 1) b)&&true) (ot (ot (.leaf (yF (a92 (fX a 1) b) (eqI (aZ a 1) 0)))))))
def aOR(a:Int)(b:Int):Bool:=hid (aOQ a b).val
def bSP(a:Int)(b:Int):Bool:=hid (aOQ a b).okv
def q301:=KV (fun a b=>WO a b (aOR a b)) bSP
theorem cBI:cD 100301 q301:=tX fun a b hk=>tz aVC (aOQ a b) (WO a b) hk
def Q301:=aX 100301 q301 Q344
theorem aVD:QO Q301:=aB cBI aVC
def cBJ(b:aN)(c:Int)(a:aO):List SV:=[(.one (.ptr 0 0 0)),(.agg [li b.Op,li b.Size,li b.Reg,li b.Ea.Mode,li b.Ea.Reg,li b.Ea.Ext,li b.Sub]),(.one (li c))]
def cBK(b:aN)(c:Int)(a:aO):List Blk:=[.box [.sl 1 0 (ln a.fr.D), .sl 2 0 (ln a.fr.A),li a.fr.Other,li a.fr.PC,li a.fr.Flags,li a.fr.Mask, .lit (.bool a.fr.Super), .lit (.bool a.fr.Trace), .sl 3 0 (ln a.fbus.Bytes), .sl 4 0 (ln a.fbus.Log), .lit (.bool a.fstop),li a.ffault.Vector,li a.ffault.PC,li a.ffault.Addr,li a.ffault.Word, .lit (.bool a.ffault.Write)], .lst 1 a.fr.D, .lst 1 a.fr.A, .lst 1 a.fbus.Bytes, .lst 5 a.fbus.Log]
def bJX(N:aN→Int→aO→SV×List Blk)(K:aN→Int→aO→Bool):List SV→List Blk→Option ((SV×List Blk)×Bool)
 |[(.one (.ptr 0 0 0)),(.agg [li c0,li c1,li c2,li c3,li c4,li c5,li c6]),(.one (li c7))],[.box [.sl 1 0 l1, .sl 2 0 l2,li c8,li c9,li c10,li c11, .lit (.bool c12), .lit (.bool c13), .sl 3 0 l3, .sl 4 0 l4, .lit (.bool c14),li c15,li c16,li c17,li c18, .lit (.bool c19)], .lst 1 c_1, .lst 1 c_2, .lst 1 c_3, .lst 5 c_4]=>some (N (aN.mk c0 c1 c2 (aC.mk c3 c4 c5) c6) c7 (aO.mk (aE.mk c_1 c_2 c8 c9 c10 c11 c12 c13) (bC.mk c_3 c_4) c14 (aH.mk c15 c16 c17 c18 c19)),cV l1 (ln c_1)&&(cV l2 (ln c_2)&&(cV l3 (ln c_3)&&(cV l4 (ln c_4)&&(K (aN.mk c0 c1 c2 (aC.mk c3 c4 c5) c6) c7 (aO.mk (aE.mk c_1 c_2 c8 c9 c10 c11 c12 c13) (bC.mk c_3 c_4) c14 (aH.mk c15 c16 c17 c18 c19)))))))
 |_,_=>none
theorem a93{N:aN→Int→aO→SV×List Blk}{K:aN→Int→aO→Bool}{f:Nat}(h: ∀(b:aN)(c:Int)(a:aO),K b c a=true→cY R f (cBJ b c a) (cBK b c a)=some (N b c a)):cD f (bJX N K):=fun args hp r e=>by
 unfold bJX at e;split at e
 ·rename_i c0 c1 c2 c3 c4 c5 c6 c7 l1 l2 c8 c9 c10 c11 c12 c13 l3 l4 c14 c15 c16 c17 c18 c19 c_1 c_2 c_3 c_4;obtain⟨hr,hk⟩:=qp (qi e);obtain⟨d0,hk0⟩:=aS hk;obtain⟨d1,hk1⟩:=aS hk0;obtain⟨d2,hk2⟩:=aS hk1;obtain⟨d3,hk3⟩:=aS hk2;obtain rfl:=of_decide_eq_true d0;obtain rfl:=of_decide_eq_true d1;obtain rfl:=of_decide_eq_true d2;obtain rfl:=of_decide_eq_true d3;rw[←hr];exact h (aN.mk c0 c1 c2 (aC.mk c3 c4 c5) c6) c7 (aO.mk (aE.mk c_1 c_2 c8 c9 c10 c11 c12 c13) (bC.mk c_3 c_4) c14 (aH.mk c15 c16 c17 c18 c19)) hk3
 ·simp at e
section
variable(b:aN)(a:aO)
def D6:Bool:=(((bL a true)&&(bL a true))&&true)
def rG:aO:=(bJD (iA 2 b.Ea a).1.fr.PC (iA 2 b.Ea a).1)
def D7:Bool:=(((bL (rG b a) true)&&(bL (rG b a) true))&&true)
def D8:Bool:=(((bL (iA 2 b.Ea a).1 true)&&(bL (iA 2 b.Ea a).1 true))&&true)
end
def a94(b:aN)(c:Int)(a:aO):Pt (aO):=(ot (ot (.br (eqI b.Op 13) (.ok ((bSP (aV b.Sub (cX 8 b.Reg)) a.fr.Flags)&&true) (.br (aOR (aV b.Sub (cX 8 b.Reg)) a.fr.Flags) (ot (.ok (D6 a) (.leaf {a with fr:={a.fr with PC:=(aZ (aV (aV c 2) b.Ea.Ext) 65535)}}))) (.ok (D6 a) (.leaf a)))) (.ok ((bU a (aZ5 2 b.Ea a))&&true) (ot (.br (eqI b.Sub 1) (.ok ((bU (iA 2 b.Ea a).1 (bJE (iA 2 b.Ea a).1.fr.PC (iA 2 b.Ea a).1))&&true) (.ok ((bU (rG b a) (uL (rG b a)))&&true) (.br (tO (rG b a)) (ot (.ok (D7 b a) (.leaf {(rG b a)with fr:={(rG b a).fr with PC:=(iA 2 b.Ea a).2}}))) (.ok (D7 b a) (.leaf (rG b a)))))) (.ok ((bU (iA 2 b.Ea a).1 (uL (iA 2 b.Ea a).1))&&true) (.br (tO (iA 2 b.Ea a).1) (ot (.ok (D8 b a) (.leaf {(iA 2 b.Ea a).1 with fr:={(iA 2 b.Ea a).1.fr with PC:=(iA 2 b.Ea a).2}}))) (.ok (D8 b a) (.leaf (iA 2 b.Ea a).1))))))))))
def a95(b:aN)(c:Int)(a:aO):aO:=hid (a94 b c a).val
def bSQ(b:aN)(c:Int)(a:aO):Bool:=hid (a94 b c a).okv
def bJY(b:aN)(c:Int)(a:aO)(r:aO):SV×List Blk:=((.tup []),[.box [.sl 1 0 (ln r.fr.D), .sl 2 0 (ln r.fr.A),li r.fr.Other,li r.fr.PC,li r.fr.Flags,li r.fr.Mask, .lit (.bool r.fr.Super), .lit (.bool r.fr.Trace), .sl 3 0 (ln r.fbus.Bytes), .sl 4 0 (ln r.fbus.Log), .lit (.bool r.fstop),li r.ffault.Vector,li r.ffault.PC,li r.ffault.Addr,li r.ffault.Word, .lit (.bool r.ffault.Write)], .lst 1 r.fr.D, .lst 1 r.fr.A, .lst 1 r.fbus.Bytes, .lst 5 r.fbus.Log])
def q254:=bJX (fun b c a=>bJY b c a (a95 b c a)) bSQ
theorem cBL:cD 254 q254:=a93 fun b c a hk=>tc aVD (a94 b c a) (bJY b c a) hk
def Q254:=aX 254 q254 Q301
theorem aVE:QO Q254:=aB cBL aVD
section
variable(a:aO)
def jK:aO×Int:=(wR 1 2 (bF a.fr.A 3 0) 0 a)
def aOS:List Row:=(List.set (jK a).1.fr.A 3 (aL (aZ (aV (bF (jK a).1.fr.A 3 0) 2) 65535)))
def aOT:Bool:=((e1 (ln (jK a).1.fr.D))&&((cV (ln (jK a).1.fr.A) (ln (aOS a)))&&(bI (jK a).1.fbus true)))
end
def a96(a:aO):Pt (aO×Int):=(ot (.ok ((ltI 3 (bN a.fr.A))&&((dO [.int .i64] a.fr.A 3 0)&&((bU a (aDQ 1 2 (bF a.fr.A 3 0) 0 a))&&true))) (.ok ((bU (jK a).1 (uL (jK a).1))&&true) (.br (tO (jK a).1) (.ok (((ltI 3 (bN (jK a).1.fr.A))&&((dO [.int .i64] (jK a).1.fr.A 3 0)&&((ltI 3 (bN (jK a).1.fr.A))&&(((blt 3 (ln (jK a).1.fr.A))&&(jW (jX (jK a).1.fr.A 3) 1))&&true))))&&true) (ot (.ok ((((bL (jK a).1 true)&&(aOT a))&&true)&&((aOT a)&&true)) (.leaf ({(jK a).1 with fr:={(jK a).1.fr with A:=(aOS a)}},(jK a).2))))) (ot (.ok (dd (bL (jK a).1 true) ((bL (jK a).1 true)&&true)) (.leaf ((jK a).1,(jK a).2))))))))
def jL(a:aO):aO×Int:=hid (a96 a).val
def a97(a:aO):Bool:=hid (a96 a).okv
def bZR(a:aO)(r:aO×Int):SV×List Blk:=((.one (li r.2)),[.box [.sl 1 0 (ln r.1.fr.D), .sl 2 0 (ln r.1.fr.A),li r.1.fr.Other,li r.1.fr.PC,li r.1.fr.Flags,li r.1.fr.Mask, .lit (.bool r.1.fr.Super), .lit (.bool r.1.fr.Trace), .sl 3 0 (ln r.1.fbus.Bytes), .sl 4 0 (ln r.1.fbus.Log), .lit (.bool r.1.fstop),li r.1.ffault.Vector,li r.1.ffault.PC,li r.1.ffault.Addr,li r.1.ffault.Word, .lit (.bool r.1.ffault.Write)], .lst 1 r.1.fr.D, .lst 1 r.1.fr.A, .lst 1 r.1.fbus.Bytes, .lst 5 r.1.fbus.Log])
def q303:=aZ0 (fun a=>bZR a (jL a)) a97
theorem cBM:cD 303 q303:=aDJ fun a hk=>tcx aVE [(1000001,[])] [] true (a96 a) (bZR a) hk
def Q303:=aX 303 q303 Q254
theorem aVF:QO Q303:=aB cBM aVE
def a98(b:Int)(a:aO):Pt (aO):=(ot (ot (.ok (((bL a true)&&(bL a true))&&true) (.leaf {a with ffault:={a.ffault with Vector:=b,PC:=a.fr.PC}}))))
def bJZ(b:Int)(a:aO):aO:=hid (a98 b a).val
def bJ0(b:Int)(a:aO):Bool:=hid (a98 b a).okv
def q304:=bJC (fun b a=>bJF b a (bJZ b a)) bJ0
theorem cBN:cD 304 q304:=a88 fun b a hk=>tc aVF (a98 b a) (bJF b a) hk
def Q304:=aX 304 q304 Q303
theorem aVG:QO Q304:=aB cBN aVF
def a99(a:Int):Pt (Int×Bool):=(ot (.ok ((a8D 2 a)&&true) (.br (!(a8C 2 a)) (ot (ot (ot (.leaf (0,false))))) (ot (ot (ot (.leaf ((eT (eW a 8) (nL (aZ a 255) 8)),true))))))))
def bJ1(a:Int):Int×Bool:=hid (a99 a).val
def bSR(a:Int):Bool:=hid (a99 a).okv
def bJ2(a:Int)(r:Int×Bool):SV×List Blk:=((.tup [(.one (li r.1)),(.one (.lit (.bool r.2)))]),[])
def q305:=B8 (fun a=>bJ2 a (bJ1 a)) bSR
theorem cBO:cD 100305 q305:=gQ fun a hk=>tz aVG (a99 a) (bJ2 a) hk
def Q305:=aX 100305 q305 Q304
theorem aVH:QO Q305:=aB cBO aVG
def cBP(b:Int)(c:Int)(d:Int)(a:aO):List SV:=[(.one (.ptr 0 0 0)),(.one (li b)),(.one (li c)),(.one (li d))]
def cBQ(b:Int)(c:Int)(d:Int)(a:aO):List Blk:=[.box [.sl 1 0 (ln a.fr.D), .sl 2 0 (ln a.fr.A),li a.fr.Other,li a.fr.PC,li a.fr.Flags,li a.fr.Mask, .lit (.bool a.fr.Super), .lit (.bool a.fr.Trace), .sl 3 0 (ln a.fbus.Bytes), .sl 4 0 (ln a.fbus.Log), .lit (.bool a.fstop),li a.ffault.Vector,li a.ffault.PC,li a.ffault.Addr,li a.ffault.Word, .lit (.bool a.ffault.Write)], .lst 1 a.fr.D, .lst 1 a.fr.A, .lst 1 a.fbus.Bytes, .lst 5 a.fbus.Log]
def bSS(N:Int→Int→Int→aO→SV×List Blk)(K:Int→Int→Int→aO→Bool):List SV→List Blk→Option ((SV×List Blk)×Bool)
 |[(.one (.ptr 0 0 0)),(.one (li c0)),(.one (li c1)),(.one (li c2))],[.box [.sl 1 0 l1, .sl 2 0 l2,li c3,li c4,li c5,li c6, .lit (.bool c7), .lit (.bool c8), .sl 3 0 l3, .sl 4 0 l4, .lit (.bool c9),li c10,li c11,li c12,li c13, .lit (.bool c14)], .lst 1 c_1, .lst 1 c_2, .lst 1 c_3, .lst 5 c_4]=>some (N c0 c1 c2 (aO.mk (aE.mk c_1 c_2 c3 c4 c5 c6 c7 c8) (bC.mk c_3 c_4) c9 (aH.mk c10 c11 c12 c13 c14)),cV l1 (ln c_1)&&(cV l2 (ln c_2)&&(cV l3 (ln c_3)&&(cV l4 (ln c_4)&&(K c0 c1 c2 (aO.mk (aE.mk c_1 c_2 c3 c4 c5 c6 c7 c8) (bC.mk c_3 c_4) c9 (aH.mk c10 c11 c12 c13 c14)))))))
 |_,_=>none
theorem bST{N:Int→Int→Int→aO→SV×List Blk}{K:Int→Int→Int→aO→Bool}{f:Nat}(h: ∀(b:Int)(c:Int)(d:Int)(a:aO),K b c d a=true→cY R f (cBP b c d a) (cBQ b c d a)=some (N b c d a)):cD f (bSS N K):=fun args hp r e=>by
 unfold bSS at e;split at e
 ·rename_i c0 c1 c2 l1 l2 c3 c4 c5 c6 c7 c8 l3 l4 c9 c10 c11 c12 c13 c14 c_1 c_2 c_3 c_4;obtain⟨hr,hk⟩:=qp (qi e);obtain⟨d0,hk0⟩:=aS hk;obtain⟨d1,hk1⟩:=aS hk0;obtain⟨d2,hk2⟩:=aS hk1;obtain⟨d3,hk3⟩:=aS hk2;obtain rfl:=of_decide_eq_true d0;obtain rfl:=of_decide_eq_true d1;obtain rfl:=of_decide_eq_true d2;obtain rfl:=of_decide_eq_true d3;rw[←hr];exact h c0 c1 c2 (aO.mk (aE.mk c_1 c_2 c3 c4 c5 c6 c7 c8) (bC.mk c_3 c_4) c9 (aH.mk c10 c11 c12 c13 c14)) hk3
 ·simp at e
section
variable(b:Int)(c:Int)(d:Int)(a:aO)
def aOU:aE:=(K6 {a.fr with Flags:=(hU b a.fr.Flags d)} b c d)
def aOV:Bool:=(aK (aOU b c d a) (bI a.fbus true))
end
def bAA(b:Int)(c:Int)(d:Int)(a:aO):Pt (aO):=(.ok ((D4 b a.fr.Flags d)&&true) (.ok ((((aK a.fr true)&&((aK a.fr true)&&true))&&(aK a.fr (K7 {a.fr with Flags:=(hU b a.fr.Flags d)} b c d)))&&true) (.ok (((aOV b c d a)&&(aOV b c d a))&&true) (.leaf {a with fr:=(aOU b c d a)}))))
def aZ6(b:Int)(c:Int)(d:Int)(a:aO):aO:=hid (bAA b c d a).val
def aZ7(b:Int)(c:Int)(d:Int)(a:aO):Bool:=hid (bAA b c d a).okv
def bZS(b:Int)(c:Int)(d:Int)(a:aO)(r:aO):SV×List Blk:=((.tup []),[.box [.sl 1 0 (ln r.fr.D), .sl 2 0 (ln r.fr.A),li r.fr.Other,li r.fr.PC,li r.fr.Flags,li r.fr.Mask, .lit (.bool r.fr.Super), .lit (.bool r.fr.Trace), .sl 3 0 (ln r.fbus.Bytes), .sl 4 0 (ln r.fbus.Log), .lit (.bool r.fstop),li r.ffault.Vector,li r.ffault.PC,li r.ffault.Addr,li r.ffault.Word, .lit (.bool r.ffault.Write)], .lst 1 r.fr.D, .lst 1 r.fr.A, .lst 1 r.fbus.Bytes, .lst 5 r.fbus.Log])
def q306:=bSS (fun b c d a=>bZS b c d a (aZ6 b c d a)) aZ7
theorem cBR:cD 306 q306:=bST fun b c d a hk=>tc aVH (bAA b c d a) (bZS b c d a) hk
def Q306:=aX 306 q306 Q305
theorem aVI:QO Q306:=aB cBR aVH
def bAB(a:Int):Pt (Int×Bool):=(ot (.ok ((a8D 1 a)&&true) (.br (!(a8C 1 a)) (ot (ot (ot (.leaf (0,false))))) (.ok ((aD7 1 a)&&true) (ot (ot (.leaf ((aZ (aD6 1 a) 65535),true))))))))
def bJ3(a:Int):Int×Bool:=hid (bAB a).val
def bSU(a:Int):Bool:=hid (bAB a).okv
def q307:=B8 (fun a=>bJ2 a (bJ3 a)) bSU
theorem cBS:cD 100307 q307:=gQ fun a hk=>tz aVI (bAB a) (bJ2 a) hk
def Q307:=aX 100307 q307 Q306
theorem aVJ:QO Q307:=aB cBS aVI
section
variable(b:aN)(a:aO)
def wU:Bool:=(((bL (jL a).1 true)&&(bL (jL a).1 true))&&true)
def wV:aE:=(aG3 {(jL (jL a).1).1.fr with PC:=(jL (jL a).1).2} (aZ (jL a).2 1023))
def wW:Bool:=(aK (wV a) (bI (jL (jL a).1).1.fbus true))
def wX:Bool:=(aK (aG3 a.fr b.Ea.Ext) (bI a.fbus true))
def uR:aO:=(bJZ (aV 18 b.Reg) a)
def wY:Bool:=((leI 0 b.Reg)&&(ltI b.Reg (bN a.fr.D)))
def wZ:Bool:=(dO [.int .i64] a.fr.D (0+(iN b.Reg)) 0)
def uS:aO:=(aZ6 2 b.Reg (bJ1 (bF a.fr.D (0+(iN b.Reg)) 0)).1 a)
def uT:Int:=(aZ (bF a.fr.D (0+(iN b.Reg)) 0) 255)
def uU:aO:=(aZ6 2 b.Reg (bJ3 (uT b a)).1 a)
end
def bAC(b:aN)(a:aO):Pt (aO):=(ot (ot (ot (.br (eqI b.Sub 0) (.ok ((bU a (a97 a))&&true) (ot (.ok (wU a) (.leaf {(jL a).1 with fr:={(jL a).1.fr with PC:=(jL a).2}})))) (ot (.br (eqI b.Sub 1) (.ok ((bU a (a97 a))&&true) (.ok ((bU (jL a).1 (uL (jL a).1))&&true) (.br (!(tO (jL a).1)) (.ok (wU a) (.leaf (jL a).1)) (.ok ((bU (jL a).1 (a97 (jL a).1))&&true) (.ok ((bU (jL (jL a).1).1 (uL (jL (jL a).1).1))&&true) (.br (tO (jL (jL a).1).1) (ot (.ok ((((aK (jL (jL a).1).1.fr true)&&((aK (jL (jL a).1).1.fr true)&&true))&&(aK (jL (jL a).1).1.fr (aZZ {(jL (jL a).1).1.fr with PC:=(jL (jL a).1).2} (aZ (jL a).2 1023))))&&true) (.ok (((wW a)&&(wW a))&&true) (.leaf {(jL (jL a).1).1 with fr:=(wV a)})))) (.ok (((bL (jL (jL a).1).1 true)&&(bL (jL (jL a).1).1 true))&&true) (.leaf (jL (jL a).1).1)))))))) (ot (.br (eqI b.Sub 3) (.ok (((((aK a.fr true)&&((aK a.fr true)&&true))&&(aK a.fr (aZZ a.fr b.Ea.Ext)))&&true)&&true) (ot (.ok (((wX b a)&&(wX b a))&&true) (.leaf {a with fr:=(aG3 a.fr b.Ea.Ext),fstop:=true})))) (ot (.br (eqI b.Sub 4) (.ok ((bU a (bJ0 (aV 18 b.Reg) a))&&true) (.ok (((bL (uR b a) true)&&(bL (uR b a) true))&&true) (.leaf (uR b a)))) (ot (.br (eqI b.Sub 5) (.ok ((wY b a)&&((wZ b a)&&((bSR (bF a.fr.D (0+(iN b.Reg)) 0))&&true))) (.ok ((bU a (aZ7 2 b.Reg (bJ1 (bF a.fr.D (0+(iN b.Reg)) 0)).1 a))&&true) (.ok (((bL (uS b a) true)&&(bL (uS b a) true))&&true) (.leaf (uS b a))))) (ot (.br (eqI b.Sub 6) (.ok ((wY b a)&&((wZ b a)&&((bSU (uT b a))&&true))) (.ok ((bU a (aZ7 2 b.Reg (bJ3 (uT b a)).1 a))&&true) (.ok (((bL (uU b a) true)&&(bL (uU b a) true))&&true) (.leaf (uU b a))))) (.ok (((bL a true)&&(bL a true))&&true) (.leaf a))))))))))))))))
def bAD(b:aN)(a:aO):aO:=hid (bAC b a).val
def bSV(b:aN)(a:aO):Bool:=hid (bAC b a).okv
def q255:=aOG (fun b a=>WX b a (bAD b a)) bSV
theorem cBT:cD 255 q255:=UY fun b a hk=>tc aVJ (bAC b a) (WX b a) hk
def Q255:=aX 255 q255 Q307
theorem aVK:QO Q255:=aB cBT aVJ
section
variable(b:aN)(a:aO)
def D9:Int:=(cX (bF (cJ 2 b.Ea a).1.fr.D (0+(iN b.Reg)) 0) (cJ 2 b.Ea a).2.1)
def BN:aO:=(aZ6 2 b.Reg (aZ (D9 b a) 65535) (cJ 2 b.Ea a).1)
def I8:aO:=(bJZ 5 (cJ 2 b.Ea a).1)
def NS:Int:=(lZ (bF (cJ 2 b.Ea a).1.fr.D (0+(iN b.Reg)) 0) (cJ 2 b.Ea a).2.1)
def I9:aO:=(aZ6 2 b.Reg (NS b a) (cJ 2 b.Ea a).1)
end
def bAE(b:aN)(a:aO):Pt (aO):=(ot (.ok ((bU a (aZ4 2 b.Ea a))&&true) (.ok ((bU (cJ 2 b.Ea a).1 (uL (cJ 2 b.Ea a).1))&&true) (.br (!(tO (cJ 2 b.Ea a).1)) (.ok (((bL (cJ 2 b.Ea a).1 true)&&(bL (cJ 2 b.Ea a).1 true))&&true) (.leaf (cJ 2 b.Ea a).1)) (.ok (((leI 0 b.Reg)&&(ltI b.Reg (bN (cJ 2 b.Ea a).1.fr.D)))&&((dO [.int .i64] (cJ 2 b.Ea a).1.fr.D (0+(iN b.Reg)) 0)&&true)) (ot (.br (eqI b.Op 16) (ot (.ok ((bU (cJ 2 b.Ea a).1 (aZ7 2 b.Reg (aZ (D9 b a) 65535) (cJ 2 b.Ea a).1))&&true) (.ok (((yI (kV (D9 b a) 65535) 2)&&true)&&true) (.ok (((bL (BN b a) true)&&(bL (BN b a) true))&&true) (.leaf {(BN b a)with fr:={(BN b a).fr with Flags:=(eT (BN b a).fr.Flags (yH (kV (D9 b a) 65535) 2))}}))))) (ot (.br (eqI (cJ 2 b.Ea a).2.1 0) (.ok ((bU (cJ 2 b.Ea a).1 (bJ0 5 (cJ 2 b.Ea a).1))&&true) (.ok (((bL (I8 b a) true)&&(bL (I8 b a) true))&&true) (.leaf (I8 b a)))) (.ok (((cU (cJ 2 b.Ea a).2.1 0)&&((bU (cJ 2 b.Ea a).1 (aZ7 2 b.Reg (NS b a) (cJ 2 b.Ea a).1))&&true))&&true) (.ok (((bL (I9 b a) true)&&(bL (I9 b a) true))&&true) (.leaf (I9 b a)))))))))))))
def bAF(b:aN)(a:aO):aO:=hid (bAE b a).val
def bSW(b:aN)(a:aO):Bool:=hid (bAE b a).okv
def q256:=aOG (fun b a=>WX b a (bAF b a)) bSW
theorem cBU:cD 256 q256:=UY fun b a hk=>tc aVK (bAE b a) (WX b a) hk
def Q256:=aX 256 q256 Q255
theorem aVL:QO Q256:=aB cBU aVK
def bAG(a:Int):Pt (Bool):=(ot (.ok ((wB a 0 255)&&true) (ot (ot (.leaf (bif (bif (tU a 0 255)then(leI (eW a 4) 9)else false)then(leI (aZ a 15) 9)else false))))))
def i5(a:Int):Bool:=hid (bAG a).val
def bJ4(a:Int):Bool:=hid (bAG a).okv
def q308:=B8 (fun a=>jY a (i5 a)) bJ4
theorem cBV:cD 100308 q308:=gQ fun a hk=>tz aVL (bAG a) (jY a) hk
def Q308:=aX 100308 q308 Q256
theorem aVM:QO Q308:=aB cBV aVL
def bAH(a:Int):Pt (Int):=(ot (ot (ot (ot (.leaf (aV (cX (eW a 4) 10) (aZ a 15)))))))
def K8(a:Int):Int:=hid (bAH a).val
def aZ8(a:Int):Bool:=hid (bAH a).okv
def q345:=B8 (fun a=>xJ a (K8 a)) aZ8
theorem cBW:cD 100345 q345:=gQ fun a hk=>tz aVM (bAH a) (xJ a) hk
def Q345:=aX 100345 q345 Q308
theorem aVN:QO Q345:=aB cBW aVM
def aOW(a:Int):Pt (Int):=(ot (ot (ot (ot (.leaf (eT (nL (lZ a 10) 4) (kD a 10)))))))
def tP(a:Int):Int:=hid (aOW a).val
def bAI(a:Int):Bool:=hid (aOW a).okv
def q346:=B8 (fun a=>xJ a (tP a)) bAI
theorem cBX:cD 100346 q346:=gQ fun a hk=>tz aVN (aOW a) (xJ a) hk
def Q346:=aX 100346 q346 Q345
theorem aVO:QO Q346:=aB cBX aVN
section
variable(a:Int)(b:Int)(c:Int)
def aEE:Int:=(kD (aV (aV (K8 b) (K8 c)) a) 100)
end
def aOX(a:Int)(b:Int)(c:Int):Pt (Int×Int):=(ot (.ok ((aZ8 b)&&((aZ8 c)&&true)) (.ok ((bAI (aEE a b c))&&true) (ot (ot (.leaf ((tP (aEE a b c)),(lZ (aV (aV (K8 b) (K8 c)) a) 100))))))))
def PK(a:Int)(b:Int)(c:Int):Int×Int:=hid (aOX a b c).val
def bSX(a:Int)(b:Int)(c:Int):Bool:=hid (aOX a b c).okv
def q309:=DS5 (fun a b c=>aZI a b c (PK a b c)) bSX
theorem cBY:cD 100309 q309:=C9 fun a b c hk=>tz aVO (aOX a b c) (aZI a b c) hk
def Q309:=aX 100309 q309 Q346
theorem aVP:QO Q309:=aB cBY aVO
section
variable(a:Int)(b:Int)(c:Int)
def aEF:Int:=(aV (cF (cF (K8 b) (K8 c)) a) 100)
end
def aOY(a:Int)(b:Int)(c:Int):Pt (Int×Int):=(ot (.ok ((aZ8 b)&&((aZ8 c)&&true)) (ot (.br (ltI (cF (cF (K8 b) (K8 c)) a) 0) (.ok ((bAI (aEF a b c))&&true) (ot (ot (.leaf ((tP (aEF a b c)),1))))) (.ok ((bAI (cF (cF (K8 b) (K8 c)) a))&&true) (ot (ot (.leaf ((tP (cF (cF (K8 b) (K8 c)) a)),0)))))))))
def PL(a:Int)(b:Int)(c:Int):Int×Int:=hid (aOY a b c).val
def bSY(a:Int)(b:Int)(c:Int):Bool:=hid (aOY a b c).okv
def q310:=DS5 (fun a b c=>aZI a b c (PL a b c)) bSY
theorem cBZ:cD 100310 q310:=C9 fun a b c hk=>tz aVP (aOY a b c) (aZI a b c) hk
def Q310:=aX 100310 q310 Q309
theorem aVQ:QO Q310:=aB cBZ aVP
section
variable(b:aN)(a:aO)
def w7:Int:=(aZ (bF a.fr.D (0+(iN b.Reg)) 0) 255)
def zF:Int:=(aZ (bF a.fr.D (0+(iN b.Ea.Reg)) 0) 255)
def EA:Int:=(yH (cU (aZ a.fr.Flags 16) 0) 1)
def JA:Int×Int:=(PL (EA a) (w7 b a) (zF b a))
def JB:Int×Int:=(PK (EA a) (w7 b a) (zF b a))
def EB:Int:=(bif (eqI b.Sub 1)then(JA b a).1 else(JB b a).1)
def NT:aE:=(K6 {a.fr with Flags:=(eT (bif (eqI (EB b a) 0)then(aZ a.fr.Flags 4)else 0) (cX (bif (eqI b.Sub 1)then(JA b a).2 else(JB b a).2) 17))} 1 b.Reg (EB b a))
def NU:Bool:=(aK (NT b a) (bI a.fbus true))
end
def bAJ(b:aN)(a:aO):Pt (aO):=(ot (.ok (((leI 0 b.Reg)&&(ltI b.Reg (bN a.fr.D)))&&((dO [.int .i64] a.fr.D (0+(iN b.Reg)) 0)&&true)) (.ok (((leI 0 b.Ea.Reg)&&(ltI b.Ea.Reg (bN a.fr.D)))&&((dO [.int .i64] a.fr.D (0+(iN b.Ea.Reg)) 0)&&true)) (.ok ((bJ4 (w7 b a))&&((((bJ4 (zF b a))&&true)||(!(i5 (w7 b a))))&&true)) (.br (bif (!(i5 (w7 b a)))then true else(!(i5 (zF b a)))) (ot (.ok (((bL a true)&&(bL a true))&&true) (.leaf {a with ffault:={a.ffault with Vector:=4}}))) (.ok ((yI (cU (aZ a.fr.Flags 16) 0) 1)&&true) (.ok ((bSX (EA a) (w7 b a) (zF b a))&&true) (ot (.ok ((((bSY (EA a) (w7 b a) (zF b a))&&true)||(!(eqI b.Sub 1)))&&true) (ot (ot (ot (ot (.ok (((((aK a.fr true)&&((aK a.fr true)&&true))&&(aK a.fr (K7 {a.fr with Flags:=(eT (bif (eqI (EB b a) 0)then(aZ a.fr.Flags 4)else 0) (cX (bif (eqI b.Sub 1)then(JA b a).2 else(JB b a).2) 17))} 1 b.Reg (EB b a))))&&true)&&true) (.ok (((NU b a)&&(NU b a))&&true) (.leaf {a with fr:=(NT b a)}))))))))))))))))
def bAK(b:aN)(a:aO):aO:=hid (bAJ b a).val
def bSZ(b:aN)(a:aO):Bool:=hid (bAJ b a).okv
def q257:=aOG (fun b a=>WX b a (bAK b a)) bSZ
theorem cB0:cD 257 q257:=UY fun b a hk=>tc aVQ (bAJ b a) (WX b a) hk
def Q257:=aX 257 q257 Q310
theorem aVR:QO Q257:=aB cB0 aVQ
end
end Go.Proofs.YtdicpjkdpliofaaGreatBoundaries
