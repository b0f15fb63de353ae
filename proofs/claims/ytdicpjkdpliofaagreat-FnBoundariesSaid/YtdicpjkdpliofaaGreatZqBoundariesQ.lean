import Derived.Test.YtdicpjkdpliofaaGreatZqTabBoundaries
import Derived.Test.YtdicpjkdpliofaaGreatZmc
import Derived.KernelRfl
import Derived.Test.YtdicpjkdpliofaaGreatZqBoundariesR
import Derived.Test.YtdicpjkdpliofaaGreatZqBoundariesQb
set_option linter.unusedVariables false
set_option linter.unusedSimpArgs false
namespace Go.Proofs.YtdicpjkdpliofaaGreatBoundaries
open Int renaming toNat → iN
open Go Go.Zq
open List renaming length→ln
set_option maxRecDepth 100000
set_option maxHeartbeats 4000000
noncomputable section
section
variable(a:Int)(b:Int)(c:Int)(d:Int)
def JC:Int:=(aZ (aV (aV c d) b) (cF (xK a) 1))
def aOZ:Bool:=(cU (aV (aV c d) b) (JC a b c d))
def aO0:Bool:=(cU (aV (aV (aD6 a c) (aD6 a d)) b) (aD6 a (JC a b c d)))
end
def bAL(a:Int)(b:Int)(c:Int)(d:Int):Pt (Int×Int):=(ot (ot (.ok ((K3 a)&&true) (.ok ((aD7 a c)&&((aD7 a d)&&true)) (.ok ((yI (aOZ a b c d) 17)&&((aD7 a (JC a b c d))&&((yI (aO0 a b c d) 2)&&((aOD a (JC a b c d))&&true)))) (ot (ot (.leaf ((JC a b c d),(eT (eT (yH (aOZ a b c d) 17) (yH (aO0 a b c d) 2)) (aOC a (JC a b c d))))))))))))
def bS0(a:Int)(b:Int)(c:Int)(d:Int):Int×Int:=hid (bAL a b c d).val
def bS1(a:Int)(b:Int)(c:Int)(d:Int):Bool:=hid (bAL a b c d).okv
def q311:=WS (fun a b c d=>PH a b c d (bS0 a b c d)) bS1
theorem cB1:cD 100311 q311:=DS fun a b c d hk=>tz aVR (bAL a b c d) (PH a b c d) hk
def Q311:=aX 100311 q311 Q257
theorem aVS:QO Q311:=aB cB1 aVR
def aO1(a:Int)(b:Int)(c:Int)(d:Int):Pt (Int):=(ot (.ok ((aG4 a 0 c d)&&true) (ot (ot (ot (.leaf (eT (aZ (aD9 a 0 c d).2 15) (aZ b 16))))))))
def aO2(a:Int)(b:Int)(c:Int)(d:Int):Int:=hid (aO1 a b c d).val
def bS2(a:Int)(b:Int)(c:Int)(d:Int):Bool:=hid (aO1 a b c d).okv
def q312:=WS (fun a b c d=>bHX a b c d (aO2 a b c d)) bS2
theorem cB2:cD 100312 q312:=DS fun a b c d hk=>tz aVS (aO1 a b c d) (bHX a b c d) hk
def Q312:=aX 100312 q312 Q311
theorem aVT:QO Q312:=aB cB2 aVS
section
variable(b:aN)(a:aO)
def zG:Bool:=(((bL (cJ b.Size b.Ea a).1 true)&&(bL (cJ b.Size b.Ea a).1 true))&&true)
def w8:Bool:=(aK (cJ b.Size b.Ea a).1.fr true)
def fN:Bool:=(bif (cU b.Op 3)then(cU b.Op 4)else false)
def p7:Bool:=((w8 b a)&&((w8 b a)&&true))
def w9:aE:=(K6 {(cJ b.Size b.Ea a).1.fr with Flags:=(bif (fN b)then(hU b.Size (cJ b.Size b.Ea a).1.fr.Flags (cJ b.Size b.Ea a).2.1)else(cJ b.Size b.Ea a).1.fr.Flags)} b.Size b.Reg (cJ b.Size b.Ea a).2.1)
def jM:Bool:=(bI (cJ b.Size b.Ea a).1.fbus true)
def jN:Int:=(a9M (cJ b.Size b.Ea a).1.fr b.Size b.Reg)
def mK:Int×Int:=(bS0 b.Size 0 (jN b a) (cJ b.Size b.Ea a).2.1)
def xA:aE:=(K6 {(cJ b.Size b.Ea a).1.fr with Flags:=(bif (fN b)then(hU b.Size (mK b a).2 (mK b a).1)else(mK b a).2)} b.Size b.Reg (mK b a).1)
def mL:Int×Int:=(aD9 b.Size 0 (jN b a) (cJ b.Size b.Ea a).2.1)
def rH:aE:=(K6 {(cJ b.Size b.Ea a).1.fr with Flags:=(bif (fN b)then(hU b.Size (mL b a).2 (mL b a).1)else(mL b a).2)} b.Size b.Reg (mL b a).1)
def oT:Int:=(aZ (jN b a) (cJ b.Size b.Ea a).2.1)
def rI:aE:=(K6 {(cJ b.Size b.Ea a).1.fr with Flags:=(bif (fN b)then(hU b.Size (cJ b.Size b.Ea a).1.fr.Flags (oT b a))else(cJ b.Size b.Ea a).1.fr.Flags)} b.Size b.Reg (oT b a))
def oU:Int:=(eT (jN b a) (cJ b.Size b.Ea a).2.1)
def rJ:aE:=(K6 {(cJ b.Size b.Ea a).1.fr with Flags:=(bif (fN b)then(hU b.Size (cJ b.Size b.Ea a).1.fr.Flags (oU b a))else(cJ b.Size b.Ea a).1.fr.Flags)} b.Size b.Reg (oU b a))
def oV:Int:=(qR (jN b a) (cJ b.Size b.Ea a).2.1)
def rK:aE:=(K6 {(cJ b.Size b.Ea a).1.fr with Flags:=(bif (fN b)then(hU b.Size (cJ b.Size b.Ea a).1.fr.Flags (oV b a))else(cJ b.Size b.Ea a).1.fr.Flags)} b.Size b.Reg (oV b a))
def rL:aE:=(K6 {(cJ b.Size b.Ea a).1.fr with Flags:=(bif (fN b)then(hU b.Size (cJ b.Size b.Ea a).1.fr.Flags (jN b a))else(cJ b.Size b.Ea a).1.fr.Flags)} b.Size b.Reg (jN b a))
end
def bAM(b:aN)(a:aO):Pt (aO):=(ot (.ok ((bU a (aZ4 b.Size b.Ea a))&&true) (.ok ((bU (cJ b.Size b.Ea a).1 (uL (cJ b.Size b.Ea a).1))&&true) (.br (!(tO (cJ b.Size b.Ea a).1)) (.ok (zG b a) (.leaf (cJ b.Size b.Ea a).1)) (.ok ((((w8 b a)&&true)&&(a9N (cJ b.Size b.Ea a).1.fr b.Size b.Reg))&&true) (ot (ot (ot (.br (eqI b.Op 1) (ot (ot (.ok ((((D4 b.Size (cJ b.Size b.Ea a).1.fr.Flags (cJ b.Size b.Ea a).2.1)&&true)||(!(fN b)))&&true) (ot (.ok ((((p7 b a)&&(aK (cJ b.Size b.Ea a).1.fr (K7 {(cJ b.Size b.Ea a).1.fr with Flags:=(bif (fN b)then(hU b.Size (cJ b.Size b.Ea a).1.fr.Flags (cJ b.Size b.Ea a).2.1)else(cJ b.Size b.Ea a).1.fr.Flags)} b.Size b.Reg (cJ b.Size b.Ea a).2.1)))&&true)&&true) (.ok (((aK (w9 b a) (jM b a))&&(aK (w9 b a) (jM b a)))&&true) (.leaf {(cJ b.Size b.Ea a).1 with fr:=(w9 b a)}))))))) (ot (.br (eqI b.Op 3) (.ok ((bS1 b.Size 0 (jN b a) (cJ b.Size b.Ea a).2.1)&&true) (ot (.ok ((((D4 b.Size (mK b a).2 (mK b a).1)&&true)||(!(fN b)))&&true) (ot (.ok ((((p7 b a)&&(aK (cJ b.Size b.Ea a).1.fr (K7 {(cJ b.Size b.Ea a).1.fr with Flags:=(bif (fN b)then(hU b.Size (mK b a).2 (mK b a).1)else(mK b a).2)} b.Size b.Reg (mK b a).1)))&&true)&&true) (.ok (((aK (xA b a) (jM b a))&&(aK (xA b a) (jM b a)))&&true) (.leaf {(cJ b.Size b.Ea a).1 with fr:=(xA b a)}))))))) (ot (.br (eqI b.Op 4) (.ok ((aG4 b.Size 0 (jN b a) (cJ b.Size b.Ea a).2.1)&&true) (ot (.ok ((((D4 b.Size (mL b a).2 (mL b a).1)&&true)||(!(fN b)))&&true) (ot (.ok ((((p7 b a)&&(aK (cJ b.Size b.Ea a).1.fr (K7 {(cJ b.Size b.Ea a).1.fr with Flags:=(bif (fN b)then(hU b.Size (mL b a).2 (mL b a).1)else(mL b a).2)} b.Size b.Reg (mL b a).1)))&&true)&&true) (.ok (((aK (rH b a) (jM b a))&&(aK (rH b a) (jM b a)))&&true) (.leaf {(cJ b.Size b.Ea a).1 with fr:=(rH b a)}))))))) (ot (.br (eqI b.Op 5) (ot (ot (.ok ((((D4 b.Size (cJ b.Size b.Ea a).1.fr.Flags (oT b a))&&true)||(!(fN b)))&&true) (ot (.ok ((((p7 b a)&&(aK (cJ b.Size b.Ea a).1.fr (K7 {(cJ b.Size b.Ea a).1.fr with Flags:=(bif (fN b)then(hU b.Size (cJ b.Size b.Ea a).1.fr.Flags (oT b a))else(cJ b.Size b.Ea a).1.fr.Flags)} b.Size b.Reg (oT b a))))&&true)&&true) (.ok (((aK (rI b a) (jM b a))&&(aK (rI b a) (jM b a)))&&true) (.leaf {(cJ b.Size b.Ea a).1 with fr:=(rI b a)}))))))) (ot (.br (eqI b.Op 6) (ot (ot (.ok ((((D4 b.Size (cJ b.Size b.Ea a).1.fr.Flags (oU b a))&&true)||(!(fN b)))&&true) (ot (.ok ((((p7 b a)&&(aK (cJ b.Size b.Ea a).1.fr (K7 {(cJ b.Size b.Ea a).1.fr with Flags:=(bif (fN b)then(hU b.Size (cJ b.Size b.Ea a).1.fr.Flags (oU b a))else(cJ b.Size b.Ea a).1.fr.Flags)} b.Size b.Reg (oU b a))))&&true)&&true) (.ok (((aK (rJ b a) (jM b a))&&(aK (rJ b a) (jM b a)))&&true) (.leaf {(cJ b.Size b.Ea a).1 with fr:=(rJ b a)}))))))) (ot (.br (eqI b.Op 7) (ot (ot (.ok ((((D4 b.Size (cJ b.Size b.Ea a).1.fr.Flags (oV b a))&&true)||(!(fN b)))&&true) (ot (.ok ((((p7 b a)&&(aK (cJ b.Size b.Ea a).1.fr (K7 {(cJ b.Size b.Ea a).1.fr with Flags:=(bif (fN b)then(hU b.Size (cJ b.Size b.Ea a).1.fr.Flags (oV b a))else(cJ b.Size b.Ea a).1.fr.Flags)} b.Size b.Reg (oV b a))))&&true)&&true) (.ok (((aK (rK b a) (jM b a))&&(aK (rK b a) (jM b a)))&&true) (.leaf {(cJ b.Size b.Ea a).1 with fr:=(rK b a)}))))))) (ot (.br (eqI b.Op 8) (.ok ((bS2 b.Size (cJ b.Size b.Ea a).1.fr.Flags (jN b a) (cJ b.Size b.Ea a).2.1)&&true) (.ok (zG b a) (.leaf {(cJ b.Size b.Ea a).1 with fr:={(cJ b.Size b.Ea a).1.fr with Flags:=(aO2 b.Size (cJ b.Size b.Ea a).1.fr.Flags (jN b a) (cJ b.Size b.Ea a).2.1)}}))) (ot (.ok ((((D4 b.Size (cJ b.Size b.Ea a).1.fr.Flags (jN b a))&&true)||(!(fN b)))&&true) (ot (.ok ((((p7 b a)&&(aK (cJ b.Size b.Ea a).1.fr (K7 {(cJ b.Size b.Ea a).1.fr with Flags:=(bif (fN b)then(hU b.Size (cJ b.Size b.Ea a).1.fr.Flags (jN b a))else(cJ b.Size b.Ea a).1.fr.Flags)} b.Size b.Reg (jN b a))))&&true)&&true) (.ok (((aK (rL b a) (jM b a))&&(aK (rL b a) (jM b a)))&&true) (.leaf {(cJ b.Size b.Ea a).1 with fr:=(rL b a)})))))))))))))))))))))))))))
def bAN(b:aN)(a:aO):aO:=hid (bAM b a).val
def bS3(b:aN)(a:aO):Bool:=hid (bAM b a).okv
def q260:=aOG (fun b a=>WX b a (bAN b a)) bS3
theorem cB3:cD 260 q260:=UY fun b a hk=>tc aVT (bAM b a) (WX b a) hk
def Q260:=aX 260 q260 Q312
theorem aVU:QO Q260:=aB cB3 aVT
section
variable(b:aN)(a:aO)
def iM:List Row:=(List.set (cJ 2 b.Ea a).1.fr.A (0+(iN b.Reg)) (aL (cJ 2 b.Ea a).2.1))
def iO:Bool:=((e1 (ln (cJ 2 b.Ea a).1.fr.D))&&((cV (ln (cJ 2 b.Ea a).1.fr.A) (ln (iM b a)))&&(bI (cJ 2 b.Ea a).1.fbus true)))
def iP:List Row:=(List.set (iA 2 b.Ea a).1.fr.A (0+(iN b.Reg)) (aL (iA 2 b.Ea a).2))
def iQ:Bool:=((e1 (ln (iA 2 b.Ea a).1.fr.D))&&((cV (ln (iA 2 b.Ea a).1.fr.A) (ln (iP b a)))&&(bI (iA 2 b.Ea a).1.fbus true)))
def iR:Bool:=(((aK a.fr true)&&true)&&(a9N a.fr b.Size b.Reg))
def gN:Int:=(a9M a.fr b.Size b.Reg)
def gO:aO:=(a9V b.Size b.Ea (iA b.Size b.Ea a).2 (gN b a) (iA b.Size b.Ea a).1)
def iS:Bool:=((aK a.fr true)&&((aK a.fr true)&&true))
def hZ:Int×Int:=(aG5 b.Sub b.Size a.fr.Flags (gN b a) (aV b.Ea.Reg 1))
def iT:aE:=(K6 {a.fr with Flags:=(hZ b a).2} b.Size b.Reg (hZ b a).1)
def fO:Bool:=(aK (iT b a) (bI a.fbus true))
def fP:Bool:=(aK (aG3 a.fr b.Ea.Ext) (bI a.fbus true))
def fQ:List Row:=(List.set a.fr.D (0+(iN b.Reg)) (aL (a8Z a.fr)))
def fR:Bool:=((cV (ln a.fr.D) (ln (fQ b a)))&&((e1 (ln a.fr.A))&&(bI a.fbus true)))
end
def bAO(b:aN)(c:Int)(a:aO):Pt (aO):=(ot (ot (ot (.br (eqI b.Op 9) (.ok ((bU a (aZ4 2 b.Ea a))&&true) (.ok ((bU (cJ 2 b.Ea a).1 (uL (cJ 2 b.Ea a).1))&&true) (.br (tO (cJ 2 b.Ea a).1) (.ok ((((leI 0 b.Reg)&&(ltI b.Reg (bN (cJ 2 b.Ea a).1.fr.A)))&&(((blt (0+(iN b.Reg)) (ln (cJ 2 b.Ea a).1.fr.A))&&(jW (jX (cJ 2 b.Ea a).1.fr.A (0+(iN b.Reg))) 1))&&true))&&true) (.ok ((((bL (cJ 2 b.Ea a).1 true)&&(iO b a))&&true)&&((iO b a)&&true)) (.leaf {(cJ 2 b.Ea a).1 with fr:={(cJ 2 b.Ea a).1.fr with A:=(iM b a)}}))) (.ok (dd (bL (cJ 2 b.Ea a).1 true) ((bL (cJ 2 b.Ea a).1 true)&&true)) (.leaf (cJ 2 b.Ea a).1))))) (ot (.br (eqI b.Op 10) (.ok ((bU a (aZ5 2 b.Ea a))&&true) (.ok ((((leI 0 b.Reg)&&(ltI b.Reg (bN (iA 2 b.Ea a).1.fr.A)))&&(((blt (0+(iN b.Reg)) (ln (iA 2 b.Ea a).1.fr.A))&&(jW (jX (iA 2 b.Ea a).1.fr.A (0+(iN b.Reg))) 1))&&true))&&true) (.ok ((((bL (iA 2 b.Ea a).1 true)&&(iQ b a))&&true)&&((iQ b a)&&true)) (.leaf {(iA 2 b.Ea a).1 with fr:={(iA 2 b.Ea a).1.fr with A:=(iP b a)}})))) (ot (.br (eqI b.Op 2) (.ok ((iR b a)&&true) (.ok ((bU a (aZ5 b.Size b.Ea a))&&true) (.ok ((bU (iA b.Size b.Ea a).1 (a9W b.Size b.Ea (iA b.Size b.Ea a).2 (gN b a) (iA b.Size b.Ea a).1))&&true) (.ok (((D4 b.Size (gO b a).fr.Flags (gN b a))&&true)&&true) (.ok (dd (bL (gO b a) true) ((bL (gO b a) true)&&true)) (.leaf {(gO b a)with fr:={(gO b a).fr with Flags:=(hU b.Size (gO b a).fr.Flags (gN b a))}})))))) (ot (.br (eqI b.Op 11) (.ok ((bU a (bSM b a))&&true) (.ok (dd (bL (a90 b a) true) ((bL (a90 b a) true)&&true)) (.leaf (a90 b a)))) (ot (.br (eqI b.Op 12) (.ok ((iR b a)&&((bJW b.Sub b.Size a.fr.Flags (gN b a) (aV b.Ea.Reg 1))&&true)) (ot (.ok ((((iS a)&&(aK a.fr (K7 {a.fr with Flags:=(hZ b a).2} b.Size b.Reg (hZ b a).1)))&&true)&&true) (.ok (dd (fO b a) ((fO b a)&&true)) (.leaf {a with fr:=(iT b a)}))))) (ot (ot (.br (bif (eqI b.Op 13)then(eqI b.Op 13)else(eqI b.Op 14)) (.ok ((bU a (bSQ b c a))&&true) (.ok (dd (bL (a95 b c a) true) ((bL (a95 b c a) true)&&true)) (.leaf (a95 b c a)))) (ot (.br (eqI b.Op 15) (.ok ((bU a (bSV b a))&&true) (.ok (dd (bL (bAD b a) true) ((bL (bAD b a) true)&&true)) (.leaf (bAD b a)))) (ot (ot (.br (bif (eqI b.Op 16)then(eqI b.Op 16)else(eqI b.Op 17)) (.ok ((bU a (bSW b a))&&true) (.ok (dd (bL (bAF b a) true) ((bL (bAF b a) true)&&true)) (.leaf (bAF b a)))) (ot (.br (eqI b.Op 18) (.ok ((bU a (bSZ b a))&&true) (.ok (dd (bL (bAK b a) true) ((bL (bAK b a) true)&&true)) (.leaf (bAK b a)))) (ot (.br (eqI b.Op 19) (ot (.br (eqI b.Sub 0) (.ok ((((iS a)&&(aK a.fr (aZZ a.fr b.Ea.Ext)))&&true)&&true) (.ok (dd (fP b a) ((fP b a)&&true)) (.leaf {a with fr:=(aG3 a.fr b.Ea.Ext)}))) (.ok (((((aK a.fr true)&&true)&&(bI5 a.fr))&&(((leI 0 b.Reg)&&(ltI b.Reg (bN a.fr.D)))&&(((blt (0+(iN b.Reg)) (ln a.fr.D))&&(jW (jX a.fr.D (0+(iN b.Reg))) 1))&&true)))&&true) (.ok ((((bL a true)&&(fR b a))&&true)&&((fR b a)&&true)) (.leaf {a with fr:={a.fr with D:=(fQ b a)}}))))) (.ok ((bU a (bS3 b a))&&true) (.ok (dd (bL (bAN b a) true) ((bL (bAN b a) true)&&true)) (.leaf (bAN b a))))))))))))))))))))))))))))
def bJ5(b:aN)(c:Int)(a:aO):aO:=hid (bAO b c a).val
def bJ6(b:aN)(c:Int)(a:aO):Bool:=hid (bAO b c a).okv
def q185:=bJX (fun b c a=>bJY b c a (bJ5 b c a)) bJ6
theorem cB4:cD 185 q185:=a93 fun b c a hk=>tcx aVU [(1000001,[])] [] true (bAO b c a) (bJY b c a) hk
def Q185:=aX 185 q185 Q260
theorem aVV:QO Q185:=aB cB4 aVU
def cB5(a:aD):List SV:=[(.agg [.imm false 1 a.R.D, .imm false 1 a.R.A,li a.R.Other,li a.R.PC,li a.R.Flags,li a.R.Mask, .lit (.bool a.R.Super), .lit (.bool a.R.Trace), .imm false 1 a.Bus.Bytes, .imm false 5 a.Bus.Log, .lit (.bool a.Stop), .lit (.bool a.Halt)])]
def cB6(a:aD):List Blk:=[]
def bJ7(N:aD→SV×List Blk)(K:aD→Bool):List SV→List Blk→Option ((SV×List Blk)×Bool)
 |[(.agg [.imm false 1 c0, .imm false 1 c1,li c2,li c3,li c4,li c5, .lit (.bool c6), .lit (.bool c7), .imm false 1 c8, .imm false 5 c9, .lit (.bool c10), .lit (.bool c11)])],[]=>some (N (aD.mk (aE.mk c0 c1 c2 c3 c4 c5 c6 c7) (bC.mk c8 c9) c10 c11),K (aD.mk (aE.mk c0 c1 c2 c3 c4 c5 c6 c7) (bC.mk c8 c9) c10 c11))
 |_,_=>none
theorem bAP{N:aD→SV×List Blk}{K:aD→Bool}{f:Nat}(h: ∀(a:aD),K a=true→cY R f (cB5 a) (cB6 a)=some (N a)):cD f (bJ7 N K):=fun _ _ _ e=>by
 unfold bJ7 at e;split at e
 ·exact vO e (h _)
 ·cases e
section
variable(a:aD)
def JD:Bool:=(bU (gI (d9 a)).1 (uL (gI (d9 a)).1))
def EC:Bool:=(tO (gI (d9 a)).1)
def zH:aH:={(gI (d9 a)).1.ffault with Vector:=8}
def xB:aO:={(gI (d9 a)).1 with ffault:=(zH a)}
def NV:Bool:=((bU (gI (d9 a)).1 (uL (xB a)))&&true)
def jO:aO:=(bJ5 (gI (d9 a)).2.1 (d9 a).fr.PC {(gI (d9 a)).1 with fr:={(gI (d9 a)).1.fr with PC:=(aZ (aV (d9 a).fr.PC (cX 2 (gI (d9 a)).2.2)) 65535)},ffault:=(zH a)})
def JE:Bool:=(((dd (aK (sL a.R) (bI (jO a).fbus true)) (aK (sL a.R) (bI (jO a).fbus (CI {(jO a)with fr:=(sL a.R),fstop:=a.Stop}))))&&true)&&true)
def ED:Bool:=(((s1 false)&&(r1 a.R.D))&&(((s1 false)&&(r1 a.R.A))&&((s1 a.R.Other)&&((s1 a.R.PC)&&((s1 a.R.Flags)&&((s1 a.R.Mask)&&((s1 a.R.Super)&&((s1 a.R.Trace)&&(((s1 false)&&(r1 a.Bus.Bytes))&&(((s1 false)&&(r1 a.Bus.Log))&&((s1 a.Stop)&&((s1 a.Halt)&&true))))))))))))
def BO:aD:=(qT {(jO a)with fr:=(sL a.R),fstop:=a.Stop})
def NW:Bool:=((ED a)&&((i9 (BO a) true)&&((kS (jO a).ffault true)&&((iB (sL a.R) (dQ (jO a).fbus ((s1 a.Stop)&&(kS (jO a).ffault true))))&&((sB (gI (d9 a)).2.1 true)&&(hY (jO a).fr (hY (sL a.R) (dJ (jO a).fbus (lK (BO a) true)))))))))
def FL:Bool:=(aK (sL a.R) (bI (gI (d9 a)).1.fbus true))
def BP:Bool:=(((dd (FL a) (aK (sL a.R) (bI (gI (d9 a)).1.fbus (CI (aO.mk (sL a.R) (gI (d9 a)).1.fbus a.Stop (zH a))))))&&true)&&true)
def vJ:aD:=(qT (aO.mk (sL a.R) (gI (d9 a)).1.fbus a.Stop (zH a)))
def FM:Bool:=((s1 (8:Int))&&((s1 (gI (d9 a)).1.ffault.PC)&&((s1 (gI (d9 a)).1.ffault.Addr)&&((s1 (gI (d9 a)).1.ffault.Word)&&((s1 (gI (d9 a)).1.ffault.Write)&&true)))))
def FN:Bool:=((ED a)&&((i9 (vJ a) true)&&((FM a)&&((iB (sL a.R) (dQ (gI (d9 a)).1.fbus ((s1 a.Stop)&&(FM a))))&&((sB (gI (d9 a)).2.1 true)&&(hY (gI (d9 a)).1.fr (hY (sL a.R) (dJ (gI (d9 a)).1.fbus (lK (vJ a) true)))))))))
def gG:aO:=(bJ5 (gI (d9 a)).2.1 (d9 a).fr.PC {(gI (d9 a)).1 with fr:={(gI (d9 a)).1.fr with PC:=(aZ (aV (d9 a).fr.PC (cX 2 (gI (d9 a)).2.2)) 65535)}})
def BQ:Bool:=(((dd (aK (sL a.R) (bI (gG a).fbus true)) (aK (sL a.R) (bI (gG a).fbus (CI {(gG a)with fr:=(sL a.R),fstop:=a.Stop}))))&&true)&&true)
def vK:aD:=(qT {(gG a)with fr:=(sL a.R),fstop:=a.Stop})
def FO:Bool:=((ED a)&&((i9 (vK a) true)&&((kS (gG a).ffault true)&&((iB (sL a.R) (dQ (gG a).fbus ((s1 a.Stop)&&(kS (gG a).ffault true))))&&((sB (gI (d9 a)).2.1 true)&&(hY (gG a).fr (hY (sL a.R) (dJ (gG a).fbus (lK (vK a) true)))))))))
def BS:aD:=(qT (gI (d9 a)).1)
def BT:Bool:=(((dd (FL a) (aK (sL a.R) (bI (gI (d9 a)).1.fbus (CI {(gI (d9 a)).1 with fr:=(sL a.R),fstop:=a.Stop}))))&&true)&&true)
def vL:aD:=(qT {(gI (d9 a)).1 with fr:=(sL a.R),fstop:=a.Stop})
def FP:Bool:=(kS (gI (d9 a)).1.ffault true)
def FQ:Bool:=((ED a)&&((i9 (vL a) true)&&((FP a)&&((iB (sL a.R) (dQ (gI (d9 a)).1.fbus ((s1 a.Stop)&&(FP a))))&&((sB (gI (d9 a)).2.1 true)&&(hY (gI (d9 a)).1.fr (hY (sL a.R) (dJ (gI (d9 a)).1.fbus (lK (vL a) true)))))))))
end
def bAQ(a:aD):Pt (aD×aH):=(ot (.ok ((a8X a)&&true) (ot (.ok ((bU (d9 a) (bSB (d9 a)))&&true) (.ok ((JD a)&&((((bSD (gI (d9 a)).2.1)&&true)||(!(EC a)))&&true)) (.br (bif (bif (EC a)then(bSC (gI (d9 a)).2.1)else false)then(!(gI (d9 a)).1.fr.Super)else false) (ot (.ok (NV a) (.br (tO (xB a)) (ot (.ok ((bU (gI (d9 a)).1 (bJ6 (gI (d9 a)).2.1 (d9 a).fr.PC {(gI (d9 a)).1 with fr:={(gI (d9 a)).1.fr with PC:=(aZ (aV (d9 a).fr.PC (cX 2 (gI (d9 a)).2.2)) 65535)},ffault:=(zH a)}))&&true) (.ok ((bU (jO a) (uL (jO a)))&&true) (.br (tO (jO a)) (.ok ((bU (jO a) (CI (jO a)))&&true) (.ok ((aI (qT (jO a)) true)&&((aI (qT (jO a)) true)&&true)) (.leaf ((qT (jO a)),(aH.mk 0 0 0 0 false))))) (.ok ((aNL a.R)&&true) (ot (.ok ((JE a)&&(((JE a)&&((JE a)&&(NW a)))&&(NW a))) (.ok ((aI (BO a) true)&&((aI (BO a) true)&&true)) (.leaf ((BO a),(jO a).ffault)))))))))) (.ok (NV a) (.br (tO (xB a)) (.ok ((bU (gI (d9 a)).1 (CI (xB a)))&&true) (.ok ((aI (qT (xB a)) true)&&((aI (qT (xB a)) true)&&true)) (.leaf ((qT (xB a)),(aH.mk 0 0 0 0 false))))) (.ok ((aNL a.R)&&true) (ot (.ok ((BP a)&&(((BP a)&&((BP a)&&(FN a)))&&(FN a))) (.ok ((aI (vJ a) true)&&((aI (vJ a) true)&&true)) (.leaf ((vJ a),(zH a)))))))))))) (.ok ((JD a)&&true) (.br (EC a) (ot (.ok ((bU (gI (d9 a)).1 (bJ6 (gI (d9 a)).2.1 (d9 a).fr.PC {(gI (d9 a)).1 with fr:={(gI (d9 a)).1.fr with PC:=(aZ (aV (d9 a).fr.PC (cX 2 (gI (d9 a)).2.2)) 65535)}}))&&true) (.ok ((bU (gG a) (uL (gG a)))&&true) (.br (tO (gG a)) (.ok ((bU (gG a) (CI (gG a)))&&true) (.ok ((aI (qT (gG a)) true)&&((aI (qT (gG a)) true)&&true)) (.leaf ((qT (gG a)),(aH.mk 0 0 0 0 false))))) (.ok ((aNL a.R)&&true) (ot (.ok ((BQ a)&&(((BQ a)&&((BQ a)&&(FO a)))&&(FO a))) (.ok ((aI (vK a) true)&&((aI (vK a) true)&&true)) (.leaf ((vK a),(gG a).ffault)))))))))) (.ok ((JD a)&&true) (.br (EC a) (.ok ((bU (gI (d9 a)).1 (CI (gI (d9 a)).1))&&true) (.ok ((aI (BS a) true)&&((aI (BS a) true)&&true)) (.leaf ((BS a),(aH.mk 0 0 0 0 false))))) (.ok ((aNL a.R)&&true) (ot (.ok ((BT a)&&(((BT a)&&((BT a)&&(FQ a)))&&(FQ a))) (.ok ((aI (vL a) true)&&((aI (vL a) true)&&true)) (.leaf ((vL a),(gI (d9 a)).1.ffault))))))))))))))))
def jP(a:aD):aD×aH:=hid (bAQ a).val
def bS4(a:aD):Bool:=hid (bAQ a).okv
def bZT(a:aD)(r:aD×aH):SV×List Blk:=((.tup [(.agg [.sl 0 0 (ln r.1.R.D), .sl 1 0 (ln r.1.R.A),li r.1.R.Other,li r.1.R.PC,li r.1.R.Flags,li r.1.R.Mask, .lit (.bool r.1.R.Super), .lit (.bool r.1.R.Trace), .sl 2 0 (ln r.1.Bus.Bytes), .sl 3 0 (ln r.1.Bus.Log), .lit (.bool r.1.Stop), .lit (.bool r.1.Halt)]),(.agg [li r.2.Vector,li r.2.PC,li r.2.Addr,li r.2.Word, .lit (.bool r.2.Write)])]),[.lst 1 r.1.R.D, .lst 1 r.1.R.A, .lst 1 r.1.Bus.Bytes, .lst 5 r.1.Bus.Log])
def q262:=bJ7 (fun a=>bZT a (jP a)) bS4
theorem cB7:cD 262 q262:=bAP fun a hk=>tc aVV (bAQ a) (bZT a) hk
def Q262:=aX 262 q262 Q185
theorem aVW:QO Q262:=aB cB7 aVV
section
variable(a:aD)
def NX:Bool:=(((s1 false)&&(r1 a.R.D))&&(((s1 false)&&(r1 a.R.A))&&((s1 a.R.Other)&&((s1 a.R.PC)&&((s1 a.R.Flags)&&((s1 a.R.Mask)&&((s1 a.R.Super)&&((s1 a.R.Trace)&&(((s1 false)&&(r1 a.Bus.Bytes))&&(((s1 false)&&(r1 a.Bus.Log))&&((s1 a.Stop)&&((s1 a.Halt)&&true))))))))))))
def mM:aD:=(WV (jP a).1 (jP a).2 (jP a).1.R.Mask)
def aEG:Bool:=(((s1 (jP a).2.Vector)&&true)&&((NX a)&&((i9 (mM a) true)&&(lK (jP a).1 ((i9 (mM a) true)&&((kS (jP a).2 true)&&(lK (mM a) true)))))))
def aEH:Bool:=((aI (mM a) true)&&((aI (mM a) true)&&true))
def BU:aD:=(WV (mM a) (aH.mk 9 (mM a).R.PC 0 0 false) (mM a).R.Mask)
def aEI:Bool:=((aI (BU a) true)&&((aI (BU a) true)&&true))
def BW:aD:=(WV (jP a).1 (aH.mk 9 (jP a).1.R.PC 0 0 false) (jP a).1.R.Mask)
def aEJ:Bool:=((aI (BW a) true)&&((aI (BW a) true)&&true))
end
def bAR(a:aD):Pt (aD×Int):=(ot (.ok ((bS4 a)&&true) (ot (.br (cU (jP a).2.Vector 0) (.ok ((((aI (jP a).1 true)&&true)&&(WW (jP a).1 (jP a).2 (jP a).1.R.Mask))&&true) (ot (.br (bif (ltI (jP a).2.Vector 18)then(cU (jP a).2.Vector 5)else false) (.ok (aEG a) (.ok (aEH a) (.leaf ((mM a),(jP a).2.Vector)))) (ot (.br (bif a.R.Trace then(!(mM a).Halt)else false) (.ok ((((aI (mM a) true)&&true)&&(WW (mM a) (aH.mk 9 (mM a).R.PC 0 0 false) (mM a).R.Mask))&&true) (ot (.br (eqI (jP a).2.Vector 0) (ot (.ok (aEI a) (.leaf ((BU a),9)))) (.ok (((s1 (jP a).2.Vector)&&true)&&((NX a)&&((i9 (BU a) true)&&(lK (jP a).1 ((i9 (BU a) true)&&((kS (jP a).2 true)&&(lK (mM a) (lK (BU a) true)))))))) (.ok (aEI a) (.leaf ((BU a),(jP a).2.Vector))))))) (.ok (aEG a) (.ok (aEH a) (.leaf ((mM a),(jP a).2.Vector))))))))) (ot (.br (bif a.R.Trace then(!(jP a).1.Halt)else false) (.ok ((((aI (jP a).1 true)&&true)&&(WW (jP a).1 (aH.mk 9 (jP a).1.R.PC 0 0 false) (jP a).1.R.Mask))&&true) (ot (.br (eqI (jP a).2.Vector 0) (ot (.ok (aEJ a) (.leaf ((BW a),9)))) (.ok (((s1 (jP a).2.Vector)&&true)&&((NX a)&&((i9 (BW a) true)&&(lK (jP a).1 ((i9 (BW a) true)&&((kS (jP a).2 true)&&(lK (BW a) true))))))) (.ok (aEJ a) (.leaf ((BW a),(jP a).2.Vector))))))) (.ok (((s1 (jP a).2.Vector)&&true)&&((NX a)&&((i9 (jP a).1 true)&&(lK (jP a).1 ((i9 (jP a).1 true)&&((kS (jP a).2 true)&&true)))))) (.ok ((aI (jP a).1 true)&&((aI (jP a).1 true)&&true)) (.leaf ((jP a).1,(jP a).2.Vector))))))))))
def aZ9(a:aD):aD×Int:=hid (bAR a).val
def bS5(a:aD):Bool:=hid (bAR a).okv
def bZU(a:aD)(r:aD×Int):SV×List Blk:=((.tup [(.agg [.sl 0 0 (ln r.1.R.D), .sl 1 0 (ln r.1.R.A),li r.1.R.Other,li r.1.R.PC,li r.1.R.Flags,li r.1.R.Mask, .lit (.bool r.1.R.Super), .lit (.bool r.1.R.Trace), .sl 2 0 (ln r.1.Bus.Bytes), .sl 3 0 (ln r.1.Bus.Log), .lit (.bool r.1.Stop), .lit (.bool r.1.Halt)]),(.one (li r.2))]),[.lst 1 r.1.R.D, .lst 1 r.1.R.A, .lst 1 r.1.Bus.Bytes, .lst 5 r.1.Bus.Log])
def q196:=bJ7 (fun a=>bZU a (aZ9 a)) bS5
theorem cB8:cD 196 q196:=bAP fun a hk=>tc aVW (bAR a) (bZU a) hk
def Q196:=aX 196 q196 Q262
theorem aVX:QO Q196:=aB cB8 aVW
def cB9(a:bA):List SV:=[(.agg [.sl 0 0 (ln a.Cpu.R.D), .sl 1 0 (ln a.Cpu.R.A),li a.Cpu.R.Other,li a.Cpu.R.PC,li a.Cpu.R.Flags,li a.Cpu.R.Mask, .lit (.bool a.Cpu.R.Super), .lit (.bool a.Cpu.R.Trace), .sl 2 0 (ln a.Cpu.Bus.Bytes), .sl 3 0 (ln a.Cpu.Bus.Log), .lit (.bool a.Cpu.Stop), .lit (.bool a.Cpu.Halt),li a.Line, .lit (.bool a.Edge)])]
def cCA(a:bA):List Blk:=[.lst 1 a.Cpu.R.D, .lst 1 a.Cpu.R.A, .lst 1 a.Cpu.Bus.Bytes, .lst 5 a.Cpu.Bus.Log]
def bS6(N:bA→SV×List Blk)(K:bA→Bool):List SV→List Blk→Option ((SV×List Blk)×Bool)
 |[(.agg [.sl 0 0 l0, .sl 1 0 l1,li c0,li c1,li c2,li c3, .lit (.bool c4), .lit (.bool c5), .sl 2 0 l2, .sl 3 0 l3, .lit (.bool c6), .lit (.bool c7),li c8, .lit (.bool c9)])],[.lst 1 c_0, .lst 1 c_1, .lst 1 c_2, .lst 5 c_3]=>some (N (bA.mk (aD.mk (aE.mk c_0 c_1 c0 c1 c2 c3 c4 c5) (bC.mk c_2 c_3) c6 c7) c8 c9),cV l0 (ln c_0)&&(cV l1 (ln c_1)&&(cV l2 (ln c_2)&&(cV l3 (ln c_3)&&(K (bA.mk (aD.mk (aE.mk c_0 c_1 c0 c1 c2 c3 c4 c5) (bC.mk c_2 c_3) c6 c7) c8 c9))))))
 |_,_=>none
theorem bS7{N:bA→SV×List Blk}{K:bA→Bool}{f:Nat}(h: ∀(a:bA),K a=true→cY R f (cB9 a) (cCA a)=some (N a)):cD f (bS6 N K):=fun args hp r e=>by
 unfold bS6 at e;split at e
 ·rename_i l0 l1 c0 c1 c2 c3 c4 c5 l2 l3 c6 c7 c8 c9 c_0 c_1 c_2 c_3;obtain⟨hr,hk⟩:=Prod.mk.inj (Option.some.inj e);obtain⟨d0,hk0⟩:=aS hk;obtain⟨d1,hk1⟩:=aS hk0;obtain⟨d2,hk2⟩:=aS hk1;obtain⟨d3,hk3⟩:=aS hk2;obtain rfl:=of_decide_eq_true d0;obtain rfl:=of_decide_eq_true d1;obtain rfl:=of_decide_eq_true d2;obtain rfl:=of_decide_eq_true d3;rw[←hr];exact h (bA.mk (aD.mk (aE.mk c_0 c_1 c0 c1 c2 c3 c4 c5) (bC.mk c_2 c_3) c6 c7) c8 c9) hk3
 ·simp at e
section
variable(a:bA)
def NY:Bool:=((bV a true)&&((bV a true)&&true))
end
def bAS(a:bA):Pt (bA×Int):=(ot (ot (.br a.Cpu.Halt (ot (.ok (NY a) (.leaf (a,(-1))))) (.ok ((((bV a true)&&true)&&(bRR a))&&true) (ot (.br (kV (aG2 a) 0) (.ok ((((bV a true)&&true)&&(bSA a (aG2 a)))&&true) (.ok ((bV (a9G a (aG2 a)) true)&&((bV (a9G a (aG2 a)) true)&&true)) (.leaf ((a9G a (aG2 a)),(aV 100 (aG2 a)))))) (ot (.br a.Cpu.Stop (ot (.ok (NY a) (.leaf (a,(-1))))) (.ok ((((bV a true)&&true)&&(bS5 a.Cpu))&&true) (ot (ot (.ok ((aI (aZ9 a.Cpu).1 true)&&((aI (aZ9 a.Cpu).1 true)&&true)) (.leaf ({a with Cpu:=(aZ9 a.Cpu).1},(aZ9 a.Cpu).2))))))))))))))
def NZ(a:bA):bA×Int:=hid (bAS a).val
def bAT(a:bA):Bool:=hid (bAS a).okv
def bZV(a:bA)(r:bA×Int):SV×List Blk:=((.tup [(.agg [.sl 0 0 (ln r.1.Cpu.R.D), .sl 1 0 (ln r.1.Cpu.R.A),li r.1.Cpu.R.Other,li r.1.Cpu.R.PC,li r.1.Cpu.R.Flags,li r.1.Cpu.R.Mask, .lit (.bool r.1.Cpu.R.Super), .lit (.bool r.1.Cpu.R.Trace), .sl 2 0 (ln r.1.Cpu.Bus.Bytes), .sl 3 0 (ln r.1.Cpu.Bus.Log), .lit (.bool r.1.Cpu.Stop), .lit (.bool r.1.Cpu.Halt),li r.1.Line, .lit (.bool r.1.Edge)]),(.one (li r.2))]),[.lst 1 r.1.Cpu.R.D, .lst 1 r.1.Cpu.R.A, .lst 1 r.1.Cpu.Bus.Bytes, .lst 5 r.1.Cpu.Bus.Log])
def q115:=bS6 (fun a=>bZV a (NZ a)) bAT
theorem cCB:cD 115 q115:=bS7 fun a hk=>tc aVX (bAS a) (bZV a) hk
def Q115:=aX 115 q115 Q196
theorem aEK:QO Q115:=aB cCB aVX
structure V28_0 where
 mk::
 (b0:bA)
 (b1:bA)
 (s1:Int)
 (s8:List Row)
section
variable(v:V28_0)
def FS:Nat:=(ln (v.s8++[(aL (NZ v.b1).2)]))
end
def YM(v:V28_0):Pt (Option V28_0):=(ot (.br (kV v.s1 0) (.ok ((((bV v.b1 true)&&((bV v.b1 true)&&true))&&(bV v.b1 (bAT v.b1)))&&true) (ot (.ok (((e1 (ln v.s8))&&((cV (0+(ln v.s8)) (ln v.s8))&&((lJ (mA ((ln v.s8)+1) 8) 140737488355328)&&(lJ ((ln v.s8)+1) 140737488355328))))&&true) (ot (.ok (((bV v.b0 true)&&((bV (NZ v.b1).1 true)&&(bV v.b0 (bV (NZ v.b1).1 ((e1 (FS v))&&true)))))&&((e1 (FS v))&&true)) (.leaf (some (V28_0.mk v.b0 (NZ v.b1).1 (cF v.s1 1) (v.s8++[(aL (NZ v.b1).2)]))))))))) (.leaf none)))
def aG6(v:V28_0):St:=⟨[(1,(.one (li v.s1))),(4,(.one (.ptr 0 0 0))),(7,(.one (.ptr 1 0 0))),(8,(.one (.sl 10 0 (ln v.s8))))],[.box [.sl 2 0 (ln v.b0.Cpu.R.D), .sl 3 0 (ln v.b0.Cpu.R.A),li v.b0.Cpu.R.Other,li v.b0.Cpu.R.PC,li v.b0.Cpu.R.Flags,li v.b0.Cpu.R.Mask, .lit (.bool v.b0.Cpu.R.Super), .lit (.bool v.b0.Cpu.R.Trace), .sl 4 0 (ln v.b0.Cpu.Bus.Bytes), .sl 5 0 (ln v.b0.Cpu.Bus.Log), .lit (.bool v.b0.Cpu.Stop), .lit (.bool v.b0.Cpu.Halt),li v.b0.Line, .lit (.bool v.b0.Edge)], .box [.sl 6 0 (ln v.b1.Cpu.R.D), .sl 7 0 (ln v.b1.Cpu.R.A),li v.b1.Cpu.R.Other,li v.b1.Cpu.R.PC,li v.b1.Cpu.R.Flags,li v.b1.Cpu.R.Mask, .lit (.bool v.b1.Cpu.R.Super), .lit (.bool v.b1.Cpu.R.Trace), .sl 8 0 (ln v.b1.Cpu.Bus.Bytes), .sl 9 0 (ln v.b1.Cpu.Bus.Log), .lit (.bool v.b1.Cpu.Stop), .lit (.bool v.b1.Cpu.Halt),li v.b1.Line, .lit (.bool v.b1.Edge)], .lst 1 v.b0.Cpu.R.D, .lst 1 v.b0.Cpu.R.A, .lst 1 v.b0.Cpu.Bus.Bytes, .lst 5 v.b0.Cpu.Bus.Log, .lst 1 v.b1.Cpu.R.D, .lst 1 v.b1.Cpu.R.A, .lst 1 v.b1.Cpu.Bus.Bytes, .lst 5 v.b1.Cpu.Bus.Log, .lst 1 v.s8]⟩
def aVY:St→Option (V28_0×Bool)
 |⟨[(1,(.one (li c20))),(4,(.one (.ptr 0 0 0))),(7,(.one (.ptr 1 0 0))),(8,(.one (.sl 10 0 l10)))],[.box [.sl 2 0 l2, .sl 3 0 l3,li c0,li c1,li c2,li c3, .lit (.bool c4), .lit (.bool c5), .sl 4 0 l4, .sl 5 0 l5, .lit (.bool c6), .lit (.bool c7),li c8, .lit (.bool c9)], .box [.sl 6 0 l6, .sl 7 0 l7,li c10,li c11,li c12,li c13, .lit (.bool c14), .lit (.bool c15), .sl 8 0 l8, .sl 9 0 l9, .lit (.bool c16), .lit (.bool c17),li c18, .lit (.bool c19)], .lst 1 c_2, .lst 1 c_3, .lst 1 c_4, .lst 5 c_5, .lst 1 c_6, .lst 1 c_7, .lst 1 c_8, .lst 5 c_9, .lst 1 c_10]⟩=>some ((V28_0.mk (bA.mk (aD.mk (aE.mk c_2 c_3 c0 c1 c2 c3 c4 c5) (bC.mk c_4 c_5) c6 c7) c8 c9) (bA.mk (aD.mk (aE.mk c_6 c_7 c10 c11 c12 c13 c14 c15) (bC.mk c_8 c_9) c16 c17) c18 c19) c20 c_10),cV l2 (ln c_2)&&(cV l3 (ln c_3)&&(cV l4 (ln c_4)&&(cV l5 (ln c_5)&&(cV l6 (ln c_6)&&(cV l7 (ln c_7)&&(cV l8 (ln c_8)&&(cV l9 (ln c_9)&&(cV l10 (ln c_10)&&(true))))))))))
 |_=>none
def aO3:St→Option (Pt Out):=vH Q115 ([]++CD 28) [] true [] 0 9223372036854775808 a25
theorem bS8(v:V28_0):((aO3 (aG6 v)).bind (pG true false 0 [1,4,7,8]))=some ((YM v).map (Option.map aG6)):=by kernel_rfl
theorem bS9(σ:St)(v:V28_0)(h:aVY σ=some (v,true)):σ=aG6 v:=by
 unfold aVY at h;split at h
 ·obtain⟨hr,hk⟩:=Prod.mk.inj (Option.some.inj h);obtain⟨d0,hk0⟩:=aS hk;obtain⟨d1,hk1⟩:=aS hk0;obtain⟨d2,hk2⟩:=aS hk1;obtain⟨d3,hk3⟩:=aS hk2;obtain⟨d4,hk4⟩:=aS hk3;obtain⟨d5,hk5⟩:=aS hk4;obtain⟨d6,hk6⟩:=aS hk5;obtain⟨d7,hk7⟩:=aS hk6;obtain⟨d8,hk8⟩:=aS hk7;obtain rfl:=of_decide_eq_true d0;obtain rfl:=of_decide_eq_true d1;obtain rfl:=of_decide_eq_true d2;obtain rfl:=of_decide_eq_true d3;obtain rfl:=of_decide_eq_true d4;obtain rfl:=of_decide_eq_true d5;obtain rfl:=of_decide_eq_true d6;obtain rfl:=of_decide_eq_true d7;obtain rfl:=of_decide_eq_true d8;rw[←hr];rfl
 ·simp at h
theorem bTA:cK (qU true false 0 [1,4,7,8] aO3 aVY aG6 YM 9223372036854775808) (eY R 0 9223372036854775808 (.loop [1,4,7,8] a25)):=dD (cL aEK (bT (l:=[]) (by kernel_rfl) trivial)) bS9 bS8
def bTB:Lp:=(22,qU true false 0 [1,4,7,8] aO3 aVY aG6 YM 9223372036854775808)::[]
def aVZ(v:V28_0):V28_0:=(hid (dB YM 9223372036854775808 v)).getD v
def bAU(v:V28_0):Bool:=(hid (dB YM 9223372036854775808 v)).isSome
section
variable(a:bA)(b:Int)
def G0:V28_0:=(aVZ (V28_0.mk (bA.mk (aD.mk (aE.mk [] [] 0 0 0 0 false false) (bC.mk [] []) false false) 0 false) (NR a) b []))
def aG7:Bool:=((e1 (ln (G0 a b).s8))&&true)
def aG8:Bool:=((bV (NR (G0 a b).b1) true)&&(aG7 a b))
end
def T28(a:bA)(b:Int):Pt (bA×List Row×Bool):=(ot (.ok ((bRN a)&&((((wB b 0 60)&&true)||(!(bI1 a)))&&true)) (.br (bif (!(bI1 a))then true else(!(tU b 0 60))) (ot (ot (ot (.leaf ((bA.mk (aD.mk (aE.mk [] [] 0 0 0 0 false false) (bC.mk [] []) false false) 0 false),[],false))))) (.ok ((a8U a)&&true) (ot (.ok (((bV (NR a) true)&&(bV (NR a) true))&&true) (.ok (bV (NR a) true) (.ok (bAU (V28_0.mk (bA.mk (aD.mk (aE.mk [] [] 0 0 0 0 false false) (bC.mk [] []) false false) 0 false) (NR a) b [])) (.ok ((((bV (G0 a b).b1 true)&&true)&&(a8U (G0 a b).b1))&&true) (.ok ((bV (NR (G0 a b).b1) (aG7 a b))&&(aG8 a b)) (.ok (aG8 a b) (.leaf ((NR (G0 a b).b1),(G0 a b).s8,true)))))))))))))
def g28(a:bA)(b:Int):bA×List Row×Bool:=hid (T28 a b).val
def k28(a:bA)(b:Int):Bool:=hid (T28 a b).okv
def q28:=bIN (fun a b=>n27 a b (g28 a b)) k28
theorem cCE:eS (fun live x=>cK (lH bTB (kH x)) (eY R 0 9223372036854775808 (.loop live x))) (nK 28).body:=(bT (l:=[([1,4,7,8],a25)]) (by kernel_rfl) ⟨eP (n:=22) (by kernel_rfl) fun σ σr t h ho hl=>bTA σ σr t h ho hl,trivial⟩)
theorem t28:cD 100028 q28:=a76 fun a b hk=>tzl aEK cCE [] [] true (T28 a b) (n27 a b) hk
def Q28:=aX 100028 q28 Q115
theorem aO4:QO Q28:=aB t28 aEK
def cCF(a:List Row)(b:List Row):List SV:=[(.one (.imm true 1 a)),(.one (.imm true 1 b))]
def cCG(a:List Row)(b:List Row):List Blk:=[]
def bJ8(N:List Row→List Row→SV×List Blk)(K:List Row→List Row→Bool):List SV→List Blk→Option ((SV×List Blk)×Bool)
 |[(.one (.imm true 1 c0)),(.one (.imm true 1 c1))],[]=>some (N c0 c1,K c0 c1)
 |_,_=>none
theorem bAV{N:List Row→List Row→SV×List Blk}{K:List Row→List Row→Bool}{f:Nat}(h: ∀(a:List Row)(b:List Row),K a b=true→cY R f (cCF a b) (cCG a b)=some (N a b)):cD f (bJ8 N K):=fun _ _ _ e=>by
 unfold bJ8 at e;split at e
 ·exact vO e (h _ _)
 ·cases e
structure V24_0 where
 mk::
 (s0:List Row)
 (s1:List Row)
 (s12:Int)
 (s13:Int)
def YN(v:V24_0):Pt (Option V24_0):=(ot (.br (ltI v.s13 v.s12) (ot (.ok ((fU [.int .i64] v.s0 v.s13)&&((fU [.int .i64] v.s1 v.s13)&&true)) (.br (cU (bF v.s0 (iN v.s13) 0) (bF v.s1 (iN v.s13) 0)) (ot (.leaf none)) (ot (ot (.leaf (some {v with s13:=(aV v.s13 1)}))))))) (.leaf none)))
def aG9(v:V24_0):St:=⟨[(0,(.one (.imm true 1 v.s0))),(1,(.one (.imm true 1 v.s1))),(12,(.one (li v.s12))),(13,(.one (li v.s13)))],[]⟩
def aV0:St→Option (V24_0×Bool)
 |⟨[(0,(.one (.imm true 1 c0))),(1,(.one (.imm true 1 c1))),(12,(.one (li c2))),(13,(.one (li c3)))],[]⟩=>some ((V24_0.mk c0 c1 c2 c3),true)
 |_=>none
def aO5:St→Option (Pt Out):=vH Q28 ([]++CD 24) [] true [] 0 9223372036854775808 a23
theorem bTC(v:V24_0):((aO5 (aG9 v)).bind (pG true false 0 [0,1,12,13]))=some ((YN v).map (Option.map aG9)):=by kernel_rfl
theorem bTD(σ:St)(v:V24_0)(h:aV0 σ=some (v,true)):σ=aG9 v:=by
 unfold aV0 at h;split at h
 ·obtain⟨hr,hk⟩:=Prod.mk.inj (Option.some.inj h);rw[←hr];rfl
 ·simp at h
theorem bTE:cK (qU true false 0 [0,1,12,13] aO5 aV0 aG9 YN 9223372036854775808) (eY R 0 9223372036854775808 (.loop [0,1,12,13] a23)):=dD (cL aO4 (bT (l:=[]) (by kernel_rfl) trivial)) bTD bTC
def bTF:Lp:=(14,qU true false 0 [0,1,12,13] aO5 aV0 aG9 YN 9223372036854775808)::[]
def aV1(v:V24_0):V24_0:=(hid (dB YN 9223372036854775808 v)).getD v
def bAW(v:V24_0):Bool:=(hid (dB YN 9223372036854775808 v)).isSome
section
variable(a:List Row)(b:List Row)
def bAX:V24_0:=(aV1 (V24_0.mk a b (bN a) 0))
end
def T24(a:List Row)(b:List Row):Pt (Bool):=(ot (ot (.br (cU (bN a) (bN b)) (ot (ot (ot (.leaf false)))) (ot (ot (ot (.ok (bAW (V24_0.mk a b (bN a) 0)) (.br (ltI (bAX a b).s13 (bAX a b).s12) (ot (ot (.leaf false))) (ot (ot (ot (.leaf true))))))))))))
def g24(a:List Row)(b:List Row):Bool:=hid (T24 a b).val
def k24(a:List Row)(b:List Row):Bool:=hid (T24 a b).okv
def n24(a:List Row)(b:List Row)(r:Bool):SV×List Blk:=((.one (.lit (.bool r))),[])
def q24:=bJ8 (fun a b=>n24 a b (g24 a b)) k24
theorem cCH:eS (fun live x=>cK (lH bTF (kH x)) (eY R 0 9223372036854775808 (.loop live x))) (nK 24).body:=(bT (l:=[([0,1,12,13],a23)]) (by kernel_rfl) ⟨eP (n:=14) (by kernel_rfl) fun σ σr t h ho hl=>bTE σ σr t h ho hl,trivial⟩)
theorem t24:cD 100024 q24:=bAV fun a b hk=>tzl aO4 cCH [] [] true (T24 a b) (n24 a b) hk
def Q24:=aX 100024 q24 Q28
theorem bAY:QO Q24:=aB t24 aO4
def cCI(a:aE)(b:aE):List SV:=[(.agg [.imm true 1 a.D, .imm true 1 a.A,li a.Other,li a.PC,li a.Flags,li a.Mask, .lit (.bool a.Super), .lit (.bool a.Trace)]),(.agg [.imm true 1 b.D, .imm true 1 b.A,li b.Other,li b.PC,li b.Flags,li b.Mask, .lit (.bool b.Super), .lit (.bool b.Trace)])]
def cCJ(a:aE)(b:aE):List Blk:=[]
def bTH(N:aE→aE→SV×List Blk)(K:aE→aE→Bool):List SV→List Blk→Option ((SV×List Blk)×Bool)
 |[(.agg [.imm true 1 c0, .imm true 1 c1,li c2,li c3,li c4,li c5, .lit (.bool c6), .lit (.bool c7)]),(.agg [.imm true 1 c8, .imm true 1 c9,li c10,li c11,li c12,li c13, .lit (.bool c14), .lit (.bool c15)])],[]=>some (N (aE.mk c0 c1 c2 c3 c4 c5 c6 c7) (aE.mk c8 c9 c10 c11 c12 c13 c14 c15),K (aE.mk c0 c1 c2 c3 c4 c5 c6 c7) (aE.mk c8 c9 c10 c11 c12 c13 c14 c15))
 |_,_=>none
theorem bTI{N:aE→aE→SV×List Blk}{K:aE→aE→Bool}{f:Nat}(h: ∀(a:aE)(b:aE),K a b=true→cY R f (cCI a b) (cCJ a b)=some (N a b)):cD f (bTH N K):=fun _ _ _ e=>by
 unfold bTH at e;split at e
 ·exact vO e (h _ _)
 ·cases e
def bAZ(a:aE)(b:aE):Pt (Bool):=(ot (.ok ((k24 a.D b.D)&&((((k24 a.A b.A)&&true)||(!(g24 a.D b.D)))&&true)) (ot (ot (.leaf (bif (bif (bif (bif (bif (bif (bif (g24 a.D b.D)then(g24 a.A b.A)else false)then(eqI a.Other b.Other)else false)then(eqI a.PC b.PC)else false)then(eqI a.Flags b.Flags)else false)then(eqI a.Mask b.Mask)else false)then(yF a.Super b.Super)else false)then(yF a.Trace b.Trace)else false))))))
def bJ9(a:aE)(b:aE):Bool:=hid (bAZ a b).val
def bTJ(a:aE)(b:aE):Bool:=hid (bAZ a b).okv
def bZX(a:aE)(b:aE)(r:Bool):SV×List Blk:=((.one (.lit (.bool r))),[])
def q104:=bTH (fun a b=>bZX a b (bJ9 a b)) bTJ
theorem cCK:cD 100104 q104:=bTI fun a b hk=>tz bAY (bAZ a b) (bZX a b) hk
def Q104:=aX 100104 q104 Q24
theorem aEL:QO Q104:=aB cCK bAY
def cCL(a:List Row)(b:List Row):List SV:=[(.one (.imm true 5 a)),(.one (.imm true 5 b))]
def cCM(a:List Row)(b:List Row):List Blk:=[]
def bTK(N:List Row→List Row→SV×List Blk)(K:List Row→List Row→Bool):List SV→List Blk→Option ((SV×List Blk)×Bool)
 |[(.one (.imm true 5 c0)),(.one (.imm true 5 c1))],[]=>some (N c0 c1,K c0 c1)
 |_,_=>none
theorem bTL{N:List Row→List Row→SV×List Blk}{K:List Row→List Row→Bool}{f:Nat}(h: ∀(a:List Row)(b:List Row),K a b=true→cY R f (cCL a b) (cCM a b)=some (N a b)):cD f (bTK N K):=fun _ _ _ e=>by
 unfold bTK at e;split at e
 ·exact vO e (h _ _)
 ·cases e
structure V193_0 where
 mk::
 (s0:List Row)
 (s1:List Row)
 (s12:Int)
 (s13:Int)
def N0(v:V193_0):Pt (Option V193_0):=(ot (.br (ltI v.s13 v.s12) (ot (.ok ((fU [.int .i64, .int .i64, .int .i64, .int .i64, .int .i64] v.s0 v.s13)&&((fU [.int .i64, .int .i64, .int .i64, .int .i64, .int .i64] v.s1 v.s13)&&true)) (.br (!((eqI (bF v.s0 (iN v.s13) 0) (bF v.s1 (iN v.s13) 0))&&((eqI (bF v.s0 (iN v.s13) 1) (bF v.s1 (iN v.s13) 1))&&((eqI (bF v.s0 (iN v.s13) 2) (bF v.s1 (iN v.s13) 2))&&((eqI (bF v.s0 (iN v.s13) 3) (bF v.s1 (iN v.s13) 3))&&((eqI (bF v.s0 (iN v.s13) 4) (bF v.s1 (iN v.s13) 4))&&true)))))) (ot (.leaf none)) (ot (ot (.leaf (some {v with s13:=(aV v.s13 1)}))))))) (.leaf none)))
def VC(v:V193_0):St:=⟨[(0,(.one (.imm true 5 v.s0))),(1,(.one (.imm true 5 v.s1))),(12,(.one (li v.s12))),(13,(.one (li v.s13)))],[]⟩
def aEM:St→Option (V193_0×Bool)
 |⟨[(0,(.one (.imm true 5 c0))),(1,(.one (.imm true 5 c1))),(12,(.one (li c2))),(13,(.one (li c3)))],[]⟩=>some ((V193_0.mk c0 c1 c2 c3),true)
 |_=>none
def aEN:St→Option (Pt Out):=vH Q104 ([]++CD 193) [] true [] 0 9223372036854775808 aJT
theorem bKA(v:V193_0):((aEN (VC v)).bind (pG true false 0 [0,1,12,13]))=some ((N0 v).map (Option.map VC)):=by kernel_rfl
theorem bKB(σ:St)(v:V193_0)(h:aEM σ=some (v,true)):σ=VC v:=by
 unfold aEM at h;split at h
 ·obtain⟨hr,hk⟩:=Prod.mk.inj (Option.some.inj h);rw[←hr];rfl
 ·simp at h
theorem bKC:cK (qU true false 0 [0,1,12,13] aEN aEM VC N0 9223372036854775808) (eY R 0 9223372036854775808 (.loop [0,1,12,13] aJT)):=dD (cL aEL (bT (l:=[]) (by kernel_rfl) trivial)) bKB bKA
def bKD:Lp:=(14,qU true false 0 [0,1,12,13] aEN aEM VC N0 9223372036854775808)::[]
def aEO(v:V193_0):V193_0:=(hid (dB N0 9223372036854775808 v)).getD v
def aO6(v:V193_0):Bool:=(hid (dB N0 9223372036854775808 v)).isSome
section
variable(a:List Row)(b:List Row)
def aO7:V193_0:=(aEO (V193_0.mk a b (bN a) 0))
end
def bA0(a:List Row)(b:List Row):Pt (Bool):=(ot (ot (.br (cU (bN a) (bN b)) (ot (ot (ot (.leaf false)))) (ot (ot (ot (.ok (aO6 (V193_0.mk a b (bN a) 0)) (.br (ltI (aO7 a b).s13 (aO7 a b).s12) (ot (ot (.leaf false))) (ot (ot (ot (.leaf true))))))))))))
def bTM(a:List Row)(b:List Row):Bool:=hid (bA0 a b).val
def bTN(a:List Row)(b:List Row):Bool:=hid (bA0 a b).okv
def q193:=bTK (fun a b=>n24 a b (bTM a b)) bTN
theorem bZY:eS (fun live x=>cK (lH bKD (kH x)) (eY R 0 9223372036854775808 (.loop live x))) (nK 193).body:=(bT (l:=[([0,1,12,13],aJT)]) (by kernel_rfl) ⟨eP (n:=14) (by kernel_rfl) fun σ σr t h ho hl=>bKC σ σr t h ho hl,trivial⟩)
theorem cCN:cD 100193 q193:=bTL fun a b hk=>tzl aEL bZY [] [] true (bA0 a b) (n24 a b) hk
def Q193:=aX 100193 q193 Q104
theorem aV3:QO Q193:=aB cCN aEL
def cCO(a:bC)(b:bC):List SV:=[(.agg [.imm true 1 a.Bytes, .imm true 5 a.Log]),(.agg [.imm true 1 b.Bytes, .imm true 5 b.Log])]
def cCP(a:bC)(b:bC):List Blk:=[]
def bTO(N:bC→bC→SV×List Blk)(K:bC→bC→Bool):List SV→List Blk→Option ((SV×List Blk)×Bool)
 |[(.agg [.imm true 1 c0, .imm true 5 c1]),(.agg [.imm true 1 c2, .imm true 5 c3])],[]=>some (N (bC.mk c0 c1) (bC.mk c2 c3),K (bC.mk c0 c1) (bC.mk c2 c3))
 |_,_=>none
theorem bTP{N:bC→bC→SV×List Blk}{K:bC→bC→Bool}{f:Nat}(h: ∀(a:bC)(b:bC),K a b=true→cY R f (cCO a b) (cCP a b)=some (N a b)):cD f (bTO N K):=fun _ _ _ e=>by
 unfold bTO at e;split at e
 ·exact vO e (h _ _)
 ·cases e
def bA1(a:bC)(b:bC):Pt (Bool):=(ot (.ok ((k24 a.Bytes b.Bytes)&&((((bTN a.Log b.Log)&&true)||(!(g24 a.Bytes b.Bytes)))&&true)) (ot (ot (.leaf (bif (g24 a.Bytes b.Bytes)then(bTM a.Log b.Log)else false))))))
def bTQ(a:bC)(b:bC):Bool:=hid (bA1 a b).val
def bTR(a:bC)(b:bC):Bool:=hid (bA1 a b).okv
def bZZ(a:bC)(b:bC)(r:Bool):SV×List Blk:=((.one (.lit (.bool r))),[])
def q105:=bTO (fun a b=>bZZ a b (bTQ a b)) bTR
theorem cCQ:cD 100105 q105:=bTP fun a b hk=>tz aV3 (bA1 a b) (bZZ a b) hk
def Q105:=aX 100105 q105 Q193
theorem aV4:QO Q105:=aB cCQ aV3
def cCR(a:aD)(b:aD):List SV:=[(.agg [.imm true 1 a.R.D, .imm true 1 a.R.A,li a.R.Other,li a.R.PC,li a.R.Flags,li a.R.Mask, .lit (.bool a.R.Super), .lit (.bool a.R.Trace), .imm true 1 a.Bus.Bytes, .imm true 5 a.Bus.Log, .lit (.bool a.Stop), .lit (.bool a.Halt)]),(.agg [.imm true 1 b.R.D, .imm true 1 b.R.A,li b.R.Other,li b.R.PC,li b.R.Flags,li b.R.Mask, .lit (.bool b.R.Super), .lit (.bool b.R.Trace), .imm true 1 b.Bus.Bytes, .imm true 5 b.Bus.Log, .lit (.bool b.Stop), .lit (.bool b.Halt)])]
def cCS(a:aD)(b:aD):List Blk:=[]
def bTS(N:aD→aD→SV×List Blk)(K:aD→aD→Bool):List SV→List Blk→Option ((SV×List Blk)×Bool)
 |[(.agg [.imm true 1 c0, .imm true 1 c1,li c2,li c3,li c4,li c5, .lit (.bool c6), .lit (.bool c7), .imm true 1 c8, .imm true 5 c9, .lit (.bool c10), .lit (.bool c11)]),(.agg [.imm true 1 c12, .imm true 1 c13,li c14,li c15,li c16,li c17, .lit (.bool c18), .lit (.bool c19), .imm true 1 c20, .imm true 5 c21, .lit (.bool c22), .lit (.bool c23)])],[]=>some (N (aD.mk (aE.mk c0 c1 c2 c3 c4 c5 c6 c7) (bC.mk c8 c9) c10 c11) (aD.mk (aE.mk c12 c13 c14 c15 c16 c17 c18 c19) (bC.mk c20 c21) c22 c23),K (aD.mk (aE.mk c0 c1 c2 c3 c4 c5 c6 c7) (bC.mk c8 c9) c10 c11) (aD.mk (aE.mk c12 c13 c14 c15 c16 c17 c18 c19) (bC.mk c20 c21) c22 c23))
 |_,_=>none
theorem bTT{N:aD→aD→SV×List Blk}{K:aD→aD→Bool}{f:Nat}(h: ∀(a:aD)(b:aD),K a b=true→cY R f (cCR a b) (cCS a b)=some (N a b)):cD f (bTS N K):=fun _ _ _ e=>by
 unfold bTS at e;split at e
 ·exact vO e (h _ _)
 ·cases e
def T23(a:aD)(b:aD):Pt (Bool):=(ot (.ok ((bTJ a.R b.R)&&((((bTR a.Bus b.Bus)&&true)||(!(bJ9 a.R b.R)))&&true)) (ot (ot (.leaf (bif (bif (bif (bJ9 a.R b.R)then(bTQ a.Bus b.Bus)else false)then(yF a.Stop b.Stop)else false)then(yF a.Halt b.Halt)else false))))))
def g23(a:aD)(b:aD):Bool:=hid (T23 a b).val
def k23(a:aD)(b:aD):Bool:=hid (T23 a b).okv
def n23(a:aD)(b:aD)(r:Bool):SV×List Blk:=((.one (.lit (.bool r))),[])
def q23:=bTS (fun a b=>n23 a b (g23 a b)) k23
theorem t23:cD 100023 q23:=bTT fun a b hk=>tz aV4 (T23 a b) (n23 a b) hk
def Q23:=aX 100023 q23 Q105
theorem bA2:QO Q23:=aB t23 aV4
def cCT(a:bA)(b:bA):List SV:=[(.agg [.imm true 1 a.Cpu.R.D, .imm true 1 a.Cpu.R.A,li a.Cpu.R.Other,li a.Cpu.R.PC,li a.Cpu.R.Flags,li a.Cpu.R.Mask, .lit (.bool a.Cpu.R.Super), .lit (.bool a.Cpu.R.Trace), .imm true 1 a.Cpu.Bus.Bytes, .imm true 5 a.Cpu.Bus.Log, .lit (.bool a.Cpu.Stop), .lit (.bool a.Cpu.Halt),li a.Line, .lit (.bool a.Edge)]),(.agg [.imm true 1 b.Cpu.R.D, .imm true 1 b.Cpu.R.A,li b.Cpu.R.Other,li b.Cpu.R.PC,li b.Cpu.R.Flags,li b.Cpu.R.Mask, .lit (.bool b.Cpu.R.Super), .lit (.bool b.Cpu.R.Trace), .imm true 1 b.Cpu.Bus.Bytes, .imm true 5 b.Cpu.Bus.Log, .lit (.bool b.Cpu.Stop), .lit (.bool b.Cpu.Halt),li b.Line, .lit (.bool b.Edge)])]
def cCU(a:bA)(b:bA):List Blk:=[]
def bTU(N:bA→bA→SV×List Blk)(K:bA→bA→Bool):List SV→List Blk→Option ((SV×List Blk)×Bool)
 |[(.agg [.imm true 1 c0, .imm true 1 c1,li c2,li c3,li c4,li c5, .lit (.bool c6), .lit (.bool c7), .imm true 1 c8, .imm true 5 c9, .lit (.bool c10), .lit (.bool c11),li c12, .lit (.bool c13)]),(.agg [.imm true 1 c14, .imm true 1 c15,li c16,li c17,li c18,li c19, .lit (.bool c20), .lit (.bool c21), .imm true 1 c22, .imm true 5 c23, .lit (.bool c24), .lit (.bool c25),li c26, .lit (.bool c27)])],[]=>some (N (bA.mk (aD.mk (aE.mk c0 c1 c2 c3 c4 c5 c6 c7) (bC.mk c8 c9) c10 c11) c12 c13) (bA.mk (aD.mk (aE.mk c14 c15 c16 c17 c18 c19 c20 c21) (bC.mk c22 c23) c24 c25) c26 c27),K (bA.mk (aD.mk (aE.mk c0 c1 c2 c3 c4 c5 c6 c7) (bC.mk c8 c9) c10 c11) c12 c13) (bA.mk (aD.mk (aE.mk c14 c15 c16 c17 c18 c19 c20 c21) (bC.mk c22 c23) c24 c25) c26 c27))
 |_,_=>none
theorem bTV{N:bA→bA→SV×List Blk}{K:bA→bA→Bool}{f:Nat}(h: ∀(a:bA)(b:bA),K a b=true→cY R f (cCT a b) (cCU a b)=some (N a b)):cD f (bTU N K):=fun _ _ _ e=>by
 unfold bTU at e;split at e
 ·exact vO e (h _ _)
 ·cases e
section
variable(a:bA)(b:bA)
def bA3:Bool:=(bif (eqI a.Line b.Line)then(yF a.Edge b.Edge)else false)
end
def T29(a:bA)(b:bA):Pt (Bool):=(ot (.ok ((((k23 a.Cpu b.Cpu)&&true)||(!(bA3 a b)))&&true) (ot (ot (.leaf (bif (bA3 a b)then(g23 a.Cpu b.Cpu)else false))))))
def g29(a:bA)(b:bA):Bool:=hid (T29 a b).val
def k29(a:bA)(b:bA):Bool:=hid (T29 a b).okv
def n29(a:bA)(b:bA)(r:Bool):SV×List Blk:=((.one (.lit (.bool r))),[])
def q29:=bTU (fun a b=>n29 a b (g29 a b)) k29
theorem t29:cD 100029 q29:=bTV fun a b hk=>tz bA2 (T29 a b) (n29 a b) hk
def Q29:=aX 100029 q29 Q23
theorem aO8:QO Q29:=aB t29 bA2
structure V25_0 where
 mk::
 (s3:Int)
 (s6:List Row)
 (s7:Int)
 (s8:Int)
def YO(v:V25_0):Pt (Option V25_0):=(ot (.br (ltI v.s8 v.s7) (.ok ((fU [.int .u8] v.s6 v.s8)&&true) (ot (ot (ot (.leaf (some {v with s3:=(kD (aV (cX 31 v.s3) (wA .i64 (bF v.s6 (iN v.s8) 0))) 1000003),s8:=(aV v.s8 1)})))))) (.leaf none)))
def aHA(v:V25_0):St:=⟨[(3,(.one (li v.s3))),(6,(.one (.imm true 1 v.s6))),(7,(.one (li v.s7))),(8,(.one (li v.s8)))],[]⟩
def aV5:St→Option (V25_0×Bool)
 |⟨[(3,(.one (li c0))),(6,(.one (.imm true 1 c1))),(7,(.one (li c2))),(8,(.one (li c3)))],[]⟩=>some ((V25_0.mk c0 c1 c2 c3),true)
 |_=>none
def aO9:St→Option (Pt Out):=vH Q29 ([]++CD 25) [] true [] 0 9223372036854775808 a24
theorem bTW(v:V25_0):((aO9 (aHA v)).bind (pG true false 0 [3,6,7,8]))=some ((YO v).map (Option.map aHA)):=by kernel_rfl
theorem bTX(σ:St)(v:V25_0)(h:aV5 σ=some (v,true)):σ=aHA v:=by
 unfold aV5 at h;split at h
 ·obtain⟨hr,hk⟩:=Prod.mk.inj (Option.some.inj h);rw[←hr];rfl
 ·simp at h
theorem bTY:cK (qU true false 0 [3,6,7,8] aO9 aV5 aHA YO 9223372036854775808) (eY R 0 9223372036854775808 (.loop [3,6,7,8] a24)):=dD (cL aO8 (bT (l:=[]) (by kernel_rfl) trivial)) bTX bTW
def bTZ:Lp:=(9,qU true false 0 [3,6,7,8] aO9 aV5 aHA YO 9223372036854775808)::[]
def bA4(v:V25_0):V25_0:=(hid (dB YO 9223372036854775808 v)).getD v
def bA5(v:V25_0):Bool:=(hid (dB YO 9223372036854775808 v)).isSome
def T25(a:List Row):Pt (Int):=(ot (ot (ot (ot (ot (.ok (bA5 (V25_0.mk 0 a (bN a) 0)) (ot (ot (ot (.leaf (bA4 (V25_0.mk 0 a (bN a) 0)).s3))))))))))
def g25(a:List Row):Int:=hid (T25 a).val
def k25(a:List Row):Bool:=hid (T25 a).okv
def q25:=aBD (fun a=>aGT a (g25 a)) k25
theorem cCW:eS (fun live x=>cK (lH bTZ (kH x)) (eY R 0 9223372036854775808 (.loop live x))) (nK 25).body:=(bT (l:=[([3,6,7,8],a24)]) (by kernel_rfl) ⟨eP (n:=9) (by kernel_rfl) fun σ σr t h ho hl=>bTY σ σr t h ho hl,trivial⟩)
theorem t25:cD 100025 q25:=IN fun a hk=>tzl aO8 cCW [] [] true (T25 a) (aGT a) hk
def Q25:=aX 100025 q25 Q29
theorem aPA:QO Q25:=aB t25 aO8
structure V30_0 where
 mk::
 (b0:aD)
 (b1:aG)
 (b2:aD)
 (s6:List Row)
 (s7:Int)
section
variable(v:V30_0)
def AB:aG×Int:=(rE [(aL (-1)),(aL (-1)),(aL (-1)),(aL (-1)),(aL 0),(aL 2),(aL 5),(aL 7),(aL 3),(aL 9)] v.b1)
def FT:Nat:=(ln (v.s6++[(aL (AB v).2)]))
end
def YP(v:V30_0):Pt (Option V30_0):=(ot (.br (kV v.s7 0) (.ok ((z8 [(aL (-1)),(aL (-1)),(aL (-1)),(aL (-1)),(aL 0),(aL 2),(aL 5),(aL 7),(aL 3),(aL 9)] v.b1)&&(((e1 (ln v.s6))&&((cV (0+(ln v.s6)) (ln v.s6))&&((lJ (mA ((ln v.s6)+1) 8) 140737488355328)&&(lJ ((ln v.s6)+1) 140737488355328))))&&true)) (ot (.ok (((aI v.b0 true)&&((aI v.b2 true)&&(aI v.b0 (aI v.b2 ((e1 (FT v))&&true)))))&&((e1 (FT v))&&true)) (.leaf (some (V30_0.mk v.b0 (AB v).1 v.b2 (v.s6++[(aL (AB v).2)]) (cF v.s7 1))))))) (.leaf none)))
def aHB(v:V30_0):St:=⟨[(2,(.one (.ptr 0 0 0))),(4,(.one (.ptr 1 0 0))),(5,(.one (.ptr 2 0 0))),(6,(.one (.sl 11 0 (ln v.s6)))),(7,(.one (li v.s7)))],[.box [.sl 3 0 (ln v.b0.R.D), .sl 4 0 (ln v.b0.R.A),li v.b0.R.Other,li v.b0.R.PC,li v.b0.R.Flags,li v.b0.R.Mask, .lit (.bool v.b0.R.Super), .lit (.bool v.b0.R.Trace), .sl 5 0 (ln v.b0.Bus.Bytes), .sl 6 0 (ln v.b0.Bus.Log), .lit (.bool v.b0.Stop), .lit (.bool v.b0.Halt)], .box [.imm true 1 v.b1.fcode,li v.b1.fat, .lit (.int .u64 v.b1.fseed)], .box [.sl 7 0 (ln v.b2.R.D), .sl 8 0 (ln v.b2.R.A),li v.b2.R.Other,li v.b2.R.PC,li v.b2.R.Flags,li v.b2.R.Mask, .lit (.bool v.b2.R.Super), .lit (.bool v.b2.R.Trace), .sl 9 0 (ln v.b2.Bus.Bytes), .sl 10 0 (ln v.b2.Bus.Log), .lit (.bool v.b2.Stop), .lit (.bool v.b2.Halt)], .lst 1 v.b0.R.D, .lst 1 v.b0.R.A, .lst 1 v.b0.Bus.Bytes, .lst 5 v.b0.Bus.Log, .lst 1 v.b2.R.D, .lst 1 v.b2.R.A, .lst 1 v.b2.Bus.Bytes, .lst 5 v.b2.Bus.Log, .lst 1 v.s6]⟩
def aV6:St→Option (V30_0×Bool)
 |⟨[(2,(.one (.ptr 0 0 0))),(4,(.one (.ptr 1 0 0))),(5,(.one (.ptr 2 0 0))),(6,(.one (.sl 11 0 l11))),(7,(.one (li c19)))],[.box [.sl 3 0 l3, .sl 4 0 l4,li c0,li c1,li c2,li c3, .lit (.bool c4), .lit (.bool c5), .sl 5 0 l5, .sl 6 0 l6, .lit (.bool c6), .lit (.bool c7)], .box [.imm true 1 c8,li c9, .lit (.int .u64 c10)], .box [.sl 7 0 l7, .sl 8 0 l8,li c11,li c12,li c13,li c14, .lit (.bool c15), .lit (.bool c16), .sl 9 0 l9, .sl 10 0 l10, .lit (.bool c17), .lit (.bool c18)], .lst 1 c_3, .lst 1 c_4, .lst 1 c_5, .lst 5 c_6, .lst 1 c_7, .lst 1 c_8, .lst 1 c_9, .lst 5 c_10, .lst 1 c_11]⟩=>some ((V30_0.mk (aD.mk (aE.mk c_3 c_4 c0 c1 c2 c3 c4 c5) (bC.mk c_5 c_6) c6 c7) (aG.mk c8 c9 c10) (aD.mk (aE.mk c_7 c_8 c11 c12 c13 c14 c15 c16) (bC.mk c_9 c_10) c17 c18) c_11 c19),cV l3 (ln c_3)&&(cV l4 (ln c_4)&&(cV l5 (ln c_5)&&(cV l6 (ln c_6)&&(cV l7 (ln c_7)&&(cV l8 (ln c_8)&&(cV l9 (ln c_9)&&(cV l10 (ln c_10)&&(cV l11 (ln c_11)&&(true))))))))))
 |_=>none
def aPB:St→Option (Pt Out):=vH Q25 ([]++CD 30) [] true [] 0 9223372036854775808 a26
theorem bT0(v:V30_0):((aPB (aHB v)).bind (pG true false 0 [2,4,5,6,7]))=some ((YP v).map (Option.map aHB)):=by kernel_rfl
theorem bT1(σ:St)(v:V30_0)(h:aV6 σ=some (v,true)):σ=aHB v:=by
 unfold aV6 at h;split at h
 ·obtain⟨hr,hk⟩:=Prod.mk.inj (Option.some.inj h);obtain⟨d0,hk0⟩:=aS hk;obtain⟨d1,hk1⟩:=aS hk0;obtain⟨d2,hk2⟩:=aS hk1;obtain⟨d3,hk3⟩:=aS hk2;obtain⟨d4,hk4⟩:=aS hk3;obtain⟨d5,hk5⟩:=aS hk4;obtain⟨d6,hk6⟩:=aS hk5;obtain⟨d7,hk7⟩:=aS hk6;obtain⟨d8,hk8⟩:=aS hk7;obtain rfl:=of_decide_eq_true d0;obtain rfl:=of_decide_eq_true d1;obtain rfl:=of_decide_eq_true d2;obtain rfl:=of_decide_eq_true d3;obtain rfl:=of_decide_eq_true d4;obtain rfl:=of_decide_eq_true d5;obtain rfl:=of_decide_eq_true d6;obtain rfl:=of_decide_eq_true d7;obtain rfl:=of_decide_eq_true d8;rw[←hr];rfl
 ·simp at h
theorem bT2:cK (qU true false 0 [2,4,5,6,7] aPB aV6 aHB YP 9223372036854775808) (eY R 0 9223372036854775808 (.loop [2,4,5,6,7] a26)):=dD (cL aPA (bT (l:=[]) (by kernel_rfl) trivial)) bT1 bT0
def bT3:Lp:=(20,qU true false 0 [2,4,5,6,7] aPB aV6 aHB YP 9223372036854775808)::[]
def VD(v:V30_0):V30_0:=(hid (dB YP 9223372036854775808 v)).getD v
def aHC(v:V30_0):Bool:=(hid (dB YP 9223372036854775808 v)).isSome
section
variable(a:List Row)
def K9:aG×Int:=(cO 20 (GZ (aG.mk a 0 0)).1)
def bA6:Bool:=(((aI (GZ (aG.mk a 0 0)).2 true)&&(aI (GZ (aG.mk a 0 0)).2 true))&&true)
def aHD:aG×Int:=(cO 3 (kX 20 (K9 a).1).1)
def YQ:V30_0:=(VD (V30_0.mk (aD.mk (aE.mk [] [] 0 0 0 0 false false) (bC.mk [] []) false false) (aHD a).1 (GZ (aG.mk a 0 0)).2 [] (aV 59 (aHD a).2)))
def bA7:Bool:=((e1 (ln (YQ a).s6))&&true)
def bA8:Bool:=((aI (YQ a).b2 true)&&(bA7 a))
def YR:V30_0:=(VD (V30_0.mk (aD.mk (aE.mk [] [] 0 0 0 0 false false) (bC.mk [] []) false false) (kX 20 (K9 a).1).1 (GZ (aG.mk a 0 0)).2 [] (K9 a).2))
def bA9:Bool:=((e1 (ln (YR a).s6))&&true)
def bBA:Bool:=((aI (YR a).b2 true)&&(bA9 a))
end
def T30(a:List Row):Pt (aD×List Row):=(ot (ot (.ok ((k81 (aG.mk a 0 0))&&true) (ot (.ok ((xG 20 (GZ (aG.mk a 0 0)).1)&&true) (.ok ((Z8 20 (K9 a).1)&&true) (.br (kX 20 (K9 a).1).2 (.ok ((xG 3 (kX 20 (K9 a).1).1)&&true) (.ok (bA6 a) (.ok (aI (GZ (aG.mk a 0 0)).2 true) (.ok (aHC (V30_0.mk (aD.mk (aE.mk [] [] 0 0 0 0 false false) (bC.mk [] []) false false) (aHD a).1 (GZ (aG.mk a 0 0)).2 [] (aV 59 (aHD a).2))) (ot (.ok ((aI (YQ a).b2 (bA7 a))&&(bA8 a)) (.ok (bA8 a) (.leaf ((YQ a).b2,(YQ a).s6))))))))) (.ok (bA6 a) (.ok (aI (GZ (aG.mk a 0 0)).2 true) (.ok (aHC (V30_0.mk (aD.mk (aE.mk [] [] 0 0 0 0 false false) (bC.mk [] []) false false) (kX 20 (K9 a).1).1 (GZ (aG.mk a 0 0)).2 [] (K9 a).2)) (ot (.ok ((aI (YR a).b2 (bA9 a))&&(bBA a)) (.ok (bBA a) (.leaf ((YR a).b2,(YR a).s6)))))))))))))))
def VE(a:List Row):aD×List Row:=hid (T30 a).val
def k30(a:List Row):Bool:=hid (T30 a).okv
def n30(a:List Row)(r:aD×List Row):SV×List Blk:=((.tup [(.agg [.imm true 1 r.1.R.D, .imm true 1 r.1.R.A,li r.1.R.Other,li r.1.R.PC,li r.1.R.Flags,li r.1.R.Mask, .lit (.bool r.1.R.Super), .lit (.bool r.1.R.Trace), .imm true 1 r.1.Bus.Bytes, .imm true 5 r.1.Bus.Log, .lit (.bool r.1.Stop), .lit (.bool r.1.Halt)]),(.one (.imm true 1 r.2))]),[])
def q30:=aBD (fun a=>n30 a (VE a)) k30
theorem cCX:eS (fun live x=>cK (lH bT3 (kH x)) (eY R 0 9223372036854775808 (.loop live x))) (nK 30).body:=(bT (l:=[([2,4,5,6,7],a26)]) (by kernel_rfl) ⟨eP (n:=20) (by kernel_rfl) fun σ σr t h ho hl=>bT2 σ σr t h ho hl,trivial⟩)
theorem t30:cD 100030 q30:=IN fun a hk=>tzl aPA cCX [] [] true (T30 a) (n30 a) hk
def Q30:=aX 100030 q30 Q25
theorem bBB:QO Q30:=aB t30 aPA
def T34(a:aD):Pt (bA×Bool):=(ot (.ok ((a49 a)&&true) (.br (!(aY4 a)) (ot (ot (.leaf ((bA.mk (aD.mk (aE.mk [] [] 0 0 0 0 false false) (bC.mk [] []) false false) 0 false),false)))) (.ok ((k88 a)&&true) (.ok ((aI (g88 a) true)&&((aI (g88 a) true)&&true)) (.leaf ((bA.mk (g88 a) 0 false),true)))))))
def g34(a:aD):bA×Bool:=hid (T34 a).val
def k34(a:aD):Bool:=hid (T34 a).okv
def n34(a:aD)(r:bA×Bool):SV×List Blk:=((.tup [(.agg [.sl 0 0 (ln r.1.Cpu.R.D), .sl 1 0 (ln r.1.Cpu.R.A),li r.1.Cpu.R.Other,li r.1.Cpu.R.PC,li r.1.Cpu.R.Flags,li r.1.Cpu.R.Mask, .lit (.bool r.1.Cpu.R.Super), .lit (.bool r.1.Cpu.R.Trace), .sl 2 0 (ln r.1.Cpu.Bus.Bytes), .sl 3 0 (ln r.1.Cpu.Bus.Log), .lit (.bool r.1.Cpu.Stop), .lit (.bool r.1.Cpu.Halt),li r.1.Line, .lit (.bool r.1.Edge)]),(.one (.lit (.bool r.2)))]),[.lst 1 r.1.Cpu.R.D, .lst 1 r.1.Cpu.R.A, .lst 1 r.1.Cpu.Bus.Bytes, .lst 5 r.1.Cpu.Bus.Log])
def q34:=aBS (fun a=>n34 a (g34 a)) k34
theorem t34:cD 34 q34:=IP fun a hk=>tc bBB (T34 a) (n34 a) hk
def Q34:=aX 34 q34 Q30
theorem bBC:QO Q34:=aB t34 bBB
def bBD(b:Int)(a:bA):Pt (bA):=(ot (ot (.ok (((bV a true)&&(bV a true))&&true) (.leaf (bA.mk a.Cpu b (bif a.Edge then true else(bif (eqI b 7)then(cU a.Line 7)else false)))))))
def bT4(b:Int)(a:bA):bA:=hid (bBD b a).val
def bT5(b:Int)(a:bA):Bool:=hid (bBD b a).okv
def bZ6(b:Int)(a:bA)(r:bA):SV×List Blk:=((.tup []),[.box [.sl 1 0 (ln r.Cpu.R.D), .sl 2 0 (ln r.Cpu.R.A),li r.Cpu.R.Other,li r.Cpu.R.PC,li r.Cpu.R.Flags,li r.Cpu.R.Mask, .lit (.bool r.Cpu.R.Super), .lit (.bool r.Cpu.R.Trace), .sl 3 0 (ln r.Cpu.Bus.Bytes), .sl 4 0 (ln r.Cpu.Bus.Log), .lit (.bool r.Cpu.Stop), .lit (.bool r.Cpu.Halt),li r.Line, .lit (.bool r.Edge)], .lst 1 r.Cpu.R.D, .lst 1 r.Cpu.R.A, .lst 1 r.Cpu.Bus.Bytes, .lst 5 r.Cpu.Bus.Log])
def q117:=bII (fun b a=>bZ6 b a (bT4 b a)) bT5
theorem cCZ:cD 117 q117:=a74 fun b a hk=>tc bBC (bBD b a) (bZ6 b a) hk
def Q117:=aX 117 q117 Q34
theorem aEP:QO Q117:=aB cCZ bBC
def cC0(a:aD)(b:List Row):List SV:=[(.agg [.imm true 1 a.R.D, .imm true 1 a.R.A,li a.R.Other,li a.R.PC,li a.R.Flags,li a.R.Mask, .lit (.bool a.R.Super), .lit (.bool a.R.Trace), .imm true 1 a.Bus.Bytes, .imm true 5 a.Bus.Log, .lit (.bool a.Stop), .lit (.bool a.Halt)]),(.one (.imm true 1 b))]
def cC1(a:aD)(b:List Row):List Blk:=[]
def bKE(N:aD→List Row→SV×List Blk)(K:aD→List Row→Bool):List SV→List Blk→Option ((SV×List Blk)×Bool)
 |[(.agg [.imm true 1 c0, .imm true 1 c1,li c2,li c3,li c4,li c5, .lit (.bool c6), .lit (.bool c7), .imm true 1 c8, .imm true 5 c9, .lit (.bool c10), .lit (.bool c11)]),(.one (.imm true 1 c12))],[]=>some (N (aD.mk (aE.mk c0 c1 c2 c3 c4 c5 c6 c7) (bC.mk c8 c9) c10 c11) c12,K (aD.mk (aE.mk c0 c1 c2 c3 c4 c5 c6 c7) (bC.mk c8 c9) c10 c11) c12)
 |_,_=>none
theorem bBE{N:aD→List Row→SV×List Blk}{K:aD→List Row→Bool}{f:Nat}(h: ∀(a:aD)(b:List Row),K a b=true→cY R f (cC0 a b) (cC1 a b)=some (N a b)):cD f (bKE N K):=fun _ _ _ e=>by
 unfold bKE at e;split at e
 ·exact vO e (h _ _)
 ·cases e
structure V31_0 where
 mk::
 (b0:bA)
 (b1:bA)
 (s9:List Row)
 (s26:List Row)
 (s27:Int)
 (s28:Int)
section
variable(v:V31_0)
def FU:Nat:=(ln (v.s9++[(aL (NL v.b1).2)]))
def AC:bA:=(bT4 (bF v.s26 (iN v.s28) 0) v.b1)
end
def YS(v:V31_0):Pt (Option V31_0):=(ot (.br (ltI v.s28 v.s27) (.ok ((fU [.int .i64] v.s26 v.s28)&&true) (ot (.br (eqI (bF v.s26 (iN v.s28) 0) (-1)) (.ok ((yG v.b1 (a73 v.b1))&&(((e1 (ln v.s9))&&((cV (0+(ln v.s9)) (ln v.s9))&&((lJ (mA ((ln v.s9)+1) 8) 140737488355328)&&(lJ ((ln v.s9)+1) 140737488355328))))&&true)) (ot (.ok (((bV v.b0 true)&&((bV (NL v.b1).1 true)&&(bV v.b0 (bV (NL v.b1).1 ((e1 (FU v))&&true)))))&&((e1 (FU v))&&true)) (.leaf (some {v with b1:=(NL v.b1).1,s9:=(v.s9++[(aL (NL v.b1).2)]),s28:=(aV v.s28 1)}))))) (.ok ((wF (bF v.s26 (iN v.s28) 0) 0 7)&&true) (.br (tW (bF v.s26 (iN v.s28) 0) 0 7) (.ok ((yG v.b1 (bT5 (bF v.s26 (iN v.s28) 0) v.b1))&&true) (ot (.ok (((bV v.b0 true)&&((bV (AC v) true)&&(bV v.b0 (bV (AC v) ((e1 (ln v.s9))&&true)))))&&((e1 (ln v.s9))&&true)) (.leaf (some {v with b1:=(AC v),s28:=(aV v.s28 1)}))))) (ot (.ok (((bV v.b0 true)&&((bV v.b1 true)&&(bV v.b0 (bV v.b1 ((e1 (ln v.s9))&&true)))))&&((e1 (ln v.s9))&&true)) (.leaf (some {v with s28:=(aV v.s28 1)}))))))))) (.leaf none)))
def aHE(v:V31_0):St:=⟨[(4,(.one (.ptr 0 0 0))),(7,(.one (.ptr 1 0 0))),(9,(.one (.sl 10 0 (ln v.s9)))),(26,(.one (.imm true 1 v.s26))),(27,(.one (li v.s27))),(28,(.one (li v.s28)))],[.box [.sl 2 0 (ln v.b0.Cpu.R.D), .sl 3 0 (ln v.b0.Cpu.R.A),li v.b0.Cpu.R.Other,li v.b0.Cpu.R.PC,li v.b0.Cpu.R.Flags,li v.b0.Cpu.R.Mask, .lit (.bool v.b0.Cpu.R.Super), .lit (.bool v.b0.Cpu.R.Trace), .sl 4 0 (ln v.b0.Cpu.Bus.Bytes), .sl 5 0 (ln v.b0.Cpu.Bus.Log), .lit (.bool v.b0.Cpu.Stop), .lit (.bool v.b0.Cpu.Halt),li v.b0.Line, .lit (.bool v.b0.Edge)], .box [.sl 6 0 (ln v.b1.Cpu.R.D), .sl 7 0 (ln v.b1.Cpu.R.A),li v.b1.Cpu.R.Other,li v.b1.Cpu.R.PC,li v.b1.Cpu.R.Flags,li v.b1.Cpu.R.Mask, .lit (.bool v.b1.Cpu.R.Super), .lit (.bool v.b1.Cpu.R.Trace), .sl 8 0 (ln v.b1.Cpu.Bus.Bytes), .sl 9 0 (ln v.b1.Cpu.Bus.Log), .lit (.bool v.b1.Cpu.Stop), .lit (.bool v.b1.Cpu.Halt),li v.b1.Line, .lit (.bool v.b1.Edge)], .lst 1 v.b0.Cpu.R.D, .lst 1 v.b0.Cpu.R.A, .lst 1 v.b0.Cpu.Bus.Bytes, .lst 5 v.b0.Cpu.Bus.Log, .lst 1 v.b1.Cpu.R.D, .lst 1 v.b1.Cpu.R.A, .lst 1 v.b1.Cpu.Bus.Bytes, .lst 5 v.b1.Cpu.Bus.Log, .lst 1 v.s9]⟩
def aV7:St→Option (V31_0×Bool)
 |⟨[(4,(.one (.ptr 0 0 0))),(7,(.one (.ptr 1 0 0))),(9,(.one (.sl 10 0 l10))),(26,(.one (.imm true 1 c20))),(27,(.one (li c21))),(28,(.one (li c22)))],[.box [.sl 2 0 l2, .sl 3 0 l3,li c0,li c1,li c2,li c3, .lit (.bool c4), .lit (.bool c5), .sl 4 0 l4, .sl 5 0 l5, .lit (.bool c6), .lit (.bool c7),li c8, .lit (.bool c9)], .box [.sl 6 0 l6, .sl 7 0 l7,li c10,li c11,li c12,li c13, .lit (.bool c14), .lit (.bool c15), .sl 8 0 l8, .sl 9 0 l9, .lit (.bool c16), .lit (.bool c17),li c18, .lit (.bool c19)], .lst 1 c_2, .lst 1 c_3, .lst 1 c_4, .lst 5 c_5, .lst 1 c_6, .lst 1 c_7, .lst 1 c_8, .lst 5 c_9, .lst 1 c_10]⟩=>some ((V31_0.mk (bA.mk (aD.mk (aE.mk c_2 c_3 c0 c1 c2 c3 c4 c5) (bC.mk c_4 c_5) c6 c7) c8 c9) (bA.mk (aD.mk (aE.mk c_6 c_7 c10 c11 c12 c13 c14 c15) (bC.mk c_8 c_9) c16 c17) c18 c19) c_10 c20 c21 c22),cV l2 (ln c_2)&&(cV l3 (ln c_3)&&(cV l4 (ln c_4)&&(cV l5 (ln c_5)&&(cV l6 (ln c_6)&&(cV l7 (ln c_7)&&(cV l8 (ln c_8)&&(cV l9 (ln c_9)&&(cV l10 (ln c_10)&&(true))))))))))
 |_=>none
def aPC:St→Option (Pt Out):=vH Q117 ([]++CD 31) [] true [] 0 9223372036854775808 a27
theorem bT6(v:V31_0):((aPC (aHE v)).bind (pG true false 0 [4,7,9,26,27,28]))=some ((YS v).map (Option.map aHE)):=by kernel_rfl
theorem bT7(σ:St)(v:V31_0)(h:aV7 σ=some (v,true)):σ=aHE v:=by
 unfold aV7 at h;split at h
 ·obtain⟨hr,hk⟩:=Prod.mk.inj (Option.some.inj h);obtain⟨d0,hk0⟩:=aS hk;obtain⟨d1,hk1⟩:=aS hk0;obtain⟨d2,hk2⟩:=aS hk1;obtain⟨d3,hk3⟩:=aS hk2;obtain⟨d4,hk4⟩:=aS hk3;obtain⟨d5,hk5⟩:=aS hk4;obtain⟨d6,hk6⟩:=aS hk5;obtain⟨d7,hk7⟩:=aS hk6;obtain⟨d8,hk8⟩:=aS hk7;obtain rfl:=of_decide_eq_true d0;obtain rfl:=of_decide_eq_true d1;obtain rfl:=of_decide_eq_true d2;obtain rfl:=of_decide_eq_true d3;obtain rfl:=of_decide_eq_true d4;obtain rfl:=of_decide_eq_true d5;obtain rfl:=of_decide_eq_true d6;obtain rfl:=of_decide_eq_true d7;obtain rfl:=of_decide_eq_true d8;rw[←hr];rfl
 ·simp at h
theorem bT8:cK (qU true false 0 [4,7,9,26,27,28] aPC aV7 aHE YS 9223372036854775808) (eY R 0 9223372036854775808 (.loop [4,7,9,26,27,28] a27)):=dD (cL aEP (bT (l:=[]) (by kernel_rfl) trivial)) bT7 bT6
def bT9:Lp:=(29,qU true false 0 [4,7,9,26,27,28] aPC aV7 aHE YS 9223372036854775808)::[]
def aV8(v:V31_0):V31_0:=(hid (dB YS 9223372036854775808 v)).getD v
def bBF(v:V31_0):Bool:=(hid (dB YS 9223372036854775808 v)).isSome
section
variable(a:aD)(b:List Row)
def OY:V31_0:=(aV8 (V31_0.mk (bA.mk (aD.mk (aE.mk [] [] 0 0 0 0 false false) (bC.mk [] []) false false) 0 false) (g34 a).1 [] b (bN b) 0))
def aHF:Bool:=((e1 (ln (OY a b).s9))&&true)
def aHG:Bool:=((bV (OY a b).b1 true)&&(aHF a b))
end
def T31(a:aD)(b:List Row):Pt (bA×List Row×Bool):=(ot (.ok ((k34 a)&&true) (ot (.br (bif (!(g34 a).2)then true else(kV (bN b) 60)) (ot (ot (ot (.leaf ((bA.mk (aD.mk (aE.mk [] [] 0 0 0 0 false false) (bC.mk [] []) false false) 0 false),[],false))))) (ot (ot (.ok (((bV (g34 a).1 true)&&(bV (g34 a).1 true))&&true) (.ok (bV (g34 a).1 true) (.ok (bBF (V31_0.mk (bA.mk (aD.mk (aE.mk [] [] 0 0 0 0 false false) (bC.mk [] []) false false) 0 false) (g34 a).1 [] b (bN b) 0)) (ot (.ok ((bV (OY a b).b1 (aHF a b))&&(aHG a b)) (.ok (aHG a b) (.leaf ((OY a b).b1,(OY a b).s9,true))))))))))))))
def g31(a:aD)(b:List Row):bA×List Row×Bool:=hid (T31 a b).val
def k31(a:aD)(b:List Row):Bool:=hid (T31 a b).okv
def n31(a:aD)(b:List Row)(r:bA×List Row×Bool):SV×List Blk:=((.tup [(.agg [.imm true 1 r.1.Cpu.R.D, .imm true 1 r.1.Cpu.R.A,li r.1.Cpu.R.Other,li r.1.Cpu.R.PC,li r.1.Cpu.R.Flags,li r.1.Cpu.R.Mask, .lit (.bool r.1.Cpu.R.Super), .lit (.bool r.1.Cpu.R.Trace), .imm true 1 r.1.Cpu.Bus.Bytes, .imm true 5 r.1.Cpu.Bus.Log, .lit (.bool r.1.Cpu.Stop), .lit (.bool r.1.Cpu.Halt),li r.1.Line, .lit (.bool r.1.Edge)]),(.one (.imm true 1 r.2.1)),(.one (.lit (.bool r.2.2)))]),[])
def q31:=bKE (fun a b=>n31 a b (g31 a b)) k31
theorem cC2:eS (fun live x=>cK (lH bT9 (kH x)) (eY R 0 9223372036854775808 (.loop live x))) (nK 31).body:=(bT (l:=[([4,7,9,26,27,28],a27)]) (by kernel_rfl) ⟨eP (n:=29) (by kernel_rfl) fun σ σr t h ho hl=>bT8 σ σr t h ho hl,trivial⟩)
theorem t31:cD 100031 q31:=bBE fun a b hk=>tzl aEP cC2 [] [] true (T31 a b) (n31 a b) hk
def Q31:=aX 100031 q31 Q117
theorem bBG:QO Q31:=aB t31 aEP
def T35(a:aD):Pt (bA×Bool):=(ot (.ok ((k90 a)&&true) (.br (!(g90 a)) (ot (ot (.leaf ((bA.mk (aD.mk (aE.mk [] [] 0 0 0 0 false false) (bC.mk [] []) false false) 0 false),false)))) (.ok ((aNN a)&&true) (.ok ((aI (CH a) true)&&((aI (CH a) true)&&true)) (.leaf ((bA.mk (CH a) 0 false),true)))))))
def g35(a:aD):bA×Bool:=hid (T35 a).val
def k35(a:aD):Bool:=hid (T35 a).okv
def q35:=aBS (fun a=>n34 a (g35 a)) k35
theorem t35:cD 35 q35:=IP fun a hk=>tc bBG (T35 a) (n34 a) hk
def Q35:=aX 35 q35 Q31
theorem bBH:QO Q35:=aB t35 bBG
def cC4(a:bA)(b:Int):List SV:=[(.agg [.sl 0 0 (ln a.Cpu.R.D), .sl 1 0 (ln a.Cpu.R.A),li a.Cpu.R.Other,li a.Cpu.R.PC,li a.Cpu.R.Flags,li a.Cpu.R.Mask, .lit (.bool a.Cpu.R.Super), .lit (.bool a.Cpu.R.Trace), .sl 2 0 (ln a.Cpu.Bus.Bytes), .sl 3 0 (ln a.Cpu.Bus.Log), .lit (.bool a.Cpu.Stop), .lit (.bool a.Cpu.Halt),li a.Line, .lit (.bool a.Edge)]),(.one (li b))]
def cC5(a:bA)(b:Int):List Blk:=[.lst 1 a.Cpu.R.D, .lst 1 a.Cpu.R.A, .lst 1 a.Cpu.Bus.Bytes, .lst 5 a.Cpu.Bus.Log]
def bUA(N:bA→Int→SV×List Blk)(K:bA→Int→Bool):List SV→List Blk→Option ((SV×List Blk)×Bool)
 |[(.agg [.sl 0 0 l0, .sl 1 0 l1,li c0,li c1,li c2,li c3, .lit (.bool c4), .lit (.bool c5), .sl 2 0 l2, .sl 3 0 l3, .lit (.bool c6), .lit (.bool c7),li c8, .lit (.bool c9)]),(.one (li c10))],[.lst 1 c_0, .lst 1 c_1, .lst 1 c_2, .lst 5 c_3]=>some (N (bA.mk (aD.mk (aE.mk c_0 c_1 c0 c1 c2 c3 c4 c5) (bC.mk c_2 c_3) c6 c7) c8 c9) c10,cV l0 (ln c_0)&&(cV l1 (ln c_1)&&(cV l2 (ln c_2)&&(cV l3 (ln c_3)&&(K (bA.mk (aD.mk (aE.mk c_0 c_1 c0 c1 c2 c3 c4 c5) (bC.mk c_2 c_3) c6 c7) c8 c9) c10)))))
 |_,_=>none
theorem bUB{N:bA→Int→SV×List Blk}{K:bA→Int→Bool}{f:Nat}(h: ∀(a:bA)(b:Int),K a b=true→cY R f (cC4 a b) (cC5 a b)=some (N a b)):cD f (bUA N K):=fun args hp r e=>by
 unfold bUA at e;split at e
 ·rename_i l0 l1 c0 c1 c2 c3 c4 c5 l2 l3 c6 c7 c8 c9 c10 c_0 c_1 c_2 c_3;obtain⟨hr,hk⟩:=Prod.mk.inj (Option.some.inj e);obtain⟨d0,hk0⟩:=aS hk;obtain⟨d1,hk1⟩:=aS hk0;obtain⟨d2,hk2⟩:=aS hk1;obtain⟨d3,hk3⟩:=aS hk2;obtain rfl:=of_decide_eq_true d0;obtain rfl:=of_decide_eq_true d1;obtain rfl:=of_decide_eq_true d2;obtain rfl:=of_decide_eq_true d3;rw[←hr];exact h (bA.mk (aD.mk (aE.mk c_0 c_1 c0 c1 c2 c3 c4 c5) (bC.mk c_2 c_3) c6 c7) c8 c9) c10 hk3
 ·simp at e
section
variable(a:bA)
def aPD:Bool:=((bV a true)&&((bV a true)&&true))
end
def bBI(a:bA)(b:Int):Pt (bA):=(ot (ot (.br (bif (eqI b 7)then(cU a.Line 7)else false) (ot (ot (ot (.ok (aPD a) (.leaf (bA.mk a.Cpu b true)))))) (ot (ot (.ok (aPD a) (.leaf {a with Line:=b})))))))
def bUC(a:bA)(b:Int):bA:=hid (bBI a b).val
def bUD(a:bA)(b:Int):Bool:=hid (bBI a b).okv
def q118:=bUA (fun a b=>bJK a b (bUC a b)) bUD
theorem cC6:cD 118 q118:=bUB fun a b hk=>tc bBH (bBI a b) (bJK a b) hk
def Q118:=aX 118 q118 Q35
theorem aEQ:QO Q118:=aB cC6 bBH
structure V32_0 where
 mk::
 (b0:bA)
 (b1:bA)
 (s9:List Row)
 (s27:List Row)
 (s28:Int)
 (s29:Int)
section
variable(v:V32_0)
def FV:Bool:=((bV v.b1 true)&&((bV v.b1 true)&&true))
def AD:bA:=(bUC v.b1 (bF v.s27 (iN v.s29) 0))
def FX:Nat:=(ln (v.s9++[(aL (NZ v.b1).2)]))
end
def YT(v:V32_0):Pt (Option V32_0):=(ot (.br (ltI v.s29 v.s28) (.ok ((fU [.int .i64] v.s27 v.s29)&&true) (.ok ((wB (bF v.s27 (iN v.s29) 0) 0 7)&&true) (.br (tU (bF v.s27 (iN v.s29) 0) 0 7) (.ok (((FV v)&&(bV v.b1 (bUD v.b1 (bF v.s27 (iN v.s29) 0))))&&true) (ot (.ok (((bV v.b0 true)&&((bV (AD v) true)&&(bV v.b0 (bV (AD v) ((e1 (ln v.s9))&&true)))))&&((e1 (ln v.s9))&&true)) (.leaf (some {v with b1:=(AD v),s29:=(aV v.s29 1)}))))) (ot (.br (eqI (bF v.s27 (iN v.s29) 0) (-1)) (.ok (((FV v)&&(bV v.b1 (bAT v.b1)))&&true) (ot (.ok (((e1 (ln v.s9))&&((cV (0+(ln v.s9)) (ln v.s9))&&((lJ (mA ((ln v.s9)+1) 8) 140737488355328)&&(lJ ((ln v.s9)+1) 140737488355328))))&&true) (ot (.ok (((bV v.b0 true)&&((bV (NZ v.b1).1 true)&&(bV v.b0 (bV (NZ v.b1).1 ((e1 (FX v))&&true)))))&&((e1 (FX v))&&true)) (.leaf (some {v with b1:=(NZ v.b1).1,s9:=(v.s9++[(aL (NZ v.b1).2)]),s29:=(aV v.s29 1)}))))))) (ot (.ok (((bV v.b0 true)&&((bV v.b1 true)&&(bV v.b0 (bV v.b1 ((e1 (ln v.s9))&&true)))))&&((e1 (ln v.s9))&&true)) (.leaf (some {v with s29:=(aV v.s29 1)}))))))))) (.leaf none)))
def aHH(v:V32_0):St:=⟨[(4,(.one (.ptr 0 0 0))),(7,(.one (.ptr 1 0 0))),(9,(.one (.sl 10 0 (ln v.s9)))),(27,(.one (.imm true 1 v.s27))),(28,(.one (li v.s28))),(29,(.one (li v.s29)))],[.box [.sl 2 0 (ln v.b0.Cpu.R.D), .sl 3 0 (ln v.b0.Cpu.R.A),li v.b0.Cpu.R.Other,li v.b0.Cpu.R.PC,li v.b0.Cpu.R.Flags,li v.b0.Cpu.R.Mask, .lit (.bool v.b0.Cpu.R.Super), .lit (.bool v.b0.Cpu.R.Trace), .sl 4 0 (ln v.b0.Cpu.Bus.Bytes), .sl 5 0 (ln v.b0.Cpu.Bus.Log), .lit (.bool v.b0.Cpu.Stop), .lit (.bool v.b0.Cpu.Halt),li v.b0.Line, .lit (.bool v.b0.Edge)], .box [.sl 6 0 (ln v.b1.Cpu.R.D), .sl 7 0 (ln v.b1.Cpu.R.A),li v.b1.Cpu.R.Other,li v.b1.Cpu.R.PC,li v.b1.Cpu.R.Flags,li v.b1.Cpu.R.Mask, .lit (.bool v.b1.Cpu.R.Super), .lit (.bool v.b1.Cpu.R.Trace), .sl 8 0 (ln v.b1.Cpu.Bus.Bytes), .sl 9 0 (ln v.b1.Cpu.Bus.Log), .lit (.bool v.b1.Cpu.Stop), .lit (.bool v.b1.Cpu.Halt),li v.b1.Line, .lit (.bool v.b1.Edge)], .lst 1 v.b0.Cpu.R.D, .lst 1 v.b0.Cpu.R.A, .lst 1 v.b0.Cpu.Bus.Bytes, .lst 5 v.b0.Cpu.Bus.Log, .lst 1 v.b1.Cpu.R.D, .lst 1 v.b1.Cpu.R.A, .lst 1 v.b1.Cpu.Bus.Bytes, .lst 5 v.b1.Cpu.Bus.Log, .lst 1 v.s9]⟩
def aV9:St→Option (V32_0×Bool)
 |⟨[(4,(.one (.ptr 0 0 0))),(7,(.one (.ptr 1 0 0))),(9,(.one (.sl 10 0 l10))),(27,(.one (.imm true 1 c20))),(28,(.one (li c21))),(29,(.one (li c22)))],[.box [.sl 2 0 l2, .sl 3 0 l3,li c0,li c1,li c2,li c3, .lit (.bool c4), .lit (.bool c5), .sl 4 0 l4, .sl 5 0 l5, .lit (.bool c6), .lit (.bool c7),li c8, .lit (.bool c9)], .box [.sl 6 0 l6, .sl 7 0 l7,li c10,li c11,li c12,li c13, .lit (.bool c14), .lit (.bool c15), .sl 8 0 l8, .sl 9 0 l9, .lit (.bool c16), .lit (.bool c17),li c18, .lit (.bool c19)], .lst 1 c_2, .lst 1 c_3, .lst 1 c_4, .lst 5 c_5, .lst 1 c_6, .lst 1 c_7, .lst 1 c_8, .lst 5 c_9, .lst 1 c_10]⟩=>some ((V32_0.mk (bA.mk (aD.mk (aE.mk c_2 c_3 c0 c1 c2 c3 c4 c5) (bC.mk c_4 c_5) c6 c7) c8 c9) (bA.mk (aD.mk (aE.mk c_6 c_7 c10 c11 c12 c13 c14 c15) (bC.mk c_8 c_9) c16 c17) c18 c19) c_10 c20 c21 c22),cV l2 (ln c_2)&&(cV l3 (ln c_3)&&(cV l4 (ln c_4)&&(cV l5 (ln c_5)&&(cV l6 (ln c_6)&&(cV l7 (ln c_7)&&(cV l8 (ln c_8)&&(cV l9 (ln c_9)&&(cV l10 (ln c_10)&&(true))))))))))
 |_=>none
def aPE:St→Option (Pt Out):=vH Q118 ([]++CD 32) [] true [] 0 9223372036854775808 a28
theorem bUE(v:V32_0):((aPE (aHH v)).bind (pG true false 0 [4,7,9,27,28,29]))=some ((YT v).map (Option.map aHH)):=by kernel_rfl
theorem bUF(σ:St)(v:V32_0)(h:aV9 σ=some (v,true)):σ=aHH v:=by
 unfold aV9 at h;split at h
 ·obtain⟨hr,hk⟩:=Prod.mk.inj (Option.some.inj h);obtain⟨d0,hk0⟩:=aS hk;obtain⟨d1,hk1⟩:=aS hk0;obtain⟨d2,hk2⟩:=aS hk1;obtain⟨d3,hk3⟩:=aS hk2;obtain⟨d4,hk4⟩:=aS hk3;obtain⟨d5,hk5⟩:=aS hk4;obtain⟨d6,hk6⟩:=aS hk5;obtain⟨d7,hk7⟩:=aS hk6;obtain⟨d8,hk8⟩:=aS hk7;obtain rfl:=of_decide_eq_true d0;obtain rfl:=of_decide_eq_true d1;obtain rfl:=of_decide_eq_true d2;obtain rfl:=of_decide_eq_true d3;obtain rfl:=of_decide_eq_true d4;obtain rfl:=of_decide_eq_true d5;obtain rfl:=of_decide_eq_true d6;obtain rfl:=of_decide_eq_true d7;obtain rfl:=of_decide_eq_true d8;rw[←hr];rfl
 ·simp at h
theorem bUG:cK (qU true false 0 [4,7,9,27,28,29] aPE aV9 aHH YT 9223372036854775808) (eY R 0 9223372036854775808 (.loop [4,7,9,27,28,29] a28)):=dD (cL aEQ (bT (l:=[]) (by kernel_rfl) trivial)) bUF bUE
def bUH:Lp:=(30,qU true false 0 [4,7,9,27,28,29] aPE aV9 aHH YT 9223372036854775808)::[]
def aWA(v:V32_0):V32_0:=(hid (dB YT 9223372036854775808 v)).getD v
def bBJ(v:V32_0):Bool:=(hid (dB YT 9223372036854775808 v)).isSome
section
variable(a:aD)(b:List Row)
def G1:V32_0:=(aWA (V32_0.mk (bA.mk (aD.mk (aE.mk [] [] 0 0 0 0 false false) (bC.mk [] []) false false) 0 false) (g35 a).1 [] b (bN b) 0))
def aHI:Bool:=((e1 (ln (G1 a b).s9))&&true)
def aHJ:Bool:=((bV (NR (G1 a b).b1) true)&&(aHI a b))
end
def T32(a:aD)(b:List Row):Pt (bA×List Row×Bool):=(ot (.ok ((k35 a)&&true) (ot (.br (bif (!(g35 a).2)then true else(kV (bN b) 60)) (ot (ot (ot (.leaf ((bA.mk (aD.mk (aE.mk [] [] 0 0 0 0 false false) (bC.mk [] []) false false) 0 false),[],false))))) (ot (ot (.ok (((bV (g35 a).1 true)&&(bV (g35 a).1 true))&&true) (.ok (bV (g35 a).1 true) (.ok (bBJ (V32_0.mk (bA.mk (aD.mk (aE.mk [] [] 0 0 0 0 false false) (bC.mk [] []) false false) 0 false) (g35 a).1 [] b (bN b) 0)) (.ok ((((bV (G1 a b).b1 true)&&true)&&(a8U (G1 a b).b1))&&true) (.ok ((bV (NR (G1 a b).b1) (aHI a b))&&(aHJ a b)) (.ok (aHJ a b) (.leaf ((NR (G1 a b).b1),(G1 a b).s9,true))))))))))))))
def g32(a:aD)(b:List Row):bA×List Row×Bool:=hid (T32 a b).val
def k32(a:aD)(b:List Row):Bool:=hid (T32 a b).okv
def q32:=bKE (fun a b=>n31 a b (g32 a b)) k32
theorem cC7:eS (fun live x=>cK (lH bUH (kH x)) (eY R 0 9223372036854775808 (.loop live x))) (nK 32).body:=(bT (l:=[([4,7,9,27,28,29],a28)]) (by kernel_rfl) ⟨eP (n:=30) (by kernel_rfl) fun σ σr t h ho hl=>bUG σ σr t h ho hl,trivial⟩)
theorem t32:cD 100032 q32:=bBE fun a b hk=>tzl aEQ cC7 [] [] true (T32 a b) (n31 a b) hk
def Q32:=aX 100032 q32 Q118
theorem bBK:QO Q32:=aB t32 aEQ
def T33(a:List Row):Pt (aD):=(ot (ot (.ok ((k81 (aG.mk a 0 0))&&true) (.ok ((aI (GZ (aG.mk a 0 0)).2 true)&&((aI (GZ (aG.mk a 0 0)).2 true)&&true)) (.ok (aI (GZ (aG.mk a 0 0)).2 true) (.leaf (GZ (aG.mk a 0 0)).2))))))
def g33(a:List Row):aD:=hid (T33 a).val
def k33(a:List Row):Bool:=hid (T33 a).okv
def n33(a:List Row)(r:aD):SV×List Blk:=((.agg [.imm true 1 r.R.D, .imm true 1 r.R.A,li r.R.Other,li r.R.PC,li r.R.Flags,li r.R.Mask, .lit (.bool r.R.Super), .lit (.bool r.R.Trace), .imm true 1 r.Bus.Bytes, .imm true 5 r.Bus.Log, .lit (.bool r.Stop), .lit (.bool r.Halt)]),[])
def q33:=aBD (fun a=>n33 a (g33 a)) k33
theorem t33:cD 100033 q33:=IN fun a hk=>tz bBK (T33 a) (n33 a) hk
def Q33:=aX 100033 q33 Q32
theorem bBL:QO Q33:=aB t33 bBK
def aHK(a:aD):Pt (bA×Bool):=(ot (.ok ((a49 a)&&true) (.br (!(aY4 a)) (ot (ot (ot (.leaf ((bA.mk (aD.mk (aE.mk [] [] 0 0 0 0 false false) (bC.mk [] []) false false) 0 false),false))))) (.ok ((k88 a)&&true) (.ok ((aI (g88 a) true)&&((aI (g88 a) true)&&true)) (.ok ((aI (g88 a) true)&&true) (.leaf ((bA.mk (g88 a) 0 false),true))))))))
def YU(a:aD):bA×Bool:=hid (aHK a).val
def aHL(a:aD):Bool:=hid (aHK a).okv
def aWB(a:aD)(r:bA×Bool):SV×List Blk:=((.tup [(.agg [.imm true 1 r.1.Cpu.R.D, .imm true 1 r.1.Cpu.R.A,li r.1.Cpu.R.Other,li r.1.Cpu.R.PC,li r.1.Cpu.R.Flags,li r.1.Cpu.R.Mask, .lit (.bool r.1.Cpu.R.Super), .lit (.bool r.1.Cpu.R.Trace), .imm true 1 r.1.Cpu.Bus.Bytes, .imm true 5 r.1.Cpu.Bus.Log, .lit (.bool r.1.Cpu.Stop), .lit (.bool r.1.Cpu.Halt),li r.1.Line, .lit (.bool r.1.Edge)]),(.one (.lit (.bool r.2)))]),[])
def q34v1:=aBS (fun a=>aWB a (YU a)) aHL
theorem b0E:cD 100034 q34v1:=IP fun a hk=>tz bBL (aHK a) (aWB a) hk
def Q34v1:=aX 100034 q34v1 Q33
theorem aHM:QO Q34v1:=aB b0E bBL
def aHN(a:aD):Pt (bA×Bool):=(ot (.ok ((k90 a)&&true) (.br (!(g90 a)) (ot (ot (ot (.leaf ((bA.mk (aD.mk (aE.mk [] [] 0 0 0 0 false false) (bC.mk [] []) false false) 0 false),false))))) (.ok ((aNN a)&&true) (.ok ((aI (CH a) true)&&((aI (CH a) true)&&true)) (.ok ((aI (CH a) true)&&true) (.leaf ((bA.mk (CH a) 0 false),true))))))))
def YV(a:aD):bA×Bool:=hid (aHN a).val
def aHO(a:aD):Bool:=hid (aHN a).okv
def q35v1:=aBS (fun a=>aWB a (YV a)) aHO
theorem b0F:cD 100035 q35v1:=IP fun a hk=>tz aHM (aHN a) (aWB a) hk
def Q35v1:=aX 100035 q35v1 Q34v1
theorem bBM:QO Q35v1:=aB b0F aHM
section
variable(a:List Row)(b:List Row)
def BX:bA×List Row×Bool:=(g27 (KS a).1 (KS a).2)
def aHP:bA×List Row×Bool:=(g28 (KS a).1 (KS a).2)
def bKF:Bool:=(bif (!(yF (BX a).2.2 (aHP a).2.2))then true else(!(g24 (BX a).2.1 (aHP a).2.1)))
def aPF:bA×List Row×Bool:=(g27 (KS a).1 (kD (g25 b) (aV (KS a).2 1)))
def bKG:Int:=(cF (KS a).2 (kD (g25 b) (aV (KS a).2 1)))
def aPG:bA×List Row×Bool:=(g27 (aPF a b).1 (bKG a b))
def bKH:Bool:=(bif (!(aPF a b).2.2)then true else(!(aPG a b).2.2))
def bKI:Bool:=(leI 0 (kD (g25 b) (aV (KS a).2 1)))
def bKJ:Bool:=(leI (kD (g25 b) (aV (KS a).2 1)) (bN (BX a).2.1))
def a0A:Nat:=(iN (kD (g25 b) (aV (KS a).2 1)))
def aWC:Bool:=(bif (bif (bKH a b)then true else(!(g29 (aPG a b).1 (BX a).1)))then true else(cU (bN (BX a).2.1) (KS a).2))
def aWD:List Row:=(List.take ((iN (bN (BX a).2.1))-(a0A a b)) (List.drop (a0A a b) (BX a).2.1))
def aWE:Bool:=(bif (aWC a b)then true else(!(g24 (aPF a b).2.1 (List.take (a0A a b) (BX a).2.1))))
def OZ:bA×List Row×Bool:=(g31 (VE b).1 (VE b).2)
def O0:bA×List Row×Bool:=(g32 (VE b).1 (VE b).2)
def aWF:Bool:=(bif (yF (OZ b).2.2 (O0 b).2.2)then(g24 (OZ b).2.1 (O0 b).2.1)else false)
def aWG:Bool:=(bif (bif (aWF b)then(g29 (OZ b).1 (O0 b).1)else false)then(yF (YU (g33 b)).2 (YV (g33 b)).2)else false)
def aWH:Bool:=((((k24 (OZ b).2.1 (O0 b).2.1)&&true)||(!(yF (OZ b).2.2 (O0 b).2.2)))&&((((k29 (OZ b).1 (O0 b).1)&&true)||(!(aWF b)))&&((((k29 (YU (g33 b)).1 (YV (g33 b)).1)&&true)||(!(aWG b)))&&true)))
def aWI:Bool:=(bif (aWG b)then(g29 (YU (g33 b)).1 (YV (g33 b)).1)else false)
end
def T4(a:List Row)(b:List Row):Pt (Bool):=(ot (ot (.br (kV (aV (bN a) (bN b)) 1048576) (ot (ot (.leaf true))) (.ok ((k26 a)&&true) (.ok ((k27 (KS a).1 (KS a).2)&&true) (.ok ((k28 (KS a).1 (KS a).2)&&true) (.ok ((((k24 (BX a).2.1 (aHP a).2.1)&&true)||(!(yF (BX a).2.2 (aHP a).2.2)))&&((((k29 (BX a).1 (aHP a).1)&&true)||(bKF a))&&true)) (.br (bif (bKF a)then true else(!(g29 (BX a).1 (aHP a).1))) (ot (ot (.leaf false))) (ot (.br (BX a).2.2 (.ok ((k25 b)&&((cU (aV (KS a).2 1) 0)&&true)) (.ok ((k27 (KS a).1 (kD (g25 b) (aV (KS a).2 1)))&&true) (.ok ((k27 (aPF a b).1 (bKG a b))&&true) (.ok ((((k29 (aPG a b).1 (BX a).1)&&true)||(bKH a b))&&(((((bKI a b)&&(bKJ a b))&&((k24 (aPF a b).2.1 (List.take (a0A a b) (BX a).2.1))&&true))||(aWC a b))&&(((((bKI a b)&&((bKJ a b)&&(leI (bN (BX a).2.1) (bN (BX a).2.1))))&&((k24 (aPG a b).2.1 (aWD a b))&&true))||(aWE a b))&&true))) (.br (bif (aWE a b)then true else(!(g24 (aPG a b).2.1 (aWD a b)))) (ot (ot (.leaf false))) (.ok ((k30 b)&&true) (.ok ((k31 (VE b).1 (VE b).2)&&true) (.ok ((k32 (VE b).1 (VE b).2)&&true) (.ok ((k33 b)&&true) (.ok ((aHL (g33 b))&&true) (.ok ((aHO (g33 b))&&true) (.ok (aWH b) (ot (.leaf (aWI b))))))))))))))) (.ok ((k30 b)&&true) (.ok ((k31 (VE b).1 (VE b).2)&&true) (.ok ((k32 (VE b).1 (VE b).2)&&true) (.ok ((k33 b)&&true) (.ok ((aHL (g33 b))&&true) (.ok ((aHO (g33 b))&&true) (.ok (aWH b) (ot (.leaf (aWI b))))))))))))))))))))
def g4(a:List Row)(b:List Row):Bool:=hid (T4 a b).val
def k4(a:List Row)(b:List Row):Bool:=hid (T4 a b).okv
def q4:=bJ8 (fun a b=>n24 a b (g4 a b)) k4
theorem t4:cD 4 q4:=bAV fun a b hk=>tc bBM (T4 a b) (n24 a b) hk
end
end Go.Proofs.YtdicpjkdpliofaaGreatBoundaries
