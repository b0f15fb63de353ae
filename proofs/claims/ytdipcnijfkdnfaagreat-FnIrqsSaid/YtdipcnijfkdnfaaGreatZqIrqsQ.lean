import Derived.Test.YtdipcnijfkdnfaaGreatZqTabIrqs
import Derived.Test.YtdipcnijfkdnfaaGreatZmc
import Derived.KernelRfl
import Derived.Test.YtdipcnijfkdnfaaGreatZqIrqsR
import Derived.Test.YtdipcnijfkdnfaaGreatZqIrqsQb
set_option linter.unusedVariables false
set_option linter.unusedSimpArgs false
namespace Go.Proofs.YtdipcnijfkdnfaaGreatIrqs
open Int renaming toNat → iN
open Go Go.Zq
open List renaming length→ln
set_option maxRecDepth 100000
set_option maxHeartbeats 4000000
noncomputable section
section
variable(b:aQ)(a:aS)
def wL:Bool:=(((bU (xD a).1 true)&&(bU (xD a).1 true))&&true)
def wM:aH:=(aFN {(xD (xD a).1).1.fr with PC:=(xD (xD a).1).2} (bH (xD a).2 1023))
def wN:Bool:=(aP (wM a) (bS (xD (xD a).1).1.fbus true))
def wO:Bool:=(aP (aFN a.fr b.Ea.Ext) (bS a.fbus true))
def uG:aS:=(bFY (bE 18 b.Reg) a)
def wP:Bool:=((leI 0 b.Reg)&&(ltI b.Reg (cA a.fr.D)))
def wQ:Bool:=(dU [.int .i64] a.fr.D (0+(iN b.Reg)) 0)
def uH:aS:=(aXC 2 b.Reg (bF0 (bQ a.fr.D (0+(iN b.Reg)) 0)).1 a)
def uI:Int:=(bH (bQ a.fr.D (0+(iN b.Reg)) 0) 255)
def uJ:aS:=(aXC 2 b.Reg (bF2 (uI b a)).1 a)
end
def a63(b:aQ)(a:aS):Pt (aS):=(.ok true (.ok true (.ok true (.br (eqI b.Sub 0) (.ok ((cE a (k85 a))&&true) (.ok true (.ok (wL a) (.leaf {(xD a).1 with fr:={(xD a).1.fr with PC:=(xD a).2}})))) (.ok true (.br (eqI b.Sub 1) (.ok ((cE a (k85 a))&&true) (.ok ((cE (xD a).1 (OU (xD a).1))&&true) (.br (!(J0 (xD a).1)) (.ok (wL a) (.leaf (xD a).1)) (.ok ((cE (xD a).1 (k85 (xD a).1))&&true) (.ok ((cE (xD (xD a).1).1 (OU (xD (xD a).1).1))&&true) (.br (J0 (xD (xD a).1).1) (.ok true (.ok ((((aP (xD (xD a).1).1.fr true)&&((aP (xD (xD a).1).1.fr true)&&true))&&(aP (xD (xD a).1).1.fr (aW5 {(xD (xD a).1).1.fr with PC:=(xD (xD a).1).2} (bH (xD a).2 1023))))&&true) (.ok (((wN a)&&(wN a))&&true) (.leaf {(xD (xD a).1).1 with fr:=(wM a)})))) (.ok (((bU (xD (xD a).1).1 true)&&(bU (xD (xD a).1).1 true))&&true) (.leaf (xD (xD a).1).1)))))))) (.ok true (.br (eqI b.Sub 3) (.ok (((((aP a.fr true)&&((aP a.fr true)&&true))&&(aP a.fr (aW5 a.fr b.Ea.Ext)))&&true)&&true) (.ok true (.ok (((wO b a)&&(wO b a))&&true) (.leaf {a with fr:=(aFN a.fr b.Ea.Ext),fstop:=true})))) (.ok true (.br (eqI b.Sub 4) (.ok ((cE a (bFZ (bE 18 b.Reg) a))&&true) (.ok (((bU (uG b a) true)&&(bU (uG b a) true))&&true) (.leaf (uG b a)))) (.ok true (.br (eqI b.Sub 5) (.ok ((wP b a)&&((wQ b a)&&((bOV (bQ a.fr.D (0+(iN b.Reg)) 0))&&true))) (.ok ((cE a (aXD 2 b.Reg (bF0 (bQ a.fr.D (0+(iN b.Reg)) 0)).1 a))&&true) (.ok (((bU (uH b a) true)&&(bU (uH b a) true))&&true) (.leaf (uH b a))))) (.ok true (.br (eqI b.Sub 6) (.ok ((wP b a)&&((wQ b a)&&((bOY (uI b a))&&true))) (.ok ((cE a (aXD 2 b.Reg (bF2 (uI b a)).1 a))&&true) (.ok (((bU (uJ b a) true)&&(bU (uJ b a) true))&&true) (.leaf (uJ b a))))) (.ok (((bU a true)&&(bU a true))&&true) (.leaf a))))))))))))))))
def a64(b:aQ)(a:aS):aS:=hid (a63 b a).val
def bOZ(b:aQ)(a:aS):Bool:=hid (a63 b a).okv
def q221:=aME (fun b a=>V2 b a (a64 b a)) bOZ
theorem cIP:cK 221 q221:=TW fun b a hk=>tc bZU aSY [(12,K0),(42,K6),(54,K6),(57,K0),(68,K0),(78,K1),(80,K0),(81,K0),(82,K0),(88,K0),(98,K1),(100,K0),(101,K0),(102,K0),(109,K0)] [] true (a63 b a) (V2 b a) hk
def Q221:=aZ 221 q221 Q256
theorem aSZ:QO Q221:=aF cIP aSY
section
variable(b:aQ)(a:aS)
def DN:Int:=(dH (bQ (cP 2 b.Ea a).1.fr.D (0+(iN b.Reg)) 0) (cP 2 b.Ea a).2.1)
def BA:aS:=(aXC 2 b.Reg (bH (DN b a) 65535) (cP 2 b.Ea a).1)
def HZ:aS:=(bFY 5 (cP 2 b.Ea a).1)
def M1:Int:=(lQ (bQ (cP 2 b.Ea a).1.fr.D (0+(iN b.Reg)) 0) (cP 2 b.Ea a).2.1)
def H0:aS:=(aXC 2 b.Reg (M1 b a) (cP 2 b.Ea a).1)
end
def a65(b:aQ)(a:aS):Pt (aS):=(.ok true (.ok ((cE a (aXA 2 b.Ea a))&&true) (.ok ((cE (cP 2 b.Ea a).1 (OU (cP 2 b.Ea a).1))&&true) (.br (!(J0 (cP 2 b.Ea a).1)) (.ok (((bU (cP 2 b.Ea a).1 true)&&(bU (cP 2 b.Ea a).1 true))&&true) (.leaf (cP 2 b.Ea a).1)) (.ok (((leI 0 b.Reg)&&(ltI b.Reg (cA (cP 2 b.Ea a).1.fr.D)))&&((dU [.int .i64] (cP 2 b.Ea a).1.fr.D (0+(iN b.Reg)) 0)&&true)) (.ok true (.br (eqI b.Op 16) (.ok true (.ok ((cE (cP 2 b.Ea a).1 (aXD 2 b.Reg (bH (DN b a) 65535) (cP 2 b.Ea a).1))&&true) (.ok (((yB (kU (DN b a) 65535) 2)&&true)&&true) (.ok (((bU (BA b a) true)&&(bU (BA b a) true))&&true) (.leaf {(BA b a)with fr:={(BA b a).fr with Flags:=(eW (BA b a).fr.Flags (yA (kU (DN b a) 65535) 2))}}))))) (.ok true (.br (eqI (cP 2 b.Ea a).2.1 0) (.ok ((cE (cP 2 b.Ea a).1 (bFZ 5 (cP 2 b.Ea a).1))&&true) (.ok (((bU (HZ b a) true)&&(bU (HZ b a) true))&&true) (.leaf (HZ b a)))) (.ok (((dC (cP 2 b.Ea a).2.1 0)&&((cE (cP 2 b.Ea a).1 (aXD 2 b.Reg (M1 b a) (cP 2 b.Ea a).1))&&true))&&true) (.ok (((bU (H0 b a) true)&&(bU (H0 b a) true))&&true) (.leaf (H0 b a)))))))))))))
def a66(b:aQ)(a:aS):aS:=hid (a65 b a).val
def bO0(b:aQ)(a:aS):Bool:=hid (a65 b a).okv
def q222:=aME (fun b a=>V2 b a (a66 b a)) bO0
theorem cIQ:cK 222 q222:=TW fun b a hk=>tc bZV aSZ [(11,K4),(22,K1),(24,K0),(25,K0),(26,K0),(28,K0),(35,K0),(43,K0),(57,K0)] [] true (a65 b a) (V2 b a) hk
def Q222:=aZ 222 q222 Q221
theorem aS0:QO Q222:=aF cIQ aSZ
def a67(a:Int):Pt (Bool):=(.ok true (.ok ((w8 a 0 255)&&true) (.ok true (.ok true (.leaf (bif (bif (vA a 0 255)then(leI (eZ a 4) 9)else false)then(leI (bH a 15) 9)else false))))))
def i7(a:Int):Bool:=hid (a67 a).val
def bF3(a:Int):Bool:=hid (a67 a).okv
def q257:=BP (fun a=>jZ a (i7 a)) bF3
theorem cIR:cK 100257 q257:=gS fun a hk=>tz b0S aS0 [] [] true (a67 a) (jZ a) hk
def Q257:=aZ 100257 q257 Q222
theorem aS1:QO Q257:=aF cIR aS0
def a68(a:Int):Pt (Int):=(.ok true (.ok true (.ok true (.ok true (.leaf (bE (dH (eZ a 4) 10) (bH a 15)))))))
def J3(a:Int):Int:=hid (a68 a).val
def aXE(a:Int):Bool:=hid (a68 a).okv
def q280:=BP (fun a=>xB a (J3 a)) aXE
theorem cIS:cK 100280 q280:=gS fun a hk=>tz b1F aS1 [] [] true (a68 a) (xB a) hk
def Q280:=aZ 100280 q280 Q257
theorem aS2:QO Q280:=aF cIS aS1
def aMS(a:Int):Pt (Int):=(.ok true (.ok true (.ok true (.ok true (.leaf (eW (m7 (lQ a 10) 4) (nM a 10)))))))
def tG(a:Int):Int:=hid (aMS a).val
def a69(a:Int):Bool:=hid (aMS a).okv
def q281:=BP (fun a=>xB a (tG a)) a69
theorem cIT:cK 100281 q281:=gS fun a hk=>tz b1G aS2 [] [] true (aMS a) (xB a) hk
def Q281:=aZ 100281 q281 Q280
theorem aS3:QO Q281:=aF cIT aS2
section
variable(a:Int)(b:Int)(c:Int)
def aC1:Int:=(nM (bE (bE (J3 b) (J3 c)) a) 100)
end
def aMT(a:Int)(b:Int)(c:Int):Pt (Int×Int):=(.ok true (.ok ((aXE b)&&((aXE c)&&true)) (.ok ((a69 (aC1 a b c))&&true) (.ok true (.ok true (.leaf ((tG (aC1 a b c)),(lQ (bE (bE (J3 b) (J3 c)) a) 100))))))))
def OW(a:Int)(b:Int)(c:Int):Int×Int:=hid (aMT a b c).val
def bO1(a:Int)(b:Int)(c:Int):Bool:=hid (aMT a b c).okv
def q258:=DS5 (fun a b c=>aWK a b c (OW a b c)) bO1
theorem cIU:cK 100258 q258:=CN fun a b c hk=>tz b0T aS3 [] [] true (aMT a b c) (aWK a b c) hk
def Q258:=aZ 100258 q258 Q281
theorem aS4:QO Q258:=aF cIU aS3
section
variable(a:Int)(b:Int)(c:Int)
def aC2:Int:=(bE (cN (cN (J3 b) (J3 c)) a) 100)
end
def aMU(a:Int)(b:Int)(c:Int):Pt (Int×Int):=(.ok true (.ok ((aXE b)&&((aXE c)&&true)) (.ok true (.br (ltI (cN (cN (J3 b) (J3 c)) a) 0) (.ok ((a69 (aC2 a b c))&&true) (.ok true (.ok true (.leaf ((tG (aC2 a b c)),1))))) (.ok ((a69 (cN (cN (J3 b) (J3 c)) a))&&true) (.ok true (.ok true (.leaf ((tG (cN (cN (J3 b) (J3 c)) a)),0)))))))))
def OX(a:Int)(b:Int)(c:Int):Int×Int:=hid (aMU a b c).val
def bO2(a:Int)(b:Int)(c:Int):Bool:=hid (aMU a b c).okv
def q259:=DS5 (fun a b c=>aWK a b c (OX a b c)) bO2
theorem cIV:cK 100259 q259:=CN fun a b c hk=>tz b0U aS4 [] [] true (aMU a b c) (aWK a b c) hk
def Q259:=aZ 100259 q259 Q258
theorem aS5:QO Q259:=aF cIV aS4
section
variable(b:aQ)(a:aS)
def wR:Int:=(bH (bQ a.fr.D (0+(iN b.Reg)) 0) 255)
def yW:Int:=(bH (bQ a.fr.D (0+(iN b.Ea.Reg)) 0) 255)
def DO:Int:=(yA (dC (bH a.fr.Flags 16) 0) 1)
def H1:Int×Int:=(OX (DO a) (wR b a) (yW b a))
def H2:Int×Int:=(OW (DO a) (wR b a) (yW b a))
def DP:Int:=(bif (eqI b.Sub 1)then(H1 b a).1 else(H2 b a).1)
def M2:aH:=(J1 {a.fr with Flags:=(eW (bif (eqI (DP b a) 0)then(bH a.fr.Flags 4)else 0) (dH (bif (eqI b.Sub 1)then(H1 b a).2 else(H2 b a).2) 17))} 1 b.Reg (DP b a))
def M3:Bool:=(aP (M2 b a) (bS a.fbus true))
end
def a7A(b:aQ)(a:aS):Pt (aS):=(.ok true (.ok (((leI 0 b.Reg)&&(ltI b.Reg (cA a.fr.D)))&&((dU [.int .i64] a.fr.D (0+(iN b.Reg)) 0)&&true)) (.ok (((leI 0 b.Ea.Reg)&&(ltI b.Ea.Reg (cA a.fr.D)))&&((dU [.int .i64] a.fr.D (0+(iN b.Ea.Reg)) 0)&&true)) (.ok ((bF3 (wR b a))&&((((bF3 (yW b a))&&true)||(!(i7 (wR b a))))&&true)) (.br (bif (!(i7 (wR b a)))then true else(!(i7 (yW b a)))) (.ok true (.ok (((bU a true)&&(bU a true))&&true) (.leaf {a with ffault:={a.ffault with Vector:=4}}))) (.ok ((yB (dC (bH a.fr.Flags 16) 0) 1)&&true) (.ok ((bO1 (DO a) (wR b a) (yW b a))&&true) (.ok true (.ok ((((bO2 (DO a) (wR b a) (yW b a))&&true)||(!(eqI b.Sub 1)))&&true) (.ok true (.ok true (.ok true (.ok true (.ok (((((aP a.fr true)&&((aP a.fr true)&&true))&&(aP a.fr (J2 {a.fr with Flags:=(eW (bif (eqI (DP b a) 0)then(bH a.fr.Flags 4)else 0) (dH (bif (eqI b.Sub 1)then(H1 b a).2 else(H2 b a).2) 17))} 1 b.Reg (DP b a))))&&true)&&true) (.ok (((M3 b a)&&(M3 b a))&&true) (.leaf {a with fr:=(M2 b a)}))))))))))))))))
def a7B(b:aQ)(a:aS):aS:=hid (a7A b a).val
def bO3(b:aQ)(a:aS):Bool:=hid (a7A b a).okv
def q223:=aME (fun b a=>V2 b a (a7B b a)) bO3
theorem cIW:cK 223 q223:=TW fun b a hk=>tc bZW aS5 [(14,K1),(16,K0),(17,K0),(18,K0),(24,K1),(27,K0),(28,K0),(29,K0),(47,K0),(59,K0),(74,K0),(88,K6),(90,K0)] [] true (a7A b a) (V2 b a) hk
def Q223:=aZ 223 q223 Q259
theorem aS6:QO Q223:=aF cIW aS5
section
variable(a:Int)(b:Int)(c:Int)(d:Int)
def H3:Int:=(bH (bE (bE c d) b) (cN (xC a) 1))
def aMV:Bool:=(dC (bE (bE c d) b) (H3 a b c d))
def aMW:Bool:=(dC (bE (bE (aCT a c) (aCT a d)) b) (aCT a (H3 a b c d)))
end
def a7C(a:Int)(b:Int)(c:Int)(d:Int):Pt (Int×Int):=(.ok true (.ok true (.ok ((JX a)&&true) (.ok ((aCU a c)&&((aCU a d)&&true)) (.ok ((yB (aMV a b c d) 17)&&((aCU a (H3 a b c d))&&((yB (aMW a b c d) 2)&&((aMB a (H3 a b c d))&&true)))) (.ok true (.ok true (.leaf ((H3 a b c d),(eW (eW (yA (aMV a b c d) 17) (yA (aMW a b c d) 2)) (aMA a (H3 a b c d))))))))))))
def bO4(a:Int)(b:Int)(c:Int)(d:Int):Int×Int:=hid (a7C a b c d).val
def bO5(a:Int)(b:Int)(c:Int)(d:Int):Bool:=hid (a7C a b c d).okv
def q260:=VX (fun a b c d=>OS a b c d (bO4 a b c d)) bO5
theorem cIX:cK 100260 q260:=C6 fun a b c d hk=>tz b0V aS6 [] [] true (a7C a b c d) (OS a b c d) hk
def Q260:=aZ 100260 q260 Q223
theorem aS7:QO Q260:=aF cIX aS6
def aMX(a:Int)(b:Int)(c:Int)(d:Int):Pt (Int):=(.ok true (.ok ((aFO a 0 c d)&&true) (.ok true (.ok true (.ok true (.leaf (eW (bH (aCW a 0 c d).2 15) (bH b 16))))))))
def aMY(a:Int)(b:Int)(c:Int)(d:Int):Int:=hid (aMX a b c d).val
def bO6(a:Int)(b:Int)(c:Int)(d:Int):Bool:=hid (aMX a b c d).okv
def q261:=VX (fun a b c d=>bD5 a b c d (aMY a b c d)) bO6
theorem cIY:cK 100261 q261:=C6 fun a b c d hk=>tz b0W aS7 [] [] true (aMX a b c d) (bD5 a b c d) hk
def Q261:=aZ 100261 q261 Q260
theorem aS8:QO Q261:=aF cIY aS7
section
variable(b:aQ)(a:aS)
def yX:Bool:=(((bU (cP b.Size b.Ea a).1 true)&&(bU (cP b.Size b.Ea a).1 true))&&true)
def wS:Bool:=(aP (cP b.Size b.Ea a).1.fr true)
def fS:Bool:=(bif (dC b.Op 3)then(dC b.Op 4)else false)
def pR:Bool:=((wS b a)&&((wS b a)&&true))
def wT:aH:=(J1 {(cP b.Size b.Ea a).1.fr with Flags:=(bif (fS b)then(hY b.Size (cP b.Size b.Ea a).1.fr.Flags (cP b.Size b.Ea a).2.1)else(cP b.Size b.Ea a).1.fr.Flags)} b.Size b.Reg (cP b.Size b.Ea a).2.1)
def jN:Bool:=(bS (cP b.Size b.Ea a).1.fbus true)
def jO:Int:=(a6C (cP b.Size b.Ea a).1.fr b.Size b.Reg)
def mA:Int×Int:=(bO4 b.Size 0 (jO b a) (cP b.Size b.Ea a).2.1)
def wU:aH:=(J1 {(cP b.Size b.Ea a).1.fr with Flags:=(bif (fS b)then(hY b.Size (mA b a).2 (mA b a).1)else(mA b a).2)} b.Size b.Reg (mA b a).1)
def mB:Int×Int:=(aCW b.Size 0 (jO b a) (cP b.Size b.Ea a).2.1)
def qV:aH:=(J1 {(cP b.Size b.Ea a).1.fr with Flags:=(bif (fS b)then(hY b.Size (mB b a).2 (mB b a).1)else(mB b a).2)} b.Size b.Reg (mB b a).1)
def oJ:Int:=(bH (jO b a) (cP b.Size b.Ea a).2.1)
def qW:aH:=(J1 {(cP b.Size b.Ea a).1.fr with Flags:=(bif (fS b)then(hY b.Size (cP b.Size b.Ea a).1.fr.Flags (oJ b a))else(cP b.Size b.Ea a).1.fr.Flags)} b.Size b.Reg (oJ b a))
def oK:Int:=(eW (jO b a) (cP b.Size b.Ea a).2.1)
def qX:aH:=(J1 {(cP b.Size b.Ea a).1.fr with Flags:=(bif (fS b)then(hY b.Size (cP b.Size b.Ea a).1.fr.Flags (oK b a))else(cP b.Size b.Ea a).1.fr.Flags)} b.Size b.Reg (oK b a))
def oL:Int:=(qE (jO b a) (cP b.Size b.Ea a).2.1)
def qY:aH:=(J1 {(cP b.Size b.Ea a).1.fr with Flags:=(bif (fS b)then(hY b.Size (cP b.Size b.Ea a).1.fr.Flags (oL b a))else(cP b.Size b.Ea a).1.fr.Flags)} b.Size b.Reg (oL b a))
def qZ:aH:=(J1 {(cP b.Size b.Ea a).1.fr with Flags:=(bif (fS b)then(hY b.Size (cP b.Size b.Ea a).1.fr.Flags (jO b a))else(cP b.Size b.Ea a).1.fr.Flags)} b.Size b.Reg (jO b a))
end
def a7D(b:aQ)(a:aS):Pt (aS):=(.ok true (.ok ((cE a (aXA b.Size b.Ea a))&&true) (.ok ((cE (cP b.Size b.Ea a).1 (OU (cP b.Size b.Ea a).1))&&true) (.br (!(J0 (cP b.Size b.Ea a).1)) (.ok (yX b a) (.leaf (cP b.Size b.Ea a).1)) (.ok ((((wS b a)&&true)&&(a6D (cP b.Size b.Ea a).1.fr b.Size b.Reg))&&true) (.ok true (.ok true (.ok true (.br (eqI b.Op 1) (.ok true (.ok true (.ok ((((DI b.Size (cP b.Size b.Ea a).1.fr.Flags (cP b.Size b.Ea a).2.1)&&true)||(!(fS b)))&&true) (.ok true (.ok ((((pR b a)&&(aP (cP b.Size b.Ea a).1.fr (J2 {(cP b.Size b.Ea a).1.fr with Flags:=(bif (fS b)then(hY b.Size (cP b.Size b.Ea a).1.fr.Flags (cP b.Size b.Ea a).2.1)else(cP b.Size b.Ea a).1.fr.Flags)} b.Size b.Reg (cP b.Size b.Ea a).2.1)))&&true)&&true) (.ok (((aP (wT b a) (jN b a))&&(aP (wT b a) (jN b a)))&&true) (.leaf {(cP b.Size b.Ea a).1 with fr:=(wT b a)}))))))) (.ok true (.br (eqI b.Op 3) (.ok ((bO5 b.Size 0 (jO b a) (cP b.Size b.Ea a).2.1)&&true) (.ok true (.ok ((((DI b.Size (mA b a).2 (mA b a).1)&&true)||(!(fS b)))&&true) (.ok true (.ok ((((pR b a)&&(aP (cP b.Size b.Ea a).1.fr (J2 {(cP b.Size b.Ea a).1.fr with Flags:=(bif (fS b)then(hY b.Size (mA b a).2 (mA b a).1)else(mA b a).2)} b.Size b.Reg (mA b a).1)))&&true)&&true) (.ok (((aP (wU b a) (jN b a))&&(aP (wU b a) (jN b a)))&&true) (.leaf {(cP b.Size b.Ea a).1 with fr:=(wU b a)}))))))) (.ok true (.br (eqI b.Op 4) (.ok ((aFO b.Size 0 (jO b a) (cP b.Size b.Ea a).2.1)&&true) (.ok true (.ok ((((DI b.Size (mB b a).2 (mB b a).1)&&true)||(!(fS b)))&&true) (.ok true (.ok ((((pR b a)&&(aP (cP b.Size b.Ea a).1.fr (J2 {(cP b.Size b.Ea a).1.fr with Flags:=(bif (fS b)then(hY b.Size (mB b a).2 (mB b a).1)else(mB b a).2)} b.Size b.Reg (mB b a).1)))&&true)&&true) (.ok (((aP (qV b a) (jN b a))&&(aP (qV b a) (jN b a)))&&true) (.leaf {(cP b.Size b.Ea a).1 with fr:=(qV b a)}))))))) (.ok true (.br (eqI b.Op 5) (.ok true (.ok true (.ok ((((DI b.Size (cP b.Size b.Ea a).1.fr.Flags (oJ b a))&&true)||(!(fS b)))&&true) (.ok true (.ok ((((pR b a)&&(aP (cP b.Size b.Ea a).1.fr (J2 {(cP b.Size b.Ea a).1.fr with Flags:=(bif (fS b)then(hY b.Size (cP b.Size b.Ea a).1.fr.Flags (oJ b a))else(cP b.Size b.Ea a).1.fr.Flags)} b.Size b.Reg (oJ b a))))&&true)&&true) (.ok (((aP (qW b a) (jN b a))&&(aP (qW b a) (jN b a)))&&true) (.leaf {(cP b.Size b.Ea a).1 with fr:=(qW b a)}))))))) (.ok true (.br (eqI b.Op 6) (.ok true (.ok true (.ok ((((DI b.Size (cP b.Size b.Ea a).1.fr.Flags (oK b a))&&true)||(!(fS b)))&&true) (.ok true (.ok ((((pR b a)&&(aP (cP b.Size b.Ea a).1.fr (J2 {(cP b.Size b.Ea a).1.fr with Flags:=(bif (fS b)then(hY b.Size (cP b.Size b.Ea a).1.fr.Flags (oK b a))else(cP b.Size b.Ea a).1.fr.Flags)} b.Size b.Reg (oK b a))))&&true)&&true) (.ok (((aP (qX b a) (jN b a))&&(aP (qX b a) (jN b a)))&&true) (.leaf {(cP b.Size b.Ea a).1 with fr:=(qX b a)}))))))) (.ok true (.br (eqI b.Op 7) (.ok true (.ok true (.ok ((((DI b.Size (cP b.Size b.Ea a).1.fr.Flags (oL b a))&&true)||(!(fS b)))&&true) (.ok true (.ok ((((pR b a)&&(aP (cP b.Size b.Ea a).1.fr (J2 {(cP b.Size b.Ea a).1.fr with Flags:=(bif (fS b)then(hY b.Size (cP b.Size b.Ea a).1.fr.Flags (oL b a))else(cP b.Size b.Ea a).1.fr.Flags)} b.Size b.Reg (oL b a))))&&true)&&true) (.ok (((aP (qY b a) (jN b a))&&(aP (qY b a) (jN b a)))&&true) (.leaf {(cP b.Size b.Ea a).1 with fr:=(qY b a)}))))))) (.ok true (.br (eqI b.Op 8) (.ok ((bO6 b.Size (cP b.Size b.Ea a).1.fr.Flags (jO b a) (cP b.Size b.Ea a).2.1)&&true) (.ok (yX b a) (.leaf {(cP b.Size b.Ea a).1 with fr:={(cP b.Size b.Ea a).1.fr with Flags:=(aMY b.Size (cP b.Size b.Ea a).1.fr.Flags (jO b a) (cP b.Size b.Ea a).2.1)}}))) (.ok true (.ok ((((DI b.Size (cP b.Size b.Ea a).1.fr.Flags (jO b a))&&true)||(!(fS b)))&&true) (.ok true (.ok ((((pR b a)&&(aP (cP b.Size b.Ea a).1.fr (J2 {(cP b.Size b.Ea a).1.fr with Flags:=(bif (fS b)then(hY b.Size (cP b.Size b.Ea a).1.fr.Flags (jO b a))else(cP b.Size b.Ea a).1.fr.Flags)} b.Size b.Reg (jO b a))))&&true)&&true) (.ok (((aP (qZ b a) (jN b a))&&(aP (qZ b a) (jN b a)))&&true) (.leaf {(cP b.Size b.Ea a).1 with fr:=(qZ b a)})))))))))))))))))))))))))))
def a7E(b:aQ)(a:aS):aS:=hid (a7D b a).val
def bO7(b:aQ)(a:aS):Bool:=hid (a7D b a).okv
def q224:=aME (fun b a=>V2 b a (a7E b a)) bO7
theorem cIZ:cK 224 q224:=TW fun b a hk=>tc bZX aS8 [(11,K0),(13,K4),(23,K6),(25,K0),(27,K0),(33,K0),(35,K0),(43,K0),(53,K0),(78,K0),(87,K0),(91,K0),(95,K0),(108,K6),(110,K0),(112,K0)] [] true (a7D b a) (V2 b a) hk
def Q224:=aZ 224 q224 Q261
theorem aS9:QO Q224:=aF cIZ aS8
section
variable(b:aQ)(a:aS)
def iQ:List Row:=(List.set (cP 2 b.Ea a).1.fr.A (0+(iN b.Reg)) (bB (cP 2 b.Ea a).2.1))
def iR:Bool:=((e1 (ln (cP 2 b.Ea a).1.fr.D))&&((eC (ln (cP 2 b.Ea a).1.fr.A) (ln (iQ b a)))&&(bS (cP 2 b.Ea a).1.fbus true)))
def iS:List Row:=(List.set (iD 2 b.Ea a).1.fr.A (0+(iN b.Reg)) (bB (iD 2 b.Ea a).2))
def iT:Bool:=((e1 (ln (iD 2 b.Ea a).1.fr.D))&&((eC (ln (iD 2 b.Ea a).1.fr.A) (ln (iS b a)))&&(bS (iD 2 b.Ea a).1.fbus true)))
def iU:Bool:=(((aP a.fr true)&&true)&&(a6D a.fr b.Size b.Reg))
def gQ:Int:=(a6C a.fr b.Size b.Reg)
def gR:aS:=(a6L b.Size b.Ea (iD b.Size b.Ea a).2 (gQ b a) (iD b.Size b.Ea a).1)
def iV:Bool:=((aP a.fr true)&&((aP a.fr true)&&true))
def iC:Int×Int:=(aFP b.Sub b.Size a.fr.Flags (gQ b a) (bE b.Ea.Reg 1))
def iW:aH:=(J1 {a.fr with Flags:=(iC b a).2} b.Size b.Reg (iC b a).1)
def fT:Bool:=(aP (iW b a) (bS a.fbus true))
def fU:Bool:=(aP (aFN a.fr b.Ea.Ext) (bS a.fbus true))
def fV:List Row:=(List.set a.fr.D (0+(iN b.Reg)) (bB (a5O a.fr)))
def fW:Bool:=((eC (ln a.fr.D) (ln (fV b a)))&&((e1 (ln a.fr.A))&&(bS a.fbus true)))
end
def a7F(b:aQ)(c:Int)(a:aS):Pt (aS):=(.ok true (.ok true (.ok true (.br (eqI b.Op 9) (.ok ((cE a (aXA 2 b.Ea a))&&true) (.ok ((cE (cP 2 b.Ea a).1 (OU (cP 2 b.Ea a).1))&&true) (.br (J0 (cP 2 b.Ea a).1) (.ok ((((leI 0 b.Reg)&&(ltI b.Reg (cA (cP 2 b.Ea a).1.fr.A)))&&(((blt (0+(iN b.Reg)) (ln (cP 2 b.Ea a).1.fr.A))&&(jW (jX (cP 2 b.Ea a).1.fr.A (0+(iN b.Reg))) 1))&&true))&&true) (.ok ((((bU (cP 2 b.Ea a).1 true)&&(iR b a))&&true)&&((iR b a)&&true)) (.leaf {(cP 2 b.Ea a).1 with fr:={(cP 2 b.Ea a).1.fr with A:=(iQ b a)}}))) (.ok (dd (bU (cP 2 b.Ea a).1 true) ((bU (cP 2 b.Ea a).1 true)&&true)) (.leaf (cP 2 b.Ea a).1))))) (.ok true (.br (eqI b.Op 10) (.ok ((cE a (aXB 2 b.Ea a))&&true) (.ok ((((leI 0 b.Reg)&&(ltI b.Reg (cA (iD 2 b.Ea a).1.fr.A)))&&(((blt (0+(iN b.Reg)) (ln (iD 2 b.Ea a).1.fr.A))&&(jW (jX (iD 2 b.Ea a).1.fr.A (0+(iN b.Reg))) 1))&&true))&&true) (.ok ((((bU (iD 2 b.Ea a).1 true)&&(iT b a))&&true)&&((iT b a)&&true)) (.leaf {(iD 2 b.Ea a).1 with fr:={(iD 2 b.Ea a).1.fr with A:=(iS b a)}})))) (.ok true (.br (eqI b.Op 2) (.ok ((iU b a)&&true) (.ok ((cE a (aXB b.Size b.Ea a))&&true) (.ok ((cE (iD b.Size b.Ea a).1 (a6M b.Size b.Ea (iD b.Size b.Ea a).2 (gQ b a) (iD b.Size b.Ea a).1))&&true) (.ok (((DI b.Size (gR b a).fr.Flags (gQ b a))&&true)&&true) (.ok (dd (bU (gR b a) true) ((bU (gR b a) true)&&true)) (.leaf {(gR b a)with fr:={(gR b a).fr with Flags:=(hY b.Size (gR b a).fr.Flags (gQ b a))}})))))) (.ok true (.br (eqI b.Op 11) (.ok ((cE a (bOQ b a))&&true) (.ok (dd (bU (a6Q b a) true) ((bU (a6Q b a) true)&&true)) (.leaf (a6Q b a)))) (.ok true (.br (eqI b.Op 12) (.ok ((iU b a)&&((bFV b.Sub b.Size a.fr.Flags (gQ b a) (bE b.Ea.Reg 1))&&true)) (.ok true (.ok ((((iV a)&&(aP a.fr (J2 {a.fr with Flags:=(iC b a).2} b.Size b.Reg (iC b a).1)))&&true)&&true) (.ok (dd (fT b a) ((fT b a)&&true)) (.leaf {a with fr:=(iW b a)}))))) (.ok true (.ok true (.br (bif (eqI b.Op 13)then(eqI b.Op 13)else(eqI b.Op 14)) (.ok ((cE a (bOU b c a))&&true) (.ok (dd (bU (a6V b c a) true) ((bU (a6V b c a) true)&&true)) (.leaf (a6V b c a)))) (.ok true (.br (eqI b.Op 15) (.ok ((cE a (bOZ b a))&&true) (.ok (dd (bU (a64 b a) true) ((bU (a64 b a) true)&&true)) (.leaf (a64 b a)))) (.ok true (.ok true (.br (bif (eqI b.Op 16)then(eqI b.Op 16)else(eqI b.Op 17)) (.ok ((cE a (bO0 b a))&&true) (.ok (dd (bU (a66 b a) true) ((bU (a66 b a) true)&&true)) (.leaf (a66 b a)))) (.ok true (.br (eqI b.Op 18) (.ok ((cE a (bO3 b a))&&true) (.ok (dd (bU (a7B b a) true) ((bU (a7B b a) true)&&true)) (.leaf (a7B b a)))) (.ok true (.br (eqI b.Op 19) (.ok true (.br (eqI b.Sub 0) (.ok ((((iV a)&&(aP a.fr (aW5 a.fr b.Ea.Ext)))&&true)&&true) (.ok (dd (fU b a) ((fU b a)&&true)) (.leaf {a with fr:=(aFN a.fr b.Ea.Ext)}))) (.ok (((((aP a.fr true)&&true)&&(bE7 a.fr))&&(((leI 0 b.Reg)&&(ltI b.Reg (cA a.fr.D)))&&(((blt (0+(iN b.Reg)) (ln a.fr.D))&&(jW (jX a.fr.D (0+(iN b.Reg))) 1))&&true)))&&true) (.ok ((((bU a true)&&(fW b a))&&true)&&((fW b a)&&true)) (.leaf {a with fr:={a.fr with D:=(fV b a)}}))))) (.ok ((cE a (bO7 b a))&&true) (.ok (dd (bU (a7E b a) true) ((bU (a7E b a) true)&&true)) (.leaf (a7E b a))))))))))))))))))))))))))))
def bF4(b:aQ)(c:Int)(a:aS):aS:=hid (a7F b c a).val
def bF5(b:aQ)(c:Int)(a:aS):Bool:=hid (a7F b c a).okv
def q160:=bFW (fun b c a=>bFX b c a (bF4 b c a)) bF5
theorem cI0:cK 160 q160:=a6T fun b c a hk=>tc bYD aS9 [(14,K0),(16,K5),(23,K4),(33,K1),(35,K0),(37,K0),(42,K4),(48,K1),(50,K0),(52,K0),(58,K6),(60,K0),(62,K0),(66,K0),(68,K4),(72,K0),(74,K4),(80,K0),(85,K0),(94,K5),(100,K0),(102,K0),(107,K0),(111,K6),(113,K0),(115,K0),(119,K0),(133,K6),(135,K0),(137,K0),(146,K5),(152,K5),(158,K5),(163,K5),(168,K0),(174,K6),(177,K0),(185,K1),(187,K0),(191,K6),(193,K0),(1000001,[])] [] true (a7F b c a) (bFX b c a) hk
def Q160:=aZ 160 q160 Q224
theorem aTA:QO Q160:=aF cI0 aS9
def cI1(a:aI):List SV:=[(.agg [.imm false 1 a.R.D, .imm false 1 a.R.A,li a.R.Other,li a.R.PC,li a.R.Flags,li a.R.Mask, .lit (.bool a.R.Super), .lit (.bool a.R.Trace), .imm false 1 a.Bus.Bytes, .imm false 5 a.Bus.Log, .lit (.bool a.Stop), .lit (.bool a.Halt)])]
def cI2(a:aI):List Blk:=[]
def bF6(N:aI→SV×List Blk)(K:aI→Bool):List SV→List Blk→Option ((SV×List Blk)×Bool)
 |[(.agg [.imm false 1 c0, .imm false 1 c1,li c2,li c3,li c4,li c5, .lit (.bool c6), .lit (.bool c7), .imm false 1 c8, .imm false 5 c9, .lit (.bool c10), .lit (.bool c11)])],[]=>some (N (aI.mk (aH.mk c0 c1 c2 c3 c4 c5 c6 c7) (bM.mk c8 c9) c10 c11),K (aI.mk (aH.mk c0 c1 c2 c3 c4 c5 c6 c7) (bM.mk c8 c9) c10 c11))
 |_,_=>none
theorem a7G{N:aI→SV×List Blk}{K:aI→Bool}{f:Nat}(h: ∀(a:aI),K a=true→dJ R f (cI1 a) (cI2 a)=some (N a)):cK f (bF6 N K):=fun _ _ _ e=>by
 unfold bF6 at e;split at e
 ·exact vH e (h _)
 ·cases e
section
variable(a:aI)
def UA:Bool:=(cE (fF (i5 a)).1 (OU (fF (i5 a)).1))
def FQ:aL:={(fF (i5 a)).1.ffault with Vector:=8}
def DQ:aS:={(fF (i5 a)).1 with ffault:=(FQ a)}
def XO:Bool:=((cE (fF (i5 a)).1 (OU (DQ a)))&&true)
def oR:aS:=(bF4 (fF (i5 a)).2.1 (i5 a).fr.PC {(fF (i5 a)).1 with fr:={(fF (i5 a)).1.fr with PC:=(bH (bE (i5 a).fr.PC (dH 2 (fF (i5 a)).2.2)) 65535)},ffault:=(FQ a)})
def UB:Bool:=(((dd (aP (sA a.R) (bS (oR a).fbus true)) (aP (sA a.R) (bS (oR a).fbus (k80 {(oR a)with fr:=(sA a.R),fstop:=a.Stop}))))&&true)&&true)
def OB:Bool:=(((s1 false)&&(r1 a.R.D))&&(((s1 false)&&(r1 a.R.A))&&((s1 a.R.Other)&&((s1 a.R.PC)&&((s1 a.R.Flags)&&((s1 a.R.Mask)&&((s1 a.R.Super)&&((s1 a.R.Trace)&&(((s1 false)&&(r1 a.Bus.Bytes))&&(((s1 false)&&(r1 a.Bus.Log))&&((s1 a.Stop)&&((s1 a.Halt)&&true))))))))))))
def J4:aI:=(FP {(oR a)with fr:=(sA a.R),fstop:=a.Stop})
def XP:Bool:=((OB a)&&((jC (J4 a) true)&&((jY (oR a).ffault true)&&((iE (sA a.R) (dW (oR a).fbus ((s1 a.Stop)&&(jY (oR a).ffault true))))&&((rQ (fF (i5 a)).2.1 true)&&(iB (oR a).fr (iB (sA a.R) (dP (oR a).fbus (lG (J4 a) true)))))))))
def XQ:Bool:=(aP (sA a.R) (bS (fF (i5 a)).1.fbus true))
def H4:Bool:=(((dd (XQ a) (aP (sA a.R) (bS (fF (i5 a)).1.fbus (k80 (aS.mk (sA a.R) (fF (i5 a)).1.fbus a.Stop (FQ a))))))&&true)&&true)
def BB:aI:=(FP (aS.mk (sA a.R) (fF (i5 a)).1.fbus a.Stop (FQ a)))
def M4:Bool:=((s1 (8:Int))&&((s1 (fF (i5 a)).1.ffault.PC)&&((s1 (fF (i5 a)).1.ffault.Addr)&&((s1 (fF (i5 a)).1.ffault.Word)&&((s1 (fF (i5 a)).1.ffault.Write)&&true)))))
def M5:Bool:=((OB a)&&((jC (BB a) true)&&((M4 a)&&((iE (sA a.R) (dW (fF (i5 a)).1.fbus ((s1 a.Stop)&&(M4 a))))&&((rQ (fF (i5 a)).2.1 true)&&(iB (fF (i5 a)).1.fr (iB (sA a.R) (dP (fF (i5 a)).1.fbus (lG (BB a) true)))))))))
def jP:aS:=(bF4 (fF (i5 a)).2.1 (i5 a).fr.PC {(fF (i5 a)).1 with fr:={(fF (i5 a)).1.fr with PC:=(bH (bE (i5 a).fr.PC (dH 2 (fF (i5 a)).2.2)) 65535)}})
def H5:Bool:=(((dd (aP (sA a.R) (bS (jP a).fbus true)) (aP (sA a.R) (bS (jP a).fbus (k80 {(jP a)with fr:=(sA a.R),fstop:=a.Stop}))))&&true)&&true)
def BC:aI:=(FP {(jP a)with fr:=(sA a.R),fstop:=a.Stop})
def M6:Bool:=((OB a)&&((jC (BC a) true)&&((jY (jP a).ffault true)&&((iE (sA a.R) (dW (jP a).fbus ((s1 a.Stop)&&(jY (jP a).ffault true))))&&((rQ (fF (i5 a)).2.1 true)&&(iB (jP a).fr (iB (sA a.R) (dP (jP a).fbus (lG (BC a) true)))))))))
def H6:Bool:=(((dd (XQ a) (aP (sA a.R) (bS (fF (i5 a)).1.fbus (k80 {(fF (i5 a)).1 with fr:=(sA a.R),fstop:=a.Stop}))))&&true)&&true)
def BD:aI:=(FP {(fF (i5 a)).1 with fr:=(sA a.R),fstop:=a.Stop})
def M7:Bool:=((OB a)&&((jC (BD a) true)&&((jY (fF (i5 a)).1.ffault true)&&((iE (sA a.R) (dW (fF (i5 a)).1.fbus ((s1 a.Stop)&&(jY (fF (i5 a)).1.ffault true))))&&((rQ (fF (i5 a)).2.1 true)&&(iB (fF (i5 a)).1.fr (iB (sA a.R) (dP (fF (i5 a)).1.fbus (lG (BD a) true)))))))))
end
def T87(a:aI):Pt (aI×aL):=(.ok true (.ok ((k78 a)&&true) (.ok true (.ok ((cE (i5 a) (bOF (i5 a)))&&true) (.ok ((UA a)&&((((bOH (fF (i5 a)).2.1)&&true)||(!(J0 (fF (i5 a)).1)))&&true)) (.br (bif (bif (J0 (fF (i5 a)).1)then(bOG (fF (i5 a)).2.1)else false)then(!(fF (i5 a)).1.fr.Super)else false) (.ok true (.ok (XO a) (.br (J0 (DQ a)) (.ok true (.ok ((cE (fF (i5 a)).1 (bF5 (fF (i5 a)).2.1 (i5 a).fr.PC {(fF (i5 a)).1 with fr:={(fF (i5 a)).1.fr with PC:=(bH (bE (i5 a).fr.PC (dH 2 (fF (i5 a)).2.2)) 65535)},ffault:=(FQ a)}))&&true) (.ok ((cE (oR a) (OU (oR a)))&&true) (.br (J0 (oR a)) (.ok ((cE (oR a) (k80 (oR a)))&&true) (.ok ((aO (FP (oR a)) true)&&((aO (FP (oR a)) true)&&true)) (.leaf ((FP (oR a)),(aL.mk 0 0 0 0 false))))) (.ok ((aLM a.R)&&true) (.ok true (.ok ((UB a)&&(((UB a)&&((UB a)&&(XP a)))&&(XP a))) (.ok ((aO (J4 a) true)&&((aO (J4 a) true)&&true)) (.leaf ((J4 a),(oR a).ffault)))))))))) (.ok (XO a) (.br (J0 (DQ a)) (.ok ((cE (fF (i5 a)).1 (k80 (DQ a)))&&true) (.ok ((aO (FP (DQ a)) true)&&((aO (FP (DQ a)) true)&&true)) (.leaf ((FP (DQ a)),(aL.mk 0 0 0 0 false))))) (.ok ((aLM a.R)&&true) (.ok true (.ok ((H4 a)&&(((H4 a)&&((H4 a)&&(M5 a)))&&(M5 a))) (.ok ((aO (BB a) true)&&((aO (BB a) true)&&true)) (.leaf ((BB a),(FQ a)))))))))))) (.ok ((UA a)&&true) (.br (J0 (fF (i5 a)).1) (.ok true (.ok ((cE (fF (i5 a)).1 (bF5 (fF (i5 a)).2.1 (i5 a).fr.PC {(fF (i5 a)).1 with fr:={(fF (i5 a)).1.fr with PC:=(bH (bE (i5 a).fr.PC (dH 2 (fF (i5 a)).2.2)) 65535)}}))&&true) (.ok ((cE (jP a) (OU (jP a)))&&true) (.br (J0 (jP a)) (.ok ((cE (jP a) (k80 (jP a)))&&true) (.ok ((aO (FP (jP a)) true)&&((aO (FP (jP a)) true)&&true)) (.leaf ((FP (jP a)),(aL.mk 0 0 0 0 false))))) (.ok ((aLM a.R)&&true) (.ok true (.ok ((H5 a)&&(((H5 a)&&((H5 a)&&(M6 a)))&&(M6 a))) (.ok ((aO (BC a) true)&&((aO (BC a) true)&&true)) (.leaf ((BC a),(jP a).ffault)))))))))) (.ok ((UA a)&&true) (.br (J0 (fF (i5 a)).1) (.ok ((cE (fF (i5 a)).1 (k80 (fF (i5 a)).1))&&true) (.ok ((aO (FP (fF (i5 a)).1) true)&&((aO (FP (fF (i5 a)).1) true)&&true)) (.leaf ((FP (fF (i5 a)).1),(aL.mk 0 0 0 0 false))))) (.ok ((aLM a.R)&&true) (.ok true (.ok ((H6 a)&&(((H6 a)&&((H6 a)&&(M7 a)))&&(M7 a))) (.ok ((aO (BD a) true)&&((aO (BD a) true)&&true)) (.leaf ((BD a),(fF (i5 a)).1.ffault))))))))))))))))
def xE(a:aI):aI×aL:=hid (T87 a).val
def k87(a:aI):Bool:=hid (T87 a).okv
def n87(a:aI)(r:aI×aL):SV×List Blk:=((.tup [(.agg [.sl 0 0 (ln r.1.R.D), .sl 1 0 (ln r.1.R.A),li r.1.R.Other,li r.1.R.PC,li r.1.R.Flags,li r.1.R.Mask, .lit (.bool r.1.R.Super), .lit (.bool r.1.R.Trace), .sl 2 0 (ln r.1.Bus.Bytes), .sl 3 0 (ln r.1.Bus.Log), .lit (.bool r.1.Stop), .lit (.bool r.1.Halt)]),(.agg [li r.2.Vector,li r.2.PC,li r.2.Addr,li r.2.Word, .lit (.bool r.2.Write)])]),[.lst 1 r.1.R.D, .lst 1 r.1.R.A, .lst 1 r.1.Bus.Bytes, .lst 5 r.1.Bus.Log])
def q87:=bF6 (fun a=>n87 a (xE a)) k87
theorem t87:cK 87 q87:=a7G fun a hk=>tc b95 aTA [(8,K8),(14,K0),(23,K5),(31,sK),(50,K5),(60,K6),(66,sK),(74,K13)] [] true (T87 a) (n87 a) hk
def Q87:=aZ 87 q87 Q160
theorem a7H:QO Q87:=aF t87 aTA
section
variable(a:aI)
def M8:Bool:=(((s1 false)&&(r1 a.R.D))&&(((s1 false)&&(r1 a.R.A))&&((s1 a.R.Other)&&((s1 a.R.PC)&&((s1 a.R.Flags)&&((s1 a.R.Mask)&&((s1 a.R.Super)&&((s1 a.R.Trace)&&(((s1 false)&&(r1 a.Bus.Bytes))&&(((s1 false)&&(r1 a.Bus.Log))&&((s1 a.Stop)&&((s1 a.Halt)&&true))))))))))))
def mC:aI:=(V0 (xE a).1 (xE a).2 (xE a).1.R.Mask)
def aC3:Bool:=(((s1 (xE a).2.Vector)&&true)&&((M8 a)&&((jC (mC a) true)&&(lG (xE a).1 ((jC (mC a) true)&&((jY (xE a).2 true)&&(lG (mC a) true)))))))
def aC4:Bool:=((aO (mC a) true)&&((aO (mC a) true)&&true))
def BE:aI:=(V0 (mC a) (aL.mk 9 (mC a).R.PC 0 0 false) (mC a).R.Mask)
def aC5:Bool:=((aO (BE a) true)&&((aO (BE a) true)&&true))
def BF:aI:=(V0 (xE a).1 (aL.mk 9 (xE a).1.R.PC 0 0 false) (xE a).1.R.Mask)
def aC6:Bool:=((aO (BF a) true)&&((aO (BF a) true)&&true))
end
def a7I(a:aI):Pt (aI×Int):=(.ok true (.ok ((k87 a)&&true) (.ok true (.br (dC (xE a).2.Vector 0) (.ok ((((aO (xE a).1 true)&&true)&&(V1 (xE a).1 (xE a).2 (xE a).1.R.Mask))&&true) (.ok true (.br (bif (ltI (xE a).2.Vector 18)then(dC (xE a).2.Vector 5)else false) (.ok (aC3 a) (.ok (aC4 a) (.leaf ((mC a),(xE a).2.Vector)))) (.ok true (.br (bif a.R.Trace then(!(mC a).Halt)else false) (.ok ((((aO (mC a) true)&&true)&&(V1 (mC a) (aL.mk 9 (mC a).R.PC 0 0 false) (mC a).R.Mask))&&true) (.ok true (.br (eqI (xE a).2.Vector 0) (.ok true (.ok (aC5 a) (.leaf ((BE a),9)))) (.ok (((s1 (xE a).2.Vector)&&true)&&((M8 a)&&((jC (BE a) true)&&(lG (xE a).1 ((jC (BE a) true)&&((jY (xE a).2 true)&&(lG (mC a) (lG (BE a) true)))))))) (.ok (aC5 a) (.leaf ((BE a),(xE a).2.Vector))))))) (.ok (aC3 a) (.ok (aC4 a) (.leaf ((mC a),(xE a).2.Vector))))))))) (.ok true (.br (bif a.R.Trace then(!(xE a).1.Halt)else false) (.ok ((((aO (xE a).1 true)&&true)&&(V1 (xE a).1 (aL.mk 9 (xE a).1.R.PC 0 0 false) (xE a).1.R.Mask))&&true) (.ok true (.br (eqI (xE a).2.Vector 0) (.ok true (.ok (aC6 a) (.leaf ((BF a),9)))) (.ok (((s1 (xE a).2.Vector)&&true)&&((M8 a)&&((jC (BF a) true)&&(lG (xE a).1 ((jC (BF a) true)&&((jY (xE a).2 true)&&(lG (BF a) true))))))) (.ok (aC6 a) (.leaf ((BF a),(xE a).2.Vector))))))) (.ok (((s1 (xE a).2.Vector)&&true)&&((M8 a)&&((jC (xE a).1 true)&&(lG (xE a).1 ((jC (xE a).1 true)&&((jY (xE a).2 true)&&true)))))) (.ok ((aO (xE a).1 true)&&((aO (xE a).1 true)&&true)) (.leaf ((xE a).1,(xE a).2.Vector))))))))))
def aXF(a:aI):aI×Int:=hid (a7I a).val
def bO8(a:aI):Bool:=hid (a7I a).okv
def b44(a:aI)(r:aI×Int):SV×List Blk:=((.tup [(.agg [.sl 0 0 (ln r.1.R.D), .sl 1 0 (ln r.1.R.A),li r.1.R.Other,li r.1.R.PC,li r.1.R.Flags,li r.1.R.Mask, .lit (.bool r.1.R.Super), .lit (.bool r.1.R.Trace), .sl 2 0 (ln r.1.Bus.Bytes), .sl 3 0 (ln r.1.Bus.Log), .lit (.bool r.1.Stop), .lit (.bool r.1.Halt)]),(.one (li r.2))]),[.lst 1 r.1.R.D, .lst 1 r.1.R.A, .lst 1 r.1.Bus.Bytes, .lst 5 r.1.Bus.Log])
def q119:=bF6 (fun a=>b44 a (aXF a)) bO8
theorem cI4:cK 119 q119:=a7G fun a hk=>tc bXM a7H [(7,K8),(12,K0),(14,K8),(15,K13),(18,K0),(21,K0),(25,K0),(28,K8),(30,K0),(33,sK),(36,sK),(39,K8),(42,K0),(46,K0),(49,K0),(51,K8),(52,K8),(54,K0)] [] true (a7I a) (b44 a) hk
def Q119:=aZ 119 q119 Q87
theorem aTB:QO Q119:=aF cI4 a7H
def cI5(a:bN):List SV:=[(.agg [.sl 0 0 (ln a.Cpu.R.D), .sl 1 0 (ln a.Cpu.R.A),li a.Cpu.R.Other,li a.Cpu.R.PC,li a.Cpu.R.Flags,li a.Cpu.R.Mask, .lit (.bool a.Cpu.R.Super), .lit (.bool a.Cpu.R.Trace), .sl 2 0 (ln a.Cpu.Bus.Bytes), .sl 3 0 (ln a.Cpu.Bus.Log), .lit (.bool a.Cpu.Stop), .lit (.bool a.Cpu.Halt),li a.Line, .lit (.bool a.Edge)])]
def cI6(a:bN):List Blk:=[.lst 1 a.Cpu.R.D, .lst 1 a.Cpu.R.A, .lst 1 a.Cpu.Bus.Bytes, .lst 5 a.Cpu.Bus.Log]
def bO9(N:bN→SV×List Blk)(K:bN→Bool):List SV→List Blk→Option ((SV×List Blk)×Bool)
 |[(.agg [.sl 0 0 l0, .sl 1 0 l1,li c0,li c1,li c2,li c3, .lit (.bool c4), .lit (.bool c5), .sl 2 0 l2, .sl 3 0 l3, .lit (.bool c6), .lit (.bool c7),li c8, .lit (.bool c9)])],[.lst 1 c_0, .lst 1 c_1, .lst 1 c_2, .lst 5 c_3]=>some (N (bN.mk (aI.mk (aH.mk c_0 c_1 c0 c1 c2 c3 c4 c5) (bM.mk c_2 c_3) c6 c7) c8 c9),eC l0 (ln c_0)&&(eC l1 (ln c_1)&&(eC l2 (ln c_2)&&(eC l3 (ln c_3)&&(K (bN.mk (aI.mk (aH.mk c_0 c_1 c0 c1 c2 c3 c4 c5) (bM.mk c_2 c_3) c6 c7) c8 c9))))))
 |_,_=>none
theorem bPA{N:bN→SV×List Blk}{K:bN→Bool}{f:Nat}(h: ∀(a:bN),K a=true→dJ R f (cI5 a) (cI6 a)=some (N a)):cK f (bO9 N K):=fun args hp r e=>by
 unfold bO9 at e;split at e
 ·rename_i l0 l1 c0 c1 c2 c3 c4 c5 l2 l3 c6 c7 c8 c9 c_0 c_1 c_2 c_3;obtain⟨hr,hk⟩:=Prod.mk.inj (Option.some.inj e);obtain⟨d0,hk0⟩:=bJ hk;obtain⟨d1,hk1⟩:=bJ hk0;obtain⟨d2,hk2⟩:=bJ hk1;obtain⟨d3,hk3⟩:=bJ hk2;obtain rfl:=of_decide_eq_true d0;obtain rfl:=of_decide_eq_true d1;obtain rfl:=of_decide_eq_true d2;obtain rfl:=of_decide_eq_true d3;rw[←hr];exact h (bN.mk (aI.mk (aH.mk c_0 c_1 c0 c1 c2 c3 c4 c5) (bM.mk c_2 c_3) c6 c7) c8 c9) hk3
 ·simp at e
section
variable(a:bN)
def M9:Bool:=((d9 a true)&&((d9 a true)&&true))
end
def a7J(a:bN):Pt (bN×Int):=(.ok true (.ok true (.br a.Cpu.Halt (.ok true (.ok (M9 a) (.leaf (a,(-1))))) (.ok ((((d9 a true)&&true)&&(bE6 a))&&true) (.ok true (.br (kU (aB7 a) 0) (.ok ((((d9 a true)&&true)&&(bOE a (aB7 a)))&&true) (.ok ((d9 (a56 a (aB7 a)) true)&&((d9 (a56 a (aB7 a)) true)&&true)) (.leaf ((a56 a (aB7 a)),(bE 100 (aB7 a)))))) (.ok true (.br a.Cpu.Stop (.ok true (.ok (M9 a) (.leaf (a,(-1))))) (.ok ((((d9 a true)&&true)&&(bO8 a.Cpu))&&true) (.ok true (.ok true (.ok ((aO (aXF a.Cpu).1 true)&&((aO (aXF a.Cpu).1 true)&&true)) (.leaf ({a with Cpu:=(aXF a.Cpu).1},(aXF a.Cpu).2))))))))))))))
def aXG(a:bN):bN×Int:=hid (a7J a).val
def bPB(a:bN):Bool:=hid (a7J a).okv
def b45(a:bN)(r:bN×Int):SV×List Blk:=((.tup [(.agg [.sl 0 0 (ln r.1.Cpu.R.D), .sl 1 0 (ln r.1.Cpu.R.A),li r.1.Cpu.R.Other,li r.1.Cpu.R.PC,li r.1.Cpu.R.Flags,li r.1.Cpu.R.Mask, .lit (.bool r.1.Cpu.R.Super), .lit (.bool r.1.Cpu.R.Trace), .sl 2 0 (ln r.1.Cpu.Bus.Bytes), .sl 3 0 (ln r.1.Cpu.Bus.Log), .lit (.bool r.1.Cpu.Stop), .lit (.bool r.1.Cpu.Halt),li r.1.Line, .lit (.bool r.1.Edge)]),(.one (li r.2))]),[.lst 1 r.1.Cpu.R.D, .lst 1 r.1.Cpu.R.A, .lst 1 r.1.Cpu.Bus.Bytes, .lst 5 r.1.Cpu.Bus.Log])
def q142:=bO9 (fun a=>b45 a (aXG a)) bPB
theorem cI7:cK 142 q142:=bPA fun a hk=>tc bXW aTB [(9,sK),(10,K9),(11,K9),(15,K9),(22,sK),(23,K9),(26,K8),(30,K8),(32,K9)] [] true (a7J a) (b45 a) hk
def Q142:=aZ 142 q142 Q119
theorem aTC:QO Q142:=aF cI7 aTB
section
variable(a:bN)
def XR:bN:=(A7 (aXG (A7 a)).1)
end
def T63(a:bN):Pt (bN×Int×Bool):=(.ok true (.ok ((a48 a)&&true) (.br (!(aW3 a)) (.ok true (.ok true (.ok true (.leaf ((bN.mk (aI.mk (aH.mk [] [] 0 0 0 0 false false) (bM.mk [] []) false false) 0 false),0,false))))) (.ok ((aW4 a)&&((((d9 (A7 a) true)&&((d9 (A7 a) true)&&true))&&(d9 (A7 a) (bPB (A7 a))))&&true)) (.ok ((((d9 (aXG (A7 a)).1 true)&&true)&&(aW4 (aXG (A7 a)).1))&&true) (.ok ((d9 (XR a) true)&&((d9 (XR a) true)&&true)) (.ok ((d9 (XR a) true)&&true) (.leaf ((XR a),(aXG (A7 a)).2,true)))))))))
def g63(a:bN):bN×Int×Bool:=hid (T63 a).val
def k63(a:bN):Bool:=hid (T63 a).okv
def q63:=aAP (fun a=>n62 a (g63 a)) k63
theorem t63:cK 100063 q63:=HH fun a hk=>tz b9J aTC [(7,K9),(12,K9),(17,K9)] [] true (T63 a) (n62 a) hk
def Q63:=aZ 100063 q63 Q142
theorem a7K:QO Q63:=aF t63 aTC
def cI9(a:bN):List SV:=[(.one (.ptr 0 0 0))]
def cJA(a:bN):List Blk:=[.box [.imm true 1 a.Cpu.R.D, .imm true 1 a.Cpu.R.A,li a.Cpu.R.Other,li a.Cpu.R.PC,li a.Cpu.R.Flags,li a.Cpu.R.Mask, .lit (.bool a.Cpu.R.Super), .lit (.bool a.Cpu.R.Trace), .imm true 1 a.Cpu.Bus.Bytes, .imm true 5 a.Cpu.Bus.Log, .lit (.bool a.Cpu.Stop), .lit (.bool a.Cpu.Halt),li a.Line, .lit (.bool a.Edge)]]
def bPC(N:bN→SV×List Blk)(K:bN→Bool):List SV→List Blk→Option ((SV×List Blk)×Bool)
 |[(.one (.ptr 0 0 0))],[.box [.imm true 1 c0, .imm true 1 c1,li c2,li c3,li c4,li c5, .lit (.bool c6), .lit (.bool c7), .imm true 1 c8, .imm true 5 c9, .lit (.bool c10), .lit (.bool c11),li c12, .lit (.bool c13)]]=>some (N (bN.mk (aI.mk (aH.mk c0 c1 c2 c3 c4 c5 c6 c7) (bM.mk c8 c9) c10 c11) c12 c13),K (bN.mk (aI.mk (aH.mk c0 c1 c2 c3 c4 c5 c6 c7) (bM.mk c8 c9) c10 c11) c12 c13))
 |_,_=>none
theorem bPD{N:bN→SV×List Blk}{K:bN→Bool}{f:Nat}(h: ∀(a:bN),K a=true→dJ R f (cI9 a) (cJA a)=some (N a)):cK f (bPC N K):=fun _ _ _ e=>by
 unfold bPC at e;split at e
 ·exact vH e (h _)
 ·cases e
def UC(a:bN):Pt (Int):=(.ok true (.ok true (.br a.Edge (.ok true (.ok true (.leaf 7))) (.ok true (.br (kU a.Line a.Cpu.R.Mask) (.ok true (.ok true (.leaf a.Line))) (.ok true (.ok true (.leaf 0))))))))
def aMZ(a:bN):Int:=hid (UC a).val
def aM0(a:bN):Bool:=hid (UC a).okv
def a7L(a:bN)(r:Int):SV×List Blk:=((.one (li r)),[.box [.imm true 1 a.Cpu.R.D, .imm true 1 a.Cpu.R.A,li a.Cpu.R.Other,li a.Cpu.R.PC,li a.Cpu.R.Flags,li a.Cpu.R.Mask, .lit (.bool a.Cpu.R.Super), .lit (.bool a.Cpu.R.Trace), .imm true 1 a.Cpu.Bus.Bytes, .imm true 5 a.Cpu.Bus.Log, .lit (.bool a.Cpu.Stop), .lit (.bool a.Cpu.Halt),li a.Line, .lit (.bool a.Edge)]])
def q144v1:=bPC (fun a=>a7L a (aMZ a)) aM0
theorem bPE:cK 144 q144v1:=bPD fun a hk=>tc bHU a7K [(7,sK),(12,K0),(18,K0),(23,K0)] [] true (UC a) (a7L a) hk
def Q144v1:=aZ 144 q144v1 Q63
theorem XS:QO Q144v1:=aF bPE a7K
def T64(a:bN):Pt (Int×Bool):=(.ok true (.ok ((k67 a)&&true) (.br (!(g67 a)) (.ok true (.ok true (.ok true (.leaf (0,false))))) (.ok ((aM0 a)&&true) (.ok true (.ok true (.leaf ((aMZ a),true))))))))
def g64(a:bN):Int×Bool:=hid (T64 a).val
def k64(a:bN):Bool:=hid (T64 a).okv
def n64(a:bN)(r:Int×Bool):SV×List Blk:=((.tup [(.one (li r.1)),(.one (.lit (.bool r.2)))]),[])
def q64:=aAP (fun a=>n64 a (g64 a)) k64
theorem t64:cK 100064 q64:=HH fun a hk=>tz b9K XS [(4,K9)] [] true (T64 a) (n64 a) hk
def Q64:=aZ 100064 q64 Q144v1
theorem a7M:QO Q64:=aF t64 XS
def T65(a:bN):Pt (Int×Bool):=(.ok true (.ok ((a48 a)&&true) (.br (!(aW3 a)) (.ok true (.ok true (.ok true (.leaf (0,false))))) (.ok ((bE6 a)&&true) (.ok true (.ok true (.leaf ((aB7 a),true))))))))
def g65(a:bN):Int×Bool:=hid (T65 a).val
def k65(a:bN):Bool:=hid (T65 a).okv
def q65:=aAP (fun a=>n64 a (g65 a)) k65
theorem t65:cK 100065 q65:=HH fun a hk=>tz b9L a7M [(4,K9),(7,K9)] [] true (T65 a) (n64 a) hk
def Q65:=aZ 100065 q65 Q64
theorem aM1:QO Q65:=aF t65 a7M
def cJC(a:List Row)(b:List Row):List SV:=[(.one (.imm true 1 a)),(.one (.imm true 1 b))]
def cJD(a:List Row)(b:List Row):List Blk:=[]
def bF7(N:List Row→List Row→SV×List Blk)(K:List Row→List Row→Bool):List SV→List Blk→Option ((SV×List Blk)×Bool)
 |[(.one (.imm true 1 c0)),(.one (.imm true 1 c1))],[]=>some (N c0 c1,K c0 c1)
 |_,_=>none
theorem a7N{N:List Row→List Row→SV×List Blk}{K:List Row→List Row→Bool}{f:Nat}(h: ∀(a:List Row)(b:List Row),K a b=true→dJ R f (cJC a b) (cJD a b)=some (N a b)):cK f (bF7 N K):=fun _ _ _ e=>by
 unfold bF7 at e;split at e
 ·exact vH e (h _ _)
 ·cases e
structure V14_0 where
 mk::
 (s0:List Row)
 (s1:List Row)
 (s12:Int)
 (s13:Int)
def XT(v:V14_0):Pt (Option V14_0):=(.ok true (.br (ltI v.s13 v.s12) (.ok true (.ok ((hZ [.int .i64] v.s0 v.s13)&&((hZ [.int .i64] v.s1 v.s13)&&true)) (.br (dC (bQ v.s0 (iN v.s13) 0) (bQ v.s1 (iN v.s13) 0)) (.ok true (.leaf none)) (.ok true (.ok true (.leaf (some {v with s13:=(bE v.s13 1)}))))))) (.leaf none)))
def aFQ(v:V14_0):St:=⟨[(0,(.one (.imm true 1 v.s0))),(1,(.one (.imm true 1 v.s1))),(12,(.one (li v.s12))),(13,(.one (li v.s13)))],[]⟩
def aTE:St→Option (V14_0×Bool)
 |⟨[(0,(.one (.imm true 1 c0))),(1,(.one (.imm true 1 c1))),(12,(.one (li c2))),(13,(.one (li c3)))],[]⟩=>some ((V14_0.mk c0 c1 c2 c3),true)
 |_=>none
def aM2:St→Option (Pt Out):=x9 Q65 [(18,K0),(19,K0),(22,K0),(23,K0)] [] true [] 0 2097152 aZ4
theorem bPF(v:V14_0):((aM2 (aFQ v)).bind (sY true false 0 [0,1,12,13]))=some ((XT v).map (Option.map aFQ)):=by kernel_rfl
theorem bPG(σ:St)(v:V14_0)(h:aTE σ=some (v,true)):σ=aFQ v:=by
 unfold aTE at h;split at h
 ·obtain⟨hr,hk⟩:=Prod.mk.inj (Option.some.inj h);rw[←hr];rfl
 ·simp at h
theorem bPH:dB (vF true false 0 [0,1,12,13] aM2 aTE aFQ XT 2097152) (fY R 0 2097152 (.loop [0,1,12,13] aZ4)):=eM (dD aM1 (cQ (l:=[]) (by kernel_rfl) trivial)) bPG bPF
def bPI:Lp:=(14,vF true false 0 [0,1,12,13] aM2 aTE aFQ XT 2097152)::[]
def aTF(v:V14_0):V14_0:=(hid (eG XT 2097152 v)).getD v
def a7O(v:V14_0):Bool:=(hid (eG XT 2097152 v)).isSome
section
variable(a:List Row)(b:List Row)
def a7P:V14_0:=(aTF (V14_0.mk a b (cA a) 0))
end
def T14(a:List Row)(b:List Row):Pt (Bool):=(.ok true (.ok true (.br (dC (cA a) (cA b)) (.ok true (.ok true (.ok true (.leaf false)))) (.ok true (.ok true (.ok true (.ok (a7O (V14_0.mk a b (cA a) 0)) (.br (ltI (a7P a b).s13 (a7P a b).s12) (.ok true (.ok true (.leaf false))) (.ok true (.ok true (.ok true (.leaf true))))))))))))
def g14(a:List Row)(b:List Row):Bool:=hid (T14 a b).val
def k14(a:List Row)(b:List Row):Bool:=hid (T14 a b).okv
def n14(a:List Row)(b:List Row)(r:Bool):SV×List Blk:=((.one (.lit (.bool r))),[])
def q14:=bF7 (fun a b=>n14 a b (g14 a b)) k14
theorem cJE:fM (fun live x=>dB (oV bPI (m6 x)) (fY R 0 2097152 (.loop live x))) F14.body:=(cQ (l:=[([0,1,12,13],aZ4)]) (by kernel_rfl) ⟨fN (n:=14) (by kernel_rfl) fun σ σr t h ho hl=>bPH σ σr t h ho hl,trivial⟩)
theorem t14:cK 100014 q14:=a7N fun a b hk=>tzl b9E aM1 cJE [(18,K0),(19,K0),(22,K0),(23,K0)] [] true (T14 a b) (n14 a b) hk
def Q14:=aZ 100014 q14 Q65
theorem a7Q:QO Q14:=aF t14 aM1
def cJF(a:aH)(b:aH):List SV:=[(.agg [.imm true 1 a.D, .imm true 1 a.A,li a.Other,li a.PC,li a.Flags,li a.Mask, .lit (.bool a.Super), .lit (.bool a.Trace)]),(.agg [.imm true 1 b.D, .imm true 1 b.A,li b.Other,li b.PC,li b.Flags,li b.Mask, .lit (.bool b.Super), .lit (.bool b.Trace)])]
def cJG(a:aH)(b:aH):List Blk:=[]
def bPK(N:aH→aH→SV×List Blk)(K:aH→aH→Bool):List SV→List Blk→Option ((SV×List Blk)×Bool)
 |[(.agg [.imm true 1 c0, .imm true 1 c1,li c2,li c3,li c4,li c5, .lit (.bool c6), .lit (.bool c7)]),(.agg [.imm true 1 c8, .imm true 1 c9,li c10,li c11,li c12,li c13, .lit (.bool c14), .lit (.bool c15)])],[]=>some (N (aH.mk c0 c1 c2 c3 c4 c5 c6 c7) (aH.mk c8 c9 c10 c11 c12 c13 c14 c15),K (aH.mk c0 c1 c2 c3 c4 c5 c6 c7) (aH.mk c8 c9 c10 c11 c12 c13 c14 c15))
 |_,_=>none
theorem bPL{N:aH→aH→SV×List Blk}{K:aH→aH→Bool}{f:Nat}(h: ∀(a:aH)(b:aH),K a b=true→dJ R f (cJF a b) (cJG a b)=some (N a b)):cK f (bPK N K):=fun _ _ _ e=>by
 unfold bPK at e;split at e
 ·exact vH e (h _ _)
 ·cases e
def T13(a:aH)(b:aH):Pt (Bool):=(.ok true (.ok ((k14 a.D b.D)&&((((k14 a.A b.A)&&true)||(!(g14 a.D b.D)))&&true)) (.ok true (.ok true (.leaf (bif (bif (bif (bif (bif (bif (bif (g14 a.D b.D)then(g14 a.A b.A)else false)then(eqI a.Other b.Other)else false)then(eqI a.PC b.PC)else false)then(eqI a.Flags b.Flags)else false)then(eqI a.Mask b.Mask)else false)then(vG a.Super b.Super)else false)then(vG a.Trace b.Trace)else false))))))
def g13(a:aH)(b:aH):Bool:=hid (T13 a b).val
def k13(a:aH)(b:aH):Bool:=hid (T13 a b).okv
def n13(a:aH)(b:aH)(r:Bool):SV×List Blk:=((.one (.lit (.bool r))),[])
def q13:=bPK (fun a b=>n13 a b (g13 a b)) k13
theorem t13:cK 100013 q13:=bPL fun a b hk=>tz b9D a7Q [(6,K1),(8,K1),(12,K1),(14,K1),(19,K0),(21,K0),(26,K0),(28,K0),(33,K0),(35,K0),(40,K0),(42,K0),(47,sK),(49,sK),(54,sK),(56,sK)] [] true (T13 a b) (n13 a b) hk
def Q13:=aZ 100013 q13 Q14
theorem aM3:QO Q13:=aF t13 a7Q
def cJI(a:List Row)(b:List Row):List SV:=[(.one (.imm true 5 a)),(.one (.imm true 5 b))]
def cJJ(a:List Row)(b:List Row):List Blk:=[]
def bPM(N:List Row→List Row→SV×List Blk)(K:List Row→List Row→Bool):List SV→List Blk→Option ((SV×List Blk)×Bool)
 |[(.one (.imm true 5 c0)),(.one (.imm true 5 c1))],[]=>some (N c0 c1,K c0 c1)
 |_,_=>none
theorem bPN{N:List Row→List Row→SV×List Blk}{K:List Row→List Row→Bool}{f:Nat}(h: ∀(a:List Row)(b:List Row),K a b=true→dJ R f (cJI a b) (cJJ a b)=some (N a b)):cK f (bPM N K):=fun _ _ _ e=>by
 unfold bPM at e;split at e
 ·exact vH e (h _ _)
 ·cases e
structure V157_0 where
 mk::
 (s0:List Row)
 (s1:List Row)
 (s12:Int)
 (s13:Int)
def NA(v:V157_0):Pt (Option V157_0):=(.ok true (.br (ltI v.s13 v.s12) (.ok true (.ok ((hZ [.int .i64, .int .i64, .int .i64, .int .i64, .int .i64] v.s0 v.s13)&&((hZ [.int .i64, .int .i64, .int .i64, .int .i64, .int .i64] v.s1 v.s13)&&true)) (.br (!((eqI (bQ v.s0 (iN v.s13) 0) (bQ v.s1 (iN v.s13) 0))&&((eqI (bQ v.s0 (iN v.s13) 1) (bQ v.s1 (iN v.s13) 1))&&((eqI (bQ v.s0 (iN v.s13) 2) (bQ v.s1 (iN v.s13) 2))&&((eqI (bQ v.s0 (iN v.s13) 3) (bQ v.s1 (iN v.s13) 3))&&((eqI (bQ v.s0 (iN v.s13) 4) (bQ v.s1 (iN v.s13) 4))&&true)))))) (.ok true (.leaf none)) (.ok true (.ok true (.leaf (some {v with s13:=(bE v.s13 1)}))))))) (.leaf none)))
def UD(v:V157_0):St:=⟨[(0,(.one (.imm true 5 v.s0))),(1,(.one (.imm true 5 v.s1))),(12,(.one (li v.s12))),(13,(.one (li v.s13)))],[]⟩
def aC7:St→Option (V157_0×Bool)
 |⟨[(0,(.one (.imm true 5 c0))),(1,(.one (.imm true 5 c1))),(12,(.one (li c2))),(13,(.one (li c3)))],[]⟩=>some ((V157_0.mk c0 c1 c2 c3),true)
 |_=>none
def aC8:St→Option (Pt Out):=x9 Q13 [(18,K10),(19,K10),(22,K10),(23,K10)] [] true [] 0 2097152 aHT
theorem bF8(v:V157_0):((aC8 (UD v)).bind (sY true false 0 [0,1,12,13]))=some ((NA v).map (Option.map UD)):=by kernel_rfl
theorem bF9(σ:St)(v:V157_0)(h:aC7 σ=some (v,true)):σ=UD v:=by
 unfold aC7 at h;split at h
 ·obtain⟨hr,hk⟩:=Prod.mk.inj (Option.some.inj h);rw[←hr];rfl
 ·simp at h
theorem bGA:dB (vF true false 0 [0,1,12,13] aC8 aC7 UD NA 2097152) (fY R 0 2097152 (.loop [0,1,12,13] aHT)):=eM (dD aM3 (cQ (l:=[]) (by kernel_rfl) trivial)) bF9 bF8
def bGB:Lp:=(14,vF true false 0 [0,1,12,13] aC8 aC7 UD NA 2097152)::[]
def aC9(v:V157_0):V157_0:=(hid (eG NA 2097152 v)).getD v
def aM4(v:V157_0):Bool:=(hid (eG NA 2097152 v)).isSome
section
variable(a:List Row)(b:List Row)
def aM5:V157_0:=(aC9 (V157_0.mk a b (cA a) 0))
end
def a7R(a:List Row)(b:List Row):Pt (Bool):=(.ok true (.ok true (.br (dC (cA a) (cA b)) (.ok true (.ok true (.ok true (.leaf false)))) (.ok true (.ok true (.ok true (.ok (aM4 (V157_0.mk a b (cA a) 0)) (.br (ltI (aM5 a b).s13 (aM5 a b).s12) (.ok true (.ok true (.leaf false))) (.ok true (.ok true (.ok true (.leaf true))))))))))))
def bPO(a:List Row)(b:List Row):Bool:=hid (a7R a b).val
def bPP(a:List Row)(b:List Row):Bool:=hid (a7R a b).okv
def q157:=bPM (fun a b=>n14 a b (bPO a b)) bPP
theorem b5B:fM (fun live x=>dB (oV bGB (m6 x)) (fY R 0 2097152 (.loop live x))) F157.body:=(cQ (l:=[([0,1,12,13],aHT)]) (by kernel_rfl) ⟨fN (n:=14) (by kernel_rfl) fun σ σr t h ho hl=>bGA σ σr t h ho hl,trivial⟩)
theorem cJK:cK 100157 q157:=bPN fun a b hk=>tzl bYA aM3 b5B [(18,K10),(19,K10),(22,K10),(23,K10)] [] true (a7R a b) (n14 a b) hk
def Q157:=aZ 100157 q157 Q13
theorem aTG:QO Q157:=aF cJK aM3
def cJL(a:bM)(b:bM):List SV:=[(.agg [.imm true 1 a.Bytes, .imm true 5 a.Log]),(.agg [.imm true 1 b.Bytes, .imm true 5 b.Log])]
def cJM(a:bM)(b:bM):List Blk:=[]
def bPQ(N:bM→bM→SV×List Blk)(K:bM→bM→Bool):List SV→List Blk→Option ((SV×List Blk)×Bool)
 |[(.agg [.imm true 1 c0, .imm true 5 c1]),(.agg [.imm true 1 c2, .imm true 5 c3])],[]=>some (N (bM.mk c0 c1) (bM.mk c2 c3),K (bM.mk c0 c1) (bM.mk c2 c3))
 |_,_=>none
theorem bPR{N:bM→bM→SV×List Blk}{K:bM→bM→Bool}{f:Nat}(h: ∀(a:bM)(b:bM),K a b=true→dJ R f (cJL a b) (cJM a b)=some (N a b)):cK f (bPQ N K):=fun _ _ _ e=>by
 unfold bPQ at e;split at e
 ·exact vH e (h _ _)
 ·cases e
def T82(a:bM)(b:bM):Pt (Bool):=(.ok true (.ok ((k14 a.Bytes b.Bytes)&&((((bPP a.Log b.Log)&&true)||(!(g14 a.Bytes b.Bytes)))&&true)) (.ok true (.ok true (.leaf (bif (g14 a.Bytes b.Bytes)then(bPO a.Log b.Log)else false))))))
def g82(a:bM)(b:bM):Bool:=hid (T82 a b).val
def k82(a:bM)(b:bM):Bool:=hid (T82 a b).okv
def n82(a:bM)(b:bM)(r:Bool):SV×List Blk:=((.one (.lit (.bool r))),[])
def q82:=bPQ (fun a b=>n82 a b (g82 a b)) k82
theorem t82:cK 100082 q82:=bPR fun a b hk=>tz b91 aTG [(6,K1),(8,K1),(12,K11),(14,K11)] [] true (T82 a b) (n82 a b) hk
def Q82:=aZ 100082 q82 Q157
theorem a7S:QO Q82:=aF t82 aTG
def cJP(a:aI)(b:aI):List SV:=[(.agg [.imm true 1 a.R.D, .imm true 1 a.R.A,li a.R.Other,li a.R.PC,li a.R.Flags,li a.R.Mask, .lit (.bool a.R.Super), .lit (.bool a.R.Trace), .imm true 1 a.Bus.Bytes, .imm true 5 a.Bus.Log, .lit (.bool a.Stop), .lit (.bool a.Halt)]),(.agg [.imm true 1 b.R.D, .imm true 1 b.R.A,li b.R.Other,li b.R.PC,li b.R.Flags,li b.R.Mask, .lit (.bool b.R.Super), .lit (.bool b.R.Trace), .imm true 1 b.Bus.Bytes, .imm true 5 b.Bus.Log, .lit (.bool b.Stop), .lit (.bool b.Halt)])]
def cJQ(a:aI)(b:aI):List Blk:=[]
def bPS(N:aI→aI→SV×List Blk)(K:aI→aI→Bool):List SV→List Blk→Option ((SV×List Blk)×Bool)
 |[(.agg [.imm true 1 c0, .imm true 1 c1,li c2,li c3,li c4,li c5, .lit (.bool c6), .lit (.bool c7), .imm true 1 c8, .imm true 5 c9, .lit (.bool c10), .lit (.bool c11)]),(.agg [.imm true 1 c12, .imm true 1 c13,li c14,li c15,li c16,li c17, .lit (.bool c18), .lit (.bool c19), .imm true 1 c20, .imm true 5 c21, .lit (.bool c22), .lit (.bool c23)])],[]=>some (N (aI.mk (aH.mk c0 c1 c2 c3 c4 c5 c6 c7) (bM.mk c8 c9) c10 c11) (aI.mk (aH.mk c12 c13 c14 c15 c16 c17 c18 c19) (bM.mk c20 c21) c22 c23),K (aI.mk (aH.mk c0 c1 c2 c3 c4 c5 c6 c7) (bM.mk c8 c9) c10 c11) (aI.mk (aH.mk c12 c13 c14 c15 c16 c17 c18 c19) (bM.mk c20 c21) c22 c23))
 |_,_=>none
theorem bPT{N:aI→aI→SV×List Blk}{K:aI→aI→Bool}{f:Nat}(h: ∀(a:aI)(b:aI),K a b=true→dJ R f (cJP a b) (cJQ a b)=some (N a b)):cK f (bPS N K):=fun _ _ _ e=>by
 unfold bPS at e;split at e
 ·exact vH e (h _ _)
 ·cases e
def T11(a:aI)(b:aI):Pt (Bool):=(.ok true (.ok ((k13 a.R b.R)&&((((k82 a.Bus b.Bus)&&true)||(!(g13 a.R b.R)))&&true)) (.ok true (.ok true (.leaf (bif (bif (bif (g13 a.R b.R)then(g82 a.Bus b.Bus)else false)then(vG a.Stop b.Stop)else false)then(vG a.Halt b.Halt)else false))))))
def g11(a:aI)(b:aI):Bool:=hid (T11 a b).val
def k11(a:aI)(b:aI):Bool:=hid (T11 a b).okv
def n11(a:aI)(b:aI)(r:Bool):SV×List Blk:=((.one (.lit (.bool r))),[])
def q11:=bPS (fun a b=>n11 a b (g11 a b)) k11
theorem t11:cK 100011 q11:=bPT fun a b hk=>tz b9C a7S [(6,K6),(8,K6),(12,K7),(14,K7),(19,sK),(21,sK),(26,sK),(28,sK)] [] true (T11 a b) (n11 a b) hk
def Q11:=aZ 100011 q11 Q82
theorem a7T:QO Q11:=aF t11 a7S
def cJR(a:bN)(b:bN):List SV:=[(.agg [.imm true 1 a.Cpu.R.D, .imm true 1 a.Cpu.R.A,li a.Cpu.R.Other,li a.Cpu.R.PC,li a.Cpu.R.Flags,li a.Cpu.R.Mask, .lit (.bool a.Cpu.R.Super), .lit (.bool a.Cpu.R.Trace), .imm true 1 a.Cpu.Bus.Bytes, .imm true 5 a.Cpu.Bus.Log, .lit (.bool a.Cpu.Stop), .lit (.bool a.Cpu.Halt),li a.Line, .lit (.bool a.Edge)]),(.agg [.imm true 1 b.Cpu.R.D, .imm true 1 b.Cpu.R.A,li b.Cpu.R.Other,li b.Cpu.R.PC,li b.Cpu.R.Flags,li b.Cpu.R.Mask, .lit (.bool b.Cpu.R.Super), .lit (.bool b.Cpu.R.Trace), .imm true 1 b.Cpu.Bus.Bytes, .imm true 5 b.Cpu.Bus.Log, .lit (.bool b.Cpu.Stop), .lit (.bool b.Cpu.Halt),li b.Line, .lit (.bool b.Edge)])]
def cJS(a:bN)(b:bN):List Blk:=[]
def bPU(N:bN→bN→SV×List Blk)(K:bN→bN→Bool):List SV→List Blk→Option ((SV×List Blk)×Bool)
 |[(.agg [.imm true 1 c0, .imm true 1 c1,li c2,li c3,li c4,li c5, .lit (.bool c6), .lit (.bool c7), .imm true 1 c8, .imm true 5 c9, .lit (.bool c10), .lit (.bool c11),li c12, .lit (.bool c13)]),(.agg [.imm true 1 c14, .imm true 1 c15,li c16,li c17,li c18,li c19, .lit (.bool c20), .lit (.bool c21), .imm true 1 c22, .imm true 5 c23, .lit (.bool c24), .lit (.bool c25),li c26, .lit (.bool c27)])],[]=>some (N (bN.mk (aI.mk (aH.mk c0 c1 c2 c3 c4 c5 c6 c7) (bM.mk c8 c9) c10 c11) c12 c13) (bN.mk (aI.mk (aH.mk c14 c15 c16 c17 c18 c19 c20 c21) (bM.mk c22 c23) c24 c25) c26 c27),K (bN.mk (aI.mk (aH.mk c0 c1 c2 c3 c4 c5 c6 c7) (bM.mk c8 c9) c10 c11) c12 c13) (bN.mk (aI.mk (aH.mk c14 c15 c16 c17 c18 c19 c20 c21) (bM.mk c22 c23) c24 c25) c26 c27))
 |_,_=>none
theorem bPV{N:bN→bN→SV×List Blk}{K:bN→bN→Bool}{f:Nat}(h: ∀(a:bN)(b:bN),K a b=true→dJ R f (cJR a b) (cJS a b)=some (N a b)):cK f (bPU N K):=fun _ _ _ e=>by
 unfold bPU at e;split at e
 ·exact vH e (h _ _)
 ·cases e
section
variable(a:bN)(b:bN)
def a7U:Bool:=(bif (eqI a.Line b.Line)then(vG a.Edge b.Edge)else false)
end
def T66(a:bN)(b:bN):Pt (Bool):=(.ok true (.ok ((((k11 a.Cpu b.Cpu)&&true)||(!(a7U a b)))&&true) (.ok true (.ok true (.leaf (bif (a7U a b)then(g11 a.Cpu b.Cpu)else false))))))
def g66(a:bN)(b:bN):Bool:=hid (T66 a b).val
def k66(a:bN)(b:bN):Bool:=hid (T66 a b).okv
def n66(a:bN)(b:bN)(r:Bool):SV×List Blk:=((.one (.lit (.bool r))),[])
def q66:=bPU (fun a b=>n66 a b (g66 a b)) k66
theorem t66:cK 100066 q66:=bPV fun a b hk=>tz b9M a7T [(6,K0),(8,K0),(12,sK),(14,sK),(19,K8),(21,K8)] [] true (T66 a b) (n66 a b) hk
def Q66:=aZ 100066 q66 Q11
theorem a7V:QO Q66:=aF t66 a7T
section
variable(a:List Row)
def UE:aM×bN:=(aVX (aM.mk a 0 0))
end
def T68(a:List Row):Pt (bN×Int):=(.ok true (.ok true (.ok ((bCD (aM.mk a 0 0))&&((w7 10 (UE a).1)&&true)) (.ok ((d9 (UE a).2 true)&&((d9 (UE a).2 true)&&true)) (.ok ((d9 (UE a).2 true)&&true) (.leaf ((UE a).2,(cN (cW 10 (UE a).1).2 1))))))))
def BY(a:List Row):bN×Int:=hid (T68 a).val
def k68(a:List Row):Bool:=hid (T68 a).okv
def n68(a:List Row)(r:bN×Int):SV×List Blk:=((.tup [(.agg [.imm true 1 r.1.Cpu.R.D, .imm true 1 r.1.Cpu.R.A,li r.1.Cpu.R.Other,li r.1.Cpu.R.PC,li r.1.Cpu.R.Flags,li r.1.Cpu.R.Mask, .lit (.bool r.1.Cpu.R.Super), .lit (.bool r.1.Cpu.R.Trace), .imm true 1 r.1.Cpu.Bus.Bytes, .imm true 5 r.1.Cpu.Bus.Log, .lit (.bool r.1.Cpu.Stop), .lit (.bool r.1.Cpu.Halt),li r.1.Line, .lit (.bool r.1.Edge)]),(.one (li r.2))]),[])
def q68:=aFG (fun a=>n68 a (BY a)) k68
theorem t68:cK 100068 q68:=L8 fun a hk=>tz b9O a7V [] [] true (T68 a) (n68 a) hk
def Q68:=aZ 100068 q68 Q66
theorem a7W:QO Q68:=aF t68 a7V
def cJT(b:Int)(a:bN):List SV:=[(.one (.ptr 0 0 0)),(.one (li b))]
def cJU(b:Int)(a:bN):List Blk:=[.box [.sl 1 0 (ln a.Cpu.R.D), .sl 2 0 (ln a.Cpu.R.A),li a.Cpu.R.Other,li a.Cpu.R.PC,li a.Cpu.R.Flags,li a.Cpu.R.Mask, .lit (.bool a.Cpu.R.Super), .lit (.bool a.Cpu.R.Trace), .sl 3 0 (ln a.Cpu.Bus.Bytes), .sl 4 0 (ln a.Cpu.Bus.Log), .lit (.bool a.Cpu.Stop), .lit (.bool a.Cpu.Halt),li a.Line, .lit (.bool a.Edge)], .lst 1 a.Cpu.R.D, .lst 1 a.Cpu.R.A, .lst 1 a.Cpu.Bus.Bytes, .lst 5 a.Cpu.Bus.Log]
def bPW(N:Int→bN→SV×List Blk)(K:Int→bN→Bool):List SV→List Blk→Option ((SV×List Blk)×Bool)
 |[(.one (.ptr 0 0 0)),(.one (li c0))],[.box [.sl 1 0 l1, .sl 2 0 l2,li c1,li c2,li c3,li c4, .lit (.bool c5), .lit (.bool c6), .sl 3 0 l3, .sl 4 0 l4, .lit (.bool c7), .lit (.bool c8),li c9, .lit (.bool c10)], .lst 1 c_1, .lst 1 c_2, .lst 1 c_3, .lst 5 c_4]=>some (N c0 (bN.mk (aI.mk (aH.mk c_1 c_2 c1 c2 c3 c4 c5 c6) (bM.mk c_3 c_4) c7 c8) c9 c10),eC l1 (ln c_1)&&(eC l2 (ln c_2)&&(eC l3 (ln c_3)&&(eC l4 (ln c_4)&&(K c0 (bN.mk (aI.mk (aH.mk c_1 c_2 c1 c2 c3 c4 c5 c6) (bM.mk c_3 c_4) c7 c8) c9 c10))))))
 |_,_=>none
theorem bPX{N:Int→bN→SV×List Blk}{K:Int→bN→Bool}{f:Nat}(h: ∀(b:Int)(a:bN),K b a=true→dJ R f (cJT b a) (cJU b a)=some (N b a)):cK f (bPW N K):=fun args hp r e=>by
 unfold bPW at e;split at e
 ·rename_i c0 l1 l2 c1 c2 c3 c4 c5 c6 l3 l4 c7 c8 c9 c10 c_1 c_2 c_3 c_4;obtain⟨hr,hk⟩:=Prod.mk.inj (Option.some.inj e);obtain⟨d0,hk0⟩:=bJ hk;obtain⟨d1,hk1⟩:=bJ hk0;obtain⟨d2,hk2⟩:=bJ hk1;obtain⟨d3,hk3⟩:=bJ hk2;obtain rfl:=of_decide_eq_true d0;obtain rfl:=of_decide_eq_true d1;obtain rfl:=of_decide_eq_true d2;obtain rfl:=of_decide_eq_true d3;rw[←hr];exact h c0 (bN.mk (aI.mk (aH.mk c_1 c_2 c1 c2 c3 c4 c5 c6) (bM.mk c_3 c_4) c7 c8) c9 c10) hk3
 ·simp at e
def a7X(b:Int)(a:bN):Pt (bN):=(.ok true (.ok true (.ok (((d9 a true)&&(d9 a true))&&true) (.leaf (bN.mk a.Cpu b (bif a.Edge then true else(bif (eqI b 7)then(dC a.Line 7)else false)))))))
def a7Y(b:Int)(a:bN):bN:=hid (a7X b a).val
def bPY(b:Int)(a:bN):Bool:=hid (a7X b a).okv
def b5G(b:Int)(a:bN)(r:bN):SV×List Blk:=((.tup []),[.box [.sl 1 0 (ln r.Cpu.R.D), .sl 2 0 (ln r.Cpu.R.A),li r.Cpu.R.Other,li r.Cpu.R.PC,li r.Cpu.R.Flags,li r.Cpu.R.Mask, .lit (.bool r.Cpu.R.Super), .lit (.bool r.Cpu.R.Trace), .sl 3 0 (ln r.Cpu.Bus.Bytes), .sl 4 0 (ln r.Cpu.Bus.Log), .lit (.bool r.Cpu.Stop), .lit (.bool r.Cpu.Halt),li r.Line, .lit (.bool r.Edge)], .lst 1 r.Cpu.R.D, .lst 1 r.Cpu.R.A, .lst 1 r.Cpu.Bus.Bytes, .lst 5 r.Cpu.Bus.Log])
def q147:=bPW (fun b a=>b5G b a (a7Y b a)) bPY
theorem cJV:cK 147 q147:=bPX fun b a hk=>tc bX0 a7W [(8,sK),(16,K0)] [] true (a7X b a) (b5G b a) hk
def Q147:=aZ 147 q147 Q68
theorem aTH:QO Q147:=aF cJV a7W
def cJW(a:bN)(b:Int):List SV:=[(.agg [.imm true 1 a.Cpu.R.D, .imm true 1 a.Cpu.R.A,li a.Cpu.R.Other,li a.Cpu.R.PC,li a.Cpu.R.Flags,li a.Cpu.R.Mask, .lit (.bool a.Cpu.R.Super), .lit (.bool a.Cpu.R.Trace), .imm true 1 a.Cpu.Bus.Bytes, .imm true 5 a.Cpu.Bus.Log, .lit (.bool a.Cpu.Stop), .lit (.bool a.Cpu.Halt),li a.Line, .lit (.bool a.Edge)]),(.one (li b))]
def cJX(a:bN)(b:Int):List Blk:=[]
def bGC(N:bN→Int→SV×List Blk)(K:bN→Int→Bool):List SV→List Blk→Option ((SV×List Blk)×Bool)
 |[(.agg [.imm true 1 c0, .imm true 1 c1,li c2,li c3,li c4,li c5, .lit (.bool c6), .lit (.bool c7), .imm true 1 c8, .imm true 5 c9, .lit (.bool c10), .lit (.bool c11),li c12, .lit (.bool c13)]),(.one (li c14))],[]=>some (N (bN.mk (aI.mk (aH.mk c0 c1 c2 c3 c4 c5 c6 c7) (bM.mk c8 c9) c10 c11) c12 c13) c14,K (bN.mk (aI.mk (aH.mk c0 c1 c2 c3 c4 c5 c6 c7) (bM.mk c8 c9) c10 c11) c12 c13) c14)
 |_,_=>none
theorem a7Z{N:bN→Int→SV×List Blk}{K:bN→Int→Bool}{f:Nat}(h: ∀(a:bN)(b:Int),K a b=true→dJ R f (cJW a b) (cJX a b)=some (N a b)):cK f (bGC N K):=fun _ _ _ e=>by
 unfold bGC at e;split at e
 ·exact vH e (h _ _)
 ·cases e
section
variable(a:bN)(b:Int)
def a70:Bool:=((d9 (a7Y b (MC a)) true)&&true)
end
def T69(a:bN)(b:Int):Pt (bN×Bool):=(.ok true (.ok ((k67 a)&&((((xA b 0 7)&&true)||(!(g67 a)))&&true)) (.br (bif (!(g67 a))then true else(!(vB b 0 7))) (.ok true (.ok true (.ok true (.leaf ((bN.mk (aI.mk (aH.mk [] [] 0 0 0 0 false false) (bM.mk [] []) false false) 0 false),false))))) (.ok ((bDG a)&&true) (.ok ((CM (MC a) (bPY b (MC a)))&&true) (.ok true (.ok ((d9 (a7Y b (MC a)) true)&&(a70 a b)) (.ok (a70 a b) (.leaf ((a7Y b (MC a)),true))))))))))
def g69(a:bN)(b:Int):bN×Bool:=hid (T69 a b).val
def k69(a:bN)(b:Int):Bool:=hid (T69 a b).okv
def n69(a:bN)(b:Int)(r:bN×Bool):SV×List Blk:=((.tup [(.agg [.imm true 1 r.1.Cpu.R.D, .imm true 1 r.1.Cpu.R.A,li r.1.Cpu.R.Other,li r.1.Cpu.R.PC,li r.1.Cpu.R.Flags,li r.1.Cpu.R.Mask, .lit (.bool r.1.Cpu.R.Super), .lit (.bool r.1.Cpu.R.Trace), .imm true 1 r.1.Cpu.Bus.Bytes, .imm true 5 r.1.Cpu.Bus.Log, .lit (.bool r.1.Cpu.Stop), .lit (.bool r.1.Cpu.Halt),li r.1.Line, .lit (.bool r.1.Edge)]),(.one (.lit (.bool r.2)))]),[])
def q69:=bGC (fun a b=>n69 a b (g69 a b)) k69
theorem t69:cK 100069 q69:=a7Z fun a b hk=>tz b9P aTH [(7,K9),(16,K9),(20,K9)] [] true (T69 a b) (n69 a b) hk
def Q69:=aZ 100069 q69 Q147
theorem a71:QO Q69:=aF t69 aTH
def cJY(a:bN)(b:Int):List SV:=[(.agg [.sl 0 0 (ln a.Cpu.R.D), .sl 1 0 (ln a.Cpu.R.A),li a.Cpu.R.Other,li a.Cpu.R.PC,li a.Cpu.R.Flags,li a.Cpu.R.Mask, .lit (.bool a.Cpu.R.Super), .lit (.bool a.Cpu.R.Trace), .sl 2 0 (ln a.Cpu.Bus.Bytes), .sl 3 0 (ln a.Cpu.Bus.Log), .lit (.bool a.Cpu.Stop), .lit (.bool a.Cpu.Halt),li a.Line, .lit (.bool a.Edge)]),(.one (li b))]
def cJZ(a:bN)(b:Int):List Blk:=[.lst 1 a.Cpu.R.D, .lst 1 a.Cpu.R.A, .lst 1 a.Cpu.Bus.Bytes, .lst 5 a.Cpu.Bus.Log]
def bPZ(N:bN→Int→SV×List Blk)(K:bN→Int→Bool):List SV→List Blk→Option ((SV×List Blk)×Bool)
 |[(.agg [.sl 0 0 l0, .sl 1 0 l1,li c0,li c1,li c2,li c3, .lit (.bool c4), .lit (.bool c5), .sl 2 0 l2, .sl 3 0 l3, .lit (.bool c6), .lit (.bool c7),li c8, .lit (.bool c9)]),(.one (li c10))],[.lst 1 c_0, .lst 1 c_1, .lst 1 c_2, .lst 5 c_3]=>some (N (bN.mk (aI.mk (aH.mk c_0 c_1 c0 c1 c2 c3 c4 c5) (bM.mk c_2 c_3) c6 c7) c8 c9) c10,eC l0 (ln c_0)&&(eC l1 (ln c_1)&&(eC l2 (ln c_2)&&(eC l3 (ln c_3)&&(K (bN.mk (aI.mk (aH.mk c_0 c_1 c0 c1 c2 c3 c4 c5) (bM.mk c_2 c_3) c6 c7) c8 c9) c10)))))
 |_,_=>none
theorem bP0{N:bN→Int→SV×List Blk}{K:bN→Int→Bool}{f:Nat}(h: ∀(a:bN)(b:Int),K a b=true→dJ R f (cJY a b) (cJZ a b)=some (N a b)):cK f (bPZ N K):=fun args hp r e=>by
 unfold bPZ at e;split at e
 ·rename_i l0 l1 c0 c1 c2 c3 c4 c5 l2 l3 c6 c7 c8 c9 c10 c_0 c_1 c_2 c_3;obtain⟨hr,hk⟩:=Prod.mk.inj (Option.some.inj e);obtain⟨d0,hk0⟩:=bJ hk;obtain⟨d1,hk1⟩:=bJ hk0;obtain⟨d2,hk2⟩:=bJ hk1;obtain⟨d3,hk3⟩:=bJ hk2;obtain rfl:=of_decide_eq_true d0;obtain rfl:=of_decide_eq_true d1;obtain rfl:=of_decide_eq_true d2;obtain rfl:=of_decide_eq_true d3;rw[←hr];exact h (bN.mk (aI.mk (aH.mk c_0 c_1 c0 c1 c2 c3 c4 c5) (bM.mk c_2 c_3) c6 c7) c8 c9) c10 hk3
 ·simp at e
section
variable(a:bN)
def aM6:Bool:=((d9 a true)&&((d9 a true)&&true))
end
def a72(a:bN)(b:Int):Pt (bN):=(.ok true (.ok true (.br (bif (eqI b 7)then(dC a.Line 7)else false) (.ok true (.ok true (.ok true (.ok (aM6 a) (.leaf (bN.mk a.Cpu b true)))))) (.ok true (.ok true (.ok (aM6 a) (.leaf {a with Line:=b})))))))
def a73(a:bN)(b:Int):bN:=hid (a72 a b).val
def bP1(a:bN)(b:Int):Bool:=hid (a72 a b).okv
def q148:=bPZ (fun a b=>bFJ a b (a73 a b)) bP1
theorem cJ0:cK 148 q148:=bP0 fun a b hk=>tc bX1 a71 [(9,K0),(15,K9)] [] true (a72 a b) (bFJ a b) hk
def Q148:=aZ 148 q148 Q69
theorem aTI:QO Q148:=aF cJ0 a71
section
variable(a:bN)(b:Int)
def a74:Bool:=((d9 (a73 (A7 a) b) true)&&true)
end
def T70(a:bN)(b:Int):Pt (bN×Bool):=(.ok true (.ok ((a48 a)&&((((w8 b 0 7)&&true)||(!(aW3 a)))&&true)) (.br (bif (!(aW3 a))then true else(!(vA b 0 7))) (.ok true (.ok true (.ok true (.leaf ((bN.mk (aI.mk (aH.mk [] [] 0 0 0 0 false false) (bM.mk [] []) false false) 0 false),false))))) (.ok ((aW4 a)&&((((d9 (A7 a) true)&&((d9 (A7 a) true)&&true))&&(d9 (A7 a) (bP1 (A7 a) b)))&&true)) (.ok ((d9 (a73 (A7 a) b) true)&&(a74 a b)) (.ok (a74 a b) (.leaf ((a73 (A7 a) b),true))))))))
def g70(a:bN)(b:Int):bN×Bool:=hid (T70 a b).val
def k70(a:bN)(b:Int):Bool:=hid (T70 a b).okv
def q70:=bGC (fun a b=>n69 a b (g70 a b)) k70
theorem t70:cK 100070 q70:=a7Z fun a b hk=>tz b9Q aTI [(6,K9),(15,K9)] [] true (T70 a b) (n69 a b) hk
def Q70:=aZ 100070 q70 Q148
theorem bP2:QO Q70:=aF t70 aTI
section
variable(a:List Row)(b:List Row)
def aM7:Bool:=(bif (!(vG (O4 (rK a)).2.2 (g63 (rK a)).2.2))then true else(dC (O4 (rK a)).2.1 (g63 (rK a)).2.1))
def aM8:Bool:=(bif (bif (bif (aM7 a)then true else(!(g66 (O4 (rK a)).1 (g63 (rK a)).1)))then true else(!(vG (g64 (rK a)).2 (g65 (rK a)).2)))then true else(dC (g64 (rK a)).1 (g65 (rK a)).1))
def aM9:Bool:=(dC (O4 (rK a)).2.1 (bE 100 (g64 (rK a)).1))
def aXH:Bool:=(bif (bif (bif (!(g67 (O4 (rK a)).1))then true else(dC (O4 (rK a)).1.Line (rK a).Line))then true else(bif (geI (O4 (rK a)).2.1 100)then(bif (bif (aM9 a)then true else(dC (O4 (rK a)).1.Cpu.R.Mask (g64 (rK a)).1))then true else(O4 (rK a)).1.Cpu.Stop)else false))then true else(bif (bif (kU (g64 (rK a)).1 0)then(!(rK a).Cpu.Halt)else false)then(aM9 a)else false))
def OY:bN×Bool:=(g69 (BY b).1 (BY b).2)
def aDA:bN×Bool:=(g70 (BY b).1 (BY b).2)
def aFR:Bool:=((((k66 (OY b).1 (aDA b).1)&&true)||(!(vG (OY b).2 (aDA b).2)))&&true)
def aFS:Bool:=(bif (!(vG (OY b).2 (aDA b).2))then true else(!(g66 (OY b).1 (aDA b).1)))
def aFT:Bool:=(bif (!(OY b).2)then true else(bif (eqI (OY b).1.Line (BY b).2)then(vG (OY b).1.Edge (bif (BY b).1.Edge then true else(bif (eqI (BY b).2 7)then(dC (BY b).1.Line 7)else false)))else false))
end
def T7(a:List Row)(b:List Row):Pt (Bool):=(.ok true (.ok true (.br (kU (bE (cA a) (cA b)) 1048576) (.ok true (.ok true (.leaf true))) (.ok ((k61 a)&&true) (.ok ((k62 (rK a))&&true) (.ok ((k63 (rK a))&&true) (.ok ((k64 (rK a))&&true) (.ok ((k65 (rK a))&&true) (.ok ((((k66 (O4 (rK a)).1 (g63 (rK a)).1)&&true)||(aM7 a))&&((((k67 (rK a))&&true)||(aM8 a))&&true)) (.br (bif (bif (aM8 a)then true else(!(vG (g67 (rK a)) (g64 (rK a)).2)))then true else(!(vG (O4 (rK a)).2.2 (g64 (rK a)).2))) (.ok true (.ok true (.leaf false))) (.ok true (.br (O4 (rK a)).2.2 (.ok ((k67 (O4 (rK a)).1)&&true) (.br (aXH a) (.ok true (.ok true (.leaf false))) (.ok true (.br (bif (bif (geI (O4 (rK a)).2.1 100)then(ltI (g64 (rK a)).1 7)else false)then(leI (g64 (rK a)).1 (rK a).Cpu.R.Mask)else false) (.ok true (.ok true (.leaf false))) (.ok ((((k66 (O4 (rK a)).1 (rK a))&&true)||(!(eqI (O4 (rK a)).2.1 (-1))))&&true) (.br (bif (eqI (O4 (rK a)).2.1 (-1))then(bif (!(g66 (O4 (rK a)).1 (rK a)))then true else(bif (!(rK a).Cpu.Stop)then(!(rK a).Cpu.Halt)else false))else false) (.ok true (.ok true (.leaf false))) (.ok true (.br (geI (O4 (rK a)).2.1 100) (.ok ((k64 (O4 (rK a)).1)&&true) (.ok true (.br (bif (!(g64 (O4 (rK a)).1).2)then true else(dC (g64 (O4 (rK a)).1).1 0)) (.ok true (.ok true (.leaf false))) (.ok ((k68 b)&&true) (.ok ((k69 (BY b).1 (BY b).2)&&true) (.ok ((k70 (BY b).1 (BY b).2)&&true) (.ok (aFR b) (.br (aFS b) (.ok true (.ok true (.leaf false))) (.ok true (.ok true (.leaf (aFT b)))))))))))) (.ok ((k68 b)&&true) (.ok ((k69 (BY b).1 (BY b).2)&&true) (.ok ((k70 (BY b).1 (BY b).2)&&true) (.ok (aFR b) (.br (aFS b) (.ok true (.ok true (.leaf false))) (.ok true (.ok true (.leaf (aFT b))))))))))))))))) (.ok ((k68 b)&&true) (.ok ((k69 (BY b).1 (BY b).2)&&true) (.ok ((k70 (BY b).1 (BY b).2)&&true) (.ok (aFR b) (.br (aFS b) (.ok true (.ok true (.leaf false))) (.ok true (.ok true (.leaf (aFT b)))))))))))))))))))))
def g7(a:List Row)(b:List Row):Bool:=hid (T7 a b).val
def k7(a:List Row)(b:List Row):Bool:=hid (T7 a b).okv
def q7:=bF7 (fun a b=>n14 a b (g7 a b)) k7
theorem t7:cK 7 q7:=a7N fun a b hk=>tc at7 bP2 [(33,K9),(39,K9),(45,K9),(50,K9),(63,K9),(64,K9),(79,K9),(90,K9),(95,K0),(97,K0),(112,K0),(119,sK),(129,sK),(150,K0),(156,K9),(157,K9),(163,sK),(168,sK),(176,K9),(192,K9),(198,K9),(207,K9),(208,K9),(216,K0),(221,sK),(223,sK),(229,K0)] [] true (T7 a b) (n14 a b) hk
end
end Go.Proofs.YtdipcnijfkdnfaaGreatIrqs
