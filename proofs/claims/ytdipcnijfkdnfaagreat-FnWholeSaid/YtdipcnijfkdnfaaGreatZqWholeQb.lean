import Derived.Test.YtdipcnijfkdnfaaGreatZqTabWhole
import Derived.Test.YtdipcnijfkdnfaaGreatZmc
import Derived.KernelRfl
import Derived.Test.YtdipcnijfkdnfaaGreatZqWholeR
import Derived.Test.YtdipcnijfkdnfaaGreatZqWholeQa
set_option linter.unusedVariables false
set_option linter.unusedSimpArgs false
namespace Go.Proofs.YtdipcnijfkdnfaaGreatWhole
open Option.some renaming inj → qi
open Prod.mk renaming inj → qp
open Int renaming toNat → iN
open Go Go.Zq
open List renaming length→ln
set_option maxRecDepth 100000
set_option maxHeartbeats 4000000
noncomputable section
section
variable(a:bJ)(x0_fc:aG)
def dA:aJ×Int:=(aLD a.fx.Size a.fx.Ea x0_fc.R)
def jL:Bool:=(aO (dA a x0_fc).1 (bN x0_fc.Bus true))
def pX:Bool:=(((jL a x0_fc)&&(jL a x0_fc))&&true)
def sK:Bool:=((dd (jL a x0_fc) (aO (dA a x0_fc).1 (bN x0_fc.Bus (zF (dA a x0_fc).2 0 a {x0_fc with R:=(dA a x0_fc).1}))))&&true)
def mA:bJ×aG:=(sJ (dA a x0_fc).2 0 a {x0_fc with R:=(dA a x0_fc).1})
def sL:Bool:=((cG (mA a x0_fc).2 (wL 0 (mA a x0_fc).1 (mA a x0_fc).2))&&true)
def pY:aG:=(uJ 0 (mA a x0_fc).1 (mA a x0_fc).2)
def sM:Bool:=(((aM (pY a x0_fc) true)&&(aM (pY a x0_fc) true))&&true)
def o7:bJ×aG:=(sJ (dA a x0_fc).2 (KK a.fx.Size 0 0 0).1 a {x0_fc with R:=(dA a x0_fc).1})
def nU:bJ×aG:=(sJ (dA a x0_fc).2 (qN 0 (cM (pV a.fx.Size) 1)) a {x0_fc with R:=(dA a x0_fc).1})
def mJ:aG:=(uJ (qN 0 (cM (pV a.fx.Size) 1)) (nU a x0_fc).1 (nU a x0_fc).2)
def mK:aG:=(uJ 0 a {x0_fc with R:=(dA a x0_fc).1})
def kP:Int:=(aGF a.fx.Ea.Reg a {x0_fc with R:=(dA a x0_fc).1})
def mL:Int×Int:=(KK a.fx.Size 0 0 (kP a x0_fc))
def kQ:bJ×aG:=(sJ (dA a x0_fc).2 (mL a x0_fc).1 a {x0_fc with R:=(dA a x0_fc).1})
def lK:Int:=(qN (kP a x0_fc) (cM (pV a.fx.Size) 1))
def kA:bJ×aG:=(sJ (dA a x0_fc).2 (lK a x0_fc) a {x0_fc with R:=(dA a x0_fc).1})
def mM:aG:=(uJ (lK a x0_fc) (kA a x0_fc).1 (kA a x0_fc).2)
def mN:aG:=(uJ (kP a x0_fc) a {x0_fc with R:=(dA a x0_fc).1})
def dC:bJ×aG×Int:=(kY (dA a x0_fc).2 a {x0_fc with R:=(dA a x0_fc).1})
def oE:Bool:=(((aM (dC a x0_fc).2.1 true)&&(aM (dC a x0_fc).2.1 true))&&true)
def kC:bJ×aG:=(sJ (dA a x0_fc).2 0 (dC a x0_fc).1 (dC a x0_fc).2.1)
def mO:aG:=(uJ 0 (kC a x0_fc).1 (kC a x0_fc).2)
def mP:Int×Int:=(KK a.fx.Size 0 0 (dC a x0_fc).2.2)
def kR:bJ×aG:=(sJ (dA a x0_fc).2 (mP a x0_fc).1 (dC a x0_fc).1 (dC a x0_fc).2.1)
def lL:Int:=(qN (dC a x0_fc).2.2 (cM (pV a.fx.Size) 1))
def kD:bJ×aG:=(sJ (dA a x0_fc).2 (lL a x0_fc) (dC a x0_fc).1 (dC a x0_fc).2.1)
def mQ:aG:=(uJ (lL a x0_fc) (kD a x0_fc).1 (kD a x0_fc).2)
def mR:aG:=(uJ (dC a x0_fc).2.2 (dC a x0_fc).1 (dC a x0_fc).2.1)
def lM:Bool:=(((aM x0_fc true)&&(aM x0_fc true))&&true)
def oF:Bool:=((cG x0_fc (zF 0 0 a x0_fc))&&true)
def oG:Bool:=((cG (sJ 0 0 a x0_fc).2 (wL 0 (sJ 0 0 a x0_fc).1 (sJ 0 0 a x0_fc).2))&&true)
def lN:aG:=(uJ 0 (sJ 0 0 a x0_fc).1 (sJ 0 0 a x0_fc).2)
def oH:Bool:=(((aM (lN a x0_fc) true)&&(aM (lN a x0_fc) true))&&true)
def kS:bJ×aG:=(sJ 0 (KK a.fx.Size 0 0 0).1 a x0_fc)
def kE:bJ×aG:=(sJ 0 (qN 0 (cM (pV a.fx.Size) 1)) a x0_fc)
def mS:aG:=(uJ (qN 0 (cM (pV a.fx.Size) 1)) (kE a x0_fc).1 (kE a x0_fc).2)
def kT:Int:=(aGF a.fx.Ea.Reg a x0_fc)
def mT:Int×Int:=(KK a.fx.Size 0 0 (kT a x0_fc))
def kU:bJ×aG:=(sJ 0 (mT a x0_fc).1 a x0_fc)
def lO:Int:=(qN (kT a x0_fc) (cM (pV a.fx.Size) 1))
def kF:bJ×aG:=(sJ 0 (lO a x0_fc) a x0_fc)
def mU:aG:=(uJ (lO a x0_fc) (kF a x0_fc).1 (kF a x0_fc).2)
def mV:aG:=(uJ (kT a x0_fc) a x0_fc)
def oI:Bool:=(((aM (kY 0 a x0_fc).2.1 true)&&(aM (kY 0 a x0_fc).2.1 true))&&true)
def kG:bJ×aG:=(sJ 0 0 (kY 0 a x0_fc).1 (kY 0 a x0_fc).2.1)
def mW:aG:=(uJ 0 (kG a x0_fc).1 (kG a x0_fc).2)
def mX:Int×Int:=(KK a.fx.Size 0 0 (kY 0 a x0_fc).2.2)
def kV:bJ×aG:=(sJ 0 (mX a x0_fc).1 (kY 0 a x0_fc).1 (kY 0 a x0_fc).2.1)
def lP:Int:=(qN (kY 0 a x0_fc).2.2 (cM (pV a.fx.Size) 1))
def kH:bJ×aG:=(sJ 0 (lP a x0_fc) (kY 0 a x0_fc).1 (kY 0 a x0_fc).2.1)
def mY:aG:=(uJ (lP a x0_fc) (kH a x0_fc).1 (kH a x0_fc).2)
def mZ:aG:=(uJ (kY 0 a x0_fc).2.2 (kY 0 a x0_fc).1 (kY 0 a x0_fc).2.1)
end
def a3U(a:bJ)(x0_fc:aG):Pt (bJ×aG):=(.ok true (.ok true (.ok true (.br (dD a.fx.Ea.Mode 0) (.ok ((iH x0_fc.R (aLE a.fx.Size a.fx.Ea x0_fc.R))&&true) (.ok true (.br (eqI a.fx.Sub 0) (.ok true (.br (dD a.ffault.Vector 0) (.ok (pX a x0_fc) (.leaf (a,{x0_fc with R:=(dA a x0_fc).1}))) (.ok true (.ok true (.br (eqI a.fx.Sub 0) (.ok (sK a x0_fc) (.ok (sL a x0_fc) (.ok (sM a x0_fc) (.leaf ((mA a x0_fc).1,(pY a x0_fc)))))) (.ok true (.br (eqI a.fx.Sub 1) (.ok ((XA a.fx.Size 0 0 0)&&true) (.ok ((dd (jL a x0_fc) (aO (dA a x0_fc).1 (bN x0_fc.Bus (zF (dA a x0_fc).2 (KK a.fx.Size 0 0 0).1 a {x0_fc with R:=(dA a x0_fc).1}))))&&true) (.ok true (.ok (((aM (o7 a x0_fc).2 true)&&(aM (o7 a x0_fc).2 true))&&true) (.leaf ((o7 a x0_fc).1,{(o7 a x0_fc).2 with R:={(o7 a x0_fc).2.R with Flags:=(KK a.fx.Size 0 0 0).2}})))))) (.ok true (.br (eqI a.fx.Sub 2) (.ok ((DW a.fx.Size)&&true) (.ok ((dd (jL a x0_fc) (aO (dA a x0_fc).1 (bN x0_fc.Bus (zF (dA a x0_fc).2 (qN 0 (cM (pV a.fx.Size) 1)) a {x0_fc with R:=(dA a x0_fc).1}))))&&true) (.ok ((cG (nU a x0_fc).2 (wL (qN 0 (cM (pV a.fx.Size) 1)) (nU a x0_fc).1 (nU a x0_fc).2))&&true) (.ok (((aM (mJ a x0_fc) true)&&(aM (mJ a x0_fc) true))&&true) (.leaf ((nU a x0_fc).1,(mJ a x0_fc))))))) (.ok true (.br (eqI a.fx.Sub 3) (.ok ((dd (jL a x0_fc) (aO (dA a x0_fc).1 (bN x0_fc.Bus (wL 0 a {x0_fc with R:=(dA a x0_fc).1}))))&&true) (.ok (((aM (mK a x0_fc) true)&&(aM (mK a x0_fc) true))&&true) (.leaf (a,(mK a x0_fc))))) (.ok (pX a x0_fc) (.leaf (a,{x0_fc with R:=(dA a x0_fc).1})))))))))))))) (.ok true (.br (eqI a.fx.Ea.Mode 0) (.ok ((dd (jL a x0_fc) (aO (dA a x0_fc).1 (bN x0_fc.Bus (aGG a.fx.Ea.Reg a {x0_fc with R:=(dA a x0_fc).1}))))&&true) (.ok true (.br (dD a.ffault.Vector 0) (.ok (pX a x0_fc) (.leaf (a,{x0_fc with R:=(dA a x0_fc).1}))) (.ok true (.ok true (.br (eqI a.fx.Sub 0) (.ok (sK a x0_fc) (.ok (sL a x0_fc) (.ok (sM a x0_fc) (.leaf ((mA a x0_fc).1,(pY a x0_fc)))))) (.ok true (.br (eqI a.fx.Sub 1) (.ok ((XA a.fx.Size 0 0 (kP a x0_fc))&&true) (.ok ((dd (jL a x0_fc) (aO (dA a x0_fc).1 (bN x0_fc.Bus (zF (dA a x0_fc).2 (mL a x0_fc).1 a {x0_fc with R:=(dA a x0_fc).1}))))&&true) (.ok true (.ok (((aM (kQ a x0_fc).2 true)&&(aM (kQ a x0_fc).2 true))&&true) (.leaf ((kQ a x0_fc).1,{(kQ a x0_fc).2 with R:={(kQ a x0_fc).2.R with Flags:=(mL a x0_fc).2}})))))) (.ok true (.br (eqI a.fx.Sub 2) (.ok ((DW a.fx.Size)&&true) (.ok ((dd (jL a x0_fc) (aO (dA a x0_fc).1 (bN x0_fc.Bus (zF (dA a x0_fc).2 (lK a x0_fc) a {x0_fc with R:=(dA a x0_fc).1}))))&&true) (.ok ((cG (kA a x0_fc).2 (wL (lK a x0_fc) (kA a x0_fc).1 (kA a x0_fc).2))&&true) (.ok (((aM (mM a x0_fc) true)&&(aM (mM a x0_fc) true))&&true) (.leaf ((kA a x0_fc).1,(mM a x0_fc))))))) (.ok true (.br (eqI a.fx.Sub 3) (.ok ((dd (jL a x0_fc) (aO (dA a x0_fc).1 (bN x0_fc.Bus (wL (kP a x0_fc) a {x0_fc with R:=(dA a x0_fc).1}))))&&true) (.ok (((aM (mN a x0_fc) true)&&(aM (mN a x0_fc) true))&&true) (.leaf (a,(mN a x0_fc))))) (.ok (pX a x0_fc) (.leaf (a,{x0_fc with R:=(dA a x0_fc).1}))))))))))))))) (.ok ((dd (jL a x0_fc) (aO (dA a x0_fc).1 (bN x0_fc.Bus (a3E (dA a x0_fc).2 a {x0_fc with R:=(dA a x0_fc).1}))))&&true) (.ok true (.br (dD (dC a x0_fc).1.ffault.Vector 0) (.ok (oE a x0_fc) (.leaf ((dC a x0_fc).1,(dC a x0_fc).2.1))) (.ok true (.ok true (.br (eqI (dC a x0_fc).1.fx.Sub 0) (.ok ((cG (dC a x0_fc).2.1 (zF (dA a x0_fc).2 0 (dC a x0_fc).1 (dC a x0_fc).2.1))&&true) (.ok ((cG (kC a x0_fc).2 (wL 0 (kC a x0_fc).1 (kC a x0_fc).2))&&true) (.ok (((aM (mO a x0_fc) true)&&(aM (mO a x0_fc) true))&&true) (.leaf ((kC a x0_fc).1,(mO a x0_fc)))))) (.ok true (.br (eqI (dC a x0_fc).1.fx.Sub 1) (.ok ((XA a.fx.Size 0 0 (dC a x0_fc).2.2)&&true) (.ok ((cG (dC a x0_fc).2.1 (zF (dA a x0_fc).2 (mP a x0_fc).1 (dC a x0_fc).1 (dC a x0_fc).2.1))&&true) (.ok true (.ok (((aM (kR a x0_fc).2 true)&&(aM (kR a x0_fc).2 true))&&true) (.leaf ((kR a x0_fc).1,{(kR a x0_fc).2 with R:={(kR a x0_fc).2.R with Flags:=(mP a x0_fc).2}})))))) (.ok true (.br (eqI (dC a x0_fc).1.fx.Sub 2) (.ok ((DW a.fx.Size)&&true) (.ok ((cG (dC a x0_fc).2.1 (zF (dA a x0_fc).2 (lL a x0_fc) (dC a x0_fc).1 (dC a x0_fc).2.1))&&true) (.ok ((cG (kD a x0_fc).2 (wL (lL a x0_fc) (kD a x0_fc).1 (kD a x0_fc).2))&&true) (.ok (((aM (mQ a x0_fc) true)&&(aM (mQ a x0_fc) true))&&true) (.leaf ((kD a x0_fc).1,(mQ a x0_fc))))))) (.ok true (.br (eqI (dC a x0_fc).1.fx.Sub 3) (.ok ((cG (dC a x0_fc).2.1 (wL (dC a x0_fc).2.2 (dC a x0_fc).1 (dC a x0_fc).2.1))&&true) (.ok (((aM (mR a x0_fc) true)&&(aM (mR a x0_fc) true))&&true) (.leaf ((dC a x0_fc).1,(mR a x0_fc))))) (.ok (oE a x0_fc) (.leaf ((dC a x0_fc).1,(dC a x0_fc).2.1)))))))))))))))))))) (.ok true (.br (eqI a.fx.Sub 0) (.ok true (.br (dD a.ffault.Vector 0) (.ok (lM x0_fc) (.leaf (a,x0_fc))) (.ok true (.ok true (.br (eqI a.fx.Sub 0) (.ok (oF a x0_fc) (.ok (oG a x0_fc) (.ok (oH a x0_fc) (.leaf ((sJ 0 0 a x0_fc).1,(lN a x0_fc)))))) (.ok true (.br (eqI a.fx.Sub 1) (.ok ((XA a.fx.Size 0 0 0)&&true) (.ok ((cG x0_fc (zF 0 (KK a.fx.Size 0 0 0).1 a x0_fc))&&true) (.ok true (.ok (((aM (kS a x0_fc).2 true)&&(aM (kS a x0_fc).2 true))&&true) (.leaf ((kS a x0_fc).1,{(kS a x0_fc).2 with R:={(kS a x0_fc).2.R with Flags:=(KK a.fx.Size 0 0 0).2}})))))) (.ok true (.br (eqI a.fx.Sub 2) (.ok ((DW a.fx.Size)&&true) (.ok ((cG x0_fc (zF 0 (qN 0 (cM (pV a.fx.Size) 1)) a x0_fc))&&true) (.ok ((cG (kE a x0_fc).2 (wL (qN 0 (cM (pV a.fx.Size) 1)) (kE a x0_fc).1 (kE a x0_fc).2))&&true) (.ok (((aM (mS a x0_fc) true)&&(aM (mS a x0_fc) true))&&true) (.leaf ((kE a x0_fc).1,(mS a x0_fc))))))) (.ok true (.br (eqI a.fx.Sub 3) (.ok ((cG x0_fc (wL 0 a x0_fc))&&true) (.ok (((aM (uJ 0 a x0_fc) true)&&(aM (uJ 0 a x0_fc) true))&&true) (.leaf (a,(uJ 0 a x0_fc))))) (.ok (lM x0_fc) (.leaf (a,x0_fc)))))))))))))) (.ok true (.br (eqI a.fx.Ea.Mode 0) (.ok ((cG x0_fc (aGG a.fx.Ea.Reg a x0_fc))&&true) (.ok true (.br (dD a.ffault.Vector 0) (.ok (lM x0_fc) (.leaf (a,x0_fc))) (.ok true (.ok true (.br (eqI a.fx.Sub 0) (.ok (oF a x0_fc) (.ok (oG a x0_fc) (.ok (oH a x0_fc) (.leaf ((sJ 0 0 a x0_fc).1,(lN a x0_fc)))))) (.ok true (.br (eqI a.fx.Sub 1) (.ok ((XA a.fx.Size 0 0 (kT a x0_fc))&&true) (.ok ((cG x0_fc (zF 0 (mT a x0_fc).1 a x0_fc))&&true) (.ok true (.ok (((aM (kU a x0_fc).2 true)&&(aM (kU a x0_fc).2 true))&&true) (.leaf ((kU a x0_fc).1,{(kU a x0_fc).2 with R:={(kU a x0_fc).2.R with Flags:=(mT a x0_fc).2}})))))) (.ok true (.br (eqI a.fx.Sub 2) (.ok ((DW a.fx.Size)&&true) (.ok ((cG x0_fc (zF 0 (lO a x0_fc) a x0_fc))&&true) (.ok ((cG (kF a x0_fc).2 (wL (lO a x0_fc) (kF a x0_fc).1 (kF a x0_fc).2))&&true) (.ok (((aM (mU a x0_fc) true)&&(aM (mU a x0_fc) true))&&true) (.leaf ((kF a x0_fc).1,(mU a x0_fc))))))) (.ok true (.br (eqI a.fx.Sub 3) (.ok ((cG x0_fc (wL (kT a x0_fc) a x0_fc))&&true) (.ok (((aM (mV a x0_fc) true)&&(aM (mV a x0_fc) true))&&true) (.leaf (a,(mV a x0_fc))))) (.ok (lM x0_fc) (.leaf (a,x0_fc))))))))))))))) (.ok ((cG x0_fc (a3E 0 a x0_fc))&&true) (.ok true (.br (dD (kY 0 a x0_fc).1.ffault.Vector 0) (.ok (oI a x0_fc) (.leaf ((kY 0 a x0_fc).1,(kY 0 a x0_fc).2.1))) (.ok true (.ok true (.br (eqI (kY 0 a x0_fc).1.fx.Sub 0) (.ok ((cG (kY 0 a x0_fc).2.1 (zF 0 0 (kY 0 a x0_fc).1 (kY 0 a x0_fc).2.1))&&true) (.ok ((cG (kG a x0_fc).2 (wL 0 (kG a x0_fc).1 (kG a x0_fc).2))&&true) (.ok (((aM (mW a x0_fc) true)&&(aM (mW a x0_fc) true))&&true) (.leaf ((kG a x0_fc).1,(mW a x0_fc)))))) (.ok true (.br (eqI (kY 0 a x0_fc).1.fx.Sub 1) (.ok ((XA a.fx.Size 0 0 (kY 0 a x0_fc).2.2)&&true) (.ok ((cG (kY 0 a x0_fc).2.1 (zF 0 (mX a x0_fc).1 (kY 0 a x0_fc).1 (kY 0 a x0_fc).2.1))&&true) (.ok true (.ok (((aM (kV a x0_fc).2 true)&&(aM (kV a x0_fc).2 true))&&true) (.leaf ((kV a x0_fc).1,{(kV a x0_fc).2 with R:={(kV a x0_fc).2.R with Flags:=(mX a x0_fc).2}})))))) (.ok true (.br (eqI (kY 0 a x0_fc).1.fx.Sub 2) (.ok ((DW a.fx.Size)&&true) (.ok ((cG (kY 0 a x0_fc).2.1 (zF 0 (lP a x0_fc) (kY 0 a x0_fc).1 (kY 0 a x0_fc).2.1))&&true) (.ok ((cG (kH a x0_fc).2 (wL (lP a x0_fc) (kH a x0_fc).1 (kH a x0_fc).2))&&true) (.ok (((aM (mY a x0_fc) true)&&(aM (mY a x0_fc) true))&&true) (.leaf ((kH a x0_fc).1,(mY a x0_fc))))))) (.ok true (.br (eqI (kY 0 a x0_fc).1.fx.Sub 3) (.ok ((cG (kY 0 a x0_fc).2.1 (wL (kY 0 a x0_fc).2.2 (kY 0 a x0_fc).1 (kY 0 a x0_fc).2.1))&&true) (.ok (((aM (mZ a x0_fc) true)&&(aM (mZ a x0_fc) true))&&true) (.leaf ((kY 0 a x0_fc).1,(mZ a x0_fc))))) (.ok (oI a x0_fc) (.leaf ((kY 0 a x0_fc).1,(kY 0 a x0_fc).2.1)))))))))))))))))))))))
def aWY(a:bJ)(x0_fc:aG):bJ×aG:=hid (a3U a x0_fc).val
def bLO(a:bJ)(x0_fc:aG):Bool:=hid (a3U a x0_fc).okv
def q267:=NE (fun a x0_fc=>GC a x0_fc (aWY a x0_fc)) bLO
theorem cCF:cP 267 q267:=wK fun a x0_fc hk=>tc bZR aQ4 [(13,K0),(25,K0),(33,K4),(43,K0),(51,K0),(59,K0),(65,K0),(71,K0)] [] true (a3U a x0_fc) (GC a x0_fc) hk
def Q267:=bD 267 q267 Q264
theorem aQ5:QO Q267:=aH cCF aQ4
def a3V(a:Int):Pt (Bool):=(.ok true (.ok true (.ok true (.ok true (.leaf (eqI (nM a 2) 0))))))
def aWZ(a:Int):Bool:=hid (a3V a).val
def bDU(a:Int):Bool:=hid (a3V a).okv
def q301:=CM (fun a=>j9 a (aWZ a)) bDU
theorem cCG:cP 100301 q301:=hH fun a hk=>tz b0P aQ5 [] [] true (a3V a) (j9 a) hk
def Q301:=bD 100301 q301 Q267
theorem aQ6:QO Q301:=aH cCG aQ5
def cCH(a:Int)(b:Int)(c:Int)(d:Int)(o:Int):List SV:=[(.one (li a)),(.one (li b)),(.one (li c)),(.one (li d)),(.one (li o))]
def cCI(a:Int)(b:Int)(c:Int)(d:Int)(o:Int):List Blk:=[]
def a3W(N:Int→Int→Int→Int→Int→SV×List Blk)(K:Int→Int→Int→Int→Int→Bool):List SV→List Blk→Option ((SV×List Blk)×Bool)
 |[(.one (li c0)),(.one (li c1)),(.one (li c2)),(.one (li c3)),(.one (li c4))],[]=>some (N c0 c1 c2 c3 c4,K c0 c1 c2 c3 c4)
 |_,_=>none
theorem aLQ{N:Int→Int→Int→Int→Int→SV×List Blk}{K:Int→Int→Int→Int→Int→Bool}{f:Nat}(h: ∀(a:Int)(b:Int)(c:Int)(d:Int)(o:Int),K a b c d o=true→dQ R f (cCH a b c d o) (cCI a b c d o)=some (N a b c d o)):cP f (a3W N K):=fun _ _ _ e=>by
 unfold a3W at e;split at e
 ·exact yF e (h _ _ _ _ _)
 ·cases e
def a3X(a:Int)(b:Int)(c:Int)(d:Int)(o:Int):Pt (Int):=(.ok true (.ok true (.ok true (.br (eqI a 1) (.ok ((leI 0 (cM (dE 8 b) 1))&&true) (.ok true (.ok true (.leaf (fF d (cM (dE 8 b) 1)))))) (.ok true (.ok true (.br (bif (eqI a 4)then(eqI a 4)else(eqI a 5)) (.ok true (.ok true (.ok true (.leaf o)))) (.ok true (.ok true (.br (bif (eqI a 6)then(eqI a 6)else(eqI a 7)) (.ok true (.ok true (.ok true (.leaf (lW c 16))))) (.ok true (.ok true (.ok true (.leaf 0))))))))))))))
def bLP(a:Int)(b:Int)(c:Int)(d:Int)(o:Int):Int:=hid (a3X a b c d o).val
def bLQ(a:Int)(b:Int)(c:Int)(d:Int)(o:Int):Bool:=hid (a3X a b c d o).okv
def b2A(a:Int)(b:Int)(c:Int)(d:Int)(o:Int)(r:Int):SV×List Blk:=((.one (li r)),[])
def q302:=a3W (fun a b c d o=>b2A a b c d o (bLP a b c d o)) bLQ
theorem cCJ:cP 100302 q302:=aLQ fun a b c d o hk=>tz b0Q aQ6 [] [] true (a3X a b c d o) (b2A a b c d o) hk
def Q302:=bD 100302 q302 Q301
theorem aQ7:QO Q302:=aH cCJ aQ6
section
variable(a:Int)(b:Int)(c:Int)(d:Int)
def NH:Int:=(bif (aWZ a)then(fF d (cM (dE 8 b) 1))else(bF d 1))
def aB8:Int:=(bLP a b c d (NH a b d))
def NI:Int:=(bif (aWZ a)then(fB (bF (m9 d 1) (cM (pV b) 1)) (aB8 a b c d))else(fB (fF d 1) (m9 (aB8 a b c d) (cM (dE 8 b) 1))))
def aLR:Bool:=(bif (eqI a 0)then(dD (fF (NI a b c d) (cM (dE 8 b) 1)) (fF d (cM (dE 8 b) 1)))else false)
end
def a3Y(a:Int)(b:Int)(c:Int)(d:Int):Pt (Int×Int):=(.ok true (.ok true (.ok true (.ok ((bDU a)&&true) (.ok ((((leI 0 (cM (dE 8 b) 1))&&true)||(!(aWZ a)))&&true) (.ok ((bLQ a b c d (NH a b d))&&true) (.ok ((leI 0 (cM (dE 8 b) 1))&&true) (.ok ((bDU a)&&true) (.ok ((((DW b)&&true)||(!(aWZ a)))&&true) (.ok true (.ok true (.ok true (.ok ((((leI 0 (cM (dE 8 b) 1))&&((leI 0 (cM (dE 8 b) 1))&&true))||(!(eqI a 0)))&&true) (.ok ((zA (aLR a b c d) 2)&&((aWT b (NI a b c d))&&true)) (.ok true (.ok true (.leaf ((NI a b c d),(fB (fB (fB (dE (NH a b d) 1) (bif (bif (eqI a 4)then true else(eqI a 5))then(bF c 16)else(dE (NH a b d) 16))) (yZ (aLR a b c d) 2)) (aWS b (NI a b c d)))))))))))))))))))))
def bLR(a:Int)(b:Int)(c:Int)(d:Int):Int×Int:=hid (a3Y a b c d).val
def bLS(a:Int)(b:Int)(c:Int)(d:Int):Bool:=hid (a3Y a b c d).okv
def q290:=WZ (fun a b c d=>PW a b c d (bLR a b c d)) bLS
theorem cCK:cP 100290 q290:=DY fun a b c d hk=>tz b0E aQ7 [] [] true (a3Y a b c d) (PW a b c d) hk
def Q290:=bD 100290 q290 Q302
theorem aB9:QO Q290:=aH cCK aQ7
structure V268_0 where
 mk::
 (s0:Int)
 (s1:Int)
 (s2:Int)
 (s3:Int)
 (s4:Int)
 (s14:Int)
section
variable(v:V268_0)
def BX:Int×Int:=(bLR v.s0 v.s1 v.s2 v.s3)
end
def NJ(v:V268_0):Pt (Option V268_0):=(.ok true (.br (pG v.s4 0) (.ok ((bLS v.s0 v.s1 v.s2 v.s3)&&true) (.ok true (.ok true (.ok true (.leaf (some (V268_0.mk v.s0 v.s1 (BX v).2 (BX v).1 (cM v.s4 1) (fB v.s14 (bF (BX v).2 2))))))))) (.leaf none)))
def UF(v:V268_0):St:=⟨[(0,(.one (li v.s0))),(1,(.one (li v.s1))),(2,(.one (li v.s2))),(3,(.one (li v.s3))),(4,(.one (li v.s4))),(14,(.one (li v.s14)))],[]⟩
def aCA:St→Option (V268_0×Bool)
 |⟨[(0,(.one (li c0))),(1,(.one (li c1))),(2,(.one (li c2))),(3,(.one (li c3))),(4,(.one (li c4))),(14,(.one (li c5)))],[]⟩=>some ((V268_0.mk c0 c1 c2 c3 c4 c5),true)
 |_=>none
def aCB:St→Option (Pt Out):=xN Q290 [] [] true [] 0 2097152 aI1
theorem bDV(v:V268_0):((aCB (UF v)).bind (rW true false 0 [0,1,2,3,4,14]))=some ((NJ v).map (Option.map UF)):=by kernel_rfl
theorem bDW(σ:St)(v:V268_0)(h:aCA σ=some (v,true)):σ=UF v:=by
 unfold aCA at h;split at h
 ·obtain⟨hr,hk⟩:=qp (qi h);rw[←hr];rfl
 ·simp at h
theorem bDX:cY (uB true false 0 [0,1,2,3,4,14] aCB aCA UF NJ 2097152) (fT R 0 2097152 (.loop [0,1,2,3,4,14] aI1)):=eE (cZ aB9 (cI (l:=[]) (by kernel_rfl) trivial)) bDW bDV
def bDY:Lp:=(34,uB true false 0 [0,1,2,3,4,14] aCB aCA UF NJ 2097152)::[]
def UG(v:V268_0):V268_0:=(hid (dW NJ 2097152 v)).getD v
def aLS(v:V268_0):Bool:=(hid (dW NJ 2097152 v)).isSome
section
variable(a:Int)(b:Int)(c:Int)(d:Int)(o:Int)
def aLT:Bool:=(bif (dD (bF c 16) 0)then(geI a 6)else false)
def aCC:V268_0:=(UG (V268_0.mk a b c d o 0))
end
def a3Z(a:Int)(b:Int)(c:Int)(d:Int)(o:Int):Pt (Int×Int):=(.ok true (.ok true (.br (eqI o 0) (.ok true (.ok ((zA (aLT a c) 1)&&true) (.ok ((aWT b d)&&true) (.ok true (.ok true (.leaf (d,(fB (fB (bF c 16) (yZ (aLT a c) 1)) (aWS b d))))))))) (.ok true (.ok true (.ok true (.ok (aLS (V268_0.mk a b c d o 0)) (.ok true (.ok true (.ok true (.leaf ((aCC a b c d o).s3,(fB (aCC a b c d o).s2 (aCC a b c d o).s14)))))))))))))
def bLT(a:Int)(b:Int)(c:Int)(d:Int)(o:Int):Int×Int:=hid (a3Z a b c d o).val
def bLU(a:Int)(b:Int)(c:Int)(d:Int)(o:Int):Bool:=hid (a3Z a b c d o).okv
def bDZ(a:Int)(b:Int)(c:Int)(d:Int)(o:Int)(r:Int×Int):SV×List Blk:=((.tup [(.one (li r.1)),(.one (li r.2))]),[])
def q268:=a3W (fun a b c d o=>bDZ a b c d o (bLT a b c d o)) bLU
theorem b2B:fN (fun live x=>cY (nL bDY (lV x)) (fT R 0 2097152 (.loop live x))) F268.body:=(cI (l:=[([0,1,2,3,4,14],aI1)]) (by kernel_rfl) ⟨fH (n:=34) (by kernel_rfl) fun σ σr t h ho hl=>bDX σ σr t h ho hl,trivial⟩)
theorem cCL:cP 100268 q268:=aLQ fun a b c d o hk=>tzl bZS aB9 b2B [] [] true (a3Z a b c d o) (bDZ a b c d o) hk
def Q268:=bD 100268 q268 Q290
theorem aQ8:QO Q268:=aH cCL aB9
def cCM(a:Int)(b:Int):List SV:=[(.one (li a)),(.one (.ptr 0 0 0))]
def cCN(a:Int)(b:Int):List Blk:=[.box [li b]]
def bLV(N:Int→Int→SV×List Blk)(K:Int→Int→Bool):List SV→List Blk→Option ((SV×List Blk)×Bool)
 |[(.one (li c0)),(.one (.ptr 0 0 0))],[.box [li c1]]=>some (N c0 c1,K c0 c1)
 |_,_=>none
theorem bLW{N:Int→Int→SV×List Blk}{K:Int→Int→Bool}{f:Nat}(h: ∀(a:Int)(b:Int),K a b=true→dQ R f (cCM a b) (cCN a b)=some (N a b)):cP f (bLV N K):=fun _ _ _ e=>by
 unfold bLV at e;split at e
 ·exact yF e (h _ _)
 ·cases e
def a30(a:Int)(b:Int):Pt (Bool):=(.ok true (.ok true (.ok true (.leaf (dD (bF b a) 0)))))
def NK(a:Int)(b:Int):Bool:=hid (a30 a b).val
def PX(a:Int)(b:Int):Bool:=hid (a30 a b).okv
def b2C(a:Int)(b:Int)(r:Bool):SV×List Blk:=((.one (.lit (.bool r))),[.box [li b]])
def q291:=bLV (fun a b=>b2C a b (NK a b)) PX
theorem cCO:cP 291 q291:=bLW fun a b hk=>tc b0F aQ8 [(4,K0)] [] true (a30 a b) (b2C a b) hk
def Q291:=bD 291 q291 Q268
theorem aQ9:QO Q291:=aH cCO aQ8
def a31(a:Int)(b:Int):Pt (Bool):=(.ok true (.ok true (.ok true (.ok true (.ok true (.br (eqI (gI a 1) 2) (.ok ((PX 5 b)&&true) (.ok true (.ok true (.ok true (.leaf (AX (!(NK 5 b)) (eqI (nM a 2) 0))))))) (.ok true (.br (eqI (gI a 1) 4) (.ok ((PX 1 b)&&true) (.ok true (.ok true (.ok true (.leaf (AX (!(NK 1 b)) (eqI (nM a 2) 0))))))) (.ok true (.br (eqI (gI a 1) 6) (.ok ((PX 4 b)&&true) (.ok true (.ok true (.ok true (.leaf (AX (!(NK 4 b)) (eqI (nM a 2) 0))))))) (.ok true (.br (eqI (gI a 1) 8) (.ok ((PX 2 b)&&true) (.ok true (.ok true (.ok true (.leaf (AX (!(NK 2 b)) (eqI (nM a 2) 0))))))) (.ok true (.br (eqI (gI a 1) 10) (.ok ((PX 8 b)&&true) (.ok true (.ok true (.ok true (.leaf (AX (!(NK 8 b)) (eqI (nM a 2) 0))))))) (.ok true (.br (eqI (gI a 1) 12) (.ok ((PX 8 b)&&((PX 2 b)&&true)) (.ok true (.ok true (.ok true (.leaf (AX (AX (NK 8 b) (NK 2 b)) (eqI (nM a 2) 0))))))) (.ok true (.br (eqI (gI a 1) 14) (.ok ((PX 4 b)&&((((PX 8 b)&&((PX 2 b)&&true))||(!(!(NK 4 b))))&&true)) (.ok true (.ok true (.ok true (.leaf (AX (bif (!(NK 4 b))then(AX (NK 8 b) (NK 2 b))else false) (eqI (nM a 2) 0))))))) (.ok true (.ok true (.ok true (.leaf (AX true (eqI (nM a 2) 0))))))))))))))))))))))))
def bLX(a:Int)(b:Int):Bool:=hid (a31 a b).val
def bLY(a:Int)(b:Int):Bool:=hid (a31 a b).okv
def q271:=KC (fun a b=>WW a b (bLX a b)) bLY
theorem cCP:cP 100271 q271:=uG fun a b hk=>tz bZV aQ9 [] [] true (a31 a b) (WW a b) hk
def Q271:=bD 100271 q271 Q291
theorem aRA:QO Q271:=aH cCP aQ9
def cCQ(b:Int)(a:aG):List SV:=[(.one (.ptr 0 0 0)),(.one (li b))]
def cCR(b:Int)(a:aG):List Blk:=[.box [.sl 1 0 (ln a.R.D), .sl 2 0 (ln a.R.A),li a.R.Other,li a.R.PC,li a.R.Flags,li a.R.Mask, .lit (.bool a.R.Super), .lit (.bool a.R.Trace), .sl 3 0 (ln a.Bus.Bytes), .sl 4 0 (ln a.Bus.Log), .lit (.bool a.Stop), .lit (.bool a.Halt)], .lst 1 a.R.D, .lst 1 a.R.A, .lst 1 a.Bus.Bytes, .lst 5 a.Bus.Log]
def bLZ(N:Int→aG→SV×List Blk)(K:Int→aG→Bool):List SV→List Blk→Option ((SV×List Blk)×Bool)
 |[(.one (.ptr 0 0 0)),(.one (li c0))],[.box [.sl 1 0 l1, .sl 2 0 l2,li c1,li c2,li c3,li c4, .lit (.bool c5), .lit (.bool c6), .sl 3 0 l3, .sl 4 0 l4, .lit (.bool c7), .lit (.bool c8)], .lst 1 c_1, .lst 1 c_2, .lst 1 c_3, .lst 5 c_4]=>some (N c0 (aG.mk (aJ.mk c_1 c_2 c1 c2 c3 c4 c5 c6) (bM.mk c_3 c_4) c7 c8),dZ l1 (ln c_1)&&(dZ l2 (ln c_2)&&(dZ l3 (ln c_3)&&(dZ l4 (ln c_4)&&(K c0 (aG.mk (aJ.mk c_1 c_2 c1 c2 c3 c4 c5 c6) (bM.mk c_3 c_4) c7 c8))))))
 |_,_=>none
theorem bL0{N:Int→aG→SV×List Blk}{K:Int→aG→Bool}{f:Nat}(h: ∀(b:Int)(a:aG),K b a=true→dQ R f (cCQ b a) (cCR b a)=some (N b a)):cP f (bLZ N K):=fun args hp r e=>by
 unfold bLZ at e;split at e
 ·rename_i c0 l1 l2 c1 c2 c3 c4 c5 c6 l3 l4 c7 c8 c_1 c_2 c_3 c_4;obtain⟨hr,hk⟩:=qp (qi e);obtain⟨d0,hk0⟩:=bI hk;obtain⟨d1,hk1⟩:=bI hk0;obtain⟨d2,hk2⟩:=bI hk1;obtain⟨d3,hk3⟩:=bI hk2;obtain rfl:=of_decide_eq_true d0;obtain rfl:=of_decide_eq_true d1;obtain rfl:=of_decide_eq_true d2;obtain rfl:=of_decide_eq_true d3;rw[←hr];exact h c0 (aG.mk (aJ.mk c_1 c_2 c1 c2 c3 c4 c5 c6) (bM.mk c_3 c_4) c7 c8) hk3
 ·simp at e
section
variable(b:Int)(a:aG)
def O9:bM×Int×Int:=(KI 2 2 (bF (cM (bR a.R.A 3 0) 2) 65535) b a.Bus)
def aRB:Bool:=(aO a.R (bN (O9 b a).1 true))
def a32:List Row:=(List.set a.R.A 3 (aY (bF (cM (bR a.R.A 3 0) 2) 65535)))
def a33:Bool:=((e1 (ln a.R.D))&&((dZ (ln a.R.A) (ln (a32 a)))&&(bN (O9 b a).1 true)))
end
def T75(b:Int)(a:aG):Pt (aG×Int×Int):=(.ok true (.ok ((ltI 3 (bX a.R.A))&&((dV [.int .i64] a.R.A 3 0)&&true)) (.ok ((sF a.Bus (H7 2 2 (bF (cM (bR a.R.A 3 0) 2) 65535) b a.Bus))&&true) (.ok true (.br (eqI (O9 b a).2.2 0) (.ok ((ltI 3 (bX a.R.A))&&(((blt 3 (ln a.R.A))&&(j7 (j8 a.R.A 3) 1))&&true)) (.ok true (.ok ((((aRB b a)&&(a33 b a))&&true)&&((a33 b a)&&true)) (.leaf ({a with R:={a.R with A:=(a32 a)},Bus:=(O9 b a).1},(bF (cM (bR a.R.A 3 0) 2) 65535),(O9 b a).2.2))))) (.ok true (.ok (dd (aRB b a) ((aRB b a)&&true)) (.leaf ({a with Bus:=(O9 b a).1},(bF (cM (bR a.R.A 3 0) 2) 65535),(O9 b a).2.2)))))))))
def g75(b:Int)(a:aG):aG×Int×Int:=hid (T75 b a).val
def k75(b:Int)(a:aG):Bool:=hid (T75 b a).okv
def n75(b:Int)(a:aG)(r:aG×Int×Int):SV×List Blk:=((.tup [(.one (li r.2.1)),(.one (li r.2.2))]),[.box [.sl 1 0 (ln r.1.R.D), .sl 2 0 (ln r.1.R.A),li r.1.R.Other,li r.1.R.PC,li r.1.R.Flags,li r.1.R.Mask, .lit (.bool r.1.R.Super), .lit (.bool r.1.R.Trace), .sl 3 0 (ln r.1.Bus.Bytes), .sl 4 0 (ln r.1.Bus.Log), .lit (.bool r.1.Stop), .lit (.bool r.1.Halt)], .lst 1 r.1.R.D, .lst 1 r.1.R.A, .lst 1 r.1.Bus.Bytes, .lst 5 r.1.Bus.Log])
def q75:=bLZ (fun b a=>n75 b a (g75 b a)) k75
theorem t75:cP 75 q75:=bL0 fun b a hk=>tc b7X aRA [(13,K1),(14,K0),(15,K0),(33,K1),(35,K0),(1000001,[])] [] true (T75 b a) (n75 b a) hk
def Q75:=bD 75 q75 Q271
theorem a34:QO Q75:=aH t75 aRA
def a35(b:Int)(a:bJ)(x0_fc:aG):Pt (bJ×aG):=(.ok ((cG x0_fc (k75 b x0_fc))&&true) (.ok ((cG (g75 b x0_fc).1 (aWQ (g75 b x0_fc).2.2 (g75 b x0_fc).2.1 true a (g75 b x0_fc).1))&&true) (.ok (((aM (g75 b x0_fc).1 true)&&(aM (g75 b x0_fc).1 true))&&true) (.leaf ((aWP (g75 b x0_fc).2.2 (g75 b x0_fc).2.1 true a (g75 b x0_fc).1),(g75 b x0_fc).1)))))
def bL1(b:Int)(a:bJ)(x0_fc:aG):bJ×aG:=hid (a35 b a x0_fc).val
def bL2(b:Int)(a:bJ)(x0_fc:aG):Bool:=hid (a35 b a x0_fc).okv
def b2E(b:Int)(a:bJ)(x0_fc:aG)(r:bJ×aG):SV×List Blk:=((.tup []),[.box [.ptr 1 0 0,li r.1.fx.Op,li r.1.fx.Size,li r.1.fx.Reg,li r.1.fx.Ea.Mode,li r.1.fx.Ea.Reg,li r.1.fx.Ea.Ext,li r.1.fx.Sub,li r.1.fpc,li r.1.fword,li r.1.ffault.Vector,li r.1.ffault.PC,li r.1.ffault.Addr,li r.1.ffault.Word, .lit (.bool r.1.ffault.Write)], .box [.sl 2 0 (ln r.2.R.D), .sl 3 0 (ln r.2.R.A),li r.2.R.Other,li r.2.R.PC,li r.2.R.Flags,li r.2.R.Mask, .lit (.bool r.2.R.Super), .lit (.bool r.2.R.Trace), .sl 4 0 (ln r.2.Bus.Bytes), .sl 5 0 (ln r.2.Bus.Log), .lit (.bool r.2.Stop), .lit (.bool r.2.Halt)], .lst 1 r.2.R.D, .lst 1 r.2.R.A, .lst 1 r.2.Bus.Bytes, .lst 5 r.2.Bus.Log])
def q292:=aK7 (fun b a x0_fc=>b2E b a x0_fc (bL1 b a x0_fc)) bL2
theorem cCS:cP 292 q292:=TZ fun b a x0_fc hk=>tc b0G a34 [] [] true (a35 b a x0_fc) (b2E b a x0_fc) hk
def Q292:=bD 292 q292 Q75
theorem aRC:QO Q292:=aH cCS a34
section
variable(a:bJ)(x0_fc:aG)
def wS:aJ×Int:=(aLD a.fx.Size a.fx.Ea x0_fc.R)
def UH:Bool:=(aO (wS a x0_fc).1 (bN x0_fc.Bus true))
def aLV:Int:=(aGE a {x0_fc with R:=(wS a x0_fc).1})
def NL:bJ×aG:=(bL1 (aLV a x0_fc) a {x0_fc with R:=(wS a x0_fc).1})
end
def a36(a:bJ)(x0_fc:aG):Pt (bJ×aG):=(.ok (((iH x0_fc.R (aLE a.fx.Size a.fx.Ea x0_fc.R))&&true)&&true) (.ok true (.br (eqI a.fx.Sub 1) (.ok ((dd (UH a x0_fc) (aO (wS a x0_fc).1 (bN x0_fc.Bus (aWO a {x0_fc with R:=(wS a x0_fc).1}))))&&((dd (UH a x0_fc) (aO (wS a x0_fc).1 (bN x0_fc.Bus (bL2 (aLV a x0_fc) a {x0_fc with R:=(wS a x0_fc).1}))))&&true)) (.ok true (.ok (((aM (NL a x0_fc).2 true)&&(aM (NL a x0_fc).2 true))&&true) (.leaf ((NL a x0_fc).1,{(NL a x0_fc).2 with R:={(NL a x0_fc).2.R with PC:=(wS a x0_fc).2}}))))) (.ok true (.ok (((UH a x0_fc)&&(UH a x0_fc))&&true) (.leaf (a,{x0_fc with R:={(wS a x0_fc).1 with PC:=(wS a x0_fc).2}})))))))
def aW0(a:bJ)(x0_fc:aG):bJ×aG:=hid (a36 a x0_fc).val
def bL3(a:bJ)(x0_fc:aG):Bool:=hid (a36 a x0_fc).okv
def q272:=NE (fun a x0_fc=>GC a x0_fc (aW0 a x0_fc)) bL3
theorem cCT:cP 272 q272:=wK fun a x0_fc hk=>tc bZW aRC [(13,K0),(18,K4),(24,K0)] [] true (a36 a x0_fc) (GC a x0_fc) hk
def Q272:=bD 272 q272 Q292
theorem aRD:QO Q272:=aH cCT aRC
section
variable(a:aG)
def GW:bM×Int×Int:=(KI 1 2 (bR a.R.A 3 0) 0 a.Bus)
def aRE:Bool:=(aO a.R (bN (GW a).1 true))
def a37:List Row:=(List.set a.R.A 3 (aY (bF (bE (bR a.R.A 3 0) 2) 65535)))
def a38:Bool:=((e1 (ln a.R.D))&&((dZ (ln a.R.A) (ln (a37 a)))&&(bN (GW a).1 true)))
end
def T83(a:aG):Pt (aG×Int×Int×Int):=(.ok true (.ok ((ltI 3 (bX a.R.A))&&((dV [.int .i64] a.R.A 3 0)&&true)) (.ok ((sF a.Bus (H7 1 2 (bR a.R.A 3 0) 0 a.Bus))&&true) (.ok true (.br (eqI (GW a).2.2 0) (.ok ((ltI 3 (bX a.R.A))&&(((blt 3 (ln a.R.A))&&(j7 (j8 a.R.A 3) 1))&&true)) (.ok true (.ok ((((aRE a)&&(a38 a))&&true)&&((a38 a)&&true)) (.leaf ({a with R:={a.R with A:=(a37 a)},Bus:=(GW a).1},(GW a).2.1,(bR a.R.A 3 0),(GW a).2.2))))) (.ok true (.ok (dd (aRE a) ((aRE a)&&true)) (.leaf ({a with Bus:=(GW a).1},(GW a).2.1,(bR a.R.A 3 0),(GW a).2.2)))))))))
def g83(a:aG):aG×Int×Int×Int:=hid (T83 a).val
def k83(a:aG):Bool:=hid (T83 a).okv
def n83(a:aG)(r:aG×Int×Int×Int):SV×List Blk:=((.tup [(.one (li r.2.1)),(.one (li r.2.2.1)),(.one (li r.2.2.2))]),[.box [.sl 1 0 (ln r.1.R.D), .sl 2 0 (ln r.1.R.A),li r.1.R.Other,li r.1.R.PC,li r.1.R.Flags,li r.1.R.Mask, .lit (.bool r.1.R.Super), .lit (.bool r.1.R.Trace), .sl 3 0 (ln r.1.Bus.Bytes), .sl 4 0 (ln r.1.Bus.Log), .lit (.bool r.1.Stop), .lit (.bool r.1.Halt)], .lst 1 r.1.R.D, .lst 1 r.1.R.A, .lst 1 r.1.Bus.Bytes, .lst 5 r.1.Bus.Log])
def q83:=aWN (fun a=>n83 a (g83 a)) k83
theorem t83:cP 83 q83:=aBW fun a hk=>tc b75 aRD [(12,K1),(13,K0),(14,K0),(29,K1),(33,K0),(1000001,[])] [] true (T83 a) (n83 a) hk
def Q83:=bD 83 q83 Q272
theorem a39:QO Q83:=aH t83 aRD
def aLW(a:bJ)(x0_fc:aG):Pt (bJ×aG×Int):=(.ok true (.ok true (.br (dD a.ffault.Vector 0) (.ok true (.ok (((aM x0_fc true)&&(aM x0_fc true))&&true) (.leaf (a,x0_fc,0)))) (.ok ((cG x0_fc (k83 x0_fc))&&true) (.ok ((cG (g83 x0_fc).1 (aWQ (g83 x0_fc).2.2.2 (g83 x0_fc).2.2.1 false a (g83 x0_fc).1))&&true) (.ok true (.ok (((aM (g83 x0_fc).1 true)&&(aM (g83 x0_fc).1 true))&&true) (.leaf ((aWP (g83 x0_fc).2.2.2 (g83 x0_fc).2.2.1 false a (g83 x0_fc).1),(g83 x0_fc).1,(g83 x0_fc).2.1)))))))))
def D2(a:bJ)(x0_fc:aG):bJ×aG×Int:=hid (aLW a x0_fc).val
def aW2(a:bJ)(x0_fc:aG):Bool:=hid (aLW a x0_fc).okv
def q293:=NE (fun a x0_fc=>bDO a x0_fc (D2 a x0_fc)) aW2
theorem cCV:cP 293 q293:=wK fun a x0_fc hk=>tc b0H a39 [(10,K0)] [] true (aLW a x0_fc) (bDO a x0_fc) hk
def Q293:=bD 293 q293 Q83
theorem aRF:QO Q293:=aH cCV a39
def cCW(b:Int)(a:aJ):List SV:=[(.one (.ptr 0 0 0)),(.one (li b))]
def cCX(b:Int)(a:aJ):List Blk:=[.box [.sl 1 0 (ln a.D), .sl 2 0 (ln a.A),li a.Other,li a.PC,li a.Flags,li a.Mask, .lit (.bool a.Super), .lit (.bool a.Trace)], .lst 1 a.D, .lst 1 a.A]
def bL4(N:Int→aJ→SV×List Blk)(K:Int→aJ→Bool):List SV→List Blk→Option ((SV×List Blk)×Bool)
 |[(.one (.ptr 0 0 0)),(.one (li c0))],[.box [.sl 1 0 l1, .sl 2 0 l2,li c1,li c2,li c3,li c4, .lit (.bool c5), .lit (.bool c6)], .lst 1 c_1, .lst 1 c_2]=>some (N c0 (aJ.mk c_1 c_2 c1 c2 c3 c4 c5 c6),dZ l1 (ln c_1)&&(dZ l2 (ln c_2)&&(K c0 (aJ.mk c_1 c_2 c1 c2 c3 c4 c5 c6))))
 |_,_=>none
theorem bL5{N:Int→aJ→SV×List Blk}{K:Int→aJ→Bool}{f:Nat}(h: ∀(b:Int)(a:aJ),K b a=true→dQ R f (cCW b a) (cCX b a)=some (N b a)):cP f (bL4 N K):=fun args hp r e=>by
 unfold bL4 at e;split at e
 ·rename_i c0 l1 l2 c1 c2 c3 c4 c5 c6 c_1 c_2;obtain⟨hr,hk⟩:=qp (qi e);obtain⟨d0,hk0⟩:=bI hk;obtain⟨d1,hk1⟩:=bI hk0;obtain rfl:=of_decide_eq_true d0;obtain rfl:=of_decide_eq_true d1;rw[←hr];exact h c0 (aJ.mk c_1 c_2 c1 c2 c3 c4 c5 c6) hk1
 ·simp at e
section
variable(a:aJ)
def aLX:Bool:=((e1 (ln a.D))&&((dZ (ln a.A) (ln (List.set a.A 3 (aY a.Other))))&&true))
end
def a4A(b:Int)(a:aJ):Pt (aJ):=(.ok true (.ok true (.ok true (.br (!(AX (dD (bF b 256) 0) a.Super)) (.ok true (.ok (((ltI 3 (bX a.A))&&((dV [.int .i64] a.A 3 0)&&((ltI 3 (bX a.A))&&(((blt 3 (ln a.A))&&(j7 (j8 a.A 3) 1))&&true))))&&true) (.ok ((((aO a true)&&(aLX a))&&true)&&((aLX a)&&true)) (.leaf (aJ.mk a.D (List.set a.A 3 (aY a.Other)) (bR a.A 3 0) a.PC (bF b 31) (bF (fF b 5) 7) (dD (bF b 256) 0) (dD (bF b 512) 0)))))) (.ok (dd (aO a true) ((aO a true)&&true)) (.leaf {a with Flags:=(bF b 31),Mask:=(bF (fF b 5) 7),Trace:=(dD (bF b 512) 0)}))))))
def aW3(b:Int)(a:aJ):aJ:=hid (a4A b a).val
def aW4(b:Int)(a:aJ):Bool:=hid (a4A b a).okv
def b2G(b:Int)(a:aJ)(r:aJ):SV×List Blk:=((.tup []),[.box [.sl 1 0 (ln r.D), .sl 2 0 (ln r.A),li r.Other,li r.PC,li r.Flags,li r.Mask, .lit (.bool r.Super), .lit (.bool r.Trace)], .lst 1 r.D, .lst 1 r.A])
def q165:=bL4 (fun b a=>b2G b a (aW3 b a)) aW4
theorem cCY:cP 165 q165:=bL5 fun b a hk=>tc bW6 aRF [(29,rV),(38,K1),(43,K0),(47,K1),(48,K0),(49,K0),(50,K0),(1000001,[])] [] true (a4A b a) (b2G b a) hk
def Q165:=bD 165 q165 Q293
theorem aRG:QO Q165:=aH cCY aRF
section
variable(a:bJ)(x0_fc:aG)
def jM:bJ×aG×Int:=(D2 (D2 a x0_fc).1 (D2 a x0_fc).2.1)
def uK:aJ:=(aW3 (bF (D2 a x0_fc).2.2 1023) (jM a x0_fc).2.1.R)
def uL:Bool:=(aO (uK a x0_fc) (bN (jM a x0_fc).2.1.Bus true))
def uM:aJ:=(aW3 a.fx.Ea.Ext x0_fc.R)
def uN:Bool:=(aO (uM a x0_fc) (bN x0_fc.Bus true))
def uO:Bool:=(((cG x0_fc (aWO a x0_fc))&&((cG x0_fc (aK4 (bE 18 a.fx.Reg) (aGE a x0_fc) a x0_fc))&&true))&&true)
def uP:bJ:=(aK3 (bE 18 a.fx.Reg) (aGE a x0_fc) a x0_fc)
def uQ:Bool:=(((aM x0_fc true)&&(aM x0_fc true))&&true)
def uR:Bool:=((leI 0 a.fx.Reg)&&(ltI a.fx.Reg (bX x0_fc.R.D)))
def uS:Bool:=(dV [.int .i64] x0_fc.R.D (0+(iN a.fx.Reg)) 0)
def m5:Int:=(bF (bR x0_fc.R.D (0+(iN a.fx.Reg)) 0) 255)
def pM:Int:=(fB (fF (bR x0_fc.R.D (0+(iN a.fx.Reg)) 0) 8) (m9 (m5 a x0_fc) 8))
def oJ:aG:=(PU (pM a x0_fc) a x0_fc)
def oK:aG:=(PU (bF (aB5 1 (m5 a x0_fc)) 65535) a x0_fc)
end
def a4B(a:bJ)(x0_fc:aG):Pt (bJ×aG):=(.ok true (.ok true (.ok true (.br (eqI a.fx.Sub 0) (.ok ((cG x0_fc (aW2 a x0_fc))&&true) (.ok (((aM (D2 a x0_fc).2.1 true)&&(aM (D2 a x0_fc).2.1 true))&&true) (.leaf ((D2 a x0_fc).1,{(D2 a x0_fc).2.1 with R:={(D2 a x0_fc).2.1.R with PC:=(D2 a x0_fc).2.2}})))) (.ok true (.br (eqI a.fx.Sub 1) (.ok ((cG x0_fc (aW2 a x0_fc))&&true) (.ok ((cG (D2 a x0_fc).2.1 (aW2 (D2 a x0_fc).1 (D2 a x0_fc).2.1))&&true) (.ok true (.br (eqI (jM a x0_fc).1.ffault.Vector 0) (.ok ((iH (jM a x0_fc).2.1.R (aW4 (bF (D2 a x0_fc).2.2 1023) (jM a x0_fc).2.1.R))&&true) (.ok true (.ok (((uL a x0_fc)&&(uL a x0_fc))&&true) (.leaf ((jM a x0_fc).1,{(jM a x0_fc).2.1 with R:={(uK a x0_fc)with PC:=(jM a x0_fc).2.2}}))))) (.ok (((aM (jM a x0_fc).2.1 true)&&(aM (jM a x0_fc).2.1 true))&&true) (.leaf ((jM a x0_fc).1,(jM a x0_fc).2.1))))))) (.ok true (.br (eqI a.fx.Sub 3) (.ok ((iH x0_fc.R (aW4 a.fx.Ea.Ext x0_fc.R))&&true) (.ok true (.ok (((uN a x0_fc)&&(uN a x0_fc))&&true) (.leaf (a,{x0_fc with R:=(uM a x0_fc),Stop:=true}))))) (.ok true (.br (eqI a.fx.Sub 4) (.ok ((uO a x0_fc)&&((uO a x0_fc)&&((vP (uP a x0_fc) true)&&((fA x0_fc true)&&(fK x0_fc true))))) (.ok (uQ x0_fc) (.leaf ((uP a x0_fc),x0_fc)))) (.ok true (.br (eqI a.fx.Sub 5) (.ok ((uR a x0_fc)&&((uS a x0_fc)&&true)) (.ok ((cG x0_fc (PV (pM a x0_fc) a x0_fc))&&true) (.ok (((aM (oJ a x0_fc) true)&&(aM (oJ a x0_fc) true))&&true) (.leaf (a,(oJ a x0_fc)))))) (.ok true (.br (eqI a.fx.Sub 6) (.ok (((uR a x0_fc)&&((uS a x0_fc)&&((aGH 1 (m5 a x0_fc))&&((cG x0_fc (PV (bF (aB5 1 (m5 a x0_fc)) 65535) a x0_fc))&&true))))&&true) (.ok (((aM (oK a x0_fc) true)&&(aM (oK a x0_fc) true))&&true) (.leaf (a,(oK a x0_fc))))) (.ok (uQ x0_fc) (.leaf (a,x0_fc)))))))))))))))))
def aW5(a:bJ)(x0_fc:aG):bJ×aG:=hid (a4B a x0_fc).val
def bL6(a:bJ)(x0_fc:aG):Bool:=hid (a4B a x0_fc).okv
def q273:=NE (fun a x0_fc=>GC a x0_fc (aW5 a x0_fc)) bL6
theorem cCZ:cP 273 q273:=wK fun a x0_fc hk=>tc bZX aRG [(16,K0),(35,K0),(52,K0),(67,K0),(77,K1),(82,K0),(83,K0),(84,K0),(99,K1),(104,K0),(105,K0),(106,K0)] [] true (a4B a x0_fc) (GC a x0_fc) hk
def Q273:=bD 273 q273 Q165
theorem aRH:QO Q273:=aH cCZ aRG
section
variable(a:bJ)(x0_fc:aG)
def NM:Bool:=(((aM (cT a x0_fc).2.1 true)&&(aM (cT a x0_fc).2.1 true))&&true)
def IB:Nat:=(0+(iN (cT a x0_fc).1.fx.Reg))
def D3:Int:=(dE (bR (cT a x0_fc).2.1.R.D (IB a x0_fc) 0) (cT a x0_fc).2.2)
def BY:aG:=(PU (bF (D3 a x0_fc) 65535) (cT a x0_fc).1 (cT a x0_fc).2.1)
def NN:Int:=(aGE (cT a x0_fc).1 (cT a x0_fc).2.1)
def NO:Int:=(lW (bR (cT a x0_fc).2.1.R.D (IB a x0_fc) 0) (cT a x0_fc).2.2)
def IC:aG:=(PU (NO a x0_fc) (cT a x0_fc).1 (cT a x0_fc).2.1)
end
def a4C(a:bJ)(x0_fc:aG):Pt (bJ×aG):=(.ok ((cG x0_fc (aWR a x0_fc))&&true) (.ok true (.br (dD (cT a x0_fc).1.ffault.Vector 0) (.ok (NM a x0_fc) (.leaf ((cT a x0_fc).1,(cT a x0_fc).2.1))) (.ok (((leI 0 (cT a x0_fc).1.fx.Reg)&&(ltI (cT a x0_fc).1.fx.Reg (bX (cT a x0_fc).2.1.R.D)))&&((dV [.int .i64] (cT a x0_fc).2.1.R.D (IB a x0_fc) 0)&&true)) (.ok true (.br (eqI (cT a x0_fc).1.fx.Op 16) (.ok ((cG (cT a x0_fc).2.1 (PV (bF (D3 a x0_fc) 65535) (cT a x0_fc).1 (cT a x0_fc).2.1))&&true) (.ok (((zA (pG (D3 a x0_fc) 65535) 2)&&true)&&true) (.ok (((aM (BY a x0_fc) true)&&(aM (BY a x0_fc) true))&&true) (.leaf ((cT a x0_fc).1,{(BY a x0_fc)with R:={(BY a x0_fc).R with Flags:=(fB (BY a x0_fc).R.Flags (yZ (pG (D3 a x0_fc) 65535) 2))}}))))) (.ok true (.br (eqI (cT a x0_fc).2.2 0) (.ok ((cG (cT a x0_fc).2.1 (aWO (cT a x0_fc).1 (cT a x0_fc).2.1))&&((cG (cT a x0_fc).2.1 (aK4 5 (NN a x0_fc) (cT a x0_fc).1 (cT a x0_fc).2.1))&&true)) (.ok (NM a x0_fc) (.leaf ((aK3 5 (NN a x0_fc) (cT a x0_fc).1 (cT a x0_fc).2.1),(cT a x0_fc).2.1)))) (.ok ((dD (cT a x0_fc).2.2 0)&&((cG (cT a x0_fc).2.1 (PV (NO a x0_fc) (cT a x0_fc).1 (cT a x0_fc).2.1))&&true)) (.ok (((aM (IC a x0_fc) true)&&(aM (IC a x0_fc) true))&&true) (.leaf ((cT a x0_fc).1,(IC a x0_fc)))))))))))))
def aW6(a:bJ)(x0_fc:aG):bJ×aG:=hid (a4C a x0_fc).val
def bL7(a:bJ)(x0_fc:aG):Bool:=hid (a4C a x0_fc).okv
def q274:=NE (fun a x0_fc=>GC a x0_fc (aW6 a x0_fc)) bL7
theorem cC0:cP 274 q274:=wK fun a x0_fc hk=>tc bZY aRH [(10,K0),(19,K1),(24,K0),(25,K0),(26,K0),(31,K0),(46,K0)] [] true (a4C a x0_fc) (GC a x0_fc) hk
def Q274:=bD 274 q274 Q273
theorem aRI:QO Q274:=aH cC0 aRH
def a4D(a:Int):Pt (Bool):=(.ok true (.ok ((xP a 0 153)&&true) (.ok true (.ok true (.leaf (bif (uF a 0 153)then(leI (bF a 15) 9)else false))))))
def bL8(a:Int):Bool:=hid (a4D a).val
def a4E(a:Int):Bool:=hid (a4D a).okv
def q306:=CM (fun a=>j9 a (bL8 a)) a4E
theorem cC1:cP 100306 q306:=hH fun a hk=>tz b0U aRI [] [] true (a4D a) (j9 a) hk
def Q306:=bD 100306 q306 Q274
theorem aCD:QO Q306:=aH cC1 aRI
def a4F(a:Int):Pt (Bool):=(.ok true (.ok ((xP a 0 1)&&true) (.ok true (.ok true (.leaf (uF a 0 1))))))
def bL9(a:Int):Bool:=hid (a4F a).val
def bMA(a:Int):Bool:=hid (a4F a).okv
def q307:=CM (fun a=>j9 a (bL9 a)) bMA
theorem cC2:cP 100307 q307:=hH fun a hk=>tz b0V aCD [] [] true (a4F a) (j9 a) hk
def Q307:=bD 100307 q307 Q306
theorem aRJ:QO Q307:=aH cC2 aCD
def cC3(a:Int)(b:List Row):List SV:=[(.one (li a)),(.one (.imm false 1 b))]
def cC4(a:Int)(b:List Row):List Blk:=[]
def bMB(N:Int→List Row→SV×List Blk)(K:Int→List Row→Bool):List SV→List Blk→Option ((SV×List Blk)×Bool)
 |[(.one (li c0)),(.one (.imm false 1 c1))],[]=>some (N c0 c1,K c0 c1)
 |_,_=>none
theorem bMC{N:Int→List Row→SV×List Blk}{K:Int→List Row→Bool}{f:Nat}(h: ∀(a:Int)(b:List Row),K a b=true→dQ R f (cC3 a b) (cC4 a b)=some (N a b)):cP f (bMB N K):=fun _ _ _ e=>by
 unfold bMB at e;split at e
 ·exact yF e (h _ _)
 ·cases e
structure V303_0 where
 mk::
 (s0:Int)
 (s7:List Row)
 (s8:Int)
 (s9:Int)
def NP(v:V303_0):Pt (Option V303_0):=(.ok true (.br (ltI v.s9 v.s8) (.ok ((iG [.int .i64] v.s7 v.s9)&&true) (.ok ((a4E (bR v.s7 (iN v.s9) 0))&&true) (.br (!(bL8 (bR v.s7 (iN v.s9) 0))) (.ok true (.leaf none)) (.ok true (.ok true (.leaf (some {v with s9:=(bE v.s9 1)}))))))) (.leaf none)))
def UI(v:V303_0):St:=⟨[(0,(.one (li v.s0))),(7,(.one (.imm false 1 v.s7))),(8,(.one (li v.s8))),(9,(.one (li v.s9)))],[]⟩
def aCE:St→Option (V303_0×Bool)
 |⟨[(0,(.one (li c0))),(7,(.one (.imm false 1 c1))),(8,(.one (li c2))),(9,(.one (li c3)))],[]⟩=>some ((V303_0.mk c0 c1 c2 c3),true)
 |_=>none
def aCF:St→Option (Pt Out):=xN Q306 [(11,K0),(12,K0)] [] true [] 0 2097152 aI2
theorem bD0(v:V303_0):((aCF (UI v)).bind (rW true false 0 [0,7,8,9]))=some ((NP v).map (Option.map UI)):=by kernel_rfl
theorem bD1(σ:St)(v:V303_0)(h:aCE σ=some (v,true)):σ=UI v:=by
 unfold aCE at h;split at h
 ·obtain⟨hr,hk⟩:=qp (qi h);rw[←hr];rfl
 ·simp at h
theorem bD2:cY (uB true false 0 [0,7,8,9] aCF aCE UI NP 2097152) (fT R 0 2097152 (.loop [0,7,8,9] aI2)):=eE (cZ aCD (cI (l:=[]) (by kernel_rfl) trivial)) bD1 bD0
def bD3:Lp:=(10,uB true false 0 [0,7,8,9] aCF aCE UI NP 2097152)::[]
def UJ(v:V303_0):V303_0:=(hid (dW NP 2097152 v)).getD v
def aLY(v:V303_0):Bool:=(hid (dW NP 2097152 v)).isSome
section
variable(a:Int)(b:List Row)
def UK:V303_0:=(UJ (V303_0.mk a b (bX b) 0))
end
def a4G(a:Int)(b:List Row):Pt (Bool):=(.ok true (.ok true (.ok true (.ok true (.ok (aLY (V303_0.mk a b (bX b) 0)) (.br (ltI (UK a b).s9 (UK a b).s8) (.ok true (.ok true (.leaf false))) (.ok ((bMA (UK a b).s0)&&true) (.ok true (.ok true (.leaf (bL9 (UK a b).s0)))))))))))
def bD4(a:Int)(b:List Row):Bool:=hid (a4G a b).val
def bD5(a:Int)(b:List Row):Bool:=hid (a4G a b).okv
def b2H(a:Int)(b:List Row)(r:Bool):SV×List Blk:=((.one (.lit (.bool r))),[])
def q303:=bMB (fun a b=>b2H a b (bD4 a b)) bD5
theorem b2I:fN (fun live x=>cY (nL bD3 (lV x)) (fT R 0 2097152 (.loop live x))) F303.body:=(cI (l:=[([0,7,8,9],aI2)]) (by kernel_rfl) ⟨fH (n:=10) (by kernel_rfl) fun σ σr t h ho hl=>bD2 σ σr t h ho hl,trivial⟩)
theorem cC5:cP 100303 q303:=bMC fun a b hk=>tzl b0R aRJ b2I [(11,K0),(12,K0)] [] true (a4G a b) (b2H a b) hk
def Q303:=bD 100303 q303 Q307
theorem aRK:QO Q303:=aH cC5 aRJ
def a4H(a:Int):Pt (Int):=(.ok true (.ok true (.ok true (.ok true (.leaf (bE (dE (fF a 4) 10) (bF a 15)))))))
def XB(a:Int):Int:=hid (a4H a).val
def aW7(a:Int):Bool:=hid (a4H a).okv
def q305:=CM (fun a=>xQ a (XB a)) aW7
theorem cC6:cP 100305 q305:=hH fun a hk=>tz b0T aRK [] [] true (a4H a) (xQ a) hk
def Q305:=bD 100305 q305 Q303
theorem aRL:QO Q305:=aH cC6 aRK
def a4I(a:Int):Pt (Int):=(.ok true (.ok true (.ok true (.ok true (.leaf (fB (m9 (lW a 10) 4) (nM a 10)))))))
def bD6(a:Int):Int:=hid (a4I a).val
def bD7(a:Int):Bool:=hid (a4I a).okv
def q308:=CM (fun a=>xQ a (bD6 a)) bD7
theorem cC7:cP 100308 q308:=hH fun a hk=>tz b0W aRL [] [] true (a4I a) (xQ a) hk
def Q308:=bD 100308 q308 Q305
theorem aRM:QO Q308:=aH cC7 aRL
def a4J(a:Int):Pt (Int×Int):=(.ok true (.ok ((xP a 0 99)&&true) (.br (uF a 0 99) (.ok ((bD7 a)&&true) (.ok true (.ok true (.leaf ((bD6 a),0))))) (.ok ((bD7 (nM (bE a 100) 100))&&true) (.ok true (.ok true (.leaf ((bD6 (nM (bE a 100) 100)),1))))))))
def bD8(a:Int):Int×Int:=hid (a4J a).val
def bD9(a:Int):Bool:=hid (a4J a).okv
def b2J(a:Int)(r:Int×Int):SV×List Blk:=((.tup [(.one (li r.1)),(.one (li r.2))]),[])
def q304:=CM (fun a=>b2J a (bD8 a)) bD9
theorem cC8:cP 100304 q304:=hH fun a hk=>tz b0S aRM [] [] true (a4J a) (b2J a) hk
def Q304:=bD 100304 q304 Q308
theorem aRN:QO Q304:=aH cC8 aRM
section
variable(a:Int)(b:Int)(c:Int)
def aLZ:Int×Int:=(bD8 (bE (bE (XB b) (XB c)) a))
end
def a4K(a:Int)(b:Int)(c:Int):Pt (Int×Int×Bool):=(.ok true (.ok ((bD5 a [(aY b),(aY c)])&&true) (.br (!(bD4 a [(aY b),(aY c)])) (.ok true (.ok true (.ok true (.leaf (0,0,false))))) (.ok ((aW7 b)&&((aW7 c)&&((bD9 (bE (bE (XB b) (XB c)) a))&&true))) (.ok true (.ok true (.ok true (.leaf ((aLZ a b c).1,(aLZ a b c).2,true)))))))))
def bMD(a:Int)(b:Int)(c:Int):Int×Int×Bool:=hid (a4K a b c).val
def bME(a:Int)(b:Int)(c:Int):Bool:=hid (a4K a b c).okv
def bEA(a:Int)(b:Int)(c:Int)(r:Int×Int×Bool):SV×List Blk:=((.tup [(.one (li r.1)),(.one (li r.2.1)),(.one (.lit (.bool r.2.2)))]),[])
def q295:=DS5 (fun a b c=>bEA a b c (bMD a b c)) bME
theorem cC9:cP 100295 q295:=DI fun a b c hk=>tz b0J aRN [] [] true (a4K a b c) (bEA a b c) hk
def Q295:=bD 100295 q295 Q304
theorem aRO:QO Q295:=aH cC9 aRN
section
variable(a:Int)(b:Int)(c:Int)
def aL0:Int×Int:=(bD8 (cM (cM (XB b) (XB c)) a))
end
def a4L(a:Int)(b:Int)(c:Int):Pt (Int×Int×Bool):=(.ok true (.ok ((bD5 a [(aY b),(aY c)])&&true) (.br (!(bD4 a [(aY b),(aY c)])) (.ok true (.ok true (.ok true (.leaf (0,0,false))))) (.ok ((aW7 b)&&((aW7 c)&&((bD9 (cM (cM (XB b) (XB c)) a))&&true))) (.ok true (.ok true (.ok true (.leaf ((aL0 a b c).1,(aL0 a b c).2,true)))))))))
def bMF(a:Int)(b:Int)(c:Int):Int×Int×Bool:=hid (a4L a b c).val
def bMG(a:Int)(b:Int)(c:Int):Bool:=hid (a4L a b c).okv
def q296:=DS5 (fun a b c=>bEA a b c (bMF a b c)) bMG
theorem cDA:cP 100296 q296:=DI fun a b c hk=>tz b0K aRO [] [] true (a4L a b c) (bEA a b c) hk
def Q296:=bD 100296 q296 Q295
theorem aRP:QO Q296:=aH cDA aRO
section
variable(a:bJ)(x0_fc:aG)
def NQ:Int:=(bF (bR x0_fc.R.D (0+(iN a.fx.Reg)) 0) 255)
def NR:Int:=(bF (bR x0_fc.R.D (0+(iN a.fx.Ea.Reg)) 0) 255)
def UL:Int×Int×Bool:=(bMF (lW x0_fc.R.Flags 16) (NQ a x0_fc) (NR a x0_fc))
def UM:Int×Int×Bool:=(bMD (lW x0_fc.R.Flags 16) (NQ a x0_fc) (NR a x0_fc))
def UN:Int:=(bif (eqI a.fx.Sub 1)then(UL a x0_fc).1 else(UM a x0_fc).1)
def aCG:Bool:=(eqI (bif (eqI a.fx.Sub 1)then(UL a x0_fc).2.1 else(UM a x0_fc).2.1) 1)
def UO:aJ:=(aB2 1 a.fx.Reg (UN a x0_fc) x0_fc.R)
def aCH:Bool:=(aO (UO a x0_fc) (bN x0_fc.Bus true))
end
def a4M(a:bJ)(x0_fc:aG):Pt (bJ×aG):=(.ok true (.ok (((leI 0 a.fx.Reg)&&(ltI a.fx.Reg (bX x0_fc.R.D)))&&((dV [.int .i64] x0_fc.R.D (0+(iN a.fx.Reg)) 0)&&(((leI 0 a.fx.Ea.Reg)&&(ltI a.fx.Ea.Reg (bX x0_fc.R.D)))&&((dV [.int .i64] x0_fc.R.D (0+(iN a.fx.Ea.Reg)) 0)&&true)))) (.ok true (.ok ((bME (lW x0_fc.R.Flags 16) (NQ a x0_fc) (NR a x0_fc))&&true) (.ok true (.ok ((((bMG (lW x0_fc.R.Flags 16) (NQ a x0_fc) (NR a x0_fc))&&true)||(!(eqI a.fx.Sub 1)))&&true) (.ok true (.br (!(bif (eqI a.fx.Sub 1)then(UL a x0_fc).2.2 else(UM a x0_fc).2.2)) (.ok ((cG x0_fc (aK4 4 a.fpc a x0_fc))&&true) (.ok (((aM x0_fc true)&&(aM x0_fc true))&&true) (.leaf ((aK3 4 a.fpc a x0_fc),x0_fc)))) (.ok ((iH x0_fc.R (aB3 1 a.fx.Reg (UN a x0_fc) x0_fc.R))&&true) (.ok true (.ok true (.ok true (.ok ((zA (aCG a x0_fc) 17)&&true) (.ok (((aCH a x0_fc)&&(aCH a x0_fc))&&true) (.leaf (a,{x0_fc with R:={(UO a x0_fc)with Flags:=(fB (bif (eqI (UN a x0_fc) 0)then(bF (UO a x0_fc).Flags 4)else 0) (yZ (aCG a x0_fc) 17))}}))))))))))))))))
def aW8(a:bJ)(x0_fc:aG):bJ×aG:=hid (a4M a x0_fc).val
def bMH(a:bJ)(x0_fc:aG):Bool:=hid (a4M a x0_fc).okv
def q275:=NE (fun a x0_fc=>GC a x0_fc (aW8 a x0_fc)) bMH
theorem cDB:cP 275 q275:=wK fun a x0_fc hk=>tc bZZ aRP [(19,K1),(24,K0),(25,K0),(26,K0),(31,K1),(37,K0),(38,K0),(39,K0),(44,K0),(58,K0),(74,K0),(81,K0),(89,K0)] [] true (a4M a x0_fc) (GC a x0_fc) hk
def Q275:=bD 275 q275 Q296
theorem aRQ:QO Q275:=aH cDB aRP
def cDC(a:aJ):List SV:=[(.one (.ptr 0 0 0))]
def cDD(a:aJ):List Blk:=[.box [.sl 1 0 (ln a.D), .sl 2 0 (ln a.A),li a.Other,li a.PC,li a.Flags,li a.Mask, .lit (.bool a.Super), .lit (.bool a.Trace)], .lst 1 a.D, .lst 1 a.A]
def bEB(N:aJ→SV×List Blk)(K:aJ→Bool):List SV→List Blk→Option ((SV×List Blk)×Bool)
 |[(.one (.ptr 0 0 0))],[.box [.sl 1 0 l1, .sl 2 0 l2,li c0,li c1,li c2,li c3, .lit (.bool c4), .lit (.bool c5)], .lst 1 c_1, .lst 1 c_2]=>some (N (aJ.mk c_1 c_2 c0 c1 c2 c3 c4 c5),dZ l1 (ln c_1)&&(dZ l2 (ln c_2)&&(K (aJ.mk c_1 c_2 c0 c1 c2 c3 c4 c5))))
 |_,_=>none
theorem a4N{N:aJ→SV×List Blk}{K:aJ→Bool}{f:Nat}(h: ∀(a:aJ),K a=true→dQ R f (cDC a) (cDD a)=some (N a)):cP f (bEB N K):=fun args hp r e=>by
 unfold bEB at e;split at e
 ·rename_i l1 l2 c0 c1 c2 c3 c4 c5 c_1 c_2;obtain⟨hr,hk⟩:=qp (qi e);obtain⟨d0,hk0⟩:=bI hk;obtain⟨d1,hk1⟩:=bI hk0;obtain rfl:=of_decide_eq_true d0;obtain rfl:=of_decide_eq_true d1;rw[←hr];exact h (aJ.mk c_1 c_2 c0 c1 c2 c3 c4 c5) hk1
 ·simp at e
def a4O(a:aJ):Pt (Int):=(.ok true (.ok ((zA a.Super 256)&&((zA a.Trace 512)&&true)) (.ok (((aO a true)&&(aO a true))&&true) (.leaf (bE (bE (bE a.Flags (dE 32 a.Mask)) (yZ a.Super 256)) (yZ a.Trace 512))))))
def bMI(a:aJ):Int:=hid (a4O a).val
def bMJ(a:aJ):Bool:=hid (a4O a).okv
def bEC(a:aJ)(r:Int):SV×List Blk:=((.one (li r)),[.box [.sl 1 0 (ln a.D), .sl 2 0 (ln a.A),li a.Other,li a.PC,li a.Flags,li a.Mask, .lit (.bool a.Super), .lit (.bool a.Trace)], .lst 1 a.D, .lst 1 a.A])
def q166:=bEB (fun a=>bEC a (bMI a)) bMJ
theorem cDE:cP 50166 q166:=a4N fun a hk=>tck aZP aRQ [(6,K0),(10,K0),(16,rV),(22,rV)] [] true (a4O a) (bEC a) hk
def Q166:=bD 50166 q166 Q275
theorem aRR:QO Q166:=aH cDE aRQ
section
variable(a:bJ)(x0_fc:aG)
def jN:Bool:=((leI 0 a.fx.Reg)&&(ltI a.fx.Reg (bX x0_fc.R.A)))
def jO:Bool:=(((blt (0+(iN a.fx.Reg)) (ln (cT a x0_fc).2.1.R.A))&&(j7 (j8 (cT a x0_fc).2.1.R.A (0+(iN a.fx.Reg))) 1))&&true)
def iW:Bool:=(((cG x0_fc (aWR a x0_fc))&&((jN a x0_fc)&&(jO a x0_fc)))&&true)
def jP:Bool:=(((cG x0_fc (aWR a x0_fc))&&(((leI 0 a.fx.Reg)&&(ltI a.fx.Reg (bX (cT a x0_fc).2.1.R.A)))&&(jO a x0_fc)))&&true)
def iX:List Row:=(List.set (cT a x0_fc).2.1.R.A (0+(iN a.fx.Reg)) (aY (cT a x0_fc).2.2))
def iM:Bool:=((vP (cT a x0_fc).1 true)&&((fA (cT a x0_fc).2.1 true)&&((r1 (cT a x0_fc).2.1.R.D)&&((r1 (iX a x0_fc))&&((nN a.fx true)&&(dI (cT a x0_fc).2.1.Bus true))))))
def jQ:Bool:=((e1 (ln (cT a x0_fc).2.1.R.D))&&((dZ (ln (cT a x0_fc).2.1.R.A) (ln (iX a x0_fc)))&&(bN (cT a x0_fc).2.1.Bus true)))
def jR:Bool:=(iH x0_fc.R (aLE a.fx.Size a.fx.Ea x0_fc.R))
def fL:aJ×Int:=(aLD a.fx.Size a.fx.Ea x0_fc.R)
def jS:Bool:=(((blt (0+(iN a.fx.Reg)) (ln (fL a x0_fc).1.A))&&(j7 (j8 (fL a x0_fc).1.A (0+(iN a.fx.Reg))) 1))&&true)
def fX:Bool:=(((jR a x0_fc)&&((jN a x0_fc)&&(jS a x0_fc)))&&true)
def gK:Bool:=(((jR a x0_fc)&&(((leI 0 a.fx.Reg)&&(ltI a.fx.Reg (bX (fL a x0_fc).1.A)))&&(jS a x0_fc)))&&true)
def fY:List Row:=(List.set (fL a x0_fc).1.A (0+(iN a.fx.Reg)) (aY (fL a x0_fc).2))
def gL:Bool:=(dI x0_fc.Bus ((nN a.fx true)&&true))
def fP:Bool:=((vP a true)&&((fW (fL a x0_fc).1 (dO x0_fc.Bus ((s1 x0_fc.Stop)&&((s1 x0_fc.Halt)&&true))))&&((r1 (fL a x0_fc).1.D)&&((r1 (fY a x0_fc))&&(gL a x0_fc)))))
def gM:Bool:=((e1 (ln (fL a x0_fc).1.D))&&((dZ (ln (fL a x0_fc).1.A) (ln (fY a x0_fc)))&&(bN x0_fc.Bus true)))
def gN:Int:=(aGF a.fx.Reg a x0_fc)
def bW:Bool:=(((cG x0_fc (aGG a.fx.Reg a x0_fc))&&((bLU a.fx.Sub a.fx.Size x0_fc.R.Flags (gN a x0_fc) (bE a.fx.Ea.Reg 1))&&true))&&true)
def fI:Int×Int:=(bLT a.fx.Sub a.fx.Size x0_fc.R.Flags (gN a x0_fc) (bE a.fx.Ea.Reg 1))
def bY:Bool:=(((s1 (fI a x0_fc).1)&&((s1 (fI a x0_fc).2)&&true))&&((vP a true)&&((fA x0_fc true)&&(eZ x0_fc.R ((nN a.fx true)&&(dI x0_fc.Bus true))))))
def hJ:Bool:=((bW a x0_fc)&&(((bW a x0_fc)&&(((bW a x0_fc)&&(((bW a x0_fc)&&(((bW a x0_fc)&&(((bW a x0_fc)&&(((bW a x0_fc)&&(((bW a x0_fc)&&((bW a x0_fc)&&(bY a x0_fc)))&&(bY a x0_fc)))&&(bY a x0_fc)))&&(bY a x0_fc)))&&(bY a x0_fc)))&&(bY a x0_fc)))&&(bY a x0_fc)))&&(bY a x0_fc)))
def hK:Bool:=((bW a x0_fc)&&(((bW a x0_fc)&&(((bW a x0_fc)&&(((bW a x0_fc)&&(((bW a x0_fc)&&(((bW a x0_fc)&&(((bW a x0_fc)&&(((bW a x0_fc)&&((hJ a x0_fc)&&(bY a x0_fc)))&&(bY a x0_fc)))&&(bY a x0_fc)))&&(bY a x0_fc)))&&(bY a x0_fc)))&&(bY a x0_fc)))&&(bY a x0_fc)))&&(bY a x0_fc)))
def hU:Bool:=((bW a x0_fc)&&(((bW a x0_fc)&&(((bW a x0_fc)&&(((bW a x0_fc)&&(((bW a x0_fc)&&(((bW a x0_fc)&&(((bW a x0_fc)&&(((bW a x0_fc)&&((hK a x0_fc)&&(bY a x0_fc)))&&(bY a x0_fc)))&&(bY a x0_fc)))&&(bY a x0_fc)))&&(bY a x0_fc)))&&(bY a x0_fc)))&&(bY a x0_fc)))&&(bY a x0_fc)))
def hX:Bool:=((bW a x0_fc)&&(((bW a x0_fc)&&(((bW a x0_fc)&&(((bW a x0_fc)&&(((bW a x0_fc)&&(((bW a x0_fc)&&(((bW a x0_fc)&&(((bW a x0_fc)&&((hU a x0_fc)&&(bY a x0_fc)))&&(bY a x0_fc)))&&(bY a x0_fc)))&&(bY a x0_fc)))&&(bY a x0_fc)))&&(bY a x0_fc)))&&(bY a x0_fc)))&&(bY a x0_fc)))
def hY:Bool:=((bW a x0_fc)&&(((bW a x0_fc)&&(((bW a x0_fc)&&(((bW a x0_fc)&&(((bW a x0_fc)&&(((bW a x0_fc)&&(((bW a x0_fc)&&(((bW a x0_fc)&&((hX a x0_fc)&&(bY a x0_fc)))&&(bY a x0_fc)))&&(bY a x0_fc)))&&(bY a x0_fc)))&&(bY a x0_fc)))&&(bY a x0_fc)))&&(bY a x0_fc)))&&(bY a x0_fc)))
def hZ:Bool:=((bW a x0_fc)&&(((bW a x0_fc)&&(((bW a x0_fc)&&(((bW a x0_fc)&&(((bW a x0_fc)&&(((bW a x0_fc)&&(((bW a x0_fc)&&(((bW a x0_fc)&&((hY a x0_fc)&&(bY a x0_fc)))&&(bY a x0_fc)))&&(bY a x0_fc)))&&(bY a x0_fc)))&&(bY a x0_fc)))&&(bY a x0_fc)))&&(bY a x0_fc)))&&(bY a x0_fc)))
def iA:Bool:=((bW a x0_fc)&&(((bW a x0_fc)&&(((bW a x0_fc)&&(((bW a x0_fc)&&(((bW a x0_fc)&&(((bW a x0_fc)&&(((bW a x0_fc)&&(((bW a x0_fc)&&((hZ a x0_fc)&&(bY a x0_fc)))&&(bY a x0_fc)))&&(bY a x0_fc)))&&(bY a x0_fc)))&&(bY a x0_fc)))&&(bY a x0_fc)))&&(bY a x0_fc)))&&(bY a x0_fc)))
def iB:Bool:=((bW a x0_fc)&&(((bW a x0_fc)&&(((bW a x0_fc)&&(((bW a x0_fc)&&(((bW a x0_fc)&&(((bW a x0_fc)&&(((bW a x0_fc)&&(((bW a x0_fc)&&((iA a x0_fc)&&(bY a x0_fc)))&&(bY a x0_fc)))&&(bY a x0_fc)))&&(bY a x0_fc)))&&(bY a x0_fc)))&&(bY a x0_fc)))&&(bY a x0_fc)))&&(bY a x0_fc)))
def gO:aJ:=(aB2 a.fx.Size a.fx.Reg (fI a x0_fc).1 x0_fc.R)
def gP:Bool:=(aO (gO a x0_fc) (bN x0_fc.Bus true))
def fZ:Bool:=(dd (aM x0_fc true) ((aM x0_fc true)&&true))
def gQ:aJ:=(aW3 a.fx.Ea.Ext x0_fc.R)
def gR:Bool:=(aO (gQ a x0_fc) (bN x0_fc.Bus true))
def fJ:Bool:=(((iH x0_fc.R (bMJ x0_fc.R))&&(((leI 0 a.fx.Reg)&&(ltI a.fx.Reg (bX x0_fc.R.D)))&&(((blt (0+(iN a.fx.Reg)) (ln x0_fc.R.D))&&(j7 (j8 x0_fc.R.D (0+(iN a.fx.Reg))) 1))&&true)))&&true)
def f7:List Row:=(List.set x0_fc.R.D (0+(iN a.fx.Reg)) (aY (bMI x0_fc.R)))
def fQ:Bool:=((vP a true)&&((fA x0_fc true)&&((r1 (f7 a x0_fc))&&((r1 x0_fc.R.A)&&(gL a x0_fc)))))
def gS:Bool:=((dZ (ln x0_fc.R.D) (ln (f7 a x0_fc)))&&((e1 (ln x0_fc.R.A))&&(bN x0_fc.Bus true)))
end
def a4P(a:bJ)(x0_fc:aG):Pt (bJ×aG):=(.ok true (.ok true (.ok true (.ok true (.ok true (.br (bif (eqI a.fx.Op 1)then(eqI a.fx.Op 1)else(bif (eqI a.fx.Op 3)then(eqI a.fx.Op 3)else(bif (eqI a.fx.Op 4)then(eqI a.fx.Op 4)else(bif (eqI a.fx.Op 5)then(eqI a.fx.Op 5)else(bif (eqI a.fx.Op 6)then(eqI a.fx.Op 6)else(bif (eqI a.fx.Op 7)then(eqI a.fx.Op 7)else(eqI a.fx.Op 8))))))) (.ok ((cG x0_fc (bLL a x0_fc))&&true) (.ok (dd (aM (aWV a x0_fc).2 true) ((aM (aWV a x0_fc).2 true)&&true)) (.leaf ((aWV a x0_fc).1,(aWV a x0_fc).2)))) (.ok true (.br (eqI a.fx.Op 2) (.ok ((cG x0_fc (bLN a x0_fc))&&true) (.ok (dd (aM (aWX a x0_fc).2 true) ((aM (aWX a x0_fc).2 true)&&true)) (.leaf ((aWX a x0_fc).1,(aWX a x0_fc).2)))) (.ok true (.br (eqI a.fx.Op 9) (.ok ((iW a x0_fc)&&(((iW a x0_fc)&&(((iW a x0_fc)&&(((jP a x0_fc)&&((jP a x0_fc)&&(iM a x0_fc)))&&(iM a x0_fc)))&&(iM a x0_fc)))&&(iM a x0_fc))) (.ok ((((aM (cT a x0_fc).2.1 true)&&(jQ a x0_fc))&&true)&&((jQ a x0_fc)&&true)) (.leaf ((cT a x0_fc).1,{(cT a x0_fc).2.1 with R:={(cT a x0_fc).2.1.R with A:=(iX a x0_fc)}})))) (.ok true (.br (eqI a.fx.Op 10) (.ok ((fX a x0_fc)&&(((fX a x0_fc)&&(((fX a x0_fc)&&(((gK a x0_fc)&&((gK a x0_fc)&&(fP a x0_fc)))&&(fP a x0_fc)))&&(fP a x0_fc)))&&(fP a x0_fc))) (.ok ((((aO (fL a x0_fc).1 (bN x0_fc.Bus true))&&(gM a x0_fc))&&true)&&((gM a x0_fc)&&true)) (.leaf (a,{x0_fc with R:={(fL a x0_fc).1 with A:=(fY a x0_fc)}})))) (.ok true (.br (eqI a.fx.Op 11) (.ok ((cG x0_fc (bLO a x0_fc))&&true) (.ok (dd (aM (aWY a x0_fc).2 true) ((aM (aWY a x0_fc).2 true)&&true)) (.leaf ((aWY a x0_fc).1,(aWY a x0_fc).2)))) (.ok true (.br (eqI a.fx.Op 12) (.ok (iB a x0_fc) (.ok ((iH x0_fc.R (aB3 a.fx.Size a.fx.Reg (fI a x0_fc).1 x0_fc.R))&&true) (.ok true (.ok (dd (gP a x0_fc) ((gP a x0_fc)&&true)) (.leaf (a,{x0_fc with R:={(gO a x0_fc)with Flags:=(fI a x0_fc).2}})))))) (.ok true (.br (eqI a.fx.Op 13) (.ok ((bLY (bE a.fx.Sub (dE 8 a.fx.Reg)) x0_fc.R.Flags)&&true) (.br (bLX (bE a.fx.Sub (dE 8 a.fx.Reg)) x0_fc.R.Flags) (.ok true (.ok (fZ x0_fc) (.leaf (a,{x0_fc with R:={x0_fc.R with PC:=(bF (bE (bE a.fpc 2) a.fx.Ea.Ext) 65535)}})))) (.ok (fZ x0_fc) (.leaf (a,x0_fc))))) (.ok true (.br (eqI a.fx.Op 14) (.ok ((cG x0_fc (bL3 a x0_fc))&&true) (.ok (dd (aM (aW0 a x0_fc).2 true) ((aM (aW0 a x0_fc).2 true)&&true)) (.leaf ((aW0 a x0_fc).1,(aW0 a x0_fc).2)))) (.ok true (.br (eqI a.fx.Op 15) (.ok ((cG x0_fc (bL6 a x0_fc))&&true) (.ok (dd (aM (aW5 a x0_fc).2 true) ((aM (aW5 a x0_fc).2 true)&&true)) (.leaf ((aW5 a x0_fc).1,(aW5 a x0_fc).2)))) (.ok true (.ok true (.br (bif (eqI a.fx.Op 16)then(eqI a.fx.Op 16)else(eqI a.fx.Op 17)) (.ok ((cG x0_fc (bL7 a x0_fc))&&true) (.ok (dd (aM (aW6 a x0_fc).2 true) ((aM (aW6 a x0_fc).2 true)&&true)) (.leaf ((aW6 a x0_fc).1,(aW6 a x0_fc).2)))) (.ok true (.br (eqI a.fx.Op 18) (.ok ((cG x0_fc (bMH a x0_fc))&&true) (.ok (dd (aM (aW8 a x0_fc).2 true) ((aM (aW8 a x0_fc).2 true)&&true)) (.leaf ((aW8 a x0_fc).1,(aW8 a x0_fc).2)))) (.ok true (.br (eqI a.fx.Op 19) (.ok true (.br (eqI a.fx.Sub 0) (.ok ((iH x0_fc.R (aW4 a.fx.Ea.Ext x0_fc.R))&&true) (.ok (dd (gR a x0_fc) ((gR a x0_fc)&&true)) (.leaf (a,{x0_fc with R:=(gQ a x0_fc)})))) (.ok ((fJ a x0_fc)&&(((fJ a x0_fc)&&(((fJ a x0_fc)&&(((fJ a x0_fc)&&((fJ a x0_fc)&&(fQ a x0_fc)))&&(fQ a x0_fc)))&&(fQ a x0_fc)))&&(fQ a x0_fc))) (.ok ((((aM x0_fc true)&&(gS a x0_fc))&&true)&&((gS a x0_fc)&&true)) (.leaf (a,{x0_fc with R:={x0_fc.R with D:=(f7 a x0_fc)}})))))) (.ok (fZ x0_fc) (.leaf (a,x0_fc))))))))))))))))))))))))))))))))
def bMK(a:bJ)(x0_fc:aG):bJ×aG:=hid (a4P a x0_fc).val
def bML(a:bJ)(x0_fc:aG):Bool:=hid (a4P a x0_fc).okv
def q239:=NE (fun a x0_fc=>GC a x0_fc (bMK a x0_fc)) bML
theorem cDF:cP 239 q239:=wK fun a x0_fc hk=>tc bYZ aRR [(15,K5),(17,K0),(37,K1),(39,K0),(42,K0),(48,K1),(50,K0),(53,K0),(55,K4),(57,K0),(66,K0),(68,K0),(72,K0),(75,K0),(79,K0),(86,K0),(88,K0),(98,K0),(100,K0),(106,K0),(112,K0),(116,K0),(141,K0),(146,K0),(151,K1),(153,K0),(156,K0),(1000001,[])] [] true (a4P a x0_fc) (GC a x0_fc) hk
def Q239:=bD 239 q239 Q166
theorem aRS:QO Q239:=aH cDF aRR
def YM:List Kd:=[.int .i64, .int .i64, .int .i64, .int .i64, .bool]
def cDG(b:aS)(c:Int)(a:aG):List SV:=[(.one (.ptr 0 0 0)),(.agg [li b.Op,li b.Size,li b.Reg,li b.Ea.Mode,li b.Ea.Reg,li b.Ea.Ext,li b.Sub]),(.one (li c))]
def cDH(b:aS)(c:Int)(a:aG):List Blk:=[.box [.sl 1 0 (ln a.R.D), .sl 2 0 (ln a.R.A),li a.R.Other,li a.R.PC,li a.R.Flags,li a.R.Mask, .lit (.bool a.R.Super), .lit (.bool a.R.Trace), .sl 3 0 (ln a.Bus.Bytes), .sl 4 0 (ln a.Bus.Log), .lit (.bool a.Stop), .lit (.bool a.Halt)], .lst 1 a.R.D, .lst 1 a.R.A, .lst 1 a.Bus.Bytes, .lst 5 a.Bus.Log]
def bMM(N:aS→Int→aG→SV×List Blk)(K:aS→Int→aG→Bool):List SV→List Blk→Option ((SV×List Blk)×Bool)
 |[(.one (.ptr 0 0 0)),(.agg [li c0,li c1,li c2,li c3,li c4,li c5,li c6]),(.one (li c7))],[.box [.sl 1 0 l1, .sl 2 0 l2,li c8,li c9,li c10,li c11, .lit (.bool c12), .lit (.bool c13), .sl 3 0 l3, .sl 4 0 l4, .lit (.bool c14), .lit (.bool c15)], .lst 1 c_1, .lst 1 c_2, .lst 1 c_3, .lst 5 c_4]=>some (N (aS.mk c0 c1 c2 (aF.mk c3 c4 c5) c6) c7 (aG.mk (aJ.mk c_1 c_2 c8 c9 c10 c11 c12 c13) (bM.mk c_3 c_4) c14 c15),dZ l1 (ln c_1)&&(dZ l2 (ln c_2)&&(dZ l3 (ln c_3)&&(dZ l4 (ln c_4)&&(K (aS.mk c0 c1 c2 (aF.mk c3 c4 c5) c6) c7 (aG.mk (aJ.mk c_1 c_2 c8 c9 c10 c11 c12 c13) (bM.mk c_3 c_4) c14 c15))))))
 |_,_=>none
theorem bMN{N:aS→Int→aG→SV×List Blk}{K:aS→Int→aG→Bool}{f:Nat}(h: ∀(b:aS)(c:Int)(a:aG),K b c a=true→dQ R f (cDG b c a) (cDH b c a)=some (N b c a)):cP f (bMM N K):=fun args hp r e=>by
 unfold bMM at e;split at e
 ·rename_i c0 c1 c2 c3 c4 c5 c6 c7 l1 l2 c8 c9 c10 c11 c12 c13 l3 l4 c14 c15 c_1 c_2 c_3 c_4;obtain⟨hr,hk⟩:=qp (qi e);obtain⟨d0,hk0⟩:=bI hk;obtain⟨d1,hk1⟩:=bI hk0;obtain⟨d2,hk2⟩:=bI hk1;obtain⟨d3,hk3⟩:=bI hk2;obtain rfl:=of_decide_eq_true d0;obtain rfl:=of_decide_eq_true d1;obtain rfl:=of_decide_eq_true d2;obtain rfl:=of_decide_eq_true d3;rw[←hr];exact h (aS.mk c0 c1 c2 (aF.mk c3 c4 c5) c6) c7 (aG.mk (aJ.mk c_1 c_2 c8 c9 c10 c11 c12 c13) (bM.mk c_3 c_4) c14 c15) hk3
 ·simp at e
section
variable(b:aS)(c:Int)(a:aG)
def aL1:Bool:=(((bDN b)&&((ltI 0 (bX (TY b)))&&((dV [.int .i64] (TY b) 0 0)&&true)))&&true)
def aL2:Bool:=((s1 (0:Int))&&((s1 (0:Int))&&((s1 (0:Int))&&((s1 (0:Int))&&((s1 false)&&true)))))
def D4:bJ:=(bJ.mk b c (bR (TY b) 0 0) (aL.mk 0 0 0 0 false))
def BZ:bJ×aG:=(bMK (D4 b c) {a with R:={a.R with PC:=(aGE (D4 b c) a)}})
def aL3:Bool:=(aO (WX a.R) (bN (BZ b c a).2.Bus true))
end
def a4Q(b:aS)(c:Int)(a:aG):Pt (aG×aL):=(.ok true (.ok ((((aO a.R true)&&true)&&(bC8 a.R))&&true) (.ok ((aL1 b)&&((aL1 b)&&(((s1 c)&&true)&&((fA a true)&&(fK a ((nN b true)&&(aL2&&(eZ (WX a.R) ((fW (WX a.R) true)&&((r1 (TY b))&&((nN b ((s1 c)&&((s1 (bR (TY b) 0 0))&&aL2)))&&true))))))))))) (.ok ((bK8 b)&&true) (.br (bif (bK7 b)then(!a.R.Super)else false) (.ok ((cG a (aK4 8 c (D4 b c) a))&&true) (.ok true (.ok (((aM a true)&&(aM a true))&&true) (.leaf (a,(aK3 8 c (D4 b c) a).ffault))))) (.ok ((cG a (aWO (D4 b c) a))&&true) (.ok ((cG a (bML (D4 b c) {a with R:={a.R with PC:=(aGE (D4 b c) a)}}))&&true) (.ok true (.br (dD (BZ b c a).1.ffault.Vector 0) (.ok true (.ok true (.ok (((aL3 b c a)&&(aL3 b c a))&&true) (.leaf ({(BZ b c a).2 with R:=(WX a.R)},(BZ b c a).1.ffault))))) (.ok true (.ok (((aM (BZ b c a).2 true)&&(aM (BZ b c a).2 true))&&true) (.leaf ((BZ b c a).2,(BZ b c a).1.ffault)))))))))))))
def bED(b:aS)(c:Int)(a:aG):aG×aL:=hid (a4Q b c a).val
def bEE(b:aS)(c:Int)(a:aG):Bool:=hid (a4Q b c a).okv
def b2K(b:aS)(c:Int)(a:aG)(r:aG×aL):SV×List Blk:=((.agg [li r.2.Vector,li r.2.PC,li r.2.Addr,li r.2.Word, .lit (.bool r.2.Write)]),[.box [.sl 1 0 (ln r.1.R.D), .sl 2 0 (ln r.1.R.A),li r.1.R.Other,li r.1.R.PC,li r.1.R.Flags,li r.1.R.Mask, .lit (.bool r.1.R.Super), .lit (.bool r.1.R.Trace), .sl 3 0 (ln r.1.Bus.Bytes), .sl 4 0 (ln r.1.Bus.Log), .lit (.bool r.1.Stop), .lit (.bool r.1.Halt)], .lst 1 r.1.R.D, .lst 1 r.1.R.A, .lst 1 r.1.Bus.Bytes, .lst 5 r.1.Bus.Log])
def q183:=bMM (fun b c a=>b2K b c a (bED b c a)) bEE
theorem cDI:cP 183 q183:=bMN fun b c a hk=>tc bXM aRS [(12,K6),(15,K5),(17,K5),(19,K0),(20,K0),(23,K5),(30,rV),(39,YM),(52,K0),(55,K6),(61,YM)] [] true (a4Q b c a) (b2K b c a) hk
def Q183:=bD 183 q183 Q239
theorem aRT:QO Q183:=aH cDI aRS
section
variable(a:aG)
def NS:aG×aL:=(bED (KJ a).2.1 (KJ a).1.R.PC (KJ a).1)
end
def a4R(a:aG):Pt (aG×aL):=(.ok true (.ok ((cG a (bK6 a))&&true) (.ok true (.br (dD (KJ a).2.2.2.2.Vector 0) (.ok true (.ok (((aM (KJ a).1 true)&&(aM (KJ a).1 true))&&true) (.leaf ((KJ a).1,(KJ a).2.2.2.2)))) (.ok (((cG (KJ a).1 (bEE (KJ a).2.1 (KJ a).1.R.PC (KJ a).1))&&true)&&true) (.ok (((aM (NS a).1 true)&&(aM (NS a).1 true))&&true) (.leaf ((NS a).1,(NS a).2))))))))
def oL(a:aG):aG×aL:=hid (a4R a).val
def bEF(a:aG):Bool:=hid (a4R a).okv
def b2L(a:aG)(r:aG×aL):SV×List Blk:=((.agg [li r.2.Vector,li r.2.PC,li r.2.Addr,li r.2.Word, .lit (.bool r.2.Write)]),[.box [.sl 1 0 (ln r.1.R.D), .sl 2 0 (ln r.1.R.A),li r.1.R.Other,li r.1.R.PC,li r.1.R.Flags,li r.1.R.Mask, .lit (.bool r.1.R.Super), .lit (.bool r.1.R.Trace), .sl 3 0 (ln r.1.Bus.Bytes), .sl 4 0 (ln r.1.Bus.Log), .lit (.bool r.1.Stop), .lit (.bool r.1.Halt)], .lst 1 r.1.R.D, .lst 1 r.1.R.A, .lst 1 r.1.Bus.Bytes, .lst 5 r.1.Bus.Log])
def q120:=aWN (fun a=>b2L a (oL a)) bEF
theorem cDJ:cP 120 q120:=aBW fun a hk=>tc bWM aRT [(15,K0),(17,YM),(19,K5),(24,K0)] [] true (a4R a) (b2L a) hk
def Q120:=bD 120 q120 Q183
theorem aRU:QO Q120:=aH cDJ aRT
def cDK(a:aJ):List SV:=[(.one (.ptr 0 0 0))]
def cDL(a:aJ):List Blk:=[.box [.imm false 1 a.D, .imm false 1 a.A,li a.Other,li a.PC,li a.Flags,li a.Mask, .lit (.bool a.Super), .lit (.bool a.Trace)]]
def bMO(N:aJ→SV×List Blk)(K:aJ→Bool):List SV→List Blk→Option ((SV×List Blk)×Bool)
 |[(.one (.ptr 0 0 0))],[.box [.imm false 1 c0, .imm false 1 c1,li c2,li c3,li c4,li c5, .lit (.bool c6), .lit (.bool c7)]]=>some (N (aJ.mk c0 c1 c2 c3 c4 c5 c6 c7),K (aJ.mk c0 c1 c2 c3 c4 c5 c6 c7))
 |_,_=>none
theorem bMP{N:aJ→SV×List Blk}{K:aJ→Bool}{f:Nat}(h: ∀(a:aJ),K a=true→dQ R f (cDK a) (cDL a)=some (N a)):cP f (bMO N K):=fun _ _ _ e=>by
 unfold bMO at e;split at e
 ·exact yF e (h _)
 ·cases e
def UP(a:aJ):Pt (Int):=(.ok true (.ok ((zA a.Super 256)&&((zA a.Trace 512)&&true)) (.ok true (.leaf (bE (bE (bE a.Flags (dE 32 a.Mask)) (yZ a.Super 256)) (yZ a.Trace 512))))))
def UQ(a:aJ):Int:=hid (UP a).val
def aCI(a:aJ):Bool:=hid (UP a).okv
def a4S(a:aJ)(r:Int):SV×List Blk:=((.one (li r)),[.box [.imm false 1 a.D, .imm false 1 a.A,li a.Other,li a.PC,li a.Flags,li a.Mask, .lit (.bool a.Super), .lit (.bool a.Trace)]])
def q166v1:=bMO (fun a=>a4S a (UQ a)) aCI
theorem bMQ:cP 166 q166v1:=bMP fun a hk=>tc aZP aRU [(6,K0),(10,K0),(16,rV),(22,rV)] [] true (UP a) (a4S a) hk
def Q166v1:=bD 166 q166v1 Q120
theorem YN:QO Q166v1:=aH bMQ aRU
def cDM(a:aL):List SV:=[(.agg [li a.Vector,li a.PC,li a.Addr,li a.Word, .lit (.bool a.Write)])]
def cDN(a:aL):List Blk:=[]
def bEG(N:aL→SV×List Blk)(K:aL→Bool):List SV→List Blk→Option ((SV×List Blk)×Bool)
 |[(.agg [li c0,li c1,li c2,li c3, .lit (.bool c4)])],[]=>some (N (aL.mk c0 c1 c2 c3 c4),K (aL.mk c0 c1 c2 c3 c4))
 |_,_=>none
theorem a4T{N:aL→SV×List Blk}{K:aL→Bool}{f:Nat}(h: ∀(a:aL),K a=true→dQ R f (cDM a) (cDN a)=some (N a)):cP f (bEG N K):=fun _ _ _ e=>by
 unfold bEG at e;split at e
 ·exact yF e (h _)
 ·cases e
def a4U(a:aL):Pt (Bool):=(.ok true (.ok true (.ok true (.ok true (.leaf (bif (eqI a.Vector 2)then true else(eqI a.Vector 3)))))))
def bEH(a:aL):Bool:=hid (a4U a).val
def bEI(a:aL):Bool:=hid (a4U a).okv
def bEJ(a:aL)(r:Bool):SV×List Blk:=((.one (.lit (.bool r))),[])
def q107:=bEG (fun a=>bEJ a (bEH a)) bEI
theorem cDO:cP 100107 q107:=a4T fun a hk=>tz bWD YN [(4,K0),(8,K0)] [] true (a4U a) (bEJ a) hk
def Q107:=bD 100107 q107 Q166v1
theorem aRV:QO Q107:=aH cDO YN
def cDP(a:aG)(b:aL)(p0:Bool)(p1:Bool)(p2:Bool)(p3:Bool):List SV:=[(.agg [.imm p0 1 a.R.D, .imm p1 1 a.R.A,li a.R.Other,li a.R.PC,li a.R.Flags,li a.R.Mask, .lit (.bool a.R.Super), .lit (.bool a.R.Trace), .imm p2 1 a.Bus.Bytes, .imm p3 5 a.Bus.Log, .lit (.bool a.Stop), .lit (.bool a.Halt)]),(.agg [li b.Vector,li b.PC,li b.Addr,li b.Word, .lit (.bool b.Write)])]
def cDQ(a:aG)(b:aL)(p0:Bool)(p1:Bool)(p2:Bool)(p3:Bool):List Blk:=[]
def bMR(N:aG→aL→SV×List Blk)(K:aG→aL→Bool):List SV→List Blk→Option ((SV×List Blk)×Bool)
 |[(.agg [.imm p0 1 c0, .imm p1 1 c1,li c2,li c3,li c4,li c5, .lit (.bool c6), .lit (.bool c7), .imm p2 1 c8, .imm p3 5 c9, .lit (.bool c10), .lit (.bool c11)]),(.agg [li c12,li c13,li c14,li c15, .lit (.bool c16)])],[]=>some (N (aG.mk (aJ.mk c0 c1 c2 c3 c4 c5 c6 c7) (bM.mk c8 c9) c10 c11) (aL.mk c12 c13 c14 c15 c16),K (aG.mk (aJ.mk c0 c1 c2 c3 c4 c5 c6 c7) (bM.mk c8 c9) c10 c11) (aL.mk c12 c13 c14 c15 c16))
 |_,_=>none
theorem bMS{N:aG→aL→SV×List Blk}{K:aG→aL→Bool}{f:Nat}(h: ∀(a:aG)(b:aL)(p0:Bool)(p1:Bool)(p2:Bool)(p3:Bool),K a b=true→dQ R f (cDP a b p0 p1 p2 p3) (cDQ a b p0 p1 p2 p3)=some (N a b)):cP f (bMR N K):=fun _ _ _ e=>by
 unfold bMR at e;split at e
 ·exact yF e (h _ _ _ _ _ _)
 ·cases e
def a4V(a:aG)(b:aL):Pt (Int):=(.ok true (.ok ((zA b.Write 1)&&((zA a.R.Super 2)&&true)) (.ok true (.ok true (.leaf (fB (yZ b.Write 1) (yZ a.R.Super 2)))))))
def bMT(a:aG)(b:aL):Int:=hid (a4V a b).val
def bMU(a:aG)(b:aL):Bool:=hid (a4V a b).okv
def b2M(a:aG)(b:aL)(r:Int):SV×List Blk:=((.one (li r)),[])
def q113:=bMR (fun a b=>b2M a b (bMT a b)) bMU
theorem cDR:cP 100113 q113:=bMS fun a b p0 p1 p2 p3 hk=>tz bWI aRV [(6,rV),(10,rV)] [] true (a4V a b) (b2M a b) hk
def Q113:=bD 100113 q113 Q107
theorem aRW:QO Q113:=aH cDR aRV
def cDS(a:aG)(b:aL):List SV:=[(.agg [.imm false 1 a.R.D, .imm false 1 a.R.A,li a.R.Other,li a.R.PC,li a.R.Flags,li a.R.Mask, .lit (.bool a.R.Super), .lit (.bool a.R.Trace), .imm false 1 a.Bus.Bytes, .imm false 5 a.Bus.Log, .lit (.bool a.Stop), .lit (.bool a.Halt)]),(.agg [li b.Vector,li b.PC,li b.Addr,li b.Word, .lit (.bool b.Write)])]
def cDT(a:aG)(b:aL):List Blk:=[]
def bMV(N:aG→aL→SV×List Blk)(K:aG→aL→Bool):List SV→List Blk→Option ((SV×List Blk)×Bool)
 |[(.agg [.imm false 1 c0, .imm false 1 c1,li c2,li c3,li c4,li c5, .lit (.bool c6), .lit (.bool c7), .imm false 1 c8, .imm false 5 c9, .lit (.bool c10), .lit (.bool c11)]),(.agg [li c12,li c13,li c14,li c15, .lit (.bool c16)])],[]=>some (N (aG.mk (aJ.mk c0 c1 c2 c3 c4 c5 c6 c7) (bM.mk c8 c9) c10 c11) (aL.mk c12 c13 c14 c15 c16),K (aG.mk (aJ.mk c0 c1 c2 c3 c4 c5 c6 c7) (bM.mk c8 c9) c10 c11) (aL.mk c12 c13 c14 c15 c16))
 |_,_=>none
theorem bMW{N:aG→aL→SV×List Blk}{K:aG→aL→Bool}{f:Nat}(h: ∀(a:aG)(b:aL),K a b=true→dQ R f (cDS a b) (cDT a b)=some (N a b)):cP f (bMV N K):=fun _ _ _ e=>by
 unfold bMV at e;split at e
 ·exact yF e (h _ _)
 ·cases e
section
variable(a:aG)(b:aL)
def a4W:Bool:=(((s1 (2:Nat))&&true)&&((((s1 false)&&(r1 a.R.D))&&(((s1 false)&&(r1 a.R.A))&&((s1 a.R.Other)&&((s1 a.R.PC)&&((s1 a.R.Flags)&&((s1 a.R.Mask)&&((s1 a.R.Super)&&((s1 a.R.Trace)&&(((s1 false)&&(r1 a.Bus.Bytes))&&(((s1 false)&&(r1 a.Bus.Log))&&((s1 a.Stop)&&((s1 a.Halt)&&true))))))))))))&&((eP b true)&&((r1 [(aY b.PC),(aY (UQ a.R))])&&true))))
end
def a4X(a:aG)(b:aL):Pt (List Row):=(.ok true (.ok ((((aCI a.R)&&true)&&true)&&((((aCI a.R)&&true)&&true)&&(a4W a b))) (.ok ((bEI b)&&true) (.br (bEH b) (.ok (((bMU a b)&&true)&&true) (.ok true (.ok true (.leaf [(aY b.PC),(aY (UQ a.R)),(aY b.Word),(aY b.Addr),(aY (bMT a b))])))) (.ok true (.ok true (.leaf [(aY b.PC),(aY (UQ a.R))])))))))
def aCJ(a:aG)(b:aL):List Row:=hid (a4X a b).val
def bMX(a:aG)(b:aL):Bool:=hid (a4X a b).okv
def b2N(a:aG)(b:aL)(r:List Row):SV×List Blk:=((.one (.sl 0 0 (ln r))),[.lst 1 r])
def q104:=bMV (fun a b=>b2N a b (aCJ a b)) bMX
theorem cDU:cP 104 q104:=bMW fun a b hk=>tc bWA aRW [(7,K0),(11,YM),(15,K0),(17,K0),(18,K8),(19,YM)] [] true (a4X a b) (b2N a b) hk
def Q104:=bD 104 q104 Q113
theorem aRX:QO Q104:=aH cDU aRW
def UR(a:aJ):Pt (Int):=(.ok true (.ok ((zA a.Super 256)&&((zA a.Trace 512)&&true)) (.ok (((aO a true)&&(aO a true))&&true) (.leaf (bE (bE (bE a.Flags (dE 32 a.Mask)) (yZ a.Super 256)) (yZ a.Trace 512))))))
def aCK(a:aJ):Int:=hid (UR a).val
def aL4(a:aJ):Bool:=hid (UR a).okv
def q166v2:=bEB (fun a=>bEC a (aCK a)) aL4
theorem bMY:cP 166 q166v2:=a4N fun a hk=>tc aZP aRX [(6,K0),(10,K0),(16,rV),(22,rV)] [] true (UR a) (bEC a) hk
def Q166v2:=bD 166 q166v2 Q104
theorem NT:QO Q166v2:=aH bMY aRX
def cDV(b:aL)(a:aG):List SV:=[(.one (.ptr 0 0 0)),(.agg [li b.Vector,li b.PC,li b.Addr,li b.Word, .lit (.bool b.Write)])]
def cDW(b:aL)(a:aG):List Blk:=[.box [.sl 1 0 (ln a.R.D), .sl 2 0 (ln a.R.A),li a.R.Other,li a.R.PC,li a.R.Flags,li a.R.Mask, .lit (.bool a.R.Super), .lit (.bool a.R.Trace), .sl 3 0 (ln a.Bus.Bytes), .sl 4 0 (ln a.Bus.Log), .lit (.bool a.Stop), .lit (.bool a.Halt)], .lst 1 a.R.D, .lst 1 a.R.A, .lst 1 a.Bus.Bytes, .lst 5 a.Bus.Log]
def bMZ(N:aL→aG→SV×List Blk)(K:aL→aG→Bool):List SV→List Blk→Option ((SV×List Blk)×Bool)
 |[(.one (.ptr 0 0 0)),(.agg [li c0,li c1,li c2,li c3, .lit (.bool c4)])],[.box [.sl 1 0 l1, .sl 2 0 l2,li c5,li c6,li c7,li c8, .lit (.bool c9), .lit (.bool c10), .sl 3 0 l3, .sl 4 0 l4, .lit (.bool c11), .lit (.bool c12)], .lst 1 c_1, .lst 1 c_2, .lst 1 c_3, .lst 5 c_4]=>some (N (aL.mk c0 c1 c2 c3 c4) (aG.mk (aJ.mk c_1 c_2 c5 c6 c7 c8 c9 c10) (bM.mk c_3 c_4) c11 c12),dZ l1 (ln c_1)&&(dZ l2 (ln c_2)&&(dZ l3 (ln c_3)&&(dZ l4 (ln c_4)&&(K (aL.mk c0 c1 c2 c3 c4) (aG.mk (aJ.mk c_1 c_2 c5 c6 c7 c8 c9 c10) (bM.mk c_3 c_4) c11 c12))))))
 |_,_=>none
theorem bM0{N:aL→aG→SV×List Blk}{K:aL→aG→Bool}{f:Nat}(h: ∀(b:aL)(a:aG),K b a=true→dQ R f (cDV b a) (cDW b a)=some (N b a)):cP f (bMZ N K):=fun args hp r e=>by
 unfold bMZ at e;split at e
 ·rename_i c0 c1 c2 c3 c4 l1 l2 c5 c6 c7 c8 c9 c10 l3 l4 c11 c12 c_1 c_2 c_3 c_4;obtain⟨hr,hk⟩:=qp (qi e);obtain⟨d0,hk0⟩:=bI hk;obtain⟨d1,hk1⟩:=bI hk0;obtain⟨d2,hk2⟩:=bI hk1;obtain⟨d3,hk3⟩:=bI hk2;obtain rfl:=of_decide_eq_true d0;obtain rfl:=of_decide_eq_true d1;obtain rfl:=of_decide_eq_true d2;obtain rfl:=of_decide_eq_true d3;rw[←hr];exact h (aL.mk c0 c1 c2 c3 c4) (aG.mk (aJ.mk c_1 c_2 c5 c6 c7 c8 c9 c10) (bM.mk c_3 c_4) c11 c12) hk3
 ·simp at e
structure V102_0 where
 mk::
 (b0:aG)
 (b1:aL)
 (s29:List Row)
 (s30:Int)
 (s31:Int)
section
variable(v:V102_0)
def wT:aG×Int×Int:=(g75 (bR v.s29 (0+(iN v.s31)) 0) v.b0)
end
def ID(v:V102_0):Pt (Option V102_0):=(.ok true (.br (ltI v.s31 v.s30) (.ok (((leI 0 v.s31)&&(ltI v.s31 (bX v.s29)))&&((dV [.int .i64] v.s29 (0+(iN v.s31)) 0)&&true)) (.ok ((cG v.b0 (k75 (bR v.s29 (0+(iN v.s31)) 0) v.b0))&&true) (.ok true (.br (dD (wT v).2.2 0) (.ok true (.leaf none)) (.ok true (.ok (((aM (wT v).1 true)&&(aM (wT v).1 ((e1 (ln v.s29))&&true)))&&((e1 (ln v.s29))&&true)) (.leaf (some {v with b0:=(wT v).1,s31:=(bE v.s31 1)})))))))) (.leaf none)))
def US(v:V102_0):St:=⟨[(0,(.one (.ptr 0 0 0))),(3,(.one (.ptr 1 0 0))),(29,(.one (.sl 6 0 (ln v.s29)))),(30,(.one (li v.s30))),(31,(.one (li v.s31)))],[.box [.sl 2 0 (ln v.b0.R.D), .sl 3 0 (ln v.b0.R.A),li v.b0.R.Other,li v.b0.R.PC,li v.b0.R.Flags,li v.b0.R.Mask, .lit (.bool v.b0.R.Super), .lit (.bool v.b0.R.Trace), .sl 4 0 (ln v.b0.Bus.Bytes), .sl 5 0 (ln v.b0.Bus.Log), .lit (.bool v.b0.Stop), .lit (.bool v.b0.Halt)], .box [li v.b1.Vector,li v.b1.PC,li v.b1.Addr,li v.b1.Word, .lit (.bool v.b1.Write)], .lst 1 v.b0.R.D, .lst 1 v.b0.R.A, .lst 1 v.b0.Bus.Bytes, .lst 5 v.b0.Bus.Log, .lst 1 v.s29]⟩
def aCL:St→Option (V102_0×Bool)
 |⟨[(0,(.one (.ptr 0 0 0))),(3,(.one (.ptr 1 0 0))),(29,(.one (.sl 6 0 l6))),(30,(.one (li c13))),(31,(.one (li c14)))],[.box [.sl 2 0 l2, .sl 3 0 l3,li c0,li c1,li c2,li c3, .lit (.bool c4), .lit (.bool c5), .sl 4 0 l4, .sl 5 0 l5, .lit (.bool c6), .lit (.bool c7)], .box [li c8,li c9,li c10,li c11, .lit (.bool c12)], .lst 1 c_2, .lst 1 c_3, .lst 1 c_4, .lst 5 c_5, .lst 1 c_6]⟩=>some ((V102_0.mk (aG.mk (aJ.mk c_2 c_3 c0 c1 c2 c3 c4 c5) (bM.mk c_4 c_5) c6 c7) (aL.mk c8 c9 c10 c11 c12) c_6 c13 c14),dZ l2 (ln c_2)&&(dZ l3 (ln c_3)&&(dZ l4 (ln c_4)&&(dZ l5 (ln c_5)&&(dZ l6 (ln c_6)&&(true))))))
 |_=>none
def aCM:St→Option (Pt Out):=xN Q166v2 [(13,K8),(14,YM),(33,K0),(34,K0),(52,K0)] [] true [] 1 2097152 aIN
theorem bEK(v:V102_0):((aCM (US v)).bind (rW true false 1 [0,3,29,30,31]))=some ((ID v).map (Option.map US)):=by kernel_rfl
theorem bEL(σ:St)(v:V102_0)(h:aCL σ=some (v,true)):σ=US v:=by
 unfold aCL at h;split at h
 ·obtain⟨hr,hk⟩:=qp (qi h);obtain⟨d0,hk0⟩:=bI hk;obtain⟨d1,hk1⟩:=bI hk0;obtain⟨d2,hk2⟩:=bI hk1;obtain⟨d3,hk3⟩:=bI hk2;obtain⟨d4,hk4⟩:=bI hk3;obtain rfl:=of_decide_eq_true d0;obtain rfl:=of_decide_eq_true d1;obtain rfl:=of_decide_eq_true d2;obtain rfl:=of_decide_eq_true d3;obtain rfl:=of_decide_eq_true d4;rw[←hr];rfl
 ·simp at h
theorem bEM:cY (uB true false 1 [0,3,29,30,31] aCM aCL US ID 2097152) (fT R 1 2097152 (.loop [0,3,29,30,31] aIN)):=eE (cZ NT (cI (l:=[]) (by kernel_rfl) trivial)) bEL bEK
def bEN:Lp:=(32,uB true false 1 [0,3,29,30,31] aCM aCL US ID 2097152)::[]
def a4Y(v:V102_0):V102_0:=(hid (dW ID 2097152 v)).getD v
def a4Z(v:V102_0):Bool:=(hid (dW ID 2097152 v)).isSome
section
variable(b:aL)(a:aG)
def NU:aJ:=(aW3 (fB (gI (aCK a.R) 512) 256) a.R)
def aCN:Bool:=((e1 (ln (aCJ a b)))&&true)
def aCO:Bool:=(aO (NU a) (bN a.Bus (aCN b a)))
def lQ:V102_0:=(a4Y (V102_0.mk {a with R:=(NU a),Stop:=false} b (aCJ a b) (bX (aCJ a b)) 0))
def aCP:Bool:=(aM (g75 (bR (lQ b a).s29 (0+(iN (lQ b a).s31)) 0) (lQ b a).b0).1 true)
def IE:bM×Int×Int:=(KI 1 2 (dE 2 (lQ b a).b1.Vector) 0 (lQ b a).b0.Bus)
def aCQ:Bool:=(aO (lQ b a).b0.R (bN (IE b a).1 true))
def aCR:Bool:=(((aCQ b a)&&(aCQ b a))&&true)
end
def a40(b:aL)(a:aG):Pt (aG):=(.ok true (.ok (((((aM a true)&&true)&&(bMX a b))&&true)&&true) (.ok true (.ok (((iH a.R (aL4 a.R))&&((iH a.R (aW4 (fB (gI (aCK a.R) 512) 256) a.R))&&true))&&true) (.ok ((nX (0+(ln (aCJ a b))) (ln (aCJ a b)))&&true) (.ok (((aO (NU a) (bN a.Bus true))&&(aCO b a))&&(aCN b a)) (.ok (aCO b a) (.ok (a4Z (V102_0.mk {a with R:=(NU a),Stop:=false} b (aCJ a b) (bX (aCJ a b)) 0)) (.br (ltI (lQ b a).s31 (lQ b a).s30) (.ok (((aCP b a)&&(aCP b a))&&true) (.leaf {(g75 (bR (lQ b a).s29 (0+(iN (lQ b a).s31)) 0) (lQ b a).b0).1 with Halt:=true})) (.ok (((sF (lQ b a).b0.Bus (H7 1 2 (dE 2 (lQ b a).b1.Vector) 0 (lQ b a).b0.Bus))&&true)&&true) (.ok true (.br (dD (IE b a).2.2 0) (.ok true (.ok (aCR b a) (.leaf {(lQ b a).b0 with Bus:=(IE b a).1,Halt:=true}))) (.ok true (.ok (aCR b a) (.leaf {(lQ b a).b0 with R:={(lQ b a).b0.R with PC:=(IE b a).2.1},Bus:=(IE b a).1})))))))))))))))
def XC(b:aL)(a:aG):aG:=hid (a40 b a).val
def aGI(b:aL)(a:aG):Bool:=hid (a40 b a).okv
def b2O(b:aL)(a:aG)(r:aG):SV×List Blk:=((.tup []),[.box [.sl 1 0 (ln r.R.D), .sl 2 0 (ln r.R.A),li r.R.Other,li r.R.PC,li r.R.Flags,li r.R.Mask, .lit (.bool r.R.Super), .lit (.bool r.R.Trace), .sl 3 0 (ln r.Bus.Bytes), .sl 4 0 (ln r.Bus.Log), .lit (.bool r.Stop), .lit (.bool r.Halt)], .lst 1 r.R.D, .lst 1 r.R.A, .lst 1 r.Bus.Bytes, .lst 5 r.Bus.Log])
def q102:=bMZ (fun b a=>b2O b a (XC b a)) aGI
theorem b2P:fN (fun live x=>cY (nL bEN (lV x)) (fT R 1 2097152 (.loop live x))) F102.body:=(cI (l:=[([0,3,29,30,31],aIN)]) (by kernel_rfl) ⟨fH (n:=32) (by kernel_rfl) fun σ σr t h ho hl=>bEM σ σr t h ho hl,trivial⟩)
theorem cDX:cP 102 q102:=bM0 fun b a hk=>tcl bV8 NT b2P [(13,K8),(14,YM),(33,K0),(34,K0),(52,K0)] [] true (a40 b a) (b2O b a) hk
def Q102:=bD 102 q102 Q166v2
theorem aRY:QO Q102:=aH cDX NT
section
variable(a:aG)
def wU:aG:=(XC (oL a).2 (oL a).1)
def aCS:Bool:=(bif (bif (eqI (oL a).2.Vector 0)then true else(eqI (oL a).2.Vector 5))then true else(geI (oL a).2.Vector 18))
def UT:aG:=(XC (aL.mk 9 (wU a).R.PC 0 0 false) (wU a))
def aCT:Int:=(bif (eqI (oL a).2.Vector 0)then 9 else(oL a).2.Vector)
def UU:aG:=(XC (aL.mk 9 (oL a).1.R.PC 0 0 false) (oL a).1)
end
def a41(a:aG):Pt (aG×Int):=(.ok true (.ok true (.ok ((cG a (bEF a))&&true) (.ok true (.ok true (.br (dD (oL a).2.Vector 0) (.ok ((cG (oL a).1 (aGI (oL a).2 (oL a).1))&&true) (.ok true (.br (bif (bif a.R.Trace then(!(wU a).Halt)else false)then(aCS a)else false) (.ok ((cG (wU a) (aGI (aL.mk 9 (wU a).R.PC 0 0 false) (wU a)))&&true) (.ok true (.ok true (.ok true (.ok (((aM (UT a) true)&&(aM (UT a) true))&&true) (.leaf ((UT a),(aCT a)))))))) (.ok true (.ok (((aM (wU a) true)&&(aM (wU a) true))&&true) (.leaf ((wU a),(oL a).2.Vector))))))) (.ok true (.br (bif (bif a.R.Trace then(!(oL a).1.Halt)else false)then(aCS a)else false) (.ok ((cG (oL a).1 (aGI (aL.mk 9 (oL a).1.R.PC 0 0 false) (oL a).1))&&true) (.ok true (.ok true (.ok true (.ok (((aM (UU a) true)&&(aM (UU a) true))&&true) (.leaf ((UU a),(aCT a)))))))) (.ok true (.ok (((aM (oL a).1 true)&&(aM (oL a).1 true))&&true) (.leaf ((oL a).1,(oL a).2.Vector))))))))))))
def PY(a:aG):aG×Int:=hid (a41 a).val
def a42(a:aG):Bool:=hid (a41 a).okv
def b2Q(a:aG)(r:aG×Int):SV×List Blk:=((.one (li r.2)),[.box [.sl 1 0 (ln r.1.R.D), .sl 2 0 (ln r.1.R.A),li r.1.R.Other,li r.1.R.PC,li r.1.R.Flags,li r.1.R.Mask, .lit (.bool r.1.R.Super), .lit (.bool r.1.R.Trace), .sl 3 0 (ln r.1.Bus.Bytes), .sl 4 0 (ln r.1.Bus.Log), .lit (.bool r.1.Stop), .lit (.bool r.1.Halt)], .lst 1 r.1.R.D, .lst 1 r.1.R.A, .lst 1 r.1.Bus.Bytes, .lst 5 r.1.Bus.Log])
def q118:=aWN (fun a=>b2Q a (PY a)) a42
theorem cDY:cP 118 q118:=aBW fun a hk=>tc bWL aRY [(10,rV),(14,K0),(18,YM),(25,rV),(45,K0)] [] true (a41 a) (b2Q a) hk
def Q118:=bD 118 q118 Q102
theorem aRZ:QO Q118:=aH cDY aRY
section
variable(a:aG)
def aR0:Bool:=((aM (PY (KD a)).1 true)&&true)
end
def T41(a:aG):Pt (aG×Int×Bool):=(.ok true (.ok ((bC6 a)&&true) (.br (!(bC5 a)) (.ok true (.ok true (.ok true (.leaf ((aG.mk (aJ.mk [] [] 0 0 0 0 false false) (bM.mk [] []) false false),0,false))))) (.ok ((k74 a)&&true) (.ok ((cG (KD a) (a42 (KD a)))&&true) (.ok true (.ok ((aM (PY (KD a)).1 true)&&(aR0 a)) (.ok (aR0 a) (.leaf ((PY (KD a)).1,(PY (KD a)).2,true))))))))))
def g41(a:aG):aG×Int×Bool:=hid (T41 a).val
def k41(a:aG):Bool:=hid (T41 a).okv
def n41(a:aG)(r:aG×Int×Bool):SV×List Blk:=((.tup [(.agg [.imm true 1 r.1.R.D, .imm true 1 r.1.R.A,li r.1.R.Other,li r.1.R.PC,li r.1.R.Flags,li r.1.R.Mask, .lit (.bool r.1.R.Super), .lit (.bool r.1.R.Trace), .imm true 1 r.1.Bus.Bytes, .imm true 5 r.1.Bus.Log, .lit (.bool r.1.Stop), .lit (.bool r.1.Halt)]),(.one (li r.2.1)),(.one (.lit (.bool r.2.2)))]),[])
def q41:=TL (fun a=>n41 a (g41 a)) k41
theorem t41:cP 100041 q41:=BU fun a hk=>tz b7O aRZ [(7,K8),(11,K8),(14,K8)] [] true (T41 a) (n41 a) hk
def Q41:=bD 100041 q41 Q118
theorem aL5:QO Q41:=aH t41 aRZ
structure V206_0 where
 mk::
 (s0:List Row)
 (s5:List Row)
 (s6:Int)
 (s7:Int)
def NV(v:V206_0):Pt (Option V206_0):=(.ok true (.br (ltI v.s7 v.s6) (.ok ((iG [.int .i64] v.s5 v.s7)&&true) (.ok ((k77 (bR v.s5 (iN v.s7) 0))&&true) (.br (!(g77 (bR v.s5 (iN v.s7) 0))) (.ok true (.leaf none)) (.ok true (.ok true (.leaf (some {v with s7:=(bE v.s7 1)}))))))) (.leaf none)))
def UV(v:V206_0):St:=⟨[(0,(.one (.imm true 1 v.s0))),(5,(.one (.imm true 1 v.s5))),(6,(.one (li v.s6))),(7,(.one (li v.s7)))],[]⟩
def aCU:St→Option (V206_0×Bool)
 |⟨[(0,(.one (.imm true 1 c0))),(5,(.one (.imm true 1 c1))),(6,(.one (li c2))),(7,(.one (li c3)))],[]⟩=>some ((V206_0.mk c0 c1 c2 c3),true)
 |_=>none
def aCV:St→Option (Pt Out):=xN Q41 [(9,K0),(10,K0)] [] true [] 0 2097152 aIX
theorem bEO(v:V206_0):((aCV (UV v)).bind (rW true false 0 [0,5,6,7]))=some ((NV v).map (Option.map UV)):=by kernel_rfl
theorem bEP(σ:St)(v:V206_0)(h:aCU σ=some (v,true)):σ=UV v:=by
 unfold aCU at h;split at h
 ·obtain⟨hr,hk⟩:=qp (qi h);rw[←hr];rfl
 ·simp at h
theorem bEQ:cY (uB true false 0 [0,5,6,7] aCV aCU UV NV 2097152) (fT R 0 2097152 (.loop [0,5,6,7] aIX)):=eE (cZ aL5 (cI (l:=[]) (by kernel_rfl) trivial)) bEP bEO
def bER:Lp:=(8,uB true false 0 [0,5,6,7] aCV aCU UV NV 2097152)::[]
def UW(v:V206_0):V206_0:=(hid (dW NV 2097152 v)).getD v
def aL6(v:V206_0):Bool:=(hid (dW NV 2097152 v)).isSome
section
variable(a:List Row)
def aCW:V206_0:=(UW (V206_0.mk a a (bX a) 0))
end
def a43(a:List Row):Pt (Bool):=(.ok true (.ok true (.ok true (.ok true (.ok (aL6 (V206_0.mk a a (bX a) 0)) (.br (ltI (aCW a).s7 (aCW a).s6) (.ok true (.ok true (.leaf false))) (.ok true (.ok true (.ok true (.leaf (eqI (bX (aCW a).s0) 4)))))))))))
def a44(a:List Row):Bool:=hid (a43 a).val
def bES(a:List Row):Bool:=hid (a43 a).okv
def q206:=aGB (fun a=>J8 a (a44 a)) bES
theorem b2S:fN (fun live x=>cY (nL bER (lV x)) (fT R 0 2097152 (.loop live x))) F206.body:=(cI (l:=[([0,5,6,7],aIX)]) (by kernel_rfl) ⟨fH (n:=8) (by kernel_rfl) fun σ σr t h ho hl=>bEQ σ σr t h ho hl,trivial⟩)
theorem cD0:cP 100206 q206:=M9 fun a hk=>tzl bX4 aL5 b2S [(9,K0),(10,K0)] [] true (a43 a) (J8 a) hk
def Q206:=bD 100206 q206 Q41
theorem aR1:QO Q206:=aH cD0 aL5
def a45(a:Int):Pt (Bool):=(.ok true (.ok ((yV a 0 31)&&true) (.ok true (.ok true (.leaf (wG a 0 31))))))
def bM1(a:Int):Bool:=hid (a45 a).val
def bM2(a:Int):Bool:=hid (a45 a).okv
def q207:=CM (fun a=>j9 a (bM1 a)) bM2
theorem cD1:cP 100207 q207:=hH fun a hk=>tz bX5 aR1 [] [] true (a45 a) (j9 a) hk
def Q207:=bD 100207 q207 Q206
theorem aR2:QO Q207:=aH cD1 aR1
section
variable(a:aJ)
def aL7:Bool:=(bif (a44 a.D)then(a44 a.A)else false)
def aL8:Bool:=(bif (aL7 a)then(g77 a.Other)else false)
def aL9:Bool:=(bif (aL8 a)then(g77 a.PC)else false)
def aMA:Bool:=(bif (aL9 a)then(bM1 a.Flags)else false)
end
def a46(a:aJ):Pt (Bool):=(.ok true (.ok ((bES a.D)&&((((bES a.A)&&true)||(!(a44 a.D)))&&((((k77 a.Other)&&true)||(!(aL7 a)))&&((((k77 a.PC)&&true)||(!(aL8 a)))&&((((bM2 a.Flags)&&true)||(!(aL9 a)))&&((((yV a.Mask 0 7)&&true)||(!(aMA a)))&&true)))))) (.ok true (.ok true (.leaf (bif (aMA a)then(wG a.Mask 0 7)else false))))))
def bET(a:aJ):Bool:=hid (a46 a).val
def bM3(a:aJ):Bool:=hid (a46 a).okv
def q154:=bCK (fun a=>bCM a (bET a)) bM3
theorem cD2:cP 100154 q154:=a1W fun a hk=>tz bWX aR2 [(4,K1),(8,K1),(13,K0),(18,K0),(23,K0),(28,K0)] [] true (a46 a) (bCM a) hk
def Q154:=bD 100154 q154 Q207
theorem aR3:QO Q154:=aH cD2 aR2
def aMB(a:Int):Pt (Int):=(.ok true (.ok ((leI 0 (yE .u64 (dE 8 a)))&&true) (.ok true (.ok true (.leaf (m9 1 (yE .u64 (dE 8 a))))))))
def xR(a:Int):Int:=hid (aMB a).val
def KL(a:Int):Bool:=hid (aMB a).okv
def q248:=CM (fun a=>xQ a (xR a)) KL
theorem cD3:cP 100248 q248:=hH fun a hk=>tz bY8 aR3 [] [] true (aMB a) (xQ a) hk
def Q248:=bD 100248 q248 Q154
theorem aR4:QO Q248:=aH cD3 aR3
def a47(a:Int)(b:Int):Pt (Bool):=(.ok true (.ok ((aV6 a)&&((((KL a)&&((yV b 0 (cM (xR a) 1))&&true))||(!(aF5 a)))&&true)) (.ok true (.ok true (.leaf (bif (aF5 a)then(wG b 0 (cM (xR a) 1))else false))))))
def a48(a:Int)(b:Int):Bool:=hid (a47 a b).val
def a49(a:Int)(b:Int):Bool:=hid (a47 a b).okv
def q246:=KC (fun a b=>WW a b (a48 a b)) a49
theorem cD4:cP 100246 q246:=uG fun a b hk=>tz bY6 aR4 [] [] true (a47 a b) (WW a b) hk
def Q246:=bD 100246 q246 Q248
theorem aR5:QO Q246:=aH cD4 aR4
def a5A(a:Int):Pt (Bool):=(.ok true (.ok ((yV a 0 65535)&&true) (.ok true (.ok true (.leaf (wG a 0 65535))))))
def bEU(a:Int):Bool:=hid (a5A a).val
def bEV(a:Int):Bool:=hid (a5A a).okv
def q180:=CM (fun a=>j9 a (bEU a)) bEV
theorem cD5:cP 100180 q180:=hH fun a hk=>tz bXJ aR5 [] [] true (a5A a) (j9 a) hk
def Q180:=bD 100180 q180 Q246
theorem aR6:QO Q180:=aH cD5 aR5
section
variable(a:aE)
def aMC:Bool:=(bif (!(wG a.Kind 1 3))then true else(!(a48 a.Size a.Value)))
def aMD:Bool:=(bif (aMC a)then true else(!(bEU a.Addr)))
end
def a5B(a:aE):Pt (Bool):=(.ok true (.ok ((yV a.Kind 1 3)&&((((a49 a.Size a.Value)&&true)||(!(wG a.Kind 1 3)))&&((((bEV a.Addr)&&true)||(aMC a))&&((((yV a.Code 0 3)&&true)||(aMD a))&&true)))) (.br (bif (aMD a)then true else(!(wG a.Code 0 3))) (.ok true (.ok true (.ok true (.leaf false)))) (.ok true (.ok true (.ok true (.leaf (bif (dD a.Kind 3)then true else(dD a.Code 0)))))))))
def bM4(a:aE):Bool:=hid (a5B a).val
def bM5(a:aE):Bool:=hid (a5B a).okv
def q208:=a11 (fun a=>aWI a (bM4 a)) bM5
theorem cD6:cP 100208 q208:=aKH fun a hk=>tz bX6 aR6 [(4,K0),(9,K0),(11,K0),(17,K0),(23,K0),(28,K0),(32,K0)] [] true (a5B a) (aWI a) hk
def Q208:=bD 100208 q208 Q180
theorem QD:QO Q208:=aH cD6 aR6
structure V164v1_0 where
 mk::
 (s5:List Row)
 (s6:Int)
 (s7:Int)
def AI(v:V164v1_0):Pt (Option V164v1_0):=(.ok true (.br (ltI v.s7 v.s6) (.ok ((iG [.int .i64] v.s5 v.s7)&&true) (.ok ((yV (bR v.s5 (iN v.s7) 0) 0 255)&&true) (.br (!(wG (bR v.s5 (iN v.s7) 0) 0 255)) (.ok true (.leaf none)) (.ok true (.ok true (.leaf (some {v with s7:=(bE v.s7 1)}))))))) (.leaf none)))
def D5(v:V164v1_0):St:=⟨[(5,(.one (.imm true 1 v.s5))),(6,(.one (li v.s6))),(7,(.one (li v.s7)))],[]⟩
def KM:St→Option (V164v1_0×Bool)
 |⟨[(5,(.one (.imm true 1 c0))),(6,(.one (li c1))),(7,(.one (li c2)))],[]⟩=>some ((V164v1_0.mk c0 c1 c2),true)
 |_=>none
def NW:St→Option (Pt Out):=xN Q208 [(9,K0),(10,K0)] [] true [] 0 2097152 MN
theorem aW9(v:V164v1_0):((NW (D5 v)).bind (rW true false 0 [5,6,7]))=some ((AI v).map (Option.map D5)):=by kernel_rfl
theorem aXA(σ:St)(v:V164v1_0)(h:KM σ=some (v,true)):σ=D5 v:=by
 unfold KM at h;split at h
 ·obtain⟨hr,hk⟩:=qp (qi h);rw[←hr];rfl
 ·simp at h
theorem aXB:cY (uB true false 0 [5,6,7] NW KM D5 AI 2097152) (fT R 0 2097152 (.loop [5,6,7] MN)):=eE (cZ QD (cI (l:=[]) (by kernel_rfl) trivial)) aXA aW9
def aXC:Lp:=(8,uB true false 0 [5,6,7] NW KM D5 AI 2097152)::[]
def KN(v:V164v1_0):V164v1_0:=(hid (dW AI 2097152 v)).getD v
def UX(v:V164v1_0):Bool:=(hid (dW AI 2097152 v)).isSome
section
variable(a:List Row)
def UY:V164v1_0:=(KN (V164v1_0.mk a (bX a) 0))
end
def aCX(a:List Row):Pt (Bool):=(.ok true (.ok true (.ok true (.ok true (.ok (UX (V164v1_0.mk a (bX a) 0)) (.br (ltI (UY a).s7 (UY a).s6) (.ok true (.ok true (.leaf false))) (.ok true (.ok true (.ok true (.leaf true))))))))))
def aCY(a:List Row):Bool:=hid (aCX a).val
def aCZ(a:List Row):Bool:=hid (aCX a).okv
def q164v1:=aGB (fun a=>J8 a (aCY a)) aCZ
theorem bEW:fN (fun live x=>cY (nL aXC (lV x)) (fT R 0 2097152 (.loop live x))) F164.body:=(cI (l:=[([5,6,7],MN)]) (by kernel_rfl) ⟨fH (n:=8) (by kernel_rfl) fun σ σr t h ho hl=>aXB σ σr t h ho hl,trivial⟩)
theorem bM6:cP 100164 q164v1:=M9 fun a hk=>tzl bHQ QD bEW [(9,K0),(10,K0)] [] true (aCX a) (J8 a) hk
def Q164v1:=bD 100164 q164v1 Q208
theorem YO:QO Q164v1:=aH bM6 QD
structure V155_0 where
 mk::
 (b0:bM)
 (s6:List Row)
 (s7:Int)
 (s8:Int)
def NX(v:V155_0):Pt (Option V155_0):=(.ok true (.br (ltI v.s8 v.s7) (.ok ((iG [.int .i64, .int .i64, .int .i64, .int .i64, .int .i64] v.s6 v.s8)&&true) (.ok ((bM5 (aE.at v.s6 (iN v.s8) 0))&&true) (.br (!(bM4 (aE.at v.s6 (iN v.s8) 0))) (.ok true (.leaf none)) (.ok true (.ok true (.leaf (some {v with s8:=(bE v.s8 1)}))))))) (.leaf none)))
def UZ(v:V155_0):St:=⟨[(1,(.one (.ptr 0 0 0))),(6,(.one (.imm true 5 v.s6))),(7,(.one (li v.s7))),(8,(.one (li v.s8)))],[.box [.imm true 1 v.b0.Bytes, .imm true 5 v.b0.Log]]⟩
def aC0:St→Option (V155_0×Bool)
 |⟨[(1,(.one (.ptr 0 0 0))),(6,(.one (.imm true 5 c2))),(7,(.one (li c3))),(8,(.one (li c4)))],[.box [.imm true 1 c0, .imm true 5 c1]]⟩=>some ((V155_0.mk (bM.mk c0 c1) c2 c3 c4),true)
 |_=>none
def aC1:St→Option (Pt Out):=xN Q208 [(6,K10),(10,K9),(11,K9),(12,K9),(17,K1),(22,K1),(27,K10)] [] true [] 0 2097152 aIS
theorem bEX(v:V155_0):((aC1 (UZ v)).bind (rW true false 0 [1,6,7,8]))=some ((NX v).map (Option.map UZ)):=by kernel_rfl
theorem bEY(σ:St)(v:V155_0)(h:aC0 σ=some (v,true)):σ=UZ v:=by
 unfold aC0 at h;split at h
 ·obtain⟨hr,hk⟩:=qp (qi h);rw[←hr];rfl
 ·simp at h
theorem bEZ:cY (uB true false 0 [1,6,7,8] aC1 aC0 UZ NX 2097152) (fT R 0 2097152 (.loop [1,6,7,8] aIS)):=eE (cZ QD (cI (l:=[]) (by kernel_rfl) trivial)) bEY bEX
def bE0:Lp:=(9,uB true false 0 [1,6,7,8] aC1 aC0 UZ NX 2097152)::[]
def VA(v:V155_0):V155_0:=(hid (dW NX 2097152 v)).getD v
def aME(v:V155_0):Bool:=(hid (dW NX 2097152 v)).isSome
section
variable(a:bM)
def D6:V155_0:=(VA (V155_0.mk a a.Log (bX a.Log) 0))
end
def a5C(a:bM):Pt (Bool):=(.ok true (.ok true (.ok true (.ok true (.ok (aME (V155_0.mk a a.Log (bX a.Log) 0)) (.br (ltI (D6 a).s8 (D6 a).s7) (.ok true (.ok true (.leaf false))) (.ok ((((aCZ (D6 a).b0.Bytes)&&true)||(!(eqI (bX (D6 a).b0.Bytes) 512)))&&true) (.ok true (.ok true (.leaf (bif (bif (eqI (bX (D6 a).b0.Bytes) 512)then(aCY (D6 a).b0.Bytes)else false)then(leI (bX (D6 a).b0.Log) 400)else false)))))))))))
def bM7(a:bM):Bool:=hid (a5C a).val
def bM8(a:bM):Bool:=hid (a5C a).okv
def q155:=a17 (fun a=>bC4 a (bM7 a)) bM8
theorem b2T:fN (fun live x=>cY (nL bE0 (lV x)) (fT R 0 2097152 (.loop live x))) F155.body:=(cI (l:=[([1,6,7,8],aIS)]) (by kernel_rfl) ⟨fH (n:=9) (by kernel_rfl) fun σ σr t h ho hl=>bEZ σ σr t h ho hl,trivial⟩)
theorem cD7:cP 100155 q155:=aKL fun a hk=>tzl bWY YO b2T [(6,K10),(10,K9),(11,K9),(12,K9),(17,K1),(22,K1),(27,K10)] [] true (a5C a) (bC4 a) hk
def Q155:=bD 100155 q155 Q164v1
theorem aR7:QO Q155:=aH cD7 YO
def T76(a:aG):Pt (Bool):=(.ok true (.ok ((bM3 a.R)&&((((bM8 a.Bus)&&true)||(!(bET a.R)))&&true)) (.ok true (.ok true (.leaf (bif (bif (bET a.R)then(bM7 a.Bus)else false)then(!(bif a.Stop then a.Halt else false))else false))))))
def g76(a:aG):Bool:=hid (T76 a).val
def k76(a:aG):Bool:=hid (T76 a).okv
def q76:=TL (fun a=>n30 a (g76 a)) k76
theorem t76:cP 100076 q76:=BU fun a hk=>tz b7Y aR7 [(4,K6),(8,K7),(13,rV),(16,rV)] [] true (T76 a) (n30 a) hk
def Q76:=bD 100076 q76 Q155
theorem a5D:QO Q76:=aH t76 aR7
def a5E(a:aJ):Pt (aJ):=(.ok true (.ok (((nX (qY (0+(ln a.D)) 8) 140737488355328)&&(nX (0+(ln a.D)) 140737488355328))&&true) (.ok (((nX (qY (0+(ln a.A)) 8) 140737488355328)&&(nX (0+(ln a.A)) 140737488355328))&&true) (.ok true (.ok ((aO a true)&&((aO a true)&&true)) (.leaf a))))))
def iJ(a:aJ):aJ:=hid (a5E a).val
def VB(a:aJ):Bool:=hid (a5E a).okv
def q161:=a2B (fun a=>bC9 a (iJ a)) VB
theorem cD8:cP 161 q161:=aKO fun a p0 p1 hk=>tc bW4 a5D [(5,K1),(10,K1),(13,K6)] [] true (a5E a) (bC9 a) hk
def Q161:=bD 161 q161 Q76
theorem aR8:QO Q161:=aH cD8 a5D
def cD9(a:bM)(p0:Bool)(p1:Bool):List SV:=[(.agg [.imm p0 1 a.Bytes, .imm p1 5 a.Log])]
def cEA(a:bM)(p0:Bool)(p1:Bool):List Blk:=[]
def bM9(N:bM→SV×List Blk)(K:bM→Bool):List SV→List Blk→Option ((SV×List Blk)×Bool)
 |[(.agg [.imm p0 1 c0, .imm p1 5 c1])],[]=>some (N (bM.mk c0 c1),K (bM.mk c0 c1))
 |_,_=>none
theorem bNA{N:bM→SV×List Blk}{K:bM→Bool}{f:Nat}(h: ∀(a:bM)(p0:Bool)(p1:Bool),K a=true→dQ R f (cD9 a p0 p1) (cEA a p0 p1)=some (N a)):cP f (bM9 N K):=fun _ _ _ e=>by
 unfold bM9 at e;split at e
 ·exact yF e (h _ _ _)
 ·cases e
section
variable(a:bM)
def eT:Bool:=((((nX (qY (0+(ln a.Bytes)) 8) 140737488355328)&&(nX (0+(ln a.Bytes)) 140737488355328))&&(((nX (qY (0+(ln a.Log)) 40) 140737488355328)&&(nX (0+(ln a.Log)) 140737488355328))&&true))&&(((bN a true)&&(bN a true))&&true))
def a5F:Bool:=(((eT a)&&(((eT a)&&(((eT a)&&(((eT a)&&(((eT a)&&(((eT a)&&((eT a)&&((dO a true)&&(dI a true))))&&((dO a true)&&(dI a true))))&&((dO a true)&&(dI a true))))&&((dO a true)&&(dI a true))))&&((dO a true)&&(dI a true))))&&((dO a true)&&(dI a true))))&&((dO a true)&&(dI a true)))
def a5G:Bool:=(((eT a)&&(((eT a)&&(((eT a)&&(((eT a)&&(((eT a)&&(((eT a)&&(((eT a)&&(a5F a))&&((dO a true)&&(dI a true))))&&((dO a true)&&(dI a true))))&&((dO a true)&&(dI a true))))&&((dO a true)&&(dI a true))))&&((dO a true)&&(dI a true))))&&((dO a true)&&(dI a true))))&&((dO a true)&&(dI a true)))
def a5H:Bool:=(((eT a)&&(((eT a)&&(((eT a)&&(((eT a)&&(((eT a)&&(((eT a)&&(((eT a)&&(a5G a))&&((dO a true)&&(dI a true))))&&((dO a true)&&(dI a true))))&&((dO a true)&&(dI a true))))&&((dO a true)&&(dI a true))))&&((dO a true)&&(dI a true))))&&((dO a true)&&(dI a true))))&&((dO a true)&&(dI a true)))
def a5I:Bool:=(((eT a)&&(((eT a)&&(((eT a)&&(((eT a)&&(((eT a)&&(((eT a)&&(((eT a)&&(a5H a))&&((dO a true)&&(dI a true))))&&((dO a true)&&(dI a true))))&&((dO a true)&&(dI a true))))&&((dO a true)&&(dI a true))))&&((dO a true)&&(dI a true))))&&((dO a true)&&(dI a true))))&&((dO a true)&&(dI a true)))
def a5J:Bool:=(((eT a)&&(((eT a)&&(((eT a)&&(((eT a)&&(((eT a)&&(((eT a)&&(((eT a)&&(a5I a))&&((dO a true)&&(dI a true))))&&((dO a true)&&(dI a true))))&&((dO a true)&&(dI a true))))&&((dO a true)&&(dI a true))))&&((dO a true)&&(dI a true))))&&((dO a true)&&(dI a true))))&&((dO a true)&&(dI a true)))
end
def a5K(a:bM):Pt (bM):=(.ok true (.ok ((eT a)&&(((eT a)&&(((eT a)&&(a5J a))&&((dO a true)&&(dI a true))))&&((dO a true)&&(dI a true)))) (.ok ((bN a true)&&((bN a true)&&true)) (.leaf a))))
def bE1(a:bM):bM:=hid (a5K a).val
def bNB(a:bM):Bool:=hid (a5K a).okv
def q184:=bM9 (fun a=>bDB a (bE1 a)) bNB
theorem cEB:cP 184 q184:=bNA fun a p0 p1 hk=>tc bXN aR8 [(5,K1),(9,K10)] [] true (a5K a) (bDB a) hk
def Q184:=bD 184 q184 Q161
theorem aR9:QO Q184:=aH cEB aR8
def cEC(a:aG)(p0:Bool)(p1:Bool)(p2:Bool)(p3:Bool):List SV:=[(.agg [.imm p0 1 a.R.D, .imm p1 1 a.R.A,li a.R.Other,li a.R.PC,li a.R.Flags,li a.R.Mask, .lit (.bool a.R.Super), .lit (.bool a.R.Trace), .imm p2 1 a.Bus.Bytes, .imm p3 5 a.Bus.Log, .lit (.bool a.Stop), .lit (.bool a.Halt)])]
def cED(a:aG)(p0:Bool)(p1:Bool)(p2:Bool)(p3:Bool):List Blk:=[]
def bE2(N:aG→SV×List Blk)(K:aG→Bool):List SV→List Blk→Option ((SV×List Blk)×Bool)
 |[(.agg [.imm p0 1 c0, .imm p1 1 c1,li c2,li c3,li c4,li c5, .lit (.bool c6), .lit (.bool c7), .imm p2 1 c8, .imm p3 5 c9, .lit (.bool c10), .lit (.bool c11)])],[]=>some (N (aG.mk (aJ.mk c0 c1 c2 c3 c4 c5 c6 c7) (bM.mk c8 c9) c10 c11),K (aG.mk (aJ.mk c0 c1 c2 c3 c4 c5 c6 c7) (bM.mk c8 c9) c10 c11))
 |_,_=>none
theorem a5L{N:aG→SV×List Blk}{K:aG→Bool}{f:Nat}(h: ∀(a:aG)(p0:Bool)(p1:Bool)(p2:Bool)(p3:Bool),K a=true→dQ R f (cEC a p0 p1 p2 p3) (cED a p0 p1 p2 p3)=some (N a)):cP f (bE2 N K):=fun _ _ _ e=>by
 unfold bE2 at e;split at e
 ·exact yF e (h _ _ _ _ _)
 ·cases e
section
variable(a:aG)
def aMF:Bool:=(aO (iJ a.R) (bN (bE1 a.Bus) true))
end
def a5M(a:aG):Pt (aG):=(.ok true (.ok ((VB a.R)&&true) (.ok ((bNB a.Bus)&&true) (.ok true (.ok ((aMF a)&&((aMF a)&&true)) (.leaf {a with R:=(iJ a.R),Bus:=(bE1 a.Bus)}))))))
def NY(a:aG):aG:=hid (a5M a).val
def a5N(a:aG):Bool:=hid (a5M a).okv
def q122:=bE2 (fun a=>n74 a (NY a)) a5N
theorem cEE:cP 122 q122:=a5L fun a p0 p1 p2 p3 hk=>tc bWO aR9 [(4,K6),(8,K7),(11,K8)] [] true (a5M a) (n74 a) hk
def Q122:=bD 122 q122 Q184
theorem aSA:QO Q122:=aH cEE aR9
def T78(a:aG):Pt (aQ):=(.ok true (.ok ((a5N a)&&true) (.ok true (.ok (((aM (NY a) true)&&(aM (NY a) true))&&true) (.leaf (aQ.mk (NY a).R (NY a).Bus (NY a).Stop (aL.mk 0 0 0 0 false)))))))
def eM(a:aG):aQ:=hid (T78 a).val
def k78(a:aG):Bool:=hid (T78 a).okv
def n78(a:aG)(r:aQ):SV×List Blk:=((.one (.ptr 0 0 0)),[.box [.sl 1 0 (ln r.fr.D), .sl 2 0 (ln r.fr.A),li r.fr.Other,li r.fr.PC,li r.fr.Flags,li r.fr.Mask, .lit (.bool r.fr.Super), .lit (.bool r.fr.Trace), .sl 3 0 (ln r.fbus.Bytes), .sl 4 0 (ln r.fbus.Log), .lit (.bool r.fstop),li r.ffault.Vector,li r.ffault.PC,li r.ffault.Addr,li r.ffault.Word, .lit (.bool r.ffault.Write)], .lst 1 r.fr.D, .lst 1 r.fr.A, .lst 1 r.fbus.Bytes, .lst 5 r.fbus.Log])
def q78:=bE2 (fun a=>n78 a (eM a)) k78
theorem t78:cP 78 q78:=a5L fun a p0 p1 p2 p3 hk=>tc b70 aSA [(4,K8),(7,K6),(9,K7),(11,rV)] [] true (T78 a) (n78 a) hk
def Q78:=bD 78 q78 Q122
theorem a5O:QO Q78:=aH t78 aSA
def a5P(a:Int):Pt (Int):=(.ok true (.ok true (.ok (((yV a 448 495)&&true)||(geI a 512)) (.br (bif (geI a 512)then(geI a 512)else(wG a 448 495)) (.ok true (.ok true (.ok true (.leaf 1)))) (.ok ((yV a 384 447)&&true) (.br (wG a 384 447) (.ok true (.ok true (.ok true (.leaf 3)))) (.ok true (.ok true (.ok true (.leaf 0))))))))))
def aMG(a:Int):Int:=hid (a5P a).val
def aXD(a:Int):Bool:=hid (a5P a).okv
def q231:=CM (fun a=>xQ a (aMG a)) aXD
theorem cEF:cP 100231 q231:=hH fun a hk=>tz bYR a5O [] [] true (a5P a) (xQ a) hk
def Q231:=bD 100231 q231 Q78
theorem aSB:QO Q231:=aH cEF a5O
section
variable(b:Int)(c:Int)
def aMH:Int:=(aMG (cM (bE c b) 1))
end
def a5Q(a:Int)(b:Int)(c:Int):Pt (Int):=(.ok true (.ok true (.ok true (.br (bif (eqI b 2)then(eqI (bF c 1) 1)else false) (.ok true (.ok true (.ok true (.leaf 2)))) (.ok ((aXD c)&&((((aXD (cM (bE c b) 1))&&true)||(eqI (aMG c) 1))&&true)) (.br (bif (eqI (aMG c) 1)then true else(eqI (aMH b c) 1)) (.ok true (.ok true (.ok true (.leaf 1)))) (.ok ((((aXD c)&&((((aXD (cM (bE c b) 1))&&true)||(eqI (aMG c) 3))&&true))||(!(eqI a 2)))&&true) (.br (bif (eqI a 2)then(bif (eqI (aMG c) 3)then true else(eqI (aMH b c) 3))else false) (.ok true (.ok true (.ok true (.leaf 3)))) (.ok true (.ok true (.ok true (.leaf 0))))))))))))
def aC2(a:Int)(b:Int)(c:Int):Int:=hid (a5Q a b c).val
def bNC(a:Int)(b:Int)(c:Int):Bool:=hid (a5Q a b c).okv
def q181:=DS5 (fun a b c=>aGD a b c (aC2 a b c)) bNC
theorem cEG:cP 100181 q181:=DI fun a b c hk=>tz bXK aSB [] [] true (a5Q a b c) (aGD a b c) hk
def Q181:=bD 100181 q181 Q231
theorem aC3:QO Q181:=aH cEG aSB
structure V209_0 where
 mk::
 (b0:bM)
 (s1:Int)
 (s2:Int)
 (s3:Int)
 (s4:Int)
 (s12:Int)
 (s13:Int)
 (s14:Int)
section
variable(v:V209_0)
def sN:Int:=(yE .u64 (dE 8 (cM (cM v.s2 1) v.s14)))
def sO:Bool:=((leI 0 (bE v.s3 v.s14))&&(ltI (bE v.s3 v.s14) (bX v.b0.Bytes)))
def sP:List Row:=(List.set v.b0.Bytes (0+(iN (bE v.s3 v.s14))) (aY (bF (fF v.s4 (sN v)) 255)))
def sQ:Bool:=((dZ (ln v.b0.Bytes) (ln (sP v)))&&((e1 (ln v.b0.Log))&&true))
end
def sR(v:V209_0):Pt (Option V209_0):=(.ok true (.br (ltI v.s14 v.s2) (.ok true (.br (eqI v.s1 2) (.ok ((leI 0 (sN v))&&((sO v)&&(((blt (0+(iN (bE v.s3 v.s14))) (ln v.b0.Bytes))&&(j7 (j8 v.b0.Bytes (0+(iN (bE v.s3 v.s14)))) 1))&&true))) (.ok true (.ok ((((bN v.b0 true)&&(sQ v))&&true)&&((sQ v)&&true)) (.leaf (some {v with b0:={v.b0 with Bytes:=(sP v)},s14:=(bE v.s14 1)}))))) (.ok ((sO v)&&((dV [.int .i64] v.b0.Bytes (0+(iN (bE v.s3 v.s14))) 0)&&true)) (.ok true (.ok (dd (bN v.b0 true) ((bN v.b0 true)&&true)) (.leaf (some {v with s13:=(fB (m9 v.s13 8) (bR v.b0.Bytes (0+(iN (bE v.s3 v.s14))) 0)),s14:=(bE v.s14 1)}))))))) (.leaf none)))
def VC(v:V209_0):St:=⟨[(0,(.one (.ptr 0 0 0))),(1,(.one (li v.s1))),(2,(.one (li v.s2))),(3,(.one (li v.s3))),(4,(.one (li v.s4))),(12,(.one (li v.s12))),(13,(.one (li v.s13))),(14,(.one (li v.s14)))],[.box [.sl 1 0 (ln v.b0.Bytes), .sl 2 0 (ln v.b0.Log)], .lst 1 v.b0.Bytes, .lst 5 v.b0.Log]⟩
def aC4:St→Option (V209_0×Bool)
 |⟨[(0,(.one (.ptr 0 0 0))),(1,(.one (li c0))),(2,(.one (li c1))),(3,(.one (li c2))),(4,(.one (li c3))),(12,(.one (li c4))),(13,(.one (li c5))),(14,(.one (li c6)))],[.box [.sl 1 0 l1, .sl 2 0 l2], .lst 1 c_1, .lst 5 c_2]⟩=>some ((V209_0.mk (bM.mk c_1 c_2) c0 c1 c2 c3 c4 c5 c6),dZ l1 (ln c_1)&&(dZ l2 (ln c_2)&&(true)))
 |_=>none
def aC5:St→Option (Pt Out):=xN Q181 [(34,K1),(47,K0),(53,K1),(57,K0),(58,K0),(63,K10),(78,K10),(1000003,[])] [] true [] 1 2097152 aIY
theorem bE3(v:V209_0):((aC5 (VC v)).bind (rW true true 1 [0,1,2,3,4,12,13,14]))=some ((sR v).map (Option.map VC)):=by kernel_rfl
theorem bE4(σ:St)(v:V209_0)(h:aC4 σ=some (v,true)):σ=VC v:=by
 unfold aC4 at h;split at h
 ·obtain⟨hr,hk⟩:=qp (qi h);obtain⟨d0,hk0⟩:=bI hk;obtain⟨d1,hk1⟩:=bI hk0;obtain rfl:=of_decide_eq_true d0;obtain rfl:=of_decide_eq_true d1;rw[←hr];rfl
 ·simp at h
theorem bE5:cY (uB true true 1 [0,1,2,3,4,12,13,14] aC5 aC4 VC sR 2097152) (fT R 1 2097152 (.loop [0,1,2,3,4,12,13,14] aIY)):=eE (cZ aC3 (cI (l:=[]) (by kernel_rfl) trivial)) bE4 bE3
def bE6:Lp:=(24,uB true true 1 [0,1,2,3,4,12,13,14] aC5 aC4 VC sR 2097152)::[]
def aMI(v:V209_0):V209_0:=(hid (dW sR 2097152 v)).getD v
def aMJ(v:V209_0):Bool:=(hid (dW sR 2097152 v)).isSome
section
variable(b:Int)(c:Int)(d:Int)(o:Int)(a:bM)
def jT:V209_0:=(aMI (V209_0.mk a b c d o (aC2 b c d) (bif (dD b 2)then 0 else o) 0))
def zH:Nat:=(ln (jT b c d o a).b0.Log)
def aC6:Nat:=(ln (jT b c d o a).b0.Bytes)
def VD:List Row:=((jT b c d o a).b0.Log++[(aE.row (aE.mk (jT b c d o a).s1 (jT b c d o a).s2 (jT b c d o a).s3 (jT b c d o a).s13 (jT b c d o a).s12))])
def VE:Bool:=((e1 (aC6 b c d o a))&&((e1 (ln (VD b c d o a)))&&true))
def VF:List Row:=(a.Log++[(aE.row (aE.mk b c d (bif (dD b 2)then 0 else o) (aC2 b c d)))])
def VG:Bool:=((e1 (ln a.Bytes))&&((e1 (ln (VF b c d o a)))&&true))
end
def aMK(b:Int)(c:Int)(d:Int)(o:Int)(a:bM):Pt (bM×Int×Int):=(.ok true (.ok ((bNC b c d)&&true) (.ok true (.ok true (.ok true (.ok true (.br (eqI (aC2 b c d) 0) (.ok true (.ok (dd (bN a true) ((bN a true)&&true)) (.ok (bN a true) (.ok (aMJ (V209_0.mk a b c d o (aC2 b c d) (bif (dD b 2)then 0 else o) 0)) (.ok ((nX (0+(zH b c d o a)) (zH b c d o a))&&true) (.br (bif (ltI (bX (jT b c d o a).b0.Log) 400)then(bif (dD (jT b c d o a).s1 3)then true else(dD (jT b c d o a).s12 0))else false) (.ok (((e1 (zH b c d o a))&&((dZ (0+(zH b c d o a)) (zH b c d o a))&&((nX (qY ((zH b c d o a)+1) 40) 140737488355328)&&(nX ((zH b c d o a)+1) 140737488355328))))&&true) (.ok true (.ok (((VE b c d o a)&&(VE b c d o a))&&true) (.leaf ({(jT b c d o a).b0 with Log:=(VD b c d o a)},(jT b c d o a).s13,(jT b c d o a).s12))))) (.ok true (.ok (((bN (jT b c d o a).b0 true)&&(bN (jT b c d o a).b0 true))&&true) (.leaf ((jT b c d o a).b0,(jT b c d o a).s13,(jT b c d o a).s12)))))))))) (.ok ((nX (0+(ln a.Log)) (ln a.Log))&&true) (.br (bif (ltI (bX a.Log) 400)then(bif (dD b 3)then true else(dD (aC2 b c d) 0))else false) (.ok (((e1 (ln a.Log))&&((dZ (0+(ln a.Log)) (ln a.Log))&&((nX (qY ((ln a.Log)+1) 40) 140737488355328)&&(nX ((ln a.Log)+1) 140737488355328))))&&true) (.ok true (.ok (((VG b c d o a)&&(VG b c d o a))&&true) (.leaf ({a with Log:=(VF b c d o a)},(bif (dD b 2)then 0 else o),(aC2 b c d)))))) (.ok true (.ok (((bN a true)&&(bN a true))&&true) (.leaf (a,(bif (dD b 2)then 0 else o),(aC2 b c d))))))))))))))
def bE7(b:Int)(c:Int)(d:Int)(o:Int)(a:bM):bM×Int×Int:=hid (aMK b c d o a).val
def bE8(b:Int)(c:Int)(d:Int)(o:Int)(a:bM):Bool:=hid (aMK b c d o a).okv
def q209:=bDD (fun b c d o a=>bDE b c d o a (bE7 b c d o a)) bE8
theorem b2X:fN (fun live x=>cY (nL bE6 (lV x)) (fT R 1 2097152 (.loop live x))) F209.body:=(cI (l:=[([0,1,2,3,4,12,13,14],aIY)]) (by kernel_rfl) ⟨fH (n:=24) (by kernel_rfl) fun σ σr t h ho hl=>bE5 σ σr t h ho hl,trivial⟩)
theorem cEH:cP 209 q209:=a2M fun b c d o a hk=>tcl bX7 aC3 b2X [(34,K1),(47,K0),(53,K1),(57,K0),(58,K0),(63,K10),(78,K10),(1000003,[])] [] true (aMK b c d o a) (bDE b c d o a) hk
def Q209:=bD 209 q209 Q181
theorem aSC:QO Q209:=aH cEH aC3
def cEI(b:Int)(c:Int)(d:Int)(o:Int)(a:aQ):List SV:=[(.one (.ptr 0 0 0)),(.one (li b)),(.one (li c)),(.one (li d)),(.one (li o))]
def cEJ(b:Int)(c:Int)(d:Int)(o:Int)(a:aQ):List Blk:=[.box [.sl 1 0 (ln a.fr.D), .sl 2 0 (ln a.fr.A),li a.fr.Other,li a.fr.PC,li a.fr.Flags,li a.fr.Mask, .lit (.bool a.fr.Super), .lit (.bool a.fr.Trace), .sl 3 0 (ln a.fbus.Bytes), .sl 4 0 (ln a.fbus.Log), .lit (.bool a.fstop),li a.ffault.Vector,li a.ffault.PC,li a.ffault.Addr,li a.ffault.Word, .lit (.bool a.ffault.Write)], .lst 1 a.fr.D, .lst 1 a.fr.A, .lst 1 a.fbus.Bytes, .lst 5 a.fbus.Log]
def bND(N:Int→Int→Int→Int→aQ→SV×List Blk)(K:Int→Int→Int→Int→aQ→Bool):List SV→List Blk→Option ((SV×List Blk)×Bool)
 |[(.one (.ptr 0 0 0)),(.one (li c0)),(.one (li c1)),(.one (li c2)),(.one (li c3))],[.box [.sl 1 0 l1, .sl 2 0 l2,li c4,li c5,li c6,li c7, .lit (.bool c8), .lit (.bool c9), .sl 3 0 l3, .sl 4 0 l4, .lit (.bool c10),li c11,li c12,li c13,li c14, .lit (.bool c15)], .lst 1 c_1, .lst 1 c_2, .lst 1 c_3, .lst 5 c_4]=>some (N c0 c1 c2 c3 (aQ.mk (aJ.mk c_1 c_2 c4 c5 c6 c7 c8 c9) (bM.mk c_3 c_4) c10 (aL.mk c11 c12 c13 c14 c15)),dZ l1 (ln c_1)&&(dZ l2 (ln c_2)&&(dZ l3 (ln c_3)&&(dZ l4 (ln c_4)&&(K c0 c1 c2 c3 (aQ.mk (aJ.mk c_1 c_2 c4 c5 c6 c7 c8 c9) (bM.mk c_3 c_4) c10 (aL.mk c11 c12 c13 c14 c15)))))))
 |_,_=>none
theorem bNE{N:Int→Int→Int→Int→aQ→SV×List Blk}{K:Int→Int→Int→Int→aQ→Bool}{f:Nat}(h: ∀(b:Int)(c:Int)(d:Int)(o:Int)(a:aQ),K b c d o a=true→dQ R f (cEI b c d o a) (cEJ b c d o a)=some (N b c d o a)):cP f (bND N K):=fun args hp r e=>by
 unfold bND at e;split at e
 ·rename_i c0 c1 c2 c3 l1 l2 c4 c5 c6 c7 c8 c9 l3 l4 c10 c11 c12 c13 c14 c15 c_1 c_2 c_3 c_4;obtain⟨hr,hk⟩:=qp (qi e);obtain⟨d0,hk0⟩:=bI hk;obtain⟨d1,hk1⟩:=bI hk0;obtain⟨d2,hk2⟩:=bI hk1;obtain⟨d3,hk3⟩:=bI hk2;obtain rfl:=of_decide_eq_true d0;obtain rfl:=of_decide_eq_true d1;obtain rfl:=of_decide_eq_true d2;obtain rfl:=of_decide_eq_true d3;rw[←hr];exact h c0 c1 c2 c3 (aQ.mk (aJ.mk c_1 c_2 c4 c5 c6 c7 c8 c9) (bM.mk c_3 c_4) c10 (aL.mk c11 c12 c13 c14 c15)) hk3
 ·simp at e
section
variable(b:Int)(c:Int)(d:Int)(o:Int)(a:aQ)
def zJ:bM×Int×Int:=(bE7 b c d o a.fbus)
def aML:Bool:=(aO a.fr (bN (zJ b c d o a).1 true))
def aC7:Bool:=(((aML b c d o a)&&(aML b c d o a))&&true)
end
def a5R(b:Int)(c:Int)(d:Int)(o:Int)(a:aQ):Pt (aQ×Int):=(.ok true (.ok ((sF a.fbus (bE8 b c d o a.fbus))&&true) (.ok true (.br (bif (dD (zJ b c d o a).2.2 0)then(eqI a.ffault.Vector 0)else false) (.ok true (.ok true (.br (eqI (zJ b c d o a).2.2 2) (.ok true (.ok true (.ok true (.ok true (.ok (aC7 b c d o a) (.leaf ({a with fbus:=(zJ b c d o a).1,ffault:=(aL.mk 3 a.ffault.PC d a.ffault.Word (eqI b 2))},(zJ b c d o a).2.1))))))) (.ok true (.ok true (.ok true (.ok (aC7 b c d o a) (.leaf ({a with fbus:=(zJ b c d o a).1,ffault:=(aL.mk 2 a.ffault.PC d a.ffault.Word (eqI b 2))},(zJ b c d o a).2.1))))))))) (.ok true (.ok (aC7 b c d o a) (.leaf ({a with fbus:=(zJ b c d o a).1},(zJ b c d o a).2.1))))))))
def wV(b:Int)(c:Int)(d:Int)(o:Int)(a:aQ):aQ×Int:=hid (a5R b c d o a).val
def aC8(b:Int)(c:Int)(d:Int)(o:Int)(a:aQ):Bool:=hid (a5R b c d o a).okv
def b2Y(b:Int)(c:Int)(d:Int)(o:Int)(a:aQ)(r:aQ×Int):SV×List Blk:=((.one (li r.2)),[.box [.sl 1 0 (ln r.1.fr.D), .sl 2 0 (ln r.1.fr.A),li r.1.fr.Other,li r.1.fr.PC,li r.1.fr.Flags,li r.1.fr.Mask, .lit (.bool r.1.fr.Super), .lit (.bool r.1.fr.Trace), .sl 3 0 (ln r.1.fbus.Bytes), .sl 4 0 (ln r.1.fbus.Log), .lit (.bool r.1.fstop),li r.1.ffault.Vector,li r.1.ffault.PC,li r.1.ffault.Addr,li r.1.ffault.Word, .lit (.bool r.1.ffault.Write)], .lst 1 r.1.fr.D, .lst 1 r.1.fr.A, .lst 1 r.1.fbus.Bytes, .lst 5 r.1.fbus.Log])
def q156:=bND (fun b c d o a=>b2Y b c d o a (wV b c d o a)) aC8
theorem cEK:cP 156 q156:=bNE fun b c d o a hk=>tc bWZ aSC [(31,K0)] [] true (a5R b c d o a) (b2Y b c d o a) hk
def Q156:=bD 156 q156 Q209
theorem aSD:QO Q156:=aH cEK aSC
def cEL(a:aQ):List SV:=[(.one (.ptr 0 0 0))]
def cEM(a:aQ):List Blk:=[.box [.sl 1 0 (ln a.fr.D), .sl 2 0 (ln a.fr.A),li a.fr.Other,li a.fr.PC,li a.fr.Flags,li a.fr.Mask, .lit (.bool a.fr.Super), .lit (.bool a.fr.Trace), .sl 3 0 (ln a.fbus.Bytes), .sl 4 0 (ln a.fbus.Log), .lit (.bool a.fstop),li a.ffault.Vector,li a.ffault.PC,li a.ffault.Addr,li a.ffault.Word, .lit (.bool a.ffault.Write)], .lst 1 a.fr.D, .lst 1 a.fr.A, .lst 1 a.fbus.Bytes, .lst 5 a.fbus.Log]
def aXE(N:aQ→SV×List Blk)(K:aQ→Bool):List SV→List Blk→Option ((SV×List Blk)×Bool)
 |[(.one (.ptr 0 0 0))],[.box [.sl 1 0 l1, .sl 2 0 l2,li c0,li c1,li c2,li c3, .lit (.bool c4), .lit (.bool c5), .sl 3 0 l3, .sl 4 0 l4, .lit (.bool c6),li c7,li c8,li c9,li c10, .lit (.bool c11)], .lst 1 c_1, .lst 1 c_2, .lst 1 c_3, .lst 5 c_4]=>some (N (aQ.mk (aJ.mk c_1 c_2 c0 c1 c2 c3 c4 c5) (bM.mk c_3 c_4) c6 (aL.mk c7 c8 c9 c10 c11)),dZ l1 (ln c_1)&&(dZ l2 (ln c_2)&&(dZ l3 (ln c_3)&&(dZ l4 (ln c_4)&&(K (aQ.mk (aJ.mk c_1 c_2 c0 c1 c2 c3 c4 c5) (bM.mk c_3 c_4) c6 (aL.mk c7 c8 c9 c10 c11)))))))
 |_,_=>none
theorem aC9{N:aQ→SV×List Blk}{K:aQ→Bool}{f:Nat}(h: ∀(a:aQ),K a=true→dQ R f (cEL a) (cEM a)=some (N a)):cP f (aXE N K):=fun args hp r e=>by
 unfold aXE at e;split at e
 ·rename_i l1 l2 c0 c1 c2 c3 c4 c5 l3 l4 c6 c7 c8 c9 c10 c11 c_1 c_2 c_3 c_4;obtain⟨hr,hk⟩:=qp (qi e);obtain⟨d0,hk0⟩:=bI hk;obtain⟨d1,hk1⟩:=bI hk0;obtain⟨d2,hk2⟩:=bI hk1;obtain⟨d3,hk3⟩:=bI hk2;obtain rfl:=of_decide_eq_true d0;obtain rfl:=of_decide_eq_true d1;obtain rfl:=of_decide_eq_true d2;obtain rfl:=of_decide_eq_true d3;rw[←hr];exact h (aQ.mk (aJ.mk c_1 c_2 c0 c1 c2 c3 c4 c5) (bM.mk c_3 c_4) c6 (aL.mk c7 c8 c9 c10 c11)) hk3
 ·simp at e
def T81(a:aQ):Pt (Bool):=(.ok true (.ok true (.ok (((bT a true)&&(bT a true))&&true) (.leaf (eqI a.ffault.Vector 0)))))
def CT(a:aQ):Bool:=hid (T81 a).val
def KO(a:aQ):Bool:=hid (T81 a).okv
def n81(a:aQ)(r:Bool):SV×List Blk:=((.one (.lit (.bool r))),[.box [.sl 1 0 (ln a.fr.D), .sl 2 0 (ln a.fr.A),li a.fr.Other,li a.fr.PC,li a.fr.Flags,li a.fr.Mask, .lit (.bool a.fr.Super), .lit (.bool a.fr.Trace), .sl 3 0 (ln a.fbus.Bytes), .sl 4 0 (ln a.fbus.Log), .lit (.bool a.fstop),li a.ffault.Vector,li a.ffault.PC,li a.ffault.Addr,li a.ffault.Word, .lit (.bool a.ffault.Write)], .lst 1 a.fr.D, .lst 1 a.fr.A, .lst 1 a.fbus.Bytes, .lst 5 a.fbus.Log])
def q81:=aXE (fun a=>n81 a (CT a)) KO
theorem t81:cP 81 q81:=aC9 fun a hk=>tc b73 aSD [(7,K0)] [] true (T81 a) (n81 a) hk
def Q81:=bD 81 q81 Q156
theorem a5S:QO Q81:=aH t81 aSD
def a5T(a:Int):Pt (Int):=(.ok true (.ok ((aI7 (bF (fF a 5) 7))&&true) (.br (aI6 (bF (fF a 5) 7)) (.ok true (.ok true (.ok true (.leaf 2)))) (.ok true (.ok true (.ok true (.leaf 1)))))))
def aXF(a:Int):Int:=hid (a5T a).val
def bE9(a:Int):Bool:=hid (a5T a).okv
def q210:=CM (fun a=>xQ a (aXF a)) bE9
theorem cEN:cP 100210 q210:=hH fun a hk=>tz bX8 a5S [] [] true (a5T a) (xQ a) hk
def Q210:=bD 100210 q210 Q81
theorem aSE:QO Q210:=aH cEN a5S
def a5U(a:Int)(b:Int):Pt (aS):=(.ok true (.ok true (.ok true (.ok ((bE9 a)&&true) (.br (eqI (aXF a) 2) (.ok true (.ok true (.ok true (.ok true (.leaf (aS.mk (fF a 11) (bE (bF (fF a 10) 1) 1) (bF (fF a 8) 3) (aF.mk (bF (fF a 5) 7) (bF (fF a 3) 3) b) (bF a 7))))))) (.ok true (.ok true (.ok true (.leaf (aS.mk (fF a 11) (bE (bF (fF a 10) 1) 1) (bF (fF a 8) 3) (aF.mk (bF (fF a 5) 7) (bF (fF a 3) 3) 0) (bF a 7)))))))))))
def aXG(a:Int)(b:Int):aS:=hid (a5U a b).val
def bFA(a:Int)(b:Int):Bool:=hid (a5U a b).okv
def q211:=KC (fun a b=>bDG a b (aXG a b)) bFA
theorem cEO:cP 100211 q211:=uG fun a b hk=>tz bX9 aSE [(32,K5)] [] true (a5U a b) (bDG a b) hk
def Q211:=bD 100211 q211 Q210
theorem aSF:QO Q211:=aH cEO aSE
section
variable(a:aQ)
def iO:aQ×Int:=(wV 3 2 a.fr.PC 0 {a with ffault:={a.ffault with PC:=a.fr.PC}})
def aDA:Bool:=(((bT (iO a).1 true)&&(bT (iO a).1 true))&&true)
def aDB:aQ:={(iO a).1 with ffault:={(iO a).1.ffault with Word:=(iO a).2}}
def uT:aQ×Int:=(wV 3 2 (bF (bE a.fr.PC 2) 65535) 0 (aDB a))
def aDC:Bool:=(((bT (uT a).1 true)&&(bT (uT a).1 true))&&true)
def aDD:aS:=(aXG (iO a).2 (uT a).2)
end
def a5V(a:aQ):Pt (aQ×aS×Int):=(.ok true (.ok true (.ok true (.ok ((cA a (aC8 3 2 a.fr.PC 0 {a with ffault:={a.ffault with PC:=a.fr.PC}}))&&true) (.ok ((cA (iO a).1 (KO (iO a).1))&&true) (.br (!(CT (iO a).1)) (.ok true (.ok (aDA a) (.leaf ((iO a).1,(aS.mk 0 0 0 (aF.mk 0 0 0) 0),0)))) (.ok true (.ok true (.ok ((bE9 (iO a).2)&&true) (.ok true (.br (eqI (aXF (iO a).2) 2) (.ok ((cA (iO a).1 (aC8 3 2 (bF (bE a.fr.PC 2) 65535) 0 (aDB a)))&&true) (.ok ((cA (uT a).1 (KO (uT a).1))&&true) (.br (!(CT (uT a).1)) (.ok true (.ok (aDC a) (.leaf ((uT a).1,(aS.mk 0 0 0 (aF.mk 0 0 0) 0),0)))) (.ok ((bFA (iO a).2 (uT a).2)&&true) (.ok ((tT (aDD a))&&true) (.br (!(tS (aDD a))) (.ok true (.ok true (.ok (aDC a) (.leaf ({(uT a).1 with ffault:={(uT a).1.ffault with Vector:=4}},(aS.mk 0 0 0 (aF.mk 0 0 0) 0),0))))) (.ok true (.ok (aDC a) (.leaf ((uT a).1,(aDD a),(aXF (iO a).2))))))))))) (.ok ((bFA (iO a).2 0)&&true) (.ok ((tT (aXG (iO a).2 0))&&true) (.br (!(tS (aXG (iO a).2 0))) (.ok true (.ok true (.ok (aDA a) (.leaf ({(iO a).1 with ffault:={(iO a).1.ffault with Vector:=4,Word:=(iO a).2}},(aS.mk 0 0 0 (aF.mk 0 0 0) 0),0))))) (.ok true (.ok (aDA a) (.leaf ((aDB a),(aXG (iO a).2 0),(aXF (iO a).2)))))))))))))))))))
def dB(a:aQ):aQ×aS×Int:=hid (a5V a).val
def bFB(a:aQ):Bool:=hid (a5V a).okv
def b20(a:aQ)(r:aQ×aS×Int):SV×List Blk:=((.tup [(.agg [li r.2.1.Op,li r.2.1.Size,li r.2.1.Reg,li r.2.1.Ea.Mode,li r.2.1.Ea.Reg,li r.2.1.Ea.Ext,li r.2.1.Sub]),(.one (li r.2.2))]),[.box [.sl 1 0 (ln r.1.fr.D), .sl 2 0 (ln r.1.fr.A),li r.1.fr.Other,li r.1.fr.PC,li r.1.fr.Flags,li r.1.fr.Mask, .lit (.bool r.1.fr.Super), .lit (.bool r.1.fr.Trace), .sl 3 0 (ln r.1.fbus.Bytes), .sl 4 0 (ln r.1.fbus.Log), .lit (.bool r.1.fstop),li r.1.ffault.Vector,li r.1.ffault.PC,li r.1.ffault.Addr,li r.1.ffault.Word, .lit (.bool r.1.ffault.Write)], .lst 1 r.1.fr.D, .lst 1 r.1.fr.A, .lst 1 r.1.fbus.Bytes, .lst 5 r.1.fbus.Log])
def q158:=aXE (fun a=>b20 a (dB a)) bFB
theorem cEP:cP 158 q158:=aC9 fun a hk=>tc bW1 aSF [(13,K0),(47,K5),(55,K5)] [] true (a5V a) (b20 a) hk
def Q158:=bD 158 q158 Q211
theorem aSG:QO Q158:=aH cEP aSF
def a5W(a:aS):Pt (Bool):=(.ok true (.ok true (.ok true (.ok true (.leaf (bif (bif (eqI a.Op 15)then(bif (eqI a.Sub 1)then true else(eqI a.Sub 3))else false)then true else(bif (eqI a.Op 19)then(eqI a.Sub 0)else false)))))))
def bFC(a:aS):Bool:=hid (a5W a).val
def bFD(a:aS):Bool:=hid (a5W a).okv
def q159:=DS7 (fun a=>PQ a (bFC a)) bFD
theorem cEQ:cP 100159 q159:=O6 fun a hk=>tz bW2 aSG [(4,K0),(8,K0),(12,K0),(18,K0),(22,K0)] [] true (a5W a) (PQ a) hk
def Q159:=bD 100159 q159 Q158
theorem aSH:QO Q159:=aH cEQ aSG
def cER(a:aJ)(b:Int)(c:Int)(p0:Bool)(p1:Bool):List SV:=[(.agg [.imm p0 1 a.D, .imm p1 1 a.A,li a.Other,li a.PC,li a.Flags,li a.Mask, .lit (.bool a.Super), .lit (.bool a.Trace)]),(.one (li b)),(.one (li c))]
def cES(a:aJ)(b:Int)(c:Int)(p0:Bool)(p1:Bool):List Blk:=[]
def bNF(N:aJ→Int→Int→SV×List Blk)(K:aJ→Int→Int→Bool):List SV→List Blk→Option ((SV×List Blk)×Bool)
 |[(.agg [.imm p0 1 c0, .imm p1 1 c1,li c2,li c3,li c4,li c5, .lit (.bool c6), .lit (.bool c7)]),(.one (li c8)),(.one (li c9))],[]=>some (N (aJ.mk c0 c1 c2 c3 c4 c5 c6 c7) c8 c9,K (aJ.mk c0 c1 c2 c3 c4 c5 c6 c7) c8 c9)
 |_,_=>none
theorem bNG{N:aJ→Int→Int→SV×List Blk}{K:aJ→Int→Int→Bool}{f:Nat}(h: ∀(a:aJ)(b:Int)(c:Int)(p0:Bool)(p1:Bool),K a b c=true→dQ R f (cER a b c p0 p1) (cES a b c p0 p1)=some (N a b c)):cP f (bNF N K):=fun _ _ _ e=>by
 unfold bNF at e;split at e
 ·exact yF e (h _ _ _ _ _)
 ·cases e
def a5X(a:aJ)(b:Int)(c:Int):Pt (Int):=(.ok true (.ok ((iG [.int .i64] a.D c)&&((KL b)&&true)) (.ok true (.ok true (.leaf (bF (bR a.D (iN c) 0) (cM (xR b) 1)))))))
def a5Y(a:aJ)(b:Int)(c:Int):Int:=hid (a5X a b c).val
def a5Z(a:aJ)(b:Int)(c:Int):Bool:=hid (a5X a b c).okv
def b21(a:aJ)(b:Int)(c:Int)(r:Int):SV×List Blk:=((.one (li r)),[])
def q214:=bNF (fun a b c=>b21 a b c (a5Y a b c)) a5Z
theorem cET:cP 100214 q214:=bNG fun a b c p0 p1 hk=>tz bYC aSH [(8,K1),(10,K0),(11,K0)] [] true (a5X a b c) (b21 a b c) hk
def Q214:=bD 100214 q214 Q159
theorem aSI:QO Q214:=aH cET aSH
def a50(a:Int)(b:Int):Pt (Int):=(.ok true (.ok true (.br (bif (eqI a 1)then(dD b 3)else false) (.ok true (.ok true (.ok true (.leaf 1)))) (.ok true (.ok true (.ok true (.leaf 2)))))))
def bFE(a:Int)(b:Int):Int:=hid (a50 a b).val
def bFF(a:Int)(b:Int):Bool:=hid (a50 a b).okv
def q276:=KC (fun a b=>WY a b (bFE a b)) bFF
theorem cEU:cP 100276 q276:=uG fun a b hk=>tz bZ0 aSI [] [] true (a50 a b) (WY a b) hk
def Q276:=bD 100276 q276 Q214
theorem aSJ:QO Q276:=aH cEU aSI
def cEV(a:aJ)(b:Int)(c:aF):List SV:=[(.agg [.sl 0 0 (ln a.D), .sl 1 0 (ln a.A),li a.Other,li a.PC,li a.Flags,li a.Mask, .lit (.bool a.Super), .lit (.bool a.Trace)]),(.one (li b)),(.agg [li c.Mode,li c.Reg,li c.Ext])]
def cEW(a:aJ)(b:Int)(c:aF):List Blk:=[.lst 1 a.D, .lst 1 a.A]
def bNH(N:aJ→Int→aF→SV×List Blk)(K:aJ→Int→aF→Bool):List SV→List Blk→Option ((SV×List Blk)×Bool)
 |[(.agg [.sl 0 0 l0, .sl 1 0 l1,li c0,li c1,li c2,li c3, .lit (.bool c4), .lit (.bool c5)]),(.one (li c6)),(.agg [li c7,li c8,li c9])],[.lst 1 c_0, .lst 1 c_1]=>some (N (aJ.mk c_0 c_1 c0 c1 c2 c3 c4 c5) c6 (aF.mk c7 c8 c9),dZ l0 (ln c_0)&&(dZ l1 (ln c_1)&&(K (aJ.mk c_0 c_1 c0 c1 c2 c3 c4 c5) c6 (aF.mk c7 c8 c9))))
 |_,_=>none
theorem bNI{N:aJ→Int→aF→SV×List Blk}{K:aJ→Int→aF→Bool}{f:Nat}(h: ∀(a:aJ)(b:Int)(c:aF),K a b c=true→dQ R f (cEV a b c) (cEW a b c)=some (N a b c)):cP f (bNH N K):=fun args hp r e=>by
 unfold bNH at e;split at e
 ·rename_i l0 l1 c0 c1 c2 c3 c4 c5 c6 c7 c8 c9 c_0 c_1;obtain⟨hr,hk⟩:=qp (qi e);obtain⟨d0,hk0⟩:=bI hk;obtain⟨d1,hk1⟩:=bI hk0;obtain rfl:=of_decide_eq_true d0;obtain rfl:=of_decide_eq_true d1;rw[←hr];exact h (aJ.mk c_0 c_1 c0 c1 c2 c3 c4 c5) c6 (aF.mk c7 c8 c9) hk1
 ·simp at e
section
variable(a:aJ)(b:Int)(c:aF)
def aMM:Bool:=((leI 0 c.Reg)&&(ltI c.Reg (bX a.A)))
def aMN:Bool:=((aMM a c)&&(((blt (0+(iN c.Reg)) (ln a.A))&&(j7 (j8 a.A (0+(iN c.Reg))) 1))&&true))
def aMO:List Row:=(List.set a.A (0+(iN c.Reg)) (aY (bF (bE (bR a.A (0+(iN c.Reg)) 0) (bFE b c.Reg)) 65535)))
def aMP:Bool:=((e1 (ln a.D))&&((dZ (ln a.A) (ln (aMO a b c)))&&true))
def aMQ:Int:=(bF (cM (bR a.A (0+(iN c.Reg)) 0) (bFE b c.Reg)) 65535)
def aMR:List Row:=(List.set a.A (0+(iN c.Reg)) (aY (aMQ a b c)))
def aMS:Bool:=((e1 (ln a.D))&&((dZ (ln a.A) (ln (aMR a b c)))&&true))
end
def a51(a:aJ)(b:Int)(c:aF):Pt (aJ×Int):=(.ok true (.ok ((aMM a c)&&((dV [.int .i64] a.A (0+(iN c.Reg)) 0)&&true)) (.ok true (.ok true (.br (eqI c.Mode 3) (.ok (((bFF b c.Reg)&&(aMN a c))&&true) (.ok true (.ok (((aMP a b c)&&((aO a true)&&true))&&(((aMP a b c)&&true)&&true)) (.leaf ({a with A:=(aMO a b c)},(bR a.A (0+(iN c.Reg)) 0)))))) (.ok true (.br (eqI c.Mode 4) (.ok ((bFF b c.Reg)&&true) (.ok (aMN a c) (.ok true (.ok (((aMS a b c)&&((aO a true)&&true))&&(((aMS a b c)&&true)&&true)) (.leaf ({a with A:=(aMR a b c)},(aMQ a b c))))))) (.ok true (.ok true (.ok true (.ok (((aO a true)&&((aO a true)&&true))&&(((aO a true)&&true)&&true)) (.leaf (a,(bif (eqI c.Mode 5)then(bF (bE (bR a.A (0+(iN c.Reg)) 0) c.Ext) 65535)else(bif (eqI c.Mode 6)then c.Ext else(bR a.A (0+(iN c.Reg)) 0))))))))))))))))
def CU(a:aJ)(b:Int)(c:aF):aJ×Int:=hid (a51 a b c).val
def bFG(a:aJ)(b:Int)(c:aF):Bool:=hid (a51 a b c).okv
def b22(a:aJ)(b:Int)(c:aF)(r:aJ×Int):SV×List Blk:=((.tup [(.agg [.sl 0 0 (ln r.1.D), .sl 1 0 (ln r.1.A),li r.1.Other,li r.1.PC,li r.1.Flags,li r.1.Mask, .lit (.bool r.1.Super), .lit (.bool r.1.Trace)]),(.one (li r.2))]),[.lst 1 r.1.D, .lst 1 r.1.A])
def q247:=bNH (fun a b c=>b22 a b c (CU a b c)) bFG
theorem cEX:cP 247 q247:=bNI fun a b c hk=>tc bY7 aSJ [(10,K1),(12,K0),(13,K0),(14,K0),(16,K0),(20,K1),(22,K0),(26,K0),(30,K0),(36,K0),(41,K1),(43,K0),(45,K0),(50,K0),(56,K0),(57,K6),(1000001,[])] [] true (a51 a b c) (b22 a b c) hk
def Q247:=bD 247 q247 Q276
theorem aSK:QO Q247:=aH cEX aSJ
def cEY(b:Int)(c:aF)(a:aQ):List SV:=[(.one (.ptr 0 0 0)),(.one (li b)),(.agg [li c.Mode,li c.Reg,li c.Ext])]
def cEZ(b:Int)(c:aF)(a:aQ):List Blk:=[.box [.sl 1 0 (ln a.fr.D), .sl 2 0 (ln a.fr.A),li a.fr.Other,li a.fr.PC,li a.fr.Flags,li a.fr.Mask, .lit (.bool a.fr.Super), .lit (.bool a.fr.Trace), .sl 3 0 (ln a.fbus.Bytes), .sl 4 0 (ln a.fbus.Log), .lit (.bool a.fstop),li a.ffault.Vector,li a.ffault.PC,li a.ffault.Addr,li a.ffault.Word, .lit (.bool a.ffault.Write)], .lst 1 a.fr.D, .lst 1 a.fr.A, .lst 1 a.fbus.Bytes, .lst 5 a.fbus.Log]
def bFH(N:Int→aF→aQ→SV×List Blk)(K:Int→aF→aQ→Bool):List SV→List Blk→Option ((SV×List Blk)×Bool)
 |[(.one (.ptr 0 0 0)),(.one (li c0)),(.agg [li c1,li c2,li c3])],[.box [.sl 1 0 l1, .sl 2 0 l2,li c4,li c5,li c6,li c7, .lit (.bool c8), .lit (.bool c9), .sl 3 0 l3, .sl 4 0 l4, .lit (.bool c10),li c11,li c12,li c13,li c14, .lit (.bool c15)], .lst 1 c_1, .lst 1 c_2, .lst 1 c_3, .lst 5 c_4]=>some (N c0 (aF.mk c1 c2 c3) (aQ.mk (aJ.mk c_1 c_2 c4 c5 c6 c7 c8 c9) (bM.mk c_3 c_4) c10 (aL.mk c11 c12 c13 c14 c15)),dZ l1 (ln c_1)&&(dZ l2 (ln c_2)&&(dZ l3 (ln c_3)&&(dZ l4 (ln c_4)&&(K c0 (aF.mk c1 c2 c3) (aQ.mk (aJ.mk c_1 c_2 c4 c5 c6 c7 c8 c9) (bM.mk c_3 c_4) c10 (aL.mk c11 c12 c13 c14 c15)))))))
 |_,_=>none
theorem a52{N:Int→aF→aQ→SV×List Blk}{K:Int→aF→aQ→Bool}{f:Nat}(h: ∀(b:Int)(c:aF)(a:aQ),K b c a=true→dQ R f (cEY b c a) (cEZ b c a)=some (N b c a)):cP f (bFH N K):=fun args hp r e=>by
 unfold bFH at e;split at e
 ·rename_i c0 c1 c2 c3 l1 l2 c4 c5 c6 c7 c8 c9 l3 l4 c10 c11 c12 c13 c14 c15 c_1 c_2 c_3 c_4;obtain⟨hr,hk⟩:=qp (qi e);obtain⟨d0,hk0⟩:=bI hk;obtain⟨d1,hk1⟩:=bI hk0;obtain⟨d2,hk2⟩:=bI hk1;obtain⟨d3,hk3⟩:=bI hk2;obtain rfl:=of_decide_eq_true d0;obtain rfl:=of_decide_eq_true d1;obtain rfl:=of_decide_eq_true d2;obtain rfl:=of_decide_eq_true d3;rw[←hr];exact h c0 (aF.mk c1 c2 c3) (aQ.mk (aJ.mk c_1 c_2 c4 c5 c6 c7 c8 c9) (bM.mk c_3 c_4) c10 (aL.mk c11 c12 c13 c14 c15)) hk3
 ·simp at e
section
variable(b:Int)(c:aF)(a:aQ)
def aDE:Bool:=(((bT a true)&&(bT a true))&&true)
def D7:Bool:=(((((aO a.fr true)&&((aO a.fr true)&&true))&&(aO a.fr (bFG a.fr b c)))&&true)&&true)
def IF:Bool:=(((s1 b)&&((s1 (CU a.fr b c).2)&&true))&&((J3 a true)&&((sE c true)&&((fW (CU a.fr b c).1 true)&&(dI a.fbus (eZ (CU a.fr b c).1 true))))))
def VH:aQ×Int:=(wV 1 b (CU a.fr b c).2 0 {a with fr:=(CU a.fr b c).1})
end
def a53(b:Int)(c:aF)(a:aQ):Pt (aQ×Int×Int):=(.ok true (.ok true (.ok true (.br (eqI c.Mode 0) (.ok ((((aO a.fr true)&&true)&&(a5Z a.fr b c.Reg))&&true) (.ok (aDE a) (.leaf (a,(a5Y a.fr b c.Reg),0)))) (.ok true (.br (eqI c.Mode 1) (.ok (((leI 0 c.Reg)&&(ltI c.Reg (bX a.fr.A)))&&((dV [.int .i64] a.fr.A (0+(iN c.Reg)) 0)&&true)) (.ok (aDE a) (.leaf (a,(bR a.fr.A (0+(iN c.Reg)) 0),0)))) (.ok true (.br (eqI c.Mode 7) (.ok true (.ok (aDE a) (.leaf (a,c.Ext,0)))) (.ok ((D7 b c a)&&(((D7 b c a)&&(((D7 b c a)&&(((D7 b c a)&&(((D7 b c a)&&(((D7 b c a)&&((D7 b c a)&&(IF b c a)))&&(IF b c a)))&&(IF b c a)))&&(IF b c a)))&&(IF b c a)))&&(IF b c a))) (.ok true (.ok ((dd (aO (CU a.fr b c).1 (bN a.fbus true)) (aO (CU a.fr b c).1 (bN a.fbus (aC8 1 b (CU a.fr b c).2 0 {a with fr:=(CU a.fr b c).1}))))&&true) (.ok (((bT (VH b c a).1 true)&&(bT (VH b c a).1 true))&&true) (.leaf ((VH b c a).1,(VH b c a).2,(CU a.fr b c).2))))))))))))))
def cO(b:Int)(c:aF)(a:aQ):aQ×Int×Int:=hid (a53 b c a).val
def aXH(b:Int)(c:aF)(a:aQ):Bool:=hid (a53 b c a).okv
def b23(b:Int)(c:aF)(a:aQ)(r:aQ×Int×Int):SV×List Blk:=((.tup [(.one (li r.2.1)),(.one (li r.2.2))]),[.box [.sl 1 0 (ln r.1.fr.D), .sl 2 0 (ln r.1.fr.A),li r.1.fr.Other,li r.1.fr.PC,li r.1.fr.Flags,li r.1.fr.Mask, .lit (.bool r.1.fr.Super), .lit (.bool r.1.fr.Trace), .sl 3 0 (ln r.1.fbus.Bytes), .sl 4 0 (ln r.1.fbus.Log), .lit (.bool r.1.fstop),li r.1.ffault.Vector,li r.1.ffault.PC,li r.1.ffault.Addr,li r.1.ffault.Word, .lit (.bool r.1.ffault.Write)], .lst 1 r.1.fr.D, .lst 1 r.1.fr.A, .lst 1 r.1.fbus.Bytes, .lst 5 r.1.fbus.Log])
def q212:=bFH (fun b c a=>b23 b c a (cO b c a)) aXH
theorem cE0:cP 212 q212:=a52 fun b c a hk=>tc bYA aSK [(11,K0),(17,K6),(20,K0),(28,K1),(30,K0),(31,K0),(32,K0),(36,K0),(41,K6),(43,K4),(48,K6)] [] true (a53 b c a) (b23 b c a) hk
def Q212:=bD 212 q212 Q247
theorem aSL:QO Q212:=aH cE0 aSK
section
variable(b:Int)(c:aF)(a:aQ)
def D8:Bool:=(((((aO a.fr true)&&((aO a.fr true)&&true))&&(aO a.fr (bFG a.fr b c)))&&true)&&true)
def IG:Bool:=(((s1 (CU a.fr b c).2)&&true)&&((J3 a true)&&((sE c true)&&((fW (CU a.fr b c).1 true)&&(dI a.fbus (eZ (CU a.fr b c).1 true))))))
def aMT:Bool:=(aO (CU a.fr b c).1 (bN a.fbus true))
end
def a54(b:Int)(c:aF)(a:aQ):Pt (aQ×Int):=(.ok true (.ok true (.br (eqI c.Mode 0) (.ok true (.ok (((bT a true)&&(bT a true))&&true) (.leaf (a,0)))) (.ok ((D8 b c a)&&(((D8 b c a)&&(((D8 b c a)&&(((D8 b c a)&&(((D8 b c a)&&(((D8 b c a)&&((D8 b c a)&&(IG b c a)))&&(IG b c a)))&&(IG b c a)))&&(IG b c a)))&&(IG b c a)))&&(IG b c a))) (.ok true (.ok true (.ok (((aMT b c a)&&(aMT b c a))&&true) (.leaf ({a with fr:=(CU a.fr b c).1},(CU a.fr b c).2)))))))))
def iK(b:Int)(c:aF)(a:aQ):aQ×Int:=hid (a54 b c a).val
def aXI(b:Int)(c:aF)(a:aQ):Bool:=hid (a54 b c a).okv
def b24(b:Int)(c:aF)(a:aQ)(r:aQ×Int):SV×List Blk:=((.one (li r.2)),[.box [.sl 1 0 (ln r.1.fr.D), .sl 2 0 (ln r.1.fr.A),li r.1.fr.Other,li r.1.fr.PC,li r.1.fr.Flags,li r.1.fr.Mask, .lit (.bool r.1.fr.Super), .lit (.bool r.1.fr.Trace), .sl 3 0 (ln r.1.fbus.Bytes), .sl 4 0 (ln r.1.fbus.Log), .lit (.bool r.1.fstop),li r.1.ffault.Vector,li r.1.ffault.PC,li r.1.ffault.Addr,li r.1.ffault.Word, .lit (.bool r.1.ffault.Write)], .lst 1 r.1.fr.D, .lst 1 r.1.fr.A, .lst 1 r.1.fbus.Bytes, .lst 5 r.1.fbus.Log])
def q213:=bFH (fun b c a=>b24 b c a (iK b c a)) aXI
theorem cE1:cP 213 q213:=a52 fun b c a hk=>tc bYB aSL [(10,K0),(16,K6),(18,K4),(23,K6)] [] true (a54 b c a) (b24 b c a) hk
def Q213:=bD 213 q213 Q212
theorem aSM:QO Q213:=aH cE1 aSL
def cE2(a:aJ)(b:Int)(c:Int)(d:Int):List SV:=[(.agg [.sl 0 0 (ln a.D), .sl 1 0 (ln a.A),li a.Other,li a.PC,li a.Flags,li a.Mask, .lit (.bool a.Super), .lit (.bool a.Trace)]),(.one (li b)),(.one (li c)),(.one (li d))]
def cE3(a:aJ)(b:Int)(c:Int)(d:Int):List Blk:=[.lst 1 a.D, .lst 1 a.A]
def bNJ(N:aJ→Int→Int→Int→SV×List Blk)(K:aJ→Int→Int→Int→Bool):List SV→List Blk→Option ((SV×List Blk)×Bool)
 |[(.agg [.sl 0 0 l0, .sl 1 0 l1,li c0,li c1,li c2,li c3, .lit (.bool c4), .lit (.bool c5)]),(.one (li c6)),(.one (li c7)),(.one (li c8))],[.lst 1 c_0, .lst 1 c_1]=>some (N (aJ.mk c_0 c_1 c0 c1 c2 c3 c4 c5) c6 c7 c8,dZ l0 (ln c_0)&&(dZ l1 (ln c_1)&&(K (aJ.mk c_0 c_1 c0 c1 c2 c3 c4 c5) c6 c7 c8)))
 |_,_=>none
theorem bNK{N:aJ→Int→Int→Int→SV×List Blk}{K:aJ→Int→Int→Int→Bool}{f:Nat}(h: ∀(a:aJ)(b:Int)(c:Int)(d:Int),K a b c d=true→dQ R f (cE2 a b c d) (cE3 a b c d)=some (N a b c d)):cP f (bNJ N K):=fun args hp r e=>by
 unfold bNJ at e;split at e
 ·rename_i l0 l1 c0 c1 c2 c3 c4 c5 c6 c7 c8 c_0 c_1;obtain⟨hr,hk⟩:=qp (qi e);obtain⟨d0,hk0⟩:=bI hk;obtain⟨d1,hk1⟩:=bI hk0;obtain rfl:=of_decide_eq_true d0;obtain rfl:=of_decide_eq_true d1;rw[←hr];exact h (aJ.mk c_0 c_1 c0 c1 c2 c3 c4 c5) c6 c7 c8 hk1
 ·simp at e
section
variable(a:aJ)(c:Int)(d:Int)
def aDF:Bool:=(((leI 0 c)&&(ltI c (bX a.D)))&&(((blt (0+(iN c)) (ln a.D))&&(j7 (j8 a.D (0+(iN c))) 1))&&true))
def aDG:List Row:=(List.set a.D (0+(iN c)) (aY (fB (bF (bR a.D (0+(iN c)) 0) 65280) d)))
def aDH:Bool:=((dZ (ln a.D) (ln (aDG a c d)))&&((e1 (ln a.A))&&true))
def aDI:List Row:=(List.set a.D (0+(iN c)) (aY d))
def aDJ:Bool:=((dZ (ln a.D) (ln (aDI a c d)))&&((e1 (ln a.A))&&true))
end
def a55(a:aJ)(b:Int)(c:Int)(d:Int):Pt (aJ):=(.ok true (.ok true (.br (eqI b 1) (.ok ((((leI 0 c)&&(ltI c (bX a.D)))&&((dV [.int .i64] a.D (0+(iN c)) 0)&&(aDF a c)))&&true) (.ok true (.ok (((aDH a c d)&&((aO a true)&&true))&&((aDH a c d)&&true)) (.leaf {a with D:=(aDG a c d)})))) (.ok (aDF a c) (.ok true (.ok (((aDJ a c d)&&((aO a true)&&true))&&((aDJ a c d)&&true)) (.leaf {a with D:=(aDI a c d)})))))))
def KP(a:aJ)(b:Int)(c:Int)(d:Int):aJ:=hid (a55 a b c d).val
def KQ(a:aJ)(b:Int)(c:Int)(d:Int):Bool:=hid (a55 a b c d).okv
def b25(a:aJ)(b:Int)(c:Int)(d:Int)(r:aJ):SV×List Blk:=((.agg [.sl 0 0 (ln r.D), .sl 1 0 (ln r.A),li r.Other,li r.PC,li r.Flags,li r.Mask, .lit (.bool r.Super), .lit (.bool r.Trace)]),[.lst 1 r.D, .lst 1 r.A])
def q219:=bNJ (fun a b c d=>b25 a b c d (KP a b c d)) KQ
theorem cE4:cP 219 q219:=bNK fun a b c d hk=>tc bYH aSM [(12,K1),(15,K1),(17,K0),(18,K0),(22,K0),(24,K1),(27,K0),(28,K6),(1000001,[])] [] true (a55 a b c d) (b25 a b c d) hk
def Q219:=bD 219 q219 Q213
theorem aSN:QO Q219:=aH cE4 aSM
def cE5(b:Int)(c:aF)(d:Int)(o:Int)(a:aQ):List SV:=[(.one (.ptr 0 0 0)),(.one (li b)),(.agg [li c.Mode,li c.Reg,li c.Ext]),(.one (li d)),(.one (li o))]
def cE6(b:Int)(c:aF)(d:Int)(o:Int)(a:aQ):List Blk:=[.box [.sl 1 0 (ln a.fr.D), .sl 2 0 (ln a.fr.A),li a.fr.Other,li a.fr.PC,li a.fr.Flags,li a.fr.Mask, .lit (.bool a.fr.Super), .lit (.bool a.fr.Trace), .sl 3 0 (ln a.fbus.Bytes), .sl 4 0 (ln a.fbus.Log), .lit (.bool a.fstop),li a.ffault.Vector,li a.ffault.PC,li a.ffault.Addr,li a.ffault.Word, .lit (.bool a.ffault.Write)], .lst 1 a.fr.D, .lst 1 a.fr.A, .lst 1 a.fbus.Bytes, .lst 5 a.fbus.Log]
def bNL(N:Int→aF→Int→Int→aQ→SV×List Blk)(K:Int→aF→Int→Int→aQ→Bool):List SV→List Blk→Option ((SV×List Blk)×Bool)
 |[(.one (.ptr 0 0 0)),(.one (li c0)),(.agg [li c1,li c2,li c3]),(.one (li c4)),(.one (li c5))],[.box [.sl 1 0 l1, .sl 2 0 l2,li c6,li c7,li c8,li c9, .lit (.bool c10), .lit (.bool c11), .sl 3 0 l3, .sl 4 0 l4, .lit (.bool c12),li c13,li c14,li c15,li c16, .lit (.bool c17)], .lst 1 c_1, .lst 1 c_2, .lst 1 c_3, .lst 5 c_4]=>some (N c0 (aF.mk c1 c2 c3) c4 c5 (aQ.mk (aJ.mk c_1 c_2 c6 c7 c8 c9 c10 c11) (bM.mk c_3 c_4) c12 (aL.mk c13 c14 c15 c16 c17)),dZ l1 (ln c_1)&&(dZ l2 (ln c_2)&&(dZ l3 (ln c_3)&&(dZ l4 (ln c_4)&&(K c0 (aF.mk c1 c2 c3) c4 c5 (aQ.mk (aJ.mk c_1 c_2 c6 c7 c8 c9 c10 c11) (bM.mk c_3 c_4) c12 (aL.mk c13 c14 c15 c16 c17)))))))
 |_,_=>none
theorem bNM{N:Int→aF→Int→Int→aQ→SV×List Blk}{K:Int→aF→Int→Int→aQ→Bool}{f:Nat}(h: ∀(b:Int)(c:aF)(d:Int)(o:Int)(a:aQ),K b c d o a=true→dQ R f (cE5 b c d o a) (cE6 b c d o a)=some (N b c d o a)):cP f (bNL N K):=fun args hp r e=>by
 unfold bNL at e;split at e
 ·rename_i c0 c1 c2 c3 c4 c5 l1 l2 c6 c7 c8 c9 c10 c11 l3 l4 c12 c13 c14 c15 c16 c17 c_1 c_2 c_3 c_4;obtain⟨hr,hk⟩:=qp (qi e);obtain⟨d0,hk0⟩:=bI hk;obtain⟨d1,hk1⟩:=bI hk0;obtain⟨d2,hk2⟩:=bI hk1;obtain⟨d3,hk3⟩:=bI hk2;obtain rfl:=of_decide_eq_true d0;obtain rfl:=of_decide_eq_true d1;obtain rfl:=of_decide_eq_true d2;obtain rfl:=of_decide_eq_true d3;rw[←hr];exact h c0 (aF.mk c1 c2 c3) c4 c5 (aQ.mk (aJ.mk c_1 c_2 c6 c7 c8 c9 c10 c11) (bM.mk c_3 c_4) c12 (aL.mk c13 c14 c15 c16 c17)) hk3
 ·simp at e
section
variable(b:Int)(c:aF)(o:Int)(a:aQ)
def aMU:aJ:=(KP a.fr b c.Reg o)
def aMV:Bool:=(aO (aMU b c o a) (bN a.fbus true))
end
def a56(b:Int)(c:aF)(d:Int)(o:Int)(a:aQ):Pt (aQ):=(.ok true (.ok true (.br (eqI c.Mode 0) (.ok (((((aO a.fr true)&&((aO a.fr true)&&true))&&(aO a.fr (KQ a.fr b c.Reg o)))&&true)&&true) (.ok (((aMV b c o a)&&(aMV b c o a))&&true) (.leaf {a with fr:=(aMU b c o a)}))) (.ok ((cA a (aC8 2 b d o a))&&true) (.ok (((bT (wV 2 b d o a).1 true)&&(bT (wV 2 b d o a).1 true))&&true) (.leaf (wV 2 b d o a).1))))))
def a57(b:Int)(c:aF)(d:Int)(o:Int)(a:aQ):aQ:=hid (a56 b c d o a).val
def a58(b:Int)(c:aF)(d:Int)(o:Int)(a:aQ):Bool:=hid (a56 b c d o a).okv
def b26(b:Int)(c:aF)(d:Int)(o:Int)(a:aQ)(r:aQ):SV×List Blk:=((.tup []),[.box [.sl 1 0 (ln r.fr.D), .sl 2 0 (ln r.fr.A),li r.fr.Other,li r.fr.PC,li r.fr.Flags,li r.fr.Mask, .lit (.bool r.fr.Super), .lit (.bool r.fr.Trace), .sl 3 0 (ln r.fbus.Bytes), .sl 4 0 (ln r.fbus.Log), .lit (.bool r.fstop),li r.ffault.Vector,li r.ffault.PC,li r.ffault.Addr,li r.ffault.Word, .lit (.bool r.ffault.Write)], .lst 1 r.fr.D, .lst 1 r.fr.A, .lst 1 r.fbus.Bytes, .lst 5 r.fbus.Log])
def q215:=bNL (fun b c d o a=>b26 b c d o a (a57 b c d o a)) a58
theorem cE7:cP 215 q215:=bNM fun b c d o a hk=>tc bYD aSN [(11,K0),(17,K6),(20,K0)] [] true (a56 b c d o a) (b26 b c d o a) hk
def Q215:=bD 215 q215 Q219
theorem aSO:QO Q215:=aH cE7 aSN
def a59(a:Int)(b:Int):Pt (Int):=(.ok true (.ok ((yU (eqI b 0) 4)&&((KL a)&&((yU (geI b (lW (xR a) 2)) 8)&&true))) (.ok true (.ok true (.leaf (fB (yT (eqI b 0) 4) (yT (geI b (lW (xR a) 2)) 8)))))))
def aMW(a:Int)(b:Int):Int:=hid (a59 a b).val
def aMX(a:Int)(b:Int):Bool:=hid (a59 a b).okv
def q249:=KC (fun a b=>WY a b (aMW a b)) aMX
theorem cE8:cP 100249 q249:=uG fun a b hk=>tz bY9 aSO [] [] true (a59 a b) (WY a b) hk
def Q249:=bD 100249 q249 Q215
theorem aSP:QO Q249:=aH cE8 aSO
def aMY(a:Int)(b:Int)(c:Int):Pt (Int):=(.ok true (.ok ((aMX a c)&&true) (.ok true (.ok true (.leaf (fB (bF b 16) (aMW a c)))))))
def iF(a:Int)(b:Int)(c:Int):Int:=hid (aMY a b c).val
def D9(a:Int)(b:Int)(c:Int):Bool:=hid (aMY a b c).okv
def q216:=DS5 (fun a b c=>aGD a b c (iF a b c)) D9
theorem cE9:cP 100216 q216:=DI fun a b c hk=>tz bYE aSP [] [] true (aMY a b c) (aGD a b c) hk
def Q216:=bD 100216 q216 Q249
theorem aSQ:QO Q216:=aH cE9 aSP
def a6A(a:Int)(b:Int):Pt (Int):=(.ok true (.ok ((KL a)&&true) (.br (geI b (lW (xR a) 2)) (.ok ((KL a)&&true) (.ok true (.ok true (.leaf (cM b (xR a)))))) (.ok true (.ok true (.ok true (.leaf b)))))))
def aDK(a:Int)(b:Int):Int:=hid (a6A a b).val
def aDL(a:Int)(b:Int):Bool:=hid (a6A a b).okv
def q277:=KC (fun a b=>WY a b (aDK a b)) aDL
theorem cFA:cP 100277 q277:=uG fun a b hk=>tz bZ1 aSQ [] [] true (a6A a b) (WY a b) hk
def Q277:=bD 100277 q277 Q216
theorem aSR:QO Q277:=aH cFA aSQ
section
variable(a:Int)(b:Int)(c:Int)(d:Int)
def IH:Int:=(bF (cM (cM c d) b) (cM (xR a) 1))
def aDM:Bool:=(dD (cM (cM (aDK a c) (aDK a d)) b) (aDK a (IH a b c d)))
end
def aMZ(a:Int)(b:Int)(c:Int)(d:Int):Pt (Int×Int):=(.ok true (.ok true (.ok ((KL a)&&true) (.ok ((aDL a c)&&((aDL a d)&&true)) (.ok ((yU (ltI (cM (cM c d) b) 0) 17)&&((aDL a (IH a b c d))&&((yU (aDM a b c d) 2)&&((aMX a (IH a b c d))&&true)))) (.ok true (.ok true (.leaf ((IH a b c d),(fB (fB (yT (ltI (cM (cM c d) b) 0) 17) (yT (aDM a b c d) 2)) (aMW a (IH a b c d))))))))))))
def aDN(a:Int)(b:Int)(c:Int)(d:Int):Int×Int:=hid (aMZ a b c d).val
def aGJ(a:Int)(b:Int)(c:Int)(d:Int):Bool:=hid (aMZ a b c d).okv
def q250:=WZ (fun a b c d=>PW a b c d (aDN a b c d)) aGJ
theorem cFB:cP 100250 q250:=DY fun a b c d hk=>tz bZA aSR [] [] true (aMZ a b c d) (PW a b c d) hk
def Q250:=bD 100250 q250 Q277
theorem aSS:QO Q250:=aH cFB aSR
def cFC(b:aS)(a:aQ):List SV:=[(.one (.ptr 0 0 0)),(.agg [li b.Op,li b.Size,li b.Reg,li b.Ea.Mode,li b.Ea.Reg,li b.Ea.Ext,li b.Sub])]
def cFD(b:aS)(a:aQ):List Blk:=[.box [.sl 1 0 (ln a.fr.D), .sl 2 0 (ln a.fr.A),li a.fr.Other,li a.fr.PC,li a.fr.Flags,li a.fr.Mask, .lit (.bool a.fr.Super), .lit (.bool a.fr.Trace), .sl 3 0 (ln a.fbus.Bytes), .sl 4 0 (ln a.fbus.Log), .lit (.bool a.fstop),li a.ffault.Vector,li a.ffault.PC,li a.ffault.Addr,li a.ffault.Word, .lit (.bool a.ffault.Write)], .lst 1 a.fr.D, .lst 1 a.fr.A, .lst 1 a.fbus.Bytes, .lst 5 a.fbus.Log]
def aM0(N:aS→aQ→SV×List Blk)(K:aS→aQ→Bool):List SV→List Blk→Option ((SV×List Blk)×Bool)
 |[(.one (.ptr 0 0 0)),(.agg [li c0,li c1,li c2,li c3,li c4,li c5,li c6])],[.box [.sl 1 0 l1, .sl 2 0 l2,li c7,li c8,li c9,li c10, .lit (.bool c11), .lit (.bool c12), .sl 3 0 l3, .sl 4 0 l4, .lit (.bool c13),li c14,li c15,li c16,li c17, .lit (.bool c18)], .lst 1 c_1, .lst 1 c_2, .lst 1 c_3, .lst 5 c_4]=>some (N (aS.mk c0 c1 c2 (aF.mk c3 c4 c5) c6) (aQ.mk (aJ.mk c_1 c_2 c7 c8 c9 c10 c11 c12) (bM.mk c_3 c_4) c13 (aL.mk c14 c15 c16 c17 c18)),dZ l1 (ln c_1)&&(dZ l2 (ln c_2)&&(dZ l3 (ln c_3)&&(dZ l4 (ln c_4)&&(K (aS.mk c0 c1 c2 (aF.mk c3 c4 c5) c6) (aQ.mk (aJ.mk c_1 c_2 c7 c8 c9 c10 c11 c12) (bM.mk c_3 c_4) c13 (aL.mk c14 c15 c16 c17 c18)))))))
 |_,_=>none
theorem VI{N:aS→aQ→SV×List Blk}{K:aS→aQ→Bool}{f:Nat}(h: ∀(b:aS)(a:aQ),K b a=true→dQ R f (cFC b a) (cFD b a)=some (N b a)):cP f (aM0 N K):=fun args hp r e=>by
 unfold aM0 at e;split at e
 ·rename_i c0 c1 c2 c3 c4 c5 c6 l1 l2 c7 c8 c9 c10 c11 c12 l3 l4 c13 c14 c15 c16 c17 c18 c_1 c_2 c_3 c_4;obtain⟨hr,hk⟩:=qp (qi e);obtain⟨d0,hk0⟩:=bI hk;obtain⟨d1,hk1⟩:=bI hk0;obtain⟨d2,hk2⟩:=bI hk1;obtain⟨d3,hk3⟩:=bI hk2;obtain rfl:=of_decide_eq_true d0;obtain rfl:=of_decide_eq_true d1;obtain rfl:=of_decide_eq_true d2;obtain rfl:=of_decide_eq_true d3;rw[←hr];exact h (aS.mk c0 c1 c2 (aF.mk c3 c4 c5) c6) (aQ.mk (aJ.mk c_1 c_2 c7 c8 c9 c10 c11 c12) (bM.mk c_3 c_4) c13 (aL.mk c14 c15 c16 c17 c18)) hk3
 ·simp at e
section
variable(b:aS)(a:aQ)
def zK:Bool:=(((bT (iK b.Size b.Ea a).1 true)&&(bT (iK b.Size b.Ea a).1 true))&&true)
def zL:Int:=(bif (eqI b.Sub 1)then(aDN b.Size 0 0 0).1 else(bif (eqI b.Sub 2)then(cM (cM (xR b.Size) 1) 0)else 0))
def uU:aQ:=(a57 b.Size b.Ea (iK b.Size b.Ea a).2 (zL b) (iK b.Size b.Ea a).1)
def zM:Int:=(bif (eqI b.Sub 1)then(aDN b.Size 0 0 0).2 else(bif (eqI b.Sub 2)then(iF b.Size (iK b.Size b.Ea a).1.fr.Flags (cM (cM (xR b.Size) 1) 0))else(iF b.Size (iK b.Size b.Ea a).1.fr.Flags 0)))
def zN:Bool:=(((bT (cO b.Size b.Ea a).1 true)&&(bT (cO b.Size b.Ea a).1 true))&&true)
def wW:Int:=(cM (cM (xR b.Size) 1) (cO b.Size b.Ea a).2.1)
def zO:Int×Int:=(aDN b.Size 0 0 (cO b.Size b.Ea a).2.1)
def zP:Int:=(bif (eqI b.Sub 1)then(zO b a).1 else(bif (eqI b.Sub 2)then(wW b a)else(cO b.Size b.Ea a).2.1))
def uV:aQ:=(a57 b.Size b.Ea (cO b.Size b.Ea a).2.2 (zP b a) (cO b.Size b.Ea a).1)
def zQ:Int:=(bif (eqI b.Sub 1)then(zO b a).2 else(bif (eqI b.Sub 2)then(iF b.Size (cO b.Size b.Ea a).1.fr.Flags (wW b a))else(iF b.Size (cO b.Size b.Ea a).1.fr.Flags (cO b.Size b.Ea a).2.1)))
end
def a6B(b:aS)(a:aQ):Pt (aQ):=(.ok true (.ok true (.ok true (.ok true (.br (eqI b.Sub 0) (.ok ((cA a (aXI b.Size b.Ea a))&&true) (.ok ((cA (iK b.Size b.Ea a).1 (KO (iK b.Size b.Ea a).1))&&true) (.br (!(CT (iK b.Size b.Ea a).1)) (.ok (zK b a) (.leaf (iK b.Size b.Ea a).1)) (.ok ((D9 b.Size (iK b.Size b.Ea a).1.fr.Flags 0)&&true) (.ok true (.ok true (.ok ((((aGJ b.Size 0 0 0)&&true)||(!(eqI b.Sub 1)))&&((((((KL b.Size)&&true)&&((D9 b.Size (iK b.Size b.Ea a).1.fr.Flags (cM (cM (xR b.Size) 1) 0))&&true))||(!(eqI b.Sub 2)))&&true)||(eqI b.Sub 1))) (.ok true (.br (ltI b.Sub 3) (.ok ((cA (iK b.Size b.Ea a).1 (a58 b.Size b.Ea (iK b.Size b.Ea a).2 (zL b) (iK b.Size b.Ea a).1))&&true) (.ok true (.ok (((bT (uU b a) true)&&(bT (uU b a) true))&&true) (.leaf {(uU b a)with fr:={(uU b a).fr with Flags:=(zM b a)}})))) (.ok true (.ok (zK b a) (.leaf {(iK b.Size b.Ea a).1 with fr:={(iK b.Size b.Ea a).1.fr with Flags:=(zM b a)}})))))))))))) (.ok ((cA a (aXH b.Size b.Ea a))&&true) (.ok ((cA (cO b.Size b.Ea a).1 (KO (cO b.Size b.Ea a).1))&&true) (.br (!(CT (cO b.Size b.Ea a).1)) (.ok (zN b a) (.leaf (cO b.Size b.Ea a).1)) (.ok ((D9 b.Size (cO b.Size b.Ea a).1.fr.Flags (cO b.Size b.Ea a).2.1)&&true) (.ok true (.ok true (.ok ((((aGJ b.Size 0 0 (cO b.Size b.Ea a).2.1)&&true)||(!(eqI b.Sub 1)))&&((((((KL b.Size)&&true)&&((D9 b.Size (cO b.Size b.Ea a).1.fr.Flags (wW b a))&&true))||(!(eqI b.Sub 2)))&&true)||(eqI b.Sub 1))) (.ok true (.br (ltI b.Sub 3) (.ok ((cA (cO b.Size b.Ea a).1 (a58 b.Size b.Ea (cO b.Size b.Ea a).2.2 (zP b a) (cO b.Size b.Ea a).1))&&true) (.ok true (.ok (((bT (uV b a) true)&&(bT (uV b a) true))&&true) (.leaf {(uV b a)with fr:={(uV b a).fr with Flags:=(zQ b a)}})))) (.ok true (.ok (zN b a) (.leaf {(cO b.Size b.Ea a).1 with fr:={(cO b.Size b.Ea a).1.fr with Flags:=(zQ b a)}})))))))))))))))))
def a6C(b:aS)(a:aQ):aQ:=hid (a6B b a).val
def bNN(b:aS)(a:aQ):Bool:=hid (a6B b a).okv
def XD(b:aS)(a:aQ)(r:aQ):SV×List Blk:=((.tup []),[.box [.sl 1 0 (ln r.fr.D), .sl 2 0 (ln r.fr.A),li r.fr.Other,li r.fr.PC,li r.fr.Flags,li r.fr.Mask, .lit (.bool r.fr.Super), .lit (.bool r.fr.Trace), .sl 3 0 (ln r.fbus.Bytes), .sl 4 0 (ln r.fbus.Log), .lit (.bool r.fstop),li r.ffault.Vector,li r.ffault.PC,li r.ffault.Addr,li r.ffault.Word, .lit (.bool r.ffault.Write)], .lst 1 r.fr.D, .lst 1 r.fr.A, .lst 1 r.fbus.Bytes, .lst 5 r.fbus.Log])
def q217:=aM0 (fun b a=>XD b a (a6C b a)) bNN
theorem cFE:cP 217 q217:=VI fun b a hk=>tc bYF aSS [(8,K0),(12,K0),(14,K4),(19,K0),(21,K4),(29,K0),(34,K0),(38,K0),(43,K0),(51,K0),(57,K0),(62,K0),(66,K0),(70,K0),(72,K4)] [] true (a6B b a) (XD b a) hk
def Q217:=bD 217 q217 Q250
theorem aST:QO Q217:=aH cFE aSS
def aM1(a:Int):Pt (Bool):=(.ok true (.ok true (.ok true (.ok true (.leaf (eqI (bF a 1) 0))))))
def a6D(a:Int):Bool:=hid (aM1 a).val
def bFI(a:Int):Bool:=hid (aM1 a).okv
def q278:=CM (fun a=>j9 a (a6D a)) bFI
theorem cFF:cP 100278 q278:=hH fun a hk=>tz bZ2 aST [] [] true (aM1 a) (j9 a) hk
def Q278:=bD 100278 q278 Q217
theorem aSU:QO Q278:=aH cFF aST
section
variable(a:Int)(b:Int)(c:Int)(d:Int)
def aM2:Bool:=(bif (eqI a 6)then(eqI a 6)else(eqI a 7))
def aM3:Bool:=(bif (eqI a 4)then(eqI a 4)else(eqI a 5))
def II:Int:=(yT (geI d (lW (xR b) 2)) 1)
def mB:Int:=(bif (a6D a)then(II b d)else(bF d 1))
def EA:Int:=(bif (eqI a 1)then(II b d)else(bif (aM3 a)then(mB a b d)else(bif (aM2 a)then(yT (dD (bF c 16) 0) 1)else 0)))
def o8:Int:=(bif (a6D a)then(fB (bF (m9 d 1) (cM (dE 2 (lW (xR b) 2)) 1)) (EA a b c d))else(fB (fF d 1) (dE (EA a b c d) (lW (xR b) 2))))
def aM4:Bool:=(geI (o8 a b c d) (lW (xR b) 2))
def aM5:Bool:=(bif (eqI a 0)then(dD (II b d) (yT (aM4 a b c d) 1))else false)
def IJ:Int:=(fB (fB (mB a b d) (aMW b (o8 a b c d))) (yT (aM5 a b c d) 2))
end
def aM6(a:Int)(b:Int)(c:Int)(d:Int):Pt (Int×Int):=(.ok true (.ok ((KL b)&&true) (.ok ((yU (geI d (lW (xR b) 2)) 1)&&true) (.ok true (.ok true (.ok ((bFI a)&&true) (.ok true (.ok true (.ok true (.ok ((((((yU (dD (bF c 16) 0) 1)&&true)||(!(aM2 a)))&&true)||(aM3 a))||(eqI a 1)) (.ok true (.ok ((bFI a)&&true) (.ok true (.ok ((aMX b (o8 a b c d))&&((((yU (aM4 a b c d) 1)&&true)||(!(eqI a 0)))&&((yU (aM5 a b c d) 2)&&true))) (.ok true (.br (bif (eqI a 4)then true else(eqI a 5)) (.ok true (.ok true (.ok true (.leaf ((o8 a b c d),(fB (IJ a b c d) (bF c 16))))))) (.ok true (.ok true (.ok true (.leaf ((o8 a b c d),(fB (IJ a b c d) (dE (mB a b d) 16)))))))))))))))))))))))
def PZ(a:Int)(b:Int)(c:Int)(d:Int):Int×Int:=hid (aM6 a b c d).val
def bNO(a:Int)(b:Int)(c:Int)(d:Int):Bool:=hid (aM6 a b c d).okv
def q251:=WZ (fun a b c d=>PW a b c d (PZ a b c d)) bNO
theorem cFG:cP 100251 q251:=DY fun a b c d hk=>tz bZB aSU [] [] true (aM6 a b c d) (PW a b c d) hk
def Q251:=bD 100251 q251 Q278
theorem aDO:QO Q251:=aH cFG aSU
structure V218_0 where
 mk::
 (s0:Int)
 (s1:Int)
 (s2:Int)
 (s3:Int)
 (s4:Int)
 (s13:Int)
section
variable(v:V218_0)
def wX:Int×Int:=(PZ v.s0 v.s1 v.s2 v.s3)
end
def IK(v:V218_0):Pt (Option V218_0):=(.ok true (.br (pG v.s4 0) (.ok ((bNO v.s0 v.s1 v.s2 v.s3)&&true) (.ok true (.ok true (.ok true (.ok true (.ok true (.leaf (some (V218_0.mk v.s0 v.s1 (wX v).2 (wX v).1 (cM v.s4 1) (fB v.s13 (bF (wX v).2 2))))))))))) (.leaf none)))
def VJ(v:V218_0):St:=⟨[(0,(.one (li v.s0))),(1,(.one (li v.s1))),(2,(.one (li v.s2))),(3,(.one (li v.s3))),(4,(.one (li v.s4))),(13,(.one (li v.s13)))],[]⟩
def aDP:St→Option (V218_0×Bool)
 |⟨[(0,(.one (li c0))),(1,(.one (li c1))),(2,(.one (li c2))),(3,(.one (li c3))),(4,(.one (li c4))),(13,(.one (li c5)))],[]⟩=>some ((V218_0.mk c0 c1 c2 c3 c4 c5),true)
 |_=>none
def aDQ:St→Option (Pt Out):=xN Q251 [] [] true [] 0 2097152 aIZ
theorem bFJ(v:V218_0):((aDQ (VJ v)).bind (rW true false 0 [0,1,2,3,4,13]))=some ((IK v).map (Option.map VJ)):=by kernel_rfl
theorem bFK(σ:St)(v:V218_0)(h:aDP σ=some (v,true)):σ=VJ v:=by
 unfold aDP at h;split at h
 ·obtain⟨hr,hk⟩:=qp (qi h);rw[←hr];rfl
 ·simp at h
theorem bFL:cY (uB true false 0 [0,1,2,3,4,13] aDQ aDP VJ IK 2097152) (fT R 0 2097152 (.loop [0,1,2,3,4,13] aIZ)):=eE (cZ aDO (cI (l:=[]) (by kernel_rfl) trivial)) bFK bFJ
def bFM:Lp:=(34,uB true false 0 [0,1,2,3,4,13] aDQ aDP VJ IK 2097152)::[]
def B0(v:V218_0):V218_0:=(hid (dW IK 2097152 v)).getD v
def VK(v:V218_0):Bool:=(hid (dW IK 2097152 v)).isSome
section
variable(a:Int)(b:Int)(c:Int)(d:Int)(o:Int)
def aDR:Bool:=(bif (dD (bF c 16) 0)then(geI a 6)else false)
def VL:V218_0:=(B0 (V218_0.mk a b c d o 0))
end
def aM7(a:Int)(b:Int)(c:Int)(d:Int)(o:Int):Pt (Int×Int):=(.ok true (.ok true (.br (eqI o 0) (.ok true (.ok ((aMX b d)&&((yU (aDR a c) 1)&&true)) (.ok true (.ok true (.leaf (d,(fB (fB (bF c 16) (aMW b d)) (yT (aDR a c) 1)))))))) (.ok true (.ok true (.ok true (.ok (VK (V218_0.mk a b c d o 0)) (.ok true (.ok true (.ok true (.leaf ((VL a b c d o).s3,(fB (VL a b c d o).s2 (VL a b c d o).s13)))))))))))))
def aGK(a:Int)(b:Int)(c:Int)(d:Int)(o:Int):Int×Int:=hid (aM7 a b c d o).val
def bFN(a:Int)(b:Int)(c:Int)(d:Int)(o:Int):Bool:=hid (aM7 a b c d o).okv
def q218:=a3W (fun a b c d o=>bDZ a b c d o (aGK a b c d o)) bFN
theorem b27:fN (fun live x=>cY (nL bFM (lV x)) (fT R 0 2097152 (.loop live x))) F218.body:=(cI (l:=[([0,1,2,3,4,13],aIZ)]) (by kernel_rfl) ⟨fH (n:=34) (by kernel_rfl) fun σ σr t h ho hl=>bFL σ σr t h ho hl,trivial⟩)
theorem cFH:cP 100218 q218:=aLQ fun a b c d o hk=>tzl bYG aDO b27 [] [] true (aM7 a b c d o) (bDZ a b c d o) hk
def Q218:=bD 100218 q218 Q251
theorem aSV:QO Q218:=aH cFH aDO
section
variable(b:Int)
def aM8:Bool:=(AX (dD (bF b 8) 0) (dD (bF b 2) 0))
end
def aM9(a:Int)(b:Int):Pt (Bool):=(.ok true (.ok true (.ok true (.ok true (.br (eqI a 2) (.ok true (.ok true (.ok true (.leaf (eqI (bF b 5) 0))))) (.ok true (.br (eqI a 4) (.ok true (.ok true (.ok true (.leaf (eqI (bF b 1) 0))))) (.ok true (.br (eqI a 6) (.ok true (.ok true (.ok true (.leaf (eqI (bF b 4) 0))))) (.ok true (.br (eqI a 8) (.ok true (.ok true (.ok true (.leaf (eqI (bF b 2) 0))))) (.ok true (.br (eqI a 10) (.ok true (.ok true (.ok true (.leaf (eqI (bF b 8) 0))))) (.ok true (.br (eqI a 12) (.ok true (.ok true (.ok true (.leaf (aM8 b))))) (.ok true (.br (eqI a 14) (.ok true (.ok true (.ok true (.leaf (bif (aM8 b)then(eqI (bF b 4) 0)else false))))) (.ok true (.ok true (.ok true (.leaf true)))))))))))))))))))))
def a6E(a:Int)(b:Int):Bool:=hid (aM9 a b).val
def bNP(a:Int)(b:Int):Bool:=hid (aM9 a b).okv
def q279:=KC (fun a b=>WW a b (a6E a b)) bNP
theorem cFI:cP 100279 q279:=uG fun a b hk=>tz bZ3 aSV [] [] true (aM9 a b) (WW a b) hk
def Q279:=bD 100279 q279 Q218
theorem aSW:QO Q279:=aH cFI aSV
def aNA(a:Int)(b:Int):Pt (Bool):=(.ok true (.ok ((bNP (gI a 1) b)&&true) (.ok true (.ok true (.leaf (AX (a6E (gI a 1) b) (eqI (bF a 1) 0)))))))
def aNB(a:Int)(b:Int):Bool:=hid (aNA a b).val
def bNQ(a:Int)(b:Int):Bool:=hid (aNA a b).okv
def q252:=KC (fun a b=>WW a b (aNB a b)) bNQ
theorem cFJ:cP 100252 q252:=uG fun a b hk=>tz bZC aSW [] [] true (aNA a b) (WW a b) hk
def Q252:=bD 100252 q252 Q279
theorem aSX:QO Q252:=aH cFJ aSW
def cFK(b:Int)(a:aQ):List SV:=[(.one (.ptr 0 0 0)),(.one (li b))]
def cFL(b:Int)(a:aQ):List Blk:=[.box [.sl 1 0 (ln a.fr.D), .sl 2 0 (ln a.fr.A),li a.fr.Other,li a.fr.PC,li a.fr.Flags,li a.fr.Mask, .lit (.bool a.fr.Super), .lit (.bool a.fr.Trace), .sl 3 0 (ln a.fbus.Bytes), .sl 4 0 (ln a.fbus.Log), .lit (.bool a.fstop),li a.ffault.Vector,li a.ffault.PC,li a.ffault.Addr,li a.ffault.Word, .lit (.bool a.ffault.Write)], .lst 1 a.fr.D, .lst 1 a.fr.A, .lst 1 a.fbus.Bytes, .lst 5 a.fbus.Log]
def bFO(N:Int→aQ→SV×List Blk)(K:Int→aQ→Bool):List SV→List Blk→Option ((SV×List Blk)×Bool)
 |[(.one (.ptr 0 0 0)),(.one (li c0))],[.box [.sl 1 0 l1, .sl 2 0 l2,li c1,li c2,li c3,li c4, .lit (.bool c5), .lit (.bool c6), .sl 3 0 l3, .sl 4 0 l4, .lit (.bool c7),li c8,li c9,li c10,li c11, .lit (.bool c12)], .lst 1 c_1, .lst 1 c_2, .lst 1 c_3, .lst 5 c_4]=>some (N c0 (aQ.mk (aJ.mk c_1 c_2 c1 c2 c3 c4 c5 c6) (bM.mk c_3 c_4) c7 (aL.mk c8 c9 c10 c11 c12)),dZ l1 (ln c_1)&&(dZ l2 (ln c_2)&&(dZ l3 (ln c_3)&&(dZ l4 (ln c_4)&&(K c0 (aQ.mk (aJ.mk c_1 c_2 c1 c2 c3 c4 c5 c6) (bM.mk c_3 c_4) c7 (aL.mk c8 c9 c10 c11 c12)))))))
 |_,_=>none
theorem a6F{N:Int→aQ→SV×List Blk}{K:Int→aQ→Bool}{f:Nat}(h: ∀(b:Int)(a:aQ),K b a=true→dQ R f (cFK b a) (cFL b a)=some (N b a)):cP f (bFO N K):=fun args hp r e=>by
 unfold bFO at e;split at e
 ·rename_i c0 l1 l2 c1 c2 c3 c4 c5 c6 l3 l4 c7 c8 c9 c10 c11 c12 c_1 c_2 c_3 c_4;obtain⟨hr,hk⟩:=qp (qi e);obtain⟨d0,hk0⟩:=bI hk;obtain⟨d1,hk1⟩:=bI hk0;obtain⟨d2,hk2⟩:=bI hk1;obtain⟨d3,hk3⟩:=bI hk2;obtain rfl:=of_decide_eq_true d0;obtain rfl:=of_decide_eq_true d1;obtain rfl:=of_decide_eq_true d2;obtain rfl:=of_decide_eq_true d3;rw[←hr];exact h c0 (aQ.mk (aJ.mk c_1 c_2 c1 c2 c3 c4 c5 c6) (bM.mk c_3 c_4) c7 (aL.mk c8 c9 c10 c11 c12)) hk3
 ·simp at e
section
variable(b:Int)(a:aQ)
def vJ:Int:=(bF (cM (bR a.fr.A 3 0) 2) 65535)
def a6G:Nat:=(ln (wV 2 2 (vJ a) b a).1.fr.A)
def aSY:Bool:=(bT (wV 2 2 (vJ a) b a).1 true)
def bH6:Nat:=(ln (wV 2 2 (vJ a) b a).1.fr.D)
def a6H:List Row:=(List.set (wV 2 2 (vJ a) b a).1.fr.A 3 (aY (vJ a)))
def a6I:Bool:=((e1 (bH6 b a))&&((dZ (a6G b a) (ln (a6H b a)))&&(bN (wV 2 2 (vJ a) b a).1.fbus true)))
end
def T79(b:Int)(a:aQ):Pt (aQ):=(.ok ((ltI 3 (bX a.fr.A))&&((dV [.int .i64] a.fr.A 3 0)&&true)) (.ok ((cA a (aC8 2 2 (vJ a) b a))&&true) (.ok ((cA (wV 2 2 (vJ a) b a).1 (KO (wV 2 2 (vJ a) b a).1))&&true) (.br (CT (wV 2 2 (vJ a) b a).1) (.ok ((ltI 3 (bX (wV 2 2 (vJ a) b a).1.fr.A))&&(((blt 3 (a6G b a))&&(j7 (j8 (wV 2 2 (vJ a) b a).1.fr.A 3) 1))&&true)) (.ok ((((aSY b a)&&(a6I b a))&&true)&&((a6I b a)&&true)) (.leaf {(wV 2 2 (vJ a) b a).1 with fr:={(wV 2 2 (vJ a) b a).1.fr with A:=(a6H b a)}}))) (.ok (dd (aSY b a) ((aSY b a)&&true)) (.leaf (wV 2 2 (vJ a) b a).1))))))
def g79(b:Int)(a:aQ):aQ:=hid (T79 b a).val
def k79(b:Int)(a:aQ):Bool:=hid (T79 b a).okv
def n79(b:Int)(a:aQ)(r:aQ):SV×List Blk:=((.tup []),[.box [.sl 1 0 (ln r.fr.D), .sl 2 0 (ln r.fr.A),li r.fr.Other,li r.fr.PC,li r.fr.Flags,li r.fr.Mask, .lit (.bool r.fr.Super), .lit (.bool r.fr.Trace), .sl 3 0 (ln r.fbus.Bytes), .sl 4 0 (ln r.fbus.Log), .lit (.bool r.fstop),li r.ffault.Vector,li r.ffault.PC,li r.ffault.Addr,li r.ffault.Word, .lit (.bool r.ffault.Write)], .lst 1 r.fr.D, .lst 1 r.fr.A, .lst 1 r.fbus.Bytes, .lst 5 r.fbus.Log])
def q79:=bFO (fun b a=>n79 b a (g79 b a)) k79
theorem t79:cP 79 q79:=a6F fun b a hk=>tc b71 aSX [(9,K1),(10,K0),(11,K0),(24,K1),(26,K0),(1000001,[])] [] true (T79 b a) (n79 b a) hk
def Q79:=bD 79 q79 Q252
theorem a6J:QO Q79:=aH t79 aSX
def cFM(b:aS)(c:Int)(a:aQ):List SV:=[(.one (.ptr 0 0 0)),(.agg [li b.Op,li b.Size,li b.Reg,li b.Ea.Mode,li b.Ea.Reg,li b.Ea.Ext,li b.Sub]),(.one (li c))]
def cFN(b:aS)(c:Int)(a:aQ):List Blk:=[.box [.sl 1 0 (ln a.fr.D), .sl 2 0 (ln a.fr.A),li a.fr.Other,li a.fr.PC,li a.fr.Flags,li a.fr.Mask, .lit (.bool a.fr.Super), .lit (.bool a.fr.Trace), .sl 3 0 (ln a.fbus.Bytes), .sl 4 0 (ln a.fbus.Log), .lit (.bool a.fstop),li a.ffault.Vector,li a.ffault.PC,li a.ffault.Addr,li a.ffault.Word, .lit (.bool a.ffault.Write)], .lst 1 a.fr.D, .lst 1 a.fr.A, .lst 1 a.fbus.Bytes, .lst 5 a.fbus.Log]
def bFP(N:aS→Int→aQ→SV×List Blk)(K:aS→Int→aQ→Bool):List SV→List Blk→Option ((SV×List Blk)×Bool)
 |[(.one (.ptr 0 0 0)),(.agg [li c0,li c1,li c2,li c3,li c4,li c5,li c6]),(.one (li c7))],[.box [.sl 1 0 l1, .sl 2 0 l2,li c8,li c9,li c10,li c11, .lit (.bool c12), .lit (.bool c13), .sl 3 0 l3, .sl 4 0 l4, .lit (.bool c14),li c15,li c16,li c17,li c18, .lit (.bool c19)], .lst 1 c_1, .lst 1 c_2, .lst 1 c_3, .lst 5 c_4]=>some (N (aS.mk c0 c1 c2 (aF.mk c3 c4 c5) c6) c7 (aQ.mk (aJ.mk c_1 c_2 c8 c9 c10 c11 c12 c13) (bM.mk c_3 c_4) c14 (aL.mk c15 c16 c17 c18 c19)),dZ l1 (ln c_1)&&(dZ l2 (ln c_2)&&(dZ l3 (ln c_3)&&(dZ l4 (ln c_4)&&(K (aS.mk c0 c1 c2 (aF.mk c3 c4 c5) c6) c7 (aQ.mk (aJ.mk c_1 c_2 c8 c9 c10 c11 c12 c13) (bM.mk c_3 c_4) c14 (aL.mk c15 c16 c17 c18 c19)))))))
 |_,_=>none
theorem a6K{N:aS→Int→aQ→SV×List Blk}{K:aS→Int→aQ→Bool}{f:Nat}(h: ∀(b:aS)(c:Int)(a:aQ),K b c a=true→dQ R f (cFM b c a) (cFN b c a)=some (N b c a)):cP f (bFP N K):=fun args hp r e=>by
 unfold bFP at e;split at e
 ·rename_i c0 c1 c2 c3 c4 c5 c6 c7 l1 l2 c8 c9 c10 c11 c12 c13 l3 l4 c14 c15 c16 c17 c18 c19 c_1 c_2 c_3 c_4;obtain⟨hr,hk⟩:=qp (qi e);obtain⟨d0,hk0⟩:=bI hk;obtain⟨d1,hk1⟩:=bI hk0;obtain⟨d2,hk2⟩:=bI hk1;obtain⟨d3,hk3⟩:=bI hk2;obtain rfl:=of_decide_eq_true d0;obtain rfl:=of_decide_eq_true d1;obtain rfl:=of_decide_eq_true d2;obtain rfl:=of_decide_eq_true d3;rw[←hr];exact h (aS.mk c0 c1 c2 (aF.mk c3 c4 c5) c6) c7 (aQ.mk (aJ.mk c_1 c_2 c8 c9 c10 c11 c12 c13) (bM.mk c_3 c_4) c14 (aL.mk c15 c16 c17 c18 c19)) hk3
 ·simp at e
section
variable(b:aS)(a:aQ)
def EB:Bool:=(((bT a true)&&(bT a true))&&true)
def rB:aQ:=(g79 (iK 2 b.Ea a).1.fr.PC (iK 2 b.Ea a).1)
def EC:Bool:=(((bT (rB b a) true)&&(bT (rB b a) true))&&true)
def ED:Bool:=(((bT (iK 2 b.Ea a).1 true)&&(bT (iK 2 b.Ea a).1 true))&&true)
end
def a6L(b:aS)(c:Int)(a:aQ):Pt (aQ):=(.ok true (.ok true (.br (eqI b.Op 13) (.ok ((bNQ (bE b.Sub (dE 8 b.Reg)) a.fr.Flags)&&true) (.br (aNB (bE b.Sub (dE 8 b.Reg)) a.fr.Flags) (.ok true (.ok (EB a) (.leaf {a with fr:={a.fr with PC:=(bF (bE (bE c 2) b.Ea.Ext) 65535)}}))) (.ok (EB a) (.leaf a)))) (.ok ((cA a (aXI 2 b.Ea a))&&true) (.ok true (.br (eqI b.Sub 1) (.ok ((cA (iK 2 b.Ea a).1 (k79 (iK 2 b.Ea a).1.fr.PC (iK 2 b.Ea a).1))&&true) (.ok ((cA (rB b a) (KO (rB b a)))&&true) (.br (CT (rB b a)) (.ok true (.ok (EC b a) (.leaf {(rB b a)with fr:={(rB b a).fr with PC:=(iK 2 b.Ea a).2}}))) (.ok (EC b a) (.leaf (rB b a)))))) (.ok ((cA (iK 2 b.Ea a).1 (KO (iK 2 b.Ea a).1))&&true) (.br (CT (iK 2 b.Ea a).1) (.ok true (.ok (ED b a) (.leaf {(iK 2 b.Ea a).1 with fr:={(iK 2 b.Ea a).1.fr with PC:=(iK 2 b.Ea a).2}}))) (.ok (ED b a) (.leaf (iK 2 b.Ea a).1))))))))))
def a6M(b:aS)(c:Int)(a:aQ):aQ:=hid (a6L b c a).val
def bNR(b:aS)(c:Int)(a:aQ):Bool:=hid (a6L b c a).okv
def bFQ(b:aS)(c:Int)(a:aQ)(r:aQ):SV×List Blk:=((.tup []),[.box [.sl 1 0 (ln r.fr.D), .sl 2 0 (ln r.fr.A),li r.fr.Other,li r.fr.PC,li r.fr.Flags,li r.fr.Mask, .lit (.bool r.fr.Super), .lit (.bool r.fr.Trace), .sl 3 0 (ln r.fbus.Bytes), .sl 4 0 (ln r.fbus.Log), .lit (.bool r.fstop),li r.ffault.Vector,li r.ffault.PC,li r.ffault.Addr,li r.ffault.Word, .lit (.bool r.ffault.Write)], .lst 1 r.fr.D, .lst 1 r.fr.A, .lst 1 r.fbus.Bytes, .lst 5 r.fbus.Log])
def q220:=bFP (fun b c a=>bFQ b c a (a6M b c a)) bNR
theorem cFO:cP 220 q220:=a6K fun b c a hk=>tc bYI a6J [(8,K0),(11,K0),(13,K0),(20,K0),(27,K0),(35,K4),(38,K0),(45,K0)] [] true (a6L b c a) (bFQ b c a) hk
def Q220:=bD 220 q220 Q79
theorem aSZ:QO Q220:=aH cFO a6J
section
variable(a:aQ)
def oT:aQ×Int:=(wV 1 2 (bR a.fr.A 3 0) 0 a)
def a6N:List Row:=(List.set (oT a).1.fr.A 3 (aY (bF (bE (bR (oT a).1.fr.A 3 0) 2) 65535)))
def a6O:Bool:=((e1 (ln (oT a).1.fr.D))&&((dZ (ln (oT a).1.fr.A) (ln (a6N a)))&&(bN (oT a).1.fbus true)))
end
def T85(a:aQ):Pt (aQ×Int):=(.ok true (.ok ((ltI 3 (bX a.fr.A))&&((dV [.int .i64] a.fr.A 3 0)&&((cA a (aC8 1 2 (bR a.fr.A 3 0) 0 a))&&true))) (.ok ((cA (oT a).1 (KO (oT a).1))&&true) (.br (CT (oT a).1) (.ok (((ltI 3 (bX (oT a).1.fr.A))&&((dV [.int .i64] (oT a).1.fr.A 3 0)&&((ltI 3 (bX (oT a).1.fr.A))&&(((blt 3 (ln (oT a).1.fr.A))&&(j7 (j8 (oT a).1.fr.A 3) 1))&&true))))&&true) (.ok true (.ok ((((bT (oT a).1 true)&&(a6O a))&&true)&&((a6O a)&&true)) (.leaf ({(oT a).1 with fr:={(oT a).1.fr with A:=(a6N a)}},(oT a).2))))) (.ok true (.ok (dd (bT (oT a).1 true) ((bT (oT a).1 true)&&true)) (.leaf ((oT a).1,(oT a).2))))))))
def xS(a:aQ):aQ×Int:=hid (T85 a).val
def k85(a:aQ):Bool:=hid (T85 a).okv
def n85(a:aQ)(r:aQ×Int):SV×List Blk:=((.one (li r.2)),[.box [.sl 1 0 (ln r.1.fr.D), .sl 2 0 (ln r.1.fr.A),li r.1.fr.Other,li r.1.fr.PC,li r.1.fr.Flags,li r.1.fr.Mask, .lit (.bool r.1.fr.Super), .lit (.bool r.1.fr.Trace), .sl 3 0 (ln r.1.fbus.Bytes), .sl 4 0 (ln r.1.fbus.Log), .lit (.bool r.1.fstop),li r.1.ffault.Vector,li r.1.ffault.PC,li r.1.ffault.Addr,li r.1.ffault.Word, .lit (.bool r.1.ffault.Write)], .lst 1 r.1.fr.D, .lst 1 r.1.fr.A, .lst 1 r.1.fbus.Bytes, .lst 5 r.1.fbus.Log])
def q85:=aXE (fun a=>n85 a (xS a)) k85
theorem t85:cP 85 q85:=aC9 fun a hk=>tc b76 aSZ [(9,K1),(10,K0),(11,K0),(19,K1),(24,K1),(25,K0),(26,K0),(29,K0),(1000001,[])] [] true (T85 a) (n85 a) hk
def Q85:=bD 85 q85 Q220
theorem a6P:QO Q85:=aH t85 aSZ
def cFP(a:aJ)(b:Int):List SV:=[(.agg [.sl 0 0 (ln a.D), .sl 1 0 (ln a.A),li a.Other,li a.PC,li a.Flags,li a.Mask, .lit (.bool a.Super), .lit (.bool a.Trace)]),(.one (li b))]
def cFQ(a:aJ)(b:Int):List Blk:=[.lst 1 a.D, .lst 1 a.A]
def bNS(N:aJ→Int→SV×List Blk)(K:aJ→Int→Bool):List SV→List Blk→Option ((SV×List Blk)×Bool)
 |[(.agg [.sl 0 0 l0, .sl 1 0 l1,li c0,li c1,li c2,li c3, .lit (.bool c4), .lit (.bool c5)]),(.one (li c6))],[.lst 1 c_0, .lst 1 c_1]=>some (N (aJ.mk c_0 c_1 c0 c1 c2 c3 c4 c5) c6,dZ l0 (ln c_0)&&(dZ l1 (ln c_1)&&(K (aJ.mk c_0 c_1 c0 c1 c2 c3 c4 c5) c6)))
 |_,_=>none
theorem bNT{N:aJ→Int→SV×List Blk}{K:aJ→Int→Bool}{f:Nat}(h: ∀(a:aJ)(b:Int),K a b=true→dQ R f (cFP a b) (cFQ a b)=some (N a b)):cP f (bNS N K):=fun args hp r e=>by
 unfold bNS at e;split at e
 ·rename_i l0 l1 c0 c1 c2 c3 c4 c5 c6 c_0 c_1;obtain⟨hr,hk⟩:=qp (qi e);obtain⟨d0,hk0⟩:=bI hk;obtain⟨d1,hk1⟩:=bI hk0;obtain rfl:=of_decide_eq_true d0;obtain rfl:=of_decide_eq_true d1;rw[←hr];exact h (aJ.mk c_0 c_1 c0 c1 c2 c3 c4 c5) c6 hk1
 ·simp at e
section
variable(a:aJ)
def aNC:Bool:=((e1 (ln a.D))&&((dZ (ln a.A) (ln (List.set a.A 3 (aY a.Other))))&&true))
end
def a6Q(a:aJ)(b:Int):Pt (aJ):=(.ok true (.ok true (.ok true (.br (!(AX (dD (bF b 256) 0) a.Super)) (.ok ((ltI 3 (bX a.A))&&((dV [.int .i64] a.A 3 0)&&true)) (.ok ((ltI 3 (bX a.A))&&(((blt 3 (ln a.A))&&(j7 (j8 a.A 3) 1))&&true)) (.ok true (.ok true (.ok true (.ok true (.ok true (.ok true (.ok (((aNC a)&&((aO a true)&&true))&&((aNC a)&&true)) (.leaf (aJ.mk a.D (List.set a.A 3 (aY a.Other)) (bR a.A 3 0) a.PC (bF b 31) (bF (fF b 5) 7) (dD (bF b 256) 0) (dD (bF b 512) 0)))))))))))) (.ok true (.ok true (.ok true (.ok true (.ok true (.ok (((aO a true)&&((aO a true)&&true))&&((aO a true)&&true)) (.leaf {a with Flags:=(bF b 31),Mask:=(bF (fF b 5) 7),Super:=(dD (bF b 256) 0),Trace:=(dD (bF b 512) 0)})))))))))))
def aGL(a:aJ)(b:Int):aJ:=hid (a6Q a b).val
def aXJ(a:aJ)(b:Int):Bool:=hid (a6Q a b).okv
def b3B(a:aJ)(b:Int)(r:aJ):SV×List Blk:=((.agg [.sl 0 0 (ln r.D), .sl 1 0 (ln r.A),li r.Other,li r.PC,li r.Flags,li r.Mask, .lit (.bool r.Super), .lit (.bool r.Trace)]),[.lst 1 r.D, .lst 1 r.A])
def q167:=bNS (fun a b=>b3B a b (aGL a b)) aXJ
theorem cFR:cP 167 q167:=bNT fun a b hk=>tc bW7 a6P [(12,rV),(15,K1),(16,K0),(17,K0),(19,K1),(21,K0),(22,K0),(38,K6),(1000001,[])] [] true (a6Q a b) (b3B a b) hk
def Q167:=bD 167 q167 Q85
theorem aS0:QO Q167:=aH cFR a6P
def a6R(b:Int)(a:aQ):Pt (aQ):=(.ok true (.ok true (.ok (((bT a true)&&(bT a true))&&true) (.leaf {a with ffault:={a.ffault with Vector:=b,PC:=a.fr.PC}}))))
def bFR(b:Int)(a:aQ):aQ:=hid (a6R b a).val
def bFS(b:Int)(a:aQ):Bool:=hid (a6R b a).okv
def q253:=bFO (fun b a=>n79 b a (bFR b a)) bFS
theorem cFS:cP 253 q253:=a6F fun b a hk=>tc bZD aS0 [(14,K0)] [] true (a6R b a) (n79 b a) hk
def Q253:=bD 253 q253 Q167
theorem aS1:QO Q253:=aH cFS aS0
def a6S(a:Int):Pt (Int×Bool):=(.ok true (.ok ((a49 2 a)&&true) (.br (!(a48 2 a)) (.ok true (.ok true (.ok true (.leaf (0,false))))) (.ok true (.ok true (.ok true (.leaf ((fB (fF a 8) (m9 (bF a 255) 8)),true))))))))
def bFT(a:Int):Int×Bool:=hid (a6S a).val
def bNU(a:Int):Bool:=hid (a6S a).okv
def bFU(a:Int)(r:Int×Bool):SV×List Blk:=((.tup [(.one (li r.1)),(.one (.lit (.bool r.2)))]),[])
def q254:=CM (fun a=>bFU a (bFT a)) bNU
theorem cFT:cP 100254 q254:=hH fun a hk=>tz bZE aS1 [] [] true (a6S a) (bFU a) hk
def Q254:=bD 100254 q254 Q253
theorem aS2:QO Q254:=aH cFT aS1
def cFU(b:Int)(c:Int)(d:Int)(a:aQ):List SV:=[(.one (.ptr 0 0 0)),(.one (li b)),(.one (li c)),(.one (li d))]
def cFV(b:Int)(c:Int)(d:Int)(a:aQ):List Blk:=[.box [.sl 1 0 (ln a.fr.D), .sl 2 0 (ln a.fr.A),li a.fr.Other,li a.fr.PC,li a.fr.Flags,li a.fr.Mask, .lit (.bool a.fr.Super), .lit (.bool a.fr.Trace), .sl 3 0 (ln a.fbus.Bytes), .sl 4 0 (ln a.fbus.Log), .lit (.bool a.fstop),li a.ffault.Vector,li a.ffault.PC,li a.ffault.Addr,li a.ffault.Word, .lit (.bool a.ffault.Write)], .lst 1 a.fr.D, .lst 1 a.fr.A, .lst 1 a.fbus.Bytes, .lst 5 a.fbus.Log]
def bNV(N:Int→Int→Int→aQ→SV×List Blk)(K:Int→Int→Int→aQ→Bool):List SV→List Blk→Option ((SV×List Blk)×Bool)
 |[(.one (.ptr 0 0 0)),(.one (li c0)),(.one (li c1)),(.one (li c2))],[.box [.sl 1 0 l1, .sl 2 0 l2,li c3,li c4,li c5,li c6, .lit (.bool c7), .lit (.bool c8), .sl 3 0 l3, .sl 4 0 l4, .lit (.bool c9),li c10,li c11,li c12,li c13, .lit (.bool c14)], .lst 1 c_1, .lst 1 c_2, .lst 1 c_3, .lst 5 c_4]=>some (N c0 c1 c2 (aQ.mk (aJ.mk c_1 c_2 c3 c4 c5 c6 c7 c8) (bM.mk c_3 c_4) c9 (aL.mk c10 c11 c12 c13 c14)),dZ l1 (ln c_1)&&(dZ l2 (ln c_2)&&(dZ l3 (ln c_3)&&(dZ l4 (ln c_4)&&(K c0 c1 c2 (aQ.mk (aJ.mk c_1 c_2 c3 c4 c5 c6 c7 c8) (bM.mk c_3 c_4) c9 (aL.mk c10 c11 c12 c13 c14)))))))
 |_,_=>none
theorem bNW{N:Int→Int→Int→aQ→SV×List Blk}{K:Int→Int→Int→aQ→Bool}{f:Nat}(h: ∀(b:Int)(c:Int)(d:Int)(a:aQ),K b c d a=true→dQ R f (cFU b c d a) (cFV b c d a)=some (N b c d a)):cP f (bNV N K):=fun args hp r e=>by
 unfold bNV at e;split at e
 ·rename_i c0 c1 c2 l1 l2 c3 c4 c5 c6 c7 c8 l3 l4 c9 c10 c11 c12 c13 c14 c_1 c_2 c_3 c_4;obtain⟨hr,hk⟩:=qp (qi e);obtain⟨d0,hk0⟩:=bI hk;obtain⟨d1,hk1⟩:=bI hk0;obtain⟨d2,hk2⟩:=bI hk1;obtain⟨d3,hk3⟩:=bI hk2;obtain rfl:=of_decide_eq_true d0;obtain rfl:=of_decide_eq_true d1;obtain rfl:=of_decide_eq_true d2;obtain rfl:=of_decide_eq_true d3;rw[←hr];exact h c0 c1 c2 (aQ.mk (aJ.mk c_1 c_2 c3 c4 c5 c6 c7 c8) (bM.mk c_3 c_4) c9 (aL.mk c10 c11 c12 c13 c14)) hk3
 ·simp at e
section
variable(b:Int)(c:Int)(d:Int)(a:aQ)
def aND:aJ:=(KP {a.fr with Flags:=(iF b a.fr.Flags d)} b c d)
def aNE:Bool:=(aO (aND b c d a) (bN a.fbus true))
end
def a6T(b:Int)(c:Int)(d:Int)(a:aQ):Pt (aQ):=(.ok ((D9 b a.fr.Flags d)&&true) (.ok ((((aO a.fr true)&&((aO a.fr true)&&true))&&(aO a.fr (KQ {a.fr with Flags:=(iF b a.fr.Flags d)} b c d)))&&true) (.ok (((aNE b c d a)&&(aNE b c d a))&&true) (.leaf {a with fr:=(aND b c d a)}))))
def aXK(b:Int)(c:Int)(d:Int)(a:aQ):aQ:=hid (a6T b c d a).val
def aXL(b:Int)(c:Int)(d:Int)(a:aQ):Bool:=hid (a6T b c d a).okv
def b3C(b:Int)(c:Int)(d:Int)(a:aQ)(r:aQ):SV×List Blk:=((.tup []),[.box [.sl 1 0 (ln r.fr.D), .sl 2 0 (ln r.fr.A),li r.fr.Other,li r.fr.PC,li r.fr.Flags,li r.fr.Mask, .lit (.bool r.fr.Super), .lit (.bool r.fr.Trace), .sl 3 0 (ln r.fbus.Bytes), .sl 4 0 (ln r.fbus.Log), .lit (.bool r.fstop),li r.ffault.Vector,li r.ffault.PC,li r.ffault.Addr,li r.ffault.Word, .lit (.bool r.ffault.Write)], .lst 1 r.fr.D, .lst 1 r.fr.A, .lst 1 r.fbus.Bytes, .lst 5 r.fbus.Log])
def q255:=bNV (fun b c d a=>b3C b c d a (aXK b c d a)) aXL
theorem cFW:cP 255 q255:=bNW fun b c d a hk=>tc bZF aS2 [(14,K0),(24,K6)] [] true (a6T b c d a) (b3C b c d a) hk
def Q255:=bD 255 q255 Q254
theorem aS3:QO Q255:=aH cFW aS2
def a6U(a:Int):Pt (Int×Bool):=(.ok true (.ok ((a49 1 a)&&true) (.br (!(a48 1 a)) (.ok true (.ok true (.ok true (.leaf (0,false))))) (.ok ((aDL 1 a)&&true) (.ok true (.ok true (.leaf ((bF (aDK 1 a) 65535),true))))))))
def bFV(a:Int):Int×Bool:=hid (a6U a).val
def bNX(a:Int):Bool:=hid (a6U a).okv
def q256:=CM (fun a=>bFU a (bFV a)) bNX
theorem cFX:cP 100256 q256:=hH fun a hk=>tz bZG aS3 [] [] true (a6U a) (bFU a) hk
def Q256:=bD 100256 q256 Q255
theorem aS4:QO Q256:=aH cFX aS3
section
variable(b:aS)(a:aQ)
def wY:Bool:=(((bT (xS a).1 true)&&(bT (xS a).1 true))&&true)
def wZ:aJ:=(aGL {(xS (xS a).1).1.fr with PC:=(xS (xS a).1).2} (bF (xS a).2 1023))
def w6:Bool:=(aO (wZ a) (bN (xS (xS a).1).1.fbus true))
def w7:Bool:=(aO (aGL a.fr b.Ea.Ext) (bN a.fbus true))
def uW:aQ:=(bFR (bE 18 b.Reg) a)
def w8:Bool:=((leI 0 b.Reg)&&(ltI b.Reg (bX a.fr.D)))
def w9:Bool:=(dV [.int .i64] a.fr.D (0+(iN b.Reg)) 0)
def uX:aQ:=(aXK 2 b.Reg (bFT (bR a.fr.D (0+(iN b.Reg)) 0)).1 a)
def uY:Int:=(bF (bR a.fr.D (0+(iN b.Reg)) 0) 255)
def uZ:aQ:=(aXK 2 b.Reg (bFV (uY b a)).1 a)
end
def a6V(b:aS)(a:aQ):Pt (aQ):=(.ok true (.ok true (.ok true (.br (eqI b.Sub 0) (.ok ((cA a (k85 a))&&true) (.ok true (.ok (wY a) (.leaf {(xS a).1 with fr:={(xS a).1.fr with PC:=(xS a).2}})))) (.ok true (.br (eqI b.Sub 1) (.ok ((cA a (k85 a))&&true) (.ok ((cA (xS a).1 (KO (xS a).1))&&true) (.br (!(CT (xS a).1)) (.ok (wY a) (.leaf (xS a).1)) (.ok ((cA (xS a).1 (k85 (xS a).1))&&true) (.ok ((cA (xS (xS a).1).1 (KO (xS (xS a).1).1))&&true) (.br (CT (xS (xS a).1).1) (.ok true (.ok ((((aO (xS (xS a).1).1.fr true)&&((aO (xS (xS a).1).1.fr true)&&true))&&(aO (xS (xS a).1).1.fr (aXJ {(xS (xS a).1).1.fr with PC:=(xS (xS a).1).2} (bF (xS a).2 1023))))&&true) (.ok (((w6 a)&&(w6 a))&&true) (.leaf {(xS (xS a).1).1 with fr:=(wZ a)})))) (.ok (((bT (xS (xS a).1).1 true)&&(bT (xS (xS a).1).1 true))&&true) (.leaf (xS (xS a).1).1)))))))) (.ok true (.br (eqI b.Sub 3) (.ok (((((aO a.fr true)&&((aO a.fr true)&&true))&&(aO a.fr (aXJ a.fr b.Ea.Ext)))&&true)&&true) (.ok true (.ok (((w7 b a)&&(w7 b a))&&true) (.leaf {a with fr:=(aGL a.fr b.Ea.Ext),fstop:=true})))) (.ok true (.br (eqI b.Sub 4) (.ok ((cA a (bFS (bE 18 b.Reg) a))&&true) (.ok (((bT (uW b a) true)&&(bT (uW b a) true))&&true) (.leaf (uW b a)))) (.ok true (.br (eqI b.Sub 5) (.ok ((w8 b a)&&((w9 b a)&&((bNU (bR a.fr.D (0+(iN b.Reg)) 0))&&true))) (.ok ((cA a (aXL 2 b.Reg (bFT (bR a.fr.D (0+(iN b.Reg)) 0)).1 a))&&true) (.ok (((bT (uX b a) true)&&(bT (uX b a) true))&&true) (.leaf (uX b a))))) (.ok true (.br (eqI b.Sub 6) (.ok ((w8 b a)&&((w9 b a)&&((bNX (uY b a))&&true))) (.ok ((cA a (aXL 2 b.Reg (bFV (uY b a)).1 a))&&true) (.ok (((bT (uZ b a) true)&&(bT (uZ b a) true))&&true) (.leaf (uZ b a))))) (.ok (((bT a true)&&(bT a true))&&true) (.leaf a))))))))))))))))
def a6W(b:aS)(a:aQ):aQ:=hid (a6V b a).val
def bNY(b:aS)(a:aQ):Bool:=hid (a6V b a).okv
def q221:=aM0 (fun b a=>XD b a (a6W b a)) bNY
theorem cFY:cP 221 q221:=VI fun b a hk=>tc bYJ aS4 [(12,K0),(42,K6),(54,K6),(57,K0),(68,K0),(78,K1),(80,K0),(81,K0),(82,K0),(88,K0),(98,K1),(100,K0),(101,K0),(102,K0),(109,K0)] [] true (a6V b a) (XD b a) hk
def Q221:=bD 221 q221 Q256
theorem aS5:QO Q221:=aH cFY aS4
section
variable(b:aS)(a:aQ)
def EE:Int:=(dE (bR (cO 2 b.Ea a).1.fr.D (0+(iN b.Reg)) 0) (cO 2 b.Ea a).2.1)
def B1:aQ:=(aXK 2 b.Reg (bF (EE b a) 65535) (cO 2 b.Ea a).1)
def IM:aQ:=(bFR 5 (cO 2 b.Ea a).1)
def NZ:Int:=(lW (bR (cO 2 b.Ea a).1.fr.D (0+(iN b.Reg)) 0) (cO 2 b.Ea a).2.1)
def IN:aQ:=(aXK 2 b.Reg (NZ b a) (cO 2 b.Ea a).1)
end
def a6X(b:aS)(a:aQ):Pt (aQ):=(.ok true (.ok ((cA a (aXH 2 b.Ea a))&&true) (.ok ((cA (cO 2 b.Ea a).1 (KO (cO 2 b.Ea a).1))&&true) (.br (!(CT (cO 2 b.Ea a).1)) (.ok (((bT (cO 2 b.Ea a).1 true)&&(bT (cO 2 b.Ea a).1 true))&&true) (.leaf (cO 2 b.Ea a).1)) (.ok (((leI 0 b.Reg)&&(ltI b.Reg (bX (cO 2 b.Ea a).1.fr.D)))&&((dV [.int .i64] (cO 2 b.Ea a).1.fr.D (0+(iN b.Reg)) 0)&&true)) (.ok true (.br (eqI b.Op 16) (.ok true (.ok ((cA (cO 2 b.Ea a).1 (aXL 2 b.Reg (bF (EE b a) 65535) (cO 2 b.Ea a).1))&&true) (.ok (((yU (pG (EE b a) 65535) 2)&&true)&&true) (.ok (((bT (B1 b a) true)&&(bT (B1 b a) true))&&true) (.leaf {(B1 b a)with fr:={(B1 b a).fr with Flags:=(fB (B1 b a).fr.Flags (yT (pG (EE b a) 65535) 2))}}))))) (.ok true (.br (eqI (cO 2 b.Ea a).2.1 0) (.ok ((cA (cO 2 b.Ea a).1 (bFS 5 (cO 2 b.Ea a).1))&&true) (.ok (((bT (IM b a) true)&&(bT (IM b a) true))&&true) (.leaf (IM b a)))) (.ok (((dD (cO 2 b.Ea a).2.1 0)&&((cA (cO 2 b.Ea a).1 (aXL 2 b.Reg (NZ b a) (cO 2 b.Ea a).1))&&true))&&true) (.ok (((bT (IN b a) true)&&(bT (IN b a) true))&&true) (.leaf (IN b a)))))))))))))
def a6Y(b:aS)(a:aQ):aQ:=hid (a6X b a).val
def bNZ(b:aS)(a:aQ):Bool:=hid (a6X b a).okv
def q222:=aM0 (fun b a=>XD b a (a6Y b a)) bNZ
theorem cFZ:cP 222 q222:=VI fun b a hk=>tc bYK aS5 [(11,K4),(22,K1),(24,K0),(25,K0),(26,K0),(28,K0),(35,K0),(43,K0),(57,K0)] [] true (a6X b a) (XD b a) hk
def Q222:=bD 222 q222 Q221
theorem aS6:QO Q222:=aH cFZ aS5
def a6Z(a:Int):Pt (Bool):=(.ok true (.ok ((yV a 0 255)&&true) (.ok true (.ok true (.leaf (bif (bif (wG a 0 255)then(leI (fF a 4) 9)else false)then(leI (bF a 15) 9)else false))))))
def jG(a:Int):Bool:=hid (a6Z a).val
def bFW(a:Int):Bool:=hid (a6Z a).okv
def q257:=CM (fun a=>j9 a (jG a)) bFW
theorem cF0:cP 100257 q257:=hH fun a hk=>tz bZH aS6 [] [] true (a6Z a) (j9 a) hk
def Q257:=bD 100257 q257 Q222
theorem aS7:QO Q257:=aH cF0 aS6
def a60(a:Int):Pt (Int):=(.ok true (.ok true (.ok true (.ok true (.leaf (bE (dE (fF a 4) 10) (bF a 15)))))))
def KR(a:Int):Int:=hid (a60 a).val
def aXM(a:Int):Bool:=hid (a60 a).okv
def q280:=CM (fun a=>xQ a (KR a)) aXM
theorem cF1:cP 100280 q280:=hH fun a hk=>tz bZ4 aS7 [] [] true (a60 a) (xQ a) hk
def Q280:=bD 100280 q280 Q257
theorem aS8:QO Q280:=aH cF1 aS7
def aNF(a:Int):Pt (Int):=(.ok true (.ok true (.ok true (.ok true (.leaf (fB (m9 (lW a 10) 4) (nM a 10)))))))
def tY(a:Int):Int:=hid (aNF a).val
def a61(a:Int):Bool:=hid (aNF a).okv
def q281:=CM (fun a=>xQ a (tY a)) a61
theorem cF2:cP 100281 q281:=hH fun a hk=>tz bZ5 aS8 [] [] true (aNF a) (xQ a) hk
def Q281:=bD 100281 q281 Q280
theorem aS9:QO Q281:=aH cF2 aS8
section
variable(a:Int)(b:Int)(c:Int)
def aDS:Int:=(nM (bE (bE (KR b) (KR c)) a) 100)
end
def aNG(a:Int)(b:Int)(c:Int):Pt (Int×Int):=(.ok true (.ok ((aXM b)&&((aXM c)&&true)) (.ok ((a61 (aDS a b c))&&true) (.ok true (.ok true (.leaf ((tY (aDS a b c)),(lW (bE (bE (KR b) (KR c)) a) 100))))))))
def P0(a:Int)(b:Int)(c:Int):Int×Int:=hid (aNG a b c).val
def bN0(a:Int)(b:Int)(c:Int):Bool:=hid (aNG a b c).okv
def q258:=DS5 (fun a b c=>aWU a b c (P0 a b c)) bN0
theorem cF3:cP 100258 q258:=DI fun a b c hk=>tz bZI aS9 [] [] true (aNG a b c) (aWU a b c) hk
def Q258:=bD 100258 q258 Q281
theorem aTA:QO Q258:=aH cF3 aS9
section
variable(a:Int)(b:Int)(c:Int)
def aDT:Int:=(bE (cM (cM (KR b) (KR c)) a) 100)
end
def aNH(a:Int)(b:Int)(c:Int):Pt (Int×Int):=(.ok true (.ok ((aXM b)&&((aXM c)&&true)) (.ok true (.br (ltI (cM (cM (KR b) (KR c)) a) 0) (.ok ((a61 (aDT a b c))&&true) (.ok true (.ok true (.leaf ((tY (aDT a b c)),1))))) (.ok ((a61 (cM (cM (KR b) (KR c)) a))&&true) (.ok true (.ok true (.leaf ((tY (cM (cM (KR b) (KR c)) a)),0)))))))))
def P1(a:Int)(b:Int)(c:Int):Int×Int:=hid (aNH a b c).val
def bN1(a:Int)(b:Int)(c:Int):Bool:=hid (aNH a b c).okv
def q259:=DS5 (fun a b c=>aWU a b c (P1 a b c)) bN1
theorem cF4:cP 100259 q259:=DI fun a b c hk=>tz bZJ aTA [] [] true (aNH a b c) (aWU a b c) hk
def Q259:=bD 100259 q259 Q258
theorem aTB:QO Q259:=aH cF4 aTA
section
variable(b:aS)(a:aQ)
def xA:Int:=(bF (bR a.fr.D (0+(iN b.Reg)) 0) 255)
def zR:Int:=(bF (bR a.fr.D (0+(iN b.Ea.Reg)) 0) 255)
def EF:Int:=(yT (dD (bF a.fr.Flags 16) 0) 1)
def IP:Int×Int:=(P1 (EF a) (xA b a) (zR b a))
def IQ:Int×Int:=(P0 (EF a) (xA b a) (zR b a))
def EG:Int:=(bif (eqI b.Sub 1)then(IP b a).1 else(IQ b a).1)
def N0:aJ:=(KP {a.fr with Flags:=(fB (bif (eqI (EG b a) 0)then(bF a.fr.Flags 4)else 0) (dE (bif (eqI b.Sub 1)then(IP b a).2 else(IQ b a).2) 17))} 1 b.Reg (EG b a))
def N1:Bool:=(aO (N0 b a) (bN a.fbus true))
end
def a62(b:aS)(a:aQ):Pt (aQ):=(.ok true (.ok (((leI 0 b.Reg)&&(ltI b.Reg (bX a.fr.D)))&&((dV [.int .i64] a.fr.D (0+(iN b.Reg)) 0)&&true)) (.ok (((leI 0 b.Ea.Reg)&&(ltI b.Ea.Reg (bX a.fr.D)))&&((dV [.int .i64] a.fr.D (0+(iN b.Ea.Reg)) 0)&&true)) (.ok ((bFW (xA b a))&&((((bFW (zR b a))&&true)||(!(jG (xA b a))))&&true)) (.br (bif (!(jG (xA b a)))then true else(!(jG (zR b a)))) (.ok true (.ok (((bT a true)&&(bT a true))&&true) (.leaf {a with ffault:={a.ffault with Vector:=4}}))) (.ok ((yU (dD (bF a.fr.Flags 16) 0) 1)&&true) (.ok ((bN0 (EF a) (xA b a) (zR b a))&&true) (.ok true (.ok ((((bN1 (EF a) (xA b a) (zR b a))&&true)||(!(eqI b.Sub 1)))&&true) (.ok true (.ok true (.ok true (.ok true (.ok (((((aO a.fr true)&&((aO a.fr true)&&true))&&(aO a.fr (KQ {a.fr with Flags:=(fB (bif (eqI (EG b a) 0)then(bF a.fr.Flags 4)else 0) (dE (bif (eqI b.Sub 1)then(IP b a).2 else(IQ b a).2) 17))} 1 b.Reg (EG b a))))&&true)&&true) (.ok (((N1 b a)&&(N1 b a))&&true) (.leaf {a with fr:=(N0 b a)}))))))))))))))))
def a63(b:aS)(a:aQ):aQ:=hid (a62 b a).val
def bN2(b:aS)(a:aQ):Bool:=hid (a62 b a).okv
def q223:=aM0 (fun b a=>XD b a (a63 b a)) bN2
theorem cF5:cP 223 q223:=VI fun b a hk=>tc bYL aTB [(14,K1),(16,K0),(17,K0),(18,K0),(24,K1),(27,K0),(28,K0),(29,K0),(47,K0),(59,K0),(74,K0),(88,K6),(90,K0)] [] true (a62 b a) (XD b a) hk
def Q223:=bD 223 q223 Q259
theorem aTC:QO Q223:=aH cF5 aTB
def a64(a:aJ):Pt (Int):=(.ok true (.ok ((yU a.Super 256)&&((yU a.Trace 512)&&true)) (.ok true (.ok true (.leaf (bE (bE (bE a.Flags (dE 32 a.Mask)) (yT a.Super 256)) (yT a.Trace 512)))))))
def a65(a:aJ):Int:=hid (a64 a).val
def bFX(a:aJ):Bool:=hid (a64 a).okv
def b3D(a:aJ)(r:Int):SV×List Blk:=((.one (li r)),[])
def q168:=a2B (fun a=>b3D a (a65 a)) bFX
theorem cF6:cP 100168 q168:=aKO fun a p0 p1 hk=>tz bW8 aTC [(4,K0),(6,K0),(10,rV),(14,rV)] [] true (a64 a) (b3D a) hk
def Q168:=bD 100168 q168 Q223
theorem aTD:QO Q168:=aH cF6 aTC
section
variable(a:Int)(b:Int)(c:Int)(d:Int)
def IR:Int:=(bF (bE (bE c d) b) (cM (xR a) 1))
def aNI:Bool:=(dD (bE (bE c d) b) (IR a b c d))
def aNJ:Bool:=(dD (bE (bE (aDK a c) (aDK a d)) b) (aDK a (IR a b c d)))
end
def a66(a:Int)(b:Int)(c:Int)(d:Int):Pt (Int×Int):=(.ok true (.ok true (.ok ((KL a)&&true) (.ok ((aDL a c)&&((aDL a d)&&true)) (.ok ((yU (aNI a b c d) 17)&&((aDL a (IR a b c d))&&((yU (aNJ a b c d) 2)&&((aMX a (IR a b c d))&&true)))) (.ok true (.ok true (.leaf ((IR a b c d),(fB (fB (yT (aNI a b c d) 17) (yT (aNJ a b c d) 2)) (aMW a (IR a b c d))))))))))))
def bN3(a:Int)(b:Int)(c:Int)(d:Int):Int×Int:=hid (a66 a b c d).val
def bN4(a:Int)(b:Int)(c:Int)(d:Int):Bool:=hid (a66 a b c d).okv
def q260:=WZ (fun a b c d=>PW a b c d (bN3 a b c d)) bN4
theorem cF7:cP 100260 q260:=DY fun a b c d hk=>tz bZK aTD [] [] true (a66 a b c d) (PW a b c d) hk
def Q260:=bD 100260 q260 Q168
theorem aTE:QO Q260:=aH cF7 aTD
def aNK(a:Int)(b:Int)(c:Int)(d:Int):Pt (Int):=(.ok true (.ok ((aGJ a 0 c d)&&true) (.ok true (.ok true (.ok true (.leaf (fB (bF (aDN a 0 c d).2 15) (bF b 16))))))))
def aNL(a:Int)(b:Int)(c:Int)(d:Int):Int:=hid (aNK a b c d).val
def bN5(a:Int)(b:Int)(c:Int)(d:Int):Bool:=hid (aNK a b c d).okv
def q261:=WZ (fun a b c d=>bDS a b c d (aNL a b c d)) bN5
theorem cF8:cP 100261 q261:=DY fun a b c d hk=>tz bZL aTE [] [] true (aNK a b c d) (bDS a b c d) hk
def Q261:=bD 100261 q261 Q260
theorem aTF:QO Q261:=aH cF8 aTE
section
variable(b:aS)(a:aQ)
def zS:Bool:=(((bT (cO b.Size b.Ea a).1 true)&&(bT (cO b.Size b.Ea a).1 true))&&true)
def xB:Bool:=(aO (cO b.Size b.Ea a).1.fr true)
def f9:Bool:=(bif (dD b.Op 3)then(dD b.Op 4)else false)
def pZ:Bool:=((xB b a)&&((xB b a)&&true))
def xC:aJ:=(KP {(cO b.Size b.Ea a).1.fr with Flags:=(bif (f9 b)then(iF b.Size (cO b.Size b.Ea a).1.fr.Flags (cO b.Size b.Ea a).2.1)else(cO b.Size b.Ea a).1.fr.Flags)} b.Size b.Reg (cO b.Size b.Ea a).2.1)
def jU:Bool:=(bN (cO b.Size b.Ea a).1.fbus true)
def jV:Int:=(a5Y (cO b.Size b.Ea a).1.fr b.Size b.Reg)
def mC:Int×Int:=(bN3 b.Size 0 (jV b a) (cO b.Size b.Ea a).2.1)
def xD:aJ:=(KP {(cO b.Size b.Ea a).1.fr with Flags:=(bif (f9 b)then(iF b.Size (mC b a).2 (mC b a).1)else(mC b a).2)} b.Size b.Reg (mC b a).1)
def mD:Int×Int:=(aDN b.Size 0 (jV b a) (cO b.Size b.Ea a).2.1)
def rC:aJ:=(KP {(cO b.Size b.Ea a).1.fr with Flags:=(bif (f9 b)then(iF b.Size (mD b a).2 (mD b a).1)else(mD b a).2)} b.Size b.Reg (mD b a).1)
def oM:Int:=(bF (jV b a) (cO b.Size b.Ea a).2.1)
def rD:aJ:=(KP {(cO b.Size b.Ea a).1.fr with Flags:=(bif (f9 b)then(iF b.Size (cO b.Size b.Ea a).1.fr.Flags (oM b a))else(cO b.Size b.Ea a).1.fr.Flags)} b.Size b.Reg (oM b a))
def oN:Int:=(fB (jV b a) (cO b.Size b.Ea a).2.1)
def rE:aJ:=(KP {(cO b.Size b.Ea a).1.fr with Flags:=(bif (f9 b)then(iF b.Size (cO b.Size b.Ea a).1.fr.Flags (oN b a))else(cO b.Size b.Ea a).1.fr.Flags)} b.Size b.Reg (oN b a))
def oO:Int:=(qN (jV b a) (cO b.Size b.Ea a).2.1)
def rF:aJ:=(KP {(cO b.Size b.Ea a).1.fr with Flags:=(bif (f9 b)then(iF b.Size (cO b.Size b.Ea a).1.fr.Flags (oO b a))else(cO b.Size b.Ea a).1.fr.Flags)} b.Size b.Reg (oO b a))
def rG:aJ:=(KP {(cO b.Size b.Ea a).1.fr with Flags:=(bif (f9 b)then(iF b.Size (cO b.Size b.Ea a).1.fr.Flags (jV b a))else(cO b.Size b.Ea a).1.fr.Flags)} b.Size b.Reg (jV b a))
end
def a67(b:aS)(a:aQ):Pt (aQ):=(.ok true (.ok ((cA a (aXH b.Size b.Ea a))&&true) (.ok ((cA (cO b.Size b.Ea a).1 (KO (cO b.Size b.Ea a).1))&&true) (.br (!(CT (cO b.Size b.Ea a).1)) (.ok (zS b a) (.leaf (cO b.Size b.Ea a).1)) (.ok ((((xB b a)&&true)&&(a5Z (cO b.Size b.Ea a).1.fr b.Size b.Reg))&&true) (.ok true (.ok true (.ok true (.br (eqI b.Op 1) (.ok true (.ok true (.ok ((((D9 b.Size (cO b.Size b.Ea a).1.fr.Flags (cO b.Size b.Ea a).2.1)&&true)||(!(f9 b)))&&true) (.ok true (.ok ((((pZ b a)&&(aO (cO b.Size b.Ea a).1.fr (KQ {(cO b.Size b.Ea a).1.fr with Flags:=(bif (f9 b)then(iF b.Size (cO b.Size b.Ea a).1.fr.Flags (cO b.Size b.Ea a).2.1)else(cO b.Size b.Ea a).1.fr.Flags)} b.Size b.Reg (cO b.Size b.Ea a).2.1)))&&true)&&true) (.ok (((aO (xC b a) (jU b a))&&(aO (xC b a) (jU b a)))&&true) (.leaf {(cO b.Size b.Ea a).1 with fr:=(xC b a)}))))))) (.ok true (.br (eqI b.Op 3) (.ok ((bN4 b.Size 0 (jV b a) (cO b.Size b.Ea a).2.1)&&true) (.ok true (.ok ((((D9 b.Size (mC b a).2 (mC b a).1)&&true)||(!(f9 b)))&&true) (.ok true (.ok ((((pZ b a)&&(aO (cO b.Size b.Ea a).1.fr (KQ {(cO b.Size b.Ea a).1.fr with Flags:=(bif (f9 b)then(iF b.Size (mC b a).2 (mC b a).1)else(mC b a).2)} b.Size b.Reg (mC b a).1)))&&true)&&true) (.ok (((aO (xD b a) (jU b a))&&(aO (xD b a) (jU b a)))&&true) (.leaf {(cO b.Size b.Ea a).1 with fr:=(xD b a)}))))))) (.ok true (.br (eqI b.Op 4) (.ok ((aGJ b.Size 0 (jV b a) (cO b.Size b.Ea a).2.1)&&true) (.ok true (.ok ((((D9 b.Size (mD b a).2 (mD b a).1)&&true)||(!(f9 b)))&&true) (.ok true (.ok ((((pZ b a)&&(aO (cO b.Size b.Ea a).1.fr (KQ {(cO b.Size b.Ea a).1.fr with Flags:=(bif (f9 b)then(iF b.Size (mD b a).2 (mD b a).1)else(mD b a).2)} b.Size b.Reg (mD b a).1)))&&true)&&true) (.ok (((aO (rC b a) (jU b a))&&(aO (rC b a) (jU b a)))&&true) (.leaf {(cO b.Size b.Ea a).1 with fr:=(rC b a)}))))))) (.ok true (.br (eqI b.Op 5) (.ok true (.ok true (.ok ((((D9 b.Size (cO b.Size b.Ea a).1.fr.Flags (oM b a))&&true)||(!(f9 b)))&&true) (.ok true (.ok ((((pZ b a)&&(aO (cO b.Size b.Ea a).1.fr (KQ {(cO b.Size b.Ea a).1.fr with Flags:=(bif (f9 b)then(iF b.Size (cO b.Size b.Ea a).1.fr.Flags (oM b a))else(cO b.Size b.Ea a).1.fr.Flags)} b.Size b.Reg (oM b a))))&&true)&&true) (.ok (((aO (rD b a) (jU b a))&&(aO (rD b a) (jU b a)))&&true) (.leaf {(cO b.Size b.Ea a).1 with fr:=(rD b a)}))))))) (.ok true (.br (eqI b.Op 6) (.ok true (.ok true (.ok ((((D9 b.Size (cO b.Size b.Ea a).1.fr.Flags (oN b a))&&true)||(!(f9 b)))&&true) (.ok true (.ok ((((pZ b a)&&(aO (cO b.Size b.Ea a).1.fr (KQ {(cO b.Size b.Ea a).1.fr with Flags:=(bif (f9 b)then(iF b.Size (cO b.Size b.Ea a).1.fr.Flags (oN b a))else(cO b.Size b.Ea a).1.fr.Flags)} b.Size b.Reg (oN b a))))&&true)&&true) (.ok (((aO (rE b a) (jU b a))&&(aO (rE b a) (jU b a)))&&true) (.leaf {(cO b.Size b.Ea a).1 with fr:=(rE b a)}))))))) (.ok true (.br (eqI b.Op 7) (.ok true (.ok true (.ok ((((D9 b.Size (cO b.Size b.Ea a).1.fr.Flags (oO b a))&&true)||(!(f9 b)))&&true) (.ok true (.ok ((((pZ b a)&&(aO (cO b.Size b.Ea a).1.fr (KQ {(cO b.Size b.Ea a).1.fr with Flags:=(bif (f9 b)then(iF b.Size (cO b.Size b.Ea a).1.fr.Flags (oO b a))else(cO b.Size b.Ea a).1.fr.Flags)} b.Size b.Reg (oO b a))))&&true)&&true) (.ok (((aO (rF b a) (jU b a))&&(aO (rF b a) (jU b a)))&&true) (.leaf {(cO b.Size b.Ea a).1 with fr:=(rF b a)}))))))) (.ok true (.br (eqI b.Op 8) (.ok ((bN5 b.Size (cO b.Size b.Ea a).1.fr.Flags (jV b a) (cO b.Size b.Ea a).2.1)&&true) (.ok (zS b a) (.leaf {(cO b.Size b.Ea a).1 with fr:={(cO b.Size b.Ea a).1.fr with Flags:=(aNL b.Size (cO b.Size b.Ea a).1.fr.Flags (jV b a) (cO b.Size b.Ea a).2.1)}}))) (.ok true (.ok ((((D9 b.Size (cO b.Size b.Ea a).1.fr.Flags (jV b a))&&true)||(!(f9 b)))&&true) (.ok true (.ok ((((pZ b a)&&(aO (cO b.Size b.Ea a).1.fr (KQ {(cO b.Size b.Ea a).1.fr with Flags:=(bif (f9 b)then(iF b.Size (cO b.Size b.Ea a).1.fr.Flags (jV b a))else(cO b.Size b.Ea a).1.fr.Flags)} b.Size b.Reg (jV b a))))&&true)&&true) (.ok (((aO (rG b a) (jU b a))&&(aO (rG b a) (jU b a)))&&true) (.leaf {(cO b.Size b.Ea a).1 with fr:=(rG b a)})))))))))))))))))))))))))))
def a68(b:aS)(a:aQ):aQ:=hid (a67 b a).val
def bN6(b:aS)(a:aQ):Bool:=hid (a67 b a).okv
def q224:=aM0 (fun b a=>XD b a (a68 b a)) bN6
theorem cF9:cP 224 q224:=VI fun b a hk=>tc bYM aTF [(11,K0),(13,K4),(23,K6),(25,K0),(27,K0),(33,K0),(35,K0),(43,K0),(53,K0),(78,K0),(87,K0),(91,K0),(95,K0),(108,K6),(110,K0),(112,K0)] [] true (a67 b a) (XD b a) hk
def Q224:=bD 224 q224 Q261
theorem aTG:QO Q224:=aH cF9 aTF
section
variable(b:aS)(a:aQ)
def iY:List Row:=(List.set (cO 2 b.Ea a).1.fr.A (0+(iN b.Reg)) (aY (cO 2 b.Ea a).2.1))
def iZ:Bool:=((e1 (ln (cO 2 b.Ea a).1.fr.D))&&((dZ (ln (cO 2 b.Ea a).1.fr.A) (ln (iY b a)))&&(bN (cO 2 b.Ea a).1.fbus true)))
def i5:List Row:=(List.set (iK 2 b.Ea a).1.fr.A (0+(iN b.Reg)) (aY (iK 2 b.Ea a).2))
def i6:Bool:=((e1 (ln (iK 2 b.Ea a).1.fr.D))&&((dZ (ln (iK 2 b.Ea a).1.fr.A) (ln (i5 b a)))&&(bN (iK 2 b.Ea a).1.fbus true)))
def i7:Bool:=(((aO a.fr true)&&true)&&(a5Z a.fr b.Size b.Reg))
def hD:Int:=(a5Y a.fr b.Size b.Reg)
def hG:aQ:=(a57 b.Size b.Ea (iK b.Size b.Ea a).2 (hD b a) (iK b.Size b.Ea a).1)
def i8:Bool:=((aO a.fr true)&&((aO a.fr true)&&true))
def iI:Int×Int:=(aGK b.Sub b.Size a.fr.Flags (hD b a) (bE b.Ea.Reg 1))
def i9:aJ:=(KP {a.fr with Flags:=(iI b a).2} b.Size b.Reg (iI b a).1)
def gA:Bool:=(aO (i9 b a) (bN a.fbus true))
def gB:Bool:=(aO (aGL a.fr b.Ea.Ext) (bN a.fbus true))
def gC:List Row:=(List.set a.fr.D (0+(iN b.Reg)) (aY (a65 a.fr)))
def gD:Bool:=((dZ (ln a.fr.D) (ln (gC b a)))&&((e1 (ln a.fr.A))&&(bN a.fbus true)))
end
def a69(b:aS)(c:Int)(a:aQ):Pt (aQ):=(.ok true (.ok true (.ok true (.br (eqI b.Op 9) (.ok ((cA a (aXH 2 b.Ea a))&&true) (.ok ((cA (cO 2 b.Ea a).1 (KO (cO 2 b.Ea a).1))&&true) (.br (CT (cO 2 b.Ea a).1) (.ok ((((leI 0 b.Reg)&&(ltI b.Reg (bX (cO 2 b.Ea a).1.fr.A)))&&(((blt (0+(iN b.Reg)) (ln (cO 2 b.Ea a).1.fr.A))&&(j7 (j8 (cO 2 b.Ea a).1.fr.A (0+(iN b.Reg))) 1))&&true))&&true) (.ok ((((bT (cO 2 b.Ea a).1 true)&&(iZ b a))&&true)&&((iZ b a)&&true)) (.leaf {(cO 2 b.Ea a).1 with fr:={(cO 2 b.Ea a).1.fr with A:=(iY b a)}}))) (.ok (dd (bT (cO 2 b.Ea a).1 true) ((bT (cO 2 b.Ea a).1 true)&&true)) (.leaf (cO 2 b.Ea a).1))))) (.ok true (.br (eqI b.Op 10) (.ok ((cA a (aXI 2 b.Ea a))&&true) (.ok ((((leI 0 b.Reg)&&(ltI b.Reg (bX (iK 2 b.Ea a).1.fr.A)))&&(((blt (0+(iN b.Reg)) (ln (iK 2 b.Ea a).1.fr.A))&&(j7 (j8 (iK 2 b.Ea a).1.fr.A (0+(iN b.Reg))) 1))&&true))&&true) (.ok ((((bT (iK 2 b.Ea a).1 true)&&(i6 b a))&&true)&&((i6 b a)&&true)) (.leaf {(iK 2 b.Ea a).1 with fr:={(iK 2 b.Ea a).1.fr with A:=(i5 b a)}})))) (.ok true (.br (eqI b.Op 2) (.ok ((i7 b a)&&true) (.ok ((cA a (aXI b.Size b.Ea a))&&true) (.ok ((cA (iK b.Size b.Ea a).1 (a58 b.Size b.Ea (iK b.Size b.Ea a).2 (hD b a) (iK b.Size b.Ea a).1))&&true) (.ok (((D9 b.Size (hG b a).fr.Flags (hD b a))&&true)&&true) (.ok (dd (bT (hG b a) true) ((bT (hG b a) true)&&true)) (.leaf {(hG b a)with fr:={(hG b a).fr with Flags:=(iF b.Size (hG b a).fr.Flags (hD b a))}})))))) (.ok true (.br (eqI b.Op 11) (.ok ((cA a (bNN b a))&&true) (.ok (dd (bT (a6C b a) true) ((bT (a6C b a) true)&&true)) (.leaf (a6C b a)))) (.ok true (.br (eqI b.Op 12) (.ok ((i7 b a)&&((bFN b.Sub b.Size a.fr.Flags (hD b a) (bE b.Ea.Reg 1))&&true)) (.ok true (.ok ((((i8 a)&&(aO a.fr (KQ {a.fr with Flags:=(iI b a).2} b.Size b.Reg (iI b a).1)))&&true)&&true) (.ok (dd (gA b a) ((gA b a)&&true)) (.leaf {a with fr:=(i9 b a)}))))) (.ok true (.ok true (.br (bif (eqI b.Op 13)then(eqI b.Op 13)else(eqI b.Op 14)) (.ok ((cA a (bNR b c a))&&true) (.ok (dd (bT (a6M b c a) true) ((bT (a6M b c a) true)&&true)) (.leaf (a6M b c a)))) (.ok true (.br (eqI b.Op 15) (.ok ((cA a (bNY b a))&&true) (.ok (dd (bT (a6W b a) true) ((bT (a6W b a) true)&&true)) (.leaf (a6W b a)))) (.ok true (.ok true (.br (bif (eqI b.Op 16)then(eqI b.Op 16)else(eqI b.Op 17)) (.ok ((cA a (bNZ b a))&&true) (.ok (dd (bT (a6Y b a) true) ((bT (a6Y b a) true)&&true)) (.leaf (a6Y b a)))) (.ok true (.br (eqI b.Op 18) (.ok ((cA a (bN2 b a))&&true) (.ok (dd (bT (a63 b a) true) ((bT (a63 b a) true)&&true)) (.leaf (a63 b a)))) (.ok true (.br (eqI b.Op 19) (.ok true (.br (eqI b.Sub 0) (.ok ((((i8 a)&&(aO a.fr (aXJ a.fr b.Ea.Ext)))&&true)&&true) (.ok (dd (gB b a) ((gB b a)&&true)) (.leaf {a with fr:=(aGL a.fr b.Ea.Ext)}))) (.ok (((((aO a.fr true)&&true)&&(bFX a.fr))&&(((leI 0 b.Reg)&&(ltI b.Reg (bX a.fr.D)))&&(((blt (0+(iN b.Reg)) (ln a.fr.D))&&(j7 (j8 a.fr.D (0+(iN b.Reg))) 1))&&true)))&&true) (.ok ((((bT a true)&&(gD b a))&&true)&&((gD b a)&&true)) (.leaf {a with fr:={a.fr with D:=(gC b a)}}))))) (.ok ((cA a (bN6 b a))&&true) (.ok (dd (bT (a68 b a) true) ((bT (a68 b a) true)&&true)) (.leaf (a68 b a))))))))))))))))))))))))))))
def aXN(b:aS)(c:Int)(a:aQ):aQ:=hid (a69 b c a).val
def aXO(b:aS)(c:Int)(a:aQ):Bool:=hid (a69 b c a).okv
def q160:=bFP (fun b c a=>bFQ b c a (aXN b c a)) aXO
theorem cGA:cP 160 q160:=a6K fun b c a hk=>tc bW3 aTG [(14,K0),(16,K5),(23,K4),(33,K1),(35,K0),(37,K0),(42,K4),(48,K1),(50,K0),(52,K0),(58,K6),(60,K0),(62,K0),(66,K0),(68,K4),(72,K0),(74,K4),(80,K0),(85,K0),(94,K5),(100,K0),(102,K0),(107,K0),(111,K6),(113,K0),(115,K0),(119,K0),(133,K6),(135,K0),(137,K0),(146,K5),(152,K5),(158,K5),(163,K5),(168,K0),(174,K6),(177,K0),(185,K1),(187,K0),(191,K6),(193,K0),(1000001,[])] [] true (a69 b c a) (bFQ b c a) hk
def Q160:=bD 160 q160 Q224
theorem aTH:QO Q160:=aH cGA aTG
section
variable(a:aQ)
def aTI:aG:=(NY (aG.mk a.fr a.fbus a.fstop false))
end
def T80(a:aQ):Pt (aG):=(.ok true (.ok (((((bT a true)&&true)&&(a5N (aG.mk a.fr a.fbus a.fstop false)))&&true)&&true) (.ok (((bT a true)&&(bT a (aM (aTI a) true)))&&((aM (aTI a) true)&&true)) (.leaf (aTI a)))))
def uC(a:aQ):aG:=hid (T80 a).val
def I5(a:aQ):Bool:=hid (T80 a).okv
def n80(a:aQ)(r:aG):SV×List Blk:=((.agg [.sl 5 0 (ln r.R.D), .sl 6 0 (ln r.R.A),li r.R.Other,li r.R.PC,li r.R.Flags,li r.R.Mask, .lit (.bool r.R.Super), .lit (.bool r.R.Trace), .sl 7 0 (ln r.Bus.Bytes), .sl 8 0 (ln r.Bus.Log), .lit (.bool r.Stop), .lit (.bool r.Halt)]),[.box [.sl 1 0 (ln a.fr.D), .sl 2 0 (ln a.fr.A),li a.fr.Other,li a.fr.PC,li a.fr.Flags,li a.fr.Mask, .lit (.bool a.fr.Super), .lit (.bool a.fr.Trace), .sl 3 0 (ln a.fbus.Bytes), .sl 4 0 (ln a.fbus.Log), .lit (.bool a.fstop),li a.ffault.Vector,li a.ffault.PC,li a.ffault.Addr,li a.ffault.Word, .lit (.bool a.ffault.Write)], .lst 1 a.fr.D, .lst 1 a.fr.A, .lst 1 a.fbus.Bytes, .lst 5 a.fbus.Log, .lst 1 r.R.D, .lst 1 r.R.A, .lst 1 r.Bus.Bytes, .lst 5 r.Bus.Log])
def q80:=aXE (fun a=>n80 a (uC a)) I5
theorem t80:cP 80 q80:=aC9 fun a hk=>tc b72 aTH [(6,K6),(10,K7),(14,rV)] [] true (T80 a) (n80 a) hk
def Q80:=bD 80 q80 Q160
theorem a7A:QO Q80:=aH t80 aTH
end
end Go.Proofs.YtdipcnijfkdnfaaGreatWhole
