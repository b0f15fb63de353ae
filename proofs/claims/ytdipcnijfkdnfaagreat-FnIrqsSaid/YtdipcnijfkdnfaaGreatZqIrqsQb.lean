import Derived.Test.YtdipcnijfkdnfaaGreatZqTabIrqs
import Derived.Test.YtdipcnijfkdnfaaGreatZmc
import Derived.KernelRfl
import Derived.Test.YtdipcnijfkdnfaaGreatZqIrqsR
import Derived.Test.YtdipcnijfkdnfaaGreatZqIrqsQa
set_option linter.unusedVariables false
set_option linter.unusedSimpArgs false
namespace Go.Proofs.YtdipcnijfkdnfaaGreatIrqs
open Option.some renaming inj → qi
open Prod.mk renaming inj → qp
open Int renaming toNat → iN
open Go Go.Zq
open List renaming length→ln
set_option maxRecDepth 100000
set_option maxHeartbeats 4000000
noncomputable section
section
variable(b:Int)(a:bK)(x0_fc:aI)
def HM:bM×Int×Int:=(JU 1 a.fx.Size b 0 x0_fc.Bus)
def aBE:Bool:=(aP x0_fc.R (bS (HM b a x0_fc).1 true))
def aBF:aI:={x0_fc with Bus:=(HM b a x0_fc).1}
end
def a3L(b:Int)(a:bK)(x0_fc:aI):Pt (bK×aI×Int):=(.ok true (.ok (((rS x0_fc.Bus (HI 1 a.fx.Size b 0 x0_fc.Bus))&&true)&&true) (.ok ((dd (aBE b a x0_fc) (aP x0_fc.R (bS (HM b a x0_fc).1 (aWG (HM b a x0_fc).2.2 b false a (aBF b a x0_fc)))))&&true) (.ok true (.ok (((aBE b a x0_fc)&&(aBE b a x0_fc))&&true) (.leaf ((aWF (HM b a x0_fc).2.2 b false a (aBF b a x0_fc)),(aBF b a x0_fc),(HM b a x0_fc).2.1)))))))
def kV(b:Int)(a:bK)(x0_fc:aI):bK×aI×Int:=hid (a3L b a x0_fc).val
def a3M(b:Int)(a:bK)(x0_fc:aI):Bool:=hid (a3L b a x0_fc).okv
def b3W(b:Int)(a:bK)(x0_fc:aI)(r:bK×aI×Int):SV×List Blk:=((.one (li r.2.2)),[.box [.ptr 1 0 0,li r.1.fx.Op,li r.1.fx.Size,li r.1.fx.Reg,li r.1.fx.Ea.Mode,li r.1.fx.Ea.Reg,li r.1.fx.Ea.Ext,li r.1.fx.Sub,li r.1.fpc,li r.1.fword,li r.1.ffault.Vector,li r.1.ffault.PC,li r.1.ffault.Addr,li r.1.ffault.Word, .lit (.bool r.1.ffault.Write)], .box [.sl 2 0 (ln r.2.1.R.D), .sl 3 0 (ln r.2.1.R.A),li r.2.1.R.Other,li r.2.1.R.PC,li r.2.1.R.Flags,li r.2.1.R.Mask, .lit (.bool r.2.1.R.Super), .lit (.bool r.2.1.R.Trace), .sl 4 0 (ln r.2.1.Bus.Bytes), .sl 5 0 (ln r.2.1.Bus.Log), .lit (.bool r.2.1.Stop), .lit (.bool r.2.1.Halt)], .lst 1 r.2.1.R.D, .lst 1 r.2.1.R.A, .lst 1 r.2.1.Bus.Bytes, .lst 5 r.2.1.Bus.Log])
def q288:=aKF (fun b a x0_fc=>b3W b a x0_fc (kV b a x0_fc)) a3M
theorem cEN:cK 50288 q288:=SQ fun b a x0_fc hk=>tck b1N aQE [(18,K0)] [] true (a3L b a x0_fc) (b3W b a x0_fc) hk
def Q288:=aZ 50288 q288 Q300
theorem aQF:QO Q288:=aF cEN aQE
section
variable(a:bK)(x0_fc:aI)
def aBG:Bool:=(((aO x0_fc true)&&(aO x0_fc true))&&true)
def HN:aH×Int:=(aKL a.fx.Size a.fx.Ea x0_fc.R)
def MG:bK×aI×Int:=(kV (HN a x0_fc).2 a {x0_fc with R:=(HN a x0_fc).1})
end
def a3N(a:bK)(x0_fc:aI):Pt (bK×aI×Int):=(.ok true (.ok true (.ok true (.ok true (.br (eqI a.fx.Ea.Mode 0) (.ok ((cH x0_fc (aFL a.fx.Ea.Reg a x0_fc))&&true) (.ok (aBG x0_fc) (.leaf (a,x0_fc,(aFK a.fx.Ea.Reg a x0_fc))))) (.ok true (.br (eqI a.fx.Ea.Mode 1) (.ok (((leI 0 a.fx.Ea.Reg)&&(ltI a.fx.Ea.Reg (cA x0_fc.R.A)))&&((dU [.int .i64] x0_fc.R.A (0+(iN a.fx.Ea.Reg)) 0)&&true)) (.ok (aBG x0_fc) (.leaf (a,x0_fc,(bQ x0_fc.R.A (0+(iN a.fx.Ea.Reg)) 0))))) (.ok true (.br (eqI a.fx.Ea.Mode 7) (.ok true (.ok (aBG x0_fc) (.leaf (a,x0_fc,a.fx.Ea.Ext)))) (.ok (((iA x0_fc.R (aKM a.fx.Size a.fx.Ea x0_fc.R))&&((dd (aP (HN a x0_fc).1 (bS x0_fc.Bus true)) (aP (HN a x0_fc).1 (bS x0_fc.Bus (a3M (HN a x0_fc).2 a {x0_fc with R:=(HN a x0_fc).1}))))&&true))&&true) (.ok (((aO (MG a x0_fc).2.1 true)&&(aO (MG a x0_fc).2.1 true))&&true) (.leaf ((MG a x0_fc).1,(MG a x0_fc).2.1,(MG a x0_fc).2.2)))))))))))))
def cT(a:bK)(x0_fc:aI):bK×aI×Int:=hid (a3N a x0_fc).val
def aWH(a:bK)(x0_fc:aI):Bool:=hid (a3N a x0_fc).okv
def bD1(a:bK)(x0_fc:aI)(r:bK×aI×Int):SV×List Blk:=((.one (li r.2.2)),[.box [.ptr 1 0 0,li r.1.fx.Op,li r.1.fx.Size,li r.1.fx.Reg,li r.1.fx.Ea.Mode,li r.1.fx.Ea.Reg,li r.1.fx.Ea.Ext,li r.1.fx.Sub,li r.1.fpc,li r.1.fword,li r.1.ffault.Vector,li r.1.ffault.PC,li r.1.ffault.Addr,li r.1.ffault.Word, .lit (.bool r.1.ffault.Write)], .box [.sl 2 0 (ln r.2.1.R.D), .sl 3 0 (ln r.2.1.R.A),li r.2.1.R.Other,li r.2.1.R.PC,li r.2.1.R.Flags,li r.2.1.R.Mask, .lit (.bool r.2.1.R.Super), .lit (.bool r.2.1.R.Trace), .sl 4 0 (ln r.2.1.Bus.Bytes), .sl 5 0 (ln r.2.1.Bus.Log), .lit (.bool r.2.1.Stop), .lit (.bool r.2.1.Halt)], .lst 1 r.2.1.R.D, .lst 1 r.2.1.R.A, .lst 1 r.2.1.Bus.Bytes, .lst 5 r.2.1.Bus.Log])
def q265:=MF (fun a x0_fc=>bD1 a x0_fc (cT a x0_fc)) aWH
theorem cEO:cK 50265 q265:=v8 fun a x0_fc hk=>tck b00 aQF [(8,K4),(10,K0),(15,K0),(26,K1),(28,K0),(29,K0),(30,K0),(34,K0),(46,K0),(47,K4)] [] true (a3N a x0_fc) (bD1 a x0_fc) hk
def Q265:=aZ 50265 q265 Q288
theorem aQG:QO Q265:=aF cEO aQF
def cEP(b:Int)(c:Int)(d:Int)(a:aH):List SV:=[(.one (.ptr 0 0 0)),(.one (li b)),(.one (li c)),(.one (li d))]
def cEQ(b:Int)(c:Int)(d:Int)(a:aH):List Blk:=[.box [.sl 1 0 (ln a.D), .sl 2 0 (ln a.A),li a.Other,li a.PC,li a.Flags,li a.Mask, .lit (.bool a.Super), .lit (.bool a.Trace)], .lst 1 a.D, .lst 1 a.A]
def bMC(N:Int→Int→Int→aH→SV×List Blk)(K:Int→Int→Int→aH→Bool):List SV→List Blk→Option ((SV×List Blk)×Bool)
 |[(.one (.ptr 0 0 0)),(.one (li c0)),(.one (li c1)),(.one (li c2))],[.box [.sl 1 0 l1, .sl 2 0 l2,li c3,li c4,li c5,li c6, .lit (.bool c7), .lit (.bool c8)], .lst 1 c_1, .lst 1 c_2]=>some (N c0 c1 c2 (aH.mk c_1 c_2 c3 c4 c5 c6 c7 c8),eC l1 (ln c_1)&&(eC l2 (ln c_2)&&(K c0 c1 c2 (aH.mk c_1 c_2 c3 c4 c5 c6 c7 c8))))
 |_,_=>none
theorem bMD{N:Int→Int→Int→aH→SV×List Blk}{K:Int→Int→Int→aH→Bool}{f:Nat}(h: ∀(b:Int)(c:Int)(d:Int)(a:aH),K b c d a=true→dJ R f (cEP b c d a) (cEQ b c d a)=some (N b c d a)):cK f (bMC N K):=fun args hp r e=>by
 unfold bMC at e;split at e
 ·rename_i c0 c1 c2 l1 l2 c3 c4 c5 c6 c7 c8 c_1 c_2;obtain⟨hr,hk⟩:=qp (qi e);obtain⟨d0,hk0⟩:=bJ hk;obtain⟨d1,hk1⟩:=bJ hk0;obtain rfl:=of_decide_eq_true d0;obtain rfl:=of_decide_eq_true d1;rw[←hr];exact h c0 c1 c2 (aH.mk c_1 c_2 c3 c4 c5 c6 c7 c8) hk1
 ·simp at e
section
variable(b:Int)(c:Int)(d:Int)(a:aH)
def aKP:List Row:=(List.set a.D (0+(iN c)) (bB (bif (eqI b 1)then(eW d (gB (bQ a.D (0+(iN c)) 0) 255))else d)))
def aKQ:Bool:=((eC (ln a.D) (ln (aKP b c d a)))&&((e1 (ln a.A))&&true))
end
def a3O(b:Int)(c:Int)(d:Int)(a:aH):Pt (aH):=(.ok true (.ok (((((leI 0 c)&&(ltI c (cA a.D)))&&((dU [.int .i64] a.D (0+(iN c)) 0)&&true))||(!(eqI b 1)))&&true) (.ok (((leI 0 c)&&(ltI c (cA a.D)))&&(((blt (0+(iN c)) (ln a.D))&&(jW (jX a.D (0+(iN c))) 1))&&true)) (.ok ((((aP a true)&&(aKQ b c d a))&&true)&&((aKQ b c d a)&&true)) (.leaf {a with D:=(aKP b c d a)})))))
def aBH(b:Int)(c:Int)(d:Int)(a:aH):aH:=hid (a3O b c d a).val
def aBI(b:Int)(c:Int)(d:Int)(a:aH):Bool:=hid (a3O b c d a).okv
def b3X(b:Int)(c:Int)(d:Int)(a:aH)(r:aH):SV×List Blk:=((.tup []),[.box [.sl 1 0 (ln r.D), .sl 2 0 (ln r.A),li r.Other,li r.PC,li r.Flags,li r.Mask, .lit (.bool r.Super), .lit (.bool r.Trace)], .lst 1 r.D, .lst 1 r.A])
def q270:=bMC (fun b c d a=>b3X b c d a (aBH b c d a)) aBI
theorem cER:cK 270 q270:=bMD fun b c d a hk=>tc b05 aQG [(14,K1),(16,K0),(17,K0),(23,K1),(26,K0),(1000001,[])] [] true (a3O b c d a) (b3X b c d a) hk
def Q270:=aZ 270 q270 Q265
theorem aQH:QO Q270:=aF cER aQG
def a3P(a:Int)(b:Int):Pt (Int):=(.ok true (.ok ((yG (eqI b 0) 4)&&((C4 a)&&((yG (geI b (lQ (pM a) 2)) 8)&&true))) (.ok true (.ok true (.leaf (eW (yF (eqI b 0) 4) (yF (geI b (lQ (pM a) 2)) 8)))))))
def aWI(a:Int)(b:Int):Int:=hid (a3P a b).val
def aWJ(a:Int)(b:Int):Bool:=hid (a3P a b).okv
def VW(a:Int)(b:Int)(r:Int):SV×List Blk:=((.one (li r)),[])
def q289:=JP (fun a b=>VW a b (aWI a b)) aWJ
theorem cES:cK 100289 q289:=tM fun a b hk=>tz b1O aQH [] [] true (a3P a b) (VW a b) hk
def Q289:=aZ 100289 q289 Q270
theorem aQI:QO Q289:=aF cES aQH
def a3Q(a:Int)(b:Int)(c:Int):Pt (Int):=(.ok true (.ok ((aWJ a c)&&true) (.ok true (.ok true (.leaf (eW (bH b 16) (aWI a c)))))))
def bME(a:Int)(b:Int)(c:Int):Int:=hid (a3Q a b c).val
def bMF(a:Int)(b:Int)(c:Int):Bool:=hid (a3Q a b c).okv
def q299:=DS5 (fun a b c=>aFI a b c (bME a b c)) bMF
theorem cET:cK 100299 q299:=CN fun a b c hk=>tz b1Y aQI [] [] true (a3Q a b c) (aFI a b c) hk
def Q299:=aZ 100299 q299 Q289
theorem aQJ:QO Q299:=aF cET aQI
def a3R(b:Int)(a:bK)(x0_fc:aI):Pt (aI):=(.ok (((bMF a.fx.Size x0_fc.R.Flags b)&&true)&&true) (.ok (((aO x0_fc true)&&(aO x0_fc true))&&true) (.leaf {x0_fc with R:={x0_fc.R with Flags:=(bME a.fx.Size x0_fc.R.Flags b)}})))
def tP(b:Int)(a:bK)(x0_fc:aI):aI:=hid (a3R b a x0_fc).val
def v9(b:Int)(a:bK)(x0_fc:aI):Bool:=hid (a3R b a x0_fc).okv
def bD2(b:Int)(a:bK)(x0_fc:aI)(r:aI):SV×List Blk:=((.tup []),[.box [.ptr 1 0 0,li a.fx.Op,li a.fx.Size,li a.fx.Reg,li a.fx.Ea.Mode,li a.fx.Ea.Reg,li a.fx.Ea.Ext,li a.fx.Sub,li a.fpc,li a.fword,li a.ffault.Vector,li a.ffault.PC,li a.ffault.Addr,li a.ffault.Word, .lit (.bool a.ffault.Write)], .box [.sl 2 0 (ln r.R.D), .sl 3 0 (ln r.R.A),li r.R.Other,li r.R.PC,li r.R.Flags,li r.R.Mask, .lit (.bool r.R.Super), .lit (.bool r.R.Trace), .sl 4 0 (ln r.Bus.Bytes), .sl 5 0 (ln r.Bus.Log), .lit (.bool r.Stop), .lit (.bool r.Halt)], .lst 1 r.R.D, .lst 1 r.R.A, .lst 1 r.Bus.Bytes, .lst 5 r.Bus.Log])
def q287:=aKF (fun b a x0_fc=>bD2 b a x0_fc (tP b a x0_fc)) v9
theorem cEU:cK 287 q287:=SQ fun b a x0_fc hk=>tc b1M aQJ [(12,K0),(20,K0)] [] true (a3R b a x0_fc) (bD2 b a x0_fc) hk
def Q287:=aZ 287 q287 Q299
theorem aQK:QO Q287:=aF cEU aQJ
section
variable(b:Int)(a:bK)(x0_fc:aI)
def ST:aH:=(aBH a.fx.Size a.fx.Reg b x0_fc.R)
def aBJ:aI:=(tP b a {x0_fc with R:=(ST b a x0_fc)})
end
def a3S(b:Int)(a:bK)(x0_fc:aI):Pt (aI):=(.ok true (.br (dC a.ffault.Vector 0) (.ok (((aO x0_fc true)&&(aO x0_fc true))&&true) (.leaf x0_fc)) (.ok (((iA x0_fc.R (aBI a.fx.Size a.fx.Reg b x0_fc.R))&&true)&&true) (.ok ((dd (aP (ST b a x0_fc) (bS x0_fc.Bus true)) (aP (ST b a x0_fc) (bS x0_fc.Bus (v9 b a {x0_fc with R:=(ST b a x0_fc)}))))&&true) (.ok (((aO (aBJ b a x0_fc) true)&&(aO (aBJ b a x0_fc) true))&&true) (.leaf (aBJ b a x0_fc)))))))
def OQ(b:Int)(a:bK)(x0_fc:aI):aI:=hid (a3S b a x0_fc).val
def OR(b:Int)(a:bK)(x0_fc:aI):Bool:=hid (a3S b a x0_fc).okv
def q282:=aKF (fun b a x0_fc=>bD2 b a x0_fc (OQ b a x0_fc)) OR
theorem cEV:cK 282 q282:=SQ fun b a x0_fc hk=>tc b1H aQK [(8,K0),(20,K0),(25,K0)] [] true (a3S b a x0_fc) (bD2 b a x0_fc) hk
def Q282:=aZ 282 q282 Q287
theorem aQL:QO Q282:=aF cEV aQK
def a3T(a:Int)(b:Int):Pt (Int):=(.ok true (.ok ((C4 a)&&true) (.br (geI b (lQ (pM a) 2)) (.ok ((C4 a)&&true) (.ok true (.ok true (.leaf (cN b (pM a)))))) (.ok true (.ok true (.ok true (.leaf b)))))))
def aBK(a:Int)(b:Int):Int:=hid (a3T a b).val
def aFM(a:Int)(b:Int):Bool:=hid (a3T a b).okv
def q294:=JP (fun a b=>VW a b (aBK a b)) aFM
theorem cEW:cK 100294 q294:=tM fun a b hk=>tz b1T aQL [] [] true (a3T a b) (VW a b) hk
def Q294:=aZ 100294 q294 Q282
theorem aQM:QO Q294:=aF cEW aQL
section
variable(a:Int)(b:Int)(c:Int)
def aKR:Bool:=(dC c (aBK a (bH b (cN (pM a) 1))))
end
def a3U(a:Int)(b:Int)(c:Int):Pt (Int×Int):=(.ok true (.ok ((C4 a)&&true) (.ok ((aFM a (bH b (cN (pM a) 1)))&&true) (.ok ((yG (dC b (bH b (cN (pM a) 1))) 17)&&((yG (aKR a b c) 2)&&((aWJ a (bH b (cN (pM a) 1)))&&true))) (.ok true (.ok true (.leaf ((bH b (cN (pM a) 1)),(eW (eW (yF (dC b (bH b (cN (pM a) 1))) 17) (yF (aKR a b c) 2)) (aWI a (bH b (cN (pM a) 1))))))))))))
def bD3(a:Int)(b:Int)(c:Int):Int×Int:=hid (a3U a b c).val
def bD4(a:Int)(b:Int)(c:Int):Bool:=hid (a3U a b c).okv
def aWK(a:Int)(b:Int)(c:Int)(r:Int×Int):SV×List Blk:=((.tup [(.one (li r.1)),(.one (li r.2))]),[])
def q297:=DS5 (fun a b c=>aWK a b c (bD3 a b c)) bD4
theorem cEX:cK 100297 q297:=CN fun a b c hk=>tz b1W aQM [] [] true (a3U a b c) (aWK a b c) hk
def Q297:=aZ 100297 q297 Q294
theorem aQN:QO Q297:=aF cEX aQM
def cEY(a:Int)(b:Int)(c:Int)(d:Int):List SV:=[(.one (li a)),(.one (li b)),(.one (li c)),(.one (li d))]
def cEZ(a:Int)(b:Int)(c:Int)(d:Int):List Blk:=[]
def VX(N:Int→Int→Int→Int→SV×List Blk)(K:Int→Int→Int→Int→Bool):List SV→List Blk→Option ((SV×List Blk)×Bool)
 |[(.one (li c0)),(.one (li c1)),(.one (li c2)),(.one (li c3))],[]=>some (N c0 c1 c2 c3,K c0 c1 c2 c3)
 |_,_=>none
theorem C6{N:Int→Int→Int→Int→SV×List Blk}{K:Int→Int→Int→Int→Bool}{f:Nat}(h: ∀(a:Int)(b:Int)(c:Int)(d:Int),K a b c d=true→dJ R f (cEY a b c d) (cEZ a b c d)=some (N a b c d)):cK f (VX N K):=fun _ _ _ e=>by
 unfold VX at e;split at e
 ·exact vH e (h _ _ _ _)
 ·cases e
section
variable(a:Int)(b:Int)(c:Int)(d:Int)
def aKS:Int:=(cN (cN (aBK a c) (aBK a d)) b)
def aKT:Int×Int:=(bD3 a (cN (cN c d) b) (aKS a b c d))
end
def a3V(a:Int)(b:Int)(c:Int)(d:Int):Pt (Int×Int):=(.ok true (.ok ((aFM a c)&&((aFM a d)&&((bD4 a (cN (cN c d) b) (aKS a b c d))&&true))) (.ok true (.ok true (.leaf ((aKT a b c d).1,(aKT a b c d).2))))))
def JW(a:Int)(b:Int)(c:Int)(d:Int):Int×Int:=hid (a3V a b c d).val
def VY(a:Int)(b:Int)(c:Int)(d:Int):Bool:=hid (a3V a b c d).okv
def OS(a:Int)(b:Int)(c:Int)(d:Int)(r:Int×Int):SV×List Blk:=((.tup [(.one (li r.1)),(.one (li r.2))]),[])
def q285:=VX (fun a b c d=>OS a b c d (JW a b c d)) VY
theorem cE0:cK 100285 q285:=C6 fun a b c d hk=>tz b1K aQN [] [] true (a3V a b c d) (OS a b c d) hk
def Q285:=aZ 100285 q285 Q297
theorem aQO:QO Q285:=aF cE0 aQN
def a3W(a:Int)(b:Int)(c:Int)(d:Int):Pt (Int):=(.ok true (.ok ((VY a 0 c d)&&true) (.ok true (.ok true (.ok true (.leaf (eW (gB (JW a 0 c d).2 16) (bH b 16))))))))
def bMG(a:Int)(b:Int)(c:Int)(d:Int):Int:=hid (a3W a b c d).val
def bMH(a:Int)(b:Int)(c:Int)(d:Int):Bool:=hid (a3W a b c d).okv
def bD5(a:Int)(b:Int)(c:Int)(d:Int)(r:Int):SV×List Blk:=((.one (li r)),[])
def q283:=VX (fun a b c d=>bD5 a b c d (bMG a b c d)) bMH
theorem cE1:cK 100283 q283:=C6 fun a b c d hk=>tz b1I aQO [] [] true (a3W a b c d) (bD5 a b c d) hk
def Q283:=aZ 100283 q283 Q285
theorem aQP:QO Q283:=aF cE1 aQO
section
variable(a:Int)(b:Int)(c:Int)(d:Int)
def aKU:Int:=(bE (bE (aBK a c) (aBK a d)) b)
def aKV:Int×Int:=(bD3 a (bE (bE c d) b) (aKU a b c d))
end
def a3X(a:Int)(b:Int)(c:Int)(d:Int):Pt (Int×Int):=(.ok true (.ok ((aFM a c)&&((aFM a d)&&((bD4 a (bE (bE c d) b) (aKU a b c d))&&true))) (.ok true (.ok true (.leaf ((aKV a b c d).1,(aKV a b c d).2))))))
def bMI(a:Int)(b:Int)(c:Int)(d:Int):Int×Int:=hid (a3X a b c d).val
def bMJ(a:Int)(b:Int)(c:Int)(d:Int):Bool:=hid (a3X a b c d).okv
def q284:=VX (fun a b c d=>OS a b c d (bMI a b c d)) bMJ
theorem cE2:cK 100284 q284:=C6 fun a b c d hk=>tz b1J aQP [] [] true (a3X a b c d) (OS a b c d) hk
def Q284:=aZ 100284 q284 Q283
theorem aQQ:QO Q284:=aF cE2 aQP
section
variable(a:bK)(x0_fc:aI)
def wA:Bool:=(((aO (cT a x0_fc).2.1 true)&&(aO (cT a x0_fc).2.1 true))&&true)
def wB:aI:=(OQ (cT a x0_fc).2.2 (cT a x0_fc).1 (cT a x0_fc).2.1)
def nS:Int:=(aFK (cT a x0_fc).1.fx.Reg (cT a x0_fc).1 (cT a x0_fc).2.1)
def yH:Int:=(bH (nS a x0_fc) (cT a x0_fc).2.2)
def wC:aI:=(OQ (yH a x0_fc) (cT a x0_fc).1 (cT a x0_fc).2.1)
def yI:Int:=(eW (nS a x0_fc) (cT a x0_fc).2.2)
def wD:aI:=(OQ (yI a x0_fc) (cT a x0_fc).1 (cT a x0_fc).2.1)
def yJ:Int:=(qE (nS a x0_fc) (cT a x0_fc).2.2)
def wE:aI:=(OQ (yJ a x0_fc) (cT a x0_fc).1 (cT a x0_fc).2.1)
def wF:Int×Int:=(bMI a.fx.Size 0 (nS a x0_fc) (cT a x0_fc).2.2)
def sL:aH:=(aBH a.fx.Size (cT a x0_fc).1.fx.Reg (wF a x0_fc).1 (cT a x0_fc).2.1.R)
def sM:Bool:=(aP (sL a x0_fc) (bS (cT a x0_fc).2.1.Bus true))
def qT:Int×Int:=(JW a.fx.Size 0 (nS a x0_fc) (cT a x0_fc).2.2)
def sN:aH:=(aBH a.fx.Size (cT a x0_fc).1.fx.Reg (qT a x0_fc).1 (cT a x0_fc).2.1.R)
def sO:Bool:=(aP (sN a x0_fc) (bS (cT a x0_fc).2.1.Bus true))
end
def a3Y(a:bK)(x0_fc:aI):Pt (bK×aI):=(.ok true (.ok ((cH x0_fc (aWH a x0_fc))&&true) (.ok true (.br (dC (cT a x0_fc).1.ffault.Vector 0) (.ok (wA a x0_fc) (.leaf ((cT a x0_fc).1,(cT a x0_fc).2.1))) (.ok ((cH (cT a x0_fc).2.1 (aFL (cT a x0_fc).1.fx.Reg (cT a x0_fc).1 (cT a x0_fc).2.1))&&true) (.ok true (.ok true (.br (eqI (cT a x0_fc).1.fx.Op 1) (.ok ((cH (cT a x0_fc).2.1 (OR (cT a x0_fc).2.2 (cT a x0_fc).1 (cT a x0_fc).2.1))&&true) (.ok (((aO (wB a x0_fc) true)&&(aO (wB a x0_fc) true))&&true) (.leaf ((cT a x0_fc).1,(wB a x0_fc))))) (.ok true (.br (eqI (cT a x0_fc).1.fx.Op 5) (.ok ((cH (cT a x0_fc).2.1 (OR (yH a x0_fc) (cT a x0_fc).1 (cT a x0_fc).2.1))&&true) (.ok (((aO (wC a x0_fc) true)&&(aO (wC a x0_fc) true))&&true) (.leaf ((cT a x0_fc).1,(wC a x0_fc))))) (.ok true (.br (eqI (cT a x0_fc).1.fx.Op 6) (.ok ((cH (cT a x0_fc).2.1 (OR (yI a x0_fc) (cT a x0_fc).1 (cT a x0_fc).2.1))&&true) (.ok (((aO (wD a x0_fc) true)&&(aO (wD a x0_fc) true))&&true) (.leaf ((cT a x0_fc).1,(wD a x0_fc))))) (.ok true (.br (eqI (cT a x0_fc).1.fx.Op 7) (.ok ((cH (cT a x0_fc).2.1 (OR (yJ a x0_fc) (cT a x0_fc).1 (cT a x0_fc).2.1))&&true) (.ok (((aO (wE a x0_fc) true)&&(aO (wE a x0_fc) true))&&true) (.leaf ((cT a x0_fc).1,(wE a x0_fc))))) (.ok true (.br (eqI (cT a x0_fc).1.fx.Op 8) (.ok ((bMH a.fx.Size (cT a x0_fc).2.1.R.Flags (nS a x0_fc) (cT a x0_fc).2.2)&&true) (.ok (wA a x0_fc) (.leaf ((cT a x0_fc).1,{(cT a x0_fc).2.1 with R:={(cT a x0_fc).2.1.R with Flags:=(bMG a.fx.Size (cT a x0_fc).2.1.R.Flags (nS a x0_fc) (cT a x0_fc).2.2)}})))) (.ok true (.br (eqI (cT a x0_fc).1.fx.Op 3) (.ok ((bMJ a.fx.Size 0 (nS a x0_fc) (cT a x0_fc).2.2)&&true) (.ok ((iA (cT a x0_fc).2.1.R (aBI a.fx.Size (cT a x0_fc).1.fx.Reg (wF a x0_fc).1 (cT a x0_fc).2.1.R))&&true) (.ok true (.ok (((sM a x0_fc)&&(sM a x0_fc))&&true) (.leaf ((cT a x0_fc).1,{(cT a x0_fc).2.1 with R:={(sL a x0_fc)with Flags:=(wF a x0_fc).2}})))))) (.ok true (.br (eqI (cT a x0_fc).1.fx.Op 4) (.ok ((VY a.fx.Size 0 (nS a x0_fc) (cT a x0_fc).2.2)&&true) (.ok ((iA (cT a x0_fc).2.1.R (aBI a.fx.Size (cT a x0_fc).1.fx.Reg (qT a x0_fc).1 (cT a x0_fc).2.1.R))&&true) (.ok true (.ok (((sO a x0_fc)&&(sO a x0_fc))&&true) (.leaf ((cT a x0_fc).1,{(cT a x0_fc).2.1 with R:={(sN a x0_fc)with Flags:=(qT a x0_fc).2}})))))) (.ok (wA a x0_fc) (.leaf ((cT a x0_fc).1,(cT a x0_fc).2.1)))))))))))))))))))))))
def aWL(a:bK)(x0_fc:aI):bK×aI:=hid (a3Y a x0_fc).val
def bMK(a:bK)(x0_fc:aI):Bool:=hid (a3Y a x0_fc).okv
def EU(a:bK)(x0_fc:aI)(r:bK×aI):SV×List Blk:=((.tup []),[.box [.ptr 1 0 0,li r.1.fx.Op,li r.1.fx.Size,li r.1.fx.Reg,li r.1.fx.Ea.Mode,li r.1.fx.Ea.Reg,li r.1.fx.Ea.Ext,li r.1.fx.Sub,li r.1.fpc,li r.1.fword,li r.1.ffault.Vector,li r.1.ffault.PC,li r.1.ffault.Addr,li r.1.ffault.Word, .lit (.bool r.1.ffault.Write)], .box [.sl 2 0 (ln r.2.R.D), .sl 3 0 (ln r.2.R.A),li r.2.R.Other,li r.2.R.PC,li r.2.R.Flags,li r.2.R.Mask, .lit (.bool r.2.R.Super), .lit (.bool r.2.R.Trace), .sl 4 0 (ln r.2.Bus.Bytes), .sl 5 0 (ln r.2.Bus.Log), .lit (.bool r.2.Stop), .lit (.bool r.2.Halt)], .lst 1 r.2.R.D, .lst 1 r.2.R.A, .lst 1 r.2.Bus.Bytes, .lst 5 r.2.Bus.Log])
def q263:=MF (fun a x0_fc=>EU a x0_fc (aWL a x0_fc)) bMK
theorem cE3:cK 263 q263:=v8 fun a x0_fc hk=>tc b0Y aQQ [(14,K0),(27,K0),(34,K0),(40,K0),(74,K0),(95,K0),(117,K0)] [] true (a3Y a x0_fc) (EU a x0_fc) hk
def Q263:=aZ 263 q263 Q284
theorem aQR:QO Q263:=aF cE3 aQQ
section
variable(b:Int)(c:Int)(a:bK)(x0_fc:aI)
def MH:bM×Int×Int:=(JU 2 a.fx.Size b c x0_fc.Bus)
def aBL:Bool:=(aP x0_fc.R (bS (MH b c a x0_fc).1 true))
def aBM:aI:={x0_fc with Bus:=(MH b c a x0_fc).1}
end
def a3Z(b:Int)(c:Int)(a:bK)(x0_fc:aI):Pt (bK×aI):=(.ok (((rS x0_fc.Bus (HI 2 a.fx.Size b c x0_fc.Bus))&&true)&&true) (.ok ((dd (aBL b c a x0_fc) (aP x0_fc.R (bS (MH b c a x0_fc).1 (aWG (MH b c a x0_fc).2.2 b true a (aBM b c a x0_fc)))))&&true) (.ok (((aBL b c a x0_fc)&&(aBL b c a x0_fc))&&true) (.leaf ((aWF (MH b c a x0_fc).2.2 b true a (aBM b c a x0_fc)),(aBM b c a x0_fc))))))
def aWM(b:Int)(c:Int)(a:bK)(x0_fc:aI):bK×aI:=hid (a3Z b c a x0_fc).val
def bML(b:Int)(c:Int)(a:bK)(x0_fc:aI):Bool:=hid (a3Z b c a x0_fc).okv
def bD6(b:Int)(c:Int)(a:bK)(x0_fc:aI)(r:bK×aI):SV×List Blk:=((.tup []),[.box [.ptr 1 0 0,li r.1.fx.Op,li r.1.fx.Size,li r.1.fx.Reg,li r.1.fx.Ea.Mode,li r.1.fx.Ea.Reg,li r.1.fx.Ea.Ext,li r.1.fx.Sub,li r.1.fpc,li r.1.fword,li r.1.ffault.Vector,li r.1.ffault.PC,li r.1.ffault.Addr,li r.1.ffault.Word, .lit (.bool r.1.ffault.Write)], .box [.sl 2 0 (ln r.2.R.D), .sl 3 0 (ln r.2.R.A),li r.2.R.Other,li r.2.R.PC,li r.2.R.Flags,li r.2.R.Mask, .lit (.bool r.2.R.Super), .lit (.bool r.2.R.Trace), .sl 4 0 (ln r.2.Bus.Bytes), .sl 5 0 (ln r.2.Bus.Log), .lit (.bool r.2.Stop), .lit (.bool r.2.Halt)], .lst 1 r.2.R.D, .lst 1 r.2.R.A, .lst 1 r.2.Bus.Bytes, .lst 5 r.2.Bus.Log])
def q298:=a3F (fun b c a x0_fc=>bD6 b c a x0_fc (aWM b c a x0_fc)) bML
theorem cE4:cK 298 q298:=aJ9 fun b c a x0_fc hk=>tc b1X aQR [(19,K0)] [] true (a3Z b c a x0_fc) (bD6 b c a x0_fc) hk
def Q298:=aZ 298 q298 Q263
theorem aQS:QO Q298:=aF cE4 aQR
section
variable(c:Int)(a:bK)(x0_fc:aI)
def aKW:aH:=(aBH a.fx.Size a.fx.Ea.Reg c x0_fc.R)
def aKX:Bool:=(aP (aKW c a x0_fc) (bS x0_fc.Bus true))
end
def a30(b:Int)(c:Int)(a:bK)(x0_fc:aI):Pt (bK×aI):=(.ok true (.br (eqI a.fx.Ea.Mode 0) (.ok (((iA x0_fc.R (aBI a.fx.Size a.fx.Ea.Reg c x0_fc.R))&&true)&&true) (.ok (((aKX c a x0_fc)&&(aKX c a x0_fc))&&true) (.leaf (a,{x0_fc with R:=(aKW c a x0_fc)})))) (.ok ((cH x0_fc (bML b c a x0_fc))&&true) (.ok (((aO (aWM b c a x0_fc).2 true)&&(aO (aWM b c a x0_fc).2 true))&&true) (.leaf ((aWM b c a x0_fc).1,(aWM b c a x0_fc).2))))))
def rW(b:Int)(c:Int)(a:bK)(x0_fc:aI):bK×aI:=hid (a30 b c a x0_fc).val
def yK(b:Int)(c:Int)(a:bK)(x0_fc:aI):Bool:=hid (a30 b c a x0_fc).okv
def q286:=a3F (fun b c a x0_fc=>bD6 b c a x0_fc (rW b c a x0_fc)) yK
theorem cE5:cK 286 q286:=aJ9 fun b c a x0_fc hk=>tc b1L aQS [(11,K0),(23,K0),(29,K0)] [] true (a30 b c a x0_fc) (bD6 b c a x0_fc) hk
def Q286:=aZ 286 q286 Q298
theorem aQT:QO Q286:=aF cE5 aQS
section
variable(a:bK)(x0_fc:aI)
def C7:aH×Int:=(aKL a.fx.Size a.fx.Ea x0_fc.R)
def yL:Int:=(aFK a.fx.Reg a x0_fc)
def C8:bK×aI:=(rW (C7 a x0_fc).2 (yL a x0_fc) a {x0_fc with R:=(C7 a x0_fc).1})
def SU:aI:=(tP (yL a x0_fc) (C8 a x0_fc).1 (C8 a x0_fc).2)
def C9:bK×aI:=(rW 0 (yL a x0_fc) a x0_fc)
def SW:aI:=(tP (yL a x0_fc) (C9 a x0_fc).1 (C9 a x0_fc).2)
end
def a31(a:bK)(x0_fc:aI):Pt (bK×aI):=(.ok true (.ok ((cH x0_fc (aFL a.fx.Reg a x0_fc))&&true) (.ok true (.br (dC a.fx.Ea.Mode 0) (.ok (((iA x0_fc.R (aKM a.fx.Size a.fx.Ea x0_fc.R))&&true)&&true) (.ok ((dd (aP (C7 a x0_fc).1 (bS x0_fc.Bus true)) (aP (C7 a x0_fc).1 (bS x0_fc.Bus (yK (C7 a x0_fc).2 (yL a x0_fc) a {x0_fc with R:=(C7 a x0_fc).1}))))&&true) (.ok ((cH (C8 a x0_fc).2 (v9 (yL a x0_fc) (C8 a x0_fc).1 (C8 a x0_fc).2))&&true) (.ok (((aO (SU a x0_fc) true)&&(aO (SU a x0_fc) true))&&true) (.leaf ((C8 a x0_fc).1,(SU a x0_fc))))))) (.ok ((cH x0_fc (yK 0 (yL a x0_fc) a x0_fc))&&true) (.ok ((cH (C9 a x0_fc).2 (v9 (yL a x0_fc) (C9 a x0_fc).1 (C9 a x0_fc).2))&&true) (.ok (((aO (SW a x0_fc) true)&&(aO (SW a x0_fc) true))&&true) (.leaf ((C9 a x0_fc).1,(SW a x0_fc))))))))))
def aWN(a:bK)(x0_fc:aI):bK×aI:=hid (a31 a x0_fc).val
def bMM(a:bK)(x0_fc:aI):Bool:=hid (a31 a x0_fc).okv
def q264:=MF (fun a x0_fc=>EU a x0_fc (aWN a x0_fc)) bMM
theorem cE6:cK 264 q264:=v8 fun a x0_fc hk=>tc b0Z aQT [(9,K0),(16,K0),(28,K0),(33,K4)] [] true (a31 a x0_fc) (EU a x0_fc) hk
def Q264:=aZ 264 q264 Q286
theorem aQU:QO Q264:=aF cE6 aQT
section
variable(a:bK)(x0_fc:aI)
def cZ:aH×Int:=(aKL a.fx.Size a.fx.Ea x0_fc.R)
def jE:Bool:=(aP (cZ a x0_fc).1 (bS x0_fc.Bus true))
def pO:Bool:=(((jE a x0_fc)&&(jE a x0_fc))&&true)
def rX:Bool:=((dd (jE a x0_fc) (aP (cZ a x0_fc).1 (bS x0_fc.Bus (yK (cZ a x0_fc).2 0 a {x0_fc with R:=(cZ a x0_fc).1}))))&&true)
def lY:bK×aI:=(rW (cZ a x0_fc).2 0 a {x0_fc with R:=(cZ a x0_fc).1})
def rY:Bool:=((cH (lY a x0_fc).2 (v9 0 (lY a x0_fc).1 (lY a x0_fc).2))&&true)
def pQ:aI:=(tP 0 (lY a x0_fc).1 (lY a x0_fc).2)
def rZ:Bool:=(((aO (pQ a x0_fc) true)&&(aO (pQ a x0_fc) true))&&true)
def oX:bK×aI:=(rW (cZ a x0_fc).2 (JW a.fx.Size 0 0 0).1 a {x0_fc with R:=(cZ a x0_fc).1})
def nT:bK×aI:=(rW (cZ a x0_fc).2 (qE 0 (cN (pM a.fx.Size) 1)) a {x0_fc with R:=(cZ a x0_fc).1})
def mG:aI:=(tP (qE 0 (cN (pM a.fx.Size) 1)) (nT a x0_fc).1 (nT a x0_fc).2)
def mH:aI:=(tP 0 a {x0_fc with R:=(cZ a x0_fc).1})
def kJ:Int:=(aFK a.fx.Ea.Reg a {x0_fc with R:=(cZ a x0_fc).1})
def mI:Int×Int:=(JW a.fx.Size 0 0 (kJ a x0_fc))
def kK:bK×aI:=(rW (cZ a x0_fc).2 (mI a x0_fc).1 a {x0_fc with R:=(cZ a x0_fc).1})
def lJ:Int:=(qE (kJ a x0_fc) (cN (pM a.fx.Size) 1))
def j0:bK×aI:=(rW (cZ a x0_fc).2 (lJ a x0_fc) a {x0_fc with R:=(cZ a x0_fc).1})
def mJ:aI:=(tP (lJ a x0_fc) (j0 a x0_fc).1 (j0 a x0_fc).2)
def mK:aI:=(tP (kJ a x0_fc) a {x0_fc with R:=(cZ a x0_fc).1})
def dA:bK×aI×Int:=(kV (cZ a x0_fc).2 a {x0_fc with R:=(cZ a x0_fc).1})
def oC:Bool:=(((aO (dA a x0_fc).2.1 true)&&(aO (dA a x0_fc).2.1 true))&&true)
def j4:bK×aI:=(rW (cZ a x0_fc).2 0 (dA a x0_fc).1 (dA a x0_fc).2.1)
def mL:aI:=(tP 0 (j4 a x0_fc).1 (j4 a x0_fc).2)
def mM:Int×Int:=(JW a.fx.Size 0 0 (dA a x0_fc).2.2)
def kL:bK×aI:=(rW (cZ a x0_fc).2 (mM a x0_fc).1 (dA a x0_fc).1 (dA a x0_fc).2.1)
def lK:Int:=(qE (dA a x0_fc).2.2 (cN (pM a.fx.Size) 1))
def j5:bK×aI:=(rW (cZ a x0_fc).2 (lK a x0_fc) (dA a x0_fc).1 (dA a x0_fc).2.1)
def mN:aI:=(tP (lK a x0_fc) (j5 a x0_fc).1 (j5 a x0_fc).2)
def mO:aI:=(tP (dA a x0_fc).2.2 (dA a x0_fc).1 (dA a x0_fc).2.1)
def lL:Bool:=(((aO x0_fc true)&&(aO x0_fc true))&&true)
def oD:Bool:=((cH x0_fc (yK 0 0 a x0_fc))&&true)
def oE:Bool:=((cH (rW 0 0 a x0_fc).2 (v9 0 (rW 0 0 a x0_fc).1 (rW 0 0 a x0_fc).2))&&true)
def lM:aI:=(tP 0 (rW 0 0 a x0_fc).1 (rW 0 0 a x0_fc).2)
def oF:Bool:=(((aO (lM a x0_fc) true)&&(aO (lM a x0_fc) true))&&true)
def kM:bK×aI:=(rW 0 (JW a.fx.Size 0 0 0).1 a x0_fc)
def j6:bK×aI:=(rW 0 (qE 0 (cN (pM a.fx.Size) 1)) a x0_fc)
def mP:aI:=(tP (qE 0 (cN (pM a.fx.Size) 1)) (j6 a x0_fc).1 (j6 a x0_fc).2)
def kN:Int:=(aFK a.fx.Ea.Reg a x0_fc)
def mQ:Int×Int:=(JW a.fx.Size 0 0 (kN a x0_fc))
def kO:bK×aI:=(rW 0 (mQ a x0_fc).1 a x0_fc)
def lN:Int:=(qE (kN a x0_fc) (cN (pM a.fx.Size) 1))
def j7:bK×aI:=(rW 0 (lN a x0_fc) a x0_fc)
def mR:aI:=(tP (lN a x0_fc) (j7 a x0_fc).1 (j7 a x0_fc).2)
def mS:aI:=(tP (kN a x0_fc) a x0_fc)
def oG:Bool:=(((aO (kV 0 a x0_fc).2.1 true)&&(aO (kV 0 a x0_fc).2.1 true))&&true)
def j8:bK×aI:=(rW 0 0 (kV 0 a x0_fc).1 (kV 0 a x0_fc).2.1)
def mT:aI:=(tP 0 (j8 a x0_fc).1 (j8 a x0_fc).2)
def mU:Int×Int:=(JW a.fx.Size 0 0 (kV 0 a x0_fc).2.2)
def kP:bK×aI:=(rW 0 (mU a x0_fc).1 (kV 0 a x0_fc).1 (kV 0 a x0_fc).2.1)
def lO:Int:=(qE (kV 0 a x0_fc).2.2 (cN (pM a.fx.Size) 1))
def j9:bK×aI:=(rW 0 (lO a x0_fc) (kV 0 a x0_fc).1 (kV 0 a x0_fc).2.1)
def mV:aI:=(tP (lO a x0_fc) (j9 a x0_fc).1 (j9 a x0_fc).2)
def mW:aI:=(tP (kV 0 a x0_fc).2.2 (kV 0 a x0_fc).1 (kV 0 a x0_fc).2.1)
end
def a32(a:bK)(x0_fc:aI):Pt (bK×aI):=(.ok true (.ok true (.ok true (.br (dC a.fx.Ea.Mode 0) (.ok ((iA x0_fc.R (aKM a.fx.Size a.fx.Ea x0_fc.R))&&true) (.ok true (.br (eqI a.fx.Sub 0) (.ok true (.br (dC a.ffault.Vector 0) (.ok (pO a x0_fc) (.leaf (a,{x0_fc with R:=(cZ a x0_fc).1}))) (.ok true (.ok true (.br (eqI a.fx.Sub 0) (.ok (rX a x0_fc) (.ok (rY a x0_fc) (.ok (rZ a x0_fc) (.leaf ((lY a x0_fc).1,(pQ a x0_fc)))))) (.ok true (.br (eqI a.fx.Sub 1) (.ok ((VY a.fx.Size 0 0 0)&&true) (.ok ((dd (jE a x0_fc) (aP (cZ a x0_fc).1 (bS x0_fc.Bus (yK (cZ a x0_fc).2 (JW a.fx.Size 0 0 0).1 a {x0_fc with R:=(cZ a x0_fc).1}))))&&true) (.ok true (.ok (((aO (oX a x0_fc).2 true)&&(aO (oX a x0_fc).2 true))&&true) (.leaf ((oX a x0_fc).1,{(oX a x0_fc).2 with R:={(oX a x0_fc).2.R with Flags:=(JW a.fx.Size 0 0 0).2}})))))) (.ok true (.br (eqI a.fx.Sub 2) (.ok ((C4 a.fx.Size)&&true) (.ok ((dd (jE a x0_fc) (aP (cZ a x0_fc).1 (bS x0_fc.Bus (yK (cZ a x0_fc).2 (qE 0 (cN (pM a.fx.Size) 1)) a {x0_fc with R:=(cZ a x0_fc).1}))))&&true) (.ok ((cH (nT a x0_fc).2 (v9 (qE 0 (cN (pM a.fx.Size) 1)) (nT a x0_fc).1 (nT a x0_fc).2))&&true) (.ok (((aO (mG a x0_fc) true)&&(aO (mG a x0_fc) true))&&true) (.leaf ((nT a x0_fc).1,(mG a x0_fc))))))) (.ok true (.br (eqI a.fx.Sub 3) (.ok ((dd (jE a x0_fc) (aP (cZ a x0_fc).1 (bS x0_fc.Bus (v9 0 a {x0_fc with R:=(cZ a x0_fc).1}))))&&true) (.ok (((aO (mH a x0_fc) true)&&(aO (mH a x0_fc) true))&&true) (.leaf (a,(mH a x0_fc))))) (.ok (pO a x0_fc) (.leaf (a,{x0_fc with R:=(cZ a x0_fc).1})))))))))))))) (.ok true (.br (eqI a.fx.Ea.Mode 0) (.ok ((dd (jE a x0_fc) (aP (cZ a x0_fc).1 (bS x0_fc.Bus (aFL a.fx.Ea.Reg a {x0_fc with R:=(cZ a x0_fc).1}))))&&true) (.ok true (.br (dC a.ffault.Vector 0) (.ok (pO a x0_fc) (.leaf (a,{x0_fc with R:=(cZ a x0_fc).1}))) (.ok true (.ok true (.br (eqI a.fx.Sub 0) (.ok (rX a x0_fc) (.ok (rY a x0_fc) (.ok (rZ a x0_fc) (.leaf ((lY a x0_fc).1,(pQ a x0_fc)))))) (.ok true (.br (eqI a.fx.Sub 1) (.ok ((VY a.fx.Size 0 0 (kJ a x0_fc))&&true) (.ok ((dd (jE a x0_fc) (aP (cZ a x0_fc).1 (bS x0_fc.Bus (yK (cZ a x0_fc).2 (mI a x0_fc).1 a {x0_fc with R:=(cZ a x0_fc).1}))))&&true) (.ok true (.ok (((aO (kK a x0_fc).2 true)&&(aO (kK a x0_fc).2 true))&&true) (.leaf ((kK a x0_fc).1,{(kK a x0_fc).2 with R:={(kK a x0_fc).2.R with Flags:=(mI a x0_fc).2}})))))) (.ok true (.br (eqI a.fx.Sub 2) (.ok ((C4 a.fx.Size)&&true) (.ok ((dd (jE a x0_fc) (aP (cZ a x0_fc).1 (bS x0_fc.Bus (yK (cZ a x0_fc).2 (lJ a x0_fc) a {x0_fc with R:=(cZ a x0_fc).1}))))&&true) (.ok ((cH (j0 a x0_fc).2 (v9 (lJ a x0_fc) (j0 a x0_fc).1 (j0 a x0_fc).2))&&true) (.ok (((aO (mJ a x0_fc) true)&&(aO (mJ a x0_fc) true))&&true) (.leaf ((j0 a x0_fc).1,(mJ a x0_fc))))))) (.ok true (.br (eqI a.fx.Sub 3) (.ok ((dd (jE a x0_fc) (aP (cZ a x0_fc).1 (bS x0_fc.Bus (v9 (kJ a x0_fc) a {x0_fc with R:=(cZ a x0_fc).1}))))&&true) (.ok (((aO (mK a x0_fc) true)&&(aO (mK a x0_fc) true))&&true) (.leaf (a,(mK a x0_fc))))) (.ok (pO a x0_fc) (.leaf (a,{x0_fc with R:=(cZ a x0_fc).1}))))))))))))))) (.ok ((dd (jE a x0_fc) (aP (cZ a x0_fc).1 (bS x0_fc.Bus (a3M (cZ a x0_fc).2 a {x0_fc with R:=(cZ a x0_fc).1}))))&&true) (.ok true (.br (dC (dA a x0_fc).1.ffault.Vector 0) (.ok (oC a x0_fc) (.leaf ((dA a x0_fc).1,(dA a x0_fc).2.1))) (.ok true (.ok true (.br (eqI (dA a x0_fc).1.fx.Sub 0) (.ok ((cH (dA a x0_fc).2.1 (yK (cZ a x0_fc).2 0 (dA a x0_fc).1 (dA a x0_fc).2.1))&&true) (.ok ((cH (j4 a x0_fc).2 (v9 0 (j4 a x0_fc).1 (j4 a x0_fc).2))&&true) (.ok (((aO (mL a x0_fc) true)&&(aO (mL a x0_fc) true))&&true) (.leaf ((j4 a x0_fc).1,(mL a x0_fc)))))) (.ok true (.br (eqI (dA a x0_fc).1.fx.Sub 1) (.ok ((VY a.fx.Size 0 0 (dA a x0_fc).2.2)&&true) (.ok ((cH (dA a x0_fc).2.1 (yK (cZ a x0_fc).2 (mM a x0_fc).1 (dA a x0_fc).1 (dA a x0_fc).2.1))&&true) (.ok true (.ok (((aO (kL a x0_fc).2 true)&&(aO (kL a x0_fc).2 true))&&true) (.leaf ((kL a x0_fc).1,{(kL a x0_fc).2 with R:={(kL a x0_fc).2.R with Flags:=(mM a x0_fc).2}})))))) (.ok true (.br (eqI (dA a x0_fc).1.fx.Sub 2) (.ok ((C4 a.fx.Size)&&true) (.ok ((cH (dA a x0_fc).2.1 (yK (cZ a x0_fc).2 (lK a x0_fc) (dA a x0_fc).1 (dA a x0_fc).2.1))&&true) (.ok ((cH (j5 a x0_fc).2 (v9 (lK a x0_fc) (j5 a x0_fc).1 (j5 a x0_fc).2))&&true) (.ok (((aO (mN a x0_fc) true)&&(aO (mN a x0_fc) true))&&true) (.leaf ((j5 a x0_fc).1,(mN a x0_fc))))))) (.ok true (.br (eqI (dA a x0_fc).1.fx.Sub 3) (.ok ((cH (dA a x0_fc).2.1 (v9 (dA a x0_fc).2.2 (dA a x0_fc).1 (dA a x0_fc).2.1))&&true) (.ok (((aO (mO a x0_fc) true)&&(aO (mO a x0_fc) true))&&true) (.leaf ((dA a x0_fc).1,(mO a x0_fc))))) (.ok (oC a x0_fc) (.leaf ((dA a x0_fc).1,(dA a x0_fc).2.1)))))))))))))))))))) (.ok true (.br (eqI a.fx.Sub 0) (.ok true (.br (dC a.ffault.Vector 0) (.ok (lL x0_fc) (.leaf (a,x0_fc))) (.ok true (.ok true (.br (eqI a.fx.Sub 0) (.ok (oD a x0_fc) (.ok (oE a x0_fc) (.ok (oF a x0_fc) (.leaf ((rW 0 0 a x0_fc).1,(lM a x0_fc)))))) (.ok true (.br (eqI a.fx.Sub 1) (.ok ((VY a.fx.Size 0 0 0)&&true) (.ok ((cH x0_fc (yK 0 (JW a.fx.Size 0 0 0).1 a x0_fc))&&true) (.ok true (.ok (((aO (kM a x0_fc).2 true)&&(aO (kM a x0_fc).2 true))&&true) (.leaf ((kM a x0_fc).1,{(kM a x0_fc).2 with R:={(kM a x0_fc).2.R with Flags:=(JW a.fx.Size 0 0 0).2}})))))) (.ok true (.br (eqI a.fx.Sub 2) (.ok ((C4 a.fx.Size)&&true) (.ok ((cH x0_fc (yK 0 (qE 0 (cN (pM a.fx.Size) 1)) a x0_fc))&&true) (.ok ((cH (j6 a x0_fc).2 (v9 (qE 0 (cN (pM a.fx.Size) 1)) (j6 a x0_fc).1 (j6 a x0_fc).2))&&true) (.ok (((aO (mP a x0_fc) true)&&(aO (mP a x0_fc) true))&&true) (.leaf ((j6 a x0_fc).1,(mP a x0_fc))))))) (.ok true (.br (eqI a.fx.Sub 3) (.ok ((cH x0_fc (v9 0 a x0_fc))&&true) (.ok (((aO (tP 0 a x0_fc) true)&&(aO (tP 0 a x0_fc) true))&&true) (.leaf (a,(tP 0 a x0_fc))))) (.ok (lL x0_fc) (.leaf (a,x0_fc)))))))))))))) (.ok true (.br (eqI a.fx.Ea.Mode 0) (.ok ((cH x0_fc (aFL a.fx.Ea.Reg a x0_fc))&&true) (.ok true (.br (dC a.ffault.Vector 0) (.ok (lL x0_fc) (.leaf (a,x0_fc))) (.ok true (.ok true (.br (eqI a.fx.Sub 0) (.ok (oD a x0_fc) (.ok (oE a x0_fc) (.ok (oF a x0_fc) (.leaf ((rW 0 0 a x0_fc).1,(lM a x0_fc)))))) (.ok true (.br (eqI a.fx.Sub 1) (.ok ((VY a.fx.Size 0 0 (kN a x0_fc))&&true) (.ok ((cH x0_fc (yK 0 (mQ a x0_fc).1 a x0_fc))&&true) (.ok true (.ok (((aO (kO a x0_fc).2 true)&&(aO (kO a x0_fc).2 true))&&true) (.leaf ((kO a x0_fc).1,{(kO a x0_fc).2 with R:={(kO a x0_fc).2.R with Flags:=(mQ a x0_fc).2}})))))) (.ok true (.br (eqI a.fx.Sub 2) (.ok ((C4 a.fx.Size)&&true) (.ok ((cH x0_fc (yK 0 (lN a x0_fc) a x0_fc))&&true) (.ok ((cH (j7 a x0_fc).2 (v9 (lN a x0_fc) (j7 a x0_fc).1 (j7 a x0_fc).2))&&true) (.ok (((aO (mR a x0_fc) true)&&(aO (mR a x0_fc) true))&&true) (.leaf ((j7 a x0_fc).1,(mR a x0_fc))))))) (.ok true (.br (eqI a.fx.Sub 3) (.ok ((cH x0_fc (v9 (kN a x0_fc) a x0_fc))&&true) (.ok (((aO (mS a x0_fc) true)&&(aO (mS a x0_fc) true))&&true) (.leaf (a,(mS a x0_fc))))) (.ok (lL x0_fc) (.leaf (a,x0_fc))))))))))))))) (.ok ((cH x0_fc (a3M 0 a x0_fc))&&true) (.ok true (.br (dC (kV 0 a x0_fc).1.ffault.Vector 0) (.ok (oG a x0_fc) (.leaf ((kV 0 a x0_fc).1,(kV 0 a x0_fc).2.1))) (.ok true (.ok true (.br (eqI (kV 0 a x0_fc).1.fx.Sub 0) (.ok ((cH (kV 0 a x0_fc).2.1 (yK 0 0 (kV 0 a x0_fc).1 (kV 0 a x0_fc).2.1))&&true) (.ok ((cH (j8 a x0_fc).2 (v9 0 (j8 a x0_fc).1 (j8 a x0_fc).2))&&true) (.ok (((aO (mT a x0_fc) true)&&(aO (mT a x0_fc) true))&&true) (.leaf ((j8 a x0_fc).1,(mT a x0_fc)))))) (.ok true (.br (eqI (kV 0 a x0_fc).1.fx.Sub 1) (.ok ((VY a.fx.Size 0 0 (kV 0 a x0_fc).2.2)&&true) (.ok ((cH (kV 0 a x0_fc).2.1 (yK 0 (mU a x0_fc).1 (kV 0 a x0_fc).1 (kV 0 a x0_fc).2.1))&&true) (.ok true (.ok (((aO (kP a x0_fc).2 true)&&(aO (kP a x0_fc).2 true))&&true) (.leaf ((kP a x0_fc).1,{(kP a x0_fc).2 with R:={(kP a x0_fc).2.R with Flags:=(mU a x0_fc).2}})))))) (.ok true (.br (eqI (kV 0 a x0_fc).1.fx.Sub 2) (.ok ((C4 a.fx.Size)&&true) (.ok ((cH (kV 0 a x0_fc).2.1 (yK 0 (lO a x0_fc) (kV 0 a x0_fc).1 (kV 0 a x0_fc).2.1))&&true) (.ok ((cH (j9 a x0_fc).2 (v9 (lO a x0_fc) (j9 a x0_fc).1 (j9 a x0_fc).2))&&true) (.ok (((aO (mV a x0_fc) true)&&(aO (mV a x0_fc) true))&&true) (.leaf ((j9 a x0_fc).1,(mV a x0_fc))))))) (.ok true (.br (eqI (kV 0 a x0_fc).1.fx.Sub 3) (.ok ((cH (kV 0 a x0_fc).2.1 (v9 (kV 0 a x0_fc).2.2 (kV 0 a x0_fc).1 (kV 0 a x0_fc).2.1))&&true) (.ok (((aO (mW a x0_fc) true)&&(aO (mW a x0_fc) true))&&true) (.leaf ((kV 0 a x0_fc).1,(mW a x0_fc))))) (.ok (oG a x0_fc) (.leaf ((kV 0 a x0_fc).1,(kV 0 a x0_fc).2.1)))))))))))))))))))))))
def aWO(a:bK)(x0_fc:aI):bK×aI:=hid (a32 a x0_fc).val
def bMN(a:bK)(x0_fc:aI):Bool:=hid (a32 a x0_fc).okv
def q267:=MF (fun a x0_fc=>EU a x0_fc (aWO a x0_fc)) bMN
theorem cE7:cK 267 q267:=v8 fun a x0_fc hk=>tc b02 aQU [(13,K0),(25,K0),(33,K4),(43,K0),(51,K0),(59,K0),(65,K0),(71,K0)] [] true (a32 a x0_fc) (EU a x0_fc) hk
def Q267:=aZ 267 q267 Q264
theorem aQV:QO Q267:=aF cE7 aQU
def a33(a:Int):Pt (Bool):=(.ok true (.ok true (.ok true (.ok true (.leaf (eqI (nM a 2) 0))))))
def aWP(a:Int):Bool:=hid (a33 a).val
def bD7(a:Int):Bool:=hid (a33 a).okv
def q301:=BP (fun a=>jZ a (aWP a)) bD7
theorem cE8:cK 100301 q301:=gS fun a hk=>tz b10 aQV [] [] true (a33 a) (jZ a) hk
def Q301:=aZ 100301 q301 Q267
theorem aQW:QO Q301:=aF cE8 aQV
def cE9(a:Int)(b:Int)(c:Int)(d:Int)(o:Int):List SV:=[(.one (li a)),(.one (li b)),(.one (li c)),(.one (li d)),(.one (li o))]
def cFA(a:Int)(b:Int)(c:Int)(d:Int)(o:Int):List Blk:=[]
def a34(N:Int→Int→Int→Int→Int→SV×List Blk)(K:Int→Int→Int→Int→Int→Bool):List SV→List Blk→Option ((SV×List Blk)×Bool)
 |[(.one (li c0)),(.one (li c1)),(.one (li c2)),(.one (li c3)),(.one (li c4))],[]=>some (N c0 c1 c2 c3 c4,K c0 c1 c2 c3 c4)
 |_,_=>none
theorem aKY{N:Int→Int→Int→Int→Int→SV×List Blk}{K:Int→Int→Int→Int→Int→Bool}{f:Nat}(h: ∀(a:Int)(b:Int)(c:Int)(d:Int)(o:Int),K a b c d o=true→dJ R f (cE9 a b c d o) (cFA a b c d o)=some (N a b c d o)):cK f (a34 N K):=fun _ _ _ e=>by
 unfold a34 at e;split at e
 ·exact vH e (h _ _ _ _ _)
 ·cases e
def a35(a:Int)(b:Int)(c:Int)(d:Int)(o:Int):Pt (Int):=(.ok true (.ok true (.ok true (.br (eqI a 1) (.ok ((leI 0 (cN (dH 8 b) 1))&&true) (.ok true (.ok true (.leaf (eZ d (cN (dH 8 b) 1)))))) (.ok true (.ok true (.br (bif (eqI a 4)then(eqI a 4)else(eqI a 5)) (.ok true (.ok true (.ok true (.leaf o)))) (.ok true (.ok true (.br (bif (eqI a 6)then(eqI a 6)else(eqI a 7)) (.ok true (.ok true (.ok true (.leaf (lQ c 16))))) (.ok true (.ok true (.ok true (.leaf 0))))))))))))))
def bMO(a:Int)(b:Int)(c:Int)(d:Int)(o:Int):Int:=hid (a35 a b c d o).val
def bMP(a:Int)(b:Int)(c:Int)(d:Int)(o:Int):Bool:=hid (a35 a b c d o).okv
def b3Y(a:Int)(b:Int)(c:Int)(d:Int)(o:Int)(r:Int):SV×List Blk:=((.one (li r)),[])
def q302:=a34 (fun a b c d o=>b3Y a b c d o (bMO a b c d o)) bMP
theorem cFB:cK 100302 q302:=aKY fun a b c d o hk=>tz b11 aQW [] [] true (a35 a b c d o) (b3Y a b c d o) hk
def Q302:=aZ 100302 q302 Q301
theorem aQX:QO Q302:=aF cFB aQW
section
variable(a:Int)(b:Int)(c:Int)(d:Int)
def MI:Int:=(bif (aWP a)then(eZ d (cN (dH 8 b) 1))else(bH d 1))
def aBN:Int:=(bMO a b c d (MI a b d))
def MJ:Int:=(bif (aWP a)then(eW (bH (m7 d 1) (cN (pM b) 1)) (aBN a b c d))else(eW (eZ d 1) (m7 (aBN a b c d) (cN (dH 8 b) 1))))
def aKZ:Bool:=(bif (eqI a 0)then(dC (eZ (MJ a b c d) (cN (dH 8 b) 1)) (eZ d (cN (dH 8 b) 1)))else false)
end
def a36(a:Int)(b:Int)(c:Int)(d:Int):Pt (Int×Int):=(.ok true (.ok true (.ok true (.ok ((bD7 a)&&true) (.ok ((((leI 0 (cN (dH 8 b) 1))&&true)||(!(aWP a)))&&true) (.ok ((bMP a b c d (MI a b d))&&true) (.ok ((leI 0 (cN (dH 8 b) 1))&&true) (.ok ((bD7 a)&&true) (.ok ((((C4 b)&&true)||(!(aWP a)))&&true) (.ok true (.ok true (.ok true (.ok ((((leI 0 (cN (dH 8 b) 1))&&((leI 0 (cN (dH 8 b) 1))&&true))||(!(eqI a 0)))&&true) (.ok ((yG (aKZ a b c d) 2)&&((aWJ b (MJ a b c d))&&true)) (.ok true (.ok true (.leaf ((MJ a b c d),(eW (eW (eW (dH (MI a b d) 1) (bif (bif (eqI a 4)then true else(eqI a 5))then(bH c 16)else(dH (MI a b d) 16))) (yF (aKZ a b c d) 2)) (aWI b (MJ a b c d)))))))))))))))))))))
def bMQ(a:Int)(b:Int)(c:Int)(d:Int):Int×Int:=hid (a36 a b c d).val
def bMR(a:Int)(b:Int)(c:Int)(d:Int):Bool:=hid (a36 a b c d).okv
def q290:=VX (fun a b c d=>OS a b c d (bMQ a b c d)) bMR
theorem cFC:cK 100290 q290:=C6 fun a b c d hk=>tz b1P aQX [] [] true (a36 a b c d) (OS a b c d) hk
def Q290:=aZ 100290 q290 Q302
theorem aBO:QO Q290:=aF cFC aQX
structure V268_0 where
 mk::
 (s0:Int)
 (s1:Int)
 (s2:Int)
 (s3:Int)
 (s4:Int)
 (s14:Int)
section
variable(v:V268_0)
def A4:Int×Int:=(bMQ v.s0 v.s1 v.s2 v.s3)
end
def MK(v:V268_0):Pt (Option V268_0):=(.ok true (.br (kU v.s4 0) (.ok ((bMR v.s0 v.s1 v.s2 v.s3)&&true) (.ok true (.ok true (.ok true (.leaf (some (V268_0.mk v.s0 v.s1 (A4 v).2 (A4 v).1 (cN v.s4 1) (eW v.s14 (bH (A4 v).2 2))))))))) (.leaf none)))
def SX(v:V268_0):St:=⟨[(0,(.one (li v.s0))),(1,(.one (li v.s1))),(2,(.one (li v.s2))),(3,(.one (li v.s3))),(4,(.one (li v.s4))),(14,(.one (li v.s14)))],[]⟩
def aBP:St→Option (V268_0×Bool)
 |⟨[(0,(.one (li c0))),(1,(.one (li c1))),(2,(.one (li c2))),(3,(.one (li c3))),(4,(.one (li c4))),(14,(.one (li c5)))],[]⟩=>some ((V268_0.mk c0 c1 c2 c3 c4 c5),true)
 |_=>none
def aBQ:St→Option (Pt Out):=x9 Q290 [] [] true [] 0 2097152 aH1
theorem bD8(v:V268_0):((aBQ (SX v)).bind (sY true false 0 [0,1,2,3,4,14]))=some ((MK v).map (Option.map SX)):=by kernel_rfl
theorem bD9(σ:St)(v:V268_0)(h:aBP σ=some (v,true)):σ=SX v:=by
 unfold aBP at h;split at h
 ·obtain⟨hr,hk⟩:=qp (qi h);rw[←hr];rfl
 ·simp at h
theorem bEA:dB (vF true false 0 [0,1,2,3,4,14] aBQ aBP SX MK 2097152) (fY R 0 2097152 (.loop [0,1,2,3,4,14] aH1)):=eM (dD aBO (cQ (l:=[]) (by kernel_rfl) trivial)) bD9 bD8
def bEB:Lp:=(34,vF true false 0 [0,1,2,3,4,14] aBQ aBP SX MK 2097152)::[]
def SY(v:V268_0):V268_0:=(hid (eG MK 2097152 v)).getD v
def aK0(v:V268_0):Bool:=(hid (eG MK 2097152 v)).isSome
section
variable(a:Int)(b:Int)(c:Int)(d:Int)(o:Int)
def aK1:Bool:=(bif (dC (bH c 16) 0)then(geI a 6)else false)
def aBR:V268_0:=(SY (V268_0.mk a b c d o 0))
end
def a37(a:Int)(b:Int)(c:Int)(d:Int)(o:Int):Pt (Int×Int):=(.ok true (.ok true (.br (eqI o 0) (.ok true (.ok ((yG (aK1 a c) 1)&&true) (.ok ((aWJ b d)&&true) (.ok true (.ok true (.leaf (d,(eW (eW (bH c 16) (yF (aK1 a c) 1)) (aWI b d))))))))) (.ok true (.ok true (.ok true (.ok (aK0 (V268_0.mk a b c d o 0)) (.ok true (.ok true (.ok true (.leaf ((aBR a b c d o).s3,(eW (aBR a b c d o).s2 (aBR a b c d o).s14)))))))))))))
def bMS(a:Int)(b:Int)(c:Int)(d:Int)(o:Int):Int×Int:=hid (a37 a b c d o).val
def bMT(a:Int)(b:Int)(c:Int)(d:Int)(o:Int):Bool:=hid (a37 a b c d o).okv
def bEC(a:Int)(b:Int)(c:Int)(d:Int)(o:Int)(r:Int×Int):SV×List Blk:=((.tup [(.one (li r.1)),(.one (li r.2))]),[])
def q268:=a34 (fun a b c d o=>bEC a b c d o (bMS a b c d o)) bMT
theorem b3Z:fM (fun live x=>dB (oV bEB (m6 x)) (fY R 0 2097152 (.loop live x))) F268.body:=(cQ (l:=[([0,1,2,3,4,14],aH1)]) (by kernel_rfl) ⟨fN (n:=34) (by kernel_rfl) fun σ σr t h ho hl=>bEA σ σr t h ho hl,trivial⟩)
theorem cFD:cK 100268 q268:=aKY fun a b c d o hk=>tzl b03 aBO b3Z [] [] true (a37 a b c d o) (bEC a b c d o) hk
def Q268:=aZ 100268 q268 Q290
theorem aQY:QO Q268:=aF cFD aBO
def cFE(a:Int)(b:Int):List SV:=[(.one (li a)),(.one (.ptr 0 0 0))]
def cFF(a:Int)(b:Int):List Blk:=[.box [li b]]
def bMU(N:Int→Int→SV×List Blk)(K:Int→Int→Bool):List SV→List Blk→Option ((SV×List Blk)×Bool)
 |[(.one (li c0)),(.one (.ptr 0 0 0))],[.box [li c1]]=>some (N c0 c1,K c0 c1)
 |_,_=>none
theorem bMV{N:Int→Int→SV×List Blk}{K:Int→Int→Bool}{f:Nat}(h: ∀(a:Int)(b:Int),K a b=true→dJ R f (cFE a b) (cFF a b)=some (N a b)):cK f (bMU N K):=fun _ _ _ e=>by
 unfold bMU at e;split at e
 ·exact vH e (h _ _)
 ·cases e
def a38(a:Int)(b:Int):Pt (Bool):=(.ok true (.ok true (.ok true (.leaf (dC (bH b a) 0)))))
def ML(a:Int)(b:Int):Bool:=hid (a38 a b).val
def OT(a:Int)(b:Int):Bool:=hid (a38 a b).okv
def b30(a:Int)(b:Int)(r:Bool):SV×List Blk:=((.one (.lit (.bool r))),[.box [li b]])
def q291:=bMU (fun a b=>b30 a b (ML a b)) OT
theorem cFG:cK 291 q291:=bMV fun a b hk=>tc b1Q aQY [(4,K0)] [] true (a38 a b) (b30 a b) hk
def Q291:=aZ 291 q291 Q268
theorem aQZ:QO Q291:=aF cFG aQY
def a39(a:Int)(b:Int):Pt (Bool):=(.ok true (.ok true (.ok true (.ok true (.ok true (.br (eqI (gB a 1) 2) (.ok ((OT 5 b)&&true) (.ok true (.ok true (.ok true (.leaf (vG (!(ML 5 b)) (eqI (nM a 2) 0))))))) (.ok true (.br (eqI (gB a 1) 4) (.ok ((OT 1 b)&&true) (.ok true (.ok true (.ok true (.leaf (vG (!(ML 1 b)) (eqI (nM a 2) 0))))))) (.ok true (.br (eqI (gB a 1) 6) (.ok ((OT 4 b)&&true) (.ok true (.ok true (.ok true (.leaf (vG (!(ML 4 b)) (eqI (nM a 2) 0))))))) (.ok true (.br (eqI (gB a 1) 8) (.ok ((OT 2 b)&&true) (.ok true (.ok true (.ok true (.leaf (vG (!(ML 2 b)) (eqI (nM a 2) 0))))))) (.ok true (.br (eqI (gB a 1) 10) (.ok ((OT 8 b)&&true) (.ok true (.ok true (.ok true (.leaf (vG (!(ML 8 b)) (eqI (nM a 2) 0))))))) (.ok true (.br (eqI (gB a 1) 12) (.ok ((OT 8 b)&&((OT 2 b)&&true)) (.ok true (.ok true (.ok true (.leaf (vG (vG (ML 8 b) (ML 2 b)) (eqI (nM a 2) 0))))))) (.ok true (.br (eqI (gB a 1) 14) (.ok ((OT 4 b)&&((((OT 8 b)&&((OT 2 b)&&true))||(!(!(ML 4 b))))&&true)) (.ok true (.ok true (.ok true (.leaf (vG (bif (!(ML 4 b))then(vG (ML 8 b) (ML 2 b))else false) (eqI (nM a 2) 0))))))) (.ok true (.ok true (.ok true (.leaf (vG true (eqI (nM a 2) 0))))))))))))))))))))))))
def bMW(a:Int)(b:Int):Bool:=hid (a39 a b).val
def bMX(a:Int)(b:Int):Bool:=hid (a39 a b).okv
def q271:=JP (fun a b=>VT a b (bMW a b)) bMX
theorem cFH:cK 100271 q271:=tM fun a b hk=>tz b06 aQZ [] [] true (a39 a b) (VT a b) hk
def Q271:=aZ 100271 q271 Q291
theorem aQ0:QO Q271:=aF cFH aQZ
def a4A(b:Int)(a:bK)(x0_fc:aI):Pt (bK×aI):=(.ok ((cH x0_fc (k75 b x0_fc))&&true) (.ok ((cH (g75 b x0_fc).1 (aWG (g75 b x0_fc).2.2 (g75 b x0_fc).2.1 true a (g75 b x0_fc).1))&&true) (.ok (((aO (g75 b x0_fc).1 true)&&(aO (g75 b x0_fc).1 true))&&true) (.leaf ((aWF (g75 b x0_fc).2.2 (g75 b x0_fc).2.1 true a (g75 b x0_fc).1),(g75 b x0_fc).1)))))
def bMY(b:Int)(a:bK)(x0_fc:aI):bK×aI:=hid (a4A b a x0_fc).val
def bMZ(b:Int)(a:bK)(x0_fc:aI):Bool:=hid (a4A b a x0_fc).okv
def b31(b:Int)(a:bK)(x0_fc:aI)(r:bK×aI):SV×List Blk:=((.tup []),[.box [.ptr 1 0 0,li r.1.fx.Op,li r.1.fx.Size,li r.1.fx.Reg,li r.1.fx.Ea.Mode,li r.1.fx.Ea.Reg,li r.1.fx.Ea.Ext,li r.1.fx.Sub,li r.1.fpc,li r.1.fword,li r.1.ffault.Vector,li r.1.ffault.PC,li r.1.ffault.Addr,li r.1.ffault.Word, .lit (.bool r.1.ffault.Write)], .box [.sl 2 0 (ln r.2.R.D), .sl 3 0 (ln r.2.R.A),li r.2.R.Other,li r.2.R.PC,li r.2.R.Flags,li r.2.R.Mask, .lit (.bool r.2.R.Super), .lit (.bool r.2.R.Trace), .sl 4 0 (ln r.2.Bus.Bytes), .sl 5 0 (ln r.2.Bus.Log), .lit (.bool r.2.Stop), .lit (.bool r.2.Halt)], .lst 1 r.2.R.D, .lst 1 r.2.R.A, .lst 1 r.2.Bus.Bytes, .lst 5 r.2.Bus.Log])
def q292:=aKF (fun b a x0_fc=>b31 b a x0_fc (bMY b a x0_fc)) bMZ
theorem cFI:cK 292 q292:=SQ fun b a x0_fc hk=>tc b1R aQ0 [] [] true (a4A b a x0_fc) (b31 b a x0_fc) hk
def Q292:=aZ 292 q292 Q271
theorem aQ1:QO Q292:=aF cFI aQ0
section
variable(a:bK)(x0_fc:aI)
def wG:aH×Int:=(aKL a.fx.Size a.fx.Ea x0_fc.R)
def SZ:Bool:=(aP (wG a x0_fc).1 (bS x0_fc.Bus true))
def aK2:Int:=(aFJ a {x0_fc with R:=(wG a x0_fc).1})
def MN:bK×aI:=(bMY (aK2 a x0_fc) a {x0_fc with R:=(wG a x0_fc).1})
end
def a4B(a:bK)(x0_fc:aI):Pt (bK×aI):=(.ok (((iA x0_fc.R (aKM a.fx.Size a.fx.Ea x0_fc.R))&&true)&&true) (.ok true (.br (eqI a.fx.Sub 1) (.ok ((dd (SZ a x0_fc) (aP (wG a x0_fc).1 (bS x0_fc.Bus (aWE a {x0_fc with R:=(wG a x0_fc).1}))))&&((dd (SZ a x0_fc) (aP (wG a x0_fc).1 (bS x0_fc.Bus (bMZ (aK2 a x0_fc) a {x0_fc with R:=(wG a x0_fc).1}))))&&true)) (.ok true (.ok (((aO (MN a x0_fc).2 true)&&(aO (MN a x0_fc).2 true))&&true) (.leaf ((MN a x0_fc).1,{(MN a x0_fc).2 with R:={(MN a x0_fc).2.R with PC:=(wG a x0_fc).2}}))))) (.ok true (.ok (((SZ a x0_fc)&&(SZ a x0_fc))&&true) (.leaf (a,{x0_fc with R:={(wG a x0_fc).1 with PC:=(wG a x0_fc).2}})))))))
def aWQ(a:bK)(x0_fc:aI):bK×aI:=hid (a4B a x0_fc).val
def bM0(a:bK)(x0_fc:aI):Bool:=hid (a4B a x0_fc).okv
def q272:=MF (fun a x0_fc=>EU a x0_fc (aWQ a x0_fc)) bM0
theorem cFJ:cK 272 q272:=v8 fun a x0_fc hk=>tc b07 aQ1 [(13,K0),(18,K4),(24,K0)] [] true (a4B a x0_fc) (EU a x0_fc) hk
def Q272:=aZ 272 q272 Q292
theorem aQ2:QO Q272:=aF cFJ aQ1
section
variable(a:aI)
def FO:bM×Int×Int:=(JU 1 2 (bQ a.R.A 3 0) 0 a.Bus)
def aQ3:Bool:=(aP a.R (bS (FO a).1 true))
def a4C:List Row:=(List.set a.R.A 3 (bB (bH (bE (bQ a.R.A 3 0) 2) 65535)))
def a4D:Bool:=((e1 (ln a.R.D))&&((eC (ln a.R.A) (ln (a4C a)))&&(bS (FO a).1 true)))
end
def T83(a:aI):Pt (aI×Int×Int×Int):=(.ok true (.ok ((ltI 3 (cA a.R.A))&&((dU [.int .i64] a.R.A 3 0)&&true)) (.ok ((rS a.Bus (HI 1 2 (bQ a.R.A 3 0) 0 a.Bus))&&true) (.ok true (.br (eqI (FO a).2.2 0) (.ok ((ltI 3 (cA a.R.A))&&(((blt 3 (ln a.R.A))&&(jW (jX a.R.A 3) 1))&&true)) (.ok true (.ok ((((aQ3 a)&&(a4D a))&&true)&&((a4D a)&&true)) (.leaf ({a with R:={a.R with A:=(a4C a)},Bus:=(FO a).1},(FO a).2.1,(bQ a.R.A 3 0),(FO a).2.2))))) (.ok true (.ok (dd (aQ3 a) ((aQ3 a)&&true)) (.leaf ({a with Bus:=(FO a).1},(FO a).2.1,(bQ a.R.A 3 0),(FO a).2.2)))))))))
def g83(a:aI):aI×Int×Int×Int:=hid (T83 a).val
def k83(a:aI):Bool:=hid (T83 a).okv
def n83(a:aI)(r:aI×Int×Int×Int):SV×List Blk:=((.tup [(.one (li r.2.1)),(.one (li r.2.2.1)),(.one (li r.2.2.2))]),[.box [.sl 1 0 (ln r.1.R.D), .sl 2 0 (ln r.1.R.A),li r.1.R.Other,li r.1.R.PC,li r.1.R.Flags,li r.1.R.Mask, .lit (.bool r.1.R.Super), .lit (.bool r.1.R.Trace), .sl 3 0 (ln r.1.Bus.Bytes), .sl 4 0 (ln r.1.Bus.Log), .lit (.bool r.1.Stop), .lit (.bool r.1.Halt)], .lst 1 r.1.R.D, .lst 1 r.1.R.A, .lst 1 r.1.Bus.Bytes, .lst 5 r.1.Bus.Log])
def q83:=aWD (fun a=>n83 a (g83 a)) k83
theorem t83:cK 83 q83:=aBB fun a hk=>tc b92 aQ2 [(12,K1),(13,K0),(14,K0),(29,K1),(33,K0),(1000001,[])] [] true (T83 a) (n83 a) hk
def Q83:=aZ 83 q83 Q272
theorem a4E:QO Q83:=aF t83 aQ2
def aK3(a:bK)(x0_fc:aI):Pt (bK×aI×Int):=(.ok true (.ok true (.br (dC a.ffault.Vector 0) (.ok true (.ok (((aO x0_fc true)&&(aO x0_fc true))&&true) (.leaf (a,x0_fc,0)))) (.ok ((cH x0_fc (k83 x0_fc))&&true) (.ok ((cH (g83 x0_fc).1 (aWG (g83 x0_fc).2.2.2 (g83 x0_fc).2.2.1 false a (g83 x0_fc).1))&&true) (.ok true (.ok (((aO (g83 x0_fc).1 true)&&(aO (g83 x0_fc).1 true))&&true) (.leaf ((aWF (g83 x0_fc).2.2.2 (g83 x0_fc).2.2.1 false a (g83 x0_fc).1),(g83 x0_fc).1,(g83 x0_fc).2.1)))))))))
def DA(a:bK)(x0_fc:aI):bK×aI×Int:=hid (aK3 a x0_fc).val
def aWS(a:bK)(x0_fc:aI):Bool:=hid (aK3 a x0_fc).okv
def q293:=MF (fun a x0_fc=>bD1 a x0_fc (DA a x0_fc)) aWS
theorem cFL:cK 293 q293:=v8 fun a x0_fc hk=>tc b1S a4E [(10,K0)] [] true (aK3 a x0_fc) (bD1 a x0_fc) hk
def Q293:=aZ 293 q293 Q83
theorem aQ4:QO Q293:=aF cFL a4E
section
variable(a:bK)(x0_fc:aI)
def jF:bK×aI×Int:=(DA (DA a x0_fc).1 (DA a x0_fc).2.1)
def tQ:aH:=(aV8 (bH (DA a x0_fc).2.2 1023) (jF a x0_fc).2.1.R)
def tR:Bool:=(aP (tQ a x0_fc) (bS (jF a x0_fc).2.1.Bus true))
def tS:aH:=(aV8 a.fx.Ea.Ext x0_fc.R)
def tT:Bool:=(aP (tS a x0_fc) (bS x0_fc.Bus true))
def tU:Bool:=(((cH x0_fc (aWE a x0_fc))&&((cH x0_fc (aKC (bE 18 a.fx.Reg) (aFJ a x0_fc) a x0_fc))&&true))&&true)
def tW:bK:=(aKB (bE 18 a.fx.Reg) (aFJ a x0_fc) a x0_fc)
def tX:Bool:=(((aO x0_fc true)&&(aO x0_fc true))&&true)
def tY:Bool:=((leI 0 a.fx.Reg)&&(ltI a.fx.Reg (cA x0_fc.R.D)))
def tZ:Bool:=(dU [.int .i64] x0_fc.R.D (0+(iN a.fx.Reg)) 0)
def mX:Int:=(bH (bQ x0_fc.R.D (0+(iN a.fx.Reg)) 0) 255)
def pG:Int:=(eW (eZ (bQ x0_fc.R.D (0+(iN a.fx.Reg)) 0) 8) (m7 (mX a x0_fc) 8))
def oH:aI:=(OQ (pG a x0_fc) a x0_fc)
def oI:aI:=(OQ (bH (aBK 1 (mX a x0_fc)) 65535) a x0_fc)
end
def a4F(a:bK)(x0_fc:aI):Pt (bK×aI):=(.ok true (.ok true (.ok true (.br (eqI a.fx.Sub 0) (.ok ((cH x0_fc (aWS a x0_fc))&&true) (.ok (((aO (DA a x0_fc).2.1 true)&&(aO (DA a x0_fc).2.1 true))&&true) (.leaf ((DA a x0_fc).1,{(DA a x0_fc).2.1 with R:={(DA a x0_fc).2.1.R with PC:=(DA a x0_fc).2.2}})))) (.ok true (.br (eqI a.fx.Sub 1) (.ok ((cH x0_fc (aWS a x0_fc))&&true) (.ok ((cH (DA a x0_fc).2.1 (aWS (DA a x0_fc).1 (DA a x0_fc).2.1))&&true) (.ok true (.br (eqI (jF a x0_fc).1.ffault.Vector 0) (.ok ((iA (jF a x0_fc).2.1.R (aV9 (bH (DA a x0_fc).2.2 1023) (jF a x0_fc).2.1.R))&&true) (.ok true (.ok (((tR a x0_fc)&&(tR a x0_fc))&&true) (.leaf ((jF a x0_fc).1,{(jF a x0_fc).2.1 with R:={(tQ a x0_fc)with PC:=(jF a x0_fc).2.2}}))))) (.ok (((aO (jF a x0_fc).2.1 true)&&(aO (jF a x0_fc).2.1 true))&&true) (.leaf ((jF a x0_fc).1,(jF a x0_fc).2.1))))))) (.ok true (.br (eqI a.fx.Sub 3) (.ok ((iA x0_fc.R (aV9 a.fx.Ea.Ext x0_fc.R))&&true) (.ok true (.ok (((tT a x0_fc)&&(tT a x0_fc))&&true) (.leaf (a,{x0_fc with R:=(tS a x0_fc),Stop:=true}))))) (.ok true (.br (eqI a.fx.Sub 4) (.ok ((tU a x0_fc)&&((tU a x0_fc)&&((uZ (tW a x0_fc) true)&&((jC x0_fc true)&&(lG x0_fc true))))) (.ok (tX x0_fc) (.leaf ((tW a x0_fc),x0_fc)))) (.ok true (.br (eqI a.fx.Sub 5) (.ok ((tY a x0_fc)&&((tZ a x0_fc)&&true)) (.ok ((cH x0_fc (OR (pG a x0_fc) a x0_fc))&&true) (.ok (((aO (oH a x0_fc) true)&&(aO (oH a x0_fc) true))&&true) (.leaf (a,(oH a x0_fc)))))) (.ok true (.br (eqI a.fx.Sub 6) (.ok (((tY a x0_fc)&&((tZ a x0_fc)&&((aFM 1 (mX a x0_fc))&&((cH x0_fc (OR (bH (aBK 1 (mX a x0_fc)) 65535) a x0_fc))&&true))))&&true) (.ok (((aO (oI a x0_fc) true)&&(aO (oI a x0_fc) true))&&true) (.leaf (a,(oI a x0_fc))))) (.ok (tX x0_fc) (.leaf (a,x0_fc)))))))))))))))))
def aWT(a:bK)(x0_fc:aI):bK×aI:=hid (a4F a x0_fc).val
def bM1(a:bK)(x0_fc:aI):Bool:=hid (a4F a x0_fc).okv
def q273:=MF (fun a x0_fc=>EU a x0_fc (aWT a x0_fc)) bM1
theorem cFM:cK 273 q273:=v8 fun a x0_fc hk=>tc b08 aQ4 [(16,K0),(35,K0),(52,K0),(67,K0),(77,K1),(82,K0),(83,K0),(84,K0),(99,K1),(104,K0),(105,K0),(106,K0)] [] true (a4F a x0_fc) (EU a x0_fc) hk
def Q273:=aZ 273 q273 Q293
theorem aQ5:QO Q273:=aF cFM aQ4
section
variable(a:bK)(x0_fc:aI)
def MO:Bool:=(((aO (cT a x0_fc).2.1 true)&&(aO (cT a x0_fc).2.1 true))&&true)
def HO:Nat:=(0+(iN (cT a x0_fc).1.fx.Reg))
def DB:Int:=(dH (bQ (cT a x0_fc).2.1.R.D (HO a x0_fc) 0) (cT a x0_fc).2.2)
def A5:aI:=(OQ (bH (DB a x0_fc) 65535) (cT a x0_fc).1 (cT a x0_fc).2.1)
def MP:Int:=(aFJ (cT a x0_fc).1 (cT a x0_fc).2.1)
def MQ:Int:=(lQ (bQ (cT a x0_fc).2.1.R.D (HO a x0_fc) 0) (cT a x0_fc).2.2)
def HP:aI:=(OQ (MQ a x0_fc) (cT a x0_fc).1 (cT a x0_fc).2.1)
end
def a4G(a:bK)(x0_fc:aI):Pt (bK×aI):=(.ok ((cH x0_fc (aWH a x0_fc))&&true) (.ok true (.br (dC (cT a x0_fc).1.ffault.Vector 0) (.ok (MO a x0_fc) (.leaf ((cT a x0_fc).1,(cT a x0_fc).2.1))) (.ok (((leI 0 (cT a x0_fc).1.fx.Reg)&&(ltI (cT a x0_fc).1.fx.Reg (cA (cT a x0_fc).2.1.R.D)))&&((dU [.int .i64] (cT a x0_fc).2.1.R.D (HO a x0_fc) 0)&&true)) (.ok true (.br (eqI (cT a x0_fc).1.fx.Op 16) (.ok ((cH (cT a x0_fc).2.1 (OR (bH (DB a x0_fc) 65535) (cT a x0_fc).1 (cT a x0_fc).2.1))&&true) (.ok (((yG (kU (DB a x0_fc) 65535) 2)&&true)&&true) (.ok (((aO (A5 a x0_fc) true)&&(aO (A5 a x0_fc) true))&&true) (.leaf ((cT a x0_fc).1,{(A5 a x0_fc)with R:={(A5 a x0_fc).R with Flags:=(eW (A5 a x0_fc).R.Flags (yF (kU (DB a x0_fc) 65535) 2))}}))))) (.ok true (.br (eqI (cT a x0_fc).2.2 0) (.ok ((cH (cT a x0_fc).2.1 (aWE (cT a x0_fc).1 (cT a x0_fc).2.1))&&((cH (cT a x0_fc).2.1 (aKC 5 (MP a x0_fc) (cT a x0_fc).1 (cT a x0_fc).2.1))&&true)) (.ok (MO a x0_fc) (.leaf ((aKB 5 (MP a x0_fc) (cT a x0_fc).1 (cT a x0_fc).2.1),(cT a x0_fc).2.1)))) (.ok ((dC (cT a x0_fc).2.2 0)&&((cH (cT a x0_fc).2.1 (OR (MQ a x0_fc) (cT a x0_fc).1 (cT a x0_fc).2.1))&&true)) (.ok (((aO (HP a x0_fc) true)&&(aO (HP a x0_fc) true))&&true) (.leaf ((cT a x0_fc).1,(HP a x0_fc)))))))))))))
def aWU(a:bK)(x0_fc:aI):bK×aI:=hid (a4G a x0_fc).val
def bM2(a:bK)(x0_fc:aI):Bool:=hid (a4G a x0_fc).okv
def q274:=MF (fun a x0_fc=>EU a x0_fc (aWU a x0_fc)) bM2
theorem cFN:cK 274 q274:=v8 fun a x0_fc hk=>tc b09 aQ5 [(10,K0),(19,K1),(24,K0),(25,K0),(26,K0),(31,K0),(46,K0)] [] true (a4G a x0_fc) (EU a x0_fc) hk
def Q274:=aZ 274 q274 Q273
theorem aQ6:QO Q274:=aF cFN aQ5
def a4H(a:Int):Pt (Bool):=(.ok true (.ok ((xA a 0 153)&&true) (.ok true (.ok true (.leaf (bif (vB a 0 153)then(leI (bH a 15) 9)else false))))))
def bM3(a:Int):Bool:=hid (a4H a).val
def a4I(a:Int):Bool:=hid (a4H a).okv
def q306:=BP (fun a=>jZ a (bM3 a)) a4I
theorem cFO:cK 100306 q306:=gS fun a hk=>tz b15 aQ6 [] [] true (a4H a) (jZ a) hk
def Q306:=aZ 100306 q306 Q274
theorem aBS:QO Q306:=aF cFO aQ6
def a4J(a:Int):Pt (Bool):=(.ok true (.ok ((xA a 0 1)&&true) (.ok true (.ok true (.leaf (vB a 0 1))))))
def bM4(a:Int):Bool:=hid (a4J a).val
def bM5(a:Int):Bool:=hid (a4J a).okv
def q307:=BP (fun a=>jZ a (bM4 a)) bM5
theorem cFP:cK 100307 q307:=gS fun a hk=>tz b16 aBS [] [] true (a4J a) (jZ a) hk
def Q307:=aZ 100307 q307 Q306
theorem aQ7:QO Q307:=aF cFP aBS
def cFQ(a:Int)(b:List Row):List SV:=[(.one (li a)),(.one (.imm false 1 b))]
def cFR(a:Int)(b:List Row):List Blk:=[]
def bM6(N:Int→List Row→SV×List Blk)(K:Int→List Row→Bool):List SV→List Blk→Option ((SV×List Blk)×Bool)
 |[(.one (li c0)),(.one (.imm false 1 c1))],[]=>some (N c0 c1,K c0 c1)
 |_,_=>none
theorem bM7{N:Int→List Row→SV×List Blk}{K:Int→List Row→Bool}{f:Nat}(h: ∀(a:Int)(b:List Row),K a b=true→dJ R f (cFQ a b) (cFR a b)=some (N a b)):cK f (bM6 N K):=fun _ _ _ e=>by
 unfold bM6 at e;split at e
 ·exact vH e (h _ _)
 ·cases e
structure V303_0 where
 mk::
 (s0:Int)
 (s7:List Row)
 (s8:Int)
 (s9:Int)
def MR(v:V303_0):Pt (Option V303_0):=(.ok true (.br (ltI v.s9 v.s8) (.ok ((hZ [.int .i64] v.s7 v.s9)&&true) (.ok ((a4I (bQ v.s7 (iN v.s9) 0))&&true) (.br (!(bM3 (bQ v.s7 (iN v.s9) 0))) (.ok true (.leaf none)) (.ok true (.ok true (.leaf (some {v with s9:=(bE v.s9 1)}))))))) (.leaf none)))
def S5(v:V303_0):St:=⟨[(0,(.one (li v.s0))),(7,(.one (.imm false 1 v.s7))),(8,(.one (li v.s8))),(9,(.one (li v.s9)))],[]⟩
def aBT:St→Option (V303_0×Bool)
 |⟨[(0,(.one (li c0))),(7,(.one (.imm false 1 c1))),(8,(.one (li c2))),(9,(.one (li c3)))],[]⟩=>some ((V303_0.mk c0 c1 c2 c3),true)
 |_=>none
def aBU:St→Option (Pt Out):=x9 Q306 [(11,K0),(12,K0)] [] true [] 0 2097152 aH2
theorem bED(v:V303_0):((aBU (S5 v)).bind (sY true false 0 [0,7,8,9]))=some ((MR v).map (Option.map S5)):=by kernel_rfl
theorem bEE(σ:St)(v:V303_0)(h:aBT σ=some (v,true)):σ=S5 v:=by
 unfold aBT at h;split at h
 ·obtain⟨hr,hk⟩:=qp (qi h);rw[←hr];rfl
 ·simp at h
theorem bEF:dB (vF true false 0 [0,7,8,9] aBU aBT S5 MR 2097152) (fY R 0 2097152 (.loop [0,7,8,9] aH2)):=eM (dD aBS (cQ (l:=[]) (by kernel_rfl) trivial)) bEE bED
def bEG:Lp:=(10,vF true false 0 [0,7,8,9] aBU aBT S5 MR 2097152)::[]
def S6(v:V303_0):V303_0:=(hid (eG MR 2097152 v)).getD v
def aK4(v:V303_0):Bool:=(hid (eG MR 2097152 v)).isSome
section
variable(a:Int)(b:List Row)
def S7:V303_0:=(S6 (V303_0.mk a b (cA b) 0))
end
def a4K(a:Int)(b:List Row):Pt (Bool):=(.ok true (.ok true (.ok true (.ok true (.ok (aK4 (V303_0.mk a b (cA b) 0)) (.br (ltI (S7 a b).s9 (S7 a b).s8) (.ok true (.ok true (.leaf false))) (.ok ((bM5 (S7 a b).s0)&&true) (.ok true (.ok true (.leaf (bM4 (S7 a b).s0)))))))))))
def bEH(a:Int)(b:List Row):Bool:=hid (a4K a b).val
def bEI(a:Int)(b:List Row):Bool:=hid (a4K a b).okv
def b33(a:Int)(b:List Row)(r:Bool):SV×List Blk:=((.one (.lit (.bool r))),[])
def q303:=bM6 (fun a b=>b33 a b (bEH a b)) bEI
theorem b34:fM (fun live x=>dB (oV bEG (m6 x)) (fY R 0 2097152 (.loop live x))) F303.body:=(cQ (l:=[([0,7,8,9],aH2)]) (by kernel_rfl) ⟨fN (n:=10) (by kernel_rfl) fun σ σr t h ho hl=>bEF σ σr t h ho hl,trivial⟩)
theorem cFS:cK 100303 q303:=bM7 fun a b hk=>tzl b12 aQ7 b34 [(11,K0),(12,K0)] [] true (a4K a b) (b33 a b) hk
def Q303:=aZ 100303 q303 Q307
theorem aQ8:QO Q303:=aF cFS aQ7
def a4L(a:Int):Pt (Int):=(.ok true (.ok true (.ok true (.ok true (.leaf (bE (dH (eZ a 4) 10) (bH a 15)))))))
def VZ(a:Int):Int:=hid (a4L a).val
def aWV(a:Int):Bool:=hid (a4L a).okv
def q305:=BP (fun a=>xB a (VZ a)) aWV
theorem cFT:cK 100305 q305:=gS fun a hk=>tz b14 aQ8 [] [] true (a4L a) (xB a) hk
def Q305:=aZ 100305 q305 Q303
theorem aQ9:QO Q305:=aF cFT aQ8
def a4M(a:Int):Pt (Int):=(.ok true (.ok true (.ok true (.ok true (.leaf (eW (m7 (lQ a 10) 4) (nM a 10)))))))
def bEJ(a:Int):Int:=hid (a4M a).val
def bEK(a:Int):Bool:=hid (a4M a).okv
def q308:=BP (fun a=>xB a (bEJ a)) bEK
theorem cFU:cK 100308 q308:=gS fun a hk=>tz b17 aQ9 [] [] true (a4M a) (xB a) hk
def Q308:=aZ 100308 q308 Q305
theorem aRA:QO Q308:=aF cFU aQ9
def a4N(a:Int):Pt (Int×Int):=(.ok true (.ok ((xA a 0 99)&&true) (.br (vB a 0 99) (.ok ((bEK a)&&true) (.ok true (.ok true (.leaf ((bEJ a),0))))) (.ok ((bEK (nM (bE a 100) 100))&&true) (.ok true (.ok true (.leaf ((bEJ (nM (bE a 100) 100)),1))))))))
def bEL(a:Int):Int×Int:=hid (a4N a).val
def bEM(a:Int):Bool:=hid (a4N a).okv
def b35(a:Int)(r:Int×Int):SV×List Blk:=((.tup [(.one (li r.1)),(.one (li r.2))]),[])
def q304:=BP (fun a=>b35 a (bEL a)) bEM
theorem cFV:cK 100304 q304:=gS fun a hk=>tz b13 aRA [] [] true (a4N a) (b35 a) hk
def Q304:=aZ 100304 q304 Q308
theorem aRB:QO Q304:=aF cFV aRA
section
variable(a:Int)(b:Int)(c:Int)
def aK5:Int×Int:=(bEL (bE (bE (VZ b) (VZ c)) a))
end
def a4O(a:Int)(b:Int)(c:Int):Pt (Int×Int×Bool):=(.ok true (.ok ((bEI a [(bB b),(bB c)])&&true) (.br (!(bEH a [(bB b),(bB c)])) (.ok true (.ok true (.ok true (.leaf (0,0,false))))) (.ok ((aWV b)&&((aWV c)&&((bEM (bE (bE (VZ b) (VZ c)) a))&&true))) (.ok true (.ok true (.ok true (.leaf ((aK5 a b c).1,(aK5 a b c).2,true)))))))))
def bM8(a:Int)(b:Int)(c:Int):Int×Int×Bool:=hid (a4O a b c).val
def bM9(a:Int)(b:Int)(c:Int):Bool:=hid (a4O a b c).okv
def bEN(a:Int)(b:Int)(c:Int)(r:Int×Int×Bool):SV×List Blk:=((.tup [(.one (li r.1)),(.one (li r.2.1)),(.one (.lit (.bool r.2.2)))]),[])
def q295:=DS5 (fun a b c=>bEN a b c (bM8 a b c)) bM9
theorem cFW:cK 100295 q295:=CN fun a b c hk=>tz b1U aRB [] [] true (a4O a b c) (bEN a b c) hk
def Q295:=aZ 100295 q295 Q304
theorem aRC:QO Q295:=aF cFW aRB
section
variable(a:Int)(b:Int)(c:Int)
def aK6:Int×Int:=(bEL (cN (cN (VZ b) (VZ c)) a))
end
def a4P(a:Int)(b:Int)(c:Int):Pt (Int×Int×Bool):=(.ok true (.ok ((bEI a [(bB b),(bB c)])&&true) (.br (!(bEH a [(bB b),(bB c)])) (.ok true (.ok true (.ok true (.leaf (0,0,false))))) (.ok ((aWV b)&&((aWV c)&&((bEM (cN (cN (VZ b) (VZ c)) a))&&true))) (.ok true (.ok true (.ok true (.leaf ((aK6 a b c).1,(aK6 a b c).2,true)))))))))
def bNA(a:Int)(b:Int)(c:Int):Int×Int×Bool:=hid (a4P a b c).val
def bNB(a:Int)(b:Int)(c:Int):Bool:=hid (a4P a b c).okv
def q296:=DS5 (fun a b c=>bEN a b c (bNA a b c)) bNB
theorem cFX:cK 100296 q296:=CN fun a b c hk=>tz b1V aRC [] [] true (a4P a b c) (bEN a b c) hk
def Q296:=aZ 100296 q296 Q295
theorem aRD:QO Q296:=aF cFX aRC
section
variable(a:bK)(x0_fc:aI)
def MS:Int:=(bH (bQ x0_fc.R.D (0+(iN a.fx.Reg)) 0) 255)
def MT:Int:=(bH (bQ x0_fc.R.D (0+(iN a.fx.Ea.Reg)) 0) 255)
def S8:Int×Int×Bool:=(bNA (lQ x0_fc.R.Flags 16) (MS a x0_fc) (MT a x0_fc))
def S9:Int×Int×Bool:=(bM8 (lQ x0_fc.R.Flags 16) (MS a x0_fc) (MT a x0_fc))
def TA:Int:=(bif (eqI a.fx.Sub 1)then(S8 a x0_fc).1 else(S9 a x0_fc).1)
def aBV:Bool:=(eqI (bif (eqI a.fx.Sub 1)then(S8 a x0_fc).2.1 else(S9 a x0_fc).2.1) 1)
def TB:aH:=(aBH 1 a.fx.Reg (TA a x0_fc) x0_fc.R)
def aBW:Bool:=(aP (TB a x0_fc) (bS x0_fc.Bus true))
end
def a4Q(a:bK)(x0_fc:aI):Pt (bK×aI):=(.ok true (.ok (((leI 0 a.fx.Reg)&&(ltI a.fx.Reg (cA x0_fc.R.D)))&&((dU [.int .i64] x0_fc.R.D (0+(iN a.fx.Reg)) 0)&&(((leI 0 a.fx.Ea.Reg)&&(ltI a.fx.Ea.Reg (cA x0_fc.R.D)))&&((dU [.int .i64] x0_fc.R.D (0+(iN a.fx.Ea.Reg)) 0)&&true)))) (.ok true (.ok ((bM9 (lQ x0_fc.R.Flags 16) (MS a x0_fc) (MT a x0_fc))&&true) (.ok true (.ok ((((bNB (lQ x0_fc.R.Flags 16) (MS a x0_fc) (MT a x0_fc))&&true)||(!(eqI a.fx.Sub 1)))&&true) (.ok true (.br (!(bif (eqI a.fx.Sub 1)then(S8 a x0_fc).2.2 else(S9 a x0_fc).2.2)) (.ok ((cH x0_fc (aKC 4 a.fpc a x0_fc))&&true) (.ok (((aO x0_fc true)&&(aO x0_fc true))&&true) (.leaf ((aKB 4 a.fpc a x0_fc),x0_fc)))) (.ok ((iA x0_fc.R (aBI 1 a.fx.Reg (TA a x0_fc) x0_fc.R))&&true) (.ok true (.ok true (.ok true (.ok ((yG (aBV a x0_fc) 17)&&true) (.ok (((aBW a x0_fc)&&(aBW a x0_fc))&&true) (.leaf (a,{x0_fc with R:={(TB a x0_fc)with Flags:=(eW (bif (eqI (TA a x0_fc) 0)then(bH (TB a x0_fc).Flags 4)else 0) (yF (aBV a x0_fc) 17))}}))))))))))))))))
def aWW(a:bK)(x0_fc:aI):bK×aI:=hid (a4Q a x0_fc).val
def bNC(a:bK)(x0_fc:aI):Bool:=hid (a4Q a x0_fc).okv
def q275:=MF (fun a x0_fc=>EU a x0_fc (aWW a x0_fc)) bNC
theorem cFY:cK 275 q275:=v8 fun a x0_fc hk=>tc b1A aRD [(19,K1),(24,K0),(25,K0),(26,K0),(31,K1),(37,K0),(38,K0),(39,K0),(44,K0),(58,K0),(74,K0),(81,K0),(89,K0)] [] true (a4Q a x0_fc) (EU a x0_fc) hk
def Q275:=aZ 275 q275 Q296
theorem aRE:QO Q275:=aF cFY aRD
def TD(a:aH):Pt (Int):=(.ok true (.ok ((yG a.Super 256)&&((yG a.Trace 512)&&true)) (.ok (((aP a true)&&(aP a true))&&true) (.leaf (bE (bE (bE a.Flags (dH 32 a.Mask)) (yF a.Super 256)) (yF a.Trace 512))))))
def aK7(a:aH):Int:=hid (TD a).val
def aK8(a:aH):Bool:=hid (TD a).okv
def q166v2:=bDK (fun a=>aAU a (aK7 a)) aK8
theorem bND:cK 50166 q166v2:=a2H fun a hk=>tck aZE aRE [(6,K0),(10,K0),(16,sK),(22,sK)] [] true (TD a) (aAU a) hk
def Q166v2:=aZ 50166 q166v2 Q275
theorem XM:QO Q166v2:=aF bND aRE
section
variable(a:bK)(x0_fc:aI)
def jG:Bool:=((leI 0 a.fx.Reg)&&(ltI a.fx.Reg (cA x0_fc.R.A)))
def jH:Bool:=(((blt (0+(iN a.fx.Reg)) (ln (cT a x0_fc).2.1.R.A))&&(jW (jX (cT a x0_fc).2.1.R.A (0+(iN a.fx.Reg))) 1))&&true)
def iO:Bool:=(((cH x0_fc (aWH a x0_fc))&&((jG a x0_fc)&&(jH a x0_fc)))&&true)
def jI:Bool:=(((cH x0_fc (aWH a x0_fc))&&(((leI 0 a.fx.Reg)&&(ltI a.fx.Reg (cA (cT a x0_fc).2.1.R.A)))&&(jH a x0_fc)))&&true)
def iP:List Row:=(List.set (cT a x0_fc).2.1.R.A (0+(iN a.fx.Reg)) (bB (cT a x0_fc).2.2))
def iG:Bool:=((uZ (cT a x0_fc).1 true)&&((jC (cT a x0_fc).2.1 true)&&((r1 (cT a x0_fc).2.1.R.D)&&((r1 (iP a x0_fc))&&((rQ a.fx true)&&(dP (cT a x0_fc).2.1.Bus true))))))
def jJ:Bool:=((e1 (ln (cT a x0_fc).2.1.R.D))&&((eC (ln (cT a x0_fc).2.1.R.A) (ln (iP a x0_fc)))&&(bS (cT a x0_fc).2.1.Bus true)))
def jK:Bool:=(iA x0_fc.R (aKM a.fx.Size a.fx.Ea x0_fc.R))
def fD:aH×Int:=(aKL a.fx.Size a.fx.Ea x0_fc.R)
def jL:Bool:=(((blt (0+(iN a.fx.Reg)) (ln (fD a x0_fc).1.A))&&(jW (jX (fD a x0_fc).1.A (0+(iN a.fx.Reg))) 1))&&true)
def fO:Bool:=(((jK a x0_fc)&&((jG a x0_fc)&&(jL a x0_fc)))&&true)
def gD:Bool:=(((jK a x0_fc)&&(((leI 0 a.fx.Reg)&&(ltI a.fx.Reg (cA (fD a x0_fc).1.A)))&&(jL a x0_fc)))&&true)
def fP:List Row:=(List.set (fD a x0_fc).1.A (0+(iN a.fx.Reg)) (bB (fD a x0_fc).2))
def gE:Bool:=(dP x0_fc.Bus ((rQ a.fx true)&&true))
def fH:Bool:=((uZ a true)&&((iE (fD a x0_fc).1 (dW x0_fc.Bus ((s1 x0_fc.Stop)&&((s1 x0_fc.Halt)&&true))))&&((r1 (fD a x0_fc).1.D)&&((r1 (fP a x0_fc))&&(gE a x0_fc)))))
def gF:Bool:=((e1 (ln (fD a x0_fc).1.D))&&((eC (ln (fD a x0_fc).1.A) (ln (fP a x0_fc)))&&(bS x0_fc.Bus true)))
def gG:Int:=(aFK a.fx.Reg a x0_fc)
def bY:Bool:=(((cH x0_fc (aFL a.fx.Reg a x0_fc))&&((bMT a.fx.Sub a.fx.Size x0_fc.R.Flags (gG a x0_fc) (bE a.fx.Ea.Reg 1))&&true))&&true)
def fB:Int×Int:=(bMS a.fx.Sub a.fx.Size x0_fc.R.Flags (gG a x0_fc) (bE a.fx.Ea.Reg 1))
def bZ:Bool:=(((s1 (fB a x0_fc).1)&&((s1 (fB a x0_fc).2)&&true))&&((uZ a true)&&((jC x0_fc true)&&(iB x0_fc.R ((rQ a.fx true)&&(dP x0_fc.Bus true))))))
def gV:Bool:=((bY a x0_fc)&&(((bY a x0_fc)&&(((bY a x0_fc)&&(((bY a x0_fc)&&(((bY a x0_fc)&&(((bY a x0_fc)&&(((bY a x0_fc)&&(((bY a x0_fc)&&((bY a x0_fc)&&(bZ a x0_fc)))&&(bZ a x0_fc)))&&(bZ a x0_fc)))&&(bZ a x0_fc)))&&(bZ a x0_fc)))&&(bZ a x0_fc)))&&(bZ a x0_fc)))&&(bZ a x0_fc)))
def gW:Bool:=((bY a x0_fc)&&(((bY a x0_fc)&&(((bY a x0_fc)&&(((bY a x0_fc)&&(((bY a x0_fc)&&(((bY a x0_fc)&&(((bY a x0_fc)&&(((bY a x0_fc)&&((gV a x0_fc)&&(bZ a x0_fc)))&&(bZ a x0_fc)))&&(bZ a x0_fc)))&&(bZ a x0_fc)))&&(bZ a x0_fc)))&&(bZ a x0_fc)))&&(bZ a x0_fc)))&&(bZ a x0_fc)))
def gX:Bool:=((bY a x0_fc)&&(((bY a x0_fc)&&(((bY a x0_fc)&&(((bY a x0_fc)&&(((bY a x0_fc)&&(((bY a x0_fc)&&(((bY a x0_fc)&&(((bY a x0_fc)&&((gW a x0_fc)&&(bZ a x0_fc)))&&(bZ a x0_fc)))&&(bZ a x0_fc)))&&(bZ a x0_fc)))&&(bZ a x0_fc)))&&(bZ a x0_fc)))&&(bZ a x0_fc)))&&(bZ a x0_fc)))
def gY:Bool:=((bY a x0_fc)&&(((bY a x0_fc)&&(((bY a x0_fc)&&(((bY a x0_fc)&&(((bY a x0_fc)&&(((bY a x0_fc)&&(((bY a x0_fc)&&(((bY a x0_fc)&&((gX a x0_fc)&&(bZ a x0_fc)))&&(bZ a x0_fc)))&&(bZ a x0_fc)))&&(bZ a x0_fc)))&&(bZ a x0_fc)))&&(bZ a x0_fc)))&&(bZ a x0_fc)))&&(bZ a x0_fc)))
def gZ:Bool:=((bY a x0_fc)&&(((bY a x0_fc)&&(((bY a x0_fc)&&(((bY a x0_fc)&&(((bY a x0_fc)&&(((bY a x0_fc)&&(((bY a x0_fc)&&(((bY a x0_fc)&&((gY a x0_fc)&&(bZ a x0_fc)))&&(bZ a x0_fc)))&&(bZ a x0_fc)))&&(bZ a x0_fc)))&&(bZ a x0_fc)))&&(bZ a x0_fc)))&&(bZ a x0_fc)))&&(bZ a x0_fc)))
def hD:Bool:=((bY a x0_fc)&&(((bY a x0_fc)&&(((bY a x0_fc)&&(((bY a x0_fc)&&(((bY a x0_fc)&&(((bY a x0_fc)&&(((bY a x0_fc)&&(((bY a x0_fc)&&((gZ a x0_fc)&&(bZ a x0_fc)))&&(bZ a x0_fc)))&&(bZ a x0_fc)))&&(bZ a x0_fc)))&&(bZ a x0_fc)))&&(bZ a x0_fc)))&&(bZ a x0_fc)))&&(bZ a x0_fc)))
def hG:Bool:=((bY a x0_fc)&&(((bY a x0_fc)&&(((bY a x0_fc)&&(((bY a x0_fc)&&(((bY a x0_fc)&&(((bY a x0_fc)&&(((bY a x0_fc)&&(((bY a x0_fc)&&((hD a x0_fc)&&(bZ a x0_fc)))&&(bZ a x0_fc)))&&(bZ a x0_fc)))&&(bZ a x0_fc)))&&(bZ a x0_fc)))&&(bZ a x0_fc)))&&(bZ a x0_fc)))&&(bZ a x0_fc)))
def hH:Bool:=((bY a x0_fc)&&(((bY a x0_fc)&&(((bY a x0_fc)&&(((bY a x0_fc)&&(((bY a x0_fc)&&(((bY a x0_fc)&&(((bY a x0_fc)&&(((bY a x0_fc)&&((hG a x0_fc)&&(bZ a x0_fc)))&&(bZ a x0_fc)))&&(bZ a x0_fc)))&&(bZ a x0_fc)))&&(bZ a x0_fc)))&&(bZ a x0_fc)))&&(bZ a x0_fc)))&&(bZ a x0_fc)))
def gH:aH:=(aBH a.fx.Size a.fx.Reg (fB a x0_fc).1 x0_fc.R)
def gI:Bool:=(aP (gH a x0_fc) (bS x0_fc.Bus true))
def fQ:Bool:=(dd (aO x0_fc true) ((aO x0_fc true)&&true))
def gJ:aH:=(aV8 a.fx.Ea.Ext x0_fc.R)
def gK:Bool:=(aP (gJ a x0_fc) (bS x0_fc.Bus true))
def fC:Bool:=(((iA x0_fc.R (aK8 x0_fc.R))&&(((leI 0 a.fx.Reg)&&(ltI a.fx.Reg (cA x0_fc.R.D)))&&(((blt (0+(iN a.fx.Reg)) (ln x0_fc.R.D))&&(jW (jX x0_fc.R.D (0+(iN a.fx.Reg))) 1))&&true)))&&true)
def fR:List Row:=(List.set x0_fc.R.D (0+(iN a.fx.Reg)) (bB (aK7 x0_fc.R)))
def fI:Bool:=((uZ a true)&&((jC x0_fc true)&&((r1 (fR a x0_fc))&&((r1 x0_fc.R.A)&&(gE a x0_fc)))))
def gL:Bool:=((eC (ln x0_fc.R.D) (ln (fR a x0_fc)))&&((e1 (ln x0_fc.R.A))&&(bS x0_fc.Bus true)))
end
def a4R(a:bK)(x0_fc:aI):Pt (bK×aI):=(.ok true (.ok true (.ok true (.ok true (.ok true (.br (bif (eqI a.fx.Op 1)then(eqI a.fx.Op 1)else(bif (eqI a.fx.Op 3)then(eqI a.fx.Op 3)else(bif (eqI a.fx.Op 4)then(eqI a.fx.Op 4)else(bif (eqI a.fx.Op 5)then(eqI a.fx.Op 5)else(bif (eqI a.fx.Op 6)then(eqI a.fx.Op 6)else(bif (eqI a.fx.Op 7)then(eqI a.fx.Op 7)else(eqI a.fx.Op 8))))))) (.ok ((cH x0_fc (bMK a x0_fc))&&true) (.ok (dd (aO (aWL a x0_fc).2 true) ((aO (aWL a x0_fc).2 true)&&true)) (.leaf ((aWL a x0_fc).1,(aWL a x0_fc).2)))) (.ok true (.br (eqI a.fx.Op 2) (.ok ((cH x0_fc (bMM a x0_fc))&&true) (.ok (dd (aO (aWN a x0_fc).2 true) ((aO (aWN a x0_fc).2 true)&&true)) (.leaf ((aWN a x0_fc).1,(aWN a x0_fc).2)))) (.ok true (.br (eqI a.fx.Op 9) (.ok ((iO a x0_fc)&&(((iO a x0_fc)&&(((iO a x0_fc)&&(((jI a x0_fc)&&((jI a x0_fc)&&(iG a x0_fc)))&&(iG a x0_fc)))&&(iG a x0_fc)))&&(iG a x0_fc))) (.ok ((((aO (cT a x0_fc).2.1 true)&&(jJ a x0_fc))&&true)&&((jJ a x0_fc)&&true)) (.leaf ((cT a x0_fc).1,{(cT a x0_fc).2.1 with R:={(cT a x0_fc).2.1.R with A:=(iP a x0_fc)}})))) (.ok true (.br (eqI a.fx.Op 10) (.ok ((fO a x0_fc)&&(((fO a x0_fc)&&(((fO a x0_fc)&&(((gD a x0_fc)&&((gD a x0_fc)&&(fH a x0_fc)))&&(fH a x0_fc)))&&(fH a x0_fc)))&&(fH a x0_fc))) (.ok ((((aP (fD a x0_fc).1 (bS x0_fc.Bus true))&&(gF a x0_fc))&&true)&&((gF a x0_fc)&&true)) (.leaf (a,{x0_fc with R:={(fD a x0_fc).1 with A:=(fP a x0_fc)}})))) (.ok true (.br (eqI a.fx.Op 11) (.ok ((cH x0_fc (bMN a x0_fc))&&true) (.ok (dd (aO (aWO a x0_fc).2 true) ((aO (aWO a x0_fc).2 true)&&true)) (.leaf ((aWO a x0_fc).1,(aWO a x0_fc).2)))) (.ok true (.br (eqI a.fx.Op 12) (.ok (hH a x0_fc) (.ok ((iA x0_fc.R (aBI a.fx.Size a.fx.Reg (fB a x0_fc).1 x0_fc.R))&&true) (.ok true (.ok (dd (gI a x0_fc) ((gI a x0_fc)&&true)) (.leaf (a,{x0_fc with R:={(gH a x0_fc)with Flags:=(fB a x0_fc).2}})))))) (.ok true (.br (eqI a.fx.Op 13) (.ok ((bMX (bE a.fx.Sub (dH 8 a.fx.Reg)) x0_fc.R.Flags)&&true) (.br (bMW (bE a.fx.Sub (dH 8 a.fx.Reg)) x0_fc.R.Flags) (.ok true (.ok (fQ x0_fc) (.leaf (a,{x0_fc with R:={x0_fc.R with PC:=(bH (bE (bE a.fpc 2) a.fx.Ea.Ext) 65535)}})))) (.ok (fQ x0_fc) (.leaf (a,x0_fc))))) (.ok true (.br (eqI a.fx.Op 14) (.ok ((cH x0_fc (bM0 a x0_fc))&&true) (.ok (dd (aO (aWQ a x0_fc).2 true) ((aO (aWQ a x0_fc).2 true)&&true)) (.leaf ((aWQ a x0_fc).1,(aWQ a x0_fc).2)))) (.ok true (.br (eqI a.fx.Op 15) (.ok ((cH x0_fc (bM1 a x0_fc))&&true) (.ok (dd (aO (aWT a x0_fc).2 true) ((aO (aWT a x0_fc).2 true)&&true)) (.leaf ((aWT a x0_fc).1,(aWT a x0_fc).2)))) (.ok true (.ok true (.br (bif (eqI a.fx.Op 16)then(eqI a.fx.Op 16)else(eqI a.fx.Op 17)) (.ok ((cH x0_fc (bM2 a x0_fc))&&true) (.ok (dd (aO (aWU a x0_fc).2 true) ((aO (aWU a x0_fc).2 true)&&true)) (.leaf ((aWU a x0_fc).1,(aWU a x0_fc).2)))) (.ok true (.br (eqI a.fx.Op 18) (.ok ((cH x0_fc (bNC a x0_fc))&&true) (.ok (dd (aO (aWW a x0_fc).2 true) ((aO (aWW a x0_fc).2 true)&&true)) (.leaf ((aWW a x0_fc).1,(aWW a x0_fc).2)))) (.ok true (.br (eqI a.fx.Op 19) (.ok true (.br (eqI a.fx.Sub 0) (.ok ((iA x0_fc.R (aV9 a.fx.Ea.Ext x0_fc.R))&&true) (.ok (dd (gK a x0_fc) ((gK a x0_fc)&&true)) (.leaf (a,{x0_fc with R:=(gJ a x0_fc)})))) (.ok ((fC a x0_fc)&&(((fC a x0_fc)&&(((fC a x0_fc)&&(((fC a x0_fc)&&((fC a x0_fc)&&(fI a x0_fc)))&&(fI a x0_fc)))&&(fI a x0_fc)))&&(fI a x0_fc))) (.ok ((((aO x0_fc true)&&(gL a x0_fc))&&true)&&((gL a x0_fc)&&true)) (.leaf (a,{x0_fc with R:={x0_fc.R with D:=(fR a x0_fc)}})))))) (.ok (fQ x0_fc) (.leaf (a,x0_fc))))))))))))))))))))))))))))))))
def bNE(a:bK)(x0_fc:aI):bK×aI:=hid (a4R a x0_fc).val
def bNF(a:bK)(x0_fc:aI):Bool:=hid (a4R a x0_fc).okv
def q239:=MF (fun a x0_fc=>EU a x0_fc (bNE a x0_fc)) bNF
theorem cFZ:cK 239 q239:=v8 fun a x0_fc hk=>tc b0A XM [(15,K5),(17,K0),(37,K1),(39,K0),(42,K0),(48,K1),(50,K0),(53,K0),(55,K4),(57,K0),(66,K0),(68,K0),(72,K0),(75,K0),(79,K0),(86,K0),(88,K0),(98,K0),(100,K0),(106,K0),(112,K0),(116,K0),(141,K0),(146,K0),(151,K1),(153,K0),(156,K0),(1000001,[])] [] true (a4R a x0_fc) (EU a x0_fc) hk
def Q239:=aZ 239 q239 Q166v2
theorem aRF:QO Q239:=aF cFZ XM
def cF0(b:aQ)(c:Int)(a:aI):List SV:=[(.one (.ptr 0 0 0)),(.agg [li b.Op,li b.Size,li b.Reg,li b.Ea.Mode,li b.Ea.Reg,li b.Ea.Ext,li b.Sub]),(.one (li c))]
def cF1(b:aQ)(c:Int)(a:aI):List Blk:=[.box [.sl 1 0 (ln a.R.D), .sl 2 0 (ln a.R.A),li a.R.Other,li a.R.PC,li a.R.Flags,li a.R.Mask, .lit (.bool a.R.Super), .lit (.bool a.R.Trace), .sl 3 0 (ln a.Bus.Bytes), .sl 4 0 (ln a.Bus.Log), .lit (.bool a.Stop), .lit (.bool a.Halt)], .lst 1 a.R.D, .lst 1 a.R.A, .lst 1 a.Bus.Bytes, .lst 5 a.Bus.Log]
def bNG(N:aQ→Int→aI→SV×List Blk)(K:aQ→Int→aI→Bool):List SV→List Blk→Option ((SV×List Blk)×Bool)
 |[(.one (.ptr 0 0 0)),(.agg [li c0,li c1,li c2,li c3,li c4,li c5,li c6]),(.one (li c7))],[.box [.sl 1 0 l1, .sl 2 0 l2,li c8,li c9,li c10,li c11, .lit (.bool c12), .lit (.bool c13), .sl 3 0 l3, .sl 4 0 l4, .lit (.bool c14), .lit (.bool c15)], .lst 1 c_1, .lst 1 c_2, .lst 1 c_3, .lst 5 c_4]=>some (N (aQ.mk c0 c1 c2 (aG.mk c3 c4 c5) c6) c7 (aI.mk (aH.mk c_1 c_2 c8 c9 c10 c11 c12 c13) (bM.mk c_3 c_4) c14 c15),eC l1 (ln c_1)&&(eC l2 (ln c_2)&&(eC l3 (ln c_3)&&(eC l4 (ln c_4)&&(K (aQ.mk c0 c1 c2 (aG.mk c3 c4 c5) c6) c7 (aI.mk (aH.mk c_1 c_2 c8 c9 c10 c11 c12 c13) (bM.mk c_3 c_4) c14 c15))))))
 |_,_=>none
theorem bNH{N:aQ→Int→aI→SV×List Blk}{K:aQ→Int→aI→Bool}{f:Nat}(h: ∀(b:aQ)(c:Int)(a:aI),K b c a=true→dJ R f (cF0 b c a) (cF1 b c a)=some (N b c a)):cK f (bNG N K):=fun args hp r e=>by
 unfold bNG at e;split at e
 ·rename_i c0 c1 c2 c3 c4 c5 c6 c7 l1 l2 c8 c9 c10 c11 c12 c13 l3 l4 c14 c15 c_1 c_2 c_3 c_4;obtain⟨hr,hk⟩:=qp (qi e);obtain⟨d0,hk0⟩:=bJ hk;obtain⟨d1,hk1⟩:=bJ hk0;obtain⟨d2,hk2⟩:=bJ hk1;obtain⟨d3,hk3⟩:=bJ hk2;obtain rfl:=of_decide_eq_true d0;obtain rfl:=of_decide_eq_true d1;obtain rfl:=of_decide_eq_true d2;obtain rfl:=of_decide_eq_true d3;rw[←hr];exact h (aQ.mk c0 c1 c2 (aG.mk c3 c4 c5) c6) c7 (aI.mk (aH.mk c_1 c_2 c8 c9 c10 c11 c12 c13) (bM.mk c_3 c_4) c14 c15) hk3
 ·simp at e
section
variable(b:aQ)(c:Int)(a:aI)
def aK9:Bool:=(((bD0 b)&&((ltI 0 (cA (SO b)))&&((dU [.int .i64] (SO b) 0 0)&&true)))&&true)
def aLA:Bool:=((s1 (0:Int))&&((s1 (0:Int))&&((s1 (0:Int))&&((s1 (0:Int))&&((s1 false)&&true)))))
def DC:bK:=(bK.mk b c (bQ (SO b) 0 0) (aL.mk 0 0 0 0 false))
def A6:bK×aI:=(bNE (DC b c) {a with R:={a.R with PC:=(aFJ (DC b c) a)}})
def aLB:Bool:=(aP (VU a.R) (bS (A6 b c a).2.Bus true))
end
def a4S(b:aQ)(c:Int)(a:aI):Pt (aI×aL):=(.ok true (.ok ((((aP a.R true)&&true)&&(bDC a.R))&&true) (.ok ((aK9 b)&&((aK9 b)&&(((s1 c)&&true)&&((jC a true)&&(lG a ((rQ b true)&&(aLA&&(iB (VU a.R) ((iE (VU a.R) true)&&((r1 (SO b))&&((rQ b ((s1 c)&&((s1 (bQ (SO b) 0 0))&&aLA)))&&true))))))))))) (.ok ((bL7 b)&&true) (.br (bif (bL6 b)then(!a.R.Super)else false) (.ok ((cH a (aKC 8 c (DC b c) a))&&true) (.ok true (.ok (((aO a true)&&(aO a true))&&true) (.leaf (a,(aKB 8 c (DC b c) a).ffault))))) (.ok ((cH a (aWE (DC b c) a))&&true) (.ok ((cH a (bNF (DC b c) {a with R:={a.R with PC:=(aFJ (DC b c) a)}}))&&true) (.ok true (.br (dC (A6 b c a).1.ffault.Vector 0) (.ok true (.ok true (.ok (((aLB b c a)&&(aLB b c a))&&true) (.leaf ({(A6 b c a).2 with R:=(VU a.R)},(A6 b c a).1.ffault))))) (.ok true (.ok (((aO (A6 b c a).2 true)&&(aO (A6 b c a).2 true))&&true) (.leaf ((A6 b c a).2,(A6 b c a).1.ffault)))))))))))))
def bEO(b:aQ)(c:Int)(a:aI):aI×aL:=hid (a4S b c a).val
def bEP(b:aQ)(c:Int)(a:aI):Bool:=hid (a4S b c a).okv
def b36(b:aQ)(c:Int)(a:aI)(r:aI×aL):SV×List Blk:=((.agg [li r.2.Vector,li r.2.PC,li r.2.Addr,li r.2.Word, .lit (.bool r.2.Write)]),[.box [.sl 1 0 (ln r.1.R.D), .sl 2 0 (ln r.1.R.A),li r.1.R.Other,li r.1.R.PC,li r.1.R.Flags,li r.1.R.Mask, .lit (.bool r.1.R.Super), .lit (.bool r.1.R.Trace), .sl 3 0 (ln r.1.Bus.Bytes), .sl 4 0 (ln r.1.Bus.Log), .lit (.bool r.1.Stop), .lit (.bool r.1.Halt)], .lst 1 r.1.R.D, .lst 1 r.1.R.A, .lst 1 r.1.Bus.Bytes, .lst 5 r.1.Bus.Log])
def q183:=bNG (fun b c a=>b36 b c a (bEO b c a)) bEP
theorem cF2:cK 183 q183:=bNH fun b c a hk=>tc bYW aRF [(12,K6),(15,K5),(17,K5),(19,K0),(20,K0),(23,K5),(30,sK),(39,K13),(52,K0),(55,K6),(61,K13)] [] true (a4S b c a) (b36 b c a) hk
def Q183:=aZ 183 q183 Q239
theorem aRG:QO Q183:=aF cF2 aRF
section
variable(a:aI)
def MU:aI×aL:=(bEO (JV a).2.1 (JV a).1.R.PC (JV a).1)
end
def a4T(a:aI):Pt (aI×aL):=(.ok true (.ok ((cH a (bL5 a))&&true) (.ok true (.br (dC (JV a).2.2.2.2.Vector 0) (.ok true (.ok (((aO (JV a).1 true)&&(aO (JV a).1 true))&&true) (.leaf ((JV a).1,(JV a).2.2.2.2)))) (.ok (((cH (JV a).1 (bEP (JV a).2.1 (JV a).1.R.PC (JV a).1))&&true)&&true) (.ok (((aO (MU a).1 true)&&(aO (MU a).1 true))&&true) (.leaf ((MU a).1,(MU a).2))))))))
def uA(a:aI):aI×aL:=hid (a4T a).val
def bNI(a:aI):Bool:=hid (a4T a).okv
def b37(a:aI)(r:aI×aL):SV×List Blk:=((.agg [li r.2.Vector,li r.2.PC,li r.2.Addr,li r.2.Word, .lit (.bool r.2.Write)]),[.box [.sl 1 0 (ln r.1.R.D), .sl 2 0 (ln r.1.R.A),li r.1.R.Other,li r.1.R.PC,li r.1.R.Flags,li r.1.R.Mask, .lit (.bool r.1.R.Super), .lit (.bool r.1.R.Trace), .sl 3 0 (ln r.1.Bus.Bytes), .sl 4 0 (ln r.1.Bus.Log), .lit (.bool r.1.Stop), .lit (.bool r.1.Halt)], .lst 1 r.1.R.D, .lst 1 r.1.R.A, .lst 1 r.1.Bus.Bytes, .lst 5 r.1.Bus.Log])
def q120:=aWD (fun a=>b37 a (uA a)) bNI
theorem cF3:cK 120 q120:=aBB fun a hk=>tc bXN aRG [(15,K0),(17,K13),(19,K5),(24,K0)] [] true (a4T a) (b37 a) hk
def Q120:=aZ 120 q120 Q183
theorem aRH:QO Q120:=aF cF3 aRG
section
variable(a:aI)
def wH:aI:=(aA9 (uA a).2 (uA a).1)
def aBX:Bool:=(bif (bif (eqI (uA a).2.Vector 0)then true else(eqI (uA a).2.Vector 5))then true else(geI (uA a).2.Vector 18))
def TE:aI:=(aA9 (aL.mk 9 (wH a).R.PC 0 0 false) (wH a))
def aBY:Int:=(bif (eqI (uA a).2.Vector 0)then 9 else(uA a).2.Vector)
def TF:aI:=(aA9 (aL.mk 9 (uA a).1.R.PC 0 0 false) (uA a).1)
end
def a4U(a:aI):Pt (aI×Int):=(.ok true (.ok true (.ok ((cH a (bNI a))&&true) (.ok true (.ok true (.br (dC (uA a).2.Vector 0) (.ok ((cH (uA a).1 (aBA (uA a).2 (uA a).1))&&true) (.ok true (.br (bif (bif a.R.Trace then(!(wH a).Halt)else false)then(aBX a)else false) (.ok ((cH (wH a) (aBA (aL.mk 9 (wH a).R.PC 0 0 false) (wH a)))&&true) (.ok true (.ok true (.ok true (.ok (((aO (TE a) true)&&(aO (TE a) true))&&true) (.leaf ((TE a),(aBY a)))))))) (.ok true (.ok (((aO (wH a) true)&&(aO (wH a) true))&&true) (.leaf ((wH a),(uA a).2.Vector))))))) (.ok true (.br (bif (bif a.R.Trace then(!(uA a).1.Halt)else false)then(aBX a)else false) (.ok ((cH (uA a).1 (aBA (aL.mk 9 (uA a).1.R.PC 0 0 false) (uA a).1))&&true) (.ok true (.ok true (.ok true (.ok (((aO (TF a) true)&&(aO (TF a) true))&&true) (.leaf ((TF a),(aBY a)))))))) (.ok true (.ok (((aO (uA a).1 true)&&(aO (uA a).1 true))&&true) (.leaf ((uA a).1,(uA a).2.Vector))))))))))))
def aWX(a:aI):aI×Int:=hid (a4U a).val
def bNJ(a:aI):Bool:=hid (a4U a).okv
def b38(a:aI)(r:aI×Int):SV×List Blk:=((.one (li r.2)),[.box [.sl 1 0 (ln r.1.R.D), .sl 2 0 (ln r.1.R.A),li r.1.R.Other,li r.1.R.PC,li r.1.R.Flags,li r.1.R.Mask, .lit (.bool r.1.R.Super), .lit (.bool r.1.R.Trace), .sl 3 0 (ln r.1.Bus.Bytes), .sl 4 0 (ln r.1.Bus.Log), .lit (.bool r.1.Stop), .lit (.bool r.1.Halt)], .lst 1 r.1.R.D, .lst 1 r.1.R.A, .lst 1 r.1.Bus.Bytes, .lst 5 r.1.Bus.Log])
def q118:=aWD (fun a=>b38 a (aWX a)) bNJ
theorem cF4:cK 118 q118:=aBB fun a hk=>tc bXL aRH [(10,sK),(14,K0),(18,K13),(25,sK),(45,K0)] [] true (a4U a) (b38 a) hk
def Q118:=aZ 118 q118 Q120
theorem aRI:QO Q118:=aF cF4 aRH
section
variable(a:bN)
def MV:Bool:=(((d9 a true)&&(d9 a true))&&true)
def yM:aI:=(aA9 (aL.mk (bE 10 (VV a)) a.Cpu.R.PC 0 0 false) a.Cpu)
def MW:Bool:=(((aO (yM a) true)&&(aO (yM a) true))&&true)
end
def a4V(a:bN):Pt (bN×Int):=(.ok true (.ok true (.ok true (.br a.Cpu.Halt (.ok true (.ok (MV a) (.leaf (a,(-1))))) (.ok ((CM a (bK5 a))&&true) (.ok true (.br (kU (VV a) 0) (.ok ((CM a (aBA (aL.mk (bE 10 (VV a)) a.Cpu.R.PC 0 0 false) a.Cpu))&&true) (.ok true (.ok true (.br (eqI (VV a) 7) (.ok true (.ok true (.ok (MW a) (.leaf ((bN.mk {(yM a)with R:={(yM a).R with Mask:=(VV a)}} a.Line false),(bE 100 (VV a))))))) (.ok true (.ok (MW a) (.leaf ({a with Cpu:={(yM a)with R:={(yM a).R with Mask:=(VV a)}}},(bE 100 (VV a)))))))))) (.ok true (.br a.Cpu.Stop (.ok true (.ok (MV a) (.leaf (a,(-1))))) (.ok ((CM a (bNJ a.Cpu))&&true) (.ok (((aO (aWX a.Cpu).1 true)&&(aO (aWX a.Cpu).1 true))&&true) (.leaf ({a with Cpu:=(aWX a.Cpu).1},(aWX a.Cpu).2)))))))))))))
def aWY(a:bN):bN×Int:=hid (a4V a).val
def bNK(a:bN):Bool:=hid (a4V a).okv
def b39(a:bN)(r:bN×Int):SV×List Blk:=((.one (li r.2)),[.box [.sl 1 0 (ln r.1.Cpu.R.D), .sl 2 0 (ln r.1.Cpu.R.A),li r.1.Cpu.R.Other,li r.1.Cpu.R.PC,li r.1.Cpu.R.Flags,li r.1.Cpu.R.Mask, .lit (.bool r.1.Cpu.R.Super), .lit (.bool r.1.Cpu.R.Trace), .sl 3 0 (ln r.1.Cpu.Bus.Bytes), .sl 4 0 (ln r.1.Cpu.Bus.Log), .lit (.bool r.1.Cpu.Stop), .lit (.bool r.1.Cpu.Halt),li r.1.Line, .lit (.bool r.1.Edge)], .lst 1 r.1.Cpu.R.D, .lst 1 r.1.Cpu.R.A, .lst 1 r.1.Cpu.Bus.Bytes, .lst 5 r.1.Cpu.Bus.Log])
def q140:=bDI (fun a=>b39 a (aWY a)) bNK
theorem cF5:cK 140 q140:=a19 fun a hk=>tc bXU aRI [(11,sK),(23,K0),(41,sK)] [] true (a4V a) (b39 a) hk
def Q140:=aZ 140 q140 Q118
theorem aRJ:QO Q140:=aF cF5 aRI
section
variable(a:bN)
def aRK:Bool:=((d9 (aWY (MC a)).1 true)&&true)
end
def T62(a:bN):Pt (bN×Int×Bool):=(.ok true (.ok ((k67 a)&&true) (.br (!(g67 a)) (.ok true (.ok true (.ok true (.leaf ((bN.mk (aI.mk (aH.mk [] [] 0 0 0 0 false false) (bM.mk [] []) false false) 0 false),0,false))))) (.ok ((bDG a)&&true) (.ok ((CM (MC a) (bNK (MC a)))&&true) (.ok true (.ok ((d9 (aWY (MC a)).1 true)&&(aRK a)) (.ok (aRK a) (.leaf ((aWY (MC a)).1,(aWY (MC a)).2,true))))))))))
def O4(a:bN):bN×Int×Bool:=hid (T62 a).val
def k62(a:bN):Bool:=hid (T62 a).okv
def n62(a:bN)(r:bN×Int×Bool):SV×List Blk:=((.tup [(.agg [.imm true 1 r.1.Cpu.R.D, .imm true 1 r.1.Cpu.R.A,li r.1.Cpu.R.Other,li r.1.Cpu.R.PC,li r.1.Cpu.R.Flags,li r.1.Cpu.R.Mask, .lit (.bool r.1.Cpu.R.Super), .lit (.bool r.1.Cpu.R.Trace), .imm true 1 r.1.Cpu.Bus.Bytes, .imm true 5 r.1.Cpu.Bus.Log, .lit (.bool r.1.Cpu.Stop), .lit (.bool r.1.Cpu.Halt),li r.1.Line, .lit (.bool r.1.Edge)]),(.one (li r.2.1)),(.one (.lit (.bool r.2.2)))]),[])
def q62:=aAP (fun a=>n62 a (O4 a)) k62
theorem t62:cK 100062 q62:=HH fun a hk=>tz b9I aRJ [(7,K9),(11,K9),(14,K9)] [] true (T62 a) (n62 a) hk
def Q62:=aZ 100062 q62 Q140
theorem aLC:QO Q62:=aF t62 aRJ
structure V206_0 where
 mk::
 (s0:List Row)
 (s5:List Row)
 (s6:Int)
 (s7:Int)
def MX(v:V206_0):Pt (Option V206_0):=(.ok true (.br (ltI v.s7 v.s6) (.ok ((hZ [.int .i64] v.s5 v.s7)&&true) (.ok ((k77 (bQ v.s5 (iN v.s7) 0))&&true) (.br (!(g77 (bQ v.s5 (iN v.s7) 0))) (.ok true (.leaf none)) (.ok true (.ok true (.leaf (some {v with s7:=(bE v.s7 1)}))))))) (.leaf none)))
def TG(v:V206_0):St:=⟨[(0,(.one (.imm true 1 v.s0))),(5,(.one (.imm true 1 v.s5))),(6,(.one (li v.s6))),(7,(.one (li v.s7)))],[]⟩
def aBZ:St→Option (V206_0×Bool)
 |⟨[(0,(.one (.imm true 1 c0))),(5,(.one (.imm true 1 c1))),(6,(.one (li c2))),(7,(.one (li c3)))],[]⟩=>some ((V206_0.mk c0 c1 c2 c3),true)
 |_=>none
def aB0:St→Option (Pt Out):=x9 Q62 [(9,K0),(10,K0)] [] true [] 0 2097152 aHX
theorem bEQ(v:V206_0):((aB0 (TG v)).bind (sY true false 0 [0,5,6,7]))=some ((MX v).map (Option.map TG)):=by kernel_rfl
theorem bER(σ:St)(v:V206_0)(h:aBZ σ=some (v,true)):σ=TG v:=by
 unfold aBZ at h;split at h
 ·obtain⟨hr,hk⟩:=qp (qi h);rw[←hr];rfl
 ·simp at h
theorem bES:dB (vF true false 0 [0,5,6,7] aB0 aBZ TG MX 2097152) (fY R 0 2097152 (.loop [0,5,6,7] aHX)):=eM (dD aLC (cQ (l:=[]) (by kernel_rfl) trivial)) bER bEQ
def bET:Lp:=(8,vF true false 0 [0,5,6,7] aB0 aBZ TG MX 2097152)::[]
def TH(v:V206_0):V206_0:=(hid (eG MX 2097152 v)).getD v
def aLD(v:V206_0):Bool:=(hid (eG MX 2097152 v)).isSome
section
variable(a:List Row)
def aB1:V206_0:=(TH (V206_0.mk a a (cA a) 0))
end
def a4W(a:List Row):Pt (Bool):=(.ok true (.ok true (.ok true (.ok true (.ok (aLD (V206_0.mk a a (cA a) 0)) (.br (ltI (aB1 a).s7 (aB1 a).s6) (.ok true (.ok true (.leaf false))) (.ok true (.ok true (.ok true (.leaf (eqI (cA (aB1 a).s0) 4)))))))))))
def a4X(a:List Row):Bool:=hid (a4W a).val
def bEU(a:List Row):Bool:=hid (a4W a).okv
def q206:=aFG (fun a=>JL a (a4X a)) bEU
theorem b4B:fM (fun live x=>dB (oV bET (m6 x)) (fY R 0 2097152 (.loop live x))) F206.body:=(cQ (l:=[([0,5,6,7],aHX)]) (by kernel_rfl) ⟨fN (n:=8) (by kernel_rfl) fun σ σr t h ho hl=>bES σ σr t h ho hl,trivial⟩)
theorem cF7:cK 100206 q206:=L8 fun a hk=>tzl bZF aLC b4B [(9,K0),(10,K0)] [] true (a4W a) (JL a) hk
def Q206:=aZ 100206 q206 Q62
theorem aRL:QO Q206:=aF cF7 aLC
def a4Y(a:Int):Pt (Bool):=(.ok true (.ok ((w8 a 0 31)&&true) (.ok true (.ok true (.leaf (vA a 0 31))))))
def bNL(a:Int):Bool:=hid (a4Y a).val
def bNM(a:Int):Bool:=hid (a4Y a).okv
def q207:=BP (fun a=>jZ a (bNL a)) bNM
theorem cF8:cK 100207 q207:=gS fun a hk=>tz bZG aRL [] [] true (a4Y a) (jZ a) hk
def Q207:=aZ 100207 q207 Q206
theorem aRM:QO Q207:=aF cF8 aRL
section
variable(a:aH)
def aLE:Bool:=(bif (a4X a.D)then(a4X a.A)else false)
def aLF:Bool:=(bif (aLE a)then(g77 a.Other)else false)
def aLG:Bool:=(bif (aLF a)then(g77 a.PC)else false)
def aLH:Bool:=(bif (aLG a)then(bNL a.Flags)else false)
end
def a4Z(a:aH):Pt (Bool):=(.ok true (.ok ((bEU a.D)&&((((bEU a.A)&&true)||(!(a4X a.D)))&&((((k77 a.Other)&&true)||(!(aLE a)))&&((((k77 a.PC)&&true)||(!(aLF a)))&&((((bNM a.Flags)&&true)||(!(aLG a)))&&((((w8 a.Mask 0 7)&&true)||(!(aLH a)))&&true)))))) (.ok true (.ok true (.leaf (bif (aLH a)then(vA a.Mask 0 7)else false))))))
def bEV(a:aH):Bool:=hid (a4Z a).val
def bNN(a:aH):Bool:=hid (a4Z a).okv
def q154:=bCQ (fun a=>bCS a (bEV a)) bNN
theorem cF9:cK 100154 q154:=a1O fun a hk=>tz bX7 aRM [(4,K1),(8,K1),(13,K0),(18,K0),(23,K0),(28,K0)] [] true (a4Z a) (bCS a) hk
def Q154:=aZ 100154 q154 Q207
theorem aRN:QO Q154:=aF cF9 aRM
def aLI(a:Int):Pt (Int):=(.ok true (.ok ((leI 0 (xU .u64 (dH 8 a)))&&true) (.ok true (.ok true (.leaf (m7 1 (xU .u64 (dH 8 a))))))))
def xC(a:Int):Int:=hid (aLI a).val
def JX(a:Int):Bool:=hid (aLI a).okv
def q248:=BP (fun a=>xB a (xC a)) JX
theorem cGA:cK 100248 q248:=gS fun a hk=>tz b0J aRN [] [] true (aLI a) (xB a) hk
def Q248:=aZ 100248 q248 Q154
theorem aRO:QO Q248:=aF cGA aRN
def a40(a:Int)(b:Int):Pt (Bool):=(.ok true (.ok ((aVT a)&&((((JX a)&&((w8 b 0 (cN (xC a) 1))&&true))||(!(aFA a)))&&true)) (.ok true (.ok true (.leaf (bif (aFA a)then(vA b 0 (cN (xC a) 1))else false))))))
def a41(a:Int)(b:Int):Bool:=hid (a40 a b).val
def a42(a:Int)(b:Int):Bool:=hid (a40 a b).okv
def q246:=JP (fun a b=>VT a b (a41 a b)) a42
theorem cGB:cK 100246 q246:=tM fun a b hk=>tz b0H aRO [] [] true (a40 a b) (VT a b) hk
def Q246:=aZ 100246 q246 Q248
theorem aRP:QO Q246:=aF cGB aRO
def a43(a:Int):Pt (Bool):=(.ok true (.ok ((w8 a 0 65535)&&true) (.ok true (.ok true (.leaf (vA a 0 65535))))))
def bEW(a:Int):Bool:=hid (a43 a).val
def bEX(a:Int):Bool:=hid (a43 a).okv
def q180:=BP (fun a=>jZ a (bEW a)) bEX
theorem cGC:cK 100180 q180:=gS fun a hk=>tz bYT aRP [] [] true (a43 a) (jZ a) hk
def Q180:=aZ 100180 q180 Q246
theorem aRQ:QO Q180:=aF cGC aRP
section
variable(a:aE)
def aLJ:Bool:=(bif (!(vA a.Kind 1 3))then true else(!(a41 a.Size a.Value)))
def aLK:Bool:=(bif (aLJ a)then true else(!(bEW a.Addr)))
end
def a44(a:aE):Pt (Bool):=(.ok true (.ok ((w8 a.Kind 1 3)&&((((a42 a.Size a.Value)&&true)||(!(vA a.Kind 1 3)))&&((((bEX a.Addr)&&true)||(aLJ a))&&((((w8 a.Code 0 3)&&true)||(aLK a))&&true)))) (.br (bif (aLK a)then true else(!(vA a.Code 0 3))) (.ok true (.ok true (.ok true (.leaf false)))) (.ok true (.ok true (.ok true (.leaf (bif (dC a.Kind 3)then true else(dC a.Code 0)))))))))
def bNO(a:aE):Bool:=hid (a44 a).val
def bNP(a:aE):Bool:=hid (a44 a).okv
def q208:=a1T (fun a=>aV5 a (bNO a)) bNP
theorem cGD:cK 100208 q208:=aJK fun a hk=>tz bZH aRQ [(4,K0),(9,K0),(11,K0),(17,K0),(23,K0),(28,K0),(32,K0)] [] true (a44 a) (aV5 a) hk
def Q208:=aZ 100208 q208 Q180
theorem O5:QO Q208:=aF cGD aRQ
structure V164v1_0 where
 mk::
 (s5:List Row)
 (s6:Int)
 (s7:Int)
def zT(v:V164v1_0):Pt (Option V164v1_0):=(.ok true (.br (ltI v.s7 v.s6) (.ok ((hZ [.int .i64] v.s5 v.s7)&&true) (.ok ((w8 (bQ v.s5 (iN v.s7) 0) 0 255)&&true) (.br (!(vA (bQ v.s5 (iN v.s7) 0) 0 255)) (.ok true (.leaf none)) (.ok true (.ok true (.leaf (some {v with s7:=(bE v.s7 1)}))))))) (.leaf none)))
def DD(v:V164v1_0):St:=⟨[(5,(.one (.imm true 1 v.s5))),(6,(.one (li v.s6))),(7,(.one (li v.s7)))],[]⟩
def JY:St→Option (V164v1_0×Bool)
 |⟨[(5,(.one (.imm true 1 c0))),(6,(.one (li c1))),(7,(.one (li c2)))],[]⟩=>some ((V164v1_0.mk c0 c1 c2),true)
 |_=>none
def MY:St→Option (Pt Out):=x9 Q208 [(9,K0),(10,K0)] [] true [] 0 2097152 LI
theorem aWZ(v:V164v1_0):((MY (DD v)).bind (sY true false 0 [5,6,7]))=some ((zT v).map (Option.map DD)):=by kernel_rfl
theorem aW0(σ:St)(v:V164v1_0)(h:JY σ=some (v,true)):σ=DD v:=by
 unfold JY at h;split at h
 ·obtain⟨hr,hk⟩:=qp (qi h);rw[←hr];rfl
 ·simp at h
theorem aW1:dB (vF true false 0 [5,6,7] MY JY DD zT 2097152) (fY R 0 2097152 (.loop [5,6,7] LI)):=eM (dD O5 (cQ (l:=[]) (by kernel_rfl) trivial)) aW0 aWZ
def aW2:Lp:=(8,vF true false 0 [5,6,7] MY JY DD zT 2097152)::[]
def JZ(v:V164v1_0):V164v1_0:=(hid (eG zT 2097152 v)).getD v
def TI(v:V164v1_0):Bool:=(hid (eG zT 2097152 v)).isSome
section
variable(a:List Row)
def TJ:V164v1_0:=(JZ (V164v1_0.mk a (cA a) 0))
end
def aB2(a:List Row):Pt (Bool):=(.ok true (.ok true (.ok true (.ok true (.ok (TI (V164v1_0.mk a (cA a) 0)) (.br (ltI (TJ a).s7 (TJ a).s6) (.ok true (.ok true (.leaf false))) (.ok true (.ok true (.ok true (.leaf true))))))))))
def aB3(a:List Row):Bool:=hid (aB2 a).val
def aB4(a:List Row):Bool:=hid (aB2 a).okv
def q164v1:=aFG (fun a=>JL a (aB3 a)) aB4
theorem bEY:fM (fun live x=>dB (oV aW2 (m6 x)) (fY R 0 2097152 (.loop live x))) F164.body:=(cQ (l:=[([5,6,7],LI)]) (by kernel_rfl) ⟨fN (n:=8) (by kernel_rfl) fun σ σr t h ho hl=>aW1 σ σr t h ho hl,trivial⟩)
theorem bNQ:cK 100164 q164v1:=L8 fun a hk=>tzl bHV O5 bEY [(9,K0),(10,K0)] [] true (aB2 a) (JL a) hk
def Q164v1:=aZ 100164 q164v1 Q208
theorem XN:QO Q164v1:=aF bNQ O5
structure V155_0 where
 mk::
 (b0:bM)
 (s6:List Row)
 (s7:Int)
 (s8:Int)
def MZ(v:V155_0):Pt (Option V155_0):=(.ok true (.br (ltI v.s8 v.s7) (.ok ((hZ [.int .i64, .int .i64, .int .i64, .int .i64, .int .i64] v.s6 v.s8)&&true) (.ok ((bNP (aE.at v.s6 (iN v.s8) 0))&&true) (.br (!(bNO (aE.at v.s6 (iN v.s8) 0))) (.ok true (.leaf none)) (.ok true (.ok true (.leaf (some {v with s8:=(bE v.s8 1)}))))))) (.leaf none)))
def TK(v:V155_0):St:=⟨[(1,(.one (.ptr 0 0 0))),(6,(.one (.imm true 5 v.s6))),(7,(.one (li v.s7))),(8,(.one (li v.s8)))],[.box [.imm true 1 v.b0.Bytes, .imm true 5 v.b0.Log]]⟩
def aB5:St→Option (V155_0×Bool)
 |⟨[(1,(.one (.ptr 0 0 0))),(6,(.one (.imm true 5 c2))),(7,(.one (li c3))),(8,(.one (li c4)))],[.box [.imm true 1 c0, .imm true 5 c1]]⟩=>some ((V155_0.mk (bM.mk c0 c1) c2 c3 c4),true)
 |_=>none
def aB6:St→Option (Pt Out):=x9 Q208 [(6,K11),(10,K10),(11,K10),(12,K10),(17,K1),(22,K1),(27,K11)] [] true [] 0 2097152 aHS
theorem bEZ(v:V155_0):((aB6 (TK v)).bind (sY true false 0 [1,6,7,8]))=some ((MZ v).map (Option.map TK)):=by kernel_rfl
theorem bE0(σ:St)(v:V155_0)(h:aB5 σ=some (v,true)):σ=TK v:=by
 unfold aB5 at h;split at h
 ·obtain⟨hr,hk⟩:=qp (qi h);rw[←hr];rfl
 ·simp at h
theorem bE1:dB (vF true false 0 [1,6,7,8] aB6 aB5 TK MZ 2097152) (fY R 0 2097152 (.loop [1,6,7,8] aHS)):=eM (dD O5 (cQ (l:=[]) (by kernel_rfl) trivial)) bE0 bEZ
def bE2:Lp:=(9,vF true false 0 [1,6,7,8] aB6 aB5 TK MZ 2097152)::[]
def TL(v:V155_0):V155_0:=(hid (eG MZ 2097152 v)).getD v
def aLL(v:V155_0):Bool:=(hid (eG MZ 2097152 v)).isSome
section
variable(a:bM)
def DE:V155_0:=(TL (V155_0.mk a a.Log (cA a.Log) 0))
end
def a45(a:bM):Pt (Bool):=(.ok true (.ok true (.ok true (.ok true (.ok (aLL (V155_0.mk a a.Log (cA a.Log) 0)) (.br (ltI (DE a).s8 (DE a).s7) (.ok true (.ok true (.leaf false))) (.ok ((((aB4 (DE a).b0.Bytes)&&true)||(!(eqI (cA (DE a).b0.Bytes) 512)))&&true) (.ok true (.ok true (.leaf (bif (bif (eqI (cA (DE a).b0.Bytes) 512)then(aB3 (DE a).b0.Bytes)else false)then(leI (cA (DE a).b0.Log) 400)else false)))))))))))
def bNR(a:bM):Bool:=hid (a45 a).val
def bNS(a:bM):Bool:=hid (a45 a).okv
def q155:=a1Z (fun a=>bDA a (bNR a)) bNS
theorem b4C:fM (fun live x=>dB (oV bE2 (m6 x)) (fY R 0 2097152 (.loop live x))) F155.body:=(cQ (l:=[([1,6,7,8],aHS)]) (by kernel_rfl) ⟨fN (n:=9) (by kernel_rfl) fun σ σr t h ho hl=>bE1 σ σr t h ho hl,trivial⟩)
theorem cGE:cK 100155 q155:=aJO fun a hk=>tzl bX8 XN b4C [(6,K11),(10,K10),(11,K10),(12,K10),(17,K1),(22,K1),(27,K11)] [] true (a45 a) (bDA a) hk
def Q155:=aZ 100155 q155 Q164v1
theorem aRR:QO Q155:=aF cGE XN
def T76(a:aI):Pt (Bool):=(.ok true (.ok ((bNN a.R)&&((((bNS a.Bus)&&true)||(!(bEV a.R)))&&true)) (.ok true (.ok true (.leaf (bif (bif (bEV a.R)then(bNR a.Bus)else false)then(!(bif a.Stop then a.Halt else false))else false))))))
def g76(a:aI):Bool:=hid (T76 a).val
def k76(a:aI):Bool:=hid (T76 a).okv
def q76:=a11 (fun a=>n30 a (g76 a)) k76
theorem t76:cK 100076 q76:=aJR fun a hk=>tz b9V aRR [(4,K6),(8,K7),(13,sK),(16,sK)] [] true (T76 a) (n30 a) hk
def Q76:=aZ 100076 q76 Q155
theorem a46:QO Q76:=aF t76 aRR
def a47(a:bN):Pt (Bool):=(.ok true (.ok ((k76 a.Cpu)&&((((w8 a.Line 0 7)&&true)||(!(g76 a.Cpu)))&&true)) (.ok true (.ok true (.leaf (bif (g76 a.Cpu)then(vA a.Line 0 7)else false))))))
def aW3(a:bN):Bool:=hid (a47 a).val
def a48(a:bN):Bool:=hid (a47 a).okv
def q141:=aAP (fun a=>n67 a (aW3 a)) a48
theorem cGG:cK 100141 q141:=HH fun a hk=>tz bXV a46 [(4,K8),(8,K0)] [] true (a47 a) (n67 a) hk
def Q141:=aZ 100141 q141 Q76
theorem aRS:QO Q141:=aF cGG a46
def a49(a:aH):Pt (aH):=(.ok true (.ok (((qQ (vX (0+(ln a.D)) 8) 140737488355328)&&(qQ (0+(ln a.D)) 140737488355328))&&true) (.ok (((qQ (vX (0+(ln a.A)) 8) 140737488355328)&&(qQ (0+(ln a.A)) 140737488355328))&&true) (.ok true (.ok ((aP a true)&&((aP a true)&&true)) (.leaf a))))))
def sA(a:aH):aH:=hid (a49 a).val
def aLM(a:aH):Bool:=hid (a49 a).okv
def q161:=a13 (fun a=>bDD a (sA a)) aLM
theorem cGH:cK 161 q161:=aJS fun a p0 p1 hk=>tc bYE aRS [(5,K1),(10,K1),(13,K6)] [] true (a49 a) (bDD a) hk
def Q161:=aZ 161 q161 Q141
theorem aRT:QO Q161:=aF cGH aRS
def cGI(a:bM)(p0:Bool)(p1:Bool):List SV:=[(.agg [.imm p0 1 a.Bytes, .imm p1 5 a.Log])]
def cGJ(a:bM)(p0:Bool)(p1:Bool):List Blk:=[]
def bNT(N:bM→SV×List Blk)(K:bM→Bool):List SV→List Blk→Option ((SV×List Blk)×Bool)
 |[(.agg [.imm p0 1 c0, .imm p1 5 c1])],[]=>some (N (bM.mk c0 c1),K (bM.mk c0 c1))
 |_,_=>none
theorem bNU{N:bM→SV×List Blk}{K:bM→Bool}{f:Nat}(h: ∀(a:bM)(p0:Bool)(p1:Bool),K a=true→dJ R f (cGI a p0 p1) (cGJ a p0 p1)=some (N a)):cK f (bNT N K):=fun _ _ _ e=>by
 unfold bNT at e;split at e
 ·exact vH e (h _ _ _)
 ·cases e
section
variable(a:bM)
def eP:Bool:=((((qQ (vX (0+(ln a.Bytes)) 8) 140737488355328)&&(qQ (0+(ln a.Bytes)) 140737488355328))&&(((qQ (vX (0+(ln a.Log)) 40) 140737488355328)&&(qQ (0+(ln a.Log)) 140737488355328))&&true))&&(((bS a true)&&(bS a true))&&true))
def a5A:Bool:=(((eP a)&&(((eP a)&&(((eP a)&&(((eP a)&&(((eP a)&&(((eP a)&&((eP a)&&((dW a true)&&(dP a true))))&&((dW a true)&&(dP a true))))&&((dW a true)&&(dP a true))))&&((dW a true)&&(dP a true))))&&((dW a true)&&(dP a true))))&&((dW a true)&&(dP a true))))&&((dW a true)&&(dP a true)))
def a5B:Bool:=(((eP a)&&(((eP a)&&(((eP a)&&(((eP a)&&(((eP a)&&(((eP a)&&(((eP a)&&(a5A a))&&((dW a true)&&(dP a true))))&&((dW a true)&&(dP a true))))&&((dW a true)&&(dP a true))))&&((dW a true)&&(dP a true))))&&((dW a true)&&(dP a true))))&&((dW a true)&&(dP a true))))&&((dW a true)&&(dP a true)))
def a5C:Bool:=(((eP a)&&(((eP a)&&(((eP a)&&(((eP a)&&(((eP a)&&(((eP a)&&(((eP a)&&(a5B a))&&((dW a true)&&(dP a true))))&&((dW a true)&&(dP a true))))&&((dW a true)&&(dP a true))))&&((dW a true)&&(dP a true))))&&((dW a true)&&(dP a true))))&&((dW a true)&&(dP a true))))&&((dW a true)&&(dP a true)))
def a5D:Bool:=(((eP a)&&(((eP a)&&(((eP a)&&(((eP a)&&(((eP a)&&(((eP a)&&(((eP a)&&(a5C a))&&((dW a true)&&(dP a true))))&&((dW a true)&&(dP a true))))&&((dW a true)&&(dP a true))))&&((dW a true)&&(dP a true))))&&((dW a true)&&(dP a true))))&&((dW a true)&&(dP a true))))&&((dW a true)&&(dP a true)))
def a5E:Bool:=(((eP a)&&(((eP a)&&(((eP a)&&(((eP a)&&(((eP a)&&(((eP a)&&(((eP a)&&(a5D a))&&((dW a true)&&(dP a true))))&&((dW a true)&&(dP a true))))&&((dW a true)&&(dP a true))))&&((dW a true)&&(dP a true))))&&((dW a true)&&(dP a true))))&&((dW a true)&&(dP a true))))&&((dW a true)&&(dP a true)))
end
def a5F(a:bM):Pt (bM):=(.ok true (.ok ((eP a)&&(((eP a)&&(((eP a)&&(a5E a))&&((dW a true)&&(dP a true))))&&((dW a true)&&(dP a true)))) (.ok ((bS a true)&&((bS a true)&&true)) (.leaf a))))
def bE3(a:bM):bM:=hid (a5F a).val
def bNV(a:bM):Bool:=hid (a5F a).okv
def q184:=bNT (fun a=>bDF a (bE3 a)) bNV
theorem cGK:cK 184 q184:=bNU fun a p0 p1 hk=>tc bYX aRT [(5,K1),(9,K11)] [] true (a5F a) (bDF a) hk
def Q184:=aZ 184 q184 Q161
theorem aRU:QO Q184:=aF cGK aRT
def cGL(a:aI)(p0:Bool)(p1:Bool)(p2:Bool)(p3:Bool):List SV:=[(.agg [.imm p0 1 a.R.D, .imm p1 1 a.R.A,li a.R.Other,li a.R.PC,li a.R.Flags,li a.R.Mask, .lit (.bool a.R.Super), .lit (.bool a.R.Trace), .imm p2 1 a.Bus.Bytes, .imm p3 5 a.Bus.Log, .lit (.bool a.Stop), .lit (.bool a.Halt)])]
def cGM(a:aI)(p0:Bool)(p1:Bool)(p2:Bool)(p3:Bool):List Blk:=[]
def bE4(N:aI→SV×List Blk)(K:aI→Bool):List SV→List Blk→Option ((SV×List Blk)×Bool)
 |[(.agg [.imm p0 1 c0, .imm p1 1 c1,li c2,li c3,li c4,li c5, .lit (.bool c6), .lit (.bool c7), .imm p2 1 c8, .imm p3 5 c9, .lit (.bool c10), .lit (.bool c11)])],[]=>some (N (aI.mk (aH.mk c0 c1 c2 c3 c4 c5 c6 c7) (bM.mk c8 c9) c10 c11),K (aI.mk (aH.mk c0 c1 c2 c3 c4 c5 c6 c7) (bM.mk c8 c9) c10 c11))
 |_,_=>none
theorem a5G{N:aI→SV×List Blk}{K:aI→Bool}{f:Nat}(h: ∀(a:aI)(p0:Bool)(p1:Bool)(p2:Bool)(p3:Bool),K a=true→dJ R f (cGL a p0 p1 p2 p3) (cGM a p0 p1 p2 p3)=some (N a)):cK f (bE4 N K):=fun _ _ _ e=>by
 unfold bE4 at e;split at e
 ·exact vH e (h _ _ _ _ _)
 ·cases e
section
variable(a:aI)
def aLN:Bool:=(aP (sA a.R) (bS (bE3 a.Bus) true))
end
def a5H(a:aI):Pt (aI):=(.ok true (.ok ((aLM a.R)&&true) (.ok ((bNV a.Bus)&&true) (.ok true (.ok ((aLN a)&&((aLN a)&&true)) (.leaf {a with R:=(sA a.R),Bus:=(bE3 a.Bus)}))))))
def TM(a:aI):aI:=hid (a5H a).val
def a5I(a:aI):Bool:=hid (a5H a).okv
def q122:=bE4 (fun a=>n74 a (TM a)) a5I
theorem cGN:cK 122 q122:=a5G fun a p0 p1 p2 p3 hk=>tc bXO aRU [(4,K6),(8,K7),(11,K8)] [] true (a5H a) (n74 a) hk
def Q122:=aZ 122 q122 Q184
theorem aRV:QO Q122:=aF cGN aRU
def cGO(a:bN)(p0:Bool)(p1:Bool)(p2:Bool)(p3:Bool):List SV:=[(.agg [.imm p0 1 a.Cpu.R.D, .imm p1 1 a.Cpu.R.A,li a.Cpu.R.Other,li a.Cpu.R.PC,li a.Cpu.R.Flags,li a.Cpu.R.Mask, .lit (.bool a.Cpu.R.Super), .lit (.bool a.Cpu.R.Trace), .imm p2 1 a.Cpu.Bus.Bytes, .imm p3 5 a.Cpu.Bus.Log, .lit (.bool a.Cpu.Stop), .lit (.bool a.Cpu.Halt),li a.Line, .lit (.bool a.Edge)])]
def cGP(a:bN)(p0:Bool)(p1:Bool)(p2:Bool)(p3:Bool):List Blk:=[]
def bE5(N:bN→SV×List Blk)(K:bN→Bool):List SV→List Blk→Option ((SV×List Blk)×Bool)
 |[(.agg [.imm p0 1 c0, .imm p1 1 c1,li c2,li c3,li c4,li c5, .lit (.bool c6), .lit (.bool c7), .imm p2 1 c8, .imm p3 5 c9, .lit (.bool c10), .lit (.bool c11),li c12, .lit (.bool c13)])],[]=>some (N (bN.mk (aI.mk (aH.mk c0 c1 c2 c3 c4 c5 c6 c7) (bM.mk c8 c9) c10 c11) c12 c13),K (bN.mk (aI.mk (aH.mk c0 c1 c2 c3 c4 c5 c6 c7) (bM.mk c8 c9) c10 c11) c12 c13))
 |_,_=>none
theorem a5J{N:bN→SV×List Blk}{K:bN→Bool}{f:Nat}(h: ∀(a:bN)(p0:Bool)(p1:Bool)(p2:Bool)(p3:Bool),K a=true→dJ R f (cGO a p0 p1 p2 p3) (cGP a p0 p1 p2 p3)=some (N a)):cK f (bE5 N K):=fun _ _ _ e=>by
 unfold bE5 at e;split at e
 ·exact vH e (h _ _ _ _ _)
 ·cases e
def a5K(a:bN):Pt (bN):=(.ok true (.ok ((a5I a.Cpu)&&true) (.ok true (.ok ((aO (TM a.Cpu) true)&&((aO (TM a.Cpu) true)&&true)) (.leaf {a with Cpu:=(TM a.Cpu)})))))
def A7(a:bN):bN:=hid (a5K a).val
def aW4(a:bN):Bool:=hid (a5K a).okv
def q143:=bE5 (fun a=>bDH a (A7 a)) aW4
theorem cGQ:cK 143 q143:=a5J fun a p0 p1 p2 p3 hk=>tc bXX aRV [(4,K8),(7,K9)] [] true (a5K a) (bDH a) hk
def Q143:=aZ 143 q143 Q122
theorem aRW:QO Q143:=aF cGQ aRV
def a5L(a:bN):Pt (Int):=(.ok true (.ok true (.br a.Edge (.ok true (.ok true (.ok true (.leaf 7)))) (.ok true (.br (kU a.Line a.Cpu.R.Mask) (.ok true (.ok true (.ok true (.leaf a.Line)))) (.ok true (.ok true (.ok true (.leaf 0)))))))))
def aB7(a:bN):Int:=hid (a5L a).val
def bE6(a:bN):Bool:=hid (a5L a).okv
def b4E(a:bN)(r:Int):SV×List Blk:=((.one (li r)),[])
def q145:=bE5 (fun a=>b4E a (aB7 a)) bE6
theorem cGR:cK 100145 q145:=a5J fun a p0 p1 p2 p3 hk=>tz bXY aRW [(5,sK),(8,K0),(12,K0),(15,K0)] [] true (a5L a) (b4E a) hk
def Q145:=aZ 100145 q145 Q143
theorem aRX:QO Q145:=aF cGR aRW
def T78(a:aI):Pt (aS):=(.ok true (.ok ((a5I a)&&true) (.ok true (.ok (((aO (TM a) true)&&(aO (TM a) true))&&true) (.leaf (aS.mk (TM a).R (TM a).Bus (TM a).Stop (aL.mk 0 0 0 0 false)))))))
def i5(a:aI):aS:=hid (T78 a).val
def k78(a:aI):Bool:=hid (T78 a).okv
def n78(a:aI)(r:aS):SV×List Blk:=((.one (.ptr 0 0 0)),[.box [.sl 1 0 (ln r.fr.D), .sl 2 0 (ln r.fr.A),li r.fr.Other,li r.fr.PC,li r.fr.Flags,li r.fr.Mask, .lit (.bool r.fr.Super), .lit (.bool r.fr.Trace), .sl 3 0 (ln r.fbus.Bytes), .sl 4 0 (ln r.fbus.Log), .lit (.bool r.fstop),li r.ffault.Vector,li r.ffault.PC,li r.ffault.Addr,li r.ffault.Word, .lit (.bool r.ffault.Write)], .lst 1 r.fr.D, .lst 1 r.fr.A, .lst 1 r.fbus.Bytes, .lst 5 r.fbus.Log])
def q78:=bE4 (fun a=>n78 a (i5 a)) k78
theorem t78:cK 78 q78:=a5G fun a p0 p1 p2 p3 hk=>tc b9X aRX [(4,K8),(7,K6),(9,K7),(11,sK)] [] true (T78 a) (n78 a) hk
def Q78:=aZ 78 q78 Q145
theorem a5M:QO Q78:=aF t78 aRX
def a5N(a:aH):Pt (Int):=(.ok true (.ok ((yB a.Super 256)&&((yB a.Trace 512)&&true)) (.ok true (.ok true (.leaf (bE (bE (bE a.Flags (dH 32 a.Mask)) (yA a.Super 256)) (yA a.Trace 512)))))))
def a5O(a:aH):Int:=hid (a5N a).val
def bE7(a:aH):Bool:=hid (a5N a).okv
def b4H(a:aH)(r:Int):SV×List Blk:=((.one (li r)),[])
def q168:=a13 (fun a=>b4H a (a5O a)) bE7
theorem cGS:cK 100168 q168:=aJS fun a p0 p1 hk=>tz bYI a5M [(4,K0),(6,K0),(10,sK),(14,sK)] [] true (a5N a) (b4H a) hk
def Q168:=aZ 100168 q168 Q78
theorem aRY:QO Q168:=aF cGS a5M
def a5P(a:Int):Pt (Bool):=(.ok true (.ok true (.ok true (.ok true (.leaf (bif (eqI a 2)then true else(eqI a 3)))))))
def bNW(a:Int):Bool:=hid (a5P a).val
def bNX(a:Int):Bool:=hid (a5P a).okv
def q109:=BP (fun a=>jZ a (bNW a)) bNX
theorem cGT:cK 100109 q109:=gS fun a hk=>tz bXG aRY [] [] true (a5P a) (jZ a) hk
def Q109:=aZ 100109 q109 Q168
theorem aRZ:QO Q109:=aF cGT aRY
def cGU(a:Bool)(b:aL):List SV:=[(.one (.lit (.bool a))),(.agg [li b.Vector,li b.PC,li b.Addr,li b.Word, .lit (.bool b.Write)])]
def cGV(a:Bool)(b:aL):List Blk:=[]
def bNY(N:Bool→aL→SV×List Blk)(K:Bool→aL→Bool):List SV→List Blk→Option ((SV×List Blk)×Bool)
 |[(.one (.lit (.bool c0))),(.agg [li c1,li c2,li c3,li c4, .lit (.bool c5)])],[]=>some (N c0 (aL.mk c1 c2 c3 c4 c5),K c0 (aL.mk c1 c2 c3 c4 c5))
 |_,_=>none
theorem bNZ{N:Bool→aL→SV×List Blk}{K:Bool→aL→Bool}{f:Nat}(h: ∀(a:Bool)(b:aL),K a b=true→dJ R f (cGU a b) (cGV a b)=some (N a b)):cK f (bNY N K):=fun _ _ _ e=>by
 unfold bNY at e;split at e
 ·exact vH e (h _ _)
 ·cases e
def a5Q(a:Bool)(b:aL):Pt (Int):=(.ok true (.ok ((yB b.Write 1)&&((yB a 2)&&true)) (.ok true (.ok true (.leaf (eW (yA b.Write 1) (yA a 2)))))))
def bN0(a:Bool)(b:aL):Int:=hid (a5Q a b).val
def bN1(a:Bool)(b:aL):Bool:=hid (a5Q a b).okv
def b4I(a:Bool)(b:aL)(r:Int):SV×List Blk:=((.one (li r)),[])
def q114:=bNY (fun a b=>b4I a b (bN0 a b)) bN1
theorem cGW:cK 100114 q114:=bNZ fun a b hk=>tz bXK aRZ [(6,sK)] [] true (a5Q a b) (b4I a b) hk
def Q114:=aZ 100114 q114 Q109
theorem aR0:QO Q114:=aF cGW aRZ
def cGX(a:aH)(b:aL)(p0:Bool)(p1:Bool):List SV:=[(.agg [.imm p0 1 a.D, .imm p1 1 a.A,li a.Other,li a.PC,li a.Flags,li a.Mask, .lit (.bool a.Super), .lit (.bool a.Trace)]),(.agg [li b.Vector,li b.PC,li b.Addr,li b.Word, .lit (.bool b.Write)])]
def cGY(a:aH)(b:aL)(p0:Bool)(p1:Bool):List Blk:=[]
def bN2(N:aH→aL→SV×List Blk)(K:aH→aL→Bool):List SV→List Blk→Option ((SV×List Blk)×Bool)
 |[(.agg [.imm p0 1 c0, .imm p1 1 c1,li c2,li c3,li c4,li c5, .lit (.bool c6), .lit (.bool c7)]),(.agg [li c8,li c9,li c10,li c11, .lit (.bool c12)])],[]=>some (N (aH.mk c0 c1 c2 c3 c4 c5 c6 c7) (aL.mk c8 c9 c10 c11 c12),K (aH.mk c0 c1 c2 c3 c4 c5 c6 c7) (aL.mk c8 c9 c10 c11 c12))
 |_,_=>none
theorem bN3{N:aH→aL→SV×List Blk}{K:aH→aL→Bool}{f:Nat}(h: ∀(a:aH)(b:aL)(p0:Bool)(p1:Bool),K a b=true→dJ R f (cGX a b p0 p1) (cGY a b p0 p1)=some (N a b)):cK f (bN2 N K):=fun _ _ _ e=>by
 unfold bN2 at e;split at e
 ·exact vH e (h _ _ _ _)
 ·cases e
def a5R(a:aH)(b:aL):Pt (List Row):=(.ok true (.ok (((bE7 a)&&true)&&true) (.ok ((bNX b.Vector)&&true) (.br (bNW b.Vector) (.ok (((bN1 a.Super b)&&true)&&true) (.ok true (.ok true (.leaf [(bB b.PC),(bB (a5O a)),(bB b.Word),(bB b.Addr),(bB (bN0 a.Super b))])))) (.ok true (.ok true (.leaf [(bB b.PC),(bB (a5O a))])))))))
def aB8(a:aH)(b:aL):List Row:=hid (a5R a b).val
def bN4(a:aH)(b:aL):Bool:=hid (a5R a b).okv
def b4J(a:aH)(b:aL)(r:List Row):SV×List Blk:=((.one (.sl 0 0 (ln r))),[.lst 1 r])
def q105:=bN2 (fun a b=>b4J a b (aB8 a b)) bN4
theorem cGZ:cK 105 q105:=bN3 fun a b p0 p1 hk=>tc bXC aR0 [(7,K0),(8,K6),(12,K0),(16,K0),(18,K0),(20,sK),(21,K13)] [] true (a5R a b) (b4J a b) hk
def Q105:=aZ 105 q105 Q114
theorem aR1:QO Q105:=aF cGZ aR0
def cG0(a:aH)(b:Int):List SV:=[(.agg [.sl 0 0 (ln a.D), .sl 1 0 (ln a.A),li a.Other,li a.PC,li a.Flags,li a.Mask, .lit (.bool a.Super), .lit (.bool a.Trace)]),(.one (li b))]
def cG1(a:aH)(b:Int):List Blk:=[.lst 1 a.D, .lst 1 a.A]
def bN5(N:aH→Int→SV×List Blk)(K:aH→Int→Bool):List SV→List Blk→Option ((SV×List Blk)×Bool)
 |[(.agg [.sl 0 0 l0, .sl 1 0 l1,li c0,li c1,li c2,li c3, .lit (.bool c4), .lit (.bool c5)]),(.one (li c6))],[.lst 1 c_0, .lst 1 c_1]=>some (N (aH.mk c_0 c_1 c0 c1 c2 c3 c4 c5) c6,eC l0 (ln c_0)&&(eC l1 (ln c_1)&&(K (aH.mk c_0 c_1 c0 c1 c2 c3 c4 c5) c6)))
 |_,_=>none
theorem bN6{N:aH→Int→SV×List Blk}{K:aH→Int→Bool}{f:Nat}(h: ∀(a:aH)(b:Int),K a b=true→dJ R f (cG0 a b) (cG1 a b)=some (N a b)):cK f (bN5 N K):=fun args hp r e=>by
 unfold bN5 at e;split at e
 ·rename_i l0 l1 c0 c1 c2 c3 c4 c5 c6 c_0 c_1;obtain⟨hr,hk⟩:=qp (qi e);obtain⟨d0,hk0⟩:=bJ hk;obtain⟨d1,hk1⟩:=bJ hk0;obtain rfl:=of_decide_eq_true d0;obtain rfl:=of_decide_eq_true d1;rw[←hr];exact h (aH.mk c_0 c_1 c0 c1 c2 c3 c4 c5) c6 hk1
 ·simp at e
section
variable(a:aH)
def aLO:Bool:=((e1 (ln a.D))&&((eC (ln a.A) (ln (List.set a.A 3 (bB a.Other))))&&true))
end
def a5S(a:aH)(b:Int):Pt (aH):=(.ok true (.ok true (.ok true (.br (!(vG (dC (bH b 256) 0) a.Super)) (.ok ((ltI 3 (cA a.A))&&((dU [.int .i64] a.A 3 0)&&true)) (.ok ((ltI 3 (cA a.A))&&(((blt 3 (ln a.A))&&(jW (jX a.A 3) 1))&&true)) (.ok true (.ok true (.ok true (.ok true (.ok true (.ok true (.ok (((aLO a)&&((aP a true)&&true))&&((aLO a)&&true)) (.leaf (aH.mk a.D (List.set a.A 3 (bB a.Other)) (bQ a.A 3 0) a.PC (bH b 31) (bH (eZ b 5) 7) (dC (bH b 256) 0) (dC (bH b 512) 0)))))))))))) (.ok true (.ok true (.ok true (.ok true (.ok true (.ok (((aP a true)&&((aP a true)&&true))&&((aP a true)&&true)) (.leaf {a with Flags:=(bH b 31),Mask:=(bH (eZ b 5) 7),Super:=(dC (bH b 256) 0),Trace:=(dC (bH b 512) 0)})))))))))))
def aFN(a:aH)(b:Int):aH:=hid (a5S a b).val
def aW5(a:aH)(b:Int):Bool:=hid (a5S a b).okv
def b4K(a:aH)(b:Int)(r:aH):SV×List Blk:=((.agg [.sl 0 0 (ln r.D), .sl 1 0 (ln r.A),li r.Other,li r.PC,li r.Flags,li r.Mask, .lit (.bool r.Super), .lit (.bool r.Trace)]),[.lst 1 r.D, .lst 1 r.A])
def q167:=bN5 (fun a b=>b4K a b (aFN a b)) aW5
theorem cG2:cK 167 q167:=bN6 fun a b hk=>tc bYH aR1 [(12,sK),(15,K1),(16,K0),(17,K0),(19,K1),(21,K0),(22,K0),(38,K6),(1000001,[])] [] true (a5S a b) (b4K a b) hk
def Q167:=aZ 167 q167 Q105
theorem aR2:QO Q167:=aF cG2 aR1
def cG3(a:aS):List SV:=[(.one (.ptr 0 0 0))]
def cG4(a:aS):List Blk:=[.box [.sl 1 0 (ln a.fr.D), .sl 2 0 (ln a.fr.A),li a.fr.Other,li a.fr.PC,li a.fr.Flags,li a.fr.Mask, .lit (.bool a.fr.Super), .lit (.bool a.fr.Trace), .sl 3 0 (ln a.fbus.Bytes), .sl 4 0 (ln a.fbus.Log), .lit (.bool a.fstop),li a.ffault.Vector,li a.ffault.PC,li a.ffault.Addr,li a.ffault.Word, .lit (.bool a.ffault.Write)], .lst 1 a.fr.D, .lst 1 a.fr.A, .lst 1 a.fbus.Bytes, .lst 5 a.fbus.Log]
def aW6(N:aS→SV×List Blk)(K:aS→Bool):List SV→List Blk→Option ((SV×List Blk)×Bool)
 |[(.one (.ptr 0 0 0))],[.box [.sl 1 0 l1, .sl 2 0 l2,li c0,li c1,li c2,li c3, .lit (.bool c4), .lit (.bool c5), .sl 3 0 l3, .sl 4 0 l4, .lit (.bool c6),li c7,li c8,li c9,li c10, .lit (.bool c11)], .lst 1 c_1, .lst 1 c_2, .lst 1 c_3, .lst 5 c_4]=>some (N (aS.mk (aH.mk c_1 c_2 c0 c1 c2 c3 c4 c5) (bM.mk c_3 c_4) c6 (aL.mk c7 c8 c9 c10 c11)),eC l1 (ln c_1)&&(eC l2 (ln c_2)&&(eC l3 (ln c_3)&&(eC l4 (ln c_4)&&(K (aS.mk (aH.mk c_1 c_2 c0 c1 c2 c3 c4 c5) (bM.mk c_3 c_4) c6 (aL.mk c7 c8 c9 c10 c11)))))))
 |_,_=>none
theorem aB9{N:aS→SV×List Blk}{K:aS→Bool}{f:Nat}(h: ∀(a:aS),K a=true→dJ R f (cG3 a) (cG4 a)=some (N a)):cK f (aW6 N K):=fun args hp r e=>by
 unfold aW6 at e;split at e
 ·rename_i l1 l2 c0 c1 c2 c3 c4 c5 l3 l4 c6 c7 c8 c9 c10 c11 c_1 c_2 c_3 c_4;obtain⟨hr,hk⟩:=qp (qi e);obtain⟨d0,hk0⟩:=bJ hk;obtain⟨d1,hk1⟩:=bJ hk0;obtain⟨d2,hk2⟩:=bJ hk1;obtain⟨d3,hk3⟩:=bJ hk2;obtain rfl:=of_decide_eq_true d0;obtain rfl:=of_decide_eq_true d1;obtain rfl:=of_decide_eq_true d2;obtain rfl:=of_decide_eq_true d3;rw[←hr];exact h (aS.mk (aH.mk c_1 c_2 c0 c1 c2 c3 c4 c5) (bM.mk c_3 c_4) c6 (aL.mk c7 c8 c9 c10 c11)) hk3
 ·simp at e
def T81(a:aS):Pt (Bool):=(.ok true (.ok true (.ok (((bU a true)&&(bU a true))&&true) (.leaf (eqI a.ffault.Vector 0)))))
def J0(a:aS):Bool:=hid (T81 a).val
def OU(a:aS):Bool:=hid (T81 a).okv
def n81(a:aS)(r:Bool):SV×List Blk:=((.one (.lit (.bool r))),[.box [.sl 1 0 (ln a.fr.D), .sl 2 0 (ln a.fr.A),li a.fr.Other,li a.fr.PC,li a.fr.Flags,li a.fr.Mask, .lit (.bool a.fr.Super), .lit (.bool a.fr.Trace), .sl 3 0 (ln a.fbus.Bytes), .sl 4 0 (ln a.fbus.Log), .lit (.bool a.fstop),li a.ffault.Vector,li a.ffault.PC,li a.ffault.Addr,li a.ffault.Word, .lit (.bool a.ffault.Write)], .lst 1 a.fr.D, .lst 1 a.fr.A, .lst 1 a.fbus.Bytes, .lst 5 a.fbus.Log])
def q81:=aW6 (fun a=>n81 a (J0 a)) OU
theorem t81:cK 81 q81:=aB9 fun a hk=>tc b90 aR2 [(7,K0)] [] true (T81 a) (n81 a) hk
def Q81:=aZ 81 q81 Q167
theorem a5T:QO Q81:=aF t81 aR2
def a5U(a:Int):Pt (Int):=(.ok true (.ok true (.ok (((w8 a 448 495)&&true)||(geI a 512)) (.br (bif (geI a 512)then(geI a 512)else(vA a 448 495)) (.ok true (.ok true (.ok true (.leaf 1)))) (.ok ((w8 a 384 447)&&true) (.br (vA a 384 447) (.ok true (.ok true (.ok true (.leaf 3)))) (.ok true (.ok true (.ok true (.leaf 0))))))))))
def aLP(a:Int):Int:=hid (a5U a).val
def aW7(a:Int):Bool:=hid (a5U a).okv
def q231:=BP (fun a=>xB a (aLP a)) aW7
theorem cG5:cK 100231 q231:=gS fun a hk=>tz bZ2 a5T [] [] true (a5U a) (xB a) hk
def Q231:=aZ 100231 q231 Q81
theorem aR3:QO Q231:=aF cG5 a5T
section
variable(b:Int)(c:Int)
def aLQ:Int:=(aLP (cN (bE c b) 1))
end
def a5V(a:Int)(b:Int)(c:Int):Pt (Int):=(.ok true (.ok true (.ok true (.br (bif (eqI b 2)then(eqI (bH c 1) 1)else false) (.ok true (.ok true (.ok true (.leaf 2)))) (.ok ((aW7 c)&&((((aW7 (cN (bE c b) 1))&&true)||(eqI (aLP c) 1))&&true)) (.br (bif (eqI (aLP c) 1)then true else(eqI (aLQ b c) 1)) (.ok true (.ok true (.ok true (.leaf 1)))) (.ok ((((aW7 c)&&((((aW7 (cN (bE c b) 1))&&true)||(eqI (aLP c) 3))&&true))||(!(eqI a 2)))&&true) (.br (bif (eqI a 2)then(bif (eqI (aLP c) 3)then true else(eqI (aLQ b c) 3))else false) (.ok true (.ok true (.ok true (.leaf 3)))) (.ok true (.ok true (.ok true (.leaf 0))))))))))))
def aCA(a:Int)(b:Int)(c:Int):Int:=hid (a5V a b c).val
def bN7(a:Int)(b:Int)(c:Int):Bool:=hid (a5V a b c).okv
def q181:=DS5 (fun a b c=>aFI a b c (aCA a b c)) bN7
theorem cG6:cK 100181 q181:=CN fun a b c hk=>tz bYU aR3 [] [] true (a5V a b c) (aFI a b c) hk
def Q181:=aZ 100181 q181 Q231
theorem aCB:QO Q181:=aF cG6 aR3
structure V209_0 where
 mk::
 (b0:bM)
 (s1:Int)
 (s2:Int)
 (s3:Int)
 (s4:Int)
 (s12:Int)
 (s13:Int)
 (s14:Int)
section
variable(v:V209_0)
def sB:Int:=(xU .u64 (dH 8 (cN (cN v.s2 1) v.s14)))
def sC:Bool:=((leI 0 (bE v.s3 v.s14))&&(ltI (bE v.s3 v.s14) (cA v.b0.Bytes)))
def sD:List Row:=(List.set v.b0.Bytes (0+(iN (bE v.s3 v.s14))) (bB (bH (eZ v.s4 (sB v)) 255)))
def sE:Bool:=((eC (ln v.b0.Bytes) (ln (sD v)))&&((e1 (ln v.b0.Log))&&true))
end
def sF(v:V209_0):Pt (Option V209_0):=(.ok true (.br (ltI v.s14 v.s2) (.ok true (.br (eqI v.s1 2) (.ok ((leI 0 (sB v))&&((sC v)&&(((blt (0+(iN (bE v.s3 v.s14))) (ln v.b0.Bytes))&&(jW (jX v.b0.Bytes (0+(iN (bE v.s3 v.s14)))) 1))&&true))) (.ok true (.ok ((((bS v.b0 true)&&(sE v))&&true)&&((sE v)&&true)) (.leaf (some {v with b0:={v.b0 with Bytes:=(sD v)},s14:=(bE v.s14 1)}))))) (.ok ((sC v)&&((dU [.int .i64] v.b0.Bytes (0+(iN (bE v.s3 v.s14))) 0)&&true)) (.ok true (.ok (dd (bS v.b0 true) ((bS v.b0 true)&&true)) (.leaf (some {v with s13:=(eW (m7 v.s13 8) (bQ v.b0.Bytes (0+(iN (bE v.s3 v.s14))) 0)),s14:=(bE v.s14 1)}))))))) (.leaf none)))
def TN(v:V209_0):St:=⟨[(0,(.one (.ptr 0 0 0))),(1,(.one (li v.s1))),(2,(.one (li v.s2))),(3,(.one (li v.s3))),(4,(.one (li v.s4))),(12,(.one (li v.s12))),(13,(.one (li v.s13))),(14,(.one (li v.s14)))],[.box [.sl 1 0 (ln v.b0.Bytes), .sl 2 0 (ln v.b0.Log)], .lst 1 v.b0.Bytes, .lst 5 v.b0.Log]⟩
def aCC:St→Option (V209_0×Bool)
 |⟨[(0,(.one (.ptr 0 0 0))),(1,(.one (li c0))),(2,(.one (li c1))),(3,(.one (li c2))),(4,(.one (li c3))),(12,(.one (li c4))),(13,(.one (li c5))),(14,(.one (li c6)))],[.box [.sl 1 0 l1, .sl 2 0 l2], .lst 1 c_1, .lst 5 c_2]⟩=>some ((V209_0.mk (bM.mk c_1 c_2) c0 c1 c2 c3 c4 c5 c6),eC l1 (ln c_1)&&(eC l2 (ln c_2)&&(true)))
 |_=>none
def aCD:St→Option (Pt Out):=x9 Q181 [(34,K1),(47,K0),(53,K1),(57,K0),(58,K0),(63,K11),(78,K11),(1000003,[])] [] true [] 1 2097152 aHY
theorem bE8(v:V209_0):((aCD (TN v)).bind (sY true true 1 [0,1,2,3,4,12,13,14]))=some ((sF v).map (Option.map TN)):=by kernel_rfl
theorem bE9(σ:St)(v:V209_0)(h:aCC σ=some (v,true)):σ=TN v:=by
 unfold aCC at h;split at h
 ·obtain⟨hr,hk⟩:=qp (qi h);obtain⟨d0,hk0⟩:=bJ hk;obtain⟨d1,hk1⟩:=bJ hk0;obtain rfl:=of_decide_eq_true d0;obtain rfl:=of_decide_eq_true d1;rw[←hr];rfl
 ·simp at h
theorem bFA:dB (vF true true 1 [0,1,2,3,4,12,13,14] aCD aCC TN sF 2097152) (fY R 1 2097152 (.loop [0,1,2,3,4,12,13,14] aHY)):=eM (dD aCB (cQ (l:=[]) (by kernel_rfl) trivial)) bE9 bE8
def bFB:Lp:=(24,vF true true 1 [0,1,2,3,4,12,13,14] aCD aCC TN sF 2097152)::[]
def aLR(v:V209_0):V209_0:=(hid (eG sF 2097152 v)).getD v
def aLS(v:V209_0):Bool:=(hid (eG sF 2097152 v)).isSome
section
variable(b:Int)(c:Int)(d:Int)(o:Int)(a:bM)
def jM:V209_0:=(aLR (V209_0.mk a b c d o (aCA b c d) (bif (dC b 2)then 0 else o) 0))
def yN:Nat:=(ln (jM b c d o a).b0.Log)
def aCE:Nat:=(ln (jM b c d o a).b0.Bytes)
def TO:List Row:=((jM b c d o a).b0.Log++[(aE.row (aE.mk (jM b c d o a).s1 (jM b c d o a).s2 (jM b c d o a).s3 (jM b c d o a).s13 (jM b c d o a).s12))])
def TP:Bool:=((e1 (aCE b c d o a))&&((e1 (ln (TO b c d o a)))&&true))
def TQ:List Row:=(a.Log++[(aE.row (aE.mk b c d (bif (dC b 2)then 0 else o) (aCA b c d)))])
def TR:Bool:=((e1 (ln a.Bytes))&&((e1 (ln (TQ b c d o a)))&&true))
end
def aLT(b:Int)(c:Int)(d:Int)(o:Int)(a:bM):Pt (bM×Int×Int):=(.ok true (.ok ((bN7 b c d)&&true) (.ok true (.ok true (.ok true (.ok true (.br (eqI (aCA b c d) 0) (.ok true (.ok (dd (bS a true) ((bS a true)&&true)) (.ok (bS a true) (.ok (aLS (V209_0.mk a b c d o (aCA b c d) (bif (dC b 2)then 0 else o) 0)) (.ok ((qQ (0+(yN b c d o a)) (yN b c d o a))&&true) (.br (bif (ltI (cA (jM b c d o a).b0.Log) 400)then(bif (dC (jM b c d o a).s1 3)then true else(dC (jM b c d o a).s12 0))else false) (.ok (((e1 (yN b c d o a))&&((eC (0+(yN b c d o a)) (yN b c d o a))&&((qQ (vX ((yN b c d o a)+1) 40) 140737488355328)&&(qQ ((yN b c d o a)+1) 140737488355328))))&&true) (.ok true (.ok (((TP b c d o a)&&(TP b c d o a))&&true) (.leaf ({(jM b c d o a).b0 with Log:=(TO b c d o a)},(jM b c d o a).s13,(jM b c d o a).s12))))) (.ok true (.ok (((bS (jM b c d o a).b0 true)&&(bS (jM b c d o a).b0 true))&&true) (.leaf ((jM b c d o a).b0,(jM b c d o a).s13,(jM b c d o a).s12)))))))))) (.ok ((qQ (0+(ln a.Log)) (ln a.Log))&&true) (.br (bif (ltI (cA a.Log) 400)then(bif (dC b 3)then true else(dC (aCA b c d) 0))else false) (.ok (((e1 (ln a.Log))&&((eC (0+(ln a.Log)) (ln a.Log))&&((qQ (vX ((ln a.Log)+1) 40) 140737488355328)&&(qQ ((ln a.Log)+1) 140737488355328))))&&true) (.ok true (.ok (((TR b c d o a)&&(TR b c d o a))&&true) (.leaf ({a with Log:=(TQ b c d o a)},(bif (dC b 2)then 0 else o),(aCA b c d)))))) (.ok true (.ok (((bS a true)&&(bS a true))&&true) (.leaf (a,(bif (dC b 2)then 0 else o),(aCA b c d))))))))))))))
def bFC(b:Int)(c:Int)(d:Int)(o:Int)(a:bM):bM×Int×Int:=hid (aLT b c d o a).val
def bFD(b:Int)(c:Int)(d:Int)(o:Int)(a:bM):Bool:=hid (aLT b c d o a).okv
def q209:=bDM (fun b c d o a=>bDN b c d o a (bFC b c d o a)) bFD
theorem b4M:fM (fun live x=>dB (oV bFB (m6 x)) (fY R 1 2097152 (.loop live x))) F209.body:=(cQ (l:=[([0,1,2,3,4,12,13,14],aHY)]) (by kernel_rfl) ⟨fN (n:=24) (by kernel_rfl) fun σ σr t h ho hl=>bFA σ σr t h ho hl,trivial⟩)
theorem cG7:cK 209 q209:=a2P fun b c d o a hk=>tcl bZI aCB b4M [(34,K1),(47,K0),(53,K1),(57,K0),(58,K0),(63,K11),(78,K11),(1000003,[])] [] true (aLT b c d o a) (bDN b c d o a) hk
def Q209:=aZ 209 q209 Q181
theorem aR4:QO Q209:=aF cG7 aCB
def cG8(b:Int)(c:Int)(d:Int)(o:Int)(a:aS):List SV:=[(.one (.ptr 0 0 0)),(.one (li b)),(.one (li c)),(.one (li d)),(.one (li o))]
def cG9(b:Int)(c:Int)(d:Int)(o:Int)(a:aS):List Blk:=[.box [.sl 1 0 (ln a.fr.D), .sl 2 0 (ln a.fr.A),li a.fr.Other,li a.fr.PC,li a.fr.Flags,li a.fr.Mask, .lit (.bool a.fr.Super), .lit (.bool a.fr.Trace), .sl 3 0 (ln a.fbus.Bytes), .sl 4 0 (ln a.fbus.Log), .lit (.bool a.fstop),li a.ffault.Vector,li a.ffault.PC,li a.ffault.Addr,li a.ffault.Word, .lit (.bool a.ffault.Write)], .lst 1 a.fr.D, .lst 1 a.fr.A, .lst 1 a.fbus.Bytes, .lst 5 a.fbus.Log]
def bN8(N:Int→Int→Int→Int→aS→SV×List Blk)(K:Int→Int→Int→Int→aS→Bool):List SV→List Blk→Option ((SV×List Blk)×Bool)
 |[(.one (.ptr 0 0 0)),(.one (li c0)),(.one (li c1)),(.one (li c2)),(.one (li c3))],[.box [.sl 1 0 l1, .sl 2 0 l2,li c4,li c5,li c6,li c7, .lit (.bool c8), .lit (.bool c9), .sl 3 0 l3, .sl 4 0 l4, .lit (.bool c10),li c11,li c12,li c13,li c14, .lit (.bool c15)], .lst 1 c_1, .lst 1 c_2, .lst 1 c_3, .lst 5 c_4]=>some (N c0 c1 c2 c3 (aS.mk (aH.mk c_1 c_2 c4 c5 c6 c7 c8 c9) (bM.mk c_3 c_4) c10 (aL.mk c11 c12 c13 c14 c15)),eC l1 (ln c_1)&&(eC l2 (ln c_2)&&(eC l3 (ln c_3)&&(eC l4 (ln c_4)&&(K c0 c1 c2 c3 (aS.mk (aH.mk c_1 c_2 c4 c5 c6 c7 c8 c9) (bM.mk c_3 c_4) c10 (aL.mk c11 c12 c13 c14 c15)))))))
 |_,_=>none
theorem bN9{N:Int→Int→Int→Int→aS→SV×List Blk}{K:Int→Int→Int→Int→aS→Bool}{f:Nat}(h: ∀(b:Int)(c:Int)(d:Int)(o:Int)(a:aS),K b c d o a=true→dJ R f (cG8 b c d o a) (cG9 b c d o a)=some (N b c d o a)):cK f (bN8 N K):=fun args hp r e=>by
 unfold bN8 at e;split at e
 ·rename_i c0 c1 c2 c3 l1 l2 c4 c5 c6 c7 c8 c9 l3 l4 c10 c11 c12 c13 c14 c15 c_1 c_2 c_3 c_4;obtain⟨hr,hk⟩:=qp (qi e);obtain⟨d0,hk0⟩:=bJ hk;obtain⟨d1,hk1⟩:=bJ hk0;obtain⟨d2,hk2⟩:=bJ hk1;obtain⟨d3,hk3⟩:=bJ hk2;obtain rfl:=of_decide_eq_true d0;obtain rfl:=of_decide_eq_true d1;obtain rfl:=of_decide_eq_true d2;obtain rfl:=of_decide_eq_true d3;rw[←hr];exact h c0 c1 c2 c3 (aS.mk (aH.mk c_1 c_2 c4 c5 c6 c7 c8 c9) (bM.mk c_3 c_4) c10 (aL.mk c11 c12 c13 c14 c15)) hk3
 ·simp at e
section
variable(b:Int)(c:Int)(d:Int)(o:Int)(a:aS)
def yO:bM×Int×Int:=(bFC b c d o a.fbus)
def aLU:Bool:=(aP a.fr (bS (yO b c d o a).1 true))
def aCF:Bool:=(((aLU b c d o a)&&(aLU b c d o a))&&true)
end
def a5W(b:Int)(c:Int)(d:Int)(o:Int)(a:aS):Pt (aS×Int):=(.ok true (.ok ((rS a.fbus (bFD b c d o a.fbus))&&true) (.ok true (.br (bif (dC (yO b c d o a).2.2 0)then(eqI a.ffault.Vector 0)else false) (.ok true (.ok true (.br (eqI (yO b c d o a).2.2 2) (.ok true (.ok true (.ok true (.ok true (.ok (aCF b c d o a) (.leaf ({a with fbus:=(yO b c d o a).1,ffault:=(aL.mk 3 a.ffault.PC d a.ffault.Word (eqI b 2))},(yO b c d o a).2.1))))))) (.ok true (.ok true (.ok true (.ok (aCF b c d o a) (.leaf ({a with fbus:=(yO b c d o a).1,ffault:=(aL.mk 2 a.ffault.PC d a.ffault.Word (eqI b 2))},(yO b c d o a).2.1))))))))) (.ok true (.ok (aCF b c d o a) (.leaf ({a with fbus:=(yO b c d o a).1},(yO b c d o a).2.1))))))))
def wI(b:Int)(c:Int)(d:Int)(o:Int)(a:aS):aS×Int:=hid (a5W b c d o a).val
def aCG(b:Int)(c:Int)(d:Int)(o:Int)(a:aS):Bool:=hid (a5W b c d o a).okv
def b4N(b:Int)(c:Int)(d:Int)(o:Int)(a:aS)(r:aS×Int):SV×List Blk:=((.one (li r.2)),[.box [.sl 1 0 (ln r.1.fr.D), .sl 2 0 (ln r.1.fr.A),li r.1.fr.Other,li r.1.fr.PC,li r.1.fr.Flags,li r.1.fr.Mask, .lit (.bool r.1.fr.Super), .lit (.bool r.1.fr.Trace), .sl 3 0 (ln r.1.fbus.Bytes), .sl 4 0 (ln r.1.fbus.Log), .lit (.bool r.1.fstop),li r.1.ffault.Vector,li r.1.ffault.PC,li r.1.ffault.Addr,li r.1.ffault.Word, .lit (.bool r.1.ffault.Write)], .lst 1 r.1.fr.D, .lst 1 r.1.fr.A, .lst 1 r.1.fbus.Bytes, .lst 5 r.1.fbus.Log])
def q156:=bN8 (fun b c d o a=>b4N b c d o a (wI b c d o a)) aCG
theorem cHA:cK 156 q156:=bN9 fun b c d o a hk=>tc bX9 aR4 [(31,K0)] [] true (a5W b c d o a) (b4N b c d o a) hk
def Q156:=aZ 156 q156 Q209
theorem aR5:QO Q156:=aF cHA aR4
def cHB(b:Int)(a:aS):List SV:=[(.one (.ptr 0 0 0)),(.one (li b))]
def cHC(b:Int)(a:aS):List Blk:=[.box [.sl 1 0 (ln a.fr.D), .sl 2 0 (ln a.fr.A),li a.fr.Other,li a.fr.PC,li a.fr.Flags,li a.fr.Mask, .lit (.bool a.fr.Super), .lit (.bool a.fr.Trace), .sl 3 0 (ln a.fbus.Bytes), .sl 4 0 (ln a.fbus.Log), .lit (.bool a.fstop),li a.ffault.Vector,li a.ffault.PC,li a.ffault.Addr,li a.ffault.Word, .lit (.bool a.ffault.Write)], .lst 1 a.fr.D, .lst 1 a.fr.A, .lst 1 a.fbus.Bytes, .lst 5 a.fbus.Log]
def bFE(N:Int→aS→SV×List Blk)(K:Int→aS→Bool):List SV→List Blk→Option ((SV×List Blk)×Bool)
 |[(.one (.ptr 0 0 0)),(.one (li c0))],[.box [.sl 1 0 l1, .sl 2 0 l2,li c1,li c2,li c3,li c4, .lit (.bool c5), .lit (.bool c6), .sl 3 0 l3, .sl 4 0 l4, .lit (.bool c7),li c8,li c9,li c10,li c11, .lit (.bool c12)], .lst 1 c_1, .lst 1 c_2, .lst 1 c_3, .lst 5 c_4]=>some (N c0 (aS.mk (aH.mk c_1 c_2 c1 c2 c3 c4 c5 c6) (bM.mk c_3 c_4) c7 (aL.mk c8 c9 c10 c11 c12)),eC l1 (ln c_1)&&(eC l2 (ln c_2)&&(eC l3 (ln c_3)&&(eC l4 (ln c_4)&&(K c0 (aS.mk (aH.mk c_1 c_2 c1 c2 c3 c4 c5 c6) (bM.mk c_3 c_4) c7 (aL.mk c8 c9 c10 c11 c12)))))))
 |_,_=>none
theorem a5X{N:Int→aS→SV×List Blk}{K:Int→aS→Bool}{f:Nat}(h: ∀(b:Int)(a:aS),K b a=true→dJ R f (cHB b a) (cHC b a)=some (N b a)):cK f (bFE N K):=fun args hp r e=>by
 unfold bFE at e;split at e
 ·rename_i c0 l1 l2 c1 c2 c3 c4 c5 c6 l3 l4 c7 c8 c9 c10 c11 c12 c_1 c_2 c_3 c_4;obtain⟨hr,hk⟩:=qp (qi e);obtain⟨d0,hk0⟩:=bJ hk;obtain⟨d1,hk1⟩:=bJ hk0;obtain⟨d2,hk2⟩:=bJ hk1;obtain⟨d3,hk3⟩:=bJ hk2;obtain rfl:=of_decide_eq_true d0;obtain rfl:=of_decide_eq_true d1;obtain rfl:=of_decide_eq_true d2;obtain rfl:=of_decide_eq_true d3;rw[←hr];exact h c0 (aS.mk (aH.mk c_1 c_2 c1 c2 c3 c4 c5 c6) (bM.mk c_3 c_4) c7 (aL.mk c8 c9 c10 c11 c12)) hk3
 ·simp at e
section
variable(b:Int)(a:aS)
def uT:Int:=(bH (cN (bQ a.fr.A 3 0) 2) 65535)
def a5Y:Nat:=(ln (wI 2 2 (uT a) b a).1.fr.A)
def aR6:Bool:=(bU (wI 2 2 (uT a) b a).1 true)
def bIC:Nat:=(ln (wI 2 2 (uT a) b a).1.fr.D)
def a5Z:List Row:=(List.set (wI 2 2 (uT a) b a).1.fr.A 3 (bB (uT a)))
def a50:Bool:=((e1 (bIC b a))&&((eC (a5Y b a) (ln (a5Z b a)))&&(bS (wI 2 2 (uT a) b a).1.fbus true)))
end
def T79(b:Int)(a:aS):Pt (aS):=(.ok ((ltI 3 (cA a.fr.A))&&((dU [.int .i64] a.fr.A 3 0)&&true)) (.ok ((cE a (aCG 2 2 (uT a) b a))&&true) (.ok ((cE (wI 2 2 (uT a) b a).1 (OU (wI 2 2 (uT a) b a).1))&&true) (.br (J0 (wI 2 2 (uT a) b a).1) (.ok ((ltI 3 (cA (wI 2 2 (uT a) b a).1.fr.A))&&(((blt 3 (a5Y b a))&&(jW (jX (wI 2 2 (uT a) b a).1.fr.A 3) 1))&&true)) (.ok ((((aR6 b a)&&(a50 b a))&&true)&&((a50 b a)&&true)) (.leaf {(wI 2 2 (uT a) b a).1 with fr:={(wI 2 2 (uT a) b a).1.fr with A:=(a5Z b a)}}))) (.ok (dd (aR6 b a) ((aR6 b a)&&true)) (.leaf (wI 2 2 (uT a) b a).1))))))
def g79(b:Int)(a:aS):aS:=hid (T79 b a).val
def k79(b:Int)(a:aS):Bool:=hid (T79 b a).okv
def n79(b:Int)(a:aS)(r:aS):SV×List Blk:=((.tup []),[.box [.sl 1 0 (ln r.fr.D), .sl 2 0 (ln r.fr.A),li r.fr.Other,li r.fr.PC,li r.fr.Flags,li r.fr.Mask, .lit (.bool r.fr.Super), .lit (.bool r.fr.Trace), .sl 3 0 (ln r.fbus.Bytes), .sl 4 0 (ln r.fbus.Log), .lit (.bool r.fstop),li r.ffault.Vector,li r.ffault.PC,li r.ffault.Addr,li r.ffault.Word, .lit (.bool r.ffault.Write)], .lst 1 r.fr.D, .lst 1 r.fr.A, .lst 1 r.fbus.Bytes, .lst 5 r.fbus.Log])
def q79:=bFE (fun b a=>n79 b a (g79 b a)) k79
theorem t79:cK 79 q79:=a5X fun b a hk=>tc b9Y aR5 [(9,K1),(10,K0),(11,K0),(24,K1),(26,K0),(1000001,[])] [] true (T79 b a) (n79 b a) hk
def Q79:=aZ 79 q79 Q156
theorem aLV:QO Q79:=aF t79 aR5
section
variable(a:aS)
def aR7:aI:=(TM (aI.mk a.fr a.fbus a.fstop false))
end
def T80(a:aS):Pt (aI):=(.ok true (.ok (((((bU a true)&&true)&&(a5I (aI.mk a.fr a.fbus a.fstop false)))&&true)&&true) (.ok (((bU a true)&&(bU a (aO (aR7 a) true)))&&((aO (aR7 a) true)&&true)) (.leaf (aR7 a)))))
def FP(a:aS):aI:=hid (T80 a).val
def k80(a:aS):Bool:=hid (T80 a).okv
def n80(a:aS)(r:aI):SV×List Blk:=((.agg [.sl 5 0 (ln r.R.D), .sl 6 0 (ln r.R.A),li r.R.Other,li r.R.PC,li r.R.Flags,li r.R.Mask, .lit (.bool r.R.Super), .lit (.bool r.R.Trace), .sl 7 0 (ln r.Bus.Bytes), .sl 8 0 (ln r.Bus.Log), .lit (.bool r.Stop), .lit (.bool r.Halt)]),[.box [.sl 1 0 (ln a.fr.D), .sl 2 0 (ln a.fr.A),li a.fr.Other,li a.fr.PC,li a.fr.Flags,li a.fr.Mask, .lit (.bool a.fr.Super), .lit (.bool a.fr.Trace), .sl 3 0 (ln a.fbus.Bytes), .sl 4 0 (ln a.fbus.Log), .lit (.bool a.fstop),li a.ffault.Vector,li a.ffault.PC,li a.ffault.Addr,li a.ffault.Word, .lit (.bool a.ffault.Write)], .lst 1 a.fr.D, .lst 1 a.fr.A, .lst 1 a.fbus.Bytes, .lst 5 a.fbus.Log, .lst 1 r.R.D, .lst 1 r.R.A, .lst 1 r.Bus.Bytes, .lst 5 r.Bus.Log])
def q80:=aW6 (fun a=>n80 a (FP a)) k80
theorem t80:cK 80 q80:=aB9 fun a hk=>tc b9Z aLV [(6,K6),(10,K7),(14,sK)] [] true (T80 a) (n80 a) hk
def Q80:=aZ 80 q80 Q79
theorem a51:QO Q80:=aF t80 aLV
def cHD(a:aI)(b:aL)(c:Int)(p0:Bool)(p1:Bool)(p2:Bool)(p3:Bool):List SV:=[(.agg [.imm p0 1 a.R.D, .imm p1 1 a.R.A,li a.R.Other,li a.R.PC,li a.R.Flags,li a.R.Mask, .lit (.bool a.R.Super), .lit (.bool a.R.Trace), .imm p2 1 a.Bus.Bytes, .imm p3 5 a.Bus.Log, .lit (.bool a.Stop), .lit (.bool a.Halt)]),(.agg [li b.Vector,li b.PC,li b.Addr,li b.Word, .lit (.bool b.Write)]),(.one (li c))]
def cHE(a:aI)(b:aL)(c:Int)(p0:Bool)(p1:Bool)(p2:Bool)(p3:Bool):List Blk:=[]
def bOA(N:aI→aL→Int→SV×List Blk)(K:aI→aL→Int→Bool):List SV→List Blk→Option ((SV×List Blk)×Bool)
 |[(.agg [.imm p0 1 c0, .imm p1 1 c1,li c2,li c3,li c4,li c5, .lit (.bool c6), .lit (.bool c7), .imm p2 1 c8, .imm p3 5 c9, .lit (.bool c10), .lit (.bool c11)]),(.agg [li c12,li c13,li c14,li c15, .lit (.bool c16)]),(.one (li c17))],[]=>some (N (aI.mk (aH.mk c0 c1 c2 c3 c4 c5 c6 c7) (bM.mk c8 c9) c10 c11) (aL.mk c12 c13 c14 c15 c16) c17,K (aI.mk (aH.mk c0 c1 c2 c3 c4 c5 c6 c7) (bM.mk c8 c9) c10 c11) (aL.mk c12 c13 c14 c15 c16) c17)
 |_,_=>none
theorem bOB{N:aI→aL→Int→SV×List Blk}{K:aI→aL→Int→Bool}{f:Nat}(h: ∀(a:aI)(b:aL)(c:Int)(p0:Bool)(p1:Bool)(p2:Bool)(p3:Bool),K a b c=true→dJ R f (cHD a b c p0 p1 p2 p3) (cHE a b c p0 p1 p2 p3)=some (N a b c)):cK f (bOA N K):=fun _ _ _ e=>by
 unfold bOA at e;split at e
 ·exact vH e (h _ _ _ _ _ _ _)
 ·cases e
structure V103_0 where
 mk::
 (b0:aL)
 (b1:aI)
 (b2:aS)
 (s38:List Row)
 (s39:Int)
 (s40:Int)
section
variable(v:V103_0)
def A8:aS:=(g79 (bQ v.s38 (0+(iN v.s40)) 0) v.b2)
end
def DF(v:V103_0):Pt (Option V103_0):=(.ok true (.br (ltI v.s40 v.s39) (.ok (((leI 0 v.s40)&&(ltI v.s40 (cA v.s38)))&&((dU [.int .i64] v.s38 (0+(iN v.s40)) 0)&&true)) (.ok ((cE v.b2 (OU v.b2))&&true) (.br (J0 v.b2) (.ok ((cE v.b2 (k79 (bQ v.s38 (0+(iN v.s40)) 0) v.b2))&&true) (.ok true (.ok (((aO v.b1 true)&&((bU (A8 v) true)&&(aO v.b1 (bU (A8 v) ((e1 (ln v.s38))&&true)))))&&((e1 (ln v.s38))&&true)) (.leaf (some {v with b2:=(A8 v),s40:=(bE v.s40 1)}))))) (.ok true (.ok (((aO v.b1 true)&&((bU v.b2 true)&&(aO v.b1 (bU v.b2 ((e1 (ln v.s38))&&true)))))&&((e1 (ln v.s38))&&true)) (.leaf (some {v with s40:=(bE v.s40 1)}))))))) (.leaf none)))
def TS(v:V103_0):St:=⟨[(4,(.one (.ptr 0 0 0))),(6,(.one (.ptr 1 0 0))),(7,(.one (.ptr 2 0 0))),(38,(.one (.sl 11 0 (ln v.s38)))),(39,(.one (li v.s39))),(40,(.one (li v.s40)))],[.box [li v.b0.Vector,li v.b0.PC,li v.b0.Addr,li v.b0.Word, .lit (.bool v.b0.Write)], .box [.sl 3 0 (ln v.b1.R.D), .sl 4 0 (ln v.b1.R.A),li v.b1.R.Other,li v.b1.R.PC,li v.b1.R.Flags,li v.b1.R.Mask, .lit (.bool v.b1.R.Super), .lit (.bool v.b1.R.Trace), .sl 5 0 (ln v.b1.Bus.Bytes), .sl 6 0 (ln v.b1.Bus.Log), .lit (.bool v.b1.Stop), .lit (.bool v.b1.Halt)], .box [.sl 7 0 (ln v.b2.fr.D), .sl 8 0 (ln v.b2.fr.A),li v.b2.fr.Other,li v.b2.fr.PC,li v.b2.fr.Flags,li v.b2.fr.Mask, .lit (.bool v.b2.fr.Super), .lit (.bool v.b2.fr.Trace), .sl 9 0 (ln v.b2.fbus.Bytes), .sl 10 0 (ln v.b2.fbus.Log), .lit (.bool v.b2.fstop),li v.b2.ffault.Vector,li v.b2.ffault.PC,li v.b2.ffault.Addr,li v.b2.ffault.Word, .lit (.bool v.b2.ffault.Write)], .lst 1 v.b1.R.D, .lst 1 v.b1.R.A, .lst 1 v.b1.Bus.Bytes, .lst 5 v.b1.Bus.Log, .lst 1 v.b2.fr.D, .lst 1 v.b2.fr.A, .lst 1 v.b2.fbus.Bytes, .lst 5 v.b2.fbus.Log, .lst 1 v.s38]⟩
def aCH:St→Option (V103_0×Bool)
 |⟨[(4,(.one (.ptr 0 0 0))),(6,(.one (.ptr 1 0 0))),(7,(.one (.ptr 2 0 0))),(38,(.one (.sl 11 0 l11))),(39,(.one (li c25))),(40,(.one (li c26)))],[.box [li c0,li c1,li c2,li c3, .lit (.bool c4)], .box [.sl 3 0 l3, .sl 4 0 l4,li c5,li c6,li c7,li c8, .lit (.bool c9), .lit (.bool c10), .sl 5 0 l5, .sl 6 0 l6, .lit (.bool c11), .lit (.bool c12)], .box [.sl 7 0 l7, .sl 8 0 l8,li c13,li c14,li c15,li c16, .lit (.bool c17), .lit (.bool c18), .sl 9 0 l9, .sl 10 0 l10, .lit (.bool c19),li c20,li c21,li c22,li c23, .lit (.bool c24)], .lst 1 c_3, .lst 1 c_4, .lst 1 c_5, .lst 5 c_6, .lst 1 c_7, .lst 1 c_8, .lst 1 c_9, .lst 5 c_10, .lst 1 c_11]⟩=>some ((V103_0.mk (aL.mk c0 c1 c2 c3 c4) (aI.mk (aH.mk c_3 c_4 c5 c6 c7 c8 c9 c10) (bM.mk c_5 c_6) c11 c12) (aS.mk (aH.mk c_7 c_8 c13 c14 c15 c16 c17 c18) (bM.mk c_9 c_10) c19 (aL.mk c20 c21 c22 c23 c24)) c_11 c25 c26),eC l3 (ln c_3)&&(eC l4 (ln c_4)&&(eC l5 (ln c_5)&&(eC l6 (ln c_6)&&(eC l7 (ln c_7)&&(eC l8 (ln c_8)&&(eC l9 (ln c_9)&&(eC l10 (ln c_10)&&(eC l11 (ln c_11)&&(true))))))))))
 |_=>none
def aCI:St→Option (Pt Out):=x9 Q79 [(13,K8),(18,K6),(19,K13),(25,K6),(30,K0),(42,K0),(43,K0),(54,K0),(73,K8)] [] true [] 0 2097152 aHO
theorem bFF(v:V103_0):((aCI (TS v)).bind (sY true false 0 [4,6,7,38,39,40]))=some ((DF v).map (Option.map TS)):=by kernel_rfl
theorem bFG(σ:St)(v:V103_0)(h:aCH σ=some (v,true)):σ=TS v:=by
 unfold aCH at h;split at h
 ·obtain⟨hr,hk⟩:=qp (qi h);obtain⟨d0,hk0⟩:=bJ hk;obtain⟨d1,hk1⟩:=bJ hk0;obtain⟨d2,hk2⟩:=bJ hk1;obtain⟨d3,hk3⟩:=bJ hk2;obtain⟨d4,hk4⟩:=bJ hk3;obtain⟨d5,hk5⟩:=bJ hk4;obtain⟨d6,hk6⟩:=bJ hk5;obtain⟨d7,hk7⟩:=bJ hk6;obtain⟨d8,hk8⟩:=bJ hk7;obtain rfl:=of_decide_eq_true d0;obtain rfl:=of_decide_eq_true d1;obtain rfl:=of_decide_eq_true d2;obtain rfl:=of_decide_eq_true d3;obtain rfl:=of_decide_eq_true d4;obtain rfl:=of_decide_eq_true d5;obtain rfl:=of_decide_eq_true d6;obtain rfl:=of_decide_eq_true d7;obtain rfl:=of_decide_eq_true d8;rw[←hr];rfl
 ·simp at h
theorem bFH:dB (vF true false 0 [4,6,7,38,39,40] aCI aCH TS DF 2097152) (fY R 0 2097152 (.loop [4,6,7,38,39,40] aHO)):=eM (dD aLV (cQ (l:=[]) (by kernel_rfl) trivial)) bFG bFF
def bFI:Lp:=(41,vF true false 0 [4,6,7,38,39,40] aCI aCH TS DF 2097152)::[]
def a52(v:V103_0):V103_0:=(hid (eG DF 2097152 v)).getD v
def a53(v:V103_0):Bool:=(hid (eG DF 2097152 v)).isSome
section
variable(a:aI)(b:aL)(c:Int)
def aLW:Int:=(eW (eW (i5 a).fr.Flags (dH 32 c)) 256)
def TT:aH:=(aFN (i5 a).fr (aLW a c))
def aLX:Bool:=((e1 (ln (aB8 (i5 a).fr b)))&&true)
def aLY:Bool:=(aP (TT a c) (bS (i5 a).fbus (aLX a b)))
def uB:V103_0:=(a52 (V103_0.mk b (aI.mk (aH.mk [] [] 0 0 0 0 false false) (bM.mk [] []) false false) {(i5 a)with fr:=(TT a c)} (aB8 (i5 a).fr b) (cA (aB8 (i5 a).fr b)) 0))
def uC:aS×Int:=(wI 1 2 (dH 2 (uB a b c).b0.Vector) 0 (uB a b c).b2)
def HQ:aS:={(uC a b c).1 with fr:={(uC a b c).1.fr with PC:=(uC a b c).2},fstop:=false}
def HR:aS:={(uC a b c).1 with fstop:=false}
def HS:aS:={(uB a b c).b2 with fstop:=false}
end
def a54(a:aI)(b:aL)(c:Int):Pt (aI):=(.ok true (.ok ((k78 a)&&true) (.ok (((((aP (i5 a).fr true)&&true)&&(bN4 (i5 a).fr b))&&true)&&true) (.ok (((((aP (i5 a).fr true)&&((aP (i5 a).fr true)&&true))&&(aP (i5 a).fr (aW5 (i5 a).fr (aLW a c))))&&true)&&true) (.ok ((qQ (0+(ln (aB8 (i5 a).fr b))) (ln (aB8 (i5 a).fr b)))&&true) (.ok (((aP (TT a c) (bS (i5 a).fbus true))&&(aLY a b c))&&(aLX a b)) (.ok (aLY a b c) (.ok (a53 (V103_0.mk b (aI.mk (aH.mk [] [] 0 0 0 0 false false) (bM.mk [] []) false false) {(i5 a)with fr:=(TT a c)} (aB8 (i5 a).fr b) (cA (aB8 (i5 a).fr b)) 0)) (.ok ((cE (uB a b c).b2 (OU (uB a b c).b2))&&true) (.br (J0 (uB a b c).b2) (.ok ((cE (uB a b c).b2 (aCG 1 2 (dH 2 (uB a b c).b0.Vector) 0 (uB a b c).b2))&&true) (.ok ((cE (uC a b c).1 (OU (uC a b c).1))&&true) (.br (J0 (uC a b c).1) (.ok true (.ok true (.ok ((cE (uC a b c).1 (k80 (HQ a b c)))&&true) (.ok ((cE (uC a b c).1 (OU (HQ a b c)))&&true) (.ok true (.ok ((aO (FP (HQ a b c)) true)&&((aO (FP (HQ a b c)) true)&&true)) (.leaf {(FP (HQ a b c))with Halt:=(!(J0 (HQ a b c)))}))))))) (.ok true (.ok ((cE (uC a b c).1 (k80 (HR a b c)))&&true) (.ok ((cE (uC a b c).1 (OU (HR a b c)))&&true) (.ok true (.ok ((aO (FP (HR a b c)) true)&&((aO (FP (HR a b c)) true)&&true)) (.leaf {(FP (HR a b c))with Halt:=(!(J0 (HR a b c)))}))))))))) (.ok true (.ok ((cE (uB a b c).b2 (k80 (HS a b c)))&&true) (.ok ((cE (uB a b c).b2 (OU (HS a b c)))&&true) (.ok true (.ok ((aO (FP (HS a b c)) true)&&((aO (FP (HS a b c)) true)&&true)) (.leaf {(FP (HS a b c))with Halt:=(!(J0 (HS a b c)))}))))))))))))))))
def V0(a:aI)(b:aL)(c:Int):aI:=hid (a54 a b c).val
def V1(a:aI)(b:aL)(c:Int):Bool:=hid (a54 a b c).okv
def b4Q(a:aI)(b:aL)(c:Int)(r:aI):SV×List Blk:=((.agg [.sl 0 0 (ln r.R.D), .sl 1 0 (ln r.R.A),li r.R.Other,li r.R.PC,li r.R.Flags,li r.R.Mask, .lit (.bool r.R.Super), .lit (.bool r.R.Trace), .sl 2 0 (ln r.Bus.Bytes), .sl 3 0 (ln r.Bus.Log), .lit (.bool r.Stop), .lit (.bool r.Halt)]),[.lst 1 r.R.D, .lst 1 r.R.A, .lst 1 r.Bus.Bytes, .lst 5 r.Bus.Log])
def q103:=bOA (fun a b c=>b4Q a b c (V0 a b c)) V1
theorem b4R:fM (fun live x=>dB (oV bFI (m6 x)) (fY R 0 2097152 (.loop live x))) F103.body:=(cQ (l:=[([4,6,7,38,39,40],aHO)]) (by kernel_rfl) ⟨fN (n:=41) (by kernel_rfl) fun σ σr t h ho hl=>bFH σ σr t h ho hl,trivial⟩)
theorem cHF:cK 103 q103:=bOB fun a b c p0 p1 p2 p3 hk=>tcl bXA a51 b4R [(13,K8),(18,K6),(19,K13),(25,K6),(30,K0),(42,K0),(43,K0),(54,K0),(73,K8)] [] true (a54 a b c) (b4Q a b c) hk
def Q103:=aZ 103 q103 Q80
theorem aR8:QO Q103:=aF cHF a51
def cHG(a:bN)(b:Int)(p0:Bool)(p1:Bool)(p2:Bool)(p3:Bool):List SV:=[(.agg [.imm p0 1 a.Cpu.R.D, .imm p1 1 a.Cpu.R.A,li a.Cpu.R.Other,li a.Cpu.R.PC,li a.Cpu.R.Flags,li a.Cpu.R.Mask, .lit (.bool a.Cpu.R.Super), .lit (.bool a.Cpu.R.Trace), .imm p2 1 a.Cpu.Bus.Bytes, .imm p3 5 a.Cpu.Bus.Log, .lit (.bool a.Cpu.Stop), .lit (.bool a.Cpu.Halt),li a.Line, .lit (.bool a.Edge)]),(.one (li b))]
def cHH(a:bN)(b:Int)(p0:Bool)(p1:Bool)(p2:Bool)(p3:Bool):List Blk:=[]
def bOC(N:bN→Int→SV×List Blk)(K:bN→Int→Bool):List SV→List Blk→Option ((SV×List Blk)×Bool)
 |[(.agg [.imm p0 1 c0, .imm p1 1 c1,li c2,li c3,li c4,li c5, .lit (.bool c6), .lit (.bool c7), .imm p2 1 c8, .imm p3 5 c9, .lit (.bool c10), .lit (.bool c11),li c12, .lit (.bool c13)]),(.one (li c14))],[]=>some (N (bN.mk (aI.mk (aH.mk c0 c1 c2 c3 c4 c5 c6 c7) (bM.mk c8 c9) c10 c11) c12 c13) c14,K (bN.mk (aI.mk (aH.mk c0 c1 c2 c3 c4 c5 c6 c7) (bM.mk c8 c9) c10 c11) c12 c13) c14)
 |_,_=>none
theorem bOD{N:bN→Int→SV×List Blk}{K:bN→Int→Bool}{f:Nat}(h: ∀(a:bN)(b:Int)(p0:Bool)(p1:Bool)(p2:Bool)(p3:Bool),K a b=true→dJ R f (cHG a b p0 p1 p2 p3) (cHH a b p0 p1 p2 p3)=some (N a b)):cK f (bOC N K):=fun _ _ _ e=>by
 unfold bOC at e;split at e
 ·exact vH e (h _ _ _ _ _ _)
 ·cases e
section
variable(a:bN)(b:Int)
def TU:aI:=(V0 a.Cpu (aL.mk (bE 10 b) a.Cpu.R.PC 0 0 false) b)
def aLZ:Bool:=((aO (TU a b) true)&&((aO (TU a b) true)&&true))
end
def a55(a:bN)(b:Int):Pt (bN):=(.ok true (.ok ((V1 a.Cpu (aL.mk (bE 10 b) a.Cpu.R.PC 0 0 false) b)&&true) (.ok true (.br (eqI b 7) (.ok true (.ok true (.ok (aLZ a b) (.leaf (bN.mk (TU a b) a.Line false))))) (.ok true (.ok (aLZ a b) (.leaf {a with Cpu:=(TU a b)})))))))
def a56(a:bN)(b:Int):bN:=hid (a55 a b).val
def bOE(a:bN)(b:Int):Bool:=hid (a55 a b).okv
def bFJ(a:bN)(b:Int)(r:bN):SV×List Blk:=((.agg [.sl 0 0 (ln r.Cpu.R.D), .sl 1 0 (ln r.Cpu.R.A),li r.Cpu.R.Other,li r.Cpu.R.PC,li r.Cpu.R.Flags,li r.Cpu.R.Mask, .lit (.bool r.Cpu.R.Super), .lit (.bool r.Cpu.R.Trace), .sl 2 0 (ln r.Cpu.Bus.Bytes), .sl 3 0 (ln r.Cpu.Bus.Log), .lit (.bool r.Cpu.Stop), .lit (.bool r.Cpu.Halt),li r.Line, .lit (.bool r.Edge)]),[.lst 1 r.Cpu.R.D, .lst 1 r.Cpu.R.A, .lst 1 r.Cpu.Bus.Bytes, .lst 5 r.Cpu.Bus.Log])
def q200:=bOC (fun a b=>bFJ a b (a56 a b)) bOE
theorem cHI:cK 200 q200:=bOD fun a b p0 p1 p2 p3 hk=>tc bZB aR8 [(6,K8),(12,K0),(20,K9)] [] true (a55 a b) (bFJ a b) hk
def Q200:=aZ 200 q200 Q103
theorem aR9:QO Q200:=aF cHI aR8
def a57(a:Int):Pt (Int):=(.ok true (.ok ((aH7 (bH (eZ a 5) 7))&&true) (.br (aH6 (bH (eZ a 5) 7)) (.ok true (.ok true (.ok true (.leaf 2)))) (.ok true (.ok true (.ok true (.leaf 1)))))))
def aW8(a:Int):Int:=hid (a57 a).val
def bFK(a:Int):Bool:=hid (a57 a).okv
def q210:=BP (fun a=>xB a (aW8 a)) bFK
theorem cHJ:cK 100210 q210:=gS fun a hk=>tz bZJ aR9 [] [] true (a57 a) (xB a) hk
def Q210:=aZ 100210 q210 Q200
theorem aSA:QO Q210:=aF cHJ aR9
def a58(a:Int)(b:Int):Pt (aQ):=(.ok true (.ok true (.ok true (.ok ((bFK a)&&true) (.br (eqI (aW8 a) 2) (.ok true (.ok true (.ok true (.ok true (.leaf (aQ.mk (eZ a 11) (bE (bH (eZ a 10) 1) 1) (bH (eZ a 8) 3) (aG.mk (bH (eZ a 5) 7) (bH (eZ a 3) 3) b) (bH a 7))))))) (.ok true (.ok true (.ok true (.leaf (aQ.mk (eZ a 11) (bE (bH (eZ a 10) 1) 1) (bH (eZ a 8) 3) (aG.mk (bH (eZ a 5) 7) (bH (eZ a 3) 3) 0) (bH a 7)))))))))))
def aW9(a:Int)(b:Int):aQ:=hid (a58 a b).val
def bFL(a:Int)(b:Int):Bool:=hid (a58 a b).okv
def q211:=JP (fun a b=>bDT a b (aW9 a b)) bFL
theorem cHK:cK 100211 q211:=tM fun a b hk=>tz bZK aSA [(32,K5)] [] true (a58 a b) (bDT a b) hk
def Q211:=aZ 100211 q211 Q210
theorem aSB:QO Q211:=aF cHK aSA
section
variable(a:aS)
def iH:aS×Int:=(wI 3 2 a.fr.PC 0 {a with ffault:={a.ffault with PC:=a.fr.PC}})
def aCJ:Bool:=(((bU (iH a).1 true)&&(bU (iH a).1 true))&&true)
def aCK:aS:={(iH a).1 with ffault:={(iH a).1.ffault with Word:=(iH a).2}}
def uD:aS×Int:=(wI 3 2 (bH (bE a.fr.PC 2) 65535) 0 (aCK a))
def aCL:Bool:=(((bU (uD a).1 true)&&(bU (uD a).1 true))&&true)
def aCM:aQ:=(aW9 (iH a).2 (uD a).2)
end
def a59(a:aS):Pt (aS×aQ×Int):=(.ok true (.ok true (.ok true (.ok ((cE a (aCG 3 2 a.fr.PC 0 {a with ffault:={a.ffault with PC:=a.fr.PC}}))&&true) (.ok ((cE (iH a).1 (OU (iH a).1))&&true) (.br (!(J0 (iH a).1)) (.ok true (.ok (aCJ a) (.leaf ((iH a).1,(aQ.mk 0 0 0 (aG.mk 0 0 0) 0),0)))) (.ok true (.ok true (.ok ((bFK (iH a).2)&&true) (.ok true (.br (eqI (aW8 (iH a).2) 2) (.ok ((cE (iH a).1 (aCG 3 2 (bH (bE a.fr.PC 2) 65535) 0 (aCK a)))&&true) (.ok ((cE (uD a).1 (OU (uD a).1))&&true) (.br (!(J0 (uD a).1)) (.ok true (.ok (aCL a) (.leaf ((uD a).1,(aQ.mk 0 0 0 (aG.mk 0 0 0) 0),0)))) (.ok ((bFL (iH a).2 (uD a).2)&&true) (.ok ((tA (aCM a))&&true) (.br (!(sZ (aCM a))) (.ok true (.ok true (.ok (aCL a) (.leaf ({(uD a).1 with ffault:={(uD a).1.ffault with Vector:=4}},(aQ.mk 0 0 0 (aG.mk 0 0 0) 0),0))))) (.ok true (.ok (aCL a) (.leaf ((uD a).1,(aCM a),(aW8 (iH a).2))))))))))) (.ok ((bFL (iH a).2 0)&&true) (.ok ((tA (aW9 (iH a).2 0))&&true) (.br (!(sZ (aW9 (iH a).2 0))) (.ok true (.ok true (.ok (aCJ a) (.leaf ({(iH a).1 with ffault:={(iH a).1.ffault with Vector:=4,Word:=(iH a).2}},(aQ.mk 0 0 0 (aG.mk 0 0 0) 0),0))))) (.ok true (.ok (aCJ a) (.leaf ((aCK a),(aW9 (iH a).2 0),(aW8 (iH a).2)))))))))))))))))))
def fF(a:aS):aS×aQ×Int:=hid (a59 a).val
def bOF(a:aS):Bool:=hid (a59 a).okv
def b4S(a:aS)(r:aS×aQ×Int):SV×List Blk:=((.tup [(.agg [li r.2.1.Op,li r.2.1.Size,li r.2.1.Reg,li r.2.1.Ea.Mode,li r.2.1.Ea.Reg,li r.2.1.Ea.Ext,li r.2.1.Sub]),(.one (li r.2.2))]),[.box [.sl 1 0 (ln r.1.fr.D), .sl 2 0 (ln r.1.fr.A),li r.1.fr.Other,li r.1.fr.PC,li r.1.fr.Flags,li r.1.fr.Mask, .lit (.bool r.1.fr.Super), .lit (.bool r.1.fr.Trace), .sl 3 0 (ln r.1.fbus.Bytes), .sl 4 0 (ln r.1.fbus.Log), .lit (.bool r.1.fstop),li r.1.ffault.Vector,li r.1.ffault.PC,li r.1.ffault.Addr,li r.1.ffault.Word, .lit (.bool r.1.ffault.Write)], .lst 1 r.1.fr.D, .lst 1 r.1.fr.A, .lst 1 r.1.fbus.Bytes, .lst 5 r.1.fbus.Log])
def q158:=aW6 (fun a=>b4S a (fF a)) bOF
theorem cHL:cK 158 q158:=aB9 fun a hk=>tc bYB aSB [(13,K0),(47,K5),(55,K5)] [] true (a59 a) (b4S a) hk
def Q158:=aZ 158 q158 Q211
theorem aSC:QO Q158:=aF cHL aSB
def a6A(a:aQ):Pt (Bool):=(.ok true (.ok true (.ok true (.ok true (.leaf (bif (bif (eqI a.Op 15)then(bif (eqI a.Sub 1)then true else(eqI a.Sub 3))else false)then true else(bif (eqI a.Op 19)then(eqI a.Sub 0)else false)))))))
def bOG(a:aQ):Bool:=hid (a6A a).val
def bOH(a:aQ):Bool:=hid (a6A a).okv
def q159:=DS7 (fun a=>OM a (bOG a)) bOH
theorem cHM:cK 100159 q159:=N7 fun a hk=>tz bYC aSC [(4,K0),(8,K0),(12,K0),(18,K0),(22,K0)] [] true (a6A a) (OM a) hk
def Q159:=aZ 100159 q159 Q158
theorem aSD:QO Q159:=aF cHM aSC
def cHN(a:aH)(b:Int)(c:Int)(p0:Bool)(p1:Bool):List SV:=[(.agg [.imm p0 1 a.D, .imm p1 1 a.A,li a.Other,li a.PC,li a.Flags,li a.Mask, .lit (.bool a.Super), .lit (.bool a.Trace)]),(.one (li b)),(.one (li c))]
def cHO(a:aH)(b:Int)(c:Int)(p0:Bool)(p1:Bool):List Blk:=[]
def bOI(N:aH→Int→Int→SV×List Blk)(K:aH→Int→Int→Bool):List SV→List Blk→Option ((SV×List Blk)×Bool)
 |[(.agg [.imm p0 1 c0, .imm p1 1 c1,li c2,li c3,li c4,li c5, .lit (.bool c6), .lit (.bool c7)]),(.one (li c8)),(.one (li c9))],[]=>some (N (aH.mk c0 c1 c2 c3 c4 c5 c6 c7) c8 c9,K (aH.mk c0 c1 c2 c3 c4 c5 c6 c7) c8 c9)
 |_,_=>none
theorem bOJ{N:aH→Int→Int→SV×List Blk}{K:aH→Int→Int→Bool}{f:Nat}(h: ∀(a:aH)(b:Int)(c:Int)(p0:Bool)(p1:Bool),K a b c=true→dJ R f (cHN a b c p0 p1) (cHO a b c p0 p1)=some (N a b c)):cK f (bOI N K):=fun _ _ _ e=>by
 unfold bOI at e;split at e
 ·exact vH e (h _ _ _ _ _)
 ·cases e
def a6B(a:aH)(b:Int)(c:Int):Pt (Int):=(.ok true (.ok ((hZ [.int .i64] a.D c)&&((JX b)&&true)) (.ok true (.ok true (.leaf (bH (bQ a.D (iN c) 0) (cN (xC b) 1)))))))
def a6C(a:aH)(b:Int)(c:Int):Int:=hid (a6B a b c).val
def a6D(a:aH)(b:Int)(c:Int):Bool:=hid (a6B a b c).okv
def b4T(a:aH)(b:Int)(c:Int)(r:Int):SV×List Blk:=((.one (li r)),[])
def q214:=bOI (fun a b c=>b4T a b c (a6C a b c)) a6D
theorem cHP:cK 100214 q214:=bOJ fun a b c p0 p1 hk=>tz bZN aSD [(8,K1),(10,K0),(11,K0)] [] true (a6B a b c) (b4T a b c) hk
def Q214:=aZ 100214 q214 Q159
theorem aSE:QO Q214:=aF cHP aSD
def a6E(a:Int)(b:Int):Pt (Int):=(.ok true (.ok true (.br (bif (eqI a 1)then(dC b 3)else false) (.ok true (.ok true (.ok true (.leaf 1)))) (.ok true (.ok true (.ok true (.leaf 2)))))))
def bFM(a:Int)(b:Int):Int:=hid (a6E a b).val
def bFN(a:Int)(b:Int):Bool:=hid (a6E a b).okv
def q276:=JP (fun a b=>VW a b (bFM a b)) bFN
theorem cHQ:cK 100276 q276:=tM fun a b hk=>tz b1B aSE [] [] true (a6E a b) (VW a b) hk
def Q276:=aZ 100276 q276 Q214
theorem aSF:QO Q276:=aF cHQ aSE
def cHR(a:aH)(b:Int)(c:aG):List SV:=[(.agg [.sl 0 0 (ln a.D), .sl 1 0 (ln a.A),li a.Other,li a.PC,li a.Flags,li a.Mask, .lit (.bool a.Super), .lit (.bool a.Trace)]),(.one (li b)),(.agg [li c.Mode,li c.Reg,li c.Ext])]
def cHS(a:aH)(b:Int)(c:aG):List Blk:=[.lst 1 a.D, .lst 1 a.A]
def bOK(N:aH→Int→aG→SV×List Blk)(K:aH→Int→aG→Bool):List SV→List Blk→Option ((SV×List Blk)×Bool)
 |[(.agg [.sl 0 0 l0, .sl 1 0 l1,li c0,li c1,li c2,li c3, .lit (.bool c4), .lit (.bool c5)]),(.one (li c6)),(.agg [li c7,li c8,li c9])],[.lst 1 c_0, .lst 1 c_1]=>some (N (aH.mk c_0 c_1 c0 c1 c2 c3 c4 c5) c6 (aG.mk c7 c8 c9),eC l0 (ln c_0)&&(eC l1 (ln c_1)&&(K (aH.mk c_0 c_1 c0 c1 c2 c3 c4 c5) c6 (aG.mk c7 c8 c9))))
 |_,_=>none
theorem bOL{N:aH→Int→aG→SV×List Blk}{K:aH→Int→aG→Bool}{f:Nat}(h: ∀(a:aH)(b:Int)(c:aG),K a b c=true→dJ R f (cHR a b c) (cHS a b c)=some (N a b c)):cK f (bOK N K):=fun args hp r e=>by
 unfold bOK at e;split at e
 ·rename_i l0 l1 c0 c1 c2 c3 c4 c5 c6 c7 c8 c9 c_0 c_1;obtain⟨hr,hk⟩:=qp (qi e);obtain⟨d0,hk0⟩:=bJ hk;obtain⟨d1,hk1⟩:=bJ hk0;obtain rfl:=of_decide_eq_true d0;obtain rfl:=of_decide_eq_true d1;rw[←hr];exact h (aH.mk c_0 c_1 c0 c1 c2 c3 c4 c5) c6 (aG.mk c7 c8 c9) hk1
 ·simp at e
section
variable(a:aH)(b:Int)(c:aG)
def aL0:Bool:=((leI 0 c.Reg)&&(ltI c.Reg (cA a.A)))
def aL1:Bool:=((aL0 a c)&&(((blt (0+(iN c.Reg)) (ln a.A))&&(jW (jX a.A (0+(iN c.Reg))) 1))&&true))
def aL2:List Row:=(List.set a.A (0+(iN c.Reg)) (bB (bH (bE (bQ a.A (0+(iN c.Reg)) 0) (bFM b c.Reg)) 65535)))
def aL3:Bool:=((e1 (ln a.D))&&((eC (ln a.A) (ln (aL2 a b c)))&&true))
def aL4:Int:=(bH (cN (bQ a.A (0+(iN c.Reg)) 0) (bFM b c.Reg)) 65535)
def aL5:List Row:=(List.set a.A (0+(iN c.Reg)) (bB (aL4 a b c)))
def aL6:Bool:=((e1 (ln a.D))&&((eC (ln a.A) (ln (aL5 a b c)))&&true))
end
def a6F(a:aH)(b:Int)(c:aG):Pt (aH×Int):=(.ok true (.ok ((aL0 a c)&&((dU [.int .i64] a.A (0+(iN c.Reg)) 0)&&true)) (.ok true (.ok true (.br (eqI c.Mode 3) (.ok (((bFN b c.Reg)&&(aL1 a c))&&true) (.ok true (.ok (((aL3 a b c)&&((aP a true)&&true))&&(((aL3 a b c)&&true)&&true)) (.leaf ({a with A:=(aL2 a b c)},(bQ a.A (0+(iN c.Reg)) 0)))))) (.ok true (.br (eqI c.Mode 4) (.ok ((bFN b c.Reg)&&true) (.ok (aL1 a c) (.ok true (.ok (((aL6 a b c)&&((aP a true)&&true))&&(((aL6 a b c)&&true)&&true)) (.leaf ({a with A:=(aL5 a b c)},(aL4 a b c))))))) (.ok true (.ok true (.ok true (.ok (((aP a true)&&((aP a true)&&true))&&(((aP a true)&&true)&&true)) (.leaf (a,(bif (eqI c.Mode 5)then(bH (bE (bQ a.A (0+(iN c.Reg)) 0) c.Ext) 65535)else(bif (eqI c.Mode 6)then c.Ext else(bQ a.A (0+(iN c.Reg)) 0))))))))))))))))
def BW(a:aH)(b:Int)(c:aG):aH×Int:=hid (a6F a b c).val
def bFO(a:aH)(b:Int)(c:aG):Bool:=hid (a6F a b c).okv
def b4U(a:aH)(b:Int)(c:aG)(r:aH×Int):SV×List Blk:=((.tup [(.agg [.sl 0 0 (ln r.1.D), .sl 1 0 (ln r.1.A),li r.1.Other,li r.1.PC,li r.1.Flags,li r.1.Mask, .lit (.bool r.1.Super), .lit (.bool r.1.Trace)]),(.one (li r.2))]),[.lst 1 r.1.D, .lst 1 r.1.A])
def q247:=bOK (fun a b c=>b4U a b c (BW a b c)) bFO
theorem cHT:cK 247 q247:=bOL fun a b c hk=>tc b0I aSF [(10,K1),(12,K0),(13,K0),(14,K0),(16,K0),(20,K1),(22,K0),(26,K0),(30,K0),(36,K0),(41,K1),(43,K0),(45,K0),(50,K0),(56,K0),(57,K6),(1000001,[])] [] true (a6F a b c) (b4U a b c) hk
def Q247:=aZ 247 q247 Q276
theorem aSG:QO Q247:=aF cHT aSF
def cHU(b:Int)(c:aG)(a:aS):List SV:=[(.one (.ptr 0 0 0)),(.one (li b)),(.agg [li c.Mode,li c.Reg,li c.Ext])]
def cHV(b:Int)(c:aG)(a:aS):List Blk:=[.box [.sl 1 0 (ln a.fr.D), .sl 2 0 (ln a.fr.A),li a.fr.Other,li a.fr.PC,li a.fr.Flags,li a.fr.Mask, .lit (.bool a.fr.Super), .lit (.bool a.fr.Trace), .sl 3 0 (ln a.fbus.Bytes), .sl 4 0 (ln a.fbus.Log), .lit (.bool a.fstop),li a.ffault.Vector,li a.ffault.PC,li a.ffault.Addr,li a.ffault.Word, .lit (.bool a.ffault.Write)], .lst 1 a.fr.D, .lst 1 a.fr.A, .lst 1 a.fbus.Bytes, .lst 5 a.fbus.Log]
def bFP(N:Int→aG→aS→SV×List Blk)(K:Int→aG→aS→Bool):List SV→List Blk→Option ((SV×List Blk)×Bool)
 |[(.one (.ptr 0 0 0)),(.one (li c0)),(.agg [li c1,li c2,li c3])],[.box [.sl 1 0 l1, .sl 2 0 l2,li c4,li c5,li c6,li c7, .lit (.bool c8), .lit (.bool c9), .sl 3 0 l3, .sl 4 0 l4, .lit (.bool c10),li c11,li c12,li c13,li c14, .lit (.bool c15)], .lst 1 c_1, .lst 1 c_2, .lst 1 c_3, .lst 5 c_4]=>some (N c0 (aG.mk c1 c2 c3) (aS.mk (aH.mk c_1 c_2 c4 c5 c6 c7 c8 c9) (bM.mk c_3 c_4) c10 (aL.mk c11 c12 c13 c14 c15)),eC l1 (ln c_1)&&(eC l2 (ln c_2)&&(eC l3 (ln c_3)&&(eC l4 (ln c_4)&&(K c0 (aG.mk c1 c2 c3) (aS.mk (aH.mk c_1 c_2 c4 c5 c6 c7 c8 c9) (bM.mk c_3 c_4) c10 (aL.mk c11 c12 c13 c14 c15)))))))
 |_,_=>none
theorem a6G{N:Int→aG→aS→SV×List Blk}{K:Int→aG→aS→Bool}{f:Nat}(h: ∀(b:Int)(c:aG)(a:aS),K b c a=true→dJ R f (cHU b c a) (cHV b c a)=some (N b c a)):cK f (bFP N K):=fun args hp r e=>by
 unfold bFP at e;split at e
 ·rename_i c0 c1 c2 c3 l1 l2 c4 c5 c6 c7 c8 c9 l3 l4 c10 c11 c12 c13 c14 c15 c_1 c_2 c_3 c_4;obtain⟨hr,hk⟩:=qp (qi e);obtain⟨d0,hk0⟩:=bJ hk;obtain⟨d1,hk1⟩:=bJ hk0;obtain⟨d2,hk2⟩:=bJ hk1;obtain⟨d3,hk3⟩:=bJ hk2;obtain rfl:=of_decide_eq_true d0;obtain rfl:=of_decide_eq_true d1;obtain rfl:=of_decide_eq_true d2;obtain rfl:=of_decide_eq_true d3;rw[←hr];exact h c0 (aG.mk c1 c2 c3) (aS.mk (aH.mk c_1 c_2 c4 c5 c6 c7 c8 c9) (bM.mk c_3 c_4) c10 (aL.mk c11 c12 c13 c14 c15)) hk3
 ·simp at e
section
variable(b:Int)(c:aG)(a:aS)
def aCN:Bool:=(((bU a true)&&(bU a true))&&true)
def DG:Bool:=(((((aP a.fr true)&&((aP a.fr true)&&true))&&(aP a.fr (bFO a.fr b c)))&&true)&&true)
def HT:Bool:=(((s1 b)&&((s1 (BW a.fr b c).2)&&true))&&((JF a true)&&((rR c true)&&((iE (BW a.fr b c).1 true)&&(dP a.fbus (iB (BW a.fr b c).1 true))))))
def TV:aS×Int:=(wI 1 b (BW a.fr b c).2 0 {a with fr:=(BW a.fr b c).1})
end
def a6H(b:Int)(c:aG)(a:aS):Pt (aS×Int×Int):=(.ok true (.ok true (.ok true (.br (eqI c.Mode 0) (.ok ((((aP a.fr true)&&true)&&(a6D a.fr b c.Reg))&&true) (.ok (aCN a) (.leaf (a,(a6C a.fr b c.Reg),0)))) (.ok true (.br (eqI c.Mode 1) (.ok (((leI 0 c.Reg)&&(ltI c.Reg (cA a.fr.A)))&&((dU [.int .i64] a.fr.A (0+(iN c.Reg)) 0)&&true)) (.ok (aCN a) (.leaf (a,(bQ a.fr.A (0+(iN c.Reg)) 0),0)))) (.ok true (.br (eqI c.Mode 7) (.ok true (.ok (aCN a) (.leaf (a,c.Ext,0)))) (.ok ((DG b c a)&&(((DG b c a)&&(((DG b c a)&&(((DG b c a)&&(((DG b c a)&&(((DG b c a)&&((DG b c a)&&(HT b c a)))&&(HT b c a)))&&(HT b c a)))&&(HT b c a)))&&(HT b c a)))&&(HT b c a))) (.ok true (.ok ((dd (aP (BW a.fr b c).1 (bS a.fbus true)) (aP (BW a.fr b c).1 (bS a.fbus (aCG 1 b (BW a.fr b c).2 0 {a with fr:=(BW a.fr b c).1}))))&&true) (.ok (((bU (TV b c a).1 true)&&(bU (TV b c a).1 true))&&true) (.leaf ((TV b c a).1,(TV b c a).2,(BW a.fr b c).2))))))))))))))
def cP(b:Int)(c:aG)(a:aS):aS×Int×Int:=hid (a6H b c a).val
def aXA(b:Int)(c:aG)(a:aS):Bool:=hid (a6H b c a).okv
def b4V(b:Int)(c:aG)(a:aS)(r:aS×Int×Int):SV×List Blk:=((.tup [(.one (li r.2.1)),(.one (li r.2.2))]),[.box [.sl 1 0 (ln r.1.fr.D), .sl 2 0 (ln r.1.fr.A),li r.1.fr.Other,li r.1.fr.PC,li r.1.fr.Flags,li r.1.fr.Mask, .lit (.bool r.1.fr.Super), .lit (.bool r.1.fr.Trace), .sl 3 0 (ln r.1.fbus.Bytes), .sl 4 0 (ln r.1.fbus.Log), .lit (.bool r.1.fstop),li r.1.ffault.Vector,li r.1.ffault.PC,li r.1.ffault.Addr,li r.1.ffault.Word, .lit (.bool r.1.ffault.Write)], .lst 1 r.1.fr.D, .lst 1 r.1.fr.A, .lst 1 r.1.fbus.Bytes, .lst 5 r.1.fbus.Log])
def q212:=bFP (fun b c a=>b4V b c a (cP b c a)) aXA
theorem cHW:cK 212 q212:=a6G fun b c a hk=>tc bZL aSG [(11,K0),(17,K6),(20,K0),(28,K1),(30,K0),(31,K0),(32,K0),(36,K0),(41,K6),(43,K4),(48,K6)] [] true (a6H b c a) (b4V b c a) hk
def Q212:=aZ 212 q212 Q247
theorem aSH:QO Q212:=aF cHW aSG
section
variable(b:Int)(c:aG)(a:aS)
def DH:Bool:=(((((aP a.fr true)&&((aP a.fr true)&&true))&&(aP a.fr (bFO a.fr b c)))&&true)&&true)
def HU:Bool:=(((s1 (BW a.fr b c).2)&&true)&&((JF a true)&&((rR c true)&&((iE (BW a.fr b c).1 true)&&(dP a.fbus (iB (BW a.fr b c).1 true))))))
def aL7:Bool:=(aP (BW a.fr b c).1 (bS a.fbus true))
end
def a6I(b:Int)(c:aG)(a:aS):Pt (aS×Int):=(.ok true (.ok true (.br (eqI c.Mode 0) (.ok true (.ok (((bU a true)&&(bU a true))&&true) (.leaf (a,0)))) (.ok ((DH b c a)&&(((DH b c a)&&(((DH b c a)&&(((DH b c a)&&(((DH b c a)&&(((DH b c a)&&((DH b c a)&&(HU b c a)))&&(HU b c a)))&&(HU b c a)))&&(HU b c a)))&&(HU b c a)))&&(HU b c a))) (.ok true (.ok true (.ok (((aL7 b c a)&&(aL7 b c a))&&true) (.leaf ({a with fr:=(BW a.fr b c).1},(BW a.fr b c).2)))))))))
def iD(b:Int)(c:aG)(a:aS):aS×Int:=hid (a6I b c a).val
def aXB(b:Int)(c:aG)(a:aS):Bool:=hid (a6I b c a).okv
def b4W(b:Int)(c:aG)(a:aS)(r:aS×Int):SV×List Blk:=((.one (li r.2)),[.box [.sl 1 0 (ln r.1.fr.D), .sl 2 0 (ln r.1.fr.A),li r.1.fr.Other,li r.1.fr.PC,li r.1.fr.Flags,li r.1.fr.Mask, .lit (.bool r.1.fr.Super), .lit (.bool r.1.fr.Trace), .sl 3 0 (ln r.1.fbus.Bytes), .sl 4 0 (ln r.1.fbus.Log), .lit (.bool r.1.fstop),li r.1.ffault.Vector,li r.1.ffault.PC,li r.1.ffault.Addr,li r.1.ffault.Word, .lit (.bool r.1.ffault.Write)], .lst 1 r.1.fr.D, .lst 1 r.1.fr.A, .lst 1 r.1.fbus.Bytes, .lst 5 r.1.fbus.Log])
def q213:=bFP (fun b c a=>b4W b c a (iD b c a)) aXB
theorem cHX:cK 213 q213:=a6G fun b c a hk=>tc bZM aSH [(10,K0),(16,K6),(18,K4),(23,K6)] [] true (a6I b c a) (b4W b c a) hk
def Q213:=aZ 213 q213 Q212
theorem aSI:QO Q213:=aF cHX aSH
def cHY(a:aH)(b:Int)(c:Int)(d:Int):List SV:=[(.agg [.sl 0 0 (ln a.D), .sl 1 0 (ln a.A),li a.Other,li a.PC,li a.Flags,li a.Mask, .lit (.bool a.Super), .lit (.bool a.Trace)]),(.one (li b)),(.one (li c)),(.one (li d))]
def cHZ(a:aH)(b:Int)(c:Int)(d:Int):List Blk:=[.lst 1 a.D, .lst 1 a.A]
def bOM(N:aH→Int→Int→Int→SV×List Blk)(K:aH→Int→Int→Int→Bool):List SV→List Blk→Option ((SV×List Blk)×Bool)
 |[(.agg [.sl 0 0 l0, .sl 1 0 l1,li c0,li c1,li c2,li c3, .lit (.bool c4), .lit (.bool c5)]),(.one (li c6)),(.one (li c7)),(.one (li c8))],[.lst 1 c_0, .lst 1 c_1]=>some (N (aH.mk c_0 c_1 c0 c1 c2 c3 c4 c5) c6 c7 c8,eC l0 (ln c_0)&&(eC l1 (ln c_1)&&(K (aH.mk c_0 c_1 c0 c1 c2 c3 c4 c5) c6 c7 c8)))
 |_,_=>none
theorem bON{N:aH→Int→Int→Int→SV×List Blk}{K:aH→Int→Int→Int→Bool}{f:Nat}(h: ∀(a:aH)(b:Int)(c:Int)(d:Int),K a b c d=true→dJ R f (cHY a b c d) (cHZ a b c d)=some (N a b c d)):cK f (bOM N K):=fun args hp r e=>by
 unfold bOM at e;split at e
 ·rename_i l0 l1 c0 c1 c2 c3 c4 c5 c6 c7 c8 c_0 c_1;obtain⟨hr,hk⟩:=qp (qi e);obtain⟨d0,hk0⟩:=bJ hk;obtain⟨d1,hk1⟩:=bJ hk0;obtain rfl:=of_decide_eq_true d0;obtain rfl:=of_decide_eq_true d1;rw[←hr];exact h (aH.mk c_0 c_1 c0 c1 c2 c3 c4 c5) c6 c7 c8 hk1
 ·simp at e
section
variable(a:aH)(c:Int)(d:Int)
def aCO:Bool:=(((leI 0 c)&&(ltI c (cA a.D)))&&(((blt (0+(iN c)) (ln a.D))&&(jW (jX a.D (0+(iN c))) 1))&&true))
def aCP:List Row:=(List.set a.D (0+(iN c)) (bB (eW (bH (bQ a.D (0+(iN c)) 0) 65280) d)))
def aCQ:Bool:=((eC (ln a.D) (ln (aCP a c d)))&&((e1 (ln a.A))&&true))
def aCR:List Row:=(List.set a.D (0+(iN c)) (bB d))
def aCS:Bool:=((eC (ln a.D) (ln (aCR a c d)))&&((e1 (ln a.A))&&true))
end
def a6J(a:aH)(b:Int)(c:Int)(d:Int):Pt (aH):=(.ok true (.ok true (.br (eqI b 1) (.ok ((((leI 0 c)&&(ltI c (cA a.D)))&&((dU [.int .i64] a.D (0+(iN c)) 0)&&(aCO a c)))&&true) (.ok true (.ok (((aCQ a c d)&&((aP a true)&&true))&&((aCQ a c d)&&true)) (.leaf {a with D:=(aCP a c d)})))) (.ok (aCO a c) (.ok true (.ok (((aCS a c d)&&((aP a true)&&true))&&((aCS a c d)&&true)) (.leaf {a with D:=(aCR a c d)})))))))
def J1(a:aH)(b:Int)(c:Int)(d:Int):aH:=hid (a6J a b c d).val
def J2(a:aH)(b:Int)(c:Int)(d:Int):Bool:=hid (a6J a b c d).okv
def b4X(a:aH)(b:Int)(c:Int)(d:Int)(r:aH):SV×List Blk:=((.agg [.sl 0 0 (ln r.D), .sl 1 0 (ln r.A),li r.Other,li r.PC,li r.Flags,li r.Mask, .lit (.bool r.Super), .lit (.bool r.Trace)]),[.lst 1 r.D, .lst 1 r.A])
def q219:=bOM (fun a b c d=>b4X a b c d (J1 a b c d)) J2
theorem cH0:cK 219 q219:=bON fun a b c d hk=>tc bZS aSI [(12,K1),(15,K1),(17,K0),(18,K0),(22,K0),(24,K1),(27,K0),(28,K6),(1000001,[])] [] true (a6J a b c d) (b4X a b c d) hk
def Q219:=aZ 219 q219 Q213
theorem aSJ:QO Q219:=aF cH0 aSI
def cH1(b:Int)(c:aG)(d:Int)(o:Int)(a:aS):List SV:=[(.one (.ptr 0 0 0)),(.one (li b)),(.agg [li c.Mode,li c.Reg,li c.Ext]),(.one (li d)),(.one (li o))]
def cH2(b:Int)(c:aG)(d:Int)(o:Int)(a:aS):List Blk:=[.box [.sl 1 0 (ln a.fr.D), .sl 2 0 (ln a.fr.A),li a.fr.Other,li a.fr.PC,li a.fr.Flags,li a.fr.Mask, .lit (.bool a.fr.Super), .lit (.bool a.fr.Trace), .sl 3 0 (ln a.fbus.Bytes), .sl 4 0 (ln a.fbus.Log), .lit (.bool a.fstop),li a.ffault.Vector,li a.ffault.PC,li a.ffault.Addr,li a.ffault.Word, .lit (.bool a.ffault.Write)], .lst 1 a.fr.D, .lst 1 a.fr.A, .lst 1 a.fbus.Bytes, .lst 5 a.fbus.Log]
def bOO(N:Int→aG→Int→Int→aS→SV×List Blk)(K:Int→aG→Int→Int→aS→Bool):List SV→List Blk→Option ((SV×List Blk)×Bool)
 |[(.one (.ptr 0 0 0)),(.one (li c0)),(.agg [li c1,li c2,li c3]),(.one (li c4)),(.one (li c5))],[.box [.sl 1 0 l1, .sl 2 0 l2,li c6,li c7,li c8,li c9, .lit (.bool c10), .lit (.bool c11), .sl 3 0 l3, .sl 4 0 l4, .lit (.bool c12),li c13,li c14,li c15,li c16, .lit (.bool c17)], .lst 1 c_1, .lst 1 c_2, .lst 1 c_3, .lst 5 c_4]=>some (N c0 (aG.mk c1 c2 c3) c4 c5 (aS.mk (aH.mk c_1 c_2 c6 c7 c8 c9 c10 c11) (bM.mk c_3 c_4) c12 (aL.mk c13 c14 c15 c16 c17)),eC l1 (ln c_1)&&(eC l2 (ln c_2)&&(eC l3 (ln c_3)&&(eC l4 (ln c_4)&&(K c0 (aG.mk c1 c2 c3) c4 c5 (aS.mk (aH.mk c_1 c_2 c6 c7 c8 c9 c10 c11) (bM.mk c_3 c_4) c12 (aL.mk c13 c14 c15 c16 c17)))))))
 |_,_=>none
theorem bOP{N:Int→aG→Int→Int→aS→SV×List Blk}{K:Int→aG→Int→Int→aS→Bool}{f:Nat}(h: ∀(b:Int)(c:aG)(d:Int)(o:Int)(a:aS),K b c d o a=true→dJ R f (cH1 b c d o a) (cH2 b c d o a)=some (N b c d o a)):cK f (bOO N K):=fun args hp r e=>by
 unfold bOO at e;split at e
 ·rename_i c0 c1 c2 c3 c4 c5 l1 l2 c6 c7 c8 c9 c10 c11 l3 l4 c12 c13 c14 c15 c16 c17 c_1 c_2 c_3 c_4;obtain⟨hr,hk⟩:=qp (qi e);obtain⟨d0,hk0⟩:=bJ hk;obtain⟨d1,hk1⟩:=bJ hk0;obtain⟨d2,hk2⟩:=bJ hk1;obtain⟨d3,hk3⟩:=bJ hk2;obtain rfl:=of_decide_eq_true d0;obtain rfl:=of_decide_eq_true d1;obtain rfl:=of_decide_eq_true d2;obtain rfl:=of_decide_eq_true d3;rw[←hr];exact h c0 (aG.mk c1 c2 c3) c4 c5 (aS.mk (aH.mk c_1 c_2 c6 c7 c8 c9 c10 c11) (bM.mk c_3 c_4) c12 (aL.mk c13 c14 c15 c16 c17)) hk3
 ·simp at e
section
variable(b:Int)(c:aG)(o:Int)(a:aS)
def aL8:aH:=(J1 a.fr b c.Reg o)
def aL9:Bool:=(aP (aL8 b c o a) (bS a.fbus true))
end
def a6K(b:Int)(c:aG)(d:Int)(o:Int)(a:aS):Pt (aS):=(.ok true (.ok true (.br (eqI c.Mode 0) (.ok (((((aP a.fr true)&&((aP a.fr true)&&true))&&(aP a.fr (J2 a.fr b c.Reg o)))&&true)&&true) (.ok (((aL9 b c o a)&&(aL9 b c o a))&&true) (.leaf {a with fr:=(aL8 b c o a)}))) (.ok ((cE a (aCG 2 b d o a))&&true) (.ok (((bU (wI 2 b d o a).1 true)&&(bU (wI 2 b d o a).1 true))&&true) (.leaf (wI 2 b d o a).1))))))
def a6L(b:Int)(c:aG)(d:Int)(o:Int)(a:aS):aS:=hid (a6K b c d o a).val
def a6M(b:Int)(c:aG)(d:Int)(o:Int)(a:aS):Bool:=hid (a6K b c d o a).okv
def b4Y(b:Int)(c:aG)(d:Int)(o:Int)(a:aS)(r:aS):SV×List Blk:=((.tup []),[.box [.sl 1 0 (ln r.fr.D), .sl 2 0 (ln r.fr.A),li r.fr.Other,li r.fr.PC,li r.fr.Flags,li r.fr.Mask, .lit (.bool r.fr.Super), .lit (.bool r.fr.Trace), .sl 3 0 (ln r.fbus.Bytes), .sl 4 0 (ln r.fbus.Log), .lit (.bool r.fstop),li r.ffault.Vector,li r.ffault.PC,li r.ffault.Addr,li r.ffault.Word, .lit (.bool r.ffault.Write)], .lst 1 r.fr.D, .lst 1 r.fr.A, .lst 1 r.fbus.Bytes, .lst 5 r.fbus.Log])
def q215:=bOO (fun b c d o a=>b4Y b c d o a (a6L b c d o a)) a6M
theorem cH3:cK 215 q215:=bOP fun b c d o a hk=>tc bZO aSJ [(11,K0),(17,K6),(20,K0)] [] true (a6K b c d o a) (b4Y b c d o a) hk
def Q215:=aZ 215 q215 Q219
theorem aSK:QO Q215:=aF cH3 aSJ
def a6N(a:Int)(b:Int):Pt (Int):=(.ok true (.ok ((yB (eqI b 0) 4)&&((JX a)&&((yB (geI b (lQ (xC a) 2)) 8)&&true))) (.ok true (.ok true (.leaf (eW (yA (eqI b 0) 4) (yA (geI b (lQ (xC a) 2)) 8)))))))
def aMA(a:Int)(b:Int):Int:=hid (a6N a b).val
def aMB(a:Int)(b:Int):Bool:=hid (a6N a b).okv
def q249:=JP (fun a b=>VW a b (aMA a b)) aMB
theorem cH4:cK 100249 q249:=tM fun a b hk=>tz b0K aSK [] [] true (a6N a b) (VW a b) hk
def Q249:=aZ 100249 q249 Q215
theorem aSL:QO Q249:=aF cH4 aSK
def aMC(a:Int)(b:Int)(c:Int):Pt (Int):=(.ok true (.ok ((aMB a c)&&true) (.ok true (.ok true (.leaf (eW (bH b 16) (aMA a c)))))))
def hY(a:Int)(b:Int)(c:Int):Int:=hid (aMC a b c).val
def DI(a:Int)(b:Int)(c:Int):Bool:=hid (aMC a b c).okv
def q216:=DS5 (fun a b c=>aFI a b c (hY a b c)) DI
theorem cH5:cK 100216 q216:=CN fun a b c hk=>tz bZP aSL [] [] true (aMC a b c) (aFI a b c) hk
def Q216:=aZ 100216 q216 Q249
theorem aSM:QO Q216:=aF cH5 aSL
def a6O(a:Int)(b:Int):Pt (Int):=(.ok true (.ok ((JX a)&&true) (.br (geI b (lQ (xC a) 2)) (.ok ((JX a)&&true) (.ok true (.ok true (.leaf (cN b (xC a)))))) (.ok true (.ok true (.ok true (.leaf b)))))))
def aCT(a:Int)(b:Int):Int:=hid (a6O a b).val
def aCU(a:Int)(b:Int):Bool:=hid (a6O a b).okv
def q277:=JP (fun a b=>VW a b (aCT a b)) aCU
theorem cH6:cK 100277 q277:=tM fun a b hk=>tz b1C aSM [] [] true (a6O a b) (VW a b) hk
def Q277:=aZ 100277 q277 Q216
theorem aSN:QO Q277:=aF cH6 aSM
section
variable(a:Int)(b:Int)(c:Int)(d:Int)
def HV:Int:=(bH (cN (cN c d) b) (cN (xC a) 1))
def aCV:Bool:=(dC (cN (cN (aCT a c) (aCT a d)) b) (aCT a (HV a b c d)))
end
def aMD(a:Int)(b:Int)(c:Int)(d:Int):Pt (Int×Int):=(.ok true (.ok true (.ok ((JX a)&&true) (.ok ((aCU a c)&&((aCU a d)&&true)) (.ok ((yB (ltI (cN (cN c d) b) 0) 17)&&((aCU a (HV a b c d))&&((yB (aCV a b c d) 2)&&((aMB a (HV a b c d))&&true)))) (.ok true (.ok true (.leaf ((HV a b c d),(eW (eW (yA (ltI (cN (cN c d) b) 0) 17) (yA (aCV a b c d) 2)) (aMA a (HV a b c d))))))))))))
def aCW(a:Int)(b:Int)(c:Int)(d:Int):Int×Int:=hid (aMD a b c d).val
def aFO(a:Int)(b:Int)(c:Int)(d:Int):Bool:=hid (aMD a b c d).okv
def q250:=VX (fun a b c d=>OS a b c d (aCW a b c d)) aFO
theorem cH7:cK 100250 q250:=C6 fun a b c d hk=>tz b0L aSN [] [] true (aMD a b c d) (OS a b c d) hk
def Q250:=aZ 100250 q250 Q277
theorem aSO:QO Q250:=aF cH7 aSN
def cH8(b:aQ)(a:aS):List SV:=[(.one (.ptr 0 0 0)),(.agg [li b.Op,li b.Size,li b.Reg,li b.Ea.Mode,li b.Ea.Reg,li b.Ea.Ext,li b.Sub])]
def cH9(b:aQ)(a:aS):List Blk:=[.box [.sl 1 0 (ln a.fr.D), .sl 2 0 (ln a.fr.A),li a.fr.Other,li a.fr.PC,li a.fr.Flags,li a.fr.Mask, .lit (.bool a.fr.Super), .lit (.bool a.fr.Trace), .sl 3 0 (ln a.fbus.Bytes), .sl 4 0 (ln a.fbus.Log), .lit (.bool a.fstop),li a.ffault.Vector,li a.ffault.PC,li a.ffault.Addr,li a.ffault.Word, .lit (.bool a.ffault.Write)], .lst 1 a.fr.D, .lst 1 a.fr.A, .lst 1 a.fbus.Bytes, .lst 5 a.fbus.Log]
def aME(N:aQ→aS→SV×List Blk)(K:aQ→aS→Bool):List SV→List Blk→Option ((SV×List Blk)×Bool)
 |[(.one (.ptr 0 0 0)),(.agg [li c0,li c1,li c2,li c3,li c4,li c5,li c6])],[.box [.sl 1 0 l1, .sl 2 0 l2,li c7,li c8,li c9,li c10, .lit (.bool c11), .lit (.bool c12), .sl 3 0 l3, .sl 4 0 l4, .lit (.bool c13),li c14,li c15,li c16,li c17, .lit (.bool c18)], .lst 1 c_1, .lst 1 c_2, .lst 1 c_3, .lst 5 c_4]=>some (N (aQ.mk c0 c1 c2 (aG.mk c3 c4 c5) c6) (aS.mk (aH.mk c_1 c_2 c7 c8 c9 c10 c11 c12) (bM.mk c_3 c_4) c13 (aL.mk c14 c15 c16 c17 c18)),eC l1 (ln c_1)&&(eC l2 (ln c_2)&&(eC l3 (ln c_3)&&(eC l4 (ln c_4)&&(K (aQ.mk c0 c1 c2 (aG.mk c3 c4 c5) c6) (aS.mk (aH.mk c_1 c_2 c7 c8 c9 c10 c11 c12) (bM.mk c_3 c_4) c13 (aL.mk c14 c15 c16 c17 c18)))))))
 |_,_=>none
theorem TW{N:aQ→aS→SV×List Blk}{K:aQ→aS→Bool}{f:Nat}(h: ∀(b:aQ)(a:aS),K b a=true→dJ R f (cH8 b a) (cH9 b a)=some (N b a)):cK f (aME N K):=fun args hp r e=>by
 unfold aME at e;split at e
 ·rename_i c0 c1 c2 c3 c4 c5 c6 l1 l2 c7 c8 c9 c10 c11 c12 l3 l4 c13 c14 c15 c16 c17 c18 c_1 c_2 c_3 c_4;obtain⟨hr,hk⟩:=qp (qi e);obtain⟨d0,hk0⟩:=bJ hk;obtain⟨d1,hk1⟩:=bJ hk0;obtain⟨d2,hk2⟩:=bJ hk1;obtain⟨d3,hk3⟩:=bJ hk2;obtain rfl:=of_decide_eq_true d0;obtain rfl:=of_decide_eq_true d1;obtain rfl:=of_decide_eq_true d2;obtain rfl:=of_decide_eq_true d3;rw[←hr];exact h (aQ.mk c0 c1 c2 (aG.mk c3 c4 c5) c6) (aS.mk (aH.mk c_1 c_2 c7 c8 c9 c10 c11 c12) (bM.mk c_3 c_4) c13 (aL.mk c14 c15 c16 c17 c18)) hk3
 ·simp at e
section
variable(b:aQ)(a:aS)
def yP:Bool:=(((bU (iD b.Size b.Ea a).1 true)&&(bU (iD b.Size b.Ea a).1 true))&&true)
def yQ:Int:=(bif (eqI b.Sub 1)then(aCW b.Size 0 0 0).1 else(bif (eqI b.Sub 2)then(cN (cN (xC b.Size) 1) 0)else 0))
def uE:aS:=(a6L b.Size b.Ea (iD b.Size b.Ea a).2 (yQ b) (iD b.Size b.Ea a).1)
def yR:Int:=(bif (eqI b.Sub 1)then(aCW b.Size 0 0 0).2 else(bif (eqI b.Sub 2)then(hY b.Size (iD b.Size b.Ea a).1.fr.Flags (cN (cN (xC b.Size) 1) 0))else(hY b.Size (iD b.Size b.Ea a).1.fr.Flags 0)))
def yS:Bool:=(((bU (cP b.Size b.Ea a).1 true)&&(bU (cP b.Size b.Ea a).1 true))&&true)
def wJ:Int:=(cN (cN (xC b.Size) 1) (cP b.Size b.Ea a).2.1)
def yT:Int×Int:=(aCW b.Size 0 0 (cP b.Size b.Ea a).2.1)
def yU:Int:=(bif (eqI b.Sub 1)then(yT b a).1 else(bif (eqI b.Sub 2)then(wJ b a)else(cP b.Size b.Ea a).2.1))
def uF:aS:=(a6L b.Size b.Ea (cP b.Size b.Ea a).2.2 (yU b a) (cP b.Size b.Ea a).1)
def yV:Int:=(bif (eqI b.Sub 1)then(yT b a).2 else(bif (eqI b.Sub 2)then(hY b.Size (cP b.Size b.Ea a).1.fr.Flags (wJ b a))else(hY b.Size (cP b.Size b.Ea a).1.fr.Flags (cP b.Size b.Ea a).2.1)))
end
def a6P(b:aQ)(a:aS):Pt (aS):=(.ok true (.ok true (.ok true (.ok true (.br (eqI b.Sub 0) (.ok ((cE a (aXB b.Size b.Ea a))&&true) (.ok ((cE (iD b.Size b.Ea a).1 (OU (iD b.Size b.Ea a).1))&&true) (.br (!(J0 (iD b.Size b.Ea a).1)) (.ok (yP b a) (.leaf (iD b.Size b.Ea a).1)) (.ok ((DI b.Size (iD b.Size b.Ea a).1.fr.Flags 0)&&true) (.ok true (.ok true (.ok ((((aFO b.Size 0 0 0)&&true)||(!(eqI b.Sub 1)))&&((((((JX b.Size)&&true)&&((DI b.Size (iD b.Size b.Ea a).1.fr.Flags (cN (cN (xC b.Size) 1) 0))&&true))||(!(eqI b.Sub 2)))&&true)||(eqI b.Sub 1))) (.ok true (.br (ltI b.Sub 3) (.ok ((cE (iD b.Size b.Ea a).1 (a6M b.Size b.Ea (iD b.Size b.Ea a).2 (yQ b) (iD b.Size b.Ea a).1))&&true) (.ok true (.ok (((bU (uE b a) true)&&(bU (uE b a) true))&&true) (.leaf {(uE b a)with fr:={(uE b a).fr with Flags:=(yR b a)}})))) (.ok true (.ok (yP b a) (.leaf {(iD b.Size b.Ea a).1 with fr:={(iD b.Size b.Ea a).1.fr with Flags:=(yR b a)}})))))))))))) (.ok ((cE a (aXA b.Size b.Ea a))&&true) (.ok ((cE (cP b.Size b.Ea a).1 (OU (cP b.Size b.Ea a).1))&&true) (.br (!(J0 (cP b.Size b.Ea a).1)) (.ok (yS b a) (.leaf (cP b.Size b.Ea a).1)) (.ok ((DI b.Size (cP b.Size b.Ea a).1.fr.Flags (cP b.Size b.Ea a).2.1)&&true) (.ok true (.ok true (.ok ((((aFO b.Size 0 0 (cP b.Size b.Ea a).2.1)&&true)||(!(eqI b.Sub 1)))&&((((((JX b.Size)&&true)&&((DI b.Size (cP b.Size b.Ea a).1.fr.Flags (wJ b a))&&true))||(!(eqI b.Sub 2)))&&true)||(eqI b.Sub 1))) (.ok true (.br (ltI b.Sub 3) (.ok ((cE (cP b.Size b.Ea a).1 (a6M b.Size b.Ea (cP b.Size b.Ea a).2.2 (yU b a) (cP b.Size b.Ea a).1))&&true) (.ok true (.ok (((bU (uF b a) true)&&(bU (uF b a) true))&&true) (.leaf {(uF b a)with fr:={(uF b a).fr with Flags:=(yV b a)}})))) (.ok true (.ok (yS b a) (.leaf {(cP b.Size b.Ea a).1 with fr:={(cP b.Size b.Ea a).1.fr with Flags:=(yV b a)}})))))))))))))))))
def a6Q(b:aQ)(a:aS):aS:=hid (a6P b a).val
def bOQ(b:aQ)(a:aS):Bool:=hid (a6P b a).okv
def V2(b:aQ)(a:aS)(r:aS):SV×List Blk:=((.tup []),[.box [.sl 1 0 (ln r.fr.D), .sl 2 0 (ln r.fr.A),li r.fr.Other,li r.fr.PC,li r.fr.Flags,li r.fr.Mask, .lit (.bool r.fr.Super), .lit (.bool r.fr.Trace), .sl 3 0 (ln r.fbus.Bytes), .sl 4 0 (ln r.fbus.Log), .lit (.bool r.fstop),li r.ffault.Vector,li r.ffault.PC,li r.ffault.Addr,li r.ffault.Word, .lit (.bool r.ffault.Write)], .lst 1 r.fr.D, .lst 1 r.fr.A, .lst 1 r.fbus.Bytes, .lst 5 r.fbus.Log])
def q217:=aME (fun b a=>V2 b a (a6Q b a)) bOQ
theorem cIA:cK 217 q217:=TW fun b a hk=>tc bZQ aSO [(8,K0),(12,K0),(14,K4),(19,K0),(21,K4),(29,K0),(34,K0),(38,K0),(43,K0),(51,K0),(57,K0),(62,K0),(66,K0),(70,K0),(72,K4)] [] true (a6P b a) (V2 b a) hk
def Q217:=aZ 217 q217 Q250
theorem aSP:QO Q217:=aF cIA aSO
def aMF(a:Int):Pt (Bool):=(.ok true (.ok true (.ok true (.ok true (.leaf (eqI (bH a 1) 0))))))
def a6R(a:Int):Bool:=hid (aMF a).val
def bFQ(a:Int):Bool:=hid (aMF a).okv
def q278:=BP (fun a=>jZ a (a6R a)) bFQ
theorem cIB:cK 100278 q278:=gS fun a hk=>tz b1D aSP [] [] true (aMF a) (jZ a) hk
def Q278:=aZ 100278 q278 Q217
theorem aSQ:QO Q278:=aF cIB aSP
section
variable(a:Int)(b:Int)(c:Int)(d:Int)
def aMG:Bool:=(bif (eqI a 6)then(eqI a 6)else(eqI a 7))
def aMH:Bool:=(bif (eqI a 4)then(eqI a 4)else(eqI a 5))
def HW:Int:=(yA (geI d (lQ (xC b) 2)) 1)
def lZ:Int:=(bif (a6R a)then(HW b d)else(bH d 1))
def DJ:Int:=(bif (eqI a 1)then(HW b d)else(bif (aMH a)then(lZ a b d)else(bif (aMG a)then(yA (dC (bH c 16) 0) 1)else 0)))
def oY:Int:=(bif (a6R a)then(eW (bH (m7 d 1) (cN (dH 2 (lQ (xC b) 2)) 1)) (DJ a b c d))else(eW (eZ d 1) (dH (DJ a b c d) (lQ (xC b) 2))))
def aMI:Bool:=(geI (oY a b c d) (lQ (xC b) 2))
def aMJ:Bool:=(bif (eqI a 0)then(dC (HW b d) (yA (aMI a b c d) 1))else false)
def HX:Int:=(eW (eW (lZ a b d) (aMA b (oY a b c d))) (yA (aMJ a b c d) 2))
end
def aMK(a:Int)(b:Int)(c:Int)(d:Int):Pt (Int×Int):=(.ok true (.ok ((JX b)&&true) (.ok ((yB (geI d (lQ (xC b) 2)) 1)&&true) (.ok true (.ok true (.ok ((bFQ a)&&true) (.ok true (.ok true (.ok true (.ok ((((((yB (dC (bH c 16) 0) 1)&&true)||(!(aMG a)))&&true)||(aMH a))||(eqI a 1)) (.ok true (.ok ((bFQ a)&&true) (.ok true (.ok ((aMB b (oY a b c d))&&((((yB (aMI a b c d) 1)&&true)||(!(eqI a 0)))&&((yB (aMJ a b c d) 2)&&true))) (.ok true (.br (bif (eqI a 4)then true else(eqI a 5)) (.ok true (.ok true (.ok true (.leaf ((oY a b c d),(eW (HX a b c d) (bH c 16))))))) (.ok true (.ok true (.ok true (.leaf ((oY a b c d),(eW (HX a b c d) (dH (lZ a b d) 16)))))))))))))))))))))))
def OV(a:Int)(b:Int)(c:Int)(d:Int):Int×Int:=hid (aMK a b c d).val
def bOR(a:Int)(b:Int)(c:Int)(d:Int):Bool:=hid (aMK a b c d).okv
def q251:=VX (fun a b c d=>OS a b c d (OV a b c d)) bOR
theorem cIC:cK 100251 q251:=C6 fun a b c d hk=>tz b0M aSQ [] [] true (aMK a b c d) (OS a b c d) hk
def Q251:=aZ 100251 q251 Q278
theorem aCX:QO Q251:=aF cIC aSQ
structure V218_0 where
 mk::
 (s0:Int)
 (s1:Int)
 (s2:Int)
 (s3:Int)
 (s4:Int)
 (s13:Int)
section
variable(v:V218_0)
def wK:Int×Int:=(OV v.s0 v.s1 v.s2 v.s3)
end
def HY(v:V218_0):Pt (Option V218_0):=(.ok true (.br (kU v.s4 0) (.ok ((bOR v.s0 v.s1 v.s2 v.s3)&&true) (.ok true (.ok true (.ok true (.ok true (.ok true (.leaf (some (V218_0.mk v.s0 v.s1 (wK v).2 (wK v).1 (cN v.s4 1) (eW v.s13 (bH (wK v).2 2))))))))))) (.leaf none)))
def TX(v:V218_0):St:=⟨[(0,(.one (li v.s0))),(1,(.one (li v.s1))),(2,(.one (li v.s2))),(3,(.one (li v.s3))),(4,(.one (li v.s4))),(13,(.one (li v.s13)))],[]⟩
def aCY:St→Option (V218_0×Bool)
 |⟨[(0,(.one (li c0))),(1,(.one (li c1))),(2,(.one (li c2))),(3,(.one (li c3))),(4,(.one (li c4))),(13,(.one (li c5)))],[]⟩=>some ((V218_0.mk c0 c1 c2 c3 c4 c5),true)
 |_=>none
def aCZ:St→Option (Pt Out):=x9 Q251 [] [] true [] 0 2097152 aHZ
theorem bFR(v:V218_0):((aCZ (TX v)).bind (sY true false 0 [0,1,2,3,4,13]))=some ((HY v).map (Option.map TX)):=by kernel_rfl
theorem bFS(σ:St)(v:V218_0)(h:aCY σ=some (v,true)):σ=TX v:=by
 unfold aCY at h;split at h
 ·obtain⟨hr,hk⟩:=qp (qi h);rw[←hr];rfl
 ·simp at h
theorem bFT:dB (vF true false 0 [0,1,2,3,4,13] aCZ aCY TX HY 2097152) (fY R 0 2097152 (.loop [0,1,2,3,4,13] aHZ)):=eM (dD aCX (cQ (l:=[]) (by kernel_rfl) trivial)) bFS bFR
def bFU:Lp:=(34,vF true false 0 [0,1,2,3,4,13] aCZ aCY TX HY 2097152)::[]
def A9(v:V218_0):V218_0:=(hid (eG HY 2097152 v)).getD v
def TY(v:V218_0):Bool:=(hid (eG HY 2097152 v)).isSome
section
variable(a:Int)(b:Int)(c:Int)(d:Int)(o:Int)
def aC0:Bool:=(bif (dC (bH c 16) 0)then(geI a 6)else false)
def TZ:V218_0:=(A9 (V218_0.mk a b c d o 0))
end
def aML(a:Int)(b:Int)(c:Int)(d:Int)(o:Int):Pt (Int×Int):=(.ok true (.ok true (.br (eqI o 0) (.ok true (.ok ((aMB b d)&&((yB (aC0 a c) 1)&&true)) (.ok true (.ok true (.leaf (d,(eW (eW (bH c 16) (aMA b d)) (yA (aC0 a c) 1)))))))) (.ok true (.ok true (.ok true (.ok (TY (V218_0.mk a b c d o 0)) (.ok true (.ok true (.ok true (.leaf ((TZ a b c d o).s3,(eW (TZ a b c d o).s2 (TZ a b c d o).s13)))))))))))))
def aFP(a:Int)(b:Int)(c:Int)(d:Int)(o:Int):Int×Int:=hid (aML a b c d o).val
def bFV(a:Int)(b:Int)(c:Int)(d:Int)(o:Int):Bool:=hid (aML a b c d o).okv
def q218:=a34 (fun a b c d o=>bEC a b c d o (aFP a b c d o)) bFV
theorem b4Z:fM (fun live x=>dB (oV bFU (m6 x)) (fY R 0 2097152 (.loop live x))) F218.body:=(cQ (l:=[([0,1,2,3,4,13],aHZ)]) (by kernel_rfl) ⟨fN (n:=34) (by kernel_rfl) fun σ σr t h ho hl=>bFT σ σr t h ho hl,trivial⟩)
theorem cID:cK 100218 q218:=aKY fun a b c d o hk=>tzl bZR aCX b4Z [] [] true (aML a b c d o) (bEC a b c d o) hk
def Q218:=aZ 100218 q218 Q251
theorem aSR:QO Q218:=aF cID aCX
section
variable(b:Int)
def aMM:Bool:=(vG (dC (bH b 8) 0) (dC (bH b 2) 0))
end
def aMN(a:Int)(b:Int):Pt (Bool):=(.ok true (.ok true (.ok true (.ok true (.br (eqI a 2) (.ok true (.ok true (.ok true (.leaf (eqI (bH b 5) 0))))) (.ok true (.br (eqI a 4) (.ok true (.ok true (.ok true (.leaf (eqI (bH b 1) 0))))) (.ok true (.br (eqI a 6) (.ok true (.ok true (.ok true (.leaf (eqI (bH b 4) 0))))) (.ok true (.br (eqI a 8) (.ok true (.ok true (.ok true (.leaf (eqI (bH b 2) 0))))) (.ok true (.br (eqI a 10) (.ok true (.ok true (.ok true (.leaf (eqI (bH b 8) 0))))) (.ok true (.br (eqI a 12) (.ok true (.ok true (.ok true (.leaf (aMM b))))) (.ok true (.br (eqI a 14) (.ok true (.ok true (.ok true (.leaf (bif (aMM b)then(eqI (bH b 4) 0)else false))))) (.ok true (.ok true (.ok true (.leaf true)))))))))))))))))))))
def a6S(a:Int)(b:Int):Bool:=hid (aMN a b).val
def bOS(a:Int)(b:Int):Bool:=hid (aMN a b).okv
def q279:=JP (fun a b=>VT a b (a6S a b)) bOS
theorem cIE:cK 100279 q279:=tM fun a b hk=>tz b1E aSR [] [] true (aMN a b) (VT a b) hk
def Q279:=aZ 100279 q279 Q218
theorem aSS:QO Q279:=aF cIE aSR
def aMO(a:Int)(b:Int):Pt (Bool):=(.ok true (.ok ((bOS (gB a 1) b)&&true) (.ok true (.ok true (.leaf (vG (a6S (gB a 1) b) (eqI (bH a 1) 0)))))))
def aMP(a:Int)(b:Int):Bool:=hid (aMO a b).val
def bOT(a:Int)(b:Int):Bool:=hid (aMO a b).okv
def q252:=JP (fun a b=>VT a b (aMP a b)) bOT
theorem cIF:cK 100252 q252:=tM fun a b hk=>tz b0N aSS [] [] true (aMO a b) (VT a b) hk
def Q252:=aZ 100252 q252 Q279
theorem aST:QO Q252:=aF cIF aSS
def cIG(b:aQ)(c:Int)(a:aS):List SV:=[(.one (.ptr 0 0 0)),(.agg [li b.Op,li b.Size,li b.Reg,li b.Ea.Mode,li b.Ea.Reg,li b.Ea.Ext,li b.Sub]),(.one (li c))]
def cIH(b:aQ)(c:Int)(a:aS):List Blk:=[.box [.sl 1 0 (ln a.fr.D), .sl 2 0 (ln a.fr.A),li a.fr.Other,li a.fr.PC,li a.fr.Flags,li a.fr.Mask, .lit (.bool a.fr.Super), .lit (.bool a.fr.Trace), .sl 3 0 (ln a.fbus.Bytes), .sl 4 0 (ln a.fbus.Log), .lit (.bool a.fstop),li a.ffault.Vector,li a.ffault.PC,li a.ffault.Addr,li a.ffault.Word, .lit (.bool a.ffault.Write)], .lst 1 a.fr.D, .lst 1 a.fr.A, .lst 1 a.fbus.Bytes, .lst 5 a.fbus.Log]
def bFW(N:aQ→Int→aS→SV×List Blk)(K:aQ→Int→aS→Bool):List SV→List Blk→Option ((SV×List Blk)×Bool)
 |[(.one (.ptr 0 0 0)),(.agg [li c0,li c1,li c2,li c3,li c4,li c5,li c6]),(.one (li c7))],[.box [.sl 1 0 l1, .sl 2 0 l2,li c8,li c9,li c10,li c11, .lit (.bool c12), .lit (.bool c13), .sl 3 0 l3, .sl 4 0 l4, .lit (.bool c14),li c15,li c16,li c17,li c18, .lit (.bool c19)], .lst 1 c_1, .lst 1 c_2, .lst 1 c_3, .lst 5 c_4]=>some (N (aQ.mk c0 c1 c2 (aG.mk c3 c4 c5) c6) c7 (aS.mk (aH.mk c_1 c_2 c8 c9 c10 c11 c12 c13) (bM.mk c_3 c_4) c14 (aL.mk c15 c16 c17 c18 c19)),eC l1 (ln c_1)&&(eC l2 (ln c_2)&&(eC l3 (ln c_3)&&(eC l4 (ln c_4)&&(K (aQ.mk c0 c1 c2 (aG.mk c3 c4 c5) c6) c7 (aS.mk (aH.mk c_1 c_2 c8 c9 c10 c11 c12 c13) (bM.mk c_3 c_4) c14 (aL.mk c15 c16 c17 c18 c19)))))))
 |_,_=>none
theorem a6T{N:aQ→Int→aS→SV×List Blk}{K:aQ→Int→aS→Bool}{f:Nat}(h: ∀(b:aQ)(c:Int)(a:aS),K b c a=true→dJ R f (cIG b c a) (cIH b c a)=some (N b c a)):cK f (bFW N K):=fun args hp r e=>by
 unfold bFW at e;split at e
 ·rename_i c0 c1 c2 c3 c4 c5 c6 c7 l1 l2 c8 c9 c10 c11 c12 c13 l3 l4 c14 c15 c16 c17 c18 c19 c_1 c_2 c_3 c_4;obtain⟨hr,hk⟩:=qp (qi e);obtain⟨d0,hk0⟩:=bJ hk;obtain⟨d1,hk1⟩:=bJ hk0;obtain⟨d2,hk2⟩:=bJ hk1;obtain⟨d3,hk3⟩:=bJ hk2;obtain rfl:=of_decide_eq_true d0;obtain rfl:=of_decide_eq_true d1;obtain rfl:=of_decide_eq_true d2;obtain rfl:=of_decide_eq_true d3;rw[←hr];exact h (aQ.mk c0 c1 c2 (aG.mk c3 c4 c5) c6) c7 (aS.mk (aH.mk c_1 c_2 c8 c9 c10 c11 c12 c13) (bM.mk c_3 c_4) c14 (aL.mk c15 c16 c17 c18 c19)) hk3
 ·simp at e
section
variable(b:aQ)(a:aS)
def DK:Bool:=(((bU a true)&&(bU a true))&&true)
def qU:aS:=(g79 (iD 2 b.Ea a).1.fr.PC (iD 2 b.Ea a).1)
def DL:Bool:=(((bU (qU b a) true)&&(bU (qU b a) true))&&true)
def DM:Bool:=(((bU (iD 2 b.Ea a).1 true)&&(bU (iD 2 b.Ea a).1 true))&&true)
end
def a6U(b:aQ)(c:Int)(a:aS):Pt (aS):=(.ok true (.ok true (.br (eqI b.Op 13) (.ok ((bOT (bE b.Sub (dH 8 b.Reg)) a.fr.Flags)&&true) (.br (aMP (bE b.Sub (dH 8 b.Reg)) a.fr.Flags) (.ok true (.ok (DK a) (.leaf {a with fr:={a.fr with PC:=(bH (bE (bE c 2) b.Ea.Ext) 65535)}}))) (.ok (DK a) (.leaf a)))) (.ok ((cE a (aXB 2 b.Ea a))&&true) (.ok true (.br (eqI b.Sub 1) (.ok ((cE (iD 2 b.Ea a).1 (k79 (iD 2 b.Ea a).1.fr.PC (iD 2 b.Ea a).1))&&true) (.ok ((cE (qU b a) (OU (qU b a)))&&true) (.br (J0 (qU b a)) (.ok true (.ok (DL b a) (.leaf {(qU b a)with fr:={(qU b a).fr with PC:=(iD 2 b.Ea a).2}}))) (.ok (DL b a) (.leaf (qU b a)))))) (.ok ((cE (iD 2 b.Ea a).1 (OU (iD 2 b.Ea a).1))&&true) (.br (J0 (iD 2 b.Ea a).1) (.ok true (.ok (DM b a) (.leaf {(iD 2 b.Ea a).1 with fr:={(iD 2 b.Ea a).1.fr with PC:=(iD 2 b.Ea a).2}}))) (.ok (DM b a) (.leaf (iD 2 b.Ea a).1))))))))))
def a6V(b:aQ)(c:Int)(a:aS):aS:=hid (a6U b c a).val
def bOU(b:aQ)(c:Int)(a:aS):Bool:=hid (a6U b c a).okv
def bFX(b:aQ)(c:Int)(a:aS)(r:aS):SV×List Blk:=((.tup []),[.box [.sl 1 0 (ln r.fr.D), .sl 2 0 (ln r.fr.A),li r.fr.Other,li r.fr.PC,li r.fr.Flags,li r.fr.Mask, .lit (.bool r.fr.Super), .lit (.bool r.fr.Trace), .sl 3 0 (ln r.fbus.Bytes), .sl 4 0 (ln r.fbus.Log), .lit (.bool r.fstop),li r.ffault.Vector,li r.ffault.PC,li r.ffault.Addr,li r.ffault.Word, .lit (.bool r.ffault.Write)], .lst 1 r.fr.D, .lst 1 r.fr.A, .lst 1 r.fbus.Bytes, .lst 5 r.fbus.Log])
def q220:=bFW (fun b c a=>bFX b c a (a6V b c a)) bOU
theorem cII:cK 220 q220:=a6T fun b c a hk=>tc bZT aST [(8,K0),(11,K0),(13,K0),(20,K0),(27,K0),(35,K4),(38,K0),(45,K0)] [] true (a6U b c a) (bFX b c a) hk
def Q220:=aZ 220 q220 Q252
theorem aSU:QO Q220:=aF cII aST
section
variable(a:aS)
def oQ:aS×Int:=(wI 1 2 (bQ a.fr.A 3 0) 0 a)
def a6W:List Row:=(List.set (oQ a).1.fr.A 3 (bB (bH (bE (bQ (oQ a).1.fr.A 3 0) 2) 65535)))
def a6X:Bool:=((e1 (ln (oQ a).1.fr.D))&&((eC (ln (oQ a).1.fr.A) (ln (a6W a)))&&(bS (oQ a).1.fbus true)))
end
def T85(a:aS):Pt (aS×Int):=(.ok true (.ok ((ltI 3 (cA a.fr.A))&&((dU [.int .i64] a.fr.A 3 0)&&((cE a (aCG 1 2 (bQ a.fr.A 3 0) 0 a))&&true))) (.ok ((cE (oQ a).1 (OU (oQ a).1))&&true) (.br (J0 (oQ a).1) (.ok (((ltI 3 (cA (oQ a).1.fr.A))&&((dU [.int .i64] (oQ a).1.fr.A 3 0)&&((ltI 3 (cA (oQ a).1.fr.A))&&(((blt 3 (ln (oQ a).1.fr.A))&&(jW (jX (oQ a).1.fr.A 3) 1))&&true))))&&true) (.ok true (.ok ((((bU (oQ a).1 true)&&(a6X a))&&true)&&((a6X a)&&true)) (.leaf ({(oQ a).1 with fr:={(oQ a).1.fr with A:=(a6W a)}},(oQ a).2))))) (.ok true (.ok (dd (bU (oQ a).1 true) ((bU (oQ a).1 true)&&true)) (.leaf ((oQ a).1,(oQ a).2))))))))
def xD(a:aS):aS×Int:=hid (T85 a).val
def k85(a:aS):Bool:=hid (T85 a).okv
def n85(a:aS)(r:aS×Int):SV×List Blk:=((.one (li r.2)),[.box [.sl 1 0 (ln r.1.fr.D), .sl 2 0 (ln r.1.fr.A),li r.1.fr.Other,li r.1.fr.PC,li r.1.fr.Flags,li r.1.fr.Mask, .lit (.bool r.1.fr.Super), .lit (.bool r.1.fr.Trace), .sl 3 0 (ln r.1.fbus.Bytes), .sl 4 0 (ln r.1.fbus.Log), .lit (.bool r.1.fstop),li r.1.ffault.Vector,li r.1.ffault.PC,li r.1.ffault.Addr,li r.1.ffault.Word, .lit (.bool r.1.ffault.Write)], .lst 1 r.1.fr.D, .lst 1 r.1.fr.A, .lst 1 r.1.fbus.Bytes, .lst 5 r.1.fbus.Log])
def q85:=aW6 (fun a=>n85 a (xD a)) k85
theorem t85:cK 85 q85:=aB9 fun a hk=>tc b93 aSU [(9,K1),(10,K0),(11,K0),(19,K1),(24,K1),(25,K0),(26,K0),(29,K0),(1000001,[])] [] true (T85 a) (n85 a) hk
def Q85:=aZ 85 q85 Q220
theorem a6Y:QO Q85:=aF t85 aSU
def a6Z(b:Int)(a:aS):Pt (aS):=(.ok true (.ok true (.ok (((bU a true)&&(bU a true))&&true) (.leaf {a with ffault:={a.ffault with Vector:=b,PC:=a.fr.PC}}))))
def bFY(b:Int)(a:aS):aS:=hid (a6Z b a).val
def bFZ(b:Int)(a:aS):Bool:=hid (a6Z b a).okv
def q253:=bFE (fun b a=>n79 b a (bFY b a)) bFZ
theorem cIJ:cK 253 q253:=a5X fun b a hk=>tc b0O a6Y [(14,K0)] [] true (a6Z b a) (n79 b a) hk
def Q253:=aZ 253 q253 Q85
theorem aSV:QO Q253:=aF cIJ a6Y
def a60(a:Int):Pt (Int×Bool):=(.ok true (.ok ((a42 2 a)&&true) (.br (!(a41 2 a)) (.ok true (.ok true (.ok true (.leaf (0,false))))) (.ok true (.ok true (.ok true (.leaf ((eW (eZ a 8) (m7 (bH a 255) 8)),true))))))))
def bF0(a:Int):Int×Bool:=hid (a60 a).val
def bOV(a:Int):Bool:=hid (a60 a).okv
def bF1(a:Int)(r:Int×Bool):SV×List Blk:=((.tup [(.one (li r.1)),(.one (.lit (.bool r.2)))]),[])
def q254:=BP (fun a=>bF1 a (bF0 a)) bOV
theorem cIK:cK 100254 q254:=gS fun a hk=>tz b0P aSV [] [] true (a60 a) (bF1 a) hk
def Q254:=aZ 100254 q254 Q253
theorem aSW:QO Q254:=aF cIK aSV
def cIL(b:Int)(c:Int)(d:Int)(a:aS):List SV:=[(.one (.ptr 0 0 0)),(.one (li b)),(.one (li c)),(.one (li d))]
def cIM(b:Int)(c:Int)(d:Int)(a:aS):List Blk:=[.box [.sl 1 0 (ln a.fr.D), .sl 2 0 (ln a.fr.A),li a.fr.Other,li a.fr.PC,li a.fr.Flags,li a.fr.Mask, .lit (.bool a.fr.Super), .lit (.bool a.fr.Trace), .sl 3 0 (ln a.fbus.Bytes), .sl 4 0 (ln a.fbus.Log), .lit (.bool a.fstop),li a.ffault.Vector,li a.ffault.PC,li a.ffault.Addr,li a.ffault.Word, .lit (.bool a.ffault.Write)], .lst 1 a.fr.D, .lst 1 a.fr.A, .lst 1 a.fbus.Bytes, .lst 5 a.fbus.Log]
def bOW(N:Int→Int→Int→aS→SV×List Blk)(K:Int→Int→Int→aS→Bool):List SV→List Blk→Option ((SV×List Blk)×Bool)
 |[(.one (.ptr 0 0 0)),(.one (li c0)),(.one (li c1)),(.one (li c2))],[.box [.sl 1 0 l1, .sl 2 0 l2,li c3,li c4,li c5,li c6, .lit (.bool c7), .lit (.bool c8), .sl 3 0 l3, .sl 4 0 l4, .lit (.bool c9),li c10,li c11,li c12,li c13, .lit (.bool c14)], .lst 1 c_1, .lst 1 c_2, .lst 1 c_3, .lst 5 c_4]=>some (N c0 c1 c2 (aS.mk (aH.mk c_1 c_2 c3 c4 c5 c6 c7 c8) (bM.mk c_3 c_4) c9 (aL.mk c10 c11 c12 c13 c14)),eC l1 (ln c_1)&&(eC l2 (ln c_2)&&(eC l3 (ln c_3)&&(eC l4 (ln c_4)&&(K c0 c1 c2 (aS.mk (aH.mk c_1 c_2 c3 c4 c5 c6 c7 c8) (bM.mk c_3 c_4) c9 (aL.mk c10 c11 c12 c13 c14)))))))
 |_,_=>none
theorem bOX{N:Int→Int→Int→aS→SV×List Blk}{K:Int→Int→Int→aS→Bool}{f:Nat}(h: ∀(b:Int)(c:Int)(d:Int)(a:aS),K b c d a=true→dJ R f (cIL b c d a) (cIM b c d a)=some (N b c d a)):cK f (bOW N K):=fun args hp r e=>by
 unfold bOW at e;split at e
 ·rename_i c0 c1 c2 l1 l2 c3 c4 c5 c6 c7 c8 l3 l4 c9 c10 c11 c12 c13 c14 c_1 c_2 c_3 c_4;obtain⟨hr,hk⟩:=qp (qi e);obtain⟨d0,hk0⟩:=bJ hk;obtain⟨d1,hk1⟩:=bJ hk0;obtain⟨d2,hk2⟩:=bJ hk1;obtain⟨d3,hk3⟩:=bJ hk2;obtain rfl:=of_decide_eq_true d0;obtain rfl:=of_decide_eq_true d1;obtain rfl:=of_decide_eq_true d2;obtain rfl:=of_decide_eq_true d3;rw[←hr];exact h c0 c1 c2 (aS.mk (aH.mk c_1 c_2 c3 c4 c5 c6 c7 c8) (bM.mk c_3 c_4) c9 (aL.mk c10 c11 c12 c13 c14)) hk3
 ·simp at e
section
variable(b:Int)(c:Int)(d:Int)(a:aS)
def aMQ:aH:=(J1 {a.fr with Flags:=(hY b a.fr.Flags d)} b c d)
def aMR:Bool:=(aP (aMQ b c d a) (bS a.fbus true))
end
def a61(b:Int)(c:Int)(d:Int)(a:aS):Pt (aS):=(.ok ((DI b a.fr.Flags d)&&true) (.ok ((((aP a.fr true)&&((aP a.fr true)&&true))&&(aP a.fr (J2 {a.fr with Flags:=(hY b a.fr.Flags d)} b c d)))&&true) (.ok (((aMR b c d a)&&(aMR b c d a))&&true) (.leaf {a with fr:=(aMQ b c d a)}))))
def aXC(b:Int)(c:Int)(d:Int)(a:aS):aS:=hid (a61 b c d a).val
def aXD(b:Int)(c:Int)(d:Int)(a:aS):Bool:=hid (a61 b c d a).okv
def b42(b:Int)(c:Int)(d:Int)(a:aS)(r:aS):SV×List Blk:=((.tup []),[.box [.sl 1 0 (ln r.fr.D), .sl 2 0 (ln r.fr.A),li r.fr.Other,li r.fr.PC,li r.fr.Flags,li r.fr.Mask, .lit (.bool r.fr.Super), .lit (.bool r.fr.Trace), .sl 3 0 (ln r.fbus.Bytes), .sl 4 0 (ln r.fbus.Log), .lit (.bool r.fstop),li r.ffault.Vector,li r.ffault.PC,li r.ffault.Addr,li r.ffault.Word, .lit (.bool r.ffault.Write)], .lst 1 r.fr.D, .lst 1 r.fr.A, .lst 1 r.fbus.Bytes, .lst 5 r.fbus.Log])
def q255:=bOW (fun b c d a=>b42 b c d a (aXC b c d a)) aXD
theorem cIN:cK 255 q255:=bOX fun b c d a hk=>tc b0Q aSW [(14,K0),(24,K6)] [] true (a61 b c d a) (b42 b c d a) hk
def Q255:=aZ 255 q255 Q254
theorem aSX:QO Q255:=aF cIN aSW
def a62(a:Int):Pt (Int×Bool):=(.ok true (.ok ((a42 1 a)&&true) (.br (!(a41 1 a)) (.ok true (.ok true (.ok true (.leaf (0,false))))) (.ok ((aCU 1 a)&&true) (.ok true (.ok true (.leaf ((bH (aCT 1 a) 65535),true))))))))
def bF2(a:Int):Int×Bool:=hid (a62 a).val
def bOY(a:Int):Bool:=hid (a62 a).okv
def q256:=BP (fun a=>bF1 a (bF2 a)) bOY
theorem cIO:cK 100256 q256:=gS fun a hk=>tz b0R aSX [] [] true (a62 a) (bF1 a) hk
def Q256:=aZ 100256 q256 Q255
theorem aSY:QO Q256:=aF cIO aSX
end
end Go.Proofs.YtdipcnijfkdnfaaGreatIrqs
