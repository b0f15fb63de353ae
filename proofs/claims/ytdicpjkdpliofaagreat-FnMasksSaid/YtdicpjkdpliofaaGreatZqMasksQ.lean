import Derived.Test.YtdicpjkdpliofaaGreatZqTabMasks
import Derived.Test.YtdicpjkdpliofaaGreatZmc
import Derived.KernelRfl
import Derived.Test.YtdicpjkdpliofaaGreatZqMasksR
import Derived.Test.YtdicpjkdpliofaaGreatZqMasksQa
set_option linter.unusedVariables false
set_option linter.unusedSimpArgs false
namespace Go.Proofs.YtdicpjkdpliofaaGreatMasks
open Option.some renaming inj → qi
open Prod.mk renaming inj → qp
open Int renaming toNat → iN
open Go Go.Zq
open List renaming length→ln
set_option maxRecDepth 100000
set_option maxHeartbeats 4000000
noncomputable section
def aZH(a:Int)(b:Int):Pt (Bool):=(ot (ot (ot (ot (ot (.br (eqI (aJ a 1) 2) (.ok ((M5 5 b)&&true) (ot (ot (ot (.leaf (rD (!(KX 5 b)) (eqI (iC a 2) 0))))))) (ot (.br (eqI (aJ a 1) 4) (.ok ((M5 1 b)&&true) (ot (ot (ot (.leaf (rD (!(KX 1 b)) (eqI (iC a 2) 0))))))) (ot (.br (eqI (aJ a 1) 6) (.ok ((M5 4 b)&&true) (ot (ot (ot (.leaf (rD (!(KX 4 b)) (eqI (iC a 2) 0))))))) (ot (.br (eqI (aJ a 1) 8) (.ok ((M5 2 b)&&true) (ot (ot (ot (.leaf (rD (!(KX 2 b)) (eqI (iC a 2) 0))))))) (ot (.br (eqI (aJ a 1) 10) (.ok ((M5 8 b)&&true) (ot (ot (ot (.leaf (rD (!(KX 8 b)) (eqI (iC a 2) 0))))))) (ot (.br (eqI (aJ a 1) 12) (.ok ((M5 8 b)&&((M5 2 b)&&true)) (ot (ot (ot (.leaf (rD (rD (KX 8 b) (KX 2 b)) (eqI (iC a 2) 0))))))) (ot (.br (eqI (aJ a 1) 14) (.ok ((M5 4 b)&&((((M5 8 b)&&((M5 2 b)&&true))||(!(!(KX 4 b))))&&true)) (ot (ot (ot (.leaf (rD (bif (!(KX 4 b))then(rD (KX 8 b) (KX 2 b))else false) (eqI (iC a 2) 0))))))) (ot (ot (ot (.leaf (rD true (eqI (iC a 2) 0))))))))))))))))))))))))
def bGJ(a:Int)(b:Int):Bool:=hid (aZH a b).val
def bGK(a:Int)(b:Int):Bool:=hid (aZH a b).okv
def q289:=M1 (fun a b=>S7 a b (bGJ a b)) bGK
theorem bV7:cG 100289 q289:=xP fun a b hk=>tz aMY (aZH a b) (S7 a b) hk
def Q289:=aT 100289 q289 Q334
theorem aMZ:QO Q289:=aC bV7 aMY
def bV8(b:Int)(a:aH):List SV:=[(.one (.ptr 0 0 0)),(.one (li b))]
def bV9(b:Int)(a:aH):List Blk:=[.box [.sl 1 0 (ln a.R.D), .sl 2 0 (ln a.R.A),li a.R.Other,li a.R.PC,li a.R.Flags,li a.R.Mask, .lit (.bool a.R.Super), .lit (.bool a.R.Trace), .sl 3 0 (ln a.Bus.Bytes), .sl 4 0 (ln a.Bus.Log), .lit (.bool a.Stop), .lit (.bool a.Halt)], .lst 1 a.R.D, .lst 1 a.R.A, .lst 1 a.Bus.Bytes, .lst 5 a.Bus.Log]
def bGL(N:Int→aH→SV×List Blk)(K:Int→aH→Bool):List SV→List Blk→Option ((SV×List Blk)×Bool)
 |[(.one (.ptr 0 0 0)),(.one (li c0))],[.box [.sl 1 0 l1, .sl 2 0 l2,li c1,li c2,li c3,li c4, .lit (.bool c5), .lit (.bool c6), .sl 3 0 l3, .sl 4 0 l4, .lit (.bool c7), .lit (.bool c8)], .lst 1 c_1, .lst 1 c_2, .lst 1 c_3, .lst 5 c_4]=>some (N c0 (aH.mk (aG.mk c_1 c_2 c1 c2 c3 c4 c5 c6) (bG.mk c_3 c_4) c7 c8),eD l1 (ln c_1)&&(eD l2 (ln c_2)&&(eD l3 (ln c_3)&&(eD l4 (ln c_4)&&(K c0 (aH.mk (aG.mk c_1 c_2 c1 c2 c3 c4 c5 c6) (bG.mk c_3 c_4) c7 c8))))))
 |_,_=>none
theorem bGM{N:Int→aH→SV×List Blk}{K:Int→aH→Bool}{f:Nat}(h: ∀(b:Int)(a:aH),K b a=true→dL R f (bV8 b a) (bV9 b a)=some (N b a)):cG f (bGL N K):=fun args hp r e=>by
 unfold bGL at e;split at e
 ·rename_i c0 l1 l2 c1 c2 c3 c4 c5 c6 l3 l4 c7 c8 c_1 c_2 c_3 c_4;obtain⟨hr,hk⟩:=qp (qi e);obtain⟨d0,hk0⟩:=bB hk;obtain⟨d1,hk1⟩:=bB hk0;obtain⟨d2,hk2⟩:=bB hk1;obtain⟨d3,hk3⟩:=bB hk2;obtain rfl:=of_decide_eq_true d0;obtain rfl:=of_decide_eq_true d1;obtain rfl:=of_decide_eq_true d2;obtain rfl:=of_decide_eq_true d3;rw[←hr];exact h c0 (aH.mk (aG.mk c_1 c_2 c1 c2 c3 c4 c5 c6) (bG.mk c_3 c_4) c7 c8) hk3
 ·simp at e
section
variable(b:Int)(a:aH)
def CL:bG×Int×Int:=(S9 2 2 (aD (bZ (bD a.R.A 3 0) 2) 65535) b a.Bus)
def ZF:Bool:=(aK a.R (bH (CL b a).1 true))
def aHI:List Row:=(List.set a.R.A 3 (aU (aD (bZ (bD a.R.A 3 0) 2) 65535)))
def aHJ:Bool:=((e1 (ln a.R.D))&&((eD (ln a.R.A) (ln (aHI a)))&&(bH (CL b a).1 true)))
end
def aZI(b:Int)(a:aH):Pt (aH×Int×Int):=(ot (.ok ((ltI 3 (bL a.R.A))&&((dM [.int .i64] a.R.A 3 0)&&true)) (.ok ((xK a.Bus (TA 2 2 (aD (bZ (bD a.R.A 3 0) 2) 65535) b a.Bus))&&true) (ot (.br (eqI (CL b a).2.2 0) (.ok ((ltI 3 (bL a.R.A))&&(((blt 3 (ln a.R.A))&&(jT (jU a.R.A 3) 1))&&true)) (ot (.ok ((((ZF b a)&&(aHJ b a))&&true)&&((aHJ b a)&&true)) (.leaf ({a with R:={a.R with A:=(aHI a)},Bus:=(CL b a).1},(aD (bZ (bD a.R.A 3 0) 2) 65535),(CL b a).2.2))))) (ot (.ok (dd (ZF b a) ((ZF b a)&&true)) (.leaf ({a with Bus:=(CL b a).1},(aD (bZ (bD a.R.A 3 0) 2) 65535),(CL b a).2.2)))))))))
def M6(b:Int)(a:aH):aH×Int×Int:=hid (aZI b a).val
def bGN(b:Int)(a:aH):Bool:=hid (aZI b a).okv
def bNH(b:Int)(a:aH)(r:aH×Int×Int):SV×List Blk:=((.tup [(.one (li r.2.1)),(.one (li r.2.2))]),[.box [.sl 1 0 (ln r.1.R.D), .sl 2 0 (ln r.1.R.A),li r.1.R.Other,li r.1.R.PC,li r.1.R.Flags,li r.1.R.Mask, .lit (.bool r.1.R.Super), .lit (.bool r.1.R.Trace), .sl 3 0 (ln r.1.Bus.Bytes), .sl 4 0 (ln r.1.Bus.Log), .lit (.bool r.1.Stop), .lit (.bool r.1.Halt)], .lst 1 r.1.R.D, .lst 1 r.1.R.A, .lst 1 r.1.Bus.Bytes, .lst 5 r.1.Bus.Log])
def q266:=bGL (fun b a=>bNH b a (M6 b a)) bGN
theorem bWA:cG 266 q266:=bGM fun b a hk=>tcx aMZ [(1000001,[])] [] true (aZI b a) (bNH b a) hk
def Q266:=aT 266 q266 Q289
theorem aM0:QO Q266:=aC bWA aMZ
def aZJ(b:Int)(a:aX)(x0_fc:aH):Pt (aX×aH):=(.ok ((bX x0_fc (bGN b x0_fc))&&true) (.ok ((bX (M6 b x0_fc).1 (aSB (M6 b x0_fc).2.2 (M6 b x0_fc).2.1 true a (M6 b x0_fc).1))&&true) (.ok (((aS (M6 b x0_fc).1 true)&&(aS (M6 b x0_fc).1 true))&&true) (.leaf ((aSA (M6 b x0_fc).2.2 (M6 b x0_fc).2.1 true a (M6 b x0_fc).1),(M6 b x0_fc).1)))))
def bGO(b:Int)(a:aX)(x0_fc:aH):aX×aH:=hid (aZJ b a x0_fc).val
def bGP(b:Int)(a:aX)(x0_fc:aH):Bool:=hid (aZJ b a x0_fc).okv
def bNI(b:Int)(a:aX)(x0_fc:aH)(r:aX×aH):SV×List Blk:=((.tup []),[.box [.ptr 1 0 0,li r.1.fx.Op,li r.1.fx.Size,li r.1.fx.Reg,li r.1.fx.Ea.Mode,li r.1.fx.Ea.Reg,li r.1.fx.Ea.Ext,li r.1.fx.Sub,li r.1.fpc,li r.1.fword,li r.1.ffault.Vector,li r.1.ffault.PC,li r.1.ffault.Addr,li r.1.ffault.Word, .lit (.bool r.1.ffault.Write)], .box [.sl 2 0 (ln r.2.R.D), .sl 3 0 (ln r.2.R.A),li r.2.R.Other,li r.2.R.PC,li r.2.R.Flags,li r.2.R.Mask, .lit (.bool r.2.R.Super), .lit (.bool r.2.R.Trace), .sl 4 0 (ln r.2.Bus.Bytes), .sl 5 0 (ln r.2.Bus.Log), .lit (.bool r.2.Stop), .lit (.bool r.2.Halt)], .lst 1 r.2.R.D, .lst 1 r.2.R.A, .lst 1 r.2.Bus.Bytes, .lst 5 r.2.Bus.Log])
def q335:=aGS (fun b a x0_fc=>bNI b a x0_fc (bGO b a x0_fc)) bGP
theorem bWB:cG 335 q335:=QD fun b a x0_fc hk=>tc aM0 (aZJ b a x0_fc) (bNI b a x0_fc) hk
def Q335:=aT 335 q335 Q266
theorem aM1:QO Q335:=aC bWB aM0
section
variable(a:aX)(x0_fc:aH)
def vO:aG×Int:=(aGY a.fx.Size a.fx.Ea x0_fc.R)
def QX:Bool:=(aK (vO a x0_fc).1 (bH x0_fc.Bus true))
def aHK:Int:=(aCM a {x0_fc with R:=(vO a x0_fc).1})
def KY:aX×aH:=(bGO (aHK a x0_fc) a {x0_fc with R:=(vO a x0_fc).1})
end
def aZK(a:aX)(x0_fc:aH):Pt (aX×aH):=(.ok (((iW x0_fc.R (aGZ a.fx.Size a.fx.Ea x0_fc.R))&&true)&&true) (ot (.br (eqI a.fx.Sub 1) (.ok ((dd (QX a x0_fc) (aK (vO a x0_fc).1 (bH x0_fc.Bus (aR9 a {x0_fc with R:=(vO a x0_fc).1}))))&&((dd (QX a x0_fc) (aK (vO a x0_fc).1 (bH x0_fc.Bus (bGP (aHK a x0_fc) a {x0_fc with R:=(vO a x0_fc).1}))))&&true)) (ot (.ok (((aS (KY a x0_fc).2 true)&&(aS (KY a x0_fc).2 true))&&true) (.leaf ((KY a x0_fc).1,{(KY a x0_fc).2 with R:={(KY a x0_fc).2.R with PC:=(vO a x0_fc).2}}))))) (ot (.ok (((QX a x0_fc)&&(QX a x0_fc))&&true) (.leaf (a,{x0_fc with R:={(vO a x0_fc).1 with PC:=(vO a x0_fc).2}})))))))
def aSL(a:aX)(x0_fc:aH):aX×aH:=hid (aZK a x0_fc).val
def bGQ(a:aX)(x0_fc:aH):Bool:=hid (aZK a x0_fc).okv
def q290:=KO (fun a x0_fc=>D4 a x0_fc (aSL a x0_fc)) bGQ
theorem bWC:cG 290 q290:=vG fun a x0_fc hk=>tc aM1 (aZK a x0_fc) (D4 a x0_fc) hk
def Q290:=aT 290 q290 Q335
theorem aM2:QO Q290:=aC bWC aM1
def bWD(a:aH):List SV:=[(.one (.ptr 0 0 0))]
def bWE(a:aH):List Blk:=[.box [.sl 1 0 (ln a.R.D), .sl 2 0 (ln a.R.A),li a.R.Other,li a.R.PC,li a.R.Flags,li a.R.Mask, .lit (.bool a.R.Super), .lit (.bool a.R.Trace), .sl 3 0 (ln a.Bus.Bytes), .sl 4 0 (ln a.Bus.Log), .lit (.bool a.Stop), .lit (.bool a.Halt)], .lst 1 a.R.D, .lst 1 a.R.A, .lst 1 a.Bus.Bytes, .lst 5 a.Bus.Log]
def bGR(N:aH→SV×List Blk)(K:aH→Bool):List SV→List Blk→Option ((SV×List Blk)×Bool)
 |[(.one (.ptr 0 0 0))],[.box [.sl 1 0 l1, .sl 2 0 l2,li c0,li c1,li c2,li c3, .lit (.bool c4), .lit (.bool c5), .sl 3 0 l3, .sl 4 0 l4, .lit (.bool c6), .lit (.bool c7)], .lst 1 c_1, .lst 1 c_2, .lst 1 c_3, .lst 5 c_4]=>some (N (aH.mk (aG.mk c_1 c_2 c0 c1 c2 c3 c4 c5) (bG.mk c_3 c_4) c6 c7),eD l1 (ln c_1)&&(eD l2 (ln c_2)&&(eD l3 (ln c_3)&&(eD l4 (ln c_4)&&(K (aH.mk (aG.mk c_1 c_2 c0 c1 c2 c3 c4 c5) (bG.mk c_3 c_4) c6 c7))))))
 |_,_=>none
theorem bGS{N:aH→SV×List Blk}{K:aH→Bool}{f:Nat}(h: ∀(a:aH),K a=true→dL R f (bWD a) (bWE a)=some (N a)):cG f (bGR N K):=fun args hp r e=>by
 unfold bGR at e;split at e
 ·rename_i l1 l2 c0 c1 c2 c3 c4 c5 l3 l4 c6 c7 c_1 c_2 c_3 c_4;obtain⟨hr,hk⟩:=qp (qi e);obtain⟨d0,hk0⟩:=bB hk;obtain⟨d1,hk1⟩:=bB hk0;obtain⟨d2,hk2⟩:=bB hk1;obtain⟨d3,hk3⟩:=bB hk2;obtain rfl:=of_decide_eq_true d0;obtain rfl:=of_decide_eq_true d1;obtain rfl:=of_decide_eq_true d2;obtain rfl:=of_decide_eq_true d3;rw[←hr];exact h (aH.mk (aG.mk c_1 c_2 c0 c1 c2 c3 c4 c5) (bG.mk c_3 c_4) c6 c7) hk3
 ·simp at e
section
variable(a:aH)
def xV:bG×Int×Int:=(S9 1 2 (bD a.R.A 3 0) 0 a.Bus)
def ZG:Bool:=(aK a.R (bH (xV a).1 true))
def aHL:List Row:=(List.set a.R.A 3 (aU (aD (aV (bD a.R.A 3 0) 2) 65535)))
def aHM:Bool:=((e1 (ln a.R.D))&&((eD (ln a.R.A) (ln (aHL a)))&&(bH (xV a).1 true)))
end
def aZL(a:aH):Pt (aH×Int×Int×Int):=(ot (.ok ((ltI 3 (bL a.R.A))&&((dM [.int .i64] a.R.A 3 0)&&true)) (.ok ((xK a.Bus (TA 1 2 (bD a.R.A 3 0) 0 a.Bus))&&true) (ot (.br (eqI (xV a).2.2 0) (.ok ((ltI 3 (bL a.R.A))&&(((blt 3 (ln a.R.A))&&(jT (jU a.R.A 3) 1))&&true)) (ot (.ok ((((ZG a)&&(aHM a))&&true)&&((aHM a)&&true)) (.leaf ({a with R:={a.R with A:=(aHL a)},Bus:=(xV a).1},(xV a).2.1,(bD a.R.A 3 0),(xV a).2.2))))) (ot (.ok (dd (ZG a) ((ZG a)&&true)) (.leaf ({a with Bus:=(xV a).1},(xV a).2.1,(bD a.R.A 3 0),(xV a).2.2)))))))))
def KZ(a:aH):aH×Int×Int×Int:=hid (aZL a).val
def bGT(a:aH):Bool:=hid (aZL a).okv
def bNJ(a:aH)(r:aH×Int×Int×Int):SV×List Blk:=((.tup [(.one (li r.2.1)),(.one (li r.2.2.1)),(.one (li r.2.2.2))]),[.box [.sl 1 0 (ln r.1.R.D), .sl 2 0 (ln r.1.R.A),li r.1.R.Other,li r.1.R.PC,li r.1.R.Flags,li r.1.R.Mask, .lit (.bool r.1.R.Super), .lit (.bool r.1.R.Trace), .sl 3 0 (ln r.1.Bus.Bytes), .sl 4 0 (ln r.1.Bus.Log), .lit (.bool r.1.Stop), .lit (.bool r.1.Halt)], .lst 1 r.1.R.D, .lst 1 r.1.R.A, .lst 1 r.1.Bus.Bytes, .lst 5 r.1.Bus.Log])
def q357:=bGR (fun a=>bNJ a (KZ a)) bGT
theorem bWF:cG 357 q357:=bGS fun a hk=>tcx aM2 [(1000001,[])] [] true (aZL a) (bNJ a) hk
def Q357:=aT 357 q357 Q290
theorem aM3:QO Q357:=aC bWF aM2
def aHN(a:aX)(x0_fc:aH):Pt (aX×aH×Int):=(ot (ot (.br (cV a.ffault.Vector 0) (ot (.ok (((aS x0_fc true)&&(aS x0_fc true))&&true) (.leaf (a,x0_fc,0)))) (.ok ((bX x0_fc (bGT x0_fc))&&true) (.ok ((bX (KZ x0_fc).1 (aSB (KZ x0_fc).2.2.2 (KZ x0_fc).2.2.1 false a (KZ x0_fc).1))&&true) (ot (.ok (((aS (KZ x0_fc).1 true)&&(aS (KZ x0_fc).1 true))&&true) (.leaf ((aSA (KZ x0_fc).2.2.2 (KZ x0_fc).2.2.1 false a (KZ x0_fc).1),(KZ x0_fc).1,(KZ x0_fc).2.1)))))))))
def CM(a:aX)(x0_fc:aH):aX×aH×Int:=hid (aHN a x0_fc).val
def aSM(a:aX)(x0_fc:aH):Bool:=hid (aHN a x0_fc).okv
def q336:=KO (fun a x0_fc=>a82 a x0_fc (CM a x0_fc)) aSM
theorem bWG:cG 336 q336:=vG fun a x0_fc hk=>tc aM3 (aHN a x0_fc) (a82 a x0_fc) hk
def Q336:=aT 336 q336 Q357
theorem aM4:QO Q336:=aC bWG aM3
def bWH(b:Int)(a:aG):List SV:=[(.one (.ptr 0 0 0)),(.one (li b))]
def bWI(b:Int)(a:aG):List Blk:=[.box [.sl 1 0 (ln a.D), .sl 2 0 (ln a.A),li a.Other,li a.PC,li a.Flags,li a.Mask, .lit (.bool a.Super), .lit (.bool a.Trace)], .lst 1 a.D, .lst 1 a.A]
def bGU(N:Int→aG→SV×List Blk)(K:Int→aG→Bool):List SV→List Blk→Option ((SV×List Blk)×Bool)
 |[(.one (.ptr 0 0 0)),(.one (li c0))],[.box [.sl 1 0 l1, .sl 2 0 l2,li c1,li c2,li c3,li c4, .lit (.bool c5), .lit (.bool c6)], .lst 1 c_1, .lst 1 c_2]=>some (N c0 (aG.mk c_1 c_2 c1 c2 c3 c4 c5 c6),eD l1 (ln c_1)&&(eD l2 (ln c_2)&&(K c0 (aG.mk c_1 c_2 c1 c2 c3 c4 c5 c6))))
 |_,_=>none
theorem bGV{N:Int→aG→SV×List Blk}{K:Int→aG→Bool}{f:Nat}(h: ∀(b:Int)(a:aG),K b a=true→dL R f (bWH b a) (bWI b a)=some (N b a)):cG f (bGU N K):=fun args hp r e=>by
 unfold bGU at e;split at e
 ·rename_i c0 l1 l2 c1 c2 c3 c4 c5 c6 c_1 c_2;obtain⟨hr,hk⟩:=qp (qi e);obtain⟨d0,hk0⟩:=bB hk;obtain⟨d1,hk1⟩:=bB hk0;obtain rfl:=of_decide_eq_true d0;obtain rfl:=of_decide_eq_true d1;rw[←hr];exact h c0 (aG.mk c_1 c_2 c1 c2 c3 c4 c5 c6) hk1
 ·simp at e
section
variable(a:aG)
def aHO:Bool:=((e1 (ln a.D))&&((eD (ln a.A) (ln (List.set a.A 3 (aU a.Other))))&&true))
end
def aZM(b:Int)(a:aG):Pt (aG):=(ot (ot (ot (.br (!(rD (cV (aD b 256) 0) a.Super)) (ot (.ok (((ltI 3 (bL a.A))&&((dM [.int .i64] a.A 3 0)&&((ltI 3 (bL a.A))&&(((blt 3 (ln a.A))&&(jT (jU a.A 3) 1))&&true))))&&true) (.ok ((((aK a true)&&(aHO a))&&true)&&((aHO a)&&true)) (.leaf (aG.mk a.D (List.set a.A 3 (aU a.Other)) (bD a.A 3 0) a.PC (aD b 31) (aD (lO b 5) 7) (cV (aD b 256) 0) (cV (aD b 512) 0)))))) (.ok (dd (aK a true) ((aK a true)&&true)) (.leaf {a with Flags:=(aD b 31),Mask:=(aD (lO b 5) 7),Trace:=(cV (aD b 512) 0)}))))))
def aZN(b:Int)(a:aG):aG:=hid (aZM b a).val
def aZO(b:Int)(a:aG):Bool:=hid (aZM b a).okv
def bNK(b:Int)(a:aG)(r:aG):SV×List Blk:=((.tup []),[.box [.sl 1 0 (ln r.D), .sl 2 0 (ln r.A),li r.Other,li r.PC,li r.Flags,li r.Mask, .lit (.bool r.Super), .lit (.bool r.Trace)], .lst 1 r.D, .lst 1 r.A])
def q264:=bGU (fun b a=>bNK b a (aZN b a)) aZO
theorem bWJ:cG 264 q264:=bGV fun b a hk=>tcx aM4 [(1000001,[])] [] true (aZM b a) (bNK b a) hk
def Q264:=aT 264 q264 Q336
theorem aM5:QO Q264:=aC bWJ aM4
section
variable(a:aX)(x0_fc:aH)
def i8:aX×aH×Int:=(CM (CM a x0_fc).1 (CM a x0_fc).2.1)
def tH:aG:=(aZN (aD (CM a x0_fc).2.2 1023) (i8 a x0_fc).2.1.R)
def tI:Bool:=(aK (tH a x0_fc) (bH (i8 a x0_fc).2.1.Bus true))
def tJ:aG:=(aZN a.fx.Ea.Ext x0_fc.R)
def tK:Bool:=(aK (tJ a x0_fc) (bH x0_fc.Bus true))
def tM:Bool:=(((bX x0_fc (aR9 a x0_fc))&&((bX x0_fc (aGP (aV 18 a.fx.Reg) (aCM a x0_fc) a x0_fc))&&true))&&true)
def tN:aX:=(aGO (aV 18 a.fx.Reg) (aCM a x0_fc) a x0_fc)
def tO:Bool:=(((aS x0_fc true)&&(aS x0_fc true))&&true)
def tP:Bool:=((leI 0 a.fx.Reg)&&(ltI a.fx.Reg (bL x0_fc.R.D)))
def tQ:Bool:=(dM [.int .i64] x0_fc.R.D (0+(iN a.fx.Reg)) 0)
def mO:Int:=(aD (bD x0_fc.R.D (0+(iN a.fx.Reg)) 0) 255)
def o7:Int:=(cD (lO (bD x0_fc.R.D (0+(iN a.fx.Reg)) 0) 8) (hX (mO a x0_fc) 8))
def nU:aH:=(M2 (o7 a x0_fc) a x0_fc)
def nV:aH:=(M2 (aD (Y7 1 (mO a x0_fc)) 65535) a x0_fc)
end
def aZP(a:aX)(x0_fc:aH):Pt (aX×aH):=(ot (ot (ot (.br (eqI a.fx.Sub 0) (.ok ((bX x0_fc (aSM a x0_fc))&&true) (.ok (((aS (CM a x0_fc).2.1 true)&&(aS (CM a x0_fc).2.1 true))&&true) (.leaf ((CM a x0_fc).1,{(CM a x0_fc).2.1 with R:={(CM a x0_fc).2.1.R with PC:=(CM a x0_fc).2.2}})))) (ot (.br (eqI a.fx.Sub 1) (.ok ((bX x0_fc (aSM a x0_fc))&&true) (.ok ((bX (CM a x0_fc).2.1 (aSM (CM a x0_fc).1 (CM a x0_fc).2.1))&&true) (ot (.br (eqI (i8 a x0_fc).1.ffault.Vector 0) (.ok ((iW (i8 a x0_fc).2.1.R (aZO (aD (CM a x0_fc).2.2 1023) (i8 a x0_fc).2.1.R))&&true) (ot (.ok (((tI a x0_fc)&&(tI a x0_fc))&&true) (.leaf ((i8 a x0_fc).1,{(i8 a x0_fc).2.1 with R:={(tH a x0_fc)with PC:=(i8 a x0_fc).2.2}}))))) (.ok (((aS (i8 a x0_fc).2.1 true)&&(aS (i8 a x0_fc).2.1 true))&&true) (.leaf ((i8 a x0_fc).1,(i8 a x0_fc).2.1))))))) (ot (.br (eqI a.fx.Sub 3) (.ok ((iW x0_fc.R (aZO a.fx.Ea.Ext x0_fc.R))&&true) (ot (.ok (((tK a x0_fc)&&(tK a x0_fc))&&true) (.leaf (a,{x0_fc with R:=(tJ a x0_fc),Stop:=true}))))) (ot (.br (eqI a.fx.Sub 4) (.ok ((tM a x0_fc)&&((tM a x0_fc)&&((uI (tN a x0_fc) true)&&((pH x0_fc true)&&(xL x0_fc true))))) (.ok (tO x0_fc) (.leaf ((tN a x0_fc),x0_fc)))) (ot (.br (eqI a.fx.Sub 5) (.ok ((tP a x0_fc)&&((tQ a x0_fc)&&true)) (.ok ((bX x0_fc (M3 (o7 a x0_fc) a x0_fc))&&true) (.ok (((aS (nU a x0_fc) true)&&(aS (nU a x0_fc) true))&&true) (.leaf (a,(nU a x0_fc)))))) (ot (.br (eqI a.fx.Sub 6) (.ok (((tP a x0_fc)&&((tQ a x0_fc)&&((aCQ 1 (mO a x0_fc))&&((bX x0_fc (M3 (aD (Y7 1 (mO a x0_fc)) 65535) a x0_fc))&&true))))&&true) (.ok (((aS (nV a x0_fc) true)&&(aS (nV a x0_fc) true))&&true) (.leaf (a,(nV a x0_fc))))) (.ok (tO x0_fc) (.leaf (a,x0_fc)))))))))))))))))
def aSN(a:aX)(x0_fc:aH):aX×aH:=hid (aZP a x0_fc).val
def bGW(a:aX)(x0_fc:aH):Bool:=hid (aZP a x0_fc).okv
def q291:=KO (fun a x0_fc=>D4 a x0_fc (aSN a x0_fc)) bGW
theorem bWK:cG 291 q291:=vG fun a x0_fc hk=>tc aM5 (aZP a x0_fc) (D4 a x0_fc) hk
def Q291:=aT 291 q291 Q264
theorem aM6:QO Q291:=aC bWK aM5
section
variable(a:aX)(x0_fc:aH)
def K0:Bool:=(((aS (cH a x0_fc).2.1 true)&&(aS (cH a x0_fc).2.1 true))&&true)
def GR:Nat:=(0+(iN (cH a x0_fc).1.fx.Reg))
def CN:Int:=(dB (bD (cH a x0_fc).2.1.R.D (GR a x0_fc) 0) (cH a x0_fc).2.2)
def AH:aH:=(M2 (aD (CN a x0_fc) 65535) (cH a x0_fc).1 (cH a x0_fc).2.1)
def K1:Int:=(aCM (cH a x0_fc).1 (cH a x0_fc).2.1)
def K2:Int:=(kF (bD (cH a x0_fc).2.1.R.D (GR a x0_fc) 0) (cH a x0_fc).2.2)
def GS:aH:=(M2 (K2 a x0_fc) (cH a x0_fc).1 (cH a x0_fc).2.1)
end
def aZQ(a:aX)(x0_fc:aH):Pt (aX×aH):=(.ok ((bX x0_fc (aSC a x0_fc))&&true) (ot (.br (cV (cH a x0_fc).1.ffault.Vector 0) (.ok (K0 a x0_fc) (.leaf ((cH a x0_fc).1,(cH a x0_fc).2.1))) (.ok (((leI 0 (cH a x0_fc).1.fx.Reg)&&(ltI (cH a x0_fc).1.fx.Reg (bL (cH a x0_fc).2.1.R.D)))&&((dM [.int .i64] (cH a x0_fc).2.1.R.D (GR a x0_fc) 0)&&true)) (ot (.br (eqI (cH a x0_fc).1.fx.Op 16) (.ok ((bX (cH a x0_fc).2.1 (M3 (aD (CN a x0_fc) 65535) (cH a x0_fc).1 (cH a x0_fc).2.1))&&true) (.ok (((KS (pG (CN a x0_fc) 65535) 2)&&true)&&true) (.ok (((aS (AH a x0_fc) true)&&(aS (AH a x0_fc) true))&&true) (.leaf ((cH a x0_fc).1,{(AH a x0_fc)with R:={(AH a x0_fc).R with Flags:=(cD (AH a x0_fc).R.Flags (KR (pG (CN a x0_fc) 65535) 2))}}))))) (ot (.br (eqI (cH a x0_fc).2.2 0) (.ok ((bX (cH a x0_fc).2.1 (aR9 (cH a x0_fc).1 (cH a x0_fc).2.1))&&((bX (cH a x0_fc).2.1 (aGP 5 (K1 a x0_fc) (cH a x0_fc).1 (cH a x0_fc).2.1))&&true)) (.ok (K0 a x0_fc) (.leaf ((aGO 5 (K1 a x0_fc) (cH a x0_fc).1 (cH a x0_fc).2.1),(cH a x0_fc).2.1)))) (.ok ((cV (cH a x0_fc).2.2 0)&&((bX (cH a x0_fc).2.1 (M3 (K2 a x0_fc) (cH a x0_fc).1 (cH a x0_fc).2.1))&&true)) (.ok (((aS (GS a x0_fc) true)&&(aS (GS a x0_fc) true))&&true) (.leaf ((cH a x0_fc).1,(GS a x0_fc)))))))))))))
def aSO(a:aX)(x0_fc:aH):aX×aH:=hid (aZQ a x0_fc).val
def bGX(a:aX)(x0_fc:aH):Bool:=hid (aZQ a x0_fc).okv
def q292:=KO (fun a x0_fc=>D4 a x0_fc (aSO a x0_fc)) bGX
theorem bWL:cG 292 q292:=vG fun a x0_fc hk=>tc aM6 (aZQ a x0_fc) (D4 a x0_fc) hk
def Q292:=aT 292 q292 Q291
theorem aM7:QO Q292:=aC bWL aM6
def aZR(a:Int):Pt (Bool):=(ot (.ok ((yU a 0 153)&&true) (ot (ot (.leaf (bif (wJ a 0 153)then(leI (aD a 15) 9)else false))))))
def bGY(a:Int):Bool:=hid (aZR a).val
def aZS(a:Int):Bool:=hid (aZR a).okv
def q362:=AZ (fun a=>kG a (bGY a)) aZS
theorem bWM:cG 100362 q362:=gX fun a hk=>tz aM7 (aZR a) (kG a) hk
def Q362:=aT 100362 q362 Q292
theorem ZH:QO Q362:=aC bWM aM7
def aZT(a:Int):Pt (Bool):=(ot (.ok ((yU a 0 1)&&true) (ot (ot (.leaf (wJ a 0 1))))))
def bGZ(a:Int):Bool:=hid (aZT a).val
def bG0(a:Int):Bool:=hid (aZT a).okv
def q363:=AZ (fun a=>kG a (bGZ a)) bG0
theorem bWN:cG 100363 q363:=gX fun a hk=>tz ZH (aZT a) (kG a) hk
def Q363:=aT 100363 q363 Q362
theorem aM8:QO Q363:=aC bWN ZH
def bWO(a:Int)(b:List Row):List SV:=[(.one (li a)),(.one (.imm false 1 b))]
def bWP(a:Int)(b:List Row):List Blk:=[]
def bG1(N:Int→List Row→SV×List Blk)(K:Int→List Row→Bool):List SV→List Blk→Option ((SV×List Blk)×Bool)
 |[(.one (li c0)),(.one (.imm false 1 c1))],[]=>some (N c0 c1,K c0 c1)
 |_,_=>none
theorem bG2{N:Int→List Row→SV×List Blk}{K:Int→List Row→Bool}{f:Nat}(h: ∀(a:Int)(b:List Row),K a b=true→dL R f (bWO a b) (bWP a b)=some (N a b)):cG f (bG1 N K):=fun _ _ _ e=>by
 unfold bG1 at e;split at e
 ·exact BT e (h _ _)
 ·cases e
structure V358_0 where
 mk::
 (s0:Int)
 (s7:List Row)
 (s8:Int)
 (s9:Int)
def K3(v:V358_0):Pt (Option V358_0):=(ot (.br (ltI v.s9 v.s8) (.ok ((gN [.int .i64] v.s7 v.s9)&&true) (.ok ((aZS (bD v.s7 (iN v.s9) 0))&&true) (.br (!(bGY (bD v.s7 (iN v.s9) 0))) (ot (.leaf none)) (ot (ot (.leaf (some {v with s9:=(aV v.s9 1)}))))))) (.leaf none)))
def QY(v:V358_0):St:=⟨[(0,(.one (li v.s0))),(7,(.one (.imm false 1 v.s7))),(8,(.one (li v.s8))),(9,(.one (li v.s9)))],[]⟩
def ZI:St→Option (V358_0×Bool)
 |⟨[(0,(.one (li c0))),(7,(.one (.imm false 1 c1))),(8,(.one (li c2))),(9,(.one (li c3)))],[]⟩=>some ((V358_0.mk c0 c1 c2 c3),true)
 |_=>none
def ZJ:St→Option (Pt Out):=yI Q362 ([]++HD 358) [] true [] 0 9223372036854775808 aE0
theorem a9E(v:V358_0):((ZJ (QY v)).bind (tF true false 0 [0,7,8,9]))=some ((K3 v).map (Option.map QY)):=by kernel_rfl
theorem a9F(σ:St)(v:V358_0)(h:ZI σ=some (v,true)):σ=QY v:=by
 unfold ZI at h;split at h
 ·obtain⟨hr,hk⟩:=qp (qi h);rw[←hr];rfl
 ·simp at h
theorem a9G:cS (wD true false 0 [0,7,8,9] ZJ ZI QY K3 9223372036854775808) (fV R 0 9223372036854775808 (.loop [0,7,8,9] aE0)):=d8 (cW ZH (cF (l:=[]) (by kernel_rfl) trivial)) a9F a9E
def a9H:Lp:=(10,wD true false 0 [0,7,8,9] ZJ ZI QY K3 9223372036854775808)::[]
def QZ(v:V358_0):V358_0:=(hid (dV K3 9223372036854775808 v)).getD v
def aHP(v:V358_0):Bool:=(hid (dV K3 9223372036854775808 v)).isSome
section
variable(a:Int)(b:List Row)
def RA:V358_0:=(QZ (V358_0.mk a b (bL b) 0))
end
def aZU(a:Int)(b:List Row):Pt (Bool):=(ot (ot (ot (ot (.ok (aHP (V358_0.mk a b (bL b) 0)) (.br (ltI (RA a b).s9 (RA a b).s8) (ot (ot (.leaf false))) (.ok ((bG0 (RA a b).s0)&&true) (ot (ot (.leaf (bGZ (RA a b).s0)))))))))))
def a9I(a:Int)(b:List Row):Bool:=hid (aZU a b).val
def a9J(a:Int)(b:List Row):Bool:=hid (aZU a b).okv
def bNL(a:Int)(b:List Row)(r:Bool):SV×List Blk:=((.one (.lit (.bool r))),[])
def q358:=bG1 (fun a b=>bNL a b (a9I a b)) a9J
theorem bNM:fT (fun live x=>cS (oQ a9H (m6 x)) (fV R 0 9223372036854775808 (.loop live x))) (qL 358).body:=(cF (l:=[([0,7,8,9],aE0)]) (by kernel_rfl) ⟨fZ (n:=10) (by kernel_rfl) fun σ σr t h ho hl=>a9G σ σr t h ho hl,trivial⟩)
theorem bWQ:cG 100358 q358:=bG2 fun a b hk=>tzl aM8 bNM [] [] true (aZU a b) (bNL a b) hk
def Q358:=aT 100358 q358 Q363
theorem aM9:QO Q358:=aC bWQ aM8
def aZV(a:Int):Pt (Int):=(ot (ot (ot (ot (.leaf (aV (dB (lO a 4) 10) (aD a 15)))))))
def TF(a:Int):Int:=hid (aZV a).val
def aSP(a:Int):Bool:=hid (aZV a).okv
def q360:=AZ (fun a=>wK a (TF a)) aSP
theorem bWR:cG 100360 q360:=gX fun a hk=>tz aM9 (aZV a) (wK a) hk
def Q360:=aT 100360 q360 Q358
theorem aNA:QO Q360:=aC bWR aM9
def aZW(a:Int):Pt (Int):=(ot (ot (ot (ot (.leaf (cD (hX (kF a 10) 4) (iC a 10)))))))
def a9K(a:Int):Int:=hid (aZW a).val
def a9L(a:Int):Bool:=hid (aZW a).okv
def q364:=AZ (fun a=>wK a (a9K a)) a9L
theorem bWS:cG 100364 q364:=gX fun a hk=>tz aNA (aZW a) (wK a) hk
def Q364:=aT 100364 q364 Q360
theorem aNB:QO Q364:=aC bWS aNA
def aZX(a:Int):Pt (Int×Int):=(ot (.ok ((yU a 0 99)&&true) (.br (wJ a 0 99) (.ok ((a9L a)&&true) (ot (ot (.leaf ((a9K a),0))))) (.ok ((a9L (iC (aV a 100) 100))&&true) (ot (ot (.leaf ((a9K (iC (aV a 100) 100)),1))))))))
def a9M(a:Int):Int×Int:=hid (aZX a).val
def a9N(a:Int):Bool:=hid (aZX a).okv
def bNN(a:Int)(r:Int×Int):SV×List Blk:=((.tup [(.one (li r.1)),(.one (li r.2))]),[])
def q359:=AZ (fun a=>bNN a (a9M a)) a9N
theorem bWT:cG 100359 q359:=gX fun a hk=>tz aNB (aZX a) (bNN a) hk
def Q359:=aT 100359 q359 Q364
theorem aNC:QO Q359:=aC bWT aNB
section
variable(a:Int)(b:Int)(c:Int)
def aHQ:Int×Int:=(a9M (aV (aV (TF b) (TF c)) a))
end
def aZY(a:Int)(b:Int)(c:Int):Pt (Int×Int×Bool):=(ot (.ok ((a9J a [(aU b),(aU c)])&&true) (.br (!(a9I a [(aU b),(aU c)])) (ot (ot (ot (.leaf (0,0,false))))) (.ok ((aSP b)&&((aSP c)&&((a9N (aV (aV (TF b) (TF c)) a))&&true))) (ot (ot (ot (.leaf ((aHQ a b c).1,(aHQ a b c).2,true)))))))))
def bG3(a:Int)(b:Int)(c:Int):Int×Int×Bool:=hid (aZY a b c).val
def bG4(a:Int)(b:Int)(c:Int):Bool:=hid (aZY a b c).okv
def a9O(a:Int)(b:Int)(c:Int)(r:Int×Int×Bool):SV×List Blk:=((.tup [(.one (li r.1)),(.one (li r.2.1)),(.one (.lit (.bool r.2.2)))]),[])
def q338:=DS5 (fun a b c=>a9O a b c (bG3 a b c)) bG4
theorem bWU:cG 100338 q338:=BU fun a b c hk=>tz aNC (aZY a b c) (a9O a b c) hk
def Q338:=aT 100338 q338 Q359
theorem aND:QO Q338:=aC bWU aNC
section
variable(a:Int)(b:Int)(c:Int)
def aHR:Int×Int:=(a9M (bZ (bZ (TF b) (TF c)) a))
end
def aZZ(a:Int)(b:Int)(c:Int):Pt (Int×Int×Bool):=(ot (.ok ((a9J a [(aU b),(aU c)])&&true) (.br (!(a9I a [(aU b),(aU c)])) (ot (ot (ot (.leaf (0,0,false))))) (.ok ((aSP b)&&((aSP c)&&((a9N (bZ (bZ (TF b) (TF c)) a))&&true))) (ot (ot (ot (.leaf ((aHR a b c).1,(aHR a b c).2,true)))))))))
def bG5(a:Int)(b:Int)(c:Int):Int×Int×Bool:=hid (aZZ a b c).val
def bG6(a:Int)(b:Int)(c:Int):Bool:=hid (aZZ a b c).okv
def q339:=DS5 (fun a b c=>a9O a b c (bG5 a b c)) bG6
theorem bWV:cG 100339 q339:=BU fun a b c hk=>tz aND (aZZ a b c) (a9O a b c) hk
def Q339:=aT 100339 q339 Q338
theorem aNE:QO Q339:=aC bWV aND
section
variable(a:aX)(x0_fc:aH)
def K4:Int:=(aD (bD x0_fc.R.D (0+(iN a.fx.Reg)) 0) 255)
def K5:Int:=(aD (bD x0_fc.R.D (0+(iN a.fx.Ea.Reg)) 0) 255)
def RB:Int×Int×Bool:=(bG5 (kF x0_fc.R.Flags 16) (K4 a x0_fc) (K5 a x0_fc))
def RC:Int×Int×Bool:=(bG3 (kF x0_fc.R.Flags 16) (K4 a x0_fc) (K5 a x0_fc))
def RD:Int:=(bif (eqI a.fx.Sub 1)then(RB a x0_fc).1 else(RC a x0_fc).1)
def ZK:Bool:=(eqI (bif (eqI a.fx.Sub 1)then(RB a x0_fc).2.1 else(RC a x0_fc).2.1) 1)
def RE:aG:=(Y4 1 a.fx.Reg (RD a x0_fc) x0_fc.R)
def ZL:Bool:=(aK (RE a x0_fc) (bH x0_fc.Bus true))
end
def aZ0(a:aX)(x0_fc:aH):Pt (aX×aH):=(ot (.ok (((leI 0 a.fx.Reg)&&(ltI a.fx.Reg (bL x0_fc.R.D)))&&((dM [.int .i64] x0_fc.R.D (0+(iN a.fx.Reg)) 0)&&(((leI 0 a.fx.Ea.Reg)&&(ltI a.fx.Ea.Reg (bL x0_fc.R.D)))&&((dM [.int .i64] x0_fc.R.D (0+(iN a.fx.Ea.Reg)) 0)&&true)))) (ot (.ok ((bG4 (kF x0_fc.R.Flags 16) (K4 a x0_fc) (K5 a x0_fc))&&true) (ot (.ok ((((bG6 (kF x0_fc.R.Flags 16) (K4 a x0_fc) (K5 a x0_fc))&&true)||(!(eqI a.fx.Sub 1)))&&true) (ot (.br (!(bif (eqI a.fx.Sub 1)then(RB a x0_fc).2.2 else(RC a x0_fc).2.2)) (.ok ((bX x0_fc (aGP 4 a.fpc a x0_fc))&&true) (.ok (((aS x0_fc true)&&(aS x0_fc true))&&true) (.leaf ((aGO 4 a.fpc a x0_fc),x0_fc)))) (.ok ((iW x0_fc.R (Y5 1 a.fx.Reg (RD a x0_fc) x0_fc.R))&&true) (ot (ot (ot (.ok ((KS (ZK a x0_fc) 17)&&true) (.ok (((ZL a x0_fc)&&(ZL a x0_fc))&&true) (.leaf (a,{x0_fc with R:={(RE a x0_fc)with Flags:=(cD (bif (eqI (RD a x0_fc) 0)then(aD (RE a x0_fc).Flags 4)else 0) (KR (ZK a x0_fc) 17))}}))))))))))))))))
def aSQ(a:aX)(x0_fc:aH):aX×aH:=hid (aZ0 a x0_fc).val
def bG7(a:aX)(x0_fc:aH):Bool:=hid (aZ0 a x0_fc).okv
def q293:=KO (fun a x0_fc=>D4 a x0_fc (aSQ a x0_fc)) bG7
theorem bWW:cG 293 q293:=vG fun a x0_fc hk=>tc aNE (aZ0 a x0_fc) (D4 a x0_fc) hk
def Q293:=aT 293 q293 Q339
theorem aNF:QO Q293:=aC bWW aNE
def bWX(a:aG):List SV:=[(.one (.ptr 0 0 0))]
def bWY(a:aG):List Blk:=[.box [.sl 1 0 (ln a.D), .sl 2 0 (ln a.A),li a.Other,li a.PC,li a.Flags,li a.Mask, .lit (.bool a.Super), .lit (.bool a.Trace)], .lst 1 a.D, .lst 1 a.A]
def bG8(N:aG→SV×List Blk)(K:aG→Bool):List SV→List Blk→Option ((SV×List Blk)×Bool)
 |[(.one (.ptr 0 0 0))],[.box [.sl 1 0 l1, .sl 2 0 l2,li c0,li c1,li c2,li c3, .lit (.bool c4), .lit (.bool c5)], .lst 1 c_1, .lst 1 c_2]=>some (N (aG.mk c_1 c_2 c0 c1 c2 c3 c4 c5),eD l1 (ln c_1)&&(eD l2 (ln c_2)&&(K (aG.mk c_1 c_2 c0 c1 c2 c3 c4 c5))))
 |_,_=>none
theorem bG9{N:aG→SV×List Blk}{K:aG→Bool}{f:Nat}(h: ∀(a:aG),K a=true→dL R f (bWX a) (bWY a)=some (N a)):cG f (bG8 N K):=fun args hp r e=>by
 unfold bG8 at e;split at e
 ·rename_i l1 l2 c0 c1 c2 c3 c4 c5 c_1 c_2;obtain⟨hr,hk⟩:=qp (qi e);obtain⟨d0,hk0⟩:=bB hk;obtain⟨d1,hk1⟩:=bB hk0;obtain rfl:=of_decide_eq_true d0;obtain rfl:=of_decide_eq_true d1;rw[←hr];exact h (aG.mk c_1 c_2 c0 c1 c2 c3 c4 c5) hk1
 ·simp at e
def aZ1(a:aG):Pt (Int):=(ot (.ok ((KS a.Super 256)&&((KS a.Trace 512)&&true)) (.ok (((aK a true)&&(aK a true))&&true) (.leaf (aV (aV (aV a.Flags (dB 32 a.Mask)) (KR a.Super 256)) (KR a.Trace 512))))))
def bHA(a:aG):Int:=hid (aZ1 a).val
def bHB(a:aG):Bool:=hid (aZ1 a).okv
def bNO(a:aG)(r:Int):SV×List Blk:=((.one (li r)),[.box [.sl 1 0 (ln a.D), .sl 2 0 (ln a.A),li a.Other,li a.PC,li a.Flags,li a.Mask, .lit (.bool a.Super), .lit (.bool a.Trace)], .lst 1 a.D, .lst 1 a.A])
def q265:=bG8 (fun a=>bNO a (bHA a)) bHB
theorem bWZ:cG 50265 q265:=bG9 fun a hk=>tck aNF (aZ1 a) (bNO a) hk
def Q265:=aT 50265 q265 Q293
theorem aNG:QO Q265:=aC bWZ aNF
section
variable(a:aX)(x0_fc:aH)
def i9:Bool:=((leI 0 a.fx.Reg)&&(ltI a.fx.Reg (bL x0_fc.R.A)))
def jA:Bool:=(((blt (0+(iN a.fx.Reg)) (ln (cH a x0_fc).2.1.R.A))&&(jT (jU (cH a x0_fc).2.1.R.A (0+(iN a.fx.Reg))) 1))&&true)
def iK:Bool:=(((bX x0_fc (aSC a x0_fc))&&((i9 a x0_fc)&&(jA a x0_fc)))&&true)
def jB:Bool:=(((bX x0_fc (aSC a x0_fc))&&(((leI 0 a.fx.Reg)&&(ltI a.fx.Reg (bL (cH a x0_fc).2.1.R.A)))&&(jA a x0_fc)))&&true)
def iL:List Row:=(List.set (cH a x0_fc).2.1.R.A (0+(iN a.fx.Reg)) (aU (cH a x0_fc).2.2))
def iD:Bool:=((uI (cH a x0_fc).1 true)&&((pH (cH a x0_fc).2.1 true)&&((r1 (cH a x0_fc).2.1.R.D)&&((r1 (iL a x0_fc))&&((rL a.fx true)&&(dI (cH a x0_fc).2.1.Bus true))))))
def jC:Bool:=((e1 (ln (cH a x0_fc).2.1.R.D))&&((eD (ln (cH a x0_fc).2.1.R.A) (ln (iL a x0_fc)))&&(bH (cH a x0_fc).2.1.Bus true)))
def jD:Bool:=(iW x0_fc.R (aGZ a.fx.Size a.fx.Ea x0_fc.R))
def eY:aG×Int:=(aGY a.fx.Size a.fx.Ea x0_fc.R)
def jE:Bool:=(((blt (0+(iN a.fx.Reg)) (ln (eY a x0_fc).1.A))&&(jT (jU (eY a x0_fc).1.A (0+(iN a.fx.Reg))) 1))&&true)
def fH:Bool:=(((jD a x0_fc)&&((i9 a x0_fc)&&(jE a x0_fc)))&&true)
def f7:Bool:=(((jD a x0_fc)&&(((leI 0 a.fx.Reg)&&(ltI a.fx.Reg (bL (eY a x0_fc).1.A)))&&(jE a x0_fc)))&&true)
def fI:List Row:=(List.set (eY a x0_fc).1.A (0+(iN a.fx.Reg)) (aU (eY a x0_fc).2))
def f9:Bool:=(dI x0_fc.Bus ((rL a.fx true)&&true))
def fD:Bool:=((uI a true)&&((jV (eY a x0_fc).1 (dP x0_fc.Bus ((s1 x0_fc.Stop)&&((s1 x0_fc.Halt)&&true))))&&((r1 (eY a x0_fc).1.D)&&((r1 (fI a x0_fc))&&(f9 a x0_fc)))))
def gA:Bool:=((e1 (ln (eY a x0_fc).1.D))&&((eD (ln (eY a x0_fc).1.A) (ln (fI a x0_fc)))&&(bH x0_fc.Bus true)))
def gB:Int:=(aCN a.fx.Reg a x0_fc)
def bJ:Bool:=(((bX x0_fc (aCO a.fx.Reg a x0_fc))&&((bGG a.fx.Sub a.fx.Size x0_fc.R.Flags (gB a x0_fc) (aV a.fx.Ea.Reg 1))&&true))&&true)
def eW:Int×Int:=(bGF a.fx.Sub a.fx.Size x0_fc.R.Flags (gB a x0_fc) (aV a.fx.Ea.Reg 1))
def bK:Bool:=(((s1 (eW a x0_fc).1)&&((s1 (eW a x0_fc).2)&&true))&&((uI a true)&&((pH x0_fc true)&&(kH x0_fc.R ((rL a.fx true)&&(dI x0_fc.Bus true))))))
def gO:Bool:=((bJ a x0_fc)&&(((bJ a x0_fc)&&(((bJ a x0_fc)&&(((bJ a x0_fc)&&(((bJ a x0_fc)&&(((bJ a x0_fc)&&(((bJ a x0_fc)&&(((bJ a x0_fc)&&((bJ a x0_fc)&&(bK a x0_fc)))&&(bK a x0_fc)))&&(bK a x0_fc)))&&(bK a x0_fc)))&&(bK a x0_fc)))&&(bK a x0_fc)))&&(bK a x0_fc)))&&(bK a x0_fc)))
def gP:Bool:=((bJ a x0_fc)&&(((bJ a x0_fc)&&(((bJ a x0_fc)&&(((bJ a x0_fc)&&(((bJ a x0_fc)&&(((bJ a x0_fc)&&(((bJ a x0_fc)&&(((bJ a x0_fc)&&((gO a x0_fc)&&(bK a x0_fc)))&&(bK a x0_fc)))&&(bK a x0_fc)))&&(bK a x0_fc)))&&(bK a x0_fc)))&&(bK a x0_fc)))&&(bK a x0_fc)))&&(bK a x0_fc)))
def gQ:Bool:=((bJ a x0_fc)&&(((bJ a x0_fc)&&(((bJ a x0_fc)&&(((bJ a x0_fc)&&(((bJ a x0_fc)&&(((bJ a x0_fc)&&(((bJ a x0_fc)&&(((bJ a x0_fc)&&((gP a x0_fc)&&(bK a x0_fc)))&&(bK a x0_fc)))&&(bK a x0_fc)))&&(bK a x0_fc)))&&(bK a x0_fc)))&&(bK a x0_fc)))&&(bK a x0_fc)))&&(bK a x0_fc)))
def gR:Bool:=((bJ a x0_fc)&&(((bJ a x0_fc)&&(((bJ a x0_fc)&&(((bJ a x0_fc)&&(((bJ a x0_fc)&&(((bJ a x0_fc)&&(((bJ a x0_fc)&&(((bJ a x0_fc)&&((gQ a x0_fc)&&(bK a x0_fc)))&&(bK a x0_fc)))&&(bK a x0_fc)))&&(bK a x0_fc)))&&(bK a x0_fc)))&&(bK a x0_fc)))&&(bK a x0_fc)))&&(bK a x0_fc)))
def gS:Bool:=((bJ a x0_fc)&&(((bJ a x0_fc)&&(((bJ a x0_fc)&&(((bJ a x0_fc)&&(((bJ a x0_fc)&&(((bJ a x0_fc)&&(((bJ a x0_fc)&&(((bJ a x0_fc)&&((gR a x0_fc)&&(bK a x0_fc)))&&(bK a x0_fc)))&&(bK a x0_fc)))&&(bK a x0_fc)))&&(bK a x0_fc)))&&(bK a x0_fc)))&&(bK a x0_fc)))&&(bK a x0_fc)))
def gT:Bool:=((bJ a x0_fc)&&(((bJ a x0_fc)&&(((bJ a x0_fc)&&(((bJ a x0_fc)&&(((bJ a x0_fc)&&(((bJ a x0_fc)&&(((bJ a x0_fc)&&(((bJ a x0_fc)&&((gS a x0_fc)&&(bK a x0_fc)))&&(bK a x0_fc)))&&(bK a x0_fc)))&&(bK a x0_fc)))&&(bK a x0_fc)))&&(bK a x0_fc)))&&(bK a x0_fc)))&&(bK a x0_fc)))
def gU:Bool:=((bJ a x0_fc)&&(((bJ a x0_fc)&&(((bJ a x0_fc)&&(((bJ a x0_fc)&&(((bJ a x0_fc)&&(((bJ a x0_fc)&&(((bJ a x0_fc)&&(((bJ a x0_fc)&&((gT a x0_fc)&&(bK a x0_fc)))&&(bK a x0_fc)))&&(bK a x0_fc)))&&(bK a x0_fc)))&&(bK a x0_fc)))&&(bK a x0_fc)))&&(bK a x0_fc)))&&(bK a x0_fc)))
def gV:Bool:=((bJ a x0_fc)&&(((bJ a x0_fc)&&(((bJ a x0_fc)&&(((bJ a x0_fc)&&(((bJ a x0_fc)&&(((bJ a x0_fc)&&(((bJ a x0_fc)&&(((bJ a x0_fc)&&((gU a x0_fc)&&(bK a x0_fc)))&&(bK a x0_fc)))&&(bK a x0_fc)))&&(bK a x0_fc)))&&(bK a x0_fc)))&&(bK a x0_fc)))&&(bK a x0_fc)))&&(bK a x0_fc)))
def gC:aG:=(Y4 a.fx.Size a.fx.Reg (eW a x0_fc).1 x0_fc.R)
def gD:Bool:=(aK (gC a x0_fc) (bH x0_fc.Bus true))
def fJ:Bool:=(dd (aS x0_fc true) ((aS x0_fc true)&&true))
def gE:aG:=(aZN a.fx.Ea.Ext x0_fc.R)
def gF:Bool:=(aK (gE a x0_fc) (bH x0_fc.Bus true))
def eX:Bool:=(((iW x0_fc.R (bHB x0_fc.R))&&(((leI 0 a.fx.Reg)&&(ltI a.fx.Reg (bL x0_fc.R.D)))&&(((blt (0+(iN a.fx.Reg)) (ln x0_fc.R.D))&&(jT (jU x0_fc.R.D (0+(iN a.fx.Reg))) 1))&&true)))&&true)
def fK:List Row:=(List.set x0_fc.R.D (0+(iN a.fx.Reg)) (aU (bHA x0_fc.R)))
def fE:Bool:=((uI a true)&&((pH x0_fc true)&&((r1 (fK a x0_fc))&&((r1 x0_fc.R.A)&&(f9 a x0_fc)))))
def gG:Bool:=((eD (ln x0_fc.R.D) (ln (fK a x0_fc)))&&((e1 (ln x0_fc.R.A))&&(bH x0_fc.Bus true)))
end
def aZ2(a:aX)(x0_fc:aH):Pt (aX×aH):=(ot (ot (ot (ot (ot (.br (bif (eqI a.fx.Op 1)then(eqI a.fx.Op 1)else(bif (eqI a.fx.Op 3)then(eqI a.fx.Op 3)else(bif (eqI a.fx.Op 4)then(eqI a.fx.Op 4)else(bif (eqI a.fx.Op 5)then(eqI a.fx.Op 5)else(bif (eqI a.fx.Op 6)then(eqI a.fx.Op 6)else(bif (eqI a.fx.Op 7)then(eqI a.fx.Op 7)else(eqI a.fx.Op 8))))))) (.ok ((bX x0_fc (bF7 a x0_fc))&&true) (.ok (dd (aS (aSG a x0_fc).2 true) ((aS (aSG a x0_fc).2 true)&&true)) (.leaf ((aSG a x0_fc).1,(aSG a x0_fc).2)))) (ot (.br (eqI a.fx.Op 2) (.ok ((bX x0_fc (bF9 a x0_fc))&&true) (.ok (dd (aS (aSI a x0_fc).2 true) ((aS (aSI a x0_fc).2 true)&&true)) (.leaf ((aSI a x0_fc).1,(aSI a x0_fc).2)))) (ot (.br (eqI a.fx.Op 9) (.ok ((iK a x0_fc)&&(((iK a x0_fc)&&(((iK a x0_fc)&&(((jB a x0_fc)&&((jB a x0_fc)&&(iD a x0_fc)))&&(iD a x0_fc)))&&(iD a x0_fc)))&&(iD a x0_fc))) (.ok ((((aS (cH a x0_fc).2.1 true)&&(jC a x0_fc))&&true)&&((jC a x0_fc)&&true)) (.leaf ((cH a x0_fc).1,{(cH a x0_fc).2.1 with R:={(cH a x0_fc).2.1.R with A:=(iL a x0_fc)}})))) (ot (.br (eqI a.fx.Op 10) (.ok ((fH a x0_fc)&&(((fH a x0_fc)&&(((fH a x0_fc)&&(((f7 a x0_fc)&&((f7 a x0_fc)&&(fD a x0_fc)))&&(fD a x0_fc)))&&(fD a x0_fc)))&&(fD a x0_fc))) (.ok ((((aK (eY a x0_fc).1 (bH x0_fc.Bus true))&&(gA a x0_fc))&&true)&&((gA a x0_fc)&&true)) (.leaf (a,{x0_fc with R:={(eY a x0_fc).1 with A:=(fI a x0_fc)}})))) (ot (.br (eqI a.fx.Op 11) (.ok ((bX x0_fc (bGA a x0_fc))&&true) (.ok (dd (aS (aSJ a x0_fc).2 true) ((aS (aSJ a x0_fc).2 true)&&true)) (.leaf ((aSJ a x0_fc).1,(aSJ a x0_fc).2)))) (ot (.br (eqI a.fx.Op 12) (.ok (gV a x0_fc) (.ok ((iW x0_fc.R (Y5 a.fx.Size a.fx.Reg (eW a x0_fc).1 x0_fc.R))&&true) (ot (.ok (dd (gD a x0_fc) ((gD a x0_fc)&&true)) (.leaf (a,{x0_fc with R:={(gC a x0_fc)with Flags:=(eW a x0_fc).2}})))))) (ot (.br (eqI a.fx.Op 13) (.ok ((bGK (aV a.fx.Sub (dB 8 a.fx.Reg)) x0_fc.R.Flags)&&true) (.br (bGJ (aV a.fx.Sub (dB 8 a.fx.Reg)) x0_fc.R.Flags) (ot (.ok (fJ x0_fc) (.leaf (a,{x0_fc with R:={x0_fc.R with PC:=(aD (aV (aV a.fpc 2) a.fx.Ea.Ext) 65535)}})))) (.ok (fJ x0_fc) (.leaf (a,x0_fc))))) (ot (.br (eqI a.fx.Op 14) (.ok ((bX x0_fc (bGQ a x0_fc))&&true) (.ok (dd (aS (aSL a x0_fc).2 true) ((aS (aSL a x0_fc).2 true)&&true)) (.leaf ((aSL a x0_fc).1,(aSL a x0_fc).2)))) (ot (.br (eqI a.fx.Op 15) (.ok ((bX x0_fc (bGW a x0_fc))&&true) (.ok (dd (aS (aSN a x0_fc).2 true) ((aS (aSN a x0_fc).2 true)&&true)) (.leaf ((aSN a x0_fc).1,(aSN a x0_fc).2)))) (ot (ot (.br (bif (eqI a.fx.Op 16)then(eqI a.fx.Op 16)else(eqI a.fx.Op 17)) (.ok ((bX x0_fc (bGX a x0_fc))&&true) (.ok (dd (aS (aSO a x0_fc).2 true) ((aS (aSO a x0_fc).2 true)&&true)) (.leaf ((aSO a x0_fc).1,(aSO a x0_fc).2)))) (ot (.br (eqI a.fx.Op 18) (.ok ((bX x0_fc (bG7 a x0_fc))&&true) (.ok (dd (aS (aSQ a x0_fc).2 true) ((aS (aSQ a x0_fc).2 true)&&true)) (.leaf ((aSQ a x0_fc).1,(aSQ a x0_fc).2)))) (ot (.br (eqI a.fx.Op 19) (ot (.br (eqI a.fx.Sub 0) (.ok ((iW x0_fc.R (aZO a.fx.Ea.Ext x0_fc.R))&&true) (.ok (dd (gF a x0_fc) ((gF a x0_fc)&&true)) (.leaf (a,{x0_fc with R:=(gE a x0_fc)})))) (.ok ((eX a x0_fc)&&(((eX a x0_fc)&&(((eX a x0_fc)&&(((eX a x0_fc)&&((eX a x0_fc)&&(fE a x0_fc)))&&(fE a x0_fc)))&&(fE a x0_fc)))&&(fE a x0_fc))) (.ok ((((aS x0_fc true)&&(gG a x0_fc))&&true)&&((gG a x0_fc)&&true)) (.leaf (a,{x0_fc with R:={x0_fc.R with D:=(fK a x0_fc)}})))))) (.ok (fJ x0_fc) (.leaf (a,x0_fc))))))))))))))))))))))))))))))))
def bHC(a:aX)(x0_fc:aH):aX×aH:=hid (aZ2 a x0_fc).val
def bHD(a:aX)(x0_fc:aH):Bool:=hid (aZ2 a x0_fc).okv
def q241:=KO (fun a x0_fc=>D4 a x0_fc (bHC a x0_fc)) bHD
theorem bW0:cG 241 q241:=vG fun a x0_fc hk=>tcx aNG [(1000001,[])] [] true (aZ2 a x0_fc) (D4 a x0_fc) hk
def Q241:=aT 241 q241 Q265
theorem aNH:QO Q241:=aC bW0 aNG
def bW1(b:aF)(c:Int)(a:aH):List SV:=[(.one (.ptr 0 0 0)),(.agg [li b.Op,li b.Size,li b.Reg,li b.Ea.Mode,li b.Ea.Reg,li b.Ea.Ext,li b.Sub]),(.one (li c))]
def bW2(b:aF)(c:Int)(a:aH):List Blk:=[.box [.sl 1 0 (ln a.R.D), .sl 2 0 (ln a.R.A),li a.R.Other,li a.R.PC,li a.R.Flags,li a.R.Mask, .lit (.bool a.R.Super), .lit (.bool a.R.Trace), .sl 3 0 (ln a.Bus.Bytes), .sl 4 0 (ln a.Bus.Log), .lit (.bool a.Stop), .lit (.bool a.Halt)], .lst 1 a.R.D, .lst 1 a.R.A, .lst 1 a.Bus.Bytes, .lst 5 a.Bus.Log]
def bHE(N:aF→Int→aH→SV×List Blk)(K:aF→Int→aH→Bool):List SV→List Blk→Option ((SV×List Blk)×Bool)
 |[(.one (.ptr 0 0 0)),(.agg [li c0,li c1,li c2,li c3,li c4,li c5,li c6]),(.one (li c7))],[.box [.sl 1 0 l1, .sl 2 0 l2,li c8,li c9,li c10,li c11, .lit (.bool c12), .lit (.bool c13), .sl 3 0 l3, .sl 4 0 l4, .lit (.bool c14), .lit (.bool c15)], .lst 1 c_1, .lst 1 c_2, .lst 1 c_3, .lst 5 c_4]=>some (N (aF.mk c0 c1 c2 (aB.mk c3 c4 c5) c6) c7 (aH.mk (aG.mk c_1 c_2 c8 c9 c10 c11 c12 c13) (bG.mk c_3 c_4) c14 c15),eD l1 (ln c_1)&&(eD l2 (ln c_2)&&(eD l3 (ln c_3)&&(eD l4 (ln c_4)&&(K (aF.mk c0 c1 c2 (aB.mk c3 c4 c5) c6) c7 (aH.mk (aG.mk c_1 c_2 c8 c9 c10 c11 c12 c13) (bG.mk c_3 c_4) c14 c15))))))
 |_,_=>none
theorem bHF{N:aF→Int→aH→SV×List Blk}{K:aF→Int→aH→Bool}{f:Nat}(h: ∀(b:aF)(c:Int)(a:aH),K b c a=true→dL R f (bW1 b c a) (bW2 b c a)=some (N b c a)):cG f (bHE N K):=fun args hp r e=>by
 unfold bHE at e;split at e
 ·rename_i c0 c1 c2 c3 c4 c5 c6 c7 l1 l2 c8 c9 c10 c11 c12 c13 l3 l4 c14 c15 c_1 c_2 c_3 c_4;obtain⟨hr,hk⟩:=qp (qi e);obtain⟨d0,hk0⟩:=bB hk;obtain⟨d1,hk1⟩:=bB hk0;obtain⟨d2,hk2⟩:=bB hk1;obtain⟨d3,hk3⟩:=bB hk2;obtain rfl:=of_decide_eq_true d0;obtain rfl:=of_decide_eq_true d1;obtain rfl:=of_decide_eq_true d2;obtain rfl:=of_decide_eq_true d3;rw[←hr];exact h (aF.mk c0 c1 c2 (aB.mk c3 c4 c5) c6) c7 (aH.mk (aG.mk c_1 c_2 c8 c9 c10 c11 c12 c13) (bG.mk c_3 c_4) c14 c15) hk3
 ·simp at e
section
variable(b:aF)(c:Int)(a:aH)
def aHS:Bool:=(((a8X b)&&((ltI 0 (bL (QC b)))&&((dM [.int .i64] (QC b) 0 0)&&true)))&&true)
def aHT:Bool:=((s1 (0:Int))&&((s1 (0:Int))&&((s1 (0:Int))&&((s1 (0:Int))&&((s1 false)&&true)))))
def CP:aX:=(aX.mk b c (bD (QC b) 0 0) (bO.mk 0 0 0 0 false))
def AI:aX×aH:=(bHC (CP b c) {a with R:={a.R with PC:=(aCM (CP b c) a)}})
def aHU:Bool:=(aK (S8 a.R) (bH (AI b c a).2.Bus true))
end
def aZ3(b:aF)(c:Int)(a:aH):Pt (aH×bO):=(ot (.ok ((((aK a.R true)&&true)&&(a8T a.R))&&true) (.ok ((aHS b)&&((aHS b)&&(((s1 c)&&true)&&((pH a true)&&(xL a ((rL b true)&&(aHT&&(kH (S8 a.R) ((jV (S8 a.R) true)&&((r1 (QC b))&&((rL b ((s1 c)&&((s1 (bD (QC b) 0 0))&&aHT)))&&true))))))))))) (.ok ((bFM b)&&true) (.br (bif (bFL b)then(!a.R.Super)else false) (.ok ((bX a (aGP 8 c (CP b c) a))&&true) (ot (.ok (((aS a true)&&(aS a true))&&true) (.leaf (a,(aGO 8 c (CP b c) a).ffault))))) (.ok ((bX a (aR9 (CP b c) a))&&true) (.ok ((bX a (bHD (CP b c) {a with R:={a.R with PC:=(aCM (CP b c) a)}}))&&true) (ot (.br (cV (AI b c a).1.ffault.Vector 0) (ot (ot (.ok (((aHU b c a)&&(aHU b c a))&&true) (.leaf ({(AI b c a).2 with R:=(S8 a.R)},(AI b c a).1.ffault))))) (ot (.ok (((aS (AI b c a).2 true)&&(aS (AI b c a).2 true))&&true) (.leaf ((AI b c a).2,(AI b c a).1.ffault)))))))))))))
def TG(b:aF)(c:Int)(a:aH):aH×bO:=hid (aZ3 b c a).val
def bHG(b:aF)(c:Int)(a:aH):Bool:=hid (aZ3 b c a).okv
def bNP(b:aF)(c:Int)(a:aH)(r:aH×bO):SV×List Blk:=((.agg [li r.2.Vector,li r.2.PC,li r.2.Addr,li r.2.Word, .lit (.bool r.2.Write)]),[.box [.sl 1 0 (ln r.1.R.D), .sl 2 0 (ln r.1.R.A),li r.1.R.Other,li r.1.R.PC,li r.1.R.Flags,li r.1.R.Mask, .lit (.bool r.1.R.Super), .lit (.bool r.1.R.Trace), .sl 3 0 (ln r.1.Bus.Bytes), .sl 4 0 (ln r.1.Bus.Log), .lit (.bool r.1.Stop), .lit (.bool r.1.Halt)], .lst 1 r.1.R.D, .lst 1 r.1.R.A, .lst 1 r.1.Bus.Bytes, .lst 5 r.1.Bus.Log])
def q175:=bHE (fun b c a=>bNP b c a (TG b c a)) bHG
theorem bW3:cG 175 q175:=bHF fun b c a hk=>tc aNH (aZ3 b c a) (bNP b c a) hk
def Q175:=aT 175 q175 Q241
theorem aNI:QO Q175:=aC bW3 aNH
def bW4(b:aF)(c:Int)(d:Bool)(a:aH):List SV:=[(.one (.ptr 0 0 0)),(.agg [li b.Op,li b.Size,li b.Reg,li b.Ea.Mode,li b.Ea.Reg,li b.Ea.Ext,li b.Sub]),(.one (li c)),(.one (.lit (.bool d)))]
def bW5(b:aF)(c:Int)(d:Bool)(a:aH):List Blk:=[.box [.sl 1 0 (ln a.R.D), .sl 2 0 (ln a.R.A),li a.R.Other,li a.R.PC,li a.R.Flags,li a.R.Mask, .lit (.bool a.R.Super), .lit (.bool a.R.Trace), .sl 3 0 (ln a.Bus.Bytes), .sl 4 0 (ln a.Bus.Log), .lit (.bool a.Stop), .lit (.bool a.Halt)], .lst 1 a.R.D, .lst 1 a.R.A, .lst 1 a.Bus.Bytes, .lst 5 a.Bus.Log]
def bHH(N:aF→Int→Bool→aH→SV×List Blk)(K:aF→Int→Bool→aH→Bool):List SV→List Blk→Option ((SV×List Blk)×Bool)
 |[(.one (.ptr 0 0 0)),(.agg [li c0,li c1,li c2,li c3,li c4,li c5,li c6]),(.one (li c7)),(.one (.lit (.bool c8)))],[.box [.sl 1 0 l1, .sl 2 0 l2,li c9,li c10,li c11,li c12, .lit (.bool c13), .lit (.bool c14), .sl 3 0 l3, .sl 4 0 l4, .lit (.bool c15), .lit (.bool c16)], .lst 1 c_1, .lst 1 c_2, .lst 1 c_3, .lst 5 c_4]=>some (N (aF.mk c0 c1 c2 (aB.mk c3 c4 c5) c6) c7 c8 (aH.mk (aG.mk c_1 c_2 c9 c10 c11 c12 c13 c14) (bG.mk c_3 c_4) c15 c16),eD l1 (ln c_1)&&(eD l2 (ln c_2)&&(eD l3 (ln c_3)&&(eD l4 (ln c_4)&&(K (aF.mk c0 c1 c2 (aB.mk c3 c4 c5) c6) c7 c8 (aH.mk (aG.mk c_1 c_2 c9 c10 c11 c12 c13 c14) (bG.mk c_3 c_4) c15 c16))))))
 |_,_=>none
theorem bHI{N:aF→Int→Bool→aH→SV×List Blk}{K:aF→Int→Bool→aH→Bool}{f:Nat}(h: ∀(b:aF)(c:Int)(d:Bool)(a:aH),K b c d a=true→dL R f (bW4 b c d a) (bW5 b c d a)=some (N b c d a)):cG f (bHH N K):=fun args hp r e=>by
 unfold bHH at e;split at e
 ·rename_i c0 c1 c2 c3 c4 c5 c6 c7 c8 l1 l2 c9 c10 c11 c12 c13 c14 l3 l4 c15 c16 c_1 c_2 c_3 c_4;obtain⟨hr,hk⟩:=qp (qi e);obtain⟨d0,hk0⟩:=bB hk;obtain⟨d1,hk1⟩:=bB hk0;obtain⟨d2,hk2⟩:=bB hk1;obtain⟨d3,hk3⟩:=bB hk2;obtain rfl:=of_decide_eq_true d0;obtain rfl:=of_decide_eq_true d1;obtain rfl:=of_decide_eq_true d2;obtain rfl:=of_decide_eq_true d3;rw[←hr];exact h (aF.mk c0 c1 c2 (aB.mk c3 c4 c5) c6) c7 c8 (aH.mk (aG.mk c_1 c_2 c9 c10 c11 c12 c13 c14) (bG.mk c_3 c_4) c15 c16) hk3
 ·simp at e
section
variable(b:aF)(c:Int)(a:aH)
def aZ4:Bool:=(((aS (TG b c a).1 true)&&(aS (TG b c a).1 true))&&true)
end
def T89(b:aF)(c:Int)(d:Bool)(a:aH):Pt (aH×bO):=(ot (ot (.ok ((bX a (bHG b c a))&&true) (ot (.br (bif d then(eqI (TG b c a).2.Vector 0)else false) (ot (ot (.ok (aZ4 b c a) (.leaf ({(TG b c a).1 with R:={(TG b c a).1.R with Flags:=a.R.Flags}},(TG b c a).2))))) (ot (.ok (aZ4 b c a) (.leaf ((TG b c a).1,(TG b c a).2)))))))))
def g89(b:aF)(c:Int)(d:Bool)(a:aH):aH×bO:=hid (T89 b c d a).val
def k89(b:aF)(c:Int)(d:Bool)(a:aH):Bool:=hid (T89 b c d a).okv
def n89(b:aF)(c:Int)(d:Bool)(a:aH)(r:aH×bO):SV×List Blk:=((.agg [li r.2.Vector,li r.2.PC,li r.2.Addr,li r.2.Word, .lit (.bool r.2.Write)]),[.box [.sl 1 0 (ln r.1.R.D), .sl 2 0 (ln r.1.R.A),li r.1.R.Other,li r.1.R.PC,li r.1.R.Flags,li r.1.R.Mask, .lit (.bool r.1.R.Super), .lit (.bool r.1.R.Trace), .sl 3 0 (ln r.1.Bus.Bytes), .sl 4 0 (ln r.1.Bus.Log), .lit (.bool r.1.Stop), .lit (.bool r.1.Halt)], .lst 1 r.1.R.D, .lst 1 r.1.R.A, .lst 1 r.1.Bus.Bytes, .lst 5 r.1.Bus.Log])
def q89:=bHH (fun b c d a=>n89 b c d a (g89 b c d a)) k89
theorem t89:cG 89 q89:=bHI fun b c d a hk=>tc aNI (T89 b c d a) (n89 b c d a) hk
def Q89:=aT 89 q89 Q175
theorem aZ5:QO Q89:=aC t89 aNI
def bW7(a:aH)(b:aF)(c:Int)(d:Bool):List SV:=[(.agg [.imm true 1 a.R.D, .imm true 1 a.R.A,li a.R.Other,li a.R.PC,li a.R.Flags,li a.R.Mask, .lit (.bool a.R.Super), .lit (.bool a.R.Trace), .imm true 1 a.Bus.Bytes, .imm true 5 a.Bus.Log, .lit (.bool a.Stop), .lit (.bool a.Halt)]),(.agg [li b.Op,li b.Size,li b.Reg,li b.Ea.Mode,li b.Ea.Reg,li b.Ea.Ext,li b.Sub]),(.one (li c)),(.one (.lit (.bool d)))]
def bW8(a:aH)(b:aF)(c:Int)(d:Bool):List Blk:=[]
def aZ6(N:aH→aF→Int→Bool→SV×List Blk)(K:aH→aF→Int→Bool→Bool):List SV→List Blk→Option ((SV×List Blk)×Bool)
 |[(.agg [.imm true 1 c0, .imm true 1 c1,li c2,li c3,li c4,li c5, .lit (.bool c6), .lit (.bool c7), .imm true 1 c8, .imm true 5 c9, .lit (.bool c10), .lit (.bool c11)]),(.agg [li c12,li c13,li c14,li c15,li c16,li c17,li c18]),(.one (li c19)),(.one (.lit (.bool c20)))],[]=>some (N (aH.mk (aG.mk c0 c1 c2 c3 c4 c5 c6 c7) (bG.mk c8 c9) c10 c11) (aF.mk c12 c13 c14 (aB.mk c15 c16 c17) c18) c19 c20,K (aH.mk (aG.mk c0 c1 c2 c3 c4 c5 c6 c7) (bG.mk c8 c9) c10 c11) (aF.mk c12 c13 c14 (aB.mk c15 c16 c17) c18) c19 c20)
 |_,_=>none
theorem aHV{N:aH→aF→Int→Bool→SV×List Blk}{K:aH→aF→Int→Bool→Bool}{f:Nat}(h: ∀(a:aH)(b:aF)(c:Int)(d:Bool),K a b c d=true→dL R f (bW7 a b c d) (bW8 a b c d)=some (N a b c d)):cG f (aZ6 N K):=fun _ _ _ e=>by
 unfold aZ6 at e;split at e
 ·exact BT e (h _ _ _ _)
 ·cases e
section
variable(a:aH)(b:aF)(c:Int)(d:Bool)
def VE:Bool:=(bif (!(g85 a))then true else(!(g86 b)))
def VF:Bool:=(sW (g89 b c d (g88 a)).2 true)
def aCR:Bool:=((((s1 true)&&(r1 a.R.D))&&(((s1 true)&&(r1 a.R.A))&&((s1 a.R.Other)&&((s1 a.R.PC)&&((s1 a.R.Flags)&&((s1 a.R.Mask)&&((s1 a.R.Super)&&((s1 a.R.Trace)&&(((s1 true)&&(r1 a.Bus.Bytes))&&(((s1 true)&&(r1 a.Bus.Log))&&((s1 a.Stop)&&((s1 a.Halt)&&true))))))))))))&&((rL b true)&&((pH (g89 b c d (g88 a)).1 true)&&((VF a b c d)&&((pH (g89 b c d (g88 a)).1 true)&&(xL (g89 b c d (g88 a)).1 ((VF a b c d)&&true)))))))
def VG:Bool:=((aS (g89 b c d (g88 a)).1 true)&&true)
end
def T11(a:aH)(b:aF)(c:Int)(d:Bool):Pt (aH×bO×Bool):=(ot (.ok ((k85 a)&&((((k86 b)&&true)||(!(g85 a)))&&((((k87 c)&&true)||(VE a b))&&true))) (.br (bif (VE a b)then true else(!(g87 c))) (ot (ot (ot (.leaf ((aH.mk (aG.mk [] [] 0 0 0 0 false false) (bG.mk [] []) false false),(bO.mk 0 0 0 0 false),false))))) (.ok ((k88 a)&&true) (.ok ((bX (g88 a) (k89 b c d (g88 a)))&&true) (.ok (((s1 true)&&true)&&(aCR a b c d)) (.ok ((aS (g89 b c d (g88 a)).1 true)&&(VG a b c d)) (.ok (VG a b c d) (.leaf ((g89 b c d (g88 a)).1,(g89 b c d (g88 a)).2,true))))))))))
def g11(a:aH)(b:aF)(c:Int)(d:Bool):aH×bO×Bool:=hid (T11 a b c d).val
def k11(a:aH)(b:aF)(c:Int)(d:Bool):Bool:=hid (T11 a b c d).okv
def n11(a:aH)(b:aF)(c:Int)(d:Bool)(r:aH×bO×Bool):SV×List Blk:=((.tup [(.agg [.imm true 1 r.1.R.D, .imm true 1 r.1.R.A,li r.1.R.Other,li r.1.R.PC,li r.1.R.Flags,li r.1.R.Mask, .lit (.bool r.1.R.Super), .lit (.bool r.1.R.Trace), .imm true 1 r.1.Bus.Bytes, .imm true 5 r.1.Bus.Log, .lit (.bool r.1.Stop), .lit (.bool r.1.Halt)]),(.agg [li r.2.1.Vector,li r.2.1.PC,li r.2.1.Addr,li r.2.1.Word, .lit (.bool r.2.1.Write)]),(.one (.lit (.bool r.2.2)))]),[])
def q11:=aZ6 (fun a b c d=>n11 a b c d (g11 a b c d)) k11
theorem t11:cG 100011 q11:=aHV fun a b c d hk=>tz aZ5 (T11 a b c d) (n11 a b c d) hk
def Q11:=aT 100011 q11 Q89
theorem aHW:QO Q11:=aC t11 aZ5
structure V242_0 where
 mk::
 (s0:List Row)
 (s5:List Row)
 (s6:Int)
 (s7:Int)
def K6(v:V242_0):Pt (Option V242_0):=(ot (.br (ltI v.s7 v.s6) (.ok ((gN [.int .i64] v.s5 v.s7)&&true) (.ok ((k92 (bD v.s5 (iN v.s7) 0))&&true) (.br (!(g92 (bD v.s5 (iN v.s7) 0))) (ot (.leaf none)) (ot (ot (.leaf (some {v with s7:=(aV v.s7 1)}))))))) (.leaf none)))
def RF(v:V242_0):St:=⟨[(0,(.one (.imm true 1 v.s0))),(5,(.one (.imm true 1 v.s5))),(6,(.one (li v.s6))),(7,(.one (li v.s7)))],[]⟩
def ZM:St→Option (V242_0×Bool)
 |⟨[(0,(.one (.imm true 1 c0))),(5,(.one (.imm true 1 c1))),(6,(.one (li c2))),(7,(.one (li c3)))],[]⟩=>some ((V242_0.mk c0 c1 c2 c3),true)
 |_=>none
def ZN:St→Option (Pt Out):=yI Q11 ([]++HD 242) [] true [] 0 9223372036854775808 aEV
theorem a9P(v:V242_0):((ZN (RF v)).bind (tF true false 0 [0,5,6,7]))=some ((K6 v).map (Option.map RF)):=by kernel_rfl
theorem a9Q(σ:St)(v:V242_0)(h:ZM σ=some (v,true)):σ=RF v:=by
 unfold ZM at h;split at h
 ·obtain⟨hr,hk⟩:=qp (qi h);rw[←hr];rfl
 ·simp at h
theorem a9R:cS (wD true false 0 [0,5,6,7] ZN ZM RF K6 9223372036854775808) (fV R 0 9223372036854775808 (.loop [0,5,6,7] aEV)):=d8 (cW aHW (cF (l:=[]) (by kernel_rfl) trivial)) a9Q a9P
def a9S:Lp:=(8,wD true false 0 [0,5,6,7] ZN ZM RF K6 9223372036854775808)::[]
def RG(v:V242_0):V242_0:=(hid (dV K6 9223372036854775808 v)).getD v
def aHX(v:V242_0):Bool:=(hid (dV K6 9223372036854775808 v)).isSome
section
variable(a:List Row)
def ZO:V242_0:=(RG (V242_0.mk a a (bL a) 0))
end
def aZ7(a:List Row):Pt (Bool):=(ot (ot (ot (ot (.ok (aHX (V242_0.mk a a (bL a) 0)) (.br (ltI (ZO a).s7 (ZO a).s6) (ot (ot (.leaf false))) (ot (ot (ot (.leaf (eqI (bL (ZO a).s0) 4)))))))))))
def aZ8(a:List Row):Bool:=hid (aZ7 a).val
def a9T(a:List Row):Bool:=hid (aZ7 a).okv
def q242:=aF0 (fun a=>IM a (aZ8 a)) a9T
theorem bNU:fT (fun live x=>cS (oQ a9S (m6 x)) (fV R 0 9223372036854775808 (.loop live x))) (qL 242).body:=(cF (l:=[([0,5,6,7],aEV)]) (by kernel_rfl) ⟨fZ (n:=8) (by kernel_rfl) fun σ σr t h ho hl=>a9R σ σr t h ho hl,trivial⟩)
theorem bW9:cG 100242 q242:=P3 fun a hk=>tzl aHW bNU [] [] true (aZ7 a) (IM a) hk
def Q242:=aT 100242 q242 Q11
theorem aNJ:QO Q242:=aC bW9 aHW
def aZ9(a:Int):Pt (Bool):=(ot (.ok ((yT a 0 31)&&true) (ot (ot (.leaf (wH a 0 31))))))
def bHJ(a:Int):Bool:=hid (aZ9 a).val
def bHK(a:Int):Bool:=hid (aZ9 a).okv
def q243:=AZ (fun a=>kG a (bHJ a)) bHK
theorem bXA:cG 100243 q243:=gX fun a hk=>tz aNJ (aZ9 a) (kG a) hk
def Q243:=aT 100243 q243 Q242
theorem aNK:QO Q243:=aC bXA aNJ
section
variable(a:aG)
def aHY:Bool:=(bif (aZ8 a.D)then(aZ8 a.A)else false)
def aHZ:Bool:=(bif (aHY a)then(g92 a.Other)else false)
def aH0:Bool:=(bif (aHZ a)then(g92 a.PC)else false)
def aH1:Bool:=(bif (aH0 a)then(bHJ a.Flags)else false)
end
def a0A(a:aG):Pt (Bool):=(ot (.ok ((a9T a.D)&&((((a9T a.A)&&true)||(!(aZ8 a.D)))&&((((k92 a.Other)&&true)||(!(aHY a)))&&((((k92 a.PC)&&true)||(!(aHZ a)))&&((((bHK a.Flags)&&true)||(!(aH0 a)))&&((((yT a.Mask 0 7)&&true)||(!(aH1 a)))&&true)))))) (ot (ot (.leaf (bif (aH1 a)then(wH a.Mask 0 7)else false))))))
def a9U(a:aG):Bool:=hid (a0A a).val
def bHL(a:aG):Bool:=hid (a0A a).okv
def q176:=a70 (fun a=>a72 a (a9U a)) bHL
theorem bXB:cG 100176 q176:=aXG fun a hk=>tz aNK (a0A a) (a72 a) hk
def Q176:=aT 100176 q176 Q243
theorem aNL:QO Q176:=aC bXB aNK
def aH2(a:Int):Pt (Int):=(ot (.ok ((leI 0 (vB .u64 (dB 8 a)))&&true) (ot (ot (.leaf (hX 1 (vB .u64 (dB 8 a))))))))
def wL(a:Int):Int:=hid (aH2 a).val
def IW(a:Int):Bool:=hid (aH2 a).okv
def q297:=AZ (fun a=>wK a (wL a)) IW
theorem bXC:cG 100297 q297:=gX fun a hk=>tz aNL (aH2 a) (wK a) hk
def Q297:=aT 100297 q297 Q176
theorem aNM:QO Q297:=aC bXC aNL
def a0B(a:Int)(b:Int):Pt (Bool):=(ot (.ok ((aRU a)&&((((IW a)&&((yT b 0 (bZ (wL a) 1))&&true))||(!(aCE a)))&&true)) (ot (ot (.leaf (bif (aCE a)then(wH b 0 (bZ (wL a) 1))else false))))))
def a0C(a:Int)(b:Int):Bool:=hid (a0B a b).val
def a0D(a:Int)(b:Int):Bool:=hid (a0B a b).okv
def q294:=M1 (fun a b=>S7 a b (a0C a b)) a0D
theorem bXD:cG 100294 q294:=xP fun a b hk=>tz aNM (a0B a b) (S7 a b) hk
def Q294:=aT 100294 q294 Q297
theorem aNN:QO Q294:=aC bXD aNM
def a0E(a:Int):Pt (Bool):=(ot (.ok ((yT a 0 65535)&&true) (ot (ot (.leaf (wH a 0 65535))))))
def a9V(a:Int):Bool:=hid (a0E a).val
def a9W(a:Int):Bool:=hid (a0E a).okv
def q157:=AZ (fun a=>kG a (a9V a)) a9W
theorem bXE:cG 100157 q157:=gX fun a hk=>tz aNN (a0E a) (kG a) hk
def Q157:=aT 100157 q157 Q294
theorem aNO:QO Q157:=aC bXE aNN
section
variable(a:aA)
def aH3:Bool:=(bif (!(wH a.Kind 1 3))then true else(!(a0C a.Size a.Value)))
def aH4:Bool:=(bif (aH3 a)then true else(!(a9V a.Addr)))
end
def a0F(a:aA):Pt (Bool):=(ot (.ok ((yT a.Kind 1 3)&&((((a0D a.Size a.Value)&&true)||(!(wH a.Kind 1 3)))&&((((a9W a.Addr)&&true)||(aH3 a))&&((((yT a.Code 0 3)&&true)||(aH4 a))&&true)))) (.br (bif (aH4 a)then true else(!(wH a.Code 0 3))) (ot (ot (ot (.leaf false)))) (ot (ot (ot (.leaf (bif (cV a.Kind 3)then true else(cV a.Code 0)))))))))
def bHM(a:aA):Bool:=hid (a0F a).val
def bHN(a:aA):Bool:=hid (a0F a).okv
def q244:=aXL (fun a=>aR5 a (bHM a)) bHN
theorem bXF:cG 100244 q244:=aF8 fun a hk=>tz aNO (a0F a) (aR5 a) hk
def Q244:=aT 100244 q244 Q157
theorem NH:QO Q244:=aC bXF aNO
structure V245v1_0 where
 mk::
 (s5:List Row)
 (s6:Int)
 (s7:Int)
def yW(v:V245v1_0):Pt (Option V245v1_0):=(ot (.br (ltI v.s7 v.s6) (.ok ((gN [.int .i64] v.s5 v.s7)&&true) (.ok ((yT (bD v.s5 (iN v.s7) 0) 0 255)&&true) (.br (!(wH (bD v.s5 (iN v.s7) 0) 0 255)) (ot (.leaf none)) (ot (ot (.leaf (some {v with s7:=(aV v.s7 1)}))))))) (.leaf none)))
def CQ(v:V245v1_0):St:=⟨[(5,(.one (.imm true 1 v.s5))),(6,(.one (li v.s6))),(7,(.one (li v.s7)))],[]⟩
def IX:St→Option (V245v1_0×Bool)
 |⟨[(5,(.one (.imm true 1 c0))),(6,(.one (li c1))),(7,(.one (li c2)))],[]⟩=>some ((V245v1_0.mk c0 c1 c2),true)
 |_=>none
def K7:St→Option (Pt Out):=yI Q244 ([]++HD 245) [] true [] 0 9223372036854775808 J6
theorem aSR(v:V245v1_0):((K7 (CQ v)).bind (tF true false 0 [5,6,7]))=some ((yW v).map (Option.map CQ)):=by kernel_rfl
theorem aSS(σ:St)(v:V245v1_0)(h:IX σ=some (v,true)):σ=CQ v:=by
 unfold IX at h;split at h
 ·obtain⟨hr,hk⟩:=qp (qi h);rw[←hr];rfl
 ·simp at h
theorem aST:cS (wD true false 0 [5,6,7] K7 IX CQ yW 9223372036854775808) (fV R 0 9223372036854775808 (.loop [5,6,7] J6)):=d8 (cW NH (cF (l:=[]) (by kernel_rfl) trivial)) aSS aSR
def aSU:Lp:=(8,wD true false 0 [5,6,7] K7 IX CQ yW 9223372036854775808)::[]
def IY(v:V245v1_0):V245v1_0:=(hid (dV yW 9223372036854775808 v)).getD v
def RH(v:V245v1_0):Bool:=(hid (dV yW 9223372036854775808 v)).isSome
section
variable(a:List Row)
def RJ:V245v1_0:=(IY (V245v1_0.mk a (bL a) 0))
end
def ZP(a:List Row):Pt (Bool):=(ot (ot (ot (ot (.ok (RH (V245v1_0.mk a (bL a) 0)) (.br (ltI (RJ a).s7 (RJ a).s6) (ot (ot (.leaf false))) (ot (ot (ot (.leaf true))))))))))
def ZQ(a:List Row):Bool:=hid (ZP a).val
def ZR(a:List Row):Bool:=hid (ZP a).okv
def q245v1:=aF0 (fun a=>IM a (ZQ a)) ZR
theorem a9X:fT (fun live x=>cS (oQ aSU (m6 x)) (fV R 0 9223372036854775808 (.loop live x))) (qL 245).body:=(cF (l:=[([5,6,7],J6)]) (by kernel_rfl) ⟨fZ (n:=8) (by kernel_rfl) fun σ σr t h ho hl=>aST σ σr t h ho hl,trivial⟩)
theorem bHO:cG 100245 q245v1:=P3 fun a hk=>tzl NH a9X [] [] true (ZP a) (IM a) hk
def Q245v1:=aT 100245 q245v1 Q244
theorem VH:QO Q245v1:=aC bHO NH
structure V177_0 where
 mk::
 (b0:bG)
 (s6:List Row)
 (s7:Int)
 (s8:Int)
def K8(v:V177_0):Pt (Option V177_0):=(ot (.br (ltI v.s8 v.s7) (.ok ((gN [.int .i64, .int .i64, .int .i64, .int .i64, .int .i64] v.s6 v.s8)&&true) (.ok ((bHN (aA.at v.s6 (iN v.s8) 0))&&true) (.br (!(bHM (aA.at v.s6 (iN v.s8) 0))) (ot (.leaf none)) (ot (ot (.leaf (some {v with s8:=(aV v.s8 1)}))))))) (.leaf none)))
def RK(v:V177_0):St:=⟨[(1,(.one (.ptr 0 0 0))),(6,(.one (.imm true 5 v.s6))),(7,(.one (li v.s7))),(8,(.one (li v.s8)))],[.box [.imm true 1 v.b0.Bytes, .imm true 5 v.b0.Log]]⟩
def ZS:St→Option (V177_0×Bool)
 |⟨[(1,(.one (.ptr 0 0 0))),(6,(.one (.imm true 5 c2))),(7,(.one (li c3))),(8,(.one (li c4)))],[.box [.imm true 1 c0, .imm true 5 c1]]⟩=>some ((V177_0.mk (bG.mk c0 c1) c2 c3 c4),true)
 |_=>none
def ZT:St→Option (Pt Out):=yI Q244 ([]++HD 177) [] true [] 0 9223372036854775808 aEP
theorem a9Y(v:V177_0):((ZT (RK v)).bind (tF true false 0 [1,6,7,8]))=some ((K8 v).map (Option.map RK)):=by kernel_rfl
theorem a9Z(σ:St)(v:V177_0)(h:ZS σ=some (v,true)):σ=RK v:=by
 unfold ZS at h;split at h
 ·obtain⟨hr,hk⟩:=qp (qi h);rw[←hr];rfl
 ·simp at h
theorem a90:cS (wD true false 0 [1,6,7,8] ZT ZS RK K8 9223372036854775808) (fV R 0 9223372036854775808 (.loop [1,6,7,8] aEP)):=d8 (cW NH (cF (l:=[]) (by kernel_rfl) trivial)) a9Z a9Y
def a91:Lp:=(9,wD true false 0 [1,6,7,8] ZT ZS RK K8 9223372036854775808)::[]
def RL(v:V177_0):V177_0:=(hid (dV K8 9223372036854775808 v)).getD v
def aH5(v:V177_0):Bool:=(hid (dV K8 9223372036854775808 v)).isSome
section
variable(a:bG)
def CS:V177_0:=(RL (V177_0.mk a a.Log (bL a.Log) 0))
end
def a0G(a:bG):Pt (Bool):=(ot (ot (ot (ot (.ok (aH5 (V177_0.mk a a.Log (bL a.Log) 0)) (.br (ltI (CS a).s8 (CS a).s7) (ot (ot (.leaf false))) (.ok ((((ZR (CS a).b0.Bytes)&&true)||(!(eqI (bL (CS a).b0.Bytes) 512)))&&true) (ot (ot (.leaf (bif (bif (eqI (bL (CS a).b0.Bytes) 512)then(ZQ (CS a).b0.Bytes)else false)then(leI (bL (CS a).b0.Log) 400)else false)))))))))))
def bHP(a:bG):Bool:=hid (a0G a).val
def bHQ(a:bG):Bool:=hid (a0G a).okv
def q177:=aXR (fun a=>a8K a (bHP a)) bHQ
theorem bNV:fT (fun live x=>cS (oQ a91 (m6 x)) (fV R 0 9223372036854775808 (.loop live x))) (qL 177).body:=(cF (l:=[([1,6,7,8],aEP)]) (by kernel_rfl) ⟨fZ (n:=9) (by kernel_rfl) fun σ σr t h ho hl=>a90 σ σr t h ho hl,trivial⟩)
theorem bXG:cG 100177 q177:=aGC fun a hk=>tzl VH bNV [] [] true (a0G a) (a8K a) hk
def Q177:=aT 100177 q177 Q245v1
theorem aNP:QO Q177:=aC bXG VH
def T90(a:aH):Pt (Bool):=(ot (.ok ((bHL a.R)&&((((bHQ a.Bus)&&true)||(!(a9U a.R)))&&true)) (ot (ot (.leaf (bif (bif (a9U a.R)then(bHP a.Bus)else false)then(!(bif a.Stop then a.Halt else false))else false))))))
def g90(a:aH):Bool:=hid (T90 a).val
def k90(a:aH):Bool:=hid (T90 a).okv
def q90:=aR6 (fun a=>aR7 a (g90 a)) k90
theorem t90:cG 100090 q90:=YR fun a hk=>tz aNP (T90 a) (aR7 a) hk
def Q90:=aT 100090 q90 Q177
theorem a0H:QO Q90:=aC t90 aNP
def a0I(a:aG):Pt (aG):=(ot (.ok (((qN (vC (0+(ln a.D)) 8) 140737488355328)&&(qN (0+(ln a.D)) 140737488355328))&&true) (.ok (((qN (vC (0+(ln a.A)) 8) 140737488355328)&&(qN (0+(ln a.A)) 140737488355328))&&true) (ot (.ok ((aK a true)&&((aK a true)&&true)) (.leaf a))))))
def D5(a:aG):aG:=hid (a0I a).val
def a0J(a:aG):Bool:=hid (a0I a).okv
def q188:=aX8 (fun a=>a8U a (D5 a)) a0J
theorem bXJ:cG 188 q188:=aGJ fun a p0 p1 hk=>tc a0H (a0I a) (a8U a) hk
def Q188:=aT 188 q188 Q90
theorem aNQ:QO Q188:=aC bXJ a0H
def bXK(a:bG)(p0:Bool)(p1:Bool):List SV:=[(.agg [.imm p0 1 a.Bytes, .imm p1 5 a.Log])]
def bXL(a:bG)(p0:Bool)(p1:Bool):List Blk:=[]
def bHR(N:bG→SV×List Blk)(K:bG→Bool):List SV→List Blk→Option ((SV×List Blk)×Bool)
 |[(.agg [.imm p0 1 c0, .imm p1 5 c1])],[]=>some (N (bG.mk c0 c1),K (bG.mk c0 c1))
 |_,_=>none
theorem bHS{N:bG→SV×List Blk}{K:bG→Bool}{f:Nat}(h: ∀(a:bG)(p0:Bool)(p1:Bool),K a=true→dL R f (bXK a p0 p1) (bXL a p0 p1)=some (N a)):cG f (bHR N K):=fun _ _ _ e=>by
 unfold bHR at e;split at e
 ·exact BT e (h _ _ _)
 ·cases e
section
variable(a:bG)
def d9:Bool:=((((qN (vC (0+(ln a.Bytes)) 8) 140737488355328)&&(qN (0+(ln a.Bytes)) 140737488355328))&&(((qN (vC (0+(ln a.Log)) 40) 140737488355328)&&(qN (0+(ln a.Log)) 140737488355328))&&true))&&(((bH a true)&&(bH a true))&&true))
def a0K:Bool:=(((d9 a)&&(((d9 a)&&(((d9 a)&&(((d9 a)&&(((d9 a)&&(((d9 a)&&((d9 a)&&((dP a true)&&(dI a true))))&&((dP a true)&&(dI a true))))&&((dP a true)&&(dI a true))))&&((dP a true)&&(dI a true))))&&((dP a true)&&(dI a true))))&&((dP a true)&&(dI a true))))&&((dP a true)&&(dI a true)))
def a0L:Bool:=(((d9 a)&&(((d9 a)&&(((d9 a)&&(((d9 a)&&(((d9 a)&&(((d9 a)&&(((d9 a)&&(a0K a))&&((dP a true)&&(dI a true))))&&((dP a true)&&(dI a true))))&&((dP a true)&&(dI a true))))&&((dP a true)&&(dI a true))))&&((dP a true)&&(dI a true))))&&((dP a true)&&(dI a true))))&&((dP a true)&&(dI a true)))
def a0M:Bool:=(((d9 a)&&(((d9 a)&&(((d9 a)&&(((d9 a)&&(((d9 a)&&(((d9 a)&&(((d9 a)&&(a0L a))&&((dP a true)&&(dI a true))))&&((dP a true)&&(dI a true))))&&((dP a true)&&(dI a true))))&&((dP a true)&&(dI a true))))&&((dP a true)&&(dI a true))))&&((dP a true)&&(dI a true))))&&((dP a true)&&(dI a true)))
def a0N:Bool:=(((d9 a)&&(((d9 a)&&(((d9 a)&&(((d9 a)&&(((d9 a)&&(((d9 a)&&(((d9 a)&&(a0M a))&&((dP a true)&&(dI a true))))&&((dP a true)&&(dI a true))))&&((dP a true)&&(dI a true))))&&((dP a true)&&(dI a true))))&&((dP a true)&&(dI a true))))&&((dP a true)&&(dI a true))))&&((dP a true)&&(dI a true)))
def a0O:Bool:=(((d9 a)&&(((d9 a)&&(((d9 a)&&(((d9 a)&&(((d9 a)&&(((d9 a)&&(((d9 a)&&(a0N a))&&((dP a true)&&(dI a true))))&&((dP a true)&&(dI a true))))&&((dP a true)&&(dI a true))))&&((dP a true)&&(dI a true))))&&((dP a true)&&(dI a true))))&&((dP a true)&&(dI a true))))&&((dP a true)&&(dI a true)))
end
def a0P(a:bG):Pt (bG):=(ot (.ok ((d9 a)&&(((d9 a)&&(((d9 a)&&(a0O a))&&((dP a true)&&(dI a true))))&&((dP a true)&&(dI a true)))) (.ok ((bH a true)&&((bH a true)&&true)) (.leaf a))))
def a92(a:bG):bG:=hid (a0P a).val
def bHT(a:bG):Bool:=hid (a0P a).okv
def q201:=bHR (fun a=>a8W a (a92 a)) bHT
theorem bXM:cG 201 q201:=bHS fun a p0 p1 hk=>tc aNQ (a0P a) (a8W a) hk
def Q201:=aT 201 q201 Q188
theorem aNR:QO Q201:=aC bXM aNQ
def bXN(a:aH)(p0:Bool)(p1:Bool)(p2:Bool)(p3:Bool):List SV:=[(.agg [.imm p0 1 a.R.D, .imm p1 1 a.R.A,li a.R.Other,li a.R.PC,li a.R.Flags,li a.R.Mask, .lit (.bool a.R.Super), .lit (.bool a.R.Trace), .imm p2 1 a.Bus.Bytes, .imm p3 5 a.Bus.Log, .lit (.bool a.Stop), .lit (.bool a.Halt)])]
def bXO(a:aH)(p0:Bool)(p1:Bool)(p2:Bool)(p3:Bool):List Blk:=[]
def a93(N:aH→SV×List Blk)(K:aH→Bool):List SV→List Blk→Option ((SV×List Blk)×Bool)
 |[(.agg [.imm p0 1 c0, .imm p1 1 c1,li c2,li c3,li c4,li c5, .lit (.bool c6), .lit (.bool c7), .imm p2 1 c8, .imm p3 5 c9, .lit (.bool c10), .lit (.bool c11)])],[]=>some (N (aH.mk (aG.mk c0 c1 c2 c3 c4 c5 c6 c7) (bG.mk c8 c9) c10 c11),K (aH.mk (aG.mk c0 c1 c2 c3 c4 c5 c6 c7) (bG.mk c8 c9) c10 c11))
 |_,_=>none
theorem a0Q{N:aH→SV×List Blk}{K:aH→Bool}{f:Nat}(h: ∀(a:aH)(p0:Bool)(p1:Bool)(p2:Bool)(p3:Bool),K a=true→dL R f (bXN a p0 p1 p2 p3) (bXO a p0 p1 p2 p3)=some (N a)):cG f (a93 N K):=fun _ _ _ e=>by
 unfold a93 at e;split at e
 ·exact BT e (h _ _ _ _ _)
 ·cases e
section
variable(a:aH)
def aH6:Bool:=(aK (D5 a.R) (bH (a92 a.Bus) true))
end
def a0R(a:aH):Pt (aH):=(ot (.ok ((a0J a.R)&&true) (.ok ((bHT a.Bus)&&true) (ot (.ok ((aH6 a)&&((aH6 a)&&true)) (.leaf {a with R:=(D5 a.R),Bus:=(a92 a.Bus)}))))))
def aCS(a:aH):aH:=hid (a0R a).val
def a94(a:aH):Bool:=hid (a0R a).okv
def q120:=a93 (fun a=>n88 a (aCS a)) a94
theorem bXP:cG 120 q120:=a0Q fun a p0 p1 p2 p3 hk=>tc aNR (a0R a) (n88 a) hk
def Q120:=aT 120 q120 Q201
theorem aNS:QO Q120:=aC bXP aNR
def a0S(a:aH):Pt (aL):=(ot (.ok ((a94 a)&&true) (ot (.ok (((aS (aCS a) true)&&(aS (aCS a) true))&&true) (.leaf (aL.mk (aCS a).R (aCS a).Bus (aCS a).Stop (bO.mk 0 0 0 0 false)))))))
def qC(a:aH):aL:=hid (a0S a).val
def a95(a:aH):Bool:=hid (a0S a).okv
def bNX(a:aH)(r:aL):SV×List Blk:=((.one (.ptr 0 0 0)),[.box [.sl 1 0 (ln r.fr.D), .sl 2 0 (ln r.fr.A),li r.fr.Other,li r.fr.PC,li r.fr.Flags,li r.fr.Mask, .lit (.bool r.fr.Super), .lit (.bool r.fr.Trace), .sl 3 0 (ln r.fbus.Bytes), .sl 4 0 (ln r.fbus.Log), .lit (.bool r.fstop),li r.ffault.Vector,li r.ffault.PC,li r.ffault.Addr,li r.ffault.Word, .lit (.bool r.ffault.Write)], .lst 1 r.fr.D, .lst 1 r.fr.A, .lst 1 r.fbus.Bytes, .lst 5 r.fbus.Log])
def q183:=a93 (fun a=>bNX a (qC a)) a95
theorem bXQ:cG 183 q183:=a0Q fun a p0 p1 p2 p3 hk=>tc aNS (a0S a) (bNX a) hk
def Q183:=aT 183 q183 Q120
theorem aNT:QO Q183:=aC bXQ aNS
def a0T(a:aF):Pt (Bool):=(ot (ot (ot (ot (.leaf (bif (bif (eqI a.Op 15)then(bif (eqI a.Sub 1)then true else(eqI a.Sub 3))else false)then true else(bif (eqI a.Op 19)then(eqI a.Sub 0)else false)))))))
def bHU(a:aF):Bool:=hid (a0T a).val
def bHV(a:aF):Bool:=hid (a0T a).okv
def q184:=HE (fun a=>NF a (bHU a)) bHV
theorem bXR:cG 100184 q184:=kD fun a hk=>tz aNT (a0T a) (NF a) hk
def Q184:=aT 100184 q184 Q183
theorem aNU:QO Q184:=aC bXR aNT
def bXS(a:aG)(b:Int)(c:Int)(p0:Bool)(p1:Bool):List SV:=[(.agg [.imm p0 1 a.D, .imm p1 1 a.A,li a.Other,li a.PC,li a.Flags,li a.Mask, .lit (.bool a.Super), .lit (.bool a.Trace)]),(.one (li b)),(.one (li c))]
def bXT(a:aG)(b:Int)(c:Int)(p0:Bool)(p1:Bool):List Blk:=[]
def bHW(N:aG→Int→Int→SV×List Blk)(K:aG→Int→Int→Bool):List SV→List Blk→Option ((SV×List Blk)×Bool)
 |[(.agg [.imm p0 1 c0, .imm p1 1 c1,li c2,li c3,li c4,li c5, .lit (.bool c6), .lit (.bool c7)]),(.one (li c8)),(.one (li c9))],[]=>some (N (aG.mk c0 c1 c2 c3 c4 c5 c6 c7) c8 c9,K (aG.mk c0 c1 c2 c3 c4 c5 c6 c7) c8 c9)
 |_,_=>none
theorem bHX{N:aG→Int→Int→SV×List Blk}{K:aG→Int→Int→Bool}{f:Nat}(h: ∀(a:aG)(b:Int)(c:Int)(p0:Bool)(p1:Bool),K a b c=true→dL R f (bXS a b c p0 p1) (bXT a b c p0 p1)=some (N a b c)):cG f (bHW N K):=fun _ _ _ e=>by
 unfold bHW at e;split at e
 ·exact BT e (h _ _ _ _ _)
 ·cases e
def a0U(a:aG)(b:Int)(c:Int):Pt (Int):=(ot (.ok ((gN [.int .i64] a.D c)&&((IW b)&&true)) (ot (ot (.leaf (aD (bD a.D (iN c) 0) (bZ (wL b) 1)))))))
def a0V(a:aG)(b:Int)(c:Int):Int:=hid (a0U a b c).val
def a0W(a:aG)(b:Int)(c:Int):Bool:=hid (a0U a b c).okv
def bNY(a:aG)(b:Int)(c:Int)(r:Int):SV×List Blk:=((.one (li r)),[])
def q248:=bHW (fun a b c=>bNY a b c (a0V a b c)) a0W
theorem bXU:cG 100248 q248:=bHX fun a b c p0 p1 hk=>tz aNU (a0U a b c) (bNY a b c) hk
def Q248:=aT 100248 q248 Q184
theorem aNV:QO Q248:=aC bXU aNU
def a0X(a:Int)(b:Int):Pt (Int):=(ot (ot (.br (bif (eqI a 1)then(cV b 3)else false) (ot (ot (ot (.leaf 1)))) (ot (ot (ot (.leaf 2)))))))
def a96(a:Int)(b:Int):Int:=hid (a0X a b).val
def a97(a:Int)(b:Int):Bool:=hid (a0X a b).okv
def q340:=M1 (fun a b=>TB a b (a96 a b)) a97
theorem bXV:cG 100340 q340:=xP fun a b hk=>tz aNV (a0X a b) (TB a b) hk
def Q340:=aT 100340 q340 Q248
theorem aNW:QO Q340:=aC bXV aNV
def bXW(a:aG)(b:Int)(c:aB):List SV:=[(.agg [.sl 0 0 (ln a.D), .sl 1 0 (ln a.A),li a.Other,li a.PC,li a.Flags,li a.Mask, .lit (.bool a.Super), .lit (.bool a.Trace)]),(.one (li b)),(.agg [li c.Mode,li c.Reg,li c.Ext])]
def bXX(a:aG)(b:Int)(c:aB):List Blk:=[.lst 1 a.D, .lst 1 a.A]
def bHY(N:aG→Int→aB→SV×List Blk)(K:aG→Int→aB→Bool):List SV→List Blk→Option ((SV×List Blk)×Bool)
 |[(.agg [.sl 0 0 l0, .sl 1 0 l1,li c0,li c1,li c2,li c3, .lit (.bool c4), .lit (.bool c5)]),(.one (li c6)),(.agg [li c7,li c8,li c9])],[.lst 1 c_0, .lst 1 c_1]=>some (N (aG.mk c_0 c_1 c0 c1 c2 c3 c4 c5) c6 (aB.mk c7 c8 c9),eD l0 (ln c_0)&&(eD l1 (ln c_1)&&(K (aG.mk c_0 c_1 c0 c1 c2 c3 c4 c5) c6 (aB.mk c7 c8 c9))))
 |_,_=>none
theorem bHZ{N:aG→Int→aB→SV×List Blk}{K:aG→Int→aB→Bool}{f:Nat}(h: ∀(a:aG)(b:Int)(c:aB),K a b c=true→dL R f (bXW a b c) (bXX a b c)=some (N a b c)):cG f (bHY N K):=fun args hp r e=>by
 unfold bHY at e;split at e
 ·rename_i l0 l1 c0 c1 c2 c3 c4 c5 c6 c7 c8 c9 c_0 c_1;obtain⟨hr,hk⟩:=qp (qi e);obtain⟨d0,hk0⟩:=bB hk;obtain⟨d1,hk1⟩:=bB hk0;obtain rfl:=of_decide_eq_true d0;obtain rfl:=of_decide_eq_true d1;rw[←hr];exact h (aG.mk c_0 c_1 c0 c1 c2 c3 c4 c5) c6 (aB.mk c7 c8 c9) hk1
 ·simp at e
section
variable(a:aG)(b:Int)(c:aB)
def aH7:Bool:=((leI 0 c.Reg)&&(ltI c.Reg (bL a.A)))
def aH8:Bool:=((aH7 a c)&&(((blt (0+(iN c.Reg)) (ln a.A))&&(jT (jU a.A (0+(iN c.Reg))) 1))&&true))
def aH9:List Row:=(List.set a.A (0+(iN c.Reg)) (aU (aD (aV (bD a.A (0+(iN c.Reg)) 0) (a96 b c.Reg)) 65535)))
def aIA:Bool:=((e1 (ln a.D))&&((eD (ln a.A) (ln (aH9 a b c)))&&true))
def aIB:Int:=(aD (bZ (bD a.A (0+(iN c.Reg)) 0) (a96 b c.Reg)) 65535)
def aIC:List Row:=(List.set a.A (0+(iN c.Reg)) (aU (aIB a b c)))
def aID:Bool:=((e1 (ln a.D))&&((eD (ln a.A) (ln (aIC a b c)))&&true))
end
def a0Y(a:aG)(b:Int)(c:aB):Pt (aG×Int):=(ot (.ok ((aH7 a c)&&((dM [.int .i64] a.A (0+(iN c.Reg)) 0)&&true)) (ot (ot (.br (eqI c.Mode 3) (.ok (((a97 b c.Reg)&&(aH8 a c))&&true) (ot (.ok (((aIA a b c)&&((aK a true)&&true))&&(((aIA a b c)&&true)&&true)) (.leaf ({a with A:=(aH9 a b c)},(bD a.A (0+(iN c.Reg)) 0)))))) (ot (.br (eqI c.Mode 4) (.ok ((a97 b c.Reg)&&true) (.ok (aH8 a c) (ot (.ok (((aID a b c)&&((aK a true)&&true))&&(((aID a b c)&&true)&&true)) (.leaf ({a with A:=(aIC a b c)},(aIB a b c))))))) (ot (ot (ot (.ok (((aK a true)&&((aK a true)&&true))&&(((aK a true)&&true)&&true)) (.leaf (a,(bif (eqI c.Mode 5)then(aD (aV (bD a.A (0+(iN c.Reg)) 0) c.Ext) 65535)else(bif (eqI c.Mode 6)then c.Ext else(bD a.A (0+(iN c.Reg)) 0))))))))))))))))
def A0(a:aG)(b:Int)(c:aB):aG×Int:=hid (a0Y a b c).val
def a98(a:aG)(b:Int)(c:aB):Bool:=hid (a0Y a b c).okv
def bNZ(a:aG)(b:Int)(c:aB)(r:aG×Int):SV×List Blk:=((.tup [(.agg [.sl 0 0 (ln r.1.D), .sl 1 0 (ln r.1.A),li r.1.Other,li r.1.PC,li r.1.Flags,li r.1.Mask, .lit (.bool r.1.Super), .lit (.bool r.1.Trace)]),(.one (li r.2))]),[.lst 1 r.1.D, .lst 1 r.1.A])
def q295:=bHY (fun a b c=>bNZ a b c (A0 a b c)) a98
theorem bXY:cG 295 q295:=bHZ fun a b c hk=>tcx aNW [(1000001,[])] [] true (a0Y a b c) (bNZ a b c) hk
def Q295:=aT 295 q295 Q340
theorem aNX:QO Q295:=aC bXY aNW
def a0Z(a:Int):Pt (Int):=(ot (ot (.ok (((yT a 448 495)&&true)||(jO a 512)) (.br (bif (jO a 512)then(jO a 512)else(wH a 448 495)) (ot (ot (ot (.leaf 1)))) (.ok ((yT a 384 447)&&true) (.br (wH a 384 447) (ot (ot (ot (.leaf 3)))) (ot (ot (ot (.leaf 0))))))))))
def aIE(a:Int):Int:=hid (a0Z a).val
def aSV(a:Int):Bool:=hid (a0Z a).okv
def q361:=AZ (fun a=>wK a (aIE a)) aSV
theorem bXZ:cG 100361 q361:=gX fun a hk=>tz aNX (a0Z a) (wK a) hk
def Q361:=aT 100361 q361 Q295
theorem aNY:QO Q361:=aC bXZ aNX
section
variable(b:Int)(c:Int)
def aIF:Int:=(aIE (bZ (aV c b) 1))
end
def a00(a:Int)(b:Int)(c:Int):Pt (Int):=(ot (ot (ot (.br (bif (eqI b 2)then(eqI (aD c 1) 1)else false) (ot (ot (ot (.leaf 2)))) (.ok ((aSV c)&&((((aSV (bZ (aV c b) 1))&&true)||(eqI (aIE c) 1))&&true)) (.br (bif (eqI (aIE c) 1)then true else(eqI (aIF b c) 1)) (ot (ot (ot (.leaf 1)))) (.ok ((((aSV c)&&((((aSV (bZ (aV c b) 1))&&true)||(eqI (aIE c) 3))&&true))||(!(eqI a 2)))&&true) (.br (bif (eqI a 2)then(bif (eqI (aIE c) 3)then true else(eqI (aIF b c) 3))else false) (ot (ot (ot (.leaf 3)))) (ot (ot (ot (.leaf 0))))))))))))
def ZU(a:Int)(b:Int)(c:Int):Int:=hid (a00 a b c).val
def bH0(a:Int)(b:Int)(c:Int):Bool:=hid (a00 a b c).okv
def q350:=DS5 (fun a b c=>aCP a b c (ZU a b c)) bH0
theorem bX0:cG 100350 q350:=BU fun a b c hk=>tz aNY (a00 a b c) (aCP a b c) hk
def Q350:=aT 100350 q350 Q361
theorem ZV:QO Q350:=aC bX0 aNY
structure V341_0 where
 mk::
 (b0:bG)
 (s1:Int)
 (s2:Int)
 (s3:Int)
 (s4:Int)
 (s12:Int)
 (s13:Int)
 (s14:Int)
section
variable(v:V341_0)
def rW:Int:=(vB .u64 (dB 8 (bZ (bZ v.s2 1) v.s14)))
def rX:Bool:=((leI 0 (aV v.s3 v.s14))&&(ltI (aV v.s3 v.s14) (bL v.b0.Bytes)))
def rY:List Row:=(List.set v.b0.Bytes (0+(iN (aV v.s3 v.s14))) (aU (aD (lO v.s4 (rW v)) 255)))
def rZ:Bool:=((eD (ln v.b0.Bytes) (ln (rY v)))&&((e1 (ln v.b0.Log))&&true))
end
def sA(v:V341_0):Pt (Option V341_0):=(ot (.br (ltI v.s14 v.s2) (ot (.br (eqI v.s1 2) (.ok ((leI 0 (rW v))&&((rX v)&&(((blt (0+(iN (aV v.s3 v.s14))) (ln v.b0.Bytes))&&(jT (jU v.b0.Bytes (0+(iN (aV v.s3 v.s14)))) 1))&&true))) (ot (.ok ((((bH v.b0 true)&&(rZ v))&&true)&&((rZ v)&&true)) (.leaf (some {v with b0:={v.b0 with Bytes:=(rY v)},s14:=(aV v.s14 1)}))))) (.ok ((rX v)&&((dM [.int .i64] v.b0.Bytes (0+(iN (aV v.s3 v.s14))) 0)&&true)) (ot (.ok (dd (bH v.b0 true) ((bH v.b0 true)&&true)) (.leaf (some {v with s13:=(cD (hX v.s13 8) (bD v.b0.Bytes (0+(iN (aV v.s3 v.s14))) 0)),s14:=(aV v.s14 1)}))))))) (.leaf none)))
def RN(v:V341_0):St:=⟨[(0,(.one (.ptr 0 0 0))),(1,(.one (li v.s1))),(2,(.one (li v.s2))),(3,(.one (li v.s3))),(4,(.one (li v.s4))),(12,(.one (li v.s12))),(13,(.one (li v.s13))),(14,(.one (li v.s14)))],[.box [.sl 1 0 (ln v.b0.Bytes), .sl 2 0 (ln v.b0.Log)], .lst 1 v.b0.Bytes, .lst 5 v.b0.Log]⟩
def ZW:St→Option (V341_0×Bool)
 |⟨[(0,(.one (.ptr 0 0 0))),(1,(.one (li c0))),(2,(.one (li c1))),(3,(.one (li c2))),(4,(.one (li c3))),(12,(.one (li c4))),(13,(.one (li c5))),(14,(.one (li c6)))],[.box [.sl 1 0 l1, .sl 2 0 l2], .lst 1 c_1, .lst 5 c_2]⟩=>some ((V341_0.mk (bG.mk c_1 c_2) c0 c1 c2 c3 c4 c5 c6),eD l1 (ln c_1)&&(eD l2 (ln c_2)&&(true)))
 |_=>none
def ZX:St→Option (Pt Out):=yI Q350 ([(1000003,[])]++HD 341) [] true [] 1 9223372036854775808 aEZ
theorem a99(v:V341_0):((ZX (RN v)).bind (tF true true 1 [0,1,2,3,4,12,13,14]))=some ((sA v).map (Option.map RN)):=by kernel_rfl
theorem bAA(σ:St)(v:V341_0)(h:ZW σ=some (v,true)):σ=RN v:=by
 unfold ZW at h;split at h
 ·obtain⟨hr,hk⟩:=qp (qi h);obtain⟨d0,hk0⟩:=bB hk;obtain⟨d1,hk1⟩:=bB hk0;obtain rfl:=of_decide_eq_true d0;obtain rfl:=of_decide_eq_true d1;rw[←hr];rfl
 ·simp at h
theorem bAB:cS (wD true true 1 [0,1,2,3,4,12,13,14] ZX ZW RN sA 9223372036854775808) (fV R 1 9223372036854775808 (.loop [0,1,2,3,4,12,13,14] aEZ)):=d8 (cW ZV (cF (l:=[]) (by kernel_rfl) trivial)) bAA a99
def bAC:Lp:=(24,wD true true 1 [0,1,2,3,4,12,13,14] ZX ZW RN sA 9223372036854775808)::[]
def aIG(v:V341_0):V341_0:=(hid (dV sA 9223372036854775808 v)).getD v
def aIH(v:V341_0):Bool:=(hid (dV sA 9223372036854775808 v)).isSome
section
variable(b:Int)(c:Int)(d:Int)(o:Int)(a:bG)
def jF:V341_0:=(aIG (V341_0.mk a b c d o (ZU b c d) (bif (cV b 2)then 0 else o) 0))
def xW:Nat:=(ln (jF b c d o a).b0.Log)
def ZY:Nat:=(ln (jF b c d o a).b0.Bytes)
def RO:List Row:=((jF b c d o a).b0.Log++[(aA.row (aA.mk (jF b c d o a).s1 (jF b c d o a).s2 (jF b c d o a).s3 (jF b c d o a).s13 (jF b c d o a).s12))])
def RP:Bool:=((e1 (ZY b c d o a))&&((e1 (ln (RO b c d o a)))&&true))
def RQ:List Row:=(a.Log++[(aA.row (aA.mk b c d (bif (cV b 2)then 0 else o) (ZU b c d)))])
def RU:Bool:=((e1 (ln a.Bytes))&&((e1 (ln (RQ b c d o a)))&&true))
end
def aII(b:Int)(c:Int)(d:Int)(o:Int)(a:bG):Pt (bG×Int×Int):=(ot (.ok ((bH0 b c d)&&true) (ot (ot (ot (ot (.br (eqI (ZU b c d) 0) (ot (.ok (dd (bH a true) ((bH a true)&&true)) (.ok (bH a true) (.ok (aIH (V341_0.mk a b c d o (ZU b c d) (bif (cV b 2)then 0 else o) 0)) (.ok ((qN (0+(xW b c d o a)) (xW b c d o a))&&true) (.br (bif (ltI (bL (jF b c d o a).b0.Log) 400)then(bif (cV (jF b c d o a).s1 3)then true else(cV (jF b c d o a).s12 0))else false) (.ok (((e1 (xW b c d o a))&&((eD (0+(xW b c d o a)) (xW b c d o a))&&((qN (vC ((xW b c d o a)+1) 40) 140737488355328)&&(qN ((xW b c d o a)+1) 140737488355328))))&&true) (ot (.ok (((RP b c d o a)&&(RP b c d o a))&&true) (.leaf ({(jF b c d o a).b0 with Log:=(RO b c d o a)},(jF b c d o a).s13,(jF b c d o a).s12))))) (ot (.ok (((bH (jF b c d o a).b0 true)&&(bH (jF b c d o a).b0 true))&&true) (.leaf ((jF b c d o a).b0,(jF b c d o a).s13,(jF b c d o a).s12)))))))))) (.ok ((qN (0+(ln a.Log)) (ln a.Log))&&true) (.br (bif (ltI (bL a.Log) 400)then(bif (cV b 3)then true else(cV (ZU b c d) 0))else false) (.ok (((e1 (ln a.Log))&&((eD (0+(ln a.Log)) (ln a.Log))&&((qN (vC ((ln a.Log)+1) 40) 140737488355328)&&(qN ((ln a.Log)+1) 140737488355328))))&&true) (ot (.ok (((RU b c d o a)&&(RU b c d o a))&&true) (.leaf ({a with Log:=(RQ b c d o a)},(bif (cV b 2)then 0 else o),(ZU b c d)))))) (ot (.ok (((bH a true)&&(bH a true))&&true) (.leaf (a,(bif (cV b 2)then 0 else o),(ZU b c d))))))))))))))
def bAD(b:Int)(c:Int)(d:Int)(o:Int)(a:bG):bG×Int×Int:=hid (aII b c d o a).val
def bAE(b:Int)(c:Int)(d:Int)(o:Int)(a:bG):Bool:=hid (aII b c d o a).okv
def q341:=a8Z (fun b c d o a=>a80 b c d o a (bAD b c d o a)) bAE
theorem bN0:fT (fun live x=>cS (oQ bAC (m6 x)) (fV R 1 9223372036854775808 (.loop live x))) (qL 341).body:=(cF (l:=[([0,1,2,3,4,12,13,14],aEZ)]) (by kernel_rfl) ⟨fZ (n:=24) (by kernel_rfl) fun σ σr t h ho hl=>bAB σ σr t h ho hl,trivial⟩)
theorem bX1:cG 341 q341:=aYQ fun b c d o a hk=>tcl ZV bN0 [(1000003,[])] [] true (aII b c d o a) (a80 b c d o a) hk
def Q341:=aT 341 q341 Q350
theorem aNZ:QO Q341:=aC bX1 ZV
def bX2(b:Int)(c:Int)(d:Int)(o:Int)(a:aL):List SV:=[(.one (.ptr 0 0 0)),(.one (li b)),(.one (li c)),(.one (li d)),(.one (li o))]
def bX3(b:Int)(c:Int)(d:Int)(o:Int)(a:aL):List Blk:=[.box [.sl 1 0 (ln a.fr.D), .sl 2 0 (ln a.fr.A),li a.fr.Other,li a.fr.PC,li a.fr.Flags,li a.fr.Mask, .lit (.bool a.fr.Super), .lit (.bool a.fr.Trace), .sl 3 0 (ln a.fbus.Bytes), .sl 4 0 (ln a.fbus.Log), .lit (.bool a.fstop),li a.ffault.Vector,li a.ffault.PC,li a.ffault.Addr,li a.ffault.Word, .lit (.bool a.ffault.Write)], .lst 1 a.fr.D, .lst 1 a.fr.A, .lst 1 a.fbus.Bytes, .lst 5 a.fbus.Log]
def bH1(N:Int→Int→Int→Int→aL→SV×List Blk)(K:Int→Int→Int→Int→aL→Bool):List SV→List Blk→Option ((SV×List Blk)×Bool)
 |[(.one (.ptr 0 0 0)),(.one (li c0)),(.one (li c1)),(.one (li c2)),(.one (li c3))],[.box [.sl 1 0 l1, .sl 2 0 l2,li c4,li c5,li c6,li c7, .lit (.bool c8), .lit (.bool c9), .sl 3 0 l3, .sl 4 0 l4, .lit (.bool c10),li c11,li c12,li c13,li c14, .lit (.bool c15)], .lst 1 c_1, .lst 1 c_2, .lst 1 c_3, .lst 5 c_4]=>some (N c0 c1 c2 c3 (aL.mk (aG.mk c_1 c_2 c4 c5 c6 c7 c8 c9) (bG.mk c_3 c_4) c10 (bO.mk c11 c12 c13 c14 c15)),eD l1 (ln c_1)&&(eD l2 (ln c_2)&&(eD l3 (ln c_3)&&(eD l4 (ln c_4)&&(K c0 c1 c2 c3 (aL.mk (aG.mk c_1 c_2 c4 c5 c6 c7 c8 c9) (bG.mk c_3 c_4) c10 (bO.mk c11 c12 c13 c14 c15)))))))
 |_,_=>none
theorem bH2{N:Int→Int→Int→Int→aL→SV×List Blk}{K:Int→Int→Int→Int→aL→Bool}{f:Nat}(h: ∀(b:Int)(c:Int)(d:Int)(o:Int)(a:aL),K b c d o a=true→dL R f (bX2 b c d o a) (bX3 b c d o a)=some (N b c d o a)):cG f (bH1 N K):=fun args hp r e=>by
 unfold bH1 at e;split at e
 ·rename_i c0 c1 c2 c3 l1 l2 c4 c5 c6 c7 c8 c9 l3 l4 c10 c11 c12 c13 c14 c15 c_1 c_2 c_3 c_4;obtain⟨hr,hk⟩:=qp (qi e);obtain⟨d0,hk0⟩:=bB hk;obtain⟨d1,hk1⟩:=bB hk0;obtain⟨d2,hk2⟩:=bB hk1;obtain⟨d3,hk3⟩:=bB hk2;obtain rfl:=of_decide_eq_true d0;obtain rfl:=of_decide_eq_true d1;obtain rfl:=of_decide_eq_true d2;obtain rfl:=of_decide_eq_true d3;rw[←hr];exact h c0 c1 c2 c3 (aL.mk (aG.mk c_1 c_2 c4 c5 c6 c7 c8 c9) (bG.mk c_3 c_4) c10 (bO.mk c11 c12 c13 c14 c15)) hk3
 ·simp at e
section
variable(b:Int)(c:Int)(d:Int)(o:Int)(a:aL)
def xX:bG×Int×Int:=(bAD b c d o a.fbus)
def aIJ:Bool:=(aK a.fr (bH (xX b c d o a).1 true))
def ZZ:Bool:=(((aIJ b c d o a)&&(aIJ b c d o a))&&true)
end
def a01(b:Int)(c:Int)(d:Int)(o:Int)(a:aL):Pt (aL×Int):=(ot (.ok ((xK a.fbus (bAE b c d o a.fbus))&&true) (ot (.br (bif (cV (xX b c d o a).2.2 0)then(eqI a.ffault.Vector 0)else false) (ot (ot (.br (eqI (xX b c d o a).2.2 2) (ot (ot (ot (ot (.ok (ZZ b c d o a) (.leaf ({a with fbus:=(xX b c d o a).1,ffault:=(bO.mk 3 a.ffault.PC d a.ffault.Word (eqI b 2))},(xX b c d o a).2.1))))))) (ot (ot (ot (.ok (ZZ b c d o a) (.leaf ({a with fbus:=(xX b c d o a).1,ffault:=(bO.mk 2 a.ffault.PC d a.ffault.Word (eqI b 2))},(xX b c d o a).2.1))))))))) (ot (.ok (ZZ b c d o a) (.leaf ({a with fbus:=(xX b c d o a).1},(xX b c d o a).2.1))))))))
def yX(b:Int)(c:Int)(d:Int)(o:Int)(a:aL):aL×Int:=hid (a01 b c d o a).val
def aSW(b:Int)(c:Int)(d:Int)(o:Int)(a:aL):Bool:=hid (a01 b c d o a).okv
def bN1(b:Int)(c:Int)(d:Int)(o:Int)(a:aL)(r:aL×Int):SV×List Blk:=((.one (li r.2)),[.box [.sl 1 0 (ln r.1.fr.D), .sl 2 0 (ln r.1.fr.A),li r.1.fr.Other,li r.1.fr.PC,li r.1.fr.Flags,li r.1.fr.Mask, .lit (.bool r.1.fr.Super), .lit (.bool r.1.fr.Trace), .sl 3 0 (ln r.1.fbus.Bytes), .sl 4 0 (ln r.1.fbus.Log), .lit (.bool r.1.fstop),li r.1.ffault.Vector,li r.1.ffault.PC,li r.1.ffault.Addr,li r.1.ffault.Word, .lit (.bool r.1.ffault.Write)], .lst 1 r.1.fr.D, .lst 1 r.1.fr.A, .lst 1 r.1.fbus.Bytes, .lst 5 r.1.fbus.Log])
def q296:=bH1 (fun b c d o a=>bN1 b c d o a (yX b c d o a)) aSW
theorem bX4:cG 296 q296:=bH2 fun b c d o a hk=>tc aNZ (a01 b c d o a) (bN1 b c d o a) hk
def Q296:=aT 296 q296 Q341
theorem aN0:QO Q296:=aC bX4 aNZ
def bX5(b:Int)(c:aB)(a:aL):List SV:=[(.one (.ptr 0 0 0)),(.one (li b)),(.agg [li c.Mode,li c.Reg,li c.Ext])]
def bX6(b:Int)(c:aB)(a:aL):List Blk:=[.box [.sl 1 0 (ln a.fr.D), .sl 2 0 (ln a.fr.A),li a.fr.Other,li a.fr.PC,li a.fr.Flags,li a.fr.Mask, .lit (.bool a.fr.Super), .lit (.bool a.fr.Trace), .sl 3 0 (ln a.fbus.Bytes), .sl 4 0 (ln a.fbus.Log), .lit (.bool a.fstop),li a.ffault.Vector,li a.ffault.PC,li a.ffault.Addr,li a.ffault.Word, .lit (.bool a.ffault.Write)], .lst 1 a.fr.D, .lst 1 a.fr.A, .lst 1 a.fbus.Bytes, .lst 5 a.fbus.Log]
def bAF(N:Int→aB→aL→SV×List Blk)(K:Int→aB→aL→Bool):List SV→List Blk→Option ((SV×List Blk)×Bool)
 |[(.one (.ptr 0 0 0)),(.one (li c0)),(.agg [li c1,li c2,li c3])],[.box [.sl 1 0 l1, .sl 2 0 l2,li c4,li c5,li c6,li c7, .lit (.bool c8), .lit (.bool c9), .sl 3 0 l3, .sl 4 0 l4, .lit (.bool c10),li c11,li c12,li c13,li c14, .lit (.bool c15)], .lst 1 c_1, .lst 1 c_2, .lst 1 c_3, .lst 5 c_4]=>some (N c0 (aB.mk c1 c2 c3) (aL.mk (aG.mk c_1 c_2 c4 c5 c6 c7 c8 c9) (bG.mk c_3 c_4) c10 (bO.mk c11 c12 c13 c14 c15)),eD l1 (ln c_1)&&(eD l2 (ln c_2)&&(eD l3 (ln c_3)&&(eD l4 (ln c_4)&&(K c0 (aB.mk c1 c2 c3) (aL.mk (aG.mk c_1 c_2 c4 c5 c6 c7 c8 c9) (bG.mk c_3 c_4) c10 (bO.mk c11 c12 c13 c14 c15)))))))
 |_,_=>none
theorem a02{N:Int→aB→aL→SV×List Blk}{K:Int→aB→aL→Bool}{f:Nat}(h: ∀(b:Int)(c:aB)(a:aL),K b c a=true→dL R f (bX5 b c a) (bX6 b c a)=some (N b c a)):cG f (bAF N K):=fun args hp r e=>by
 unfold bAF at e;split at e
 ·rename_i c0 c1 c2 c3 l1 l2 c4 c5 c6 c7 c8 c9 l3 l4 c10 c11 c12 c13 c14 c15 c_1 c_2 c_3 c_4;obtain⟨hr,hk⟩:=qp (qi e);obtain⟨d0,hk0⟩:=bB hk;obtain⟨d1,hk1⟩:=bB hk0;obtain⟨d2,hk2⟩:=bB hk1;obtain⟨d3,hk3⟩:=bB hk2;obtain rfl:=of_decide_eq_true d0;obtain rfl:=of_decide_eq_true d1;obtain rfl:=of_decide_eq_true d2;obtain rfl:=of_decide_eq_true d3;rw[←hr];exact h c0 (aB.mk c1 c2 c3) (aL.mk (aG.mk c_1 c_2 c4 c5 c6 c7 c8 c9) (bG.mk c_3 c_4) c10 (bO.mk c11 c12 c13 c14 c15)) hk3
 ·simp at e
section
variable(b:Int)(c:aB)(a:aL)
def Z0:Bool:=(((bM a true)&&(bM a true))&&true)
def CT:Bool:=(((((aK a.fr true)&&((aK a.fr true)&&true))&&(aK a.fr (a98 a.fr b c)))&&true)&&true)
def GT:Bool:=(((s1 b)&&((s1 (A0 a.fr b c).2)&&true))&&((IG a true)&&((rM c true)&&((jV (A0 a.fr b c).1 true)&&(dI a.fbus (kH (A0 a.fr b c).1 true))))))
def RV:aL×Int:=(yX 1 b (A0 a.fr b c).2 0 {a with fr:=(A0 a.fr b c).1})
end
def a03(b:Int)(c:aB)(a:aL):Pt (aL×Int×Int):=(ot (ot (ot (.br (eqI c.Mode 0) (.ok ((((aK a.fr true)&&true)&&(a0W a.fr b c.Reg))&&true) (.ok (Z0 a) (.leaf (a,(a0V a.fr b c.Reg),0)))) (ot (.br (eqI c.Mode 1) (.ok (((leI 0 c.Reg)&&(ltI c.Reg (bL a.fr.A)))&&((dM [.int .i64] a.fr.A (0+(iN c.Reg)) 0)&&true)) (.ok (Z0 a) (.leaf (a,(bD a.fr.A (0+(iN c.Reg)) 0),0)))) (ot (.br (eqI c.Mode 7) (ot (.ok (Z0 a) (.leaf (a,c.Ext,0)))) (.ok ((CT b c a)&&(((CT b c a)&&(((CT b c a)&&(((CT b c a)&&(((CT b c a)&&(((CT b c a)&&((CT b c a)&&(GT b c a)))&&(GT b c a)))&&(GT b c a)))&&(GT b c a)))&&(GT b c a)))&&(GT b c a))) (ot (.ok ((dd (aK (A0 a.fr b c).1 (bH a.fbus true)) (aK (A0 a.fr b c).1 (bH a.fbus (aSW 1 b (A0 a.fr b c).2 0 {a with fr:=(A0 a.fr b c).1}))))&&true) (.ok (((bM (RV b c a).1 true)&&(bM (RV b c a).1 true))&&true) (.leaf ((RV b c a).1,(RV b c a).2,(A0 a.fr b c).2))))))))))))))
def cC(b:Int)(c:aB)(a:aL):aL×Int×Int:=hid (a03 b c a).val
def aSX(b:Int)(c:aB)(a:aL):Bool:=hid (a03 b c a).okv
def bN2(b:Int)(c:aB)(a:aL)(r:aL×Int×Int):SV×List Blk:=((.tup [(.one (li r.2.1)),(.one (li r.2.2))]),[.box [.sl 1 0 (ln r.1.fr.D), .sl 2 0 (ln r.1.fr.A),li r.1.fr.Other,li r.1.fr.PC,li r.1.fr.Flags,li r.1.fr.Mask, .lit (.bool r.1.fr.Super), .lit (.bool r.1.fr.Trace), .sl 3 0 (ln r.1.fbus.Bytes), .sl 4 0 (ln r.1.fbus.Log), .lit (.bool r.1.fstop),li r.1.ffault.Vector,li r.1.ffault.PC,li r.1.ffault.Addr,li r.1.ffault.Word, .lit (.bool r.1.ffault.Write)], .lst 1 r.1.fr.D, .lst 1 r.1.fr.A, .lst 1 r.1.fbus.Bytes, .lst 5 r.1.fbus.Log])
def q246:=bAF (fun b c a=>bN2 b c a (cC b c a)) aSX
theorem bX7:cG 246 q246:=a02 fun b c a hk=>tc aN0 (a03 b c a) (bN2 b c a) hk
def Q246:=aT 246 q246 Q296
theorem aN1:QO Q246:=aC bX7 aN0
def bX8(a:aL):List SV:=[(.one (.ptr 0 0 0))]
def bX9(a:aL):List Blk:=[.box [.sl 1 0 (ln a.fr.D), .sl 2 0 (ln a.fr.A),li a.fr.Other,li a.fr.PC,li a.fr.Flags,li a.fr.Mask, .lit (.bool a.fr.Super), .lit (.bool a.fr.Trace), .sl 3 0 (ln a.fbus.Bytes), .sl 4 0 (ln a.fbus.Log), .lit (.bool a.fstop),li a.ffault.Vector,li a.ffault.PC,li a.ffault.Addr,li a.ffault.Word, .lit (.bool a.ffault.Write)], .lst 1 a.fr.D, .lst 1 a.fr.A, .lst 1 a.fbus.Bytes, .lst 5 a.fbus.Log]
def a04(N:aL→SV×List Blk)(K:aL→Bool):List SV→List Blk→Option ((SV×List Blk)×Bool)
 |[(.one (.ptr 0 0 0))],[.box [.sl 1 0 l1, .sl 2 0 l2,li c0,li c1,li c2,li c3, .lit (.bool c4), .lit (.bool c5), .sl 3 0 l3, .sl 4 0 l4, .lit (.bool c6),li c7,li c8,li c9,li c10, .lit (.bool c11)], .lst 1 c_1, .lst 1 c_2, .lst 1 c_3, .lst 5 c_4]=>some (N (aL.mk (aG.mk c_1 c_2 c0 c1 c2 c3 c4 c5) (bG.mk c_3 c_4) c6 (bO.mk c7 c8 c9 c10 c11)),eD l1 (ln c_1)&&(eD l2 (ln c_2)&&(eD l3 (ln c_3)&&(eD l4 (ln c_4)&&(K (aL.mk (aG.mk c_1 c_2 c0 c1 c2 c3 c4 c5) (bG.mk c_3 c_4) c6 (bO.mk c7 c8 c9 c10 c11)))))))
 |_,_=>none
theorem aIK{N:aL→SV×List Blk}{K:aL→Bool}{f:Nat}(h: ∀(a:aL),K a=true→dL R f (bX8 a) (bX9 a)=some (N a)):cG f (a04 N K):=fun args hp r e=>by
 unfold a04 at e;split at e
 ·rename_i l1 l2 c0 c1 c2 c3 c4 c5 l3 l4 c6 c7 c8 c9 c10 c11 c_1 c_2 c_3 c_4;obtain⟨hr,hk⟩:=qp (qi e);obtain⟨d0,hk0⟩:=bB hk;obtain⟨d1,hk1⟩:=bB hk0;obtain⟨d2,hk2⟩:=bB hk1;obtain⟨d3,hk3⟩:=bB hk2;obtain rfl:=of_decide_eq_true d0;obtain rfl:=of_decide_eq_true d1;obtain rfl:=of_decide_eq_true d2;obtain rfl:=of_decide_eq_true d3;rw[←hr];exact h (aL.mk (aG.mk c_1 c_2 c0 c1 c2 c3 c4 c5) (bG.mk c_3 c_4) c6 (bO.mk c7 c8 c9 c10 c11)) hk3
 ·simp at e
def a05(a:aL):Pt (Bool):=(ot (ot (.ok (((bM a true)&&(bM a true))&&true) (.leaf (eqI a.ffault.Vector 0)))))
def GU(a:aL):Bool:=hid (a05 a).val
def GV(a:aL):Bool:=hid (a05 a).okv
def bN3(a:aL)(r:Bool):SV×List Blk:=((.one (.lit (.bool r))),[.box [.sl 1 0 (ln a.fr.D), .sl 2 0 (ln a.fr.A),li a.fr.Other,li a.fr.PC,li a.fr.Flags,li a.fr.Mask, .lit (.bool a.fr.Super), .lit (.bool a.fr.Trace), .sl 3 0 (ln a.fbus.Bytes), .sl 4 0 (ln a.fbus.Log), .lit (.bool a.fstop),li a.ffault.Vector,li a.ffault.PC,li a.ffault.Addr,li a.ffault.Word, .lit (.bool a.ffault.Write)], .lst 1 a.fr.D, .lst 1 a.fr.A, .lst 1 a.fbus.Bytes, .lst 5 a.fbus.Log])
def q186:=a04 (fun a=>bN3 a (GU a)) GV
theorem bYA:cG 186 q186:=aIK fun a hk=>tc aN1 (a05 a) (bN3 a) hk
def Q186:=aT 186 q186 Q246
theorem aN2:QO Q186:=aC bYA aN1
section
variable(b:Int)(c:aB)(a:aL)
def CU:Bool:=(((((aK a.fr true)&&((aK a.fr true)&&true))&&(aK a.fr (a98 a.fr b c)))&&true)&&true)
def GW:Bool:=(((s1 (A0 a.fr b c).2)&&true)&&((IG a true)&&((rM c true)&&((jV (A0 a.fr b c).1 true)&&(dI a.fbus (kH (A0 a.fr b c).1 true))))))
def aIL:Bool:=(aK (A0 a.fr b c).1 (bH a.fbus true))
end
def a06(b:Int)(c:aB)(a:aL):Pt (aL×Int):=(ot (ot (.br (eqI c.Mode 0) (ot (.ok (((bM a true)&&(bM a true))&&true) (.leaf (a,0)))) (.ok ((CU b c a)&&(((CU b c a)&&(((CU b c a)&&(((CU b c a)&&(((CU b c a)&&(((CU b c a)&&((CU b c a)&&(GW b c a)))&&(GW b c a)))&&(GW b c a)))&&(GW b c a)))&&(GW b c a)))&&(GW b c a))) (ot (ot (.ok (((aIL b c a)&&(aIL b c a))&&true) (.leaf ({a with fr:=(A0 a.fr b c).1},(A0 a.fr b c).2)))))))))
def hZ(b:Int)(c:aB)(a:aL):aL×Int:=hid (a06 b c a).val
def aSY(b:Int)(c:aB)(a:aL):Bool:=hid (a06 b c a).okv
def bN4(b:Int)(c:aB)(a:aL)(r:aL×Int):SV×List Blk:=((.one (li r.2)),[.box [.sl 1 0 (ln r.1.fr.D), .sl 2 0 (ln r.1.fr.A),li r.1.fr.Other,li r.1.fr.PC,li r.1.fr.Flags,li r.1.fr.Mask, .lit (.bool r.1.fr.Super), .lit (.bool r.1.fr.Trace), .sl 3 0 (ln r.1.fbus.Bytes), .sl 4 0 (ln r.1.fbus.Log), .lit (.bool r.1.fstop),li r.1.ffault.Vector,li r.1.ffault.PC,li r.1.ffault.Addr,li r.1.ffault.Word, .lit (.bool r.1.ffault.Write)], .lst 1 r.1.fr.D, .lst 1 r.1.fr.A, .lst 1 r.1.fbus.Bytes, .lst 5 r.1.fbus.Log])
def q247:=bAF (fun b c a=>bN4 b c a (hZ b c a)) aSY
theorem bYB:cG 247 q247:=a02 fun b c a hk=>tc aN2 (a06 b c a) (bN4 b c a) hk
def Q247:=aT 247 q247 Q186
theorem aN3:QO Q247:=aC bYB aN2
def bYC(a:aG)(b:Int)(c:Int)(d:Int):List SV:=[(.agg [.sl 0 0 (ln a.D), .sl 1 0 (ln a.A),li a.Other,li a.PC,li a.Flags,li a.Mask, .lit (.bool a.Super), .lit (.bool a.Trace)]),(.one (li b)),(.one (li c)),(.one (li d))]
def bYD(a:aG)(b:Int)(c:Int)(d:Int):List Blk:=[.lst 1 a.D, .lst 1 a.A]
def bH3(N:aG→Int→Int→Int→SV×List Blk)(K:aG→Int→Int→Int→Bool):List SV→List Blk→Option ((SV×List Blk)×Bool)
 |[(.agg [.sl 0 0 l0, .sl 1 0 l1,li c0,li c1,li c2,li c3, .lit (.bool c4), .lit (.bool c5)]),(.one (li c6)),(.one (li c7)),(.one (li c8))],[.lst 1 c_0, .lst 1 c_1]=>some (N (aG.mk c_0 c_1 c0 c1 c2 c3 c4 c5) c6 c7 c8,eD l0 (ln c_0)&&(eD l1 (ln c_1)&&(K (aG.mk c_0 c_1 c0 c1 c2 c3 c4 c5) c6 c7 c8)))
 |_,_=>none
theorem bH4{N:aG→Int→Int→Int→SV×List Blk}{K:aG→Int→Int→Int→Bool}{f:Nat}(h: ∀(a:aG)(b:Int)(c:Int)(d:Int),K a b c d=true→dL R f (bYC a b c d) (bYD a b c d)=some (N a b c d)):cG f (bH3 N K):=fun args hp r e=>by
 unfold bH3 at e;split at e
 ·rename_i l0 l1 c0 c1 c2 c3 c4 c5 c6 c7 c8 c_0 c_1;obtain⟨hr,hk⟩:=qp (qi e);obtain⟨d0,hk0⟩:=bB hk;obtain⟨d1,hk1⟩:=bB hk0;obtain rfl:=of_decide_eq_true d0;obtain rfl:=of_decide_eq_true d1;rw[←hr];exact h (aG.mk c_0 c_1 c0 c1 c2 c3 c4 c5) c6 c7 c8 hk1
 ·simp at e
section
variable(a:aG)(c:Int)(d:Int)
def Z1:Bool:=(((leI 0 c)&&(ltI c (bL a.D)))&&(((blt (0+(iN c)) (ln a.D))&&(jT (jU a.D (0+(iN c))) 1))&&true))
def Z2:List Row:=(List.set a.D (0+(iN c)) (aU (cD (aD (bD a.D (0+(iN c)) 0) 65280) d)))
def Z3:Bool:=((eD (ln a.D) (ln (Z2 a c d)))&&((e1 (ln a.A))&&true))
def Z4:List Row:=(List.set a.D (0+(iN c)) (aU d))
def Z5:Bool:=((eD (ln a.D) (ln (Z4 a c d)))&&((e1 (ln a.A))&&true))
end
def a07(a:aG)(b:Int)(c:Int)(d:Int):Pt (aG):=(ot (ot (.br (eqI b 1) (.ok ((((leI 0 c)&&(ltI c (bL a.D)))&&((dM [.int .i64] a.D (0+(iN c)) 0)&&(Z1 a c)))&&true) (ot (.ok (((Z3 a c d)&&((aK a true)&&true))&&((Z3 a c d)&&true)) (.leaf {a with D:=(Z2 a c d)})))) (.ok (Z1 a c) (ot (.ok (((Z5 a c d)&&((aK a true)&&true))&&((Z5 a c d)&&true)) (.leaf {a with D:=(Z4 a c d)})))))))
def IZ(a:aG)(b:Int)(c:Int)(d:Int):aG:=hid (a07 a b c d).val
def I0(a:aG)(b:Int)(c:Int)(d:Int):Bool:=hid (a07 a b c d).okv
def bN5(a:aG)(b:Int)(c:Int)(d:Int)(r:aG):SV×List Blk:=((.agg [.sl 0 0 (ln r.D), .sl 1 0 (ln r.A),li r.Other,li r.PC,li r.Flags,li r.Mask, .lit (.bool r.Super), .lit (.bool r.Trace)]),[.lst 1 r.D, .lst 1 r.A])
def q253:=bH3 (fun a b c d=>bN5 a b c d (IZ a b c d)) I0
theorem bYE:cG 253 q253:=bH4 fun a b c d hk=>tcx aN3 [(1000001,[])] [] true (a07 a b c d) (bN5 a b c d) hk
def Q253:=aT 253 q253 Q247
theorem aN4:QO Q253:=aC bYE aN3
def bYF(b:Int)(c:aB)(d:Int)(o:Int)(a:aL):List SV:=[(.one (.ptr 0 0 0)),(.one (li b)),(.agg [li c.Mode,li c.Reg,li c.Ext]),(.one (li d)),(.one (li o))]
def bYG(b:Int)(c:aB)(d:Int)(o:Int)(a:aL):List Blk:=[.box [.sl 1 0 (ln a.fr.D), .sl 2 0 (ln a.fr.A),li a.fr.Other,li a.fr.PC,li a.fr.Flags,li a.fr.Mask, .lit (.bool a.fr.Super), .lit (.bool a.fr.Trace), .sl 3 0 (ln a.fbus.Bytes), .sl 4 0 (ln a.fbus.Log), .lit (.bool a.fstop),li a.ffault.Vector,li a.ffault.PC,li a.ffault.Addr,li a.ffault.Word, .lit (.bool a.ffault.Write)], .lst 1 a.fr.D, .lst 1 a.fr.A, .lst 1 a.fbus.Bytes, .lst 5 a.fbus.Log]
def bH5(N:Int→aB→Int→Int→aL→SV×List Blk)(K:Int→aB→Int→Int→aL→Bool):List SV→List Blk→Option ((SV×List Blk)×Bool)
 |[(.one (.ptr 0 0 0)),(.one (li c0)),(.agg [li c1,li c2,li c3]),(.one (li c4)),(.one (li c5))],[.box [.sl 1 0 l1, .sl 2 0 l2,li c6,li c7,li c8,li c9, .lit (.bool c10), .lit (.bool c11), .sl 3 0 l3, .sl 4 0 l4, .lit (.bool c12),li c13,li c14,li c15,li c16, .lit (.bool c17)], .lst 1 c_1, .lst 1 c_2, .lst 1 c_3, .lst 5 c_4]=>some (N c0 (aB.mk c1 c2 c3) c4 c5 (aL.mk (aG.mk c_1 c_2 c6 c7 c8 c9 c10 c11) (bG.mk c_3 c_4) c12 (bO.mk c13 c14 c15 c16 c17)),eD l1 (ln c_1)&&(eD l2 (ln c_2)&&(eD l3 (ln c_3)&&(eD l4 (ln c_4)&&(K c0 (aB.mk c1 c2 c3) c4 c5 (aL.mk (aG.mk c_1 c_2 c6 c7 c8 c9 c10 c11) (bG.mk c_3 c_4) c12 (bO.mk c13 c14 c15 c16 c17)))))))
 |_,_=>none
theorem bH6{N:Int→aB→Int→Int→aL→SV×List Blk}{K:Int→aB→Int→Int→aL→Bool}{f:Nat}(h: ∀(b:Int)(c:aB)(d:Int)(o:Int)(a:aL),K b c d o a=true→dL R f (bYF b c d o a) (bYG b c d o a)=some (N b c d o a)):cG f (bH5 N K):=fun args hp r e=>by
 unfold bH5 at e;split at e
 ·rename_i c0 c1 c2 c3 c4 c5 l1 l2 c6 c7 c8 c9 c10 c11 l3 l4 c12 c13 c14 c15 c16 c17 c_1 c_2 c_3 c_4;obtain⟨hr,hk⟩:=qp (qi e);obtain⟨d0,hk0⟩:=bB hk;obtain⟨d1,hk1⟩:=bB hk0;obtain⟨d2,hk2⟩:=bB hk1;obtain⟨d3,hk3⟩:=bB hk2;obtain rfl:=of_decide_eq_true d0;obtain rfl:=of_decide_eq_true d1;obtain rfl:=of_decide_eq_true d2;obtain rfl:=of_decide_eq_true d3;rw[←hr];exact h c0 (aB.mk c1 c2 c3) c4 c5 (aL.mk (aG.mk c_1 c_2 c6 c7 c8 c9 c10 c11) (bG.mk c_3 c_4) c12 (bO.mk c13 c14 c15 c16 c17)) hk3
 ·simp at e
section
variable(b:Int)(c:aB)(o:Int)(a:aL)
def aIM:aG:=(IZ a.fr b c.Reg o)
def aIN:Bool:=(aK (aIM b c o a) (bH a.fbus true))
end
def a08(b:Int)(c:aB)(d:Int)(o:Int)(a:aL):Pt (aL):=(ot (ot (.br (eqI c.Mode 0) (.ok (((((aK a.fr true)&&((aK a.fr true)&&true))&&(aK a.fr (I0 a.fr b c.Reg o)))&&true)&&true) (.ok (((aIN b c o a)&&(aIN b c o a))&&true) (.leaf {a with fr:=(aIM b c o a)}))) (.ok ((cM a (aSW 2 b d o a))&&true) (.ok (((bM (yX 2 b d o a).1 true)&&(bM (yX 2 b d o a).1 true))&&true) (.leaf (yX 2 b d o a).1))))))
def a09(b:Int)(c:aB)(d:Int)(o:Int)(a:aL):aL:=hid (a08 b c d o a).val
def a1A(b:Int)(c:aB)(d:Int)(o:Int)(a:aL):Bool:=hid (a08 b c d o a).okv
def bN6(b:Int)(c:aB)(d:Int)(o:Int)(a:aL)(r:aL):SV×List Blk:=((.tup []),[.box [.sl 1 0 (ln r.fr.D), .sl 2 0 (ln r.fr.A),li r.fr.Other,li r.fr.PC,li r.fr.Flags,li r.fr.Mask, .lit (.bool r.fr.Super), .lit (.bool r.fr.Trace), .sl 3 0 (ln r.fbus.Bytes), .sl 4 0 (ln r.fbus.Log), .lit (.bool r.fstop),li r.ffault.Vector,li r.ffault.PC,li r.ffault.Addr,li r.ffault.Word, .lit (.bool r.ffault.Write)], .lst 1 r.fr.D, .lst 1 r.fr.A, .lst 1 r.fbus.Bytes, .lst 5 r.fbus.Log])
def q249:=bH5 (fun b c d o a=>bN6 b c d o a (a09 b c d o a)) a1A
theorem bYH:cG 249 q249:=bH6 fun b c d o a hk=>tc aN4 (a08 b c d o a) (bN6 b c d o a) hk
def Q249:=aT 249 q249 Q253
theorem aN5:QO Q249:=aC bYH aN4
def a1B(a:Int)(b:Int):Pt (Int):=(ot (.ok ((rP (eqI b 0) 4)&&((IW a)&&((rP (jO b (kF (wL a) 2)) 8)&&true))) (ot (ot (.leaf (cD (rO (eqI b 0) 4) (rO (jO b (kF (wL a) 2)) 8)))))))
def aIO(a:Int)(b:Int):Int:=hid (a1B a b).val
def aIP(a:Int)(b:Int):Bool:=hid (a1B a b).okv
def q298:=M1 (fun a b=>TB a b (aIO a b)) aIP
theorem bYI:cG 100298 q298:=xP fun a b hk=>tz aN5 (a1B a b) (TB a b) hk
def Q298:=aT 100298 q298 Q249
theorem aN6:QO Q298:=aC bYI aN5
def aIQ(a:Int)(b:Int)(c:Int):Pt (Int):=(ot (.ok ((aIP a c)&&true) (ot (ot (.leaf (cD (aD b 16) (aIO a c)))))))
def eZ(a:Int)(b:Int)(c:Int):Int:=hid (aIQ a b c).val
def CV(a:Int)(b:Int)(c:Int):Bool:=hid (aIQ a b c).okv
def q250:=DS5 (fun a b c=>aCP a b c (eZ a b c)) CV
theorem bYJ:cG 100250 q250:=BU fun a b c hk=>tz aN6 (aIQ a b c) (aCP a b c) hk
def Q250:=aT 100250 q250 Q298
theorem aN7:QO Q250:=aC bYJ aN6
def a1C(a:Int)(b:Int):Pt (Int):=(ot (.ok ((IW a)&&true) (.br (jO b (kF (wL a) 2)) (.ok ((IW a)&&true) (ot (ot (.leaf (bZ b (wL a)))))) (ot (ot (ot (.leaf b)))))))
def Z6(a:Int)(b:Int):Int:=hid (a1C a b).val
def Z7(a:Int)(b:Int):Bool:=hid (a1C a b).okv
def q342:=M1 (fun a b=>TB a b (Z6 a b)) Z7
theorem bYK:cG 100342 q342:=xP fun a b hk=>tz aN7 (a1C a b) (TB a b) hk
def Q342:=aT 100342 q342 Q250
theorem aN8:QO Q342:=aC bYK aN7
section
variable(a:Int)(b:Int)(c:Int)(d:Int)
def GX:Int:=(aD (bZ (bZ c d) b) (bZ (wL a) 1))
def Z8:Bool:=(cV (bZ (bZ (Z6 a c) (Z6 a d)) b) (Z6 a (GX a b c d)))
end
def aIR(a:Int)(b:Int)(c:Int)(d:Int):Pt (Int×Int):=(ot (ot (.ok ((IW a)&&true) (.ok ((Z7 a c)&&((Z7 a d)&&true)) (.ok ((rP (ltI (bZ (bZ c d) b) 0) 17)&&((Z7 a (GX a b c d))&&((rP (Z8 a b c d) 2)&&((aIP a (GX a b c d))&&true)))) (ot (ot (.leaf ((GX a b c d),(cD (cD (rO (ltI (bZ (bZ c d) b) 0) 17) (rO (Z8 a b c d) 2)) (aIO a (GX a b c d))))))))))))
def Z9(a:Int)(b:Int)(c:Int)(d:Int):Int×Int:=hid (aIR a b c d).val
def aCT(a:Int)(b:Int)(c:Int)(d:Int):Bool:=hid (aIR a b c d).okv
def q299:=TD (fun a b c d=>M4 a b c d (Z9 a b c d)) aCT
theorem bYL:cG 100299 q299:=CH fun a b c d hk=>tz aN8 (aIR a b c d) (M4 a b c d) hk
def Q299:=aT 100299 q299 Q342
theorem aN9:QO Q299:=aC bYL aN8
def bYM(b:aF)(a:aL):List SV:=[(.one (.ptr 0 0 0)),(.agg [li b.Op,li b.Size,li b.Reg,li b.Ea.Mode,li b.Ea.Reg,li b.Ea.Ext,li b.Sub])]
def bYN(b:aF)(a:aL):List Blk:=[.box [.sl 1 0 (ln a.fr.D), .sl 2 0 (ln a.fr.A),li a.fr.Other,li a.fr.PC,li a.fr.Flags,li a.fr.Mask, .lit (.bool a.fr.Super), .lit (.bool a.fr.Trace), .sl 3 0 (ln a.fbus.Bytes), .sl 4 0 (ln a.fbus.Log), .lit (.bool a.fstop),li a.ffault.Vector,li a.ffault.PC,li a.ffault.Addr,li a.ffault.Word, .lit (.bool a.ffault.Write)], .lst 1 a.fr.D, .lst 1 a.fr.A, .lst 1 a.fbus.Bytes, .lst 5 a.fbus.Log]
def aIS(N:aF→aL→SV×List Blk)(K:aF→aL→Bool):List SV→List Blk→Option ((SV×List Blk)×Bool)
 |[(.one (.ptr 0 0 0)),(.agg [li c0,li c1,li c2,li c3,li c4,li c5,li c6])],[.box [.sl 1 0 l1, .sl 2 0 l2,li c7,li c8,li c9,li c10, .lit (.bool c11), .lit (.bool c12), .sl 3 0 l3, .sl 4 0 l4, .lit (.bool c13),li c14,li c15,li c16,li c17, .lit (.bool c18)], .lst 1 c_1, .lst 1 c_2, .lst 1 c_3, .lst 5 c_4]=>some (N (aF.mk c0 c1 c2 (aB.mk c3 c4 c5) c6) (aL.mk (aG.mk c_1 c_2 c7 c8 c9 c10 c11 c12) (bG.mk c_3 c_4) c13 (bO.mk c14 c15 c16 c17 c18)),eD l1 (ln c_1)&&(eD l2 (ln c_2)&&(eD l3 (ln c_3)&&(eD l4 (ln c_4)&&(K (aF.mk c0 c1 c2 (aB.mk c3 c4 c5) c6) (aL.mk (aG.mk c_1 c_2 c7 c8 c9 c10 c11 c12) (bG.mk c_3 c_4) c13 (bO.mk c14 c15 c16 c17 c18)))))))
 |_,_=>none
theorem RW{N:aF→aL→SV×List Blk}{K:aF→aL→Bool}{f:Nat}(h: ∀(b:aF)(a:aL),K b a=true→dL R f (bYM b a) (bYN b a)=some (N b a)):cG f (aIS N K):=fun args hp r e=>by
 unfold aIS at e;split at e
 ·rename_i c0 c1 c2 c3 c4 c5 c6 l1 l2 c7 c8 c9 c10 c11 c12 l3 l4 c13 c14 c15 c16 c17 c18 c_1 c_2 c_3 c_4;obtain⟨hr,hk⟩:=qp (qi e);obtain⟨d0,hk0⟩:=bB hk;obtain⟨d1,hk1⟩:=bB hk0;obtain⟨d2,hk2⟩:=bB hk1;obtain⟨d3,hk3⟩:=bB hk2;obtain rfl:=of_decide_eq_true d0;obtain rfl:=of_decide_eq_true d1;obtain rfl:=of_decide_eq_true d2;obtain rfl:=of_decide_eq_true d3;rw[←hr];exact h (aF.mk c0 c1 c2 (aB.mk c3 c4 c5) c6) (aL.mk (aG.mk c_1 c_2 c7 c8 c9 c10 c11 c12) (bG.mk c_3 c_4) c13 (bO.mk c14 c15 c16 c17 c18)) hk3
 ·simp at e
section
variable(b:aF)(a:aL)
def xY:Bool:=(((bM (hZ b.Size b.Ea a).1 true)&&(bM (hZ b.Size b.Ea a).1 true))&&true)
def xZ:Int:=(bif (eqI b.Sub 1)then(Z9 b.Size 0 0 0).1 else(bif (eqI b.Sub 2)then(bZ (bZ (wL b.Size) 1) 0)else 0))
def tR:aL:=(a09 b.Size b.Ea (hZ b.Size b.Ea a).2 (xZ b) (hZ b.Size b.Ea a).1)
def x3:Int:=(bif (eqI b.Sub 1)then(Z9 b.Size 0 0 0).2 else(bif (eqI b.Sub 2)then(eZ b.Size (hZ b.Size b.Ea a).1.fr.Flags (bZ (bZ (wL b.Size) 1) 0))else(eZ b.Size (hZ b.Size b.Ea a).1.fr.Flags 0)))
def x4:Bool:=(((bM (cC b.Size b.Ea a).1 true)&&(bM (cC b.Size b.Ea a).1 true))&&true)
def vP:Int:=(bZ (bZ (wL b.Size) 1) (cC b.Size b.Ea a).2.1)
def x6:Int×Int:=(Z9 b.Size 0 0 (cC b.Size b.Ea a).2.1)
def x7:Int:=(bif (eqI b.Sub 1)then(x6 b a).1 else(bif (eqI b.Sub 2)then(vP b a)else(cC b.Size b.Ea a).2.1))
def tS:aL:=(a09 b.Size b.Ea (cC b.Size b.Ea a).2.2 (x7 b a) (cC b.Size b.Ea a).1)
def x8:Int:=(bif (eqI b.Sub 1)then(x6 b a).2 else(bif (eqI b.Sub 2)then(eZ b.Size (cC b.Size b.Ea a).1.fr.Flags (vP b a))else(eZ b.Size (cC b.Size b.Ea a).1.fr.Flags (cC b.Size b.Ea a).2.1)))
end
def a1D(b:aF)(a:aL):Pt (aL):=(ot (ot (ot (ot (.br (eqI b.Sub 0) (.ok ((cM a (aSY b.Size b.Ea a))&&true) (.ok ((cM (hZ b.Size b.Ea a).1 (GV (hZ b.Size b.Ea a).1))&&true) (.br (!(GU (hZ b.Size b.Ea a).1)) (.ok (xY b a) (.leaf (hZ b.Size b.Ea a).1)) (.ok ((CV b.Size (hZ b.Size b.Ea a).1.fr.Flags 0)&&true) (ot (ot (.ok ((((aCT b.Size 0 0 0)&&true)||(!(eqI b.Sub 1)))&&((((((IW b.Size)&&true)&&((CV b.Size (hZ b.Size b.Ea a).1.fr.Flags (bZ (bZ (wL b.Size) 1) 0))&&true))||(!(eqI b.Sub 2)))&&true)||(eqI b.Sub 1))) (ot (.br (ltI b.Sub 3) (.ok ((cM (hZ b.Size b.Ea a).1 (a1A b.Size b.Ea (hZ b.Size b.Ea a).2 (xZ b) (hZ b.Size b.Ea a).1))&&true) (ot (.ok (((bM (tR b a) true)&&(bM (tR b a) true))&&true) (.leaf {(tR b a)with fr:={(tR b a).fr with Flags:=(x3 b a)}})))) (ot (.ok (xY b a) (.leaf {(hZ b.Size b.Ea a).1 with fr:={(hZ b.Size b.Ea a).1.fr with Flags:=(x3 b a)}})))))))))))) (.ok ((cM a (aSX b.Size b.Ea a))&&true) (.ok ((cM (cC b.Size b.Ea a).1 (GV (cC b.Size b.Ea a).1))&&true) (.br (!(GU (cC b.Size b.Ea a).1)) (.ok (x4 b a) (.leaf (cC b.Size b.Ea a).1)) (.ok ((CV b.Size (cC b.Size b.Ea a).1.fr.Flags (cC b.Size b.Ea a).2.1)&&true) (ot (ot (.ok ((((aCT b.Size 0 0 (cC b.Size b.Ea a).2.1)&&true)||(!(eqI b.Sub 1)))&&((((((IW b.Size)&&true)&&((CV b.Size (cC b.Size b.Ea a).1.fr.Flags (vP b a))&&true))||(!(eqI b.Sub 2)))&&true)||(eqI b.Sub 1))) (ot (.br (ltI b.Sub 3) (.ok ((cM (cC b.Size b.Ea a).1 (a1A b.Size b.Ea (cC b.Size b.Ea a).2.2 (x7 b a) (cC b.Size b.Ea a).1))&&true) (ot (.ok (((bM (tS b a) true)&&(bM (tS b a) true))&&true) (.leaf {(tS b a)with fr:={(tS b a).fr with Flags:=(x8 b a)}})))) (ot (.ok (x4 b a) (.leaf {(cC b.Size b.Ea a).1 with fr:={(cC b.Size b.Ea a).1.fr with Flags:=(x8 b a)}})))))))))))))))))
def a1E(b:aF)(a:aL):aL:=hid (a1D b a).val
def bH7(b:aF)(a:aL):Bool:=hid (a1D b a).okv
def TH(b:aF)(a:aL)(r:aL):SV×List Blk:=((.tup []),[.box [.sl 1 0 (ln r.fr.D), .sl 2 0 (ln r.fr.A),li r.fr.Other,li r.fr.PC,li r.fr.Flags,li r.fr.Mask, .lit (.bool r.fr.Super), .lit (.bool r.fr.Trace), .sl 3 0 (ln r.fbus.Bytes), .sl 4 0 (ln r.fbus.Log), .lit (.bool r.fstop),li r.ffault.Vector,li r.ffault.PC,li r.ffault.Addr,li r.ffault.Word, .lit (.bool r.ffault.Write)], .lst 1 r.fr.D, .lst 1 r.fr.A, .lst 1 r.fbus.Bytes, .lst 5 r.fbus.Log])
def q251:=aIS (fun b a=>TH b a (a1E b a)) bH7
theorem bYO:cG 251 q251:=RW fun b a hk=>tc aN9 (a1D b a) (TH b a) hk
def Q251:=aT 251 q251 Q299
theorem aOA:QO Q251:=aC bYO aN9
def aIT(a:Int):Pt (Bool):=(ot (ot (ot (ot (.leaf (eqI (aD a 1) 0))))))
def a1F(a:Int):Bool:=hid (aIT a).val
def bAG(a:Int):Bool:=hid (aIT a).okv
def q343:=AZ (fun a=>kG a (a1F a)) bAG
theorem bYP:cG 100343 q343:=gX fun a hk=>tz aOA (aIT a) (kG a) hk
def Q343:=aT 100343 q343 Q251
theorem aOB:QO Q343:=aC bYP aOA
section
variable(a:Int)(b:Int)(c:Int)(d:Int)
def RX:Bool:=(bif (eqI a 6)then(eqI a 6)else(eqI a 7))
def aIU:Bool:=(bif (eqI a 4)then(eqI a 4)else(eqI a 5))
def AJ:Int:=(rO (jO d (kF (wL b) 2)) 1)
def j9:Int:=(bif (a1F a)then(AJ b d)else(aD d 1))
def vQ:Int:=(bif (eqI a 1)then(AJ b d)else(bif (aIU a)then(j9 a b d)else(bif (RX a)then(rO (cV (aD c 16) 0) 1)else 0)))
def jG:Int:=(bif (a1F a)then(cD (aD (hX d 1) (bZ (dB 2 (kF (wL b) 2)) 1)) (vQ a b c d))else(cD (lO d 1) (dB (vQ a b c d) (kF (wL b) 2))))
def K9:Bool:=(jO (jG a b c d) (kF (wL b) 2))
def GY:Bool:=(bif (eqI a 0)then(cV (AJ b d) (rO (K9 a b c d) 1))else false)
def sB:Int:=(cD (cD (j9 a b d) (aIO b (jG a b c d))) (rO (GY a b c d) 2))
end
def aCU(a:Int)(b:Int)(c:Int)(d:Int):Pt (Int×Int):=(ot (.ok ((IW b)&&true) (.ok ((rP (jO d (kF (wL b) 2)) 1)&&true) (ot (ot (.ok ((bAG a)&&true) (ot (ot (ot (.ok ((((((rP (cV (aD c 16) 0) 1)&&true)||(!(RX a)))&&true)||(aIU a))||(eqI a 1)) (ot (.ok ((bAG a)&&true) (ot (.ok ((aIP b (jG a b c d))&&((((rP (K9 a b c d) 1)&&true)||(!(eqI a 0)))&&((rP (GY a b c d) 2)&&true))) (ot (.br (bif (eqI a 4)then true else(eqI a 5)) (ot (ot (ot (.leaf ((jG a b c d),(cD (sB a b c d) (aD c 16))))))) (ot (ot (ot (.leaf ((jG a b c d),(cD (sB a b c d) (dB (j9 a b d) 16)))))))))))))))))))))))
def oS(a:Int)(b:Int)(c:Int)(d:Int):Int×Int:=hid (aCU a b c d).val
def bH8(a:Int)(b:Int)(c:Int)(d:Int):Bool:=hid (aCU a b c d).okv
def q300:=TD (fun a b c d=>M4 a b c d (oS a b c d)) bH8
theorem bYQ:cG 100300 q300:=CH fun a b c d hk=>tz aOB (aCU a b c d) (M4 a b c d) hk
def Q300:=aT 100300 q300 Q343
theorem aAA:QO Q300:=aC bYQ aOB
structure V252_0 where
 mk::
 (s0:Int)
 (s1:Int)
 (s2:Int)
 (s3:Int)
 (s4:Int)
 (s13:Int)
section
variable(v:V252_0)
def sC:Int×Int:=(oS v.s0 v.s1 v.s2 v.s3)
end
def CW(v:V252_0):Pt (Option V252_0):=(ot (.br (pG v.s4 0) (.ok ((bH8 v.s0 v.s1 v.s2 v.s3)&&true) (ot (ot (ot (ot (ot (.leaf (some (V252_0.mk v.s0 v.s1 (sC v).2 (sC v).1 (bZ v.s4 1) (cD v.s13 (aD (sC v).2 2))))))))))) (.leaf none)))
def RY(v:V252_0):St:=⟨[(0,(.one (li v.s0))),(1,(.one (li v.s1))),(2,(.one (li v.s2))),(3,(.one (li v.s3))),(4,(.one (li v.s4))),(13,(.one (li v.s13)))],[]⟩
def aAB:St→Option (V252_0×Bool)
 |⟨[(0,(.one (li c0))),(1,(.one (li c1))),(2,(.one (li c2))),(3,(.one (li c3))),(4,(.one (li c4))),(13,(.one (li c5)))],[]⟩=>some ((V252_0.mk c0 c1 c2 c3 c4 c5),true)
 |_=>none
def aAC:St→Option (Pt Out):=yI Q300 ([]++HD 252) [] true [] 0 9223372036854775808 aEW
theorem bAH(v:V252_0):((aAC (RY v)).bind (tF true false 0 [0,1,2,3,4,13]))=some ((CW v).map (Option.map RY)):=by kernel_rfl
theorem bAI(σ:St)(v:V252_0)(h:aAB σ=some (v,true)):σ=RY v:=by
 unfold aAB at h;split at h
 ·obtain⟨hr,hk⟩:=qp (qi h);rw[←hr];rfl
 ·simp at h
theorem bAJ:cS (wD true false 0 [0,1,2,3,4,13] aAC aAB RY CW 9223372036854775808) (fV R 0 9223372036854775808 (.loop [0,1,2,3,4,13] aEW)):=d8 (cW aAA (cF (l:=[]) (by kernel_rfl) trivial)) bAI bAH
def bAK:Lp:=(34,wD true false 0 [0,1,2,3,4,13] aAC aAB RY CW 9223372036854775808)::[]
def sD(v:V252_0):V252_0:=(hid (dV CW 9223372036854775808 v)).getD v
def GZ(v:V252_0):Bool:=(hid (dV CW 9223372036854775808 v)).isSome
section
variable(a:Int)(b:Int)(c:Int)(d:Int)(o:Int)
def RZ:Bool:=(bif (cV (aD c 16) 0)then(jO a 6)else false)
def LA:V252_0:=(sD (V252_0.mk a b c d o 0))
end
def aAD(a:Int)(b:Int)(c:Int)(d:Int)(o:Int):Pt (Int×Int):=(ot (ot (.br (eqI o 0) (ot (.ok ((aIP b d)&&((rP (RZ a c) 1)&&true)) (ot (ot (.leaf (d,(cD (cD (aD c 16) (aIO b d)) (rO (RZ a c) 1)))))))) (ot (ot (ot (.ok (GZ (V252_0.mk a b c d o 0)) (ot (ot (ot (.leaf ((LA a b c d o).s3,(cD (LA a b c d o).s2 (LA a b c d o).s13)))))))))))))
def TI(a:Int)(b:Int)(c:Int)(d:Int)(o:Int):Int×Int:=hid (aAD a b c d o).val
def bAL(a:Int)(b:Int)(c:Int)(d:Int)(o:Int):Bool:=hid (aAD a b c d o).okv
def q252:=aZC (fun a b c d o=>a9D a b c d o (TI a b c d o)) bAL
theorem bN7:fT (fun live x=>cS (oQ bAK (m6 x)) (fV R 0 9223372036854775808 (.loop live x))) (qL 252).body:=(cF (l:=[([0,1,2,3,4,13],aEW)]) (by kernel_rfl) ⟨fZ (n:=34) (by kernel_rfl) fun σ σr t h ho hl=>bAJ σ σr t h ho hl,trivial⟩)
theorem bYR:cG 100252 q252:=aHE fun a b c d o hk=>tzl aAA bN7 [] [] true (aAD a b c d o) (a9D a b c d o) hk
def Q252:=aT 100252 q252 Q300
theorem aOC:QO Q252:=aC bYR aAA
section
variable(b:Int)
def aIV:Bool:=(rD (cV (aD b 8) 0) (cV (aD b 2) 0))
end
def LB(a:Int)(b:Int):Pt (Bool):=(ot (ot (ot (ot (.br (eqI a 2) (ot (ot (ot (.leaf (eqI (aD b 5) 0))))) (ot (.br (eqI a 4) (ot (ot (ot (.leaf (eqI (aD b 1) 0))))) (ot (.br (eqI a 6) (ot (ot (ot (.leaf (eqI (aD b 4) 0))))) (ot (.br (eqI a 8) (ot (ot (ot (.leaf (eqI (aD b 2) 0))))) (ot (.br (eqI a 10) (ot (ot (ot (.leaf (eqI (aD b 8) 0))))) (ot (.br (eqI a 12) (ot (ot (ot (.leaf (aIV b))))) (ot (.br (eqI a 14) (ot (ot (ot (.leaf (bif (aIV b)then(eqI (aD b 4) 0)else false))))) (ot (ot (ot (.leaf true)))))))))))))))))))))
def aIW(a:Int)(b:Int):Bool:=hid (LB a b).val
def bH9(a:Int)(b:Int):Bool:=hid (LB a b).okv
def q344:=M1 (fun a b=>S7 a b (aIW a b)) bH9
theorem bYS:cG 100344 q344:=xP fun a b hk=>tz aOC (LB a b) (S7 a b) hk
def Q344:=aT 100344 q344 Q252
theorem aOD:QO Q344:=aC bYS aOC
def aCV(a:Int)(b:Int):Pt (Bool):=(ot (.ok ((bH9 (aJ a 1) b)&&true) (ot (ot (.leaf (rD (aIW (aJ a 1) b) (eqI (aD a 1) 0)))))))
def A4(a:Int)(b:Int):Bool:=hid (aCV a b).val
def bIA(a:Int)(b:Int):Bool:=hid (aCV a b).okv
def q301:=M1 (fun a b=>S7 a b (A4 a b)) bIA
theorem bYT:cG 100301 q301:=xP fun a b hk=>tz aOD (aCV a b) (S7 a b) hk
def Q301:=aT 100301 q301 Q344
theorem aOE:QO Q301:=aC bYT aOD
def bYU(b:Int)(a:aL):List SV:=[(.one (.ptr 0 0 0)),(.one (li b))]
def bYV(b:Int)(a:aL):List Blk:=[.box [.sl 1 0 (ln a.fr.D), .sl 2 0 (ln a.fr.A),li a.fr.Other,li a.fr.PC,li a.fr.Flags,li a.fr.Mask, .lit (.bool a.fr.Super), .lit (.bool a.fr.Trace), .sl 3 0 (ln a.fbus.Bytes), .sl 4 0 (ln a.fbus.Log), .lit (.bool a.fstop),li a.ffault.Vector,li a.ffault.PC,li a.ffault.Addr,li a.ffault.Word, .lit (.bool a.ffault.Write)], .lst 1 a.fr.D, .lst 1 a.fr.A, .lst 1 a.fbus.Bytes, .lst 5 a.fbus.Log]
def bAM(N:Int→aL→SV×List Blk)(K:Int→aL→Bool):List SV→List Blk→Option ((SV×List Blk)×Bool)
 |[(.one (.ptr 0 0 0)),(.one (li c0))],[.box [.sl 1 0 l1, .sl 2 0 l2,li c1,li c2,li c3,li c4, .lit (.bool c5), .lit (.bool c6), .sl 3 0 l3, .sl 4 0 l4, .lit (.bool c7),li c8,li c9,li c10,li c11, .lit (.bool c12)], .lst 1 c_1, .lst 1 c_2, .lst 1 c_3, .lst 5 c_4]=>some (N c0 (aL.mk (aG.mk c_1 c_2 c1 c2 c3 c4 c5 c6) (bG.mk c_3 c_4) c7 (bO.mk c8 c9 c10 c11 c12)),eD l1 (ln c_1)&&(eD l2 (ln c_2)&&(eD l3 (ln c_3)&&(eD l4 (ln c_4)&&(K c0 (aL.mk (aG.mk c_1 c_2 c1 c2 c3 c4 c5 c6) (bG.mk c_3 c_4) c7 (bO.mk c8 c9 c10 c11 c12)))))))
 |_,_=>none
theorem a1G{N:Int→aL→SV×List Blk}{K:Int→aL→Bool}{f:Nat}(h: ∀(b:Int)(a:aL),K b a=true→dL R f (bYU b a) (bYV b a)=some (N b a)):cG f (bAM N K):=fun args hp r e=>by
 unfold bAM at e;split at e
 ·rename_i c0 l1 l2 c1 c2 c3 c4 c5 c6 l3 l4 c7 c8 c9 c10 c11 c12 c_1 c_2 c_3 c_4;obtain⟨hr,hk⟩:=qp (qi e);obtain⟨d0,hk0⟩:=bB hk;obtain⟨d1,hk1⟩:=bB hk0;obtain⟨d2,hk2⟩:=bB hk1;obtain⟨d3,hk3⟩:=bB hk2;obtain rfl:=of_decide_eq_true d0;obtain rfl:=of_decide_eq_true d1;obtain rfl:=of_decide_eq_true d2;obtain rfl:=of_decide_eq_true d3;rw[←hr];exact h c0 (aL.mk (aG.mk c_1 c_2 c1 c2 c3 c4 c5 c6) (bG.mk c_3 c_4) c7 (bO.mk c8 c9 c10 c11 c12)) hk3
 ·simp at e
section
variable(b:Int)(a:aL)
def oK:Int:=(aD (bZ (bD a.fr.A 3 0) 2) 65535)
def aIX:Nat:=(ln (yX 2 2 (oK a) b a).1.fr.A)
def aAE:Bool:=(bM (yX 2 2 (oK a) b a).1 true)
def a1H:Nat:=(ln (yX 2 2 (oK a) b a).1.fr.D)
def aIY:List Row:=(List.set (yX 2 2 (oK a) b a).1.fr.A 3 (aU (oK a)))
def aIZ:Bool:=((e1 (a1H b a))&&((eD (aIX b a) (ln (aIY b a)))&&(bH (yX 2 2 (oK a) b a).1.fbus true)))
end
def a1I(b:Int)(a:aL):Pt (aL):=(.ok ((ltI 3 (bL a.fr.A))&&((dM [.int .i64] a.fr.A 3 0)&&true)) (.ok ((cM a (aSW 2 2 (oK a) b a))&&true) (.ok ((cM (yX 2 2 (oK a) b a).1 (GV (yX 2 2 (oK a) b a).1))&&true) (.br (GU (yX 2 2 (oK a) b a).1) (.ok ((ltI 3 (bL (yX 2 2 (oK a) b a).1.fr.A))&&(((blt 3 (aIX b a))&&(jT (jU (yX 2 2 (oK a) b a).1.fr.A 3) 1))&&true)) (.ok ((((aAE b a)&&(aIZ b a))&&true)&&((aIZ b a)&&true)) (.leaf {(yX 2 2 (oK a) b a).1 with fr:={(yX 2 2 (oK a) b a).1.fr with A:=(aIY b a)}}))) (.ok (dd (aAE b a) ((aAE b a)&&true)) (.leaf (yX 2 2 (oK a) b a).1))))))
def bIB(b:Int)(a:aL):aL:=hid (a1I b a).val
def bIC(b:Int)(a:aL):Bool:=hid (a1I b a).okv
def bAN(b:Int)(a:aL)(r:aL):SV×List Blk:=((.tup []),[.box [.sl 1 0 (ln r.fr.D), .sl 2 0 (ln r.fr.A),li r.fr.Other,li r.fr.PC,li r.fr.Flags,li r.fr.Mask, .lit (.bool r.fr.Super), .lit (.bool r.fr.Trace), .sl 3 0 (ln r.fbus.Bytes), .sl 4 0 (ln r.fbus.Log), .lit (.bool r.fstop),li r.ffault.Vector,li r.ffault.PC,li r.ffault.Addr,li r.ffault.Word, .lit (.bool r.ffault.Write)], .lst 1 r.fr.D, .lst 1 r.fr.A, .lst 1 r.fbus.Bytes, .lst 5 r.fbus.Log])
def q302:=bAM (fun b a=>bAN b a (bIB b a)) bIC
theorem bYW:cG 302 q302:=a1G fun b a hk=>tcx aOE [(1000001,[])] [] true (a1I b a) (bAN b a) hk
def Q302:=aT 302 q302 Q301
theorem aOF:QO Q302:=aC bYW aOE
def bYX(b:aF)(c:Int)(a:aL):List SV:=[(.one (.ptr 0 0 0)),(.agg [li b.Op,li b.Size,li b.Reg,li b.Ea.Mode,li b.Ea.Reg,li b.Ea.Ext,li b.Sub]),(.one (li c))]
def bYY(b:aF)(c:Int)(a:aL):List Blk:=[.box [.sl 1 0 (ln a.fr.D), .sl 2 0 (ln a.fr.A),li a.fr.Other,li a.fr.PC,li a.fr.Flags,li a.fr.Mask, .lit (.bool a.fr.Super), .lit (.bool a.fr.Trace), .sl 3 0 (ln a.fbus.Bytes), .sl 4 0 (ln a.fbus.Log), .lit (.bool a.fstop),li a.ffault.Vector,li a.ffault.PC,li a.ffault.Addr,li a.ffault.Word, .lit (.bool a.ffault.Write)], .lst 1 a.fr.D, .lst 1 a.fr.A, .lst 1 a.fbus.Bytes, .lst 5 a.fbus.Log]
def bAO(N:aF→Int→aL→SV×List Blk)(K:aF→Int→aL→Bool):List SV→List Blk→Option ((SV×List Blk)×Bool)
 |[(.one (.ptr 0 0 0)),(.agg [li c0,li c1,li c2,li c3,li c4,li c5,li c6]),(.one (li c7))],[.box [.sl 1 0 l1, .sl 2 0 l2,li c8,li c9,li c10,li c11, .lit (.bool c12), .lit (.bool c13), .sl 3 0 l3, .sl 4 0 l4, .lit (.bool c14),li c15,li c16,li c17,li c18, .lit (.bool c19)], .lst 1 c_1, .lst 1 c_2, .lst 1 c_3, .lst 5 c_4]=>some (N (aF.mk c0 c1 c2 (aB.mk c3 c4 c5) c6) c7 (aL.mk (aG.mk c_1 c_2 c8 c9 c10 c11 c12 c13) (bG.mk c_3 c_4) c14 (bO.mk c15 c16 c17 c18 c19)),eD l1 (ln c_1)&&(eD l2 (ln c_2)&&(eD l3 (ln c_3)&&(eD l4 (ln c_4)&&(K (aF.mk c0 c1 c2 (aB.mk c3 c4 c5) c6) c7 (aL.mk (aG.mk c_1 c_2 c8 c9 c10 c11 c12 c13) (bG.mk c_3 c_4) c14 (bO.mk c15 c16 c17 c18 c19)))))))
 |_,_=>none
theorem a1J{N:aF→Int→aL→SV×List Blk}{K:aF→Int→aL→Bool}{f:Nat}(h: ∀(b:aF)(c:Int)(a:aL),K b c a=true→dL R f (bYX b c a) (bYY b c a)=some (N b c a)):cG f (bAO N K):=fun args hp r e=>by
 unfold bAO at e;split at e
 ·rename_i c0 c1 c2 c3 c4 c5 c6 c7 l1 l2 c8 c9 c10 c11 c12 c13 l3 l4 c14 c15 c16 c17 c18 c19 c_1 c_2 c_3 c_4;obtain⟨hr,hk⟩:=qp (qi e);obtain⟨d0,hk0⟩:=bB hk;obtain⟨d1,hk1⟩:=bB hk0;obtain⟨d2,hk2⟩:=bB hk1;obtain⟨d3,hk3⟩:=bB hk2;obtain rfl:=of_decide_eq_true d0;obtain rfl:=of_decide_eq_true d1;obtain rfl:=of_decide_eq_true d2;obtain rfl:=of_decide_eq_true d3;rw[←hr];exact h (aF.mk c0 c1 c2 (aB.mk c3 c4 c5) c6) c7 (aL.mk (aG.mk c_1 c_2 c8 c9 c10 c11 c12 c13) (bG.mk c_3 c_4) c14 (bO.mk c15 c16 c17 c18 c19)) hk3
 ·simp at e
section
variable(b:aF)(a:aL)
def CX:Bool:=(((bM a true)&&(bM a true))&&true)
def qQ:aL:=(bIB (hZ 2 b.Ea a).1.fr.PC (hZ 2 b.Ea a).1)
def CY:Bool:=(((bM (qQ b a) true)&&(bM (qQ b a) true))&&true)
def CZ:Bool:=(((bM (hZ 2 b.Ea a).1 true)&&(bM (hZ 2 b.Ea a).1 true))&&true)
end
def a1K(b:aF)(c:Int)(a:aL):Pt (aL):=(ot (ot (.br (eqI b.Op 13) (.ok ((bIA (aV b.Sub (dB 8 b.Reg)) a.fr.Flags)&&true) (.br (A4 (aV b.Sub (dB 8 b.Reg)) a.fr.Flags) (ot (.ok (CX a) (.leaf {a with fr:={a.fr with PC:=(aD (aV (aV c 2) b.Ea.Ext) 65535)}}))) (.ok (CX a) (.leaf a)))) (.ok ((cM a (aSY 2 b.Ea a))&&true) (ot (.br (eqI b.Sub 1) (.ok ((cM (hZ 2 b.Ea a).1 (bIC (hZ 2 b.Ea a).1.fr.PC (hZ 2 b.Ea a).1))&&true) (.ok ((cM (qQ b a) (GV (qQ b a)))&&true) (.br (GU (qQ b a)) (ot (.ok (CY b a) (.leaf {(qQ b a)with fr:={(qQ b a).fr with PC:=(hZ 2 b.Ea a).2}}))) (.ok (CY b a) (.leaf (qQ b a)))))) (.ok ((cM (hZ 2 b.Ea a).1 (GV (hZ 2 b.Ea a).1))&&true) (.br (GU (hZ 2 b.Ea a).1) (ot (.ok (CZ b a) (.leaf {(hZ 2 b.Ea a).1 with fr:={(hZ 2 b.Ea a).1.fr with PC:=(hZ 2 b.Ea a).2}}))) (.ok (CZ b a) (.leaf (hZ 2 b.Ea a).1))))))))))
def a1L(b:aF)(c:Int)(a:aL):aL:=hid (a1K b c a).val
def bID(b:aF)(c:Int)(a:aL):Bool:=hid (a1K b c a).okv
def bAP(b:aF)(c:Int)(a:aL)(r:aL):SV×List Blk:=((.tup []),[.box [.sl 1 0 (ln r.fr.D), .sl 2 0 (ln r.fr.A),li r.fr.Other,li r.fr.PC,li r.fr.Flags,li r.fr.Mask, .lit (.bool r.fr.Super), .lit (.bool r.fr.Trace), .sl 3 0 (ln r.fbus.Bytes), .sl 4 0 (ln r.fbus.Log), .lit (.bool r.fstop),li r.ffault.Vector,li r.ffault.PC,li r.ffault.Addr,li r.ffault.Word, .lit (.bool r.ffault.Write)], .lst 1 r.fr.D, .lst 1 r.fr.A, .lst 1 r.fbus.Bytes, .lst 5 r.fbus.Log])
def q254:=bAO (fun b c a=>bAP b c a (a1L b c a)) bID
theorem bYZ:cG 254 q254:=a1J fun b c a hk=>tc aOF (a1K b c a) (bAP b c a) hk
def Q254:=aT 254 q254 Q302
theorem aOG:QO Q254:=aC bYZ aOF
section
variable(a:aL)
def jH:aL×Int:=(yX 1 2 (bD a.fr.A 3 0) 0 a)
def aI0:List Row:=(List.set (jH a).1.fr.A 3 (aU (aD (aV (bD (jH a).1.fr.A 3 0) 2) 65535)))
def aI1:Bool:=((e1 (ln (jH a).1.fr.D))&&((eD (ln (jH a).1.fr.A) (ln (aI0 a)))&&(bH (jH a).1.fbus true)))
end
def a1M(a:aL):Pt (aL×Int):=(ot (.ok ((ltI 3 (bL a.fr.A))&&((dM [.int .i64] a.fr.A 3 0)&&((cM a (aSW 1 2 (bD a.fr.A 3 0) 0 a))&&true))) (.ok ((cM (jH a).1 (GV (jH a).1))&&true) (.br (GU (jH a).1) (.ok (((ltI 3 (bL (jH a).1.fr.A))&&((dM [.int .i64] (jH a).1.fr.A 3 0)&&((ltI 3 (bL (jH a).1.fr.A))&&(((blt 3 (ln (jH a).1.fr.A))&&(jT (jU (jH a).1.fr.A 3) 1))&&true))))&&true) (ot (.ok ((((bM (jH a).1 true)&&(aI1 a))&&true)&&((aI1 a)&&true)) (.leaf ({(jH a).1 with fr:={(jH a).1.fr with A:=(aI0 a)}},(jH a).2))))) (ot (.ok (dd (bM (jH a).1 true) ((bM (jH a).1 true)&&true)) (.leaf ((jH a).1,(jH a).2))))))))
def jI(a:aL):aL×Int:=hid (a1M a).val
def a1N(a:aL):Bool:=hid (a1M a).okv
def bN8(a:aL)(r:aL×Int):SV×List Blk:=((.one (li r.2)),[.box [.sl 1 0 (ln r.1.fr.D), .sl 2 0 (ln r.1.fr.A),li r.1.fr.Other,li r.1.fr.PC,li r.1.fr.Flags,li r.1.fr.Mask, .lit (.bool r.1.fr.Super), .lit (.bool r.1.fr.Trace), .sl 3 0 (ln r.1.fbus.Bytes), .sl 4 0 (ln r.1.fbus.Log), .lit (.bool r.1.fstop),li r.1.ffault.Vector,li r.1.ffault.PC,li r.1.ffault.Addr,li r.1.ffault.Word, .lit (.bool r.1.ffault.Write)], .lst 1 r.1.fr.D, .lst 1 r.1.fr.A, .lst 1 r.1.fbus.Bytes, .lst 5 r.1.fbus.Log])
def q303:=a04 (fun a=>bN8 a (jI a)) a1N
theorem bY0:cG 303 q303:=aIK fun a hk=>tcx aOG [(1000001,[])] [] true (a1M a) (bN8 a) hk
def Q303:=aT 303 q303 Q254
theorem aOH:QO Q303:=aC bY0 aOG
def bY1(a:aG)(b:Int):List SV:=[(.agg [.sl 0 0 (ln a.D), .sl 1 0 (ln a.A),li a.Other,li a.PC,li a.Flags,li a.Mask, .lit (.bool a.Super), .lit (.bool a.Trace)]),(.one (li b))]
def bY2(a:aG)(b:Int):List Blk:=[.lst 1 a.D, .lst 1 a.A]
def bIE(N:aG→Int→SV×List Blk)(K:aG→Int→Bool):List SV→List Blk→Option ((SV×List Blk)×Bool)
 |[(.agg [.sl 0 0 l0, .sl 1 0 l1,li c0,li c1,li c2,li c3, .lit (.bool c4), .lit (.bool c5)]),(.one (li c6))],[.lst 1 c_0, .lst 1 c_1]=>some (N (aG.mk c_0 c_1 c0 c1 c2 c3 c4 c5) c6,eD l0 (ln c_0)&&(eD l1 (ln c_1)&&(K (aG.mk c_0 c_1 c0 c1 c2 c3 c4 c5) c6)))
 |_,_=>none
theorem bIF{N:aG→Int→SV×List Blk}{K:aG→Int→Bool}{f:Nat}(h: ∀(a:aG)(b:Int),K a b=true→dL R f (bY1 a b) (bY2 a b)=some (N a b)):cG f (bIE N K):=fun args hp r e=>by
 unfold bIE at e;split at e
 ·rename_i l0 l1 c0 c1 c2 c3 c4 c5 c6 c_0 c_1;obtain⟨hr,hk⟩:=qp (qi e);obtain⟨d0,hk0⟩:=bB hk;obtain⟨d1,hk1⟩:=bB hk0;obtain rfl:=of_decide_eq_true d0;obtain rfl:=of_decide_eq_true d1;rw[←hr];exact h (aG.mk c_0 c_1 c0 c1 c2 c3 c4 c5) c6 hk1
 ·simp at e
section
variable(a:aG)
def aI2:Bool:=((e1 (ln a.D))&&((eD (ln a.A) (ln (List.set a.A 3 (aU a.Other))))&&true))
end
def a1O(a:aG)(b:Int):Pt (aG):=(ot (ot (ot (.br (!(rD (cV (aD b 256) 0) a.Super)) (.ok ((ltI 3 (bL a.A))&&((dM [.int .i64] a.A 3 0)&&true)) (.ok ((ltI 3 (bL a.A))&&(((blt 3 (ln a.A))&&(jT (jU a.A 3) 1))&&true)) (ot (ot (ot (ot (ot (ot (.ok (((aI2 a)&&((aK a true)&&true))&&((aI2 a)&&true)) (.leaf (aG.mk a.D (List.set a.A 3 (aU a.Other)) (bD a.A 3 0) a.PC (aD b 31) (aD (lO b 5) 7) (cV (aD b 256) 0) (cV (aD b 512) 0)))))))))))) (ot (ot (ot (ot (ot (.ok (((aK a true)&&((aK a true)&&true))&&((aK a true)&&true)) (.leaf {a with Flags:=(aD b 31),Mask:=(aD (lO b 5) 7),Super:=(cV (aD b 256) 0),Trace:=(cV (aD b 512) 0)})))))))))))
def aI3(a:aG)(b:Int):aG:=hid (a1O a b).val
def a1P(a:aG)(b:Int):Bool:=hid (a1O a b).okv
def bN9(a:aG)(b:Int)(r:aG):SV×List Blk:=((.agg [.sl 0 0 (ln r.D), .sl 1 0 (ln r.A),li r.Other,li r.PC,li r.Flags,li r.Mask, .lit (.bool r.Super), .lit (.bool r.Trace)]),[.lst 1 r.D, .lst 1 r.A])
def q258:=bIE (fun a b=>bN9 a b (aI3 a b)) a1P
theorem bY3:cG 258 q258:=bIF fun a b hk=>tcx aOH [(1000001,[])] [] true (a1O a b) (bN9 a b) hk
def Q258:=aT 258 q258 Q303
theorem aOI:QO Q258:=aC bY3 aOH
def a1Q(b:Int)(a:aL):Pt (aL):=(ot (ot (.ok (((bM a true)&&(bM a true))&&true) (.leaf {a with ffault:={a.ffault with Vector:=b,PC:=a.fr.PC}}))))
def bAQ(b:Int)(a:aL):aL:=hid (a1Q b a).val
def bAR(b:Int)(a:aL):Bool:=hid (a1Q b a).okv
def q304:=bAM (fun b a=>bAN b a (bAQ b a)) bAR
theorem bY4:cG 304 q304:=a1G fun b a hk=>tc aOI (a1Q b a) (bAN b a) hk
def Q304:=aT 304 q304 Q258
theorem aOJ:QO Q304:=aC bY4 aOI
def a1R(a:Int):Pt (Int×Bool):=(ot (.ok ((a0D 2 a)&&true) (.br (!(a0C 2 a)) (ot (ot (ot (.leaf (0,false))))) (ot (ot (ot (.leaf ((cD (lO a 8) (hX (aD a 255) 8)),true))))))))
def bAS(a:Int):Int×Bool:=hid (a1R a).val
def bIG(a:Int):Bool:=hid (a1R a).okv
def bAT(a:Int)(r:Int×Bool):SV×List Blk:=((.tup [(.one (li r.1)),(.one (.lit (.bool r.2)))]),[])
def q305:=AZ (fun a=>bAT a (bAS a)) bIG
theorem bY5:cG 100305 q305:=gX fun a hk=>tz aOJ (a1R a) (bAT a) hk
def Q305:=aT 100305 q305 Q304
theorem aOK:QO Q305:=aC bY5 aOJ
def bY6(b:Int)(c:Int)(d:Int)(a:aL):List SV:=[(.one (.ptr 0 0 0)),(.one (li b)),(.one (li c)),(.one (li d))]
def bY7(b:Int)(c:Int)(d:Int)(a:aL):List Blk:=[.box [.sl 1 0 (ln a.fr.D), .sl 2 0 (ln a.fr.A),li a.fr.Other,li a.fr.PC,li a.fr.Flags,li a.fr.Mask, .lit (.bool a.fr.Super), .lit (.bool a.fr.Trace), .sl 3 0 (ln a.fbus.Bytes), .sl 4 0 (ln a.fbus.Log), .lit (.bool a.fstop),li a.ffault.Vector,li a.ffault.PC,li a.ffault.Addr,li a.ffault.Word, .lit (.bool a.ffault.Write)], .lst 1 a.fr.D, .lst 1 a.fr.A, .lst 1 a.fbus.Bytes, .lst 5 a.fbus.Log]
def bIH(N:Int→Int→Int→aL→SV×List Blk)(K:Int→Int→Int→aL→Bool):List SV→List Blk→Option ((SV×List Blk)×Bool)
 |[(.one (.ptr 0 0 0)),(.one (li c0)),(.one (li c1)),(.one (li c2))],[.box [.sl 1 0 l1, .sl 2 0 l2,li c3,li c4,li c5,li c6, .lit (.bool c7), .lit (.bool c8), .sl 3 0 l3, .sl 4 0 l4, .lit (.bool c9),li c10,li c11,li c12,li c13, .lit (.bool c14)], .lst 1 c_1, .lst 1 c_2, .lst 1 c_3, .lst 5 c_4]=>some (N c0 c1 c2 (aL.mk (aG.mk c_1 c_2 c3 c4 c5 c6 c7 c8) (bG.mk c_3 c_4) c9 (bO.mk c10 c11 c12 c13 c14)),eD l1 (ln c_1)&&(eD l2 (ln c_2)&&(eD l3 (ln c_3)&&(eD l4 (ln c_4)&&(K c0 c1 c2 (aL.mk (aG.mk c_1 c_2 c3 c4 c5 c6 c7 c8) (bG.mk c_3 c_4) c9 (bO.mk c10 c11 c12 c13 c14)))))))
 |_,_=>none
theorem bII{N:Int→Int→Int→aL→SV×List Blk}{K:Int→Int→Int→aL→Bool}{f:Nat}(h: ∀(b:Int)(c:Int)(d:Int)(a:aL),K b c d a=true→dL R f (bY6 b c d a) (bY7 b c d a)=some (N b c d a)):cG f (bIH N K):=fun args hp r e=>by
 unfold bIH at e;split at e
 ·rename_i c0 c1 c2 l1 l2 c3 c4 c5 c6 c7 c8 l3 l4 c9 c10 c11 c12 c13 c14 c_1 c_2 c_3 c_4;obtain⟨hr,hk⟩:=qp (qi e);obtain⟨d0,hk0⟩:=bB hk;obtain⟨d1,hk1⟩:=bB hk0;obtain⟨d2,hk2⟩:=bB hk1;obtain⟨d3,hk3⟩:=bB hk2;obtain rfl:=of_decide_eq_true d0;obtain rfl:=of_decide_eq_true d1;obtain rfl:=of_decide_eq_true d2;obtain rfl:=of_decide_eq_true d3;rw[←hr];exact h c0 c1 c2 (aL.mk (aG.mk c_1 c_2 c3 c4 c5 c6 c7 c8) (bG.mk c_3 c_4) c9 (bO.mk c10 c11 c12 c13 c14)) hk3
 ·simp at e
section
variable(b:Int)(c:Int)(d:Int)(a:aL)
def aI4:aG:=(IZ {a.fr with Flags:=(eZ b a.fr.Flags d)} b c d)
def aI5:Bool:=(aK (aI4 b c d a) (bH a.fbus true))
end
def a1S(b:Int)(c:Int)(d:Int)(a:aL):Pt (aL):=(.ok ((CV b a.fr.Flags d)&&true) (.ok ((((aK a.fr true)&&((aK a.fr true)&&true))&&(aK a.fr (I0 {a.fr with Flags:=(eZ b a.fr.Flags d)} b c d)))&&true) (.ok (((aI5 b c d a)&&(aI5 b c d a))&&true) (.leaf {a with fr:=(aI4 b c d a)}))))
def aSZ(b:Int)(c:Int)(d:Int)(a:aL):aL:=hid (a1S b c d a).val
def aS0(b:Int)(c:Int)(d:Int)(a:aL):Bool:=hid (a1S b c d a).okv
def bOA(b:Int)(c:Int)(d:Int)(a:aL)(r:aL):SV×List Blk:=((.tup []),[.box [.sl 1 0 (ln r.fr.D), .sl 2 0 (ln r.fr.A),li r.fr.Other,li r.fr.PC,li r.fr.Flags,li r.fr.Mask, .lit (.bool r.fr.Super), .lit (.bool r.fr.Trace), .sl 3 0 (ln r.fbus.Bytes), .sl 4 0 (ln r.fbus.Log), .lit (.bool r.fstop),li r.ffault.Vector,li r.ffault.PC,li r.ffault.Addr,li r.ffault.Word, .lit (.bool r.ffault.Write)], .lst 1 r.fr.D, .lst 1 r.fr.A, .lst 1 r.fbus.Bytes, .lst 5 r.fbus.Log])
def q306:=bIH (fun b c d a=>bOA b c d a (aSZ b c d a)) aS0
theorem bY8:cG 306 q306:=bII fun b c d a hk=>tc aOK (a1S b c d a) (bOA b c d a) hk
def Q306:=aT 306 q306 Q305
theorem aOL:QO Q306:=aC bY8 aOK
def a1T(a:Int):Pt (Int×Bool):=(ot (.ok ((a0D 1 a)&&true) (.br (!(a0C 1 a)) (ot (ot (ot (.leaf (0,false))))) (.ok ((Z7 1 a)&&true) (ot (ot (.leaf ((aD (Z6 1 a) 65535),true))))))))
def bAU(a:Int):Int×Bool:=hid (a1T a).val
def bIJ(a:Int):Bool:=hid (a1T a).okv
def q307:=AZ (fun a=>bAT a (bAU a)) bIJ
theorem bY9:cG 100307 q307:=gX fun a hk=>tz aOL (a1T a) (bAT a) hk
def Q307:=aT 100307 q307 Q306
theorem aOM:QO Q307:=aC bY9 aOL
section
variable(b:aF)(a:aL)
def vR:Bool:=(((bM (jI a).1 true)&&(bM (jI a).1 true))&&true)
def vS:aG:=(aI3 {(jI (jI a).1).1.fr with PC:=(jI (jI a).1).2} (aD (jI a).2 1023))
def vT:Bool:=(aK (vS a) (bH (jI (jI a).1).1.fbus true))
def vU:Bool:=(aK (aI3 a.fr b.Ea.Ext) (bH a.fbus true))
def tT:aL:=(bAQ (aV 18 b.Reg) a)
def vV:Bool:=((leI 0 b.Reg)&&(ltI b.Reg (bL a.fr.D)))
def vW:Bool:=(dM [.int .i64] a.fr.D (0+(iN b.Reg)) 0)
def tU:aL:=(aSZ 2 b.Reg (bAS (bD a.fr.D (0+(iN b.Reg)) 0)).1 a)
def tW:Int:=(aD (bD a.fr.D (0+(iN b.Reg)) 0) 255)
def tX:aL:=(aSZ 2 b.Reg (bAU (tW b a)).1 a)
end
def a1U(b:aF)(a:aL):Pt (aL):=(ot (ot (ot (.br (eqI b.Sub 0) (.ok ((cM a (a1N a))&&true) (ot (.ok (vR a) (.leaf {(jI a).1 with fr:={(jI a).1.fr with PC:=(jI a).2}})))) (ot (.br (eqI b.Sub 1) (.ok ((cM a (a1N a))&&true) (.ok ((cM (jI a).1 (GV (jI a).1))&&true) (.br (!(GU (jI a).1)) (.ok (vR a) (.leaf (jI a).1)) (.ok ((cM (jI a).1 (a1N (jI a).1))&&true) (.ok ((cM (jI (jI a).1).1 (GV (jI (jI a).1).1))&&true) (.br (GU (jI (jI a).1).1) (ot (.ok ((((aK (jI (jI a).1).1.fr true)&&((aK (jI (jI a).1).1.fr true)&&true))&&(aK (jI (jI a).1).1.fr (a1P {(jI (jI a).1).1.fr with PC:=(jI (jI a).1).2} (aD (jI a).2 1023))))&&true) (.ok (((vT a)&&(vT a))&&true) (.leaf {(jI (jI a).1).1 with fr:=(vS a)})))) (.ok (((bM (jI (jI a).1).1 true)&&(bM (jI (jI a).1).1 true))&&true) (.leaf (jI (jI a).1).1)))))))) (ot (.br (eqI b.Sub 3) (.ok (((((aK a.fr true)&&((aK a.fr true)&&true))&&(aK a.fr (a1P a.fr b.Ea.Ext)))&&true)&&true) (ot (.ok (((vU b a)&&(vU b a))&&true) (.leaf {a with fr:=(aI3 a.fr b.Ea.Ext),fstop:=true})))) (ot (.br (eqI b.Sub 4) (.ok ((cM a (bAR (aV 18 b.Reg) a))&&true) (.ok (((bM (tT b a) true)&&(bM (tT b a) true))&&true) (.leaf (tT b a)))) (ot (.br (eqI b.Sub 5) (.ok ((vV b a)&&((vW b a)&&((bIG (bD a.fr.D (0+(iN b.Reg)) 0))&&true))) (.ok ((cM a (aS0 2 b.Reg (bAS (bD a.fr.D (0+(iN b.Reg)) 0)).1 a))&&true) (.ok (((bM (tU b a) true)&&(bM (tU b a) true))&&true) (.leaf (tU b a))))) (ot (.br (eqI b.Sub 6) (.ok ((vV b a)&&((vW b a)&&((bIJ (tW b a))&&true))) (.ok ((cM a (aS0 2 b.Reg (bAU (tW b a)).1 a))&&true) (.ok (((bM (tX b a) true)&&(bM (tX b a) true))&&true) (.leaf (tX b a))))) (.ok (((bM a true)&&(bM a true))&&true) (.leaf a))))))))))))))))
def a1V(b:aF)(a:aL):aL:=hid (a1U b a).val
def bIK(b:aF)(a:aL):Bool:=hid (a1U b a).okv
def q255:=aIS (fun b a=>TH b a (a1V b a)) bIK
theorem bZA:cG 255 q255:=RW fun b a hk=>tc aOM (a1U b a) (TH b a) hk
def Q255:=aT 255 q255 Q307
theorem aON:QO Q255:=aC bZA aOM
section
variable(b:aF)(a:aL)
def C0:Int:=(dB (bD (cC 2 b.Ea a).1.fr.D (0+(iN b.Reg)) 0) (cC 2 b.Ea a).2.1)
def AK:aL:=(aSZ 2 b.Reg (aD (C0 b a) 65535) (cC 2 b.Ea a).1)
def G0:aL:=(bAQ 5 (cC 2 b.Ea a).1)
def LC:Int:=(kF (bD (cC 2 b.Ea a).1.fr.D (0+(iN b.Reg)) 0) (cC 2 b.Ea a).2.1)
def G1:aL:=(aSZ 2 b.Reg (LC b a) (cC 2 b.Ea a).1)
end
def a1W(b:aF)(a:aL):Pt (aL):=(ot (.ok ((cM a (aSX 2 b.Ea a))&&true) (.ok ((cM (cC 2 b.Ea a).1 (GV (cC 2 b.Ea a).1))&&true) (.br (!(GU (cC 2 b.Ea a).1)) (.ok (((bM (cC 2 b.Ea a).1 true)&&(bM (cC 2 b.Ea a).1 true))&&true) (.leaf (cC 2 b.Ea a).1)) (.ok (((leI 0 b.Reg)&&(ltI b.Reg (bL (cC 2 b.Ea a).1.fr.D)))&&((dM [.int .i64] (cC 2 b.Ea a).1.fr.D (0+(iN b.Reg)) 0)&&true)) (ot (.br (eqI b.Op 16) (ot (.ok ((cM (cC 2 b.Ea a).1 (aS0 2 b.Reg (aD (C0 b a) 65535) (cC 2 b.Ea a).1))&&true) (.ok (((rP (pG (C0 b a) 65535) 2)&&true)&&true) (.ok (((bM (AK b a) true)&&(bM (AK b a) true))&&true) (.leaf {(AK b a)with fr:={(AK b a).fr with Flags:=(cD (AK b a).fr.Flags (rO (pG (C0 b a) 65535) 2))}}))))) (ot (.br (eqI (cC 2 b.Ea a).2.1 0) (.ok ((cM (cC 2 b.Ea a).1 (bAR 5 (cC 2 b.Ea a).1))&&true) (.ok (((bM (G0 b a) true)&&(bM (G0 b a) true))&&true) (.leaf (G0 b a)))) (.ok (((cV (cC 2 b.Ea a).2.1 0)&&((cM (cC 2 b.Ea a).1 (aS0 2 b.Reg (LC b a) (cC 2 b.Ea a).1))&&true))&&true) (.ok (((bM (G1 b a) true)&&(bM (G1 b a) true))&&true) (.leaf (G1 b a)))))))))))))
def a1X(b:aF)(a:aL):aL:=hid (a1W b a).val
def bIL(b:aF)(a:aL):Bool:=hid (a1W b a).okv
def q256:=aIS (fun b a=>TH b a (a1X b a)) bIL
theorem bZB:cG 256 q256:=RW fun b a hk=>tc aON (a1W b a) (TH b a) hk
def Q256:=aT 256 q256 Q255
theorem aOO:QO Q256:=aC bZB aON
def a1Y(a:Int):Pt (Bool):=(ot (.ok ((yT a 0 255)&&true) (ot (ot (.leaf (bif (bif (wH a 0 255)then(leI (lO a 4) 9)else false)then(leI (aD a 15) 9)else false))))))
def iA(a:Int):Bool:=hid (a1Y a).val
def bAV(a:Int):Bool:=hid (a1Y a).okv
def q308:=AZ (fun a=>kG a (iA a)) bAV
theorem bZC:cG 100308 q308:=gX fun a hk=>tz aOO (a1Y a) (kG a) hk
def Q308:=aT 100308 q308 Q256
theorem aOP:QO Q308:=aC bZC aOO
def a1Z(a:Int):Pt (Int):=(ot (ot (ot (ot (.leaf (aV (dB (lO a 4) 10) (aD a 15)))))))
def I1(a:Int):Int:=hid (a1Z a).val
def aS1(a:Int):Bool:=hid (a1Z a).okv
def q345:=AZ (fun a=>wK a (I1 a)) aS1
theorem bZD:cG 100345 q345:=gX fun a hk=>tz aOP (a1Z a) (wK a) hk
def Q345:=aT 100345 q345 Q308
theorem aOQ:QO Q345:=aC bZD aOP
def aI6(a:Int):Pt (Int):=(ot (ot (ot (ot (.leaf (cD (hX (kF a 10) 4) (iC a 10)))))))
def tA(a:Int):Int:=hid (aI6 a).val
def a10(a:Int):Bool:=hid (aI6 a).okv
def q346:=AZ (fun a=>wK a (tA a)) a10
theorem bZE:cG 100346 q346:=gX fun a hk=>tz aOQ (aI6 a) (wK a) hk
def Q346:=aT 100346 q346 Q345
theorem aOR:QO Q346:=aC bZE aOQ
section
variable(a:Int)(b:Int)(c:Int)
def aAF:Int:=(iC (aV (aV (I1 b) (I1 c)) a) 100)
end
def aI7(a:Int)(b:Int)(c:Int):Pt (Int×Int):=(ot (.ok ((aS1 b)&&((aS1 c)&&true)) (.ok ((a10 (aAF a b c))&&true) (ot (ot (.leaf ((tA (aAF a b c)),(kF (aV (aV (I1 b) (I1 c)) a) 100))))))))
def M7(a:Int)(b:Int)(c:Int):Int×Int:=hid (aI7 a b c).val
def bIM(a:Int)(b:Int)(c:Int):Bool:=hid (aI7 a b c).okv
def q309:=DS5 (fun a b c=>aSF a b c (M7 a b c)) bIM
theorem bZF:cG 100309 q309:=BU fun a b c hk=>tz aOR (aI7 a b c) (aSF a b c) hk
def Q309:=aT 100309 q309 Q346
theorem aOS:QO Q309:=aC bZF aOR
section
variable(a:Int)(b:Int)(c:Int)
def aAG:Int:=(aV (bZ (bZ (I1 b) (I1 c)) a) 100)
end
def aI8(a:Int)(b:Int)(c:Int):Pt (Int×Int):=(ot (.ok ((aS1 b)&&((aS1 c)&&true)) (ot (.br (ltI (bZ (bZ (I1 b) (I1 c)) a) 0) (.ok ((a10 (aAG a b c))&&true) (ot (ot (.leaf ((tA (aAG a b c)),1))))) (.ok ((a10 (bZ (bZ (I1 b) (I1 c)) a))&&true) (ot (ot (.leaf ((tA (bZ (bZ (I1 b) (I1 c)) a)),0)))))))))
def M8(a:Int)(b:Int)(c:Int):Int×Int:=hid (aI8 a b c).val
def bIN(a:Int)(b:Int)(c:Int):Bool:=hid (aI8 a b c).okv
def q310:=DS5 (fun a b c=>aSF a b c (M8 a b c)) bIN
theorem bZG:cG 100310 q310:=BU fun a b c hk=>tz aOS (aI8 a b c) (aSF a b c) hk
def Q310:=aT 100310 q310 Q309
theorem aOT:QO Q310:=aC bZG aOS
section
variable(b:aF)(a:aL)
def vX:Int:=(aD (bD a.fr.D (0+(iN b.Reg)) 0) 255)
def x9:Int:=(aD (bD a.fr.D (0+(iN b.Ea.Reg)) 0) 255)
def C1:Int:=(rO (cV (aD a.fr.Flags 16) 0) 1)
def G2:Int×Int:=(M8 (C1 a) (vX b a) (x9 b a))
def G3:Int×Int:=(M7 (C1 a) (vX b a) (x9 b a))
def C2:Int:=(bif (eqI b.Sub 1)then(G2 b a).1 else(G3 b a).1)
def LD:aG:=(IZ {a.fr with Flags:=(cD (bif (eqI (C2 b a) 0)then(aD a.fr.Flags 4)else 0) (dB (bif (eqI b.Sub 1)then(G2 b a).2 else(G3 b a).2) 17))} 1 b.Reg (C2 b a))
def LE:Bool:=(aK (LD b a) (bH a.fbus true))
end
def a11(b:aF)(a:aL):Pt (aL):=(ot (.ok (((leI 0 b.Reg)&&(ltI b.Reg (bL a.fr.D)))&&((dM [.int .i64] a.fr.D (0+(iN b.Reg)) 0)&&true)) (.ok (((leI 0 b.Ea.Reg)&&(ltI b.Ea.Reg (bL a.fr.D)))&&((dM [.int .i64] a.fr.D (0+(iN b.Ea.Reg)) 0)&&true)) (.ok ((bAV (vX b a))&&((((bAV (x9 b a))&&true)||(!(iA (vX b a))))&&true)) (.br (bif (!(iA (vX b a)))then true else(!(iA (x9 b a)))) (ot (.ok (((bM a true)&&(bM a true))&&true) (.leaf {a with ffault:={a.ffault with Vector:=4}}))) (.ok ((rP (cV (aD a.fr.Flags 16) 0) 1)&&true) (.ok ((bIM (C1 a) (vX b a) (x9 b a))&&true) (ot (.ok ((((bIN (C1 a) (vX b a) (x9 b a))&&true)||(!(eqI b.Sub 1)))&&true) (ot (ot (ot (ot (.ok (((((aK a.fr true)&&((aK a.fr true)&&true))&&(aK a.fr (I0 {a.fr with Flags:=(cD (bif (eqI (C2 b a) 0)then(aD a.fr.Flags 4)else 0) (dB (bif (eqI b.Sub 1)then(G2 b a).2 else(G3 b a).2) 17))} 1 b.Reg (C2 b a))))&&true)&&true) (.ok (((LE b a)&&(LE b a))&&true) (.leaf {a with fr:=(LD b a)}))))))))))))))))
def a12(b:aF)(a:aL):aL:=hid (a11 b a).val
def bIO(b:aF)(a:aL):Bool:=hid (a11 b a).okv
def q257:=aIS (fun b a=>TH b a (a12 b a)) bIO
theorem bZH:cG 257 q257:=RW fun b a hk=>tc aOT (a11 b a) (TH b a) hk
def Q257:=aT 257 q257 Q310
theorem aOU:QO Q257:=aC bZH aOT
def a13(a:aG):Pt (Int):=(ot (.ok ((rP a.Super 256)&&((rP a.Trace 512)&&true)) (ot (ot (.leaf (aV (aV (aV a.Flags (dB 32 a.Mask)) (rO a.Super 256)) (rO a.Trace 512)))))))
def bIP(a:aG):Int:=hid (a13 a).val
def bIQ(a:aG):Bool:=hid (a13 a).okv
def bOB(a:aG)(r:Int):SV×List Blk:=((.one (li r)),[])
def q259:=aX8 (fun a=>bOB a (bIP a)) bIQ
theorem bZI:cG 100259 q259:=aGJ fun a p0 p1 hk=>tz aOU (a13 a) (bOB a) hk
def Q259:=aT 100259 q259 Q257
theorem aOV:QO Q259:=aC bZI aOU
section
variable(a:Int)(b:Int)(c:Int)(d:Int)
def G4:Int:=(aD (aV (aV c d) b) (bZ (wL a) 1))
def aI9:Bool:=(cV (aV (aV c d) b) (G4 a b c d))
def aJA:Bool:=(cV (aV (aV (Z6 a c) (Z6 a d)) b) (Z6 a (G4 a b c d)))
end
def a14(a:Int)(b:Int)(c:Int)(d:Int):Pt (Int×Int):=(ot (ot (.ok ((IW a)&&true) (.ok ((Z7 a c)&&((Z7 a d)&&true)) (.ok ((rP (aI9 a b c d) 17)&&((Z7 a (G4 a b c d))&&((rP (aJA a b c d) 2)&&((aIP a (G4 a b c d))&&true)))) (ot (ot (.leaf ((G4 a b c d),(cD (cD (rO (aI9 a b c d) 17) (rO (aJA a b c d) 2)) (aIO a (G4 a b c d))))))))))))
def bIR(a:Int)(b:Int)(c:Int)(d:Int):Int×Int:=hid (a14 a b c d).val
def bIS(a:Int)(b:Int)(c:Int)(d:Int):Bool:=hid (a14 a b c d).okv
def q311:=TD (fun a b c d=>M4 a b c d (bIR a b c d)) bIS
theorem bZJ:cG 100311 q311:=CH fun a b c d hk=>tz aOV (a14 a b c d) (M4 a b c d) hk
def Q311:=aT 100311 q311 Q259
theorem aOW:QO Q311:=aC bZJ aOV
def aJB(a:Int)(b:Int)(c:Int)(d:Int):Pt (Int):=(ot (.ok ((aCT a 0 c d)&&true) (ot (ot (ot (.leaf (cD (aD (Z9 a 0 c d).2 15) (aD b 16))))))))
def R0(a:Int)(b:Int)(c:Int)(d:Int):Int:=hid (aJB a b c d).val
def bIT(a:Int)(b:Int)(c:Int)(d:Int):Bool:=hid (aJB a b c d).okv
def q312:=TD (fun a b c d=>a86 a b c d (R0 a b c d)) bIT
theorem bZK:cG 100312 q312:=CH fun a b c d hk=>tz aOW (aJB a b c d) (a86 a b c d) hk
def Q312:=aT 100312 q312 Q311
theorem aOX:QO Q312:=aC bZK aOW
section
variable(b:aF)(a:aL)
def yA:Bool:=(((bM (cC b.Size b.Ea a).1 true)&&(bM (cC b.Size b.Ea a).1 true))&&true)
def vY:Bool:=(aK (cC b.Size b.Ea a).1.fr true)
def fL:Bool:=(bif (cV b.Op 3)then(cV b.Op 4)else false)
def pN:Bool:=((vY b a)&&((vY b a)&&true))
def vZ:aG:=(IZ {(cC b.Size b.Ea a).1.fr with Flags:=(bif (fL b)then(eZ b.Size (cC b.Size b.Ea a).1.fr.Flags (cC b.Size b.Ea a).2.1)else(cC b.Size b.Ea a).1.fr.Flags)} b.Size b.Reg (cC b.Size b.Ea a).2.1)
def jJ:Bool:=(bH (cC b.Size b.Ea a).1.fbus true)
def jK:Int:=(a0V (cC b.Size b.Ea a).1.fr b.Size b.Reg)
def lS:Int×Int:=(bIR b.Size 0 (jK b a) (cC b.Size b.Ea a).2.1)
def v4:aG:=(IZ {(cC b.Size b.Ea a).1.fr with Flags:=(bif (fL b)then(eZ b.Size (lS b a).2 (lS b a).1)else(lS b a).2)} b.Size b.Reg (lS b a).1)
def lT:Int×Int:=(Z9 b.Size 0 (jK b a) (cC b.Size b.Ea a).2.1)
def qR:aG:=(IZ {(cC b.Size b.Ea a).1.fr with Flags:=(bif (fL b)then(eZ b.Size (lT b a).2 (lT b a).1)else(lT b a).2)} b.Size b.Reg (lT b a).1)
def nW:Int:=(aD (jK b a) (cC b.Size b.Ea a).2.1)
def qT:aG:=(IZ {(cC b.Size b.Ea a).1.fr with Flags:=(bif (fL b)then(eZ b.Size (cC b.Size b.Ea a).1.fr.Flags (nW b a))else(cC b.Size b.Ea a).1.fr.Flags)} b.Size b.Reg (nW b a))
def nX:Int:=(cD (jK b a) (cC b.Size b.Ea a).2.1)
def qU:aG:=(IZ {(cC b.Size b.Ea a).1.fr with Flags:=(bif (fL b)then(eZ b.Size (cC b.Size b.Ea a).1.fr.Flags (nX b a))else(cC b.Size b.Ea a).1.fr.Flags)} b.Size b.Reg (nX b a))
def nY:Int:=(oR (jK b a) (cC b.Size b.Ea a).2.1)
def qV:aG:=(IZ {(cC b.Size b.Ea a).1.fr with Flags:=(bif (fL b)then(eZ b.Size (cC b.Size b.Ea a).1.fr.Flags (nY b a))else(cC b.Size b.Ea a).1.fr.Flags)} b.Size b.Reg (nY b a))
def qW:aG:=(IZ {(cC b.Size b.Ea a).1.fr with Flags:=(bif (fL b)then(eZ b.Size (cC b.Size b.Ea a).1.fr.Flags (jK b a))else(cC b.Size b.Ea a).1.fr.Flags)} b.Size b.Reg (jK b a))
end
def a15(b:aF)(a:aL):Pt (aL):=(ot (.ok ((cM a (aSX b.Size b.Ea a))&&true) (.ok ((cM (cC b.Size b.Ea a).1 (GV (cC b.Size b.Ea a).1))&&true) (.br (!(GU (cC b.Size b.Ea a).1)) (.ok (yA b a) (.leaf (cC b.Size b.Ea a).1)) (.ok ((((vY b a)&&true)&&(a0W (cC b.Size b.Ea a).1.fr b.Size b.Reg))&&true) (ot (ot (ot (.br (eqI b.Op 1) (ot (ot (.ok ((((CV b.Size (cC b.Size b.Ea a).1.fr.Flags (cC b.Size b.Ea a).2.1)&&true)||(!(fL b)))&&true) (ot (.ok ((((pN b a)&&(aK (cC b.Size b.Ea a).1.fr (I0 {(cC b.Size b.Ea a).1.fr with Flags:=(bif (fL b)then(eZ b.Size (cC b.Size b.Ea a).1.fr.Flags (cC b.Size b.Ea a).2.1)else(cC b.Size b.Ea a).1.fr.Flags)} b.Size b.Reg (cC b.Size b.Ea a).2.1)))&&true)&&true) (.ok (((aK (vZ b a) (jJ b a))&&(aK (vZ b a) (jJ b a)))&&true) (.leaf {(cC b.Size b.Ea a).1 with fr:=(vZ b a)}))))))) (ot (.br (eqI b.Op 3) (.ok ((bIS b.Size 0 (jK b a) (cC b.Size b.Ea a).2.1)&&true) (ot (.ok ((((CV b.Size (lS b a).2 (lS b a).1)&&true)||(!(fL b)))&&true) (ot (.ok ((((pN b a)&&(aK (cC b.Size b.Ea a).1.fr (I0 {(cC b.Size b.Ea a).1.fr with Flags:=(bif (fL b)then(eZ b.Size (lS b a).2 (lS b a).1)else(lS b a).2)} b.Size b.Reg (lS b a).1)))&&true)&&true) (.ok (((aK (v4 b a) (jJ b a))&&(aK (v4 b a) (jJ b a)))&&true) (.leaf {(cC b.Size b.Ea a).1 with fr:=(v4 b a)}))))))) (ot (.br (eqI b.Op 4) (.ok ((aCT b.Size 0 (jK b a) (cC b.Size b.Ea a).2.1)&&true) (ot (.ok ((((CV b.Size (lT b a).2 (lT b a).1)&&true)||(!(fL b)))&&true) (ot (.ok ((((pN b a)&&(aK (cC b.Size b.Ea a).1.fr (I0 {(cC b.Size b.Ea a).1.fr with Flags:=(bif (fL b)then(eZ b.Size (lT b a).2 (lT b a).1)else(lT b a).2)} b.Size b.Reg (lT b a).1)))&&true)&&true) (.ok (((aK (qR b a) (jJ b a))&&(aK (qR b a) (jJ b a)))&&true) (.leaf {(cC b.Size b.Ea a).1 with fr:=(qR b a)}))))))) (ot (.br (eqI b.Op 5) (ot (ot (.ok ((((CV b.Size (cC b.Size b.Ea a).1.fr.Flags (nW b a))&&true)||(!(fL b)))&&true) (ot (.ok ((((pN b a)&&(aK (cC b.Size b.Ea a).1.fr (I0 {(cC b.Size b.Ea a).1.fr with Flags:=(bif (fL b)then(eZ b.Size (cC b.Size b.Ea a).1.fr.Flags (nW b a))else(cC b.Size b.Ea a).1.fr.Flags)} b.Size b.Reg (nW b a))))&&true)&&true) (.ok (((aK (qT b a) (jJ b a))&&(aK (qT b a) (jJ b a)))&&true) (.leaf {(cC b.Size b.Ea a).1 with fr:=(qT b a)}))))))) (ot (.br (eqI b.Op 6) (ot (ot (.ok ((((CV b.Size (cC b.Size b.Ea a).1.fr.Flags (nX b a))&&true)||(!(fL b)))&&true) (ot (.ok ((((pN b a)&&(aK (cC b.Size b.Ea a).1.fr (I0 {(cC b.Size b.Ea a).1.fr with Flags:=(bif (fL b)then(eZ b.Size (cC b.Size b.Ea a).1.fr.Flags (nX b a))else(cC b.Size b.Ea a).1.fr.Flags)} b.Size b.Reg (nX b a))))&&true)&&true) (.ok (((aK (qU b a) (jJ b a))&&(aK (qU b a) (jJ b a)))&&true) (.leaf {(cC b.Size b.Ea a).1 with fr:=(qU b a)}))))))) (ot (.br (eqI b.Op 7) (ot (ot (.ok ((((CV b.Size (cC b.Size b.Ea a).1.fr.Flags (nY b a))&&true)||(!(fL b)))&&true) (ot (.ok ((((pN b a)&&(aK (cC b.Size b.Ea a).1.fr (I0 {(cC b.Size b.Ea a).1.fr with Flags:=(bif (fL b)then(eZ b.Size (cC b.Size b.Ea a).1.fr.Flags (nY b a))else(cC b.Size b.Ea a).1.fr.Flags)} b.Size b.Reg (nY b a))))&&true)&&true) (.ok (((aK (qV b a) (jJ b a))&&(aK (qV b a) (jJ b a)))&&true) (.leaf {(cC b.Size b.Ea a).1 with fr:=(qV b a)}))))))) (ot (.br (eqI b.Op 8) (.ok ((bIT b.Size (cC b.Size b.Ea a).1.fr.Flags (jK b a) (cC b.Size b.Ea a).2.1)&&true) (.ok (yA b a) (.leaf {(cC b.Size b.Ea a).1 with fr:={(cC b.Size b.Ea a).1.fr with Flags:=(R0 b.Size (cC b.Size b.Ea a).1.fr.Flags (jK b a) (cC b.Size b.Ea a).2.1)}}))) (ot (.ok ((((CV b.Size (cC b.Size b.Ea a).1.fr.Flags (jK b a))&&true)||(!(fL b)))&&true) (ot (.ok ((((pN b a)&&(aK (cC b.Size b.Ea a).1.fr (I0 {(cC b.Size b.Ea a).1.fr with Flags:=(bif (fL b)then(eZ b.Size (cC b.Size b.Ea a).1.fr.Flags (jK b a))else(cC b.Size b.Ea a).1.fr.Flags)} b.Size b.Reg (jK b a))))&&true)&&true) (.ok (((aK (qW b a) (jJ b a))&&(aK (qW b a) (jJ b a)))&&true) (.leaf {(cC b.Size b.Ea a).1 with fr:=(qW b a)})))))))))))))))))))))))))))
def a16(b:aF)(a:aL):aL:=hid (a15 b a).val
def bIU(b:aF)(a:aL):Bool:=hid (a15 b a).okv
def q260:=aIS (fun b a=>TH b a (a16 b a)) bIU
theorem bZL:cG 260 q260:=RW fun b a hk=>tc aOX (a15 b a) (TH b a) hk
def Q260:=aT 260 q260 Q312
theorem aOY:QO Q260:=aC bZL aOX
section
variable(b:aF)(a:aL)
def iM:List Row:=(List.set (cC 2 b.Ea a).1.fr.A (0+(iN b.Reg)) (aU (cC 2 b.Ea a).2.1))
def iO:Bool:=((e1 (ln (cC 2 b.Ea a).1.fr.D))&&((eD (ln (cC 2 b.Ea a).1.fr.A) (ln (iM b a)))&&(bH (cC 2 b.Ea a).1.fbus true)))
def iP:List Row:=(List.set (hZ 2 b.Ea a).1.fr.A (0+(iN b.Reg)) (aU (hZ 2 b.Ea a).2))
def iQ:Bool:=((e1 (ln (hZ 2 b.Ea a).1.fr.D))&&((eD (ln (hZ 2 b.Ea a).1.fr.A) (ln (iP b a)))&&(bH (hZ 2 b.Ea a).1.fbus true)))
def iR:Bool:=(((aK a.fr true)&&true)&&(a0W a.fr b.Size b.Reg))
def gL:Int:=(a0V a.fr b.Size b.Reg)
def gM:aL:=(a09 b.Size b.Ea (hZ b.Size b.Ea a).2 (gL b a) (hZ b.Size b.Ea a).1)
def iS:Bool:=((aK a.fr true)&&((aK a.fr true)&&true))
def hY:Int×Int:=(TI b.Sub b.Size a.fr.Flags (gL b a) (aV b.Ea.Reg 1))
def iT:aG:=(IZ {a.fr with Flags:=(hY b a).2} b.Size b.Reg (hY b a).1)
def fN:Bool:=(aK (iT b a) (bH a.fbus true))
def fO:Bool:=(aK (aI3 a.fr b.Ea.Ext) (bH a.fbus true))
def fP:List Row:=(List.set a.fr.D (0+(iN b.Reg)) (aU (bIP a.fr)))
def fQ:Bool:=((eD (ln a.fr.D) (ln (fP b a)))&&((e1 (ln a.fr.A))&&(bH a.fbus true)))
end
def a17(b:aF)(c:Int)(a:aL):Pt (aL):=(ot (ot (ot (.br (eqI b.Op 9) (.ok ((cM a (aSX 2 b.Ea a))&&true) (.ok ((cM (cC 2 b.Ea a).1 (GV (cC 2 b.Ea a).1))&&true) (.br (GU (cC 2 b.Ea a).1) (.ok ((((leI 0 b.Reg)&&(ltI b.Reg (bL (cC 2 b.Ea a).1.fr.A)))&&(((blt (0+(iN b.Reg)) (ln (cC 2 b.Ea a).1.fr.A))&&(jT (jU (cC 2 b.Ea a).1.fr.A (0+(iN b.Reg))) 1))&&true))&&true) (.ok ((((bM (cC 2 b.Ea a).1 true)&&(iO b a))&&true)&&((iO b a)&&true)) (.leaf {(cC 2 b.Ea a).1 with fr:={(cC 2 b.Ea a).1.fr with A:=(iM b a)}}))) (.ok (dd (bM (cC 2 b.Ea a).1 true) ((bM (cC 2 b.Ea a).1 true)&&true)) (.leaf (cC 2 b.Ea a).1))))) (ot (.br (eqI b.Op 10) (.ok ((cM a (aSY 2 b.Ea a))&&true) (.ok ((((leI 0 b.Reg)&&(ltI b.Reg (bL (hZ 2 b.Ea a).1.fr.A)))&&(((blt (0+(iN b.Reg)) (ln (hZ 2 b.Ea a).1.fr.A))&&(jT (jU (hZ 2 b.Ea a).1.fr.A (0+(iN b.Reg))) 1))&&true))&&true) (.ok ((((bM (hZ 2 b.Ea a).1 true)&&(iQ b a))&&true)&&((iQ b a)&&true)) (.leaf {(hZ 2 b.Ea a).1 with fr:={(hZ 2 b.Ea a).1.fr with A:=(iP b a)}})))) (ot (.br (eqI b.Op 2) (.ok ((iR b a)&&true) (.ok ((cM a (aSY b.Size b.Ea a))&&true) (.ok ((cM (hZ b.Size b.Ea a).1 (a1A b.Size b.Ea (hZ b.Size b.Ea a).2 (gL b a) (hZ b.Size b.Ea a).1))&&true) (.ok (((CV b.Size (gM b a).fr.Flags (gL b a))&&true)&&true) (.ok (dd (bM (gM b a) true) ((bM (gM b a) true)&&true)) (.leaf {(gM b a)with fr:={(gM b a).fr with Flags:=(eZ b.Size (gM b a).fr.Flags (gL b a))}})))))) (ot (.br (eqI b.Op 11) (.ok ((cM a (bH7 b a))&&true) (.ok (dd (bM (a1E b a) true) ((bM (a1E b a) true)&&true)) (.leaf (a1E b a)))) (ot (.br (eqI b.Op 12) (.ok ((iR b a)&&((bAL b.Sub b.Size a.fr.Flags (gL b a) (aV b.Ea.Reg 1))&&true)) (ot (.ok ((((iS a)&&(aK a.fr (I0 {a.fr with Flags:=(hY b a).2} b.Size b.Reg (hY b a).1)))&&true)&&true) (.ok (dd (fN b a) ((fN b a)&&true)) (.leaf {a with fr:=(iT b a)}))))) (ot (ot (.br (bif (eqI b.Op 13)then(eqI b.Op 13)else(eqI b.Op 14)) (.ok ((cM a (bID b c a))&&true) (.ok (dd (bM (a1L b c a) true) ((bM (a1L b c a) true)&&true)) (.leaf (a1L b c a)))) (ot (.br (eqI b.Op 15) (.ok ((cM a (bIK b a))&&true) (.ok (dd (bM (a1V b a) true) ((bM (a1V b a) true)&&true)) (.leaf (a1V b a)))) (ot (ot (.br (bif (eqI b.Op 16)then(eqI b.Op 16)else(eqI b.Op 17)) (.ok ((cM a (bIL b a))&&true) (.ok (dd (bM (a1X b a) true) ((bM (a1X b a) true)&&true)) (.leaf (a1X b a)))) (ot (.br (eqI b.Op 18) (.ok ((cM a (bIO b a))&&true) (.ok (dd (bM (a12 b a) true) ((bM (a12 b a) true)&&true)) (.leaf (a12 b a)))) (ot (.br (eqI b.Op 19) (ot (.br (eqI b.Sub 0) (.ok ((((iS a)&&(aK a.fr (a1P a.fr b.Ea.Ext)))&&true)&&true) (.ok (dd (fO b a) ((fO b a)&&true)) (.leaf {a with fr:=(aI3 a.fr b.Ea.Ext)}))) (.ok (((((aK a.fr true)&&true)&&(bIQ a.fr))&&(((leI 0 b.Reg)&&(ltI b.Reg (bL a.fr.D)))&&(((blt (0+(iN b.Reg)) (ln a.fr.D))&&(jT (jU a.fr.D (0+(iN b.Reg))) 1))&&true)))&&true) (.ok ((((bM a true)&&(fQ b a))&&true)&&((fQ b a)&&true)) (.leaf {a with fr:={a.fr with D:=(fP b a)}}))))) (.ok ((cM a (bIU b a))&&true) (.ok (dd (bM (a16 b a) true) ((bM (a16 b a) true)&&true)) (.leaf (a16 b a))))))))))))))))))))))))))))
def bIV(b:aF)(c:Int)(a:aL):aL:=hid (a17 b c a).val
def bIW(b:aF)(c:Int)(a:aL):Bool:=hid (a17 b c a).okv
def q185:=bAO (fun b c a=>bAP b c a (bIV b c a)) bIW
theorem bZM:cG 185 q185:=a1J fun b c a hk=>tcx aOY [(1000001,[])] [] true (a17 b c a) (bAP b c a) hk
def Q185:=aT 185 q185 Q260
theorem aOZ:QO Q185:=aC bZM aOY
section
variable(a:aL)
def aAH:aH:=(aCS (aH.mk a.fr a.fbus a.fstop false))
end
def a18(a:aL):Pt (aH):=(ot (.ok (((((bM a true)&&true)&&(a94 (aH.mk a.fr a.fbus a.fstop false)))&&true)&&true) (.ok (((bM a true)&&(bM a (aS (aAH a) true)))&&((aS (aAH a) true)&&true)) (.leaf (aAH a)))))
def I2(a:aL):aH:=hid (a18 a).val
def TJ(a:aL):Bool:=hid (a18 a).okv
def bOC(a:aL)(r:aH):SV×List Blk:=((.agg [.sl 5 0 (ln r.R.D), .sl 6 0 (ln r.R.A),li r.R.Other,li r.R.PC,li r.R.Flags,li r.R.Mask, .lit (.bool r.R.Super), .lit (.bool r.R.Trace), .sl 7 0 (ln r.Bus.Bytes), .sl 8 0 (ln r.Bus.Log), .lit (.bool r.Stop), .lit (.bool r.Halt)]),[.box [.sl 1 0 (ln a.fr.D), .sl 2 0 (ln a.fr.A),li a.fr.Other,li a.fr.PC,li a.fr.Flags,li a.fr.Mask, .lit (.bool a.fr.Super), .lit (.bool a.fr.Trace), .sl 3 0 (ln a.fbus.Bytes), .sl 4 0 (ln a.fbus.Log), .lit (.bool a.fstop),li a.ffault.Vector,li a.ffault.PC,li a.ffault.Addr,li a.ffault.Word, .lit (.bool a.ffault.Write)], .lst 1 a.fr.D, .lst 1 a.fr.A, .lst 1 a.fbus.Bytes, .lst 5 a.fbus.Log, .lst 1 r.R.D, .lst 1 r.R.A, .lst 1 r.Bus.Bytes, .lst 5 r.Bus.Log])
def q187:=a04 (fun a=>bOC a (I2 a)) TJ
theorem bZN:cG 187 q187:=aIK fun a hk=>tc aOZ (a18 a) (bOC a) hk
def Q187:=aT 187 q187 Q185
theorem aO0:QO Q187:=aC bZN aOZ
section
variable(a:aH)(b:aF)(c:Int)
def I3:bO:=(bO.mk 8 c (qC a).ffault.Addr (bD (D2 b) 0 0) (qC a).ffault.Write)
def I4:aL:={(qC a)with ffault:=(I3 a b c)}
def VI:aH:=(I2 {(qC a)with fr:={(qC a).fr with Flags:=a.R.Flags},ffault:=(I3 a b c)})
def VJ:Bool:=(((dd (aK (D5 a.R) (bH (qC a).fbus true)) (aK (D5 a.R) (bH (qC a).fbus (TJ (aL.mk (D5 a.R) (qC a).fbus a.Stop (I3 a b c))))))&&true)&&true)
def aCW:Bool:=(((s1 true)&&(r1 a.R.D))&&(((s1 true)&&(r1 a.R.A))&&((s1 a.R.Other)&&((s1 a.R.PC)&&((s1 a.R.Flags)&&((s1 a.R.Mask)&&((s1 a.R.Super)&&((s1 a.R.Trace)&&(((s1 true)&&(r1 a.Bus.Bytes))&&(((s1 true)&&(r1 a.Bus.Log))&&((s1 a.Stop)&&((s1 a.Halt)&&true))))))))))))
def ML:aH:=(I2 (aL.mk (D5 a.R) (qC a).fbus a.Stop (I3 a b c)))
def aCX:Bool:=((s1 (8:Int))&&((s1 c)&&((s1 (qC a).ffault.Addr)&&((s1 (bD (D2 b) 0 0))&&((s1 (qC a).ffault.Write)&&true)))))
def aCY:Bool:=((aCW a)&&((rL b true)&&((pH (ML a b c) true)&&((aCX a b c)&&((jV (D5 a.R) (dP (qC a).fbus ((s1 a.Stop)&&(aCX a b c))))&&((r1 (D2 b))&&(kH (qC a).fr (kH (D5 a.R) (dI (qC a).fbus (xL (ML a b c) true))))))))))
def kS:aL:=(bIV b c {(qC a)with fr:={(qC a).fr with PC:=(aD (aV c (dB 2 (bL (D2 b)))) 65535)},ffault:={(qC a).ffault with PC:=c,Word:=(bD (D2 b) 0 0)}})
def VK:aH:=(I2 {(kS a b c)with fr:={(kS a b c).fr with Flags:=a.R.Flags}})
def LF:Bool:=(((dd (aK (D5 a.R) (bH (kS a b c).fbus true)) (aK (D5 a.R) (bH (kS a b c).fbus (TJ {(kS a b c)with fr:=(D5 a.R),fstop:=a.Stop}))))&&true)&&true)
def C3:aH:=(I2 {(kS a b c)with fr:=(D5 a.R),fstop:=a.Stop})
def R1:Bool:=((aCW a)&&((rL b true)&&((pH (C3 a b c) true)&&((sW (kS a b c).ffault true)&&((jV (D5 a.R) (dP (kS a b c).fbus ((s1 a.Stop)&&(sW (kS a b c).ffault true))))&&((r1 (D2 b))&&(kH (kS a b c).fr (kH (D5 a.R) (dI (kS a b c).fbus (xL (C3 a b c) true))))))))))
end
def T93(a:aH)(b:aF)(c:Int)(d:Bool):Pt (aH×bO):=(ot (.ok ((a95 a)&&true) (.ok ((aWQ b)&&true) (ot (.ok ((ltI 0 (bL (D2 b)))&&((dM [.int .i64] (D2 b) 0 0)&&true)) (.ok ((bHV b)&&true) (.br (bif (bHU b)then(!(qC a).fr.Super)else false) (ot (.ok ((cM (qC a) (GV (I4 a b c)))&&true) (.br (GU (I4 a b c)) (ot (.br d (ot (.ok ((cM (qC a) (TJ {(qC a)with fr:={(qC a).fr with Flags:=a.R.Flags},ffault:=(I3 a b c)}))&&true) (.ok ((aS (VI a b c) true)&&((aS (VI a b c) true)&&true)) (.leaf ((VI a b c),(bO.mk 0 0 0 0 false)))))) (.ok ((cM (qC a) (TJ (I4 a b c)))&&true) (.ok ((aS (I2 (I4 a b c)) true)&&((aS (I2 (I4 a b c)) true)&&true)) (.leaf ((I2 (I4 a b c)),(bO.mk 0 0 0 0 false))))))) (.ok ((a0J a.R)&&true) (ot (.ok ((VJ a b c)&&(((VJ a b c)&&((VJ a b c)&&(aCY a b c)))&&(aCY a b c))) (.ok ((aS (ML a b c) true)&&((aS (ML a b c) true)&&true)) (.leaf ((ML a b c),(I3 a b c)))))))))) (.ok ((qN (0+(ln (D2 b))) (ln (D2 b)))&&true) (.ok ((cM (qC a) (bIW b c {(qC a)with fr:={(qC a).fr with PC:=(aD (aV c (dB 2 (bL (D2 b)))) 65535)},ffault:={(qC a).ffault with PC:=c,Word:=(bD (D2 b) 0 0)}}))&&true) (.ok ((cM (kS a b c) (GV (kS a b c)))&&true) (.br (GU (kS a b c)) (ot (.br d (ot (.ok ((cM (kS a b c) (TJ {(kS a b c)with fr:={(kS a b c).fr with Flags:=a.R.Flags}}))&&true) (.ok ((aS (VK a b c) true)&&((aS (VK a b c) true)&&true)) (.leaf ((VK a b c),(bO.mk 0 0 0 0 false)))))) (.ok ((cM (kS a b c) (TJ (kS a b c)))&&true) (.ok ((aS (I2 (kS a b c)) true)&&((aS (I2 (kS a b c)) true)&&true)) (.leaf ((I2 (kS a b c)),(bO.mk 0 0 0 0 false))))))) (.ok ((a0J a.R)&&true) (ot (.ok ((LF a b c)&&(((LF a b c)&&((LF a b c)&&(R1 a b c)))&&(R1 a b c))) (.ok ((aS (C3 a b c) true)&&((aS (C3 a b c) true)&&true)) (.leaf ((C3 a b c),(kS a b c).ffault)))))))))))))))))
def g93(a:aH)(b:aF)(c:Int)(d:Bool):aH×bO:=hid (T93 a b c d).val
def k93(a:aH)(b:aF)(c:Int)(d:Bool):Bool:=hid (T93 a b c d).okv
def n93(a:aH)(b:aF)(c:Int)(d:Bool)(r:aH×bO):SV×List Blk:=((.tup [(.agg [.sl 0 0 (ln r.1.R.D), .sl 1 0 (ln r.1.R.A),li r.1.R.Other,li r.1.R.PC,li r.1.R.Flags,li r.1.R.Mask, .lit (.bool r.1.R.Super), .lit (.bool r.1.R.Trace), .sl 2 0 (ln r.1.Bus.Bytes), .sl 3 0 (ln r.1.Bus.Log), .lit (.bool r.1.Stop), .lit (.bool r.1.Halt)]),(.agg [li r.2.Vector,li r.2.PC,li r.2.Addr,li r.2.Word, .lit (.bool r.2.Write)])]),[.lst 1 r.1.R.D, .lst 1 r.1.R.A, .lst 1 r.1.Bus.Bytes, .lst 5 r.1.Bus.Log])
def q93:=aZ6 (fun a b c d=>n93 a b c d (g93 a b c d)) k93
theorem t93:cG 93 q93:=aHV fun a b c d hk=>tc aO0 (T93 a b c d) (n93 a b c d) hk
def Q93:=aT 93 q93 Q187
theorem a2A:QO Q93:=aC t93 aO0
section
variable(a:aH)(b:aF)(c:Int)(d:Bool)
def VL:Bool:=(bif (bif (!(g90 a))then true else a.Stop)then true else a.Halt)
def VM:Bool:=(bif (VL a)then true else(!(HF b)))
def aCZ:Bool:=((((s1 true)&&(r1 a.R.D))&&(((s1 true)&&(r1 a.R.A))&&((s1 a.R.Other)&&((s1 a.R.PC)&&((s1 a.R.Flags)&&((s1 a.R.Mask)&&((s1 a.R.Super)&&((s1 a.R.Trace)&&(((s1 true)&&(r1 a.Bus.Bytes))&&(((s1 true)&&(r1 a.Bus.Log))&&((s1 a.Stop)&&((s1 a.Halt)&&true))))))))))))&&((rL b true)&&((pH (g93 a b c d).1 true)&&((sW (g93 a b c d).2 true)&&(xL (g93 a b c d).1 ((pH (g93 a b c d).1 true)&&((sW (g93 a b c d).2 true)&&true)))))))
def VN:Bool:=((aS (g93 a b c d).1 true)&&true)
end
def T12(a:aH)(b:aF)(c:Int)(d:Bool):Pt (aH×bO×Bool):=(ot (.ok ((k90 a)&&((((HG b)&&true)||(VL a))&&((((k92 c)&&true)||(VM a b))&&true))) (.br (bif (VM a b)then true else(!(g92 c))) (ot (ot (ot (.leaf ((aH.mk (aG.mk [] [] 0 0 0 0 false false) (bG.mk [] []) false false),(bO.mk 0 0 0 0 false),false))))) (.ok ((k93 a b c d)&&true) (.ok (((s1 true)&&true)&&(aCZ a b c d)) (.ok ((aS (g93 a b c d).1 true)&&(VN a b c d)) (.ok (VN a b c d) (.leaf ((g93 a b c d).1,(g93 a b c d).2,true)))))))))
def g12(a:aH)(b:aF)(c:Int)(d:Bool):aH×bO×Bool:=hid (T12 a b c d).val
def k12(a:aH)(b:aF)(c:Int)(d:Bool):Bool:=hid (T12 a b c d).okv
def q12:=aZ6 (fun a b c d=>n11 a b c d (g12 a b c d)) k12
theorem t12:cG 100012 q12:=aHV fun a b c d hk=>tz a2A (T12 a b c d) (n11 a b c d) hk
def Q12:=aT 100012 q12 Q93
theorem a2B:QO Q12:=aC t12 a2A
def T94(a:aF):Pt (Int):=(ot (ot (ot (ot (ot (.br (bif (eqI a.Op 1)then(eqI a.Op 1)else(bif (eqI a.Op 2)then(eqI a.Op 2)else(bif (eqI a.Op 5)then(eqI a.Op 5)else(bif (eqI a.Op 6)then(eqI a.Op 6)else(bif (eqI a.Op 7)then(eqI a.Op 7)else(bif (eqI a.Op 8)then(eqI a.Op 8)else(bif (eqI a.Op 16)then(eqI a.Op 16)else(eqI a.Op 17)))))))) (ot (ot (ot (.leaf 15)))) (ot (ot (.br (bif (eqI a.Op 3)then(eqI a.Op 3)else(eqI a.Op 4)) (ot (ot (ot (.leaf 31)))) (ot (.br (eqI a.Op 11) (ot (.br (eqI a.Sub 1) (ot (ot (ot (.leaf 31)))) (ot (ot (ot (.leaf 15)))))) (ot (.br (eqI a.Op 12) (ot (.br (bif (eqI a.Sub 4)then true else(eqI a.Sub 5)) (ot (ot (ot (.leaf 15)))) (ot (ot (ot (.leaf 31)))))) (ot (.br (eqI a.Op 18) (ot (ot (ot (.leaf 27)))) (ot (.br (eqI a.Op 15) (ot (ot (ot (.br (bif (eqI a.Sub 5)then(eqI a.Sub 5)else(eqI a.Sub 6)) (ot (ot (ot (.leaf 15)))) (ot (ot (.br (bif (eqI a.Sub 1)then(eqI a.Sub 1)else(eqI a.Sub 3)) (ot (ot (ot (.leaf 31)))) (ot (ot (ot (.leaf 0))))))))))) (ot (.br (eqI a.Op 19) (ot (.br (eqI a.Sub 0) (ot (ot (ot (.leaf 31)))) (ot (ot (ot (.leaf 0)))))) (ot (ot (ot (.leaf 0)))))))))))))))))))))))
def g94(a:aF):Int:=hid (T94 a).val
def k94(a:aF):Bool:=hid (T94 a).okv
def n94(a:aF)(r:Int):SV×List Blk:=((.one (li r)),[])
def q94:=HE (fun a=>n94 a (g94 a)) k94
theorem t94:cG 100094 q94:=kD fun a hk=>tz a2B (T94 a) (n94 a) hk
def Q94:=aT 100094 q94 Q12
theorem a2C:QO Q94:=aC t94 a2B
def T13(a:aF):Pt (Int×Bool):=(ot (.ok ((k86 a)&&true) (.br (!(g86 a)) (ot (ot (ot (.leaf (0,false))))) (.ok ((k94 a)&&true) (ot (ot (.leaf ((g94 a),true))))))))
def g13(a:aF):Int×Bool:=hid (T13 a).val
def k13(a:aF):Bool:=hid (T13 a).okv
def n13(a:aF)(r:Int×Bool):SV×List Blk:=((.tup [(.one (li r.1)),(.one (.lit (.bool r.2)))]),[])
def q13:=HE (fun a=>n13 a (g13 a)) k13
theorem t13:cG 100013 q13:=kD fun a hk=>tz a2C (T13 a) (n13 a) hk
def Q13:=aT 100013 q13 Q94
theorem a2D:QO Q13:=aC t13 a2C
section
variable(a:aF)
def aO1:Bool:=(bif (cV a.Sub 4)then(cV a.Sub 5)else false)
def aO2:Bool:=(bif (eqI a.Sub 1)then true else(eqI a.Sub 3))
end
def T95(a:aF):Pt (Int):=(ot (ot (ot (ot (.br (bif (eqI a.Op 1)then(eqI a.Op 1)else(bif (eqI a.Op 2)then(eqI a.Op 2)else(bif (eqI a.Op 5)then(eqI a.Op 5)else(bif (eqI a.Op 6)then(eqI a.Op 6)else(bif (eqI a.Op 7)then(eqI a.Op 7)else(bif (eqI a.Op 8)then(eqI a.Op 8)else(bif (eqI a.Op 16)then(eqI a.Op 16)else(eqI a.Op 17)))))))) (ot (ot (ot (.leaf 15)))) (ot (ot (.br (bif (eqI a.Op 3)then(eqI a.Op 3)else(eqI a.Op 4)) (ot (ot (ot (.leaf 31)))) (ot (.br (eqI a.Op 11) (.ok ((rP (eqI a.Sub 1) 16)&&true) (ot (ot (.leaf (cD 15 (rO (eqI a.Sub 1) 16)))))) (ot (.br (eqI a.Op 12) (.ok ((rP (aO1 a) 16)&&true) (ot (ot (.leaf (cD 15 (rO (aO1 a) 16)))))) (ot (.br (eqI a.Op 18) (ot (ot (ot (.leaf 27)))) (ot (.br (eqI a.Op 15) (.ok ((rP (aO2 a) 31)&&((rP (jO a.Sub 5) 15)&&true)) (ot (ot (.leaf (cD (rO (aO2 a) 31) (rO (jO a.Sub 5) 15)))))) (ot (.br (eqI a.Op 19) (.ok ((rP (eqI a.Sub 0) 31)&&true) (ot (ot (.leaf (rO (eqI a.Sub 0) 31))))) (ot (ot (ot (.leaf 0))))))))))))))))))))))
def g95(a:aF):Int:=hid (T95 a).val
def k95(a:aF):Bool:=hid (T95 a).okv
def q95:=HE (fun a=>n94 a (g95 a)) k95
theorem t95:cG 100095 q95:=kD fun a hk=>tz a2D (T95 a) (n94 a) hk
def Q95:=aT 100095 q95 Q13
theorem a2E:QO Q95:=aC t95 a2D
def T14(a:aF):Pt (Int×Bool):=(ot (.ok ((HG a)&&true) (.br (!(HF a)) (ot (ot (ot (.leaf (0,false))))) (.ok ((k95 a)&&true) (ot (ot (.leaf ((g95 a),true))))))))
def g14(a:aF):Int×Bool:=hid (T14 a).val
def k14(a:aF):Bool:=hid (T14 a).okv
def q14:=HE (fun a=>n13 a (g14 a)) k14
theorem t14:cG 100014 q14:=kD fun a hk=>tz a2E (T14 a) (n13 a) hk
def Q14:=aT 100014 q14 Q95
theorem a2F:QO Q14:=aC t14 a2E
def a2G(a:Int):Pt (Int):=(ot (.ok (((leI 0 (kF a 2))&&(ltI (kF a 2) 8))&&((dM [.int .i64] [(aU 0),(aU 5),(aU 1),(aU 4),(aU 2),(aU 8),(aU 10),(aU 14)] (0+(iN (kF a 2))) 0)&&true)) (ot (ot (.leaf (bD [(aU 0),(aU 5),(aU 1),(aU 4),(aU 2),(aU 8),(aU 10),(aU 14)] (0+(iN (kF a 2))) 0))))))
def bAW(a:Int):Int:=hid (a2G a).val
def bAX(a:Int):Bool:=hid (a2G a).okv
def q190:=AZ (fun a=>wK a (bAW a)) bAX
theorem bZX:cG 100190 q190:=gX fun a hk=>tz a2F (a2G a) (wK a) hk
def Q190:=aT 100190 q190 Q14
theorem aO3:QO Q190:=aC bZX a2F
def T96(a:aF):Pt (Int):=(ot (ot (.br (eqI a.Op 13) (.ok ((bAX (aV a.Sub (dB 8 a.Reg)))&&true) (ot (ot (.leaf (bAW (aV a.Sub (dB 8 a.Reg))))))) (ot (.br (bif (eqI a.Op 12)then(jO a.Sub 6)else false) (ot (ot (ot (.leaf 16)))) (ot (.br (eqI a.Op 18) (ot (ot (ot (.leaf 20)))) (ot (.br (bif (eqI a.Op 19)then(eqI a.Sub 1)else false) (ot (ot (ot (.leaf 31)))) (ot (ot (ot (.leaf 0)))))))))))))
def g96(a:aF):Int:=hid (T96 a).val
def k96(a:aF):Bool:=hid (T96 a).okv
def q96:=HE (fun a=>n94 a (g96 a)) k96
theorem t96:cG 100096 q96:=kD fun a hk=>tz aO3 (T96 a) (n94 a) hk
def Q96:=aT 100096 q96 Q190
theorem a2H:QO Q96:=aC t96 aO3
def T15(a:aF):Pt (Int×Bool):=(ot (.ok ((k86 a)&&true) (.br (!(g86 a)) (ot (ot (ot (.leaf (0,false))))) (.ok ((k96 a)&&true) (ot (ot (.leaf ((g96 a),true))))))))
def g15(a:aF):Int×Bool:=hid (T15 a).val
def k15(a:aF):Bool:=hid (T15 a).okv
def q15:=HE (fun a=>n13 a (g15 a)) k15
theorem t15:cG 100015 q15:=kD fun a hk=>tz a2H (T15 a) (n13 a) hk
def Q15:=aT 100015 q15 Q96
theorem a2I:QO Q15:=aC t15 a2H
def a2J(a:Int):Pt (Int):=(ot (ot (ot (.br (eqI (aJ a 1) 2) (ot (ot (ot (.leaf 5)))) (ot (.br (eqI (aJ a 1) 4) (ot (ot (ot (.leaf 1)))) (ot (.br (eqI (aJ a 1) 6) (ot (ot (ot (.leaf 4)))) (ot (.br (eqI (aJ a 1) 8) (ot (ot (ot (.leaf 2)))) (ot (.br (eqI (aJ a 1) 10) (ot (ot (ot (.leaf 8)))) (ot (.br (eqI (aJ a 1) 12) (ot (ot (ot (.leaf 10)))) (ot (.br (eqI (aJ a 1) 14) (ot (ot (ot (.leaf 14)))) (ot (ot (ot (.leaf 0))))))))))))))))))))
def bAY(a:Int):Int:=hid (a2J a).val
def bAZ(a:Int):Bool:=hid (a2J a).okv
def q191:=AZ (fun a=>wK a (bAY a)) bAZ
theorem bZ1:cG 100191 q191:=gX fun a hk=>tz a2I (a2J a) (wK a) hk
def Q191:=aT 100191 q191 Q15
theorem aO4:QO Q191:=aC bZ1 a2I
def T97(a:aF):Pt (Int):=(ot (ot (ot (.br (eqI a.Op 13) (.ok ((bAZ (aV a.Sub (dB 8 a.Reg)))&&true) (ot (ot (.leaf (bAY (aV a.Sub (dB 8 a.Reg))))))) (ot (.br (eqI a.Op 12) (.ok ((rP (jO a.Sub 6) 16)&&true) (ot (ot (.leaf (rO (jO a.Sub 6) 16))))) (ot (.br (eqI a.Op 18) (ot (ot (ot (.leaf 20)))) (ot (.br (eqI a.Op 19) (.ok ((rP (eqI a.Sub 1) 31)&&true) (ot (ot (.leaf (rO (eqI a.Sub 1) 31))))) (ot (ot (ot (.leaf 0))))))))))))))
def g97(a:aF):Int:=hid (T97 a).val
def k97(a:aF):Bool:=hid (T97 a).okv
def q97:=HE (fun a=>n94 a (g97 a)) k97
theorem t97:cG 100097 q97:=kD fun a hk=>tz aO4 (T97 a) (n94 a) hk
def Q97:=aT 100097 q97 Q191
theorem a2K:QO Q97:=aC t97 aO4
def T16(a:aF):Pt (Int×Bool):=(ot (.ok ((HG a)&&true) (.br (!(HF a)) (ot (ot (ot (.leaf (0,false))))) (.ok ((k97 a)&&true) (ot (ot (.leaf ((g97 a),true))))))))
def g16(a:aF):Int×Bool:=hid (T16 a).val
def k16(a:aF):Bool:=hid (T16 a).okv
def q16:=HE (fun a=>n13 a (g16 a)) k16
theorem t16:cG 100016 q16:=kD fun a hk=>tz a2K (T16 a) (n13 a) hk
def Q16:=aT 100016 q16 Q97
theorem a2L:QO Q16:=aC t16 a2K
section
variable(a:aF)
def aO5:Bool:=(bif (eqI a.Op 2)then true else(bif (eqI a.Op 11)then(cV a.Sub 3)else false))
end
def T98(a:aF):Pt (Bool):=(ot (.ok ((((aXZ a.Ea.Mode)&&true)||(!(aO5 a)))&&true) (ot (ot (.leaf (bif (bif (aO5 a)then(aXY a.Ea.Mode)else false)then true else(bif (eqI a.Op 14)then(eqI a.Sub 1)else false)))))))
def g98(a:aF):Bool:=hid (T98 a).val
def k98(a:aF):Bool:=hid (T98 a).okv
def q98:=HE (fun a=>NF a (g98 a)) k98
theorem t98:cG 100098 q98:=kD fun a hk=>tz a2L (T98 a) (NF a) hk
def Q98:=aT 100098 q98 Q16
theorem a2M:QO Q98:=aC t98 a2L
def T17(a:aF):Pt (Bool×Bool):=(ot (.ok ((k86 a)&&true) (.br (!(g86 a)) (ot (ot (ot (.leaf (false,false))))) (.ok ((k98 a)&&true) (ot (ot (.leaf ((g98 a),true))))))))
def g17(a:aF):Bool×Bool:=hid (T17 a).val
def k17(a:aF):Bool:=hid (T17 a).okv
def n17(a:aF)(r:Bool×Bool):SV×List Blk:=((.tup [(.one (.lit (.bool r.1))),(.one (.lit (.bool r.2)))]),[])
def q17:=HE (fun a=>n17 a (g17 a)) k17
theorem t17:cG 100017 q17:=kD fun a hk=>tz a2M (T17 a) (n17 a) hk
def Q17:=aT 100017 q17 Q98
theorem a2N:QO Q17:=aC t17 a2M
def T99(a:aF):Pt (Bool):=(ot (ot (ot (.br (eqI a.Op 2) (.ok ((aRX a.Ea.Mode)&&true) (ot (ot (.leaf (aRW a.Ea.Mode))))) (ot (.br (eqI a.Op 11) (.ok ((((aRX a.Ea.Mode)&&true)||(!(ltI a.Sub 3)))&&true) (ot (ot (.leaf (bif (ltI a.Sub 3)then(aRW a.Ea.Mode)else false))))) (ot (.br (eqI a.Op 14) (ot (ot (ot (.leaf (eqI a.Sub 1))))) (ot (ot (ot (.leaf false))))))))))))
def g99(a:aF):Bool:=hid (T99 a).val
def k99(a:aF):Bool:=hid (T99 a).okv
def q99:=HE (fun a=>NF a (g99 a)) k99
theorem t99:cG 100099 q99:=kD fun a hk=>tz a2N (T99 a) (NF a) hk
def Q99:=aT 100099 q99 Q17
theorem a2O:QO Q99:=aC t99 a2N
def T18(a:aF):Pt (Bool×Bool):=(ot (.ok ((HG a)&&true) (.br (!(HF a)) (ot (ot (ot (.leaf (false,false))))) (.ok ((k99 a)&&true) (ot (ot (.leaf ((g99 a),true))))))))
def g18(a:aF):Bool×Bool:=hid (T18 a).val
def k18(a:aF):Bool:=hid (T18 a).okv
def q18:=HE (fun a=>n17 a (g18 a)) k18
theorem t18:cG 100018 q18:=kD fun a hk=>tz a2O (T18 a) (n17 a) hk
def Q18:=aT 100018 q18 Q99
theorem a2P:QO Q18:=aC t18 a2O
def a2Q(a:aF):Pt (Bool):=(ot (ot (ot (ot (.br (bif (eqI a.Op 17)then(eqI a.Op 17)else(eqI a.Op 18)) (ot (ot (ot (.leaf true)))) (ot (.br (eqI a.Op 15) (ot (ot (ot (.leaf (bif (bif (bif (eqI a.Sub 0)then true else(eqI a.Sub 1))then true else(eqI a.Sub 3))then true else(eqI a.Sub 4)))))) (ot (.br (eqI a.Op 19) (ot (ot (ot (.leaf (eqI a.Sub 0))))) (ot (ot (.br (bif (eqI a.Op 10)then(eqI a.Op 10)else(eqI a.Op 14)) (.ok ((k98 a)&&true) (ot (ot (.leaf (g98 a))))) (.ok ((aXZ a.Ea.Mode)&&true) (ot (ot (.leaf (aXY a.Ea.Mode)))))))))))))))))
def bIX(a:aF):Bool:=hid (a2Q a).val
def bIY(a:aF):Bool:=hid (a2Q a).okv
def q100:=HE (fun a=>NF a (bIX a)) bIY
theorem bZ9:cG 100100 q100:=kD fun a hk=>tz a2P (a2Q a) (NF a) hk
def Q100:=aT 100100 q100 Q18
theorem aO6:QO Q100:=aC bZ9 a2P
def T19(a:aF):Pt (Bool×Bool):=(ot (.ok ((k86 a)&&true) (.br (!(g86 a)) (ot (ot (ot (.leaf (false,false))))) (.ok ((bIY a)&&true) (ot (ot (.leaf ((bIX a),true))))))))
def g19(a:aF):Bool×Bool:=hid (T19 a).val
def k19(a:aF):Bool:=hid (T19 a).okv
def q19:=HE (fun a=>n17 a (g19 a)) k19
theorem t19:cG 100019 q19:=kD fun a hk=>tz aO6 (T19 a) (n17 a) hk
def Q19:=aT 100019 q19 Q100
theorem a2R:QO Q19:=aC t19 aO6
def a2S(a:aF):Pt (Bool):=(ot (ot (ot (.br (eqI a.Op 10) (ot (ot (ot (.leaf false)))) (ot (.br (eqI a.Op 14) (ot (ot (ot (.leaf (eqI a.Sub 1))))) (ot (ot (.br (bif (eqI a.Op 17)then(eqI a.Op 17)else(eqI a.Op 18)) (ot (ot (ot (.leaf true)))) (ot (.br (eqI a.Op 15) (ot (ot (ot (.leaf (bif (leI a.Sub 4)then(cV a.Sub 2)else false))))) (ot (.br (eqI a.Op 19) (ot (ot (ot (.leaf (eqI a.Sub 0))))) (.ok ((aRX a.Ea.Mode)&&true) (ot (ot (.leaf (aRW a.Ea.Mode))))))))))))))))))
def bIZ(a:aF):Bool:=hid (a2S a).val
def bI0(a:aF):Bool:=hid (a2S a).okv
def q101:=HE (fun a=>NF a (bIZ a)) bI0
theorem b0B:cG 100101 q101:=kD fun a hk=>tz a2R (a2S a) (NF a) hk
def Q101:=aT 100101 q101 Q19
theorem aO7:QO Q101:=aC b0B a2R
def T20(a:aF):Pt (Bool×Bool):=(ot (.ok ((HG a)&&true) (.br (!(HF a)) (ot (ot (ot (.leaf (false,false))))) (.ok ((bI0 a)&&true) (ot (ot (.leaf ((bIZ a),true))))))))
def g20(a:aF):Bool×Bool:=hid (T20 a).val
def k20(a:aF):Bool:=hid (T20 a).okv
def q20:=HE (fun a=>n17 a (g20 a)) k20
theorem t20:cG 100020 q20:=kD fun a hk=>tz aO7 (T20 a) (n17 a) hk
def Q20:=aT 100020 q20 Q101
theorem a2T:QO Q20:=aC t20 aO7
def a2U(a:aF):Pt (Bool):=(ot (ot (ot (ot (.br (bif (eqI a.Op 13)then(eqI a.Op 13)else(eqI a.Op 14)) (ot (ot (ot (.leaf false)))) (ot (.br (eqI a.Op 15) (ot (ot (ot (.leaf (bif (bif (eqI a.Sub 2)then true else(eqI a.Sub 5))then true else(eqI a.Sub 6)))))) (ot (.br (eqI a.Op 19) (ot (ot (ot (.leaf (cV a.Sub 0))))) (ot (ot (ot (.leaf true)))))))))))))
def bI1(a:aF):Bool:=hid (a2U a).val
def bI2(a:aF):Bool:=hid (a2U a).okv
def q102:=HE (fun a=>NF a (bI1 a)) bI2
theorem b0D:cG 100102 q102:=kD fun a hk=>tz a2T (a2U a) (NF a) hk
def Q102:=aT 100102 q102 Q20
theorem aO8:QO Q102:=aC b0D a2T
def T21(a:aF):Pt (Bool×Bool):=(ot (.ok ((k86 a)&&true) (.br (!(g86 a)) (ot (ot (ot (.leaf (false,false))))) (.ok ((bI2 a)&&true) (ot (ot (.leaf ((bI1 a),true))))))))
def g21(a:aF):Bool×Bool:=hid (T21 a).val
def k21(a:aF):Bool:=hid (T21 a).okv
def q21:=HE (fun a=>n17 a (g21 a)) k21
theorem t21:cG 100021 q21:=kD fun a hk=>tz aO8 (T21 a) (n17 a) hk
def Q21:=aT 100021 q21 Q102
theorem a2V:QO Q21:=aC t21 aO8
def a2W(a:aF):Pt (Bool):=(ot (ot (ot (ot (.br (bif (eqI a.Op 13)then(eqI a.Op 13)else(eqI a.Op 14)) (ot (ot (ot (.leaf false)))) (ot (.br (eqI a.Op 15) (ot (ot (ot (.leaf (bif (bif (eqI a.Sub 2)then true else(eqI a.Sub 5))then true else(eqI a.Sub 6)))))) (ot (.br (eqI a.Op 19) (ot (ot (ot (.leaf (cV a.Sub 0))))) (ot (ot (ot (.leaf true)))))))))))))
def bI3(a:aF):Bool:=hid (a2W a).val
def bI4(a:aF):Bool:=hid (a2W a).okv
def q103:=HE (fun a=>NF a (bI3 a)) bI4
theorem b0F:cG 100103 q103:=kD fun a hk=>tz a2V (a2W a) (NF a) hk
def Q103:=aT 100103 q103 Q21
theorem aO9:QO Q103:=aC b0F a2V
def T22(a:aF):Pt (Bool×Bool):=(ot (.ok ((HG a)&&true) (.br (!(HF a)) (ot (ot (ot (.leaf (false,false))))) (.ok ((bI4 a)&&true) (ot (ot (.leaf ((bI3 a),true))))))))
def g22(a:aF):Bool×Bool:=hid (T22 a).val
def k22(a:aF):Bool:=hid (T22 a).okv
def q22:=HE (fun a=>n17 a (g22 a)) k22
theorem t22:cG 100022 q22:=kD fun a hk=>tz aO9 (T22 a) (n17 a) hk
def Q22:=aT 100022 q22 Q103
theorem aJC:QO Q22:=aC t22 aO9
def b0H(a:List Row)(b:List Row):List SV:=[(.one (.imm true 1 a)),(.one (.imm true 1 b))]
def b0I(a:List Row)(b:List Row):List Blk:=[]
def bA0(N:List Row→List Row→SV×List Blk)(K:List Row→List Row→Bool):List SV→List Blk→Option ((SV×List Blk)×Bool)
 |[(.one (.imm true 1 c0)),(.one (.imm true 1 c1))],[]=>some (N c0 c1,K c0 c1)
 |_,_=>none
theorem a2X{N:List Row→List Row→SV×List Blk}{K:List Row→List Row→Bool}{f:Nat}(h: ∀(a:List Row)(b:List Row),K a b=true→dL R f (b0H a b) (b0I a b)=some (N a b)):cG f (bA0 N K):=fun _ _ _ e=>by
 unfold bA0 at e;split at e
 ·exact BT e (h _ _)
 ·cases e
structure V24_0 where
 mk::
 (s0:List Row)
 (s1:List Row)
 (s12:Int)
 (s13:Int)
def VO(v:V24_0):Pt (Option V24_0):=(ot (.br (ltI v.s13 v.s12) (ot (.ok ((gN [.int .i64] v.s0 v.s13)&&((gN [.int .i64] v.s1 v.s13)&&true)) (.br (cV (bD v.s0 (iN v.s13) 0) (bD v.s1 (iN v.s13) 0)) (ot (.leaf none)) (ot (ot (.leaf (some {v with s13:=(aV v.s13 1)}))))))) (.leaf none)))
def aC0(v:V24_0):St:=⟨[(0,(.one (.imm true 1 v.s0))),(1,(.one (.imm true 1 v.s1))),(12,(.one (li v.s12))),(13,(.one (li v.s13)))],[]⟩
def aPA:St→Option (V24_0×Bool)
 |⟨[(0,(.one (.imm true 1 c0))),(1,(.one (.imm true 1 c1))),(12,(.one (li c2))),(13,(.one (li c3)))],[]⟩=>some ((V24_0.mk c0 c1 c2 c3),true)
 |_=>none
def aJD:St→Option (Pt Out):=yI Q22 ([]++HD 24) [] true [] 0 9223372036854775808 aVR
theorem bI5(v:V24_0):((aJD (aC0 v)).bind (tF true false 0 [0,1,12,13]))=some ((VO v).map (Option.map aC0)):=by kernel_rfl
theorem bI6(σ:St)(v:V24_0)(h:aPA σ=some (v,true)):σ=aC0 v:=by
 unfold aPA at h;split at h
 ·obtain⟨hr,hk⟩:=qp (qi h);rw[←hr];rfl
 ·simp at h
theorem bI7:cS (wD true false 0 [0,1,12,13] aJD aPA aC0 VO 9223372036854775808) (fV R 0 9223372036854775808 (.loop [0,1,12,13] aVR)):=d8 (cW aJC (cF (l:=[]) (by kernel_rfl) trivial)) bI6 bI5
def bI8:Lp:=(14,wD true false 0 [0,1,12,13] aJD aPA aC0 VO 9223372036854775808)::[]
def aPB(v:V24_0):V24_0:=(hid (dV VO 9223372036854775808 v)).getD v
def a2Y(v:V24_0):Bool:=(hid (dV VO 9223372036854775808 v)).isSome
section
variable(a:List Row)(b:List Row)
def a2Z:V24_0:=(aPB (V24_0.mk a b (bL a) 0))
end
def T24(a:List Row)(b:List Row):Pt (Bool):=(ot (ot (.br (cV (bL a) (bL b)) (ot (ot (ot (.leaf false)))) (ot (ot (ot (.ok (a2Y (V24_0.mk a b (bL a) 0)) (.br (ltI (a2Z a b).s13 (a2Z a b).s12) (ot (ot (.leaf false))) (ot (ot (ot (.leaf true))))))))))))
def g24(a:List Row)(b:List Row):Bool:=hid (T24 a b).val
def k24(a:List Row)(b:List Row):Bool:=hid (T24 a b).okv
def n24(a:List Row)(b:List Row)(r:Bool):SV×List Blk:=((.one (.lit (.bool r))),[])
def q24:=bA0 (fun a b=>n24 a b (g24 a b)) k24
theorem b0J:fT (fun live x=>cS (oQ bI8 (m6 x)) (fV R 0 9223372036854775808 (.loop live x))) (qL 24).body:=(cF (l:=[([0,1,12,13],aVR)]) (by kernel_rfl) ⟨fZ (n:=14) (by kernel_rfl) fun σ σr t h ho hl=>bI7 σ σr t h ho hl,trivial⟩)
theorem t24:cG 100024 q24:=a2X fun a b hk=>tzl aJC b0J [] [] true (T24 a b) (n24 a b) hk
def Q24:=aT 100024 q24 Q22
theorem a20:QO Q24:=aC t24 aJC
def b0K(a:aG)(b:aG):List SV:=[(.agg [.imm true 1 a.D, .imm true 1 a.A,li a.Other,li a.PC,li a.Flags,li a.Mask, .lit (.bool a.Super), .lit (.bool a.Trace)]),(.agg [.imm true 1 b.D, .imm true 1 b.A,li b.Other,li b.PC,li b.Flags,li b.Mask, .lit (.bool b.Super), .lit (.bool b.Trace)])]
def b0L(a:aG)(b:aG):List Blk:=[]
def bJA(N:aG→aG→SV×List Blk)(K:aG→aG→Bool):List SV→List Blk→Option ((SV×List Blk)×Bool)
 |[(.agg [.imm true 1 c0, .imm true 1 c1,li c2,li c3,li c4,li c5, .lit (.bool c6), .lit (.bool c7)]),(.agg [.imm true 1 c8, .imm true 1 c9,li c10,li c11,li c12,li c13, .lit (.bool c14), .lit (.bool c15)])],[]=>some (N (aG.mk c0 c1 c2 c3 c4 c5 c6 c7) (aG.mk c8 c9 c10 c11 c12 c13 c14 c15),K (aG.mk c0 c1 c2 c3 c4 c5 c6 c7) (aG.mk c8 c9 c10 c11 c12 c13 c14 c15))
 |_,_=>none
theorem bJB{N:aG→aG→SV×List Blk}{K:aG→aG→Bool}{f:Nat}(h: ∀(a:aG)(b:aG),K a b=true→dL R f (b0K a b) (b0L a b)=some (N a b)):cG f (bJA N K):=fun _ _ _ e=>by
 unfold bJA at e;split at e
 ·exact BT e (h _ _)
 ·cases e
def a21(a:aG)(b:aG):Pt (Bool):=(ot (.ok ((k24 a.D b.D)&&((((k24 a.A b.A)&&true)||(!(g24 a.D b.D)))&&true)) (ot (ot (.leaf (bif (bif (bif (bif (bif (bif (bif (g24 a.D b.D)then(g24 a.A b.A)else false)then(eqI a.Other b.Other)else false)then(eqI a.PC b.PC)else false)then(eqI a.Flags b.Flags)else false)then(eqI a.Mask b.Mask)else false)then(rD a.Super b.Super)else false)then(rD a.Trace b.Trace)else false))))))
def bA1(a:aG)(b:aG):Bool:=hid (a21 a b).val
def bJC(a:aG)(b:aG):Bool:=hid (a21 a b).okv
def bOW(a:aG)(b:aG)(r:Bool):SV×List Blk:=((.one (.lit (.bool r))),[])
def q104:=bJA (fun a b=>bOW a b (bA1 a b)) bJC
theorem b0M:cG 100104 q104:=bJB fun a b hk=>tz a20 (a21 a b) (bOW a b) hk
def Q104:=aT 100104 q104 Q24
theorem aAI:QO Q104:=aC b0M a20
def b0N(a:List Row)(b:List Row):List SV:=[(.one (.imm true 5 a)),(.one (.imm true 5 b))]
def b0O(a:List Row)(b:List Row):List Blk:=[]
def bJD(N:List Row→List Row→SV×List Blk)(K:List Row→List Row→Bool):List SV→List Blk→Option ((SV×List Blk)×Bool)
 |[(.one (.imm true 5 c0)),(.one (.imm true 5 c1))],[]=>some (N c0 c1,K c0 c1)
 |_,_=>none
theorem bJE{N:List Row→List Row→SV×List Blk}{K:List Row→List Row→Bool}{f:Nat}(h: ∀(a:List Row)(b:List Row),K a b=true→dL R f (b0N a b) (b0O a b)=some (N a b)):cG f (bJD N K):=fun _ _ _ e=>by
 unfold bJD at e;split at e
 ·exact BT e (h _ _)
 ·cases e
structure V193_0 where
 mk::
 (s0:List Row)
 (s1:List Row)
 (s12:Int)
 (s13:Int)
def LG(v:V193_0):Pt (Option V193_0):=(ot (.br (ltI v.s13 v.s12) (ot (.ok ((gN [.int .i64, .int .i64, .int .i64, .int .i64, .int .i64] v.s0 v.s13)&&((gN [.int .i64, .int .i64, .int .i64, .int .i64, .int .i64] v.s1 v.s13)&&true)) (.br (!((eqI (bD v.s0 (iN v.s13) 0) (bD v.s1 (iN v.s13) 0))&&((eqI (bD v.s0 (iN v.s13) 1) (bD v.s1 (iN v.s13) 1))&&((eqI (bD v.s0 (iN v.s13) 2) (bD v.s1 (iN v.s13) 2))&&((eqI (bD v.s0 (iN v.s13) 3) (bD v.s1 (iN v.s13) 3))&&((eqI (bD v.s0 (iN v.s13) 4) (bD v.s1 (iN v.s13) 4))&&true)))))) (ot (.leaf none)) (ot (ot (.leaf (some {v with s13:=(aV v.s13 1)}))))))) (.leaf none)))
def R2(v:V193_0):St:=⟨[(0,(.one (.imm true 5 v.s0))),(1,(.one (.imm true 5 v.s1))),(12,(.one (li v.s12))),(13,(.one (li v.s13)))],[]⟩
def aAJ:St→Option (V193_0×Bool)
 |⟨[(0,(.one (.imm true 5 c0))),(1,(.one (.imm true 5 c1))),(12,(.one (li c2))),(13,(.one (li c3)))],[]⟩=>some ((V193_0.mk c0 c1 c2 c3),true)
 |_=>none
def aAK:St→Option (Pt Out):=yI Q104 ([]++HD 193) [] true [] 0 9223372036854775808 aEQ
theorem bA2(v:V193_0):((aAK (R2 v)).bind (tF true false 0 [0,1,12,13]))=some ((LG v).map (Option.map R2)):=by kernel_rfl
theorem bA3(σ:St)(v:V193_0)(h:aAJ σ=some (v,true)):σ=R2 v:=by
 unfold aAJ at h;split at h
 ·obtain⟨hr,hk⟩:=qp (qi h);rw[←hr];rfl
 ·simp at h
theorem bA4:cS (wD true false 0 [0,1,12,13] aAK aAJ R2 LG 9223372036854775808) (fV R 0 9223372036854775808 (.loop [0,1,12,13] aEQ)):=d8 (cW aAI (cF (l:=[]) (by kernel_rfl) trivial)) bA3 bA2
def bA5:Lp:=(14,wD true false 0 [0,1,12,13] aAK aAJ R2 LG 9223372036854775808)::[]
def aAL(v:V193_0):V193_0:=(hid (dV LG 9223372036854775808 v)).getD v
def aJE(v:V193_0):Bool:=(hid (dV LG 9223372036854775808 v)).isSome
section
variable(a:List Row)(b:List Row)
def aJF:V193_0:=(aAL (V193_0.mk a b (bL a) 0))
end
def a22(a:List Row)(b:List Row):Pt (Bool):=(ot (ot (.br (cV (bL a) (bL b)) (ot (ot (ot (.leaf false)))) (ot (ot (ot (.ok (aJE (V193_0.mk a b (bL a) 0)) (.br (ltI (aJF a b).s13 (aJF a b).s12) (ot (ot (.leaf false))) (ot (ot (ot (.leaf true))))))))))))
def bJF(a:List Row)(b:List Row):Bool:=hid (a22 a b).val
def bJG(a:List Row)(b:List Row):Bool:=hid (a22 a b).okv
def q193:=bJD (fun a b=>n24 a b (bJF a b)) bJG
theorem bOX:fT (fun live x=>cS (oQ bA5 (m6 x)) (fV R 0 9223372036854775808 (.loop live x))) (qL 193).body:=(cF (l:=[([0,1,12,13],aEQ)]) (by kernel_rfl) ⟨fZ (n:=14) (by kernel_rfl) fun σ σr t h ho hl=>bA4 σ σr t h ho hl,trivial⟩)
theorem b0P:cG 100193 q193:=bJE fun a b hk=>tzl aAI bOX [] [] true (a22 a b) (n24 a b) hk
def Q193:=aT 100193 q193 Q104
theorem aPC:QO Q193:=aC b0P aAI
def b0Q(a:bG)(b:bG):List SV:=[(.agg [.imm true 1 a.Bytes, .imm true 5 a.Log]),(.agg [.imm true 1 b.Bytes, .imm true 5 b.Log])]
def b0R(a:bG)(b:bG):List Blk:=[]
def bJH(N:bG→bG→SV×List Blk)(K:bG→bG→Bool):List SV→List Blk→Option ((SV×List Blk)×Bool)
 |[(.agg [.imm true 1 c0, .imm true 5 c1]),(.agg [.imm true 1 c2, .imm true 5 c3])],[]=>some (N (bG.mk c0 c1) (bG.mk c2 c3),K (bG.mk c0 c1) (bG.mk c2 c3))
 |_,_=>none
theorem bJI{N:bG→bG→SV×List Blk}{K:bG→bG→Bool}{f:Nat}(h: ∀(a:bG)(b:bG),K a b=true→dL R f (b0Q a b) (b0R a b)=some (N a b)):cG f (bJH N K):=fun _ _ _ e=>by
 unfold bJH at e;split at e
 ·exact BT e (h _ _)
 ·cases e
def a23(a:bG)(b:bG):Pt (Bool):=(ot (.ok ((k24 a.Bytes b.Bytes)&&((((bJG a.Log b.Log)&&true)||(!(g24 a.Bytes b.Bytes)))&&true)) (ot (ot (.leaf (bif (g24 a.Bytes b.Bytes)then(bJF a.Log b.Log)else false))))))
def bJJ(a:bG)(b:bG):Bool:=hid (a23 a b).val
def bJK(a:bG)(b:bG):Bool:=hid (a23 a b).okv
def bOY(a:bG)(b:bG)(r:Bool):SV×List Blk:=((.one (.lit (.bool r))),[])
def q105:=bJH (fun a b=>bOY a b (bJJ a b)) bJK
theorem b0S:cG 100105 q105:=bJI fun a b hk=>tz aPC (a23 a b) (bOY a b) hk
def Q105:=aT 100105 q105 Q193
theorem aPD:QO Q105:=aC b0S aPC
def b0T(a:aH)(b:aH):List SV:=[(.agg [.imm true 1 a.R.D, .imm true 1 a.R.A,li a.R.Other,li a.R.PC,li a.R.Flags,li a.R.Mask, .lit (.bool a.R.Super), .lit (.bool a.R.Trace), .imm true 1 a.Bus.Bytes, .imm true 5 a.Bus.Log, .lit (.bool a.Stop), .lit (.bool a.Halt)]),(.agg [.imm true 1 b.R.D, .imm true 1 b.R.A,li b.R.Other,li b.R.PC,li b.R.Flags,li b.R.Mask, .lit (.bool b.R.Super), .lit (.bool b.R.Trace), .imm true 1 b.Bus.Bytes, .imm true 5 b.Bus.Log, .lit (.bool b.Stop), .lit (.bool b.Halt)])]
def b0U(a:aH)(b:aH):List Blk:=[]
def bJL(N:aH→aH→SV×List Blk)(K:aH→aH→Bool):List SV→List Blk→Option ((SV×List Blk)×Bool)
 |[(.agg [.imm true 1 c0, .imm true 1 c1,li c2,li c3,li c4,li c5, .lit (.bool c6), .lit (.bool c7), .imm true 1 c8, .imm true 5 c9, .lit (.bool c10), .lit (.bool c11)]),(.agg [.imm true 1 c12, .imm true 1 c13,li c14,li c15,li c16,li c17, .lit (.bool c18), .lit (.bool c19), .imm true 1 c20, .imm true 5 c21, .lit (.bool c22), .lit (.bool c23)])],[]=>some (N (aH.mk (aG.mk c0 c1 c2 c3 c4 c5 c6 c7) (bG.mk c8 c9) c10 c11) (aH.mk (aG.mk c12 c13 c14 c15 c16 c17 c18 c19) (bG.mk c20 c21) c22 c23),K (aH.mk (aG.mk c0 c1 c2 c3 c4 c5 c6 c7) (bG.mk c8 c9) c10 c11) (aH.mk (aG.mk c12 c13 c14 c15 c16 c17 c18 c19) (bG.mk c20 c21) c22 c23))
 |_,_=>none
theorem bJM{N:aH→aH→SV×List Blk}{K:aH→aH→Bool}{f:Nat}(h: ∀(a:aH)(b:aH),K a b=true→dL R f (b0T a b) (b0U a b)=some (N a b)):cG f (bJL N K):=fun _ _ _ e=>by
 unfold bJL at e;split at e
 ·exact BT e (h _ _)
 ·cases e
def T23(a:aH)(b:aH):Pt (Bool):=(ot (.ok ((bJC a.R b.R)&&((((bJK a.Bus b.Bus)&&true)||(!(bA1 a.R b.R)))&&true)) (ot (ot (.leaf (bif (bif (bif (bA1 a.R b.R)then(bJJ a.Bus b.Bus)else false)then(rD a.Stop b.Stop)else false)then(rD a.Halt b.Halt)else false))))))
def g23(a:aH)(b:aH):Bool:=hid (T23 a b).val
def k23(a:aH)(b:aH):Bool:=hid (T23 a b).okv
def n23(a:aH)(b:aH)(r:Bool):SV×List Blk:=((.one (.lit (.bool r))),[])
def q23:=bJL (fun a b=>n23 a b (g23 a b)) k23
theorem t23:cG 100023 q23:=bJM fun a b hk=>tz aPD (T23 a b) (n23 a b) hk
def Q23:=aT 100023 q23 Q105
theorem aJG:QO Q23:=aC t23 aPD
structure V25_0 where
 mk::
 (s3:Int)
 (s6:List Row)
 (s7:Int)
 (s8:Int)
def VP(v:V25_0):Pt (Option V25_0):=(ot (.br (ltI v.s8 v.s7) (.ok ((gN [.int .u8] v.s6 v.s8)&&true) (ot (ot (ot (.leaf (some {v with s3:=(iC (aV (dB 31 v.s3) (vB .i64 (bD v.s6 (iN v.s8) 0))) 1000003),s8:=(aV v.s8 1)})))))) (.leaf none)))
def aC1(v:V25_0):St:=⟨[(3,(.one (li v.s3))),(6,(.one (.imm true 1 v.s6))),(7,(.one (li v.s7))),(8,(.one (li v.s8)))],[]⟩
def aPE:St→Option (V25_0×Bool)
 |⟨[(3,(.one (li c0))),(6,(.one (.imm true 1 c1))),(7,(.one (li c2))),(8,(.one (li c3)))],[]⟩=>some ((V25_0.mk c0 c1 c2 c3),true)
 |_=>none
def aJH:St→Option (Pt Out):=yI Q23 ([]++HD 25) [] true [] 0 9223372036854775808 aVS
theorem bJN(v:V25_0):((aJH (aC1 v)).bind (tF true false 0 [3,6,7,8]))=some ((VP v).map (Option.map aC1)):=by kernel_rfl
theorem bJO(σ:St)(v:V25_0)(h:aPE σ=some (v,true)):σ=aC1 v:=by
 unfold aPE at h;split at h
 ·obtain⟨hr,hk⟩:=qp (qi h);rw[←hr];rfl
 ·simp at h
theorem bJP:cS (wD true false 0 [3,6,7,8] aJH aPE aC1 VP 9223372036854775808) (fV R 0 9223372036854775808 (.loop [3,6,7,8] aVS)):=d8 (cW aJG (cF (l:=[]) (by kernel_rfl) trivial)) bJO bJN
def bJQ:Lp:=(9,wD true false 0 [3,6,7,8] aJH aPE aC1 VP 9223372036854775808)::[]
def a24(v:V25_0):V25_0:=(hid (dV VP 9223372036854775808 v)).getD v
def a25(v:V25_0):Bool:=(hid (dV VP 9223372036854775808 v)).isSome
def T25(a:List Row):Pt (Int):=(ot (ot (ot (ot (ot (.ok (a25 (V25_0.mk 0 a (bL a) 0)) (ot (ot (ot (.leaf (a24 (V25_0.mk 0 a (bL a) 0)).s3))))))))))
def g25(a:List Row):Int:=hid (T25 a).val
def k25(a:List Row):Bool:=hid (T25 a).okv
def q25:=aF0 (fun a=>aCK a (g25 a)) k25
theorem b0W:fT (fun live x=>cS (oQ bJQ (m6 x)) (fV R 0 9223372036854775808 (.loop live x))) (qL 25).body:=(cF (l:=[([3,6,7,8],aVS)]) (by kernel_rfl) ⟨fZ (n:=9) (by kernel_rfl) fun σ σr t h ho hl=>bJP σ σr t h ho hl,trivial⟩)
theorem t25:cG 100025 q25:=P3 fun a hk=>tzl aJG b0W [] [] true (T25 a) (aCK a) hk
def Q25:=aT 100025 q25 Q23
theorem bJR:QO Q25:=aC t25 aJG
section
variable(a:List Row)(b:List Row)
def AL:aH×bO×Bool:=(g11 (jW a).1 (jW a).2.1 (jW a).2.2.1 (jW a).2.2.2)
def R3:aH×bO×Bool:=(g12 (jW a).1 (jW a).2.1 (jW a).2.2.1 (jW a).2.2.2)
def a26:Bool:=(bif (!(rD (AL a).2.2 (R3 a).2.2))then true else(!((eqI (AL a).2.1.Vector (R3 a).2.1.Vector)&&((eqI (AL a).2.1.PC (R3 a).2.1.PC)&&((eqI (AL a).2.1.Addr (R3 a).2.1.Addr)&&((eqI (AL a).2.1.Word (R3 a).2.1.Word)&&((rD (AL a).2.1.Write (R3 a).2.1.Write)&&true)))))))
def bA6:Bool:=(bif (bif (bif (bif (bif (bif (a26 a)then true else(!(g23 (AL a).1 (R3 a).1)))then true else(!(rD (g13 (jW a).2.1).2 (g14 (jW a).2.1).2)))then true else(cV (g13 (jW a).2.1).1 (g14 (jW a).2.1).1))then true else(!(rD (g15 (jW a).2.1).2 (g16 (jW a).2.1).2)))then true else(cV (g15 (jW a).2.1).1 (g16 (jW a).2.1).1))then true else(!(rD (g17 (jW a).2.1).2 (g18 (jW a).2.1).2)))
def D6:aH×bO×Bool:=(g11 (jW a).1 (jW a).2.1 (jW a).2.2.1 false)
def a27:Bool:=(bif (cV (aJ (D6 a).1.R.Flags (g13 (jW a).2.1).1) (aJ (jW a).1.R.Flags (g13 (jW a).2.1).1))then(cV (jW a).2.1.Op 18)else false)
def aJI:aH×bO×Bool:=(g11 {(jW a).1 with R:={(jW a).1.R with Flags:=(cD (aD (jW a).1.R.Flags (g15 (jW a).2.1).1) (aJ (iC (g25 b) 32) (g15 (jW a).2.1).1))}} (jW a).2.1 (jW a).2.2.1 false)
def a28:Bool:=(bif (bif (jW a).2.2.2 then(eqI (AL a).2.1.Vector 0)else false)then(cV (AL a).1.R.Flags (jW a).1.R.Flags)else false)
end
def T3(a:List Row)(b:List Row):Pt (Bool):=(ot (ot (.br (pG (aV (bL a) (bL b)) 1048576) (ot (ot (.leaf true))) (.ok ((k10 a)&&true) (.ok ((k11 (jW a).1 (jW a).2.1 (jW a).2.2.1 (jW a).2.2.2)&&true) (.ok ((k12 (jW a).1 (jW a).2.1 (jW a).2.2.1 (jW a).2.2.2)&&true) (.ok ((k13 (jW a).2.1)&&true) (.ok ((k14 (jW a).2.1)&&true) (.ok ((k15 (jW a).2.1)&&true) (.ok ((k16 (jW a).2.1)&&true) (.ok ((k17 (jW a).2.1)&&true) (.ok ((k18 (jW a).2.1)&&true) (.ok ((k19 (jW a).2.1)&&true) (.ok ((k20 (jW a).2.1)&&true) (.ok ((k21 (jW a).2.1)&&true) (.ok ((k22 (jW a).2.1)&&true) (.ok ((((k23 (AL a).1 (R3 a).1)&&true)||(a26 a))&&true) (.br (bif (bif (bif (bif (bif (bA6 a)then true else(!(rD (g17 (jW a).2.1).1 (g18 (jW a).2.1).1)))then true else(!(rD (g19 (jW a).2.1).2 (g20 (jW a).2.1).2)))then true else(!(rD (g19 (jW a).2.1).1 (g20 (jW a).2.1).1)))then true else(!(rD (g21 (jW a).2.1).2 (g22 (jW a).2.1).2)))then true else(!(rD (g21 (jW a).2.1).1 (g22 (jW a).2.1).1))) (ot (ot (.leaf false))) (ot (.br (AL a).2.2 (.ok ((k11 (jW a).1 (jW a).2.1 (jW a).2.2.1 false)&&true) (ot (.br (bif (!(D6 a).2.2)then true else(!((eqI (AL a).2.1.Vector (D6 a).2.1.Vector)&&((eqI (AL a).2.1.PC (D6 a).2.1.PC)&&((eqI (AL a).2.1.Addr (D6 a).2.1.Addr)&&((eqI (AL a).2.1.Word (D6 a).2.1.Word)&&((rD (AL a).2.1.Write (D6 a).2.1.Write)&&true))))))) (ot (ot (.leaf false))) (ot (.br (eqI (D6 a).2.1.Vector 0) (.ok ((((((k24 (D6 a).1.Bus.Bytes (jW a).1.Bus.Bytes)&&true)||(!(!(g17 (jW a).2.1).1)))&&true)||(a27 a))&&true) (.br (bif (a27 a)then true else(bif (!(g17 (jW a).2.1).1)then(!(g24 (D6 a).1.Bus.Bytes (jW a).1.Bus.Bytes))else false)) (ot (ot (.leaf false))) (ot (.ok (((k25 b)&&true)&&true) (.ok ((k11 {(jW a).1 with R:={(jW a).1.R with Flags:=(cD (aD (jW a).1.R.Flags (g15 (jW a).2.1).1) (aJ (iC (g25 b) 32) (g15 (jW a).2.1).1))}} (jW a).2.1 (jW a).2.2.1 false)&&true) (ot (.br (bif (bif (bif (!(aJI a b).2.2)then true else(cV (aJI a b).2.1.Vector 0))then true else(cV (aD (D6 a).1.R.Flags (g13 (jW a).2.1).1) (aD (aJI a b).1.R.Flags (g13 (jW a).2.1).1)))then true else(cV (D6 a).1.R.PC (aJI a b).1.R.PC)) (ot (ot (.leaf false))) (ot (.br (a28 a) (ot (ot (.leaf false))) (ot (ot (.leaf true)))))))))))) (ot (.br (bif (!(g19 (jW a).2.1).1)then(cV (D6 a).2.1.Vector 8)else false) (ot (ot (.leaf false))) (ot (.br (a28 a) (ot (ot (.leaf false))) (ot (ot (.leaf true)))))))))))) (ot (ot (.leaf true)))))))))))))))))))))))
def g3(a:List Row)(b:List Row):Bool:=hid (T3 a b).val
def k3(a:List Row)(b:List Row):Bool:=hid (T3 a b).okv
def q3:=bA0 (fun a b=>n24 a b (g3 a b)) k3
theorem t3:cG 3 q3:=a2X fun a b hk=>tc bJR (T3 a b) (n24 a b) hk
end
end Go.Proofs.YtdicpjkdpliofaaGreatMasks
