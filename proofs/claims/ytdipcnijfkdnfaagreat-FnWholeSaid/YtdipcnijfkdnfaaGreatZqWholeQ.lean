import Derived.Test.YtdipcnijfkdnfaaGreatZqTabWhole
import Derived.Test.YtdipcnijfkdnfaaGreatZmc
import Derived.KernelRfl
import Derived.Test.YtdipcnijfkdnfaaGreatZqWholeR
import Derived.Test.YtdipcnijfkdnfaaGreatZqWholeQb
set_option linter.unusedVariables false
set_option linter.unusedSimpArgs false
namespace Go.Proofs.YtdipcnijfkdnfaaGreatWhole
open Go Go.Zq
open List renaming length→ln
set_option maxRecDepth 100000
set_option maxHeartbeats 4000000
noncomputable section
section
variable(a:aG)
def VM:Bool:=(cA (dB (eM a)).1 (KO (dB (eM a)).1))
def GX:aL:={(dB (eM a)).1.ffault with Vector:=8}
def EH:aQ:={(dB (eM a)).1 with ffault:=(GX a)}
def YP:Bool:=((cA (dB (eM a)).1 (KO (EH a)))&&true)
def oU:aQ:=(aXN (dB (eM a)).2.1 (eM a).fr.PC {(dB (eM a)).1 with fr:={(dB (eM a)).1.fr with PC:=(bF (bE (eM a).fr.PC (dE 2 (dB (eM a)).2.2)) 65535)},ffault:=(GX a)})
def VN:Bool:=(((dd (aO (iJ a.R) (bN (oU a).fbus true)) (aO (iJ a.R) (bN (oU a).fbus (I5 {(oU a)with fr:=(iJ a.R),fstop:=a.Stop}))))&&true)&&true)
def PA:Bool:=(((s1 true)&&(r1 a.R.D))&&(((s1 true)&&(r1 a.R.A))&&((s1 a.R.Other)&&((s1 a.R.PC)&&((s1 a.R.Flags)&&((s1 a.R.Mask)&&((s1 a.R.Super)&&((s1 a.R.Trace)&&(((s1 true)&&(r1 a.Bus.Bytes))&&(((s1 true)&&(r1 a.Bus.Log))&&((s1 a.Stop)&&((s1 a.Halt)&&true))))))))))))
def KS:aG:=(uC {(oU a)with fr:=(iJ a.R),fstop:=a.Stop})
def YQ:Bool:=((PA a)&&((fA (KS a) true)&&((eP (oU a).ffault true)&&((fW (iJ a.R) (dO (oU a).fbus ((s1 a.Stop)&&(eP (oU a).ffault true))))&&((nN (dB (eM a)).2.1 true)&&(eZ (oU a).fr (eZ (iJ a.R) (dI (oU a).fbus (fK (KS a) true)))))))))
def YR:Bool:=(aO (iJ a.R) (bN (dB (eM a)).1.fbus true))
def IS:Bool:=(((dd (YR a) (aO (iJ a.R) (bN (dB (eM a)).1.fbus (I5 (aQ.mk (iJ a.R) (dB (eM a)).1.fbus a.Stop (GX a))))))&&true)&&true)
def B2:aG:=(uC (aQ.mk (iJ a.R) (dB (eM a)).1.fbus a.Stop (GX a)))
def N2:Bool:=((s1 (8:Int))&&((s1 (dB (eM a)).1.ffault.PC)&&((s1 (dB (eM a)).1.ffault.Addr)&&((s1 (dB (eM a)).1.ffault.Word)&&((s1 (dB (eM a)).1.ffault.Write)&&true)))))
def N3:Bool:=((PA a)&&((fA (B2 a) true)&&((N2 a)&&((fW (iJ a.R) (dO (dB (eM a)).1.fbus ((s1 a.Stop)&&(N2 a))))&&((nN (dB (eM a)).2.1 true)&&(eZ (dB (eM a)).1.fr (eZ (iJ a.R) (dI (dB (eM a)).1.fbus (fK (B2 a) true)))))))))
def jW:aQ:=(aXN (dB (eM a)).2.1 (eM a).fr.PC {(dB (eM a)).1 with fr:={(dB (eM a)).1.fr with PC:=(bF (bE (eM a).fr.PC (dE 2 (dB (eM a)).2.2)) 65535)}})
def IT:Bool:=(((dd (aO (iJ a.R) (bN (jW a).fbus true)) (aO (iJ a.R) (bN (jW a).fbus (I5 {(jW a)with fr:=(iJ a.R),fstop:=a.Stop}))))&&true)&&true)
def B3:aG:=(uC {(jW a)with fr:=(iJ a.R),fstop:=a.Stop})
def N4:Bool:=((PA a)&&((fA (B3 a) true)&&((eP (jW a).ffault true)&&((fW (iJ a.R) (dO (jW a).fbus ((s1 a.Stop)&&(eP (jW a).ffault true))))&&((nN (dB (eM a)).2.1 true)&&(eZ (jW a).fr (eZ (iJ a.R) (dI (jW a).fbus (fK (B3 a) true)))))))))
def IU:Bool:=(((dd (YR a) (aO (iJ a.R) (bN (dB (eM a)).1.fbus (I5 {(dB (eM a)).1 with fr:=(iJ a.R),fstop:=a.Stop}))))&&true)&&true)
def B4:aG:=(uC {(dB (eM a)).1 with fr:=(iJ a.R),fstop:=a.Stop})
def N5:Bool:=((PA a)&&((fA (B4 a) true)&&((eP (dB (eM a)).1.ffault true)&&((fW (iJ a.R) (dO (dB (eM a)).1.fbus ((s1 a.Stop)&&(eP (dB (eM a)).1.ffault true))))&&((nN (dB (eM a)).2.1 true)&&(eZ (dB (eM a)).1.fr (eZ (iJ a.R) (dI (dB (eM a)).1.fbus (fK (B4 a) true)))))))))
end
def T87(a:aG):Pt (aG×aL):=(.ok true (.ok ((k78 a)&&true) (.ok true (.ok ((cA (eM a) (bFB (eM a)))&&true) (.ok ((VM a)&&((((bFD (dB (eM a)).2.1)&&true)||(!(CT (dB (eM a)).1)))&&true)) (.br (bif (bif (CT (dB (eM a)).1)then(bFC (dB (eM a)).2.1)else false)then(!(dB (eM a)).1.fr.Super)else false) (.ok true (.ok (YP a) (.br (CT (EH a)) (.ok true (.ok ((cA (dB (eM a)).1 (aXO (dB (eM a)).2.1 (eM a).fr.PC {(dB (eM a)).1 with fr:={(dB (eM a)).1.fr with PC:=(bF (bE (eM a).fr.PC (dE 2 (dB (eM a)).2.2)) 65535)},ffault:=(GX a)}))&&true) (.ok ((cA (oU a) (KO (oU a)))&&true) (.br (CT (oU a)) (.ok ((cA (oU a) (I5 (oU a)))&&true) (.ok ((aM (uC (oU a)) true)&&((aM (uC (oU a)) true)&&true)) (.leaf ((uC (oU a)),(aL.mk 0 0 0 0 false))))) (.ok ((VB a.R)&&true) (.ok true (.ok ((VN a)&&(((VN a)&&((VN a)&&(YQ a)))&&(YQ a))) (.ok ((aM (KS a) true)&&((aM (KS a) true)&&true)) (.leaf ((KS a),(oU a).ffault)))))))))) (.ok (YP a) (.br (CT (EH a)) (.ok ((cA (dB (eM a)).1 (I5 (EH a)))&&true) (.ok ((aM (uC (EH a)) true)&&((aM (uC (EH a)) true)&&true)) (.leaf ((uC (EH a)),(aL.mk 0 0 0 0 false))))) (.ok ((VB a.R)&&true) (.ok true (.ok ((IS a)&&(((IS a)&&((IS a)&&(N3 a)))&&(N3 a))) (.ok ((aM (B2 a) true)&&((aM (B2 a) true)&&true)) (.leaf ((B2 a),(GX a)))))))))))) (.ok ((VM a)&&true) (.br (CT (dB (eM a)).1) (.ok true (.ok ((cA (dB (eM a)).1 (aXO (dB (eM a)).2.1 (eM a).fr.PC {(dB (eM a)).1 with fr:={(dB (eM a)).1.fr with PC:=(bF (bE (eM a).fr.PC (dE 2 (dB (eM a)).2.2)) 65535)}}))&&true) (.ok ((cA (jW a) (KO (jW a)))&&true) (.br (CT (jW a)) (.ok ((cA (jW a) (I5 (jW a)))&&true) (.ok ((aM (uC (jW a)) true)&&((aM (uC (jW a)) true)&&true)) (.leaf ((uC (jW a)),(aL.mk 0 0 0 0 false))))) (.ok ((VB a.R)&&true) (.ok true (.ok ((IT a)&&(((IT a)&&((IT a)&&(N4 a)))&&(N4 a))) (.ok ((aM (B3 a) true)&&((aM (B3 a) true)&&true)) (.leaf ((B3 a),(jW a).ffault)))))))))) (.ok ((VM a)&&true) (.br (CT (dB (eM a)).1) (.ok ((cA (dB (eM a)).1 (I5 (dB (eM a)).1))&&true) (.ok ((aM (uC (dB (eM a)).1) true)&&((aM (uC (dB (eM a)).1) true)&&true)) (.leaf ((uC (dB (eM a)).1),(aL.mk 0 0 0 0 false))))) (.ok ((VB a.R)&&true) (.ok true (.ok ((IU a)&&(((IU a)&&((IU a)&&(N5 a)))&&(N5 a))) (.ok ((aM (B4 a) true)&&((aM (B4 a) true)&&true)) (.leaf ((B4 a),(dB (eM a)).1.ffault))))))))))))))))
def xT(a:aG):aG×aL:=hid (T87 a).val
def k87(a:aG):Bool:=hid (T87 a).okv
def n87(a:aG)(r:aG×aL):SV×List Blk:=((.tup [(.agg [.sl 0 0 (ln r.1.R.D), .sl 1 0 (ln r.1.R.A),li r.1.R.Other,li r.1.R.PC,li r.1.R.Flags,li r.1.R.Mask, .lit (.bool r.1.R.Super), .lit (.bool r.1.R.Trace), .sl 2 0 (ln r.1.Bus.Bytes), .sl 3 0 (ln r.1.Bus.Log), .lit (.bool r.1.Stop), .lit (.bool r.1.Halt)]),(.agg [li r.2.Vector,li r.2.PC,li r.2.Addr,li r.2.Word, .lit (.bool r.2.Write)])]),[.lst 1 r.1.R.D, .lst 1 r.1.R.A, .lst 1 r.1.Bus.Bytes, .lst 5 r.1.Bus.Log])
def q87:=TL (fun a=>n87 a (xT a)) k87
theorem t87:cP 87 q87:=BU fun a hk=>tc bV7 a7A [(8,K8),(14,K0),(23,K5),(31,rV),(50,K5),(60,K6),(66,rV),(74,YM)] [] true (T87 a) (n87 a) hk
def Q87:=bD 87 q87 Q80
theorem a7B:QO Q87:=aH t87 a7A
def a7C(a:Int):Pt (Bool):=(.ok true (.ok true (.ok true (.ok true (.leaf (bif (eqI a 2)then true else(eqI a 3)))))))
def bN7(a:Int):Bool:=hid (a7C a).val
def bN8(a:Int):Bool:=hid (a7C a).okv
def q109:=CM (fun a=>j9 a (bN7 a)) bN8
theorem cGC:cP 100109 q109:=hH fun a hk=>tz bWF a7B [] [] true (a7C a) (j9 a) hk
def Q109:=bD 100109 q109 Q87
theorem aTJ:QO Q109:=aH cGC a7B
def cGD(a:Bool)(b:aL):List SV:=[(.one (.lit (.bool a))),(.agg [li b.Vector,li b.PC,li b.Addr,li b.Word, .lit (.bool b.Write)])]
def cGE(a:Bool)(b:aL):List Blk:=[]
def bN9(N:Bool→aL→SV×List Blk)(K:Bool→aL→Bool):List SV→List Blk→Option ((SV×List Blk)×Bool)
 |[(.one (.lit (.bool c0))),(.agg [li c1,li c2,li c3,li c4, .lit (.bool c5)])],[]=>some (N c0 (aL.mk c1 c2 c3 c4 c5),K c0 (aL.mk c1 c2 c3 c4 c5))
 |_,_=>none
theorem bOA{N:Bool→aL→SV×List Blk}{K:Bool→aL→Bool}{f:Nat}(h: ∀(a:Bool)(b:aL),K a b=true→dQ R f (cGD a b) (cGE a b)=some (N a b)):cP f (bN9 N K):=fun _ _ _ e=>by
 unfold bN9 at e;split at e
 ·exact yF e (h _ _)
 ·cases e
def a7D(a:Bool)(b:aL):Pt (Int):=(.ok true (.ok ((yU b.Write 1)&&((yU a 2)&&true)) (.ok true (.ok true (.leaf (fB (yT b.Write 1) (yT a 2)))))))
def bOB(a:Bool)(b:aL):Int:=hid (a7D a b).val
def bOC(a:Bool)(b:aL):Bool:=hid (a7D a b).okv
def b3G(a:Bool)(b:aL)(r:Int):SV×List Blk:=((.one (li r)),[])
def q114:=bN9 (fun a b=>b3G a b (bOB a b)) bOC
theorem cGF:cP 100114 q114:=bOA fun a b hk=>tz bWJ aTJ [(6,rV)] [] true (a7D a b) (b3G a b) hk
def Q114:=bD 100114 q114 Q109
theorem aTK:QO Q114:=aH cGF aTJ
def cGG(a:aJ)(b:aL)(p0:Bool)(p1:Bool):List SV:=[(.agg [.imm p0 1 a.D, .imm p1 1 a.A,li a.Other,li a.PC,li a.Flags,li a.Mask, .lit (.bool a.Super), .lit (.bool a.Trace)]),(.agg [li b.Vector,li b.PC,li b.Addr,li b.Word, .lit (.bool b.Write)])]
def cGH(a:aJ)(b:aL)(p0:Bool)(p1:Bool):List Blk:=[]
def bOD(N:aJ→aL→SV×List Blk)(K:aJ→aL→Bool):List SV→List Blk→Option ((SV×List Blk)×Bool)
 |[(.agg [.imm p0 1 c0, .imm p1 1 c1,li c2,li c3,li c4,li c5, .lit (.bool c6), .lit (.bool c7)]),(.agg [li c8,li c9,li c10,li c11, .lit (.bool c12)])],[]=>some (N (aJ.mk c0 c1 c2 c3 c4 c5 c6 c7) (aL.mk c8 c9 c10 c11 c12),K (aJ.mk c0 c1 c2 c3 c4 c5 c6 c7) (aL.mk c8 c9 c10 c11 c12))
 |_,_=>none
theorem bOE{N:aJ→aL→SV×List Blk}{K:aJ→aL→Bool}{f:Nat}(h: ∀(a:aJ)(b:aL)(p0:Bool)(p1:Bool),K a b=true→dQ R f (cGG a b p0 p1) (cGH a b p0 p1)=some (N a b)):cP f (bOD N K):=fun _ _ _ e=>by
 unfold bOD at e;split at e
 ·exact yF e (h _ _ _ _)
 ·cases e
def a7E(a:aJ)(b:aL):Pt (List Row):=(.ok true (.ok (((bFX a)&&true)&&true) (.ok ((bN8 b.Vector)&&true) (.br (bN7 b.Vector) (.ok (((bOC a.Super b)&&true)&&true) (.ok true (.ok true (.leaf [(aY b.PC),(aY (a65 a)),(aY b.Word),(aY b.Addr),(aY (bOB a.Super b))])))) (.ok true (.ok true (.leaf [(aY b.PC),(aY (a65 a))])))))))
def aDU(a:aJ)(b:aL):List Row:=hid (a7E a b).val
def bOF(a:aJ)(b:aL):Bool:=hid (a7E a b).okv
def b3H(a:aJ)(b:aL)(r:List Row):SV×List Blk:=((.one (.sl 0 0 (ln r))),[.lst 1 r])
def q105:=bOD (fun a b=>b3H a b (aDU a b)) bOF
theorem cGI:cP 105 q105:=bOE fun a b p0 p1 hk=>tc bWB aTK [(7,K0),(8,K6),(12,K0),(16,K0),(18,K0),(20,rV),(21,YM)] [] true (a7E a b) (b3H a b) hk
def Q105:=bD 105 q105 Q114
theorem aDV:QO Q105:=aH cGI aTK
def cGJ(a:aG)(b:aL)(c:Int)(p0:Bool)(p1:Bool)(p2:Bool)(p3:Bool):List SV:=[(.agg [.imm p0 1 a.R.D, .imm p1 1 a.R.A,li a.R.Other,li a.R.PC,li a.R.Flags,li a.R.Mask, .lit (.bool a.R.Super), .lit (.bool a.R.Trace), .imm p2 1 a.Bus.Bytes, .imm p3 5 a.Bus.Log, .lit (.bool a.Stop), .lit (.bool a.Halt)]),(.agg [li b.Vector,li b.PC,li b.Addr,li b.Word, .lit (.bool b.Write)]),(.one (li c))]
def cGK(a:aG)(b:aL)(c:Int)(p0:Bool)(p1:Bool)(p2:Bool)(p3:Bool):List Blk:=[]
def bOG(N:aG→aL→Int→SV×List Blk)(K:aG→aL→Int→Bool):List SV→List Blk→Option ((SV×List Blk)×Bool)
 |[(.agg [.imm p0 1 c0, .imm p1 1 c1,li c2,li c3,li c4,li c5, .lit (.bool c6), .lit (.bool c7), .imm p2 1 c8, .imm p3 5 c9, .lit (.bool c10), .lit (.bool c11)]),(.agg [li c12,li c13,li c14,li c15, .lit (.bool c16)]),(.one (li c17))],[]=>some (N (aG.mk (aJ.mk c0 c1 c2 c3 c4 c5 c6 c7) (bM.mk c8 c9) c10 c11) (aL.mk c12 c13 c14 c15 c16) c17,K (aG.mk (aJ.mk c0 c1 c2 c3 c4 c5 c6 c7) (bM.mk c8 c9) c10 c11) (aL.mk c12 c13 c14 c15 c16) c17)
 |_,_=>none
theorem bOH{N:aG→aL→Int→SV×List Blk}{K:aG→aL→Int→Bool}{f:Nat}(h: ∀(a:aG)(b:aL)(c:Int)(p0:Bool)(p1:Bool)(p2:Bool)(p3:Bool),K a b c=true→dQ R f (cGJ a b c p0 p1 p2 p3) (cGK a b c p0 p1 p2 p3)=some (N a b c)):cP f (bOG N K):=fun _ _ _ e=>by
 unfold bOG at e;split at e
 ·exact yF e (h _ _ _ _ _ _ _)
 ·cases e
structure V103_0 where
 mk::
 (b0:aL)
 (b1:aG)
 (b2:aQ)
 (s38:List Row)
 (s39:Int)
 (s40:Int)
section
variable(v:V103_0)
def B5:aQ:=(g79 (bR v.s38 (0+(Int.toNat v.s40)) 0) v.b2)
end
def EI(v:V103_0):Pt (Option V103_0):=(.ok true (.br (ltI v.s40 v.s39) (.ok (((leI 0 v.s40)&&(ltI v.s40 (bX v.s38)))&&((dV [.int .i64] v.s38 (0+(Int.toNat v.s40)) 0)&&true)) (.ok ((cA v.b2 (KO v.b2))&&true) (.br (CT v.b2) (.ok ((cA v.b2 (k79 (bR v.s38 (0+(Int.toNat v.s40)) 0) v.b2))&&true) (.ok true (.ok (((aM v.b1 true)&&((bT (B5 v) true)&&(aM v.b1 (bT (B5 v) ((e1 (ln v.s38))&&true)))))&&((e1 (ln v.s38))&&true)) (.leaf (some {v with b2:=(B5 v),s40:=(bE v.s40 1)}))))) (.ok true (.ok (((aM v.b1 true)&&((bT v.b2 true)&&(aM v.b1 (bT v.b2 ((e1 (ln v.s38))&&true)))))&&((e1 (ln v.s38))&&true)) (.leaf (some {v with s40:=(bE v.s40 1)}))))))) (.leaf none)))
def VO(v:V103_0):St:=⟨[(4,(.one (.ptr 0 0 0))),(6,(.one (.ptr 1 0 0))),(7,(.one (.ptr 2 0 0))),(38,(.one (.sl 11 0 (ln v.s38)))),(39,(.one (li v.s39))),(40,(.one (li v.s40)))],[.box [li v.b0.Vector,li v.b0.PC,li v.b0.Addr,li v.b0.Word, .lit (.bool v.b0.Write)], .box [.sl 3 0 (ln v.b1.R.D), .sl 4 0 (ln v.b1.R.A),li v.b1.R.Other,li v.b1.R.PC,li v.b1.R.Flags,li v.b1.R.Mask, .lit (.bool v.b1.R.Super), .lit (.bool v.b1.R.Trace), .sl 5 0 (ln v.b1.Bus.Bytes), .sl 6 0 (ln v.b1.Bus.Log), .lit (.bool v.b1.Stop), .lit (.bool v.b1.Halt)], .box [.sl 7 0 (ln v.b2.fr.D), .sl 8 0 (ln v.b2.fr.A),li v.b2.fr.Other,li v.b2.fr.PC,li v.b2.fr.Flags,li v.b2.fr.Mask, .lit (.bool v.b2.fr.Super), .lit (.bool v.b2.fr.Trace), .sl 9 0 (ln v.b2.fbus.Bytes), .sl 10 0 (ln v.b2.fbus.Log), .lit (.bool v.b2.fstop),li v.b2.ffault.Vector,li v.b2.ffault.PC,li v.b2.ffault.Addr,li v.b2.ffault.Word, .lit (.bool v.b2.ffault.Write)], .lst 1 v.b1.R.D, .lst 1 v.b1.R.A, .lst 1 v.b1.Bus.Bytes, .lst 5 v.b1.Bus.Log, .lst 1 v.b2.fr.D, .lst 1 v.b2.fr.A, .lst 1 v.b2.fbus.Bytes, .lst 5 v.b2.fbus.Log, .lst 1 v.s38]⟩
def aDW:St→Option (V103_0×Bool)
 |⟨[(4,(.one (.ptr 0 0 0))),(6,(.one (.ptr 1 0 0))),(7,(.one (.ptr 2 0 0))),(38,(.one (.sl 11 0 l11))),(39,(.one (li c25))),(40,(.one (li c26)))],[.box [li c0,li c1,li c2,li c3, .lit (.bool c4)], .box [.sl 3 0 l3, .sl 4 0 l4,li c5,li c6,li c7,li c8, .lit (.bool c9), .lit (.bool c10), .sl 5 0 l5, .sl 6 0 l6, .lit (.bool c11), .lit (.bool c12)], .box [.sl 7 0 l7, .sl 8 0 l8,li c13,li c14,li c15,li c16, .lit (.bool c17), .lit (.bool c18), .sl 9 0 l9, .sl 10 0 l10, .lit (.bool c19),li c20,li c21,li c22,li c23, .lit (.bool c24)], .lst 1 c_3, .lst 1 c_4, .lst 1 c_5, .lst 5 c_6, .lst 1 c_7, .lst 1 c_8, .lst 1 c_9, .lst 5 c_10, .lst 1 c_11]⟩=>some ((V103_0.mk (aL.mk c0 c1 c2 c3 c4) (aG.mk (aJ.mk c_3 c_4 c5 c6 c7 c8 c9 c10) (bM.mk c_5 c_6) c11 c12) (aQ.mk (aJ.mk c_7 c_8 c13 c14 c15 c16 c17 c18) (bM.mk c_9 c_10) c19 (aL.mk c20 c21 c22 c23 c24)) c_11 c25 c26),dZ l3 (ln c_3)&&(dZ l4 (ln c_4)&&(dZ l5 (ln c_5)&&(dZ l6 (ln c_6)&&(dZ l7 (ln c_7)&&(dZ l8 (ln c_8)&&(dZ l9 (ln c_9)&&(dZ l10 (ln c_10)&&(dZ l11 (ln c_11)&&(true))))))))))
 |_=>none
def aDX:St→Option (Pt Out):=xN Q105 [(13,K8),(18,K6),(19,YM),(25,K6),(30,K0),(42,K0),(43,K0),(54,K0),(73,K8)] [] true [] 0 2097152 aIO
theorem bFY(v:V103_0):((aDX (VO v)).bind (rW true false 0 [4,6,7,38,39,40]))=some ((EI v).map (Option.map VO)):=by kernel_rfl
theorem bFZ(σ:St)(v:V103_0)(h:aDW σ=some (v,true)):σ=VO v:=by
 unfold aDW at h;split at h
 ·obtain⟨hr,hk⟩:=Prod.mk.inj (Option.some.inj h);obtain⟨d0,hk0⟩:=bI hk;obtain⟨d1,hk1⟩:=bI hk0;obtain⟨d2,hk2⟩:=bI hk1;obtain⟨d3,hk3⟩:=bI hk2;obtain⟨d4,hk4⟩:=bI hk3;obtain⟨d5,hk5⟩:=bI hk4;obtain⟨d6,hk6⟩:=bI hk5;obtain⟨d7,hk7⟩:=bI hk6;obtain⟨d8,hk8⟩:=bI hk7;obtain rfl:=of_decide_eq_true d0;obtain rfl:=of_decide_eq_true d1;obtain rfl:=of_decide_eq_true d2;obtain rfl:=of_decide_eq_true d3;obtain rfl:=of_decide_eq_true d4;obtain rfl:=of_decide_eq_true d5;obtain rfl:=of_decide_eq_true d6;obtain rfl:=of_decide_eq_true d7;obtain rfl:=of_decide_eq_true d8;rw[←hr];rfl
 ·simp at h
theorem bF0:cY (uB true false 0 [4,6,7,38,39,40] aDX aDW VO EI 2097152) (fT R 0 2097152 (.loop [4,6,7,38,39,40] aIO)):=eE (cZ aDV (cI (l:=[]) (by kernel_rfl) trivial)) bFZ bFY
def bF1:Lp:=(41,uB true false 0 [4,6,7,38,39,40] aDX aDW VO EI 2097152)::[]
def a7F(v:V103_0):V103_0:=(hid (dW EI 2097152 v)).getD v
def a7G(v:V103_0):Bool:=(hid (dW EI 2097152 v)).isSome
section
variable(a:aG)(b:aL)(c:Int)
def aNM:Int:=(fB (fB (eM a).fr.Flags (dE 32 c)) 256)
def VP:aJ:=(aGL (eM a).fr (aNM a c))
def aNN:Bool:=((e1 (ln (aDU (eM a).fr b)))&&true)
def aNO:Bool:=(aO (VP a c) (bN (eM a).fbus (aNN a b)))
def vA:V103_0:=(a7F (V103_0.mk b (aG.mk (aJ.mk [] [] 0 0 0 0 false false) (bM.mk [] []) false false) {(eM a)with fr:=(VP a c)} (aDU (eM a).fr b) (bX (aDU (eM a).fr b)) 0))
def vB:aQ×Int:=(wV 1 2 (dE 2 (vA a b c).b0.Vector) 0 (vA a b c).b2)
def IV:aQ:={(vB a b c).1 with fr:={(vB a b c).1.fr with PC:=(vB a b c).2},fstop:=false}
def IW:aQ:={(vB a b c).1 with fstop:=false}
def IX:aQ:={(vA a b c).b2 with fstop:=false}
end
def a7H(a:aG)(b:aL)(c:Int):Pt (aG):=(.ok true (.ok ((k78 a)&&true) (.ok (((((aO (eM a).fr true)&&true)&&(bOF (eM a).fr b))&&true)&&true) (.ok (((((aO (eM a).fr true)&&((aO (eM a).fr true)&&true))&&(aO (eM a).fr (aXJ (eM a).fr (aNM a c))))&&true)&&true) (.ok ((nX (0+(ln (aDU (eM a).fr b))) (ln (aDU (eM a).fr b)))&&true) (.ok (((aO (VP a c) (bN (eM a).fbus true))&&(aNO a b c))&&(aNN a b)) (.ok (aNO a b c) (.ok (a7G (V103_0.mk b (aG.mk (aJ.mk [] [] 0 0 0 0 false false) (bM.mk [] []) false false) {(eM a)with fr:=(VP a c)} (aDU (eM a).fr b) (bX (aDU (eM a).fr b)) 0)) (.ok ((cA (vA a b c).b2 (KO (vA a b c).b2))&&true) (.br (CT (vA a b c).b2) (.ok ((cA (vA a b c).b2 (aC8 1 2 (dE 2 (vA a b c).b0.Vector) 0 (vA a b c).b2))&&true) (.ok ((cA (vB a b c).1 (KO (vB a b c).1))&&true) (.br (CT (vB a b c).1) (.ok true (.ok true (.ok ((cA (vB a b c).1 (I5 (IV a b c)))&&true) (.ok ((cA (vB a b c).1 (KO (IV a b c)))&&true) (.ok true (.ok ((aM (uC (IV a b c)) true)&&((aM (uC (IV a b c)) true)&&true)) (.leaf {(uC (IV a b c))with Halt:=(!(CT (IV a b c)))}))))))) (.ok true (.ok ((cA (vB a b c).1 (I5 (IW a b c)))&&true) (.ok ((cA (vB a b c).1 (KO (IW a b c)))&&true) (.ok true (.ok ((aM (uC (IW a b c)) true)&&((aM (uC (IW a b c)) true)&&true)) (.leaf {(uC (IW a b c))with Halt:=(!(CT (IW a b c)))}))))))))) (.ok true (.ok ((cA (vA a b c).b2 (I5 (IX a b c)))&&true) (.ok ((cA (vA a b c).b2 (KO (IX a b c)))&&true) (.ok true (.ok ((aM (uC (IX a b c)) true)&&((aM (uC (IX a b c)) true)&&true)) (.leaf {(uC (IX a b c))with Halt:=(!(CT (IX a b c)))}))))))))))))))))
def P2(a:aG)(b:aL)(c:Int):aG:=hid (a7H a b c).val
def P3(a:aG)(b:aL)(c:Int):Bool:=hid (a7H a b c).okv
def b3I(a:aG)(b:aL)(c:Int)(r:aG):SV×List Blk:=((.agg [.sl 0 0 (ln r.R.D), .sl 1 0 (ln r.R.A),li r.R.Other,li r.R.PC,li r.R.Flags,li r.R.Mask, .lit (.bool r.R.Super), .lit (.bool r.R.Trace), .sl 2 0 (ln r.Bus.Bytes), .sl 3 0 (ln r.Bus.Log), .lit (.bool r.Stop), .lit (.bool r.Halt)]),[.lst 1 r.R.D, .lst 1 r.R.A, .lst 1 r.Bus.Bytes, .lst 5 r.Bus.Log])
def q103:=bOG (fun a b c=>b3I a b c (P2 a b c)) P3
theorem b3J:fN (fun live x=>cY (nL bF1 (lV x)) (fT R 0 2097152 (.loop live x))) F103.body:=(cI (l:=[([4,6,7,38,39,40],aIO)]) (by kernel_rfl) ⟨fH (n:=41) (by kernel_rfl) fun σ σr t h ho hl=>bF0 σ σr t h ho hl,trivial⟩)
theorem cGL:cP 103 q103:=bOH fun a b c p0 p1 p2 p3 hk=>tcl bV9 aDV b3J [(13,K8),(18,K6),(19,YM),(25,K6),(30,K0),(42,K0),(43,K0),(54,K0),(73,K8)] [] true (a7H a b c) (b3I a b c) hk
def Q103:=bD 103 q103 Q105
theorem aTL:QO Q103:=aH cGL aDV
section
variable(a:aG)
def N6:Bool:=(((s1 true)&&(r1 a.R.D))&&(((s1 true)&&(r1 a.R.A))&&((s1 a.R.Other)&&((s1 a.R.PC)&&((s1 a.R.Flags)&&((s1 a.R.Mask)&&((s1 a.R.Super)&&((s1 a.R.Trace)&&(((s1 true)&&(r1 a.Bus.Bytes))&&(((s1 true)&&(r1 a.Bus.Log))&&((s1 a.Stop)&&((s1 a.Halt)&&true))))))))))))
def mE:aG:=(P2 (xT a).1 (xT a).2 (xT a).1.R.Mask)
def aDY:Bool:=(((s1 (xT a).2.Vector)&&true)&&((N6 a)&&((fA (mE a) true)&&(fK (xT a).1 ((fA (mE a) true)&&((eP (xT a).2 true)&&(fK (mE a) true)))))))
def aDZ:Bool:=((aM (mE a) true)&&((aM (mE a) true)&&true))
def B6:aG:=(P2 (mE a) (aL.mk 9 (mE a).R.PC 0 0 false) (mE a).R.Mask)
def aD0:Bool:=((aM (B6 a) true)&&((aM (B6 a) true)&&true))
def B7:aG:=(P2 (xT a).1 (aL.mk 9 (xT a).1.R.PC 0 0 false) (xT a).1.R.Mask)
def aD1:Bool:=((aM (B7 a) true)&&((aM (B7 a) true)&&true))
end
def a7I(a:aG):Pt (aG×Int):=(.ok true (.ok ((k87 a)&&true) (.ok true (.br (dD (xT a).2.Vector 0) (.ok ((((aM (xT a).1 true)&&true)&&(P3 (xT a).1 (xT a).2 (xT a).1.R.Mask))&&true) (.ok true (.br (bif (ltI (xT a).2.Vector 18)then(dD (xT a).2.Vector 5)else false) (.ok (aDY a) (.ok (aDZ a) (.leaf ((mE a),(xT a).2.Vector)))) (.ok true (.br (bif a.R.Trace then(!(mE a).Halt)else false) (.ok ((((aM (mE a) true)&&true)&&(P3 (mE a) (aL.mk 9 (mE a).R.PC 0 0 false) (mE a).R.Mask))&&true) (.ok true (.br (eqI (xT a).2.Vector 0) (.ok true (.ok (aD0 a) (.leaf ((B6 a),9)))) (.ok (((s1 (xT a).2.Vector)&&true)&&((N6 a)&&((fA (B6 a) true)&&(fK (xT a).1 ((fA (B6 a) true)&&((eP (xT a).2 true)&&(fK (mE a) (fK (B6 a) true)))))))) (.ok (aD0 a) (.leaf ((B6 a),(xT a).2.Vector))))))) (.ok (aDY a) (.ok (aDZ a) (.leaf ((mE a),(xT a).2.Vector))))))))) (.ok true (.br (bif a.R.Trace then(!(xT a).1.Halt)else false) (.ok ((((aM (xT a).1 true)&&true)&&(P3 (xT a).1 (aL.mk 9 (xT a).1.R.PC 0 0 false) (xT a).1.R.Mask))&&true) (.ok true (.br (eqI (xT a).2.Vector 0) (.ok true (.ok (aD1 a) (.leaf ((B7 a),9)))) (.ok (((s1 (xT a).2.Vector)&&true)&&((N6 a)&&((fA (B7 a) true)&&(fK (xT a).1 ((fA (B7 a) true)&&((eP (xT a).2 true)&&(fK (B7 a) true))))))) (.ok (aD1 a) (.leaf ((B7 a),(xT a).2.Vector))))))) (.ok (((s1 (xT a).2.Vector)&&true)&&((N6 a)&&((fA (xT a).1 true)&&(fK (xT a).1 ((fA (xT a).1 true)&&((eP (xT a).2 true)&&true)))))) (.ok ((aM (xT a).1 true)&&((aM (xT a).1 true)&&true)) (.leaf ((xT a).1,(xT a).2.Vector))))))))))
def aNP(a:aG):aG×Int:=hid (a7I a).val
def bOI(a:aG):Bool:=hid (a7I a).okv
def bF2(a:aG)(r:aG×Int):SV×List Blk:=((.tup [(.agg [.sl 0 0 (ln r.1.R.D), .sl 1 0 (ln r.1.R.A),li r.1.R.Other,li r.1.R.PC,li r.1.R.Flags,li r.1.R.Mask, .lit (.bool r.1.R.Super), .lit (.bool r.1.R.Trace), .sl 2 0 (ln r.1.Bus.Bytes), .sl 3 0 (ln r.1.Bus.Log), .lit (.bool r.1.Stop), .lit (.bool r.1.Halt)]),(.one (li r.2))]),[.lst 1 r.1.R.D, .lst 1 r.1.R.A, .lst 1 r.1.Bus.Bytes, .lst 5 r.1.Bus.Log])
def q119:=TL (fun a=>bF2 a (aNP a)) bOI
theorem cGM:cP 119 q119:=BU fun a hk=>tc bHP aTL [(7,K8),(12,K0),(14,K8),(15,YM),(18,K0),(21,K0),(25,K0),(28,K8),(30,K0),(33,rV),(36,rV),(39,K8),(42,K0),(46,K0),(49,K0),(51,K8),(52,K8),(54,K0)] [] true (a7I a) (bF2 a) hk
def Q119:=bD 119 q119 Q103
theorem aTM:QO Q119:=aH cGM aTL
def T42(a:aG):Pt (aG×Int×Bool):=(.ok true (.ok ((k76 a)&&true) (.br (bif (bif (!(g76 a))then true else a.Stop)then true else a.Halt) (.ok true (.ok true (.ok true (.leaf ((aG.mk (aJ.mk [] [] 0 0 0 0 false false) (bM.mk [] []) false false),0,false))))) (.ok ((bOI a)&&true) (.ok true (.ok ((aM (aNP a).1 true)&&((aM (aNP a).1 true)&&true)) (.ok ((aM (aNP a).1 true)&&true) (.leaf ((aNP a).1,(aNP a).2,true)))))))))
def g42(a:aG):aG×Int×Bool:=hid (T42 a).val
def k42(a:aG):Bool:=hid (T42 a).okv
def q42:=TL (fun a=>n41 a (g42 a)) k42
theorem t42:cP 100042 q42:=BU fun a hk=>tz b7P aTM [(7,K8),(12,rV),(16,rV),(20,K8),(24,K8)] [] true (T42 a) (n41 a) hk
def Q42:=bD 100042 q42 Q119
theorem aNQ:QO Q42:=aH t42 aTM
def cGO(a:List Row)(b:List Row):List SV:=[(.one (.imm true 1 a)),(.one (.imm true 1 b))]
def cGP(a:List Row)(b:List Row):List Blk:=[]
def bF3(N:List Row→List Row→SV×List Blk)(K:List Row→List Row→Bool):List SV→List Blk→Option ((SV×List Blk)×Bool)
 |[(.one (.imm true 1 c0)),(.one (.imm true 1 c1))],[]=>some (N c0 c1,K c0 c1)
 |_,_=>none
theorem a7J{N:List Row→List Row→SV×List Blk}{K:List Row→List Row→Bool}{f:Nat}(h: ∀(a:List Row)(b:List Row),K a b=true→dQ R f (cGO a b) (cGP a b)=some (N a b)):cP f (bF3 N K):=fun _ _ _ e=>by
 unfold bF3 at e;split at e
 ·exact yF e (h _ _)
 ·cases e
structure V14_0 where
 mk::
 (s0:List Row)
 (s1:List Row)
 (s12:Int)
 (s13:Int)
def YS(v:V14_0):Pt (Option V14_0):=(.ok true (.br (ltI v.s13 v.s12) (.ok true (.ok ((iG [.int .i64] v.s0 v.s13)&&((iG [.int .i64] v.s1 v.s13)&&true)) (.br (dD (bR v.s0 (Int.toNat v.s13) 0) (bR v.s1 (Int.toNat v.s13) 0)) (.ok true (.leaf none)) (.ok true (.ok true (.leaf (some {v with s13:=(bE v.s13 1)}))))))) (.leaf none)))
def aGM(v:V14_0):St:=⟨[(0,(.one (.imm true 1 v.s0))),(1,(.one (.imm true 1 v.s1))),(12,(.one (li v.s12))),(13,(.one (li v.s13)))],[]⟩
def aTN:St→Option (V14_0×Bool)
 |⟨[(0,(.one (.imm true 1 c0))),(1,(.one (.imm true 1 c1))),(12,(.one (li c2))),(13,(.one (li c3)))],[]⟩=>some ((V14_0.mk c0 c1 c2 c3),true)
 |_=>none
def aNR:St→Option (Pt Out):=xN Q42 [(18,K0),(19,K0),(22,K0),(23,K0)] [] true [] 0 2097152 a0F
theorem bOJ(v:V14_0):((aNR (aGM v)).bind (rW true false 0 [0,1,12,13]))=some ((YS v).map (Option.map aGM)):=by kernel_rfl
theorem bOK(σ:St)(v:V14_0)(h:aTN σ=some (v,true)):σ=aGM v:=by
 unfold aTN at h;split at h
 ·obtain⟨hr,hk⟩:=Prod.mk.inj (Option.some.inj h);rw[←hr];rfl
 ·simp at h
theorem bOL:cY (uB true false 0 [0,1,12,13] aNR aTN aGM YS 2097152) (fT R 0 2097152 (.loop [0,1,12,13] a0F)):=eE (cZ aNQ (cI (l:=[]) (by kernel_rfl) trivial)) bOK bOJ
def bOM:Lp:=(14,uB true false 0 [0,1,12,13] aNR aTN aGM YS 2097152)::[]
def aTO(v:V14_0):V14_0:=(hid (dW YS 2097152 v)).getD v
def a7K(v:V14_0):Bool:=(hid (dW YS 2097152 v)).isSome
section
variable(a:List Row)(b:List Row)
def a7L:V14_0:=(aTO (V14_0.mk a b (bX a) 0))
end
def T14(a:List Row)(b:List Row):Pt (Bool):=(.ok true (.ok true (.br (dD (bX a) (bX b)) (.ok true (.ok true (.ok true (.leaf false)))) (.ok true (.ok true (.ok true (.ok (a7K (V14_0.mk a b (bX a) 0)) (.br (ltI (a7L a b).s13 (a7L a b).s12) (.ok true (.ok true (.leaf false))) (.ok true (.ok true (.ok true (.leaf true))))))))))))
def g14(a:List Row)(b:List Row):Bool:=hid (T14 a b).val
def k14(a:List Row)(b:List Row):Bool:=hid (T14 a b).okv
def n14(a:List Row)(b:List Row)(r:Bool):SV×List Blk:=((.one (.lit (.bool r))),[])
def q14:=bF3 (fun a b=>n14 a b (g14 a b)) k14
theorem cGQ:fN (fun live x=>cY (nL bOM (lV x)) (fT R 0 2097152 (.loop live x))) F14.body:=(cI (l:=[([0,1,12,13],a0F)]) (by kernel_rfl) ⟨fH (n:=14) (by kernel_rfl) fun σ σr t h ho hl=>bOL σ σr t h ho hl,trivial⟩)
theorem t14:cP 100014 q14:=a7J fun a b hk=>tzl b7I aNQ cGQ [(18,K0),(19,K0),(22,K0),(23,K0)] [] true (T14 a b) (n14 a b) hk
def Q14:=bD 100014 q14 Q42
theorem a7N:QO Q14:=aH t14 aNQ
def cGR(a:aJ)(b:aJ):List SV:=[(.agg [.imm true 1 a.D, .imm true 1 a.A,li a.Other,li a.PC,li a.Flags,li a.Mask, .lit (.bool a.Super), .lit (.bool a.Trace)]),(.agg [.imm true 1 b.D, .imm true 1 b.A,li b.Other,li b.PC,li b.Flags,li b.Mask, .lit (.bool b.Super), .lit (.bool b.Trace)])]
def cGS(a:aJ)(b:aJ):List Blk:=[]
def bOO(N:aJ→aJ→SV×List Blk)(K:aJ→aJ→Bool):List SV→List Blk→Option ((SV×List Blk)×Bool)
 |[(.agg [.imm true 1 c0, .imm true 1 c1,li c2,li c3,li c4,li c5, .lit (.bool c6), .lit (.bool c7)]),(.agg [.imm true 1 c8, .imm true 1 c9,li c10,li c11,li c12,li c13, .lit (.bool c14), .lit (.bool c15)])],[]=>some (N (aJ.mk c0 c1 c2 c3 c4 c5 c6 c7) (aJ.mk c8 c9 c10 c11 c12 c13 c14 c15),K (aJ.mk c0 c1 c2 c3 c4 c5 c6 c7) (aJ.mk c8 c9 c10 c11 c12 c13 c14 c15))
 |_,_=>none
theorem bOP{N:aJ→aJ→SV×List Blk}{K:aJ→aJ→Bool}{f:Nat}(h: ∀(a:aJ)(b:aJ),K a b=true→dQ R f (cGR a b) (cGS a b)=some (N a b)):cP f (bOO N K):=fun _ _ _ e=>by
 unfold bOO at e;split at e
 ·exact yF e (h _ _)
 ·cases e
def T13(a:aJ)(b:aJ):Pt (Bool):=(.ok true (.ok ((k14 a.D b.D)&&((((k14 a.A b.A)&&true)||(!(g14 a.D b.D)))&&true)) (.ok true (.ok true (.leaf (bif (bif (bif (bif (bif (bif (bif (g14 a.D b.D)then(g14 a.A b.A)else false)then(eqI a.Other b.Other)else false)then(eqI a.PC b.PC)else false)then(eqI a.Flags b.Flags)else false)then(eqI a.Mask b.Mask)else false)then(AX a.Super b.Super)else false)then(AX a.Trace b.Trace)else false))))))
def g13(a:aJ)(b:aJ):Bool:=hid (T13 a b).val
def k13(a:aJ)(b:aJ):Bool:=hid (T13 a b).okv
def n13(a:aJ)(b:aJ)(r:Bool):SV×List Blk:=((.one (.lit (.bool r))),[])
def q13:=bOO (fun a b=>n13 a b (g13 a b)) k13
theorem t13:cP 100013 q13:=bOP fun a b hk=>tz b7H a7N [(6,K1),(8,K1),(12,K1),(14,K1),(19,K0),(21,K0),(26,K0),(28,K0),(33,K0),(35,K0),(40,K0),(42,K0),(47,rV),(49,rV),(54,rV),(56,rV)] [] true (T13 a b) (n13 a b) hk
def Q13:=bD 100013 q13 Q14
theorem aNS:QO Q13:=aH t13 a7N
def cGU(a:List Row)(b:List Row):List SV:=[(.one (.imm true 5 a)),(.one (.imm true 5 b))]
def cGV(a:List Row)(b:List Row):List Blk:=[]
def bOQ(N:List Row→List Row→SV×List Blk)(K:List Row→List Row→Bool):List SV→List Blk→Option ((SV×List Blk)×Bool)
 |[(.one (.imm true 5 c0)),(.one (.imm true 5 c1))],[]=>some (N c0 c1,K c0 c1)
 |_,_=>none
theorem bOR{N:List Row→List Row→SV×List Blk}{K:List Row→List Row→Bool}{f:Nat}(h: ∀(a:List Row)(b:List Row),K a b=true→dQ R f (cGU a b) (cGV a b)=some (N a b)):cP f (bOQ N K):=fun _ _ _ e=>by
 unfold bOQ at e;split at e
 ·exact yF e (h _ _)
 ·cases e
structure V157_0 where
 mk::
 (s0:List Row)
 (s1:List Row)
 (s12:Int)
 (s13:Int)
def N7(v:V157_0):Pt (Option V157_0):=(.ok true (.br (ltI v.s13 v.s12) (.ok true (.ok ((iG [.int .i64, .int .i64, .int .i64, .int .i64, .int .i64] v.s0 v.s13)&&((iG [.int .i64, .int .i64, .int .i64, .int .i64, .int .i64] v.s1 v.s13)&&true)) (.br (!((eqI (bR v.s0 (Int.toNat v.s13) 0) (bR v.s1 (Int.toNat v.s13) 0))&&((eqI (bR v.s0 (Int.toNat v.s13) 1) (bR v.s1 (Int.toNat v.s13) 1))&&((eqI (bR v.s0 (Int.toNat v.s13) 2) (bR v.s1 (Int.toNat v.s13) 2))&&((eqI (bR v.s0 (Int.toNat v.s13) 3) (bR v.s1 (Int.toNat v.s13) 3))&&((eqI (bR v.s0 (Int.toNat v.s13) 4) (bR v.s1 (Int.toNat v.s13) 4))&&true)))))) (.ok true (.leaf none)) (.ok true (.ok true (.leaf (some {v with s13:=(bE v.s13 1)}))))))) (.leaf none)))
def VQ(v:V157_0):St:=⟨[(0,(.one (.imm true 5 v.s0))),(1,(.one (.imm true 5 v.s1))),(12,(.one (li v.s12))),(13,(.one (li v.s13)))],[]⟩
def aD2:St→Option (V157_0×Bool)
 |⟨[(0,(.one (.imm true 5 c0))),(1,(.one (.imm true 5 c1))),(12,(.one (li c2))),(13,(.one (li c3)))],[]⟩=>some ((V157_0.mk c0 c1 c2 c3),true)
 |_=>none
def aD3:St→Option (Pt Out):=xN Q13 [(18,K9),(19,K9),(22,K9),(23,K9)] [] true [] 0 2097152 aIT
theorem bF5(v:V157_0):((aD3 (VQ v)).bind (rW true false 0 [0,1,12,13]))=some ((N7 v).map (Option.map VQ)):=by kernel_rfl
theorem bF6(σ:St)(v:V157_0)(h:aD2 σ=some (v,true)):σ=VQ v:=by
 unfold aD2 at h;split at h
 ·obtain⟨hr,hk⟩:=Prod.mk.inj (Option.some.inj h);rw[←hr];rfl
 ·simp at h
theorem bF7:cY (uB true false 0 [0,1,12,13] aD3 aD2 VQ N7 2097152) (fT R 0 2097152 (.loop [0,1,12,13] aIT)):=eE (cZ aNS (cI (l:=[]) (by kernel_rfl) trivial)) bF6 bF5
def bF8:Lp:=(14,uB true false 0 [0,1,12,13] aD3 aD2 VQ N7 2097152)::[]
def aD4(v:V157_0):V157_0:=(hid (dW N7 2097152 v)).getD v
def aNT(v:V157_0):Bool:=(hid (dW N7 2097152 v)).isSome
section
variable(a:List Row)(b:List Row)
def aNU:V157_0:=(aD4 (V157_0.mk a b (bX a) 0))
end
def a7O(a:List Row)(b:List Row):Pt (Bool):=(.ok true (.ok true (.br (dD (bX a) (bX b)) (.ok true (.ok true (.ok true (.leaf false)))) (.ok true (.ok true (.ok true (.ok (aNT (V157_0.mk a b (bX a) 0)) (.br (ltI (aNU a b).s13 (aNU a b).s12) (.ok true (.ok true (.leaf false))) (.ok true (.ok true (.ok true (.leaf true))))))))))))
def bOS(a:List Row)(b:List Row):Bool:=hid (a7O a b).val
def bOT(a:List Row)(b:List Row):Bool:=hid (a7O a b).okv
def q157:=bOQ (fun a b=>n14 a b (bOS a b)) bOT
theorem b3M:fN (fun live x=>cY (nL bF8 (lV x)) (fT R 0 2097152 (.loop live x))) F157.body:=(cI (l:=[([0,1,12,13],aIT)]) (by kernel_rfl) ⟨fH (n:=14) (by kernel_rfl) fun σ σr t h ho hl=>bF7 σ σr t h ho hl,trivial⟩)
theorem cGW:cP 100157 q157:=bOR fun a b hk=>tzl bW0 aNS b3M [(18,K9),(19,K9),(22,K9),(23,K9)] [] true (a7O a b) (n14 a b) hk
def Q157:=bD 100157 q157 Q13
theorem aTP:QO Q157:=aH cGW aNS
def cGX(a:bM)(b:bM):List SV:=[(.agg [.imm true 1 a.Bytes, .imm true 5 a.Log]),(.agg [.imm true 1 b.Bytes, .imm true 5 b.Log])]
def cGY(a:bM)(b:bM):List Blk:=[]
def bOU(N:bM→bM→SV×List Blk)(K:bM→bM→Bool):List SV→List Blk→Option ((SV×List Blk)×Bool)
 |[(.agg [.imm true 1 c0, .imm true 5 c1]),(.agg [.imm true 1 c2, .imm true 5 c3])],[]=>some (N (bM.mk c0 c1) (bM.mk c2 c3),K (bM.mk c0 c1) (bM.mk c2 c3))
 |_,_=>none
theorem bOV{N:bM→bM→SV×List Blk}{K:bM→bM→Bool}{f:Nat}(h: ∀(a:bM)(b:bM),K a b=true→dQ R f (cGX a b) (cGY a b)=some (N a b)):cP f (bOU N K):=fun _ _ _ e=>by
 unfold bOU at e;split at e
 ·exact yF e (h _ _)
 ·cases e
def T82(a:bM)(b:bM):Pt (Bool):=(.ok true (.ok ((k14 a.Bytes b.Bytes)&&((((bOT a.Log b.Log)&&true)||(!(g14 a.Bytes b.Bytes)))&&true)) (.ok true (.ok true (.leaf (bif (g14 a.Bytes b.Bytes)then(bOS a.Log b.Log)else false))))))
def g82(a:bM)(b:bM):Bool:=hid (T82 a b).val
def k82(a:bM)(b:bM):Bool:=hid (T82 a b).okv
def n82(a:bM)(b:bM)(r:Bool):SV×List Blk:=((.one (.lit (.bool r))),[])
def q82:=bOU (fun a b=>n82 a b (g82 a b)) k82
theorem t82:cP 100082 q82:=bOV fun a b hk=>tz b74 aTP [(6,K1),(8,K1),(12,K10),(14,K10)] [] true (T82 a b) (n82 a b) hk
def Q82:=bD 100082 q82 Q157
theorem a7P:QO Q82:=aH t82 aTP
def cG1(a:aG)(b:aG):List SV:=[(.agg [.imm true 1 a.R.D, .imm true 1 a.R.A,li a.R.Other,li a.R.PC,li a.R.Flags,li a.R.Mask, .lit (.bool a.R.Super), .lit (.bool a.R.Trace), .imm true 1 a.Bus.Bytes, .imm true 5 a.Bus.Log, .lit (.bool a.Stop), .lit (.bool a.Halt)]),(.agg [.imm true 1 b.R.D, .imm true 1 b.R.A,li b.R.Other,li b.R.PC,li b.R.Flags,li b.R.Mask, .lit (.bool b.R.Super), .lit (.bool b.R.Trace), .imm true 1 b.Bus.Bytes, .imm true 5 b.Bus.Log, .lit (.bool b.Stop), .lit (.bool b.Halt)])]
def cG2(a:aG)(b:aG):List Blk:=[]
def bOW(N:aG→aG→SV×List Blk)(K:aG→aG→Bool):List SV→List Blk→Option ((SV×List Blk)×Bool)
 |[(.agg [.imm true 1 c0, .imm true 1 c1,li c2,li c3,li c4,li c5, .lit (.bool c6), .lit (.bool c7), .imm true 1 c8, .imm true 5 c9, .lit (.bool c10), .lit (.bool c11)]),(.agg [.imm true 1 c12, .imm true 1 c13,li c14,li c15,li c16,li c17, .lit (.bool c18), .lit (.bool c19), .imm true 1 c20, .imm true 5 c21, .lit (.bool c22), .lit (.bool c23)])],[]=>some (N (aG.mk (aJ.mk c0 c1 c2 c3 c4 c5 c6 c7) (bM.mk c8 c9) c10 c11) (aG.mk (aJ.mk c12 c13 c14 c15 c16 c17 c18 c19) (bM.mk c20 c21) c22 c23),K (aG.mk (aJ.mk c0 c1 c2 c3 c4 c5 c6 c7) (bM.mk c8 c9) c10 c11) (aG.mk (aJ.mk c12 c13 c14 c15 c16 c17 c18 c19) (bM.mk c20 c21) c22 c23))
 |_,_=>none
theorem bOX{N:aG→aG→SV×List Blk}{K:aG→aG→Bool}{f:Nat}(h: ∀(a:aG)(b:aG),K a b=true→dQ R f (cG1 a b) (cG2 a b)=some (N a b)):cP f (bOW N K):=fun _ _ _ e=>by
 unfold bOW at e;split at e
 ·exact yF e (h _ _)
 ·cases e
def T11(a:aG)(b:aG):Pt (Bool):=(.ok true (.ok ((k13 a.R b.R)&&((((k82 a.Bus b.Bus)&&true)||(!(g13 a.R b.R)))&&true)) (.ok true (.ok true (.leaf (bif (bif (bif (g13 a.R b.R)then(g82 a.Bus b.Bus)else false)then(AX a.Stop b.Stop)else false)then(AX a.Halt b.Halt)else false))))))
def g11(a:aG)(b:aG):Bool:=hid (T11 a b).val
def k11(a:aG)(b:aG):Bool:=hid (T11 a b).okv
def n11(a:aG)(b:aG)(r:Bool):SV×List Blk:=((.one (.lit (.bool r))),[])
def q11:=bOW (fun a b=>n11 a b (g11 a b)) k11
theorem t11:cP 100011 q11:=bOX fun a b hk=>tz b7G a7P [(6,K6),(8,K6),(12,K7),(14,K7),(19,rV),(21,rV),(26,rV),(28,rV)] [] true (T11 a b) (n11 a b) hk
def Q11:=bD 100011 q11 Q82
theorem a7Q:QO Q11:=aH t11 a7P
section
variable(a:aG)
def a7R:Bool:=((((s1 true)&&(r1 a.R.D))&&(((s1 true)&&(r1 a.R.A))&&((s1 a.R.Other)&&((s1 a.R.PC)&&((s1 a.R.Flags)&&((s1 a.R.Mask)&&((s1 a.R.Super)&&((s1 a.R.Trace)&&(((s1 true)&&(r1 a.Bus.Bytes))&&(((s1 true)&&(r1 a.Bus.Log))&&((s1 a.Stop)&&((s1 a.Halt)&&true))))))))))))&&((fA (oL (KD a)).1 true)&&((eP (oL (KD a)).2 true)&&((fA (oL (KD a)).1 true)&&(fK (oL (KD a)).1 ((eP (oL (KD a)).2 true)&&true))))))
def aTQ:Bool:=((aM (oL (KD a)).1 true)&&true)
end
def T43(a:aG):Pt (aG×aL×Bool):=(.ok true (.ok ((bC6 a)&&true) (.br (!(bC5 a)) (.ok true (.ok true (.ok true (.leaf ((aG.mk (aJ.mk [] [] 0 0 0 0 false false) (bM.mk [] []) false false),(aL.mk 0 0 0 0 false),false))))) (.ok ((k74 a)&&true) (.ok ((cG (KD a) (bEF (KD a)))&&true) (.ok (((s1 true)&&true)&&(a7R a)) (.ok ((aM (oL (KD a)).1 true)&&(aTQ a)) (.ok (aTQ a) (.leaf ((oL (KD a)).1,(oL (KD a)).2,true))))))))))
def g43(a:aG):aG×aL×Bool:=hid (T43 a).val
def k43(a:aG):Bool:=hid (T43 a).okv
def n43(a:aG)(r:aG×aL×Bool):SV×List Blk:=((.tup [(.agg [.imm true 1 r.1.R.D, .imm true 1 r.1.R.A,li r.1.R.Other,li r.1.R.PC,li r.1.R.Flags,li r.1.R.Mask, .lit (.bool r.1.R.Super), .lit (.bool r.1.R.Trace), .imm true 1 r.1.Bus.Bytes, .imm true 5 r.1.Bus.Log, .lit (.bool r.1.Stop), .lit (.bool r.1.Halt)]),(.agg [li r.2.1.Vector,li r.2.1.PC,li r.2.1.Addr,li r.2.1.Word, .lit (.bool r.2.1.Write)]),(.one (.lit (.bool r.2.2)))]),[])
def q43:=TL (fun a=>n43 a (g43 a)) k43
theorem t43:cP 100043 q43:=BU fun a hk=>tz b7Q a7Q [(7,K8),(12,K8),(15,K8),(16,YM)] [] true (T43 a) (n43 a) hk
def Q43:=bD 100043 q43 Q11
theorem a7S:QO Q43:=aH t43 a7Q
section
variable(a:aL)
def a7T:Bool:=(bif (!(uF a.Vector 2 21))then true else(!(g73 a.PC)))
def a7U:Bool:=(bif (a7T a)then true else(!(g73 a.Addr)))
end
def T28(a:aL):Pt (Bool):=(.ok true (.ok ((xP a.Vector 2 21)&&((((k73 a.PC)&&true)||(!(uF a.Vector 2 21)))&&((((k73 a.Addr)&&true)||(a7T a))&&((((k73 a.Word)&&true)||(a7U a))&&true)))) (.br (bif (a7U a)then true else(!(g73 a.Word))) (.ok true (.ok true (.ok true (.leaf false)))) (.ok ((bEI a)&&true) (.ok true (.ok true (.leaf (bif (bEH a)then true else(bif (eqI a.Addr 0)then(!a.Write)else false)))))))))
def g28(a:aL):Bool:=hid (T28 a).val
def k28(a:aL):Bool:=hid (T28 a).okv
def q28:=bEG (fun a=>bEJ a (g28 a)) k28
theorem t28:cP 100028 q28:=a4T fun a hk=>tz b7L a7S [(4,K0),(9,K0),(15,K0),(21,K0),(25,YM),(29,K0),(33,rV)] [] true (T28 a) (bEJ a) hk
def Q28:=bD 100028 q28 Q43
theorem a7V:QO Q28:=aH t28 a7S
def cG6(a:aG)(b:aL):List SV:=[(.agg [.imm true 1 a.R.D, .imm true 1 a.R.A,li a.R.Other,li a.R.PC,li a.R.Flags,li a.R.Mask, .lit (.bool a.R.Super), .lit (.bool a.R.Trace), .imm true 1 a.Bus.Bytes, .imm true 5 a.Bus.Log, .lit (.bool a.Stop), .lit (.bool a.Halt)]),(.agg [li b.Vector,li b.PC,li b.Addr,li b.Word, .lit (.bool b.Write)])]
def cG7(a:aG)(b:aL):List Blk:=[]
def bOY(N:aG→aL→SV×List Blk)(K:aG→aL→Bool):List SV→List Blk→Option ((SV×List Blk)×Bool)
 |[(.agg [.imm true 1 c0, .imm true 1 c1,li c2,li c3,li c4,li c5, .lit (.bool c6), .lit (.bool c7), .imm true 1 c8, .imm true 5 c9, .lit (.bool c10), .lit (.bool c11)]),(.agg [li c12,li c13,li c14,li c15, .lit (.bool c16)])],[]=>some (N (aG.mk (aJ.mk c0 c1 c2 c3 c4 c5 c6 c7) (bM.mk c8 c9) c10 c11) (aL.mk c12 c13 c14 c15 c16),K (aG.mk (aJ.mk c0 c1 c2 c3 c4 c5 c6 c7) (bM.mk c8 c9) c10 c11) (aL.mk c12 c13 c14 c15 c16))
 |_,_=>none
theorem bOZ{N:aG→aL→SV×List Blk}{K:aG→aL→Bool}{f:Nat}(h: ∀(a:aG)(b:aL),K a b=true→dQ R f (cG6 a b) (cG7 a b)=some (N a b)):cP f (bOY N K):=fun _ _ _ e=>by
 unfold bOY at e;split at e
 ·exact yF e (h _ _)
 ·cases e
section
variable(a:aG)(b:aL)
def YT:Bool:=((aM (XC b (KD a)) true)&&true)
end
def T24(a:aG)(b:aL):Pt (aG×Bool):=(.ok true (.ok ((k30 a)&&((((k28 b)&&true)||(bif (!(g30 a))then true else a.Halt))&&true)) (.br (bif (bif (!(g30 a))then true else a.Halt)then true else(!(g28 b))) (.ok true (.ok true (.ok true (.leaf ((aG.mk (aJ.mk [] [] 0 0 0 0 false false) (bM.mk [] []) false false),false))))) (.ok ((k74 a)&&true) (.ok ((cG (KD a) (aGI b (KD a)))&&true) (.ok true (.ok ((aM (XC b (KD a)) true)&&(YT a b)) (.ok (YT a b) (.leaf ((XC b (KD a)),true))))))))))
def g24(a:aG)(b:aL):aG×Bool:=hid (T24 a b).val
def k24(a:aG)(b:aL):Bool:=hid (T24 a b).okv
def n24(a:aG)(b:aL)(r:aG×Bool):SV×List Blk:=((.tup [(.agg [.imm true 1 r.1.R.D, .imm true 1 r.1.R.A,li r.1.R.Other,li r.1.R.PC,li r.1.R.Flags,li r.1.R.Mask, .lit (.bool r.1.R.Super), .lit (.bool r.1.R.Trace), .imm true 1 r.1.Bus.Bytes, .imm true 5 r.1.Bus.Log, .lit (.bool r.1.Stop), .lit (.bool r.1.Halt)]),(.one (.lit (.bool r.2)))]),[])
def q24:=bOY (fun a b=>n24 a b (g24 a b)) k24
theorem t24:cP 100024 q24:=bOZ fun a b hk=>tz b7K a7V [(7,K8),(12,rV),(15,YM),(20,K8),(22,YM),(24,K8)] [] true (T24 a b) (n24 a b) hk
def Q24:=bD 100024 q24 Q28
theorem a7W:QO Q24:=aH t24 a7V
def a7X(a:List Row):Pt (aG×Int):=(.ok true (.ok true (.ok ((k71 (aN.mk a 0 0))&&((k90 [(aY (-1)),(aY 0),(aY 1),(aY 3),(aY 8),(aY 20),(aY 60),(aY 61)] (g71 (aN.mk a 0 0)).1)&&true)) (.ok ((aM (g71 (aN.mk a 0 0)).2 true)&&((aM (g71 (aN.mk a 0 0)).2 true)&&true)) (.leaf ((g71 (aN.mk a 0 0)).2,(PP [(aY (-1)),(aY 0),(aY 1),(aY 3),(aY 8),(aY 20),(aY 60),(aY 61)] (g71 (aN.mk a 0 0)).1).2))))))
def aNV(a:List Row):aG×Int:=hid (a7X a).val
def bO0(a:List Row):Bool:=hid (a7X a).okv
def b3S(a:List Row)(r:aG×Int):SV×List Blk:=((.tup [(.agg [.sl 0 0 (ln r.1.R.D), .sl 1 0 (ln r.1.R.A),li r.1.R.Other,li r.1.R.PC,li r.1.R.Flags,li r.1.R.Mask, .lit (.bool r.1.R.Super), .lit (.bool r.1.R.Trace), .sl 2 0 (ln r.1.Bus.Bytes), .sl 3 0 (ln r.1.Bus.Log), .lit (.bool r.1.Stop), .lit (.bool r.1.Halt)]),(.one (li r.2))]),[.lst 1 r.1.R.D, .lst 1 r.1.R.A, .lst 1 r.1.Bus.Bytes, .lst 5 r.1.Bus.Log])
def q121:=aGB (fun a=>b3S a (aNV a)) bO0
theorem cHA:cP 121 q121:=M9 fun a hk=>tc bWN a7W [] [] true (a7X a) (b3S a) hk
def Q121:=bD 121 q121 Q24
theorem aTR:QO Q121:=aH cHA a7W
def T44(a:List Row):Pt (aG×Int):=(.ok true (.ok ((bO0 a)&&true) (.ok ((aM (aNV a).1 true)&&((aM (aNV a).1 true)&&true)) (.ok ((aM (aNV a).1 true)&&true) (.leaf ((aNV a).1,(aNV a).2))))))
def EJ(a:List Row):aG×Int:=hid (T44 a).val
def k44(a:List Row):Bool:=hid (T44 a).okv
def n44(a:List Row)(r:aG×Int):SV×List Blk:=((.tup [(.agg [.imm true 1 r.1.R.D, .imm true 1 r.1.R.A,li r.1.R.Other,li r.1.R.PC,li r.1.R.Flags,li r.1.R.Mask, .lit (.bool r.1.R.Super), .lit (.bool r.1.R.Trace), .imm true 1 r.1.Bus.Bytes, .imm true 5 r.1.Bus.Log, .lit (.bool r.1.Stop), .lit (.bool r.1.Halt)]),(.one (li r.2))]),[])
def q44:=aGB (fun a=>n44 a (EJ a)) k44
theorem t44:cP 100044 q44:=M9 fun a hk=>tz b7R aTR [] [] true (T44 a) (n44 a) hk
def Q44:=bD 100044 q44 Q121
theorem aNW:QO Q44:=aH t44 aTR
def cHB(a:aG)(b:Int):List SV:=[(.agg [.imm true 1 a.R.D, .imm true 1 a.R.A,li a.R.Other,li a.R.PC,li a.R.Flags,li a.R.Mask, .lit (.bool a.R.Super), .lit (.bool a.R.Trace), .imm true 1 a.Bus.Bytes, .imm true 5 a.Bus.Log, .lit (.bool a.Stop), .lit (.bool a.Halt)]),(.one (li b))]
def cHC(a:aG)(b:Int):List Blk:=[]
def bF9(N:aG→Int→SV×List Blk)(K:aG→Int→Bool):List SV→List Blk→Option ((SV×List Blk)×Bool)
 |[(.agg [.imm true 1 c0, .imm true 1 c1,li c2,li c3,li c4,li c5, .lit (.bool c6), .lit (.bool c7), .imm true 1 c8, .imm true 5 c9, .lit (.bool c10), .lit (.bool c11)]),(.one (li c12))],[]=>some (N (aG.mk (aJ.mk c0 c1 c2 c3 c4 c5 c6 c7) (bM.mk c8 c9) c10 c11) c12,K (aG.mk (aJ.mk c0 c1 c2 c3 c4 c5 c6 c7) (bM.mk c8 c9) c10 c11) c12)
 |_,_=>none
theorem a7Y{N:aG→Int→SV×List Blk}{K:aG→Int→Bool}{f:Nat}(h: ∀(a:aG)(b:Int),K a b=true→dQ R f (cHB a b) (cHC a b)=some (N a b)):cP f (bF9 N K):=fun _ _ _ e=>by
 unfold bF9 at e;split at e
 ·exact yF e (h _ _)
 ·cases e
structure V45_0 where
 mk::
 (b0:aG)
 (b1:aG)
 (s1:Int)
 (s8:List Row)
section
variable(v:V45_0)
def AJ:Nat:=(ln (v.s8++[(aY (PY v.b1).2)]))
end
def YU(v:V45_0):Pt (Option V45_0):=(.ok ((nX (0+(ln v.s8)) (ln v.s8))&&true) (.br (bif (bif (ltI (bX v.s8) v.s1)then(!v.b1.Stop)else false)then(!v.b1.Halt)else false) (.ok ((cG v.b1 (a42 v.b1))&&(((e1 (ln v.s8))&&((dZ (0+(ln v.s8)) (ln v.s8))&&((nX (qY ((ln v.s8)+1) 8) 140737488355328)&&(nX ((ln v.s8)+1) 140737488355328))))&&true)) (.ok (((aM v.b0 true)&&((aM (PY v.b1).1 true)&&(aM v.b0 (aM (PY v.b1).1 ((e1 (AJ v))&&true)))))&&((e1 (AJ v))&&true)) (.leaf (some {v with b1:=(PY v.b1).1,s8:=(v.s8++[(aY (PY v.b1).2)])})))) (.leaf none)))
def aGN(v:V45_0):St:=⟨[(1,(.one (li v.s1))),(4,(.one (.ptr 0 0 0))),(7,(.one (.ptr 1 0 0))),(8,(.one (.sl 10 0 (ln v.s8))))],[.box [.sl 2 0 (ln v.b0.R.D), .sl 3 0 (ln v.b0.R.A),li v.b0.R.Other,li v.b0.R.PC,li v.b0.R.Flags,li v.b0.R.Mask, .lit (.bool v.b0.R.Super), .lit (.bool v.b0.R.Trace), .sl 4 0 (ln v.b0.Bus.Bytes), .sl 5 0 (ln v.b0.Bus.Log), .lit (.bool v.b0.Stop), .lit (.bool v.b0.Halt)], .box [.sl 6 0 (ln v.b1.R.D), .sl 7 0 (ln v.b1.R.A),li v.b1.R.Other,li v.b1.R.PC,li v.b1.R.Flags,li v.b1.R.Mask, .lit (.bool v.b1.R.Super), .lit (.bool v.b1.R.Trace), .sl 8 0 (ln v.b1.Bus.Bytes), .sl 9 0 (ln v.b1.Bus.Log), .lit (.bool v.b1.Stop), .lit (.bool v.b1.Halt)], .lst 1 v.b0.R.D, .lst 1 v.b0.R.A, .lst 1 v.b0.Bus.Bytes, .lst 5 v.b0.Bus.Log, .lst 1 v.b1.R.D, .lst 1 v.b1.R.A, .lst 1 v.b1.Bus.Bytes, .lst 5 v.b1.Bus.Log, .lst 1 v.s8]⟩
def aTS:St→Option (V45_0×Bool)
 |⟨[(1,(.one (li c16))),(4,(.one (.ptr 0 0 0))),(7,(.one (.ptr 1 0 0))),(8,(.one (.sl 10 0 l10)))],[.box [.sl 2 0 l2, .sl 3 0 l3,li c0,li c1,li c2,li c3, .lit (.bool c4), .lit (.bool c5), .sl 4 0 l4, .sl 5 0 l5, .lit (.bool c6), .lit (.bool c7)], .box [.sl 6 0 l6, .sl 7 0 l7,li c8,li c9,li c10,li c11, .lit (.bool c12), .lit (.bool c13), .sl 8 0 l8, .sl 9 0 l9, .lit (.bool c14), .lit (.bool c15)], .lst 1 c_2, .lst 1 c_3, .lst 1 c_4, .lst 5 c_5, .lst 1 c_6, .lst 1 c_7, .lst 1 c_8, .lst 5 c_9, .lst 1 c_10]⟩=>some ((V45_0.mk (aG.mk (aJ.mk c_2 c_3 c0 c1 c2 c3 c4 c5) (bM.mk c_4 c_5) c6 c7) (aG.mk (aJ.mk c_6 c_7 c8 c9 c10 c11 c12 c13) (bM.mk c_8 c_9) c14 c15) c16 c_10),dZ l2 (ln c_2)&&(dZ l3 (ln c_3)&&(dZ l4 (ln c_4)&&(dZ l5 (ln c_5)&&(dZ l6 (ln c_6)&&(dZ l7 (ln c_7)&&(dZ l8 (ln c_8)&&(dZ l9 (ln c_9)&&(dZ l10 (ln c_10)&&(true))))))))))
 |_=>none
def aNX:St→Option (Pt Out):=xN Q44 [(9,K8),(18,K8),(27,rV),(32,rV),(39,K8)] [] true [] 0 2097152 a0G
theorem bO1(v:V45_0):((aNX (aGN v)).bind (rW true false 0 [1,4,7,8]))=some ((YU v).map (Option.map aGN)):=by kernel_rfl
theorem bO2(σ:St)(v:V45_0)(h:aTS σ=some (v,true)):σ=aGN v:=by
 unfold aTS at h;split at h
 ·obtain⟨hr,hk⟩:=Prod.mk.inj (Option.some.inj h);obtain⟨d0,hk0⟩:=bI hk;obtain⟨d1,hk1⟩:=bI hk0;obtain⟨d2,hk2⟩:=bI hk1;obtain⟨d3,hk3⟩:=bI hk2;obtain⟨d4,hk4⟩:=bI hk3;obtain⟨d5,hk5⟩:=bI hk4;obtain⟨d6,hk6⟩:=bI hk5;obtain⟨d7,hk7⟩:=bI hk6;obtain⟨d8,hk8⟩:=bI hk7;obtain rfl:=of_decide_eq_true d0;obtain rfl:=of_decide_eq_true d1;obtain rfl:=of_decide_eq_true d2;obtain rfl:=of_decide_eq_true d3;obtain rfl:=of_decide_eq_true d4;obtain rfl:=of_decide_eq_true d5;obtain rfl:=of_decide_eq_true d6;obtain rfl:=of_decide_eq_true d7;obtain rfl:=of_decide_eq_true d8;rw[←hr];rfl
 ·simp at h
theorem bO3:cY (uB true false 0 [1,4,7,8] aNX aTS aGN YU 2097152) (fT R 0 2097152 (.loop [1,4,7,8] a0G)):=eE (cZ aNW (cI (l:=[]) (by kernel_rfl) trivial)) bO2 bO1
def bO4:Lp:=(21,uB true false 0 [1,4,7,8] aNX aTS aGN YU 2097152)::[]
def aTT(v:V45_0):V45_0:=(hid (dW YU 2097152 v)).getD v
def a7Z(v:V45_0):Bool:=(hid (dW YU 2097152 v)).isSome
section
variable(a:aG)(b:Int)
def PB:V45_0:=(aTT (V45_0.mk (aG.mk (aJ.mk [] [] 0 0 0 0 false false) (bM.mk [] []) false false) (KD a) b []))
def aGO:Bool:=((e1 (ln (PB a b).s8))&&true)
def aGP:Bool:=((aM (PB a b).b1 true)&&(aGO a b))
end
def T45(a:aG)(b:Int):Pt (aG×List Row×Bool):=(.ok true (.ok ((k30 a)&&((((xP b 0 60)&&true)||(!(g30 a)))&&true)) (.br (bif (!(g30 a))then true else(!(uF b 0 60))) (.ok true (.ok true (.ok true (.leaf ((aG.mk (aJ.mk [] [] 0 0 0 0 false false) (bM.mk [] []) false false),[],false))))) (.ok ((k74 a)&&true) (.ok true (.ok (((aM (KD a) true)&&(aM (KD a) true))&&true) (.ok (aM (KD a) true) (.ok (a7Z (V45_0.mk (aG.mk (aJ.mk [] [] 0 0 0 0 false false) (bM.mk [] []) false false) (KD a) b [])) (.ok true (.ok ((aM (PB a b).b1 (aGO a b))&&(aGP a b)) (.ok (aGP a b) (.leaf ((PB a b).b1,(PB a b).s8,true)))))))))))))
def g45(a:aG)(b:Int):aG×List Row×Bool:=hid (T45 a b).val
def k45(a:aG)(b:Int):Bool:=hid (T45 a b).okv
def n45(a:aG)(b:Int)(r:aG×List Row×Bool):SV×List Blk:=((.tup [(.agg [.imm true 1 r.1.R.D, .imm true 1 r.1.R.A,li r.1.R.Other,li r.1.R.PC,li r.1.R.Flags,li r.1.R.Mask, .lit (.bool r.1.R.Super), .lit (.bool r.1.R.Trace), .imm true 1 r.1.Bus.Bytes, .imm true 5 r.1.Bus.Log, .lit (.bool r.1.Stop), .lit (.bool r.1.Halt)]),(.one (.imm true 1 r.2.1)),(.one (.lit (.bool r.2.2)))]),[])
def q45:=bF9 (fun a b=>n45 a b (g45 a b)) k45
theorem cHD:fN (fun live x=>cY (nL bO4 (lV x)) (fT R 0 2097152 (.loop live x))) F45.body:=(cI (l:=[([1,4,7,8],a0G)]) (by kernel_rfl) ⟨fH (n:=21) (by kernel_rfl) fun σ σr t h ho hl=>bO3 σ σr t h ho hl,trivial⟩)
theorem t45:cP 100045 q45:=a7Y fun a b hk=>tzl b7S aNW cHD [(9,K8),(18,K8),(27,rV),(32,rV),(39,K8)] [] true (T45 a b) (n45 a b) hk
def Q45:=bD 100045 q45 Q44
theorem a70:QO Q45:=aH t45 aNW
def cHE(a:aG):List SV:=[(.agg [.imm false 1 a.R.D, .imm false 1 a.R.A,li a.R.Other,li a.R.PC,li a.R.Flags,li a.R.Mask, .lit (.bool a.R.Super), .lit (.bool a.R.Trace), .imm false 1 a.Bus.Bytes, .imm false 5 a.Bus.Log, .lit (.bool a.Stop), .lit (.bool a.Halt)])]
def cHF(a:aG):List Blk:=[]
def bGA(N:aG→SV×List Blk)(K:aG→Bool):List SV→List Blk→Option ((SV×List Blk)×Bool)
 |[(.agg [.imm false 1 c0, .imm false 1 c1,li c2,li c3,li c4,li c5, .lit (.bool c6), .lit (.bool c7), .imm false 1 c8, .imm false 5 c9, .lit (.bool c10), .lit (.bool c11)])],[]=>some (N (aG.mk (aJ.mk c0 c1 c2 c3 c4 c5 c6 c7) (bM.mk c8 c9) c10 c11),K (aG.mk (aJ.mk c0 c1 c2 c3 c4 c5 c6 c7) (bM.mk c8 c9) c10 c11))
 |_,_=>none
theorem a71{N:aG→SV×List Blk}{K:aG→Bool}{f:Nat}(h: ∀(a:aG),K a=true→dQ R f (cHE a) (cHF a)=some (N a)):cP f (bGA N K):=fun _ _ _ e=>by
 unfold bGA at e;split at e
 ·exact yF e (h _)
 ·cases e
section
variable(a:aG)
def B8:Bool:=(cA (dB (eM a)).1 (KO (dB (eM a)).1))
def tE:aL:={(dB (eM a)).1.ffault with Vector:=8}
def rH:aQ:={(dB (eM a)).1 with ffault:=(tE a)}
def FS:Bool:=((cA (dB (eM a)).1 (KO (rH a)))&&true)
def gT:aQ:=(aXN (dB (eM a)).2.1 (eM a).fr.PC {(dB (eM a)).1 with fr:={(dB (eM a)).1.fr with PC:=(bF (bE (eM a).fr.PC (dE 2 (dB (eM a)).2.2)) 65535)},ffault:=(tE a)})
def B9:Bool:=(((dd (aO (iJ a.R) (bN (gT a).fbus true)) (aO (iJ a.R) (bN (gT a).fbus (I5 {(gT a)with fr:=(iJ a.R),fstop:=a.Stop}))))&&true)&&true)
def yH:Bool:=(((s1 false)&&(r1 a.R.D))&&(((s1 false)&&(r1 a.R.A))&&((s1 a.R.Other)&&((s1 a.R.PC)&&((s1 a.R.Flags)&&((s1 a.R.Mask)&&((s1 a.R.Super)&&((s1 a.R.Trace)&&(((s1 false)&&(r1 a.Bus.Bytes))&&(((s1 false)&&(r1 a.Bus.Log))&&((s1 a.Stop)&&((s1 a.Halt)&&true))))))))))))
def vQ:aG:=(uC {(gT a)with fr:=(iJ a.R),fstop:=a.Stop})
def FT:Bool:=((yH a)&&((fA (vQ a) true)&&((eP (gT a).ffault true)&&((fW (iJ a.R) (dO (gT a).fbus ((s1 a.Stop)&&(eP (gT a).ffault true))))&&((nN (dB (eM a)).2.1 true)&&(eZ (gT a).fr (eZ (iJ a.R) (dI (gT a).fbus (fK (vQ a) true)))))))))
def FU:Bool:=(aO (iJ a.R) (bN (dB (eM a)).1.fbus true))
def xE:Bool:=(((dd (FU a) (aO (iJ a.R) (bN (dB (eM a)).1.fbus (I5 (aQ.mk (iJ a.R) (dB (eM a)).1.fbus a.Stop (tE a))))))&&true)&&true)
def rI:aG:=(uC (aQ.mk (iJ a.R) (dB (eM a)).1.fbus a.Stop (tE a)))
def AK:Bool:=((s1 (8:Int))&&((s1 (dB (eM a)).1.ffault.PC)&&((s1 (dB (eM a)).1.ffault.Addr)&&((s1 (dB (eM a)).1.ffault.Word)&&((s1 (dB (eM a)).1.ffault.Write)&&true)))))
def AL:Bool:=((yH a)&&((fA (rI a) true)&&((AK a)&&((fW (iJ a.R) (dO (dB (eM a)).1.fbus ((s1 a.Stop)&&(AK a))))&&((nN (dB (eM a)).2.1 true)&&(eZ (dB (eM a)).1.fr (eZ (iJ a.R) (dI (dB (eM a)).1.fbus (fK (rI a) true)))))))))
def fC:aQ:=(aXN (dB (eM a)).2.1 (eM a).fr.PC {(dB (eM a)).1 with fr:={(dB (eM a)).1.fr with PC:=(bF (bE (eM a).fr.PC (dE 2 (dB (eM a)).2.2)) 65535)}})
def xF:Bool:=(((dd (aO (iJ a.R) (bN (fC a).fbus true)) (aO (iJ a.R) (bN (fC a).fbus (I5 {(fC a)with fr:=(iJ a.R),fstop:=a.Stop}))))&&true)&&true)
def rJ:aG:=(uC {(fC a)with fr:=(iJ a.R),fstop:=a.Stop})
def AM:Bool:=((yH a)&&((fA (rJ a) true)&&((eP (fC a).ffault true)&&((fW (iJ a.R) (dO (fC a).fbus ((s1 a.Stop)&&(eP (fC a).ffault true))))&&((nN (dB (eM a)).2.1 true)&&(eZ (fC a).fr (eZ (iJ a.R) (dI (fC a).fbus (fK (rJ a) true)))))))))
def xG:Bool:=(((dd (FU a) (aO (iJ a.R) (bN (dB (eM a)).1.fbus (I5 {(dB (eM a)).1 with fr:=(iJ a.R),fstop:=a.Stop}))))&&true)&&true)
def rK:aG:=(uC {(dB (eM a)).1 with fr:=(iJ a.R),fstop:=a.Stop})
def AN:Bool:=((yH a)&&((fA (rK a) true)&&((eP (dB (eM a)).1.ffault true)&&((fW (iJ a.R) (dO (dB (eM a)).1.fbus ((s1 a.Stop)&&(eP (dB (eM a)).1.ffault true))))&&((nN (dB (eM a)).2.1 true)&&(eZ (dB (eM a)).1.fr (eZ (iJ a.R) (dI (dB (eM a)).1.fbus (fK (rK a) true)))))))))
end
def aGQ(a:aG):Pt (aG×aL):=(.ok true (.ok ((k78 a)&&true) (.ok true (.ok ((cA (eM a) (bFB (eM a)))&&true) (.ok ((B8 a)&&((((bFD (dB (eM a)).2.1)&&true)||(!(CT (dB (eM a)).1)))&&true)) (.br (bif (bif (CT (dB (eM a)).1)then(bFC (dB (eM a)).2.1)else false)then(!(dB (eM a)).1.fr.Super)else false) (.ok true (.ok (FS a) (.br (CT (rH a)) (.ok true (.ok ((cA (dB (eM a)).1 (aXO (dB (eM a)).2.1 (eM a).fr.PC {(dB (eM a)).1 with fr:={(dB (eM a)).1.fr with PC:=(bF (bE (eM a).fr.PC (dE 2 (dB (eM a)).2.2)) 65535)},ffault:=(tE a)}))&&true) (.ok ((cA (gT a) (KO (gT a)))&&true) (.br (CT (gT a)) (.ok ((cA (gT a) (I5 (gT a)))&&true) (.ok ((aM (uC (gT a)) true)&&((aM (uC (gT a)) true)&&true)) (.leaf ((uC (gT a)),(aL.mk 0 0 0 0 false))))) (.ok ((VB a.R)&&true) (.ok true (.ok ((B9 a)&&(((B9 a)&&((B9 a)&&(FT a)))&&(FT a))) (.ok ((aM (vQ a) true)&&((aM (vQ a) true)&&true)) (.leaf ((vQ a),(gT a).ffault)))))))))) (.ok (FS a) (.br (CT (rH a)) (.ok ((cA (dB (eM a)).1 (I5 (rH a)))&&true) (.ok ((aM (uC (rH a)) true)&&((aM (uC (rH a)) true)&&true)) (.leaf ((uC (rH a)),(aL.mk 0 0 0 0 false))))) (.ok ((VB a.R)&&true) (.ok true (.ok ((xE a)&&(((xE a)&&((xE a)&&(AL a)))&&(AL a))) (.ok ((aM (rI a) true)&&((aM (rI a) true)&&true)) (.leaf ((rI a),(tE a)))))))))))) (.ok ((B8 a)&&true) (.br (CT (dB (eM a)).1) (.ok true (.ok ((cA (dB (eM a)).1 (aXO (dB (eM a)).2.1 (eM a).fr.PC {(dB (eM a)).1 with fr:={(dB (eM a)).1.fr with PC:=(bF (bE (eM a).fr.PC (dE 2 (dB (eM a)).2.2)) 65535)}}))&&true) (.ok ((cA (fC a) (KO (fC a)))&&true) (.br (CT (fC a)) (.ok ((cA (fC a) (I5 (fC a)))&&true) (.ok ((aM (uC (fC a)) true)&&((aM (uC (fC a)) true)&&true)) (.leaf ((uC (fC a)),(aL.mk 0 0 0 0 false))))) (.ok ((VB a.R)&&true) (.ok true (.ok ((xF a)&&(((xF a)&&((xF a)&&(AM a)))&&(AM a))) (.ok ((aM (rJ a) true)&&((aM (rJ a) true)&&true)) (.leaf ((rJ a),(fC a).ffault)))))))))) (.ok ((B8 a)&&true) (.br (CT (dB (eM a)).1) (.ok ((cA (dB (eM a)).1 (I5 (dB (eM a)).1))&&true) (.ok ((aM (uC (dB (eM a)).1) true)&&((aM (uC (dB (eM a)).1) true)&&true)) (.leaf ((uC (dB (eM a)).1),(aL.mk 0 0 0 0 false))))) (.ok ((VB a.R)&&true) (.ok true (.ok ((xG a)&&(((xG a)&&((xG a)&&(AN a)))&&(AN a))) (.ok ((aM (rK a) true)&&((aM (rK a) true)&&true)) (.leaf ((rK a),(dB (eM a)).1.ffault))))))))))))))))
def fD(a:aG):aG×aL:=hid (aGQ a).val
def a72(a:aG):Bool:=hid (aGQ a).okv
def q87v1:=bGA (fun a=>n87 a (fD a)) a72
theorem b3V:cP 87 q87v1:=a71 fun a hk=>tc bV7 a70 [(8,K8),(14,K0),(23,K5),(31,rV),(50,K5),(60,K6),(66,rV),(74,YM)] [] true (aGQ a) (n87 a) hk
def Q87v1:=bD 87 q87v1 Q45
theorem aGR:QO Q87v1:=aH b3V a70
section
variable(a:aG)
def AO:Bool:=(((s1 false)&&(r1 a.R.D))&&(((s1 false)&&(r1 a.R.A))&&((s1 a.R.Other)&&((s1 a.R.PC)&&((s1 a.R.Flags)&&((s1 a.R.Mask)&&((s1 a.R.Super)&&((s1 a.R.Trace)&&(((s1 false)&&(r1 a.Bus.Bytes))&&(((s1 false)&&(r1 a.Bus.Log))&&((s1 a.Stop)&&((s1 a.Halt)&&true))))))))))))
def gV:aG:=(P2 (fD a).1 (fD a).2 (fD a).1.R.Mask)
def KT:Bool:=(((s1 (fD a).2.Vector)&&true)&&((AO a)&&((fA (gV a) true)&&(fK (fD a).1 ((fA (gV a) true)&&((eP (fD a).2 true)&&(fK (gV a) true)))))))
def KU:Bool:=((aM (gV a) true)&&((aM (gV a) true)&&true))
def rL:aG:=(P2 (gV a) (aL.mk 9 (gV a).R.PC 0 0 false) (gV a).R.Mask)
def KV:Bool:=((aM (rL a) true)&&((aM (rL a) true)&&true))
def rM:aG:=(P2 (fD a).1 (aL.mk 9 (fD a).1.R.PC 0 0 false) (fD a).1.R.Mask)
def KW:Bool:=((aM (rM a) true)&&((aM (rM a) true)&&true))
end
def VR(a:aG):Pt (aG×Int):=(.ok true (.ok ((a72 a)&&true) (.ok true (.br (dD (fD a).2.Vector 0) (.ok ((((aM (fD a).1 true)&&true)&&(P3 (fD a).1 (fD a).2 (fD a).1.R.Mask))&&true) (.ok true (.br (bif (ltI (fD a).2.Vector 18)then(dD (fD a).2.Vector 5)else false) (.ok (KT a) (.ok (KU a) (.leaf ((gV a),(fD a).2.Vector)))) (.ok true (.br (bif a.R.Trace then(!(gV a).Halt)else false) (.ok ((((aM (gV a) true)&&true)&&(P3 (gV a) (aL.mk 9 (gV a).R.PC 0 0 false) (gV a).R.Mask))&&true) (.ok true (.br (eqI (fD a).2.Vector 0) (.ok true (.ok (KV a) (.leaf ((rL a),9)))) (.ok (((s1 (fD a).2.Vector)&&true)&&((AO a)&&((fA (rL a) true)&&(fK (fD a).1 ((fA (rL a) true)&&((eP (fD a).2 true)&&(fK (gV a) (fK (rL a) true)))))))) (.ok (KV a) (.leaf ((rL a),(fD a).2.Vector))))))) (.ok (KT a) (.ok (KU a) (.leaf ((gV a),(fD a).2.Vector))))))))) (.ok true (.br (bif a.R.Trace then(!(fD a).1.Halt)else false) (.ok ((((aM (fD a).1 true)&&true)&&(P3 (fD a).1 (aL.mk 9 (fD a).1.R.PC 0 0 false) (fD a).1.R.Mask))&&true) (.ok true (.br (eqI (fD a).2.Vector 0) (.ok true (.ok (KW a) (.leaf ((rM a),9)))) (.ok (((s1 (fD a).2.Vector)&&true)&&((AO a)&&((fA (rM a) true)&&(fK (fD a).1 ((fA (rM a) true)&&((eP (fD a).2 true)&&(fK (rM a) true))))))) (.ok (KW a) (.leaf ((rM a),(fD a).2.Vector))))))) (.ok (((s1 (fD a).2.Vector)&&true)&&((AO a)&&((fA (fD a).1 true)&&(fK (fD a).1 ((fA (fD a).1 true)&&((eP (fD a).2 true)&&true)))))) (.ok ((aM (fD a).1 true)&&((aM (fD a).1 true)&&true)) (.leaf ((fD a).1,(fD a).2.Vector))))))))))
def EK(a:aG):aG×Int:=hid (VR a).val
def aD5(a:aG):Bool:=hid (VR a).okv
def q119v1:=bGA (fun a=>bF2 a (EK a)) aD5
theorem bO5:cP 119 q119v1:=a71 fun a hk=>tc bHP aGR [(7,K8),(12,K0),(14,K8),(15,YM),(18,K0),(21,K0),(25,K0),(28,K8),(30,K0),(33,rV),(36,rV),(39,K8),(42,K0),(46,K0),(49,K0),(51,K8),(52,K8),(54,K0)] [] true (VR a) (bF2 a) hk
def Q119v1:=bD 119 q119v1 Q87v1
theorem N8:QO Q119v1:=aH bO5 aGR
structure V46_0 where
 mk::
 (b0:aG)
 (b1:aG)
 (s1:Int)
 (s8:List Row)
section
variable(v:V46_0)
def AP:Nat:=(ln (v.s8++[(aY (EK v.b1).2)]))
end
def YV(v:V46_0):Pt (Option V46_0):=(.ok true (.br (bif (bif (pG v.s1 0)then(!v.b1.Stop)else false)then(!v.b1.Halt)else false) (.ok ((((aM v.b1 true)&&true)&&(aD5 v.b1))&&true) (.ok true (.ok (((e1 (ln v.s8))&&((dZ (0+(ln v.s8)) (ln v.s8))&&((nX (qY ((ln v.s8)+1) 8) 140737488355328)&&(nX ((ln v.s8)+1) 140737488355328))))&&true) (.ok true (.ok (((aM v.b0 true)&&((aM (EK v.b1).1 true)&&(aM v.b0 (aM (EK v.b1).1 ((e1 (AP v))&&true)))))&&((e1 (AP v))&&true)) (.leaf (some (V46_0.mk v.b0 (EK v.b1).1 (cM v.s1 1) (v.s8++[(aY (EK v.b1).2)]))))))))) (.leaf none)))
def aGS(v:V46_0):St:=⟨[(1,(.one (li v.s1))),(4,(.one (.ptr 0 0 0))),(7,(.one (.ptr 1 0 0))),(8,(.one (.sl 10 0 (ln v.s8))))],[.box [.sl 2 0 (ln v.b0.R.D), .sl 3 0 (ln v.b0.R.A),li v.b0.R.Other,li v.b0.R.PC,li v.b0.R.Flags,li v.b0.R.Mask, .lit (.bool v.b0.R.Super), .lit (.bool v.b0.R.Trace), .sl 4 0 (ln v.b0.Bus.Bytes), .sl 5 0 (ln v.b0.Bus.Log), .lit (.bool v.b0.Stop), .lit (.bool v.b0.Halt)], .box [.sl 6 0 (ln v.b1.R.D), .sl 7 0 (ln v.b1.R.A),li v.b1.R.Other,li v.b1.R.PC,li v.b1.R.Flags,li v.b1.R.Mask, .lit (.bool v.b1.R.Super), .lit (.bool v.b1.R.Trace), .sl 8 0 (ln v.b1.Bus.Bytes), .sl 9 0 (ln v.b1.Bus.Log), .lit (.bool v.b1.Stop), .lit (.bool v.b1.Halt)], .lst 1 v.b0.R.D, .lst 1 v.b0.R.A, .lst 1 v.b0.Bus.Bytes, .lst 5 v.b0.Bus.Log, .lst 1 v.b1.R.D, .lst 1 v.b1.R.A, .lst 1 v.b1.Bus.Bytes, .lst 5 v.b1.Bus.Log, .lst 1 v.s8]⟩
def aTU:St→Option (V46_0×Bool)
 |⟨[(1,(.one (li c16))),(4,(.one (.ptr 0 0 0))),(7,(.one (.ptr 1 0 0))),(8,(.one (.sl 10 0 l10)))],[.box [.sl 2 0 l2, .sl 3 0 l3,li c0,li c1,li c2,li c3, .lit (.bool c4), .lit (.bool c5), .sl 4 0 l4, .sl 5 0 l5, .lit (.bool c6), .lit (.bool c7)], .box [.sl 6 0 l6, .sl 7 0 l7,li c8,li c9,li c10,li c11, .lit (.bool c12), .lit (.bool c13), .sl 8 0 l8, .sl 9 0 l9, .lit (.bool c14), .lit (.bool c15)], .lst 1 c_2, .lst 1 c_3, .lst 1 c_4, .lst 5 c_5, .lst 1 c_6, .lst 1 c_7, .lst 1 c_8, .lst 5 c_9, .lst 1 c_10]⟩=>some ((V46_0.mk (aG.mk (aJ.mk c_2 c_3 c0 c1 c2 c3 c4 c5) (bM.mk c_4 c_5) c6 c7) (aG.mk (aJ.mk c_6 c_7 c8 c9 c10 c11 c12 c13) (bM.mk c_8 c_9) c14 c15) c16 c_10),dZ l2 (ln c_2)&&(dZ l3 (ln c_3)&&(dZ l4 (ln c_4)&&(dZ l5 (ln c_5)&&(dZ l6 (ln c_6)&&(dZ l7 (ln c_7)&&(dZ l8 (ln c_8)&&(dZ l9 (ln c_9)&&(dZ l10 (ln c_10)&&(true))))))))))
 |_=>none
def aNY:St→Option (Pt Out):=xN Q119v1 [(11,K8),(20,K8),(26,rV),(31,rV),(37,K8),(41,K8),(46,K8)] [] true [] 0 2097152 a0H
theorem bO6(v:V46_0):((aNY (aGS v)).bind (rW true false 0 [1,4,7,8]))=some ((YV v).map (Option.map aGS)):=by kernel_rfl
theorem bO7(σ:St)(v:V46_0)(h:aTU σ=some (v,true)):σ=aGS v:=by
 unfold aTU at h;split at h
 ·obtain⟨hr,hk⟩:=Prod.mk.inj (Option.some.inj h);obtain⟨d0,hk0⟩:=bI hk;obtain⟨d1,hk1⟩:=bI hk0;obtain⟨d2,hk2⟩:=bI hk1;obtain⟨d3,hk3⟩:=bI hk2;obtain⟨d4,hk4⟩:=bI hk3;obtain⟨d5,hk5⟩:=bI hk4;obtain⟨d6,hk6⟩:=bI hk5;obtain⟨d7,hk7⟩:=bI hk6;obtain⟨d8,hk8⟩:=bI hk7;obtain rfl:=of_decide_eq_true d0;obtain rfl:=of_decide_eq_true d1;obtain rfl:=of_decide_eq_true d2;obtain rfl:=of_decide_eq_true d3;obtain rfl:=of_decide_eq_true d4;obtain rfl:=of_decide_eq_true d5;obtain rfl:=of_decide_eq_true d6;obtain rfl:=of_decide_eq_true d7;obtain rfl:=of_decide_eq_true d8;rw[←hr];rfl
 ·simp at h
theorem bO8:cY (uB true false 0 [1,4,7,8] aNY aTU aGS YV 2097152) (fT R 0 2097152 (.loop [1,4,7,8] a0H)):=eE (cZ N8 (cI (l:=[]) (by kernel_rfl) trivial)) bO7 bO6
def bO9:Lp:=(22,uB true false 0 [1,4,7,8] aNY aTU aGS YV 2097152)::[]
def aTV(v:V46_0):V46_0:=(hid (dW YV 2097152 v)).getD v
def a73(v:V46_0):Bool:=(hid (dW YV 2097152 v)).isSome
section
variable(a:aG)(b:Int)
def PD:V46_0:=(aTV (V46_0.mk (aG.mk (aJ.mk [] [] 0 0 0 0 false false) (bM.mk [] []) false false) (NY a) b []))
def aGT:Bool:=((e1 (ln (PD a b).s8))&&true)
def aGU:Bool:=((aM (PD a b).b1 true)&&(aGT a b))
end
def T46(a:aG)(b:Int):Pt (aG×List Row×Bool):=(.ok true (.ok ((k76 a)&&((((yV b 0 60)&&true)||(!(g76 a)))&&true)) (.br (bif (!(g76 a))then true else(!(wG b 0 60))) (.ok true (.ok true (.ok true (.leaf ((aG.mk (aJ.mk [] [] 0 0 0 0 false false) (bM.mk [] []) false false),[],false))))) (.ok ((a5N a)&&true) (.ok true (.ok (((aM (NY a) true)&&(aM (NY a) true))&&true) (.ok (aM (NY a) true) (.ok (a73 (V46_0.mk (aG.mk (aJ.mk [] [] 0 0 0 0 false false) (bM.mk [] []) false false) (NY a) b [])) (.ok true (.ok ((aM (PD a b).b1 (aGT a b))&&(aGU a b)) (.ok (aGU a b) (.leaf ((PD a b).b1,(PD a b).s8,true)))))))))))))
def g46(a:aG)(b:Int):aG×List Row×Bool:=hid (T46 a b).val
def k46(a:aG)(b:Int):Bool:=hid (T46 a b).okv
def q46:=bF9 (fun a b=>n45 a b (g46 a b)) k46
theorem cHG:fN (fun live x=>cY (nL bO9 (lV x)) (fT R 0 2097152 (.loop live x))) F46.body:=(cI (l:=[([1,4,7,8],a0H)]) (by kernel_rfl) ⟨fH (n:=22) (by kernel_rfl) fun σ σr t h ho hl=>bO8 σ σr t h ho hl,trivial⟩)
theorem t46:cP 100046 q46:=a7Y fun a b hk=>tzl b7T N8 cHG [(11,K8),(20,K8),(26,rV),(31,rV),(37,K8),(41,K8),(46,K8)] [] true (T46 a b) (n45 a b) hk
def Q46:=bD 100046 q46 Q119v1
theorem bPA:QO Q46:=aH t46 N8
section
variable(a:List Row)(b:List Row)
def P4:Bool:=(bif (!(AX (g41 (CN a)).2.2 (g42 (CN a)).2.2))then true else(dD (g41 (CN a)).2.1 (g42 (CN a)).2.1))
def P5:Bool:=(dD (g41 (CN a)).2.1 (g43 (CN a)).2.1.Vector)
def P6:Bool:=(bif (!(CN a).R.Trace)then(eqI (g41 (CN a)).2.1 0)else false)
def KX:aG×Bool:=(g24 (g43 (CN a)).1 (g43 (CN a)).2.1)
def xU:aG×List Row×Bool:=(g45 (EJ b).1 (EJ b).2)
def GD:aG×List Row×Bool:=(g46 (EJ b).1 (EJ b).2)
def P7:Bool:=(bif (!(AX (xU b).2.2 (GD b).2.2))then true else(!(g14 (xU b).2.1 (GD b).2.1)))
def N9:Bool:=((((k14 (xU b).2.1 (GD b).2.1)&&true)||(!(AX (xU b).2.2 (GD b).2.2)))&&((((k11 (xU b).1 (GD b).1)&&true)||(P7 b))&&true))
def OA:Bool:=(bif (P7 b)then true else(!(g11 (xU b).1 (GD b).1)))
def OB:Bool:=((((((k30 (xU b).1)&&true)||(!(leI (bX (xU b).2.1) (EJ b).2)))&&true)||(!(xU b).2.2))&&true)
def AQ:Bool:=(bif (!(xU b).2.2)then true else(bif (leI (bX (xU b).2.1) (EJ b).2)then(g30 (xU b).1)else false))
end
def T5(a:List Row)(b:List Row):Pt (Bool):=(.ok true (.ok true (.br (pG (bE (bX a) (bX b)) 1048576) (.ok true (.ok true (.leaf true))) (.ok ((k40 a)&&true) (.ok ((k41 (CN a))&&true) (.ok ((k42 (CN a))&&true) (.ok ((((k11 (g41 (CN a)).1 (g42 (CN a)).1)&&true)||(P4 a))&&true) (.br (bif (P4 a)then true else(!(g11 (g41 (CN a)).1 (g42 (CN a)).1))) (.ok true (.ok true (.leaf false))) (.ok true (.br (g41 (CN a)).2.2 (.ok ((k43 (CN a))&&true) (.ok ((((k30 (g41 (CN a)).1)&&true)||(!(g43 (CN a)).2.2))&&true) (.br (bif (bif (bif (!(g43 (CN a)).2.2)then true else(!(g30 (g41 (CN a)).1)))then true else(bif (!(CN a).R.Trace)then(P5 a)else false))then true else(bif (dD (g43 (CN a)).2.1.Vector 0)then(P5 a)else false)) (.ok true (.ok true (.leaf false))) (.ok ((((k11 (g41 (CN a)).1 (g43 (CN a)).1)&&true)||(!(P6 a)))&&true) (.br (bif (P6 a)then(!(g11 (g41 (CN a)).1 (g43 (CN a)).1))else false) (.ok true (.ok true (.leaf false))) (.ok true (.br (bif (!(CN a).R.Trace)then(dD (g41 (CN a)).2.1 0)else false) (.ok ((k24 (g43 (CN a)).1 (g43 (CN a)).2.1)&&true) (.ok ((((k11 (KX a).1 (g41 (CN a)).1)&&true)||(!(KX a).2))&&true) (.br (bif (!(KX a).2)then true else(!(g11 (KX a).1 (g41 (CN a)).1))) (.ok true (.ok true (.leaf false))) (.ok ((k44 b)&&true) (.ok ((k45 (EJ b).1 (EJ b).2)&&true) (.ok ((k46 (EJ b).1 (EJ b).2)&&true) (.ok (N9 b) (.br (OA b) (.ok true (.ok true (.leaf false))) (.ok (OB b) (.ok true (.leaf (AQ b)))))))))))) (.ok ((k44 b)&&true) (.ok ((k45 (EJ b).1 (EJ b).2)&&true) (.ok ((k46 (EJ b).1 (EJ b).2)&&true) (.ok (N9 b) (.br (OA b) (.ok true (.ok true (.leaf false))) (.ok (OB b) (.ok true (.leaf (AQ b)))))))))))))))) (.ok ((k44 b)&&true) (.ok ((k45 (EJ b).1 (EJ b).2)&&true) (.ok ((k46 (EJ b).1 (EJ b).2)&&true) (.ok (N9 b) (.br (OA b) (.ok true (.ok true (.leaf false))) (.ok (OB b) (.ok true (.leaf (AQ b)))))))))))))))))))
def g5(a:List Row)(b:List Row):Bool:=hid (T5 a b).val
def k5(a:List Row)(b:List Row):Bool:=hid (T5 a b).okv
def q5:=bF3 (fun a b=>n14 a b (g5 a b)) k5
theorem t5:cP 5 q5:=a7J fun a b hk=>tc at5 bPA [(34,K8),(40,K8),(54,K8),(55,K8),(61,K8),(69,K8),(76,rV),(81,K0),(87,K0),(92,K0),(98,rV),(105,K8),(106,K8),(112,rV),(119,K8),(120,YM),(127,K8),(128,K8),(138,K8),(145,K8),(161,K8),(162,K8),(174,K8)] [] true (T5 a b) (n14 a b) hk
end
end Go.Proofs.YtdipcnijfkdnfaaGreatWhole
