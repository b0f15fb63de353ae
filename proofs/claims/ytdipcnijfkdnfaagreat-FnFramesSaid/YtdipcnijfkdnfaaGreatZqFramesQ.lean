import Derived.Test.YtdipcnijfkdnfaaGreatZqTabFrames
import Derived.Test.YtdipcnijfkdnfaaGreatZmc
import Derived.KernelRfl
import Derived.Test.YtdipcnijfkdnfaaGreatZqFramesR
import Derived.Test.YtdipcnijfkdnfaaGreatZqFramesQa
set_option linter.unusedVariables false
set_option linter.unusedSimpArgs false
namespace Go.Proofs.YtdipcnijfkdnfaaGreatFrames
open Int renaming toNat → iN
open Go Go.Zq
open List renaming length→ln
set_option maxRecDepth 100000
set_option maxHeartbeats 4000000
noncomputable section
def bBQ(b:Int)(c:Int)(d:Int)(o:Int)(a:bL):List SV:=[(.one (.ptr 0 0 0)),(.one (li b)),(.one (li c)),(.one (li d)),(.one (li o))]
def bBR(b:Int)(c:Int)(d:Int)(o:Int)(a:bL):List Blk:=[.box [.sl 1 0 (ln a.fr.D), .sl 2 0 (ln a.fr.A),li a.fr.Other,li a.fr.PC,li a.fr.Flags,li a.fr.Mask, .lit (.bool a.fr.Super), .lit (.bool a.fr.Trace), .sl 3 0 (ln a.fbus.Bytes), .sl 4 0 (ln a.fbus.Log), .lit (.bool a.fstop),li a.ffault.Vector,li a.ffault.PC,li a.ffault.Addr,li a.ffault.Word, .lit (.bool a.ffault.Write)], .lst 1 a.fr.D, .lst 1 a.fr.A, .lst 1 a.fbus.Bytes, .lst 5 a.fbus.Log]
def aTV(N:Int→Int→Int→Int→bL→SV×List Blk)(K:Int→Int→Int→Int→bL→Bool):List SV→List Blk→Option ((SV×List Blk)×Bool)
 |[(.one (.ptr 0 0 0)),(.one (li c0)),(.one (li c1)),(.one (li c2)),(.one (li c3))],[.box [.sl 1 0 l1, .sl 2 0 l2,li c4,li c5,li c6,li c7, .lit (.bool c8), .lit (.bool c9), .sl 3 0 l3, .sl 4 0 l4, .lit (.bool c10),li c11,li c12,li c13,li c14, .lit (.bool c15)], .lst 1 c_1, .lst 1 c_2, .lst 1 c_3, .lst 5 c_4]=>some (N c0 c1 c2 c3 (bL.mk (aI.mk c_1 c_2 c4 c5 c6 c7 c8 c9) (aO.mk c_3 c_4) c10 (aE.mk c11 c12 c13 c14 c15)),dR l1 (ln c_1)&&(dR l2 (ln c_2)&&(dR l3 (ln c_3)&&(dR l4 (ln c_4)&&(K c0 c1 c2 c3 (bL.mk (aI.mk c_1 c_2 c4 c5 c6 c7 c8 c9) (aO.mk c_3 c_4) c10 (aE.mk c11 c12 c13 c14 c15)))))))
 |_,_=>none
theorem aTW{N:Int→Int→Int→Int→bL→SV×List Blk}{K:Int→Int→Int→Int→bL→Bool}{f:Nat}(h: ∀(b:Int)(c:Int)(d:Int)(o:Int)(a:bL),K b c d o a=true→cF R f (bBQ b c d o a) (bBR b c d o a)=some (N b c d o a)):bX f (aTV N K):=fun args hp r e=>by
 unfold aTV at e;split at e
 ·rename_i c0 c1 c2 c3 l1 l2 c4 c5 c6 c7 c8 c9 l3 l4 c10 c11 c12 c13 c14 c15 c_1 c_2 c_3 c_4;obtain⟨hr,hk⟩:=Prod.mk.inj (Option.some.inj e);obtain⟨d0,hk0⟩:=aT hk;obtain⟨d1,hk1⟩:=aT hk0;obtain⟨d2,hk2⟩:=aT hk1;obtain⟨d3,hk3⟩:=aT hk2;obtain rfl:=of_decide_eq_true d0;obtain rfl:=of_decide_eq_true d1;obtain rfl:=of_decide_eq_true d2;obtain rfl:=of_decide_eq_true d3;rw[←hr];exact h c0 c1 c2 c3 (bL.mk (aI.mk c_1 c_2 c4 c5 c6 c7 c8 c9) (aO.mk c_3 c_4) c10 (aE.mk c11 c12 c13 c14 c15)) hk3
 ·simp at e
section
variable(b:Int)(c:Int)(d:Int)(o:Int)(a:bL)
def SR:Bool:=((e1 (ln a.fbus.Bytes))&&((e1 (ln a.fbus.Log))&&true))
def kR:aO×Int×Int:=(aNV b c d o a.fbus)
def aGK:Nat:=(ln (kR b c d o a).1.Bytes)
def aGL:Nat:=(ln (kR b c d o a).1.Log)
def SS:Bool:=((e1 (ln a.fr.D))&&((e1 (ln a.fr.A))&&((e1 (aGK b c d o a))&&((e1 (aGL b c d o a))&&true))))
def KV:Bool:=(((SS b c d o a)&&(SS b c d o a))&&true)
end
def aGM(b:Int)(c:Int)(d:Int)(o:Int)(a:bL):Pt (bL×Int):=(.ok true (.ok (((((SR a)&&(SR a))&&true)&&((e1 (ln a.fbus.Bytes))&&((e1 (ln a.fbus.Log))&&(aNW b c d o a.fbus))))&&true) (.ok true (.br (bif (eV (kR b c d o a).2.2 0)then(eqI a.ffault.Vector 0)else false) (.ok true (.ok true (.br (eqI (kR b c d o a).2.2 2) (.ok true (.ok true (.ok true (.ok true (.ok (KV b c d o a) (.leaf ({a with fbus:=(kR b c d o a).1,ffault:=(aE.mk 3 a.ffault.PC d a.ffault.Word (eqI b 2))},(kR b c d o a).2.1))))))) (.ok true (.ok true (.ok true (.ok (KV b c d o a) (.leaf ({a with fbus:=(kR b c d o a).1,ffault:=(aE.mk 2 a.ffault.PC d a.ffault.Word (eqI b 2))},(kR b c d o a).2.1))))))))) (.ok true (.ok (KV b c d o a) (.leaf ({a with fbus:=(kR b c d o a).1},(kR b c d o a).2.1))))))))
def uM(b:Int)(c:Int)(d:Int)(o:Int)(a:bL):bL×Int:=hid (aGM b c d o a).val
def aNX(b:Int)(c:Int)(d:Int)(o:Int)(a:bL):Bool:=hid (aGM b c d o a).okv
def a2K(b:Int)(c:Int)(d:Int)(o:Int)(a:bL)(r:bL×Int):SV×List Blk:=((.one (li r.2)),[.box [.sl 1 0 (ln r.1.fr.D), .sl 2 0 (ln r.1.fr.A),li r.1.fr.Other,li r.1.fr.PC,li r.1.fr.Flags,li r.1.fr.Mask, .lit (.bool r.1.fr.Super), .lit (.bool r.1.fr.Trace), .sl 3 0 (ln r.1.fbus.Bytes), .sl 4 0 (ln r.1.fbus.Log), .lit (.bool r.1.fstop),li r.1.ffault.Vector,li r.1.ffault.PC,li r.1.ffault.Addr,li r.1.ffault.Word, .lit (.bool r.1.ffault.Write)], .lst 1 r.1.fr.D, .lst 1 r.1.fr.A, .lst 1 r.1.fbus.Bytes, .lst 5 r.1.fbus.Log])
def q156:=aTV (fun b c d o a=>a2K b c d o a (uM b c d o a)) aNX
theorem bBS:bX 156 q156:=aTW fun b c d o a hk=>tc aZH WV [(31,K0)] [] true (aGM b c d o a) (a2K b c d o a) hk
def Q156:=aV 156 q156 Q209
theorem WW:QO Q156:=aG bBS WV
def bBT(b:Int)(a:bL):List SV:=[(.one (.ptr 0 0 0)),(.one (li b))]
def bBU(b:Int)(a:bL):List Blk:=[.box [.sl 1 0 (ln a.fr.D), .sl 2 0 (ln a.fr.A),li a.fr.Other,li a.fr.PC,li a.fr.Flags,li a.fr.Mask, .lit (.bool a.fr.Super), .lit (.bool a.fr.Trace), .sl 3 0 (ln a.fbus.Bytes), .sl 4 0 (ln a.fbus.Log), .lit (.bool a.fstop),li a.ffault.Vector,li a.ffault.PC,li a.ffault.Addr,li a.ffault.Word, .lit (.bool a.ffault.Write)], .lst 1 a.fr.D, .lst 1 a.fr.A, .lst 1 a.fbus.Bytes, .lst 5 a.fbus.Log]
def aTX(N:Int→bL→SV×List Blk)(K:Int→bL→Bool):List SV→List Blk→Option ((SV×List Blk)×Bool)
 |[(.one (.ptr 0 0 0)),(.one (li c0))],[.box [.sl 1 0 l1, .sl 2 0 l2,li c1,li c2,li c3,li c4, .lit (.bool c5), .lit (.bool c6), .sl 3 0 l3, .sl 4 0 l4, .lit (.bool c7),li c8,li c9,li c10,li c11, .lit (.bool c12)], .lst 1 c_1, .lst 1 c_2, .lst 1 c_3, .lst 5 c_4]=>some (N c0 (bL.mk (aI.mk c_1 c_2 c1 c2 c3 c4 c5 c6) (aO.mk c_3 c_4) c7 (aE.mk c8 c9 c10 c11 c12)),dR l1 (ln c_1)&&(dR l2 (ln c_2)&&(dR l3 (ln c_3)&&(dR l4 (ln c_4)&&(K c0 (bL.mk (aI.mk c_1 c_2 c1 c2 c3 c4 c5 c6) (aO.mk c_3 c_4) c7 (aE.mk c8 c9 c10 c11 c12)))))))
 |_,_=>none
theorem aTY{N:Int→bL→SV×List Blk}{K:Int→bL→Bool}{f:Nat}(h: ∀(b:Int)(a:bL),K b a=true→cF R f (bBT b a) (bBU b a)=some (N b a)):bX f (aTX N K):=fun args hp r e=>by
 unfold aTX at e;split at e
 ·rename_i c0 l1 l2 c1 c2 c3 c4 c5 c6 l3 l4 c7 c8 c9 c10 c11 c12 c_1 c_2 c_3 c_4;obtain⟨hr,hk⟩:=Prod.mk.inj (Option.some.inj e);obtain⟨d0,hk0⟩:=aT hk;obtain⟨d1,hk1⟩:=aT hk0;obtain⟨d2,hk2⟩:=aT hk1;obtain⟨d3,hk3⟩:=aT hk2;obtain rfl:=of_decide_eq_true d0;obtain rfl:=of_decide_eq_true d1;obtain rfl:=of_decide_eq_true d2;obtain rfl:=of_decide_eq_true d3;rw[←hr];exact h c0 (bL.mk (aI.mk c_1 c_2 c1 c2 c3 c4 c5 c6) (aO.mk c_3 c_4) c7 (aE.mk c8 c9 c10 c11 c12)) hk3
 ·simp at e
section
variable(b:Int)(a:bL)
def aGN:Bool:=((e1 (ln a.fr.D))&&((e1 (ln a.fr.A))&&((e1 (ln a.fbus.Bytes))&&((e1 (ln a.fbus.Log))&&true))))
def kS:Int:=(cM (eQ (aU a.fr.A 3 0) 2) 65535)
def WX:Nat:=(ln (uM 2 2 (kS a) b a).1.fr.D)
def NH:Nat:=(ln (uM 2 2 (kS a) b a).1.fr.A)
def aGO:Nat:=(ln (uM 2 2 (kS a) b a).1.fbus.Bytes)
def aGP:Nat:=(ln (uM 2 2 (kS a) b a).1.fbus.Log)
def aGQ:Bool:=((e1 (aGO b a))&&((e1 (aGP b a))&&true))
def NI:Bool:=((e1 (WX b a))&&((e1 (NH b a))&&(aGQ b a)))
def aGR:Bool:=(((NI b a)&&(NI b a))&&true)
def aGS:List Row:=(List.set (uM 2 2 (kS a) b a).1.fr.A 3 (aH (kS a)))
def ST:Bool:=((e1 (WX b a))&&((dR (NH b a) (ln (aGS b a)))&&(aGQ b a)))
end
def T79(b:Int)(a:bL):Pt (bL):=(.ok ((ltI 3 (aX a.fr.A))&&((dC [.int .i64] a.fr.A 3 0)&&true)) (.ok (((((aGN a)&&(aGN a))&&true)&&((e1 (ln a.fr.D))&&((e1 (ln a.fr.A))&&((e1 (ln a.fbus.Bytes))&&((e1 (ln a.fbus.Log))&&(aNX 2 2 (kS a) b a))))))&&true) (.ok (((aGR b a)&&((e1 (WX b a))&&((e1 (NH b a))&&((e1 (aGO b a))&&((e1 (aGP b a))&&(k81 (uM 2 2 (kS a) b a).1))))))&&true) (.br (g81 (uM 2 2 (kS a) b a).1) (.ok ((ltI 3 (aX (uM 2 2 (kS a) b a).1.fr.A))&&(((blt 3 (NH b a))&&(gD (gE (uM 2 2 (kS a) b a).1.fr.A 3) 1))&&true)) (.ok ((((NI b a)&&(ST b a))&&true)&&((ST b a)&&true)) (.leaf {(uM 2 2 (kS a) b a).1 with fr:={(uM 2 2 (kS a) b a).1.fr with A:=(aGS b a)}}))) (.ok ((aGR b a)&&((NI b a)&&true)) (.leaf (uM 2 2 (kS a) b a).1))))))
def g79(b:Int)(a:bL):bL:=hid (T79 b a).val
def k79(b:Int)(a:bL):Bool:=hid (T79 b a).okv
def n79(b:Int)(a:bL)(r:bL):SV×List Blk:=((.tup []),[.box [.sl 1 0 (ln r.fr.D), .sl 2 0 (ln r.fr.A),li r.fr.Other,li r.fr.PC,li r.fr.Flags,li r.fr.Mask, .lit (.bool r.fr.Super), .lit (.bool r.fr.Trace), .sl 3 0 (ln r.fbus.Bytes), .sl 4 0 (ln r.fbus.Log), .lit (.bool r.fstop),li r.ffault.Vector,li r.ffault.PC,li r.ffault.Addr,li r.ffault.Word, .lit (.bool r.ffault.Write)], .lst 1 r.fr.D, .lst 1 r.fr.A, .lst 1 r.fbus.Bytes, .lst 5 r.fbus.Log])
def q79:=aTX (fun b a=>n79 b a (g79 b a)) k79
theorem t79:bX 79 q79:=aTY fun b a hk=>tc a66 WW [(9,K1),(10,K0),(11,K0),(24,K1),(26,K0),(1000001,[])] [] true (T79 b a) (n79 b a) hk
def Q79:=aV 79 q79 Q156
theorem SU:QO Q79:=aG t79 WW
section
variable(a:bL)
def aGT:Bool:=((e1 (ln a.fr.D))&&((e1 (ln a.fr.A))&&((e1 (ln a.fbus.Bytes))&&((e1 (ln a.fbus.Log))&&true))))
def HJ:aJ:=(GB (aJ.mk a.fr a.fbus a.fstop false))
def aGU:Bool:=((e1 (ln (HJ a).R.D))&&((e1 (ln (HJ a).R.A))&&((e1 (ln (HJ a).Bus.Bytes))&&((e1 (ln (HJ a).Bus.Log))&&true))))
end
def T80(a:bL):Pt (aJ):=(.ok true (.ok (((((aGT a)&&true)&&(aNI (aJ.mk a.fr a.fbus a.fstop false)))&&true)&&true) (.ok (((aGT a)&&((e1 (ln a.fr.D))&&((e1 (ln a.fr.A))&&((e1 (ln a.fbus.Bytes))&&((e1 (ln a.fbus.Log))&&(aGU a))))))&&((aGU a)&&true)) (.leaf (HJ a)))))
def L7(a:bL):aJ:=hid (T80 a).val
def k80(a:bL):Bool:=hid (T80 a).okv
def n80(a:bL)(r:aJ):SV×List Blk:=((.agg [.sl 5 0 (ln r.R.D), .sl 6 0 (ln r.R.A),li r.R.Other,li r.R.PC,li r.R.Flags,li r.R.Mask, .lit (.bool r.R.Super), .lit (.bool r.R.Trace), .sl 7 0 (ln r.Bus.Bytes), .sl 8 0 (ln r.Bus.Log), .lit (.bool r.Stop), .lit (.bool r.Halt)]),[.box [.sl 1 0 (ln a.fr.D), .sl 2 0 (ln a.fr.A),li a.fr.Other,li a.fr.PC,li a.fr.Flags,li a.fr.Mask, .lit (.bool a.fr.Super), .lit (.bool a.fr.Trace), .sl 3 0 (ln a.fbus.Bytes), .sl 4 0 (ln a.fbus.Log), .lit (.bool a.fstop),li a.ffault.Vector,li a.ffault.PC,li a.ffault.Addr,li a.ffault.Word, .lit (.bool a.ffault.Write)], .lst 1 a.fr.D, .lst 1 a.fr.A, .lst 1 a.fbus.Bytes, .lst 5 a.fbus.Log, .lst 1 r.R.D, .lst 1 r.R.A, .lst 1 r.Bus.Bytes, .lst 5 r.Bus.Log])
def q80:=aNN (fun a=>n80 a (L7 a)) k80
theorem t80:bX 80 q80:=aGF fun a hk=>tc a67 SU [(6,K6),(10,K7),(14,mA)] [] true (T80 a) (n80 a) hk
def Q80:=aV 80 q80 Q79
theorem aGV:QO Q80:=aG t80 SU
def bBX(a:aJ)(b:aE)(c:Int)(p0:Bool)(p1:Bool)(p2:Bool)(p3:Bool):List SV:=[(.agg [.imm p0 1 a.R.D, .imm p1 1 a.R.A,li a.R.Other,li a.R.PC,li a.R.Flags,li a.R.Mask, .lit (.bool a.R.Super), .lit (.bool a.R.Trace), .imm p2 1 a.Bus.Bytes, .imm p3 5 a.Bus.Log, .lit (.bool a.Stop), .lit (.bool a.Halt)]),(.agg [li b.Vector,li b.PC,li b.Addr,li b.Word, .lit (.bool b.Write)]),(.one (li c))]
def bBY(a:aJ)(b:aE)(c:Int)(p0:Bool)(p1:Bool)(p2:Bool)(p3:Bool):List Blk:=[]
def aTZ(N:aJ→aE→Int→SV×List Blk)(K:aJ→aE→Int→Bool):List SV→List Blk→Option ((SV×List Blk)×Bool)
 |[(.agg [.imm p0 1 c0, .imm p1 1 c1,li c2,li c3,li c4,li c5, .lit (.bool c6), .lit (.bool c7), .imm p2 1 c8, .imm p3 5 c9, .lit (.bool c10), .lit (.bool c11)]),(.agg [li c12,li c13,li c14,li c15, .lit (.bool c16)]),(.one (li c17))],[]=>some (N (aJ.mk (aI.mk c0 c1 c2 c3 c4 c5 c6 c7) (aO.mk c8 c9) c10 c11) (aE.mk c12 c13 c14 c15 c16) c17,K (aJ.mk (aI.mk c0 c1 c2 c3 c4 c5 c6 c7) (aO.mk c8 c9) c10 c11) (aE.mk c12 c13 c14 c15 c16) c17)
 |_,_=>none
theorem aT0{N:aJ→aE→Int→SV×List Blk}{K:aJ→aE→Int→Bool}{f:Nat}(h: ∀(a:aJ)(b:aE)(c:Int)(p0:Bool)(p1:Bool)(p2:Bool)(p3:Bool),K a b c=true→cF R f (bBX a b c p0 p1 p2 p3) (bBY a b c p0 p1 p2 p3)=some (N a b c)):bX f (aTZ N K):=fun _ _ _ e=>by
 unfold aTZ at e;split at e
 ·exact mQ e (h _ _ _ _ _ _ _)
 ·cases e
structure V103_0 where
 mk::
 (b0:aE)
 (b1:aJ)
 (b2:bL)
 (s38:List Row)
 (s39:Int)
 (s40:Int)
section
variable(v:V103_0)
def nW:Bool:=((e1 (ln v.b2.fr.D))&&((e1 (ln v.b2.fr.A))&&((e1 (ln v.b2.fbus.Bytes))&&((e1 (ln v.b2.fbus.Log))&&true))))
def uN:Bool:=(((nW v)&&(nW v))&&true)
def uO:Bool:=((e1 (ln v.b1.R.D))&&((e1 (ln v.b1.R.A))&&((e1 (ln v.b1.Bus.Bytes))&&((e1 (ln v.b1.Bus.Log))&&true))))
def fU:bL:=(g79 (aU v.s38 (0+(iN v.s40)) 0) v.b2)
def uP:Bool:=(e1 (ln (fU v).fbus.Bytes))
def uQ:Bool:=(e1 (ln (fU v).fbus.Log))
def EQ:Bool:=(((e1 (ln (fU v).fr.D))&&((e1 (ln (fU v).fr.A))&&((uP v)&&((uQ v)&&true))))&&((e1 (ln v.b1.R.D))&&((e1 (ln v.b1.R.A))&&((e1 (ln v.b1.Bus.Bytes))&&((e1 (ln v.b1.Bus.Log))&&((e1 (ln (fU v).fr.D))&&((e1 (ln (fU v).fr.A))&&((uP v)&&((uQ v)&&((e1 (ln v.s38))&&true))))))))))
def ER:Bool:=(((uO v)&&((nW v)&&((e1 (ln v.b1.R.D))&&((e1 (ln v.b1.R.A))&&((e1 (ln v.b1.Bus.Bytes))&&((e1 (ln v.b1.Bus.Log))&&((e1 (ln v.b2.fr.D))&&((e1 (ln v.b2.fr.A))&&((e1 (ln v.b2.fbus.Bytes))&&((e1 (ln v.b2.fbus.Log))&&((e1 (ln v.s38))&&true)))))))))))&&((e1 (ln v.s38))&&true))
end
def p7(v:V103_0):Pt (Option V103_0):=(.ok true (.br (ltI v.s40 v.s39) (.ok (((leI 0 v.s40)&&(ltI v.s40 (aX v.s38)))&&((dC [.int .i64] v.s38 (0+(iN v.s40)) 0)&&true)) (.ok (((uN v)&&((e1 (ln v.b2.fr.D))&&((e1 (ln v.b2.fr.A))&&((e1 (ln v.b2.fbus.Bytes))&&((e1 (ln v.b2.fbus.Log))&&(k81 v.b2))))))&&true) (.br (g81 v.b2) (.ok (((uN v)&&((e1 (ln v.b2.fr.D))&&((e1 (ln v.b2.fr.A))&&((e1 (ln v.b2.fbus.Bytes))&&((e1 (ln v.b2.fbus.Log))&&(k79 (aU v.s38 (0+(iN v.s40)) 0) v.b2))))))&&true) (.ok true (.ok (((uO v)&&(EQ v))&&((e1 (ln v.s38))&&true)) (.leaf (some {v with b2:=(fU v),s40:=(aR v.s40 1)}))))) (.ok true (.ok (ER v) (.leaf (some {v with s40:=(aR v.s40 1)}))))))) (.leaf none)))
def ES(v:V103_0):St:=⟨[(4,(.one (.ptr 0 0 0))),(6,(.one (.ptr 1 0 0))),(7,(.one (.ptr 2 0 0))),(38,(.one (.sl 11 0 (ln v.s38)))),(39,(.one (li v.s39))),(40,(.one (li v.s40)))],[.box [li v.b0.Vector,li v.b0.PC,li v.b0.Addr,li v.b0.Word, .lit (.bool v.b0.Write)], .box [.sl 3 0 (ln v.b1.R.D), .sl 4 0 (ln v.b1.R.A),li v.b1.R.Other,li v.b1.R.PC,li v.b1.R.Flags,li v.b1.R.Mask, .lit (.bool v.b1.R.Super), .lit (.bool v.b1.R.Trace), .sl 5 0 (ln v.b1.Bus.Bytes), .sl 6 0 (ln v.b1.Bus.Log), .lit (.bool v.b1.Stop), .lit (.bool v.b1.Halt)], .box [.sl 7 0 (ln v.b2.fr.D), .sl 8 0 (ln v.b2.fr.A),li v.b2.fr.Other,li v.b2.fr.PC,li v.b2.fr.Flags,li v.b2.fr.Mask, .lit (.bool v.b2.fr.Super), .lit (.bool v.b2.fr.Trace), .sl 9 0 (ln v.b2.fbus.Bytes), .sl 10 0 (ln v.b2.fbus.Log), .lit (.bool v.b2.fstop),li v.b2.ffault.Vector,li v.b2.ffault.PC,li v.b2.ffault.Addr,li v.b2.ffault.Word, .lit (.bool v.b2.ffault.Write)], .lst 1 v.b1.R.D, .lst 1 v.b1.R.A, .lst 1 v.b1.Bus.Bytes, .lst 5 v.b1.Bus.Log, .lst 1 v.b2.fr.D, .lst 1 v.b2.fr.A, .lst 1 v.b2.fbus.Bytes, .lst 5 v.b2.fbus.Log, .lst 1 v.s38]⟩
def KW:St→Option (V103_0×Bool)
 |⟨[(4,(.one (.ptr 0 0 0))),(6,(.one (.ptr 1 0 0))),(7,(.one (.ptr 2 0 0))),(38,(.one (.sl 11 0 l11))),(39,(.one (li c25))),(40,(.one (li c26)))],[.box [li c0,li c1,li c2,li c3, .lit (.bool c4)], .box [.sl 3 0 l3, .sl 4 0 l4,li c5,li c6,li c7,li c8, .lit (.bool c9), .lit (.bool c10), .sl 5 0 l5, .sl 6 0 l6, .lit (.bool c11), .lit (.bool c12)], .box [.sl 7 0 l7, .sl 8 0 l8,li c13,li c14,li c15,li c16, .lit (.bool c17), .lit (.bool c18), .sl 9 0 l9, .sl 10 0 l10, .lit (.bool c19),li c20,li c21,li c22,li c23, .lit (.bool c24)], .lst 1 c_3, .lst 1 c_4, .lst 1 c_5, .lst 5 c_6, .lst 1 c_7, .lst 1 c_8, .lst 1 c_9, .lst 5 c_10, .lst 1 c_11]⟩=>some ((V103_0.mk (aE.mk c0 c1 c2 c3 c4) (aJ.mk (aI.mk c_3 c_4 c5 c6 c7 c8 c9 c10) (aO.mk c_5 c_6) c11 c12) (bL.mk (aI.mk c_7 c_8 c13 c14 c15 c16 c17 c18) (aO.mk c_9 c_10) c19 (aE.mk c20 c21 c22 c23 c24)) c_11 c25 c26),dR l3 (ln c_3)&&(dR l4 (ln c_4)&&(dR l5 (ln c_5)&&(dR l6 (ln c_6)&&(dR l7 (ln c_7)&&(dR l8 (ln c_8)&&(dR l9 (ln c_9)&&(dR l10 (ln c_10)&&(dR l11 (ln c_11)&&(true))))))))))
 |_=>none
def KX:St→Option (Pt Out):=mV Q79 [(13,K8),(18,K6),(19,K9),(25,K6),(30,K0),(42,K0),(43,K0),(54,K0),(73,K8)] [] true [] 0 2097152 PD
theorem aNY(v:V103_0):((KX (ES v)).bind (jS true false 0 [4,6,7,38,39,40]))=some ((p7 v).map (Option.map ES)):=by kernel_rfl
theorem aNZ(σ:St)(v:V103_0)(h:KW σ=some (v,true)):σ=ES v:=by
 unfold KW at h;split at h
 ·obtain⟨hr,hk⟩:=Prod.mk.inj (Option.some.inj h);obtain⟨d0,hk0⟩:=aT hk;obtain⟨d1,hk1⟩:=aT hk0;obtain⟨d2,hk2⟩:=aT hk1;obtain⟨d3,hk3⟩:=aT hk2;obtain⟨d4,hk4⟩:=aT hk3;obtain⟨d5,hk5⟩:=aT hk4;obtain⟨d6,hk6⟩:=aT hk5;obtain⟨d7,hk7⟩:=aT hk6;obtain⟨d8,hk8⟩:=aT hk7;obtain rfl:=of_decide_eq_true d0;obtain rfl:=of_decide_eq_true d1;obtain rfl:=of_decide_eq_true d2;obtain rfl:=of_decide_eq_true d3;obtain rfl:=of_decide_eq_true d4;obtain rfl:=of_decide_eq_true d5;obtain rfl:=of_decide_eq_true d6;obtain rfl:=of_decide_eq_true d7;obtain rfl:=of_decide_eq_true d8;rw[←hr];rfl
 ·simp at h
theorem aN0:bN (lL true false 0 [4,6,7,38,39,40] KX KW ES p7 2097152) (dI R 0 2097152 (.loop [4,6,7,38,39,40] PD)):=cH (bO SU (bH (l:=[]) (by kernel_rfl) trivial)) aNZ aNY
def aN1:Lp:=(41,lL true false 0 [4,6,7,38,39,40] KX KW ES p7 2097152)::[]
def aGW(v:V103_0):V103_0:=(hid (cB p7 2097152 v)).getD v
def aGX(v:V103_0):Bool:=(hid (cB p7 2097152 v)).isSome
section
variable(a:aJ)(b:aE)(c:Int)
def KY:Bool:=((e1 (ln (AG a).fr.D))&&((e1 (ln (AG a).fr.A))&&true))
def SW:Int:=(rM (rM (AG a).fr.Flags (dD 32 c)) 256)
def uR:aI:=(aTT (AG a).fr (SW a c))
def SX:Bool:=((e1 (ln (EG (AG a).fr b)))&&true)
def SY:Bool:=((e1 (ln (uR a c).D))&&((e1 (ln (uR a c).A))&&((e1 (ln (AG a).fbus.Bytes))&&((e1 (ln (AG a).fbus.Log))&&(SX a b)))))
def jJ:V103_0:=(aGW (V103_0.mk b (aJ.mk (aI.mk [] [] 0 0 0 0 false false) (aO.mk [] []) false false) {(AG a)with fr:=(uR a c)} (EG (AG a).fr b) (aX (EG (AG a).fr b)) 0))
def yR:Bool:=(e1 (ln (jJ a b c).b2.fr.D))
def yS:Bool:=(e1 (ln (jJ a b c).b2.fr.A))
def yT:Nat:=(ln (jJ a b c).b2.fbus.Bytes)
def yU:Nat:=(ln (jJ a b c).b2.fbus.Log)
def KZ:Bool:=((yR a b c)&&((yS a b c)&&((e1 (yT a b c))&&((e1 (yU a b c))&&true))))
def wT:Bool:=(((KZ a b c)&&(KZ a b c))&&true)
def iA:bL×Int:=(uM 1 2 (dD 2 (jJ a b c).b0.Vector) 0 (jJ a b c).b2)
def nX:Bool:=(e1 (ln (iA a b c).1.fr.D))
def nY:Bool:=(e1 (ln (iA a b c).1.fr.A))
def nZ:Nat:=(ln (iA a b c).1.fbus.Bytes)
def oA:Nat:=(ln (iA a b c).1.fbus.Log)
def LA:Bool:=((nX a b c)&&((nY a b c)&&((e1 (nZ a b c))&&((e1 (oA a b c))&&true))))
def rG:Bool:=(((LA a b c)&&(LA a b c))&&true)
def jZ:bL:={(iA a b c).1 with fr:={(iA a b c).1.fr with PC:=(iA a b c).2},fstop:=false}
def WY:Nat:=(ln (L7 (jZ a b c)).R.D)
def WZ:Nat:=(ln (L7 (jZ a b c)).R.A)
def XA:Nat:=(ln (L7 (jZ a b c)).Bus.Bytes)
def XB:Nat:=(ln (L7 (jZ a b c)).Bus.Log)
def LB:Bool:=((e1 (WY a b c))&&((e1 (WZ a b c))&&((e1 (XA a b c))&&((e1 (XB a b c))&&true))))
def j0:bL:={(iA a b c).1 with fstop:=false}
def XC:Nat:=(ln (L7 (j0 a b c)).R.D)
def XD:Nat:=(ln (L7 (j0 a b c)).R.A)
def XE:Nat:=(ln (L7 (j0 a b c)).Bus.Bytes)
def XF:Nat:=(ln (L7 (j0 a b c)).Bus.Log)
def LC:Bool:=((e1 (XC a b c))&&((e1 (XD a b c))&&((e1 (XE a b c))&&((e1 (XF a b c))&&true))))
def j3:bL:={(jJ a b c).b2 with fstop:=false}
def XG:Nat:=(ln (L7 (j3 a b c)).R.D)
def XH:Nat:=(ln (L7 (j3 a b c)).R.A)
def XI:Nat:=(ln (L7 (j3 a b c)).Bus.Bytes)
def XJ:Nat:=(ln (L7 (j3 a b c)).Bus.Log)
def LD:Bool:=((e1 (XG a b c))&&((e1 (XH a b c))&&((e1 (XI a b c))&&((e1 (XJ a b c))&&true))))
end
def aGY(a:aJ)(b:aE)(c:Int):Pt (aJ):=(.ok true (.ok ((k78 a)&&true) (.ok (((((KY a)&&true)&&(aNM (AG a).fr b))&&true)&&true) (.ok (((((KY a)&&((KY a)&&true))&&((e1 (ln (AG a).fr.D))&&((e1 (ln (AG a).fr.A))&&(aTU (AG a).fr (SW a c)))))&&true)&&true) (.ok ((iE (0+(ln (EG (AG a).fr b))) (ln (EG (AG a).fr b)))&&true) (.ok ((((e1 (ln (uR a c).D))&&((e1 (ln (uR a c).A))&&((e1 (ln (AG a).fbus.Bytes))&&((e1 (ln (AG a).fbus.Log))&&true))))&&(SY a b c))&&(SX a b)) (.ok (SY a b c) (.ok (aGX (V103_0.mk b (aJ.mk (aI.mk [] [] 0 0 0 0 false false) (aO.mk [] []) false false) {(AG a)with fr:=(uR a c)} (EG (AG a).fr b) (aX (EG (AG a).fr b)) 0)) (.ok (((wT a b c)&&((yR a b c)&&((yS a b c)&&((e1 (yT a b c))&&((e1 (yU a b c))&&(k81 (jJ a b c).b2))))))&&true) (.br (g81 (jJ a b c).b2) (.ok (((wT a b c)&&((yR a b c)&&((yS a b c)&&((e1 (yT a b c))&&((e1 (yU a b c))&&(aNX 1 2 (dD 2 (jJ a b c).b0.Vector) 0 (jJ a b c).b2))))))&&true) (.ok (((rG a b c)&&((nX a b c)&&((nY a b c)&&((e1 (nZ a b c))&&((e1 (oA a b c))&&(k81 (iA a b c).1))))))&&true) (.br (g81 (iA a b c).1) (.ok true (.ok true (.ok (((rG a b c)&&((nX a b c)&&((nY a b c)&&((e1 (nZ a b c))&&((e1 (oA a b c))&&(k80 (jZ a b c)))))))&&true) (.ok (((rG a b c)&&((nX a b c)&&((nY a b c)&&((e1 (nZ a b c))&&((e1 (oA a b c))&&(k81 (jZ a b c)))))))&&true) (.ok true (.ok ((LB a b c)&&((LB a b c)&&true)) (.leaf {(L7 (jZ a b c))with Halt:=(!(g81 (jZ a b c)))}))))))) (.ok true (.ok (((rG a b c)&&((nX a b c)&&((nY a b c)&&((e1 (nZ a b c))&&((e1 (oA a b c))&&(k80 (j0 a b c)))))))&&true) (.ok (((rG a b c)&&((nX a b c)&&((nY a b c)&&((e1 (nZ a b c))&&((e1 (oA a b c))&&(k81 (j0 a b c)))))))&&true) (.ok true (.ok ((LC a b c)&&((LC a b c)&&true)) (.leaf {(L7 (j0 a b c))with Halt:=(!(g81 (j0 a b c)))}))))))))) (.ok true (.ok (((wT a b c)&&((yR a b c)&&((yS a b c)&&((e1 (yT a b c))&&((e1 (yU a b c))&&(k80 (j3 a b c)))))))&&true) (.ok (((wT a b c)&&((yR a b c)&&((yS a b c)&&((e1 (yT a b c))&&((e1 (yU a b c))&&(k81 (j3 a b c)))))))&&true) (.ok true (.ok ((LD a b c)&&((LD a b c)&&true)) (.leaf {(L7 (j3 a b c))with Halt:=(!(g81 (j3 a b c)))}))))))))))))))))
def SZ(a:aJ)(b:aE)(c:Int):aJ:=hid (aGY a b c).val
def aT1(a:aJ)(b:aE)(c:Int):Bool:=hid (aGY a b c).okv
def a2N(a:aJ)(b:aE)(c:Int)(r:aJ):SV×List Blk:=((.agg [.sl 0 0 (ln r.R.D), .sl 1 0 (ln r.R.A),li r.R.Other,li r.R.PC,li r.R.Flags,li r.R.Mask, .lit (.bool r.R.Super), .lit (.bool r.R.Trace), .sl 2 0 (ln r.Bus.Bytes), .sl 3 0 (ln r.Bus.Log), .lit (.bool r.Stop), .lit (.bool r.Halt)]),[.lst 1 r.R.D, .lst 1 r.R.A, .lst 1 r.Bus.Bytes, .lst 5 r.Bus.Log])
def q103:=aTZ (fun a b c=>a2N a b c (SZ a b c)) aT1
theorem a2O:dN (fun live x=>bN (hX aN1 (gK x)) (dI R 0 2097152 (.loop live x))) F103.body:=(bH (l:=[([4,6,7,38,39,40],PD)]) (by kernel_rfl) ⟨dK (n:=41) (by kernel_rfl) fun σ σr t h ho hl=>aN0 σ σr t h ho hl,trivial⟩)
theorem bBZ:bX 103 q103:=aT0 fun a b c p0 p1 p2 p3 hk=>UN aYU aGV a2O [(13,K8),(18,K6),(19,K9),(25,K6),(30,K0),(42,K0),(43,K0),(54,K0),(73,K8)] [] true (aGY a b c) (a2N a b c) hk
def Q103:=aV 103 q103 Q80
theorem XK:QO Q103:=aG bBZ aGV
section
variable(a:aJ)(b:aE)
def NJ:Nat:=(ln (SZ a b a.R.Mask).Bus.Bytes)
def NK:Nat:=(ln (SZ a b a.R.Mask).Bus.Log)
def ET:Bool:=((e1 (ln (SZ a b a.R.Mask).R.D))&&((e1 (ln (SZ a b a.R.Mask).R.A))&&((e1 (NJ a b))&&((e1 (NK a b))&&true))))
end
def T25(a:aJ)(b:aE):Pt (aJ×Bool):=(.ok true (.ok ((k76 a)&&((((k29 b)&&true)||(!(g76 a)))&&true)) (.br (bif (bif (!(g76 a))then true else(!(g29 b)))then true else a.Halt) (.ok true (.ok true (.ok true (.leaf ((aJ.mk (aI.mk [] [] 0 0 0 0 false false) (aO.mk [] []) false false),false))))) (.ok ((aT1 a b a.R.Mask)&&true) (.ok ((ET a b)&&((ET a b)&&true)) (.ok ((ET a b)&&true) (.leaf ((SZ a b a.R.Mask),true))))))))
def g25(a:aJ)(b:aE):aJ×Bool:=hid (T25 a b).val
def k25(a:aJ)(b:aE):Bool:=hid (T25 a b).okv
def q25:=KJ (fun a b=>n24 a b (g25 a b)) k25
theorem t25:bX 100025 q25:=uL fun a b hk=>tz a6J XK [(6,K8),(10,K9),(16,mA),(19,K8),(20,K9),(23,K0)] [] true (T25 a b) (n24 a b) hk
def Q25:=aV 100025 q25 Q103
theorem aGZ:QO Q25:=aG t25 XK
def bB2(a:aI):List SV:=[(.one (.ptr 0 0 0))]
def bB3(a:aI):List Blk:=[.box [.imm true 1 a.D, .imm true 1 a.A,li a.Other,li a.PC,li a.Flags,li a.Mask, .lit (.bool a.Super), .lit (.bool a.Trace)]]
def aT2(N:aI→SV×List Blk)(K:aI→Bool):List SV→List Blk→Option ((SV×List Blk)×Bool)
 |[(.one (.ptr 0 0 0))],[.box [.imm true 1 c0, .imm true 1 c1,li c2,li c3,li c4,li c5, .lit (.bool c6), .lit (.bool c7)]]=>some (N (aI.mk c0 c1 c2 c3 c4 c5 c6 c7),K (aI.mk c0 c1 c2 c3 c4 c5 c6 c7))
 |_,_=>none
theorem aT3{N:aI→SV×List Blk}{K:aI→Bool}{f:Nat}(h: ∀(a:aI),K a=true→cF R f (bB2 a) (bB3 a)=some (N a)):bX f (aT2 N K):=fun _ _ _ e=>by
 unfold aT2 at e;split at e
 ·exact mQ e (h _)
 ·cases e
def EU(a:aI):Pt (Int):=(.ok true (.ok ((GA a.Super 256)&&((GA a.Trace 512)&&true)) (.ok true (.leaf (aR (aR (aR a.Flags (dD 32 a.Mask)) (FZ a.Super 256)) (FZ a.Trace 512))))))
def EV(a:aI):Int:=hid (EU a).val
def LE(a:aI):Bool:=hid (EU a).okv
def aG0(a:aI)(r:Int):SV×List Blk:=((.one (li r)),[.box [.imm true 1 a.D, .imm true 1 a.A,li a.Other,li a.PC,li a.Flags,li a.Mask, .lit (.bool a.Super), .lit (.bool a.Trace)]])
def q166v2:=aT2 (fun a=>aG0 a (EV a)) LE
theorem aT4:bX 166 q166v2:=aT3 fun a hk=>tc aBY aGZ [(6,K0),(10,K0),(16,mA),(22,mA)] [] true (EU a) (aG0 a) hk
def Q166v2:=aV 166 q166v2 Q25
theorem HK:QO Q166v2:=aG aT4 aGZ
section
variable(a:aJ)(b:aE)
def NL:Bool:=((((s1 true)&&(r1 a.R.D))&&(((s1 true)&&(r1 a.R.A))&&((s1 a.R.Other)&&((s1 a.R.PC)&&((s1 a.R.Flags)&&((s1 a.R.Mask)&&((s1 a.R.Super)&&((s1 a.R.Trace)&&(((s1 true)&&(r1 a.Bus.Bytes))&&(((s1 true)&&(r1 a.Bus.Log))&&((s1 a.Stop)&&((s1 a.Halt)&&true))))))))))))&&(((s1 b.Vector)&&((s1 b.PC)&&((s1 b.Addr)&&((s1 b.Word)&&((s1 b.Write)&&true)))))&&((r1 [(aH b.PC),(aH (EV a.R))])&&true)))
end
def EW(a:aJ)(b:aE):Pt (List Row):=(.ok true (.ok ((((LE a.R)&&true)&&true)&&((((LE a.R)&&true)&&true)&&(((s1 (2:Nat))&&true)&&(NL a b)))) (.ok ((RO b)&&true) (.br (RN b) (.ok (((aE1 a b)&&true)&&true) (.ok true (.ok true (.leaf [(aH b.PC),(aH (EV a.R)),(aH b.Word),(aH b.Addr),(aH (aE0 a b))])))) (.ok true (.ok true (.leaf [(aH b.PC),(aH (EV a.R))])))))))
def LF(a:aJ)(b:aE):List Row:=hid (EW a b).val
def S5(a:aJ)(b:aE):Bool:=hid (EW a b).okv
def q104v1:=KJ (fun a b=>aMS a b (LF a b)) S5
theorem aT5:bX 104 q104v1:=uL fun a b hk=>tc aPF HK [(7,K0),(11,K9),(15,K0),(17,K0),(18,K8),(19,K9)] [] true (EW a b) (aMS a b) hk
def Q104v1:=aV 104 q104v1 Q166v2
theorem HL:QO Q104v1:=aG aT5 HK
section
variable(a:aJ)(b:aE)
def XL:Bool:=((e1 (ln (LF a b)))&&true)
end
def T26(a:aJ)(b:aE):Pt (List Row×Bool):=(.ok true (.ok ((k30 a)&&((((k28 b)&&true)||(!(g30 a)))&&true)) (.br (bif (!(g30 a))then true else(!(g28 b))) (.ok true (.ok true (.ok true (.leaf ([],false))))) (.ok ((S5 a b)&&true) (.ok ((XL a b)&&(XL a b)) (.ok (XL a b) (.leaf ((LF a b),true))))))))
def g26(a:aJ)(b:aE):List Row×Bool:=hid (T26 a b).val
def k26(a:aJ)(b:aE):Bool:=hid (T26 a b).okv
def n26(a:aJ)(b:aE)(r:List Row×Bool):SV×List Blk:=((.tup [(.one (.imm true 1 r.1)),(.one (.lit (.bool r.2)))]),[])
def q26:=KJ (fun a b=>n26 a b (g26 a b)) k26
theorem t26:bX 100026 q26:=uL fun a b hk=>tz a6K HL [(6,K8),(10,K9),(14,K8),(15,K9)] [] true (T26 a b) (n26 a b) hk
def Q26:=aV 100026 q26 Q104v1
theorem aG1:QO Q26:=aG t26 HL
section
variable(a:aJ)(b:aE)
def XM:Bool:=((e1 (ln (EG a.R b)))&&true)
end
def T27(a:aJ)(b:aE):Pt (List Row×Bool):=(.ok true (.ok ((k76 a)&&((((k29 b)&&true)||(!(g76 a)))&&true)) (.br (bif (!(g76 a))then true else(!(g29 b))) (.ok true (.ok true (.ok true (.leaf ([],false))))) (.ok ((aNM a.R b)&&true) (.ok ((XM a b)&&(XM a b)) (.ok (XM a b) (.leaf ((EG a.R b),true))))))))
def g27(a:aJ)(b:aE):List Row×Bool:=hid (T27 a b).val
def k27(a:aJ)(b:aE):Bool:=hid (T27 a b).okv
def q27:=KJ (fun a b=>n26 a b (g27 a b)) k27
theorem t27:bX 100027 q27:=uL fun a b hk=>tz a6L aG1 [(6,K8),(10,K9),(15,K6),(16,K9)] [] true (T27 a b) (n26 a b) hk
def Q27:=aV 100027 q27 Q26
theorem S6:QO Q27:=aG t27 aG1
def bB8(a:List Row)(b:List Row):List SV:=[(.one (.imm true 1 a)),(.one (.imm true 1 b))]
def bB9(a:List Row)(b:List Row):List Blk:=[]
def aN2(N:List Row→List Row→SV×List Blk)(K:List Row→List Row→Bool):List SV→List Blk→Option ((SV×List Blk)×Bool)
 |[(.one (.imm true 1 c0)),(.one (.imm true 1 c1))],[]=>some (N c0 c1,K c0 c1)
 |_,_=>none
theorem aG2{N:List Row→List Row→SV×List Blk}{K:List Row→List Row→Bool}{f:Nat}(h: ∀(a:List Row)(b:List Row),K a b=true→cF R f (bB8 a b) (bB9 a b)=some (N a b)):bX f (aN2 N K):=fun _ _ _ e=>by
 unfold aN2 at e;split at e
 ·exact mQ e (h _ _)
 ·cases e
structure V14_0 where
 mk::
 (s0:List Row)
 (s1:List Row)
 (s12:Int)
 (s13:Int)
def HM(v:V14_0):Pt (Option V14_0):=(.ok true (.br (ltI v.s13 v.s12) (.ok true (.ok ((dJ [.int .i64] v.s0 v.s13)&&((dJ [.int .i64] v.s1 v.s13)&&true)) (.br (eV (aU v.s0 (iN v.s13) 0) (aU v.s1 (iN v.s13) 0)) (.ok true (.leaf none)) (.ok true (.ok true (.leaf (some {v with s13:=(aR v.s13 1)}))))))) (.leaf none)))
def NM(v:V14_0):St:=⟨[(0,(.one (.imm true 1 v.s0))),(1,(.one (.imm true 1 v.s1))),(12,(.one (li v.s12))),(13,(.one (li v.s13)))],[]⟩
def XN:St→Option (V14_0×Bool)
 |⟨[(0,(.one (.imm true 1 c0))),(1,(.one (.imm true 1 c1))),(12,(.one (li c2))),(13,(.one (li c3)))],[]⟩=>some ((V14_0.mk c0 c1 c2 c3),true)
 |_=>none
def S7:St→Option (Pt Out):=mV Q27 [(18,K0),(19,K0),(22,K0),(23,K0)] [] true [] 0 2097152 aCN
theorem aT6(v:V14_0):((S7 (NM v)).bind (jS true false 0 [0,1,12,13]))=some ((HM v).map (Option.map NM)):=by kernel_rfl
theorem aT7(σ:St)(v:V14_0)(h:XN σ=some (v,true)):σ=NM v:=by
 unfold XN at h;split at h
 ·obtain⟨hr,hk⟩:=Prod.mk.inj (Option.some.inj h);rw[←hr];rfl
 ·simp at h
theorem aT8:bN (lL true false 0 [0,1,12,13] S7 XN NM HM 2097152) (dI R 0 2097152 (.loop [0,1,12,13] aCN)):=cH (bO S6 (bH (l:=[]) (by kernel_rfl) trivial)) aT7 aT6
def aT9:Lp:=(14,lL true false 0 [0,1,12,13] S7 XN NM HM 2097152)::[]
def XO(v:V14_0):V14_0:=(hid (cB HM 2097152 v)).getD v
def aG3(v:V14_0):Bool:=(hid (cB HM 2097152 v)).isSome
section
variable(a:List Row)(b:List Row)
def aG4:V14_0:=(XO (V14_0.mk a b (aX a) 0))
end
def T14(a:List Row)(b:List Row):Pt (Bool):=(.ok true (.ok true (.br (eV (aX a) (aX b)) (.ok true (.ok true (.ok true (.leaf false)))) (.ok true (.ok true (.ok true (.ok (aG3 (V14_0.mk a b (aX a) 0)) (.br (ltI (aG4 a b).s13 (aG4 a b).s12) (.ok true (.ok true (.leaf false))) (.ok true (.ok true (.ok true (.leaf true))))))))))))
def g14(a:List Row)(b:List Row):Bool:=hid (T14 a b).val
def k14(a:List Row)(b:List Row):Bool:=hid (T14 a b).okv
def n14(a:List Row)(b:List Row)(r:Bool):SV×List Blk:=((.one (.lit (.bool r))),[])
def q14:=aN2 (fun a b=>n14 a b (g14 a b)) k14
theorem bCA:dN (fun live x=>bN (hX aT9 (gK x)) (dI R 0 2097152 (.loop live x))) F14.body:=(bH (l:=[([0,1,12,13],aCN)]) (by kernel_rfl) ⟨dK (n:=14) (by kernel_rfl) fun σ σr t h ho hl=>aT8 σ σr t h ho hl,trivial⟩)
theorem t14:bX 100014 q14:=aG2 fun a b hk=>tzl a6G S6 bCA [(18,K0),(19,K0),(22,K0),(23,K0)] [] true (T14 a b) (n14 a b) hk
def Q14:=aV 100014 q14 Q27
theorem aG6:QO Q14:=aG t14 S6
def bCB(a:aI)(b:aI):List SV:=[(.agg [.imm true 1 a.D, .imm true 1 a.A,li a.Other,li a.PC,li a.Flags,li a.Mask, .lit (.bool a.Super), .lit (.bool a.Trace)]),(.agg [.imm true 1 b.D, .imm true 1 b.A,li b.Other,li b.PC,li b.Flags,li b.Mask, .lit (.bool b.Super), .lit (.bool b.Trace)])]
def bCC(a:aI)(b:aI):List Blk:=[]
def aUB(N:aI→aI→SV×List Blk)(K:aI→aI→Bool):List SV→List Blk→Option ((SV×List Blk)×Bool)
 |[(.agg [.imm true 1 c0, .imm true 1 c1,li c2,li c3,li c4,li c5, .lit (.bool c6), .lit (.bool c7)]),(.agg [.imm true 1 c8, .imm true 1 c9,li c10,li c11,li c12,li c13, .lit (.bool c14), .lit (.bool c15)])],[]=>some (N (aI.mk c0 c1 c2 c3 c4 c5 c6 c7) (aI.mk c8 c9 c10 c11 c12 c13 c14 c15),K (aI.mk c0 c1 c2 c3 c4 c5 c6 c7) (aI.mk c8 c9 c10 c11 c12 c13 c14 c15))
 |_,_=>none
theorem aUC{N:aI→aI→SV×List Blk}{K:aI→aI→Bool}{f:Nat}(h: ∀(a:aI)(b:aI),K a b=true→cF R f (bCB a b) (bCC a b)=some (N a b)):bX f (aUB N K):=fun _ _ _ e=>by
 unfold aUB at e;split at e
 ·exact mQ e (h _ _)
 ·cases e
def T13(a:aI)(b:aI):Pt (Bool):=(.ok true (.ok ((k14 a.D b.D)&&((((k14 a.A b.A)&&true)||(!(g14 a.D b.D)))&&true)) (.ok true (.ok true (.leaf (bif (bif (bif (bif (bif (bif (bif (g14 a.D b.D)then(g14 a.A b.A)else false)then(eqI a.Other b.Other)else false)then(eqI a.PC b.PC)else false)then(eqI a.Flags b.Flags)else false)then(eqI a.Mask b.Mask)else false)then(uZ a.Super b.Super)else false)then(uZ a.Trace b.Trace)else false))))))
def g13(a:aI)(b:aI):Bool:=hid (T13 a b).val
def k13(a:aI)(b:aI):Bool:=hid (T13 a b).okv
def n13(a:aI)(b:aI)(r:Bool):SV×List Blk:=((.one (.lit (.bool r))),[])
def q13:=aUB (fun a b=>n13 a b (g13 a b)) k13
theorem t13:bX 100013 q13:=aUC fun a b hk=>tz a6F aG6 [(6,K1),(8,K1),(12,K1),(14,K1),(19,K0),(21,K0),(26,K0),(28,K0),(33,K0),(35,K0),(40,K0),(42,K0),(47,mA),(49,mA),(54,mA),(56,mA)] [] true (T13 a b) (n13 a b) hk
def Q13:=aV 100013 q13 Q14
theorem S8:QO Q13:=aG t13 aG6
def bCE(a:List Row)(b:List Row):List SV:=[(.one (.imm true 5 a)),(.one (.imm true 5 b))]
def bCF(a:List Row)(b:List Row):List Blk:=[]
def aUD(N:List Row→List Row→SV×List Blk)(K:List Row→List Row→Bool):List SV→List Blk→Option ((SV×List Blk)×Bool)
 |[(.one (.imm true 5 c0)),(.one (.imm true 5 c1))],[]=>some (N c0 c1,K c0 c1)
 |_,_=>none
theorem aUE{N:List Row→List Row→SV×List Blk}{K:List Row→List Row→Bool}{f:Nat}(h: ∀(a:List Row)(b:List Row),K a b=true→cF R f (bCE a b) (bCF a b)=some (N a b)):bX f (aUD N K):=fun _ _ _ e=>by
 unfold aUD at e;split at e
 ·exact mQ e (h _ _)
 ·cases e
structure V157_0 where
 mk::
 (s0:List Row)
 (s1:List Row)
 (s12:Int)
 (s13:Int)
def yV(v:V157_0):Pt (Option V157_0):=(.ok true (.br (ltI v.s13 v.s12) (.ok true (.ok ((dJ [.int .i64, .int .i64, .int .i64, .int .i64, .int .i64] v.s0 v.s13)&&((dJ [.int .i64, .int .i64, .int .i64, .int .i64, .int .i64] v.s1 v.s13)&&true)) (.br (!((eqI (aU v.s0 (iN v.s13) 0) (aU v.s1 (iN v.s13) 0))&&((eqI (aU v.s0 (iN v.s13) 1) (aU v.s1 (iN v.s13) 1))&&((eqI (aU v.s0 (iN v.s13) 2) (aU v.s1 (iN v.s13) 2))&&((eqI (aU v.s0 (iN v.s13) 3) (aU v.s1 (iN v.s13) 3))&&((eqI (aU v.s0 (iN v.s13) 4) (aU v.s1 (iN v.s13) 4))&&true)))))) (.ok true (.leaf none)) (.ok true (.ok true (.leaf (some {v with s13:=(aR v.s13 1)}))))))) (.leaf none)))
def EX(v:V157_0):St:=⟨[(0,(.one (.imm true 5 v.s0))),(1,(.one (.imm true 5 v.s1))),(12,(.one (li v.s12))),(13,(.one (li v.s13)))],[]⟩
def LG:St→Option (V157_0×Bool)
 |⟨[(0,(.one (.imm true 5 c0))),(1,(.one (.imm true 5 c1))),(12,(.one (li c2))),(13,(.one (li c3)))],[]⟩=>some ((V157_0.mk c0 c1 c2 c3),true)
 |_=>none
def LH:St→Option (Pt Out):=mV Q13 [(18,JX),(19,JX),(22,JX),(23,JX)] [] true [] 0 2097152 PI
theorem aN4(v:V157_0):((LH (EX v)).bind (jS true false 0 [0,1,12,13]))=some ((yV v).map (Option.map EX)):=by kernel_rfl
theorem aN5(σ:St)(v:V157_0)(h:LG σ=some (v,true)):σ=EX v:=by
 unfold LG at h;split at h
 ·obtain⟨hr,hk⟩:=Prod.mk.inj (Option.some.inj h);rw[←hr];rfl
 ·simp at h
theorem aN6:bN (lL true false 0 [0,1,12,13] LH LG EX yV 2097152) (dI R 0 2097152 (.loop [0,1,12,13] PI)):=cH (bO S8 (bH (l:=[]) (by kernel_rfl) trivial)) aN5 aN4
def aN7:Lp:=(14,lL true false 0 [0,1,12,13] LH LG EX yV 2097152)::[]
def LI(v:V157_0):V157_0:=(hid (cB yV 2097152 v)).getD v
def S9(v:V157_0):Bool:=(hid (cB yV 2097152 v)).isSome
section
variable(a:List Row)(b:List Row)
def TA:V157_0:=(LI (V157_0.mk a b (aX a) 0))
end
def aG7(a:List Row)(b:List Row):Pt (Bool):=(.ok true (.ok true (.br (eV (aX a) (aX b)) (.ok true (.ok true (.ok true (.leaf false)))) (.ok true (.ok true (.ok true (.ok (S9 (V157_0.mk a b (aX a) 0)) (.br (ltI (TA a b).s13 (TA a b).s12) (.ok true (.ok true (.leaf false))) (.ok true (.ok true (.ok true (.leaf true))))))))))))
def aUF(a:List Row)(b:List Row):Bool:=hid (aG7 a b).val
def aUG(a:List Row)(b:List Row):Bool:=hid (aG7 a b).okv
def q157:=aUD (fun a b=>n14 a b (aUF a b)) aUG
theorem a2T:dN (fun live x=>bN (hX aN7 (gK x)) (dI R 0 2097152 (.loop live x))) F157.body:=(bH (l:=[([0,1,12,13],PI)]) (by kernel_rfl) ⟨dK (n:=14) (by kernel_rfl) fun σ σr t h ho hl=>aN6 σ σr t h ho hl,trivial⟩)
theorem bCG:bX 100157 q157:=aUE fun a b hk=>tzl aZI S8 a2T [(18,JX),(19,JX),(22,JX),(23,JX)] [] true (aG7 a b) (n14 a b) hk
def Q157:=aV 100157 q157 Q13
theorem XP:QO Q157:=aG bCG S8
def bCH(a:aO)(b:aO):List SV:=[(.agg [.imm true 1 a.Bytes, .imm true 5 a.Log]),(.agg [.imm true 1 b.Bytes, .imm true 5 b.Log])]
def bCI(a:aO)(b:aO):List Blk:=[]
def aUH(N:aO→aO→SV×List Blk)(K:aO→aO→Bool):List SV→List Blk→Option ((SV×List Blk)×Bool)
 |[(.agg [.imm true 1 c0, .imm true 5 c1]),(.agg [.imm true 1 c2, .imm true 5 c3])],[]=>some (N (aO.mk c0 c1) (aO.mk c2 c3),K (aO.mk c0 c1) (aO.mk c2 c3))
 |_,_=>none
theorem aUI{N:aO→aO→SV×List Blk}{K:aO→aO→Bool}{f:Nat}(h: ∀(a:aO)(b:aO),K a b=true→cF R f (bCH a b) (bCI a b)=some (N a b)):bX f (aUH N K):=fun _ _ _ e=>by
 unfold aUH at e;split at e
 ·exact mQ e (h _ _)
 ·cases e
def T82(a:aO)(b:aO):Pt (Bool):=(.ok true (.ok ((k14 a.Bytes b.Bytes)&&((((aUG a.Log b.Log)&&true)||(!(g14 a.Bytes b.Bytes)))&&true)) (.ok true (.ok true (.leaf (bif (g14 a.Bytes b.Bytes)then(aUF a.Log b.Log)else false))))))
def g82(a:aO)(b:aO):Bool:=hid (T82 a b).val
def k82(a:aO)(b:aO):Bool:=hid (T82 a b).okv
def n82(a:aO)(b:aO)(r:Bool):SV×List Blk:=((.one (.lit (.bool r))),[])
def q82:=aUH (fun a b=>n82 a b (g82 a b)) k82
theorem t82:bX 100082 q82:=aUI fun a b hk=>tz a69 XP [(6,K1),(8,K1),(12,OC),(14,OC)] [] true (T82 a b) (n82 a b) hk
def Q82:=aV 100082 q82 Q157
theorem aG8:QO Q82:=aG t82 XP
def bCL(a:aJ)(b:aJ):List SV:=[(.agg [.imm true 1 a.R.D, .imm true 1 a.R.A,li a.R.Other,li a.R.PC,li a.R.Flags,li a.R.Mask, .lit (.bool a.R.Super), .lit (.bool a.R.Trace), .imm true 1 a.Bus.Bytes, .imm true 5 a.Bus.Log, .lit (.bool a.Stop), .lit (.bool a.Halt)]),(.agg [.imm true 1 b.R.D, .imm true 1 b.R.A,li b.R.Other,li b.R.PC,li b.R.Flags,li b.R.Mask, .lit (.bool b.R.Super), .lit (.bool b.R.Trace), .imm true 1 b.Bus.Bytes, .imm true 5 b.Bus.Log, .lit (.bool b.Stop), .lit (.bool b.Halt)])]
def bCM(a:aJ)(b:aJ):List Blk:=[]
def aUJ(N:aJ→aJ→SV×List Blk)(K:aJ→aJ→Bool):List SV→List Blk→Option ((SV×List Blk)×Bool)
 |[(.agg [.imm true 1 c0, .imm true 1 c1,li c2,li c3,li c4,li c5, .lit (.bool c6), .lit (.bool c7), .imm true 1 c8, .imm true 5 c9, .lit (.bool c10), .lit (.bool c11)]),(.agg [.imm true 1 c12, .imm true 1 c13,li c14,li c15,li c16,li c17, .lit (.bool c18), .lit (.bool c19), .imm true 1 c20, .imm true 5 c21, .lit (.bool c22), .lit (.bool c23)])],[]=>some (N (aJ.mk (aI.mk c0 c1 c2 c3 c4 c5 c6 c7) (aO.mk c8 c9) c10 c11) (aJ.mk (aI.mk c12 c13 c14 c15 c16 c17 c18 c19) (aO.mk c20 c21) c22 c23),K (aJ.mk (aI.mk c0 c1 c2 c3 c4 c5 c6 c7) (aO.mk c8 c9) c10 c11) (aJ.mk (aI.mk c12 c13 c14 c15 c16 c17 c18 c19) (aO.mk c20 c21) c22 c23))
 |_,_=>none
theorem aUK{N:aJ→aJ→SV×List Blk}{K:aJ→aJ→Bool}{f:Nat}(h: ∀(a:aJ)(b:aJ),K a b=true→cF R f (bCL a b) (bCM a b)=some (N a b)):bX f (aUJ N K):=fun _ _ _ e=>by
 unfold aUJ at e;split at e
 ·exact mQ e (h _ _)
 ·cases e
def T11(a:aJ)(b:aJ):Pt (Bool):=(.ok true (.ok ((k13 a.R b.R)&&((((k82 a.Bus b.Bus)&&true)||(!(g13 a.R b.R)))&&true)) (.ok true (.ok true (.leaf (bif (bif (bif (g13 a.R b.R)then(g82 a.Bus b.Bus)else false)then(uZ a.Stop b.Stop)else false)then(uZ a.Halt b.Halt)else false))))))
def g11(a:aJ)(b:aJ):Bool:=hid (T11 a b).val
def k11(a:aJ)(b:aJ):Bool:=hid (T11 a b).okv
def n11(a:aJ)(b:aJ)(r:Bool):SV×List Blk:=((.one (.lit (.bool r))),[])
def q11:=aUJ (fun a b=>n11 a b (g11 a b)) k11
theorem t11:bX 100011 q11:=aUK fun a b hk=>tz a6D aG8 [(6,K6),(8,K6),(12,K7),(14,K7),(19,mA),(21,mA),(26,mA),(28,mA)] [] true (T11 a b) (n11 a b) hk
def Q11:=aV 100011 q11 Q82
theorem aG9:QO Q11:=aG t11 aG8
def bCN(a:aJ):List SV:=[(.one (.ptr 0 0 0))]
def bCO(a:aJ):List Blk:=[.box [.sl 1 0 (ln a.R.D), .sl 2 0 (ln a.R.A),li a.R.Other,li a.R.PC,li a.R.Flags,li a.R.Mask, .lit (.bool a.R.Super), .lit (.bool a.R.Trace), .sl 3 0 (ln a.Bus.Bytes), .sl 4 0 (ln a.Bus.Log), .lit (.bool a.Stop), .lit (.bool a.Halt)], .lst 1 a.R.D, .lst 1 a.R.A, .lst 1 a.Bus.Bytes, .lst 5 a.Bus.Log]
def aUL(N:aJ→SV×List Blk)(K:aJ→Bool):List SV→List Blk→Option ((SV×List Blk)×Bool)
 |[(.one (.ptr 0 0 0))],[.box [.sl 1 0 l1, .sl 2 0 l2,li c0,li c1,li c2,li c3, .lit (.bool c4), .lit (.bool c5), .sl 3 0 l3, .sl 4 0 l4, .lit (.bool c6), .lit (.bool c7)], .lst 1 c_1, .lst 1 c_2, .lst 1 c_3, .lst 5 c_4]=>some (N (aJ.mk (aI.mk c_1 c_2 c0 c1 c2 c3 c4 c5) (aO.mk c_3 c_4) c6 c7),dR l1 (ln c_1)&&(dR l2 (ln c_2)&&(dR l3 (ln c_3)&&(dR l4 (ln c_4)&&(K (aJ.mk (aI.mk c_1 c_2 c0 c1 c2 c3 c4 c5) (aO.mk c_3 c_4) c6 c7))))))
 |_,_=>none
theorem aUM{N:aJ→SV×List Blk}{K:aJ→Bool}{f:Nat}(h: ∀(a:aJ),K a=true→cF R f (bCN a) (bCO a)=some (N a)):bX f (aUL N K):=fun args hp r e=>by
 unfold aUL at e;split at e
 ·rename_i l1 l2 c0 c1 c2 c3 c4 c5 l3 l4 c6 c7 c_1 c_2 c_3 c_4;obtain⟨hr,hk⟩:=Prod.mk.inj (Option.some.inj e);obtain⟨d0,hk0⟩:=aT hk;obtain⟨d1,hk1⟩:=aT hk0;obtain⟨d2,hk2⟩:=aT hk1;obtain⟨d3,hk3⟩:=aT hk2;obtain rfl:=of_decide_eq_true d0;obtain rfl:=of_decide_eq_true d1;obtain rfl:=of_decide_eq_true d2;obtain rfl:=of_decide_eq_true d3;rw[←hr];exact h (aJ.mk (aI.mk c_1 c_2 c0 c1 c2 c3 c4 c5) (aO.mk c_3 c_4) c6 c7) hk3
 ·simp at e
section
variable(a:aJ)
def aHA:Bool:=((e1 (ln a.Bus.Bytes))&&((e1 (ln a.Bus.Log))&&true))
def sJ:aO×Int×Int:=(R2 1 2 (aU a.R.A 3 0) 0 a.Bus)
def aHB:Bool:=((e1 (ln (sJ a).1.Bytes))&&((e1 (ln (sJ a).1.Log))&&true))
def NN:Bool:=((e1 (ln a.R.D))&&((e1 (ln a.R.A))&&(aHB a)))
def aHC:List Row:=(List.set a.R.A 3 (aH (cM (aR (aU a.R.A 3 0) 2) 65535)))
def aHD:Bool:=((e1 (ln a.R.D))&&((dR (ln a.R.A) (ln (aHC a)))&&(aHB a)))
end
def T83(a:aJ):Pt (aJ×Int×Int×Int):=(.ok true (.ok ((ltI 3 (aX a.R.A))&&((dC [.int .i64] a.R.A 3 0)&&true)) (.ok (((((aHA a)&&(aHA a))&&true)&&((e1 (ln a.Bus.Bytes))&&((e1 (ln a.Bus.Log))&&(NE 1 2 (aU a.R.A 3 0) 0 a.Bus))))&&true) (.ok true (.br (eqI (sJ a).2.2 0) (.ok ((ltI 3 (aX a.R.A))&&(((blt 3 (ln a.R.A))&&(gD (gE a.R.A 3) 1))&&true)) (.ok true (.ok ((((NN a)&&(aHD a))&&true)&&((aHD a)&&true)) (.leaf ({a with R:={a.R with A:=(aHC a)},Bus:=(sJ a).1},(sJ a).2.1,(aU a.R.A 3 0),(sJ a).2.2))))) (.ok true (.ok ((((NN a)&&(NN a))&&true)&&((NN a)&&true)) (.leaf ({a with Bus:=(sJ a).1},(sJ a).2.1,(aU a.R.A 3 0),(sJ a).2.2)))))))))
def g83(a:aJ):aJ×Int×Int×Int:=hid (T83 a).val
def k83(a:aJ):Bool:=hid (T83 a).okv
def n83(a:aJ)(r:aJ×Int×Int×Int):SV×List Blk:=((.tup [(.one (li r.2.1)),(.one (li r.2.2.1)),(.one (li r.2.2.2))]),[.box [.sl 1 0 (ln r.1.R.D), .sl 2 0 (ln r.1.R.A),li r.1.R.Other,li r.1.R.PC,li r.1.R.Flags,li r.1.R.Mask, .lit (.bool r.1.R.Super), .lit (.bool r.1.R.Trace), .sl 3 0 (ln r.1.Bus.Bytes), .sl 4 0 (ln r.1.Bus.Log), .lit (.bool r.1.Stop), .lit (.bool r.1.Halt)], .lst 1 r.1.R.D, .lst 1 r.1.R.A, .lst 1 r.1.Bus.Bytes, .lst 5 r.1.Bus.Log])
def q83:=aUL (fun a=>n83 a (g83 a)) k83
theorem t83:bX 83 q83:=aUM fun a hk=>tc a7A aG9 [(12,K1),(13,K0),(14,K0),(29,K1),(33,K0),(1000001,[])] [] true (T83 a) (n83 a) hk
def Q83:=aV 83 q83 Q11
theorem aHE:QO Q83:=aG t83 aG9
section
variable(a:aJ)
def XQ:Bool:=((e1 (ln (sI a).R.D))&&((e1 (ln (sI a).R.A))&&((e1 (ln (sI a).Bus.Bytes))&&((e1 (ln (sI a).Bus.Log))&&true))))
def NO:Bool:=((e1 (ln (g83 (sI a)).1.R.D))&&((e1 (ln (g83 (sI a)).1.R.A))&&((e1 (ln (g83 (sI a)).1.Bus.Bytes))&&((e1 (ln (g83 (sI a)).1.Bus.Log))&&true))))
end
def T12(a:aJ):Pt (aJ×Int×Bool×Bool):=(.ok true (.ok ((k30 a)&&true) (.br (!(g30 a)) (.ok true (.ok true (.ok true (.leaf ((aJ.mk (aI.mk [] [] 0 0 0 0 false false) (aO.mk [] []) false false),0,false,false))))) (.ok ((k74 a)&&true) (.ok (((((XQ a)&&(XQ a))&&true)&&((e1 (ln (sI a).R.D))&&((e1 (ln (sI a).R.A))&&((e1 (ln (sI a).Bus.Bytes))&&((e1 (ln (sI a).Bus.Log))&&(k83 (sI a)))))))&&true) (.ok true (.ok ((NO a)&&((NO a)&&true)) (.ok ((NO a)&&true) (.leaf ((g83 (sI a)).1,(g83 (sI a)).2.1,(eqI (g83 (sI a)).2.2.2 0),true))))))))))
def g12(a:aJ):aJ×Int×Bool×Bool:=hid (T12 a).val
def k12(a:aJ):Bool:=hid (T12 a).okv
def n12(a:aJ)(r:aJ×Int×Bool×Bool):SV×List Blk:=((.tup [(.agg [.imm true 1 r.1.R.D, .imm true 1 r.1.R.A,li r.1.R.Other,li r.1.R.PC,li r.1.R.Flags,li r.1.R.Mask, .lit (.bool r.1.R.Super), .lit (.bool r.1.R.Trace), .imm true 1 r.1.Bus.Bytes, .imm true 5 r.1.Bus.Log, .lit (.bool r.1.Stop), .lit (.bool r.1.Halt)]),(.one (li r.2.1)),(.one (.lit (.bool r.2.2.1))),(.one (.lit (.bool r.2.2.2)))]),[])
def q12:=ZT (fun a=>n12 a (g12 a)) k12
theorem t12:bX 100012 q12:=J3 fun a hk=>tz a6E aHE [(10,K8),(14,K8),(21,K8)] [] true (T12 a) (n12 a) hk
def Q12:=aV 100012 q12 Q83
theorem TB:QO Q12:=aG t12 aHE
def bCR(b:Int)(c:Int)(a:aO):List SV:=[(.one (.ptr 0 0 0)),(.one (li b)),(.one (li c))]
def bCS(b:Int)(c:Int)(a:aO):List Blk:=[.box [.imm true 1 a.Bytes, .imm true 5 a.Log]]
def aUN(N:Int→Int→aO→SV×List Blk)(K:Int→Int→aO→Bool):List SV→List Blk→Option ((SV×List Blk)×Bool)
 |[(.one (.ptr 0 0 0)),(.one (li c0)),(.one (li c1))],[.box [.imm true 1 c2, .imm true 5 c3]]=>some (N c0 c1 (aO.mk c2 c3),K c0 c1 (aO.mk c2 c3))
 |_,_=>none
theorem aUO{N:Int→Int→aO→SV×List Blk}{K:Int→Int→aO→Bool}{f:Nat}(h: ∀(b:Int)(c:Int)(a:aO),K b c a=true→cF R f (bCR b c a) (bCS b c a)=some (N b c a)):bX f (aUN N K):=fun _ _ _ e=>by
 unfold aUN at e;split at e
 ·exact mQ e (h _ _ _)
 ·cases e
def EY(b:Int)(c:Int)(a:aO):Pt (Int):=(.ok true (.ok true (.br (eqI b 1) (.ok ((dJ [.int .i64] a.Bytes c)&&true) (.ok true (.leaf (aU a.Bytes (iN c) 0)))) (.ok ((dJ [.int .i64] a.Bytes c)&&((dJ [.int .i64] a.Bytes (aR c 1))&&true)) (.ok true (.leaf (rM (nH (aU a.Bytes (iN c) 0) 8) (aU a.Bytes (iN (aR c 1)) 0))))))))
def LJ(b:Int)(c:Int)(a:aO):Int:=hid (EY b c a).val
def LK(b:Int)(c:Int)(a:aO):Bool:=hid (EY b c a).okv
def aHF(b:Int)(c:Int)(a:aO)(r:Int):SV×List Blk:=((.one (li r)),[.box [.imm true 1 a.Bytes, .imm true 5 a.Log]])
def q177v1:=aUN (fun b c a=>aHF b c a (LJ b c a)) LK
theorem aUP:bX 177 q177v1:=aUO fun b c a hk=>tc aPI TB [(12,K1),(14,K0),(15,K0),(19,K1),(21,K0),(22,K0),(27,K1),(30,K0),(31,K0)] [] true (EY b c a) (aHF b c a) hk
def Q177v1:=aV 177 q177v1 Q12
theorem HN:QO Q177v1:=aG aUP TB
def bCT(a:aO)(b:Int):List SV:=[(.agg [.imm true 1 a.Bytes, .imm true 5 a.Log]),(.one (li b))]
def bCU(a:aO)(b:Int):List Blk:=[]
def aN9(N:aO→Int→SV×List Blk)(K:aO→Int→Bool):List SV→List Blk→Option ((SV×List Blk)×Bool)
 |[(.agg [.imm true 1 c0, .imm true 5 c1]),(.one (li c2))],[]=>some (N (aO.mk c0 c1) c2,K (aO.mk c0 c1) c2)
 |_,_=>none
theorem aHG{N:aO→Int→SV×List Blk}{K:aO→Int→Bool}{f:Nat}(h: ∀(a:aO)(b:Int),K a b=true→cF R f (bCT a b) (bCU a b)=some (N a b)):bX f (aN9 N K):=fun _ _ _ e=>by
 unfold aN9 at e;split at e
 ·exact mQ e (h _ _)
 ·cases e
section
variable(a:aO)(b:Int)
def TD:Bool:=(bif (!(RK a))then true else(!(g73 b)))
end
def aHH(a:aO)(b:Int):Pt (Int×Bool):=(.ok true (.ok ((ZS a)&&((((k73 b)&&true)||(!(RK a)))&&((((aMU 1 2 b)&&true)||(TD a b))&&true))) (.br (bif (TD a b)then true else(eV (wK 1 2 b) 0)) (.ok true (.ok true (.ok true (.leaf (0,false))))) (.ok ((LK 2 b a)&&true) (.ok true (.ok true (.leaf ((LJ 2 b a),true))))))))
def aUQ(a:aO)(b:Int):Int×Bool:=hid (aHH a b).val
def aUR(a:aO)(b:Int):Bool:=hid (aHH a b).okv
def aOA(a:aO)(b:Int)(r:Int×Bool):SV×List Blk:=((.tup [(.one (li r.1)),(.one (.lit (.bool r.2)))]),[])
def q112:=aN9 (fun a b=>aOA a b (aUQ a b)) aUR
theorem bCV:bX 100112 q112:=aHG fun a b hk=>tz aY2 HN [(6,K7)] [] true (aHH a b) (aOA a b) hk
def Q112:=aV 100112 q112 Q177v1
theorem XR:QO Q112:=aG bCV HN
def bCW(a:aJ)(b:Int):List SV:=[(.agg [.imm true 1 a.R.D, .imm true 1 a.R.A,li a.R.Other,li a.R.PC,li a.R.Flags,li a.R.Mask, .lit (.bool a.R.Super), .lit (.bool a.R.Trace), .imm true 1 a.Bus.Bytes, .imm true 5 a.Bus.Log, .lit (.bool a.Stop), .lit (.bool a.Halt)]),(.one (li b))]
def bCX(a:aJ)(b:Int):List Blk:=[]
def aOB(N:aJ→Int→SV×List Blk)(K:aJ→Int→Bool):List SV→List Blk→Option ((SV×List Blk)×Bool)
 |[(.agg [.imm true 1 c0, .imm true 1 c1,li c2,li c3,li c4,li c5, .lit (.bool c6), .lit (.bool c7), .imm true 1 c8, .imm true 5 c9, .lit (.bool c10), .lit (.bool c11)]),(.one (li c12))],[]=>some (N (aJ.mk (aI.mk c0 c1 c2 c3 c4 c5 c6 c7) (aO.mk c8 c9) c10 c11) c12,K (aJ.mk (aI.mk c0 c1 c2 c3 c4 c5 c6 c7) (aO.mk c8 c9) c10 c11) c12)
 |_,_=>none
theorem aHI{N:aJ→Int→SV×List Blk}{K:aJ→Int→Bool}{f:Nat}(h: ∀(a:aJ)(b:Int),K a b=true→cF R f (bCW a b) (bCX a b)=some (N a b)):bX f (aOB N K):=fun _ _ _ e=>by
 unfold aOB at e;split at e
 ·exact mQ e (h _ _)
 ·cases e
section
variable(a:aJ)(b:Int)
def aHJ:Int×Bool:=(aUQ a.Bus (dD 2 b))
end
def T31(a:aJ)(b:Int):Pt (Int×Bool):=(.ok true (.ok ((k30 a)&&((((wH b 0 31)&&true)||(!(g30 a)))&&true)) (.br (bif (!(g30 a))then true else(!(rO b 0 31))) (.ok true (.ok true (.ok true (.leaf (0,false))))) (.ok ((aUR a.Bus (dD 2 b))&&true) (.ok true (.ok true (.leaf ((aHJ a b).1,(aHJ a b).2))))))))
def g31(a:aJ)(b:Int):Int×Bool:=hid (T31 a b).val
def k31(a:aJ)(b:Int):Bool:=hid (T31 a b).okv
def n31(a:aJ)(b:Int)(r:Int×Bool):SV×List Blk:=((.tup [(.one (li r.1)),(.one (.lit (.bool r.2)))]),[])
def q31:=aOB (fun a b=>n31 a b (g31 a b)) k31
theorem t31:bX 100031 q31:=aHI fun a b hk=>tz a6P XR [(6,K8),(15,K7)] [] true (T31 a b) (n31 a b) hk
def Q31:=aV 100031 q31 Q112
theorem aHK:QO Q31:=aG t31 XR
def T32(a:aE):Pt (Bool×Bool):=(.ok true (.ok ((k28 a)&&true) (.br (!(g28 a)) (.ok true (.ok true (.ok true (.leaf (false,false))))) (.ok ((RO a)&&true) (.ok true (.ok true (.leaf ((RN a),true))))))))
def g32(a:aE):Bool×Bool:=hid (T32 a).val
def k32(a:aE):Bool:=hid (T32 a).okv
def n32(a:aE)(r:Bool×Bool):SV×List Blk:=((.tup [(.one (.lit (.bool r.1))),(.one (.lit (.bool r.2)))]),[])
def q32:=RL (fun a=>n32 a (g32 a)) k32
theorem t32:bX 100032 q32:=DT fun a hk=>tz a6Q aHK [(4,K9),(7,K9)] [] true (T32 a) (n32 a) hk
def Q32:=aV 100032 q32 Q31
theorem aHL:QO Q32:=aG t32 aHK
section
variable(a:List Row)
def XS:Nat:=(ln (AQ (aB.mk a 0 0)).2.R.D)
def XT:Nat:=(ln (AQ (aB.mk a 0 0)).2.R.A)
def XU:Nat:=(ln (AQ (aB.mk a 0 0)).2.Bus.Bytes)
def XV:Nat:=(ln (AQ (aB.mk a 0 0)).2.Bus.Log)
def LM:Bool:=((e1 (XS a))&&((e1 (XT a))&&((e1 (XU a))&&((e1 (XV a))&&true))))
end
def NP(a:List Row):Pt (aJ×aE):=(.ok true (.ok true (.ok ((k71 (aB.mk a 0 0))&&((aDT (AQ (aB.mk a 0 0)).1)&&true)) (.ok ((LM a)&&((LM a)&&true)) (.leaf ((AQ (aB.mk a 0 0)).2,(aDS (AQ (aB.mk a 0 0)).1).2))))))
def zX(a:List Row):aJ×aE:=hid (NP a).val
def aHM(a:List Row):Bool:=hid (NP a).okv
def aP8(a:List Row)(r:aJ×aE):SV×List Blk:=((.tup [(.agg [.sl 0 0 (ln r.1.R.D), .sl 1 0 (ln r.1.R.A),li r.1.R.Other,li r.1.R.PC,li r.1.R.Flags,li r.1.R.Mask, .lit (.bool r.1.R.Super), .lit (.bool r.1.R.Trace), .sl 2 0 (ln r.1.Bus.Bytes), .sl 3 0 (ln r.1.Bus.Log), .lit (.bool r.1.Stop), .lit (.bool r.1.Halt)]),(.agg [li r.2.Vector,li r.2.PC,li r.2.Addr,li r.2.Word, .lit (.bool r.2.Write)])]),[.lst 1 r.1.R.D, .lst 1 r.1.R.A, .lst 1 r.1.Bus.Bytes, .lst 5 r.1.Bus.Log])
def q23v1:=DL (fun a=>aP8 a (zX a)) aHM
theorem a20:bX 23 q23v1:=nU fun a hk=>tc aYR aHL [] [] true (NP a) (aP8 a) hk
def Q23v1:=aV 23 q23v1 Q32
theorem NQ:QO Q23v1:=aG a20 aHL
section
variable(a:List Row)
def XW:Bool:=((e1 (ln (zX a).1.R.D))&&((e1 (ln (zX a).1.R.A))&&((e1 (ln (zX a).1.Bus.Bytes))&&((e1 (ln (zX a).1.Bus.Log))&&true))))
end
def T33(a:List Row):Pt (aJ×aE):=(.ok true (.ok ((aHM a)&&true) (.ok ((XW a)&&((XW a)&&true)) (.ok ((XW a)&&true) (.leaf ((zX a).1,(zX a).2))))))
def sK(a:List Row):aJ×aE:=hid (T33 a).val
def k33(a:List Row):Bool:=hid (T33 a).okv
def q33:=DL (fun a=>n23 a (sK a)) k33
theorem t33:bX 100033 q33:=nU fun a hk=>tz a6R NQ [] [] true (T33 a) (n23 a) hk
def Q33:=aV 100033 q33 Q23v1
theorem aHN:QO Q33:=aG t33 NQ
section
variable(a:aJ)(b:aE)
def aHO:Bool:=(bif (!(g30 a))then true else(!(g28 b)))
end
def T34(a:aJ)(b:aE):Pt (Int×Bool):=(.ok true (.ok ((k30 a)&&((((k28 b)&&true)||(!(g30 a)))&&((((RO b)&&true)||(aHO a b))&&true))) (.br (bif (aHO a b)then true else(!(RN b))) (.ok true (.ok true (.ok true (.leaf (0,false))))) (.ok ((aE1 a b)&&true) (.ok true (.ok true (.leaf ((aE0 a b),true))))))))
def g34(a:aJ)(b:aE):Int×Bool:=hid (T34 a b).val
def k34(a:aJ)(b:aE):Bool:=hid (T34 a b).okv
def n34(a:aJ)(b:aE)(r:Int×Bool):SV×List Blk:=((.tup [(.one (li r.1)),(.one (.lit (.bool r.2)))]),[])
def q34:=KJ (fun a b=>n34 a b (g34 a b)) k34
theorem t34:bX 100034 q34:=uL fun a b hk=>tz a6S aHN [(6,K8),(10,K9),(15,K9),(19,K8),(20,K9)] [] true (T34 a b) (n34 a b) hk
def Q34:=aV 100034 q34 Q33
theorem aHP:QO Q34:=aG t34 aHN
section
variable(a:aJ)(b:aE)
def aHQ:Bool:=(bif (!(g76 a))then true else(!(g29 b)))
end
def T35(a:aJ)(b:aE):Pt (Int×Bool):=(.ok true (.ok ((k76 a)&&((((k29 b)&&true)||(!(g76 a)))&&((((NC b.Vector)&&true)||(aHQ a b))&&true))) (.br (bif (aHQ a b)then true else(!(QT b.Vector))) (.ok true (.ok true (.ok true (.leaf (0,false))))) (.ok ((aNL a.R.Super b)&&true) (.ok true (.ok true (.leaf ((aNK a.R.Super b),true))))))))
def g35(a:aJ)(b:aE):Int×Bool:=hid (T35 a b).val
def k35(a:aJ)(b:aE):Bool:=hid (T35 a b).okv
def q35:=KJ (fun a b=>n34 a b (g35 a b)) k35
theorem t35:bX 100035 q35:=uL fun a b hk=>tz a6T aHP [(6,K8),(10,K9),(16,K0),(22,mA),(23,K9)] [] true (T35 a b) (n34 a b) hk
def Q35:=aV 100035 q35 Q34
theorem aHR:QO Q35:=aG t35 aHP
section
variable(a:List Row)
def aP9:Nat:=(ln (AQ (aB.mk a 0 0)).2.R.D)
def aQA:Nat:=(ln (AQ (aB.mk a 0 0)).2.R.A)
def aQB:Nat:=(ln (AQ (aB.mk a 0 0)).2.Bus.Bytes)
def aQC:Nat:=(ln (AQ (aB.mk a 0 0)).2.Bus.Log)
def XX:Bool:=((e1 (aP9 a))&&((e1 (aQA a))&&((e1 (aQB a))&&((e1 (aQC a))&&true))))
end
def T36(a:List Row):Pt (aJ×Int):=(.ok true (.ok true (.ok ((k71 (aB.mk a 0 0))&&((jV 34 (AQ (aB.mk a 0 0)).1)&&true)) (.ok ((XX a)&&((XX a)&&true)) (.ok ((XX a)&&true) (.leaf ((AQ (aB.mk a 0 0)).2,(eQ (bF 34 (AQ (aB.mk a 0 0)).1).2 1))))))))
def sL(a:List Row):aJ×Int:=hid (T36 a).val
def k36(a:List Row):Bool:=hid (T36 a).okv
def n36(a:List Row)(r:aJ×Int):SV×List Blk:=((.tup [(.agg [.imm true 1 r.1.R.D, .imm true 1 r.1.R.A,li r.1.R.Other,li r.1.R.PC,li r.1.R.Flags,li r.1.R.Mask, .lit (.bool r.1.R.Super), .lit (.bool r.1.R.Trace), .imm true 1 r.1.Bus.Bytes, .imm true 5 r.1.Bus.Log, .lit (.bool r.1.Stop), .lit (.bool r.1.Halt)]),(.one (li r.2))]),[])
def q36:=DL (fun a=>n36 a (sL a)) k36
theorem t36:bX 100036 q36:=nU fun a hk=>tz a6U aHR [] [] true (T36 a) (n36 a) hk
def Q36:=aV 100036 q36 Q35
theorem aHS:QO Q36:=aG t36 aHR
section
variable(a:aO)(b:Int)
def TE:Bool:=(bif (!(aFV a))then true else(!(aFR b)))
end
def aHT(a:aO)(b:Int):Pt (Int×Bool):=(.ok true (.ok ((aNG a)&&((((aFS b)&&true)||(!(aFV a)))&&((((aNQ 1 2 b)&&true)||(TE a b))&&true))) (.br (bif (TE a b)then true else(eV (GC 1 2 b) 0)) (.ok true (.ok true (.ok true (.leaf (0,false))))) (.ok ((dJ [.int .i64] a.Bytes b)&&((dJ [.int .i64] a.Bytes (aR b 1))&&true)) (.ok true (.ok true (.leaf ((rM (nH (aU a.Bytes (iN b) 0) 8) (aU a.Bytes (iN (aR b 1)) 0)),true))))))))
def aUU(a:aO)(b:Int):Int×Bool:=hid (aHT a b).val
def aUV(a:aO)(b:Int):Bool:=hid (aHT a b).okv
def q115:=aN9 (fun a b=>aOA a b (aUU a b)) aUV
theorem bCY:bX 100115 q115:=aHG fun a b hk=>tz aY5 aHS [(6,K7),(20,K1),(22,K0),(23,K0),(26,K1),(29,K0),(30,K0)] [] true (aHT a b) (aOA a b) hk
def Q115:=aV 100115 q115 Q36
theorem XY:QO Q115:=aG bCY aHS
section
variable(a:aJ)(b:Int)
def aHU:Int×Bool:=(aUU a.Bus (dD 2 b))
end
def T37(a:aJ)(b:Int):Pt (Int×Bool):=(.ok true (.ok ((k76 a)&&((((lX b 0 31)&&true)||(!(g76 a)))&&true)) (.br (bif (!(g76 a))then true else(!(jW b 0 31))) (.ok true (.ok true (.ok true (.leaf (0,false))))) (.ok ((aUV a.Bus (dD 2 b))&&true) (.ok true (.ok true (.leaf ((aHU a b).1,(aHU a b).2))))))))
def g37(a:aJ)(b:Int):Int×Bool:=hid (T37 a b).val
def k37(a:aJ)(b:Int):Bool:=hid (T37 a b).okv
def q37:=aOB (fun a b=>n31 a b (g37 a b)) k37
theorem t37:bX 100037 q37:=aHI fun a b hk=>tz a6V XY [(6,K8),(15,K7)] [] true (T37 a b) (n31 a b) hk
def Q37:=aV 100037 q37 Q115
theorem aHV:QO Q37:=aG t37 XY
def aHW(a:List Row):Pt (aE):=(.ok true (.ok true (.ok ((aDT (aB.mk a 0 0))&&true) (.ok true (.ok true (.leaf (aDS (aB.mk a 0 0)).2))))))
def a29(a:List Row):aE:=hid (aHW a).val
def aUW(a:List Row):Bool:=hid (aHW a).okv
def aOC(a:List Row)(r:aE):SV×List Blk:=((.agg [li r.Vector,li r.PC,li r.Addr,li r.Word, .lit (.bool r.Write)]),[])
def q116:=DL (fun a=>aOC a (a29 a)) aUW
theorem bCZ:bX 100116 q116:=nU fun a hk=>tz aY6 aHV [] [] true (aHW a) (aOC a) hk
def Q116:=aV 100116 q116 Q37
theorem XZ:QO Q116:=aG bCZ aHV
def T38(a:List Row):Pt (aE):=(.ok true (.ok ((aUW a)&&true) (.ok true (.ok true (.leaf (a29 a))))))
def LN(a:List Row):aE:=hid (T38 a).val
def k38(a:List Row):Bool:=hid (T38 a).okv
def q38:=DL (fun a=>aOC a (LN a)) k38
theorem t38:bX 100038 q38:=nU fun a hk=>tz a6W XZ [] [] true (T38 a) (aOC a) hk
def Q38:=aV 100038 q38 Q116
theorem aHX:QO Q38:=aG t38 XZ
def T39(a:aE):Pt (Bool×Bool):=(.ok true (.ok ((k29 a)&&true) (.br (!(g29 a)) (.ok true (.ok true (.ok true (.leaf (false,false))))) (.ok ((NC a.Vector)&&true) (.ok true (.ok true (.leaf ((QT a.Vector),true))))))))
def g39(a:aE):Bool×Bool:=hid (T39 a).val
def k39(a:aE):Bool:=hid (T39 a).okv
def q39:=RL (fun a=>n32 a (g39 a)) k39
theorem t39:bX 100039 q39:=DT fun a hk=>tz a6X aHX [(4,K9),(8,K0)] [] true (T39 a) (n32 a) hk
def Q39:=aV 100039 q39 Q38
theorem aUX:QO Q39:=aG t39 aHX
structure V4_0 where
 mk::
 (b0:aE)
 (b1:aJ)
 (b2:aJ)
 (s1:List Row)
 (s11:List Row)
 (s16:Int)
section
variable(v:V4_0)
def EZ:Bool:=(bif (!(g12 v.b2).2.2.2)then true else(!(g12 v.b2).2.2.1))
end
def Z0(v:V4_0):Pt (Option V4_0):=(.ok true (.br (rE v.s16 0) (.ok ((k12 v.b2)&&true) (.ok ((((dJ [.int .i64] v.s11 v.s16)&&true)||(EZ v))&&true) (.br (bif (EZ v)then true else(eV (g12 v.b2).2.1 (aU v.s11 (iN v.s16) 0))) (.ok true (.leaf none)) (.ok true (.ok true (.ok true (.leaf (some {v with b2:=(g12 v.b2).1,s16:=(eQ v.s16 1)})))))))) (.leaf none)))
def aHY(v:V4_0):St:=⟨[(1,(.one (.imm true 1 v.s1))),(6,(.one (.ptr 0 0 0))),(7,(.one (.ptr 1 0 0))),(11,(.one (.imm true 1 v.s11))),(15,(.one (.ptr 2 0 0))),(16,(.one (li v.s16)))],[.box [li v.b0.Vector,li v.b0.PC,li v.b0.Addr,li v.b0.Word, .lit (.bool v.b0.Write)], .box [.imm true 1 v.b1.R.D, .imm true 1 v.b1.R.A,li v.b1.R.Other,li v.b1.R.PC,li v.b1.R.Flags,li v.b1.R.Mask, .lit (.bool v.b1.R.Super), .lit (.bool v.b1.R.Trace), .imm true 1 v.b1.Bus.Bytes, .imm true 5 v.b1.Bus.Log, .lit (.bool v.b1.Stop), .lit (.bool v.b1.Halt)], .box [.imm true 1 v.b2.R.D, .imm true 1 v.b2.R.A,li v.b2.R.Other,li v.b2.R.PC,li v.b2.R.Flags,li v.b2.R.Mask, .lit (.bool v.b2.R.Super), .lit (.bool v.b2.R.Trace), .imm true 1 v.b2.Bus.Bytes, .imm true 5 v.b2.Bus.Log, .lit (.bool v.b2.Stop), .lit (.bool v.b2.Halt)]]⟩
def aOD:St→Option (V4_0×Bool)
 |⟨[(1,(.one (.imm true 1 c29))),(6,(.one (.ptr 0 0 0))),(7,(.one (.ptr 1 0 0))),(11,(.one (.imm true 1 c30))),(15,(.one (.ptr 2 0 0))),(16,(.one (li c31)))],[.box [li c0,li c1,li c2,li c3, .lit (.bool c4)], .box [.imm true 1 c5, .imm true 1 c6,li c7,li c8,li c9,li c10, .lit (.bool c11), .lit (.bool c12), .imm true 1 c13, .imm true 5 c14, .lit (.bool c15), .lit (.bool c16)], .box [.imm true 1 c17, .imm true 1 c18,li c19,li c20,li c21,li c22, .lit (.bool c23), .lit (.bool c24), .imm true 1 c25, .imm true 5 c26, .lit (.bool c27), .lit (.bool c28)]]⟩=>some ((V4_0.mk (aE.mk c0 c1 c2 c3 c4) (aJ.mk (aI.mk c5 c6 c7 c8 c9 c10 c11 c12) (aO.mk c13 c14) c15 c16) (aJ.mk (aI.mk c17 c18 c19 c20 c21 c22 c23 c24) (aO.mk c25 c26) c27 c28) c29 c30 c31),true)
 |_=>none
def aHZ:St→Option (Pt Out):=mV Q12 [(54,K8),(55,K9),(60,K8),(61,K9),(66,K8),(67,K9),(72,K8),(73,K9),(81,K8),(82,K8),(98,K9),(100,K9),(108,K8),(114,mA),(119,mA),(125,mA),(130,K0),(133,K0),(139,K0),(142,K0),(148,K1),(151,K1),(156,mA),(158,K8),(167,K8),(183,K0),(184,K0),(187,K8),(189,K8),(191,K0),(196,K9),(206,K0),(226,K8),(227,K9),(232,K8),(233,K9),(243,K8),(249,K8),(257,K9),(262,K9)] [] true [] 0 2097152 aRI
theorem a3C(v:V4_0):((aHZ (aHY v)).bind (jS true false 0 [1,6,7,11,15,16]))=some ((Z0 v).map (Option.map aHY)):=by kernel_rfl
theorem a3D(σ:St)(v:V4_0)(h:aOD σ=some (v,true)):σ=aHY v:=by
 unfold aOD at h;split at h
 ·obtain⟨hr,hk⟩:=Prod.mk.inj (Option.some.inj h);rw[←hr];rfl
 ·simp at h
theorem a3E:bN (lL true false 0 [1,6,7,11,15,16] aHZ aOD aHY Z0 2097152) (dI R 0 2097152 (.loop [1,6,7,11,15,16] aRI)):=cH (bO TB (bH (l:=[]) (by kernel_rfl) trivial)) a3D a3C
def a3F:Lp:=(162,lL true false 0 [1,6,7,11,15,16] aHZ aOD aHY Z0 2097152)::[]
def Z1(v:V4_0):V4_0:=(hid (cB Z0 2097152 v)).getD v
def a3G(v:V4_0):Bool:=(hid (cB Z0 2097152 v)).isSome
section
variable(a:List Row)(b:List Row)
def kU:aJ×Bool:=(g24 (rN a).1 (rN a).2)
def TF:aJ×Bool:=(g25 (rN a).1 (rN a).2)
def AH:List Row×Bool:=(g26 (rN a).1 (rN a).2)
def Z2:List Row×Bool:=(g27 (rN a).1 (rN a).2)
def aH0:Bool:=(bif (bif (!(uZ (kU a).2 (TF a).2))then true else(!(g11 (kU a).1 (TF a).1)))then true else(!(uZ (AH a).2 (Z2 a).2)))
def aH1:Bool:=(bif (aH0 a)then true else(!(g14 (AH a).1 (Z2 a).1)))
def aH2:Bool:=(bif (bif (bif (bif (bif (bif (!(AH a).2)then true else(!(g30 (kU a).1)))then true else(kU a).1.Stop)then true else(!(kU a).1.R.Super))then true else(kU a).1.R.Trace)then true else(eV (kU a).1.R.Flags (rN a).1.R.Flags))then true else(eV (kU a).1.R.Mask (rN a).1.R.Mask))
def fF:V4_0:=(Z1 (V4_0.mk (rN a).2 (kU a).1 (kU a).1 b (AH a).1 (eQ (aX (AH a).1) 1)))
def aH3:Int×Bool:=(g31 (fF a b).b1 (fF a b).b0.Vector)
def aH4:Int×Bool:=(g34 (sK (fF a b).s1).1 (sK (fF a b).s1).2)
def NR:Int×Bool:=(g35 (sK (fF a b).s1).1 (sK (fF a b).s1).2)
def NS:Int×Bool:=(g31 (sL (fF a b).s1).1 (sL (fF a b).s1).2)
def NT:Int×Bool:=(g37 (sL (fF a b).s1).1 (sL (fF a b).s1).2)
def NU:Bool×Bool:=(g32 (LN (fF a b).s1))
def NV:Bool×Bool:=(g39 (LN (fF a b).s1))
def NW:Int×Bool:=(g34 (sK b).1 (sK b).2)
def NX:Int×Bool:=(g35 (sK b).1 (sK b).2)
def NY:Int×Bool:=(g31 (sL b).1 (sL b).2)
def NZ:Int×Bool:=(g37 (sL b).1 (sL b).2)
def N0:Bool:=(bif (bif (bif (bif (bif (uZ (NW b).2 (NX b).2)then(eqI (NW b).1 (NX b).1)else false)then(uZ (NY b).2 (NZ b).2)else false)then(eqI (NY b).1 (NZ b).1)else false)then(uZ (g32 (LN b)).2 (g39 (LN b)).2)else false)then(uZ (g32 (LN b)).1 (g39 (LN b)).1)else false)
end
def T4(a:List Row)(b:List Row):Pt (Bool):=(.ok true (.ok true (.br (kK (aR (aX a) (aX b)) 1048576) (.ok true (.ok true (.leaf true))) (.ok ((k23 a)&&true) (.ok ((k24 (rN a).1 (rN a).2)&&true) (.ok ((k25 (rN a).1 (rN a).2)&&true) (.ok ((k26 (rN a).1 (rN a).2)&&true) (.ok ((k27 (rN a).1 (rN a).2)&&true) (.ok ((((k11 (kU a).1 (TF a).1)&&true)||(!(uZ (kU a).2 (TF a).2)))&&((((k14 (AH a).1 (Z2 a).1)&&true)||(aH0 a))&&((((k28 (rN a).2)&&((k29 (rN a).2)&&true))||(aH1 a))&&true))) (.br (bif (aH1 a)then true else(!(uZ (g28 (rN a).2) (g29 (rN a).2)))) (.ok true (.ok true (.leaf false))) (.ok true (.br (kU a).2 (.ok ((((k30 (kU a).1)&&true)||(!(AH a).2))&&((((k14 (kU a).1.R.D (rN a).1.R.D)&&true)||(aH2 a))&&true)) (.br (bif (aH2 a)then true else(!(g14 (kU a).1.R.D (rN a).1.R.D))) (.ok true (.ok true (.leaf false))) (.ok true (.br (!(kU a).1.Halt) (.ok true (.ok true (.ok true (.ok true (.ok (a3G (V4_0.mk (rN a).2 (kU a).1 (kU a).1 b (AH a).1 (eQ (aX (AH a).1) 1))) (.br (rE (fF a b).s16 0) (.ok true (.leaf false)) (.ok ((k31 (fF a b).b1 (fF a b).b0.Vector)&&true) (.ok ((k32 (fF a b).b0)&&true) (.ok true (.br (bif (bif (bif (!(aH3 a b).2)then true else(eV (aH3 a b).1 (fF a b).b1.R.PC))then true else(!(g32 (fF a b).b0).2))then true else(!(uZ (g32 (fF a b).b0).1 (eqI (aX (fF a b).s11) 5)))) (.ok true (.ok true (.leaf false))) (.ok ((k33 (fF a b).s1)&&true) (.ok ((k34 (sK (fF a b).s1).1 (sK (fF a b).s1).2)&&true) (.ok ((k35 (sK (fF a b).s1).1 (sK (fF a b).s1).2)&&true) (.ok ((k36 (fF a b).s1)&&true) (.ok ((k31 (sL (fF a b).s1).1 (sL (fF a b).s1).2)&&true) (.ok ((k37 (sL (fF a b).s1).1 (sL (fF a b).s1).2)&&true) (.ok ((k38 (fF a b).s1)&&true) (.ok ((k32 (LN (fF a b).s1))&&true) (.ok ((k39 (LN (fF a b).s1))&&true) (.ok true (.ok true (.leaf (bif (bif (bif (bif (bif (uZ (aH4 a b).2 (NR a b).2)then(eqI (aH4 a b).1 (NR a b).1)else false)then(uZ (NS a b).2 (NT a b).2)else false)then(eqI (NS a b).1 (NT a b).1)else false)then(uZ (NU a b).2 (NV a b).2)else false)then(uZ (NU a b).1 (NV a b).1)else false))))))))))))))))))))))) (.ok ((k33 b)&&true) (.ok ((k34 (sK b).1 (sK b).2)&&true) (.ok ((k35 (sK b).1 (sK b).2)&&true) (.ok ((k36 b)&&true) (.ok ((k31 (sL b).1 (sL b).2)&&true) (.ok ((k37 (sL b).1 (sL b).2)&&true) (.ok ((k38 b)&&true) (.ok ((k32 (LN b))&&true) (.ok ((k39 (LN b))&&true) (.ok true (.ok true (.leaf (N0 b))))))))))))))))) (.ok ((k33 b)&&true) (.ok ((k34 (sK b).1 (sK b).2)&&true) (.ok ((k35 (sK b).1 (sK b).2)&&true) (.ok ((k36 b)&&true) (.ok ((k31 (sL b).1 (sL b).2)&&true) (.ok ((k37 (sL b).1 (sL b).2)&&true) (.ok ((k38 b)&&true) (.ok ((k32 (LN b))&&true) (.ok ((k39 (LN b))&&true) (.ok true (.ok true (.leaf (N0 b)))))))))))))))))))))))))
def g4(a:List Row)(b:List Row):Bool:=hid (T4 a b).val
def k4(a:List Row)(b:List Row):Bool:=hid (T4 a b).okv
def q4:=aN2 (fun a b=>n14 a b (g4 a b)) k4
theorem hL4:dN (fun live x=>bN (hX a3F (gK x)) (dI R 0 2097152 (.loop live x))) F4.body:=(bH (l:=[([1,6,7,11,15,16],aRI)]) (by kernel_rfl) ⟨dK (n:=162) (by kernel_rfl) fun σ σr t h ho hl=>a3E σ σr t h ho hl,trivial⟩)
theorem t4:bX 4 q4:=aG2 fun a b hk=>UN at4 aUX hL4 [(54,K8),(55,K9),(60,K8),(61,K9),(66,K8),(67,K9),(72,K8),(73,K9),(81,K8),(82,K8),(98,K9),(100,K9),(108,K8),(114,mA),(119,mA),(125,mA),(130,K0),(133,K0),(139,K0),(142,K0),(148,K1),(151,K1),(156,mA),(158,K8),(167,K8),(183,K0),(184,K0),(187,K8),(189,K8),(191,K0),(196,K9),(206,K0),(226,K8),(227,K9),(232,K8),(233,K9),(243,K8),(249,K8),(257,K9),(262,K9)] [] true (T4 a b) (n14 a b) hk
end
end Go.Proofs.YtdipcnijfkdnfaaGreatFrames
