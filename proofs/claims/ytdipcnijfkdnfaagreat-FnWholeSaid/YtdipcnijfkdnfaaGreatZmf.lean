import Derived.Test.YtdipcnijfkdnfaaGreatZqWholeQ
import Derived.Test.YtdipcnijfkdnfaaGreatZmc
import Derived.Test.YtdipcnijfkdnfaaGreatZme
set_option linter.unusedVariables false
set_option linter.unusedSimpArgs false
namespace Go.Proofs.YtdipcnijfkdnfaaGreatWhole
open Go Go.Zq
set_option maxHeartbeats 4000000
set_option maxRecDepth 100000
structure FI(m:MM):Prop where
 p:cJ m.f.PC 0 65535=true
 a:cJ m.f.Addr 0 65535=true
 w:cJ m.f.Word 0 65535=true
 z:eqI m.f.Vector 0=true→m.f.Addr=0∧m.f.Write=false
 g:eqI m.f.Vector 0=false→lA m.f=true
theorem FI.of{m m':MM}(h:FI m)(e:m'.f=m.f):FI m':=by
 obtain⟨p,a,w,z,g⟩:=h;exact⟨by rw[e];exact p,by rw[e];exact a,by rw[e];exact w,by rw[e];exact z,by rw[e];exact g⟩
theorem EV{m:MM}{k s a v:Int}(h:FI m)(ha:cJ a 0 65535=true):FI (cU m k s a v).1:=by
 cases hc:(dD (cW k s a) 0&&eqI m.f.Vector 0)
 ·refine h.of ?_;unfold cU;dsimp only;rw[hc];rfl
 ·have e:(cU m k s a v).1.f={m.f with Vector:=bif eqI (cW k s a) 2 then 3 else 2,Addr:=a,Write:=eqI k 2}:=by
   unfold cU;dsimp only;rw[hc];rfl
  have hv:eqI (bif eqI (cW k s a) 2 then(3:Int)else 2) 0=false:=by cases eqI (cW k s a) 2<;>rfl
  refine⟨by rw[e];exact h.p,by rw[e];exact ha,by rw[e];exact h.w,fun z=>?_,fun _=>?_⟩
  ·rw[e]at z;exact absurd (z.symm.trans hv) (by decide)
  ·rw[e];unfold lA AW;rw[show cJ m.f.PC 0 65535=true from h.p,show cJ m.f.Word 0 65535=true from h.w,show cJ a 0 65535=true from ha]
   cases eqI (cW k s a) 2<;>rfl
theorem bHF{t:Int}{m:MM}{s:Int}{o:aF}(hm:m.Ok t)(ho:OpOk o)(h:FI m):FI (dU m s o).1:=by
 obtain⟨p3,p4⟩:=rQ (s:=s) hm.r ho;unfold dU;refine cE (P:=fun z:MM×Int×Int=>FI z.1) (fun _=>h) fun _=>?_
 refine cE (P:=fun z:MM×Int×Int=>FI z.1) (fun _=>h) fun _=>?_
 refine cE (P:=fun z:MM×Int×Int=>FI z.1) (fun _=>h) fun _=>?_
 exact EV (h.of rfl) p4
theorem bQJ{m:MM}{s:Int}{o:aF}(h:FI m):FI (kO m s o).1:=by
 unfold kO;exact cE (P:=fun z:MM×Int=>FI z.1) (fun _=>h) (fun _=>h.of rfl)
theorem aHG{m:MM}{s a v:Int}{o:aF}(h:FI m)(ha:cJ a 0 65535=true):FI (eK m s o a v):=by
 unfold eK;exact cE (P:=fun z:MM=>FI z) (fun _=>h.of rfl) (fun _=>EV h ha)
theorem bHG{t:Int}{m:MM}{v:Int}(hm:m.Ok t)(h:FI m):FI (eL m v):=by
 have ha:cJ ((cX m.r.a 3-2)%65536) 0 65535=true:=by rw[aU];omega
 unfold eL;exact cE (P:=fun z:MM=>FI z) (fun _=>(EV (k:=2) (s:=2) (v:=v) h ha).of rfl) (fun _=>EV h ha)
theorem aOG{t:Int}{m:MM}(hm:m.Ok t)(h:FI m):FI (dM m).1:=by
 have ha:cJ (cX m.r.a 3) 0 65535=true:=aU.2 (aED hm.r);show FI (bif cF (cU m 1 2 (cX m.r.a 3) 0).1 then{(cU m 1 2 (cX m.r.a 3) 0).1 with r:={m.r with a:=m.r.a.set 3 ((cX m.r.a 3+2)%65536)}}else(cU m 1 2 (cX m.r.a 3) 0).1)
 exact cE (P:=fun z:MM=>FI z) (fun _=>(EV (k:=1) (s:=2) (v:=0) h ha).of rfl) (fun _=>EV h ha)
theorem aHH{t:Int}{m:MM}{v:Int}(hm:m.Ok t)(h:FI m)(hf:cF m=true)(hv:4≤v∧v≤21):FI (zY m v):=by
 have hz:=h.z hf;have ev:eqI v 0=false:=iS.2 (by omega)
 refine⟨hm.r.pw,h.a,h.w,fun z=>?_,fun _=>?_⟩
 ·exact absurd ((show eqI v 0=true from z).symm.trans ev) (by decide)
 ·show lA {m.f with Vector:=v,PC:=m.r.pc}=true
  unfold lA;rw[show cJ v 2 21=true from aU.2 (by omega),show cJ m.r.pc 0 65535=true from hm.r.pw,show cJ m.f.Addr 0 65535=true from h.a,show cJ m.f.Word 0 65535=true from h.w]
  rw[show m.f.Addr=0 from hz.1,show m.f.Write=false from hz.2]
  rw[show(eqI 0 0&&!false)=true from rfl,Bool.or_true]
  rfl
theorem b5G{t a:Int}{m:MM}{x:aS}(hm:m.Ok t)(h:FI m)(hf:cF m=true)(hi:InsOk x):FI (sV m x a):=by
 have hr:=aU.1 hi.hr;have rd: ∀s,FI (dU m s x.Ea).1:=fun s=>bHF hm hi.ho h
 have sp: ∀s,FI (kO m s x.Ea).1:=fun s=>bQJ h
 have sok: ∀s,(kO m s x.Ea).1.Ok t∧cJ (kO m s x.Ea).2 0 65535=true:=fun s=>EQ hm hi.ho
 unfold sV;refine cE (P:=fun z=>FI z) (fun _=>?_) fun _=>?_
 ·unfold Y7;exact cE (P:=fun z=>FI z) (fun _=>(rd 2).of rfl) (fun _=>rd 2)
 refine cE (P:=fun z=>FI z) (fun _=>(sp 2).of rfl) fun _=>?_
 refine cE (P:=fun z=>FI z) (fun _=>?_) fun _=>?_
 ·exact(aHG (s:=x.Size) (o:=x.Ea) (v:=cX m.r.d x.Reg%cD x.Size) (sp x.Size) (sok x.Size).2).of rfl
 refine cE (P:=fun z=>FI z) (fun h11=>?_) fun _=>?_
 ·obtain⟨q1,q2,q3⟩:=aEL hm hi (eC.1 h11);have hq:FI (fO m x).1:=by
   unfold fO;exact cE (P:=fun z:MM×Int×Int=>FI z.1) (fun _=>sp x.Size) (fun _=>rd x.Size)
  unfold OE ER;refine cE (P:=fun z=>FI z) (fun _=>hq) fun _=>?_
  exact cE (P:=fun z=>FI z) (fun _=>(aHG (s:=x.Size) (o:=x.Ea) (v:=(xJ x (fO m x).1.r.fl (fO m x).2.1).1) hq q3).of rfl) (fun _=>hq.of rfl)
 refine cE (P:=fun z=>FI z) (fun _=>h.of rfl) fun _=>?_
 refine cE (P:=fun z=>FI z) (fun _=>?_) fun _=>?_
 ·unfold AV;refine cE (P:=fun z=>FI z) (fun _=>cE (P:=fun z=>FI z) (fun _=>h.of rfl) (fun _=>h)) fun _=>?_
  have hj:FI (XF x (kO m 2 x.Ea)):=by
   unfold XF;exact cE (P:=fun z=>FI z) (fun _=>bHG (sok 2).1 (sp 2)) (fun _=>sp 2)
  unfold aXT;exact cE (P:=fun z=>FI z) (fun _=>hj.of rfl) (fun _=>hj)
 refine cE (P:=fun z=>FI z) (fun _=>?_) fun _=>?_
 ·have p1:=aOG hm h;obtain⟨o1,-,-⟩:=I2 hm;unfold ET;refine cE (P:=fun z=>FI z) (fun _=>p1.of rfl) fun _=>?_
  refine cE (P:=fun z=>FI z) (fun _=>?_) fun _=>?_
  ·refine cE (P:=fun z=>FI z) (fun _=>p1) fun _=>?_
   exact cE (P:=fun z=>FI z) (fun _=>(aOG o1 p1).of rfl) (fun _=>aOG o1 p1)
  refine cE (P:=fun z=>FI z) (fun _=>h.of rfl) fun _=>?_
  refine cE (P:=fun z=>FI z) (fun _=>aHH hm h hf (by omega)) fun _=>?_
  refine cE (P:=fun z=>FI z) (fun _=>h.of rfl) fun _=>?_
  exact cE (P:=fun z=>FI z) (fun _=>h.of rfl) (fun _=>h)
 refine cE (P:=fun z=>FI z) (fun h16=>?_) fun _=>?_
 ·have h2:x.Op=16∨x.Op=17:=by
   cases e:eqI x.Op 16
   ·rw[e,Bool.false_or,eC]at h16;exact Or.inr h16
   ·exact Or.inl (eC.1 e)
  obtain⟨r3,-,-⟩:=rT hm V8 hi.ho oV oV;unfold kL;refine cE (P:=fun z=>FI z) (fun _=>rd 2) fun hn=>?_
  unfold Y4;refine cE (P:=fun z=>FI z) (fun _=>(rd 2).of rfl) fun _=>?_
  exact cE (P:=fun z=>FI z) (fun _=>aHH r3 (rd 2) (EU hn) (by omega)) (fun _=>(rd 2).of rfl)
 refine cE (P:=fun z=>FI z) (fun _=>?_) fun _=>?_
 ·unfold OF;refine cE (P:=fun z=>FI z) (fun _=>h.of rfl) fun _=>?_
  have hz:=h.z hf;refine⟨h.p,h.a,h.w,fun z=>?_,fun _=>?_⟩
  ·exact absurd (show eqI 4 0=true from z) (by decide)
  ·show lA {m.f with Vector:=4}=true
   unfold lA;rw[show cJ m.f.PC 0 65535=true from h.p,show cJ m.f.Addr 0 65535=true from h.a,show cJ m.f.Word 0 65535=true from h.w,show m.f.Addr=0 from hz.1,show m.f.Write=false from hz.2]
   rfl
 refine cE (P:=fun z=>FI z) (fun _=>?_) fun _=>?_
 ·unfold V9;exact cE (P:=fun z=>FI z) (fun _=>h.of rfl) (fun _=>h.of rfl)
 ·unfold CD;refine cE (P:=fun z=>FI z) (fun _=>rd x.Size) fun _=>?_
  exact cE (P:=fun z=>FI z) (fun _=>(rd x.Size).of rfl) (fun _=>(rd x.Size).of rfl)
theorem aUX{r:RM}{zs:List Int}{l:List aE}{s:Bool}{pc w:Int}(hp:cJ pc 0 65535=true)(hw:cJ w 0 65535=true):FI (mq r zs l s pc w):=⟨hp,(by decide:cJ 0 0 65535=true),hw,fun _=>⟨rfl,rfl⟩,fun z=>absurd (show eqI 0 0=false from z) (by decide)⟩
theorem bQK{r:RM}{zs:List Int}{l:List aE}{s:Bool}(hr:r.Ok 65535)(hb:BusOk zs l):FI (mF (mm r zs l s)).1:=by
 have a0:FI (mq r zs l s r.pc 0):=aUX hr.pw (by decide)
 have a1:FI (cU (mq r zs l s r.pc 0) 3 2 r.pc 0).1:=EV a0 hr.pw;obtain⟨b1,b2⟩:=GB (s:=s) (pc:=r.pc) (w:=0) (k:=3) (v:=0) hr hb V8 (by decide) hr.pw (by decide)
 have m1:=CH (r:=r) (zs:=zs) (l:=l) (s:=s) (pc:=r.pc) (w:=0) (k:=3) (sz:=2) (a:=r.pc) (v:=0);have ef:mF (mm r zs l s)=LI (cU (mq r zs l s r.pc 0) 3 2 r.pc 0) r.pc:=rfl;rw[ef];generalize cU (mq r zs l s r.pc 0) 3 2 r.pc 0=A at a1 b1 b2 m1;obtain⟨A1,w1⟩:=A;dsimp only at a1 b1 b2 m1;have hw:cJ w1 0 65535=true:=aU.2 (rP b2);have ha:cJ ((r.pc+2)%65536) 0 65535=true:=by rw[aU];omega
 have v4: ∀(m:MM),(∃r z l',m=mq r z l' s r.pc w1∧cJ r.pc 0 65535=true)→FI {m with f:={m.f with Vector:=4}}:=by
  rintro m ⟨r',z,l',rfl,hp⟩
  have h:=aUX (r:=r') (zs:=z) (l:=l') (s:=s) hp hw;refine⟨h.p,h.a,h.w,fun z=>absurd (show eqI 4 0=true from z) (by decide),fun _=>?_⟩
  show lA ⟨4,r'.pc,0,w1,false⟩=true
  unfold lA;rw[show cJ r'.pc 0 65535=true from hp,show cJ w1 0 65535=true from hw]
  rfl
 unfold LI;refine cE (P:=fun z:MM×aS×Int=>FI z.1) (fun _=>a1) fun h1=>?_
 have m1:=m1 (EU h1);have eA:({A1 with f:={A1.f with Word:=w1}}:MM)=mq r A1.zs A1.l s r.pc w1:=by rw[m1];rfl
 refine cE (P:=fun z:MM×aS×Int=>FI z.1) (fun _=>?_) fun _=>?_
 ·rw[eA];have c1:FI (cU (mq r A1.zs A1.l s r.pc w1) 3 2 ((r.pc+2)%65536) 0).1:=EV (aUX hr.pw hw) ha;have m2:=CH (r:=r) (zs:=A1.zs) (l:=A1.l) (s:=s) (pc:=r.pc) (w:=w1) (k:=3) (sz:=2) (a:=(r.pc+2)%65536) (v:=0);generalize cU (mq r A1.zs A1.l s r.pc w1) 3 2 ((r.pc+2)%65536) 0=C at c1 m2;unfold V2;refine cE (P:=fun z:MM×aS×Int=>FI z.1) (fun _=>c1) fun h2=>?_
  exact cE (P:=fun z:MM×aS×Int=>FI z.1) (fun _=>v4 _ ⟨r,_,_,m2 (EU h2),hr.pw⟩) (fun _=>c1)
 ·refine cE (P:=fun z:MM×aS×Int=>FI z.1) (fun _=>?_) (fun _=>?_)
  ·have:=v4 (mq r A1.zs A1.l s r.pc w1) ⟨r,_,_,rfl,hr.pw⟩;rw[←eA]at this;exact this
  ·show FI ({A1 with f:={A1.f with Word:=w1}}:MM)
   rw[eA];exact aUX hr.pw hw
theorem bHH{r:RM}{zs:List Int}{l:List aE}{s:Bool}(hr:r.Ok 65535)(hb:BusOk zs l):FI (tZ (mm r zs l s)):=by
 have f1:=bQK (s:=s) hr hb;have hm:(mm r zs l s).Ok 65535:=⟨hr,hb⟩;obtain⟨o1,o2⟩:=aEP hm;have b1:FI (oW (mF (mm r zs l s))):=by
  unfold oW;refine cE (P:=fun z=>FI z) (fun hb=>?_) (fun _=>f1)
  rw[Bool.and_eq_true]at hb;have hz:=f1.z hb.1;refine⟨f1.p,f1.a,f1.w,fun z=>absurd (show eqI 8 0=true from z) (by decide),fun _=>?_⟩
  show lA {(mF (mm r zs l s)).1.f with Vector:=8}=true
  unfold lA;rw[show cJ (mF (mm r zs l s)).1.f.PC 0 65535=true from f1.p,show cJ (mF (mm r zs l s)).1.f.Addr 0 65535=true from f1.a,show cJ (mF (mm r zs l s)).1.f.Word 0 65535=true from f1.w,show(mF (mm r zs l s)).1.f.Addr=0 from hz.1,show(mF (mm r zs l s)).1.f.Write=false from hz.2]
  rfl
 have b2:(oW (mF (mm r zs l s))).Ok 65535:=by unfold oW;exact cE (P:=fun z=>MM.Ok 65535 z) (fun _=>⟨o1.r,o1.b⟩) (fun _=>o1)
 unfold tZ vK;refine cE (P:=fun z=>FI z) (fun h=>?_) (fun _=>b1)
 have hf:cF (mF (mm r zs l s)).1=true:=by
  unfold oW at h;cases hh:cF (mF (mm r zs l s)).1
  ·rw[hh,Bool.false_and,cond_false,hh]at h;exact h
  ·rfl
 exact b5G ⟨b2.r.setP (aU.2 (by omega)),b2.b⟩ (b1.of rfl) h (InsOk.of (o2 hf).1)
end Go.Proofs.YtdipcnijfkdnfaaGreatWhole

namespace Go.Proofs.YtdipcnijfkdnfaaGreatWhole
open Go Go.Zq
set_option maxHeartbeats 4000000
set_option maxRecDepth 100000
structure RP(r:RM)(p:RM):Prop where
 d:p.d=r.d
 f:p.fl=r.fl
 m:p.mask=r.mask
 s:p.sup=true
 t:p.tr=false
theorem RP.setA{r p:RM}{l:List Int}(h:RP r p):RP r {p with a:=l}:=⟨h.d,h.f,h.m,h.s,h.t⟩
theorem RP.setP{r p:RM}{v:Int}(h:RP r p):RP r {p with pc:=v}:=⟨h.d,h.f,h.m,h.s,h.t⟩
theorem bHI{r:RM}(h:r.Ok 65535):RP r (dS r (vE r)):=by
 have f:=aU.1 h.fw;have k:=aU.1 h.mw;have e1:vE r%32=r.fl:=by unfold vE;omega
 have e2:vE r/32%8=r.mask:=by unfold vE;omega
 have e3:eqI (vE r/256%2) 1=true:=by rw[eC];unfold vE;omega
 have e4:eqI (vE r/512%2) 1=false:=by rw[iS];unfold vE;omega
 unfold dS;rw[e1,e2,e3,e4];cases hs:r.sup
 ·exact⟨rfl,rfl,rfl,rfl,rfl⟩
 ·exact⟨rfl,rfl,rfl,rfl,rfl⟩
theorem bHJ{r:RM}{m:MM}{v:Int}(h:RP r m.r):RP r (eL m v).r:=by
 unfold eL;exact cE (P:=fun z:MM=>RP r z.r) (fun _=>h.setA) (fun _=>h)
theorem a9R{r:RM}{m:MM}{F:List Int}(h:RP r m.r): ∀i,RP r (pk m F i).r
 |0=>h
 |i+1=>cE (P:=fun z:MM=>RP r z.r) (fun _=>bHJ (a9R h i)) (fun _=>a9R h i)
theorem bQL{r:RM}{zs:List Int}{l:List aE}{f:aL}(hr:r.Ok 65535)(hb:BusOk zs l)(hg:lA f=true): ∃r' zs' l' h',WG (mm (dS r (vE r)) zs l false) (nA r f) f.Vector=bP r' zs' l' false h'∧r'.Ok 65535∧BusOk zs' l'∧RP r r'∧(h'=false→cF (pk (mm (dS r (vE r)) zs l false) (nA r f) (nA r f).length)=true∧zs'=(pk (mm (dS r (vE r)) zs l false) (nA r f) (nA r f).length).zs∧r'.a=(pk (mm (dS r (vE r)) zs l false) (nA r f) (nA r f).length).r.a∧r'.pc=tV 1 2 (2*f.Vector) 0 zs'):=by
 obtain⟨gv,-⟩:=aEW hg;obtain⟨w1,w2⟩:=a9E hr hg;have hr':(dS r (vE r)).Ok 65535:=FZ hr;have hm:(mm (dS r (vE r)) zs l false).Ok 65535:=⟨hr',hb⟩;have hp:=WF hm w1 (nA r f).length;have hq:RP r (pk (mm (dS r (vE r)) zs l false) (nA r f) (nA r f).length).r:=a9R (bHI hr) _;unfold WG;generalize pk (mm (dS r (vE r)) zs l false) (nA r f) (nA r f).length=p at*;obtain⟨o1,o2⟩:=zX (k:=1) hp (LO gv) (by decide)
 have ez:(cU p 1 2 (2*f.Vector) 0).1.zs=p.zs:=by
  show tB 1 2 (2*f.Vector) 0 p.zs=p.zs
  unfold tB;rw[show eqI 1 2=false from rfl,Bool.and_false,cond_false]
 have ev:(cU p 1 2 (2*f.Vector) 0).2=tV 1 2 (2*f.Vector) 0 p.zs:=rfl;unfold aX8 bG4;cases hf:cF p
 ·exact⟨p.r,p.zs,p.l,true,rfl,hp.r,hp.b,hq,fun h=>absurd h (by decide)⟩
 ·rw[cond_true];cases hc:cF (cU p 1 2 (2*f.Vector) 0).1
  ·exact⟨p.r,_,_,true,rfl,hp.r,o1.b,hq,fun h=>absurd h (by decide)⟩
  ·refine⟨{p.r with pc:=(cU p 1 2 (2*f.Vector) 0).2},_,_,false,rfl,hp.r.setP (aU.2 (rP o2)),o1.b,hq.setP,fun _=>⟨rfl,ez,rfl,?_⟩⟩
   rw[ez];exact ev
def Cgo(h:Bool)(c:aG):Prop:= ∃r zs l s,c=bP r zs l s h∧r.Ok 65535∧BusOk zs l
noncomputable def LR(c:aG)(f:aL):aG:=XC f c
theorem WM{c:aG}{f:aL}(hc:Cgo false c)(hg:lA f=true):aGI f c=true∧(P3 c f c.R.Mask=true∧P2 c f c.R.Mask=LR c f)∧(LR c f).Stop=false∧ ∃h,Cgo h (LR c f):=by
 obtain⟨r,zs,l,s,rfl,hr,hb⟩:=hc;obtain⟨a1,a2⟩:=aEX (s:=s) hr hb hg;have hm:cJ r.mask 0 7=true:=by have:=hr.mw;rwa [show(65535:Int)-65528=7 from rfl]at this
 obtain⟨b1,b2⟩:=bG6 (s:=s) (h:=false) hr hb hg hm;obtain⟨r',zs',l',h',e,o1,o2,-⟩:=bQL hr hb hg;have ee:LR (bP r zs l s false) f=WG (mm (dS r (vE r)) zs l false) (nA r f) f.Vector:=a2;refine⟨a1,⟨b1,?_⟩,?_,h',?_⟩
 ·rw[ee];exact b2
 ·rw[ee,e];rfl
 ·rw[ee,e];exact⟨r',zs',l',false,rfl,o1,o2⟩
theorem QK{c:aG}{f:aL}(hc:Cgo false c)(hg:lA f=true):P3 c f c.R.Mask=true∧P2 c f c.R.Mask=LR c f:=(WM hc hg).2.1
structure SP(q:aG×aL):Prop where
 c:Cgo false q.1
 g:eqI q.2.Vector 0=false→lA q.2=true
noncomputable def vS(r:RM)(zs:List Int)(l:List aE)(s:Bool):aG×aL:=uA (mm r zs l s) (tZ (mm r zs l s))
theorem WN{r:RM}{zs:List Int}{l:List aE}{s:Bool}(hr:r.Ok 65535)(hb:BusOk zs l):SP (vS r zs l s):=by
 have hm:(mm r zs l s).Ok 65535:=⟨hr,hb⟩;have ho:=WA hm;have hf:=bHH (s:=s) hr hb;unfold vS uA;cases h:cF (tZ (mm r zs l s))
 ·exact⟨⟨_,_,_,_,rfl,hr,ho.b⟩,fun z=>hf.g h⟩
 ·exact⟨⟨_,_,_,_,rfl,ho.r,ho.b⟩,fun z=>absurd (show eqI 0 0=false from z) (by decide)⟩
noncomputable def vL(q:aG×aL):aG:=bif eqI q.2.Vector 0 then q.1 else LR q.1 q.2
def tF(c:aG):aL:=⟨9,c.R.PC,0,0,false⟩
def QL(tr:Bool)(c:aG)(v:Int):Bool:=(tr&&!c.Halt)&&(eqI v 0||(eqI v 5||geI v 18))
noncomputable def iQ(tr:Bool)(q:aG×aL):aG×Int:=
 bif QL tr (vL q) q.2.Vector then(LR (vL q) (tF (vL q)),bif eqI q.2.Vector 0 then 9 else q.2.Vector)else(vL q,q.2.Vector)
theorem aUY{q:aG×aL}(h:SP q): ∃hh,Cgo hh (vL q)∧(eqI q.2.Vector 0=false→(vL q).Stop=false):=by
 unfold vL;cases hv:eqI q.2.Vector 0
 ·obtain⟨-,-,e,hh,c⟩:=WM h.c (h.g hv);exact⟨hh,c,fun _=>e⟩
 ·exact⟨false,h.c,fun z=>absurd z (by decide)⟩
theorem QM{h:Bool}{c:aG}(hc:Cgo h c):lA (tF c)=true:=by
 obtain⟨r,zs,l,s,rfl,hr,hb⟩:=hc;show lA ⟨9,r.pc,0,0,false⟩=true
 unfold lA;rw[show cJ r.pc 0 65535=true from hr.pw]
 rfl
theorem bHL{h:Bool}{c:aG}(hc:Cgo h c):c.Halt=h:=by
 obtain⟨r,zs,l,s,rfl,-⟩:=hc;rfl
theorem LS{h:Bool}{c:aG}(hc:Cgo h c)(e:c.Halt=false):Cgo false c:=by
 have:=bHL hc;rw[e]at this;rw[this];exact hc
def CGd(c:aG):Prop:= ∃r zs l s h,c=bP r zs l s h∧r.Ok 65535∧BusOk zs l∧(!(s&&h))=true
theorem aHI{tr:Bool}{q:aG×aL}(h:SP q):CGd (iQ tr q).1:=by
 obtain⟨hh,c,hs⟩:=aUY h;unfold iQ;cases ht:QL tr (vL q) q.2.Vector
 ·rw[cond_false];cases hv:eqI q.2.Vector 0
  ·have:=hs hv;obtain⟨r,zs,l,s,e,a,b⟩:=c;rw[e]at this;have es:s=false:=this;exact⟨r,zs,l,s,hh,e,a,b,by rw[es];rfl⟩
  ·have e1:vL q=q.1:=by unfold vL;rw[hv];rfl
   rw[e1];obtain⟨r,zs,l,s,e,a,b⟩:=h.c;exact⟨r,zs,l,s,false,e,a,b,by rw[Bool.and_false];rfl⟩
 ·rw[cond_true];have hh2:(vL q).Halt=false:=by
   unfold QL at ht;simp only[Bool.and_eq_true]at ht;exact yL ht.1.2
  obtain⟨-,-,e,h3,c3⟩:=WM (LS c hh2) (QM c);obtain⟨r,zs,l,s,e2,a,b⟩:=c3;rw[e2]at e;have es:s=false:=e;exact⟨r,zs,l,s,h3,e2,a,b,by rw[es];rfl⟩
theorem a9T{r:RM}{zs:List Int}{l:List aE}{s:Bool}(hr:r.Ok 65535)(hb:BusOk zs l):a42 (bP r zs l s false)=true∧PY (bP r zs l s false)=iQ r.tr (vS r zs l s):=by
 refine aK (t:=a41 (bP r zs l s false)) (P:=fun q=>q=iQ r.tr (vS r zs l s)) ?_
 obtain⟨a1,a2⟩:=bIY (s:=s) hr hb;have a2:oL (bP r zs l s false)=vS r zs l s:=a2;have h:=WN (s:=s) hr hb;obtain⟨hh,c,hs⟩:=aUY h;generalize vS r zs l s=q at a2 h c hs;unfold a41;have te: ∀b:Bool,(bif bif r.tr then !b else false then(bif bif eqI q.2.Vector 0 then true else eqI q.2.Vector 5 then true else geI q.2.Vector 18)else false)=((r.tr&&!b)&&(eqI q.2.Vector 0||(eqI q.2.Vector 5||geI q.2.Vector 18))):=fun b=>by
  cases r.tr<;>cases b<;>cases eqI q.2.Vector 0<;>cases eqI q.2.Vector 5<;>rfl
 have k2:QL r.tr (vL q) q.2.Vector=true→aGI (tF (vL q)) (vL q)=true:=fun ht=>by
  have hh2:(vL q).Halt=false:=by
   unfold QL at ht;simp only[Bool.and_eq_true]at ht;exact yL ht.1.2
  exact(WM (LS c hh2) (QM c)).1
 cases hv:eqI q.2.Vector 0
 ·have e1:vL q=XC q.2 q.1:=by unfold vL;rw[hv];rfl
  have k1:=(WM h.c (h.g hv)).1;have hn:dD q.2.Vector 0=true:=by rw[m6,hv];rfl
  rw[hv]at te;unfold QL at k2;rw[hv,e1]at k2;unfold iQ QL;rw[hv,e1];simp only[aB,aI,aA,UU,aCT,UT,aCS,wU,a1,a2,k1,hn,jY,aR,hv,te,aD,bO,wz,Bool.and_true,true_and,forall_const,Bool.true_eq_false,Bool.false_eq_true,false_implies,and_true];refine⟨fun z=>⟨k2 z,?_⟩,fun z=>?_⟩
  ·rw[z];rfl
  ·rw[z];rfl
 ·have e1:vL q=q.1:=by unfold vL;rw[hv];rfl
  have hn:dD q.2.Vector 0=false:=by rw[m6,hv];rfl
  rw[hv]at te;unfold QL at k2;rw[hv,e1]at k2;unfold iQ QL;rw[hv,e1];simp only[aB,aI,aA,UU,aCT,UT,aCS,wU,a1,a2,hn,jY,aR,hv,te,aD,bO,wz,Bool.and_true,true_and,forall_const,Bool.true_eq_false,Bool.false_eq_true,false_implies,and_true];refine⟨fun z=>⟨k2 z,?_⟩,fun z=>?_⟩
  ·rw[z];rfl
  ·rw[z];rfl
end Go.Proofs.YtdipcnijfkdnfaaGreatWhole

namespace Go.Proofs.YtdipcnijfkdnfaaGreatWhole
open Bool renaming true_eq_false → q_1
open Bool renaming false_eq_true → q_2
open Go Go.Zq
set_option maxHeartbeats 4000000
set_option maxRecDepth 100000
theorem a9U{t:Int}{r:RM}{zs:List Int}{l:List aE}{s h:Bool}(hr:r.Ok t)(hb:BusOk zs l):a72 (bP r zs l s h)=true∧fD (bP r zs l s h)=uA ⟨r,zs,l,s,f0⟩ (tZ ⟨r,zs,l,s,f0⟩):=by
 refine aK (t:=aGQ (bP r zs l s h)) (P:=fun q=>q=uA ⟨r,zs,l,s,f0⟩ (tZ ⟨r,zs,l,s,f0⟩)) ?_
 have hm:MM.Ok t ⟨r,zs,l,s,f0⟩:=⟨hr,hb⟩;obtain⟨a1,a2⟩:=aEQ (s:=s) (h:=h) hr hb;obtain⟨b1,b2⟩:=bIN hm;obtain⟨f1,f2⟩:=aEP hm;have e1:(bP r zs l s h).R=r.g:=rfl;have e2:(bP r zs l s h).Stop=s:=rfl;have lR:=LJ s h hr hb;obtain⟨o1,o2⟩:=aN5 (r:=r.g) lR.1 lR.2.1;unfold aGQ tZ;have hA:=WA hm;unfold tZ at hA;obtain⟨m,hM⟩: ∃m:MM,m=⟨r,zs,l,s,f0⟩:=⟨_,rfl⟩;have hr':r.g=m.r.g:=by rw[hM]
 have hs':s=m.stop:=by rw[hM]
 have hp':(eM (bP r zs l s h)).fr=m.r.g:=by rw[a2,←hM];rfl
 rw[←hM]at a2 hm b1 b2 f1 f2 hA⊢;rw[hr']at e1 o1 o2
 replace e2:(bP r zs l s h).Stop=m.stop:=hs'
 have mp:=aU.1 hm.r.pw;generalize hF:mF m=q at b1 b2 f1 f2 hA⊢;obtain⟨q1,x,n⟩:=q;dsimp only at b1 b2 f1 f2 hA⊢;have cp: ∀w:MM,w.Ok t→I5 w.g=true∧uC w.g=bP w.r w.zs w.l w.stop false:=fun w hw=>aG4 hw
 cases hf:eqI q1.f.Vector 0
 ·have hB:oW (q1,x,n)=q1:=by unfold oW cF;rw[hf];rfl
  have hC:vK q1 x n m.r.pc=q1:=by unfold vK cF;rw[hf];rfl
  rw[hB,hC];obtain⟨c1,c2⟩:=cp ⟨m.r,q1.zs,q1.l,m.stop,q1.f⟩ ⟨hm.r,f1.b⟩;have c1':I5 (aQ.mk m.r.g (pA q1.zs q1.l) m.stop q1.f)=true:=c1;have c2':uC (aQ.mk m.r.g (pA q1.zs q1.l) m.stop q1.f)=bP m.r q1.zs q1.l m.stop false:=c2;simp only[aB,aI,aA,AN,rK,xG,AM,rJ,xF,fC,AL,AK,rI,xE,FU,FT,vQ,yH,B9,gT,FS,rH,tE,B8,eO,cH,cB,bS,eS,eV,aX,cK,aW,bK,aV,aR,a1,a2,b1,b2,e1,e2,o1,o2,c1',c2',dT,(pC _).1,(pC _).2,hf,Bool.not_true,Bool.not_false,cond_true,cond_false,aD,bO,wz,bL,cQ,aZ,cS,Bool.and_true,Bool.true_or,Bool.or_true,true_and,forall_const,q_1,q_2,false_implies,and_true,implies_true];unfold uA cF;rw[hf];rfl
 ·obtain⟨g1,g2⟩:=f2 hf;have hI:=InsOk.of g1;have en:bF (bE m.r.pc (dE 2 n)) 65535=(m.r.pc+2*n)%65536:=by rw[gU (by omega),bV (by omega),rX]
  cases hv:qL x&&!q1.r.sup
  ·have hB:oW (q1,x,n)=q1:=by unfold oW cF;rw[hf,hv];rfl
   have hC:vK q1 x n m.r.pc=sV {q1 with r:={q1.r with pc:=(m.r.pc+2*n)%65536}} x m.r.pc:=by unfold vK cF;rw[hf];rfl
   have hm2:MM.Ok t {q1 with r:={q1.r with pc:=(m.r.pc+2*n)%65536}}:=⟨f1.r.setP (aU.2 (by omega)),f1.b⟩
   obtain⟨d1,d2⟩:=b4L hm2 hI hm.r.pw;have d3:=a8W (a:=m.r.pc) hm2 hI;rw[hB,hC];generalize sV {q1 with r:={q1.r with pc:=(m.r.pc+2*n)%65536}} x m.r.pc=w at d2 d3
   have hw:(bif (bif true then qL x else false)then(!q1.r.sup)else false)=false:=by
    rw[←hv];cases qL x<;>rfl
   have sp:(aQ.mk (RM.g {q1.r with pc:=(m.r.pc+2*n)%65536}) (pA q1.zs q1.l) q1.stop q1.f)=MM.g {q1 with r:={q1.r with pc:=(m.r.pc+2*n)%65536}}:=rfl
   obtain⟨c1,c2⟩:=cp ⟨m.r,w.zs,w.l,m.stop,w.f⟩ ⟨hm.r,d3.b⟩;have c1':I5 (aQ.mk m.r.g (pA w.zs w.l) m.stop w.f)=true:=c1;have c2':uC (aQ.mk m.r.g (pA w.zs w.l) m.stop w.f)=bP m.r w.zs w.l m.stop false:=c2;obtain⟨j1,j2⟩:=cp w d3;cases hz:eqI w.f.Vector 0
   ·simp only[aB,aI,aA,AN,rK,xG,AM,rJ,xF,fC,AL,AK,rI,xE,FU,FT,vQ,yH,B9,gT,FS,rH,tE,B8,eO,cH,cB,bS,eS,eV,aX,cK,aW,bK,aV,aR,jB,a1,a2,b1,b2,e1,e2,o1,o2,dT,(pC _).1,(pC _).2,hf,hw,en,sp,d1,d2,hz,c1',c2',Bool.not_true,Bool.not_false,cond_false,aD,bO,wz,bL,cQ,aZ,cS,Bool.and_true,Bool.true_or,Bool.or_true,true_and,forall_const,q_1,q_2,false_implies,and_true,implies_true];unfold uA cF;rw[hz];rfl
   ·simp only[aB,aI,aA,AN,rK,xG,AM,rJ,xF,fC,AL,AK,rI,xE,FU,FT,vQ,yH,B9,gT,FS,rH,tE,B8,eO,cH,cB,bS,eS,eV,aX,cK,aW,bK,aV,aR,jB,a1,a2,b1,b2,e1,e2,o1,o2,dT,(pC _).1,(pC _).2,hf,hw,en,sp,d1,d2,hz,j1,j2,Bool.not_true,Bool.not_false,cond_false,aD,bO,wz,bL,cQ,aZ,cS,Bool.and_true,Bool.true_or,Bool.or_true,true_and,forall_const,q_1,q_2,false_implies,and_true,implies_true];unfold uA cF;rw[hz];rfl
  ·have hB:oW (q1,x,n)={q1 with f:={q1.f with Vector:=8}}:=by unfold oW cF;rw[hf,hv];rfl
   have hC:vK {q1 with f:={q1.f with Vector:=8}} x n m.r.pc={q1 with f:={q1.f with Vector:=8}}:=by unfold vK cF;rfl
   rw[hB,hC];have hw:(bif (bif true then qL x else false)then(!q1.r.sup)else false)=true:=by
    rw[Bool.and_eq_true]at hv;rw[hv.1,hv.2];rfl
   obtain⟨c1,c2⟩:=cp ⟨m.r,q1.zs,q1.l,m.stop,{q1.f with Vector:=8}⟩ ⟨hm.r,f1.b⟩
   have c1':I5 (aQ.mk m.r.g (pA q1.zs q1.l) m.stop {q1.f with Vector:=8})=true:=c1
   have c2':uC (aQ.mk m.r.g (pA q1.zs q1.l) m.stop {q1.f with Vector:=8})=bP m.r q1.zs q1.l m.stop false:=c2
   simp only[aB,aI,aA,AN,rK,xG,AM,rJ,xF,fC,AL,AK,rI,xE,FU,FT,vQ,yH,B9,gT,FS,rH,tE,B8,eO,cH,cB,bS,eS,eV,aX,cK,aW,bK,aV,aR,a1,a2,b1,b2,e1,e2,o1,o2,dT,(pC _).1,(pC _).2,hf,hw,show eqI 8 0=false from rfl,c1',c2',Bool.not_true,Bool.not_false,cond_false,aD,bO,wz,bL,cQ,aZ,cS,Bool.and_true,Bool.true_or,Bool.or_true,true_and,forall_const,q_1,q_2,false_implies,and_true,implies_true]
   rfl
theorem bQM{r:RM}{zs:List Int}{l:List aE}{s:Bool}(hr:r.Ok 65535)(hb:BusOk zs l):bOI (bP r zs l s false)=true∧aNP (bP r zs l s false)=iQ r.tr (vS r zs l s):=by
 refine aK (t:=a7I (bP r zs l s false)) (P:=fun q=>q=iQ r.tr (vS r zs l s)) ?_
 obtain⟨a1,a2⟩:=bPS (s:=s) (h:=false) hr hb;have a2:xT (bP r zs l s false)=vS r zs l s:=a2;have h:=WN (s:=s) hr hb;obtain⟨hh,c,hs⟩:=aUY h;generalize vS r zs l s=q at a2 h c hs;unfold a7I;have k2:QL r.tr (vL q) q.2.Vector=true→P3 (vL q) (tF (vL q)) (vL q).R.Mask=true∧P2 (vL q) (tF (vL q)) (vL q).R.Mask=LR (vL q) (tF (vL q)):=fun ht=>by
  have hh2:(vL q).Halt=false:=by
   unfold QL at ht;simp only[Bool.and_eq_true]at ht;exact yL ht.1.2
  exact QK (LS c hh2) (QM c)
 cases hv:eqI q.2.Vector 0
 ·have e1:vL q=LR q.1 q.2:=by unfold vL;rw[hv];rfl
  obtain⟨k1,g1⟩:=QK h.c (h.g hv);have hn:dD q.2.Vector 0=true:=by rw[m6,hv];rfl
  unfold QL at k2;rw[hv,e1]at k2;unfold iQ QL;rw[hv,e1];have n5:(bif ltI q.2.Vector 18 then dD q.2.Vector 5 else false)=!(eqI q.2.Vector 5||geI q.2.Vector 18):=by
   rw[m6];cases h5:eqI q.2.Vector 5
   ·cases h6:geI q.2.Vector 18
    ·rw[aGV]at h6;rw[eD.2 h6];rfl
    ·rw[KY]at h6;rw[nV.2 h6];rfl
   ·cases ltI q.2.Vector 18<;>rfl
  have te: ∀b:Bool,(bif r.tr then !b else false)=(r.tr&&!b):=fun b=>by cases r.tr<;>rfl
  simp only[aB,aI,aA,aD1,B7,aD0,B6,aDZ,aDY,mE,N6,a1,a2,k1,g1,hn,n5,jY,eS,eV,aR,hv,te,aD,bO,wz,bL,cQ,aZ,cS,Bool.and_true,true_and,forall_const,q_1,q_2,false_implies,and_true,implies_true];refine⟨fun z=>?_,fun z=>⟨fun y=>?_,fun y=>?_⟩⟩
  ·rw[yL z];rw[Bool.false_or,Bool.and_false];rfl
  ·have z:=EU z;have w:=k2 (by rw[y,z];rfl)
   refine⟨w.1,?_⟩;rw[y,z];exact Prod.ext w.2 rfl
  ·rw[y];rfl
 ·have e1:vL q=q.1:=by unfold vL;rw[hv];rfl
  have hn:dD q.2.Vector 0=false:=by rw[m6,hv];rfl
  unfold QL at k2;rw[hv,e1]at k2;unfold iQ QL;rw[hv,e1];have te: ∀b:Bool,(bif r.tr then !b else false)=(r.tr&&!b):=fun b=>by cases r.tr<;>rfl
  simp only[aB,aI,aA,aD1,B7,aD0,B6,aDZ,aDY,mE,N6,a1,a2,hn,jY,eS,eV,aR,hv,te,aD,bO,wz,bL,cQ,aZ,cS,Bool.and_true,true_and,forall_const,q_1,q_2,false_implies,and_true,implies_true];refine⟨fun y=>?_,fun y=>?_⟩
  ·have w:=k2 (by rw[y];rfl)
   refine⟨w.1,?_⟩;rw[y];exact Prod.ext w.2 rfl
  ·rw[y];rfl
theorem a9V{r:RM}{zs:List Int}{l:List aE}{s:Bool}(hr:r.Ok 65535)(hb:BusOk zs l):aD5 (bP r zs l s false)=true∧EK (bP r zs l s false)=iQ r.tr (vS r zs l s):=by
 refine aK (t:=VR (bP r zs l s false)) (P:=fun q=>q=iQ r.tr (vS r zs l s)) ?_
 obtain⟨a1,a2⟩:=a9U (s:=s) (h:=false) hr hb;have a2:fD (bP r zs l s false)=vS r zs l s:=a2;have h:=WN (s:=s) hr hb;obtain⟨hh,c,hs⟩:=aUY h;generalize vS r zs l s=q at a2 h c hs;unfold VR;have k2:QL r.tr (vL q) q.2.Vector=true→P3 (vL q) (tF (vL q)) (vL q).R.Mask=true∧P2 (vL q) (tF (vL q)) (vL q).R.Mask=LR (vL q) (tF (vL q)):=fun ht=>by
  have hh2:(vL q).Halt=false:=by
   unfold QL at ht;simp only[Bool.and_eq_true]at ht;exact yL ht.1.2
  exact QK (LS c hh2) (QM c)
 cases hv:eqI q.2.Vector 0
 ·have e1:vL q=LR q.1 q.2:=by unfold vL;rw[hv];rfl
  obtain⟨k1,g1⟩:=QK h.c (h.g hv);have hn:dD q.2.Vector 0=true:=by rw[m6,hv];rfl
  unfold QL at k2;rw[hv,e1]at k2;unfold iQ QL;rw[hv,e1];have n5:(bif ltI q.2.Vector 18 then dD q.2.Vector 5 else false)=!(eqI q.2.Vector 5||geI q.2.Vector 18):=by
   rw[m6];cases h5:eqI q.2.Vector 5
   ·cases h6:geI q.2.Vector 18
    ·rw[aGV]at h6;rw[eD.2 h6];rfl
    ·rw[KY]at h6;rw[nV.2 h6];rfl
   ·cases ltI q.2.Vector 18<;>rfl
  have te: ∀b:Bool,(bif r.tr then !b else false)=(r.tr&&!b):=fun b=>by cases r.tr<;>rfl
  simp only[aB,aI,aA,KW,rM,KV,rL,KU,KT,gV,AO,a1,a2,k1,g1,hn,n5,jY,eS,eV,aR,hv,te,aD,bO,wz,bL,cQ,aZ,cS,Bool.and_true,true_and,forall_const,q_1,q_2,false_implies,and_true,implies_true];refine⟨fun z=>?_,fun z=>⟨fun y=>?_,fun y=>?_⟩⟩
  ·rw[yL z];rw[Bool.false_or,Bool.and_false];rfl
  ·have z:=EU z;have w:=k2 (by rw[y,z];rfl)
   refine⟨w.1,?_⟩;rw[y,z];exact Prod.ext w.2 rfl
  ·rw[y];rfl
 ·have e1:vL q=q.1:=by unfold vL;rw[hv];rfl
  have hn:dD q.2.Vector 0=false:=by rw[m6,hv];rfl
  unfold QL at k2;rw[hv,e1]at k2;unfold iQ QL;rw[hv,e1];have te: ∀b:Bool,(bif r.tr then !b else false)=(r.tr&&!b):=fun b=>by cases r.tr<;>rfl
  simp only[aB,aI,aA,KW,rM,KV,rL,KU,KT,gV,AO,a1,a2,hn,jY,eS,eV,aR,hv,te,aD,bO,wz,bL,cQ,aZ,cS,Bool.and_true,true_and,forall_const,q_1,q_2,false_implies,and_true,implies_true];refine⟨fun y=>?_,fun y=>?_⟩
  ·have w:=k2 (by rw[y];rfl)
   refine⟨w.1,?_⟩;rw[y];exact Prod.ext w.2 rfl
  ·rw[y];rfl
end Go.Proofs.YtdipcnijfkdnfaaGreatWhole

namespace Go.Proofs.YtdipcnijfkdnfaaGreatWhole
open Go Go.Zq
set_option maxHeartbeats 4000000
set_option maxRecDepth 100000
theorem a9W{r:RM}{zs:List Int}{l:List aE}(s h:Bool)(m:Sm r zs l):bC6 (bP r zs l s h)=true∧bC5 (bP r zs l s h)=((iL r zs l s h&&!s)&&!h):=by
 refine aK (t:=a2A (bP r zs l s h)) (P:=fun q=>q=((iL r zs l s h&&!s)&&!h)) ?_
 obtain⟨a1,a2⟩:=QH s h m;unfold a2A;simp only[aB,aA,a1,a2,lT,lB,Bool.and_true,true_and];cases iL r zs l s h<;>cases s<;>cases h<;>rfl
noncomputable def swO(r:RM)(zs:List Int)(l:List aE)(s h:Bool):aG×Int×Bool:=bif (iL r zs l s h&&!s)&&!h then((iQ r.tr (vS r zs l s)).1,(iQ r.tr (vS r zs l s)).2,true)else(zC,0,false)
theorem LT{a s h:Bool}(g:((a&&!s)&&!h)=true):a=true∧s=false∧h=false:=by
 cases a<;>cases s<;>cases h<;>simp_all
theorem aUZ{r:RM}{zs:List Int}{l:List aE}(s h:Bool)(m:Sm r zs l):k41 (bP r zs l s h)=true∧g41 (bP r zs l s h)=swO r zs l s h:=by
 refine aK (t:=T41 (bP r zs l s h)) (P:=fun q=>q=swO r zs l s h) ?_
 obtain⟨a1,a2⟩:=a9W s h m;obtain⟨c1,c2⟩:=aES (m.len s h);unfold T41 swO;cases hg:(iL r zs l s h&&!s)&&!h
 ·simp only[aB,aI,aA,aR0,a1,a2,hg,Bool.not_false,Bool.and_true,true_and,forall_const,Bool.true_eq_false,false_implies,and_true];rfl
 ·obtain⟨g1,rfl,rfl⟩:=LT hg;obtain⟨o1,o2⟩:=GA g1;obtain⟨w1,w2⟩:=a9T (s:=false) o1 o2;simp only[aB,aI,aA,aR0,a1,a2,hg,c1,c2,w1,w2,Bool.not_true,aD,bO,wz,Bool.and_true,true_and,forall_const,Bool.false_eq_true,false_implies];rfl
theorem aU0{r:RM}{zs:List Int}{l:List aE}(s h:Bool)(m:Sm r zs l):k42 (bP r zs l s h)=true∧g42 (bP r zs l s h)=swO r zs l s h:=by
 refine aK (t:=T42 (bP r zs l s h)) (P:=fun q=>q=swO r zs l s h) ?_
 obtain⟨a1,a2⟩:=aUP s h m;unfold T42 swO;have te:(bif bif !(iL r zs l s h)then true else s then true else h)=!((iL r zs l s h&&!s)&&!h):=by
  cases iL r zs l s h<;>cases s<;>cases h<;>rfl
 cases hg:(iL r zs l s h&&!s)&&!h
 ·rw[hg]at te;simp only[aB,aI,aA,a1,a2,lT,lB,te,Bool.not_false,Bool.and_true,true_and,forall_const,Bool.true_eq_false,false_implies,and_true];rfl
 ·rw[hg]at te;obtain⟨g1,rfl,rfl⟩:=LT hg;obtain⟨o1,o2⟩:=GA g1;obtain⟨w1,w2⟩:=bQM (s:=false) o1 o2;simp only[aB,aI,aA,a1,a2,lT,lB,te,w1,w2,Bool.not_true,aD,bO,wz,Bool.and_true,true_and,forall_const,Bool.false_eq_true,false_implies];rfl
noncomputable def scO(r:RM)(zs:List Int)(l:List aE)(s h:Bool):aG×aL×Bool:=bif (iL r zs l s h&&!s)&&!h then((vS r zs l s).1,(vS r zs l s).2,true)else(zC,f0,false)
theorem bHM{r:RM}{zs:List Int}{l:List aE}(s h:Bool)(m:Sm r zs l):k43 (bP r zs l s h)=true∧g43 (bP r zs l s h)=scO r zs l s h:=by
 refine aK (t:=T43 (bP r zs l s h)) (P:=fun q=>q=scO r zs l s h) ?_
 obtain⟨a1,a2⟩:=a9W s h m;obtain⟨c1,c2⟩:=aES (m.len s h);unfold T43 scO;cases hg:(iL r zs l s h&&!s)&&!h
 ·simp only[aB,aI,aA,aTQ,a7R,a1,a2,hg,jY,mG,lT,lB,Bool.not_false,aD,bO,wz,bL,cQ,aZ,cS,Bool.and_true,true_and,forall_const,Bool.true_eq_false,false_implies,and_true];rfl
 ·obtain⟨g1,rfl,rfl⟩:=LT hg;obtain⟨o1,o2⟩:=GA g1;obtain⟨w1,w2⟩:=bIY (s:=false) o1 o2;simp only[aB,aI,aA,aTQ,a7R,a1,a2,hg,c1,c2,w1,w2,jY,mG,lT,lB,Bool.not_true,aD,bO,wz,bL,cQ,aZ,cS,Bool.and_true,true_and,forall_const,Bool.false_eq_true,false_implies];rfl
noncomputable def wh(c:aG):aG×Int:=PY c
noncomputable def xL:Nat→aG→List Int→aG×List Int
 |0,c,L=>(c,L)
 |n+1,c,L=>bif !c.Stop&&!c.Halt then xL n (wh c).1 (L++[(wh c).2])else(c,L)
theorem a9X{c:aG}(h:CGd c)(e:(!c.Stop&&!c.Halt)=true):a42 c=true∧CGd (wh c).1∧aD5 c=true∧EK c=wh c:=by
 obtain⟨r,zs,l,s,hh,rfl,hr,hb,-⟩:=h;rw[Bool.and_eq_true]at e;have es:s=false:=yL e.1;have eh:hh=false:=yL e.2;subst es eh;obtain⟨a1,a2⟩:=a9T (s:=false) hr hb;obtain⟨b1,b2⟩:=a9V (s:=false) hr hb;have e2:wh (bP r zs l false false)=iQ r.tr (vS r zs l false):=a2;refine⟨a1,?_,b1,b2.trans e2.symm⟩;rw[e2];exact aHI (WN hr hb)
theorem ZC{n:Nat}{c:aG}{L:List Int}(e:(!c.Stop&&!c.Halt)=false):xL n c L=(c,L):=by
 cases n
 ·rfl
 ·show(bif !c.Stop&&!c.Halt then _ else(c,L))=(c,L)
  rw[e];rfl
theorem aU1: ∀(n:Nat){c:aG}{L:List Int},CGd c→CGd (xL n c L).1∧(xL n c L).2.length≤L.length+n
 |0,c,L,h=>⟨h,Nat.le_refl _⟩
 |n+1,c,L,h=>by
  unfold xL;cases e:!c.Stop&&!c.Halt
  ·exact⟨h,by show L.length≤_;omega⟩
  ·obtain⟨-,g,-⟩:=a9X h e;obtain⟨a,b⟩:=aU1 n (L:=L++[(wh c).2]) g;refine⟨a,?_⟩;rw[List.length_append]at b;show(xL n (wh c).1 (L++[(wh c).2])).2.length≤_
   have:[(wh c).2].length=1:=rfl;omega
end Go.Proofs.YtdipcnijfkdnfaaGreatWhole

namespace Go.Proofs.YtdipcnijfkdnfaaGreatWhole
open Bool renaming and_true → qt
open Go Go.Zq
set_option maxHeartbeats 4000000
set_option maxRecDepth 100000
def CE(c:aG):Prop:= ∃r zs l s h,c=bP r zs l s h∧Sz r zs l
theorem CE.self{c:aG}(h:CE c):k11 c c=true∧g11 c c=true:=by
 obtain⟨r,zs,l,s,h,rfl,z⟩:=h;obtain⟨a,b⟩:=bGV r r zs zs l l s h s h z;rw[aX4]at b;exact⟨a,b⟩
theorem zC_ce:CE zC:=⟨⟨[],[],0,0,0,0,false,false⟩,[],[],false,false,rfl,by decide,by decide,by decide,by decide⟩
theorem aHJ{r:RM}{zs:List Int}{l:List aE}{s h:Bool}(hr:r.Ok 65535)(hb:BusOk zs l)(hs:(!(s&&h))=true):iL r zs l s h=true:=by
 have h1:=hr.d4;have h2:=hr.a4;have h3:=hb.hz;have h4:=hb.hl;have e1:eqI (r.d.length:Int) 4=true:=by simp;omega
 have e2:eqI (r.a.length:Int) 4=true:=by simp;omega
 have e3:eqI (zs.length:Int) 512=true:=by simp;omega
 have e4:leI (l.length:Int) 400=true:=by simp;omega
 have hm:=hr.mw;rw[show(65535:Int)-65528=7 from rfl]at hm
 unfold iL LM PJ;rw[e1,e2,e3,e4,hr.dw,hr.aw,hr.ow,hr.pw,hr.fw,hm,hb.hb,hb.ha,hs];rfl
theorem a9Y{r:RM}{zs:List Int}{l:List aE}{s h:Bool}(g:iL r zs l s h=true):(!(s&&h))=true:=by
 unfold iL at g;simp only[Bool.and_eq_true]at g;exact g.2.2
theorem cH1{n:Nat}{c:aG}(hn:n≤60)(h:CGd c):a7Z (V45_0.mk zC c (n:Int) [])=true∧((aTT (V45_0.mk zC c (n:Int) [])).b1=(xL n c []).1∧(aTT (V45_0.mk zC c (n:Int) [])).s8=ri (xL n c []).2):=by
 unfold a7Z aTT;refine jA (Post:=fun w:V45_0=>w.b1=(xL n c []).1∧w.s8=ri (xL n c []).2) (eY (fun(m:Nat) (w:V45_0)=>w.s1=(n:Int)∧ ∃L:List Int,w.s8=ri L∧L.length+m=n∧CGd w.b1∧xL m w.b1 L=xL n c []) _ ?_ 2097152 n _ ⟨rfl,[],rfl,by simp,h,rfl⟩ (by omega))
 rintro m w ⟨e1,L,e2,e3,e4,e5⟩
 have l1:nX (qY (L.length+1) 8) 140737488355328=true:=tG.2 (by unfold qY;omega)
 have l2:nX (L.length+1) 140737488355328=true:=tG.2 (by omega)
 have l0:nX L.length L.length=true:=tG.2 (Nat.le_refl _);unfold YU;cases hc:!w.b1.Stop&&!w.b1.Halt
 ·have te:(bif bif ltI (L.length:Int) (n:Int)then !w.b1.Stop else false then !w.b1.Halt else false)=false:=by
   cases ltI (L.length:Int) (n:Int)
   ·rfl
   ·cases hs:w.b1.Stop<;>cases hh:w.b1.Halt<;>rw[hs,hh]at hc<;>first|rfl|cases hc
  rw[ZC hc]at e5;simp only[aB,aI,aA,AJ,e1,e2,aT,bB,Nat.zero_add,l0,te,Bool.true_and,qt,Bool.false_eq_true,false_implies,true_and,forall_const];rw[←e5];exact⟨rfl,rfl⟩
 ·obtain⟨k1,g1,-⟩:=a9X e4 hc;have k1':=k1;by_cases hm:m=0
  ·subst hm;have te:(bif bif ltI (L.length:Int) (n:Int)then !w.b1.Stop else false then !w.b1.Halt else false)=false:=by
    rw[show ltI (L.length:Int) (n:Int)=false from nV.2 (by omega)];rfl
   simp only[aB,aI,aA,AJ,e1,e2,aT,bB,Nat.zero_add,l0,te,Bool.true_and,qt,Bool.false_eq_true,false_implies,true_and,forall_const];rw[←e5];exact⟨rfl,rfl⟩
  ·obtain⟨p,rfl⟩: ∃p,m=p+1:=⟨m-1,by omega⟩
   have te:(bif bif ltI (L.length:Int) (n:Int)then !w.b1.Stop else false then !w.b1.Halt else false)=true:=by
    rw[show ltI (L.length:Int) (n:Int)=true from eD.2 (by omega)]
    rw[Bool.and_eq_true]at hc;rw[cond_true,hc.1,hc.2];rfl
   simp only[aB,aI,aA,AJ,e1,e2,aT,bB,Nat.zero_add,l0,te,k1,l1,l2,Bool.true_and,aD,bO,wz,qt,true_and,forall_const,Bool.true_eq_false,false_implies,and_true];refine⟨p,by omega,L++[(wh w.b1).2],?_,?_,g1,?_⟩
   ·exact(ML (xs:=L) (ys:=[(wh w.b1).2])).symm
   ·rw[List.length_append];show L.length+1+p=n;omega
   ·rw[←e5];show _=bif !w.b1.Stop&&!w.b1.Halt then xL p (wh w.b1).1 (L++[(wh w.b1).2])else(w.b1,L)
    rw[hc];rfl
theorem cH2{n:Nat}{c:aG}(hn:n≤60)(h:CGd c):a73 (V46_0.mk zC c (n:Int) [])=true∧((aTV (V46_0.mk zC c (n:Int) [])).b1=(xL n c []).1∧(aTV (V46_0.mk zC c (n:Int) [])).s8=ri (xL n c []).2):=by
 unfold a73 aTV;refine jA (Post:=fun w:V46_0=>w.b1=(xL n c []).1∧w.s8=ri (xL n c []).2) (eY (fun(m:Nat) (w:V46_0)=>w.s1=(m:Int)∧ ∃L:List Int,w.s8=ri L∧L.length+m=n∧CGd w.b1∧xL m w.b1 L=xL n c []) _ ?_ 2097152 n _ ⟨rfl,[],rfl,by simp,h,rfl⟩ (by omega))
 rintro m w ⟨e1,L,e2,e3,e4,e5⟩
 have l1:nX (qY (L.length+1) 8) 140737488355328=true:=tG.2 (by unfold qY;omega)
 have l2:nX (L.length+1) 140737488355328=true:=tG.2 (by omega)
 have l0:nX L.length L.length=true:=tG.2 (Nat.le_refl _);unfold YV;cases hc:!w.b1.Stop&&!w.b1.Halt
 ·have te:(bif bif pG (m:Int) 0 then !w.b1.Stop else false then !w.b1.Halt else false)=false:=by
   cases pG (m:Int) 0
   ·rfl
   ·cases hs:w.b1.Stop<;>cases hh:w.b1.Halt<;>rw[hs,hh]at hc<;>first|rfl|cases hc
  rw[ZC hc]at e5;simp only[aB,aI,aA,AP,e1,e2,aT,bB,Nat.zero_add,l0,te,Bool.true_and,qt,Bool.false_eq_true,false_implies,true_and,forall_const];rw[←e5];exact⟨rfl,rfl⟩
 ·obtain⟨-,g1,k1,k2⟩:=a9X e4 hc;by_cases hm:m=0
  ·subst hm;have te:(bif bif pG ((0:Nat):Int) 0 then !w.b1.Stop else false then !w.b1.Halt else false)=false:=rfl
   simp only[aB,aI,aA,AP,e1,e2,aT,bB,Nat.zero_add,l0,te,Bool.true_and,qt,Bool.false_eq_true,false_implies,true_and,forall_const];rw[←e5];exact⟨rfl,rfl⟩
  ·obtain⟨p,rfl⟩: ∃p,m=p+1:=⟨m-1,by omega⟩
   have te:(bif bif pG ((p+1:Nat):Int) 0 then !w.b1.Stop else false then !w.b1.Halt else false)=true:=by
    rw[show pG ((p+1:Nat):Int) 0=true from tH.2 (by omega)]
    rw[Bool.and_eq_true]at hc;rw[cond_true,hc.1,hc.2];rfl
   simp only[aB,aI,aA,AP,e1,e2,aT,bB,Nat.zero_add,l0,te,k1,k2,l1,l2,Bool.true_and,aD,bO,wz,qt,true_and,forall_const,Bool.true_eq_false,false_implies,and_true];refine⟨p,by omega,?_,L++[(wh w.b1).2],?_,?_,g1,?_⟩
   ·rw[eX (by omega)];omega
   ·exact(ML (xs:=L) (ys:=[(wh w.b1).2])).symm
   ·rw[List.length_append];show L.length+1+p=n;omega
   ·rw[←e5];show _=bif !w.b1.Stop&&!w.b1.Halt then xL p (wh w.b1).1 (L++[(wh w.b1).2])else(w.b1,L)
    rw[hc];rfl
noncomputable def rwO(r:RM)(zs:List Int)(l:List aE)(s h:Bool)(n:Int):aG×List Row×Bool:=bif iL r zs l s h&&cJ n 0 60 then((xL n.toNat (bP r zs l s h) []).1,ri (xL n.toNat (bP r zs l s h) []).2,true)else(zC,[],false)
theorem aE1{r:RM}{zs:List Int}{l:List aE}{s h:Bool}(g:iL r zs l s h=true):CGd (bP r zs l s h):=by
 obtain⟨a,b⟩:=GA g;exact⟨r,zs,l,s,h,rfl,a,b,a9Y g⟩
theorem bQN{r:RM}{zs:List Int}{l:List aE}(s h:Bool)(n:Int)(m:Sm r zs l):k45 (bP r zs l s h) n=true∧g45 (bP r zs l s h) n=rwO r zs l s h n:=by
 refine aK (t:=T45 (bP r zs l s h) n) (P:=fun q=>q=rwO r zs l s h n) ?_
 obtain⟨a1,a2⟩:=QH s h m;obtain⟨c1,c2⟩:=aES (m.len s h);unfold T45 rwO;cases hg:iL r zs l s h
 ·simp only[aB,aI,aA,aGP,aGO,PB,a1,a2,kJ,kK,hg,Bool.not_false,Bool.false_and,cond_true,cond_false,Bool.or_true,Bool.true_or,aD,bO,wz,qt,true_and,forall_const,Bool.true_eq_false,false_implies,and_true];rfl
 ·cases hn:cJ n 0 60
  ·simp only[aB,aI,aA,aGP,aGO,PB,a1,a2,kJ,kK,hg,hn,Bool.not_false,Bool.not_true,Bool.and_false,cond_true,cond_false,Bool.or_true,Bool.true_or,aD,bO,wz,qt,true_and,forall_const,Bool.true_eq_false,false_implies,and_true];rfl
  ·have hn':=aU.1 hn;obtain⟨k,rfl⟩:=Int.eq_ofNat_of_zero_le hn'.1;obtain⟨l1,l2,l3⟩:=cH1 (n:=k) (by omega) (aE1 hg)
   have ez:aG.mk (aJ.mk [] [] 0 0 0 0 false false) (bM.mk [] []) false false=zC:=rfl;simp only[aB,aI,aA,aGP,aGO,PB,a1,a2,kJ,kK,hg,hn,c1,c2,ez,l1,l2,l3,Bool.not_true,qt,Bool.or_true,Bool.true_or,cond_true,cond_false,aD,bO,wz,true_and,forall_const,Bool.false_eq_true,false_implies];rfl
theorem bQO{r:RM}{zs:List Int}{l:List aE}(s h:Bool)(n:Int)(m:Sm r zs l):k46 (bP r zs l s h) n=true∧g46 (bP r zs l s h) n=rwO r zs l s h n:=by
 refine aK (t:=T46 (bP r zs l s h) n) (P:=fun q=>q=rwO r zs l s h n) ?_
 obtain⟨a1,a2⟩:=aUP s h m;obtain⟨c1,c2⟩:=aN6 (m.len s h);unfold T46 rwO;cases hg:iL r zs l s h
 ·simp only[aB,aI,aA,aGU,aGT,PD,a1,a2,sS,sT,hg,Bool.not_false,Bool.false_and,cond_true,cond_false,Bool.or_true,Bool.true_or,aD,bO,wz,qt,true_and,forall_const,Bool.true_eq_false,false_implies,and_true];rfl
 ·cases hn:cJ n 0 60
  ·simp only[aB,aI,aA,aGU,aGT,PD,a1,a2,sS,sT,hg,hn,Bool.not_false,Bool.not_true,Bool.and_false,cond_true,cond_false,Bool.or_true,Bool.true_or,aD,bO,wz,qt,true_and,forall_const,Bool.true_eq_false,false_implies,and_true];rfl
  ·have hn':=aU.1 hn;obtain⟨k,rfl⟩:=Int.eq_ofNat_of_zero_le hn'.1;obtain⟨l1,l2,l3⟩:=cH2 (n:=k) (by omega) (aE1 hg)
   have ez:aG.mk (aJ.mk [] [] 0 0 0 0 false false) (bM.mk [] []) false false=zC:=rfl;simp only[aB,aI,aA,aGU,aGT,PD,a1,a2,sS,sT,hg,hn,c1,c2,ez,l1,l2,l3,Bool.not_true,qt,Bool.or_true,Bool.true_or,cond_true,cond_false,aD,bO,wz,true_and,forall_const,Bool.false_eq_true,false_implies];rfl
theorem a9Z{x:List Row}(h:bytesOk x=true):k40 x=true∧CG 65536 (CN x):=by
 refine aK (t:=T40 x) (P:=fun q=>CG 65536 q) ?_
 obtain⟨a1,a2,a3⟩:=bIS (b4P h) (by decide)
 unfold T40;simp only[aB,aA,a1,aD,bO,wz,bL,cQ,aZ,cS,qt,true_and];exact a3
theorem b5I{x:List Row}(h:bytesOk x=true):bO0 x=true∧CG 65536 (aNV x).1:=by
 refine aK (t:=a7X x) (P:=fun q=>CG 65536 q.1) ?_
 obtain⟨a1,a2,a3⟩:=bIS (b4P h) (by decide)
 obtain⟨b1,-⟩:=aD7 (r:=[(aY (-1)),(aY 0),(aY 1),(aY 3),(aY 8),(aY 20),(aY 60),(aY 61)]) ⟨[-1,0,1,3,8,20,60,61],rfl⟩ (by decide) a2 (by decide)
 unfold a7X;simp only[aB,aA,a1,b1,aD,bO,wz,bL,cQ,aZ,cS,qt,true_and];exact a3
theorem b5J{x:List Row}(h:bytesOk x=true):k44 x=true∧CG 65536 (EJ x).1:=by
 refine aK (t:=T44 x) (P:=fun q=>CG 65536 q.1) ?_
 obtain⟨a1,a2⟩:=b5I h;unfold T44;simp only[aB,aA,a1,aD,bO,wz,bL,cQ,aZ,cS,qt,true_and];exact a2
end Go.Proofs.YtdipcnijfkdnfaaGreatWhole

namespace Go.Proofs.YtdipcnijfkdnfaaGreatWhole
open Bool renaming true_eq_false → q_1
open Bool renaming false_eq_true → q_2
open Go Go.Zq
set_option maxHeartbeats 4000000
set_option maxRecDepth 100000
theorem vU{l:List Int}(h:l.length≤1000):k14 (ri l) (ri l)=true∧g14 (ri l) (ri l)=true:=by
 obtain⟨a,b⟩:=CB l l (by omega)
 rw[decide_eq_true rfl]at b;exact⟨a,b⟩
theorem aU2{c:aG}(h:CGd c):CE c∧k30 c=true∧g30 c=true:=by
 obtain⟨r,zs,l,s,hh,rfl,hr,hb,e⟩:=h;have m:=Sm.of hr hb;obtain⟨a,b⟩:=QH s hh m;exact⟨⟨_,_,_,_,_,rfl,m.sz⟩,a,b.trans (aHJ hr hb e)⟩
structure TailW(x:List Row)(o:aG)(L:List Int)(u:Bool):Prop where
 a:k44 x=true
 b:k45 (EJ x).1 (EJ x).2=true
 c:k46 (EJ x).1 (EJ x).2=true
 d:g45 (EJ x).1 (EJ x).2=(o,ri L,u)
 e:g46 (EJ x).1 (EJ x).2=(o,ri L,u)
 f:k11 o o=true∧g11 o o=true
 l:k14 (ri L) (ri L)=true∧g14 (ri L) (ri L)=true
 h:u=true→leI (L.length:Int) (EJ x).2=true∧k30 o=true∧g30 o=true
theorem bI0{x:List Row}(hx:bytesOk x=true): ∃c L b,TailW x c L b:=by
 obtain⟨a1,a2⟩:=b5J hx;obtain⟨r,zs,l,s,t,e,hr,hb⟩:=a2;have i1:=bQN s t (EJ x).2 (Sm.of hr hb);have i2:=bQO s t (EJ x).2 (Sm.of hr hb);rw[←e]at i1 i2;have hO: ∃c L b,rwO r zs l s t (EJ x).2=(c,ri L,b)∧CE c∧L.length≤1000∧(b=true→leI (L.length:Int) (EJ x).2=true∧k30 c=true∧g30 c=true):=by
  unfold rwO;cases hg:iL r zs l s t&&cJ (EJ x).2 0 60
  ·exact⟨zC,[],false,rfl,zC_ce,by decide,fun z=>by cases z⟩
  ·rw[Bool.and_eq_true]at hg;have hn:=aU.1 hg.2;obtain⟨k,hk⟩:=Int.eq_ofNat_of_zero_le hn.1;have hk':(EJ x).2.toNat=k:=by rw[hk];rfl
   obtain⟨g1,g2⟩:=aU1 k (L:=[]) (aE1 hg.1);obtain⟨p1,p2,p3⟩:=aU2 g1;have g3:(xL k (bP r zs l s t) []).2.length≤k:=by simpa using g2
   rw[hk'];refine⟨_,_,true,rfl,p1,by omega,fun _=>⟨lS.2 (by omega),p2,p3⟩⟩
 obtain⟨c,L,b,q1,q2,q3,q4⟩:=hO;rw[q1]at i1 i2;exact⟨c,L,b,a1,i1.1,i2.1,i1.2,i2.2,q2.self,vU q3,q4⟩
theorem okF(x0 x1:List Row)(h0:bytesOk x0=true)(h1:bytesOk x1=true)(r:RM)(zs:List Int)(l:List aE)(s h:Bool)(ev:CN x0=bP r zs l s h)(sm:Sm r zs l)(hok:((iL r zs l s h&&!s)&&!h)=false):(T5 x0 x1).Sat (fun q=>q=true):=by
 obtain⟨c,L,b,t⟩:=bI0 h1;obtain⟨d1,-⟩:=a9Z h0;obtain⟨e1,e2⟩:=aUZ s h sm;obtain⟨e3,e4⟩:=aU0 s h sm;have hE:swO r zs l s h=(zC,0,false):=by unfold swO;rw[hok];rfl
 obtain⟨z1,z2⟩:=zC_ce.self;obtain⟨f1,f2⟩:=t.f;obtain⟨l1,l2⟩:=t.l;rw[hE]at e2 e4;have eI: ∀x,eqI x x=true:=fun x=>by simp
 have nI: ∀x,dD x x=false:=fun x=>by simp
 have eB: ∀x,AX x x=true:=fun x=>by simp
 unfold T5;cases b with
 |false=>simp only[aB,aI,aA,AQ,OB,OA,N9,P7,GD,xU,KX,P6,P5,P4,ev,d1,e1,e2,e3,e4,z1,z2,t.a,t.b,t.c,t.d,t.e,f1,f2,l1,l2,eI,nI,eB,aT,bB,cond_true,cond_false,Bool.not_true,Bool.not_false,Bool.and_true,Bool.true_and,Bool.true_or,Bool.or_true,Bool.or_false,true_and,and_true,implies_true,q_2,q_1,false_implies,forall_const]
 |true=>
  obtain⟨p1,p2,p3⟩:=t.h rfl;simp only[aB,aI,aA,AQ,OB,OA,N9,P7,GD,xU,KX,P6,P5,P4,ev,d1,e1,e2,e3,e4,z1,z2,t.a,t.b,t.c,t.d,t.e,f1,f2,l1,l2,p1,p2,p3,eI,nI,eB,aT,bB,cond_true,cond_false,Bool.not_true,Bool.not_false,Bool.and_true,Bool.true_and,Bool.true_or,Bool.or_true,Bool.or_false,true_and,and_true,implies_true,q_2,q_1,false_implies,forall_const]
theorem okT(x0 x1:List Row)(h0:bytesOk x0=true)(h1:bytesOk x1=true)(r:RM)(zs:List Int)(l:List aE)(ev:CN x0=bP r zs l false false)(hr:r.Ok 65535)(hb:BusOk zs l)(hg:iL r zs l false false=true):(T5 x0 x1).Sat (fun q=>q=true):=by
 obtain⟨c,L,b,t⟩:=bI0 h1;have sm:=Sm.of hr hb;obtain⟨d1,-⟩:=a9Z h0;obtain⟨e1,e2⟩:=aUZ false false sm;obtain⟨e3,e4⟩:=aU0 false false sm;obtain⟨e5,e6⟩:=bHM false false sm;have sp:=WN (s:=false) hr hb;have wg:=aHI (tr:=r.tr) sp;have hE:swO r zs l false false=((iQ r.tr (vS r zs l false)).1,(iQ r.tr (vS r zs l false)).2,true):=by unfold swO;rw[hg];rfl
 have hC:scO r zs l false false=((vS r zs l false).1,(vS r zs l false).2,true):=by unfold scO;rw[hg];rfl
 rw[hE]at e2 e4;rw[hC]at e6;obtain⟨f1,f2⟩:=t.f;obtain⟨l1,l2⟩:=t.l;obtain⟨w1,w2,w3⟩:=aU2 wg;obtain⟨z1,z2⟩:=w1.self;have eI: ∀x,eqI x x=true:=fun x=>by simp
 have nI: ∀x,dD x x=false:=fun x=>by simp
 have eB: ∀x,AX x x=true:=fun x=>by simp
 have eN: ∀x,dD x 0=!eqI x 0:=fun x=>rfl
 generalize vS r zs l false=q at sp wg e2 e4 e6 w2 w3 z1 z2;obtain⟨qc,qf⟩:=q;have key: ∀x v,iQ r.tr (qc,qf)=(x,v)→(T5 x0 x1).Sat (fun q=>q=true):=by
  intro x v hW;rw[hW]at e2 e4 w2 w3 z1 z2;dsimp only at e2 e4 e6 w2 w3 z1 z2;cases ht:r.tr
  ·rw[ht]at hW;cases hv:eqI qf.Vector 0
   ·have hx:(x,v)=(LR qc qf,qf.Vector):=by
     rw[←hW];unfold iQ vL QL;dsimp only;rw[hv];rfl
    injection hx with hx1 hx2
    subst hx1 hx2;obtain⟨r',zs',l',s',rfl,hr',hb'⟩:=sp.c;have gf:=sp.g hv;obtain⟨y1,y2⟩:=bP8 s' false qf (Sm.of hr' hb');have hO:a9F r' zs' l' s' false qf=(LR (bP r' zs' l' s' false) qf,true):=by
     unfold a9F LR;rw[aHJ hr' hb' (by cases s'<;>rfl),gf,(aEX (s:=s') hr' hb' gf).2];rfl
    rw[hO]at y2;unfold T5;cases b with
    |false=>simp only[aB,aI,aA,AQ,OB,OA,N9,P7,GD,xU,KX,P6,P5,P4,ev,d1,e1,e2,e3,e4,e5,e6,w2,w3,z1,z2,y1,y2,ht,hv,jY,aR,eN,t.a,t.b,t.c,t.d,t.e,f1,f2,l1,l2,eI,nI,eB,aT,bB,cond_true,cond_false,Bool.not_true,Bool.not_false,Bool.and_true,Bool.true_and,Bool.true_or,Bool.or_true,Bool.or_false,true_and,and_true,implies_true,q_2,q_1,false_implies,forall_const]
    |true=>
     obtain⟨p1,p2,p3⟩:=t.h rfl;simp only[aB,aI,aA,AQ,OB,OA,N9,P7,GD,xU,KX,P6,P5,P4,ev,d1,e1,e2,e3,e4,e5,e6,w2,w3,z1,z2,y1,y2,ht,hv,jY,aR,eN,t.a,t.b,t.c,t.d,t.e,f1,f2,l1,l2,p1,p2,p3,eI,nI,eB,aT,bB,cond_true,cond_false,Bool.not_true,Bool.not_false,Bool.and_true,Bool.true_and,Bool.true_or,Bool.or_true,Bool.or_false,true_and,and_true,implies_true,q_2,q_1,false_implies,forall_const]
   ·have hx:(x,v)=(qc,qf.Vector):=by
     rw[←hW];unfold iQ vL QL;dsimp only;rw[hv];rfl
    injection hx with hx1 hx2
    subst hx1 hx2;unfold T5;cases b with
    |false=>simp only[aB,aI,aA,AQ,OB,OA,N9,P7,GD,xU,KX,P6,P5,P4,ev,d1,e1,e2,e3,e4,e5,e6,w2,w3,z1,z2,ht,hv,jY,aR,eN,t.a,t.b,t.c,t.d,t.e,f1,f2,l1,l2,eI,nI,eB,aT,bB,cond_true,cond_false,Bool.not_true,Bool.not_false,Bool.and_true,Bool.true_and,Bool.true_or,Bool.or_true,Bool.or_false,true_and,and_true,implies_true,q_2,q_1,false_implies,forall_const]
    |true=>
     obtain⟨p1,p2,p3⟩:=t.h rfl;simp only[aB,aI,aA,AQ,OB,OA,N9,P7,GD,xU,KX,P6,P5,P4,ev,d1,e1,e2,e3,e4,e5,e6,w2,w3,z1,z2,ht,hv,jY,aR,eN,t.a,t.b,t.c,t.d,t.e,f1,f2,l1,l2,p1,p2,p3,eI,nI,eB,aT,bB,cond_true,cond_false,Bool.not_true,Bool.not_false,Bool.and_true,Bool.true_and,Bool.true_or,Bool.or_true,Bool.or_false,true_and,and_true,implies_true,q_2,q_1,false_implies,forall_const]
  ·have hv2:eqI qf.Vector 0=false→v=qf.Vector:=by
    intro hv;have:v=(iQ r.tr (qc,qf)).2:=by rw[hW]
    rw[this];unfold iQ;dsimp only;rw[hv];cases QL r.tr (vL (qc,qf)) qf.Vector<;>rfl
   unfold T5;cases hv:eqI qf.Vector 0
   ·have hv3:=hv2 hv;subst hv3;cases b with
    |false=>simp only[aB,aI,aA,AQ,OB,OA,N9,P7,GD,xU,KX,P6,P5,P4,ev,d1,e1,e2,e3,e4,e5,e6,w2,w3,z1,z2,ht,hv,jY,aR,eN,t.a,t.b,t.c,t.d,t.e,f1,f2,l1,l2,eI,nI,eB,aT,bB,cond_true,cond_false,Bool.not_true,Bool.not_false,Bool.and_true,Bool.true_and,Bool.true_or,Bool.or_true,Bool.or_false,true_and,and_true,implies_true,q_2,q_1,false_implies,forall_const]
    |true=>
     obtain⟨p1,p2,p3⟩:=t.h rfl;simp only[aB,aI,aA,AQ,OB,OA,N9,P7,GD,xU,KX,P6,P5,P4,ev,d1,e1,e2,e3,e4,e5,e6,w2,w3,z1,z2,ht,hv,jY,aR,eN,t.a,t.b,t.c,t.d,t.e,f1,f2,l1,l2,p1,p2,p3,eI,nI,eB,aT,bB,cond_true,cond_false,Bool.not_true,Bool.not_false,Bool.and_true,Bool.true_and,Bool.true_or,Bool.or_true,Bool.or_false,true_and,and_true,implies_true,q_2,q_1,false_implies,forall_const]
   ·cases b with
    |false=>simp only[aB,aI,aA,AQ,OB,OA,N9,P7,GD,xU,KX,P6,P5,P4,ev,d1,e1,e2,e3,e4,e5,e6,w2,w3,z1,z2,ht,hv,jY,aR,eN,t.a,t.b,t.c,t.d,t.e,f1,f2,l1,l2,eI,nI,eB,aT,bB,cond_true,cond_false,Bool.not_true,Bool.not_false,Bool.and_true,Bool.true_and,Bool.true_or,Bool.or_true,Bool.or_false,true_and,and_true,implies_true,q_2,q_1,false_implies,forall_const]
    |true=>
     obtain⟨p1,p2,p3⟩:=t.h rfl;simp only[aB,aI,aA,AQ,OB,OA,N9,P7,GD,xU,KX,P6,P5,P4,ev,d1,e1,e2,e3,e4,e5,e6,w2,w3,z1,z2,ht,hv,jY,aR,eN,t.a,t.b,t.c,t.d,t.e,f1,f2,l1,l2,p1,p2,p3,eI,nI,eB,aT,bB,cond_true,cond_false,Bool.not_true,Bool.not_false,Bool.and_true,Bool.true_and,Bool.true_or,Bool.or_true,Bool.or_false,true_and,and_true,implies_true,q_2,q_1,false_implies,forall_const]
 exact key _ _ rfl
theorem okL(x0 x1:List Row)(h0:bytesOk x0=true)(h1:bytesOk x1=true):k5 x0 x1=true∧g5 x0 x1=true:=by
 refine aK (t:=T5 x0 x1) (P:=fun q=>q=true) ?_
 obtain⟨d1,r,zs,l,s,h,e,hr,hb⟩:=a9Z h0;have sm:=Sm.of hr hb;cases hok:(iL r zs l s h&&!s)&&!h
 ·exact okF x0 x1 h0 h1 r zs l s h e sm hok
 ·obtain⟨a,rfl,rfl⟩:=LT hok;obtain⟨r1,b1⟩:=GA a;exact okT x0 x1 h0 h1 r zs l e r1 b1 a
end Go.Proofs.YtdipcnijfkdnfaaGreatWhole
