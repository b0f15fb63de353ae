import Derived.Test.YtdipcnijfkdnfaaGreatZqIrqsQ
import Derived.Test.YtdipcnijfkdnfaaGreatZmc
import Derived.Test.YtdipcnijfkdnfaaGreatZme
set_option linter.unusedVariables false
set_option linter.unusedSimpArgs false
namespace Go.Proofs.YtdipcnijfkdnfaaGreatIrqs
open Go Go.Zq
set_option maxHeartbeats 4000000
set_option maxRecDepth 100000
structure FI(m:MM):Prop where
 p:cI m.f.PC 0 65535=true
 a:cI m.f.Addr 0 65535=true
 w:cI m.f.Word 0 65535=true
 z:eqI m.f.Vector 0=true→m.f.Addr=0∧m.f.Write=false
 g:eqI m.f.Vector 0=false→mZ m.f=true
theorem FI.of{m m':MM}(h:FI m)(e:m'.f=m.f):FI m':=by
 obtain⟨p,a,w,z,g⟩:=h;exact⟨by rw[e];exact p,by rw[e];exact a,by rw[e];exact w,by rw[e];exact z,by rw[e];exact g⟩
theorem D0{m:MM}{k s a v:Int}(h:FI m)(ha:cI a 0 65535=true):FI (cS m k s a v).1:=by
 cases hc:(dC (cY k s a) 0&&eqI m.f.Vector 0)
 ·refine h.of ?_;unfold cS;dsimp only;rw[hc];rfl
 ·have e:(cS m k s a v).1.f={m.f with Vector:=bif eqI (cY k s a) 2 then 3 else 2,Addr:=a,Write:=eqI k 2}:=by
   unfold cS;dsimp only;rw[hc];rfl
  have hv:eqI (bif eqI (cY k s a) 2 then(3:Int)else 2) 0=false:=by cases eqI (cY k s a) 2<;>rfl
  refine⟨by rw[e];exact h.p,by rw[e];exact ha,by rw[e];exact h.w,fun z=>?_,fun _=>?_⟩
  ·rw[e]at z;exact absurd (z.symm.trans hv) (by decide)
  ·rw[e];unfold mZ zZ;rw[show cI m.f.PC 0 65535=true from h.p,show cI m.f.Word 0 65535=true from h.w,show cI a 0 65535=true from ha]
   cases eqI (cY k s a) 2<;>rfl
theorem bHG{t:Int}{m:MM}{s:Int}{o:aG}(hm:m.Ok t)(ho:OpOk o)(h:FI m):FI (dT m s o).1:=by
 obtain⟨p3,p4⟩:=rE (s:=s) hm.r ho;unfold dT;refine cF (P:=fun z:MM×Int×Int=>FI z.1) (fun _=>h) fun _=>?_
 refine cF (P:=fun z:MM×Int×Int=>FI z.1) (fun _=>h) fun _=>?_
 refine cF (P:=fun z:MM×Int×Int=>FI z.1) (fun _=>h) fun _=>?_
 exact D0 (h.of rfl) p4
theorem bRB{m:MM}{s:Int}{o:aG}(h:FI m):FI (kI m s o).1:=by
 unfold kI;exact cF (P:=fun z:MM×Int=>FI z.1) (fun _=>h) (fun _=>h.of rfl)
theorem aGH{m:MM}{s a v:Int}{o:aG}(h:FI m)(ha:cI a 0 65535=true):FI (eL m s o a v):=by
 unfold eL;exact cF (P:=fun z:MM=>FI z) (fun _=>h.of rfl) (fun _=>D0 h ha)
theorem bHH{t:Int}{m:MM}{v:Int}(hm:m.Ok t)(h:FI m):FI (dZ m v):=by
 have ha:cI ((cX m.r.a 3-2)%65536) 0 65535=true:=by rw[aR];omega
 unfold dZ;exact cF (P:=fun z:MM=>FI z) (fun _=>(D0 (k:=2) (s:=2) (v:=v) h ha).of rfl) (fun _=>D0 h ha)
theorem aNT{t:Int}{m:MM}(hm:m.Ok t)(h:FI m):FI (dM m).1:=by
 have ha:cI (cX m.r.a 3) 0 65535=true:=aR.2 (aDH hm.r);show FI (bif cG (cS m 1 2 (cX m.r.a 3) 0).1 then{(cS m 1 2 (cX m.r.a 3) 0).1 with r:={m.r with a:=m.r.a.set 3 ((cX m.r.a 3+2)%65536)}}else(cS m 1 2 (cX m.r.a 3) 0).1)
 exact cF (P:=fun z:MM=>FI z) (fun _=>(D0 (k:=1) (s:=2) (v:=0) h ha).of rfl) (fun _=>D0 h ha)
theorem aGI{t:Int}{m:MM}{v:Int}(hm:m.Ok t)(h:FI m)(hf:cG m=true)(hv:4≤v∧v≤21):FI (zE m v):=by
 have hz:=h.z hf;have ev:eqI v 0=false:=gT.2 (by omega)
 refine⟨hm.r.pw,h.a,h.w,fun z=>?_,fun _=>?_⟩
 ·exact absurd ((show eqI v 0=true from z).symm.trans ev) (by decide)
 ·show mZ {m.f with Vector:=v,PC:=m.r.pc}=true
  unfold mZ;rw[show cI v 2 21=true from aR.2 (by omega),show cI m.r.pc 0 65535=true from hm.r.pw,show cI m.f.Addr 0 65535=true from h.a,show cI m.f.Word 0 65535=true from h.w]
  rw[show m.f.Addr=0 from hz.1,show m.f.Write=false from hz.2]
  rw[show(eqI 0 0&&!false)=true from rfl,Bool.or_true]
  rfl
theorem b64{t a:Int}{m:MM}{x:aQ}(hm:m.Ok t)(h:FI m)(hf:cG m=true)(hi:InsOk x):FI (tI m x a):=by
 have hr:=aR.1 hi.hr;have rd: ∀s,FI (dT m s x.Ea).1:=fun s=>bHG hm hi.ho h
 have sp: ∀s,FI (kI m s x.Ea).1:=fun s=>bRB h
 have sok: ∀s,(kI m s x.Ea).1.Ok t∧cI (kI m s x.Ea).2 0 65535=true:=fun s=>DV hm hi.ho
 unfold tI;refine cF (P:=fun z=>FI z) (fun _=>?_) fun _=>?_
 ·unfold X5;exact cF (P:=fun z=>FI z) (fun _=>(rd 2).of rfl) (fun _=>rd 2)
 refine cF (P:=fun z=>FI z) (fun _=>(sp 2).of rfl) fun _=>?_
 refine cF (P:=fun z=>FI z) (fun _=>?_) fun _=>?_
 ·exact(aGH (s:=x.Size) (o:=x.Ea) (v:=cX m.r.d x.Reg%cD x.Size) (sp x.Size) (sok x.Size).2).of rfl
 refine cF (P:=fun z=>FI z) (fun h11=>?_) fun _=>?_
 ·obtain⟨q1,q2,q3⟩:=aDP hm hi (dS.1 h11);have hq:FI (fG m x).1:=by
   unfold fG;exact cF (P:=fun z:MM×Int×Int=>FI z.1) (fun _=>sp x.Size) (fun _=>rd x.Size)
  unfold NE DW;refine cF (P:=fun z=>FI z) (fun _=>hq) fun _=>?_
  exact cF (P:=fun z=>FI z) (fun _=>(aGH (s:=x.Size) (o:=x.Ea) (v:=(wX x (fG m x).1.r.fl (fG m x).2.1).1) hq q3).of rfl) (fun _=>hq.of rfl)
 refine cF (P:=fun z=>FI z) (fun _=>h.of rfl) fun _=>?_
 refine cF (P:=fun z=>FI z) (fun _=>?_) fun _=>?_
 ·unfold zX;refine cF (P:=fun z=>FI z) (fun _=>cF (P:=fun z=>FI z) (fun _=>h.of rfl) (fun _=>h)) fun _=>?_
  have hj:FI (V4 x (kI m 2 x.Ea)):=by
   unfold V4;exact cF (P:=fun z=>FI z) (fun _=>bHH (sok 2).1 (sp 2)) (fun _=>sp 2)
  unfold aXM;exact cF (P:=fun z=>FI z) (fun _=>hj.of rfl) (fun _=>hj)
 refine cF (P:=fun z=>FI z) (fun _=>?_) fun _=>?_
 ·have p1:=aNT hm h;obtain⟨o1,-,-⟩:=IC hm;unfold DY;refine cF (P:=fun z=>FI z) (fun _=>p1.of rfl) fun _=>?_
  refine cF (P:=fun z=>FI z) (fun _=>?_) fun _=>?_
  ·refine cF (P:=fun z=>FI z) (fun _=>p1) fun _=>?_
   exact cF (P:=fun z=>FI z) (fun _=>(aNT o1 p1).of rfl) (fun _=>aNT o1 p1)
  refine cF (P:=fun z=>FI z) (fun _=>h.of rfl) fun _=>?_
  refine cF (P:=fun z=>FI z) (fun _=>aGI hm h hf (by omega)) fun _=>?_
  refine cF (P:=fun z=>FI z) (fun _=>h.of rfl) fun _=>?_
  exact cF (P:=fun z=>FI z) (fun _=>h.of rfl) (fun _=>h)
 refine cF (P:=fun z=>FI z) (fun h16=>?_) fun _=>?_
 ·have h2:x.Op=16∨x.Op=17:=by
   cases e:eqI x.Op 16
   ·rw[e,Bool.false_or,dS]at h16;exact Or.inr h16
   ·exact Or.inl (dS.1 e)
  obtain⟨r3,-,-⟩:=rH hm UV hi.ho oS oS;unfold kC;refine cF (P:=fun z=>FI z) (fun _=>rd 2) fun hn=>?_
  unfold X2;refine cF (P:=fun z=>FI z) (fun _=>(rd 2).of rfl) fun _=>?_
  exact cF (P:=fun z=>FI z) (fun _=>aGI r3 (rd 2) (FX hn) (by omega)) (fun _=>(rd 2).of rfl)
 refine cF (P:=fun z=>FI z) (fun _=>?_) fun _=>?_
 ·unfold NF;refine cF (P:=fun z=>FI z) (fun _=>h.of rfl) fun _=>?_
  have hz:=h.z hf;refine⟨h.p,h.a,h.w,fun z=>?_,fun _=>?_⟩
  ·exact absurd (show eqI 4 0=true from z) (by decide)
  ·show mZ {m.f with Vector:=4}=true
   unfold mZ;rw[show cI m.f.PC 0 65535=true from h.p,show cI m.f.Addr 0 65535=true from h.a,show cI m.f.Word 0 65535=true from h.w,show m.f.Addr=0 from hz.1,show m.f.Write=false from hz.2]
   rfl
 refine cF (P:=fun z=>FI z) (fun _=>?_) fun _=>?_
 ·unfold UW;exact cF (P:=fun z=>FI z) (fun _=>h.of rfl) (fun _=>h.of rfl)
 ·unfold BI;refine cF (P:=fun z=>FI z) (fun _=>rd x.Size) fun _=>?_
  exact cF (P:=fun z=>FI z) (fun _=>(rd x.Size).of rfl) (fun _=>(rd x.Size).of rfl)
theorem aUM{r:RM}{zs:List Int}{l:List aE}{s:Bool}{pc w:Int}(hp:cI pc 0 65535=true)(hw:cI w 0 65535=true):FI (mq r zs l s pc w):=⟨hp,(by decide:cI 0 0 65535=true),hw,fun _=>⟨rfl,rfl⟩,fun z=>absurd (show eqI 0 0=false from z) (by decide)⟩
theorem bRC{r:RM}{zs:List Int}{l:List aE}{s:Bool}(hr:r.Ok 65535)(hb:BusOk zs l):FI (m9 (mm r zs l s)).1:=by
 have a0:FI (mq r zs l s r.pc 0):=aUM hr.pw (by decide)
 have a1:FI (cS (mq r zs l s r.pc 0) 3 2 r.pc 0).1:=D0 a0 hr.pw;obtain⟨b1,b2⟩:=ER (s:=s) (pc:=r.pc) (w:=0) (k:=3) (v:=0) hr hb UV (by decide) hr.pw (by decide)
 have m1:=BK (r:=r) (zs:=zs) (l:=l) (s:=s) (pc:=r.pc) (w:=0) (k:=3) (sz:=2) (a:=r.pc) (v:=0);have ef:m9 (mm r zs l s)=KE (cS (mq r zs l s r.pc 0) 3 2 r.pc 0) r.pc:=rfl;rw[ef];generalize cS (mq r zs l s r.pc 0) 3 2 r.pc 0=A at a1 b1 b2 m1;obtain⟨A1,w1⟩:=A;dsimp only at a1 b1 b2 m1;have hw:cI w1 0 65535=true:=aR.2 (rD b2);have ha:cI ((r.pc+2)%65536) 0 65535=true:=by rw[aR];omega
 have v4: ∀(m:MM),(∃r z l',m=mq r z l' s r.pc w1∧cI r.pc 0 65535=true)→FI {m with f:={m.f with Vector:=4}}:=by
  rintro m ⟨r',z,l',rfl,hp⟩
  have h:=aUM (r:=r') (zs:=z) (l:=l') (s:=s) hp hw;refine⟨h.p,h.a,h.w,fun z=>absurd (show eqI 4 0=true from z) (by decide),fun _=>?_⟩
  show mZ ⟨4,r'.pc,0,w1,false⟩=true
  unfold mZ;rw[show cI r'.pc 0 65535=true from hp,show cI w1 0 65535=true from hw]
  rfl
 unfold KE;refine cF (P:=fun z:MM×aQ×Int=>FI z.1) (fun _=>a1) fun h1=>?_
 have m1:=m1 (FX h1);have eA:({A1 with f:={A1.f with Word:=w1}}:MM)=mq r A1.zs A1.l s r.pc w1:=by rw[m1];rfl
 refine cF (P:=fun z:MM×aQ×Int=>FI z.1) (fun _=>?_) fun _=>?_
 ·rw[eA];have c1:FI (cS (mq r A1.zs A1.l s r.pc w1) 3 2 ((r.pc+2)%65536) 0).1:=D0 (aUM hr.pw hw) ha;have m2:=BK (r:=r) (zs:=A1.zs) (l:=A1.l) (s:=s) (pc:=r.pc) (w:=w1) (k:=3) (sz:=2) (a:=(r.pc+2)%65536) (v:=0);generalize cS (mq r A1.zs A1.l s r.pc w1) 3 2 ((r.pc+2)%65536) 0=C at c1 m2;unfold UP;refine cF (P:=fun z:MM×aQ×Int=>FI z.1) (fun _=>c1) fun h2=>?_
  exact cF (P:=fun z:MM×aQ×Int=>FI z.1) (fun _=>v4 _ ⟨r,_,_,m2 (FX h2),hr.pw⟩) (fun _=>c1)
 ·refine cF (P:=fun z:MM×aQ×Int=>FI z.1) (fun _=>?_) (fun _=>?_)
  ·have:=v4 (mq r A1.zs A1.l s r.pc w1) ⟨r,_,_,rfl,hr.pw⟩;rw[←eA]at this;exact this
  ·show FI ({A1 with f:={A1.f with Word:=w1}}:MM)
   rw[eA];exact aUM hr.pw hw
theorem bHI{r:RM}{zs:List Int}{l:List aE}{s:Bool}(hr:r.Ok 65535)(hb:BusOk zs l):FI (zY (mm r zs l s)):=by
 have f1:=bRC (s:=s) hr hb;have hm:(mm r zs l s).Ok 65535:=⟨hr,hb⟩;obtain⟨o1,o2⟩:=aNJ hm;have b1:FI (uV (m9 (mm r zs l s))):=by
  unfold uV;refine cF (P:=fun z=>FI z) (fun hb=>?_) (fun _=>f1)
  rw[Bool.and_eq_true]at hb;have hz:=f1.z hb.1;refine⟨f1.p,f1.a,f1.w,fun z=>absurd (show eqI 8 0=true from z) (by decide),fun _=>?_⟩
  show mZ {(m9 (mm r zs l s)).1.f with Vector:=8}=true
  unfold mZ;rw[show cI (m9 (mm r zs l s)).1.f.PC 0 65535=true from f1.p,show cI (m9 (mm r zs l s)).1.f.Addr 0 65535=true from f1.a,show cI (m9 (mm r zs l s)).1.f.Word 0 65535=true from f1.w,show(m9 (mm r zs l s)).1.f.Addr=0 from hz.1,show(m9 (mm r zs l s)).1.f.Write=false from hz.2]
  rfl
 have b2:(uV (m9 (mm r zs l s))).Ok 65535:=by unfold uV;exact cF (P:=fun z=>MM.Ok 65535 z) (fun _=>⟨o1.r,o1.b⟩) (fun _=>o1)
 unfold zY FY;refine cF (P:=fun z=>FI z) (fun h=>?_) (fun _=>b1)
 have hf:cG (m9 (mm r zs l s)).1=true:=by
  unfold uV at h;cases hh:cG (m9 (mm r zs l s)).1
  ·rw[hh,Bool.false_and,cond_false,hh]at h;exact h
  ·rfl
 exact b64 ⟨b2.r.setP (aR.2 (by omega)),b2.b⟩ (b1.of rfl) h (InsOk.of (o2 hf).1)
end Go.Proofs.YtdipcnijfkdnfaaGreatIrqs

namespace Go.Proofs.YtdipcnijfkdnfaaGreatIrqs
open Go Go.Zq
set_option maxHeartbeats 4000000
set_option maxRecDepth 100000
structure RP(r:RM)(p:RM):Prop where
 d:p.d=r.d
 f:p.fl=r.fl
 m:p.mask=r.mask
 s:p.sup=true
 t:p.tr=false
theorem RP.setA{r p:RM}{l:List Int}(h:RP r p):RP r {p with a:=l}:=⟨h.d,h.f,h.m,h.s,h.t⟩
theorem RP.setP{r p:RM}{v:Int}(h:RP r p):RP r {p with pc:=v}:=⟨h.d,h.f,h.m,h.s,h.t⟩
theorem bHJ{r:RM}(h:r.Ok 65535):RP r (dN r (vE r)):=by
 have f:=aR.1 h.fw;have k:=aR.1 h.mw;have e1:vE r%32=r.fl:=by unfold vE;omega
 have e2:vE r/32%8=r.mask:=by unfold vE;omega
 have e3:eqI (vE r/256%2) 1=true:=by rw[dS];unfold vE;omega
 have e4:eqI (vE r/512%2) 1=false:=by rw[gT];unfold vE;omega
 unfold dN;rw[e1,e2,e3,e4];cases hs:r.sup
 ·exact⟨rfl,rfl,rfl,rfl,rfl⟩
 ·exact⟨rfl,rfl,rfl,rfl,rfl⟩
theorem bHK{r:RM}{m:MM}{v:Int}(h:RP r m.r):RP r (dZ m v).r:=by
 unfold dZ;exact cF (P:=fun z:MM=>RP r z.r) (fun _=>h.setA) (fun _=>h)
theorem a9R{r:RM}{m:MM}{F:List Int}(h:RP r m.r): ∀i,RP r (pk m F i).r
 |0=>h
 |i+1=>cF (P:=fun z:MM=>RP r z.r) (fun _=>bHK (a9R h i)) (fun _=>a9R h i)
theorem a9S{r:RM}{zs:List Int}{l:List aE}{f:aL}(hr:r.Ok 65535)(hb:BusOk zs l)(hg:mZ f=true): ∃r' zs' l' h',KH (mm (dN r (vE r)) zs l false) (nV r f) f.Vector=bF r' zs' l' false h'∧r'.Ok 65535∧BusOk zs' l'∧RP r r'∧(h'=false→cG (pk (mm (dN r (vE r)) zs l false) (nV r f) (nV r f).length)=true∧zs'=(pk (mm (dN r (vE r)) zs l false) (nV r f) (nV r f).length).zs∧r'.a=(pk (mm (dN r (vE r)) zs l false) (nV r f) (nV r f).length).r.a∧r'.pc=tV 1 2 (2*f.Vector) 0 zs'):=by
 obtain⟨gv,-⟩:=VC hg;obtain⟨w1,w2⟩:=a9F hr hg;have hr':(dN r (vE r)).Ok 65535:=EQ hr;have hm:(mm (dN r (vE r)) zs l false).Ok 65535:=⟨hr',hb⟩;have hp:=VB hm w1 (nV r f).length;have hq:RP r (pk (mm (dN r (vE r)) zs l false) (nV r f) (nV r f).length).r:=a9R (bHJ hr) _;unfold KH;generalize pk (mm (dN r (vE r)) zs l false) (nV r f) (nV r f).length=p at*;obtain⟨o1,o2⟩:=zD (k:=1) hp (KI gv) (by decide)
 have ez:(cS p 1 2 (2*f.Vector) 0).1.zs=p.zs:=by
  show tB 1 2 (2*f.Vector) 0 p.zs=p.zs
  unfold tB;rw[show eqI 1 2=false from rfl,Bool.and_false,cond_false]
 have ev:(cS p 1 2 (2*f.Vector) 0).2=tV 1 2 (2*f.Vector) 0 p.zs:=rfl;unfold aNQ aNP;cases hf:cG p
 ·exact⟨p.r,p.zs,p.l,true,rfl,hp.r,hp.b,hq,fun h=>absurd h (by decide)⟩
 ·rw[cond_true];cases hc:cG (cS p 1 2 (2*f.Vector) 0).1
  ·exact⟨p.r,_,_,true,rfl,hp.r,o1.b,hq,fun h=>absurd h (by decide)⟩
  ·refine⟨{p.r with pc:=(cS p 1 2 (2*f.Vector) 0).2},_,_,false,rfl,hp.r.setP (aR.2 (rD o2)),o1.b,hq.setP,fun _=>⟨rfl,ez,rfl,?_⟩⟩
   rw[ez];exact ev
def Cgo(h:Bool)(c:aI):Prop:= ∃r zs l s,c=bF r zs l s h∧r.Ok 65535∧BusOk zs l
noncomputable def VI(c:aI)(f:aL):aI:=aA9 f c
theorem VJ{c:aI}{f:aL}(hc:Cgo false c)(hg:mZ f=true):aBA f c=true∧(V1 c f c.R.Mask=true∧V0 c f c.R.Mask=VI c f)∧(VI c f).Stop=false∧ ∃h,Cgo h (VI c f):=by
 obtain⟨r,zs,l,s,rfl,hr,hb⟩:=hc;obtain⟨a1,a2⟩:=aUF (s:=s) hr hb hg;have hm:cI r.mask 0 7=true:=by have:=hr.mw;rwa [show(65535:Int)-65528=7 from rfl]at this
 obtain⟨b1,b2⟩:=aUG (s:=s) (h:=false) hr hb hg hm;obtain⟨r',zs',l',h',e,o1,o2,-⟩:=a9S hr hb hg;have ee:VI (bF r zs l s false) f=KH (mm (dN r (vE r)) zs l false) (nV r f) f.Vector:=a2;refine⟨a1,⟨b1,?_⟩,?_,h',?_⟩
 ·rw[ee];exact b2
 ·rw[ee,e];rfl
 ·rw[ee,e];exact⟨r',zs',l',false,rfl,o1,o2⟩
theorem aUN{c:aI}{f:aL}(hc:Cgo false c)(hg:mZ f=true):V1 c f c.R.Mask=true∧V0 c f c.R.Mask=VI c f:=(VJ hc hg).2.1
structure SP(q:aI×aL):Prop where
 c:Cgo false q.1
 g:eqI q.2.Vector 0=false→mZ q.2=true
noncomputable def IF(r:RM)(zs:List Int)(l:List aE)(s:Bool):aI×aL:=BS (mm r zs l s) (zY (mm r zs l s))
theorem aD0{r:RM}{zs:List Int}{l:List aE}{s:Bool}(hr:r.Ok 65535)(hb:BusOk zs l):SP (IF r zs l s):=by
 have hm:(mm r zs l s).Ok 65535:=⟨hr,hb⟩;have ho:=aF4 hm;have hf:=bHI (s:=s) hr hb;unfold IF BS;cases h:cG (zY (mm r zs l s))
 ·exact⟨⟨_,_,_,_,rfl,hr,ho.b⟩,fun z=>hf.g h⟩
 ·exact⟨⟨_,_,_,_,rfl,ho.r,ho.b⟩,fun z=>absurd (show eqI 0 0=false from z) (by decide)⟩
noncomputable def ES(q:aI×aL):aI:=bif eqI q.2.Vector 0 then q.1 else VI q.1 q.2
def tF(c:aI):aL:=⟨9,c.R.PC,0,0,false⟩
def trB(tr:Bool)(c:aI)(v:Int):Bool:=(tr&&!c.Halt)&&(eqI v 0||(eqI v 5||geI v 18))
noncomputable def mD(tr:Bool)(q:aI×aL):aI×Int:=
 bif trB tr (ES q) q.2.Vector then(VI (ES q) (tF (ES q)),bif eqI q.2.Vector 0 then 9 else q.2.Vector)else(ES q,q.2.Vector)
theorem a9T{q:aI×aL}(h:SP q): ∃hh,Cgo hh (ES q)∧(eqI q.2.Vector 0=false→(ES q).Stop=false):=by
 unfold ES;cases hv:eqI q.2.Vector 0
 ·obtain⟨-,-,e,hh,c⟩:=VJ h.c (h.g hv);exact⟨hh,c,fun _=>e⟩
 ·exact⟨false,h.c,fun z=>absurd z (by decide)⟩
theorem aD1{h:Bool}{c:aI}(hc:Cgo h c):mZ (tF c)=true:=by
 obtain⟨r,zs,l,s,rfl,hr,hb⟩:=hc;show mZ ⟨9,r.pc,0,0,false⟩=true
 unfold mZ;rw[show cI r.pc 0 65535=true from hr.pw]
 rfl
theorem bHM{h:Bool}{c:aI}(hc:Cgo h c):c.Halt=h:=by
 obtain⟨r,zs,l,s,rfl,-⟩:=hc;rfl
theorem VK{h:Bool}{c:aI}(hc:Cgo h c)(e:c.Halt=false):Cgo false c:=by
 have:=bHM hc;rw[e]at this;rw[this];exact hc
def CGd(c:aI):Prop:= ∃r zs l s h,c=bF r zs l s h∧r.Ok 65535∧BusOk zs l∧(!(s&&h))=true
theorem aGJ{tr:Bool}{q:aI×aL}(h:SP q):CGd (mD tr q).1:=by
 obtain⟨hh,c,hs⟩:=a9T h;unfold mD;cases ht:trB tr (ES q) q.2.Vector
 ·rw[cond_false];cases hv:eqI q.2.Vector 0
  ·have:=hs hv;obtain⟨r,zs,l,s,e,a,b⟩:=c;rw[e]at this;have es:s=false:=this;exact⟨r,zs,l,s,hh,e,a,b,by rw[es];rfl⟩
  ·have e1:ES q=q.1:=by unfold ES;rw[hv];rfl
   rw[e1];obtain⟨r,zs,l,s,e,a,b⟩:=h.c;exact⟨r,zs,l,s,false,e,a,b,by rw[Bool.and_false];rfl⟩
 ·rw[cond_true];have hh2:(ES q).Halt=false:=by
   unfold trB at ht;simp only[Bool.and_eq_true]at ht;exact FV ht.1.2
  obtain⟨-,-,e,h3,c3⟩:=VJ (VK c hh2) (aD1 c);obtain⟨r,zs,l,s,e2,a,b⟩:=c3;rw[e2]at e;have es:s=false:=e;exact⟨r,zs,l,s,h3,e2,a,b,by rw[es];rfl⟩
theorem bRD{r:RM}{zs:List Int}{l:List aE}{s:Bool}(hr:r.Ok 65535)(hb:BusOk zs l):bNJ (bF r zs l s false)=true∧aWX (bF r zs l s false)=mD r.tr (IF r zs l s):=by
 refine aK (t:=a4U (bF r zs l s false)) (P:=fun q=>q=mD r.tr (IF r zs l s)) ?_
 obtain⟨a1,a2⟩:=b63 (s:=s) hr hb;have a2:uA (bF r zs l s false)=IF r zs l s:=a2;have h:=aD0 (s:=s) hr hb;obtain⟨hh,c,hs⟩:=a9T h;generalize IF r zs l s=q at a2 h c hs;unfold a4U;have te: ∀b:Bool,(bif bif r.tr then !b else false then(bif bif eqI q.2.Vector 0 then true else eqI q.2.Vector 5 then true else geI q.2.Vector 18)else false)=((r.tr&&!b)&&(eqI q.2.Vector 0||(eqI q.2.Vector 5||geI q.2.Vector 18))):=fun b=>by
  cases r.tr<;>cases b<;>cases eqI q.2.Vector 0<;>cases eqI q.2.Vector 5<;>rfl
 have k2:trB r.tr (ES q) q.2.Vector=true→aBA (tF (ES q)) (ES q)=true:=fun ht=>by
  have hh2:(ES q).Halt=false:=by
   unfold trB at ht;simp only[Bool.and_eq_true]at ht;exact FV ht.1.2
  exact(VJ (VK c hh2) (aD1 c)).1
 cases hv:eqI q.2.Vector 0
 ·have e1:ES q=aA9 q.2 q.1:=by unfold ES;rw[hv];rfl
  have k1:=(VJ h.c (h.g hv)).1;have hn:dC q.2.Vector 0=true:=by rw[rJ,hv];rfl
  rw[hv]at te;unfold trB at k2;rw[hv,e1]at k2;unfold mD trB;rw[hv,e1];simp only[aB,aJ,aA,TF,aBY,TE,aBX,wH,a1,a2,k1,hn,kR,aT,hv,te,aD,bP,wz,Bool.and_true,true_and,forall_const,Bool.true_eq_false,Bool.false_eq_true,false_implies,and_true];refine⟨fun z=>⟨k2 z,?_⟩,fun z=>?_⟩
  ·rw[z];rfl
  ·rw[z];rfl
 ·have e1:ES q=q.1:=by unfold ES;rw[hv];rfl
  have hn:dC q.2.Vector 0=false:=by rw[rJ,hv];rfl
  rw[hv]at te;unfold trB at k2;rw[hv,e1]at k2;unfold mD trB;rw[hv,e1];simp only[aB,aJ,aA,TF,aBY,TE,aBX,wH,a1,a2,hn,kR,aT,hv,te,aD,bP,wz,Bool.and_true,true_and,forall_const,Bool.true_eq_false,Bool.false_eq_true,false_implies,and_true];refine⟨fun z=>⟨k2 z,?_⟩,fun z=>?_⟩
  ·rw[z];rfl
  ·rw[z];rfl
end Go.Proofs.YtdipcnijfkdnfaaGreatIrqs

namespace Go.Proofs.YtdipcnijfkdnfaaGreatIrqs
open Go Go.Zq
set_option maxHeartbeats 4000000
set_option maxRecDepth 100000
theorem bRE{r:RM}{zs:List Int}{l:List aE}{s:Bool}(hr:r.Ok 65535)(hb:BusOk zs l):bO8 (bF r zs l s false)=true∧aXF (bF r zs l s false)=mD r.tr (IF r zs l s):=by
 refine aK (t:=a7I (bF r zs l s false)) (P:=fun q=>q=mD r.tr (IF r zs l s)) ?_
 obtain⟨a1,a2⟩:=bQK (s:=s) (h:=false) hr hb;have a2:xE (bF r zs l s false)=IF r zs l s:=a2;have h:=aD0 (s:=s) hr hb;obtain⟨hh,c,hs⟩:=a9T h;generalize IF r zs l s=q at a2 h c hs;unfold a7I;have k2:trB r.tr (ES q) q.2.Vector=true→V1 (ES q) (tF (ES q)) (ES q).R.Mask=true∧V0 (ES q) (tF (ES q)) (ES q).R.Mask=VI (ES q) (tF (ES q)):=fun ht=>by
  have hh2:(ES q).Halt=false:=by
   unfold trB at ht;simp only[Bool.and_eq_true]at ht;exact FV ht.1.2
  exact aUN (VK c hh2) (aD1 c)
 cases hv:eqI q.2.Vector 0
 ·have e1:ES q=VI q.1 q.2:=by unfold ES;rw[hv];rfl
  obtain⟨k1,g1⟩:=aUN h.c (h.g hv);have hn:dC q.2.Vector 0=true:=by rw[rJ,hv];rfl
  unfold trB at k2;rw[hv,e1]at k2;unfold mD trB;rw[hv,e1];have n5:(bif ltI q.2.Vector 18 then dC q.2.Vector 5 else false)=!(eqI q.2.Vector 5||geI q.2.Vector 18):=by
   rw[rJ];cases h5:eqI q.2.Vector 5
   ·cases h6:geI q.2.Vector 18
    ·rw[aFV]at h6;rw[eK.2 h6];rfl
    ·rw[J5]at h6;rw[pA.2 h6];rfl
   ·cases ltI q.2.Vector 18<;>rfl
  have te: ∀b:Bool,(bif r.tr then !b else false)=(r.tr&&!b):=fun b=>by cases r.tr<;>rfl
  simp only[aB,aJ,aA,aC6,BF,aC5,BE,aC4,aC3,mC,M8,a1,a2,k1,g1,hn,n5,kR,eS,eT,aT,hv,te,aD,bP,wz,bO,cU,bG,cV,Bool.and_true,true_and,forall_const,Bool.true_eq_false,Bool.false_eq_true,false_implies,and_true,implies_true];refine⟨fun z=>?_,fun z=>⟨fun y=>?_,fun y=>?_⟩⟩
  ·rw[FV z];rw[Bool.false_or,Bool.and_false];rfl
  ·have z:=FX z;have w:=k2 (by rw[y,z];rfl)
   refine⟨w.1,?_⟩;rw[y,z];exact Prod.ext w.2 rfl
  ·rw[y];rfl
 ·have e1:ES q=q.1:=by unfold ES;rw[hv];rfl
  have hn:dC q.2.Vector 0=false:=by rw[rJ,hv];rfl
  unfold trB at k2;rw[hv,e1]at k2;unfold mD trB;rw[hv,e1];have te: ∀b:Bool,(bif r.tr then !b else false)=(r.tr&&!b):=fun b=>by cases r.tr<;>rfl
  simp only[aB,aJ,aA,aC6,BF,aC5,BE,aC4,aC3,mC,M8,a1,a2,hn,kR,eS,eT,aT,hv,te,aD,bP,wz,bO,cU,bG,cV,Bool.and_true,true_and,forall_const,Bool.true_eq_false,Bool.false_eq_true,false_implies,and_true,implies_true];refine⟨fun y=>?_,fun y=>?_⟩
  ·have w:=k2 (by rw[y];rfl)
   refine⟨w.1,?_⟩;rw[y];exact Prod.ext w.2 rfl
  ·rw[y];rfl
end Go.Proofs.YtdipcnijfkdnfaaGreatIrqs

namespace Go.Proofs.YtdipcnijfkdnfaaGreatIrqs
open Go Go.Zq
set_option maxHeartbeats 4000000
set_option maxRecDepth 100000
def mkM(m:MM)(k:Int):MM:={m with r:={m.r with mask:=k}}
def aUO(c:aI)(k:Int):aI:={c with R:={c.R with Mask:=k}}
theorem a9U(m:MM)(k a b c d:Int):cS (mkM m k) a b c d=(mkM (cS m a b c d).1 k,(cS m a b c d).2):=by
 unfold cS mkM;dsimp only
theorem PG(m:MM)(k:Int):cG (mkM m k)=cG m:=rfl
theorem bHN(m:MM)(k v:Int):dZ (mkM m k) v=mkM (dZ m v) k:=by
 unfold dZ;rw[show(mkM m k).r.a=m.r.a from rfl,a9U]
 generalize cS m 2 2 ((cX m.r.a 3-2)%65536) v=q;obtain⟨Q,x⟩:=q;dsimp only;rw[PG];cases cG Q<;>rfl
theorem bI4(m:MM)(F:List Int)(k:Int): ∀i,pk (mkM m k) F i=mkM (pk m F i) k
 |0=>rfl
 |i+1=>by
  show(bif cG (pk (mkM m k) F i)then dZ (pk (mkM m k) F i) (F.getD i 0)else pk (mkM m k) F i)=mkM (bif cG (pk m F i)then dZ (pk m F i) (F.getD i 0)else pk m F i) k
  rw[bI4 m F k i,bHN,PG];cases cG (pk m F i)<;>rfl
theorem bHO(P Q:MM)(x k:Int):aNP (mkM P k) (mkM Q k,x)=aUO (aNP P (Q,x)) k:=by
 unfold aNP;dsimp only;rw[PG];cases cG Q<;>rfl
theorem bRF(m:MM)(F:List Int)(vec k:Int):KH (mkM m k) F vec=aUO (KH m F vec) k:=by
 unfold KH aNQ;rw[bI4];generalize pk m F F.length=p;rw[PG,a9U,bHO];cases cG p<;>rfl
theorem bHP{r:RM}{k:Int}(h:r.Ok 65535)(hk:cI k 0 7=true):dN r (r.fl+32*k+256)={dN r (vE r)with mask:=k}:=by
 have f:=aR.1 h.fw;have m:=aR.1 h.mw;have k':=aR.1 hk;have e1:vE r%32=r.fl:=by unfold vE;omega
 have e3:eqI (vE r/256%2) 1=true:=by rw[dS];unfold vE;omega
 have e4:eqI (vE r/512%2) 1=false:=by rw[gT];unfold vE;omega
 have d1:(r.fl+32*k+256)%32=r.fl:=by omega
 have d2:(r.fl+32*k+256)/32%8=k:=by omega
 have d3:eqI ((r.fl+32*k+256)/256%2) 1=true:=by rw[dS];omega
 have d4:eqI ((r.fl+32*k+256)/512%2) 1=false:=by rw[gT];omega
 unfold dN;rw[e1,e3,e4,d1,d2,d3,d4];cases r.sup<;>rfl
def iF(c:aI)(p:Int):aL:=⟨10+p,c.R.PC,0,0,false⟩
theorem bHQ{r:RM}{zs:List Int}{l:List aE}{s h:Bool}{p:Int}(hr:r.Ok 65535)(hp:cI p 1 7=true):mZ (iF (bF r zs l s h) p)=true:=by
 have hp':=aR.1 hp;unfold mZ;rw[show cI (iF (bF r zs l s h) p).PC 0 65535=true from hr.pw,show cI (iF (bF r zs l s h) p).Vector 2 21=true from aR.2 (by show 2≤10+p∧10+p≤21;omega),show cI (iF (bF r zs l s h) p).Addr 0 65535=true from rfl,show cI (iF (bF r zs l s h) p).Word 0 65535=true from rfl,show eqI (iF (bF r zs l s h) p).Addr 0=true from rfl]
 cases zZ (iF (bF r zs l s h) p)<;>rfl
noncomputable def NK(c:aI)(p:Int):aI:=aUO (VI c (iF c p)) p
structure EntI(o:aI)(p:Int):Prop where
 a:aBA (iF o p) o=true
 b:V1 o (iF o p) p=true
 c:V0 o (iF o p) p=NK o p
 g:CGd (NK o p)
 s:(NK o p).Stop=false
theorem PH{r:RM}{zs:List Int}{l:List aE}{s:Bool}{p:Int}(hr:r.Ok 65535)(hb:BusOk zs l)(hp:cI p 1 7=true):EntI (bF r zs l s false) p:=by
 have gf:=bHQ (zs:=zs) (l:=l) (s:=s) (h:=false) hr hp;have hp7:cI p 0 7=true:=aR.2 (by have:=aR.1 hp;omega)
 obtain⟨a1,a2⟩:=aUF (s:=s) hr hb gf;obtain⟨b1,b2⟩:=aUG (s:=s) (h:=false) hr hb gf hp7;obtain⟨r',zs',l',h',e,o1,o2,-⟩:=a9S hr hb gf;have e1:VI (bF r zs l s false) (iF (bF r zs l s false) p)=bF r' zs' l' false h':=a2.trans e;have e2:NK (bF r zs l s false) p=bF {r' with mask:=p} zs' l' false h':=by
  unfold NK;rw[e1];rfl
 refine⟨a1,b1,?_,?_,?_⟩
 ·rw[b2,bHP hr hp7];show KH (mkM (mm (dN r (vE r)) zs l false) p) _ _=_
  rw[bRF];show _=aUO (aA9 _ _) p
  rw[a2]
 ·rw[e2];exact⟨_,_,_,_,_,rfl,{o1 with mw:=hp7},o2,rfl⟩
 ·rw[e2];rfl
end Go.Proofs.YtdipcnijfkdnfaaGreatIrqs

namespace Go.Proofs.YtdipcnijfkdnfaaGreatIrqs
open Bool renaming true_eq_false → q_1
open Go Go.Zq
set_option maxHeartbeats 4000000
set_option maxRecDepth 100000
def i8(c:aI)(line:Int)(e:Bool):Int:=bif e then 7 else bif kU line c.R.Mask then line else 0
theorem b66(c:aI)(n:Int)(e:Bool):bK5 ⟨c,n,e⟩=true∧VV ⟨c,n,e⟩=i8 c n e:=by
 refine aK (t:=a2A ⟨c,n,e⟩) (P:=fun q=>q=i8 c n e) ?_
 unfold a2A i8;cases e<;>cases h:kU n c.R.Mask<;>simp[aAQ,wz,bP,cU,cV,h]
theorem bHR(c:aI)(n:Int)(e:Bool):aM0 ⟨c,n,e⟩=true∧aMZ ⟨c,n,e⟩=i8 c n e:=by
 refine aK (t:=UC ⟨c,n,e⟩) (P:=fun q=>q=i8 c n e) ?_
 unfold UC i8;cases e<;>cases h:kU n c.R.Mask<;>simp[wz,bP,cU,cV,h]
theorem bI5(c:aI)(n:Int)(e:Bool):bE6 ⟨c,n,e⟩=true∧aB7 ⟨c,n,e⟩=i8 c n e:=by
 refine aK (t:=a5L ⟨c,n,e⟩) (P:=fun q=>q=i8 c n e) ?_
 unfold a5L i8;cases e<;>cases h:kU n c.R.Mask<;>simp[wz,bP,cU,cV,h]
theorem aD2{c:aI}{n:Int}{e:Bool}(hn:cI n 0 7=true)(h:kU (i8 c n e) 0=true):cI (i8 c n e) 1 7=true:=by
 have h1:=aR.1 hn;have h2:=rB.1 h
 revert h2
 unfold i8;cases e
 ·cases kU n c.R.Mask
  ·intro h2;exact absurd (show(0:Int)<0 from h2) (by decide)
  ·intro h2;exact aR.2 ⟨by have:0<n:=h2;show 1≤n;omega,h1.2⟩
 ·intro _;rfl
noncomputable def uQ(r:RM)(zs:List Int)(l:List aE)(s h:Bool)(n:Int)(e:Bool):bN×Int:=
 bif h then(⟨bF r zs l s h,n,e⟩,-1)
 else bif kU (i8 (bF r zs l s h) n e) 0 then(⟨NK (bF r zs l s h) (i8 (bF r zs l s h) n e),n,bif eqI (i8 (bF r zs l s h) n e) 7 then false else e⟩,100+i8 (bF r zs l s h) n e)
 else bif s then(⟨bF r zs l s h,n,e⟩,-1)
 else(⟨(mD r.tr (IF r zs l s)).1,n,e⟩,(mD r.tr (IF r zs l s)).2)
theorem YA(c:aI)(n:Int)(e:Bool):(bN.mk c n e).Cpu=c:=rfl
theorem YB(c:aI)(n:Int)(e:Bool):(bN.mk c n e).Line=n:=rfl
theorem i_E(c:aI)(n:Int)(e:Bool):(bN.mk c n e).Edge=e:=rfl
theorem b67{r:RM}{zs:List Int}{l:List aE}{s h:Bool}{n:Int}{e:Bool}(hr:r.Ok 65535)(hb:BusOk zs l)(hn:cI n 0 7=true):bNK ⟨bF r zs l s h,n,e⟩=true∧aWY ⟨bF r zs l s h,n,e⟩=uQ r zs l s h n e:=by
 refine aK (t:=a4V ⟨bF r zs l s h,n,e⟩) (P:=fun q=>q=uQ r zs l s h n e) ?_
 obtain⟨p1,p2⟩:=b66 (bF r zs l s h) n e;have hp:=aD2 (c:=bF r zs l s h) (e:=e) hn;unfold a4V uQ;cases h with
 |true=>simp only[aB,aJ,aA,MW,yM,MV,YA,YB,i_E,kG,aD,bP,wz,cond_true,Bool.and_true,true_and,forall_const,q_1,false_implies,and_true]
 |false=>
  generalize hq:i8 (bF r zs l s false) n e=p at*;cases hg:kU p 0
  ·cases s with
   |true=>simp only[aB,aJ,aA,MW,yM,MV,YA,YB,i_E,kG,kS,p1,p2,hg,b2I,aD,bP,wz,cond_true,cond_false,Bool.and_true,true_and,forall_const,q_1,Bool.false_eq_true,false_implies,and_true]
   |false=>
    obtain⟨w1,w2⟩:=bRD (s:=false) hr hb;simp only[aB,aJ,aA,MW,yM,MV,YA,YB,i_E,kG,kS,p1,p2,hg,w1,w2,aD,bP,wz,cond_true,cond_false,Bool.and_true,true_and,forall_const,q_1,Bool.false_eq_true,false_implies,and_true]
  ·have E:=PH (s:=s) hr hb (hp hg);have hp':=aR.1 (hp hg);have a1:bE 10 p=10+p:=bV (by omega)
   have a2:bE 100 p=100+p:=bV (by omega)
   have eF:(aL.mk (10+p) (bF r zs l s false).R.PC 0 0 false)=iF (bF r zs l s false) p:=rfl;have Ea:=E.a;simp only[aB,aJ,aA,MW,yM,MV,YA,YB,i_E,kG,kS,p1,p2,hg,a1,a2,eF,Ea,aD,bP,wz,cond_true,cond_false,Bool.and_true,true_and,forall_const,q_1,Bool.false_eq_true,false_implies,and_true];cases h7:eqI p 7
   ·exact⟨fun z=>absurd z (by decide),fun _=>rfl⟩
   ·exact⟨fun _=>rfl,fun z=>absurd z (by decide)⟩
theorem b68{r:RM}{zs:List Int}{l:List aE}{s h:Bool}{n:Int}{e:Bool}(hr:r.Ok 65535)(hb:BusOk zs l)(hn:cI n 0 7=true):bPB ⟨bF r zs l s h,n,e⟩=true∧aXG ⟨bF r zs l s h,n,e⟩=uQ r zs l s h n e:=by
 refine aK (t:=a7J ⟨bF r zs l s h,n,e⟩) (P:=fun q=>q=uQ r zs l s h n e) ?_
 obtain⟨p1,p2⟩:=bI5 (bF r zs l s h) n e;have hp:=aD2 (c:=bF r zs l s h) (e:=e) hn;unfold a7J uQ;cases h with
 |true=>simp only[aB,aJ,aA,M9,YA,YB,i_E,kG,aD,bP,wz,cond_true,Bool.and_true,true_and,forall_const,q_1,false_implies,and_true]
 |false=>
  generalize hq:i8 (bF r zs l s false) n e=p at*;cases hg:kU p 0
  ·cases s with
   |true=>simp only[aB,aJ,aA,M9,YA,YB,i_E,kG,kS,p1,p2,hg,aD,bP,wz,cond_true,cond_false,Bool.and_true,true_and,forall_const,q_1,Bool.false_eq_true,false_implies,and_true]
   |false=>
    obtain⟨w1,w2⟩:=bRE (s:=false) hr hb;simp only[aB,aJ,aA,M9,YA,YB,i_E,kG,kS,p1,p2,hg,w1,w2,aD,bP,wz,cond_true,cond_false,Bool.and_true,true_and,forall_const,q_1,Bool.false_eq_true,false_implies,and_true]
  ·have E:=PH (s:=s) hr hb (hp hg);have hp':=aR.1 (hp hg);have a1:bE 10 p=10+p:=bV (by omega)
   have a2:bE 100 p=100+p:=bV (by omega)
   have eF:(aL.mk (10+p) (bF r zs l s false).R.PC 0 0 false)=iF (bF r zs l s false) p:=rfl;have Eb:=E.b;have Ec:=E.c;have en:bOE ⟨bF r zs l s false,n,e⟩ p=true∧a56 ⟨bF r zs l s false,n,e⟩ p=⟨NK (bF r zs l s false) p,n,bif eqI p 7 then false else e⟩:=by
    refine aK (t:=a55 ⟨bF r zs l s false,n,e⟩ p) (P:=fun q=>q=⟨NK (bF r zs l s false) p,n,bif eqI p 7 then false else e⟩) ?_
    unfold a55;simp only[aB,aJ,aA,aLZ,TU,YA,YB,i_E,a1,eF,Eb,Ec,aD,bP,wz,Bool.and_true,true_and];cases h7:eqI p 7
    ·exact⟨fun z=>absurd z (by decide),fun _=>rfl⟩
    ·exact⟨fun _=>rfl,fun z=>absurd z (by decide)⟩
   obtain⟨n1,n2⟩:=en;simp only[aB,aJ,aA,M9,YA,YB,i_E,kG,kS,p1,p2,hg,a2,n1,n2,aD,bP,wz,cond_true,cond_false,Bool.and_true,true_and,forall_const,q_1,Bool.false_eq_true,false_implies,and_true]
end Go.Proofs.YtdipcnijfkdnfaaGreatIrqs

namespace Go.Proofs.YtdipcnijfkdnfaaGreatIrqs
open Bool renaming and_true → qt
open Go Go.Zq
set_option maxHeartbeats 4000000
set_option maxRecDepth 100000
def CE(c:aI):Prop:= ∃r zs l s h,c=bF r zs l s h∧Sz r zs l
theorem CE.self{c:aI}(h:CE c):k11 c c=true∧g11 c c=true:=by
 obtain⟨r,zs,l,s,h,rfl,z⟩:=h;obtain⟨a,b⟩:=bGX r r zs zs l l s h s h z;rw[aXX]at b;exact⟨a,b⟩
theorem bI6:CE zC:=⟨⟨[],[],0,0,0,0,false,false⟩,[],[],false,false,rfl,by decide,by decide,by decide,by decide⟩
theorem CG.ce{t:Int}{c:aI}(h:CG t c):CE c:=by
 obtain⟨r,zs,l,s,h,rfl,a,b⟩:=h;exact⟨r,zs,l,s,h,rfl,(Sm.of a b).sz⟩
theorem a9V{r:RM}{zs:List Int}{l:List aE}{s h:Bool}(hr:r.Ok 65535)(hb:BusOk zs l)(hs:(!(s&&h))=true):wY r zs l s h=true:=by
 have h1:=hr.d4;have h2:=hr.a4;have h3:=hb.hz;have h4:=hb.hl;have e1:eqI (r.d.length:Int) 4=true:=by simp;omega
 have e2:eqI (r.a.length:Int) 4=true:=by simp;omega
 have e3:eqI (zs.length:Int) 512=true:=by simp;omega
 have e4:leI (l.length:Int) 400=true:=by simp;omega
 have hm:=hr.mw;rw[show(65535:Int)-65528=7 from rfl]at hm
 unfold wY KG OG;rw[e1,e2,e3,e4,hr.dw,hr.aw,hr.ow,hr.pw,hr.fw,hm,hb.hb,hb.ha,hs];rfl
theorem a9W{r:RM}{zs:List Int}{l:List aE}{s h:Bool}(g:wY r zs l s h=true):(!(s&&h))=true:=by
 unfold wY at g;simp only[Bool.and_eq_true]at g;exact g.2.2
def kX(r:RM)(zs:List Int)(l:List aE)(s h:Bool)(n:Int):Bool:=wY r zs l s h&&cI n 0 7
def zQ:bN:=⟨zC,0,false⟩
theorem ET{r:RM}{zs:List Int}{l:List aE}(s h:Bool)(n:Int)(e:Bool)(m:Sm r zs l):k67 ⟨bF r zs l s h,n,e⟩=true∧g67 ⟨bF r zs l s h,n,e⟩=kX r zs l s h n:=by
 refine aK (t:=T67 ⟨bF r zs l s h,n,e⟩) (P:=fun q=>q=kX r zs l s h n) ?_
 obtain⟨a1,a2⟩:=bG0 s h m;unfold T67 kX;simp only[aB,aA,YA,YB,a1,a2,lS,lT,Bool.true_or,qt,true_and];cases wY r zs l s h<;>rfl
theorem aD3{r:RM}{zs:List Int}{l:List aE}(s h:Bool)(n:Int)(e:Bool)(m:Sm r zs l):a48 ⟨bF r zs l s h,n,e⟩=true∧aW3 ⟨bF r zs l s h,n,e⟩=kX r zs l s h n:=by
 refine aK (t:=a47 ⟨bF r zs l s h,n,e⟩) (P:=fun q=>q=kX r zs l s h n) ?_
 obtain⟨a1,a2⟩:=bG1 s h m;unfold a47 kX;simp only[aB,aA,YA,YB,a1,a2,uL,uM,Bool.true_or,qt,true_and];cases wY r zs l s h<;>rfl
theorem a9X{r:RM}{zs:List Int}{l:List aE}(s h:Bool)(n:Int)(e:Bool)(m:Sm r zs l):bDG ⟨bF r zs l s h,n,e⟩=true∧MC ⟨bF r zs l s h,n,e⟩=⟨bF r zs l s h,n,e⟩:=by
 refine aK (t:=a18 ⟨bF r zs l s h,n,e⟩) (P:=fun q=>q=⟨bF r zs l s h,n,e⟩) ?_
 obtain⟨c1,c2⟩:=bQZ (m.len s h);unfold a18;simp only[aB,aA,R9,YA,YB,i_E,c1,c2,aD,bP,wz,bO,cU,bG,cV,qt,Bool.and_self,true_and]
theorem aNU{r:RM}{zs:List Int}{l:List aE}(s h:Bool)(n:Int)(e:Bool)(m:Sm r zs l):aW4 ⟨bF r zs l s h,n,e⟩=true∧A7 ⟨bF r zs l s h,n,e⟩=⟨bF r zs l s h,n,e⟩:=by
 refine aK (t:=a5K ⟨bF r zs l s h,n,e⟩) (P:=fun q=>q=⟨bF r zs l s h,n,e⟩) ?_
 obtain⟨c1,c2⟩:=aNG (m.len s h);unfold a5K;simp only[aB,aA,YA,YB,i_E,c1,c2,aD,bP,wz,bO,cU,bG,cV,qt,Bool.and_self,true_and]
theorem bRG{r:RM}{zs:List Int}{l:List aE}{s h:Bool}{n:Int}{e:Bool}(hg:kX r zs l s h n=true):CGd (uQ r zs l s h n e).1.Cpu∧(uQ r zs l s h n e).1.Line=n:=by
 unfold kX at hg;rw[Bool.and_eq_true]at hg;obtain⟨o1,o2⟩:=PD hg.1;have g0:CGd (bF r zs l s h):=⟨r,zs,l,s,h,rfl,o1,o2,a9W hg.1⟩;unfold uQ;cases h with
 |true=>exact⟨g0,rfl⟩
 |false=>
  cases hp:kU (i8 (bF r zs l s false) n e) 0
  ·cases s with
   |true=>exact⟨g0,rfl⟩
   |false=>exact⟨aGJ (aD0 o1 o2),rfl⟩
  ·exact⟨(PH o1 o2 (aD2 hg.2 hp)).g,rfl⟩
noncomputable def boO(r:RM)(zs:List Int)(l:List aE)(s h:Bool)(n:Int)(e:Bool):bN×Int×Bool:=bif kX r zs l s h n then((uQ r zs l s h n e).1,(uQ r zs l s h n e).2,true)else(zQ,0,false)
theorem a9Y{r:RM}{zs:List Int}{l:List aE}(s h:Bool)(n:Int)(e:Bool)(m:Sm r zs l):k62 ⟨bF r zs l s h,n,e⟩=true∧O4 ⟨bF r zs l s h,n,e⟩=boO r zs l s h n e:=by
 refine aK (t:=T62 ⟨bF r zs l s h,n,e⟩) (P:=fun q=>q=boO r zs l s h n e) ?_
 obtain⟨a1,a2⟩:=ET s h n e m;obtain⟨c1,c2⟩:=a9X s h n e m;unfold T62 boO;cases hg:kX r zs l s h n
 ·simp only[aB,aJ,aA,aRK,a1,a2,hg,Bool.not_false,qt,true_and,forall_const,Bool.true_eq_false,false_implies,and_true];rfl
 ·have hg':=hg;unfold kX at hg';rw[Bool.and_eq_true]at hg';obtain⟨o1,o2⟩:=PD hg'.1;obtain⟨b1,b2⟩:=b67 (s:=s) (h:=h) (e:=e) o1 o2 hg'.2;simp only[aB,aJ,aA,aRK,a1,a2,hg,c1,c2,b1,b2,Bool.not_true,aD,bP,wz,qt,true_and,forall_const,Bool.false_eq_true,false_implies];rfl
theorem a9Z{r:RM}{zs:List Int}{l:List aE}(s h:Bool)(n:Int)(e:Bool)(m:Sm r zs l):k63 ⟨bF r zs l s h,n,e⟩=true∧g63 ⟨bF r zs l s h,n,e⟩=boO r zs l s h n e:=by
 refine aK (t:=T63 ⟨bF r zs l s h,n,e⟩) (P:=fun q=>q=boO r zs l s h n e) ?_
 obtain⟨a1,a2⟩:=aD3 s h n e m;obtain⟨c1,c2⟩:=aNU s h n e m;unfold T63 boO;cases hg:kX r zs l s h n
 ·simp only[aB,aJ,aA,XR,a1,a2,hg,Bool.not_false,qt,true_and,forall_const,Bool.true_eq_false,false_implies,and_true];rfl
 ·have hg':=hg;unfold kX at hg';rw[Bool.and_eq_true]at hg';obtain⟨o1,o2⟩:=PD hg'.1;obtain⟨b1,b2⟩:=b68 (s:=s) (h:=h) (e:=e) o1 o2 hg'.2;obtain⟨⟨r',zs',l',s',h',e1,e2,e3,-⟩,-⟩:=bRG (e:=e) hg;obtain⟨d1,d2⟩:=aNU s' h' (uQ r zs l s h n e).1.Line (uQ r zs l s h n e).1.Edge (Sm.of e2 e3);rw[←e1]at d1 d2;have d1:aW4 (uQ r zs l s h n e).1=true:=d1;have d2:A7 (uQ r zs l s h n e).1=(uQ r zs l s h n e).1:=d2;simp only[aB,aJ,aA,XR,a1,a2,hg,c1,c2,b1,b2,d1,d2,Bool.not_true,aD,bP,wz,qt,Bool.and_self,Bool.true_or,true_and,forall_const,Bool.false_eq_true,false_implies];rfl
noncomputable def peO(r:RM)(zs:List Int)(l:List aE)(s h:Bool)(n:Int)(e:Bool):Int×Bool:=bif kX r zs l s h n then(i8 (bF r zs l s h) n e,true)else(0,false)
theorem aNV{r:RM}{zs:List Int}{l:List aE}(s h:Bool)(n:Int)(e:Bool)(m:Sm r zs l):k64 ⟨bF r zs l s h,n,e⟩=true∧g64 ⟨bF r zs l s h,n,e⟩=peO r zs l s h n e:=by
 refine aK (t:=T64 ⟨bF r zs l s h,n,e⟩) (P:=fun q=>q=peO r zs l s h n e) ?_
 obtain⟨a1,a2⟩:=ET s h n e m;obtain⟨b1,b2⟩:=bHR (bF r zs l s h) n e;unfold T64 peO;cases hg:kX r zs l s h n<;>simp[a1,a2,hg,b1,b2]
theorem a91{r:RM}{zs:List Int}{l:List aE}(s h:Bool)(n:Int)(e:Bool)(m:Sm r zs l):k65 ⟨bF r zs l s h,n,e⟩=true∧g65 ⟨bF r zs l s h,n,e⟩=peO r zs l s h n e:=by
 refine aK (t:=T65 ⟨bF r zs l s h,n,e⟩) (P:=fun q=>q=peO r zs l s h n e) ?_
 obtain⟨a1,a2⟩:=aD3 s h n e m;obtain⟨b1,b2⟩:=bI5 (bF r zs l s h) n e;unfold T65 peO;cases hg:kX r zs l s h n<;>simp[a1,a2,hg,b1,b2]
def slE(n v:Int)(e:Bool):Bool:=bif e then true else bif eqI v 7 then dC n 7 else false
noncomputable def slO(r:RM)(zs:List Int)(l:List aE)(s h:Bool)(n:Int)(e:Bool)(v:Int):bN×Bool:=bif kX r zs l s h n&&cI v 0 7 then(⟨bF r zs l s h,v,slE n v e⟩,true)else(zQ,false)
theorem bRH{r:RM}{zs:List Int}{l:List aE}(s h:Bool)(n:Int)(e:Bool)(v:Int)(m:Sm r zs l):k69 ⟨bF r zs l s h,n,e⟩ v=true∧g69 ⟨bF r zs l s h,n,e⟩ v=slO r zs l s h n e v:=by
 refine aK (t:=T69 ⟨bF r zs l s h,n,e⟩ v) (P:=fun q=>q=slO r zs l s h n e v) ?_
 obtain⟨a1,a2⟩:=ET s h n e m;obtain⟨c1,c2⟩:=a9X s h n e m;have b:bPY v ⟨bF r zs l s h,n,e⟩=true∧a7Y v ⟨bF r zs l s h,n,e⟩=⟨bF r zs l s h,v,slE n v e⟩:=by
  refine aK (t:=a7X v ⟨bF r zs l s h,n,e⟩) (P:=fun q=>q=⟨bF r zs l s h,v,slE n v e⟩) ?_
  unfold a7X;simp only[aB,aA,YA,YB,i_E,aD,bP,wz,Bool.and_self,qt,true_and];rfl
 obtain⟨b1,b2⟩:=b;unfold T69 slO;cases hg:kX r zs l s h n<;>cases hv:cI v 0 7<;>(simp only[aB,aJ,aA,a70,a1,a2,hg,hv,c1,c2,b1,b2,lS,lT,cond_true,cond_false,Bool.not_true,Bool.not_false,aD,bP,wz,qt,Bool.and_false,Bool.false_and,Bool.true_or,Bool.or_true,Bool.and_self,true_and,forall_const,Bool.false_eq_true,Bool.true_eq_false,false_implies,and_true]<;>rfl)
theorem bRI{r:RM}{zs:List Int}{l:List aE}(s h:Bool)(n:Int)(e:Bool)(v:Int)(m:Sm r zs l):k70 ⟨bF r zs l s h,n,e⟩ v=true∧g70 ⟨bF r zs l s h,n,e⟩ v=slO r zs l s h n e v:=by
 refine aK (t:=T70 ⟨bF r zs l s h,n,e⟩ v) (P:=fun q=>q=slO r zs l s h n e v) ?_
 obtain⟨a1,a2⟩:=aD3 s h n e m;obtain⟨c1,c2⟩:=aNU s h n e m;have b:bP1 ⟨bF r zs l s h,n,e⟩ v=true∧a73 ⟨bF r zs l s h,n,e⟩ v=⟨bF r zs l s h,v,slE n v e⟩:=by
  refine aK (t:=a72 ⟨bF r zs l s h,n,e⟩ v) (P:=fun q=>q=⟨bF r zs l s h,v,slE n v e⟩) ?_
  unfold a72 slE;simp only[aB,aJ,aA,aM6,YA,YB,i_E,aD,bP,wz,Bool.and_self,qt,true_and];cases bif eqI v 7 then dC n 7 else false
  ·exact⟨fun z=>absurd z (by decide),fun _=>by cases e<;>rfl⟩
  ·exact⟨fun _=>by cases e<;>rfl,fun z=>absurd z (by decide)⟩
 obtain⟨b1,b2⟩:=b;unfold T70 slO;cases hg:kX r zs l s h n<;>cases hv:cI v 0 7<;>(simp only[aB,aJ,aA,a74,a1,a2,hg,hv,c1,c2,b1,b2,uL,uM,cond_true,cond_false,Bool.not_true,Bool.not_false,aD,bP,wz,qt,Bool.and_false,Bool.false_and,Bool.true_or,Bool.or_true,Bool.and_self,true_and,forall_const,Bool.false_eq_true,Bool.true_eq_false,false_implies,and_true]<;>rfl)
theorem bI9{c:aM}{B:Int}(h:CO B c)(hB:B<10000000000000000):bCD c=true∧(CO (B+60000) (aVX c).1∧CG 65536 (aVX c).2.Cpu):=by
 refine aK (t:=a1C c) (P:=fun q=>CO (B+60000) q.1∧CG 65536 q.2.Cpu) ?_
 obtain⟨a1,a2,a3⟩:=b6H h (by omega)
 obtain⟨b1,b2,-⟩:=O7 (r:=[(bB 0),(bB 0),(bB 2),(bB 5),(bB 7)]) ⟨[0,0,2,5,7],rfl⟩ (by decide) a2 (by omega)
 obtain⟨c1,c2⟩:=DR 6 b2 (by omega)
 obtain⟨d1,d2⟩:=DR 40 c2 (by omega)
 obtain⟨e1,e2,-⟩:=O7 (r:=[(bB (-1)),(bB 8)]) ⟨[-1,8],rfl⟩ (by decide) d2 (by omega)
 unfold a1C;simp only[aB,aJ,aA,aJB,aJA,R1,HG,a1,b1,c1,d1,e1,aD,bP,wz,bO,cU,bG,cV,qt,true_and];exact⟨fun _=>⟨e2.mono (by omega),a3⟩,fun _=>⟨d2.mono (by omega),a3⟩⟩
theorem a92{x:List Row}(h:bytesOk x=true):k61 x=true∧CG 65536 (rK x).Cpu:=by
 refine aK (t:=T61 x) (P:=fun q=>CG 65536 q.Cpu) ?_
 obtain⟨a1,-,a3⟩:=bI9 (b6B h) (by decide)
 have b:bKO x=true∧CG 65536 (aVY x).Cpu:=by
  refine aK (t:=a1D x) (P:=fun q=>CG 65536 q.Cpu) ?_
  unfold a1D;simp only[aB,aA,aJC,a1,aD,bP,wz,bO,cU,bG,cV,qt,true_and];exact a3
 unfold T61;simp only[aB,aA,b.1,aD,bP,wz,Bool.and_self,qt,true_and];exact b.2
theorem b69{x:List Row}(h:bytesOk x=true):k68 x=true∧CG 65536 (BY x).1.Cpu:=by
 refine aK (t:=T68 x) (P:=fun q=>CG 65536 q.1.Cpu) ?_
 obtain⟨a1,a2,a3⟩:=bI9 (b6B h) (by decide)
 obtain⟨b1,-⟩:=eN 10 a2 (by decide)
 unfold T68;simp only[aB,aA,UE,a1,b1,aD,bP,wz,bO,cU,bG,cV,qt,true_and];exact a3
end Go.Proofs.YtdipcnijfkdnfaaGreatIrqs

namespace Go.Proofs.YtdipcnijfkdnfaaGreatIrqs
open Go Go.Zq
set_option maxHeartbeats 4000000
set_option maxRecDepth 100000
theorem whv{tr:Bool}{q:aI×aL}(h:SP q):0≤(mD tr q).2∧(mD tr q).2≤21:=by
 have hV:0≤q.2.Vector∧q.2.Vector≤21:=by
  cases hv:eqI q.2.Vector 0
  ·have:=(VC (h.g hv)).1;omega
  ·have:=dS.1 hv;omega
 unfold mD;cases trB tr (ES q) q.2.Vector
 ·exact hV
 ·rw[cond_true];cases eqI q.2.Vector 0
  ·exact hV
  ·exact⟨show(0:Int)≤9 by decide,show(9:Int)≤21 by decide⟩
theorem aX8{c:aI}{n:Int}{e:Bool}(hn:cI n 0 7=true)(hp:kU (i8 c n e) 0=true):i8 (NK c (i8 c n e)) n (bif eqI (i8 c n e) 7 then false else e)=0∧(bif ltI (i8 c n e) 7 then leI (i8 c n e) c.R.Mask else false)=false:=by
 have hn':=aR.1 hn;cases e with
 |false=>
  cases hm:kU n c.R.Mask
  ·have e0:i8 c n false=0:=by unfold i8;rw[hm];rfl
   rw[e0]at hp;exact absurd hp (by decide)
  ·have e1:i8 c n false=n:=by unfold i8;rw[hm];rfl
   rw[e1];have hm':=rB.1 hm;refine⟨?_,?_⟩
   ·unfold i8;rw[show(bif eqI n 7 then false else false)=false from by cases eqI n 7<;>rfl,show(NK c n).R.Mask=n from rfl,show kU n n=false from FS.2 (by omega)];rfl
   ·rw[show leI n c.R.Mask=false from aFU.2 (by omega)]
    cases ltI n 7<;>rfl
 |true=>
  refine⟨?_,rfl⟩;show(bif kU n 7 then n else 0)=0
  rw[show kU n 7=false from FS.2 (by omega)];rfl
theorem gdI{c:aI}{n:Int}(e:Bool)(h:CGd c)(hn:cI n 0 7=true):CE c∧(k67 ⟨c,n,e⟩=true∧g67 ⟨c,n,e⟩=true)∧(k64 ⟨c,n,e⟩=true∧g64 ⟨c,n,e⟩=(i8 c n e,true)):=by
 obtain⟨r,zs,l,s,hh,rfl,hr,hb,hs⟩:=h;have m:=Sm.of hr hb;obtain⟨a,b⟩:=ET s hh n e m;obtain⟨a',b'⟩:=aNV s hh n e m;have hg:kX r zs l s hh n=true:=by unfold kX;rw[a9V hr hb hs,hn];rfl
 rw[hg]at b;refine⟨⟨_,_,_,_,_,rfl,m.sz⟩,⟨a,b⟩,a',?_⟩;rw[b'];unfold peO;rw[hg];rfl
theorem YC{c:aI}(n:Int)(e:Bool)(h:CE c):k66 ⟨c,n,e⟩ ⟨c,n,e⟩=true∧g66 ⟨c,n,e⟩ ⟨c,n,e⟩=true:=by
 refine aK (t:=T66 ⟨c,n,e⟩ ⟨c,n,e⟩) (P:=fun q=>q=true) ?_
 obtain⟨a,b⟩:=h.self;unfold T66;simp[a7U,a,b]
structure TailQ(x:List Row)(u:bN)(b:Bool):Prop where
 ta:k68 x=true
 tb:k69 (BY x).1 (BY x).2=true
 tc:k70 (BY x).1 (BY x).2=true
 td:g69 (BY x).1 (BY x).2=(u,b)
 te:g70 (BY x).1 (BY x).2=(u,b)
 tf:k66 u u=true
 tg:g66 u u=true
 th:(bif !b then true else bif eqI u.Line (BY x).2 then vG u.Edge (bif (BY x).1.Edge then true else bif eqI (BY x).2 7 then dC (BY x).1.Line 7 else false)else false)=true
theorem bJA{x:List Row}(hx:bytesOk x=true): ∃u b,TailQ x u b:=by
 obtain⟨a1,a2⟩:=b69 hx;obtain⟨r,zs,l,s,t,e,hr,hb⟩:=a2;generalize hv:(BY x).2=v;generalize hq:(BY x).1=q at e;obtain⟨c,n,ed⟩:=q;have e:c=bF r zs l s t:=e;subst e;have sm:=Sm.of hr hb;obtain⟨i1,i2⟩:=bRH s t n ed v sm;obtain⟨j1,j2⟩:=bRI s t n ed v sm;have ce:CE (bF r zs l s t):=⟨_,_,_,_,_,rfl,sm.sz⟩;have key: ∃u b,slO r zs l s t n ed v=(u,b)∧(k66 u u=true∧g66 u u=true)∧(bif !b then true else bif eqI u.Line v then vG u.Edge (bif ed then true else bif eqI v 7 then dC n 7 else false)else false)=true:=by
  unfold slO;cases kX r zs l s t n&&cI v 0 7
  ·exact⟨zQ,false,rfl,YC 0 false bI6,rfl⟩
  ·refine⟨_,true,rfl,YC _ _ ce,?_⟩;show(bif eqI v v then vG (slE n v ed) (slE n v ed)else false)=true
   rw[show eqI v v=true from by simp]
   simp
 obtain⟨u,b,k1,⟨k2,k3⟩,k4⟩:=key;rw[k1]at i2 j2;refine⟨u,b,a1,?_,?_,?_,?_,k2,k3,?_⟩<;>rw[hq,hv]<;>assumption
theorem okF(x0 x1:List Row)(h0:bytesOk x0=true)(h1:bytesOk x1=true)(r:RM)(zs:List Int)(l:List aE)(s h:Bool)(n:Int)(e:Bool)(ev:rK x0=⟨bF r zs l s h,n,e⟩)(sm:Sm r zs l)(hok:kX r zs l s h n=false):(T7 x0 x1).Sat (fun q=>q=true):=by
 obtain⟨u,b,t⟩:=bJA h1;obtain⟨d1,-⟩:=a92 h0;obtain⟨e1,e2⟩:=a9Y s h n e sm;obtain⟨e3,e4⟩:=a9Z s h n e sm;obtain⟨f1,f2⟩:=aNV s h n e sm;obtain⟨f3,f4⟩:=a91 s h n e sm;obtain⟨g1,g2⟩:=ET s h n e sm;have eI: ∀x,eqI x x=true:=fun x=>by simp
 have nI: ∀x,dC x x=false:=fun x=>by simp
 have eB: ∀x,vG x x=true:=fun x=>by simp
 have hE:boO r zs l s h n e=(zQ,0,false):=by unfold boO;rw[hok];rfl
 have hP:peO r zs l s h n e=(0,false):=by unfold peO;rw[hok];rfl
 rw[hE]at e2 e4;rw[hP]at f2 f4;rw[hok]at g2;obtain⟨z1,z2⟩:=YC 0 false bI6;have z1:k66 zQ zQ=true:=z1;have z2:g66 zQ zQ=true:=z2;unfold T7;simp only[aB,aJ,aA,aFT,aFS,aFR,aDA,OY,aXH,aM9,aM8,aM7,ev,d1,e1,e2,e3,e4,f1,f2,f3,f4,g1,g2,z1,z2,YA,YB,i_E,kR,kS,kG,bL,t.ta,t.tb,t.tc,t.td,t.te,t.tf,t.tg,t.th,eI,nI,eB,cond_true,cond_false,Bool.not_true,Bool.not_false,Bool.and_true,Bool.true_and,Bool.true_or,Bool.or_true,Bool.or_false,true_and,and_true,implies_true,Bool.false_eq_true,Bool.true_eq_false,false_implies,forall_const]
theorem okT(x0 x1:List Row)(h0:bytesOk x0=true)(h1:bytesOk x1=true)(r:RM)(zs:List Int)(l:List aE)(s h:Bool)(n:Int)(e:Bool)(ev:rK x0=⟨bF r zs l s h,n,e⟩)(hr:r.Ok 65535)(hb:BusOk zs l)(hok:kX r zs l s h n=true):(T7 x0 x1).Sat (fun q=>q=true):=by
 obtain⟨u,b,t⟩:=bJA h1;have sm:=Sm.of hr hb;obtain⟨d1,-⟩:=a92 h0;obtain⟨e1,e2⟩:=a9Y s h n e sm;obtain⟨e3,e4⟩:=a9Z s h n e sm;obtain⟨f1,f2⟩:=aNV s h n e sm;obtain⟨f3,f4⟩:=a91 s h n e sm;obtain⟨g1,g2⟩:=ET s h n e sm;have eI: ∀x,eqI x x=true:=fun x=>by simp
 have nI: ∀x,dC x x=false:=fun x=>by simp
 have eB: ∀x,vG x x=true:=fun x=>by simp
 have hE:boO r zs l s h n e=((uQ r zs l s h n e).1,(uQ r zs l s h n e).2,true):=by unfold boO;rw[hok];rfl
 have hP:peO r zs l s h n e=(i8 (bF r zs l s h) n e,true):=by unfold peO;rw[hok];rfl
 rw[hE]at e2 e4;rw[hP]at f2 f4;rw[hok]at g2;have hq:=hok;unfold kX at hq;rw[Bool.and_eq_true]at hq;have hn:=hq.2;have ce:CE (bF r zs l s h):=⟨_,_,_,_,_,rfl,sm.sz⟩;obtain⟨z1,z2⟩:=YC n e ce;have m1:geI (-1) 100=false:=rfl;cases h with
 |true=>
  have hB:uQ r zs l s true n e=(⟨bF r zs l s true,n,e⟩,-1):=rfl;rw[hB]at e2 e4;have w1:(bif kU (i8 (bF r zs l s true) n e) 0 then false else false)=false:=by cases kU (i8 (bF r zs l s true) n e) 0<;>rfl
  have w2:(bif !s then false else false)=false:=by cases s<;>rfl
  unfold T7;simp only[aB,aJ,aA,aFT,aFS,aFR,aDA,OY,aXH,aM9,aM8,aM7,ev,d1,e1,e2,e3,e4,f1,f2,f3,f4,g1,g2,z1,z2,m1,w1,w2,YA,YB,i_E,kR,kS,kG,bL,t.ta,t.tb,t.tc,t.td,t.te,t.tf,t.tg,t.th,eI,nI,eB,cond_true,cond_false,Bool.not_true,Bool.not_false,Bool.and_true,Bool.true_and,Bool.true_or,Bool.or_true,Bool.or_false,true_and,and_true,implies_true,Bool.false_eq_true,Bool.true_eq_false,false_implies,forall_const]
 |false=>
  have hp:=aD2 (c:=bF r zs l s false) (e:=e) hn;have pa:=aX8 (c:=bF r zs l s false) (e:=e) hn;cases hg:kU (i8 (bF r zs l s false) n e) 0
  ·cases s with
   |true=>
    have hB:uQ r zs l true false n e=(⟨bF r zs l true false,n,e⟩,-1):=by unfold uQ;rw[hg];rfl
    rw[hB]at e2 e4;generalize i8 (bF r zs l true false) n e=p at*;unfold T7;simp only[aB,aJ,aA,aFT,aFS,aFR,aDA,OY,aXH,aM9,aM8,aM7,ev,d1,e1,e2,e3,e4,f1,f2,f3,f4,g1,g2,z1,z2,m1,hg,YA,YB,i_E,kR,kS,kG,bL,t.ta,t.tb,t.tc,t.td,t.te,t.tf,t.tg,t.th,eI,nI,eB,cond_true,cond_false,Bool.not_true,Bool.not_false,Bool.and_true,Bool.true_and,Bool.true_or,Bool.or_true,Bool.or_false,true_and,and_true,implies_true,Bool.false_eq_true,Bool.true_eq_false,false_implies,forall_const]
   |false=>
    have hB:uQ r zs l false false n e=(⟨(mD r.tr (IF r zs l false)).1,n,e⟩,(mD r.tr (IF r zs l false)).2):=by unfold uQ;rw[hg];rfl
    rw[hB]at e2 e4;have sp:=aD0 (s:=false) hr hb;have v:=whv (tr:=r.tr) sp;obtain⟨ce2,⟨q1,q2⟩,-⟩:=gdI e (aGJ (tr:=r.tr) sp) hn;obtain⟨y1,y2⟩:=YC n e ce2;generalize mD r.tr (IF r zs l false)=W at*;obtain⟨x,w⟩:=W;dsimp only at e2 e4 v q1 q2 y1 y2;have v1:geI w 100=false:=aFV.2 (by omega)
    have v2:eqI w (-1)=false:=gT.2 (by omega)
    generalize i8 (bF r zs l false false) n e=p at*;unfold T7;simp only[aB,aJ,aA,aFT,aFS,aFR,aDA,OY,aXH,aM9,aM8,aM7,ev,d1,e1,e2,e3,e4,f1,f2,f3,f4,g1,g2,y1,y2,q1,q2,v1,v2,hg,YA,YB,i_E,kR,kS,kG,bL,t.ta,t.tb,t.tc,t.td,t.te,t.tf,t.tg,t.th,eI,nI,eB,cond_true,cond_false,Bool.not_true,Bool.not_false,Bool.and_true,Bool.true_and,Bool.true_or,Bool.or_true,Bool.or_false,true_and,and_true,implies_true,Bool.false_eq_true,Bool.true_eq_false,false_implies,forall_const]
  ·have hB:uQ r zs l s false n e=(⟨NK (bF r zs l s false) (i8 (bF r zs l s false) n e),n,bif eqI (i8 (bF r zs l s false) n e) 7 then false else e⟩,100+i8 (bF r zs l s false) n e):=by unfold uQ;rw[hg];rfl
   rw[hB]at e2 e4;obtain⟨pa1,pa2⟩:=pa hg;have E:=PH (s:=s) hr hb (hp hg);obtain⟨ce2,⟨q1,q2⟩,q3,q4⟩:=gdI (bif eqI (i8 (bF r zs l s false) n e) 7 then false else e) E.g hn
   obtain⟨y1,y2⟩:=YC n (bif eqI (i8 (bF r zs l s false) n e) 7 then false else e) ce2
   have hM:(NK (bF r zs l s false) (i8 (bF r zs l s false) n e)).R.Mask=i8 (bF r zs l s false) n e:=rfl;have hS:=E.s;have hp':=aR.1 (hp hg);rw[pa1]at q4;have hK:(bF r zs l s false).R.Mask=r.mask:=rfl;rw[hK]at pa2;generalize i8 (bF r zs l s false) n e=p at*;generalize NK (bF r zs l s false) p=x at*;generalize (bif eqI p 7 then false else e)=e' at*
   have a2:bE 100 p=100+p:=bV (by omega)
   have v1:geI (100+p) 100=true:=J5.2 (by omega)
   have v2:eqI (100+p) (-1)=false:=gT.2 (by omega)
   unfold T7;simp only[aB,aJ,aA,aFT,aFS,aFR,aDA,OY,aXH,aM9,aM8,aM7,ev,d1,e1,e2,e3,e4,f1,f2,f3,f4,g1,g2,y1,y2,q1,q2,q3,q4,v1,v2,a2,hM,hS,pa2,hg,YA,YB,i_E,kR,kS,kG,bL,t.ta,t.tb,t.tc,t.td,t.te,t.tf,t.tg,t.th,eI,nI,eB,cond_true,cond_false,Bool.not_true,Bool.not_false,Bool.and_true,Bool.true_and,Bool.true_or,Bool.or_true,Bool.or_false,true_and,and_true,implies_true,Bool.false_eq_true,Bool.true_eq_false,false_implies,forall_const]
theorem okL(x0 x1:List Row)(h0:bytesOk x0=true)(h1:bytesOk x1=true):k7 x0 x1=true∧g7 x0 x1=true:=by
 refine aK (t:=T7 x0 x1) (P:=fun q=>q=true) ?_
 obtain⟨d1,r,zs,l,s,h,e,hr,hb⟩:=a92 h0;have ev:rK x0=⟨bF r zs l s h,(rK x0).Line,(rK x0).Edge⟩:=by rw[←e]
 have sm:=Sm.of hr hb;cases hok:kX r zs l s h (rK x0).Line
 ·exact okF x0 x1 h0 h1 r zs l s h _ _ ev sm hok
 ·have hq:=hok;unfold kX at hq;rw[Bool.and_eq_true]at hq;obtain⟨r1,b1⟩:=PD hq.1;exact okT x0 x1 h0 h1 r zs l s h _ _ ev r1 b1 hok
end Go.Proofs.YtdipcnijfkdnfaaGreatIrqs
