import Derived.Test.YtdicpjkdpliofaaGreatZqBoundariesQ
import Derived.Test.YtdicpjkdpliofaaGreatZmc
import Derived.Test.YtdicpjkdpliofaaGreatZme
set_option linter.unusedVariables false
set_option linter.unusedSimpArgs false
namespace Go.Proofs.YtdicpjkdpliofaaGreatBoundaries
open Go Go.Zq
set_option maxHeartbeats 4000000
set_option maxRecDepth 100000
def mkM(m:MM)(k:Int):MM:={m with r:={m.r with mask:=k}}
def aXQ(c:aD)(k:Int):aD:={c with R:={c.R with Mask:=k}}
theorem bDE(m:MM)(k a b c d:Int):cM (mkM m k) a b c d=(mkM (cM m a b c d).1 k,(cM m a b c d).2):=by
 unfold cM mkM;dsimp only
theorem P1(m:MM)(k:Int):bY (mkM m k)=bY m:=rfl
theorem bLR(m:MM)(k v:Int):dV (mkM m k) v=mkM (dV m v) k:=by
 unfold dV;rw[show(mkM m k).r.a=m.r.a from rfl,bDE]
 generalize cM m 2 2 ((cP m.r.a 3-2)%65536) v=q;obtain⟨Q,x⟩:=q;dsimp only;rw[P1];cases bY Q<;>rfl
theorem bM1(m:MM)(F:List Int)(k:Int): ∀i,pk (mkM m k) F i=mkM (pk m F i) k
 |0=>rfl
 |i+1=>by
  show(bif bY (pk (mkM m k) F i)then dV (pk (mkM m k) F i) (F.getD i 0)else pk (mkM m k) F i)=mkM (bif bY (pk m F i)then dV (pk m F i) (F.getD i 0)else pk m F i) k
  rw[bM1 m F k i,bLR,P1];cases bY (pk m F i)<;>rfl
theorem bLS(P Q:MM)(x k:Int):aPW (mkM P k) (mkM Q k,x)=aXQ (aPW P (Q,x)) k:=by
 unfold aPW;dsimp only;rw[P1];cases bY Q<;>rfl
theorem bVU(m:MM)(F:List Int)(vec k:Int):LM (mkM m k) F vec=aXQ (LM m F vec) k:=by
 unfold LM aPX;rw[bM1];generalize pk m F F.length=p;rw[P1,bDE,bLS];cases bY p<;>rfl
theorem bLT{r:RM}{k:Int}(h:r.Ok 65535)(hk:cA k 0 7=true):dH r (r.fl+32*k+256)={dH r (vE r)with mask:=k}:=by
 have f:=aM.1 h.fw;have m:=aM.1 h.mw;have k':=aM.1 hk;have e1:vE r%32=r.fl:=by unfold vE;omega
 have e3:eqI (vE r/256%2) 1=true:=by rw[dL];unfold vE;omega
 have e4:eqI (vE r/512%2) 1=false:=by rw[hJ];unfold vE;omega
 have d1:(r.fl+32*k+256)%32=r.fl:=by omega
 have d2:(r.fl+32*k+256)/32%8=k:=by omega
 have d3:eqI ((r.fl+32*k+256)/256%2) 1=true:=by rw[dL];omega
 have d4:eqI ((r.fl+32*k+256)/512%2) 1=false:=by rw[hJ];omega
 unfold dH;rw[e1,e3,e4,d1,d2,d3,d4];cases r.sup<;>rfl
def iF(c:aD)(p:Int):aH:=⟨10+p,c.R.PC,0,0,false⟩
theorem bLU{r:RM}{zs:List Int}{l:List aA}{s h:Bool}{p:Int}(hr:r.Ok 65535)(hp:cA p 1 7=true):nH (iF (bB r zs l s h) p)=true:=by
 have hp':=aM.1 hp;unfold nH;rw[show cA (iF (bB r zs l s h) p).PC 0 65535=true from hr.pw,show cA (iF (bB r zs l s h) p).Vector 2 21=true from aM.2 (by show 2≤10+p∧10+p≤21;omega),show cA (iF (bB r zs l s h) p).Addr 0 65535=true from rfl,show cA (iF (bB r zs l s h) p).Word 0 65535=true from rfl,show eqI (iF (bB r zs l s h) p).Addr 0=true from rfl]
 cases AJ (iF (bB r zs l s h) p)<;>rfl
noncomputable def aIE(c:aD)(p:Int):aD:=aXQ (V8 c (iF c p)) p
structure EntI(o:aD)(p:Int):Prop where
 a:aCG (iF o p) o=true
 b:WW o (iF o p) p=true
 c:WV o (iF o p) p=aIE o p
 g:CGd (aIE o p)
 s:(aIE o p).Stop=false
theorem aFK{r:RM}{zs:List Int}{l:List aA}{s:Bool}{p:Int}(hr:r.Ok 65535)(hb:BusOk zs l)(hp:cA p 1 7=true):EntI (bB r zs l s false) p:=by
 have gf:=bLU (zs:=zs) (l:=l) (s:=s) (h:=false) hr hp;have hp7:cA p 0 7=true:=aM.2 (by have:=aM.1 hp;omega)
 obtain⟨a1,a2⟩:=aXH (s:=s) hr hb gf;obtain⟨b1,b2⟩:=aXI (s:=s) (h:=false) hr hb gf hp7;obtain⟨r',zs',l',h',e,o1,o2,-⟩:=bDB hr hb gf;have e1:V8 (bB r zs l s false) (iF (bB r zs l s false) p)=bB r' zs' l' false h':=a2.trans e;have e2:aIE (bB r zs l s false) p=bB {r' with mask:=p} zs' l' false h':=by
  unfold aIE;rw[e1];rfl
 refine⟨a1,b1,?_,?_,?_⟩
 ·rw[b2,bLT hr hp7];show LM (mkM (mm (dH r (vE r)) zs l false) p) _ _=_
  rw[bVU];show _=aXQ (aCF _ _) p
  rw[a2]
 ·rw[e2];exact⟨_,_,_,_,_,rfl,{o1 with mw:=hp7},o2,rfl⟩
 ·rw[e2];rfl
end Go.Proofs.YtdicpjkdpliofaaGreatBoundaries

namespace Go.Proofs.YtdicpjkdpliofaaGreatBoundaries
open Go Go.Zq
set_option maxHeartbeats 4000000
set_option maxRecDepth 100000
def GI(c:aD)(line:Int)(e:Bool):Int:=bif e then 7 else bif kV line c.R.Mask then line else 0
theorem b11(c:aD)(n:Int)(e:Bool):bOY ⟨c,n,e⟩=true∧WQ ⟨c,n,e⟩=GI c n e:=by
 refine aF (t:=a5J ⟨c,n,e⟩) (P:=fun q=>q=GI c n e) ?_
 unfold a5J GI;cases e<;>cases h:kV n c.R.Mask<;>simp[aBU,wz,mG,pH,pI,h]
theorem b12(c:aD)(n:Int)(e:Bool):bRR ⟨c,n,e⟩=true∧aG2 ⟨c,n,e⟩=GI c n e:=by
 refine aF (t:=a8V ⟨c,n,e⟩) (P:=fun q=>q=GI c n e) ?_
 unfold a8V GI;cases e<;>cases h:kV n c.R.Mask<;>simp[wz,mG,pH,pI,h]
theorem aP3{c:aD}{n:Int}{e:Bool}(hn:cA n 0 7=true)(h:kV (GI c n e) 0=true):cA (GI c n e) 1 7=true:=by
 have h1:=aM.1 hn;have h2:=nG.1 h
 revert h2
 unfold GI;cases e
 ·cases kV n c.R.Mask
  ·intro h2;exact absurd (show(0:Int)<0 from h2) (by decide)
  ·intro h2;exact aM.2 ⟨by have:0<n:=h2;show 1≤n;omega,h1.2⟩
 ·intro _;rfl
noncomputable def XA(r:RM)(zs:List Int)(l:List aA)(s h:Bool)(n:Int)(e:Bool):bA×Int:=
 bif h then(⟨bB r zs l s h,n,e⟩,-1)
 else bif kV (GI (bB r zs l s h) n e) 0 then(⟨aIE (bB r zs l s h) (GI (bB r zs l s h) n e),n,bif eqI (GI (bB r zs l s h) n e) 7 then false else e⟩,100+GI (bB r zs l s h) n e)
 else bif s then(⟨bB r zs l s h,n,e⟩,-1)
 else(⟨(uY r.tr (PM r zs l s)).1,n,e⟩,(uY r.tr (PM r zs l s)).2)
theorem i_C(c:aD)(n:Int)(e:Bool):(bA.mk c n e).Cpu=c:=rfl
theorem i_L(c:aD)(n:Int)(e:Bool):(bA.mk c n e).Line=n:=rfl
theorem i_E(c:aD)(n:Int)(e:Bool):(bA.mk c n e).Edge=e:=rfl
theorem b13{r:RM}{zs:List Int}{l:List aA}{s h:Bool}{n:Int}{e:Bool}(hr:r.Ok 65535)(hb:BusOk zs l)(hn:cA n 0 7=true):a73 ⟨bB r zs l s h,n,e⟩=true∧NL ⟨bB r zs l s h,n,e⟩=XA r zs l s h n e:=by
 refine aF (t:=a72 ⟨bB r zs l s h,n,e⟩) (P:=fun q=>q=XA r zs l s h n e) ?_
 obtain⟨p1,p2⟩:=b11 (bB r zs l s h) n e;have hp:=aP3 (c:=bB r zs l s h) (e:=e) hn;unfold a72 XA;cases h with
 |true=>simp only[bG,NK,yU,NJ,i_C,i_L,i_E,kW,bX,wz,bZ]
 |false=>
  generalize hq:GI (bB r zs l s false) n e=p at*;cases hg:kV p 0
  ·cases s with
   |true=>simp only[bG,NK,yU,NJ,i_C,i_L,i_E,kW,lX,p1,p2,hg,bW4,bX,wz,bZ]
   |false=>
    obtain⟨w1,w2⟩:=bVS (s:=false) hr hb;simp only[bG,NK,yU,NJ,i_C,i_L,i_E,kW,lX,p1,p2,hg,w1,w2,bX,wz,bZ]
  ·have E:=aFK (s:=s) hr hb (hp hg);have hp':=aM.1 (hp hg);have a1:aV 10 p=10+p:=bJ (by omega)
   have a2:aV 100 p=100+p:=bJ (by omega)
   have eF:(aH.mk (10+p) (bB r zs l s false).R.PC 0 0 false)=iF (bB r zs l s false) p:=rfl;have Ea:=E.a;simp only[bG,NK,yU,NJ,i_C,i_L,i_E,kW,lX,p1,p2,hg,a1,a2,eF,Ea,bX,wz,bZ];cases h7:eqI p 7
   ·exact⟨fun z=>absurd z (by decide),fun _=>rfl⟩
   ·exact⟨fun _=>rfl,fun z=>absurd z (by decide)⟩
theorem b14{r:RM}{zs:List Int}{l:List aA}{s h:Bool}{n:Int}{e:Bool}(hr:r.Ok 65535)(hb:BusOk zs l)(hn:cA n 0 7=true):bAT ⟨bB r zs l s h,n,e⟩=true∧NZ ⟨bB r zs l s h,n,e⟩=XA r zs l s h n e:=by
 refine aF (t:=bAS ⟨bB r zs l s h,n,e⟩) (P:=fun q=>q=XA r zs l s h n e) ?_
 obtain⟨p1,p2⟩:=b12 (bB r zs l s h) n e;have hp:=aP3 (c:=bB r zs l s h) (e:=e) hn;unfold bAS XA;cases h with
 |true=>simp only[bG,NY,i_C,i_L,i_E,kW,bX,wz,bZ]
 |false=>
  generalize hq:GI (bB r zs l s false) n e=p at*;cases hg:kV p 0
  ·cases s with
   |true=>simp only[bG,NY,i_C,i_L,i_E,kW,lX,p1,p2,hg,bX,wz,bZ]
   |false=>
    obtain⟨w1,w2⟩:=bVT (s:=false) hr hb;simp only[bG,NY,i_C,i_L,i_E,kW,lX,p1,p2,hg,w1,w2,bX,wz,bZ]
  ·have E:=aFK (s:=s) hr hb (hp hg);have hp':=aM.1 (hp hg);have a1:aV 10 p=10+p:=bJ (by omega)
   have a2:aV 100 p=100+p:=bJ (by omega)
   have eF:(aH.mk (10+p) (bB r zs l s false).R.PC 0 0 false)=iF (bB r zs l s false) p:=rfl;have Eb:=E.b;have Ec:=E.c;have en:bSA ⟨bB r zs l s false,n,e⟩ p=true∧a9G ⟨bB r zs l s false,n,e⟩ p=⟨aIE (bB r zs l s false) p,n,bif eqI p 7 then false else e⟩:=by
    refine aF (t:=a9F ⟨bB r zs l s false,n,e⟩ p) (P:=fun q=>q=⟨aIE (bB r zs l s false) p,n,bif eqI p 7 then false else e⟩) ?_
    unfold a9F;simp only[bG,aN1,UW,i_C,i_L,i_E,a1,eF,Eb,Ec,dW,wz];cases h7:eqI p 7
    ·exact⟨fun z=>absurd z (by decide),fun _=>rfl⟩
    ·exact⟨fun _=>rfl,fun z=>absurd z (by decide)⟩
   obtain⟨n1,n2⟩:=en;simp only[bG,NY,i_C,i_L,i_E,kW,lX,p1,p2,hg,a2,n1,n2,bX,wz,bZ]
end Go.Proofs.YtdicpjkdpliofaaGreatBoundaries

namespace Go.Proofs.YtdicpjkdpliofaaGreatBoundaries
open Go Go.Zq
set_option maxHeartbeats 4000000
set_option maxRecDepth 100000
def CE(c:aD):Prop:= ∃r zs l s h,c=bB r zs l s h∧Sz r zs l
theorem CE.self{c:aD}(h:CE c):k23 c c=true∧g23 c c=true:=by
 obtain⟨r,zs,l,s,h,rfl,z⟩:=h;obtain⟨a,b⟩:=bK3 r r zs zs l l s h s h z;rw[a0Q]at b;exact⟨a,b⟩
theorem b15:CE zC:=⟨⟨[],[],0,0,0,0,false,false⟩,[],[],false,false,rfl,by decide,by decide,by decide,by decide⟩
theorem aIF{r:RM}{zs:List Int}{l:List aA}{s h:Bool}(hr:r.Ok 65535)(hb:BusOk zs l)(hs:(!(s&&h))=true):lB r zs l s h=true:=by
 have h1:=hr.d4;have h2:=hr.a4;have h3:=hb.hz;have h4:=hb.hl;have e1:eqI (r.d.length:Int) 4=true:=by simp;omega
 have e2:eqI (r.a.length:Int) 4=true:=by simp;omega
 have e3:eqI (zs.length:Int) 512=true:=by simp;omega
 have e4:leI (l.length:Int) 400=true:=by simp;omega
 have hm:=hr.mw;rw[show(65535:Int)-65528=7 from rfl]at hm
 unfold lB LK O5;rw[e1,e2,e3,e4,hr.dw,hr.aw,hr.ow,hr.pw,hr.fw,hm,hb.hb,hb.ha,hs];rfl
theorem aIG{r:RM}{zs:List Int}{l:List aA}{s h:Bool}(g:lB r zs l s h=true):(!(s&&h))=true:=by
 unfold lB at g;simp only[Bool.and_eq_true]at g;exact g.2.2
def pL(r:RM)(zs:List Int)(l:List aA)(s h:Bool)(n:Int):Bool:=lB r zs l s h&&cA n 0 7
def zQ:bA:=⟨zC,0,false⟩
theorem bLV{r:RM}{zs:List Int}{l:List aA}(s h:Bool)(n:Int)(e:Bool)(m:Sm r zs l):bOT ⟨bB r zs l s h,n,e⟩=true∧bG0 ⟨bB r zs l s h,n,e⟩=pL r zs l s h n:=by
 refine aF (t:=a5B ⟨bB r zs l s h,n,e⟩) (P:=fun q=>q=pL r zs l s h n) ?_
 obtain⟨a1,a2⟩:=aFA s h m;unfold a5B pL;simp only[aQ,aJ,i_C,i_L,a1,a2,iU,iV,Bool.true_or,Bool.and_true,true_and];cases lB r zs l s h<;>rfl
theorem bLW{r:RM}{zs:List Int}{l:List aA}(s h:Bool)(n:Int)(e:Bool)(m:Sm r zs l):bRN ⟨bB r zs l s h,n,e⟩=true∧bI1 ⟨bB r zs l s h,n,e⟩=pL r zs l s h n:=by
 refine aF (t:=a8I ⟨bB r zs l s h,n,e⟩) (P:=fun q=>q=pL r zs l s h n) ?_
 obtain⟨a1,a2⟩:=aFB s h m;unfold a8I pL;simp only[aQ,aJ,i_C,i_L,a1,a2,p8,p9,Bool.true_or,Bool.and_true,true_and];cases lB r zs l s h<;>rfl
theorem bVV{r:RM}{zs:List Int}{l:List aA}(s h:Bool)(n:Int)(e:Bool)(m:Sm r zs l):bOX ⟨bB r zs l s h,n,e⟩=true∧aBT ⟨bB r zs l s h,n,e⟩=⟨bB r zs l s h,n,e⟩:=by
 refine aF (t:=a5H ⟨bB r zs l s h,n,e⟩) (P:=fun q=>q=⟨bB r zs l s h,n,e⟩) ?_
 obtain⟨c1,c2⟩:=aPS (m.len s h);unfold a5H;simp only[bG,S8,i_C,i_L,i_E,c1,c2,dW,wz,bZ]
theorem aP6{r:RM}{zs:List Int}{l:List aA}(s h:Bool)(n:Int)(e:Bool)(m:Sm r zs l):a8U ⟨bB r zs l s h,n,e⟩=true∧NR ⟨bB r zs l s h,n,e⟩=⟨bB r zs l s h,n,e⟩:=by
 refine aF (t:=a8T ⟨bB r zs l s h,n,e⟩) (P:=fun q=>q=⟨bB r zs l s h,n,e⟩) ?_
 obtain⟨c1,c2⟩:=VN (m.len s h);unfold a8T;simp only[bG,i_C,i_L,i_E,c1,c2,dW,wz,bZ]
theorem bVW{r:RM}{zs:List Int}{l:List aA}{s h:Bool}{n:Int}{e:Bool}(hg:pL r zs l s h n=true):CGd (XA r zs l s h n e).1.Cpu∧(XA r zs l s h n e).1.Line=n:=by
 unfold pL at hg;rw[Bool.and_eq_true]at hg;obtain⟨o1,o2⟩:=aXE hg.1;have g0:CGd (bB r zs l s h):=⟨r,zs,l,s,h,rfl,o1,o2,aIG hg.1⟩;unfold XA;cases h with
 |true=>exact⟨g0,rfl⟩
 |false=>
  cases hp:kV (GI (bB r zs l s false) n e) 0
  ·cases s with
   |true=>exact⟨g0,rfl⟩
   |false=>exact⟨bDD (aP1 o1 o2),rfl⟩
  ·exact⟨(aFK o1 o2 (aP3 hg.2 hp)).g,rfl⟩
def slE(n v:Int)(e:Bool):Bool:=bif e then true else bif eqI v 7 then cU n 7 else false
theorem b16{c:aG}{B:Int}(h:CO B c)(hB:B<10000000000000000):bOI c=true∧(CO (B+60000) (bF1 c).1∧CG 65536 (bF1 c).2.Cpu):=by
 refine aF (t:=a4K c) (P:=fun q=>CO (B+60000) q.1∧CG 65536 q.2.Cpu) ?_
 obtain⟨a1,a2,a3⟩:=bCQ h (by omega)
 obtain⟨b1,b2,-⟩:=FZ (r:=[(aL 0),(aL 0),(aL 2),(aL 5),(aL 7)]) ⟨[0,0,2,5,7],rfl⟩ (by decide) a2 (by omega)
 obtain⟨c1,c2⟩:=B9 6 b2 (by omega)
 obtain⟨d1,d2⟩:=B9 40 c2 (by omega)
 obtain⟨e1,e2,-⟩:=FZ (r:=[(aL (-1)),(aL 8)]) ⟨[-1,8],rfl⟩ (by decide) d2 (by omega)
 unfold a4K;simp only[bG,aK9,aK8,ST,IM,a1,b1,c1,d1,e1,dW,wz,bZ];exact⟨fun _=>⟨e2.mono (by omega),a3⟩,fun _=>⟨d2.mono (by omega),a3⟩⟩
end Go.Proofs.YtdicpjkdpliofaaGreatBoundaries

namespace Go.Proofs.YtdicpjkdpliofaaGreatBoundaries
open Go Go.Zq
set_option maxHeartbeats 4000000
set_option maxRecDepth 100000
noncomputable def bo(q:bA):bA×Int:=NL q
def XB(q:bA):Prop:=CGd q.Cpu∧cA q.Line 0 7=true
structure BoP(q:bA):Prop where
 a:a73 q=true
 b:bAT q=true
 c:NZ q=bo q
 g:XB (bo q).1
theorem ZD{q:bA}(h:XB q):BoP q:=by
 obtain⟨c,n,e⟩:=q;obtain⟨⟨r,zs,l,s,t,e1,hr,hb,hs⟩,hn⟩:=h;have e1:c=bB r zs l s t:=e1;have hn:cA n 0 7=true:=hn;subst e1;obtain⟨a1,a2⟩:=b13 (s:=s) (h:=t) (e:=e) hr hb hn;obtain⟨b1,b2⟩:=b14 (s:=s) (h:=t) (e:=e) hr hb hn;have hg:pL r zs l s t n=true:=by unfold pL;rw[aIF hr hb hs,hn];rfl
 obtain⟨c1,c2⟩:=bVW (e:=e) hg;have e2:bo ⟨bB r zs l s t,n,e⟩=XA r zs l s t n e:=a2;refine⟨a1,b1,b2.trans e2.symm,?_⟩;rw[e2];exact⟨c1,by rw[c2];exact hn⟩
noncomputable def bq:Nat→bA→bA
 |0,q=>q
 |n+1,q=>bq n (bo q).1
noncomputable def bt:Nat→bA→List Int
 |0,_=>[]
 |n+1,q=>(bo q).2::bt n (bo q).1
theorem bLX(n:Nat)(q:bA):bq (n+1) q=bq n (bo q).1:=rfl
theorem bVX(n:Nat)(q:bA):bt (n+1) q=(bo q).2::bt n (bo q).1:=rfl
theorem aFL: ∀(n:Nat)(q:bA),(bt n q).length=n
 |0,_=>rfl
 |n+1,q=>by rw[bVX,List.length_cons,aFL n]
theorem bDF: ∀(a b:Nat)(q:bA),bq (a+b) q=bq b (bq a q)
 |0,b,q=>by rw[Nat.zero_add];rfl
 |a+1,b,q=>by rw[show a+1+b=(a+b)+1 by omega,bLX,bLX,bDF a b]
theorem aP7: ∀(a b:Nat)(q:bA),bt (a+b) q=bt a q++bt b (bq a q)
 |0,b,q=>by rw[Nat.zero_add];rfl
 |a+1,b,q=>by rw[show a+1+b=(a+b)+1 by omega,bVX,bVX,bLX,aP7 a b];rfl
theorem aXR: ∀(n:Nat){q:bA},XB q→XB (bq n q)
 |0,_,h=>h
 |n+1,q,h=>by rw[bLX];exact aXR n (ZD h).g
theorem bVY{n:Nat}{q:bA}(hn:n≤60)(h:XB q):bRE (n:Int) q=true∧aNA (n:Int) q=(bq n q,ri (bt n q)):=by
 refine aF (t:=a75 (n:Int) q) (P:=fun r=>r=(bq n q,ri (bt n q))) ?_
 have L:aM8 (V111_0.mk q [] (n:Int) 0)=true∧((aC9 (V111_0.mk q [] (n:Int) 0)).b0=bq n q∧(aC9 (V111_0.mk q [] (n:Int) 0)).s5=ri (bt n q)):=by
  unfold aM8 aC9;refine gP (Post:=fun w:V111_0=>w.b0=bq n q∧w.s5=ri (bt n q)) (eC (fun(m:Nat) (w:V111_0)=>w.s7=(n:Int)∧ ∃L:List Int,w.s5=ri L∧w.s8=(L.length:Int)∧L.length+m=n∧XB w.b0∧bq m w.b0=bq n q∧L++bt m w.b0=bt n q) _ ?_ 9223372036854775808 n _ ⟨rfl,[],rfl,rfl,by simp,h,rfl,rfl⟩ (by omega))
  rintro m w ⟨e1,L,e2,e3,e4,e5,e6,e7⟩
  have l1:lJ (mA (L.length+1) 8) 140737488355328=true:=nE.2 (by unfold mA;omega)
  have l2:lJ (L.length+1) 140737488355328=true:=nE.2 (by omega)
  unfold NM;by_cases hm:m=0
  ·subst hm;have te:ltI (L.length:Int) (n:Int)=false:=mB.2 (by omega)
   simp only[bG,BK,e1,e2,e3,aP,aY,Nat.zero_add,te,bX];rw[←e6,←e7,show bt 0 w.b0=[]from rfl,List.append_nil]
   exact⟨rfl,rfl⟩
  ·obtain⟨p,rfl⟩: ∃p,m=p+1:=⟨m-1,by omega⟩
   have B:=ZD e5;have te:ltI (L.length:Int) (n:Int)=true:=dM.2 (by omega)
   have k1:=B.a;simp only[bG,BK,e1,e2,e3,aP,aY,Nat.zero_add,te,k1,l1,l2,bX,wz];refine⟨p,by omega,L++[(bo w.b0).2],?_,?_,?_,B.g,e6,?_⟩
   ·exact(qK (xs:=L) (ys:=[(bo w.b0).2])).symm
   ·rw[bJ (by omega),List.length_append];rfl
   ·rw[List.length_append];show L.length+1+p=n;omega
   ·rw[←e7,List.append_assoc];rfl
 obtain⟨L1,L2,L3⟩:=L;unfold a75;simp only[bG,aM9,NN,L1,L2,L3,dW,wz]
theorem bVZ{n:Nat}{q z:bA}(hn:n≤60)(h:XB q):bAU (V28_0.mk z q (n:Int) [])=true∧((aVZ (V28_0.mk z q (n:Int) [])).b1=bq n q∧(aVZ (V28_0.mk z q (n:Int) [])).s8=ri (bt n q)):=by
 unfold bAU aVZ;refine gP (Post:=fun w:V28_0=>w.b1=bq n q∧w.s8=ri (bt n q)) (eC (fun(m:Nat) (w:V28_0)=>w.s1=(m:Int)∧ ∃L:List Int,w.s8=ri L∧L.length+m=n∧XB w.b1∧bq m w.b1=bq n q∧L++bt m w.b1=bt n q) _ ?_ 9223372036854775808 n _ ⟨rfl,[],rfl,by simp,h,rfl,rfl⟩ (by omega))
 rintro m w ⟨e1,L,e2,e4,e5,e6,e7⟩
 have l1:lJ (mA (L.length+1) 8) 140737488355328=true:=nE.2 (by unfold mA;omega)
 have l2:lJ (L.length+1) 140737488355328=true:=nE.2 (by omega)
 unfold YM;by_cases hm:m=0
 ·subst hm;have te:kV ((0:Nat):Int) 0=false:=rfl;simp only[bG,FS,e1,e2,aP,aY,Nat.zero_add,te,bX];rw[←e6,←e7,show bt 0 w.b1=[]from rfl,List.append_nil]
  exact⟨rfl,rfl⟩
 ·obtain⟨p,rfl⟩: ∃p,m=p+1:=⟨m-1,by omega⟩
  have B:=ZD e5;have te:kV ((p+1:Nat):Int) 0=true:=nG.2 (by omega)
  have k1:=B.b;have k2:=B.c;simp only[bG,FS,e1,e2,aP,aY,Nat.zero_add,te,k1,k2,l1,l2,bX,wz];refine⟨p,by omega,?_,L++[(bo w.b1).2],?_,?_,B.g,e6,?_⟩
  ·rw[eK (by omega)];omega
  ·exact(qK (xs:=L) (ys:=[(bo w.b1).2])).symm
  ·rw[List.length_append];show L.length+1+p=n;omega
  ·rw[←e7,List.append_assoc];rfl
end Go.Proofs.YtdicpjkdpliofaaGreatBoundaries

namespace Go.Proofs.YtdicpjkdpliofaaGreatBoundaries
open Go Go.Zq
set_option maxHeartbeats 4000000
set_option maxRecDepth 100000
theorem EP{r:RM}{zs:List Int}{l:List aA}{s h:Bool}{n:Int}(e:Bool)(g:pL r zs l s h n=true):XB ⟨bB r zs l s h,n,e⟩:=by
 unfold pL at g;rw[Bool.and_eq_true]at g;obtain⟨a,b⟩:=aXE g.1;exact⟨⟨r,zs,l,s,h,rfl,a,b,aIG g.1⟩,g.2⟩
theorem LQ{q:bA}(g:XB q): ∃r zs l s h n e,q=⟨bB r zs l s h,n,e⟩∧Sm r zs l∧pL r zs l s h n=true:=by
 obtain⟨c,n,e⟩:=q;obtain⟨⟨r,zs,l,s,t,e1,hr,hb,hs⟩,hn⟩:=g;have e1:c=bB r zs l s t:=e1;subst e1;refine⟨r,zs,l,s,t,n,e,rfl,Sm.of hr hb,?_⟩;unfold pL;rw[aIF hr hb hs];exact hn
noncomputable def ruO(r:RM)(zs:List Int)(l:List aA)(s h:Bool)(n:Int)(e:Bool)(N:Int):bA×List Row×Bool:=bif pL r zs l s h n&&cA N 0 60 then(bq N.toNat ⟨bB r zs l s h,n,e⟩,ri (bt N.toNat ⟨bB r zs l s h,n,e⟩),true)else(zQ,[],false)
theorem WB{r:RM}{zs:List Int}{l:List aA}(s h:Bool)(n:Int)(e:Bool)(N:Int)(m:Sm r zs l):k27 ⟨bB r zs l s h,n,e⟩ N=true∧g27 ⟨bB r zs l s h,n,e⟩ N=ruO r zs l s h n e N:=by
 refine aF (t:=T27 ⟨bB r zs l s h,n,e⟩ N) (P:=fun q=>q=ruO r zs l s h n e N) ?_
 obtain⟨a1,a2⟩:=bLV s h n e m;obtain⟨c1,c2⟩:=bVV s h n e m;unfold T27 ruO;cases hg:pL r zs l s h n
 ·simp only[bG,aG1,aG0,a1,a2,hg,iU,iV,bX,Bool.false_and,bZ,wz];rfl
 ·cases hN:cA N 0 60
  ·simp only[bG,aG1,aG0,a1,a2,hg,hN,iU,iV,bX,Bool.and_false,bZ,wz];rfl
  ·have hN':=aM.1 hN;obtain⟨k,rfl⟩:=Int.eq_ofNat_of_zero_le hN'.1;obtain⟨l1,l2⟩:=bVY (n:=k) (by omega) (EP e hg)
   simp only[bG,aG1,aG0,a1,a2,hg,hN,c1,c2,l1,l2,iU,iV,bX,bZ,wz];rfl
theorem aIH{r:RM}{zs:List Int}{l:List aA}(s h:Bool)(n:Int)(e:Bool)(N:Int)(m:Sm r zs l):k28 ⟨bB r zs l s h,n,e⟩ N=true∧g28 ⟨bB r zs l s h,n,e⟩ N=ruO r zs l s h n e N:=by
 refine aF (t:=T28 ⟨bB r zs l s h,n,e⟩ N) (P:=fun q=>q=ruO r zs l s h n e N) ?_
 obtain⟨a1,a2⟩:=bLW s h n e m;obtain⟨c1,c2⟩:=aP6 s h n e m;unfold T28 ruO;cases hg:pL r zs l s h n
 ·simp only[bG,aG8,aG7,G0,a1,a2,hg,p8,p9,bX,Bool.false_and,bZ,wz];rfl
 ·cases hN:cA N 0 60
  ·simp only[bG,aG8,aG7,G0,a1,a2,hg,hN,p8,p9,bX,Bool.and_false,bZ,wz];rfl
  ·have hN':=aM.1 hN;obtain⟨k,rfl⟩:=Int.eq_ofNat_of_zero_le hN'.1;obtain⟨l1,l2,l3⟩:=bVZ (n:=k) (z:=zQ) (by omega) (EP e hg)
   obtain⟨r',zs',l',s',h',n',e',q1,q2,q3⟩:=LQ (aXR k (EP e hg));obtain⟨d1,d2⟩:=aP6 s' h' n' e' q2;rw[←q1]at d1 d2;have ez:(bA.mk (aD.mk (aE.mk [] [] 0 0 0 0 false false) (bC.mk [] []) false false) 0 false)=zQ:=rfl;simp only[bG,aG8,aG7,G0,a1,a2,hg,hN,c1,c2,ez,l1,l2,l3,d1,d2,p8,p9,bX,bZ,wz];rfl
theorem aII{q:bA}(h:XB q){k:Nat}(hk:k≤60):k27 q (k:Int)=true∧g27 q (k:Int)=(bq k q,ri (bt k q),true):=by
 obtain⟨r,zs,l,s,t,n,e,rfl,m,g⟩:=LQ h;obtain⟨a,b⟩:=WB s t n e (k:Int) m;refine⟨a,?_⟩;rw[b];unfold ruO;rw[g,show cA (k:Int) 0 60=true from aM.2 (by omega)];rfl
def slQ(q:bA)(v:Int):bA:=⟨q.Cpu,v,slE q.Line v q.Edge⟩
theorem slI(q:bA)(v:Int):bT5 v q=true∧bT4 v q=slQ q v:=by
 obtain⟨c,n,e⟩:=q;refine aF (t:=bBD v ⟨c,n,e⟩) (P:=fun q=>q=slQ ⟨c,n,e⟩ v) ?_
 unfold bBD;simp only[bG,i_C,i_L,i_E,dW,wz];rfl
theorem slS(q:bA)(v:Int):bUD q v=true∧bUC q v=slQ q v:=by
 obtain⟨c,n,e⟩:=q;refine aF (t:=bBI ⟨c,n,e⟩ v) (P:=fun q=>q=slQ ⟨c,n,e⟩ v) ?_
 unfold bBI slQ slE;simp only[bG,aPD,i_C,i_L,i_E,dW,wz];cases bif eqI v 7 then cU n 7 else false
 ·exact⟨fun z=>absurd z (by decide),fun _=>by cases e<;>rfl⟩
 ·exact⟨fun _=>by cases e<;>rfl,fun z=>absurd z (by decide)⟩
theorem aP8{q:bA}{v:Int}(h:XB q)(hv:cA v 0 7=true):XB (slQ q v):=⟨h.1,hv⟩
noncomputable def plQ:List Int→bA→bA
 |[],q=>q
 |k::ks,q=>bif eqI k (-1)then plQ ks (bo q).1 else bif cA k 0 7 then plQ ks (slQ q k)else plQ ks q
noncomputable def WE:List Int→bA→List Int
 |[],_=>[]
 |k::ks,q=>bif eqI k (-1)then(bo q).2::WE ks (bo q).1 else bif cA k 0 7 then WE ks (slQ q k)else WE ks q
theorem bDH(k:Int)(ks:List Int)(q:bA):plQ (k::ks) q=bif eqI k (-1)then plQ ks (bo q).1 else bif cA k 0 7 then plQ ks (slQ q k)else plQ ks q:=rfl
theorem bDI(k:Int)(ks:List Int)(q:bA):WE (k::ks) q=bif eqI k (-1)then(bo q).2::WE ks (bo q).1 else bif cA k 0 7 then WE ks (slQ q k)else WE ks q:=rfl
theorem WC: ∀(ks:List Int){q:bA},XB q→XB (plQ ks q)
 |[],_,h=>h
 |k::ks,q,h=>by
  rw[bDH];cases eqI k (-1)
  ·cases hv:cA k 0 7
   ·exact WC ks h
   ·exact WC ks (aP8 h hv)
  ·exact WC ks (ZD h).g
theorem P2: ∀(ks:List Int)(q:bA),(WE ks q).length≤ks.length
 |[],_=>Nat.le_refl _
 |k::ks,q=>by
  have a:=P2 ks q;have b:=P2 ks (bo q).1;have c:=P2 ks (slQ q k);rw[bDI,List.length_cons];cases eqI k (-1)
  ·cases cA k 0 7
   ·show(WE ks q).length≤_;omega
   ·show(WE ks (slQ q k)).length≤_;omega
  ·show((bo q).2::WE ks (bo q).1).length≤_
   rw[List.length_cons];omega
theorem bLY{xs:List Int}{q z:bA}(hn:xs.length≤60)(h:XB q):bBF (V31_0.mk z q [] (ri xs) (xs.length:Int) 0)=true∧((aV8 (V31_0.mk z q [] (ri xs) (xs.length:Int) 0)).b1=plQ xs q∧(aV8 (V31_0.mk z q [] (ri xs) (xs.length:Int) 0)).s9=ri (WE xs q)):=by
 unfold bBF aV8;refine gP (Post:=fun w:V31_0=>w.b1=plQ xs q∧w.s9=ri (WE xs q)) (eC (fun(m:Nat) (w:V31_0)=>w.s26=ri xs∧w.s27=(xs.length:Int)∧ ∃(i:Nat)(L:List Int),w.s28=(i:Int)∧w.s9=ri L∧i+m=xs.length∧L.length≤i∧XB w.b1∧plQ (xs.drop i) w.b1=plQ xs q∧L++WE (xs.drop i) w.b1=WE xs q) _ ?_ 9223372036854775808 xs.length _ ⟨rfl,rfl,0,[],rfl,rfl,by simp,by simp,h,rfl,rfl⟩ (by omega))
 rintro m w ⟨e1,e2,i,L,e3,e4,e5,e6,e7,e8,e9⟩
 have l1:lJ (mA (L.length+1) 8) 140737488355328=true:=nE.2 (by unfold mA;omega)
 have l2:lJ (L.length+1) 140737488355328=true:=nE.2 (by omega)
 unfold YS;by_cases hm:i=xs.length
 ·subst hm;have te:ltI (xs.length:Int) (xs.length:Int)=false:=mB.2 (by omega)
  simp only[bG,AC,FU,e1,e2,e3,te,bX];rw[List.drop_length]at e8 e9;rw[e4,←e8,←e9,show WE [] w.b1=[]from rfl,List.append_nil]
  exact⟨rfl,rfl⟩
 ·have hi:i<xs.length:=by omega
  have te:ltI (i:Int) (xs.length:Int)=true:=dM.2 (by omega)
  have B:=ZD e7;have k1:=B.a;have s1:=slI w.b1 xs[i];have a1:=rN (zs:=xs) hi;have a2:=mN (zs:=xs) hi;have a3:aV (i:Int) 1=((i+1:Nat):Int):=by rw[bJ (by omega)];omega
  rw[List.drop_eq_getElem_cons hi,bDH]at e8;rw[List.drop_eq_getElem_cons hi,bDI]at e9;generalize xs[i]=x at*;simp only[bG,AC,FU,e1,e2,e3,e4,te,a1,a2,a3,Int.toNat_natCast,aP,aY,Nat.zero_add,k1,s1.1,s1.2,l1,l2,iU,iV,bX,wz];refine⟨fun h1=>?_,fun h1=>⟨fun h2=>?_,fun h2=>?_⟩⟩
  ·rw[h1]at e8 e9;refine⟨m-1,by omega,i+1,L++[(bo w.b1).2],rfl,(qK (xs:=L) (ys:=[(bo w.b1).2])).symm,by omega,?_,B.g,e8,?_⟩
   ·rw[List.length_append];show L.length+1≤_;omega
   ·rw[List.append_assoc];exact e9
  ·rw[h1,h2]at e8 e9;exact⟨m-1,by omega,i+1,L,rfl,rfl,by omega,by omega,aP8 e7 h2,e8,e9⟩
  ·rw[h1,h2]at e8 e9;exact⟨m-1,by omega,i+1,L,rfl,rfl,by omega,by omega,e7,e8,e9⟩
theorem bLZ{xs:List Int}{q z:bA}(hn:xs.length≤60)(h:XB q):bBJ (V32_0.mk z q [] (ri xs) (xs.length:Int) 0)=true∧((aWA (V32_0.mk z q [] (ri xs) (xs.length:Int) 0)).b1=plQ xs q∧(aWA (V32_0.mk z q [] (ri xs) (xs.length:Int) 0)).s9=ri (WE xs q)):=by
 unfold bBJ aWA;refine gP (Post:=fun w:V32_0=>w.b1=plQ xs q∧w.s9=ri (WE xs q)) (eC (fun(m:Nat) (w:V32_0)=>w.s27=ri xs∧w.s28=(xs.length:Int)∧ ∃(i:Nat)(L:List Int),w.s29=(i:Int)∧w.s9=ri L∧i+m=xs.length∧L.length≤i∧XB w.b1∧plQ (xs.drop i) w.b1=plQ xs q∧L++WE (xs.drop i) w.b1=WE xs q) _ ?_ 9223372036854775808 xs.length _ ⟨rfl,rfl,0,[],rfl,rfl,by simp,by simp,h,rfl,rfl⟩ (by omega))
 rintro m w ⟨e1,e2,i,L,e3,e4,e5,e6,e7,e8,e9⟩
 have l1:lJ (mA (L.length+1) 8) 140737488355328=true:=nE.2 (by unfold mA;omega)
 have l2:lJ (L.length+1) 140737488355328=true:=nE.2 (by omega)
 unfold YT;by_cases hm:i=xs.length
 ·subst hm;have te:ltI (xs.length:Int) (xs.length:Int)=false:=mB.2 (by omega)
  simp only[bG,FX,AD,FV,e1,e2,e3,te,bX];rw[List.drop_length]at e8 e9;rw[e4,←e8,←e9,show WE [] w.b1=[]from rfl,List.append_nil]
  exact⟨rfl,rfl⟩
 ·have hi:i<xs.length:=by omega
  have te:ltI (i:Int) (xs.length:Int)=true:=dM.2 (by omega)
  have B:=ZD e7;have k1:=B.b;have k2:=B.c;have s1:=slS w.b1 xs[i];have a1:=rN (zs:=xs) hi;have a2:=mN (zs:=xs) hi;have a3:aV (i:Int) 1=((i+1:Nat):Int):=by rw[bJ (by omega)];omega
  rw[List.drop_eq_getElem_cons hi,bDH]at e8;rw[List.drop_eq_getElem_cons hi,bDI]at e9;generalize xs[i]=x at*;simp only[bG,FX,AD,FV,e1,e2,e3,e4,te,a1,a2,a3,Int.toNat_natCast,aP,aY,Nat.zero_add,k1,k2,s1.1,s1.2,l1,l2,p8,p9,bX,wz];refine⟨fun h1=>?_,fun h1=>⟨fun h2=>?_,fun h2=>?_⟩⟩
  ·have h2:eqI x (-1)=false:=hJ.2 (by have:=aM.1 h1;omega)
   rw[h1,h2]at e8 e9;exact⟨m-1,by omega,i+1,L,rfl,rfl,by omega,by omega,aP8 e7 h1,e8,e9⟩
  ·rw[h2]at e8 e9;refine⟨m-1,by omega,i+1,L++[(bo w.b1).2],rfl,(qK (xs:=L) (ys:=[(bo w.b1).2])).symm,by omega,?_,B.g,e8,?_⟩
   ·rw[List.length_append];show L.length+1≤_;omega
   ·rw[List.append_assoc];exact e9
  ·rw[h1,h2]at e8 e9;exact⟨m-1,by omega,i+1,L,rfl,rfl,by omega,by omega,e7,e8,e9⟩
def WF(r:RM)(zs:List Int)(l:List aA)(s h:Bool):bA×Bool:=bif lB r zs l s h then(⟨bB r zs l s h,0,false⟩,true)else(zQ,false)
theorem bV0{r:RM}{zs:List Int}{l:List aA}(s h:Bool)(m:Sm r zs l):k34 (bB r zs l s h)=true∧g34 (bB r zs l s h)=WF r zs l s h:=by
 refine aF (t:=T34 (bB r zs l s h)) (P:=fun q=>q=WF r zs l s h) ?_
 obtain⟨a1,a2⟩:=aFA s h m;obtain⟨c1,c2⟩:=aPS (m.len s h);unfold T34 WF;cases hg:lB r zs l s h<;>simp[wz,mG,pH,pI,a1,a2,hg,c1,c2]<;>rfl
theorem bV1{r:RM}{zs:List Int}{l:List aA}(s h:Bool)(m:Sm r zs l):k35 (bB r zs l s h)=true∧g35 (bB r zs l s h)=WF r zs l s h:=by
 refine aF (t:=T35 (bB r zs l s h)) (P:=fun q=>q=WF r zs l s h) ?_
 obtain⟨a1,a2⟩:=aFB s h m;obtain⟨c1,c2⟩:=VN (m.len s h);unfold T35 WF;cases hg:lB r zs l s h<;>simp[wz,mG,pH,pI,a1,a2,hg,c1,c2]<;>rfl
end Go.Proofs.YtdicpjkdpliofaaGreatBoundaries

namespace Go.Proofs.YtdicpjkdpliofaaGreatBoundaries
open Go Go.Zq
set_option maxHeartbeats 4000000
set_option maxRecDepth 100000
theorem bDJ{r:RM}{zs:List Int}{l:List aA}(s h:Bool)(m:Sm r zs l):aHL (bB r zs l s h)=true∧YU (bB r zs l s h)=WF r zs l s h:=by
 refine aF (t:=aHK (bB r zs l s h)) (P:=fun q=>q=WF r zs l s h) ?_
 obtain⟨a1,a2⟩:=aFA s h m;obtain⟨c1,c2⟩:=aPS (m.len s h);unfold aHK WF;cases hg:lB r zs l s h<;>simp[wz,mG,pH,pI,a1,a2,hg,c1,c2]<;>rfl
theorem bDK{r:RM}{zs:List Int}{l:List aA}(s h:Bool)(m:Sm r zs l):aHO (bB r zs l s h)=true∧YV (bB r zs l s h)=WF r zs l s h:=by
 refine aF (t:=aHN (bB r zs l s h)) (P:=fun q=>q=WF r zs l s h) ?_
 obtain⟨a1,a2⟩:=aFB s h m;obtain⟨c1,c2⟩:=VN (m.len s h);unfold aHN WF;cases hg:lB r zs l s h<;>simp[wz,mG,pH,pI,a1,a2,hg,c1,c2]<;>rfl
noncomputable def plO(r:RM)(zs:List Int)(l:List aA)(s h:Bool)(xs:List Int):bA×List Row×Bool:=bif lB r zs l s h&&leI (xs.length:Int) 60 then(plQ xs ⟨bB r zs l s h,0,false⟩,ri (WE xs ⟨bB r zs l s h,0,false⟩),true)else(zQ,[],false)
theorem aIK{r:RM}{zs:List Int}{l:List aA}{s h:Bool}(g:lB r zs l s h=true):XB ⟨bB r zs l s h,0,false⟩:=EP false (by unfold pL;rw[g];rfl)
theorem bV2{r:RM}{zs:List Int}{l:List aA}(s h:Bool)(xs:List Int)(m:Sm r zs l):k31 (bB r zs l s h) (ri xs)=true∧g31 (bB r zs l s h) (ri xs)=plO r zs l s h xs:=by
 refine aF (t:=T31 (bB r zs l s h) (ri xs)) (P:=fun q=>q=plO r zs l s h xs) ?_
 obtain⟨a1,a2⟩:=bV0 s h m;have eg:kV (xs.length:Int) 60=!leI (xs.length:Int) 60:=by
  cases hq:leI (xs.length:Int) 60
  ·have:=YW.1 hq;exact nG.2 this
  ·have:=gZ.1 hq;exact G2.2 this
 have ez:(bA.mk (aD.mk (aE.mk [] [] 0 0 0 0 false false) (bC.mk [] []) false false) 0 false)=zQ:=rfl;unfold T31 plO;cases hg:lB r zs l s h
 ·have hE:WF r zs l s h=(zQ,false):=by unfold WF;rw[hg];rfl
  rw[hE]at a2;simp only[bG,aHG,aHF,OY,a1,a2,aP,aY,eg,ez,bX,Bool.false_and,bZ,wz]
 ·have hE:WF r zs l s h=(⟨bB r zs l s h,0,false⟩,true):=by unfold WF;rw[hg];rfl
  rw[hE]at a2;cases hN:leI (xs.length:Int) 60
  ·simp only[bG,aHG,aHF,OY,a1,a2,aP,aY,eg,hN,ez,bX,Bool.and_false,bZ,wz]
  ·obtain⟨l1,l2,l3⟩:=bLY (xs:=xs) (z:=zQ) (by have:=gZ.1 hN;omega) (aIK hg)
   simp only[bG,aHG,aHF,OY,a1,a2,aP,aY,eg,hN,ez,l1,l2,l3,bX,bZ,wz]
theorem bV3{r:RM}{zs:List Int}{l:List aA}(s h:Bool)(xs:List Int)(m:Sm r zs l):k32 (bB r zs l s h) (ri xs)=true∧g32 (bB r zs l s h) (ri xs)=plO r zs l s h xs:=by
 refine aF (t:=T32 (bB r zs l s h) (ri xs)) (P:=fun q=>q=plO r zs l s h xs) ?_
 obtain⟨a1,a2⟩:=bV1 s h m;have eg:kV (xs.length:Int) 60=!leI (xs.length:Int) 60:=by
  cases hq:leI (xs.length:Int) 60
  ·have:=YW.1 hq;exact nG.2 this
  ·have:=gZ.1 hq;exact G2.2 this
 have ez:(bA.mk (aD.mk (aE.mk [] [] 0 0 0 0 false false) (bC.mk [] []) false false) 0 false)=zQ:=rfl;unfold T32 plO;cases hg:lB r zs l s h
 ·have hE:WF r zs l s h=(zQ,false):=by unfold WF;rw[hg];rfl
  rw[hE]at a2;simp only[bG,aHJ,aHI,G1,a1,a2,aP,aY,eg,ez,bX,Bool.false_and,bZ,wz]
 ·have hE:WF r zs l s h=(⟨bB r zs l s h,0,false⟩,true):=by unfold WF;rw[hg];rfl
  rw[hE]at a2;cases hN:leI (xs.length:Int) 60
  ·simp only[bG,aHJ,aHI,G1,a1,a2,aP,aY,eg,hN,ez,bX,Bool.and_false,bZ,wz]
  ·obtain⟨l1,l2,l3⟩:=bLZ (xs:=xs) (z:=zQ) (by have:=gZ.1 hN;omega) (aIK hg)
   obtain⟨r',zs',l',s',h',n',e',q1,q2,q3⟩:=LQ (WC xs (aIK hg));obtain⟨d1,d2⟩:=aP6 s' h' n' e' q2;rw[←q1]at d1 d2;simp only[bG,aHJ,aHI,G1,a1,a2,aP,aY,eg,hN,ez,l1,l2,l3,d1,d2,bX,bZ,wz]
theorem bDL{x:List Row}(h:bytesOk x=true):k26 x=true∧CG 65536 (KS x).1.Cpu:=by
 refine aF (t:=T26 x) (P:=fun q=>CG 65536 q.1.Cpu) ?_
 obtain⟨a1,a2,a3⟩:=b16 (bU1 h) (by decide)
 obtain⟨b1,-⟩:=FZ (r:=[(aL (-1)),(aL 0),(aL 1),(aL 5),(aL 20),(aL 60),(aL 61)]) ⟨[-1,0,1,5,20,60,61],rfl⟩ (by decide) a2 (by decide)
 unfold T26;simp only[bG,SU,a1,b1,dW,wz,bZ];exact a3
theorem aIL{c:aG}{C z:aD}{B:Int}{n:Nat}(hn:n≤61)(h:CO B c)(hB:B<1000000000):aHC (V30_0.mk z c C [] (n:Int))=true∧((VD (V30_0.mk z c C [] (n:Int))).b2=C∧ ∃L:List Int,(VD (V30_0.mk z c C [] (n:Int))).s6=ri L∧L.length≤61):=by
 unfold aHC VD;refine gP (Post:=fun w:V30_0=>w.b2=C∧ ∃L:List Int,w.s6=ri L∧L.length≤61) (eC (fun(m:Nat) (w:V30_0)=>w.s7=(m:Int)∧w.b2=C∧ ∃L:List Int,w.s6=ri L∧L.length+m=n∧CO (B+2*(L.length:Int)) w.b1) _ ?_ 9223372036854775808 n _ ⟨rfl,rfl,[],rfl,by simp,by simpa using h⟩ (by omega))
 rintro m w ⟨e1,e2,L,e3,e4,e5⟩
 have l1:lJ (mA (L.length+1) 8) 140737488355328=true:=nE.2 (by unfold mA;omega)
 have l2:lJ (L.length+1) 140737488355328=true:=nE.2 (by omega)
 obtain⟨b1,b2,-⟩:=FZ (r:=[(aL (-1)),(aL (-1)),(aL (-1)),(aL (-1)),(aL 0),(aL 2),(aL 5),(aL 7),(aL 3),(aL 9)]) ⟨[-1,-1,-1,-1,0,2,5,7,3,9],rfl⟩ (by decide) e5 (by omega)
 unfold YP;by_cases hm:m=0
 ·subst hm;have te:kV ((0:Nat):Int) 0=false:=rfl;simp only[bG,FT,AB,e1,te,bX];exact⟨e2,L,e3,by omega⟩
 ·obtain⟨p,rfl⟩: ∃p,m=p+1:=⟨m-1,by omega⟩
  have te:kV ((p+1:Nat):Int) 0=true:=nG.2 (by omega)
  simp only[bG,FT,AB,e1,e3,aP,aY,Nat.zero_add,te,b1,l1,l2,bX,wz];refine⟨p,by omega,by rw[eK (by omega)];omega,e2,L++[_],(qK (xs:=L) (ys:=[_])).symm,?_,?_⟩
  ·rw[List.length_append];show L.length+1+p=n;omega
  ·rw[List.length_append];have e:B+2*((L.length+[(rE [(aL (-1)),(aL (-1)),(aL (-1)),(aL (-1)),(aL 0),(aL 2),(aL 5),(aL 7),(aL 3),(aL 9)] w.b1).2].length:Nat):Int)=B+2*(L.length:Int)+2:=by
    rw[List.length_singleton];omega
   rw[e];exact b2
theorem b17{x:List Row}(h:bytesOk x=true):k30 x=true∧(CG 65536 (VE x).1∧ ∃L:List Int,(VE x).2=ri L∧L.length≤61):=by
 refine aF (t:=T30 x) (P:=fun q=>CG 65536 q.1∧ ∃L:List Int,q.2=ri L∧L.length≤61) ?_
 obtain⟨a1,a2,a3⟩:=bCQ (bU1 h) (by decide)
 obtain⟨b1,b2,b3,b4,-⟩:=eE 20 a2 (by decide)
 obtain⟨c1,c2⟩:=B9 20 b2 (by decide)
 obtain⟨e1,e2,e3,e4,-⟩:=eE 3 c2 (by decide)
 have b4:=b4 (by decide)
 have e4:=e4 (by decide)
 unfold T30;generalize hn:(cO 20 (GZ (aG.mk x 0 0)).1).2=n at*;obtain⟨k,rfl⟩:=Int.eq_ofNat_of_zero_le b3;obtain⟨l1,l2,L,l3,l4⟩:=aIL (C:=(GZ (aG.mk x 0 0)).2) (z:=zC) (n:=k) (by omega) c2 (by decide)
 have L2: ∀u:Int,0≤u→u<3→aHC (V30_0.mk zC (cO 3 (kX 20 (cO 20 (GZ (aG.mk x 0 0)).1).1).1).1 (GZ (aG.mk x 0 0)).2 [] (aV 59 u))=true∧((VD (V30_0.mk zC (cO 3 (kX 20 (cO 20 (GZ (aG.mk x 0 0)).1).1).1).1 (GZ (aG.mk x 0 0)).2 [] (aV 59 u))).b2=(GZ (aG.mk x 0 0)).2∧ ∃L:List Int,(VD (V30_0.mk zC (cO 3 (kX 20 (cO 20 (GZ (aG.mk x 0 0)).1).1).1).1 (GZ (aG.mk x 0 0)).2 [] (aV 59 u))).s6=ri L∧L.length≤61):=fun u h0 h1=>by
  obtain⟨v,rfl⟩:=Int.eq_ofNat_of_zero_le h0;rw[show aV 59 (v:Int)=((59+v:Nat):Int)from by rw[bJ (by omega)];omega]
  exact aIL (by omega) e2 (by decide)
 obtain⟨m1,m2,M,m3,m4⟩:=L2 _ e3 e4;have ez:aD.mk (aE.mk [] [] 0 0 0 0 false false) (bC.mk [] []) false false=zC:=rfl;simp only[bG,bBA,bA9,YR,bA8,bA7,YQ,aHD,bA6,K9,hn,ez,a1,b1,c1,e1,dW,wz,bZ];exact⟨fun _=>⟨m1,by rw[m2];exact a3,M,m3,m4⟩,fun _=>⟨l1,by rw[l2];exact a3,L,l3,l4⟩⟩
theorem b18{x:List Row}(h:bytesOk x=true):k33 x=true∧CG 65536 (g33 x):=by
 refine aF (t:=T33 x) (P:=fun q=>CG 65536 q) ?_
 obtain⟨a1,a2,a3⟩:=bCQ (bU1 h) (by decide)
 unfold T33;simp only[bG,a1,dW,wz,bZ];exact a3
theorem mE{l:List Int}(h:l.length≤1000):k24 (ri l) (ri l)=true∧g24 (ri l) (ri l)=true:=by
 obtain⟨a,b⟩:=BZ l l (by omega)
 rw[decide_eq_true rfl]at b;exact⟨a,b⟩
theorem bM3{c:aD}(n:Int)(e:Bool)(h:CE c):k29 ⟨c,n,e⟩ ⟨c,n,e⟩=true∧g29 ⟨c,n,e⟩ ⟨c,n,e⟩=true:=by
 refine aF (t:=T29 ⟨c,n,e⟩ ⟨c,n,e⟩) (P:=fun q=>q=true) ?_
 obtain⟨a,b⟩:=h.self;unfold T29;simp[bA3,a,b]
theorem aP9{q:bA}(h:XB q):k29 q q=true∧g29 q q=true:=by
 obtain⟨r,zs,l,s,t,n,e,rfl,m,-⟩:=LQ h;exact bM3 n e ⟨_,_,_,_,_,rfl,m.sz⟩
structure TailB(x:List Row)(u:bA)(L:List Int)(bb:Bool)(v:bA)(dd:Bool):Prop where
 a:k30 x=true
 b:k31 (VE x).1 (VE x).2=true
 c:k32 (VE x).1 (VE x).2=true
 d:g31 (VE x).1 (VE x).2=(u,ri L,bb)
 e:g32 (VE x).1 (VE x).2=(u,ri L,bb)
 f:k29 u u=true∧g29 u u=true
 l:k24 (ri L) (ri L)=true∧g24 (ri L) (ri L)=true
 g:k33 x=true
 h:aHL (g33 x)=true
 i:aHO (g33 x)=true
 j:YU (g33 x)=(v,dd)
 k:YV (g33 x)=(v,dd)
 m:k29 v v=true∧g29 v v=true
theorem bV4:k29 zQ zQ=true∧g29 zQ zQ=true:=bM3 0 false b15
theorem bM4{x:List Row}(hx:bytesOk x=true): ∃u L b v d,TailB x u L b v d:=by
 obtain⟨a1,⟨r,zs,l,s,t,e,hr,hb⟩,xs,x2,x3⟩:=b17 hx;obtain⟨a1',⟨r',zs',l',s',t',e',hr',hb'⟩⟩:=b18 hx;have i1:=bV2 s t xs (Sm.of hr hb);have i2:=bV3 s t xs (Sm.of hr hb);have j1:=bDJ s' t' (Sm.of hr' hb');have j2:=bDK s' t' (Sm.of hr' hb');rw[←e,←x2]at i1 i2;rw[←e']at j1 j2;have hO: ∃u L b,plO r zs l s t xs=(u,ri L,b)∧(k29 u u=true∧g29 u u=true)∧L.length≤1000:=by
  unfold plO;cases hg:lB r zs l s t&&leI (xs.length:Int) 60
  ·exact⟨zQ,[],false,rfl,bV4,by decide⟩
  ·rw[Bool.and_eq_true]at hg;refine⟨_,_,true,rfl,aP9 (WC xs (aIK hg.1)),?_⟩;have:=P2 xs ⟨bB r zs l s t,0,false⟩;omega
 obtain⟨u,L,b,q1,q2,q3⟩:=hO;have hN: ∃v d,WF r' zs' l' s' t'=(v,d)∧(k29 v v=true∧g29 v v=true):=by
  unfold WF;cases hg:lB r' zs' l' s' t'
  ·exact⟨zQ,false,rfl,bV4⟩
  ·exact⟨_,true,rfl,aP9 (aIK hg)⟩
 obtain⟨v,d,n1,n2⟩:=hN;rw[q1]at i1 i2;rw[n1]at j1 j2;exact⟨u,L,b,v,d,a1,i1.1,i2.1,i1.2,i2.2,q2,mE q3,a1',j1.1,j2.1,j1.2,j2.2,n2⟩
end Go.Proofs.YtdicpjkdpliofaaGreatBoundaries

namespace Go.Proofs.YtdicpjkdpliofaaGreatBoundaries
open Go Go.Zq
set_option maxHeartbeats 4000000
set_option maxRecDepth 100000
theorem b19{x:List Row}(h:bytesOk x=true)(hl:x.length≤9223372036854775807):k25 x=true∧0≤g25 x:=by
 have L:bA5 (V25_0.mk 0 x (bN x) 0)=true∧0≤(bA4 (V25_0.mk 0 x (bN x) 0)).s3:=by
  unfold bA5 bA4;refine gP (Post:=fun w:V25_0=>0≤w.s3) (eC (fun(n:Nat) (v:V25_0)=> ∃i:Nat,v.s6=x∧v.s7=(x.length:Int)∧v.s8=(i:Int)∧i+n=x.length∧0≤v.s3∧v.s3<1000003) _ ?_ 9223372036854775808 x.length _ ⟨0,rfl,rfl,rfl,by omega,by simp,by simp⟩ (by omega))
  rintro n v ⟨i,h1,h2,h3,h4,h5,h6⟩
  unfold YO;simp only[aQ,cB,aJ,h1,h2,h3,dM,mB,Int.toNat_natCast,Bool.and_true,true_and];refine⟨fun hlt=>?_,fun _=>h5⟩
  obtain⟨z,-,e,z0,z1⟩:=aJM h (j:=i) (by omega)
  have eI:fU [.int .u8] x (i:Int)=true:=R6 h (by omega) (by omega)
  rw[eI,e,aWK (by omega),gH (by omega),bJ (by omega),bJ (by omega)]
  obtain⟨r0,r1⟩:=PU (x:=31*v.s3+z) (n:=1000003) (by omega) (by omega)
  exact⟨rfl,n-1,by omega,i+1,by omega,by omega,r0,r1⟩
 refine aF (t:=T25 x) (P:=fun r=>0≤r) ?_
 unfold T25;simp only[aQ,aJ,L.1,true_and];exact L.2
theorem okF(x0 x1:List Row)(h0:bytesOk x0=true)(h1:bytesOk x1=true)(r:RM)(zs:List Int)(l:List aA)(s h:Bool)(n:Int)(e:Bool)(N:Int)(ev:KS x0=(⟨bB r zs l s h,n,e⟩,N))(sm:Sm r zs l)(hok:(pL r zs l s h n&&cA N 0 60)=false):(T4 x0 x1).Sat (fun q=>q=true):=by
 obtain⟨u,L,b,v,d,t⟩:=bM4 h1;obtain⟨d1,-⟩:=bDL h0;obtain⟨e1,e2⟩:=WB s h n e N sm;obtain⟨e3,e4⟩:=aIH s h n e N sm;have hE:ruO r zs l s h n e N=(zQ,[],false):=by unfold ruO;rw[hok];rfl
 rw[hE]at e2 e4;obtain⟨z1,z2⟩:=bV4;obtain⟨y1,y2⟩:=mE (l:=[]) (by decide)
 rw[EE]at y1 y2;obtain⟨f1,f2⟩:=t.f;obtain⟨l1,l2⟩:=t.l;obtain⟨m1,m2⟩:=t.m;have eB: ∀x,yF x x=true:=fun x=>by simp
 unfold T4;simp only[bG,aWI,aWH,aWG,aWF,O0,OZ,aWE,aWD,aWC,a0A,bKJ,bKI,bKH,aPG,bKG,aPF,bKF,aHP,BX,ev,d1,e1,e2,e3,e4,z1,z2,y1,y2,t.a,t.b,t.c,t.d,t.e,t.g,t.h,t.i,t.j,t.k,f1,f2,l1,l2,m1,m2,eB,bZ,bX,wz]
theorem okT(x0 x1:List Row)(h0:bytesOk x0=true)(h1:bytesOk x1=true)(ml:x1.length≤9223372036854775807)(r:RM)(zs:List Int)(l:List aA)(s h:Bool)(n:Int)(e:Bool)(N:Nat)(ev:KS x0=(⟨bB r zs l s h,n,e⟩,(N:Int)))(sm:Sm r zs l)(hg:pL r zs l s h n=true)(hN:N≤60):(T4 x0 x1).Sat (fun q=>q=true):=by
 obtain⟨u,L,b,v,d,t⟩:=bM4 h1;obtain⟨d1,-⟩:=bDL h0;obtain⟨e1,e2⟩:=WB s h n e (N:Int) sm;obtain⟨e3,e4⟩:=aIH s h n e (N:Int) sm;have gd:=EP e hg;have hE:ruO r zs l s h n e (N:Int)=(bq N ⟨bB r zs l s h,n,e⟩,ri (bt N ⟨bB r zs l s h,n,e⟩),true):=by unfold ruO;rw[hg,show cA (N:Int) 0 60=true from aM.2 (by omega)];rfl
 rw[hE]at e2 e4;generalize (bA.mk (bB r zs l s h) n e)=q at*;obtain⟨nu,nu0⟩:=b19 h1 ml;have hA:aV (N:Int) 1=((N+1:Nat):Int):=by rw[bJ (by omega)];omega
 obtain⟨r0,r1⟩:=PU (x:=g25 x1) (n:=((N+1:Nat):Int)) nu0 (by omega)
 generalize hk:kD (g25 x1) ((N+1:Nat):Int)=kk at*;obtain⟨k,rfl⟩:=Int.eq_ofNat_of_zero_le r0;obtain⟨p,rfl⟩: ∃p,N=k+p:=⟨N-k,by omega⟩
 have hS:cF ((k+p:Nat):Int) (k:Int)=(p:Int):=by rw[eK (by omega)];omega
 obtain⟨a1,a2⟩:=aII gd (k:=k) (by omega)
 obtain⟨b1,b2⟩:=aII (aXR k gd) (k:=p) (by omega)
 rw[←bDF]at b2;have lk:=aFL k q;have lp:=aFL p (bq k q);have lN:=aFL (k+p) q;have tk:List.take k (ri (bt (k+p) q))=ri (bt k q):=by
  rw[aP7,qK,List.take_left' (by rw[aY,lk])]
 have dk:List.take (k+p-k) (List.drop k (ri (bt (k+p) q)))=ri (bt p (bq k q)):=by
  rw[aP7,qK,List.drop_left' (by rw[aY,lk]),Nat.add_sub_cancel_left,List.take_of_length_le (by rw[aY,lp];exact Nat.le_refl _)]
 obtain⟨w1,w2⟩:=mE (l:=bt (k+p) q) (by omega)
 obtain⟨w3,w4⟩:=mE (l:=bt k q) (by omega)
 obtain⟨w5,w6⟩:=mE (l:=bt p (bq k q)) (by omega)
 obtain⟨z1,z2⟩:=aP9 (aXR (k+p) gd);obtain⟨f1,f2⟩:=t.f;obtain⟨l1,l2⟩:=t.l;obtain⟨m1,m2⟩:=t.m;have eB: ∀x,yF x x=true:=fun x=>by simp
 have nI: ∀x,cU x x=false:=fun x=>by simp
 have c1:leI 0 (k:Int)=true:=gZ.2 (by omega)
 have c2:leI (k:Int) ((k+p:Nat):Int)=true:=gZ.2 (by omega)
 have c3:leI ((k+p:Nat):Int) ((k+p:Nat):Int)=true:=gZ.2 (by omega)
 have c4:cU ((k+p+1:Nat):Int) 0=true:=nF.2 (by omega)
 unfold T4;simp only[bG,aWI,aWH,aWG,aWF,O0,OZ,aWE,aWD,aWC,a0A,bKJ,bKI,bKH,aPG,bKG,aPF,bKF,aHP,BX,ev,d1,e1,e2,e3,e4,nu,hA,hk,hS,a1,a2,b1,b2,tk,dk,lN,w1,w2,w3,w4,w5,w6,z1,z2,c1,c2,c3,c4,nI,aP,aY,Int.toNat_natCast,t.a,t.b,t.c,t.d,t.e,t.g,t.h,t.i,t.j,t.k,f1,f2,l1,l2,m1,m2,eB,bZ,bX,wz]
theorem okL(x0 x1:List Row)(h0:bytesOk x0=true)(h1:bytesOk x1=true)(_:x0.length≤9223372036854775807)(m1:x1.length≤9223372036854775807):k4 x0 x1=true∧g4 x0 x1=true:=by
 refine aF (t:=T4 x0 x1) (P:=fun q=>q=true) ?_
 obtain⟨d1,r,zs,l,s,h,e,hr,hb⟩:=bDL h0;have sm:=Sm.of hr hb;have ev:KS x0=(⟨bB r zs l s h,(KS x0).1.Line,(KS x0).1.Edge⟩,(KS x0).2):=by rw[←e]
 generalize (KS x0).2=N at ev;cases hok:pL r zs l s h (KS x0).1.Line&&cA N 0 60
 ·exact okF x0 x1 h0 h1 r zs l s h _ _ N ev sm hok
 ·obtain⟨a,b⟩:=aS hok;have b':=aM.1 b;obtain⟨k,rfl⟩:=Int.eq_ofNat_of_zero_le b'.1;exact okT x0 x1 h0 h1 m1 r zs l s h _ _ k ev sm a (by omega)
end Go.Proofs.YtdicpjkdpliofaaGreatBoundaries
