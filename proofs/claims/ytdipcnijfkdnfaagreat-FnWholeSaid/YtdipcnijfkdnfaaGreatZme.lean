import Derived.Test.YtdipcnijfkdnfaaGreatZqWholeQ
import Derived.Test.YtdipcnijfkdnfaaGreatZmc
import Derived.Test.YtdipcnijfkdnfaaGreatZmd
set_option linter.unusedVariables false
set_option linter.unusedSimpArgs false
namespace Go.Proofs.YtdipcnijfkdnfaaGreatWhole
open Go Go.Zq
set_option maxHeartbeats 4000000
set_option maxRecDepth 100000
theorem WB{B t:Int}{c:aN}(r:List Int)(h1:CO B c)(h2:B<2500000000000000000)(h3:1≤r.length)(h4:iE t r=true):k90 (ri r) c=true∧CO (B+2) (PP (ri r) c).1∧0≤(PP (ri r) c).2∧(PP (ri r) c).2≤t:=by
 obtain⟨a,b,j,c1,c2⟩:=aD7 (r:=ri r) ⟨r,rfl⟩ (by rw[bB];exact h3) h1 (by omega)
 rw[bB]at c1;rw[o9 c1]at c2;have:=aU.1 (List.all_eq_true.1 h4 _ (List.getElem_mem c1));rw[c2];exact⟨a,b,this⟩
def r0:RM:=⟨[0,0,0,0],[0,0,0,0],0,0,0,7,true,false⟩
theorem a83:k94=true∧g94=r0.g:=by
 refine aK (t:=T94) (P:=fun q=>q=r0.g) ?_
 unfold T94;simp only[aB,aA,aD,bO,wz,Bool.and_true,true_and];rfl
theorem aXV(c:aN)(b1:aJ){B:Int}(h:CO B c)(hB:B<300000000000000000):aJ3 (V150_0.mk c b1 r0.g 0)=true∧(CO (B+20) (aA0 (V150_0.mk c b1 r0.g 0)).b0∧ ∃ds az:List Int,(aA0 (V150_0.mk c b1 r0.g 0)).b2=RM.g ⟨ds,az,0,0,0,7,true,false⟩∧ds.length=4∧az.length=4∧iE 65535 ds=true∧iE 65535 az=true):=by
 unfold aJ3 aA0;refine jA (Post:=fun w:V150_0=>CO (B+20) w.b0∧ ∃ds az:List Int,w.b2=RM.g ⟨ds,az,0,0,0,7,true,false⟩∧ds.length=4∧az.length=4∧iE 65535 ds=true∧iE 65535 az=true) (eY (fun(m:Nat) (v:V150_0)=>CO (B+4*(4-m)) v.b0∧ ∃i:Nat,v.s4=(i:Int)∧i+m=4∧ ∃ds az:List Int,v.b2=RM.g ⟨ds,az,0,0,0,7,true,false⟩∧ds.length=4∧az.length=4∧iE 65535 ds=true∧iE 65535 az=true) _ ?_ 2097152 4 _ ⟨h.mono (by omega),0,rfl,by omega,_,_,rfl,rfl,rfl,by decide,by decide⟩ (by omega))
 rintro m v ⟨h1,i,h4,h5,ds,az,h6,h7,h8,h9,h10⟩
 obtain⟨a1,a2,a3,a4⟩:=WB [0,1,2,5,128,255,32768,65535] h1 (by omega) (by decide) (t:=65535) (by decide)
 obtain⟨b1,b2,b3,b4⟩:=WB [0,2,20,40,100,300,301,384,448,500,65534] a2 (by omega) (by decide) (t:=65535) (by decide)
 simp only[CA,I0]at a1 a2 a3 a4 b1 b2 b3 b4;have e1:bE (i:Int) 1=((i+1:Nat):Int):=by rw[bV (by omega)];omega
 unfold M1;by_cases hi:i<4
 ·obtain⟨s1,s2,s3,s4,-⟩:=gG (l:=ds) (i:=(i:Int)) (v:=0) h7 (aU.2 (by omega))
  obtain⟨u1,u2,u3,u4,-⟩:=gG (l:=az) (i:=(i:Int)) (v:=0) h8 (aU.2 (by omega))
  rw[Nat.zero_add,Int.toNat_natCast]at s1 s2 u1 u2;have l0:ltI (i:Int) 4=true:=by rw[eD];omega
  simp only[aB,aI,aA,H5,H4,BS,sI,BQ,H3,H2,wJ,pU,BP,h4,h6,l0,e1,a1,b1,eS,eV,aX,cK,aW,bK,aV,aR,aT,bB,dY,List.length_set,Nat.zero_add,Int.toNat_natCast,s1,s2,s3,s4,u1,u2,u3,u4,aD,bO,wz,bL,cQ,aZ,cS,Bool.and_true,true_and,Bool.true_eq_false,false_implies,and_true,forall_const];exact⟨m-1,by omega,b2.mono (by omega),i+1,rfl,by omega,_,_,rfl,by rw[List.length_set];exact h7,by rw[List.length_set];exact h8,sU h9 a3 a4,sU h10 b3 b4⟩
 ·have l0:ltI (i:Int) 4=false:=by rw[nV];omega
  simp only[aB,aI,aA,h4,l0,Bool.and_true,true_and,Bool.false_eq_true,false_implies,forall_const];exact⟨h1.mono (by omega),ds,az,h6,h7,h8,h9,h10⟩
theorem aER{d a:List Int}{x y z f mk:Int}{p q:Bool}(hd:d.length=4)(wd:iE 65536 d=true)(ha:a.length=4)(wa:iE 65535 a=true)(hx:0≤x∧x≤65535)(hy:0≤y∧y≤65535)(hz:0≤z∧z≤65535)(hf:0≤f∧f<32)(hm:0≤mk∧mk≤8): ∃r:RM,aJ.mk (ri d) (ri (a.set 3 x)) y z f mk p q=r.g∧r.Ok 65536:=
 ⟨⟨d,a.set 3 x,y,z,f,mk,p,q⟩,rfl,by decide,by decide,hd,by rw[List.length_set];exact ha,wd,sU wa hx.1 hx.2,aU.2 hy,aU.2 hz,aU.2 ⟨hf.1,(by omega:f≤31)⟩,aU.2 ⟨hm.1,(by omega:mk≤65536-65528)⟩⟩
theorem bPX{c:aN}{B:Int}(h:CO B c)(hB:B<200000000000000000):bJ0 c=true∧(CO (B+60) (PT c).1∧ ∃r:RM,(PT c).2=r.g∧r.Ok 65536):=by
 refine aK (t:=a1C c) (P:=fun q=>CO (B+60) q.1∧ ∃r:RM,q.2=r.g∧r.Ok 65536) ?_
 obtain⟨n1,n2⟩:=a83;obtain⟨a1,a2,ds,az,a3,a4,a5,a6,a7⟩:=aXV c ⟨[],[],0,0,0,0,false,false⟩ h (by omega)
 rw[←n2]at a1 a2 a3;obtain⟨b1,b2,b3,b4⟩:=WB [200,202,380,65534,0,301] a2 (by omega) (by decide) (t:=65535) (by decide)
 obtain⟨c1,c2,c3,c4⟩:=WB [300,0,447] b2 (by omega) (by decide) (t:=65535) (by decide)
 obtain⟨d1,d2,d3,d4⟩:=WB [0,2,10,40,384,3,448] c2 (by omega) (by decide) (t:=65535) (by decide)
 simp only[CA,I0]at b1 b2 b3 b4 c1 c2 c3 c4 d1 d2 d3 d4;obtain⟨e1,e2,e3,e4,-⟩:=eU 32 d2 (by omega)
 have e4:=e4 (by omega)
 obtain⟨f1,f2,f3,f4,-⟩:=eU 8 e2 (by omega)
 have f4:=f4 (by omega)
 obtain⟨i1,i2⟩:=KZ 3 f2 (by omega)
 obtain⟨j1,j2⟩:=KZ 8 i2 (by omega)
 obtain⟨l1,l2,-⟩:=eU 60 j2 (by omega)
 obtain⟨s1,s2,s3,s4,-⟩:=gG (l:=ds) (i:=0) (v:=0) a4 (by decide)
 obtain⟨u1,u2,u3,u4,-⟩:=gG (l:=az) (i:=3) (v:=0) a5 (by decide)
 rw[Nat.zero_add]at s1 s2 u1 u2;have t0:Int.toNat 0=0:=rfl;rw[t0]at s1 s2;rw[b4A]at u1 u2;have wd:iE 65536 ds=true:=by
  unfold iE at a6⊢;rw[List.all_eq_true]at*;intro z hz;have:=aU.1 (a6 z hz);exact aU.2 (by omega)
 unfold a1C;simp only[aB,aI,aA,aA5,aA4,aA3,aA2,aJ5,yY,BT,yX,M3,aJ4,M2,H6,aA1,jK,n1,a1,a3,b1,c1,d1,e1,f1,i1,j1,l1,eS,eV,aX,cK,aW,bK,aV,aR,aT,bB,dY,List.length_set,s1,s2,s3,s4,u1,u2,u3,u4,aD,bO,wz,bL,cQ,aZ,cS,Bool.and_true,true_and];have ds4:(ds.set 0 65536).length=4:=by rw[List.length_set];exact a4
 have ds5:iE 65536 (ds.set 0 65536)=true:=sU wd (by decide) (by decide)
 have lz:=l2.mono (C:=B+60) (by omega)
 exact⟨fun _=>⟨lz,aER ds4 ds5 a5 a7 ⟨b3,b4⟩ ⟨c3,c4⟩ ⟨d3,d4⟩ ⟨e3,e4⟩ ⟨f3,by omega⟩⟩,fun _=>⟨fun _=>⟨lz,aER a4 wd a5 a7 ⟨b3,b4⟩ ⟨c3,c4⟩ ⟨d3,d4⟩ ⟨e3,e4⟩ ⟨by decide,by decide⟩⟩,fun _=>⟨lz,aER a4 wd a5 a7 ⟨b3,b4⟩ ⟨c3,c4⟩ ⟨d3,d4⟩ ⟨e3,e4⟩ ⟨f3,by omega⟩⟩⟩⟩
end Go.Proofs.YtdipcnijfkdnfaaGreatWhole

namespace Go.Proofs.YtdipcnijfkdnfaaGreatWhole
open Go Go.Zq
set_option maxHeartbeats 4000000
set_option maxRecDepth 100000
theorem bPY(x:Int):bCN x=!cJ x 0 255:=by
 simp[bCN,dX,a1Y]
theorem bPZ(x:Int):bCO x=true:=by
 simp[bCO,dX,a1Y]
theorem a84(zs:List Int)(hl:zs.length<1000000):TG (V227v1_0.mk (ri zs) (bX (ri zs)) 0)=true∧0≤(DV (V227v1_0.mk (ri zs) (bX (ri zs)) 0)).s8∧(ltI (DV (V227v1_0.mk (ri zs) (bX (ri zs)) 0)).s8 (DV (V227v1_0.mk (ri zs) (bX (ri zs)) 0)).s7=!dJ zs):=by
 unfold TG DV;refine jA (Post:=fun w=>0≤w.s8∧ltI w.s8 w.s7=!dJ zs) (eY (fun n v=> ∃i:Nat,v=V227v1_0.mk (ri zs) (bX (ri zs)) i∧i≤zs.length∧n=zs.length-i∧ ∀j(hj:j<zs.length),j<i→cJ zs[j] 0 255=true) _ ?_ 2097152 zs.length _ ⟨0,rfl,by omega,by omega,fun j _ h=>absurd h (by omega)⟩ (by omega))
 rintro n v ⟨i,rfl,hi,rfl,hall⟩
 unfold AH;simp only[aB,aI,aA,aT,bB,eD,nV,true_and,Int.toNat_natCast];constructor
 ·intro h;have hi':i<zs.length:=by omega
  rw[vC hi',o9 hi',bPZ,bPY];refine⟨rfl,fun hz=>?_,fun hz=>?_⟩
  ·rw[VT hi' (by simpa using hz)]
   exact⟨by omega,by simpa [ltI]using h⟩
  ·refine⟨_,?_,i+1,?_,by omega,rfl,?_⟩
   ·omega
   ·rw[bV (by omega)];rfl
   ·intro j hj hji;by_cases e:j=i
    ·subst e;simpa using hz
    ·exact hall j hj (by omega)
 ·intro h;rw[VU fun j hj=>hall j hj (by omega)]
  exact⟨by omega,by simpa [ltI]using h⟩
theorem b4R(zs:List Int)(hl:zs.length<1000000):TI (ri zs)=true∧TH (ri zs)=!dJ zs:=by
 obtain⟨h1,h2,h3⟩:=a84 zs hl;have a:aBH (ri zs)=true∧geI (aBG (ri zs)) 0=!dJ zs:=by
  unfold aBH aBG aBF KB;rw[dX,dX];simp only[zT,IY,pH,rN,IZ,kI,h1,h3,Bool.true_and];cases dJ zs
  ·exact⟨rfl,by simpa using h2⟩
  ·exact⟨rfl,rfl⟩
 have b:TI (ri zs)=true∧TH (ri zs)=!dJ zs:=by
  unfold TI TH aBI;rw[dX,dX];simp only[zT,pH,rN,kI,a.1,a.2,Bool.true_and,and_self]
 exact b
theorem b4S(x:aE):bCR x=!accB x:=by
 simp[bCR,dX,a13,(bIB x).2]
theorem b4T(x:aE):bCS x=true:=by
 simp[bCS,dX,a13,(bIB x).1]
theorem aXW(l:List aE)(hl:l.length<1000000):aKK (V228_0.mk (l.map aE.row) (bX (l.map aE.row)) 0)=true∧0≤(TK (V228_0.mk (l.map aE.row) (bX (l.map aE.row)) 0)).s8∧(ltI (TK (V228_0.mk (l.map aE.row) (bX (l.map aE.row)) 0)).s8 (TK (V228_0.mk (l.map aE.row) (bX (l.map aE.row)) 0)).s7=!l.all accB):=by
 unfold aKK TK;refine jA (Post:=fun w=>0≤w.s8∧ltI w.s8 w.s7=!l.all accB) (eY (fun n v=> ∃i:Nat,v=V228_0.mk (l.map aE.row) (bX (l.map aE.row)) i∧i≤l.length∧n=l.length-i∧ ∀j(hj:j<l.length),j<i→accB l[j]=true) _ ?_ 2097152 l.length _ ⟨0,rfl,by omega,by omega,fun j _ h=>absurd h (by omega)⟩ (by omega))
 rintro n v ⟨i,rfl,hi,rfl,hall⟩
 unfold NC;simp only[aB,aI,aA,aT,List.length_map,eD,nV,true_and,Int.toNat_natCast];constructor
 ·intro h;have hi':i<l.length:=by omega
  obtain⟨p1,p2⟩:=aD8 hi';rw[p1,p2,b4T,b4S];refine⟨rfl,fun hz=>?_,fun hz=>?_⟩
  ·rw[aTY hi' (by simpa using hz)]
   exact⟨by omega,by simpa [ltI]using h⟩
  ·refine⟨_,?_,i+1,?_,by omega,rfl,?_⟩
   ·omega
   ·rw[bV (by omega)];rfl
   ·intro j hj hji;by_cases e:j=i
    ·subst e;simpa using hz
    ·exact hall j hj (by omega)
 ·intro h;rw[aTZ fun j hj=>hall j hj (by omega)]
  exact⟨by omega,by simpa [ltI]using h⟩
theorem bP0(l:List aE)(hl:l.length<1000000):a16 (l.map aE.row)=true∧a15 (l.map aE.row)=!l.all accB:=by
 obtain⟨h1,h2,h3⟩:=aXW l hl;have a:bC0 (l.map aE.row)=true∧geI (bCZ (l.map aE.row)) 0=!l.all accB:=by
  unfold bC0 bCZ bCY aBM;rw[dX,dX];simp only[zT,IY,pH,rN,IZ,kI,h1,h3,Bool.true_and];cases l.all accB
  ·exact⟨rfl,by simpa using h2⟩
  ·exact⟨rfl,rfl⟩
 have b:a16 (l.map aE.row)=true∧a15 (l.map aE.row)=!l.all accB:=by
  unfold a16 a15 bC1;rw[dX,dX];simp only[zT,pH,rN,kI,a.1,a.2,Bool.true_and,and_self]
 exact b
def PJ(zs:List Int)(l:List aE):Bool:=eqI (zs.length:Int) 512&&(leI (l.length:Int) 400&&(dJ zs&&l.all accB))
theorem bP1(zs:List Int)(l:List aE)(hz:zs.length<1000000)(hl:l.length<1000000):bC3 ⟨ri zs,l.map aE.row⟩=true∧bC2 ⟨ri zs,l.map aE.row⟩=PJ zs l:=by
 refine aK (t:=a18 ⟨ri zs,l.map aE.row⟩) (P:=fun r=>r=PJ zs l) ?_
 obtain⟨a1,a2⟩:=b4R zs hz;obtain⟨b1,b2⟩:=bP0 l hl;unfold a18 PJ;simp only[aB,aA,aKN,aKM,aBN,Bool.cond_self,a1,a2,b1,b2,aT,bB,List.length_map,Bool.and_true,Bool.true_or,true_and];cases eqI (zs.length:Int) 512<;>cases leI (l.length:Int) 400<;>cases dJ zs<;>cases l.all accB<;>rfl
def CF(xs:List Int)(i:Nat):List Int:=xs.take i++List.replicate (512-i) 0
def I3(A ys:List Int)(i:Nat):List Int:=A.take 384++(ys.take i++A.drop (384+i))
theorem LK{xs:List Int}{i:Nat}(h:i≤xs.length)(hx:xs.length≤384):(CF xs i).length=512:=by
 simp[CF];omega
theorem aXX{xs:List Int}{i:Nat}(h:i<xs.length)(hx:xs.length≤384):(CF xs i).set i xs[i]=CF xs (i+1):=by
 unfold CF;have e:512-i=(512-(i+1))+1:=by omega
 have l:(xs.take i).length=i:=by simp;omega
 rw[e,List.replicate_succ,List.set_append_right _ _ (by omega),l,Nat.sub_self,List.set_cons_zero,List.take_succ_eq_append_getElem h,List.append_assoc,List.singleton_append]
theorem aXY{A ys:List Int}{i:Nat}(hA:A.length=512)(h:i<ys.length)(hy:ys.length≤64):(I3 A ys i).set (384+i) ys[i]=I3 A ys (i+1):=by
 unfold I3;have l1:(A.take 384).length=384:=by simp;omega
 have l2:(ys.take i).length=i:=by simp;omega
 rw[List.set_append_right _ _ (by omega),l1,show 384+i-384=i from by omega,List.set_append_right _ _ (by omega),l2,Nat.sub_self,List.take_succ_eq_append_getElem h,List.drop_eq_getElem_cons (show 384+i<A.length by omega),List.set_cons_zero,show 384+(i+1)=384+i+1 from rfl,List.append_assoc,List.singleton_append]
theorem cHM(xs ys:List Int)(hx:xs.length≤384):bH1 (V93_0.mk ⟨[],[]⟩ ⟨ri (CF xs 0),[]⟩ (ri ys) (ri xs) (xs.length:Int) 0)=true∧bH0 (V93_0.mk ⟨[],[]⟩ ⟨ri (CF xs 0),[]⟩ (ri ys) (ri xs) (xs.length:Int) 0)=V93_0.mk ⟨[],[]⟩ ⟨ri (CF xs xs.length),[]⟩ (ri ys) (ri xs) (xs.length:Int) (xs.length:Int):=by
 refine LA (N:=O7) (fun i=>V93_0.mk ⟨[],[]⟩ ⟨ri (CF xs i),[]⟩ (ri ys) (ri xs) (xs.length:Int) (i:Int)) xs.length (by omega) (fun i hi=>?_) ?_
 ·have hl:=LK (xs:=xs) (i:=i) (by omega) hx
  have hl2:=LK (xs:=xs) (i:=i+1) (by omega) hx
  have l1:ltI (i:Int) (xs.length:Int)=true:=by rw[eD];omega
  have l2:ltI (i:Int) ((512:Nat):Int)=true:=by rw[eD];omega
  have l3:leI 0 (i:Int)=true:=by simp
  have a1:bE (i:Int) 1=((i+1:Nat):Int):=by rw[bV (by omega)];omega
  have b1:blt i 512=true:=by simp;omega
  have b2:j7 (j8 (ri (CF xs i)) i) 1=true:=by rw[yI (by omega)];rfl
  unfold O7;simp only[aB,aI,aA,M6,M5,aT,bB,hl,hl2,dY,List.length_set,List.length_nil,vC hi,o9 hi,Int.toNat_natCast,Nat.zero_add,aXX hi hx,l1,l2,l3,a1,b1,b2,aD,bO,wz,Bool.and_true,true_and,Bool.true_eq_false,false_implies,and_true,forall_const]
 ·have l1:ltI (xs.length:Int) (xs.length:Int)=false:=by simp
  unfold O7;simp only[aB,aI,aA,l1,true_and,Bool.false_eq_true,false_implies,implies_true]
theorem WC{A ys:List Int}{i:Nat}(hA:A.length=512)(h:i≤ys.length)(hy:ys.length≤64):(I3 A ys i).length=512:=by
 simp[I3];omega
theorem cHN(A ys:List Int)(hA:A.length=512)(hy:ys.length≤64):bH2 (V93_1.mk ⟨[],[]⟩ ⟨ri (I3 A ys 0),[]⟩ (ri ys) (ys.length:Int) 0)=true∧a1F (V93_1.mk ⟨[],[]⟩ ⟨ri (I3 A ys 0),[]⟩ (ri ys) (ys.length:Int) 0)=V93_1.mk ⟨[],[]⟩ ⟨ri (I3 A ys ys.length),[]⟩ (ri ys) (ys.length:Int) (ys.length:Int):=by
 refine LA (N:=O8) (fun i=>V93_1.mk ⟨[],[]⟩ ⟨ri (I3 A ys i),[]⟩ (ri ys) (ys.length:Int) (i:Int)) ys.length (by omega) (fun i hi=>?_) ?_
 ·have hl:=WC (A:=A) (ys:=ys) (i:=i) hA (by omega) hy
  have hl2:=WC (A:=A) (ys:=ys) (i:=i+1) hA (by omega) hy
  have l1:ltI (i:Int) (ys.length:Int)=true:=by rw[eD];omega
  have a1:bE (i:Int) 1=((i+1:Nat):Int):=by rw[bV (by omega)];omega
  have a2:bE 384 (i:Int)=((384+i:Nat):Int):=by rw[bV (by omega)];omega
  have l2:ltI ((384+i:Nat):Int) ((512:Nat):Int)=true:=by rw[eD];omega
  have l3:leI 0 ((384+i:Nat):Int)=true:=by rw[lS];omega
  have b1:blt (384+i) 512=true:=by simp;omega
  have b2:j7 (j8 (ri (I3 A ys i)) (384+i)) 1=true:=by rw[yI (by omega)];rfl
  unfold O8;simp only[aB,aI,aA,M8,M7,aT,bB,hl,hl2,dY,List.length_set,List.length_nil,vC hi,o9 hi,a2,Int.toNat_natCast,Nat.zero_add,aXY hA hi hy,l1,l2,l3,a1,b1,b2,aD,bO,wz,Bool.and_true,true_and,Bool.true_eq_false,false_implies,and_true,forall_const]
 ·have l1:ltI (ys.length:Int) (ys.length:Int)=false:=by simp
  unfold O8;simp only[aB,aI,aA,l1,true_and,Bool.false_eq_true,false_implies,implies_true]
def WD(xs ys:List Int):bM×Bool:=bif dJ xs&&(dJ ys&&(leI (xs.length:Int) 384&&leI (ys.length:Int) 64))then(⟨ri (I3 (CF xs xs.length) ys ys.length),[]⟩,true)else(⟨[],[]⟩,false)
theorem bIR(a b:Int):pG a b=!leI a b:=by
 cases h:leI a b
 ·rw[aTW]at h;exact tH.2 h
 ·rw[lS]at h;exact PF.2 h
theorem b4U(xs ys:List Int)(hx:xs.length<1000000)(hy:ys.length<1000000):k93 (ri xs) (ri ys)=true∧g93 (ri xs) (ri ys)=WD xs ys:=by
 refine aK (t:=T93 (ri xs) (ri ys)) (P:=fun r=>r=WD xs ys) ?_
 obtain⟨a1,a2⟩:=YW xs hx;obtain⟨b1,b2⟩:=YW ys hy;unfold T93;have hc:(bif (bif (bif (!(dJ xs))then true else(!(dJ ys)))then true else(pG (xs.length:Int) 384))then true else(pG (ys.length:Int) 64))=!(dJ xs&&(dJ ys&&(leI (xs.length:Int) 384&&leI (ys.length:Int) 64))):=by
  rw[bIR,bIR];cases dJ xs<;>cases dJ ys<;>cases leI (xs.length:Int) 384<;>cases leI (ys.length:Int) 64<;>rfl
 unfold WD;cases hg:dJ xs&&(dJ ys&&(leI (xs.length:Int) 384&&leI (ys.length:Int) 64))
 ·simp only[aB,aI,aA,a1,a2,b1,b2,aT,bB,hc,hg,Bool.not_false,cond_false,Bool.and_true,Bool.true_or,true_and,Bool.true_eq_false,false_implies,forall_const,and_true]
 ·have hg':=hg;simp only[Bool.and_eq_true,lS]at hg';obtain⟨g1,g2,g3,g4⟩:=hg';obtain⟨c1,c2⟩:=cHM xs ys (by omega)
  have hA:=LK (xs:=xs) (i:=xs.length) (Nat.le_refl _) (by omega)
  obtain⟨d1,d2⟩:=cHN (CF xs xs.length) ys hA (by omega)
  have e0:List.replicate 512 (aY 0)=ri (CF xs 0):=by simp[CF,ri,List.map_replicate,aY]
  have e1:I3 (CF xs xs.length) ys 0=CF xs xs.length:=by simp[I3]
  rw[e1]at d1 d2;simp only[aB,aI,aA,a1H,a1G,qZ,e0,a1,a2,b1,b2,c1,c2,d1,d2,aT,bB,hc,hg,aD,bO,wz,Bool.not_true,cond_true,Bool.and_true,Bool.true_or,true_and,Bool.false_eq_true,false_implies,forall_const]
theorem I4{xs ys:List Int}:dJ (xs++ys)=(dJ xs&&dJ ys):=by simp[dJ]
theorem aN9{n:Nat}:dJ (List.replicate n 0)=true:=by
 unfold dJ;rw[List.all_eq_true];intro z hz;rw[List.eq_of_mem_replicate hz];rfl
theorem WE{xs ys:List Int}(h: ∀z∈ys,z∈xs)(hb:dJ xs=true):dJ ys=true:=by
 unfold dJ at*;rw[List.all_eq_true]at*;exact fun z hz=>hb z (h z hz)
theorem aXZ{xs ys:List Int}(hx:dJ xs=true)(hy:dJ ys=true):dJ (I3 (CF xs xs.length) ys ys.length)=true:=by
 have hA:dJ (CF xs xs.length)=true:=by unfold CF;rw[List.take_length,I4,hx,aN9];rfl
 unfold I3;rw[List.take_length,I4,I4,hy,WE (fun z hz=>List.mem_of_mem_take hz) hA,WE (fun z hz=>List.mem_of_mem_drop hz) hA];rfl
end Go.Proofs.YtdipcnijfkdnfaaGreatWhole

namespace Go.Proofs.YtdipcnijfkdnfaaGreatWhole
open Go Go.Zq
set_option maxHeartbeats 4000000
set_option maxRecDepth 100000
def nR(pc:Int):RM:=⟨[0,0,0,0],[0,0,0,384],0,pc,0,7,true,false⟩
def cR(xs:List Int)(pc:Int):aG×Bool:=bif (WD xs []).2&&cJ pc 0 65535 then(⟨(nR pc).g,(WD xs []).1,false,false⟩,true)else(⟨⟨[],[],0,0,0,0,false,false⟩,⟨[],[]⟩,false,false⟩,false)
theorem a85(xs:List Int)(pc:Int)(hx:xs.length<1000000):k20 (ri xs) pc=true∧g20 (ri xs) pc=cR xs pc:=by
 refine aK (t:=T20 (ri xs) pc) (P:=fun q=>q=cR xs pc) ?_
 obtain⟨a1,a2⟩:=b4U xs [] hx (by decide)
 obtain⟨n1,n2⟩:=a83;have a1':k93 (ri xs) []=true:=a1;have a2':g93 (ri xs) []=WD xs []:=a2;have l3:ltI 3 ((4:Nat):Int)=true:=by decide
 have b3:blt 3 4=true:=by decide
 have r3:j7 (j8 (ri r0.a) 3) 1=true:=by rw[yI (by decide)];rfl
 have l4:r0.a.length=4:=rfl;unfold T20 cR;simp only[aB,aI,aA,a1J,a1',a2',n1,n2,(PH _).1,(PH _).2,eS,eV,aX,cK,aW,bK,aV,aR,aT,bB,l4,l3,b3,r3,dY,List.length_set,aD,bO,wz,Bool.and_true,Bool.true_or,true_and];cases(WD xs []).2<;>cases cJ pc 0 65535<;>simp<;>rfl
def CG(t:Int)(c:aG):Prop:= ∃r zs l s h,c=bP r zs l s h∧RM.Ok t r∧BusOk zs l
theorem a86{xs:List Int}(h:(WD xs []).2=true): ∃zs,(WD xs []).1=pA zs []∧BusOk zs []:=by
 unfold WD at h⊢;cases hg:dJ xs&&(dJ []&&(leI (xs.length:Int) 384&&leI (([]:List Int).length:Int) 64))
 ·rw[hg]at h;simp at h
 ·simp only[Bool.and_eq_true,lS]at hg;obtain⟨g1,g2,g3,g4⟩:=hg;refine⟨_,rfl,WC (LK (Nat.le_refl _) (by omega)) (Nat.le_refl _) (by omega),aXZ g1 g2,by decide,rfl⟩
theorem aUL{xs:List Int}{pc:Int}(h:(cR xs pc).2=true): ∃zs,(cR xs pc).1=bP (nR pc) zs [] false false∧BusOk zs []∧cJ pc 0 65535=true:=by
 unfold cR at h⊢;cases hg:(WD xs []).2&&cJ pc 0 65535
 ·rw[hg]at h;simp at h
 ·rw[Bool.and_eq_true]at hg;obtain⟨zs,h1,h2⟩:=a86 hg.1;exact⟨zs,by rw[cond_true,h1];rfl,h2,hg.2⟩
theorem bP2:(cR [] 0).2=true:=by decide+kernel
theorem aUM{B t:Int}{c:aN}{r:RM}{zs:List Int}{p pc:Int}(hc:CO B c)(hr:r.Ok 65536)(hb:BusOk zs [])(hp:cJ pc 0 65535=true)(s h:Bool):CG 65536 (aG.mk (RM.g {r with pc:=pc}) (pA zs []) s h)∧CG 65536 (aG.mk r.g (pA zs []) s h):=
 ⟨⟨_,zs,[],s,h,rfl,hr.setP hp,hb⟩,⟨_,zs,[],s,h,rfl,hr,hb⟩⟩
theorem bIS{c:aN}{B:Int}(h:CO B c)(hB:B<100000000000000000):k71 c=true∧(CO (B+50000) (g71 c).1∧CG 65536 (g71 c).2):=by
 refine aK (t:=T71 c) (P:=fun q=>CO (B+50000) q.1∧CG 65536 q.2) ?_
 obtain⟨a1,a2,⟨xs,a3,a4⟩,a5,a6⟩:=bGT h (by omega)
 obtain⟨b1,b2,r,b3,b4⟩:=bPX a2 (by omega)
 obtain⟨c1,c2⟩:=a85 xs (xO c).2.2 (by omega)
 obtain⟨d1,d2⟩:=a85 [] 0 (by decide)
 have d1:k20 [] 0=true:=d1;have d2:g20 [] 0=cR [] 0:=d2;obtain⟨z0,e1,e2,e3⟩:=aUL bP2;obtain⟨f1,f2,-⟩:=eU 60 b2 (by omega)
 have lz:=f2.mono (C:=B+50000) (by omega)
 unfold T71;cases hg:(cR xs (xO c).2.2).2
 ·have q:=aUM (t:=0) (p:=0) f2 b4 e2 e3;simp only[aB,aI,aA,aGA,GV,aF9,GU,vI,J9,a1,a3,b1,b3,c1,c2,d1,d2,e1,f1,hg,bP,eS,eV,aX,cK,aW,bK,aV,aR,jB,show(nR 0).pc=0 from rfl,aD,bO,wz,Bool.not_false,Bool.and_true,true_and,Bool.true_eq_false,false_implies,and_true,forall_const]
  exact⟨fun _=>⟨lz,(q _ _).1⟩,fun _=>⟨fun _=>⟨lz,(q _ _).1⟩,fun _=>⟨fun _=>⟨lz,(q _ _).2⟩,fun _=>⟨lz,(q _ _).1⟩⟩⟩⟩
 ·obtain⟨zs,i1,i2,i3⟩:=aUL hg;have q:=aUM (t:=0) (p:=0) f2 b4 i2 i3;simp only[aB,aI,aA,aGA,GV,aF9,GU,vI,J9,a1,a3,b1,b3,c1,c2,i1,f1,hg,bP,eS,eV,aX,cK,aW,bK,aV,aR,jB,show∀p,(nR p).pc=p from fun _=>rfl,aD,bO,wz,Bool.not_true,Bool.and_true,true_and,Bool.false_eq_true,false_implies,forall_const]
  exact⟨fun _=>⟨lz,(q _ _).1⟩,fun _=>⟨fun _=>⟨lz,(q _ _).1⟩,fun _=>⟨fun _=>⟨lz,(q _ _).2⟩,fun _=>⟨lz,(q _ _).1⟩⟩⟩⟩
end Go.Proofs.YtdipcnijfkdnfaaGreatWhole

namespace Go.Proofs.YtdipcnijfkdnfaaGreatWhole
open Go Go.Zq
set_option maxHeartbeats 4000000
set_option maxRecDepth 100000
def aOA(p:aE×aE):Bool:=eqI p.1.Kind p.2.Kind&&(eqI p.1.Size p.2.Size&&(eqI p.1.Addr p.2.Addr&&(eqI p.1.Value p.2.Value&&(eqI p.1.Code p.2.Code&&true))))
def aG5(l m:List aE):Bool:=eqI (l.length:Int) (m.length:Int)&&(l.zip m).all aOA
theorem aG6: ∀{l:List aE}{p:aE×aE},p∈l.zip l→p.1=p.2
 |[],p,h=>by simp at h
 |a::l,p,h=>by
  rw[List.zip_cons_cons,List.mem_cons]at h;rcases h with rfl|h
  ·rfl
  ·exact aG6 h
theorem aX0(l:List aE):aG5 l l=true:=by
 unfold aG5;rw[show eqI (l.length:Int) (l.length:Int)=true by simp,Bool.true_and,List.all_eq_true]
 intro p hp;have:p.1=p.2:=aG6 hp;unfold aOA;rw[this];simp
def aX1(r q:RM):Bool:=decide (r.d=q.d)&&(decide (r.a=q.a)&&(eqI r.oth q.oth&&(eqI r.pc q.pc&&(eqI r.fl q.fl&&(eqI r.mask q.mask&&(AX r.sup q.sup&&AX r.tr q.tr))))))
theorem aX2(r:RM):aX1 r r=true:=by simp[aX1]
theorem b2(a b:Bool):(bif a then b else false)=(a&&b):=by cases a<;>rfl
theorem aX3(l m:List aE)(hl:l.length<1000000)(he:l.length=m.length):aNT (V157_0.mk (l.map aE.row) (m.map aE.row) (bX (l.map aE.row)) 0)=true∧(ltI (aD4 (V157_0.mk (l.map aE.row) (m.map aE.row) (bX (l.map aE.row)) 0)).s13 (aD4 (V157_0.mk (l.map aE.row) (m.map aE.row) (bX (l.map aE.row)) 0)).s12=!(l.zip m).all aOA):=by
 unfold aNT aD4;refine jA (Post:=fun w:V157_0=>ltI w.s13 w.s12=!(l.zip m).all aOA) (eY (fun n v=> ∃i:Nat,v=V157_0.mk (l.map aE.row) (m.map aE.row) (bX (l.map aE.row)) i∧i≤l.length∧n=l.length-i∧ ∀j(hj:j<(l.zip m).length),j<i→aOA (l.zip m)[j]=true) _ ?_ 2097152 l.length _ ⟨0,rfl,by omega,by omega,fun j _ h=>absurd h (by omega)⟩ (by omega))
 rintro n v ⟨i,rfl,hi,rfl,hall⟩
 have hz:(l.zip m).length=l.length:=by simp;omega
 unfold N7;simp only[aB,aI,aA,aT,List.length_map,eD,nV,true_and,Int.toNat_natCast];constructor
 ·intro h;have hi':i<l.length:=by omega
  have hy':i<m.length:=by omega
  obtain⟨p1,p2⟩:=aD8 hi';obtain⟨q1,q2⟩:=aD8 hy';have hzi:i<(l.zip m).length:=by omega
  have ez:(l.zip m)[i]=(l[i],m[i]):=by simp
  have cond:(!(eqI (bR (l.map aE.row) i 0) (bR (m.map aE.row) i 0)&&(eqI (bR (l.map aE.row) i 1) (bR (m.map aE.row) i 1)&&(eqI (bR (l.map aE.row) i 2) (bR (m.map aE.row) i 2)&&(eqI (bR (l.map aE.row) i 3) (bR (m.map aE.row) i 3)&&(eqI (bR (l.map aE.row) i 4) (bR (m.map aE.row) i 4)&&true))))))=!aOA (l.zip m)[i]:=by
   rw[ez];have a0:bR (l.map aE.row) i 0=l[i].Kind:=congrArg aE.Kind p2;have a1:bR (l.map aE.row) i 1=l[i].Size:=congrArg aE.Size p2;have a2:bR (l.map aE.row) i 2=l[i].Addr:=congrArg aE.Addr p2;have a3:bR (l.map aE.row) i 3=l[i].Value:=congrArg aE.Value p2;have a4:bR (l.map aE.row) i 4=l[i].Code:=congrArg aE.Code p2;have c0:bR (m.map aE.row) i 0=m[i].Kind:=congrArg aE.Kind q2;have c1:bR (m.map aE.row) i 1=m[i].Size:=congrArg aE.Size q2;have c2:bR (m.map aE.row) i 2=m[i].Addr:=congrArg aE.Addr q2;have c3:bR (m.map aE.row) i 3=m[i].Value:=congrArg aE.Value q2;have c4:bR (m.map aE.row) i 4=m[i].Code:=congrArg aE.Code q2;rw[a0,a1,a2,a3,a4,c0,c1,c2,c3,c4];rfl
  rw[p1,q1,cond];refine⟨rfl,fun hq=>?_,fun hq=>?_⟩
  ·rw[aTY hzi (by simpa using hq)]
   simpa [ltI]using h
  ·refine⟨_,?_,i+1,?_,by omega,rfl,?_⟩
   ·omega
   ·rw[bV (by omega)];rfl
   ·intro j hj hji;by_cases e:j=i
    ·subst e;simpa using hq
    ·exact hall j hj (by omega)
 ·intro h;rw[aTZ fun j hj=>hall j hj (by omega)]
  simpa [ltI]using h
theorem bP3(l m:List aE)(hl:l.length<1000000):bOT (l.map aE.row) (m.map aE.row)=true∧bOS (l.map aE.row) (m.map aE.row)=aG5 l m:=by
 refine aK (t:=a7O (l.map aE.row) (m.map aE.row)) (P:=fun q=>q=aG5 l m) ?_
 unfold a7O aG5;by_cases he:l.length=m.length
 ·obtain⟨h1,h2⟩:=aX3 l m hl he;have e:dD (bX (l.map aE.row)) (bX (m.map aE.row))=false:=by simp[he]
  have e2:eqI (l.length:Int) (m.length:Int)=true:=by simp[he]
  simp only[aB,aI,aA,aNU,h1,h2,e,e2,Bool.true_and,true_and,Bool.false_eq_true,false_implies,forall_const];cases(l.zip m).all aOA<;>simp
 ·have e:dD (bX (l.map aE.row)) (bX (m.map aE.row))=true:=by simp;omega
  have e2:eqI (l.length:Int) (m.length:Int)=false:=by simp;omega
  simp only[aB,aI,aA,e,e2,Bool.false_and,true_and,Bool.true_eq_false,false_implies,forall_const,and_true]
end Go.Proofs.YtdipcnijfkdnfaaGreatWhole

namespace Go.Proofs.YtdipcnijfkdnfaaGreatWhole
open Go Go.Zq
set_option maxHeartbeats 4000000
set_option maxRecDepth 100000
theorem bP4(r q:RM)(hr:r.d.length<1000000)(ha:r.a.length<1000000):k13 r.g q.g=true∧g13 r.g q.g=aX1 r q:=by
 refine aK (t:=T13 r.g q.g) (P:=fun z=>z=aX1 r q) ?_
 obtain⟨a1,a2⟩:=CB r.d q.d hr;obtain⟨c1,c2⟩:=CB r.a q.a ha;unfold T13 aX1;simp only[aB,aA,eS,eV,aX,cK,aW,bK,aV,aR,a1,a2,c1,c2,b2,Bool.and_assoc,Bool.true_or,Bool.and_true,true_and]
def a87(r:RM)(zs:List Int)(l:List aE)(s h:Bool)(q:RM)(ys:List Int)(m:List aE)(s' h':Bool):Bool:=aX1 r q&&(decide (zs=ys)&&(aG5 l m&&(AX s s'&&AX h h')))
theorem aX4(r:RM)(zs:List Int)(l:List aE)(s h:Bool):a87 r zs l s h r zs l s h=true:=by simp[a87,aX2,aX0]
theorem bGU(zs ys:List Int)(l m:List aE)(hz:zs.length<1000000)(hl:l.length<1000000):k82 (pA zs l) (pA ys m)=true∧g82 (pA zs l) (pA ys m)=(decide (zs=ys)&&aG5 l m):=by
 refine aK (t:=T82 (pA zs l) (pA ys m)) (P:=fun z=>z=(decide (zs=ys)&&aG5 l m)) ?_
 obtain⟨a1,a2⟩:=CB zs ys hz;obtain⟨c1,c2⟩:=bP3 l m hl;unfold T82;simp only[aB,aA,VY,VZ,a1,a2,c1,c2,b2,Bool.true_or,Bool.and_true,true_and]
structure Sz(r:RM)(zs:List Int)(l:List aE):Prop where
 d:r.d.length<1000000
 a:r.a.length<1000000
 z:zs.length<1000000
 l:l.length<1000000
theorem bGV(r q:RM)(zs ys:List Int)(l m:List aE)(s h s' h':Bool)(z:Sz r zs l):k11 (bP r zs l s h) (bP q ys m s' h')=true∧g11 (bP r zs l s h) (bP q ys m s' h')=a87 r zs l s h q ys m s' h':=by
 refine aK (t:=T11 (bP r zs l s h) (bP q ys m s' h')) (P:=fun w=>w=a87 r zs l s h q ys m s' h') ?_
 obtain⟨a1,a2⟩:=bP4 r q z.d z.a;obtain⟨c1,c2⟩:=bGU zs ys l m z.z z.l;unfold T11 a87 bP;simp only[aB,aA,a1,a2,c1,c2,b2,Bool.and_assoc,Bool.true_or,Bool.and_true,true_and]
end Go.Proofs.YtdipcnijfkdnfaaGreatWhole

namespace Go.Proofs.YtdipcnijfkdnfaaGreatWhole
open Go Go.Zq
set_option maxHeartbeats 4000000
set_option maxRecDepth 100000
theorem aUN{t:Int}{zs:List Int}{i:Nat}(h:i<zs.length)(hz:cJ zs[i] 0 t=false):iE t zs=false:=aTY h hz
theorem aUO{t:Int}{zs:List Int}(h: ∀j(hj:j<zs.length),cJ zs[j] 0 t=true):iE t zs=true:=aTZ h
theorem cHO(x:Int):bB8 x=!cJ x 0 65535:=by
 simp[bB8,dX,a1P,(EM _).2]
theorem cHP(x:Int):bB9 x=true:=by
 simp[bB9,dX,a1P,(EM _).1]
theorem aX5(zs:List Int)(hl:zs.length<1000000):aKA (V227_0.mk (ri zs) (bX (ri zs)) 0)=true∧0≤(TF (V227_0.mk (ri zs) (bX (ri zs)) 0)).s8∧(ltI (TF (V227_0.mk (ri zs) (bX (ri zs)) 0)).s8 (TF (V227_0.mk (ri zs) (bX (ri zs)) 0)).s7=!iE 65535 zs):=by
 unfold aKA TF;refine jA (Post:=fun w=>0≤w.s8∧ltI w.s8 w.s7=!iE 65535 zs) (eY (fun n v=> ∃i:Nat,v=V227_0.mk (ri zs) (bX (ri zs)) i∧i≤zs.length∧n=zs.length-i∧ ∀j(hj:j<zs.length),j<i→cJ zs[j] 0 65535=true) _ ?_ 2097152 zs.length _ ⟨0,rfl,by omega,by omega,fun j _ h=>absurd h (by omega)⟩ (by omega))
 rintro n v ⟨i,rfl,hi,rfl,hall⟩
 unfold NA;simp only[aB,aI,aA,aT,bB,eD,nV,true_and,Int.toNat_natCast];constructor
 ·intro h;have hi':i<zs.length:=by omega
  rw[vC hi',o9 hi',cHP,cHO];refine⟨rfl,fun hz=>?_,fun hz=>?_⟩
  ·rw[aUN hi' (by simpa using hz)]
   exact⟨by omega,by simpa [ltI]using h⟩
  ·refine⟨_,?_,i+1,?_,by omega,rfl,?_⟩
   ·omega
   ·rw[bV (by omega)];rfl
   ·intro j hj hji;by_cases e:j=i
    ·subst e;simpa using hz
    ·exact hall j hj (by omega)
 ·intro h;rw[aUO fun j hj=>hall j hj (by omega)]
  exact⟨by omega,by simpa [ltI]using h⟩
theorem bP5(zs:List Int)(hl:zs.length<1000000):a1S (ri zs)=true∧a1R (ri zs)=!iE 65535 zs:=by
 obtain⟨h1,h2,h3⟩:=aX5 zs hl;have a:bCH (ri zs)=true∧geI (bCG (ri zs)) 0=!iE 65535 zs:=by
  unfold bCH bCG bCF aBD;rw[dX,dX];simp only[zT,IY,pH,rN,IZ,kI,h1,h3,Bool.true_and];cases iE 65535 zs
  ·exact⟨rfl,by simpa using h2⟩
  ·exact⟨rfl,rfl⟩
 have b:a1S (ri zs)=true∧a1R (ri zs)=!iE 65535 zs:=by
  unfold a1S a1R bCI;rw[dX,dX];simp only[zT,pH,rN,kI,a.1,a.2,Bool.true_and,and_self]
 exact b
theorem a88(zs:List Int)(hl:zs.length<1000000):bCJ (ri zs)=true∧a1U (ri zs)=(eqI (zs.length:Int) 4&&iE 65535 zs):=by
 refine aK (t:=a1T (ri zs)) (P:=fun q=>q=(eqI (zs.length:Int) 4&&iE 65535 zs)) ?_
 obtain⟨a1,a2⟩:=bP5 zs hl;unfold a1T;simp only[aB,aA,a1,a2,b2,aT,bB,Bool.not_not,Bool.true_or,Bool.and_true,true_and]
def LM(r:RM):Bool:=(eqI (r.d.length:Int) 4&&iE 65535 r.d)&&((eqI (r.a.length:Int) 4&&iE 65535 r.a)&&(cJ r.oth 0 65535&&(cJ r.pc 0 65535&&(cJ r.fl 0 31&&cJ r.mask 0 7))))
theorem bGW(r:RM)(hd:r.d.length<1000000)(ha:r.a.length<1000000):bKH r.g=true∧bCL r.g=LM r:=by
 refine aK (t:=a1X r.g) (P:=fun q=>q=LM r) ?_
 obtain⟨a1,a2⟩:=a88 r.d hd;obtain⟨c1,c2⟩:=a88 r.a ha;unfold a1X LM;simp only[aB,aA,aKE,aKD,aKC,aKB,eS,eV,aX,cK,aW,bK,aV,aR,a1,a2,c1,c2,(EM _).1,(EM _).2,(aUE _).1,(aUE _).2,kJ,kK,b2,Bool.and_assoc,Bool.true_or,Bool.and_true,true_and]
theorem aX6(zs:List Int)(hl:zs.length<1000000)(x:List Row):aL6 (V206_0.mk x (ri zs) (bX (ri zs)) 0)=true∧((UW (V206_0.mk x (ri zs) (bX (ri zs)) 0)).s0=x∧ltI (UW (V206_0.mk x (ri zs) (bX (ri zs)) 0)).s7 (UW (V206_0.mk x (ri zs) (bX (ri zs)) 0)).s6=!iE 65535 zs):=by
 unfold aL6 UW;refine jA (Post:=fun w:V206_0=>w.s0=x∧ltI w.s7 w.s6=!iE 65535 zs) (eY (fun n v=> ∃i:Nat,v=V206_0.mk x (ri zs) (bX (ri zs)) i∧i≤zs.length∧n=zs.length-i∧ ∀j(hj:j<zs.length),j<i→cJ zs[j] 0 65535=true) _ ?_ 2097152 zs.length _ ⟨0,rfl,by omega,by omega,fun j _ h=>absurd h (by omega)⟩ (by omega))
 rintro n v ⟨i,rfl,hi,rfl,hall⟩
 unfold NV;simp only[aB,aI,aA,aT,bB,eD,nV,true_and,Int.toNat_natCast];constructor
 ·intro h;have hi':i<zs.length:=by omega
  rw[vC hi',o9 hi',(PH _).2,(PH _).1];refine⟨rfl,rfl,fun hz=>?_,fun hz=>?_⟩
  ·rw[aUN hi' (by simpa using hz)]
   simpa [ltI]using h
  ·refine⟨_,?_,i+1,?_,by omega,rfl,?_⟩
   ·omega
   ·rw[bV (by omega)];rfl
   ·intro j hj hji;by_cases e:j=i
    ·subst e;simpa using hz
    ·exact hall j hj (by omega)
 ·intro h;rw[aUO fun j hj=>hall j hj (by omega)]
  simpa [ltI]using h
theorem a89(zs:List Int)(hl:zs.length<1000000):bES (ri zs)=true∧a44 (ri zs)=(eqI (zs.length:Int) 4&&iE 65535 zs):=by
 refine aK (t:=a43 (ri zs)) (P:=fun q=>q=(eqI (zs.length:Int) 4&&iE 65535 zs)) ?_
 obtain⟨h1,h0,h2⟩:=aX6 zs hl (ri zs);simp only[aT,bB]at h1 h0 h2;unfold a43;simp only[aB,aI,aA,aCW,h1,h0,h2,aT,bB,aD,bO,wz,Bool.and_true,true_and];cases iE 65535 zs<;>simp
theorem bGX(r:RM)(hd:r.d.length<1000000)(ha:r.a.length<1000000):bM3 r.g=true∧bET r.g=LM r:=by
 refine aK (t:=a46 r.g) (P:=fun q=>q=LM r) ?_
 obtain⟨a1,a2⟩:=a89 r.d hd;obtain⟨c1,c2⟩:=a89 r.a ha;unfold a46 LM;simp only[aB,aA,aMA,aL9,aL8,aL7,eS,eV,aX,cK,aW,bK,aV,aR,a1,a2,c1,c2,(PH _).1,(PH _).2,(aUF _).1,(aUF _).2,sS,sT,aD,bO,wz,b2,Bool.and_assoc,Bool.true_or,Bool.and_true,true_and]
def iL(r:RM)(zs:List Int)(l:List aE)(s h:Bool):Bool:=LM r&&(PJ zs l&&!(s&&h))
structure Sm(r:RM)(zs:List Int)(l:List aE):Prop where
 d:r.d.length≤1000
 a:r.a.length≤1000
 z:zs.length≤512
 l:l.length≤1000
theorem Sm.of{t:Int}{r:RM}{zs:List Int}{l:List aE}(h:r.Ok t)(b:BusOk zs l):Sm r zs l:=by
 have h1:=h.d4;have h2:=h.a4;have h3:=b.hz;have h4:=b.hl;exact⟨by omega,by omega,by omega,by omega⟩
theorem Sm.sz{r:RM}{zs:List Int}{l:List aE}(m:Sm r zs l):Sz r zs l:=⟨by have:=m.d;omega,by have:=m.a;omega,by have:=m.z;omega,by have:=m.l;omega⟩
theorem Sm.len{r:RM}{zs:List Int}{l:List aE}(m:Sm r zs l)(s h:Bool):aXS (bP r zs l s h):=by
 have h1:=m.d;have h2:=m.a;have h3:=m.z;have h4:=m.l;refine⟨?_,?_,?_,?_⟩
 ·show(ri r.d).length≤2000;rw[bB];omega
 ·show(ri r.a).length≤2000;rw[bB];omega
 ·show(ri zs).length≤2000;rw[bB];omega
 ·show(l.map aE.row).length≤2000;rw[List.length_map];omega
theorem QH{r:RM}{zs:List Int}{l:List aE}(s h:Bool)(m:Sm r zs l):k30 (bP r zs l s h)=true∧g30 (bP r zs l s h)=iL r zs l s h:=by
 refine aK (t:=T30 (bP r zs l s h)) (P:=fun q=>q=iL r zs l s h) ?_
 obtain⟨a1,a2⟩:=bGW r (by have:=m.d;omega) (by have:=m.a;omega)
 obtain⟨c1,c2⟩:=bP1 zs l (by have:=m.z;omega) (by have:=m.l;omega)
 have c1':bC3 (pA zs l)=true:=c1;have c2':bC2 (pA zs l)=PJ zs l:=c2;unfold T30 iL bP;simp only[aB,aA,a1,a2,c1',c2',b2,Bool.and_assoc,Bool.true_or,Bool.and_true,true_and]
theorem aUP{r:RM}{zs:List Int}{l:List aE}(s h:Bool)(m:Sm r zs l):k76 (bP r zs l s h)=true∧g76 (bP r zs l s h)=iL r zs l s h:=by
 refine aK (t:=T76 (bP r zs l s h)) (P:=fun q=>q=iL r zs l s h) ?_
 obtain⟨a1,a2⟩:=bGX r (by have:=m.d;omega) (by have:=m.a;omega)
 obtain⟨c1,c2⟩:=bPD (b:=pA zs l) (zs:=zs) (l:=l) ⟨⟨zs,rfl⟩,⟨l,rfl⟩,by rw[VY,bB];exact m.z,by rw[VZ,List.length_map];exact m.l⟩ rfl rfl
 unfold T76 iL bP PJ;simp only[aB,aA,a1,a2,c1,c2,aD,bO,wz,b2,Bool.and_assoc,Bool.true_or,Bool.and_true,true_and]
theorem GA{r:RM}{zs:List Int}{l:List aE}{s h:Bool}(g:iL r zs l s h=true):r.Ok 65535∧BusOk zs l:=by
 unfold iL LM PJ at g;simp only[Bool.and_eq_true,eC,lS]at g;obtain⟨⟨⟨a1,a2⟩,⟨a3,a4⟩,a5,a6,a7,a8⟩,⟨b1,b2,b3,b4⟩,-⟩:=g;exact⟨⟨by decide,by decide,by omega,by omega,a2,a4,a5,a6,a7,a8⟩,⟨by omega,b3,by omega,b4⟩⟩
theorem a9A{r:aJ}(h1:r.D.length≤2000)(h2:r.A.length≤2000):bC8 r=true∧WX r=r:=by
 refine aK (t:=a2C r) (P:=fun q=>q=r) ?_
 obtain⟨a1,a2,a3,a4,a5,a6,a7,a8,a9⟩:=GY h1;obtain⟨c1,c2,c3,c4,c5,c6,c7,c8,c9⟩:=GY h2;unfold a2C;simp only[aB,aA,aKP,aD,bO,wz,bL,cQ,aZ,cS,Bool.and_true,true_and,(PG).1,(PG).2,a1,a3,a4,a6,c1,c3,c4,c6]
theorem bP6{b:bM}(h1:b.Bytes.length≤2000)(h2:b.Log.length≤2000):bKQ b=true∧aWJ b=b:=by
 refine aK (t:=a2D b) (P:=fun r=>r=b) ?_
 obtain⟨a1,a2,a3,a4,a5,a6,a7,a8,a9⟩:=GY h1;obtain⟨c1,c2,c3,c4,c5,c6,c7,c8,c9⟩:=GY h2;unfold a2D;simp only[aB,aA,aKQ,aD,bO,wz,bL,cQ,aZ,cS,Bool.and_true,true_and,(PG).1,(PG).2,a1,a4,a6,c2,c5,c6]
theorem aES{c:aG}(h:aXS c):k74 c=true∧KD c=c:=by
 refine aK (t:=T74 c) (P:=fun r=>r=c) ?_
 obtain⟨h1,h2,h3,h4⟩:=h;unfold T74;simp only[aB,aA,a2E,bH5,bH4,jI,iV,a9A h1 h2,bP6 h3 h4,aD,bO,wz,bL,cQ,aZ,cS,Bool.and_true,true_and]
end Go.Proofs.YtdipcnijfkdnfaaGreatWhole

namespace Go.Proofs.YtdipcnijfkdnfaaGreatWhole
open Go Go.Zq
set_option maxHeartbeats 4000000
set_option maxRecDepth 100000
theorem jZ{m:MM}{k s a v:Int}(h:m.f.Vector=0):cF (cU m k s a v).1=eqI (cW k s a) 0:=by
 unfold cU cF;dsimp only;rw[h];cases hc:eqI (cW k s a) 0
 ·have:dD (cW k s a) 0=true:=by rw[iS]at hc;exact oP.2 hc
  rw[this];cases eqI (cW k s a) 2<;>rfl
 ·have:dD (cW k s a) 0=false:=by rw[eC]at hc;exact PE.2 hc
  rw[this,Bool.false_and,cond_false,h];rfl
def mm(r:RM)(zs:List Int)(l:List aE)(s:Bool):MM:=⟨r,zs,l,s,f0⟩
theorem aOB{v t:Int}{r:RM}{zs:List Int}{l:List aE}{s h:Bool}(hr:r.Ok t)(hb:BusOk zs l)(h0:0≤v)(h1:v≤65535):k75 v (bP r zs l s h)=true∧g75 v (bP r zs l s h)=(bP (eL (mm r zs l s) v).r (eL (mm r zs l s) v).zs (eL (mm r zs l s) v).l s h,(cX r.a 3-2)%65536,cW 2 2 ((cX r.a 3-2)%65536)):=by
 refine aK (t:=T75 v (bP r zs l s h)) (P:=fun q=>q=(bP (eL (mm r zs l s) v).r (eL (mm r zs l s) v).zs (eL (mm r zs l s) v).l s h,(cX r.a 3-2)%65536,cW 2 2 ((cX r.a 3-2)%65536))) ?_
 have hm:(mm r zs l s).Ok t:=⟨hr,hb⟩;obtain⟨b1,b2,b3,b4,b5,b6,b7⟩:=AT hr;have fa:=V1 hm h0 h1;obtain⟨a1,a2⟩:=FY (k:=2) (a:=(cX r.a 3-2)%65536) (fa.t hm) fa.ha (fun e=>absurd e (by decide))
 have a1':H7 2 2 ((cX r.a 3-2)%65536) v (pA zs l)=true:=a1;have a2':KI 2 2 ((cX r.a 3-2)%65536) v (pA zs l)=(pA (tB 2 2 ((cX r.a 3-2)%65536) v zs) (tL 2 2 ((cX r.a 3-2)%65536) v zs l),0,cW 2 2 ((cX r.a 3-2)%65536)):=a2;have hf:cF (cU (mm r zs l s) 2 2 ((cX r.a 3-2)%65536) v).1=eqI (cW 2 2 ((cX r.a 3-2)%65536)) 0:=jZ rfl;unfold T75 eL;simp only[aB,aI,aA,a33,a32,aRB,O9,show(bP r zs l s h).R=r.g from rfl,show(bP r zs l s h).Bus=pA zs l from rfl,show(bP r zs l s h).Stop=s from rfl,show(bP r zs l s h).Halt=h from rfl,eS,eV,aX,cK,aW,bK,aV,aR,aT,bB,b1,b2,b3,b4,b5,b6,a1',a2',dY,List.length_set,aD,bO,wz,Bool.and_true,true_and]
 have e:(mm r zs l s).r=r:=rfl;rw[e,hf];refine⟨fun q=>by rw[q];rfl,fun q=>by rw[q];rfl⟩
theorem b4V{t:Int}{r:RM}{zs:List Int}{l:List aE}{s h:Bool}(hr:r.Ok t)(hb:BusOk zs l):k83 (bP r zs l s h)=true∧g83 (bP r zs l s h)=(bP (dM (mm r zs l s)).1.r (dM (mm r zs l s)).1.zs (dM (mm r zs l s)).1.l s h,(dM (mm r zs l s)).2,cX r.a 3,cW 1 2 (cX r.a 3)):=by
 refine aK (t:=T83 (bP r zs l s h)) (P:=fun q=>q=(bP (dM (mm r zs l s)).1.r (dM (mm r zs l s)).1.zs (dM (mm r zs l s)).1.l s h,(dM (mm r zs l s)).2,cX r.a 3,cW 1 2 (cX r.a 3))) ?_
 have hm:(mm r zs l s).Ok t:=⟨hr,hb⟩;obtain⟨b1,b2,b3,b4,b5,b6,b7⟩:=AT hr;have fa:=aEE hm;obtain⟨a1,a2⟩:=FY (k:=1) (a:=cX r.a 3) (fa.t hm) fa.ha (fun e=>rfl)
 have a1':H7 1 2 (cX r.a 3) 0 (pA zs l)=true:=a1;have a2':KI 1 2 (cX r.a 3) 0 (pA zs l)=(pA (tB 1 2 (cX r.a 3) 0 zs) (tL 1 2 (cX r.a 3) 0 zs l),tV 1 2 (cX r.a 3) 0 zs,cW 1 2 (cX r.a 3)):=a2;have hf:cF (cU (mm r zs l s) 1 2 (cX r.a 3) 0).1=eqI (cW 1 2 (cX r.a 3)) 0:=jZ rfl;unfold T83 dM;simp only[aB,aI,aA,a38,a37,aRE,GW,show(bP r zs l s h).R=r.g from rfl,show(bP r zs l s h).Bus=pA zs l from rfl,show(bP r zs l s h).Stop=s from rfl,show(bP r zs l s h).Halt=h from rfl,eS,eV,aX,cK,aW,bK,aV,aR,aT,bB,b1,b2,b3,b4,b5,b7,a1',a2',dY,List.length_set,aD,bO,wz,Bool.and_true,true_and]
 have e:(mm r zs l s).r=r:=rfl;rw[e,hf];refine⟨fun q=>by rw[q];rfl,fun q=>by rw[q];rfl⟩
def zC:aG:=⟨⟨[],[],0,0,0,0,false,false⟩,⟨[],[]⟩,false,false⟩
theorem aX7(r:RM)(zs:List Int)(l:List aE)(s:Bool)(v:Int):cF (eL (mm r zs l s) v)=eqI (cW 2 2 ((cX r.a 3-2)%65536)) 0:=by
 have hf:cF (cU (mm r zs l s) 2 2 ((cX r.a 3-2)%65536) v).1=eqI (cW 2 2 ((cX r.a 3-2)%65536)) 0:=jZ rfl;have e:(mm r zs l s).r=r:=rfl;unfold eL;rw[e,hf];cases hc:eqI (cW 2 2 ((cX r.a 3-2)%65536)) 0
 ·rw[cond_false,hf,hc]
 ·rw[cond_true];rw[hc]at hf;exact hf
theorem ZB(m:MM)(v:Int):(eL m v).stop=m.stop:=by
 unfold eL;exact cE (P:=fun z:MM=>z.stop=m.stop) (fun _=>rfl) (fun _=>rfl)
theorem aG7(m:MM):(dM m).1.stop=m.stop:=by
 unfold dM;exact cE (P:=fun z:MM=>z.stop=m.stop) (fun _=>rfl) (fun _=>rfl)
end Go.Proofs.YtdipcnijfkdnfaaGreatWhole

namespace Go.Proofs.YtdipcnijfkdnfaaGreatWhole
open Go Go.Zq
set_option maxHeartbeats 4000000
set_option maxRecDepth 100000
def AW(f:aL):Bool:=eqI f.Vector 2||eqI f.Vector 3
def lA(f:aL):Bool:=cJ f.Vector 2 21&&(cJ f.PC 0 65535&&(cJ f.Addr 0 65535&&(cJ f.Word 0 65535&&(AW f||(eqI f.Addr 0&&!f.Write)))))
theorem LN(f:aL):bEI f=true∧bEH f=AW f:=by
 refine aK (t:=a4U f) (P:=fun q=>q=AW f) ?_
 unfold a4U AW;simp only[aB,aI,aA,Bool.and_true,true_and];cases eqI f.Vector 2<;>cases eqI f.Vector 3<;>rfl
theorem aG8(f:aL):bN8 f.Vector=true∧bN7 f.Vector=AW f:=by
 refine aK (t:=a7C f.Vector) (P:=fun q=>q=AW f) ?_
 unfold a7C AW;simp only[aB,aI,aA,Bool.and_true,true_and];cases eqI f.Vector 2<;>cases eqI f.Vector 3<;>rfl
theorem bGY(f:aL):k28 f=true∧g28 f=lA f:=by
 refine aK (t:=T28 f) (P:=fun q=>q=lA f) ?_
 unfold T28 lA;simp only[aB,aI,aA,a7U,a7T,(EM _).1,(EM _).2,(LN f).1,(LN f).2,kJ,kK,Bool.and_true,true_and];cases cJ f.Vector 2 21<;>cases cJ f.PC 0 65535<;>cases cJ f.Addr 0 65535<;>cases cJ f.Word 0 65535<;>cases AW f<;>cases eqI f.Addr 0<;>cases f.Write<;>simp
end Go.Proofs.YtdipcnijfkdnfaaGreatWhole

namespace Go.Proofs.YtdipcnijfkdnfaaGreatWhole
open Go Go.Zq
set_option maxHeartbeats 4000000
set_option maxRecDepth 100000
theorem PK(b:Bool)(n:Int):zA b n=true∧yZ b n=bif b then n else 0:=by
 refine aK (t:=aBV b n) (P:=fun q=>q=bif b then n else 0) ?_
 unfold aBV;cases b<;>simp
theorem a9B{t:Int}{r:RM}(h:r.Ok t):bMJ r.g=true∧bMI r.g=fR r:=by
 refine aK (t:=a4O r.g) (P:=fun q=>q=fR r) ?_
 have f:=aU.1 h.fw;have k:=aU.1 h.mw;have t1:=h.t1;have e1:dE 32 r.mask=32*r.mask:=gU (by omega)
 have b1: ∀(b:Bool)(n:Int),(bif b then n else 0)=0∨(bif b then n else 0)=n:=fun b n=>by cases b<;>simp
 have c1:=b1 r.sup 256;have c2:=b1 r.tr 512;unfold a4O fR;simp only[aB,aA,eS,eV,aX,cK,aW,bK,aV,aR,(PK _ _).1,(PK _ _).2,e1,aD,bO,wz,Bool.and_true,true_and];rw[bV (x:=r.fl) (by omega),bV (x:=r.fl+32*r.mask) (by omega),bV (by omega)]
theorem aOC{t:Int}{r:RM}(h:r.Ok t):aCI r.g=true∧UQ r.g=fR r:=by
 refine aK (t:=UP r.g) (P:=fun q=>q=fR r) ?_
 have f:=aU.1 h.fw;have k:=aU.1 h.mw;have t1:=h.t1;have e1:dE 32 r.mask=32*r.mask:=gU (by omega)
 have b1: ∀(b:Bool)(n:Int),(bif b then n else 0)=0∨(bif b then n else 0)=n:=fun b n=>by cases b<;>simp
 have c1:=b1 r.sup 256;have c2:=b1 r.tr 512;unfold UP fR;simp only[aB,aA,eS,eV,aX,cK,aW,bK,aV,aR,(PK _ _).1,(PK _ _).2,e1,aD,bO,wz,Bool.and_true,Bool.and_self,true_and];rw[bV (x:=r.fl) (by omega),bV (x:=r.fl+32*r.mask) (by omega),bV (by omega)]
theorem aOD{t:Int}{r:RM}(h:r.Ok t):aL4 r.g=true∧aCK r.g=fR r:=by
 refine aK (t:=UR r.g) (P:=fun q=>q=fR r) ?_
 have f:=aU.1 h.fw;have k:=aU.1 h.mw;have t1:=h.t1;have e1:dE 32 r.mask=32*r.mask:=gU (by omega)
 have b1: ∀(b:Bool)(n:Int),(bif b then n else 0)=0∨(bif b then n else 0)=n:=fun b n=>by cases b<;>simp
 have c1:=b1 r.sup 256;have c2:=b1 r.tr 512;unfold UR fR;simp only[aB,aA,eS,eV,aX,cK,aW,bK,aV,aR,(PK _ _).1,(PK _ _).2,e1,aD,bO,wz,Bool.and_true,Bool.and_self,true_and];rw[bV (x:=r.fl) (by omega),bV (x:=r.fl+32*r.mask) (by omega),bV (by omega)]
theorem aET{t v:Int}{r:RM}(h:r.Ok t)(hv:cJ v 0 1023=true):aW4 v r.g=true∧aW3 v r.g=(dS r v).g:=by
 refine aK (t:=a4A v r.g) (P:=fun q=>q=(dS r v).g) ?_
 obtain⟨b1,b2,b3,b4,b5,-,-⟩:=AT h;obtain⟨c1,c2⟩:=aUD hv;have hv':=aU.1 hv;have e1:bF v 31=v%32:=jF 5 _ (by omega) (by decide)
 have e2:bF (fF v 5) 7=v/32%8:=by rw[kW (n:=5) 5 rfl (by omega)];exact jF 3 _ (by omega) (by decide)
 unfold a4A dS;simp only[aB,aI,aA,aLX,eS,eV,aX,cK,aW,bK,aV,aR,aT,bB,b1,b2,b3,b4,b5,c1,c2,e1,e2,dY,List.length_set,aD,bO,wz,Bool.and_true,Bool.true_or,Bool.or_true,true_and];cases hs:eqI (v/256%2) 1<;>cases hp:r.sup<;>simp[AX]<;>rfl
def G0(s:Bool)(f:aL):Int:=(bif f.Write then 1 else 0)+(bif s then 2 else 0)
theorem aUQ(w s:Bool):fB (bif w then 1 else 0) (bif s then 2 else 0)=(bif w then 1 else 0)+(bif s then 2 else 0):=by cases w<;>cases s<;>decide+kernel
theorem a9C(c:aG)(f:aL):bMU c f=true∧bMT c f=G0 c.R.Super f:=by
 refine aK (t:=a4V c f) (P:=fun q=>q=G0 c.R.Super f) ?_
 unfold a4V G0;simp only[aB,aA,(PK _ _).1,(PK _ _).2,aUQ,Bool.and_true,true_and]
theorem a9D(s:Bool)(f:aL):bOC s f=true∧bOB s f=G0 s f:=by
 refine aK (t:=a7D s f) (P:=fun q=>q=G0 s f) ?_
 unfold a7D G0;simp only[aB,aA,(fS _ _).1,(fS _ _).2,aUQ,Bool.and_true,true_and]
def nA(r:RM)(f:aL):List Int:=bif AW f then [f.PC,fR r,f.Word,f.Addr,G0 r.sup f]else [f.PC,fR r]
theorem bGZ{t:Int}{r:RM}{zs:List Int}{l:List aE}{s h:Bool}(f:aL)(hr:r.Ok t):bMX (bP r zs l s h) f=true∧aCJ (bP r zs l s h) f=ri (nA r f):=by
 refine aK (t:=a4X (bP r zs l s h) f) (P:=fun q=>q=ri (nA r f)) ?_
 obtain⟨a1,a2⟩:=aOC hr;unfold a4X nA;simp only[aB,aI,aA,a4W,show(bP r zs l s h).R=r.g from rfl,show(bP r zs l s h).Bus=pA zs l from rfl,a1,a2,(LN f).1,(LN f).2,(a9C _ f).1,(a9C _ f).2,aD,bO,wz,bL,cQ,aZ,cS,aV,Bool.and_true,Bool.and_self,true_and]
 cases AW f<;>simp<;>rfl
theorem bG0{t:Int}{r:RM}(f:aL)(hr:r.Ok t):bOF r.g f=true∧aDU r.g f=ri (nA r f):=by
 refine aK (t:=a7E r.g f) (P:=fun q=>q=ri (nA r f)) ?_
 obtain⟨a1,a2⟩:=aG2 hr;unfold a7E nA;simp only[aB,aI,aA,a1,a2,(aG8 f).1,(aG8 f).2,(a9D _ f).1,(a9D _ f).2,aV,Bool.and_true,true_and];cases AW f<;>simp<;>rfl
end Go.Proofs.YtdipcnijfkdnfaaGreatWhole

namespace Go.Proofs.YtdipcnijfkdnfaaGreatWhole
open Go Go.Zq
set_option maxHeartbeats 4000000
set_option maxRecDepth 100000
def pk(m:MM)(F:List Int):Nat→MM
 |0=>m
 |i+1=>bif cF (pk m F i)then eL (pk m F i) (F.getD i 0)else pk m F i
def FW(F:List Int):Prop:= ∀i:Nat,0≤F.getD i 0∧F.getD i 0≤65535
theorem WF{t:Int}{m:MM}{F:List Int}(hm:m.Ok t)(hF:FW F): ∀i,(pk m F i).Ok t
 |0=>hm
 |i+1=>cE (P:=fun z=>MM.Ok t z) (fun _=>aT3 (WF hm hF i) (hF i).1 (hF i).2) (fun _=>WF hm hF i)
theorem aEU(m:MM)(F:List Int): ∀i,(pk m F i).stop=m.stop
 |0=>rfl
 |i+1=>cE (P:=fun z:MM=>z.stop=m.stop) (fun _=>(ZB _ _).trans (aEU m F i)) (fun _=>aEU m F i)
theorem bG1{m:MM}{v:Int}(h:m.f=f0)(k:cF (eL m v)=true):(eL m v).f=f0:=by
 have e:(cU m 2 2 ((cX m.r.a 3-2)%65536) v).1.f=f0∨cF (cU m 2 2 ((cX m.r.a 3-2)%65536) v).1=false:=by
  unfold cU cF;dsimp only;rw[h];cases hc:dD (cW 2 2 ((cX m.r.a 3-2)%65536)) 0
  ·exact Or.inl rfl
  ·right
   cases eqI (cW 2 2 ((cX m.r.a 3-2)%65536)) 2<;>rfl
 unfold eL at k⊢;cases hf:cF (cU m 2 2 ((cX m.r.a 3-2)%65536) v).1
 ·rw[hf,cond_false,hf]at k;exact absurd k (by decide)
 ·rw[cond_true];rcases e with e|e
  ·exact e
  ·rw[e]at hf;exact absurd hf (by decide)
theorem bIT{m:MM}{F:List Int}(h:m.f=f0): ∀i,cF (pk m F i)=true→(pk m F i).f=f0
 |0,_=>h
 |i+1,k=>by
  unfold pk at k⊢;cases hc:cF (pk m F i)
  ·rw[hc,cond_false,hc]at k;exact absurd k (by decide)
  ·rw[hc,cond_true]at k;exact bG1 (bIT h i hc) k
theorem bIU{m:MM}{F:List Int}{i:Nat}(h:m.f=f0)(k:cF (pk m F i)=true):pk m F i=mm (pk m F i).r (pk m F i).zs (pk m F i).l m.stop:=by
 have e:=bIT h i k;have s:=aEU m F i;generalize pk m F i=p at e s;obtain⟨p1,p2,p3,p4,p5⟩:=p;dsimp only at e s;subst e s;rfl
theorem aUR{m:MM}{F:List Int}{i:Nat}(h:cF (pk m F i)=false): ∀d,pk m F (i+d)=pk m F i
 |0=>rfl
 |d+1=>by
  have ih:=aUR h d;show(bif cF (pk m F (i+d))then eL (pk m F (i+d)) (F.getD (i+d) 0)else pk m F (i+d))=_
  rw[ih,h];rfl
theorem aEV{F:List Int}{i:Nat}(h:i<F.length):bR (ri F) i 0=F.getD i 0:=by
 rw[o9 h,List.getD_eq_getElem?_getD,List.getElem?_eq_getElem h];rfl
theorem bG2{t:Int}{m:MM}{F:List Int}(hm:m.Ok t)(hF:FW F)(hl:F.length≤5)(f:aL)(c:aG):a7G (V103_0.mk f c m.g (ri F) (F.length:Int) 0)=true∧a7F (V103_0.mk f c m.g (ri F) (F.length:Int) 0)=V103_0.mk f c (pk m F F.length).g (ri F) (F.length:Int) (F.length:Int):=by
 refine LA (N:=EI) (fun i=>V103_0.mk f c (pk m F i).g (ri F) (F.length:Int) (i:Int)) F.length (by omega) (fun i hi=>?_) ?_
 ·have hm':=WF hm hF i;obtain⟨p1,p2⟩:=a8K hm' (hF i).1 (hF i).2;have l1:ltI (i:Int) (F.length:Int)=true:=by rw[eD];omega
  have l3:leI 0 (i:Int)=true:=by simp
  have a1:bE (i:Int) 1=((i+1:Nat):Int):=by rw[bV (by omega)];omega
  have b1:dV [.int .i64] (ri F) i 0=true:=FV ⟨F,rfl⟩ (by rw[bB];exact hi)
  unfold EI;simp only[aB,aI,aA,B5,eO,cH,cB,bS,eS,eV,aX,cK,aW,bK,aV,aR,aT,bB,l1,l3,a1,b1,Int.toNat_natCast,Nat.zero_add,aEV hi,p1,p2,dT,aD,bO,wz,bL,cQ,aZ,cS,Bool.and_true,true_and,Bool.true_eq_false,false_implies,and_true,forall_const];refine⟨fun q=>?_,fun q=>?_⟩
  ·have q':cF (pk m F i)=true:=q;show _=some (V103_0.mk f c (MM.g (bif cF (pk m F i)then eL (pk m F i) (F.getD i 0)else pk m F i)) (ri F) (F.length:Int) ((i+1:Nat):Int))
   rw[q',cond_true]
  ·have q':cF (pk m F i)=false:=q;show _=some (V103_0.mk f c (MM.g (bif cF (pk m F i)then eL (pk m F i) (F.getD i 0)else pk m F i)) (ri F) (F.length:Int) ((i+1:Nat):Int))
   rw[q',cond_false]
 ·have l1:ltI (F.length:Int) (F.length:Int)=false:=by simp
  unfold EI;simp only[aB,aI,aA,l1,true_and,Bool.false_eq_true,false_implies,implies_true]
end Go.Proofs.YtdipcnijfkdnfaaGreatWhole

namespace Go.Proofs.YtdipcnijfkdnfaaGreatWhole
open Go Go.Zq
set_option maxHeartbeats 4000000
set_option maxRecDepth 100000
theorem bG3{t:Int}{r:RM}{zs:List Int}{l:List aE}{F:List Int}(s h:Bool)(f:aL)(hr:r.Ok t)(hb:BusOk zs l)(hF:FW F)(hl:F.length≤5):a4Z (V102_0.mk (bP r zs l s h) f (ri F) (F.length:Int) 0)=true∧ ∃j:Nat,j≤F.length∧a4Y (V102_0.mk (bP r zs l s h) f (ri F) (F.length:Int) 0)=V102_0.mk (bP (pk (mm r zs l s) F j).r (pk (mm r zs l s) F j).zs (pk (mm r zs l s) F j).l s h) f (ri F) (F.length:Int) (j:Int)∧cF (pk (mm r zs l s) F j)=true∧(j<F.length→cF (eL (pk (mm r zs l s) F j) (F.getD j 0))=false):=by
 have hm:(mm r zs l s).Ok t:=⟨hr,hb⟩;refine jA (Post:=fun w=> ∃j:Nat,j≤F.length∧w=V102_0.mk (bP (pk (mm r zs l s) F j).r (pk (mm r zs l s) F j).zs (pk (mm r zs l s) F j).l s h) f (ri F) (F.length:Int) (j:Int)∧cF (pk (mm r zs l s) F j)=true∧(j<F.length→cF (eL (pk (mm r zs l s) F j) (F.getD j 0))=false)) (eY (fun(n:Nat) (v:V102_0)=> ∃i:Nat,i+n=F.length∧v=V102_0.mk (bP (pk (mm r zs l s) F i).r (pk (mm r zs l s) F i).zs (pk (mm r zs l s) F i).l s h) f (ri F) (F.length:Int) (i:Int)∧cF (pk (mm r zs l s) F i)=true) _ ?_ 2097152 F.length _ ⟨0,by omega,rfl,rfl⟩ (by omega))
 rintro n v ⟨i,hi,rfl,hf⟩
 have hm':=WF hm hF i;have e:=bIU (m:=mm r zs l s) (F:=F) (i:=i) rfl hf;obtain⟨p1,p2⟩:=aOB (s:=s) (h:=h) hm'.r hm'.b (hF i).1 (hF i).2;have pf:=aX7 (pk (mm r zs l s) F i).r (pk (mm r zs l s) F i).zs (pk (mm r zs l s) F i).l s (F.getD i 0);rw[show mm (pk (mm r zs l s) F i).r (pk (mm r zs l s) F i).zs (pk (mm r zs l s) F i).l s=pk (mm r zs l s) F i from e.symm]at p2 pf
 rcases Nat.lt_or_ge i F.length with hlt|hge
 ·have l1:ltI (i:Int) (F.length:Int)=true:=by rw[eD];omega
  have l3:leI 0 (i:Int)=true:=by simp
  have a1:bE (i:Int) 1=((i+1:Nat):Int):=by rw[bV (by omega)];omega
  have b1:dV [.int .i64] (ri F) i 0=true:=FV ⟨F,rfl⟩ (by rw[bB];exact hlt)
  have N: ∀(x:Int),dD x 0=!eqI x 0:=fun x=>by
   cases hx:eqI x 0
   ·rw[iS]at hx;exact oP.2 hx
   ·rw[eC]at hx;exact PE.2 hx
  unfold ID;simp only[aB,aI,aA,wT,show(bP (pk (mm r zs l s) F i).r (pk (mm r zs l s) F i).zs (pk (mm r zs l s) F i).l s h).R=(pk (mm r zs l s) F i).r.g from rfl,show(bP (pk (mm r zs l s) F i).r (pk (mm r zs l s) F i).zs (pk (mm r zs l s) F i).l s h).Bus=pA (pk (mm r zs l s) F i).zs (pk (mm r zs l s) F i).l from rfl,eS,eV,aX,cK,aW,bK,aV,aR,aT,bB,l1,l3,a1,b1,Int.toNat_natCast,Nat.zero_add,aEV hlt,p1,p2,N,←pf,aD,bO,wz,bL,cQ,aZ,cS,Bool.and_true,true_and,Bool.true_eq_false,false_implies,and_true,forall_const]
  refine⟨fun q=>?_,fun q=>?_⟩
  ·have q':=yL q;exact⟨i,by omega,rfl,hf,fun _=>q'⟩
  ·have q':=EU q;have e1:pk (mm r zs l s) F (i+1)=eL (pk (mm r zs l s) F i) (F.getD i 0):=by
    show(bif cF (pk (mm r zs l s) F i)then eL (pk (mm r zs l s) F i) (F.getD i 0)else pk (mm r zs l s) F i)=_
    rw[hf,cond_true]
   refine⟨n-1,by omega,i+1,by omega,?_,?_⟩
   ·rw[e1]
   ·rw[e1];exact q'
 ·obtain rfl:i=F.length:=by omega
  have l1:ltI (F.length:Int) (F.length:Int)=false:=by simp
  unfold ID;simp only[aB,aI,aA,l1,true_and,Bool.false_eq_true,false_implies,forall_const];exact⟨F.length,by omega,rfl,hf,fun h=>absurd h (by omega)⟩
end Go.Proofs.YtdipcnijfkdnfaaGreatWhole

namespace Go.Proofs.YtdipcnijfkdnfaaGreatWhole
open Go Go.Zq
set_option maxHeartbeats 4000000
set_option maxRecDepth 100000
theorem jY(r:RM)(zs:List Int)(l:List aE)(s h:Bool):(bP r zs l s h).R=r.g:=rfl
theorem mG(r:RM)(zs:List Int)(l:List aE)(s h:Bool):(bP r zs l s h).Bus=pA zs l:=rfl
theorem lT(r:RM)(zs:List Int)(l:List aE)(s h:Bool):(bP r zs l s h).Stop=s:=rfl
theorem lB(r:RM)(zs:List Int)(l:List aE)(s h:Bool):(bP r zs l s h).Halt=h:=rfl
theorem jC(r:RM)(zs:List Int)(l:List aE)(s h:Bool):aG.mk r.g (pA zs l) s h=bP r zs l s h:=rfl
def bG4(P:MM)(q:MM×Int):aG:=bif cF q.1 then bP {P.r with pc:=q.2} q.1.zs q.1.l false false else bP P.r q.1.zs q.1.l false true
def aX8(P:MM)(vec:Int):aG:=bif cF P then bG4 P (cU P 1 2 (2*vec) 0)else bP P.r P.zs P.l false true
def WG(m:MM)(F:List Int)(vec:Int):aG:=aX8 (pk m F F.length) vec
def vE(r:RM):Int:=r.fl+32*r.mask+256
theorem cHQ{r:RM}(h:r.Ok 65535):fB (gI (fR r) 512) 256=vE r∧cJ (vE r) 0 1023=true:=by
 have f:=aU.1 h.fw;have k:=aU.1 h.mw;have key: ∀n:Fin 1024,fB (gI (n.val:Int) 512) 256=(n.val:Int)%256+256:=by decide+kernel
 have hs:fR r=r.fl+32*r.mask+(bif r.sup then 256 else 0)+(bif r.tr then 512 else 0):=rfl
 have b1: ∀(b:Bool)(n:Int),(bif b then n else 0)=0∨(bif b then n else 0)=n:=fun b n=>by cases b<;>simp
 have c1:=b1 r.sup 256;have c2:=b1 r.tr 512;have r0:0≤fR r∧fR r<1024∧fR r%256=r.fl+32*r.mask:=by omega
 obtain⟨n,hn⟩:=Int.eq_ofNat_of_zero_le r0.1;refine⟨?_,by rw[aU];unfold vE;omega⟩
 have kk:=key ⟨n,by omega⟩
 unfold vE;rw[←r0.2.2,hn];exact kk
theorem aEW{f:aL}(h:lA f=true):(2≤f.Vector∧f.Vector≤21)∧(0≤f.PC∧f.PC≤65535)∧(0≤f.Addr∧f.Addr≤65535)∧(0≤f.Word∧f.Word≤65535):=by
 unfold lA at h;simp only[Bool.and_eq_true,aU]at h;exact⟨h.1,h.2.1,h.2.2.1,h.2.2.2.1⟩
theorem a9E{t:Int}{r:RM}{f:aL}(hr:r.Ok t)(h:lA f=true):FW (nA r f)∧(nA r f).length≤5:=by
 obtain⟨h1,h2,h3,h4⟩:=aEW h;have s:=V5 hr;have i:0≤G0 r.sup f∧G0 r.sup f≤65535:=by
  unfold G0;cases f.Write<;>cases r.sup<;>simp
 unfold nA;cases AW f
 ·refine⟨fun n=>?_,by simp⟩
  match n with
  |0=>exact h2
  |1=>exact s
  |n+2=>exact⟨by simp,by simp⟩
 ·refine⟨fun n=>?_,by simp⟩
  match n with
  |0=>exact h2
  |1=>exact s
  |2=>exact h4
  |3=>exact h3
  |4=>exact i
  |n+5=>exact⟨by simp,by simp⟩
theorem LO{m:MM}{v:Int}(h:2≤v∧v≤21):AccOk 2 0 (2*v) m:=⟨Or.inr rfl,by decide,by rw[aU];omega⟩
theorem aEX{r:RM}{zs:List Int}{l:List aE}{s:Bool}{f:aL}(hr:r.Ok 65535)(hb:BusOk zs l)(hg:lA f=true):aGI f (bP r zs l s false)=true∧XC f (bP r zs l s false)=WG (mm (dS r (vE r)) zs l false) (nA r f) f.Vector:=by
 refine aK (t:=a40 f (bP r zs l s false)) (P:=fun q=>q=WG (mm (dS r (vE r)) zs l false) (nA r f) f.Vector) ?_
 obtain⟨gv,-⟩:=aEW hg;obtain⟨v1,v2⟩:=cHQ hr;obtain⟨st1,st2⟩:=aOD hr;obtain⟨ss1,ss2⟩:=aET hr v2;obtain⟨fr1,fr2⟩:=bGZ (zs:=zs) (l:=l) (s:=s) (h:=false) f hr;obtain⟨w1,w2⟩:=a9E hr hg;have hr':(dS r (vE r)).Ok 65535:=FZ hr;have hm:(mm (dS r (vE r)) zs l false).Ok 65535:=⟨hr',hb⟩;obtain⟨e1,j,hj,e2,e3,e4⟩:=bG3 false false f hr' hb w1 w2;have em:dE 2 f.Vector=2*f.Vector:=gU (by omega)
 have hp:=WF hm w1 j;have pj:=bIU (m:=mm (dS r (vE r)) zs l false) (F:=nA r f) (i:=j) rfl e3;have hP:(if j<(nA r f).length then pk (mm (dS r (vE r)) zs l false) (nA r f) (nA r f).length=eL (pk (mm (dS r (vE r)) zs l false) (nA r f) j) ((nA r f).getD j 0)else pk (mm (dS r (vE r)) zs l false) (nA r f) (nA r f).length=pk (mm (dS r (vE r)) zs l false) (nA r f) j):=by
  split
  ·rename_i hlt;have s1:pk (mm (dS r (vE r)) zs l false) (nA r f) (j+1)=eL (pk (mm (dS r (vE r)) zs l false) (nA r f) j) ((nA r f).getD j 0):=by
    show(bif cF (pk (mm (dS r (vE r)) zs l false) (nA r f) j)then eL (pk (mm (dS r (vE r)) zs l false) (nA r f) j) ((nA r f).getD j 0)else pk (mm (dS r (vE r)) zs l false) (nA r f) j)=_
    rw[e3,cond_true]
   have s2:=aUR (m:=mm (dS r (vE r)) zs l false) (F:=nA r f) (i:=j+1) (by rw[s1];exact e4 hlt) ((nA r f).length-(j+1))
   rw[show j+1+((nA r f).length-(j+1))=(nA r f).length by omega]at s2
   rw[s2,s1]
  ·rw[show j=(nA r f).length by omega]
 obtain⟨p1,p2⟩:=aOB (s:=false) (h:=false) hp.r hp.b (w1 j).1 (w1 j).2;obtain⟨t1,t2⟩:=FY (k:=1) (a:=2*f.Vector) ((LO gv).t hp) (LO (m:=pk (mm (dS r (vE r)) zs l false) (nA r f) j) gv).ha (fun _=>rfl)
 have t1':H7 1 2 (2*f.Vector) 0 (pA (pk (mm (dS r (vE r)) zs l false) (nA r f) j).zs (pk (mm (dS r (vE r)) zs l false) (nA r f) j).l)=true:=t1;have t2':=t2;rw[show(bM.mk (ri (pk (mm (dS r (vE r)) zs l false) (nA r f) j).zs) ((pk (mm (dS r (vE r)) zs l false) (nA r f) j).l.map aE.row))=pA (pk (mm (dS r (vE r)) zs l false) (nA r f) j).zs (pk (mm (dS r (vE r)) zs l false) (nA r f) j).l from rfl]at t2'
 have fc:=jZ (m:=pk (mm (dS r (vE r)) zs l false) (nA r f) j) (k:=1) (s:=2) (a:=2*f.Vector) (v:=0) (by unfold cF at e3;simpa using e3)
 rw[show mm (pk (mm (dS r (vE r)) zs l false) (nA r f) j).r (pk (mm (dS r (vE r)) zs l false) (nA r f) j).zs (pk (mm (dS r (vE r)) zs l false) (nA r f) j).l false=pk (mm (dS r (vE r)) zs l false) (nA r f) j from pj.symm]at p2
 clear pj
 unfold WG;generalize pk (mm (dS r (vE r)) zs l false) (nA r f) j=p at*;have N: ∀(x:Int),dD x 0=!eqI x 0:=fun x=>by
  cases hx:eqI x 0
  ·rw[iS]at hx;exact oP.2 hx
  ·rw[eC]at hx;exact PE.2 hx
 unfold a40;rcases Nat.lt_or_ge j (nA r f).length with hlt|hge
 ·rw[if_pos hlt]at hP;rw[hP];have l1:ltI (j:Int) ((nA r f).length:Int)=true:=by rw[eD];omega
  have nf:=e4 hlt;simp only[aB,aI,aA,aCR,aCQ,IE,aCP,lQ,aCO,aCN,NU,jY,mG,lT,lB,jC,eS,eV,aX,cK,aW,bK,aV,aR,aT,bB,st1,st2,v1,ss1,ss2,fr1,fr2,e1,e2,l1,Int.toNat_natCast,Nat.zero_add,aEV hlt,p1,p2,aD,bO,wz,bL,cQ,aZ,cS,VY,VZ,Bool.and_true,Bool.and_self,true_and,Bool.true_eq_false,false_implies,and_true,forall_const];unfold aX8;rw[nf];exact⟨by simp,rfl⟩
 ·rw[if_neg (by omega)]at hP
  rw[hP];obtain rfl:j=(nA r f).length:=by omega
  have l1:ltI ((nA r f).length:Int) ((nA r f).length:Int)=false:=by simp
  simp only[aB,aI,aA,aCR,aCQ,IE,aCP,lQ,aCO,aCN,NU,jY,mG,lT,lB,jC,eS,eV,aX,cK,aW,bK,aV,aR,aT,bB,st1,st2,v1,ss1,ss2,fr1,fr2,e1,e2,l1,em,t1',t2',N,show eqI 1 2=false from rfl,cond_false,Int.toNat_natCast,Nat.zero_add,aD,bO,wz,bL,cQ,aZ,cS,VY,VZ,Bool.and_true,Bool.and_self,true_and,Bool.false_eq_true,false_implies,and_true,forall_const]
  unfold aX8 bG4;rw[e3,fc,cond_true];refine⟨by simp,fun q=>?_,fun q=>?_⟩
  ·rw[yL q];rfl
  ·rw[EU q];rfl
end Go.Proofs.YtdipcnijfkdnfaaGreatWhole

namespace Go.Proofs.YtdipcnijfkdnfaaGreatWhole
open Go Go.Zq
set_option maxHeartbeats 4000000
set_option maxRecDepth 100000
theorem bP7(m:MM)(r:RM):(aQ.mk r.g (pA m.zs m.l) false m.f)=MM.g {m with r:=r,stop:=false}:=rfl
theorem g_B(m:MM):m.g.fbus=pA m.zs m.l:=rfl
theorem bG5(m:MM)(b:Bool)(v:Int):eL {m with stop:=b} v={eL m v with stop:=b}:=by
 have a:cU {m with stop:=b} 2 2 ((cX m.r.a 3-2)%65536) v=({(cU m 2 2 ((cX m.r.a 3-2)%65536) v).1 with stop:=b},(cU m 2 2 ((cX m.r.a 3-2)%65536) v).2):=rfl
 unfold eL;show(bif cF (cU {m with stop:=b} 2 2 ((cX m.r.a 3-2)%65536) v).1 then _ else _)=_
 rw[a];show(bif cF (cU m 2 2 ((cX m.r.a 3-2)%65536) v).1 then _ else _)=_
 cases cF (cU m 2 2 ((cX m.r.a 3-2)%65536) v).1<;>rfl
theorem bIV(m:MM)(F:List Int)(b:Bool): ∀i,pk {m with stop:=b} F i={pk m F i with stop:=b}
 |0=>rfl
 |i+1=>by
  show(bif cF (pk {m with stop:=b} F i)then eL (pk {m with stop:=b} F i) (F.getD i 0)else pk {m with stop:=b} F i)={(bif cF (pk m F i)then eL (pk m F i) (F.getD i 0)else pk m F i)with stop:=b}
  rw[bIV m F b i];show(bif cF (pk m F i)then eL {pk m F i with stop:=b} (F.getD i 0)else{pk m F i with stop:=b})=_
  rw[bG5];cases cF (pk m F i)<;>rfl
theorem cHR{fl mk:Int}(h1:cJ fl 0 31=true)(h2:cJ mk 0 7=true):fB (fB fl (dE 32 mk)) 256=fl+32*mk+256:=by
 rw[aU]at h1 h2;obtain⟨a,rfl⟩:=Int.eq_ofNat_of_zero_le h1.1;obtain⟨b,rfl⟩:=Int.eq_ofNat_of_zero_le h2.1;have key: ∀a:Fin 32,∀b:Fin 8,fB (fB (a.val:Int) (dE 32 (b.val:Int))) 256=(a.val:Int)+32*(b.val:Int)+256:=by decide+kernel
 exact key ⟨a,by omega⟩ ⟨b,by omega⟩
theorem bG6{r:RM}{zs:List Int}{l:List aE}{s h:Bool}{f:aL}{mk:Int}(hr:r.Ok 65535)(hb:BusOk zs l)(hg:lA f=true)(hk:cJ mk 0 7=true):P3 (bP r zs l s h) f mk=true∧P2 (bP r zs l s h) f mk=WG (mm (dS r (r.fl+32*mk+256)) zs l false) (nA r f) f.Vector:=by
 refine aK (t:=a7H (bP r zs l s h) f mk) (P:=fun q=>q=WG (mm (dS r (r.fl+32*mk+256)) zs l false) (nA r f) f.Vector) ?_
 obtain⟨gv,-⟩:=aEW hg;have v1:=cHR hr.fw hk;have v2:cJ (r.fl+32*mk+256) 0 1023=true:=by
  have h1:=aU.1 hr.fw;have h2:=aU.1 hk;rw[aU];omega
 generalize r.fl+32*mk+256=v at*;obtain⟨d1,d2⟩:=aEQ (s:=s) (h:=h) hr hb;have d2':eM (bP r zs l s h)=(mm r zs l s).g:=d2;obtain⟨ss1,ss2⟩:=aEK hr v2;obtain⟨fr1,fr2⟩:=bG0 f hr;obtain⟨w1,w2⟩:=a9E hr hg;have hr':(dS r v).Ok 65535:=FZ hr;have hm:(mm (dS r v) zs l s).Ok 65535:=⟨hr',hb⟩;obtain⟨e1,e2⟩:=bG2 hm w1 w2 f ⟨⟨[],[],0,0,0,0,false,false⟩,⟨[],[]⟩,false,false⟩;have em:dE 2 f.Vector=2*f.Vector:=gU (by omega)
 have hp:=WF hm w1 (nA r f).length;have pe:WG (mm (dS r v) zs l false) (nA r f) f.Vector=aX8 {pk (mm (dS r v) zs l s) (nA r f) (nA r f).length with stop:=false} f.Vector:=by
  unfold WG;rw[←bIV];rfl
 rw[pe];generalize pk (mm (dS r v) zs l s) (nA r f) (nA r f).length=p at*;obtain⟨a1,a2⟩:=V0 (k:=1) hp (LO gv);obtain⟨o1,o2⟩:=zX (k:=1) hp (LO gv) (by decide)
 have ae:cU {p with stop:=false} 1 2 (2*f.Vector) 0=({(cU p 1 2 (2*f.Vector) 0).1 with stop:=false},(cU p 1 2 (2*f.Vector) 0).2):=rfl
 have ar:(cU p 1 2 (2*f.Vector) 0).1.r=p.r:=rfl;have am:mm r zs l s=⟨r,zs,l,s,f0⟩:=rfl;generalize cU p 1 2 (2*f.Vector) 0=q at*;have c1:=aG4 (m:={p with stop:=false}) (t:=65535) ⟨hp.r,hp.b⟩
 have c2:=aG4 (m:={q.1 with stop:=false}) (t:=65535) ⟨o1.r,o1.b⟩
 have c3:=aG4 (m:={q.1 with r:={q.1.r with pc:=q.2},stop:=false}) (t:=65535) ⟨o1.r.setP (by rw[aU];exact rP o2),o1.b⟩
 have b0:(aQ.mk (dS r v).g (pA zs l) s f0)=(mm (dS r v) zs l s).g:=rfl;unfold a7H;simp only[aB,aI,aA,IX,IW,IV,vB,vA,aNO,aNN,VP,aNM,d1,d2',show(mm r zs l s).g.fr=r.g from rfl,show(mm r zs l s).g.fbus=pA zs l from rfl,show(mm r zs l s).g.fstop=s from rfl,show(mm r zs l s).g.ffault=f0 from rfl,eS,eV,aX,cK,aW,bK,aV,aR,aT,bB,v1,ss1,ss2,fr1,fr2,b0,e1,e2,em,a1,a2,eO,g_B,cB,bS,jB,bP7,c1,c2,c3,dT,VY,VZ,aD,bO,wz,bL,cQ,aZ,cS,Bool.and_true,Bool.and_self,true_and]
 unfold aX8 bG4;rw[ae];have X: ∀z:aG,(z=bif cF p then(bif cF q.1 then bP {p.r with pc:=q.2} q.1.zs q.1.l false false else bP p.r q.1.zs q.1.l false true)else bP p.r p.zs p.l false true)→z=bif cF {p with stop:=false}then(bif cF ({q.1 with stop:=false}:MM)then bP {p.r with pc:=q.2} q.1.zs q.1.l false false else bP p.r q.1.zs q.1.l false true)else bP p.r p.zs p.l false true:=fun z h=>h
 refine⟨by simp,fun h1=>⟨fun h2=>X _ ?_,fun h2=>X _ ?_⟩,fun h1=>X _ ?_⟩
 ·rw[show cF p=true from h1,show cF q.1=true from h2,h2,ar,cond_true,cond_true];rfl
 ·rw[show cF p=true from h1,show cF q.1=false from h2,h2,ar,cond_true,cond_false];rfl
 ·rw[show cF p=false from h1,h1,cond_false];rfl
end Go.Proofs.YtdipcnijfkdnfaaGreatWhole

namespace Go.Proofs.YtdipcnijfkdnfaaGreatWhole
open Go Go.Zq
set_option maxHeartbeats 4000000
set_option maxRecDepth 100000
def a9F(r:RM)(zs:List Int)(l:List aE)(s h:Bool)(f:aL):aG×Bool:=bif iL r zs l s h&&(lA f&&!h)then(WG (mm (dS r (vE r)) zs l false) (nA r f) f.Vector,true)else(zC,false)
theorem bP8{r:RM}{zs:List Int}{l:List aE}(s h:Bool)(f:aL)(m:Sm r zs l):k24 (bP r zs l s h) f=true∧g24 (bP r zs l s h) f=a9F r zs l s h f:=by
 refine aK (t:=T24 (bP r zs l s h) f) (P:=fun q=>q=a9F r zs l s h f) ?_
 obtain⟨a1,a2⟩:=QH s h m;obtain⟨b1,b2⟩:=bGY f;obtain⟨c1,c2⟩:=aES (m.len s h);unfold T24 a9F;cases hg:iL r zs l s h
 ·simp only[aB,aI,aA,YT,a1,a2,b1,b2,hg,Bool.not_false,Bool.not_true,Bool.false_and,cond_true,cond_false,Bool.true_or,Bool.or_true,Bool.and_true,true_and,Bool.true_eq_false,false_implies,and_true,forall_const];rfl
 ·cases hf:lA f
  ·cases h<;>(simp only[aB,aI,aA,YT,a1,a2,b1,b2,lB,hg,hf,Bool.not_false,Bool.not_true,Bool.and_false,Bool.false_and,cond_true,cond_false,Bool.true_or,Bool.or_true,Bool.and_true,true_and,Bool.true_eq_false,false_implies,and_true,forall_const];rfl)
  ·cases h
   ·obtain⟨g1,g2⟩:=GA hg;obtain⟨p1,p2⟩:=aEX (s:=s) g1 g2 hf;simp only[aB,aI,aA,YT,a1,a2,b1,b2,c1,c2,p1,p2,lB,hg,hf,aD,bO,wz,Bool.not_false,Bool.not_true,Bool.and_self,cond_true,cond_false,Bool.true_or,Bool.or_true,Bool.and_true,true_and,Bool.false_eq_true,false_implies,forall_const]
   ·simp only[aB,aI,aA,YT,a1,a2,b1,b2,lB,hg,hf,Bool.not_false,Bool.not_true,Bool.and_false,cond_true,cond_false,Bool.true_or,Bool.or_true,Bool.and_true,true_and,Bool.true_eq_false,false_implies,and_true,forall_const];rfl
end Go.Proofs.YtdipcnijfkdnfaaGreatWhole

namespace Go.Proofs.YtdipcnijfkdnfaaGreatWhole
open Go Go.Zq
set_option maxHeartbeats 4000000
set_option maxRecDepth 100000
theorem bG7{s f v:Int}(hs:s=1∨s=2):iF s f v=fB (bF f 16) (fB (bif eqI v 0 then 4 else 0) (bif geI v (cD s/2)then 8 else 0)):=by
 refine(aK (t:=aMY s f v) (P:=fun r=>r=fB (bF f 16) (fB (bif eqI v 0 then 4 else 0) (bif geI v (cD s/2)then 8 else 0))) ?_).2
 unfold aMY;simp only[aB,aA,(GE hs).1,(GE hs).2,Bool.and_true,true_and]
theorem a9G{s f v:Int}(hs:s=1∨s=2):bLG s f v=true∧bLF s f v=iF s f v:=by
 refine aK (t:=a3I s f v) (P:=fun r=>r=iF s f v) ?_
 unfold a3I;simp only[aB,aA,(aXR hs).1,(aXR hs).2,bG7 hs,Bool.and_true,true_and]
theorem bG8{s a b:Int}(ha:dK s a=true)(hb:dK s b=true):XA s 0 a b=true∧KK s 0 a b=((a-b)%cD s,I1 s a b):=by
 refine aK (t:=a3N s 0 a b) (P:=fun r=>r=((a-b)%cD s,I1 s a b)) ?_
 obtain⟨h,a0,a1⟩:=p7 ha;obtain⟨-,b0,b1⟩:=p7 hb;have l:=rO h;have sa:=yK h a0 a1;have sb:=yK h b0 b1;obtain⟨p1,p2⟩:=YY h a0 (by omega)
 obtain⟨q1,q2⟩:=YY h b0 (by omega)
 have e1:cM (cM a b) 0=a-b:=by rw[eX (x:=a) (by omega),eX (by omega)];omega
 have e2:cM (cM (AS s a) (AS s b)) 0=AS s a-AS s b:=by rw[eX (x:=AS s a) (by omega),eX (by omega)];omega
 unfold a3N;simp only[aB,aA,aLL,aLK,p1,p2,q1,q2,e1,e2,(bGI h).1,(bGI h).2,Bool.and_true,true_and];rfl
theorem b4W{s f a b:Int}(ha:dK s a=true)(hb:dK s b=true):aNL s f a b=fB (bF (I1 s a b) 15) (bF f 16):=by
 refine(aK (t:=aNK s f a b) (P:=fun r=>r=fB (bF (I1 s a b) 15) (bF f 16)) ?_).2
 obtain⟨h1,h2⟩:=a8C ha hb;unfold aNK;simp only[aB,aA,h1,h2,Bool.and_true,true_and]
theorem cHS{s f a b:Int}(ha:dK s a=true)(hb:dK s b=true):bLI s f a b=true∧bLH s f a b=aNL s f a b:=by
 refine aK (t:=a3O s f a b) (P:=fun r=>r=aNL s f a b) ?_
 obtain⟨h1,h2⟩:=bG8 ha hb;unfold a3O;simp only[aB,aA,h1,h2,b4W ha hb,Bool.and_true,true_and];unfold I1;rw[a8R]
theorem aUS{s v:Int}(hs:s=1∨s=2)(h0:0≤v)(h1:v<cD s):fF v (cM (dE 8 s) 1)=bif geI v (cD s/2)then 1 else 0:=by
 rcases hs with rfl|rfl
 ·rw[show cM (dE 8 1) 1=7 from by decide,kW (n:=7) 7 rfl (by omega)]
  have h1:v<256:=h1;show v/128=bif geI v 128 then 1 else 0
  cases h:geI v 128
  ·rw[aGV]at h;rw[cond_false];omega
  ·rw[KY]at h;rw[cond_true];omega
 ·rw[show cM (dE 8 2) 1=15 from by decide,kW (n:=15) 15 rfl (by omega)]
  have h1:v<65536:=h1;show v/32768=bif geI v 32768 then 1 else 0
  cases h:geI v 32768
  ·rw[aGV]at h;rw[cond_false];omega
  ·rw[KY]at h;rw[cond_true];omega
theorem k8{p:Int→Prop}{k:Int}(h:cJ k 0 7=true)(f: ∀n:Fin 8,p (n.val:Int)):p k:=by
 rw[aU]at h;obtain⟨n,rfl⟩:=Int.eq_ofNat_of_zero_le h.1;exact f ⟨n,by omega⟩
theorem b4X{k:Int}(h:cJ k 0 7=true):bDU k=true∧aWZ k=eqI (bF k 1) 0:=by
 refine aK (t:=a3V k) (P:=fun r=>r=eqI (bF k 1) 0) ?_
 unfold a3V;simp only[aB,aA,true_and];exact k8 (p:=fun k=>eqI (nM k 2) 0=eqI (bF k 1) 0) h (by decide+kernel)
theorem a9H(k:Int):a6D k=eqI (bF k 1) 0:=by
 refine(aK (t:=aM1 k) (P:=fun r=>r=eqI (bF k 1) 0) ?_).2
 unfold aM1;simp only[aB,aA,true_and]
theorem bG9{c x v z:Int}(hc:WO c)(hx:x=0∨x=16)(hv:v=0∨v=2)(hz:z=0∨z=4∨z=8∨z=12):fB (fB (fB c x) v) z=fB (fB (fB c z) v) x:=by
 rcases hc with rfl|rfl<;>rcases hx with rfl|rfl<;>rcases hv with rfl|rfl<;>rcases hz with rfl|rfl|rfl|rfl<;>decide+kernel
theorem cHT{k s f v c:Int}(hs:s=1∨s=2)(hv0:0≤v)(hv1:v<cD s)(hk:cJ k 0 7=true)(hf:cJ f 0 31=true):bLQ k s f v c=true∧bLP k s f v c=bif eqI k 1 then(bif geI v (cD s/2)then 1 else 0)else(bif (bif eqI k 4 then eqI k 4 else eqI k 5)then c else(bif (bif eqI k 6 then eqI k 6 else eqI k 7)then(bif dD (bF f 16) 0 then 1 else 0)else 0)):=by
 refine aK (t:=a3X k s f v c) (P:=fun r=>r=bif eqI k 1 then(bif geI v (cD s/2)then 1 else 0)else(bif (bif eqI k 4 then eqI k 4 else eqI k 5)then c else(bif (bif eqI k 6 then eqI k 6 else eqI k 7)then(bif dD (bF f 16) 0 then 1 else 0)else 0))) ?_
 have e:lW f 16=bif dD (bF f 16) 0 then 1 else 0:=rR (p:=fun f=>lW f 16=bif dD (bF f 16) 0 then 1 else 0) hf (by decide+kernel)
 have z:leI 0 (cM (dE 8 s) 1)=true:=by rcases hs with rfl|rfl<;>decide
 unfold a3X;simp only[aB,aI,aA,aUS hs hv0 hv1,e,z,Bool.and_true,true_and];refine⟨fun q=>by rw[q];rfl,fun q=>?_⟩
 rw[q];refine⟨fun q=>by rw[q];rfl,fun q=>?_⟩
 rw[q];exact⟨fun q=>by rw[q];rfl,fun q=>by rw[q];rfl⟩
end Go.Proofs.YtdipcnijfkdnfaaGreatWhole

namespace Go.Proofs.YtdipcnijfkdnfaaGreatWhole
open Go Go.Zq
set_option maxHeartbeats 4000000
set_option maxRecDepth 100000
theorem bP9{s x:Int}(hs:s=1∨s=2)(h:WO x):m9 x (cM (dE 8 s) 1)=dE x (cD s/2):=by
 rcases hs with rfl|rfl<;>rcases h with rfl|rfl<;>decide
theorem b4Y{k s f v:Int}(hs:s=1∨s=2)(hv:dK s v=true)(hf:cJ f 0 31=true)(hk:cJ k 0 7=true):bLS k s f v=true∧bLR k s f v=PZ k s f v:=by
 have lv:=kM hs hv;obtain⟨-,v0,v1⟩:=p7 hv;obtain⟨l1,l2⟩:=b4X hk;have sp:=aEH (k:=k) hs hv hf;have b2:II s v=bif geI v (cD s/2)then 1 else 0:=by
  unfold II;rw[(fS _ _).2,(lC hs).2,aN3 hs]
 have b3:mB k s v=bif eqI (bF k 1) 0 then(bif geI v (cD s/2)then 1 else 0)else bF v 1:=by
  unfold mB;rw[a9H,b2]
 have c3:WO (mB k s v):=by
  rw[b3];exact EP (rS _) aT8
 have a0:NH k s v=mB k s v:=by
  unfold NH;rw[l2,aUS hs v0 v1,b3]
 obtain⟨m1,m2⟩:=cHT (c:=mB k s v) hs v0 v1 hk hf;have b4:EA k s f v=aB8 k s f v:=by
  unfold EA aB8 aM3 aM2;rw[a0,m2,b2,(fS _ _).2]
 have c4:WO (EA k s f v):=by
  unfold EA;rw[b2,(fS _ _).2];exact EP (rS _) (EP c3 (EP (rS _) (Or.inl rfl)))
 have hm:cM (dE 2 (lW (cD s) 2)) 1=cM (cD s) 1:=by rcases hs with rfl|rfl<;>decide
 have b5:NI k s f v=o8 k s f v:=by
  unfold NI o8;rw[l2,a9H,←b4,(iT hs).2,(lC hs).2,hm,bP9 hs c4,aN3 hs]
 obtain⟨sp1,sp2,-⟩:=sp;have w5:PZ k s f v=(o8 k s f v,(PZ k s f v).2)∧(PZ k s f v).2=fB (IJ k s f v) (bif (bif eqI k 4 then true else eqI k 5)then bF f 16 else dE (mB k s v) 16):=by
  refine(aK (t:=aM6 k s f v) (P:=fun r=>r=(o8 k s f v,r.2)∧r.2=fB (IJ k s f v) (bif (bif eqI k 4 then true else eqI k 5)then bF f 16 else dE (mB k s v) 16)) ?_).2
  unfold aM6;simp only[aB,aI,aA,(lC hs).1,(fS _ _).1,a8O,(GE hs).1,Bool.and_true,Bool.true_or,Bool.or_true,true_and];exact⟨fun q=>by rw[q];rfl,fun q=>by rw[q];rfl⟩
 have v5:dK s (o8 k s f v)=true:=by rw[w5.1]at sp2;exact sp2
 obtain⟨-,u0,u1⟩:=p7 v5;have t5:=aUS hs u0 u1;have tv:=aUS hs v0 v1;have z7:leI 0 (cM (dE 8 s) 1)=true:=by rcases hs with rfl|rfl<;>decide
 refine aK (t:=a3Y k s f v) (P:=fun r=>r=PZ k s f v) ?_
 rw[w5.1,w5.2];unfold a3Y aLR;simp only[aB,aA,a0,b5,l1,l2,m1,z7,(iT hs).1,(zV _ _).1,(zV _ _).2,(aXR hs).1,(aXR hs).2,Bool.and_true,Bool.true_or,Bool.or_true,true_and];refine Prod.ext rfl ?_;show fB (fB (fB (dE (mB k s v) 1) (bif (bif eqI k 4 then true else eqI k 5)then bF f 16 else dE (mB k s v) 16)) _) _=_
 unfold IJ aM5 aM4;rw[(GE hs).2,(fS _ _).2,(fS _ _).2,(lC hs).2,aN3 hs,b2,t5,tv];have mc:dE (mB k s v) 1=mB k s v:=by rcases c3 with h|h<;>rw[h]<;>decide
 have hx:(bif (bif eqI k 4 then true else eqI k 5)then bF f 16 else dE (mB k s v) 16)=0∨(bif (bif eqI k 4 then true else eqI k 5)then bF f 16 else dE (mB k s v) 16)=16:=by
  cases(bif eqI k 4 then true else eqI k 5)
  ·rw[cond_false];rcases c3 with h|h<;>rw[h]<;>decide
  ·exact a8M hf
 rw[mc];have sym:dD (bif geI (o8 k s f v) (cD s/2)then 1 else 0) (bif geI v (cD s/2)then 1 else 0)=dD (bif geI v (cD s/2)then 1 else 0) (bif geI (o8 k s f v) (cD s/2)then 1 else 0):=by
  cases geI (o8 k s f v) (cD s/2)<;>cases geI v (cD s/2)<;>rfl
 rw[sym];generalize (bif eqI k 0 then dD (bif geI v (cD s/2)then 1 else 0) (bif geI (o8 k s f v) (cD s/2)then 1 else 0)else false)=V
 have hv2:(bif V then(2:Int)else 0)=0∨(bif V then(2:Int)else 0)=2:=by cases V<;>simp
 have hz: ∀a b:Bool,fB (bif a then 4 else 0) (bif b then 8 else 0)=0∨fB (bif a then 4 else 0) (bif b then 8 else 0)=4∨fB (bif a then 4 else 0) (bif b then 8 else 0)=8∨fB (bif a then 4 else 0) (bif b then 8 else 0)=12:=by
  intro a b;cases a<;>cases b<;>decide
 exact bG9 c3 hx hv2 (hz _ _)
noncomputable def WH(k s:Int):Nat→Int→Int→Int→Int×Int×Int
 |0,f,v,a=>(f,v,a)
 |n+1,f,v,a=>WH k s n (PZ k s f v).2 (PZ k s f v).1 (fB a (bF (PZ k s f v).2 2))
theorem b4Z{k s f v:Int}{n:Nat}(hs:s=1∨s=2)(hv:dK s v=true)(hf:cJ f 0 31=true)(hn:n≤100):VK (V218_0.mk k s f v (n:Int) 0)=true∧(B0 (V218_0.mk k s f v (n:Int) 0)).s2=(WH k s n f v 0).1∧(B0 (V218_0.mk k s f v (n:Int) 0)).s3=(WH k s n f v 0).2.1∧(B0 (V218_0.mk k s f v (n:Int) 0)).s13=(WH k s n f v 0).2.2:=by
 unfold VK B0;refine jA (Post:=fun w:V218_0=>w.s2=(WH k s n f v 0).1∧w.s3=(WH k s n f v 0).2.1∧w.s13=(WH k s n f v 0).2.2) (eY (fun(m:Nat) (w:V218_0)=>w.s0=k∧w.s1=s∧w.s4=(m:Int)∧m≤100∧dK s w.s3=true∧cJ w.s2 0 31=true∧WH k s m w.s2 w.s3 w.s13=WH k s n f v 0) _ ?_ 2097152 n _ ⟨rfl,rfl,rfl,hn,hv,hf,rfl⟩ (by omega))
 rintro m w ⟨e0,e1,e2,e3,e4,e5,e6⟩
 obtain⟨o1,o2,o3⟩:=aEH (k:=k) hs e4 e5;unfold IK;simp only[aB,aI,aA,wX,e0,e1,e2,o1,tH,PF,Bool.and_true,true_and];refine⟨fun q=>⟨m-1,by omega,?_,by omega,o2,o3,?_⟩,fun q=>?_⟩
 ·rw[eX (by omega)];omega
 ·obtain⟨p,rfl⟩: ∃p,m=p+1:=⟨m-1,by omega⟩
  rw[←e6];rfl
 ·obtain rfl:m=0:=by omega
  rw[←e6];exact⟨rfl,rfl,rfl⟩
theorem b40{k s f v:Int}{n:Nat}(hs:s=1∨s=2)(hv:dK s v=true)(hf:cJ f 0 31=true)(hk:cJ k 0 7=true)(hn:n≤100):aLS (V268_0.mk k s f v (n:Int) 0)=true∧((UG (V268_0.mk k s f v (n:Int) 0)).s2=(WH k s n f v 0).1∧(UG (V268_0.mk k s f v (n:Int) 0)).s3=(WH k s n f v 0).2.1∧(UG (V268_0.mk k s f v (n:Int) 0)).s14=(WH k s n f v 0).2.2):=by
 unfold aLS UG;refine jA (Post:=fun w:V268_0=>w.s2=(WH k s n f v 0).1∧w.s3=(WH k s n f v 0).2.1∧w.s14=(WH k s n f v 0).2.2) (eY (fun(m:Nat) (w:V268_0)=>w.s0=k∧w.s1=s∧w.s4=(m:Int)∧m≤100∧dK s w.s3=true∧cJ w.s2 0 31=true∧WH k s m w.s2 w.s3 w.s14=WH k s n f v 0) _ ?_ 2097152 n _ ⟨rfl,rfl,rfl,hn,hv,hf,rfl⟩ (by omega))
 rintro m w ⟨e0,e1,e2,e3,e4,e5,e6⟩
 obtain⟨-,o2,o3⟩:=aEH (k:=k) hs e4 e5;obtain⟨o1,o4⟩:=b4Y hs e4 e5 hk;unfold NJ;simp only[aB,aI,aA,BX,e0,e1,e2,o1,o4,tH,PF,Bool.and_true,true_and];refine⟨fun q=>⟨m-1,by omega,?_,by omega,o2,o3,?_⟩,fun q=>?_⟩
 ·rw[eX (by omega)];omega
 ·obtain⟨p,rfl⟩: ∃p,m=p+1:=⟨m-1,by omega⟩
  rw[←e6];rfl
 ·obtain rfl:m=0:=by omega
  rw[←e6];exact⟨rfl,rfl,rfl⟩
theorem byJ{k s f v c:Int}(hs:s=1∨s=2)(hv:dK s v=true)(hf:cJ f 0 31=true)(hk:cJ k 0 7=true)(h0:1≤c)(h1:c≤100):bLU k s f v c=true∧bLT k s f v c=aGK k s f v c:=by
 obtain⟨n,rfl⟩:=Int.eq_ofNat_of_zero_le (show 0≤c by omega)
 have hc:eqI (n:Int) 0=false:=by rw[iS];omega
 obtain⟨ik,a1,a2,a3⟩:=b4Z (k:=k) hs hv hf (n:=n) (by omega)
 obtain⟨b0,b1,b2,b3⟩:=b40 hs hv hf hk (n:=n) (by omega)
 have e:aGK k s f v (n:Int)=((WH k s n f v 0).2.1,fB (WH k s n f v 0).1 (WH k s n f v 0).2.2):=by
  refine(aK (t:=aM7 k s f v (n:Int)) (P:=fun r=>r=((WH k s n f v 0).2.1,fB (WH k s n f v 0).1 (WH k s n f v 0).2.2)) ?_).2
  unfold aM7;simp only[aB,aI,aA,VL,aDR,(GE hs).1,(fS _ _).1,hc,ik,a1,a2,a3,Bool.and_true,true_and,Bool.false_eq_true,false_implies,implies_true]
 refine aK (t:=a3Z k s f v (n:Int)) (P:=fun r=>r=aGK k s f v (n:Int)) ?_
 unfold a3Z;simp only[aB,aI,aA,aCC,aLT,hc,b0,b1,b2,b3,e,Bool.and_true,true_and,Bool.false_eq_true,false_implies,implies_true]
end Go.Proofs.YtdipcnijfkdnfaaGreatWhole

namespace Go.Proofs.YtdipcnijfkdnfaaGreatWhole
open Go Go.Zq
set_option maxHeartbeats 4000000
set_option maxRecDepth 100000
theorem bPC{c:Int}(h:cJ c 0 31=true):nM c 2=bF c 1:=rR (p:=fun c=>nM c 2=bF c 1) h (by decide+kernel)
theorem bQA(c f:Int):a6E c f=bif eqI c 2 then eqI (bF f 5) 0 else bif eqI c 4 then eqI (bF f 1) 0 else bif eqI c 6 then eqI (bF f 4) 0 else bif eqI c 8 then eqI (bF f 2) 0 else bif eqI c 10 then eqI (bF f 8) 0 else bif eqI c 12 then AX (dD (bF f 8) 0) (dD (bF f 2) 0)else bif eqI c 14 then(bif AX (dD (bF f 8) 0) (dD (bF f 2) 0)then eqI (bF f 4) 0 else false)else true:=by
 refine(aK (t:=aM9 c f) (P:=fun r=>r=bif eqI c 2 then eqI (bF f 5) 0 else bif eqI c 4 then eqI (bF f 1) 0 else bif eqI c 6 then eqI (bF f 4) 0 else bif eqI c 8 then eqI (bF f 2) 0 else bif eqI c 10 then eqI (bF f 8) 0 else bif eqI c 12 then AX (dD (bF f 8) 0) (dD (bF f 2) 0)else bif eqI c 14 then(bif AX (dD (bF f 8) 0) (dD (bF f 2) 0)then eqI (bF f 4) 0 else false)else true) ?_).2
 unfold aM9;simp only[aB,aI,aA,aM8,true_and];refine⟨fun q=>by rw[q];rfl,fun q=>?_⟩
 rw[q];refine⟨fun q=>by rw[q];rfl,fun q=>?_⟩
 rw[q];refine⟨fun q=>by rw[q];rfl,fun q=>?_⟩
 rw[q];refine⟨fun q=>by rw[q];rfl,fun q=>?_⟩
 rw[q];refine⟨fun q=>by rw[q];rfl,fun q=>?_⟩
 rw[q];refine⟨fun q=>by rw[q];rfl,fun q=>?_⟩
 rw[q];exact⟨fun q=>by rw[q];rfl,fun q=>by rw[q];rfl⟩
theorem bQB(c f:Int):aNB c f=AX (a6E (gI c 1) f) (eqI (bF c 1) 0):=by
 refine(aK (t:=aNA c f) (P:=fun r=>r=AX (a6E (gI c 1) f) (eqI (bF c 1) 0)) ?_).2
 unfold aNA;simp only[aB,aA,a8P,Bool.and_true,true_and]
theorem b41(a f:Int):PX a f=true∧NK a f=dD (bF f a) 0:=by
 refine aK (t:=a30 a f) (P:=fun r=>r=dD (bF f a) 0) ?_
 unfold a30;simp only[aB,aA,true_and]
theorem bHA(x y:Int):(!(dD x y))=eqI x y:=by
 cases h:eqI x y
 ·rw[iS]at h;have:dD x y=true:=by rw[oP];exact h
  rw[this];rfl
 ·rw[eC]at h;have:dD x y=false:=by rw[PE];exact h
  rw[this];rfl
theorem b42{c f:Int}(hc:cJ c 0 31=true):bLY c f=true∧bLX c f=aNB c f:=by
 refine aK (t:=a31 c f) (P:=fun r=>r=aNB c f) ?_
 rw[bQB,bQA];have hr:=bPC hc;unfold a31;simp only[aB,aI,aA,(b41 _ _).1,(b41 _ _).2,hr,bHA,Bool.and_true,Bool.true_or,Bool.or_true,true_and];refine⟨fun q=>by rw[q];rfl,fun q=>?_⟩
 rw[q];refine⟨fun q=>by rw[q];rfl,fun q=>?_⟩
 rw[q];refine⟨fun q=>by rw[q];rfl,fun q=>?_⟩
 rw[q];refine⟨fun q=>by rw[q];rfl,fun q=>?_⟩
 rw[q];refine⟨fun q=>by rw[q];rfl,fun q=>?_⟩
 rw[q];refine⟨fun q=>by rw[q];rfl,fun q=>?_⟩
 rw[q];refine⟨fun q=>?_,fun q=>by rw[q];rfl⟩
 rw[q,cond_true,cond_false,cond_false,cond_false,cond_false,cond_false,cond_false];cases eqI (bF f 4) 0<;>cases AX (dD (bF f 8) 0) (dD (bF f 2) 0)<;>rfl
end Go.Proofs.YtdipcnijfkdnfaaGreatWhole

namespace Go.Proofs.YtdipcnijfkdnfaaGreatWhole
open Bool renaming and_true → qt
open Go Go.Zq
set_option maxHeartbeats 4000000
set_option maxRecDepth 100000
theorem aEY{v:Int}(h:cJ v 0 255=true):a4E v=true∧bL8 v=jG v:=by
 refine aK (t:=a4D v) (P:=fun q=>q=jG v) ?_
 have e1:fF v 4=v/16:=kW (n:=4) 4 rfl (by omega)
 have e2:bF v 15=v%16:=jF 4 _ (by omega) (by decide)
 rw[(Y6 v).2,e1,e2,h];unfold a4D;simp only[aB,aA,kK,kJ,e2,qt,true_and];rw[aU]at h;cases h1:cJ v 0 153<;>cases h2:leI (v/16) 9<;>cases h3:leI (v%16) 9<;>try rfl
 ·rw[lS]at h2 h3;have:cJ v 0 153=true:=aU.2 (by omega)
  rw[h1]at this;cases this
 ·rw[aTW]at h2;rw[aU]at h1;omega
theorem aUT{c a b:Int}(hc:WO c)(ha:cJ a 0 255=true)(hb:cJ b 0 255=true):bD5 c [aY a,aY b]=true∧bD4 c [aY a,aY b]=(jG a&&jG b):=by
 refine aK (t:=a4G c [aY a,aY b]) (P:=fun q=>q=(jG a&&jG b)) ?_
 have hc1:cJ c 0 1=true:=by rcases hc with rfl|rfl<;>decide
 have L:aLY (V303_0.mk c (ri [a,b]) 2 0)=true∧((UJ (V303_0.mk c (ri [a,b]) 2 0)).s0=c∧ltI (UJ (V303_0.mk c (ri [a,b]) 2 0)).s9 (UJ (V303_0.mk c (ri [a,b]) 2 0)).s8=!(jG a&&jG b)):=by
  unfold aLY UJ;refine jA (Post:=fun w:V303_0=>w.s0=c∧ltI w.s9 w.s8=!(jG a&&jG b)) (eY (fun(m:Nat) (w:V303_0)=>w.s0=c∧w.s7=ri [a,b]∧w.s8=2∧w.s9=((2-m:Nat):Int)∧m≤2∧(m≤1→jG a=true)∧(m=0→jG b=true)) _ ?_ 2097152 2 _ ⟨rfl,rfl,rfl,rfl,by omega,by omega,by omega⟩ (by omega))
  rintro m w ⟨e0,e1,e2,e3,e4,e5,e6⟩
  have ka:a4E a=true:=(aEY ha).1;have kb:a4E b=true:=(aEY hb).1;have ga:=(aEY ha).2;have gb:=(aEY hb).2;unfold NP;have hm:m=2∨m=1∨m=0:=by omega
  rcases hm with rfl|rfl|rfl
  ·have g0:bR (ri [a,b]) (Int.toNat ((2-2:Nat):Int)) 0=a:=rfl;have g1:iG [.int .i64] (ri [a,b]) ((2-2:Nat):Int)=true:=vC (zs:=[a,b]) (by simp only[List.length_cons,List.length_nil];omega)
   have l:ltI ((2-2:Nat):Int) 2=true:=rfl;simp only[aB,aI,aA,e0,e1,e2,e3,l,g0,g1,ka,ga,qt,true_and,forall_const,Bool.true_eq_false,false_implies,and_true];refine⟨fun q=>?_,fun q=>⟨1,by omega,?_⟩⟩
   rotate_left
   ·have q:jG a=true:=by simpa using q
    exact⟨by decide,by omega,fun _=>q,by omega⟩
   have q:jG a=false:=by simpa using q
   rw[q];rfl
  ·have g0:bR (ri [a,b]) (Int.toNat ((2-1:Nat):Int)) 0=b:=rfl;have g1:iG [.int .i64] (ri [a,b]) ((2-1:Nat):Int)=true:=vC (zs:=[a,b]) (by simp only[List.length_cons,List.length_nil];omega)
   have l:ltI ((2-1:Nat):Int) 2=true:=rfl;simp only[aB,aI,aA,e0,e1,e2,e3,l,g0,g1,kb,gb,qt,true_and,forall_const,Bool.true_eq_false,false_implies,and_true];refine⟨fun q=>?_,fun q=>⟨0,by omega,?_⟩⟩
   rotate_left
   ·have q:jG b=true:=by simpa using q
    exact⟨by decide,by omega,fun _=>e5 (by omega),fun _=>q⟩
   have q:jG b=false:=by simpa using q
   rw[q,Bool.and_false];rfl
  ·have l:ltI ((2-0:Nat):Int) 2=false:=rfl;simp only[aB,aI,aA,e0,e1,e2,e3,l,e5 (by omega),e6 rfl,Bool.false_eq_true,false_implies,true_and,forall_const]
   rfl
 obtain⟨L1,L2,L3⟩:=L;have ei:bX (ri [a,b])=2:=rfl;have er:[aY a,aY b]=ri [a,b]:=rfl;unfold a4G;simp only[aB,aI,aA,UK,ei,er,L1,L2,L3,(bIO _).1,(bIO _).2,hc1,qt,true_and];cases jG a&&jG b<;>simp
theorem bHB{v:Int}(h:Bcd v):aW7 v=true∧XB v=v/16*10+v%16:=by
 refine aK (t:=a4H v) (P:=fun q=>q=v/16*10+v%16) ?_
 have e1:fF v 4=v/16:=kW (n:=4) 4 rfl (by omega)
 have e2:bF v 15=v%16:=jF 4 _ (by omega) (by decide)
 obtain⟨h1,h2,h3,h4⟩:=h;unfold a4H;simp only[aB,aA,e1,e2,show leI 0 4=true from rfl,qt,true_and]
 rw[gU (by omega),bV (by omega)]
theorem cHU(n:Int):tY n=fB (m9 (lW n 10) 4) (nM n 10):=by
 refine(aK (t:=aNF n) (P:=fun q=>q=fB (m9 (lW n 10) 4) (nM n 10)) ?_).2
 unfold aNF;simp only[aB,aA,show dD 10 0=true from rfl,show leI 0 4=true from rfl,qt,true_and]
theorem ofJ(n:Int):bD7 n=true∧bD6 n=tY n:=by
 refine aK (t:=a4I n) (P:=fun q=>q=tY n) ?_
 rw[cHU];unfold a4I;simp only[aB,aA,show dD 10 0=true from rfl,show leI 0 4=true from rfl,qt,true_and]
theorem b43{n:Int}(h0: -100≤n)(h1:n≤199):bD9 n=true∧bD8 n=bif cJ n 0 99 then(tY n,0)else(tY ((n+100)%100),1):=by
 refine aK (t:=a4J n) (P:=fun q=>q=bif cJ n 0 99 then(tY n,0)else(tY ((n+100)%100),1)) ?_
 have e:nM (bE n 100) 100=(n+100)%100:=by
  rw[bV (by omega)];unfold nM;exact Int.tmod_eq_emod_of_nonneg (by omega)
 unfold a4J;simp only[aB,aI,aA,kK,kJ,(ofJ _).1,(ofJ _).2,e,show dD 100 0=true from rfl,qt,true_and]
 exact⟨fun q=>by rw[q];rfl,fun q=>by rw[q];rfl⟩
theorem b44{c a b:Int}(hc:WO c)(ha:cJ a 0 255=true)(hb:cJ b 0 255=true):bME c a b=true∧bMD c a b=bif jG a&&jG b then((P0 c a b).1,(P0 c a b).2,true)else(0,0,false):=by
 refine aK (t:=a4K c a b) (P:=fun q=>q=bif jG a&&jG b then((P0 c a b).1,(P0 c a b).2,true)else(0,0,false)) ?_
 obtain⟨r1,r2⟩:=aUT hc ha hb;unfold a4K;simp only[aB,aI,aA,r1,r2,qt,true_and];refine⟨fun q=>by rw[yL q,cond_false],fun q=>?_⟩
 have q:(jG a&&jG b)=true:=EU q;rw[q,cond_true];rw[Bool.and_eq_true]at q;obtain⟨a1,a2⟩:=bHB (kZ q.1);obtain⟨b1,b2⟩:=bHB (kZ q.2);obtain⟨c1,c2⟩:=PI (kZ q.1);obtain⟨d1,d2⟩:=PI (kZ q.2);obtain⟨h1,h2,h3,h4⟩:=kZ q.1;obtain⟨h5,h6,h7,h8⟩:=kZ q.2;have hc':0≤c∧c≤1:=by rcases hc with rfl|rfl<;>decide
 have e1:bE (bE (a/16*10+a%16) (b/16*10+b%16)) c=a/16*10+a%16+(b/16*10+b%16)+c:=by rw[bV (x:=a/16*10+a%16) (by omega),bV (by omega)]
 obtain⟨n,hn⟩: ∃n:Int,n=a/16*10+a%16+(b/16*10+b%16)+c:=⟨_,rfl⟩;rw[←hn]at e1;have n0:0≤n∧n≤199:=by omega
 have e2:nM n 100=n%100:=by unfold nM;exact Int.tmod_eq_emod_of_nonneg n0.1
 have e3:lW n 100=n/100:=by unfold lW;rw[Int.tdiv_eq_ediv_of_nonneg n0.1,IntKind.wrap_i64];omega
 have sp:P0 c a b=(tY (n%100),n/100):=by
  refine(aK (t:=aNG c a b) (P:=fun q=>q=(tY (n%100),n/100)) ?_).2
  unfold aNG;simp only[aB,aA,aDS,c1,c2,d1,d2,e1,e2,e3,(aN8 (n:=n%100) (by omega) (by omega)).1,show dD 100 0=true from rfl,qt,true_and]
 obtain⟨k1,k2⟩:=b43 (n:=n) (by omega) (by omega)
 have hh:(bif cJ n 0 99 then(tY n,(0:Int))else(tY ((n+100)%100),1))=(tY (n%100),n/100):=by
  cases h:cJ n 0 99
  ·have h':¬(0≤n∧n≤99):=fun z=>by rw[aU.2 z]at h;cases h
   rw[cond_false,show(n+100)%100=n%100 by omega,show n/100=1 by omega]
  ·rw[aU]at h;rw[cond_true,show n%100=n by omega,show n/100=0 by omega]
 simp only[aLZ,a1,a2,b1,b2,e1,k1,k2,hh,sp,qt,true_and]
theorem b45{c a b:Int}(hc:WO c)(ha:cJ a 0 255=true)(hb:cJ b 0 255=true):bMG c a b=true∧bMF c a b=bif jG a&&jG b then((P1 c a b).1,(P1 c a b).2,true)else(0,0,false):=by
 refine aK (t:=a4L c a b) (P:=fun q=>q=bif jG a&&jG b then((P1 c a b).1,(P1 c a b).2,true)else(0,0,false)) ?_
 obtain⟨r1,r2⟩:=aUT hc ha hb;unfold a4L;simp only[aB,aI,aA,r1,r2,qt,true_and];refine⟨fun q=>by rw[yL q,cond_false],fun q=>?_⟩
 have q:(jG a&&jG b)=true:=EU q;rw[q,cond_true];rw[Bool.and_eq_true]at q;obtain⟨a1,a2⟩:=bHB (kZ q.1);obtain⟨b1,b2⟩:=bHB (kZ q.2);obtain⟨c1,c2⟩:=PI (kZ q.1);obtain⟨d1,d2⟩:=PI (kZ q.2);obtain⟨h1,h2,h3,h4⟩:=kZ q.1;obtain⟨h5,h6,h7,h8⟩:=kZ q.2;have hc':0≤c∧c≤1:=by rcases hc with rfl|rfl<;>decide
 have e1:cM (cM (a/16*10+a%16) (b/16*10+b%16)) c=a/16*10+a%16-(b/16*10+b%16)-c:=by rw[eX (x:=a/16*10+a%16) (by omega),eX (by omega)]
 obtain⟨n,hn⟩: ∃n:Int,n=a/16*10+a%16-(b/16*10+b%16)-c:=⟨_,rfl⟩;rw[←hn]at e1;have n0: -100≤n∧n≤99:=by omega
 have e2:bE n 100=n+100:=bV (by omega)
 have sp:P1 c a b=bif ltI n 0 then(tY (n+100),1)else(tY n,0):=by
  refine(aK (t:=aNH c a b) (P:=fun q=>q=bif ltI n 0 then(tY (n+100),1)else(tY n,0)) ?_).2
  unfold aNH;simp only[aB,aI,aA,aDT,c1,c2,d1,d2,e1,e2,qt,true_and];refine⟨fun z=>?_,fun z=>?_⟩
  ·rw[z];rw[eD]at z;refine⟨?_,rfl⟩;by_cases hz:n+100≤99
   ·exact(aN8 (n:=n+100) (by omega) hz).1
   ·exact(aN8 (n:=n+100) (by omega) (by omega)).1
  ·rw[z];rw[nV]at z;exact⟨(aN8 (n:=n) (by omega) (by omega)).1,rfl⟩
 obtain⟨k1,k2⟩:=b43 (n:=n) (by omega) (by omega)
 have hh:(bif cJ n 0 99 then(tY n,(0:Int))else(tY ((n+100)%100),1))=bif ltI n 0 then(tY (n+100),1)else(tY n,0):=by
  cases h:ltI n 0
  ·rw[nV]at h;rw[aU.2 ⟨h,n0.2⟩,cond_true,cond_false]
  ·rw[eD]at h;have:cJ n 0 99=false:=by
    cases hz:cJ n 0 99
    ·rfl
    ·rw[aU]at hz;omega
   rw[this,cond_false,cond_true,show(n+100)%100=n+100 by omega]
 simp only[aL0,a1,a2,b1,b2,e1,k1,k2,hh,sp,qt,true_and]
end Go.Proofs.YtdipcnijfkdnfaaGreatWhole

namespace Go.Proofs.YtdipcnijfkdnfaaGreatWhole
open Go Go.Zq
set_option maxHeartbeats 4000000
set_option maxRecDepth 100000
def ff(pc w:Int):aL:=⟨0,pc,0,w,false⟩
def dG(x:aS)(pc w:Int)(f:aL):bJ:=⟨x,pc,w,f⟩
def dF(m:MM):aL:=bif cF m then f0 else m.f
theorem oX(x:aS)(pc w:Int)(f:aL):(dG x pc w f).fx=x:=rfl
theorem pI(x:aS)(pc w:Int)(f:aL):(dG x pc w f).fpc=pc:=rfl
theorem pN(x:aS)(pc w:Int)(f:aL):(dG x pc w f).fword=w:=rfl
theorem oY(x:aS)(pc w:Int)(f:aL):(dG x pc w f).ffault=f:=rfl
theorem cHV(x:aS)(pc w:Int)(f:aL):bJ.mk x pc w f=dG x pc w f:=rfl
def WI(v p:Int)(f:aL)(w:Int):aL:=bif eqI f.Vector 0 then⟨v,p,0,w,false⟩else f
theorem tJ(v p:Int)(x:aS)(pc w:Int)(f:aL)(c:aG):aK4 v p (dG x pc w f) c=true∧aK3 v p (dG x pc w f) c=dG x pc w (WI v p f w):=by
 refine aK (t:=a28 v p (dG x pc w f) c) (P:=fun q=>q=dG x pc w (WI v p f w)) ?_
 unfold a28 WI;simp only[aB,aI,aA,aK2,oX,pI,pN,oY,aD,bO,wz,Bool.and_true,true_and];exact⟨fun q=>by rw[q];rfl,fun q=>by rw[q];rfl⟩
theorem OH(c:Int):a2O c=true∧aWK c=bif eqI c 2 then 3 else 2:=by
 refine aK (t:=a2N c) (P:=fun q=>q=bif eqI c 2 then 3 else 2) ?_
 unfold a2N;simp only[aB,aI,aA,true_and];exact⟨fun q=>by rw[q];rfl,fun q=>by rw[q];rfl⟩
def aEZ(code addr:Int)(wr:Bool)(f:aL)(pc w:Int):aL:=bif (bif eqI code 0 then true else dD f.Vector 0)then f else⟨bif eqI code 2 then 3 else 2,pc,addr,w,wr⟩
theorem qM(code addr:Int)(wr:Bool)(x:aS)(pc w:Int)(f:aL)(c:aG):aWQ code addr wr (dG x pc w f) c=true∧aWP code addr wr (dG x pc w f) c=dG x pc w (aEZ code addr wr f pc w):=by
 refine aK (t:=a3C code addr wr (dG x pc w f) c) (P:=fun q=>q=dG x pc w (aEZ code addr wr f pc w)) ?_
 unfold a3C aEZ;simp only[aB,aI,aA,aLG,aLF,oX,pI,pN,oY,(OH _).1,(OH _).2,(tJ _ _ _ _ _ _ _).1,(tJ _ _ _ _ _ _ _).2,aD,bO,wz,Bool.and_true,true_and];refine⟨fun q=>by rw[q];rfl,fun q=>?_⟩
 rw[q];have hf:eqI f.Vector 0=true:=by
  cases h:eqI f.Vector 0
  ·have:dD f.Vector 0=true:=by rw[iS]at h;exact oP.2 h
   rw[this]at q;cases h2:eqI code 0<;>rw[h2]at q<;>cases q
  ·rfl
 unfold WI;rw[hf];rfl
theorem OI{pc w:Int}{r:RM}{zs:List Int}{l:List aE}{s:Bool}(k sz a v:Int):dF (cU ⟨r,zs,l,s,ff pc w⟩ k sz a v).1=aEZ (cW k sz a) a (eqI k 2) f0 pc w:=by
 have hf:cF (cU ⟨r,zs,l,s,ff pc w⟩ k sz a v).1=eqI (cW k sz a) 0:=jZ rfl;unfold dF aEZ;rw[hf];cases h:eqI (cW k sz a) 0
 ·have hn:dD (cW k sz a) 0=true:=by rw[iS]at h;exact oP.2 h
  unfold cU;dsimp only;rw[hn];rfl
 ·rfl
theorem aUU{t:Int}{x:aS}{pc w a:Int}{r:RM}{zs:List Int}{l:List aE}{s h:Bool}(hr:r.Ok t)(hb:BusOk zs l)(hs:x.Size=1∨x.Size=2)(ha:cJ a 0 65535=true):a3E a (dG x pc w f0) (bP r zs l s h)=true∧kY a (dG x pc w f0) (bP r zs l s h)=(dG x pc w (dF (cU ⟨r,zs,l,s,ff pc w⟩ 1 x.Size a 0).1),bP r (cU ⟨r,zs,l,s,ff pc w⟩ 1 x.Size a 0).1.zs (cU ⟨r,zs,l,s,ff pc w⟩ 1 x.Size a 0).1.l s h,(cU ⟨r,zs,l,s,ff pc w⟩ 1 x.Size a 0).2):=by
 refine aK (t:=a3D a (dG x pc w f0) (bP r zs l s h)) (P:=fun q=>q=(dG x pc w (dF (cU ⟨r,zs,l,s,ff pc w⟩ 1 x.Size a 0).1),bP r (cU ⟨r,zs,l,s,ff pc w⟩ 1 x.Size a 0).1.zs (cU ⟨r,zs,l,s,ff pc w⟩ 1 x.Size a 0).1.l s h,(cU ⟨r,zs,l,s,ff pc w⟩ 1 x.Size a 0).2)) ?_
 have hT:TouchOk x.Size 0 zs l:=⟨hs,LG hs,hb.hz,hb.hb,hb.hl⟩;obtain⟨a1,a2⟩:=FY (k:=1) (a:=a) hT ha (fun e=>rfl)
 have a1':H7 1 x.Size a 0 (pA zs l)=true:=a1;have a2':KI 1 x.Size a 0 (pA zs l)=(pA (tB 1 x.Size a 0 zs) (tL 1 x.Size a 0 zs l),tV 1 x.Size a 0 zs,cW 1 x.Size a):=a2;rw[OI];unfold a3D;simp only[aB,aI,aA,aB0,aBZ,H9,oX,pI,pN,oY,jY,mG,lT,lB,a1',a2',(qM _ _ _ _ _ _ _ _).1,(qM _ _ _ _ _ _ _ _).2,aD,bO,wz,Bool.and_true,true_and];rfl
theorem bQC{t:Int}{x:aS}{pc w a v:Int}{r:RM}{zs:List Int}{l:List aE}{s h:Bool}(hr:r.Ok t)(hb:BusOk zs l)(hs:x.Size=1∨x.Size=2)(ha:cJ a 0 65535=true)(hv:dK x.Size v=true):bLM a v (dG x pc w f0) (bP r zs l s h)=true∧aWW a v (dG x pc w f0) (bP r zs l s h)=(dG x pc w (dF (cU ⟨r,zs,l,s,ff pc w⟩ 2 x.Size a v).1),bP r (cU ⟨r,zs,l,s,ff pc w⟩ 2 x.Size a v).1.zs (cU ⟨r,zs,l,s,ff pc w⟩ 2 x.Size a v).1.l s h):=by
 refine aK (t:=a3R a v (dG x pc w f0) (bP r zs l s h)) (P:=fun q=>q=(dG x pc w (dF (cU ⟨r,zs,l,s,ff pc w⟩ 2 x.Size a v).1),bP r (cU ⟨r,zs,l,s,ff pc w⟩ 2 x.Size a v).1.zs (cU ⟨r,zs,l,s,ff pc w⟩ 2 x.Size a v).1.l s h)) ?_
 have hT:TouchOk x.Size v zs l:=⟨hs,hv,hb.hz,hb.hb,hb.hl⟩;obtain⟨a1,a2⟩:=FY (k:=2) (a:=a) hT ha (fun e=>absurd e (by decide))
 have a1':H7 2 x.Size a v (pA zs l)=true:=a1;have a2':KI 2 x.Size a v (pA zs l)=(pA (tB 2 x.Size a v zs) (tL 2 x.Size a v zs l),0,cW 2 x.Size a):=a2;rw[OI];unfold a3R;simp only[aB,aI,aA,aB7,aB6,NG,oX,pI,pN,oY,jY,mG,lT,lB,a1',a2',(qM _ _ _ _ _ _ _ _).1,(qM _ _ _ _ _ _ _ _).2,aD,bO,wz,Bool.and_true,true_and];rfl
theorem aG9{t:Int}{x:aS}{pc w k:Int}{f:aL}{r:RM}{zs:List Int}{l:List aE}{s h:Bool}(hr:r.Ok t)(hs:x.Size=1∨x.Size=2)(hk:cJ k 0 3=true):aGG k (dG x pc w f) (bP r zs l s h)=true∧aGF k (dG x pc w f) (bP r zs l s h)=cX r.d k%cD x.Size:=by
 refine aK (t:=a3A k (dG x pc w f) (bP r zs l s h)) (P:=fun q=>q=cX r.d k%cD x.Size) ?_
 obtain⟨d1,d2,d3⟩:=jX hr.d4 hk;obtain⟨s1,s2,s3,s4,s5⟩:=gG (v:=0) hr.d4 hk;rw[Nat.zero_add]at s5;unfold a3A;simp only[aB,aA,oX,jY,eS,Nat.zero_add,aT,bB,d2,s3,s4,s5,(iT hs).1,(iT hs).2,mask hs,aD,bO,wz,Bool.and_true,true_and]
theorem bHC{q:Int}(h0:0≤q)(h1:q≤65535):gI q 255=q/256*256:=by
 obtain⟨n,rfl⟩:=Int.eq_ofNat_of_zero_le h0;unfold gI;have e1:(BitVec.ofInt 64 (n:Int))&&& ~~~(BitVec.ofInt 64 255)=BitVec.ofNat 64 (n&&&18446744073709551360):=by
  apply BitVec.eq_of_toNat_eq;have hn:n<18446744073709551616:=by omega
  have ha:n&&&18446744073709551360<18446744073709551616:=Nat.lt_of_le_of_lt Nat.and_le_left hn;rw[BitVec.toNat_and,BitVec.toNat_not,BitVec.toNat_ofNat,BitVec.toNat_ofInt,BitVec.toNat_ofInt];rw[Nat.mod_eq_of_lt ha]
  congr 1
  omega
 rw[e1];have e2:n&&&18446744073709551360=n/256*256:=by
  have:n&&&18446744073709551360=(n/256&&&72057594037927935)*256:=by
   apply Nat.eq_of_testBit_eq;intro i;rw[show(n/256&&&72057594037927935)*256=(n/2^8&&&72057594037927935)<<<8 from by rw[Nat.shiftLeft_eq]]
   rw[Nat.testBit_shiftLeft,Nat.testBit_and,Nat.testBit_and,Nat.testBit_div_two_pow];by_cases hi:8≤i
   ·have:(18446744073709551360:Nat)=72057594037927935<<<8:=by decide
    rw[this,Nat.testBit_shiftLeft];simp[hi]
   ·have:(18446744073709551360:Nat)=72057594037927935<<<8:=by decide
    rw[this,Nat.testBit_shiftLeft];simp[hi]
  rw[this];have:n/256&&&72057594037927935=n/256%72057594037927936:=Nat.and_two_pow_sub_one_eq_mod (n:=56) (n/256);rw[this];omega
 rw[e2,BitVec.toNat_ofNat,IntKind.wrap_i64];omega
theorem a9I(a b:Int):fB a b=fB b a:=by
 unfold fB;rw[BitVec.or_comm]
theorem bQD{q v:Int}(h0:0≤q)(h1:q≤65535)(h2:0≤v)(h3:v<256):fB v (gI q 255)=q%65536/256*256+v:=by
 rw[bHC h0 h1,a9I,VS (by omega) (by omega) h2 h3]
 omega
theorem bHD{l:List Int}{i v:Int}(hl:l.length=4)(hi:cJ i 0 3=true):cX (l.set i.toNat v) i=v:=by
 obtain⟨-,-,hn⟩:=jX hl hi;unfold cX;rw[tI (by rw[List.length_set];exact hn)]
 simp
theorem bQE{s k:Int}(hs:s=1∨s=2):(bif eqI k 3 then 2 else s)=Y1 s k:=by
 unfold Y1;rcases hs with rfl|rfl
 ·cases h:eqI k 3
  ·have:dD k 3=true:=by rw[iS]at h;exact oP.2 h
   rw[this];rfl
  ·have:dD k 3=false:=by rw[eC]at h;exact PE.2 h
   rw[this];rfl
 ·cases eqI k 3<;>rfl
theorem WJ{t s:Int}{r:RM}{o:aF}(hr:r.Ok t)(hs:s=1∨s=2)(ho:OpOk o)(hm:2≤o.Mode∧o.Mode≤6):aLE s o r.g=true∧aLD s o r.g=((bU r s o).1.g,(bU r s o).2):=by
 refine aK (t:=a3B s o r.g) (P:=fun q=>q=((bU r s o).1.g,(bU r s o).2)) ?_
 obtain⟨d1,d2,d3⟩:=jX hr.a4 ho.hr;obtain⟨s1,s2,s3,s4,s5⟩:=gG (v:=0) hr.a4 ho.hr;rw[Nat.zero_add]at s1 s2 s5;obtain⟨q1,q2⟩:=nW hr.aw hr.a4 ho.hr;have hb:=a8L s o.Reg;have he:=aU.1 ho.he;have e1:bF (bE (cX r.a o.Reg) (Y1 s o.Reg)) 65535=(cX r.a o.Reg+Y1 s o.Reg)%65536:=by rw[bV (by omega),rX]
 have e2:bF (cM (cX r.a o.Reg) (Y1 s o.Reg)) 65535=(cX r.a o.Reg-Y1 s o.Reg)%65536:=by rw[eX (by omega),rX]
 have e3:bF (bE (cX r.a o.Reg) o.Ext) 65535=(cX r.a o.Reg+o.Ext)%65536:=by rw[bV (by omega),rX]
 have l4:(r.a.set o.Reg.toNat ((cX r.a o.Reg-Y1 s o.Reg)%65536)).length=4:=by rw[List.length_set];exact hr.a4
 obtain⟨-,x2,-⟩:=jX l4 ho.hr;obtain⟨-,-,-,-,x5⟩:=gG (v:=0) l4 ho.hr;rw[Nat.zero_add]at x5;rw[bHD hr.a4 ho.hr]at x2;unfold a3B bU;simp only[aB,aI,aA,aLC,UB,aLB,aLA,aK9,aBY,aBX,aK8,UA,eS,eV,aT,bB,Nat.zero_add,bQE hs,d2,s1,s2,s3,s4,s5,e1,e2,e3,dY,x2,x5,List.length_set,aD,bO,wz,Bool.and_true,true_and];refine⟨fun q=>?_,fun q=>?_⟩
 ·rw[eC]at q;rw[q];rfl
 refine⟨fun q=>by rw[q];rfl,fun q2=>?_⟩
 rw[q2];refine⟨fun q=>by rw[q];rfl,fun q3=>?_⟩
 rw[q3];refine⟨fun q=>by rw[q];rfl,fun q4=>?_⟩
 have:eqI o.Mode 6=true:=by
  rw[iS]at q q2 q3 q4;rw[eC];omega
 rw[q4,this];rfl
theorem a9J{s k v:Int}{r:RM}(h:r.Ok 65535)(hs:s=1∨s=2)(hk:cJ k 0 3=true)(hv:s=1→0≤v∧v<256):aB3 s k v r.g=true∧aB2 s k v r.g=(zW r s k v).g:=by
 refine aK (t:=a3G s k v r.g) (P:=fun q=>q=(zW r s k v).g) ?_
 obtain⟨d1,d2,d3⟩:=jX h.d4 hk;obtain⟨s1,s2,s3,s4,s5⟩:=gG (v:=0) h.d4 hk;rw[Nat.zero_add]at s1 s2 s5;have q:=nW h.dw h.d4 hk;have t1:=h.t1;have e:s=1→fB v (gI (cX r.d k) 255)=cX r.d k%65536/256*256+v:=fun e=>bQD q.1 (by omega) (hv e).1 (hv e).2
 unfold a3G zW;simp only[aB,aA,aLI,aLH,eS,eV,aT,bB,Nat.zero_add,d2,s1,s2,s3,s4,s5,dY,List.length_set,aD,bO,wz,Bool.and_true,Bool.true_or,true_and];rcases hs with rfl|rfl
 ·rw[e rfl];rfl
 ·rfl
theorem OJ{v:Int}{x:aS}{pc w:Int}{f:aL}{r:RM}{zs:List Int}{l:List aE}{s h:Bool}(hr:r.Ok 65535)(hs:x.Size=1∨x.Size=2):wL v (dG x pc w f) (bP r zs l s h)=true∧uJ v (dG x pc w f) (bP r zs l s h)=bP {r with fl:=iF x.Size r.fl v} zs l s h:=by
 refine aK (t:=a3J v (dG x pc w f) (bP r zs l s h)) (P:=fun q=>q=bP {r with fl:=iF x.Size r.fl v} zs l s h) ?_
 unfold a3J;simp only[aB,aA,oX,jY,mG,lT,lB,eS,eV,aW,(a9G hs).1,(a9G hs).2,aD,bO,wz,Bool.and_true,true_and];rfl
theorem toD{v:Int}{x:aS}{pc w:Int}{f:aL}{r:RM}{zs:List Int}{l:List aE}{s h:Bool}(hr:r.Ok 65535)(hs:x.Size=1∨x.Size=2)(hk:cJ x.Reg 0 3=true)(hv:x.Size=1→0≤v∧v<256)(h0:0≤v)(h2:v≤65535):PV v (dG x pc w f) (bP r zs l s h)=true∧PU v (dG x pc w f) (bP r zs l s h)=bif dD f.Vector 0 then bP r zs l s h else bP (zW {r with fl:=iF x.Size r.fl v} x.Size x.Reg v) zs l s h:=by
 refine aK (t:=a3K v (dG x pc w f) (bP r zs l s h)) (P:=fun q=>q=bif dD f.Vector 0 then bP r zs l s h else bP (zW {r with fl:=iF x.Size r.fl v} x.Size x.Reg v) zs l s h) ?_
 obtain⟨p1,p2⟩:=a9J hr hs hk hv;have hp:=OD (s:=x.Size) hr hk h0 (fun e=>(hv e).2) h2
 obtain⟨g1,g2⟩:=OJ (v:=v) (pc:=pc) (w:=w) (f:=f) (zs:=zs) (l:=l) (s:=s) (h:=h) hp hs;have g1':wL v (dG x pc w f) (aG.mk (zW r x.Size x.Reg v).g (pA zs l) s h)=true:=g1;have g2':uJ v (dG x pc w f) (aG.mk (zW r x.Size x.Reg v).g (pA zs l) s h)=_:=g2;unfold a3K;simp only[aB,aI,aA,aB4,UC,oX,oY,jY,mG,lT,lB,p1,p2,g1',g2',aD,bO,wz,Bool.and_true,true_and];exact⟨fun q=>by rw[q];rfl,fun q=>by rw[q];rfl⟩
end Go.Proofs.YtdipcnijfkdnfaaGreatWhole

namespace Go.Proofs.YtdipcnijfkdnfaaGreatWhole
open Bool renaming and_true → qt
open Bool renaming true_eq_false → q_1
open Go Go.Zq
set_option maxHeartbeats 4000000
set_option maxRecDepth 100000
def mq(r:RM)(zs:List Int)(l:List aE)(s:Bool)(pc w:Int):MM:=⟨r,zs,l,s,ff pc w⟩
theorem LP{r:RM}{zs:List Int}{l:List aE}{s:Bool}{pc w:Int}(hr:r.Ok 65535)(hb:BusOk zs l):(mq r zs l s pc w).Ok 65535:=⟨hr,hb⟩
def dR(x:aS)(pc w:Int)(h:Bool)(m:MM):bJ×aG:=(dG x pc w (dF m),bP m.r m.zs m.l m.stop h)
theorem aOE{x:aS}{pc w:Int}{r:RM}{zs:List Int}{l:List aE}{s h:Bool}(hr:r.Ok 65535)(hb:BusOk zs l)(hs:x.Size=1∨x.Size=2)(ho:OpOk x.Ea):aWR (dG x pc w f0) (bP r zs l s h)=true∧cT (dG x pc w f0) (bP r zs l s h)=((dR x pc w h (dU (mq r zs l s pc w) x.Size x.Ea).1).1,(dR x pc w h (dU (mq r zs l s pc w) x.Size x.Ea).1).2,(dU (mq r zs l s pc w) x.Size x.Ea).2.1):=by
 refine aK (t:=a3F (dG x pc w f0) (bP r zs l s h)) (P:=fun q=>q=((dR x pc w h (dU (mq r zs l s pc w) x.Size x.Ea).1).1,(dR x pc w h (dU (mq r zs l s pc w) x.Size x.Ea).1).2,(dU (mq r zs l s pc w) x.Size x.Ea).2.1)) ?_
 obtain⟨d1,d2,d3⟩:=jX hr.a4 ho.hr;obtain⟨s1,s2,s3,s4,s5⟩:=gG (v:=0) hr.a4 ho.hr;rw[Nat.zero_add]at s5;obtain⟨l1,l2⟩:=aG9 (pc:=pc) (w:=w) (f:=f0) (zs:=zs) (l:=l) (s:=s) (h:=h) hr hs ho.hr;have hm:=aU.1 ho.hm;unfold a3F;simp only[aB,aI,aA,NF,IA,aB1,oX,pI,pN,oY,jY,mG,lT,lB,eV,Nat.zero_add,aT,bB,l1,l2,d2,s3,s4,s5,aD,bO,wz,qt,true_and];unfold dU;refine⟨fun q=>by rw[q];rfl,fun q=>?_⟩
 rw[q];refine⟨fun q=>by rw[q];rfl,fun q1=>?_⟩
 rw[q1];refine⟨fun q=>by rw[q];rfl,fun q2=>?_⟩
 rw[q2];rw[iS]at q q1 q2;have hm':2≤x.Ea.Mode∧x.Ea.Mode≤6:=by omega
 obtain⟨p1,p2⟩:=WJ hr hs ho hm';obtain⟨p3,p4⟩:=rQ (s:=x.Size) hr ho;obtain⟨a1,a2⟩:=aUU (x:=x) (pc:=pc) (w:=w) (s:=s) (h:=h) p3 hb hs p4;simp only[p1,p2,jC,a1,a2,aD,bO,wz,qt,true_and];rfl
theorem setD{x:aS}{pc w a v:Int}{r:RM}{zs:List Int}{l:List aE}{s h:Bool}(hr:r.Ok 65535)(hb:BusOk zs l)(hs:x.Size=1∨x.Size=2)(ho:OpOk x.Ea)(ha:cJ a 0 65535=true)(hv:dK x.Size v=true):zF a v (dG x pc w f0) (bP r zs l s h)=true∧sJ a v (dG x pc w f0) (bP r zs l s h)=dR x pc w h (eK (mq r zs l s pc w) x.Size x.Ea a v):=by
 refine aK (t:=a3S a v (dG x pc w f0) (bP r zs l s h)) (P:=fun q=>q=dR x pc w h (eK (mq r zs l s pc w) x.Size x.Ea a v)) ?_
 have lv:=kM hs hv;obtain⟨p1,p2⟩:=a9J (v:=v) hr hs ho.hr (fun e=>by have:=lv.2.2 e;omega)
 obtain⟨a1,a2⟩:=bQC (x:=x) (pc:=pc) (w:=w) (s:=s) (h:=h) hr hb hs ha hv;unfold a3S;simp only[aB,aI,aA,aLP,aLO,oX,pI,pN,oY,jY,mG,lT,lB,p1,p2,a1,a2,aD,bO,wz,qt,true_and];unfold eK;exact⟨fun q=>by rw[q];rfl,fun q=>by rw[q];rfl⟩
theorem m6(x y:Int):dD x y=!(eqI x y):=by
 cases h:eqI x y
 ·rw[iS]at h;exact oP.2 h
 ·rw[eC]at h;exact PE.2 h
theorem tK{m:MM}(h:cF m=true):dF m=f0:=by unfold dF;rw[h];rfl
theorem zZ{m:MM}(h:cF m=false):dF m=m.f∧dD m.f.Vector 0=true:=by
 refine⟨by unfold dF;rw[h];rfl,?_⟩
 unfold cF at h;rw[m6,h];rfl
theorem aOF{x:aS}{pc w:Int}{r:RM}{zs:List Int}{l:List aE}{s h:Bool}(hr:r.Ok 65535)(hb:BusOk zs l)(hi:InsOk x)(h2:qK x):bLL (dG x pc w f0) (bP r zs l s h)=true∧aWV (dG x pc w f0) (bP r zs l s h)=dR x pc w h (CD (mq r zs l s pc w) x):=by
 refine aK (t:=a3Q (dG x pc w f0) (bP r zs l s h)) (P:=fun q=>q=dR x pc w h (CD (mq r zs l s pc w) x)) ?_
 obtain⟨r1,r2⟩:=aOE (pc:=pc) (w:=w) (s:=s) (h:=h) hr hb hi.hs hi.ho;obtain⟨r3,r4,r5⟩:=rT (LP (s:=s) (pc:=pc) (w:=w) hr hb) hi.hs hi.ho (V3 hi h2) hi.he;unfold a3Q CD;generalize dU (mq r zs l s pc w) x.Size x.Ea=q at r1 r2 r3 r4 r5;obtain⟨q1,v,a⟩:=q;dsimp only at r2 r3 r4 r5;obtain⟨qr,qz,ql,qs,qf⟩:=q1;have hqr:RM.Ok 65535 qr:=r3.r;have hd:=iP (s:=x.Size) (v:=cX qr.d x.Reg) hi.hs;obtain⟨l1,l2⟩:=aG9 (x:=x) (pc:=pc) (w:=w) (f:=f0) (zs:=qz) (l:=ql) (s:=qs) (h:=h) (k:=x.Reg) hqr hi.hs hi.hr;obtain⟨a1,a2⟩:=b32 (c:=0) (Or.inl rfl) hd r4;obtain⟨b1,b2⟩:=bG8 hd r4;obtain⟨c1,c2⟩:=cHS (f:=qr.fl) hd r4;have lv: ∀v,dK x.Size v=true→0≤v∧v≤65535∧(x.Size=1→0≤v∧v<256):=fun v hv=>by
  have:=kM hi.hs hv;exact⟨by omega,by omega,fun e=>by have:=this.2.2 e;omega⟩
 have pt: ∀v,dK x.Size v=true→aB3 x.Size x.Reg v qr.g=true∧aB2 x.Size x.Reg v qr.g=(zW qr x.Size x.Reg v).g:=fun v hv=>a9J hqr hi.hs hi.hr (lv v hv).2.2
 have tt: ∀v,dK x.Size v=true→PV v (dG x pc w f0) (bP qr qz ql qs h)=true∧PU v (dG x pc w f0) (bP qr qz ql qs h)=bP (zW {qr with fl:=iF x.Size qr.fl v} x.Size x.Reg v) qz ql qs h:=fun v hv=>by
  have:=toD (x:=x) (pc:=pc) (w:=w) (f:=f0) (zs:=qz) (l:=ql) (s:=qs) (h:=h) hqr hi.hs hi.hr (lv v hv).2.2 (lv v hv).1 (lv v hv).2.1;exact this
 dsimp only;cases hfi:cF ⟨qr,qz,ql,qs,qf⟩
 ·obtain⟨e1,e2⟩:=zZ hfi;simp only[aB,aI,aA,tD,tC,rA,tA,sZ,wR,wQ,zE,wP,zD,wO,zB,nT,wN,wM,oX,pI,pN,oY,jY,mG,lT,lB,r1,r2,dR,e1,e2,Bool.not_false,cond_true,aD,bO,wz,qt,true_and,forall_const,q_1,false_implies,and_true]
 ·have e1: ∀r',dF ⟨r',qz,ql,qs,qf⟩=f0:=fun r'=>tK (m:=⟨r',qz,ql,qs,qf⟩) hfi
  have nf:dD f0.Vector 0=false:=rfl;rcases h2 with e|e|e|e|e|e|e
  ·obtain⟨p1,p2⟩:=tt v r4;have tw:rU x qr.fl (cX qr.d x.Reg%cD x.Size) v=(v,iF x.Size qr.fl v):=by unfold rU;rw[e];rfl
   rw[tw];simp only[aB,aI,aA,tD,tC,rA,tA,sZ,wR,wQ,zE,wP,zD,wO,zB,nT,wN,wM,oX,pI,pN,oY,jY,mG,lT,lB,eS,eV,aX,cK,aW,bK,aV,aR,r1,r2,dR,e1,nf,e,show eqI 1 1=true from rfl,show eqI 1 5=false from rfl,show eqI 1 6=false from rfl,show eqI 1 7=false from rfl,show eqI 1 8=false from rfl,show eqI 1 3=false from rfl,show eqI 1 4=false from rfl,l1,l2,a1,a2,b1,b2,c1,c2,Bool.not_true,cond_true,cond_false,aD,bO,wz,qt,true_and,forall_const,q_1,Bool.false_eq_true,false_implies,and_true,p1,p2]
  ·obtain⟨p1,p2⟩:=pt (aEA x.Size 0 (cX qr.d x.Reg%cD x.Size) v).1 (iP hi.hs);have tw:rU x qr.fl (cX qr.d x.Reg%cD x.Size) v=aEA x.Size 0 (cX qr.d x.Reg%cD x.Size) v:=by unfold rU;rw[e];rfl
   rw[tw];simp only[aB,aI,aA,tD,tC,rA,tA,sZ,wR,wQ,zE,wP,zD,wO,zB,nT,wN,wM,oX,pI,pN,oY,jY,mG,lT,lB,eS,eV,aX,cK,aW,bK,aV,aR,r1,r2,dR,e1,nf,e,show eqI 3 1=false from rfl,show eqI 3 5=false from rfl,show eqI 3 6=false from rfl,show eqI 3 7=false from rfl,show eqI 3 8=false from rfl,show eqI 3 3=true from rfl,show eqI 3 4=false from rfl,l1,l2,a1,a2,b1,b2,c1,c2,Bool.not_true,cond_true,cond_false,aD,bO,wz,qt,true_and,forall_const,q_1,Bool.false_eq_true,false_implies,and_true,p1,p2]
   rfl
  ·obtain⟨p1,p2⟩:=pt ((cX qr.d x.Reg%cD x.Size-v)%cD x.Size) (iP hi.hs);have tw:rU x qr.fl (cX qr.d x.Reg%cD x.Size) v=((cX qr.d x.Reg%cD x.Size-v)%cD x.Size,I1 x.Size (cX qr.d x.Reg%cD x.Size) v):=by unfold rU;rw[e];rfl
   rw[tw];simp only[aB,aI,aA,tD,tC,rA,tA,sZ,wR,wQ,zE,wP,zD,wO,zB,nT,wN,wM,oX,pI,pN,oY,jY,mG,lT,lB,eS,eV,aX,cK,aW,bK,aV,aR,r1,r2,dR,e1,nf,e,show eqI 4 1=false from rfl,show eqI 4 5=false from rfl,show eqI 4 6=false from rfl,show eqI 4 7=false from rfl,show eqI 4 8=false from rfl,show eqI 4 3=false from rfl,show eqI 4 4=true from rfl,l1,l2,a1,a2,b1,b2,c1,c2,Bool.not_true,cond_true,cond_false,aD,bO,wz,qt,true_and,forall_const,q_1,Bool.false_eq_true,false_implies,and_true,p1,p2]
   rfl
  ·obtain⟨p1,p2⟩:=tt (bF (cX qr.d x.Reg%cD x.Size) v) (aT6 hi.hs hd r4);have tw:rU x qr.fl (cX qr.d x.Reg%cD x.Size) v=(bF (cX qr.d x.Reg%cD x.Size) v,iF x.Size qr.fl (bF (cX qr.d x.Reg%cD x.Size) v)):=by unfold rU;rw[e];rfl
   rw[tw];simp only[aB,aI,aA,tD,tC,rA,tA,sZ,wR,wQ,zE,wP,zD,wO,zB,nT,wN,wM,oX,pI,pN,oY,jY,mG,lT,lB,eS,eV,aX,cK,aW,bK,aV,aR,r1,r2,dR,e1,nf,e,show eqI 5 1=false from rfl,show eqI 5 5=true from rfl,show eqI 5 6=false from rfl,show eqI 5 7=false from rfl,show eqI 5 8=false from rfl,show eqI 5 3=false from rfl,show eqI 5 4=false from rfl,l1,l2,a1,a2,b1,b2,c1,c2,Bool.not_true,cond_true,cond_false,aD,bO,wz,qt,true_and,forall_const,q_1,Bool.false_eq_true,false_implies,and_true,p1,p2]
  ·obtain⟨p1,p2⟩:=tt (fB (cX qr.d x.Reg%cD x.Size) v) (aEG hi.hs hd r4);have tw:rU x qr.fl (cX qr.d x.Reg%cD x.Size) v=(fB (cX qr.d x.Reg%cD x.Size) v,iF x.Size qr.fl (fB (cX qr.d x.Reg%cD x.Size) v)):=by unfold rU;rw[e];rfl
   rw[tw];simp only[aB,aI,aA,tD,tC,rA,tA,sZ,wR,wQ,zE,wP,zD,wO,zB,nT,wN,wM,oX,pI,pN,oY,jY,mG,lT,lB,eS,eV,aX,cK,aW,bK,aV,aR,r1,r2,dR,e1,nf,e,show eqI 6 1=false from rfl,show eqI 6 5=false from rfl,show eqI 6 6=true from rfl,show eqI 6 7=false from rfl,show eqI 6 8=false from rfl,show eqI 6 3=false from rfl,show eqI 6 4=false from rfl,l1,l2,a1,a2,b1,b2,c1,c2,Bool.not_true,cond_true,cond_false,aD,bO,wz,qt,true_and,forall_const,q_1,Bool.false_eq_true,false_implies,and_true,p1,p2]
  ·obtain⟨p1,p2⟩:=tt (qN (cX qr.d x.Reg%cD x.Size) v) (aT7 hi.hs hd r4);have tw:rU x qr.fl (cX qr.d x.Reg%cD x.Size) v=(qN (cX qr.d x.Reg%cD x.Size) v,iF x.Size qr.fl (qN (cX qr.d x.Reg%cD x.Size) v)):=by unfold rU;rw[e];rfl
   rw[tw];simp only[aB,aI,aA,tD,tC,rA,tA,sZ,wR,wQ,zE,wP,zD,wO,zB,nT,wN,wM,oX,pI,pN,oY,jY,mG,lT,lB,eS,eV,aX,cK,aW,bK,aV,aR,r1,r2,dR,e1,nf,e,show eqI 7 1=false from rfl,show eqI 7 5=false from rfl,show eqI 7 6=false from rfl,show eqI 7 7=true from rfl,show eqI 7 8=false from rfl,show eqI 7 3=false from rfl,show eqI 7 4=false from rfl,l1,l2,a1,a2,b1,b2,c1,c2,Bool.not_true,cond_true,cond_false,aD,bO,wz,qt,true_and,forall_const,q_1,Bool.false_eq_true,false_implies,and_true,p1,p2]
  ·simp only[aB,aI,aA,tD,tC,rA,tA,sZ,wR,wQ,zE,wP,zD,wO,zB,nT,wN,wM,oX,pI,pN,oY,jY,mG,lT,lB,eS,eV,aX,cK,aW,bK,aV,aR,r1,r2,dR,e1,nf,e,show eqI 8 1=false from rfl,show eqI 8 5=false from rfl,show eqI 8 6=false from rfl,show eqI 8 7=false from rfl,show eqI 8 8=true from rfl,show eqI 8 3=false from rfl,show eqI 8 4=false from rfl,l1,l2,a1,a2,b1,b2,c1,c2,Bool.not_true,cond_true,cond_false,aD,bO,wz,qt,true_and,forall_const,q_1,Bool.false_eq_true,false_implies,and_true]
   rfl
end Go.Proofs.YtdipcnijfkdnfaaGreatWhole

namespace Go.Proofs.YtdipcnijfkdnfaaGreatWhole
open Go Go.Zq
set_option maxHeartbeats 4000000
set_option maxRecDepth 100000
theorem CH{r:RM}{zs:List Int}{l:List aE}{s:Bool}{pc w:Int}{k sz a v:Int}(h:cF (cU (mq r zs l s pc w) k sz a v).1=true):(cU (mq r zs l s pc w) k sz a v).1=mq r (cU (mq r zs l s pc w) k sz a v).1.zs (cU (mq r zs l s pc w) k sz a v).1.l s pc w:=by
 have hf:cF (cU (mq r zs l s pc w) k sz a v).1=eqI (cW k sz a) 0:=jZ rfl;rw[hf]at h;have hn:dD (cW k sz a) 0=false:=by rw[m6,h];rfl
 unfold cU mq;dsimp only;rw[hn];rfl
theorem GB{r:RM}{zs:List Int}{l:List aE}{s:Bool}{pc w:Int}{k sz a v:Int}(hr:r.Ok 65535)(hb:BusOk zs l)(hs:sz=1∨sz=2)(hv:dK sz v=true)(ha:cJ a 0 65535=true)(hk:cJ k 1 3=true):BusOk (cU (mq r zs l s pc w) k sz a v).1.zs (cU (mq r zs l s pc w) k sz a v).1.l∧dK sz (cU (mq r zs l s pc w) k sz a v).2=true:=by
 obtain⟨h1,h2⟩:=zX (k:=k) (LP (s:=s) (pc:=pc) (w:=w) hr hb) (⟨hs,hv,ha⟩:AccOk sz v a _) hk;exact⟨h1.b,h2⟩
theorem aUV{s v:Int}(hs:s=1∨s=2)(h0:0≤v)(h1:v<cD s):qN v (cM (cD s) 1)=cD s-1-v:=by
 have key: ∀(n m:Nat),n≤16→m<2^n→qN (m:Int) ((2^n-1:Nat):Int)=((2^n-(m+1):Nat):Int):=by
  intro n m hn hm;have hp:2^n≤2^16:=Nat.pow_le_pow_right (by omega) hn
  have e:m^^^(2^n-1)=2^n-(m+1):=by
   apply Nat.eq_of_testBit_eq;intro i;rw[Nat.testBit_xor,Nat.testBit_two_pow_sub_one,Nat.testBit_two_pow_sub_succ hm];by_cases hi:i<n
   ·simp[hi]
   ·have:m.testBit i=false:=Nat.testBit_lt_two_pow (Nat.lt_of_lt_of_le hm (Nat.pow_le_pow_right (by omega) (by omega)))
    simp[hi,this]
  unfold qN;rw[BitVec.toNat_xor,BitVec.toNat_ofInt,BitVec.toNat_ofInt];have a1:(((m:Int))%((2^64:Nat):Int)).toNat=m:=by omega
  have a2:((((2^n-1:Nat):Int))%((2^64:Nat):Int)).toNat=2^n-1:=by omega
  rw[a1,a2,e,IntKind.wrap_i64];omega
 obtain⟨m,rfl⟩:=Int.eq_ofNat_of_zero_le h0;rcases hs with rfl|rfl
 ·have h1:(m:Int)<256:=h1;have:=key 8 m (by omega) (by omega)
  rw[show cM (cD 1) 1=((2^8-1:Nat):Int)from by decide,this]
  show _=(256:Int)-1-m
  omega
 ·have h1:(m:Int)<65536:=h1;have:=key 16 m (by omega) (by omega)
  rw[show cM (cD 2) 1=((2^16-1:Nat):Int)from by decide,this]
  show _=(65536:Int)-1-m
  omega
theorem cHW{x:aS}(h:x.Op=2):kB x=bif eqI x.Sub 0 then aEB x.Ea.Mode else false:=by
 unfold kB;rw[h];rfl
theorem aX9{x:aS}(h:InsOk x)(h2:x.Op=2):x.Ea.Mode=0∨(2≤x.Ea.Mode∧x.Ea.Mode≤6):=by
 have hk:=h.kb;rw[cHW h2]at hk;cases e1:eqI x.Sub 0
 ·rw[e1]at hk;simp at hk
 ·rw[e1]at hk;exact aG3 hk
theorem QI{m:Int}(h:2≤m∧m≤6):eqI m 0=false∧dD m 0=true∧eqI m 1=false∧eqI m 7=false:=by
 refine⟨iS.2 (by omega),oP.2 (by omega),iS.2 (by omega),iS.2 (by omega)⟩
theorem b46{x:aS}{pc w:Int}{r:RM}{zs:List Int}{l:List aE}{s h:Bool}(hr:r.Ok 65535)(hb:BusOk zs l)(hi:InsOk x)(h2:x.Op=2):bLN (dG x pc w f0) (bP r zs l s h)=true∧aWX (dG x pc w f0) (bP r zs l s h)=dR x pc w h (Y8 (mq r zs l s pc w) x):=by
 refine aK (t:=a3T (dG x pc w f0) (bP r zs l s h)) (P:=fun q=>q=dR x pc w h (Y8 (mq r zs l s pc w) x)) ?_
 obtain⟨l1,l2⟩:=aG9 (pc:=pc) (w:=w) (f:=f0) (zs:=zs) (l:=l) (s:=s) (h:=h) hr hi.hs hi.hr;have hv:=iP (s:=x.Size) (v:=cX r.d x.Reg) hi.hs;unfold a3T Y8;rcases aX9 hi h2 with hm|hm
 ·have m0:eqI x.Ea.Mode 0=true:=by rw[hm];rfl
  have m1:dD x.Ea.Mode 0=false:=by rw[hm];rfl
  obtain⟨s1,s2⟩:=setD (x:=x) (pc:=pc) (w:=w) (a:=0) (s:=s) (h:=h) hr hb hi.hs hi.ho (by decide) hv
  have wo:=AU (a:=0) (LP (s:=s) (pc:=pc) (w:=w) hr hb) hi.hs hi.ho (by decide) hv
  obtain⟨g1,g2⟩:=OJ (v:=cX r.d x.Reg%cD x.Size) (x:=x) (pc:=pc) (w:=w) (f:=dF (eK (mq r zs l s pc w) x.Size x.Ea 0 (cX r.d x.Reg%cD x.Size))) (zs:=(eK (mq r zs l s pc w) x.Size x.Ea 0 (cX r.d x.Reg%cD x.Size)).zs) (l:=(eK (mq r zs l s pc w) x.Size x.Ea 0 (cX r.d x.Reg%cD x.Size)).l) (s:=(eK (mq r zs l s pc w) x.Size x.Ea 0 (cX r.d x.Reg%cD x.Size)).stop) (h:=h) wo.r hi.hs;have sp:kO (mq r zs l s pc w) x.Size x.Ea=(mq r zs l s pc w,0):=by unfold kO;rw[m0];rfl
  rw[sp];simp only[aB,aI,aA,UE,D1,UD,D0,zG,DZ,oX,pI,pN,oY,jY,mG,lT,lB,l1,l2,m1,s1,s2,dR,g1,g2,aD,bO,wz,Bool.and_true,true_and,Bool.false_eq_true,false_implies,forall_const];rfl
 ·obtain⟨m0,m1,-,-⟩:=QI hm;obtain⟨p1,p2⟩:=WJ hr hi.hs hi.ho hm;obtain⟨p3,p4⟩:=rQ (s:=x.Size) hr hi.ho;obtain⟨s1,s2⟩:=setD (x:=x) (pc:=pc) (w:=w) (s:=s) (h:=h) p3 hb hi.hs hi.ho p4 hv;have wo:=AU (a:=(bU r x.Size x.Ea).2) (LP (s:=s) (pc:=pc) (w:=w) p3 hb) hi.hs hi.ho p4 hv;have sp:kO (mq r zs l s pc w) x.Size x.Ea=(mq (bU r x.Size x.Ea).1 zs l s pc w,(bU r x.Size x.Ea).2):=by unfold kO;rw[m0];rfl
  rw[sp];generalize hW:eK (mq (bU r x.Size x.Ea).1 zs l s pc w) x.Size x.Ea (bU r x.Size x.Ea).2 (cX r.d x.Reg%cD x.Size)=W at s1 s2 wo;obtain⟨g1,g2⟩:=OJ (v:=cX r.d x.Reg%cD x.Size) (x:=x) (pc:=pc) (w:=w) (f:=dF W) (zs:=W.zs) (l:=W.l) (s:=W.stop) (h:=h) wo.r hi.hs;simp only[aB,aI,aA,UE,D1,UD,D0,zG,DZ,oX,pI,pN,oY,jY,mG,lT,lB,jC,l1,l2,m1,p1,p2,s1,s2,dR,g1,g2,aD,bO,wz,Bool.and_true,true_and,Bool.true_eq_false,false_implies,forall_const,and_true];have:(mq r zs l s pc w).r.d=r.d:=rfl;rw[this,hW];rfl
end Go.Proofs.YtdipcnijfkdnfaaGreatWhole

namespace Go.Proofs.YtdipcnijfkdnfaaGreatWhole
open Bool renaming and_true → qt
open Bool renaming true_eq_false → q_1
open Bool renaming false_eq_true → q_2
open Bool renaming not_false → q_4
open Go Go.Zq
set_option maxHeartbeats 4000000
set_option maxRecDepth 100000
theorem a9K(m:MM)(s:Int)(o:aF)(a v:Int):(eK m s o a v).r.fl=m.r.fl:=by
 unfold eK;cases eqI o.Mode 0<;>rfl
theorem setF(W:MM)(h:Bool)(f:Int):aG.mk (aJ.mk (ri W.r.d) (ri W.r.a) W.r.oth W.r.pc f W.r.mask W.r.sup W.r.tr) (pA W.zs W.l) W.stop h=bP {W.r with fl:=f} W.zs W.l W.stop h:=rfl
structure OneF(x:aS)(pc w:Int)(h s:Bool)(r:RM)(zs:List Int)(l:List aE)(a v:Int):Prop where
 s1:zF a v (dG x pc w f0) (bP r zs l s h)=true
 s2:sJ a v (dG x pc w f0) (bP r zs l s h)=dR x pc w h (eK (mq r zs l s pc w) x.Size x.Ea a v)
 g1:wL v (dG x pc w (dF (eK (mq r zs l s pc w) x.Size x.Ea a v))) (bP (eK (mq r zs l s pc w) x.Size x.Ea a v).r (eK (mq r zs l s pc w) x.Size x.Ea a v).zs (eK (mq r zs l s pc w) x.Size x.Ea a v).l (eK (mq r zs l s pc w) x.Size x.Ea a v).stop h)=true
 g2:uJ v (dG x pc w (dF (eK (mq r zs l s pc w) x.Size x.Ea a v))) (bP (eK (mq r zs l s pc w) x.Size x.Ea a v).r (eK (mq r zs l s pc w) x.Size x.Ea a v).zs (eK (mq r zs l s pc w) x.Size x.Ea a v).l (eK (mq r zs l s pc w) x.Size x.Ea a v).stop h)=bP {(eK (mq r zs l s pc w) x.Size x.Ea a v).r with fl:=iF x.Size r.fl v} (eK (mq r zs l s pc w) x.Size x.Ea a v).zs (eK (mq r zs l s pc w) x.Size x.Ea a v).l (eK (mq r zs l s pc w) x.Size x.Ea a v).stop h
theorem aYA{x:aS}{pc w a v:Int}{r:RM}{zs:List Int}{l:List aE}{s h:Bool}(hr:r.Ok 65535)(hb:BusOk zs l)(hs:x.Size=1∨x.Size=2)(ho:OpOk x.Ea)(ha:cJ a 0 65535=true)(hv:dK x.Size v=true):OneF x pc w h s r zs l a v:=by
 obtain⟨s1,s2⟩:=setD (x:=x) (pc:=pc) (w:=w) (s:=s) (h:=h) hr hb hs ho ha hv;have wo:=AU (LP (s:=s) (pc:=pc) (w:=w) hr hb) hs ho ha hv;obtain⟨g1,g2⟩:=OJ (v:=v) (x:=x) (pc:=pc) (w:=w) (f:=dF (eK (mq r zs l s pc w) x.Size x.Ea a v)) (zs:=(eK (mq r zs l s pc w) x.Size x.Ea a v).zs) (l:=(eK (mq r zs l s pc w) x.Size x.Ea a v).l) (s:=(eK (mq r zs l s pc w) x.Size x.Ea a v).stop) (h:=h) wo.r hs;rw[a9K]at g2;exact⟨s1,s2,g1,g2⟩
theorem cHX{x:aS}{pc w:Int}{r:RM}{zs:List Int}{l:List aE}{s h:Bool}(hr:r.Ok 65535)(hb:BusOk zs l)(hi:InsOk x)(h2:x.Op=11):bLO (dG x pc w f0) (bP r zs l s h)=true∧aWY (dG x pc w f0) (bP r zs l s h)=dR x pc w h (OE (mq r zs l s pc w) x):=by
 refine aK (t:=a3U (dG x pc w f0) (bP r zs l s h)) (P:=fun q=>q=dR x pc w h (OE (mq r zs l s pc w) x)) ?_
 obtain⟨k1,k2⟩:=V6 hi h2;have hsb:=aU.1 hi.hb;have nf:dD f0.Vector 0=false:=rfl;have lr:=rO hi.hs;unfold a3U OE;have hsub:x.Sub=0∨x.Sub=1∨x.Sub=2∨x.Sub=3:=by omega
 rcases k2 with hm|hm
 ·have m0:eqI x.Ea.Mode 0=true:=by rw[hm];rfl
  have m1:dD x.Ea.Mode 0=false:=by rw[hm];rfl
  have z0:cJ 0 0 65535=true:=by decide
  obtain⟨l1,l2⟩:=aG9 (pc:=pc) (w:=w) (f:=f0) (zs:=zs) (l:=l) (s:=s) (h:=h) hr hi.hs hi.ho.hr;have hv:=iP (s:=x.Size) (v:=cX r.d x.Ea.Reg) hi.hs;rcases hsub with e|e|e|e
  ·have hq:fO (mq r zs l s pc w) x=(mq r zs l s pc w,0,0):=by unfold fO kO;rw[e,m0];rfl
   rw[hq];unfold ER xJ;have fm:cF (mq r zs l s pc w)=true:=rfl;have F:=aYA (pc:=pc) (w:=w) (v:=0) (s:=s) (h:=h) hr hb hi.hs hi.ho z0 (LG hi.hs);simp only[aB,aI,aA,mZ,mY,kH,lP,kV,mX,mW,kG,oI,mV,mU,kF,lO,kU,mT,kT,mS,kE,kS,oH,lN,oG,oF,lM,mR,mQ,kD,lL,kR,mP,mO,kC,oE,dC,mN,mM,kA,lK,kQ,mL,kP,mK,mJ,nU,o7,sM,pY,sL,mA,sK,pX,jL,dA,oX,pI,pN,oY,jY,mG,lT,lB,eS,eV,aX,cK,aW,bK,aV,aR,jC,nf,e,show eqI 0 0=true from rfl,show eqI 0 1=false from rfl,show eqI 0 2=false from rfl,show eqI 0 3=false from rfl,dR,(iT hi.hs).1,(iT hi.hs).2,Bool.not_true,q_4,cond_true,cond_false,aD,bO,wz,qt,Bool.true_or,Bool.or_true,true_and,forall_const,q_1,q_2,false_implies,and_true,implies_true,m0,m1,l1,l2,fm,F.s1,F.s2,F.g1,F.g2]
   rfl
  ·have hq:fO (mq r zs l s pc w) x=(mq r zs l s pc w,cX r.d x.Ea.Reg%cD x.Size,0):=by unfold fO dU;rw[e,m0];rfl
   rw[hq];unfold ER xJ;have fm:cF (mq r zs l s pc w)=true:=rfl;obtain⟨b1,b2⟩:=bG8 (s:=x.Size) (a:=0) (LG hi.hs) hv;have F:=aYA (pc:=pc) (w:=w) (v:=(0-(cX r.d x.Ea.Reg%cD x.Size))%cD x.Size) (s:=s) (h:=h) hr hb hi.hs hi.ho z0 (iP hi.hs);simp only[aB,aI,aA,mZ,mY,kH,lP,kV,mX,mW,kG,oI,mV,mU,kF,lO,kU,mT,kT,mS,kE,kS,oH,lN,oG,oF,lM,mR,mQ,kD,lL,kR,mP,mO,kC,oE,dC,mN,mM,kA,lK,kQ,mL,kP,mK,mJ,nU,o7,sM,pY,sL,mA,sK,pX,jL,dA,oX,pI,pN,oY,jY,mG,lT,lB,eS,eV,aX,cK,aW,bK,aV,aR,jC,nf,e,show eqI 1 0=false from rfl,show eqI 1 1=true from rfl,show eqI 1 2=false from rfl,show eqI 1 3=false from rfl,dR,(iT hi.hs).1,(iT hi.hs).2,Bool.not_true,q_4,cond_true,cond_false,aD,bO,wz,qt,Bool.true_or,Bool.or_true,true_and,forall_const,q_1,q_2,false_implies,and_true,implies_true,m0,m1,l1,l2,fm,b1,b2,F.s1,F.s2,setF]
   rfl
  ·have hq:fO (mq r zs l s pc w) x=(mq r zs l s pc w,cX r.d x.Ea.Reg%cD x.Size,0):=by unfold fO dU;rw[e,m0];rfl
   rw[hq];unfold ER xJ;have fm:cF (mq r zs l s pc w)=true:=rfl;have lv:=kM hi.hs hv;obtain⟨-,u0,u1⟩:=p7 hv;have xt:=aUV hi.hs u0 u1;have hv2:dK x.Size (cD x.Size-1-(cX r.d x.Ea.Reg%cD x.Size))=true:=(QG (x:=x) (f:=0) hi.hs (by decide) hv).1|>fun z=>by unfold xJ at z;rw[e]at z;exact z
   have F:=aYA (pc:=pc) (w:=w) (v:=cD x.Size-1-(cX r.d x.Ea.Reg%cD x.Size)) (s:=s) (h:=h) hr hb hi.hs hi.ho z0 hv2;simp only[aB,aI,aA,mZ,mY,kH,lP,kV,mX,mW,kG,oI,mV,mU,kF,lO,kU,mT,kT,mS,kE,kS,oH,lN,oG,oF,lM,mR,mQ,kD,lL,kR,mP,mO,kC,oE,dC,mN,mM,kA,lK,kQ,mL,kP,mK,mJ,nU,o7,sM,pY,sL,mA,sK,pX,jL,dA,oX,pI,pN,oY,jY,mG,lT,lB,eS,eV,aX,cK,aW,bK,aV,aR,jC,nf,e,show eqI 2 0=false from rfl,show eqI 2 1=false from rfl,show eqI 2 2=true from rfl,show eqI 2 3=false from rfl,dR,(iT hi.hs).1,(iT hi.hs).2,Bool.not_true,q_4,cond_true,cond_false,aD,bO,wz,qt,Bool.true_or,Bool.or_true,true_and,forall_const,q_1,q_2,false_implies,and_true,implies_true,m0,m1,l1,l2,fm,xt,F.s1,F.s2,F.g1,F.g2]
   rfl
  ·have hq:fO (mq r zs l s pc w) x=(mq r zs l s pc w,cX r.d x.Ea.Reg%cD x.Size,0):=by unfold fO dU;rw[e,m0];rfl
   rw[hq];unfold ER xJ;have fm:cF (mq r zs l s pc w)=true:=rfl;obtain⟨g1,g2⟩:=OJ (v:=(cX r.d x.Ea.Reg%cD x.Size)) (x:=x) (pc:=pc) (w:=w) (f:=f0) (zs:=zs) (l:=l) (s:=s) (h:=h) hr hi.hs;simp only[aB,aI,aA,mZ,mY,kH,lP,kV,mX,mW,kG,oI,mV,mU,kF,lO,kU,mT,kT,mS,kE,kS,oH,lN,oG,oF,lM,mR,mQ,kD,lL,kR,mP,mO,kC,oE,dC,mN,mM,kA,lK,kQ,mL,kP,mK,mJ,nU,o7,sM,pY,sL,mA,sK,pX,jL,dA,oX,pI,pN,oY,jY,mG,lT,lB,eS,eV,aX,cK,aW,bK,aV,aR,jC,nf,e,show eqI 3 0=false from rfl,show eqI 3 1=false from rfl,show eqI 3 2=false from rfl,show eqI 3 3=true from rfl,dR,(iT hi.hs).1,(iT hi.hs).2,Bool.not_true,q_4,cond_true,cond_false,aD,bO,wz,qt,Bool.true_or,Bool.or_true,true_and,forall_const,q_1,q_2,false_implies,and_true,implies_true,m0,m1,l1,l2,fm,g1,g2]
   rfl
 ·obtain⟨m0,m1,m2,m3⟩:=QI hm;obtain⟨p1,p2⟩:=WJ hr hi.hs hi.ho hm;obtain⟨p3,p4⟩:=rQ (s:=x.Size) hr hi.ho;rcases hsub with e|e|e|e
  ·have hq:fO (mq r zs l s pc w) x=(mq (bU r x.Size x.Ea).1 zs l s pc w,0,(bU r x.Size x.Ea).2):=by unfold fO kO;rw[e,m0];rfl
   rw[hq];unfold ER xJ;have fm:cF (mq (bU r x.Size x.Ea).1 zs l s pc w)=true:=rfl;have F:=aYA (pc:=pc) (w:=w) (v:=0) (s:=s) (h:=h) p3 hb hi.hs hi.ho p4 (LG hi.hs);simp only[aB,aI,aA,mZ,mY,kH,lP,kV,mX,mW,kG,oI,mV,mU,kF,lO,kU,mT,kT,mS,kE,kS,oH,lN,oG,oF,lM,mR,mQ,kD,lL,kR,mP,mO,kC,oE,dC,mN,mM,kA,lK,kQ,mL,kP,mK,mJ,nU,o7,sM,pY,sL,mA,sK,pX,jL,dA,oX,pI,pN,oY,jY,mG,lT,lB,eS,eV,aX,cK,aW,bK,aV,aR,jC,nf,e,show eqI 0 0=true from rfl,show eqI 0 1=false from rfl,show eqI 0 2=false from rfl,show eqI 0 3=false from rfl,dR,(iT hi.hs).1,(iT hi.hs).2,Bool.not_true,q_4,cond_true,cond_false,aD,bO,wz,qt,Bool.true_or,Bool.or_true,true_and,forall_const,q_1,q_2,false_implies,and_true,implies_true,m0,m1,p1,p2,fm,F.s1,F.s2,F.g1,F.g2]
   rfl
  ·obtain⟨a1,a2⟩:=aUU (x:=x) (pc:=pc) (w:=w) (s:=s) (h:=h) p3 hb hi.hs p4;obtain⟨b0,b3⟩:=GB (s:=s) (pc:=pc) (w:=w) (k:=1) (v:=0) p3 hb hi.hs (LG hi.hs) p4 (by decide)
   have am:=CH (r:=(bU r x.Size x.Ea).1) (zs:=zs) (l:=l) (s:=s) (pc:=pc) (w:=w) (k:=1) (sz:=x.Size) (a:=(bU r x.Size x.Ea).2) (v:=0);have hq:fO (mq r zs l s pc w) x=((cU (mq (bU r x.Size x.Ea).1 zs l s pc w) 1 x.Size (bU r x.Size x.Ea).2 0).1,(cU (mq (bU r x.Size x.Ea).1 zs l s pc w) 1 x.Size (bU r x.Size x.Ea).2 0).2,(bU r x.Size x.Ea).2):=by unfold fO dU;rw[e,m0,m2,m3];rfl
   rw[hq];have aa:cU ⟨(bU r x.Size x.Ea).1,zs,l,s,ff pc w⟩ 1 x.Size (bU r x.Size x.Ea).2 0=cU (mq (bU r x.Size x.Ea).1 zs l s pc w) 1 x.Size (bU r x.Size x.Ea).2 0:=rfl;rw[aa]at a2;have sr:(cU (mq (bU r x.Size x.Ea).1 zs l s pc w) 1 x.Size (bU r x.Size x.Ea).2 0).1.r=(bU r x.Size x.Ea).1:=rfl;have st:(cU (mq (bU r x.Size x.Ea).1 zs l s pc w) 1 x.Size (bU r x.Size x.Ea).2 0).1.stop=s:=rfl;generalize hA:cU (mq (bU r x.Size x.Ea).1 zs l s pc w) 1 x.Size (bU r x.Size x.Ea).2 0=A at a1 a2 b0 b3 am sr st;obtain⟨A1,v⟩:=A;dsimp only at a1 a2 b0 b3 am sr st⊢;unfold ER;cases hfi:cF A1
   ·obtain⟨e1,e2⟩:=zZ hfi;simp only[aB,aI,aA,mZ,mY,kH,lP,kV,mX,mW,kG,oI,mV,mU,kF,lO,kU,mT,kT,mS,kE,kS,oH,lN,oG,oF,lM,mR,mQ,kD,lL,kR,mP,mO,kC,oE,dC,mN,mM,kA,lK,kQ,mL,kP,mK,mJ,nU,o7,sM,pY,sL,mA,sK,pX,jL,dA,oX,pI,pN,oY,jY,mG,lT,lB,eS,eV,aX,cK,aW,bK,aV,aR,jC,nf,e,show eqI 1 0=false from rfl,show eqI 1 1=true from rfl,show eqI 1 2=false from rfl,show eqI 1 3=false from rfl,dR,(iT hi.hs).1,(iT hi.hs).2,Bool.not_true,q_4,cond_true,cond_false,aD,bO,wz,qt,Bool.true_or,Bool.or_true,true_and,forall_const,q_1,q_2,false_implies,and_true,implies_true,m0,m1,p1,p2,a1,a2,e1,e2,sr,st,hfi]
   ·have e1:=tK hfi;have am:=am hfi;rw[e1]at a2;rw[am];unfold xJ;have fm:cF (mq (bU r x.Size x.Ea).1 A1.zs A1.l s pc w)=true:=rfl;obtain⟨b1,b2⟩:=bG8 (s:=x.Size) (a:=0) (LG hi.hs) b3;have F:=aYA (pc:=pc) (w:=w) (v:=(0-v)%cD x.Size) (s:=s) (h:=h) p3 b0 hi.hs hi.ho p4 (iP hi.hs);simp only[aB,aI,aA,mZ,mY,kH,lP,kV,mX,mW,kG,oI,mV,mU,kF,lO,kU,mT,kT,mS,kE,kS,oH,lN,oG,oF,lM,mR,mQ,kD,lL,kR,mP,mO,kC,oE,dC,mN,mM,kA,lK,kQ,mL,kP,mK,mJ,nU,o7,sM,pY,sL,mA,sK,pX,jL,dA,oX,pI,pN,oY,jY,mG,lT,lB,eS,eV,aX,cK,aW,bK,aV,aR,jC,nf,e,show eqI 1 0=false from rfl,show eqI 1 1=true from rfl,show eqI 1 2=false from rfl,show eqI 1 3=false from rfl,dR,(iT hi.hs).1,(iT hi.hs).2,Bool.not_true,q_4,cond_true,cond_false,aD,bO,wz,qt,Bool.true_or,Bool.or_true,true_and,forall_const,q_1,q_2,false_implies,and_true,implies_true,m0,m1,p1,p2,a1,a2,fm,b1,b2,F.s1,F.s2,setF]
    rfl
  ·obtain⟨a1,a2⟩:=aUU (x:=x) (pc:=pc) (w:=w) (s:=s) (h:=h) p3 hb hi.hs p4;obtain⟨b0,b3⟩:=GB (s:=s) (pc:=pc) (w:=w) (k:=1) (v:=0) p3 hb hi.hs (LG hi.hs) p4 (by decide)
   have am:=CH (r:=(bU r x.Size x.Ea).1) (zs:=zs) (l:=l) (s:=s) (pc:=pc) (w:=w) (k:=1) (sz:=x.Size) (a:=(bU r x.Size x.Ea).2) (v:=0);have hq:fO (mq r zs l s pc w) x=((cU (mq (bU r x.Size x.Ea).1 zs l s pc w) 1 x.Size (bU r x.Size x.Ea).2 0).1,(cU (mq (bU r x.Size x.Ea).1 zs l s pc w) 1 x.Size (bU r x.Size x.Ea).2 0).2,(bU r x.Size x.Ea).2):=by unfold fO dU;rw[e,m0,m2,m3];rfl
   rw[hq];have aa:cU ⟨(bU r x.Size x.Ea).1,zs,l,s,ff pc w⟩ 1 x.Size (bU r x.Size x.Ea).2 0=cU (mq (bU r x.Size x.Ea).1 zs l s pc w) 1 x.Size (bU r x.Size x.Ea).2 0:=rfl;rw[aa]at a2;have sr:(cU (mq (bU r x.Size x.Ea).1 zs l s pc w) 1 x.Size (bU r x.Size x.Ea).2 0).1.r=(bU r x.Size x.Ea).1:=rfl;have st:(cU (mq (bU r x.Size x.Ea).1 zs l s pc w) 1 x.Size (bU r x.Size x.Ea).2 0).1.stop=s:=rfl;generalize hA:cU (mq (bU r x.Size x.Ea).1 zs l s pc w) 1 x.Size (bU r x.Size x.Ea).2 0=A at a1 a2 b0 b3 am sr st;obtain⟨A1,v⟩:=A;dsimp only at a1 a2 b0 b3 am sr st⊢;unfold ER;cases hfi:cF A1
   ·obtain⟨e1,e2⟩:=zZ hfi;simp only[aB,aI,aA,mZ,mY,kH,lP,kV,mX,mW,kG,oI,mV,mU,kF,lO,kU,mT,kT,mS,kE,kS,oH,lN,oG,oF,lM,mR,mQ,kD,lL,kR,mP,mO,kC,oE,dC,mN,mM,kA,lK,kQ,mL,kP,mK,mJ,nU,o7,sM,pY,sL,mA,sK,pX,jL,dA,oX,pI,pN,oY,jY,mG,lT,lB,eS,eV,aX,cK,aW,bK,aV,aR,jC,nf,e,show eqI 2 0=false from rfl,show eqI 2 1=false from rfl,show eqI 2 2=true from rfl,show eqI 2 3=false from rfl,dR,(iT hi.hs).1,(iT hi.hs).2,Bool.not_true,q_4,cond_true,cond_false,aD,bO,wz,qt,Bool.true_or,Bool.or_true,true_and,forall_const,q_1,q_2,false_implies,and_true,implies_true,m0,m1,p1,p2,a1,a2,e1,e2,sr,st,hfi]
   ·have e1:=tK hfi;have am:=am hfi;rw[e1]at a2;rw[am];unfold xJ;have fm:cF (mq (bU r x.Size x.Ea).1 A1.zs A1.l s pc w)=true:=rfl;have lv:=kM hi.hs b3;obtain⟨-,u0,u1⟩:=p7 b3;have xt:=aUV hi.hs u0 u1;have hv2:dK x.Size (cD x.Size-1-v)=true:=(QG (x:=x) (f:=0) hi.hs (by decide) b3).1|>fun z=>by unfold xJ at z;rw[e]at z;exact z
    have F:=aYA (pc:=pc) (w:=w) (v:=cD x.Size-1-v) (s:=s) (h:=h) p3 b0 hi.hs hi.ho p4 hv2;simp only[aB,aI,aA,mZ,mY,kH,lP,kV,mX,mW,kG,oI,mV,mU,kF,lO,kU,mT,kT,mS,kE,kS,oH,lN,oG,oF,lM,mR,mQ,kD,lL,kR,mP,mO,kC,oE,dC,mN,mM,kA,lK,kQ,mL,kP,mK,mJ,nU,o7,sM,pY,sL,mA,sK,pX,jL,dA,oX,pI,pN,oY,jY,mG,lT,lB,eS,eV,aX,cK,aW,bK,aV,aR,jC,nf,e,show eqI 2 0=false from rfl,show eqI 2 1=false from rfl,show eqI 2 2=true from rfl,show eqI 2 3=false from rfl,dR,(iT hi.hs).1,(iT hi.hs).2,Bool.not_true,q_4,cond_true,cond_false,aD,bO,wz,qt,Bool.true_or,Bool.or_true,true_and,forall_const,q_1,q_2,false_implies,and_true,implies_true,m0,m1,p1,p2,a1,a2,fm,xt,F.s1,F.s2,F.g1,F.g2]
    rfl
  ·obtain⟨a1,a2⟩:=aUU (x:=x) (pc:=pc) (w:=w) (s:=s) (h:=h) p3 hb hi.hs p4;obtain⟨b0,b3⟩:=GB (s:=s) (pc:=pc) (w:=w) (k:=1) (v:=0) p3 hb hi.hs (LG hi.hs) p4 (by decide)
   have am:=CH (r:=(bU r x.Size x.Ea).1) (zs:=zs) (l:=l) (s:=s) (pc:=pc) (w:=w) (k:=1) (sz:=x.Size) (a:=(bU r x.Size x.Ea).2) (v:=0);have hq:fO (mq r zs l s pc w) x=((cU (mq (bU r x.Size x.Ea).1 zs l s pc w) 1 x.Size (bU r x.Size x.Ea).2 0).1,(cU (mq (bU r x.Size x.Ea).1 zs l s pc w) 1 x.Size (bU r x.Size x.Ea).2 0).2,(bU r x.Size x.Ea).2):=by unfold fO dU;rw[e,m0,m2,m3];rfl
   rw[hq];have aa:cU ⟨(bU r x.Size x.Ea).1,zs,l,s,ff pc w⟩ 1 x.Size (bU r x.Size x.Ea).2 0=cU (mq (bU r x.Size x.Ea).1 zs l s pc w) 1 x.Size (bU r x.Size x.Ea).2 0:=rfl;rw[aa]at a2;have sr:(cU (mq (bU r x.Size x.Ea).1 zs l s pc w) 1 x.Size (bU r x.Size x.Ea).2 0).1.r=(bU r x.Size x.Ea).1:=rfl;have st:(cU (mq (bU r x.Size x.Ea).1 zs l s pc w) 1 x.Size (bU r x.Size x.Ea).2 0).1.stop=s:=rfl;generalize hA:cU (mq (bU r x.Size x.Ea).1 zs l s pc w) 1 x.Size (bU r x.Size x.Ea).2 0=A at a1 a2 b0 b3 am sr st;obtain⟨A1,v⟩:=A;dsimp only at a1 a2 b0 b3 am sr st⊢;unfold ER;cases hfi:cF A1
   ·obtain⟨e1,e2⟩:=zZ hfi;simp only[aB,aI,aA,mZ,mY,kH,lP,kV,mX,mW,kG,oI,mV,mU,kF,lO,kU,mT,kT,mS,kE,kS,oH,lN,oG,oF,lM,mR,mQ,kD,lL,kR,mP,mO,kC,oE,dC,mN,mM,kA,lK,kQ,mL,kP,mK,mJ,nU,o7,sM,pY,sL,mA,sK,pX,jL,dA,oX,pI,pN,oY,jY,mG,lT,lB,eS,eV,aX,cK,aW,bK,aV,aR,jC,nf,e,show eqI 3 0=false from rfl,show eqI 3 1=false from rfl,show eqI 3 2=false from rfl,show eqI 3 3=true from rfl,dR,(iT hi.hs).1,(iT hi.hs).2,Bool.not_true,q_4,cond_true,cond_false,aD,bO,wz,qt,Bool.true_or,Bool.or_true,true_and,forall_const,q_1,q_2,false_implies,and_true,implies_true,m0,m1,p1,p2,a1,a2,e1,e2,sr,st,hfi]
   ·have e1:=tK hfi;have am:=am hfi;rw[e1]at a2;rw[am];unfold xJ;have fm:cF (mq (bU r x.Size x.Ea).1 A1.zs A1.l s pc w)=true:=rfl;obtain⟨g1,g2⟩:=OJ (v:=v) (x:=x) (pc:=pc) (w:=w) (f:=f0) (zs:=A1.zs) (l:=A1.l) (s:=s) (h:=h) p3 hi.hs;simp only[aB,aI,aA,mZ,mY,kH,lP,kV,mX,mW,kG,oI,mV,mU,kF,lO,kU,mT,kT,mS,kE,kS,oH,lN,oG,oF,lM,mR,mQ,kD,lL,kR,mP,mO,kC,oE,dC,mN,mM,kA,lK,kQ,mL,kP,mK,mJ,nU,o7,sM,pY,sL,mA,sK,pX,jL,dA,oX,pI,pN,oY,jY,mG,lT,lB,eS,eV,aX,cK,aW,bK,aV,aR,jC,nf,e,show eqI 3 0=false from rfl,show eqI 3 1=false from rfl,show eqI 3 2=false from rfl,show eqI 3 3=true from rfl,dR,(iT hi.hs).1,(iT hi.hs).2,Bool.not_true,q_4,cond_true,cond_false,aD,bO,wz,qt,Bool.true_or,Bool.or_true,true_and,forall_const,q_1,q_2,false_implies,and_true,implies_true,m0,m1,p1,p2,a1,a2,fm,g1,g2]
    rfl
end Go.Proofs.YtdipcnijfkdnfaaGreatWhole

namespace Go.Proofs.YtdipcnijfkdnfaaGreatWhole
open Bool renaming and_true → qt
open Bool renaming true_eq_false → q_1
open Bool renaming false_eq_true → q_2
open Go Go.Zq
set_option maxHeartbeats 4000000
set_option maxRecDepth 100000
theorem bIW{w e:Int}(h:cJ w 0 65535=true):W (xI w e)=w:=by
 rw[aU]at h;unfold W xI;dsimp only;omega
theorem b47{x:aS}(hg:lD x=true):bDN x=true∧TY x=ri (CC x):=by
 refine aK (t:=a25 x) (P:=fun q=>q=ri (CC x)) ?_
 have R:=rng hg;have hm:cJ x.Ea.Mode 0 7=true:=(InsOk.of hg).ho.hm;have e:=W_i R;unfold a25 CC;simp only[aB,aI,aA,(Y0 _).1,(Y0 _).2,aN4 hm,e,qt,true_and];exact⟨fun q=>by rw[q];rfl,fun q=>by rw[q];rfl⟩
def beh(x:aS)(pc:Int):Int:=(pc+2*((CC x).length:Int))%65536
theorem aHB(x:aS):(CC x).length=1∨(CC x).length=2:=by
 unfold CC;cases geI x.Ea.Mode 5
 ·exact Or.inl rfl
 ·exact Or.inr rfl
theorem QJ{x:aS}{pc w:Int}{f:aL}(c:aG)(hg:lD x=true)(hp:cJ pc 0 65535=true):aWO (dG x pc w f) c=true∧aGE (dG x pc w f) c=beh x pc:=by
 refine aK (t:=a29 (dG x pc w f) c) (P:=fun q=>q=beh x pc) ?_
 obtain⟨e1,e2⟩:=b47 hg;have hl:=aHB x;have hp:=aU.1 hp;have e3:bF (bE pc (dE 2 ((CC x).length:Int))) 65535=beh x pc:=by
  rw[gU (by omega),bV (by omega),rX];rfl
 unfold a29;simp only[aB,aA,aK6,aK5,oX,pI,e1,e2,aT,bB,e3,Nat.zero_add,show nX (CC x).length (CC x).length=true from tG.2 (Nat.le_refl _),aD,bO,wz,bL,cQ,aZ,cS,qt,true_and]
theorem bHE(r:RM)(zs:List Int)(l:List aE)(s:Bool)(pc w v:Int):(eL (mm r zs l s) v).r=(eL (mq r zs l s pc w) v).r∧(eL (mm r zs l s) v).zs=(eL (mq r zs l s pc w) v).zs∧(eL (mm r zs l s) v).l=(eL (mq r zs l s pc w) v).l∧(eL (mq r zs l s pc w) v).stop=s∧dF (eL (mq r zs l s pc w) v)=dF (cU (mq r zs l s pc w) 2 2 ((cX r.a 3-2)%65536) v).1:=by
 have h1:cF (cU (mm r zs l s) 2 2 ((cX r.a 3-2)%65536) v).1=eqI (cW 2 2 ((cX r.a 3-2)%65536)) 0:=jZ rfl;have h2:cF (cU (mq r zs l s pc w) 2 2 ((cX r.a 3-2)%65536) v).1=eqI (cW 2 2 ((cX r.a 3-2)%65536)) 0:=jZ rfl;unfold eL;rw[show(mm r zs l s).r=r from rfl,show(mq r zs l s pc w).r=r from rfl,h1,h2]
 cases eqI (cW 2 2 ((cX r.a 3-2)%65536)) 0<;>exact⟨rfl,rfl,rfl,rfl,rfl⟩
theorem bQF(r:RM)(zs:List Int)(l:List aE)(s:Bool)(pc w:Int):(dM (mm r zs l s)).1.r=(dM (mq r zs l s pc w)).1.r∧(dM (mm r zs l s)).1.zs=(dM (mq r zs l s pc w)).1.zs∧(dM (mm r zs l s)).1.l=(dM (mq r zs l s pc w)).1.l∧(dM (mm r zs l s)).2=(dM (mq r zs l s pc w)).2∧(dM (mq r zs l s pc w)).1.stop=s∧dF (dM (mq r zs l s pc w)).1=dF (cU (mq r zs l s pc w) 1 2 (cX r.a 3) 0).1:=by
 have h1:cF (cU (mm r zs l s) 1 2 (cX r.a 3) 0).1=eqI (cW 1 2 (cX r.a 3)) 0:=jZ rfl;have h2:cF (cU (mq r zs l s pc w) 1 2 (cX r.a 3) 0).1=eqI (cW 1 2 (cX r.a 3)) 0:=jZ rfl;unfold dM;rw[show(mm r zs l s).r=r from rfl,show(mq r zs l s pc w).r=r from rfl,h1,h2]
 cases eqI (cW 1 2 (cX r.a 3)) 0<;>exact⟨rfl,rfl,rfl,rfl,rfl,rfl⟩
theorem b48{x:aS}{pc w v:Int}{r:RM}{zs:List Int}{l:List aE}{s h:Bool}(hr:r.Ok 65535)(hb:BusOk zs l)(h0:0≤v)(h1:v≤65535):bL2 v (dG x pc w f0) (bP r zs l s h)=true∧bL1 v (dG x pc w f0) (bP r zs l s h)=dR x pc w h (eL (mq r zs l s pc w) v):=by
 refine aK (t:=a35 v (dG x pc w f0) (bP r zs l s h)) (P:=fun q=>q=dR x pc w h (eL (mq r zs l s pc w) v)) ?_
 obtain⟨a1,a2⟩:=aOB (v:=v) (s:=s) (h:=h) hr hb h0 h1;obtain⟨e1,e2,e3,e4,e5⟩:=bHE r zs l s pc w v;have e6:=OI (pc:=pc) (w:=w) (r:=r) (zs:=zs) (l:=l) (s:=s) 2 2 ((cX r.a 3-2)%65536) v;unfold a35;simp only[aB,aA,a1,a2,(qM _ _ _ _ _ _ _ _).1,(qM _ _ _ _ _ _ _ _).2,aD,bO,wz,qt,true_and];unfold dR;rw[e1,e2,e3,e4,e5];exact Prod.ext (congrArg (dG x pc w) e6.symm) rfl
theorem b49{x:aS}{pc w:Int}{r:RM}{zs:List Int}{l:List aE}{s h:Bool}(hr:r.Ok 65535)(hb:BusOk zs l):aW2 (dG x pc w f0) (bP r zs l s h)=true∧D2 (dG x pc w f0) (bP r zs l s h)=((dR x pc w h (dM (mq r zs l s pc w)).1).1,(dR x pc w h (dM (mq r zs l s pc w)).1).2,(dM (mq r zs l s pc w)).2):=by
 refine aK (t:=aLW (dG x pc w f0) (bP r zs l s h)) (P:=fun q=>q=((dR x pc w h (dM (mq r zs l s pc w)).1).1,(dR x pc w h (dM (mq r zs l s pc w)).1).2,(dM (mq r zs l s pc w)).2)) ?_
 obtain⟨a1,a2⟩:=b4V (s:=s) (h:=h) hr hb;obtain⟨e1,e2,e3,e4,e5,e6⟩:=bQF r zs l s pc w;have e7:=OI (pc:=pc) (w:=w) (r:=r) (zs:=zs) (l:=l) (s:=s) 1 2 (cX r.a 3) 0;have nf:dD f0.Vector 0=false:=rfl;unfold aLW;simp only[aB,aI,aA,oY,nf,a1,a2,(qM _ _ _ _ _ _ _ _).1,(qM _ _ _ _ _ _ _ _).2,aD,bO,wz,qt,true_and,q_2,false_implies,forall_const];unfold dR;rw[e1,e2,e3,e4,e5,e6];exact Prod.ext (congrArg (dG x pc w) e7.symm) rfl
theorem cHY{x:aS}{pc w:Int}{f:aL}(c:aG)(hf:dD f.Vector 0=true):aW2 (dG x pc w f) c=true∧D2 (dG x pc w f) c=(dG x pc w f,c,0):=by
 refine aK (t:=aLW (dG x pc w f) c) (P:=fun q=>q=(dG x pc w f,c,0)) ?_
 unfold aLW;simp only[aB,aI,aA,oY,hf,aD,bO,wz,qt,true_and,q_1,false_implies,forall_const,and_true]
theorem b5A{x:aS}(h:x.Op=14):kB x=bif (bif (bif eqI x.Size 2 then eqI x.Reg 0 else false)then leI x.Sub 1 else false)then vD x.Ea.Mode else false:=by
 unfold kB;rw[h];rfl
theorem aE0{a b:Bool}(h:(bif a then b else false)=true):a=true∧b=true:=by
 cases a
 ·cases h
 ·exact⟨rfl,h⟩
theorem WK{m:Int}(h:vD m=true):2≤m∧m≤6:=by
 unfold vD at h;cases h1:(bif eqI m 2 then true else eqI m 5)
 ·rw[h1,cond_false,eC]at h;omega
 ·cases h2:eqI m 2
  ·rw[h2,cond_false,eC]at h1;omega
  ·rw[eC]at h2;omega
theorem aYB{x:aS}(h:InsOk x)(h2:x.Op=14):x.Size=2∧(2≤x.Ea.Mode∧x.Ea.Mode≤6):=by
 have hk:=h.kb;rw[b5A h2]at hk;obtain⟨h1,h3⟩:=aE0 hk;obtain⟨h1,-⟩:=aE0 h1;obtain⟨h1,-⟩:=aE0 h1;exact⟨eC.1 h1,WK h3⟩
def Alike(x:aS)(pc w:Int)(h s:Bool)(J:MM)(q:bJ×aG):Prop:=
 ∃r' s',(cF J=true→r'=J.r∧s'=J.stop)∧(cF J=false→s'=s)∧q=(dG x pc w (dF J),bP r' J.zs J.l s' h)
theorem Alike.of{x:aS}{pc w:Int}{h s:Bool}{J:MM}(hs:J.stop=s):Alike x pc w h s J (dR x pc w h J):=⟨J.r,J.stop,fun _=>⟨rfl,rfl⟩,fun _=>hs,rfl⟩
theorem Alike.of'{x:aS}{pc w:Int}{h s:Bool}{J:MM}(hs:cF J=false→J.stop=s):Alike x pc w h s J (dR x pc w h J):=⟨J.r,J.stop,fun _=>⟨rfl,rfl⟩,hs,rfl⟩
theorem b5B{x:aS}{pc w:Int}{r:RM}{zs:List Int}{l:List aE}{s h:Bool}(hr:r.Ok 65535)(hb:BusOk zs l)(hg:lD x=true)(h2:x.Op=14)(hp:cJ pc 0 65535=true)(hpc:r.pc=beh x pc):bL3 (dG x pc w f0) (bP r zs l s h)=true∧Alike x pc w h s (AV (mq r zs l s pc w) x pc) (aW0 (dG x pc w f0) (bP r zs l s h)):=by
 refine aK (t:=a36 (dG x pc w f0) (bP r zs l s h)) (P:=fun q=>Alike x pc w h s (AV (mq r zs l s pc w) x pc) q) ?_
 have hi:=InsOk.of hg;obtain⟨k1,hm⟩:=aYB hi h2;obtain⟨m0,m1,-,-⟩:=QI hm;obtain⟨p1,p2⟩:=WJ hr hi.hs hi.ho hm;obtain⟨p3,p4⟩:=rQ (s:=x.Size) hr hi.ho;have hpl:(bU r x.Size x.Ea).1.pc=r.pc:=by
  unfold bU;cases eqI x.Ea.Mode 3
  ·cases eqI x.Ea.Mode 4
   ·cases eqI x.Ea.Mode 5
    ·cases eqI x.Ea.Mode 6<;>rfl
    ·rfl
   ·rfl
  ·rfl
 have hbr:=aU.1 hr.pw;rw[hpc]at hbr;obtain⟨b1,b2⟩:=QJ (w:=w) (f:=f0) (bP (bU r x.Size x.Ea).1 zs l s h) hg hp;obtain⟨q1,q2⟩:=b48 (x:=x) (pc:=pc) (w:=w) (v:=beh x pc) (s:=s) (h:=h) p3 hb hbr.1 hbr.2;have sp:kO (mq r zs l s pc w) 2 x.Ea=(mq (bU r x.Size x.Ea).1 zs l s pc w,(bU r x.Size x.Ea).2):=by unfold kO;rw[m0,k1];rfl
 unfold a36 AV;rw[h2,show eqI 14 13=false from rfl,cond_false,sp]
 simp only[aB,aI,aA,NL,aLV,UH,wS,oX,pI,pN,oY,jY,mG,lT,lB,jC,p1,p2,b1,b2,q1,q2,aD,bO,wz,qt,true_and];refine⟨fun e=>?_,fun e=>?_⟩
 ·have j2:XF x (mq (bU r x.Size x.Ea).1 zs l s pc w,(bU r x.Size x.Ea).2)=eL (mq (bU r x.Size x.Ea).1 zs l s pc w) (beh x pc):=by
   unfold XF;rw[e,cond_true,←hpc,←hpl];rfl
  rw[j2];have js:(eL (mq (bU r x.Size x.Ea).1 zs l s pc w) (beh x pc)).stop=s:=ZB _ _;generalize eL (mq (bU r x.Size x.Ea).1 zs l s pc w) (beh x pc)=J at js;refine⟨{J.r with pc:=(bU r x.Size x.Ea).2},J.stop,fun hf=>?_,fun _=>js,?_⟩
  ·unfold aXT at hf⊢;cases hj:cF J
   ·rw[hj,cond_false,hj]at hf;cases hf
   ·exact⟨rfl,rfl⟩
  ·unfold aXT dF;cases hj:cF J
   ·rw[cond_false,hj];unfold dR dF;rw[hj];rfl
   ·rw[cond_true];have:cF {J with r:={J.r with pc:=(bU r x.Size x.Ea).2}}=true:=hj
    rw[this];unfold dR dF;rw[hj];rfl
 ·have j2:XF x (mq (bU r x.Size x.Ea).1 zs l s pc w,(bU r x.Size x.Ea).2)=mq (bU r x.Size x.Ea).1 zs l s pc w:=by
   unfold XF;rw[e];rfl
  rw[j2];exact Alike.of rfl
theorem a9L(r:RM)(p v:Int):dS {r with pc:=p} v={dS r v with pc:=p}:=by
 unfold dS;dsimp only;cases AX (eqI (v/256%2) 1) r.sup<;>rfl
theorem aYC{x:aS}(h:InsOk x)(h2:x.Op=15):x.Size=2:=by
 have hk:=h.kb;rw[a8S h2]at hk;unfold LD at hk;cases e:(bif dD x.Size 2 then true else pG x.Sub 6)
 ·cases e2:dD x.Size 2
  ·exact PE.1 e2
  ·rw[e2]at e;cases e
 ·rw[e]at hk;cases hk
theorem aHC(m:MM)(v:Int)(h:eqI v 0=false):dF (zY m v)={m.f with Vector:=v,PC:=m.r.pc}:=by
 have:cF (zY m v)=false:=h;unfold dF;rw[this];rfl
theorem b5C{v:Int}(h0:0≤v)(h1:v≤65535):fB (fF v 8) (m9 (bF v 255) 8)=ES v:=by
 unfold ES Y2;rw[aU.2 ⟨h0,h1⟩];rfl
theorem bQG{r:RM}{zs:List Int}{l:List aE}{s:Bool}{pc w:Int}(h:cF (dM (mq r zs l s pc w)).1=true):(dM (mq r zs l s pc w)).1=mq (dM (mq r zs l s pc w)).1.r (dM (mq r zs l s pc w)).1.zs (dM (mq r zs l s pc w)).1.l s pc w:=by
 have e:(dM (mq r zs l s pc w)).1={(cU (mq r zs l s pc w) 1 2 (cX r.a 3) 0).1 with r:=(dM (mq r zs l s pc w)).1.r}:=by
  unfold dM;cases cF (cU (mq r zs l s pc w) 1 2 (cX (mq r zs l s pc w).r.a 3) 0).1<;>rfl
 have hf:cF (cU (mq r zs l s pc w) 1 2 (cX r.a 3) 0).1=true:=by rw[e]at h;exact h
 have:=CH hf;rw[e,this];rfl
theorem b5D{x:aS}{pc w:Int}{r:RM}{zs:List Int}{l:List aE}{s h:Bool}(hr:r.Ok 65535)(hb:BusOk zs l)(hg:lD x=true)(h2:x.Op=15)(hp:cJ pc 0 65535=true)(hpc:r.pc=beh x pc):bL6 (dG x pc w f0) (bP r zs l s h)=true∧Alike x pc w h s (ET (mq r zs l s pc w) x) (aW5 (dG x pc w f0) (bP r zs l s h)):=by
 refine aK (t:=a4B (dG x pc w f0) (bP r zs l s h)) (P:=fun q=>Alike x pc w h s (ET (mq r zs l s pc w) x) q) ?_
 have hi:=InsOk.of hg;have hsz:=aYC hi h2;obtain⟨d1,d2,d3⟩:=jX hr.d4 hi.hr;obtain⟨s1,s2,s3,s4,s5⟩:=gG (v:=0) hr.d4 hi.hr;rw[Nat.zero_add]at s5;have dr:=nW hr.dw hr.d4 hi.hr;obtain⟨q1,q2⟩:=b49 (x:=x) (pc:=pc) (w:=w) (s:=s) (h:=h) hr hb;obtain⟨o1,o2,o3⟩:=I2 (LP (s:=s) (pc:=pc) (w:=w) hr hb);have ps:(dM (mq r zs l s pc w)).1.stop=s:=aG7 _;unfold a4B ET;have hsub:x.Sub=0∨x.Sub=1∨x.Sub=2∨x.Sub=3∨x.Sub=4∨x.Sub=5∨x.Sub=6∨x.Sub=7:=by have:=aU.1 hi.hb;omega
 rcases hsub with e|e|e|e|e|e|e|e
 ·simp only[aB,aI,aA,oK,oJ,pM,m5,uS,uR,uQ,uP,uO,uN,uM,uL,uK,jM,oX,pI,pN,oY,jY,mG,lT,lB,eS,eV,aX,cK,aW,bK,aV,aR,jC,e,show eqI 0 0=true from rfl,show eqI 0 1=false from rfl,show eqI 0 3=false from rfl,show eqI 0 4=false from rfl,show eqI 0 5=false from rfl,show eqI 0 6=false from rfl,Nat.zero_add,aT,bB,d2,s3,s4,s5,q1,q2,cond_true,cond_false,aD,bO,wz,bL,cQ,aZ,cS,qt,true_and,forall_const,q_1,q_2,false_implies,and_true]
  exact Alike.of (J:={(dM (mq r zs l s pc w)).1 with r:={(dM (mq r zs l s pc w)).1.r with pc:=(dM (mq r zs l s pc w)).2}}) ps
 ·cases hf:cF (dM (mq r zs l s pc w)).1
  ·obtain⟨e1,e2⟩:=zZ hf;obtain⟨n1,n2⟩:=cHY (x:=x) (pc:=pc) (w:=w) (f:=(dM (mq r zs l s pc w)).1.f) (dR x pc w h (dM (mq r zs l s pc w)).1).2 e2;have e3:eqI (dM (mq r zs l s pc w)).1.f.Vector 0=false:=hf;have dr1:(dR x pc w h (dM (mq r zs l s pc w)).1).1=dG x pc w (dM (mq r zs l s pc w)).1.f:=by unfold dR;rw[e1]
   simp only[aB,aI,aA,oK,oJ,pM,m5,uS,uR,uQ,uP,uO,uN,uM,uL,uK,jM,oX,pI,pN,oY,jY,mG,lT,lB,eS,eV,aX,cK,aW,bK,aV,aR,jC,e,show eqI 1 0=false from rfl,show eqI 1 1=true from rfl,show eqI 1 3=false from rfl,show eqI 1 4=false from rfl,show eqI 1 5=false from rfl,show eqI 1 6=false from rfl,Nat.zero_add,aT,bB,d2,s3,s4,s5,q1,q2,cond_true,cond_false,aD,bO,wz,bL,cQ,aZ,cS,qt,true_and,forall_const,q_1,q_2,false_implies,and_true,dr1,n1,n2,e3,Bool.not_false]
   have:(dG x pc w (dM (mq r zs l s pc w)).1.f,(dR x pc w h (dM (mq r zs l s pc w)).1).2)=dR x pc w h (dM (mq r zs l s pc w)).1:=by rw[←dr1]
   rw[this];exact Alike.of ps
  ·have e1:=tK hf;have em:=bQG hf;have dr1:(dR x pc w h (dM (mq r zs l s pc w)).1).1=dG x pc w f0:=by unfold dR;rw[e1]
   have dr2:(dR x pc w h (dM (mq r zs l s pc w)).1).2=bP (dM (mq r zs l s pc w)).1.r (dM (mq r zs l s pc w)).1.zs (dM (mq r zs l s pc w)).1.l s h:=by unfold dR;rw[ps]
   obtain⟨n1,n2⟩:=b49 (x:=x) (pc:=pc) (w:=w) (s:=s) (h:=h) o1.r o1.b;obtain⟨u1,u2,u3⟩:=I2 (LP (s:=s) (pc:=pc) (w:=w) o1.r o1.b);have us:(dM (mq (dM (mq r zs l s pc w)).1.r (dM (mq r zs l s pc w)).1.zs (dM (mq r zs l s pc w)).1.l s pc w)).1.stop=s:=aG7 _;have em2:dM (dM (mq r zs l s pc w)).1=dM (mq (dM (mq r zs l s pc w)).1.r (dM (mq r zs l s pc w)).1.zs (dM (mq r zs l s pc w)).1.l s pc w):=congrArg dM em;have ew:bF (dM (mq r zs l s pc w)).2 1023=(dM (mq r zs l s pc w)).2%1024:=jF 10 _ (by omega) (by decide)
   rw[em2];generalize dM (mq (dM (mq r zs l s pc w)).1.r (dM (mq r zs l s pc w)).1.zs (dM (mq r zs l s pc w)).1.l s pc w)=Q at n1 n2 u1 u2 u3 us;obtain⟨Q1,v⟩:=Q;dsimp only at n1 n2 u1 u2 u3 us⊢;obtain⟨t1,t2⟩:=aET (v:=(dM (mq r zs l s pc w)).2%1024) u1.r (by rw[aU];omega)
   cases hf2:cF Q1
   ·obtain⟨g1,g2⟩:=zZ hf2;have g3:eqI Q1.f.Vector 0=false:=hf2;have g4:(dR x pc w h Q1).1.ffault=Q1.f:=by unfold dR;rw[g1];rfl
    simp only[aB,aI,aA,oK,oJ,pM,m5,uS,uR,uQ,uP,uO,uN,uM,uL,uK,jM,oX,pI,pN,oY,jY,mG,lT,lB,eS,eV,aX,cK,aW,bK,aV,aR,jC,e,show eqI 1 0=false from rfl,show eqI 1 1=true from rfl,show eqI 1 3=false from rfl,show eqI 1 4=false from rfl,show eqI 1 5=false from rfl,show eqI 1 6=false from rfl,Nat.zero_add,aT,bB,d2,s3,s4,s5,q1,q2,cond_true,cond_false,aD,bO,wz,bL,cQ,aZ,cS,qt,true_and,forall_const,q_1,q_2,false_implies,and_true,dr1,dr2,n1,n2,g3,g4,Bool.not_true]
    exact Alike.of us
   ·have g1:=tK hf2;have g3:eqI f0.Vector 0=true:=rfl;have g4:(dR x pc w h Q1).1.ffault=f0:=by unfold dR;rw[g1];rfl
    have g5:(dR x pc w h Q1).2.R=Q1.r.g:=rfl;simp only[aB,aI,aA,oK,oJ,pM,m5,uS,uR,uQ,uP,uO,uN,uM,uL,uK,jM,oX,pI,pN,oY,jY,mG,lT,lB,eS,eV,aX,cK,aW,bK,aV,aR,jC,e,show eqI 1 0=false from rfl,show eqI 1 1=true from rfl,show eqI 1 3=false from rfl,show eqI 1 4=false from rfl,show eqI 1 5=false from rfl,show eqI 1 6=false from rfl,Nat.zero_add,aT,bB,d2,s3,s4,s5,q1,q2,cond_true,cond_false,aD,bO,wz,bL,cQ,aZ,cS,qt,true_and,forall_const,q_1,q_2,false_implies,and_true,dr1,dr2,n1,n2,g3,g4,g5,ew,t1,t2,Bool.not_true]
    rw[a9L];exact Alike.of (J:={Q1 with r:={dS Q1.r ((dM (mq r zs l s pc w)).2%1024)with pc:=v}}) us
 ·simp only[aB,aI,aA,oK,oJ,pM,m5,uS,uR,uQ,uP,uO,uN,uM,uL,uK,jM,oX,pI,pN,oY,jY,mG,lT,lB,eS,eV,aX,cK,aW,bK,aV,aR,jC,e,show eqI 2 0=false from rfl,show eqI 2 1=false from rfl,show eqI 2 3=false from rfl,show eqI 2 4=false from rfl,show eqI 2 5=false from rfl,show eqI 2 6=false from rfl,Nat.zero_add,aT,bB,d2,s3,s4,s5,q1,q2,cond_true,cond_false,aD,bO,wz,bL,cQ,aZ,cS,qt,true_and,forall_const,q_1,q_2,false_implies,and_true]
  exact Alike.of (J:=mq r zs l s pc w) rfl
 ·have hx:cJ x.Ea.Ext 0 1023=true:=by
   have:=aU.1 hi.ho.he;have:=Y3 hi h2 e;rw[aU];omega
  obtain⟨t1,t2⟩:=aET (v:=x.Ea.Ext) hr hx;simp only[aB,aI,aA,oK,oJ,pM,m5,uS,uR,uQ,uP,uO,uN,uM,uL,uK,jM,oX,pI,pN,oY,jY,mG,lT,lB,eS,eV,aX,cK,aW,bK,aV,aR,jC,e,show eqI 3 0=false from rfl,show eqI 3 1=false from rfl,show eqI 3 3=true from rfl,show eqI 3 4=false from rfl,show eqI 3 5=false from rfl,show eqI 3 6=false from rfl,Nat.zero_add,aT,bB,d2,s3,s4,s5,q1,q2,cond_true,cond_false,aD,bO,wz,bL,cQ,aZ,cS,qt,true_and,forall_const,q_1,q_2,false_implies,and_true,t1,t2]
  exact Alike.of' (J:={mq r zs l s pc w with r:=dS r x.Ea.Ext,stop:=true}) (fun hf=>by cases hf)
 ·obtain⟨b1,b2⟩:=QJ (w:=w) (f:=f0) (bP r zs l s h) hg hp;have hrg:=aU.1 hi.hr;have ea:bE 18 x.Reg=18+x.Reg:=bV (by omega)
  have hv:eqI (18+x.Reg) 0=false:=iS.2 (by omega)
  simp only[aB,aI,aA,oK,oJ,pM,m5,uS,uR,uQ,uP,uO,uN,uM,uL,uK,jM,oX,pI,pN,oY,jY,mG,lT,lB,eS,eV,aX,cK,aW,bK,aV,aR,jC,e,show eqI 4 0=false from rfl,show eqI 4 1=false from rfl,show eqI 4 3=false from rfl,show eqI 4 4=true from rfl,show eqI 4 5=false from rfl,show eqI 4 6=false from rfl,Nat.zero_add,aT,bB,d2,s3,s4,s5,q1,q2,cond_true,cond_false,aD,bO,wz,bL,cQ,aZ,cS,qt,true_and,forall_const,q_1,q_2,false_implies,and_true,b1,b2,ea,(tJ _ _ _ _ _ _ _).1,(tJ _ _ _ _ _ _ _).2]
  have hd:=aHC (mq r zs l s pc w) (18+x.Reg) hv;have hfl:WI (18+x.Reg) (beh x pc) f0 w=dF (zY (mq r zs l s pc w) (18+x.Reg)):=by
   rw[hd,←hpc];rfl
  rw[hfl];exact Alike.of (J:=zY (mq r zs l s pc w) (18+x.Reg)) rfl
 ·have sv:=V7 (v:=cX r.d x.Reg);obtain⟨t1,t2⟩:=toD (x:=x) (pc:=pc) (w:=w) (f:=f0) (zs:=zs) (l:=l) (s:=s) (h:=h) (v:=ES (cX r.d x.Reg)) hr hi.hs hi.hr (fun z=>by omega) sv.1 sv.2
  rw[show dD f0.Vector 0=false from rfl,cond_false]at t2
  have es:=b5C (v:=cX r.d x.Reg) dr.1 (by omega)
  simp only[aB,aI,aA,oK,oJ,pM,m5,uS,uR,uQ,uP,uO,uN,uM,uL,uK,jM,oX,pI,pN,oY,jY,mG,lT,lB,eS,eV,aX,cK,aW,bK,aV,aR,jC,e,show eqI 5 0=false from rfl,show eqI 5 1=false from rfl,show eqI 5 3=false from rfl,show eqI 5 4=false from rfl,show eqI 5 5=true from rfl,show eqI 5 6=false from rfl,Nat.zero_add,aT,bB,d2,s3,s4,s5,q1,q2,cond_true,cond_false,aD,bO,wz,bL,cQ,aZ,cS,qt,true_and,forall_const,q_1,q_2,false_implies,and_true,es,t1,t2]
  rw[hsz];exact Alike.of (J:=CP (mq r zs l s pc w) 2 x.Reg (ES (cX r.d x.Reg))) rfl
 ·have sv:=aUG (v:=cX r.d x.Reg);obtain⟨t1,t2⟩:=toD (x:=x) (pc:=pc) (w:=w) (f:=f0) (zs:=zs) (l:=l) (s:=s) (h:=h) (v:=XE (cX r.d x.Reg)) hr hi.hs hi.hr (fun z=>by omega) sv.1 sv.2
  rw[show dD f0.Vector 0=false from rfl,cond_false]at t2
  have e8:bF (cX r.d x.Reg) 255=cX r.d x.Reg%256:=zU dr.1 (by omega)
  obtain⟨g1,g2⟩:=YY (s:=1) (v:=cX r.d x.Reg%256) (Or.inl rfl) (by omega) (by omega)
  have ee:bF (AS 1 (cX r.d x.Reg%256)) 65535=XE (cX r.d x.Reg):=rfl;simp only[aB,aI,aA,oK,oJ,pM,m5,uS,uR,uQ,uP,uO,uN,uM,uL,uK,jM,oX,pI,pN,oY,jY,mG,lT,lB,eS,eV,aX,cK,aW,bK,aV,aR,jC,e,show eqI 6 0=false from rfl,show eqI 6 1=false from rfl,show eqI 6 3=false from rfl,show eqI 6 4=false from rfl,show eqI 6 5=false from rfl,show eqI 6 6=true from rfl,Nat.zero_add,aT,bB,d2,s3,s4,s5,q1,q2,cond_true,cond_false,aD,bO,wz,bL,cQ,aZ,cS,qt,true_and,forall_const,q_1,q_2,false_implies,and_true,e8,g1,g2,ee,t1,t2]
  rw[hsz];exact Alike.of (J:=CP (mq r zs l s pc w) 2 x.Reg (XE (cX r.d x.Reg))) rfl
 ·simp only[aB,aI,aA,oK,oJ,pM,m5,uS,uR,uQ,uP,uO,uN,uM,uL,uK,jM,oX,pI,pN,oY,jY,mG,lT,lB,eS,eV,aX,cK,aW,bK,aV,aR,jC,e,show eqI 7 0=false from rfl,show eqI 7 1=false from rfl,show eqI 7 3=false from rfl,show eqI 7 4=false from rfl,show eqI 7 5=false from rfl,show eqI 7 6=false from rfl,Nat.zero_add,aT,bB,d2,s3,s4,s5,q1,q2,cond_true,cond_false,aD,bO,wz,bL,cQ,aZ,cS,qt,true_and,forall_const,q_1,q_2,false_implies,and_true]
  exact Alike.of (J:=mq r zs l s pc w) rfl
end Go.Proofs.YtdipcnijfkdnfaaGreatWhole

namespace Go.Proofs.YtdipcnijfkdnfaaGreatWhole
open Go Go.Zq
set_option maxHeartbeats 4000000
set_option maxRecDepth 100000
theorem bQH{x:aS}(h:x.Op=16∨x.Op=17):kB x=bif (bif eqI x.Size 2 then eqI x.Sub 0 else false)then dD x.Ea.Mode 1 else false:=by
 unfold kB;rcases h with h|h<;>rw[h]<;>rfl
theorem a9M{x:aS}(h:InsOk x)(h2:x.Op=16∨x.Op=17):x.Size=2:=by
 have hk:=h.kb;rw[bQH h2]at hk;obtain⟨h1,-⟩:=aE0 hk;obtain⟨h1,-⟩:=aE0 h1;exact eC.1 h1
theorem a9N{x:aS}{pc w:Int}{r:RM}{zs:List Int}{l:List aE}{s h:Bool}(hr:r.Ok 65535)(hb:BusOk zs l)(hg:lD x=true)(h2:x.Op=16∨x.Op=17)(hp:cJ pc 0 65535=true)(hpc:r.pc=beh x pc):bL7 (dG x pc w f0) (bP r zs l s h)=true∧aW6 (dG x pc w f0) (bP r zs l s h)=dR x pc w h (kL (mq r zs l s pc w) x):=by
 refine aK (t:=a4C (dG x pc w f0) (bP r zs l s h)) (P:=fun q=>q=dR x pc w h (kL (mq r zs l s pc w) x)) ?_
 have hi:=InsOk.of hg;have hsz:=a9M hi h2;obtain⟨r1,r2⟩:=aOE (pc:=pc) (w:=w) (s:=s) (h:=h) hr hb hi.hs hi.ho;obtain⟨r3,r4,r5⟩:=rT (LP (s:=s) (pc:=pc) (w:=w) hr hb) V8 hi.ho oV oV;have rpc:(dU (mq r zs l s pc w) 2 x.Ea).1.r.pc=r.pc:=by
  unfold dU;cases eqI x.Ea.Mode 0
  ·cases eqI x.Ea.Mode 1
   ·cases eqI x.Ea.Mode 7
    ·show(bU r 2 x.Ea).1.pc=r.pc
     unfold bU;cases eqI x.Ea.Mode 3
     ·cases eqI x.Ea.Mode 4
      ·cases eqI x.Ea.Mode 5
       ·cases eqI x.Ea.Mode 6<;>rfl
       ·rfl
      ·rfl
     ·rfl
    ·rfl
   ·rfl
  ·rfl
 have rst:(dU (mq r zs l s pc w) 2 x.Ea).1.stop=s:=by
  unfold dU;cases eqI x.Ea.Mode 0
  ·cases eqI x.Ea.Mode 1
   ·cases eqI x.Ea.Mode 7<;>rfl
   ·rfl
  ·rfl
 have rfm:cF (dU (mq r zs l s pc w) 2 x.Ea).1=true→(dU (mq r zs l s pc w) 2 x.Ea).1.f=ff pc w:=by
  unfold dU;cases eqI x.Ea.Mode 0
  ·cases eqI x.Ea.Mode 1
   ·cases eqI x.Ea.Mode 7
    ·intro hf;have:=CH (r:=(bU r 2 x.Ea).1) (zs:=zs) (l:=l) (s:=s) (pc:=pc) (w:=w) hf;exact congrArg MM.f this
    ·exact fun _=>rfl
   ·exact fun _=>rfl
  ·exact fun _=>rfl
 rw[hsz]at r2;unfold a4C kL;generalize dU (mq r zs l s pc w) 2 x.Ea=q at r2 r3 r4 r5 rpc rst rfm;obtain⟨q1,v,a⟩:=q;dsimp only at r2 r3 r4 r5 rpc rst rfm⊢;obtain⟨qr,qz,ql,qs,qf⟩:=q1;have hqr:RM.Ok 65535 qr:=r3.r;dsimp only at rpc rst rfm;cases hfi:cF ⟨qr,qz,ql,qs,qf⟩
 ·obtain⟨e1,e2⟩:=zZ hfi;simp only[aB,aI,aA,IC,NO,NN,BY,D3,IB,NM,oX,pI,pN,oY,jY,mG,lT,lB,r1,r2,dR,e1,e2,Bool.not_false,cond_true,aD,bO,wz,Bool.and_true,true_and,forall_const,Bool.true_eq_false,false_implies,and_true]
 ·have e1: ∀r',dF ⟨r',qz,ql,qs,qf⟩=f0:=fun r'=>tK (m:=⟨r',qz,ql,qs,qf⟩) hfi
  have nf:dD f0.Vector 0=false:=rfl;obtain⟨d1,d2,d3⟩:=jX hqr.d4 hi.hr;obtain⟨s1,s2,s3,s4,s5⟩:=gG (v:=0) hqr.d4 hi.hr;rw[Nat.zero_add]at s5;have dr:=nW hqr.dw hqr.d4 hi.hr;have vr:=rP r4;obtain⟨u1,u2⟩:=aUH dr.1 (by omega) vr.1 vr.2
  have tt: ∀v,0≤v→v≤65535→PV v (dG x pc w f0) (bP qr qz ql qs h)=true∧PU v (dG x pc w f0) (bP qr qz ql qs h)=bP (zW {qr with fl:=iF x.Size qr.fl v} x.Size x.Reg v) qz ql qs h:=fun v h0 h1=>by
   have:=toD (x:=x) (pc:=pc) (w:=w) (f:=f0) (zs:=qz) (l:=ql) (s:=qs) (h:=h) hqr hi.hs hi.hr (fun z=>by omega) h0 h1
   exact this
  rw[hsz]at tt;unfold Y4;rcases h2 with e|e
  ·obtain⟨t1,t2⟩:=tt (cX qr.d x.Reg*v%65536) (by omega) (by omega)
   simp only[aB,aI,aA,IC,NO,NN,BY,D3,IB,NM,oX,pI,pN,oY,jY,mG,lT,lB,eS,eV,aX,cK,aW,bK,aV,aR,r1,r2,dR,e1,nf,e,show eqI 16 16=true from rfl,Nat.zero_add,aT,bB,d2,s3,s4,s5,u1,rX,t1,t2,(zV _ _).1,(zV _ _).2,Bool.not_true,cond_true,cond_false,aD,bO,wz,Bool.and_true,true_and,forall_const,Bool.true_eq_false,Bool.false_eq_true,false_implies,and_true]
   exact Prod.ext (congrArg (dG x pc w) (e1 _).symm) rfl
  ·obtain⟨b1,b2⟩:=QJ (w:=w) (f:=f0) (bP qr qz ql qs h) hg hp;cases hv:eqI v 0
   ·have hv':=iS.1 hv;have hn:dD v 0=true:=oP.2 hv';obtain⟨v1,v2,v3⟩:=aEM dr.1 (show 0<v by omega) (by omega)
    obtain⟨t1,t2⟩:=tt (cX qr.d x.Reg/v) v2 (by omega)
    simp only[aB,aI,aA,IC,NO,NN,BY,D3,IB,NM,oX,pI,pN,oY,jY,mG,lT,lB,eS,eV,aX,cK,aW,bK,aV,aR,r1,r2,dR,e1,nf,e,show eqI 17 16=false from rfl,hv,hn,Nat.zero_add,aT,bB,d2,s3,s4,s5,v1,t1,t2,Bool.not_true,cond_true,cond_false,aD,bO,wz,Bool.and_true,true_and,forall_const,Bool.true_eq_false,Bool.false_eq_true,false_implies,and_true]
    exact Prod.ext (congrArg (dG x pc w) (e1 _).symm) rfl
   ·have hd:=aHC ⟨qr,qz,ql,qs,qf⟩ 5 rfl;have hfl:WI 5 (beh x pc) f0 w=dF (zY ⟨qr,qz,ql,qs,qf⟩ 5):=by
     rw[hd,rfm hfi];show _={ff pc w with Vector:=5,PC:=qr.pc}
     rw[rpc,hpc];rfl
    simp only[aB,aI,aA,IC,NO,NN,BY,D3,IB,NM,oX,pI,pN,oY,jY,mG,lT,lB,eS,eV,aX,cK,aW,bK,aV,aR,r1,r2,dR,e1,nf,e,show eqI 17 16=false from rfl,hv,Nat.zero_add,aT,bB,d2,s3,s4,s5,b1,b2,(tJ _ _ _ _ _ _ _).1,(tJ _ _ _ _ _ _ _).2,hfl,Bool.not_true,cond_true,cond_false,aD,bO,wz,Bool.and_true,true_and,forall_const,Bool.true_eq_false,Bool.false_eq_true,false_implies,and_true]
    rfl
theorem cHZ{x:aS}{pc w:Int}{r:RM}{zs:List Int}{l:List aE}{s h:Bool}(hr:r.Ok 65535)(hb:BusOk zs l)(hg:lD x=true):bMH (dG x pc w f0) (bP r zs l s h)=true∧aW8 (dG x pc w f0) (bP r zs l s h)=dR x pc w h (OF (mq r zs l s pc w) x):=by
 refine aK (t:=a4M (dG x pc w f0) (bP r zs l s h)) (P:=fun q=>q=dR x pc w h (OF (mq r zs l s pc w) x)) ?_
 have hi:=InsOk.of hg;obtain⟨i1,i2,i3⟩:=jX hr.d4 hi.hr;obtain⟨s1,s2,s3,s4,s5⟩:=gG (v:=0) hr.d4 hi.hr;obtain⟨j1,j2,j3⟩:=jX hr.d4 hi.ho.hr;obtain⟨u1,u2,u3,u4,u5⟩:=gG (v:=0) hr.d4 hi.ho.hr;rw[Nat.zero_add]at s5 u5;have dr:=nW hr.dw hr.d4 hi.hr;have er:=nW hr.dw hr.d4 hi.ho.hr;have m8:bF (cX r.d x.Reg) 255=cX r.d x.Reg%256:=zU dr.1 (by omega)
 have n8:bF (cX r.d x.Ea.Reg) 255=cX r.d x.Ea.Reg%256:=zU er.1 (by omega)
 have eq:lW r.fl 16=bif dD (bF r.fl 16) 0 then 1 else 0:=rR (p:=fun f=>lW f 16=bif dD (bF f 16) 0 then 1 else 0) hr.fw (by decide+kernel)
 have ha:cJ (cX r.d x.Reg%256) 0 255=true:=by rw[aU];omega
 have hbb:cJ (cX r.d x.Ea.Reg%256) 0 255=true:=by rw[aU];omega
 obtain⟨a1,a2⟩:=b44 (rS (dD (bF r.fl 16) 0)) ha hbb;obtain⟨b1,b2⟩:=b45 (rS (dD (bF r.fl 16) 0)) ha hbb;unfold a4M OF;rw[show(mq r zs l s pc w).r=r from rfl]
 cases h1:(jG (cX r.d x.Reg%256)&&jG (cX r.d x.Ea.Reg%256))
 ·have hfl:WI 4 pc f0 w=dF {mq r zs l s pc w with f:={(mq r zs l s pc w).f with Vector:=4}}:=rfl
  have bb:(bif eqI x.Sub 1 then false else false)=false:=by cases eqI x.Sub 1<;>rfl
  rw[h1]at a2 b2;simp only[aB,aI,aA,aCH,UO,aCG,UN,UM,UL,NR,NQ,oX,pI,pN,oY,jY,mG,lT,lB,eS,eV,aX,cK,aW,bK,aV,aR,Nat.zero_add,aT,bB,i2,j2,s3,s4,s5,u3,u4,u5,m8,n8,eq,a1,a2,b1,b2,bb,(tJ _ _ _ _ _ _ _).1,(tJ _ _ _ _ _ _ _).2,hfl,Bool.not_false,Bool.not_true,cond_true,cond_false,aD,bO,wz,Bool.and_true,Bool.true_or,Bool.or_true,true_and,forall_const,Bool.true_eq_false,Bool.false_eq_true,false_implies,and_true];rfl
 ·rw[h1]at a2 b2;rw[Bool.and_eq_true]at h1;obtain⟨⟨v0,v1⟩,v2⟩:=aEN (x:=x) (m:=mq r zs l s pc w) h1.1 h1.2;have bb:(bif eqI x.Sub 1 then true else true)=true:=by cases eqI x.Sub 1<;>rfl
  have e4:(bif eqI x.Sub 1 then(P1 (bif dD (bF r.fl 16) 0 then 1 else 0) (cX r.d x.Reg%256) (cX r.d x.Ea.Reg%256)).1 else(P0 (bif dD (bF r.fl 16) 0 then 1 else 0) (cX r.d x.Reg%256) (cX r.d x.Ea.Reg%256)).1)=(CV x (mq r zs l s pc w)).1:=by
   unfold CV;cases eqI x.Sub 1<;>rfl
  have e5:(bif eqI x.Sub 1 then(P1 (bif dD (bF r.fl 16) 0 then 1 else 0) (cX r.d x.Reg%256) (cX r.d x.Ea.Reg%256)).2 else(P0 (bif dD (bF r.fl 16) 0 then 1 else 0) (cX r.d x.Reg%256) (cX r.d x.Ea.Reg%256)).2)=(CV x (mq r zs l s pc w)).2:=by
   unfold CV;cases eqI x.Sub 1<;>rfl
  have e6:(bif eqI (CV x (mq r zs l s pc w)).2 1 then(17:Int)else 0)=dE (CV x (mq r zs l s pc w)).2 17:=by rcases v2 with z|z<;>rw[z]<;>decide
  obtain⟨p1,p2⟩:=a9J (v:=(CV x (mq r zs l s pc w)).1) hr h11 hi.hr (fun _=>by omega)
  simp only[aB,aI,aA,aCH,UO,aCG,UN,UM,UL,NR,NQ,oX,pI,pN,oY,jY,mG,lT,lB,eS,eV,aX,cK,aW,bK,aV,aR,Nat.zero_add,aT,bB,i2,j2,s3,s4,s5,u3,u4,u5,m8,n8,eq,a1,a2,b1,b2,bb,e4,e5,e6,p1,p2,(zV _ _).1,(zV _ _).2,Bool.not_false,Bool.not_true,cond_true,cond_false,aD,bO,wz,Bool.and_true,Bool.true_or,Bool.or_true,true_and,forall_const,Bool.true_eq_false,Bool.false_eq_true,false_implies,and_true];rfl
end Go.Proofs.YtdipcnijfkdnfaaGreatWhole

namespace Go.Proofs.YtdipcnijfkdnfaaGreatWhole
open Bool renaming and_true → qt
open Bool renaming true_eq_false → q_1
open Bool renaming false_eq_true → q_2
open Bool renaming true_or → q_3
open Bool renaming not_true → q_5
open Bool renaming or_true → q_6
open Nat renaming zero_add → q_9
open List renaming length_set → q_f
open Go Go.Zq
set_option maxHeartbeats 4000000
set_option maxRecDepth 100000
theorem cH0{x:aS}(h:x.Op=9):kB x=bif eqI x.Size 2 then eqI x.Sub 0 else false:=by
 unfold kB;rw[h];rfl
theorem b5E{x:aS}(h:x.Op=10):kB x=bif (bif eqI x.Size 2 then eqI x.Sub 0 else false)then vD x.Ea.Mode else false:=by
 unfold kB;rw[h];rfl
theorem xK(m:MM)(x:aS):(CD m x).stop=(dU m x.Size x.Ea).1.stop:=by
 unfold CD;dsimp only;cases !cF (dU m x.Size x.Ea).1
 ·cases eqI x.Op 8<;>rfl
 ·rfl
theorem j0(m:MM)(s:Int)(o:aF):(dU m s o).1.stop=m.stop:=by
 unfold dU;cases eqI o.Mode 0
 ·cases eqI o.Mode 1
  ·cases eqI o.Mode 7<;>rfl
  ·rfl
 ·rfl
theorem WL(m:MM)(s:Int)(o:aF)(a v:Int):(eK m s o a v).stop=m.stop:=by
 unfold eK;cases eqI o.Mode 0<;>rfl
theorem aHD(m:MM)(s:Int)(o:aF):(kO m s o).1.stop=m.stop:=by
 unfold kO;cases eqI o.Mode 0<;>rfl
theorem aYD(m:MM)(x:aS):(Y8 m x).stop=m.stop:=by
 show(eK (kO m x.Size x.Ea).1 x.Size x.Ea (kO m x.Size x.Ea).2 (cX m.r.d x.Reg%cD x.Size)).stop=m.stop
 rw[WL,aHD]
theorem aYE(m:MM)(x:aS):(fO m x).1.stop=m.stop:=by
 unfold fO;cases eqI x.Sub 0
 ·exact j0 _ _ _
 ·exact aHD _ _ _
theorem aYF(x:aS)(q:MM)(a:Int)(w:Int×Int):(ER x q a w).stop=q.stop:=by
 unfold ER;cases !cF q
 ·cases ltI x.Sub 3
  ·rfl
  ·exact WL _ _ _ _ _
 ·rfl
theorem a9O(m:MM)(x:aS):(OE m x).stop=m.stop:=by
 unfold OE;rw[aYF,aYE]
theorem LQ(m:MM)(x:aS):(kL m x).stop=m.stop:=by
 unfold kL Y4;cases !cF (dU m 2 x.Ea).1
 ·cases eqI x.Op 16
  ·cases eqI (dU m 2 x.Ea).2.1 0<;>exact j0 _ _ _
  ·exact j0 _ _ _
 ·exact j0 _ _ _
theorem a9P(m:MM)(x:aS):(OF m x).stop=m.stop:=by
 unfold OF;cases jG (cX m.r.d x.Reg%256)&&jG (cX m.r.d x.Ea.Reg%256)<;>rfl
theorem doD{x:aS}{pc w:Int}{r:RM}{zs:List Int}{l:List aE}{s h:Bool}(hr:r.Ok 65535)(hb:BusOk zs l)(hg:lD x=true)(hp:cJ pc 0 65535=true)(hpc:r.pc=beh x pc):bML (dG x pc w f0) (bP r zs l s h)=true∧Alike x pc w h s (sV (mq r zs l s pc w) x pc) (bMK (dG x pc w f0) (bP r zs l s h)):=by
 refine aK (t:=a4P (dG x pc w f0) (bP r zs l s h)) (P:=fun q=>Alike x pc w h s (sV (mq r zs l s pc w) x pc) q) ?_
 have hi:=InsOk.of hg;have hop:=hi.op;have hrr:=aU.1 hi.hr;have hsb:=aU.1 hi.hb;have hm:=LP (s:=s) (pc:=pc) (w:=w) hr hb;obtain⟨y1,y2,y3,y4,y5⟩:=gG (v:=0) hr.a4 hi.hr;rw[q_9]at y1 y2 y5;obtain⟨t1,t2,t3,t4,t5⟩:=gG (v:=0) hr.d4 hi.hr;rw[q_9]at t1 t2 t5;unfold a4P sV;have hops:x.Op=1∨x.Op=2∨x.Op=3∨x.Op=4∨x.Op=5∨x.Op=6∨x.Op=7∨x.Op=8∨x.Op=9∨x.Op=10∨x.Op=11∨x.Op=12∨x.Op=13∨x.Op=14∨x.Op=15∨x.Op=16∨x.Op=17∨x.Op=18∨x.Op=19:=by omega
 rcases hops with e|e|e|e|e|e|e|e|e|e|e|e|e|e|e|e|e|e|e
 ·obtain⟨a1,a2⟩:=aOF (pc:=pc) (w:=w) (s:=s) (h:=h) hr hb hi (by unfold qK;omega)
  simp only[aB,aI,aA,gS,fQ,f7,fJ,gR,gQ,fZ,gP,gO,iB,iA,hZ,hY,hX,hU,hK,hJ,bY,fI,bW,gN,gM,fP,gL,fY,gK,fX,jS,fL,jR,jQ,iM,iX,jP,iW,jO,jN,oX,pI,pN,oY,jY,mG,lT,lB,eS,eV,aX,cK,aW,bK,aV,aR,jC,e,show eqI 1 1=true from rfl,show eqI 1 2=false from rfl,show eqI 1 3=false from rfl,show eqI 1 4=false from rfl,show eqI 1 5=false from rfl,show eqI 1 6=false from rfl,show eqI 1 7=false from rfl,show eqI 1 8=false from rfl,show eqI 1 9=false from rfl,show eqI 1 10=false from rfl,show eqI 1 11=false from rfl,show eqI 1 12=false from rfl,show eqI 1 13=false from rfl,show eqI 1 14=false from rfl,show eqI 1 15=false from rfl,show eqI 1 16=false from rfl,show eqI 1 17=false from rfl,show eqI 1 18=false from rfl,show eqI 1 19=false from rfl,a1,a2,q_9,aT,bB,dY,q_f,q_5,cond_true,cond_false,aD,bO,wz,bL,cQ,aZ,cS,qt,q_3,q_6,true_and,forall_const,q_1,q_2,false_implies,and_true,implies_true]
  exact Alike.of ((xK _ _).trans (j0 _ _ _))
 ·obtain⟨a1,a2⟩:=b46 (pc:=pc) (w:=w) (s:=s) (h:=h) hr hb hi e;simp only[aB,aI,aA,gS,fQ,f7,fJ,gR,gQ,fZ,gP,gO,iB,iA,hZ,hY,hX,hU,hK,hJ,bY,fI,bW,gN,gM,fP,gL,fY,gK,fX,jS,fL,jR,jQ,iM,iX,jP,iW,jO,jN,oX,pI,pN,oY,jY,mG,lT,lB,eS,eV,aX,cK,aW,bK,aV,aR,jC,e,show eqI 2 1=false from rfl,show eqI 2 2=true from rfl,show eqI 2 3=false from rfl,show eqI 2 4=false from rfl,show eqI 2 5=false from rfl,show eqI 2 6=false from rfl,show eqI 2 7=false from rfl,show eqI 2 8=false from rfl,show eqI 2 9=false from rfl,show eqI 2 10=false from rfl,show eqI 2 11=false from rfl,show eqI 2 12=false from rfl,show eqI 2 13=false from rfl,show eqI 2 14=false from rfl,show eqI 2 15=false from rfl,show eqI 2 16=false from rfl,show eqI 2 17=false from rfl,show eqI 2 18=false from rfl,show eqI 2 19=false from rfl,a1,a2,q_9,aT,bB,dY,q_f,q_5,cond_true,cond_false,aD,bO,wz,bL,cQ,aZ,cS,qt,q_3,q_6,true_and,forall_const,q_1,q_2,false_implies,and_true,implies_true]
  exact Alike.of (aYD _ _)
 ·obtain⟨a1,a2⟩:=aOF (pc:=pc) (w:=w) (s:=s) (h:=h) hr hb hi (by unfold qK;omega)
  simp only[aB,aI,aA,gS,fQ,f7,fJ,gR,gQ,fZ,gP,gO,iB,iA,hZ,hY,hX,hU,hK,hJ,bY,fI,bW,gN,gM,fP,gL,fY,gK,fX,jS,fL,jR,jQ,iM,iX,jP,iW,jO,jN,oX,pI,pN,oY,jY,mG,lT,lB,eS,eV,aX,cK,aW,bK,aV,aR,jC,e,show eqI 3 1=false from rfl,show eqI 3 2=false from rfl,show eqI 3 3=true from rfl,show eqI 3 4=false from rfl,show eqI 3 5=false from rfl,show eqI 3 6=false from rfl,show eqI 3 7=false from rfl,show eqI 3 8=false from rfl,show eqI 3 9=false from rfl,show eqI 3 10=false from rfl,show eqI 3 11=false from rfl,show eqI 3 12=false from rfl,show eqI 3 13=false from rfl,show eqI 3 14=false from rfl,show eqI 3 15=false from rfl,show eqI 3 16=false from rfl,show eqI 3 17=false from rfl,show eqI 3 18=false from rfl,show eqI 3 19=false from rfl,a1,a2,q_9,aT,bB,dY,q_f,q_5,cond_true,cond_false,aD,bO,wz,bL,cQ,aZ,cS,qt,q_3,q_6,true_and,forall_const,q_1,q_2,false_implies,and_true,implies_true]
  exact Alike.of ((xK _ _).trans (j0 _ _ _))
 ·obtain⟨a1,a2⟩:=aOF (pc:=pc) (w:=w) (s:=s) (h:=h) hr hb hi (by unfold qK;omega)
  simp only[aB,aI,aA,gS,fQ,f7,fJ,gR,gQ,fZ,gP,gO,iB,iA,hZ,hY,hX,hU,hK,hJ,bY,fI,bW,gN,gM,fP,gL,fY,gK,fX,jS,fL,jR,jQ,iM,iX,jP,iW,jO,jN,oX,pI,pN,oY,jY,mG,lT,lB,eS,eV,aX,cK,aW,bK,aV,aR,jC,e,show eqI 4 1=false from rfl,show eqI 4 2=false from rfl,show eqI 4 3=false from rfl,show eqI 4 4=true from rfl,show eqI 4 5=false from rfl,show eqI 4 6=false from rfl,show eqI 4 7=false from rfl,show eqI 4 8=false from rfl,show eqI 4 9=false from rfl,show eqI 4 10=false from rfl,show eqI 4 11=false from rfl,show eqI 4 12=false from rfl,show eqI 4 13=false from rfl,show eqI 4 14=false from rfl,show eqI 4 15=false from rfl,show eqI 4 16=false from rfl,show eqI 4 17=false from rfl,show eqI 4 18=false from rfl,show eqI 4 19=false from rfl,a1,a2,q_9,aT,bB,dY,q_f,q_5,cond_true,cond_false,aD,bO,wz,bL,cQ,aZ,cS,qt,q_3,q_6,true_and,forall_const,q_1,q_2,false_implies,and_true,implies_true]
  exact Alike.of ((xK _ _).trans (j0 _ _ _))
 ·obtain⟨a1,a2⟩:=aOF (pc:=pc) (w:=w) (s:=s) (h:=h) hr hb hi (by unfold qK;omega)
  simp only[aB,aI,aA,gS,fQ,f7,fJ,gR,gQ,fZ,gP,gO,iB,iA,hZ,hY,hX,hU,hK,hJ,bY,fI,bW,gN,gM,fP,gL,fY,gK,fX,jS,fL,jR,jQ,iM,iX,jP,iW,jO,jN,oX,pI,pN,oY,jY,mG,lT,lB,eS,eV,aX,cK,aW,bK,aV,aR,jC,e,show eqI 5 1=false from rfl,show eqI 5 2=false from rfl,show eqI 5 3=false from rfl,show eqI 5 4=false from rfl,show eqI 5 5=true from rfl,show eqI 5 6=false from rfl,show eqI 5 7=false from rfl,show eqI 5 8=false from rfl,show eqI 5 9=false from rfl,show eqI 5 10=false from rfl,show eqI 5 11=false from rfl,show eqI 5 12=false from rfl,show eqI 5 13=false from rfl,show eqI 5 14=false from rfl,show eqI 5 15=false from rfl,show eqI 5 16=false from rfl,show eqI 5 17=false from rfl,show eqI 5 18=false from rfl,show eqI 5 19=false from rfl,a1,a2,q_9,aT,bB,dY,q_f,q_5,cond_true,cond_false,aD,bO,wz,bL,cQ,aZ,cS,qt,q_3,q_6,true_and,forall_const,q_1,q_2,false_implies,and_true,implies_true]
  exact Alike.of ((xK _ _).trans (j0 _ _ _))
 ·obtain⟨a1,a2⟩:=aOF (pc:=pc) (w:=w) (s:=s) (h:=h) hr hb hi (by unfold qK;omega)
  simp only[aB,aI,aA,gS,fQ,f7,fJ,gR,gQ,fZ,gP,gO,iB,iA,hZ,hY,hX,hU,hK,hJ,bY,fI,bW,gN,gM,fP,gL,fY,gK,fX,jS,fL,jR,jQ,iM,iX,jP,iW,jO,jN,oX,pI,pN,oY,jY,mG,lT,lB,eS,eV,aX,cK,aW,bK,aV,aR,jC,e,show eqI 6 1=false from rfl,show eqI 6 2=false from rfl,show eqI 6 3=false from rfl,show eqI 6 4=false from rfl,show eqI 6 5=false from rfl,show eqI 6 6=true from rfl,show eqI 6 7=false from rfl,show eqI 6 8=false from rfl,show eqI 6 9=false from rfl,show eqI 6 10=false from rfl,show eqI 6 11=false from rfl,show eqI 6 12=false from rfl,show eqI 6 13=false from rfl,show eqI 6 14=false from rfl,show eqI 6 15=false from rfl,show eqI 6 16=false from rfl,show eqI 6 17=false from rfl,show eqI 6 18=false from rfl,show eqI 6 19=false from rfl,a1,a2,q_9,aT,bB,dY,q_f,q_5,cond_true,cond_false,aD,bO,wz,bL,cQ,aZ,cS,qt,q_3,q_6,true_and,forall_const,q_1,q_2,false_implies,and_true,implies_true]
  exact Alike.of ((xK _ _).trans (j0 _ _ _))
 ·obtain⟨a1,a2⟩:=aOF (pc:=pc) (w:=w) (s:=s) (h:=h) hr hb hi (by unfold qK;omega)
  simp only[aB,aI,aA,gS,fQ,f7,fJ,gR,gQ,fZ,gP,gO,iB,iA,hZ,hY,hX,hU,hK,hJ,bY,fI,bW,gN,gM,fP,gL,fY,gK,fX,jS,fL,jR,jQ,iM,iX,jP,iW,jO,jN,oX,pI,pN,oY,jY,mG,lT,lB,eS,eV,aX,cK,aW,bK,aV,aR,jC,e,show eqI 7 1=false from rfl,show eqI 7 2=false from rfl,show eqI 7 3=false from rfl,show eqI 7 4=false from rfl,show eqI 7 5=false from rfl,show eqI 7 6=false from rfl,show eqI 7 7=true from rfl,show eqI 7 8=false from rfl,show eqI 7 9=false from rfl,show eqI 7 10=false from rfl,show eqI 7 11=false from rfl,show eqI 7 12=false from rfl,show eqI 7 13=false from rfl,show eqI 7 14=false from rfl,show eqI 7 15=false from rfl,show eqI 7 16=false from rfl,show eqI 7 17=false from rfl,show eqI 7 18=false from rfl,show eqI 7 19=false from rfl,a1,a2,q_9,aT,bB,dY,q_f,q_5,cond_true,cond_false,aD,bO,wz,bL,cQ,aZ,cS,qt,q_3,q_6,true_and,forall_const,q_1,q_2,false_implies,and_true,implies_true]
  exact Alike.of ((xK _ _).trans (j0 _ _ _))
 ·obtain⟨a1,a2⟩:=aOF (pc:=pc) (w:=w) (s:=s) (h:=h) hr hb hi (by unfold qK;omega)
  simp only[aB,aI,aA,gS,fQ,f7,fJ,gR,gQ,fZ,gP,gO,iB,iA,hZ,hY,hX,hU,hK,hJ,bY,fI,bW,gN,gM,fP,gL,fY,gK,fX,jS,fL,jR,jQ,iM,iX,jP,iW,jO,jN,oX,pI,pN,oY,jY,mG,lT,lB,eS,eV,aX,cK,aW,bK,aV,aR,jC,e,show eqI 8 1=false from rfl,show eqI 8 2=false from rfl,show eqI 8 3=false from rfl,show eqI 8 4=false from rfl,show eqI 8 5=false from rfl,show eqI 8 6=false from rfl,show eqI 8 7=false from rfl,show eqI 8 8=true from rfl,show eqI 8 9=false from rfl,show eqI 8 10=false from rfl,show eqI 8 11=false from rfl,show eqI 8 12=false from rfl,show eqI 8 13=false from rfl,show eqI 8 14=false from rfl,show eqI 8 15=false from rfl,show eqI 8 16=false from rfl,show eqI 8 17=false from rfl,show eqI 8 18=false from rfl,show eqI 8 19=false from rfl,a1,a2,q_9,aT,bB,dY,q_f,q_5,cond_true,cond_false,aD,bO,wz,bL,cQ,aZ,cS,qt,q_3,q_6,true_and,forall_const,q_1,q_2,false_implies,and_true,implies_true]
  exact Alike.of ((xK _ _).trans (j0 _ _ _))
 ·have hk:=hi.kb;rw[cH0 e]at hk;have hsz:=eC.1 (aE0 hk).1;obtain⟨a1,a2⟩:=aOE (pc:=pc) (w:=w) (s:=s) (h:=h) hr hb hi.hs hi.ho;rw[hsz]at a2;obtain⟨r3,r4,r5⟩:=rT hm V8 hi.ho oV oV;have rs:=j0 (mq r zs l s pc w) 2 x.Ea;generalize dU (mq r zs l s pc w) 2 x.Ea=Q at a2 r3 r4 r5 rs;obtain⟨Q1,v,a⟩:=Q;dsimp only at a2 r3 r4 r5 rs;obtain⟨z1,z2,z3,z4,z5⟩:=gG (v:=0) r3.r.a4 hi.hr;rw[q_9]at z1 z2 z5;have eR:(dR x pc w h Q1).2.R=Q1.r.g:=rfl;have eB:(dR x pc w h Q1).2.Bus=pA Q1.zs Q1.l:=rfl;simp only[aB,aI,aA,gS,fQ,f7,fJ,gR,gQ,fZ,gP,gO,iB,iA,hZ,hY,hX,hU,hK,hJ,bY,fI,bW,gN,gM,fP,gL,fY,gK,fX,jS,fL,jR,jQ,iM,iX,jP,iW,jO,jN,oX,pI,pN,oY,jY,mG,lT,lB,eS,eV,aX,cK,aW,bK,aV,aR,jC,e,show eqI 9 1=false from rfl,show eqI 9 2=false from rfl,show eqI 9 3=false from rfl,show eqI 9 4=false from rfl,show eqI 9 5=false from rfl,show eqI 9 6=false from rfl,show eqI 9 7=false from rfl,show eqI 9 8=false from rfl,show eqI 9 9=true from rfl,show eqI 9 10=false from rfl,show eqI 9 11=false from rfl,show eqI 9 12=false from rfl,show eqI 9 13=false from rfl,show eqI 9 14=false from rfl,show eqI 9 15=false from rfl,show eqI 9 16=false from rfl,show eqI 9 17=false from rfl,show eqI 9 18=false from rfl,show eqI 9 19=false from rfl,a1,a2,eR,eB,y1,y2,y3,y4,y5,z1,z2,z3,z4,z5,q_9,aT,bB,dY,q_f,q_5,cond_true,cond_false,aD,bO,wz,bL,cQ,aZ,cS,qt,q_3,q_6,true_and,forall_const,q_1,q_2,false_implies,and_true,implies_true]
  unfold Y7;refine⟨{Q1.r with a:=Q1.r.a.set x.Reg.toNat v},Q1.stop,fun hf=>?_,fun _=>rs,?_⟩
  ·dsimp only at hf⊢;cases hq:cF Q1
   ·rw[hq,cond_false,hq]at hf;cases hf
   ·exact⟨rfl,rfl⟩
  ·dsimp only;cases hq:cF Q1<;>rfl
 ·have hk:=hi.kb;rw[b5E e]at hk;obtain⟨hk1,hk2⟩:=aE0 hk;have hsz:=eC.1 (aE0 hk1).1;have hmm:=WK hk2;obtain⟨m0,m1,-,-⟩:=QI hmm;obtain⟨p1,p2⟩:=WJ hr hi.hs hi.ho hmm;obtain⟨p3,p4⟩:=rQ (s:=x.Size) hr hi.ho;have sp:kO (mq r zs l s pc w) 2 x.Ea=(mq (bU r x.Size x.Ea).1 zs l s pc w,(bU r x.Size x.Ea).2):=by unfold kO;rw[m0,hsz];rfl
  rw[sp];obtain⟨z1,z2,z3,z4,z5⟩:=gG (v:=0) p3.a4 hi.hr;rw[q_9]at z1 z2 z5;simp only[aB,aI,aA,gS,fQ,f7,fJ,gR,gQ,fZ,gP,gO,iB,iA,hZ,hY,hX,hU,hK,hJ,bY,fI,bW,gN,gM,fP,gL,fY,gK,fX,jS,fL,jR,jQ,iM,iX,jP,iW,jO,jN,oX,pI,pN,oY,jY,mG,lT,lB,eS,eV,aX,cK,aW,bK,aV,aR,jC,e,show eqI 10 1=false from rfl,show eqI 10 2=false from rfl,show eqI 10 3=false from rfl,show eqI 10 4=false from rfl,show eqI 10 5=false from rfl,show eqI 10 6=false from rfl,show eqI 10 7=false from rfl,show eqI 10 8=false from rfl,show eqI 10 9=false from rfl,show eqI 10 10=true from rfl,show eqI 10 11=false from rfl,show eqI 10 12=false from rfl,show eqI 10 13=false from rfl,show eqI 10 14=false from rfl,show eqI 10 15=false from rfl,show eqI 10 16=false from rfl,show eqI 10 17=false from rfl,show eqI 10 18=false from rfl,show eqI 10 19=false from rfl,p1,p2,y1,y2,y3,y4,y5,z1,z2,z3,z4,z5,q_9,aT,bB,dY,q_f,q_5,cond_true,cond_false,aD,bO,wz,bL,cQ,aZ,cS,qt,q_3,q_6,true_and,forall_const,q_1,q_2,false_implies,and_true,implies_true]
  unfold bGQ;exact Alike.of (J:={mq (bU r x.Size x.Ea).1 zs l s pc w with r:={(bU r x.Size x.Ea).1 with a:=(bU r x.Size x.Ea).1.a.set x.Reg.toNat (bU r x.Size x.Ea).2}}) rfl
 ·obtain⟨a1,a2⟩:=cHX (pc:=pc) (w:=w) (s:=s) (h:=h) hr hb hi e;simp only[aB,aI,aA,gS,fQ,f7,fJ,gR,gQ,fZ,gP,gO,iB,iA,hZ,hY,hX,hU,hK,hJ,bY,fI,bW,gN,gM,fP,gL,fY,gK,fX,jS,fL,jR,jQ,iM,iX,jP,iW,jO,jN,oX,pI,pN,oY,jY,mG,lT,lB,eS,eV,aX,cK,aW,bK,aV,aR,jC,e,show eqI 11 1=false from rfl,show eqI 11 2=false from rfl,show eqI 11 3=false from rfl,show eqI 11 4=false from rfl,show eqI 11 5=false from rfl,show eqI 11 6=false from rfl,show eqI 11 7=false from rfl,show eqI 11 8=false from rfl,show eqI 11 9=false from rfl,show eqI 11 10=false from rfl,show eqI 11 11=true from rfl,show eqI 11 12=false from rfl,show eqI 11 13=false from rfl,show eqI 11 14=false from rfl,show eqI 11 15=false from rfl,show eqI 11 16=false from rfl,show eqI 11 17=false from rfl,show eqI 11 18=false from rfl,show eqI 11 19=false from rfl,a1,a2,q_9,aT,bB,dY,q_f,q_5,cond_true,cond_false,aD,bO,wz,bL,cQ,aZ,cS,qt,q_3,q_6,true_and,forall_const,q_1,q_2,false_implies,and_true,implies_true]
  exact Alike.of (a9O _ _)
 ·obtain⟨l1,l2⟩:=aG9 (pc:=pc) (w:=w) (f:=f0) (zs:=zs) (l:=l) (s:=s) (h:=h) hr hi.hs hi.hr;have hv:=iP (s:=x.Size) (v:=cX r.d x.Reg) hi.hs;have her:=aU.1 hi.ho.hr;have ea:bE x.Ea.Reg 1=x.Ea.Reg+1:=bV (by omega)
  obtain⟨b1,b2⟩:=byJ (k:=x.Sub) (f:=r.fl) (c:=x.Ea.Reg+1) hi.hs hv hr.fw hi.hb (by omega) (by omega)
  obtain⟨-,o1,o2⟩:=a8V hm hi;have lv:=kM hi.hs o1;obtain⟨p1,p2⟩:=a9J (v:=(shV (mq r zs l s pc w) x).1) hr hi.hs hi.hr (fun z=>by have:=lv.2.2 z;omega)
  have ev:aGK x.Sub x.Size r.fl (cX r.d x.Reg%cD x.Size) (x.Ea.Reg+1)=shV (mq r zs l s pc w) x:=rfl;rw[ev]at b2;simp only[aB,aI,aA,gS,fQ,f7,fJ,gR,gQ,fZ,gP,gO,iB,iA,hZ,hY,hX,hU,hK,hJ,bY,fI,bW,gN,gM,fP,gL,fY,gK,fX,jS,fL,jR,jQ,iM,iX,jP,iW,jO,jN,oX,pI,pN,oY,jY,mG,lT,lB,eS,eV,aX,cK,aW,bK,aV,aR,jC,e,show eqI 12 1=false from rfl,show eqI 12 2=false from rfl,show eqI 12 3=false from rfl,show eqI 12 4=false from rfl,show eqI 12 5=false from rfl,show eqI 12 6=false from rfl,show eqI 12 7=false from rfl,show eqI 12 8=false from rfl,show eqI 12 9=false from rfl,show eqI 12 10=false from rfl,show eqI 12 11=false from rfl,show eqI 12 12=true from rfl,show eqI 12 13=false from rfl,show eqI 12 14=false from rfl,show eqI 12 15=false from rfl,show eqI 12 16=false from rfl,show eqI 12 17=false from rfl,show eqI 12 18=false from rfl,show eqI 12 19=false from rfl,l1,l2,ea,b1,b2,p1,p2,q_9,aT,bB,dY,q_f,q_5,cond_true,cond_false,aD,bO,wz,bL,cQ,aZ,cS,qt,q_3,q_6,true_and,forall_const,q_1,q_2,false_implies,and_true,implies_true]
  exact Alike.of (J:=aEO (mq r zs l s pc w) x) rfl
 ·have ec:bE x.Sub (dE 8 x.Reg)=x.Sub+8*x.Reg:=by rw[gU (by omega),bV (by omega)]
  obtain⟨c1,c2⟩:=b42 (c:=x.Sub+8*x.Reg) (f:=r.fl) (by rw[aU];omega)
  have hp':=aU.1 hp;have hx:=aU.1 hi.ho.he;have ep:bF (bE (bE pc 2) x.Ea.Ext) 65535=(pc+2+x.Ea.Ext)%65536:=by rw[bV (x:=pc) (by omega),bV (by omega),rX]
  simp only[aB,aI,aA,gS,fQ,f7,fJ,gR,gQ,fZ,gP,gO,iB,iA,hZ,hY,hX,hU,hK,hJ,bY,fI,bW,gN,gM,fP,gL,fY,gK,fX,jS,fL,jR,jQ,iM,iX,jP,iW,jO,jN,oX,pI,pN,oY,jY,mG,lT,lB,eS,eV,aX,cK,aW,bK,aV,aR,jC,e,show eqI 13 1=false from rfl,show eqI 13 2=false from rfl,show eqI 13 3=false from rfl,show eqI 13 4=false from rfl,show eqI 13 5=false from rfl,show eqI 13 6=false from rfl,show eqI 13 7=false from rfl,show eqI 13 8=false from rfl,show eqI 13 9=false from rfl,show eqI 13 10=false from rfl,show eqI 13 11=false from rfl,show eqI 13 12=false from rfl,show eqI 13 13=true from rfl,show eqI 13 14=false from rfl,show eqI 13 15=false from rfl,show eqI 13 16=false from rfl,show eqI 13 17=false from rfl,show eqI 13 18=false from rfl,show eqI 13 19=false from rfl,ec,c1,c2,ep,q_9,aT,bB,dY,q_f,q_5,cond_true,cond_false,aD,bO,wz,bL,cQ,aZ,cS,qt,q_3,q_6,true_and,forall_const,q_1,q_2,false_implies,and_true,implies_true]
  unfold AV;rw[e,show eqI 13 13=true from rfl,cond_true]
  rw[show(mq r zs l s pc w).r=r from rfl]
  refine⟨fun z=>?_,fun z=>?_⟩
  ·rw[z,cond_true];exact Alike.of (J:={mq r zs l s pc w with r:={r with pc:=(pc+2+x.Ea.Ext)%65536}}) rfl
  ·rw[z,cond_false];exact Alike.of (J:=mq r zs l s pc w) rfl
 ·obtain⟨a1,a2⟩:=b5B (w:=w) (s:=s) (h:=h) hr hb hg e hp hpc;simp only[aB,aI,aA,gS,fQ,f7,fJ,gR,gQ,fZ,gP,gO,iB,iA,hZ,hY,hX,hU,hK,hJ,bY,fI,bW,gN,gM,fP,gL,fY,gK,fX,jS,fL,jR,jQ,iM,iX,jP,iW,jO,jN,oX,pI,pN,oY,jY,mG,lT,lB,eS,eV,aX,cK,aW,bK,aV,aR,jC,e,show eqI 14 1=false from rfl,show eqI 14 2=false from rfl,show eqI 14 3=false from rfl,show eqI 14 4=false from rfl,show eqI 14 5=false from rfl,show eqI 14 6=false from rfl,show eqI 14 7=false from rfl,show eqI 14 8=false from rfl,show eqI 14 9=false from rfl,show eqI 14 10=false from rfl,show eqI 14 11=false from rfl,show eqI 14 12=false from rfl,show eqI 14 13=false from rfl,show eqI 14 14=true from rfl,show eqI 14 15=false from rfl,show eqI 14 16=false from rfl,show eqI 14 17=false from rfl,show eqI 14 18=false from rfl,show eqI 14 19=false from rfl,a1,q_9,aT,bB,dY,q_f,q_5,cond_true,cond_false,aD,bO,wz,bL,cQ,aZ,cS,qt,q_3,q_6,true_and,forall_const,q_1,q_2,false_implies,and_true,implies_true]
  exact a2
 ·obtain⟨a1,a2⟩:=b5D (w:=w) (s:=s) (h:=h) hr hb hg e hp hpc;simp only[aB,aI,aA,gS,fQ,f7,fJ,gR,gQ,fZ,gP,gO,iB,iA,hZ,hY,hX,hU,hK,hJ,bY,fI,bW,gN,gM,fP,gL,fY,gK,fX,jS,fL,jR,jQ,iM,iX,jP,iW,jO,jN,oX,pI,pN,oY,jY,mG,lT,lB,eS,eV,aX,cK,aW,bK,aV,aR,jC,e,show eqI 15 1=false from rfl,show eqI 15 2=false from rfl,show eqI 15 3=false from rfl,show eqI 15 4=false from rfl,show eqI 15 5=false from rfl,show eqI 15 6=false from rfl,show eqI 15 7=false from rfl,show eqI 15 8=false from rfl,show eqI 15 9=false from rfl,show eqI 15 10=false from rfl,show eqI 15 11=false from rfl,show eqI 15 12=false from rfl,show eqI 15 13=false from rfl,show eqI 15 14=false from rfl,show eqI 15 15=true from rfl,show eqI 15 16=false from rfl,show eqI 15 17=false from rfl,show eqI 15 18=false from rfl,show eqI 15 19=false from rfl,a1,q_9,aT,bB,dY,q_f,q_5,cond_true,cond_false,aD,bO,wz,bL,cQ,aZ,cS,qt,q_3,q_6,true_and,forall_const,q_1,q_2,false_implies,and_true,implies_true]
  exact a2
 ·obtain⟨a1,a2⟩:=a9N (w:=w) (s:=s) (h:=h) hr hb hg (by omega) hp hpc
  simp only[aB,aI,aA,gS,fQ,f7,fJ,gR,gQ,fZ,gP,gO,iB,iA,hZ,hY,hX,hU,hK,hJ,bY,fI,bW,gN,gM,fP,gL,fY,gK,fX,jS,fL,jR,jQ,iM,iX,jP,iW,jO,jN,oX,pI,pN,oY,jY,mG,lT,lB,eS,eV,aX,cK,aW,bK,aV,aR,jC,e,show eqI 16 1=false from rfl,show eqI 16 2=false from rfl,show eqI 16 3=false from rfl,show eqI 16 4=false from rfl,show eqI 16 5=false from rfl,show eqI 16 6=false from rfl,show eqI 16 7=false from rfl,show eqI 16 8=false from rfl,show eqI 16 9=false from rfl,show eqI 16 10=false from rfl,show eqI 16 11=false from rfl,show eqI 16 12=false from rfl,show eqI 16 13=false from rfl,show eqI 16 14=false from rfl,show eqI 16 15=false from rfl,show eqI 16 16=true from rfl,show eqI 16 17=false from rfl,show eqI 16 18=false from rfl,show eqI 16 19=false from rfl,a1,a2,q_9,aT,bB,dY,q_f,q_5,cond_true,cond_false,aD,bO,wz,bL,cQ,aZ,cS,qt,q_3,q_6,true_and,forall_const,q_1,q_2,false_implies,and_true,implies_true]
  exact Alike.of (LQ _ _)
 ·obtain⟨a1,a2⟩:=a9N (w:=w) (s:=s) (h:=h) hr hb hg (by omega) hp hpc
  simp only[aB,aI,aA,gS,fQ,f7,fJ,gR,gQ,fZ,gP,gO,iB,iA,hZ,hY,hX,hU,hK,hJ,bY,fI,bW,gN,gM,fP,gL,fY,gK,fX,jS,fL,jR,jQ,iM,iX,jP,iW,jO,jN,oX,pI,pN,oY,jY,mG,lT,lB,eS,eV,aX,cK,aW,bK,aV,aR,jC,e,show eqI 17 1=false from rfl,show eqI 17 2=false from rfl,show eqI 17 3=false from rfl,show eqI 17 4=false from rfl,show eqI 17 5=false from rfl,show eqI 17 6=false from rfl,show eqI 17 7=false from rfl,show eqI 17 8=false from rfl,show eqI 17 9=false from rfl,show eqI 17 10=false from rfl,show eqI 17 11=false from rfl,show eqI 17 12=false from rfl,show eqI 17 13=false from rfl,show eqI 17 14=false from rfl,show eqI 17 15=false from rfl,show eqI 17 16=false from rfl,show eqI 17 17=true from rfl,show eqI 17 18=false from rfl,show eqI 17 19=false from rfl,a1,a2,q_9,aT,bB,dY,q_f,q_5,cond_true,cond_false,aD,bO,wz,bL,cQ,aZ,cS,qt,q_3,q_6,true_and,forall_const,q_1,q_2,false_implies,and_true,implies_true]
  exact Alike.of (LQ _ _)
 ·obtain⟨a1,a2⟩:=cHZ (pc:=pc) (w:=w) (s:=s) (h:=h) hr hb hg;simp only[aB,aI,aA,gS,fQ,f7,fJ,gR,gQ,fZ,gP,gO,iB,iA,hZ,hY,hX,hU,hK,hJ,bY,fI,bW,gN,gM,fP,gL,fY,gK,fX,jS,fL,jR,jQ,iM,iX,jP,iW,jO,jN,oX,pI,pN,oY,jY,mG,lT,lB,eS,eV,aX,cK,aW,bK,aV,aR,jC,e,show eqI 18 1=false from rfl,show eqI 18 2=false from rfl,show eqI 18 3=false from rfl,show eqI 18 4=false from rfl,show eqI 18 5=false from rfl,show eqI 18 6=false from rfl,show eqI 18 7=false from rfl,show eqI 18 8=false from rfl,show eqI 18 9=false from rfl,show eqI 18 10=false from rfl,show eqI 18 11=false from rfl,show eqI 18 12=false from rfl,show eqI 18 13=false from rfl,show eqI 18 14=false from rfl,show eqI 18 15=false from rfl,show eqI 18 16=false from rfl,show eqI 18 17=false from rfl,show eqI 18 18=true from rfl,show eqI 18 19=false from rfl,a1,a2,q_9,aT,bB,dY,q_f,q_5,cond_true,cond_false,aD,bO,wz,bL,cQ,aZ,cS,qt,q_3,q_6,true_and,forall_const,q_1,q_2,false_implies,and_true,implies_true]
  exact Alike.of (a9P _ _)
 ·obtain⟨g1,g2⟩:=a9B hr;cases hs0:eqI x.Sub 0
  ·simp only[aB,aI,aA,gS,fQ,f7,fJ,gR,gQ,fZ,gP,gO,iB,iA,hZ,hY,hX,hU,hK,hJ,bY,fI,bW,gN,gM,fP,gL,fY,gK,fX,jS,fL,jR,jQ,iM,iX,jP,iW,jO,jN,oX,pI,pN,oY,jY,mG,lT,lB,eS,eV,aX,cK,aW,bK,aV,aR,jC,e,show eqI 19 1=false from rfl,show eqI 19 2=false from rfl,show eqI 19 3=false from rfl,show eqI 19 4=false from rfl,show eqI 19 5=false from rfl,show eqI 19 6=false from rfl,show eqI 19 7=false from rfl,show eqI 19 8=false from rfl,show eqI 19 9=false from rfl,show eqI 19 10=false from rfl,show eqI 19 11=false from rfl,show eqI 19 12=false from rfl,show eqI 19 13=false from rfl,show eqI 19 14=false from rfl,show eqI 19 15=false from rfl,show eqI 19 16=false from rfl,show eqI 19 17=false from rfl,show eqI 19 18=false from rfl,show eqI 19 19=true from rfl,hs0,g1,g2,t1,t2,t3,t4,t5,q_9,aT,bB,dY,q_f,q_5,cond_true,cond_false,aD,bO,wz,bL,cQ,aZ,cS,qt,q_3,q_6,true_and,forall_const,q_1,q_2,false_implies,and_true,implies_true]
   unfold V9;rw[hs0,cond_false];exact Alike.of (J:={mq r zs l s pc w with r:={r with d:=r.d.set x.Reg.toNat (fR r)}}) rfl
  ·obtain⟨u1,u2⟩:=aET hr (Y9 hi e (eC.1 hs0));simp only[aB,aI,aA,gS,fQ,f7,fJ,gR,gQ,fZ,gP,gO,iB,iA,hZ,hY,hX,hU,hK,hJ,bY,fI,bW,gN,gM,fP,gL,fY,gK,fX,jS,fL,jR,jQ,iM,iX,jP,iW,jO,jN,oX,pI,pN,oY,jY,mG,lT,lB,eS,eV,aX,cK,aW,bK,aV,aR,jC,e,show eqI 19 1=false from rfl,show eqI 19 2=false from rfl,show eqI 19 3=false from rfl,show eqI 19 4=false from rfl,show eqI 19 5=false from rfl,show eqI 19 6=false from rfl,show eqI 19 7=false from rfl,show eqI 19 8=false from rfl,show eqI 19 9=false from rfl,show eqI 19 10=false from rfl,show eqI 19 11=false from rfl,show eqI 19 12=false from rfl,show eqI 19 13=false from rfl,show eqI 19 14=false from rfl,show eqI 19 15=false from rfl,show eqI 19 16=false from rfl,show eqI 19 17=false from rfl,show eqI 19 18=false from rfl,show eqI 19 19=true from rfl,hs0,u1,u2,q_9,aT,bB,dY,q_f,q_5,cond_true,cond_false,aD,bO,wz,bL,cQ,aZ,cS,qt,q_3,q_6,true_and,forall_const,q_1,q_2,false_implies,and_true,implies_true]
   unfold V9;rw[hs0,cond_true];exact Alike.of (J:={mq r zs l s pc w with r:=dS r x.Ea.Ext}) rfl
end Go.Proofs.YtdipcnijfkdnfaaGreatWhole

namespace Go.Proofs.YtdipcnijfkdnfaaGreatWhole
open Go Go.Zq
set_option maxHeartbeats 4000000
set_option maxRecDepth 100000
theorem a9Q{k a v:Int}{sz:Int}{r:RM}{zs:List Int}{l:List aE}{s:Bool}{pc w:Int}(hb:BusOk zs l)(hs:sz=1∨sz=2)(hv:dK sz v=true)(ha:cJ a 0 65535=true)(h0:eqI k 2=false)(h00:v=0):H7 k sz a v (pA zs l)=true∧KI k sz a v (pA zs l)=(pA (cU (mq r zs l s pc w) k sz a v).1.zs (cU (mq r zs l s pc w) k sz a v).1.l,(cU (mq r zs l s pc w) k sz a v).2,cW k sz a):=by
 obtain⟨a1,a2⟩:=FY (k:=k) (a:=a) (⟨hs,hv,hb.hz,hb.hb,hb.hl⟩:TouchOk sz v zs l) ha (fun _=>h00)
 rw[h0]at a2;exact⟨a1,a2⟩
theorem aHE(r:RM)(zs:List Int)(l:List aE)(s:Bool)(pc w k sz a v:Int):(cU (mq r zs l s pc w) k sz a v).1.r=r∧(cU (mq r zs l s pc w) k sz a v).1.stop=s:=⟨rfl,rfl⟩
def zI:aS:=⟨0,0,0,⟨0,0,0⟩,0⟩
structure Fet(r:RM)(s:Bool)(F:MM×aS×Int):Prop where
 hr:F.1.r=r
 hs:F.1.stop=s
 hb:BusOk F.1.zs F.1.l
 ok:cF F.1=true→ ∃wd,F.1=mq r F.1.zs F.1.l s r.pc wd∧lD F.2.1=true∧W F.2.1=wd∧F.2.2=((CC F.2.1).length:Int)
theorem aUW{w e:Int}:((CC (xI w e)).length:Int)=qJ w:=by
 unfold CC qJ LF xI;dsimp only;cases geI (w/32%8) 5<;>rfl
theorem bQI{r:RM}{zs:List Int}{l:List aE}{s h:Bool}(hr:r.Ok 65535)(hb:BusOk zs l):(bK6 (bP r zs l s h)=true∧ ∃wd,KJ (bP r zs l s h)=(bP r (mF (mm r zs l s)).1.zs (mF (mm r zs l s)).1.l s h,(mF (mm r zs l s)).2.1,(mF (mm r zs l s)).2.2,wd,dF (mF (mm r zs l s)).1))∧Fet r s (mF (mm r zs l s)):=by
 have hp:=aU.1 hr.pw;obtain⟨a1,a2⟩:=a9Q (k:=3) (sz:=2) (v:=0) (r:=r) (s:=s) (pc:=r.pc) (w:=0) hb V8 (by decide) hr.pw rfl rfl
 obtain⟨b1,b2⟩:=GB (s:=s) (pc:=r.pc) (w:=0) (k:=3) (v:=0) hr hb V8 (by decide) hr.pw (by decide)
 obtain⟨c1,c2⟩:=aHE r zs l s r.pc 0 3 2 r.pc 0;have d1:=OI (pc:=r.pc) (w:=0) (r:=r) (zs:=zs) (l:=l) (s:=s) 3 2 r.pc 0;have f1:cF (cU (mq r zs l s r.pc 0) 3 2 r.pc 0).1=eqI (cW 3 2 r.pc) 0:=jZ rfl;have m1:=CH (r:=r) (zs:=zs) (l:=l) (s:=s) (pc:=r.pc) (w:=0) (k:=3) (sz:=2) (a:=r.pc) (v:=0);have ef:mF (mm r zs l s)=LI (cU (mq r zs l s r.pc 0) 3 2 r.pc 0) r.pc:=rfl;have d1:dF (cU (mq r zs l s r.pc 0) 3 2 r.pc 0).1=aEZ (cW 3 2 r.pc) r.pc (eqI 3 2) f0 r.pc 0:=d1;rw[ef];generalize cU (mq r zs l s r.pc 0) 3 2 r.pc 0=A at a1 a2 b1 b2 c1 c2 d1 f1 m1;obtain⟨A1,w1⟩:=A;dsimp only at a1 a2 b1 b2 c1 c2 d1 f1 m1;have wr:=rP b2;have hw:cJ w1 0 65535=true:=aU.2 wr;have ha:cJ ((r.pc+2)%65536) 0 65535=true:=by rw[aU];omega
 have e2:bF (bE r.pc 2) 65535=(r.pc+2)%65536:=by rw[bV (by omega),rX]
 obtain⟨p1,p2⟩:=a9Q (k:=3) (sz:=2) (v:=0) (r:=r) (s:=s) (pc:=r.pc) (w:=w1) b1 V8 (by decide) ha rfl rfl
 obtain⟨q1,q2⟩:=GB (s:=s) (pc:=r.pc) (w:=w1) (k:=3) (v:=0) hr b1 V8 (by decide) ha (by decide)
 obtain⟨u1,u2⟩:=aHE r A1.zs A1.l s r.pc w1 3 2 ((r.pc+2)%65536) 0;have d2:dF (cU (mq r A1.zs A1.l s r.pc w1) 3 2 ((r.pc+2)%65536) 0).1=aEZ (cW 3 2 ((r.pc+2)%65536)) ((r.pc+2)%65536) (eqI 3 2) f0 r.pc w1:=OI 3 2 ((r.pc+2)%65536) 0;have f2:cF (cU (mq r A1.zs A1.l s r.pc w1) 3 2 ((r.pc+2)%65536) 0).1=eqI (cW 3 2 ((r.pc+2)%65536)) 0:=jZ rfl;have m2:=CH (r:=r) (zs:=A1.zs) (l:=A1.l) (s:=s) (pc:=r.pc) (w:=w1) (k:=3) (sz:=2) (a:=(r.pc+2)%65536) (v:=0);cases hc:eqI (cW 3 2 r.pc) 0
 ·
  rw[hc]at f1;have hn:dD (cW 3 2 r.pc) 0=true:=by rw[m6,hc];rfl
  have eF:LI (A1,w1) r.pc=(A1,zI,0):=by unfold LI;rw[f1];rfl
  rw[eF];refine⟨aK (t:=H8 (bP r zs l s h)) (P:=fun q=> ∃wd,q=(bP r A1.zs A1.l s h,zI,0,wd,dF A1)) ?_,⟨c1,c2,b1,fun z=>by rw[f1]at z;cases z⟩⟩
  unfold H8;unfold aEZ at d1;rw[hc]at d1;simp only[aB,aI,aA,DX,BW,uI,pW,uH,fG,jY,mG,lT,lB,cK,a1,a2,hn,(OH _).1,(OH _).2,d1,aD,bO,wz,Bool.and_true,true_and,forall_const,Bool.true_eq_false,false_implies,and_true];exact⟨0,rfl⟩
 ·rw[hc]at f1;have hn:dD (cW 3 2 r.pc) 0=false:=by rw[m6,hc];rfl
  have m1:=m1 f1;have eA:({A1 with f:={A1.f with Word:=w1}}:MM)=mq r A1.zs A1.l s r.pc w1:=by rw[m1];rfl
  have g1: ∀e,a24 (xI w1 e)=true:=fun e=>(a8G _).1
  have g2: ∀e,a23 (xI w1 e)=lD (xI w1 e):=fun e=>(a8G _).2
  cases hl:LF w1
  ·
   have l2:eqI (qJ w1) 2=false:=by rw[aGZ,hl]
   cases hgd:lD (xI w1 0)
   ·have eF:LI (A1,w1) r.pc=({mq r A1.zs A1.l s r.pc w1 with f:={ff r.pc w1 with Vector:=4}},zI,0):=by
     unfold LI;rw[f1,hl,hgd];simp only[Bool.not_true,Bool.not_false,cond_true,cond_false];rw[m1];rfl
    rw[eF];refine⟨aK (t:=H8 (bP r zs l s h)) (P:=fun q=> ∃wd,q=(bP r A1.zs A1.l s h,zI,0,wd,(⟨4,r.pc,0,w1,false⟩:aL))) ?_,⟨rfl,rfl,b1,fun z=>by cases z⟩⟩
    unfold H8;simp only[aB,aI,aA,DX,BW,uI,pW,uH,fG,jY,mG,lT,lB,cK,a1,a2,hn,(vF _).1,(vF _).2,l2,(EN _ _).1,(EN _ _).2,g1,g2,hgd,Bool.not_false,aD,bO,wz,Bool.and_true,true_and,forall_const,Bool.true_eq_false,Bool.false_eq_true,false_implies,and_true];exact⟨0,rfl⟩
   ·have eF:LI (A1,w1) r.pc=(mq r A1.zs A1.l s r.pc w1,xI w1 0,1):=by
     unfold LI;rw[f1,hl,hgd];simp only[Bool.not_true,Bool.not_false,cond_true,cond_false];rw[m1];rfl
    rw[eF];have l1:qJ w1=1:=by unfold qJ;rw[hl];rfl
    refine⟨aK (t:=H8 (bP r zs l s h)) (P:=fun q=> ∃wd,q=(bP r A1.zs A1.l s h,xI w1 0,1,wd,f0)) ?_,⟨rfl,rfl,b1,fun _=>⟨w1,rfl,hgd,bIW hw,by rw[aUW,l1]⟩⟩⟩
    unfold H8;simp only[aB,aI,aA,DX,BW,uI,pW,uH,fG,jY,mG,lT,lB,cK,a1,a2,hn,(vF _).1,(vF _).2,l2,(EN _ _).1,(EN _ _).2,g1,g2,hgd,Bool.not_true,aD,bO,wz,Bool.and_true,true_and,forall_const,Bool.true_eq_false,Bool.false_eq_true,false_implies,and_true];exact⟨w1,by rw[l1];rfl⟩
  ·
   have l2:eqI (qJ w1) 2=true:=by rw[aGZ,hl]
   have l1:qJ w1=2:=by unfold qJ;rw[hl];rfl
   have e3:LI (A1,w1) r.pc=V2 (A1,w1) (cU (mq r A1.zs A1.l s r.pc w1) 3 2 ((r.pc+2)%65536) 0):=by
    unfold LI;rw[f1,hl];simp only[Bool.not_true,cond_true,cond_false];rw[←eA]
   rw[e3];generalize cU (mq r A1.zs A1.l s r.pc w1) 3 2 ((r.pc+2)%65536) 0=C at p1 p2 q1 q2 u1 u2 d2 f2 m2;obtain⟨C1,w2⟩:=C;dsimp only at p1 p2 q1 q2 u1 u2 d2 f2 m2;cases hc2:eqI (cW 3 2 ((r.pc+2)%65536)) 0
   ·rw[hc2]at f2;have hn2:dD (cW 3 2 ((r.pc+2)%65536)) 0=true:=by rw[m6,hc2];rfl
    have eF:V2 (A1,w1) (C1,w2)=(C1,zI,0):=by unfold V2;rw[f2];rfl
    rw[eF];refine⟨aK (t:=H8 (bP r zs l s h)) (P:=fun q=> ∃wd,q=(bP r C1.zs C1.l s h,zI,0,wd,dF C1)) ?_,⟨u1,u2,q1,fun z=>by rw[f2]at z;cases z⟩⟩
    unfold H8;unfold aEZ at d2;rw[hc2]at d2;simp only[aB,aI,aA,DX,BW,uI,pW,uH,fG,jY,mG,lT,lB,cK,a1,a2,e2,p1,p2,hn,hn2,(vF _).1,(vF _).2,l2,(OH _).1,(OH _).2,d2,aD,bO,wz,Bool.and_true,true_and,forall_const,Bool.true_eq_false,Bool.false_eq_true,false_implies,and_true];exact⟨0,rfl⟩
   ·rw[hc2]at f2;have hn2:dD (cW 3 2 ((r.pc+2)%65536)) 0=false:=by rw[m6,hc2];rfl
    have m2:=m2 f2;cases hgd:lD (xI w1 w2)
    ·have eF:V2 (A1,w1) (C1,w2)=({mq r C1.zs C1.l s r.pc w1 with f:={ff r.pc w1 with Vector:=4}},zI,0):=by
      unfold V2;dsimp only;rw[f2,hgd];simp only[Bool.not_true,Bool.not_false,cond_true,cond_false];rw[m2];rfl
     rw[eF];refine⟨aK (t:=H8 (bP r zs l s h)) (P:=fun q=> ∃wd,q=(bP r C1.zs C1.l s h,zI,0,wd,(⟨4,r.pc,0,w1,false⟩:aL))) ?_,⟨rfl,rfl,q1,fun z=>by cases z⟩⟩
     unfold H8;simp only[aB,aI,aA,DX,BW,uI,pW,uH,fG,jY,mG,lT,lB,cK,a1,a2,e2,p1,p2,hn,hn2,(vF _).1,(vF _).2,l2,(EN _ _).1,(EN _ _).2,g1,g2,hgd,Bool.not_false,aD,bO,wz,Bool.and_true,true_and,forall_const,Bool.true_eq_false,Bool.false_eq_true,false_implies,and_true];exact⟨0,rfl⟩
    ·have eF:V2 (A1,w1) (C1,w2)=(mq r C1.zs C1.l s r.pc w1,xI w1 w2,2):=by
      unfold V2;dsimp only;rw[f2,hgd];simp only[Bool.not_true,Bool.not_false,cond_true,cond_false];rw[m2];rfl
     rw[eF];refine⟨aK (t:=H8 (bP r zs l s h)) (P:=fun q=> ∃wd,q=(bP r C1.zs C1.l s h,xI w1 w2,2,wd,f0)) ?_,⟨rfl,rfl,q1,fun _=>⟨w1,rfl,hgd,bIW hw,by rw[aUW,l1]⟩⟩⟩
     unfold H8;simp only[aB,aI,aA,DX,BW,uI,pW,uH,fG,jY,mG,lT,lB,cK,a1,a2,e2,p1,p2,hn,hn2,(vF _).1,(vF _).2,l2,(EN _ _).1,(EN _ _).2,g1,g2,hgd,Bool.not_true,aD,bO,wz,Bool.and_true,true_and,forall_const,Bool.true_eq_false,Bool.false_eq_true,false_implies,and_true];exact⟨w1,by rw[l1];rfl⟩
end Go.Proofs.YtdipcnijfkdnfaaGreatWhole

namespace Go.Proofs.YtdipcnijfkdnfaaGreatWhole
open Go Go.Zq
set_option maxHeartbeats 4000000
set_option maxRecDepth 100000
theorem bIX(x:aS):bK8 x=true∧bK7 x=qL x:=by
 refine aK (t:=a26 x) (P:=fun q=>q=qL x) ?_
 unfold a26 qL;simp only[aB,aA,true_and]
noncomputable def doJ(x:aS)(r:RM)(zs:List Int)(l:List aE)(s:Bool):MM:=sV (mq {r with pc:=beh x r.pc} zs l s r.pc (W x)) x r.pc
noncomputable def aHF(x:aS)(r:RM)(zs:List Int)(l:List aE)(s h:Bool):aG×aL:=
 bif qL x&&!r.sup then(bP r zs l s h,⟨8,r.pc,0,W x,false⟩)
 else(bP (bif cF (doJ x r zs l s)then(doJ x r zs l s).r else r) (doJ x r zs l s).zs (doJ x r zs l s).l (bif cF (doJ x r zs l s)then(doJ x r zs l s).stop else s) h,dF (doJ x r zs l s))
theorem b5F{x:aS}{r:RM}{zs:List Int}{l:List aE}{s h:Bool}(hr:r.Ok 65535)(hb:BusOk zs l)(hg:lD x=true):bEE x r.pc (bP r zs l s h)=true∧bED x r.pc (bP r zs l s h)=aHF x r zs l s h:=by
 refine aK (t:=a4Q x r.pc (bP r zs l s h)) (P:=fun q=>q=aHF x r zs l s h) ?_
 have lR:=LJ s h hr hb;obtain⟨o1,o2⟩:=a9A (r:=r.g) lR.1 lR.2.1;obtain⟨e1,e2⟩:=b47 hg;have hl:=aHB x;have n0:0<(CC x).length:=by omega
 have e3:bR (ri (CC x)) 0 0=W x:=by
  unfold CC;cases geI x.Ea.Mode 5<;>rfl
 have e4:ltI 0 ((CC x).length:Int)=true:=eD.2 (by omega)
 have e5:dV [.int .i64] (ri (CC x)) 0 0=true:=FV ⟨CC x,rfl⟩ (by rw[bB];exact n0)
 have hp:=aU.1 hr.pw;have hbp:cJ (beh x r.pc) 0 65535=true:=by rw[aU];unfold beh;omega
 obtain⟨b1,b2⟩:=QJ (w:=W x) (f:=f0) (bP r zs l s h) hg hr.pw;obtain⟨d1,r',s',d2,d3,d4⟩:=doD (w:=W x) (s:=s) (h:=h) (hr.setP hbp) hb hg hr.pw rfl;unfold a4Q;simp only[aB,aI,aA,aL3,BZ,D4,aL2,aL1,jY,mG,lT,lB,eS,eV,aX,cK,aW,bK,aV,aR,aT,bB,o1,o2,e1,e2,e3,e4,e5,jB,jC,show(⟨0,0,0,0,false⟩:aL)=f0 from rfl,cHV,oY,(bIX _).1,(bIX _).2,(tJ _ _ _ _ _ _ _).1,(tJ _ _ _ _ _ _ _).2,b1,b2,d1,d4,aD,bO,wz,bL,cQ,aZ,cS,Bool.and_true,Bool.and_self,true_and]
 unfold aHF;refine⟨fun q=>?_,fun q=>?_⟩
 ·have:(qL x&&!r.sup)=true:=by
   obtain⟨z1,z2⟩:=aE0 q;rw[z1,z2];rfl
  rw[this];rfl
 ·have:(qL x&&!r.sup)=false:=by
   cases hp1:qL x
   ·rfl
   ·rw[hp1,cond_true]at q;rw[q];rfl
  rw[this,cond_false];show _∧_
  unfold doJ;cases hf:cF (sV (mq {r with pc:=beh x r.pc} zs l s r.pc (W x)) x r.pc)
  ·obtain⟨z1,z2⟩:=zZ hf;rw[z1];refine⟨fun _=>?_,fun z=>by rw[z2]at z;cases z⟩
   rw[d3 hf];rfl
  ·have z1:=tK hf;rw[z1];refine⟨fun z=>(by cases z),fun _=>?_⟩
   obtain⟨y1,y2⟩:=d2 hf;rw[y1,y2];rfl
theorem bIY{r:RM}{zs:List Int}{l:List aE}{s:Bool}(hr:r.Ok 65535)(hb:BusOk zs l):bEF (bP r zs l s false)=true∧oL (bP r zs l s false)=uA (mm r zs l s) (tZ (mm r zs l s)):=by
 refine aK (t:=a4R (bP r zs l s false)) (P:=fun q=>q=uA (mm r zs l s) (tZ (mm r zs l s))) ?_
 obtain⟨⟨a1,wd,a2⟩,F⟩:=bQI (s:=s) (h:=false) hr hb;unfold tZ oW vK;generalize mF (mm r zs l s)=Q at a2 F;obtain⟨Q1,x,n⟩:=Q;dsimp only at a2 F;have hrr:Q1.r=r:=F.hr;have hst:Q1.stop=s:=F.hs;unfold a4R;dsimp only;cases hf:cF Q1
 ·obtain⟨z1,z2⟩:=zZ hf;simp only[aB,aI,aA,NS,a1,a2,z1,z2,hf,Bool.false_and,cond_false,aD,bO,wz,Bool.and_true,true_and,forall_const,Bool.true_eq_false,false_implies,and_true];unfold uA;rw[hf];rfl
 ·have z1:=tK hf;obtain⟨w,m1,m2,m3,m4⟩:=F.ok hf;dsimp only at m1 m2 m3 m4;obtain⟨d1,d2⟩:=b5F (s:=s) (h:=false) hr F.hb m2;have d1:bEE x r.pc (bP r Q1.zs Q1.l s false)=true:=d1;have d2:bED x r.pc (bP r Q1.zs Q1.l s false)=aHF x r Q1.zs Q1.l s false:=d2;simp only[aB,aI,aA,NS,a1,a2,z1,jY,cK,d1,d2,hf,show dD f0.Vector 0=false from rfl,Bool.true_and,aD,bO,wz,Bool.and_true,true_and,forall_const,Bool.false_eq_true,false_implies]
  rw[show Q1.r.sup=r.sup by rw[hrr]]
  unfold aHF;cases hp:qL x&&!r.sup
  ·rw[cond_false,cond_false,hf,cond_true];have eJ:sV {Q1 with r:={Q1.r with pc:=((mm r zs l s).r.pc+2*n)%65536}} x (mm r zs l s).r.pc=doJ x r Q1.zs Q1.l s:=by
    rw[m1,m4,←m3];rfl
   rw[eJ];unfold uA;cases hj:cF (doJ x r Q1.zs Q1.l s)
   ·rw[(zZ hj).1];rfl
   ·rw[tK hj];rfl
  ·rw[cond_true,cond_true];have e8:cF ({Q1 with f:={Q1.f with Vector:=8}}:MM)=false:=rfl
   rw[e8,cond_false];unfold uA;rw[e8,cond_false];rw[m1];refine Prod.ext rfl ?_;show(⟨8,r.pc,0,W x,false⟩:aL)=⟨8,r.pc,0,w,false⟩
   rw[m3]
end Go.Proofs.YtdipcnijfkdnfaaGreatWhole
