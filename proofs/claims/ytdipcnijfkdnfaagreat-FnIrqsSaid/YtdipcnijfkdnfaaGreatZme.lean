import Derived.Test.YtdipcnijfkdnfaaGreatZqIrqsQ
import Derived.Test.YtdipcnijfkdnfaaGreatZmc
import Derived.Test.YtdipcnijfkdnfaaGreatZmd
set_option linter.unusedVariables false
set_option linter.unusedSimpArgs false
namespace Go.Proofs.YtdipcnijfkdnfaaGreatIrqs
open Go Go.Zq
set_option maxHeartbeats 4000000
set_option maxRecDepth 100000
theorem UX{B t:Int}{c:aM}(r:List Int)(h1:CO B c)(h2:B<2500000000000000000)(h3:1≤r.length)(h4:hX t r=true):k90 (ri r) c=true∧CO (B+2) (N6 (ri r) c).1∧0≤(N6 (ri r) c).2∧(N6 (ri r) c).2≤t:=by
 obtain⟨a,b,j,c1,c2⟩:=O7 (r:=ri r) ⟨r,rfl⟩ (by rw[bI];exact h3) h1 (by omega)
 rw[bI]at c1;rw[oZ c1]at c2;have:=aR.1 (List.all_eq_true.1 h4 _ (List.getElem_mem c1));rw[c2];exact⟨a,b,this⟩
def r0:RM:=⟨[0,0,0,0],[0,0,0,0],0,0,0,7,true,false⟩
theorem a84:k94=true∧g94=r0.g:=by
 refine aK (t:=T94) (P:=fun q=>q=r0.g) ?_
 unfold T94;simp only[aB,aA,aD,bP,wz,Bool.and_true,true_and];rfl
theorem aXO(c:aM)(b1:aH){B:Int}(h:CO B c)(hB:B<300000000000000000):aI3 (V150_0.mk c b1 r0.g 0)=true∧(CO (B+20) (Z0 (V150_0.mk c b1 r0.g 0)).b0∧ ∃ds az:List Int,(Z0 (V150_0.mk c b1 r0.g 0)).b2=RM.g ⟨ds,az,0,0,0,7,true,false⟩∧ds.length=4∧az.length=4∧hX 65535 ds=true∧hX 65535 az=true):=by
 unfold aI3 Z0;refine kD (Post:=fun w:V150_0=>CO (B+20) w.b0∧ ∃ds az:List Int,w.b2=RM.g ⟨ds,az,0,0,0,7,true,false⟩∧ds.length=4∧az.length=4∧hX 65535 ds=true∧hX 65535 az=true) (eX (fun(m:Nat) (v:V150_0)=>CO (B+4*(4-m)) v.b0∧ ∃i:Nat,v.s4=(i:Int)∧i+m=4∧ ∃ds az:List Int,v.b2=RM.g ⟨ds,az,0,0,0,7,true,false⟩∧ds.length=4∧az.length=4∧hX 65535 ds=true∧hX 65535 az=true) _ ?_ 2097152 4 _ ⟨h.mono (by omega),0,rfl,by omega,_,_,rfl,rfl,rfl,by decide,by decide⟩ (by omega))
 rintro m v ⟨h1,i,h4,h5,ds,az,h6,h7,h8,h9,h10⟩
 obtain⟨a1,a2,a3,a4⟩:=UX [0,1,2,5,128,255,32768,65535] h1 (by omega) (by decide) (t:=65535) (by decide)
 obtain⟨b1,b2,b3,b4⟩:=UX [0,2,20,40,100,300,301,384,448,500,65534] a2 (by omega) (by decide) (t:=65535) (by decide)
 simp only[BG,H9]at a1 a2 a3 a4 b1 b2 b3 b4;have e1:bE (i:Int) 1=((i+1:Nat):Int):=by rw[bV (by omega)];omega
 unfold LW;by_cases hi:i<4
 ·obtain⟨s1,s2,s3,s4,-⟩:=f9 (l:=ds) (i:=(i:Int)) (v:=0) h7 (aR.2 (by omega))
  obtain⟨u1,u2,u3,u4,-⟩:=f9 (l:=az) (i:=(i:Int)) (v:=0) h8 (aR.2 (by omega))
  rw[Nat.zero_add,Int.toNat_natCast]at s1 s2 u1 u2;have l0:ltI (i:Int) 4=true:=by rw[eK];omega
  simp only[aB,aJ,aA,HE,HD,A0,rV,AZ,HC,HB,v6,pL,AY,h4,h6,l0,e1,a1,b1,eS,eT,aW,cM,aV,bL,aU,aT,bA,bI,dX,List.length_set,Nat.zero_add,Int.toNat_natCast,s1,s2,s3,s4,u1,u2,u3,u4,aD,bP,wz,bO,cU,bG,cV,Bool.and_true,true_and,Bool.true_eq_false,false_implies,and_true,forall_const];exact⟨m-1,by omega,b2.mono (by omega),i+1,rfl,by omega,_,_,rfl,by rw[List.length_set];exact h7,by rw[List.length_set];exact h8,sG h9 a3 a4,sG h10 b3 b4⟩
 ·have l0:ltI (i:Int) 4=false:=by rw[pA];omega
  simp only[aB,aJ,aA,h4,l0,Bool.and_true,true_and,Bool.false_eq_true,false_implies,forall_const];exact⟨h1.mono (by omega),ds,az,h6,h7,h8,h9,h10⟩
theorem aDT{d a:List Int}{x y z f mk:Int}{p q:Bool}(hd:d.length=4)(wd:hX 65536 d=true)(ha:a.length=4)(wa:hX 65535 a=true)(hx:0≤x∧x≤65535)(hy:0≤y∧y≤65535)(hz:0≤z∧z≤65535)(hf:0≤f∧f<32)(hm:0≤mk∧mk≤8): ∃r:RM,aH.mk (ri d) (ri (a.set 3 x)) y z f mk p q=r.g∧r.Ok 65536:=
 ⟨⟨d,a.set 3 x,y,z,f,mk,p,q⟩,rfl,by decide,by decide,hd,by rw[List.length_set];exact ha,wd,sG wa hx.1 hx.2,aR.2 hy,aR.2 hz,aR.2 ⟨hf.1,(by omega:f≤31)⟩,aR.2 ⟨hm.1,(by omega:mk≤65536-65528)⟩⟩
theorem bQP{c:aM}{B:Int}(h:CO B c)(hB:B<200000000000000000):bKA c=true∧(CO (B+60) (OP c).1∧ ∃r:RM,(OP c).2=r.g∧r.Ok 65536):=by
 refine aK (t:=a02 c) (P:=fun q=>CO (B+60) q.1∧ ∃r:RM,q.2=r.g∧r.Ok 65536) ?_
 obtain⟨n1,n2⟩:=a84;obtain⟨a1,a2,ds,az,a3,a4,a5,a6,a7⟩:=aXO c ⟨[],[],0,0,0,0,false,false⟩ h (by omega)
 rw[←n2]at a1 a2 a3;obtain⟨b1,b2,b3,b4⟩:=UX [200,202,380,65534,0,301] a2 (by omega) (by decide) (t:=65535) (by decide)
 obtain⟨c1,c2,c3,c4⟩:=UX [300,0,447] b2 (by omega) (by decide) (t:=65535) (by decide)
 obtain⟨d1,d2,d3,d4⟩:=UX [0,2,10,40,384,3,448] c2 (by omega) (by decide) (t:=65535) (by decide)
 simp only[BG,H9]at b1 b2 b3 b4 c1 c2 c3 c4 d1 d2 d3 d4;obtain⟨e1,e2,e3,e4,-⟩:=eN 32 d2 (by omega)
 have e4:=e4 (by omega)
 obtain⟨f1,f2,f3,f4,-⟩:=eN 8 e2 (by omega)
 have f4:=f4 (by omega)
 obtain⟨i1,i2⟩:=DR 3 f2 (by omega)
 obtain⟨j1,j2⟩:=DR 8 i2 (by omega)
 obtain⟨l1,l2,-⟩:=eN 60 j2 (by omega)
 obtain⟨s1,s2,s3,s4,-⟩:=f9 (l:=ds) (i:=0) (v:=0) a4 (by decide)
 obtain⟨u1,u2,u3,u4,-⟩:=f9 (l:=az) (i:=3) (v:=0) a5 (by decide)
 rw[Nat.zero_add]at s1 s2 u1 u2;have t0:Int.toNat 0=0:=rfl;rw[t0]at s1 s2;rw[b5W]at u1 u2;have wd:hX 65536 ds=true:=by
  unfold hX at a6⊢;rw[List.all_eq_true]at*;intro z hz;have:=aR.1 (a6 z hz);exact aR.2 (by omega)
 unfold a02;simp only[aB,aJ,aA,Z5,Z4,Z3,Z2,aI5,yE,A2,yD,LY,aI4,LX,HF,Z1,jD,n1,a1,a3,b1,c1,d1,e1,f1,i1,j1,l1,eS,eT,aW,cM,aV,bL,aU,aT,bA,bI,dX,List.length_set,s1,s2,s3,s4,u1,u2,u3,u4,aD,bP,wz,bO,cU,bG,cV,Bool.and_true,true_and];have ds4:(ds.set 0 65536).length=4:=by rw[List.length_set];exact a4
 have ds5:hX 65536 (ds.set 0 65536)=true:=sG wd (by decide) (by decide)
 have lz:=l2.mono (C:=B+60) (by omega)
 exact⟨fun _=>⟨lz,aDT ds4 ds5 a5 a7 ⟨b3,b4⟩ ⟨c3,c4⟩ ⟨d3,d4⟩ ⟨e3,e4⟩ ⟨f3,by omega⟩⟩,fun _=>⟨fun _=>⟨lz,aDT a4 wd a5 a7 ⟨b3,b4⟩ ⟨c3,c4⟩ ⟨d3,d4⟩ ⟨e3,e4⟩ ⟨by decide,by decide⟩⟩,fun _=>⟨lz,aDT a4 wd a5 a7 ⟨b3,b4⟩ ⟨c3,c4⟩ ⟨d3,d4⟩ ⟨e3,e4⟩ ⟨f3,by omega⟩⟩⟩⟩
end Go.Proofs.YtdipcnijfkdnfaaGreatIrqs

namespace Go.Proofs.YtdipcnijfkdnfaaGreatIrqs
open Go Go.Zq
set_option maxHeartbeats 4000000
set_option maxRecDepth 100000
theorem bQQ(x:Int):bCT x=!cI x 0 255:=by
 simp[bCT,dV,a1Q]
theorem bQR(x:Int):bCU x=true:=by
 simp[bCU,dV,a1Q]
theorem a85(zs:List Int)(hl:zs.length<1000000):R4 (V227v1_0.mk (ri zs) (cA (ri zs)) 0)=true∧0≤(C3 (V227v1_0.mk (ri zs) (cA (ri zs)) 0)).s8∧(ltI (C3 (V227v1_0.mk (ri zs) (cA (ri zs)) 0)).s8 (C3 (V227v1_0.mk (ri zs) (cA (ri zs)) 0)).s7=!dI zs):=by
 unfold R4 C3;refine kD (Post:=fun w=>0≤w.s8∧ltI w.s8 w.s7=!dI zs) (eX (fun n v=> ∃i:Nat,v=V227v1_0.mk (ri zs) (cA (ri zs)) i∧i≤zs.length∧n=zs.length-i∧ ∀j(hj:j<zs.length),j<i→cI zs[j] 0 255=true) _ ?_ 2097152 zs.length _ ⟨0,rfl,by omega,by omega,fun j _ h=>absurd h (by omega)⟩ (by omega))
 rintro n v ⟨i,rfl,hi,rfl,hall⟩
 unfold zS;simp only[aB,aJ,aA,bA,bI,eK,pA,true_and,Int.toNat_natCast];constructor
 ·intro h;have hi':i<zs.length:=by omega
  rw[uK hi',oZ hi',bQR,bQQ];refine⟨rfl,fun hz=>?_,fun hz=>?_⟩
  ·rw[UG hi' (by simpa using hz)]
   exact⟨by omega,by simpa [ltI]using h⟩
  ·refine⟨_,?_,i+1,?_,by omega,rfl,?_⟩
   ·omega
   ·rw[bV (by omega)];rfl
   ·intro j hj hji;by_cases e:j=i
    ·subst e;simpa using hz
    ·exact hall j hj (by omega)
 ·intro h;rw[UH fun j hj=>hall j hj (by omega)]
  exact⟨by omega,by simpa [ltI]using h⟩
theorem b6D(zs:List Int)(hl:zs.length<1000000):R6 (ri zs)=true∧R5 (ri zs)=!dI zs:=by
 obtain⟨h1,h2,h3⟩:=a85 zs hl;have a:aAH (ri zs)=true∧geI (aAG (ri zs)) 0=!dI zs:=by
  unfold aAH aAG aAF JO;rw[dV,dV];simp only[yY,H7,o9,rA,H8,kA,h1,h3,Bool.true_and];cases dI zs
  ·exact⟨rfl,by simpa using h2⟩
  ·exact⟨rfl,rfl⟩
 have b:R6 (ri zs)=true∧R5 (ri zs)=!dI zs:=by
  unfold R6 R5 aAI;rw[dV,dV];simp only[yY,o9,rA,kA,a.1,a.2,Bool.true_and,and_self]
 exact b
theorem b6E(x:aE):bCX x=!accB x:=by
 simp[bCX,dV,a1V,(bII x).2]
theorem b6F(x:aE):bCY x=true:=by
 simp[bCY,dV,a1V,(bII x).1]
theorem aXP(l:List aE)(hl:l.length<1000000):aJN (V228_0.mk (l.map aE.row) (cA (l.map aE.row)) 0)=true∧0≤(R8 (V228_0.mk (l.map aE.row) (cA (l.map aE.row)) 0)).s8∧(ltI (R8 (V228_0.mk (l.map aE.row) (cA (l.map aE.row)) 0)).s8 (R8 (V228_0.mk (l.map aE.row) (cA (l.map aE.row)) 0)).s7=!l.all accB):=by
 unfold aJN R8;refine kD (Post:=fun w=>0≤w.s8∧ltI w.s8 w.s7=!l.all accB) (eX (fun n v=> ∃i:Nat,v=V228_0.mk (l.map aE.row) (cA (l.map aE.row)) i∧i≤l.length∧n=l.length-i∧ ∀j(hj:j<l.length),j<i→accB l[j]=true) _ ?_ 2097152 l.length _ ⟨0,rfl,by omega,by omega,fun j _ h=>absurd h (by omega)⟩ (by omega))
 rintro n v ⟨i,rfl,hi,rfl,hall⟩
 unfold MB;simp only[aB,aJ,aA,bA,List.length_map,eK,pA,true_and,Int.toNat_natCast];constructor
 ·intro h;have hi':i<l.length:=by omega
  obtain⟨p1,p2⟩:=aDC hi';rw[p1,p2,b6F,b6E];refine⟨rfl,fun hz=>?_,fun hz=>?_⟩
  ·rw[aTK hi' (by simpa using hz)]
   exact⟨by omega,by simpa [ltI]using h⟩
  ·refine⟨_,?_,i+1,?_,by omega,rfl,?_⟩
   ·omega
   ·rw[bV (by omega)];rfl
   ·intro j hj hji;by_cases e:j=i
    ·subst e;simpa using hz
    ·exact hall j hj (by omega)
 ·intro h;rw[aTL fun j hj=>hall j hj (by omega)]
  exact⟨by omega,by simpa [ltI]using h⟩
theorem bQS(l:List aE)(hl:l.length<1000000):a1Y (l.map aE.row)=true∧a1X (l.map aE.row)=!l.all accB:=by
 obtain⟨h1,h2,h3⟩:=aXP l hl;have a:bC6 (l.map aE.row)=true∧geI (bC5 (l.map aE.row)) 0=!l.all accB:=by
  unfold bC6 bC5 bC4 aAN;rw[dV,dV];simp only[yY,H7,o9,rA,H8,kA,h1,h3,Bool.true_and];cases l.all accB
  ·exact⟨rfl,by simpa using h2⟩
  ·exact⟨rfl,rfl⟩
 have b:a1Y (l.map aE.row)=true∧a1X (l.map aE.row)=!l.all accB:=by
  unfold a1Y a1X bC7;rw[dV,dV];simp only[yY,o9,rA,kA,a.1,a.2,Bool.true_and,and_self]
 exact b
def OG(zs:List Int)(l:List aE):Bool:=eqI (zs.length:Int) 512&&(leI (l.length:Int) 400&&(dI zs&&l.all accB))
theorem bQT(zs:List Int)(l:List aE)(hz:zs.length<1000000)(hl:l.length<1000000):bC9 ⟨ri zs,l.map aE.row⟩=true∧bC8 ⟨ri zs,l.map aE.row⟩=OG zs l:=by
 refine aK (t:=a10 ⟨ri zs,l.map aE.row⟩) (P:=fun r=>r=OG zs l) ?_
 obtain⟨a1,a2⟩:=b6D zs hz;obtain⟨b1,b2⟩:=bQS l hl;unfold a10 OG;simp only[aB,aA,aJQ,aJP,aAO,Bool.cond_self,a1,a2,b1,b2,bA,bI,List.length_map,Bool.and_true,Bool.true_or,true_and];cases eqI (zs.length:Int) 512<;>cases leI (l.length:Int) 400<;>cases dI zs<;>cases l.all accB<;>rfl
def BJ(xs:List Int)(i:Nat):List Int:=xs.take i++List.replicate (512-i) 0
def ID(A ys:List Int)(i:Nat):List Int:=A.take 384++(ys.take i++A.drop (384+i))
theorem KF{xs:List Int}{i:Nat}(h:i≤xs.length)(hx:xs.length≤384):(BJ xs i).length=512:=by
 simp[BJ];omega
theorem aXQ{xs:List Int}{i:Nat}(h:i<xs.length)(hx:xs.length≤384):(BJ xs i).set i xs[i]=BJ xs (i+1):=by
 unfold BJ;have e:512-i=(512-(i+1))+1:=by omega
 have l:(xs.take i).length=i:=by simp;omega
 rw[e,List.replicate_succ,List.set_append_right _ _ (by omega),l,Nat.sub_self,List.set_cons_zero,List.take_succ_eq_append_getElem h,List.append_assoc,List.singleton_append]
theorem aXR{A ys:List Int}{i:Nat}(hA:A.length=512)(h:i<ys.length)(hy:ys.length≤64):(ID A ys i).set (384+i) ys[i]=ID A ys (i+1):=by
 unfold ID;have l1:(A.take 384).length=384:=by simp;omega
 have l2:(ys.take i).length=i:=by simp;omega
 rw[List.set_append_right _ _ (by omega),l1,show 384+i-384=i from by omega,List.set_append_right _ _ (by omega),l2,Nat.sub_self,List.take_succ_eq_append_getElem h,List.drop_eq_getElem_cons (show 384+i<A.length by omega),List.set_cons_zero,show 384+(i+1)=384+i+1 from rfl,List.append_assoc,List.singleton_append]
theorem cJ7(xs ys:List Int)(hx:xs.length≤384):bH6 (V93_0.mk ⟨[],[]⟩ ⟨ri (BJ xs 0),[]⟩ (ri ys) (ri xs) (xs.length:Int) 0)=true∧bH5 (V93_0.mk ⟨[],[]⟩ ⟨ri (BJ xs 0),[]⟩ (ri ys) (ri xs) (xs.length:Int) 0)=V93_0.mk ⟨[],[]⟩ ⟨ri (BJ xs xs.length),[]⟩ (ri ys) (ri xs) (xs.length:Int) (xs.length:Int):=by
 refine J6 (N:=N8) (fun i=>V93_0.mk ⟨[],[]⟩ ⟨ri (BJ xs i),[]⟩ (ri ys) (ri xs) (xs.length:Int) (i:Int)) xs.length (by omega) (fun i hi=>?_) ?_
 ·have hl:=KF (xs:=xs) (i:=i) (by omega) hx
  have hl2:=KF (xs:=xs) (i:=i+1) (by omega) hx
  have l1:ltI (i:Int) (xs.length:Int)=true:=by rw[eK];omega
  have l2:ltI (i:Int) ((512:Nat):Int)=true:=by rw[eK];omega
  have l3:leI 0 (i:Int)=true:=by simp
  have a1:bE (i:Int) 1=((i+1:Nat):Int):=by rw[bV (by omega)];omega
  have b1:blt i 512=true:=by simp;omega
  have b2:jW (jX (ri (BJ xs i)) i) 1=true:=by rw[xV (by omega)];rfl
  unfold N8;simp only[aB,aJ,aA,L5,L4,bA,bI,hl,hl2,dX,List.length_set,List.length_nil,uK hi,oZ hi,Int.toNat_natCast,Nat.zero_add,aXQ hi hx,l1,l2,l3,a1,b1,b2,aD,bP,wz,Bool.and_true,true_and,Bool.true_eq_false,false_implies,and_true,forall_const]
 ·have l1:ltI (xs.length:Int) (xs.length:Int)=false:=by simp
  unfold N8;simp only[aB,aJ,aA,l1,true_and,Bool.false_eq_true,false_implies,implies_true]
theorem UY{A ys:List Int}{i:Nat}(hA:A.length=512)(h:i≤ys.length)(hy:ys.length≤64):(ID A ys i).length=512:=by
 simp[ID];omega
theorem cJ8(A ys:List Int)(hA:A.length=512)(hy:ys.length≤64):bH7 (V93_1.mk ⟨[],[]⟩ ⟨ri (ID A ys 0),[]⟩ (ri ys) (ys.length:Int) 0)=true∧a05 (V93_1.mk ⟨[],[]⟩ ⟨ri (ID A ys 0),[]⟩ (ri ys) (ys.length:Int) 0)=V93_1.mk ⟨[],[]⟩ ⟨ri (ID A ys ys.length),[]⟩ (ri ys) (ys.length:Int) (ys.length:Int):=by
 refine J6 (N:=N9) (fun i=>V93_1.mk ⟨[],[]⟩ ⟨ri (ID A ys i),[]⟩ (ri ys) (ys.length:Int) (i:Int)) ys.length (by omega) (fun i hi=>?_) ?_
 ·have hl:=UY (A:=A) (ys:=ys) (i:=i) hA (by omega) hy
  have hl2:=UY (A:=A) (ys:=ys) (i:=i+1) hA (by omega) hy
  have l1:ltI (i:Int) (ys.length:Int)=true:=by rw[eK];omega
  have a1:bE (i:Int) 1=((i+1:Nat):Int):=by rw[bV (by omega)];omega
  have a2:bE 384 (i:Int)=((384+i:Nat):Int):=by rw[bV (by omega)];omega
  have l2:ltI ((384+i:Nat):Int) ((512:Nat):Int)=true:=by rw[eK];omega
  have l3:leI 0 ((384+i:Nat):Int)=true:=by rw[mY];omega
  have b1:blt (384+i) 512=true:=by simp;omega
  have b2:jW (jX (ri (ID A ys i)) (384+i)) 1=true:=by rw[xV (by omega)];rfl
  unfold N9;simp only[aB,aJ,aA,L7,L6,bA,bI,hl,hl2,dX,List.length_set,List.length_nil,uK hi,oZ hi,a2,Int.toNat_natCast,Nat.zero_add,aXR hA hi hy,l1,l2,l3,a1,b1,b2,aD,bP,wz,Bool.and_true,true_and,Bool.true_eq_false,false_implies,and_true,forall_const]
 ·have l1:ltI (ys.length:Int) (ys.length:Int)=false:=by simp
  unfold N9;simp only[aB,aJ,aA,l1,true_and,Bool.false_eq_true,false_implies,implies_true]
def UZ(xs ys:List Int):bM×Bool:=bif dI xs&&(dI ys&&(leI (xs.length:Int) 384&&leI (ys.length:Int) 64))then(⟨ri (ID (BJ xs xs.length) ys ys.length),[]⟩,true)else(⟨[],[]⟩,false)
theorem bIY(a b:Int):kU a b=!leI a b:=by
 cases h:leI a b
 ·rw[aFU]at h;exact rB.2 h
 ·rw[mY]at h;exact FS.2 h
theorem b6G(xs ys:List Int)(hx:xs.length<1000000)(hy:ys.length<1000000):k93 (ri xs) (ri ys)=true∧g93 (ri xs) (ri ys)=UZ xs ys:=by
 refine aK (t:=T93 (ri xs) (ri ys)) (P:=fun r=>r=UZ xs ys) ?_
 obtain⟨a1,a2⟩:=XU xs hx;obtain⟨b1,b2⟩:=XU ys hy;unfold T93;have hc:(bif (bif (bif (!(dI xs))then true else(!(dI ys)))then true else(kU (xs.length:Int) 384))then true else(kU (ys.length:Int) 64))=!(dI xs&&(dI ys&&(leI (xs.length:Int) 384&&leI (ys.length:Int) 64))):=by
  rw[bIY,bIY];cases dI xs<;>cases dI ys<;>cases leI (xs.length:Int) 384<;>cases leI (ys.length:Int) 64<;>rfl
 unfold UZ;cases hg:dI xs&&(dI ys&&(leI (xs.length:Int) 384&&leI (ys.length:Int) 64))
 ·simp only[aB,aJ,aA,a1,a2,b1,b2,bA,bI,hc,hg,Bool.not_false,cond_false,Bool.and_true,Bool.true_or,true_and,Bool.true_eq_false,false_implies,forall_const,and_true]
 ·have hg':=hg;simp only[Bool.and_eq_true,mY]at hg';obtain⟨g1,g2,g3,g4⟩:=hg';obtain⟨c1,c2⟩:=cJ7 xs ys (by omega)
  have hA:=KF (xs:=xs) (i:=xs.length) (Nat.le_refl _) (by omega)
  obtain⟨d1,d2⟩:=cJ8 (BJ xs xs.length) ys hA (by omega)
  have e0:List.replicate 512 (bB 0)=ri (BJ xs 0):=by simp[BJ,ri,List.map_replicate,bB]
  have e1:ID (BJ xs xs.length) ys 0=BJ xs xs.length:=by simp[ID]
  rw[e1]at d1 d2;simp only[aB,aJ,aA,a07,a06,qR,e0,a1,a2,b1,b2,c1,c2,d1,d2,bA,bI,hc,hg,aD,bP,wz,Bool.not_true,cond_true,Bool.and_true,Bool.true_or,true_and,Bool.false_eq_true,false_implies,forall_const]
theorem IE{xs ys:List Int}:dI (xs++ys)=(dI xs&&dI ys):=by simp[dI]
theorem aNK{n:Nat}:dI (List.replicate n 0)=true:=by
 unfold dI;rw[List.all_eq_true];intro z hz;rw[List.eq_of_mem_replicate hz];rfl
theorem VA{xs ys:List Int}(h: ∀z∈ys,z∈xs)(hb:dI xs=true):dI ys=true:=by
 unfold dI at*;rw[List.all_eq_true]at*;exact fun z hz=>hb z (h z hz)
theorem aXS{xs ys:List Int}(hx:dI xs=true)(hy:dI ys=true):dI (ID (BJ xs xs.length) ys ys.length)=true:=by
 have hA:dI (BJ xs xs.length)=true:=by unfold BJ;rw[List.take_length,IE,hx,aNK];rfl
 unfold ID;rw[List.take_length,IE,IE,hy,VA (fun z hz=>List.mem_of_mem_take hz) hA,VA (fun z hz=>List.mem_of_mem_drop hz) hA];rfl
end Go.Proofs.YtdipcnijfkdnfaaGreatIrqs

namespace Go.Proofs.YtdipcnijfkdnfaaGreatIrqs
open Go Go.Zq
set_option maxHeartbeats 4000000
set_option maxRecDepth 100000
def nR(pc:Int):RM:=⟨[0,0,0,0],[0,0,0,384],0,pc,0,7,true,false⟩
def cR(xs:List Int)(pc:Int):aI×Bool:=bif (UZ xs []).2&&cI pc 0 65535 then(⟨(nR pc).g,(UZ xs []).1,false,false⟩,true)else(⟨⟨[],[],0,0,0,0,false,false⟩,⟨[],[]⟩,false,false⟩,false)
theorem a86(xs:List Int)(pc:Int)(hx:xs.length<1000000):k20 (ri xs) pc=true∧g20 (ri xs) pc=cR xs pc:=by
 refine aK (t:=T20 (ri xs) pc) (P:=fun q=>q=cR xs pc) ?_
 obtain⟨a1,a2⟩:=b6G xs [] hx (by decide)
 obtain⟨n1,n2⟩:=a84;have a1':k93 (ri xs) []=true:=a1;have a2':g93 (ri xs) []=UZ xs []:=a2;have l3:ltI 3 ((4:Nat):Int)=true:=by decide
 have b3:blt 3 4=true:=by decide
 have r3:jW (jX (ri r0.a) 3) 1=true:=by rw[xV (by decide)];rfl
 have l4:r0.a.length=4:=rfl;unfold T20 cR;simp only[aB,aJ,aA,a09,a1',a2',n1,n2,(OE _).1,(OE _).2,eS,eT,aW,cM,aV,bL,aU,aT,bA,bI,l4,l3,b3,r3,dX,List.length_set,aD,bP,wz,Bool.and_true,Bool.true_or,true_and];cases(UZ xs []).2<;>cases cI pc 0 65535<;>simp<;>rfl
def CG(t:Int)(c:aI):Prop:= ∃r zs l s h,c=bF r zs l s h∧RM.Ok t r∧BusOk zs l
theorem a87{xs:List Int}(h:(UZ xs []).2=true): ∃zs,(UZ xs []).1=qF zs []∧BusOk zs []:=by
 unfold UZ at h⊢;cases hg:dI xs&&(dI []&&(leI (xs.length:Int) 384&&leI (([]:List Int).length:Int) 64))
 ·rw[hg]at h;simp at h
 ·simp only[Bool.and_eq_true,mY]at hg;obtain⟨g1,g2,g3,g4⟩:=hg;refine⟨_,rfl,UY (KF (Nat.le_refl _) (by omega)) (Nat.le_refl _) (by omega),aXS g1 g2,by decide,rfl⟩
theorem aT9{xs:List Int}{pc:Int}(h:(cR xs pc).2=true): ∃zs,(cR xs pc).1=bF (nR pc) zs [] false false∧BusOk zs []∧cI pc 0 65535=true:=by
 unfold cR at h⊢;cases hg:(UZ xs []).2&&cI pc 0 65535
 ·rw[hg]at h;simp at h
 ·rw[Bool.and_eq_true]at hg;obtain⟨zs,h1,h2⟩:=a87 hg.1;exact⟨zs,by rw[cond_true,h1];rfl,h2,hg.2⟩
theorem bQU:(cR [] 0).2=true:=by decide+kernel
theorem aUA{B t:Int}{c:aM}{r:RM}{zs:List Int}{p pc:Int}(hc:CO B c)(hr:r.Ok 65536)(hb:BusOk zs [])(hp:cI pc 0 65535=true)(s h:Bool):CG 65536 (aI.mk (RM.g {r with pc:=pc}) (qF zs []) s h)∧CG 65536 (aI.mk r.g (qF zs []) s h):=
 ⟨⟨_,zs,[],s,h,rfl,hr.setP hp,hb⟩,⟨_,zs,[],s,h,rfl,hr,hb⟩⟩
theorem b6H{c:aM}{B:Int}(h:CO B c)(hB:B<100000000000000000):k71 c=true∧(CO (B+50000) (g71 c).1∧CG 65536 (g71 c).2):=by
 refine aK (t:=T71 c) (P:=fun q=>CO (B+50000) q.1∧CG 65536 q.2) ?_
 obtain⟨a1,a2,⟨xs,a3,a4⟩,a5,a6⟩:=bGV h (by omega)
 obtain⟨b1,b2,r,b3,b4⟩:=bQP a2 (by omega)
 obtain⟨c1,c2⟩:=a86 xs (w9 c).2.2 (by omega)
 obtain⟨d1,d2⟩:=a86 [] 0 (by decide)
 have d1:k20 [] 0=true:=d1;have d2:g20 [] 0=cR [] 0:=d2;obtain⟨z0,e1,e2,e3⟩:=aT9 bQU;obtain⟨f1,f2,-⟩:=eN 60 b2 (by omega)
 have lz:=f2.mono (C:=B+50000) (by omega)
 unfold T71;cases hg:(cR xs (w9 c).2.2).2
 ·have q:=aUA (t:=0) (p:=0) f2 b4 e2 e3;simp only[aB,aJ,aA,aFF,FN,aFE,FM,uS,JM,a1,a3,b1,b3,c1,c2,d1,d2,e1,f1,hg,bF,eS,eT,aW,cM,aV,bL,aU,aT,kF,show(nR 0).pc=0 from rfl,aD,bP,wz,Bool.not_false,Bool.and_true,true_and,Bool.true_eq_false,false_implies,and_true,forall_const]
  exact⟨fun _=>⟨lz,(q _ _).1⟩,fun _=>⟨fun _=>⟨lz,(q _ _).1⟩,fun _=>⟨fun _=>⟨lz,(q _ _).2⟩,fun _=>⟨lz,(q _ _).1⟩⟩⟩⟩
 ·obtain⟨zs,i1,i2,i3⟩:=aT9 hg;have q:=aUA (t:=0) (p:=0) f2 b4 i2 i3;simp only[aB,aJ,aA,aFF,FN,aFE,FM,uS,JM,a1,a3,b1,b3,c1,c2,i1,f1,hg,bF,eS,eT,aW,cM,aV,bL,aU,aT,kF,show∀p,(nR p).pc=p from fun _=>rfl,aD,bP,wz,Bool.not_true,Bool.and_true,true_and,Bool.false_eq_true,false_implies,forall_const]
  exact⟨fun _=>⟨lz,(q _ _).1⟩,fun _=>⟨fun _=>⟨lz,(q _ _).1⟩,fun _=>⟨fun _=>⟨lz,(q _ _).2⟩,fun _=>⟨lz,(q _ _).1⟩⟩⟩⟩
end Go.Proofs.YtdipcnijfkdnfaaGreatIrqs

namespace Go.Proofs.YtdipcnijfkdnfaaGreatIrqs
open Go Go.Zq
set_option maxHeartbeats 4000000
set_option maxRecDepth 100000
def aNL(p:aE×aE):Bool:=eqI p.1.Kind p.2.Kind&&(eqI p.1.Size p.2.Size&&(eqI p.1.Addr p.2.Addr&&(eqI p.1.Value p.2.Value&&(eqI p.1.Code p.2.Code&&true))))
def aF5(l m:List aE):Bool:=eqI (l.length:Int) (m.length:Int)&&(l.zip m).all aNL
theorem aF6: ∀{l:List aE}{p:aE×aE},p∈l.zip l→p.1=p.2
 |[],p,h=>by simp at h
 |a::l,p,h=>by
  rw[List.zip_cons_cons,List.mem_cons]at h;rcases h with rfl|h
  ·rfl
  ·exact aF6 h
theorem aXT(l:List aE):aF5 l l=true:=by
 unfold aF5;rw[show eqI (l.length:Int) (l.length:Int)=true by simp,Bool.true_and,List.all_eq_true]
 intro p hp;have:p.1=p.2:=aF6 hp;unfold aNL;rw[this];simp
def aXU(r q:RM):Bool:=decide (r.d=q.d)&&(decide (r.a=q.a)&&(eqI r.oth q.oth&&(eqI r.pc q.pc&&(eqI r.fl q.fl&&(eqI r.mask q.mask&&(vG r.sup q.sup&&vG r.tr q.tr))))))
theorem aXV(r:RM):aXU r r=true:=by simp[aXU]
theorem b2(a b:Bool):(bif a then b else false)=(a&&b):=by cases a<;>rfl
theorem aXW(l m:List aE)(hl:l.length<1000000)(he:l.length=m.length):aM4 (V157_0.mk (l.map aE.row) (m.map aE.row) (cA (l.map aE.row)) 0)=true∧(ltI (aC9 (V157_0.mk (l.map aE.row) (m.map aE.row) (cA (l.map aE.row)) 0)).s13 (aC9 (V157_0.mk (l.map aE.row) (m.map aE.row) (cA (l.map aE.row)) 0)).s12=!(l.zip m).all aNL):=by
 unfold aM4 aC9;refine kD (Post:=fun w:V157_0=>ltI w.s13 w.s12=!(l.zip m).all aNL) (eX (fun n v=> ∃i:Nat,v=V157_0.mk (l.map aE.row) (m.map aE.row) (cA (l.map aE.row)) i∧i≤l.length∧n=l.length-i∧ ∀j(hj:j<(l.zip m).length),j<i→aNL (l.zip m)[j]=true) _ ?_ 2097152 l.length _ ⟨0,rfl,by omega,by omega,fun j _ h=>absurd h (by omega)⟩ (by omega))
 rintro n v ⟨i,rfl,hi,rfl,hall⟩
 have hz:(l.zip m).length=l.length:=by simp;omega
 unfold NA;simp only[aB,aJ,aA,bA,List.length_map,eK,pA,true_and,Int.toNat_natCast];constructor
 ·intro h;have hi':i<l.length:=by omega
  have hy':i<m.length:=by omega
  obtain⟨p1,p2⟩:=aDC hi';obtain⟨q1,q2⟩:=aDC hy';have hzi:i<(l.zip m).length:=by omega
  have ez:(l.zip m)[i]=(l[i],m[i]):=by simp
  have cond:(!(eqI (bQ (l.map aE.row) i 0) (bQ (m.map aE.row) i 0)&&(eqI (bQ (l.map aE.row) i 1) (bQ (m.map aE.row) i 1)&&(eqI (bQ (l.map aE.row) i 2) (bQ (m.map aE.row) i 2)&&(eqI (bQ (l.map aE.row) i 3) (bQ (m.map aE.row) i 3)&&(eqI (bQ (l.map aE.row) i 4) (bQ (m.map aE.row) i 4)&&true))))))=!aNL (l.zip m)[i]:=by
   rw[ez];have a0:bQ (l.map aE.row) i 0=l[i].Kind:=congrArg aE.Kind p2;have a1:bQ (l.map aE.row) i 1=l[i].Size:=congrArg aE.Size p2;have a2:bQ (l.map aE.row) i 2=l[i].Addr:=congrArg aE.Addr p2;have a3:bQ (l.map aE.row) i 3=l[i].Value:=congrArg aE.Value p2;have a4:bQ (l.map aE.row) i 4=l[i].Code:=congrArg aE.Code p2;have c0:bQ (m.map aE.row) i 0=m[i].Kind:=congrArg aE.Kind q2;have c1:bQ (m.map aE.row) i 1=m[i].Size:=congrArg aE.Size q2;have c2:bQ (m.map aE.row) i 2=m[i].Addr:=congrArg aE.Addr q2;have c3:bQ (m.map aE.row) i 3=m[i].Value:=congrArg aE.Value q2;have c4:bQ (m.map aE.row) i 4=m[i].Code:=congrArg aE.Code q2;rw[a0,a1,a2,a3,a4,c0,c1,c2,c3,c4];rfl
  rw[p1,q1,cond];refine⟨rfl,fun hq=>?_,fun hq=>?_⟩
  ·rw[aTK hzi (by simpa using hq)]
   simpa [ltI]using h
  ·refine⟨_,?_,i+1,?_,by omega,rfl,?_⟩
   ·omega
   ·rw[bV (by omega)];rfl
   ·intro j hj hji;by_cases e:j=i
    ·subst e;simpa using hq
    ·exact hall j hj (by omega)
 ·intro h;rw[aTL fun j hj=>hall j hj (by omega)]
  simpa [ltI]using h
theorem bQV(l m:List aE)(hl:l.length<1000000):bPP (l.map aE.row) (m.map aE.row)=true∧bPO (l.map aE.row) (m.map aE.row)=aF5 l m:=by
 refine aK (t:=a7R (l.map aE.row) (m.map aE.row)) (P:=fun q=>q=aF5 l m) ?_
 unfold a7R aF5;by_cases he:l.length=m.length
 ·obtain⟨h1,h2⟩:=aXW l m hl he;have e:dC (cA (l.map aE.row)) (cA (m.map aE.row))=false:=by simp[he]
  have e2:eqI (l.length:Int) (m.length:Int)=true:=by simp[he]
  simp only[aB,aJ,aA,aM5,h1,h2,e,e2,Bool.true_and,true_and,Bool.false_eq_true,false_implies,forall_const];cases(l.zip m).all aNL<;>simp
 ·have e:dC (cA (l.map aE.row)) (cA (m.map aE.row))=true:=by simp;omega
  have e2:eqI (l.length:Int) (m.length:Int)=false:=by simp;omega
  simp only[aB,aJ,aA,e,e2,Bool.false_and,true_and,Bool.true_eq_false,false_implies,forall_const,and_true]
end Go.Proofs.YtdipcnijfkdnfaaGreatIrqs

namespace Go.Proofs.YtdipcnijfkdnfaaGreatIrqs
open Go Go.Zq
set_option maxHeartbeats 4000000
set_option maxRecDepth 100000
theorem bQW(r q:RM)(hr:r.d.length<1000000)(ha:r.a.length<1000000):k13 r.g q.g=true∧g13 r.g q.g=aXU r q:=by
 refine aK (t:=T13 r.g q.g) (P:=fun z=>z=aXU r q) ?_
 obtain⟨a1,a2⟩:=IA r.d q.d hr;obtain⟨c1,c2⟩:=IA r.a q.a ha;unfold T13 aXU;simp only[aB,aA,eS,eT,aW,cM,aV,bL,aU,aT,a1,a2,c1,c2,b2,Bool.and_assoc,Bool.true_or,Bool.and_true,true_and]
def a88(r:RM)(zs:List Int)(l:List aE)(s h:Bool)(q:RM)(ys:List Int)(m:List aE)(s' h':Bool):Bool:=aXU r q&&(decide (zs=ys)&&(aF5 l m&&(vG s s'&&vG h h')))
theorem aXX(r:RM)(zs:List Int)(l:List aE)(s h:Bool):a88 r zs l s h r zs l s h=true:=by simp[a88,aXV,aXT]
theorem bGW(zs ys:List Int)(l m:List aE)(hz:zs.length<1000000)(hl:l.length<1000000):k82 (qF zs l) (qF ys m)=true∧g82 (qF zs l) (qF ys m)=(decide (zs=ys)&&aF5 l m):=by
 refine aK (t:=T82 (qF zs l) (qF ys m)) (P:=fun z=>z=(decide (zs=ys)&&aF5 l m)) ?_
 obtain⟨a1,a2⟩:=IA zs ys hz;obtain⟨c1,c2⟩:=bQV l m hl;unfold T82;simp only[aB,aA,UL,UM,a1,a2,c1,c2,b2,Bool.true_or,Bool.and_true,true_and]
structure Sz(r:RM)(zs:List Int)(l:List aE):Prop where
 d:r.d.length<1000000
 a:r.a.length<1000000
 z:zs.length<1000000
 l:l.length<1000000
theorem bGX(r q:RM)(zs ys:List Int)(l m:List aE)(s h s' h':Bool)(z:Sz r zs l):k11 (bF r zs l s h) (bF q ys m s' h')=true∧g11 (bF r zs l s h) (bF q ys m s' h')=a88 r zs l s h q ys m s' h':=by
 refine aK (t:=T11 (bF r zs l s h) (bF q ys m s' h')) (P:=fun w=>w=a88 r zs l s h q ys m s' h') ?_
 obtain⟨a1,a2⟩:=bQW r q z.d z.a;obtain⟨c1,c2⟩:=bGW zs ys l m z.z z.l;unfold T11 a88 bF;simp only[aB,aA,a1,a2,c1,c2,b2,Bool.and_assoc,Bool.true_or,Bool.and_true,true_and]
end Go.Proofs.YtdipcnijfkdnfaaGreatIrqs

namespace Go.Proofs.YtdipcnijfkdnfaaGreatIrqs
open Go Go.Zq
set_option maxHeartbeats 4000000
set_option maxRecDepth 100000
theorem aUB{t:Int}{zs:List Int}{i:Nat}(h:i<zs.length)(hz:cI zs[i] 0 t=false):hX t zs=false:=aTK h hz
theorem aUC{t:Int}{zs:List Int}(h: ∀j(hj:j<zs.length),cI zs[j] 0 t=true):hX t zs=true:=aTL h
theorem cJ9(x:Int):bCE x=!cI x 0 65535:=by
 simp[bCE,dV,a1H,(NB _).2]
theorem cKA(x:Int):bCF x=true:=by
 simp[bCF,dV,a1H,(NB _).1]
theorem aXY(zs:List Int)(hl:zs.length<1000000):aJD (V227_0.mk (ri zs) (cA (ri zs)) 0)=true∧0≤(R3 (V227_0.mk (ri zs) (cA (ri zs)) 0)).s8∧(ltI (R3 (V227_0.mk (ri zs) (cA (ri zs)) 0)).s8 (R3 (V227_0.mk (ri zs) (cA (ri zs)) 0)).s7=!hX 65535 zs):=by
 unfold aJD R3;refine kD (Post:=fun w=>0≤w.s8∧ltI w.s8 w.s7=!hX 65535 zs) (eX (fun n v=> ∃i:Nat,v=V227_0.mk (ri zs) (cA (ri zs)) i∧i≤zs.length∧n=zs.length-i∧ ∀j(hj:j<zs.length),j<i→cI zs[j] 0 65535=true) _ ?_ 2097152 zs.length _ ⟨0,rfl,by omega,by omega,fun j _ h=>absurd h (by omega)⟩ (by omega))
 rintro n v ⟨i,rfl,hi,rfl,hall⟩
 unfold L9;simp only[aB,aJ,aA,bA,bI,eK,pA,true_and,Int.toNat_natCast];constructor
 ·intro h;have hi':i<zs.length:=by omega
  rw[uK hi',oZ hi',cKA,cJ9];refine⟨rfl,fun hz=>?_,fun hz=>?_⟩
  ·rw[aUB hi' (by simpa using hz)]
   exact⟨by omega,by simpa [ltI]using h⟩
  ·refine⟨_,?_,i+1,?_,by omega,rfl,?_⟩
   ·omega
   ·rw[bV (by omega)];rfl
   ·intro j hj hji;by_cases e:j=i
    ·subst e;simpa using hz
    ·exact hall j hj (by omega)
 ·intro h;rw[aUC fun j hj=>hall j hj (by omega)]
  exact⟨by omega,by simpa [ltI]using h⟩
theorem bQX(zs:List Int)(hl:zs.length<1000000):a1K (ri zs)=true∧a1J (ri zs)=!hX 65535 zs:=by
 obtain⟨h1,h2,h3⟩:=aXY zs hl;have a:bCN (ri zs)=true∧geI (bCM (ri zs)) 0=!hX 65535 zs:=by
  unfold bCN bCM bCL aAD;rw[dV,dV];simp only[yY,H7,o9,rA,H8,kA,h1,h3,Bool.true_and];cases hX 65535 zs
  ·exact⟨rfl,by simpa using h2⟩
  ·exact⟨rfl,rfl⟩
 have b:a1K (ri zs)=true∧a1J (ri zs)=!hX 65535 zs:=by
  unfold a1K a1J bCO;rw[dV,dV];simp only[yY,o9,rA,kA,a.1,a.2,Bool.true_and,and_self]
 exact b
theorem a89(zs:List Int)(hl:zs.length<1000000):bCP (ri zs)=true∧a1M (ri zs)=(eqI (zs.length:Int) 4&&hX 65535 zs):=by
 refine aK (t:=a1L (ri zs)) (P:=fun q=>q=(eqI (zs.length:Int) 4&&hX 65535 zs)) ?_
 obtain⟨a1,a2⟩:=bQX zs hl;unfold a1L;simp only[aB,aA,a1,a2,b2,bA,bI,Bool.not_not,Bool.true_or,Bool.and_true,true_and]
def KG(r:RM):Bool:=(eqI (r.d.length:Int) 4&&hX 65535 r.d)&&((eqI (r.a.length:Int) 4&&hX 65535 r.a)&&(cI r.oth 0 65535&&(cI r.pc 0 65535&&(cI r.fl 0 31&&cI r.mask 0 7))))
theorem bGY(r:RM)(hd:r.d.length<1000000)(ha:r.a.length<1000000):bKS r.g=true∧bCR r.g=KG r:=by
 refine aK (t:=a1P r.g) (P:=fun q=>q=KG r) ?_
 obtain⟨a1,a2⟩:=a89 r.d hd;obtain⟨c1,c2⟩:=a89 r.a ha;unfold a1P KG;simp only[aB,aA,aJH,aJG,aJF,aJE,eS,eT,aW,cM,aV,bL,aU,aT,a1,a2,c1,c2,(NB _).1,(NB _).2,(aT0 _).1,(aT0 _).2,lS,lT,b2,Bool.and_assoc,Bool.true_or,Bool.and_true,true_and]
theorem aXZ(zs:List Int)(hl:zs.length<1000000)(x:List Row):aLD (V206_0.mk x (ri zs) (cA (ri zs)) 0)=true∧((TH (V206_0.mk x (ri zs) (cA (ri zs)) 0)).s0=x∧ltI (TH (V206_0.mk x (ri zs) (cA (ri zs)) 0)).s7 (TH (V206_0.mk x (ri zs) (cA (ri zs)) 0)).s6=!hX 65535 zs):=by
 unfold aLD TH;refine kD (Post:=fun w:V206_0=>w.s0=x∧ltI w.s7 w.s6=!hX 65535 zs) (eX (fun n v=> ∃i:Nat,v=V206_0.mk x (ri zs) (cA (ri zs)) i∧i≤zs.length∧n=zs.length-i∧ ∀j(hj:j<zs.length),j<i→cI zs[j] 0 65535=true) _ ?_ 2097152 zs.length _ ⟨0,rfl,by omega,by omega,fun j _ h=>absurd h (by omega)⟩ (by omega))
 rintro n v ⟨i,rfl,hi,rfl,hall⟩
 unfold MX;simp only[aB,aJ,aA,bA,bI,eK,pA,true_and,Int.toNat_natCast];constructor
 ·intro h;have hi':i<zs.length:=by omega
  rw[uK hi',oZ hi',(OE _).2,(OE _).1];refine⟨rfl,rfl,fun hz=>?_,fun hz=>?_⟩
  ·rw[aUB hi' (by simpa using hz)]
   simpa [ltI]using h
  ·refine⟨_,?_,i+1,?_,by omega,rfl,?_⟩
   ·omega
   ·rw[bV (by omega)];rfl
   ·intro j hj hji;by_cases e:j=i
    ·subst e;simpa using hz
    ·exact hall j hj (by omega)
 ·intro h;rw[aUC fun j hj=>hall j hj (by omega)]
  simpa [ltI]using h
theorem a9A(zs:List Int)(hl:zs.length<1000000):bEU (ri zs)=true∧a4X (ri zs)=(eqI (zs.length:Int) 4&&hX 65535 zs):=by
 refine aK (t:=a4W (ri zs)) (P:=fun q=>q=(eqI (zs.length:Int) 4&&hX 65535 zs)) ?_
 obtain⟨h1,h0,h2⟩:=aXZ zs hl (ri zs);simp only[bA,bI]at h1 h0 h2;unfold a4W;simp only[aB,aJ,aA,aB1,h1,h0,h2,bA,bI,aD,bP,wz,Bool.and_true,true_and];cases hX 65535 zs<;>simp
theorem bGZ(r:RM)(hd:r.d.length<1000000)(ha:r.a.length<1000000):bNN r.g=true∧bEV r.g=KG r:=by
 refine aK (t:=a4Z r.g) (P:=fun q=>q=KG r) ?_
 obtain⟨a1,a2⟩:=a9A r.d hd;obtain⟨c1,c2⟩:=a9A r.a ha;unfold a4Z KG;simp only[aB,aA,aLH,aLG,aLF,aLE,eS,eT,aW,cM,aV,bL,aU,aT,a1,a2,c1,c2,(OE _).1,(OE _).2,(aT1 _).1,(aT1 _).2,uL,uM,aD,bP,wz,b2,Bool.and_assoc,Bool.true_or,Bool.and_true,true_and]
def wY(r:RM)(zs:List Int)(l:List aE)(s h:Bool):Bool:=KG r&&(OG zs l&&!(s&&h))
structure Sm(r:RM)(zs:List Int)(l:List aE):Prop where
 d:r.d.length≤1000
 a:r.a.length≤1000
 z:zs.length≤512
 l:l.length≤1000
theorem Sm.of{t:Int}{r:RM}{zs:List Int}{l:List aE}(h:r.Ok t)(b:BusOk zs l):Sm r zs l:=by
 have h1:=h.d4;have h2:=h.a4;have h3:=b.hz;have h4:=b.hl;exact⟨by omega,by omega,by omega,by omega⟩
theorem Sm.sz{r:RM}{zs:List Int}{l:List aE}(m:Sm r zs l):Sz r zs l:=⟨by have:=m.d;omega,by have:=m.a;omega,by have:=m.z;omega,by have:=m.l;omega⟩
theorem Sm.len{r:RM}{zs:List Int}{l:List aE}(m:Sm r zs l)(s h:Bool):aXL (bF r zs l s h):=by
 have h1:=m.d;have h2:=m.a;have h3:=m.z;have h4:=m.l;refine⟨?_,?_,?_,?_⟩
 ·show(ri r.d).length≤2000;rw[bI];omega
 ·show(ri r.a).length≤2000;rw[bI];omega
 ·show(ri zs).length≤2000;rw[bI];omega
 ·show(l.map aE.row).length≤2000;rw[List.length_map];omega
theorem bG0{r:RM}{zs:List Int}{l:List aE}(s h:Bool)(m:Sm r zs l):k30 (bF r zs l s h)=true∧g30 (bF r zs l s h)=wY r zs l s h:=by
 refine aK (t:=T30 (bF r zs l s h)) (P:=fun q=>q=wY r zs l s h) ?_
 obtain⟨a1,a2⟩:=bGY r (by have:=m.d;omega) (by have:=m.a;omega)
 obtain⟨c1,c2⟩:=bQT zs l (by have:=m.z;omega) (by have:=m.l;omega)
 have c1':bC9 (qF zs l)=true:=c1;have c2':bC8 (qF zs l)=OG zs l:=c2;unfold T30 wY bF;simp only[aB,aA,a1,a2,c1',c2',b2,Bool.and_assoc,Bool.true_or,Bool.and_true,true_and]
theorem bG1{r:RM}{zs:List Int}{l:List aE}(s h:Bool)(m:Sm r zs l):k76 (bF r zs l s h)=true∧g76 (bF r zs l s h)=wY r zs l s h:=by
 refine aK (t:=T76 (bF r zs l s h)) (P:=fun q=>q=wY r zs l s h) ?_
 obtain⟨a1,a2⟩:=bGZ r (by have:=m.d;omega) (by have:=m.a;omega)
 obtain⟨c1,c2⟩:=bP5 (b:=qF zs l) (zs:=zs) (l:=l) ⟨⟨zs,rfl⟩,⟨l,rfl⟩,by rw[UL,bI];exact m.z,by rw[UM,List.length_map];exact m.l⟩ rfl rfl
 unfold T76 wY bF OG;simp only[aB,aA,a1,a2,c1,c2,aD,bP,wz,b2,Bool.and_assoc,Bool.true_or,Bool.and_true,true_and]
theorem PD{r:RM}{zs:List Int}{l:List aE}{s h:Bool}(g:wY r zs l s h=true):r.Ok 65535∧BusOk zs l:=by
 unfold wY KG OG at g;simp only[Bool.and_eq_true,dS,mY]at g;obtain⟨⟨⟨a1,a2⟩,⟨a3,a4⟩,a5,a6,a7,a8⟩,⟨b1,b2,b3,b4⟩,-⟩:=g;exact⟨⟨by decide,by decide,by omega,by omega,a2,a4,a5,a6,a7,a8⟩,⟨by omega,b3,by omega,b4⟩⟩
theorem a9B{r:aH}(h1:r.D.length≤2000)(h2:r.A.length≤2000):bDC r=true∧VU r=r:=by
 refine aK (t:=a14 r) (P:=fun q=>q=r) ?_
 obtain⟨a1,a2,a3,a4,a5,a6,a7,a8,a9⟩:=FT h1;obtain⟨c1,c2,c3,c4,c5,c6,c7,c8,c9⟩:=FT h2;unfold a14;simp only[aB,aA,aJT,aD,bP,wz,bO,cU,bG,cV,Bool.and_true,true_and,(OD).1,(OD).2,a1,a3,a4,a6,c1,c3,c4,c6]
theorem bQY{b:bM}(h1:b.Bytes.length≤2000)(h2:b.Log.length≤2000):bK2 b=true∧aV6 b=b:=by
 refine aK (t:=a15 b) (P:=fun r=>r=b) ?_
 obtain⟨a1,a2,a3,a4,a5,a6,a7,a8,a9⟩:=FT h1;obtain⟨c1,c2,c3,c4,c5,c6,c7,c8,c9⟩:=FT h2;unfold a15;simp only[aB,aA,aJU,aD,bP,wz,bO,cU,bG,cV,Bool.and_true,true_and,(OD).1,(OD).2,a1,a4,a6,c2,c5,c6]
theorem bQZ{c:aI}(h:aXL c):k74 c=true∧g74 c=c:=by
 refine aK (t:=T74 c) (P:=fun r=>r=c) ?_
 obtain⟨h1,h2,h3,h4⟩:=h;unfold T74;simp only[aB,aA,a16,bIB,bIA,jA,iM,a9B h1 h2,bQY h3 h4,aD,bP,wz,bO,cU,bG,cV,Bool.and_true,true_and]
end Go.Proofs.YtdipcnijfkdnfaaGreatIrqs

namespace Go.Proofs.YtdipcnijfkdnfaaGreatIrqs
open Go Go.Zq
set_option maxHeartbeats 4000000
set_option maxRecDepth 100000
theorem jR{m:MM}{k s a v:Int}(h:m.f.Vector=0):cG (cS m k s a v).1=eqI (cY k s a) 0:=by
 unfold cS cG;dsimp only;rw[h];cases hc:eqI (cY k s a) 0
 ·have:dC (cY k s a) 0=true:=by rw[gT]at hc;exact oM.2 hc
  rw[this];cases eqI (cY k s a) 2<;>rfl
 ·have:dC (cY k s a) 0=false:=by rw[dS]at hc;exact OC.2 hc
  rw[this,Bool.false_and,cond_false,h];rfl
def mm(r:RM)(zs:List Int)(l:List aE)(s:Bool):MM:=⟨r,zs,l,s,f0⟩
theorem aNM{v t:Int}{r:RM}{zs:List Int}{l:List aE}{s h:Bool}(hr:r.Ok t)(hb:BusOk zs l)(h0:0≤v)(h1:v≤65535):k75 v (bF r zs l s h)=true∧g75 v (bF r zs l s h)=(bF (dZ (mm r zs l s) v).r (dZ (mm r zs l s) v).zs (dZ (mm r zs l s) v).l s h,(cX r.a 3-2)%65536,cY 2 2 ((cX r.a 3-2)%65536)):=by
 refine aK (t:=T75 v (bF r zs l s h)) (P:=fun q=>q=(bF (dZ (mm r zs l s) v).r (dZ (mm r zs l s) v).zs (dZ (mm r zs l s) v).l s h,(cX r.a 3-2)%65536,cY 2 2 ((cX r.a 3-2)%65536))) ?_
 have hm:(mm r zs l s).Ok t:=⟨hr,hb⟩;obtain⟨b1,b2,b3,b4,b5,b6,b7⟩:=zV hr;have fa:=UO hm h0 h1;obtain⟨a1,a2⟩:=EP (k:=2) (a:=(cX r.a 3-2)%65536) (fa.t hm) fa.ha (fun e=>absurd e (by decide))
 have a1':HI 2 2 ((cX r.a 3-2)%65536) v (qF zs l)=true:=a1;have a2':JU 2 2 ((cX r.a 3-2)%65536) v (qF zs l)=(qF (tB 2 2 ((cX r.a 3-2)%65536) v zs) (tL 2 2 ((cX r.a 3-2)%65536) v zs l),0,cY 2 2 ((cX r.a 3-2)%65536)):=a2;have hf:cG (cS (mm r zs l s) 2 2 ((cX r.a 3-2)%65536) v).1=eqI (cY 2 2 ((cX r.a 3-2)%65536)) 0:=jR rfl;unfold T75 dZ;simp only[aB,aJ,aA,a2R,a2Q,aPT,OA,show(bF r zs l s h).R=r.g from rfl,show(bF r zs l s h).Bus=qF zs l from rfl,show(bF r zs l s h).Stop=s from rfl,show(bF r zs l s h).Halt=h from rfl,eS,eT,aW,cM,aV,bL,aU,aT,bA,bI,b1,b2,b3,b4,b5,b6,a1',a2',dX,List.length_set,aD,bP,wz,Bool.and_true,true_and]
 have e:(mm r zs l s).r=r:=rfl;rw[e,hf];refine⟨fun q=>by rw[q];rfl,fun q=>by rw[q];rfl⟩
theorem b6I{t:Int}{r:RM}{zs:List Int}{l:List aE}{s h:Bool}(hr:r.Ok t)(hb:BusOk zs l):k83 (bF r zs l s h)=true∧g83 (bF r zs l s h)=(bF (dM (mm r zs l s)).1.r (dM (mm r zs l s)).1.zs (dM (mm r zs l s)).1.l s h,(dM (mm r zs l s)).2,cX r.a 3,cY 1 2 (cX r.a 3)):=by
 refine aK (t:=T83 (bF r zs l s h)) (P:=fun q=>q=(bF (dM (mm r zs l s)).1.r (dM (mm r zs l s)).1.zs (dM (mm r zs l s)).1.l s h,(dM (mm r zs l s)).2,cX r.a 3,cY 1 2 (cX r.a 3))) ?_
 have hm:(mm r zs l s).Ok t:=⟨hr,hb⟩;obtain⟨b1,b2,b3,b4,b5,b6,b7⟩:=zV hr;have fa:=aDI hm;obtain⟨a1,a2⟩:=EP (k:=1) (a:=cX r.a 3) (fa.t hm) fa.ha (fun e=>rfl)
 have a1':HI 1 2 (cX r.a 3) 0 (qF zs l)=true:=a1;have a2':JU 1 2 (cX r.a 3) 0 (qF zs l)=(qF (tB 1 2 (cX r.a 3) 0 zs) (tL 1 2 (cX r.a 3) 0 zs l),tV 1 2 (cX r.a 3) 0 zs,cY 1 2 (cX r.a 3)):=a2;have hf:cG (cS (mm r zs l s) 1 2 (cX r.a 3) 0).1=eqI (cY 1 2 (cX r.a 3)) 0:=jR rfl;unfold T83 dM;simp only[aB,aJ,aA,a4D,a4C,aQ3,FO,show(bF r zs l s h).R=r.g from rfl,show(bF r zs l s h).Bus=qF zs l from rfl,show(bF r zs l s h).Stop=s from rfl,show(bF r zs l s h).Halt=h from rfl,eS,eT,aW,cM,aV,bL,aU,aT,bA,bI,b1,b2,b3,b4,b5,b7,a1',a2',dX,List.length_set,aD,bP,wz,Bool.and_true,true_and]
 have e:(mm r zs l s).r=r:=rfl;rw[e,hf];refine⟨fun q=>by rw[q];rfl,fun q=>by rw[q];rfl⟩
def zC:aI:=⟨⟨[],[],0,0,0,0,false,false⟩,⟨[],[]⟩,false,false⟩
theorem aX0(r:RM)(zs:List Int)(l:List aE)(s:Bool)(v:Int):cG (dZ (mm r zs l s) v)=eqI (cY 2 2 ((cX r.a 3-2)%65536)) 0:=by
 have hf:cG (cS (mm r zs l s) 2 2 ((cX r.a 3-2)%65536) v).1=eqI (cY 2 2 ((cX r.a 3-2)%65536)) 0:=jR rfl;have e:(mm r zs l s).r=r:=rfl;unfold dZ;rw[e,hf];cases hc:eqI (cY 2 2 ((cX r.a 3-2)%65536)) 0
 ·rw[cond_false,hf,hc]
 ·rw[cond_true];rw[hc]at hf;exact hf
theorem X9(m:MM)(v:Int):(dZ m v).stop=m.stop:=by
 unfold dZ;exact cF (P:=fun z:MM=>z.stop=m.stop) (fun _=>rfl) (fun _=>rfl)
theorem aF7(m:MM):(dM m).1.stop=m.stop:=by
 unfold dM;exact cF (P:=fun z:MM=>z.stop=m.stop) (fun _=>rfl) (fun _=>rfl)
end Go.Proofs.YtdipcnijfkdnfaaGreatIrqs

namespace Go.Proofs.YtdipcnijfkdnfaaGreatIrqs
open Go Go.Zq
set_option maxHeartbeats 4000000
set_option maxRecDepth 100000
def zZ(f:aL):Bool:=eqI f.Vector 2||eqI f.Vector 3
def mZ(f:aL):Bool:=cI f.Vector 2 21&&(cI f.PC 0 65535&&(cI f.Addr 0 65535&&(cI f.Word 0 65535&&(zZ f||(eqI f.Addr 0&&!f.Write)))))
theorem aF8(f:aL):bLB f=true∧bLA f=zZ f:=by
 refine aK (t:=a2D f) (P:=fun q=>q=zZ f) ?_
 unfold a2D zZ;simp only[aB,aJ,aA,Bool.and_true,true_and];cases eqI f.Vector 2<;>cases eqI f.Vector 3<;>rfl
theorem aF9(f:aL):bNX f.Vector=true∧bNW f.Vector=zZ f:=by
 refine aK (t:=a5P f.Vector) (P:=fun q=>q=zZ f) ?_
 unfold a5P zZ;simp only[aB,aJ,aA,Bool.and_true,true_and];cases eqI f.Vector 2<;>cases eqI f.Vector 3<;>rfl
end Go.Proofs.YtdipcnijfkdnfaaGreatIrqs

namespace Go.Proofs.YtdipcnijfkdnfaaGreatIrqs
open Go Go.Zq
set_option maxHeartbeats 4000000
set_option maxRecDepth 100000
theorem OH(b:Bool)(n:Int):yG b n=true∧yF b n=bif b then n else 0:=by
 refine aK (t:=aAR b n) (P:=fun q=>q=bif b then n else 0) ?_
 unfold aAR;cases b<;>simp
theorem a9C{t:Int}{r:RM}(h:r.Ok t):bDJ r.g=true∧a2C r.g=fJ r:=by
 refine aK (t:=a2B r.g) (P:=fun q=>q=fJ r) ?_
 have f:=aR.1 h.fw;have k:=aR.1 h.mw;have t1:=h.t1;have e1:dH 32 r.mask=32*r.mask:=hJ (by omega)
 have b1: ∀(b:Bool)(n:Int),(bif b then n else 0)=0∨(bif b then n else 0)=n:=fun b n=>by cases b<;>simp
 have c1:=b1 r.sup 256;have c2:=b1 r.tr 512;unfold a2B fJ;simp only[aB,aA,eS,eT,aW,cM,aV,bL,aU,aT,(OH _ _).1,(OH _ _).2,e1,aD,bP,wz,Bool.and_true,true_and];rw[bV (x:=r.fl) (by omega),bV (x:=r.fl+32*r.mask) (by omega),bV (by omega)]
theorem aNN{t:Int}{r:RM}(h:r.Ok t):aJV r.g=true∧aAT r.g=fJ r:=by
 refine aK (t:=SA r.g) (P:=fun q=>q=fJ r) ?_
 have f:=aR.1 h.fw;have k:=aR.1 h.mw;have t1:=h.t1;have e1:dH 32 r.mask=32*r.mask:=hJ (by omega)
 have b1: ∀(b:Bool)(n:Int),(bif b then n else 0)=0∨(bif b then n else 0)=n:=fun b n=>by cases b<;>simp
 have c1:=b1 r.sup 256;have c2:=b1 r.tr 512;unfold SA fJ;simp only[aB,aA,eS,eT,aW,cM,aV,bL,aU,aT,(OH _ _).1,(OH _ _).2,e1,aD,bP,wz,Bool.and_true,Bool.and_self,true_and];rw[bV (x:=r.fl) (by omega),bV (x:=r.fl+32*r.mask) (by omega),bV (by omega)]
theorem aNO{t:Int}{r:RM}(h:r.Ok t):aK8 r.g=true∧aK7 r.g=fJ r:=by
 refine aK (t:=TD r.g) (P:=fun q=>q=fJ r) ?_
 have f:=aR.1 h.fw;have k:=aR.1 h.mw;have t1:=h.t1;have e1:dH 32 r.mask=32*r.mask:=hJ (by omega)
 have b1: ∀(b:Bool)(n:Int),(bif b then n else 0)=0∨(bif b then n else 0)=n:=fun b n=>by cases b<;>simp
 have c1:=b1 r.sup 256;have c2:=b1 r.tr 512;unfold TD fJ;simp only[aB,aA,eS,eT,aW,cM,aV,bL,aU,aT,(OH _ _).1,(OH _ _).2,e1,aD,bP,wz,Bool.and_true,Bool.and_self,true_and];rw[bV (x:=r.fl) (by omega),bV (x:=r.fl+32*r.mask) (by omega),bV (by omega)]
theorem aDU{t v:Int}{r:RM}(h:r.Ok t)(hv:cI v 0 1023=true):aV9 v r.g=true∧aV8 v r.g=(dN r v).g:=by
 refine aK (t:=a2I v r.g) (P:=fun q=>q=(dN r v).g) ?_
 obtain⟨b1,b2,b3,b4,b5,-,-⟩:=zV h;obtain⟨c1,c2⟩:=aTZ hv;have hv':=aR.1 hv;have e1:bH v 31=v%32:=i6 5 _ (by omega) (by decide)
 have e2:bH (eZ v 5) 7=v/32%8:=by rw[kQ (n:=5) 5 rfl (by omega)];exact i6 3 _ (by omega) (by decide)
 unfold a2I dN;simp only[aB,aJ,aA,aJW,eS,eT,aW,cM,aV,bL,aU,aT,bA,bI,b1,b2,b3,b4,b5,c1,c2,e1,e2,dX,List.length_set,aD,bP,wz,Bool.and_true,Bool.true_or,Bool.or_true,true_and];cases hs:eqI (v/256%2) 1<;>cases hp:r.sup<;>simp[vG]<;>rfl
def FZ(s:Bool)(f:aL):Int:=(bif f.Write then 1 else 0)+(bif s then 2 else 0)
theorem aUD(w s:Bool):eW (bif w then 1 else 0) (bif s then 2 else 0)=(bif w then 1 else 0)+(bif s then 2 else 0):=by cases w<;>cases s<;>decide+kernel
theorem a9D(c:aI)(f:aL):bLF c f=true∧bLE c f=FZ c.R.Super f:=by
 refine aK (t:=a2E c f) (P:=fun q=>q=FZ c.R.Super f) ?_
 unfold a2E FZ;simp only[aB,aA,(OH _ _).1,(OH _ _).2,aUD,Bool.and_true,true_and]
theorem a9E(s:Bool)(f:aL):bN1 s f=true∧bN0 s f=FZ s f:=by
 refine aK (t:=a5Q s f) (P:=fun q=>q=FZ s f) ?_
 unfold a5Q FZ;simp only[aB,aA,(fK _ _).1,(fK _ _).2,aUD,Bool.and_true,true_and]
def nV(r:RM)(f:aL):List Int:=bif zZ f then [f.PC,fJ r,f.Word,f.Addr,FZ r.sup f]else [f.PC,fJ r]
theorem bG2{t:Int}{r:RM}{zs:List Int}{l:List aE}{s h:Bool}(f:aL)(hr:r.Ok t):bLI (bF r zs l s h) f=true∧aAS (bF r zs l s h) f=ri (nV r f):=by
 refine aK (t:=a2G (bF r zs l s h) f) (P:=fun q=>q=ri (nV r f)) ?_
 obtain⟨a1,a2⟩:=a9C hr;unfold a2G nV;simp only[aB,aJ,aA,a2F,show(bF r zs l s h).R=r.g from rfl,show(bF r zs l s h).Bus=qF zs l from rfl,a1,a2,(aF8 f).1,(aF8 f).2,(a9D _ f).1,(a9D _ f).2,aD,bP,wz,bO,cU,bG,cV,aU,Bool.and_true,Bool.and_self,true_and]
 cases zZ f<;>simp<;>rfl
theorem bG3{t:Int}{r:RM}(f:aL)(hr:r.Ok t):bN4 r.g f=true∧aB8 r.g f=ri (nV r f):=by
 refine aK (t:=a5R r.g f) (P:=fun q=>q=ri (nV r f)) ?_
 obtain⟨a1,a2⟩:=aF2 hr;unfold a5R nV;simp only[aB,aJ,aA,a1,a2,(aF9 f).1,(aF9 f).2,(a9E _ f).1,(a9E _ f).2,aU,Bool.and_true,true_and];cases zZ f<;>simp<;>rfl
end Go.Proofs.YtdipcnijfkdnfaaGreatIrqs

namespace Go.Proofs.YtdipcnijfkdnfaaGreatIrqs
open Go Go.Zq
set_option maxHeartbeats 4000000
set_option maxRecDepth 100000
def pk(m:MM)(F:List Int):Nat→MM
 |0=>m
 |i+1=>bif cG (pk m F i)then dZ (pk m F i) (F.getD i 0)else pk m F i
def FW(F:List Int):Prop:= ∀i:Nat,0≤F.getD i 0∧F.getD i 0≤65535
theorem VB{t:Int}{m:MM}{F:List Int}(hm:m.Ok t)(hF:FW F): ∀i,(pk m F i).Ok t
 |0=>hm
 |i+1=>cF (P:=fun z=>MM.Ok t z) (fun _=>aTP (VB hm hF i) (hF i).1 (hF i).2) (fun _=>VB hm hF i)
theorem aDV(m:MM)(F:List Int): ∀i,(pk m F i).stop=m.stop
 |0=>rfl
 |i+1=>cF (P:=fun z:MM=>z.stop=m.stop) (fun _=>(X9 _ _).trans (aDV m F i)) (fun _=>aDV m F i)
theorem bG4{m:MM}{v:Int}(h:m.f=f0)(k:cG (dZ m v)=true):(dZ m v).f=f0:=by
 have e:(cS m 2 2 ((cX m.r.a 3-2)%65536) v).1.f=f0∨cG (cS m 2 2 ((cX m.r.a 3-2)%65536) v).1=false:=by
  unfold cS cG;dsimp only;rw[h];cases hc:dC (cY 2 2 ((cX m.r.a 3-2)%65536)) 0
  ·exact Or.inl rfl
  ·right
   cases eqI (cY 2 2 ((cX m.r.a 3-2)%65536)) 2<;>rfl
 unfold dZ at k⊢;cases hf:cG (cS m 2 2 ((cX m.r.a 3-2)%65536) v).1
 ·rw[hf,cond_false,hf]at k;exact absurd k (by decide)
 ·rw[cond_true];rcases e with e|e
  ·exact e
  ·rw[e]at hf;exact absurd hf (by decide)
theorem bIZ{m:MM}{F:List Int}(h:m.f=f0): ∀i,cG (pk m F i)=true→(pk m F i).f=f0
 |0,_=>h
 |i+1,k=>by
  unfold pk at k⊢;cases hc:cG (pk m F i)
  ·rw[hc,cond_false,hc]at k;exact absurd k (by decide)
  ·rw[hc,cond_true]at k;exact bG4 (bIZ h i hc) k
theorem bI0{m:MM}{F:List Int}{i:Nat}(h:m.f=f0)(k:cG (pk m F i)=true):pk m F i=mm (pk m F i).r (pk m F i).zs (pk m F i).l m.stop:=by
 have e:=bIZ h i k;have s:=aDV m F i;generalize pk m F i=p at e s;obtain⟨p1,p2,p3,p4,p5⟩:=p;dsimp only at e s;subst e s;rfl
theorem aUE{m:MM}{F:List Int}{i:Nat}(h:cG (pk m F i)=false): ∀d,pk m F (i+d)=pk m F i
 |0=>rfl
 |d+1=>by
  have ih:=aUE h d;show(bif cG (pk m F (i+d))then dZ (pk m F (i+d)) (F.getD (i+d) 0)else pk m F (i+d))=_
  rw[ih,h];rfl
theorem aDW{F:List Int}{i:Nat}(h:i<F.length):bQ (ri F) i 0=F.getD i 0:=by
 rw[oZ h,List.getD_eq_getElem?_getD,List.getElem?_eq_getElem h];rfl
theorem bG5{t:Int}{m:MM}{F:List Int}(hm:m.Ok t)(hF:FW F)(hl:F.length≤5)(f:aL)(c:aI):a53 (V103_0.mk f c m.g (ri F) (F.length:Int) 0)=true∧a52 (V103_0.mk f c m.g (ri F) (F.length:Int) 0)=V103_0.mk f c (pk m F F.length).g (ri F) (F.length:Int) (F.length:Int):=by
 refine J6 (N:=DF) (fun i=>V103_0.mk f c (pk m F i).g (ri F) (F.length:Int) (i:Int)) F.length (by omega) (fun i hi=>?_) ?_
 ·have hm':=VB hm hF i;obtain⟨p1,p2⟩:=a8M hm' (hF i).1 (hF i).2;have l1:ltI (i:Int) (F.length:Int)=true:=by rw[eK];omega
  have l3:leI 0 (i:Int)=true:=by simp
  have a1:bE (i:Int) 1=((i+1:Nat):Int):=by rw[bV (by omega)];omega
  have b1:dU [.int .i64] (ri F) i 0=true:=EN ⟨F,rfl⟩ (by rw[bI];exact hi)
  unfold DF;simp only[aB,aJ,aA,A8,eQ,cJ,cC,bT,eS,eT,aW,cM,aV,bL,aU,aT,bA,bI,l1,l3,a1,b1,Int.toNat_natCast,Nat.zero_add,aDW hi,p1,p2,eH,aD,bP,wz,bO,cU,bG,cV,Bool.and_true,true_and,Bool.true_eq_false,false_implies,and_true,forall_const];refine⟨fun q=>?_,fun q=>?_⟩
  ·have q':cG (pk m F i)=true:=q;show _=some (V103_0.mk f c (MM.g (bif cG (pk m F i)then dZ (pk m F i) (F.getD i 0)else pk m F i)) (ri F) (F.length:Int) ((i+1:Nat):Int))
   rw[q',cond_true]
  ·have q':cG (pk m F i)=false:=q;show _=some (V103_0.mk f c (MM.g (bif cG (pk m F i)then dZ (pk m F i) (F.getD i 0)else pk m F i)) (ri F) (F.length:Int) ((i+1:Nat):Int))
   rw[q',cond_false]
 ·have l1:ltI (F.length:Int) (F.length:Int)=false:=by simp
  unfold DF;simp only[aB,aJ,aA,l1,true_and,Bool.false_eq_true,false_implies,implies_true]
end Go.Proofs.YtdipcnijfkdnfaaGreatIrqs

namespace Go.Proofs.YtdipcnijfkdnfaaGreatIrqs
open Go Go.Zq
set_option maxHeartbeats 4000000
set_option maxRecDepth 100000
theorem bG6{t:Int}{r:RM}{zs:List Int}{l:List aE}{F:List Int}(s h:Bool)(f:aL)(hr:r.Ok t)(hb:BusOk zs l)(hF:FW F)(hl:F.length≤5):a2T (V102_0.mk (bF r zs l s h) f (ri F) (F.length:Int) 0)=true∧ ∃j:Nat,j≤F.length∧a2S (V102_0.mk (bF r zs l s h) f (ri F) (F.length:Int) 0)=V102_0.mk (bF (pk (mm r zs l s) F j).r (pk (mm r zs l s) F j).zs (pk (mm r zs l s) F j).l s h) f (ri F) (F.length:Int) (j:Int)∧cG (pk (mm r zs l s) F j)=true∧(j<F.length→cG (dZ (pk (mm r zs l s) F j) (F.getD j 0))=false):=by
 have hm:(mm r zs l s).Ok t:=⟨hr,hb⟩;refine kD (Post:=fun w=> ∃j:Nat,j≤F.length∧w=V102_0.mk (bF (pk (mm r zs l s) F j).r (pk (mm r zs l s) F j).zs (pk (mm r zs l s) F j).l s h) f (ri F) (F.length:Int) (j:Int)∧cG (pk (mm r zs l s) F j)=true∧(j<F.length→cG (dZ (pk (mm r zs l s) F j) (F.getD j 0))=false)) (eX (fun(n:Nat) (v:V102_0)=> ∃i:Nat,i+n=F.length∧v=V102_0.mk (bF (pk (mm r zs l s) F i).r (pk (mm r zs l s) F i).zs (pk (mm r zs l s) F i).l s h) f (ri F) (F.length:Int) (i:Int)∧cG (pk (mm r zs l s) F i)=true) _ ?_ 2097152 F.length _ ⟨0,by omega,rfl,rfl⟩ (by omega))
 rintro n v ⟨i,hi,rfl,hf⟩
 have hm':=VB hm hF i;have e:=bI0 (m:=mm r zs l s) (F:=F) (i:=i) rfl hf;obtain⟨p1,p2⟩:=aNM (s:=s) (h:=h) hm'.r hm'.b (hF i).1 (hF i).2;have pf:=aX0 (pk (mm r zs l s) F i).r (pk (mm r zs l s) F i).zs (pk (mm r zs l s) F i).l s (F.getD i 0);rw[show mm (pk (mm r zs l s) F i).r (pk (mm r zs l s) F i).zs (pk (mm r zs l s) F i).l s=pk (mm r zs l s) F i from e.symm]at p2 pf
 rcases Nat.lt_or_ge i F.length with hlt|hge
 ·have l1:ltI (i:Int) (F.length:Int)=true:=by rw[eK];omega
  have l3:leI 0 (i:Int)=true:=by simp
  have a1:bE (i:Int) 1=((i+1:Nat):Int):=by rw[bV (by omega)];omega
  have b1:dU [.int .i64] (ri F) i 0=true:=EN ⟨F,rfl⟩ (by rw[bI];exact hlt)
  have N: ∀(x:Int),dC x 0=!eqI x 0:=fun x=>by
   cases hx:eqI x 0
   ·rw[gT]at hx;exact oM.2 hx
   ·rw[dS]at hx;exact OC.2 hx
  unfold HJ;simp only[aB,aJ,aA,v7,show(bF (pk (mm r zs l s) F i).r (pk (mm r zs l s) F i).zs (pk (mm r zs l s) F i).l s h).R=(pk (mm r zs l s) F i).r.g from rfl,show(bF (pk (mm r zs l s) F i).r (pk (mm r zs l s) F i).zs (pk (mm r zs l s) F i).l s h).Bus=qF (pk (mm r zs l s) F i).zs (pk (mm r zs l s) F i).l from rfl,eS,eT,aW,cM,aV,bL,aU,aT,bA,bI,l1,l3,a1,b1,Int.toNat_natCast,Nat.zero_add,aDW hlt,p1,p2,N,←pf,aD,bP,wz,bO,cU,bG,cV,Bool.and_true,true_and,Bool.true_eq_false,false_implies,and_true,forall_const]
  refine⟨fun q=>?_,fun q=>?_⟩
  ·have q':=FV q;exact⟨i,by omega,rfl,hf,fun _=>q'⟩
  ·have q':=FX q;have e1:pk (mm r zs l s) F (i+1)=dZ (pk (mm r zs l s) F i) (F.getD i 0):=by
    show(bif cG (pk (mm r zs l s) F i)then dZ (pk (mm r zs l s) F i) (F.getD i 0)else pk (mm r zs l s) F i)=_
    rw[hf,cond_true]
   refine⟨n-1,by omega,i+1,by omega,?_,?_⟩
   ·rw[e1]
   ·rw[e1];exact q'
 ·obtain rfl:i=F.length:=by omega
  have l1:ltI (F.length:Int) (F.length:Int)=false:=by simp
  unfold HJ;simp only[aB,aJ,aA,l1,true_and,Bool.false_eq_true,false_implies,forall_const];exact⟨F.length,by omega,rfl,hf,fun h=>absurd h (by omega)⟩
end Go.Proofs.YtdipcnijfkdnfaaGreatIrqs

namespace Go.Proofs.YtdipcnijfkdnfaaGreatIrqs
open Go Go.Zq
set_option maxHeartbeats 4000000
set_option maxRecDepth 100000
theorem kR(r:RM)(zs:List Int)(l:List aE)(s h:Bool):(bF r zs l s h).R=r.g:=rfl
theorem nA(r:RM)(zs:List Int)(l:List aE)(s h:Bool):(bF r zs l s h).Bus=qF zs l:=rfl
theorem kS(r:RM)(zs:List Int)(l:List aE)(s h:Bool):(bF r zs l s h).Stop=s:=rfl
theorem kG(r:RM)(zs:List Int)(l:List aE)(s h:Bool):(bF r zs l s h).Halt=h:=rfl
theorem iX(r:RM)(zs:List Int)(l:List aE)(s h:Bool):aI.mk r.g (qF zs l) s h=bF r zs l s h:=rfl
def aNP(P:MM)(q:MM×Int):aI:=bif cG q.1 then bF {P.r with pc:=q.2} q.1.zs q.1.l false false else bF P.r q.1.zs q.1.l false true
def aNQ(P:MM)(vec:Int):aI:=bif cG P then aNP P (cS P 1 2 (2*vec) 0)else bF P.r P.zs P.l false true
def KH(m:MM)(F:List Int)(vec:Int):aI:=aNQ (pk m F F.length) vec
def vE(r:RM):Int:=r.fl+32*r.mask+256
theorem cKB{r:RM}(h:r.Ok 65535):eW (gB (fJ r) 512) 256=vE r∧cI (vE r) 0 1023=true:=by
 have f:=aR.1 h.fw;have k:=aR.1 h.mw;have key: ∀n:Fin 1024,eW (gB (n.val:Int) 512) 256=(n.val:Int)%256+256:=by decide+kernel
 have hs:fJ r=r.fl+32*r.mask+(bif r.sup then 256 else 0)+(bif r.tr then 512 else 0):=rfl
 have b1: ∀(b:Bool)(n:Int),(bif b then n else 0)=0∨(bif b then n else 0)=n:=fun b n=>by cases b<;>simp
 have c1:=b1 r.sup 256;have c2:=b1 r.tr 512;have r0:0≤fJ r∧fJ r<1024∧fJ r%256=r.fl+32*r.mask:=by omega
 obtain⟨n,hn⟩:=Int.eq_ofNat_of_zero_le r0.1;refine⟨?_,by rw[aR];unfold vE;omega⟩
 have kk:=key ⟨n,by omega⟩
 unfold vE;rw[←r0.2.2,hn];exact kk
theorem VC{f:aL}(h:mZ f=true):(2≤f.Vector∧f.Vector≤21)∧(0≤f.PC∧f.PC≤65535)∧(0≤f.Addr∧f.Addr≤65535)∧(0≤f.Word∧f.Word≤65535):=by
 unfold mZ at h;simp only[Bool.and_eq_true,aR]at h;exact⟨h.1,h.2.1,h.2.2.1,h.2.2.2.1⟩
theorem a9F{t:Int}{r:RM}{f:aL}(hr:r.Ok t)(h:mZ f=true):FW (nV r f)∧(nV r f).length≤5:=by
 obtain⟨h1,h2,h3,h4⟩:=VC h;have s:=US hr;have i:0≤FZ r.sup f∧FZ r.sup f≤65535:=by
  unfold FZ;cases f.Write<;>cases r.sup<;>simp
 unfold nV;cases zZ f
 ·refine⟨fun n=>?_,by simp⟩
  match n with
  |0=>exact h2
  |1=>exact s
  |n+2=>exact⟨by simp,by simp⟩
 ·refine⟨fun n=>?_,by simp⟩
  match n with
  |0=>exact h2
  |1=>exact s
  |2=>exact h4
  |3=>exact h3
  |4=>exact i
  |n+5=>exact⟨by simp,by simp⟩
theorem KI{m:MM}{v:Int}(h:2≤v∧v≤21):AccOk 2 0 (2*v) m:=⟨Or.inr rfl,by decide,by rw[aR];omega⟩
theorem aUF{r:RM}{zs:List Int}{l:List aE}{s:Bool}{f:aL}(hr:r.Ok 65535)(hb:BusOk zs l)(hg:mZ f=true):aBA f (bF r zs l s false)=true∧aA9 f (bF r zs l s false)=KH (mm (dN r (vE r)) zs l false) (nV r f) f.Vector:=by
 refine aK (t:=a2U f (bF r zs l s false)) (P:=fun q=>q=KH (mm (dN r (vE r)) zs l false) (nV r f) f.Vector) ?_
 obtain⟨gv,-⟩:=VC hg;obtain⟨v1,v2⟩:=cKB hr;obtain⟨st1,st2⟩:=aNN hr;obtain⟨ss1,ss2⟩:=aDU hr v2;obtain⟨fr1,fr2⟩:=bG2 (zs:=zs) (l:=l) (s:=s) (h:=false) f hr;obtain⟨w1,w2⟩:=a9F hr hg;have hr':(dN r (vE r)).Ok 65535:=EQ hr;have hm:(mm (dN r (vE r)) zs l false).Ok 65535:=⟨hr',hb⟩;obtain⟨e1,j,hj,e2,e3,e4⟩:=bG6 false false f hr' hb w1 w2;have em:dH 2 f.Vector=2*f.Vector:=hJ (by omega)
 have hp:=VB hm w1 j;have pj:=bI0 (m:=mm (dN r (vE r)) zs l false) (F:=nV r f) (i:=j) rfl e3;have hP:(if j<(nV r f).length then pk (mm (dN r (vE r)) zs l false) (nV r f) (nV r f).length=dZ (pk (mm (dN r (vE r)) zs l false) (nV r f) j) ((nV r f).getD j 0)else pk (mm (dN r (vE r)) zs l false) (nV r f) (nV r f).length=pk (mm (dN r (vE r)) zs l false) (nV r f) j):=by
  split
  ·rename_i hlt;have s1:pk (mm (dN r (vE r)) zs l false) (nV r f) (j+1)=dZ (pk (mm (dN r (vE r)) zs l false) (nV r f) j) ((nV r f).getD j 0):=by
    show(bif cG (pk (mm (dN r (vE r)) zs l false) (nV r f) j)then dZ (pk (mm (dN r (vE r)) zs l false) (nV r f) j) ((nV r f).getD j 0)else pk (mm (dN r (vE r)) zs l false) (nV r f) j)=_
    rw[e3,cond_true]
   have s2:=aUE (m:=mm (dN r (vE r)) zs l false) (F:=nV r f) (i:=j+1) (by rw[s1];exact e4 hlt) ((nV r f).length-(j+1))
   rw[show j+1+((nV r f).length-(j+1))=(nV r f).length by omega]at s2
   rw[s2,s1]
  ·rw[show j=(nV r f).length by omega]
 obtain⟨p1,p2⟩:=aNM (s:=false) (h:=false) hp.r hp.b (w1 j).1 (w1 j).2;obtain⟨t1,t2⟩:=EP (k:=1) (a:=2*f.Vector) ((KI gv).t hp) (KI (m:=pk (mm (dN r (vE r)) zs l false) (nV r f) j) gv).ha (fun _=>rfl)
 have t1':HI 1 2 (2*f.Vector) 0 (qF (pk (mm (dN r (vE r)) zs l false) (nV r f) j).zs (pk (mm (dN r (vE r)) zs l false) (nV r f) j).l)=true:=t1;have t2':=t2;rw[show(bM.mk (ri (pk (mm (dN r (vE r)) zs l false) (nV r f) j).zs) ((pk (mm (dN r (vE r)) zs l false) (nV r f) j).l.map aE.row))=qF (pk (mm (dN r (vE r)) zs l false) (nV r f) j).zs (pk (mm (dN r (vE r)) zs l false) (nV r f) j).l from rfl]at t2'
 have fc:=jR (m:=pk (mm (dN r (vE r)) zs l false) (nV r f) j) (k:=1) (s:=2) (a:=2*f.Vector) (v:=0) (by unfold cG at e3;simpa using e3)
 rw[show mm (pk (mm (dN r (vE r)) zs l false) (nV r f) j).r (pk (mm (dN r (vE r)) zs l false) (nV r f) j).zs (pk (mm (dN r (vE r)) zs l false) (nV r f) j).l false=pk (mm (dN r (vE r)) zs l false) (nV r f) j from pj.symm]at p2
 clear pj
 unfold KH;generalize pk (mm (dN r (vE r)) zs l false) (nV r f) j=p at*;have N: ∀(x:Int),dC x 0=!eqI x 0:=fun x=>by
  cases hx:eqI x 0
  ·rw[gT]at hx;exact oM.2 hx
  ·rw[dS]at hx;exact OC.2 hx
 unfold a2U;rcases Nat.lt_or_ge j (nV r f).length with hlt|hge
 ·rw[if_pos hlt]at hP;rw[hP];have l1:ltI (j:Int) ((nV r f).length:Int)=true:=by rw[eK];omega
  have nf:=e4 hlt;simp only[aB,aJ,aA,aA8,aA7,HK,aA6,lI,aA5,aA4,ME,kR,nA,kS,kG,iX,eS,eT,aW,cM,aV,bL,aU,aT,bA,bI,st1,st2,v1,ss1,ss2,fr1,fr2,e1,e2,l1,Int.toNat_natCast,Nat.zero_add,aDW hlt,p1,p2,aD,bP,wz,bO,cU,bG,cV,UL,UM,Bool.and_true,Bool.and_self,true_and,Bool.true_eq_false,false_implies,and_true,forall_const];unfold aNQ;rw[nf];exact⟨by simp,rfl⟩
 ·rw[if_neg (by omega)]at hP
  rw[hP];obtain rfl:j=(nV r f).length:=by omega
  have l1:ltI ((nV r f).length:Int) ((nV r f).length:Int)=false:=by simp
  simp only[aB,aJ,aA,aA8,aA7,HK,aA6,lI,aA5,aA4,ME,kR,nA,kS,kG,iX,eS,eT,aW,cM,aV,bL,aU,aT,bA,bI,st1,st2,v1,ss1,ss2,fr1,fr2,e1,e2,l1,em,t1',t2',N,show eqI 1 2=false from rfl,cond_false,Int.toNat_natCast,Nat.zero_add,aD,bP,wz,bO,cU,bG,cV,UL,UM,Bool.and_true,Bool.and_self,true_and,Bool.false_eq_true,false_implies,and_true,forall_const]
  unfold aNQ aNP;rw[e3,fc,cond_true];refine⟨by simp,fun q=>?_,fun q=>?_⟩
  ·rw[FV q];rfl
  ·rw[FX q];rfl
end Go.Proofs.YtdipcnijfkdnfaaGreatIrqs

namespace Go.Proofs.YtdipcnijfkdnfaaGreatIrqs
open Go Go.Zq
set_option maxHeartbeats 4000000
set_option maxRecDepth 100000
theorem bQ0(m:MM)(r:RM):(aS.mk r.g (qF m.zs m.l) false m.f)=MM.g {m with r:=r,stop:=false}:=rfl
theorem g_B(m:MM):m.g.fbus=qF m.zs m.l:=rfl
theorem bG7(m:MM)(b:Bool)(v:Int):dZ {m with stop:=b} v={dZ m v with stop:=b}:=by
 have a:cS {m with stop:=b} 2 2 ((cX m.r.a 3-2)%65536) v=({(cS m 2 2 ((cX m.r.a 3-2)%65536) v).1 with stop:=b},(cS m 2 2 ((cX m.r.a 3-2)%65536) v).2):=rfl
 unfold dZ;show(bif cG (cS {m with stop:=b} 2 2 ((cX m.r.a 3-2)%65536) v).1 then _ else _)=_
 rw[a];show(bif cG (cS m 2 2 ((cX m.r.a 3-2)%65536) v).1 then _ else _)=_
 cases cG (cS m 2 2 ((cX m.r.a 3-2)%65536) v).1<;>rfl
theorem bI1(m:MM)(F:List Int)(b:Bool): ∀i,pk {m with stop:=b} F i={pk m F i with stop:=b}
 |0=>rfl
 |i+1=>by
  show(bif cG (pk {m with stop:=b} F i)then dZ (pk {m with stop:=b} F i) (F.getD i 0)else pk {m with stop:=b} F i)={(bif cG (pk m F i)then dZ (pk m F i) (F.getD i 0)else pk m F i)with stop:=b}
  rw[bI1 m F b i];show(bif cG (pk m F i)then dZ {pk m F i with stop:=b} (F.getD i 0)else{pk m F i with stop:=b})=_
  rw[bG7];cases cG (pk m F i)<;>rfl
theorem cKC{fl mk:Int}(h1:cI fl 0 31=true)(h2:cI mk 0 7=true):eW (eW fl (dH 32 mk)) 256=fl+32*mk+256:=by
 rw[aR]at h1 h2;obtain⟨a,rfl⟩:=Int.eq_ofNat_of_zero_le h1.1;obtain⟨b,rfl⟩:=Int.eq_ofNat_of_zero_le h2.1;have key: ∀a:Fin 32,∀b:Fin 8,eW (eW (a.val:Int) (dH 32 (b.val:Int))) 256=(a.val:Int)+32*(b.val:Int)+256:=by decide+kernel
 exact key ⟨a,by omega⟩ ⟨b,by omega⟩
theorem aUG{r:RM}{zs:List Int}{l:List aE}{s h:Bool}{f:aL}{mk:Int}(hr:r.Ok 65535)(hb:BusOk zs l)(hg:mZ f=true)(hk:cI mk 0 7=true):V1 (bF r zs l s h) f mk=true∧V0 (bF r zs l s h) f mk=KH (mm (dN r (r.fl+32*mk+256)) zs l false) (nV r f) f.Vector:=by
 refine aK (t:=a54 (bF r zs l s h) f mk) (P:=fun q=>q=KH (mm (dN r (r.fl+32*mk+256)) zs l false) (nV r f) f.Vector) ?_
 obtain⟨gv,-⟩:=VC hg;have v1:=cKC hr.fw hk;have v2:cI (r.fl+32*mk+256) 0 1023=true:=by
  have h1:=aR.1 hr.fw;have h2:=aR.1 hk;rw[aR];omega
 generalize r.fl+32*mk+256=v at*;obtain⟨d1,d2⟩:=aT6 (s:=s) (h:=h) hr hb;have d2':i5 (bF r zs l s h)=(mm r zs l s).g:=d2;obtain⟨ss1,ss2⟩:=aDO hr v2;obtain⟨fr1,fr2⟩:=bG3 f hr;obtain⟨w1,w2⟩:=a9F hr hg;have hr':(dN r v).Ok 65535:=EQ hr;have hm:(mm (dN r v) zs l s).Ok 65535:=⟨hr',hb⟩;obtain⟨e1,e2⟩:=bG5 hm w1 w2 f ⟨⟨[],[],0,0,0,0,false,false⟩,⟨[],[]⟩,false,false⟩;have em:dH 2 f.Vector=2*f.Vector:=hJ (by omega)
 have hp:=VB hm w1 (nV r f).length;have pe:KH (mm (dN r v) zs l false) (nV r f) f.Vector=aNQ {pk (mm (dN r v) zs l s) (nV r f) (nV r f).length with stop:=false} f.Vector:=by
  unfold KH;rw[←bI1];rfl
 rw[pe];generalize pk (mm (dN r v) zs l s) (nV r f) (nV r f).length=p at*;obtain⟨a1,a2⟩:=UN (k:=1) hp (KI gv);obtain⟨o1,o2⟩:=zD (k:=1) hp (KI gv) (by decide)
 have ae:cS {p with stop:=false} 1 2 (2*f.Vector) 0=({(cS p 1 2 (2*f.Vector) 0).1 with stop:=false},(cS p 1 2 (2*f.Vector) 0).2):=rfl
 have ar:(cS p 1 2 (2*f.Vector) 0).1.r=p.r:=rfl;have am:mm r zs l s=⟨r,zs,l,s,f0⟩:=rfl;generalize cS p 1 2 (2*f.Vector) 0=q at*;have c1:=aT7 (m:={p with stop:=false}) (t:=65535) ⟨hp.r,hp.b⟩
 have c2:=aT7 (m:={q.1 with stop:=false}) (t:=65535) ⟨o1.r,o1.b⟩
 have c3:=aT7 (m:={q.1 with r:={q.1.r with pc:=q.2},stop:=false}) (t:=65535) ⟨o1.r.setP (by rw[aR];exact rD o2),o1.b⟩
 have b0:(aS.mk (dN r v).g (qF zs l) s f0)=(mm (dN r v) zs l s).g:=rfl;unfold a54;simp only[aB,aJ,aA,HS,HR,HQ,uC,uB,aLY,aLX,TT,aLW,d1,d2',show(mm r zs l s).g.fr=r.g from rfl,show(mm r zs l s).g.fbus=qF zs l from rfl,show(mm r zs l s).g.fstop=s from rfl,show(mm r zs l s).g.ffault=f0 from rfl,eS,eT,aW,cM,aV,bL,aU,aT,bA,bI,v1,ss1,ss2,fr1,fr2,b0,e1,e2,em,a1,a2,eQ,g_B,cC,bT,kF,bQ0,c1,c2,c3,eH,UL,UM,aD,bP,wz,bO,cU,bG,cV,Bool.and_true,Bool.and_self,true_and]
 unfold aNQ aNP;rw[ae];have X: ∀z:aI,(z=bif cG p then(bif cG q.1 then bF {p.r with pc:=q.2} q.1.zs q.1.l false false else bF p.r q.1.zs q.1.l false true)else bF p.r p.zs p.l false true)→z=bif cG {p with stop:=false}then(bif cG ({q.1 with stop:=false}:MM)then bF {p.r with pc:=q.2} q.1.zs q.1.l false false else bF p.r q.1.zs q.1.l false true)else bF p.r p.zs p.l false true:=fun z h=>h
 refine⟨by simp,fun h1=>⟨fun h2=>X _ ?_,fun h2=>X _ ?_⟩,fun h1=>X _ ?_⟩
 ·rw[show cG p=true from h1,show cG q.1=true from h2,h2,ar,cond_true,cond_true];rfl
 ·rw[show cG p=true from h1,show cG q.1=false from h2,h2,ar,cond_true,cond_false];rfl
 ·rw[show cG p=false from h1,h1,cond_false];rfl
end Go.Proofs.YtdipcnijfkdnfaaGreatIrqs

namespace Go.Proofs.YtdipcnijfkdnfaaGreatIrqs
open Go Go.Zq
set_option maxHeartbeats 4000000
set_option maxRecDepth 100000
end Go.Proofs.YtdipcnijfkdnfaaGreatIrqs

namespace Go.Proofs.YtdipcnijfkdnfaaGreatIrqs
open Go Go.Zq
set_option maxHeartbeats 4000000
set_option maxRecDepth 100000
theorem bG8{s f v:Int}(hs:s=1∨s=2):hY s f v=eW (bH f 16) (eW (bif eqI v 0 then 4 else 0) (bif geI v (cD s/2)then 8 else 0)):=by
 refine(aK (t:=aMC s f v) (P:=fun r=>r=eW (bH f 16) (eW (bif eqI v 0 then 4 else 0) (bif geI v (cD s/2)then 8 else 0))) ?_).2
 unfold aMC;simp only[aB,aA,(EV hs).1,(EV hs).2,Bool.and_true,true_and]
theorem a9G{s f v:Int}(hs:s=1∨s=2):bMF s f v=true∧bME s f v=hY s f v:=by
 refine aK (t:=a3Q s f v) (P:=fun r=>r=hY s f v) ?_
 unfold a3Q;simp only[aB,aA,(aXK hs).1,(aXK hs).2,bG8 hs,Bool.and_true,true_and]
theorem bG9{s a b:Int}(ha:dK s a=true)(hb:dK s b=true):VY s 0 a b=true∧JW s 0 a b=((a-b)%cD s,IB s a b):=by
 refine aK (t:=a3V s 0 a b) (P:=fun r=>r=((a-b)%cD s,IB s a b)) ?_
 obtain⟨h,a0,a1⟩:=pS ha;obtain⟨-,b0,b1⟩:=pS hb;have l:=rC h;have sa:=xX h a0 a1;have sb:=xX h b0 b1;obtain⟨p1,p2⟩:=XW h a0 (by omega)
 obtain⟨q1,q2⟩:=XW h b0 (by omega)
 have e1:cN (cN a b) 0=a-b:=by rw[eV (x:=a) (by omega),eV (by omega)];omega
 have e2:cN (cN (zU s a) (zU s b)) 0=zU s a-zU s b:=by rw[eV (x:=zU s a) (by omega),eV (by omega)];omega
 unfold a3V;simp only[aB,aA,aKT,aKS,p1,p2,q1,q2,e1,e2,(bGK h).1,(bGK h).2,Bool.and_true,true_and];rfl
theorem b6J{s f a b:Int}(ha:dK s a=true)(hb:dK s b=true):aMY s f a b=eW (bH (IB s a b) 15) (bH f 16):=by
 refine(aK (t:=aMX s f a b) (P:=fun r=>r=eW (bH (IB s a b) 15) (bH f 16)) ?_).2
 obtain⟨h1,h2⟩:=a8D ha hb;unfold aMX;simp only[aB,aA,h1,h2,Bool.and_true,true_and]
theorem cKD{s f a b:Int}(ha:dK s a=true)(hb:dK s b=true):bMH s f a b=true∧bMG s f a b=aMY s f a b:=by
 refine aK (t:=a3W s f a b) (P:=fun r=>r=aMY s f a b) ?_
 obtain⟨h1,h2⟩:=bG9 ha hb;unfold a3W;simp only[aB,aA,h1,h2,b6J ha hb,Bool.and_true,true_and];unfold IB;rw[a8T]
theorem aUH{s v:Int}(hs:s=1∨s=2)(h0:0≤v)(h1:v<cD s):eZ v (cN (dH 8 s) 1)=bif geI v (cD s/2)then 1 else 0:=by
 rcases hs with rfl|rfl
 ·rw[show cN (dH 8 1) 1=7 from by decide,kQ (n:=7) 7 rfl (by omega)]
  have h1:v<256:=h1;show v/128=bif geI v 128 then 1 else 0
  cases h:geI v 128
  ·rw[aFV]at h;rw[cond_false];omega
  ·rw[J5]at h;rw[cond_true];omega
 ·rw[show cN (dH 8 2) 1=15 from by decide,kQ (n:=15) 15 rfl (by omega)]
  have h1:v<65536:=h1;show v/32768=bif geI v 32768 then 1 else 0
  cases h:geI v 32768
  ·rw[aFV]at h;rw[cond_false];omega
  ·rw[J5]at h;rw[cond_true];omega
theorem k8{p:Int→Prop}{k:Int}(h:cI k 0 7=true)(f: ∀n:Fin 8,p (n.val:Int)):p k:=by
 rw[aR]at h;obtain⟨n,rfl⟩:=Int.eq_ofNat_of_zero_le h.1;exact f ⟨n,by omega⟩
theorem b6K{k:Int}(h:cI k 0 7=true):bD7 k=true∧aWP k=eqI (bH k 1) 0:=by
 refine aK (t:=a33 k) (P:=fun r=>r=eqI (bH k 1) 0) ?_
 unfold a33;simp only[aB,aA,true_and];exact k8 (p:=fun k=>eqI (nM k 2) 0=eqI (bH k 1) 0) h (by decide+kernel)
theorem a9H(k:Int):a6R k=eqI (bH k 1) 0:=by
 refine(aK (t:=aMF k) (P:=fun r=>r=eqI (bH k 1) 0) ?_).2
 unfold aMF;simp only[aB,aA,true_and]
theorem bHA{c x v z:Int}(hc:VL c)(hx:x=0∨x=16)(hv:v=0∨v=2)(hz:z=0∨z=4∨z=8∨z=12):eW (eW (eW c x) v) z=eW (eW (eW c z) v) x:=by
 rcases hc with rfl|rfl<;>rcases hx with rfl|rfl<;>rcases hv with rfl|rfl<;>rcases hz with rfl|rfl|rfl|rfl<;>decide+kernel
theorem cKE{k s f v c:Int}(hs:s=1∨s=2)(hv0:0≤v)(hv1:v<cD s)(hk:cI k 0 7=true)(hf:cI f 0 31=true):bMP k s f v c=true∧bMO k s f v c=bif eqI k 1 then(bif geI v (cD s/2)then 1 else 0)else(bif (bif eqI k 4 then eqI k 4 else eqI k 5)then c else(bif (bif eqI k 6 then eqI k 6 else eqI k 7)then(bif dC (bH f 16) 0 then 1 else 0)else 0)):=by
 refine aK (t:=a35 k s f v c) (P:=fun r=>r=bif eqI k 1 then(bif geI v (cD s/2)then 1 else 0)else(bif (bif eqI k 4 then eqI k 4 else eqI k 5)then c else(bif (bif eqI k 6 then eqI k 6 else eqI k 7)then(bif dC (bH f 16) 0 then 1 else 0)else 0))) ?_
 have e:lQ f 16=bif dC (bH f 16) 0 then 1 else 0:=rF (p:=fun f=>lQ f 16=bif dC (bH f 16) 0 then 1 else 0) hf (by decide+kernel)
 have z:leI 0 (cN (dH 8 s) 1)=true:=by rcases hs with rfl|rfl<;>decide
 unfold a35;simp only[aB,aJ,aA,aUH hs hv0 hv1,e,z,Bool.and_true,true_and];refine⟨fun q=>by rw[q];rfl,fun q=>?_⟩
 rw[q];refine⟨fun q=>by rw[q];rfl,fun q=>?_⟩
 rw[q];exact⟨fun q=>by rw[q];rfl,fun q=>by rw[q];rfl⟩
end Go.Proofs.YtdipcnijfkdnfaaGreatIrqs

namespace Go.Proofs.YtdipcnijfkdnfaaGreatIrqs
open Go Go.Zq
set_option maxHeartbeats 4000000
set_option maxRecDepth 100000
theorem bQ1{s x:Int}(hs:s=1∨s=2)(h:VL x):m7 x (cN (dH 8 s) 1)=dH x (cD s/2):=by
 rcases hs with rfl|rfl<;>rcases h with rfl|rfl<;>decide
theorem b6L{k s f v:Int}(hs:s=1∨s=2)(hv:dK s v=true)(hf:cI f 0 31=true)(hk:cI k 0 7=true):bMR k s f v=true∧bMQ k s f v=OV k s f v:=by
 have lv:=kE hs hv;obtain⟨-,v0,v1⟩:=pS hv;obtain⟨l1,l2⟩:=b6K hk;have sp:=aDL (k:=k) hs hv hf;have b2:HW s v=bif geI v (cD s/2)then 1 else 0:=by
  unfold HW;rw[(fK _ _).2,(kY hs).2,aNE hs]
 have b3:lZ k s v=bif eqI (bH k 1) 0 then(bif geI v (cD s/2)then 1 else 0)else bH v 1:=by
  unfold lZ;rw[a9H,b2]
 have c3:VL (lZ k s v):=by
  rw[b3];exact DU (rG _) aTU
 have a0:MI k s v=lZ k s v:=by
  unfold MI;rw[l2,aUH hs v0 v1,b3]
 obtain⟨m1,m2⟩:=cKE (c:=lZ k s v) hs v0 v1 hk hf;have b4:DJ k s f v=aBN k s f v:=by
  unfold DJ aBN aMH aMG;rw[a0,m2,b2,(fK _ _).2]
 have c4:VL (DJ k s f v):=by
  unfold DJ;rw[b2,(fK _ _).2];exact DU (rG _) (DU c3 (DU (rG _) (Or.inl rfl)))
 have hm:cN (dH 2 (lQ (cD s) 2)) 1=cN (cD s) 1:=by rcases hs with rfl|rfl<;>decide
 have b5:MJ k s f v=oY k s f v:=by
  unfold MJ oY;rw[l2,a9H,←b4,(iK hs).2,(kY hs).2,hm,bQ1 hs c4,aNE hs]
 obtain⟨sp1,sp2,-⟩:=sp;have w5:OV k s f v=(oY k s f v,(OV k s f v).2)∧(OV k s f v).2=eW (HX k s f v) (bif (bif eqI k 4 then true else eqI k 5)then bH f 16 else dH (lZ k s v) 16):=by
  refine(aK (t:=aMK k s f v) (P:=fun r=>r=(oY k s f v,r.2)∧r.2=eW (HX k s f v) (bif (bif eqI k 4 then true else eqI k 5)then bH f 16 else dH (lZ k s v) 16)) ?_).2
  unfold aMK;simp only[aB,aJ,aA,(kY hs).1,(fK _ _).1,a8Q,(EV hs).1,Bool.and_true,Bool.true_or,Bool.or_true,true_and];exact⟨fun q=>by rw[q];rfl,fun q=>by rw[q];rfl⟩
 have v5:dK s (oY k s f v)=true:=by rw[w5.1]at sp2;exact sp2
 obtain⟨-,u0,u1⟩:=pS v5;have t5:=aUH hs u0 u1;have tv:=aUH hs v0 v1;have z7:leI 0 (cN (dH 8 s) 1)=true:=by rcases hs with rfl|rfl<;>decide
 refine aK (t:=a36 k s f v) (P:=fun r=>r=OV k s f v) ?_
 rw[w5.1,w5.2];unfold a36 aKZ;simp only[aB,aA,a0,b5,l1,l2,m1,z7,(iK hs).1,(zA _ _).1,(zA _ _).2,(aXK hs).1,(aXK hs).2,Bool.and_true,Bool.true_or,Bool.or_true,true_and];refine Prod.ext rfl ?_;show eW (eW (eW (dH (lZ k s v) 1) (bif (bif eqI k 4 then true else eqI k 5)then bH f 16 else dH (lZ k s v) 16)) _) _=_
 unfold HX aMJ aMI;rw[(EV hs).2,(fK _ _).2,(fK _ _).2,(kY hs).2,aNE hs,b2,t5,tv];have mc:dH (lZ k s v) 1=lZ k s v:=by rcases c3 with h|h<;>rw[h]<;>decide
 have hx:(bif (bif eqI k 4 then true else eqI k 5)then bH f 16 else dH (lZ k s v) 16)=0∨(bif (bif eqI k 4 then true else eqI k 5)then bH f 16 else dH (lZ k s v) 16)=16:=by
  cases(bif eqI k 4 then true else eqI k 5)
  ·rw[cond_false];rcases c3 with h|h<;>rw[h]<;>decide
  ·exact a8O hf
 rw[mc];have sym:dC (bif geI (oY k s f v) (cD s/2)then 1 else 0) (bif geI v (cD s/2)then 1 else 0)=dC (bif geI v (cD s/2)then 1 else 0) (bif geI (oY k s f v) (cD s/2)then 1 else 0):=by
  cases geI (oY k s f v) (cD s/2)<;>cases geI v (cD s/2)<;>rfl
 rw[sym];generalize (bif eqI k 0 then dC (bif geI v (cD s/2)then 1 else 0) (bif geI (oY k s f v) (cD s/2)then 1 else 0)else false)=V
 have hv2:(bif V then(2:Int)else 0)=0∨(bif V then(2:Int)else 0)=2:=by cases V<;>simp
 have hz: ∀a b:Bool,eW (bif a then 4 else 0) (bif b then 8 else 0)=0∨eW (bif a then 4 else 0) (bif b then 8 else 0)=4∨eW (bif a then 4 else 0) (bif b then 8 else 0)=8∨eW (bif a then 4 else 0) (bif b then 8 else 0)=12:=by
  intro a b;cases a<;>cases b<;>decide
 exact bHA c3 hx hv2 (hz _ _)
noncomputable def VD(k s:Int):Nat→Int→Int→Int→Int×Int×Int
 |0,f,v,a=>(f,v,a)
 |n+1,f,v,a=>VD k s n (OV k s f v).2 (OV k s f v).1 (eW a (bH (OV k s f v).2 2))
theorem b6M{k s f v:Int}{n:Nat}(hs:s=1∨s=2)(hv:dK s v=true)(hf:cI f 0 31=true)(hn:n≤100):TY (V218_0.mk k s f v (n:Int) 0)=true∧(A9 (V218_0.mk k s f v (n:Int) 0)).s2=(VD k s n f v 0).1∧(A9 (V218_0.mk k s f v (n:Int) 0)).s3=(VD k s n f v 0).2.1∧(A9 (V218_0.mk k s f v (n:Int) 0)).s13=(VD k s n f v 0).2.2:=by
 unfold TY A9;refine kD (Post:=fun w:V218_0=>w.s2=(VD k s n f v 0).1∧w.s3=(VD k s n f v 0).2.1∧w.s13=(VD k s n f v 0).2.2) (eX (fun(m:Nat) (w:V218_0)=>w.s0=k∧w.s1=s∧w.s4=(m:Int)∧m≤100∧dK s w.s3=true∧cI w.s2 0 31=true∧VD k s m w.s2 w.s3 w.s13=VD k s n f v 0) _ ?_ 2097152 n _ ⟨rfl,rfl,rfl,hn,hv,hf,rfl⟩ (by omega))
 rintro m w ⟨e0,e1,e2,e3,e4,e5,e6⟩
 obtain⟨o1,o2,o3⟩:=aDL (k:=k) hs e4 e5;unfold HY;simp only[aB,aJ,aA,wK,e0,e1,e2,o1,rB,FS,Bool.and_true,true_and];refine⟨fun q=>⟨m-1,by omega,?_,by omega,o2,o3,?_⟩,fun q=>?_⟩
 ·rw[eV (by omega)];omega
 ·obtain⟨p,rfl⟩: ∃p,m=p+1:=⟨m-1,by omega⟩
  rw[←e6];rfl
 ·obtain rfl:m=0:=by omega
  rw[←e6];exact⟨rfl,rfl,rfl⟩
theorem b6N{k s f v:Int}{n:Nat}(hs:s=1∨s=2)(hv:dK s v=true)(hf:cI f 0 31=true)(hk:cI k 0 7=true)(hn:n≤100):aK0 (V268_0.mk k s f v (n:Int) 0)=true∧((SY (V268_0.mk k s f v (n:Int) 0)).s2=(VD k s n f v 0).1∧(SY (V268_0.mk k s f v (n:Int) 0)).s3=(VD k s n f v 0).2.1∧(SY (V268_0.mk k s f v (n:Int) 0)).s14=(VD k s n f v 0).2.2):=by
 unfold aK0 SY;refine kD (Post:=fun w:V268_0=>w.s2=(VD k s n f v 0).1∧w.s3=(VD k s n f v 0).2.1∧w.s14=(VD k s n f v 0).2.2) (eX (fun(m:Nat) (w:V268_0)=>w.s0=k∧w.s1=s∧w.s4=(m:Int)∧m≤100∧dK s w.s3=true∧cI w.s2 0 31=true∧VD k s m w.s2 w.s3 w.s14=VD k s n f v 0) _ ?_ 2097152 n _ ⟨rfl,rfl,rfl,hn,hv,hf,rfl⟩ (by omega))
 rintro m w ⟨e0,e1,e2,e3,e4,e5,e6⟩
 obtain⟨-,o2,o3⟩:=aDL (k:=k) hs e4 e5;obtain⟨o1,o4⟩:=b6L hs e4 e5 hk;unfold MK;simp only[aB,aJ,aA,A4,e0,e1,e2,o1,o4,rB,FS,Bool.and_true,true_and];refine⟨fun q=>⟨m-1,by omega,?_,by omega,o2,o3,?_⟩,fun q=>?_⟩
 ·rw[eV (by omega)];omega
 ·obtain⟨p,rfl⟩: ∃p,m=p+1:=⟨m-1,by omega⟩
  rw[←e6];rfl
 ·obtain rfl:m=0:=by omega
  rw[←e6];exact⟨rfl,rfl,rfl⟩
theorem byJ{k s f v c:Int}(hs:s=1∨s=2)(hv:dK s v=true)(hf:cI f 0 31=true)(hk:cI k 0 7=true)(h0:1≤c)(h1:c≤100):bMT k s f v c=true∧bMS k s f v c=aFP k s f v c:=by
 obtain⟨n,rfl⟩:=Int.eq_ofNat_of_zero_le (show 0≤c by omega)
 have hc:eqI (n:Int) 0=false:=by rw[gT];omega
 obtain⟨ik,a1,a2,a3⟩:=b6M (k:=k) hs hv hf (n:=n) (by omega)
 obtain⟨b0,b1,b2,b3⟩:=b6N hs hv hf hk (n:=n) (by omega)
 have e:aFP k s f v (n:Int)=((VD k s n f v 0).2.1,eW (VD k s n f v 0).1 (VD k s n f v 0).2.2):=by
  refine(aK (t:=aML k s f v (n:Int)) (P:=fun r=>r=((VD k s n f v 0).2.1,eW (VD k s n f v 0).1 (VD k s n f v 0).2.2)) ?_).2
  unfold aML;simp only[aB,aJ,aA,TZ,aC0,(EV hs).1,(fK _ _).1,hc,ik,a1,a2,a3,Bool.and_true,true_and,Bool.false_eq_true,false_implies,implies_true]
 refine aK (t:=a37 k s f v (n:Int)) (P:=fun r=>r=aFP k s f v (n:Int)) ?_
 unfold a37;simp only[aB,aJ,aA,aBR,aK1,hc,b0,b1,b2,b3,e,Bool.and_true,true_and,Bool.false_eq_true,false_implies,implies_true]
end Go.Proofs.YtdipcnijfkdnfaaGreatIrqs

namespace Go.Proofs.YtdipcnijfkdnfaaGreatIrqs
open Go Go.Zq
set_option maxHeartbeats 4000000
set_option maxRecDepth 100000
theorem bP4{c:Int}(h:cI c 0 31=true):nM c 2=bH c 1:=rF (p:=fun c=>nM c 2=bH c 1) h (by decide+kernel)
theorem bQ2(c f:Int):a6S c f=bif eqI c 2 then eqI (bH f 5) 0 else bif eqI c 4 then eqI (bH f 1) 0 else bif eqI c 6 then eqI (bH f 4) 0 else bif eqI c 8 then eqI (bH f 2) 0 else bif eqI c 10 then eqI (bH f 8) 0 else bif eqI c 12 then vG (dC (bH f 8) 0) (dC (bH f 2) 0)else bif eqI c 14 then(bif vG (dC (bH f 8) 0) (dC (bH f 2) 0)then eqI (bH f 4) 0 else false)else true:=by
 refine(aK (t:=aMN c f) (P:=fun r=>r=bif eqI c 2 then eqI (bH f 5) 0 else bif eqI c 4 then eqI (bH f 1) 0 else bif eqI c 6 then eqI (bH f 4) 0 else bif eqI c 8 then eqI (bH f 2) 0 else bif eqI c 10 then eqI (bH f 8) 0 else bif eqI c 12 then vG (dC (bH f 8) 0) (dC (bH f 2) 0)else bif eqI c 14 then(bif vG (dC (bH f 8) 0) (dC (bH f 2) 0)then eqI (bH f 4) 0 else false)else true) ?_).2
 unfold aMN;simp only[aB,aJ,aA,aMM,true_and];refine⟨fun q=>by rw[q];rfl,fun q=>?_⟩
 rw[q];refine⟨fun q=>by rw[q];rfl,fun q=>?_⟩
 rw[q];refine⟨fun q=>by rw[q];rfl,fun q=>?_⟩
 rw[q];refine⟨fun q=>by rw[q];rfl,fun q=>?_⟩
 rw[q];refine⟨fun q=>by rw[q];rfl,fun q=>?_⟩
 rw[q];refine⟨fun q=>by rw[q];rfl,fun q=>?_⟩
 rw[q];exact⟨fun q=>by rw[q];rfl,fun q=>by rw[q];rfl⟩
theorem bQ3(c f:Int):aMP c f=vG (a6S (gB c 1) f) (eqI (bH c 1) 0):=by
 refine(aK (t:=aMO c f) (P:=fun r=>r=vG (a6S (gB c 1) f) (eqI (bH c 1) 0)) ?_).2
 unfold aMO;simp only[aB,aA,a8R,Bool.and_true,true_and]
theorem b6O(a f:Int):OT a f=true∧ML a f=dC (bH f a) 0:=by
 refine aK (t:=a38 a f) (P:=fun r=>r=dC (bH f a) 0) ?_
 unfold a38;simp only[aB,aA,true_and]
theorem bHB(x y:Int):(!(dC x y))=eqI x y:=by
 cases h:eqI x y
 ·rw[gT]at h;have:dC x y=true:=by rw[oM];exact h
  rw[this];rfl
 ·rw[dS]at h;have:dC x y=false:=by rw[OC];exact h
  rw[this];rfl
theorem b6P{c f:Int}(hc:cI c 0 31=true):bMX c f=true∧bMW c f=aMP c f:=by
 refine aK (t:=a39 c f) (P:=fun r=>r=aMP c f) ?_
 rw[bQ3,bQ2];have hr:=bP4 hc;unfold a39;simp only[aB,aJ,aA,(b6O _ _).1,(b6O _ _).2,hr,bHB,Bool.and_true,Bool.true_or,Bool.or_true,true_and];refine⟨fun q=>by rw[q];rfl,fun q=>?_⟩
 rw[q];refine⟨fun q=>by rw[q];rfl,fun q=>?_⟩
 rw[q];refine⟨fun q=>by rw[q];rfl,fun q=>?_⟩
 rw[q];refine⟨fun q=>by rw[q];rfl,fun q=>?_⟩
 rw[q];refine⟨fun q=>by rw[q];rfl,fun q=>?_⟩
 rw[q];refine⟨fun q=>by rw[q];rfl,fun q=>?_⟩
 rw[q];refine⟨fun q=>?_,fun q=>by rw[q];rfl⟩
 rw[q,cond_true,cond_false,cond_false,cond_false,cond_false,cond_false,cond_false];cases eqI (bH f 4) 0<;>cases vG (dC (bH f 8) 0) (dC (bH f 2) 0)<;>rfl
end Go.Proofs.YtdipcnijfkdnfaaGreatIrqs

namespace Go.Proofs.YtdipcnijfkdnfaaGreatIrqs
open Bool renaming and_true → qt
open Go Go.Zq
set_option maxHeartbeats 4000000
set_option maxRecDepth 100000
theorem aDX{v:Int}(h:cI v 0 255=true):a4I v=true∧bM3 v=i7 v:=by
 refine aK (t:=a4H v) (P:=fun q=>q=i7 v) ?_
 have e1:eZ v 4=v/16:=kQ (n:=4) 4 rfl (by omega)
 have e2:bH v 15=v%16:=i6 4 _ (by omega) (by decide)
 rw[(X4 v).2,e1,e2,h];unfold a4H;simp only[aB,aA,lT,lS,e2,qt,true_and];rw[aR]at h;cases h1:cI v 0 153<;>cases h2:leI (v/16) 9<;>cases h3:leI (v%16) 9<;>try rfl
 ·rw[mY]at h2 h3;have:cI v 0 153=true:=aR.2 (by omega)
  rw[h1]at this;cases this
 ·rw[aFU]at h2;rw[aR]at h1;omega
theorem aUI{c a b:Int}(hc:VL c)(ha:cI a 0 255=true)(hb:cI b 0 255=true):bEI c [bB a,bB b]=true∧bEH c [bB a,bB b]=(i7 a&&i7 b):=by
 refine aK (t:=a4K c [bB a,bB b]) (P:=fun q=>q=(i7 a&&i7 b)) ?_
 have hc1:cI c 0 1=true:=by rcases hc with rfl|rfl<;>decide
 have L:aK4 (V303_0.mk c (ri [a,b]) 2 0)=true∧((S6 (V303_0.mk c (ri [a,b]) 2 0)).s0=c∧ltI (S6 (V303_0.mk c (ri [a,b]) 2 0)).s9 (S6 (V303_0.mk c (ri [a,b]) 2 0)).s8=!(i7 a&&i7 b)):=by
  unfold aK4 S6;refine kD (Post:=fun w:V303_0=>w.s0=c∧ltI w.s9 w.s8=!(i7 a&&i7 b)) (eX (fun(m:Nat) (w:V303_0)=>w.s0=c∧w.s7=ri [a,b]∧w.s8=2∧w.s9=((2-m:Nat):Int)∧m≤2∧(m≤1→i7 a=true)∧(m=0→i7 b=true)) _ ?_ 2097152 2 _ ⟨rfl,rfl,rfl,rfl,by omega,by omega,by omega⟩ (by omega))
  rintro m w ⟨e0,e1,e2,e3,e4,e5,e6⟩
  have ka:a4I a=true:=(aDX ha).1;have kb:a4I b=true:=(aDX hb).1;have ga:=(aDX ha).2;have gb:=(aDX hb).2;unfold MR;have hm:m=2∨m=1∨m=0:=by omega
  rcases hm with rfl|rfl|rfl
  ·have g0:bQ (ri [a,b]) (Int.toNat ((2-2:Nat):Int)) 0=a:=rfl;have g1:hZ [.int .i64] (ri [a,b]) ((2-2:Nat):Int)=true:=uK (zs:=[a,b]) (by simp only[List.length_cons,List.length_nil];omega)
   have l:ltI ((2-2:Nat):Int) 2=true:=rfl;simp only[aB,aJ,aA,e0,e1,e2,e3,l,g0,g1,ka,ga,qt,true_and,forall_const,Bool.true_eq_false,false_implies,and_true];refine⟨fun q=>?_,fun q=>⟨1,by omega,?_⟩⟩
   rotate_left
   ·have q:i7 a=true:=by simpa using q
    exact⟨by decide,by omega,fun _=>q,by omega⟩
   have q:i7 a=false:=by simpa using q
   rw[q];rfl
  ·have g0:bQ (ri [a,b]) (Int.toNat ((2-1:Nat):Int)) 0=b:=rfl;have g1:hZ [.int .i64] (ri [a,b]) ((2-1:Nat):Int)=true:=uK (zs:=[a,b]) (by simp only[List.length_cons,List.length_nil];omega)
   have l:ltI ((2-1:Nat):Int) 2=true:=rfl;simp only[aB,aJ,aA,e0,e1,e2,e3,l,g0,g1,kb,gb,qt,true_and,forall_const,Bool.true_eq_false,false_implies,and_true];refine⟨fun q=>?_,fun q=>⟨0,by omega,?_⟩⟩
   rotate_left
   ·have q:i7 b=true:=by simpa using q
    exact⟨by decide,by omega,fun _=>e5 (by omega),fun _=>q⟩
   have q:i7 b=false:=by simpa using q
   rw[q,Bool.and_false];rfl
  ·have l:ltI ((2-0:Nat):Int) 2=false:=rfl;simp only[aB,aJ,aA,e0,e1,e2,e3,l,e5 (by omega),e6 rfl,Bool.false_eq_true,false_implies,true_and,forall_const]
   rfl
 obtain⟨L1,L2,L3⟩:=L;have ei:cA (ri [a,b])=2:=rfl;have er:[bB a,bB b]=ri [a,b]:=rfl;unfold a4K;simp only[aB,aJ,aA,S7,ei,er,L1,L2,L3,(bIU _).1,(bIU _).2,hc1,qt,true_and];cases i7 a&&i7 b<;>simp
theorem bHC{v:Int}(h:Bcd v):aWV v=true∧VZ v=v/16*10+v%16:=by
 refine aK (t:=a4L v) (P:=fun q=>q=v/16*10+v%16) ?_
 have e1:eZ v 4=v/16:=kQ (n:=4) 4 rfl (by omega)
 have e2:bH v 15=v%16:=i6 4 _ (by omega) (by decide)
 obtain⟨h1,h2,h3,h4⟩:=h;unfold a4L;simp only[aB,aA,e1,e2,show leI 0 4=true from rfl,qt,true_and]
 rw[hJ (by omega),bV (by omega)]
theorem cKF(n:Int):tG n=eW (m7 (lQ n 10) 4) (nM n 10):=by
 refine(aK (t:=aMS n) (P:=fun q=>q=eW (m7 (lQ n 10) 4) (nM n 10)) ?_).2
 unfold aMS;simp only[aB,aA,show dC 10 0=true from rfl,show leI 0 4=true from rfl,qt,true_and]
theorem ofJ(n:Int):bEK n=true∧bEJ n=tG n:=by
 refine aK (t:=a4M n) (P:=fun q=>q=tG n) ?_
 rw[cKF];unfold a4M;simp only[aB,aA,show dC 10 0=true from rfl,show leI 0 4=true from rfl,qt,true_and]
theorem b6Q{n:Int}(h0: -100≤n)(h1:n≤199):bEM n=true∧bEL n=bif cI n 0 99 then(tG n,0)else(tG ((n+100)%100),1):=by
 refine aK (t:=a4N n) (P:=fun q=>q=bif cI n 0 99 then(tG n,0)else(tG ((n+100)%100),1)) ?_
 have e:nM (bE n 100) 100=(n+100)%100:=by
  rw[bV (by omega)];unfold nM;exact Int.tmod_eq_emod_of_nonneg (by omega)
 unfold a4N;simp only[aB,aJ,aA,lT,lS,(ofJ _).1,(ofJ _).2,e,show dC 100 0=true from rfl,qt,true_and]
 exact⟨fun q=>by rw[q];rfl,fun q=>by rw[q];rfl⟩
theorem b6R{c a b:Int}(hc:VL c)(ha:cI a 0 255=true)(hb:cI b 0 255=true):bM9 c a b=true∧bM8 c a b=bif i7 a&&i7 b then((OW c a b).1,(OW c a b).2,true)else(0,0,false):=by
 refine aK (t:=a4O c a b) (P:=fun q=>q=bif i7 a&&i7 b then((OW c a b).1,(OW c a b).2,true)else(0,0,false)) ?_
 obtain⟨r1,r2⟩:=aUI hc ha hb;unfold a4O;simp only[aB,aJ,aA,r1,r2,qt,true_and];refine⟨fun q=>by rw[FV q,cond_false],fun q=>?_⟩
 have q:(i7 a&&i7 b)=true:=FX q;rw[q,cond_true];rw[Bool.and_eq_true]at q;obtain⟨a1,a2⟩:=bHC (kW q.1);obtain⟨b1,b2⟩:=bHC (kW q.2);obtain⟨c1,c2⟩:=OF (kW q.1);obtain⟨d1,d2⟩:=OF (kW q.2);obtain⟨h1,h2,h3,h4⟩:=kW q.1;obtain⟨h5,h6,h7,h8⟩:=kW q.2;have hc':0≤c∧c≤1:=by rcases hc with rfl|rfl<;>decide
 have e1:bE (bE (a/16*10+a%16) (b/16*10+b%16)) c=a/16*10+a%16+(b/16*10+b%16)+c:=by rw[bV (x:=a/16*10+a%16) (by omega),bV (by omega)]
 obtain⟨n,hn⟩: ∃n:Int,n=a/16*10+a%16+(b/16*10+b%16)+c:=⟨_,rfl⟩;rw[←hn]at e1;have n0:0≤n∧n≤199:=by omega
 have e2:nM n 100=n%100:=by unfold nM;exact Int.tmod_eq_emod_of_nonneg n0.1
 have e3:lQ n 100=n/100:=by unfold lQ;rw[Int.tdiv_eq_ediv_of_nonneg n0.1,IntKind.wrap_i64];omega
 have sp:OW c a b=(tG (n%100),n/100):=by
  refine(aK (t:=aMT c a b) (P:=fun q=>q=(tG (n%100),n/100)) ?_).2
  unfold aMT;simp only[aB,aA,aC1,c1,c2,d1,d2,e1,e2,e3,(aNI (n:=n%100) (by omega) (by omega)).1,show dC 100 0=true from rfl,qt,true_and]
 obtain⟨k1,k2⟩:=b6Q (n:=n) (by omega) (by omega)
 have hh:(bif cI n 0 99 then(tG n,(0:Int))else(tG ((n+100)%100),1))=(tG (n%100),n/100):=by
  cases h:cI n 0 99
  ·have h':¬(0≤n∧n≤99):=fun z=>by rw[aR.2 z]at h;cases h
   rw[cond_false,show(n+100)%100=n%100 by omega,show n/100=1 by omega]
  ·rw[aR]at h;rw[cond_true,show n%100=n by omega,show n/100=0 by omega]
 simp only[aK5,a1,a2,b1,b2,e1,k1,k2,hh,sp,qt,true_and]
theorem b6S{c a b:Int}(hc:VL c)(ha:cI a 0 255=true)(hb:cI b 0 255=true):bNB c a b=true∧bNA c a b=bif i7 a&&i7 b then((OX c a b).1,(OX c a b).2,true)else(0,0,false):=by
 refine aK (t:=a4P c a b) (P:=fun q=>q=bif i7 a&&i7 b then((OX c a b).1,(OX c a b).2,true)else(0,0,false)) ?_
 obtain⟨r1,r2⟩:=aUI hc ha hb;unfold a4P;simp only[aB,aJ,aA,r1,r2,qt,true_and];refine⟨fun q=>by rw[FV q,cond_false],fun q=>?_⟩
 have q:(i7 a&&i7 b)=true:=FX q;rw[q,cond_true];rw[Bool.and_eq_true]at q;obtain⟨a1,a2⟩:=bHC (kW q.1);obtain⟨b1,b2⟩:=bHC (kW q.2);obtain⟨c1,c2⟩:=OF (kW q.1);obtain⟨d1,d2⟩:=OF (kW q.2);obtain⟨h1,h2,h3,h4⟩:=kW q.1;obtain⟨h5,h6,h7,h8⟩:=kW q.2;have hc':0≤c∧c≤1:=by rcases hc with rfl|rfl<;>decide
 have e1:cN (cN (a/16*10+a%16) (b/16*10+b%16)) c=a/16*10+a%16-(b/16*10+b%16)-c:=by rw[eV (x:=a/16*10+a%16) (by omega),eV (by omega)]
 obtain⟨n,hn⟩: ∃n:Int,n=a/16*10+a%16-(b/16*10+b%16)-c:=⟨_,rfl⟩;rw[←hn]at e1;have n0: -100≤n∧n≤99:=by omega
 have e2:bE n 100=n+100:=bV (by omega)
 have sp:OX c a b=bif ltI n 0 then(tG (n+100),1)else(tG n,0):=by
  refine(aK (t:=aMU c a b) (P:=fun q=>q=bif ltI n 0 then(tG (n+100),1)else(tG n,0)) ?_).2
  unfold aMU;simp only[aB,aJ,aA,aC2,c1,c2,d1,d2,e1,e2,qt,true_and];refine⟨fun z=>?_,fun z=>?_⟩
  ·rw[z];rw[eK]at z;refine⟨?_,rfl⟩;by_cases hz:n+100≤99
   ·exact(aNI (n:=n+100) (by omega) hz).1
   ·exact(aNI (n:=n+100) (by omega) (by omega)).1
  ·rw[z];rw[pA]at z;exact⟨(aNI (n:=n) (by omega) (by omega)).1,rfl⟩
 obtain⟨k1,k2⟩:=b6Q (n:=n) (by omega) (by omega)
 have hh:(bif cI n 0 99 then(tG n,(0:Int))else(tG ((n+100)%100),1))=bif ltI n 0 then(tG (n+100),1)else(tG n,0):=by
  cases h:ltI n 0
  ·rw[pA]at h;rw[aR.2 ⟨h,n0.2⟩,cond_true,cond_false]
  ·rw[eK]at h;have:cI n 0 99=false:=by
    cases hz:cI n 0 99
    ·rfl
    ·rw[aR]at hz;omega
   rw[this,cond_false,cond_true,show(n+100)%100=n+100 by omega]
 simp only[aK6,a1,a2,b1,b2,e1,k1,k2,hh,sp,qt,true_and]
end Go.Proofs.YtdipcnijfkdnfaaGreatIrqs

namespace Go.Proofs.YtdipcnijfkdnfaaGreatIrqs
open Go Go.Zq
set_option maxHeartbeats 4000000
set_option maxRecDepth 100000
def ff(pc w:Int):aL:=⟨0,pc,0,w,false⟩
def dG(x:aQ)(pc w:Int)(f:aL):bK:=⟨x,pc,w,f⟩
def dF(m:MM):aL:=bif cG m then f0 else m.f
theorem oT(x:aQ)(pc w:Int)(f:aL):(dG x pc w f).fx=x:=rfl
theorem pC(x:aQ)(pc w:Int)(f:aL):(dG x pc w f).fpc=pc:=rfl
theorem pH(x:aQ)(pc w:Int)(f:aL):(dG x pc w f).fword=w:=rfl
theorem oU(x:aQ)(pc w:Int)(f:aL):(dG x pc w f).ffault=f:=rfl
theorem cKG(x:aQ)(pc w:Int)(f:aL):bK.mk x pc w f=dG x pc w f:=rfl
def VE(v p:Int)(f:aL)(w:Int):aL:=bif eqI f.Vector 0 then⟨v,p,0,w,false⟩else f
theorem sQ(v p:Int)(x:aQ)(pc w:Int)(f:aL)(c:aI):aKC v p (dG x pc w f) c=true∧aKB v p (dG x pc w f) c=dG x pc w (VE v p f w):=by
 refine aK (t:=a3G v p (dG x pc w f) c) (P:=fun q=>q=dG x pc w (VE v p f w)) ?_
 unfold a3G VE;simp only[aB,aJ,aA,aKA,oT,pC,pH,oU,aD,bP,wz,Bool.and_true,true_and];exact⟨fun q=>by rw[q];rfl,fun q=>by rw[q];rfl⟩
theorem NH(c:Int):a2W c=true∧aWA c=bif eqI c 2 then 3 else 2:=by
 refine aK (t:=a2V c) (P:=fun q=>q=bif eqI c 2 then 3 else 2) ?_
 unfold a2V;simp only[aB,aJ,aA,true_and];exact⟨fun q=>by rw[q];rfl,fun q=>by rw[q];rfl⟩
def aDY(code addr:Int)(wr:Bool)(f:aL)(pc w:Int):aL:=bif (bif eqI code 0 then true else dC f.Vector 0)then f else⟨bif eqI code 2 then 3 else 2,pc,addr,w,wr⟩
theorem qD(code addr:Int)(wr:Bool)(x:aQ)(pc w:Int)(f:aL)(c:aI):aWG code addr wr (dG x pc w f) c=true∧aWF code addr wr (dG x pc w f) c=dG x pc w (aDY code addr wr f pc w):=by
 refine aK (t:=a3K code addr wr (dG x pc w f) c) (P:=fun q=>q=dG x pc w (aDY code addr wr f pc w)) ?_
 unfold a3K aDY;simp only[aB,aJ,aA,aKO,aKN,oT,pC,pH,oU,(NH _).1,(NH _).2,(sQ _ _ _ _ _ _ _).1,(sQ _ _ _ _ _ _ _).2,aD,bP,wz,Bool.and_true,true_and];refine⟨fun q=>by rw[q];rfl,fun q=>?_⟩
 rw[q];have hf:eqI f.Vector 0=true:=by
  cases h:eqI f.Vector 0
  ·have:dC f.Vector 0=true:=by rw[gT]at h;exact oM.2 h
   rw[this]at q;cases h2:eqI code 0<;>rw[h2]at q<;>cases q
  ·rfl
 unfold VE;rw[hf];rfl
theorem NI{pc w:Int}{r:RM}{zs:List Int}{l:List aE}{s:Bool}(k sz a v:Int):dF (cS ⟨r,zs,l,s,ff pc w⟩ k sz a v).1=aDY (cY k sz a) a (eqI k 2) f0 pc w:=by
 have hf:cG (cS ⟨r,zs,l,s,ff pc w⟩ k sz a v).1=eqI (cY k sz a) 0:=jR rfl;unfold dF aDY;rw[hf];cases h:eqI (cY k sz a) 0
 ·have hn:dC (cY k sz a) 0=true:=by rw[gT]at h;exact oM.2 h
  unfold cS;dsimp only;rw[hn];rfl
 ·rfl
theorem aUJ{t:Int}{x:aQ}{pc w a:Int}{r:RM}{zs:List Int}{l:List aE}{s h:Bool}(hr:r.Ok t)(hb:BusOk zs l)(hs:x.Size=1∨x.Size=2)(ha:cI a 0 65535=true):a3M a (dG x pc w f0) (bF r zs l s h)=true∧kV a (dG x pc w f0) (bF r zs l s h)=(dG x pc w (dF (cS ⟨r,zs,l,s,ff pc w⟩ 1 x.Size a 0).1),bF r (cS ⟨r,zs,l,s,ff pc w⟩ 1 x.Size a 0).1.zs (cS ⟨r,zs,l,s,ff pc w⟩ 1 x.Size a 0).1.l s h,(cS ⟨r,zs,l,s,ff pc w⟩ 1 x.Size a 0).2):=by
 refine aK (t:=a3L a (dG x pc w f0) (bF r zs l s h)) (P:=fun q=>q=(dG x pc w (dF (cS ⟨r,zs,l,s,ff pc w⟩ 1 x.Size a 0).1),bF r (cS ⟨r,zs,l,s,ff pc w⟩ 1 x.Size a 0).1.zs (cS ⟨r,zs,l,s,ff pc w⟩ 1 x.Size a 0).1.l s h,(cS ⟨r,zs,l,s,ff pc w⟩ 1 x.Size a 0).2)) ?_
 have hT:TouchOk x.Size 0 zs l:=⟨hs,KC hs,hb.hz,hb.hb,hb.hl⟩;obtain⟨a1,a2⟩:=EP (k:=1) (a:=a) hT ha (fun e=>rfl)
 have a1':HI 1 x.Size a 0 (qF zs l)=true:=a1;have a2':JU 1 x.Size a 0 (qF zs l)=(qF (tB 1 x.Size a 0 zs) (tL 1 x.Size a 0 zs l),tV 1 x.Size a 0 zs,cY 1 x.Size a):=a2;rw[NI];unfold a3L;simp only[aB,aJ,aA,aBF,aBE,HM,oT,pC,pH,oU,kR,nA,kS,kG,a1',a2',(qD _ _ _ _ _ _ _ _).1,(qD _ _ _ _ _ _ _ _).2,aD,bP,wz,Bool.and_true,true_and];rfl
theorem bQ4{t:Int}{x:aQ}{pc w a v:Int}{r:RM}{zs:List Int}{l:List aE}{s h:Bool}(hr:r.Ok t)(hb:BusOk zs l)(hs:x.Size=1∨x.Size=2)(ha:cI a 0 65535=true)(hv:dK x.Size v=true):bML a v (dG x pc w f0) (bF r zs l s h)=true∧aWM a v (dG x pc w f0) (bF r zs l s h)=(dG x pc w (dF (cS ⟨r,zs,l,s,ff pc w⟩ 2 x.Size a v).1),bF r (cS ⟨r,zs,l,s,ff pc w⟩ 2 x.Size a v).1.zs (cS ⟨r,zs,l,s,ff pc w⟩ 2 x.Size a v).1.l s h):=by
 refine aK (t:=a3Z a v (dG x pc w f0) (bF r zs l s h)) (P:=fun q=>q=(dG x pc w (dF (cS ⟨r,zs,l,s,ff pc w⟩ 2 x.Size a v).1),bF r (cS ⟨r,zs,l,s,ff pc w⟩ 2 x.Size a v).1.zs (cS ⟨r,zs,l,s,ff pc w⟩ 2 x.Size a v).1.l s h)) ?_
 have hT:TouchOk x.Size v zs l:=⟨hs,hv,hb.hz,hb.hb,hb.hl⟩;obtain⟨a1,a2⟩:=EP (k:=2) (a:=a) hT ha (fun e=>absurd e (by decide))
 have a1':HI 2 x.Size a v (qF zs l)=true:=a1;have a2':JU 2 x.Size a v (qF zs l)=(qF (tB 2 x.Size a v zs) (tL 2 x.Size a v zs l),0,cY 2 x.Size a):=a2;rw[NI];unfold a3Z;simp only[aB,aJ,aA,aBM,aBL,MH,oT,pC,pH,oU,kR,nA,kS,kG,a1',a2',(qD _ _ _ _ _ _ _ _).1,(qD _ _ _ _ _ _ _ _).2,aD,bP,wz,Bool.and_true,true_and];rfl
theorem aGA{t:Int}{x:aQ}{pc w k:Int}{f:aL}{r:RM}{zs:List Int}{l:List aE}{s h:Bool}(hr:r.Ok t)(hs:x.Size=1∨x.Size=2)(hk:cI k 0 3=true):aFL k (dG x pc w f) (bF r zs l s h)=true∧aFK k (dG x pc w f) (bF r zs l s h)=cX r.d k%cD x.Size:=by
 refine aK (t:=a3I k (dG x pc w f) (bF r zs l s h)) (P:=fun q=>q=cX r.d k%cD x.Size) ?_
 obtain⟨d1,d2,d3⟩:=jQ hr.d4 hk;obtain⟨s1,s2,s3,s4,s5⟩:=f9 (v:=0) hr.d4 hk;rw[Nat.zero_add]at s5;unfold a3I;simp only[aB,aA,oT,kR,eS,Nat.zero_add,bA,bI,d2,s3,s4,s5,(iK hs).1,(iK hs).2,mask hs,aD,bP,wz,Bool.and_true,true_and]
theorem bHD{q:Int}(h0:0≤q)(h1:q≤65535):gB q 255=q/256*256:=by
 obtain⟨n,rfl⟩:=Int.eq_ofNat_of_zero_le h0;unfold gB;have e1:(BitVec.ofInt 64 (n:Int))&&& ~~~(BitVec.ofInt 64 255)=BitVec.ofNat 64 (n&&&18446744073709551360):=by
  apply BitVec.eq_of_toNat_eq;have hn:n<18446744073709551616:=by omega
  have ha:n&&&18446744073709551360<18446744073709551616:=Nat.lt_of_le_of_lt Nat.and_le_left hn;rw[BitVec.toNat_and,BitVec.toNat_not,BitVec.toNat_ofNat,BitVec.toNat_ofInt,BitVec.toNat_ofInt];rw[Nat.mod_eq_of_lt ha]
  congr 1
  omega
 rw[e1];have e2:n&&&18446744073709551360=n/256*256:=by
  have:n&&&18446744073709551360=(n/256&&&72057594037927935)*256:=by
   apply Nat.eq_of_testBit_eq;intro i;rw[show(n/256&&&72057594037927935)*256=(n/2^8&&&72057594037927935)<<<8 from by rw[Nat.shiftLeft_eq]]
   rw[Nat.testBit_shiftLeft,Nat.testBit_and,Nat.testBit_and,Nat.testBit_div_two_pow];by_cases hi:8≤i
   ·have:(18446744073709551360:Nat)=72057594037927935<<<8:=by decide
    rw[this,Nat.testBit_shiftLeft];simp[hi]
   ·have:(18446744073709551360:Nat)=72057594037927935<<<8:=by decide
    rw[this,Nat.testBit_shiftLeft];simp[hi]
  rw[this];have:n/256&&&72057594037927935=n/256%72057594037927936:=Nat.and_two_pow_sub_one_eq_mod (n:=56) (n/256);rw[this];omega
 rw[e2,BitVec.toNat_ofNat,IntKind.wrap_i64];omega
theorem a9I(a b:Int):eW a b=eW b a:=by
 unfold eW;rw[BitVec.or_comm]
theorem bQ5{q v:Int}(h0:0≤q)(h1:q≤65535)(h2:0≤v)(h3:v<256):eW v (gB q 255)=q%65536/256*256+v:=by
 rw[bHD h0 h1,a9I,UF (by omega) (by omega) h2 h3]
 omega
theorem bHE{l:List Int}{i v:Int}(hl:l.length=4)(hi:cI i 0 3=true):cX (l.set i.toNat v) i=v:=by
 obtain⟨-,-,hn⟩:=jQ hl hi;unfold cX;rw[sP (by rw[List.length_set];exact hn)]
 simp
theorem bQ6{s k:Int}(hs:s=1∨s=2):(bif eqI k 3 then 2 else s)=XZ s k:=by
 unfold XZ;rcases hs with rfl|rfl
 ·cases h:eqI k 3
  ·have:dC k 3=true:=by rw[gT]at h;exact oM.2 h
   rw[this];rfl
  ·have:dC k 3=false:=by rw[dS]at h;exact OC.2 h
   rw[this];rfl
 ·cases eqI k 3<;>rfl
theorem VF{t s:Int}{r:RM}{o:aG}(hr:r.Ok t)(hs:s=1∨s=2)(ho:OpOk o)(hm:2≤o.Mode∧o.Mode≤6):aKM s o r.g=true∧aKL s o r.g=((bW r s o).1.g,(bW r s o).2):=by
 refine aK (t:=a3J s o r.g) (P:=fun q=>q=((bW r s o).1.g,(bW r s o).2)) ?_
 obtain⟨d1,d2,d3⟩:=jQ hr.a4 ho.hr;obtain⟨s1,s2,s3,s4,s5⟩:=f9 (v:=0) hr.a4 ho.hr;rw[Nat.zero_add]at s1 s2 s5;obtain⟨q1,q2⟩:=nU hr.aw hr.a4 ho.hr;have hb:=a8N s o.Reg;have he:=aR.1 ho.he;have e1:bH (bE (cX r.a o.Reg) (XZ s o.Reg)) 65535=(cX r.a o.Reg+XZ s o.Reg)%65536:=by rw[bV (by omega),tH]
 have e2:bH (cN (cX r.a o.Reg) (XZ s o.Reg)) 65535=(cX r.a o.Reg-XZ s o.Reg)%65536:=by rw[eV (by omega),tH]
 have e3:bH (bE (cX r.a o.Reg) o.Ext) 65535=(cX r.a o.Reg+o.Ext)%65536:=by rw[bV (by omega),tH]
 have l4:(r.a.set o.Reg.toNat ((cX r.a o.Reg-XZ s o.Reg)%65536)).length=4:=by rw[List.length_set];exact hr.a4
 obtain⟨-,x2,-⟩:=jQ l4 ho.hr;obtain⟨-,-,-,-,x5⟩:=f9 (v:=0) l4 ho.hr;rw[Nat.zero_add]at x5;rw[bHE hr.a4 ho.hr]at x2;unfold a3J bW;simp only[aB,aJ,aA,aKK,SS,aKJ,aKI,aKH,aBD,aBC,aKG,SR,eS,eT,bA,bI,Nat.zero_add,bQ6 hs,d2,s1,s2,s3,s4,s5,e1,e2,e3,dX,x2,x5,List.length_set,aD,bP,wz,Bool.and_true,true_and];refine⟨fun q=>?_,fun q=>?_⟩
 ·rw[dS]at q;rw[q];rfl
 refine⟨fun q=>by rw[q];rfl,fun q2=>?_⟩
 rw[q2];refine⟨fun q=>by rw[q];rfl,fun q3=>?_⟩
 rw[q3];refine⟨fun q=>by rw[q];rfl,fun q4=>?_⟩
 have:eqI o.Mode 6=true:=by
  rw[gT]at q q2 q3 q4;rw[dS];omega
 rw[q4,this];rfl
theorem a9J{s k v:Int}{r:RM}(h:r.Ok 65535)(hs:s=1∨s=2)(hk:cI k 0 3=true)(hv:s=1→0≤v∧v<256):aBI s k v r.g=true∧aBH s k v r.g=(zB r s k v).g:=by
 refine aK (t:=a3O s k v r.g) (P:=fun q=>q=(zB r s k v).g) ?_
 obtain⟨d1,d2,d3⟩:=jQ h.d4 hk;obtain⟨s1,s2,s3,s4,s5⟩:=f9 (v:=0) h.d4 hk;rw[Nat.zero_add]at s1 s2 s5;have q:=nU h.dw h.d4 hk;have t1:=h.t1;have e:s=1→eW v (gB (cX r.d k) 255)=cX r.d k%65536/256*256+v:=fun e=>bQ5 q.1 (by omega) (hv e).1 (hv e).2
 unfold a3O zB;simp only[aB,aA,aKQ,aKP,eS,eT,bA,bI,Nat.zero_add,d2,s1,s2,s3,s4,s5,dX,List.length_set,aD,bP,wz,Bool.and_true,Bool.true_or,true_and];rcases hs with rfl|rfl
 ·rw[e rfl];rfl
 ·rfl
theorem NJ{v:Int}{x:aQ}{pc w:Int}{f:aL}{r:RM}{zs:List Int}{l:List aE}{s h:Bool}(hr:r.Ok 65535)(hs:x.Size=1∨x.Size=2):v9 v (dG x pc w f) (bF r zs l s h)=true∧tP v (dG x pc w f) (bF r zs l s h)=bF {r with fl:=hY x.Size r.fl v} zs l s h:=by
 refine aK (t:=a3R v (dG x pc w f) (bF r zs l s h)) (P:=fun q=>q=bF {r with fl:=hY x.Size r.fl v} zs l s h) ?_
 unfold a3R;simp only[aB,aA,oT,kR,nA,kS,kG,eS,eT,aV,(a9G hs).1,(a9G hs).2,aD,bP,wz,Bool.and_true,true_and];rfl
theorem toD{v:Int}{x:aQ}{pc w:Int}{f:aL}{r:RM}{zs:List Int}{l:List aE}{s h:Bool}(hr:r.Ok 65535)(hs:x.Size=1∨x.Size=2)(hk:cI x.Reg 0 3=true)(hv:x.Size=1→0≤v∧v<256)(h0:0≤v)(h2:v≤65535):OR v (dG x pc w f) (bF r zs l s h)=true∧OQ v (dG x pc w f) (bF r zs l s h)=bif dC f.Vector 0 then bF r zs l s h else bF (zB {r with fl:=hY x.Size r.fl v} x.Size x.Reg v) zs l s h:=by
 refine aK (t:=a3S v (dG x pc w f) (bF r zs l s h)) (P:=fun q=>q=bif dC f.Vector 0 then bF r zs l s h else bF (zB {r with fl:=hY x.Size r.fl v} x.Size x.Reg v) zs l s h) ?_
 obtain⟨p1,p2⟩:=a9J hr hs hk hv;have hp:=ND (s:=x.Size) hr hk h0 (fun e=>(hv e).2) h2
 obtain⟨g1,g2⟩:=NJ (v:=v) (pc:=pc) (w:=w) (f:=f) (zs:=zs) (l:=l) (s:=s) (h:=h) hp hs;have g1':v9 v (dG x pc w f) (aI.mk (zB r x.Size x.Reg v).g (qF zs l) s h)=true:=g1;have g2':tP v (dG x pc w f) (aI.mk (zB r x.Size x.Reg v).g (qF zs l) s h)=_:=g2;unfold a3S;simp only[aB,aJ,aA,aBJ,ST,oT,oU,kR,nA,kS,kG,p1,p2,g1',g2',aD,bP,wz,Bool.and_true,true_and];exact⟨fun q=>by rw[q];rfl,fun q=>by rw[q];rfl⟩
end Go.Proofs.YtdipcnijfkdnfaaGreatIrqs

namespace Go.Proofs.YtdipcnijfkdnfaaGreatIrqs
open Bool renaming and_true → qt
open Bool renaming true_eq_false → q_1
open Go Go.Zq
set_option maxHeartbeats 4000000
set_option maxRecDepth 100000
def mq(r:RM)(zs:List Int)(l:List aE)(s:Bool)(pc w:Int):MM:=⟨r,zs,l,s,ff pc w⟩
theorem KJ{r:RM}{zs:List Int}{l:List aE}{s:Bool}{pc w:Int}(hr:r.Ok 65535)(hb:BusOk zs l):(mq r zs l s pc w).Ok 65535:=⟨hr,hb⟩
def dR(x:aQ)(pc w:Int)(h:Bool)(m:MM):bK×aI:=(dG x pc w (dF m),bF m.r m.zs m.l m.stop h)
theorem aNR{x:aQ}{pc w:Int}{r:RM}{zs:List Int}{l:List aE}{s h:Bool}(hr:r.Ok 65535)(hb:BusOk zs l)(hs:x.Size=1∨x.Size=2)(ho:OpOk x.Ea):aWH (dG x pc w f0) (bF r zs l s h)=true∧cT (dG x pc w f0) (bF r zs l s h)=((dR x pc w h (dT (mq r zs l s pc w) x.Size x.Ea).1).1,(dR x pc w h (dT (mq r zs l s pc w) x.Size x.Ea).1).2,(dT (mq r zs l s pc w) x.Size x.Ea).2.1):=by
 refine aK (t:=a3N (dG x pc w f0) (bF r zs l s h)) (P:=fun q=>q=((dR x pc w h (dT (mq r zs l s pc w) x.Size x.Ea).1).1,(dR x pc w h (dT (mq r zs l s pc w) x.Size x.Ea).1).2,(dT (mq r zs l s pc w) x.Size x.Ea).2.1)) ?_
 obtain⟨d1,d2,d3⟩:=jQ hr.a4 ho.hr;obtain⟨s1,s2,s3,s4,s5⟩:=f9 (v:=0) hr.a4 ho.hr;rw[Nat.zero_add]at s5;obtain⟨l1,l2⟩:=aGA (pc:=pc) (w:=w) (f:=f0) (zs:=zs) (l:=l) (s:=s) (h:=h) hr hs ho.hr;have hm:=aR.1 ho.hm;unfold a3N;simp only[aB,aJ,aA,MG,HN,aBG,oT,pC,pH,oU,kR,nA,kS,kG,eT,Nat.zero_add,bA,bI,l1,l2,d2,s3,s4,s5,aD,bP,wz,qt,true_and];unfold dT;refine⟨fun q=>by rw[q];rfl,fun q=>?_⟩
 rw[q];refine⟨fun q=>by rw[q];rfl,fun q1=>?_⟩
 rw[q1];refine⟨fun q=>by rw[q];rfl,fun q2=>?_⟩
 rw[q2];rw[gT]at q q1 q2;have hm':2≤x.Ea.Mode∧x.Ea.Mode≤6:=by omega
 obtain⟨p1,p2⟩:=VF hr hs ho hm';obtain⟨p3,p4⟩:=rE (s:=x.Size) hr ho;obtain⟨a1,a2⟩:=aUJ (x:=x) (pc:=pc) (w:=w) (s:=s) (h:=h) p3 hb hs p4;simp only[p1,p2,iX,a1,a2,aD,bP,wz,qt,true_and];rfl
theorem setD{x:aQ}{pc w a v:Int}{r:RM}{zs:List Int}{l:List aE}{s h:Bool}(hr:r.Ok 65535)(hb:BusOk zs l)(hs:x.Size=1∨x.Size=2)(ho:OpOk x.Ea)(ha:cI a 0 65535=true)(hv:dK x.Size v=true):yK a v (dG x pc w f0) (bF r zs l s h)=true∧rW a v (dG x pc w f0) (bF r zs l s h)=dR x pc w h (eL (mq r zs l s pc w) x.Size x.Ea a v):=by
 refine aK (t:=a30 a v (dG x pc w f0) (bF r zs l s h)) (P:=fun q=>q=dR x pc w h (eL (mq r zs l s pc w) x.Size x.Ea a v)) ?_
 have lv:=kE hs hv;obtain⟨p1,p2⟩:=a9J (v:=v) hr hs ho.hr (fun e=>by have:=lv.2.2 e;omega)
 obtain⟨a1,a2⟩:=bQ4 (x:=x) (pc:=pc) (w:=w) (s:=s) (h:=h) hr hb hs ha hv;unfold a30;simp only[aB,aJ,aA,aKX,aKW,oT,pC,pH,oU,kR,nA,kS,kG,p1,p2,a1,a2,aD,bP,wz,qt,true_and];unfold eL;exact⟨fun q=>by rw[q];rfl,fun q=>by rw[q];rfl⟩
theorem rJ(x y:Int):dC x y=!(eqI x y):=by
 cases h:eqI x y
 ·rw[gT]at h;exact oM.2 h
 ·rw[dS]at h;exact OC.2 h
theorem sR{m:MM}(h:cG m=true):dF m=f0:=by unfold dF;rw[h];rfl
theorem zF{m:MM}(h:cG m=false):dF m=m.f∧dC m.f.Vector 0=true:=by
 refine⟨by unfold dF;rw[h];rfl,?_⟩
 unfold cG at h;rw[rJ,h];rfl
theorem aNS{x:aQ}{pc w:Int}{r:RM}{zs:List Int}{l:List aE}{s h:Bool}(hr:r.Ok 65535)(hb:BusOk zs l)(hi:InsOk x)(h2:qC x):bMK (dG x pc w f0) (bF r zs l s h)=true∧aWL (dG x pc w f0) (bF r zs l s h)=dR x pc w h (BI (mq r zs l s pc w) x):=by
 refine aK (t:=a3Y (dG x pc w f0) (bF r zs l s h)) (P:=fun q=>q=dR x pc w h (BI (mq r zs l s pc w) x)) ?_
 obtain⟨r1,r2⟩:=aNR (pc:=pc) (w:=w) (s:=s) (h:=h) hr hb hi.hs hi.ho;obtain⟨r3,r4,r5⟩:=rH (KJ (s:=s) (pc:=pc) (w:=w) hr hb) hi.hs hi.ho (UQ hi h2) hi.he;unfold a3Y BI;generalize dT (mq r zs l s pc w) x.Size x.Ea=q at r1 r2 r3 r4 r5;obtain⟨q1,v,a⟩:=q;dsimp only at r2 r3 r4 r5;obtain⟨qr,qz,ql,qs,qf⟩:=q1;have hqr:RM.Ok 65535 qr:=r3.r;have hd:=iI (s:=x.Size) (v:=cX qr.d x.Reg) hi.hs;obtain⟨l1,l2⟩:=aGA (x:=x) (pc:=pc) (w:=w) (f:=f0) (zs:=qz) (l:=ql) (s:=qs) (h:=h) (k:=x.Reg) hqr hi.hs hi.hr;obtain⟨a1,a2⟩:=b5O (c:=0) (Or.inl rfl) hd r4;obtain⟨b1,b2⟩:=bG9 hd r4;obtain⟨c1,c2⟩:=cKD (f:=qr.fl) hd r4;have lv: ∀v,dK x.Size v=true→0≤v∧v≤65535∧(x.Size=1→0≤v∧v<256):=fun v hv=>by
  have:=kE hi.hs hv;exact⟨by omega,by omega,fun e=>by have:=this.2.2 e;omega⟩
 have pt: ∀v,dK x.Size v=true→aBI x.Size x.Reg v qr.g=true∧aBH x.Size x.Reg v qr.g=(zB qr x.Size x.Reg v).g:=fun v hv=>a9J hqr hi.hs hi.hr (lv v hv).2.2
 have tt: ∀v,dK x.Size v=true→OR v (dG x pc w f0) (bF qr qz ql qs h)=true∧OQ v (dG x pc w f0) (bF qr qz ql qs h)=bF (zB {qr with fl:=hY x.Size qr.fl v} x.Size x.Reg v) qz ql qs h:=fun v hv=>by
  have:=toD (x:=x) (pc:=pc) (w:=w) (f:=f0) (zs:=qz) (l:=ql) (s:=qs) (h:=h) hqr hi.hs hi.hr (lv v hv).2.2 (lv v hv).1 (lv v hv).2.1;exact this
 dsimp only;cases hfi:cG ⟨qr,qz,ql,qs,qf⟩
 ·obtain⟨e1,e2⟩:=zF hfi;simp only[aB,aJ,aA,sO,sN,qT,sM,sL,wF,wE,yJ,wD,yI,wC,yH,nS,wB,wA,oT,pC,pH,oU,kR,nA,kS,kG,r1,r2,dR,e1,e2,Bool.not_false,cond_true,aD,bP,wz,qt,true_and,forall_const,q_1,false_implies,and_true]
 ·have e1: ∀r',dF ⟨r',qz,ql,qs,qf⟩=f0:=fun r'=>sR (m:=⟨r',qz,ql,qs,qf⟩) hfi
  have nf:dC f0.Vector 0=false:=rfl;rcases h2 with e|e|e|e|e|e|e
  ·obtain⟨p1,p2⟩:=tt v r4;have tw:rI x qr.fl (cX qr.d x.Reg%cD x.Size) v=(v,hY x.Size qr.fl v):=by unfold rI;rw[e];rfl
   rw[tw];simp only[aB,aJ,aA,sO,sN,qT,sM,sL,wF,wE,yJ,wD,yI,wC,yH,nS,wB,wA,oT,pC,pH,oU,kR,nA,kS,kG,eS,eT,aW,cM,aV,bL,aU,aT,r1,r2,dR,e1,nf,e,show eqI 1 1=true from rfl,show eqI 1 5=false from rfl,show eqI 1 6=false from rfl,show eqI 1 7=false from rfl,show eqI 1 8=false from rfl,show eqI 1 3=false from rfl,show eqI 1 4=false from rfl,l1,l2,a1,a2,b1,b2,c1,c2,Bool.not_true,cond_true,cond_false,aD,bP,wz,qt,true_and,forall_const,q_1,Bool.false_eq_true,false_implies,and_true,p1,p2]
  ·obtain⟨p1,p2⟩:=pt (aDE x.Size 0 (cX qr.d x.Reg%cD x.Size) v).1 (iI hi.hs);have tw:rI x qr.fl (cX qr.d x.Reg%cD x.Size) v=aDE x.Size 0 (cX qr.d x.Reg%cD x.Size) v:=by unfold rI;rw[e];rfl
   rw[tw];simp only[aB,aJ,aA,sO,sN,qT,sM,sL,wF,wE,yJ,wD,yI,wC,yH,nS,wB,wA,oT,pC,pH,oU,kR,nA,kS,kG,eS,eT,aW,cM,aV,bL,aU,aT,r1,r2,dR,e1,nf,e,show eqI 3 1=false from rfl,show eqI 3 5=false from rfl,show eqI 3 6=false from rfl,show eqI 3 7=false from rfl,show eqI 3 8=false from rfl,show eqI 3 3=true from rfl,show eqI 3 4=false from rfl,l1,l2,a1,a2,b1,b2,c1,c2,Bool.not_true,cond_true,cond_false,aD,bP,wz,qt,true_and,forall_const,q_1,Bool.false_eq_true,false_implies,and_true,p1,p2]
   rfl
  ·obtain⟨p1,p2⟩:=pt ((cX qr.d x.Reg%cD x.Size-v)%cD x.Size) (iI hi.hs);have tw:rI x qr.fl (cX qr.d x.Reg%cD x.Size) v=((cX qr.d x.Reg%cD x.Size-v)%cD x.Size,IB x.Size (cX qr.d x.Reg%cD x.Size) v):=by unfold rI;rw[e];rfl
   rw[tw];simp only[aB,aJ,aA,sO,sN,qT,sM,sL,wF,wE,yJ,wD,yI,wC,yH,nS,wB,wA,oT,pC,pH,oU,kR,nA,kS,kG,eS,eT,aW,cM,aV,bL,aU,aT,r1,r2,dR,e1,nf,e,show eqI 4 1=false from rfl,show eqI 4 5=false from rfl,show eqI 4 6=false from rfl,show eqI 4 7=false from rfl,show eqI 4 8=false from rfl,show eqI 4 3=false from rfl,show eqI 4 4=true from rfl,l1,l2,a1,a2,b1,b2,c1,c2,Bool.not_true,cond_true,cond_false,aD,bP,wz,qt,true_and,forall_const,q_1,Bool.false_eq_true,false_implies,and_true,p1,p2]
   rfl
  ·obtain⟨p1,p2⟩:=tt (bH (cX qr.d x.Reg%cD x.Size) v) (aTS hi.hs hd r4);have tw:rI x qr.fl (cX qr.d x.Reg%cD x.Size) v=(bH (cX qr.d x.Reg%cD x.Size) v,hY x.Size qr.fl (bH (cX qr.d x.Reg%cD x.Size) v)):=by unfold rI;rw[e];rfl
   rw[tw];simp only[aB,aJ,aA,sO,sN,qT,sM,sL,wF,wE,yJ,wD,yI,wC,yH,nS,wB,wA,oT,pC,pH,oU,kR,nA,kS,kG,eS,eT,aW,cM,aV,bL,aU,aT,r1,r2,dR,e1,nf,e,show eqI 5 1=false from rfl,show eqI 5 5=true from rfl,show eqI 5 6=false from rfl,show eqI 5 7=false from rfl,show eqI 5 8=false from rfl,show eqI 5 3=false from rfl,show eqI 5 4=false from rfl,l1,l2,a1,a2,b1,b2,c1,c2,Bool.not_true,cond_true,cond_false,aD,bP,wz,qt,true_and,forall_const,q_1,Bool.false_eq_true,false_implies,and_true,p1,p2]
  ·obtain⟨p1,p2⟩:=tt (eW (cX qr.d x.Reg%cD x.Size) v) (aDK hi.hs hd r4);have tw:rI x qr.fl (cX qr.d x.Reg%cD x.Size) v=(eW (cX qr.d x.Reg%cD x.Size) v,hY x.Size qr.fl (eW (cX qr.d x.Reg%cD x.Size) v)):=by unfold rI;rw[e];rfl
   rw[tw];simp only[aB,aJ,aA,sO,sN,qT,sM,sL,wF,wE,yJ,wD,yI,wC,yH,nS,wB,wA,oT,pC,pH,oU,kR,nA,kS,kG,eS,eT,aW,cM,aV,bL,aU,aT,r1,r2,dR,e1,nf,e,show eqI 6 1=false from rfl,show eqI 6 5=false from rfl,show eqI 6 6=true from rfl,show eqI 6 7=false from rfl,show eqI 6 8=false from rfl,show eqI 6 3=false from rfl,show eqI 6 4=false from rfl,l1,l2,a1,a2,b1,b2,c1,c2,Bool.not_true,cond_true,cond_false,aD,bP,wz,qt,true_and,forall_const,q_1,Bool.false_eq_true,false_implies,and_true,p1,p2]
  ·obtain⟨p1,p2⟩:=tt (qE (cX qr.d x.Reg%cD x.Size) v) (aTT hi.hs hd r4);have tw:rI x qr.fl (cX qr.d x.Reg%cD x.Size) v=(qE (cX qr.d x.Reg%cD x.Size) v,hY x.Size qr.fl (qE (cX qr.d x.Reg%cD x.Size) v)):=by unfold rI;rw[e];rfl
   rw[tw];simp only[aB,aJ,aA,sO,sN,qT,sM,sL,wF,wE,yJ,wD,yI,wC,yH,nS,wB,wA,oT,pC,pH,oU,kR,nA,kS,kG,eS,eT,aW,cM,aV,bL,aU,aT,r1,r2,dR,e1,nf,e,show eqI 7 1=false from rfl,show eqI 7 5=false from rfl,show eqI 7 6=false from rfl,show eqI 7 7=true from rfl,show eqI 7 8=false from rfl,show eqI 7 3=false from rfl,show eqI 7 4=false from rfl,l1,l2,a1,a2,b1,b2,c1,c2,Bool.not_true,cond_true,cond_false,aD,bP,wz,qt,true_and,forall_const,q_1,Bool.false_eq_true,false_implies,and_true,p1,p2]
  ·simp only[aB,aJ,aA,sO,sN,qT,sM,sL,wF,wE,yJ,wD,yI,wC,yH,nS,wB,wA,oT,pC,pH,oU,kR,nA,kS,kG,eS,eT,aW,cM,aV,bL,aU,aT,r1,r2,dR,e1,nf,e,show eqI 8 1=false from rfl,show eqI 8 5=false from rfl,show eqI 8 6=false from rfl,show eqI 8 7=false from rfl,show eqI 8 8=true from rfl,show eqI 8 3=false from rfl,show eqI 8 4=false from rfl,l1,l2,a1,a2,b1,b2,c1,c2,Bool.not_true,cond_true,cond_false,aD,bP,wz,qt,true_and,forall_const,q_1,Bool.false_eq_true,false_implies,and_true]
   rfl
end Go.Proofs.YtdipcnijfkdnfaaGreatIrqs

namespace Go.Proofs.YtdipcnijfkdnfaaGreatIrqs
open Go Go.Zq
set_option maxHeartbeats 4000000
set_option maxRecDepth 100000
theorem BK{r:RM}{zs:List Int}{l:List aE}{s:Bool}{pc w:Int}{k sz a v:Int}(h:cG (cS (mq r zs l s pc w) k sz a v).1=true):(cS (mq r zs l s pc w) k sz a v).1=mq r (cS (mq r zs l s pc w) k sz a v).1.zs (cS (mq r zs l s pc w) k sz a v).1.l s pc w:=by
 have hf:cG (cS (mq r zs l s pc w) k sz a v).1=eqI (cY k sz a) 0:=jR rfl;rw[hf]at h;have hn:dC (cY k sz a) 0=false:=by rw[rJ,h];rfl
 unfold cS mq;dsimp only;rw[hn];rfl
theorem ER{r:RM}{zs:List Int}{l:List aE}{s:Bool}{pc w:Int}{k sz a v:Int}(hr:r.Ok 65535)(hb:BusOk zs l)(hs:sz=1∨sz=2)(hv:dK sz v=true)(ha:cI a 0 65535=true)(hk:cI k 1 3=true):BusOk (cS (mq r zs l s pc w) k sz a v).1.zs (cS (mq r zs l s pc w) k sz a v).1.l∧dK sz (cS (mq r zs l s pc w) k sz a v).2=true:=by
 obtain⟨h1,h2⟩:=zD (k:=k) (KJ (s:=s) (pc:=pc) (w:=w) hr hb) (⟨hs,hv,ha⟩:AccOk sz v a _) hk;exact⟨h1.b,h2⟩
theorem aUK{s v:Int}(hs:s=1∨s=2)(h0:0≤v)(h1:v<cD s):qE v (cN (cD s) 1)=cD s-1-v:=by
 have key: ∀(n m:Nat),n≤16→m<2^n→qE (m:Int) ((2^n-1:Nat):Int)=((2^n-(m+1):Nat):Int):=by
  intro n m hn hm;have hp:2^n≤2^16:=Nat.pow_le_pow_right (by omega) hn
  have e:m^^^(2^n-1)=2^n-(m+1):=by
   apply Nat.eq_of_testBit_eq;intro i;rw[Nat.testBit_xor,Nat.testBit_two_pow_sub_one,Nat.testBit_two_pow_sub_succ hm];by_cases hi:i<n
   ·simp[hi]
   ·have:m.testBit i=false:=Nat.testBit_lt_two_pow (Nat.lt_of_lt_of_le hm (Nat.pow_le_pow_right (by omega) (by omega)))
    simp[hi,this]
  unfold qE;rw[BitVec.toNat_xor,BitVec.toNat_ofInt,BitVec.toNat_ofInt];have a1:(((m:Int))%((2^64:Nat):Int)).toNat=m:=by omega
  have a2:((((2^n-1:Nat):Int))%((2^64:Nat):Int)).toNat=2^n-1:=by omega
  rw[a1,a2,e,IntKind.wrap_i64];omega
 obtain⟨m,rfl⟩:=Int.eq_ofNat_of_zero_le h0;rcases hs with rfl|rfl
 ·have h1:(m:Int)<256:=h1;have:=key 8 m (by omega) (by omega)
  rw[show cN (cD 1) 1=((2^8-1:Nat):Int)from by decide,this]
  show _=(256:Int)-1-m
  omega
 ·have h1:(m:Int)<65536:=h1;have:=key 16 m (by omega) (by omega)
  rw[show cN (cD 2) 1=((2^16-1:Nat):Int)from by decide,this]
  show _=(65536:Int)-1-m
  omega
theorem cKH{x:aQ}(h:x.Op=2):kB x=bif eqI x.Sub 0 then aDF x.Ea.Mode else false:=by
 unfold kB;rw[h];rfl
theorem aX1{x:aQ}(h:InsOk x)(h2:x.Op=2):x.Ea.Mode=0∨(2≤x.Ea.Mode∧x.Ea.Mode≤6):=by
 have hk:=h.kb;rw[cKH h2]at hk;cases e1:eqI x.Sub 0
 ·rw[e1]at hk;simp at hk
 ·rw[e1]at hk;exact aF3 hk
theorem PE{m:Int}(h:2≤m∧m≤6):eqI m 0=false∧dC m 0=true∧eqI m 1=false∧eqI m 7=false:=by
 refine⟨gT.2 (by omega),oM.2 (by omega),gT.2 (by omega),gT.2 (by omega)⟩
theorem b6T{x:aQ}{pc w:Int}{r:RM}{zs:List Int}{l:List aE}{s h:Bool}(hr:r.Ok 65535)(hb:BusOk zs l)(hi:InsOk x)(h2:x.Op=2):bMM (dG x pc w f0) (bF r zs l s h)=true∧aWN (dG x pc w f0) (bF r zs l s h)=dR x pc w h (X6 (mq r zs l s pc w) x):=by
 refine aK (t:=a31 (dG x pc w f0) (bF r zs l s h)) (P:=fun q=>q=dR x pc w h (X6 (mq r zs l s pc w) x)) ?_
 obtain⟨l1,l2⟩:=aGA (pc:=pc) (w:=w) (f:=f0) (zs:=zs) (l:=l) (s:=s) (h:=h) hr hi.hs hi.hr;have hv:=iI (s:=x.Size) (v:=cX r.d x.Reg) hi.hs;unfold a31 X6;rcases aX1 hi h2 with hm|hm
 ·have m0:eqI x.Ea.Mode 0=true:=by rw[hm];rfl
  have m1:dC x.Ea.Mode 0=false:=by rw[hm];rfl
  obtain⟨s1,s2⟩:=setD (x:=x) (pc:=pc) (w:=w) (a:=0) (s:=s) (h:=h) hr hb hi.hs hi.ho (by decide) hv
  have wo:=zW (a:=0) (KJ (s:=s) (pc:=pc) (w:=w) hr hb) hi.hs hi.ho (by decide) hv
  obtain⟨g1,g2⟩:=NJ (v:=cX r.d x.Reg%cD x.Size) (x:=x) (pc:=pc) (w:=w) (f:=dF (eL (mq r zs l s pc w) x.Size x.Ea 0 (cX r.d x.Reg%cD x.Size))) (zs:=(eL (mq r zs l s pc w) x.Size x.Ea 0 (cX r.d x.Reg%cD x.Size)).zs) (l:=(eL (mq r zs l s pc w) x.Size x.Ea 0 (cX r.d x.Reg%cD x.Size)).l) (s:=(eL (mq r zs l s pc w) x.Size x.Ea 0 (cX r.d x.Reg%cD x.Size)).stop) (h:=h) wo.r hi.hs;have sp:kI (mq r zs l s pc w) x.Size x.Ea=(mq r zs l s pc w,0):=by unfold kI;rw[m0];rfl
  rw[sp];simp only[aB,aJ,aA,SW,C9,SU,C8,yL,C7,oT,pC,pH,oU,kR,nA,kS,kG,l1,l2,m1,s1,s2,dR,g1,g2,aD,bP,wz,Bool.and_true,true_and,Bool.false_eq_true,false_implies,forall_const];rfl
 ·obtain⟨m0,m1,-,-⟩:=PE hm;obtain⟨p1,p2⟩:=VF hr hi.hs hi.ho hm;obtain⟨p3,p4⟩:=rE (s:=x.Size) hr hi.ho;obtain⟨s1,s2⟩:=setD (x:=x) (pc:=pc) (w:=w) (s:=s) (h:=h) p3 hb hi.hs hi.ho p4 hv;have wo:=zW (a:=(bW r x.Size x.Ea).2) (KJ (s:=s) (pc:=pc) (w:=w) p3 hb) hi.hs hi.ho p4 hv;have sp:kI (mq r zs l s pc w) x.Size x.Ea=(mq (bW r x.Size x.Ea).1 zs l s pc w,(bW r x.Size x.Ea).2):=by unfold kI;rw[m0];rfl
  rw[sp];generalize hW:eL (mq (bW r x.Size x.Ea).1 zs l s pc w) x.Size x.Ea (bW r x.Size x.Ea).2 (cX r.d x.Reg%cD x.Size)=W at s1 s2 wo;obtain⟨g1,g2⟩:=NJ (v:=cX r.d x.Reg%cD x.Size) (x:=x) (pc:=pc) (w:=w) (f:=dF W) (zs:=W.zs) (l:=W.l) (s:=W.stop) (h:=h) wo.r hi.hs;simp only[aB,aJ,aA,SW,C9,SU,C8,yL,C7,oT,pC,pH,oU,kR,nA,kS,kG,iX,l1,l2,m1,p1,p2,s1,s2,dR,g1,g2,aD,bP,wz,Bool.and_true,true_and,Bool.true_eq_false,false_implies,forall_const,and_true];have:(mq r zs l s pc w).r.d=r.d:=rfl;rw[this,hW];rfl
end Go.Proofs.YtdipcnijfkdnfaaGreatIrqs

namespace Go.Proofs.YtdipcnijfkdnfaaGreatIrqs
open Bool renaming and_true → qt
open Bool renaming true_eq_false → q_1
open Bool renaming false_eq_true → q_2
open Bool renaming not_false → q_4
open Go Go.Zq
set_option maxHeartbeats 4000000
set_option maxRecDepth 100000
theorem a9K(m:MM)(s:Int)(o:aG)(a v:Int):(eL m s o a v).r.fl=m.r.fl:=by
 unfold eL;cases eqI o.Mode 0<;>rfl
theorem setF(W:MM)(h:Bool)(f:Int):aI.mk (aH.mk (ri W.r.d) (ri W.r.a) W.r.oth W.r.pc f W.r.mask W.r.sup W.r.tr) (qF W.zs W.l) W.stop h=bF {W.r with fl:=f} W.zs W.l W.stop h:=rfl
structure OneF(x:aQ)(pc w:Int)(h s:Bool)(r:RM)(zs:List Int)(l:List aE)(a v:Int):Prop where
 s1:yK a v (dG x pc w f0) (bF r zs l s h)=true
 s2:rW a v (dG x pc w f0) (bF r zs l s h)=dR x pc w h (eL (mq r zs l s pc w) x.Size x.Ea a v)
 g1:v9 v (dG x pc w (dF (eL (mq r zs l s pc w) x.Size x.Ea a v))) (bF (eL (mq r zs l s pc w) x.Size x.Ea a v).r (eL (mq r zs l s pc w) x.Size x.Ea a v).zs (eL (mq r zs l s pc w) x.Size x.Ea a v).l (eL (mq r zs l s pc w) x.Size x.Ea a v).stop h)=true
 g2:tP v (dG x pc w (dF (eL (mq r zs l s pc w) x.Size x.Ea a v))) (bF (eL (mq r zs l s pc w) x.Size x.Ea a v).r (eL (mq r zs l s pc w) x.Size x.Ea a v).zs (eL (mq r zs l s pc w) x.Size x.Ea a v).l (eL (mq r zs l s pc w) x.Size x.Ea a v).stop h)=bF {(eL (mq r zs l s pc w) x.Size x.Ea a v).r with fl:=hY x.Size r.fl v} (eL (mq r zs l s pc w) x.Size x.Ea a v).zs (eL (mq r zs l s pc w) x.Size x.Ea a v).l (eL (mq r zs l s pc w) x.Size x.Ea a v).stop h
theorem aX2{x:aQ}{pc w a v:Int}{r:RM}{zs:List Int}{l:List aE}{s h:Bool}(hr:r.Ok 65535)(hb:BusOk zs l)(hs:x.Size=1∨x.Size=2)(ho:OpOk x.Ea)(ha:cI a 0 65535=true)(hv:dK x.Size v=true):OneF x pc w h s r zs l a v:=by
 obtain⟨s1,s2⟩:=setD (x:=x) (pc:=pc) (w:=w) (s:=s) (h:=h) hr hb hs ho ha hv;have wo:=zW (KJ (s:=s) (pc:=pc) (w:=w) hr hb) hs ho ha hv;obtain⟨g1,g2⟩:=NJ (v:=v) (x:=x) (pc:=pc) (w:=w) (f:=dF (eL (mq r zs l s pc w) x.Size x.Ea a v)) (zs:=(eL (mq r zs l s pc w) x.Size x.Ea a v).zs) (l:=(eL (mq r zs l s pc w) x.Size x.Ea a v).l) (s:=(eL (mq r zs l s pc w) x.Size x.Ea a v).stop) (h:=h) wo.r hs;rw[a9K]at g2;exact⟨s1,s2,g1,g2⟩
theorem cKI{x:aQ}{pc w:Int}{r:RM}{zs:List Int}{l:List aE}{s h:Bool}(hr:r.Ok 65535)(hb:BusOk zs l)(hi:InsOk x)(h2:x.Op=11):bMN (dG x pc w f0) (bF r zs l s h)=true∧aWO (dG x pc w f0) (bF r zs l s h)=dR x pc w h (NE (mq r zs l s pc w) x):=by
 refine aK (t:=a32 (dG x pc w f0) (bF r zs l s h)) (P:=fun q=>q=dR x pc w h (NE (mq r zs l s pc w) x)) ?_
 obtain⟨k1,k2⟩:=UT hi h2;have hsb:=aR.1 hi.hb;have nf:dC f0.Vector 0=false:=rfl;have lr:=rC hi.hs;unfold a32 NE;have hsub:x.Sub=0∨x.Sub=1∨x.Sub=2∨x.Sub=3:=by omega
 rcases k2 with hm|hm
 ·have m0:eqI x.Ea.Mode 0=true:=by rw[hm];rfl
  have m1:dC x.Ea.Mode 0=false:=by rw[hm];rfl
  have z0:cI 0 0 65535=true:=by decide
  obtain⟨l1,l2⟩:=aGA (pc:=pc) (w:=w) (f:=f0) (zs:=zs) (l:=l) (s:=s) (h:=h) hr hi.hs hi.ho.hr;have hv:=iI (s:=x.Size) (v:=cX r.d x.Ea.Reg) hi.hs;rcases hsub with e|e|e|e
  ·have hq:fG (mq r zs l s pc w) x=(mq r zs l s pc w,0,0):=by unfold fG kI;rw[e,m0];rfl
   rw[hq];unfold DW wX;have fm:cG (mq r zs l s pc w)=true:=rfl;have F:=aX2 (pc:=pc) (w:=w) (v:=0) (s:=s) (h:=h) hr hb hi.hs hi.ho z0 (KC hi.hs);simp only[aB,aJ,aA,mW,mV,j9,lO,kP,mU,mT,j8,oG,mS,mR,j7,lN,kO,mQ,kN,mP,j6,kM,oF,lM,oE,oD,lL,mO,mN,j5,lK,kL,mM,mL,j4,oC,dA,mK,mJ,j0,lJ,kK,mI,kJ,mH,mG,nT,oX,rZ,pQ,rY,lY,rX,pO,jE,cZ,oT,pC,pH,oU,kR,nA,kS,kG,eS,eT,aW,cM,aV,bL,aU,aT,iX,nf,e,show eqI 0 0=true from rfl,show eqI 0 1=false from rfl,show eqI 0 2=false from rfl,show eqI 0 3=false from rfl,dR,(iK hi.hs).1,(iK hi.hs).2,Bool.not_true,q_4,cond_true,cond_false,aD,bP,wz,qt,Bool.true_or,Bool.or_true,true_and,forall_const,q_1,q_2,false_implies,and_true,implies_true,m0,m1,l1,l2,fm,F.s1,F.s2,F.g1,F.g2]
   rfl
  ·have hq:fG (mq r zs l s pc w) x=(mq r zs l s pc w,cX r.d x.Ea.Reg%cD x.Size,0):=by unfold fG dT;rw[e,m0];rfl
   rw[hq];unfold DW wX;have fm:cG (mq r zs l s pc w)=true:=rfl;obtain⟨b1,b2⟩:=bG9 (s:=x.Size) (a:=0) (KC hi.hs) hv;have F:=aX2 (pc:=pc) (w:=w) (v:=(0-(cX r.d x.Ea.Reg%cD x.Size))%cD x.Size) (s:=s) (h:=h) hr hb hi.hs hi.ho z0 (iI hi.hs);simp only[aB,aJ,aA,mW,mV,j9,lO,kP,mU,mT,j8,oG,mS,mR,j7,lN,kO,mQ,kN,mP,j6,kM,oF,lM,oE,oD,lL,mO,mN,j5,lK,kL,mM,mL,j4,oC,dA,mK,mJ,j0,lJ,kK,mI,kJ,mH,mG,nT,oX,rZ,pQ,rY,lY,rX,pO,jE,cZ,oT,pC,pH,oU,kR,nA,kS,kG,eS,eT,aW,cM,aV,bL,aU,aT,iX,nf,e,show eqI 1 0=false from rfl,show eqI 1 1=true from rfl,show eqI 1 2=false from rfl,show eqI 1 3=false from rfl,dR,(iK hi.hs).1,(iK hi.hs).2,Bool.not_true,q_4,cond_true,cond_false,aD,bP,wz,qt,Bool.true_or,Bool.or_true,true_and,forall_const,q_1,q_2,false_implies,and_true,implies_true,m0,m1,l1,l2,fm,b1,b2,F.s1,F.s2,setF]
   rfl
  ·have hq:fG (mq r zs l s pc w) x=(mq r zs l s pc w,cX r.d x.Ea.Reg%cD x.Size,0):=by unfold fG dT;rw[e,m0];rfl
   rw[hq];unfold DW wX;have fm:cG (mq r zs l s pc w)=true:=rfl;have lv:=kE hi.hs hv;obtain⟨-,u0,u1⟩:=pS hv;have xt:=aUK hi.hs u0 u1;have hv2:dK x.Size (cD x.Size-1-(cX r.d x.Ea.Reg%cD x.Size))=true:=(PA (x:=x) (f:=0) hi.hs (by decide) hv).1|>fun z=>by unfold wX at z;rw[e]at z;exact z
   have F:=aX2 (pc:=pc) (w:=w) (v:=cD x.Size-1-(cX r.d x.Ea.Reg%cD x.Size)) (s:=s) (h:=h) hr hb hi.hs hi.ho z0 hv2;simp only[aB,aJ,aA,mW,mV,j9,lO,kP,mU,mT,j8,oG,mS,mR,j7,lN,kO,mQ,kN,mP,j6,kM,oF,lM,oE,oD,lL,mO,mN,j5,lK,kL,mM,mL,j4,oC,dA,mK,mJ,j0,lJ,kK,mI,kJ,mH,mG,nT,oX,rZ,pQ,rY,lY,rX,pO,jE,cZ,oT,pC,pH,oU,kR,nA,kS,kG,eS,eT,aW,cM,aV,bL,aU,aT,iX,nf,e,show eqI 2 0=false from rfl,show eqI 2 1=false from rfl,show eqI 2 2=true from rfl,show eqI 2 3=false from rfl,dR,(iK hi.hs).1,(iK hi.hs).2,Bool.not_true,q_4,cond_true,cond_false,aD,bP,wz,qt,Bool.true_or,Bool.or_true,true_and,forall_const,q_1,q_2,false_implies,and_true,implies_true,m0,m1,l1,l2,fm,xt,F.s1,F.s2,F.g1,F.g2]
   rfl
  ·have hq:fG (mq r zs l s pc w) x=(mq r zs l s pc w,cX r.d x.Ea.Reg%cD x.Size,0):=by unfold fG dT;rw[e,m0];rfl
   rw[hq];unfold DW wX;have fm:cG (mq r zs l s pc w)=true:=rfl;obtain⟨g1,g2⟩:=NJ (v:=(cX r.d x.Ea.Reg%cD x.Size)) (x:=x) (pc:=pc) (w:=w) (f:=f0) (zs:=zs) (l:=l) (s:=s) (h:=h) hr hi.hs;simp only[aB,aJ,aA,mW,mV,j9,lO,kP,mU,mT,j8,oG,mS,mR,j7,lN,kO,mQ,kN,mP,j6,kM,oF,lM,oE,oD,lL,mO,mN,j5,lK,kL,mM,mL,j4,oC,dA,mK,mJ,j0,lJ,kK,mI,kJ,mH,mG,nT,oX,rZ,pQ,rY,lY,rX,pO,jE,cZ,oT,pC,pH,oU,kR,nA,kS,kG,eS,eT,aW,cM,aV,bL,aU,aT,iX,nf,e,show eqI 3 0=false from rfl,show eqI 3 1=false from rfl,show eqI 3 2=false from rfl,show eqI 3 3=true from rfl,dR,(iK hi.hs).1,(iK hi.hs).2,Bool.not_true,q_4,cond_true,cond_false,aD,bP,wz,qt,Bool.true_or,Bool.or_true,true_and,forall_const,q_1,q_2,false_implies,and_true,implies_true,m0,m1,l1,l2,fm,g1,g2]
   rfl
 ·obtain⟨m0,m1,m2,m3⟩:=PE hm;obtain⟨p1,p2⟩:=VF hr hi.hs hi.ho hm;obtain⟨p3,p4⟩:=rE (s:=x.Size) hr hi.ho;rcases hsub with e|e|e|e
  ·have hq:fG (mq r zs l s pc w) x=(mq (bW r x.Size x.Ea).1 zs l s pc w,0,(bW r x.Size x.Ea).2):=by unfold fG kI;rw[e,m0];rfl
   rw[hq];unfold DW wX;have fm:cG (mq (bW r x.Size x.Ea).1 zs l s pc w)=true:=rfl;have F:=aX2 (pc:=pc) (w:=w) (v:=0) (s:=s) (h:=h) p3 hb hi.hs hi.ho p4 (KC hi.hs);simp only[aB,aJ,aA,mW,mV,j9,lO,kP,mU,mT,j8,oG,mS,mR,j7,lN,kO,mQ,kN,mP,j6,kM,oF,lM,oE,oD,lL,mO,mN,j5,lK,kL,mM,mL,j4,oC,dA,mK,mJ,j0,lJ,kK,mI,kJ,mH,mG,nT,oX,rZ,pQ,rY,lY,rX,pO,jE,cZ,oT,pC,pH,oU,kR,nA,kS,kG,eS,eT,aW,cM,aV,bL,aU,aT,iX,nf,e,show eqI 0 0=true from rfl,show eqI 0 1=false from rfl,show eqI 0 2=false from rfl,show eqI 0 3=false from rfl,dR,(iK hi.hs).1,(iK hi.hs).2,Bool.not_true,q_4,cond_true,cond_false,aD,bP,wz,qt,Bool.true_or,Bool.or_true,true_and,forall_const,q_1,q_2,false_implies,and_true,implies_true,m0,m1,p1,p2,fm,F.s1,F.s2,F.g1,F.g2]
   rfl
  ·obtain⟨a1,a2⟩:=aUJ (x:=x) (pc:=pc) (w:=w) (s:=s) (h:=h) p3 hb hi.hs p4;obtain⟨b0,b3⟩:=ER (s:=s) (pc:=pc) (w:=w) (k:=1) (v:=0) p3 hb hi.hs (KC hi.hs) p4 (by decide)
   have am:=BK (r:=(bW r x.Size x.Ea).1) (zs:=zs) (l:=l) (s:=s) (pc:=pc) (w:=w) (k:=1) (sz:=x.Size) (a:=(bW r x.Size x.Ea).2) (v:=0);have hq:fG (mq r zs l s pc w) x=((cS (mq (bW r x.Size x.Ea).1 zs l s pc w) 1 x.Size (bW r x.Size x.Ea).2 0).1,(cS (mq (bW r x.Size x.Ea).1 zs l s pc w) 1 x.Size (bW r x.Size x.Ea).2 0).2,(bW r x.Size x.Ea).2):=by unfold fG dT;rw[e,m0,m2,m3];rfl
   rw[hq];have aa:cS ⟨(bW r x.Size x.Ea).1,zs,l,s,ff pc w⟩ 1 x.Size (bW r x.Size x.Ea).2 0=cS (mq (bW r x.Size x.Ea).1 zs l s pc w) 1 x.Size (bW r x.Size x.Ea).2 0:=rfl;rw[aa]at a2;have sr:(cS (mq (bW r x.Size x.Ea).1 zs l s pc w) 1 x.Size (bW r x.Size x.Ea).2 0).1.r=(bW r x.Size x.Ea).1:=rfl;have st:(cS (mq (bW r x.Size x.Ea).1 zs l s pc w) 1 x.Size (bW r x.Size x.Ea).2 0).1.stop=s:=rfl;generalize hA:cS (mq (bW r x.Size x.Ea).1 zs l s pc w) 1 x.Size (bW r x.Size x.Ea).2 0=A at a1 a2 b0 b3 am sr st;obtain⟨A1,v⟩:=A;dsimp only at a1 a2 b0 b3 am sr st⊢;unfold DW;cases hfi:cG A1
   ·obtain⟨e1,e2⟩:=zF hfi;simp only[aB,aJ,aA,mW,mV,j9,lO,kP,mU,mT,j8,oG,mS,mR,j7,lN,kO,mQ,kN,mP,j6,kM,oF,lM,oE,oD,lL,mO,mN,j5,lK,kL,mM,mL,j4,oC,dA,mK,mJ,j0,lJ,kK,mI,kJ,mH,mG,nT,oX,rZ,pQ,rY,lY,rX,pO,jE,cZ,oT,pC,pH,oU,kR,nA,kS,kG,eS,eT,aW,cM,aV,bL,aU,aT,iX,nf,e,show eqI 1 0=false from rfl,show eqI 1 1=true from rfl,show eqI 1 2=false from rfl,show eqI 1 3=false from rfl,dR,(iK hi.hs).1,(iK hi.hs).2,Bool.not_true,q_4,cond_true,cond_false,aD,bP,wz,qt,Bool.true_or,Bool.or_true,true_and,forall_const,q_1,q_2,false_implies,and_true,implies_true,m0,m1,p1,p2,a1,a2,e1,e2,sr,st,hfi]
   ·have e1:=sR hfi;have am:=am hfi;rw[e1]at a2;rw[am];unfold wX;have fm:cG (mq (bW r x.Size x.Ea).1 A1.zs A1.l s pc w)=true:=rfl;obtain⟨b1,b2⟩:=bG9 (s:=x.Size) (a:=0) (KC hi.hs) b3;have F:=aX2 (pc:=pc) (w:=w) (v:=(0-v)%cD x.Size) (s:=s) (h:=h) p3 b0 hi.hs hi.ho p4 (iI hi.hs);simp only[aB,aJ,aA,mW,mV,j9,lO,kP,mU,mT,j8,oG,mS,mR,j7,lN,kO,mQ,kN,mP,j6,kM,oF,lM,oE,oD,lL,mO,mN,j5,lK,kL,mM,mL,j4,oC,dA,mK,mJ,j0,lJ,kK,mI,kJ,mH,mG,nT,oX,rZ,pQ,rY,lY,rX,pO,jE,cZ,oT,pC,pH,oU,kR,nA,kS,kG,eS,eT,aW,cM,aV,bL,aU,aT,iX,nf,e,show eqI 1 0=false from rfl,show eqI 1 1=true from rfl,show eqI 1 2=false from rfl,show eqI 1 3=false from rfl,dR,(iK hi.hs).1,(iK hi.hs).2,Bool.not_true,q_4,cond_true,cond_false,aD,bP,wz,qt,Bool.true_or,Bool.or_true,true_and,forall_const,q_1,q_2,false_implies,and_true,implies_true,m0,m1,p1,p2,a1,a2,fm,b1,b2,F.s1,F.s2,setF]
    rfl
  ·obtain⟨a1,a2⟩:=aUJ (x:=x) (pc:=pc) (w:=w) (s:=s) (h:=h) p3 hb hi.hs p4;obtain⟨b0,b3⟩:=ER (s:=s) (pc:=pc) (w:=w) (k:=1) (v:=0) p3 hb hi.hs (KC hi.hs) p4 (by decide)
   have am:=BK (r:=(bW r x.Size x.Ea).1) (zs:=zs) (l:=l) (s:=s) (pc:=pc) (w:=w) (k:=1) (sz:=x.Size) (a:=(bW r x.Size x.Ea).2) (v:=0);have hq:fG (mq r zs l s pc w) x=((cS (mq (bW r x.Size x.Ea).1 zs l s pc w) 1 x.Size (bW r x.Size x.Ea).2 0).1,(cS (mq (bW r x.Size x.Ea).1 zs l s pc w) 1 x.Size (bW r x.Size x.Ea).2 0).2,(bW r x.Size x.Ea).2):=by unfold fG dT;rw[e,m0,m2,m3];rfl
   rw[hq];have aa:cS ⟨(bW r x.Size x.Ea).1,zs,l,s,ff pc w⟩ 1 x.Size (bW r x.Size x.Ea).2 0=cS (mq (bW r x.Size x.Ea).1 zs l s pc w) 1 x.Size (bW r x.Size x.Ea).2 0:=rfl;rw[aa]at a2;have sr:(cS (mq (bW r x.Size x.Ea).1 zs l s pc w) 1 x.Size (bW r x.Size x.Ea).2 0).1.r=(bW r x.Size x.Ea).1:=rfl;have st:(cS (mq (bW r x.Size x.Ea).1 zs l s pc w) 1 x.Size (bW r x.Size x.Ea).2 0).1.stop=s:=rfl;generalize hA:cS (mq (bW r x.Size x.Ea).1 zs l s pc w) 1 x.Size (bW r x.Size x.Ea).2 0=A at a1 a2 b0 b3 am sr st;obtain⟨A1,v⟩:=A;dsimp only at a1 a2 b0 b3 am sr st⊢;unfold DW;cases hfi:cG A1
   ·obtain⟨e1,e2⟩:=zF hfi;simp only[aB,aJ,aA,mW,mV,j9,lO,kP,mU,mT,j8,oG,mS,mR,j7,lN,kO,mQ,kN,mP,j6,kM,oF,lM,oE,oD,lL,mO,mN,j5,lK,kL,mM,mL,j4,oC,dA,mK,mJ,j0,lJ,kK,mI,kJ,mH,mG,nT,oX,rZ,pQ,rY,lY,rX,pO,jE,cZ,oT,pC,pH,oU,kR,nA,kS,kG,eS,eT,aW,cM,aV,bL,aU,aT,iX,nf,e,show eqI 2 0=false from rfl,show eqI 2 1=false from rfl,show eqI 2 2=true from rfl,show eqI 2 3=false from rfl,dR,(iK hi.hs).1,(iK hi.hs).2,Bool.not_true,q_4,cond_true,cond_false,aD,bP,wz,qt,Bool.true_or,Bool.or_true,true_and,forall_const,q_1,q_2,false_implies,and_true,implies_true,m0,m1,p1,p2,a1,a2,e1,e2,sr,st,hfi]
   ·have e1:=sR hfi;have am:=am hfi;rw[e1]at a2;rw[am];unfold wX;have fm:cG (mq (bW r x.Size x.Ea).1 A1.zs A1.l s pc w)=true:=rfl;have lv:=kE hi.hs b3;obtain⟨-,u0,u1⟩:=pS b3;have xt:=aUK hi.hs u0 u1;have hv2:dK x.Size (cD x.Size-1-v)=true:=(PA (x:=x) (f:=0) hi.hs (by decide) b3).1|>fun z=>by unfold wX at z;rw[e]at z;exact z
    have F:=aX2 (pc:=pc) (w:=w) (v:=cD x.Size-1-v) (s:=s) (h:=h) p3 b0 hi.hs hi.ho p4 hv2;simp only[aB,aJ,aA,mW,mV,j9,lO,kP,mU,mT,j8,oG,mS,mR,j7,lN,kO,mQ,kN,mP,j6,kM,oF,lM,oE,oD,lL,mO,mN,j5,lK,kL,mM,mL,j4,oC,dA,mK,mJ,j0,lJ,kK,mI,kJ,mH,mG,nT,oX,rZ,pQ,rY,lY,rX,pO,jE,cZ,oT,pC,pH,oU,kR,nA,kS,kG,eS,eT,aW,cM,aV,bL,aU,aT,iX,nf,e,show eqI 2 0=false from rfl,show eqI 2 1=false from rfl,show eqI 2 2=true from rfl,show eqI 2 3=false from rfl,dR,(iK hi.hs).1,(iK hi.hs).2,Bool.not_true,q_4,cond_true,cond_false,aD,bP,wz,qt,Bool.true_or,Bool.or_true,true_and,forall_const,q_1,q_2,false_implies,and_true,implies_true,m0,m1,p1,p2,a1,a2,fm,xt,F.s1,F.s2,F.g1,F.g2]
    rfl
  ·obtain⟨a1,a2⟩:=aUJ (x:=x) (pc:=pc) (w:=w) (s:=s) (h:=h) p3 hb hi.hs p4;obtain⟨b0,b3⟩:=ER (s:=s) (pc:=pc) (w:=w) (k:=1) (v:=0) p3 hb hi.hs (KC hi.hs) p4 (by decide)
   have am:=BK (r:=(bW r x.Size x.Ea).1) (zs:=zs) (l:=l) (s:=s) (pc:=pc) (w:=w) (k:=1) (sz:=x.Size) (a:=(bW r x.Size x.Ea).2) (v:=0);have hq:fG (mq r zs l s pc w) x=((cS (mq (bW r x.Size x.Ea).1 zs l s pc w) 1 x.Size (bW r x.Size x.Ea).2 0).1,(cS (mq (bW r x.Size x.Ea).1 zs l s pc w) 1 x.Size (bW r x.Size x.Ea).2 0).2,(bW r x.Size x.Ea).2):=by unfold fG dT;rw[e,m0,m2,m3];rfl
   rw[hq];have aa:cS ⟨(bW r x.Size x.Ea).1,zs,l,s,ff pc w⟩ 1 x.Size (bW r x.Size x.Ea).2 0=cS (mq (bW r x.Size x.Ea).1 zs l s pc w) 1 x.Size (bW r x.Size x.Ea).2 0:=rfl;rw[aa]at a2;have sr:(cS (mq (bW r x.Size x.Ea).1 zs l s pc w) 1 x.Size (bW r x.Size x.Ea).2 0).1.r=(bW r x.Size x.Ea).1:=rfl;have st:(cS (mq (bW r x.Size x.Ea).1 zs l s pc w) 1 x.Size (bW r x.Size x.Ea).2 0).1.stop=s:=rfl;generalize hA:cS (mq (bW r x.Size x.Ea).1 zs l s pc w) 1 x.Size (bW r x.Size x.Ea).2 0=A at a1 a2 b0 b3 am sr st;obtain⟨A1,v⟩:=A;dsimp only at a1 a2 b0 b3 am sr st⊢;unfold DW;cases hfi:cG A1
   ·obtain⟨e1,e2⟩:=zF hfi;simp only[aB,aJ,aA,mW,mV,j9,lO,kP,mU,mT,j8,oG,mS,mR,j7,lN,kO,mQ,kN,mP,j6,kM,oF,lM,oE,oD,lL,mO,mN,j5,lK,kL,mM,mL,j4,oC,dA,mK,mJ,j0,lJ,kK,mI,kJ,mH,mG,nT,oX,rZ,pQ,rY,lY,rX,pO,jE,cZ,oT,pC,pH,oU,kR,nA,kS,kG,eS,eT,aW,cM,aV,bL,aU,aT,iX,nf,e,show eqI 3 0=false from rfl,show eqI 3 1=false from rfl,show eqI 3 2=false from rfl,show eqI 3 3=true from rfl,dR,(iK hi.hs).1,(iK hi.hs).2,Bool.not_true,q_4,cond_true,cond_false,aD,bP,wz,qt,Bool.true_or,Bool.or_true,true_and,forall_const,q_1,q_2,false_implies,and_true,implies_true,m0,m1,p1,p2,a1,a2,e1,e2,sr,st,hfi]
   ·have e1:=sR hfi;have am:=am hfi;rw[e1]at a2;rw[am];unfold wX;have fm:cG (mq (bW r x.Size x.Ea).1 A1.zs A1.l s pc w)=true:=rfl;obtain⟨g1,g2⟩:=NJ (v:=v) (x:=x) (pc:=pc) (w:=w) (f:=f0) (zs:=A1.zs) (l:=A1.l) (s:=s) (h:=h) p3 hi.hs;simp only[aB,aJ,aA,mW,mV,j9,lO,kP,mU,mT,j8,oG,mS,mR,j7,lN,kO,mQ,kN,mP,j6,kM,oF,lM,oE,oD,lL,mO,mN,j5,lK,kL,mM,mL,j4,oC,dA,mK,mJ,j0,lJ,kK,mI,kJ,mH,mG,nT,oX,rZ,pQ,rY,lY,rX,pO,jE,cZ,oT,pC,pH,oU,kR,nA,kS,kG,eS,eT,aW,cM,aV,bL,aU,aT,iX,nf,e,show eqI 3 0=false from rfl,show eqI 3 1=false from rfl,show eqI 3 2=false from rfl,show eqI 3 3=true from rfl,dR,(iK hi.hs).1,(iK hi.hs).2,Bool.not_true,q_4,cond_true,cond_false,aD,bP,wz,qt,Bool.true_or,Bool.or_true,true_and,forall_const,q_1,q_2,false_implies,and_true,implies_true,m0,m1,p1,p2,a1,a2,fm,g1,g2]
    rfl
end Go.Proofs.YtdipcnijfkdnfaaGreatIrqs

namespace Go.Proofs.YtdipcnijfkdnfaaGreatIrqs
open Bool renaming and_true → qt
open Bool renaming true_eq_false → q_1
open Bool renaming false_eq_true → q_2
open Go Go.Zq
set_option maxHeartbeats 4000000
set_option maxRecDepth 100000
theorem bI2{w e:Int}(h:cI w 0 65535=true):W (wW w e)=w:=by
 rw[aR]at h;unfold W wW;dsimp only;omega
theorem b6U{x:aQ}(hg:kZ x=true):bD0 x=true∧SO x=ri (BH x):=by
 refine aK (t:=a3D x) (P:=fun q=>q=ri (BH x)) ?_
 have R:=rng hg;have hm:cI x.Ea.Mode 0 7=true:=(InsOk.of hg).ho.hm;have e:=W_i R;unfold a3D BH;simp only[aB,aJ,aA,(XY _).1,(XY _).2,aNF hm,e,qt,true_and];exact⟨fun q=>by rw[q];rfl,fun q=>by rw[q];rfl⟩
def beh(x:aQ)(pc:Int):Int:=(pc+2*((BH x).length:Int))%65536
theorem aGC(x:aQ):(BH x).length=1∨(BH x).length=2:=by
 unfold BH;cases geI x.Ea.Mode 5
 ·exact Or.inl rfl
 ·exact Or.inr rfl
theorem PF{x:aQ}{pc w:Int}{f:aL}(c:aI)(hg:kZ x=true)(hp:cI pc 0 65535=true):aWE (dG x pc w f) c=true∧aFJ (dG x pc w f) c=beh x pc:=by
 refine aK (t:=a3H (dG x pc w f) c) (P:=fun q=>q=beh x pc) ?_
 obtain⟨e1,e2⟩:=b6U hg;have hl:=aGC x;have hp:=aR.1 hp;have e3:bH (bE pc (dH 2 ((BH x).length:Int))) 65535=beh x pc:=by
  rw[hJ (by omega),bV (by omega),tH];rfl
 unfold a3H;simp only[aB,aA,aKE,aKD,oT,pC,e1,e2,bA,bI,e3,Nat.zero_add,show qQ (BH x).length (BH x).length=true from O6.2 (Nat.le_refl _),aD,bP,wz,bO,cU,bG,cV,qt,true_and]
theorem bHF(r:RM)(zs:List Int)(l:List aE)(s:Bool)(pc w v:Int):(dZ (mm r zs l s) v).r=(dZ (mq r zs l s pc w) v).r∧(dZ (mm r zs l s) v).zs=(dZ (mq r zs l s pc w) v).zs∧(dZ (mm r zs l s) v).l=(dZ (mq r zs l s pc w) v).l∧(dZ (mq r zs l s pc w) v).stop=s∧dF (dZ (mq r zs l s pc w) v)=dF (cS (mq r zs l s pc w) 2 2 ((cX r.a 3-2)%65536) v).1:=by
 have h1:cG (cS (mm r zs l s) 2 2 ((cX r.a 3-2)%65536) v).1=eqI (cY 2 2 ((cX r.a 3-2)%65536)) 0:=jR rfl;have h2:cG (cS (mq r zs l s pc w) 2 2 ((cX r.a 3-2)%65536) v).1=eqI (cY 2 2 ((cX r.a 3-2)%65536)) 0:=jR rfl;unfold dZ;rw[show(mm r zs l s).r=r from rfl,show(mq r zs l s pc w).r=r from rfl,h1,h2]
 cases eqI (cY 2 2 ((cX r.a 3-2)%65536)) 0<;>exact⟨rfl,rfl,rfl,rfl,rfl⟩
theorem bQ7(r:RM)(zs:List Int)(l:List aE)(s:Bool)(pc w:Int):(dM (mm r zs l s)).1.r=(dM (mq r zs l s pc w)).1.r∧(dM (mm r zs l s)).1.zs=(dM (mq r zs l s pc w)).1.zs∧(dM (mm r zs l s)).1.l=(dM (mq r zs l s pc w)).1.l∧(dM (mm r zs l s)).2=(dM (mq r zs l s pc w)).2∧(dM (mq r zs l s pc w)).1.stop=s∧dF (dM (mq r zs l s pc w)).1=dF (cS (mq r zs l s pc w) 1 2 (cX r.a 3) 0).1:=by
 have h1:cG (cS (mm r zs l s) 1 2 (cX r.a 3) 0).1=eqI (cY 1 2 (cX r.a 3)) 0:=jR rfl;have h2:cG (cS (mq r zs l s pc w) 1 2 (cX r.a 3) 0).1=eqI (cY 1 2 (cX r.a 3)) 0:=jR rfl;unfold dM;rw[show(mm r zs l s).r=r from rfl,show(mq r zs l s pc w).r=r from rfl,h1,h2]
 cases eqI (cY 1 2 (cX r.a 3)) 0<;>exact⟨rfl,rfl,rfl,rfl,rfl,rfl⟩
theorem b6V{x:aQ}{pc w v:Int}{r:RM}{zs:List Int}{l:List aE}{s h:Bool}(hr:r.Ok 65535)(hb:BusOk zs l)(h0:0≤v)(h1:v≤65535):bMZ v (dG x pc w f0) (bF r zs l s h)=true∧bMY v (dG x pc w f0) (bF r zs l s h)=dR x pc w h (dZ (mq r zs l s pc w) v):=by
 refine aK (t:=a4A v (dG x pc w f0) (bF r zs l s h)) (P:=fun q=>q=dR x pc w h (dZ (mq r zs l s pc w) v)) ?_
 obtain⟨a1,a2⟩:=aNM (v:=v) (s:=s) (h:=h) hr hb h0 h1;obtain⟨e1,e2,e3,e4,e5⟩:=bHF r zs l s pc w v;have e6:=NI (pc:=pc) (w:=w) (r:=r) (zs:=zs) (l:=l) (s:=s) 2 2 ((cX r.a 3-2)%65536) v;unfold a4A;simp only[aB,aA,a1,a2,(qD _ _ _ _ _ _ _ _).1,(qD _ _ _ _ _ _ _ _).2,aD,bP,wz,qt,true_and];unfold dR;rw[e1,e2,e3,e4,e5];exact Prod.ext (congrArg (dG x pc w) e6.symm) rfl
theorem b6W{x:aQ}{pc w:Int}{r:RM}{zs:List Int}{l:List aE}{s h:Bool}(hr:r.Ok 65535)(hb:BusOk zs l):aWS (dG x pc w f0) (bF r zs l s h)=true∧DA (dG x pc w f0) (bF r zs l s h)=((dR x pc w h (dM (mq r zs l s pc w)).1).1,(dR x pc w h (dM (mq r zs l s pc w)).1).2,(dM (mq r zs l s pc w)).2):=by
 refine aK (t:=aK3 (dG x pc w f0) (bF r zs l s h)) (P:=fun q=>q=((dR x pc w h (dM (mq r zs l s pc w)).1).1,(dR x pc w h (dM (mq r zs l s pc w)).1).2,(dM (mq r zs l s pc w)).2)) ?_
 obtain⟨a1,a2⟩:=b6I (s:=s) (h:=h) hr hb;obtain⟨e1,e2,e3,e4,e5,e6⟩:=bQ7 r zs l s pc w;have e7:=NI (pc:=pc) (w:=w) (r:=r) (zs:=zs) (l:=l) (s:=s) 1 2 (cX r.a 3) 0;have nf:dC f0.Vector 0=false:=rfl;unfold aK3;simp only[aB,aJ,aA,oU,nf,a1,a2,(qD _ _ _ _ _ _ _ _).1,(qD _ _ _ _ _ _ _ _).2,aD,bP,wz,qt,true_and,q_2,false_implies,forall_const];unfold dR;rw[e1,e2,e3,e4,e5,e6];exact Prod.ext (congrArg (dG x pc w) e7.symm) rfl
theorem cKJ{x:aQ}{pc w:Int}{f:aL}(c:aI)(hf:dC f.Vector 0=true):aWS (dG x pc w f) c=true∧DA (dG x pc w f) c=(dG x pc w f,c,0):=by
 refine aK (t:=aK3 (dG x pc w f) c) (P:=fun q=>q=(dG x pc w f,c,0)) ?_
 unfold aK3;simp only[aB,aJ,aA,oU,hf,aD,bP,wz,qt,true_and,q_1,false_implies,forall_const,and_true]
theorem b6X{x:aQ}(h:x.Op=14):kB x=bif (bif (bif eqI x.Size 2 then eqI x.Reg 0 else false)then leI x.Sub 1 else false)then uN x.Ea.Mode else false:=by
 unfold kB;rw[h];rfl
theorem aDZ{a b:Bool}(h:(bif a then b else false)=true):a=true∧b=true:=by
 cases a
 ·cases h
 ·exact⟨rfl,h⟩
theorem VG{m:Int}(h:uN m=true):2≤m∧m≤6:=by
 unfold uN at h;cases h1:(bif eqI m 2 then true else eqI m 5)
 ·rw[h1,cond_false,dS]at h;omega
 ·cases h2:eqI m 2
  ·rw[h2,cond_false,dS]at h1;omega
  ·rw[dS]at h2;omega
theorem aX3{x:aQ}(h:InsOk x)(h2:x.Op=14):x.Size=2∧(2≤x.Ea.Mode∧x.Ea.Mode≤6):=by
 have hk:=h.kb;rw[b6X h2]at hk;obtain⟨h1,h3⟩:=aDZ hk;obtain⟨h1,-⟩:=aDZ h1;obtain⟨h1,-⟩:=aDZ h1;exact⟨dS.1 h1,VG h3⟩
def Alike(x:aQ)(pc w:Int)(h s:Bool)(J:MM)(q:bK×aI):Prop:=
 ∃r' s',(cG J=true→r'=J.r∧s'=J.stop)∧(cG J=false→s'=s)∧q=(dG x pc w (dF J),bF r' J.zs J.l s' h)
theorem Alike.of{x:aQ}{pc w:Int}{h s:Bool}{J:MM}(hs:J.stop=s):Alike x pc w h s J (dR x pc w h J):=⟨J.r,J.stop,fun _=>⟨rfl,rfl⟩,fun _=>hs,rfl⟩
theorem Alike.of'{x:aQ}{pc w:Int}{h s:Bool}{J:MM}(hs:cG J=false→J.stop=s):Alike x pc w h s J (dR x pc w h J):=⟨J.r,J.stop,fun _=>⟨rfl,rfl⟩,hs,rfl⟩
theorem b6Y{x:aQ}{pc w:Int}{r:RM}{zs:List Int}{l:List aE}{s h:Bool}(hr:r.Ok 65535)(hb:BusOk zs l)(hg:kZ x=true)(h2:x.Op=14)(hp:cI pc 0 65535=true)(hpc:r.pc=beh x pc):bM0 (dG x pc w f0) (bF r zs l s h)=true∧Alike x pc w h s (zX (mq r zs l s pc w) x pc) (aWQ (dG x pc w f0) (bF r zs l s h)):=by
 refine aK (t:=a4B (dG x pc w f0) (bF r zs l s h)) (P:=fun q=>Alike x pc w h s (zX (mq r zs l s pc w) x pc) q) ?_
 have hi:=InsOk.of hg;obtain⟨k1,hm⟩:=aX3 hi h2;obtain⟨m0,m1,-,-⟩:=PE hm;obtain⟨p1,p2⟩:=VF hr hi.hs hi.ho hm;obtain⟨p3,p4⟩:=rE (s:=x.Size) hr hi.ho;have hpl:(bW r x.Size x.Ea).1.pc=r.pc:=by
  unfold bW;cases eqI x.Ea.Mode 3
  ·cases eqI x.Ea.Mode 4
   ·cases eqI x.Ea.Mode 5
    ·cases eqI x.Ea.Mode 6<;>rfl
    ·rfl
   ·rfl
  ·rfl
 have hbr:=aR.1 hr.pw;rw[hpc]at hbr;obtain⟨b1,b2⟩:=PF (w:=w) (f:=f0) (bF (bW r x.Size x.Ea).1 zs l s h) hg hp;obtain⟨q1,q2⟩:=b6V (x:=x) (pc:=pc) (w:=w) (v:=beh x pc) (s:=s) (h:=h) p3 hb hbr.1 hbr.2;have sp:kI (mq r zs l s pc w) 2 x.Ea=(mq (bW r x.Size x.Ea).1 zs l s pc w,(bW r x.Size x.Ea).2):=by unfold kI;rw[m0,k1];rfl
 unfold a4B zX;rw[h2,show eqI 14 13=false from rfl,cond_false,sp]
 simp only[aB,aJ,aA,MN,aK2,SZ,wG,oT,pC,pH,oU,kR,nA,kS,kG,iX,p1,p2,b1,b2,q1,q2,aD,bP,wz,qt,true_and];refine⟨fun e=>?_,fun e=>?_⟩
 ·have j2:V4 x (mq (bW r x.Size x.Ea).1 zs l s pc w,(bW r x.Size x.Ea).2)=dZ (mq (bW r x.Size x.Ea).1 zs l s pc w) (beh x pc):=by
   unfold V4;rw[e,cond_true,←hpc,←hpl];rfl
  rw[j2];have js:(dZ (mq (bW r x.Size x.Ea).1 zs l s pc w) (beh x pc)).stop=s:=X9 _ _;generalize dZ (mq (bW r x.Size x.Ea).1 zs l s pc w) (beh x pc)=J at js;refine⟨{J.r with pc:=(bW r x.Size x.Ea).2},J.stop,fun hf=>?_,fun _=>js,?_⟩
  ·unfold aXM at hf⊢;cases hj:cG J
   ·rw[hj,cond_false,hj]at hf;cases hf
   ·exact⟨rfl,rfl⟩
  ·unfold aXM dF;cases hj:cG J
   ·rw[cond_false,hj];unfold dR dF;rw[hj];rfl
   ·rw[cond_true];have:cG {J with r:={J.r with pc:=(bW r x.Size x.Ea).2}}=true:=hj
    rw[this];unfold dR dF;rw[hj];rfl
 ·have j2:V4 x (mq (bW r x.Size x.Ea).1 zs l s pc w,(bW r x.Size x.Ea).2)=mq (bW r x.Size x.Ea).1 zs l s pc w:=by
   unfold V4;rw[e];rfl
  rw[j2];exact Alike.of rfl
theorem a9L(r:RM)(p v:Int):dN {r with pc:=p} v={dN r v with pc:=p}:=by
 unfold dN;dsimp only;cases vG (eqI (v/256%2) 1) r.sup<;>rfl
theorem aX4{x:aQ}(h:InsOk x)(h2:x.Op=15):x.Size=2:=by
 have hk:=h.kb;rw[a8U h2]at hk;unfold J9 at hk;cases e:(bif dC x.Size 2 then true else kU x.Sub 6)
 ·cases e2:dC x.Size 2
  ·exact OC.1 e2
  ·rw[e2]at e;cases e
 ·rw[e]at hk;cases hk
theorem aGD(m:MM)(v:Int)(h:eqI v 0=false):dF (zE m v)={m.f with Vector:=v,PC:=m.r.pc}:=by
 have:cG (zE m v)=false:=h;unfold dF;rw[this];rfl
theorem b6Z{v:Int}(h0:0≤v)(h1:v≤65535):eW (eZ v 8) (m7 (bH v 255) 8)=DX v:=by
 unfold DX X0;rw[aR.2 ⟨h0,h1⟩];rfl
theorem bQ8{r:RM}{zs:List Int}{l:List aE}{s:Bool}{pc w:Int}(h:cG (dM (mq r zs l s pc w)).1=true):(dM (mq r zs l s pc w)).1=mq (dM (mq r zs l s pc w)).1.r (dM (mq r zs l s pc w)).1.zs (dM (mq r zs l s pc w)).1.l s pc w:=by
 have e:(dM (mq r zs l s pc w)).1={(cS (mq r zs l s pc w) 1 2 (cX r.a 3) 0).1 with r:=(dM (mq r zs l s pc w)).1.r}:=by
  unfold dM;cases cG (cS (mq r zs l s pc w) 1 2 (cX (mq r zs l s pc w).r.a 3) 0).1<;>rfl
 have hf:cG (cS (mq r zs l s pc w) 1 2 (cX r.a 3) 0).1=true:=by rw[e]at h;exact h
 have:=BK hf;rw[e,this];rfl
theorem b60{x:aQ}{pc w:Int}{r:RM}{zs:List Int}{l:List aE}{s h:Bool}(hr:r.Ok 65535)(hb:BusOk zs l)(hg:kZ x=true)(h2:x.Op=15)(hp:cI pc 0 65535=true)(hpc:r.pc=beh x pc):bM1 (dG x pc w f0) (bF r zs l s h)=true∧Alike x pc w h s (DY (mq r zs l s pc w) x) (aWT (dG x pc w f0) (bF r zs l s h)):=by
 refine aK (t:=a4F (dG x pc w f0) (bF r zs l s h)) (P:=fun q=>Alike x pc w h s (DY (mq r zs l s pc w) x) q) ?_
 have hi:=InsOk.of hg;have hsz:=aX4 hi h2;obtain⟨d1,d2,d3⟩:=jQ hr.d4 hi.hr;obtain⟨s1,s2,s3,s4,s5⟩:=f9 (v:=0) hr.d4 hi.hr;rw[Nat.zero_add]at s5;have dr:=nU hr.dw hr.d4 hi.hr;obtain⟨q1,q2⟩:=b6W (x:=x) (pc:=pc) (w:=w) (s:=s) (h:=h) hr hb;obtain⟨o1,o2,o3⟩:=IC (KJ (s:=s) (pc:=pc) (w:=w) hr hb);have ps:(dM (mq r zs l s pc w)).1.stop=s:=aF7 _;unfold a4F DY;have hsub:x.Sub=0∨x.Sub=1∨x.Sub=2∨x.Sub=3∨x.Sub=4∨x.Sub=5∨x.Sub=6∨x.Sub=7:=by have:=aR.1 hi.hb;omega
 rcases hsub with e|e|e|e|e|e|e|e
 ·simp only[aB,aJ,aA,oI,oH,pG,mX,tZ,tY,tX,tW,tU,tT,tS,tR,tQ,jF,oT,pC,pH,oU,kR,nA,kS,kG,eS,eT,aW,cM,aV,bL,aU,aT,iX,e,show eqI 0 0=true from rfl,show eqI 0 1=false from rfl,show eqI 0 3=false from rfl,show eqI 0 4=false from rfl,show eqI 0 5=false from rfl,show eqI 0 6=false from rfl,Nat.zero_add,bA,bI,d2,s3,s4,s5,q1,q2,cond_true,cond_false,aD,bP,wz,bO,cU,bG,cV,qt,true_and,forall_const,q_1,q_2,false_implies,and_true]
  exact Alike.of (J:={(dM (mq r zs l s pc w)).1 with r:={(dM (mq r zs l s pc w)).1.r with pc:=(dM (mq r zs l s pc w)).2}}) ps
 ·cases hf:cG (dM (mq r zs l s pc w)).1
  ·obtain⟨e1,e2⟩:=zF hf;obtain⟨n1,n2⟩:=cKJ (x:=x) (pc:=pc) (w:=w) (f:=(dM (mq r zs l s pc w)).1.f) (dR x pc w h (dM (mq r zs l s pc w)).1).2 e2;have e3:eqI (dM (mq r zs l s pc w)).1.f.Vector 0=false:=hf;have dr1:(dR x pc w h (dM (mq r zs l s pc w)).1).1=dG x pc w (dM (mq r zs l s pc w)).1.f:=by unfold dR;rw[e1]
   simp only[aB,aJ,aA,oI,oH,pG,mX,tZ,tY,tX,tW,tU,tT,tS,tR,tQ,jF,oT,pC,pH,oU,kR,nA,kS,kG,eS,eT,aW,cM,aV,bL,aU,aT,iX,e,show eqI 1 0=false from rfl,show eqI 1 1=true from rfl,show eqI 1 3=false from rfl,show eqI 1 4=false from rfl,show eqI 1 5=false from rfl,show eqI 1 6=false from rfl,Nat.zero_add,bA,bI,d2,s3,s4,s5,q1,q2,cond_true,cond_false,aD,bP,wz,bO,cU,bG,cV,qt,true_and,forall_const,q_1,q_2,false_implies,and_true,dr1,n1,n2,e3,Bool.not_false]
   have:(dG x pc w (dM (mq r zs l s pc w)).1.f,(dR x pc w h (dM (mq r zs l s pc w)).1).2)=dR x pc w h (dM (mq r zs l s pc w)).1:=by rw[←dr1]
   rw[this];exact Alike.of ps
  ·have e1:=sR hf;have em:=bQ8 hf;have dr1:(dR x pc w h (dM (mq r zs l s pc w)).1).1=dG x pc w f0:=by unfold dR;rw[e1]
   have dr2:(dR x pc w h (dM (mq r zs l s pc w)).1).2=bF (dM (mq r zs l s pc w)).1.r (dM (mq r zs l s pc w)).1.zs (dM (mq r zs l s pc w)).1.l s h:=by unfold dR;rw[ps]
   obtain⟨n1,n2⟩:=b6W (x:=x) (pc:=pc) (w:=w) (s:=s) (h:=h) o1.r o1.b;obtain⟨u1,u2,u3⟩:=IC (KJ (s:=s) (pc:=pc) (w:=w) o1.r o1.b);have us:(dM (mq (dM (mq r zs l s pc w)).1.r (dM (mq r zs l s pc w)).1.zs (dM (mq r zs l s pc w)).1.l s pc w)).1.stop=s:=aF7 _;have em2:dM (dM (mq r zs l s pc w)).1=dM (mq (dM (mq r zs l s pc w)).1.r (dM (mq r zs l s pc w)).1.zs (dM (mq r zs l s pc w)).1.l s pc w):=congrArg dM em;have ew:bH (dM (mq r zs l s pc w)).2 1023=(dM (mq r zs l s pc w)).2%1024:=i6 10 _ (by omega) (by decide)
   rw[em2];generalize dM (mq (dM (mq r zs l s pc w)).1.r (dM (mq r zs l s pc w)).1.zs (dM (mq r zs l s pc w)).1.l s pc w)=Q at n1 n2 u1 u2 u3 us;obtain⟨Q1,v⟩:=Q;dsimp only at n1 n2 u1 u2 u3 us⊢;obtain⟨t1,t2⟩:=aDU (v:=(dM (mq r zs l s pc w)).2%1024) u1.r (by rw[aR];omega)
   cases hf2:cG Q1
   ·obtain⟨g1,g2⟩:=zF hf2;have g3:eqI Q1.f.Vector 0=false:=hf2;have g4:(dR x pc w h Q1).1.ffault=Q1.f:=by unfold dR;rw[g1];rfl
    simp only[aB,aJ,aA,oI,oH,pG,mX,tZ,tY,tX,tW,tU,tT,tS,tR,tQ,jF,oT,pC,pH,oU,kR,nA,kS,kG,eS,eT,aW,cM,aV,bL,aU,aT,iX,e,show eqI 1 0=false from rfl,show eqI 1 1=true from rfl,show eqI 1 3=false from rfl,show eqI 1 4=false from rfl,show eqI 1 5=false from rfl,show eqI 1 6=false from rfl,Nat.zero_add,bA,bI,d2,s3,s4,s5,q1,q2,cond_true,cond_false,aD,bP,wz,bO,cU,bG,cV,qt,true_and,forall_const,q_1,q_2,false_implies,and_true,dr1,dr2,n1,n2,g3,g4,Bool.not_true]
    exact Alike.of us
   ·have g1:=sR hf2;have g3:eqI f0.Vector 0=true:=rfl;have g4:(dR x pc w h Q1).1.ffault=f0:=by unfold dR;rw[g1];rfl
    have g5:(dR x pc w h Q1).2.R=Q1.r.g:=rfl;simp only[aB,aJ,aA,oI,oH,pG,mX,tZ,tY,tX,tW,tU,tT,tS,tR,tQ,jF,oT,pC,pH,oU,kR,nA,kS,kG,eS,eT,aW,cM,aV,bL,aU,aT,iX,e,show eqI 1 0=false from rfl,show eqI 1 1=true from rfl,show eqI 1 3=false from rfl,show eqI 1 4=false from rfl,show eqI 1 5=false from rfl,show eqI 1 6=false from rfl,Nat.zero_add,bA,bI,d2,s3,s4,s5,q1,q2,cond_true,cond_false,aD,bP,wz,bO,cU,bG,cV,qt,true_and,forall_const,q_1,q_2,false_implies,and_true,dr1,dr2,n1,n2,g3,g4,g5,ew,t1,t2,Bool.not_true]
    rw[a9L];exact Alike.of (J:={Q1 with r:={dN Q1.r ((dM (mq r zs l s pc w)).2%1024)with pc:=v}}) us
 ·simp only[aB,aJ,aA,oI,oH,pG,mX,tZ,tY,tX,tW,tU,tT,tS,tR,tQ,jF,oT,pC,pH,oU,kR,nA,kS,kG,eS,eT,aW,cM,aV,bL,aU,aT,iX,e,show eqI 2 0=false from rfl,show eqI 2 1=false from rfl,show eqI 2 3=false from rfl,show eqI 2 4=false from rfl,show eqI 2 5=false from rfl,show eqI 2 6=false from rfl,Nat.zero_add,bA,bI,d2,s3,s4,s5,q1,q2,cond_true,cond_false,aD,bP,wz,bO,cU,bG,cV,qt,true_and,forall_const,q_1,q_2,false_implies,and_true]
  exact Alike.of (J:=mq r zs l s pc w) rfl
 ·have hx:cI x.Ea.Ext 0 1023=true:=by
   have:=aR.1 hi.ho.he;have:=X1 hi h2 e;rw[aR];omega
  obtain⟨t1,t2⟩:=aDU (v:=x.Ea.Ext) hr hx;simp only[aB,aJ,aA,oI,oH,pG,mX,tZ,tY,tX,tW,tU,tT,tS,tR,tQ,jF,oT,pC,pH,oU,kR,nA,kS,kG,eS,eT,aW,cM,aV,bL,aU,aT,iX,e,show eqI 3 0=false from rfl,show eqI 3 1=false from rfl,show eqI 3 3=true from rfl,show eqI 3 4=false from rfl,show eqI 3 5=false from rfl,show eqI 3 6=false from rfl,Nat.zero_add,bA,bI,d2,s3,s4,s5,q1,q2,cond_true,cond_false,aD,bP,wz,bO,cU,bG,cV,qt,true_and,forall_const,q_1,q_2,false_implies,and_true,t1,t2]
  exact Alike.of' (J:={mq r zs l s pc w with r:=dN r x.Ea.Ext,stop:=true}) (fun hf=>by cases hf)
 ·obtain⟨b1,b2⟩:=PF (w:=w) (f:=f0) (bF r zs l s h) hg hp;have hrg:=aR.1 hi.hr;have ea:bE 18 x.Reg=18+x.Reg:=bV (by omega)
  have hv:eqI (18+x.Reg) 0=false:=gT.2 (by omega)
  simp only[aB,aJ,aA,oI,oH,pG,mX,tZ,tY,tX,tW,tU,tT,tS,tR,tQ,jF,oT,pC,pH,oU,kR,nA,kS,kG,eS,eT,aW,cM,aV,bL,aU,aT,iX,e,show eqI 4 0=false from rfl,show eqI 4 1=false from rfl,show eqI 4 3=false from rfl,show eqI 4 4=true from rfl,show eqI 4 5=false from rfl,show eqI 4 6=false from rfl,Nat.zero_add,bA,bI,d2,s3,s4,s5,q1,q2,cond_true,cond_false,aD,bP,wz,bO,cU,bG,cV,qt,true_and,forall_const,q_1,q_2,false_implies,and_true,b1,b2,ea,(sQ _ _ _ _ _ _ _).1,(sQ _ _ _ _ _ _ _).2]
  have hd:=aGD (mq r zs l s pc w) (18+x.Reg) hv;have hfl:VE (18+x.Reg) (beh x pc) f0 w=dF (zE (mq r zs l s pc w) (18+x.Reg)):=by
   rw[hd,←hpc];rfl
  rw[hfl];exact Alike.of (J:=zE (mq r zs l s pc w) (18+x.Reg)) rfl
 ·have sv:=UU (v:=cX r.d x.Reg);obtain⟨t1,t2⟩:=toD (x:=x) (pc:=pc) (w:=w) (f:=f0) (zs:=zs) (l:=l) (s:=s) (h:=h) (v:=DX (cX r.d x.Reg)) hr hi.hs hi.hr (fun z=>by omega) sv.1 sv.2
  rw[show dC f0.Vector 0=false from rfl,cond_false]at t2
  have es:=b6Z (v:=cX r.d x.Reg) dr.1 (by omega)
  simp only[aB,aJ,aA,oI,oH,pG,mX,tZ,tY,tX,tW,tU,tT,tS,tR,tQ,jF,oT,pC,pH,oU,kR,nA,kS,kG,eS,eT,aW,cM,aV,bL,aU,aT,iX,e,show eqI 5 0=false from rfl,show eqI 5 1=false from rfl,show eqI 5 3=false from rfl,show eqI 5 4=false from rfl,show eqI 5 5=true from rfl,show eqI 5 6=false from rfl,Nat.zero_add,bA,bI,d2,s3,s4,s5,q1,q2,cond_true,cond_false,aD,bP,wz,bO,cU,bG,cV,qt,true_and,forall_const,q_1,q_2,false_implies,and_true,es,t1,t2]
  rw[hsz];exact Alike.of (J:=BQ (mq r zs l s pc w) 2 x.Reg (DX (cX r.d x.Reg))) rfl
 ·have sv:=aT2 (v:=cX r.d x.Reg);obtain⟨t1,t2⟩:=toD (x:=x) (pc:=pc) (w:=w) (f:=f0) (zs:=zs) (l:=l) (s:=s) (h:=h) (v:=V3 (cX r.d x.Reg)) hr hi.hs hi.hr (fun z=>by omega) sv.1 sv.2
  rw[show dC f0.Vector 0=false from rfl,cond_false]at t2
  have e8:bH (cX r.d x.Reg) 255=cX r.d x.Reg%256:=yZ dr.1 (by omega)
  obtain⟨g1,g2⟩:=XW (s:=1) (v:=cX r.d x.Reg%256) (Or.inl rfl) (by omega) (by omega)
  have ee:bH (zU 1 (cX r.d x.Reg%256)) 65535=V3 (cX r.d x.Reg):=rfl;simp only[aB,aJ,aA,oI,oH,pG,mX,tZ,tY,tX,tW,tU,tT,tS,tR,tQ,jF,oT,pC,pH,oU,kR,nA,kS,kG,eS,eT,aW,cM,aV,bL,aU,aT,iX,e,show eqI 6 0=false from rfl,show eqI 6 1=false from rfl,show eqI 6 3=false from rfl,show eqI 6 4=false from rfl,show eqI 6 5=false from rfl,show eqI 6 6=true from rfl,Nat.zero_add,bA,bI,d2,s3,s4,s5,q1,q2,cond_true,cond_false,aD,bP,wz,bO,cU,bG,cV,qt,true_and,forall_const,q_1,q_2,false_implies,and_true,e8,g1,g2,ee,t1,t2]
  rw[hsz];exact Alike.of (J:=BQ (mq r zs l s pc w) 2 x.Reg (V3 (cX r.d x.Reg))) rfl
 ·simp only[aB,aJ,aA,oI,oH,pG,mX,tZ,tY,tX,tW,tU,tT,tS,tR,tQ,jF,oT,pC,pH,oU,kR,nA,kS,kG,eS,eT,aW,cM,aV,bL,aU,aT,iX,e,show eqI 7 0=false from rfl,show eqI 7 1=false from rfl,show eqI 7 3=false from rfl,show eqI 7 4=false from rfl,show eqI 7 5=false from rfl,show eqI 7 6=false from rfl,Nat.zero_add,bA,bI,d2,s3,s4,s5,q1,q2,cond_true,cond_false,aD,bP,wz,bO,cU,bG,cV,qt,true_and,forall_const,q_1,q_2,false_implies,and_true]
  exact Alike.of (J:=mq r zs l s pc w) rfl
end Go.Proofs.YtdipcnijfkdnfaaGreatIrqs

namespace Go.Proofs.YtdipcnijfkdnfaaGreatIrqs
open Go Go.Zq
set_option maxHeartbeats 4000000
set_option maxRecDepth 100000
theorem bQ9{x:aQ}(h:x.Op=16∨x.Op=17):kB x=bif (bif eqI x.Size 2 then eqI x.Sub 0 else false)then dC x.Ea.Mode 1 else false:=by
 unfold kB;rcases h with h|h<;>rw[h]<;>rfl
theorem a9M{x:aQ}(h:InsOk x)(h2:x.Op=16∨x.Op=17):x.Size=2:=by
 have hk:=h.kb;rw[bQ9 h2]at hk;obtain⟨h1,-⟩:=aDZ hk;obtain⟨h1,-⟩:=aDZ h1;exact dS.1 h1
theorem a9N{x:aQ}{pc w:Int}{r:RM}{zs:List Int}{l:List aE}{s h:Bool}(hr:r.Ok 65535)(hb:BusOk zs l)(hg:kZ x=true)(h2:x.Op=16∨x.Op=17)(hp:cI pc 0 65535=true)(hpc:r.pc=beh x pc):bM2 (dG x pc w f0) (bF r zs l s h)=true∧aWU (dG x pc w f0) (bF r zs l s h)=dR x pc w h (kC (mq r zs l s pc w) x):=by
 refine aK (t:=a4G (dG x pc w f0) (bF r zs l s h)) (P:=fun q=>q=dR x pc w h (kC (mq r zs l s pc w) x)) ?_
 have hi:=InsOk.of hg;have hsz:=a9M hi h2;obtain⟨r1,r2⟩:=aNR (pc:=pc) (w:=w) (s:=s) (h:=h) hr hb hi.hs hi.ho;obtain⟨r3,r4,r5⟩:=rH (KJ (s:=s) (pc:=pc) (w:=w) hr hb) UV hi.ho oS oS;have rpc:(dT (mq r zs l s pc w) 2 x.Ea).1.r.pc=r.pc:=by
  unfold dT;cases eqI x.Ea.Mode 0
  ·cases eqI x.Ea.Mode 1
   ·cases eqI x.Ea.Mode 7
    ·show(bW r 2 x.Ea).1.pc=r.pc
     unfold bW;cases eqI x.Ea.Mode 3
     ·cases eqI x.Ea.Mode 4
      ·cases eqI x.Ea.Mode 5
       ·cases eqI x.Ea.Mode 6<;>rfl
       ·rfl
      ·rfl
     ·rfl
    ·rfl
   ·rfl
  ·rfl
 have rst:(dT (mq r zs l s pc w) 2 x.Ea).1.stop=s:=by
  unfold dT;cases eqI x.Ea.Mode 0
  ·cases eqI x.Ea.Mode 1
   ·cases eqI x.Ea.Mode 7<;>rfl
   ·rfl
  ·rfl
 have rfm:cG (dT (mq r zs l s pc w) 2 x.Ea).1=true→(dT (mq r zs l s pc w) 2 x.Ea).1.f=ff pc w:=by
  unfold dT;cases eqI x.Ea.Mode 0
  ·cases eqI x.Ea.Mode 1
   ·cases eqI x.Ea.Mode 7
    ·intro hf;have:=BK (r:=(bW r 2 x.Ea).1) (zs:=zs) (l:=l) (s:=s) (pc:=pc) (w:=w) hf;exact congrArg MM.f this
    ·exact fun _=>rfl
   ·exact fun _=>rfl
  ·exact fun _=>rfl
 rw[hsz]at r2;unfold a4G kC;generalize dT (mq r zs l s pc w) 2 x.Ea=q at r2 r3 r4 r5 rpc rst rfm;obtain⟨q1,v,a⟩:=q;dsimp only at r2 r3 r4 r5 rpc rst rfm⊢;obtain⟨qr,qz,ql,qs,qf⟩:=q1;have hqr:RM.Ok 65535 qr:=r3.r;dsimp only at rpc rst rfm;cases hfi:cG ⟨qr,qz,ql,qs,qf⟩
 ·obtain⟨e1,e2⟩:=zF hfi;simp only[aB,aJ,aA,HP,MQ,MP,A5,DB,HO,MO,oT,pC,pH,oU,kR,nA,kS,kG,r1,r2,dR,e1,e2,Bool.not_false,cond_true,aD,bP,wz,Bool.and_true,true_and,forall_const,Bool.true_eq_false,false_implies,and_true]
 ·have e1: ∀r',dF ⟨r',qz,ql,qs,qf⟩=f0:=fun r'=>sR (m:=⟨r',qz,ql,qs,qf⟩) hfi
  have nf:dC f0.Vector 0=false:=rfl;obtain⟨d1,d2,d3⟩:=jQ hqr.d4 hi.hr;obtain⟨s1,s2,s3,s4,s5⟩:=f9 (v:=0) hqr.d4 hi.hr;rw[Nat.zero_add]at s5;have dr:=nU hqr.dw hqr.d4 hi.hr;have vr:=rD r4;obtain⟨u1,u2⟩:=aT3 dr.1 (by omega) vr.1 vr.2
  have tt: ∀v,0≤v→v≤65535→OR v (dG x pc w f0) (bF qr qz ql qs h)=true∧OQ v (dG x pc w f0) (bF qr qz ql qs h)=bF (zB {qr with fl:=hY x.Size qr.fl v} x.Size x.Reg v) qz ql qs h:=fun v h0 h1=>by
   have:=toD (x:=x) (pc:=pc) (w:=w) (f:=f0) (zs:=qz) (l:=ql) (s:=qs) (h:=h) hqr hi.hs hi.hr (fun z=>by omega) h0 h1
   exact this
  rw[hsz]at tt;unfold X2;rcases h2 with e|e
  ·obtain⟨t1,t2⟩:=tt (cX qr.d x.Reg*v%65536) (by omega) (by omega)
   simp only[aB,aJ,aA,HP,MQ,MP,A5,DB,HO,MO,oT,pC,pH,oU,kR,nA,kS,kG,eS,eT,aW,cM,aV,bL,aU,aT,r1,r2,dR,e1,nf,e,show eqI 16 16=true from rfl,Nat.zero_add,bA,bI,d2,s3,s4,s5,u1,tH,t1,t2,(zA _ _).1,(zA _ _).2,Bool.not_true,cond_true,cond_false,aD,bP,wz,Bool.and_true,true_and,forall_const,Bool.true_eq_false,Bool.false_eq_true,false_implies,and_true]
   exact Prod.ext (congrArg (dG x pc w) (e1 _).symm) rfl
  ·obtain⟨b1,b2⟩:=PF (w:=w) (f:=f0) (bF qr qz ql qs h) hg hp;cases hv:eqI v 0
   ·have hv':=gT.1 hv;have hn:dC v 0=true:=oM.2 hv';obtain⟨v1,v2,v3⟩:=aDQ dr.1 (show 0<v by omega) (by omega)
    obtain⟨t1,t2⟩:=tt (cX qr.d x.Reg/v) v2 (by omega)
    simp only[aB,aJ,aA,HP,MQ,MP,A5,DB,HO,MO,oT,pC,pH,oU,kR,nA,kS,kG,eS,eT,aW,cM,aV,bL,aU,aT,r1,r2,dR,e1,nf,e,show eqI 17 16=false from rfl,hv,hn,Nat.zero_add,bA,bI,d2,s3,s4,s5,v1,t1,t2,Bool.not_true,cond_true,cond_false,aD,bP,wz,Bool.and_true,true_and,forall_const,Bool.true_eq_false,Bool.false_eq_true,false_implies,and_true]
    exact Prod.ext (congrArg (dG x pc w) (e1 _).symm) rfl
   ·have hd:=aGD ⟨qr,qz,ql,qs,qf⟩ 5 rfl;have hfl:VE 5 (beh x pc) f0 w=dF (zE ⟨qr,qz,ql,qs,qf⟩ 5):=by
     rw[hd,rfm hfi];show _={ff pc w with Vector:=5,PC:=qr.pc}
     rw[rpc,hpc];rfl
    simp only[aB,aJ,aA,HP,MQ,MP,A5,DB,HO,MO,oT,pC,pH,oU,kR,nA,kS,kG,eS,eT,aW,cM,aV,bL,aU,aT,r1,r2,dR,e1,nf,e,show eqI 17 16=false from rfl,hv,Nat.zero_add,bA,bI,d2,s3,s4,s5,b1,b2,(sQ _ _ _ _ _ _ _).1,(sQ _ _ _ _ _ _ _).2,hfl,Bool.not_true,cond_true,cond_false,aD,bP,wz,Bool.and_true,true_and,forall_const,Bool.true_eq_false,Bool.false_eq_true,false_implies,and_true]
    rfl
theorem cKK{x:aQ}{pc w:Int}{r:RM}{zs:List Int}{l:List aE}{s h:Bool}(hr:r.Ok 65535)(hb:BusOk zs l)(hg:kZ x=true):bNC (dG x pc w f0) (bF r zs l s h)=true∧aWW (dG x pc w f0) (bF r zs l s h)=dR x pc w h (NF (mq r zs l s pc w) x):=by
 refine aK (t:=a4Q (dG x pc w f0) (bF r zs l s h)) (P:=fun q=>q=dR x pc w h (NF (mq r zs l s pc w) x)) ?_
 have hi:=InsOk.of hg;obtain⟨i1,i2,i3⟩:=jQ hr.d4 hi.hr;obtain⟨s1,s2,s3,s4,s5⟩:=f9 (v:=0) hr.d4 hi.hr;obtain⟨j1,j2,j3⟩:=jQ hr.d4 hi.ho.hr;obtain⟨u1,u2,u3,u4,u5⟩:=f9 (v:=0) hr.d4 hi.ho.hr;rw[Nat.zero_add]at s5 u5;have dr:=nU hr.dw hr.d4 hi.hr;have er:=nU hr.dw hr.d4 hi.ho.hr;have m8:bH (cX r.d x.Reg) 255=cX r.d x.Reg%256:=yZ dr.1 (by omega)
 have n8:bH (cX r.d x.Ea.Reg) 255=cX r.d x.Ea.Reg%256:=yZ er.1 (by omega)
 have eq:lQ r.fl 16=bif dC (bH r.fl 16) 0 then 1 else 0:=rF (p:=fun f=>lQ f 16=bif dC (bH f 16) 0 then 1 else 0) hr.fw (by decide+kernel)
 have ha:cI (cX r.d x.Reg%256) 0 255=true:=by rw[aR];omega
 have hbb:cI (cX r.d x.Ea.Reg%256) 0 255=true:=by rw[aR];omega
 obtain⟨a1,a2⟩:=b6R (rG (dC (bH r.fl 16) 0)) ha hbb;obtain⟨b1,b2⟩:=b6S (rG (dC (bH r.fl 16) 0)) ha hbb;unfold a4Q NF;rw[show(mq r zs l s pc w).r=r from rfl]
 cases h1:(i7 (cX r.d x.Reg%256)&&i7 (cX r.d x.Ea.Reg%256))
 ·have hfl:VE 4 pc f0 w=dF {mq r zs l s pc w with f:={(mq r zs l s pc w).f with Vector:=4}}:=rfl
  have bb:(bif eqI x.Sub 1 then false else false)=false:=by cases eqI x.Sub 1<;>rfl
  rw[h1]at a2 b2;simp only[aB,aJ,aA,aBW,TB,aBV,TA,S9,S8,MT,MS,oT,pC,pH,oU,kR,nA,kS,kG,eS,eT,aW,cM,aV,bL,aU,aT,Nat.zero_add,bA,bI,i2,j2,s3,s4,s5,u3,u4,u5,m8,n8,eq,a1,a2,b1,b2,bb,(sQ _ _ _ _ _ _ _).1,(sQ _ _ _ _ _ _ _).2,hfl,Bool.not_false,Bool.not_true,cond_true,cond_false,aD,bP,wz,Bool.and_true,Bool.true_or,Bool.or_true,true_and,forall_const,Bool.true_eq_false,Bool.false_eq_true,false_implies,and_true];rfl
 ·rw[h1]at a2 b2;rw[Bool.and_eq_true]at h1;obtain⟨⟨v0,v1⟩,v2⟩:=aDR (x:=x) (m:=mq r zs l s pc w) h1.1 h1.2;have bb:(bif eqI x.Sub 1 then true else true)=true:=by cases eqI x.Sub 1<;>rfl
  have e4:(bif eqI x.Sub 1 then(OX (bif dC (bH r.fl 16) 0 then 1 else 0) (cX r.d x.Reg%256) (cX r.d x.Ea.Reg%256)).1 else(OW (bif dC (bH r.fl 16) 0 then 1 else 0) (cX r.d x.Reg%256) (cX r.d x.Ea.Reg%256)).1)=(BX x (mq r zs l s pc w)).1:=by
   unfold BX;cases eqI x.Sub 1<;>rfl
  have e5:(bif eqI x.Sub 1 then(OX (bif dC (bH r.fl 16) 0 then 1 else 0) (cX r.d x.Reg%256) (cX r.d x.Ea.Reg%256)).2 else(OW (bif dC (bH r.fl 16) 0 then 1 else 0) (cX r.d x.Reg%256) (cX r.d x.Ea.Reg%256)).2)=(BX x (mq r zs l s pc w)).2:=by
   unfold BX;cases eqI x.Sub 1<;>rfl
  have e6:(bif eqI (BX x (mq r zs l s pc w)).2 1 then(17:Int)else 0)=dH (BX x (mq r zs l s pc w)).2 17:=by rcases v2 with z|z<;>rw[z]<;>decide
  obtain⟨p1,p2⟩:=a9J (v:=(BX x (mq r zs l s pc w)).1) hr h11 hi.hr (fun _=>by omega)
  simp only[aB,aJ,aA,aBW,TB,aBV,TA,S9,S8,MT,MS,oT,pC,pH,oU,kR,nA,kS,kG,eS,eT,aW,cM,aV,bL,aU,aT,Nat.zero_add,bA,bI,i2,j2,s3,s4,s5,u3,u4,u5,m8,n8,eq,a1,a2,b1,b2,bb,e4,e5,e6,p1,p2,(zA _ _).1,(zA _ _).2,Bool.not_false,Bool.not_true,cond_true,cond_false,aD,bP,wz,Bool.and_true,Bool.true_or,Bool.or_true,true_and,forall_const,Bool.true_eq_false,Bool.false_eq_true,false_implies,and_true];rfl
end Go.Proofs.YtdipcnijfkdnfaaGreatIrqs

namespace Go.Proofs.YtdipcnijfkdnfaaGreatIrqs
open Bool renaming and_true → qt
open Bool renaming true_eq_false → q_1
open Bool renaming false_eq_true → q_2
open Bool renaming true_or → q_3
open Bool renaming not_true → q_5
open Bool renaming or_true → q_6
open Nat renaming zero_add → q_9
open List renaming length_set → q_f
open Go Go.Zq
set_option maxHeartbeats 4000000
set_option maxRecDepth 100000
theorem cKL{x:aQ}(h:x.Op=9):kB x=bif eqI x.Size 2 then eqI x.Sub 0 else false:=by
 unfold kB;rw[h];rfl
theorem b61{x:aQ}(h:x.Op=10):kB x=bif (bif eqI x.Size 2 then eqI x.Sub 0 else false)then uN x.Ea.Mode else false:=by
 unfold kB;rw[h];rfl
theorem wZ(m:MM)(x:aQ):(BI m x).stop=(dT m x.Size x.Ea).1.stop:=by
 unfold BI;dsimp only;cases !cG (dT m x.Size x.Ea).1
 ·cases eqI x.Op 8<;>rfl
 ·rfl
theorem jS(m:MM)(s:Int)(o:aG):(dT m s o).1.stop=m.stop:=by
 unfold dT;cases eqI o.Mode 0
 ·cases eqI o.Mode 1
  ·cases eqI o.Mode 7<;>rfl
  ·rfl
 ·rfl
theorem VH(m:MM)(s:Int)(o:aG)(a v:Int):(eL m s o a v).stop=m.stop:=by
 unfold eL;cases eqI o.Mode 0<;>rfl
theorem aGE(m:MM)(s:Int)(o:aG):(kI m s o).1.stop=m.stop:=by
 unfold kI;cases eqI o.Mode 0<;>rfl
theorem aX5(m:MM)(x:aQ):(X6 m x).stop=m.stop:=by
 show(eL (kI m x.Size x.Ea).1 x.Size x.Ea (kI m x.Size x.Ea).2 (cX m.r.d x.Reg%cD x.Size)).stop=m.stop
 rw[VH,aGE]
theorem aX6(m:MM)(x:aQ):(fG m x).1.stop=m.stop:=by
 unfold fG;cases eqI x.Sub 0
 ·exact jS _ _ _
 ·exact aGE _ _ _
theorem aX7(x:aQ)(q:MM)(a:Int)(w:Int×Int):(DW x q a w).stop=q.stop:=by
 unfold DW;cases !cG q
 ·cases ltI x.Sub 3
  ·rfl
  ·exact VH _ _ _ _ _
 ·rfl
theorem a9O(m:MM)(x:aQ):(NE m x).stop=m.stop:=by
 unfold NE;rw[aX7,aX6]
theorem KK(m:MM)(x:aQ):(kC m x).stop=m.stop:=by
 unfold kC X2;cases !cG (dT m 2 x.Ea).1
 ·cases eqI x.Op 16
  ·cases eqI (dT m 2 x.Ea).2.1 0<;>exact jS _ _ _
  ·exact jS _ _ _
 ·exact jS _ _ _
theorem a9P(m:MM)(x:aQ):(NF m x).stop=m.stop:=by
 unfold NF;cases i7 (cX m.r.d x.Reg%256)&&i7 (cX m.r.d x.Ea.Reg%256)<;>rfl
theorem doD{x:aQ}{pc w:Int}{r:RM}{zs:List Int}{l:List aE}{s h:Bool}(hr:r.Ok 65535)(hb:BusOk zs l)(hg:kZ x=true)(hp:cI pc 0 65535=true)(hpc:r.pc=beh x pc):bNF (dG x pc w f0) (bF r zs l s h)=true∧Alike x pc w h s (tI (mq r zs l s pc w) x pc) (bNE (dG x pc w f0) (bF r zs l s h)):=by
 refine aK (t:=a4R (dG x pc w f0) (bF r zs l s h)) (P:=fun q=>Alike x pc w h s (tI (mq r zs l s pc w) x pc) q) ?_
 have hi:=InsOk.of hg;have hop:=hi.op;have hrr:=aR.1 hi.hr;have hsb:=aR.1 hi.hb;have hm:=KJ (s:=s) (pc:=pc) (w:=w) hr hb;obtain⟨y1,y2,y3,y4,y5⟩:=f9 (v:=0) hr.a4 hi.hr;rw[q_9]at y1 y2 y5;obtain⟨t1,t2,t3,t4,t5⟩:=f9 (v:=0) hr.d4 hi.hr;rw[q_9]at t1 t2 t5;unfold a4R tI;have hops:x.Op=1∨x.Op=2∨x.Op=3∨x.Op=4∨x.Op=5∨x.Op=6∨x.Op=7∨x.Op=8∨x.Op=9∨x.Op=10∨x.Op=11∨x.Op=12∨x.Op=13∨x.Op=14∨x.Op=15∨x.Op=16∨x.Op=17∨x.Op=18∨x.Op=19:=by omega
 rcases hops with e|e|e|e|e|e|e|e|e|e|e|e|e|e|e|e|e|e|e
 ·obtain⟨a1,a2⟩:=aNS (pc:=pc) (w:=w) (s:=s) (h:=h) hr hb hi (by unfold qC;omega)
  simp only[aB,aJ,aA,gL,fI,fR,fC,gK,gJ,fQ,gI,gH,hH,hG,hD,gZ,gY,gX,gW,gV,bZ,fB,bY,gG,gF,fH,gE,fP,gD,fO,jL,fD,jK,jJ,iG,iP,jI,iO,jH,jG,oT,pC,pH,oU,kR,nA,kS,kG,eS,eT,aW,cM,aV,bL,aU,aT,iX,e,show eqI 1 1=true from rfl,show eqI 1 2=false from rfl,show eqI 1 3=false from rfl,show eqI 1 4=false from rfl,show eqI 1 5=false from rfl,show eqI 1 6=false from rfl,show eqI 1 7=false from rfl,show eqI 1 8=false from rfl,show eqI 1 9=false from rfl,show eqI 1 10=false from rfl,show eqI 1 11=false from rfl,show eqI 1 12=false from rfl,show eqI 1 13=false from rfl,show eqI 1 14=false from rfl,show eqI 1 15=false from rfl,show eqI 1 16=false from rfl,show eqI 1 17=false from rfl,show eqI 1 18=false from rfl,show eqI 1 19=false from rfl,a1,a2,q_9,bA,bI,dX,q_f,q_5,cond_true,cond_false,aD,bP,wz,bO,cU,bG,cV,qt,q_3,q_6,true_and,forall_const,q_1,q_2,false_implies,and_true,implies_true]
  exact Alike.of ((wZ _ _).trans (jS _ _ _))
 ·obtain⟨a1,a2⟩:=b6T (pc:=pc) (w:=w) (s:=s) (h:=h) hr hb hi e;simp only[aB,aJ,aA,gL,fI,fR,fC,gK,gJ,fQ,gI,gH,hH,hG,hD,gZ,gY,gX,gW,gV,bZ,fB,bY,gG,gF,fH,gE,fP,gD,fO,jL,fD,jK,jJ,iG,iP,jI,iO,jH,jG,oT,pC,pH,oU,kR,nA,kS,kG,eS,eT,aW,cM,aV,bL,aU,aT,iX,e,show eqI 2 1=false from rfl,show eqI 2 2=true from rfl,show eqI 2 3=false from rfl,show eqI 2 4=false from rfl,show eqI 2 5=false from rfl,show eqI 2 6=false from rfl,show eqI 2 7=false from rfl,show eqI 2 8=false from rfl,show eqI 2 9=false from rfl,show eqI 2 10=false from rfl,show eqI 2 11=false from rfl,show eqI 2 12=false from rfl,show eqI 2 13=false from rfl,show eqI 2 14=false from rfl,show eqI 2 15=false from rfl,show eqI 2 16=false from rfl,show eqI 2 17=false from rfl,show eqI 2 18=false from rfl,show eqI 2 19=false from rfl,a1,a2,q_9,bA,bI,dX,q_f,q_5,cond_true,cond_false,aD,bP,wz,bO,cU,bG,cV,qt,q_3,q_6,true_and,forall_const,q_1,q_2,false_implies,and_true,implies_true]
  exact Alike.of (aX5 _ _)
 ·obtain⟨a1,a2⟩:=aNS (pc:=pc) (w:=w) (s:=s) (h:=h) hr hb hi (by unfold qC;omega)
  simp only[aB,aJ,aA,gL,fI,fR,fC,gK,gJ,fQ,gI,gH,hH,hG,hD,gZ,gY,gX,gW,gV,bZ,fB,bY,gG,gF,fH,gE,fP,gD,fO,jL,fD,jK,jJ,iG,iP,jI,iO,jH,jG,oT,pC,pH,oU,kR,nA,kS,kG,eS,eT,aW,cM,aV,bL,aU,aT,iX,e,show eqI 3 1=false from rfl,show eqI 3 2=false from rfl,show eqI 3 3=true from rfl,show eqI 3 4=false from rfl,show eqI 3 5=false from rfl,show eqI 3 6=false from rfl,show eqI 3 7=false from rfl,show eqI 3 8=false from rfl,show eqI 3 9=false from rfl,show eqI 3 10=false from rfl,show eqI 3 11=false from rfl,show eqI 3 12=false from rfl,show eqI 3 13=false from rfl,show eqI 3 14=false from rfl,show eqI 3 15=false from rfl,show eqI 3 16=false from rfl,show eqI 3 17=false from rfl,show eqI 3 18=false from rfl,show eqI 3 19=false from rfl,a1,a2,q_9,bA,bI,dX,q_f,q_5,cond_true,cond_false,aD,bP,wz,bO,cU,bG,cV,qt,q_3,q_6,true_and,forall_const,q_1,q_2,false_implies,and_true,implies_true]
  exact Alike.of ((wZ _ _).trans (jS _ _ _))
 ·obtain⟨a1,a2⟩:=aNS (pc:=pc) (w:=w) (s:=s) (h:=h) hr hb hi (by unfold qC;omega)
  simp only[aB,aJ,aA,gL,fI,fR,fC,gK,gJ,fQ,gI,gH,hH,hG,hD,gZ,gY,gX,gW,gV,bZ,fB,bY,gG,gF,fH,gE,fP,gD,fO,jL,fD,jK,jJ,iG,iP,jI,iO,jH,jG,oT,pC,pH,oU,kR,nA,kS,kG,eS,eT,aW,cM,aV,bL,aU,aT,iX,e,show eqI 4 1=false from rfl,show eqI 4 2=false from rfl,show eqI 4 3=false from rfl,show eqI 4 4=true from rfl,show eqI 4 5=false from rfl,show eqI 4 6=false from rfl,show eqI 4 7=false from rfl,show eqI 4 8=false from rfl,show eqI 4 9=false from rfl,show eqI 4 10=false from rfl,show eqI 4 11=false from rfl,show eqI 4 12=false from rfl,show eqI 4 13=false from rfl,show eqI 4 14=false from rfl,show eqI 4 15=false from rfl,show eqI 4 16=false from rfl,show eqI 4 17=false from rfl,show eqI 4 18=false from rfl,show eqI 4 19=false from rfl,a1,a2,q_9,bA,bI,dX,q_f,q_5,cond_true,cond_false,aD,bP,wz,bO,cU,bG,cV,qt,q_3,q_6,true_and,forall_const,q_1,q_2,false_implies,and_true,implies_true]
  exact Alike.of ((wZ _ _).trans (jS _ _ _))
 ·obtain⟨a1,a2⟩:=aNS (pc:=pc) (w:=w) (s:=s) (h:=h) hr hb hi (by unfold qC;omega)
  simp only[aB,aJ,aA,gL,fI,fR,fC,gK,gJ,fQ,gI,gH,hH,hG,hD,gZ,gY,gX,gW,gV,bZ,fB,bY,gG,gF,fH,gE,fP,gD,fO,jL,fD,jK,jJ,iG,iP,jI,iO,jH,jG,oT,pC,pH,oU,kR,nA,kS,kG,eS,eT,aW,cM,aV,bL,aU,aT,iX,e,show eqI 5 1=false from rfl,show eqI 5 2=false from rfl,show eqI 5 3=false from rfl,show eqI 5 4=false from rfl,show eqI 5 5=true from rfl,show eqI 5 6=false from rfl,show eqI 5 7=false from rfl,show eqI 5 8=false from rfl,show eqI 5 9=false from rfl,show eqI 5 10=false from rfl,show eqI 5 11=false from rfl,show eqI 5 12=false from rfl,show eqI 5 13=false from rfl,show eqI 5 14=false from rfl,show eqI 5 15=false from rfl,show eqI 5 16=false from rfl,show eqI 5 17=false from rfl,show eqI 5 18=false from rfl,show eqI 5 19=false from rfl,a1,a2,q_9,bA,bI,dX,q_f,q_5,cond_true,cond_false,aD,bP,wz,bO,cU,bG,cV,qt,q_3,q_6,true_and,forall_const,q_1,q_2,false_implies,and_true,implies_true]
  exact Alike.of ((wZ _ _).trans (jS _ _ _))
 ·obtain⟨a1,a2⟩:=aNS (pc:=pc) (w:=w) (s:=s) (h:=h) hr hb hi (by unfold qC;omega)
  simp only[aB,aJ,aA,gL,fI,fR,fC,gK,gJ,fQ,gI,gH,hH,hG,hD,gZ,gY,gX,gW,gV,bZ,fB,bY,gG,gF,fH,gE,fP,gD,fO,jL,fD,jK,jJ,iG,iP,jI,iO,jH,jG,oT,pC,pH,oU,kR,nA,kS,kG,eS,eT,aW,cM,aV,bL,aU,aT,iX,e,show eqI 6 1=false from rfl,show eqI 6 2=false from rfl,show eqI 6 3=false from rfl,show eqI 6 4=false from rfl,show eqI 6 5=false from rfl,show eqI 6 6=true from rfl,show eqI 6 7=false from rfl,show eqI 6 8=false from rfl,show eqI 6 9=false from rfl,show eqI 6 10=false from rfl,show eqI 6 11=false from rfl,show eqI 6 12=false from rfl,show eqI 6 13=false from rfl,show eqI 6 14=false from rfl,show eqI 6 15=false from rfl,show eqI 6 16=false from rfl,show eqI 6 17=false from rfl,show eqI 6 18=false from rfl,show eqI 6 19=false from rfl,a1,a2,q_9,bA,bI,dX,q_f,q_5,cond_true,cond_false,aD,bP,wz,bO,cU,bG,cV,qt,q_3,q_6,true_and,forall_const,q_1,q_2,false_implies,and_true,implies_true]
  exact Alike.of ((wZ _ _).trans (jS _ _ _))
 ·obtain⟨a1,a2⟩:=aNS (pc:=pc) (w:=w) (s:=s) (h:=h) hr hb hi (by unfold qC;omega)
  simp only[aB,aJ,aA,gL,fI,fR,fC,gK,gJ,fQ,gI,gH,hH,hG,hD,gZ,gY,gX,gW,gV,bZ,fB,bY,gG,gF,fH,gE,fP,gD,fO,jL,fD,jK,jJ,iG,iP,jI,iO,jH,jG,oT,pC,pH,oU,kR,nA,kS,kG,eS,eT,aW,cM,aV,bL,aU,aT,iX,e,show eqI 7 1=false from rfl,show eqI 7 2=false from rfl,show eqI 7 3=false from rfl,show eqI 7 4=false from rfl,show eqI 7 5=false from rfl,show eqI 7 6=false from rfl,show eqI 7 7=true from rfl,show eqI 7 8=false from rfl,show eqI 7 9=false from rfl,show eqI 7 10=false from rfl,show eqI 7 11=false from rfl,show eqI 7 12=false from rfl,show eqI 7 13=false from rfl,show eqI 7 14=false from rfl,show eqI 7 15=false from rfl,show eqI 7 16=false from rfl,show eqI 7 17=false from rfl,show eqI 7 18=false from rfl,show eqI 7 19=false from rfl,a1,a2,q_9,bA,bI,dX,q_f,q_5,cond_true,cond_false,aD,bP,wz,bO,cU,bG,cV,qt,q_3,q_6,true_and,forall_const,q_1,q_2,false_implies,and_true,implies_true]
  exact Alike.of ((wZ _ _).trans (jS _ _ _))
 ·obtain⟨a1,a2⟩:=aNS (pc:=pc) (w:=w) (s:=s) (h:=h) hr hb hi (by unfold qC;omega)
  simp only[aB,aJ,aA,gL,fI,fR,fC,gK,gJ,fQ,gI,gH,hH,hG,hD,gZ,gY,gX,gW,gV,bZ,fB,bY,gG,gF,fH,gE,fP,gD,fO,jL,fD,jK,jJ,iG,iP,jI,iO,jH,jG,oT,pC,pH,oU,kR,nA,kS,kG,eS,eT,aW,cM,aV,bL,aU,aT,iX,e,show eqI 8 1=false from rfl,show eqI 8 2=false from rfl,show eqI 8 3=false from rfl,show eqI 8 4=false from rfl,show eqI 8 5=false from rfl,show eqI 8 6=false from rfl,show eqI 8 7=false from rfl,show eqI 8 8=true from rfl,show eqI 8 9=false from rfl,show eqI 8 10=false from rfl,show eqI 8 11=false from rfl,show eqI 8 12=false from rfl,show eqI 8 13=false from rfl,show eqI 8 14=false from rfl,show eqI 8 15=false from rfl,show eqI 8 16=false from rfl,show eqI 8 17=false from rfl,show eqI 8 18=false from rfl,show eqI 8 19=false from rfl,a1,a2,q_9,bA,bI,dX,q_f,q_5,cond_true,cond_false,aD,bP,wz,bO,cU,bG,cV,qt,q_3,q_6,true_and,forall_const,q_1,q_2,false_implies,and_true,implies_true]
  exact Alike.of ((wZ _ _).trans (jS _ _ _))
 ·have hk:=hi.kb;rw[cKL e]at hk;have hsz:=dS.1 (aDZ hk).1;obtain⟨a1,a2⟩:=aNR (pc:=pc) (w:=w) (s:=s) (h:=h) hr hb hi.hs hi.ho;rw[hsz]at a2;obtain⟨r3,r4,r5⟩:=rH hm UV hi.ho oS oS;have rs:=jS (mq r zs l s pc w) 2 x.Ea;generalize dT (mq r zs l s pc w) 2 x.Ea=Q at a2 r3 r4 r5 rs;obtain⟨Q1,v,a⟩:=Q;dsimp only at a2 r3 r4 r5 rs;obtain⟨z1,z2,z3,z4,z5⟩:=f9 (v:=0) r3.r.a4 hi.hr;rw[q_9]at z1 z2 z5;have eR:(dR x pc w h Q1).2.R=Q1.r.g:=rfl;have eB:(dR x pc w h Q1).2.Bus=qF Q1.zs Q1.l:=rfl;simp only[aB,aJ,aA,gL,fI,fR,fC,gK,gJ,fQ,gI,gH,hH,hG,hD,gZ,gY,gX,gW,gV,bZ,fB,bY,gG,gF,fH,gE,fP,gD,fO,jL,fD,jK,jJ,iG,iP,jI,iO,jH,jG,oT,pC,pH,oU,kR,nA,kS,kG,eS,eT,aW,cM,aV,bL,aU,aT,iX,e,show eqI 9 1=false from rfl,show eqI 9 2=false from rfl,show eqI 9 3=false from rfl,show eqI 9 4=false from rfl,show eqI 9 5=false from rfl,show eqI 9 6=false from rfl,show eqI 9 7=false from rfl,show eqI 9 8=false from rfl,show eqI 9 9=true from rfl,show eqI 9 10=false from rfl,show eqI 9 11=false from rfl,show eqI 9 12=false from rfl,show eqI 9 13=false from rfl,show eqI 9 14=false from rfl,show eqI 9 15=false from rfl,show eqI 9 16=false from rfl,show eqI 9 17=false from rfl,show eqI 9 18=false from rfl,show eqI 9 19=false from rfl,a1,a2,eR,eB,y1,y2,y3,y4,y5,z1,z2,z3,z4,z5,q_9,bA,bI,dX,q_f,q_5,cond_true,cond_false,aD,bP,wz,bO,cU,bG,cV,qt,q_3,q_6,true_and,forall_const,q_1,q_2,false_implies,and_true,implies_true]
  unfold X5;refine⟨{Q1.r with a:=Q1.r.a.set x.Reg.toNat v},Q1.stop,fun hf=>?_,fun _=>rs,?_⟩
  ·dsimp only at hf⊢;cases hq:cG Q1
   ·rw[hq,cond_false,hq]at hf;cases hf
   ·exact⟨rfl,rfl⟩
  ·dsimp only;cases hq:cG Q1<;>rfl
 ·have hk:=hi.kb;rw[b61 e]at hk;obtain⟨hk1,hk2⟩:=aDZ hk;have hsz:=dS.1 (aDZ hk1).1;have hmm:=VG hk2;obtain⟨m0,m1,-,-⟩:=PE hmm;obtain⟨p1,p2⟩:=VF hr hi.hs hi.ho hmm;obtain⟨p3,p4⟩:=rE (s:=x.Size) hr hi.ho;have sp:kI (mq r zs l s pc w) 2 x.Ea=(mq (bW r x.Size x.Ea).1 zs l s pc w,(bW r x.Size x.Ea).2):=by unfold kI;rw[m0,hsz];rfl
  rw[sp];obtain⟨z1,z2,z3,z4,z5⟩:=f9 (v:=0) p3.a4 hi.hr;rw[q_9]at z1 z2 z5;simp only[aB,aJ,aA,gL,fI,fR,fC,gK,gJ,fQ,gI,gH,hH,hG,hD,gZ,gY,gX,gW,gV,bZ,fB,bY,gG,gF,fH,gE,fP,gD,fO,jL,fD,jK,jJ,iG,iP,jI,iO,jH,jG,oT,pC,pH,oU,kR,nA,kS,kG,eS,eT,aW,cM,aV,bL,aU,aT,iX,e,show eqI 10 1=false from rfl,show eqI 10 2=false from rfl,show eqI 10 3=false from rfl,show eqI 10 4=false from rfl,show eqI 10 5=false from rfl,show eqI 10 6=false from rfl,show eqI 10 7=false from rfl,show eqI 10 8=false from rfl,show eqI 10 9=false from rfl,show eqI 10 10=true from rfl,show eqI 10 11=false from rfl,show eqI 10 12=false from rfl,show eqI 10 13=false from rfl,show eqI 10 14=false from rfl,show eqI 10 15=false from rfl,show eqI 10 16=false from rfl,show eqI 10 17=false from rfl,show eqI 10 18=false from rfl,show eqI 10 19=false from rfl,p1,p2,y1,y2,y3,y4,y5,z1,z2,z3,z4,z5,q_9,bA,bI,dX,q_f,q_5,cond_true,cond_false,aD,bP,wz,bO,cU,bG,cV,qt,q_3,q_6,true_and,forall_const,q_1,q_2,false_implies,and_true,implies_true]
  unfold bGS;exact Alike.of (J:={mq (bW r x.Size x.Ea).1 zs l s pc w with r:={(bW r x.Size x.Ea).1 with a:=(bW r x.Size x.Ea).1.a.set x.Reg.toNat (bW r x.Size x.Ea).2}}) rfl
 ·obtain⟨a1,a2⟩:=cKI (pc:=pc) (w:=w) (s:=s) (h:=h) hr hb hi e;simp only[aB,aJ,aA,gL,fI,fR,fC,gK,gJ,fQ,gI,gH,hH,hG,hD,gZ,gY,gX,gW,gV,bZ,fB,bY,gG,gF,fH,gE,fP,gD,fO,jL,fD,jK,jJ,iG,iP,jI,iO,jH,jG,oT,pC,pH,oU,kR,nA,kS,kG,eS,eT,aW,cM,aV,bL,aU,aT,iX,e,show eqI 11 1=false from rfl,show eqI 11 2=false from rfl,show eqI 11 3=false from rfl,show eqI 11 4=false from rfl,show eqI 11 5=false from rfl,show eqI 11 6=false from rfl,show eqI 11 7=false from rfl,show eqI 11 8=false from rfl,show eqI 11 9=false from rfl,show eqI 11 10=false from rfl,show eqI 11 11=true from rfl,show eqI 11 12=false from rfl,show eqI 11 13=false from rfl,show eqI 11 14=false from rfl,show eqI 11 15=false from rfl,show eqI 11 16=false from rfl,show eqI 11 17=false from rfl,show eqI 11 18=false from rfl,show eqI 11 19=false from rfl,a1,a2,q_9,bA,bI,dX,q_f,q_5,cond_true,cond_false,aD,bP,wz,bO,cU,bG,cV,qt,q_3,q_6,true_and,forall_const,q_1,q_2,false_implies,and_true,implies_true]
  exact Alike.of (a9O _ _)
 ·obtain⟨l1,l2⟩:=aGA (pc:=pc) (w:=w) (f:=f0) (zs:=zs) (l:=l) (s:=s) (h:=h) hr hi.hs hi.hr;have hv:=iI (s:=x.Size) (v:=cX r.d x.Reg) hi.hs;have her:=aR.1 hi.ho.hr;have ea:bE x.Ea.Reg 1=x.Ea.Reg+1:=bV (by omega)
  obtain⟨b1,b2⟩:=byJ (k:=x.Sub) (f:=r.fl) (c:=x.Ea.Reg+1) hi.hs hv hr.fw hi.hb (by omega) (by omega)
  obtain⟨-,o1,o2⟩:=a8X hm hi;have lv:=kE hi.hs o1;obtain⟨p1,p2⟩:=a9J (v:=(shV (mq r zs l s pc w) x).1) hr hi.hs hi.hr (fun z=>by have:=lv.2.2 z;omega)
  have ev:aFP x.Sub x.Size r.fl (cX r.d x.Reg%cD x.Size) (x.Ea.Reg+1)=shV (mq r zs l s pc w) x:=rfl;rw[ev]at b2;simp only[aB,aJ,aA,gL,fI,fR,fC,gK,gJ,fQ,gI,gH,hH,hG,hD,gZ,gY,gX,gW,gV,bZ,fB,bY,gG,gF,fH,gE,fP,gD,fO,jL,fD,jK,jJ,iG,iP,jI,iO,jH,jG,oT,pC,pH,oU,kR,nA,kS,kG,eS,eT,aW,cM,aV,bL,aU,aT,iX,e,show eqI 12 1=false from rfl,show eqI 12 2=false from rfl,show eqI 12 3=false from rfl,show eqI 12 4=false from rfl,show eqI 12 5=false from rfl,show eqI 12 6=false from rfl,show eqI 12 7=false from rfl,show eqI 12 8=false from rfl,show eqI 12 9=false from rfl,show eqI 12 10=false from rfl,show eqI 12 11=false from rfl,show eqI 12 12=true from rfl,show eqI 12 13=false from rfl,show eqI 12 14=false from rfl,show eqI 12 15=false from rfl,show eqI 12 16=false from rfl,show eqI 12 17=false from rfl,show eqI 12 18=false from rfl,show eqI 12 19=false from rfl,l1,l2,ea,b1,b2,p1,p2,q_9,bA,bI,dX,q_f,q_5,cond_true,cond_false,aD,bP,wz,bO,cU,bG,cV,qt,q_3,q_6,true_and,forall_const,q_1,q_2,false_implies,and_true,implies_true]
  exact Alike.of (J:=aDS (mq r zs l s pc w) x) rfl
 ·have ec:bE x.Sub (dH 8 x.Reg)=x.Sub+8*x.Reg:=by rw[hJ (by omega),bV (by omega)]
  obtain⟨c1,c2⟩:=b6P (c:=x.Sub+8*x.Reg) (f:=r.fl) (by rw[aR];omega)
  have hp':=aR.1 hp;have hx:=aR.1 hi.ho.he;have ep:bH (bE (bE pc 2) x.Ea.Ext) 65535=(pc+2+x.Ea.Ext)%65536:=by rw[bV (x:=pc) (by omega),bV (by omega),tH]
  simp only[aB,aJ,aA,gL,fI,fR,fC,gK,gJ,fQ,gI,gH,hH,hG,hD,gZ,gY,gX,gW,gV,bZ,fB,bY,gG,gF,fH,gE,fP,gD,fO,jL,fD,jK,jJ,iG,iP,jI,iO,jH,jG,oT,pC,pH,oU,kR,nA,kS,kG,eS,eT,aW,cM,aV,bL,aU,aT,iX,e,show eqI 13 1=false from rfl,show eqI 13 2=false from rfl,show eqI 13 3=false from rfl,show eqI 13 4=false from rfl,show eqI 13 5=false from rfl,show eqI 13 6=false from rfl,show eqI 13 7=false from rfl,show eqI 13 8=false from rfl,show eqI 13 9=false from rfl,show eqI 13 10=false from rfl,show eqI 13 11=false from rfl,show eqI 13 12=false from rfl,show eqI 13 13=true from rfl,show eqI 13 14=false from rfl,show eqI 13 15=false from rfl,show eqI 13 16=false from rfl,show eqI 13 17=false from rfl,show eqI 13 18=false from rfl,show eqI 13 19=false from rfl,ec,c1,c2,ep,q_9,bA,bI,dX,q_f,q_5,cond_true,cond_false,aD,bP,wz,bO,cU,bG,cV,qt,q_3,q_6,true_and,forall_const,q_1,q_2,false_implies,and_true,implies_true]
  unfold zX;rw[e,show eqI 13 13=true from rfl,cond_true]
  rw[show(mq r zs l s pc w).r=r from rfl]
  refine⟨fun z=>?_,fun z=>?_⟩
  ·rw[z,cond_true];exact Alike.of (J:={mq r zs l s pc w with r:={r with pc:=(pc+2+x.Ea.Ext)%65536}}) rfl
  ·rw[z,cond_false];exact Alike.of (J:=mq r zs l s pc w) rfl
 ·obtain⟨a1,a2⟩:=b6Y (w:=w) (s:=s) (h:=h) hr hb hg e hp hpc;simp only[aB,aJ,aA,gL,fI,fR,fC,gK,gJ,fQ,gI,gH,hH,hG,hD,gZ,gY,gX,gW,gV,bZ,fB,bY,gG,gF,fH,gE,fP,gD,fO,jL,fD,jK,jJ,iG,iP,jI,iO,jH,jG,oT,pC,pH,oU,kR,nA,kS,kG,eS,eT,aW,cM,aV,bL,aU,aT,iX,e,show eqI 14 1=false from rfl,show eqI 14 2=false from rfl,show eqI 14 3=false from rfl,show eqI 14 4=false from rfl,show eqI 14 5=false from rfl,show eqI 14 6=false from rfl,show eqI 14 7=false from rfl,show eqI 14 8=false from rfl,show eqI 14 9=false from rfl,show eqI 14 10=false from rfl,show eqI 14 11=false from rfl,show eqI 14 12=false from rfl,show eqI 14 13=false from rfl,show eqI 14 14=true from rfl,show eqI 14 15=false from rfl,show eqI 14 16=false from rfl,show eqI 14 17=false from rfl,show eqI 14 18=false from rfl,show eqI 14 19=false from rfl,a1,q_9,bA,bI,dX,q_f,q_5,cond_true,cond_false,aD,bP,wz,bO,cU,bG,cV,qt,q_3,q_6,true_and,forall_const,q_1,q_2,false_implies,and_true,implies_true]
  exact a2
 ·obtain⟨a1,a2⟩:=b60 (w:=w) (s:=s) (h:=h) hr hb hg e hp hpc;simp only[aB,aJ,aA,gL,fI,fR,fC,gK,gJ,fQ,gI,gH,hH,hG,hD,gZ,gY,gX,gW,gV,bZ,fB,bY,gG,gF,fH,gE,fP,gD,fO,jL,fD,jK,jJ,iG,iP,jI,iO,jH,jG,oT,pC,pH,oU,kR,nA,kS,kG,eS,eT,aW,cM,aV,bL,aU,aT,iX,e,show eqI 15 1=false from rfl,show eqI 15 2=false from rfl,show eqI 15 3=false from rfl,show eqI 15 4=false from rfl,show eqI 15 5=false from rfl,show eqI 15 6=false from rfl,show eqI 15 7=false from rfl,show eqI 15 8=false from rfl,show eqI 15 9=false from rfl,show eqI 15 10=false from rfl,show eqI 15 11=false from rfl,show eqI 15 12=false from rfl,show eqI 15 13=false from rfl,show eqI 15 14=false from rfl,show eqI 15 15=true from rfl,show eqI 15 16=false from rfl,show eqI 15 17=false from rfl,show eqI 15 18=false from rfl,show eqI 15 19=false from rfl,a1,q_9,bA,bI,dX,q_f,q_5,cond_true,cond_false,aD,bP,wz,bO,cU,bG,cV,qt,q_3,q_6,true_and,forall_const,q_1,q_2,false_implies,and_true,implies_true]
  exact a2
 ·obtain⟨a1,a2⟩:=a9N (w:=w) (s:=s) (h:=h) hr hb hg (by omega) hp hpc
  simp only[aB,aJ,aA,gL,fI,fR,fC,gK,gJ,fQ,gI,gH,hH,hG,hD,gZ,gY,gX,gW,gV,bZ,fB,bY,gG,gF,fH,gE,fP,gD,fO,jL,fD,jK,jJ,iG,iP,jI,iO,jH,jG,oT,pC,pH,oU,kR,nA,kS,kG,eS,eT,aW,cM,aV,bL,aU,aT,iX,e,show eqI 16 1=false from rfl,show eqI 16 2=false from rfl,show eqI 16 3=false from rfl,show eqI 16 4=false from rfl,show eqI 16 5=false from rfl,show eqI 16 6=false from rfl,show eqI 16 7=false from rfl,show eqI 16 8=false from rfl,show eqI 16 9=false from rfl,show eqI 16 10=false from rfl,show eqI 16 11=false from rfl,show eqI 16 12=false from rfl,show eqI 16 13=false from rfl,show eqI 16 14=false from rfl,show eqI 16 15=false from rfl,show eqI 16 16=true from rfl,show eqI 16 17=false from rfl,show eqI 16 18=false from rfl,show eqI 16 19=false from rfl,a1,a2,q_9,bA,bI,dX,q_f,q_5,cond_true,cond_false,aD,bP,wz,bO,cU,bG,cV,qt,q_3,q_6,true_and,forall_const,q_1,q_2,false_implies,and_true,implies_true]
  exact Alike.of (KK _ _)
 ·obtain⟨a1,a2⟩:=a9N (w:=w) (s:=s) (h:=h) hr hb hg (by omega) hp hpc
  simp only[aB,aJ,aA,gL,fI,fR,fC,gK,gJ,fQ,gI,gH,hH,hG,hD,gZ,gY,gX,gW,gV,bZ,fB,bY,gG,gF,fH,gE,fP,gD,fO,jL,fD,jK,jJ,iG,iP,jI,iO,jH,jG,oT,pC,pH,oU,kR,nA,kS,kG,eS,eT,aW,cM,aV,bL,aU,aT,iX,e,show eqI 17 1=false from rfl,show eqI 17 2=false from rfl,show eqI 17 3=false from rfl,show eqI 17 4=false from rfl,show eqI 17 5=false from rfl,show eqI 17 6=false from rfl,show eqI 17 7=false from rfl,show eqI 17 8=false from rfl,show eqI 17 9=false from rfl,show eqI 17 10=false from rfl,show eqI 17 11=false from rfl,show eqI 17 12=false from rfl,show eqI 17 13=false from rfl,show eqI 17 14=false from rfl,show eqI 17 15=false from rfl,show eqI 17 16=false from rfl,show eqI 17 17=true from rfl,show eqI 17 18=false from rfl,show eqI 17 19=false from rfl,a1,a2,q_9,bA,bI,dX,q_f,q_5,cond_true,cond_false,aD,bP,wz,bO,cU,bG,cV,qt,q_3,q_6,true_and,forall_const,q_1,q_2,false_implies,and_true,implies_true]
  exact Alike.of (KK _ _)
 ·obtain⟨a1,a2⟩:=cKK (pc:=pc) (w:=w) (s:=s) (h:=h) hr hb hg;simp only[aB,aJ,aA,gL,fI,fR,fC,gK,gJ,fQ,gI,gH,hH,hG,hD,gZ,gY,gX,gW,gV,bZ,fB,bY,gG,gF,fH,gE,fP,gD,fO,jL,fD,jK,jJ,iG,iP,jI,iO,jH,jG,oT,pC,pH,oU,kR,nA,kS,kG,eS,eT,aW,cM,aV,bL,aU,aT,iX,e,show eqI 18 1=false from rfl,show eqI 18 2=false from rfl,show eqI 18 3=false from rfl,show eqI 18 4=false from rfl,show eqI 18 5=false from rfl,show eqI 18 6=false from rfl,show eqI 18 7=false from rfl,show eqI 18 8=false from rfl,show eqI 18 9=false from rfl,show eqI 18 10=false from rfl,show eqI 18 11=false from rfl,show eqI 18 12=false from rfl,show eqI 18 13=false from rfl,show eqI 18 14=false from rfl,show eqI 18 15=false from rfl,show eqI 18 16=false from rfl,show eqI 18 17=false from rfl,show eqI 18 18=true from rfl,show eqI 18 19=false from rfl,a1,a2,q_9,bA,bI,dX,q_f,q_5,cond_true,cond_false,aD,bP,wz,bO,cU,bG,cV,qt,q_3,q_6,true_and,forall_const,q_1,q_2,false_implies,and_true,implies_true]
  exact Alike.of (a9P _ _)
 ·obtain⟨g1,g2⟩:=aNO hr;cases hs0:eqI x.Sub 0
  ·simp only[aB,aJ,aA,gL,fI,fR,fC,gK,gJ,fQ,gI,gH,hH,hG,hD,gZ,gY,gX,gW,gV,bZ,fB,bY,gG,gF,fH,gE,fP,gD,fO,jL,fD,jK,jJ,iG,iP,jI,iO,jH,jG,oT,pC,pH,oU,kR,nA,kS,kG,eS,eT,aW,cM,aV,bL,aU,aT,iX,e,show eqI 19 1=false from rfl,show eqI 19 2=false from rfl,show eqI 19 3=false from rfl,show eqI 19 4=false from rfl,show eqI 19 5=false from rfl,show eqI 19 6=false from rfl,show eqI 19 7=false from rfl,show eqI 19 8=false from rfl,show eqI 19 9=false from rfl,show eqI 19 10=false from rfl,show eqI 19 11=false from rfl,show eqI 19 12=false from rfl,show eqI 19 13=false from rfl,show eqI 19 14=false from rfl,show eqI 19 15=false from rfl,show eqI 19 16=false from rfl,show eqI 19 17=false from rfl,show eqI 19 18=false from rfl,show eqI 19 19=true from rfl,hs0,g1,g2,t1,t2,t3,t4,t5,q_9,bA,bI,dX,q_f,q_5,cond_true,cond_false,aD,bP,wz,bO,cU,bG,cV,qt,q_3,q_6,true_and,forall_const,q_1,q_2,false_implies,and_true,implies_true]
   unfold UW;rw[hs0,cond_false];exact Alike.of (J:={mq r zs l s pc w with r:={r with d:=r.d.set x.Reg.toNat (fJ r)}}) rfl
  ·obtain⟨u1,u2⟩:=aDU hr (X7 hi e (dS.1 hs0));simp only[aB,aJ,aA,gL,fI,fR,fC,gK,gJ,fQ,gI,gH,hH,hG,hD,gZ,gY,gX,gW,gV,bZ,fB,bY,gG,gF,fH,gE,fP,gD,fO,jL,fD,jK,jJ,iG,iP,jI,iO,jH,jG,oT,pC,pH,oU,kR,nA,kS,kG,eS,eT,aW,cM,aV,bL,aU,aT,iX,e,show eqI 19 1=false from rfl,show eqI 19 2=false from rfl,show eqI 19 3=false from rfl,show eqI 19 4=false from rfl,show eqI 19 5=false from rfl,show eqI 19 6=false from rfl,show eqI 19 7=false from rfl,show eqI 19 8=false from rfl,show eqI 19 9=false from rfl,show eqI 19 10=false from rfl,show eqI 19 11=false from rfl,show eqI 19 12=false from rfl,show eqI 19 13=false from rfl,show eqI 19 14=false from rfl,show eqI 19 15=false from rfl,show eqI 19 16=false from rfl,show eqI 19 17=false from rfl,show eqI 19 18=false from rfl,show eqI 19 19=true from rfl,hs0,u1,u2,q_9,bA,bI,dX,q_f,q_5,cond_true,cond_false,aD,bP,wz,bO,cU,bG,cV,qt,q_3,q_6,true_and,forall_const,q_1,q_2,false_implies,and_true,implies_true]
   unfold UW;rw[hs0,cond_true];exact Alike.of (J:={mq r zs l s pc w with r:=dN r x.Ea.Ext}) rfl
end Go.Proofs.YtdipcnijfkdnfaaGreatIrqs

namespace Go.Proofs.YtdipcnijfkdnfaaGreatIrqs
open Go Go.Zq
set_option maxHeartbeats 4000000
set_option maxRecDepth 100000
theorem a9Q{k a v:Int}{sz:Int}{r:RM}{zs:List Int}{l:List aE}{s:Bool}{pc w:Int}(hb:BusOk zs l)(hs:sz=1∨sz=2)(hv:dK sz v=true)(ha:cI a 0 65535=true)(h0:eqI k 2=false)(h00:v=0):HI k sz a v (qF zs l)=true∧JU k sz a v (qF zs l)=(qF (cS (mq r zs l s pc w) k sz a v).1.zs (cS (mq r zs l s pc w) k sz a v).1.l,(cS (mq r zs l s pc w) k sz a v).2,cY k sz a):=by
 obtain⟨a1,a2⟩:=EP (k:=k) (a:=a) (⟨hs,hv,hb.hz,hb.hb,hb.hl⟩:TouchOk sz v zs l) ha (fun _=>h00)
 rw[h0]at a2;exact⟨a1,a2⟩
theorem aGF(r:RM)(zs:List Int)(l:List aE)(s:Bool)(pc w k sz a v:Int):(cS (mq r zs l s pc w) k sz a v).1.r=r∧(cS (mq r zs l s pc w) k sz a v).1.stop=s:=⟨rfl,rfl⟩
def zI:aQ:=⟨0,0,0,⟨0,0,0⟩,0⟩
structure Fet(r:RM)(s:Bool)(F:MM×aQ×Int):Prop where
 hr:F.1.r=r
 hs:F.1.stop=s
 hb:BusOk F.1.zs F.1.l
 ok:cG F.1=true→ ∃wd,F.1=mq r F.1.zs F.1.l s r.pc wd∧kZ F.2.1=true∧W F.2.1=wd∧F.2.2=((BH F.2.1).length:Int)
theorem aUL{w e:Int}:((BH (wW w e)).length:Int)=p9 w:=by
 unfold BH p9 KB wW;dsimp only;cases geI (w/32%8) 5<;>rfl
theorem bRA{r:RM}{zs:List Int}{l:List aE}{s h:Bool}(hr:r.Ok 65535)(hb:BusOk zs l):(bL5 (bF r zs l s h)=true∧ ∃wd,JV (bF r zs l s h)=(bF r (m9 (mm r zs l s)).1.zs (m9 (mm r zs l s)).1.l s h,(m9 (mm r zs l s)).2.1,(m9 (mm r zs l s)).2.2,wd,dF (m9 (mm r zs l s)).1))∧Fet r s (m9 (mm r zs l s)):=by
 have hp:=aR.1 hr.pw;obtain⟨a1,a2⟩:=a9Q (k:=3) (sz:=2) (v:=0) (r:=r) (s:=s) (pc:=r.pc) (w:=0) hb UV (by decide) hr.pw rfl rfl
 obtain⟨b1,b2⟩:=ER (s:=s) (pc:=r.pc) (w:=0) (k:=3) (v:=0) hr hb UV (by decide) hr.pw (by decide)
 obtain⟨c1,c2⟩:=aGF r zs l s r.pc 0 3 2 r.pc 0;have d1:=NI (pc:=r.pc) (w:=0) (r:=r) (zs:=zs) (l:=l) (s:=s) 3 2 r.pc 0;have f1:cG (cS (mq r zs l s r.pc 0) 3 2 r.pc 0).1=eqI (cY 3 2 r.pc) 0:=jR rfl;have m1:=BK (r:=r) (zs:=zs) (l:=l) (s:=s) (pc:=r.pc) (w:=0) (k:=3) (sz:=2) (a:=r.pc) (v:=0);have ef:m9 (mm r zs l s)=KE (cS (mq r zs l s r.pc 0) 3 2 r.pc 0) r.pc:=rfl;have d1:dF (cS (mq r zs l s r.pc 0) 3 2 r.pc 0).1=aDY (cY 3 2 r.pc) r.pc (eqI 3 2) f0 r.pc 0:=d1;rw[ef];generalize cS (mq r zs l s r.pc 0) 3 2 r.pc 0=A at a1 a2 b1 b2 c1 c2 d1 f1 m1;obtain⟨A1,w1⟩:=A;dsimp only at a1 a2 b1 b2 c1 c2 d1 f1 m1;have wr:=rD b2;have hw:cI w1 0 65535=true:=aR.2 wr;have ha:cI ((r.pc+2)%65536) 0 65535=true:=by rw[aR];omega
 have e2:bH (bE r.pc 2) 65535=(r.pc+2)%65536:=by rw[bV (by omega),tH]
 obtain⟨p1,p2⟩:=a9Q (k:=3) (sz:=2) (v:=0) (r:=r) (s:=s) (pc:=r.pc) (w:=w1) b1 UV (by decide) ha rfl rfl
 obtain⟨q1,q2⟩:=ER (s:=s) (pc:=r.pc) (w:=w1) (k:=3) (v:=0) hr b1 UV (by decide) ha (by decide)
 obtain⟨u1,u2⟩:=aGF r A1.zs A1.l s r.pc w1 3 2 ((r.pc+2)%65536) 0;have d2:dF (cS (mq r A1.zs A1.l s r.pc w1) 3 2 ((r.pc+2)%65536) 0).1=aDY (cY 3 2 ((r.pc+2)%65536)) ((r.pc+2)%65536) (eqI 3 2) f0 r.pc w1:=NI 3 2 ((r.pc+2)%65536) 0;have f2:cG (cS (mq r A1.zs A1.l s r.pc w1) 3 2 ((r.pc+2)%65536) 0).1=eqI (cY 3 2 ((r.pc+2)%65536)) 0:=jR rfl;have m2:=BK (r:=r) (zs:=A1.zs) (l:=A1.l) (s:=s) (pc:=r.pc) (w:=w1) (k:=3) (sz:=2) (a:=(r.pc+2)%65536) (v:=0);cases hc:eqI (cY 3 2 r.pc) 0
 ·
  rw[hc]at f1;have hn:dC (cY 3 2 r.pc) 0=true:=by rw[rJ,hc];rfl
  have eF:KE (A1,w1) r.pc=(A1,zI,0):=by unfold KE;rw[f1];rfl
  rw[eF];refine⟨aK (t:=HL (bF r zs l s h)) (P:=fun q=> ∃wd,q=(bF r A1.zs A1.l s h,zI,0,wd,dF A1)) ?_,⟨c1,c2,b1,fun z=>by rw[f1]at z;cases z⟩⟩
  unfold HL;unfold aDY at d1;rw[hc]at d1;simp only[aB,aJ,aA,C5,A3,tO,pN,tN,fA,kR,nA,kS,kG,cM,a1,a2,hn,(NH _).1,(NH _).2,d1,aD,bP,wz,Bool.and_true,true_and,forall_const,Bool.true_eq_false,false_implies,and_true];exact⟨0,rfl⟩
 ·rw[hc]at f1;have hn:dC (cY 3 2 r.pc) 0=false:=by rw[rJ,hc];rfl
  have m1:=m1 f1;have eA:({A1 with f:={A1.f with Word:=w1}}:MM)=mq r A1.zs A1.l s r.pc w1:=by rw[m1];rfl
  have g1: ∀e,a3C (wW w1 e)=true:=fun e=>(a8H _).1
  have g2: ∀e,a3B (wW w1 e)=kZ (wW w1 e):=fun e=>(a8H _).2
  cases hl:KB w1
  ·
   have l2:eqI (p9 w1) 2=false:=by rw[aFZ,hl]
   cases hgd:kZ (wW w1 0)
   ·have eF:KE (A1,w1) r.pc=({mq r A1.zs A1.l s r.pc w1 with f:={ff r.pc w1 with Vector:=4}},zI,0):=by
     unfold KE;rw[f1,hl,hgd];simp only[Bool.not_true,Bool.not_false,cond_true,cond_false];rw[m1];rfl
    rw[eF];refine⟨aK (t:=HL (bF r zs l s h)) (P:=fun q=> ∃wd,q=(bF r A1.zs A1.l s h,zI,0,wd,(⟨4,r.pc,0,w1,false⟩:aL))) ?_,⟨rfl,rfl,b1,fun z=>by cases z⟩⟩
    unfold HL;simp only[aB,aJ,aA,C5,A3,tO,pN,tN,fA,kR,nA,kS,kG,cM,a1,a2,hn,(uO _).1,(uO _).2,l2,(DS _ _).1,(DS _ _).2,g1,g2,hgd,Bool.not_false,aD,bP,wz,Bool.and_true,true_and,forall_const,Bool.true_eq_false,Bool.false_eq_true,false_implies,and_true];exact⟨0,rfl⟩
   ·have eF:KE (A1,w1) r.pc=(mq r A1.zs A1.l s r.pc w1,wW w1 0,1):=by
     unfold KE;rw[f1,hl,hgd];simp only[Bool.not_true,Bool.not_false,cond_true,cond_false];rw[m1];rfl
    rw[eF];have l1:p9 w1=1:=by unfold p9;rw[hl];rfl
    refine⟨aK (t:=HL (bF r zs l s h)) (P:=fun q=> ∃wd,q=(bF r A1.zs A1.l s h,wW w1 0,1,wd,f0)) ?_,⟨rfl,rfl,b1,fun _=>⟨w1,rfl,hgd,bI2 hw,by rw[aUL,l1]⟩⟩⟩
    unfold HL;simp only[aB,aJ,aA,C5,A3,tO,pN,tN,fA,kR,nA,kS,kG,cM,a1,a2,hn,(uO _).1,(uO _).2,l2,(DS _ _).1,(DS _ _).2,g1,g2,hgd,Bool.not_true,aD,bP,wz,Bool.and_true,true_and,forall_const,Bool.true_eq_false,Bool.false_eq_true,false_implies,and_true];exact⟨w1,by rw[l1];rfl⟩
  ·
   have l2:eqI (p9 w1) 2=true:=by rw[aFZ,hl]
   have l1:p9 w1=2:=by unfold p9;rw[hl];rfl
   have e3:KE (A1,w1) r.pc=UP (A1,w1) (cS (mq r A1.zs A1.l s r.pc w1) 3 2 ((r.pc+2)%65536) 0):=by
    unfold KE;rw[f1,hl];simp only[Bool.not_true,cond_true,cond_false];rw[←eA]
   rw[e3];generalize cS (mq r A1.zs A1.l s r.pc w1) 3 2 ((r.pc+2)%65536) 0=C at p1 p2 q1 q2 u1 u2 d2 f2 m2;obtain⟨C1,w2⟩:=C;dsimp only at p1 p2 q1 q2 u1 u2 d2 f2 m2;cases hc2:eqI (cY 3 2 ((r.pc+2)%65536)) 0
   ·rw[hc2]at f2;have hn2:dC (cY 3 2 ((r.pc+2)%65536)) 0=true:=by rw[rJ,hc2];rfl
    have eF:UP (A1,w1) (C1,w2)=(C1,zI,0):=by unfold UP;rw[f2];rfl
    rw[eF];refine⟨aK (t:=HL (bF r zs l s h)) (P:=fun q=> ∃wd,q=(bF r C1.zs C1.l s h,zI,0,wd,dF C1)) ?_,⟨u1,u2,q1,fun z=>by rw[f2]at z;cases z⟩⟩
    unfold HL;unfold aDY at d2;rw[hc2]at d2;simp only[aB,aJ,aA,C5,A3,tO,pN,tN,fA,kR,nA,kS,kG,cM,a1,a2,e2,p1,p2,hn,hn2,(uO _).1,(uO _).2,l2,(NH _).1,(NH _).2,d2,aD,bP,wz,Bool.and_true,true_and,forall_const,Bool.true_eq_false,Bool.false_eq_true,false_implies,and_true];exact⟨0,rfl⟩
   ·rw[hc2]at f2;have hn2:dC (cY 3 2 ((r.pc+2)%65536)) 0=false:=by rw[rJ,hc2];rfl
    have m2:=m2 f2;cases hgd:kZ (wW w1 w2)
    ·have eF:UP (A1,w1) (C1,w2)=({mq r C1.zs C1.l s r.pc w1 with f:={ff r.pc w1 with Vector:=4}},zI,0):=by
      unfold UP;dsimp only;rw[f2,hgd];simp only[Bool.not_true,Bool.not_false,cond_true,cond_false];rw[m2];rfl
     rw[eF];refine⟨aK (t:=HL (bF r zs l s h)) (P:=fun q=> ∃wd,q=(bF r C1.zs C1.l s h,zI,0,wd,(⟨4,r.pc,0,w1,false⟩:aL))) ?_,⟨rfl,rfl,q1,fun z=>by cases z⟩⟩
     unfold HL;simp only[aB,aJ,aA,C5,A3,tO,pN,tN,fA,kR,nA,kS,kG,cM,a1,a2,e2,p1,p2,hn,hn2,(uO _).1,(uO _).2,l2,(DS _ _).1,(DS _ _).2,g1,g2,hgd,Bool.not_false,aD,bP,wz,Bool.and_true,true_and,forall_const,Bool.true_eq_false,Bool.false_eq_true,false_implies,and_true];exact⟨0,rfl⟩
    ·have eF:UP (A1,w1) (C1,w2)=(mq r C1.zs C1.l s r.pc w1,wW w1 w2,2):=by
      unfold UP;dsimp only;rw[f2,hgd];simp only[Bool.not_true,Bool.not_false,cond_true,cond_false];rw[m2];rfl
     rw[eF];refine⟨aK (t:=HL (bF r zs l s h)) (P:=fun q=> ∃wd,q=(bF r C1.zs C1.l s h,wW w1 w2,2,wd,f0)) ?_,⟨rfl,rfl,q1,fun _=>⟨w1,rfl,hgd,bI2 hw,by rw[aUL,l1]⟩⟩⟩
     unfold HL;simp only[aB,aJ,aA,C5,A3,tO,pN,tN,fA,kR,nA,kS,kG,cM,a1,a2,e2,p1,p2,hn,hn2,(uO _).1,(uO _).2,l2,(DS _ _).1,(DS _ _).2,g1,g2,hgd,Bool.not_true,aD,bP,wz,Bool.and_true,true_and,forall_const,Bool.true_eq_false,Bool.false_eq_true,false_implies,and_true];exact⟨w1,by rw[l1];rfl⟩
end Go.Proofs.YtdipcnijfkdnfaaGreatIrqs

namespace Go.Proofs.YtdipcnijfkdnfaaGreatIrqs
open Go Go.Zq
set_option maxHeartbeats 4000000
set_option maxRecDepth 100000
theorem bI3(x:aQ):bL7 x=true∧bL6 x=uU x:=by
 refine aK (t:=a3E x) (P:=fun q=>q=uU x) ?_
 unfold a3E uU;simp only[aB,aA,true_and]
noncomputable def doJ(x:aQ)(r:RM)(zs:List Int)(l:List aE)(s:Bool):MM:=tI (mq {r with pc:=beh x r.pc} zs l s r.pc (W x)) x r.pc
noncomputable def aGG(x:aQ)(r:RM)(zs:List Int)(l:List aE)(s h:Bool):aI×aL:=
 bif uU x&&!r.sup then(bF r zs l s h,⟨8,r.pc,0,W x,false⟩)
 else(bF (bif cG (doJ x r zs l s)then(doJ x r zs l s).r else r) (doJ x r zs l s).zs (doJ x r zs l s).l (bif cG (doJ x r zs l s)then(doJ x r zs l s).stop else s) h,dF (doJ x r zs l s))
theorem b62{x:aQ}{r:RM}{zs:List Int}{l:List aE}{s h:Bool}(hr:r.Ok 65535)(hb:BusOk zs l)(hg:kZ x=true):bEP x r.pc (bF r zs l s h)=true∧bEO x r.pc (bF r zs l s h)=aGG x r zs l s h:=by
 refine aK (t:=a4S x r.pc (bF r zs l s h)) (P:=fun q=>q=aGG x r zs l s h) ?_
 have lR:=PB s h hr hb;obtain⟨o1,o2⟩:=a9B (r:=r.g) lR.1 lR.2.1;obtain⟨e1,e2⟩:=b6U hg;have hl:=aGC x;have n0:0<(BH x).length:=by omega
 have e3:bQ (ri (BH x)) 0 0=W x:=by
  unfold BH;cases geI x.Ea.Mode 5<;>rfl
 have e4:ltI 0 ((BH x).length:Int)=true:=eK.2 (by omega)
 have e5:dU [.int .i64] (ri (BH x)) 0 0=true:=EN ⟨BH x,rfl⟩ (by rw[bI];exact n0)
 have hp:=aR.1 hr.pw;have hbp:cI (beh x r.pc) 0 65535=true:=by rw[aR];unfold beh;omega
 obtain⟨b1,b2⟩:=PF (w:=W x) (f:=f0) (bF r zs l s h) hg hr.pw;obtain⟨d1,r',s',d2,d3,d4⟩:=doD (w:=W x) (s:=s) (h:=h) (hr.setP hbp) hb hg hr.pw rfl;unfold a4S;simp only[aB,aJ,aA,aLB,A6,DC,aLA,aK9,kR,nA,kS,kG,eS,eT,aW,cM,aV,bL,aU,aT,bA,bI,o1,o2,e1,e2,e3,e4,e5,kF,iX,show(⟨0,0,0,0,false⟩:aL)=f0 from rfl,cKG,oU,(bI3 _).1,(bI3 _).2,(sQ _ _ _ _ _ _ _).1,(sQ _ _ _ _ _ _ _).2,b1,b2,d1,d4,aD,bP,wz,bO,cU,bG,cV,Bool.and_true,Bool.and_self,true_and]
 unfold aGG;refine⟨fun q=>?_,fun q=>?_⟩
 ·have:(uU x&&!r.sup)=true:=by
   obtain⟨z1,z2⟩:=aDZ q;rw[z1,z2];rfl
  rw[this];rfl
 ·have:(uU x&&!r.sup)=false:=by
   cases hp1:uU x
   ·rfl
   ·rw[hp1,cond_true]at q;rw[q];rfl
  rw[this,cond_false];show _∧_
  unfold doJ;cases hf:cG (tI (mq {r with pc:=beh x r.pc} zs l s r.pc (W x)) x r.pc)
  ·obtain⟨z1,z2⟩:=zF hf;rw[z1];refine⟨fun _=>?_,fun z=>by rw[z2]at z;cases z⟩
   rw[d3 hf];rfl
  ·have z1:=sR hf;rw[z1];refine⟨fun z=>(by cases z),fun _=>?_⟩
   obtain⟨y1,y2⟩:=d2 hf;rw[y1,y2];rfl
theorem b63{r:RM}{zs:List Int}{l:List aE}{s:Bool}(hr:r.Ok 65535)(hb:BusOk zs l):bNI (bF r zs l s false)=true∧uA (bF r zs l s false)=BS (mm r zs l s) (zY (mm r zs l s)):=by
 refine aK (t:=a4T (bF r zs l s false)) (P:=fun q=>q=BS (mm r zs l s) (zY (mm r zs l s))) ?_
 obtain⟨⟨a1,wd,a2⟩,F⟩:=bRA (s:=s) (h:=false) hr hb;unfold zY uV FY;generalize m9 (mm r zs l s)=Q at a2 F;obtain⟨Q1,x,n⟩:=Q;dsimp only at a2 F;have hrr:Q1.r=r:=F.hr;have hst:Q1.stop=s:=F.hs;unfold a4T;dsimp only;cases hf:cG Q1
 ·obtain⟨z1,z2⟩:=zF hf;simp only[aB,aJ,aA,MU,a1,a2,z1,z2,hf,Bool.false_and,cond_false,aD,bP,wz,Bool.and_true,true_and,forall_const,Bool.true_eq_false,false_implies,and_true];unfold BS;rw[hf];rfl
 ·have z1:=sR hf;obtain⟨w,m1,m2,m3,m4⟩:=F.ok hf;dsimp only at m1 m2 m3 m4;obtain⟨d1,d2⟩:=b62 (s:=s) (h:=false) hr F.hb m2;have d1:bEP x r.pc (bF r Q1.zs Q1.l s false)=true:=d1;have d2:bEO x r.pc (bF r Q1.zs Q1.l s false)=aGG x r Q1.zs Q1.l s false:=d2;simp only[aB,aJ,aA,MU,a1,a2,z1,kR,cM,d1,d2,hf,show dC f0.Vector 0=false from rfl,Bool.true_and,aD,bP,wz,Bool.and_true,true_and,forall_const,Bool.false_eq_true,false_implies]
  rw[show Q1.r.sup=r.sup by rw[hrr]]
  unfold aGG;cases hp:uU x&&!r.sup
  ·rw[cond_false,cond_false,hf,cond_true];have eJ:tI {Q1 with r:={Q1.r with pc:=((mm r zs l s).r.pc+2*n)%65536}} x (mm r zs l s).r.pc=doJ x r Q1.zs Q1.l s:=by
    rw[m1,m4,←m3];rfl
   rw[eJ];unfold BS;cases hj:cG (doJ x r Q1.zs Q1.l s)
   ·rw[(zF hj).1];rfl
   ·rw[sR hj];rfl
  ·rw[cond_true,cond_true];have e8:cG ({Q1 with f:={Q1.f with Vector:=8}}:MM)=false:=rfl
   rw[e8,cond_false];unfold BS;rw[e8,cond_false];rw[m1];refine Prod.ext rfl ?_;show(⟨8,r.pc,0,W x,false⟩:aL)=⟨8,r.pc,0,w,false⟩
   rw[m3]
end Go.Proofs.YtdipcnijfkdnfaaGreatIrqs
