import Derived.Test.YtdicpjkdpliofaaGreatZqBoundariesQ
import Derived.Test.YtdicpjkdpliofaaGreatZmc
import Derived.Test.YtdicpjkdpliofaaGreatZmd
set_option linter.unusedVariables false
set_option linter.unusedSimpArgs false
namespace Go.Proofs.YtdicpjkdpliofaaGreatBoundaries
open Go Go.Zq
set_option maxHeartbeats 4000000
set_option maxRecDepth 100000
theorem bU6(x:Int):bGH x=!cA x 0 255:=by
 simp[bGH,dP,a4X]
theorem bU7(x:Int):bGI x=true:=by
 simp[bGI,dP,a4X]
theorem bCN(zs:List Int)(hl:zs.length<1000000):SY (V275v1_0.mk (ri zs) (bN (ri zs)) 0)=true∧0≤(DO (V275v1_0.mk (ri zs) (bN (ri zs)) 0)).s8∧(ltI (DO (V275v1_0.mk (ri zs) (bN (ri zs)) 0)).s8 (DO (V275v1_0.mk (ri zs) (bN (ri zs)) 0)).s7=!cZ zs):=by
 unfold SY DO;refine gP (Post:=fun w=>0≤w.s8∧ltI w.s8 w.s7=!cZ zs) (eC (fun n v=> ∃i:Nat,v=V275v1_0.mk (ri zs) (bN (ri zs)) i∧i≤zs.length∧n=zs.length-i∧ ∀j(hj:j<zs.length),j<i→cA zs[j] 0 255=true) _ ?_ 9223372036854775808 zs.length _ ⟨0,rfl,by omega,by omega,fun j _ h=>absurd h (by omega)⟩ (by omega))
 rintro n v ⟨i,rfl,hi,rfl,hall⟩
 unfold z9;simp only[aQ,cB,aJ,aP,aY,dM,mB,true_and,Int.toNat_natCast];constructor
 ·intro h;have hi':i<zs.length:=by omega
  rw[rN hi',mN hi',bU7,bU6];refine⟨rfl,fun hz=>?_,fun hz=>?_⟩
  ·rw[VG hi' (by simpa using hz)]
   exact⟨by omega,by simpa [ltI]using h⟩
  ·refine⟨_,?_,i+1,?_,by omega,rfl,?_⟩
   ·omega
   ·rw[bJ (by omega)];rfl
   ·intro j hj hji;by_cases e:j=i
    ·subst e;simpa using hz
    ·exact hall j hj (by omega)
 ·intro h;rw[VH fun j hj=>hall j hj (by omega)]
  exact⟨by omega,by simpa [ltI]using h⟩
theorem b09(zs:List Int)(hl:zs.length<1000000):S5 (ri zs)=true∧SZ (ri zs)=!cZ zs:=by
 obtain⟨h1,h2,h3⟩:=bCN zs hl;have a:aBL (ri zs)=true∧geI (aBK (ri zs)) 0=!cZ zs:=by
  unfold aBL aBK aBJ KU;rw[dP,dP];simp only[zJ,JF,pJ,rM,JG,kA,h1,h3,Bool.true_and];cases cZ zs
  ·exact⟨rfl,by simpa using h2⟩
  ·exact⟨rfl,rfl⟩
 have b:S5 (ri zs)=true∧SZ (ri zs)=!cZ zs:=by
  unfold S5 SZ aBM;rw[dP,dP];simp only[zJ,pJ,rM,kA,a.1,a.2,Bool.true_and,and_self]
 exact b
theorem b1A(x:aA):bGL x=!accB x:=by
 simp[bGL,dP,a42,(bMF x).2]
theorem b1B(x:aA):bGM x=true:=by
 simp[bGM,dP,a42,(bMF x).1]
theorem a0I(l:List aA)(hl:l.length<1000000):aLK (V276_0.mk (l.map aA.row) (bN (l.map aA.row)) 0)=true∧0≤(S7 (V276_0.mk (l.map aA.row) (bN (l.map aA.row)) 0)).s8∧(ltI (S7 (V276_0.mk (l.map aA.row) (bN (l.map aA.row)) 0)).s8 (S7 (V276_0.mk (l.map aA.row) (bN (l.map aA.row)) 0)).s7=!l.all accB):=by
 unfold aLK S7;refine gP (Post:=fun w=>0≤w.s8∧ltI w.s8 w.s7=!l.all accB) (eC (fun n v=> ∃i:Nat,v=V276_0.mk (l.map aA.row) (bN (l.map aA.row)) i∧i≤l.length∧n=l.length-i∧ ∀j(hj:j<l.length),j<i→accB l[j]=true) _ ?_ 9223372036854775808 l.length _ ⟨0,rfl,by omega,by omega,fun j _ h=>absurd h (by omega)⟩ (by omega))
 rintro n v ⟨i,rfl,hi,rfl,hall⟩
 unfold MZ;simp only[aQ,cB,aJ,aP,List.length_map,dM,mB,true_and,Int.toNat_natCast];constructor
 ·intro h;have hi':i<l.length:=by omega
  obtain⟨p1,p2⟩:=aES hi';rw[p1,p2,b1B,b1A];refine⟨rfl,fun hz=>?_,fun hz=>?_⟩
  ·rw[aWL hi' (by simpa using hz)]
   exact⟨by omega,by simpa [ltI]using h⟩
  ·refine⟨_,?_,i+1,?_,by omega,rfl,?_⟩
   ·omega
   ·rw[bJ (by omega)];rfl
   ·intro j hj hji;by_cases e:j=i
    ·subst e;simpa using hz
    ·exact hall j hj (by omega)
 ·intro h;rw[aWM fun j hj=>hall j hj (by omega)]
  exact⟨by omega,by simpa [ltI]using h⟩
theorem bU8(l:List aA)(hl:l.length<1000000):a45 (l.map aA.row)=true∧a44 (l.map aA.row)=!l.all accB:=by
 obtain⟨h1,h2,h3⟩:=a0I l hl;have a:bGU (l.map aA.row)=true∧geI (bGT (l.map aA.row)) 0=!l.all accB:=by
  unfold bGU bGT bGS aBQ;rw[dP,dP];simp only[zJ,JF,pJ,rM,JG,kA,h1,h3,Bool.true_and];cases l.all accB
  ·exact⟨rfl,by simpa using h2⟩
  ·exact⟨rfl,rfl⟩
 have b:a45 (l.map aA.row)=true∧a44 (l.map aA.row)=!l.all accB:=by
  unfold a45 a44 bGV;rw[dP,dP];simp only[zJ,pJ,rM,kA,a.1,a.2,Bool.true_and,and_self]
 exact b
def O5(zs:List Int)(l:List aA):Bool:=eqI (zs.length:Int) 512&&(leI (l.length:Int) 400&&(cZ zs&&l.all accB))
theorem bU9(zs:List Int)(l:List aA)(hz:zs.length<1000000)(hl:l.length<1000000):bGX ⟨ri zs,l.map aA.row⟩=true∧bGW ⟨ri zs,l.map aA.row⟩=O5 zs l:=by
 refine aF (t:=a47 ⟨ri zs,l.map aA.row⟩) (P:=fun r=>r=O5 zs l) ?_
 obtain⟨a1,a2⟩:=b09 zs hz;obtain⟨b1,b2⟩:=bU8 l hl;unfold a47 O5;simp only[aQ,aJ,aLN,aLM,aBR,Bool.cond_self,a1,a2,b1,b2,aP,aY,List.length_map,Bool.and_true,Bool.true_or,true_and];cases eqI (zs.length:Int) 512<;>cases leI (l.length:Int) 400<;>cases cZ zs<;>cases l.all accB<;>rfl
def B2(xs:List Int)(i:Nat):List Int:=xs.take i++List.replicate (512-i) 0
def JJ(A ys:List Int)(i:Nat):List Int:=A.take 384++(ys.take i++A.drop (384+i))
theorem LJ{xs:List Int}{i:Nat}(h:i≤xs.length)(hx:xs.length≤384):(B2 xs i).length=512:=by
 simp[B2];omega
theorem a0J{xs:List Int}{i:Nat}(h:i<xs.length)(hx:xs.length≤384):(B2 xs i).set i xs[i]=B2 xs (i+1):=by
 unfold B2;have e:512-i=(512-(i+1))+1:=by omega
 have l:(xs.take i).length=i:=by simp;omega
 rw[e,List.replicate_succ,List.set_append_right _ _ (by omega),l,Nat.sub_self,List.set_cons_zero,List.take_succ_eq_append_getElem h,List.append_assoc,List.singleton_append]
theorem a0K{A ys:List Int}{i:Nat}(hA:A.length=512)(h:i<ys.length)(hy:ys.length≤64):(JJ A ys i).set (384+i) ys[i]=JJ A ys (i+1):=by
 unfold JJ;have l1:(A.take 384).length=384:=by simp;omega
 have l2:(ys.take i).length=i:=by simp;omega
 rw[List.set_append_right _ _ (by omega),l1,show 384+i-384=i from by omega,List.set_append_right _ _ (by omega),l2,Nat.sub_self,List.take_succ_eq_append_getElem h,List.drop_eq_getElem_cons (show 384+i<A.length by omega),List.set_cons_zero,show 384+(i+1)=384+i+1 from rfl,List.append_assoc,List.singleton_append]
theorem cDE(xs ys:List Int)(hx:xs.length≤384):a4E (V232_0.mk ⟨[],[]⟩ ⟨ri (B2 xs 0),[]⟩ (ri ys) (ri xs) (xs.length:Int) 0)=true∧a4D (V232_0.mk ⟨[],[]⟩ ⟨ri (B2 xs 0),[]⟩ (ri ys) (ri xs) (xs.length:Int) 0)=V232_0.mk ⟨[],[]⟩ ⟨ri (B2 xs xs.length),[]⟩ (ri ys) (ri xs) (xs.length:Int) (xs.length:Int):=by
 refine LA (N:=DL) (fun i=>V232_0.mk ⟨[],[]⟩ ⟨ri (B2 xs i),[]⟩ (ri ys) (ri xs) (xs.length:Int) (i:Int)) xs.length (by omega) (fun i hi=>?_) ?_
 ·have hl:=LJ (xs:=xs) (i:=i) (by omega) hx
  have hl2:=LJ (xs:=xs) (i:=i+1) (by omega) hx
  have l1:ltI (i:Int) (xs.length:Int)=true:=by rw[dM];omega
  have l2:ltI (i:Int) ((512:Nat):Int)=true:=by rw[dM];omega
  have l3:leI 0 (i:Int)=true:=by simp
  have a1:aV (i:Int) 1=((i+1:Nat):Int):=by rw[bJ (by omega)];omega
  have b1:blt i 512=true:=by simp;omega
  have b2:jW (jX (ri (B2 xs i)) i) 1=true:=by rw[x4 (by omega)];rfl
  unfold DL;simp only[bG,II,IH,aP,aY,hl,hl2,dT,List.length_set,List.length_nil,rN hi,mN hi,Int.toNat_natCast,Nat.zero_add,a0J hi hx,l1,l2,l3,a1,b1,b2,bX,wz]
 ·have l1:ltI (xs.length:Int) (xs.length:Int)=false:=by simp
  unfold DL;simp only[bG,l1,dW,Bool.false_eq_true,false_implies,implies_true]
theorem VZ{A ys:List Int}{i:Nat}(hA:A.length=512)(h:i≤ys.length)(hy:ys.length≤64):(JJ A ys i).length=512:=by
 simp[JJ];omega
theorem cDF(A ys:List Int)(hA:A.length=512)(hy:ys.length≤64):a4F (V232_1.mk ⟨[],[]⟩ ⟨ri (JJ A ys 0),[]⟩ (ri ys) (ys.length:Int) 0)=true∧aK4 (V232_1.mk ⟨[],[]⟩ ⟨ri (JJ A ys 0),[]⟩ (ri ys) (ys.length:Int) 0)=V232_1.mk ⟨[],[]⟩ ⟨ri (JJ A ys ys.length),[]⟩ (ri ys) (ys.length:Int) (ys.length:Int):=by
 refine LA (N:=DM) (fun i=>V232_1.mk ⟨[],[]⟩ ⟨ri (JJ A ys i),[]⟩ (ri ys) (ys.length:Int) (i:Int)) ys.length (by omega) (fun i hi=>?_) ?_
 ·have hl:=VZ (A:=A) (ys:=ys) (i:=i) hA (by omega) hy
  have hl2:=VZ (A:=A) (ys:=ys) (i:=i+1) hA (by omega) hy
  have l1:ltI (i:Int) (ys.length:Int)=true:=by rw[dM];omega
  have a1:aV (i:Int) 1=((i+1:Nat):Int):=by rw[bJ (by omega)];omega
  have a2:aV 384 (i:Int)=((384+i:Nat):Int):=by rw[bJ (by omega)];omega
  have l2:ltI ((384+i:Nat):Int) ((512:Nat):Int)=true:=by rw[dM];omega
  have l3:leI 0 ((384+i:Nat):Int)=true:=by rw[gZ];omega
  have b1:blt (384+i) 512=true:=by simp;omega
  have b2:jW (jX (ri (JJ A ys i)) (384+i)) 1=true:=by rw[x4 (by omega)];rfl
  unfold DM;simp only[bG,IK,IJ,aP,aY,hl,hl2,dT,List.length_set,List.length_nil,rN hi,mN hi,a2,Int.toNat_natCast,Nat.zero_add,a0K hA hi hy,l1,l2,l3,a1,b1,b2,bX,wz]
 ·have l1:ltI (ys.length:Int) (ys.length:Int)=false:=by simp
  unfold DM;simp only[bG,l1,dW,Bool.false_eq_true,false_implies,implies_true]
def V0(xs ys:List Int):bC×Bool:=bif cZ xs&&(cZ ys&&(leI (xs.length:Int) 384&&leI (ys.length:Int) 64))then(⟨ri (JJ (B2 xs xs.length) ys ys.length),[]⟩,true)else(⟨[],[]⟩,false)
theorem bMV(a b:Int):kV a b=!leI a b:=by
 cases h:leI a b
 ·rw[YW]at h;exact nG.2 h
 ·rw[gZ]at h;exact G2.2 h
theorem b1C(xs ys:List Int)(hx:xs.length<1000000)(hy:ys.length<1000000):bF0 (ri xs) (ri ys)=true∧aGQ (ri xs) (ri ys)=V0 xs ys:=by
 refine aF (t:=a4G (ri xs) (ri ys)) (P:=fun r=>r=V0 xs ys) ?_
 obtain⟨a1,a2⟩:=YX xs hx;obtain⟨b1,b2⟩:=YX ys hy;unfold a4G;have hc:(bif (bif (bif (!(cZ xs))then true else(!(cZ ys)))then true else(kV (xs.length:Int) 384))then true else(kV (ys.length:Int) 64))=!(cZ xs&&(cZ ys&&(leI (xs.length:Int) 384&&leI (ys.length:Int) 64))):=by
  rw[bMV,bMV];cases cZ xs<;>cases cZ ys<;>cases leI (xs.length:Int) 384<;>cases leI (ys.length:Int) 64<;>rfl
 unfold V0;cases hg:cZ xs&&(cZ ys&&(leI (xs.length:Int) 384&&leI (ys.length:Int) 64))
 ·simp only[bG,a1,a2,b1,b2,aP,aY,hc,hg,bX,bZ]
 ·have hg':=hg;simp only[Bool.and_eq_true,gZ]at hg';obtain⟨g1,g2,g3,g4⟩:=hg';obtain⟨c1,c2⟩:=cDE xs ys (by omega)
  have hA:=LJ (xs:=xs) (i:=xs.length) (Nat.le_refl _) (by omega)
  obtain⟨d1,d2⟩:=cDF (B2 xs xs.length) ys hA (by omega)
  have e0:List.replicate 512 (aL 0)=ri (B2 xs 0):=by simp[B2,ri,List.map_replicate,aL]
  have e1:JJ (B2 xs xs.length) ys 0=B2 xs xs.length:=by simp[JJ]
  rw[e1]at d1 d2;simp only[bG,aK6,aK5,lM,e0,a1,a2,b1,b2,c1,c2,d1,d2,aP,aY,hc,hg,bX,wz,bZ]
theorem JK{xs ys:List Int}:cZ (xs++ys)=(cZ xs&&cZ ys):=by simp[cZ]
theorem aPQ{n:Nat}:cZ (List.replicate n 0)=true:=by
 unfold cZ;rw[List.all_eq_true];intro z hz;rw[List.eq_of_mem_replicate hz];rfl
theorem V1{xs ys:List Int}(h: ∀z∈ys,z∈xs)(hb:cZ xs=true):cZ ys=true:=by
 unfold cZ at*;rw[List.all_eq_true]at*;exact fun z hz=>hb z (h z hz)
theorem a0L{xs ys:List Int}(hx:cZ xs=true)(hy:cZ ys=true):cZ (JJ (B2 xs xs.length) ys ys.length)=true:=by
 have hA:cZ (B2 xs xs.length)=true:=by unfold B2;rw[List.take_length,JK,hx,aPQ];rfl
 unfold JJ;rw[List.take_length,JK,JK,hy,V1 (fun z hz=>List.mem_of_mem_take hz) hA,V1 (fun z hz=>List.mem_of_mem_drop hz) hA];rfl
end Go.Proofs.YtdicpjkdpliofaaGreatBoundaries

namespace Go.Proofs.YtdicpjkdpliofaaGreatBoundaries
open Go Go.Zq
set_option maxHeartbeats 4000000
set_option maxRecDepth 100000
def nR(pc:Int):RM:=⟨[0,0,0,0],[0,0,0,384],0,pc,0,7,true,false⟩
def cR(xs:List Int)(pc:Int):aD×Bool:=bif (V0 xs []).2&&cA pc 0 65535 then(⟨(nR pc).g,(V0 xs []).1,false,false⟩,true)else(⟨⟨[],[],0,0,0,0,false,false⟩,⟨[],[]⟩,false,false⟩,false)
theorem bCO(xs:List Int)(pc:Int)(hx:xs.length<1000000):a4I (ri xs) pc=true∧WN (ri xs) pc=cR xs pc:=by
 refine aF (t:=a4H (ri xs) pc) (P:=fun q=>q=cR xs pc) ?_
 obtain⟨a1,a2⟩:=b1C xs [] hx (by decide)
 obtain⟨n1,n2⟩:=bCM;have a1':bF0 (ri xs) []=true:=a1;have a2':aGQ (ri xs) []=V0 xs []:=a2;have l3:ltI 3 ((4:Nat):Int)=true:=by decide
 have b3:blt 3 4=true:=by decide
 have r3:jW (jX (ri r0.a) 3) 1=true:=by rw[x4 (by decide)];rfl
 have l4:r0.a.length=4:=rfl;unfold a4H cR;simp only[bG,aK7,a1',a2',n1,n2,(O3 _).1,(O3 _).2,eM,eN,aW,cH,aU,bE,aT,aR,aP,aY,l4,l3,b3,r3,dT,List.length_set,dW,wz];cases(V0 xs []).2<;>cases cA pc 0 65535<;>simp<;>rfl
def CG(t:Int)(c:aD):Prop:= ∃r zs l s h,c=bB r zs l s h∧RM.Ok t r∧BusOk zs l
theorem bCP{xs:List Int}(h:(V0 xs []).2=true): ∃zs,(V0 xs []).1=qV zs []∧BusOk zs []:=by
 unfold V0 at h⊢;cases hg:cZ xs&&(cZ []&&(leI (xs.length:Int) 384&&leI (([]:List Int).length:Int) 64))
 ·rw[hg]at h;simp at h
 ·simp only[Bool.and_eq_true,gZ]at hg;obtain⟨g1,g2,g3,g4⟩:=hg;refine⟨_,rfl,VZ (LJ (Nat.le_refl _) (by omega)) (Nat.le_refl _) (by omega),a0L g1 g2,by decide,rfl⟩
theorem aXA{xs:List Int}{pc:Int}(h:(cR xs pc).2=true): ∃zs,(cR xs pc).1=bB (nR pc) zs [] false false∧BusOk zs []∧cA pc 0 65535=true:=by
 unfold cR at h⊢;cases hg:(V0 xs []).2&&cA pc 0 65535
 ·rw[hg]at h;simp at h
 ·rw[Bool.and_eq_true]at hg;obtain⟨zs,h1,h2⟩:=bCP hg.1;exact⟨zs,by rw[cond_true,h1];rfl,h2,hg.2⟩
theorem bVA:(cR [] 0).2=true:=by decide+kernel
theorem aXB{B t:Int}{c:aG}{r:RM}{zs:List Int}{p pc:Int}(hc:CO B c)(hr:r.Ok 65536)(hb:BusOk zs [])(hp:cA pc 0 65535=true)(s h:Bool):CG 65536 (aD.mk (RM.g {r with pc:=pc}) (qV zs []) s h)∧CG 65536 (aD.mk r.g (qV zs []) s h):=
 ⟨⟨_,zs,[],s,h,rfl,hr.setP hp,hb⟩,⟨_,zs,[],s,h,rfl,hr,hb⟩⟩
theorem bCQ{c:aG}{B:Int}(h:CO B c)(hB:B<100000000000000000):k81 c=true∧(CO (B+50000) (GZ c).1∧CG 65536 (GZ c).2):=by
 refine aF (t:=T81 c) (P:=fun q=>CO (B+50000) q.1∧CG 65536 q.2) ?_
 obtain⟨a1,a2,⟨xs,a3,a4⟩,a5,a6⟩:=bK1 h (by omega)
 obtain⟨b1,b2,r,b3,b4⟩:=bU5 a2 (by omega)
 obtain⟨c1,c2⟩:=bCO xs (xI c).2.2 (by omega)
 obtain⟨d1,d2⟩:=bCO [] 0 (by decide)
 have d1:a4I [] 0=true:=d1;have d2:WN [] 0=cR [] 0:=d2;obtain⟨z0,e1,e2,e3⟩:=aXA bVA;obtain⟨f1,f2,-⟩:=eE 60 b2 (by omega)
 have lz:=f2.mono (C:=B+50000) (by omega)
 unfold T81;cases hg:(cR xs (xI c).2.2).2
 ·have q:=aXB (t:=0) (p:=0) f2 b4 e2 e3;simp only[bG,aGS,GY,aGR,GX,vA,KR,a1,a3,b1,b3,c1,c2,d1,d2,e1,f1,hg,bB,eM,eN,aW,cH,aU,bE,aT,aR,kF,show(nR 0).pc=0 from rfl,bX,wz]
  exact⟨fun _=>⟨lz,(q _ _).1⟩,fun _=>⟨fun _=>⟨lz,(q _ _).1⟩,fun _=>⟨fun _=>⟨lz,(q _ _).2⟩,fun _=>⟨lz,(q _ _).1⟩⟩⟩⟩
 ·obtain⟨zs,i1,i2,i3⟩:=aXA hg;have q:=aXB (t:=0) (p:=0) f2 b4 i2 i3;simp only[bG,aGS,GY,aGR,GX,vA,KR,a1,a3,b1,b3,c1,c2,i1,f1,hg,bB,eM,eN,aW,cH,aU,bE,aT,aR,kF,show∀p,(nR p).pc=p from fun _=>rfl,bX,wz]
  exact⟨fun _=>⟨lz,(q _ _).1⟩,fun _=>⟨fun _=>⟨lz,(q _ _).1⟩,fun _=>⟨fun _=>⟨lz,(q _ _).2⟩,fun _=>⟨lz,(q _ _).1⟩⟩⟩⟩
end Go.Proofs.YtdicpjkdpliofaaGreatBoundaries

namespace Go.Proofs.YtdicpjkdpliofaaGreatBoundaries
open Go Go.Zq
set_option maxHeartbeats 4000000
set_option maxRecDepth 100000
def aPR(p:aA×aA):Bool:=eqI p.1.Kind p.2.Kind&&(eqI p.1.Size p.2.Size&&(eqI p.1.Addr p.2.Addr&&(eqI p.1.Value p.2.Value&&(eqI p.1.Code p.2.Code&&true))))
def aHZ(l m:List aA):Bool:=eqI (l.length:Int) (m.length:Int)&&(l.zip m).all aPR
theorem aH0: ∀{l:List aA}{p:aA×aA},p∈l.zip l→p.1=p.2
 |[],p,h=>by simp at h
 |a::l,p,h=>by
  rw[List.zip_cons_cons,List.mem_cons]at h;rcases h with rfl|h
  ·rfl
  ·exact aH0 h
theorem a0M(l:List aA):aHZ l l=true:=by
 unfold aHZ;rw[show eqI (l.length:Int) (l.length:Int)=true by simp,Bool.true_and,List.all_eq_true]
 intro p hp;have:p.1=p.2:=aH0 hp;unfold aPR;rw[this];simp
def a0N(r q:RM):Bool:=decide (r.d=q.d)&&(decide (r.a=q.a)&&(eqI r.oth q.oth&&(eqI r.pc q.pc&&(eqI r.fl q.fl&&(eqI r.mask q.mask&&(yF r.sup q.sup&&yF r.tr q.tr))))))
theorem a0O(r:RM):a0N r r=true:=by simp[a0N]
theorem b2(a b:Bool):(bif a then b else false)=(a&&b):=by cases a<;>rfl
theorem a0P(l m:List aA)(hl:l.length<1000000)(he:l.length=m.length):aO6 (V193_0.mk (l.map aA.row) (m.map aA.row) (bN (l.map aA.row)) 0)=true∧(ltI (aEO (V193_0.mk (l.map aA.row) (m.map aA.row) (bN (l.map aA.row)) 0)).s13 (aEO (V193_0.mk (l.map aA.row) (m.map aA.row) (bN (l.map aA.row)) 0)).s12=!(l.zip m).all aPR):=by
 unfold aO6 aEO;refine gP (Post:=fun w:V193_0=>ltI w.s13 w.s12=!(l.zip m).all aPR) (eC (fun n v=> ∃i:Nat,v=V193_0.mk (l.map aA.row) (m.map aA.row) (bN (l.map aA.row)) i∧i≤l.length∧n=l.length-i∧ ∀j(hj:j<(l.zip m).length),j<i→aPR (l.zip m)[j]=true) _ ?_ 9223372036854775808 l.length _ ⟨0,rfl,by omega,by omega,fun j _ h=>absurd h (by omega)⟩ (by omega))
 rintro n v ⟨i,rfl,hi,rfl,hall⟩
 have hz:(l.zip m).length=l.length:=by simp;omega
 unfold N0;simp only[aQ,cB,aJ,aP,List.length_map,dM,mB,true_and,Int.toNat_natCast];constructor
 ·intro h;have hi':i<l.length:=by omega
  have hy':i<m.length:=by omega
  obtain⟨p1,p2⟩:=aES hi';obtain⟨q1,q2⟩:=aES hy';have hzi:i<(l.zip m).length:=by omega
  have ez:(l.zip m)[i]=(l[i],m[i]):=by simp
  have cond:(!(eqI (bF (l.map aA.row) i 0) (bF (m.map aA.row) i 0)&&(eqI (bF (l.map aA.row) i 1) (bF (m.map aA.row) i 1)&&(eqI (bF (l.map aA.row) i 2) (bF (m.map aA.row) i 2)&&(eqI (bF (l.map aA.row) i 3) (bF (m.map aA.row) i 3)&&(eqI (bF (l.map aA.row) i 4) (bF (m.map aA.row) i 4)&&true))))))=!aPR (l.zip m)[i]:=by
   rw[ez];have a0:bF (l.map aA.row) i 0=l[i].Kind:=congrArg aA.Kind p2;have a1:bF (l.map aA.row) i 1=l[i].Size:=congrArg aA.Size p2;have a2:bF (l.map aA.row) i 2=l[i].Addr:=congrArg aA.Addr p2;have a3:bF (l.map aA.row) i 3=l[i].Value:=congrArg aA.Value p2;have a4:bF (l.map aA.row) i 4=l[i].Code:=congrArg aA.Code p2;have c0:bF (m.map aA.row) i 0=m[i].Kind:=congrArg aA.Kind q2;have c1:bF (m.map aA.row) i 1=m[i].Size:=congrArg aA.Size q2;have c2:bF (m.map aA.row) i 2=m[i].Addr:=congrArg aA.Addr q2;have c3:bF (m.map aA.row) i 3=m[i].Value:=congrArg aA.Value q2;have c4:bF (m.map aA.row) i 4=m[i].Code:=congrArg aA.Code q2;rw[a0,a1,a2,a3,a4,c0,c1,c2,c3,c4];rfl
  rw[p1,q1,cond];refine⟨rfl,fun hq=>?_,fun hq=>?_⟩
  ·rw[aWL hzi (by simpa using hq)]
   simpa [ltI]using h
  ·refine⟨_,?_,i+1,?_,by omega,rfl,?_⟩
   ·omega
   ·rw[bJ (by omega)];rfl
   ·intro j hj hji;by_cases e:j=i
    ·subst e;simpa using hq
    ·exact hall j hj (by omega)
 ·intro h;rw[aWM fun j hj=>hall j hj (by omega)]
  simpa [ltI]using h
theorem bVB(l m:List aA)(hl:l.length<1000000):bTN (l.map aA.row) (m.map aA.row)=true∧bTM (l.map aA.row) (m.map aA.row)=aHZ l m:=by
 refine aF (t:=bA0 (l.map aA.row) (m.map aA.row)) (P:=fun q=>q=aHZ l m) ?_
 unfold bA0 aHZ;by_cases he:l.length=m.length
 ·obtain⟨h1,h2⟩:=a0P l m hl he;have e:cU (bN (l.map aA.row)) (bN (m.map aA.row))=false:=by simp[he]
  have e2:eqI (l.length:Int) (m.length:Int)=true:=by simp[he]
  simp only[bG,aO7,h1,h2,e,e2,bX];cases(l.zip m).all aPR<;>simp
 ·have e:cU (bN (l.map aA.row)) (bN (m.map aA.row))=true:=by simp;omega
  have e2:eqI (l.length:Int) (m.length:Int)=false:=by simp;omega
  simp only[bG,e,e2,Bool.false_and,bX]
end Go.Proofs.YtdicpjkdpliofaaGreatBoundaries

namespace Go.Proofs.YtdicpjkdpliofaaGreatBoundaries
open Go Go.Zq
set_option maxHeartbeats 4000000
set_option maxRecDepth 100000
theorem bVC(r q:RM)(hr:r.d.length<1000000)(ha:r.a.length<1000000):bTJ r.g q.g=true∧bJ9 r.g q.g=a0N r q:=by
 refine aF (t:=bAZ r.g q.g) (P:=fun z=>z=a0N r q) ?_
 obtain⟨a1,a2⟩:=BZ r.d q.d hr;obtain⟨c1,c2⟩:=BZ r.a q.a ha;unfold bAZ a0N;simp only[aQ,aJ,eM,eN,aW,cH,aU,bE,aT,aR,a1,a2,c1,c2,b2,Bool.and_assoc,Bool.true_or,Bool.and_true,true_and]
def bCR(r:RM)(zs:List Int)(l:List aA)(s h:Bool)(q:RM)(ys:List Int)(m:List aA)(s' h':Bool):Bool:=a0N r q&&(decide (zs=ys)&&(aHZ l m&&(yF s s'&&yF h h')))
theorem a0Q(r:RM)(zs:List Int)(l:List aA)(s h:Bool):bCR r zs l s h r zs l s h=true:=by simp[bCR,a0O,a0M]
theorem bK2(zs ys:List Int)(l m:List aA)(hz:zs.length<1000000)(hl:l.length<1000000):bTR (qV zs l) (qV ys m)=true∧bTQ (qV zs l) (qV ys m)=(decide (zs=ys)&&aHZ l m):=by
 refine aF (t:=bA1 (qV zs l) (qV ys m)) (P:=fun z=>z=(decide (zs=ys)&&aHZ l m)) ?_
 obtain⟨a1,a2⟩:=BZ zs ys hz;obtain⟨c1,c2⟩:=bVB l m hl;unfold bA1;simp only[aQ,aJ,VL,VM,a1,a2,c1,c2,b2,Bool.true_or,Bool.and_true,true_and]
structure Sz(r:RM)(zs:List Int)(l:List aA):Prop where
 d:r.d.length<1000000
 a:r.a.length<1000000
 z:zs.length<1000000
 l:l.length<1000000
theorem bK3(r q:RM)(zs ys:List Int)(l m:List aA)(s h s' h':Bool)(z:Sz r zs l):k23 (bB r zs l s h) (bB q ys m s' h')=true∧g23 (bB r zs l s h) (bB q ys m s' h')=bCR r zs l s h q ys m s' h':=by
 refine aF (t:=T23 (bB r zs l s h) (bB q ys m s' h')) (P:=fun w=>w=bCR r zs l s h q ys m s' h') ?_
 obtain⟨a1,a2⟩:=bVC r q z.d z.a;obtain⟨c1,c2⟩:=bK2 zs ys l m z.z z.l;unfold T23 bCR bB;simp only[aQ,aJ,a1,a2,c1,c2,b2,Bool.and_assoc,Bool.true_or,Bool.and_true,true_and]
end Go.Proofs.YtdicpjkdpliofaaGreatBoundaries

namespace Go.Proofs.YtdicpjkdpliofaaGreatBoundaries
open Go Go.Zq
set_option maxHeartbeats 4000000
set_option maxRecDepth 100000
theorem aXC{t:Int}{zs:List Int}{i:Nat}(h:i<zs.length)(hz:cA zs[i] 0 t=false):hK t zs=false:=aWL h hz
theorem aXD{t:Int}{zs:List Int}(h: ∀j(hj:j<zs.length),cA zs[j] 0 t=true):hK t zs=true:=aWM h
theorem cDG(x:Int):bF2 x=!cA x 0 65535:=by
 simp[bF2,dP,a4O,(N1 _).2]
theorem cDH(x:Int):bF3 x=true:=by
 simp[bF3,dP,a4O,(N1 _).1]
theorem a0R(zs:List Int)(hl:zs.length<1000000):aLA (V275_0.mk (ri zs) (bN (ri zs)) 0)=true∧0≤(SX (V275_0.mk (ri zs) (bN (ri zs)) 0)).s8∧(ltI (SX (V275_0.mk (ri zs) (bN (ri zs)) 0)).s8 (SX (V275_0.mk (ri zs) (bN (ri zs)) 0)).s7=!hK 65535 zs):=by
 unfold aLA SX;refine gP (Post:=fun w=>0≤w.s8∧ltI w.s8 w.s7=!hK 65535 zs) (eC (fun n v=> ∃i:Nat,v=V275_0.mk (ri zs) (bN (ri zs)) i∧i≤zs.length∧n=zs.length-i∧ ∀j(hj:j<zs.length),j<i→cA zs[j] 0 65535=true) _ ?_ 9223372036854775808 zs.length _ ⟨0,rfl,by omega,by omega,fun j _ h=>absurd h (by omega)⟩ (by omega))
 rintro n v ⟨i,rfl,hi,rfl,hall⟩
 unfold MX;simp only[aQ,cB,aJ,aP,aY,dM,mB,true_and,Int.toNat_natCast];constructor
 ·intro h;have hi':i<zs.length:=by omega
  rw[rN hi',mN hi',cDH,cDG];refine⟨rfl,fun hz=>?_,fun hz=>?_⟩
  ·rw[aXC hi' (by simpa using hz)]
   exact⟨by omega,by simpa [ltI]using h⟩
  ·refine⟨_,?_,i+1,?_,by omega,rfl,?_⟩
   ·omega
   ·rw[bJ (by omega)];rfl
   ·intro j hj hji;by_cases e:j=i
    ·subst e;simpa using hz
    ·exact hall j hj (by omega)
 ·intro h;rw[aXD fun j hj=>hall j hj (by omega)]
  exact⟨by omega,by simpa [ltI]using h⟩
theorem bVD(zs:List Int)(hl:zs.length<1000000):a4R (ri zs)=true∧a4Q (ri zs)=!hK 65535 zs:=by
 obtain⟨h1,h2,h3⟩:=a0R zs hl;have a:bGB (ri zs)=true∧geI (bGA (ri zs)) 0=!hK 65535 zs:=by
  unfold bGB bGA bF9 aBH;rw[dP,dP];simp only[zJ,JF,pJ,rM,JG,kA,h1,h3,Bool.true_and];cases hK 65535 zs
  ·exact⟨rfl,by simpa using h2⟩
  ·exact⟨rfl,rfl⟩
 have b:a4R (ri zs)=true∧a4Q (ri zs)=!hK 65535 zs:=by
  unfold a4R a4Q bGC;rw[dP,dP];simp only[zJ,pJ,rM,kA,a.1,a.2,Bool.true_and,and_self]
 exact b
theorem bCS(zs:List Int)(hl:zs.length<1000000):bGD (ri zs)=true∧a4T (ri zs)=(eqI (zs.length:Int) 4&&hK 65535 zs):=by
 refine aF (t:=a4S (ri zs)) (P:=fun q=>q=(eqI (zs.length:Int) 4&&hK 65535 zs)) ?_
 obtain⟨a1,a2⟩:=bVD zs hl;unfold a4S;simp only[aQ,aJ,a1,a2,b2,aP,aY,Bool.not_not,Bool.true_or,Bool.and_true,true_and]
def LK(r:RM):Bool:=(eqI (r.d.length:Int) 4&&hK 65535 r.d)&&((eqI (r.a.length:Int) 4&&hK 65535 r.a)&&(cA r.oth 0 65535&&(cA r.pc 0 65535&&(cA r.fl 0 31&&cA r.mask 0 7))))
theorem bK4(r:RM)(hd:r.d.length<1000000)(ha:r.a.length<1000000):bOM r.g=true∧bGF r.g=LK r:=by
 refine aF (t:=a4W r.g) (P:=fun q=>q=LK r) ?_
 obtain⟨a1,a2⟩:=bCS r.d hd;obtain⟨c1,c2⟩:=bCS r.a ha;unfold a4W LK;simp only[aQ,aJ,aLE,aLD,aLC,aLB,eM,eN,aW,cH,aU,bE,aT,aR,a1,a2,c1,c2,(N1 _).1,(N1 _).2,(aW1 _).1,(aW1 _).2,iU,iV,b2,Bool.and_assoc,Bool.true_or,Bool.and_true,true_and]
theorem a0S(zs:List Int)(hl:zs.length<1000000)(x:List Row):aNC (V242_0.mk x (ri zs) (bN (ri zs)) 0)=true∧((UK (V242_0.mk x (ri zs) (bN (ri zs)) 0)).s0=x∧ltI (UK (V242_0.mk x (ri zs) (bN (ri zs)) 0)).s7 (UK (V242_0.mk x (ri zs) (bN (ri zs)) 0)).s6=!hK 65535 zs):=by
 unfold aNC UK;refine gP (Post:=fun w:V242_0=>w.s0=x∧ltI w.s7 w.s6=!hK 65535 zs) (eC (fun n v=> ∃i:Nat,v=V242_0.mk x (ri zs) (bN (ri zs)) i∧i≤zs.length∧n=zs.length-i∧ ∀j(hj:j<zs.length),j<i→cA zs[j] 0 65535=true) _ ?_ 9223372036854775808 zs.length _ ⟨0,rfl,by omega,by omega,fun j _ h=>absurd h (by omega)⟩ (by omega))
 rintro n v ⟨i,rfl,hi,rfl,hall⟩
 unfold NO;simp only[aQ,cB,aJ,aP,aY,dM,mB,true_and,Int.toNat_natCast];constructor
 ·intro h;have hi':i<zs.length:=by omega
  rw[rN hi',mN hi',(O3 _).2,(O3 _).1];refine⟨rfl,rfl,fun hz=>?_,fun hz=>?_⟩
  ·rw[aXC hi' (by simpa using hz)]
   simpa [ltI]using h
  ·refine⟨_,?_,i+1,?_,by omega,rfl,?_⟩
   ·omega
   ·rw[bJ (by omega)];rfl
   ·intro j hj hji;by_cases e:j=i
    ·subst e;simpa using hz
    ·exact hall j hj (by omega)
 ·intro h;rw[aXD fun j hj=>hall j hj (by omega)]
  simpa [ltI]using h
theorem bCT(zs:List Int)(hl:zs.length<1000000):bIS (ri zs)=true∧a78 (ri zs)=(eqI (zs.length:Int) 4&&hK 65535 zs):=by
 refine aF (t:=a77 (ri zs)) (P:=fun q=>q=(eqI (zs.length:Int) 4&&hK 65535 zs)) ?_
 obtain⟨h1,h0,h2⟩:=a0S zs hl (ri zs);simp only[aP,aY]at h1 h0 h2;unfold a77;simp only[bG,aDC,h1,h0,h2,aP,aY,dW,wz];cases hK 65535 zs<;>simp
theorem bK5(r:RM)(hd:r.d.length<1000000)(ha:r.a.length<1000000):bRH r.g=true∧bIT r.g=LK r:=by
 refine aF (t:=a8A r.g) (P:=fun q=>q=LK r) ?_
 obtain⟨a1,a2⟩:=bCT r.d hd;obtain⟨c1,c2⟩:=bCT r.a ha;unfold a8A LK;simp only[bG,aNG,aNF,aNE,aND,eM,eN,aW,cH,aU,bE,aT,aR,a1,a2,c1,c2,(O3 _).1,(O3 _).2,(aW2 _).1,(aW2 _).2,p8,p9,dW,wz,b2,Bool.and_assoc]
def lB(r:RM)(zs:List Int)(l:List aA)(s h:Bool):Bool:=LK r&&(O5 zs l&&!(s&&h))
structure Sm(r:RM)(zs:List Int)(l:List aA):Prop where
 d:r.d.length≤1000
 a:r.a.length≤1000
 z:zs.length≤512
 l:l.length≤1000
theorem Sm.of{t:Int}{r:RM}{zs:List Int}{l:List aA}(h:r.Ok t)(b:BusOk zs l):Sm r zs l:=by
 have h1:=h.d4;have h2:=h.a4;have h3:=b.hz;have h4:=b.hl;exact⟨by omega,by omega,by omega,by omega⟩
theorem Sm.sz{r:RM}{zs:List Int}{l:List aA}(m:Sm r zs l):Sz r zs l:=⟨by have:=m.d;omega,by have:=m.a;omega,by have:=m.z;omega,by have:=m.l;omega⟩
theorem Sm.len{r:RM}{zs:List Int}{l:List aA}(m:Sm r zs l)(s h:Bool):a0E (bB r zs l s h):=by
 have h1:=m.d;have h2:=m.a;have h3:=m.z;have h4:=m.l;refine⟨?_,?_,?_,?_⟩
 ·show(ri r.d).length≤2000;rw[aY];omega
 ·show(ri r.a).length≤2000;rw[aY];omega
 ·show(ri zs).length≤2000;rw[aY];omega
 ·show(l.map aA.row).length≤2000;rw[List.length_map];omega
theorem aFA{r:RM}{zs:List Int}{l:List aA}(s h:Bool)(m:Sm r zs l):a49 (bB r zs l s h)=true∧aY4 (bB r zs l s h)=lB r zs l s h:=by
 refine aF (t:=a48 (bB r zs l s h)) (P:=fun q=>q=lB r zs l s h) ?_
 obtain⟨a1,a2⟩:=bK4 r (by have:=m.d;omega) (by have:=m.a;omega)
 obtain⟨c1,c2⟩:=bU9 zs l (by have:=m.z;omega) (by have:=m.l;omega)
 have c1':bGX (qV zs l)=true:=c1;have c2':bGW (qV zs l)=O5 zs l:=c2;unfold a48 lB bB;simp only[aQ,aJ,a1,a2,c1',c2',b2,Bool.and_assoc,Bool.true_or,Bool.and_true,true_and]
theorem aFB{r:RM}{zs:List Int}{l:List aA}(s h:Bool)(m:Sm r zs l):k90 (bB r zs l s h)=true∧g90 (bB r zs l s h)=lB r zs l s h:=by
 refine aF (t:=T90 (bB r zs l s h)) (P:=fun q=>q=lB r zs l s h) ?_
 obtain⟨a1,a2⟩:=bK5 r (by have:=m.d;omega) (by have:=m.a;omega)
 obtain⟨c1,c2⟩:=bUK (b:=qV zs l) (zs:=zs) (l:=l) ⟨⟨zs,rfl⟩,⟨l,rfl⟩,by rw[VL,aY];exact m.z,by rw[VM,List.length_map];exact m.l⟩ rfl rfl
 unfold T90 lB bB O5;simp only[bG,a1,a2,c1,c2,dW,wz,b2,Bool.and_assoc]
theorem aXE{r:RM}{zs:List Int}{l:List aA}{s h:Bool}(g:lB r zs l s h=true):r.Ok 65535∧BusOk zs l:=by
 unfold lB LK O5 at g;simp only[Bool.and_eq_true,dL,gZ]at g;obtain⟨⟨⟨a1,a2⟩,⟨a3,a4⟩,a5,a6,a7,a8⟩,⟨b1,b2,b3,b4⟩,-⟩:=g;exact⟨⟨by decide,by decide,by omega,by omega,a2,a4,a5,a6,a7,a8⟩,⟨by omega,b3,by omega,b4⟩⟩
theorem bCU{r:aE}(h1:r.D.length≤2000)(h2:r.A.length≤2000):bG3 r=true∧WP r=r:=by
 refine aF (t:=a5D r) (P:=fun q=>q=r) ?_
 obtain⟨a1,a2,a3,a4,a5,a6,a7,a8,a9⟩:=G3 h1;obtain⟨c1,c2,c3,c4,c5,c6,c7,c8,c9⟩:=G3 h2;unfold a5D;simp only[bG,aLQ,dW,wz,bZ,(O2).1,(O2).2,a1,a3,a4,a6,c1,c3,c4,c6]
theorem bVE{b:bC}(h1:b.Bytes.length≤2000)(h2:b.Log.length≤2000):bOW b=true∧aY5 b=b:=by
 refine aF (t:=a5E b) (P:=fun r=>r=b) ?_
 obtain⟨a1,a2,a3,a4,a5,a6,a7,a8,a9⟩:=G3 h1;obtain⟨c1,c2,c3,c4,c5,c6,c7,c8,c9⟩:=G3 h2;unfold a5E;simp only[bG,aLR,dW,wz,bZ,(O2).1,(O2).2,a1,a4,a6,c2,c5,c6]
theorem aPS{c:aD}(h:a0E c):k88 c=true∧g88 c=c:=by
 refine aF (t:=T88 c) (P:=fun r=>r=c) ?_
 obtain⟨h1,h2,h3,h4⟩:=h;unfold T88;simp only[bG,a5F,bMA,bL9,i7,iJ,bCU h1 h2,bVE h3 h4,dW,wz,bZ]
end Go.Proofs.YtdicpjkdpliofaaGreatBoundaries

namespace Go.Proofs.YtdicpjkdpliofaaGreatBoundaries
open Go Go.Zq
set_option maxHeartbeats 4000000
set_option maxRecDepth 100000
theorem jR{m:MM}{k s a v:Int}(h:m.f.Vector=0):bY (cM m k s a v).1=eqI (cQ k s a) 0:=by
 unfold cM bY;dsimp only;rw[h];cases hc:eqI (cQ k s a) 0
 ·have:cU (cQ k s a) 0=true:=by rw[hJ]at hc;exact nF.2 hc
  rw[this];cases eqI (cQ k s a) 2<;>rfl
 ·have:cU (cQ k s a) 0=false:=by rw[dL]at hc;exact O1.2 hc
  rw[this,Bool.false_and,cond_false,h];rfl
def mm(r:RM)(zs:List Int)(l:List aA)(s:Bool):MM:=⟨r,zs,l,s,f0⟩
theorem aPT{v t:Int}{r:RM}{zs:List Int}{l:List aA}{s h:Bool}(hr:r.Ok t)(hb:BusOk zs l)(h0:0≤v)(h1:v≤65535):bHF v (bB r zs l s h)=true∧IR v (bB r zs l s h)=(bB (dV (mm r zs l s) v).r (dV (mm r zs l s) v).zs (dV (mm r zs l s) v).l s h,(cP r.a 3-2)%65536,cQ 2 2 ((cP r.a 3-2)%65536)):=by
 refine aF (t:=a5Z v (bB r zs l s h)) (P:=fun q=>q=(bB (dV (mm r zs l s) v).r (dV (mm r zs l s) v).zs (dV (mm r zs l s) v).l s h,(cP r.a 3-2)%65536,cQ 2 2 ((cP r.a 3-2)%65536))) ?_
 have hm:(mm r zs l s).Ok t:=⟨hr,hb⟩;obtain⟨b1,b2,b3,b4,b5,b6,b7⟩:=AF hr;have fa:=VP hm h0 h1;obtain⟨a1,a2⟩:=GB (k:=2) (a:=(cP r.a 3-2)%65536) (fa.t hm) fa.ha (fun e=>absurd e (by decide))
 have a1':IQ 2 2 ((cP r.a 3-2)%65536) v (qV zs l)=true:=a1;have a2':K0 2 2 ((cP r.a 3-2)%65536) v (qV zs l)=(qV (tB 2 2 ((cP r.a 3-2)%65536) v zs) (tL 2 2 ((cP r.a 3-2)%65536) v zs l),0,cQ 2 2 ((cP r.a 3-2)%65536)):=a2;have hf:bY (cM (mm r zs l s) 2 2 ((cP r.a 3-2)%65536) v).1=eqI (cQ 2 2 ((cP r.a 3-2)%65536)) 0:=jR rfl;unfold a5Z dV;simp only[bG,aLX,aLW,aB6,DQ,show(bB r zs l s h).R=r.g from rfl,show(bB r zs l s h).Bus=qV zs l from rfl,show(bB r zs l s h).Stop=s from rfl,show(bB r zs l s h).Halt=h from rfl,eM,eN,aW,cH,aU,bE,aT,aR,aP,aY,b1,b2,b3,b4,b5,b6,a1',a2',dT,List.length_set,dW,wz]
 have e:(mm r zs l s).r=r:=rfl;rw[e,hf];refine⟨fun q=>by rw[q];rfl,fun q=>by rw[q];rfl⟩
theorem b1D{t:Int}{r:RM}{zs:List Int}{l:List aA}{s h:Bool}(hr:r.Ok t)(hb:BusOk zs l):bQU (bB r zs l s h)=true∧NB (bB r zs l s h)=(bB (dE (mm r zs l s)).1.r (dE (mm r zs l s)).1.zs (dE (mm r zs l s)).1.l s h,(dE (mm r zs l s)).2,cP r.a 3,cQ 1 2 (cP r.a 3)):=by
 refine aF (t:=a7L (bB r zs l s h)) (P:=fun q=>q=(bB (dE (mm r zs l s)).1.r (dE (mm r zs l s)).1.zs (dE (mm r zs l s)).1.l s h,(dE (mm r zs l s)).2,cP r.a 3,cQ 1 2 (cP r.a 3))) ?_
 have hm:(mm r zs l s).Ok t:=⟨hr,hb⟩;obtain⟨b1,b2,b3,b4,b5,b6,b7⟩:=AF hr;have fa:=aEY hm;obtain⟨a1,a2⟩:=GB (k:=1) (a:=cP r.a 3) (fa.t hm) fa.ha (fun e=>rfl)
 have a1':IQ 1 2 (cP r.a 3) 0 (qV zs l)=true:=a1;have a2':K0 1 2 (cP r.a 3) 0 (qV zs l)=(qV (tB 1 2 (cP r.a 3) 0 zs) (tL 1 2 (cP r.a 3) 0 zs l),tV 1 2 (cP r.a 3) 0 zs,cQ 1 2 (cP r.a 3)):=a2;have hf:bY (cM (mm r zs l s) 1 2 (cP r.a 3) 0).1=eqI (cQ 1 2 (cP r.a 3)) 0:=jR rfl;unfold a7L dE;simp only[bG,aMY,aMX,aCY,yT,show(bB r zs l s h).R=r.g from rfl,show(bB r zs l s h).Bus=qV zs l from rfl,show(bB r zs l s h).Stop=s from rfl,show(bB r zs l s h).Halt=h from rfl,eM,eN,aW,cH,aU,bE,aT,aR,aP,aY,b1,b2,b3,b4,b5,b7,a1',a2',dT,List.length_set,dW,wz]
 have e:(mm r zs l s).r=r:=rfl;rw[e,hf];refine⟨fun q=>by rw[q];rfl,fun q=>by rw[q];rfl⟩
def zC:aD:=⟨⟨[],[],0,0,0,0,false,false⟩,⟨[],[]⟩,false,false⟩
theorem a0T(r:RM)(zs:List Int)(l:List aA)(s:Bool)(v:Int):bY (dV (mm r zs l s) v)=eqI (cQ 2 2 ((cP r.a 3-2)%65536)) 0:=by
 have hf:bY (cM (mm r zs l s) 2 2 ((cP r.a 3-2)%65536) v).1=eqI (cQ 2 2 ((cP r.a 3-2)%65536)) 0:=jR rfl;have e:(mm r zs l s).r=r:=rfl;unfold dV;rw[e,hf];cases hc:eqI (cQ 2 2 ((cP r.a 3-2)%65536)) 0
 ·rw[cond_false,hf,hc]
 ·rw[cond_true];rw[hc]at hf;exact hf
theorem ZC(m:MM)(v:Int):(dV m v).stop=m.stop:=by
 unfold dV;exact bW (P:=fun z:MM=>z.stop=m.stop) (fun _=>rfl) (fun _=>rfl)
theorem aH1(m:MM):(dE m).1.stop=m.stop:=by
 unfold dE;exact bW (P:=fun z:MM=>z.stop=m.stop) (fun _=>rfl) (fun _=>rfl)
end Go.Proofs.YtdicpjkdpliofaaGreatBoundaries

namespace Go.Proofs.YtdicpjkdpliofaaGreatBoundaries
open Go Go.Zq
set_option maxHeartbeats 4000000
set_option maxRecDepth 100000
def AJ(f:aH):Bool:=eqI f.Vector 2||eqI f.Vector 3
def nH(f:aH):Bool:=cA f.Vector 2 21&&(cA f.PC 0 65535&&(cA f.Addr 0 65535&&(cA f.Word 0 65535&&(AJ f||(eqI f.Addr 0&&!f.Write)))))
theorem aH2(f:aH):bO4 f=true∧bO3 f=AJ f:=by
 refine aF (t:=a5M f) (P:=fun q=>q=AJ f) ?_
 unfold a5M AJ;simp only[aQ,cB,aJ,Bool.and_true,true_and];cases eqI f.Vector 2<;>cases eqI f.Vector 3<;>rfl
theorem aH3(f:aH):bRT f.Vector=true∧bRS f.Vector=AJ f:=by
 refine aF (t:=a80 f.Vector) (P:=fun q=>q=AJ f) ?_
 unfold a80 AJ;simp only[aQ,cB,aJ,Bool.and_true,true_and];cases eqI f.Vector 2<;>cases eqI f.Vector 3<;>rfl
end Go.Proofs.YtdicpjkdpliofaaGreatBoundaries

namespace Go.Proofs.YtdicpjkdpliofaaGreatBoundaries
open Go Go.Zq
set_option maxHeartbeats 4000000
set_option maxRecDepth 100000
theorem O6(b:Bool)(n:Int):yN b n=true∧yM b n=bif b then n else 0:=by
 refine aF (t:=aBV b n) (P:=fun q=>q=bif b then n else 0) ?_
 unfold aBV;cases b<;>simp
theorem bCV{t:Int}{r:RM}(h:r.Ok t):bHA r.g=true∧a5L r.g=fG r:=by
 refine aF (t:=a5K r.g) (P:=fun q=>q=fG r) ?_
 have f:=aM.1 h.fw;have k:=aM.1 h.mw;have t1:=h.t1;have e1:cX 32 r.mask=32*r.mask:=gH (by omega)
 have b1: ∀(b:Bool)(n:Int),(bif b then n else 0)=0∨(bif b then n else 0)=n:=fun b n=>by cases b<;>simp
 have c1:=b1 r.sup 256;have c2:=b1 r.tr 512;unfold a5K fG;simp only[bG,eM,eN,aW,cH,aU,bE,aT,aR,(O6 _ _).1,(O6 _ _).2,e1,dW,wz];rw[bJ (x:=r.fl) (by omega),bJ (x:=r.fl+32*r.mask) (by omega),bJ (by omega)]
theorem aPU{t:Int}{r:RM}(h:r.Ok t):aLS r.g=true∧aBX r.g=fG r:=by
 refine aF (t:=S9 r.g) (P:=fun q=>q=fG r) ?_
 have f:=aM.1 h.fw;have k:=aM.1 h.mw;have t1:=h.t1;have e1:cX 32 r.mask=32*r.mask:=gH (by omega)
 have b1: ∀(b:Bool)(n:Int),(bif b then n else 0)=0∨(bif b then n else 0)=n:=fun b n=>by cases b<;>simp
 have c1:=b1 r.sup 256;have c2:=b1 r.tr 512;unfold S9 fG;simp only[bG,eM,eN,aW,cH,aU,bE,aT,aR,(O6 _ _).1,(O6 _ _).2,e1,dW,wz];rw[bJ (x:=r.fl) (by omega),bJ (x:=r.fl+32*r.mask) (by omega),bJ (by omega)]
theorem aPV{t:Int}{r:RM}(h:r.Ok t):aM4 r.g=true∧aM3 r.g=fG r:=by
 refine aF (t:=UF r.g) (P:=fun q=>q=fG r) ?_
 have f:=aM.1 h.fw;have k:=aM.1 h.mw;have t1:=h.t1;have e1:cX 32 r.mask=32*r.mask:=gH (by omega)
 have b1: ∀(b:Bool)(n:Int),(bif b then n else 0)=0∨(bif b then n else 0)=n:=fun b n=>by cases b<;>simp
 have c1:=b1 r.sup 256;have c2:=b1 r.tr 512;unfold UF fG;simp only[bG,eM,eN,aW,cH,aU,bE,aT,aR,(O6 _ _).1,(O6 _ _).2,e1,dW,wz];rw[bJ (x:=r.fl) (by omega),bJ (x:=r.fl+32*r.mask) (by omega),bJ (by omega)]
theorem aFC{t v:Int}{r:RM}(h:r.Ok t)(hv:cA v 0 1023=true):aY7 v r.g=true∧aY6 v r.g=(dH r v).g:=by
 refine aF (t:=a5R v r.g) (P:=fun q=>q=(dH r v).g) ?_
 obtain⟨b1,b2,b3,b4,b5,-,-⟩:=AF h;obtain⟨c1,c2⟩:=aW0 hv;have hv':=aM.1 hv;have e1:aZ v 31=v%32:=iZ 5 _ (by omega) (by decide)
 have e2:aZ (eW v 5) 7=v/32%8:=by rw[kQ (n:=5) 5 rfl (by omega)];exact iZ 3 _ (by omega) (by decide)
 unfold a5R dH;simp only[bG,aLT,eM,eN,aW,cH,aU,bE,aT,aR,aP,aY,b1,b2,b3,b4,b5,c1,c2,e1,e2,dT,List.length_set,dW,wz];cases hs:eqI (v/256%2) 1<;>cases hp:r.sup<;>simp[yF]<;>rfl
def G8(s:Bool)(f:aH):Int:=(bif f.Write then 1 else 0)+(bif s then 2 else 0)
theorem aXF(w s:Bool):eT (bif w then 1 else 0) (bif s then 2 else 0)=(bif w then 1 else 0)+(bif s then 2 else 0):=by cases w<;>cases s<;>decide+kernel
theorem bCW(c:aD)(f:aH):bO8 c f=true∧bO7 c f=G8 c.R.Super f:=by
 refine aF (t:=a5N c f) (P:=fun q=>q=G8 c.R.Super f) ?_
 unfold a5N G8;simp only[aQ,aJ,(O6 _ _).1,(O6 _ _).2,aXF,Bool.and_true,true_and]
theorem bCX(s:Bool)(f:aH):bRX s f=true∧bRW s f=G8 s f:=by
 refine aF (t:=a81 s f) (P:=fun q=>q=G8 s f) ?_
 unfold a81 G8;simp only[aQ,aJ,(fH _ _).1,(fH _ _).2,aXF,Bool.and_true,true_and]
def oF(r:RM)(f:aH):List Int:=bif AJ f then [f.PC,fG r,f.Word,f.Addr,G8 r.sup f]else [f.PC,fG r]
theorem bK6{t:Int}{r:RM}{zs:List Int}{l:List aA}{s h:Bool}(f:aH)(hr:r.Ok t):bPB (bB r zs l s h) f=true∧aBW (bB r zs l s h) f=ri (oF r f):=by
 refine aF (t:=a5P (bB r zs l s h) f) (P:=fun q=>q=ri (oF r f)) ?_
 obtain⟨a1,a2⟩:=bCV hr;unfold a5P oF;simp only[bG,a5O,show(bB r zs l s h).R=r.g from rfl,show(bB r zs l s h).Bus=qV zs l from rfl,a1,a2,(aH2 f).1,(aH2 f).2,(bCW _ f).1,(bCW _ f).2,dW,wz,bZ,aT]
 cases AJ f<;>simp<;>rfl
theorem bK7{t:Int}{r:RM}(f:aH)(hr:r.Ok t):bR0 r.g f=true∧aDI r.g f=ri (oF r f):=by
 refine aF (t:=a82 r.g f) (P:=fun q=>q=ri (oF r f)) ?_
 obtain⟨a1,a2⟩:=aHW hr;unfold a82 oF;simp only[aQ,cB,aJ,a1,a2,(aH3 f).1,(aH3 f).2,(bCX _ f).1,(bCX _ f).2,aT,Bool.and_true,true_and];cases AJ f<;>simp<;>rfl
end Go.Proofs.YtdicpjkdpliofaaGreatBoundaries

namespace Go.Proofs.YtdicpjkdpliofaaGreatBoundaries
open Go Go.Zq
set_option maxHeartbeats 4000000
set_option maxRecDepth 100000
def pk(m:MM)(F:List Int):Nat→MM
 |0=>m
 |i+1=>bif bY (pk m F i)then dV (pk m F i) (F.getD i 0)else pk m F i
def FW(F:List Int):Prop:= ∀i:Nat,0≤F.getD i 0∧F.getD i 0≤65535
theorem V2{t:Int}{m:MM}{F:List Int}(hm:m.Ok t)(hF:FW F): ∀i,(pk m F i).Ok t
 |0=>hm
 |i+1=>bW (P:=fun z=>MM.Ok t z) (fun _=>aWQ (V2 hm hF i) (hF i).1 (hF i).2) (fun _=>V2 hm hF i)
theorem aFD(m:MM)(F:List Int): ∀i,(pk m F i).stop=m.stop
 |0=>rfl
 |i+1=>bW (P:=fun z:MM=>z.stop=m.stop) (fun _=>(ZC _ _).trans (aFD m F i)) (fun _=>aFD m F i)
theorem bK8{m:MM}{v:Int}(h:m.f=f0)(k:bY (dV m v)=true):(dV m v).f=f0:=by
 have e:(cM m 2 2 ((cP m.r.a 3-2)%65536) v).1.f=f0∨bY (cM m 2 2 ((cP m.r.a 3-2)%65536) v).1=false:=by
  unfold cM bY;dsimp only;rw[h];cases hc:cU (cQ 2 2 ((cP m.r.a 3-2)%65536)) 0
  ·exact Or.inl rfl
  ·right
   cases eqI (cQ 2 2 ((cP m.r.a 3-2)%65536)) 2<;>rfl
 unfold dV at k⊢;cases hf:bY (cM m 2 2 ((cP m.r.a 3-2)%65536) v).1
 ·rw[hf,cond_false,hf]at k;exact absurd k (by decide)
 ·rw[cond_true];rcases e with e|e
  ·exact e
  ·rw[e]at hf;exact absurd hf (by decide)
theorem bMW{m:MM}{F:List Int}(h:m.f=f0): ∀i,bY (pk m F i)=true→(pk m F i).f=f0
 |0,_=>h
 |i+1,k=>by
  unfold pk at k⊢;cases hc:bY (pk m F i)
  ·rw[hc,cond_false,hc]at k;exact absurd k (by decide)
  ·rw[hc,cond_true]at k;exact bK8 (bMW h i hc) k
theorem bMX{m:MM}{F:List Int}{i:Nat}(h:m.f=f0)(k:bY (pk m F i)=true):pk m F i=mm (pk m F i).r (pk m F i).zs (pk m F i).l m.stop:=by
 have e:=bMW h i k;have s:=aFD m F i;generalize pk m F i=p at e s;obtain⟨p1,p2,p3,p4,p5⟩:=p;dsimp only at e s;subst e s;rfl
theorem aXG{m:MM}{F:List Int}{i:Nat}(h:bY (pk m F i)=false): ∀d,pk m F (i+d)=pk m F i
 |0=>rfl
 |d+1=>by
  have ih:=aXG h d;show(bif bY (pk m F (i+d))then dV (pk m F (i+d)) (F.getD (i+d) 0)else pk m F (i+d))=_
  rw[ih,h];rfl
theorem aFE{F:List Int}{i:Nat}(h:i<F.length):bF (ri F) i 0=F.getD i 0:=by
 rw[mN h,List.getD_eq_getElem?_getD,List.getElem?_eq_getElem h];rfl
theorem bK9{t:Int}{m:MM}{F:List Int}(hm:m.Ok t)(hF:FW F)(hl:F.length≤5)(f:aH)(c:aD):a9D (V261_0.mk f c m.g (ri F) (F.length:Int) 0)=true∧a9C (V261_0.mk f c m.g (ri F) (F.length:Int) 0)=V261_0.mk f c (pk m F F.length).g (ri F) (F.length:Int) (F.length:Int):=by
 refine LA (N:=D1) (fun i=>V261_0.mk f c (pk m F i).g (ri F) (F.length:Int) (i:Int)) F.length (by omega) (fun i hi=>?_) ?_
 ·have hm':=V2 hm hF i;obtain⟨p1,p2⟩:=bB4 hm' (hF i).1 (hF i).2;have l1:ltI (i:Int) (F.length:Int)=true:=by rw[dM];omega
  have l3:leI 0 (i:Int)=true:=by simp
  have a1:aV (i:Int) 1=((i+1:Nat):Int):=by rw[bJ (by omega)];omega
  have b1:dO [.int .i64] (ri F) i 0=true:=FY ⟨F,rfl⟩ (by rw[aY];exact hi)
  unfold D1;simp only[bG,BL,eL,cE,bR,bK,eM,eN,aW,cH,aU,bE,aT,aR,aP,aY,l1,l3,a1,b1,Int.toNat_natCast,Nat.zero_add,aFE hi,p1,p2,dZ,bX,wz,bZ];refine⟨fun q=>?_,fun q=>?_⟩
  ·have q':bY (pk m F i)=true:=q;show _=some (V261_0.mk f c (MM.g (bif bY (pk m F i)then dV (pk m F i) (F.getD i 0)else pk m F i)) (ri F) (F.length:Int) ((i+1:Nat):Int))
   rw[q',cond_true]
  ·have q':bY (pk m F i)=false:=q;show _=some (V261_0.mk f c (MM.g (bif bY (pk m F i)then dV (pk m F i) (F.getD i 0)else pk m F i)) (ri F) (F.length:Int) ((i+1:Nat):Int))
   rw[q',cond_false]
 ·have l1:ltI (F.length:Int) (F.length:Int)=false:=by simp
  unfold D1;simp only[bG,l1,dW,Bool.false_eq_true,false_implies,implies_true]
end Go.Proofs.YtdicpjkdpliofaaGreatBoundaries

namespace Go.Proofs.YtdicpjkdpliofaaGreatBoundaries
open Go Go.Zq
set_option maxHeartbeats 4000000
set_option maxRecDepth 100000
theorem bLA{t:Int}{r:RM}{zs:List Int}{l:List aA}{F:List Int}(s h:Bool)(f:aH)(hr:r.Ok t)(hb:BusOk zs l)(hF:FW F)(hl:F.length≤5):a51 (V198_0.mk (bB r zs l s h) f (ri F) (F.length:Int) 0)=true∧ ∃j:Nat,j≤F.length∧a50 (V198_0.mk (bB r zs l s h) f (ri F) (F.length:Int) 0)=V198_0.mk (bB (pk (mm r zs l s) F j).r (pk (mm r zs l s) F j).zs (pk (mm r zs l s) F j).l s h) f (ri F) (F.length:Int) (j:Int)∧bY (pk (mm r zs l s) F j)=true∧(j<F.length→bY (dV (pk (mm r zs l s) F j) (F.getD j 0))=false):=by
 have hm:(mm r zs l s).Ok t:=⟨hr,hb⟩;refine gP (Post:=fun w=> ∃j:Nat,j≤F.length∧w=V198_0.mk (bB (pk (mm r zs l s) F j).r (pk (mm r zs l s) F j).zs (pk (mm r zs l s) F j).l s h) f (ri F) (F.length:Int) (j:Int)∧bY (pk (mm r zs l s) F j)=true∧(j<F.length→bY (dV (pk (mm r zs l s) F j) (F.getD j 0))=false)) (eC (fun(n:Nat) (v:V198_0)=> ∃i:Nat,i+n=F.length∧v=V198_0.mk (bB (pk (mm r zs l s) F i).r (pk (mm r zs l s) F i).zs (pk (mm r zs l s) F i).l s h) f (ri F) (F.length:Int) (i:Int)∧bY (pk (mm r zs l s) F i)=true) _ ?_ 9223372036854775808 F.length _ ⟨0,by omega,rfl,rfl⟩ (by omega))
 rintro n v ⟨i,hi,rfl,hf⟩
 have hm':=V2 hm hF i;have e:=bMX (m:=mm r zs l s) (F:=F) (i:=i) rfl hf;obtain⟨p1,p2⟩:=aPT (s:=s) (h:=h) hm'.r hm'.b (hF i).1 (hF i).2;have pf:=a0T (pk (mm r zs l s) F i).r (pk (mm r zs l s) F i).zs (pk (mm r zs l s) F i).l s (F.getD i 0);rw[show mm (pk (mm r zs l s) F i).r (pk (mm r zs l s) F i).zs (pk (mm r zs l s) F i).l s=pk (mm r zs l s) F i from e.symm]at p2 pf
 rcases Nat.lt_or_ge i F.length with hlt|hge
 ·have l1:ltI (i:Int) (F.length:Int)=true:=by rw[dM];omega
  have l3:leI 0 (i:Int)=true:=by simp
  have a1:aV (i:Int) 1=((i+1:Nat):Int):=by rw[bJ (by omega)];omega
  have b1:dO [.int .i64] (ri F) i 0=true:=FY ⟨F,rfl⟩ (by rw[aY];exact hlt)
  have N: ∀(x:Int),cU x 0=!eqI x 0:=fun x=>by
   cases hx:eqI x 0
   ·rw[hJ]at hx;exact nF.2 hx
   ·rw[dL]at hx;exact O1.2 hx
  unfold IS;simp only[bG,wG,show(bB (pk (mm r zs l s) F i).r (pk (mm r zs l s) F i).zs (pk (mm r zs l s) F i).l s h).R=(pk (mm r zs l s) F i).r.g from rfl,show(bB (pk (mm r zs l s) F i).r (pk (mm r zs l s) F i).zs (pk (mm r zs l s) F i).l s h).Bus=qV (pk (mm r zs l s) F i).zs (pk (mm r zs l s) F i).l from rfl,eM,eN,aW,cH,aU,bE,aT,aR,aP,aY,l1,l3,a1,b1,Int.toNat_natCast,Nat.zero_add,aFE hlt,p1,p2,N,←pf,bX,wz,bZ]
  refine⟨fun q=>?_,fun q=>?_⟩
  ·have q':=G5 q;exact⟨i,by omega,rfl,hf,fun _=>q'⟩
  ·have q':=G6 q;have e1:pk (mm r zs l s) F (i+1)=dV (pk (mm r zs l s) F i) (F.getD i 0):=by
    show(bif bY (pk (mm r zs l s) F i)then dV (pk (mm r zs l s) F i) (F.getD i 0)else pk (mm r zs l s) F i)=_
    rw[hf,cond_true]
   refine⟨n-1,by omega,i+1,by omega,?_,?_⟩
   ·rw[e1]
   ·rw[e1];exact q'
 ·obtain rfl:i=F.length:=by omega
  have l1:ltI (F.length:Int) (F.length:Int)=false:=by simp
  unfold IS;simp only[bG,l1,bX];exact⟨F.length,by omega,rfl,hf,fun h=>absurd h (by omega)⟩
end Go.Proofs.YtdicpjkdpliofaaGreatBoundaries

namespace Go.Proofs.YtdicpjkdpliofaaGreatBoundaries
open Go Go.Zq
set_option maxHeartbeats 4000000
set_option maxRecDepth 100000
theorem lW(r:RM)(zs:List Int)(l:List aA)(s h:Bool):(bB r zs l s h).R=r.g:=rfl
theorem nN(r:RM)(zs:List Int)(l:List aA)(s h:Bool):(bB r zs l s h).Bus=qV zs l:=rfl
theorem lX(r:RM)(zs:List Int)(l:List aA)(s h:Bool):(bB r zs l s h).Stop=s:=rfl
theorem kW(r:RM)(zs:List Int)(l:List aA)(s h:Bool):(bB r zs l s h).Halt=h:=rfl
theorem iW(r:RM)(zs:List Int)(l:List aA)(s h:Bool):aD.mk r.g (qV zs l) s h=bB r zs l s h:=rfl
def aPW(P:MM)(q:MM×Int):aD:=bif bY q.1 then bB {P.r with pc:=q.2} q.1.zs q.1.l false false else bB P.r q.1.zs q.1.l false true
def aPX(P:MM)(vec:Int):aD:=bif bY P then aPW P (cM P 1 2 (2*vec) 0)else bB P.r P.zs P.l false true
def LM(m:MM)(F:List Int)(vec:Int):aD:=aPX (pk m F F.length) vec
def vE(r:RM):Int:=r.fl+32*r.mask+256
theorem cDI{r:RM}(h:r.Ok 65535):eT (fX (fG r) 512) 256=vE r∧cA (vE r) 0 1023=true:=by
 have f:=aM.1 h.fw;have k:=aM.1 h.mw;have key: ∀n:Fin 1024,eT (fX (n.val:Int) 512) 256=(n.val:Int)%256+256:=by decide+kernel
 have hs:fG r=r.fl+32*r.mask+(bif r.sup then 256 else 0)+(bif r.tr then 512 else 0):=rfl
 have b1: ∀(b:Bool)(n:Int),(bif b then n else 0)=0∨(bif b then n else 0)=n:=fun b n=>by cases b<;>simp
 have c1:=b1 r.sup 256;have c2:=b1 r.tr 512;have r0:0≤fG r∧fG r<1024∧fG r%256=r.fl+32*r.mask:=by omega
 obtain⟨n,hn⟩:=Int.eq_ofNat_of_zero_le r0.1;refine⟨?_,by rw[aM];unfold vE;omega⟩
 have kk:=key ⟨n,by omega⟩
 unfold vE;rw[←r0.2.2,hn];exact kk
theorem aFF{f:aH}(h:nH f=true):(2≤f.Vector∧f.Vector≤21)∧(0≤f.PC∧f.PC≤65535)∧(0≤f.Addr∧f.Addr≤65535)∧(0≤f.Word∧f.Word≤65535):=by
 unfold nH at h;simp only[Bool.and_eq_true,aM]at h;exact⟨h.1,h.2.1,h.2.2.1,h.2.2.2.1⟩
theorem bCY{t:Int}{r:RM}{f:aH}(hr:r.Ok t)(h:nH f=true):FW (oF r f)∧(oF r f).length≤5:=by
 obtain⟨h1,h2,h3,h4⟩:=aFF h;have s:=VT hr;have i:0≤G8 r.sup f∧G8 r.sup f≤65535:=by
  unfold G8;cases f.Write<;>cases r.sup<;>simp
 unfold oF;cases AJ f
 ·refine⟨fun n=>?_,by simp⟩
  match n with
  |0=>exact h2
  |1=>exact s
  |n+2=>exact⟨by simp,by simp⟩
 ·refine⟨fun n=>?_,by simp⟩
  match n with
  |0=>exact h2
  |1=>exact s
  |2=>exact h4
  |3=>exact h3
  |4=>exact i
  |n+5=>exact⟨by simp,by simp⟩
theorem LN{m:MM}{v:Int}(h:2≤v∧v≤21):AccOk 2 0 (2*v) m:=⟨Or.inr rfl,by decide,by rw[aM];omega⟩
theorem aXH{r:RM}{zs:List Int}{l:List aA}{s:Bool}{f:aH}(hr:r.Ok 65535)(hb:BusOk zs l)(hg:nH f=true):aCG f (bB r zs l s false)=true∧aCF f (bB r zs l s false)=LM (mm (dH r (vE r)) zs l false) (oF r f) f.Vector:=by
 refine aF (t:=a52 f (bB r zs l s false)) (P:=fun q=>q=LM (mm (dH r (vE r)) zs l false) (oF r f) f.Vector) ?_
 obtain⟨gv,-⟩:=aFF hg;obtain⟨v1,v2⟩:=cDI hr;obtain⟨st1,st2⟩:=aPU hr;obtain⟨ss1,ss2⟩:=aFC hr v2;obtain⟨fr1,fr2⟩:=bK6 (zs:=zs) (l:=l) (s:=s) (h:=false) f hr;obtain⟨w1,w2⟩:=bCY hr hg;have hr':(dH r (vE r)).Ok 65535:=GC hr;have hm:(mm (dH r (vE r)) zs l false).Ok 65535:=⟨hr',hb⟩;obtain⟨e1,j,hj,e2,e3,e4⟩:=bLA false false f hr' hb w1 w2;have em:cX 2 f.Vector=2*f.Vector:=gH (by omega)
 have hp:=V2 hm w1 j;have pj:=bMX (m:=mm (dH r (vE r)) zs l false) (F:=oF r f) (i:=j) rfl e3;have hP:(if j<(oF r f).length then pk (mm (dH r (vE r)) zs l false) (oF r f) (oF r f).length=dV (pk (mm (dH r (vE r)) zs l false) (oF r f) j) ((oF r f).getD j 0)else pk (mm (dH r (vE r)) zs l false) (oF r f) (oF r f).length=pk (mm (dH r (vE r)) zs l false) (oF r f) j):=by
  split
  ·rename_i hlt;have s1:pk (mm (dH r (vE r)) zs l false) (oF r f) (j+1)=dV (pk (mm (dH r (vE r)) zs l false) (oF r f) j) ((oF r f).getD j 0):=by
    show(bif bY (pk (mm (dH r (vE r)) zs l false) (oF r f) j)then dV (pk (mm (dH r (vE r)) zs l false) (oF r f) j) ((oF r f).getD j 0)else pk (mm (dH r (vE r)) zs l false) (oF r f) j)=_
    rw[e3,cond_true]
   have s2:=aXG (m:=mm (dH r (vE r)) zs l false) (F:=oF r f) (i:=j+1) (by rw[s1];exact e4 hlt) ((oF r f).length-(j+1))
   rw[show j+1+((oF r f).length-(j+1))=(oF r f).length by omega]at s2
   rw[s2,s1]
  ·rw[show j=(oF r f).length by omega]
 obtain⟨p1,p2⟩:=aPT (s:=false) (h:=false) hp.r hp.b (w1 j).1 (w1 j).2;obtain⟨t1,t2⟩:=GB (k:=1) (a:=2*f.Vector) ((LN gv).t hp) (LN (m:=pk (mm (dH r (vE r)) zs l false) (oF r f) j) gv).ha (fun _=>rfl)
 have t1':IQ 1 2 (2*f.Vector) 0 (qV (pk (mm (dH r (vE r)) zs l false) (oF r f) j).zs (pk (mm (dH r (vE r)) zs l false) (oF r f) j).l)=true:=t1;have t2':=t2;rw[show(bC.mk (ri (pk (mm (dH r (vE r)) zs l false) (oF r f) j).zs) ((pk (mm (dH r (vE r)) zs l false) (oF r f) j).l.map aA.row))=qV (pk (mm (dH r (vE r)) zs l false) (oF r f) j).zs (pk (mm (dH r (vE r)) zs l false) (oF r f) j).l from rfl]at t2'
 have fc:=jR (m:=pk (mm (dH r (vE r)) zs l false) (oF r f) j) (k:=1) (s:=2) (a:=2*f.Vector) (v:=0) (by unfold bY at e3;simpa using e3)
 rw[show mm (pk (mm (dH r (vE r)) zs l false) (oF r f) j).r (pk (mm (dH r (vE r)) zs l false) (oF r f) j).zs (pk (mm (dH r (vE r)) zs l false) (oF r f) j).l false=pk (mm (dH r (vE r)) zs l false) (oF r f) j from pj.symm]at p2
 clear pj
 unfold LM;generalize pk (mm (dH r (vE r)) zs l false) (oF r f) j=p at*;have N: ∀(x:Int),cU x 0=!eqI x 0:=fun x=>by
  cases hx:eqI x 0
  ·rw[hJ]at hx;exact nF.2 hx
  ·rw[dL]at hx;exact O1.2 hx
 unfold a52;rcases Nat.lt_or_ge j (oF r f).length with hlt|hge
 ·rw[if_pos hlt]at hP;rw[hP];have l1:ltI (j:Int) ((oF r f).length:Int)=true:=by rw[dM];omega
  have nf:=e4 hlt;simp only[bG,aCE,aCD,IT,aCC,lO,aCB,aCA,M2,lW,nN,lX,kW,iW,eM,eN,aW,cH,aU,bE,aT,aR,aP,aY,st1,st2,v1,ss1,ss2,fr1,fr2,e1,e2,l1,Int.toNat_natCast,Nat.zero_add,aFE hlt,p1,p2,bX,wz,bZ,VL,VM];unfold aPX;rw[nf];exact⟨by simp,rfl⟩
 ·rw[if_neg (by omega)]at hP
  rw[hP];obtain rfl:j=(oF r f).length:=by omega
  have l1:ltI ((oF r f).length:Int) ((oF r f).length:Int)=false:=by simp
  simp only[bG,aCE,aCD,IT,aCC,lO,aCB,aCA,M2,lW,nN,lX,kW,iW,eM,eN,aW,cH,aU,bE,aT,aR,aP,aY,st1,st2,v1,ss1,ss2,fr1,fr2,e1,e2,l1,em,t1',t2',N,show eqI 1 2=false from rfl,bZ,Int.toNat_natCast,Nat.zero_add,bX,wz,VL,VM]
  unfold aPX aPW;rw[e3,fc,cond_true];refine⟨by simp,fun q=>?_,fun q=>?_⟩
  ·rw[G5 q];rfl
  ·rw[G6 q];rfl
end Go.Proofs.YtdicpjkdpliofaaGreatBoundaries

namespace Go.Proofs.YtdicpjkdpliofaaGreatBoundaries
open Go Go.Zq
set_option maxHeartbeats 4000000
set_option maxRecDepth 100000
theorem bVF(m:MM)(r:RM):(aO.mk r.g (qV m.zs m.l) false m.f)=MM.g {m with r:=r,stop:=false}:=rfl
theorem g_B(m:MM):m.g.fbus=qV m.zs m.l:=rfl
theorem bLB(m:MM)(b:Bool)(v:Int):dV {m with stop:=b} v={dV m v with stop:=b}:=by
 have a:cM {m with stop:=b} 2 2 ((cP m.r.a 3-2)%65536) v=({(cM m 2 2 ((cP m.r.a 3-2)%65536) v).1 with stop:=b},(cM m 2 2 ((cP m.r.a 3-2)%65536) v).2):=rfl
 unfold dV;show(bif bY (cM {m with stop:=b} 2 2 ((cP m.r.a 3-2)%65536) v).1 then _ else _)=_
 rw[a];show(bif bY (cM m 2 2 ((cP m.r.a 3-2)%65536) v).1 then _ else _)=_
 cases bY (cM m 2 2 ((cP m.r.a 3-2)%65536) v).1<;>rfl
theorem bMY(m:MM)(F:List Int)(b:Bool): ∀i,pk {m with stop:=b} F i={pk m F i with stop:=b}
 |0=>rfl
 |i+1=>by
  show(bif bY (pk {m with stop:=b} F i)then dV (pk {m with stop:=b} F i) (F.getD i 0)else pk {m with stop:=b} F i)={(bif bY (pk m F i)then dV (pk m F i) (F.getD i 0)else pk m F i)with stop:=b}
  rw[bMY m F b i];show(bif bY (pk m F i)then dV {pk m F i with stop:=b} (F.getD i 0)else{pk m F i with stop:=b})=_
  rw[bLB];cases bY (pk m F i)<;>rfl
theorem cDJ{fl mk:Int}(h1:cA fl 0 31=true)(h2:cA mk 0 7=true):eT (eT fl (cX 32 mk)) 256=fl+32*mk+256:=by
 rw[aM]at h1 h2;obtain⟨a,rfl⟩:=Int.eq_ofNat_of_zero_le h1.1;obtain⟨b,rfl⟩:=Int.eq_ofNat_of_zero_le h2.1;have key: ∀a:Fin 32,∀b:Fin 8,eT (eT (a.val:Int) (cX 32 (b.val:Int))) 256=(a.val:Int)+32*(b.val:Int)+256:=by decide+kernel
 exact key ⟨a,by omega⟩ ⟨b,by omega⟩
theorem aXI{r:RM}{zs:List Int}{l:List aA}{s h:Bool}{f:aH}{mk:Int}(hr:r.Ok 65535)(hb:BusOk zs l)(hg:nH f=true)(hk:cA mk 0 7=true):WW (bB r zs l s h) f mk=true∧WV (bB r zs l s h) f mk=LM (mm (dH r (r.fl+32*mk+256)) zs l false) (oF r f) f.Vector:=by
 refine aF (t:=a9E (bB r zs l s h) f mk) (P:=fun q=>q=LM (mm (dH r (r.fl+32*mk+256)) zs l false) (oF r f) f.Vector) ?_
 obtain⟨gv,-⟩:=aFF hg;have v1:=cDJ hr.fw hk;have v2:cA (r.fl+32*mk+256) 0 1023=true:=by
  have h1:=aM.1 hr.fw;have h2:=aM.1 hk;rw[aM];omega
 generalize r.fl+32*mk+256=v at*;obtain⟨d1,d2⟩:=aW7 (s:=s) (h:=h) hr hb;have d2':d9 (bB r zs l s h)=(mm r zs l s).g:=d2;obtain⟨ss1,ss2⟩:=aE4 hr v2;obtain⟨fr1,fr2⟩:=bK7 f hr;obtain⟨w1,w2⟩:=bCY hr hg;have hr':(dH r v).Ok 65535:=GC hr;have hm:(mm (dH r v) zs l s).Ok 65535:=⟨hr',hb⟩;obtain⟨e1,e2⟩:=bK9 hm w1 w2 f ⟨⟨[],[],0,0,0,0,false,false⟩,⟨[],[]⟩,false,false⟩;have em:cX 2 f.Vector=2*f.Vector:=gH (by omega)
 have hp:=V2 hm w1 (oF r f).length;have pe:LM (mm (dH r v) zs l false) (oF r f) f.Vector=aPX {pk (mm (dH r v) zs l s) (oF r f) (oF r f).length with stop:=false} f.Vector:=by
  unfold LM;rw[←bMY];rfl
 rw[pe];generalize pk (mm (dH r v) zs l s) (oF r f) (oF r f).length=p at*;obtain⟨a1,a2⟩:=VO (k:=1) hp (LN gv);obtain⟨o1,o2⟩:=zN (k:=1) hp (LN gv) (by decide)
 have ae:cM {p with stop:=false} 1 2 (2*f.Vector) 0=({(cM p 1 2 (2*f.Vector) 0).1 with stop:=false},(cM p 1 2 (2*f.Vector) 0).2):=rfl
 have ar:(cM p 1 2 (2*f.Vector) 0).1.r=p.r:=rfl;have am:mm r zs l s=⟨r,zs,l,s,f0⟩:=rfl;generalize cM p 1 2 (2*f.Vector) 0=q at*;have c1:=aW8 (m:={p with stop:=false}) (t:=65535) ⟨hp.r,hp.b⟩
 have c2:=aW8 (m:={q.1 with stop:=false}) (t:=65535) ⟨o1.r,o1.b⟩
 have c3:=aW8 (m:={q.1 with r:={q.1.r with pc:=q.2},stop:=false}) (t:=65535) ⟨o1.r.setP (by rw[aM];exact rP o2),o1.b⟩
 have b0:(aO.mk (dH r v).g (qV zs l) s f0)=(mm (dH r v) zs l s).g:=rfl;unfold a9E;simp only[bG,I1,I0,IZ,uN,uM,aN0,aNZ,UV,aNY,d1,d2',show(mm r zs l s).g.fr=r.g from rfl,show(mm r zs l s).g.fbus=qV zs l from rfl,show(mm r zs l s).g.fstop=s from rfl,show(mm r zs l s).g.ffault=f0 from rfl,eM,eN,aW,cH,aU,bE,aT,aR,aP,aY,v1,ss1,ss2,fr1,fr2,b0,e1,e2,em,a1,a2,eL,g_B,bR,bK,kF,bVF,c1,c2,c3,dZ,VL,VM,dW,wz,bZ]
 unfold aPX aPW;rw[ae];have X: ∀z:aD,(z=bif bY p then(bif bY q.1 then bB {p.r with pc:=q.2} q.1.zs q.1.l false false else bB p.r q.1.zs q.1.l false true)else bB p.r p.zs p.l false true)→z=bif bY {p with stop:=false}then(bif bY ({q.1 with stop:=false}:MM)then bB {p.r with pc:=q.2} q.1.zs q.1.l false false else bB p.r q.1.zs q.1.l false true)else bB p.r p.zs p.l false true:=fun z h=>h
 refine⟨by simp,fun h1=>⟨fun h2=>X _ ?_,fun h2=>X _ ?_⟩,fun h1=>X _ ?_⟩
 ·rw[show bY p=true from h1,show bY q.1=true from h2,h2,ar,cond_true,cond_true];rfl
 ·rw[show bY p=true from h1,show bY q.1=false from h2,h2,ar,cond_true,cond_false];rfl
 ·rw[show bY p=false from h1,h1,cond_false];rfl
end Go.Proofs.YtdicpjkdpliofaaGreatBoundaries

namespace Go.Proofs.YtdicpjkdpliofaaGreatBoundaries
open Go Go.Zq
set_option maxHeartbeats 4000000
set_option maxRecDepth 100000
end Go.Proofs.YtdicpjkdpliofaaGreatBoundaries

namespace Go.Proofs.YtdicpjkdpliofaaGreatBoundaries
open Go Go.Zq
set_option maxHeartbeats 4000000
set_option maxRecDepth 100000
theorem bLC{s f v:Int}(hs:s=1∨s=2):hU s f v=eT (aZ f 16) (eT (bif eqI v 0 then 4 else 0) (bif geI v (bS s/2)then 8 else 0)):=by
 refine(aF (t:=aOE s f v) (P:=fun r=>r=eT (aZ f 16) (eT (bif eqI v 0 then 4 else 0) (bif geI v (bS s/2)then 8 else 0))) ?_).2
 unfold aOE;simp only[aQ,aJ,(GG hs).1,(GG hs).2,Bool.and_true,true_and]
theorem bCZ{s f v:Int}(hs:s=1∨s=2):bP8 s f v=true∧bP7 s f v=hU s f v:=by
 refine aF (t:=a6Z s f v) (P:=fun r=>r=hU s f v) ?_
 unfold a6Z;simp only[aQ,aJ,(a0D hs).1,(a0D hs).2,bLC hs,Bool.and_true,true_and]
theorem bLD{s a b:Int}(ha:dA s a=true)(hb:dA s b=true):WT s 0 a b=true∧K2 s 0 a b=((a-b)%bS s,JH s a b):=by
 refine aF (t:=a64 s 0 a b) (P:=fun r=>r=((a-b)%bS s,JH s a b)) ?_
 obtain⟨h,a0,a1⟩:=qC ha;obtain⟨-,b0,b1⟩:=qC hb;have l:=rO h;have sa:=x7 h a0 a1;have sb:=x7 h b0 b1;obtain⟨p1,p2⟩:=YZ h a0 (by omega)
 obtain⟨q1,q2⟩:=YZ h b0 (by omega)
 have e1:cF (cF a b) 0=a-b:=by rw[eK (x:=a) (by omega),eK (by omega)];omega
 have e2:cF (cF (AE s a) (AE s b)) 0=AE s a-AE s b:=by rw[eK (x:=AE s a) (by omega),eK (by omega)];omega
 unfold a64;simp only[aQ,aJ,aMN,aMM,p1,p2,q1,q2,e1,e2,(bKQ h).1,(bKQ h).2,Bool.and_true,true_and];rfl
theorem b1E{s f a b:Int}(ha:dA s a=true)(hb:dA s b=true):aO2 s f a b=eT (aZ (JH s a b) 15) (aZ f 16):=by
 refine(aF (t:=aO1 s f a b) (P:=fun r=>r=eT (aZ (JH s a b) 15) (aZ f 16)) ?_).2
 obtain⟨h1,h2⟩:=bBV ha hb;unfold aO1;simp only[aQ,aJ,h1,h2,Bool.and_true,true_and]
theorem cDK{s f a b:Int}(ha:dA s a=true)(hb:dA s b=true):bQA s f a b=true∧bP9 s f a b=aO2 s f a b:=by
 refine aF (t:=a65 s f a b) (P:=fun r=>r=aO2 s f a b) ?_
 obtain⟨h1,h2⟩:=bLD ha hb;unfold a65;simp only[aQ,aJ,h1,h2,b1E ha hb,Bool.and_true,true_and];unfold JH;rw[bCB]
theorem aXJ{s v:Int}(hs:s=1∨s=2)(h0:0≤v)(h1:v<bS s):eW v (cF (cX 8 s) 1)=bif geI v (bS s/2)then 1 else 0:=by
 rcases hs with rfl|rfl
 ·rw[show cF (cX 8 1) 1=7 from by decide,kQ (n:=7) 7 rfl (by omega)]
  have h1:v<256:=h1;show v/128=bif geI v 128 then 1 else 0
  cases h:geI v 128
  ·rw[aWJ]at h;rw[cond_false];omega
  ·rw[PT]at h;rw[cond_true];omega
 ·rw[show cF (cX 8 2) 1=15 from by decide,kQ (n:=15) 15 rfl (by omega)]
  have h1:v<65536:=h1;show v/32768=bif geI v 32768 then 1 else 0
  cases h:geI v 32768
  ·rw[aWJ]at h;rw[cond_false];omega
  ·rw[PT]at h;rw[cond_true];omega
theorem k8{p:Int→Prop}{k:Int}(h:cA k 0 7=true)(f: ∀n:Fin 8,p (n.val:Int)):p k:=by
 rw[aM]at h;obtain⟨n,rfl⟩:=Int.eq_ofNat_of_zero_le h.1;exact f ⟨n,by omega⟩
theorem b1F{k:Int}(h:cA k 0 7=true):bHZ k=true∧aZN k=eqI (aZ k 1) 0:=by
 refine aF (t:=a7C k) (P:=fun r=>r=eqI (aZ k 1) 0) ?_
 unfold a7C;simp only[aQ,aJ,true_and];exact k8 (p:=fun k=>eqI (kD k 2) 0=eqI (aZ k 1) 0) h (by decide+kernel)
theorem bC0(k:Int):a91 k=eqI (aZ k 1) 0:=by
 refine(aF (t:=aOH k) (P:=fun r=>r=eqI (aZ k 1) 0) ?_).2
 unfold aOH;simp only[aQ,aJ,true_and]
theorem bLE{c x v z:Int}(hc:WD c)(hx:x=0∨x=16)(hv:v=0∨v=2)(hz:z=0∨z=4∨z=8∨z=12):eT (eT (eT c x) v) z=eT (eT (eT c z) v) x:=by
 rcases hc with rfl|rfl<;>rcases hx with rfl|rfl<;>rcases hv with rfl|rfl<;>rcases hz with rfl|rfl|rfl|rfl<;>decide+kernel
theorem cDL{k s f v c:Int}(hs:s=1∨s=2)(hv0:0≤v)(hv1:v<bS s)(hk:cA k 0 7=true)(hf:cA f 0 31=true):bQI k s f v c=true∧bQH k s f v c=bif eqI k 1 then(bif geI v (bS s/2)then 1 else 0)else(bif (bif eqI k 4 then eqI k 4 else eqI k 5)then c else(bif (bif eqI k 6 then eqI k 6 else eqI k 7)then(bif cU (aZ f 16) 0 then 1 else 0)else 0)):=by
 refine aF (t:=a7E k s f v c) (P:=fun r=>r=bif eqI k 1 then(bif geI v (bS s/2)then 1 else 0)else(bif (bif eqI k 4 then eqI k 4 else eqI k 5)then c else(bif (bif eqI k 6 then eqI k 6 else eqI k 7)then(bif cU (aZ f 16) 0 then 1 else 0)else 0))) ?_
 have e:lZ f 16=bif cU (aZ f 16) 0 then 1 else 0:=rR (p:=fun f=>lZ f 16=bif cU (aZ f 16) 0 then 1 else 0) hf (by decide+kernel)
 have z:leI 0 (cF (cX 8 s) 1)=true:=by rcases hs with rfl|rfl<;>decide
 unfold a7E;simp only[aQ,cB,aJ,aXJ hs hv0 hv1,e,z,Bool.and_true,true_and];refine⟨fun q=>by rw[q];rfl,fun q=>?_⟩
 rw[q];refine⟨fun q=>by rw[q];rfl,fun q=>?_⟩
 rw[q];exact⟨fun q=>by rw[q];rfl,fun q=>by rw[q];rfl⟩
end Go.Proofs.YtdicpjkdpliofaaGreatBoundaries

namespace Go.Proofs.YtdicpjkdpliofaaGreatBoundaries
open Go Go.Zq
set_option maxHeartbeats 4000000
set_option maxRecDepth 100000
theorem bVG{s x:Int}(hs:s=1∨s=2)(h:WD x):nL x (cF (cX 8 s) 1)=cX x (bS s/2):=by
 rcases hs with rfl|rfl<;>rcases h with rfl|rfl<;>decide
theorem b1G{k s f v:Int}(hs:s=1∨s=2)(hv:dA s v=true)(hf:cA f 0 31=true)(hk:cA k 0 7=true):bQK k s f v=true∧bQJ k s f v=PJ k s f v:=by
 have lv:=kE hs hv;obtain⟨-,v0,v1⟩:=qC hv;obtain⟨l1,l2⟩:=b1F hk;have sp:=aE1 (k:=k) hs hv hf;have b2:I5 s v=bif geI v (bS s/2)then 1 else 0:=by
  unfold I5;rw[(fH _ _).2,(kY hs).2,aPL hs]
 have b3:mJ k s v=bif eqI (aZ k 1) 0 then(bif geI v (bS s/2)then 1 else 0)else aZ v 1:=by
  unfold mJ;rw[bC0,b2]
 have c3:WD (mJ k s v):=by
  rw[b3];exact EH (rS _) aWV
 have a0:M6 k s v=mJ k s v:=by
  unfold M6;rw[l2,aXJ hs v0 v1,b3]
 obtain⟨m1,m2⟩:=cDL (c:=mJ k s v) hs v0 v1 hk hf;have b4:D5 k s f v=aCT k s f v:=by
  unfold D5 aCT aOJ aOI;rw[a0,m2,b2,(fH _ _).2]
 have c4:WD (D5 k s f v):=by
  unfold D5;rw[b2,(fH _ _).2];exact EH (rS _) (EH c3 (EH (rS _) (Or.inl rfl)))
 have hm:cF (cX 2 (lZ (bS s) 2)) 1=cF (bS s) 1:=by rcases hs with rfl|rfl<;>decide
 have b5:M7 k s f v=pD k s f v:=by
  unfold M7 pD;rw[l2,bC0,←b4,(iH hs).2,(kY hs).2,hm,bVG hs c4,aPL hs]
 obtain⟨sp1,sp2,-⟩:=sp;have w5:PJ k s f v=(pD k s f v,(PJ k s f v).2)∧(PJ k s f v).2=eT (I6 k s f v) (bif (bif eqI k 4 then true else eqI k 5)then aZ f 16 else cX (mJ k s v) 16):=by
  refine(aF (t:=aOM k s f v) (P:=fun r=>r=(pD k s f v,r.2)∧r.2=eT (I6 k s f v) (bif (bif eqI k 4 then true else eqI k 5)then aZ f 16 else cX (mJ k s v) 16)) ?_).2
  unfold aOM;simp only[bG,(kY hs).1,(fH _ _).1,bB8,(GG hs).1,dW];exact⟨fun q=>by rw[q];rfl,fun q=>by rw[q];rfl⟩
 have v5:dA s (pD k s f v)=true:=by rw[w5.1]at sp2;exact sp2
 obtain⟨-,u0,u1⟩:=qC v5;have t5:=aXJ hs u0 u1;have tv:=aXJ hs v0 v1;have z7:leI 0 (cF (cX 8 s) 1)=true:=by rcases hs with rfl|rfl<;>decide
 refine aF (t:=a7F k s f v) (P:=fun r=>r=PJ k s f v) ?_
 rw[w5.1,w5.2];unfold a7F aMT;simp only[bG,a0,b5,l1,l2,m1,z7,(iH hs).1,(zL _ _).1,(zL _ _).2,(a0D hs).1,(a0D hs).2,dW];refine Prod.ext rfl ?_;show eT (eT (eT (cX (mJ k s v) 1) (bif (bif eqI k 4 then true else eqI k 5)then aZ f 16 else cX (mJ k s v) 16)) _) _=_
 unfold I6 aOL aOK;rw[(GG hs).2,(fH _ _).2,(fH _ _).2,(kY hs).2,aPL hs,b2,t5,tv];have mc:cX (mJ k s v) 1=mJ k s v:=by rcases c3 with h|h<;>rw[h]<;>decide
 have hx:(bif (bif eqI k 4 then true else eqI k 5)then aZ f 16 else cX (mJ k s v) 16)=0∨(bif (bif eqI k 4 then true else eqI k 5)then aZ f 16 else cX (mJ k s v) 16)=16:=by
  cases(bif eqI k 4 then true else eqI k 5)
  ·rw[cond_false];rcases c3 with h|h<;>rw[h]<;>decide
  ·exact bB6 hf
 rw[mc];have sym:cU (bif geI (pD k s f v) (bS s/2)then 1 else 0) (bif geI v (bS s/2)then 1 else 0)=cU (bif geI v (bS s/2)then 1 else 0) (bif geI (pD k s f v) (bS s/2)then 1 else 0):=by
  cases geI (pD k s f v) (bS s/2)<;>cases geI v (bS s/2)<;>rfl
 rw[sym];generalize (bif eqI k 0 then cU (bif geI v (bS s/2)then 1 else 0) (bif geI (pD k s f v) (bS s/2)then 1 else 0)else false)=V
 have hv2:(bif V then(2:Int)else 0)=0∨(bif V then(2:Int)else 0)=2:=by cases V<;>simp
 have hz: ∀a b:Bool,eT (bif a then 4 else 0) (bif b then 8 else 0)=0∨eT (bif a then 4 else 0) (bif b then 8 else 0)=4∨eT (bif a then 4 else 0) (bif b then 8 else 0)=8∨eT (bif a then 4 else 0) (bif b then 8 else 0)=12:=by
  intro a b;cases a<;>cases b<;>decide
 exact bLE c3 hx hv2 (hz _ _)
noncomputable def V3(k s:Int):Nat→Int→Int→Int→Int×Int×Int
 |0,f,v,a=>(f,v,a)
 |n+1,f,v,a=>V3 k s n (PJ k s f v).2 (PJ k s f v).1 (eT a (aZ (PJ k s f v).2 2))
theorem b1H{k s f v:Int}{n:Nat}(hs:s=1∨s=2)(hv:dA s v=true)(hf:cA f 0 31=true)(hn:n≤100):VA (V252_0.mk k s f v (n:Int) 0)=true∧(BM (V252_0.mk k s f v (n:Int) 0)).s2=(V3 k s n f v 0).1∧(BM (V252_0.mk k s f v (n:Int) 0)).s3=(V3 k s n f v 0).2.1∧(BM (V252_0.mk k s f v (n:Int) 0)).s13=(V3 k s n f v 0).2.2:=by
 unfold VA BM;refine gP (Post:=fun w:V252_0=>w.s2=(V3 k s n f v 0).1∧w.s3=(V3 k s n f v 0).2.1∧w.s13=(V3 k s n f v 0).2.2) (eC (fun(m:Nat) (w:V252_0)=>w.s0=k∧w.s1=s∧w.s4=(m:Int)∧m≤100∧dA s w.s3=true∧cA w.s2 0 31=true∧V3 k s m w.s2 w.s3 w.s13=V3 k s n f v 0) _ ?_ 9223372036854775808 n _ ⟨rfl,rfl,rfl,hn,hv,hf,rfl⟩ (by omega))
 rintro m w ⟨e0,e1,e2,e3,e4,e5,e6⟩
 obtain⟨o1,o2,o3⟩:=aE1 (k:=k) hs e4 e5;unfold I7;simp only[aQ,cB,aJ,wT,e0,e1,e2,o1,nG,G2,Bool.and_true,true_and];refine⟨fun q=>⟨m-1,by omega,?_,by omega,o2,o3,?_⟩,fun q=>?_⟩
 ·rw[eK (by omega)];omega
 ·obtain⟨p,rfl⟩: ∃p,m=p+1:=⟨m-1,by omega⟩
  rw[←e6];rfl
 ·obtain rfl:m=0:=by omega
  rw[←e6];exact⟨rfl,rfl,rfl⟩
theorem b1I{k s f v:Int}{n:Nat}(hs:s=1∨s=2)(hv:dA s v=true)(hf:cA f 0 31=true)(hk:cA k 0 7=true)(hn:n≤100):aMU (V286_0.mk k s f v (n:Int) 0)=true∧((TW (V286_0.mk k s f v (n:Int) 0)).s2=(V3 k s n f v 0).1∧(TW (V286_0.mk k s f v (n:Int) 0)).s3=(V3 k s n f v 0).2.1∧(TW (V286_0.mk k s f v (n:Int) 0)).s14=(V3 k s n f v 0).2.2):=by
 unfold aMU TW;refine gP (Post:=fun w:V286_0=>w.s2=(V3 k s n f v 0).1∧w.s3=(V3 k s n f v 0).2.1∧w.s14=(V3 k s n f v 0).2.2) (eC (fun(m:Nat) (w:V286_0)=>w.s0=k∧w.s1=s∧w.s4=(m:Int)∧m≤100∧dA s w.s3=true∧cA w.s2 0 31=true∧V3 k s m w.s2 w.s3 w.s14=V3 k s n f v 0) _ ?_ 9223372036854775808 n _ ⟨rfl,rfl,rfl,hn,hv,hf,rfl⟩ (by omega))
 rintro m w ⟨e0,e1,e2,e3,e4,e5,e6⟩
 obtain⟨-,o2,o3⟩:=aE1 (k:=k) hs e4 e5;obtain⟨o1,o4⟩:=b1G hs e4 e5 hk;unfold M8;simp only[aQ,cB,aJ,BH,e0,e1,e2,o1,o4,nG,G2,Bool.and_true,true_and];refine⟨fun q=>⟨m-1,by omega,?_,by omega,o2,o3,?_⟩,fun q=>?_⟩
 ·rw[eK (by omega)];omega
 ·obtain⟨p,rfl⟩: ∃p,m=p+1:=⟨m-1,by omega⟩
  rw[←e6];rfl
 ·obtain rfl:m=0:=by omega
  rw[←e6];exact⟨rfl,rfl,rfl⟩
theorem byJ{k s f v c:Int}(hs:s=1∨s=2)(hv:dA s v=true)(hf:cA f 0 31=true)(hk:cA k 0 7=true)(h0:1≤c)(h1:c≤100):bQM k s f v c=true∧bQL k s f v c=aG5 k s f v c:=by
 obtain⟨n,rfl⟩:=Int.eq_ofNat_of_zero_le (show 0≤c by omega)
 have hc:eqI (n:Int) 0=false:=by rw[hJ];omega
 obtain⟨ik,a1,a2,a3⟩:=b1H (k:=k) hs hv hf (n:=n) (by omega)
 obtain⟨b0,b1,b2,b3⟩:=b1I hs hv hf hk (n:=n) (by omega)
 have e:aG5 k s f v (n:Int)=((V3 k s n f v 0).2.1,eT (V3 k s n f v 0).1 (V3 k s n f v 0).2.2):=by
  refine(aF (t:=aON k s f v (n:Int)) (P:=fun r=>r=((V3 k s n f v 0).2.1,eT (V3 k s n f v 0).1 (V3 k s n f v 0).2.2)) ?_).2
  unfold aON;simp only[bG,VB,aED,(GG hs).1,(fH _ _).1,hc,ik,a1,a2,a3,dW,Bool.false_eq_true,false_implies,implies_true]
 refine aF (t:=a7G k s f v (n:Int)) (P:=fun r=>r=aG5 k s f v (n:Int)) ?_
 unfold a7G;simp only[bG,aCX,aMV,hc,b0,b1,b2,b3,e,dW,Bool.false_eq_true,false_implies,implies_true]
end Go.Proofs.YtdicpjkdpliofaaGreatBoundaries

namespace Go.Proofs.YtdicpjkdpliofaaGreatBoundaries
open Go Go.Zq
set_option maxHeartbeats 4000000
set_option maxRecDepth 100000
theorem bUJ{c:Int}(h:cA c 0 31=true):kD c 2=aZ c 1:=rR (p:=fun c=>kD c 2=aZ c 1) h (by decide+kernel)
theorem bVH(c f:Int):a92 c f=bif eqI c 2 then eqI (aZ f 5) 0 else bif eqI c 4 then eqI (aZ f 1) 0 else bif eqI c 6 then eqI (aZ f 4) 0 else bif eqI c 8 then eqI (aZ f 2) 0 else bif eqI c 10 then eqI (aZ f 8) 0 else bif eqI c 12 then yF (cU (aZ f 8) 0) (cU (aZ f 2) 0)else bif eqI c 14 then(bif yF (cU (aZ f 8) 0) (cU (aZ f 2) 0)then eqI (aZ f 4) 0 else false)else true:=by
 refine(aF (t:=aOP c f) (P:=fun r=>r=bif eqI c 2 then eqI (aZ f 5) 0 else bif eqI c 4 then eqI (aZ f 1) 0 else bif eqI c 6 then eqI (aZ f 4) 0 else bif eqI c 8 then eqI (aZ f 2) 0 else bif eqI c 10 then eqI (aZ f 8) 0 else bif eqI c 12 then yF (cU (aZ f 8) 0) (cU (aZ f 2) 0)else bif eqI c 14 then(bif yF (cU (aZ f 8) 0) (cU (aZ f 2) 0)then eqI (aZ f 4) 0 else false)else true) ?_).2
 unfold aOP;simp only[aQ,cB,aJ,aOO,true_and];refine⟨fun q=>by rw[q];rfl,fun q=>?_⟩
 rw[q];refine⟨fun q=>by rw[q];rfl,fun q=>?_⟩
 rw[q];refine⟨fun q=>by rw[q];rfl,fun q=>?_⟩
 rw[q];refine⟨fun q=>by rw[q];rfl,fun q=>?_⟩
 rw[q];refine⟨fun q=>by rw[q];rfl,fun q=>?_⟩
 rw[q];refine⟨fun q=>by rw[q];rfl,fun q=>?_⟩
 rw[q];exact⟨fun q=>by rw[q];rfl,fun q=>by rw[q];rfl⟩
theorem bVI(c f:Int):aOR c f=yF (a92 (fX c 1) f) (eqI (aZ c 1) 0):=by
 refine(aF (t:=aOQ c f) (P:=fun r=>r=yF (a92 (fX c 1) f) (eqI (aZ c 1) 0)) ?_).2
 unfold aOQ;simp only[aQ,aJ,bB9,Bool.and_true,true_and]
theorem b1J(a f:Int):PI a f=true∧M9 a f=cU (aZ f a) 0:=by
 refine aF (t:=a7H a f) (P:=fun r=>r=cU (aZ f a) 0) ?_
 unfold a7H;simp only[aQ,aJ,true_and]
theorem bLF(x y:Int):(!(cU x y))=eqI x y:=by
 cases h:eqI x y
 ·rw[hJ]at h;have:cU x y=true:=by rw[nF];exact h
  rw[this];rfl
 ·rw[dL]at h;have:cU x y=false:=by rw[O1];exact h
  rw[this];rfl
theorem b1K{c f:Int}(hc:cA c 0 31=true):bQQ c f=true∧bQP c f=aOR c f:=by
 refine aF (t:=a7I c f) (P:=fun r=>r=aOR c f) ?_
 rw[bVI,bVH];have hr:=bUJ hc;unfold a7I;simp only[bG,(b1J _ _).1,(b1J _ _).2,hr,bLF,dW];refine⟨fun q=>by rw[q];rfl,fun q=>?_⟩
 rw[q];refine⟨fun q=>by rw[q];rfl,fun q=>?_⟩
 rw[q];refine⟨fun q=>by rw[q];rfl,fun q=>?_⟩
 rw[q];refine⟨fun q=>by rw[q];rfl,fun q=>?_⟩
 rw[q];refine⟨fun q=>by rw[q];rfl,fun q=>?_⟩
 rw[q];refine⟨fun q=>by rw[q];rfl,fun q=>?_⟩
 rw[q];refine⟨fun q=>?_,fun q=>by rw[q];rfl⟩
 rw[q,cond_true,cond_false,cond_false,cond_false,cond_false,cond_false,cond_false];cases eqI (aZ f 4) 0<;>cases yF (cU (aZ f 8) 0) (cU (aZ f 2) 0)<;>rfl
end Go.Proofs.YtdicpjkdpliofaaGreatBoundaries

namespace Go.Proofs.YtdicpjkdpliofaaGreatBoundaries
open Bool renaming and_true → qt
open Go Go.Zq
set_option maxHeartbeats 4000000
set_option maxRecDepth 100000
theorem aFG{v:Int}(h:cA v 0 255=true):a7P v=true∧bQX v=i5 v:=by
 refine aF (t:=a7O v) (P:=fun q=>q=i5 v) ?_
 have e1:eW v 4=v/16:=kQ (n:=4) 4 rfl (by omega)
 have e2:aZ v 15=v%16:=iZ 4 _ (by omega) (by decide)
 rw[(Y7 v).2,e1,e2,h];unfold a7O;simp only[aQ,aJ,iV,iU,e2,qt,true_and];rw[aM]at h;cases h1:cA v 0 153<;>cases h2:leI (v/16) 9<;>cases h3:leI (v%16) 9<;>try rfl
 ·rw[gZ]at h2 h3;have:cA v 0 153=true:=aM.2 (by omega)
  rw[h1]at this;cases this
 ·rw[YW]at h2;rw[aM]at h1;omega
theorem aXK{c a b:Int}(hc:WD c)(ha:cA a 0 255=true)(hb:cA b 0 255=true):bIA c [aL a,aL b]=true∧bH9 c [aL a,aL b]=(i5 a&&i5 b):=by
 refine aF (t:=a7R c [aL a,aL b]) (P:=fun q=>q=(i5 a&&i5 b)) ?_
 have hc1:cA c 0 1=true:=by rcases hc with rfl|rfl<;>decide
 have L:aM0 (V358_0.mk c (ri [a,b]) 2 0)=true∧((TZ (V358_0.mk c (ri [a,b]) 2 0)).s0=c∧ltI (TZ (V358_0.mk c (ri [a,b]) 2 0)).s9 (TZ (V358_0.mk c (ri [a,b]) 2 0)).s8=!(i5 a&&i5 b)):=by
  unfold aM0 TZ;refine gP (Post:=fun w:V358_0=>w.s0=c∧ltI w.s9 w.s8=!(i5 a&&i5 b)) (eC (fun(m:Nat) (w:V358_0)=>w.s0=c∧w.s7=ri [a,b]∧w.s8=2∧w.s9=((2-m:Nat):Int)∧m≤2∧(m≤1→i5 a=true)∧(m=0→i5 b=true)) _ ?_ 9223372036854775808 2 _ ⟨rfl,rfl,rfl,rfl,by omega,by omega,by omega⟩ (by omega))
  rintro m w ⟨e0,e1,e2,e3,e4,e5,e6⟩
  have ka:a7P a=true:=(aFG ha).1;have kb:a7P b=true:=(aFG hb).1;have ga:=(aFG ha).2;have gb:=(aFG hb).2;unfold NF;have hm:m=2∨m=1∨m=0:=by omega
  rcases hm with rfl|rfl|rfl
  ·have g0:bF (ri [a,b]) (Int.toNat ((2-2:Nat):Int)) 0=a:=rfl;have g1:fU [.int .i64] (ri [a,b]) ((2-2:Nat):Int)=true:=rN (zs:=[a,b]) (by simp only[List.length_cons,List.length_nil];omega)
   have l:ltI ((2-2:Nat):Int) 2=true:=rfl;simp only[bG,e0,e1,e2,e3,l,g0,g1,ka,ga,bX];refine⟨fun q=>?_,fun q=>⟨1,by omega,?_⟩⟩
   rotate_left
   ·have q:i5 a=true:=by simpa using q
    exact⟨by decide,by omega,fun _=>q,by omega⟩
   have q:i5 a=false:=by simpa using q
   rw[q];rfl
  ·have g0:bF (ri [a,b]) (Int.toNat ((2-1:Nat):Int)) 0=b:=rfl;have g1:fU [.int .i64] (ri [a,b]) ((2-1:Nat):Int)=true:=rN (zs:=[a,b]) (by simp only[List.length_cons,List.length_nil];omega)
   have l:ltI ((2-1:Nat):Int) 2=true:=rfl;simp only[bG,e0,e1,e2,e3,l,g0,g1,kb,gb,bX];refine⟨fun q=>?_,fun q=>⟨0,by omega,?_⟩⟩
   rotate_left
   ·have q:i5 b=true:=by simpa using q
    exact⟨by decide,by omega,fun _=>e5 (by omega),fun _=>q⟩
   have q:i5 b=false:=by simpa using q
   rw[q,Bool.and_false];rfl
  ·have l:ltI ((2-0:Nat):Int) 2=false:=rfl;simp only[bG,e0,e1,e2,e3,l,e5 (by omega),e6 rfl,bX]
   try rfl
 obtain⟨L1,L2,L3⟩:=L;have ei:bN (ri [a,b])=2:=rfl;have er:[aL a,aL b]=ri [a,b]:=rfl;unfold a7R;simp only[aQ,cB,aJ,UA,ei,er,L1,L2,L3,(bMR _).1,(bMR _).2,hc1,qt,true_and];cases i5 a&&i5 b<;>simp
theorem bLG{v:Int}(h:Bcd v):aZS v=true∧WU v=v/16*10+v%16:=by
 refine aF (t:=a7S v) (P:=fun q=>q=v/16*10+v%16) ?_
 have e1:eW v 4=v/16:=kQ (n:=4) 4 rfl (by omega)
 have e2:aZ v 15=v%16:=iZ 4 _ (by omega) (by decide)
 obtain⟨h1,h2,h3,h4⟩:=h;unfold a7S;simp only[aQ,aJ,e1,e2,show leI 0 4=true from rfl,qt,true_and]
 rw[gH (by omega),bJ (by omega)]
theorem cDM(n:Int):tP n=eT (nL (lZ n 10) 4) (kD n 10):=by
 refine(aF (t:=aOW n) (P:=fun q=>q=eT (nL (lZ n 10) 4) (kD n 10)) ?_).2
 unfold aOW;simp only[aQ,aJ,show cU 10 0=true from rfl,show leI 0 4=true from rfl,qt,true_and]
theorem ofJ(n:Int):bIC n=true∧bIB n=tP n:=by
 refine aF (t:=a7T n) (P:=fun q=>q=tP n) ?_
 rw[cDM];unfold a7T;simp only[aQ,aJ,show cU 10 0=true from rfl,show leI 0 4=true from rfl,qt,true_and]
theorem b1L{n:Int}(h0: -100≤n)(h1:n≤199):bIE n=true∧bID n=bif cA n 0 99 then(tP n,0)else(tP ((n+100)%100),1):=by
 refine aF (t:=a7U n) (P:=fun q=>q=bif cA n 0 99 then(tP n,0)else(tP ((n+100)%100),1)) ?_
 have e:kD (aV n 100) 100=(n+100)%100:=by
  rw[bJ (by omega)];unfold kD;exact Int.tmod_eq_emod_of_nonneg (by omega)
 unfold a7U;simp only[aQ,cB,aJ,iV,iU,(ofJ _).1,(ofJ _).2,e,show cU 100 0=true from rfl,qt,true_and]
 exact⟨fun q=>by rw[q];rfl,fun q=>by rw[q];rfl⟩
theorem b1M{c a b:Int}(hc:WD c)(ha:cA a 0 255=true)(hb:cA b 0 255=true):bQ3 c a b=true∧bQ2 c a b=bif i5 a&&i5 b then((PK c a b).1,(PK c a b).2,true)else(0,0,false):=by
 refine aF (t:=a7V c a b) (P:=fun q=>q=bif i5 a&&i5 b then((PK c a b).1,(PK c a b).2,true)else(0,0,false)) ?_
 obtain⟨r1,r2⟩:=aXK hc ha hb;unfold a7V;simp only[aQ,cB,aJ,r1,r2,qt,true_and];refine⟨fun q=>by rw[G5 q,cond_false],fun q=>?_⟩
 have q:(i5 a&&i5 b)=true:=G6 q;rw[q,cond_true];rw[Bool.and_eq_true]at q;obtain⟨a1,a2⟩:=bLG (kU q.1);obtain⟨b1,b2⟩:=bLG (kU q.2);obtain⟨c1,c2⟩:=O4 (kU q.1);obtain⟨d1,d2⟩:=O4 (kU q.2);obtain⟨h1,h2,h3,h4⟩:=kU q.1;obtain⟨h5,h6,h7,h8⟩:=kU q.2;have hc':0≤c∧c≤1:=by rcases hc with rfl|rfl<;>decide
 have e1:aV (aV (a/16*10+a%16) (b/16*10+b%16)) c=a/16*10+a%16+(b/16*10+b%16)+c:=by rw[bJ (x:=a/16*10+a%16) (by omega),bJ (by omega)]
 obtain⟨n,hn⟩: ∃n:Int,n=a/16*10+a%16+(b/16*10+b%16)+c:=⟨_,rfl⟩;rw[←hn]at e1;have n0:0≤n∧n≤199:=by omega
 have e2:kD n 100=n%100:=by unfold kD;exact Int.tmod_eq_emod_of_nonneg n0.1
 have e3:lZ n 100=n/100:=by unfold lZ;rw[Int.tdiv_eq_ediv_of_nonneg n0.1,IntKind.wrap_i64];omega
 have sp:PK c a b=(tP (n%100),n/100):=by
  refine(aF (t:=aOX c a b) (P:=fun q=>q=(tP (n%100),n/100)) ?_).2
  unfold aOX;simp only[aQ,aJ,aEE,c1,c2,d1,d2,e1,e2,e3,(aPO (n:=n%100) (by omega) (by omega)).1,show cU 100 0=true from rfl,qt,true_and]
 obtain⟨k1,k2⟩:=b1L (n:=n) (by omega) (by omega)
 have hh:(bif cA n 0 99 then(tP n,(0:Int))else(tP ((n+100)%100),1))=(tP (n%100),n/100):=by
  cases h:cA n 0 99
  ·have h':¬(0≤n∧n≤99):=fun z=>by rw[aM.2 z]at h;cases h
   rw[cond_false,show(n+100)%100=n%100 by omega,show n/100=1 by omega]
  ·rw[aM]at h;rw[cond_true,show n%100=n by omega,show n/100=0 by omega]
 simp only[aM1,a1,a2,b1,b2,e1,k1,k2,hh,sp,qt,true_and]
theorem b1N{c a b:Int}(hc:WD c)(ha:cA a 0 255=true)(hb:cA b 0 255=true):bQ5 c a b=true∧bQ4 c a b=bif i5 a&&i5 b then((PL c a b).1,(PL c a b).2,true)else(0,0,false):=by
 refine aF (t:=a7W c a b) (P:=fun q=>q=bif i5 a&&i5 b then((PL c a b).1,(PL c a b).2,true)else(0,0,false)) ?_
 obtain⟨r1,r2⟩:=aXK hc ha hb;unfold a7W;simp only[aQ,cB,aJ,r1,r2,qt,true_and];refine⟨fun q=>by rw[G5 q,cond_false],fun q=>?_⟩
 have q:(i5 a&&i5 b)=true:=G6 q;rw[q,cond_true];rw[Bool.and_eq_true]at q;obtain⟨a1,a2⟩:=bLG (kU q.1);obtain⟨b1,b2⟩:=bLG (kU q.2);obtain⟨c1,c2⟩:=O4 (kU q.1);obtain⟨d1,d2⟩:=O4 (kU q.2);obtain⟨h1,h2,h3,h4⟩:=kU q.1;obtain⟨h5,h6,h7,h8⟩:=kU q.2;have hc':0≤c∧c≤1:=by rcases hc with rfl|rfl<;>decide
 have e1:cF (cF (a/16*10+a%16) (b/16*10+b%16)) c=a/16*10+a%16-(b/16*10+b%16)-c:=by rw[eK (x:=a/16*10+a%16) (by omega),eK (by omega)]
 obtain⟨n,hn⟩: ∃n:Int,n=a/16*10+a%16-(b/16*10+b%16)-c:=⟨_,rfl⟩;rw[←hn]at e1;have n0: -100≤n∧n≤99:=by omega
 have e2:aV n 100=n+100:=bJ (by omega)
 have sp:PL c a b=bif ltI n 0 then(tP (n+100),1)else(tP n,0):=by
  refine(aF (t:=aOY c a b) (P:=fun q=>q=bif ltI n 0 then(tP (n+100),1)else(tP n,0)) ?_).2
  unfold aOY;simp only[aQ,cB,aJ,aEF,c1,c2,d1,d2,e1,e2,qt,true_and];refine⟨fun z=>?_,fun z=>?_⟩
  ·rw[z];rw[dM]at z;refine⟨?_,rfl⟩;by_cases hz:n+100≤99
   ·exact(aPO (n:=n+100) (by omega) hz).1
   ·exact(aPO (n:=n+100) (by omega) (by omega)).1
  ·rw[z];rw[mB]at z;exact⟨(aPO (n:=n) (by omega) (by omega)).1,rfl⟩
 obtain⟨k1,k2⟩:=b1L (n:=n) (by omega) (by omega)
 have hh:(bif cA n 0 99 then(tP n,(0:Int))else(tP ((n+100)%100),1))=bif ltI n 0 then(tP (n+100),1)else(tP n,0):=by
  cases h:ltI n 0
  ·rw[mB]at h;rw[aM.2 ⟨h,n0.2⟩,cond_true,cond_false]
  ·rw[dM]at h;have:cA n 0 99=false:=by
    cases hz:cA n 0 99
    ·rfl
    ·rw[aM]at hz;omega
   rw[this,cond_false,cond_true,show(n+100)%100=n+100 by omega]
 simp only[aM2,a1,a2,b1,b2,e1,k1,k2,hh,sp,qt,true_and]
end Go.Proofs.YtdicpjkdpliofaaGreatBoundaries

namespace Go.Proofs.YtdicpjkdpliofaaGreatBoundaries
open Go Go.Zq
set_option maxHeartbeats 4000000
set_option maxRecDepth 100000
def ff(pc w:Int):aH:=⟨0,pc,0,w,false⟩
def dG(x:aN)(pc w:Int)(f:aH):bD:=⟨x,pc,w,f⟩
def dF(m:MM):aH:=bif bY m then f0 else m.f
theorem o7(x:aN)(pc w:Int)(f:aH):(dG x pc w f).fx=x:=rfl
theorem pK(x:aN)(pc w:Int)(f:aH):(dG x pc w f).fpc=pc:=rfl
theorem pQ(x:aN)(pc w:Int)(f:aH):(dG x pc w f).fword=w:=rfl
theorem o8(x:aN)(pc w:Int)(f:aH):(dG x pc w f).ffault=f:=rfl
theorem cDN(x:aN)(pc w:Int)(f:aH):bD.mk x pc w f=dG x pc w f:=rfl
def V4(v p:Int)(f:aH)(w:Int):aH:=bif eqI f.Vector 0 then⟨v,p,0,w,false⟩else f
theorem tA(v p:Int)(x:aN)(pc w:Int)(f:aH)(c:aD):aL6 v p (dG x pc w f) c=true∧aL5 v p (dG x pc w f) c=dG x pc w (V4 v p f w):=by
 refine aF (t:=a6P v p (dG x pc w f) c) (P:=fun q=>q=dG x pc w (V4 v p f w)) ?_
 unfold a6P V4;simp only[bG,aL4,o7,pK,pQ,o8,dW,wz];exact⟨fun q=>by rw[q];rfl,fun q=>by rw[q];rfl⟩
theorem N7(c:Int):a54 c=true∧aY8 c=bif eqI c 2 then 3 else 2:=by
 refine aF (t:=a53 c) (P:=fun q=>q=bif eqI c 2 then 3 else 2) ?_
 unfold a53;simp only[aQ,cB,aJ,true_and];exact⟨fun q=>by rw[q];rfl,fun q=>by rw[q];rfl⟩
def aFH(code addr:Int)(wr:Bool)(f:aH)(pc w:Int):aH:=bif (bif eqI code 0 then true else cU f.Vector 0)then f else⟨bif eqI code 2 then 3 else 2,pc,addr,w,wr⟩
theorem qQ(code addr:Int)(wr:Bool)(x:aN)(pc w:Int)(f:aH)(c:aD):aZE code addr wr (dG x pc w f) c=true∧aZD code addr wr (dG x pc w f) c=dG x pc w (aFH code addr wr f pc w):=by
 refine aF (t:=a6T code addr wr (dG x pc w f) c) (P:=fun q=>q=dG x pc w (aFH code addr wr f pc w)) ?_
 unfold a6T aFH;simp only[bG,aMI,aMH,o7,pK,pQ,o8,(N7 _).1,(N7 _).2,(tA _ _ _ _ _ _ _).1,(tA _ _ _ _ _ _ _).2,dW,wz];refine⟨fun q=>by rw[q];rfl,fun q=>?_⟩
 rw[q];have hf:eqI f.Vector 0=true:=by
  cases h:eqI f.Vector 0
  ·have:cU f.Vector 0=true:=by rw[hJ]at h;exact nF.2 h
   rw[this]at q;cases h2:eqI code 0<;>rw[h2]at q<;>cases q
  ·rfl
 unfold V4;rw[hf];rfl
theorem N8{pc w:Int}{r:RM}{zs:List Int}{l:List aA}{s:Bool}(k sz a v:Int):dF (cM ⟨r,zs,l,s,ff pc w⟩ k sz a v).1=aFH (cQ k sz a) a (eqI k 2) f0 pc w:=by
 have hf:bY (cM ⟨r,zs,l,s,ff pc w⟩ k sz a v).1=eqI (cQ k sz a) 0:=jR rfl;unfold dF aFH;rw[hf];cases h:eqI (cQ k sz a) 0
 ·have hn:cU (cQ k sz a) 0=true:=by rw[hJ]at h;exact nF.2 h
  unfold cM;dsimp only;rw[hn];rfl
 ·rfl
theorem aXL{t:Int}{x:aN}{pc w a:Int}{r:RM}{zs:List Int}{l:List aA}{s h:Bool}(hr:r.Ok t)(hb:BusOk zs l)(hs:x.Size=1∨x.Size=2)(ha:cA a 0 65535=true):a6V a (dG x pc w f0) (bB r zs l s h)=true∧kT a (dG x pc w f0) (bB r zs l s h)=(dG x pc w (dF (cM ⟨r,zs,l,s,ff pc w⟩ 1 x.Size a 0).1),bB r (cM ⟨r,zs,l,s,ff pc w⟩ 1 x.Size a 0).1.zs (cM ⟨r,zs,l,s,ff pc w⟩ 1 x.Size a 0).1.l s h,(cM ⟨r,zs,l,s,ff pc w⟩ 1 x.Size a 0).2):=by
 refine aF (t:=a6U a (dG x pc w f0) (bB r zs l s h)) (P:=fun q=>q=(dG x pc w (dF (cM ⟨r,zs,l,s,ff pc w⟩ 1 x.Size a 0).1),bB r (cM ⟨r,zs,l,s,ff pc w⟩ 1 x.Size a 0).1.zs (cM ⟨r,zs,l,s,ff pc w⟩ 1 x.Size a 0).1.l s h,(cM ⟨r,zs,l,s,ff pc w⟩ 1 x.Size a 0).2)) ?_
 have hT:TouchOk x.Size 0 zs l:=⟨hs,LG hs,hb.hz,hb.hb,hb.hl⟩;obtain⟨a1,a2⟩:=GB (k:=1) (a:=a) hT ha (fun e=>rfl)
 have a1':IQ 1 x.Size a 0 (qV zs l)=true:=a1;have a2':K0 1 x.Size a 0 (qV zs l)=(qV (tB 1 x.Size a 0 zs) (tL 1 x.Size a 0 zs l),tV 1 x.Size a 0 zs,cQ 1 x.Size a):=a2;rw[N8];unfold a6U;simp only[bG,aCL,aCK,IV,o7,pK,pQ,o8,lW,nN,lX,kW,a1',a2',(qQ _ _ _ _ _ _ _ _).1,(qQ _ _ _ _ _ _ _ _).2,dW,wz];rfl
theorem bVJ{t:Int}{x:aN}{pc w a v:Int}{r:RM}{zs:List Int}{l:List aA}{s h:Bool}(hr:r.Ok t)(hb:BusOk zs l)(hs:x.Size=1∨x.Size=2)(ha:cA a 0 65535=true)(hv:dA x.Size v=true):bQE a v (dG x pc w f0) (bB r zs l s h)=true∧aZK a v (dG x pc w f0) (bB r zs l s h)=(dG x pc w (dF (cM ⟨r,zs,l,s,ff pc w⟩ 2 x.Size a v).1),bB r (cM ⟨r,zs,l,s,ff pc w⟩ 2 x.Size a v).1.zs (cM ⟨r,zs,l,s,ff pc w⟩ 2 x.Size a v).1.l s h):=by
 refine aF (t:=a68 a v (dG x pc w f0) (bB r zs l s h)) (P:=fun q=>q=(dG x pc w (dF (cM ⟨r,zs,l,s,ff pc w⟩ 2 x.Size a v).1),bB r (cM ⟨r,zs,l,s,ff pc w⟩ 2 x.Size a v).1.zs (cM ⟨r,zs,l,s,ff pc w⟩ 2 x.Size a v).1.l s h)) ?_
 have hT:TouchOk x.Size v zs l:=⟨hs,hv,hb.hz,hb.hb,hb.hl⟩;obtain⟨a1,a2⟩:=GB (k:=2) (a:=a) hT ha (fun e=>absurd e (by decide))
 have a1':IQ 2 x.Size a v (qV zs l)=true:=a1;have a2':K0 2 x.Size a v (qV zs l)=(qV (tB 2 x.Size a v zs) (tL 2 x.Size a v zs l),0,cQ 2 x.Size a):=a2;rw[N8];unfold a68;simp only[bG,aCS,aCR,M5,o7,pK,pQ,o8,lW,nN,lX,kW,a1',a2',(qQ _ _ _ _ _ _ _ _).1,(qQ _ _ _ _ _ _ _ _).2,dW,wz];rfl
theorem aH4{t:Int}{x:aN}{pc w k:Int}{f:aH}{r:RM}{zs:List Int}{l:List aA}{s h:Bool}(hr:r.Ok t)(hs:x.Size=1∨x.Size=2)(hk:cA k 0 3=true):aGY k (dG x pc w f) (bB r zs l s h)=true∧aGX k (dG x pc w f) (bB r zs l s h)=cP r.d k%bS x.Size:=by
 refine aF (t:=a6R k (dG x pc w f) (bB r zs l s h)) (P:=fun q=>q=cP r.d k%bS x.Size) ?_
 obtain⟨d1,d2,d3⟩:=jQ hr.d4 hk;obtain⟨s1,s2,s3,s4,s5⟩:=fV (v:=0) hr.d4 hk;rw[Nat.zero_add]at s5;unfold a6R;simp only[bG,o7,lW,eM,Nat.zero_add,aP,aY,d2,s3,s4,s5,(iH hs).1,(iH hs).2,mask hs,dW,wz]
theorem bLH{q:Int}(h0:0≤q)(h1:q≤65535):fX q 255=q/256*256:=by
 obtain⟨n,rfl⟩:=Int.eq_ofNat_of_zero_le h0;unfold fX;have e1:(BitVec.ofInt 64 (n:Int))&&& ~~~(BitVec.ofInt 64 255)=BitVec.ofNat 64 (n&&&18446744073709551360):=by
  apply BitVec.eq_of_toNat_eq;have hn:n<18446744073709551616:=by omega
  have ha:n&&&18446744073709551360<18446744073709551616:=Nat.lt_of_le_of_lt Nat.and_le_left hn;rw[BitVec.toNat_and,BitVec.toNat_not,BitVec.toNat_ofNat,BitVec.toNat_ofInt,BitVec.toNat_ofInt];rw[Nat.mod_eq_of_lt ha]
  congr 1
  omega
 rw[e1];have e2:n&&&18446744073709551360=n/256*256:=by
  have:n&&&18446744073709551360=(n/256&&&72057594037927935)*256:=by
   apply Nat.eq_of_testBit_eq;intro i;rw[show(n/256&&&72057594037927935)*256=(n/2^8&&&72057594037927935)<<<8 from by rw[Nat.shiftLeft_eq]]
   rw[Nat.testBit_shiftLeft,Nat.testBit_and,Nat.testBit_and,Nat.testBit_div_two_pow];by_cases hi:8≤i
   ·have:(18446744073709551360:Nat)=72057594037927935<<<8:=by decide
    rw[this,Nat.testBit_shiftLeft];simp[hi]
   ·have:(18446744073709551360:Nat)=72057594037927935<<<8:=by decide
    rw[this,Nat.testBit_shiftLeft];simp[hi]
  rw[this];have:n/256&&&72057594037927935=n/256%72057594037927936:=Nat.and_two_pow_sub_one_eq_mod (n:=56) (n/256);rw[this];omega
 rw[e2,BitVec.toNat_ofNat,IntKind.wrap_i64];omega
theorem bC1(a b:Int):eT a b=eT b a:=by
 unfold eT;rw[BitVec.or_comm]
theorem bVK{q v:Int}(h0:0≤q)(h1:q≤65535)(h2:0≤v)(h3:v<256):eT v (fX q 255)=q%65536/256*256+v:=by
 rw[bLH h0 h1,bC1,VF (by omega) (by omega) h2 h3]
 omega
theorem bLI{l:List Int}{i v:Int}(hl:l.length=4)(hi:cA i 0 3=true):cP (l.set i.toNat v) i=v:=by
 obtain⟨-,-,hn⟩:=jQ hl hi;unfold cP;rw[sZ (by rw[List.length_set];exact hn)]
 simp
theorem bVL{s k:Int}(hs:s=1∨s=2):(bif eqI k 3 then 2 else s)=Y2 s k:=by
 unfold Y2;rcases hs with rfl|rfl
 ·cases h:eqI k 3
  ·have:cU k 3=true:=by rw[hJ]at h;exact nF.2 h
   rw[this];rfl
  ·have:cU k 3=false:=by rw[dL]at h;exact O1.2 h
   rw[this];rfl
 ·cases eqI k 3<;>rfl
theorem V5{t s:Int}{r:RM}{o:aC}(hr:r.Ok t)(hs:s=1∨s=2)(ho:OpOk o)(hm:2≤o.Mode∧o.Mode≤6):aMG s o r.g=true∧aMF s o r.g=((bM r s o).1.g,(bM r s o).2):=by
 refine aF (t:=a6S s o r.g) (P:=fun q=>q=((bM r s o).1.g,(bM r s o).2)) ?_
 obtain⟨d1,d2,d3⟩:=jQ hr.a4 ho.hr;obtain⟨s1,s2,s3,s4,s5⟩:=fV (v:=0) hr.a4 ho.hr;rw[Nat.zero_add]at s1 s2 s5;obtain⟨q1,q2⟩:=oE hr.aw hr.a4 ho.hr;have hb:=bB5 s o.Reg;have he:=aM.1 ho.he;have e1:aZ (aV (cP r.a o.Reg) (Y2 s o.Reg)) 65535=(cP r.a o.Reg+Y2 s o.Reg)%65536:=by rw[bJ (by omega),tQ]
 have e2:aZ (cF (cP r.a o.Reg) (Y2 s o.Reg)) 65535=(cP r.a o.Reg-Y2 s o.Reg)%65536:=by rw[eK (by omega),tQ]
 have e3:aZ (aV (cP r.a o.Reg) o.Ext) 65535=(cP r.a o.Reg+o.Ext)%65536:=by rw[bJ (by omega),tQ]
 have l4:(r.a.set o.Reg.toNat ((cP r.a o.Reg-Y2 s o.Reg)%65536)).length=4:=by rw[List.length_set];exact hr.a4
 obtain⟨-,x2,-⟩:=jQ l4 ho.hr;obtain⟨-,-,-,-,x5⟩:=fV (v:=0) l4 ho.hr;rw[Nat.zero_add]at x5;rw[bLI hr.a4 ho.hr]at x2;unfold a6S bM;simp only[bG,aME,TR,aMD,aMC,aMB,aCJ,aCI,aMA,TQ,eM,eN,aP,aY,Nat.zero_add,bVL hs,d2,s1,s2,s3,s4,s5,e1,e2,e3,dT,x2,x5,List.length_set,dW,wz];refine⟨fun q=>?_,fun q=>?_⟩
 ·rw[dL]at q;rw[q];rfl
 refine⟨fun q=>by rw[q];rfl,fun q2=>?_⟩
 rw[q2];refine⟨fun q=>by rw[q];rfl,fun q3=>?_⟩
 rw[q3];refine⟨fun q=>by rw[q];rfl,fun q4=>?_⟩
 have:eqI o.Mode 6=true:=by
  rw[hJ]at q q2 q3 q4;rw[dL];omega
 rw[q4,this];rfl
theorem bC2{s k v:Int}{r:RM}(h:r.Ok 65535)(hs:s=1∨s=2)(hk:cA k 0 3=true)(hv:s=1→0≤v∧v<256):aCO s k v r.g=true∧aCN s k v r.g=(zM r s k v).g:=by
 refine aF (t:=a6X s k v r.g) (P:=fun q=>q=(zM r s k v).g) ?_
 obtain⟨d1,d2,d3⟩:=jQ h.d4 hk;obtain⟨s1,s2,s3,s4,s5⟩:=fV (v:=0) h.d4 hk;rw[Nat.zero_add]at s1 s2 s5;have q:=oE h.dw h.d4 hk;have t1:=h.t1;have e:s=1→eT v (fX (cP r.d k) 255)=cP r.d k%65536/256*256+v:=fun e=>bVK q.1 (by omega) (hv e).1 (hv e).2
 unfold a6X zM;simp only[bG,aMK,aMJ,eM,eN,aP,aY,Nat.zero_add,d2,s1,s2,s3,s4,s5,dT,List.length_set,dW,wz];rcases hs with rfl|rfl
 ·rw[e rfl];rfl
 ·rfl
theorem N9{v:Int}{x:aN}{pc w:Int}{f:aH}{r:RM}{zs:List Int}{l:List aA}{s h:Bool}(hr:r.Ok 65535)(hs:x.Size=1∨x.Size=2):wI v (dG x pc w f) (bB r zs l s h)=true∧uA v (dG x pc w f) (bB r zs l s h)=bB {r with fl:=hU x.Size r.fl v} zs l s h:=by
 refine aF (t:=a60 v (dG x pc w f) (bB r zs l s h)) (P:=fun q=>q=bB {r with fl:=hU x.Size r.fl v} zs l s h) ?_
 unfold a60;simp only[bG,o7,lW,nN,lX,kW,eM,eN,aU,(bCZ hs).1,(bCZ hs).2,dW,wz];rfl
theorem toD{v:Int}{x:aN}{pc w:Int}{f:aH}{r:RM}{zs:List Int}{l:List aA}{s h:Bool}(hr:r.Ok 65535)(hs:x.Size=1∨x.Size=2)(hk:cA x.Reg 0 3=true)(hv:x.Size=1→0≤v∧v<256)(h0:0≤v)(h2:v≤65535):PG v (dG x pc w f) (bB r zs l s h)=true∧PF v (dG x pc w f) (bB r zs l s h)=bif cU f.Vector 0 then bB r zs l s h else bB (zM {r with fl:=hU x.Size r.fl v} x.Size x.Reg v) zs l s h:=by
 refine aF (t:=a61 v (dG x pc w f) (bB r zs l s h)) (P:=fun q=>q=bif cU f.Vector 0 then bB r zs l s h else bB (zM {r with fl:=hU x.Size r.fl v} x.Size x.Reg v) zs l s h) ?_
 obtain⟨p1,p2⟩:=bC2 hr hs hk hv;have hp:=N3 (s:=x.Size) hr hk h0 (fun e=>(hv e).2) h2
 obtain⟨g1,g2⟩:=N9 (v:=v) (pc:=pc) (w:=w) (f:=f) (zs:=zs) (l:=l) (s:=s) (h:=h) hp hs;have g1':wI v (dG x pc w f) (aD.mk (zM r x.Size x.Reg v).g (qV zs l) s h)=true:=g1;have g2':uA v (dG x pc w f) (aD.mk (zM r x.Size x.Reg v).g (qV zs l) s h)=_:=g2;unfold a61;simp only[bG,aCP,TS,o7,o8,lW,nN,lX,kW,p1,p2,g1',g2',dW,wz];exact⟨fun q=>by rw[q];rfl,fun q=>by rw[q];rfl⟩
end Go.Proofs.YtdicpjkdpliofaaGreatBoundaries

namespace Go.Proofs.YtdicpjkdpliofaaGreatBoundaries
open Go Go.Zq
set_option maxHeartbeats 4000000
set_option maxRecDepth 100000
def mq(r:RM)(zs:List Int)(l:List aA)(s:Bool)(pc w:Int):MM:=⟨r,zs,l,s,ff pc w⟩
theorem LO{r:RM}{zs:List Int}{l:List aA}{s:Bool}{pc w:Int}(hr:r.Ok 65535)(hb:BusOk zs l):(mq r zs l s pc w).Ok 65535:=⟨hr,hb⟩
def dR(x:aN)(pc w:Int)(h:Bool)(m:MM):bD×aD:=(dG x pc w (dF m),bB m.r m.zs m.l m.stop h)
theorem aPY{x:aN}{pc w:Int}{r:RM}{zs:List Int}{l:List aA}{s h:Bool}(hr:r.Ok 65535)(hb:BusOk zs l)(hs:x.Size=1∨x.Size=2)(ho:OpOk x.Ea):aZF (dG x pc w f0) (bB r zs l s h)=true∧cN (dG x pc w f0) (bB r zs l s h)=((dR x pc w h (dN (mq r zs l s pc w) x.Size x.Ea).1).1,(dR x pc w h (dN (mq r zs l s pc w) x.Size x.Ea).1).2,(dN (mq r zs l s pc w) x.Size x.Ea).2.1):=by
 refine aF (t:=a6W (dG x pc w f0) (bB r zs l s h)) (P:=fun q=>q=((dR x pc w h (dN (mq r zs l s pc w) x.Size x.Ea).1).1,(dR x pc w h (dN (mq r zs l s pc w) x.Size x.Ea).1).2,(dN (mq r zs l s pc w) x.Size x.Ea).2.1)) ?_
 obtain⟨d1,d2,d3⟩:=jQ hr.a4 ho.hr;obtain⟨s1,s2,s3,s4,s5⟩:=fV (v:=0) hr.a4 ho.hr;rw[Nat.zero_add]at s5;obtain⟨l1,l2⟩:=aH4 (pc:=pc) (w:=w) (f:=f0) (zs:=zs) (l:=l) (s:=s) (h:=h) hr hs ho.hr;have hm:=aM.1 ho.hm;unfold a6W;simp only[bG,M4,IW,aCM,o7,pK,pQ,o8,lW,nN,lX,kW,eN,Nat.zero_add,aP,aY,l1,l2,d2,s3,s4,s5,dW,wz];unfold dN;refine⟨fun q=>by rw[q];rfl,fun q=>?_⟩
 rw[q];refine⟨fun q=>by rw[q];rfl,fun q1=>?_⟩
 rw[q1];refine⟨fun q=>by rw[q];rfl,fun q2=>?_⟩
 rw[q2];rw[hJ]at q q1 q2;have hm':2≤x.Ea.Mode∧x.Ea.Mode≤6:=by omega
 obtain⟨p1,p2⟩:=V5 hr hs ho hm';obtain⟨p3,p4⟩:=rQ (s:=x.Size) hr ho;obtain⟨a1,a2⟩:=aXL (x:=x) (pc:=pc) (w:=w) (s:=s) (h:=h) p3 hb hs p4;simp only[p1,p2,iW,a1,a2,dS,mG,wz,Bool.and_true,true_and];rfl
theorem setD{x:aN}{pc w a v:Int}{r:RM}{zs:List Int}{l:List aA}{s h:Bool}(hr:r.Ok 65535)(hb:BusOk zs l)(hs:x.Size=1∨x.Size=2)(ho:OpOk x.Ea)(ha:cA a 0 65535=true)(hv:dA x.Size v=true):yR a v (dG x pc w f0) (bB r zs l s h)=true∧sH a v (dG x pc w f0) (bB r zs l s h)=dR x pc w h (eD (mq r zs l s pc w) x.Size x.Ea a v):=by
 refine aF (t:=a69 a v (dG x pc w f0) (bB r zs l s h)) (P:=fun q=>q=dR x pc w h (eD (mq r zs l s pc w) x.Size x.Ea a v)) ?_
 have lv:=kE hs hv;obtain⟨p1,p2⟩:=bC2 (v:=v) hr hs ho.hr (fun e=>by have:=lv.2.2 e;omega)
 obtain⟨a1,a2⟩:=bVJ (x:=x) (pc:=pc) (w:=w) (s:=s) (h:=h) hr hb hs ha hv;unfold a69;simp only[bG,aMR,aMQ,o7,pK,pQ,o8,lW,nN,lX,kW,p1,p2,a1,a2,dW,wz];unfold eD;exact⟨fun q=>by rw[q];rfl,fun q=>by rw[q];rfl⟩
theorem rV(x y:Int):cU x y=!(eqI x y):=by
 cases h:eqI x y
 ·rw[hJ]at h;exact nF.2 h
 ·rw[dL]at h;exact O1.2 h
theorem tC{m:MM}(h:bY m=true):dF m=f0:=by unfold dF;rw[h];rfl
theorem zP{m:MM}(h:bY m=false):dF m=m.f∧cU m.f.Vector 0=true:=by
 refine⟨by unfold dF;rw[h];rfl,?_⟩
 unfold bY at h;rw[rV,h];rfl
theorem aPZ{x:aN}{pc w:Int}{r:RM}{zs:List Int}{l:List aA}{s h:Bool}(hr:r.Ok 65535)(hb:BusOk zs l)(hi:InsOk x)(h2:qO x):bQD (dG x pc w f0) (bB r zs l s h)=true∧aZJ (dG x pc w f0) (bB r zs l s h)=dR x pc w h (B1 (mq r zs l s pc w) x):=by
 refine aF (t:=a67 (dG x pc w f0) (bB r zs l s h)) (P:=fun q=>q=dR x pc w h (B1 (mq r zs l s pc w) x)) ?_
 obtain⟨r1,r2⟩:=aPY (pc:=pc) (w:=w) (s:=s) (h:=h) hr hb hi.hs hi.ho;obtain⟨r3,r4,r5⟩:=rT (LO (s:=s) (pc:=pc) (w:=w) hr hb) hi.hs hi.ho (VR hi h2) hi.he;unfold a67 B1;generalize dN (mq r zs l s pc w) x.Size x.Ea=q at r1 r2 r3 r4 r5;obtain⟨q1,v,a⟩:=q;dsimp only at r2 r3 r4 r5;obtain⟨qr,qz,ql,qs,qf⟩:=q1;have hqr:RM.Ok 65535 qr:=r3.r;have hd:=iE (s:=x.Size) (v:=cP qr.d x.Reg) hi.hs;obtain⟨l1,l2⟩:=aH4 (x:=x) (pc:=pc) (w:=w) (f:=f0) (zs:=qz) (l:=ql) (s:=qs) (h:=h) (k:=x.Reg) hqr hi.hs hi.hr;obtain⟨a1,a2⟩:=b0L (c:=0) (Or.inl rfl) hd r4;obtain⟨b1,b2⟩:=bLD hd r4;obtain⟨c1,c2⟩:=cDK (f:=qr.fl) hd r4;have lv: ∀v,dA x.Size v=true→0≤v∧v≤65535∧(x.Size=1→0≤v∧v<256):=fun v hv=>by
  have:=kE hi.hs hv;exact⟨by omega,by omega,fun e=>by have:=this.2.2 e;omega⟩
 have pt: ∀v,dA x.Size v=true→aCO x.Size x.Reg v qr.g=true∧aCN x.Size x.Reg v qr.g=(zM qr x.Size x.Reg v).g:=fun v hv=>bC2 hqr hi.hs hi.hr (lv v hv).2.2
 have tt: ∀v,dA x.Size v=true→PG v (dG x pc w f0) (bB qr qz ql qs h)=true∧PF v (dG x pc w f0) (bB qr qz ql qs h)=bB (zM {qr with fl:=hU x.Size qr.fl v} x.Size x.Reg v) qz ql qs h:=fun v hv=>by
  have:=toD (x:=x) (pc:=pc) (w:=w) (f:=f0) (zs:=qz) (l:=ql) (s:=qs) (h:=h) hqr hi.hs hi.hr (lv v hv).2.2 (lv v hv).1 (lv v hv).2.1;exact this
 dsimp only;cases hfi:bY ⟨qr,qz,ql,qs,qf⟩
 ·obtain⟨e1,e2⟩:=zP hfi;simp only[bG,sY,sX,rF,sW,sV,wO,wN,yQ,wM,yP,wL,yO,oC,wK,wJ,o7,pK,pQ,o8,lW,nN,lX,kW,r1,r2,dR,e1,e2,bX,bZ,wz]
 ·have e1: ∀r',dF ⟨r',qz,ql,qs,qf⟩=f0:=fun r'=>tC (m:=⟨r',qz,ql,qs,qf⟩) hfi
  have nf:cU f0.Vector 0=false:=rfl;rcases h2 with e|e|e|e|e|e|e
  ·obtain⟨p1,p2⟩:=tt v r4;have tw:rU x qr.fl (cP qr.d x.Reg%bS x.Size) v=(v,hU x.Size qr.fl v):=by unfold rU;rw[e];rfl
   rw[tw];simp only[bG,sY,sX,rF,sW,sV,wO,wN,yQ,wM,yP,wL,yO,oC,wK,wJ,o7,pK,pQ,o8,lW,nN,lX,kW,eM,eN,aW,cH,aU,bE,aT,aR,r1,r2,dR,e1,nf,e,show eqI 1 1=true from rfl,show eqI 1 5=false from rfl,show eqI 1 6=false from rfl,show eqI 1 7=false from rfl,show eqI 1 8=false from rfl,show eqI 1 3=false from rfl,show eqI 1 4=false from rfl,l1,l2,a1,a2,b1,b2,c1,c2,bX,bZ,wz,p1,p2]
  ·obtain⟨p1,p2⟩:=pt (aEU x.Size 0 (cP qr.d x.Reg%bS x.Size) v).1 (iE hi.hs);have tw:rU x qr.fl (cP qr.d x.Reg%bS x.Size) v=aEU x.Size 0 (cP qr.d x.Reg%bS x.Size) v:=by unfold rU;rw[e];rfl
   rw[tw];simp only[bG,sY,sX,rF,sW,sV,wO,wN,yQ,wM,yP,wL,yO,oC,wK,wJ,o7,pK,pQ,o8,lW,nN,lX,kW,eM,eN,aW,cH,aU,bE,aT,aR,r1,r2,dR,e1,nf,e,show eqI 3 1=false from rfl,show eqI 3 5=false from rfl,show eqI 3 6=false from rfl,show eqI 3 7=false from rfl,show eqI 3 8=false from rfl,show eqI 3 3=true from rfl,show eqI 3 4=false from rfl,l1,l2,a1,a2,b1,b2,c1,c2,bX,bZ,wz,p1,p2]
   rfl
  ·obtain⟨p1,p2⟩:=pt ((cP qr.d x.Reg%bS x.Size-v)%bS x.Size) (iE hi.hs);have tw:rU x qr.fl (cP qr.d x.Reg%bS x.Size) v=((cP qr.d x.Reg%bS x.Size-v)%bS x.Size,JH x.Size (cP qr.d x.Reg%bS x.Size) v):=by unfold rU;rw[e];rfl
   rw[tw];simp only[bG,sY,sX,rF,sW,sV,wO,wN,yQ,wM,yP,wL,yO,oC,wK,wJ,o7,pK,pQ,o8,lW,nN,lX,kW,eM,eN,aW,cH,aU,bE,aT,aR,r1,r2,dR,e1,nf,e,show eqI 4 1=false from rfl,show eqI 4 5=false from rfl,show eqI 4 6=false from rfl,show eqI 4 7=false from rfl,show eqI 4 8=false from rfl,show eqI 4 3=false from rfl,show eqI 4 4=true from rfl,l1,l2,a1,a2,b1,b2,c1,c2,bX,bZ,wz,p1,p2]
   rfl
  ·obtain⟨p1,p2⟩:=tt (aZ (cP qr.d x.Reg%bS x.Size) v) (aWT hi.hs hd r4);have tw:rU x qr.fl (cP qr.d x.Reg%bS x.Size) v=(aZ (cP qr.d x.Reg%bS x.Size) v,hU x.Size qr.fl (aZ (cP qr.d x.Reg%bS x.Size) v)):=by unfold rU;rw[e];rfl
   rw[tw];simp only[bG,sY,sX,rF,sW,sV,wO,wN,yQ,wM,yP,wL,yO,oC,wK,wJ,o7,pK,pQ,o8,lW,nN,lX,kW,eM,eN,aW,cH,aU,bE,aT,aR,r1,r2,dR,e1,nf,e,show eqI 5 1=false from rfl,show eqI 5 5=true from rfl,show eqI 5 6=false from rfl,show eqI 5 7=false from rfl,show eqI 5 8=false from rfl,show eqI 5 3=false from rfl,show eqI 5 4=false from rfl,l1,l2,a1,a2,b1,b2,c1,c2,bX,bZ,wz,p1,p2]
  ·obtain⟨p1,p2⟩:=tt (eT (cP qr.d x.Reg%bS x.Size) v) (aE0 hi.hs hd r4);have tw:rU x qr.fl (cP qr.d x.Reg%bS x.Size) v=(eT (cP qr.d x.Reg%bS x.Size) v,hU x.Size qr.fl (eT (cP qr.d x.Reg%bS x.Size) v)):=by unfold rU;rw[e];rfl
   rw[tw];simp only[bG,sY,sX,rF,sW,sV,wO,wN,yQ,wM,yP,wL,yO,oC,wK,wJ,o7,pK,pQ,o8,lW,nN,lX,kW,eM,eN,aW,cH,aU,bE,aT,aR,r1,r2,dR,e1,nf,e,show eqI 6 1=false from rfl,show eqI 6 5=false from rfl,show eqI 6 6=true from rfl,show eqI 6 7=false from rfl,show eqI 6 8=false from rfl,show eqI 6 3=false from rfl,show eqI 6 4=false from rfl,l1,l2,a1,a2,b1,b2,c1,c2,bX,bZ,wz,p1,p2]
  ·obtain⟨p1,p2⟩:=tt (qR (cP qr.d x.Reg%bS x.Size) v) (aWU hi.hs hd r4);have tw:rU x qr.fl (cP qr.d x.Reg%bS x.Size) v=(qR (cP qr.d x.Reg%bS x.Size) v,hU x.Size qr.fl (qR (cP qr.d x.Reg%bS x.Size) v)):=by unfold rU;rw[e];rfl
   rw[tw];simp only[bG,sY,sX,rF,sW,sV,wO,wN,yQ,wM,yP,wL,yO,oC,wK,wJ,o7,pK,pQ,o8,lW,nN,lX,kW,eM,eN,aW,cH,aU,bE,aT,aR,r1,r2,dR,e1,nf,e,show eqI 7 1=false from rfl,show eqI 7 5=false from rfl,show eqI 7 6=false from rfl,show eqI 7 7=true from rfl,show eqI 7 8=false from rfl,show eqI 7 3=false from rfl,show eqI 7 4=false from rfl,l1,l2,a1,a2,b1,b2,c1,c2,bX,bZ,wz,p1,p2]
  ·simp only[bG,sY,sX,rF,sW,sV,wO,wN,yQ,wM,yP,wL,yO,oC,wK,wJ,o7,pK,pQ,o8,lW,nN,lX,kW,eM,eN,aW,cH,aU,bE,aT,aR,r1,r2,dR,e1,nf,e,show eqI 8 1=false from rfl,show eqI 8 5=false from rfl,show eqI 8 6=false from rfl,show eqI 8 7=false from rfl,show eqI 8 8=true from rfl,show eqI 8 3=false from rfl,show eqI 8 4=false from rfl,l1,l2,a1,a2,b1,b2,c1,c2,bX,bZ,wz]
   rfl
end Go.Proofs.YtdicpjkdpliofaaGreatBoundaries

namespace Go.Proofs.YtdicpjkdpliofaaGreatBoundaries
open Go Go.Zq
set_option maxHeartbeats 4000000
set_option maxRecDepth 100000
theorem B3{r:RM}{zs:List Int}{l:List aA}{s:Bool}{pc w:Int}{k sz a v:Int}(h:bY (cM (mq r zs l s pc w) k sz a v).1=true):(cM (mq r zs l s pc w) k sz a v).1=mq r (cM (mq r zs l s pc w) k sz a v).1.zs (cM (mq r zs l s pc w) k sz a v).1.l s pc w:=by
 have hf:bY (cM (mq r zs l s pc w) k sz a v).1=eqI (cQ k sz a) 0:=jR rfl;rw[hf]at h;have hn:cU (cQ k sz a) 0=false:=by rw[rV,h];rfl
 unfold cM mq;dsimp only;rw[hn];rfl
theorem GD{r:RM}{zs:List Int}{l:List aA}{s:Bool}{pc w:Int}{k sz a v:Int}(hr:r.Ok 65535)(hb:BusOk zs l)(hs:sz=1∨sz=2)(hv:dA sz v=true)(ha:cA a 0 65535=true)(hk:cA k 1 3=true):BusOk (cM (mq r zs l s pc w) k sz a v).1.zs (cM (mq r zs l s pc w) k sz a v).1.l∧dA sz (cM (mq r zs l s pc w) k sz a v).2=true:=by
 obtain⟨h1,h2⟩:=zN (k:=k) (LO (s:=s) (pc:=pc) (w:=w) hr hb) (⟨hs,hv,ha⟩:AccOk sz v a _) hk;exact⟨h1.b,h2⟩
theorem aXM{s v:Int}(hs:s=1∨s=2)(h0:0≤v)(h1:v<bS s):qR v (cF (bS s) 1)=bS s-1-v:=by
 have key: ∀(n m:Nat),n≤16→m<2^n→qR (m:Int) ((2^n-1:Nat):Int)=((2^n-(m+1):Nat):Int):=by
  intro n m hn hm;have hp:2^n≤2^16:=Nat.pow_le_pow_right (by omega) hn
  have e:m^^^(2^n-1)=2^n-(m+1):=by
   apply Nat.eq_of_testBit_eq;intro i;rw[Nat.testBit_xor,Nat.testBit_two_pow_sub_one,Nat.testBit_two_pow_sub_succ hm];by_cases hi:i<n
   ·simp[hi]
   ·have:m.testBit i=false:=Nat.testBit_lt_two_pow (Nat.lt_of_lt_of_le hm (Nat.pow_le_pow_right (by omega) (by omega)))
    simp[hi,this]
  unfold qR;rw[BitVec.toNat_xor,BitVec.toNat_ofInt,BitVec.toNat_ofInt];have a1:(((m:Int))%((2^64:Nat):Int)).toNat=m:=by omega
  have a2:((((2^n-1:Nat):Int))%((2^64:Nat):Int)).toNat=2^n-1:=by omega
  rw[a1,a2,e,IntKind.wrap_i64];omega
 obtain⟨m,rfl⟩:=Int.eq_ofNat_of_zero_le h0;rcases hs with rfl|rfl
 ·have h1:(m:Int)<256:=h1;have:=key 8 m (by omega) (by omega)
  rw[show cF (bS 1) 1=((2^8-1:Nat):Int)from by decide,this]
  show _=(256:Int)-1-m
  omega
 ·have h1:(m:Int)<65536:=h1;have:=key 16 m (by omega) (by omega)
  rw[show cF (bS 2) 1=((2^16-1:Nat):Int)from by decide,this]
  show _=(65536:Int)-1-m
  omega
theorem cDO{x:aN}(h:x.Op=2):kB x=bif eqI x.Sub 0 then aEV x.Ea.Mode else false:=by
 unfold kB;rw[h];rfl
theorem a0U{x:aN}(h:InsOk x)(h2:x.Op=2):x.Ea.Mode=0∨(2≤x.Ea.Mode∧x.Ea.Mode≤6):=by
 have hk:=h.kb;rw[cDO h2]at hk;cases e1:eqI x.Sub 0
 ·rw[e1]at hk;simp at hk
 ·rw[e1]at hk;exact aHX hk
theorem PZ{m:Int}(h:2≤m∧m≤6):eqI m 0=false∧cU m 0=true∧eqI m 1=false∧eqI m 7=false:=by
 refine⟨hJ.2 (by omega),nF.2 (by omega),hJ.2 (by omega),hJ.2 (by omega)⟩
theorem b1O{x:aN}{pc w:Int}{r:RM}{zs:List Int}{l:List aA}{s h:Bool}(hr:r.Ok 65535)(hb:BusOk zs l)(hi:InsOk x)(h2:x.Op=2):bQF (dG x pc w f0) (bB r zs l s h)=true∧aZL (dG x pc w f0) (bB r zs l s h)=dR x pc w h (Y9 (mq r zs l s pc w) x):=by
 refine aF (t:=a7A (dG x pc w f0) (bB r zs l s h)) (P:=fun q=>q=dR x pc w h (Y9 (mq r zs l s pc w) x)) ?_
 obtain⟨l1,l2⟩:=aH4 (pc:=pc) (w:=w) (f:=f0) (zs:=zs) (l:=l) (s:=s) (h:=h) hr hi.hs hi.hr;have hv:=iE (s:=x.Size) (v:=cP r.d x.Reg) hi.hs;unfold a7A Y9;rcases a0U hi h2 with hm|hm
 ·have m0:eqI x.Ea.Mode 0=true:=by rw[hm];rfl
  have m1:cU x.Ea.Mode 0=false:=by rw[hm];rfl
  obtain⟨s1,s2⟩:=setD (x:=x) (pc:=pc) (w:=w) (a:=0) (s:=s) (h:=h) hr hb hi.hs hi.ho (by decide) hv
  have wo:=AG (a:=0) (LO (s:=s) (pc:=pc) (w:=w) hr hb) hi.hs hi.ho (by decide) hv
  obtain⟨g1,g2⟩:=N9 (v:=cP r.d x.Reg%bS x.Size) (x:=x) (pc:=pc) (w:=w) (f:=dF (eD (mq r zs l s pc w) x.Size x.Ea 0 (cP r.d x.Reg%bS x.Size))) (zs:=(eD (mq r zs l s pc w) x.Size x.Ea 0 (cP r.d x.Reg%bS x.Size)).zs) (l:=(eD (mq r zs l s pc w) x.Size x.Ea 0 (cP r.d x.Reg%bS x.Size)).l) (s:=(eD (mq r zs l s pc w) x.Size x.Ea 0 (cP r.d x.Reg%bS x.Size)).stop) (h:=h) wo.r hi.hs;have sp:kI (mq r zs l s pc w) x.Size x.Ea=(mq r zs l s pc w,0):=by unfold kI;rw[m0];rfl
  rw[sp];simp only[bG,TU,DV,TT,DU,yS,DT,o7,pK,pQ,o8,lW,nN,lX,kW,l1,l2,m1,s1,s2,dR,g1,g2,bX,wz];rfl
 ·obtain⟨m0,m1,-,-⟩:=PZ hm;obtain⟨p1,p2⟩:=V5 hr hi.hs hi.ho hm;obtain⟨p3,p4⟩:=rQ (s:=x.Size) hr hi.ho;obtain⟨s1,s2⟩:=setD (x:=x) (pc:=pc) (w:=w) (s:=s) (h:=h) p3 hb hi.hs hi.ho p4 hv;have wo:=AG (a:=(bM r x.Size x.Ea).2) (LO (s:=s) (pc:=pc) (w:=w) p3 hb) hi.hs hi.ho p4 hv;have sp:kI (mq r zs l s pc w) x.Size x.Ea=(mq (bM r x.Size x.Ea).1 zs l s pc w,(bM r x.Size x.Ea).2):=by unfold kI;rw[m0];rfl
  rw[sp];generalize hW:eD (mq (bM r x.Size x.Ea).1 zs l s pc w) x.Size x.Ea (bM r x.Size x.Ea).2 (cP r.d x.Reg%bS x.Size)=W at s1 s2 wo;obtain⟨g1,g2⟩:=N9 (v:=cP r.d x.Reg%bS x.Size) (x:=x) (pc:=pc) (w:=w) (f:=dF W) (zs:=W.zs) (l:=W.l) (s:=W.stop) (h:=h) wo.r hi.hs;simp only[bG,TU,DV,TT,DU,yS,DT,o7,pK,pQ,o8,lW,nN,lX,kW,iW,l1,l2,m1,p1,p2,s1,s2,dR,g1,g2,bX,wz];have:(mq r zs l s pc w).r.d=r.d:=rfl;rw[this,hW];rfl
end Go.Proofs.YtdicpjkdpliofaaGreatBoundaries

namespace Go.Proofs.YtdicpjkdpliofaaGreatBoundaries
open Go Go.Zq
set_option maxHeartbeats 4000000
set_option maxRecDepth 100000
theorem bC3(m:MM)(s:Int)(o:aC)(a v:Int):(eD m s o a v).r.fl=m.r.fl:=by
 unfold eD;cases eqI o.Mode 0<;>rfl
theorem setF(W:MM)(h:Bool)(f:Int):aD.mk (aE.mk (ri W.r.d) (ri W.r.a) W.r.oth W.r.pc f W.r.mask W.r.sup W.r.tr) (qV W.zs W.l) W.stop h=bB {W.r with fl:=f} W.zs W.l W.stop h:=rfl
structure OneF(x:aN)(pc w:Int)(h s:Bool)(r:RM)(zs:List Int)(l:List aA)(a v:Int):Prop where
 s1:yR a v (dG x pc w f0) (bB r zs l s h)=true
 s2:sH a v (dG x pc w f0) (bB r zs l s h)=dR x pc w h (eD (mq r zs l s pc w) x.Size x.Ea a v)
 g1:wI v (dG x pc w (dF (eD (mq r zs l s pc w) x.Size x.Ea a v))) (bB (eD (mq r zs l s pc w) x.Size x.Ea a v).r (eD (mq r zs l s pc w) x.Size x.Ea a v).zs (eD (mq r zs l s pc w) x.Size x.Ea a v).l (eD (mq r zs l s pc w) x.Size x.Ea a v).stop h)=true
 g2:uA v (dG x pc w (dF (eD (mq r zs l s pc w) x.Size x.Ea a v))) (bB (eD (mq r zs l s pc w) x.Size x.Ea a v).r (eD (mq r zs l s pc w) x.Size x.Ea a v).zs (eD (mq r zs l s pc w) x.Size x.Ea a v).l (eD (mq r zs l s pc w) x.Size x.Ea a v).stop h)=bB {(eD (mq r zs l s pc w) x.Size x.Ea a v).r with fl:=hU x.Size r.fl v} (eD (mq r zs l s pc w) x.Size x.Ea a v).zs (eD (mq r zs l s pc w) x.Size x.Ea a v).l (eD (mq r zs l s pc w) x.Size x.Ea a v).stop h
theorem a0V{x:aN}{pc w a v:Int}{r:RM}{zs:List Int}{l:List aA}{s h:Bool}(hr:r.Ok 65535)(hb:BusOk zs l)(hs:x.Size=1∨x.Size=2)(ho:OpOk x.Ea)(ha:cA a 0 65535=true)(hv:dA x.Size v=true):OneF x pc w h s r zs l a v:=by
 obtain⟨s1,s2⟩:=setD (x:=x) (pc:=pc) (w:=w) (s:=s) (h:=h) hr hb hs ho ha hv;have wo:=AG (LO (s:=s) (pc:=pc) (w:=w) hr hb) hs ho ha hv;obtain⟨g1,g2⟩:=N9 (v:=v) (x:=x) (pc:=pc) (w:=w) (f:=dF (eD (mq r zs l s pc w) x.Size x.Ea a v)) (zs:=(eD (mq r zs l s pc w) x.Size x.Ea a v).zs) (l:=(eD (mq r zs l s pc w) x.Size x.Ea a v).l) (s:=(eD (mq r zs l s pc w) x.Size x.Ea a v).stop) (h:=h) wo.r hs;rw[bC3]at g2;exact⟨s1,s2,g1,g2⟩
theorem cDP{x:aN}{pc w:Int}{r:RM}{zs:List Int}{l:List aA}{s h:Bool}(hr:r.Ok 65535)(hb:BusOk zs l)(hi:InsOk x)(h2:x.Op=11):bQG (dG x pc w f0) (bB r zs l s h)=true∧aZM (dG x pc w f0) (bB r zs l s h)=dR x pc w h (N4 (mq r zs l s pc w) x):=by
 refine aF (t:=a7B (dG x pc w f0) (bB r zs l s h)) (P:=fun q=>q=dR x pc w h (N4 (mq r zs l s pc w) x)) ?_
 obtain⟨k1,k2⟩:=VU hi h2;have hsb:=aM.1 hi.hb;have nf:cU f0.Vector 0=false:=rfl;have lr:=rO hi.hs;unfold a7B N4;have hsub:x.Sub=0∨x.Sub=1∨x.Sub=2∨x.Sub=3:=by omega
 rcases k2 with hm|hm
 ·have m0:eqI x.Ea.Mode 0=true:=by rw[hm];rfl
  have m1:cU x.Ea.Mode 0=false:=by rw[hm];rfl
  have z0:cA 0 0 65535=true:=by decide
  obtain⟨l1,l2⟩:=aH4 (pc:=pc) (w:=w) (f:=f0) (zs:=zs) (l:=l) (s:=s) (h:=h) hr hi.hs hi.ho.hr;have hv:=iE (s:=x.Size) (v:=cP r.d x.Ea.Reg) hi.hs;rcases hsub with e|e|e|e
  ·have hq:fD (mq r zs l s pc w) x=(mq r zs l s pc w,0,0):=by unfold fD kI;rw[e,m0];rfl
   rw[hq];unfold EJ xE;have fm:bY (mq r zs l s pc w)=true:=rfl;have F:=a0V (pc:=pc) (w:=w) (v:=0) (s:=s) (h:=h) hr hb hi.hs hi.ho z0 (LG hi.hs);simp only[bG,nC,nB,j9,lV,kP,nA,m9,j8,oQ,m7,m6,j7,lU,kO,m5,kN,mZ,j6,kM,oP,lT,oO,oN,lS,mY,mX,j5,lQ,kL,mW,mV,j0,oM,cT,mU,mT,jZ,lP,kK,mS,kJ,mR,mQ,oD,pA,sK,pZ,sJ,mI,sI,pY,jB,cS,o7,pK,pQ,o8,lW,nN,lX,kW,eM,eN,aW,cH,aU,bE,aT,aR,iW,nf,e,show eqI 0 0=true from rfl,show eqI 0 1=false from rfl,show eqI 0 2=false from rfl,show eqI 0 3=false from rfl,dR,(iH hi.hs).1,(iH hi.hs).2,bX,bZ,wz,m0,m1,l1,l2,fm,F.s1,F.s2,F.g1,F.g2]
   rfl
  ·have hq:fD (mq r zs l s pc w) x=(mq r zs l s pc w,cP r.d x.Ea.Reg%bS x.Size,0):=by unfold fD dN;rw[e,m0];rfl
   rw[hq];unfold EJ xE;have fm:bY (mq r zs l s pc w)=true:=rfl;obtain⟨b1,b2⟩:=bLD (s:=x.Size) (a:=0) (LG hi.hs) hv;have F:=a0V (pc:=pc) (w:=w) (v:=(0-(cP r.d x.Ea.Reg%bS x.Size))%bS x.Size) (s:=s) (h:=h) hr hb hi.hs hi.ho z0 (iE hi.hs);simp only[bG,nC,nB,j9,lV,kP,nA,m9,j8,oQ,m7,m6,j7,lU,kO,m5,kN,mZ,j6,kM,oP,lT,oO,oN,lS,mY,mX,j5,lQ,kL,mW,mV,j0,oM,cT,mU,mT,jZ,lP,kK,mS,kJ,mR,mQ,oD,pA,sK,pZ,sJ,mI,sI,pY,jB,cS,o7,pK,pQ,o8,lW,nN,lX,kW,eM,eN,aW,cH,aU,bE,aT,aR,iW,nf,e,show eqI 1 0=false from rfl,show eqI 1 1=true from rfl,show eqI 1 2=false from rfl,show eqI 1 3=false from rfl,dR,(iH hi.hs).1,(iH hi.hs).2,bX,bZ,wz,m0,m1,l1,l2,fm,b1,b2,F.s1,F.s2,setF]
   rfl
  ·have hq:fD (mq r zs l s pc w) x=(mq r zs l s pc w,cP r.d x.Ea.Reg%bS x.Size,0):=by unfold fD dN;rw[e,m0];rfl
   rw[hq];unfold EJ xE;have fm:bY (mq r zs l s pc w)=true:=rfl;have lv:=kE hi.hs hv;obtain⟨-,u0,u1⟩:=qC hv;have xt:=aXM hi.hs u0 u1;have hv2:dA x.Size (bS x.Size-1-(cP r.d x.Ea.Reg%bS x.Size))=true:=(PX (x:=x) (f:=0) hi.hs (by decide) hv).1|>fun z=>by unfold xE at z;rw[e]at z;exact z
   have F:=a0V (pc:=pc) (w:=w) (v:=bS x.Size-1-(cP r.d x.Ea.Reg%bS x.Size)) (s:=s) (h:=h) hr hb hi.hs hi.ho z0 hv2;simp only[bG,nC,nB,j9,lV,kP,nA,m9,j8,oQ,m7,m6,j7,lU,kO,m5,kN,mZ,j6,kM,oP,lT,oO,oN,lS,mY,mX,j5,lQ,kL,mW,mV,j0,oM,cT,mU,mT,jZ,lP,kK,mS,kJ,mR,mQ,oD,pA,sK,pZ,sJ,mI,sI,pY,jB,cS,o7,pK,pQ,o8,lW,nN,lX,kW,eM,eN,aW,cH,aU,bE,aT,aR,iW,nf,e,show eqI 2 0=false from rfl,show eqI 2 1=false from rfl,show eqI 2 2=true from rfl,show eqI 2 3=false from rfl,dR,(iH hi.hs).1,(iH hi.hs).2,bX,bZ,wz,m0,m1,l1,l2,fm,xt,F.s1,F.s2,F.g1,F.g2]
   rfl
  ·have hq:fD (mq r zs l s pc w) x=(mq r zs l s pc w,cP r.d x.Ea.Reg%bS x.Size,0):=by unfold fD dN;rw[e,m0];rfl
   rw[hq];unfold EJ xE;have fm:bY (mq r zs l s pc w)=true:=rfl;obtain⟨g1,g2⟩:=N9 (v:=(cP r.d x.Ea.Reg%bS x.Size)) (x:=x) (pc:=pc) (w:=w) (f:=f0) (zs:=zs) (l:=l) (s:=s) (h:=h) hr hi.hs;simp only[bG,nC,nB,j9,lV,kP,nA,m9,j8,oQ,m7,m6,j7,lU,kO,m5,kN,mZ,j6,kM,oP,lT,oO,oN,lS,mY,mX,j5,lQ,kL,mW,mV,j0,oM,cT,mU,mT,jZ,lP,kK,mS,kJ,mR,mQ,oD,pA,sK,pZ,sJ,mI,sI,pY,jB,cS,o7,pK,pQ,o8,lW,nN,lX,kW,eM,eN,aW,cH,aU,bE,aT,aR,iW,nf,e,show eqI 3 0=false from rfl,show eqI 3 1=false from rfl,show eqI 3 2=false from rfl,show eqI 3 3=true from rfl,dR,(iH hi.hs).1,(iH hi.hs).2,bX,bZ,wz,m0,m1,l1,l2,fm,g1,g2]
   rfl
 ·obtain⟨m0,m1,m2,m3⟩:=PZ hm;obtain⟨p1,p2⟩:=V5 hr hi.hs hi.ho hm;obtain⟨p3,p4⟩:=rQ (s:=x.Size) hr hi.ho;rcases hsub with e|e|e|e
  ·have hq:fD (mq r zs l s pc w) x=(mq (bM r x.Size x.Ea).1 zs l s pc w,0,(bM r x.Size x.Ea).2):=by unfold fD kI;rw[e,m0];rfl
   rw[hq];unfold EJ xE;have fm:bY (mq (bM r x.Size x.Ea).1 zs l s pc w)=true:=rfl;have F:=a0V (pc:=pc) (w:=w) (v:=0) (s:=s) (h:=h) p3 hb hi.hs hi.ho p4 (LG hi.hs);simp only[bG,nC,nB,j9,lV,kP,nA,m9,j8,oQ,m7,m6,j7,lU,kO,m5,kN,mZ,j6,kM,oP,lT,oO,oN,lS,mY,mX,j5,lQ,kL,mW,mV,j0,oM,cT,mU,mT,jZ,lP,kK,mS,kJ,mR,mQ,oD,pA,sK,pZ,sJ,mI,sI,pY,jB,cS,o7,pK,pQ,o8,lW,nN,lX,kW,eM,eN,aW,cH,aU,bE,aT,aR,iW,nf,e,show eqI 0 0=true from rfl,show eqI 0 1=false from rfl,show eqI 0 2=false from rfl,show eqI 0 3=false from rfl,dR,(iH hi.hs).1,(iH hi.hs).2,bX,bZ,wz,m0,m1,p1,p2,fm,F.s1,F.s2,F.g1,F.g2]
   rfl
  ·obtain⟨a1,a2⟩:=aXL (x:=x) (pc:=pc) (w:=w) (s:=s) (h:=h) p3 hb hi.hs p4;obtain⟨b0,b3⟩:=GD (s:=s) (pc:=pc) (w:=w) (k:=1) (v:=0) p3 hb hi.hs (LG hi.hs) p4 (by decide)
   have am:=B3 (r:=(bM r x.Size x.Ea).1) (zs:=zs) (l:=l) (s:=s) (pc:=pc) (w:=w) (k:=1) (sz:=x.Size) (a:=(bM r x.Size x.Ea).2) (v:=0);have hq:fD (mq r zs l s pc w) x=((cM (mq (bM r x.Size x.Ea).1 zs l s pc w) 1 x.Size (bM r x.Size x.Ea).2 0).1,(cM (mq (bM r x.Size x.Ea).1 zs l s pc w) 1 x.Size (bM r x.Size x.Ea).2 0).2,(bM r x.Size x.Ea).2):=by unfold fD dN;rw[e,m0,m2,m3];rfl
   rw[hq];have aa:cM ⟨(bM r x.Size x.Ea).1,zs,l,s,ff pc w⟩ 1 x.Size (bM r x.Size x.Ea).2 0=cM (mq (bM r x.Size x.Ea).1 zs l s pc w) 1 x.Size (bM r x.Size x.Ea).2 0:=rfl;rw[aa]at a2;have sr:(cM (mq (bM r x.Size x.Ea).1 zs l s pc w) 1 x.Size (bM r x.Size x.Ea).2 0).1.r=(bM r x.Size x.Ea).1:=rfl;have st:(cM (mq (bM r x.Size x.Ea).1 zs l s pc w) 1 x.Size (bM r x.Size x.Ea).2 0).1.stop=s:=rfl;generalize hA:cM (mq (bM r x.Size x.Ea).1 zs l s pc w) 1 x.Size (bM r x.Size x.Ea).2 0=A at a1 a2 b0 b3 am sr st;obtain⟨A1,v⟩:=A;dsimp only at a1 a2 b0 b3 am sr st⊢;unfold EJ;cases hfi:bY A1
   ·obtain⟨e1,e2⟩:=zP hfi;simp only[bG,nC,nB,j9,lV,kP,nA,m9,j8,oQ,m7,m6,j7,lU,kO,m5,kN,mZ,j6,kM,oP,lT,oO,oN,lS,mY,mX,j5,lQ,kL,mW,mV,j0,oM,cT,mU,mT,jZ,lP,kK,mS,kJ,mR,mQ,oD,pA,sK,pZ,sJ,mI,sI,pY,jB,cS,o7,pK,pQ,o8,lW,nN,lX,kW,eM,eN,aW,cH,aU,bE,aT,aR,iW,nf,e,show eqI 1 0=false from rfl,show eqI 1 1=true from rfl,show eqI 1 2=false from rfl,show eqI 1 3=false from rfl,dR,(iH hi.hs).1,(iH hi.hs).2,bX,bZ,wz,m0,m1,p1,p2,a1,a2,e1,e2,sr,st,hfi]
   ·have e1:=tC hfi;have am:=am hfi;rw[e1]at a2;rw[am];unfold xE;have fm:bY (mq (bM r x.Size x.Ea).1 A1.zs A1.l s pc w)=true:=rfl;obtain⟨b1,b2⟩:=bLD (s:=x.Size) (a:=0) (LG hi.hs) b3;have F:=a0V (pc:=pc) (w:=w) (v:=(0-v)%bS x.Size) (s:=s) (h:=h) p3 b0 hi.hs hi.ho p4 (iE hi.hs);simp only[bG,nC,nB,j9,lV,kP,nA,m9,j8,oQ,m7,m6,j7,lU,kO,m5,kN,mZ,j6,kM,oP,lT,oO,oN,lS,mY,mX,j5,lQ,kL,mW,mV,j0,oM,cT,mU,mT,jZ,lP,kK,mS,kJ,mR,mQ,oD,pA,sK,pZ,sJ,mI,sI,pY,jB,cS,o7,pK,pQ,o8,lW,nN,lX,kW,eM,eN,aW,cH,aU,bE,aT,aR,iW,nf,e,show eqI 1 0=false from rfl,show eqI 1 1=true from rfl,show eqI 1 2=false from rfl,show eqI 1 3=false from rfl,dR,(iH hi.hs).1,(iH hi.hs).2,bX,bZ,wz,m0,m1,p1,p2,a1,a2,fm,b1,b2,F.s1,F.s2,setF]
    rfl
  ·obtain⟨a1,a2⟩:=aXL (x:=x) (pc:=pc) (w:=w) (s:=s) (h:=h) p3 hb hi.hs p4;obtain⟨b0,b3⟩:=GD (s:=s) (pc:=pc) (w:=w) (k:=1) (v:=0) p3 hb hi.hs (LG hi.hs) p4 (by decide)
   have am:=B3 (r:=(bM r x.Size x.Ea).1) (zs:=zs) (l:=l) (s:=s) (pc:=pc) (w:=w) (k:=1) (sz:=x.Size) (a:=(bM r x.Size x.Ea).2) (v:=0);have hq:fD (mq r zs l s pc w) x=((cM (mq (bM r x.Size x.Ea).1 zs l s pc w) 1 x.Size (bM r x.Size x.Ea).2 0).1,(cM (mq (bM r x.Size x.Ea).1 zs l s pc w) 1 x.Size (bM r x.Size x.Ea).2 0).2,(bM r x.Size x.Ea).2):=by unfold fD dN;rw[e,m0,m2,m3];rfl
   rw[hq];have aa:cM ⟨(bM r x.Size x.Ea).1,zs,l,s,ff pc w⟩ 1 x.Size (bM r x.Size x.Ea).2 0=cM (mq (bM r x.Size x.Ea).1 zs l s pc w) 1 x.Size (bM r x.Size x.Ea).2 0:=rfl;rw[aa]at a2;have sr:(cM (mq (bM r x.Size x.Ea).1 zs l s pc w) 1 x.Size (bM r x.Size x.Ea).2 0).1.r=(bM r x.Size x.Ea).1:=rfl;have st:(cM (mq (bM r x.Size x.Ea).1 zs l s pc w) 1 x.Size (bM r x.Size x.Ea).2 0).1.stop=s:=rfl;generalize hA:cM (mq (bM r x.Size x.Ea).1 zs l s pc w) 1 x.Size (bM r x.Size x.Ea).2 0=A at a1 a2 b0 b3 am sr st;obtain⟨A1,v⟩:=A;dsimp only at a1 a2 b0 b3 am sr st⊢;unfold EJ;cases hfi:bY A1
   ·obtain⟨e1,e2⟩:=zP hfi;simp only[bG,nC,nB,j9,lV,kP,nA,m9,j8,oQ,m7,m6,j7,lU,kO,m5,kN,mZ,j6,kM,oP,lT,oO,oN,lS,mY,mX,j5,lQ,kL,mW,mV,j0,oM,cT,mU,mT,jZ,lP,kK,mS,kJ,mR,mQ,oD,pA,sK,pZ,sJ,mI,sI,pY,jB,cS,o7,pK,pQ,o8,lW,nN,lX,kW,eM,eN,aW,cH,aU,bE,aT,aR,iW,nf,e,show eqI 2 0=false from rfl,show eqI 2 1=false from rfl,show eqI 2 2=true from rfl,show eqI 2 3=false from rfl,dR,(iH hi.hs).1,(iH hi.hs).2,bX,bZ,wz,m0,m1,p1,p2,a1,a2,e1,e2,sr,st,hfi]
   ·have e1:=tC hfi;have am:=am hfi;rw[e1]at a2;rw[am];unfold xE;have fm:bY (mq (bM r x.Size x.Ea).1 A1.zs A1.l s pc w)=true:=rfl;have lv:=kE hi.hs b3;obtain⟨-,u0,u1⟩:=qC b3;have xt:=aXM hi.hs u0 u1;have hv2:dA x.Size (bS x.Size-1-v)=true:=(PX (x:=x) (f:=0) hi.hs (by decide) b3).1|>fun z=>by unfold xE at z;rw[e]at z;exact z
    have F:=a0V (pc:=pc) (w:=w) (v:=bS x.Size-1-v) (s:=s) (h:=h) p3 b0 hi.hs hi.ho p4 hv2;simp only[bG,nC,nB,j9,lV,kP,nA,m9,j8,oQ,m7,m6,j7,lU,kO,m5,kN,mZ,j6,kM,oP,lT,oO,oN,lS,mY,mX,j5,lQ,kL,mW,mV,j0,oM,cT,mU,mT,jZ,lP,kK,mS,kJ,mR,mQ,oD,pA,sK,pZ,sJ,mI,sI,pY,jB,cS,o7,pK,pQ,o8,lW,nN,lX,kW,eM,eN,aW,cH,aU,bE,aT,aR,iW,nf,e,show eqI 2 0=false from rfl,show eqI 2 1=false from rfl,show eqI 2 2=true from rfl,show eqI 2 3=false from rfl,dR,(iH hi.hs).1,(iH hi.hs).2,bX,bZ,wz,m0,m1,p1,p2,a1,a2,fm,xt,F.s1,F.s2,F.g1,F.g2]
    rfl
  ·obtain⟨a1,a2⟩:=aXL (x:=x) (pc:=pc) (w:=w) (s:=s) (h:=h) p3 hb hi.hs p4;obtain⟨b0,b3⟩:=GD (s:=s) (pc:=pc) (w:=w) (k:=1) (v:=0) p3 hb hi.hs (LG hi.hs) p4 (by decide)
   have am:=B3 (r:=(bM r x.Size x.Ea).1) (zs:=zs) (l:=l) (s:=s) (pc:=pc) (w:=w) (k:=1) (sz:=x.Size) (a:=(bM r x.Size x.Ea).2) (v:=0);have hq:fD (mq r zs l s pc w) x=((cM (mq (bM r x.Size x.Ea).1 zs l s pc w) 1 x.Size (bM r x.Size x.Ea).2 0).1,(cM (mq (bM r x.Size x.Ea).1 zs l s pc w) 1 x.Size (bM r x.Size x.Ea).2 0).2,(bM r x.Size x.Ea).2):=by unfold fD dN;rw[e,m0,m2,m3];rfl
   rw[hq];have aa:cM ⟨(bM r x.Size x.Ea).1,zs,l,s,ff pc w⟩ 1 x.Size (bM r x.Size x.Ea).2 0=cM (mq (bM r x.Size x.Ea).1 zs l s pc w) 1 x.Size (bM r x.Size x.Ea).2 0:=rfl;rw[aa]at a2;have sr:(cM (mq (bM r x.Size x.Ea).1 zs l s pc w) 1 x.Size (bM r x.Size x.Ea).2 0).1.r=(bM r x.Size x.Ea).1:=rfl;have st:(cM (mq (bM r x.Size x.Ea).1 zs l s pc w) 1 x.Size (bM r x.Size x.Ea).2 0).1.stop=s:=rfl;generalize hA:cM (mq (bM r x.Size x.Ea).1 zs l s pc w) 1 x.Size (bM r x.Size x.Ea).2 0=A at a1 a2 b0 b3 am sr st;obtain⟨A1,v⟩:=A;dsimp only at a1 a2 b0 b3 am sr st⊢;unfold EJ;cases hfi:bY A1
   ·obtain⟨e1,e2⟩:=zP hfi;simp only[bG,nC,nB,j9,lV,kP,nA,m9,j8,oQ,m7,m6,j7,lU,kO,m5,kN,mZ,j6,kM,oP,lT,oO,oN,lS,mY,mX,j5,lQ,kL,mW,mV,j0,oM,cT,mU,mT,jZ,lP,kK,mS,kJ,mR,mQ,oD,pA,sK,pZ,sJ,mI,sI,pY,jB,cS,o7,pK,pQ,o8,lW,nN,lX,kW,eM,eN,aW,cH,aU,bE,aT,aR,iW,nf,e,show eqI 3 0=false from rfl,show eqI 3 1=false from rfl,show eqI 3 2=false from rfl,show eqI 3 3=true from rfl,dR,(iH hi.hs).1,(iH hi.hs).2,bX,bZ,wz,m0,m1,p1,p2,a1,a2,e1,e2,sr,st,hfi]
   ·have e1:=tC hfi;have am:=am hfi;rw[e1]at a2;rw[am];unfold xE;have fm:bY (mq (bM r x.Size x.Ea).1 A1.zs A1.l s pc w)=true:=rfl;obtain⟨g1,g2⟩:=N9 (v:=v) (x:=x) (pc:=pc) (w:=w) (f:=f0) (zs:=A1.zs) (l:=A1.l) (s:=s) (h:=h) p3 hi.hs;simp only[bG,nC,nB,j9,lV,kP,nA,m9,j8,oQ,m7,m6,j7,lU,kO,m5,kN,mZ,j6,kM,oP,lT,oO,oN,lS,mY,mX,j5,lQ,kL,mW,mV,j0,oM,cT,mU,mT,jZ,lP,kK,mS,kJ,mR,mQ,oD,pA,sK,pZ,sJ,mI,sI,pY,jB,cS,o7,pK,pQ,o8,lW,nN,lX,kW,eM,eN,aW,cH,aU,bE,aT,aR,iW,nf,e,show eqI 3 0=false from rfl,show eqI 3 1=false from rfl,show eqI 3 2=false from rfl,show eqI 3 3=true from rfl,dR,(iH hi.hs).1,(iH hi.hs).2,bX,bZ,wz,m0,m1,p1,p2,a1,a2,fm,g1,g2]
    rfl
end Go.Proofs.YtdicpjkdpliofaaGreatBoundaries

namespace Go.Proofs.YtdicpjkdpliofaaGreatBoundaries
open Go Go.Zq
set_option maxHeartbeats 4000000
set_option maxRecDepth 100000
theorem bMZ{w e:Int}(h:cA w 0 65535=true):W (xD w e)=w:=by
 rw[aM]at h;unfold W xD;dsimp only;omega
theorem b1P{x:aN}(hg:kZ x=true):bHS x=true∧TO x=ri (B0 x):=by
 refine aF (t:=a6M x) (P:=fun q=>q=ri (B0 x)) ?_
 have R:=rng hg;have hm:cA x.Ea.Mode 0 7=true:=(InsOk.of hg).ho.hm;have e:=W_i R;unfold a6M B0;simp only[aQ,cB,aJ,(Y1 _).1,(Y1 _).2,aPM hm,e,Bool.and_true,true_and];exact⟨fun q=>by rw[q];rfl,fun q=>by rw[q];rfl⟩
def beh(x:aN)(pc:Int):Int:=(pc+2*((B0 x).length:Int))%65536
theorem aH6(x:aN):(B0 x).length=1∨(B0 x).length=2:=by
 unfold B0;cases geI x.Ea.Mode 5
 ·exact Or.inl rfl
 ·exact Or.inr rfl
theorem P0{x:aN}{pc w:Int}{f:aH}(c:aD)(hg:kZ x=true)(hp:cA pc 0 65535=true):aZC (dG x pc w f) c=true∧aGW (dG x pc w f) c=beh x pc:=by
 refine aF (t:=a6Q (dG x pc w f) c) (P:=fun q=>q=beh x pc) ?_
 obtain⟨e1,e2⟩:=b1P hg;have hl:=aH6 x;have hp:=aM.1 hp;have e3:aZ (aV pc (cX 2 ((B0 x).length:Int))) 65535=beh x pc:=by
  rw[gH (by omega),bJ (by omega),tQ];rfl
 unfold a6Q;simp only[bG,aL8,aL7,o7,pK,e1,e2,aP,aY,e3,Nat.zero_add,show lJ (B0 x).length (B0 x).length=true from nE.2 (Nat.le_refl _),dW,wz,bZ]
theorem bLJ(r:RM)(zs:List Int)(l:List aA)(s:Bool)(pc w v:Int):(dV (mm r zs l s) v).r=(dV (mq r zs l s pc w) v).r∧(dV (mm r zs l s) v).zs=(dV (mq r zs l s pc w) v).zs∧(dV (mm r zs l s) v).l=(dV (mq r zs l s pc w) v).l∧(dV (mq r zs l s pc w) v).stop=s∧dF (dV (mq r zs l s pc w) v)=dF (cM (mq r zs l s pc w) 2 2 ((cP r.a 3-2)%65536) v).1:=by
 have h1:bY (cM (mm r zs l s) 2 2 ((cP r.a 3-2)%65536) v).1=eqI (cQ 2 2 ((cP r.a 3-2)%65536)) 0:=jR rfl;have h2:bY (cM (mq r zs l s pc w) 2 2 ((cP r.a 3-2)%65536) v).1=eqI (cQ 2 2 ((cP r.a 3-2)%65536)) 0:=jR rfl;unfold dV;rw[show(mm r zs l s).r=r from rfl,show(mq r zs l s pc w).r=r from rfl,h1,h2]
 cases eqI (cQ 2 2 ((cP r.a 3-2)%65536)) 0<;>exact⟨rfl,rfl,rfl,rfl,rfl⟩
theorem bVM(r:RM)(zs:List Int)(l:List aA)(s:Bool)(pc w:Int):(dE (mm r zs l s)).1.r=(dE (mq r zs l s pc w)).1.r∧(dE (mm r zs l s)).1.zs=(dE (mq r zs l s pc w)).1.zs∧(dE (mm r zs l s)).1.l=(dE (mq r zs l s pc w)).1.l∧(dE (mm r zs l s)).2=(dE (mq r zs l s pc w)).2∧(dE (mq r zs l s pc w)).1.stop=s∧dF (dE (mq r zs l s pc w)).1=dF (cM (mq r zs l s pc w) 1 2 (cP r.a 3) 0).1:=by
 have h1:bY (cM (mm r zs l s) 1 2 (cP r.a 3) 0).1=eqI (cQ 1 2 (cP r.a 3)) 0:=jR rfl;have h2:bY (cM (mq r zs l s pc w) 1 2 (cP r.a 3) 0).1=eqI (cQ 1 2 (cP r.a 3)) 0:=jR rfl;unfold dE;rw[show(mm r zs l s).r=r from rfl,show(mq r zs l s pc w).r=r from rfl,h1,h2]
 cases eqI (cQ 1 2 (cP r.a 3)) 0<;>exact⟨rfl,rfl,rfl,rfl,rfl,rfl⟩
theorem b1Q{x:aN}{pc w v:Int}{r:RM}{zs:List Int}{l:List aA}{s h:Bool}(hr:r.Ok 65535)(hb:BusOk zs l)(h0:0≤v)(h1:v≤65535):bQS v (dG x pc w f0) (bB r zs l s h)=true∧bQR v (dG x pc w f0) (bB r zs l s h)=dR x pc w h (dV (mq r zs l s pc w) v):=by
 refine aF (t:=a7J v (dG x pc w f0) (bB r zs l s h)) (P:=fun q=>q=dR x pc w h (dV (mq r zs l s pc w) v)) ?_
 obtain⟨a1,a2⟩:=aPT (v:=v) (s:=s) (h:=h) hr hb h0 h1;obtain⟨e1,e2,e3,e4,e5⟩:=bLJ r zs l s pc w v;have e6:=N8 (pc:=pc) (w:=w) (r:=r) (zs:=zs) (l:=l) (s:=s) 2 2 ((cP r.a 3-2)%65536) v;unfold a7J;simp only[bG,a1,a2,(qQ _ _ _ _ _ _ _ _).1,(qQ _ _ _ _ _ _ _ _).2,dW,wz];unfold dR;rw[e1,e2,e3,e4,e5];exact Prod.ext (congrArg (dG x pc w) e6.symm) rfl
theorem b1R{x:aN}{pc w:Int}{r:RM}{zs:List Int}{l:List aA}{s h:Bool}(hr:r.Ok 65535)(hb:BusOk zs l):aZP (dG x pc w f0) (bB r zs l s h)=true∧DW (dG x pc w f0) (bB r zs l s h)=((dR x pc w h (dE (mq r zs l s pc w)).1).1,(dR x pc w h (dE (mq r zs l s pc w)).1).2,(dE (mq r zs l s pc w)).2):=by
 refine aF (t:=aMZ (dG x pc w f0) (bB r zs l s h)) (P:=fun q=>q=((dR x pc w h (dE (mq r zs l s pc w)).1).1,(dR x pc w h (dE (mq r zs l s pc w)).1).2,(dE (mq r zs l s pc w)).2)) ?_
 obtain⟨a1,a2⟩:=b1D (s:=s) (h:=h) hr hb;obtain⟨e1,e2,e3,e4,e5,e6⟩:=bVM r zs l s pc w;have e7:=N8 (pc:=pc) (w:=w) (r:=r) (zs:=zs) (l:=l) (s:=s) 1 2 (cP r.a 3) 0;have nf:cU f0.Vector 0=false:=rfl;unfold aMZ;simp only[bG,o8,nf,a1,a2,(qQ _ _ _ _ _ _ _ _).1,(qQ _ _ _ _ _ _ _ _).2,bX,wz];unfold dR;rw[e1,e2,e3,e4,e5,e6];exact Prod.ext (congrArg (dG x pc w) e7.symm) rfl
theorem cDQ{x:aN}{pc w:Int}{f:aH}(c:aD)(hf:cU f.Vector 0=true):aZP (dG x pc w f) c=true∧DW (dG x pc w f) c=(dG x pc w f,c,0):=by
 refine aF (t:=aMZ (dG x pc w f) c) (P:=fun q=>q=(dG x pc w f,c,0)) ?_
 unfold aMZ;simp only[bG,o8,hf,bX,wz]
theorem b1S{x:aN}(h:x.Op=14):kB x=bif (bif (bif eqI x.Size 2 then eqI x.Reg 0 else false)then leI x.Sub 1 else false)then uV x.Ea.Mode else false:=by
 unfold kB;rw[h];rfl
theorem aFI{a b:Bool}(h:(bif a then b else false)=true):a=true∧b=true:=by
 cases a
 ·cases h
 ·exact⟨rfl,h⟩
theorem V6{m:Int}(h:uV m=true):2≤m∧m≤6:=by
 unfold uV at h;cases h1:(bif eqI m 2 then true else eqI m 5)
 ·rw[h1,cond_false,dL]at h;omega
 ·cases h2:eqI m 2
  ·rw[h2,cond_false,dL]at h1;omega
  ·rw[dL]at h2;omega
theorem a0W{x:aN}(h:InsOk x)(h2:x.Op=14):x.Size=2∧(2≤x.Ea.Mode∧x.Ea.Mode≤6):=by
 have hk:=h.kb;rw[b1S h2]at hk;obtain⟨h1,h3⟩:=aFI hk;obtain⟨h1,-⟩:=aFI h1;obtain⟨h1,-⟩:=aFI h1;exact⟨dL.1 h1,V6 h3⟩
def Alike(x:aN)(pc w:Int)(h s:Bool)(J:MM)(q:bD×aD):Prop:=
 ∃r' s',(bY J=true→r'=J.r∧s'=J.stop)∧(bY J=false→s'=s)∧q=(dG x pc w (dF J),bB r' J.zs J.l s' h)
theorem Alike.of{x:aN}{pc w:Int}{h s:Bool}{J:MM}(hs:J.stop=s):Alike x pc w h s J (dR x pc w h J):=⟨J.r,J.stop,fun _=>⟨rfl,rfl⟩,fun _=>hs,rfl⟩
theorem Alike.of'{x:aN}{pc w:Int}{h s:Bool}{J:MM}(hs:bY J=false→J.stop=s):Alike x pc w h s J (dR x pc w h J):=⟨J.r,J.stop,fun _=>⟨rfl,rfl⟩,hs,rfl⟩
theorem b1T{x:aN}{pc w:Int}{r:RM}{zs:List Int}{l:List aA}{s h:Bool}(hr:r.Ok 65535)(hb:BusOk zs l)(hg:kZ x=true)(h2:x.Op=14)(hp:cA pc 0 65535=true)(hpc:r.pc=beh x pc):bQT (dG x pc w f0) (bB r zs l s h)=true∧Alike x pc w h s (AH (mq r zs l s pc w) x pc) (aZO (dG x pc w f0) (bB r zs l s h)):=by
 refine aF (t:=a7K (dG x pc w f0) (bB r zs l s h)) (P:=fun q=>Alike x pc w h s (AH (mq r zs l s pc w) x pc) q) ?_
 have hi:=InsOk.of hg;obtain⟨k1,hm⟩:=a0W hi h2;obtain⟨m0,m1,-,-⟩:=PZ hm;obtain⟨p1,p2⟩:=V5 hr hi.hs hi.ho hm;obtain⟨p3,p4⟩:=rQ (s:=x.Size) hr hi.ho;have hpl:(bM r x.Size x.Ea).1.pc=r.pc:=by
  unfold bM;cases eqI x.Ea.Mode 3
  ·cases eqI x.Ea.Mode 4
   ·cases eqI x.Ea.Mode 5
    ·cases eqI x.Ea.Mode 6<;>rfl
    ·rfl
   ·rfl
  ·rfl
 have hbr:=aM.1 hr.pw;rw[hpc]at hbr;obtain⟨b1,b2⟩:=P0 (w:=w) (f:=f0) (bB (bM r x.Size x.Ea).1 zs l s h) hg hp;obtain⟨q1,q2⟩:=b1Q (x:=x) (pc:=pc) (w:=w) (v:=beh x pc) (s:=s) (h:=h) p3 hb hbr.1 hbr.2;have sp:kI (mq r zs l s pc w) 2 x.Ea=(mq (bM r x.Size x.Ea).1 zs l s pc w,(bM r x.Size x.Ea).2):=by unfold kI;rw[m0,k1];rfl
 unfold a7K AH;rw[h2,show eqI 14 13=false from rfl,cond_false,sp]
 simp only[bG,NA,aMW,TX,wP,o7,pK,pQ,o8,lW,nN,lX,kW,iW,p1,p2,b1,b2,q1,q2,dW,wz];refine⟨fun e=>?_,fun e=>?_⟩
 ·have j2:WZ x (mq (bM r x.Size x.Ea).1 zs l s pc w,(bM r x.Size x.Ea).2)=dV (mq (bM r x.Size x.Ea).1 zs l s pc w) (beh x pc):=by
   unfold WZ;rw[e,cond_true,←hpc,←hpl];rfl
  rw[j2];have js:(dV (mq (bM r x.Size x.Ea).1 zs l s pc w) (beh x pc)).stop=s:=ZC _ _;generalize dV (mq (bM r x.Size x.Ea).1 zs l s pc w) (beh x pc)=J at js;refine⟨{J.r with pc:=(bM r x.Size x.Ea).2},J.stop,fun hf=>?_,fun _=>js,?_⟩
  ·unfold a0F at hf⊢;cases hj:bY J
   ·rw[hj,cond_false,hj]at hf;cases hf
   ·exact⟨rfl,rfl⟩
  ·unfold a0F dF;cases hj:bY J
   ·rw[cond_false,hj];unfold dR dF;rw[hj];rfl
   ·rw[cond_true];have:bY {J with r:={J.r with pc:=(bM r x.Size x.Ea).2}}=true:=hj
    rw[this];unfold dR dF;rw[hj];rfl
 ·have j2:WZ x (mq (bM r x.Size x.Ea).1 zs l s pc w,(bM r x.Size x.Ea).2)=mq (bM r x.Size x.Ea).1 zs l s pc w:=by
   unfold WZ;rw[e];rfl
  rw[j2];exact Alike.of rfl
theorem bC4(r:RM)(p v:Int):dH {r with pc:=p} v={dH r v with pc:=p}:=by
 unfold dH;dsimp only;cases yF (eqI (v/256%2) 1) r.sup<;>rfl
theorem a0X{x:aN}(h:InsOk x)(h2:x.Op=15):x.Size=2:=by
 have hk:=h.kb;rw[bCC h2]at hk;unfold LD at hk;cases e:(bif cU x.Size 2 then true else kV x.Sub 6)
 ·cases e2:cU x.Size 2
  ·exact O1.1 e2
  ·rw[e2]at e;cases e
 ·rw[e]at hk;cases hk
theorem aH7(m:MM)(v:Int)(h:eqI v 0=false):dF (zO m v)={m.f with Vector:=v,PC:=m.r.pc}:=by
 have:bY (zO m v)=false:=h;unfold dF;rw[this];rfl
theorem b1U{v:Int}(h0:0≤v)(h1:v≤65535):eT (eW v 8) (nL (aZ v 255) 8)=EK v:=by
 unfold EK Y3;rw[aM.2 ⟨h0,h1⟩];rfl
theorem bVN{r:RM}{zs:List Int}{l:List aA}{s:Bool}{pc w:Int}(h:bY (dE (mq r zs l s pc w)).1=true):(dE (mq r zs l s pc w)).1=mq (dE (mq r zs l s pc w)).1.r (dE (mq r zs l s pc w)).1.zs (dE (mq r zs l s pc w)).1.l s pc w:=by
 have e:(dE (mq r zs l s pc w)).1={(cM (mq r zs l s pc w) 1 2 (cP r.a 3) 0).1 with r:=(dE (mq r zs l s pc w)).1.r}:=by
  unfold dE;cases bY (cM (mq r zs l s pc w) 1 2 (cP (mq r zs l s pc w).r.a 3) 0).1<;>rfl
 have hf:bY (cM (mq r zs l s pc w) 1 2 (cP r.a 3) 0).1=true:=by rw[e]at h;exact h
 have:=B3 hf;rw[e,this];rfl
theorem b1V{x:aN}{pc w:Int}{r:RM}{zs:List Int}{l:List aA}{s h:Bool}(hr:r.Ok 65535)(hb:BusOk zs l)(hg:kZ x=true)(h2:x.Op=15)(hp:cA pc 0 65535=true)(hpc:r.pc=beh x pc):bQV (dG x pc w f0) (bB r zs l s h)=true∧Alike x pc w h s (EM (mq r zs l s pc w) x) (aZQ (dG x pc w f0) (bB r zs l s h)):=by
 refine aF (t:=a7M (dG x pc w f0) (bB r zs l s h)) (P:=fun q=>Alike x pc w h s (EM (mq r zs l s pc w) x) q) ?_
 have hi:=InsOk.of hg;have hsz:=a0X hi h2;obtain⟨d1,d2,d3⟩:=jQ hr.d4 hi.hr;obtain⟨s1,s2,s3,s4,s5⟩:=fV (v:=0) hr.d4 hi.hr;rw[Nat.zero_add]at s5;have dr:=oE hr.dw hr.d4 hi.hr;obtain⟨q1,q2⟩:=b1R (x:=x) (pc:=pc) (w:=w) (s:=s) (h:=h) hr hb;obtain⟨o1,o2,o3⟩:=JI (LO (s:=s) (pc:=pc) (w:=w) hr hb);have ps:(dE (mq r zs l s pc w)).1.stop=s:=aH1 _;unfold a7M EM;have hsub:x.Sub=0∨x.Sub=1∨x.Sub=2∨x.Sub=3∨x.Sub=4∨x.Sub=5∨x.Sub=6∨x.Sub=7:=by have:=aM.1 hi.hb;omega
 rcases hsub with e|e|e|e|e|e|e|e
 ·simp only[bG,oS,oR,pO,nD,uJ,uI,uH,uG,uF,uE,uD,uC,uB,jC,o7,pK,pQ,o8,lW,nN,lX,kW,eM,eN,aW,cH,aU,bE,aT,aR,iW,e,show eqI 0 0=true from rfl,show eqI 0 1=false from rfl,show eqI 0 3=false from rfl,show eqI 0 4=false from rfl,show eqI 0 5=false from rfl,show eqI 0 6=false from rfl,Nat.zero_add,aP,aY,d2,s3,s4,s5,q1,q2,bZ,bX,wz]
  exact Alike.of (J:={(dE (mq r zs l s pc w)).1 with r:={(dE (mq r zs l s pc w)).1.r with pc:=(dE (mq r zs l s pc w)).2}}) ps
 ·cases hf:bY (dE (mq r zs l s pc w)).1
  ·obtain⟨e1,e2⟩:=zP hf;obtain⟨n1,n2⟩:=cDQ (x:=x) (pc:=pc) (w:=w) (f:=(dE (mq r zs l s pc w)).1.f) (dR x pc w h (dE (mq r zs l s pc w)).1).2 e2;have e3:eqI (dE (mq r zs l s pc w)).1.f.Vector 0=false:=hf;have dr1:(dR x pc w h (dE (mq r zs l s pc w)).1).1=dG x pc w (dE (mq r zs l s pc w)).1.f:=by unfold dR;rw[e1]
   simp only[bG,oS,oR,pO,nD,uJ,uI,uH,uG,uF,uE,uD,uC,uB,jC,o7,pK,pQ,o8,lW,nN,lX,kW,eM,eN,aW,cH,aU,bE,aT,aR,iW,e,show eqI 1 0=false from rfl,show eqI 1 1=true from rfl,show eqI 1 3=false from rfl,show eqI 1 4=false from rfl,show eqI 1 5=false from rfl,show eqI 1 6=false from rfl,Nat.zero_add,aP,aY,d2,s3,s4,s5,q1,q2,bZ,bX,wz,dr1,n1,n2,e3]
   have:(dG x pc w (dE (mq r zs l s pc w)).1.f,(dR x pc w h (dE (mq r zs l s pc w)).1).2)=dR x pc w h (dE (mq r zs l s pc w)).1:=by rw[←dr1]
   rw[this];exact Alike.of ps
  ·have e1:=tC hf;have em:=bVN hf;have dr1:(dR x pc w h (dE (mq r zs l s pc w)).1).1=dG x pc w f0:=by unfold dR;rw[e1]
   have dr2:(dR x pc w h (dE (mq r zs l s pc w)).1).2=bB (dE (mq r zs l s pc w)).1.r (dE (mq r zs l s pc w)).1.zs (dE (mq r zs l s pc w)).1.l s h:=by unfold dR;rw[ps]
   obtain⟨n1,n2⟩:=b1R (x:=x) (pc:=pc) (w:=w) (s:=s) (h:=h) o1.r o1.b;obtain⟨u1,u2,u3⟩:=JI (LO (s:=s) (pc:=pc) (w:=w) o1.r o1.b);have us:(dE (mq (dE (mq r zs l s pc w)).1.r (dE (mq r zs l s pc w)).1.zs (dE (mq r zs l s pc w)).1.l s pc w)).1.stop=s:=aH1 _;have em2:dE (dE (mq r zs l s pc w)).1=dE (mq (dE (mq r zs l s pc w)).1.r (dE (mq r zs l s pc w)).1.zs (dE (mq r zs l s pc w)).1.l s pc w):=congrArg dE em;have ew:aZ (dE (mq r zs l s pc w)).2 1023=(dE (mq r zs l s pc w)).2%1024:=iZ 10 _ (by omega) (by decide)
   rw[em2];generalize dE (mq (dE (mq r zs l s pc w)).1.r (dE (mq r zs l s pc w)).1.zs (dE (mq r zs l s pc w)).1.l s pc w)=Q at n1 n2 u1 u2 u3 us;obtain⟨Q1,v⟩:=Q;dsimp only at n1 n2 u1 u2 u3 us⊢;obtain⟨t1,t2⟩:=aFC (v:=(dE (mq r zs l s pc w)).2%1024) u1.r (by rw[aM];omega)
   cases hf2:bY Q1
   ·obtain⟨g1,g2⟩:=zP hf2;have g3:eqI Q1.f.Vector 0=false:=hf2;have g4:(dR x pc w h Q1).1.ffault=Q1.f:=by unfold dR;rw[g1];rfl
    simp only[bG,oS,oR,pO,nD,uJ,uI,uH,uG,uF,uE,uD,uC,uB,jC,o7,pK,pQ,o8,lW,nN,lX,kW,eM,eN,aW,cH,aU,bE,aT,aR,iW,e,show eqI 1 0=false from rfl,show eqI 1 1=true from rfl,show eqI 1 3=false from rfl,show eqI 1 4=false from rfl,show eqI 1 5=false from rfl,show eqI 1 6=false from rfl,Nat.zero_add,aP,aY,d2,s3,s4,s5,q1,q2,bZ,bX,wz,dr1,dr2,n1,n2,g3,g4]
    exact Alike.of us
   ·have g1:=tC hf2;have g3:eqI f0.Vector 0=true:=rfl;have g4:(dR x pc w h Q1).1.ffault=f0:=by unfold dR;rw[g1];rfl
    have g5:(dR x pc w h Q1).2.R=Q1.r.g:=rfl;simp only[bG,oS,oR,pO,nD,uJ,uI,uH,uG,uF,uE,uD,uC,uB,jC,o7,pK,pQ,o8,lW,nN,lX,kW,eM,eN,aW,cH,aU,bE,aT,aR,iW,e,show eqI 1 0=false from rfl,show eqI 1 1=true from rfl,show eqI 1 3=false from rfl,show eqI 1 4=false from rfl,show eqI 1 5=false from rfl,show eqI 1 6=false from rfl,Nat.zero_add,aP,aY,d2,s3,s4,s5,q1,q2,bZ,bX,wz,dr1,dr2,n1,n2,g3,g4,g5,ew,t1,t2]
    rw[bC4];exact Alike.of (J:={Q1 with r:={dH Q1.r ((dE (mq r zs l s pc w)).2%1024)with pc:=v}}) us
 ·simp only[bG,oS,oR,pO,nD,uJ,uI,uH,uG,uF,uE,uD,uC,uB,jC,o7,pK,pQ,o8,lW,nN,lX,kW,eM,eN,aW,cH,aU,bE,aT,aR,iW,e,show eqI 2 0=false from rfl,show eqI 2 1=false from rfl,show eqI 2 3=false from rfl,show eqI 2 4=false from rfl,show eqI 2 5=false from rfl,show eqI 2 6=false from rfl,Nat.zero_add,aP,aY,d2,s3,s4,s5,q1,q2,bZ,bX,wz]
  exact Alike.of (J:=mq r zs l s pc w) rfl
 ·have hx:cA x.Ea.Ext 0 1023=true:=by
   have:=aM.1 hi.ho.he;have:=Y4 hi h2 e;rw[aM];omega
  obtain⟨t1,t2⟩:=aFC (v:=x.Ea.Ext) hr hx;simp only[bG,oS,oR,pO,nD,uJ,uI,uH,uG,uF,uE,uD,uC,uB,jC,o7,pK,pQ,o8,lW,nN,lX,kW,eM,eN,aW,cH,aU,bE,aT,aR,iW,e,show eqI 3 0=false from rfl,show eqI 3 1=false from rfl,show eqI 3 3=true from rfl,show eqI 3 4=false from rfl,show eqI 3 5=false from rfl,show eqI 3 6=false from rfl,Nat.zero_add,aP,aY,d2,s3,s4,s5,q1,q2,bZ,bX,wz,t1,t2]
  exact Alike.of' (J:={mq r zs l s pc w with r:=dH r x.Ea.Ext,stop:=true}) (fun hf=>by cases hf)
 ·obtain⟨b1,b2⟩:=P0 (w:=w) (f:=f0) (bB r zs l s h) hg hp;have hrg:=aM.1 hi.hr;have ea:aV 18 x.Reg=18+x.Reg:=bJ (by omega)
  have hv:eqI (18+x.Reg) 0=false:=hJ.2 (by omega)
  simp only[bG,oS,oR,pO,nD,uJ,uI,uH,uG,uF,uE,uD,uC,uB,jC,o7,pK,pQ,o8,lW,nN,lX,kW,eM,eN,aW,cH,aU,bE,aT,aR,iW,e,show eqI 4 0=false from rfl,show eqI 4 1=false from rfl,show eqI 4 3=false from rfl,show eqI 4 4=true from rfl,show eqI 4 5=false from rfl,show eqI 4 6=false from rfl,Nat.zero_add,aP,aY,d2,s3,s4,s5,q1,q2,bZ,bX,wz,b1,b2,ea,(tA _ _ _ _ _ _ _).1,(tA _ _ _ _ _ _ _).2]
  have hd:=aH7 (mq r zs l s pc w) (18+x.Reg) hv;have hfl:V4 (18+x.Reg) (beh x pc) f0 w=dF (zO (mq r zs l s pc w) (18+x.Reg)):=by
   rw[hd,←hpc];rfl
  rw[hfl];exact Alike.of (J:=zO (mq r zs l s pc w) (18+x.Reg)) rfl
 ·have sv:=VV (v:=cP r.d x.Reg);obtain⟨t1,t2⟩:=toD (x:=x) (pc:=pc) (w:=w) (f:=f0) (zs:=zs) (l:=l) (s:=s) (h:=h) (v:=EK (cP r.d x.Reg)) hr hi.hs hi.hr (fun z=>by omega) sv.1 sv.2
  rw[show cU f0.Vector 0=false from rfl,cond_false]at t2
  have es:=b1U (v:=cP r.d x.Reg) dr.1 (by omega)
  simp only[bG,oS,oR,pO,nD,uJ,uI,uH,uG,uF,uE,uD,uC,uB,jC,o7,pK,pQ,o8,lW,nN,lX,kW,eM,eN,aW,cH,aU,bE,aT,aR,iW,e,show eqI 5 0=false from rfl,show eqI 5 1=false from rfl,show eqI 5 3=false from rfl,show eqI 5 4=false from rfl,show eqI 5 5=true from rfl,show eqI 5 6=false from rfl,Nat.zero_add,aP,aY,d2,s3,s4,s5,q1,q2,bZ,bX,wz,es,t1,t2]
  rw[hsz];exact Alike.of (J:=CA (mq r zs l s pc w) 2 x.Reg (EK (cP r.d x.Reg))) rfl
 ·have sv:=aW3 (v:=cP r.d x.Reg);obtain⟨t1,t2⟩:=toD (x:=x) (pc:=pc) (w:=w) (f:=f0) (zs:=zs) (l:=l) (s:=s) (h:=h) (v:=WY (cP r.d x.Reg)) hr hi.hs hi.hr (fun z=>by omega) sv.1 sv.2
  rw[show cU f0.Vector 0=false from rfl,cond_false]at t2
  have e8:aZ (cP r.d x.Reg) 255=cP r.d x.Reg%256:=zK dr.1 (by omega)
  obtain⟨g1,g2⟩:=YZ (s:=1) (v:=cP r.d x.Reg%256) (Or.inl rfl) (by omega) (by omega)
  have ee:aZ (AE 1 (cP r.d x.Reg%256)) 65535=WY (cP r.d x.Reg):=rfl;simp only[bG,oS,oR,pO,nD,uJ,uI,uH,uG,uF,uE,uD,uC,uB,jC,o7,pK,pQ,o8,lW,nN,lX,kW,eM,eN,aW,cH,aU,bE,aT,aR,iW,e,show eqI 6 0=false from rfl,show eqI 6 1=false from rfl,show eqI 6 3=false from rfl,show eqI 6 4=false from rfl,show eqI 6 5=false from rfl,show eqI 6 6=true from rfl,Nat.zero_add,aP,aY,d2,s3,s4,s5,q1,q2,bZ,bX,wz,e8,g1,g2,ee,t1,t2]
  rw[hsz];exact Alike.of (J:=CA (mq r zs l s pc w) 2 x.Reg (WY (cP r.d x.Reg))) rfl
 ·simp only[bG,oS,oR,pO,nD,uJ,uI,uH,uG,uF,uE,uD,uC,uB,jC,o7,pK,pQ,o8,lW,nN,lX,kW,eM,eN,aW,cH,aU,bE,aT,aR,iW,e,show eqI 7 0=false from rfl,show eqI 7 1=false from rfl,show eqI 7 3=false from rfl,show eqI 7 4=false from rfl,show eqI 7 5=false from rfl,show eqI 7 6=false from rfl,Nat.zero_add,aP,aY,d2,s3,s4,s5,q1,q2,bZ,bX,wz]
  exact Alike.of (J:=mq r zs l s pc w) rfl
end Go.Proofs.YtdicpjkdpliofaaGreatBoundaries

namespace Go.Proofs.YtdicpjkdpliofaaGreatBoundaries
open Go Go.Zq
set_option maxHeartbeats 4000000
set_option maxRecDepth 100000
theorem bVO{x:aN}(h:x.Op=16∨x.Op=17):kB x=bif (bif eqI x.Size 2 then eqI x.Sub 0 else false)then cU x.Ea.Mode 1 else false:=by
 unfold kB;rcases h with h|h<;>rw[h]<;>rfl
theorem bC5{x:aN}(h:InsOk x)(h2:x.Op=16∨x.Op=17):x.Size=2:=by
 have hk:=h.kb;rw[bVO h2]at hk;obtain⟨h1,-⟩:=aFI hk;obtain⟨h1,-⟩:=aFI h1;exact dL.1 h1
theorem bC6{x:aN}{pc w:Int}{r:RM}{zs:List Int}{l:List aA}{s h:Bool}(hr:r.Ok 65535)(hb:BusOk zs l)(hg:kZ x=true)(h2:x.Op=16∨x.Op=17)(hp:cA pc 0 65535=true)(hpc:r.pc=beh x pc):bQW (dG x pc w f0) (bB r zs l s h)=true∧aZR (dG x pc w f0) (bB r zs l s h)=dR x pc w h (kC (mq r zs l s pc w) x):=by
 refine aF (t:=a7N (dG x pc w f0) (bB r zs l s h)) (P:=fun q=>q=dR x pc w h (kC (mq r zs l s pc w) x)) ?_
 have hi:=InsOk.of hg;have hsz:=bC5 hi h2;obtain⟨r1,r2⟩:=aPY (pc:=pc) (w:=w) (s:=s) (h:=h) hr hb hi.hs hi.ho;obtain⟨r3,r4,r5⟩:=rT (LO (s:=s) (pc:=pc) (w:=w) hr hb) VW hi.ho o6 o6;have rpc:(dN (mq r zs l s pc w) 2 x.Ea).1.r.pc=r.pc:=by
  unfold dN;cases eqI x.Ea.Mode 0
  ·cases eqI x.Ea.Mode 1
   ·cases eqI x.Ea.Mode 7
    ·show(bM r 2 x.Ea).1.pc=r.pc
     unfold bM;cases eqI x.Ea.Mode 3
     ·cases eqI x.Ea.Mode 4
      ·cases eqI x.Ea.Mode 5
       ·cases eqI x.Ea.Mode 6<;>rfl
       ·rfl
      ·rfl
     ·rfl
    ·rfl
   ·rfl
  ·rfl
 have rst:(dN (mq r zs l s pc w) 2 x.Ea).1.stop=s:=by
  unfold dN;cases eqI x.Ea.Mode 0
  ·cases eqI x.Ea.Mode 1
   ·cases eqI x.Ea.Mode 7<;>rfl
   ·rfl
  ·rfl
 have rfm:bY (dN (mq r zs l s pc w) 2 x.Ea).1=true→(dN (mq r zs l s pc w) 2 x.Ea).1.f=ff pc w:=by
  unfold dN;cases eqI x.Ea.Mode 0
  ·cases eqI x.Ea.Mode 1
   ·cases eqI x.Ea.Mode 7
    ·intro hf;have:=B3 (r:=(bM r 2 x.Ea).1) (zs:=zs) (l:=l) (s:=s) (pc:=pc) (w:=w) hf;exact congrArg MM.f this
    ·exact fun _=>rfl
   ·exact fun _=>rfl
  ·exact fun _=>rfl
 rw[hsz]at r2;unfold a7N kC;generalize dN (mq r zs l s pc w) 2 x.Ea=q at r2 r3 r4 r5 rpc rst rfm;obtain⟨q1,v,a⟩:=q;dsimp only at r2 r3 r4 r5 rpc rst rfm⊢;obtain⟨qr,qz,ql,qs,qf⟩:=q1;have hqr:RM.Ok 65535 qr:=r3.r;dsimp only at rpc rst rfm;cases hfi:bY ⟨qr,qz,ql,qs,qf⟩
 ·obtain⟨e1,e2⟩:=zP hfi;simp only[bG,IY,NE,ND,BI,DX,IX,NC,o7,pK,pQ,o8,lW,nN,lX,kW,r1,r2,dR,e1,e2,bX,bZ,wz]
 ·have e1: ∀r',dF ⟨r',qz,ql,qs,qf⟩=f0:=fun r'=>tC (m:=⟨r',qz,ql,qs,qf⟩) hfi
  have nf:cU f0.Vector 0=false:=rfl;obtain⟨d1,d2,d3⟩:=jQ hqr.d4 hi.hr;obtain⟨s1,s2,s3,s4,s5⟩:=fV (v:=0) hqr.d4 hi.hr;rw[Nat.zero_add]at s5;have dr:=oE hqr.dw hqr.d4 hi.hr;have vr:=rP r4;obtain⟨u1,u2⟩:=aW4 dr.1 (by omega) vr.1 vr.2
  have tt: ∀v,0≤v→v≤65535→PG v (dG x pc w f0) (bB qr qz ql qs h)=true∧PF v (dG x pc w f0) (bB qr qz ql qs h)=bB (zM {qr with fl:=hU x.Size qr.fl v} x.Size x.Reg v) qz ql qs h:=fun v h0 h1=>by
   have:=toD (x:=x) (pc:=pc) (w:=w) (f:=f0) (zs:=qz) (l:=ql) (s:=qs) (h:=h) hqr hi.hs hi.hr (fun z=>by omega) h0 h1
   exact this
  rw[hsz]at tt;unfold Y5;rcases h2 with e|e
  ·obtain⟨t1,t2⟩:=tt (cP qr.d x.Reg*v%65536) (by omega) (by omega)
   simp only[bG,IY,NE,ND,BI,DX,IX,NC,o7,pK,pQ,o8,lW,nN,lX,kW,eM,eN,aW,cH,aU,bE,aT,aR,r1,r2,dR,e1,nf,e,show eqI 16 16=true from rfl,Nat.zero_add,aP,aY,d2,s3,s4,s5,u1,tQ,t1,t2,(zL _ _).1,(zL _ _).2,bX,bZ,wz]
   exact Prod.ext (congrArg (dG x pc w) (e1 _).symm) rfl
  ·obtain⟨b1,b2⟩:=P0 (w:=w) (f:=f0) (bB qr qz ql qs h) hg hp;cases hv:eqI v 0
   ·have hv':=hJ.1 hv;have hn:cU v 0=true:=nF.2 hv';obtain⟨v1,v2,v3⟩:=aE6 dr.1 (show 0<v by omega) (by omega)
    obtain⟨t1,t2⟩:=tt (cP qr.d x.Reg/v) v2 (by omega)
    simp only[bG,IY,NE,ND,BI,DX,IX,NC,o7,pK,pQ,o8,lW,nN,lX,kW,eM,eN,aW,cH,aU,bE,aT,aR,r1,r2,dR,e1,nf,e,show eqI 17 16=false from rfl,hv,hn,Nat.zero_add,aP,aY,d2,s3,s4,s5,v1,t1,t2,bX,bZ,wz]
    exact Prod.ext (congrArg (dG x pc w) (e1 _).symm) rfl
   ·have hd:=aH7 ⟨qr,qz,ql,qs,qf⟩ 5 rfl;have hfl:V4 5 (beh x pc) f0 w=dF (zO ⟨qr,qz,ql,qs,qf⟩ 5):=by
     rw[hd,rfm hfi];show _={ff pc w with Vector:=5,PC:=qr.pc}
     rw[rpc,hpc];rfl
    simp only[bG,IY,NE,ND,BI,DX,IX,NC,o7,pK,pQ,o8,lW,nN,lX,kW,eM,eN,aW,cH,aU,bE,aT,aR,r1,r2,dR,e1,nf,e,show eqI 17 16=false from rfl,hv,Nat.zero_add,aP,aY,d2,s3,s4,s5,b1,b2,(tA _ _ _ _ _ _ _).1,(tA _ _ _ _ _ _ _).2,hfl,bX,bZ,wz]
    rfl
theorem cDR{x:aN}{pc w:Int}{r:RM}{zs:List Int}{l:List aA}{s h:Bool}(hr:r.Ok 65535)(hb:BusOk zs l)(hg:kZ x=true):bQ6 (dG x pc w f0) (bB r zs l s h)=true∧aZT (dG x pc w f0) (bB r zs l s h)=dR x pc w h (N5 (mq r zs l s pc w) x):=by
 refine aF (t:=a7X (dG x pc w f0) (bB r zs l s h)) (P:=fun q=>q=dR x pc w h (N5 (mq r zs l s pc w) x)) ?_
 have hi:=InsOk.of hg;obtain⟨i1,i2,i3⟩:=jQ hr.d4 hi.hr;obtain⟨s1,s2,s3,s4,s5⟩:=fV (v:=0) hr.d4 hi.hr;obtain⟨j1,j2,j3⟩:=jQ hr.d4 hi.ho.hr;obtain⟨u1,u2,u3,u4,u5⟩:=fV (v:=0) hr.d4 hi.ho.hr;rw[Nat.zero_add]at s5 u5;have dr:=oE hr.dw hr.d4 hi.hr;have er:=oE hr.dw hr.d4 hi.ho.hr;have m8:aZ (cP r.d x.Reg) 255=cP r.d x.Reg%256:=zK dr.1 (by omega)
 have n8:aZ (cP r.d x.Ea.Reg) 255=cP r.d x.Ea.Reg%256:=zK er.1 (by omega)
 have eq:lZ r.fl 16=bif cU (aZ r.fl 16) 0 then 1 else 0:=rR (p:=fun f=>lZ f 16=bif cU (aZ f 16) 0 then 1 else 0) hr.fw (by decide+kernel)
 have ha:cA (cP r.d x.Reg%256) 0 255=true:=by rw[aM];omega
 have hbb:cA (cP r.d x.Ea.Reg%256) 0 255=true:=by rw[aM];omega
 obtain⟨a1,a2⟩:=b1M (rS (cU (aZ r.fl 16) 0)) ha hbb;obtain⟨b1,b2⟩:=b1N (rS (cU (aZ r.fl 16) 0)) ha hbb;unfold a7X N5;rw[show(mq r zs l s pc w).r=r from rfl]
 cases h1:(i5 (cP r.d x.Reg%256)&&i5 (cP r.d x.Ea.Reg%256))
 ·have hfl:V4 4 pc f0 w=dF {mq r zs l s pc w with f:={(mq r zs l s pc w).f with Vector:=4}}:=rfl
  have bb:(bif eqI x.Sub 1 then false else false)=false:=by cases eqI x.Sub 1<;>rfl
  rw[h1]at a2 b2;simp only[bG,aC3,UE,aC2,UD,UC,UB,NH,NG,o7,pK,pQ,o8,lW,nN,lX,kW,eM,eN,aW,cH,aU,bE,aT,aR,Nat.zero_add,aP,aY,i2,j2,s3,s4,s5,u3,u4,u5,m8,n8,eq,a1,a2,b1,b2,bb,(tA _ _ _ _ _ _ _).1,(tA _ _ _ _ _ _ _).2,hfl,bX,bZ,wz];rfl
 ·rw[h1]at a2 b2;rw[Bool.and_eq_true]at h1;obtain⟨⟨v0,v1⟩,v2⟩:=aE7 (x:=x) (m:=mq r zs l s pc w) h1.1 h1.2;have bb:(bif eqI x.Sub 1 then true else true)=true:=by cases eqI x.Sub 1<;>rfl
  have e4:(bif eqI x.Sub 1 then(PL (bif cU (aZ r.fl 16) 0 then 1 else 0) (cP r.d x.Reg%256) (cP r.d x.Ea.Reg%256)).1 else(PK (bif cU (aZ r.fl 16) 0 then 1 else 0) (cP r.d x.Reg%256) (cP r.d x.Ea.Reg%256)).1)=(CK x (mq r zs l s pc w)).1:=by
   unfold CK;cases eqI x.Sub 1<;>rfl
  have e5:(bif eqI x.Sub 1 then(PL (bif cU (aZ r.fl 16) 0 then 1 else 0) (cP r.d x.Reg%256) (cP r.d x.Ea.Reg%256)).2 else(PK (bif cU (aZ r.fl 16) 0 then 1 else 0) (cP r.d x.Reg%256) (cP r.d x.Ea.Reg%256)).2)=(CK x (mq r zs l s pc w)).2:=by
   unfold CK;cases eqI x.Sub 1<;>rfl
  have e6:(bif eqI (CK x (mq r zs l s pc w)).2 1 then(17:Int)else 0)=cX (CK x (mq r zs l s pc w)).2 17:=by rcases v2 with z|z<;>rw[z]<;>decide
  obtain⟨p1,p2⟩:=bC2 (v:=(CK x (mq r zs l s pc w)).1) hr h11 hi.hr (fun _=>by omega)
  simp only[bG,aC3,UE,aC2,UD,UC,UB,NH,NG,o7,pK,pQ,o8,lW,nN,lX,kW,eM,eN,aW,cH,aU,bE,aT,aR,Nat.zero_add,aP,aY,i2,j2,s3,s4,s5,u3,u4,u5,m8,n8,eq,a1,a2,b1,b2,bb,e4,e5,e6,p1,p2,(zL _ _).1,(zL _ _).2,bX,bZ,wz];rfl
end Go.Proofs.YtdicpjkdpliofaaGreatBoundaries

namespace Go.Proofs.YtdicpjkdpliofaaGreatBoundaries
open Nat renaming zero_add → q_9
open List renaming length_set → q_f
open Go Go.Zq
set_option maxHeartbeats 4000000
set_option maxRecDepth 100000
theorem cDS{x:aN}(h:x.Op=9):kB x=bif eqI x.Size 2 then eqI x.Sub 0 else false:=by
 unfold kB;rw[h];rfl
theorem b1W{x:aN}(h:x.Op=10):kB x=bif (bif eqI x.Size 2 then eqI x.Sub 0 else false)then uV x.Ea.Mode else false:=by
 unfold kB;rw[h];rfl
theorem xF(m:MM)(x:aN):(B1 m x).stop=(dN m x.Size x.Ea).1.stop:=by
 unfold B1;dsimp only;cases !bY (dN m x.Size x.Ea).1
 ·cases eqI x.Op 8<;>rfl
 ·rfl
theorem jS(m:MM)(s:Int)(o:aC):(dN m s o).1.stop=m.stop:=by
 unfold dN;cases eqI o.Mode 0
 ·cases eqI o.Mode 1
  ·cases eqI o.Mode 7<;>rfl
  ·rfl
 ·rfl
theorem V7(m:MM)(s:Int)(o:aC)(a v:Int):(eD m s o a v).stop=m.stop:=by
 unfold eD;cases eqI o.Mode 0<;>rfl
theorem aH8(m:MM)(s:Int)(o:aC):(kI m s o).1.stop=m.stop:=by
 unfold kI;cases eqI o.Mode 0<;>rfl
theorem a0Y(m:MM)(x:aN):(Y9 m x).stop=m.stop:=by
 show(eD (kI m x.Size x.Ea).1 x.Size x.Ea (kI m x.Size x.Ea).2 (cP m.r.d x.Reg%bS x.Size)).stop=m.stop
 rw[V7,aH8]
theorem a0Z(m:MM)(x:aN):(fD m x).1.stop=m.stop:=by
 unfold fD;cases eqI x.Sub 0
 ·exact jS _ _ _
 ·exact aH8 _ _ _
theorem a00(x:aN)(q:MM)(a:Int)(w:Int×Int):(EJ x q a w).stop=q.stop:=by
 unfold EJ;cases !bY q
 ·cases ltI x.Sub 3
  ·rfl
  ·exact V7 _ _ _ _ _
 ·rfl
theorem bC7(m:MM)(x:aN):(N4 m x).stop=m.stop:=by
 unfold N4;rw[a00,a0Z]
theorem LP(m:MM)(x:aN):(kC m x).stop=m.stop:=by
 unfold kC Y5;cases !bY (dN m 2 x.Ea).1
 ·cases eqI x.Op 16
  ·cases eqI (dN m 2 x.Ea).2.1 0<;>exact jS _ _ _
  ·exact jS _ _ _
 ·exact jS _ _ _
theorem bC8(m:MM)(x:aN):(N5 m x).stop=m.stop:=by
 unfold N5;cases i5 (cP m.r.d x.Reg%256)&&i5 (cP m.r.d x.Ea.Reg%256)<;>rfl
theorem doD{x:aN}{pc w:Int}{r:RM}{zs:List Int}{l:List aA}{s h:Bool}(hr:r.Ok 65535)(hb:BusOk zs l)(hg:kZ x=true)(hp:cA pc 0 65535=true)(hpc:r.pc=beh x pc):bQ9 (dG x pc w f0) (bB r zs l s h)=true∧Alike x pc w h s (tR (mq r zs l s pc w) x pc) (bQ8 (dG x pc w f0) (bB r zs l s h)):=by
 refine aF (t:=a7Y (dG x pc w f0) (bB r zs l s h)) (P:=fun q=>Alike x pc w h s (tR (mq r zs l s pc w) x pc) q) ?_
 have hi:=InsOk.of hg;have hop:=hi.op;have hrr:=aM.1 hi.hr;have hsb:=aM.1 hi.hb;have hm:=LO (s:=s) (pc:=pc) (w:=w) hr hb;obtain⟨y1,y2,y3,y4,y5⟩:=fV (v:=0) hr.a4 hi.hr;rw[q_9]at y1 y2 y5;obtain⟨t1,t2,t3,t4,t5⟩:=fV (v:=0) hr.d4 hi.hr;rw[q_9]at t1 t2 t5;unfold a7Y tR;have hops:x.Op=1∨x.Op=2∨x.Op=3∨x.Op=4∨x.Op=5∨x.Op=6∨x.Op=7∨x.Op=8∨x.Op=9∨x.Op=10∨x.Op=11∨x.Op=12∨x.Op=13∨x.Op=14∨x.Op=15∨x.Op=16∨x.Op=17∨x.Op=18∨x.Op=19:=by omega
 rcases hops with e|e|e|e|e|e|e|e|e|e|e|e|e|e|e|e|e|e|e
 ·obtain⟨a1,a2⟩:=aPZ (pc:=pc) (w:=w) (s:=s) (h:=h) hr hb hi (by unfold qO;omega)
  simp only[bG,gF,fF,fM,fA,gE,gD,fL,gC,gB,gY,gX,gW,gV,gU,gT,gS,gR,bP,eZ,bO,gA,f9,fE,f7,fK,fZ,fJ,jI,fB,jH,jG,iC,iL,jF,iK,jE,jD,o7,pK,pQ,o8,lW,nN,lX,kW,eM,eN,aW,cH,aU,bE,aT,aR,iW,e,show eqI 1 1=true from rfl,show eqI 1 2=false from rfl,show eqI 1 3=false from rfl,show eqI 1 4=false from rfl,show eqI 1 5=false from rfl,show eqI 1 6=false from rfl,show eqI 1 7=false from rfl,show eqI 1 8=false from rfl,show eqI 1 9=false from rfl,show eqI 1 10=false from rfl,show eqI 1 11=false from rfl,show eqI 1 12=false from rfl,show eqI 1 13=false from rfl,show eqI 1 14=false from rfl,show eqI 1 15=false from rfl,show eqI 1 16=false from rfl,show eqI 1 17=false from rfl,show eqI 1 18=false from rfl,show eqI 1 19=false from rfl,a1,a2,q_9,aP,aY,dT,q_f,bX,bZ,wz]
  exact Alike.of ((xF _ _).trans (jS _ _ _))
 ·obtain⟨a1,a2⟩:=b1O (pc:=pc) (w:=w) (s:=s) (h:=h) hr hb hi e;simp only[bG,gF,fF,fM,fA,gE,gD,fL,gC,gB,gY,gX,gW,gV,gU,gT,gS,gR,bP,eZ,bO,gA,f9,fE,f7,fK,fZ,fJ,jI,fB,jH,jG,iC,iL,jF,iK,jE,jD,o7,pK,pQ,o8,lW,nN,lX,kW,eM,eN,aW,cH,aU,bE,aT,aR,iW,e,show eqI 2 1=false from rfl,show eqI 2 2=true from rfl,show eqI 2 3=false from rfl,show eqI 2 4=false from rfl,show eqI 2 5=false from rfl,show eqI 2 6=false from rfl,show eqI 2 7=false from rfl,show eqI 2 8=false from rfl,show eqI 2 9=false from rfl,show eqI 2 10=false from rfl,show eqI 2 11=false from rfl,show eqI 2 12=false from rfl,show eqI 2 13=false from rfl,show eqI 2 14=false from rfl,show eqI 2 15=false from rfl,show eqI 2 16=false from rfl,show eqI 2 17=false from rfl,show eqI 2 18=false from rfl,show eqI 2 19=false from rfl,a1,a2,q_9,aP,aY,dT,q_f,bX,bZ,wz]
  exact Alike.of (a0Y _ _)
 ·obtain⟨a1,a2⟩:=aPZ (pc:=pc) (w:=w) (s:=s) (h:=h) hr hb hi (by unfold qO;omega)
  simp only[bG,gF,fF,fM,fA,gE,gD,fL,gC,gB,gY,gX,gW,gV,gU,gT,gS,gR,bP,eZ,bO,gA,f9,fE,f7,fK,fZ,fJ,jI,fB,jH,jG,iC,iL,jF,iK,jE,jD,o7,pK,pQ,o8,lW,nN,lX,kW,eM,eN,aW,cH,aU,bE,aT,aR,iW,e,show eqI 3 1=false from rfl,show eqI 3 2=false from rfl,show eqI 3 3=true from rfl,show eqI 3 4=false from rfl,show eqI 3 5=false from rfl,show eqI 3 6=false from rfl,show eqI 3 7=false from rfl,show eqI 3 8=false from rfl,show eqI 3 9=false from rfl,show eqI 3 10=false from rfl,show eqI 3 11=false from rfl,show eqI 3 12=false from rfl,show eqI 3 13=false from rfl,show eqI 3 14=false from rfl,show eqI 3 15=false from rfl,show eqI 3 16=false from rfl,show eqI 3 17=false from rfl,show eqI 3 18=false from rfl,show eqI 3 19=false from rfl,a1,a2,q_9,aP,aY,dT,q_f,bX,bZ,wz]
  exact Alike.of ((xF _ _).trans (jS _ _ _))
 ·obtain⟨a1,a2⟩:=aPZ (pc:=pc) (w:=w) (s:=s) (h:=h) hr hb hi (by unfold qO;omega)
  simp only[bG,gF,fF,fM,fA,gE,gD,fL,gC,gB,gY,gX,gW,gV,gU,gT,gS,gR,bP,eZ,bO,gA,f9,fE,f7,fK,fZ,fJ,jI,fB,jH,jG,iC,iL,jF,iK,jE,jD,o7,pK,pQ,o8,lW,nN,lX,kW,eM,eN,aW,cH,aU,bE,aT,aR,iW,e,show eqI 4 1=false from rfl,show eqI 4 2=false from rfl,show eqI 4 3=false from rfl,show eqI 4 4=true from rfl,show eqI 4 5=false from rfl,show eqI 4 6=false from rfl,show eqI 4 7=false from rfl,show eqI 4 8=false from rfl,show eqI 4 9=false from rfl,show eqI 4 10=false from rfl,show eqI 4 11=false from rfl,show eqI 4 12=false from rfl,show eqI 4 13=false from rfl,show eqI 4 14=false from rfl,show eqI 4 15=false from rfl,show eqI 4 16=false from rfl,show eqI 4 17=false from rfl,show eqI 4 18=false from rfl,show eqI 4 19=false from rfl,a1,a2,q_9,aP,aY,dT,q_f,bX,bZ,wz]
  exact Alike.of ((xF _ _).trans (jS _ _ _))
 ·obtain⟨a1,a2⟩:=aPZ (pc:=pc) (w:=w) (s:=s) (h:=h) hr hb hi (by unfold qO;omega)
  simp only[bG,gF,fF,fM,fA,gE,gD,fL,gC,gB,gY,gX,gW,gV,gU,gT,gS,gR,bP,eZ,bO,gA,f9,fE,f7,fK,fZ,fJ,jI,fB,jH,jG,iC,iL,jF,iK,jE,jD,o7,pK,pQ,o8,lW,nN,lX,kW,eM,eN,aW,cH,aU,bE,aT,aR,iW,e,show eqI 5 1=false from rfl,show eqI 5 2=false from rfl,show eqI 5 3=false from rfl,show eqI 5 4=false from rfl,show eqI 5 5=true from rfl,show eqI 5 6=false from rfl,show eqI 5 7=false from rfl,show eqI 5 8=false from rfl,show eqI 5 9=false from rfl,show eqI 5 10=false from rfl,show eqI 5 11=false from rfl,show eqI 5 12=false from rfl,show eqI 5 13=false from rfl,show eqI 5 14=false from rfl,show eqI 5 15=false from rfl,show eqI 5 16=false from rfl,show eqI 5 17=false from rfl,show eqI 5 18=false from rfl,show eqI 5 19=false from rfl,a1,a2,q_9,aP,aY,dT,q_f,bX,bZ,wz]
  exact Alike.of ((xF _ _).trans (jS _ _ _))
 ·obtain⟨a1,a2⟩:=aPZ (pc:=pc) (w:=w) (s:=s) (h:=h) hr hb hi (by unfold qO;omega)
  simp only[bG,gF,fF,fM,fA,gE,gD,fL,gC,gB,gY,gX,gW,gV,gU,gT,gS,gR,bP,eZ,bO,gA,f9,fE,f7,fK,fZ,fJ,jI,fB,jH,jG,iC,iL,jF,iK,jE,jD,o7,pK,pQ,o8,lW,nN,lX,kW,eM,eN,aW,cH,aU,bE,aT,aR,iW,e,show eqI 6 1=false from rfl,show eqI 6 2=false from rfl,show eqI 6 3=false from rfl,show eqI 6 4=false from rfl,show eqI 6 5=false from rfl,show eqI 6 6=true from rfl,show eqI 6 7=false from rfl,show eqI 6 8=false from rfl,show eqI 6 9=false from rfl,show eqI 6 10=false from rfl,show eqI 6 11=false from rfl,show eqI 6 12=false from rfl,show eqI 6 13=false from rfl,show eqI 6 14=false from rfl,show eqI 6 15=false from rfl,show eqI 6 16=false from rfl,show eqI 6 17=false from rfl,show eqI 6 18=false from rfl,show eqI 6 19=false from rfl,a1,a2,q_9,aP,aY,dT,q_f,bX,bZ,wz]
  exact Alike.of ((xF _ _).trans (jS _ _ _))
 ·obtain⟨a1,a2⟩:=aPZ (pc:=pc) (w:=w) (s:=s) (h:=h) hr hb hi (by unfold qO;omega)
  simp only[bG,gF,fF,fM,fA,gE,gD,fL,gC,gB,gY,gX,gW,gV,gU,gT,gS,gR,bP,eZ,bO,gA,f9,fE,f7,fK,fZ,fJ,jI,fB,jH,jG,iC,iL,jF,iK,jE,jD,o7,pK,pQ,o8,lW,nN,lX,kW,eM,eN,aW,cH,aU,bE,aT,aR,iW,e,show eqI 7 1=false from rfl,show eqI 7 2=false from rfl,show eqI 7 3=false from rfl,show eqI 7 4=false from rfl,show eqI 7 5=false from rfl,show eqI 7 6=false from rfl,show eqI 7 7=true from rfl,show eqI 7 8=false from rfl,show eqI 7 9=false from rfl,show eqI 7 10=false from rfl,show eqI 7 11=false from rfl,show eqI 7 12=false from rfl,show eqI 7 13=false from rfl,show eqI 7 14=false from rfl,show eqI 7 15=false from rfl,show eqI 7 16=false from rfl,show eqI 7 17=false from rfl,show eqI 7 18=false from rfl,show eqI 7 19=false from rfl,a1,a2,q_9,aP,aY,dT,q_f,bX,bZ,wz]
  exact Alike.of ((xF _ _).trans (jS _ _ _))
 ·obtain⟨a1,a2⟩:=aPZ (pc:=pc) (w:=w) (s:=s) (h:=h) hr hb hi (by unfold qO;omega)
  simp only[bG,gF,fF,fM,fA,gE,gD,fL,gC,gB,gY,gX,gW,gV,gU,gT,gS,gR,bP,eZ,bO,gA,f9,fE,f7,fK,fZ,fJ,jI,fB,jH,jG,iC,iL,jF,iK,jE,jD,o7,pK,pQ,o8,lW,nN,lX,kW,eM,eN,aW,cH,aU,bE,aT,aR,iW,e,show eqI 8 1=false from rfl,show eqI 8 2=false from rfl,show eqI 8 3=false from rfl,show eqI 8 4=false from rfl,show eqI 8 5=false from rfl,show eqI 8 6=false from rfl,show eqI 8 7=false from rfl,show eqI 8 8=true from rfl,show eqI 8 9=false from rfl,show eqI 8 10=false from rfl,show eqI 8 11=false from rfl,show eqI 8 12=false from rfl,show eqI 8 13=false from rfl,show eqI 8 14=false from rfl,show eqI 8 15=false from rfl,show eqI 8 16=false from rfl,show eqI 8 17=false from rfl,show eqI 8 18=false from rfl,show eqI 8 19=false from rfl,a1,a2,q_9,aP,aY,dT,q_f,bX,bZ,wz]
  exact Alike.of ((xF _ _).trans (jS _ _ _))
 ·have hk:=hi.kb;rw[cDS e]at hk;have hsz:=dL.1 (aFI hk).1;obtain⟨a1,a2⟩:=aPY (pc:=pc) (w:=w) (s:=s) (h:=h) hr hb hi.hs hi.ho;rw[hsz]at a2;obtain⟨r3,r4,r5⟩:=rT hm VW hi.ho o6 o6;have rs:=jS (mq r zs l s pc w) 2 x.Ea;generalize dN (mq r zs l s pc w) 2 x.Ea=Q at a2 r3 r4 r5 rs;obtain⟨Q1,v,a⟩:=Q;dsimp only at a2 r3 r4 r5 rs;obtain⟨z1,z2,z3,z4,z5⟩:=fV (v:=0) r3.r.a4 hi.hr;rw[q_9]at z1 z2 z5;have eR:(dR x pc w h Q1).2.R=Q1.r.g:=rfl;have eB:(dR x pc w h Q1).2.Bus=qV Q1.zs Q1.l:=rfl;simp only[bG,gF,fF,fM,fA,gE,gD,fL,gC,gB,gY,gX,gW,gV,gU,gT,gS,gR,bP,eZ,bO,gA,f9,fE,f7,fK,fZ,fJ,jI,fB,jH,jG,iC,iL,jF,iK,jE,jD,o7,pK,pQ,o8,lW,nN,lX,kW,eM,eN,aW,cH,aU,bE,aT,aR,iW,e,show eqI 9 1=false from rfl,show eqI 9 2=false from rfl,show eqI 9 3=false from rfl,show eqI 9 4=false from rfl,show eqI 9 5=false from rfl,show eqI 9 6=false from rfl,show eqI 9 7=false from rfl,show eqI 9 8=false from rfl,show eqI 9 9=true from rfl,show eqI 9 10=false from rfl,show eqI 9 11=false from rfl,show eqI 9 12=false from rfl,show eqI 9 13=false from rfl,show eqI 9 14=false from rfl,show eqI 9 15=false from rfl,show eqI 9 16=false from rfl,show eqI 9 17=false from rfl,show eqI 9 18=false from rfl,show eqI 9 19=false from rfl,a1,a2,eR,eB,y1,y2,y3,y4,y5,z1,z2,z3,z4,z5,q_9,aP,aY,dT,q_f,bX,bZ,wz]
  unfold Y8;refine⟨{Q1.r with a:=Q1.r.a.set x.Reg.toNat v},Q1.stop,fun hf=>?_,fun _=>rs,?_⟩
  ·dsimp only at hf⊢;cases hq:bY Q1
   ·rw[hq,cond_false,hq]at hf;cases hf
   ·exact⟨rfl,rfl⟩
  ·dsimp only;cases hq:bY Q1<;>rfl
 ·have hk:=hi.kb;rw[b1W e]at hk;obtain⟨hk1,hk2⟩:=aFI hk;have hsz:=dL.1 (aFI hk1).1;have hmm:=V6 hk2;obtain⟨m0,m1,-,-⟩:=PZ hmm;obtain⟨p1,p2⟩:=V5 hr hi.hs hi.ho hmm;obtain⟨p3,p4⟩:=rQ (s:=x.Size) hr hi.ho;have sp:kI (mq r zs l s pc w) 2 x.Ea=(mq (bM r x.Size x.Ea).1 zs l s pc w,(bM r x.Size x.Ea).2):=by unfold kI;rw[m0,hsz];rfl
  rw[sp];obtain⟨z1,z2,z3,z4,z5⟩:=fV (v:=0) p3.a4 hi.hr;rw[q_9]at z1 z2 z5;simp only[bG,gF,fF,fM,fA,gE,gD,fL,gC,gB,gY,gX,gW,gV,gU,gT,gS,gR,bP,eZ,bO,gA,f9,fE,f7,fK,fZ,fJ,jI,fB,jH,jG,iC,iL,jF,iK,jE,jD,o7,pK,pQ,o8,lW,nN,lX,kW,eM,eN,aW,cH,aU,bE,aT,aR,iW,e,show eqI 10 1=false from rfl,show eqI 10 2=false from rfl,show eqI 10 3=false from rfl,show eqI 10 4=false from rfl,show eqI 10 5=false from rfl,show eqI 10 6=false from rfl,show eqI 10 7=false from rfl,show eqI 10 8=false from rfl,show eqI 10 9=false from rfl,show eqI 10 10=true from rfl,show eqI 10 11=false from rfl,show eqI 10 12=false from rfl,show eqI 10 13=false from rfl,show eqI 10 14=false from rfl,show eqI 10 15=false from rfl,show eqI 10 16=false from rfl,show eqI 10 17=false from rfl,show eqI 10 18=false from rfl,show eqI 10 19=false from rfl,p1,p2,y1,y2,y3,y4,y5,z1,z2,z3,z4,z5,q_9,aP,aY,dT,q_f,bX,bZ,wz]
  unfold bKY;exact Alike.of (J:={mq (bM r x.Size x.Ea).1 zs l s pc w with r:={(bM r x.Size x.Ea).1 with a:=(bM r x.Size x.Ea).1.a.set x.Reg.toNat (bM r x.Size x.Ea).2}}) rfl
 ·obtain⟨a1,a2⟩:=cDP (pc:=pc) (w:=w) (s:=s) (h:=h) hr hb hi e;simp only[bG,gF,fF,fM,fA,gE,gD,fL,gC,gB,gY,gX,gW,gV,gU,gT,gS,gR,bP,eZ,bO,gA,f9,fE,f7,fK,fZ,fJ,jI,fB,jH,jG,iC,iL,jF,iK,jE,jD,o7,pK,pQ,o8,lW,nN,lX,kW,eM,eN,aW,cH,aU,bE,aT,aR,iW,e,show eqI 11 1=false from rfl,show eqI 11 2=false from rfl,show eqI 11 3=false from rfl,show eqI 11 4=false from rfl,show eqI 11 5=false from rfl,show eqI 11 6=false from rfl,show eqI 11 7=false from rfl,show eqI 11 8=false from rfl,show eqI 11 9=false from rfl,show eqI 11 10=false from rfl,show eqI 11 11=true from rfl,show eqI 11 12=false from rfl,show eqI 11 13=false from rfl,show eqI 11 14=false from rfl,show eqI 11 15=false from rfl,show eqI 11 16=false from rfl,show eqI 11 17=false from rfl,show eqI 11 18=false from rfl,show eqI 11 19=false from rfl,a1,a2,q_9,aP,aY,dT,q_f,bX,bZ,wz]
  exact Alike.of (bC7 _ _)
 ·obtain⟨l1,l2⟩:=aH4 (pc:=pc) (w:=w) (f:=f0) (zs:=zs) (l:=l) (s:=s) (h:=h) hr hi.hs hi.hr;have hv:=iE (s:=x.Size) (v:=cP r.d x.Reg) hi.hs;have her:=aM.1 hi.ho.hr;have ea:aV x.Ea.Reg 1=x.Ea.Reg+1:=bJ (by omega)
  obtain⟨b1,b2⟩:=byJ (k:=x.Sub) (f:=r.fl) (c:=x.Ea.Reg+1) hi.hs hv hr.fw hi.hb (by omega) (by omega)
  obtain⟨-,o1,o2⟩:=bCF hm hi;have lv:=kE hi.hs o1;obtain⟨p1,p2⟩:=bC2 (v:=(shV (mq r zs l s pc w) x).1) hr hi.hs hi.hr (fun z=>by have:=lv.2.2 z;omega)
  have ev:aG5 x.Sub x.Size r.fl (cP r.d x.Reg%bS x.Size) (x.Ea.Reg+1)=shV (mq r zs l s pc w) x:=rfl;rw[ev]at b2;simp only[bG,gF,fF,fM,fA,gE,gD,fL,gC,gB,gY,gX,gW,gV,gU,gT,gS,gR,bP,eZ,bO,gA,f9,fE,f7,fK,fZ,fJ,jI,fB,jH,jG,iC,iL,jF,iK,jE,jD,o7,pK,pQ,o8,lW,nN,lX,kW,eM,eN,aW,cH,aU,bE,aT,aR,iW,e,show eqI 12 1=false from rfl,show eqI 12 2=false from rfl,show eqI 12 3=false from rfl,show eqI 12 4=false from rfl,show eqI 12 5=false from rfl,show eqI 12 6=false from rfl,show eqI 12 7=false from rfl,show eqI 12 8=false from rfl,show eqI 12 9=false from rfl,show eqI 12 10=false from rfl,show eqI 12 11=false from rfl,show eqI 12 12=true from rfl,show eqI 12 13=false from rfl,show eqI 12 14=false from rfl,show eqI 12 15=false from rfl,show eqI 12 16=false from rfl,show eqI 12 17=false from rfl,show eqI 12 18=false from rfl,show eqI 12 19=false from rfl,l1,l2,ea,b1,b2,p1,p2,q_9,aP,aY,dT,q_f,bX,bZ,wz]
  exact Alike.of (J:=aE8 (mq r zs l s pc w) x) rfl
 ·have ec:aV x.Sub (cX 8 x.Reg)=x.Sub+8*x.Reg:=by rw[gH (by omega),bJ (by omega)]
  obtain⟨c1,c2⟩:=b1K (c:=x.Sub+8*x.Reg) (f:=r.fl) (by rw[aM];omega)
  have hp':=aM.1 hp;have hx:=aM.1 hi.ho.he;have ep:aZ (aV (aV pc 2) x.Ea.Ext) 65535=(pc+2+x.Ea.Ext)%65536:=by rw[bJ (x:=pc) (by omega),bJ (by omega),tQ]
  simp only[bG,gF,fF,fM,fA,gE,gD,fL,gC,gB,gY,gX,gW,gV,gU,gT,gS,gR,bP,eZ,bO,gA,f9,fE,f7,fK,fZ,fJ,jI,fB,jH,jG,iC,iL,jF,iK,jE,jD,o7,pK,pQ,o8,lW,nN,lX,kW,eM,eN,aW,cH,aU,bE,aT,aR,iW,e,show eqI 13 1=false from rfl,show eqI 13 2=false from rfl,show eqI 13 3=false from rfl,show eqI 13 4=false from rfl,show eqI 13 5=false from rfl,show eqI 13 6=false from rfl,show eqI 13 7=false from rfl,show eqI 13 8=false from rfl,show eqI 13 9=false from rfl,show eqI 13 10=false from rfl,show eqI 13 11=false from rfl,show eqI 13 12=false from rfl,show eqI 13 13=true from rfl,show eqI 13 14=false from rfl,show eqI 13 15=false from rfl,show eqI 13 16=false from rfl,show eqI 13 17=false from rfl,show eqI 13 18=false from rfl,show eqI 13 19=false from rfl,ec,c1,c2,ep,q_9,aP,aY,dT,q_f,bX,bZ,wz]
  unfold AH;rw[e,show eqI 13 13=true from rfl,cond_true]
  rw[show(mq r zs l s pc w).r=r from rfl]
  refine⟨fun z=>?_,fun z=>?_⟩
  ·rw[z,cond_true];exact Alike.of (J:={mq r zs l s pc w with r:={r with pc:=(pc+2+x.Ea.Ext)%65536}}) rfl
  ·rw[z,cond_false];exact Alike.of (J:=mq r zs l s pc w) rfl
 ·obtain⟨a1,a2⟩:=b1T (w:=w) (s:=s) (h:=h) hr hb hg e hp hpc;simp only[bG,gF,fF,fM,fA,gE,gD,fL,gC,gB,gY,gX,gW,gV,gU,gT,gS,gR,bP,eZ,bO,gA,f9,fE,f7,fK,fZ,fJ,jI,fB,jH,jG,iC,iL,jF,iK,jE,jD,o7,pK,pQ,o8,lW,nN,lX,kW,eM,eN,aW,cH,aU,bE,aT,aR,iW,e,show eqI 14 1=false from rfl,show eqI 14 2=false from rfl,show eqI 14 3=false from rfl,show eqI 14 4=false from rfl,show eqI 14 5=false from rfl,show eqI 14 6=false from rfl,show eqI 14 7=false from rfl,show eqI 14 8=false from rfl,show eqI 14 9=false from rfl,show eqI 14 10=false from rfl,show eqI 14 11=false from rfl,show eqI 14 12=false from rfl,show eqI 14 13=false from rfl,show eqI 14 14=true from rfl,show eqI 14 15=false from rfl,show eqI 14 16=false from rfl,show eqI 14 17=false from rfl,show eqI 14 18=false from rfl,show eqI 14 19=false from rfl,a1,q_9,aP,aY,dT,q_f,bX,bZ,wz]
  exact a2
 ·obtain⟨a1,a2⟩:=b1V (w:=w) (s:=s) (h:=h) hr hb hg e hp hpc;simp only[bG,gF,fF,fM,fA,gE,gD,fL,gC,gB,gY,gX,gW,gV,gU,gT,gS,gR,bP,eZ,bO,gA,f9,fE,f7,fK,fZ,fJ,jI,fB,jH,jG,iC,iL,jF,iK,jE,jD,o7,pK,pQ,o8,lW,nN,lX,kW,eM,eN,aW,cH,aU,bE,aT,aR,iW,e,show eqI 15 1=false from rfl,show eqI 15 2=false from rfl,show eqI 15 3=false from rfl,show eqI 15 4=false from rfl,show eqI 15 5=false from rfl,show eqI 15 6=false from rfl,show eqI 15 7=false from rfl,show eqI 15 8=false from rfl,show eqI 15 9=false from rfl,show eqI 15 10=false from rfl,show eqI 15 11=false from rfl,show eqI 15 12=false from rfl,show eqI 15 13=false from rfl,show eqI 15 14=false from rfl,show eqI 15 15=true from rfl,show eqI 15 16=false from rfl,show eqI 15 17=false from rfl,show eqI 15 18=false from rfl,show eqI 15 19=false from rfl,a1,q_9,aP,aY,dT,q_f,bX,bZ,wz]
  exact a2
 ·obtain⟨a1,a2⟩:=bC6 (w:=w) (s:=s) (h:=h) hr hb hg (by omega) hp hpc
  simp only[bG,gF,fF,fM,fA,gE,gD,fL,gC,gB,gY,gX,gW,gV,gU,gT,gS,gR,bP,eZ,bO,gA,f9,fE,f7,fK,fZ,fJ,jI,fB,jH,jG,iC,iL,jF,iK,jE,jD,o7,pK,pQ,o8,lW,nN,lX,kW,eM,eN,aW,cH,aU,bE,aT,aR,iW,e,show eqI 16 1=false from rfl,show eqI 16 2=false from rfl,show eqI 16 3=false from rfl,show eqI 16 4=false from rfl,show eqI 16 5=false from rfl,show eqI 16 6=false from rfl,show eqI 16 7=false from rfl,show eqI 16 8=false from rfl,show eqI 16 9=false from rfl,show eqI 16 10=false from rfl,show eqI 16 11=false from rfl,show eqI 16 12=false from rfl,show eqI 16 13=false from rfl,show eqI 16 14=false from rfl,show eqI 16 15=false from rfl,show eqI 16 16=true from rfl,show eqI 16 17=false from rfl,show eqI 16 18=false from rfl,show eqI 16 19=false from rfl,a1,a2,q_9,aP,aY,dT,q_f,bX,bZ,wz]
  exact Alike.of (LP _ _)
 ·obtain⟨a1,a2⟩:=bC6 (w:=w) (s:=s) (h:=h) hr hb hg (by omega) hp hpc
  simp only[bG,gF,fF,fM,fA,gE,gD,fL,gC,gB,gY,gX,gW,gV,gU,gT,gS,gR,bP,eZ,bO,gA,f9,fE,f7,fK,fZ,fJ,jI,fB,jH,jG,iC,iL,jF,iK,jE,jD,o7,pK,pQ,o8,lW,nN,lX,kW,eM,eN,aW,cH,aU,bE,aT,aR,iW,e,show eqI 17 1=false from rfl,show eqI 17 2=false from rfl,show eqI 17 3=false from rfl,show eqI 17 4=false from rfl,show eqI 17 5=false from rfl,show eqI 17 6=false from rfl,show eqI 17 7=false from rfl,show eqI 17 8=false from rfl,show eqI 17 9=false from rfl,show eqI 17 10=false from rfl,show eqI 17 11=false from rfl,show eqI 17 12=false from rfl,show eqI 17 13=false from rfl,show eqI 17 14=false from rfl,show eqI 17 15=false from rfl,show eqI 17 16=false from rfl,show eqI 17 17=true from rfl,show eqI 17 18=false from rfl,show eqI 17 19=false from rfl,a1,a2,q_9,aP,aY,dT,q_f,bX,bZ,wz]
  exact Alike.of (LP _ _)
 ·obtain⟨a1,a2⟩:=cDR (pc:=pc) (w:=w) (s:=s) (h:=h) hr hb hg;simp only[bG,gF,fF,fM,fA,gE,gD,fL,gC,gB,gY,gX,gW,gV,gU,gT,gS,gR,bP,eZ,bO,gA,f9,fE,f7,fK,fZ,fJ,jI,fB,jH,jG,iC,iL,jF,iK,jE,jD,o7,pK,pQ,o8,lW,nN,lX,kW,eM,eN,aW,cH,aU,bE,aT,aR,iW,e,show eqI 18 1=false from rfl,show eqI 18 2=false from rfl,show eqI 18 3=false from rfl,show eqI 18 4=false from rfl,show eqI 18 5=false from rfl,show eqI 18 6=false from rfl,show eqI 18 7=false from rfl,show eqI 18 8=false from rfl,show eqI 18 9=false from rfl,show eqI 18 10=false from rfl,show eqI 18 11=false from rfl,show eqI 18 12=false from rfl,show eqI 18 13=false from rfl,show eqI 18 14=false from rfl,show eqI 18 15=false from rfl,show eqI 18 16=false from rfl,show eqI 18 17=false from rfl,show eqI 18 18=true from rfl,show eqI 18 19=false from rfl,a1,a2,q_9,aP,aY,dT,q_f,bX,bZ,wz]
  exact Alike.of (bC8 _ _)
 ·obtain⟨g1,g2⟩:=aPV hr;cases hs0:eqI x.Sub 0
  ·simp only[bG,gF,fF,fM,fA,gE,gD,fL,gC,gB,gY,gX,gW,gV,gU,gT,gS,gR,bP,eZ,bO,gA,f9,fE,f7,fK,fZ,fJ,jI,fB,jH,jG,iC,iL,jF,iK,jE,jD,o7,pK,pQ,o8,lW,nN,lX,kW,eM,eN,aW,cH,aU,bE,aT,aR,iW,e,show eqI 19 1=false from rfl,show eqI 19 2=false from rfl,show eqI 19 3=false from rfl,show eqI 19 4=false from rfl,show eqI 19 5=false from rfl,show eqI 19 6=false from rfl,show eqI 19 7=false from rfl,show eqI 19 8=false from rfl,show eqI 19 9=false from rfl,show eqI 19 10=false from rfl,show eqI 19 11=false from rfl,show eqI 19 12=false from rfl,show eqI 19 13=false from rfl,show eqI 19 14=false from rfl,show eqI 19 15=false from rfl,show eqI 19 16=false from rfl,show eqI 19 17=false from rfl,show eqI 19 18=false from rfl,show eqI 19 19=true from rfl,hs0,g1,g2,t1,t2,t3,t4,t5,q_9,aP,aY,dT,q_f,bX,bZ,wz]
   unfold VX;rw[hs0,cond_false];exact Alike.of (J:={mq r zs l s pc w with r:={r with d:=r.d.set x.Reg.toNat (fG r)}}) rfl
  ·obtain⟨u1,u2⟩:=aFC hr (ZA hi e (dL.1 hs0));simp only[bG,gF,fF,fM,fA,gE,gD,fL,gC,gB,gY,gX,gW,gV,gU,gT,gS,gR,bP,eZ,bO,gA,f9,fE,f7,fK,fZ,fJ,jI,fB,jH,jG,iC,iL,jF,iK,jE,jD,o7,pK,pQ,o8,lW,nN,lX,kW,eM,eN,aW,cH,aU,bE,aT,aR,iW,e,show eqI 19 1=false from rfl,show eqI 19 2=false from rfl,show eqI 19 3=false from rfl,show eqI 19 4=false from rfl,show eqI 19 5=false from rfl,show eqI 19 6=false from rfl,show eqI 19 7=false from rfl,show eqI 19 8=false from rfl,show eqI 19 9=false from rfl,show eqI 19 10=false from rfl,show eqI 19 11=false from rfl,show eqI 19 12=false from rfl,show eqI 19 13=false from rfl,show eqI 19 14=false from rfl,show eqI 19 15=false from rfl,show eqI 19 16=false from rfl,show eqI 19 17=false from rfl,show eqI 19 18=false from rfl,show eqI 19 19=true from rfl,hs0,u1,u2,q_9,aP,aY,dT,q_f,bX,bZ,wz]
   unfold VX;rw[hs0,cond_true];exact Alike.of (J:={mq r zs l s pc w with r:=dH r x.Ea.Ext}) rfl
end Go.Proofs.YtdicpjkdpliofaaGreatBoundaries

namespace Go.Proofs.YtdicpjkdpliofaaGreatBoundaries
open Go Go.Zq
set_option maxHeartbeats 4000000
set_option maxRecDepth 100000
theorem bC9{k a v:Int}{sz:Int}{r:RM}{zs:List Int}{l:List aA}{s:Bool}{pc w:Int}(hb:BusOk zs l)(hs:sz=1∨sz=2)(hv:dA sz v=true)(ha:cA a 0 65535=true)(h0:eqI k 2=false)(h00:v=0):IQ k sz a v (qV zs l)=true∧K0 k sz a v (qV zs l)=(qV (cM (mq r zs l s pc w) k sz a v).1.zs (cM (mq r zs l s pc w) k sz a v).1.l,(cM (mq r zs l s pc w) k sz a v).2,cQ k sz a):=by
 obtain⟨a1,a2⟩:=GB (k:=k) (a:=a) (⟨hs,hv,hb.hz,hb.hb,hb.hl⟩:TouchOk sz v zs l) ha (fun _=>h00)
 rw[h0]at a2;exact⟨a1,a2⟩
theorem aH9(r:RM)(zs:List Int)(l:List aA)(s:Bool)(pc w k sz a v:Int):(cM (mq r zs l s pc w) k sz a v).1.r=r∧(cM (mq r zs l s pc w) k sz a v).1.stop=s:=⟨rfl,rfl⟩
def zI:aN:=⟨0,0,0,⟨0,0,0⟩,0⟩
structure Fet(r:RM)(s:Bool)(F:MM×aN×Int):Prop where
 hr:F.1.r=r
 hs:F.1.stop=s
 hb:BusOk F.1.zs F.1.l
 ok:bY F.1=true→ ∃wd,F.1=mq r F.1.zs F.1.l s r.pc wd∧kZ F.2.1=true∧W F.2.1=wd∧F.2.2=((B0 F.2.1).length:Int)
theorem aXN{w e:Int}:((B0 (xD w e)).length:Int)=qN w:=by
 unfold B0 qN LF xD;dsimp only;cases geI (w/32%8) 5<;>rfl
theorem bVP{r:RM}{zs:List Int}{l:List aA}{s h:Bool}(hr:r.Ok 65535)(hb:BusOk zs l):(bPY (bB r zs l s h)=true∧ ∃wd,K1 (bB r zs l s h)=(bB r (nM (mm r zs l s)).1.zs (nM (mm r zs l s)).1.l s h,(nM (mm r zs l s)).2.1,(nM (mm r zs l s)).2.2,wd,dF (nM (mm r zs l s)).1))∧Fet r s (nM (mm r zs l s)):=by
 have hp:=aM.1 hr.pw;obtain⟨a1,a2⟩:=bC9 (k:=3) (sz:=2) (v:=0) (r:=r) (s:=s) (pc:=r.pc) (w:=0) hb VW (by decide) hr.pw rfl rfl
 obtain⟨b1,b2⟩:=GD (s:=s) (pc:=r.pc) (w:=0) (k:=3) (v:=0) hr hb VW (by decide) hr.pw (by decide)
 obtain⟨c1,c2⟩:=aH9 r zs l s r.pc 0 3 2 r.pc 0;have d1:=N8 (pc:=r.pc) (w:=0) (r:=r) (zs:=zs) (l:=l) (s:=s) 3 2 r.pc 0;have f1:bY (cM (mq r zs l s r.pc 0) 3 2 r.pc 0).1=eqI (cQ 3 2 r.pc) 0:=jR rfl;have m1:=B3 (r:=r) (zs:=zs) (l:=l) (s:=s) (pc:=r.pc) (w:=0) (k:=3) (sz:=2) (a:=r.pc) (v:=0);have ef:nM (mm r zs l s)=LI (cM (mq r zs l s r.pc 0) 3 2 r.pc 0) r.pc:=rfl;have d1:dF (cM (mq r zs l s r.pc 0) 3 2 r.pc 0).1=aFH (cQ 3 2 r.pc) r.pc (eqI 3 2) f0 r.pc 0:=d1;rw[ef];generalize cM (mq r zs l s r.pc 0) 3 2 r.pc 0=A at a1 a2 b1 b2 c1 c2 d1 f1 m1;obtain⟨A1,w1⟩:=A;dsimp only at a1 a2 b1 b2 c1 c2 d1 f1 m1;have wr:=rP b2;have hw:cA w1 0 65535=true:=aM.2 wr;have ha:cA ((r.pc+2)%65536) 0 65535=true:=by rw[aM];omega
 have e2:aZ (aV r.pc 2) 65535=(r.pc+2)%65536:=by rw[bJ (by omega),tQ]
 obtain⟨p1,p2⟩:=bC9 (k:=3) (sz:=2) (v:=0) (r:=r) (s:=s) (pc:=r.pc) (w:=w1) b1 VW (by decide) ha rfl rfl
 obtain⟨q1,q2⟩:=GD (s:=s) (pc:=r.pc) (w:=w1) (k:=3) (v:=0) hr b1 VW (by decide) ha (by decide)
 obtain⟨u1,u2⟩:=aH9 r A1.zs A1.l s r.pc w1 3 2 ((r.pc+2)%65536) 0;have d2:dF (cM (mq r A1.zs A1.l s r.pc w1) 3 2 ((r.pc+2)%65536) 0).1=aFH (cQ 3 2 ((r.pc+2)%65536)) ((r.pc+2)%65536) (eqI 3 2) f0 r.pc w1:=N8 3 2 ((r.pc+2)%65536) 0;have f2:bY (cM (mq r A1.zs A1.l s r.pc w1) 3 2 ((r.pc+2)%65536) 0).1=eqI (cQ 3 2 ((r.pc+2)%65536)) 0:=jR rfl;have m2:=B3 (r:=r) (zs:=A1.zs) (l:=A1.l) (s:=s) (pc:=r.pc) (w:=w1) (k:=3) (sz:=2) (a:=(r.pc+2)%65536) (v:=0);cases hc:eqI (cQ 3 2 r.pc) 0
 ·
  rw[hc]at f1;have hn:cU (cQ 3 2 r.pc) 0=true:=by rw[rV,hc];rfl
  have eF:LI (A1,w1) r.pc=(A1,zI,0):=by unfold LI;rw[f1];rfl
  rw[eF];refine⟨aF (t:=IU (bB r zs l s h)) (P:=fun q=> ∃wd,q=(bB r A1.zs A1.l s h,zI,0,wd,dF A1)) ?_,⟨c1,c2,b1,fun z=>by rw[f1]at z;cases z⟩⟩
  unfold IU;unfold aFH at d1;rw[hc]at d1;simp only[bG,DR,BG,tZ,pX,tY,eX,lW,nN,lX,kW,cH,a1,a2,hn,(N7 _).1,(N7 _).2,d1,bX,wz];exact⟨0,rfl⟩
 ·rw[hc]at f1;have hn:cU (cQ 3 2 r.pc) 0=false:=by rw[rV,hc];rfl
  have m1:=m1 f1;have eA:({A1 with f:={A1.f with Word:=w1}}:MM)=mq r A1.zs A1.l s r.pc w1:=by rw[m1];rfl
  have g1: ∀e,k86 (xD w1 e)=true:=fun e=>(bBZ _).1
  have g2: ∀e,g86 (xD w1 e)=kZ (xD w1 e):=fun e=>(bBZ _).2
  cases hl:LF w1
  ·
   have l2:eqI (qN w1) 2=false:=by rw[aHT,hl]
   cases hgd:kZ (xD w1 0)
   ·have eF:LI (A1,w1) r.pc=({mq r A1.zs A1.l s r.pc w1 with f:={ff r.pc w1 with Vector:=4}},zI,0):=by
     unfold LI;rw[f1,hl,hgd];simp only[Bool.not_true,Bool.not_false,cond_true,cond_false];rw[m1];rfl
    rw[eF];refine⟨aF (t:=IU (bB r zs l s h)) (P:=fun q=> ∃wd,q=(bB r A1.zs A1.l s h,zI,0,wd,(⟨4,r.pc,0,w1,false⟩:aH))) ?_,⟨rfl,rfl,b1,fun z=>by cases z⟩⟩
    unfold IU;simp only[bG,DR,BG,tZ,pX,tY,eX,lW,nN,lX,kW,cH,a1,a2,hn,(uW _).1,(uW _).2,l2,(EF _ _).1,(EF _ _).2,g1,g2,hgd,bX,wz];exact⟨0,rfl⟩
   ·have eF:LI (A1,w1) r.pc=(mq r A1.zs A1.l s r.pc w1,xD w1 0,1):=by
     unfold LI;rw[f1,hl,hgd];simp only[Bool.not_true,Bool.not_false,cond_true,cond_false];rw[m1];rfl
    rw[eF];have l1:qN w1=1:=by unfold qN;rw[hl];rfl
    refine⟨aF (t:=IU (bB r zs l s h)) (P:=fun q=> ∃wd,q=(bB r A1.zs A1.l s h,xD w1 0,1,wd,f0)) ?_,⟨rfl,rfl,b1,fun _=>⟨w1,rfl,hgd,bMZ hw,by rw[aXN,l1]⟩⟩⟩
    unfold IU;simp only[bG,DR,BG,tZ,pX,tY,eX,lW,nN,lX,kW,cH,a1,a2,hn,(uW _).1,(uW _).2,l2,(EF _ _).1,(EF _ _).2,g1,g2,hgd,bX,wz];exact⟨w1,by rw[l1];rfl⟩
  ·
   have l2:eqI (qN w1) 2=true:=by rw[aHT,hl]
   have l1:qN w1=2:=by unfold qN;rw[hl];rfl
   have e3:LI (A1,w1) r.pc=VQ (A1,w1) (cM (mq r A1.zs A1.l s r.pc w1) 3 2 ((r.pc+2)%65536) 0):=by
    unfold LI;rw[f1,hl];simp only[Bool.not_true,cond_true,cond_false];rw[←eA]
   rw[e3];generalize cM (mq r A1.zs A1.l s r.pc w1) 3 2 ((r.pc+2)%65536) 0=C at p1 p2 q1 q2 u1 u2 d2 f2 m2;obtain⟨C1,w2⟩:=C;dsimp only at p1 p2 q1 q2 u1 u2 d2 f2 m2;cases hc2:eqI (cQ 3 2 ((r.pc+2)%65536)) 0
   ·rw[hc2]at f2;have hn2:cU (cQ 3 2 ((r.pc+2)%65536)) 0=true:=by rw[rV,hc2];rfl
    have eF:VQ (A1,w1) (C1,w2)=(C1,zI,0):=by unfold VQ;rw[f2];rfl
    rw[eF];refine⟨aF (t:=IU (bB r zs l s h)) (P:=fun q=> ∃wd,q=(bB r C1.zs C1.l s h,zI,0,wd,dF C1)) ?_,⟨u1,u2,q1,fun z=>by rw[f2]at z;cases z⟩⟩
    unfold IU;unfold aFH at d2;rw[hc2]at d2;simp only[bG,DR,BG,tZ,pX,tY,eX,lW,nN,lX,kW,cH,a1,a2,e2,p1,p2,hn,hn2,(uW _).1,(uW _).2,l2,(N7 _).1,(N7 _).2,d2,bX,wz];exact⟨0,rfl⟩
   ·rw[hc2]at f2;have hn2:cU (cQ 3 2 ((r.pc+2)%65536)) 0=false:=by rw[rV,hc2];rfl
    have m2:=m2 f2;cases hgd:kZ (xD w1 w2)
    ·have eF:VQ (A1,w1) (C1,w2)=({mq r C1.zs C1.l s r.pc w1 with f:={ff r.pc w1 with Vector:=4}},zI,0):=by
      unfold VQ;dsimp only;rw[f2,hgd];simp only[Bool.not_true,Bool.not_false,cond_true,cond_false];rw[m2];rfl
     rw[eF];refine⟨aF (t:=IU (bB r zs l s h)) (P:=fun q=> ∃wd,q=(bB r C1.zs C1.l s h,zI,0,wd,(⟨4,r.pc,0,w1,false⟩:aH))) ?_,⟨rfl,rfl,q1,fun z=>by cases z⟩⟩
     unfold IU;simp only[bG,DR,BG,tZ,pX,tY,eX,lW,nN,lX,kW,cH,a1,a2,e2,p1,p2,hn,hn2,(uW _).1,(uW _).2,l2,(EF _ _).1,(EF _ _).2,g1,g2,hgd,bX,wz];exact⟨0,rfl⟩
    ·have eF:VQ (A1,w1) (C1,w2)=(mq r C1.zs C1.l s r.pc w1,xD w1 w2,2):=by
      unfold VQ;dsimp only;rw[f2,hgd];simp only[Bool.not_true,Bool.not_false,cond_true,cond_false];rw[m2];rfl
     rw[eF];refine⟨aF (t:=IU (bB r zs l s h)) (P:=fun q=> ∃wd,q=(bB r C1.zs C1.l s h,xD w1 w2,2,wd,f0)) ?_,⟨rfl,rfl,q1,fun _=>⟨w1,rfl,hgd,bMZ hw,by rw[aXN,l1]⟩⟩⟩
     unfold IU;simp only[bG,DR,BG,tZ,pX,tY,eX,lW,nN,lX,kW,cH,a1,a2,e2,p1,p2,hn,hn2,(uW _).1,(uW _).2,l2,(EF _ _).1,(EF _ _).2,g1,g2,hgd,bX,wz];exact⟨w1,by rw[l1];rfl⟩
end Go.Proofs.YtdicpjkdpliofaaGreatBoundaries

namespace Go.Proofs.YtdicpjkdpliofaaGreatBoundaries
open Go Go.Zq
set_option maxHeartbeats 4000000
set_option maxRecDepth 100000
theorem bM0(x:aN):bP0 x=true∧bPZ x=vB x:=by
 refine aF (t:=a6N x) (P:=fun q=>q=vB x) ?_
 unfold a6N vB;simp only[aQ,aJ,true_and]
noncomputable def doJ(x:aN)(r:RM)(zs:List Int)(l:List aA)(s:Bool):MM:=tR (mq {r with pc:=beh x r.pc} zs l s r.pc (W x)) x r.pc
noncomputable def aIA(x:aN)(r:RM)(zs:List Int)(l:List aA)(s h:Bool):aD×aH:=
 bif vB x&&!r.sup then(bB r zs l s h,⟨8,r.pc,0,W x,false⟩)
 else(bB (bif bY (doJ x r zs l s)then(doJ x r zs l s).r else r) (doJ x r zs l s).zs (doJ x r zs l s).l (bif bY (doJ x r zs l s)then(doJ x r zs l s).stop else s) h,dF (doJ x r zs l s))
theorem b1X{x:aN}{r:RM}{zs:List Int}{l:List aA}{s h:Bool}(hr:r.Ok 65535)(hb:BusOk zs l)(hg:kZ x=true):bIH x r.pc (bB r zs l s h)=true∧bIG x r.pc (bB r zs l s h)=aIA x r zs l s h:=by
 refine aF (t:=a7Z x r.pc (bB r zs l s h)) (P:=fun q=>q=aIA x r zs l s h) ?_
 have lR:=PY s h hr hb;obtain⟨o1,o2⟩:=bCU (r:=r.g) lR.1 lR.2.1;obtain⟨e1,e2⟩:=b1P hg;have hl:=aH6 x;have n0:0<(B0 x).length:=by omega
 have e3:bF (ri (B0 x)) 0 0=W x:=by
  unfold B0;cases geI x.Ea.Mode 5<;>rfl
 have e4:ltI 0 ((B0 x).length:Int)=true:=dM.2 (by omega)
 have e5:dO [.int .i64] (ri (B0 x)) 0 0=true:=FY ⟨B0 x,rfl⟩ (by rw[aY];exact n0)
 have hp:=aM.1 hr.pw;have hbp:cA (beh x r.pc) 0 65535=true:=by rw[aM];unfold beh;omega
 obtain⟨b1,b2⟩:=P0 (w:=W x) (f:=f0) (bB r zs l s h) hg hr.pw;obtain⟨d1,r',s',d2,d3,d4⟩:=doD (w:=W x) (s:=s) (h:=h) (hr.setP hbp) hb hg hr.pw rfl;unfold a7Z;simp only[bG,aM7,BJ,DY,aM6,aM5,lW,nN,lX,kW,eM,eN,aW,cH,aU,bE,aT,aR,aP,aY,o1,o2,e1,e2,e3,e4,e5,kF,iW,show(⟨0,0,0,0,false⟩:aH)=f0 from rfl,cDN,o8,(bM0 _).1,(bM0 _).2,(tA _ _ _ _ _ _ _).1,(tA _ _ _ _ _ _ _).2,b1,b2,d1,d4,dW,wz,bZ]
 unfold aIA;refine⟨fun q=>?_,fun q=>?_⟩
 ·have:(vB x&&!r.sup)=true:=by
   obtain⟨z1,z2⟩:=aFI q;rw[z1,z2];rfl
  rw[this];rfl
 ·have:(vB x&&!r.sup)=false:=by
   cases hp1:vB x
   ·rfl
   ·rw[hp1,cond_true]at q;rw[q];rfl
  rw[this,cond_false];show _∧_
  unfold doJ;cases hf:bY (tR (mq {r with pc:=beh x r.pc} zs l s r.pc (W x)) x r.pc)
  ·obtain⟨z1,z2⟩:=zP hf;rw[z1];refine⟨fun _=>?_,fun z=>by rw[z2]at z;cases z⟩
   rw[d3 hf];rfl
  ·have z1:=tC hf;rw[z1];refine⟨fun z=>(by cases z),fun _=>?_⟩
   obtain⟨y1,y2⟩:=d2 hf;rw[y1,y2];rfl
theorem b1Y{r:RM}{zs:List Int}{l:List aA}{s:Bool}(hr:r.Ok 65535)(hb:BusOk zs l):bRC (bB r zs l s false)=true∧uK (bB r zs l s false)=CB (mm r zs l s) (AI (mm r zs l s)):=by
 refine aF (t:=a70 (bB r zs l s false)) (P:=fun q=>q=CB (mm r zs l s) (AI (mm r zs l s))) ?_
 obtain⟨⟨a1,wd,a2⟩,F⟩:=bVP (s:=s) (h:=false) hr hb;unfold AI vC G7;generalize nM (mm r zs l s)=Q at a2 F;obtain⟨Q1,x,n⟩:=Q;dsimp only at a2 F;have hrr:Q1.r=r:=F.hr;have hst:Q1.stop=s:=F.hs;unfold a70;dsimp only;cases hf:bY Q1
 ·obtain⟨z1,z2⟩:=zP hf;simp only[bG,NI,a1,a2,z1,z2,hf,Bool.false_and,bZ,bX,wz];unfold CB;rw[hf];rfl
 ·have z1:=tC hf;obtain⟨w,m1,m2,m3,m4⟩:=F.ok hf;dsimp only at m1 m2 m3 m4;obtain⟨d1,d2⟩:=b1X (s:=s) (h:=false) hr F.hb m2;have d1:bIH x r.pc (bB r Q1.zs Q1.l s false)=true:=d1;have d2:bIG x r.pc (bB r Q1.zs Q1.l s false)=aIA x r Q1.zs Q1.l s false:=d2;simp only[bG,NI,a1,a2,z1,lW,cH,d1,d2,hf,show cU f0.Vector 0=false from rfl,bX,wz]
  rw[show Q1.r.sup=r.sup by rw[hrr]]
  unfold aIA;cases hp:vB x&&!r.sup
  ·rw[cond_false,cond_false,hf,cond_true];have eJ:tR {Q1 with r:={Q1.r with pc:=((mm r zs l s).r.pc+2*n)%65536}} x (mm r zs l s).r.pc=doJ x r Q1.zs Q1.l s:=by
    rw[m1,m4,←m3];rfl
   rw[eJ];unfold CB;cases hj:bY (doJ x r Q1.zs Q1.l s)
   ·rw[(zP hj).1];rfl
   ·rw[tC hj];rfl
  ·rw[cond_true,cond_true];have e8:bY ({Q1 with f:={Q1.f with Vector:=8}}:MM)=false:=rfl
   rw[e8,cond_false];unfold CB;rw[e8,cond_false];rw[m1];refine Prod.ext rfl ?_;show(⟨8,r.pc,0,W x,false⟩:aH)=⟨8,r.pc,0,w,false⟩
   rw[m3]
end Go.Proofs.YtdicpjkdpliofaaGreatBoundaries

namespace Go.Proofs.YtdicpjkdpliofaaGreatBoundaries
open Go Go.Zq
set_option maxHeartbeats 4000000
set_option maxRecDepth 100000
structure FI(m:MM):Prop where
 p:cA m.f.PC 0 65535=true
 a:cA m.f.Addr 0 65535=true
 w:cA m.f.Word 0 65535=true
 z:eqI m.f.Vector 0=true→m.f.Addr=0∧m.f.Write=false
 g:eqI m.f.Vector 0=false→nH m.f=true
theorem FI.of{m m':MM}(h:FI m)(e:m'.f=m.f):FI m':=by
 obtain⟨p,a,w,z,g⟩:=h;exact⟨by rw[e];exact p,by rw[e];exact a,by rw[e];exact w,by rw[e];exact z,by rw[e];exact g⟩
theorem EO{m:MM}{k s a v:Int}(h:FI m)(ha:cA a 0 65535=true):FI (cM m k s a v).1:=by
 cases hc:(cU (cQ k s a) 0&&eqI m.f.Vector 0)
 ·refine h.of ?_;unfold cM;dsimp only;rw[hc];rfl
 ·have e:(cM m k s a v).1.f={m.f with Vector:=bif eqI (cQ k s a) 2 then 3 else 2,Addr:=a,Write:=eqI k 2}:=by
   unfold cM;dsimp only;rw[hc];rfl
  have hv:eqI (bif eqI (cQ k s a) 2 then(3:Int)else 2) 0=false:=by cases eqI (cQ k s a) 2<;>rfl
  refine⟨by rw[e];exact h.p,by rw[e];exact ha,by rw[e];exact h.w,fun z=>?_,fun _=>?_⟩
  ·rw[e]at z;exact absurd (z.symm.trans hv) (by decide)
  ·rw[e];unfold nH AJ;rw[show cA m.f.PC 0 65535=true from h.p,show cA m.f.Word 0 65535=true from h.w,show cA a 0 65535=true from ha]
   cases eqI (cQ k s a) 2<;>rfl
theorem bLK{t:Int}{m:MM}{s:Int}{o:aC}(hm:m.Ok t)(ho:OpOk o)(h:FI m):FI (dN m s o).1:=by
 obtain⟨p3,p4⟩:=rQ (s:=s) hm.r ho;unfold dN;refine bW (P:=fun z:MM×Int×Int=>FI z.1) (fun _=>h) fun _=>?_
 refine bW (P:=fun z:MM×Int×Int=>FI z.1) (fun _=>h) fun _=>?_
 refine bW (P:=fun z:MM×Int×Int=>FI z.1) (fun _=>h) fun _=>?_
 exact EO (h.of rfl) p4
theorem bVQ{m:MM}{s:Int}{o:aC}(h:FI m):FI (kI m s o).1:=by
 unfold kI;exact bW (P:=fun z:MM×Int=>FI z.1) (fun _=>h) (fun _=>h.of rfl)
theorem aIB{m:MM}{s a v:Int}{o:aC}(h:FI m)(ha:cA a 0 65535=true):FI (eD m s o a v):=by
 unfold eD;exact bW (P:=fun z:MM=>FI z) (fun _=>h.of rfl) (fun _=>EO h ha)
theorem bLL{t:Int}{m:MM}{v:Int}(hm:m.Ok t)(h:FI m):FI (dV m v):=by
 have ha:cA ((cP m.r.a 3-2)%65536) 0 65535=true:=by rw[aM];omega
 unfold dV;exact bW (P:=fun z:MM=>FI z) (fun _=>(EO (k:=2) (s:=2) (v:=v) h ha).of rfl) (fun _=>EO h ha)
theorem aP0{t:Int}{m:MM}(hm:m.Ok t)(h:FI m):FI (dE m).1:=by
 have ha:cA (cP m.r.a 3) 0 65535=true:=aM.2 (aEX hm.r);show FI (bif bY (cM m 1 2 (cP m.r.a 3) 0).1 then{(cM m 1 2 (cP m.r.a 3) 0).1 with r:={m.r with a:=m.r.a.set 3 ((cP m.r.a 3+2)%65536)}}else(cM m 1 2 (cP m.r.a 3) 0).1)
 exact bW (P:=fun z:MM=>FI z) (fun _=>(EO (k:=1) (s:=2) (v:=0) h ha).of rfl) (fun _=>EO h ha)
theorem aIC{t:Int}{m:MM}{v:Int}(hm:m.Ok t)(h:FI m)(hf:bY m=true)(hv:4≤v∧v≤21):FI (zO m v):=by
 have hz:=h.z hf;have ev:eqI v 0=false:=hJ.2 (by omega)
 refine⟨hm.r.pw,h.a,h.w,fun z=>?_,fun _=>?_⟩
 ·exact absurd ((show eqI v 0=true from z).symm.trans ev) (by decide)
 ·show nH {m.f with Vector:=v,PC:=m.r.pc}=true
  unfold nH;rw[show cA v 2 21=true from aM.2 (by omega),show cA m.r.pc 0 65535=true from hm.r.pw,show cA m.f.Addr 0 65535=true from h.a,show cA m.f.Word 0 65535=true from h.w]
  rw[show m.f.Addr=0 from hz.1,show m.f.Write=false from hz.2]
  rw[show(eqI 0 0&&!false)=true from rfl,Bool.or_true]
  rfl
theorem b1Z{t a:Int}{m:MM}{x:aN}(hm:m.Ok t)(h:FI m)(hf:bY m=true)(hi:InsOk x):FI (tR m x a):=by
 have hr:=aM.1 hi.hr;have rd: ∀s,FI (dN m s x.Ea).1:=fun s=>bLK hm hi.ho h
 have sp: ∀s,FI (kI m s x.Ea).1:=fun s=>bVQ h
 have sok: ∀s,(kI m s x.Ea).1.Ok t∧cA (kI m s x.Ea).2 0 65535=true:=fun s=>EI hm hi.ho
 unfold tR;refine bW (P:=fun z=>FI z) (fun _=>?_) fun _=>?_
 ·unfold Y8;exact bW (P:=fun z=>FI z) (fun _=>(rd 2).of rfl) (fun _=>rd 2)
 refine bW (P:=fun z=>FI z) (fun _=>(sp 2).of rfl) fun _=>?_
 refine bW (P:=fun z=>FI z) (fun _=>?_) fun _=>?_
 ·exact(aIB (s:=x.Size) (o:=x.Ea) (v:=cP m.r.d x.Reg%bS x.Size) (sp x.Size) (sok x.Size).2).of rfl
 refine bW (P:=fun z=>FI z) (fun h11=>?_) fun _=>?_
 ·obtain⟨q1,q2,q3⟩:=aE5 hm hi (dL.1 h11);have hq:FI (fD m x).1:=by
   unfold fD;exact bW (P:=fun z:MM×Int×Int=>FI z.1) (fun _=>sp x.Size) (fun _=>rd x.Size)
  unfold N4 EJ;refine bW (P:=fun z=>FI z) (fun _=>hq) fun _=>?_
  exact bW (P:=fun z=>FI z) (fun _=>(aIB (s:=x.Size) (o:=x.Ea) (v:=(xE x (fD m x).1.r.fl (fD m x).2.1).1) hq q3).of rfl) (fun _=>hq.of rfl)
 refine bW (P:=fun z=>FI z) (fun _=>h.of rfl) fun _=>?_
 refine bW (P:=fun z=>FI z) (fun _=>?_) fun _=>?_
 ·unfold AH;refine bW (P:=fun z=>FI z) (fun _=>bW (P:=fun z=>FI z) (fun _=>h.of rfl) (fun _=>h)) fun _=>?_
  have hj:FI (WZ x (kI m 2 x.Ea)):=by
   unfold WZ;exact bW (P:=fun z=>FI z) (fun _=>bLL (sok 2).1 (sp 2)) (fun _=>sp 2)
  unfold a0F;exact bW (P:=fun z=>FI z) (fun _=>hj.of rfl) (fun _=>hj)
 refine bW (P:=fun z=>FI z) (fun _=>?_) fun _=>?_
 ·have p1:=aP0 hm h;obtain⟨o1,-,-⟩:=JI hm;unfold EM;refine bW (P:=fun z=>FI z) (fun _=>p1.of rfl) fun _=>?_
  refine bW (P:=fun z=>FI z) (fun _=>?_) fun _=>?_
  ·refine bW (P:=fun z=>FI z) (fun _=>p1) fun _=>?_
   exact bW (P:=fun z=>FI z) (fun _=>(aP0 o1 p1).of rfl) (fun _=>aP0 o1 p1)
  refine bW (P:=fun z=>FI z) (fun _=>h.of rfl) fun _=>?_
  refine bW (P:=fun z=>FI z) (fun _=>aIC hm h hf (by omega)) fun _=>?_
  refine bW (P:=fun z=>FI z) (fun _=>h.of rfl) fun _=>?_
  exact bW (P:=fun z=>FI z) (fun _=>h.of rfl) (fun _=>h)
 refine bW (P:=fun z=>FI z) (fun h16=>?_) fun _=>?_
 ·have h2:x.Op=16∨x.Op=17:=by
   cases e:eqI x.Op 16
   ·rw[e,Bool.false_or,dL]at h16;exact Or.inr h16
   ·exact Or.inl (dL.1 e)
  obtain⟨r3,-,-⟩:=rT hm VW hi.ho o6 o6;unfold kC;refine bW (P:=fun z=>FI z) (fun _=>rd 2) fun hn=>?_
  unfold Y5;refine bW (P:=fun z=>FI z) (fun _=>(rd 2).of rfl) fun _=>?_
  exact bW (P:=fun z=>FI z) (fun _=>aIC r3 (rd 2) (G6 hn) (by omega)) (fun _=>(rd 2).of rfl)
 refine bW (P:=fun z=>FI z) (fun _=>?_) fun _=>?_
 ·unfold N5;refine bW (P:=fun z=>FI z) (fun _=>h.of rfl) fun _=>?_
  have hz:=h.z hf;refine⟨h.p,h.a,h.w,fun z=>?_,fun _=>?_⟩
  ·exact absurd (show eqI 4 0=true from z) (by decide)
  ·show nH {m.f with Vector:=4}=true
   unfold nH;rw[show cA m.f.PC 0 65535=true from h.p,show cA m.f.Addr 0 65535=true from h.a,show cA m.f.Word 0 65535=true from h.w,show m.f.Addr=0 from hz.1,show m.f.Write=false from hz.2]
   rfl
 refine bW (P:=fun z=>FI z) (fun _=>?_) fun _=>?_
 ·unfold VX;exact bW (P:=fun z=>FI z) (fun _=>h.of rfl) (fun _=>h.of rfl)
 ·unfold B1;refine bW (P:=fun z=>FI z) (fun _=>rd x.Size) fun _=>?_
  exact bW (P:=fun z=>FI z) (fun _=>(rd x.Size).of rfl) (fun _=>(rd x.Size).of rfl)
theorem aXO{r:RM}{zs:List Int}{l:List aA}{s:Bool}{pc w:Int}(hp:cA pc 0 65535=true)(hw:cA w 0 65535=true):FI (mq r zs l s pc w):=⟨hp,(by decide:cA 0 0 65535=true),hw,fun _=>⟨rfl,rfl⟩,fun z=>absurd (show eqI 0 0=false from z) (by decide)⟩
theorem bVR{r:RM}{zs:List Int}{l:List aA}{s:Bool}(hr:r.Ok 65535)(hb:BusOk zs l):FI (nM (mm r zs l s)).1:=by
 have a0:FI (mq r zs l s r.pc 0):=aXO hr.pw (by decide)
 have a1:FI (cM (mq r zs l s r.pc 0) 3 2 r.pc 0).1:=EO a0 hr.pw;obtain⟨b1,b2⟩:=GD (s:=s) (pc:=r.pc) (w:=0) (k:=3) (v:=0) hr hb VW (by decide) hr.pw (by decide)
 have m1:=B3 (r:=r) (zs:=zs) (l:=l) (s:=s) (pc:=r.pc) (w:=0) (k:=3) (sz:=2) (a:=r.pc) (v:=0);have ef:nM (mm r zs l s)=LI (cM (mq r zs l s r.pc 0) 3 2 r.pc 0) r.pc:=rfl;rw[ef];generalize cM (mq r zs l s r.pc 0) 3 2 r.pc 0=A at a1 b1 b2 m1;obtain⟨A1,w1⟩:=A;dsimp only at a1 b1 b2 m1;have hw:cA w1 0 65535=true:=aM.2 (rP b2);have ha:cA ((r.pc+2)%65536) 0 65535=true:=by rw[aM];omega
 have v4: ∀(m:MM),(∃r z l',m=mq r z l' s r.pc w1∧cA r.pc 0 65535=true)→FI {m with f:={m.f with Vector:=4}}:=by
  rintro m ⟨r',z,l',rfl,hp⟩
  have h:=aXO (r:=r') (zs:=z) (l:=l') (s:=s) hp hw;refine⟨h.p,h.a,h.w,fun z=>absurd (show eqI 4 0=true from z) (by decide),fun _=>?_⟩
  show nH ⟨4,r'.pc,0,w1,false⟩=true
  unfold nH;rw[show cA r'.pc 0 65535=true from hp,show cA w1 0 65535=true from hw]
  rfl
 unfold LI;refine bW (P:=fun z:MM×aN×Int=>FI z.1) (fun _=>a1) fun h1=>?_
 have m1:=m1 (G6 h1);have eA:({A1 with f:={A1.f with Word:=w1}}:MM)=mq r A1.zs A1.l s r.pc w1:=by rw[m1];rfl
 refine bW (P:=fun z:MM×aN×Int=>FI z.1) (fun _=>?_) fun _=>?_
 ·rw[eA];have c1:FI (cM (mq r A1.zs A1.l s r.pc w1) 3 2 ((r.pc+2)%65536) 0).1:=EO (aXO hr.pw hw) ha;have m2:=B3 (r:=r) (zs:=A1.zs) (l:=A1.l) (s:=s) (pc:=r.pc) (w:=w1) (k:=3) (sz:=2) (a:=(r.pc+2)%65536) (v:=0);generalize cM (mq r A1.zs A1.l s r.pc w1) 3 2 ((r.pc+2)%65536) 0=C at c1 m2;unfold VQ;refine bW (P:=fun z:MM×aN×Int=>FI z.1) (fun _=>c1) fun h2=>?_
  exact bW (P:=fun z:MM×aN×Int=>FI z.1) (fun _=>v4 _ ⟨r,_,_,m2 (G6 h2),hr.pw⟩) (fun _=>c1)
 ·refine bW (P:=fun z:MM×aN×Int=>FI z.1) (fun _=>?_) (fun _=>?_)
  ·have:=v4 (mq r A1.zs A1.l s r.pc w1) ⟨r,_,_,rfl,hr.pw⟩;rw[←eA]at this;exact this
  ·show FI ({A1 with f:={A1.f with Word:=w1}}:MM)
   rw[eA];exact aXO hr.pw hw
theorem bLM{r:RM}{zs:List Int}{l:List aA}{s:Bool}(hr:r.Ok 65535)(hb:BusOk zs l):FI (AI (mm r zs l s)):=by
 have f1:=bVR (s:=s) hr hb;have hm:(mm r zs l s).Ok 65535:=⟨hr,hb⟩;obtain⟨o1,o2⟩:=aPP hm;have b1:FI (vC (nM (mm r zs l s))):=by
  unfold vC;refine bW (P:=fun z=>FI z) (fun hb=>?_) (fun _=>f1)
  rw[Bool.and_eq_true]at hb;have hz:=f1.z hb.1;refine⟨f1.p,f1.a,f1.w,fun z=>absurd (show eqI 8 0=true from z) (by decide),fun _=>?_⟩
  show nH {(nM (mm r zs l s)).1.f with Vector:=8}=true
  unfold nH;rw[show cA (nM (mm r zs l s)).1.f.PC 0 65535=true from f1.p,show cA (nM (mm r zs l s)).1.f.Addr 0 65535=true from f1.a,show cA (nM (mm r zs l s)).1.f.Word 0 65535=true from f1.w,show(nM (mm r zs l s)).1.f.Addr=0 from hz.1,show(nM (mm r zs l s)).1.f.Write=false from hz.2]
  rfl
 have b2:(vC (nM (mm r zs l s))).Ok 65535:=by unfold vC;exact bW (P:=fun z=>MM.Ok 65535 z) (fun _=>⟨o1.r,o1.b⟩) (fun _=>o1)
 unfold AI G7;refine bW (P:=fun z=>FI z) (fun h=>?_) (fun _=>b1)
 have hf:bY (nM (mm r zs l s)).1=true:=by
  unfold vC at h;cases hh:bY (nM (mm r zs l s)).1
  ·rw[hh,Bool.false_and,cond_false,hh]at h;exact h
  ·rfl
 exact b1Z ⟨b2.r.setP (aM.2 (by omega)),b2.b⟩ (b1.of rfl) h (InsOk.of (o2 hf).1)
end Go.Proofs.YtdicpjkdpliofaaGreatBoundaries

namespace Go.Proofs.YtdicpjkdpliofaaGreatBoundaries
open Go Go.Zq
set_option maxHeartbeats 4000000
set_option maxRecDepth 100000
structure RP(r:RM)(p:RM):Prop where
 d:p.d=r.d
 f:p.fl=r.fl
 m:p.mask=r.mask
 s:p.sup=true
 t:p.tr=false
theorem RP.setA{r p:RM}{l:List Int}(h:RP r p):RP r {p with a:=l}:=⟨h.d,h.f,h.m,h.s,h.t⟩
theorem RP.setP{r p:RM}{v:Int}(h:RP r p):RP r {p with pc:=v}:=⟨h.d,h.f,h.m,h.s,h.t⟩
theorem bLN{r:RM}(h:r.Ok 65535):RP r (dH r (vE r)):=by
 have f:=aM.1 h.fw;have k:=aM.1 h.mw;have e1:vE r%32=r.fl:=by unfold vE;omega
 have e2:vE r/32%8=r.mask:=by unfold vE;omega
 have e3:eqI (vE r/256%2) 1=true:=by rw[dL];unfold vE;omega
 have e4:eqI (vE r/512%2) 1=false:=by rw[hJ];unfold vE;omega
 unfold dH;rw[e1,e2,e3,e4];cases hs:r.sup
 ·exact⟨rfl,rfl,rfl,rfl,rfl⟩
 ·exact⟨rfl,rfl,rfl,rfl,rfl⟩
theorem bLO{r:RM}{m:MM}{v:Int}(h:RP r m.r):RP r (dV m v).r:=by
 unfold dV;exact bW (P:=fun z:MM=>RP r z.r) (fun _=>h.setA) (fun _=>h)
theorem bDA{r:RM}{m:MM}{F:List Int}(h:RP r m.r): ∀i,RP r (pk m F i).r
 |0=>h
 |i+1=>bW (P:=fun z:MM=>RP r z.r) (fun _=>bLO (bDA h i)) (fun _=>bDA h i)
theorem bDB{r:RM}{zs:List Int}{l:List aA}{f:aH}(hr:r.Ok 65535)(hb:BusOk zs l)(hg:nH f=true): ∃r' zs' l' h',LM (mm (dH r (vE r)) zs l false) (oF r f) f.Vector=bB r' zs' l' false h'∧r'.Ok 65535∧BusOk zs' l'∧RP r r'∧(h'=false→bY (pk (mm (dH r (vE r)) zs l false) (oF r f) (oF r f).length)=true∧zs'=(pk (mm (dH r (vE r)) zs l false) (oF r f) (oF r f).length).zs∧r'.a=(pk (mm (dH r (vE r)) zs l false) (oF r f) (oF r f).length).r.a∧r'.pc=tV 1 2 (2*f.Vector) 0 zs'):=by
 obtain⟨gv,-⟩:=aFF hg;obtain⟨w1,w2⟩:=bCY hr hg;have hr':(dH r (vE r)).Ok 65535:=GC hr;have hm:(mm (dH r (vE r)) zs l false).Ok 65535:=⟨hr',hb⟩;have hp:=V2 hm w1 (oF r f).length;have hq:RP r (pk (mm (dH r (vE r)) zs l false) (oF r f) (oF r f).length).r:=bDA (bLN hr) _;unfold LM;generalize pk (mm (dH r (vE r)) zs l false) (oF r f) (oF r f).length=p at*;obtain⟨o1,o2⟩:=zN (k:=1) hp (LN gv) (by decide)
 have ez:(cM p 1 2 (2*f.Vector) 0).1.zs=p.zs:=by
  show tB 1 2 (2*f.Vector) 0 p.zs=p.zs
  unfold tB;rw[show eqI 1 2=false from rfl,Bool.and_false,cond_false]
 have ev:(cM p 1 2 (2*f.Vector) 0).2=tV 1 2 (2*f.Vector) 0 p.zs:=rfl;unfold aPX aPW;cases hf:bY p
 ·exact⟨p.r,p.zs,p.l,true,rfl,hp.r,hp.b,hq,fun h=>absurd h (by decide)⟩
 ·rw[cond_true];cases hc:bY (cM p 1 2 (2*f.Vector) 0).1
  ·exact⟨p.r,_,_,true,rfl,hp.r,o1.b,hq,fun h=>absurd h (by decide)⟩
  ·refine⟨{p.r with pc:=(cM p 1 2 (2*f.Vector) 0).2},_,_,false,rfl,hp.r.setP (aM.2 (rP o2)),o1.b,hq.setP,fun _=>⟨rfl,ez,rfl,?_⟩⟩
   rw[ez];exact ev
def Cgo(h:Bool)(c:aD):Prop:= ∃r zs l s,c=bB r zs l s h∧r.Ok 65535∧BusOk zs l
noncomputable def V8(c:aD)(f:aH):aD:=aCF f c
theorem V9{c:aD}{f:aH}(hc:Cgo false c)(hg:nH f=true):aCG f c=true∧(WW c f c.R.Mask=true∧WV c f c.R.Mask=V8 c f)∧(V8 c f).Stop=false∧ ∃h,Cgo h (V8 c f):=by
 obtain⟨r,zs,l,s,rfl,hr,hb⟩:=hc;obtain⟨a1,a2⟩:=aXH (s:=s) hr hb hg;have hm:cA r.mask 0 7=true:=by have:=hr.mw;rwa [show(65535:Int)-65528=7 from rfl]at this
 obtain⟨b1,b2⟩:=aXI (s:=s) (h:=false) hr hb hg hm;obtain⟨r',zs',l',h',e,o1,o2,-⟩:=bDB hr hb hg;have ee:V8 (bB r zs l s false) f=LM (mm (dH r (vE r)) zs l false) (oF r f) f.Vector:=a2;refine⟨a1,⟨b1,?_⟩,?_,h',?_⟩
 ·rw[ee];exact b2
 ·rw[ee,e];rfl
 ·rw[ee,e];exact⟨r',zs',l',false,rfl,o1,o2⟩
theorem aXP{c:aD}{f:aH}(hc:Cgo false c)(hg:nH f=true):WW c f c.R.Mask=true∧WV c f c.R.Mask=V8 c f:=(V9 hc hg).2.1
structure SP(q:aD×aH):Prop where
 c:Cgo false q.1
 g:eqI q.2.Vector 0=false→nH q.2=true
noncomputable def PM(r:RM)(zs:List Int)(l:List aA)(s:Bool):aD×aH:=CB (mm r zs l s) (AI (mm r zs l s))
theorem aP1{r:RM}{zs:List Int}{l:List aA}{s:Bool}(hr:r.Ok 65535)(hb:BusOk zs l):SP (PM r zs l s):=by
 have hm:(mm r zs l s).Ok 65535:=⟨hr,hb⟩;have ho:=aHY hm;have hf:=bLM (s:=s) hr hb;unfold PM CB;cases h:bY (AI (mm r zs l s))
 ·exact⟨⟨_,_,_,_,rfl,hr,ho.b⟩,fun z=>hf.g h⟩
 ·exact⟨⟨_,_,_,_,rfl,ho.r,ho.b⟩,fun z=>absurd (show eqI 0 0=false from z) (by decide)⟩
noncomputable def GH(q:aD×aH):aD:=bif eqI q.2.Vector 0 then q.1 else V8 q.1 q.2
def tF(c:aD):aH:=⟨9,c.R.PC,0,0,false⟩
def trB(tr:Bool)(c:aD)(v:Int):Bool:=(tr&&!c.Halt)&&(eqI v 0||(eqI v 5||geI v 18))
noncomputable def uY(tr:Bool)(q:aD×aH):aD×Int:=
 bif trB tr (GH q) q.2.Vector then(V8 (GH q) (tF (GH q)),bif eqI q.2.Vector 0 then 9 else q.2.Vector)else(GH q,q.2.Vector)
theorem bDC{q:aD×aH}(h:SP q): ∃hh,Cgo hh (GH q)∧(eqI q.2.Vector 0=false→(GH q).Stop=false):=by
 unfold GH;cases hv:eqI q.2.Vector 0
 ·obtain⟨-,-,e,hh,c⟩:=V9 h.c (h.g hv);exact⟨hh,c,fun _=>e⟩
 ·exact⟨false,h.c,fun z=>absurd z (by decide)⟩
theorem aFJ{h:Bool}{c:aD}(hc:Cgo h c):nH (tF c)=true:=by
 obtain⟨r,zs,l,s,rfl,hr,hb⟩:=hc;show nH ⟨9,r.pc,0,0,false⟩=true
 unfold nH;rw[show cA r.pc 0 65535=true from hr.pw]
 rfl
theorem bLQ{h:Bool}{c:aD}(hc:Cgo h c):c.Halt=h:=by
 obtain⟨r,zs,l,s,rfl,-⟩:=hc;rfl
theorem WA{h:Bool}{c:aD}(hc:Cgo h c)(e:c.Halt=false):Cgo false c:=by
 have:=bLQ hc;rw[e]at this;rw[this];exact hc
def CGd(c:aD):Prop:= ∃r zs l s h,c=bB r zs l s h∧r.Ok 65535∧BusOk zs l∧(!(s&&h))=true
theorem bDD{tr:Bool}{q:aD×aH}(h:SP q):CGd (uY tr q).1:=by
 obtain⟨hh,c,hs⟩:=bDC h;unfold uY;cases ht:trB tr (GH q) q.2.Vector
 ·rw[cond_false];cases hv:eqI q.2.Vector 0
  ·have:=hs hv;obtain⟨r,zs,l,s,e,a,b⟩:=c;rw[e]at this;have es:s=false:=this;exact⟨r,zs,l,s,hh,e,a,b,by rw[es];rfl⟩
  ·have e1:GH q=q.1:=by unfold GH;rw[hv];rfl
   rw[e1];obtain⟨r,zs,l,s,e,a,b⟩:=h.c;exact⟨r,zs,l,s,false,e,a,b,by rw[Bool.and_false];rfl⟩
 ·rw[cond_true];have hh2:(GH q).Halt=false:=by
   unfold trB at ht;simp only[Bool.and_eq_true]at ht;exact G5 ht.1.2
  obtain⟨-,-,e,h3,c3⟩:=V9 (WA c hh2) (aFJ c);obtain⟨r,zs,l,s,e2,a,b⟩:=c3;rw[e2]at e;have es:s=false:=e;exact⟨r,zs,l,s,h3,e2,a,b,by rw[es];rfl⟩
theorem bVS{r:RM}{zs:List Int}{l:List aA}{s:Bool}(hr:r.Ok 65535)(hb:BusOk zs l):bRD (bB r zs l s false)=true∧aZU (bB r zs l s false)=uY r.tr (PM r zs l s):=by
 refine aF (t:=a71 (bB r zs l s false)) (P:=fun q=>q=uY r.tr (PM r zs l s)) ?_
 obtain⟨a1,a2⟩:=b1Y (s:=s) hr hb;have a2:uK (bB r zs l s false)=PM r zs l s:=a2;have h:=aP1 (s:=s) hr hb;obtain⟨hh,c,hs⟩:=bDC h;generalize PM r zs l s=q at a2 h c hs;unfold a71;have te: ∀b:Bool,(bif bif r.tr then !b else false then(bif bif eqI q.2.Vector 0 then true else eqI q.2.Vector 5 then true else geI q.2.Vector 18)else false)=((r.tr&&!b)&&(eqI q.2.Vector 0||(eqI q.2.Vector 5||geI q.2.Vector 18))):=fun b=>by
  cases r.tr<;>cases b<;>cases eqI q.2.Vector 0<;>cases eqI q.2.Vector 5<;>rfl
 have k2:trB r.tr (GH q) q.2.Vector=true→aCG (tF (GH q)) (GH q)=true:=fun ht=>by
  have hh2:(GH q).Halt=false:=by
   unfold trB at ht;simp only[Bool.and_eq_true]at ht;exact G5 ht.1.2
  exact(V9 (WA c hh2) (aFJ c)).1
 cases hv:eqI q.2.Vector 0
 ·have e1:GH q=aCF q.2 q.1:=by unfold GH;rw[hv];rfl
  have k1:=(V9 h.c (h.g hv)).1;have hn:cU q.2.Vector 0=true:=by rw[rV,hv];rfl
  rw[hv]at te;unfold trB at k2;rw[hv,e1]at k2;unfold uY trB;rw[hv,e1];simp only[aQ,cB,aJ,UH,aC5,UG,aC4,wQ,a1,a2,k1,hn,lW,aR,hv,te,dS,mG,wz,Bool.and_true,true_and,forall_const,Bool.true_eq_false,Bool.false_eq_true,false_implies,and_true];refine⟨fun z=>⟨k2 z,?_⟩,fun z=>?_⟩
  ·rw[z];rfl
  ·rw[z];rfl
 ·have e1:GH q=q.1:=by unfold GH;rw[hv];rfl
  have hn:cU q.2.Vector 0=false:=by rw[rV,hv];rfl
  rw[hv]at te;unfold trB at k2;rw[hv,e1]at k2;unfold uY trB;rw[hv,e1];simp only[aQ,cB,aJ,UH,aC5,UG,aC4,wQ,a1,a2,hn,lW,aR,hv,te,dS,mG,wz,Bool.and_true,true_and,forall_const,Bool.true_eq_false,Bool.false_eq_true,false_implies,and_true];refine⟨fun z=>⟨k2 z,?_⟩,fun z=>?_⟩
  ·rw[z];rfl
  ·rw[z];rfl
end Go.Proofs.YtdicpjkdpliofaaGreatBoundaries

namespace Go.Proofs.YtdicpjkdpliofaaGreatBoundaries
open Go Go.Zq
set_option maxHeartbeats 4000000
set_option maxRecDepth 100000
theorem bVT{r:RM}{zs:List Int}{l:List aA}{s:Bool}(hr:r.Ok 65535)(hb:BusOk zs l):bS5 (bB r zs l s false)=true∧aZ9 (bB r zs l s false)=uY r.tr (PM r zs l s):=by
 refine aF (t:=bAR (bB r zs l s false)) (P:=fun q=>q=uY r.tr (PM r zs l s)) ?_
 obtain⟨a1,a2⟩:=bUZ (s:=s) (h:=false) hr hb;have a2:jP (bB r zs l s false)=PM r zs l s:=a2;have h:=aP1 (s:=s) hr hb;obtain⟨hh,c,hs⟩:=bDC h;generalize PM r zs l s=q at a2 h c hs;unfold bAR;have k2:trB r.tr (GH q) q.2.Vector=true→WW (GH q) (tF (GH q)) (GH q).R.Mask=true∧WV (GH q) (tF (GH q)) (GH q).R.Mask=V8 (GH q) (tF (GH q)):=fun ht=>by
  have hh2:(GH q).Halt=false:=by
   unfold trB at ht;simp only[Bool.and_eq_true]at ht;exact G5 ht.1.2
  exact aXP (WA c hh2) (aFJ c)
 cases hv:eqI q.2.Vector 0
 ·have e1:GH q=V8 q.1 q.2:=by unfold GH;rw[hv];rfl
  obtain⟨k1,g1⟩:=aXP h.c (h.g hv);have hn:cU q.2.Vector 0=true:=by rw[rV,hv];rfl
  unfold trB at k2;rw[hv,e1]at k2;unfold uY trB;rw[hv,e1];have n5:(bif ltI q.2.Vector 18 then cU q.2.Vector 5 else false)=!(eqI q.2.Vector 5||geI q.2.Vector 18):=by
   rw[rV];cases h5:eqI q.2.Vector 5
   ·cases h6:geI q.2.Vector 18
    ·rw[aWJ]at h6;rw[dM.2 h6];rfl
    ·rw[PT]at h6;rw[mB.2 h6];rfl
   ·cases ltI q.2.Vector 18<;>rfl
  have te: ∀b:Bool,(bif r.tr then !b else false)=(r.tr&&!b):=fun b=>by cases r.tr<;>rfl
  simp only[bG,aEJ,BW,aEI,BU,aEH,aEG,mM,NX,a1,a2,k1,g1,hn,n5,lW,eM,eN,aR,hv,te,bX,wz,bZ];refine⟨fun z=>?_,fun z=>⟨fun y=>?_,fun y=>?_⟩⟩
  ·rw[G5 z];rw[Bool.false_or,Bool.and_false];rfl
  ·have z:=G6 z;have w:=k2 (by rw[y,z];rfl)
   refine⟨w.1,?_⟩;rw[y,z];exact Prod.ext w.2 rfl
  ·rw[y];rfl
 ·have e1:GH q=q.1:=by unfold GH;rw[hv];rfl
  have hn:cU q.2.Vector 0=false:=by rw[rV,hv];rfl
  unfold trB at k2;rw[hv,e1]at k2;unfold uY trB;rw[hv,e1];have te: ∀b:Bool,(bif r.tr then !b else false)=(r.tr&&!b):=fun b=>by cases r.tr<;>rfl
  simp only[bG,aEJ,BW,aEI,BU,aEH,aEG,mM,NX,a1,a2,hn,lW,eM,eN,aR,hv,te,bX,wz,bZ];refine⟨fun y=>?_,fun y=>?_⟩
  ·have w:=k2 (by rw[y];rfl)
   refine⟨w.1,?_⟩;rw[y];exact Prod.ext w.2 rfl
  ·rw[y];rfl
end Go.Proofs.YtdicpjkdpliofaaGreatBoundaries
