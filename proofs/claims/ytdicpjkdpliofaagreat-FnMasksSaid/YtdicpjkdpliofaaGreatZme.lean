import Derived.Test.YtdicpjkdpliofaaGreatZqMasksQ
import Derived.Test.YtdicpjkdpliofaaGreatZmc
import Derived.Test.YtdicpjkdpliofaaGreatZmd
set_option linter.unusedVariables false
set_option linter.unusedSimpArgs false
namespace Go.Proofs.YtdicpjkdpliofaaGreatMasks
open Go Go.Zq
set_option maxHeartbeats 4000000
set_option maxRecDepth 100000
def aJU(p:aA×aA):Bool:=eqI p.1.Kind p.2.Kind&&(eqI p.1.Size p.2.Size&&(eqI p.1.Addr p.2.Addr&&(eqI p.1.Value p.2.Value&&(eqI p.1.Code p.2.Code&&true))))
def aDA(l m:List aA):Bool:=eqI (l.length:Int) (m.length:Int)&&(l.zip m).all aJU
theorem aDB: ∀{l:List aA}{p:aA×aA},p∈l.zip l→p.1=p.2
 |[],p,h=>by simp at h
 |a::l,p,h=>by
  rw[List.zip_cons_cons,List.mem_cons]at h;rcases h with rfl|h
  ·rfl
  ·exact aDB h
theorem aTB(l:List aA):aDA l l=true:=by
 unfold aDA;rw[show eqI (l.length:Int) (l.length:Int)=true by simp,Bool.true_and,List.all_eq_true]
 intro p hp;have:p.1=p.2:=aDB hp;unfold aJU;rw[this];simp
def aTC(r q:RM):Bool:=decide (r.d=q.d)&&(decide (r.a=q.a)&&(eqI r.oth q.oth&&(eqI r.pc q.pc&&(eqI r.fl q.fl&&(eqI r.mask q.mask&&(rD r.sup q.sup&&rD r.tr q.tr))))))
theorem aTD(r:RM):aTC r r=true:=by simp[aTC]
theorem b2(a b:Bool):(bif a then b else false)=(a&&b):=by cases a<;>rfl
theorem aTE(l m:List aA)(hl:l.length<1000000)(he:l.length=m.length):aJE (V193_0.mk (l.map aA.row) (m.map aA.row) (bL (l.map aA.row)) 0)=true∧(ltI (aAL (V193_0.mk (l.map aA.row) (m.map aA.row) (bL (l.map aA.row)) 0)).s13 (aAL (V193_0.mk (l.map aA.row) (m.map aA.row) (bL (l.map aA.row)) 0)).s12=!(l.zip m).all aJU):=by
 unfold aJE aAL;refine jL (Post:=fun w:V193_0=>ltI w.s13 w.s12=!(l.zip m).all aJU) (eO (fun n v=> ∃i:Nat,v=V193_0.mk (l.map aA.row) (m.map aA.row) (bL (l.map aA.row)) i∧i≤l.length∧n=l.length-i∧ ∀j(hj:j<(l.zip m).length),j<i→aJU (l.zip m)[j]=true) _ ?_ 9223372036854775808 l.length _ ⟨0,rfl,by omega,by omega,fun j _ h=>absurd h (by omega)⟩ (by omega))
 rintro n v ⟨i,rfl,hi,rfl,hall⟩
 have hz:(l.zip m).length=l.length:=by simp;omega
 unfold LG;simp only[aZ,dJ,aR,aQ,List.length_map,dW,oU,true_and,Int.toNat_natCast];constructor
 ·intro h;have hi':i<l.length:=by omega
  have hy':i<m.length:=by omega
  obtain⟨p1,p2⟩:=aAN hi';obtain⟨q1,q2⟩:=aAN hy';have hzi:i<(l.zip m).length:=by omega
  have ez:(l.zip m)[i]=(l[i],m[i]):=by simp
  have cond:(!(eqI (bD (l.map aA.row) i 0) (bD (m.map aA.row) i 0)&&(eqI (bD (l.map aA.row) i 1) (bD (m.map aA.row) i 1)&&(eqI (bD (l.map aA.row) i 2) (bD (m.map aA.row) i 2)&&(eqI (bD (l.map aA.row) i 3) (bD (m.map aA.row) i 3)&&(eqI (bD (l.map aA.row) i 4) (bD (m.map aA.row) i 4)&&true))))))=!aJU (l.zip m)[i]:=by
   rw[ez];have a0:bD (l.map aA.row) i 0=l[i].Kind:=congrArg aA.Kind p2;have a1:bD (l.map aA.row) i 1=l[i].Size:=congrArg aA.Size p2;have a2:bD (l.map aA.row) i 2=l[i].Addr:=congrArg aA.Addr p2;have a3:bD (l.map aA.row) i 3=l[i].Value:=congrArg aA.Value p2;have a4:bD (l.map aA.row) i 4=l[i].Code:=congrArg aA.Code p2;have c0:bD (m.map aA.row) i 0=m[i].Kind:=congrArg aA.Kind q2;have c1:bD (m.map aA.row) i 1=m[i].Size:=congrArg aA.Size q2;have c2:bD (m.map aA.row) i 2=m[i].Addr:=congrArg aA.Addr q2;have c3:bD (m.map aA.row) i 3=m[i].Value:=congrArg aA.Value q2;have c4:bD (m.map aA.row) i 4=m[i].Code:=congrArg aA.Code q2;rw[a0,a1,a2,a3,a4,c0,c1,c2,c3,c4];rfl
  rw[p1,q1,cond];refine⟨rfl,fun hq=>?_,fun hq=>?_⟩
  ·rw[aPH hzi (by simpa using hq)]
   simpa [ltI]using h
  ·refine⟨_,?_,i+1,?_,by omega,rfl,?_⟩
   ·omega
   ·rw[bP (by omega)];rfl
   ·intro j hj hji;by_cases e:j=i
    ·subst e;simpa using hq
    ·exact hall j hj (by omega)
 ·intro h;rw[aPI fun j hj=>hall j hj (by omega)]
  simpa [ltI]using h
theorem bKK(l m:List aA)(hl:l.length<1000000):bJG (l.map aA.row) (m.map aA.row)=true∧bJF (l.map aA.row) (m.map aA.row)=aDA l m:=by
 refine aE (t:=a22 (l.map aA.row) (m.map aA.row)) (P:=fun q=>q=aDA l m) ?_
 unfold a22 aDA;by_cases he:l.length=m.length
 ·obtain⟨h1,h2⟩:=aTE l m hl he;have e:cV (bL (l.map aA.row)) (bL (m.map aA.row))=false:=by simp[he]
  have e2:eqI (l.length:Int) (m.length:Int)=true:=by simp[he]
  simp only[bF,aJF,h1,h2,e,e2,bW];cases(l.zip m).all aJU<;>simp
 ·have e:cV (bL (l.map aA.row)) (bL (m.map aA.row))=true:=by simp;omega
  have e2:eqI (l.length:Int) (m.length:Int)=false:=by simp;omega
  simp only[bF,e,e2,Bool.false_and,bW]
end Go.Proofs.YtdicpjkdpliofaaGreatMasks

namespace Go.Proofs.YtdicpjkdpliofaaGreatMasks
open Go Go.Zq
set_option maxHeartbeats 4000000
set_option maxRecDepth 100000
theorem bKL(r q:RM)(hr:r.d.length<1000000)(ha:r.a.length<1000000):bJC r.g q.g=true∧bA1 r.g q.g=aTC r q:=by
 refine aE (t:=a21 r.g q.g) (P:=fun z=>z=aTC r q) ?_
 obtain⟨a1,a2⟩:=v6 r.d q.d hr;obtain⟨c1,c2⟩:=v6 r.a q.a ha;unfold a21 aTC;simp only[aZ,aR,eL,eN,aN,cJ,aM,bA,aO,aP,a1,a2,c1,c2,b2,Bool.and_assoc,Bool.true_or,Bool.and_true,true_and]
def a4D(r:RM)(zs:List Int)(l:List aA)(s h:Bool)(q:RM)(ys:List Int)(m:List aA)(s' h':Bool):Bool:=aTC r q&&(decide (zs=ys)&&(aDA l m&&(rD s s'&&rD h h')))
theorem aTF(r:RM)(zs:List Int)(l:List aA)(s h:Bool):a4D r zs l s h r zs l s h=true:=by simp[a4D,aTD,aTB]
theorem bBO(zs ys:List Int)(l m:List aA)(hz:zs.length<1000000)(hl:l.length<1000000):bJK (wM zs l) (wM ys m)=true∧bJJ (wM zs l) (wM ys m)=(decide (zs=ys)&&aDA l m):=by
 refine aE (t:=a23 (wM zs l) (wM ys m)) (P:=fun z=>z=(decide (zs=ys)&&aDA l m)) ?_
 obtain⟨a1,a2⟩:=v6 zs ys hz;obtain⟨c1,c2⟩:=bKK l m hl;unfold a23;simp only[aZ,aR,aC5,aPN,a1,a2,c1,c2,b2,Bool.true_or,Bool.and_true,true_and]
structure Sz(r:RM)(zs:List Int)(l:List aA):Prop where
 d:r.d.length<1000000
 a:r.a.length<1000000
 z:zs.length<1000000
 l:l.length<1000000
theorem bBP(r q:RM)(zs ys:List Int)(l m:List aA)(s h s' h':Bool)(z:Sz r zs l):k23 (bV r zs l s h) (bV q ys m s' h')=true∧g23 (bV r zs l s h) (bV q ys m s' h')=a4D r zs l s h q ys m s' h':=by
 refine aE (t:=T23 (bV r zs l s h) (bV q ys m s' h')) (P:=fun w=>w=a4D r zs l s h q ys m s' h') ?_
 obtain⟨a1,a2⟩:=bKL r q z.d z.a;obtain⟨c1,c2⟩:=bBO zs ys l m z.z z.l;unfold T23 a4D bV;simp only[aZ,aR,a1,a2,c1,c2,b2,Bool.and_assoc,Bool.true_or,Bool.and_true,true_and]
end Go.Proofs.YtdicpjkdpliofaaGreatMasks

namespace Go.Proofs.YtdicpjkdpliofaaGreatMasks
open Go Go.Zq
set_option maxHeartbeats 4000000
set_option maxRecDepth 100000
theorem aP9{t:Int}{zs:List Int}{i:Nat}(h:i<zs.length)(hz:bS zs[i] 0 t=false):gZ t zs=false:=aPH h hz
theorem aQA{t:Int}{zs:List Int}(h: ∀j(hj:j<zs.length),bS zs[j] 0 t=true):gZ t zs=true:=aPI h
theorem b1B(x:Int):a7O x=!bS x 0 65535:=by
 simp[a7O,dA,aW9,(LH _).2]
theorem b1C(x:Int):a7P x=true:=by
 simp[a7P,dA,aW9,(LH _).1]
theorem aTG(zs:List Int)(hl:zs.length<1000000):aF1 (V275_0.mk (ri zs) (bL (ri zs)) 0)=true∧0≤(P5 (V275_0.mk (ri zs) (bL (ri zs)) 0)).s8∧(ltI (P5 (V275_0.mk (ri zs) (bL (ri zs)) 0)).s8 (P5 (V275_0.mk (ri zs) (bL (ri zs)) 0)).s7=!gZ 65535 zs):=by
 unfold aF1 P5;refine jL (Post:=fun w=>0≤w.s8∧ltI w.s8 w.s7=!gZ 65535 zs) (eO (fun n v=> ∃i:Nat,v=V275_0.mk (ri zs) (bL (ri zs)) i∧i≤zs.length∧n=zs.length-i∧ ∀j(hj:j<zs.length),j<i→bS zs[j] 0 65535=true) _ ?_ 9223372036854775808 zs.length _ ⟨0,rfl,by omega,by omega,fun j _ h=>absurd h (by omega)⟩ (by omega))
 rintro n v ⟨i,rfl,hi,rfl,hall⟩
 unfold KL;simp only[aZ,dJ,aR,aQ,aY,dW,oU,true_and,Int.toNat_natCast];constructor
 ·intro h;have hi':i<zs.length:=by omega
  rw[tY hi',pO hi',b1C,b1B];refine⟨rfl,fun hz=>?_,fun hz=>?_⟩
  ·rw[aP9 hi' (by simpa using hz)]
   exact⟨by omega,by simpa [ltI]using h⟩
  ·refine⟨_,?_,i+1,?_,by omega,rfl,?_⟩
   ·omega
   ·rw[bP (by omega)];rfl
   ·intro j hj hji;by_cases e:j=i
    ·subst e;simpa using hz
    ·exact hall j hj (by omega)
 ·intro h;rw[aQA fun j hj=>hall j hj (by omega)]
  exact⟨by omega,by simpa [ltI]using h⟩
theorem bKM(zs:List Int)(hl:zs.length<1000000):aXC (ri zs)=true∧aXB (ri zs)=!gZ 65535 zs:=by
 obtain⟨h1,h2,h3⟩:=aTG zs hl;have a:a7X (ri zs)=true∧jO (a7W (ri zs)) 0=!gZ 65535 zs:=by
  unfold a7X a7W a7V YG;rw[dA,dA];simp only[yB,G5,oT,oL,C4,iB,h1,h3,Bool.true_and];cases gZ 65535 zs
  ·exact⟨rfl,by simpa using h2⟩
  ·exact⟨rfl,rfl⟩
 have b:aXC (ri zs)=true∧aXB (ri zs)=!gZ 65535 zs:=by
  unfold aXC aXB a7Y;rw[dA,dA];simp only[yB,oT,oL,iB,a.1,a.2,Bool.true_and,and_self]
 exact b
theorem a4E(zs:List Int)(hl:zs.length<1000000):a7Z (ri zs)=true∧aXE (ri zs)=(eqI (zs.length:Int) 4&&gZ 65535 zs):=by
 refine aE (t:=aXD (ri zs)) (P:=fun q=>q=(eqI (zs.length:Int) 4&&gZ 65535 zs)) ?_
 obtain⟨a1,a2⟩:=bKM zs hl;unfold aXD;simp only[aZ,aR,a1,a2,b2,aQ,aY,Bool.not_not,Bool.true_or,Bool.and_true,true_and]
def JG(r:RM):Bool:=(eqI (r.d.length:Int) 4&&gZ 65535 r.d)&&((eqI (r.a.length:Int) 4&&gZ 65535 r.a)&&(bS r.oth 0 65535&&(bS r.pc 0 65535&&(bS r.fl 0 31&&bS r.mask 0 7))))
theorem bBQ(r:RM)(hd:r.d.length<1000000)(ha:r.a.length<1000000):bE2 r.g=true∧a71 r.g=JG r:=by
 refine aE (t:=aXH r.g) (P:=fun q=>q=JG r) ?_
 obtain⟨a1,a2⟩:=a4E r.d hd;obtain⟨c1,c2⟩:=a4E r.a ha;unfold aXH JG;simp only[aZ,aR,aF5,aF4,aF3,aF2,eL,eN,aN,cJ,aM,bA,aO,aP,a1,a2,c1,c2,(LH _).1,(LH _).2,(aPZ _).1,(aPZ _).2,oV,oW,b2,Bool.and_assoc,Bool.true_or,Bool.and_true,true_and]
theorem aTH(zs:List Int)(hl:zs.length<1000000)(x:List Row):aHX (V242_0.mk x (ri zs) (bL (ri zs)) 0)=true∧((RG (V242_0.mk x (ri zs) (bL (ri zs)) 0)).s0=x∧ltI (RG (V242_0.mk x (ri zs) (bL (ri zs)) 0)).s7 (RG (V242_0.mk x (ri zs) (bL (ri zs)) 0)).s6=!gZ 65535 zs):=by
 unfold aHX RG;refine jL (Post:=fun w:V242_0=>w.s0=x∧ltI w.s7 w.s6=!gZ 65535 zs) (eO (fun n v=> ∃i:Nat,v=V242_0.mk x (ri zs) (bL (ri zs)) i∧i≤zs.length∧n=zs.length-i∧ ∀j(hj:j<zs.length),j<i→bS zs[j] 0 65535=true) _ ?_ 9223372036854775808 zs.length _ ⟨0,rfl,by omega,by omega,fun j _ h=>absurd h (by omega)⟩ (by omega))
 rintro n v ⟨i,rfl,hi,rfl,hall⟩
 unfold K6;simp only[aZ,dJ,aR,aQ,aY,dW,oU,true_and,Int.toNat_natCast];constructor
 ·intro h;have hi':i<zs.length:=by omega
  rw[tY hi',pO hi',(uE _).2,(uE _).1];refine⟨rfl,rfl,fun hz=>?_,fun hz=>?_⟩
  ·rw[aP9 hi' (by simpa using hz)]
   simpa [ltI]using h
  ·refine⟨_,?_,i+1,?_,by omega,rfl,?_⟩
   ·omega
   ·rw[bP (by omega)];rfl
   ·intro j hj hji;by_cases e:j=i
    ·subst e;simpa using hz
    ·exact hall j hj (by omega)
 ·intro h;rw[aQA fun j hj=>hall j hj (by omega)]
  simpa [ltI]using h
theorem a4F(zs:List Int)(hl:zs.length<1000000):a9T (ri zs)=true∧aZ8 (ri zs)=(eqI (zs.length:Int) 4&&gZ 65535 zs):=by
 refine aE (t:=aZ7 (ri zs)) (P:=fun q=>q=(eqI (zs.length:Int) 4&&gZ 65535 zs)) ?_
 obtain⟨h1,h0,h2⟩:=aTH zs hl (ri zs);simp only[aQ,aY]at h1 h0 h2;unfold aZ7;simp only[bF,ZO,h1,h0,h2,aQ,aY,eA,wz];cases gZ 65535 zs<;>simp
theorem bBR(r:RM)(hd:r.d.length<1000000)(ha:r.a.length<1000000):bHL r.g=true∧a9U r.g=JG r:=by
 refine aE (t:=a0A r.g) (P:=fun q=>q=JG r) ?_
 obtain⟨a1,a2⟩:=a4F r.d hd;obtain⟨c1,c2⟩:=a4F r.a ha;unfold a0A JG;simp only[bF,aH1,aH0,aHZ,aHY,eL,eN,aN,cJ,aM,bA,aO,aP,a1,a2,c1,c2,(uE _).1,(uE _).2,(aP0 _).1,(aP0 _).2,yD,yE,eA,wz,b2,Bool.and_assoc]
def nF(r:RM)(zs:List Int)(l:List aA)(s h:Bool):Bool:=JG r&&(MS zs l&&!(s&&h))
structure Sm(r:RM)(zs:List Int)(l:List aA):Prop where
 d:r.d.length≤1000
 a:r.a.length≤1000
 z:zs.length≤512
 l:l.length≤1000
theorem Sm.of{t:Int}{r:RM}{zs:List Int}{l:List aA}(h:r.Ok t)(b:BusOk zs l):Sm r zs l:=by
 have h1:=h.d4;have h2:=h.a4;have h3:=b.hz;have h4:=b.hl;exact⟨by omega,by omega,by omega,by omega⟩
theorem Sm.sz{r:RM}{zs:List Int}{l:List aA}(m:Sm r zs l):Sz r zs l:=⟨by have:=m.d;omega,by have:=m.a;omega,by have:=m.z;omega,by have:=m.l;omega⟩
theorem Sm.len{r:RM}{zs:List Int}{l:List aA}(m:Sm r zs l)(s h:Bool):aS5 (bV r zs l s h):=by
 have h1:=m.d;have h2:=m.a;have h3:=m.z;have h4:=m.l;refine⟨?_,?_,?_,?_⟩
 ·show(ri r.d).length≤2000;rw[aY];omega
 ·show(ri r.a).length≤2000;rw[aY];omega
 ·show(ri zs).length≤2000;rw[aY];omega
 ·show(l.map aA.row).length≤2000;rw[List.length_map];omega
theorem bBS{r:RM}{zs:List Int}{l:List aA}(s h:Bool)(m:Sm r zs l):bFA (bV r zs l s h)=true∧bE9 (bV r zs l s h)=nF r zs l s h:=by
 refine aE (t:=aXT (bV r zs l s h)) (P:=fun q=>q=nF r zs l s h) ?_
 obtain⟨a1,a2⟩:=bBQ r (by have:=m.d;omega) (by have:=m.a;omega)
 obtain⟨c1,c2⟩:=bKI zs l (by have:=m.z;omega) (by have:=m.l;omega)
 have c1':a8J (wM zs l)=true:=c1;have c2':a8I (wM zs l)=MS zs l:=c2;unfold aXT nF bV;simp only[aZ,aR,a1,a2,c1',c2',b2,Bool.and_assoc,Bool.true_or,Bool.and_true,true_and]
theorem bBT{r:RM}{zs:List Int}{l:List aA}(s h:Bool)(m:Sm r zs l):k90 (bV r zs l s h)=true∧g90 (bV r zs l s h)=nF r zs l s h:=by
 refine aE (t:=T90 (bV r zs l s h)) (P:=fun q=>q=nF r zs l s h) ?_
 obtain⟨a1,a2⟩:=bBR r (by have:=m.d;omega) (by have:=m.a;omega)
 obtain⟨c1,c2⟩:=bJU (b:=wM zs l) (zs:=zs) (l:=l) ⟨⟨zs,rfl⟩,⟨l,rfl⟩,by rw[aC5,aY];exact m.z,by rw[aPN,List.length_map];exact m.l⟩ rfl rfl
 unfold T90 nF bV MS;simp only[bF,a1,a2,c1,c2,eA,wz,b2,Bool.and_assoc]
theorem aA1{r:RM}{zs:List Int}{l:List aA}{s h:Bool}(g:nF r zs l s h=true):r.Ok 65535∧BusOk zs l:=by
 unfold nF JG MS at g;simp only[Bool.and_eq_true,cY,j8]at g;obtain⟨⟨⟨a1,a2⟩,⟨a3,a4⟩,a5,a6,a7,a8⟩,⟨b1,b2,b3,b4⟩,-⟩:=g;exact⟨⟨by decide,by decide,by omega,by omega,a2,a4,a5,a6,a7,a8⟩,⟨by omega,b3,by omega,b4⟩⟩
theorem a4G{r:aG}(h1:r.D.length≤2000)(h2:r.A.length≤2000):a8T r=true∧S8 r=r:=by
 refine aE (t:=aX9 r) (P:=fun q=>q=r) ?_
 obtain⟨a1,a2,a3,a4,a5,a6,a7,a8,a9⟩:=EP h1;obtain⟨c1,c2,c3,c4,c5,c6,c7,c8,c9⟩:=EP h2;unfold aX9;simp only[bF,aGK,eA,wz,bT,(MN).1,(MN).2,a1,a3,a4,a6,c1,c3,c4,c6]
theorem bKN{b:bG}(h1:b.Bytes.length≤2000)(h2:b.Log.length≤2000):bFK b=true∧aR8 b=b:=by
 refine aE (t:=aYA b) (P:=fun r=>r=b) ?_
 obtain⟨a1,a2,a3,a4,a5,a6,a7,a8,a9⟩:=EP h1;obtain⟨c1,c2,c3,c4,c5,c6,c7,c8,c9⟩:=EP h2;unfold aYA;simp only[bF,aGL,eA,wz,bT,(MN).1,(MN).2,a1,a4,a6,c2,c5,c6]
theorem bKO{c:aH}(h:aS5 c):k88 c=true∧g88 c=c:=by
 refine aE (t:=T88 c) (P:=fun r=>r=c) ?_
 obtain⟨h1,h2,h3,h4⟩:=h;unfold T88;simp only[bF,aYB,bCS,bCR,iZ,iJ,a4G h1 h2,bKN h3 h4,eA,wz,bT]
end Go.Proofs.YtdicpjkdpliofaaGreatMasks

namespace Go.Proofs.YtdicpjkdpliofaaGreatMasks
open Go Go.Zq
set_option maxHeartbeats 4000000
set_option maxRecDepth 100000
theorem p8{m:MM}{k s a v:Int}(h:m.f.Vector=0):cE (dQ m k s a v).1=eqI (dK k s a) 0:=by
 unfold dQ cE;dsimp only;rw[h];cases hc:eqI (dK k s a) 0
 ·have:cV (dK k s a) 0=true:=by rw[eT]at hc;exact o8.2 hc
  rw[this];cases eqI (dK k s a) 2<;>rfl
 ·have:cV (dK k s a) 0=false:=by rw[cY]at hc;exact VQ.2 hc
  rw[this,Bool.false_and,cond_false,h];rfl
def mm(r:RM)(zs:List Int)(l:List aA)(s:Bool):MM:=⟨r,zs,l,s,f0⟩
theorem bKP{v t:Int}{r:RM}{zs:List Int}{l:List aA}{s h:Bool}(hr:r.Ok t)(hb:BusOk zs l)(h0:0≤v)(h1:v≤65535):bGN v (bV r zs l s h)=true∧M6 v (bV r zs l s h)=(bV (fU (mm r zs l s) v).r (fU (mm r zs l s) v).zs (fU (mm r zs l s) v).l s h,(cI r.a 3-2)%65536,dK 2 2 ((cI r.a 3-2)%65536)):=by
 refine aE (t:=aZI v (bV r zs l s h)) (P:=fun q=>q=(bV (fU (mm r zs l s) v).r (fU (mm r zs l s) v).zs (fU (mm r zs l s) v).l s h,(cI r.a 3-2)%65536,dK 2 2 ((cI r.a 3-2)%65536))) ?_
 have hm:(mm r zs l s).Ok t:=⟨hr,hb⟩;obtain⟨b1,b2,b3,b4,b5,b6,b7⟩:=yY hr;have fa:=R9 hm h0 h1;obtain⟨a1,a2⟩:=NM (k:=2) (a:=(cI r.a 3-2)%65536) (fa.t hm) fa.ha (fun e=>absurd e (by decide))
 have a1':TA 2 2 ((cI r.a 3-2)%65536) v (wM zs l)=true:=a1;have a2':S9 2 2 ((cI r.a 3-2)%65536) v (wM zs l)=(wM (tB 2 2 ((cI r.a 3-2)%65536) v zs) (tL 2 2 ((cI r.a 3-2)%65536) v zs l),0,dK 2 2 ((cI r.a 3-2)%65536)):=a2;have hf:cE (dQ (mm r zs l s) 2 2 ((cI r.a 3-2)%65536) v).1=eqI (dK 2 2 ((cI r.a 3-2)%65536)) 0:=p8 rfl;unfold aZI fU;simp only[bF,aHJ,aHI,ZF,CL,show(bV r zs l s h).R=r.g from rfl,show(bV r zs l s h).Bus=wM zs l from rfl,show(bV r zs l s h).Stop=s from rfl,show(bV r zs l s h).Halt=h from rfl,eL,eN,aN,cJ,aM,bA,aO,aP,aQ,aY,b1,b2,b3,b4,b5,b6,a1',a2',dN,List.length_set,eA,wz]
 have e:(mm r zs l s).r=r:=rfl;rw[e,hf];refine⟨fun q=>by rw[q];rfl,fun q=>by rw[q];rfl⟩
theorem bP1{t:Int}{r:RM}{zs:List Int}{l:List aA}{s h:Bool}(hr:r.Ok t)(hb:BusOk zs l):bGT (bV r zs l s h)=true∧KZ (bV r zs l s h)=(bV (cP (mm r zs l s)).1.r (cP (mm r zs l s)).1.zs (cP (mm r zs l s)).1.l s h,(cP (mm r zs l s)).2,cI r.a 3,dK 1 2 (cI r.a 3)):=by
 refine aE (t:=aZL (bV r zs l s h)) (P:=fun q=>q=(bV (cP (mm r zs l s)).1.r (cP (mm r zs l s)).1.zs (cP (mm r zs l s)).1.l s h,(cP (mm r zs l s)).2,cI r.a 3,dK 1 2 (cI r.a 3))) ?_
 have hm:(mm r zs l s).Ok t:=⟨hr,hb⟩;obtain⟨b1,b2,b3,b4,b5,b6,b7⟩:=yY hr;have fa:=aAP hm;obtain⟨a1,a2⟩:=NM (k:=1) (a:=cI r.a 3) (fa.t hm) fa.ha (fun e=>rfl)
 have a1':TA 1 2 (cI r.a 3) 0 (wM zs l)=true:=a1;have a2':S9 1 2 (cI r.a 3) 0 (wM zs l)=(wM (tB 1 2 (cI r.a 3) 0 zs) (tL 1 2 (cI r.a 3) 0 zs l),tV 1 2 (cI r.a 3) 0 zs,dK 1 2 (cI r.a 3)):=a2;have hf:cE (dQ (mm r zs l s) 1 2 (cI r.a 3) 0).1=eqI (dK 1 2 (cI r.a 3)) 0:=p8 rfl;unfold aZL cP;simp only[bF,aHM,aHL,ZG,xV,show(bV r zs l s h).R=r.g from rfl,show(bV r zs l s h).Bus=wM zs l from rfl,show(bV r zs l s h).Stop=s from rfl,show(bV r zs l s h).Halt=h from rfl,eL,eN,aN,cJ,aM,bA,aO,aP,aQ,aY,b1,b2,b3,b4,b5,b7,a1',a2',dN,List.length_set,eA,wz]
 have e:(mm r zs l s).r=r:=rfl;rw[e,hf];refine⟨fun q=>by rw[q];rfl,fun q=>by rw[q];rfl⟩
def zC:aH:=⟨⟨[],[],0,0,0,0,false,false⟩,⟨[],[]⟩,false,false⟩
theorem aTI(m:MM)(v:Int):(fU m v).stop=m.stop:=by
 unfold fU;exact dY (P:=fun z:MM=>z.stop=m.stop) (fun _=>rfl) (fun _=>rfl)
theorem aDC(m:MM):(cP m).1.stop=m.stop:=by
 unfold cP;exact dY (P:=fun z:MM=>z.stop=m.stop) (fun _=>rfl) (fun _=>rfl)
end Go.Proofs.YtdicpjkdpliofaaGreatMasks

namespace Go.Proofs.YtdicpjkdpliofaaGreatMasks
open Go Go.Zq
set_option maxHeartbeats 4000000
set_option maxRecDepth 100000
theorem NQ{s f v:Int}(hs:s=1∨s=2):eZ s f v=cD (aD f 16) (cD (bif eqI v 0 then 4 else 0) (bif jO v (bN s/2)then 8 else 0)):=by
 refine(aE (t:=aIQ s f v) (P:=fun r=>r=cD (aD f 16) (cD (bif eqI v 0 then 4 else 0) (bif jO v (bN s/2)then 8 else 0))) ?_).2
 unfold aIQ;simp only[aZ,aR,(AN hs).1,(AN hs).2,Bool.and_true,true_and]
theorem a4H{s f v:Int}(hs:s=1∨s=2):bF2 s f v=true∧bF1 s f v=eZ s f v:=by
 refine aE (t:=aYY s f v) (P:=fun r=>r=eZ s f v) ?_
 unfold aYY;simp only[aZ,aR,(aS4 hs).1,(aS4 hs).2,NQ hs,Bool.and_true,true_and]
theorem bBU{s a b:Int}(ha:cT s a=true)(hb:cT s b=true):TE s 0 a b=true∧IV s 0 a b=((a-b)%bN s,A5 s a b):=by
 refine aE (t:=aY3 s 0 a b) (P:=fun r=>r=((a-b)%bN s,A5 s a b)) ?_
 obtain⟨h,a0,a1⟩:=pQ ha;obtain⟨-,b0,b1⟩:=pQ hb;have l:=qZ h;have sa:=xB h a0 a1;have sb:=xB h b0 b1;obtain⟨p1,p2⟩:=VT h a0 (by omega)
 obtain⟨q1,q2⟩:=VT h b0 (by omega)
 have e1:bZ (bZ a b) 0=a-b:=by rw[eE (x:=a) (by omega),eE (by omega)];omega
 have e2:bZ (bZ (xA s a) (xA s b)) 0=xA s a-xA s b:=by rw[eE (x:=xA s a) (by omega),eE (by omega)];omega
 unfold aY3;simp only[aZ,aR,aG9,aG8,p1,p2,q1,q2,e1,e2,(bBD h).1,(bBD h).2,Bool.and_true,true_and];rfl
theorem bDI{s f a b:Int}(ha:cT s a=true)(hb:cT s b=true):R0 s f a b=cD (aD (A5 s a b) 15) (aD f 16):=by
 refine(aE (t:=aJB s f a b) (P:=fun r=>r=cD (aD (A5 s a b) 15) (aD f 16)) ?_).2
 obtain⟨h1,h2⟩:=a3I ha hb;unfold aJB;simp only[aZ,aR,h1,h2,Bool.and_true,true_and]
theorem b1D{s f a b:Int}(ha:cT s a=true)(hb:cT s b=true):bF4 s f a b=true∧bF3 s f a b=R0 s f a b:=by
 refine aE (t:=aY4 s f a b) (P:=fun r=>r=R0 s f a b) ?_
 obtain⟨h1,h2⟩:=bBU ha hb;unfold aY4;simp only[aZ,aR,h1,h2,bDI ha hb,Bool.and_true,true_and];unfold A5;rw[a3Y]
theorem aQB{s v:Int}(hs:s=1∨s=2)(h0:0≤v)(h1:v<bN s):lO v (bZ (dB 8 s) 1)=bif jO v (bN s/2)then 1 else 0:=by
 rcases hs with rfl|rfl
 ·rw[show bZ (dB 8 1) 1=7 from by decide,qY (n:=7) 7 rfl (by omega)]
  have h1:v<256:=h1;show v/128=bif jO v 128 then 1 else 0
  cases h:jO v 128
  ·rw[a29]at h;rw[cond_false];omega
  ·rw[I7]at h;rw[cond_true];omega
 ·rw[show bZ (dB 8 2) 1=15 from by decide,qY (n:=15) 15 rfl (by omega)]
  have h1:v<65536:=h1;show v/32768=bif jO v 32768 then 1 else 0
  cases h:jO v 32768
  ·rw[a29]at h;rw[cond_false];omega
  ·rw[I7]at h;rw[cond_true];omega
theorem k8{p:Int→Prop}{k:Int}(h:bS k 0 7=true)(f: ∀n:Fin 8,p (n.val:Int)):p k:=by
 rw[aW]at h;obtain⟨n,rfl⟩:=Int.eq_ofNat_of_zero_le h.1;exact f ⟨n,by omega⟩
theorem bP2{k:Int}(h:bS k 0 7=true):a88 k=true∧aSK k=eqI (aD k 1) 0:=by
 refine aE (t:=aZB k) (P:=fun r=>r=eqI (aD k 1) 0) ?_
 unfold aZB;simp only[aZ,aR,true_and];exact k8 (p:=fun k=>eqI (iC k 2) 0=eqI (aD k 1) 0) h (by decide+kernel)
theorem a4I(k:Int):a1F k=eqI (aD k 1) 0:=by
 refine(aE (t:=aIT k) (P:=fun r=>r=eqI (aD k 1) 0) ?_).2
 unfold aIT;simp only[aZ,aR,true_and]
theorem bBV{c x v z:Int}(hc:MP c)(hx:x=0∨x=16)(hv:v=0∨v=2)(hz:z=0∨z=4∨z=8∨z=12):cD (cD (cD c x) v) z=cD (cD (cD c z) v) x:=by
 rcases hc with rfl|rfl<;>rcases hx with rfl|rfl<;>rcases hv with rfl|rfl<;>rcases hz with rfl|rfl|rfl|rfl<;>decide+kernel
theorem b1E{k s f v c:Int}(hs:s=1∨s=2)(hv0:0≤v)(hv1:v<bN s)(hk:bS k 0 7=true)(hf:bS f 0 31=true):bGC k s f v c=true∧bGB k s f v c=bif eqI k 1 then(bif jO v (bN s/2)then 1 else 0)else(bif (bif eqI k 4 then eqI k 4 else eqI k 5)then c else(bif (bif eqI k 6 then eqI k 6 else eqI k 7)then(bif cV (aD f 16) 0 then 1 else 0)else 0)):=by
 refine aE (t:=aZD k s f v c) (P:=fun r=>r=bif eqI k 1 then(bif jO v (bN s/2)then 1 else 0)else(bif (bif eqI k 4 then eqI k 4 else eqI k 5)then c else(bif (bif eqI k 6 then eqI k 6 else eqI k 7)then(bif cV (aD f 16) 0 then 1 else 0)else 0))) ?_
 have e:kF f 16=bif cV (aD f 16) 0 then 1 else 0:=bU (p:=fun f=>kF f 16=bif cV (aD f 16) 0 then 1 else 0) hf (by decide+kernel)
 have z:leI 0 (bZ (dB 8 s) 1)=true:=by rcases hs with rfl|rfl<;>decide
 unfold aZD;simp only[aZ,dJ,aR,aQB hs hv0 hv1,e,z,Bool.and_true,true_and];refine⟨fun q=>by rw[q];rfl,fun q=>?_⟩
 rw[q];refine⟨fun q=>by rw[q];rfl,fun q=>?_⟩
 rw[q];exact⟨fun q=>by rw[q];rfl,fun q=>by rw[q];rfl⟩
end Go.Proofs.YtdicpjkdpliofaaGreatMasks

namespace Go.Proofs.YtdicpjkdpliofaaGreatMasks
open Go Go.Zq
set_option maxHeartbeats 4000000
set_option maxRecDepth 100000
theorem bKQ{s x:Int}(hs:s=1∨s=2)(h:MP x):hX x (bZ (dB 8 s) 1)=dB x (bN s/2):=by
 rcases hs with rfl|rfl<;>rcases h with rfl|rfl<;>decide
theorem bP3{k s f v:Int}(hs:s=1∨s=2)(hv:cT s v=true)(hf:bS f 0 31=true)(hk:bS k 0 7=true):bGE k s f v=true∧bGD k s f v=oS k s f v:=by
 have lv:=kA hs hv;obtain⟨-,v0,v1⟩:=pQ hv;obtain⟨l1,l2⟩:=bP2 hk;have sp:=C8 (k:=k) hs hv hf;have b2:AJ s v=bif jO v (bN s/2)then 1 else 0:=by
  unfold AJ;rw[(eU _ _).2,(kT hs).2,aJN hs]
 have b3:j9 k s v=bif eqI (aD k 1) 0 then(bif jO v (bN s/2)then 1 else 0)else aD v 1:=by
  unfold j9;rw[a4I,b2]
 have c3:MP (j9 k s v):=by
  rw[b3];exact AO (pA _) aAT
 have a0:KU k s v=j9 k s v:=by
  unfold KU;rw[l2,aQB hs v0 v1,b3]
 obtain⟨m1,m2⟩:=b1E (c:=j9 k s v) hs v0 v1 hk hf;have b4:vQ k s f v=ZA k s f v:=by
  unfold vQ ZA aIU RX;rw[a0,m2,b2,(eU _ _).2]
 have c4:MP (vQ k s f v):=by
  unfold vQ;rw[b2,(eU _ _).2];exact AO (pA _) (AO c3 (AO (pA _) (Or.inl rfl)))
 have hm:bZ (dB 2 (kF (bN s) 2)) 1=bZ (bN s) 1:=by rcases hs with rfl|rfl<;>decide
 have b5:KV k s f v=jG k s f v:=by
  unfold KV jG;rw[l2,a4I,←b4,(iG hs).2,(kT hs).2,hm,bKQ hs c4,aJN hs]
 obtain⟨sp1,sp2,-⟩:=sp;have w5:oS k s f v=(jG k s f v,(oS k s f v).2)∧(oS k s f v).2=cD (sB k s f v) (bif (bif eqI k 4 then true else eqI k 5)then aD f 16 else dB (j9 k s v) 16):=by
  refine(aE (t:=aCU k s f v) (P:=fun r=>r=(jG k s f v,r.2)∧r.2=cD (sB k s f v) (bif (bif eqI k 4 then true else eqI k 5)then aD f 16 else dB (j9 k s v) 16)) ?_).2
  unfold aCU;simp only[bF,(kT hs).1,(eU _ _).1,a3T,(AN hs).1,eA];exact⟨fun q=>by rw[q];rfl,fun q=>by rw[q];rfl⟩
 have v5:cT s (jG k s f v)=true:=by rw[w5.1]at sp2;exact sp2
 obtain⟨-,u0,u1⟩:=pQ v5;have t5:=aQB hs u0 u1;have tv:=aQB hs v0 v1;have z7:leI 0 (bZ (dB 8 s) 1)=true:=by rcases hs with rfl|rfl<;>decide
 refine aE (t:=aZE k s f v) (P:=fun r=>r=oS k s f v) ?_
 rw[w5.1,w5.2];unfold aZE aHF;simp only[bF,a0,b5,l1,l2,m1,z7,(iG hs).1,(yF _ _).1,(yF _ _).2,(aS4 hs).1,(aS4 hs).2,eA];refine Prod.ext rfl ?_;show cD (cD (cD (dB (j9 k s v) 1) (bif (bif eqI k 4 then true else eqI k 5)then aD f 16 else dB (j9 k s v) 16)) _) _=_
 unfold sB GY K9;rw[(AN hs).2,(eU _ _).2,(eU _ _).2,(kT hs).2,aJN hs,b2,t5,tv];have mc:dB (j9 k s v) 1=j9 k s v:=by rcases c3 with h|h<;>rw[h]<;>decide
 have hx:(bif (bif eqI k 4 then true else eqI k 5)then aD f 16 else dB (j9 k s v) 16)=0∨(bif (bif eqI k 4 then true else eqI k 5)then aD f 16 else dB (j9 k s v) 16)=16:=by
  cases(bif eqI k 4 then true else eqI k 5)
  ·rw[cond_false];rcases c3 with h|h<;>rw[h]<;>decide
  ·exact aAQ hf
 rw[mc];have sym:cV (bif jO (jG k s f v) (bN s/2)then 1 else 0) (bif jO v (bN s/2)then 1 else 0)=cV (bif jO v (bN s/2)then 1 else 0) (bif jO (jG k s f v) (bN s/2)then 1 else 0):=by
  cases jO (jG k s f v) (bN s/2)<;>cases jO v (bN s/2)<;>rfl
 rw[sym];generalize (bif eqI k 0 then cV (bif jO v (bN s/2)then 1 else 0) (bif jO (jG k s f v) (bN s/2)then 1 else 0)else false)=V
 have hv2:(bif V then(2:Int)else 0)=0∨(bif V then(2:Int)else 0)=2:=by cases V<;>simp
 have hz: ∀a b:Bool,cD (bif a then 4 else 0) (bif b then 8 else 0)=0∨cD (bif a then 4 else 0) (bif b then 8 else 0)=4∨cD (bif a then 4 else 0) (bif b then 8 else 0)=8∨cD (bif a then 4 else 0) (bif b then 8 else 0)=12:=by
  intro a b;cases a<;>cases b<;>decide
 exact bBV c3 hx hv2 (hz _ _)
noncomputable def SJ(k s:Int):Nat→Int→Int→Int→Int×Int×Int
 |0,f,v,a=>(f,v,a)
 |n+1,f,v,a=>SJ k s n (oS k s f v).2 (oS k s f v).1 (cD a (aD (oS k s f v).2 2))
theorem bP4{k s f v:Int}{n:Nat}(hs:s=1∨s=2)(hv:cT s v=true)(hf:bS f 0 31=true)(hn:n≤100):GZ (V252_0.mk k s f v (n:Int) 0)=true∧(sD (V252_0.mk k s f v (n:Int) 0)).s2=(SJ k s n f v 0).1∧(sD (V252_0.mk k s f v (n:Int) 0)).s3=(SJ k s n f v 0).2.1∧(sD (V252_0.mk k s f v (n:Int) 0)).s13=(SJ k s n f v 0).2.2:=by
 unfold GZ sD;refine jL (Post:=fun w:V252_0=>w.s2=(SJ k s n f v 0).1∧w.s3=(SJ k s n f v 0).2.1∧w.s13=(SJ k s n f v 0).2.2) (eO (fun(m:Nat) (w:V252_0)=>w.s0=k∧w.s1=s∧w.s4=(m:Int)∧m≤100∧cT s w.s3=true∧bS w.s2 0 31=true∧SJ k s m w.s2 w.s3 w.s13=SJ k s n f v 0) _ ?_ 9223372036854775808 n _ ⟨rfl,rfl,rfl,hn,hv,hf,rfl⟩ (by omega))
 rintro m w ⟨e0,e1,e2,e3,e4,e5,e6⟩
 obtain⟨o1,o2,o3⟩:=C8 (k:=k) hs e4 e5;unfold CW;simp only[aZ,dJ,aR,sC,e0,e1,e2,o1,qX,I6,Bool.and_true,true_and];refine⟨fun q=>⟨m-1,by omega,?_,by omega,o2,o3,?_⟩,fun q=>?_⟩
 ·rw[eE (by omega)];omega
 ·obtain⟨p,rfl⟩: ∃p,m=p+1:=⟨m-1,by omega⟩
  rw[←e6];rfl
 ·obtain rfl:m=0:=by omega
  rw[←e6];exact⟨rfl,rfl,rfl⟩
theorem bP5{k s f v:Int}{n:Nat}(hs:s=1∨s=2)(hv:cT s v=true)(hf:bS f 0 31=true)(hk:bS k 0 7=true)(hn:n≤100):aHG (V286_0.mk k s f v (n:Int) 0)=true∧((QW (V286_0.mk k s f v (n:Int) 0)).s2=(SJ k s n f v 0).1∧(QW (V286_0.mk k s f v (n:Int) 0)).s3=(SJ k s n f v 0).2.1∧(QW (V286_0.mk k s f v (n:Int) 0)).s14=(SJ k s n f v 0).2.2):=by
 unfold aHG QW;refine jL (Post:=fun w:V286_0=>w.s2=(SJ k s n f v 0).1∧w.s3=(SJ k s n f v 0).2.1∧w.s14=(SJ k s n f v 0).2.2) (eO (fun(m:Nat) (w:V286_0)=>w.s0=k∧w.s1=s∧w.s4=(m:Int)∧m≤100∧cT s w.s3=true∧bS w.s2 0 31=true∧SJ k s m w.s2 w.s3 w.s14=SJ k s n f v 0) _ ?_ 9223372036854775808 n _ ⟨rfl,rfl,rfl,hn,hv,hf,rfl⟩ (by omega))
 rintro m w ⟨e0,e1,e2,e3,e4,e5,e6⟩
 obtain⟨-,o2,o3⟩:=C8 (k:=k) hs e4 e5;obtain⟨o1,o4⟩:=bP3 hs e4 e5 hk;unfold KW;simp only[aZ,dJ,aR,AG,e0,e1,e2,o1,o4,qX,I6,Bool.and_true,true_and];refine⟨fun q=>⟨m-1,by omega,?_,by omega,o2,o3,?_⟩,fun q=>?_⟩
 ·rw[eE (by omega)];omega
 ·obtain⟨p,rfl⟩: ∃p,m=p+1:=⟨m-1,by omega⟩
  rw[←e6];rfl
 ·obtain rfl:m=0:=by omega
  rw[←e6];exact⟨rfl,rfl,rfl⟩
theorem byJ{k s f v c:Int}(hs:s=1∨s=2)(hv:cT s v=true)(hf:bS f 0 31=true)(hk:bS k 0 7=true)(h0:1≤c)(h1:c≤100):bGG k s f v c=true∧bGF k s f v c=TI k s f v c:=by
 obtain⟨n,rfl⟩:=Int.eq_ofNat_of_zero_le (show 0≤c by omega)
 have hc:eqI (n:Int) 0=false:=by rw[eT];omega
 obtain⟨ik,a1,a2,a3⟩:=bP4 (k:=k) hs hv hf (n:=n) (by omega)
 obtain⟨b0,b1,b2,b3⟩:=bP5 hs hv hf hk (n:=n) (by omega)
 have e:TI k s f v (n:Int)=((SJ k s n f v 0).2.1,cD (SJ k s n f v 0).1 (SJ k s n f v 0).2.2):=by
  refine(aE (t:=aAD k s f v (n:Int)) (P:=fun r=>r=((SJ k s n f v 0).2.1,cD (SJ k s n f v 0).1 (SJ k s n f v 0).2.2)) ?_).2
  unfold aAD;simp only[bF,LA,RZ,(AN hs).1,(eU _ _).1,hc,ik,a1,a2,a3,eA,Bool.false_eq_true,false_implies,implies_true]
 refine aE (t:=aZF k s f v (n:Int)) (P:=fun r=>r=TI k s f v (n:Int)) ?_
 unfold aZF;simp only[bF,ZE,aHH,hc,b0,b1,b2,b3,e,eA,Bool.false_eq_true,false_implies,implies_true]
end Go.Proofs.YtdicpjkdpliofaaGreatMasks

namespace Go.Proofs.YtdicpjkdpliofaaGreatMasks
open Go Go.Zq
set_option maxHeartbeats 4000000
set_option maxRecDepth 100000
theorem bJT{c:Int}(h:bS c 0 31=true):iC c 2=aD c 1:=bU (p:=fun c=>iC c 2=aD c 1) h (by decide+kernel)
theorem bKR(c f:Int):aIW c f=bif eqI c 2 then eqI (aD f 5) 0 else bif eqI c 4 then eqI (aD f 1) 0 else bif eqI c 6 then eqI (aD f 4) 0 else bif eqI c 8 then eqI (aD f 2) 0 else bif eqI c 10 then eqI (aD f 8) 0 else bif eqI c 12 then rD (cV (aD f 8) 0) (cV (aD f 2) 0)else bif eqI c 14 then(bif rD (cV (aD f 8) 0) (cV (aD f 2) 0)then eqI (aD f 4) 0 else false)else true:=by
 refine(aE (t:=LB c f) (P:=fun r=>r=bif eqI c 2 then eqI (aD f 5) 0 else bif eqI c 4 then eqI (aD f 1) 0 else bif eqI c 6 then eqI (aD f 4) 0 else bif eqI c 8 then eqI (aD f 2) 0 else bif eqI c 10 then eqI (aD f 8) 0 else bif eqI c 12 then rD (cV (aD f 8) 0) (cV (aD f 2) 0)else bif eqI c 14 then(bif rD (cV (aD f 8) 0) (cV (aD f 2) 0)then eqI (aD f 4) 0 else false)else true) ?_).2
 unfold LB;simp only[aZ,dJ,aR,aIV,true_and];refine⟨fun q=>by rw[q];rfl,fun q=>?_⟩
 rw[q];refine⟨fun q=>by rw[q];rfl,fun q=>?_⟩
 rw[q];refine⟨fun q=>by rw[q];rfl,fun q=>?_⟩
 rw[q];refine⟨fun q=>by rw[q];rfl,fun q=>?_⟩
 rw[q];refine⟨fun q=>by rw[q];rfl,fun q=>?_⟩
 rw[q];refine⟨fun q=>by rw[q];rfl,fun q=>?_⟩
 rw[q];exact⟨fun q=>by rw[q];rfl,fun q=>by rw[q];rfl⟩
theorem bKS(c f:Int):A4 c f=rD (aIW (aJ c 1) f) (eqI (aD c 1) 0):=by
 refine(aE (t:=aCV c f) (P:=fun r=>r=rD (aIW (aJ c 1) f) (eqI (aD c 1) 0)) ?_).2
 unfold aCV;simp only[aZ,aR,a3U,Bool.and_true,true_and]
theorem bP6(a f:Int):M5 a f=true∧KX a f=cV (aD f a) 0:=by
 refine aE (t:=aZG a f) (P:=fun r=>r=cV (aD f a) 0) ?_
 unfold aZG;simp only[aZ,aR,true_and]
theorem bBW(x y:Int):(!(cV x y))=eqI x y:=by
 cases h:eqI x y
 ·rw[eT]at h;have:cV x y=true:=by rw[o8];exact h
  rw[this];rfl
 ·rw[cY]at h;have:cV x y=false:=by rw[VQ];exact h
  rw[this];rfl
theorem bP7{c f:Int}(hc:bS c 0 31=true):bGK c f=true∧bGJ c f=A4 c f:=by
 refine aE (t:=aZH c f) (P:=fun r=>r=A4 c f) ?_
 rw[bKS,bKR];have hr:=bJT hc;unfold aZH;simp only[bF,(bP6 _ _).1,(bP6 _ _).2,hr,bBW,eA];refine⟨fun q=>by rw[q];rfl,fun q=>?_⟩
 rw[q];refine⟨fun q=>by rw[q];rfl,fun q=>?_⟩
 rw[q];refine⟨fun q=>by rw[q];rfl,fun q=>?_⟩
 rw[q];refine⟨fun q=>by rw[q];rfl,fun q=>?_⟩
 rw[q];refine⟨fun q=>by rw[q];rfl,fun q=>?_⟩
 rw[q];refine⟨fun q=>by rw[q];rfl,fun q=>?_⟩
 rw[q];refine⟨fun q=>?_,fun q=>by rw[q];rfl⟩
 rw[q,cond_true,cond_false,cond_false,cond_false,cond_false,cond_false,cond_false];cases eqI (aD f 4) 0<;>cases rD (cV (aD f 8) 0) (cV (aD f 2) 0)<;>rfl
end Go.Proofs.YtdicpjkdpliofaaGreatMasks

namespace Go.Proofs.YtdicpjkdpliofaaGreatMasks
open Bool renaming and_true → qt
open Go Go.Zq
set_option maxHeartbeats 4000000
set_option maxRecDepth 100000
theorem aA2{v:Int}(h:bS v 0 255=true):aZS v=true∧bGY v=iA v:=by
 refine aE (t:=aZR v) (P:=fun q=>q=iA v) ?_
 have e1:lO v 4=v/16:=qY (n:=4) 4 rfl (by omega)
 have e2:aD v 15=v%16:=nZ 4 _ (by omega) (by decide)
 rw[(VZ v).2,e1,e2,h];unfold aZR;simp only[aZ,aR,oW,oV,e2,qt,true_and];rw[aW]at h;cases h1:bS v 0 153<;>cases h2:leI (v/16) 9<;>cases h3:leI (v%16) 9<;>try rfl
 ·rw[j8]at h2 h3;have:bS v 0 153=true:=aW.2 (by omega)
  rw[h1]at this;cases this
 ·rw[aC2]at h2;rw[aW]at h1;omega
theorem aQC{c a b:Int}(hc:MP c)(ha:bS a 0 255=true)(hb:bS b 0 255=true):a9J c [aU a,aU b]=true∧a9I c [aU a,aU b]=(iA a&&iA b):=by
 refine aE (t:=aZU c [aU a,aU b]) (P:=fun q=>q=(iA a&&iA b)) ?_
 have hc1:bS c 0 1=true:=by rcases hc with rfl|rfl<;>decide
 have L:aHP (V358_0.mk c (ri [a,b]) 2 0)=true∧((QZ (V358_0.mk c (ri [a,b]) 2 0)).s0=c∧ltI (QZ (V358_0.mk c (ri [a,b]) 2 0)).s9 (QZ (V358_0.mk c (ri [a,b]) 2 0)).s8=!(iA a&&iA b)):=by
  unfold aHP QZ;refine jL (Post:=fun w:V358_0=>w.s0=c∧ltI w.s9 w.s8=!(iA a&&iA b)) (eO (fun(m:Nat) (w:V358_0)=>w.s0=c∧w.s7=ri [a,b]∧w.s8=2∧w.s9=((2-m:Nat):Int)∧m≤2∧(m≤1→iA a=true)∧(m=0→iA b=true)) _ ?_ 9223372036854775808 2 _ ⟨rfl,rfl,rfl,rfl,by omega,by omega,by omega⟩ (by omega))
  rintro m w ⟨e0,e1,e2,e3,e4,e5,e6⟩
  have ka:aZS a=true:=(aA2 ha).1;have kb:aZS b=true:=(aA2 hb).1;have ga:=(aA2 ha).2;have gb:=(aA2 hb).2;unfold K3;have hm:m=2∨m=1∨m=0:=by omega
  rcases hm with rfl|rfl|rfl
  ·have g0:bD (ri [a,b]) (Int.toNat ((2-2:Nat):Int)) 0=a:=rfl;have g1:gN [.int .i64] (ri [a,b]) ((2-2:Nat):Int)=true:=tY (zs:=[a,b]) (by simp only[List.length_cons,List.length_nil];omega)
   have l:ltI ((2-2:Nat):Int) 2=true:=rfl;simp only[bF,e0,e1,e2,e3,l,g0,g1,ka,ga,bW];refine⟨fun q=>?_,fun q=>⟨1,by omega,?_⟩⟩
   rotate_left
   ·have q:iA a=true:=by simpa using q
    exact⟨by decide,by omega,fun _=>q,by omega⟩
   have q:iA a=false:=by simpa using q
   rw[q];rfl
  ·have g0:bD (ri [a,b]) (Int.toNat ((2-1:Nat):Int)) 0=b:=rfl;have g1:gN [.int .i64] (ri [a,b]) ((2-1:Nat):Int)=true:=tY (zs:=[a,b]) (by simp only[List.length_cons,List.length_nil];omega)
   have l:ltI ((2-1:Nat):Int) 2=true:=rfl;simp only[bF,e0,e1,e2,e3,l,g0,g1,kb,gb,bW];refine⟨fun q=>?_,fun q=>⟨0,by omega,?_⟩⟩
   rotate_left
   ·have q:iA b=true:=by simpa using q
    exact⟨by decide,by omega,fun _=>e5 (by omega),fun _=>q⟩
   have q:iA b=false:=by simpa using q
   rw[q,Bool.and_false];rfl
  ·have l:ltI ((2-0:Nat):Int) 2=false:=rfl;simp only[bF,e0,e1,e2,e3,l,e5 (by omega),e6 rfl,bW]
   try rfl
 obtain⟨L1,L2,L3⟩:=L;have ei:bL (ri [a,b])=2:=rfl;have er:[aU a,aU b]=ri [a,b]:=rfl;unfold aZU;simp only[aZ,dJ,aR,RA,ei,er,L1,L2,L3,(bC9 _).1,(bC9 _).2,hc1,qt,true_and];cases iA a&&iA b<;>simp
theorem bBX{v:Int}(h:Bcd v):aSP v=true∧TF v=v/16*10+v%16:=by
 refine aE (t:=aZV v) (P:=fun q=>q=v/16*10+v%16) ?_
 have e1:lO v 4=v/16:=qY (n:=4) 4 rfl (by omega)
 have e2:aD v 15=v%16:=nZ 4 _ (by omega) (by decide)
 obtain⟨h1,h2,h3,h4⟩:=h;unfold aZV;simp only[aZ,aR,e1,e2,show leI 0 4=true from rfl,qt,true_and]
 rw[hF (by omega),bP (by omega)]
theorem b1F(n:Int):tA n=cD (hX (kF n 10) 4) (iC n 10):=by
 refine(aE (t:=aI6 n) (P:=fun q=>q=cD (hX (kF n 10) 4) (iC n 10)) ?_).2
 unfold aI6;simp only[aZ,aR,show cV 10 0=true from rfl,show leI 0 4=true from rfl,qt,true_and]
theorem ofJ(n:Int):a9L n=true∧a9K n=tA n:=by
 refine aE (t:=aZW n) (P:=fun q=>q=tA n) ?_
 rw[b1F];unfold aZW;simp only[aZ,aR,show cV 10 0=true from rfl,show leI 0 4=true from rfl,qt,true_and]
theorem bP8{n:Int}(h0: -100≤n)(h1:n≤199):a9N n=true∧a9M n=bif bS n 0 99 then(tA n,0)else(tA ((n+100)%100),1):=by
 refine aE (t:=aZX n) (P:=fun q=>q=bif bS n 0 99 then(tA n,0)else(tA ((n+100)%100),1)) ?_
 have e:iC (aV n 100) 100=(n+100)%100:=by
  rw[bP (by omega)];unfold iC;exact Int.tmod_eq_emod_of_nonneg (by omega)
 unfold aZX;simp only[aZ,dJ,aR,oW,oV,(ofJ _).1,(ofJ _).2,e,show cV 100 0=true from rfl,qt,true_and]
 exact⟨fun q=>by rw[q];rfl,fun q=>by rw[q];rfl⟩
theorem bP9{c a b:Int}(hc:MP c)(ha:bS a 0 255=true)(hb:bS b 0 255=true):bG4 c a b=true∧bG3 c a b=bif iA a&&iA b then((M7 c a b).1,(M7 c a b).2,true)else(0,0,false):=by
 refine aE (t:=aZY c a b) (P:=fun q=>q=bif iA a&&iA b then((M7 c a b).1,(M7 c a b).2,true)else(0,0,false)) ?_
 obtain⟨r1,r2⟩:=aQC hc ha hb;unfold aZY;simp only[aZ,dJ,aR,r1,r2,qt,true_and];refine⟨fun q=>by rw[bDD q,cond_false],fun q=>?_⟩
 have q:(iA a&&iA b)=true:=bDE q;rw[q,cond_true];rw[Bool.and_eq_true]at q;obtain⟨a1,a2⟩:=bBX (kR q.1);obtain⟨b1,b2⟩:=bBX (kR q.2);obtain⟨c1,c2⟩:=MR (kR q.1);obtain⟨d1,d2⟩:=MR (kR q.2);obtain⟨h1,h2,h3,h4⟩:=kR q.1;obtain⟨h5,h6,h7,h8⟩:=kR q.2;have hc':0≤c∧c≤1:=by rcases hc with rfl|rfl<;>decide
 have e1:aV (aV (a/16*10+a%16) (b/16*10+b%16)) c=a/16*10+a%16+(b/16*10+b%16)+c:=by rw[bP (x:=a/16*10+a%16) (by omega),bP (by omega)]
 obtain⟨n,hn⟩: ∃n:Int,n=a/16*10+a%16+(b/16*10+b%16)+c:=⟨_,rfl⟩;rw[←hn]at e1;have n0:0≤n∧n≤199:=by omega
 have e2:iC n 100=n%100:=by unfold iC;exact Int.tmod_eq_emod_of_nonneg n0.1
 have e3:kF n 100=n/100:=by unfold kF;rw[Int.tdiv_eq_ediv_of_nonneg n0.1,IntKind.wrap_i64];omega
 have sp:M7 c a b=(tA (n%100),n/100):=by
  refine(aE (t:=aI7 c a b) (P:=fun q=>q=(tA (n%100),n/100)) ?_).2
  unfold aI7;simp only[aZ,aR,aAF,c1,c2,d1,d2,e1,e2,e3,(aJS (n:=n%100) (by omega) (by omega)).1,show cV 100 0=true from rfl,qt,true_and]
 obtain⟨k1,k2⟩:=bP8 (n:=n) (by omega) (by omega)
 have hh:(bif bS n 0 99 then(tA n,(0:Int))else(tA ((n+100)%100),1))=(tA (n%100),n/100):=by
  cases h:bS n 0 99
  ·have h':¬(0≤n∧n≤99):=fun z=>by rw[aW.2 z]at h;cases h
   rw[cond_false,show(n+100)%100=n%100 by omega,show n/100=1 by omega]
  ·rw[aW]at h;rw[cond_true,show n%100=n by omega,show n/100=0 by omega]
 simp only[aHQ,a1,a2,b1,b2,e1,k1,k2,hh,sp,qt,true_and]
theorem bQA{c a b:Int}(hc:MP c)(ha:bS a 0 255=true)(hb:bS b 0 255=true):bG6 c a b=true∧bG5 c a b=bif iA a&&iA b then((M8 c a b).1,(M8 c a b).2,true)else(0,0,false):=by
 refine aE (t:=aZZ c a b) (P:=fun q=>q=bif iA a&&iA b then((M8 c a b).1,(M8 c a b).2,true)else(0,0,false)) ?_
 obtain⟨r1,r2⟩:=aQC hc ha hb;unfold aZZ;simp only[aZ,dJ,aR,r1,r2,qt,true_and];refine⟨fun q=>by rw[bDD q,cond_false],fun q=>?_⟩
 have q:(iA a&&iA b)=true:=bDE q;rw[q,cond_true];rw[Bool.and_eq_true]at q;obtain⟨a1,a2⟩:=bBX (kR q.1);obtain⟨b1,b2⟩:=bBX (kR q.2);obtain⟨c1,c2⟩:=MR (kR q.1);obtain⟨d1,d2⟩:=MR (kR q.2);obtain⟨h1,h2,h3,h4⟩:=kR q.1;obtain⟨h5,h6,h7,h8⟩:=kR q.2;have hc':0≤c∧c≤1:=by rcases hc with rfl|rfl<;>decide
 have e1:bZ (bZ (a/16*10+a%16) (b/16*10+b%16)) c=a/16*10+a%16-(b/16*10+b%16)-c:=by rw[eE (x:=a/16*10+a%16) (by omega),eE (by omega)]
 obtain⟨n,hn⟩: ∃n:Int,n=a/16*10+a%16-(b/16*10+b%16)-c:=⟨_,rfl⟩;rw[←hn]at e1;have n0: -100≤n∧n≤99:=by omega
 have e2:aV n 100=n+100:=bP (by omega)
 have sp:M8 c a b=bif ltI n 0 then(tA (n+100),1)else(tA n,0):=by
  refine(aE (t:=aI8 c a b) (P:=fun q=>q=bif ltI n 0 then(tA (n+100),1)else(tA n,0)) ?_).2
  unfold aI8;simp only[aZ,dJ,aR,aAG,c1,c2,d1,d2,e1,e2,qt,true_and];refine⟨fun z=>?_,fun z=>?_⟩
  ·rw[z];rw[dW]at z;refine⟨?_,rfl⟩;by_cases hz:n+100≤99
   ·exact(aJS (n:=n+100) (by omega) hz).1
   ·exact(aJS (n:=n+100) (by omega) (by omega)).1
  ·rw[z];rw[oU]at z;exact⟨(aJS (n:=n) (by omega) (by omega)).1,rfl⟩
 obtain⟨k1,k2⟩:=bP8 (n:=n) (by omega) (by omega)
 have hh:(bif bS n 0 99 then(tA n,(0:Int))else(tA ((n+100)%100),1))=bif ltI n 0 then(tA (n+100),1)else(tA n,0):=by
  cases h:ltI n 0
  ·rw[oU]at h;rw[aW.2 ⟨h,n0.2⟩,cond_true,cond_false]
  ·rw[dW]at h;have:bS n 0 99=false:=by
    cases hz:bS n 0 99
    ·rfl
    ·rw[aW]at hz;omega
   rw[this,cond_false,cond_true,show(n+100)%100=n+100 by omega]
 simp only[aHR,a1,a2,b1,b2,e1,k1,k2,hh,sp,qt,true_and]
end Go.Proofs.YtdicpjkdpliofaaGreatMasks

namespace Go.Proofs.YtdicpjkdpliofaaGreatMasks
open Go Go.Zq
set_option maxHeartbeats 4000000
set_option maxRecDepth 100000
theorem mR(r:RM)(zs:List Int)(l:List aA)(s h:Bool):(bV r zs l s h).R=r.g:=rfl
theorem oN(r:RM)(zs:List Int)(l:List aA)(s h:Bool):(bV r zs l s h).Bus=wM zs l:=rfl
theorem mP(r:RM)(zs:List Int)(l:List aA)(s h:Bool):(bV r zs l s h).Stop=s:=rfl
theorem nG(r:RM)(zs:List Int)(l:List aA)(s h:Bool):(bV r zs l s h).Halt=h:=rfl
theorem jN(r:RM)(zs:List Int)(l:List aA)(s h:Bool):aH.mk r.g (wM zs l) s h=bV r zs l s h:=rfl
def ff(pc w:Int):bO:=⟨0,pc,0,w,false⟩
def dG(x:aF)(pc w:Int)(f:bO):aX:=⟨x,pc,w,f⟩
def dF(m:MM):bO:=bif cE m then f0 else m.f
theorem oG(x:aF)(pc w:Int)(f:bO):(dG x pc w f).fx=x:=rfl
theorem oY(x:aF)(pc w:Int)(f:bO):(dG x pc w f).fpc=pc:=rfl
theorem pC(x:aF)(pc w:Int)(f:bO):(dG x pc w f).fword=w:=rfl
theorem oH(x:aF)(pc w:Int)(f:bO):(dG x pc w f).ffault=f:=rfl
theorem b1G(x:aF)(pc w:Int)(f:bO):aX.mk x pc w f=dG x pc w f:=rfl
def SK(v p:Int)(f:bO)(w:Int):bO:=bif eqI f.Vector 0 then⟨v,p,0,w,false⟩else f
theorem sN(v p:Int)(x:aF)(pc w:Int)(f:bO)(c:aH):aGP v p (dG x pc w f) c=true∧aGO v p (dG x pc w f) c=dG x pc w (SK v p f w):=by
 refine aE (t:=aYG v p (dG x pc w f) c) (P:=fun q=>q=dG x pc w (SK v p f w)) ?_
 unfold aYG SK;simp only[bF,aGN,oG,oY,pC,oH,eA,wz];exact⟨fun q=>by rw[q];rfl,fun q=>by rw[q];rfl⟩
theorem a4J(c:Int):bFW c=true∧a81 c=bif eqI c 2 then 3 else 2:=by
 refine aE (t:=aYR c) (P:=fun q=>q=bif eqI c 2 then 3 else 2) ?_
 unfold aYR;simp only[aZ,dJ,aR,true_and];exact⟨fun q=>by rw[q];rfl,fun q=>by rw[q];rfl⟩
def a4K(code addr:Int)(wr:Bool)(f:bO)(pc w:Int):bO:=bif (bif eqI code 0 then true else cV f.Vector 0)then f else⟨bif eqI code 2 then 3 else 2,pc,addr,w,wr⟩
theorem p9(code addr:Int)(wr:Bool)(x:aF)(pc w:Int)(f:bO)(c:aH):aSB code addr wr (dG x pc w f) c=true∧aSA code addr wr (dG x pc w f) c=dG x pc w (a4K code addr wr f pc w):=by
 refine aE (t:=aYS code addr wr (dG x pc w f) c) (P:=fun q=>q=dG x pc w (a4K code addr wr f pc w)) ?_
 unfold aYS a4K;simp only[bF,aG3,aG2,oG,oY,pC,oH,(a4J _).1,(a4J _).2,(sN _ _ _ _ _ _ _).1,(sN _ _ _ _ _ _ _).2,eA,wz];refine⟨fun q=>by rw[q];rfl,fun q=>?_⟩
 rw[q];have hf:eqI f.Vector 0=true:=by
  cases h:eqI f.Vector 0
  ·have:cV f.Vector 0=true:=by rw[eT]at h;exact o8.2 h
   rw[this]at q;cases h2:eqI code 0<;>rw[h2]at q<;>cases q
  ·rfl
 unfold SK;rw[hf];rfl
theorem aA3{pc w:Int}{r:RM}{zs:List Int}{l:List aA}{s:Bool}(k sz a v:Int):dF (dQ ⟨r,zs,l,s,ff pc w⟩ k sz a v).1=a4K (dK k sz a) a (eqI k 2) f0 pc w:=by
 have hf:cE (dQ ⟨r,zs,l,s,ff pc w⟩ k sz a v).1=eqI (dK k sz a) 0:=p8 rfl;unfold dF a4K;rw[hf];cases h:eqI (dK k sz a) 0
 ·have hn:cV (dK k sz a) 0=true:=by rw[eT]at h;exact o8.2 h
  unfold dQ;dsimp only;rw[hn];rfl
 ·rfl
theorem aQD{t:Int}{x:aF}{pc w a:Int}{r:RM}{zs:List Int}{l:List aA}{s h:Bool}(hr:r.Ok t)(hb:BusOk zs l)(hs:x.Size=1∨x.Size=2)(ha:bS a 0 65535=true):aYU a (dG x pc w f0) (bV r zs l s h)=true∧kQ a (dG x pc w f0) (bV r zs l s h)=(dG x pc w (dF (dQ ⟨r,zs,l,s,ff pc w⟩ 1 x.Size a 0).1),bV r (dQ ⟨r,zs,l,s,ff pc w⟩ 1 x.Size a 0).1.zs (dQ ⟨r,zs,l,s,ff pc w⟩ 1 x.Size a 0).1.l s h,(dQ ⟨r,zs,l,s,ff pc w⟩ 1 x.Size a 0).2):=by
 refine aE (t:=aYT a (dG x pc w f0) (bV r zs l s h)) (P:=fun q=>q=(dG x pc w (dF (dQ ⟨r,zs,l,s,ff pc w⟩ 1 x.Size a 0).1),bV r (dQ ⟨r,zs,l,s,ff pc w⟩ 1 x.Size a 0).1.zs (dQ ⟨r,zs,l,s,ff pc w⟩ 1 x.Size a 0).1.l s h,(dQ ⟨r,zs,l,s,ff pc w⟩ 1 x.Size a 0).2)) ?_
 have hT:TouchOk x.Size 0 zs l:=⟨hs,JC hs,hb.hz,hb.hb,hb.hl⟩;obtain⟨a1,a2⟩:=NM (k:=1) (a:=a) hT ha (fun e=>rfl)
 have a1':TA 1 x.Size a 0 (wM zs l)=true:=a1;have a2':S9 1 x.Size a 0 (wM zs l)=(wM (tB 1 x.Size a 0 zs) (tL 1 x.Size a 0 zs l),tV 1 x.Size a 0 zs,dK 1 x.Size a):=a2;rw[aA3];unfold aYT;simp only[bF,Y2,Y1,GP,oG,oY,pC,oH,mR,oN,mP,nG,a1',a2',(p9 _ _ _ _ _ _ _ _).1,(p9 _ _ _ _ _ _ _ _).2,eA,wz];rfl
theorem bKT{t:Int}{x:aF}{pc w a v:Int}{r:RM}{zs:List Int}{l:List aA}{s h:Bool}(hr:r.Ok t)(hb:BusOk zs l)(hs:x.Size=1∨x.Size=2)(ha:bS a 0 65535=true)(hv:cT x.Size v=true):bF8 a v (dG x pc w f0) (bV r zs l s h)=true∧aSH a v (dG x pc w f0) (bV r zs l s h)=(dG x pc w (dF (dQ ⟨r,zs,l,s,ff pc w⟩ 2 x.Size a v).1),bV r (dQ ⟨r,zs,l,s,ff pc w⟩ 2 x.Size a v).1.zs (dQ ⟨r,zs,l,s,ff pc w⟩ 2 x.Size a v).1.l s h):=by
 refine aE (t:=aY7 a v (dG x pc w f0) (bV r zs l s h)) (P:=fun q=>q=(dG x pc w (dF (dQ ⟨r,zs,l,s,ff pc w⟩ 2 x.Size a v).1),bV r (dQ ⟨r,zs,l,s,ff pc w⟩ 2 x.Size a v).1.zs (dQ ⟨r,zs,l,s,ff pc w⟩ 2 x.Size a v).1.l s h)) ?_
 have hT:TouchOk x.Size v zs l:=⟨hs,hv,hb.hz,hb.hb,hb.hl⟩;obtain⟨a1,a2⟩:=NM (k:=2) (a:=a) hT ha (fun e=>absurd e (by decide))
 have a1':TA 2 x.Size a v (wM zs l)=true:=a1;have a2':S9 2 x.Size a v (wM zs l)=(wM (tB 2 x.Size a v zs) (tL 2 x.Size a v zs l),0,dK 2 x.Size a):=a2;rw[aA3];unfold aY7;simp only[bF,Y9,Y8,KT,oG,oY,pC,oH,mR,oN,mP,nG,a1',a2',(p9 _ _ _ _ _ _ _ _).1,(p9 _ _ _ _ _ _ _ _).2,eA,wz];rfl
theorem aDD{t:Int}{x:aF}{pc w k:Int}{f:bO}{r:RM}{zs:List Int}{l:List aA}{s h:Bool}(hr:r.Ok t)(hs:x.Size=1∨x.Size=2)(hk:bS k 0 3=true):aCO k (dG x pc w f) (bV r zs l s h)=true∧aCN k (dG x pc w f) (bV r zs l s h)=cI r.d k%bN x.Size:=by
 refine aE (t:=aYI k (dG x pc w f) (bV r zs l s h)) (P:=fun q=>q=cI r.d k%bN x.Size) ?_
 obtain⟨d1,d2,d3⟩:=jM hr.d4 hk;obtain⟨s1,s2,s3,s4,s5⟩:=fX (v:=0) hr.d4 hk;rw[Nat.zero_add]at s5;unfold aYI;simp only[bF,oG,mR,eL,Nat.zero_add,aQ,aY,d2,s3,s4,s5,(iG hs).1,(iG hs).2,mask hs,eA,wz]
theorem bBY{q:Int}(h0:0≤q)(h1:q≤65535):aJ q 255=q/256*256:=by
 obtain⟨n,rfl⟩:=Int.eq_ofNat_of_zero_le h0;unfold aJ;have e1:(BitVec.ofInt 64 (n:Int))&&& ~~~(BitVec.ofInt 64 255)=BitVec.ofNat 64 (n&&&18446744073709551360):=by
  apply BitVec.eq_of_toNat_eq;have hn:n<18446744073709551616:=by omega
  have ha:n&&&18446744073709551360<18446744073709551616:=Nat.lt_of_le_of_lt Nat.and_le_left hn;rw[BitVec.toNat_and,BitVec.toNat_not,BitVec.toNat_ofNat,BitVec.toNat_ofInt,BitVec.toNat_ofInt];rw[Nat.mod_eq_of_lt ha]
  congr 1
  omega
 rw[e1];have e2:n&&&18446744073709551360=n/256*256:=by
  have:n&&&18446744073709551360=(n/256&&&72057594037927935)*256:=by
   apply Nat.eq_of_testBit_eq;intro i;rw[show(n/256&&&72057594037927935)*256=(n/2^8&&&72057594037927935)<<<8 from by rw[Nat.shiftLeft_eq]]
   rw[Nat.testBit_shiftLeft,Nat.testBit_and,Nat.testBit_and,Nat.testBit_div_two_pow];by_cases hi:8≤i
   ·have:(18446744073709551360:Nat)=72057594037927935<<<8:=by decide
    rw[this,Nat.testBit_shiftLeft];simp[hi]
   ·have:(18446744073709551360:Nat)=72057594037927935<<<8:=by decide
    rw[this,Nat.testBit_shiftLeft];simp[hi]
  rw[this];have:n/256&&&72057594037927935=n/256%72057594037927936:=Nat.and_two_pow_sub_one_eq_mod (n:=56) (n/256);rw[this];omega
 rw[e2,BitVec.toNat_ofNat,IntKind.wrap_i64];omega
theorem a4L(a b:Int):cD a b=cD b a:=by
 unfold cD;rw[BitVec.or_comm]
theorem bKU{q v:Int}(h0:0≤q)(h1:q≤65535)(h2:0≤v)(h3:v<256):cD v (aJ q 255)=q%65536/256*256+v:=by
 rw[bBY h0 h1,a4L,R5 (by omega) (by omega) h2 h3]
 omega
theorem bBZ{l:List Int}{i v:Int}(hl:l.length=4)(hi:bS i 0 3=true):cI (l.set i.toNat v) i=v:=by
 obtain⟨-,-,hn⟩:=jM hl hi;unfold cI;rw[sM (by rw[List.length_set];exact hn)]
 simp
theorem bKV{s k:Int}(hs:s=1∨s=2):(bif eqI k 3 then 2 else s)=VV s k:=by
 unfold VV;rcases hs with rfl|rfl
 ·cases h:eqI k 3
  ·have:cV k 3=true:=by rw[eT]at h;exact o8.2 h
   rw[this];rfl
  ·have:cV k 3=false:=by rw[cY]at h;exact VQ.2 h
   rw[this];rfl
 ·cases eqI k 3<;>rfl
theorem SL{t s:Int}{r:RM}{o:aB}(hr:r.Ok t)(hs:s=1∨s=2)(ho:OpOk o)(hm:2≤o.Mode∧o.Mode≤6):aGZ s o r.g=true∧aGY s o r.g=((bE r s o).1.g,(bE r s o).2):=by
 refine aE (t:=aYJ s o r.g) (P:=fun q=>q=((bE r s o).1.g,(bE r s o).2)) ?_
 obtain⟨d1,d2,d3⟩:=jM hr.a4 ho.hr;obtain⟨s1,s2,s3,s4,s5⟩:=fX (v:=0) hr.a4 ho.hr;rw[Nat.zero_add]at s1 s2 s5;obtain⟨q1,q2⟩:=nE hr.aw hr.a4 ho.hr;have hb:=a3R s o.Reg;have he:=aW.1 ho.he;have e1:aD (aV (cI r.a o.Reg) (VV s o.Reg)) 65535=(cI r.a o.Reg+VV s o.Reg)%65536:=by rw[bP (by omega),v8]
 have e2:aD (bZ (cI r.a o.Reg) (VV s o.Reg)) 65535=(cI r.a o.Reg-VV s o.Reg)%65536:=by rw[eE (by omega),v8]
 have e3:aD (aV (cI r.a o.Reg) o.Ext) 65535=(cI r.a o.Reg+o.Ext)%65536:=by rw[bP (by omega),v8]
 have l4:(r.a.set o.Reg.toNat ((cI r.a o.Reg-VV s o.Reg)%65536)).length=4:=by rw[List.length_set];exact hr.a4
 obtain⟨-,x2,-⟩:=jM l4 ho.hr;obtain⟨-,-,-,-,x5⟩:=fX (v:=0) l4 ho.hr;rw[Nat.zero_add]at x5;rw[bBZ hr.a4 ho.hr]at x2;unfold aYJ bE;simp only[bF,aGX,QF,aGW,aGV,aGU,YT,YS,aGT,QE,eL,eN,aQ,aY,Nat.zero_add,bKV hs,d2,s1,s2,s3,s4,s5,e1,e2,e3,dN,x2,x5,List.length_set,eA,wz];refine⟨fun q=>?_,fun q=>?_⟩
 ·rw[cY]at q;rw[q];rfl
 refine⟨fun q=>by rw[q];rfl,fun q2=>?_⟩
 rw[q2];refine⟨fun q=>by rw[q];rfl,fun q3=>?_⟩
 rw[q3];refine⟨fun q=>by rw[q];rfl,fun q4=>?_⟩
 have:eqI o.Mode 6=true:=by
  rw[eT]at q q2 q3 q4;rw[cY];omega
 rw[q4,this];rfl
theorem a4M{s k v:Int}{r:RM}(h:r.Ok 65535)(hs:s=1∨s=2)(hk:bS k 0 3=true)(hv:s=1→0≤v∧v<256):Y5 s k v r.g=true∧Y4 s k v r.g=(uA r s k v).g:=by
 refine aE (t:=aYW s k v r.g) (P:=fun q=>q=(uA r s k v).g) ?_
 obtain⟨d1,d2,d3⟩:=jM h.d4 hk;obtain⟨s1,s2,s3,s4,s5⟩:=fX (v:=0) h.d4 hk;rw[Nat.zero_add]at s1 s2 s5;have q:=nE h.dw h.d4 hk;have t1:=h.t1;have e:s=1→cD v (aJ (cI r.d k) 255)=cI r.d k%65536/256*256+v:=fun e=>bKU q.1 (by omega) (hv e).1 (hv e).2
 unfold aYW uA;simp only[bF,aG5,aG4,eL,eN,aQ,aY,Nat.zero_add,d2,s1,s2,s3,s4,s5,dN,List.length_set,eA,wz];rcases hs with rfl|rfl
 ·rw[e rfl];rfl
 ·rfl
theorem LO{v:Int}{x:aF}{pc w:Int}{f:bO}{r:RM}{zs:List Int}{l:List aA}{s h:Bool}(hr:r.Ok 65535)(hs:x.Size=1∨x.Size=2):vH v (dG x pc w f) (bV r zs l s h)=true∧tG v (dG x pc w f) (bV r zs l s h)=bV {r with fl:=eZ x.Size r.fl v} zs l s h:=by
 refine aE (t:=aYZ v (dG x pc w f) (bV r zs l s h)) (P:=fun q=>q=bV {r with fl:=eZ x.Size r.fl v} zs l s h) ?_
 unfold aYZ;simp only[bF,oG,mR,oN,mP,nG,eL,eN,aM,(a4H hs).1,(a4H hs).2,eA,wz];rfl
theorem toD{v:Int}{x:aF}{pc w:Int}{f:bO}{r:RM}{zs:List Int}{l:List aA}{s h:Bool}(hr:r.Ok 65535)(hs:x.Size=1∨x.Size=2)(hk:bS x.Reg 0 3=true)(hv:x.Size=1→0≤v∧v<256)(h0:0≤v)(h2:v≤65535):M3 v (dG x pc w f) (bV r zs l s h)=true∧M2 v (dG x pc w f) (bV r zs l s h)=bif cV f.Vector 0 then bV r zs l s h else bV (uA {r with fl:=eZ x.Size r.fl v} x.Size x.Reg v) zs l s h:=by
 refine aE (t:=aY0 v (dG x pc w f) (bV r zs l s h)) (P:=fun q=>q=bif cV f.Vector 0 then bV r zs l s h else bV (uA {r with fl:=eZ x.Size r.fl v} x.Size x.Reg v) zs l s h) ?_
 obtain⟨p1,p2⟩:=a4M hr hs hk hv;have hp:=LK (s:=x.Size) hr hk h0 (fun e=>(hv e).2) h2
 obtain⟨g1,g2⟩:=LO (v:=v) (pc:=pc) (w:=w) (f:=f) (zs:=zs) (l:=l) (s:=s) (h:=h) hp hs;have g1':vH v (dG x pc w f) (aH.mk (uA r x.Size x.Reg v).g (wM zs l) s h)=true:=g1;have g2':tG v (dG x pc w f) (aH.mk (uA r x.Size x.Reg v).g (wM zs l) s h)=_:=g2;unfold aY0;simp only[bF,Y6,QS,oG,oH,mR,oN,mP,nG,p1,p2,g1',g2',eA,wz];exact⟨fun q=>by rw[q];rfl,fun q=>by rw[q];rfl⟩
end Go.Proofs.YtdicpjkdpliofaaGreatMasks

namespace Go.Proofs.YtdicpjkdpliofaaGreatMasks
open Go Go.Zq
set_option maxHeartbeats 4000000
set_option maxRecDepth 100000
def mq(r:RM)(zs:List Int)(l:List aA)(s:Bool)(pc w:Int):MM:=⟨r,zs,l,s,ff pc w⟩
theorem JH{r:RM}{zs:List Int}{l:List aA}{s:Bool}{pc w:Int}(hr:r.Ok 65535)(hb:BusOk zs l):(mq r zs l s pc w).Ok 65535:=⟨hr,hb⟩
def dR(x:aF)(pc w:Int)(h:Bool)(m:MM):aX×aH:=(dG x pc w (dF m),bV m.r m.zs m.l m.stop h)
theorem aJV{x:aF}{pc w:Int}{r:RM}{zs:List Int}{l:List aA}{s h:Bool}(hr:r.Ok 65535)(hb:BusOk zs l)(hs:x.Size=1∨x.Size=2)(ho:OpOk x.Ea):aSC (dG x pc w f0) (bV r zs l s h)=true∧cH (dG x pc w f0) (bV r zs l s h)=((dR x pc w h (cL (mq r zs l s pc w) x.Size x.Ea).1).1,(dR x pc w h (cL (mq r zs l s pc w) x.Size x.Ea).1).2,(cL (mq r zs l s pc w) x.Size x.Ea).2.1):=by
 refine aE (t:=aYV (dG x pc w f0) (bV r zs l s h)) (P:=fun q=>q=((dR x pc w h (cL (mq r zs l s pc w) x.Size x.Ea).1).1,(dR x pc w h (cL (mq r zs l s pc w) x.Size x.Ea).1).2,(cL (mq r zs l s pc w) x.Size x.Ea).2.1)) ?_
 obtain⟨d1,d2,d3⟩:=jM hr.a4 ho.hr;obtain⟨s1,s2,s3,s4,s5⟩:=fX (v:=0) hr.a4 ho.hr;rw[Nat.zero_add]at s5;obtain⟨l1,l2⟩:=aDD (pc:=pc) (w:=w) (f:=f0) (zs:=zs) (l:=l) (s:=s) (h:=h) hr hs ho.hr;have hm:=aW.1 ho.hm;unfold aYV;simp only[bF,KQ,GQ,Y3,oG,oY,pC,oH,mR,oN,mP,nG,eN,Nat.zero_add,aQ,aY,l1,l2,d2,s3,s4,s5,eA,wz];unfold cL;refine⟨fun q=>by rw[q];rfl,fun q=>?_⟩
 rw[q];refine⟨fun q=>by rw[q];rfl,fun q1=>?_⟩
 rw[q1];refine⟨fun q=>by rw[q];rfl,fun q2=>?_⟩
 rw[q2];rw[eT]at q q1 q2;have hm':2≤x.Ea.Mode∧x.Ea.Mode≤6:=by omega
 obtain⟨p1,p2⟩:=SL hr hs ho hm';obtain⟨p3,p4⟩:=tC (s:=x.Size) hr ho;obtain⟨a1,a2⟩:=aQD (x:=x) (pc:=pc) (w:=w) (s:=s) (h:=h) p3 hb hs p4;simp only[p1,p2,jN,a1,a2,R4,bEK,wz,Bool.and_true,true_and];rfl
theorem setD{x:aF}{pc w a v:Int}{r:RM}{zs:List Int}{l:List aA}{s h:Bool}(hr:r.Ok 65535)(hb:BusOk zs l)(hs:x.Size=1∨x.Size=2)(ho:OpOk x.Ea)(ha:bS a 0 65535=true)(hv:cT x.Size v=true):xT a v (dG x pc w f0) (bV r zs l s h)=true∧rS a v (dG x pc w f0) (bV r zs l s h)=dR x pc w h (dD (mq r zs l s pc w) x.Size x.Ea a v):=by
 refine aE (t:=aY8 a v (dG x pc w f0) (bV r zs l s h)) (P:=fun q=>q=dR x pc w h (dD (mq r zs l s pc w) x.Size x.Ea a v)) ?_
 have lv:=kA hs hv;obtain⟨p1,p2⟩:=a4M (v:=v) hr hs ho.hr (fun e=>by have:=lv.2.2 e;omega)
 obtain⟨a1,a2⟩:=bKT (x:=x) (pc:=pc) (w:=w) (s:=s) (h:=h) hr hb hs ha hv;unfold aY8;simp only[bF,aHD,aHC,oG,oY,pC,oH,mR,oN,mP,nG,p1,p2,a1,a2,eA,wz];unfold dD;exact⟨fun q=>by rw[q];rfl,fun q=>by rw[q];rfl⟩
theorem aQE(x y:Int):cV x y=!(eqI x y):=by
 cases h:eqI x y
 ·rw[eT]at h;exact o8.2 h
 ·rw[cY]at h;exact VQ.2 h
theorem sO{m:MM}(h:cE m=true):dF m=f0:=by unfold dF;rw[h];rfl
theorem DA{m:MM}(h:cE m=false):dF m=m.f∧cV m.f.Vector 0=true:=by
 refine⟨by unfold dF;rw[h];rfl,?_⟩
 unfold cE at h;rw[aQE,h];rfl
theorem aJW{x:aF}{pc w:Int}{r:RM}{zs:List Int}{l:List aA}{s h:Bool}(hr:r.Ok 65535)(hb:BusOk zs l)(hi:InsOk x)(h2:oF x):bF7 (dG x pc w f0) (bV r zs l s h)=true∧aSG (dG x pc w f0) (bV r zs l s h)=dR x pc w h (iX (mq r zs l s pc w) x):=by
 refine aE (t:=aY6 (dG x pc w f0) (bV r zs l s h)) (P:=fun q=>q=dR x pc w h (iX (mq r zs l s pc w) x)) ?_
 obtain⟨r1,r2⟩:=aJV (pc:=pc) (w:=w) (s:=s) (h:=h) hr hb hi.hs hi.ho;obtain⟨r3,r4,r5⟩:=rB (JH (s:=s) (pc:=pc) (w:=w) hr hb) hi.hs hi.ho (JE hi h2) hi.he;unfold aY6 iX;generalize cL (mq r zs l s pc w) x.Size x.Ea=q at r1 r2 r3 r4 r5;obtain⟨q1,v,a⟩:=q;dsimp only at r2 r3 r4 r5;obtain⟨qr,qz,ql,qs,qf⟩:=q1;have hqr:RM.Ok 65535 qr:=r3.r;have hd:=hP (s:=x.Size) (v:=cI qr.d x.Reg) hi.hs;obtain⟨l1,l2⟩:=aDD (x:=x) (pc:=pc) (w:=w) (f:=f0) (zs:=qz) (l:=ql) (s:=qs) (h:=h) (k:=x.Reg) hqr hi.hs hi.hr;obtain⟨a1,a2⟩:=bO6 (c:=0) (Or.inl rfl) hd r4;obtain⟨b1,b2⟩:=bBU hd r4;obtain⟨c1,c2⟩:=b1D (f:=qr.fl) hd r4;have lv: ∀v,cT x.Size v=true→0≤v∧v≤65535∧(x.Size=1→0≤v∧v<256):=fun v hv=>by
  have:=kA hi.hs hv;exact⟨by omega,by omega,fun e=>by have:=this.2.2 e;omega⟩
 have pt: ∀v,cT x.Size v=true→Y5 x.Size x.Reg v qr.g=true∧Y4 x.Size x.Reg v qr.g=(uA qr x.Size x.Reg v).g:=fun v hv=>a4M hqr hi.hs hi.hr (lv v hv).2.2
 have tt: ∀v,cT x.Size v=true→M3 v (dG x pc w f0) (bV qr qz ql qs h)=true∧M2 v (dG x pc w f0) (bV qr qz ql qs h)=bV (uA {qr with fl:=eZ x.Size qr.fl v} x.Size x.Reg v) qz ql qs h:=fun v hv=>by
  have:=toD (x:=x) (pc:=pc) (w:=w) (f:=f0) (zs:=qz) (l:=ql) (s:=qs) (h:=h) hqr hi.hs hi.hr (lv v hv).2.2 (lv v hv).1 (lv v hv).2.1;exact this
 dsimp only;cases hfi:cE ⟨qr,qz,ql,qs,qf⟩
 ·obtain⟨e1,e2⟩:=DA hfi;simp only[bF,sL,sK,qO,sJ,sI,vN,vM,xS,vL,xR,vK,xQ,nC,vJ,vI,oG,oY,pC,oH,mR,oN,mP,nG,r1,r2,dR,e1,e2,bW,bT,wz]
 ·have e1: ∀r',dF ⟨r',qz,ql,qs,qf⟩=f0:=fun r'=>sO (m:=⟨r',qz,ql,qs,qf⟩) hfi
  have nf:cV f0.Vector 0=false:=rfl;rcases h2 with e|e|e|e|e|e|e
  ·obtain⟨p1,p2⟩:=tt v r4;have tw:iE x qr.fl (cI qr.d x.Reg%bN x.Size) v=(v,eZ x.Size qr.fl v):=by unfold iE;rw[e];rfl
   rw[tw];simp only[bF,sL,sK,qO,sJ,sI,vN,vM,xS,vL,xR,vK,xQ,nC,vJ,vI,oG,oY,pC,oH,mR,oN,mP,nG,eL,eN,aN,cJ,aM,bA,aO,aP,r1,r2,dR,e1,nf,e,show eqI 1 1=true from rfl,show eqI 1 5=false from rfl,show eqI 1 6=false from rfl,show eqI 1 7=false from rfl,show eqI 1 8=false from rfl,show eqI 1 3=false from rfl,show eqI 1 4=false from rfl,l1,l2,a1,a2,b1,b2,c1,c2,bW,bT,wz,p1,p2]
  ·obtain⟨p1,p2⟩:=pt (TK x.Size 0 (cI qr.d x.Reg%bN x.Size) v).1 (hP hi.hs);have tw:iE x qr.fl (cI qr.d x.Reg%bN x.Size) v=TK x.Size 0 (cI qr.d x.Reg%bN x.Size) v:=by unfold iE;rw[e];rfl
   rw[tw];simp only[bF,sL,sK,qO,sJ,sI,vN,vM,xS,vL,xR,vK,xQ,nC,vJ,vI,oG,oY,pC,oH,mR,oN,mP,nG,eL,eN,aN,cJ,aM,bA,aO,aP,r1,r2,dR,e1,nf,e,show eqI 3 1=false from rfl,show eqI 3 5=false from rfl,show eqI 3 6=false from rfl,show eqI 3 7=false from rfl,show eqI 3 8=false from rfl,show eqI 3 3=true from rfl,show eqI 3 4=false from rfl,l1,l2,a1,a2,b1,b2,c1,c2,bW,bT,wz,p1,p2]
   rfl
  ·obtain⟨p1,p2⟩:=pt ((cI qr.d x.Reg%bN x.Size-v)%bN x.Size) (hP hi.hs);have tw:iE x qr.fl (cI qr.d x.Reg%bN x.Size) v=((cI qr.d x.Reg%bN x.Size-v)%bN x.Size,A5 x.Size (cI qr.d x.Reg%bN x.Size) v):=by unfold iE;rw[e];rfl
   rw[tw];simp only[bF,sL,sK,qO,sJ,sI,vN,vM,xS,vL,xR,vK,xQ,nC,vJ,vI,oG,oY,pC,oH,mR,oN,mP,nG,eL,eN,aN,cJ,aM,bA,aO,aP,r1,r2,dR,e1,nf,e,show eqI 4 1=false from rfl,show eqI 4 5=false from rfl,show eqI 4 6=false from rfl,show eqI 4 7=false from rfl,show eqI 4 8=false from rfl,show eqI 4 3=false from rfl,show eqI 4 4=true from rfl,l1,l2,a1,a2,b1,b2,c1,c2,bW,bT,wz,p1,p2]
   rfl
  ·obtain⟨p1,p2⟩:=tt (aD (cI qr.d x.Reg%bN x.Size) v) (aPS hi.hs hd r4);have tw:iE x qr.fl (cI qr.d x.Reg%bN x.Size) v=(aD (cI qr.d x.Reg%bN x.Size) v,eZ x.Size qr.fl (aD (cI qr.d x.Reg%bN x.Size) v)):=by unfold iE;rw[e];rfl
   rw[tw];simp only[bF,sL,sK,qO,sJ,sI,vN,vM,xS,vL,xR,vK,xQ,nC,vJ,vI,oG,oY,pC,oH,mR,oN,mP,nG,eL,eN,aN,cJ,aM,bA,aO,aP,r1,r2,dR,e1,nf,e,show eqI 5 1=false from rfl,show eqI 5 5=true from rfl,show eqI 5 6=false from rfl,show eqI 5 7=false from rfl,show eqI 5 8=false from rfl,show eqI 5 3=false from rfl,show eqI 5 4=false from rfl,l1,l2,a1,a2,b1,b2,c1,c2,bW,bT,wz,p1,p2]
  ·obtain⟨p1,p2⟩:=tt (cD (cI qr.d x.Reg%bN x.Size) v) (aAS hi.hs hd r4);have tw:iE x qr.fl (cI qr.d x.Reg%bN x.Size) v=(cD (cI qr.d x.Reg%bN x.Size) v,eZ x.Size qr.fl (cD (cI qr.d x.Reg%bN x.Size) v)):=by unfold iE;rw[e];rfl
   rw[tw];simp only[bF,sL,sK,qO,sJ,sI,vN,vM,xS,vL,xR,vK,xQ,nC,vJ,vI,oG,oY,pC,oH,mR,oN,mP,nG,eL,eN,aN,cJ,aM,bA,aO,aP,r1,r2,dR,e1,nf,e,show eqI 6 1=false from rfl,show eqI 6 5=false from rfl,show eqI 6 6=true from rfl,show eqI 6 7=false from rfl,show eqI 6 8=false from rfl,show eqI 6 3=false from rfl,show eqI 6 4=false from rfl,l1,l2,a1,a2,b1,b2,c1,c2,bW,bT,wz,p1,p2]
  ·obtain⟨p1,p2⟩:=tt (oR (cI qr.d x.Reg%bN x.Size) v) (aPT hi.hs hd r4);have tw:iE x qr.fl (cI qr.d x.Reg%bN x.Size) v=(oR (cI qr.d x.Reg%bN x.Size) v,eZ x.Size qr.fl (oR (cI qr.d x.Reg%bN x.Size) v)):=by unfold iE;rw[e];rfl
   rw[tw];simp only[bF,sL,sK,qO,sJ,sI,vN,vM,xS,vL,xR,vK,xQ,nC,vJ,vI,oG,oY,pC,oH,mR,oN,mP,nG,eL,eN,aN,cJ,aM,bA,aO,aP,r1,r2,dR,e1,nf,e,show eqI 7 1=false from rfl,show eqI 7 5=false from rfl,show eqI 7 6=false from rfl,show eqI 7 7=true from rfl,show eqI 7 8=false from rfl,show eqI 7 3=false from rfl,show eqI 7 4=false from rfl,l1,l2,a1,a2,b1,b2,c1,c2,bW,bT,wz,p1,p2]
  ·simp only[bF,sL,sK,qO,sJ,sI,vN,vM,xS,vL,xR,vK,xQ,nC,vJ,vI,oG,oY,pC,oH,mR,oN,mP,nG,eL,eN,aN,cJ,aM,bA,aO,aP,r1,r2,dR,e1,nf,e,show eqI 8 1=false from rfl,show eqI 8 5=false from rfl,show eqI 8 6=false from rfl,show eqI 8 7=false from rfl,show eqI 8 8=true from rfl,show eqI 8 3=false from rfl,show eqI 8 4=false from rfl,l1,l2,a1,a2,b1,b2,c1,c2,bW,bT,wz]
   rfl
end Go.Proofs.YtdicpjkdpliofaaGreatMasks

namespace Go.Proofs.YtdicpjkdpliofaaGreatMasks
open Go Go.Zq
set_option maxHeartbeats 4000000
set_option maxRecDepth 100000
theorem SM{r:RM}{zs:List Int}{l:List aA}{s:Bool}{pc w:Int}{k sz a v:Int}(h:cE (dQ (mq r zs l s pc w) k sz a v).1=true):(dQ (mq r zs l s pc w) k sz a v).1=mq r (dQ (mq r zs l s pc w) k sz a v).1.zs (dQ (mq r zs l s pc w) k sz a v).1.l s pc w:=by
 have hf:cE (dQ (mq r zs l s pc w) k sz a v).1=eqI (dK k sz a) 0:=p8 rfl;rw[hf]at h;have hn:cV (dK k sz a) 0=false:=by rw[aQE,h];rfl
 unfold dQ mq;dsimp only;rw[hn];rfl
theorem aA4{r:RM}{zs:List Int}{l:List aA}{s:Bool}{pc w:Int}{k sz a v:Int}(hr:r.Ok 65535)(hb:BusOk zs l)(hs:sz=1∨sz=2)(hv:cT sz v=true)(ha:bS a 0 65535=true)(hk:bS k 1 3=true):BusOk (dQ (mq r zs l s pc w) k sz a v).1.zs (dQ (mq r zs l s pc w) k sz a v).1.l∧cT sz (dQ (mq r zs l s pc w) k sz a v).2=true:=by
 obtain⟨h1,h2⟩:=R8 (k:=k) (JH (s:=s) (pc:=pc) (w:=w) hr hb) (⟨hs,hv,ha⟩:AccOk sz v a _) hk;exact⟨h1.b,h2⟩
theorem aQF{s v:Int}(hs:s=1∨s=2)(h0:0≤v)(h1:v<bN s):oR v (bZ (bN s) 1)=bN s-1-v:=by
 have key: ∀(n m:Nat),n≤16→m<2^n→oR (m:Int) ((2^n-1:Nat):Int)=((2^n-(m+1):Nat):Int):=by
  intro n m hn hm;have hp:2^n≤2^16:=Nat.pow_le_pow_right (by omega) hn
  have e:m^^^(2^n-1)=2^n-(m+1):=by
   apply Nat.eq_of_testBit_eq;intro i;rw[Nat.testBit_xor,Nat.testBit_two_pow_sub_one,Nat.testBit_two_pow_sub_succ hm];by_cases hi:i<n
   ·simp[hi]
   ·have:m.testBit i=false:=Nat.testBit_lt_two_pow (Nat.lt_of_lt_of_le hm (Nat.pow_le_pow_right (by omega) (by omega)))
    simp[hi,this]
  unfold oR;rw[BitVec.toNat_xor,BitVec.toNat_ofInt,BitVec.toNat_ofInt];have a1:(((m:Int))%((2^64:Nat):Int)).toNat=m:=by omega
  have a2:((((2^n-1:Nat):Int))%((2^64:Nat):Int)).toNat=2^n-1:=by omega
  rw[a1,a2,e,IntKind.wrap_i64];omega
 obtain⟨m,rfl⟩:=Int.eq_ofNat_of_zero_le h0;rcases hs with rfl|rfl
 ·have h1:(m:Int)<256:=h1;have:=key 8 m (by omega) (by omega)
  rw[show bZ (bN 1) 1=((2^8-1:Nat):Int)from by decide,this]
  show _=(256:Int)-1-m
  omega
 ·have h1:(m:Int)<65536:=h1;have:=key 16 m (by omega) (by omega)
  rw[show bZ (bN 2) 1=((2^16-1:Nat):Int)from by decide,this]
  show _=(65536:Int)-1-m
  omega
theorem b1H{x:aF}(h:x.Op=2):kB x=bif eqI x.Sub 0 then G7 x.Ea.Mode else false:=by
 unfold kB;rw[h];rfl
theorem aTJ{x:aF}(h:InsOk x)(h2:x.Op=2):x.Ea.Mode=0∨(2≤x.Ea.Mode∧x.Ea.Mode≤6):=by
 have hk:=h.kb;rw[b1H h2]at hk;cases e1:eqI x.Sub 0
 ·rw[e1]at hk;simp at hk
 ·rw[e1]at hk;exact aC7 hk
theorem NR{m:Int}(h:2≤m∧m≤6):eqI m 0=false∧cV m 0=true∧eqI m 1=false∧eqI m 7=false:=by
 refine⟨eT.2 (by omega),o8.2 (by omega),eT.2 (by omega),eT.2 (by omega)⟩
theorem bQB{x:aF}{pc w:Int}{r:RM}{zs:List Int}{l:List aA}{s h:Bool}(hr:r.Ok 65535)(hb:BusOk zs l)(hi:InsOk x)(h2:x.Op=2):bF9 (dG x pc w f0) (bV r zs l s h)=true∧aSI (dG x pc w f0) (bV r zs l s h)=dR x pc w h (xC (mq r zs l s pc w) x):=by
 refine aE (t:=aY9 (dG x pc w f0) (bV r zs l s h)) (P:=fun q=>q=dR x pc w h (xC (mq r zs l s pc w) x)) ?_
 obtain⟨l1,l2⟩:=aDD (pc:=pc) (w:=w) (f:=f0) (zs:=zs) (l:=l) (s:=s) (h:=h) hr hi.hs hi.hr;have hv:=hP (s:=x.Size) (v:=cI r.d x.Reg) hi.hs;unfold aY9 xC;rcases aTJ hi h2 with hm|hm
 ·have m0:eqI x.Ea.Mode 0=true:=by rw[hm];rfl
  have m1:cV x.Ea.Mode 0=false:=by rw[hm];rfl
  obtain⟨s1,s2⟩:=setD (x:=x) (pc:=pc) (w:=w) (a:=0) (s:=s) (h:=h) hr hb hi.hs hi.ho (by decide) hv
  have wo:=yZ (a:=0) (JH (s:=s) (pc:=pc) (w:=w) hr hb) hi.hs hi.ho (by decide) hv
  obtain⟨g1,g2⟩:=LO (v:=cI r.d x.Reg%bN x.Size) (x:=x) (pc:=pc) (w:=w) (f:=dF (dD (mq r zs l s pc w) x.Size x.Ea 0 (cI r.d x.Reg%bN x.Size))) (zs:=(dD (mq r zs l s pc w) x.Size x.Ea 0 (cI r.d x.Reg%bN x.Size)).zs) (l:=(dD (mq r zs l s pc w) x.Size x.Ea 0 (cI r.d x.Reg%bN x.Size)).l) (s:=(dD (mq r zs l s pc w) x.Size x.Ea 0 (cI r.d x.Reg%bN x.Size)).stop) (h:=h) wo.r hi.hs;have sp:fC (mq r zs l s pc w) x.Size x.Ea=(mq r zs l s pc w,0):=by unfold fC;rw[m0];rfl
  rw[sp];simp only[bF,QU,CK,QT,CJ,xU,CI,oG,oY,pC,oH,mR,oN,mP,nG,l1,l2,m1,s1,s2,dR,g1,g2,bW,wz];rfl
 ·obtain⟨m0,m1,-,-⟩:=NR hm;obtain⟨p1,p2⟩:=SL hr hi.hs hi.ho hm;obtain⟨p3,p4⟩:=tC (s:=x.Size) hr hi.ho;obtain⟨s1,s2⟩:=setD (x:=x) (pc:=pc) (w:=w) (s:=s) (h:=h) p3 hb hi.hs hi.ho p4 hv;have wo:=yZ (a:=(bE r x.Size x.Ea).2) (JH (s:=s) (pc:=pc) (w:=w) p3 hb) hi.hs hi.ho p4 hv;have sp:fC (mq r zs l s pc w) x.Size x.Ea=(mq (bE r x.Size x.Ea).1 zs l s pc w,(bE r x.Size x.Ea).2):=by unfold fC;rw[m0];rfl
  rw[sp];generalize hW:dD (mq (bE r x.Size x.Ea).1 zs l s pc w) x.Size x.Ea (bE r x.Size x.Ea).2 (cI r.d x.Reg%bN x.Size)=W at s1 s2 wo;obtain⟨g1,g2⟩:=LO (v:=cI r.d x.Reg%bN x.Size) (x:=x) (pc:=pc) (w:=w) (f:=dF W) (zs:=W.zs) (l:=W.l) (s:=W.stop) (h:=h) wo.r hi.hs;simp only[bF,QU,CK,QT,CJ,xU,CI,oG,oY,pC,oH,mR,oN,mP,nG,jN,l1,l2,m1,p1,p2,s1,s2,dR,g1,g2,bW,wz];have:(mq r zs l s pc w).r.d=r.d:=rfl;rw[this,hW];rfl
end Go.Proofs.YtdicpjkdpliofaaGreatMasks

namespace Go.Proofs.YtdicpjkdpliofaaGreatMasks
open Go Go.Zq
set_option maxHeartbeats 4000000
set_option maxRecDepth 100000
theorem a4N(m:MM)(s:Int)(o:aB)(a v:Int):(dD m s o a v).r.fl=m.r.fl:=by
 unfold dD;cases eqI o.Mode 0<;>rfl
theorem setF(W:MM)(h:Bool)(f:Int):aH.mk (aG.mk (ri W.r.d) (ri W.r.a) W.r.oth W.r.pc f W.r.mask W.r.sup W.r.tr) (wM W.zs W.l) W.stop h=bV {W.r with fl:=f} W.zs W.l W.stop h:=rfl
structure OneF(x:aF)(pc w:Int)(h s:Bool)(r:RM)(zs:List Int)(l:List aA)(a v:Int):Prop where
 s1:xT a v (dG x pc w f0) (bV r zs l s h)=true
 s2:rS a v (dG x pc w f0) (bV r zs l s h)=dR x pc w h (dD (mq r zs l s pc w) x.Size x.Ea a v)
 g1:vH v (dG x pc w (dF (dD (mq r zs l s pc w) x.Size x.Ea a v))) (bV (dD (mq r zs l s pc w) x.Size x.Ea a v).r (dD (mq r zs l s pc w) x.Size x.Ea a v).zs (dD (mq r zs l s pc w) x.Size x.Ea a v).l (dD (mq r zs l s pc w) x.Size x.Ea a v).stop h)=true
 g2:tG v (dG x pc w (dF (dD (mq r zs l s pc w) x.Size x.Ea a v))) (bV (dD (mq r zs l s pc w) x.Size x.Ea a v).r (dD (mq r zs l s pc w) x.Size x.Ea a v).zs (dD (mq r zs l s pc w) x.Size x.Ea a v).l (dD (mq r zs l s pc w) x.Size x.Ea a v).stop h)=bV {(dD (mq r zs l s pc w) x.Size x.Ea a v).r with fl:=eZ x.Size r.fl v} (dD (mq r zs l s pc w) x.Size x.Ea a v).zs (dD (mq r zs l s pc w) x.Size x.Ea a v).l (dD (mq r zs l s pc w) x.Size x.Ea a v).stop h
theorem aTK{x:aF}{pc w a v:Int}{r:RM}{zs:List Int}{l:List aA}{s h:Bool}(hr:r.Ok 65535)(hb:BusOk zs l)(hs:x.Size=1∨x.Size=2)(ho:OpOk x.Ea)(ha:bS a 0 65535=true)(hv:cT x.Size v=true):OneF x pc w h s r zs l a v:=by
 obtain⟨s1,s2⟩:=setD (x:=x) (pc:=pc) (w:=w) (s:=s) (h:=h) hr hb hs ho ha hv;have wo:=yZ (JH (s:=s) (pc:=pc) (w:=w) hr hb) hs ho ha hv;obtain⟨g1,g2⟩:=LO (v:=v) (x:=x) (pc:=pc) (w:=w) (f:=dF (dD (mq r zs l s pc w) x.Size x.Ea a v)) (zs:=(dD (mq r zs l s pc w) x.Size x.Ea a v).zs) (l:=(dD (mq r zs l s pc w) x.Size x.Ea a v).l) (s:=(dD (mq r zs l s pc w) x.Size x.Ea a v).stop) (h:=h) wo.r hs;rw[a4N]at g2;exact⟨s1,s2,g1,g2⟩
theorem b1I{x:aF}{pc w:Int}{r:RM}{zs:List Int}{l:List aA}{s h:Bool}(hr:r.Ok 65535)(hb:BusOk zs l)(hi:InsOk x)(h2:x.Op=11):bGA (dG x pc w f0) (bV r zs l s h)=true∧aSJ (dG x pc w f0) (bV r zs l s h)=dR x pc w h (zA (mq r zs l s pc w) x):=by
 refine aE (t:=aZA (dG x pc w f0) (bV r zs l s h)) (P:=fun q=>q=dR x pc w h (zA (mq r zs l s pc w) x)) ?_
 obtain⟨k1,k2⟩:=SB hi h2;have hsb:=aW.1 hi.hb;have nf:cV f0.Vector 0=false:=rfl;have lr:=qZ hi.hs;unfold aZA zA;have hsub:x.Sub=0∨x.Sub=1∨x.Sub=2∨x.Sub=3:=by omega
 rcases k2 with hm|hm
 ·have m0:eqI x.Ea.Mode 0=true:=by rw[hm];rfl
  have m1:cV x.Ea.Mode 0=false:=by rw[hm];rfl
  have z0:bS 0 0 65535=true:=by decide
  obtain⟨l1,l2⟩:=aDD (pc:=pc) (w:=w) (f:=f0) (zs:=zs) (l:=l) (s:=s) (h:=h) hr hi.hs hi.ho.hr;have hv:=hP (s:=x.Size) (v:=cI r.d x.Ea.Reg) hi.hs;rcases hsub with e|e|e|e
  ·have hq:eP (mq r zs l s pc w) x=(mq r zs l s pc w,0,0):=by unfold eP fC;rw[e,m0];rfl
   rw[hq];unfold AP lU;have fm:cE (mq r zs l s pc w)=true:=rfl;have F:=aTK (pc:=pc) (w:=w) (v:=0) (s:=s) (h:=h) hr hb hi.hs hi.ho z0 (JC hi.hs);simp only[bF,mN,mM,j7,lH,kO,mL,mK,j6,nT,mJ,mI,j5,lG,kN,mH,kM,mG,j0,kL,nS,lF,nQ,nP,lE,mF,mE,jZ,lD,kK,mD,mC,jY,nO,cO,mB,mA,jX,lC,kJ,lZ,kI,lY,lX,nD,oJ,rV,pM,rU,lQ,rT,pL,i7,cN,oG,oY,pC,oH,mR,oN,mP,nG,eL,eN,aN,cJ,aM,bA,aO,aP,jN,nf,e,show eqI 0 0=true from rfl,show eqI 0 1=false from rfl,show eqI 0 2=false from rfl,show eqI 0 3=false from rfl,dR,(iG hi.hs).1,(iG hi.hs).2,bW,bT,wz,m0,m1,l1,l2,fm,F.s1,F.s2,F.g1,F.g2]
   rfl
  ·have hq:eP (mq r zs l s pc w) x=(mq r zs l s pc w,cI r.d x.Ea.Reg%bN x.Size,0):=by unfold eP cL;rw[e,m0];rfl
   rw[hq];unfold AP lU;have fm:cE (mq r zs l s pc w)=true:=rfl;obtain⟨b1,b2⟩:=bBU (s:=x.Size) (a:=0) (JC hi.hs) hv;have F:=aTK (pc:=pc) (w:=w) (v:=(0-(cI r.d x.Ea.Reg%bN x.Size))%bN x.Size) (s:=s) (h:=h) hr hb hi.hs hi.ho z0 (hP hi.hs);simp only[bF,mN,mM,j7,lH,kO,mL,mK,j6,nT,mJ,mI,j5,lG,kN,mH,kM,mG,j0,kL,nS,lF,nQ,nP,lE,mF,mE,jZ,lD,kK,mD,mC,jY,nO,cO,mB,mA,jX,lC,kJ,lZ,kI,lY,lX,nD,oJ,rV,pM,rU,lQ,rT,pL,i7,cN,oG,oY,pC,oH,mR,oN,mP,nG,eL,eN,aN,cJ,aM,bA,aO,aP,jN,nf,e,show eqI 1 0=false from rfl,show eqI 1 1=true from rfl,show eqI 1 2=false from rfl,show eqI 1 3=false from rfl,dR,(iG hi.hs).1,(iG hi.hs).2,bW,bT,wz,m0,m1,l1,l2,fm,b1,b2,F.s1,F.s2,setF]
   rfl
  ·have hq:eP (mq r zs l s pc w) x=(mq r zs l s pc w,cI r.d x.Ea.Reg%bN x.Size,0):=by unfold eP cL;rw[e,m0];rfl
   rw[hq];unfold AP lU;have fm:cE (mq r zs l s pc w)=true:=rfl;have lv:=kA hi.hs hv;obtain⟨-,u0,u1⟩:=pQ hv;have xt:=aQF hi.hs u0 u1;have hv2:cT x.Size (bN x.Size-1-(cI r.d x.Ea.Reg%bN x.Size))=true:=(NO (x:=x) (f:=0) hi.hs (by decide) hv).1|>fun z=>by unfold lU at z;rw[e]at z;exact z
   have F:=aTK (pc:=pc) (w:=w) (v:=bN x.Size-1-(cI r.d x.Ea.Reg%bN x.Size)) (s:=s) (h:=h) hr hb hi.hs hi.ho z0 hv2;simp only[bF,mN,mM,j7,lH,kO,mL,mK,j6,nT,mJ,mI,j5,lG,kN,mH,kM,mG,j0,kL,nS,lF,nQ,nP,lE,mF,mE,jZ,lD,kK,mD,mC,jY,nO,cO,mB,mA,jX,lC,kJ,lZ,kI,lY,lX,nD,oJ,rV,pM,rU,lQ,rT,pL,i7,cN,oG,oY,pC,oH,mR,oN,mP,nG,eL,eN,aN,cJ,aM,bA,aO,aP,jN,nf,e,show eqI 2 0=false from rfl,show eqI 2 1=false from rfl,show eqI 2 2=true from rfl,show eqI 2 3=false from rfl,dR,(iG hi.hs).1,(iG hi.hs).2,bW,bT,wz,m0,m1,l1,l2,fm,xt,F.s1,F.s2,F.g1,F.g2]
   rfl
  ·have hq:eP (mq r zs l s pc w) x=(mq r zs l s pc w,cI r.d x.Ea.Reg%bN x.Size,0):=by unfold eP cL;rw[e,m0];rfl
   rw[hq];unfold AP lU;have fm:cE (mq r zs l s pc w)=true:=rfl;obtain⟨g1,g2⟩:=LO (v:=(cI r.d x.Ea.Reg%bN x.Size)) (x:=x) (pc:=pc) (w:=w) (f:=f0) (zs:=zs) (l:=l) (s:=s) (h:=h) hr hi.hs;simp only[bF,mN,mM,j7,lH,kO,mL,mK,j6,nT,mJ,mI,j5,lG,kN,mH,kM,mG,j0,kL,nS,lF,nQ,nP,lE,mF,mE,jZ,lD,kK,mD,mC,jY,nO,cO,mB,mA,jX,lC,kJ,lZ,kI,lY,lX,nD,oJ,rV,pM,rU,lQ,rT,pL,i7,cN,oG,oY,pC,oH,mR,oN,mP,nG,eL,eN,aN,cJ,aM,bA,aO,aP,jN,nf,e,show eqI 3 0=false from rfl,show eqI 3 1=false from rfl,show eqI 3 2=false from rfl,show eqI 3 3=true from rfl,dR,(iG hi.hs).1,(iG hi.hs).2,bW,bT,wz,m0,m1,l1,l2,fm,g1,g2]
   rfl
 ·obtain⟨m0,m1,m2,m3⟩:=NR hm;obtain⟨p1,p2⟩:=SL hr hi.hs hi.ho hm;obtain⟨p3,p4⟩:=tC (s:=x.Size) hr hi.ho;rcases hsub with e|e|e|e
  ·have hq:eP (mq r zs l s pc w) x=(mq (bE r x.Size x.Ea).1 zs l s pc w,0,(bE r x.Size x.Ea).2):=by unfold eP fC;rw[e,m0];rfl
   rw[hq];unfold AP lU;have fm:cE (mq (bE r x.Size x.Ea).1 zs l s pc w)=true:=rfl;have F:=aTK (pc:=pc) (w:=w) (v:=0) (s:=s) (h:=h) p3 hb hi.hs hi.ho p4 (JC hi.hs);simp only[bF,mN,mM,j7,lH,kO,mL,mK,j6,nT,mJ,mI,j5,lG,kN,mH,kM,mG,j0,kL,nS,lF,nQ,nP,lE,mF,mE,jZ,lD,kK,mD,mC,jY,nO,cO,mB,mA,jX,lC,kJ,lZ,kI,lY,lX,nD,oJ,rV,pM,rU,lQ,rT,pL,i7,cN,oG,oY,pC,oH,mR,oN,mP,nG,eL,eN,aN,cJ,aM,bA,aO,aP,jN,nf,e,show eqI 0 0=true from rfl,show eqI 0 1=false from rfl,show eqI 0 2=false from rfl,show eqI 0 3=false from rfl,dR,(iG hi.hs).1,(iG hi.hs).2,bW,bT,wz,m0,m1,p1,p2,fm,F.s1,F.s2,F.g1,F.g2]
   rfl
  ·obtain⟨a1,a2⟩:=aQD (x:=x) (pc:=pc) (w:=w) (s:=s) (h:=h) p3 hb hi.hs p4;obtain⟨b0,b3⟩:=aA4 (s:=s) (pc:=pc) (w:=w) (k:=1) (v:=0) p3 hb hi.hs (JC hi.hs) p4 (by decide)
   have am:=SM (r:=(bE r x.Size x.Ea).1) (zs:=zs) (l:=l) (s:=s) (pc:=pc) (w:=w) (k:=1) (sz:=x.Size) (a:=(bE r x.Size x.Ea).2) (v:=0);have hq:eP (mq r zs l s pc w) x=((dQ (mq (bE r x.Size x.Ea).1 zs l s pc w) 1 x.Size (bE r x.Size x.Ea).2 0).1,(dQ (mq (bE r x.Size x.Ea).1 zs l s pc w) 1 x.Size (bE r x.Size x.Ea).2 0).2,(bE r x.Size x.Ea).2):=by unfold eP cL;rw[e,m0,m2,m3];rfl
   rw[hq];have aa:dQ ⟨(bE r x.Size x.Ea).1,zs,l,s,ff pc w⟩ 1 x.Size (bE r x.Size x.Ea).2 0=dQ (mq (bE r x.Size x.Ea).1 zs l s pc w) 1 x.Size (bE r x.Size x.Ea).2 0:=rfl;rw[aa]at a2;have sr:(dQ (mq (bE r x.Size x.Ea).1 zs l s pc w) 1 x.Size (bE r x.Size x.Ea).2 0).1.r=(bE r x.Size x.Ea).1:=rfl;have st:(dQ (mq (bE r x.Size x.Ea).1 zs l s pc w) 1 x.Size (bE r x.Size x.Ea).2 0).1.stop=s:=rfl;generalize hA:dQ (mq (bE r x.Size x.Ea).1 zs l s pc w) 1 x.Size (bE r x.Size x.Ea).2 0=A at a1 a2 b0 b3 am sr st;obtain⟨A1,v⟩:=A;dsimp only at a1 a2 b0 b3 am sr st⊢;unfold AP;cases hfi:cE A1
   ·obtain⟨e1,e2⟩:=DA hfi;simp only[bF,mN,mM,j7,lH,kO,mL,mK,j6,nT,mJ,mI,j5,lG,kN,mH,kM,mG,j0,kL,nS,lF,nQ,nP,lE,mF,mE,jZ,lD,kK,mD,mC,jY,nO,cO,mB,mA,jX,lC,kJ,lZ,kI,lY,lX,nD,oJ,rV,pM,rU,lQ,rT,pL,i7,cN,oG,oY,pC,oH,mR,oN,mP,nG,eL,eN,aN,cJ,aM,bA,aO,aP,jN,nf,e,show eqI 1 0=false from rfl,show eqI 1 1=true from rfl,show eqI 1 2=false from rfl,show eqI 1 3=false from rfl,dR,(iG hi.hs).1,(iG hi.hs).2,bW,bT,wz,m0,m1,p1,p2,a1,a2,e1,e2,sr,st,hfi]
   ·have e1:=sO hfi;have am:=am hfi;rw[e1]at a2;rw[am];unfold lU;have fm:cE (mq (bE r x.Size x.Ea).1 A1.zs A1.l s pc w)=true:=rfl;obtain⟨b1,b2⟩:=bBU (s:=x.Size) (a:=0) (JC hi.hs) b3;have F:=aTK (pc:=pc) (w:=w) (v:=(0-v)%bN x.Size) (s:=s) (h:=h) p3 b0 hi.hs hi.ho p4 (hP hi.hs);simp only[bF,mN,mM,j7,lH,kO,mL,mK,j6,nT,mJ,mI,j5,lG,kN,mH,kM,mG,j0,kL,nS,lF,nQ,nP,lE,mF,mE,jZ,lD,kK,mD,mC,jY,nO,cO,mB,mA,jX,lC,kJ,lZ,kI,lY,lX,nD,oJ,rV,pM,rU,lQ,rT,pL,i7,cN,oG,oY,pC,oH,mR,oN,mP,nG,eL,eN,aN,cJ,aM,bA,aO,aP,jN,nf,e,show eqI 1 0=false from rfl,show eqI 1 1=true from rfl,show eqI 1 2=false from rfl,show eqI 1 3=false from rfl,dR,(iG hi.hs).1,(iG hi.hs).2,bW,bT,wz,m0,m1,p1,p2,a1,a2,fm,b1,b2,F.s1,F.s2,setF]
    rfl
  ·obtain⟨a1,a2⟩:=aQD (x:=x) (pc:=pc) (w:=w) (s:=s) (h:=h) p3 hb hi.hs p4;obtain⟨b0,b3⟩:=aA4 (s:=s) (pc:=pc) (w:=w) (k:=1) (v:=0) p3 hb hi.hs (JC hi.hs) p4 (by decide)
   have am:=SM (r:=(bE r x.Size x.Ea).1) (zs:=zs) (l:=l) (s:=s) (pc:=pc) (w:=w) (k:=1) (sz:=x.Size) (a:=(bE r x.Size x.Ea).2) (v:=0);have hq:eP (mq r zs l s pc w) x=((dQ (mq (bE r x.Size x.Ea).1 zs l s pc w) 1 x.Size (bE r x.Size x.Ea).2 0).1,(dQ (mq (bE r x.Size x.Ea).1 zs l s pc w) 1 x.Size (bE r x.Size x.Ea).2 0).2,(bE r x.Size x.Ea).2):=by unfold eP cL;rw[e,m0,m2,m3];rfl
   rw[hq];have aa:dQ ⟨(bE r x.Size x.Ea).1,zs,l,s,ff pc w⟩ 1 x.Size (bE r x.Size x.Ea).2 0=dQ (mq (bE r x.Size x.Ea).1 zs l s pc w) 1 x.Size (bE r x.Size x.Ea).2 0:=rfl;rw[aa]at a2;have sr:(dQ (mq (bE r x.Size x.Ea).1 zs l s pc w) 1 x.Size (bE r x.Size x.Ea).2 0).1.r=(bE r x.Size x.Ea).1:=rfl;have st:(dQ (mq (bE r x.Size x.Ea).1 zs l s pc w) 1 x.Size (bE r x.Size x.Ea).2 0).1.stop=s:=rfl;generalize hA:dQ (mq (bE r x.Size x.Ea).1 zs l s pc w) 1 x.Size (bE r x.Size x.Ea).2 0=A at a1 a2 b0 b3 am sr st;obtain⟨A1,v⟩:=A;dsimp only at a1 a2 b0 b3 am sr st⊢;unfold AP;cases hfi:cE A1
   ·obtain⟨e1,e2⟩:=DA hfi;simp only[bF,mN,mM,j7,lH,kO,mL,mK,j6,nT,mJ,mI,j5,lG,kN,mH,kM,mG,j0,kL,nS,lF,nQ,nP,lE,mF,mE,jZ,lD,kK,mD,mC,jY,nO,cO,mB,mA,jX,lC,kJ,lZ,kI,lY,lX,nD,oJ,rV,pM,rU,lQ,rT,pL,i7,cN,oG,oY,pC,oH,mR,oN,mP,nG,eL,eN,aN,cJ,aM,bA,aO,aP,jN,nf,e,show eqI 2 0=false from rfl,show eqI 2 1=false from rfl,show eqI 2 2=true from rfl,show eqI 2 3=false from rfl,dR,(iG hi.hs).1,(iG hi.hs).2,bW,bT,wz,m0,m1,p1,p2,a1,a2,e1,e2,sr,st,hfi]
   ·have e1:=sO hfi;have am:=am hfi;rw[e1]at a2;rw[am];unfold lU;have fm:cE (mq (bE r x.Size x.Ea).1 A1.zs A1.l s pc w)=true:=rfl;have lv:=kA hi.hs b3;obtain⟨-,u0,u1⟩:=pQ b3;have xt:=aQF hi.hs u0 u1;have hv2:cT x.Size (bN x.Size-1-v)=true:=(NO (x:=x) (f:=0) hi.hs (by decide) b3).1|>fun z=>by unfold lU at z;rw[e]at z;exact z
    have F:=aTK (pc:=pc) (w:=w) (v:=bN x.Size-1-v) (s:=s) (h:=h) p3 b0 hi.hs hi.ho p4 hv2;simp only[bF,mN,mM,j7,lH,kO,mL,mK,j6,nT,mJ,mI,j5,lG,kN,mH,kM,mG,j0,kL,nS,lF,nQ,nP,lE,mF,mE,jZ,lD,kK,mD,mC,jY,nO,cO,mB,mA,jX,lC,kJ,lZ,kI,lY,lX,nD,oJ,rV,pM,rU,lQ,rT,pL,i7,cN,oG,oY,pC,oH,mR,oN,mP,nG,eL,eN,aN,cJ,aM,bA,aO,aP,jN,nf,e,show eqI 2 0=false from rfl,show eqI 2 1=false from rfl,show eqI 2 2=true from rfl,show eqI 2 3=false from rfl,dR,(iG hi.hs).1,(iG hi.hs).2,bW,bT,wz,m0,m1,p1,p2,a1,a2,fm,xt,F.s1,F.s2,F.g1,F.g2]
    rfl
  ·obtain⟨a1,a2⟩:=aQD (x:=x) (pc:=pc) (w:=w) (s:=s) (h:=h) p3 hb hi.hs p4;obtain⟨b0,b3⟩:=aA4 (s:=s) (pc:=pc) (w:=w) (k:=1) (v:=0) p3 hb hi.hs (JC hi.hs) p4 (by decide)
   have am:=SM (r:=(bE r x.Size x.Ea).1) (zs:=zs) (l:=l) (s:=s) (pc:=pc) (w:=w) (k:=1) (sz:=x.Size) (a:=(bE r x.Size x.Ea).2) (v:=0);have hq:eP (mq r zs l s pc w) x=((dQ (mq (bE r x.Size x.Ea).1 zs l s pc w) 1 x.Size (bE r x.Size x.Ea).2 0).1,(dQ (mq (bE r x.Size x.Ea).1 zs l s pc w) 1 x.Size (bE r x.Size x.Ea).2 0).2,(bE r x.Size x.Ea).2):=by unfold eP cL;rw[e,m0,m2,m3];rfl
   rw[hq];have aa:dQ ⟨(bE r x.Size x.Ea).1,zs,l,s,ff pc w⟩ 1 x.Size (bE r x.Size x.Ea).2 0=dQ (mq (bE r x.Size x.Ea).1 zs l s pc w) 1 x.Size (bE r x.Size x.Ea).2 0:=rfl;rw[aa]at a2;have sr:(dQ (mq (bE r x.Size x.Ea).1 zs l s pc w) 1 x.Size (bE r x.Size x.Ea).2 0).1.r=(bE r x.Size x.Ea).1:=rfl;have st:(dQ (mq (bE r x.Size x.Ea).1 zs l s pc w) 1 x.Size (bE r x.Size x.Ea).2 0).1.stop=s:=rfl;generalize hA:dQ (mq (bE r x.Size x.Ea).1 zs l s pc w) 1 x.Size (bE r x.Size x.Ea).2 0=A at a1 a2 b0 b3 am sr st;obtain⟨A1,v⟩:=A;dsimp only at a1 a2 b0 b3 am sr st⊢;unfold AP;cases hfi:cE A1
   ·obtain⟨e1,e2⟩:=DA hfi;simp only[bF,mN,mM,j7,lH,kO,mL,mK,j6,nT,mJ,mI,j5,lG,kN,mH,kM,mG,j0,kL,nS,lF,nQ,nP,lE,mF,mE,jZ,lD,kK,mD,mC,jY,nO,cO,mB,mA,jX,lC,kJ,lZ,kI,lY,lX,nD,oJ,rV,pM,rU,lQ,rT,pL,i7,cN,oG,oY,pC,oH,mR,oN,mP,nG,eL,eN,aN,cJ,aM,bA,aO,aP,jN,nf,e,show eqI 3 0=false from rfl,show eqI 3 1=false from rfl,show eqI 3 2=false from rfl,show eqI 3 3=true from rfl,dR,(iG hi.hs).1,(iG hi.hs).2,bW,bT,wz,m0,m1,p1,p2,a1,a2,e1,e2,sr,st,hfi]
   ·have e1:=sO hfi;have am:=am hfi;rw[e1]at a2;rw[am];unfold lU;have fm:cE (mq (bE r x.Size x.Ea).1 A1.zs A1.l s pc w)=true:=rfl;obtain⟨g1,g2⟩:=LO (v:=v) (x:=x) (pc:=pc) (w:=w) (f:=f0) (zs:=A1.zs) (l:=A1.l) (s:=s) (h:=h) p3 hi.hs;simp only[bF,mN,mM,j7,lH,kO,mL,mK,j6,nT,mJ,mI,j5,lG,kN,mH,kM,mG,j0,kL,nS,lF,nQ,nP,lE,mF,mE,jZ,lD,kK,mD,mC,jY,nO,cO,mB,mA,jX,lC,kJ,lZ,kI,lY,lX,nD,oJ,rV,pM,rU,lQ,rT,pL,i7,cN,oG,oY,pC,oH,mR,oN,mP,nG,eL,eN,aN,cJ,aM,bA,aO,aP,jN,nf,e,show eqI 3 0=false from rfl,show eqI 3 1=false from rfl,show eqI 3 2=false from rfl,show eqI 3 3=true from rfl,dR,(iG hi.hs).1,(iG hi.hs).2,bW,bT,wz,m0,m1,p1,p2,a1,a2,fm,g1,g2]
    rfl
end Go.Proofs.YtdicpjkdpliofaaGreatMasks

namespace Go.Proofs.YtdicpjkdpliofaaGreatMasks
open Go Go.Zq
set_option maxHeartbeats 4000000
set_option maxRecDepth 100000
theorem bDJ(b:Bool)(n:Int):KS b n=true∧KR b n=bif b then n else 0:=by
 refine aE (t:=aG6 b n) (P:=fun q=>q=bif b then n else 0) ?_
 unfold aG6;cases b<;>simp
theorem a4O{t:Int}{r:RM}(h:r.Ok t):bHB r.g=true∧bHA r.g=o9 r:=by
 refine aE (t:=aZ1 r.g) (P:=fun q=>q=o9 r) ?_
 have f:=aW.1 h.fw;have k:=aW.1 h.mw;have t1:=h.t1;have e1:dB 32 r.mask=32*r.mask:=hF (by omega)
 have b1: ∀(b:Bool)(n:Int),(bif b then n else 0)=0∨(bif b then n else 0)=n:=fun b n=>by cases b<;>simp
 have c1:=b1 r.sup 256;have c2:=b1 r.tr 512;unfold aZ1 o9;simp only[bF,eL,eN,aN,cJ,aM,bA,aO,aP,(bDJ _ _).1,(bDJ _ _).2,e1,eA,wz];rw[bP (x:=r.fl) (by omega),bP (x:=r.fl+32*r.mask) (by omega),bP (by omega)]
theorem aJX{t v:Int}{r:RM}(h:r.Ok t)(hv:bS v 0 1023=true):aZO v r.g=true∧aZN v r.g=(iH r v).g:=by
 refine aE (t:=aZM v r.g) (P:=fun q=>q=(iH r v).g) ?_
 obtain⟨b1,b2,b3,b4,b5,-,-⟩:=yY h;obtain⟨c1,c2⟩:=aPX hv;have hv':=aW.1 hv;have e1:aD v 31=v%32:=nZ 5 _ (by omega) (by decide)
 have e2:aD (lO v 5) 7=v/32%8:=by rw[qY (n:=5) 5 rfl (by omega)];exact nZ 3 _ (by omega) (by decide)
 unfold aZM iH;simp only[bF,aHO,eL,eN,aN,cJ,aM,bA,aO,aP,aQ,aY,b1,b2,b3,b4,b5,c1,c2,e1,e2,dN,List.length_set,eA,wz];cases hs:eqI (v/256%2) 1<;>cases hp:r.sup<;>simp[rD]<;>rfl
theorem bQC{x:aF}(hg:dU x=true):a8X x=true∧QC x=ri (rA x):=by
 refine aE (t:=aYD x) (P:=fun q=>q=ri (rA x)) ?_
 have R:=rng hg;have hm:bS x.Ea.Mode 0 7=true:=(InsOk.of hg).ho.hm;have e:=W_i R;unfold aYD rA;simp only[aZ,dJ,aR,(aPJ _).1,(aPJ _).2,a3K hm,e,Bool.and_true,true_and];exact⟨fun q=>by rw[q];rfl,fun q=>by rw[q];rfl⟩
def HB(x:aF)(pc:Int):Int:=(pc+2*((rA x).length:Int))%65536
theorem SN(x:aF):(rA x).length=1∨(rA x).length=2:=by
 unfold rA;cases jO x.Ea.Mode 5
 ·exact Or.inl rfl
 ·exact Or.inr rfl
theorem NS{x:aF}{pc w:Int}{f:bO}(c:aH)(hg:dU x=true)(hp:bS pc 0 65535=true):aR9 (dG x pc w f) c=true∧aCM (dG x pc w f) c=HB x pc:=by
 refine aE (t:=aYH (dG x pc w f) c) (P:=fun q=>q=HB x pc) ?_
 obtain⟨e1,e2⟩:=bQC hg;have hl:=SN x;have hp:=aW.1 hp;have e3:aD (aV pc (dB 2 ((rA x).length:Int))) 65535=HB x pc:=by
  rw[hF (by omega),bP (by omega),v8];rfl
 unfold aYH;simp only[bF,aGR,aGQ,oG,oY,e1,e2,aQ,aY,e3,Nat.zero_add,show qN (rA x).length (rA x).length=true from I5.2 (Nat.le_refl _),eA,wz,bT]
theorem bB0(r:RM)(zs:List Int)(l:List aA)(s:Bool)(pc w v:Int):(fU (mm r zs l s) v).r=(fU (mq r zs l s pc w) v).r∧(fU (mm r zs l s) v).zs=(fU (mq r zs l s pc w) v).zs∧(fU (mm r zs l s) v).l=(fU (mq r zs l s pc w) v).l∧(fU (mq r zs l s pc w) v).stop=s∧dF (fU (mq r zs l s pc w) v)=dF (dQ (mq r zs l s pc w) 2 2 ((cI r.a 3-2)%65536) v).1:=by
 have h1:cE (dQ (mm r zs l s) 2 2 ((cI r.a 3-2)%65536) v).1=eqI (dK 2 2 ((cI r.a 3-2)%65536)) 0:=p8 rfl;have h2:cE (dQ (mq r zs l s pc w) 2 2 ((cI r.a 3-2)%65536) v).1=eqI (dK 2 2 ((cI r.a 3-2)%65536)) 0:=p8 rfl;unfold fU;rw[show(mm r zs l s).r=r from rfl,show(mq r zs l s pc w).r=r from rfl,h1,h2]
 cases eqI (dK 2 2 ((cI r.a 3-2)%65536)) 0<;>exact⟨rfl,rfl,rfl,rfl,rfl⟩
theorem bKW(r:RM)(zs:List Int)(l:List aA)(s:Bool)(pc w:Int):(cP (mm r zs l s)).1.r=(cP (mq r zs l s pc w)).1.r∧(cP (mm r zs l s)).1.zs=(cP (mq r zs l s pc w)).1.zs∧(cP (mm r zs l s)).1.l=(cP (mq r zs l s pc w)).1.l∧(cP (mm r zs l s)).2=(cP (mq r zs l s pc w)).2∧(cP (mq r zs l s pc w)).1.stop=s∧dF (cP (mq r zs l s pc w)).1=dF (dQ (mq r zs l s pc w) 1 2 (cI r.a 3) 0).1:=by
 have h1:cE (dQ (mm r zs l s) 1 2 (cI r.a 3) 0).1=eqI (dK 1 2 (cI r.a 3)) 0:=p8 rfl;have h2:cE (dQ (mq r zs l s pc w) 1 2 (cI r.a 3) 0).1=eqI (dK 1 2 (cI r.a 3)) 0:=p8 rfl;unfold cP;rw[show(mm r zs l s).r=r from rfl,show(mq r zs l s pc w).r=r from rfl,h1,h2]
 cases eqI (dK 1 2 (cI r.a 3)) 0<;>exact⟨rfl,rfl,rfl,rfl,rfl,rfl⟩
theorem bQD{x:aF}{pc w v:Int}{r:RM}{zs:List Int}{l:List aA}{s h:Bool}(hr:r.Ok 65535)(hb:BusOk zs l)(h0:0≤v)(h1:v≤65535):bGP v (dG x pc w f0) (bV r zs l s h)=true∧bGO v (dG x pc w f0) (bV r zs l s h)=dR x pc w h (fU (mq r zs l s pc w) v):=by
 refine aE (t:=aZJ v (dG x pc w f0) (bV r zs l s h)) (P:=fun q=>q=dR x pc w h (fU (mq r zs l s pc w) v)) ?_
 obtain⟨a1,a2⟩:=bKP (v:=v) (s:=s) (h:=h) hr hb h0 h1;obtain⟨e1,e2,e3,e4,e5⟩:=bB0 r zs l s pc w v;have e6:=aA3 (pc:=pc) (w:=w) (r:=r) (zs:=zs) (l:=l) (s:=s) 2 2 ((cI r.a 3-2)%65536) v;unfold aZJ;simp only[bF,a1,a2,(p9 _ _ _ _ _ _ _ _).1,(p9 _ _ _ _ _ _ _ _).2,eA,wz];unfold dR;rw[e1,e2,e3,e4,e5];exact Prod.ext (congrArg (dG x pc w) e6.symm) rfl
theorem bQE{x:aF}{pc w:Int}{r:RM}{zs:List Int}{l:List aA}{s h:Bool}(hr:r.Ok 65535)(hb:BusOk zs l):aSM (dG x pc w f0) (bV r zs l s h)=true∧CM (dG x pc w f0) (bV r zs l s h)=((dR x pc w h (cP (mq r zs l s pc w)).1).1,(dR x pc w h (cP (mq r zs l s pc w)).1).2,(cP (mq r zs l s pc w)).2):=by
 refine aE (t:=aHN (dG x pc w f0) (bV r zs l s h)) (P:=fun q=>q=((dR x pc w h (cP (mq r zs l s pc w)).1).1,(dR x pc w h (cP (mq r zs l s pc w)).1).2,(cP (mq r zs l s pc w)).2)) ?_
 obtain⟨a1,a2⟩:=bP1 (s:=s) (h:=h) hr hb;obtain⟨e1,e2,e3,e4,e5,e6⟩:=bKW r zs l s pc w;have e7:=aA3 (pc:=pc) (w:=w) (r:=r) (zs:=zs) (l:=l) (s:=s) 1 2 (cI r.a 3) 0;have nf:cV f0.Vector 0=false:=rfl;unfold aHN;simp only[bF,oH,nf,a1,a2,(p9 _ _ _ _ _ _ _ _).1,(p9 _ _ _ _ _ _ _ _).2,bW,wz];unfold dR;rw[e1,e2,e3,e4,e5,e6];exact Prod.ext (congrArg (dG x pc w) e7.symm) rfl
theorem b1J{x:aF}{pc w:Int}{f:bO}(c:aH)(hf:cV f.Vector 0=true):aSM (dG x pc w f) c=true∧CM (dG x pc w f) c=(dG x pc w f,c,0):=by
 refine aE (t:=aHN (dG x pc w f) c) (P:=fun q=>q=(dG x pc w f,c,0)) ?_
 unfold aHN;simp only[bF,oH,hf,bW,wz]
theorem bQF{x:aF}(h:x.Op=14):kB x=bif (bif (bif eqI x.Size 2 then eqI x.Reg 0 else false)then leI x.Sub 1 else false)then tZ x.Ea.Mode else false:=by
 unfold kB;rw[h];rfl
theorem aA5{a b:Bool}(h:(bif a then b else false)=true):a=true∧b=true:=by
 cases a
 ·cases h
 ·exact⟨rfl,h⟩
theorem SO{m:Int}(h:tZ m=true):2≤m∧m≤6:=by
 unfold tZ at h;cases h1:(bif eqI m 2 then true else eqI m 5)
 ·rw[h1,cond_false,cY]at h;omega
 ·cases h2:eqI m 2
  ·rw[h2,cond_false,cY]at h1;omega
  ·rw[cY]at h2;omega
theorem aTL{x:aF}(h:InsOk x)(h2:x.Op=14):x.Size=2∧(2≤x.Ea.Mode∧x.Ea.Mode≤6):=by
 have hk:=h.kb;rw[bQF h2]at hk;obtain⟨h1,h3⟩:=aA5 hk;obtain⟨h1,-⟩:=aA5 h1;obtain⟨h1,-⟩:=aA5 h1;exact⟨cY.1 h1,SO h3⟩
def Alike(x:aF)(pc w:Int)(h s:Bool)(J:MM)(q:aX×aH):Prop:=
 ∃r' s',(cE J=true→r'=J.r∧s'=J.stop)∧(cE J=false→s'=s)∧q=(dG x pc w (dF J),bV r' J.zs J.l s' h)
theorem Alike.of{x:aF}{pc w:Int}{h s:Bool}{J:MM}(hs:J.stop=s):Alike x pc w h s J (dR x pc w h J):=⟨J.r,J.stop,fun _=>⟨rfl,rfl⟩,fun _=>hs,rfl⟩
theorem Alike.of'{x:aF}{pc w:Int}{h s:Bool}{J:MM}(hs:cE J=false→J.stop=s):Alike x pc w h s J (dR x pc w h J):=⟨J.r,J.stop,fun _=>⟨rfl,rfl⟩,hs,rfl⟩
theorem bQG{x:aF}{pc w:Int}{r:RM}{zs:List Int}{l:List aA}{s h:Bool}(hr:r.Ok 65535)(hb:BusOk zs l)(hg:dU x=true)(h2:x.Op=14)(hp:bS pc 0 65535=true)(hpc:r.pc=HB x pc):bGQ (dG x pc w f0) (bV r zs l s h)=true∧Alike x pc w h s (lK (mq r zs l s pc w) x pc) (aSL (dG x pc w f0) (bV r zs l s h)):=by
 refine aE (t:=aZK (dG x pc w f0) (bV r zs l s h)) (P:=fun q=>Alike x pc w h s (lK (mq r zs l s pc w) x pc) q) ?_
 have hi:=InsOk.of hg;obtain⟨k1,hm⟩:=aTL hi h2;obtain⟨m0,m1,-,-⟩:=NR hm;obtain⟨p1,p2⟩:=SL hr hi.hs hi.ho hm;obtain⟨p3,p4⟩:=tC (s:=x.Size) hr hi.ho;have hpl:(bE r x.Size x.Ea).1.pc=r.pc:=by
  unfold bE;cases eqI x.Ea.Mode 3
  ·cases eqI x.Ea.Mode 4
   ·cases eqI x.Ea.Mode 5
    ·cases eqI x.Ea.Mode 6<;>rfl
    ·rfl
   ·rfl
  ·rfl
 have hbr:=aW.1 hr.pw;rw[hpc]at hbr;obtain⟨b1,b2⟩:=NS (w:=w) (f:=f0) (bV (bE r x.Size x.Ea).1 zs l s h) hg hp;obtain⟨q1,q2⟩:=bQD (x:=x) (pc:=pc) (w:=w) (v:=HB x pc) (s:=s) (h:=h) p3 hb hbr.1 hbr.2;have sp:fC (mq r zs l s pc w) 2 x.Ea=(mq (bE r x.Size x.Ea).1 zs l s pc w,(bE r x.Size x.Ea).2):=by unfold fC;rw[m0,k1];rfl
 unfold aZK lK;rw[h2,show eqI 14 13=false from rfl,cond_false,sp]
 simp only[bF,KY,aHK,QX,vO,oG,oY,pC,oH,mR,oN,mP,nG,jN,p1,p2,b1,b2,q1,q2,eA,wz];refine⟨fun e=>?_,fun e=>?_⟩
 ·have j2:SD x (mq (bE r x.Size x.Ea).1 zs l s pc w,(bE r x.Size x.Ea).2)=fU (mq (bE r x.Size x.Ea).1 zs l s pc w) (HB x pc):=by
   unfold SD;rw[e,cond_true,←hpc,←hpl];rfl
  rw[j2];have js:(fU (mq (bE r x.Size x.Ea).1 zs l s pc w) (HB x pc)).stop=s:=aTI _ _;generalize fU (mq (bE r x.Size x.Ea).1 zs l s pc w) (HB x pc)=J at js;refine⟨{J.r with pc:=(bE r x.Size x.Ea).2},J.stop,fun hf=>?_,fun _=>js,?_⟩
  ·unfold aC9 at hf⊢;cases hj:cE J
   ·rw[hj,cond_false,hj]at hf;cases hf
   ·exact⟨rfl,rfl⟩
  ·unfold aC9 dF;cases hj:cE J
   ·rw[cond_false,hj];unfold dR dF;rw[hj];rfl
   ·rw[cond_true];have:cE {J with r:={J.r with pc:=(bE r x.Size x.Ea).2}}=true:=hj
    rw[this];unfold dR dF;rw[hj];rfl
 ·have j2:SD x (mq (bE r x.Size x.Ea).1 zs l s pc w,(bE r x.Size x.Ea).2)=mq (bE r x.Size x.Ea).1 zs l s pc w:=by
   unfold SD;rw[e];rfl
  rw[j2];exact Alike.of rfl
theorem a4P(r:RM)(p v:Int):iH {r with pc:=p} v={iH r v with pc:=p}:=by
 unfold iH;dsimp only;cases rD (eqI (v/256%2) 1) r.sup<;>rfl
theorem aTM{x:aF}(h:InsOk x)(h2:x.Op=15):x.Size=2:=by
 have hk:=h.kb;rw[a3Z h2]at hk;unfold C5 at hk;cases e:(bif cV x.Size 2 then true else pG x.Sub 6)
 ·cases e2:cV x.Size 2
  ·exact VQ.1 e2
  ·rw[e2]at e;cases e
 ·rw[e]at hk;cases hk
theorem aDE(m:MM)(v:Int)(h:eqI v 0=false):dF (v9 m v)={m.f with Vector:=v,PC:=m.r.pc}:=by
 have:cE (v9 m v)=false:=h;unfold dF;rw[this];rfl
theorem bQH{v:Int}(h0:0≤v)(h1:v≤65535):cD (lO v 8) (hX (aD v 255) 8)=C9 v:=by
 unfold C9 VW;rw[aW.2 ⟨h0,h1⟩];rfl
theorem bKX{r:RM}{zs:List Int}{l:List aA}{s:Bool}{pc w:Int}(h:cE (cP (mq r zs l s pc w)).1=true):(cP (mq r zs l s pc w)).1=mq (cP (mq r zs l s pc w)).1.r (cP (mq r zs l s pc w)).1.zs (cP (mq r zs l s pc w)).1.l s pc w:=by
 have e:(cP (mq r zs l s pc w)).1={(dQ (mq r zs l s pc w) 1 2 (cI r.a 3) 0).1 with r:=(cP (mq r zs l s pc w)).1.r}:=by
  unfold cP;cases cE (dQ (mq r zs l s pc w) 1 2 (cI (mq r zs l s pc w).r.a 3) 0).1<;>rfl
 have hf:cE (dQ (mq r zs l s pc w) 1 2 (cI r.a 3) 0).1=true:=by rw[e]at h;exact h
 have:=SM hf;rw[e,this];rfl
theorem bQI{x:aF}{pc w:Int}{r:RM}{zs:List Int}{l:List aA}{s h:Bool}(hr:r.Ok 65535)(hb:BusOk zs l)(hg:dU x=true)(h2:x.Op=15)(hp:bS pc 0 65535=true)(hpc:r.pc=HB x pc):bGW (dG x pc w f0) (bV r zs l s h)=true∧Alike x pc w h s (rE (mq r zs l s pc w) x) (aSN (dG x pc w f0) (bV r zs l s h)):=by
 refine aE (t:=aZP (dG x pc w f0) (bV r zs l s h)) (P:=fun q=>Alike x pc w h s (rE (mq r zs l s pc w) x) q) ?_
 have hi:=InsOk.of hg;have hsz:=aTM hi h2;obtain⟨d1,d2,d3⟩:=jM hr.d4 hi.hr;obtain⟨s1,s2,s3,s4,s5⟩:=fX (v:=0) hr.d4 hi.hr;rw[Nat.zero_add]at s5;have dr:=nE hr.dw hr.d4 hi.hr;obtain⟨q1,q2⟩:=bQE (x:=x) (pc:=pc) (w:=w) (s:=s) (h:=h) hr hb;obtain⟨o1,o2,o3⟩:=LJ (JH (s:=s) (pc:=pc) (w:=w) hr hb);have ps:(cP (mq r zs l s pc w)).1.stop=s:=aDC _;unfold aZP rE;have hsub:x.Sub=0∨x.Sub=1∨x.Sub=2∨x.Sub=3∨x.Sub=4∨x.Sub=5∨x.Sub=6∨x.Sub=7:=by have:=aW.1 hi.hb;omega
 rcases hsub with e|e|e|e|e|e|e|e
 ·simp only[bF,nV,nU,o7,mO,tQ,tP,tO,tN,tM,tK,tJ,tI,tH,i8,oG,oY,pC,oH,mR,oN,mP,nG,eL,eN,aN,cJ,aM,bA,aO,aP,jN,e,show eqI 0 0=true from rfl,show eqI 0 1=false from rfl,show eqI 0 3=false from rfl,show eqI 0 4=false from rfl,show eqI 0 5=false from rfl,show eqI 0 6=false from rfl,Nat.zero_add,aQ,aY,d2,s3,s4,s5,q1,q2,bT,bW,wz]
  exact Alike.of (J:={(cP (mq r zs l s pc w)).1 with r:={(cP (mq r zs l s pc w)).1.r with pc:=(cP (mq r zs l s pc w)).2}}) ps
 ·cases hf:cE (cP (mq r zs l s pc w)).1
  ·obtain⟨e1,e2⟩:=DA hf;obtain⟨n1,n2⟩:=b1J (x:=x) (pc:=pc) (w:=w) (f:=(cP (mq r zs l s pc w)).1.f) (dR x pc w h (cP (mq r zs l s pc w)).1).2 e2;have e3:eqI (cP (mq r zs l s pc w)).1.f.Vector 0=false:=hf;have dr1:(dR x pc w h (cP (mq r zs l s pc w)).1).1=dG x pc w (cP (mq r zs l s pc w)).1.f:=by unfold dR;rw[e1]
   simp only[bF,nV,nU,o7,mO,tQ,tP,tO,tN,tM,tK,tJ,tI,tH,i8,oG,oY,pC,oH,mR,oN,mP,nG,eL,eN,aN,cJ,aM,bA,aO,aP,jN,e,show eqI 1 0=false from rfl,show eqI 1 1=true from rfl,show eqI 1 3=false from rfl,show eqI 1 4=false from rfl,show eqI 1 5=false from rfl,show eqI 1 6=false from rfl,Nat.zero_add,aQ,aY,d2,s3,s4,s5,q1,q2,bT,bW,wz,dr1,n1,n2,e3]
   have:(dG x pc w (cP (mq r zs l s pc w)).1.f,(dR x pc w h (cP (mq r zs l s pc w)).1).2)=dR x pc w h (cP (mq r zs l s pc w)).1:=by rw[←dr1]
   rw[this];exact Alike.of ps
  ·have e1:=sO hf;have em:=bKX hf;have dr1:(dR x pc w h (cP (mq r zs l s pc w)).1).1=dG x pc w f0:=by unfold dR;rw[e1]
   have dr2:(dR x pc w h (cP (mq r zs l s pc w)).1).2=bV (cP (mq r zs l s pc w)).1.r (cP (mq r zs l s pc w)).1.zs (cP (mq r zs l s pc w)).1.l s h:=by unfold dR;rw[ps]
   obtain⟨n1,n2⟩:=bQE (x:=x) (pc:=pc) (w:=w) (s:=s) (h:=h) o1.r o1.b;obtain⟨u1,u2,u3⟩:=LJ (JH (s:=s) (pc:=pc) (w:=w) o1.r o1.b);have us:(cP (mq (cP (mq r zs l s pc w)).1.r (cP (mq r zs l s pc w)).1.zs (cP (mq r zs l s pc w)).1.l s pc w)).1.stop=s:=aDC _;have em2:cP (cP (mq r zs l s pc w)).1=cP (mq (cP (mq r zs l s pc w)).1.r (cP (mq r zs l s pc w)).1.zs (cP (mq r zs l s pc w)).1.l s pc w):=congrArg cP em;have ew:aD (cP (mq r zs l s pc w)).2 1023=(cP (mq r zs l s pc w)).2%1024:=nZ 10 _ (by omega) (by decide)
   rw[em2];generalize cP (mq (cP (mq r zs l s pc w)).1.r (cP (mq r zs l s pc w)).1.zs (cP (mq r zs l s pc w)).1.l s pc w)=Q at n1 n2 u1 u2 u3 us;obtain⟨Q1,v⟩:=Q;dsimp only at n1 n2 u1 u2 u3 us⊢;obtain⟨t1,t2⟩:=aJX (v:=(cP (mq r zs l s pc w)).2%1024) u1.r (by rw[aW];omega)
   cases hf2:cE Q1
   ·obtain⟨g1,g2⟩:=DA hf2;have g3:eqI Q1.f.Vector 0=false:=hf2;have g4:(dR x pc w h Q1).1.ffault=Q1.f:=by unfold dR;rw[g1];rfl
    simp only[bF,nV,nU,o7,mO,tQ,tP,tO,tN,tM,tK,tJ,tI,tH,i8,oG,oY,pC,oH,mR,oN,mP,nG,eL,eN,aN,cJ,aM,bA,aO,aP,jN,e,show eqI 1 0=false from rfl,show eqI 1 1=true from rfl,show eqI 1 3=false from rfl,show eqI 1 4=false from rfl,show eqI 1 5=false from rfl,show eqI 1 6=false from rfl,Nat.zero_add,aQ,aY,d2,s3,s4,s5,q1,q2,bT,bW,wz,dr1,dr2,n1,n2,g3,g4]
    exact Alike.of us
   ·have g1:=sO hf2;have g3:eqI f0.Vector 0=true:=rfl;have g4:(dR x pc w h Q1).1.ffault=f0:=by unfold dR;rw[g1];rfl
    have g5:(dR x pc w h Q1).2.R=Q1.r.g:=rfl;simp only[bF,nV,nU,o7,mO,tQ,tP,tO,tN,tM,tK,tJ,tI,tH,i8,oG,oY,pC,oH,mR,oN,mP,nG,eL,eN,aN,cJ,aM,bA,aO,aP,jN,e,show eqI 1 0=false from rfl,show eqI 1 1=true from rfl,show eqI 1 3=false from rfl,show eqI 1 4=false from rfl,show eqI 1 5=false from rfl,show eqI 1 6=false from rfl,Nat.zero_add,aQ,aY,d2,s3,s4,s5,q1,q2,bT,bW,wz,dr1,dr2,n1,n2,g3,g4,g5,ew,t1,t2]
    rw[a4P];exact Alike.of (J:={Q1 with r:={iH Q1.r ((cP (mq r zs l s pc w)).2%1024)with pc:=v}}) us
 ·simp only[bF,nV,nU,o7,mO,tQ,tP,tO,tN,tM,tK,tJ,tI,tH,i8,oG,oY,pC,oH,mR,oN,mP,nG,eL,eN,aN,cJ,aM,bA,aO,aP,jN,e,show eqI 2 0=false from rfl,show eqI 2 1=false from rfl,show eqI 2 3=false from rfl,show eqI 2 4=false from rfl,show eqI 2 5=false from rfl,show eqI 2 6=false from rfl,Nat.zero_add,aQ,aY,d2,s3,s4,s5,q1,q2,bT,bW,wz]
  exact Alike.of (J:=mq r zs l s pc w) rfl
 ·have hx:bS x.Ea.Ext 0 1023=true:=by
   have:=aW.1 hi.ho.he;have:=VX hi h2 e;rw[aW];omega
  obtain⟨t1,t2⟩:=aJX (v:=x.Ea.Ext) hr hx;simp only[bF,nV,nU,o7,mO,tQ,tP,tO,tN,tM,tK,tJ,tI,tH,i8,oG,oY,pC,oH,mR,oN,mP,nG,eL,eN,aN,cJ,aM,bA,aO,aP,jN,e,show eqI 3 0=false from rfl,show eqI 3 1=false from rfl,show eqI 3 3=true from rfl,show eqI 3 4=false from rfl,show eqI 3 5=false from rfl,show eqI 3 6=false from rfl,Nat.zero_add,aQ,aY,d2,s3,s4,s5,q1,q2,bT,bW,wz,t1,t2]
  exact Alike.of' (J:={mq r zs l s pc w with r:=iH r x.Ea.Ext,stop:=true}) (fun hf=>by cases hf)
 ·obtain⟨b1,b2⟩:=NS (w:=w) (f:=f0) (bV r zs l s h) hg hp;have hrg:=aW.1 hi.hr;have ea:aV 18 x.Reg=18+x.Reg:=bP (by omega)
  have hv:eqI (18+x.Reg) 0=false:=eT.2 (by omega)
  simp only[bF,nV,nU,o7,mO,tQ,tP,tO,tN,tM,tK,tJ,tI,tH,i8,oG,oY,pC,oH,mR,oN,mP,nG,eL,eN,aN,cJ,aM,bA,aO,aP,jN,e,show eqI 4 0=false from rfl,show eqI 4 1=false from rfl,show eqI 4 3=false from rfl,show eqI 4 4=true from rfl,show eqI 4 5=false from rfl,show eqI 4 6=false from rfl,Nat.zero_add,aQ,aY,d2,s3,s4,s5,q1,q2,bT,bW,wz,b1,b2,ea,(sN _ _ _ _ _ _ _).1,(sN _ _ _ _ _ _ _).2]
  have hd:=aDE (mq r zs l s pc w) (18+x.Reg) hv;have hfl:SK (18+x.Reg) (HB x pc) f0 w=dF (v9 (mq r zs l s pc w) (18+x.Reg)):=by
   rw[hd,←hpc];rfl
  rw[hfl];exact Alike.of (J:=v9 (mq r zs l s pc w) (18+x.Reg)) rfl
 ·have sv:=SC (v:=cI r.d x.Reg);obtain⟨t1,t2⟩:=toD (x:=x) (pc:=pc) (w:=w) (f:=f0) (zs:=zs) (l:=l) (s:=s) (h:=h) (v:=C9 (cI r.d x.Reg)) hr hi.hs hi.hr (fun z=>by omega) sv.1 sv.2
  rw[show cV f0.Vector 0=false from rfl,cond_false]at t2
  have es:=bQH (v:=cI r.d x.Reg) dr.1 (by omega)
  simp only[bF,nV,nU,o7,mO,tQ,tP,tO,tN,tM,tK,tJ,tI,tH,i8,oG,oY,pC,oH,mR,oN,mP,nG,eL,eN,aN,cJ,aM,bA,aO,aP,jN,e,show eqI 5 0=false from rfl,show eqI 5 1=false from rfl,show eqI 5 3=false from rfl,show eqI 5 4=false from rfl,show eqI 5 5=true from rfl,show eqI 5 6=false from rfl,Nat.zero_add,aQ,aY,d2,s3,s4,s5,q1,q2,bT,bW,wz,es,t1,t2]
  rw[hsz];exact Alike.of (J:=oX (mq r zs l s pc w) 2 x.Reg (C9 (cI r.d x.Reg))) rfl
 ·have sv:=aP1 (v:=cI r.d x.Reg);obtain⟨t1,t2⟩:=toD (x:=x) (pc:=pc) (w:=w) (f:=f0) (zs:=zs) (l:=l) (s:=s) (h:=h) (v:=TL (cI r.d x.Reg)) hr hi.hs hi.hr (fun z=>by omega) sv.1 sv.2
  rw[show cV f0.Vector 0=false from rfl,cond_false]at t2
  have e8:aD (cI r.d x.Reg) 255=cI r.d x.Reg%256:=yC dr.1 (by omega)
  obtain⟨g1,g2⟩:=VT (s:=1) (v:=cI r.d x.Reg%256) (Or.inl rfl) (by omega) (by omega)
  have ee:aD (xA 1 (cI r.d x.Reg%256)) 65535=TL (cI r.d x.Reg):=rfl;simp only[bF,nV,nU,o7,mO,tQ,tP,tO,tN,tM,tK,tJ,tI,tH,i8,oG,oY,pC,oH,mR,oN,mP,nG,eL,eN,aN,cJ,aM,bA,aO,aP,jN,e,show eqI 6 0=false from rfl,show eqI 6 1=false from rfl,show eqI 6 3=false from rfl,show eqI 6 4=false from rfl,show eqI 6 5=false from rfl,show eqI 6 6=true from rfl,Nat.zero_add,aQ,aY,d2,s3,s4,s5,q1,q2,bT,bW,wz,e8,g1,g2,ee,t1,t2]
  rw[hsz];exact Alike.of (J:=oX (mq r zs l s pc w) 2 x.Reg (TL (cI r.d x.Reg))) rfl
 ·simp only[bF,nV,nU,o7,mO,tQ,tP,tO,tN,tM,tK,tJ,tI,tH,i8,oG,oY,pC,oH,mR,oN,mP,nG,eL,eN,aN,cJ,aM,bA,aO,aP,jN,e,show eqI 7 0=false from rfl,show eqI 7 1=false from rfl,show eqI 7 3=false from rfl,show eqI 7 4=false from rfl,show eqI 7 5=false from rfl,show eqI 7 6=false from rfl,Nat.zero_add,aQ,aY,d2,s3,s4,s5,q1,q2,bT,bW,wz]
  exact Alike.of (J:=mq r zs l s pc w) rfl
end Go.Proofs.YtdicpjkdpliofaaGreatMasks

namespace Go.Proofs.YtdicpjkdpliofaaGreatMasks
open Go Go.Zq
set_option maxHeartbeats 4000000
set_option maxRecDepth 100000
theorem bKY{x:aF}(h:x.Op=16∨x.Op=17):kB x=bif (bif eqI x.Size 2 then eqI x.Sub 0 else false)then cV x.Ea.Mode 1 else false:=by
 unfold kB;rcases h with h|h<;>rw[h]<;>rfl
theorem a4Q{x:aF}(h:InsOk x)(h2:x.Op=16∨x.Op=17):x.Size=2:=by
 have hk:=h.kb;rw[bKY h2]at hk;obtain⟨h1,-⟩:=aA5 hk;obtain⟨h1,-⟩:=aA5 h1;exact cY.1 h1
theorem a4R{x:aF}{pc w:Int}{r:RM}{zs:List Int}{l:List aA}{s h:Bool}(hr:r.Ok 65535)(hb:BusOk zs l)(hg:dU x=true)(h2:x.Op=16∨x.Op=17)(hp:bS pc 0 65535=true)(hpc:r.pc=HB x pc):bGX (dG x pc w f0) (bV r zs l s h)=true∧aSO (dG x pc w f0) (bV r zs l s h)=dR x pc w h (eC (mq r zs l s pc w) x):=by
 refine aE (t:=aZQ (dG x pc w f0) (bV r zs l s h)) (P:=fun q=>q=dR x pc w h (eC (mq r zs l s pc w) x)) ?_
 have hi:=InsOk.of hg;have hsz:=a4Q hi h2;obtain⟨r1,r2⟩:=aJV (pc:=pc) (w:=w) (s:=s) (h:=h) hr hb hi.hs hi.ho;obtain⟨r3,r4,r5⟩:=rB (JH (s:=s) (pc:=pc) (w:=w) hr hb) h22 hi.ho pZ pZ;have rpc:(cL (mq r zs l s pc w) 2 x.Ea).1.r.pc=r.pc:=by
  unfold cL;cases eqI x.Ea.Mode 0
  ·cases eqI x.Ea.Mode 1
   ·cases eqI x.Ea.Mode 7
    ·show(bE r 2 x.Ea).1.pc=r.pc
     unfold bE;cases eqI x.Ea.Mode 3
     ·cases eqI x.Ea.Mode 4
      ·cases eqI x.Ea.Mode 5
       ·cases eqI x.Ea.Mode 6<;>rfl
       ·rfl
      ·rfl
     ·rfl
    ·rfl
   ·rfl
  ·rfl
 have rst:(cL (mq r zs l s pc w) 2 x.Ea).1.stop=s:=by
  unfold cL;cases eqI x.Ea.Mode 0
  ·cases eqI x.Ea.Mode 1
   ·cases eqI x.Ea.Mode 7<;>rfl
   ·rfl
  ·rfl
 have rfm:cE (cL (mq r zs l s pc w) 2 x.Ea).1=true→(cL (mq r zs l s pc w) 2 x.Ea).1.f=ff pc w:=by
  unfold cL;cases eqI x.Ea.Mode 0
  ·cases eqI x.Ea.Mode 1
   ·cases eqI x.Ea.Mode 7
    ·intro hf;have:=SM (r:=(bE r 2 x.Ea).1) (zs:=zs) (l:=l) (s:=s) (pc:=pc) (w:=w) hf;exact congrArg MM.f this
    ·exact fun _=>rfl
   ·exact fun _=>rfl
  ·exact fun _=>rfl
 rw[hsz]at r2;unfold aZQ eC;generalize cL (mq r zs l s pc w) 2 x.Ea=q at r2 r3 r4 r5 rpc rst rfm;obtain⟨q1,v,a⟩:=q;dsimp only at r2 r3 r4 r5 rpc rst rfm⊢;obtain⟨qr,qz,ql,qs,qf⟩:=q1;have hqr:RM.Ok 65535 qr:=r3.r;dsimp only at rpc rst rfm;cases hfi:cE ⟨qr,qz,ql,qs,qf⟩
 ·obtain⟨e1,e2⟩:=DA hfi;simp only[bF,GS,K2,K1,AH,CN,GR,K0,oG,oY,pC,oH,mR,oN,mP,nG,r1,r2,dR,e1,e2,bW,bT,wz]
 ·have e1: ∀r',dF ⟨r',qz,ql,qs,qf⟩=f0:=fun r'=>sO (m:=⟨r',qz,ql,qs,qf⟩) hfi
  have nf:cV f0.Vector 0=false:=rfl;obtain⟨d1,d2,d3⟩:=jM hqr.d4 hi.hr;obtain⟨s1,s2,s3,s4,s5⟩:=fX (v:=0) hqr.d4 hi.hr;rw[Nat.zero_add]at s5;have dr:=nE hqr.dw hqr.d4 hi.hr;have vr:=C6 r4;obtain⟨u1,u2⟩:=aP2 dr.1 (by omega) vr.1 vr.2
  have tt: ∀v,0≤v→v≤65535→M3 v (dG x pc w f0) (bV qr qz ql qs h)=true∧M2 v (dG x pc w f0) (bV qr qz ql qs h)=bV (uA {qr with fl:=eZ x.Size qr.fl v} x.Size x.Reg v) qz ql qs h:=fun v h0 h1=>by
   have:=toD (x:=x) (pc:=pc) (w:=w) (f:=f0) (zs:=qz) (l:=ql) (s:=qs) (h:=h) hqr hi.hs hi.hr (fun z=>by omega) h0 h1
   exact this
  rw[hsz]at tt;unfold MQ;rcases h2 with e|e
  ·obtain⟨t1,t2⟩:=tt (cI qr.d x.Reg*v%65536) (by omega) (by omega)
   simp only[bF,GS,K2,K1,AH,CN,GR,K0,oG,oY,pC,oH,mR,oN,mP,nG,eL,eN,aN,cJ,aM,bA,aO,aP,r1,r2,dR,e1,nf,e,show eqI 16 16=true from rfl,Nat.zero_add,aQ,aY,d2,s3,s4,s5,u1,v8,t1,t2,(yF _ _).1,(yF _ _).2,bW,bT,wz]
   exact Prod.ext (congrArg (dG x pc w) (e1 _).symm) rfl
  ·obtain⟨b1,b2⟩:=NS (w:=w) (f:=f0) (bV qr qz ql qs h) hg hp;cases hv:eqI v 0
   ·have hv':=eT.1 hv;have hn:cV v 0=true:=o8.2 hv';obtain⟨v1,v2,v3⟩:=aAY dr.1 (show 0<v by omega) (by omega)
    obtain⟨t1,t2⟩:=tt (cI qr.d x.Reg/v) v2 (by omega)
    simp only[bF,GS,K2,K1,AH,CN,GR,K0,oG,oY,pC,oH,mR,oN,mP,nG,eL,eN,aN,cJ,aM,bA,aO,aP,r1,r2,dR,e1,nf,e,show eqI 17 16=false from rfl,hv,hn,Nat.zero_add,aQ,aY,d2,s3,s4,s5,v1,t1,t2,bW,bT,wz]
    exact Prod.ext (congrArg (dG x pc w) (e1 _).symm) rfl
   ·have hd:=aDE ⟨qr,qz,ql,qs,qf⟩ 5 rfl;have hfl:SK 5 (HB x pc) f0 w=dF (v9 ⟨qr,qz,ql,qs,qf⟩ 5):=by
     rw[hd,rfm hfi];show _={ff pc w with Vector:=5,PC:=qr.pc}
     rw[rpc,hpc];rfl
    simp only[bF,GS,K2,K1,AH,CN,GR,K0,oG,oY,pC,oH,mR,oN,mP,nG,eL,eN,aN,cJ,aM,bA,aO,aP,r1,r2,dR,e1,nf,e,show eqI 17 16=false from rfl,hv,Nat.zero_add,aQ,aY,d2,s3,s4,s5,b1,b2,(sN _ _ _ _ _ _ _).1,(sN _ _ _ _ _ _ _).2,hfl,bW,bT,wz]
    rfl
theorem b1K{x:aF}{pc w:Int}{r:RM}{zs:List Int}{l:List aA}{s h:Bool}(hr:r.Ok 65535)(hb:BusOk zs l)(hg:dU x=true):bG7 (dG x pc w f0) (bV r zs l s h)=true∧aSQ (dG x pc w f0) (bV r zs l s h)=dR x pc w h (yG (mq r zs l s pc w) x):=by
 refine aE (t:=aZ0 (dG x pc w f0) (bV r zs l s h)) (P:=fun q=>q=dR x pc w h (yG (mq r zs l s pc w) x)) ?_
 have hi:=InsOk.of hg;obtain⟨i1,i2,i3⟩:=jM hr.d4 hi.hr;obtain⟨s1,s2,s3,s4,s5⟩:=fX (v:=0) hr.d4 hi.hr;obtain⟨j1,j2,j3⟩:=jM hr.d4 hi.ho.hr;obtain⟨u1,u2,u3,u4,u5⟩:=fX (v:=0) hr.d4 hi.ho.hr;rw[Nat.zero_add]at s5 u5;have dr:=nE hr.dw hr.d4 hi.hr;have er:=nE hr.dw hr.d4 hi.ho.hr;have m8:aD (cI r.d x.Reg) 255=cI r.d x.Reg%256:=yC dr.1 (by omega)
 have n8:aD (cI r.d x.Ea.Reg) 255=cI r.d x.Ea.Reg%256:=yC er.1 (by omega)
 have eq:kF r.fl 16=bif cV (aD r.fl 16) 0 then 1 else 0:=bU (p:=fun f=>kF f 16=bif cV (aD f 16) 0 then 1 else 0) hr.fw (by decide+kernel)
 have ha:bS (cI r.d x.Reg%256) 0 255=true:=by rw[aW];omega
 have hbb:bS (cI r.d x.Ea.Reg%256) 0 255=true:=by rw[aW];omega
 obtain⟨a1,a2⟩:=bP9 (pA (cV (aD r.fl 16) 0)) ha hbb;obtain⟨b1,b2⟩:=bQA (pA (cV (aD r.fl 16) 0)) ha hbb;unfold aZ0 yG;rw[show(mq r zs l s pc w).r=r from rfl]
 cases h1:(iA (cI r.d x.Reg%256)&&iA (cI r.d x.Ea.Reg%256))
 ·have hfl:SK 4 pc f0 w=dF {mq r zs l s pc w with f:={(mq r zs l s pc w).f with Vector:=4}}:=rfl
  have bb:(bif eqI x.Sub 1 then false else false)=false:=by cases eqI x.Sub 1<;>rfl
  rw[h1]at a2 b2;simp only[bF,ZL,RE,ZK,RD,RC,RB,K5,K4,oG,oY,pC,oH,mR,oN,mP,nG,eL,eN,aN,cJ,aM,bA,aO,aP,Nat.zero_add,aQ,aY,i2,j2,s3,s4,s5,u3,u4,u5,m8,n8,eq,a1,a2,b1,b2,bb,(sN _ _ _ _ _ _ _).1,(sN _ _ _ _ _ _ _).2,hfl,bW,bT,wz];rfl
 ·rw[h1]at a2 b2;rw[Bool.and_eq_true]at h1;obtain⟨⟨v0,v1⟩,v2⟩:=aAZ (x:=x) (m:=mq r zs l s pc w) h1.1 h1.2;have bb:(bif eqI x.Sub 1 then true else true)=true:=by cases eqI x.Sub 1<;>rfl
  have e4:(bif eqI x.Sub 1 then(M8 (bif cV (aD r.fl 16) 0 then 1 else 0) (cI r.d x.Reg%256) (cI r.d x.Ea.Reg%256)).1 else(M7 (bif cV (aD r.fl 16) 0 then 1 else 0) (cI r.d x.Reg%256) (cI r.d x.Ea.Reg%256)).1)=(wA x (mq r zs l s pc w)).1:=by
   unfold wA;cases eqI x.Sub 1<;>rfl
  have e5:(bif eqI x.Sub 1 then(M8 (bif cV (aD r.fl 16) 0 then 1 else 0) (cI r.d x.Reg%256) (cI r.d x.Ea.Reg%256)).2 else(M7 (bif cV (aD r.fl 16) 0 then 1 else 0) (cI r.d x.Reg%256) (cI r.d x.Ea.Reg%256)).2)=(wA x (mq r zs l s pc w)).2:=by
   unfold wA;cases eqI x.Sub 1<;>rfl
  have e6:(bif eqI (wA x (mq r zs l s pc w)).2 1 then(17:Int)else 0)=dB (wA x (mq r zs l s pc w)).2 17:=by rcases v2 with z|z<;>rw[z]<;>decide
  obtain⟨p1,p2⟩:=a4M (v:=(wA x (mq r zs l s pc w)).1) hr h11 hi.hr (fun _=>by omega)
  simp only[bF,ZL,RE,ZK,RD,RC,RB,K5,K4,oG,oY,pC,oH,mR,oN,mP,nG,eL,eN,aN,cJ,aM,bA,aO,aP,Nat.zero_add,aQ,aY,i2,j2,s3,s4,s5,u3,u4,u5,m8,n8,eq,a1,a2,b1,b2,bb,e4,e5,e6,p1,p2,(yF _ _).1,(yF _ _).2,bW,bT,wz];rfl
end Go.Proofs.YtdicpjkdpliofaaGreatMasks

namespace Go.Proofs.YtdicpjkdpliofaaGreatMasks
open Nat renaming zero_add → q_9
open List renaming length_set → q_f
open Go Go.Zq
set_option maxHeartbeats 4000000
set_option maxRecDepth 100000
theorem b1L{x:aF}(h:x.Op=9):kB x=bif eqI x.Size 2 then eqI x.Sub 0 else false:=by
 unfold kB;rw[h];rfl
theorem bQJ{x:aF}(h:x.Op=10):kB x=bif (bif eqI x.Size 2 then eqI x.Sub 0 else false)then tZ x.Ea.Mode else false:=by
 unfold kB;rw[h];rfl
theorem wC(m:MM)(x:aF):(iX m x).stop=(cL m x.Size x.Ea).1.stop:=by
 unfold iX;dsimp only;cases !cE (cL m x.Size x.Ea).1
 ·cases eqI x.Op 8<;>rfl
 ·rfl
theorem jP(m:MM)(s:Int)(o:aB):(cL m s o).1.stop=m.stop:=by
 unfold cL;cases eqI o.Mode 0
 ·cases eqI o.Mode 1
  ·cases eqI o.Mode 7<;>rfl
  ·rfl
 ·rfl
theorem SP(m:MM)(s:Int)(o:aB)(a v:Int):(dD m s o a v).stop=m.stop:=by
 unfold dD;cases eqI o.Mode 0<;>rfl
theorem aDF(m:MM)(s:Int)(o:aB):(fC m s o).1.stop=m.stop:=by
 unfold fC;cases eqI o.Mode 0<;>rfl
theorem aTN(m:MM)(x:aF):(xC m x).stop=m.stop:=by
 show(dD (fC m x.Size x.Ea).1 x.Size x.Ea (fC m x.Size x.Ea).2 (cI m.r.d x.Reg%bN x.Size)).stop=m.stop
 rw[SP,aDF]
theorem aTO(m:MM)(x:aF):(eP m x).1.stop=m.stop:=by
 unfold eP;cases eqI x.Sub 0
 ·exact jP _ _ _
 ·exact aDF _ _ _
theorem aTP(x:aF)(q:MM)(a:Int)(w:Int×Int):(AP x q a w).stop=q.stop:=by
 unfold AP;cases !cE q
 ·cases ltI x.Sub 3
  ·rfl
  ·exact SP _ _ _ _ _
 ·rfl
theorem a4S(m:MM)(x:aF):(zA m x).stop=m.stop:=by
 unfold zA;rw[aTP,aTO]
theorem JI(m:MM)(x:aF):(eC m x).stop=m.stop:=by
 unfold eC MQ;cases !cE (cL m 2 x.Ea).1
 ·cases eqI x.Op 16
  ·cases eqI (cL m 2 x.Ea).2.1 0<;>exact jP _ _ _
  ·exact jP _ _ _
 ·exact jP _ _ _
theorem a4T(m:MM)(x:aF):(yG m x).stop=m.stop:=by
 unfold yG;cases iA (cI m.r.d x.Reg%256)&&iA (cI m.r.d x.Ea.Reg%256)<;>rfl
theorem doD{x:aF}{pc w:Int}{r:RM}{zs:List Int}{l:List aA}{s h:Bool}(hr:r.Ok 65535)(hb:BusOk zs l)(hg:dU x=true)(hp:bS pc 0 65535=true)(hpc:r.pc=HB x pc):bHD (dG x pc w f0) (bV r zs l s h)=true∧Alike x pc w h s (dX (mq r zs l s pc w) x pc) (bHC (dG x pc w f0) (bV r zs l s h)):=by
 refine aE (t:=aZ2 (dG x pc w f0) (bV r zs l s h)) (P:=fun q=>Alike x pc w h s (dX (mq r zs l s pc w) x pc) q) ?_
 have hi:=InsOk.of hg;have hop:=hi.op;have hrr:=aW.1 hi.hr;have hsb:=aW.1 hi.hb;have hm:=JH (s:=s) (pc:=pc) (w:=w) hr hb;obtain⟨y1,y2,y3,y4,y5⟩:=fX (v:=0) hr.a4 hi.hr;rw[q_9]at y1 y2 y5;obtain⟨t1,t2,t3,t4,t5⟩:=fX (v:=0) hr.d4 hi.hr;rw[q_9]at t1 t2 t5;unfold aZ2 dX;have hops:x.Op=1∨x.Op=2∨x.Op=3∨x.Op=4∨x.Op=5∨x.Op=6∨x.Op=7∨x.Op=8∨x.Op=9∨x.Op=10∨x.Op=11∨x.Op=12∨x.Op=13∨x.Op=14∨x.Op=15∨x.Op=16∨x.Op=17∨x.Op=18∨x.Op=19:=by omega
 rcases hops with e|e|e|e|e|e|e|e|e|e|e|e|e|e|e|e|e|e|e
 ·obtain⟨a1,a2⟩:=aJW (pc:=pc) (w:=w) (s:=s) (h:=h) hr hb hi (by unfold oF;omega)
  simp only[bF,gG,fE,fK,eX,gF,gE,fJ,gD,gC,gV,gU,gT,gS,gR,gQ,gP,gO,bK,eW,bJ,gB,gA,fD,f9,fI,f7,fH,jE,eY,jD,jC,iD,iL,jB,iK,jA,i9,oG,oY,pC,oH,mR,oN,mP,nG,eL,eN,aN,cJ,aM,bA,aO,aP,jN,e,show eqI 1 1=true from rfl,show eqI 1 2=false from rfl,show eqI 1 3=false from rfl,show eqI 1 4=false from rfl,show eqI 1 5=false from rfl,show eqI 1 6=false from rfl,show eqI 1 7=false from rfl,show eqI 1 8=false from rfl,show eqI 1 9=false from rfl,show eqI 1 10=false from rfl,show eqI 1 11=false from rfl,show eqI 1 12=false from rfl,show eqI 1 13=false from rfl,show eqI 1 14=false from rfl,show eqI 1 15=false from rfl,show eqI 1 16=false from rfl,show eqI 1 17=false from rfl,show eqI 1 18=false from rfl,show eqI 1 19=false from rfl,a1,a2,q_9,aQ,aY,dN,q_f,bW,bT,wz]
  exact Alike.of ((wC _ _).trans (jP _ _ _))
 ·obtain⟨a1,a2⟩:=bQB (pc:=pc) (w:=w) (s:=s) (h:=h) hr hb hi e;simp only[bF,gG,fE,fK,eX,gF,gE,fJ,gD,gC,gV,gU,gT,gS,gR,gQ,gP,gO,bK,eW,bJ,gB,gA,fD,f9,fI,f7,fH,jE,eY,jD,jC,iD,iL,jB,iK,jA,i9,oG,oY,pC,oH,mR,oN,mP,nG,eL,eN,aN,cJ,aM,bA,aO,aP,jN,e,show eqI 2 1=false from rfl,show eqI 2 2=true from rfl,show eqI 2 3=false from rfl,show eqI 2 4=false from rfl,show eqI 2 5=false from rfl,show eqI 2 6=false from rfl,show eqI 2 7=false from rfl,show eqI 2 8=false from rfl,show eqI 2 9=false from rfl,show eqI 2 10=false from rfl,show eqI 2 11=false from rfl,show eqI 2 12=false from rfl,show eqI 2 13=false from rfl,show eqI 2 14=false from rfl,show eqI 2 15=false from rfl,show eqI 2 16=false from rfl,show eqI 2 17=false from rfl,show eqI 2 18=false from rfl,show eqI 2 19=false from rfl,a1,a2,q_9,aQ,aY,dN,q_f,bW,bT,wz]
  exact Alike.of (aTN _ _)
 ·obtain⟨a1,a2⟩:=aJW (pc:=pc) (w:=w) (s:=s) (h:=h) hr hb hi (by unfold oF;omega)
  simp only[bF,gG,fE,fK,eX,gF,gE,fJ,gD,gC,gV,gU,gT,gS,gR,gQ,gP,gO,bK,eW,bJ,gB,gA,fD,f9,fI,f7,fH,jE,eY,jD,jC,iD,iL,jB,iK,jA,i9,oG,oY,pC,oH,mR,oN,mP,nG,eL,eN,aN,cJ,aM,bA,aO,aP,jN,e,show eqI 3 1=false from rfl,show eqI 3 2=false from rfl,show eqI 3 3=true from rfl,show eqI 3 4=false from rfl,show eqI 3 5=false from rfl,show eqI 3 6=false from rfl,show eqI 3 7=false from rfl,show eqI 3 8=false from rfl,show eqI 3 9=false from rfl,show eqI 3 10=false from rfl,show eqI 3 11=false from rfl,show eqI 3 12=false from rfl,show eqI 3 13=false from rfl,show eqI 3 14=false from rfl,show eqI 3 15=false from rfl,show eqI 3 16=false from rfl,show eqI 3 17=false from rfl,show eqI 3 18=false from rfl,show eqI 3 19=false from rfl,a1,a2,q_9,aQ,aY,dN,q_f,bW,bT,wz]
  exact Alike.of ((wC _ _).trans (jP _ _ _))
 ·obtain⟨a1,a2⟩:=aJW (pc:=pc) (w:=w) (s:=s) (h:=h) hr hb hi (by unfold oF;omega)
  simp only[bF,gG,fE,fK,eX,gF,gE,fJ,gD,gC,gV,gU,gT,gS,gR,gQ,gP,gO,bK,eW,bJ,gB,gA,fD,f9,fI,f7,fH,jE,eY,jD,jC,iD,iL,jB,iK,jA,i9,oG,oY,pC,oH,mR,oN,mP,nG,eL,eN,aN,cJ,aM,bA,aO,aP,jN,e,show eqI 4 1=false from rfl,show eqI 4 2=false from rfl,show eqI 4 3=false from rfl,show eqI 4 4=true from rfl,show eqI 4 5=false from rfl,show eqI 4 6=false from rfl,show eqI 4 7=false from rfl,show eqI 4 8=false from rfl,show eqI 4 9=false from rfl,show eqI 4 10=false from rfl,show eqI 4 11=false from rfl,show eqI 4 12=false from rfl,show eqI 4 13=false from rfl,show eqI 4 14=false from rfl,show eqI 4 15=false from rfl,show eqI 4 16=false from rfl,show eqI 4 17=false from rfl,show eqI 4 18=false from rfl,show eqI 4 19=false from rfl,a1,a2,q_9,aQ,aY,dN,q_f,bW,bT,wz]
  exact Alike.of ((wC _ _).trans (jP _ _ _))
 ·obtain⟨a1,a2⟩:=aJW (pc:=pc) (w:=w) (s:=s) (h:=h) hr hb hi (by unfold oF;omega)
  simp only[bF,gG,fE,fK,eX,gF,gE,fJ,gD,gC,gV,gU,gT,gS,gR,gQ,gP,gO,bK,eW,bJ,gB,gA,fD,f9,fI,f7,fH,jE,eY,jD,jC,iD,iL,jB,iK,jA,i9,oG,oY,pC,oH,mR,oN,mP,nG,eL,eN,aN,cJ,aM,bA,aO,aP,jN,e,show eqI 5 1=false from rfl,show eqI 5 2=false from rfl,show eqI 5 3=false from rfl,show eqI 5 4=false from rfl,show eqI 5 5=true from rfl,show eqI 5 6=false from rfl,show eqI 5 7=false from rfl,show eqI 5 8=false from rfl,show eqI 5 9=false from rfl,show eqI 5 10=false from rfl,show eqI 5 11=false from rfl,show eqI 5 12=false from rfl,show eqI 5 13=false from rfl,show eqI 5 14=false from rfl,show eqI 5 15=false from rfl,show eqI 5 16=false from rfl,show eqI 5 17=false from rfl,show eqI 5 18=false from rfl,show eqI 5 19=false from rfl,a1,a2,q_9,aQ,aY,dN,q_f,bW,bT,wz]
  exact Alike.of ((wC _ _).trans (jP _ _ _))
 ·obtain⟨a1,a2⟩:=aJW (pc:=pc) (w:=w) (s:=s) (h:=h) hr hb hi (by unfold oF;omega)
  simp only[bF,gG,fE,fK,eX,gF,gE,fJ,gD,gC,gV,gU,gT,gS,gR,gQ,gP,gO,bK,eW,bJ,gB,gA,fD,f9,fI,f7,fH,jE,eY,jD,jC,iD,iL,jB,iK,jA,i9,oG,oY,pC,oH,mR,oN,mP,nG,eL,eN,aN,cJ,aM,bA,aO,aP,jN,e,show eqI 6 1=false from rfl,show eqI 6 2=false from rfl,show eqI 6 3=false from rfl,show eqI 6 4=false from rfl,show eqI 6 5=false from rfl,show eqI 6 6=true from rfl,show eqI 6 7=false from rfl,show eqI 6 8=false from rfl,show eqI 6 9=false from rfl,show eqI 6 10=false from rfl,show eqI 6 11=false from rfl,show eqI 6 12=false from rfl,show eqI 6 13=false from rfl,show eqI 6 14=false from rfl,show eqI 6 15=false from rfl,show eqI 6 16=false from rfl,show eqI 6 17=false from rfl,show eqI 6 18=false from rfl,show eqI 6 19=false from rfl,a1,a2,q_9,aQ,aY,dN,q_f,bW,bT,wz]
  exact Alike.of ((wC _ _).trans (jP _ _ _))
 ·obtain⟨a1,a2⟩:=aJW (pc:=pc) (w:=w) (s:=s) (h:=h) hr hb hi (by unfold oF;omega)
  simp only[bF,gG,fE,fK,eX,gF,gE,fJ,gD,gC,gV,gU,gT,gS,gR,gQ,gP,gO,bK,eW,bJ,gB,gA,fD,f9,fI,f7,fH,jE,eY,jD,jC,iD,iL,jB,iK,jA,i9,oG,oY,pC,oH,mR,oN,mP,nG,eL,eN,aN,cJ,aM,bA,aO,aP,jN,e,show eqI 7 1=false from rfl,show eqI 7 2=false from rfl,show eqI 7 3=false from rfl,show eqI 7 4=false from rfl,show eqI 7 5=false from rfl,show eqI 7 6=false from rfl,show eqI 7 7=true from rfl,show eqI 7 8=false from rfl,show eqI 7 9=false from rfl,show eqI 7 10=false from rfl,show eqI 7 11=false from rfl,show eqI 7 12=false from rfl,show eqI 7 13=false from rfl,show eqI 7 14=false from rfl,show eqI 7 15=false from rfl,show eqI 7 16=false from rfl,show eqI 7 17=false from rfl,show eqI 7 18=false from rfl,show eqI 7 19=false from rfl,a1,a2,q_9,aQ,aY,dN,q_f,bW,bT,wz]
  exact Alike.of ((wC _ _).trans (jP _ _ _))
 ·obtain⟨a1,a2⟩:=aJW (pc:=pc) (w:=w) (s:=s) (h:=h) hr hb hi (by unfold oF;omega)
  simp only[bF,gG,fE,fK,eX,gF,gE,fJ,gD,gC,gV,gU,gT,gS,gR,gQ,gP,gO,bK,eW,bJ,gB,gA,fD,f9,fI,f7,fH,jE,eY,jD,jC,iD,iL,jB,iK,jA,i9,oG,oY,pC,oH,mR,oN,mP,nG,eL,eN,aN,cJ,aM,bA,aO,aP,jN,e,show eqI 8 1=false from rfl,show eqI 8 2=false from rfl,show eqI 8 3=false from rfl,show eqI 8 4=false from rfl,show eqI 8 5=false from rfl,show eqI 8 6=false from rfl,show eqI 8 7=false from rfl,show eqI 8 8=true from rfl,show eqI 8 9=false from rfl,show eqI 8 10=false from rfl,show eqI 8 11=false from rfl,show eqI 8 12=false from rfl,show eqI 8 13=false from rfl,show eqI 8 14=false from rfl,show eqI 8 15=false from rfl,show eqI 8 16=false from rfl,show eqI 8 17=false from rfl,show eqI 8 18=false from rfl,show eqI 8 19=false from rfl,a1,a2,q_9,aQ,aY,dN,q_f,bW,bT,wz]
  exact Alike.of ((wC _ _).trans (jP _ _ _))
 ·have hk:=hi.kb;rw[b1L e]at hk;have hsz:=cY.1 (aA5 hk).1;obtain⟨a1,a2⟩:=aJV (pc:=pc) (w:=w) (s:=s) (h:=h) hr hb hi.hs hi.ho;rw[hsz]at a2;obtain⟨r3,r4,r5⟩:=rB hm h22 hi.ho pZ pZ;have rs:=jP (mq r zs l s pc w) 2 x.Ea;generalize cL (mq r zs l s pc w) 2 x.Ea=Q at a2 r3 r4 r5 rs;obtain⟨Q1,v,a⟩:=Q;dsimp only at a2 r3 r4 r5 rs;obtain⟨z1,z2,z3,z4,z5⟩:=fX (v:=0) r3.r.a4 hi.hr;rw[q_9]at z1 z2 z5;have eR:(dR x pc w h Q1).2.R=Q1.r.g:=rfl;have eB:(dR x pc w h Q1).2.Bus=wM Q1.zs Q1.l:=rfl;simp only[bF,gG,fE,fK,eX,gF,gE,fJ,gD,gC,gV,gU,gT,gS,gR,gQ,gP,gO,bK,eW,bJ,gB,gA,fD,f9,fI,f7,fH,jE,eY,jD,jC,iD,iL,jB,iK,jA,i9,oG,oY,pC,oH,mR,oN,mP,nG,eL,eN,aN,cJ,aM,bA,aO,aP,jN,e,show eqI 9 1=false from rfl,show eqI 9 2=false from rfl,show eqI 9 3=false from rfl,show eqI 9 4=false from rfl,show eqI 9 5=false from rfl,show eqI 9 6=false from rfl,show eqI 9 7=false from rfl,show eqI 9 8=false from rfl,show eqI 9 9=true from rfl,show eqI 9 10=false from rfl,show eqI 9 11=false from rfl,show eqI 9 12=false from rfl,show eqI 9 13=false from rfl,show eqI 9 14=false from rfl,show eqI 9 15=false from rfl,show eqI 9 16=false from rfl,show eqI 9 17=false from rfl,show eqI 9 18=false from rfl,show eqI 9 19=false from rfl,a1,a2,eR,eB,y1,y2,y3,y4,y5,z1,z2,z3,z4,z5,q_9,aQ,aY,dN,q_f,bW,bT,wz]
  unfold zB;refine⟨{Q1.r with a:=Q1.r.a.set x.Reg.toNat v},Q1.stop,fun hf=>?_,fun _=>rs,?_⟩
  ·dsimp only at hf⊢;cases hq:cE Q1
   ·rw[hq,cond_false,hq]at hf;cases hf
   ·exact⟨rfl,rfl⟩
  ·dsimp only;cases hq:cE Q1<;>rfl
 ·have hk:=hi.kb;rw[bQJ e]at hk;obtain⟨hk1,hk2⟩:=aA5 hk;have hsz:=cY.1 (aA5 hk1).1;have hmm:=SO hk2;obtain⟨m0,m1,-,-⟩:=NR hmm;obtain⟨p1,p2⟩:=SL hr hi.hs hi.ho hmm;obtain⟨p3,p4⟩:=tC (s:=x.Size) hr hi.ho;have sp:fC (mq r zs l s pc w) 2 x.Ea=(mq (bE r x.Size x.Ea).1 zs l s pc w,(bE r x.Size x.Ea).2):=by unfold fC;rw[m0,hsz];rfl
  rw[sp];obtain⟨z1,z2,z3,z4,z5⟩:=fX (v:=0) p3.a4 hi.hr;rw[q_9]at z1 z2 z5;simp only[bF,gG,fE,fK,eX,gF,gE,fJ,gD,gC,gV,gU,gT,gS,gR,gQ,gP,gO,bK,eW,bJ,gB,gA,fD,f9,fI,f7,fH,jE,eY,jD,jC,iD,iL,jB,iK,jA,i9,oG,oY,pC,oH,mR,oN,mP,nG,eL,eN,aN,cJ,aM,bA,aO,aP,jN,e,show eqI 10 1=false from rfl,show eqI 10 2=false from rfl,show eqI 10 3=false from rfl,show eqI 10 4=false from rfl,show eqI 10 5=false from rfl,show eqI 10 6=false from rfl,show eqI 10 7=false from rfl,show eqI 10 8=false from rfl,show eqI 10 9=false from rfl,show eqI 10 10=true from rfl,show eqI 10 11=false from rfl,show eqI 10 12=false from rfl,show eqI 10 13=false from rfl,show eqI 10 14=false from rfl,show eqI 10 15=false from rfl,show eqI 10 16=false from rfl,show eqI 10 17=false from rfl,show eqI 10 18=false from rfl,show eqI 10 19=false from rfl,p1,p2,y1,y2,y3,y4,y5,z1,z2,z3,z4,z5,q_9,aQ,aY,dN,q_f,bW,bT,wz]
  unfold SE;exact Alike.of (J:={mq (bE r x.Size x.Ea).1 zs l s pc w with r:={(bE r x.Size x.Ea).1 with a:=(bE r x.Size x.Ea).1.a.set x.Reg.toNat (bE r x.Size x.Ea).2}}) rfl
 ·obtain⟨a1,a2⟩:=b1I (pc:=pc) (w:=w) (s:=s) (h:=h) hr hb hi e;simp only[bF,gG,fE,fK,eX,gF,gE,fJ,gD,gC,gV,gU,gT,gS,gR,gQ,gP,gO,bK,eW,bJ,gB,gA,fD,f9,fI,f7,fH,jE,eY,jD,jC,iD,iL,jB,iK,jA,i9,oG,oY,pC,oH,mR,oN,mP,nG,eL,eN,aN,cJ,aM,bA,aO,aP,jN,e,show eqI 11 1=false from rfl,show eqI 11 2=false from rfl,show eqI 11 3=false from rfl,show eqI 11 4=false from rfl,show eqI 11 5=false from rfl,show eqI 11 6=false from rfl,show eqI 11 7=false from rfl,show eqI 11 8=false from rfl,show eqI 11 9=false from rfl,show eqI 11 10=false from rfl,show eqI 11 11=true from rfl,show eqI 11 12=false from rfl,show eqI 11 13=false from rfl,show eqI 11 14=false from rfl,show eqI 11 15=false from rfl,show eqI 11 16=false from rfl,show eqI 11 17=false from rfl,show eqI 11 18=false from rfl,show eqI 11 19=false from rfl,a1,a2,q_9,aQ,aY,dN,q_f,bW,bT,wz]
  exact Alike.of (a4S _ _)
 ·obtain⟨l1,l2⟩:=aDD (pc:=pc) (w:=w) (f:=f0) (zs:=zs) (l:=l) (s:=s) (h:=h) hr hi.hs hi.hr;have hv:=hP (s:=x.Size) (v:=cI r.d x.Reg) hi.hs;have her:=aW.1 hi.ho.hr;have ea:aV x.Ea.Reg 1=x.Ea.Reg+1:=bP (by omega)
  obtain⟨b1,b2⟩:=byJ (k:=x.Sub) (f:=r.fl) (c:=x.Ea.Reg+1) hi.hs hv hr.fw hi.hb (by omega) (by omega)
  obtain⟨-,o1,o2⟩:=a32 hm hi;have lv:=kA hi.hs o1;obtain⟨p1,p2⟩:=a4M (v:=(shV (mq r zs l s pc w) x).1) hr hi.hs hi.hr (fun z=>by have:=lv.2.2 z;omega)
  have ev:TI x.Sub x.Size r.fl (cI r.d x.Reg%bN x.Size) (x.Ea.Reg+1)=shV (mq r zs l s pc w) x:=rfl;rw[ev]at b2;simp only[bF,gG,fE,fK,eX,gF,gE,fJ,gD,gC,gV,gU,gT,gS,gR,gQ,gP,gO,bK,eW,bJ,gB,gA,fD,f9,fI,f7,fH,jE,eY,jD,jC,iD,iL,jB,iK,jA,i9,oG,oY,pC,oH,mR,oN,mP,nG,eL,eN,aN,cJ,aM,bA,aO,aP,jN,e,show eqI 12 1=false from rfl,show eqI 12 2=false from rfl,show eqI 12 3=false from rfl,show eqI 12 4=false from rfl,show eqI 12 5=false from rfl,show eqI 12 6=false from rfl,show eqI 12 7=false from rfl,show eqI 12 8=false from rfl,show eqI 12 9=false from rfl,show eqI 12 10=false from rfl,show eqI 12 11=false from rfl,show eqI 12 12=true from rfl,show eqI 12 13=false from rfl,show eqI 12 14=false from rfl,show eqI 12 15=false from rfl,show eqI 12 16=false from rfl,show eqI 12 17=false from rfl,show eqI 12 18=false from rfl,show eqI 12 19=false from rfl,l1,l2,ea,b1,b2,p1,p2,q_9,aQ,aY,dN,q_f,bW,bT,wz]
  exact Alike.of (J:=yH (mq r zs l s pc w) x) rfl
 ·have ec:aV x.Sub (dB 8 x.Reg)=x.Sub+8*x.Reg:=by rw[hF (by omega),bP (by omega)]
  obtain⟨c1,c2⟩:=bP7 (c:=x.Sub+8*x.Reg) (f:=r.fl) (by rw[aW];omega)
  have hp':=aW.1 hp;have hx:=aW.1 hi.ho.he;have ep:aD (aV (aV pc 2) x.Ea.Ext) 65535=(pc+2+x.Ea.Ext)%65536:=by rw[bP (x:=pc) (by omega),bP (by omega),v8]
  simp only[bF,gG,fE,fK,eX,gF,gE,fJ,gD,gC,gV,gU,gT,gS,gR,gQ,gP,gO,bK,eW,bJ,gB,gA,fD,f9,fI,f7,fH,jE,eY,jD,jC,iD,iL,jB,iK,jA,i9,oG,oY,pC,oH,mR,oN,mP,nG,eL,eN,aN,cJ,aM,bA,aO,aP,jN,e,show eqI 13 1=false from rfl,show eqI 13 2=false from rfl,show eqI 13 3=false from rfl,show eqI 13 4=false from rfl,show eqI 13 5=false from rfl,show eqI 13 6=false from rfl,show eqI 13 7=false from rfl,show eqI 13 8=false from rfl,show eqI 13 9=false from rfl,show eqI 13 10=false from rfl,show eqI 13 11=false from rfl,show eqI 13 12=false from rfl,show eqI 13 13=true from rfl,show eqI 13 14=false from rfl,show eqI 13 15=false from rfl,show eqI 13 16=false from rfl,show eqI 13 17=false from rfl,show eqI 13 18=false from rfl,show eqI 13 19=false from rfl,ec,c1,c2,ep,q_9,aQ,aY,dN,q_f,bW,bT,wz]
  unfold lK;rw[e,show eqI 13 13=true from rfl,cond_true]
  rw[show(mq r zs l s pc w).r=r from rfl]
  refine⟨fun z=>?_,fun z=>?_⟩
  ·rw[z,cond_true];exact Alike.of (J:={mq r zs l s pc w with r:={r with pc:=(pc+2+x.Ea.Ext)%65536}}) rfl
  ·rw[z,cond_false];exact Alike.of (J:=mq r zs l s pc w) rfl
 ·obtain⟨a1,a2⟩:=bQG (w:=w) (s:=s) (h:=h) hr hb hg e hp hpc;simp only[bF,gG,fE,fK,eX,gF,gE,fJ,gD,gC,gV,gU,gT,gS,gR,gQ,gP,gO,bK,eW,bJ,gB,gA,fD,f9,fI,f7,fH,jE,eY,jD,jC,iD,iL,jB,iK,jA,i9,oG,oY,pC,oH,mR,oN,mP,nG,eL,eN,aN,cJ,aM,bA,aO,aP,jN,e,show eqI 14 1=false from rfl,show eqI 14 2=false from rfl,show eqI 14 3=false from rfl,show eqI 14 4=false from rfl,show eqI 14 5=false from rfl,show eqI 14 6=false from rfl,show eqI 14 7=false from rfl,show eqI 14 8=false from rfl,show eqI 14 9=false from rfl,show eqI 14 10=false from rfl,show eqI 14 11=false from rfl,show eqI 14 12=false from rfl,show eqI 14 13=false from rfl,show eqI 14 14=true from rfl,show eqI 14 15=false from rfl,show eqI 14 16=false from rfl,show eqI 14 17=false from rfl,show eqI 14 18=false from rfl,show eqI 14 19=false from rfl,a1,q_9,aQ,aY,dN,q_f,bW,bT,wz]
  exact a2
 ·obtain⟨a1,a2⟩:=bQI (w:=w) (s:=s) (h:=h) hr hb hg e hp hpc;simp only[bF,gG,fE,fK,eX,gF,gE,fJ,gD,gC,gV,gU,gT,gS,gR,gQ,gP,gO,bK,eW,bJ,gB,gA,fD,f9,fI,f7,fH,jE,eY,jD,jC,iD,iL,jB,iK,jA,i9,oG,oY,pC,oH,mR,oN,mP,nG,eL,eN,aN,cJ,aM,bA,aO,aP,jN,e,show eqI 15 1=false from rfl,show eqI 15 2=false from rfl,show eqI 15 3=false from rfl,show eqI 15 4=false from rfl,show eqI 15 5=false from rfl,show eqI 15 6=false from rfl,show eqI 15 7=false from rfl,show eqI 15 8=false from rfl,show eqI 15 9=false from rfl,show eqI 15 10=false from rfl,show eqI 15 11=false from rfl,show eqI 15 12=false from rfl,show eqI 15 13=false from rfl,show eqI 15 14=false from rfl,show eqI 15 15=true from rfl,show eqI 15 16=false from rfl,show eqI 15 17=false from rfl,show eqI 15 18=false from rfl,show eqI 15 19=false from rfl,a1,q_9,aQ,aY,dN,q_f,bW,bT,wz]
  exact a2
 ·obtain⟨a1,a2⟩:=a4R (w:=w) (s:=s) (h:=h) hr hb hg (by omega) hp hpc
  simp only[bF,gG,fE,fK,eX,gF,gE,fJ,gD,gC,gV,gU,gT,gS,gR,gQ,gP,gO,bK,eW,bJ,gB,gA,fD,f9,fI,f7,fH,jE,eY,jD,jC,iD,iL,jB,iK,jA,i9,oG,oY,pC,oH,mR,oN,mP,nG,eL,eN,aN,cJ,aM,bA,aO,aP,jN,e,show eqI 16 1=false from rfl,show eqI 16 2=false from rfl,show eqI 16 3=false from rfl,show eqI 16 4=false from rfl,show eqI 16 5=false from rfl,show eqI 16 6=false from rfl,show eqI 16 7=false from rfl,show eqI 16 8=false from rfl,show eqI 16 9=false from rfl,show eqI 16 10=false from rfl,show eqI 16 11=false from rfl,show eqI 16 12=false from rfl,show eqI 16 13=false from rfl,show eqI 16 14=false from rfl,show eqI 16 15=false from rfl,show eqI 16 16=true from rfl,show eqI 16 17=false from rfl,show eqI 16 18=false from rfl,show eqI 16 19=false from rfl,a1,a2,q_9,aQ,aY,dN,q_f,bW,bT,wz]
  exact Alike.of (JI _ _)
 ·obtain⟨a1,a2⟩:=a4R (w:=w) (s:=s) (h:=h) hr hb hg (by omega) hp hpc
  simp only[bF,gG,fE,fK,eX,gF,gE,fJ,gD,gC,gV,gU,gT,gS,gR,gQ,gP,gO,bK,eW,bJ,gB,gA,fD,f9,fI,f7,fH,jE,eY,jD,jC,iD,iL,jB,iK,jA,i9,oG,oY,pC,oH,mR,oN,mP,nG,eL,eN,aN,cJ,aM,bA,aO,aP,jN,e,show eqI 17 1=false from rfl,show eqI 17 2=false from rfl,show eqI 17 3=false from rfl,show eqI 17 4=false from rfl,show eqI 17 5=false from rfl,show eqI 17 6=false from rfl,show eqI 17 7=false from rfl,show eqI 17 8=false from rfl,show eqI 17 9=false from rfl,show eqI 17 10=false from rfl,show eqI 17 11=false from rfl,show eqI 17 12=false from rfl,show eqI 17 13=false from rfl,show eqI 17 14=false from rfl,show eqI 17 15=false from rfl,show eqI 17 16=false from rfl,show eqI 17 17=true from rfl,show eqI 17 18=false from rfl,show eqI 17 19=false from rfl,a1,a2,q_9,aQ,aY,dN,q_f,bW,bT,wz]
  exact Alike.of (JI _ _)
 ·obtain⟨a1,a2⟩:=b1K (pc:=pc) (w:=w) (s:=s) (h:=h) hr hb hg;simp only[bF,gG,fE,fK,eX,gF,gE,fJ,gD,gC,gV,gU,gT,gS,gR,gQ,gP,gO,bK,eW,bJ,gB,gA,fD,f9,fI,f7,fH,jE,eY,jD,jC,iD,iL,jB,iK,jA,i9,oG,oY,pC,oH,mR,oN,mP,nG,eL,eN,aN,cJ,aM,bA,aO,aP,jN,e,show eqI 18 1=false from rfl,show eqI 18 2=false from rfl,show eqI 18 3=false from rfl,show eqI 18 4=false from rfl,show eqI 18 5=false from rfl,show eqI 18 6=false from rfl,show eqI 18 7=false from rfl,show eqI 18 8=false from rfl,show eqI 18 9=false from rfl,show eqI 18 10=false from rfl,show eqI 18 11=false from rfl,show eqI 18 12=false from rfl,show eqI 18 13=false from rfl,show eqI 18 14=false from rfl,show eqI 18 15=false from rfl,show eqI 18 16=false from rfl,show eqI 18 17=false from rfl,show eqI 18 18=true from rfl,show eqI 18 19=false from rfl,a1,a2,q_9,aQ,aY,dN,q_f,bW,bT,wz]
  exact Alike.of (a4T _ _)
 ·obtain⟨g1,g2⟩:=a4O hr;cases hs0:eqI x.Sub 0
  ·simp only[bF,gG,fE,fK,eX,gF,gE,fJ,gD,gC,gV,gU,gT,gS,gR,gQ,gP,gO,bK,eW,bJ,gB,gA,fD,f9,fI,f7,fH,jE,eY,jD,jC,iD,iL,jB,iK,jA,i9,oG,oY,pC,oH,mR,oN,mP,nG,eL,eN,aN,cJ,aM,bA,aO,aP,jN,e,show eqI 19 1=false from rfl,show eqI 19 2=false from rfl,show eqI 19 3=false from rfl,show eqI 19 4=false from rfl,show eqI 19 5=false from rfl,show eqI 19 6=false from rfl,show eqI 19 7=false from rfl,show eqI 19 8=false from rfl,show eqI 19 9=false from rfl,show eqI 19 10=false from rfl,show eqI 19 11=false from rfl,show eqI 19 12=false from rfl,show eqI 19 13=false from rfl,show eqI 19 14=false from rfl,show eqI 19 15=false from rfl,show eqI 19 16=false from rfl,show eqI 19 17=false from rfl,show eqI 19 18=false from rfl,show eqI 19 19=true from rfl,hs0,g1,g2,t1,t2,t3,t4,t5,q_9,aQ,aY,dN,q_f,bW,bT,wz]
   unfold wB;rw[hs0,cond_false];exact Alike.of (J:={mq r zs l s pc w with r:={r with d:=r.d.set x.Reg.toNat (o9 r)}}) rfl
  ·obtain⟨u1,u2⟩:=aJX hr (V0 hi e (cY.1 hs0));simp only[bF,gG,fE,fK,eX,gF,gE,fJ,gD,gC,gV,gU,gT,gS,gR,gQ,gP,gO,bK,eW,bJ,gB,gA,fD,f9,fI,f7,fH,jE,eY,jD,jC,iD,iL,jB,iK,jA,i9,oG,oY,pC,oH,mR,oN,mP,nG,eL,eN,aN,cJ,aM,bA,aO,aP,jN,e,show eqI 19 1=false from rfl,show eqI 19 2=false from rfl,show eqI 19 3=false from rfl,show eqI 19 4=false from rfl,show eqI 19 5=false from rfl,show eqI 19 6=false from rfl,show eqI 19 7=false from rfl,show eqI 19 8=false from rfl,show eqI 19 9=false from rfl,show eqI 19 10=false from rfl,show eqI 19 11=false from rfl,show eqI 19 12=false from rfl,show eqI 19 13=false from rfl,show eqI 19 14=false from rfl,show eqI 19 15=false from rfl,show eqI 19 16=false from rfl,show eqI 19 17=false from rfl,show eqI 19 18=false from rfl,show eqI 19 19=true from rfl,hs0,u1,u2,q_9,aQ,aY,dN,q_f,bW,bT,wz]
   unfold wB;rw[hs0,cond_true];exact Alike.of (J:={mq r zs l s pc w with r:=iH r x.Ea.Ext}) rfl
end Go.Proofs.YtdicpjkdpliofaaGreatMasks

namespace Go.Proofs.YtdicpjkdpliofaaGreatMasks
open Go Go.Zq
set_option maxHeartbeats 4000000
set_option maxRecDepth 100000
structure Fet(r:RM)(s:Bool)(F:MM×aF×Int):Prop where
 hr:F.1.r=r
 hs:F.1.stop=s
 hb:BusOk F.1.zs F.1.l
 ok:cE F.1=true→ ∃wd,F.1=mq r F.1.zs F.1.l s r.pc wd∧dU F.2.1=true∧W F.2.1=wd∧F.2.2=((rA F.2.1).length:Int)
end Go.Proofs.YtdicpjkdpliofaaGreatMasks

namespace Go.Proofs.YtdicpjkdpliofaaGreatMasks
open Go Go.Zq
set_option maxHeartbeats 4000000
set_option maxRecDepth 100000
theorem bDK(x:aF):bFM x=true∧bFL x=p7 x:=by
 refine aE (t:=aYE x) (P:=fun q=>q=p7 x) ?_
 unfold aYE p7;simp only[aZ,aR,true_and]
noncomputable def wE(x:aF)(a:Int)(r:RM)(zs:List Int)(l:List aA)(s:Bool):MM:=dX (mq {r with pc:=HB x a} zs l s a (W x)) x a
noncomputable def eG(x:aF)(a:Int)(r:RM)(zs:List Int)(l:List aA)(s h:Bool):aH×bO:=
 bif p7 x&&!r.sup then(bV r zs l s h,⟨8,a,0,W x,false⟩)
 else(bV (bif cE (wE x a r zs l s)then(wE x a r zs l s).r else r) (wE x a r zs l s).zs (wE x a r zs l s).l (bif cE (wE x a r zs l s)then(wE x a r zs l s).stop else s) h,dF (wE x a r zs l s))
theorem bQK{x:aF}{a:Int}{r:RM}{zs:List Int}{l:List aA}{s h:Bool}(hr:r.Ok 65535)(hb:BusOk zs l)(hg:dU x=true)(ha:bS a 0 65535=true):bHG x a (bV r zs l s h)=true∧TG x a (bV r zs l s h)=eG x a r zs l s h:=by
 refine aE (t:=aZ3 x a (bV r zs l s h)) (P:=fun q=>q=eG x a r zs l s h) ?_
 have lR:=NP s h hr hb;obtain⟨o1,o2⟩:=a4G (r:=r.g) lR.1 lR.2.1;obtain⟨e1,e2⟩:=bQC hg;have hl:=SN x;have n0:0<(rA x).length:=by omega
 have e3:bD (ri (rA x)) 0 0=W x:=by
  unfold rA;cases jO x.Ea.Mode 5<;>rfl
 have e4:ltI 0 ((rA x).length:Int)=true:=dW.2 (by omega)
 have e5:dM [.int .i64] (ri (rA x)) 0 0=true:=I8 ⟨rA x,rfl⟩ (by rw[aY];exact n0)
 have hp:=aW.1 ha;have hbp:bS (HB x a) 0 65535=true:=by rw[aW];unfold HB;omega
 obtain⟨b1,b2⟩:=NS (w:=W x) (f:=f0) (bV r zs l s h) hg ha;obtain⟨d1,r',s',d2,d3,d4⟩:=doD (w:=W x) (s:=s) (h:=h) (hr.setP hbp) hb hg ha rfl;unfold aZ3;simp only[bF,aHU,AI,CP,aHT,aHS,mR,oN,mP,nG,eL,eN,aN,cJ,aM,bA,aO,aP,aQ,aY,o1,o2,e1,e2,e3,e4,e5,kC,jN,show(⟨0,0,0,0,false⟩:bO)=f0 from rfl,b1G,oH,(bDK _).1,(bDK _).2,(sN _ _ _ _ _ _ _).1,(sN _ _ _ _ _ _ _).2,b1,b2,d1,d4,eA,wz,bT]
 unfold eG;refine⟨fun q=>?_,fun q=>?_⟩
 ·have:(p7 x&&!r.sup)=true:=by
   obtain⟨z1,z2⟩:=aA5 q;rw[z1,z2];rfl
  rw[this];rfl
 ·have:(p7 x&&!r.sup)=false:=by
   cases hp1:p7 x
   ·rfl
   ·rw[hp1,cond_true]at q;rw[q];rfl
  rw[this,cond_false];show _∧_
  unfold wE;cases hf:cE (dX (mq {r with pc:=HB x a} zs l s a (W x)) x a)
  ·obtain⟨z1,z2⟩:=DA hf;rw[z1];refine⟨fun _=>?_,fun z=>by rw[z2]at z;cases z⟩
   rw[d3 hf];rfl
  ·have z1:=sO hf;rw[z1];refine⟨fun z=>(by cases z),fun _=>?_⟩
   obtain⟨y1,y2⟩:=d2 hf;rw[y1,y2];rfl
end Go.Proofs.YtdicpjkdpliofaaGreatMasks

namespace Go.Proofs.YtdicpjkdpliofaaGreatMasks
open Go Go.Zq
set_option maxHeartbeats 4000000
set_option maxRecDepth 100000
def CE(c:aH):Prop:= ∃r zs l s h,c=bV r zs l s h∧Sz r zs l
theorem CE.self{c:aH}(h:CE c):k23 c c=true∧g23 c c=true:=by
 obtain⟨r,zs,l,s,h,rfl,z⟩:=h;obtain⟨a,b⟩:=bBP r r zs zs l l s h s h z;rw[aTF]at b;exact⟨a,b⟩
theorem zC_ce:CE zC:=⟨⟨[],[],0,0,0,0,false,false⟩,[],[],false,false,rfl,by decide,by decide,by decide,by decide⟩
theorem a4U{r:RM}{zs:List Int}{l:List aA}{s h:Bool}(hr:r.Ok 65535)(hb:BusOk zs l)(hs:(!(s&&h))=true):nF r zs l s h=true:=by
 have h1:=hr.d4;have h2:=hr.a4;have h3:=hb.hz;have h4:=hb.hl;have e1:eqI (r.d.length:Int) 4=true:=by simp;omega
 have e2:eqI (r.a.length:Int) 4=true:=by simp;omega
 have e3:eqI (zs.length:Int) 512=true:=by simp;omega
 have e4:leI (l.length:Int) 400=true:=by simp;omega
 have hm:=hr.mw;rw[show(65535:Int)-65528=7 from rfl]at hm
 unfold nF JG MS;rw[e1,e2,e3,e4,hr.dw,hr.aw,hr.ow,hr.pw,hr.fw,hm,hb.hb,hb.ha,hs];rfl
theorem bKZ{r:RM}{zs:List Int}{l:List aA}(s h:Bool)(m:Sm r zs l):k85 (bV r zs l s h)=true∧g85 (bV r zs l s h)=((nF r zs l s h&&!s)&&!h):=by
 refine aE (t:=T85 (bV r zs l s h)) (P:=fun q=>q=((nF r zs l s h&&!s)&&!h)) ?_
 obtain⟨a1,a2⟩:=bBS s h m;unfold T85;simp only[aZ,aR,a1,a2,mP,nG,Bool.and_true,true_and];cases nF r zs l s h<;>cases s<;>cases h<;>rfl
theorem SQ{a s h:Bool}(g:((a&&!s)&&!h)=true):a=true∧s=false∧h=false:=by
 cases a<;>cases s<;>cases h<;>simp_all
theorem b1M{x:aF}(hg:dU x=true):aWQ x=true∧D2 x=ri (rA x):=by
 have r:=rng hg;refine aE (t:=aFJ x) (P:=fun r=>r=ri (rA x)) ?_
 unfold aFJ rA;rw[(VU _).1,(VU _).2,W_s r];simp only[aZ,dJ,aR,Bool.and_true,true_and];exact⟨fun z=>by rw[z];rfl,fun z=>by rw[z];rfl⟩
def bDL(c:aH)(k:Int):aH:={c with R:={c.R with Flags:=k}}
noncomputable def A6(x:aF)(a:Int)(sk:Bool)(r:RM)(zs:List Int)(l:List aA)(s h:Bool):aH×bO:=
 bif sk&&eqI (eG x a r zs l s h).2.Vector 0 then(bDL (eG x a r zs l s h).1 r.fl,(eG x a r zs l s h).2)else eG x a r zs l s h
theorem b1N{x:aF}{a:Int}{r:RM}{zs:List Int}{l:List aA}{s h:Bool}(sk:Bool)(hr:r.Ok 65535)(hb:BusOk zs l)(hg:dU x=true)(ha:bS a 0 65535=true):k89 x a sk (bV r zs l s h)=true∧g89 x a sk (bV r zs l s h)=A6 x a sk r zs l s h:=by
 refine aE (t:=T89 x a sk (bV r zs l s h)) (P:=fun q=>q=A6 x a sk r zs l s h) ?_
 obtain⟨d1,d2⟩:=bQK (s:=s) (h:=h) hr hb hg ha;unfold T89 A6;simp only[bF,aZ4,d1,d2,mR,aM,eA,wz,bT];generalize eG x a r zs l s h=q;cases sk<;>cases hv:eqI q.2.Vector 0<;>exact⟨fun z=>(by first|rfl|cases z),fun z=>(by first|rfl|cases z)⟩
theorem b1O{x:aF}{a:Int}{r:RM}{zs:List Int}{l:List aA}{s:Bool}(sk:Bool)(hr:r.Ok 65535)(hb:BusOk zs l)(hg:dU x=true)(ha:bS a 0 65535=true):k93 (bV r zs l s false) x a sk=true∧g93 (bV r zs l s false) x a sk=A6 x a sk r zs l s false:=by
 refine aE (t:=T93 (bV r zs l s false) x a sk) (P:=fun q=>q=A6 x a sk r zs l s false) ?_
 have lR:=NP s false hr hb;obtain⟨o1,o2⟩:=a3N (r:=r.g) lR.1 lR.2.1;obtain⟨b1,b2⟩:=bBK (s:=s) (h:=false) hr hb;obtain⟨e1,e2⟩:=b1M hg;have hl:=SN x;have n0:0<(rA x).length:=by omega
 have e3:bD (ri (rA x)) 0 0=W x:=by
  unfold rA;cases jO x.Ea.Mode 5<;>rfl
 have e4:ltI 0 ((rA x).length:Int)=true:=dW.2 (by omega)
 have e5:dM [.int .i64] (ri (rA x)) 0 0=true:=I8 ⟨rA x,rfl⟩ (by rw[aY];exact n0)
 have l0:qN (rA x).length (rA x).length=true:=I5.2 (Nat.le_refl _);have hp:=aW.1 ha;have hbp:bS (HB x a) 0 65535=true:=by rw[aW];unfold HB;omega
 have e6:aD (aV a (dB 2 ((rA x).length:Int))) 65535=HB x a:=by rw[hF (by omega),bP (by omega),v8];rfl
 have hI:=InsOk.of hg;have hm:MM.Ok 65535 (mq {r with pc:=HB x a} zs l s a (W x)):=⟨hr.setP hbp,hb⟩
 obtain⟨d1,d2⟩:=b06 hm hI ha;have d3:=bDC (a:=a) hm hI;have eM:(aL.mk (RM.g {r with pc:=HB x a}) (wM zs l) s ⟨0,a,0,W x,false⟩)=(mq {r with pc:=HB x a} zs l s a (W x)).g:=rfl
 have cp: ∀(m:MM),m.Ok 65535→TJ (aL.mk m.r.g (wM m.zs m.l) m.stop m.f)=true∧I2 (aL.mk m.r.g (wM m.zs m.l) m.stop m.f)=bV m.r m.zs m.l m.stop false:=fun m hm=>bPS hm
 unfold T93 A6;cases hv:p7 x&&!r.sup
 ·have hw:(bif p7 x then !r.sup else false)=false:=by rw[←hv];cases p7 x<;>rfl
  have hD:eG x a r zs l s false=(bV (bif cE (wE x a r zs l s)then(wE x a r zs l s).r else r) (wE x a r zs l s).zs (wE x a r zs l s).l (bif cE (wE x a r zs l s)then(wE x a r zs l s).stop else s) false,dF (wE x a r zs l s)):=by unfold eG;rw[hv];rfl
  rw[hD];have eJ:dX (mq {r with pc:=HB x a} zs l s a (W x)) x a=wE x a r zs l s:=rfl
  rw[eJ]at d2 d3;generalize wE x a r zs l s=w at d2 d3;obtain⟨c1,c2⟩:=cp w d3;obtain⟨c3,c4⟩:=cp ⟨{w.r with fl:=r.fl},w.zs,w.l,w.stop,w.f⟩ ⟨{d3.r with fw:=hr.fw},d3.b⟩
  obtain⟨c5,c6⟩:=cp ⟨r,w.zs,w.l,s,w.f⟩ ⟨hr,d3.b⟩;cases hf:eqI w.f.Vector 0
  ·have z1:dF w=w.f:=by unfold dF cE;rw[hf];rfl
   simp only[bF,R1,C3,LF,VK,kS,aCY,aCX,ML,aCW,VJ,VI,I4,I3,b1,b2,mR,mP,eK,cB,bR,bI,eL,eN,aN,cJ,aM,bA,aO,aP,aQ,aY,Nat.zero_add,l0,e1,e2,e3,e4,e5,e6,kC,o1,o2,(LM _).1,(LM _).2,hw,show f0.Vector=0 from rfl,show f0.Addr=0 from rfl,show f0.Write=false from rfl,eM,d1,d2,d6,cE,hf,z1,c5,c6,bT,Bool.and_false,bW,wz]
  ·have z1:dF w=f0:=by unfold dF cE;rw[hf];rfl
   cases sk
   all_goals simp only[bF,R1,C3,LF,VK,kS,aCY,aCX,ML,aCW,VJ,VI,I4,I3,b1,b2,mR,mP,eK,cB,bR,bI,eL,eN,aN,cJ,aM,bA,aO,aP,aQ,aY,Nat.zero_add,l0,e1,e2,e3,e4,e5,e6,kC,o1,o2,(LM _).1,(LM _).2,hw,show f0.Vector=0 from rfl,show f0.Addr=0 from rfl,show f0.Write=false from rfl,eM,d1,d2,d6,cE,hf,z1,c1,c2,c3,c4,bT,Bool.and_false,bW,wz]
   ·exact⟨c1,Prod.ext c2 rfl⟩
   ·exact⟨c3,Prod.ext c4 rfl⟩
 ·have hw:(bif p7 x then !r.sup else false)=true:=by rw[←hv];cases p7 x<;>rfl
  have hD:eG x a r zs l s false=(bV r zs l s false,⟨8,a,0,W x,false⟩):=by unfold eG;rw[hv];rfl
  rw[hD];obtain⟨c5,c6⟩:=cp ⟨r,zs,l,s,⟨8,a,0,W x,false⟩⟩ ⟨hr,hb⟩;simp only[bF,R1,C3,LF,VK,kS,aCY,aCX,ML,aCW,VJ,VI,I4,I3,b1,b2,mR,mP,eK,cB,bR,bI,eL,eN,aN,cJ,aM,bA,aO,aP,aQ,aY,Nat.zero_add,l0,e1,e2,e3,e4,e5,e6,kC,o1,o2,(LM _).1,(LM _).2,hw,show f0.Vector=0 from rfl,show f0.Addr=0 from rfl,show f0.Write=false from rfl,d6,show eqI 8 0=false from rfl,c5,c6,bT,Bool.and_false,bW,wz]
end Go.Proofs.YtdicpjkdpliofaaGreatMasks

namespace Go.Proofs.YtdicpjkdpliofaaGreatMasks
open Go Go.Zq
set_option maxHeartbeats 4000000
set_option maxRecDepth 100000
theorem fF(b:Bool)(n:Int):rP b n=true∧rO b n=bif b then n else 0:=by
 refine aE (t:=WY b n) (P:=fun q=>q=bif b then n else 0) ?_
 unfold WY;cases b<;>simp
structure TabI(x:aF):Prop where
 op:x.Op=1∨x.Op=2∨x.Op=3∨x.Op=4∨x.Op=5∨x.Op=6∨x.Op=7∨x.Op=8∨x.Op=9∨x.Op=10∨x.Op=11∨x.Op=12∨x.Op=13∨x.Op=14∨x.Op=15∨x.Op=16∨x.Op=17∨x.Op=18∨x.Op=19
 sb:x.Sub=0∨x.Sub=1∨x.Sub=2∨x.Sub=3∨x.Sub=4∨x.Sub=5∨x.Sub=6∨x.Sub=7
 s1:x.Op=11→x.Sub≤3
 s2:x.Op=15→x.Sub≤6
 s3:x.Op=19→x.Sub≤1
 m0:x.Op=2∨x.Op=11→G7 x.Ea.Mode=true
 md:bS x.Ea.Mode 0 7=true
 n1:0≤x.Reg∧x.Reg≤3
 n2:x.Op=13→x.Reg≤1
theorem TabI.of{x:aF}(hI:InsOk x):TabI x:=by
 have ho:=hI.op;have hs:=aW.1 hI.hb;have hr:=aW.1 hI.hr;have hk:=hI.kb;refine⟨by omega,by omega,fun h=>?_,fun h=>?_,fun h=>?_,fun h=>?_,hI.ho.hm,hr,fun h=>?_⟩
 ·have e:kB x=(bif (bif eqI x.Reg 0 then leI x.Sub 3 else false)then G7 x.Ea.Mode else false):=by unfold kB;rw[h];rfl
  rw[e]at hk;cases h3:leI x.Sub 3
  ·rw[h3]at hk;revert hk;cases eqI x.Reg 0<;>exact fun z=>by cases z
  ·exact j8.1 h3
 ·have e:kB x=C5 x:=by unfold kB;rw[h];rfl
  rw[e]at hk;unfold C5 at hk;by_cases h3:x.Sub=3
  ·omega
  ·cases h6:leI x.Sub 6
   ·rw[show pG x.Sub 6=true from qX.2 (by have:=aC2.1 h6;omega)]at hk;revert hk;cases cV x.Size 2<;>exact fun z=>by cases z
   ·exact j8.1 h6
 ·have e:kB x=(bif eqI x.Size 2 then(bif (bif (bif eqI x.Sub 0 then eqI x.Reg 0 else false)then M9 x.Ea else false)then true else(bif eqI x.Sub 1 then MO x.Ea else false))else false):=by unfold kB;rw[h];rfl
  rw[e]at hk;by_cases h0:x.Sub=0
  ·omega
  ·by_cases h1:x.Sub=1
   ·omega
   ·rw[eT.2 h0,eT.2 h1]at hk;revert hk;cases eqI x.Size 2<;>exact fun z=>by cases z
 ·rcases h with h|h
  ·have e:kB x=(bif eqI x.Sub 0 then G7 x.Ea.Mode else false):=by unfold kB;rw[h];rfl
   rw[e]at hk
   revert hk;cases eqI x.Sub 0
   ·exact fun z=>by cases z
   ·exact fun z=>z
  ·have e:kB x=(bif (bif eqI x.Reg 0 then leI x.Sub 3 else false)then G7 x.Ea.Mode else false):=by unfold kB;rw[h];rfl
   rw[e]at hk
   revert hk;cases(bif eqI x.Reg 0 then leI x.Sub 3 else false)
   ·exact fun z=>by cases z
   ·exact fun z=>z
 ·have e:kB x=(bif (bif eqI x.Size 2 then leI x.Reg 1 else false)then eqI x.Ea.Mode 7 else false):=by unfold kB;rw[h];rfl
  rw[e]at hk;cases h3:leI x.Reg 1
  ·rw[h3]at hk;revert hk;cases eqI x.Size 2<;>exact fun z=>by cases z
  ·exact j8.1 h3
def cQ(x:aF):Int:=
 bif eqI x.Op 3||eqI x.Op 4 then 31 else bif eqI x.Op 11 then(bif eqI x.Sub 1 then 31 else 15)else bif eqI x.Op 12 then(bif eqI x.Sub 4||eqI x.Sub 5 then 15 else 31)
 else bif eqI x.Op 18 then 27 else bif eqI x.Op 15 then(bif eqI x.Sub 5||eqI x.Sub 6 then 15 else bif eqI x.Sub 1||eqI x.Sub 3 then 31 else 0)
 else bif eqI x.Op 19 then(bif eqI x.Sub 0 then 31 else 0)else bif (eqI x.Op 9||eqI x.Op 10)||(eqI x.Op 13||eqI x.Op 14)then 0 else 15
def rC(n:Int):Int:=[0,5,1,4,2,8,10,14].getD (n/2).toNat 0
def cU(x:aF):Int:=bif eqI x.Op 13 then rC (x.Sub+8*x.Reg)else bif eqI x.Op 12&&jO x.Sub 6 then 16 else bif eqI x.Op 18 then 20 else bif eqI x.Op 19&&eqI x.Sub 1 then 31 else 0
def hU(x:aF):Bool:=((eqI x.Op 2||(eqI x.Op 11&&cV x.Sub 3))&&lJ x.Ea.Mode)||(eqI x.Op 14&&eqI x.Sub 1)
def eF(x:aF):Bool:=
 bif eqI x.Op 17||eqI x.Op 18 then true else bif eqI x.Op 15 then((eqI x.Sub 0||eqI x.Sub 1)||(eqI x.Sub 3||eqI x.Sub 4))else bif eqI x.Op 19 then eqI x.Sub 0
 else bif eqI x.Op 10||eqI x.Op 14 then eqI x.Op 14&&eqI x.Sub 1 else lJ x.Ea.Mode
def lN(x:aF):Bool:=bif eqI x.Op 13||eqI x.Op 14 then false else bif eqI x.Op 15 then eqI x.Sub 2||(eqI x.Sub 5||eqI x.Sub 6)else bif eqI x.Op 19 then cV x.Sub 0 else true
theorem a4V{x:aF}(H:TabI x):k94 x=true∧g94 x=cQ x:=by
 refine aE (t:=T94 x) (P:=fun q=>q=cQ x) ?_
 have hop:=H.op;have hsb:=H.sb;have s1:=H.s1;have s2:=H.s2;unfold T94 cQ;rcases hop with h|h|h|h|h|h|h|h|h|h|h|h|h|h|h|h|h|h|h
 all_goals first|(simp[h,(fF _ _).1,(fF _ _).2,(hK _).1,(hK _).2,(hH _).1,(hH _).2];done)|(rcases hsb with k|k|k|k|k|k|k|k<;>first|(simp[h,k,(fF _ _).1,(fF _ _).2,(hK _).1,(hK _).2,(hH _).1,(hH _).2]<;>(first|rfl|(cases lJ x.Ea.Mode<;>rfl)))|omega)
theorem a4W{x:aF}(H:TabI x):k95 x=true∧g95 x=cQ x:=by
 refine aE (t:=T95 x) (P:=fun q=>q=cQ x) ?_
 have hop:=H.op;have hsb:=H.sb;have s1:=H.s1;have s2:=H.s2;unfold T95 cQ;rcases hop with h|h|h|h|h|h|h|h|h|h|h|h|h|h|h|h|h|h|h
 all_goals first|(simp[aO2,aO1,h,(fF _ _).1,(fF _ _).2,(hK _).1,(hK _).2,(hH _).1,(hH _).2];done)|(rcases hsb with k|k|k|k|k|k|k|k<;>first|(simp[aO2,aO1,h,k,(fF _ _).1,(fF _ _).2,(hK _).1,(hK _).2,(hH _).1,(hH _).2]<;>(first|rfl|(cases lJ x.Ea.Mode<;>rfl)))|omega)
theorem bK0: ∀n:Fin 16,(a2G (n.val:Int)).okv=true∧(a2G (n.val:Int)).val=rC (n.val:Int):=by decide+kernel
theorem bK1: ∀n:Fin 16,(a2J (n.val:Int)).okv=true∧(a2J (n.val:Int)).val=rC (n.val:Int):=by decide+kernel
theorem bB1{n:Int}(h:0≤n∧n≤15):bAX n=true∧bAW n=rC n:=by
 obtain⟨m,rfl⟩:=Int.eq_ofNat_of_zero_le h.1;have e:=bK0 ⟨m,by omega⟩
 unfold bAX bAW;rw[dA,dA];exact e
theorem bB2{n:Int}(h:0≤n∧n≤15):bAZ n=true∧bAY n=rC n:=by
 obtain⟨m,rfl⟩:=Int.eq_ofNat_of_zero_le h.1;have e:=bK1 ⟨m,by omega⟩
 unfold bAZ bAY;rw[dA,dA];exact e
theorem aQG{x:aF}(H:TabI x):k96 x=true∧g96 x=cU x:=by
 refine aE (t:=T96 x) (P:=fun q=>q=cU x) ?_
 have hop:=H.op;have hsb:=H.sb;unfold T96 cU;by_cases h13:x.Op=13
 ·have n1:=H.n1;have n2:=H.n2 h13;have e:aV x.Sub (dB 8 x.Reg)=x.Sub+8*x.Reg:=by rw[hF (by omega),bP (by omega)]
  obtain⟨a,b⟩:=bB1 (n:=x.Sub+8*x.Reg) (by omega)
  simp[h13,e,a,b];rfl
 ·rcases hop with h|h|h|h|h|h|h|h|h|h|h|h|h|h|h|h|h|h|h
  all_goals first|(exact absurd h h13)|(simp[h,(fF _ _).1,(fF _ _).2]<;>rfl)|(rcases hsb with k|k|k|k|k|k|k|k<;>simp[h,k,(fF _ _).1,(fF _ _).2]<;>rfl)
theorem aQH{x:aF}(H:TabI x):k97 x=true∧g97 x=cU x:=by
 refine aE (t:=T97 x) (P:=fun q=>q=cU x) ?_
 have hop:=H.op;have hsb:=H.sb;unfold T97 cU;by_cases h13:x.Op=13
 ·have n1:=H.n1;have n2:=H.n2 h13;have e:aV x.Sub (dB 8 x.Reg)=x.Sub+8*x.Reg:=by rw[hF (by omega),bP (by omega)]
  obtain⟨a,b⟩:=bB2 (n:=x.Sub+8*x.Reg) (by omega)
  simp[h13,e,a,b];rfl
 ·rcases hop with h|h|h|h|h|h|h|h|h|h|h|h|h|h|h|h|h|h|h
  all_goals first|(exact absurd h h13)|(simp[h,(fF _ _).1,(fF _ _).2]<;>rfl)|(rcases hsb with k|k|k|k|k|k|k|k<;>simp[h,k,(fF _ _).1,(fF _ _).2]<;>rfl)
theorem aTQ{x:aF}(H:TabI x):k98 x=true∧g98 x=hU x:=by
 refine aE (t:=T98 x) (P:=fun q=>q=hU x) ?_
 have hop:=H.op;have hsb:=H.sb;have s1:=H.s1;have s2:=H.s2;unfold T98 hU;rcases hop with h|h|h|h|h|h|h|h|h|h|h|h|h|h|h|h|h|h|h
 all_goals first|(simp[aO5,h,(fF _ _).1,(fF _ _).2,(hK _).1,(hK _).2,(hH _).1,(hH _).2];done)|(rcases hsb with k|k|k|k|k|k|k|k<;>first|(simp[aO5,h,k,(fF _ _).1,(fF _ _).2,(hK _).1,(hK _).2,(hH _).1,(hH _).2]<;>(first|rfl|(cases lJ x.Ea.Mode<;>rfl)))|omega)
theorem bQL{x:aF}(H:TabI x):k99 x=true∧g99 x=hU x:=by
 refine aE (t:=T99 x) (P:=fun q=>q=hU x) ?_
 have hop:=H.op;have hsb:=H.sb;have s1:=H.s1;have s2:=H.s2;unfold T99 hU;rcases hop with h|h|h|h|h|h|h|h|h|h|h|h|h|h|h|h|h|h|h
 all_goals first|(simp[h,(fF _ _).1,(fF _ _).2,(hK _).1,(hK _).2,(hH _).1,(hH _).2];done)|(rcases hsb with k|k|k|k|k|k|k|k<;>first|(simp[h,k,(fF _ _).1,(fF _ _).2,(hK _).1,(hK _).2,(hH _).1,(hH _).2]<;>(first|rfl|(cases lJ x.Ea.Mode<;>rfl)))|omega)
theorem bDM{x:aF}(H:TabI x):bIY x=true∧bIX x=eF x:=by
 refine aE (t:=a2Q x) (P:=fun q=>q=eF x) ?_
 have hop:=H.op;have hsb:=H.sb;have s1:=H.s1;have s2:=H.s2;unfold a2Q eF;rcases hop with h|h|h|h|h|h|h|h|h|h|h|h|h|h|h|h|h|h|h
 all_goals first|(simp[h,(aTQ H).1,(aTQ H).2,hU,(fF _ _).1,(fF _ _).2,(hK _).1,(hK _).2,(hH _).1,(hH _).2];done)|(rcases hsb with k|k|k|k|k|k|k|k<;>first|(simp[h,k,(aTQ H).1,(aTQ H).2,hU,(fF _ _).1,(fF _ _).2,(hK _).1,(hK _).2,(hH _).1,(hH _).2]<;>(first|rfl|(cases lJ x.Ea.Mode<;>rfl)))|omega)
theorem bDN{x:aF}(H:TabI x):bI0 x=true∧bIZ x=eF x:=by
 refine aE (t:=a2S x) (P:=fun q=>q=eF x) ?_
 have hop:=H.op;have hsb:=H.sb;have s1:=H.s1;have s2:=H.s2;unfold a2S eF;rcases hop with h|h|h|h|h|h|h|h|h|h|h|h|h|h|h|h|h|h|h
 all_goals first|(simp[h,(fF _ _).1,(fF _ _).2,(hK _).1,(hK _).2,(hH _).1,(hH _).2];done)|(rcases hsb with k|k|k|k|k|k|k|k<;>first|(simp[h,k,(fF _ _).1,(fF _ _).2,(hK _).1,(hK _).2,(hH _).1,(hH _).2]<;>(first|rfl|(cases lJ x.Ea.Mode<;>rfl)))|omega)
theorem bDO{x:aF}(H:TabI x):bI2 x=true∧bI1 x=lN x:=by
 refine aE (t:=a2U x) (P:=fun q=>q=lN x) ?_
 have hop:=H.op;have hsb:=H.sb;have s1:=H.s1;have s2:=H.s2;unfold a2U lN;rcases hop with h|h|h|h|h|h|h|h|h|h|h|h|h|h|h|h|h|h|h
 all_goals first|(simp[h,(fF _ _).1,(fF _ _).2,(hK _).1,(hK _).2,(hH _).1,(hH _).2];done)|(rcases hsb with k|k|k|k|k|k|k|k<;>first|(simp[h,k,(fF _ _).1,(fF _ _).2,(hK _).1,(hK _).2,(hH _).1,(hH _).2]<;>(first|rfl|(cases lJ x.Ea.Mode<;>rfl)))|omega)
theorem bDP{x:aF}(H:TabI x):bI4 x=true∧bI3 x=lN x:=by
 refine aE (t:=a2W x) (P:=fun q=>q=lN x) ?_
 have hop:=H.op;have hsb:=H.sb;have s1:=H.s1;have s2:=H.s2;unfold a2W lN;rcases hop with h|h|h|h|h|h|h|h|h|h|h|h|h|h|h|h|h|h|h
 all_goals first|(simp[h,(fF _ _).1,(fF _ _).2,(hK _).1,(hK _).2,(hH _).1,(hH _).2];done)|(rcases hsb with k|k|k|k|k|k|k|k<;>first|(simp[h,k,(fF _ _).1,(fF _ _).2,(hK _).1,(hK _).2,(hH _).1,(hH _).2]<;>(first|rfl|(cases lJ x.Ea.Mode<;>rfl)))|omega)
theorem DY(x:aF):k13 x=true∧g13 x=bif dU x then(cQ x,true)else(0,false):=by
 refine aE (t:=T13 x) (P:=fun q=>q=bif dU x then(cQ x,true)else(0,false)) ?_
 unfold T13;cases hg:dU x
 ·simp[(fW _).1,(fW _).2,hg]
 ·have H:=TabI.of (InsOk.of hg);simp[(fW _).1,(fW _).2,hg,(a4V H).1,(a4V H).2]
theorem DZ(x:aF):k14 x=true∧g14 x=bif dU x then(cQ x,true)else(0,false):=by
 refine aE (t:=T14 x) (P:=fun q=>q=bif dU x then(cQ x,true)else(0,false)) ?_
 unfold T14;cases hg:dU x
 ·simp[(fA _).1,(fA _).2,hg]
 ·have H:=TabI.of (InsOk.of hg);simp[(fA _).1,(fA _).2,hg,(a4W H).1,(a4W H).2]
theorem zD(x:aF):k15 x=true∧g15 x=bif dU x then(cU x,true)else(0,false):=by
 refine aE (t:=T15 x) (P:=fun q=>q=bif dU x then(cU x,true)else(0,false)) ?_
 unfold T15;cases hg:dU x
 ·simp[(fW _).1,(fW _).2,hg]
 ·have H:=TabI.of (InsOk.of hg);simp[(fW _).1,(fW _).2,hg,(aQG H).1,(aQG H).2]
theorem zE(x:aF):k16 x=true∧g16 x=bif dU x then(cU x,true)else(0,false):=by
 refine aE (t:=T16 x) (P:=fun q=>q=bif dU x then(cU x,true)else(0,false)) ?_
 unfold T16;cases hg:dU x
 ·simp[(fA _).1,(fA _).2,hg]
 ·have H:=TabI.of (InsOk.of hg);simp[(fA _).1,(fA _).2,hg,(aQH H).1,(aQH H).2]
theorem V2(x:aF):k17 x=true∧g17 x=bif dU x then(hU x,true)else(false,false):=by
 refine aE (t:=T17 x) (P:=fun q=>q=bif dU x then(hU x,true)else(false,false)) ?_
 unfold T17;cases hg:dU x
 ·simp[(fW _).1,(fW _).2,hg]
 ·have H:=TabI.of (InsOk.of hg);simp[(fW _).1,(fW _).2,hg,(aTQ H).1,(aTQ H).2]
theorem V3(x:aF):k18 x=true∧g18 x=bif dU x then(hU x,true)else(false,false):=by
 refine aE (t:=T18 x) (P:=fun q=>q=bif dU x then(hU x,true)else(false,false)) ?_
 unfold T18;cases hg:dU x
 ·simp[(fA _).1,(fA _).2,hg]
 ·have H:=TabI.of (InsOk.of hg);simp[(fA _).1,(fA _).2,hg,(bQL H).1,(bQL H).2]
theorem LP(x:aF):k19 x=true∧g19 x=bif dU x then(eF x,true)else(false,false):=by
 refine aE (t:=T19 x) (P:=fun q=>q=bif dU x then(eF x,true)else(false,false)) ?_
 unfold T19;cases hg:dU x
 ·simp[(fW _).1,(fW _).2,hg]
 ·have H:=TabI.of (InsOk.of hg);simp[(fW _).1,(fW _).2,hg,(bDM H).1,(bDM H).2]
theorem LQ(x:aF):k20 x=true∧g20 x=bif dU x then(eF x,true)else(false,false):=by
 refine aE (t:=T20 x) (P:=fun q=>q=bif dU x then(eF x,true)else(false,false)) ?_
 unfold T20;cases hg:dU x
 ·simp[(fA _).1,(fA _).2,hg]
 ·have H:=TabI.of (InsOk.of hg);simp[(fA _).1,(fA _).2,hg,(bDN H).1,(bDN H).2]
theorem LR(x:aF):k21 x=true∧g21 x=bif dU x then(lN x,true)else(false,false):=by
 refine aE (t:=T21 x) (P:=fun q=>q=bif dU x then(lN x,true)else(false,false)) ?_
 unfold T21;cases hg:dU x
 ·simp[(fW _).1,(fW _).2,hg]
 ·have H:=TabI.of (InsOk.of hg);simp[(fW _).1,(fW _).2,hg,(bDO H).1,(bDO H).2]
theorem LS(x:aF):k22 x=true∧g22 x=bif dU x then(lN x,true)else(false,false):=by
 refine aE (t:=T22 x) (P:=fun q=>q=bif dU x then(lN x,true)else(false,false)) ?_
 unfold T22;cases hg:dU x
 ·simp[(fA _).1,(fA _).2,hg]
 ·have H:=TabI.of (InsOk.of hg);simp[(fA _).1,(fA _).2,hg,(bDP H).1,(bDP H).2]
end Go.Proofs.YtdicpjkdpliofaaGreatMasks

namespace Go.Proofs.YtdicpjkdpliofaaGreatMasks
open Go Go.Zq
set_option maxHeartbeats 4000000
set_option maxRecDepth 100000
def fM(m:MM)(k:Int):MM:={m with r:={m.r with fl:=k}}
theorem sP(m:MM)(k:Int):cE (fM m k)=cE m:=rfl
theorem aA6(m:MM)(k a b c d:Int):dQ (fM m k) a b c d=(fM (dQ m a b c d).1 k,(dQ m a b c d).2):=by
 unfold dQ fM;dsimp only
theorem aQI(m:MM)(k v:Int):fU (fM m k) v=fM (fU m v) k:=by
 unfold fU;rw[show(fM m k).r.a=m.r.a from rfl,aA6]
 generalize dQ m 2 2 ((cI m.r.a 3-2)%65536) v=q;obtain⟨Q,x⟩:=q;dsimp only;rw[sP];cases cE Q<;>rfl
theorem aJY(m:MM)(k:Int):cP (fM m k)=(fM (cP m).1 k,(cP m).2):=by
 unfold cP;rw[show(fM m k).r.a=m.r.a from rfl,aA6]
 generalize dQ m 1 2 (cI m.r.a 3) 0=q;obtain⟨Q,x⟩:=q;dsimp only;rw[sP];cases cE Q<;>rfl
theorem aDG(r:RM)(k s:Int)(o:aB):bE {r with fl:=k} s o=({(bE r s o).1 with fl:=k},(bE r s o).2):=by
 unfold bE;cases eqI o.Mode 3
 ·cases eqI o.Mode 4
  ·cases eqI o.Mode 5
   ·cases eqI o.Mode 6<;>rfl
   ·rfl
  ·rfl
 ·rfl
theorem SR(m:MM)(k s:Int)(o:aB):fC (fM m k) s o=(fM (fC m s o).1 k,(fC m s o).2):=by
 unfold fC;rw[show(fM m k).r={m.r with fl:=k}from rfl,aDG]
 cases eqI o.Mode 0<;>rfl
theorem JJ(m:MM)(k s:Int)(o:aB):cL (fM m k) s o=(fM (cL m s o).1 k,(cL m s o).2):=by
 unfold cL;rw[show(fM m k).r={m.r with fl:=k}from rfl,aDG]
 generalize bE m.r s o=p;obtain⟨p1,p2⟩:=p;have e:dQ {fM m k with r:={p1 with fl:=k}} 1 s p2 0=(fM (dQ {m with r:=p1} 1 s p2 0).1 k,(dQ {m with r:=p1} 1 s p2 0).2):=aA6 {m with r:=p1} k 1 s p2 0
 dsimp only at e⊢;rw[e];cases eqI o.Mode 0
 ·cases eqI o.Mode 1
  ·cases eqI o.Mode 7<;>rfl
  ·rfl
 ·rfl
theorem aJZ(m:MM)(k s a v:Int)(o:aB):dD (fM m k) s o a v=fM (dD m s o a v) k:=by
 unfold dD;rw[aA6];cases eqI o.Mode 0<;>rfl
theorem aA7(r:RM)(k v:Int):iH {r with fl:=k} v=iH r v:=by
 unfold iH;show(bif rD (eqI (v/256%2) 1) r.sup then _ else _)=_
 cases rD (eqI (v/256%2) 1) r.sup<;>rfl
def NI(S g:Int)(u w:MM):Prop:= ∃k,u=fM w k∧(cE w=true→aD k S=aD w.r.fl S∧aJ w.r.fl S=aJ g S)
theorem AS(m:MM):fM m m.r.fl=m:=rfl
theorem and_zero(k:Int):aD k 0=0:=by
 unfold aD;rw[show BitVec.ofInt 64 0=0#64 from rfl,BitVec.and_zero];decide
end Go.Proofs.YtdicpjkdpliofaaGreatMasks

namespace Go.Proofs.YtdicpjkdpliofaaGreatMasks
open Go Go.Zq
set_option maxHeartbeats 4000000
set_option maxRecDepth 100000
theorem bQM{f z:Int}(hf:bS f 0 31=true)(hz:z=0∨z=4∨z=8∨z=12):aD (cD (aD f 16) z) 15=z∧aJ (cD (aD f 16) z) 15=aJ f 15:=by
 rcases hz with rfl|rfl|rfl|rfl
 ·exact bU (p:=fun f=>aD (cD (aD f 16) 0) 15=0∧aJ (cD (aD f 16) 0) 15=aJ f 15) hf (by decide+kernel)
 ·exact bU (p:=fun f=>aD (cD (aD f 16) 4) 15=4∧aJ (cD (aD f 16) 4) 15=aJ f 15) hf (by decide+kernel)
 ·exact bU (p:=fun f=>aD (cD (aD f 16) 8) 15=8∧aJ (cD (aD f 16) 8) 15=aJ f 15) hf (by decide+kernel)
 ·exact bU (p:=fun f=>aD (cD (aD f 16) 12) 15=12∧aJ (cD (aD f 16) 12) 15=aJ f 15) hf (by decide+kernel)
def znQ(s v:Int):Int:=cD (bif eqI v 0 then 4 else 0) (bif jO v (bN s/2)then 8 else 0)
theorem aJ0(s v:Int):znQ s v=0∨znQ s v=4∨znQ s v=8∨znQ s v=12:=by
 unfold znQ;cases eqI v 0<;>cases jO v (bN s/2)<;>decide
theorem eQ{s f v:Int}(hs:s=1∨s=2)(hf:bS f 0 31=true):aD (eZ s f v) 15=znQ s v∧aJ (eZ s f v) 15=aJ f 15:=by
 rw[NQ hs];exact bQM hf (aJ0 s v)
theorem a4Y{s f a b:Int}(ha:cT s a=true)(hb:cT s b=true)(hf:bS f 0 31=true):aD (R0 s f a b) 15=aD (A5 s a b) 15∧aJ (R0 s f a b) 15=aJ f 15:=by
 rw[bDI ha hb];unfold A5;generalize cV (a-b) ((a-b)%bN s)=c1;generalize cV (xA s a-xA s b) (xA s ((a-b)%bN s))=c2;generalize eqI ((a-b)%bN s) 0=c3;generalize jO ((a-b)%bN s) (bN s/2)=c4;refine bU (p:=fun f=>aD (cD (aD (fl c1 c2 c3 c4) 15) (aD f 16)) 15=aD (fl c1 c2 c3 c4) 15∧aJ (cD (aD (fl c1 c2 c3 c4) 15) (aD f 16)) 15=aJ f 15) hf ?_
 cases c1<;>cases c2<;>cases c3<;>cases c4<;>decide+kernel
theorem LT(m:MM)(s:Int)(o:aB):(cL m s o).1.r.fl=m.r.fl:=by
 have e:=JJ m m.r.fl s o;rw[AS]at e;rw[e];rfl
theorem SS(m:MM)(s:Int)(o:aB):(fC m s o).1.r.fl=m.r.fl:=by
 have e:=SR m m.r.fl s o;rw[AS]at e;rw[e];rfl
theorem aTR(m:MM)(v:Int):(fU m v).r.fl=m.r.fl:=by
 have e:=aQI m m.r.fl v;rw[AS]at e;rw[e];rfl
theorem a4Z(m:MM):(cP m).1.r.fl=m.r.fl:=by
 have e:=aJY m m.r.fl;rw[AS]at e;rw[e];rfl
theorem aDH(m:MM)(s a v:Int)(o:aB):(dD m s o a v).r.fl=m.r.fl:=by
 have e:=aJZ m m.r.fl s a v o;rw[AS]at e;rw[e];rfl
theorem aDI{a b:Int}(ha:bS a 0 31=true)(hb:bS b 0 31=true):aJ a 31=aJ b 31:=by
 rw[bU (p:=fun a=>aJ a 31=0) ha (by decide+kernel),bU (p:=fun a=>aJ a 31=0) hb (by decide+kernel)]
theorem NI.w{S g:Int}{w:MM}(k:Int)(h:cE w=true→aD k S=aD w.r.fl S∧aJ w.r.fl S=aJ g S):NI S g (fM w k) w:=⟨k,rfl,h⟩
theorem NI.keep{g:Int}{w:MM}(k:Int)(h:w.r.fl=g):NI 0 g (fM w k) w:=⟨k,rfl,fun _=>⟨by rw[and_zero,and_zero],by rw[h]⟩⟩
theorem NI.bad{S g:Int}{w:MM}(k:Int)(h:cE w=false):NI S g (fM w k) w:=⟨k,rfl,fun z=>by rw[h]at z;cases z⟩
theorem NI.all{g:Int}{w:MM}(hw:bS w.r.fl 0 31=true)(hg:bS g 0 31=true):NI 31 g w w:=⟨w.r.fl,rfl,fun _=>⟨rfl,aDI hw hg⟩⟩
theorem aA8(m:MM)(s k v f:Int):oX (fM m f) s k v=fM (oX m s k v) (eZ s f v):=by
 unfold oX fM uA;dsimp only
theorem LU(m:MM)(s k v:Int):(oX m s k v).r.fl=eZ s m.r.fl v:=by
 unfold oX uA;dsimp only
theorem aQJ{m:MM}{s k v f:Int}(hs:s=1∨s=2)(hm:bS m.r.fl 0 31=true)(hf:bS f 0 31=true):NI 15 m.r.fl (oX (fM m f) s k v) (oX m s k v):=by
 rw[aA8];refine NI.w _ fun _=>?_
 rw[LU];exact⟨(eQ hs hf).1.trans (eQ hs hm).1.symm,(eQ hs hm).2⟩
theorem bB3{x:aF}{f g d v:Int}(hs:x.Size=1∨x.Size=2)(h2:oF x)(h8:x.Op≠8)(hf:bS f 0 31=true)(hg:bS g 0 31=true)(hd:cT x.Size d=true)(hv:cT x.Size v=true):(iE x f d v).1=(iE x g d v).1∧aD (iE x f d v).2 (cQ x)=aD (iE x g d v).2 (cQ x)∧aJ (iE x g d v).2 (cQ x)=aJ g (cQ x):=by
 have hr:=(aAW (x:=x) (f:=g) hs hg hd hv).2;have hn: ∀i,x.Op≠i→eqI x.Op i=false:=fun i h=>eT.2 h
 have hy: ∀i,x.Op=i→eqI x.Op i=true:=fun i h=>cY.2 h
 rcases h2 with h|h|h|h|h|h|h
 ·have hS:cQ x=15:=by unfold cQ;rw[h];rfl
  have e: ∀f,iE x f d v=(v,eZ x.Size f v):=fun f=>by unfold iE;rw[hn 3 (by omega),hn 4 (by omega),hy 1 h,cond_false,cond_false,cond_true]
  rw[hS,e,e];exact⟨rfl,(eQ hs hf).1.trans (eQ hs hg).1.symm,(eQ hs hg).2⟩
 ·have hS:cQ x=31:=by unfold cQ;rw[h];rfl
  have e: ∀f,iE x f d v=TK x.Size 0 d v:=fun f=>by unfold iE;rw[hy 3 h,cond_true]
  rw[e g]at hr;rw[hS,e,e];exact⟨rfl,rfl,aDI hr hg⟩
 ·have hS:cQ x=31:=by unfold cQ;rw[h];rfl
  have e: ∀f,iE x f d v=((d-v)%bN x.Size,A5 x.Size d v):=fun f=>by unfold iE;rw[hn 3 (by omega),hy 4 h,cond_false,cond_true]
  rw[e g]at hr;rw[hS,e,e];exact⟨rfl,rfl,aDI hr hg⟩
 ·have hS:cQ x=15:=by unfold cQ;rw[h];rfl
  have e: ∀f,iE x f d v=(aD d v,eZ x.Size f (aD d v)):=fun f=>by unfold iE;rw[hn 3 (by omega),hn 4 (by omega),hn 1 (by omega),hy 5 h,cond_false,cond_false,cond_false,cond_true]
  rw[hS,e,e];exact⟨rfl,(eQ hs hf).1.trans (eQ hs hg).1.symm,(eQ hs hg).2⟩
 ·have hS:cQ x=15:=by unfold cQ;rw[h];rfl
  have e: ∀f,iE x f d v=(cD d v,eZ x.Size f (cD d v)):=fun f=>by unfold iE;rw[hn 3 (by omega),hn 4 (by omega),hn 1 (by omega),hn 5 (by omega),hy 6 h,cond_false,cond_false,cond_false,cond_false,cond_true]
  rw[hS,e,e];exact⟨rfl,(eQ hs hf).1.trans (eQ hs hg).1.symm,(eQ hs hg).2⟩
 ·have hS:cQ x=15:=by unfold cQ;rw[h];rfl
  have e: ∀f,iE x f d v=(oR d v,eZ x.Size f (oR d v)):=fun f=>by unfold iE;rw[hn 3 (by omega),hn 4 (by omega),hn 1 (by omega),hn 5 (by omega),hn 6 (by omega),cond_false,cond_false,cond_false,cond_false,cond_false]
  rw[hS,e,e];exact⟨rfl,(eQ hs hf).1.trans (eQ hs hg).1.symm,(eQ hs hg).2⟩
 ·exact absurd h h8
theorem HC{m:MM}{x:aF}{f:Int}(hI:InsOk x)(h2:oF x)(hm:m.Ok 65535)(hf:bS f 0 31=true):NI (cQ x) m.r.fl (iX (fM m f) x) (iX m x):=by
 have hmo:x.Size=1→x.Ea.Mode=1→False:=JE hI h2;obtain⟨q1,q2,-⟩:=rB (s:=x.Size) hm hI.hs hI.ho hmo hI.he;have hg:bS m.r.fl 0 31=true:=hm.r.fw;unfold iX;rw[JJ];have hk:=LT m x.Size x.Ea;generalize cL m x.Size x.Ea=Q at*;obtain⟨Q,v,b⟩:=Q;dsimp only at q1 q2 hk⊢;rw[sP];have hd:cT x.Size (cI Q.r.d x.Reg%bN x.Size)=true:=aPR hI.hs;rw[show(fM Q f).r.fl=f from rfl,show(fM Q f).r.d=Q.r.d from rfl,hk]
 cases hq:cE Q
 ·exact NI.bad f hq
 ·rw[Bool.not_true,cond_false,cond_false];by_cases h8:x.Op=8
  ·have hS:cQ x=15:=by unfold cQ;rw[h8];rfl
   rw[hS,cY.2 h8,cond_true,cond_true];exact NI.w (w:={Q with r:={Q.r with fl:=R0 x.Size m.r.fl (cI Q.r.d x.Reg%bN x.Size) v}}) (R0 x.Size f (cI Q.r.d x.Reg%bN x.Size) v) fun _=>⟨(a4Y hd q2 hf).1.trans (a4Y hd q2 hg).1.symm,(a4Y hd q2 hg).2⟩
  ·rw[eT.2 h8,cond_false,cond_false];obtain⟨k1,k2,k3⟩:=bB3 hI.hs h2 h8 hf hg hd q2;rw[k1];exact NI.w (w:={Q with r:=uA {Q.r with fl:=(iE x m.r.fl (cI Q.r.d x.Reg%bN x.Size) v).2} x.Size x.Reg (iE x m.r.fl (cI Q.r.d x.Reg%bN x.Size) v).1}) (iE x f (cI Q.r.d x.Reg%bN x.Size) v).2 fun _=>⟨k2,k3⟩
theorem bB4{m:MM}{x:aF}{f:Int}:NI 0 m.r.fl (zB (cL (fM m f) 2 x.Ea) x) (zB (cL m 2 x.Ea) x):=by
 rw[JJ];have hk:=LT m 2 x.Ea;generalize cL m 2 x.Ea=Q at*;obtain⟨Q,v,b⟩:=Q;dsimp only at hk⊢;unfold zB;dsimp only;rw[sP];cases cE Q
 ·exact NI.keep f hk
 ·exact NI.keep (w:={Q with r:={Q.r with a:=Q.r.a.set x.Reg.toNat v}}) f hk
theorem bK2{m:MM}{x:aF}{f:Int}:NI 0 m.r.fl (SE (fC (fM m f) 2 x.Ea) x) (SE (fC m 2 x.Ea) x):=by
 rw[SR];have hk:=SS m 2 x.Ea;generalize fC m 2 x.Ea=Q at*;obtain⟨Q,v⟩:=Q;dsimp only at hk⊢;unfold SE;dsimp only;exact NI.keep (w:={Q with r:={Q.r with a:=Q.r.a.set x.Reg.toNat v}}) f hk
theorem bB5{m:MM}{x:aF}{f:Int}(hs:x.Size=1∨x.Size=2)(hm:m.Ok 65535)(hf:bS f 0 31=true):NI 15 m.r.fl (xC (fM m f) x) (xC m x):=by
 unfold xC;rw[SR,show(fM m f).r.d=m.r.d from rfl]
 dsimp only;rw[aJZ];have hk:(dD (fC m x.Size x.Ea).1 x.Size x.Ea (fC m x.Size x.Ea).2 (cI m.r.d x.Reg%bN x.Size)).r.fl=m.r.fl:=by rw[aDH,SS]
 generalize dD (fC m x.Size x.Ea).1 x.Size x.Ea (fC m x.Size x.Ea).2 (cI m.r.d x.Reg%bN x.Size)=Q at*;unfold aP5;rw[show(fM Q f).r.fl=f from rfl,hk]
 exact NI.w (w:={Q with r:={Q.r with fl:=eZ x.Size m.r.fl (cI m.r.d x.Reg%bN x.Size)}}) (eZ x.Size f (cI m.r.d x.Reg%bN x.Size)) fun _=>⟨(eQ hs hf).1.trans (eQ hs hm.r.fw).1.symm,(eQ hs hm.r.fw).2⟩
theorem aQK(m:MM)(x:aF)(f:Int):eP (fM m f) x=(fM (eP m x).1 f,(eP m x).2):=by
 unfold eP;rw[SR,JJ];cases eqI x.Sub 0<;>rfl
theorem aTS(m:MM)(x:aF):(eP m x).1.r.fl=m.r.fl:=by
 have e:=aQK m x m.r.fl;rw[AS]at e;rw[e];rfl
theorem bK3{m:MM}{x:aF}{f:Int}(hI:InsOk x)(h11:x.Op=11)(hm:m.Ok 65535)(hf:bS f 0 31=true):NI (cQ x) m.r.fl (zA (fM m f) x) (zA m x):=by
 have hg:bS m.r.fl 0 31=true:=hm.r.fw;have hO:=(a3X hm hI h11).r.fw;unfold zA at hO⊢;rw[aQK];have hk:=aTS m x;generalize eP m x=Q at*;obtain⟨Q,v,b⟩:=Q;dsimp only at hk hO⊢;rw[hk]at hO;rw[show(fM Q f).r.fl=f from rfl,hk]
 unfold AP at hO⊢;rw[sP];have e1:(lU x f v).1=(lU x m.r.fl v).1:=by
  unfold lU;cases eqI x.Sub 1
  ·cases eqI x.Sub 2
   ·rw[cond_false,cond_false,cond_false,cond_false]
   ·rw[cond_false,cond_false,cond_true,cond_true]
  ·rw[cond_true,cond_true]
 rw[e1];cases hq:cE Q
 ·rw[Bool.not_false,cond_true,cond_true];exact NI.bad f hq
 ·rw[hq]at hO;rw[Bool.not_true,cond_false]at hO;rw[Bool.not_true,cond_false,cond_false,aJZ];have hw:(dD Q x.Size x.Ea b (lU x m.r.fl v).1).r.fl=m.r.fl:=by rw[aDH,hk]
  generalize dD Q x.Size x.Ea b (lU x m.r.fl v).1=R at*;have key:bS (lU x m.r.fl v).2 0 31=true→aD (lU x f v).2 (cQ x)=aD (lU x m.r.fl v).2 (cQ x)∧aJ (lU x m.r.fl v).2 (cQ x)=aJ m.r.fl (cQ x):=by
   intro hr;cases h1:eqI x.Sub 1
   ·have hS:cQ x=15:=by unfold cQ;rw[h11,h1];rfl
    rw[hS];unfold lU;rw[h1,cond_false,cond_false];cases eqI x.Sub 2
    ·rw[cond_false,cond_false];exact⟨(eQ hI.hs hf).1.trans (eQ hI.hs hg).1.symm,(eQ hI.hs hg).2⟩
    ·rw[cond_true,cond_true];exact⟨(eQ hI.hs hf).1.trans (eQ hI.hs hg).1.symm,(eQ hI.hs hg).2⟩
   ·have hS:cQ x=31:=by unfold cQ;rw[h11,h1];rfl
    rw[hS];refine⟨?_,aDI hr hg⟩;unfold lU;rw[h1,cond_true,cond_true]
  cases h3:ltI x.Sub 3
  ·rw[h3,cond_false]at hO;rw[cond_false,cond_false];exact NI.w (w:={Q with r:={Q.r with fl:=(lU x m.r.fl v).2}}) (lU x f v).2 fun _=>key hO
  ·rw[h3,cond_true]at hO;rw[cond_true,cond_true];exact NI.w (w:={R with r:={R.r with fl:=(lU x m.r.fl v).2}}) (lU x f v).2 fun _=>key hO
theorem bK4{f z c:Int}(hf:bS f 0 31=true)(hz:z=0∨z=4∨z=8∨z=12)(hc:c=2∨c=0):aD (cD (cD (aD f 16) z) c) 15=cD z c∧aJ (cD (cD (aD f 16) z) c) 15=aJ f 15:=by
 rcases aAQ hf with h|h
 ·rw[h];have e:aJ f 15=0:=by
   have:=bU (p:=fun f=>aJ f 15=aD f 16) hf (by decide+kernel)
   rw[this,h]
  rw[e];rcases hz with rfl|rfl|rfl|rfl<;>rcases hc with rfl|rfl<;>decide+kernel
 ·rw[h];have e:aJ f 15=16:=by
   have:=bU (p:=fun f=>aJ f 15=aD f 16) hf (by decide+kernel)
   rw[this,h]
  rw[e];rcases hz with rfl|rfl|rfl|rfl<;>rcases hc with rfl|rfl<;>decide+kernel
end Go.Proofs.YtdicpjkdpliofaaGreatMasks

namespace Go.Proofs.YtdicpjkdpliofaaGreatMasks
open Go Go.Zq
set_option maxHeartbeats 4000000
set_option maxRecDepth 100000
theorem bQN{D:MM}{g p u2 cc:Int}(h1:aD (cD p cc) 15=aD u2 15)(h2:aJ u2 15=aJ g 15):NI 15 g {fM D p with r:={(fM D p).r with fl:=cD (fM D p).r.fl cc}} {D with r:={D.r with fl:=u2}}:=⟨cD p cc,rfl,fun _=>⟨h1,h2⟩⟩
theorem aQL{m:MM}{x:aF}{f:Int}(h16:x.Op=16∨x.Op=17)(hm:m.Ok 65535)(hf:bS f 0 31=true):NI 15 m.r.fl (eC (fM m f) x) (eC m x):=by
 have hg:bS m.r.fl 0 31=true:=hm.r.fw;unfold eC;rw[JJ];have hk:=LT m 2 x.Ea;generalize cL m 2 x.Ea=Q at*;obtain⟨Q,v,b⟩:=Q;dsimp only at hk⊢;rw[sP];cases hq:cE Q
 ·exact NI.bad f hq
 ·rw[Bool.not_true,cond_false,cond_false];unfold MQ;rw[show(fM Q f).r.d=Q.r.d from rfl,aA8,aA8]
  rcases h16 with h|h
  ·rw[cY.2 h,cond_true,cond_true];have e: ∀q,(bif pG q 65535 then(2:Int)else 0)=2∨(bif pG q 65535 then(2:Int)else 0)=0:=fun q=>by cases pG q 65535<;>simp
   have e1: ∀{g:Int},bS g 0 31=true→_:=fun{g} hh=>bK4 (f:=g) (z:=znQ 2 (cI Q.r.d x.Reg*v%65536)) hh (aJ0 _ _) (e (cI Q.r.d x.Reg*v))
   have e2:(oX Q 2 x.Reg (cI Q.r.d x.Reg*v%65536)).r.fl=cD (aD m.r.fl 16) (znQ 2 (cI Q.r.d x.Reg*v%65536)):=by rw[LU,hk,NQ (Or.inr rfl)];unfold znQ;rfl
   have e3:eZ 2 f (cI Q.r.d x.Reg*v%65536)=cD (aD f 16) (znQ 2 (cI Q.r.d x.Reg*v%65536)):=by rw[NQ (Or.inr rfl)];unfold znQ;rfl
   generalize oX Q 2 x.Reg (cI Q.r.d x.Reg*v%65536)=D at*;rw[e3,e2];have a1:=e1 hf;have a2:=e1 hg;exact bQN (a1.1.trans a2.1.symm) a2.2
  ·rw[eT.2 (show x.Op≠16 by omega),cond_false,cond_false]
   cases eqI v 0
   ·rw[cond_false,cond_false];refine NI.w _ fun _=>?_
    rw[LU,hk];exact⟨(eQ (Or.inr rfl) hf).1.trans (eQ (Or.inr rfl) hg).1.symm,(eQ (Or.inr rfl) hg).2⟩
   ·rw[cond_true,cond_true];exact NI.bad (w:=v9 Q 5) f rfl
theorem bQO{f g:Int}(hf:bS f 0 31=true)(hg:bS g 0 31=true)(h:aD f 20=aD g 20):aD f 16=aD g 16∧aD f 4=aD g 4:=by
 have a:=bU (p:=fun f=>aD f 16=aD (aD f 20) 16∧aD f 4=aD (aD f 20) 4) hf (by decide+kernel)
 have b:=bU (p:=fun f=>aD f 16=aD (aD f 20) 16∧aD f 4=aD (aD f 20) 4) hg (by decide+kernel)
 rw[a.1,a.2,b.1,b.2,h];exact⟨rfl,rfl⟩
theorem bK5{m:MM}{x:aF}{f:Int}(hm:m.Ok 65535)(hf:bS f 0 31=true)(h:aD f 20=aD m.r.fl 20): ∃k,yG (fM m f) x=fM (yG m x) k∧(cE (yG m x)=true→aD k 27=aD (yG m x).r.fl 27):=by
 obtain⟨h1,h2⟩:=bQO hf hm.r.fw h;have eV:wA x (fM m f)=wA x m:=by
  unfold wA;rw[show(fM m f).r.fl=f from rfl,show(fM m f).r.d=m.r.d from rfl,h1]
 unfold yG;rw[show(fM m f).r.d=m.r.d from rfl,show(fM m f).r.fl=f from rfl,eV,h2]
 cases iA (cI m.r.d x.Reg%256)&&iA (cI m.r.d x.Ea.Reg%256)
 ·rw[cond_false,cond_false];exact⟨f,rfl,fun z=>absurd z (by show¬(eqI 4 0=true);decide)⟩
 ·rw[cond_true,cond_true];exact⟨cD (bif eqI (wA x m).1 0 then aD m.r.fl 4 else 0) (dB (wA x m).2 17),rfl,fun _=>rfl⟩
theorem aQM{m:MM}{x:aF}{f a:Int}(ht:x.Op=13→A4 (x.Sub+8*x.Reg) f=A4 (x.Sub+8*x.Reg) m.r.fl):NI 0 m.r.fl (lK (fM m f) x a) (lK m x a):=by
 unfold lK;rw[SR,show(fM m f).r.fl=f from rfl]
 cases h:eqI x.Op 13
 ·rw[cond_false,cond_false];have hk:=SS m 2 x.Ea;generalize fC m 2 x.Ea=Q at*;obtain⟨Q,v⟩:=Q;dsimp only at hk⊢;unfold SD;dsimp only;rw[show(fM Q f).r.pc=Q.r.pc from rfl,aQI]
  have hk2:(bif eqI x.Sub 1 then fU Q Q.r.pc else Q).r.fl=m.r.fl:=by
   cases eqI x.Sub 1
   ·exact hk
   ·exact(aTR _ _).trans hk
  rw[show(bif eqI x.Sub 1 then fM (fU Q Q.r.pc) f else fM Q f)=fM (bif eqI x.Sub 1 then fU Q Q.r.pc else Q) f from by cases eqI x.Sub 1<;>rfl]
  generalize (bif eqI x.Sub 1 then fU Q Q.r.pc else Q)=R at*
  unfold aC9;rw[sP];cases cE R
  ·exact NI.keep f hk2
  ·exact NI.keep (w:={R with r:={R.r with pc:=v}}) f hk2
 ·rw[cond_true,cond_true,ht (cY.1 h)];cases A4 (x.Sub+8*x.Reg) m.r.fl
  ·rw[cond_false,cond_false];exact NI.keep f rfl
  ·rw[cond_true,cond_true];exact NI.keep (w:={m with r:={m.r with pc:=(a+2+x.Ea.Ext)%65536}}) f rfl
theorem aJ1(r:RM)(v:Int):bS (iH r v).fl 0 31=true:=by
 have e:(iH r v).fl=v%32:=by
  unfold iH;cases rD (eqI (v/256%2) 1) r.sup<;>rfl
 rw[e,aW];omega
theorem bB6{m:MM}{x:aF}{f:Int}(T:TabI x)(h15:x.Op=15)(hm:m.Ok 65535)(hf:bS f 0 31=true):NI (cQ x) m.r.fl (rE (fM m f) x) (rE m x):=by
 have hg:bS m.r.fl 0 31=true:=hm.r.fw;have hn: ∀i,x.Sub≠i→eqI x.Sub i=false:=fun i h=>eT.2 h
 have hy: ∀i,x.Sub=i→eqI x.Sub i=true:=fun i h=>cY.2 h
 have hS:cQ x=bif eqI x.Sub 5||eqI x.Sub 6 then 15 else bif eqI x.Sub 1||eqI x.Sub 3 then 31 else 0:=by unfold cQ;rw[h15];rfl
 have hsb:=T.sb;have s2:=T.s2 h15;unfold rE;rw[aJY,show(fM m f).r.d=m.r.d from rfl]
 by_cases h0:x.Sub=0
 ·rw[hS,h0];have hk:=a4Z m;generalize cP m=Q at*;exact NI.keep (w:={Q.1 with r:={Q.1.r with pc:=Q.2}}) f hk
 ·rw[hn 0 h0,cond_false,cond_false];by_cases h1:x.Sub=1
  ·rw[hS,h1];show NI 31 _ (bif !cE (fM (cP m).1 f)then _ else _) (bif !cE (cP m).1 then _ else _)
   dsimp only;rw[sP,aJY];generalize cP m=P;obtain⟨P,v⟩:=P;dsimp only;cases hq:cE P
   ·exact NI.bad f hq
   ·rw[Bool.not_true,cond_false,cond_false];generalize cP P=Q;obtain⟨Q,w⟩:=Q;dsimp only;rw[sP];cases hq2:cE Q
    ·exact NI.bad f hq2
    ·rw[cond_true,cond_true];have e:iH {(fM Q f).r with pc:=w} (v%1024)=iH {Q.r with pc:=w} (v%1024):=aA7 {Q.r with pc:=w} f (v%1024)
     rw[e];exact NI.all (w:={Q with r:=iH {Q.r with pc:=w} (v%1024)}) (aJ1 _ _) hg
  ·rw[hn 1 h1,cond_false,cond_false];by_cases h3:x.Sub=3
   ·rw[hS,h3];have e:iH (fM m f).r x.Ea.Ext=iH m.r x.Ea.Ext:=aA7 m.r f x.Ea.Ext;rw[e];exact NI.all (w:={m with r:=iH m.r x.Ea.Ext,stop:=true}) (aJ1 _ _) hg
   ·rw[hn 3 h3,cond_false,cond_false];by_cases h4:x.Sub=4
    ·rw[hS,h4];exact NI.keep (w:=v9 m (18+x.Reg)) f rfl
    ·rw[hn 4 h4,cond_false,cond_false];by_cases h5:x.Sub=5
     ·rw[hS,h5];exact aQJ (Or.inr rfl) hg hf
     ·rw[hn 5 h5,cond_false,cond_false];by_cases h6:x.Sub=6
      ·rw[hS,h6];exact aQJ (Or.inr rfl) hg hf
      ·rw[hn 6 h6,cond_false,cond_false];rw[hS,hn 5 h5,hn 6 h6,hn 1 h1,hn 3 h3];exact NI.keep f rfl
theorem bB7{m:MM}{x:aF}{f:Int}(T:TabI x)(h19:x.Op=19)(hm:m.Ok 65535)(hf:bS f 0 31=true)(h:aD f (cU x)=aD m.r.fl (cU x)):NI (cQ x) m.r.fl (wB (fM m f) x) (wB m x):=by
 have hg:bS m.r.fl 0 31=true:=hm.r.fw;by_cases h0:x.Sub=0
 ·have hS:cQ x=31:=by unfold cQ;rw[h19,h0];rfl
  unfold wB;rw[hS,cY.2 h0,cond_true,cond_true];have e:iH (fM m f).r x.Ea.Ext=iH m.r x.Ea.Ext:=aA7 m.r f x.Ea.Ext;rw[e];exact NI.all (w:={m with r:=iH m.r x.Ea.Ext}) (aJ1 _ _) hg
 ·have h1:x.Sub=1:=by have:=T.s3 h19;have:=T.sb;omega
  have hR:cU x=31:=by unfold cU;rw[h19,h1];rfl
  rw[hR]at h;have a:=bU (p:=fun f=>aD f 31=f) hf (by decide+kernel)
  have b:=bU (p:=fun f=>aD f 31=f) hg (by decide+kernel)
  rw[a,b]at h;rw[h,AS];have hS:cQ x=0:=by unfold cQ;rw[h19,h1];rfl
  rw[hS];unfold wB;rw[eT.2 h0,cond_false];exact NI.keep (w:={m with r:={m.r with d:=m.r.d.set x.Reg.toNat (o9 m.r)}}) m.r.fl rfl
end Go.Proofs.YtdicpjkdpliofaaGreatMasks

namespace Go.Proofs.YtdicpjkdpliofaaGreatMasks
open Go Go.Zq
set_option maxHeartbeats 4000000
set_option maxRecDepth 100000
theorem aDJ(k s f v:Int):oS k s f v=(jG k s f v,bif (bif eqI k 4 then true else eqI k 5)then cD (sB k s f v) (aD f 16)else cD (sB k s f v) (dB (j9 k s v) 16)):=by
 unfold oS aCU;rw[dA];simp only[oL,C4,iB];generalize (bif eqI k 4 then true else eqI k 5)=c
 cases c<;>rfl
theorem bB8{k s f g v:Int}(h:jO k 6=true→aD f 16=aD g 16):vQ k s f v=vQ k s g v:=by
 unfold vQ;cases h0:RX k
 ·rw[cond_false,cond_false]
 ·have h6:k=6∨k=7:=by
   unfold RX at h0;cases e:eqI k 6
   ·rw[e,cond_false]at h0;exact Or.inr (cY.1 h0)
   ·exact Or.inl (cY.1 e)
  rw[h (I7.2 (by omega))]
theorem bB9{k s f g v:Int}(h:jO k 6=true→aD f 16=aD g 16):jG k s f v=jG k s g v∧sB k s f v=sB k s g v:=by
 have e5:jG k s f v=jG k s g v:=by
  unfold jG;rw[bB8 h]
 have e6:K9 k s f v=K9 k s g v:=by
  unfold K9;rw[e5]
 have e7:GY k s f v=GY k s g v:=by
  unfold GY;rw[e6]
 refine⟨e5,?_⟩;unfold sB;rw[e5,e7]
theorem bK6{b z c x:Int}(hb:MP b)(hz:z=0∨z=4∨z=8∨z=12)(hc:c=2∨c=0)(hx:x=0∨x=16):aD (cD (cD (cD b z) c) x) 15=cD (cD b z) c∧aD (cD (cD (cD b z) c) x) 16=x:=by
 rcases hb with rfl|rfl<;>rcases hz with rfl|rfl|rfl|rfl<;>rcases hc with rfl|rfl<;>rcases hx with rfl|rfl<;>decide+kernel
theorem bK7{k s f v:Int}(hs:s=1∨s=2): ∃b z c,sB k s f v=cD (cD b z) c∧MP b∧(z=0∨z=4∨z=8∨z=12)∧(c=2∨c=0):=by
 have b2:MP (AJ s v):=by
  unfold AJ;rw[(eU _ _).2];exact pA _
 have b3:MP (j9 k s v):=by
  unfold j9;exact AO b2 aAT
 refine⟨_,_,_,rfl,b3,?_,?_⟩
 ·rw[(AN hs).2];exact aJ0 _ _
 ·rw[(eU _ _).2];cases GY k s f v
  ·exact Or.inr rfl
  ·exact Or.inl rfl
theorem bCA{k s f g v:Int}(hs:s=1∨s=2)(hf:bS f 0 31=true)(hg:bS g 0 31=true)(h:jO k 6=true→aD f 16=aD g 16):(oS k s f v).1=(oS k s g v).1∧((eqI k 4||eqI k 5)=false→(oS k s f v).2=(oS k s g v).2)∧((eqI k 4||eqI k 5)=true→aD (oS k s f v).2 15=aD (oS k s g v).2 15∧aD (oS k s f v).2 16=aD f 16):=by
 obtain⟨e5,e8⟩:=bB9 (s:=s) (v:=v) h;obtain⟨b,z,c,w,w1,w2,w3⟩:=bK7 (k:=k) (f:=g) (v:=v) hs;rw[aDJ k s f v,aDJ k s g v,e5,e8,w];have hc:(bif eqI k 4 then true else eqI k 5)=(eqI k 4||eqI k 5):=by cases eqI k 4<;>rfl
 rw[hc];refine⟨rfl,fun q=>?_,fun q=>?_⟩
 ·rw[q,cond_false,cond_false]
 ·rw[q,cond_true,cond_true];exact⟨(bK6 w1 w2 w3 (aAQ hf)).1.trans (bK6 w1 w2 w3 (aAQ hg)).1.symm,(bK6 w1 w2 w3 (aAQ hf)).2⟩
noncomputable def DB(k s:Int):Nat→Int→Int→Int→Int×Int×Int
 |0,v,f,c=>(v,f,c)
 |n+1,v,f,c=>DB k s n (oS k s f v).1 (oS k s f v).2 (cD c (aD (oS k s f v).2 2))
theorem a40(k s:Int)(n:Nat)(v f c:Int):DB k s (n+1) v f c=DB k s n (oS k s f v).1 (oS k s f v).2 (cD c (aD (oS k s f v).2 2)):=rfl
theorem a41(k s v f c:Int):DB k s 0 v f c=(v,f,c):=rfl
theorem bQP{k s f v:Int}{n:Nat}(hs:s=1∨s=2)(hv:cT s v=true)(hf:bS f 0 31=true)(h1:1≤n)(h2:n≤100):TI k s f v (n:Int)=((DB k s n v f 0).1,cD (DB k s n v f 0).2.1 (DB k s n v f 0).2.2):=by
 refine(aE (t:=aAD k s f v (n:Int)) (P:=fun r=>r=((DB k s n v f 0).1,cD (DB k s n v f 0).2.1 (DB k s n v f 0).2.2)) ?_).2
 have L:GZ (V252_0.mk k s f v (n:Int) 0)=true∧((sD (V252_0.mk k s f v (n:Int) 0)).s3=(DB k s n v f 0).1∧(sD (V252_0.mk k s f v (n:Int) 0)).s2=(DB k s n v f 0).2.1∧(sD (V252_0.mk k s f v (n:Int) 0)).s13=(DB k s n v f 0).2.2):=by
  unfold GZ sD;refine jL (Post:=fun w:V252_0=>w.s3=(DB k s n v f 0).1∧w.s2=(DB k s n v f 0).2.1∧w.s13=(DB k s n v f 0).2.2) (eO (fun(m:Nat) (w:V252_0)=>w.s0=k∧w.s1=s∧w.s4=(m:Int)∧m≤100∧cT s w.s3=true∧bS w.s2 0 31=true∧DB k s m w.s3 w.s2 w.s13=DB k s n v f 0) _ ?_ 9223372036854775808 n _ ⟨rfl,rfl,rfl,by omega,hv,hf,rfl⟩ (by omega))
  rintro m w ⟨e0,e1,e2,e3,e4,e5,e6⟩
  obtain⟨o1,o2,o3⟩:=C8 (k:=k) hs e4 e5;unfold CW;simp only[aZ,dJ,aR,sC,e0,e1,e2,o1,qX,I6,Bool.and_true,true_and];refine⟨fun q=>?_,fun q=>?_⟩
  ·obtain⟨p,rfl⟩: ∃p,m=p+1:=⟨m-1,by omega⟩
   refine⟨p,by omega,?_,by omega,o2,o3,e6⟩
   rw[eE (by omega)];omega
  ·have:m=0:=by omega
   subst this;rw[a41]at e6;rw[←e6];exact⟨rfl,rfl,rfl⟩
 obtain⟨l1,l2,l3,l4⟩:=L;unfold aAD;simp only[bF,LA,RZ,(AN hs).1,(AN hs).2,(eU _ _).1,(eU _ _).2,l1,l2,l3,l4,show eqI (n:Int) 0=false from eT.2 (by omega),bW]
theorem aA9{k s:Int}(hs:s=1∨s=2): ∀(n:Nat){v f c:Int},cT s v=true→bS f 0 31=true→(c=0∨c=2)→bS (DB k s n v f c).2.1 0 31=true∧((DB k s n v f c).2.2=0∨(DB k s n v f c).2.2=2)
 |0,_,_,_,_,hf,hc=>⟨hf,hc⟩
 |n+1,v,f,c,hv,hf,hc=>by
  obtain⟨-,b1,b2⟩:=C8 (k:=k) hs hv hf;rw[a40];refine aA9 hs n b1 b2 ?_;have a:=bU (p:=fun z=>aD z 2=0∨aD z 2=2) b2 (by decide+kernel)
  rcases hc with rfl|rfl<;>rcases a with h|h<;>rw[h]<;>decide
theorem bQQ{k s:Int}(hs:s=1∨s=2)(n:Nat): ∀{v f g c:Int},cT s v=true→bS f 0 31=true→bS g 0 31=true→(jO k 6=true→aD f 16=aD g 16)→1≤n→(DB k s n v f c).1=(DB k s n v g c).1∧(DB k s n v f c).2.2=(DB k s n v g c).2.2∧((eqI k 4||eqI k 5)=false→(DB k s n v f c).2.1=(DB k s n v g c).2.1)∧((eqI k 4||eqI k 5)=true→aD (DB k s n v f c).2.1 15=aD (DB k s n v g c).2.1 15∧aD (DB k s n v f c).2.1 16=aD f 16):=by
 induction n with
 |zero=>intro _ _ _ _ _ _ _ _ h;exact absurd h (by omega)
 |succ n ih=>
  intro v f g c hv hf hg h _;obtain⟨a1,a2,a3⟩:=bCA (v:=v) hs hf hg h;obtain⟨-,b1,b2⟩:=C8 (k:=k) hs hv hf;obtain⟨-,c1,c2⟩:=C8 (k:=k) hs hv hg;have e2:aD (oS k s f v).2 2=aD (oS k s g v).2 2:=by
   cases hq:eqI k 4||eqI k 5
   ·rw[a2 hq]
   ·rw[bU (p:=fun z=>aD z 2=aD (aD z 15) 2) b2 (by decide+kernel),bU (p:=fun z=>aD z 2=aD (aD z 15) 2) c2 (by decide+kernel),(a3 hq).1]
  have h':jO k 6=true→aD (oS k s f v).2 16=aD (oS k s g v).2 16:=fun q=>by
   have:=I7.1 q;rw[a2 (by rw[eT.2 (show k≠4 by omega),eT.2 (show k≠5 by omega)];rfl)]
  rw[a40 k s n v f c,a40 k s n v g c,←a1,←e2];cases n with
  |zero=>
   rw[a41,a41];exact⟨rfl,rfl,a2,a3⟩
  |succ n=>
   obtain⟨r1,r2,r3,r4⟩:=ih (c:=cD c (aD (oS k s f v).2 2)) b1 b2 c2 h' (by omega)
   exact⟨r1,r2,r3,fun z=>⟨(r4 z).1,(r4 z).2.trans (a3 z).2⟩⟩
theorem b1P{a b c:Int}(ha:bS a 0 31=true)(hb:bS b 0 31=true)(hc:c=0∨c=2)(h:aD a 15=aD b 15):aD (cD a c) 15=aD (cD b c) 15:=by
 have e: ∀a,bS a 0 31=true→aD (cD a c) 15=cD (aD a 15) c:=fun a ha=>by
  rcases hc with rfl|rfl
  ·exact bU (p:=fun a=>aD (cD a 0) 15=cD (aD a 15) 0) ha (by decide+kernel)
  ·exact bU (p:=fun a=>aD (cD a 2) 15=cD (aD a 15) 2) ha (by decide+kernel)
 rw[e a ha,e b hb,h]
theorem bQR{a c f:Int}(ha:bS a 0 31=true)(hf:bS f 0 31=true)(hc:c=0∨c=2)(h:aD a 16=aD f 16):aJ (cD a c) 15=aJ f 15:=by
 have e:aJ (cD a c) 15=aD a 16:=by
  rcases hc with rfl|rfl
  ·exact bU (p:=fun a=>aJ (cD a 0) 15=aD a 16) ha (by decide+kernel)
  ·exact bU (p:=fun a=>aJ (cD a 2) 15=aD a 16) ha (by decide+kernel)
 rw[e,h];exact(bU (p:=fun f=>aJ f 15=aD f 16) hf (by decide+kernel)).symm
theorem a42{m:MM}{x:aF}{f:Int}(hI:InsOk x)(h12:x.Op=12)(hm:m.Ok 65535)(hf:bS f 0 31=true)(h:aD f (cU x)=aD m.r.fl (cU x)):NI (cQ x) m.r.fl (yH (fM m f) x) (yH m x):=by
 have hg:bS m.r.fl 0 31=true:=hm.r.fw;have hr:=aW.1 hI.ho.hr;have hv:cT x.Size (cI m.r.d x.Reg%bN x.Size)=true:=hP hI.hs;obtain⟨n,hn⟩:=Int.eq_ofNat_of_zero_le (show 0≤x.Ea.Reg+1 by omega)
 have h6:jO x.Sub 6=true→aD f 16=aD m.r.fl 16:=fun q=>by
  have hR:cU x=16:=by unfold cU;rw[h12,q];rfl
  rw[hR]at h;exact h
 have hS:cQ x=bif eqI x.Sub 4||eqI x.Sub 5 then 15 else 31:=by unfold cQ;rw[h12];rfl
 obtain⟨r1,r2,r3,r4⟩:=bQQ (k:=x.Sub) (c:=0) hI.hs n hv hg hf (fun q=>(h6 q).symm) (by omega)
 have q1:=aA9 (k:=x.Sub) (c:=0) hI.hs n hv hf (Or.inl rfl);have q2:=aA9 (k:=x.Sub) (c:=0) hI.hs n hv hg (Or.inl rfl);have e1: ∀f,bS f 0 31=true→TI x.Sub x.Size f (cI m.r.d x.Reg%bN x.Size) (x.Ea.Reg+1)=((DB x.Sub x.Size n (cI m.r.d x.Reg%bN x.Size) f 0).1,cD (DB x.Sub x.Size n (cI m.r.d x.Reg%bN x.Size) f 0).2.1 (DB x.Sub x.Size n (cI m.r.d x.Reg%bN x.Size) f 0).2.2):=fun f hf=>by
  rw[hn];exact bQP hI.hs hv hf (by omega) (by omega)
 unfold yH shV;rw[show(fM m f).r.d=m.r.d from rfl,show(fM m f).r.fl=f from rfl,e1 f hf,e1 m.r.fl hg]
 dsimp only;rw[←r1,←r2];generalize (DB x.Sub x.Size n (cI m.r.d x.Reg%bN x.Size) m.r.fl 0)=B at*;generalize (DB x.Sub x.Size n (cI m.r.d x.Reg%bN x.Size) f 0)=A at*;obtain⟨B1,B2,B3⟩:=B;obtain⟨A1,A2,A3⟩:=A;dsimp only at r1 r2 r3 r4 q1 q2⊢;subst r2;refine NI.w (w:={m with r:=uA {m.r with fl:=cD B2 B3} x.Size x.Reg B1}) (cD A2 B3) fun _=>?_
 show aD (cD A2 B3) _=aD (cD B2 B3) _∧aJ (cD B2 B3) _=aJ m.r.fl _
 rw[hS];cases hk:eqI x.Sub 4||eqI x.Sub 5
 ·rw[cond_false,r3 hk];exact⟨rfl,aDI (oM q1.1 (by rcases q2.2 with h|h<;>rw[h]<;>decide)) hg⟩
 ·rw[cond_true];exact⟨(b1P q2.1 q1.1 q2.2 (r4 hk).1).symm,bQR q2.1 hg q2.2 (r4 hk).2⟩
end Go.Proofs.YtdicpjkdpliofaaGreatMasks

namespace Go.Proofs.YtdicpjkdpliofaaGreatMasks
open Go Go.Zq
set_option maxHeartbeats 4000000
set_option maxRecDepth 100000
theorem bK8(c f:Int):aIW c f=(LB c f).val:=by
 unfold aIW;rw[dA]
theorem a43(c f:Int):A4 c f=rD (LB (aJ c 1) f).val (eqI (aD c 1) 0):=by
 unfold A4 aCV;rw[dA];simp only[oL,iB,bK8]
theorem bK9: ∀c:Fin 16,∀f:Fin 32,rD (LB (aJ (c.val:Int) 1) (f.val:Int)).val (eqI (aD (c.val:Int) 1) 0)=rD (LB (aJ (c.val:Int) 1) (aD (f.val:Int) (rC (c.val:Int)))).val (eqI (aD (c.val:Int) 1) 0):=by decide+kernel
theorem bCB{c f g:Int}(hc:0≤c∧c≤15)(hf:bS f 0 31=true)(hg:bS g 0 31=true)(h:aD f (rC c)=aD g (rC c)):A4 c f=A4 c g:=by
 obtain⟨n,rfl⟩:=Int.eq_ofNat_of_zero_le hc.1;have e: ∀f,bS f 0 31=true→A4 (n:Int) f=A4 (n:Int) (aD f (rC (n:Int))):=fun f hf=>by
  rw[a43,a43];exact bU (p:=fun f=>rD (LB (aJ (n:Int) 1) f).val (eqI (aD (n:Int) 1) 0)=rD (LB (aJ (n:Int) 1) (aD f (rC (n:Int)))).val (eqI (aD (n:Int) 1) 0)) hf (bK9 ⟨n,by omega⟩)
 rw[e f hf,e g hg,h]
theorem bQS{m:MM}{x:aF}{f a:Int}(hI:InsOk x)(hm:m.Ok 65535)(hf:bS f 0 31=true)(hR:aD f (cU x)=aD m.r.fl (cU x)): ∃k,dX (fM m f) x a=fM (dX m x a) k∧(cE (dX m x a)=true→aD k (cQ x)=aD (dX m x a).r.fl (cQ x)∧(x.Op≠18→aJ (dX m x a).r.fl (cQ x)=aJ m.r.fl (cQ x))):=by
 have T:=TabI.of hI;have lift: ∀{S g:Int}{u w:MM},NI S g u w→cQ x=S→g=m.r.fl→ ∃k,u=fM w k∧(cE w=true→aD k (cQ x)=aD w.r.fl (cQ x)∧(x.Op≠18→aJ w.r.fl (cQ x)=aJ m.r.fl (cQ x))):=by
  rintro S g u w ⟨k,e,hk⟩ hs hg
  subst hs hg;exact⟨k,e,fun z=>⟨(hk z).1,fun _=>(hk z).2⟩⟩
 rcases T.op with h|h|h|h|h|h|h|h|h|h|h|h|h|h|h|h|h|h|h
 ·have e: ∀m,dX m x a=iX m x:=fun m=>by unfold dX;rw[h];rfl
  rw[e,e];exact lift (HC hI (Or.inl h) hm hf) rfl rfl
 ·have e: ∀m,dX m x a=xC m x:=fun m=>by unfold dX;rw[h];rfl
  rw[e,e];exact lift (bB5 hI.hs hm hf) (by unfold cQ;rw[h];rfl) rfl
 ·have e: ∀m,dX m x a=iX m x:=fun m=>by unfold dX;rw[h];rfl
  rw[e,e];exact lift (HC hI (Or.inr (Or.inl h)) hm hf) rfl rfl
 ·have e: ∀m,dX m x a=iX m x:=fun m=>by unfold dX;rw[h];rfl
  rw[e,e];exact lift (HC hI (Or.inr (Or.inr (Or.inl h))) hm hf) rfl rfl
 ·have e: ∀m,dX m x a=iX m x:=fun m=>by unfold dX;rw[h];rfl
  rw[e,e];exact lift (HC hI (Or.inr (Or.inr (Or.inr (Or.inl h)))) hm hf) rfl rfl
 ·have e: ∀m,dX m x a=iX m x:=fun m=>by unfold dX;rw[h];rfl
  rw[e,e];exact lift (HC hI (Or.inr (Or.inr (Or.inr (Or.inr (Or.inl h))))) hm hf) rfl rfl
 ·have e: ∀m,dX m x a=iX m x:=fun m=>by unfold dX;rw[h];rfl
  rw[e,e];exact lift (HC hI (Or.inr (Or.inr (Or.inr (Or.inr (Or.inr (Or.inl h)))))) hm hf) rfl rfl
 ·have e: ∀m,dX m x a=iX m x:=fun m=>by unfold dX;rw[h];rfl
  rw[e,e];exact lift (HC hI (Or.inr (Or.inr (Or.inr (Or.inr (Or.inr (Or.inr h)))))) hm hf) rfl rfl
 ·have e: ∀m,dX m x a=zB (cL m 2 x.Ea) x:=fun m=>by unfold dX;rw[h];rfl
  rw[e,e];exact lift bB4 (by unfold cQ;rw[h];rfl) rfl
 ·have e: ∀m,dX m x a=SE (fC m 2 x.Ea) x:=fun m=>by unfold dX;rw[h];rfl
  rw[e,e];exact lift bK2 (by unfold cQ;rw[h];rfl) rfl
 ·have e: ∀m,dX m x a=zA m x:=fun m=>by unfold dX;rw[h];rfl
  rw[e,e];exact lift (bK3 hI h hm hf) rfl rfl
 ·have e: ∀m,dX m x a=yH m x:=fun m=>by unfold dX;rw[h];rfl
  rw[e,e];exact lift (a42 hI h hm hf hR) rfl rfl
 ·have e: ∀m,dX m x a=lK m x a:=fun m=>by unfold dX;rw[h];rfl
  rw[e,e];have n1:=T.n1;have n2:=T.n2 h;have n3:=T.sb;have hr:cU x=rC (x.Sub+8*x.Reg):=by unfold cU;rw[h];rfl
  rw[hr]at hR;exact lift (aQM fun _=>bCB (by omega) hf hm.r.fw hR) (by unfold cQ;rw[h];rfl) rfl
 ·have e: ∀m,dX m x a=lK m x a:=fun m=>by unfold dX;rw[h];rfl
  rw[e,e];exact lift (aQM fun z=>absurd (h.symm.trans z) (by decide)) (by unfold cQ;rw[h];rfl) rfl
 ·have e: ∀m,dX m x a=rE m x:=fun m=>by unfold dX;rw[h];rfl
  rw[e,e];exact lift (bB6 T h hm hf) rfl rfl
 ·have e: ∀m,dX m x a=eC m x:=fun m=>by unfold dX;rw[h];rfl
  rw[e,e];exact lift (aQL (Or.inl h) hm hf) (by unfold cQ;rw[h];rfl) rfl
 ·have e: ∀m,dX m x a=eC m x:=fun m=>by unfold dX;rw[h];rfl
  rw[e,e];exact lift (aQL (Or.inr h) hm hf) (by unfold cQ;rw[h];rfl) rfl
 ·have e: ∀m,dX m x a=yG m x:=fun m=>by unfold dX;rw[h];rfl
  rw[e,e];have hr:cU x=20:=by unfold cU;rw[h];rfl
  rw[hr]at hR;obtain⟨k,k1,k2⟩:=bK5 (x:=x) hm hf hR;have hS:cQ x=27:=by unfold cQ;rw[h];rfl
  exact⟨k,k1,fun z=>⟨by rw[hS];exact k2 z,fun q=>absurd h q⟩⟩
 ·have e: ∀m,dX m x a=wB m x:=fun m=>by unfold dX;rw[h];rfl
  rw[e,e];exact lift (bB7 T h hm hf hR) rfl rfl
theorem aBA(m:MM)(s a v:Int):(dQ m 1 s a v).1.zs=m.zs:=by
 show tB 1 s a v m.zs=m.zs
 unfold tB;rw[show eqI 1 2=false from rfl,Bool.and_false,cond_false]
theorem NT(m:MM)(s:Int)(o:aB):(cL m s o).1.zs=m.zs:=by
 unfold cL;cases eqI o.Mode 0
 ·cases eqI o.Mode 1
  ·cases eqI o.Mode 7
   ·exact aBA _ _ _ _
   ·rfl
  ·rfl
 ·rfl
theorem aJ2(m:MM)(s:Int)(o:aB):(fC m s o).1.zs=m.zs:=by
 unfold fC;cases eqI o.Mode 0<;>rfl
theorem a44(m:MM):(cP m).1.zs=m.zs:=by
 unfold cP;show(bif cE (dQ m 1 2 (cI m.r.a 3) 0).1 then _ else _:MM).zs=_
 cases cE (dQ m 1 2 (cI m.r.a 3) 0).1
 ·exact aBA _ _ _ _
 ·exact aBA _ _ _ _
theorem aQN{x:aF}(h:G7 x.Ea.Mode=true)(hb:lJ x.Ea.Mode=false):eqI x.Ea.Mode 0=true:=by
 unfold G7 at h;cases e:eqI x.Ea.Mode 0
 ·rw[e,cond_false,hb]at h;cases h
 ·rfl
theorem bQT{m:MM}{x:aF}{a:Int}(hI:InsOk x)(hw:hU x=false):(dX m x a).zs=m.zs:=by
 have T:=TabI.of hI;have two:(iX m x).zs=m.zs:=by
  have hz:=NT m x.Size x.Ea;unfold iX;generalize cL m x.Size x.Ea=Q at*;dsimp only;cases cE Q.1
  ·exact hz
  ·cases eqI x.Op 8<;>exact hz
 have prod:(eC m x).zs=m.zs:=by
  have hz:=NT m 2 x.Ea;unfold eC;generalize cL m 2 x.Ea=Q at*;cases cE Q.1
  ·exact hz
  ·unfold MQ;cases eqI x.Op 16
   ·cases eqI Q.2.1 0<;>exact hz
   ·exact hz
 rcases T.op with h|h|h|h|h|h|h|h|h|h|h|h|h|h|h|h|h|h|h
 ·rw[show dX m x a=iX m x from by unfold dX;rw[h];rfl]
  exact two
 ·rw[show dX m x a=xC m x from by unfold dX;rw[h];rfl]
  have hb:lJ x.Ea.Mode=false:=by
   unfold hU at hw;rw[h]at hw;cases e:lJ x.Ea.Mode
   ·rfl
   ·rw[e]at hw;cases hw
  have e0:=aQN (T.m0 (Or.inl h)) hb;unfold xC aP5 dD fC;rw[e0];rfl
 ·rw[show dX m x a=iX m x from by unfold dX;rw[h];rfl]
  exact two
 ·rw[show dX m x a=iX m x from by unfold dX;rw[h];rfl]
  exact two
 ·rw[show dX m x a=iX m x from by unfold dX;rw[h];rfl]
  exact two
 ·rw[show dX m x a=iX m x from by unfold dX;rw[h];rfl]
  exact two
 ·rw[show dX m x a=iX m x from by unfold dX;rw[h];rfl]
  exact two
 ·rw[show dX m x a=iX m x from by unfold dX;rw[h];rfl]
  exact two
 ·rw[show dX m x a=zB (cL m 2 x.Ea) x from by unfold dX;rw[h];rfl]
  have hz:=NT m 2 x.Ea;generalize cL m 2 x.Ea=Q at*;unfold zB;cases cE Q.1<;>exact hz
 ·rw[show dX m x a=SE (fC m 2 x.Ea) x from by unfold dX;rw[h];rfl]
  exact aJ2 m 2 x.Ea
 ·rw[show dX m x a=zA m x from by unfold dX;rw[h];rfl]
  have hz:(eP m x).1.zs=m.zs:=by
   unfold eP;cases eqI x.Sub 0
   ·exact NT _ _ _
   ·exact aJ2 _ _ _
  unfold zA AP;generalize eP m x=Q at*;cases cE Q.1
  ·exact hz
  ·rw[Bool.not_true,cond_false];cases h3:ltI x.Sub 3
   ·exact hz
   ·have hs:x.Sub≠3:=by have:=dW.1 h3;omega
    have hb:lJ x.Ea.Mode=false:=by
     unfold hU at hw;rw[h,show cV x.Sub 3=true from o8.2 hs]at hw
     cases e:lJ x.Ea.Mode
     ·rfl
     ·rw[e]at hw;cases hw
    have e0:=aQN (T.m0 (Or.inr h)) hb;unfold dD;rw[e0];exact hz
 ·rw[show dX m x a=yH m x from by unfold dX;rw[h];rfl]
  rfl
 ·rw[show dX m x a=lK m x a from by unfold dX;rw[h];rfl]
  unfold lK;rw[cY.2 h,cond_true];cases A4 (x.Sub+8*x.Reg) m.r.fl<;>rfl
 ·rw[show dX m x a=lK m x a from by unfold dX;rw[h];rfl]
  have h1:eqI x.Sub 1=false:=by
   unfold hU at hw;cases e:eqI x.Sub 1
   ·rfl
   ·rw[h,e]at hw
    revert hw
    cases(eqI 14 2||eqI 14 11&&cV x.Sub 3)&&lJ x.Ea.Mode<;>exact fun z=>by cases z
  unfold lK SD aC9;rw[eT.2 (show x.Op≠13 by omega),cond_false,h1,cond_false]
  have hz:=aJ2 m 2 x.Ea;generalize fC m 2 x.Ea=Q at*;cases cE Q.1<;>exact hz
 ·rw[show dX m x a=rE m x from by unfold dX;rw[h];rfl]
  unfold rE;have hz:=a44 m;have hz2:=a44 (cP m).1;generalize cP (cP m).1=P at*;generalize cP m=Q at*;cases eqI x.Sub 0
  ·cases eqI x.Sub 1
   ·cases eqI x.Sub 3
    ·cases eqI x.Sub 4
     ·cases eqI x.Sub 5
      ·cases eqI x.Sub 6<;>rfl
      ·rfl
     ·rfl
    ·rfl
   ·cases cE Q.1
    ·exact hz
    ·cases cE P.1<;>exact hz2.trans hz
  ·exact hz
 ·rw[show dX m x a=eC m x from by unfold dX;rw[h];rfl]
  exact prod
 ·rw[show dX m x a=eC m x from by unfold dX;rw[h];rfl]
  exact prod
 ·rw[show dX m x a=yG m x from by unfold dX;rw[h];rfl]
  unfold yG;cases iA (cI m.r.d x.Reg%256)&&iA (cI m.r.d x.Ea.Reg%256)<;>rfl
 ·rw[show dX m x a=wB m x from by unfold dX;rw[h];rfl]
  unfold wB;cases eqI x.Sub 0<;>rfl
theorem D0{m:MM}{s:Int}{o:aB}(hm:bS o.Mode 0 7=true)(hb:lJ o.Mode=false):cE (cL m s o).1=cE m:=by
 have h:=aW.1 hm;unfold cL;cases e0:eqI o.Mode 0
 ·cases e1:eqI o.Mode 1
  ·have:o.Mode=7:=by
    have a:=eT.1 e0;have b:=eT.1 e1;by_cases c:o.Mode=7
    ·exact c
    ·rw[show lJ o.Mode=true from aW.2 (by omega)]at hb;cases hb
   rw[cY.2 this];rfl
  ·rfl
 ·rfl
theorem bCC{m:MM}{x:aF}{a:Int}(hI:InsOk x)(hm:cE m=true)(hw:eF x=false):cE (dX m x a)=true:=by
 have T:=TabI.of hI;have two:lJ x.Ea.Mode=false→cE (iX m x)=true:=fun hb=>by
  have hz:cE (cL m x.Size x.Ea).1=true:=(D0 T.md hb).trans hm;unfold iX;generalize cL m x.Size x.Ea=Q at*;dsimp only;rw[hz];cases eqI x.Op 8<;>exact hz
 rcases T.op with h|h|h|h|h|h|h|h|h|h|h|h|h|h|h|h|h|h|h
 ·rw[show dX m x a=iX m x from by unfold dX;rw[h];rfl]
  have hb:lJ x.Ea.Mode=false:=by unfold eF at hw;rw[h]at hw;exact hw
  exact two hb
 ·rw[show dX m x a=xC m x from by unfold dX;rw[h];rfl]
  have hb:lJ x.Ea.Mode=false:=by unfold eF at hw;rw[h]at hw;exact hw
  have e0:=aQN (T.m0 (Or.inl h)) hb;unfold xC aP5 dD fC;rw[e0];exact hm
 ·rw[show dX m x a=iX m x from by unfold dX;rw[h];rfl]
  have hb:lJ x.Ea.Mode=false:=by unfold eF at hw;rw[h]at hw;exact hw
  exact two hb
 ·rw[show dX m x a=iX m x from by unfold dX;rw[h];rfl]
  have hb:lJ x.Ea.Mode=false:=by unfold eF at hw;rw[h]at hw;exact hw
  exact two hb
 ·rw[show dX m x a=iX m x from by unfold dX;rw[h];rfl]
  have hb:lJ x.Ea.Mode=false:=by unfold eF at hw;rw[h]at hw;exact hw
  exact two hb
 ·rw[show dX m x a=iX m x from by unfold dX;rw[h];rfl]
  have hb:lJ x.Ea.Mode=false:=by unfold eF at hw;rw[h]at hw;exact hw
  exact two hb
 ·rw[show dX m x a=iX m x from by unfold dX;rw[h];rfl]
  have hb:lJ x.Ea.Mode=false:=by unfold eF at hw;rw[h]at hw;exact hw
  exact two hb
 ·rw[show dX m x a=iX m x from by unfold dX;rw[h];rfl]
  have hb:lJ x.Ea.Mode=false:=by unfold eF at hw;rw[h]at hw;exact hw
  exact two hb
 ·rw[show dX m x a=zB (cL m 2 x.Ea) x from by unfold dX;rw[h];rfl]
  have hb:lJ x.Ea.Mode=false:=by unfold eF at hw;rw[h]at hw;exact hw
  have hz:cE (cL m 2 x.Ea).1=true:=(D0 T.md hb).trans hm;generalize cL m 2 x.Ea=Q at*;unfold zB;rw[hz];exact hz
 ·rw[show dX m x a=SE (fC m 2 x.Ea) x from by unfold dX;rw[h];rfl]
  unfold SE fC;cases eqI x.Ea.Mode 0<;>exact hm
 ·rw[show dX m x a=zA m x from by unfold dX;rw[h];rfl]
  have hb:lJ x.Ea.Mode=false:=by unfold eF at hw;rw[h]at hw;exact hw
  have e0:=aQN (T.m0 (Or.inr h)) hb;have hz:cE (eP m x).1=true:=by
   unfold eP;cases eqI x.Sub 0
   ·exact(D0 T.md hb).trans hm
   ·unfold fC;rw[e0];exact hm
  unfold zA AP;generalize eP m x=Q at*;rw[hz,Bool.not_true,cond_false];unfold dD;rw[e0];cases ltI x.Sub 3<;>exact hz
 ·rw[show dX m x a=yH m x from by unfold dX;rw[h];rfl]
  exact hm
 ·rw[show dX m x a=lK m x a from by unfold dX;rw[h];rfl]
  unfold lK;rw[cY.2 h,cond_true];cases A4 (x.Sub+8*x.Reg) m.r.fl<;>exact hm
 ·rw[show dX m x a=lK m x a from by unfold dX;rw[h];rfl]
  have h1:eqI x.Sub 1=false:=by unfold eF at hw;rw[h]at hw;exact hw
  unfold lK SD aC9;rw[eT.2 (show x.Op≠13 by omega),cond_false,h1,cond_false]
  have hz:cE (fC m 2 x.Ea).1=true:=by
   unfold fC;cases eqI x.Ea.Mode 0<;>exact hm
  generalize fC m 2 x.Ea=Q at*;rw[hz];exact hz
 ·rw[show dX m x a=rE m x from by unfold dX;rw[h];rfl]
  have hw':((eqI x.Sub 0||eqI x.Sub 1)||(eqI x.Sub 3||eqI x.Sub 4))=false:=by unfold eF at hw;rw[h]at hw;exact hw
  unfold rE;simp only[Bool.or_eq_false_iff]at hw';obtain⟨⟨h0,h1⟩,h3,h4⟩:=hw';rw[h0,h1,h3,h4,cond_false,cond_false,cond_false,cond_false];cases eqI x.Sub 5
  ·cases eqI x.Sub 6<;>exact hm
  ·exact hm
 ·rw[show dX m x a=eC m x from by unfold dX;rw[h];rfl]
  have hb:lJ x.Ea.Mode=false:=by unfold eF at hw;rw[h]at hw;exact hw
  have hz:cE (cL m 2 x.Ea).1=true:=(D0 T.md hb).trans hm;unfold eC;generalize cL m 2 x.Ea=Q at*;rw[hz,Bool.not_true,cond_false];unfold MQ;rw[cY.2 h,cond_true];exact hz
 ·rw[show dX m x a=eC m x from by unfold dX;rw[h];rfl]
  unfold eF at hw;rw[h]at hw;cases hw
 ·rw[show dX m x a=yG m x from by unfold dX;rw[h];rfl]
  unfold eF at hw;rw[h]at hw;cases hw
 ·rw[show dX m x a=wB m x from by unfold dX;rw[h];rfl]
  have h0:eqI x.Sub 0=false:=by unfold eF at hw;rw[h]at hw;exact hw
  unfold wB;rw[h0,cond_false];exact hm
end Go.Proofs.YtdicpjkdpliofaaGreatMasks
