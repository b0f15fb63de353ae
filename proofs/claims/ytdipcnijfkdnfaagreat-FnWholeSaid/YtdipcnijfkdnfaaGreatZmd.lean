import Derived.Test.YtdipcnijfkdnfaaGreatZqWholeQ
import Derived.Test.YtdipcnijfkdnfaaGreatZmc
set_option linter.unusedVariables false
set_option linter.unusedSimpArgs false
namespace Go.Proofs.YtdipcnijfkdnfaaGreatWhole
open Go Go.Zq
set_option maxHeartbeats 4000000
set_option maxRecDepth 100000
theorem ef (a b : Int) (h : eqI a b = false := by rfl) : eqI a b = false := h
theorem et (a b : Int) (h : eqI a b = true := by rfl) : eqI a b = true := h
@[simp] theorem kJ(x a b:Int):uF x a b=cJ x a b:=by
  simp only[uF,dX,a1N,rN,kI,geI,leI,cJ,ge_iff_le];cases decide (a≤x)<;>rfl
@[simp] theorem kK(x a b:Int):xP x a b=true:=by
  simp[xP,dX,a1N]
@[simp] theorem sS(x a b:Int):wG x a b=cJ x a b:=by
  simp only[wG,dX,a0Y,rN,kI,geI,leI,cJ,ge_iff_le];cases decide (a≤x)<;>rfl
@[simp] theorem sT(x a b:Int):yV x a b=true:=by
  simp[yV,dX,a0Y]
theorem VT{zs:List Int}{i:Nat}(h:i<zs.length)(hz:cJ zs[i] 0 255=false):dJ zs=false:=by
 unfold dJ;rw[List.all_eq_false];exact⟨zs[i],List.getElem_mem h,by simp[hz]⟩
theorem VU{zs:List Int}(h: ∀j(hj:j<zs.length),cJ zs[j] 0 255=true):dJ zs=true:=by
 unfold dJ;rw[List.all_eq_true];intro z hz;obtain⟨j,hj,rfl⟩:=List.getElem_of_mem hz;exact h j hj
theorem bGD(zs:List Int)(hl:zs.length<1000000):aJ6 (V164_0.mk (ri zs) (bX (ri zs)) 0)=true∧(ltI (aA9 (V164_0.mk (ri zs) (bX (ri zs)) 0)).s7 (aA9 (V164_0.mk (ri zs) (bX (ri zs)) 0)).s6=!dJ zs):=by
 unfold aJ6 aA9;refine jA (Post:=fun w=>ltI w.s7 w.s6=!dJ zs) (eY (fun n v=> ∃i:Nat,v=V164_0.mk (ri zs) (bX (ri zs)) i∧i≤zs.length∧n=zs.length-i∧ ∀j(hj:j<zs.length),j<i→cJ zs[j] 0 255=true) _ ?_ 2097152 zs.length _ ⟨0,rfl,by omega,by omega,fun j _ h=>absurd h (by omega)⟩ (by omega))
 rintro n v ⟨i,rfl,hi,rfl,hall⟩
 unfold M4;simp only[aB,aI,aA,aT,bB,eD,nV,true_and,Int.toNat_natCast];constructor
 ·intro h;have hi':i<zs.length:=by omega
  rw[vC hi',o9 hi',sS,sT];refine⟨rfl,rfl,fun hz=>?_,fun hz=>?_⟩
  ·rw[VT hi' (by simpa using hz)]
   simpa [ltI]using h
  ·refine⟨_,?_,i+1,?_,by omega,rfl,?_⟩
   ·omega
   ·rw[bV (by omega)];rfl
   ·intro j hj hji;by_cases e:j=i
    ·subst e;simpa using hz
    ·exact hall j hj (by omega)
 ·intro h;rw[VU fun j hj=>hall j hj (by omega)]
  simpa [ltI]using h
theorem YW(zs:List Int)(hl:zs.length<1000000):a1D (ri zs)=true∧aV9 (ri zs)=dJ zs:=by
 obtain⟨h1,h2⟩:=bGD zs hl;unfold a1D aV9 bB7 aJ7;rw[dX,dX];simp only[zT,IY,pH,rN,IZ,kI,h1,h2,Bool.true_and];cases dJ zs<;>exact⟨rfl,rfl⟩
theorem aXP(xs ys:List Int)(hl:xs.length<1000000)(he:xs.length=ys.length):a7K (V14_0.mk (ri xs) (ri ys) (bX (ri xs)) 0)=true∧(ltI (aTO (V14_0.mk (ri xs) (ri ys) (bX (ri xs)) 0)).s13 (aTO (V14_0.mk (ri xs) (ri ys) (bX (ri xs)) 0)).s12=!decide (xs=ys)):=by
 unfold a7K aTO;refine jA (Post:=fun w=>ltI w.s13 w.s12=!decide (xs=ys)) (eY (fun n v=> ∃i:Nat,v=V14_0.mk (ri xs) (ri ys) (bX (ri xs)) i∧i≤xs.length∧n=xs.length-i∧ ∀j(hj:j<xs.length),j<i→xs[j]=ys[j]) _ ?_ 2097152 xs.length _ ⟨0,rfl,by omega,by omega,fun j _ h=>absurd h (by omega)⟩ (by omega))
 rintro n v ⟨i,rfl,hi,rfl,hall⟩
 unfold YS;simp only[aB,aI,aA,aT,bB,eD,nV,true_and,Int.toNat_natCast];constructor
 ·intro h;have hi':i<xs.length:=by omega
  have hy':i<ys.length:=by omega
  rw[vC hi',o9 hi',vC hy',o9 hy'];refine⟨rfl,fun hz=>?_,fun hz=>?_⟩
  ·have:xs≠ys:=fun e=>by subst e;simp at hz
   rw[decide_eq_false this];simpa [ltI]using h
  ·refine⟨_,?_,i+1,?_,by omega,rfl,?_⟩
   ·omega
   ·rw[bV (by omega)];rfl
   ·intro j hj hji;by_cases e:j=i
    ·subst e;simpa using hz
    ·exact hall j hj (by omega)
 ·intro h;rw[decide_eq_true (List.ext_getElem he fun j h1 h2=>hall j h1 (by omega))]
  simpa [ltI]using h
theorem CB(xs ys:List Int)(hl:xs.length<1000000):k14 (ri xs) (ri ys)=true∧g14 (ri xs) (ri ys)=decide (xs=ys):=by
 unfold k14 g14 T14 a7L;rw[dX,dX];by_cases he:xs.length=ys.length
 ·obtain⟨h1,h2⟩:=aXP xs ys hl he;have e:dD (bX (ri xs)) (bX (ri ys))=false:=by simp[he,bB]
  simp only[zT,IY,pH,rN,IZ,kI,h1,h2,e,Bool.true_and,cond_false];cases decide (xs=ys)<;>exact⟨rfl,rfl⟩
 ·have e:dD (bX (ri xs)) (bX (ri ys))=true:=by simp[bB];omega
  have:xs≠ys:=fun e=>he (by rw[e])
  simp only[zT,IY,pH,rN,IZ,kI,e,decide_eq_false this,Bool.true_and,cond_true,and_self]
def CO(B:Int)(c:aN):Prop:=CurOk B c.fcode c.fat
theorem CO.mono{B C:Int}{c:aN}(h:CO B c)(hB:B≤C):CO C c:=CurOk.mono h hB
theorem b3Z(s:Int):0≤yE .i64 (bA1 .u64 (a0E .u64 s 40) 255)∧yE .i64 (bA1 .u64 (a0E .u64 s 40) 255)<256:=by
 have e:a0E .u64 s 40=Int.fdiv s 1099511627776:=by
  unfold a0E;rw[show((2:Int)^min (Int.toNat 40) IntKind.u64.bits)=1099511627776 from by decide]
 unfold yE bA1;rw[e];exact bA0 s
theorem a74{B:Int}{c:aN}(h:CO B c)(hB:B<4000000000000000000):bA2 c=true∧(CO (B+1) (CS c).1∧0≤(CS c).2∧(CS c).2<256):=by
 refine aK (t:=a0T c) (P:=fun r=>CO (B+1) r.1∧0≤r.2∧r.2<256) ?_
 obtain⟨h1,h2,h3⟩:=h;have ha:bE c.fat 1=c.fat+1:=bV (by omega)
 have hc:CurOk (B+1) c.fcode (c.fat+1):=⟨h1,by omega,by omega⟩
 have hv:0≤SM c∧SM c<256:=by
  unfold SM;cases hl:ltI c.fat (bX c.fcode)
  ·simp
  ·have hl':c.fat<(c.fcode.length:Int):=by simpa using hl
   obtain⟨z,-,e,z0,z1⟩:=a0B h1 (j:=c.fat.toNat) (by omega)
   rw[cond_true,e,bGB (by omega)]
   exact⟨z0,z1⟩
 have hr:(iG [.int .u8] c.fcode c.fat||!(ltI c.fat (bX c.fcode)))=true:=by
  cases hl:ltI c.fat (bX c.fcode)
  ·simp
  ·have hl':c.fat<(c.fcode.length:Int):=by simpa using hl
   rw[aIM h1 h2 hl'];rfl
 unfold a0T;simp only[aB,aI,aA,hr,ha,Bool.and_true,true_and];exact⟨fun _=>⟨hc,hv⟩,fun _=>⟨hc,b3Z _⟩⟩
theorem eU{B:Int}{c:aN}(n:Int)(h:CO B c)(hB:B<3000000000000000000):yG n c=true∧(CO (B+2) (cV n c).1∧0≤(cV n c).2∧(2≤n→(cV n c).2<n)∧(n≤1→(cV n c).2=0)):=by
 refine aK (t:=T89 n c) (P:=fun r=>CO (B+2) r.1∧0≤r.2∧(2≤n→r.2<n)∧(n≤1→r.2=0)) ?_
 obtain⟨k1,c1,v0,v1⟩:=a74 h (by omega)
 obtain⟨k2,c2,w0,w1⟩:=a74 c1 (by omega)
 unfold T89;simp only[aB,aI,aA,k1,k2,lS,aTW,tH,PF,oP,Bool.and_true,true_and];refine⟨fun hn=>⟨h.mono (by omega),by omega,by omega,fun _=>trivial⟩,fun hn=>⟨fun hb=>⟨by omega,c2.mono (by omega),?_⟩,fun hb=>⟨by omega,c1.mono (by omega),?_⟩⟩⟩
 ·have e:dE (CS c).2 256=(CS c).2*256:=gU (by omega)
  rw[e,bV (by omega)]
  obtain⟨r0,r1⟩:=aTX (x:=(CS c).2*256+(CS (CS c).1).2) (n:=n) (by omega) (by omega)
  exact⟨r0,fun _=>r1,by omega⟩
 ·obtain⟨r0,r1⟩:=aTX (x:=(CS c).2) (n:=n) (by omega) (by omega)
  exact⟨r0,fun _=>r1,by omega⟩
theorem KZ{B:Int}{c:aN}(n:Int)(h:CO B c)(hB:B<3000000000000000000):k86 n c=true∧CO (B+2) (oZ n c).1:=by
 refine aK (t:=T86 n c) (P:=fun r=>CO (B+2) r.1) ?_
 obtain⟨k1,c1,-⟩:=eU n h hB;unfold T86;simp only[aB,aA,k1,Bool.and_true,true_and];exact c1
theorem aD7{B:Int}{c:aN}{r:List Row}(hr:Num r)(hl:1≤r.length)(h:CO B c)(hB:B<3000000000000000000):k90 r c=true∧(CO (B+2) (PP r c).1∧ ∃j,j<r.length∧(PP r c).2=bR r j 0):=by
 refine aK (t:=T90 r c) (P:=fun q=>CO (B+2) q.1∧ ∃j,j<r.length∧q.2=bR r j 0) ?_
 obtain⟨k1,c1,v0,v1,v2⟩:=eU (bX r) h hB;rw[aT]at k1 c1 v0 v1 v2;have hj:(cV (r.length:Int) c).2<(r.length:Int):=by
  by_cases h2:r.length=1
  ·rw[v2 (by omega)];omega
  ·exact v1 (by omega)
 unfold T90;simp only[aB,aA,aT,k1,bPB hr v0 hj,Bool.and_true,true_and];exact⟨c1,_,by omega,rfl⟩
end Go.Proofs.YtdipcnijfkdnfaaGreatWhole

namespace Go.Proofs.YtdipcnijfkdnfaaGreatWhole
open Go Go.Zq
set_option maxHeartbeats 4000000
set_option maxRecDepth 100000
def Acc(r:List Row):Prop:= ∃l:List aE,r=l.map aE.row
theorem aD8{l:List aE}{i:Nat}(h:i<l.length):iG [.int .i64, .int .i64, .int .i64, .int .i64, .int .i64] (l.map aE.row) (i:Int)=true∧aE.at (l.map aE.row) i 0=l[i]:=by
 have e:(l.map aE.row).getD i []=aE.row l[i]:=by simp[List.getD_eq_getElem?_getD,h]
 constructor
 ·simp only[iG,dV,Int.toNat_natCast,e,List.length_map];have:Nat.blt i l.length=true:=by simpa using h
  rw[this];rfl
 ·unfold aE.at bR wB;rw[e];rfl
structure BV(b:bM):Prop where
 n:Num b.Bytes
 a:Acc b.Log
 nb:b.Bytes.length≤512
 nl:b.Log.length≤1000
theorem PG{r:List Row}:dZ (0+r.length) r.length=true∧nX (0+r.length) r.length=true:=by simp
theorem GY{n:Nat}(h:n≤2000):nX (qY n 8) 140737488355328=true∧nX (qY n 40) 140737488355328=true∧nX n 140737488355328=true∧nX (qY (0+n) 8) 140737488355328=true∧nX (qY (0+n) 40) 140737488355328=true∧nX (0+n) 140737488355328=true∧nX (qY (n+1) 8) 140737488355328=true∧nX (qY (n+1) 40) 140737488355328=true∧nX (n+1) 140737488355328=true:=by
 simp only[tG,aD6];omega
theorem a75(a:Int):bEV a=true∧bEU a=cJ a 0 65535:=by
 constructor
 ·simp[bEV,dX,a5A]
 ·simp[bEU,dX,a5A]
theorem EM(a:Int):k73 a=true∧g73 a=cJ a 0 65535:=by
 constructor
 ·simp[k73,dX,T73]
 ·simp[g73,dX,T73]
def dK(s v:Int):Bool:=bif eqI s 1 then cJ v 0 255 else bif eqI s 2 then cJ v 0 65535 else false
theorem a76(s:Int):aV6 s=true∧aF5 s=(eqI s 1||eqI s 2):=by
 constructor
 ·simp[aV6,dX,aJC]
 ·simp only[aF5,dX,aJC,rN,kI];cases eqI s 1<;>rfl
theorem a77(s:Int):aWH s=true∧aGC s=(eqI s 1||eqI s 2):=by
 constructor
 ·simp[aWH,dX,aKF]
 ·simp only[aGC,dX,aKF,rN,kI];cases eqI s 1<;>rfl
theorem aNZ:KL 1=true∧xR 1=256:=by
 refine aK (t:=aMB 1) (P:=fun r=>r=256) ?_
 unfold aMB;simp only[aB,aA]
 decide+kernel
theorem aN0:KL 2=true∧xR 2=65536:=by
 refine aK (t:=aMB 2) (P:=fun r=>r=65536) ?_
 unfold aMB;simp only[aB,aA]
 decide+kernel
theorem aN1:DW 1=true∧pV 1=256:=by
 refine aK (t:=aKG 1) (P:=fun r=>r=256) ?_
 unfold aKG;simp only[aB,aA]
 decide+kernel
theorem aN2:DW 2=true∧pV 2=65536:=by
 refine aK (t:=aKG 2) (P:=fun r=>r=65536) ?_
 unfold aKG;simp only[aB,aA]
 decide+kernel
theorem YX(s v:Int):a49 s v=true∧a48 s v=dK s v:=by
 refine aK (t:=a47 s v) (P:=fun r=>r=dK s v) ?_
 unfold a47 dK;rw[(a76 s).1,(a76 s).2];by_cases h1:s=1
 ·subst h1;rw[aNZ.1,aNZ.2,show cM 256 1=255 from by decide]
  simp[show eqI 1 1=true from rfl]
 ·by_cases h2:s=2
  ·subst h2;rw[aN0.1,aN0.2,show cM 65536 1=65535 from by decide]
   simp[show eqI 2 1=false from rfl,show eqI 2 2=true from rfl]
  ·have e1:eqI s 1=false:=by simp[h1]
   have e2:eqI s 2=false:=by simp[h2]
   simp[e1,e2]
theorem bH9(s v:Int):bKL s v=true∧bKK s v=dK s v:=by
 refine aK (t:=a10 s v) (P:=fun r=>r=dK s v) ?_
 unfold a10 dK;rw[(a77 s).1,(a77 s).2];by_cases h1:s=1
 ·subst h1;rw[aN1.1,aN1.2,show cM 256 1=255 from by decide]
  simp[show eqI 1 1=true from rfl]
 ·by_cases h2:s=2
  ·subst h2;rw[aN2.1,aN2.2,show cM 65536 1=65535 from by decide]
   simp[show eqI 2 1=false from rfl,show eqI 2 2=true from rfl]
  ·have e1:eqI s 1=false:=by simp[h1]
   have e2:eqI s 2=false:=by simp[h2]
   simp[e1,e2]
def accB(a:aE):Bool:=cJ a.Kind 1 3&&(cJ a.Addr 0 65535&&(dK a.Size a.Value&&(cJ a.Code 0 3&&!(eqI a.Kind 3&&eqI a.Code 0))))
theorem bIA(a:aE):bM5 a=true∧bM4 a=accB a:=by
 refine aK (t:=a5B a) (P:=fun r=>r=accB a) ?_
 unfold a5B accB;simp only[aB,aI,aA,aMD,aMC,sS,sT,(a75 _).1,(a75 _).2,(YX _ _).1,(YX _ _).2,Bool.and_true,Bool.true_or,true_and];cases cJ a.Kind 1 3<;>cases dK a.Size a.Value<;>cases cJ a.Addr 0 65535<;>cases cJ a.Code 0 3<;>cases h:eqI a.Kind 3<;>cases h2:eqI a.Code 0<;>simp_all
theorem bIB(a:aE):bKN a=true∧bKM a=accB a:=by
 refine aK (t:=a12 a) (P:=fun r=>r=accB a) ?_
 unfold a12 accB;simp only[aB,aA,aKJ,aKI,kJ,kK,(EM _).1,(EM _).2,(bH9 _ _).1,(bH9 _ _).2,Bool.and_true,Bool.true_or,true_and];cases cJ a.Kind 1 3<;>cases dK a.Size a.Value<;>cases cJ a.Addr 0 65535<;>cases cJ a.Code 0 3<;>cases eqI a.Kind 3<;>cases eqI a.Code 0<;>rfl
theorem aTY{α:Type}{p:α→Bool}{l:List α}{i:Nat}(h:i<l.length)(hz:p l[i]=false):l.all p=false:=by
 rw[List.all_eq_false];exact⟨l[i],List.getElem_mem h,by simp[hz]⟩
theorem aTZ{α:Type}{p:α→Bool}{l:List α}(h: ∀j(hj:j<l.length),p l[j]=true):l.all p=true:=by
 rw[List.all_eq_true];intro z hz;obtain⟨j,hj,rfl⟩:=List.getElem_of_mem hz;exact h j hj
end Go.Proofs.YtdipcnijfkdnfaaGreatWhole

namespace Go.Proofs.YtdipcnijfkdnfaaGreatWhole
open Go Go.Zq
set_option maxHeartbeats 4000000
set_option maxRecDepth 100000
theorem aXQ(zs:List Int)(hl:zs.length<1000000):UX (V164v1_0.mk (ri zs) (bX (ri zs)) 0)=true∧(ltI (KN (V164v1_0.mk (ri zs) (bX (ri zs)) 0)).s7 (KN (V164v1_0.mk (ri zs) (bX (ri zs)) 0)).s6=!dJ zs):=by
 unfold UX KN;refine jA (Post:=fun w=>ltI w.s7 w.s6=!dJ zs) (eY (fun n v=> ∃i:Nat,v=V164v1_0.mk (ri zs) (bX (ri zs)) i∧i≤zs.length∧n=zs.length-i∧ ∀j(hj:j<zs.length),j<i→cJ zs[j] 0 255=true) _ ?_ 2097152 zs.length _ ⟨0,rfl,by omega,by omega,fun j _ h=>absurd h (by omega)⟩ (by omega))
 rintro n v ⟨i,rfl,hi,rfl,hall⟩
 unfold AI;simp only[aB,aI,aA,aT,bB,eD,nV,true_and,Int.toNat_natCast];constructor
 ·intro h;have hi':i<zs.length:=by omega
  rw[vC hi',o9 hi',sS,sT];refine⟨rfl,rfl,fun hz=>?_,fun hz=>?_⟩
  ·rw[VT hi' (by simpa using hz)]
   simpa [ltI]using h
  ·refine⟨_,?_,i+1,?_,by omega,rfl,?_⟩
   ·omega
   ·rw[bV (by omega)];rfl
   ·intro j hj hji;by_cases e:j=i
    ·subst e;simpa using hz
    ·exact hall j hj (by omega)
 ·intro h;rw[VU fun j hj=>hall j hj (by omega)]
  simpa [ltI]using h
theorem aGW(zs:List Int)(hl:zs.length<1000000):aCZ (ri zs)=true∧aCY (ri zs)=dJ zs:=by
 obtain⟨h1,h2⟩:=aXQ zs hl;unfold aCZ aCY aCX UY;rw[dX,dX];simp only[zT,IY,pH,rN,IZ,kI,h1,h2,Bool.true_and];cases dJ zs<;>exact⟨rfl,rfl⟩
theorem bGE(b:bM)(l:List aE)(hl:l.length≤2000):aME (V155_0.mk b (l.map aE.row) (bX (l.map aE.row)) 0)=true∧((VA (V155_0.mk b (l.map aE.row) (bX (l.map aE.row)) 0)).b0=b∧ltI (VA (V155_0.mk b (l.map aE.row) (bX (l.map aE.row)) 0)).s8 (VA (V155_0.mk b (l.map aE.row) (bX (l.map aE.row)) 0)).s7=!l.all accB):=by
 unfold aME VA;refine jA (Post:=fun w:V155_0=>w.b0=b∧ltI w.s8 w.s7=!l.all accB) (eY (fun(m:Nat) (v:V155_0)=> ∃i:Nat,v=V155_0.mk b (l.map aE.row) (bX (l.map aE.row)) i∧i+m=l.length∧ ∀j(hj:j<l.length),j<i→accB l[j]=true) _ ?_ 2097152 l.length _ ⟨0,rfl,by omega,fun j _ h=>absurd h (by omega)⟩ (by omega))
 rintro m v ⟨i,rfl,hi,hall⟩
 unfold NX;simp only[aB,aI,aA,aD,bO,wz,aT,List.length_map,eD,nV,Bool.and_true,true_and,Int.toNat_natCast];constructor
 ·intro h;have hi':i<l.length:=by omega
  obtain⟨p1,p2⟩:=aD8 hi';rw[p1,p2,(bIA _).1,(bIA _).2];refine⟨rfl,rfl,fun hz=>?_,fun hz=>?_⟩
  ·rw[aTY hi' (by simpa using hz)]
   simpa [ltI]using h
  ·refine⟨m-1,by omega,i+1,?_,by omega,?_⟩
   ·rw[bV (by omega)];rfl
   ·intro j hj hji;by_cases e:j=i
    ·subst e;simpa using hz
    ·exact hall j hj (by omega)
 ·intro h;rw[aTZ fun j hj=>hall j hj (by omega)]
  simpa [ltI]using h
theorem bPD{b:bM}(h:BV b){zs:List Int}{l:List aE}(hz:b.Bytes=ri zs)(hl:b.Log=l.map aE.row):bM8 b=true∧bM7 b=(eqI (zs.length:Int) 512&&(leI (l.length:Int) 400&&(dJ zs&&l.all accB))):=by
 refine aK (t:=a5C b) (P:=fun r=>r=(eqI (zs.length:Int) 512&&(leI (l.length:Int) 400&&(dJ zs&&l.all accB)))) ?_
 have n1:=h.nb;have n2:=h.nl;rw[hz,bB]at n1;rw[hl,List.length_map]at n2;obtain⟨a1,a2,a3⟩:=bGE b l (by omega)
 rw[aT,List.length_map]at a1 a2 a3;obtain⟨c1,c2⟩:=aGW zs (by omega)
 unfold a5C;simp only[aB,aI,aA,D6,aD,bO,wz,hl,Bool.and_true,true_and,a1,a2,a3,hz,c1,c2,aT,bB,List.length_map,Bool.true_or];cases l.all accB<;>cases eqI (zs.length:Int) 512<;>cases leI (l.length:Int) 400<;>cases dJ zs<;>simp
structure B512(b:bM):Prop where
 z: ∃zs:List Int,b.Bytes=ri zs∧zs.length=512
 l:b.Log=[]
theorem LA{V:Type}{N:V→Pt (Option V)}(st:Nat→V)(n:Nat)(hn:n<1000000)(h: ∀i,i<n→(N (st i)).Sat (fun r=>r=some (st (i+1))))(he:(N (st n)).Sat (fun r=>r=none)):(hid (dW N 2097152 (st 0))).isSome=true∧(hid (dW N 2097152 (st 0))).getD (st 0)=st n:=by
 refine jA (Post:=fun w=>w=st n) (eY (fun(m:Nat) (v:V)=> ∃i,i+m=n∧v=st i) _ ?_ 2097152 n _ ⟨0,by omega,rfl⟩ (by omega))
 rintro m v ⟨i,hi,rfl⟩
 have mono: ∀{α:Type}{P Q:α→Prop},(∀a,P a→Q a)→ ∀{t:Pt α},t.Sat P→t.Sat Q:=fun{α P Q} hPQ t=>by
  induction t with
  |leaf a=>exact hPQ a
  |ok b x ih=>exact fun h=>⟨h.1,ih h.2⟩
  |br b x y ix iy=>exact fun h=>⟨fun e=>ix (h.1 e),fun e=>iy (h.2 e)⟩
 by_cases e:i=n
 ·subst e;exact mono (fun r hr=>by subst hr;rfl) he
 ·exact mono (fun r hr=>by subst hr;exact⟨m-1,by omega,i+1,by omega,rfl⟩) (h i (by omega))
def jJ(a:Int):Int:=bif cJ a 448 495||leI 512 a then 1 else bif cJ a 384 447 then 3 else 0
theorem a78(a:Int):bDC a=true∧a2H a=jJ a:=by
 refine aK (t:=a2G a) (P:=fun r=>r=jJ a) ?_
 unfold a2G jJ;have e:geI a 512=leI 512 a:=rfl;simp only[aB,aI,aA,kJ,kK,e,Bool.and_true,true_and];cases cJ a 448 495<;>cases leI 512 a<;>cases cJ a 384 447<;>simp
theorem a79(a:Int):aXD a=true∧aMG a=jJ a:=by
 refine aK (t:=a5P a) (P:=fun r=>r=jJ a) ?_
 unfold a5P jJ;have e:geI a 512=leI 512 a:=rfl;simp only[aB,aI,aA,sS,sT,e,Bool.and_true,Bool.true_or,true_and];cases cJ a 448 495<;>cases leI 512 a<;>cases cJ a 384 447<;>simp
def cW(k s a:Int):Int:=bif eqI s 2&&eqI (a%2) 1 then 2 else bif eqI (jJ a) 1||eqI (jJ (a+s-1)) 1 then 1 else bif eqI k 2&&(eqI (jJ a) 3||eqI (jJ (a+s-1)) 3)then 3 else 0
theorem bPE(k s a:Int)(h:cJ a 0 65535=true)(hs:cJ s 0 2=true):bKR k s a=true∧ND k s a=cW k s a:=by
 refine aK (t:=a2I k s a) (P:=fun r=>r=cW k s a) ?_
 rw[aU]at h hs;have e:cM (bE a s) 1=a+s-1:=by rw[bV (by omega),eX (by omega)]
 unfold a2I cW;simp only[aB,aI,aA,aKR,(a78 _).1,(a78 _).2,bPC h.1,e,Bool.and_true,true_and];cases eqI s 2<;>cases eqI (a%2) 1<;>cases eqI (jJ a) 1<;>cases eqI (jJ (a+s-1)) 1<;>cases eqI k 2<;>cases eqI (jJ a) 3<;>cases eqI (jJ (a+s-1)) 3<;>simp
theorem bPF(k s a:Int)(h:cJ a 0 65535=true)(hs:cJ s 0 2=true):bNC k s a=true∧aC2 k s a=cW k s a:=by
 refine aK (t:=a5Q k s a) (P:=fun r=>r=cW k s a) ?_
 rw[aU]at h hs;have e:cM (bE a s) 1=a+s-1:=by rw[bV (by omega),eX (by omega)]
 unfold a5Q cW;simp only[aB,aI,aA,aMH,(a79 _).1,(a79 _).2,b3Y,e,Bool.and_true,Bool.true_or,true_and];cases eqI s 2<;>cases eqI (a%2) 1<;>cases eqI (jJ a) 1<;>cases eqI (jJ (a+s-1)) 1<;>cases eqI k 2<;>cases eqI (jJ a) 3<;>cases eqI (jJ (a+s-1)) 3<;>simp
theorem a8A(k s a:Int):cJ (cW k s a) 0 3=true:=by
 unfold cW;cases eqI s 2&&eqI (a%2) 1<;>cases eqI (jJ a) 1||eqI (jJ (a+s-1)) 1<;>cases eqI k 2&&(eqI (jJ a) 3||eqI (jJ (a+s-1)) 3)<;>rfl
theorem LB{a:Int}:(jJ a≠1→a<448∨(496≤a∧a<512))∧(jJ a≠1→jJ a≠3→a<384∨496≤a):=by
 unfold jJ;cases h1:cJ a 448 495<;>cases h2:leI 512 a<;>cases h3:cJ a 384 447<;>simp[cJ]at* <;>omega
theorem aD9{k s a:Int}(h:cW k s a=0):cW 1 s a=0∧(a<448∨(496≤a∧a<512))∧(a+s-1<448∨(496≤a+s-1∧a+s-1<512))∧(k=2→(a<384∨496≤a)∧(a+s-1<384∨496≤a+s-1)):=by
 unfold cW at*;cases h1:eqI s 2&&eqI (a%2) 1
 ·cases h2:eqI (jJ a) 1||eqI (jJ (a+s-1)) 1
  ·rw[h1,h2]at h;rw[Bool.or_eq_false_iff,iS,iS]at h2;refine⟨rfl,LB.1 h2.1,LB.1 h2.2,fun e=>?_⟩
   subst e;cases h3:eqI (jJ a) 3||eqI (jJ (a+s-1)) 3
   ·rw[Bool.or_eq_false_iff,iS,iS]at h3;exact⟨LB.2 h2.1 h3.1,LB.2 h2.2 h3.2⟩
   ·rw[h3,show eqI 2 2=true from rfl]at h;simp at h
  ·rw[h1,h2]at h;simp at h
 ·rw[h1]at h;simp at h
end Go.Proofs.YtdipcnijfkdnfaaGreatWhole

namespace Go.Proofs.YtdipcnijfkdnfaaGreatWhole
open Bool renaming and_true → qt
open Bool renaming true_eq_false → q_1
open Bool renaming false_eq_true → q_2
open Int renaming toNat_natCast → q_m
open Go Go.Zq
set_option maxHeartbeats 4000000
set_option maxRecDepth 100000
def wk(s v:Int)(a:Nat)(zs:List Int):Nat→List Int
 |0=>zs
 |1=>zs.set a (bif eqI s 1 then v%256 else v/256)
 |_=>(zs.set a (v/256)).set (a+1) (v%256)
def rkq(a:Nat)(zs:List Int):Nat→Int
 |0=>0
 |1=>zs.getD a 0
 |_=>zs.getD a 0*256+zs.getD (a+1) 0
theorem tI{zs:List Int}{i:Nat}(h:i<zs.length):zs.getD i 0=zs[i]:=by simp[List.getD_eq_getElem?_getD,h]
theorem LC{zs:List Int}(h:dJ zs=true){i:Nat}(hi:i<zs.length):0≤zs[i]∧zs[i]<256:=by
 have:=List.all_eq_true.1 h _ (List.getElem_mem hi);rw[aU]at this;omega
structure TouchOk(s v:Int)(zs:List Int)(l:List aE):Prop where
 hs:s=1∨s=2
 hv:dK s v=true
 hz:zs.length=512
 hb:dJ zs=true
 hl:l.length≤400
theorem QE{s v:Int}(hs:s=1∨s=2)(h:dK s v=true):0≤v∧v<65536∧(s=1→v<256):=by
 unfold dK at h;rcases hs with rfl|rfl
 ·rw[show eqI 1 1=true from rfl,cond_true,aU]at h;omega
 ·rw[show eqI 2 1=false from rfl,show eqI 2 2=true from rfl,cond_true,cond_false,aU]at h;omega
theorem yJ{zs:List Int}{a:Nat}(h:a<zs.length):leI 0 (a:Int)=true∧ltI (a:Int) (zs.length:Int)=true∧blt a zs.length=true∧j7 (j8 (ri zs) a) 1=true∧dV [.int .i64] (ri zs) a 0=true:=by
 refine⟨by simp,by simp;exact h,by simp;exact h,by rw[yI h];rfl,FV ⟨zs,rfl⟩ (by rw[bB];exact h)⟩
theorem b30{v:Int}:fF v 0=v:=by rw[kW (n:=0) 0 rfl (by omega)];simp
theorem bPG{v:Int}:fF v 8=v/256:=by rw[kW (n:=8) 8 rfl (by omega)];rfl
theorem bGF{s v:Int}{a:Nat}{zs:List Int}{l:List aE}(h:TouchOk s v zs l)(hc:cW 2 s a=0):aMJ (V209_0.mk ⟨ri zs,l.map aE.row⟩ 2 s a v 0 v 0)=true∧aMI (V209_0.mk ⟨ri zs,l.map aE.row⟩ 2 s a v 0 v 0)=V209_0.mk ⟨ri (wk s v a zs s.toNat),l.map aE.row⟩ 2 s a v 0 v s:=by
 obtain⟨-,q1,q2,q3⟩:=aD9 hc;obtain⟨v0,v1,v2⟩:=QE h.hs h.hv;have hz:=h.hz;have hl:=h.hl;have e22:eqI 2 2=true:=rfl;have an:bF v 255=v%256:=zU v0 (by omega)
 have an8:bF (v/256) 255=v/256:=by rw[zU (by omega) (by omega)];omega
 have:=LA (N:=sR) (fun i=>V209_0.mk ⟨ri (wk s v a zs i),l.map aE.row⟩ 2 s a v 0 v i) s.toNat (by rcases h.hs with rfl|rfl<;>decide) ?_ ?_
 ·rw[show((s.toNat:Nat):Int)=s from by rcases h.hs with rfl|rfl<;>rfl]at this
  exact this
 ·intro i hi;have p:bE (a:Int) ((i:Nat):Int)=((a+i:Nat):Int):=by
   have:s.toNat≤2:=by rcases h.hs with rfl|rfl<;>decide
   rw[bV (by omega)];omega
  rcases h.hs with rfl|rfl
  ·obtain rfl:i=0:=by have:Int.toNat 1=1:=rfl;omega
   have p2:yE .u64 (dE 8 (cM (cM 1 1) ((0:Nat):Int)))=0:=by decide
   have p3:ltI ((0:Nat):Int) 1=true:=by decide
   have p4:bE ((0:Nat):Int) 1=((0+1:Nat):Int):=by decide
   obtain⟨c1,c2,c3,c4,c5⟩:=yJ (zs:=zs) (a:=a) (by omega)
   unfold sR;simp only[aB,aI,aA,sQ,sP,sO,sN,wk,p,p2,p3,p4,b30,an,q_m,Nat.zero_add,Nat.add_zero,aT,bB,dY,List.length_set,aD,bO,wz,e22,show eqI 1 1=true from rfl,show leI 0 0=true from rfl,c1,c2,c3,c4,c5,qt,true_and,cond_true,implies_true,q_1,false_implies,and_true]
  ·obtain rfl|rfl:i=0∨i=1:=by have:Int.toNat 2=2:=rfl;omega
   ·have p2:yE .u64 (dE 8 (cM (cM 2 1) ((0:Nat):Int)))=8:=by decide
    have p3:ltI ((0:Nat):Int) 2=true:=by decide
    have p4:bE ((0:Nat):Int) 1=((0+1:Nat):Int):=by decide
    obtain⟨c1,c2,c3,c4,c5⟩:=yJ (zs:=zs) (a:=a) (by omega)
    unfold sR;simp only[aB,aI,aA,sQ,sP,sO,sN,wk,p,p2,p3,p4,bPG,an8,q_m,Nat.zero_add,Nat.add_zero,aT,bB,dY,List.length_set,aD,bO,wz,e22,show eqI 2 1=false from rfl,show leI 0 8=true from rfl,c1,c2,c3,c4,c5,qt,true_and,cond_true,cond_false,implies_true,q_1,false_implies,and_true]
   ·have p2:yE .u64 (dE 8 (cM (cM 2 1) ((1:Nat):Int)))=0:=by decide
    have p3:ltI ((1:Nat):Int) 2=true:=by decide
    have p4:bE ((1:Nat):Int) 1=((1+1:Nat):Int):=by decide
    obtain⟨c1,c2,c3,c4,c5⟩:=yJ (zs:=zs.set a (v/256)) (a:=a+1) (by rw[List.length_set];omega)
    rw[List.length_set]at c2 c3;unfold sR;simp only[aB,aI,aA,sQ,sP,sO,sN,wk,p,p2,p3,p4,b30,an,q_m,Nat.zero_add,aT,bB,dY,List.length_set,aD,bO,wz,e22,show eqI 2 1=false from rfl,show leI 0 0=true from rfl,c1,c2,c3,c4,c5,qt,true_and,cond_true,cond_false,implies_true,q_1,false_implies,and_true]
 ·have p3:ltI ((s.toNat:Nat):Int) s=false:=by rcases h.hs with rfl|rfl<;>decide
  unfold sR;simp only[aB,aI,aA,p3,q_2,false_implies,implies_true,true_and]
theorem bGG{k s v:Int}{a:Nat}{zs:List Int}{l:List aE}(h:TouchOk s v zs l)(hk:eqI k 2=false)(hc:cW k s a=0):aMJ (V209_0.mk ⟨ri zs,l.map aE.row⟩ k s a v 0 0 0)=true∧aMI (V209_0.mk ⟨ri zs,l.map aE.row⟩ k s a v 0 0 0)=V209_0.mk ⟨ri zs,l.map aE.row⟩ k s a v 0 (rkq a zs s.toNat) s:=by
 obtain⟨-,q1,q2,q3⟩:=aD9 hc;have hz:=h.hz;have hl:=h.hl;have:=LA (N:=sR) (fun i=>V209_0.mk ⟨ri zs,l.map aE.row⟩ k s a v 0 (rkq a zs i) i) s.toNat (by rcases h.hs with rfl|rfl<;>decide) ?_ ?_
 ·rw[show((s.toNat:Nat):Int)=s from by rcases h.hs with rfl|rfl<;>rfl]at this
  exact this
 ·intro i hi;have p:bE (a:Int) ((i:Nat):Int)=((a+i:Nat):Int):=by
   have:s.toNat≤2:=by rcases h.hs with rfl|rfl<;>decide
   rw[bV (by omega)];omega
  have p4:bE ((i:Nat):Int) 1=((i+1:Nat):Int):=by
   have:s.toNat≤2:=by rcases h.hs with rfl|rfl<;>decide
   rw[bV (by omega)];omega
  have ha:a+i<zs.length:=by
   rcases h.hs with rfl|rfl
   ·have:Int.toNat 1=1:=rfl;omega
   ·have:Int.toNat 2=2:=rfl;omega
  obtain⟨c1,c2,c3,c4,c5⟩:=yJ ha;have p3:ltI ((i:Nat):Int) s=true:=by rw[eD];omega
  have p5:fB (m9 (rkq a zs i) 8) zs[a+i]=rkq a zs (i+1):=by
   have b1:=LC h.hb ha;obtain rfl|rfl:i=0∨i=1:=by
    have:s.toNat≤2:=by rcases h.hs with rfl|rfl<;>decide
    omega
   ·simp only[rkq];rw[bGC (by omega) (by omega),VS (by omega) (by omega) b1.1 b1.2,tI (by omega)]
    simp
   ·have b2:=LC h.hb (i:=a) (by omega)
    simp only[rkq];rw[tI (show a<zs.length by omega),tI ha,bGC b2.1 (by omega),VS (by omega) (by omega) b1.1 b1.2]
  unfold sR;simp only[aB,aI,aA,sQ,sP,sO,sN,p,p3,p4,p5,o9 ha,q_m,Nat.zero_add,aT,bB,aD,bO,wz,hk,c1,c2,c3,c4,c5,qt,true_and,implies_true,q_1,q_2,false_implies,and_true]
 ·have p3:ltI ((s.toNat:Nat):Int) s=false:=by rcases h.hs with rfl|rfl<;>decide
  unfold sR;simp only[aB,aI,aA,p3,q_2,false_implies,implies_true,true_and]
def tB(k s a v:Int)(zs:List Int):List Int:=bif eqI (cW k s a) 0&&eqI k 2 then wk s v a.toNat zs s.toNat else zs
def tV(k s a v:Int)(zs:List Int):Int:=bif eqI k 2 then v else bif eqI (cW k s a) 0 then rkq a.toNat zs s.toNat else 0
def tL(k s a v:Int)(zs:List Int)(l:List aE):List aE:=bif ltI (l.length:Int) 400&&!(eqI k 3&&eqI (cW k s a) 0)then l++[⟨k,s,a,tV k s a v zs,cW k s a⟩]else l
theorem FX(l:List aE)(x:aE):l.map aE.row++[aE.row x]=(l++[x]).map aE.row:=by simp
theorem bGH{k s a v:Int}{zs:List Int}{l:List aE}(h:TouchOk s v zs l)(ha:cJ a 0 65535=true):bE8 k s a v ⟨ri zs,l.map aE.row⟩=true∧bE7 k s a v ⟨ri zs,l.map aE.row⟩=(⟨ri (tB k s a v zs),(tL k s a v zs l).map aE.row⟩,tV k s a v zs,cW k s a):=by
 refine aK (t:=aMK k s a v ⟨ri zs,l.map aE.row⟩) (P:=fun r=>r=(⟨ri (tB k s a v zs),(tL k s a v zs l).map aE.row⟩,tV k s a v zs,cW k s a)) ?_
 obtain⟨c1,c2⟩:=bPF k s a ha (by rcases h.hs with rfl|rfl<;>decide)
 have hl:=h.hl;obtain⟨r1,r2,r3,r4,r5,r6,r7,r8,r9⟩:=GY (n:=l.length) (by omega)
 obtain⟨m,rfl⟩: ∃m:Nat,a=(m:Int):=⟨a.toNat,by rw[aU]at ha;omega⟩
 have z1:dZ (0+l.length) l.length=true:=by simp
 have z2:nX (0+l.length) l.length=true:=by simp
 have n0:dD (cW k s m) 0=!eqI (cW k s m) 0:=rfl;have n2:dD k 2=!eqI k 2:=rfl;have n3:dD k 3=!eqI k 3:=rfl;cases hc:eqI (cW k s m) 0
 ·unfold aMK tB tL tV;simp only[aB,aI,aA,VG,VF,VE,VD,aC6,zH,jT,c1,c2,hc,n0,n2,n3,z1,z2,r8,r9,FX,qt,true_and,aT,List.length_map,aD,bO,wz,q_2,false_implies,Bool.and_false,Bool.false_and,Bool.not_false,cond_false,cond_true,forall_const];cases ltI (l.length:Int) 400<;>cases eqI k 2<;>cases eqI k 3<;>simp
 ·have hc':=eC.1 hc;cases hk:eqI k 2
  ·obtain⟨d1,d2⟩:=bGG (a:=m) h hk hc';unfold aMK tB tL tV;simp only[aB,aI,aA,VG,VF,VE,VD,aC6,zH,jT,c1,c2,hc,hc',hk,d1,d2,n2,n3,show dD 0 0=false from rfl,show eqI 0 0=true from rfl,z1,z2,r8,r9,FX,bB,qt,true_and,aT,List.length_map,aD,bO,wz,q_m,q_1,q_2,false_implies,Bool.and_false,Bool.not_false,Bool.not_true,cond_false,cond_true,forall_const,and_true]
   cases ltI (l.length:Int) 400<;>cases eqI k 3<;>simp
  ·obtain rfl:=eC.1 hk;obtain⟨d1,d2⟩:=bGF (a:=m) h hc';unfold aMK tB tL tV;simp only[aB,aI,aA,VG,VF,VE,VD,aC6,zH,jT,c1,c2,hc,hc',hk,d1,d2,n2,n3,show eqI 2 3=false from rfl,show dD 0 0=false from rfl,show eqI 0 0=true from rfl,z1,z2,r8,r9,FX,bB,qt,true_and,aT,List.length_map,aD,bO,wz,q_m,q_1,q_2,false_implies,Bool.and_false,Bool.false_and,Bool.not_false,Bool.not_true,cond_false,cond_true,forall_const,and_true]
   cases ltI (l.length:Int) 400<;>simp
theorem b31{s v:Int}{a:Nat}{zs:List Int}{l:List aE}(h:TouchOk s v zs l)(hc:cW 2 s a=0):bKU s a v ⟨ri zs,l.map aE.row⟩=true∧KE s a v ⟨ri zs,l.map aE.row⟩=⟨ri (wk s v a zs s.toNat),l.map aE.row⟩:=by
 refine aK (t:=a2J s a v ⟨ri zs,l.map aE.row⟩) (P:=fun r=>r=⟨ri (wk s v a zs s.toNat),l.map aE.row⟩) ?_
 obtain⟨-,q1,q2,q3⟩:=aD9 hc;obtain⟨v0,v1,v2⟩:=QE h.hs h.hv;have hz:=h.hz;have an:bF v 255=v%256:=zU v0 (by omega)
 have p:bE (a:Int) 1=((a+1:Nat):Int):=by rw[bV (by omega)];omega
 obtain⟨c1,c2,c3,c4,c5⟩:=yJ (zs:=zs) (a:=a) (by omega)
 unfold a2J;rcases h.hs with rfl|rfl
 ·simp only[aB,aI,aA,aBS,aBR,aBQ,aBP,TM,aBO,show eqI 1 2=false from rfl,an,p,c1,c2,c3,c4,c5,aT,bB,dY,List.length_set,List.length_map,aD,bO,wz,q_m,Nat.zero_add,qt,true_and,q_2,false_implies,forall_const]
  rfl
 ·obtain⟨d1,d2,d3,d4,d5⟩:=yJ (zs:=zs.set a (v/256)) (a:=a+1) (by rw[List.length_set];omega)
  rw[List.length_set]at d2 d3;simp only[aB,aI,aA,aBS,aBR,aBQ,aBP,TM,aBO,show eqI 2 2=true from rfl,an,p,bPG,c1,c2,c3,c4,c5,d1,d2,d3,d4,d5,aT,bB,dY,List.length_set,List.length_map,aD,bO,wz,q_m,Nat.zero_add,qt,true_and,q_1,false_implies,forall_const,and_true]
  rfl
theorem cHH{k s v:Int}{a:Nat}{zs:List Int}{l:List aE}(h:TouchOk s v zs l)(hc:cW k s a=0):bKX s a ⟨ri zs,l.map aE.row⟩=true∧a2L s a ⟨ri zs,l.map aE.row⟩=rkq a zs s.toNat:=by
 refine aK (t:=a2K s a ⟨ri zs,l.map aE.row⟩) (P:=fun r=>r=rkq a zs s.toNat) ?_
 obtain⟨-,q1,q2,q3⟩:=aD9 hc;have hz:=h.hz;have p:bE (a:Int) 1=((a+1:Nat):Int):=by rw[bV (by omega)];omega
 have ha:a<zs.length:=by omega
 obtain⟨c1,c2,c3,c4,c5⟩:=yJ ha;unfold a2K;rcases h.hs with rfl|rfl
 ·simp only[aB,aI,aA,aBU,aBT,show eqI 1 1=true from rfl,p,c1,c2,c3,c4,c5,o9 ha,aD,bO,wz,aT,bB,q_m,Nat.zero_add,qt,true_and,q_1,false_implies,forall_const,and_true]
  exact(tI ha).symm
 ·have ha2:a+1<zs.length:=by omega
  obtain⟨d1,d2,d3,d4,d5⟩:=yJ ha2;have b1:=LC h.hb ha;have b2:=LC h.hb ha2;simp only[aB,aI,aA,aBU,aBT,show eqI 2 1=false from rfl,p,c1,c2,c3,c4,c5,d1,d2,d3,d4,d5,o9 ha,o9 ha2,aD,bO,wz,aT,bB,q_m,Nat.zero_add,qt,true_and,q_2,false_implies,forall_const]
  rw[bGC b1.1 (by omega),VS b1.1 (by omega) b2.1 b2.2]
  simp only[show Int.toNat 2=2 from rfl,rkq]
  rw[tI ha,tI ha2]
theorem FY{k s a v:Int}{zs:List Int}{l:List aE}(h:TouchOk s v zs l)(ha:cJ a 0 65535=true)(hv:eqI k 2=false→v=0):H7 k s a v ⟨ri zs,l.map aE.row⟩=true∧KI k s a v ⟨ri zs,l.map aE.row⟩=(⟨ri (tB k s a v zs),(tL k s a v zs l).map aE.row⟩,(bif eqI k 2 then 0 else tV k s a v zs),cW k s a):=by
 refine aK (t:=aKS k s a v ⟨ri zs,l.map aE.row⟩) (P:=fun r=>r=(⟨ri (tB k s a v zs),(tL k s a v zs l).map aE.row⟩,(bif eqI k 2 then 0 else tV k s a v zs),cW k s a)) ?_
 obtain⟨c1,c2⟩:=bPE k s a ha (by rcases h.hs with rfl|rfl<;>decide)
 have hl:=h.hl;obtain⟨r1,r2,r3,r4,r5,r6,r7,r8,r9⟩:=GY (n:=l.length) (by omega)
 obtain⟨m,rfl⟩: ∃m:Nat,a=(m:Int):=⟨a.toNat,by rw[aU]at ha;omega⟩
 have z1:dZ (0+l.length) l.length=true:=by simp
 have z2:nX (0+l.length) l.length=true:=by simp
 have n0:dD (cW k s m) 0=!eqI (cW k s m) 0:=rfl;have n2:dD k 2=!eqI k 2:=rfl;cases hc:eqI (cW k s m) 0
 ·unfold aKS tB tL tV;simp only[aB,aI,aA,KH,KG,KF,TW,TV,TU,TT,TS,TR,TQ,TP,TO,TN,c1,c2,hc,n0,n2,z1,z2,r8,r9,FX,qt,true_and,aT,List.length_map,aD,bO,wz,q_1,q_2,false_implies,Bool.and_false,Bool.false_and,Bool.not_false,cond_false,cond_true,forall_const,and_true];cases ltI (l.length:Int) 400<;>cases eqI k 2<;>cases eqI k 3<;>simp
 ·have hc':=eC.1 hc;cases hk:eqI k 2
  ·obtain⟨d1,d2⟩:=cHH (a:=m) h hc';unfold aKS tB tL tV;simp only[aB,aI,aA,KH,KG,KF,TW,TV,TU,TT,TS,TR,TQ,TP,TO,TN,c1,c2,hc,hc',hk,d1,d2,n2,show dD 0 0=false from rfl,show eqI 0 0=true from rfl,z1,z2,r8,r9,FX,bB,qt,true_and,aT,List.length_map,aD,bO,wz,q_m,q_1,q_2,false_implies,Bool.and_false,Bool.not_false,Bool.not_true,cond_false,cond_true,forall_const,and_true]
   cases ltI (l.length:Int) 400<;>cases eqI k 3<;>simp
  ·obtain rfl:=eC.1 hk;obtain⟨d1,d2⟩:=b31 (a:=m) h hc';unfold aKS tB tL tV;simp only[aB,aI,aA,KH,KG,KF,TW,TV,TU,TT,TS,TR,TQ,TP,TO,TN,c1,c2,hc,hc',hk,d1,d2,n2,show eqI 2 3=false from rfl,show dD 0 0=false from rfl,show eqI 0 0=true from rfl,z1,z2,r8,r9,FX,bB,qt,true_and,aT,List.length_map,aD,bO,wz,q_m,q_1,q_2,false_implies,Bool.and_false,Bool.false_and,Bool.not_false,Bool.not_true,cond_false,cond_true,forall_const,and_true]
   cases ltI (l.length:Int) 400<;>simp
end Go.Proofs.YtdipcnijfkdnfaaGreatWhole

namespace Go.Proofs.YtdipcnijfkdnfaaGreatWhole
open Go Go.Zq
set_option maxHeartbeats 4000000
set_option maxRecDepth 100000
def cD(s:Int):Int:=bif eqI s 1 then 256 else 65536
theorem lC{s:Int}(h:s=1∨s=2):KL s=true∧xR s=cD s:=by
 rcases h with rfl|rfl
 ·exact aNZ
 ·exact aN0
theorem iT{s:Int}(h:s=1∨s=2):DW s=true∧pV s=cD s:=by
 rcases h with rfl|rfl
 ·exact aN1
 ·exact aN2
theorem p7{s v:Int}(h:dK s v=true):(s=1∨s=2)∧0≤v∧v<cD s:=by
 unfold dK at h;cases e1:eqI s 1
 ·cases e2:eqI s 2
  ·rw[e1,e2]at h;simp at h
  ·rw[e1,e2,cond_true,cond_false,aU]at h;unfold cD;rw[e1];rw[eC]at e2;exact⟨Or.inr e2,by omega,by rw[cond_false];omega⟩
 ·rw[e1,cond_true,aU]at h;unfold cD;rw[e1];rw[eC]at e1;exact⟨Or.inl e1,by omega,by rw[cond_true];omega⟩
def AS(s v:Int):Int:=bif geI v (cD s/2)then v-cD s else v
theorem aN3{s:Int}(h:s=1∨s=2):lW (cD s) 2=cD s/2:=by
 rcases h with rfl|rfl<;>decide
theorem rO{s:Int}(h:s=1∨s=2):cD s=256∨cD s=65536:=by
 rcases h with rfl|rfl
 ·exact Or.inl rfl
 ·exact Or.inr rfl
theorem GZ{s v:Int}(h:s=1∨s=2)(h0:0≤v)(h1:v<1000000):aDL s v=true∧aDK s v=AS s v:=by
 refine aK (t:=a6A s v) (P:=fun r=>r=AS s v) ?_
 have l:=rO h;have e:cM v (cD s)=v-cD s:=eX (by omega)
 unfold a6A AS;simp only[aB,aI,aA,(lC h).1,(lC h).2,aN3 h,e,Bool.and_true,true_and];exact⟨fun hh=>by rw[hh];rfl,fun hh=>by rw[hh];rfl⟩
theorem fS(b:Bool)(x:Int):yU b x=true∧yT b x=bif b then x else 0:=by
 refine aK (t:=aJB b x) (P:=fun r=>r=bif b then x else 0) ?_
 unfold aJB;simp only[aB,aI,aA,true_and];exact⟨fun h=>by rw[h];rfl,fun h=>by rw[h];rfl⟩
theorem GE{s v:Int}(h:s=1∨s=2):aMX s v=true∧aMW s v=fB (bif eqI v 0 then 4 else 0) (bif geI v (cD s/2)then 8 else 0):=by
 refine aK (t:=a59 s v) (P:=fun r=>r=fB (bif eqI v 0 then 4 else 0) (bif geI v (cD s/2)then 8 else 0)) ?_
 unfold a59;simp only[aB,aA,(fS _ _).1,(fS _ _).2,(lC h).1,(lC h).2,aN3 h,Bool.and_true,true_and]
theorem YY{s v:Int}(h:s=1∨s=2)(h0:0≤v)(h1:v<1000000):aGH s v=true∧aB5 s v=AS s v:=by
 refine aK (t:=a3L s v) (P:=fun r=>r=AS s v) ?_
 have l:=rO h;have e:cM v (cD s)=v-cD s:=eX (by omega)
 unfold a3L AS;simp only[aB,aI,aA,(iT h).1,(iT h).2,aN3 h,e,Bool.and_true,true_and];exact⟨fun hh=>by rw[hh];rfl,fun hh=>by rw[hh];rfl⟩
theorem zV(b:Bool)(x:Int):zA b x=true∧yZ b x=bif b then x else 0:=by
 refine aK (t:=aBV b x) (P:=fun r=>r=bif b then x else 0) ?_
 unfold aBV;simp only[aB,aI,aA,true_and];exact⟨fun h=>by rw[h];rfl,fun h=>by rw[h];rfl⟩
theorem aXR{s v:Int}(h:s=1∨s=2):aWT s v=true∧aWS s v=fB (bif eqI v 0 then 4 else 0) (bif geI v (cD s/2)then 8 else 0):=by
 refine aK (t:=a3H s v) (P:=fun r=>r=fB (bif eqI v 0 then 4 else 0) (bif geI v (cD s/2)then 8 else 0)) ?_
 unfold a3H;simp only[aB,aA,(zV _ _).1,(zV _ _).2,(iT h).1,(iT h).2,aN3 h,Bool.and_true,true_and]
def fl(c o z n:Bool):Int:=fB (fB (bif c then 17 else 0) (bif o then 2 else 0)) (fB (bif z then 4 else 0) (bif n then 8 else 0))
theorem mask{s v:Int}(h:s=1∨s=2):bF v (cM (cD s) 1)=v%cD s:=by
 rcases h with rfl|rfl
 ·exact jF 8 _ (by omega) (by decide)
 ·exact jF 16 _ (by omega) (by decide)
def aEA(s c a b:Int):Int×Int:=((a+b+c)%cD s,fl (dD (a+b+c) ((a+b+c)%cD s)) (dD (AS s a+AS s b+c) (AS s ((a+b+c)%cD s))) (eqI ((a+b+c)%cD s) 0) (geI ((a+b+c)%cD s) (cD s/2)))
def I1(s a b:Int):Int:=fl (dD (a-b) ((a-b)%cD s)) (dD (AS s a-AS s b) (AS s ((a-b)%cD s))) (eqI ((a-b)%cD s) 0) (geI ((a-b)%cD s) (cD s/2))
theorem yK{s v:Int}(h:s=1∨s=2)(h0:0≤v)(h1:v<cD s): -65536≤AS s v∧AS s v<65536:=by
 have l:=rO h;unfold AS;cases geI v (cD s/2)
 ·rw[cond_false];omega
 ·rw[cond_true];omega
theorem bGI{s x y:Int}(h:s=1∨s=2):bDR s x y=true∧bDQ s x y=(x%cD s,fl (dD x (x%cD s)) (dD y (AS s (x%cD s))) (eqI (x%cD s) 0) (geI (x%cD s) (cD s/2))):=by
 refine aK (t:=a3M s x y) (P:=fun r=>r=(x%cD s,fl (dD x (x%cD s)) (dD y (AS s (x%cD s))) (eqI (x%cD s) 0) (geI (x%cD s) (cD s/2)))) ?_
 have l:=rO h;have r0:0≤x%cD s:=Int.emod_nonneg _ (by omega)
 have r1:x%cD s<cD s:=Int.emod_lt_of_pos _ (by omega)
 obtain⟨a1,a2⟩:=YY (v:=x%cD s) h r0 (by omega)
 unfold a3M fl;simp only[aB,aA,aLJ,(iT h).1,(iT h).2,mask h,a1,a2,(zV _ _).1,(zV _ _).2,(aXR h).1,(aXR h).2,Bool.and_true,true_and]
theorem b32{s c a b:Int}(hc:c=0∨c=1)(ha:dK s a=true)(hb:dK s b=true):bLK s c a b=true∧bLJ s c a b=aEA s c a b:=by
 refine aK (t:=a3P s c a b) (P:=fun r=>r=aEA s c a b) ?_
 obtain⟨h,a0,a1⟩:=p7 ha;obtain⟨-,b0,b1⟩:=p7 hb;have l:=rO h;have sa:=yK h a0 a1;have sb:=yK h b0 b1;obtain⟨p1,p2⟩:=YY h a0 (by omega)
 obtain⟨q1,q2⟩:=YY h b0 (by omega)
 have e1:bE (bE a b) c=a+b+c:=by rw[bV (x:=a) (by omega),bV (by omega)]
 have e2:bE (bE (AS s a) (AS s b)) c=AS s a+AS s b+c:=by rw[bV (x:=AS s a) (by omega),bV (by omega)]
 unfold a3P;simp only[aB,aA,aLN,aLM,p1,p2,q1,q2,e1,e2,(bGI h).1,(bGI h).2,Bool.and_true,true_and];rfl
theorem b33{s c a b:Int}(hc:c=0∨c=1)(ha:dK s a=true)(hb:dK s b=true):bN4 s c a b=true∧bN3 s c a b=aEA s c a b:=by
 refine aK (t:=a66 s c a b) (P:=fun r=>r=aEA s c a b) ?_
 obtain⟨h,a0,a1⟩:=p7 ha;obtain⟨-,b0,b1⟩:=p7 hb;have l:=rO h;have sa:=yK h a0 a1;have sb:=yK h b0 b1;obtain⟨p1,p2⟩:=GZ h a0 (by omega)
 obtain⟨q1,q2⟩:=GZ h b0 (by omega)
 have e1:bE (bE a b) c=a+b+c:=by rw[bV (x:=a) (by omega),bV (by omega)]
 have e2:bE (bE (AS s a) (AS s b)) c=AS s a+AS s b+c:=by rw[bV (x:=AS s a) (by omega),bV (by omega)]
 have r0:0≤(a+b+c)%cD s:=Int.emod_nonneg _ (by omega)
 have r1:(a+b+c)%cD s<cD s:=Int.emod_lt_of_pos _ (by omega)
 obtain⟨t1,t2⟩:=GZ (v:=(a+b+c)%cD s) h r0 (by omega)
 unfold a66 aEA fl;simp only[aB,aA,aNJ,aNI,IR,(lC h).1,(lC h).2,mask h,p1,p2,q1,q2,e1,e2,t1,t2,(fS _ _).1,(fS _ _).2,(GE h).1,(GE h).2,Bool.and_true,true_and]
theorem a8C{s a b:Int}(ha:dK s a=true)(hb:dK s b=true):aGJ s 0 a b=true∧(aDN s 0 a b).2=I1 s a b:=by
 refine aK (t:=aMZ s 0 a b) (P:=fun r=>r.2=I1 s a b) ?_
 obtain⟨h,a0,a1⟩:=p7 ha;obtain⟨-,b0,b1⟩:=p7 hb;have l:=rO h;have sa:=yK h a0 a1;have sb:=yK h b0 b1;obtain⟨p1,p2⟩:=GZ h a0 (by omega)
 obtain⟨q1,q2⟩:=GZ h b0 (by omega)
 have e1:cM (cM a b) 0=a-b:=by rw[eX (x:=a) (by omega),eX (by omega)];omega
 have e2:cM (cM (AS s a) (AS s b)) 0=AS s a-AS s b:=by rw[eX (x:=AS s a) (by omega),eX (by omega)];omega
 have r0:0≤(a-b)%cD s:=Int.emod_nonneg _ (by omega)
 have r1:(a-b)%cD s<cD s:=Int.emod_lt_of_pos _ (by omega)
 obtain⟨t1,t2⟩:=GZ (v:=(a-b)%cD s) h r0 (by omega)
 have e3:ltI (a-b) 0=dD (a-b) ((a-b)%cD s):=by
  cases hh:ltI (a-b) 0
  ·rw[nV]at hh
   symm;rw[PE,Int.emod_eq_of_lt hh (by omega)]
  ·rw[eD]at hh
   symm;rw[oP];omega
 unfold aMZ I1 fl;simp only[aB,aA,aDM,IH,(lC h).1,(lC h).2,mask h,p1,p2,q1,q2,e1,e2,e3,t1,t2,(fS _ _).1,(fS _ _).2,(GE h).1,(GE h).2,Bool.and_true,true_and]
end Go.Proofs.YtdipcnijfkdnfaaGreatWhole

namespace Go.Proofs.YtdipcnijfkdnfaaGreatWhole
open Go Go.Zq
set_option maxHeartbeats 4000000
set_option maxRecDepth 100000
theorem PH(a:Int):k77 a=true∧g77 a=cJ a 0 65535:=by
 constructor
 ·simp[k77,dX,T77]
 ·simp[g77,dX,T77]
theorem bIC(a:Int):k73 a=true∧g73 a=cJ a 0 65535:=by
 constructor
 ·simp[k73,dX,T73]
 ·simp[g73,dX,T73]
def xH(s:Int):Bool:=bif eqI s 1 then true else eqI s 2
theorem bID(s:Int):aV6 s=true∧aF5 s=xH s:=by
 refine aK (t:=aJC s) (P:=fun r=>r=xH s) ?_
 unfold aJC xH;simp only[aB,aA,true_and]
theorem bIE(s:Int):aWH s=true∧aGC s=xH s:=by
 refine aK (t:=aKF s) (P:=fun r=>r=xH s) ?_
 unfold aKF xH;simp only[aB,aA,true_and]
theorem YZ(m:Int):aI7 m=true∧aI6 m=geI m 5:=by
 refine aK (t:=a0V m) (P:=fun r=>r=geI m 5) ?_
 unfold a0V;simp only[aB,aA,true_and]
def a8D(m:Int):Bool:=bif (bif eqI m 5 then true else eqI m 6)then true else eqI m 7
theorem Y0(m:Int):a2R m=true∧a2Q m=a8D m:=by
 refine aK (t:=a2P m) (P:=fun r=>r=a8D m) ?_
 unfold a2P a8D;simp only[aB,aA,true_and]
theorem aN4{m:Int}(h:cJ m 0 7=true):a8D m=geI m 5:=by
 rw[aU]at h;unfold a8D;have:m=0∨m=1∨m=2∨m=3∨m=4∨m=5∨m=6∨m=7:=by omega
 rcases this with rfl|rfl|rfl|rfl|rfl|rfl|rfl|rfl<;>rfl
def opB(o:aF):Bool:=cJ o.Mode 0 7&&(cJ o.Reg 0 3&&((eqI o.Reg 0||ltI o.Mode 6)&&(cJ o.Ext 0 65535&&(geI o.Mode 5||eqI o.Ext 0))))
theorem b34(o:aF):bJS o=true∧bJR o=opB o:=by
 refine aK (t:=a00 o) (P:=fun r=>r=opB o) ?_
 have e1:geI o.Mode 6=!ltI o.Mode 6:=by
  cases h:ltI o.Mode 6
  ·rw[nV]at h;exact KY.2 h
  ·rw[eD]at h;exact aGV.2 h
 have e2:dD o.Reg 0=!eqI o.Reg 0:=rfl;unfold a00 opB;simp only[aB,aI,aA,sS,sT,(PH _).1,(PH _).2,(YZ _).1,(YZ _).2,e1,e2,Bool.and_true,Bool.true_or,true_and];cases cJ o.Mode 0 7<;>cases cJ o.Reg 0 3<;>cases eqI o.Reg 0<;>cases ltI o.Mode 6<;>cases cJ o.Ext 0 65535<;>cases geI o.Mode 5<;>simp
theorem b35(o:aF):bKZ o=true∧bKY o=opB o:=by
 refine aK (t:=a2V o) (P:=fun r=>r=opB o) ?_
 have e2:dD o.Ext 0=!eqI o.Ext 0:=rfl;unfold a2V opB;simp only[aB,aI,aA,aKU,kJ,kK,(bIC _).1,(bIC _).2,(Y0 _).1,(Y0 _).2,e2,Bool.and_true,Bool.true_or,true_and];cases hm:cJ o.Mode 0 7
 ·simp
 ·rw[aN4 hm];cases cJ o.Reg 0 3<;>cases eqI o.Reg 0<;>cases ltI o.Mode 6<;>cases cJ o.Ext 0 65535<;>cases geI o.Mode 5<;>cases eqI o.Ext 0<;>simp
def aGY(m:Int):Bool:=cJ m 2 6
def aEB(m:Int):Bool:=bif eqI m 0 then true else aGY m
def vD(m:Int):Bool:=bif (bif eqI m 2 then true else eqI m 5)then true else eqI m 6
def VV(o:aF):Bool:=bif eqI o.Mode 7 then leI o.Ext 1023 else false
def VW(o:aF):Bool:=eqI o.Mode 0&&(eqI o.Reg 0&&eqI o.Ext 0)
theorem bIF(m:Int):bJU m=true∧bJT m=aGY m:=by
 refine aK (t:=a01 m) (P:=fun r=>r=aGY m) ?_
 unfold a01 aGY;simp only[aB,aA,sS,sT,Bool.and_true,true_and]
theorem bIG(m:Int):bK1 m=true∧bK0 m=aGY m:=by
 refine aK (t:=a2W m) (P:=fun r=>r=aGY m) ?_
 unfold a2W aGY;simp only[aB,aA,kJ,kK,Bool.and_true,true_and]
theorem bIH(m:Int):bDI m=true∧bDH m=aEB m:=by
 refine aK (t:=a2X m) (P:=fun r=>r=aEB m) ?_
 unfold a2X aEB;simp only[aB,aA,(bIG _).1,(bIG _).2,Bool.true_or,Bool.and_true,true_and]
theorem aT0(m:Int):bA8 m=true∧bA7 m=vD m:=by
 refine aK (t:=a02 m) (P:=fun r=>r=vD m) ?_
 unfold a02 vD;simp only[aB,aA,true_and]
theorem aT1(m:Int):bDK m=true∧bDJ m=vD m:=by
 refine aK (t:=a2Y m) (P:=fun r=>r=vD m) ?_
 unfold a2Y vD;simp only[aB,aA,true_and]
theorem bII(o:aF):bBA o=true∧bA9 o=VV o:=by
 refine aK (t:=a03 o) (P:=fun r=>r=VV o) ?_
 unfold a03 VV;simp only[aB,aA,true_and]
theorem aT2(o:aF):bDM o=true∧bDL o=VV o:=by
 refine aK (t:=a2Z o) (P:=fun r=>r=VV o) ?_
 unfold a2Z VV;simp only[aB,aA,true_and]
theorem a8E(o:aF):bBC o=true∧bBB o=VW o:=by
 refine aK (t:=a04 o) (P:=fun r=>r=VW o) ?_
 unfold a04 VW;simp only[aB,aA,Bool.and_true,true_and]
def LD(x:aS):Bool:=bif (bif dD x.Size 2 then true else pG x.Sub 6)then false else bif eqI x.Sub 3 then(bif eqI x.Reg 0 then VV x.Ea else false)else bif (bif ltI x.Sub 3 then dD x.Reg 0 else false)then false else VW x.Ea
theorem a8F(x:aS):bK3 x=true∧bK2 x=LD x:=by
 refine aK (t:=a20 x) (P:=fun r=>r=LD x) ?_
 unfold a20 LD;simp only[aB,aI,aA,(aT2 _).1,(aT2 _).2,Bool.true_or,Bool.and_true,true_and];refine⟨fun h=>by rw[h];rfl,fun h=>⟨fun k=>by rw[h,k];rfl,fun k=>⟨fun m=>by rw[h,k,m];rfl,fun m=>by rw[h,k,m];rfl⟩⟩⟩
def kB(x:aS):Bool:=
 bif (bif (eqI x.Op 1)then(eqI x.Op 1)else(bif (eqI x.Op 3)then(eqI x.Op 3)else(bif (eqI x.Op 4)then(eqI x.Op 4)else(bif (eqI x.Op 5)then(eqI x.Op 5)else(bif (eqI x.Op 6)then(eqI x.Op 6)else(bif (eqI x.Op 7)then(eqI x.Op 7)else(eqI x.Op 8)))))))then(bif eqI x.Sub 0 then(bif dD x.Ea.Mode 1 then true else eqI x.Size 2)else false)
 else bif eqI x.Op 2 then(bif eqI x.Sub 0 then aEB x.Ea.Mode else false)
 else bif eqI x.Op 9 then(bif eqI x.Size 2 then eqI x.Sub 0 else false)
 else bif eqI x.Op 10 then(bif (bif eqI x.Size 2 then eqI x.Sub 0 else false)then vD x.Ea.Mode else false)
 else bif eqI x.Op 11 then(bif (bif eqI x.Reg 0 then leI x.Sub 3 else false)then aEB x.Ea.Mode else false)
 else bif eqI x.Op 12 then eqI x.Ea.Mode 0
 else bif eqI x.Op 13 then(bif (bif eqI x.Size 2 then leI x.Reg 1 else false)then eqI x.Ea.Mode 7 else false)
 else bif eqI x.Op 14 then(bif (bif (bif eqI x.Size 2 then eqI x.Reg 0 else false)then leI x.Sub 1 else false)then vD x.Ea.Mode else false)
 else bif eqI x.Op 15 then LD x
 else bif (bif eqI x.Op 16 then eqI x.Op 16 else eqI x.Op 17)then(bif (bif eqI x.Size 2 then eqI x.Sub 0 else false)then dD x.Ea.Mode 1 else false)
 else bif eqI x.Op 18 then(bif (bif !(eqI x.Size 2)then leI x.Sub 1 else false)then eqI x.Ea.Mode 0 else false)
 else bif eqI x.Op 19 then(bif eqI x.Size 2 then(bif (bif (bif eqI x.Sub 0 then eqI x.Reg 0 else false)then VV x.Ea else false)then true else(bif eqI x.Sub 1 then VW x.Ea else false))else false)
 else false
theorem b36(x:aS):bK5 x=true∧bK4 x=kB x:=by
 refine aK (t:=a21 x) (P:=fun r=>r=kB x) ?_
 unfold a21;simp only[aB,aI,aA,aKX,aKW,aKV,TX,(bIH _).1,(bIH _).2,(aT1 _).1,(aT1 _).2,(aT2 _).1,(aT2 _).2,(a8F _).1,(a8F _).2,Bool.true_or,Bool.and_true,true_and];unfold kB;refine⟨fun h=>by rw[h];rfl,fun h1=>?_⟩
 rw[h1];refine⟨fun h=>by rw[h];rfl,fun h1=>?_⟩
 rw[h1];refine⟨fun h=>by rw[h];rfl,fun h1=>?_⟩
 rw[h1];refine⟨fun h=>by rw[h];rfl,fun h1=>?_⟩
 rw[h1];refine⟨fun h=>by rw[h];rfl,fun h1=>?_⟩
 rw[h1];refine⟨fun h=>by rw[h];rfl,fun h1=>?_⟩
 rw[h1];refine⟨fun h=>by rw[h];rfl,fun h1=>?_⟩
 rw[h1];refine⟨fun h=>by rw[h];rfl,fun h1=>?_⟩
 rw[h1];refine⟨fun h=>by rw[h];rfl,fun h1=>?_⟩
 rw[h1];refine⟨fun h=>by rw[h];rfl,fun h1=>?_⟩
 rw[h1];refine⟨fun h=>by rw[h];rfl,fun h1=>?_⟩
 rw[h1];refine⟨fun h=>by rw[h];rfl,fun h1=>?_⟩
 rw[h1];rfl
end Go.Proofs.YtdipcnijfkdnfaaGreatWhole

namespace Go.Proofs.YtdipcnijfkdnfaaGreatWhole
open Go Go.Zq
set_option maxHeartbeats 4000000
set_option maxRecDepth 100000
def LE(x:aS):Bool:=bif (bif eqI x.Ea.Mode 7 then eqI x.Size 1 else false)then pG x.Ea.Ext 255 else false
def lD(x:aS):Bool:=xH x.Size&&(cJ x.Reg 0 3&&(opB x.Ea&&(cJ x.Sub 0 7&&(!LE x&&kB x))))
theorem a8G(x:aS):a24 x=true∧a23 x=lD x:=by
 refine aK (t:=a22 x) (P:=fun r=>r=lD x) ?_
 unfold a22 lD LE;simp only[aB,aA,aK0,aKZ,aKY,kJ,kK,(bIE _).1,(bIE _).2,(b35 _).1,(b35 _).2,(b36 _).1,(b36 _).2,Bool.true_or,Bool.and_true,true_and];cases xH x.Size<;>cases cJ x.Reg 0 3<;>cases opB x.Ea<;>cases cJ x.Sub 0 7<;>cases(bif (bif eqI x.Ea.Mode 7 then eqI x.Size 1 else false)then pG x.Ea.Ext 255 else false)<;>rfl
theorem bIJ(x:aS)(h:x.Op=15):kB x=LD x:=by
 unfold kB;rw[h];rfl
theorem VX(x:aS):tT x=true∧tS x=lD x:=by
 refine aK (t:=a05 x) (P:=fun r=>r=lD x) ?_
 unfold a05;simp only[aB,aI,aA,Z8,aJK,aJJ,aJI,Z7,aJH,SO,aJG,aJF,aJE,aJD,sS,sT,(bID _).1,(bID _).2,(b34 _).1,(b34 _).2,(bIF _).1,(bIF _).2,(aT0 _).1,(aT0 _).2,(bII _).1,(bII _).2,(a8E _).1,(a8E _).2,Bool.true_or,Bool.and_true,true_and];have e:lD x=bif (bif (bif (bif (bif !xH x.Size then true else !cJ x.Reg 0 3)then true else !opB x.Ea)then true else !cJ x.Sub 0 7)then true else LE x)then false else kB x:=by
  unfold lD;cases xH x.Size<;>cases cJ x.Reg 0 3<;>cases opB x.Ea<;>cases cJ x.Sub 0 7<;>cases LE x<;>rfl
 rw[e];refine⟨fun h=>?_,fun h=>?_⟩
 ·have h':(bif (bif (bif (bif (bif !xH x.Size then true else !cJ x.Reg 0 3)then true else !opB x.Ea)then true else !cJ x.Sub 0 7)then true else LE x)then false else kB x)=false:=by
   have:(bif (bif (bif (bif !xH x.Size then true else !cJ x.Reg 0 3)then true else !opB x.Ea)then true else !cJ x.Sub 0 7)then true else LE x)=true:=h
   rw[this];rfl
  exact h'.symm
 ·have h':(bif (bif (bif (bif (bif !xH x.Size then true else !cJ x.Reg 0 3)then true else !opB x.Ea)then true else !cJ x.Sub 0 7)then true else LE x)then false else kB x)=kB x:=by
   have:(bif (bif (bif (bif !xH x.Size then true else !cJ x.Reg 0 3)then true else !opB x.Ea)then true else !cJ x.Sub 0 7)then true else LE x)=false:=h
   rw[this];rfl
  rw[h'];by_cases h15:x.Op=15
  ·rw[bIJ x h15];unfold LD;rw[h15];simp only[show eqI 15 1=false from rfl,show eqI 15 2=false from rfl,show eqI 15 3=false from rfl,show eqI 15 4=false from rfl,show eqI 15 5=false from rfl,show eqI 15 6=false from rfl,show eqI 15 7=false from rfl,show eqI 15 8=false from rfl,show eqI 15 9=false from rfl,show eqI 15 10=false from rfl,show eqI 15 11=false from rfl,show eqI 15 12=false from rfl,show eqI 15 13=false from rfl,show eqI 15 14=false from rfl,show eqI 15 15=true from rfl,show eqI 15 16=false from rfl,show eqI 15 17=false from rfl,show eqI 15 18=false from rfl,show eqI 15 19=false from rfl,cond_false,Bool.false_eq_true,Bool.true_eq_false,false_implies,forall_const,true_and,and_true]
   have e6:pG x.Sub 6=!leI x.Sub 6:=by
    cases hh:leI x.Sub 6
    ·rw[aTW]at hh;exact tH.2 hh
    ·rw[lS]at hh;exact PF.2 hh
   have e2:dD x.Size 2=!eqI x.Size 2:=rfl;have e0:dD x.Reg 0=!eqI x.Reg 0:=rfl;refine⟨fun h3=>?_,fun h3=>?_⟩
   ·have l6:leI x.Sub 6=true:=by rw[eC]at h3;rw[lS];omega
    rw[h3,e6,l6,e2];cases eqI x.Size 2<;>cases eqI x.Reg 0<;>rfl
   ·rw[h3,e6,e2,e0];have e3:pG x.Sub 3=!ltI x.Sub 3:=by
     rw[iS]at h3;cases hh:ltI x.Sub 3
     ·rw[nV]at hh;exact tH.2 (by omega)
     ·rw[eD]at hh;exact PF.2 (by omega)
    rw[e3];cases eqI x.Size 2<;>cases leI x.Sub 6<;>cases eqI x.Reg 0<;>cases ltI x.Sub 3<;>cases VW x.Ea<;>rfl
  ·have n15:eqI x.Op 15=false:=by rw[iS];exact h15
   have cm:(bif dD x.Ea.Mode 1 then true else eqI x.Size 2)=bif eqI x.Size 2 then true else dD x.Ea.Mode 1:=by
    cases dD x.Ea.Mode 1<;>cases eqI x.Size 2<;>rfl
   unfold kB;rw[n15,cm];refine⟨fun h=>by rw[h];rfl,fun h1=>?_⟩
   rw[h1];refine⟨fun h=>by rw[h];rfl,fun h1=>?_⟩
   rw[h1];refine⟨fun h=>by rw[h];rfl,fun h1=>?_⟩
   rw[h1];refine⟨fun h=>by rw[h];rfl,fun h1=>?_⟩
   rw[h1];refine⟨fun h=>by rw[h];rfl,fun h1=>?_⟩
   rw[h1];refine⟨fun h=>by rw[h];rfl,fun h1=>?_⟩
   rw[h1];refine⟨fun h=>by rw[h];rfl,fun h1=>?_⟩
   rw[h1];refine⟨fun h=>by rw[h];rfl,fun h1=>?_⟩
   rw[h1];refine⟨fun h=>by rw[h];rfl,fun h1=>?_⟩
   rw[h1];refine⟨fun h=>by rw[h];rfl,fun h1=>?_⟩
   rw[h1];refine⟨fun h=>by rw[h];rfl,fun h1=>?_⟩
   rw[h1];simp only[Bool.false_eq_true,false_implies,forall_const,true_and];rfl
structure Rng(x:aS):Prop where
 o:1≤x.Op∧x.Op≤19
 s:1≤x.Size∧x.Size≤2
 r:0≤x.Reg∧x.Reg≤3
 m:0≤x.Ea.Mode∧x.Ea.Mode≤7
 e:0≤x.Ea.Reg∧x.Ea.Reg≤3
 b:0≤x.Sub∧x.Sub≤7
 xt:0≤x.Ea.Ext∧x.Ea.Ext≤65535
 z:geI x.Ea.Mode 5=false→x.Ea.Ext=0
theorem rng{x:aS}(h:lD x=true):Rng x:=by
 unfold lD opB xH at h;simp only[Bool.and_eq_true,aU]at h;obtain⟨h1,h2,⟨h3,h4,-,h5,h6⟩,h7,-,h8⟩:=h;refine⟨?_,?_,h2,h3,h4,h7,h5,fun hm=>?_⟩
 ·refine Classical.byContradiction fun hn=>?_
  have z: ∀i:Int,1≤i→i≤19→eqI x.Op i=false:=fun i h1 h2=>by rw[iS];intro e;exact hn (by omega)
  unfold kB at h8;simp only[z 1 (by decide) (by decide),z 2 (by decide) (by decide),z 3 (by decide) (by decide),z 4 (by decide) (by decide),z 5 (by decide) (by decide),z 6 (by decide) (by decide),z 7 (by decide) (by decide),z 8 (by decide) (by decide),z 9 (by decide) (by decide),z 10 (by decide) (by decide),z 11 (by decide) (by decide),z 12 (by decide) (by decide),z 13 (by decide) (by decide),z 14 (by decide) (by decide),z 15 (by decide) (by decide),z 16 (by decide) (by decide),z 17 (by decide) (by decide),z 18 (by decide) (by decide),z 19 (by decide) (by decide),cond_false,Bool.false_eq_true]at h8
 ·cases e:eqI x.Size 1
  ·rw[e,cond_false,eC]at h1;omega
  ·rw[eC]at e;omega
 ·rw[hm]at h6;simpa using h6
def W(x:aS):Int:=x.Op*2048+(x.Size-1)*1024+x.Reg*256+x.Ea.Mode*32+x.Ea.Reg*8+x.Sub
def CC(x:aS):List Int:=bif geI x.Ea.Mode 5 then [W x,x.Ea.Ext]else [W x]
theorem W_i{x:aS}(h:Rng x):bE (bE (bE (bE (bE (dE x.Op 2048) (dE (cM x.Size 1) 1024)) (dE x.Reg 256)) (dE x.Ea.Mode 32)) (dE x.Ea.Reg 8)) x.Sub=W x:=by
 obtain⟨h1,h2,h3,h4,h5,h6,-,-⟩:=h;unfold W;rw[gU (x:=x.Op) (by omega),eX (by omega),gU (x:=x.Size-1) (by omega),gU (x:=x.Reg) (by omega),gU (x:=x.Ea.Mode) (by omega),gU (x:=x.Ea.Reg) (by omega),bV (x:=x.Op*2048) (by omega),bV (x:=x.Op*2048+(x.Size-1)*1024) (by omega),bV (x:=x.Op*2048+(x.Size-1)*1024+x.Reg*256) (by omega),bV (x:=x.Op*2048+(x.Size-1)*1024+x.Reg*256+x.Ea.Mode*32) (by omega),bV (by omega)]
def LF(w:Int):Bool:=geI (w/32%8) 5
def qJ(w:Int):Int:=bif LF w then 2 else 1
def xI(w e:Int):aS:=⟨w/2048,w/1024%2+1,w/256%4,⟨w/32%8,w/8%4,bif LF w then e else 0⟩,w%8⟩
theorem bGJ(w:Int):fF w 11=w/2048∧bE (bF (fF w 10) 1) 1=w/1024%2+1∧bF (fF w 8) 3=w/256%4∧bF (fF w 5) 7=w/32%8∧bF (fF w 3) 3=w/8%4∧bF w 7=w%8:=by
 refine⟨kW (n:=11) 11 rfl (by omega),?_,?_,?_,?_,?_⟩
 ·rw[kW (n:=10) 10 rfl (by omega),jF 1 1 (by omega) rfl,bV (by omega)];rfl
 ·rw[kW (n:=8) 8 rfl (by omega),jF 2 3 (by omega) rfl];rfl
 ·rw[kW (n:=5) 5 rfl (by omega),jF 3 7 (by omega) rfl];rfl
 ·rw[kW (n:=3) 3 rfl (by omega),jF 2 3 (by omega) rfl];rfl
 ·rw[jF 3 7 (by omega) rfl];rfl
theorem vF(w:Int):a2T w=true∧aWL w=qJ w:=by
 refine aK (t:=a2S w) (P:=fun r=>r=qJ w) ?_
 have f: ∀b,zA b 1=true∧yZ b 1=bif b then 1 else 0:=fun b=>by
  refine aK (t:=aBV b 1) (P:=fun r=>r=bif b then 1 else 0) ?_
  unfold aBV;simp only[aB,aI,aA,true_and];exact⟨fun h=>by rw[h];rfl,fun h=>by rw[h];rfl⟩
 unfold a2S;simp only[aB,aA,aKT,(bGJ w).2.2.2.1,(Y0 _).1,(Y0 _).2,(f _).1,(f _).2,Bool.and_true,true_and];rw[aN4 (by rw[aU];omega)]
 unfold qJ LF;cases geI (w/32%8) 5<;>decide
theorem aEC(w:Int):bE9 w=true∧aXF w=qJ w:=by
 refine aK (t:=a5T w) (P:=fun r=>r=qJ w) ?_
 unfold a5T qJ LF;simp only[aB,aI,aA,(bGJ w).2.2.2.1,(YZ _).1,(YZ _).2,Bool.and_true,true_and];exact⟨fun h=>by rw[h];rfl,fun h=>by rw[h];rfl⟩
theorem aGZ{w:Int}:eqI (qJ w) 2=LF w:=by
 unfold qJ;cases LF w<;>rfl
theorem EN(w e:Int):bDF w e=true∧aWM w e=xI w e:=by
 refine aK (t:=a2U w e) (P:=fun r=>r=xI w e) ?_
 obtain⟨f1,f2,f3,f4,f5,f6⟩:=bGJ w;unfold a2U xI;simp only[aB,aI,aA,(vF _).1,(vF _).2,aGZ,f1,f2,f3,f4,f5,f6,Bool.and_true,true_and];exact⟨fun h=>by rw[h];rfl,fun h=>by rw[h];rfl⟩
theorem a8H(w e:Int):bFA w e=true∧aXG w e=xI w e:=by
 refine aK (t:=a5U w e) (P:=fun r=>r=xI w e) ?_
 obtain⟨f1,f2,f3,f4,f5,f6⟩:=bGJ w;unfold a5U xI;simp only[aB,aI,aA,(aEC _).1,(aEC _).2,aGZ,f1,f2,f3,f4,f5,f6,Bool.and_true,true_and];exact⟨fun h=>by rw[h];rfl,fun h=>by rw[h];rfl⟩
end Go.Proofs.YtdipcnijfkdnfaaGreatWhole

namespace Go.Proofs.YtdipcnijfkdnfaaGreatWhole
open Go Go.Zq
set_option maxHeartbeats 4000000
set_option maxRecDepth 100000
structure RM where
 mk::
 (d a:List Int)
 (oth pc fl mask:Int)
 (sup tr:Bool)
def RM.g(r:RM):aJ:=⟨ri r.d,ri r.a,r.oth,r.pc,r.fl,r.mask,r.sup,r.tr⟩
def iE(t:Int)(l:List Int):Bool:=l.all fun z=>cJ z 0 t
structure RM.Ok(t:Int)(r:RM):Prop where
 t0:65535≤t
 t1:t≤65536
 d4:r.d.length=4
 a4:r.a.length=4
 dw:iE t r.d=true
 aw:iE 65535 r.a=true
 ow:cJ r.oth 0 65535=true
 pw:cJ r.pc 0 65535=true
 fw:cJ r.fl 0 31=true
 mw:cJ r.mask 0 (t-65528)=true
def cX(l:List Int)(i:Int):Int:=l.getD i.toNat 0
theorem jX{l:List Int}{i:Int}(hl:l.length=4)(hi:cJ i 0 3=true):iG [.int .i64] (ri l) i=true∧bR (ri l) i.toNat 0=cX l i∧i.toNat<l.length:=by
 rw[aU]at hi;obtain⟨n,rfl⟩:=Int.eq_ofNat_of_zero_le hi.1;have hn:n<l.length:=by omega
 rw[Int.toNat_natCast];refine⟨vC hn,?_,hn⟩;rw[o9 hn,cX,Int.toNat_natCast,tI hn]
theorem nW{t:Int}{l:List Int}{i:Int}(h:iE t l=true)(hl:l.length=4)(hi:cJ i 0 3=true):0≤cX l i∧cX l i≤t:=by
 obtain⟨-,-,hn⟩:=jX hl hi;have:=List.all_eq_true.1 h _ (List.getElem_mem hn);rw[aU]at this;rw[cX,tI hn];exact this
theorem sU{t:Int}{l:List Int}{i:Nat}{v:Int}(h:iE t l=true)(h0:0≤v)(h1:v≤t):iE t (l.set i v)=true:=by
 unfold iE;rw[List.all_eq_true]at*;intro z hz;rcases List.mem_or_eq_of_mem_set hz with hz|rfl
 ·exact List.all_eq_true.1 h z hz
 ·exact aU.2 ⟨h0,h1⟩
theorem gG{l:List Int}{i:Int}{v:Int}(hl:l.length=4)(hi:cJ i 0 3=true):blt (0+i.toNat) l.length=true∧j7 (j8 (ri l) (0+i.toNat)) 1=true∧leI 0 i=true∧ltI i (l.length:Int)=true∧dV [.int .i64] (ri l) (0+i.toNat) 0=true:=by
 obtain⟨-,-,hn⟩:=jX hl hi;rw[aU]at hi;rw[Nat.zero_add];refine⟨by simpa using hn,by rw[yI hn];rfl,by simp;omega,by simp;omega,FV ⟨l,rfl⟩ (by rw[bB];exact hn)⟩
structure MM where
 mk::
 (r:RM)
 (zs:List Int)
 (l:List aE)
 (stop:Bool)
 (f:aL)
def pA(zs:List Int)(l:List aE):bM:=⟨ri zs,l.map aE.row⟩
def MM.g(m:MM):aQ:=⟨m.r.g,pA m.zs m.l,m.stop,m.f⟩
structure BusOk(zs:List Int)(l:List aE):Prop where
 hz:zs.length=512
 hb:dJ zs=true
 hl:l.length≤400
 ha:l.all accB=true
structure MM.Ok(t:Int)(m:MM):Prop where
 r:m.r.Ok t
 b:BusOk m.zs m.l
def cF(m:MM):Bool:=eqI m.f.Vector 0
def cU(m:MM)(k s a v:Int):MM×Int:=({m with zs:=tB k s a v m.zs,l:=tL k s a v m.zs m.l,f:=bif dD (cW k s a) 0&&eqI m.f.Vector 0 then{m.f with Vector:=bif eqI (cW k s a) 2 then 3 else 2,Addr:=a,Write:=eqI k 2}else m.f},tV k s a v m.zs)
def eL(m:MM)(v:Int):MM:=
 bif cF (cU m 2 2 ((cX m.r.a 3-2)%65536) v).1 then{(cU m 2 2 ((cX m.r.a 3-2)%65536) v).1 with r:={m.r with a:=m.r.a.set 3 ((cX m.r.a 3-2)%65536)}}else(cU m 2 2 ((cX m.r.a 3-2)%65536) v).1
def dM(m:MM):MM×Int:=
 (bif cF (cU m 1 2 (cX m.r.a 3) 0).1 then{(cU m 1 2 (cX m.r.a 3) 0).1 with r:={m.r with a:=m.r.a.set 3 ((cX m.r.a 3+2)%65536)}}else(cU m 1 2 (cX m.r.a 3) 0).1,(cU m 1 2 (cX m.r.a 3) 0).2)
def Y1(s k:Int):Int:=bif eqI s 1&&dD k 3 then 1 else 2
def bU(r:RM)(s:Int)(o:aF):RM×Int:=
 bif eqI o.Mode 3 then({r with a:=r.a.set o.Reg.toNat ((cX r.a o.Reg+Y1 s o.Reg)%65536)},cX r.a o.Reg)
 else bif eqI o.Mode 4 then({r with a:=r.a.set o.Reg.toNat ((cX r.a o.Reg-Y1 s o.Reg)%65536)},(cX r.a o.Reg-Y1 s o.Reg)%65536)
 else bif eqI o.Mode 5 then(r,(cX r.a o.Reg+o.Ext)%65536)
 else bif eqI o.Mode 6 then(r,o.Ext)else(r,cX r.a o.Reg)
def zW(r:RM)(s k v:Int):RM:={r with d:=r.d.set k.toNat (bif eqI s 1 then cX r.d k%65536/256*256+v else v)}
def fR(r:RM):Int:=r.fl+32*r.mask+(bif r.sup then 256 else 0)+(bif r.tr then 512 else 0)
def dS(r:RM)(v:Int):RM:=
 bif AX (eqI (v/256%2) 1) r.sup then⟨r.d,r.a,r.oth,r.pc,v%32,v/32%8,r.sup,eqI (v/512%2) 1⟩
 else⟨r.d,r.a.set 3 r.oth,cX r.a 3,r.pc,v%32,v/32%8,!r.sup,eqI (v/512%2) 1⟩
def dU(m:MM)(s:Int)(o:aF):MM×Int×Int:=
 bif eqI o.Mode 0 then(m,cX m.r.d o.Reg%cD s,0)
 else bif eqI o.Mode 1 then(m,cX m.r.a o.Reg,0)
 else bif eqI o.Mode 7 then(m,o.Ext,0)
 else((cU {m with r:=(bU m.r s o).1} 1 s (bU m.r s o).2 0).1,(cU {m with r:=(bU m.r s o).1} 1 s (bU m.r s o).2 0).2,(bU m.r s o).2)
end Go.Proofs.YtdipcnijfkdnfaaGreatWhole

namespace Go.Proofs.YtdipcnijfkdnfaaGreatWhole
open Go Go.Zq
set_option maxHeartbeats 4000000
set_option maxRecDepth 100000
@[simp] theorem eO(m:MM):m.g.fr=m.r.g:=rfl
@[simp] theorem cH(m:MM):m.g.fbus=pA m.zs m.l:=rfl
@[simp] theorem cB(m:MM):m.g.fstop=m.stop:=rfl
@[simp] theorem bS(m:MM):m.g.ffault=m.f:=rfl
@[simp] theorem eS(r:RM):r.g.D=ri r.d:=rfl
@[simp] theorem eV(r:RM):r.g.A=ri r.a:=rfl
@[simp] theorem aX(r:RM):r.g.Other=r.oth:=rfl
@[simp] theorem cK(r:RM):r.g.PC=r.pc:=rfl
@[simp] theorem aW(r:RM):r.g.Flags=r.fl:=rfl
@[simp] theorem bK(r:RM):r.g.Mask=r.mask:=rfl
@[simp] theorem aV(r:RM):r.g.Super=r.sup:=rfl
@[simp] theorem aR(r:RM):r.g.Trace=r.tr:=rfl
@[simp] theorem VY(zs:List Int)(l:List aE):(pA zs l).Bytes=ri zs:=rfl
@[simp] theorem VZ(zs:List Int)(l:List aE):(pA zs l).Log=l.map aE.row:=rfl
def aXS(c:aG):Prop:=c.R.D.length≤2000∧c.R.A.length≤2000∧c.Bus.Bytes.length≤2000∧c.Bus.Log.length≤2000
theorem aN5{r:aJ}(h1:r.D.length≤2000)(h2:r.A.length≤2000):VB r=true∧iJ r=r:=by
 refine aK (t:=a5E r) (P:=fun q=>q=r) ?_
 obtain⟨a1,a2,a3,a4,a5,a6,a7,a8,a9⟩:=GY h1;obtain⟨b1,b2,b3,b4,b5,b6,b7,b8,b9⟩:=GY h2;unfold a5E;simp only[aB,aA,aD,bO,wz,bL,cQ,aZ,cS,Bool.and_true,true_and,(PG).1,(PG).2,a1,a3,a4,a6,b1,b3,b4,b6]
theorem bPH{b:bM}(h1:b.Bytes.length≤2000)(h2:b.Log.length≤2000):bNB b=true∧bE1 b=b:=by
 refine aK (t:=a5K b) (P:=fun r=>r=b) ?_
 obtain⟨a1,a2,a3,a4,a5,a6,a7,a8,a9⟩:=GY h1;obtain⟨b1,b2,b3,b4,b5,b6,b7,b8,b9⟩:=GY h2;unfold a5K;simp only[aB,aA,a5J,a5I,a5H,a5G,a5F,eT,aD,bO,wz,bL,cQ,aZ,cS,Bool.and_true,true_and,(PG).1,(PG).2,a1,a4,a6,b2,b5,b6]
theorem aN6{c:aG}(h:aXS c):a5N c=true∧NY c=c:=by
 refine aK (t:=a5M c) (P:=fun r=>r=c) ?_
 obtain⟨h1,h2,h3,h4⟩:=h;unfold a5M;simp only[aB,aA,aMF,aN5 h1 h2,bPH h3 h4,aD,bO,wz,Bool.and_true,true_and]
theorem bGK{c:aG}(h:aXS c):k78 c=true∧eM c=⟨c.R,c.Bus,c.Stop,⟨0,0,0,0,false⟩⟩:=by
 refine aK (t:=T78 c) (P:=fun r=>r=⟨c.R,c.Bus,c.Stop,⟨0,0,0,0,false⟩⟩) ?_
 unfold T78;simp only[aB,aA,aN6 h,aD,bO,wz,Bool.and_true,true_and]
theorem b37{m:aQ}(h:aXS ⟨m.fr,m.fbus,m.fstop,false⟩):I5 m=true∧uC m=⟨m.fr,m.fbus,m.fstop,false⟩:=by
 refine aK (t:=T80 m) (P:=fun r=>r=⟨m.fr,m.fbus,m.fstop,false⟩) ?_
 unfold T80;simp only[aB,aA,aTI,aN6 h,aD,bO,wz,Bool.and_true,true_and]
@[simp] theorem dT(m:aQ):KO m=true∧CT m=eqI m.ffault.Vector 0:=by
  refine aK (t:=T81 m) (P:=fun r=>r=eqI m.ffault.Vector 0) ?_
  unfold T81;simp only[aB,aA,aD,bO,wz,Bool.and_true,true_and]
theorem rX(v:Int):bF v 65535=v%65536:=jF 16 _ (by omega) (by decide)
theorem b38(v:Int):0≤v%65536∧v%65536≤65535:=by omega
structure AccOk(s v a:Int)(m:MM):Prop where
 hs:s=1∨s=2
 hv:dK s v=true
 ha:cJ a 0 65535=true
theorem AccOk.t{s v a t:Int}{m:MM}(h:AccOk s v a m)(hm:m.Ok t):TouchOk s v m.zs m.l:=⟨h.hs,h.hv,hm.b.hz,hm.b.hb,hm.b.hl⟩
theorem LG{s:Int}(h:s=1∨s=2):dK s 0=true:=by rcases h with rfl|rfl<;>decide
theorem V0{k s a v t:Int}{m:MM}(hm:m.Ok t)(h:AccOk s v a m):aC8 k s a v m.g=true∧wV k s a v m.g=((cU m k s a v).1.g,(cU m k s a v).2):=by
 refine aK (t:=a5R k s a v m.g) (P:=fun r=>r=((cU m k s a v).1.g,(cU m k s a v).2)) ?_
 obtain⟨a1,a2⟩:=bGH (k:=k) (h.t hm) h.ha;have a1':bE8 k s a v (pA m.zs m.l)=true:=a1;have a2':bE7 k s a v (pA m.zs m.l)=(pA (tB k s a v m.zs) (tL k s a v m.zs m.l),tV k s a v m.zs,cW k s a):=a2;unfold a5R;simp only[aB,aI,aA,aC7,aML,zJ,eO,cH,cB,bS,a1',a2',aD,bO,wz,Bool.and_true,true_and];unfold cU;have e: ∀a b:Bool,(bif a then b else false)=(a&&b):=fun a b=>by cases a<;>rfl
 rw[e];cases dD (cW k s a) 0&&eqI m.f.Vector 0
 ·refine⟨fun q=>absurd q (by decide),fun _=>?_⟩
  rfl
 ·refine⟨fun _=>?_,fun q=>absurd q (by decide)⟩
  cases eqI (cW k s a) 2
  ·exact⟨fun q=>absurd q (by decide),fun _=>rfl⟩
  ·exact⟨fun _=>rfl,fun q=>absurd q (by decide)⟩
theorem OC{zs:List Int}{i:Nat}{x:Int}(h:dJ zs=true)(hx:cJ x 0 255=true):dJ (zs.set i x)=true:=by
 unfold dJ;rw[List.all_eq_true]at*;intro z hz;rcases List.mem_or_eq_of_mem_set hz with hz|rfl
 ·exact List.all_eq_true.1 h z hz
 ·exact hx
theorem a8I{k s a v:Int}{zs:List Int}{l:List aE}(h:TouchOk s v zs l):dJ (tB k s a v zs)=true:=by
 obtain⟨v0,v1,v2⟩:=QE h.hs h.hv;unfold tB;cases eqI (cW k s a) 0&&eqI k 2
 ·exact h.hb
 ·rw[cond_true];rcases h.hs with rfl|rfl
  ·exact OC h.hb (by rw[show eqI 1 1=true from rfl,cond_true,aU];omega)
  ·exact OC (OC h.hb (by rw[aU];omega)) (by rw[aU];omega)
theorem bPI{s v:Int}{a:Nat}{zs:List Int}{l:List aE}(h:TouchOk s v zs l):dK s (rkq a zs s.toNat)=true:=by
 have get: ∀i,0≤zs.getD i 0∧zs.getD i 0<256:=fun i=>by
  by_cases hi:i<zs.length
  ·rw[tI hi];exact LC h.hb hi
  ·simp[List.getD_eq_getElem?_getD,List.getElem?_eq_none (by omega:zs.length≤i)]
 have g1:=get a;have g2:=get (a+1);rcases h.hs with rfl|rfl
 ·show dK 1 (zs.getD a 0)=true
  unfold dK;rw[show eqI 1 1=true from rfl,cond_true,aU];omega
 ·show dK 2 (zs.getD a 0*256+zs.getD (a+1) 0)=true
  unfold dK;rw[show eqI 2 1=false from rfl,show eqI 2 2=true from rfl,cond_false,cond_true,aU];omega
end Go.Proofs.YtdipcnijfkdnfaaGreatWhole

namespace Go.Proofs.YtdipcnijfkdnfaaGreatWhole
open Go Go.Zq
set_option maxHeartbeats 4000000
set_option maxRecDepth 100000
theorem a8J{k s a v:Int}{zs:List Int}{l:List aE}(h:TouchOk s v zs l):dK s (tV k s a v zs)=true:=by
 unfold tV;cases eqI k 2
 ·cases eqI (cW k s a) 0
  ·exact LG h.hs
  ·exact bPI h
 ·exact h.hv
theorem b39{k s a v:Int}{zs:List Int}{l:List aE}(h:TouchOk s v zs l)(ha:cJ a 0 65535=true)(hk:cJ k 1 3=true)(hl:l.all accB=true):(tL k s a v zs l).length≤400∧(tL k s a v zs l).all accB=true:=by
 have h1:=h.hl;unfold tL;cases hc:ltI (l.length:Int) 400&&!(eqI k 3&&eqI (cW k s a) 0)
 ·exact⟨h1,hl⟩
 ·rw[Bool.and_eq_true,eD]at hc;rw[cond_true,List.length_append,List.all_append,hl];refine⟨by simp;omega,?_⟩
  simp only[List.all_cons,List.all_nil,Bool.and_true,Bool.true_and,accB,hk,ha,a8J h,a8A,hc.2]
theorem bPJ(k s a v:Int)(zs:List Int):(tB k s a v zs).length=zs.length:=by
 unfold tB;cases eqI (cW k s a) 0&&eqI k 2
 ·rfl
 ·rw[cond_true]
  match s.toNat with
  |0=>rfl
  |1=>simp[wk]
  |n+2=>simp[wk]
theorem zX{k s a v t:Int}{m:MM}(hm:m.Ok t)(h:AccOk s v a m)(hk:cJ k 1 3=true):(cU m k s a v).1.Ok t∧dK s (cU m k s a v).2=true:=by
 have hT:=h.t hm;obtain⟨l1,l2⟩:=b39 (k:=k) hT h.ha hk hm.b.ha;exact⟨⟨hm.r,⟨by show(tB k s a v m.zs).length=512;rw[bPJ];exact hm.b.hz,a8I hT,l1,l2⟩⟩,a8J hT⟩
theorem cE{α:Type}{b:Bool}{x y:α}{P:α→Prop}(h1:b=true→P x)(h2:b=false→P y):P (bif b then x else y):=by
 cases b
 ·exact h2 rfl
 ·exact h1 rfl
theorem RM.Ok.setA{t v:Int}{r:RM}{i:Nat}(h:r.Ok t)(h0:0≤v)(h1:v≤65535):RM.Ok t {r with a:=r.a.set i v}:=⟨h.t0,h.t1,h.d4,by simpa using h.a4,h.dw,sU h.aw h0 h1,h.ow,h.pw,h.fw,h.mw⟩
theorem RM.Ok.setD{t v:Int}{r:RM}{i:Nat}(h:r.Ok t)(h0:0≤v)(h1:v≤t):RM.Ok t {r with d:=r.d.set i v}:=⟨h.t0,h.t1,by simpa using h.d4,h.a4,sU h.dw h0 h1,h.aw,h.ow,h.pw,h.fw,h.mw⟩
theorem RM.Ok.setP{t v:Int}{r:RM}(h:r.Ok t)(h1:cJ v 0 65535=true):RM.Ok t {r with pc:=v}:=⟨h.t0,h.t1,h.d4,h.a4,h.dw,h.aw,h.ow,h1,h.fw,h.mw⟩
theorem RM.Ok.setF{t v:Int}{r:RM}(h:r.Ok t)(h1:cJ v 0 31=true):RM.Ok t {r with fl:=v}:=⟨h.t0,h.t1,h.d4,h.a4,h.dw,h.aw,h.ow,h.pw,h1,h.mw⟩
theorem in3:cJ 3 0 3=true:=by decide
theorem b4A:Int.toNat 3=3:=rfl
theorem aED{t:Int}{r:RM}(h:r.Ok t):0≤cX r.a 3∧cX r.a 3≤65535:=nW h.aw h.a4 in3
theorem bPK{v:Int}(h0:0≤v)(h1:v≤65535):dK 2 v=true:=by
 unfold dK;rw[show eqI 2 1=false from rfl,show eqI 2 2=true from rfl,cond_false,cond_true,aU];omega
theorem rP{v:Int}(h:dK 2 v=true):0≤v∧v≤65535:=by
 unfold dK at h;rw[show eqI 2 1=false from rfl,show eqI 2 2=true from rfl,cond_false,cond_true,aU]at h;omega
theorem V1{t v:Int}{m:MM}(hm:m.Ok t)(h0:0≤v)(h1:v≤65535):AccOk 2 v ((cX m.r.a 3-2)%65536) m:=⟨Or.inr rfl,bPK h0 h1,aU.2 (by omega)⟩
theorem AT{t:Int}{r:RM}(h:r.Ok t):ltI 3 (r.a.length:Int)=true∧dV [.int .i64] (ri r.a) 3 0=true∧bR (ri r.a) 3 0=cX r.a 3∧blt 3 r.a.length=true∧j7 (j8 (ri r.a) 3) 1=true∧bF (cM (cX r.a 3) 2) 65535=(cX r.a 3-2)%65536∧bF (bE (cX r.a 3) 2) 65535=(cX r.a 3+2)%65536:=by
 have h4:=h.a4;have hr:=aED h;obtain⟨-,d2,d3⟩:=jX h.a4 in3;obtain⟨s1,s2,s3,s4,s5⟩:=gG (v:=0) h.a4 in3;rw[Nat.zero_add,b4A]at s1 s2 s5;refine⟨s4,s5,d2,s1,s2,?_,?_⟩
 ·rw[eX (by omega),rX]
 ·rw[bV (by omega),rX]
@[simp] theorem bIK(m:MM)(k s a v:Int):(cU m k s a v).1.r=m.r:=rfl
@[simp] theorem b4B(m:MM)(k s a v:Int):(cU m k s a v).1.stop=m.stop:=rfl
theorem a8K{v t:Int}{m:MM}(hm:m.Ok t)(h0:0≤v)(h1:v≤65535):k79 v m.g=true∧g79 v m.g=(eL m v).g:=by
 refine aK (t:=T79 v m.g) (P:=fun r=>r=(eL m v).g) ?_
 obtain⟨b1,b2,b3,b4,b5,b6,b7⟩:=AT hm.r;obtain⟨a1,a2⟩:=V0 (k:=2) hm (V1 hm h0 h1);unfold T79 eL cF;simp only[aB,aI,aA,a6I,a6H,bH6,aSY,a6G,vJ,eO,cH,bS,eS,eV,VY,VZ,aT,bB,b1,b2,b3,b4,b5,b6,a1,a2,dT,bIK,aD,bO,wz,dY,List.length_set,List.length_map,Bool.and_true,true_and];refine⟨fun q=>?_,fun q=>?_⟩
 ·rw[q];rfl
 ·rw[q];rfl
theorem aT3{v t:Int}{m:MM}(hm:m.Ok t)(h0:0≤v)(h1:v≤65535):(eL m v).Ok t:=by
 obtain⟨a1,-⟩:=zX (k:=2) hm (V1 hm h0 h1) (by decide)
 unfold eL;refine cE (P:=fun q=>MM.Ok t q) (fun _=>⟨hm.r.setA (by omega) (by omega),a1.b⟩) (fun _=>a1)
theorem aEE{t:Int}{m:MM}(hm:m.Ok t):AccOk 2 0 (cX m.r.a 3) m:=⟨Or.inr rfl,by decide,by have:=aED hm.r;rw[aU];exact this⟩
theorem bIL{t:Int}{m:MM}(hm:m.Ok t):k85 m.g=true∧xS m.g=((dM m).1.g,(dM m).2):=by
 refine aK (t:=T85 m.g) (P:=fun r=>r=((dM m).1.g,(dM m).2)) ?_
 obtain⟨b1,b2,b3,b4,b5,b6,b7⟩:=AT hm.r;obtain⟨a1,a2⟩:=V0 (k:=1) hm (aEE hm);unfold T85 dM cF;simp only[aB,aI,aA,a6O,a6N,oT,eO,cH,bS,eS,eV,VY,VZ,aT,bB,b1,b2,b3,b4,b5,b7,a1,a2,dT,bIK,aD,bO,wz,dY,List.length_set,List.length_map,Bool.and_true,true_and];refine⟨fun q=>?_,fun q=>?_⟩
 ·rw[q];rfl
 ·rw[q];rfl
theorem I2{t:Int}{m:MM}(hm:m.Ok t):(dM m).1.Ok t∧0≤(dM m).2∧(dM m).2≤65535:=by
 obtain⟨a1,a2⟩:=zX (k:=1) hm (aEE hm) (by decide)
 refine⟨?_,rP a2⟩;unfold dM;refine cE (P:=fun q=>MM.Ok t q) (fun _=>⟨hm.r.setA (by omega) (by omega),a1.b⟩) (fun _=>a1)
end Go.Proofs.YtdipcnijfkdnfaaGreatWhole

namespace Go.Proofs.YtdipcnijfkdnfaaGreatWhole
open Go Go.Zq
set_option maxHeartbeats 4000000
set_option maxRecDepth 100000
theorem b4C(s k:Int):bFF s k=true∧bFE s k=Y1 s k:=by
 refine aK (t:=a50 s k) (P:=fun r=>r=Y1 s k) ?_
 have e:(bif eqI s 1 then dD k 3 else false)=(eqI s 1&&dD k 3):=by cases eqI s 1<;>rfl
 unfold a50 Y1;simp only[aB,aI,aA,e,true_and];exact⟨fun h=>by rw[h];rfl,fun h=>by rw[h];rfl⟩
theorem a8L(s k:Int):Y1 s k=1∨Y1 s k=2:=by
 unfold Y1;cases eqI s 1&&dD k 3
 ·exact Or.inr rfl
 ·exact Or.inl rfl
structure OpOk(o:aF):Prop where
 hm:cJ o.Mode 0 7=true
 hr:cJ o.Reg 0 3=true
 he:cJ o.Ext 0 65535=true
theorem OpOk.of{o:aF}(h:opB o=true):OpOk o:=by
 unfold opB at h;simp only[Bool.and_eq_true]at h;exact⟨h.1,h.2.1,h.2.2.2.1⟩
theorem aT4{t s:Int}{r:RM}{o:aF}(h:r.Ok t)(ho:OpOk o):bFG r.g s o=true∧CU r.g s o=((bU r s o).1.g,(bU r s o).2):=by
 refine aK (t:=a51 r.g s o) (P:=fun q=>q=((bU r s o).1.g,(bU r s o).2)) ?_
 obtain⟨d1,d2,d3⟩:=jX h.a4 ho.hr;obtain⟨s1,s2,s3,s4,s5⟩:=gG (v:=0) h.a4 ho.hr;rw[Nat.zero_add]at s1 s2 s5;obtain⟨q1,q2⟩:=nW h.aw h.a4 ho.hr;have hb:=a8L s o.Reg;have he:=aU.1 ho.he;have e1:bF (bE (cX r.a o.Reg) (Y1 s o.Reg)) 65535=(cX r.a o.Reg+Y1 s o.Reg)%65536:=by rw[bV (by omega),rX]
 have e2:bF (cM (cX r.a o.Reg) (Y1 s o.Reg)) 65535=(cX r.a o.Reg-Y1 s o.Reg)%65536:=by rw[eX (by omega),rX]
 have e3:bF (bE (cX r.a o.Reg) o.Ext) 65535=(cX r.a o.Reg+o.Ext)%65536:=by rw[bV (by omega),rX]
 unfold a51 bU;simp only[aB,aI,aA,aMS,aMR,aMQ,aMP,aMO,aMN,aMM,eS,eV,aT,bB,Nat.zero_add,(b4C _ _).1,(b4C _ _).2,d2,s1,s2,s3,s4,s5,e1,e2,e3,dY,List.length_set,aD,bO,wz,Bool.and_true,true_and];refine⟨fun q=>by rw[q];rfl,fun q=>?_⟩
 rw[q];refine⟨fun q=>by rw[q];rfl,fun q=>?_⟩
 rw[q];cases eqI o.Mode 5
 ·cases eqI o.Mode 6<;>rfl
 ·rfl
theorem rQ{t s:Int}{r:RM}{o:aF}(h:r.Ok t)(ho:OpOk o):(bU r s o).1.Ok t∧cJ (bU r s o).2 0 65535=true:=by
 have q:=nW h.aw h.a4 ho.hr;unfold bU;refine cE (P:=fun z:RM×Int=>z.1.Ok t∧cJ z.2 0 65535=true) (fun _=>⟨h.setA (by omega) (by omega),aU.2 q⟩) fun _=>?_
 refine cE (P:=fun z:RM×Int=>z.1.Ok t∧cJ z.2 0 65535=true) (fun _=>⟨h.setA (by omega) (by omega),aU.2 (by dsimp only;omega)⟩) fun _=>?_
 refine cE (P:=fun z:RM×Int=>z.1.Ok t∧cJ z.2 0 65535=true) (fun _=>⟨h,aU.2 (by dsimp only;omega)⟩) fun _=>?_
 exact cE (P:=fun z:RM×Int=>z.1.Ok t∧cJ z.2 0 65535=true) (fun _=>⟨h,ho.he⟩) fun _=>⟨h,aU.2 q⟩
theorem aT5{t s k:Int}{r:RM}(h:r.Ok t)(hs:s=1∨s=2)(hk:cJ k 0 3=true):a5Z r.g s k=true∧a5Y r.g s k=cX r.d k%cD s:=by
 refine aK (t:=a5X r.g s k) (P:=fun q=>q=cX r.d k%cD s) ?_
 obtain⟨d1,d2,d3⟩:=jX h.d4 hk;unfold a5X;simp only[aB,aA,eS,d1,d2,(lC hs).1,(lC hs).2,mask hs,Bool.and_true,true_and]
theorem iP{s v:Int}(hs:s=1∨s=2):dK s (v%cD s)=true:=by
 rcases hs with rfl|rfl
 ·show(bif eqI 1 1 then cJ (v%256) 0 255 else _)=true
  rw[show eqI 1 1=true from rfl,cond_true,aU];omega
 ·exact bPK (v:=v%65536) (by omega) (by omega)
theorem aG0{t s k v:Int}{r:RM}(h:r.Ok t)(hs:s=1∨s=2)(hk:cJ k 0 3=true)(hv:s=1→0≤v∧v<256):KQ r.g s k v=true∧KP r.g s k v=(zW r s k v).g:=by
 refine aK (t:=a55 r.g s k v) (P:=fun q=>q=(zW r s k v).g) ?_
 obtain⟨d1,d2,d3⟩:=jX h.d4 hk;obtain⟨s1,s2,s3,s4,s5⟩:=gG (v:=0) h.d4 hk;rw[Nat.zero_add]at s1 s2 s5;have q:=nW h.dw h.d4 hk;have t1:=h.t1;unfold a55 zW;rcases hs with rfl|rfl
 ·have hv:=hv rfl;have e:fB (bF (cX r.d k) 65280) v=cX r.d k%65536/256*256+v:=by
   have:bF (cX r.d k) 65280=cX r.d k%65536/256*256:=by
    have key: ∀n:Nat,n≤65536→bF (n:Int) 65280=((n%65536/256*256:Nat):Int):=fun n hn=>by
     unfold bF;have e1:(BitVec.ofInt 64 (n:Int))&&&(BitVec.ofInt 64 65280)=BitVec.ofNat 64 (n&&&65280):=by
      apply BitVec.eq_of_toNat_eq;simp[BitVec.toNat_and,Nat.and_mod_two_pow]
     rw[e1];have e2:n&&&65280=n%65536/256*256:=by
      have:n&&&65280=(n/256&&&255)*256:=by
       apply Nat.eq_of_testBit_eq;intro i;rw[show(n/256&&&255)*256=(n/2^8&&&255)<<<8 from by rw[Nat.shiftLeft_eq]]
       rw[Nat.testBit_shiftLeft,Nat.testBit_and,Nat.testBit_and,Nat.testBit_div_two_pow];by_cases hi:8≤i
       ·have:(65280:Nat)=255<<<8:=by decide
        rw[this,Nat.testBit_shiftLeft];simp[hi]
       ·have:(65280:Nat)=255<<<8:=by decide
        rw[this,Nat.testBit_shiftLeft];simp[hi]
      rw[this];have:n/256&&&255=n/256%256:=Nat.and_two_pow_sub_one_eq_mod (n:=8) (n/256);rw[this];omega
     rw[e2,BitVec.toNat_ofNat,IntKind.wrap_i64];omega
    have:=key (cX r.d k).toNat (by omega)
    rw[Int.toNat_of_nonneg q.1]at this;rw[this];omega
   rw[this,VS (by omega) (by omega) hv.1 hv.2]
  simp only[aB,aI,aA,aDJ,aDI,aDH,aDG,aDF,eS,eV,aT,bB,Nat.zero_add,d2,e,s1,s2,s3,s4,s5,dY,List.length_set,aD,bO,wz,show eqI 1 1=true from rfl,Bool.and_true,true_and,forall_const,cond_true,Bool.true_eq_false,false_implies,and_true]
  rfl
 ·simp only[aB,aI,aA,aDJ,aDI,aDH,aDG,aDF,eS,eV,aT,bB,Nat.zero_add,d2,s1,s2,s3,s4,s5,dY,List.length_set,aD,bO,wz,show eqI 2 1=false from rfl,Bool.and_true,true_and,forall_const,cond_false,Bool.false_eq_true,false_implies]
  rfl
theorem OD{t s k v:Int}{r:RM}(h:r.Ok t)(hk:cJ k 0 3=true)(h0:0≤v)(h1:s=1→v<256)(h2:v≤t):(zW r s k v).Ok t:=by
 have q:=nW h.dw h.d4 hk;have t0:=h.t0;unfold zW;cases e:eqI s 1
 ·exact h.setD h0 h2
 ·rw[eC]at e;have:=h1 e;exact h.setD (by rw[cond_true];omega) (by rw[cond_true];omega)
end Go.Proofs.YtdipcnijfkdnfaaGreatWhole

namespace Go.Proofs.YtdipcnijfkdnfaaGreatWhole
open Go Go.Zq
set_option maxHeartbeats 4000000
set_option maxRecDepth 100000
theorem rR{p:Int→Prop}{f:Int}(h:cJ f 0 31=true)(k: ∀n:Fin 32,p (n.val:Int)):p f:=by
 rw[aU]at h;obtain⟨n,rfl⟩:=Int.eq_ofNat_of_zero_le h.1;exact k ⟨n,by omega⟩
theorem a8M{f:Int}(h:cJ f 0 31=true):bF f 16=0∨bF f 16=16:=rR (p:=fun f=>bF f 16=0∨bF f 16=16) h (by decide+kernel)
theorem fl4{f:Int}(h:cJ f 0 31=true):bF f 4=0∨bF f 4=4:=rR (p:=fun f=>bF f 4=0∨bF f 4=4) h (by decide+kernel)
theorem p8{a b:Int}(ha:cJ a 0 31=true)(hb:cJ b 0 31=true):cJ (fB a b) 0 31=true:=by
 have key: ∀n m:Fin 32,cJ (fB (n.val:Int) (m.val:Int)) 0 31=true:=by decide+kernel
 exact rR (p:=fun a=>cJ (fB a b) 0 31=true) ha fun n=>rR (p:=fun b=>cJ (fB (n.val:Int) b) 0 31=true) hb fun m=>key n m
theorem vR{b:Bool}{x:Int}(hx:cJ x 0 31=true):cJ (bif b then x else 0) 0 31=true:=by
 cases b
 ·show cJ 0 0 31=true;decide
 ·exact hx
theorem aEF(c o z n:Bool):cJ (fl c o z n) 0 31=true:=by
 cases c<;>cases o<;>cases z<;>cases n<;>decide
theorem oQ{s f v:Int}(hs:s=1∨s=2)(hf:cJ f 0 31=true):D9 s f v=true∧cJ (iF s f v) 0 31=true:=by
 refine aK (t:=aMY s f v) (P:=fun r=>cJ r 0 31=true) ?_
 unfold aMY;simp only[aB,aA,(GE hs).1,(GE hs).2,Bool.and_true,true_and];refine p8 ?_ (p8 (vR (by decide)) (vR (by decide)))
 rcases a8M hf with h|h<;>rw[h]<;>decide
theorem a8N{s a b:Int}(ha:dK s a=true)(hb:dK s b=true):aGJ s 0 a b=true∧aDN s 0 a b=((a-b)%cD s,I1 s a b):=by
 obtain⟨h1,h2⟩:=a8C ha hb;refine⟨h1,?_⟩;have h3:aGJ s 0 a b=true∧(aDN s 0 a b).1=(a-b)%cD s:=by
  refine aK (t:=aMZ s 0 a b) (P:=fun r=>r.1=(a-b)%cD s) ?_
  obtain⟨h,a0,a1⟩:=p7 ha;obtain⟨-,b0,b1⟩:=p7 hb;have l:=rO h;obtain⟨p1,p2⟩:=GZ h a0 (by omega)
  obtain⟨q1,q2⟩:=GZ h b0 (by omega)
  have e1:cM (cM a b) 0=a-b:=by rw[eX (x:=a) (by omega),eX (by omega)];omega
  have r0:0≤(a-b)%cD s:=Int.emod_nonneg _ (by omega)
  have r1:(a-b)%cD s<cD s:=Int.emod_lt_of_pos _ (by omega)
  obtain⟨t1,t2⟩:=GZ (v:=(a-b)%cD s) h r0 (by omega)
  unfold aMZ;simp only[aB,aA,aDM,IH,(lC h).1,(lC h).2,mask h,p1,q1,e1,t1,(fS _ _).1,(GE h).1,Bool.and_true,true_and]
 exact Prod.ext h3.2 h2
theorem bIM{s f a b:Int}(ha:dK s a=true)(hb:dK s b=true)(hf:cJ f 0 31=true):bN5 s f a b=true∧cJ (aNL s f a b) 0 31=true:=by
 refine aK (t:=aNK s f a b) (P:=fun r=>cJ r 0 31=true) ?_
 obtain⟨h1,h2⟩:=a8C ha hb;unfold aNK;simp only[aB,aA,h1,h2,Bool.and_true,true_and];refine p8 ?_ ?_
 ·unfold I1;exact rR (p:=fun z=>cJ (bF z 15) 0 31=true) (aEF _ _ _ _) (by decide+kernel)
 ·rcases a8M hf with h|h<;>rw[h]<;>decide
theorem bGL{s v:Int}(hs:s=1∨s=2):dK s (v%cD s)=true:=iP hs
theorem LH{a b:Int}(ha:0≤a∧a≤65535)(hb:0≤b∧b≤65535):(0≤bF a b∧bF a b≤b)∧(0≤fB a b∧fB a b≤65535)∧(0≤qN a b∧qN a b≤65535)∧(a≤255→b≤255→fB a b≤255∧qN a b≤255):=by
 obtain⟨n,rfl⟩:=Int.eq_ofNat_of_zero_le ha.1;obtain⟨m,rfl⟩:=Int.eq_ofNat_of_zero_le hb.1;have hn:n<2^16:=by omega
 have hm:m<2^16:=by omega
 have e1:((n:Int)%((2^64:Nat):Int)).toNat=n:=by omega
 have e2:((m:Int)%((2^64:Nat):Int)).toNat=m:=by omega
 have a1:n&&&m≤m:=Nat.and_le_right;have o1:n|||m<2^16:=Nat.or_lt_two_pow hn hm
 have x1:n^^^m<2^16:=Nat.xor_lt_two_pow hn hm;have k1:bF (n:Int) (m:Int)=((n&&&m:Nat):Int):=by
  unfold bF;rw[BitVec.toNat_and,BitVec.toNat_ofInt,BitVec.toNat_ofInt,e1,e2,IntKind.wrap_i64];omega
 have k2:fB (n:Int) (m:Int)=((n|||m:Nat):Int):=by
  unfold fB;rw[BitVec.toNat_or,BitVec.toNat_ofInt,BitVec.toNat_ofInt,e1,e2,IntKind.wrap_i64];omega
 have k3:qN (n:Int) (m:Int)=((n^^^m:Nat):Int):=by
  unfold qN;rw[BitVec.toNat_xor,BitVec.toNat_ofInt,BitVec.toNat_ofInt,e1,e2,IntKind.wrap_i64];omega
 rw[k1,k2,k3];refine⟨by omega,by omega,by omega,fun h1 h2=>?_⟩
 have o2:n|||m<2^8:=Nat.or_lt_two_pow (by omega) (by omega)
 have x2:n^^^m<2^8:=Nat.xor_lt_two_pow (by omega) (by omega)
 omega
theorem kM{s v:Int}(hs:s=1∨s=2)(h:dK s v=true):0≤v∧v≤65535∧(s=1→v≤255):=by
 have:=QE hs h;omega
theorem EO{s v:Int}(hs:s=1∨s=2)(h0:0≤v)(h1:v≤65535)(h2:s=1→v≤255):dK s v=true:=by
 rcases hs with rfl|rfl
 ·show(bif eqI 1 1 then cJ v 0 255 else _)=true
  rw[show eqI 1 1=true from rfl,cond_true,aU];exact⟨h0,h2 rfl⟩
 ·exact bPK h0 h1
theorem aT6{s a b:Int}(hs:s=1∨s=2)(ha:dK s a=true)(hb:dK s b=true):dK s (bF a b)=true:=by
 have a1:=kM hs ha;have b1:=kM hs hb;have q:=LH ⟨a1.1,a1.2.1⟩ ⟨b1.1,b1.2.1⟩;exact EO hs q.1.1 (by omega) (fun h=>by have:=b1.2.2 h;omega)
theorem aEG{s a b:Int}(hs:s=1∨s=2)(ha:dK s a=true)(hb:dK s b=true):dK s (fB a b)=true:=by
 have a1:=kM hs ha;have b1:=kM hs hb;have q:=LH ⟨a1.1,a1.2.1⟩ ⟨b1.1,b1.2.1⟩;exact EO hs q.2.1.1 q.2.1.2 (fun h=>(q.2.2.2 (a1.2.2 h) (b1.2.2 h)).1)
theorem aT7{s a b:Int}(hs:s=1∨s=2)(ha:dK s a=true)(hb:dK s b=true):dK s (qN a b)=true:=by
 have a1:=kM hs ha;have b1:=kM hs hb;have q:=LH ⟨a1.1,a1.2.1⟩ ⟨b1.1,b1.2.1⟩;exact EO hs q.2.2.1.1 q.2.2.1.2 (fun h=>(q.2.2.2 (a1.2.2 h) (b1.2.2 h)).2)
end Go.Proofs.YtdipcnijfkdnfaaGreatWhole

namespace Go.Proofs.YtdipcnijfkdnfaaGreatWhole
open Go Go.Zq
set_option maxHeartbeats 4000000
set_option maxRecDepth 100000
theorem cHJ{v:Int}(h:0≤v)(h1:v<65536):m9 v 1=v*2:=by
 unfold m9;rw[show((2:Int)^min (Int.toNat 1) 64)=2 from by decide,IntKind.wrap_i64]
 omega
theorem cHK{v:Int}:fF v 1=v/2:=kW 1 rfl (by omega)
theorem a8O(k:Int):bFI k=true:=by
 refine(aK (t:=aM1 k) (P:=fun _=>True) ?_).1
 unfold aM1;simp only[aB,aA,true_and]
def WO(x:Int):Prop:=x=0∨x=1
theorem rS(b:Bool):WO (bif b then 1 else 0):=by
 cases b
 ·exact Or.inl rfl
 ·exact Or.inr rfl
theorem EP{b:Bool}{x y:Int}(hx:WO x)(hy:WO y):WO (bif b then x else y):=by
 cases b
 ·exact hy
 ·exact hx
theorem aT8{v:Int}:WO (bF v 1):=by
 rw[b3Y];unfold WO;omega
def Sh(s:Int)(r:Int×Int):Prop:=dK s r.1=true∧cJ r.2 0 31=true
theorem aEH{k s f v:Int}(hs:s=1∨s=2)(hv:dK s v=true)(hf:cJ f 0 31=true):bNO k s f v=true∧Sh s (PZ k s f v):=by
 refine aK (t:=aM6 k s f v) (P:=fun r=>Sh s r) ?_
 have lv:=kM hs hv;have b2:WO (II s v):=by
  unfold II;rw[(fS _ _).2];exact rS _
 have b3:WO (mB k s v):=by
  unfold mB;exact EP b2 aT8
 have b4:WO (EA k s f v):=by
  unfold EA;refine EP b2 (EP b3 (EP ?_ (Or.inl rfl)));rw[(fS _ _).2];exact rS _
 have vb: ∀x,WO x→dK s x=true:=fun x hx=>by
  rcases hx with rfl|rfl
  ·exact LG hs
  ·rcases hs with rfl|rfl<;>decide
 have w5:dK s (o8 k s f v)=true:=by
  unfold o8;rw[(lC hs).2];have m1:cM (dE 2 (lW (cD s) 2)) 1=cM (cD s) 1:=by rcases hs with rfl|rfl<;>decide
  rw[m1,cHJ lv.1 (by omega),mask hs,cHK]
  cases a6D k
  ·refine aEG hs (EO hs (by omega) (by omega) (fun h=>by have:=lv.2.2 h;omega)) ?_
   rcases b4 with h|h<;>rw[h]
   ·rcases hs with rfl|rfl<;>decide
   ·rcases hs with rfl|rfl<;>decide
  ·exact aEG hs (bGL hs) (vb _ b4)
 have f8:cJ (IJ k s f v) 0 31=true:=by
  unfold IJ;rw[(GE hs).2,(fS _ _).2];refine p8 (p8 ?_ (p8 (vR (by decide)) (vR (by decide)))) (vR (by decide))
  rcases b3 with h|h<;>rw[h]<;>decide
 unfold aM6;simp only[aB,aI,aA,(lC hs).1,(fS _ _).1,a8O,(GE hs).1,Bool.and_true,Bool.true_or,Bool.or_true,true_and];refine⟨fun _=>⟨w5,p8 f8 ?_⟩,fun _=>⟨w5,p8 f8 ?_⟩⟩
 ·rcases a8M hf with h|h<;>rw[h]<;>decide
 ·rcases b3 with h|h<;>rw[h]<;>decide
theorem b4D{k s f v c:Int}(hs:s=1∨s=2)(hv:dK s v=true)(hf:cJ f 0 31=true)(h0:0≤c)(h1:c≤100):bFN k s f v c=true∧Sh s (aGK k s f v c):=by
 refine aK (t:=aM7 k s f v c) (P:=fun r=>Sh s r) ?_
 obtain⟨n,rfl⟩:=Int.eq_ofNat_of_zero_le h0;have L:VK (V218_0.mk k s f v (n:Int) 0)=true∧(dK s (B0 (V218_0.mk k s f v (n:Int) 0)).s3=true∧cJ (B0 (V218_0.mk k s f v (n:Int) 0)).s2 0 31=true∧cJ (B0 (V218_0.mk k s f v (n:Int) 0)).s13 0 31=true):=by
  unfold VK B0;refine jA (Post:=fun w:V218_0=>dK s w.s3=true∧cJ w.s2 0 31=true∧cJ w.s13 0 31=true) (eY (fun(m:Nat) (w:V218_0)=>w.s1=s∧w.s4=(m:Int)∧m≤100∧dK s w.s3=true∧cJ w.s2 0 31=true∧cJ w.s13 0 31=true) _ ?_ 2097152 n _ ⟨rfl,rfl,by omega,hv,hf,(by decide:cJ 0 0 31=true)⟩ (by omega))
  rintro m w ⟨e1,e2,e3,e4,e5,e6⟩
  obtain⟨o1,o2,o3⟩:=aEH (k:=w.s0) hs e4 e5;have o3':cJ (bF (PZ w.s0 s w.s2 w.s3).2 2) 0 31=true:=rR (p:=fun z=>cJ (bF z 2) 0 31=true) o3 (by decide+kernel)
  unfold IK;simp only[aB,aI,aA,wX,e1,e2,o1,tH,PF,Bool.and_true,true_and];refine⟨fun q=>⟨m-1,by omega,?_,by omega,o2,o3,p8 e6 o3'⟩,fun _=>⟨e4,e5,e6⟩⟩
  rw[eX (by omega)];omega
 obtain⟨l1,l2,l3,l4⟩:=L;unfold aM7;simp only[aB,aI,aA,VL,aDR,(GE hs).1,(GE hs).2,(fS _ _).1,(fS _ _).2,l1,Bool.and_true,true_and];refine⟨fun _=>⟨hv,p8 (p8 ?_ (p8 (vR (by decide)) (vR (by decide)))) (vR (by decide))⟩,fun _=>⟨l2,p8 l3 l4⟩⟩
 rcases a8M hf with h|h<;>rw[h]<;>decide
theorem a8P(c f:Int):bNP c f=true:=by
 refine(aK (t:=aM9 c f) (P:=fun _=>True) ?_).1
 unfold aM9;simp only[aB,aI,aA,true_and,implies_true,and_self]
theorem a8Q(c f:Int):bNQ c f=true:=by
 refine(aK (t:=aNA c f) (P:=fun _=>True) ?_).1
 unfold aNA;simp only[aB,aA,a8P,Bool.and_true,true_and]
end Go.Proofs.YtdipcnijfkdnfaaGreatWhole

namespace Go.Proofs.YtdipcnijfkdnfaaGreatWhole
open Go Go.Zq
set_option maxHeartbeats 4000000
set_option maxRecDepth 100000
theorem lE(m:MM)(r:RM):(aQ.mk r.g (pA m.zs m.l) m.stop m.f)=MM.g {m with r:=r}:=rfl
theorem aEI{t s:Int}{m:MM}{o:aF}(hm:m.Ok t)(hs:s=1∨s=2)(ho:OpOk o):aXH s o m.g=true∧cO s o m.g=((dU m s o).1.g,(dU m s o).2.1,(dU m s o).2.2):=by
 refine aK (t:=a53 s o m.g) (P:=fun q=>q=((dU m s o).1.g,(dU m s o).2.1,(dU m s o).2.2)) ?_
 obtain⟨d1,d2,d3⟩:=jX hm.r.a4 ho.hr;obtain⟨s1,s2,s3,s4,s5⟩:=gG (v:=0) hm.r.a4 ho.hr;rw[Nat.zero_add]at s5;obtain⟨l1,l2⟩:=aT5 hm.r hs ho.hr;obtain⟨p1,p2⟩:=aT4 (s:=s) hm.r ho;obtain⟨p3,p4⟩:=rQ (s:=s) hm.r ho;have hm':MM.Ok t {m with r:=(bU m.r s o).1}:=⟨p3,hm.b⟩
 obtain⟨a1,a2⟩:=V0 (k:=1) (v:=0) (a:=(bU m.r s o).2) hm' ⟨hs,LG hs,p4⟩;unfold a53 dU;simp only[aB,aI,aA,VH,IF,D7,aDE,eO,cH,cB,bS,eS,eV,aT,bB,Nat.zero_add,l1,l2,d2,s3,s4,s5,p1,p2,lE,a1,a2,aD,bO,wz,bL,cQ,aZ,cS,Bool.and_true,true_and];refine⟨fun q=>by rw[q];rfl,fun q=>?_⟩
 rw[q];refine⟨fun q=>by rw[q];rfl,fun q=>?_⟩
 rw[q];exact⟨fun q=>by rw[q];rfl,fun q=>by rw[q];rfl⟩
theorem rT{t s:Int}{m:MM}{o:aF}(hm:m.Ok t)(hs:s=1∨s=2)(ho:OpOk o)(hmode:s=1→o.Mode=1→False)(he:s=1→o.Mode=7→o.Ext≤255):(dU m s o).1.Ok t∧dK s (dU m s o).2.1=true∧cJ (dU m s o).2.2 0 65535=true:=by
 obtain⟨p3,p4⟩:=rQ (s:=s) hm.r ho;have hm':MM.Ok t {m with r:=(bU m.r s o).1}:=⟨p3,hm.b⟩
 obtain⟨a1,a2⟩:=zX (k:=1) (v:=0) (a:=(bU m.r s o).2) hm' ⟨hs,LG hs,p4⟩ (by decide)
 have q:=nW hm.r.aw hm.r.a4 ho.hr;have e:=aU.1 ho.he;have z0:cJ 0 0 65535=true:=by decide
 unfold dU;refine cE (P:=fun z:MM×Int×Int=>z.1.Ok t∧dK s z.2.1=true∧cJ z.2.2 0 65535=true) (fun _=>⟨hm,iP hs,z0⟩) fun _=>?_
 refine cE (P:=fun z:MM×Int×Int=>z.1.Ok t∧dK s z.2.1=true∧cJ z.2.2 0 65535=true) (fun h=>⟨hm,EO hs q.1 q.2 (fun h1=>(hmode h1 (eC.1 h)).elim),z0⟩) fun _=>?_
 refine cE (P:=fun z:MM×Int×Int=>z.1.Ok t∧dK s z.2.1=true∧cJ z.2.2 0 65535=true) (fun h=>⟨hm,EO hs e.1 e.2 (fun h1=>he h1 (eC.1 h)),z0⟩) fun _=>?_
 exact⟨a1,a2,p4⟩
def kO(m:MM)(s:Int)(o:aF):MM×Int:=bif eqI o.Mode 0 then(m,0)else({m with r:=(bU m.r s o).1},(bU m.r s o).2)
theorem aT9{t s:Int}{m:MM}{o:aF}(hm:m.Ok t)(ho:OpOk o):aXI s o m.g=true∧iK s o m.g=((kO m s o).1.g,(kO m s o).2):=by
 refine aK (t:=a54 s o m.g) (P:=fun q=>q=((kO m s o).1.g,(kO m s o).2)) ?_
 obtain⟨p1,p2⟩:=aT4 (s:=s) hm.r ho;unfold a54 kO;simp only[aB,aI,aA,aMT,IG,D8,eO,cH,cB,bS,p1,p2,aD,bO,wz,bL,cQ,aZ,cS,Bool.and_true,true_and];exact⟨fun q=>by rw[q];rfl,fun q=>by rw[q];rfl⟩
theorem EQ{t s:Int}{m:MM}{o:aF}(hm:m.Ok t)(ho:OpOk o):(kO m s o).1.Ok t∧cJ (kO m s o).2 0 65535=true:=by
 obtain⟨p3,p4⟩:=rQ (s:=s) hm.r ho;unfold kO;exact cE (P:=fun z:MM×Int=>z.1.Ok t∧cJ z.2 0 65535=true) (fun _=>⟨hm,(by decide:cJ 0 0 65535=true)⟩) fun _=>⟨⟨p3,hm.b⟩,p4⟩
def eK(m:MM)(s:Int)(o:aF)(a v:Int):MM:=bif eqI o.Mode 0 then{m with r:=zW m.r s o.Reg v}else(cU m 2 s a v).1
theorem aUA{t s a v:Int}{m:MM}{o:aF}(hm:m.Ok t)(hs:s=1∨s=2)(ho:OpOk o)(ha:cJ a 0 65535=true)(hv:dK s v=true):a58 s o a v m.g=true∧a57 s o a v m.g=(eK m s o a v).g:=by
 refine aK (t:=a56 s o a v m.g) (P:=fun q=>q=(eK m s o a v).g) ?_
 have lv:=kM hs hv;obtain⟨p1,p2⟩:=aG0 (v:=v) hm.r hs ho.hr (fun h=>by have:=lv.2.2 h;omega)
 obtain⟨a1,a2⟩:=V0 (k:=2) hm (⟨hs,hv,ha⟩:AccOk s v a m);unfold a56 eK;simp only[aB,aI,aA,aMV,aMU,eO,cH,cB,bS,p1,p2,a1,a2,aD,bO,wz,Bool.and_true,true_and];exact⟨fun q=>by rw[q];rfl,fun q=>by rw[q];rfl⟩
theorem AU{t s a v:Int}{m:MM}{o:aF}(hm:m.Ok t)(hs:s=1∨s=2)(ho:OpOk o)(ha:cJ a 0 65535=true)(hv:dK s v=true):(eK m s o a v).Ok t:=by
 have lv:=kM hs hv;have t0:=hm.r.t0;obtain⟨a1,-⟩:=zX (k:=2) hm (⟨hs,hv,ha⟩:AccOk s v a m) (by decide)
 unfold eK;exact cE (P:=fun z=>MM.Ok t z) (fun _=>⟨OD hm.r ho.hr lv.1 (fun h=>by have:=lv.2.2 h;omega) (by omega),hm.b⟩) (fun _=>a1)
def V2(q:MM×Int)(p:MM×Int):MM×aS×Int:=
 bif !cF p.1 then(p.1,⟨0,0,0,⟨0,0,0⟩,0⟩,0)else
 bif !lD (xI q.2 p.2)then({p.1 with f:={p.1.f with Vector:=4}},⟨0,0,0,⟨0,0,0⟩,0⟩,0)else(p.1,xI q.2 p.2,2)
def LI(q:MM×Int)(pc:Int):MM×aS×Int:=
 bif !cF q.1 then(q.1,⟨0,0,0,⟨0,0,0⟩,0⟩,0)else
 bif LF q.2 then V2 q (cU {q.1 with f:={q.1.f with Word:=q.2}} 3 2 ((pc+2)%65536) 0)
 else bif !lD (xI q.2 0)then({q.1 with f:={q.1.f with Word:=q.2,Vector:=4}},⟨0,0,0,⟨0,0,0⟩,0⟩,0)else({q.1 with f:={q.1.f with Word:=q.2}},xI q.2 0,1)
def mF(m:MM):MM×aS×Int:=LI (cU {m with f:={m.f with PC:=m.r.pc}} 3 2 m.r.pc 0) m.r.pc
theorem aG1{t a:Int}{m:MM}(hm:m.Ok t)(ha:cJ a 0 65535=true):AccOk 2 0 a m:=⟨Or.inr rfl,by decide,ha⟩
theorem b4E(m:MM)(f:aL):(aQ.mk m.r.g (pA m.zs m.l) m.stop f)=MM.g {m with f:=f}:=rfl
theorem bIN{t:Int}{m:MM}(hm:m.Ok t):bFB m.g=true∧dB m.g=((mF m).1.g,(mF m).2.1,(mF m).2.2):=by
 refine aK (t:=a5V m.g) (P:=fun q=>q=((mF m).1.g,(mF m).2.1,(mF m).2.2)) ?_
 have hp:=aU.1 hm.r.pw;have hm0:MM.Ok t {m with f:={m.f with PC:=m.r.pc}}:=⟨hm.r,hm.b⟩
 obtain⟨a1,a2⟩:=V0 (k:=3) hm0 (aG1 hm0 hm.r.pw);obtain⟨a3,a4⟩:=zX (k:=3) hm0 (aG1 hm0 hm.r.pw) (by decide)
 have ha:cJ ((m.r.pc+2)%65536) 0 65535=true:=by rw[aU];omega
 have e2:bF (bE m.r.pc 2) 65535=(m.r.pc+2)%65536:=by rw[bV (by omega),rX]
 unfold a5V mF;generalize hq:cU {m with f:={m.f with PC:=m.r.pc}} 3 2 m.r.pc 0=q at a1 a2 a3 a4
 obtain⟨q1,q2⟩:=q;have hm1:MM.Ok t {q1 with f:={q1.f with Word:=q2}}:=⟨a3.r,a3.b⟩
 obtain⟨b1,b2⟩:=V0 (k:=3) hm1 (aG1 hm1 ha);unfold LI;generalize cU {q1 with f:={q1.f with Word:=q2}} 3 2 ((m.r.pc+2)%65536) 0=p at b1 b2
 obtain⟨p1,p2⟩:=p;unfold V2 cF;simp only[aB,aI,aA,aDD,aDC,uT,aDB,aDA,iO,eO,cH,cB,bS,cK,b4E,e2,a1,a2,b1,b2,dT,(aEC _).1,(aEC _).2,aGZ,(a8H _ _).1,(a8H _ _).2,(VX _).1,(VX _).2,aD,bO,wz,Bool.and_true,true_and];refine⟨fun h=>by rw[h];rfl,fun h=>?_⟩
 rw[h];refine⟨fun h2=>?_,fun h2=>?_⟩
 ·rw[h2];have l2:qJ q2=2:=by unfold qJ;rw[h2];rfl
  refine⟨fun h=>by rw[h];rfl,fun h=>?_⟩
  rw[h];exact⟨fun h=>by rw[h];rfl,fun h=>by rw[h,l2];rfl⟩
 ·rw[h2];have l2:qJ q2=1:=by unfold qJ;rw[h2];rfl
  exact⟨fun h=>by rw[h];rfl,fun h=>by rw[h,l2];rfl⟩
end Go.Proofs.YtdipcnijfkdnfaaGreatWhole

namespace Go.Proofs.YtdipcnijfkdnfaaGreatWhole
open Bool renaming true_eq_false → q_1
open Go Go.Zq
set_option maxHeartbeats 4000000
set_option maxRecDepth 100000
structure InsOk(x:aS):Prop where
 hs:x.Size=1∨x.Size=2
 hr:cJ x.Reg 0 3=true
 hb:cJ x.Sub 0 7=true
 ho:OpOk x.Ea
 he:x.Size=1→x.Ea.Mode=7→x.Ea.Ext≤255
 kb:kB x=true
 op:1≤x.Op∧x.Op≤19
theorem InsOk.of{x:aS}(h:lD x=true):InsOk x:=by
 have R:=rng h;unfold lD at h;simp only[Bool.and_eq_true]at h;obtain⟨h1,h2,h3,h4,h5,h6⟩:=h;refine⟨by have:=R.s;omega,h2,h4,OpOk.of h3,fun e1 e2=>?_,h6,R.o⟩
 unfold LE at h5;rw[e1,e2]at h5;simpa using h5
theorem gE(r:RM)(f:Int):(aJ.mk (ri r.d) (ri r.a) r.oth r.pc f r.mask r.sup r.tr)=RM.g {r with fl:=f}:=rfl
theorem jB(r:RM)(p:Int):(aJ.mk (ri r.d) (ri r.a) r.oth p r.fl r.mask r.sup r.tr)=RM.g {r with pc:=p}:=rfl
noncomputable def CP(m:MM)(s k v:Int):MM:={m with r:=zW {m.r with fl:=iF s m.r.fl v} s k v}
theorem aEJ{t s k v:Int}{m:MM}(hm:m.Ok t)(hs:s=1∨s=2)(hk:cJ k 0 3=true)(hv:s=1→0≤v∧v<256):aXL s k v m.g=true∧aXK s k v m.g=(CP m s k v).g:=by
 refine aK (t:=a6T s k v m.g) (P:=fun q=>q=(CP m s k v).g) ?_
 obtain⟨l1,l2⟩:=oQ (v:=v) hs hm.r.fw;obtain⟨p1,p2⟩:=aG0 (v:=v) (hm.r.setF l2) hs hk hv;unfold a6T;simp only[aB,aA,aNE,aND,eO,cH,cB,bS,eS,eV,aX,cK,aW,bK,aV,aR,gE,l1,p1,p2,aD,bO,wz,bL,cQ,aZ,cS,Bool.and_true,Bool.true_or,Bool.or_true,true_and];rfl
theorem QF{t s k v:Int}{m:MM}(hm:m.Ok t)(hs:s=1∨s=2)(hk:cJ k 0 3=true)(h0:0≤v)(h1:s=1→v<256)(h2:v≤t):(CP m s k v).Ok t:=⟨OD (hm.r.setF (oQ (v:=v) hs hm.r.fw).2) hk h0 h1 h2,hm.b⟩
def zY(m:MM)(v:Int):MM:={m with f:={m.f with Vector:=v,PC:=m.r.pc}}
theorem aUB(m:MM)(v:Int):bFS v m.g=true∧bFR v m.g=(zY m v).g:=by
 refine aK (t:=a6R v m.g) (P:=fun q=>q=(zY m v).g) ?_
 unfold a6R;simp only[aB,aA,eO,cH,cB,bS,eS,eV,aX,cK,aW,bK,aV,aR,aD,bO,wz,bL,cQ,aZ,cS,Bool.and_true,Bool.true_or,Bool.or_true,true_and];rfl
noncomputable def rU(x:aS)(f d v:Int):Int×Int:=
 bif eqI x.Op 3 then aEA x.Size 0 d v else bif eqI x.Op 4 then((d-v)%cD x.Size,I1 x.Size d v)
 else bif eqI x.Op 1 then(v,iF x.Size f v)else bif eqI x.Op 5 then(bF d v,iF x.Size f (bF d v))
 else bif eqI x.Op 6 then(fB d v,iF x.Size f (fB d v))else(qN d v,iF x.Size f (qN d v))
noncomputable def CD(m:MM)(x:aS):MM:=
 let q:=dU m x.Size x.Ea
 bif !cF q.1 then q.1 else
 bif eqI x.Op 8 then{q.1 with r:={q.1.r with fl:=aNL x.Size q.1.r.fl (cX q.1.r.d x.Reg%cD x.Size) q.2.1}}
 else{q.1 with r:=zW {q.1.r with fl:=(rU x q.1.r.fl (cX q.1.r.d x.Reg%cD x.Size) q.2.1).2} x.Size x.Reg (rU x q.1.r.fl (cX q.1.r.d x.Reg%cD x.Size) q.2.1).1}
theorem aUC{x:aS}{f d v:Int}(hs:x.Size=1∨x.Size=2)(hf:cJ f 0 31=true)(hd:dK x.Size d=true)(hv:dK x.Size v=true):dK x.Size (rU x f d v).1=true∧cJ (rU x f d v).2 0 31=true:=by
 unfold rU;refine cE (P:=fun z:Int×Int=>dK x.Size z.1=true∧cJ z.2 0 31=true) (fun _=>⟨iP hs,aEF _ _ _ _⟩) fun _=>?_
 refine cE (P:=fun z:Int×Int=>dK x.Size z.1=true∧cJ z.2 0 31=true) (fun _=>⟨iP hs,aEF _ _ _ _⟩) fun _=>?_
 refine cE (P:=fun z:Int×Int=>dK x.Size z.1=true∧cJ z.2 0 31=true) (fun _=>⟨hv,(oQ hs hf).2⟩) fun _=>?_
 refine cE (P:=fun z:Int×Int=>dK x.Size z.1=true∧cJ z.2 0 31=true) (fun _=>⟨aT6 hs hd hv,(oQ hs hf).2⟩) fun _=>?_
 refine cE (P:=fun z:Int×Int=>dK x.Size z.1=true∧cJ z.2 0 31=true) (fun _=>⟨aEG hs hd hv,(oQ hs hf).2⟩) fun _=>?_
 exact⟨aT7 hs hd hv,(oQ hs hf).2⟩
def qK(x:aS):Prop:=x.Op=1∨x.Op=3∨x.Op=4∨x.Op=5∨x.Op=6∨x.Op=7∨x.Op=8
theorem bPL{x:aS}(h:qK x):kB x=bif eqI x.Sub 0 then(bif dD x.Ea.Mode 1 then true else eqI x.Size 2)else false:=by
 unfold kB;rcases h with e|e|e|e|e|e|e<;>rw[e]<;>rfl
theorem V3{x:aS}(h:InsOk x)(h2:qK x):x.Size=1→x.Ea.Mode=1→False:=by
 intro e1 e2;have hk:=h.kb;rw[bPL h2,e1,e2]at hk;cases hb:eqI x.Sub 0
 ·rw[hb]at hk;exact absurd hk (by decide)
 ·rw[hb]at hk;exact absurd hk (by decide)
theorem V4{t:Int}{m:MM}{x:aS}(hm:m.Ok t)(h:InsOk x)(h2:qK x):bN6 x m.g=true∧a68 x m.g=(CD m x).g:=by
 refine aK (t:=a67 x m.g) (P:=fun q=>q=(CD m x).g) ?_
 obtain⟨r1,r2⟩:=aEI hm h.hs h.ho;obtain⟨r3,r4,r5⟩:=rT hm h.hs h.ho (V3 h h2) h.he;unfold a67 CD;generalize dU m x.Size x.Ea=q at r1 r2 r3 r4 r5;obtain⟨q1,v,a⟩:=q;have hd:=iP (s:=x.Size) (v:=cX q1.r.d x.Reg) h.hs;obtain⟨l1,l2⟩:=aT5 r3.r h.hs h.hr;obtain⟨a1,a2⟩:=b33 (c:=0) (Or.inl rfl) hd r4;obtain⟨b1,b2⟩:=a8N hd r4;obtain⟨c1,c2⟩:=bIM (f:=q1.r.fl) hd r4 r3.r.fw;have lg: ∀v,D9 x.Size q1.r.fl v=true:=fun v=>(oQ h.hs r3.r.fw).1
 have pt: ∀v f,dK x.Size v=true→cJ f 0 31=true→KQ (RM.g {q1.r with fl:=f}) x.Size x.Reg v=true∧KP (RM.g {q1.r with fl:=f}) x.Size x.Reg v=(zW {q1.r with fl:=f} x.Size x.Reg v).g:=fun v f hv hf=>aG0 (r3.r.setF hf) h.hs h.hr (fun e=>by have:=kM h.hs hv;have:=this.2.2 e;omega)
 dsimp only;cases hfi:eqI q1.f.Vector 0
 ·simp only[aB,aI,aA,rG,rF,oO,rE,oN,rD,oM,rC,mD,xD,mC,jV,jU,xC,pZ,f9,xB,zS,eO,cH,cB,bS,eS,eV,aX,cK,aW,bK,aV,aR,r1,r2,dT,cF,hfi,Bool.not_false,cond_true,aD,bO,wz,bL,cQ,aZ,cS,Bool.and_true,Bool.true_or,Bool.or_true,true_and,forall_const,q_1,false_implies,and_true]
 ·obtain⟨w1,w2⟩:=aUC (x:=x) (f:=q1.r.fl) h.hs r3.r.fw hd r4;obtain⟨p1,p2⟩:=pt _ _ w1 w2;rcases h2 with e|e|e|e|e|e|e
  ·have tw:rU x q1.r.fl (cX q1.r.d x.Reg%cD x.Size) v=(v,iF x.Size q1.r.fl v):=by unfold rU;rw[e];rfl
   rw[tw]at p1 p2⊢;simp only[aB,aI,aA,rG,rF,oO,rE,oN,rD,oM,rC,mD,xD,mC,jV,jU,xC,pZ,f9,xB,zS,eO,cH,cB,bS,eS,eV,aX,cK,aW,bK,aV,aR,gE,lE,r1,r2,dT,cF,hfi,e,show eqI 1 0=false from rfl,show eqI 1 1=true from rfl,show eqI 1 2=false from rfl,show eqI 1 3=false from rfl,show eqI 1 4=false from rfl,show eqI 1 5=false from rfl,show eqI 1 6=false from rfl,show eqI 1 7=false from rfl,show eqI 1 8=false from rfl,show eqI 1 9=false from rfl,show eqI 1 10=false from rfl,show eqI 1 11=false from rfl,show eqI 1 12=false from rfl,show eqI 1 13=false from rfl,show eqI 1 14=false from rfl,show eqI 1 15=false from rfl,show eqI 1 16=false from rfl,show eqI 1 17=false from rfl,show eqI 1 18=false from rfl,show eqI 1 19=false from rfl,show dD 1 3=true from rfl,show dD 1 4=true from rfl,l1,l2,a1,a2,b1,b2,lg,p1,p2,Bool.not_true,Bool.not_false,cond_true,cond_false,aD,bO,wz,bL,cQ,aZ,cS,Bool.and_true,Bool.true_or,Bool.or_true,true_and,forall_const,q_1,Bool.false_eq_true,false_implies,and_true]
  ·have tw:rU x q1.r.fl (cX q1.r.d x.Reg%cD x.Size) v=aEA x.Size 0 (cX q1.r.d x.Reg%cD x.Size) v:=by unfold rU;rw[e];rfl
   rw[tw]at p1 p2⊢;simp only[aB,aI,aA,rG,rF,oO,rE,oN,rD,oM,rC,mD,xD,mC,jV,jU,xC,pZ,f9,xB,zS,eO,cH,cB,bS,eS,eV,aX,cK,aW,bK,aV,aR,gE,lE,r1,r2,dT,cF,hfi,e,show eqI 3 0=false from rfl,show eqI 3 1=false from rfl,show eqI 3 2=false from rfl,show eqI 3 3=true from rfl,show eqI 3 4=false from rfl,show eqI 3 5=false from rfl,show eqI 3 6=false from rfl,show eqI 3 7=false from rfl,show eqI 3 8=false from rfl,show eqI 3 9=false from rfl,show eqI 3 10=false from rfl,show eqI 3 11=false from rfl,show eqI 3 12=false from rfl,show eqI 3 13=false from rfl,show eqI 3 14=false from rfl,show eqI 3 15=false from rfl,show eqI 3 16=false from rfl,show eqI 3 17=false from rfl,show eqI 3 18=false from rfl,show eqI 3 19=false from rfl,show dD 3 3=false from rfl,show dD 3 4=true from rfl,l1,l2,a1,a2,b1,b2,lg,p1,p2,Bool.not_true,Bool.not_false,cond_true,cond_false,aD,bO,wz,bL,cQ,aZ,cS,Bool.and_true,Bool.true_or,Bool.or_true,true_and,forall_const,q_1,Bool.false_eq_true,false_implies,and_true]
  ·have tw:rU x q1.r.fl (cX q1.r.d x.Reg%cD x.Size) v=((cX q1.r.d x.Reg%cD x.Size-v)%cD x.Size,I1 x.Size (cX q1.r.d x.Reg%cD x.Size) v):=by unfold rU;rw[e];rfl
   rw[tw]at p1 p2⊢;simp only[aB,aI,aA,rG,rF,oO,rE,oN,rD,oM,rC,mD,xD,mC,jV,jU,xC,pZ,f9,xB,zS,eO,cH,cB,bS,eS,eV,aX,cK,aW,bK,aV,aR,gE,lE,r1,r2,dT,cF,hfi,e,show eqI 4 0=false from rfl,show eqI 4 1=false from rfl,show eqI 4 2=false from rfl,show eqI 4 3=false from rfl,show eqI 4 4=true from rfl,show eqI 4 5=false from rfl,show eqI 4 6=false from rfl,show eqI 4 7=false from rfl,show eqI 4 8=false from rfl,show eqI 4 9=false from rfl,show eqI 4 10=false from rfl,show eqI 4 11=false from rfl,show eqI 4 12=false from rfl,show eqI 4 13=false from rfl,show eqI 4 14=false from rfl,show eqI 4 15=false from rfl,show eqI 4 16=false from rfl,show eqI 4 17=false from rfl,show eqI 4 18=false from rfl,show eqI 4 19=false from rfl,show dD 4 3=true from rfl,show dD 4 4=false from rfl,l1,l2,a1,a2,b1,b2,lg,p1,p2,Bool.not_true,Bool.not_false,cond_true,cond_false,aD,bO,wz,bL,cQ,aZ,cS,Bool.and_true,Bool.true_or,Bool.or_true,true_and,forall_const,q_1,Bool.false_eq_true,false_implies,and_true]
  ·have tw:rU x q1.r.fl (cX q1.r.d x.Reg%cD x.Size) v=(bF (cX q1.r.d x.Reg%cD x.Size) v,iF x.Size q1.r.fl (bF (cX q1.r.d x.Reg%cD x.Size) v)):=by unfold rU;rw[e];rfl
   rw[tw]at p1 p2⊢;simp only[aB,aI,aA,rG,rF,oO,rE,oN,rD,oM,rC,mD,xD,mC,jV,jU,xC,pZ,f9,xB,zS,eO,cH,cB,bS,eS,eV,aX,cK,aW,bK,aV,aR,gE,lE,r1,r2,dT,cF,hfi,e,show eqI 5 0=false from rfl,show eqI 5 1=false from rfl,show eqI 5 2=false from rfl,show eqI 5 3=false from rfl,show eqI 5 4=false from rfl,show eqI 5 5=true from rfl,show eqI 5 6=false from rfl,show eqI 5 7=false from rfl,show eqI 5 8=false from rfl,show eqI 5 9=false from rfl,show eqI 5 10=false from rfl,show eqI 5 11=false from rfl,show eqI 5 12=false from rfl,show eqI 5 13=false from rfl,show eqI 5 14=false from rfl,show eqI 5 15=false from rfl,show eqI 5 16=false from rfl,show eqI 5 17=false from rfl,show eqI 5 18=false from rfl,show eqI 5 19=false from rfl,show dD 5 3=true from rfl,show dD 5 4=true from rfl,l1,l2,a1,a2,b1,b2,lg,p1,p2,Bool.not_true,Bool.not_false,cond_true,cond_false,aD,bO,wz,bL,cQ,aZ,cS,Bool.and_true,Bool.true_or,Bool.or_true,true_and,forall_const,q_1,Bool.false_eq_true,false_implies,and_true]
  ·have tw:rU x q1.r.fl (cX q1.r.d x.Reg%cD x.Size) v=(fB (cX q1.r.d x.Reg%cD x.Size) v,iF x.Size q1.r.fl (fB (cX q1.r.d x.Reg%cD x.Size) v)):=by unfold rU;rw[e];rfl
   rw[tw]at p1 p2⊢;simp only[aB,aI,aA,rG,rF,oO,rE,oN,rD,oM,rC,mD,xD,mC,jV,jU,xC,pZ,f9,xB,zS,eO,cH,cB,bS,eS,eV,aX,cK,aW,bK,aV,aR,gE,lE,r1,r2,dT,cF,hfi,e,show eqI 6 0=false from rfl,show eqI 6 1=false from rfl,show eqI 6 2=false from rfl,show eqI 6 3=false from rfl,show eqI 6 4=false from rfl,show eqI 6 5=false from rfl,show eqI 6 6=true from rfl,show eqI 6 7=false from rfl,show eqI 6 8=false from rfl,show eqI 6 9=false from rfl,show eqI 6 10=false from rfl,show eqI 6 11=false from rfl,show eqI 6 12=false from rfl,show eqI 6 13=false from rfl,show eqI 6 14=false from rfl,show eqI 6 15=false from rfl,show eqI 6 16=false from rfl,show eqI 6 17=false from rfl,show eqI 6 18=false from rfl,show eqI 6 19=false from rfl,show dD 6 3=true from rfl,show dD 6 4=true from rfl,l1,l2,a1,a2,b1,b2,lg,p1,p2,Bool.not_true,Bool.not_false,cond_true,cond_false,aD,bO,wz,bL,cQ,aZ,cS,Bool.and_true,Bool.true_or,Bool.or_true,true_and,forall_const,q_1,Bool.false_eq_true,false_implies,and_true]
  ·have tw:rU x q1.r.fl (cX q1.r.d x.Reg%cD x.Size) v=(qN (cX q1.r.d x.Reg%cD x.Size) v,iF x.Size q1.r.fl (qN (cX q1.r.d x.Reg%cD x.Size) v)):=by unfold rU;rw[e];rfl
   rw[tw]at p1 p2⊢;simp only[aB,aI,aA,rG,rF,oO,rE,oN,rD,oM,rC,mD,xD,mC,jV,jU,xC,pZ,f9,xB,zS,eO,cH,cB,bS,eS,eV,aX,cK,aW,bK,aV,aR,gE,lE,r1,r2,dT,cF,hfi,e,show eqI 7 0=false from rfl,show eqI 7 1=false from rfl,show eqI 7 2=false from rfl,show eqI 7 3=false from rfl,show eqI 7 4=false from rfl,show eqI 7 5=false from rfl,show eqI 7 6=false from rfl,show eqI 7 7=true from rfl,show eqI 7 8=false from rfl,show eqI 7 9=false from rfl,show eqI 7 10=false from rfl,show eqI 7 11=false from rfl,show eqI 7 12=false from rfl,show eqI 7 13=false from rfl,show eqI 7 14=false from rfl,show eqI 7 15=false from rfl,show eqI 7 16=false from rfl,show eqI 7 17=false from rfl,show eqI 7 18=false from rfl,show eqI 7 19=false from rfl,show dD 7 3=true from rfl,show dD 7 4=true from rfl,l1,l2,a1,a2,b1,b2,lg,p1,p2,Bool.not_true,Bool.not_false,cond_true,cond_false,aD,bO,wz,bL,cQ,aZ,cS,Bool.and_true,Bool.true_or,Bool.or_true,true_and,forall_const,q_1,Bool.false_eq_true,false_implies,and_true]
  ·simp only[aB,aI,aA,rG,rF,oO,rE,oN,rD,oM,rC,mD,xD,mC,jV,jU,xC,pZ,f9,xB,zS,eO,cH,cB,bS,eS,eV,aX,cK,aW,bK,aV,aR,r1,r2,dT,cF,hfi,e,show eqI 8 0=false from rfl,show eqI 8 1=false from rfl,show eqI 8 2=false from rfl,show eqI 8 3=false from rfl,show eqI 8 4=false from rfl,show eqI 8 5=false from rfl,show eqI 8 6=false from rfl,show eqI 8 7=false from rfl,show eqI 8 8=true from rfl,show eqI 8 9=false from rfl,show eqI 8 10=false from rfl,show eqI 8 11=false from rfl,show eqI 8 12=false from rfl,show eqI 8 13=false from rfl,show eqI 8 14=false from rfl,show eqI 8 15=false from rfl,show eqI 8 16=false from rfl,show eqI 8 17=false from rfl,show eqI 8 18=false from rfl,show eqI 8 19=false from rfl,l1,l2,c1,Bool.not_true,Bool.not_false,cond_true,cond_false,aD,bO,wz,bL,cQ,aZ,cS,Bool.and_true,Bool.true_or,Bool.or_true,true_and,forall_const,q_1,Bool.false_eq_true,false_implies,and_true]
   rfl
theorem bPM{t:Int}{m:MM}{x:aS}(hm:m.Ok t)(h:InsOk x)(h2:qK x):(CD m x).Ok t:=by
 obtain⟨r3,r4,r5⟩:=rT hm h.hs h.ho (V3 h h2) h.he;have t0:=hm.r.t0;unfold CD;generalize dU m x.Size x.Ea=q at r3 r4 r5;obtain⟨q1,v,a⟩:=q;have hd:=iP (s:=x.Size) (v:=cX q1.r.d x.Reg) h.hs;obtain⟨w1,w2⟩:=aUC (x:=x) (f:=q1.r.fl) h.hs r3.r.fw hd r4;dsimp only at r4 w1 w2 hd r3⊢;have lv:=kM h.hs w1;refine cE (P:=fun z=>MM.Ok t z) (fun _=>r3) fun _=>cE (P:=fun z=>MM.Ok t z) (fun _=>⟨r3.r.setF (bIM hd r4 r3.r.fw).2,r3.b⟩) fun _=>?_
 exact⟨OD (r3.r.setF w2) h.hr lv.1 (fun e=>by have:=lv.2.2 e;omega) (by omega),r3.b⟩
end Go.Proofs.YtdipcnijfkdnfaaGreatWhole

namespace Go.Proofs.YtdipcnijfkdnfaaGreatWhole
open Bool renaming true_eq_false → q_1
open Bool renaming false_eq_true → q_2
open Go Go.Zq
set_option maxHeartbeats 4000000
set_option maxRecDepth 100000
theorem aUD{v:Int}(h:cJ v 0 1023=true):dD (bF v 256) 0=eqI (v/256%2) 1∧dD (bF v 512) 0=eqI (v/512%2) 1:=by
 rw[aU]at h;obtain⟨n,rfl⟩:=Int.eq_ofNat_of_zero_le h.1;have key: ∀n:Fin 1024,dD (bF (n.val:Int) 256) 0=eqI ((n.val:Int)/256%2) 1∧dD (bF (n.val:Int) 512) 0=eqI ((n.val:Int)/512%2) 1:=by decide+kernel
 exact key ⟨n,by omega⟩
theorem aEK{t v:Int}{r:RM}(h:r.Ok t)(hv:cJ v 0 1023=true):aXJ r.g v=true∧aGL r.g v=(dS r v).g:=by
 refine aK (t:=a6Q r.g v) (P:=fun q=>q=(dS r v).g) ?_
 obtain⟨b1,b2,b3,b4,b5,-,-⟩:=AT h;obtain⟨c1,c2⟩:=aUD hv;have hv':=aU.1 hv;have e1:bF v 31=v%32:=jF 5 _ (by omega) (by decide)
 have e2:bF (fF v 5) 7=v/32%8:=by rw[kW (n:=5) 5 rfl (by omega)];exact jF 3 _ (by omega) (by decide)
 unfold a6Q dS;simp only[aB,aI,aA,aNC,eO,cH,cB,bS,eS,eV,aX,cK,aW,bK,aV,aR,aT,bB,b1,b2,b3,b4,b5,c1,c2,e1,e2,dY,List.length_set,aD,bO,wz,bL,cQ,aZ,cS,Bool.and_true,Bool.true_or,Bool.or_true,true_and];cases hs:eqI (v/256%2) 1<;>cases hp:r.sup<;>simp[AX]<;>rfl
theorem FZ{t v:Int}{r:RM}(h:r.Ok t):(dS r v).Ok t:=by
 have q:=aED h;have t0:=h.t0;have f:cJ (v%32) 0 31=true:=aU.2 (by omega)
 have k:cJ (v/32%8) 0 (t-65528)=true:=aU.2 (by omega)
 have o:=aU.1 h.ow;unfold dS;exact cE (P:=fun z=>RM.Ok t z) (fun _=>⟨h.t0,h.t1,h.d4,h.a4,h.dw,h.aw,h.ow,h.pw,f,k⟩) (fun _=>⟨h.t0,h.t1,h.d4,by simpa using h.a4,h.dw,sU h.aw o.1 o.2,aU.2 q,h.pw,f,k⟩)
theorem aG2{t:Int}{r:RM}(h:r.Ok t):bFX r.g=true∧a65 r.g=fR r:=by
 refine aK (t:=a64 r.g) (P:=fun q=>q=fR r) ?_
 have f:=aU.1 h.fw;have k:=aU.1 h.mw;have t1:=h.t1;have e1:dE 32 r.mask=32*r.mask:=gU (by omega)
 have b1: ∀(b:Bool)(n:Int),(bif b then n else 0)=0∨(bif b then n else 0)=n:=fun b n=>by cases b<;>simp
 have c1:=b1 r.sup 256;have c2:=b1 r.tr 512;unfold a64 fR;simp only[aB,aA,eO,cH,cB,bS,eS,eV,aX,cK,aW,bK,aV,aR,(fS _ _).1,(fS _ _).2,e1,aD,bO,wz,bL,cQ,aZ,cS,Bool.and_true,Bool.true_or,Bool.or_true,true_and];rw[bV (x:=r.fl) (by omega),bV (x:=r.fl+32*r.mask) (by omega),bV (by omega)]
theorem V5{t:Int}{r:RM}(h:r.Ok t):0≤fR r∧fR r≤65535:=by
 have f:=aU.1 h.fw;have k:=aU.1 h.mw;have t1:=h.t1;have b1: ∀(b:Bool)(n:Int),(bif b then n else 0)=0∨(bif b then n else 0)=n:=fun b n=>by cases b<;>simp
 have c1:=b1 r.sup 256;have c2:=b1 r.tr 512;unfold fR;omega
noncomputable def xJ(x:aS)(f v:Int):Int×Int:=
 bif eqI x.Sub 1 then((0-v)%cD x.Size,I1 x.Size 0 v)else bif eqI x.Sub 2 then(cD x.Size-1-v,iF x.Size f (cD x.Size-1-v))else(v,iF x.Size f v)
def fO(m:MM)(x:aS):MM×Int×Int:=bif eqI x.Sub 0 then((kO m x.Size x.Ea).1,0,(kO m x.Size x.Ea).2)else dU m x.Size x.Ea
noncomputable def ER(x:aS)(q:MM)(a:Int)(w:Int×Int):MM:=
 bif !cF q then q else
 bif ltI x.Sub 3 then{eK q x.Size x.Ea a w.1 with r:={(eK q x.Size x.Ea a w.1).r with fl:=w.2}}else{q with r:={q.r with fl:=w.2}}
noncomputable def OE(m:MM)(x:aS):MM:=ER x (fO m x).1 (fO m x).2.2 (xJ x (fO m x).1.r.fl (fO m x).2.1)
theorem b4F{x:aS}(h:x.Op=11):kB x=bif (bif eqI x.Reg 0 then leI x.Sub 3 else false)then aEB x.Ea.Mode else false:=by
 unfold kB;rw[h];rfl
theorem aG3{m:Int}(h:aEB m=true):m=0∨(2≤m∧m≤6):=by
 unfold aEB aGY at h;cases e:eqI m 0
 ·rw[e,cond_false,aU]at h;exact Or.inr h
 ·exact Or.inl (eC.1 e)
theorem V6{x:aS}(h:InsOk x)(h2:x.Op=11):x.Sub≤3∧(x.Ea.Mode=0∨(2≤x.Ea.Mode∧x.Ea.Mode≤6)):=by
 have hk:=h.kb;rw[b4F h2]at hk;cases e1:eqI x.Reg 0
 ·rw[e1]at hk;simp at hk
 ·cases e2:leI x.Sub 3
  ·rw[e1,e2]at hk;simp at hk
  ·rw[e1,e2]at hk;exact⟨lS.1 e2,aG3 hk⟩
theorem aEL{t:Int}{m:MM}{x:aS}(hm:m.Ok t)(h:InsOk x)(h2:x.Op=11):(fO m x).1.Ok t∧dK x.Size (fO m x).2.1=true∧cJ (fO m x).2.2 0 65535=true:=by
 obtain⟨k1,k2⟩:=V6 h h2;obtain⟨p1,p2⟩:=EQ (s:=x.Size) hm h.ho;unfold fO;exact cE (P:=fun z:MM×Int×Int=>z.1.Ok t∧dK x.Size z.2.1=true∧cJ z.2.2 0 65535=true) (fun _=>⟨p1,LG h.hs,p2⟩) (fun _=>rT hm h.hs h.ho (fun _ e=>by omega) (fun _ e=>by omega))
theorem QG{x:aS}{f v:Int}(hs:x.Size=1∨x.Size=2)(hf:cJ f 0 31=true)(hv:dK x.Size v=true):dK x.Size (xJ x f v).1=true∧cJ (xJ x f v).2 0 31=true:=by
 unfold xJ;refine cE (P:=fun z:Int×Int=>dK x.Size z.1=true∧cJ z.2 0 31=true) (fun _=>⟨iP hs,aEF _ _ _ _⟩) fun _=>?_
 refine cE (P:=fun z:Int×Int=>dK x.Size z.1=true∧cJ z.2 0 31=true) (fun _=>⟨?_,(oQ hs hf).2⟩) fun _=>⟨hv,(oQ hs hf).2⟩
 have:=kM hs hv;rcases hs with e|e
 ·rw[e]at this hv⊢;have:=this.2.2 rfl;refine EO (Or.inl rfl) ?_ ?_ (fun _=>?_)<;>(show _≤_;simp only[cD,show eqI 1 1=true from rfl,cond_true];omega)
 ·rw[e];refine EO (Or.inr rfl) ?_ ?_ (fun h=>absurd h (by decide))<;>(show _≤_;simp only[cD,show eqI 2 1=false from rfl,cond_false];omega)
theorem bPN{t:Int}{m:MM}{x:aS}(hm:m.Ok t)(h:InsOk x)(h2:x.Op=11):(OE m x).Ok t:=by
 obtain⟨q1,q2,q3⟩:=aEL hm h h2;obtain⟨v1,v2⟩:=QG (f:=(fO m x).1.r.fl) h.hs q1.r.fw q2;have w:=AU q1 h.hs h.ho q3 v1;unfold OE ER;refine cE (P:=fun z=>MM.Ok t z) (fun _=>q1) fun _=>cE (P:=fun z=>MM.Ok t z) (fun _=>⟨w.r.setF v2,w.b⟩) (fun _=>⟨q1.r.setF v2,q1.b⟩)
theorem b4G{t:Int}{m:MM}{x:aS}(hm:m.Ok t)(h:InsOk x)(h2:x.Op=11):bNN x m.g=true∧a6C x m.g=(OE m x).g:=by
 refine aK (t:=a6B x m.g) (P:=fun q=>q=(OE m x).g) ?_
 obtain⟨k1,k2⟩:=V6 h h2;have hb:=aU.1 h.hb;obtain⟨q1,q2,q3⟩:=aEL hm h h2;obtain⟨v1,v2⟩:=QG (f:=(fO m x).1.r.fl) h.hs q1.r.fw q2;obtain⟨w1,w2⟩:=aUA q1 h.hs h.ho q3 v1;have lg: ∀v,D9 x.Size (fO m x).1.r.fl v=true:=fun v=>(oQ h.hs q1.r.fw).1
 obtain⟨b1,b2⟩:=a8N (s:=x.Size) (a:=0) (LG h.hs) q2;have lv:=kM h.hs q2;have lr:=rO h.hs;have e3:cM (cD x.Size) 1=cD x.Size-1:=eX (by omega)
 have e4:cM (cD x.Size-1) (fO m x).2.1=cD x.Size-1-(fO m x).2.1:=eX (by omega)
 obtain⟨r1,r2⟩:=aEI hm h.hs h.ho;obtain⟨p1,p2⟩:=aT9 (s:=x.Size) hm h.ho;unfold a6B OE;have hsub:x.Sub=0∨x.Sub=1∨x.Sub=2∨x.Sub=3:=by omega
 rcases hsub with e|e|e|e
 ·have hq:fO m x=((kO m x.Size x.Ea).1,0,(kO m x.Size x.Ea).2):=by unfold fO;rw[e];rfl
  have hv:xJ x (fO m x).1.r.fl (fO m x).2.1=((fO m x).2.1,iF x.Size (fO m x).1.r.fl (fO m x).2.1):=by unfold xJ;rw[e];rfl
  have l3:ltI x.Sub 3=true:=by rw[e];rfl
  rw[hv]at v1 w1 w2⊢;rw[hq]at b1 b2 e4 w1 w2 lg⊢;dsimp only at b1 b2 e4 w1 w2 lg⊢;unfold ER;cases hfi:eqI ((kO m x.Size x.Ea).1).f.Vector 0
  ·simp only[aB,aI,aA,zQ,uV,zP,zO,wW,zN,zM,uU,zL,zK,eO,cH,cB,bS,eS,eV,aX,cK,aW,bK,aV,aR,r1,r2,p1,p2,dT,cF,hfi,e,show eqI 0 0=true from rfl,show eqI 0 1=false from rfl,show eqI 0 2=false from rfl,show eqI 0 3=false from rfl,Bool.not_false,cond_true,cond_false,aD,bO,wz,bL,cQ,aZ,cS,Bool.and_true,Bool.true_or,Bool.or_true,true_and,forall_const,q_1,q_2,false_implies,and_true,implies_true]
  ·simp only[aB,aI,aA,zQ,uV,zP,zO,wW,zN,zM,uU,zL,zK,eO,cH,cB,bS,eS,eV,aX,cK,aW,bK,aV,aR,gE,lE,r1,r2,p1,p2,dT,cF,hfi,e,show eqI 0 0=true from rfl,show eqI 0 1=false from rfl,show eqI 0 2=false from rfl,show eqI 0 3=false from rfl,(lC h.hs).1,(lC h.hs).2,b1,b2,lg,e3,e4,w1,w2,l3,show ltI 0 3=true from rfl,Bool.not_true,Bool.not_false,cond_true,cond_false,aD,bO,wz,bL,cQ,aZ,cS,Bool.and_true,Bool.true_or,Bool.or_true,true_and,forall_const,q_1,q_2,false_implies,and_true,implies_true]
 ·have hq:fO m x=dU m x.Size x.Ea:=by unfold fO;rw[e];rfl
  have hv:xJ x (fO m x).1.r.fl (fO m x).2.1=((0-(fO m x).2.1)%cD x.Size,I1 x.Size 0 (fO m x).2.1):=by unfold xJ;rw[e];rfl
  have l3:ltI x.Sub 3=true:=by rw[e];rfl
  rw[hv]at v1 w1 w2⊢;rw[hq]at b1 b2 e4 w1 w2 lg⊢;dsimp only at b1 b2 e4 w1 w2 lg⊢;unfold ER;cases hfi:eqI ((dU m x.Size x.Ea).1).f.Vector 0
  ·simp only[aB,aI,aA,zQ,uV,zP,zO,wW,zN,zM,uU,zL,zK,eO,cH,cB,bS,eS,eV,aX,cK,aW,bK,aV,aR,r1,r2,p1,p2,dT,cF,hfi,e,show eqI 1 0=false from rfl,show eqI 1 1=true from rfl,show eqI 1 2=false from rfl,show eqI 1 3=false from rfl,Bool.not_false,cond_true,cond_false,aD,bO,wz,bL,cQ,aZ,cS,Bool.and_true,Bool.true_or,Bool.or_true,true_and,forall_const,q_1,q_2,false_implies,and_true,implies_true]
  ·simp only[aB,aI,aA,zQ,uV,zP,zO,wW,zN,zM,uU,zL,zK,eO,cH,cB,bS,eS,eV,aX,cK,aW,bK,aV,aR,gE,lE,r1,r2,p1,p2,dT,cF,hfi,e,show eqI 1 0=false from rfl,show eqI 1 1=true from rfl,show eqI 1 2=false from rfl,show eqI 1 3=false from rfl,(lC h.hs).1,(lC h.hs).2,b1,b2,lg,e3,e4,w1,w2,l3,show ltI 1 3=true from rfl,Bool.not_true,Bool.not_false,cond_true,cond_false,aD,bO,wz,bL,cQ,aZ,cS,Bool.and_true,Bool.true_or,Bool.or_true,true_and,forall_const,q_1,q_2,false_implies,and_true,implies_true]
 ·have hq:fO m x=dU m x.Size x.Ea:=by unfold fO;rw[e];rfl
  have hv:xJ x (fO m x).1.r.fl (fO m x).2.1=(cD x.Size-1-(fO m x).2.1,iF x.Size (fO m x).1.r.fl (cD x.Size-1-(fO m x).2.1)):=by unfold xJ;rw[e];rfl
  have l3:ltI x.Sub 3=true:=by rw[e];rfl
  rw[hv]at v1 w1 w2⊢;rw[hq]at b1 b2 e4 w1 w2 lg⊢;dsimp only at b1 b2 e4 w1 w2 lg⊢;unfold ER;cases hfi:eqI ((dU m x.Size x.Ea).1).f.Vector 0
  ·simp only[aB,aI,aA,zQ,uV,zP,zO,wW,zN,zM,uU,zL,zK,eO,cH,cB,bS,eS,eV,aX,cK,aW,bK,aV,aR,r1,r2,p1,p2,dT,cF,hfi,e,show eqI 2 0=false from rfl,show eqI 2 1=false from rfl,show eqI 2 2=true from rfl,show eqI 2 3=false from rfl,Bool.not_false,cond_true,cond_false,aD,bO,wz,bL,cQ,aZ,cS,Bool.and_true,Bool.true_or,Bool.or_true,true_and,forall_const,q_1,q_2,false_implies,and_true,implies_true]
  ·simp only[aB,aI,aA,zQ,uV,zP,zO,wW,zN,zM,uU,zL,zK,eO,cH,cB,bS,eS,eV,aX,cK,aW,bK,aV,aR,gE,lE,r1,r2,p1,p2,dT,cF,hfi,e,show eqI 2 0=false from rfl,show eqI 2 1=false from rfl,show eqI 2 2=true from rfl,show eqI 2 3=false from rfl,(lC h.hs).1,(lC h.hs).2,b1,b2,lg,e3,e4,w1,w2,l3,show ltI 2 3=true from rfl,Bool.not_true,Bool.not_false,cond_true,cond_false,aD,bO,wz,bL,cQ,aZ,cS,Bool.and_true,Bool.true_or,Bool.or_true,true_and,forall_const,q_1,q_2,false_implies,and_true,implies_true]
 ·have hq:fO m x=dU m x.Size x.Ea:=by unfold fO;rw[e];rfl
  have hv:xJ x (fO m x).1.r.fl (fO m x).2.1=((fO m x).2.1,iF x.Size (fO m x).1.r.fl (fO m x).2.1):=by unfold xJ;rw[e];rfl
  have l3:ltI x.Sub 3=false:=by rw[e];rfl
  rw[hv]at v1 w1 w2⊢;rw[hq]at b1 b2 e4 w1 w2 lg⊢;dsimp only at b1 b2 e4 w1 w2 lg⊢;unfold ER;cases hfi:eqI ((dU m x.Size x.Ea).1).f.Vector 0
  ·simp only[aB,aI,aA,zQ,uV,zP,zO,wW,zN,zM,uU,zL,zK,eO,cH,cB,bS,eS,eV,aX,cK,aW,bK,aV,aR,r1,r2,p1,p2,dT,cF,hfi,e,show eqI 3 0=false from rfl,show eqI 3 1=false from rfl,show eqI 3 2=false from rfl,show eqI 3 3=true from rfl,Bool.not_false,cond_true,cond_false,aD,bO,wz,bL,cQ,aZ,cS,Bool.and_true,Bool.true_or,Bool.or_true,true_and,forall_const,q_1,q_2,false_implies,and_true,implies_true]
  ·simp only[aB,aI,aA,zQ,uV,zP,zO,wW,zN,zM,uU,zL,zK,eO,cH,cB,bS,eS,eV,aX,cK,aW,bK,aV,aR,gE,lE,r1,r2,p1,p2,dT,cF,hfi,e,show eqI 3 0=false from rfl,show eqI 3 1=false from rfl,show eqI 3 2=false from rfl,show eqI 3 3=true from rfl,(lC h.hs).1,(lC h.hs).2,b1,b2,lg,e3,e4,w1,w2,l3,show ltI 3 3=false from rfl,Bool.not_true,Bool.not_false,cond_true,cond_false,aD,bO,wz,bL,cQ,aZ,cS,Bool.and_true,Bool.true_or,Bool.or_true,true_and,forall_const,q_1,q_2,false_implies,and_true,implies_true]
end Go.Proofs.YtdipcnijfkdnfaaGreatWhole

namespace Go.Proofs.YtdipcnijfkdnfaaGreatWhole
open Go Go.Zq
set_option maxHeartbeats 4000000
set_option maxRecDepth 100000
theorem bIO(a:Int):bMA a=true∧bL9 a=cJ a 0 1:=by
 refine aK (t:=a4F a) (P:=fun r=>r=cJ a 0 1) ?_
 unfold a4F;simp only[aB,aA,kJ,kK,Bool.and_true,true_and]
theorem a8R(c o z n:Bool):gI (fl c o z n) 16=bF (fl c o z n) 15:=by
 cases c<;>cases o<;>cases z<;>cases n<;>decide
theorem aUE(f:Int):bKG f=true∧bKF f=cJ f 0 31:=by
 refine aK (t:=a1V f) (P:=fun r=>r=cJ f 0 31) ?_
 unfold a1V;simp only[aB,aA,kJ,kK,Bool.and_true,true_and]
theorem aUF(f:Int):bM2 f=true∧bM1 f=cJ f 0 31:=by
 refine aK (t:=a45 f) (P:=fun r=>r=cJ f 0 31) ?_
 unfold a45;simp only[aB,aA,sS,sT,Bool.and_true,true_and]
theorem b4H(a:Int):bNX a=true∧bFV a=(bif dK 1 a then(bF (AS 1 a) 65535,true)else(0,false)):=by
 refine aK (t:=a6U a) (P:=fun r=>r=(bif dK 1 a then(bF (AS 1 a) 65535,true)else(0,false))) ?_
 unfold a6U;simp only[aB,aI,aA,(YX _ _).1,(YX _ _).2,Bool.and_true,true_and];cases ha:dK 1 a
 ·simp
 ·obtain⟨-,h0,h1⟩:=p7 ha;obtain⟨p1,p2⟩:=GZ (s:=1) (v:=a) (Or.inl rfl) h0 (by unfold cD at h1;rw[show eqI 1 1=true from rfl,cond_true]at h1;omega)
  rw[p1,p2];simp
def Y2(a:Int):Int×Bool:=bif cJ a 0 65535 then(fB (fF a 8) (m9 (bF a 255) 8),true)else(0,false)
theorem bPO(a:Int):bNU a=true∧bFT a=Y2 a:=by
 refine aK (t:=a6S a) (P:=fun r=>r=Y2 a) ?_
 unfold a6S Y2;have e:dK 2 a=cJ a 0 65535:=rfl;simp only[aB,aI,aA,(YX _ _).1,(YX _ _).2,e,Bool.and_true,true_and];cases cJ a 0 65535<;>simp
end Go.Proofs.YtdipcnijfkdnfaaGreatWhole

namespace Go.Proofs.YtdipcnijfkdnfaaGreatWhole
open Bool renaming and_true → qt
open Bool renaming true_eq_false → q_1
open Bool renaming false_eq_true → q_2
open Bool renaming true_or → q_3
open Bool renaming not_false → q_4
open Bool renaming not_true → q_5
open Bool renaming or_true → q_6
open Nat renaming zero_add → q_9
open Go Go.Zq
set_option maxHeartbeats 4000000
set_option maxRecDepth 100000
def ES(v:Int):Int:=(Y2 v).1
theorem V7{v:Int}:0≤ES v∧ES v≤65535:=by
 unfold ES Y2;cases h:cJ v 0 65535
 ·exact⟨Int.le_refl 0,(by decide:(0:Int)≤65535)⟩
 ·rw[aU]at h;rw[cond_true];have e1:fF v 8=v/256:=bPG;have e2:m9 (bF v 255) 8=v%256*256:=by rw[zU h.1 (by omega),bGC (by omega) (by omega)]
  show 0≤fB (fF v 8) (m9 (bF v 255) 8)∧fB (fF v 8) (m9 (bF v 255) 8)≤65535
  rw[e1,e2];exact(LH ⟨by omega,by omega⟩ ⟨by omega,by omega⟩).2.1
def XE(v:Int):Int:=bF (AS 1 (v%256)) 65535
theorem aUG{v:Int}:0≤XE v∧XE v≤65535:=by
 unfold XE;rw[rX];exact b38 _
noncomputable def ET(m:MM)(x:aS):MM:=
 bif eqI x.Sub 0 then{(dM m).1 with r:={(dM m).1.r with pc:=(dM m).2}}
 else bif eqI x.Sub 1 then
  (bif !cF (dM m).1 then(dM m).1 else
   bif cF (dM (dM m).1).1 then{(dM (dM m).1).1 with r:=dS {(dM (dM m).1).1.r with pc:=(dM (dM m).1).2} ((dM m).2%1024)}else(dM (dM m).1).1)
 else bif eqI x.Sub 3 then{m with r:=dS m.r x.Ea.Ext,stop:=true}
 else bif eqI x.Sub 4 then zY m (18+x.Reg)
 else bif eqI x.Sub 5 then CP m 2 x.Reg (ES (cX m.r.d x.Reg))
 else bif eqI x.Sub 6 then CP m 2 x.Reg (XE (cX m.r.d x.Reg))else m
theorem a8S{x:aS}(h:x.Op=15):kB x=LD x:=bIJ x h
theorem Y3{x:aS}(h:InsOk x)(h2:x.Op=15):x.Sub=3→x.Ea.Ext≤1023:=by
 intro e;have hk:=h.kb;rw[a8S h2]at hk;unfold LD at hk;rw[e]at hk;simp only[show pG 3 6=false from rfl,show eqI 3 3=true from rfl,cond_true]at hk
 cases e1:dD x.Size 2
 ·rw[e1]at hk;simp only[cond_false]at hk;cases e2:eqI x.Reg 0
  ·rw[e2]at hk;simp at hk
  ·rw[e2,cond_true]at hk;unfold VV at hk;cases e3:eqI x.Ea.Mode 7
   ·rw[e3]at hk;simp at hk
   ·rw[e3,cond_true,lS]at hk;exact hk
 ·rw[e1]at hk;simp at hk
theorem V8:(2:Int)=1∨(2:Int)=2:=Or.inr rfl
theorem oV{P:Prop}:(2:Int)=1→P:=fun h=>absurd h (by decide)
theorem bGM{t:Int}{m:MM}{x:aS}(hm:m.Ok t)(h:InsOk x):(ET m x).Ok t:=by
 obtain⟨p1,p2,p3⟩:=I2 hm;obtain⟨q1,q2,q3⟩:=I2 p1;have t0:=hm.r.t0;have s:=V7 (v:=cX m.r.d x.Reg);have e:=aUG (v:=cX m.r.d x.Reg);unfold ET;refine cE (P:=fun z=>MM.Ok t z) (fun _=>⟨p1.r.setP (aU.2 ⟨p2,p3⟩),p1.b⟩) fun _=>?_
 refine cE (P:=fun z=>MM.Ok t z) (fun _=>cE (P:=fun z=>MM.Ok t z) (fun _=>p1) fun _=>cE (P:=fun z=>MM.Ok t z) (fun _=>⟨FZ (q1.r.setP (aU.2 ⟨q2,q3⟩)),q1.b⟩) fun _=>q1) fun _=>?_
 refine cE (P:=fun z=>MM.Ok t z) (fun _=>⟨FZ hm.r,hm.b⟩) fun _=>?_
 refine cE (P:=fun z=>MM.Ok t z) (fun _=>⟨hm.r,hm.b⟩) fun _=>?_
 refine cE (P:=fun z=>MM.Ok t z) (fun _=>QF hm V8 h.hr s.1 oV (by omega)) fun _=>?_
 exact cE (P:=fun z=>MM.Ok t z) (fun _=>QF hm V8 h.hr e.1 oV (by omega)) fun _=>hm
theorem bPP{t:Int}{m:MM}{x:aS}(hm:m.Ok t)(h:InsOk x)(h2:x.Op=15):bNY x m.g=true∧a6W x m.g=(ET m x).g:=by
 refine aK (t:=a6V x m.g) (P:=fun q=>q=(ET m x).g) ?_
 obtain⟨p1,p2,p3⟩:=I2 hm;obtain⟨q1,q2,q3⟩:=I2 p1;obtain⟨a1,a2⟩:=bIL hm;obtain⟨b1,b2⟩:=bIL p1;have hr:=aU.1 h.hr;have c1:bF (dM m).2 1023=(dM m).2%1024:=jF 10 _ (by omega) (by decide)
 have c0:cJ ((dM m).2%1024) 0 1023=true:=aU.2 (by omega)
 obtain⟨d1,d2⟩:=aEK (v:=(dM m).2%1024) (q1.r.setP (aU.2 ⟨q2,q3⟩)) c0;have e1:bE 18 x.Reg=18+x.Reg:=bV (by omega)
 obtain⟨f1,f2⟩:=aUB m (18+x.Reg);obtain⟨i1,i2,i3⟩:=jX hm.r.d4 h.hr;obtain⟨s1,s2,s3,s4,s5⟩:=gG (v:=0) hm.r.d4 h.hr;rw[q_9]at s5;obtain⟨j1,j2⟩:=bPO (cX m.r.d x.Reg);have sr:=V7 (v:=cX m.r.d x.Reg);obtain⟨l1,l2⟩:=aEJ (v:=ES (cX m.r.d x.Reg)) hm V8 h.hr oV;obtain⟨u1,u2⟩:=aEJ (v:=XE (cX m.r.d x.Reg)) hm V8 h.hr oV;have dr:=nW hm.r.dw hm.r.d4 h.hr;have t1:=hm.r.t1;have m8:bF (cX m.r.d x.Reg) 255=cX m.r.d x.Reg%256:=zU dr.1 (by omega)
 have v1:dK 1 (cX m.r.d x.Reg%256)=true:=iP (s:=1) (Or.inl rfl);obtain⟨w1,w2⟩:=b4H (cX m.r.d x.Reg%256);rw[v1,cond_true]at w2;unfold a6V ET;unfold ES at l1 l2;unfold XE at u1 u2;have hsub:x.Sub=0∨x.Sub=1∨x.Sub=2∨x.Sub=3∨x.Sub=4∨x.Sub=5∨x.Sub=6∨x.Sub=7:=by have:=aU.1 h.hb;omega
 rcases hsub with e|e|e|e|e|e|e|e
 ·simp only[aB,aI,aA,uZ,uY,uX,w9,w8,uW,w7,w6,wZ,wY,eO,cH,cB,bS,eS,eV,aX,cK,aW,bK,aV,aR,q_9,aT,bB,jB,gE,lE,dT,e,show eqI 0 0=true from rfl,show eqI 0 1=false from rfl,show eqI 0 2=false from rfl,show eqI 0 3=false from rfl,show eqI 0 4=false from rfl,show eqI 0 5=false from rfl,show eqI 0 6=false from rfl,show eqI 0 7=false from rfl,q_5,q_4,cond_true,cond_false,aD,bO,wz,bL,cQ,aZ,cS,qt,q_3,q_6,true_and,forall_const,q_1,q_2,false_implies,and_true,implies_true,a1,a2]
 ·cases hf:eqI (dM m).1.f.Vector 0
  ·simp only[aB,aI,aA,uZ,uY,uX,w9,w8,uW,w7,w6,wZ,wY,eO,cH,cB,bS,eS,eV,aX,cK,aW,bK,aV,aR,q_9,aT,bB,jB,gE,lE,dT,e,show eqI 1 0=false from rfl,show eqI 1 1=true from rfl,show eqI 1 2=false from rfl,show eqI 1 3=false from rfl,show eqI 1 4=false from rfl,show eqI 1 5=false from rfl,show eqI 1 6=false from rfl,show eqI 1 7=false from rfl,q_5,q_4,cond_true,cond_false,aD,bO,wz,bL,cQ,aZ,cS,qt,q_3,q_6,true_and,forall_const,q_1,q_2,false_implies,and_true,implies_true,a1,a2,cF,hf]
  ·simp only[aB,aI,aA,uZ,uY,uX,w9,w8,uW,w7,w6,wZ,wY,eO,cH,cB,bS,eS,eV,aX,cK,aW,bK,aV,aR,q_9,aT,bB,jB,gE,lE,dT,e,show eqI 1 0=false from rfl,show eqI 1 1=true from rfl,show eqI 1 2=false from rfl,show eqI 1 3=false from rfl,show eqI 1 4=false from rfl,show eqI 1 5=false from rfl,show eqI 1 6=false from rfl,show eqI 1 7=false from rfl,q_5,q_4,cond_true,cond_false,aD,bO,wz,bL,cQ,aZ,cS,qt,q_3,q_6,true_and,forall_const,q_1,q_2,false_implies,and_true,implies_true,a1,a2,b1,b2,c1,d1,d2,cF,hf]
   refine⟨fun q=>?_,fun q=>?_⟩
   ·rw[q];rfl
   ·rw[q];rfl
 ·simp only[aB,aI,aA,uZ,uY,uX,w9,w8,uW,w7,w6,wZ,wY,eO,cH,cB,bS,eS,eV,aX,cK,aW,bK,aV,aR,q_9,aT,bB,jB,gE,lE,dT,e,show eqI 2 0=false from rfl,show eqI 2 1=false from rfl,show eqI 2 2=true from rfl,show eqI 2 3=false from rfl,show eqI 2 4=false from rfl,show eqI 2 5=false from rfl,show eqI 2 6=false from rfl,show eqI 2 7=false from rfl,q_5,q_4,cond_true,cond_false,aD,bO,wz,bL,cQ,aZ,cS,qt,q_3,q_6,true_and,forall_const,q_1,q_2,false_implies,and_true,implies_true]
 ·obtain⟨z1,z2⟩:=aEK (v:=x.Ea.Ext) hm.r (aU.2 ⟨(aU.1 h.ho.he).1,Y3 h h2 e⟩);simp only[aB,aI,aA,uZ,uY,uX,w9,w8,uW,w7,w6,wZ,wY,eO,cH,cB,bS,eS,eV,aX,cK,aW,bK,aV,aR,q_9,aT,bB,jB,gE,lE,dT,e,show eqI 3 0=false from rfl,show eqI 3 1=false from rfl,show eqI 3 2=false from rfl,show eqI 3 3=true from rfl,show eqI 3 4=false from rfl,show eqI 3 5=false from rfl,show eqI 3 6=false from rfl,show eqI 3 7=false from rfl,q_5,q_4,cond_true,cond_false,aD,bO,wz,bL,cQ,aZ,cS,qt,q_3,q_6,true_and,forall_const,q_1,q_2,false_implies,and_true,implies_true,z1,z2]
  rfl
 ·simp only[aB,aI,aA,uZ,uY,uX,w9,w8,uW,w7,w6,wZ,wY,eO,cH,cB,bS,eS,eV,aX,cK,aW,bK,aV,aR,q_9,aT,bB,jB,gE,lE,dT,e,show eqI 4 0=false from rfl,show eqI 4 1=false from rfl,show eqI 4 2=false from rfl,show eqI 4 3=false from rfl,show eqI 4 4=true from rfl,show eqI 4 5=false from rfl,show eqI 4 6=false from rfl,show eqI 4 7=false from rfl,q_5,q_4,cond_true,cond_false,aD,bO,wz,bL,cQ,aZ,cS,qt,q_3,q_6,true_and,forall_const,q_1,q_2,false_implies,and_true,implies_true,e1,f1,f2]
 ·simp only[aB,aI,aA,uZ,uY,uX,w9,w8,uW,w7,w6,wZ,wY,eO,cH,cB,bS,eS,eV,aX,cK,aW,bK,aV,aR,q_9,aT,bB,jB,gE,lE,dT,e,show eqI 5 0=false from rfl,show eqI 5 1=false from rfl,show eqI 5 2=false from rfl,show eqI 5 3=false from rfl,show eqI 5 4=false from rfl,show eqI 5 5=true from rfl,show eqI 5 6=false from rfl,show eqI 5 7=false from rfl,q_5,q_4,cond_true,cond_false,aD,bO,wz,bL,cQ,aZ,cS,qt,q_3,q_6,true_and,forall_const,q_1,q_2,false_implies,and_true,implies_true,i2,s3,s4,s5,j1,j2,l1,l2,ES]
 ·simp only[aB,aI,aA,uZ,uY,uX,w9,w8,uW,w7,w6,wZ,wY,eO,cH,cB,bS,eS,eV,aX,cK,aW,bK,aV,aR,q_9,aT,bB,jB,gE,lE,dT,e,show eqI 6 0=false from rfl,show eqI 6 1=false from rfl,show eqI 6 2=false from rfl,show eqI 6 3=false from rfl,show eqI 6 4=false from rfl,show eqI 6 5=false from rfl,show eqI 6 6=true from rfl,show eqI 6 7=false from rfl,q_5,q_4,cond_true,cond_false,aD,bO,wz,bL,cQ,aZ,cS,qt,q_3,q_6,true_and,forall_const,q_1,q_2,false_implies,and_true,implies_true,i2,s3,s4,s5,m8,w1,w2,u1,u2,XE]
 ·simp only[aB,aI,aA,uZ,uY,uX,w9,w8,uW,w7,w6,wZ,wY,eO,cH,cB,bS,eS,eV,aX,cK,aW,bK,aV,aR,q_9,aT,bB,jB,gE,lE,dT,e,show eqI 7 0=false from rfl,show eqI 7 1=false from rfl,show eqI 7 2=false from rfl,show eqI 7 3=false from rfl,show eqI 7 4=false from rfl,show eqI 7 5=false from rfl,show eqI 7 6=false from rfl,show eqI 7 7=true from rfl,q_5,q_4,cond_true,cond_false,aD,bO,wz,bL,cQ,aZ,cS,qt,q_3,q_6,true_and,forall_const,q_1,q_2,false_implies,and_true,implies_true]
noncomputable def Y4(m:MM)(x:aS)(v:Int):MM:=
 bif eqI x.Op 16 then{CP m 2 x.Reg (cX m.r.d x.Reg*v%65536)with r:={(CP m 2 x.Reg (cX m.r.d x.Reg*v%65536)).r with fl:=fB (CP m 2 x.Reg (cX m.r.d x.Reg*v%65536)).r.fl (bif pG (cX m.r.d x.Reg*v) 65535 then 2 else 0)}}
 else bif eqI v 0 then zY m 5 else CP m 2 x.Reg (cX m.r.d x.Reg/v)
noncomputable def kL(m:MM)(x:aS):MM:=bif !cF (dU m 2 x.Ea).1 then(dU m 2 x.Ea).1 else Y4 (dU m 2 x.Ea).1 x (dU m 2 x.Ea).2.1
theorem aEM{d v:Int}(h0:0≤d)(h1:0<v)(h2:d≤65536):lW d v=d/v∧0≤d/v∧d/v≤d:=by
 have e:=Int.tdiv_eq_ediv_of_nonneg (b:=v) h0;have p:0≤d/v:=Int.ediv_nonneg h0 (by omega)
 have q:d/v≤d:=Int.ediv_le_self _ h0;refine⟨?_,p,q⟩;unfold lW;rw[e,IntKind.wrap_i64];omega
theorem aUH{d v:Int}(h0:0≤d)(h1:d≤65536)(h2:0≤v)(h3:v≤65535):dE d v=d*v∧0≤d*v:=by
 have a:=Int.mul_nonneg h0 h2;have b:d*v≤65536*65535:=Int.mul_le_mul h1 h3 h2 (by decide)
 exact⟨gU (by omega),a⟩
theorem bGN{t s k v:Int}{m:MM}(hm:m.Ok t)(hs:s=1∨s=2):cJ (CP m s k v).r.fl 0 31=true:=(oQ (v:=v) hs hm.r.fw).2
theorem aN7{t:Int}{m:MM}{x:aS}(hm:m.Ok t)(h:InsOk x):(kL m x).Ok t:=by
 obtain⟨r1,r2,r3⟩:=rT hm V8 h.ho oV oV;have rv:=rP r2;have dr:=nW r1.r.dw r1.r.d4 h.hr;have t1:=hm.r.t1;have t0:=hm.r.t0;unfold kL Y4;refine cE (P:=fun z=>MM.Ok t z) (fun _=>r1) fun _=>?_
 refine cE (P:=fun z=>MM.Ok t z) (fun _=>?_) fun _=>cE (P:=fun z=>MM.Ok t z) (fun _=>⟨r1.r,r1.b⟩) fun hv=>?_
 ·have d:=QF (v:=cX (dU m 2 x.Ea).1.r.d x.Reg*(dU m 2 x.Ea).2.1%65536) r1 V8 h.hr (by omega) oV (by omega)
  exact⟨d.r.setF (p8 (bGN r1 V8) (vR (by decide))),d.b⟩
 ·rw[iS]at hv;obtain⟨-,p,q⟩:=aEM (v:=(dU m 2 x.Ea).2.1) dr.1 (by omega) (by omega)
  exact QF r1 V8 h.hr p oV (by omega)
theorem Y5{t:Int}{m:MM}{x:aS}(hm:m.Ok t)(h:InsOk x):bNZ x m.g=true∧a6Y x m.g=(kL m x).g:=by
 refine aK (t:=a6X x m.g) (P:=fun q=>q=(kL m x).g) ?_
 obtain⟨r1,r2,r3⟩:=rT hm V8 h.ho oV oV;obtain⟨a1,a2⟩:=aEI hm V8 h.ho;unfold a6X kL;generalize dU m 2 x.Ea=q at r1 r2 r3 a1 a2;obtain⟨q1,v,a⟩:=q;dsimp only at r1 r2 r3 a1 a2⊢;have rv:=rP r2;have dr:=nW r1.r.dw r1.r.d4 h.hr;have t1:=hm.r.t1;obtain⟨i1,i2,i3⟩:=jX r1.r.d4 h.hr;obtain⟨s1,s2,s3,s4,s5⟩:=gG (v:=0) r1.r.d4 h.hr;rw[q_9]at s5;obtain⟨e1,e2⟩:=aUH dr.1 (by omega) rv.1 rv.2
 obtain⟨b1,b2⟩:=aEJ (v:=cX q1.r.d x.Reg*v%65536) r1 V8 h.hr oV;obtain⟨c1,c2⟩:=aUB q1 5;cases hf:eqI q1.f.Vector 0
 ·simp only[aB,aI,aA,IN,NZ,IM,B1,EE,eO,cH,cB,bS,eS,eV,aX,cK,aW,bK,aV,aR,a1,a2,dT,cF,hf,q_5,q_4,cond_true,cond_false,aD,bO,wz,bL,cQ,aZ,cS,qt,q_3,q_6,true_and,forall_const,q_1,q_2,false_implies,and_true,implies_true]
 ·unfold Y4;cases ho:eqI x.Op 16
  ·cases hv:eqI v 0
   ·have hv':=hv;rw[iS]at hv';obtain⟨d1,d2,d3⟩:=aEM (v:=v) dr.1 (by omega) (by omega)
    obtain⟨j1,j2⟩:=aEJ (v:=cX q1.r.d x.Reg/v) r1 V8 h.hr oV;have nz:dD v 0=true:=oP.2 hv';simp only[aB,aI,aA,IN,NZ,IM,B1,EE,eO,cH,cB,bS,eS,eV,aX,cK,aW,bK,aV,aR,q_9,aT,bB,a1,a2,dT,cF,hf,ho,hv,nz,i2,s3,s4,s5,d1,j1,j2,q_5,q_4,cond_true,cond_false,aD,bO,wz,bL,cQ,aZ,cS,qt,q_3,q_6,true_and,forall_const,q_1,q_2,false_implies,and_true,implies_true]
   ·simp only[aB,aI,aA,IN,NZ,IM,B1,EE,eO,cH,cB,bS,eS,eV,aX,cK,aW,bK,aV,aR,q_9,aT,bB,a1,a2,dT,cF,hf,ho,hv,i2,s3,s4,s5,c1,c2,q_5,q_4,cond_true,cond_false,aD,bO,wz,bL,cQ,aZ,cS,qt,q_3,q_6,true_and,forall_const,q_1,q_2,false_implies,and_true,implies_true]
  ·simp only[aB,aI,aA,IN,NZ,IM,B1,EE,eO,cH,cB,bS,eS,eV,aX,cK,aW,bK,aV,aR,q_9,aT,bB,a1,a2,dT,cF,hf,ho,i2,s3,s4,s5,e1,rX,b1,b2,(fS _ _).1,(fS _ _).2,q_5,q_4,cond_true,cond_false,aD,bO,wz,bL,cQ,aZ,cS,qt,q_3,q_6,true_and,forall_const,q_1,q_2,false_implies,and_true,implies_true];rfl
theorem Y6(v:Int):bFW v=true∧jG v=(bif (bif cJ v 0 255 then leI (fF v 4) 9 else false)then leI (bF v 15) 9 else false):=by
 refine aK (t:=a6Z v) (P:=fun q=>q=(bif (bif cJ v 0 255 then leI (fF v 4) 9 else false)then leI (bF v 15) 9 else false)) ?_
 unfold a6Z;simp only[aB,aA,sS,sT,aD,bO,wz,bL,cQ,aZ,cS,qt,q_3,q_6,true_and]
def Bcd(v:Int):Prop:=0≤v/16∧v/16≤9∧0≤v%16∧v%16≤9
theorem kZ{v:Int}(h:jG v=true):Bcd v:=by
 rw[(Y6 v).2]at h;have e1:fF v 4=v/16:=kW (n:=4) 4 rfl (by omega)
 have e2:bF v 15=v%16:=jF 4 _ (by omega) (by decide)
 rw[e1,e2]at h;cases h1:cJ v 0 255
 ·rw[h1]at h;simp at h
 ·cases h2:leI (v/16) 9
  ·rw[h1,h2]at h;simp at h
  ·rw[h1,h2]at h;simp only[cond_true,lS]at h;rw[lS]at h2;rw[aU]at h1;unfold Bcd;omega
theorem PI{v:Int}(h:Bcd v):aXM v=true∧KR v=v/16*10+v%16:=by
 refine aK (t:=a60 v) (P:=fun q=>q=v/16*10+v%16) ?_
 have e1:fF v 4=v/16:=kW (n:=4) 4 rfl (by omega)
 have e2:bF v 15=v%16:=jF 4 _ (by omega) (by decide)
 obtain⟨h1,h2,h3,h4⟩:=h;unfold a60;simp only[aB,aA,e1,e2,true_and];rw[gU (by omega),bV (by omega)]
theorem aN8{n:Int}(h0:0≤n)(h1:n≤99):a61 n=true∧(0≤tY n∧tY n≤255):=by
 refine aK (t:=aNF n) (P:=fun q=>0≤q∧q≤255) ?_
 have key: ∀n:Fin 100,0≤fB (m9 (lW (n.val:Int) 10) 4) (nM (n.val:Int) 10)∧fB (m9 (lW (n.val:Int) 10) 4) (nM (n.val:Int) 10)≤255:=by decide+kernel
 obtain⟨n,rfl⟩:=Int.eq_ofNat_of_zero_le h0;unfold aNF;simp only[aB,aA,show dD 10 0=true from rfl,show leI 0 4=true from rfl,aD,bO,wz,bL,cQ,aZ,cS,qt,q_3,q_6,true_and]
 exact key ⟨n,by omega⟩
def BR(r:Int×Int):Prop:=(0≤r.1∧r.1≤255)∧WO r.2
theorem aUI{c a b:Int}(hc:WO c)(ha:Bcd a)(hb:Bcd b):bN0 c a b=true∧BR (P0 c a b):=by
 refine aK (t:=aNG c a b) (P:=fun q=>BR q) ?_
 obtain⟨a1,a2⟩:=PI ha;obtain⟨b1,b2⟩:=PI hb;obtain⟨h1,h2,h3,h4⟩:=ha;obtain⟨h5,h6,h7,h8⟩:=hb;have hc':0≤c∧c≤1:=by rcases hc with rfl|rfl<;>decide
 have e1:bE (bE (a/16*10+a%16) (b/16*10+b%16)) c=a/16*10+a%16+(b/16*10+b%16)+c:=by rw[bV (x:=a/16*10+a%16) (by omega),bV (by omega)]
 obtain⟨n,hn⟩: ∃n:Int,n=a/16*10+a%16+(b/16*10+b%16)+c:=⟨_,rfl⟩;rw[←hn]at e1;have n0:0≤n∧n≤199:=by omega
 have e2:nM n 100=n%100:=by unfold nM;exact Int.tmod_eq_emod_of_nonneg n0.1
 have e3:lW n 100=n/100:=by unfold lW;rw[Int.tdiv_eq_ediv_of_nonneg n0.1,IntKind.wrap_i64];omega
 obtain⟨o1,o2⟩:=aN8 (n:=n%100) (by omega) (by omega)
 unfold aNG;simp only[aB,aA,aDS,a1,a2,b1,b2,e1,e2,e3,o1,show dD 100 0=true from rfl,aD,bO,wz,bL,cQ,aZ,cS,qt,q_3,q_6,true_and]
 exact⟨o2,by unfold WO;dsimp only;omega⟩
theorem aUJ{c a b:Int}(hc:WO c)(ha:Bcd a)(hb:Bcd b):bN1 c a b=true∧BR (P1 c a b):=by
 refine aK (t:=aNH c a b) (P:=fun q=>BR q) ?_
 obtain⟨a1,a2⟩:=PI ha;obtain⟨b1,b2⟩:=PI hb;obtain⟨h1,h2,h3,h4⟩:=ha;obtain⟨h5,h6,h7,h8⟩:=hb;have hc':0≤c∧c≤1:=by rcases hc with rfl|rfl<;>decide
 have e1:cM (cM (a/16*10+a%16) (b/16*10+b%16)) c=a/16*10+a%16-(b/16*10+b%16)-c:=by rw[eX (x:=a/16*10+a%16) (by omega),eX (by omega)]
 obtain⟨n,hn⟩: ∃n:Int,n=a/16*10+a%16-(b/16*10+b%16)-c:=⟨_,rfl⟩;rw[←hn]at e1;have n0: -100≤n∧n≤99:=by omega
 have e2:bE n 100=n+100:=bV (by omega)
 unfold aNH;simp only[aB,aI,aA,aDT,a1,a2,b1,b2,e1,e2,eD,nV,aD,bO,wz,bL,cQ,aZ,cS,qt,q_3,q_6,true_and];refine⟨fun h=>?_,fun h=>?_⟩
 ·obtain⟨o1,o2⟩:=aN8 (n:=n+100) (by omega) (by omega)
  exact⟨o1,o2,Or.inr rfl⟩
 ·obtain⟨o1,o2⟩:=aN8 (n:=n) (by omega) (by omega)
  exact⟨o1,o2,Or.inl rfl⟩
end Go.Proofs.YtdipcnijfkdnfaaGreatWhole

namespace Go.Proofs.YtdipcnijfkdnfaaGreatWhole
open Bool renaming true_eq_false → q_1
open Bool renaming false_eq_true → q_2
open Go Go.Zq
set_option maxHeartbeats 4000000
set_option maxRecDepth 100000
noncomputable def CV(x:aS)(m:MM):Int×Int:=bif eqI x.Sub 1 then P1 (bif dD (bF m.r.fl 16) 0 then 1 else 0) (cX m.r.d x.Reg%256) (cX m.r.d x.Ea.Reg%256)else P0 (bif dD (bF m.r.fl 16) 0 then 1 else 0) (cX m.r.d x.Reg%256) (cX m.r.d x.Ea.Reg%256)
noncomputable def OF(m:MM)(x:aS):MM:=
 bif jG (cX m.r.d x.Reg%256)&&jG (cX m.r.d x.Ea.Reg%256)then
  {m with r:=zW {m.r with fl:=fB (bif eqI (CV x m).1 0 then bF m.r.fl 4 else 0) (dE (CV x m).2 17)} 1 x.Reg (CV x m).1}
 else{m with f:={m.f with Vector:=4}}
theorem aEN{x:aS}{m:MM}(h1:jG (cX m.r.d x.Reg%256)=true)(h2:jG (cX m.r.d x.Ea.Reg%256)=true):BR (CV x m):=by
 unfold CV;exact cE (P:=fun z=>BR z) (fun _=>(aUJ (rS _) (kZ h1) (kZ h2)).2) (fun _=>(aUI (rS _) (kZ h1) (kZ h2)).2)
theorem a8T{f v c:Int}(hf:cJ f 0 31=true)(hc:WO c):cJ (fB (bif eqI v 0 then bF f 4 else 0) (dE c 17)) 0 31=true:=by
 refine p8 ?_ ?_
 ·cases eqI v 0
  ·exact(by decide:cJ 0 0 31=true)
  ·rcases fl4 hf with h|h<;>rw[h]<;>decide
 ·rcases hc with h|h<;>rw[h]<;>decide
theorem h11:(1:Int)=1∨(1:Int)=2:=Or.inl rfl
theorem bPQ{t:Int}{m:MM}{x:aS}(hm:m.Ok t)(h:InsOk x):(OF m x).Ok t:=by
 have t0:=hm.r.t0;unfold OF;refine cE (P:=fun z=>MM.Ok t z) (fun hb=>?_) (fun _=>⟨hm.r,hm.b⟩)
 rw[Bool.and_eq_true]at hb;obtain⟨⟨v0,v1⟩,v2⟩:=aEN hb.1 hb.2;exact⟨OD (hm.r.setF (a8T hm.r.fw v2)) h.hr v0 (fun _=>by omega) (by omega),hm.b⟩
theorem b4I{t:Int}{m:MM}{x:aS}(hm:m.Ok t)(h:InsOk x):bN2 x m.g=true∧a63 x m.g=(OF m x).g:=by
 refine aK (t:=a62 x m.g) (P:=fun q=>q=(OF m x).g) ?_
 obtain⟨i1,i2,i3⟩:=jX hm.r.d4 h.hr;obtain⟨s1,s2,s3,s4,s5⟩:=gG (v:=0) hm.r.d4 h.hr;obtain⟨j1,j2,j3⟩:=jX hm.r.d4 h.ho.hr;obtain⟨u1,u2,u3,u4,u5⟩:=gG (v:=0) hm.r.d4 h.ho.hr;rw[Nat.zero_add]at s5 u5;have dr:=nW hm.r.dw hm.r.d4 h.hr;have er:=nW hm.r.dw hm.r.d4 h.ho.hr;have t1:=hm.r.t1;have m8:bF (cX m.r.d x.Reg) 255=cX m.r.d x.Reg%256:=zU dr.1 (by omega)
 have n8:bF (cX m.r.d x.Ea.Reg) 255=cX m.r.d x.Ea.Reg%256:=zU er.1 (by omega)
 unfold a62 OF;cases h1:jG (cX m.r.d x.Reg%256)
 ·simp only[aB,aI,aA,N1,N0,EG,IQ,IP,EF,zR,xA,eO,cH,cB,bS,eS,eV,aX,cK,aW,bK,aV,aR,Nat.zero_add,aT,bB,i2,j2,s3,s4,s5,u3,u4,u5,m8,n8,(Y6 _).1,h1,Bool.not_true,Bool.not_false,Bool.false_and,cond_true,cond_false,aD,bO,wz,bL,cQ,aZ,cS,Bool.and_true,Bool.true_or,Bool.or_true,true_and,forall_const,q_1,q_2,false_implies,and_true,implies_true];rfl
 ·cases h2:jG (cX m.r.d x.Ea.Reg%256)
  ·simp only[aB,aI,aA,N1,N0,EG,IQ,IP,EF,zR,xA,eO,cH,cB,bS,eS,eV,aX,cK,aW,bK,aV,aR,Nat.zero_add,aT,bB,i2,j2,s3,s4,s5,u3,u4,u5,m8,n8,(Y6 _).1,h1,h2,Bool.not_true,Bool.not_false,Bool.and_false,cond_true,cond_false,aD,bO,wz,bL,cQ,aZ,cS,Bool.and_true,Bool.true_or,Bool.or_true,true_and,forall_const,q_1,q_2,false_implies,and_true,implies_true];rfl
  ·obtain⟨⟨v0,v1⟩,v2⟩:=aEN h1 h2;obtain⟨p1,p2⟩:=aG0 (v:=(CV x m).1) (hm.r.setF (a8T (v:=(CV x m).1) hm.r.fw v2)) h11 h.hr (fun _=>by omega)
   obtain⟨a1,a2⟩:=aUI (rS (dD (bF m.r.fl 16) 0)) (kZ h1) (kZ h2);obtain⟨b1,b2⟩:=aUJ (rS (dD (bF m.r.fl 16) 0)) (kZ h1) (kZ h2);cases hs:eqI x.Sub 1
   ·have hv:CV x m=P0 (bif dD (bF m.r.fl 16) 0 then 1 else 0) (cX m.r.d x.Reg%256) (cX m.r.d x.Ea.Reg%256):=by unfold CV;rw[hs];rfl
    rw[hv]at p1 p2⊢;simp only[aB,aI,aA,N1,N0,EG,IQ,IP,EF,zR,xA,eO,cH,cB,bS,eS,eV,aX,cK,aW,bK,aV,aR,Nat.zero_add,aT,bB,gE,i2,j2,s3,s4,s5,u3,u4,u5,m8,n8,(Y6 _).1,(fS _ _).1,(fS _ _).2,h1,h2,hs,a1,b1,p1,p2,Bool.not_true,Bool.not_false,Bool.and_self,cond_true,cond_false,aD,bO,wz,bL,cQ,aZ,cS,Bool.and_true,Bool.true_or,Bool.or_true,true_and,forall_const,q_1,q_2,false_implies,and_true,implies_true];rfl
   ·have hv:CV x m=P1 (bif dD (bF m.r.fl 16) 0 then 1 else 0) (cX m.r.d x.Reg%256) (cX m.r.d x.Ea.Reg%256):=by unfold CV;rw[hs];rfl
    rw[hv]at p1 p2⊢;simp only[aB,aI,aA,N1,N0,EG,IQ,IP,EF,zR,xA,eO,cH,cB,bS,eS,eV,aX,cK,aW,bK,aV,aR,Nat.zero_add,aT,bB,gE,i2,j2,s3,s4,s5,u3,u4,u5,m8,n8,(Y6 _).1,(fS _ _).1,(fS _ _).2,h1,h2,hs,a1,b1,p1,p2,Bool.not_true,Bool.not_false,Bool.and_self,cond_true,cond_false,aD,bO,wz,bL,cQ,aZ,cS,Bool.and_true,Bool.true_or,Bool.or_true,true_and,forall_const,q_1,q_2,false_implies,and_true,implies_true];rfl
def XF(x:aS)(q:MM×Int):MM:=bif eqI x.Sub 1 then eL q.1 q.1.r.pc else q.1
def aXT(m:MM)(a:Int):MM:=bif cF m then{m with r:={m.r with pc:=a}}else m
noncomputable def AV(m:MM)(x:aS)(at_:Int):MM:=
 bif eqI x.Op 13 then(bif aNB (x.Sub+8*x.Reg) m.r.fl then{m with r:={m.r with pc:=(at_+2+x.Ea.Ext)%65536}}else m)
 else aXT (XF x (kO m 2 x.Ea)) (kO m 2 x.Ea).2
theorem bGO{t:Int}{q:MM×Int}{x:aS}(hq:q.1.Ok t):(XF x q).Ok t:=by
 have p:=aU.1 hq.r.pw;unfold XF;exact cE (P:=fun z=>MM.Ok t z) (fun _=>aT3 hq p.1 p.2) (fun _=>hq)
theorem bGP{t a:Int}{m:MM}{x:aS}(hm:m.Ok t)(h:InsOk x):(AV m x a).Ok t:=by
 obtain⟨p1,p2⟩:=EQ (s:=2) hm h.ho;have j:=bGO (x:=x) p1;unfold AV aXT;refine cE (P:=fun z=>MM.Ok t z) (fun _=>cE (P:=fun z=>MM.Ok t z) (fun _=>⟨hm.r.setP (aU.2 (by omega)),hm.b⟩) (fun _=>hm)) fun _=>?_
 exact cE (P:=fun z=>MM.Ok t z) (fun _=>⟨j.r.setP p2,j.b⟩) (fun _=>j)
theorem a8U{t a:Int}{m:MM}{x:aS}(hm:m.Ok t)(h:InsOk x)(ha:cJ a 0 65535=true):bNR x a m.g=true∧a6M x a m.g=(AV m x a).g:=by
 refine aK (t:=a6L x a m.g) (P:=fun q=>q=(AV m x a).g) ?_
 obtain⟨p1,p2⟩:=EQ (s:=2) hm h.ho;obtain⟨a1,a2⟩:=aT9 (s:=2) hm h.ho;have pp:=aU.1 p1.r.pw;obtain⟨b1,b2⟩:=a8K p1 pp.1 pp.2;have hr:=aU.1 h.hr;have hb:=aU.1 h.hb;have he:=aU.1 h.ho.he;have ha':=aU.1 ha;have e1:bE x.Sub (dE 8 x.Reg)=x.Sub+8*x.Reg:=by rw[gU (by omega),bV (by omega)]
 have e2:bF (bE (bE a 2) x.Ea.Ext) 65535=(a+2+x.Ea.Ext)%65536:=by rw[bV (x:=a) (by omega),bV (by omega),rX]
 unfold a6L AV aXT XF;cases h13:eqI x.Op 13
 ·cases hs:eqI x.Sub 1
  ·cases hf:eqI (kO m 2 x.Ea).1.f.Vector 0
   ·simp only[aB,aI,aA,ED,EC,rB,EB,eO,cH,cB,bS,eS,eV,aX,cK,aW,bK,aV,aR,jB,lE,a1,a2,h13,hs,hf,cF,dT,Bool.not_true,Bool.not_false,cond_true,cond_false,aD,bO,wz,bL,cQ,aZ,cS,Bool.and_true,Bool.true_or,Bool.or_true,true_and,forall_const,q_1,q_2,false_implies,and_true,implies_true]
   ·simp only[aB,aI,aA,ED,EC,rB,EB,eO,cH,cB,bS,eS,eV,aX,cK,aW,bK,aV,aR,jB,lE,a1,a2,h13,hs,hf,cF,dT,Bool.not_true,Bool.not_false,cond_true,cond_false,aD,bO,wz,bL,cQ,aZ,cS,Bool.and_true,Bool.true_or,Bool.or_true,true_and,forall_const,q_1,q_2,false_implies,and_true,implies_true]
  ·cases hf:eqI (eL (kO m 2 x.Ea).1 (kO m 2 x.Ea).1.r.pc).f.Vector 0
   ·simp only[aB,aI,aA,ED,EC,rB,EB,eO,cH,cB,bS,eS,eV,aX,cK,aW,bK,aV,aR,jB,lE,a1,a2,b1,b2,h13,hs,hf,cF,dT,Bool.not_true,Bool.not_false,cond_true,cond_false,aD,bO,wz,bL,cQ,aZ,cS,Bool.and_true,Bool.true_or,Bool.or_true,true_and,forall_const,q_1,q_2,false_implies,and_true,implies_true]
   ·simp only[aB,aI,aA,ED,EC,rB,EB,eO,cH,cB,bS,eS,eV,aX,cK,aW,bK,aV,aR,jB,lE,a1,a2,b1,b2,h13,hs,hf,cF,dT,Bool.not_true,Bool.not_false,cond_true,cond_false,aD,bO,wz,bL,cQ,aZ,cS,Bool.and_true,Bool.true_or,Bool.or_true,true_and,forall_const,q_1,q_2,false_implies,and_true,implies_true]
 ·cases ht:aNB (x.Sub+8*x.Reg) m.r.fl
  ·simp only[aB,aI,aA,ED,EC,rB,EB,eO,cH,cB,bS,eS,eV,aX,cK,aW,bK,aV,aR,jB,lE,e1,e2,a8Q,ht,h13,Bool.not_true,Bool.not_false,cond_true,cond_false,aD,bO,wz,bL,cQ,aZ,cS,Bool.and_true,Bool.true_or,Bool.or_true,true_and,forall_const,q_1,q_2,false_implies,and_true,implies_true]
  ·simp only[aB,aI,aA,ED,EC,rB,EB,eO,cH,cB,bS,eS,eV,aX,cK,aW,bK,aV,aR,jB,lE,e1,e2,a8Q,ht,h13,Bool.not_true,Bool.not_false,cond_true,cond_false,aD,bO,wz,bL,cQ,aZ,cS,Bool.and_true,Bool.true_or,Bool.or_true,true_and,forall_const,q_1,q_2,false_implies,and_true,implies_true]
end Go.Proofs.YtdipcnijfkdnfaaGreatWhole

namespace Go.Proofs.YtdipcnijfkdnfaaGreatWhole
open Bool renaming and_true → qt
open Bool renaming true_eq_false → q_1
open Bool renaming false_eq_true → q_2
open Bool renaming true_or → q_3
open Bool renaming not_false → q_4
open Bool renaming not_true → q_5
open Bool renaming or_true → q_6
open Nat renaming zero_add → q_9
open Go Go.Zq
set_option maxHeartbeats 4000000
set_option maxRecDepth 100000
def Y7(q:MM×Int×Int)(x:aS):MM:=bif cF q.1 then{q.1 with r:={q.1.r with a:=q.1.r.a.set x.Reg.toNat q.2.1}}else q.1
def bGQ(q:MM×Int)(x:aS):MM:={q.1 with r:={q.1.r with a:=q.1.r.a.set x.Reg.toNat q.2}}
noncomputable def b4J(w:MM)(x:aS)(v:Int):MM:={w with r:={w.r with fl:=iF x.Size w.r.fl v}}
noncomputable def Y8(m:MM)(x:aS):MM:=b4J (eK (kO m x.Size x.Ea).1 x.Size x.Ea (kO m x.Size x.Ea).2 (cX m.r.d x.Reg%cD x.Size)) x (cX m.r.d x.Reg%cD x.Size)
noncomputable def shV(m:MM)(x:aS):Int×Int:=aGK x.Sub x.Size m.r.fl (cX m.r.d x.Reg%cD x.Size) (x.Ea.Reg+1)
noncomputable def aEO(m:MM)(x:aS):MM:={m with r:=zW {m.r with fl:=(shV m x).2} x.Size x.Reg (shV m x).1}
def V9(m:MM)(x:aS):MM:=bif eqI x.Sub 0 then{m with r:=dS m.r x.Ea.Ext}else{m with r:={m.r with d:=m.r.d.set x.Reg.toNat (fR m.r)}}
noncomputable def sV(m:MM)(x:aS)(a:Int):MM:=
 bif eqI x.Op 9 then Y7 (dU m 2 x.Ea) x else bif eqI x.Op 10 then bGQ (kO m 2 x.Ea) x else bif eqI x.Op 2 then Y8 m x
 else bif eqI x.Op 11 then OE m x else bif eqI x.Op 12 then aEO m x else bif eqI x.Op 13||eqI x.Op 14 then AV m x a
 else bif eqI x.Op 15 then ET m x else bif eqI x.Op 16||eqI x.Op 17 then kL m x else bif eqI x.Op 18 then OF m x
 else bif eqI x.Op 19 then V9 m x else CD m x
theorem b4K{x:aS}(h:x.Op=19):kB x=bif eqI x.Size 2 then(bif (bif (bif eqI x.Sub 0 then eqI x.Reg 0 else false)then VV x.Ea else false)then true else(bif eqI x.Sub 1 then VW x.Ea else false))else false:=by
 unfold kB;rw[h];rfl
theorem Y9{x:aS}(h:InsOk x)(h2:x.Op=19)(e:x.Sub=0):cJ x.Ea.Ext 0 1023=true:=by
 have hk:=h.kb;have he:=aU.1 h.ho.he;rw[b4K h2,e]at hk;simp only[show eqI 0 0=true from rfl,show eqI 0 1=false from rfl,cond_true,cond_false]at hk
 cases e1:eqI x.Size 2
 ·rw[e1]at hk;simp at hk
 ·cases e2:eqI x.Reg 0
  ·rw[e1,e2]at hk;simp at hk
  ·rw[e1,e2]at hk;unfold VV at hk;cases e3:eqI x.Ea.Mode 7
   ·rw[e3]at hk;simp at hk
   ·rw[e3]at hk;cases e4:leI x.Ea.Ext 1023
    ·rw[e4]at hk;simp at hk
    ·rw[lS]at e4;exact aU.2 ⟨he.1,e4⟩
theorem a8V{t:Int}{m:MM}{x:aS}(hm:m.Ok t)(h:InsOk x):bFN x.Sub x.Size m.r.fl (cX m.r.d x.Reg%cD x.Size) (x.Ea.Reg+1)=true∧Sh x.Size (shV m x):=by
 have hr:=aU.1 h.ho.hr;exact b4D h.hs (iP h.hs) hm.r.fw (by omega) (by omega)
theorem a8W{t a:Int}{m:MM}{x:aS}(hm:m.Ok t)(h:InsOk x):(sV m x a).Ok t:=by
 have t0:=hm.r.t0;obtain⟨r1,r2,r3⟩:=rT hm V8 h.ho oV oV;have rv:=rP r2;obtain⟨p1,p2⟩:=EQ (s:=2) hm h.ho;obtain⟨q1,q2⟩:=EQ (s:=x.Size) hm h.ho;have pv:=aU.1 p2;obtain⟨-,s1,s2⟩:=a8V hm h;have ls:=kM h.hs s1;have st:=V5 hm.r;have hop:=h.op;unfold sV;refine cE (P:=fun z=>MM.Ok t z) (fun _=>by unfold Y7;exact cE (P:=fun z=>MM.Ok t z) (fun _=>⟨r1.r.setA rv.1 rv.2,r1.b⟩) (fun _=>r1)) fun e9=>?_
 refine cE (P:=fun z=>MM.Ok t z) (fun _=>⟨p1.r.setA pv.1 pv.2,p1.b⟩) fun e10=>?_
 refine cE (P:=fun z=>MM.Ok t z) (fun _=>by
  have w:=AU q1 h.hs h.ho q2 (iP (v:=cX m.r.d x.Reg) h.hs);exact⟨w.r.setF (oQ h.hs w.r.fw).2,w.b⟩) fun e2=>?_
 refine cE (P:=fun z=>MM.Ok t z) (fun e=>bPN hm h (eC.1 e)) fun e11=>?_
 refine cE (P:=fun z=>MM.Ok t z) (fun _=>⟨OD (hm.r.setF s2) h.hr ls.1 (fun e=>by have:=ls.2.2 e;omega) (by omega),hm.b⟩) fun e12=>?_
 refine cE (P:=fun z=>MM.Ok t z) (fun _=>bGP hm h) fun e13=>?_
 refine cE (P:=fun z=>MM.Ok t z) (fun _=>bGM hm h) fun e15=>?_
 refine cE (P:=fun z=>MM.Ok t z) (fun _=>aN7 hm h) fun e16=>?_
 refine cE (P:=fun z=>MM.Ok t z) (fun _=>bPQ hm h) fun e18=>?_
 refine cE (P:=fun z=>MM.Ok t z) (fun _=>by unfold V9;exact cE (P:=fun z=>MM.Ok t z) (fun _=>⟨FZ hm.r,hm.b⟩) (fun _=>⟨hm.r.setD st.1 (by omega),hm.b⟩)) fun e19=>?_
 rw[Bool.or_eq_false_iff]at e13 e16;rw[iS]at e9 e10 e2 e11 e12 e15 e18 e19;have a1:=iS.1 e13.1;have a2:=iS.1 e13.2;have a3:=iS.1 e16.1;have a4:=iS.1 e16.2;exact bPM hm h (by unfold qK;omega)
theorem b4L{t a:Int}{m:MM}{x:aS}(hm:m.Ok t)(h:InsOk x)(ha:cJ a 0 65535=true):aXO x a m.g=true∧aXN x a m.g=(sV m x a).g:=by
 refine aK (t:=a69 x a m.g) (P:=fun q=>q=(sV m x a).g) ?_
 have hop:=h.op;have hop2:x.Op=1∨x.Op=2∨x.Op=3∨x.Op=4∨x.Op=5∨x.Op=6∨x.Op=7∨x.Op=8∨x.Op=9∨x.Op=10∨x.Op=11∨x.Op=12∨x.Op=13∨x.Op=14∨x.Op=15∨x.Op=16∨x.Op=17∨x.Op=18∨x.Op=19:=by omega
 obtain⟨i1,i2,i3⟩:=jX hm.r.d4 h.hr;obtain⟨s1,s2,s3,s4,s5⟩:=gG (v:=0) hm.r.d4 h.hr;rw[q_9]at s1 s2 s5;unfold a69;rcases hop2 with e|e|e|e|e|e|e|e|e|e|e|e|e|e|e|e|e|e|e
 ·have hd:sV m x a=CD m x:=by unfold sV;rw[e];rfl
  rw[hd];obtain⟨a1,a2⟩:=V4 hm h (by unfold qK;omega)
  simp only[aB,aI,aA,gD,gC,gB,gA,i9,iI,i8,hG,hD,i7,i6,i5,iZ,iY,eO,cH,cB,bS,eS,eV,aX,cK,aW,bK,aV,aR,q_9,aT,bB,e,show eqI 1 1=true from rfl,show eqI 1 2=false from rfl,show eqI 1 3=false from rfl,show eqI 1 4=false from rfl,show eqI 1 5=false from rfl,show eqI 1 6=false from rfl,show eqI 1 7=false from rfl,show eqI 1 8=false from rfl,show eqI 1 9=false from rfl,show eqI 1 10=false from rfl,show eqI 1 11=false from rfl,show eqI 1 12=false from rfl,show eqI 1 13=false from rfl,show eqI 1 14=false from rfl,show eqI 1 15=false from rfl,show eqI 1 16=false from rfl,show eqI 1 17=false from rfl,show eqI 1 18=false from rfl,show eqI 1 19=false from rfl,q_5,q_4,cond_true,cond_false,aD,bO,wz,bL,cQ,aZ,cS,qt,q_3,q_6,true_and,forall_const,q_1,q_2,false_implies,and_true,implies_true,a1,a2]
 ·have hd:sV m x a=Y8 m x:=by unfold sV;rw[e];rfl
  rw[hd];obtain⟨l1,l2⟩:=aT5 hm.r h.hs h.hr;obtain⟨p1,p2⟩:=aT9 (s:=x.Size) hm h.ho;obtain⟨q1,q2⟩:=EQ (s:=x.Size) hm h.ho;have hd:=iP (s:=x.Size) (v:=cX m.r.d x.Reg) h.hs;obtain⟨w1,w2⟩:=aUA q1 h.hs h.ho q2 hd;have w3:=AU q1 h.hs h.ho q2 hd;have lg:=(oQ (v:=cX m.r.d x.Reg%cD x.Size) h.hs w3.r.fw).1;simp only[aB,aI,aA,gD,gC,gB,gA,i9,iI,i8,hG,hD,i7,i6,i5,iZ,iY,eO,cH,cB,bS,eS,eV,aX,cK,aW,bK,aV,aR,q_9,aT,bB,e,show eqI 2 1=false from rfl,show eqI 2 2=true from rfl,show eqI 2 3=false from rfl,show eqI 2 4=false from rfl,show eqI 2 5=false from rfl,show eqI 2 6=false from rfl,show eqI 2 7=false from rfl,show eqI 2 8=false from rfl,show eqI 2 9=false from rfl,show eqI 2 10=false from rfl,show eqI 2 11=false from rfl,show eqI 2 12=false from rfl,show eqI 2 13=false from rfl,show eqI 2 14=false from rfl,show eqI 2 15=false from rfl,show eqI 2 16=false from rfl,show eqI 2 17=false from rfl,show eqI 2 18=false from rfl,show eqI 2 19=false from rfl,q_5,q_4,cond_true,cond_false,aD,bO,wz,bL,cQ,aZ,cS,qt,q_3,q_6,true_and,forall_const,q_1,q_2,false_implies,and_true,implies_true,l1,l2,p1,p2,w1,w2,lg]
  rfl
 ·have hd:sV m x a=CD m x:=by unfold sV;rw[e];rfl
  rw[hd];obtain⟨a1,a2⟩:=V4 hm h (by unfold qK;omega)
  simp only[aB,aI,aA,gD,gC,gB,gA,i9,iI,i8,hG,hD,i7,i6,i5,iZ,iY,eO,cH,cB,bS,eS,eV,aX,cK,aW,bK,aV,aR,q_9,aT,bB,e,show eqI 3 1=false from rfl,show eqI 3 2=false from rfl,show eqI 3 3=true from rfl,show eqI 3 4=false from rfl,show eqI 3 5=false from rfl,show eqI 3 6=false from rfl,show eqI 3 7=false from rfl,show eqI 3 8=false from rfl,show eqI 3 9=false from rfl,show eqI 3 10=false from rfl,show eqI 3 11=false from rfl,show eqI 3 12=false from rfl,show eqI 3 13=false from rfl,show eqI 3 14=false from rfl,show eqI 3 15=false from rfl,show eqI 3 16=false from rfl,show eqI 3 17=false from rfl,show eqI 3 18=false from rfl,show eqI 3 19=false from rfl,q_5,q_4,cond_true,cond_false,aD,bO,wz,bL,cQ,aZ,cS,qt,q_3,q_6,true_and,forall_const,q_1,q_2,false_implies,and_true,implies_true,a1,a2]
 ·have hd:sV m x a=CD m x:=by unfold sV;rw[e];rfl
  rw[hd];obtain⟨a1,a2⟩:=V4 hm h (by unfold qK;omega)
  simp only[aB,aI,aA,gD,gC,gB,gA,i9,iI,i8,hG,hD,i7,i6,i5,iZ,iY,eO,cH,cB,bS,eS,eV,aX,cK,aW,bK,aV,aR,q_9,aT,bB,e,show eqI 4 1=false from rfl,show eqI 4 2=false from rfl,show eqI 4 3=false from rfl,show eqI 4 4=true from rfl,show eqI 4 5=false from rfl,show eqI 4 6=false from rfl,show eqI 4 7=false from rfl,show eqI 4 8=false from rfl,show eqI 4 9=false from rfl,show eqI 4 10=false from rfl,show eqI 4 11=false from rfl,show eqI 4 12=false from rfl,show eqI 4 13=false from rfl,show eqI 4 14=false from rfl,show eqI 4 15=false from rfl,show eqI 4 16=false from rfl,show eqI 4 17=false from rfl,show eqI 4 18=false from rfl,show eqI 4 19=false from rfl,q_5,q_4,cond_true,cond_false,aD,bO,wz,bL,cQ,aZ,cS,qt,q_3,q_6,true_and,forall_const,q_1,q_2,false_implies,and_true,implies_true,a1,a2]
 ·have hd:sV m x a=CD m x:=by unfold sV;rw[e];rfl
  rw[hd];obtain⟨a1,a2⟩:=V4 hm h (by unfold qK;omega)
  simp only[aB,aI,aA,gD,gC,gB,gA,i9,iI,i8,hG,hD,i7,i6,i5,iZ,iY,eO,cH,cB,bS,eS,eV,aX,cK,aW,bK,aV,aR,q_9,aT,bB,e,show eqI 5 1=false from rfl,show eqI 5 2=false from rfl,show eqI 5 3=false from rfl,show eqI 5 4=false from rfl,show eqI 5 5=true from rfl,show eqI 5 6=false from rfl,show eqI 5 7=false from rfl,show eqI 5 8=false from rfl,show eqI 5 9=false from rfl,show eqI 5 10=false from rfl,show eqI 5 11=false from rfl,show eqI 5 12=false from rfl,show eqI 5 13=false from rfl,show eqI 5 14=false from rfl,show eqI 5 15=false from rfl,show eqI 5 16=false from rfl,show eqI 5 17=false from rfl,show eqI 5 18=false from rfl,show eqI 5 19=false from rfl,q_5,q_4,cond_true,cond_false,aD,bO,wz,bL,cQ,aZ,cS,qt,q_3,q_6,true_and,forall_const,q_1,q_2,false_implies,and_true,implies_true,a1,a2]
 ·have hd:sV m x a=CD m x:=by unfold sV;rw[e];rfl
  rw[hd];obtain⟨a1,a2⟩:=V4 hm h (by unfold qK;omega)
  simp only[aB,aI,aA,gD,gC,gB,gA,i9,iI,i8,hG,hD,i7,i6,i5,iZ,iY,eO,cH,cB,bS,eS,eV,aX,cK,aW,bK,aV,aR,q_9,aT,bB,e,show eqI 6 1=false from rfl,show eqI 6 2=false from rfl,show eqI 6 3=false from rfl,show eqI 6 4=false from rfl,show eqI 6 5=false from rfl,show eqI 6 6=true from rfl,show eqI 6 7=false from rfl,show eqI 6 8=false from rfl,show eqI 6 9=false from rfl,show eqI 6 10=false from rfl,show eqI 6 11=false from rfl,show eqI 6 12=false from rfl,show eqI 6 13=false from rfl,show eqI 6 14=false from rfl,show eqI 6 15=false from rfl,show eqI 6 16=false from rfl,show eqI 6 17=false from rfl,show eqI 6 18=false from rfl,show eqI 6 19=false from rfl,q_5,q_4,cond_true,cond_false,aD,bO,wz,bL,cQ,aZ,cS,qt,q_3,q_6,true_and,forall_const,q_1,q_2,false_implies,and_true,implies_true,a1,a2]
 ·have hd:sV m x a=CD m x:=by unfold sV;rw[e];rfl
  rw[hd];obtain⟨a1,a2⟩:=V4 hm h (by unfold qK;omega)
  simp only[aB,aI,aA,gD,gC,gB,gA,i9,iI,i8,hG,hD,i7,i6,i5,iZ,iY,eO,cH,cB,bS,eS,eV,aX,cK,aW,bK,aV,aR,q_9,aT,bB,e,show eqI 7 1=false from rfl,show eqI 7 2=false from rfl,show eqI 7 3=false from rfl,show eqI 7 4=false from rfl,show eqI 7 5=false from rfl,show eqI 7 6=false from rfl,show eqI 7 7=true from rfl,show eqI 7 8=false from rfl,show eqI 7 9=false from rfl,show eqI 7 10=false from rfl,show eqI 7 11=false from rfl,show eqI 7 12=false from rfl,show eqI 7 13=false from rfl,show eqI 7 14=false from rfl,show eqI 7 15=false from rfl,show eqI 7 16=false from rfl,show eqI 7 17=false from rfl,show eqI 7 18=false from rfl,show eqI 7 19=false from rfl,q_5,q_4,cond_true,cond_false,aD,bO,wz,bL,cQ,aZ,cS,qt,q_3,q_6,true_and,forall_const,q_1,q_2,false_implies,and_true,implies_true,a1,a2]
 ·have hd:sV m x a=CD m x:=by unfold sV;rw[e];rfl
  rw[hd];obtain⟨a1,a2⟩:=V4 hm h (by unfold qK;omega)
  simp only[aB,aI,aA,gD,gC,gB,gA,i9,iI,i8,hG,hD,i7,i6,i5,iZ,iY,eO,cH,cB,bS,eS,eV,aX,cK,aW,bK,aV,aR,q_9,aT,bB,e,show eqI 8 1=false from rfl,show eqI 8 2=false from rfl,show eqI 8 3=false from rfl,show eqI 8 4=false from rfl,show eqI 8 5=false from rfl,show eqI 8 6=false from rfl,show eqI 8 7=false from rfl,show eqI 8 8=true from rfl,show eqI 8 9=false from rfl,show eqI 8 10=false from rfl,show eqI 8 11=false from rfl,show eqI 8 12=false from rfl,show eqI 8 13=false from rfl,show eqI 8 14=false from rfl,show eqI 8 15=false from rfl,show eqI 8 16=false from rfl,show eqI 8 17=false from rfl,show eqI 8 18=false from rfl,show eqI 8 19=false from rfl,q_5,q_4,cond_true,cond_false,aD,bO,wz,bL,cQ,aZ,cS,qt,q_3,q_6,true_and,forall_const,q_1,q_2,false_implies,and_true,implies_true,a1,a2]
 ·have hd:sV m x a=Y7 (dU m 2 x.Ea) x:=by unfold sV;rw[e];rfl
  rw[hd];obtain⟨a1,a2⟩:=aEI hm V8 h.ho;obtain⟨r1,r2,r3⟩:=rT hm V8 h.ho oV oV;obtain⟨u1,u2,u3,u4,u5⟩:=gG (v:=0) r1.r.a4 h.hr;rw[q_9]at u1 u2 u5;unfold Y7 cF;cases hf:eqI (dU m 2 x.Ea).1.f.Vector 0
  ·simp only[aB,aI,aA,gD,gC,gB,gA,i9,iI,i8,hG,hD,i7,i6,i5,iZ,iY,eO,cH,cB,bS,eS,eV,aX,cK,aW,bK,aV,aR,q_9,aT,bB,e,show eqI 9 1=false from rfl,show eqI 9 2=false from rfl,show eqI 9 3=false from rfl,show eqI 9 4=false from rfl,show eqI 9 5=false from rfl,show eqI 9 6=false from rfl,show eqI 9 7=false from rfl,show eqI 9 8=false from rfl,show eqI 9 9=true from rfl,show eqI 9 10=false from rfl,show eqI 9 11=false from rfl,show eqI 9 12=false from rfl,show eqI 9 13=false from rfl,show eqI 9 14=false from rfl,show eqI 9 15=false from rfl,show eqI 9 16=false from rfl,show eqI 9 17=false from rfl,show eqI 9 18=false from rfl,show eqI 9 19=false from rfl,q_5,q_4,cond_true,cond_false,aD,bO,wz,bL,cQ,aZ,cS,qt,q_3,q_6,true_and,forall_const,q_1,q_2,false_implies,and_true,implies_true,a1,a2,dT,hf]
  ·simp only[aB,aI,aA,gD,gC,gB,gA,i9,iI,i8,hG,hD,i7,i6,i5,iZ,iY,eO,cH,cB,bS,eS,eV,aX,cK,aW,bK,aV,aR,q_9,aT,bB,e,show eqI 9 1=false from rfl,show eqI 9 2=false from rfl,show eqI 9 3=false from rfl,show eqI 9 4=false from rfl,show eqI 9 5=false from rfl,show eqI 9 6=false from rfl,show eqI 9 7=false from rfl,show eqI 9 8=false from rfl,show eqI 9 9=true from rfl,show eqI 9 10=false from rfl,show eqI 9 11=false from rfl,show eqI 9 12=false from rfl,show eqI 9 13=false from rfl,show eqI 9 14=false from rfl,show eqI 9 15=false from rfl,show eqI 9 16=false from rfl,show eqI 9 17=false from rfl,show eqI 9 18=false from rfl,show eqI 9 19=false from rfl,q_5,q_4,cond_true,cond_false,aD,bO,wz,bL,cQ,aZ,cS,qt,q_3,q_6,true_and,forall_const,q_1,q_2,false_implies,and_true,implies_true,a1,a2,dT,hf,u1,u2,u3,u4,dY,List.length_set]
   rfl
 ·have hd:sV m x a=bGQ (kO m 2 x.Ea) x:=by unfold sV;rw[e];rfl
  rw[hd];obtain⟨a1,a2⟩:=aT9 (s:=2) hm h.ho;obtain⟨r1,r2⟩:=EQ (s:=2) hm h.ho;obtain⟨u1,u2,u3,u4,u5⟩:=gG (v:=0) r1.r.a4 h.hr;rw[q_9]at u1 u2 u5;unfold bGQ;simp only[aB,aI,aA,gD,gC,gB,gA,i9,iI,i8,hG,hD,i7,i6,i5,iZ,iY,eO,cH,cB,bS,eS,eV,aX,cK,aW,bK,aV,aR,q_9,aT,bB,e,show eqI 10 1=false from rfl,show eqI 10 2=false from rfl,show eqI 10 3=false from rfl,show eqI 10 4=false from rfl,show eqI 10 5=false from rfl,show eqI 10 6=false from rfl,show eqI 10 7=false from rfl,show eqI 10 8=false from rfl,show eqI 10 9=false from rfl,show eqI 10 10=true from rfl,show eqI 10 11=false from rfl,show eqI 10 12=false from rfl,show eqI 10 13=false from rfl,show eqI 10 14=false from rfl,show eqI 10 15=false from rfl,show eqI 10 16=false from rfl,show eqI 10 17=false from rfl,show eqI 10 18=false from rfl,show eqI 10 19=false from rfl,q_5,q_4,cond_true,cond_false,aD,bO,wz,bL,cQ,aZ,cS,qt,q_3,q_6,true_and,forall_const,q_1,q_2,false_implies,and_true,implies_true,a1,a2,u1,u2,u3,u4,dY,List.length_set]
  rfl
 ·have hd:sV m x a=OE m x:=by unfold sV;rw[e];rfl
  rw[hd];obtain⟨a1,a2⟩:=b4G hm h e;simp only[aB,aI,aA,gD,gC,gB,gA,i9,iI,i8,hG,hD,i7,i6,i5,iZ,iY,eO,cH,cB,bS,eS,eV,aX,cK,aW,bK,aV,aR,q_9,aT,bB,e,show eqI 11 1=false from rfl,show eqI 11 2=false from rfl,show eqI 11 3=false from rfl,show eqI 11 4=false from rfl,show eqI 11 5=false from rfl,show eqI 11 6=false from rfl,show eqI 11 7=false from rfl,show eqI 11 8=false from rfl,show eqI 11 9=false from rfl,show eqI 11 10=false from rfl,show eqI 11 11=true from rfl,show eqI 11 12=false from rfl,show eqI 11 13=false from rfl,show eqI 11 14=false from rfl,show eqI 11 15=false from rfl,show eqI 11 16=false from rfl,show eqI 11 17=false from rfl,show eqI 11 18=false from rfl,show eqI 11 19=false from rfl,q_5,q_4,cond_true,cond_false,aD,bO,wz,bL,cQ,aZ,cS,qt,q_3,q_6,true_and,forall_const,q_1,q_2,false_implies,and_true,implies_true,a1,a2]
 ·have hd:sV m x a=aEO m x:=by unfold sV;rw[e];rfl
  rw[hd];obtain⟨l1,l2⟩:=aT5 hm.r h.hs h.hr;obtain⟨k1,k2,k3⟩:=a8V hm h;have er:=aU.1 h.ho.hr;have e1:bE x.Ea.Reg 1=x.Ea.Reg+1:=bV (by omega)
  have ls:=kM h.hs k2;obtain⟨p1,p2⟩:=aG0 (v:=(shV m x).1) (hm.r.setF k3) h.hs h.hr (fun e=>by have:=ls.2.2 e;omega)
  unfold aEO;unfold shV at p1 p2⊢;simp only[aB,aI,aA,gD,gC,gB,gA,i9,iI,i8,hG,hD,i7,i6,i5,iZ,iY,eO,cH,cB,bS,eS,eV,aX,cK,aW,bK,aV,aR,q_9,aT,bB,e,show eqI 12 1=false from rfl,show eqI 12 2=false from rfl,show eqI 12 3=false from rfl,show eqI 12 4=false from rfl,show eqI 12 5=false from rfl,show eqI 12 6=false from rfl,show eqI 12 7=false from rfl,show eqI 12 8=false from rfl,show eqI 12 9=false from rfl,show eqI 12 10=false from rfl,show eqI 12 11=false from rfl,show eqI 12 12=true from rfl,show eqI 12 13=false from rfl,show eqI 12 14=false from rfl,show eqI 12 15=false from rfl,show eqI 12 16=false from rfl,show eqI 12 17=false from rfl,show eqI 12 18=false from rfl,show eqI 12 19=false from rfl,q_5,q_4,cond_true,cond_false,aD,bO,wz,bL,cQ,aZ,cS,qt,q_3,q_6,true_and,forall_const,q_1,q_2,false_implies,and_true,implies_true,gE,e1,l1,l2,k1,p1,p2]
  rfl
 ·have hd:sV m x a=AV m x a:=by unfold sV;rw[e];rfl
  rw[hd];obtain⟨a1,a2⟩:=a8U hm h ha;simp only[aB,aI,aA,gD,gC,gB,gA,i9,iI,i8,hG,hD,i7,i6,i5,iZ,iY,eO,cH,cB,bS,eS,eV,aX,cK,aW,bK,aV,aR,q_9,aT,bB,e,show eqI 13 1=false from rfl,show eqI 13 2=false from rfl,show eqI 13 3=false from rfl,show eqI 13 4=false from rfl,show eqI 13 5=false from rfl,show eqI 13 6=false from rfl,show eqI 13 7=false from rfl,show eqI 13 8=false from rfl,show eqI 13 9=false from rfl,show eqI 13 10=false from rfl,show eqI 13 11=false from rfl,show eqI 13 12=false from rfl,show eqI 13 13=true from rfl,show eqI 13 14=false from rfl,show eqI 13 15=false from rfl,show eqI 13 16=false from rfl,show eqI 13 17=false from rfl,show eqI 13 18=false from rfl,show eqI 13 19=false from rfl,q_5,q_4,cond_true,cond_false,aD,bO,wz,bL,cQ,aZ,cS,qt,q_3,q_6,true_and,forall_const,q_1,q_2,false_implies,and_true,implies_true,a1,a2]
 ·have hd:sV m x a=AV m x a:=by unfold sV;rw[e];rfl
  rw[hd];obtain⟨a1,a2⟩:=a8U hm h ha;simp only[aB,aI,aA,gD,gC,gB,gA,i9,iI,i8,hG,hD,i7,i6,i5,iZ,iY,eO,cH,cB,bS,eS,eV,aX,cK,aW,bK,aV,aR,q_9,aT,bB,e,show eqI 14 1=false from rfl,show eqI 14 2=false from rfl,show eqI 14 3=false from rfl,show eqI 14 4=false from rfl,show eqI 14 5=false from rfl,show eqI 14 6=false from rfl,show eqI 14 7=false from rfl,show eqI 14 8=false from rfl,show eqI 14 9=false from rfl,show eqI 14 10=false from rfl,show eqI 14 11=false from rfl,show eqI 14 12=false from rfl,show eqI 14 13=false from rfl,show eqI 14 14=true from rfl,show eqI 14 15=false from rfl,show eqI 14 16=false from rfl,show eqI 14 17=false from rfl,show eqI 14 18=false from rfl,show eqI 14 19=false from rfl,q_5,q_4,cond_true,cond_false,aD,bO,wz,bL,cQ,aZ,cS,qt,q_3,q_6,true_and,forall_const,q_1,q_2,false_implies,and_true,implies_true,a1,a2]
 ·have hd:sV m x a=ET m x:=by unfold sV;rw[e];rfl
  rw[hd];obtain⟨a1,a2⟩:=bPP hm h e;simp only[aB,aI,aA,gD,gC,gB,gA,i9,iI,i8,hG,hD,i7,i6,i5,iZ,iY,eO,cH,cB,bS,eS,eV,aX,cK,aW,bK,aV,aR,q_9,aT,bB,e,show eqI 15 1=false from rfl,show eqI 15 2=false from rfl,show eqI 15 3=false from rfl,show eqI 15 4=false from rfl,show eqI 15 5=false from rfl,show eqI 15 6=false from rfl,show eqI 15 7=false from rfl,show eqI 15 8=false from rfl,show eqI 15 9=false from rfl,show eqI 15 10=false from rfl,show eqI 15 11=false from rfl,show eqI 15 12=false from rfl,show eqI 15 13=false from rfl,show eqI 15 14=false from rfl,show eqI 15 15=true from rfl,show eqI 15 16=false from rfl,show eqI 15 17=false from rfl,show eqI 15 18=false from rfl,show eqI 15 19=false from rfl,q_5,q_4,cond_true,cond_false,aD,bO,wz,bL,cQ,aZ,cS,qt,q_3,q_6,true_and,forall_const,q_1,q_2,false_implies,and_true,implies_true,a1,a2]
 ·have hd:sV m x a=kL m x:=by unfold sV;rw[e];rfl
  rw[hd];obtain⟨a1,a2⟩:=Y5 hm h;simp only[aB,aI,aA,gD,gC,gB,gA,i9,iI,i8,hG,hD,i7,i6,i5,iZ,iY,eO,cH,cB,bS,eS,eV,aX,cK,aW,bK,aV,aR,q_9,aT,bB,e,show eqI 16 1=false from rfl,show eqI 16 2=false from rfl,show eqI 16 3=false from rfl,show eqI 16 4=false from rfl,show eqI 16 5=false from rfl,show eqI 16 6=false from rfl,show eqI 16 7=false from rfl,show eqI 16 8=false from rfl,show eqI 16 9=false from rfl,show eqI 16 10=false from rfl,show eqI 16 11=false from rfl,show eqI 16 12=false from rfl,show eqI 16 13=false from rfl,show eqI 16 14=false from rfl,show eqI 16 15=false from rfl,show eqI 16 16=true from rfl,show eqI 16 17=false from rfl,show eqI 16 18=false from rfl,show eqI 16 19=false from rfl,q_5,q_4,cond_true,cond_false,aD,bO,wz,bL,cQ,aZ,cS,qt,q_3,q_6,true_and,forall_const,q_1,q_2,false_implies,and_true,implies_true,a1,a2]
 ·have hd:sV m x a=kL m x:=by unfold sV;rw[e];rfl
  rw[hd];obtain⟨a1,a2⟩:=Y5 hm h;simp only[aB,aI,aA,gD,gC,gB,gA,i9,iI,i8,hG,hD,i7,i6,i5,iZ,iY,eO,cH,cB,bS,eS,eV,aX,cK,aW,bK,aV,aR,q_9,aT,bB,e,show eqI 17 1=false from rfl,show eqI 17 2=false from rfl,show eqI 17 3=false from rfl,show eqI 17 4=false from rfl,show eqI 17 5=false from rfl,show eqI 17 6=false from rfl,show eqI 17 7=false from rfl,show eqI 17 8=false from rfl,show eqI 17 9=false from rfl,show eqI 17 10=false from rfl,show eqI 17 11=false from rfl,show eqI 17 12=false from rfl,show eqI 17 13=false from rfl,show eqI 17 14=false from rfl,show eqI 17 15=false from rfl,show eqI 17 16=false from rfl,show eqI 17 17=true from rfl,show eqI 17 18=false from rfl,show eqI 17 19=false from rfl,q_5,q_4,cond_true,cond_false,aD,bO,wz,bL,cQ,aZ,cS,qt,q_3,q_6,true_and,forall_const,q_1,q_2,false_implies,and_true,implies_true,a1,a2]
 ·have hd:sV m x a=OF m x:=by unfold sV;rw[e];rfl
  rw[hd];obtain⟨a1,a2⟩:=b4I hm h;simp only[aB,aI,aA,gD,gC,gB,gA,i9,iI,i8,hG,hD,i7,i6,i5,iZ,iY,eO,cH,cB,bS,eS,eV,aX,cK,aW,bK,aV,aR,q_9,aT,bB,e,show eqI 18 1=false from rfl,show eqI 18 2=false from rfl,show eqI 18 3=false from rfl,show eqI 18 4=false from rfl,show eqI 18 5=false from rfl,show eqI 18 6=false from rfl,show eqI 18 7=false from rfl,show eqI 18 8=false from rfl,show eqI 18 9=false from rfl,show eqI 18 10=false from rfl,show eqI 18 11=false from rfl,show eqI 18 12=false from rfl,show eqI 18 13=false from rfl,show eqI 18 14=false from rfl,show eqI 18 15=false from rfl,show eqI 18 16=false from rfl,show eqI 18 17=false from rfl,show eqI 18 18=true from rfl,show eqI 18 19=false from rfl,q_5,q_4,cond_true,cond_false,aD,bO,wz,bL,cQ,aZ,cS,qt,q_3,q_6,true_and,forall_const,q_1,q_2,false_implies,and_true,implies_true,a1,a2]
 ·have hd:sV m x a=V9 m x:=by unfold sV;rw[e];rfl
  rw[hd];unfold V9;cases hs:eqI x.Sub 0
  ·obtain⟨a1,a2⟩:=aG2 hm.r;simp only[aB,aI,aA,gD,gC,gB,gA,i9,iI,i8,hG,hD,i7,i6,i5,iZ,iY,eO,cH,cB,bS,eS,eV,aX,cK,aW,bK,aV,aR,q_9,aT,bB,e,show eqI 19 1=false from rfl,show eqI 19 2=false from rfl,show eqI 19 3=false from rfl,show eqI 19 4=false from rfl,show eqI 19 5=false from rfl,show eqI 19 6=false from rfl,show eqI 19 7=false from rfl,show eqI 19 8=false from rfl,show eqI 19 9=false from rfl,show eqI 19 10=false from rfl,show eqI 19 11=false from rfl,show eqI 19 12=false from rfl,show eqI 19 13=false from rfl,show eqI 19 14=false from rfl,show eqI 19 15=false from rfl,show eqI 19 16=false from rfl,show eqI 19 17=false from rfl,show eqI 19 18=false from rfl,show eqI 19 19=true from rfl,q_5,q_4,cond_true,cond_false,aD,bO,wz,bL,cQ,aZ,cS,qt,q_3,q_6,true_and,forall_const,q_1,q_2,false_implies,and_true,implies_true,hs,a1,a2,s1,s2,s3,s4,dY,List.length_set]
   rfl
  ·obtain⟨a1,a2⟩:=aEK hm.r (Y9 h e (eC.1 hs));simp only[aB,aI,aA,gD,gC,gB,gA,i9,iI,i8,hG,hD,i7,i6,i5,iZ,iY,eO,cH,cB,bS,eS,eV,aX,cK,aW,bK,aV,aR,q_9,aT,bB,e,show eqI 19 1=false from rfl,show eqI 19 2=false from rfl,show eqI 19 3=false from rfl,show eqI 19 4=false from rfl,show eqI 19 5=false from rfl,show eqI 19 6=false from rfl,show eqI 19 7=false from rfl,show eqI 19 8=false from rfl,show eqI 19 9=false from rfl,show eqI 19 10=false from rfl,show eqI 19 11=false from rfl,show eqI 19 12=false from rfl,show eqI 19 13=false from rfl,show eqI 19 14=false from rfl,show eqI 19 15=false from rfl,show eqI 19 16=false from rfl,show eqI 19 17=false from rfl,show eqI 19 18=false from rfl,show eqI 19 19=true from rfl,q_5,q_4,cond_true,cond_false,aD,bO,wz,bL,cQ,aZ,cS,qt,q_3,q_6,true_and,forall_const,q_1,q_2,false_implies,and_true,implies_true,hs,a1,a2]
   rfl
def qL(x:aS):Bool:=bif (bif eqI x.Op 15 then(bif eqI x.Sub 1 then true else eqI x.Sub 3)else false)then true else(bif eqI x.Op 19 then eqI x.Sub 0 else false)
theorem pC(x:aS):bFD x=true∧bFC x=qL x:=by
 refine aK (t:=a5W x) (P:=fun q=>q=qL x) ?_
 unfold a5W qL;simp only[aB,aA,aD,bO,wz,bL,cQ,aZ,cS,qt,q_3,q_6,true_and]
def aXU(t:Int)(z:MM×aS×Int):Prop:=z.1.Ok t∧(cF z.1=true→lD z.2.1=true∧(z.2.2=1∨z.2.2=2))
theorem yL{b:Bool}(h:(!b)=true):b=false:=by cases b<;>simp at h⊢
theorem EU{b:Bool}(h:(!b)=false):b=true:=by cases b<;>simp at h⊢
theorem aEP{t:Int}{m:MM}(hm:m.Ok t):aXU t (mF m):=by
 have hp:=aU.1 hm.r.pw;have hm0:MM.Ok t {m with f:={m.f with PC:=m.r.pc}}:=⟨hm.r,hm.b⟩
 obtain⟨a3,a4⟩:=zX (k:=3) hm0 (aG1 hm0 hm.r.pw) (by decide)
 have ha:cJ ((m.r.pc+2)%65536) 0 65535=true:=by rw[aU];omega
 unfold mF;generalize cU {m with f:={m.f with PC:=m.r.pc}} 3 2 m.r.pc 0=q at a3 a4
 have hm1:MM.Ok t {q.1 with f:={q.1.f with Word:=q.2}}:=⟨a3.r,a3.b⟩
 obtain⟨b3,b4⟩:=zX (k:=3) hm1 (aG1 hm1 ha) (by decide)
 unfold LI;refine cE (P:=fun z=>aXU t z) (fun h=>⟨a3,fun h2=>absurd h2 (by rw[yL h];decide)⟩) fun h=>?_
 refine cE (P:=fun z=>aXU t z) (fun h=>?_) fun h=>?_
 ·generalize cU {q.1 with f:={q.1.f with Word:=q.2}} 3 2 ((m.r.pc+2)%65536) 0=p at b3 b4
  unfold V2;refine cE (P:=fun z=>aXU t z) (fun h=>⟨b3,fun h2=>absurd h2 (by rw[yL h];decide)⟩) fun h=>?_
  exact cE (P:=fun z=>aXU t z) (fun h=>⟨⟨b3.r,b3.b⟩,fun h2=>absurd h2 (by show¬eqI 4 0=true;decide)⟩) fun h=>⟨b3,fun _=>⟨EU h,Or.inr rfl⟩⟩
 ·exact cE (P:=fun z=>aXU t z) (fun h=>⟨⟨a3.r,a3.b⟩,fun h2=>absurd h2 (by show¬eqI 4 0=true;decide)⟩) fun h=>⟨⟨a3.r,a3.b⟩,fun _=>⟨EU h,Or.inl rfl⟩⟩
def oW(q:MM×aS×Int):MM:=bif cF q.1&&(qL q.2.1&&!q.1.r.sup)then{q.1 with f:={q.1.f with Vector:=8}}else q.1
noncomputable def vK(w:MM)(x:aS)(n pc:Int):MM:=bif cF w then sV {w with r:={w.r with pc:=(pc+2*n)%65536}} x pc else w
noncomputable def tZ(m:MM):MM:=vK (oW (mF m)) (mF m).2.1 (mF m).2.2 m.r.pc
def bP(r:RM)(zs:List Int)(l:List aE)(stop halt:Bool):aG:=⟨r.g,pA zs l,stop,halt⟩
def uA(m w:MM):aG×aL:=bif cF w then(bP w.r w.zs w.l w.stop false,⟨0,0,0,0,false⟩)else(bP m.r w.zs w.l m.stop false,w.f)
theorem WA{t:Int}{m:MM}(hm:m.Ok t):(tZ m).Ok t:=by
 obtain⟨f1,f2⟩:=aEP hm;unfold tZ vK;have b1:(oW (mF m)).Ok t:=by unfold oW;exact cE (P:=fun z=>MM.Ok t z) (fun _=>⟨f1.r,f1.b⟩) (fun _=>f1)
 refine cE (P:=fun z=>MM.Ok t z) (fun h=>?_) (fun _=>b1)
 have hf:cF (mF m).1=true:=by
  unfold oW at h;cases hh:cF (mF m).1
  ·rw[hh,Bool.false_and,cond_false,hh]at h;exact h
  ·rfl
 exact a8W ⟨b1.r.setP (aU.2 (by omega)),b1.b⟩ (InsOk.of (f2 hf).1)
theorem LJ{t:Int}{r:RM}{zs:List Int}{l:List aE}(s h:Bool)(hr:r.Ok t)(hb:BusOk zs l):aXS (bP r zs l s h):=by
 have h1:=hr.d4;have h2:=hr.a4;have h3:=hb.hz;have h4:=hb.hl;refine⟨?_,?_,?_,?_⟩
 ·show(ri r.d).length≤2000;rw[bB];omega
 ·show(ri r.a).length≤2000;rw[bB];omega
 ·show(ri zs).length≤2000;rw[bB];omega
 ·show(l.map aE.row).length≤2000;rw[List.length_map];omega
def f0:aL:=⟨0,0,0,0,false⟩
theorem aEQ{t:Int}{r:RM}{zs:List Int}{l:List aE}{s h:Bool}(hr:r.Ok t)(hb:BusOk zs l):k78 (bP r zs l s h)=true∧eM (bP r zs l s h)=MM.g ⟨r,zs,l,s,f0⟩:=bGK (LJ s h hr hb)
theorem aG4{t:Int}{m:MM}(hm:m.Ok t):I5 m.g=true∧uC m.g=bP m.r m.zs m.l m.stop false:=b37 (m:=m.g) (LJ m.stop false hm.r hm.b)
theorem bPS{t:Int}{r:RM}{zs:List Int}{l:List aE}{s h:Bool}(hr:r.Ok t)(hb:BusOk zs l):k87 (bP r zs l s h)=true∧xT (bP r zs l s h)=uA ⟨r,zs,l,s,f0⟩ (tZ ⟨r,zs,l,s,f0⟩):=by
 refine aK (t:=T87 (bP r zs l s h)) (P:=fun q=>q=uA ⟨r,zs,l,s,f0⟩ (tZ ⟨r,zs,l,s,f0⟩)) ?_
 have hm:MM.Ok t ⟨r,zs,l,s,f0⟩:=⟨hr,hb⟩;obtain⟨a1,a2⟩:=aEQ (s:=s) (h:=h) hr hb;obtain⟨b1,b2⟩:=bIN hm;obtain⟨f1,f2⟩:=aEP hm;have e1:(bP r zs l s h).R=r.g:=rfl;have e2:(bP r zs l s h).Stop=s:=rfl;have lR:=LJ s h hr hb;obtain⟨o1,o2⟩:=aN5 (r:=r.g) lR.1 lR.2.1;unfold T87 tZ;have hA:=WA hm;unfold tZ at hA;obtain⟨m,hM⟩: ∃m:MM,m=⟨r,zs,l,s,f0⟩:=⟨_,rfl⟩;have hr':r.g=m.r.g:=by rw[hM]
 have hs':s=m.stop:=by rw[hM]
 have hp':(eM (bP r zs l s h)).fr=m.r.g:=by rw[a2,←hM];rfl
 rw[←hM]at a2 hm b1 b2 f1 f2 hA⊢;rw[hr']at e1 o1 o2
 replace e2:(bP r zs l s h).Stop=m.stop:=hs'
 have mp:=aU.1 hm.r.pw;generalize hF:mF m=q at b1 b2 f1 f2 hA⊢;obtain⟨q1,x,n⟩:=q;dsimp only at b1 b2 f1 f2 hA⊢;have cp: ∀w:MM,w.Ok t→I5 w.g=true∧uC w.g=bP w.r w.zs w.l w.stop false:=fun w hw=>aG4 hw
 cases hf:eqI q1.f.Vector 0
 ·have hB:oW (q1,x,n)=q1:=by unfold oW cF;rw[hf];rfl
  have hC:vK q1 x n m.r.pc=q1:=by unfold vK cF;rw[hf];rfl
  rw[hB,hC];obtain⟨c1,c2⟩:=cp ⟨m.r,q1.zs,q1.l,m.stop,q1.f⟩ ⟨hm.r,f1.b⟩;have c1':I5 (aQ.mk m.r.g (pA q1.zs q1.l) m.stop q1.f)=true:=c1;have c2':uC (aQ.mk m.r.g (pA q1.zs q1.l) m.stop q1.f)=bP m.r q1.zs q1.l m.stop false:=c2;simp only[aB,aI,aA,N5,B4,IU,N4,B3,IT,jW,N3,N2,B2,IS,YR,YQ,KS,PA,VN,oU,YP,EH,GX,VM,eO,cH,cB,bS,eS,eV,aX,cK,aW,bK,aV,aR,a1,a2,b1,b2,e1,e2,o1,o2,c1',c2',dT,(pC _).1,(pC _).2,hf,q_5,q_4,cond_true,cond_false,aD,bO,wz,bL,cQ,aZ,cS,qt,q_3,q_6,true_and,forall_const,q_1,q_2,false_implies,and_true,implies_true];unfold uA cF;rw[hf];rfl
 ·obtain⟨g1,g2⟩:=f2 hf;have hI:=InsOk.of g1;have en:bF (bE m.r.pc (dE 2 n)) 65535=(m.r.pc+2*n)%65536:=by rw[gU (by omega),bV (by omega),rX]
  cases hv:qL x&&!q1.r.sup
  ·have hB:oW (q1,x,n)=q1:=by unfold oW cF;rw[hf,hv];rfl
   have hC:vK q1 x n m.r.pc=sV {q1 with r:={q1.r with pc:=(m.r.pc+2*n)%65536}} x m.r.pc:=by unfold vK cF;rw[hf];rfl
   have hm2:MM.Ok t {q1 with r:={q1.r with pc:=(m.r.pc+2*n)%65536}}:=⟨f1.r.setP (aU.2 (by omega)),f1.b⟩
   obtain⟨d1,d2⟩:=b4L hm2 hI hm.r.pw;have d3:=a8W (a:=m.r.pc) hm2 hI;rw[hB,hC];generalize sV {q1 with r:={q1.r with pc:=(m.r.pc+2*n)%65536}} x m.r.pc=w at d2 d3
   have hw:(bif (bif true then qL x else false)then(!q1.r.sup)else false)=false:=by
    rw[←hv];cases qL x<;>rfl
   have sp:(aQ.mk (RM.g {q1.r with pc:=(m.r.pc+2*n)%65536}) (pA q1.zs q1.l) q1.stop q1.f)=MM.g {q1 with r:={q1.r with pc:=(m.r.pc+2*n)%65536}}:=rfl
   obtain⟨c1,c2⟩:=cp ⟨m.r,w.zs,w.l,m.stop,w.f⟩ ⟨hm.r,d3.b⟩;have c1':I5 (aQ.mk m.r.g (pA w.zs w.l) m.stop w.f)=true:=c1;have c2':uC (aQ.mk m.r.g (pA w.zs w.l) m.stop w.f)=bP m.r w.zs w.l m.stop false:=c2;obtain⟨j1,j2⟩:=cp w d3;cases hz:eqI w.f.Vector 0
   ·simp only[aB,aI,aA,N5,B4,IU,N4,B3,IT,jW,N3,N2,B2,IS,YR,YQ,KS,PA,VN,oU,YP,EH,GX,VM,eO,cH,cB,bS,eS,eV,aX,cK,aW,bK,aV,aR,jB,a1,a2,b1,b2,e1,e2,o1,o2,dT,(pC _).1,(pC _).2,hf,hw,en,sp,d1,d2,hz,c1',c2',q_5,q_4,cond_false,aD,bO,wz,bL,cQ,aZ,cS,qt,q_3,q_6,true_and,forall_const,q_1,q_2,false_implies,and_true,implies_true];unfold uA cF;rw[hz];rfl
   ·simp only[aB,aI,aA,N5,B4,IU,N4,B3,IT,jW,N3,N2,B2,IS,YR,YQ,KS,PA,VN,oU,YP,EH,GX,VM,eO,cH,cB,bS,eS,eV,aX,cK,aW,bK,aV,aR,jB,a1,a2,b1,b2,e1,e2,o1,o2,dT,(pC _).1,(pC _).2,hf,hw,en,sp,d1,d2,hz,j1,j2,q_5,q_4,cond_false,aD,bO,wz,bL,cQ,aZ,cS,qt,q_3,q_6,true_and,forall_const,q_1,q_2,false_implies,and_true,implies_true];unfold uA cF;rw[hz];rfl
  ·have hB:oW (q1,x,n)={q1 with f:={q1.f with Vector:=8}}:=by unfold oW cF;rw[hf,hv];rfl
   have hC:vK {q1 with f:={q1.f with Vector:=8}} x n m.r.pc={q1 with f:={q1.f with Vector:=8}}:=by unfold vK cF;rfl
   rw[hB,hC];have hw:(bif (bif true then qL x else false)then(!q1.r.sup)else false)=true:=by
    rw[Bool.and_eq_true]at hv;rw[hv.1,hv.2];rfl
   obtain⟨c1,c2⟩:=cp ⟨m.r,q1.zs,q1.l,m.stop,{q1.f with Vector:=8}⟩ ⟨hm.r,f1.b⟩
   have c1':I5 (aQ.mk m.r.g (pA q1.zs q1.l) m.stop {q1.f with Vector:=8})=true:=c1
   have c2':uC (aQ.mk m.r.g (pA q1.zs q1.l) m.stop {q1.f with Vector:=8})=bP m.r q1.zs q1.l m.stop false:=c2
   simp only[aB,aI,aA,N5,B4,IU,N4,B3,IT,jW,N3,N2,B2,IS,YR,YQ,KS,PA,VN,oU,YP,EH,GX,VM,eO,cH,cB,bS,eS,eV,aX,cK,aW,bK,aV,aR,a1,a2,b1,b2,e1,e2,o1,o2,dT,(pC _).1,(pC _).2,hf,hw,show eqI 8 0=false from rfl,c1',c2',q_5,q_4,cond_false,aD,bO,wz,bL,cQ,aZ,cS,qt,q_3,q_6,true_and,forall_const,q_1,q_2,false_implies,and_true,implies_true]
   rfl
end Go.Proofs.YtdipcnijfkdnfaaGreatWhole

namespace Go.Proofs.YtdipcnijfkdnfaaGreatWhole
open Go Go.Zq
set_option maxHeartbeats 4000000
set_option maxRecDepth 100000
theorem vG{B:Int}{c:aN}(r:List Int)(h1:CO B c)(h2:B<2500000000000000000)(h3:1≤r.length):k90 (ri r) c=true∧CO (B+2) (PP (ri r) c).1:=by
 obtain⟨a,b,-⟩:=aD7 (r:=ri r) ⟨r,rfl⟩ (by rw[bB];exact h3) h1 (by omega)
 exact⟨a,b⟩
theorem b4M{B:Int}{p:Bool}{c d:aN}(h:CO B c)(k:CO B d):CO B (aN.mk (bif p then c.fcode else d.fcode) (bif p then c.fat else d.fat) (bif p then c.fseed else d.fseed)):=by
 cases p
 ·exact k
 ·exact h
theorem a8X(b:Bool):yU b 1=true:=by
 refine(aK (t:=aJB b 1) (P:=fun _=>True) ?_).1
 unfold aJB;simp only[aB,aI,aA,true_and,implies_true,and_true]
theorem OG{B:Int}{c:aN}(h:CO B c)(hB:B<2000000000000000000):bA3 c=true∧CO (B+14) (sG c).1:=by
 refine aK (t:=a0X c) (P:=fun r=>CO (B+14) r.1) ?_
 have tl: ∀{c':aN},CO (B+6) c'→k86 60 c'=true∧CO (B+14) (oZ 60 c').1∧yG 9 (oZ 60 c').1=true∧yG 5 (cV 9 (oZ 60 c').1).1=true∧yG 2 (cV 5 (cV 9 (oZ 60 c').1).1).1=true∧CO (B+14) (cV 2 (cV 5 (cV 9 (oZ 60 c').1).1).1).1:=fun{c'} hc=>by
  obtain⟨a1,a2⟩:=KZ 60 hc (by omega)
  obtain⟨b1,b2,-⟩:=eU 9 a2 (by omega)
  obtain⟨e1,e2,-⟩:=eU 5 b2 (by omega)
  obtain⟨f1,f2,-⟩:=eU 2 e2 (by omega)
  exact⟨a1,a2.mono (by omega),b1,e1,f1,f2.mono (by omega)⟩
 obtain⟨a1,a2,-⟩:=eU 8 h (by omega)
 obtain⟨b1,b2,-⟩:=eU 4 a2 (by omega)
 obtain⟨c1,c2⟩:=vG [0,1,2,20,100,200,384,448,65535,65534] b2 (by omega) (by decide)
 obtain⟨d1,d2⟩:=vG [0,1,2,20,100,200,384,448,65535,65534] a2 (by omega) (by decide)
 simp only[CA,I0]at c1 c2 d1 d2;obtain⟨p1,p2,p3,p4,p5,p6⟩:=tl (c2.mono (by omega))
 obtain⟨q1,q2,q3,q4,q5,q6⟩:=tl (b2.mono (by omega))
 obtain⟨r1,r2,r3,r4,r5,r6⟩:=tl (d2.mono (by omega))
 obtain⟨s1,s2,s3,s4,s5,s6⟩:=tl (a2.mono (by omega))
 unfold a0X;simp only[aB,aI,aA,aJA,MR,aI9,MQ,HQ,SN,HP,aI8,MP,HO,(YZ _).1,a1,b1,c1,d1,p1,p3,p4,p5,q1,q3,q4,q5,r1,r3,r4,r5,s1,s3,s4,s5,Bool.and_true,true_and];refine⟨fun _=>⟨fun _=>⟨fun _=>p6,fun _=>p2⟩,fun _=>⟨fun _=>q6,fun _=>q2⟩⟩,fun _=>⟨fun _=>⟨fun _=>r6,fun _=>r2⟩,fun _=>⟨fun _=>s6,fun _=>s2⟩⟩⟩
def bPT(B:Int)(n:Nat)(c:aN)(r:Option V185_0):Prop:=match r with
 |none=>CO (B+360) c
 |some w=> ∃m,m<n∧(CO (B+60*(6-m)) w.b0∧w.s3=6-(m:Int)∧m≤6)
theorem a8Y(c:aN)(x:aS){B:Int}(h:CO B c)(hB:B<1000000000000000000):aJM (V185_0.mk c x 0)=true∧CO (B+360) (aJL (V185_0.mk c x 0)).b0:=by
 unfold aJM aJL;refine jA (Post:=fun w:V185_0=>CO (B+360) w.b0) (eY (fun(m:Nat) (v:V185_0)=>CO (B+60*(6-m)) v.b0∧v.s3=6-(m:Int)∧m≤6) _ ?_ 2097152 6 _ ⟨h.mono (by omega),rfl,by omega⟩ (by omega))
 rintro n v ⟨h,h2,h3⟩
 have hp:CO (B+360) v.b0:=h.mono (by omega)
 have key:(DT v).Sat (bPT B n v.b0):=by
  have stp:bPT B n v.b0 none:=hp;by_cases hn:n=0
  ·have e:ltI v.s3 6=false:=by rw[nV];omega
   unfold DT;simp only[aB,aI,aA,e,true_and,Bool.false_eq_true,false_implies];exact fun _=>stp
  have nxt: ∀c',CO (B+60*(6-n)+60) c'→bPT B n v.b0 (some (V185_0.mk c' v.b1 (bE v.s3 1))):=fun c' hc=>⟨n-1,by omega,hc.mono (by omega),by show bE v.s3 1=_;rw[bV (by omega)];omega,by omega⟩
  obtain⟨a1,a2,-⟩:=eU 19 h (by omega)
  obtain⟨b1,b2,-⟩:=eU 2 a2 (by omega)
  obtain⟨c1,c2,-⟩:=eU 4 b2 (by omega)
  obtain⟨o1,o2⟩:=OG c2 (by omega)
  obtain⟨d1,d2,-⟩:=eU 4 o2 (by omega)
  obtain⟨e1,e2,-⟩:=eU 2 o2 (by omega)
  obtain⟨f1,f2,-⟩:=eU 7 e2 (by omega)
  obtain⟨g1,g2,-⟩:=eU 4 f2 (by omega)
  obtain⟨i1,i2,-⟩:=eU 8 e2 (by omega)
  obtain⟨j1,j2⟩:=vG [2,4,6,8,65526,65530,0,3] i2 (by omega) (by decide)
  obtain⟨l1,l2⟩:=vG [0,1,2,2,3,4,5,6] o2 (by omega) (by decide)
  simp only[CA,I0]at j1 j2 l1 l2;obtain⟨m1,m2,-⟩:=eU 4 l2 (by omega)
  obtain⟨n1,n2⟩:=vG [0,256,512,1023] m2 (by omega) (by decide)
  obtain⟨q1,q2⟩:=vG [0,256,512,1023] l2 (by omega) (by decide)
  obtain⟨r1,r2⟩:=vG [0,256,480,768,31] o2 (by omega) (by decide)
  simp only[CA,I0]at n1 n2 q1 q2 r1 r2;obtain⟨s1,s2⟩:=KZ 2 r2 (by omega)
  obtain⟨t1,t2,-⟩:=eU 4 s2 (by omega)
  have o2':CO (B+60*(6-n)+60) _:=o2.mono (by omega)
  have d2':CO (B+60*(6-n)+60) _:=d2.mono (by omega)
  have e2':CO (B+60*(6-n)+60) _:=e2.mono (by omega)
  have g2':CO (B+60*(6-n)+60) _:=g2.mono (by omega)
  have j2':CO (B+60*(6-n)+60) _:=j2.mono (by omega)
  have l2':CO (B+60*(6-n)+60) _:=l2.mono (by omega)
  have m2':CO (B+60*(6-n)+60) _:=m2.mono (by omega)
  have n2':CO (B+60*(6-n)+60) _:=n2.mono (by omega)
  have q2':CO (B+60*(6-n)+60) _:=q2.mono (by omega)
  have s2':CO (B+60*(6-n)+60) _:=s2.mono (by omega)
  have t2':CO (B+60*(6-n)+60) _:=t2.mono (by omega)
  unfold DT;simp only[aB,aI,aA,tX,DS,DR,tW,qH,nS,DQ,DP,nQ,DO,DN,nP,iD,dP,nO,DM,DL,tU,DK,DJ,qG,HT,sH,BK,dL,BJ,pS,lJ,HS,HR,cN,bL,cQ,aZ,cS,aD,bO,wz,a8X,(VX _).1,a1,b1,c1,o1,d1,e1,f1,g1,i1,j1,l1,m1,n1,q1,r1,s1,t1,Bool.and_true,true_and]
  repeat' first
   |with_reducible exact stp
   |(with_reducible refine nxt _ ?_;with_reducible assumption)
   |intro _
   |with_reducible constructor
 exact key
def b4N(B:Int)(r:aN×aS):Prop:=CO (B+420) r.1
theorem bIQ{B:Int}{c:aN}(h:CO B c)(hB:B<1000000000000000000):bBH c=true∧CO (B+420) (PR c).1:=by
 refine aK (t:=aV8 c) (P:=fun r=>CO (B+420) r.1) ?_
 obtain⟨w1,w2⟩:=a8Y c ⟨0,0,0,⟨0,0,0⟩,0⟩ h hB;obtain⟨a1,a2,-⟩:=eU 19 w2 (by omega)
 obtain⟨b1,b2,-⟩:=eU 2 a2 (by omega)
 obtain⟨c1,c2,-⟩:=eU 4 b2 (by omega)
 obtain⟨o1,o2⟩:=OG c2 (by omega)
 obtain⟨d1,d2,-⟩:=eU 4 o2 (by omega)
 obtain⟨e1,e2,-⟩:=eU 2 o2 (by omega)
 obtain⟨f1,f2,-⟩:=eU 7 e2 (by omega)
 obtain⟨g1,g2,-⟩:=eU 4 f2 (by omega)
 obtain⟨i1,i2,-⟩:=eU 8 e2 (by omega)
 obtain⟨j1,j2⟩:=vG [2,4,6,8,65526,65530,0,3] i2 (by omega) (by decide)
 obtain⟨l1,l2⟩:=vG [0,1,2,2,3,4,5,6] o2 (by omega) (by decide)
 simp only[CA,I0]at j1 j2 l1 l2;obtain⟨m1,m2,-⟩:=eU 4 l2 (by omega)
 obtain⟨n1,n2⟩:=vG [0,256,512,1023] m2 (by omega) (by decide)
 obtain⟨q1,q2⟩:=vG [0,256,512,1023] l2 (by omega) (by decide)
 obtain⟨r1,r2⟩:=vG [0,256,480,768,31] o2 (by omega) (by decide)
 simp only[CA,I0]at n1 n2 q1 q2 r1 r2;obtain⟨s1,s2⟩:=KZ 2 r2 (by omega)
 obtain⟨t1,t2,-⟩:=eU 4 s2 (by omega)
 have o2':CO (B+420) _:=o2.mono (by omega)
 have d2':CO (B+420) _:=d2.mono (by omega)
 have e2':CO (B+420) _:=e2.mono (by omega)
 have g2':CO (B+420) _:=g2.mono (by omega)
 have j2':CO (B+420) _:=j2.mono (by omega)
 have l2':CO (B+420) _:=l2.mono (by omega)
 have m2':CO (B+420) _:=m2.mono (by omega)
 have n2':CO (B+420) _:=n2.mono (by omega)
 have q2':CO (B+420) _:=q2.mono (by omega)
 have s2':CO (B+420) _:=s2.mono (by omega)
 have t2':CO (B+420) _:=t2.mono (by omega)
 have w2':CO (B+420) _:=w2.mono (by omega)
 have nxt: ∀c' x,CO (B+420) c'→b4N B (c',x):=fun c' x h=>h
 have key:(aV8 c).Sat (b4N B):=by
  unfold aV8;simp only[aB,aI,aA,aAG,aAF,aAE,J7,BL,J6,J5,gJ,J4,aAD,SS,yW,aJO,aAC,SR,aJN,gX,lZ,gW,bL,cQ,aZ,cS,aD,bO,wz,a8X,(VX _).1,w1,a1,b1,c1,o1,d1,e1,f1,g1,i1,j1,l1,m1,n1,q1,r1,s1,t1,Bool.and_true,true_and]
  repeat' first
   |(with_reducible refine nxt _ _ ?_;with_reducible assumption)
   |intro _
   |with_reducible constructor
 exact key
theorem b4O{B:Int}{c:aN}(h:CO B c)(hB:B<1000000000000000000):a07 c=true∧CO (B+500) (aJQ c).1:=by
 refine aK (t:=a06 c) (P:=fun r=>CO (B+500) r.1) ?_
 obtain⟨a1,a2⟩:=bIQ h hB;obtain⟨b1,b2⟩:=KZ 20 a2 (by omega)
 obtain⟨c1,c2,-⟩:=eU 22 b2 (by omega)
 obtain⟨d1,d2,-⟩:=eU 4 c2 (by omega)
 obtain⟨e1,e2,-⟩:=eU 5 d2 (by omega)
 obtain⟨f1,f2⟩:=OG e2 (by omega)
 obtain⟨g1,g2,-⟩:=eU 9 f2 (by omega)
 unfold a06;simp only[aB,aI,aA,aJP,MT,MS,a1,b1,c1,d1,e1,f1,g1,Bool.and_true,true_and];exact⟨fun _=>g2.mono (by omega),fun _=>b2.mono (by omega)⟩
theorem b4P{x:List Row}(h:bytesOk x=true):CO 0 (aN.mk x 0 0):=⟨h,Int.le_refl 0,Int.le_refl 0⟩
end Go.Proofs.YtdipcnijfkdnfaaGreatWhole

namespace Go.Proofs.YtdipcnijfkdnfaaGreatWhole
open Go Go.Zq
set_option maxHeartbeats 4000000
set_option maxRecDepth 100000
theorem bPU{l:List aS}{i:Nat}(h:i<l.length):iG [.int .i64, .int .i64, .int .i64, .int .i64, .int .i64, .int .i64, .int .i64] (l.map aS.row) (i:Int)=true∧aS.at (l.map aS.row) i 0=l[i]:=by
 have e:(l.map aS.row).getD i []=aS.row l[i]:=by simp[List.getD_eq_getElem?_getD,h]
 constructor
 ·simp only[iG,dV,Int.toNat_natCast,e,List.length_map];have:Nat.blt i l.length=true:=by simpa using h
  rw[this];rfl
 ·unfold aS.at bR wB;rw[e];rfl
theorem b4Q{n:Nat}(h:n≤2000):nX (qY (n+1) 56) 140737488355328=true∧nX (n+1) 140737488355328=true:=by
 simp only[tG,aD6];omega
def IL(n:Nat)(r:List Row):Prop:= ∃l:List aS,r=l.map aS.row∧l.length≤n
theorem aUK(n:Nat)(c:aN){B:Int}(h:CO B c)(hB:B+420*n<500000000000000000)(hn:n≤50):aAK (V202_0.mk c [] (n:Int))=true∧(CO (B+420*n) (SU (V202_0.mk c [] (n:Int))).b0∧IL n (SU (V202_0.mk c [] (n:Int))).s3):=by
 unfold aAK SU;refine jA (Post:=fun w:V202_0=>CO (B+420*n) w.b0∧IL n w.s3) (eY (fun(m:Nat) (v:V202_0)=>CO (B+420*(n-m)) v.b0∧v.s4=(m:Int)∧m≤n∧ ∃l:List aS,v.s3=l.map aS.row∧l.length+m=n) _ ?_ 2097152 n _ ⟨h.mono (by omega),rfl,by omega,[],rfl,by simp⟩ (by omega))
 rintro m v ⟨h1,h2,h3,l,h4,h5⟩
 obtain⟨a1,a2⟩:=bIQ h1 (by omega)
 obtain⟨r1,r2⟩:=b4Q (n:=l.length) (by omega)
 unfold MU;simp only[aB,aI,aA,HU,h2,h4,a1,r1,r2,List.length_map,Nat.zero_add,aD,bO,wz,tH,PF,Bool.and_true,true_and];refine⟨fun hm=>⟨m-1,by omega,a2.mono (by omega),?_,by omega,l++[(PR v.b0).2],by simp,by simp;omega⟩,fun hm=>⟨h1.mono (by omega),l,rfl,by omega⟩⟩
 rw[eX (by omega)];omega
theorem a8Z{n:Nat}{r:List Row}(h:IL n r)(x:aS)(k:Nat):IL n (r.set k (aS.row x)):=by
 obtain⟨l,rfl,h1⟩:=h;exact⟨l.set k x,by rw[List.map_set],by simpa using h1⟩
theorem bGR{n:Nat}{r:List Row}(h:IL n r)(h0:0<r.length):j7 (j8 r 0) 7=true:=by
 obtain⟨l,rfl,h1⟩:=h;cases l with
 |nil=>simp at h0
 |cons a l=>rfl
theorem a80{α:Type}(b:Bool)(x:α):(bif b then x else x)=x:=by cases b<;>rfl
theorem ZA{n:Nat}{B:Int}{c:aN}{r:List Row}(h1:CO B c)(h2:IL n r)(hB:B<900000000000000000):k86 20 c=true∧CO (B+2) (aN.mk (bif (pG (bX r) 0)then(oZ 20 c).1.fcode else c.fcode) (bif (pG (bX r) 0)then(oZ 20 c).1.fat else c.fat) (bif (pG (bX r) 0)then(oZ 20 c).1.fseed else c.fseed))∧a07 (aN.mk (bif (pG (bX r) 0)then(oZ 20 c).1.fcode else c.fcode) (bif (pG (bX r) 0)then(oZ 20 c).1.fat else c.fat) (bif (pG (bX r) 0)then(oZ 20 c).1.fseed else c.fseed))=true∧CO (B+502) (aJQ (aN.mk (bif (pG (bX r) 0)then(oZ 20 c).1.fcode else c.fcode) (bif (pG (bX r) 0)then(oZ 20 c).1.fat else c.fat) (bif (pG (bX r) 0)then(oZ 20 c).1.fseed else c.fseed))).1:=by
 obtain⟨a1,a2⟩:=KZ 20 h1 (by omega)
 have a3:CO (B+2) (aN.mk (bif (pG (bX r) 0)then(oZ 20 c).1.fcode else c.fcode) (bif (pG (bX r) 0)then(oZ 20 c).1.fat else c.fat) (bif (pG (bX r) 0)then(oZ 20 c).1.fseed else c.fseed)):=b4M a2 (h1.mono (by omega))
 obtain⟨b1,b2⟩:=b4O a3 (by omega)
 exact⟨a1,a3,b1,b2.mono (by omega)⟩
theorem bPV{c:aN}{B:Int}(h:CO B c)(hB:B<400000000000000000):bJV c=true∧(CO (B+30000) (PS c).1∧IL 50 (PS c).2):=by
 refine aK (t:=a08 c) (P:=fun r=>CO (B+30000) r.1∧IL 50 r.2) ?_
 obtain⟨a1,a2,a3,a4,-⟩:=eU 8 h (by omega)
 have a4:=a4 (by omega)
 obtain⟨b1,b2⟩:=KZ 20 a2 (by omega)
 obtain⟨c1,c2,c3,c4,-⟩:=eU 2 b2 (by omega)
 have c4:=c4 (by omega)
 obtain⟨m,hm⟩: ∃m:Nat,(cV 8 c).2=(m:Int):=⟨_,(Int.toNat_of_nonneg a3).symm⟩;obtain⟨n,hn⟩: ∃n:Nat,bE 40 (cV 2 (oZ 20 (cV 8 c).1).1).2=(n:Int):=⟨(40+(cV 2 (oZ 20 (cV 8 c).1).1).2).toNat,by rw[bV (by omega)];omega⟩
 have hn':n≤41:=by rw[bV (by omega)]at hn;omega
 obtain⟨d1,d2,d3⟩:=aUK n _ c2 (by omega) (by omega)
 obtain⟨e1,e2,e3⟩:=aUK m _ b2 (by omega) (by omega)
 have d3:IL 50 _:=⟨d3.choose,d3.choose_spec.1,by have:=d3.choose_spec.2;omega⟩
 have e3:IL 50 _:=⟨e3.choose,e3.choose_spec.1,by have:=e3.choose_spec.2;omega⟩
 obtain⟨f1,f2,f3,f4⟩:=ZA d2 d3 (by omega)
 obtain⟨i1,i2,i3,i4⟩:=ZA e2 e3 (by omega)
 have tk: ∀r:List Row,List.take r.length r=r:=fun r=>List.take_length
 have z: ∀n:Nat,nX (0+n) n=true:=fun n=>by simp
 have pos: ∀r:List Row,∀q:Bool,(bif pG (bX r) 0 then q else false)=true→ltI 0 (bX r)=true∧blt 0 r.length=true∧(IL 50 r→j7 (j8 r 0) 7=true):=fun r q hq=>by
  cases hg:pG (bX r) 0
  ·rw[hg]at hq;simp at hq
  ·rw[tH,aT]at hg;exact⟨by simp;omega,by simp;omega,fun h=>bGR h (by omega)⟩
 unfold a08;simp only[aB,aI,aA,aAO,aAN,aAM,aAL,FQ,SY,gZ,aJU,aJT,aJS,aJR,MV,SX,gY,SW,a1,b1,c1,hm,hn,d1,e1,f1,i1,f3,i3,z,a80,List.length_set,tk,aD,bO,wz,Bool.and_true,Bool.true_or,true_and];have tks: ∀(r:List Row)(x:Row),List.take r.length (r.set 0 x)=r.set 0 x:=fun r x=>List.take_of_length_le (by simp)
 simp only[tks,List.length_set,aD,bO,wz,Bool.and_true,true_and];refine⟨fun _=>⟨fun hq=>?_,fun _=>⟨f2.mono (by omega),d3⟩⟩,fun _=>⟨fun hq=>?_,fun _=>⟨i2.mono (by omega),e3⟩⟩⟩
 ·obtain⟨p1,p2,p3⟩:=pos _ _ hq;rw[p1,p2,p3 d3];exact⟨rfl,f4.mono (by omega),a8Z d3 _ 0⟩
 ·obtain⟨p1,p2,p3⟩:=pos _ _ hq;rw[p1,p2,p3 e3];exact⟨rfl,i4.mono (by omega),a8Z e3 _ 0⟩
theorem bPW(x:aS):bJX x=true∧ ∃zs:List Int,bJW x=ri zs∧zs.length≤2:=by
 refine aK (t:=a09 x) (P:=fun r=> ∃zs:List Int,r=ri zs∧zs.length≤2) ?_
 unfold a09;simp only[aB,aI,aA,(YZ _).1,show leI 0 11=true from rfl,show leI 0 10=true from rfl,show leI 0 8=true from rfl,show leI 0 5=true from rfl,show leI 0 3=true from rfl,aD,bO,wz,Bool.and_true,true_and]
 exact⟨fun _=>⟨[_,_],rfl,by simp⟩,fun _=>⟨[_],rfl,by simp⟩⟩
def EL(n:Nat)(r:List Row):Prop:= ∃zs:List Int,r=ri zs∧zs.length≤n
theorem bGS(l:List aS)(hl:l.length≤50)(x:List Row):aJW (V201_0.mk x [] (l.map aS.row) (bX (l.map aS.row)) 0)=true∧EL 200 (aJV (V201_0.mk x [] (l.map aS.row) (bX (l.map aS.row)) 0)).s4:=by
 unfold aJW aJV;refine jA (Post:=fun w:V201_0=>EL 200 w.s4) (eY (fun(m:Nat) (v:V201_0)=> ∃i:Nat,v.s7=l.map aS.row∧v.s8=(l.length:Int)∧v.s9=(i:Int)∧i+m=l.length∧EL (2*i) v.s4) _ ?_ 2097152 l.length _ ⟨0,rfl,by simp,rfl,by omega,[],rfl,by simp⟩ (by omega))
 rintro m v ⟨i,h1,h2,h3,h4,zs,h5,h6⟩
 have done:EL 200 v.s4:=⟨zs,h5,by omega⟩
 unfold MW;simp only[aB,aI,aA,HW,HV,wH,h1,h2,h3,eD,nV,true_and,Int.toNat_natCast,(VX _).1,Bool.and_true];refine⟨fun hlt=>?_,fun _=>done⟩
 have hi:i<l.length:=by omega
 obtain⟨p1,p2⟩:=bPU hi;obtain⟨q1,ws,q2,q3⟩:=bPW l[i];have r1:nX (qY (zs.length+ws.length) 8) 140737488355328=true∧nX (zs.length+ws.length) 140737488355328=true:=by simp only[tG,aD6];omega
 rw[p1,p2,q1,q2,h5];simp only[bB,r1,aD,bO,wz,Nat.zero_add,Bool.and_true,true_and];refine⟨fun _=>⟨zs,rfl,by omega⟩,fun _=>⟨m-1,by omega,i+1,?_,by omega,zs++ws,ML.symm,by rw[List.length_append];omega⟩⟩
 rw[bV (by omega)];omega
theorem cHL{r:List Row}(h:IL 50 r):bJY r=true∧EL 200 (aJY r).1:=by
 obtain⟨l,rfl,hl⟩:=h;refine aK (t:=a1A (l.map aS.row)) (P:=fun q=>EL 200 q.1) ?_
 obtain⟨a1,a2⟩:=bGS l hl (l.map aS.row);have e0:EL 200 []:=⟨[],rfl,by simp⟩
 unfold a1A;simp only[aB,aI,aA,aJX,MX,a1,aD,bO,wz,Bool.and_true,true_and];exact⟨fun _=>e0,fun _=>⟨fun _=>e0,fun _=>a2⟩⟩
end Go.Proofs.YtdipcnijfkdnfaaGreatWhole

namespace Go.Proofs.YtdipcnijfkdnfaaGreatWhole
open Go Go.Zq
set_option maxHeartbeats 4000000
set_option maxRecDepth 100000
theorem a81(c:aN)(a:Int){B:Int}(h:CO B c)(hB:B<300000000000000000):aJZ (V149_0.mk c a (ri (List.replicate 384 0)) 384 0)=true∧(CO (B+2000) (S6 (V149_0.mk c a (ri (List.replicate 384 0)) 384 0)).b0∧(S6 (V149_0.mk c a (ri (List.replicate 384 0)) 384 0)).s4=a∧ ∃zs:List Int,(S6 (V149_0.mk c a (ri (List.replicate 384 0)) 384 0)).s5=ri zs∧zs.length=384):=by
 unfold aJZ S6;refine jA (Post:=fun w:V149_0=>CO (B+2000) w.b0∧w.s4=a∧ ∃zs:List Int,w.s5=ri zs∧zs.length=384) (eY (fun(m:Nat) (v:V149_0)=>CO (B+4*(384-m)) v.b0∧v.s4=a∧v.s16=384∧ ∃i:Nat,v.s17=(i:Int)∧i+m=384∧ ∃zs:List Int,v.s5=ri zs∧zs.length=384) _ ?_ 2097152 384 _ ⟨h.mono (by omega),rfl,rfl,0,rfl,by omega,_,rfl,by simp⟩ (by omega))
 rintro m v ⟨h1,h2,h3,i,h4,h5,zs,h6,h7⟩
 obtain⟨a1,a2⟩:=KZ 8 h1 (by omega)
 obtain⟨b1,b2,-⟩:=eU 256 a2 (by omega)
 have e1:bE (i:Int) 1=((i+1:Nat):Int):=by rw[bV (by omega)];omega
 unfold MY;simp only[aB,aI,aA,HY,HX,h2,h3,h4,h6,e1,a1,b1,aT,bB,h7,dY,List.length_set,Nat.zero_add,Int.toNat_natCast,eD,nV,aD,bO,wz,Bool.and_true,true_and];refine⟨fun hi=>⟨fun _=>?_,fun _=>⟨m-1,by omega,a2.mono (by omega),i+1,rfl,by omega,zs,rfl,h7⟩⟩,fun _=>⟨h1.mono (by omega),zs,rfl,h7⟩⟩
 have hi':i<zs.length:=by omega
 have l0:leI 0 (i:Int)=true:=by simp
 have l1:ltI (i:Int) ((384:Nat):Int)=true:=by rw[eD];omega
 have l2:blt i 384=true:=by simp;omega
 have l3:j7 (j8 (ri zs) i) 1=true:=by rw[yI hi'];rfl
 rw[l0,l1,l2,l3];refine⟨rfl,m-1,by omega,b2.mono (by omega),i+1,rfl,by omega,_,rfl,by rw[List.length_set];exact h7⟩
theorem a82(c:aN)(a:Int)(ys ws:List Int){B:Int}(h:CO B c)(ha:0≤a)(ha1:a≤100)(hy:ys.length=384)(hw:ws.length≤300):aJ0 (V149_1.mk c a (ri ys) (ri ws) (bX (ri ws)) 0)=true∧(CO B (S8 (V149_1.mk c a (ri ys) (ri ws) (bX (ri ws)) 0)).b0∧(S8 (V149_1.mk c a (ri ys) (ri ws) (bX (ri ws)) 0)).s4=a∧ ∃zs:List Int,(S8 (V149_1.mk c a (ri ys) (ri ws) (bX (ri ws)) 0)).s5=ri zs∧zs.length=384):=by
 unfold aJ0 S8;refine jA (Post:=fun w:V149_1=>CO B w.b0∧w.s4=a∧ ∃zs:List Int,w.s5=ri zs∧zs.length=384) (eY (fun(m:Nat) (v:V149_1)=>CO B v.b0∧v.s4=a∧v.s34=ri ws∧v.s35=(ws.length:Int)∧ ∃i:Nat,v.s36=(i:Int)∧i+m=ws.length∧ ∃zs:List Int,v.s5=ri zs∧zs.length=384) _ ?_ 2097152 ws.length _ ⟨h,rfl,rfl,by simp[bB],0,rfl,by omega,ys,rfl,hy⟩ (by omega))
 rintro m v ⟨h1,h2,h8,h3,i,h4,h5,zs,h6,h7⟩
 obtain⟨an,rfl⟩:=Int.eq_ofNat_of_zero_le ha;have e1:bE (i:Int) 1=((i+1:Nat):Int):=by rw[bV (by omega)];omega
 have e2:dE 2 (i:Int)=((2*i:Nat):Int):=by rw[gU (by omega)];omega
 have e3:bE (an:Int) ((2*i:Nat):Int)=((an+2*i:Nat):Int):=by rw[bV (by omega)];omega
 have e4:bE ((an+2*i:Nat):Int) 1=((an+2*i+1:Nat):Int):=by rw[bV (by omega)];omega
 unfold MZ;simp only[aB,aI,aA,wI,H1,H0,BO,BN,BM,HZ,h2,h3,h4,h6,h8,e1,e2,e3,e4,aT,bB,h7,dY,List.length_set,Nat.zero_add,Int.toNat_natCast,eD,nV,aD,bO,wz,Bool.and_true,true_and];refine⟨fun hi=>?_,fun _=>⟨h1,zs,rfl,h7⟩⟩
 have hi':i<ws.length:=by omega
 have l0: ∀n:Nat,leI 0 (n:Int)=true:=fun n=>by simp
 have l1:ltI (i:Int) (ws.length:Int)=true:=by rw[eD];omega
 have l2:dV [.int .i64] (ri ws) i 0=true:=FV ⟨ws,rfl⟩ (by rw[bB];exact hi')
 rw[l0,l1,l2];refine⟨rfl,by simp,fun hb=>?_,fun _=>⟨m-1,by omega,h1,i+1,rfl,by omega,zs,rfl,h7⟩⟩
 have hb':an+2*i+1<zs.length:=by omega
 have l4:ltI ((an+2*i:Nat):Int) ((384:Nat):Int)=true:=by rw[eD];omega
 have l5:blt (an+2*i) 384=true:=by simp;omega
 have l6:j7 (j8 (ri zs) (an+2*i)) 1=true:=by rw[yI (by omega)];rfl
 have l7:blt (an+2*i+1) 384=true:=by simp;omega
 have l8:ltI ((an+2*i+1:Nat):Int) ((384:Nat):Int)=true:=by rw[eD];omega
 have l9: ∀z,j7 (j8 (ri (zs.set (an+2*i) z)) (an+2*i+1)) 1=true:=fun z=>by rw[yI (by rw[List.length_set];omega)];rfl
 have l10:leI 0 8=true:=rfl;simp only[l0,l1,l2,l4,l5,l6,l7,l8,l9,l10,Bool.and_true,true_and];exact⟨m-1,by omega,h1,i+1,rfl,by omega,_,rfl,by rw[List.length_set,List.length_set];exact h7⟩
theorem bGT{c:aN}{B:Int}(h:CO B c)(hB:B<200000000000000000):bJZ c=true∧(CO (B+40000) (xO c).1∧(∃zs:List Int,(xO c).2.1=ri zs∧zs.length=384)∧0≤(xO c).2.2∧(xO c).2.2≤60):=by
 refine aK (t:=a1B c) (P:=fun r=>CO (B+40000) r.1∧(∃zs:List Int,r.2.1=ri zs∧zs.length=384)∧0≤r.2.2∧r.2.2≤60) ?_
 obtain⟨a1,a2,a3,a4,-⟩:=eU 30 h (by omega)
 have a4:=a4 (by omega)
 have e0:List.replicate 384 (aY 0)=ri (List.replicate 384 0):=by simp[ri,List.map_replicate,aY]
 have e1:dE 2 (cV 30 c).2=2*(cV 30 c).2:=gU (by omega)
 obtain⟨b1,b2,b3,zs,b4,b5⟩:=a81 (cV 30 c).1 (2*(cV 30 c).2) a2 (by omega)
 obtain⟨c1,c2,c3⟩:=bPV b2 (by omega)
 obtain⟨d1,ws,d2,d3⟩:=cHL c3;obtain⟨f1,f2,f3,ys,f4,f5⟩:=a82 _ (2*(cV 30 c).2) zs ws c2 (by omega) (by omega) b5 (by omega)
 unfold a1B;simp only[aB,aI,aA,aJ1,TA,S9,aAX,o6,a1,e0,e1,b1,b3,b4,c1,d1,d2,f1,f3,f4,aD,bO,wz,Bool.and_true,true_and];exact⟨by simp,f2.mono (by omega),⟨ys,rfl,f5⟩,by omega,by omega⟩
end Go.Proofs.YtdipcnijfkdnfaaGreatWhole
