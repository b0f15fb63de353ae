import Derived.Test.YtdipcnijfkdnfaaGreatZqIrqsQ
import Derived.Test.YtdipcnijfkdnfaaGreatZmc
set_option linter.unusedVariables false
set_option linter.unusedSimpArgs false
namespace Go.Proofs.YtdipcnijfkdnfaaGreatIrqs
open Go Go.Zq
set_option maxHeartbeats 4000000
set_option maxRecDepth 100000
theorem ef (a b : Int) (h : eqI a b = false := by rfl) : eqI a b = false := h
theorem et (a b : Int) (h : eqI a b = true := by rfl) : eqI a b = true := h
@[simp] theorem lS(x a b:Int):vB x a b=cI x a b:=by
  simp only[vB,dV,a1F,rA,kA,geI,leI,cI,ge_iff_le];cases decide (a≤x)<;>rfl
@[simp] theorem lT(x a b:Int):xA x a b=true:=by
  simp[xA,dV,a1F]
@[simp] theorem uL(x a b:Int):vA x a b=cI x a b:=by
  simp only[vA,dV,a0O,rA,kA,geI,leI,cI,ge_iff_le];cases decide (a≤x)<;>rfl
@[simp] theorem uM(x a b:Int):w8 x a b=true:=by
  simp[w8,dV,a0O]
theorem UG{zs:List Int}{i:Nat}(h:i<zs.length)(hz:cI zs[i] 0 255=false):dI zs=false:=by
 unfold dI;rw[List.all_eq_false];exact⟨zs[i],List.getElem_mem h,by simp[hz]⟩
theorem UH{zs:List Int}(h: ∀j(hj:j<zs.length),cI zs[j] 0 255=true):dI zs=true:=by
 unfold dI;rw[List.all_eq_true];intro z hz;obtain⟨j,hj,rfl⟩:=List.getElem_of_mem hz;exact h j hj
theorem bGF(zs:List Int)(hl:zs.length<1000000):aI6 (V164_0.mk (ri zs) (cA (ri zs)) 0)=true∧(ltI (Z9 (V164_0.mk (ri zs) (cA (ri zs)) 0)).s7 (Z9 (V164_0.mk (ri zs) (cA (ri zs)) 0)).s6=!dI zs):=by
 unfold aI6 Z9;refine kD (Post:=fun w=>ltI w.s7 w.s6=!dI zs) (eX (fun n v=> ∃i:Nat,v=V164_0.mk (ri zs) (cA (ri zs)) i∧i≤zs.length∧n=zs.length-i∧ ∀j(hj:j<zs.length),j<i→cI zs[j] 0 255=true) _ ?_ 2097152 zs.length _ ⟨0,rfl,by omega,by omega,fun j _ h=>absurd h (by omega)⟩ (by omega))
 rintro n v ⟨i,rfl,hi,rfl,hall⟩
 unfold LZ;simp only[aB,aJ,aA,bA,bI,eK,pA,true_and,Int.toNat_natCast];constructor
 ·intro h;have hi':i<zs.length:=by omega
  rw[uK hi',oZ hi',uL,uM];refine⟨rfl,rfl,fun hz=>?_,fun hz=>?_⟩
  ·rw[UG hi' (by simpa using hz)]
   simpa [ltI]using h
  ·refine⟨_,?_,i+1,?_,by omega,rfl,?_⟩
   ·omega
   ·rw[bV (by omega)];rfl
   ·intro j hj hji;by_cases e:j=i
    ·subst e;simpa using hz
    ·exact hall j hj (by omega)
 ·intro h;rw[UH fun j hj=>hall j hj (by omega)]
  simpa [ltI]using h
theorem XU(zs:List Int)(hl:zs.length<1000000):a03 (ri zs)=true∧aVW (ri zs)=dI zs:=by
 obtain⟨h1,h2⟩:=bGF zs hl;unfold a03 aVW bCB aI7;rw[dV,dV];simp only[yY,H7,o9,rA,H8,kA,h1,h2,Bool.true_and];cases dI zs<;>exact⟨rfl,rfl⟩
theorem aXI(xs ys:List Int)(hl:xs.length<1000000)(he:xs.length=ys.length):a7O (V14_0.mk (ri xs) (ri ys) (cA (ri xs)) 0)=true∧(ltI (aTF (V14_0.mk (ri xs) (ri ys) (cA (ri xs)) 0)).s13 (aTF (V14_0.mk (ri xs) (ri ys) (cA (ri xs)) 0)).s12=!decide (xs=ys)):=by
 unfold a7O aTF;refine kD (Post:=fun w=>ltI w.s13 w.s12=!decide (xs=ys)) (eX (fun n v=> ∃i:Nat,v=V14_0.mk (ri xs) (ri ys) (cA (ri xs)) i∧i≤xs.length∧n=xs.length-i∧ ∀j(hj:j<xs.length),j<i→xs[j]=ys[j]) _ ?_ 2097152 xs.length _ ⟨0,rfl,by omega,by omega,fun j _ h=>absurd h (by omega)⟩ (by omega))
 rintro n v ⟨i,rfl,hi,rfl,hall⟩
 unfold XT;simp only[aB,aJ,aA,bA,bI,eK,pA,true_and,Int.toNat_natCast];constructor
 ·intro h;have hi':i<xs.length:=by omega
  have hy':i<ys.length:=by omega
  rw[uK hi',oZ hi',uK hy',oZ hy'];refine⟨rfl,fun hz=>?_,fun hz=>?_⟩
  ·have:xs≠ys:=fun e=>by subst e;simp at hz
   rw[decide_eq_false this];simpa [ltI]using h
  ·refine⟨_,?_,i+1,?_,by omega,rfl,?_⟩
   ·omega
   ·rw[bV (by omega)];rfl
   ·intro j hj hji;by_cases e:j=i
    ·subst e;simpa using hz
    ·exact hall j hj (by omega)
 ·intro h;rw[decide_eq_true (List.ext_getElem he fun j h1 h2=>hall j h1 (by omega))]
  simpa [ltI]using h
theorem IA(xs ys:List Int)(hl:xs.length<1000000):k14 (ri xs) (ri ys)=true∧g14 (ri xs) (ri ys)=decide (xs=ys):=by
 unfold k14 g14 T14 a7P;rw[dV,dV];by_cases he:xs.length=ys.length
 ·obtain⟨h1,h2⟩:=aXI xs ys hl he;have e:dC (cA (ri xs)) (cA (ri ys))=false:=by simp[he,bI]
  simp only[yY,H7,o9,rA,H8,kA,h1,h2,e,Bool.true_and,cond_false];cases decide (xs=ys)<;>exact⟨rfl,rfl⟩
 ·have e:dC (cA (ri xs)) (cA (ri ys))=true:=by simp[bI];omega
  have:xs≠ys:=fun e=>he (by rw[e])
  simp only[yY,H7,o9,rA,H8,kA,e,decide_eq_false this,Bool.true_and,cond_true,and_self]
def CO(B:Int)(c:aM):Prop:=CurOk B c.fcode c.fat
theorem CO.mono{B C:Int}{c:aM}(h:CO B c)(hB:B≤C):CO C c:=CurOk.mono h hB
theorem b5L(s:Int):0≤xU .i64 (bA5 .u64 (aZ3 .u64 s 40) 255)∧xU .i64 (bA5 .u64 (aZ3 .u64 s 40) 255)<256:=by
 have e:aZ3 .u64 s 40=Int.fdiv s 1099511627776:=by
  unfold aZ3;rw[show((2:Int)^min (Int.toNat 40) IntKind.u64.bits)=1099511627776 from by decide]
 unfold xU bA5;rw[e];exact bA4 s
theorem a75{B:Int}{c:aM}(h:CO B c)(hB:B<4000000000000000000):bA6 c=true∧(CO (B+1) (BU c).1∧0≤(BU c).2∧(BU c).2<256):=by
 refine aK (t:=a0J c) (P:=fun r=>CO (B+1) r.1∧0≤r.2∧r.2<256) ?_
 obtain⟨h1,h2,h3⟩:=h;have ha:bE c.fat 1=c.fat+1:=bV (by omega)
 have hc:CurOk (B+1) c.fcode (c.fat+1):=⟨h1,by omega,by omega⟩
 have hv:0≤RB c∧RB c<256:=by
  unfold RB;cases hl:ltI c.fat (cA c.fcode)
  ·simp
  ·have hl':c.fat<(c.fcode.length:Int):=by simpa using hl
   obtain⟨z,-,e,z0,z1⟩:=aZ0 h1 (j:=c.fat.toNat) (by omega)
   rw[cond_true,e,bGD (by omega)]
   exact⟨z0,z1⟩
 have hr:(hZ [.int .u8] c.fcode c.fat||!(ltI c.fat (cA c.fcode)))=true:=by
  cases hl:ltI c.fat (cA c.fcode)
  ·simp
  ·have hl':c.fat<(c.fcode.length:Int):=by simpa using hl
   rw[aHM h1 h2 hl'];rfl
 unfold a0J;simp only[aB,aJ,aA,hr,ha,Bool.and_true,true_and];exact⟨fun _=>⟨hc,hv⟩,fun _=>⟨hc,b5L _⟩⟩
theorem eN{B:Int}{c:aM}(n:Int)(h:CO B c)(hB:B<3000000000000000000):w7 n c=true∧(CO (B+2) (cW n c).1∧0≤(cW n c).2∧(2≤n→(cW n c).2<n)∧(n≤1→(cW n c).2=0)):=by
 refine aK (t:=T89 n c) (P:=fun r=>CO (B+2) r.1∧0≤r.2∧(2≤n→r.2<n)∧(n≤1→r.2=0)) ?_
 obtain⟨k1,c1,v0,v1⟩:=a75 h (by omega)
 obtain⟨k2,c2,w0,w1⟩:=a75 c1 (by omega)
 unfold T89;simp only[aB,aJ,aA,k1,k2,mY,aFU,rB,FS,oM,Bool.and_true,true_and];refine⟨fun hn=>⟨h.mono (by omega),by omega,by omega,fun _=>trivial⟩,fun hn=>⟨fun hb=>⟨by omega,c2.mono (by omega),?_⟩,fun hb=>⟨by omega,c1.mono (by omega),?_⟩⟩⟩
 ·have e:dH (BU c).2 256=(BU c).2*256:=hJ (by omega)
  rw[e,bV (by omega)]
  obtain⟨r0,r1⟩:=aTJ (x:=(BU c).2*256+(BU (BU c).1).2) (n:=n) (by omega) (by omega)
  exact⟨r0,fun _=>r1,by omega⟩
 ·obtain⟨r0,r1⟩:=aTJ (x:=(BU c).2) (n:=n) (by omega) (by omega)
  exact⟨r0,fun _=>r1,by omega⟩
theorem DR{B:Int}{c:aM}(n:Int)(h:CO B c)(hB:B<3000000000000000000):k86 n c=true∧CO (B+2) (nB n c).1:=by
 refine aK (t:=T86 n c) (P:=fun r=>CO (B+2) r.1) ?_
 obtain⟨k1,c1,-⟩:=eN n h hB;unfold T86;simp only[aB,aA,k1,Bool.and_true,true_and];exact c1
theorem O7{B:Int}{c:aM}{r:List Row}(hr:Num r)(hl:1≤r.length)(h:CO B c)(hB:B<3000000000000000000):k90 r c=true∧(CO (B+2) (N6 r c).1∧ ∃j,j<r.length∧(N6 r c).2=bQ r j 0):=by
 refine aK (t:=T90 r c) (P:=fun q=>CO (B+2) q.1∧ ∃j,j<r.length∧q.2=bQ r j 0) ?_
 obtain⟨k1,c1,v0,v1,v2⟩:=eN (cA r) h hB;rw[bA]at k1 c1 v0 v1 v2;have hj:(cW (r.length:Int) c).2<(r.length:Int):=by
  by_cases h2:r.length=1
  ·rw[v2 (by omega)];omega
  ·exact v1 (by omega)
 unfold T90;simp only[aB,aA,bA,k1,bP3 hr v0 hj,Bool.and_true,true_and];exact⟨c1,_,by omega,rfl⟩
end Go.Proofs.YtdipcnijfkdnfaaGreatIrqs

namespace Go.Proofs.YtdipcnijfkdnfaaGreatIrqs
open Go Go.Zq
set_option maxHeartbeats 4000000
set_option maxRecDepth 100000
def Acc(r:List Row):Prop:= ∃l:List aE,r=l.map aE.row
theorem aDC{l:List aE}{i:Nat}(h:i<l.length):hZ [.int .i64, .int .i64, .int .i64, .int .i64, .int .i64] (l.map aE.row) (i:Int)=true∧aE.at (l.map aE.row) i 0=l[i]:=by
 have e:(l.map aE.row).getD i []=aE.row l[i]:=by simp[List.getD_eq_getElem?_getD,h]
 constructor
 ·simp only[hZ,dU,Int.toNat_natCast,e,List.length_map];have:Nat.blt i l.length=true:=by simpa using h
  rw[this];rfl
 ·unfold aE.at bQ vS;rw[e];rfl
structure BV(b:bM):Prop where
 n:Num b.Bytes
 a:Acc b.Log
 nb:b.Bytes.length≤512
 nl:b.Log.length≤1000
theorem OD{r:List Row}:eC (0+r.length) r.length=true∧qQ (0+r.length) r.length=true:=by simp
theorem FT{n:Nat}(h:n≤2000):qQ (vX n 8) 140737488355328=true∧qQ (vX n 40) 140737488355328=true∧qQ n 140737488355328=true∧qQ (vX (0+n) 8) 140737488355328=true∧qQ (vX (0+n) 40) 140737488355328=true∧qQ (0+n) 140737488355328=true∧qQ (vX (n+1) 8) 140737488355328=true∧qQ (vX (n+1) 40) 140737488355328=true∧qQ (n+1) 140737488355328=true:=by
 simp only[O6,aDB];omega
theorem a76(a:Int):bEX a=true∧bEW a=cI a 0 65535:=by
 constructor
 ·simp[bEX,dV,a43]
 ·simp[bEW,dV,a43]
theorem NB(a:Int):k73 a=true∧g73 a=cI a 0 65535:=by
 constructor
 ·simp[k73,dV,T73]
 ·simp[g73,dV,T73]
def dK(s v:Int):Bool:=bif eqI s 1 then cI v 0 255 else bif eqI s 2 then cI v 0 65535 else false
theorem a77(s:Int):aVT s=true∧aFA s=(eqI s 1||eqI s 2):=by
 constructor
 ·simp[aVT,dV,aIC]
 ·simp only[aFA,dV,aIC,rA,kA];cases eqI s 1<;>rfl
theorem a78(s:Int):aV4 s=true∧aFH s=(eqI s 1||eqI s 2):=by
 constructor
 ·simp[aV4,dV,aJI]
 ·simp only[aFH,dV,aJI,rA,kA];cases eqI s 1<;>rfl
theorem aNA:JX 1=true∧xC 1=256:=by
 refine aK (t:=aLI 1) (P:=fun r=>r=256) ?_
 unfold aLI;simp only[aB,aA]
 decide+kernel
theorem aNB:JX 2=true∧xC 2=65536:=by
 refine aK (t:=aLI 2) (P:=fun r=>r=65536) ?_
 unfold aLI;simp only[aB,aA]
 decide+kernel
theorem aNC:C4 1=true∧pM 1=256:=by
 refine aK (t:=aJJ 1) (P:=fun r=>r=256) ?_
 unfold aJJ;simp only[aB,aA]
 decide+kernel
theorem aND:C4 2=true∧pM 2=65536:=by
 refine aK (t:=aJJ 2) (P:=fun r=>r=65536) ?_
 unfold aJJ;simp only[aB,aA]
 decide+kernel
theorem XV(s v:Int):a42 s v=true∧a41 s v=dK s v:=by
 refine aK (t:=a40 s v) (P:=fun r=>r=dK s v) ?_
 unfold a40 dK;rw[(a77 s).1,(a77 s).2];by_cases h1:s=1
 ·subst h1;rw[aNA.1,aNA.2,show cN 256 1=255 from by decide]
  simp[show eqI 1 1=true from rfl]
 ·by_cases h2:s=2
  ·subst h2;rw[aNB.1,aNB.2,show cN 65536 1=65535 from by decide]
   simp[show eqI 2 1=false from rfl,show eqI 2 2=true from rfl]
  ·have e1:eqI s 1=false:=by simp[h1]
   have e2:eqI s 2=false:=by simp[h2]
   simp[e1,e2]
theorem bIG(s v:Int):bKW s v=true∧bKV s v=dK s v:=by
 refine aK (t:=a1S s v) (P:=fun r=>r=dK s v) ?_
 unfold a1S dK;rw[(a78 s).1,(a78 s).2];by_cases h1:s=1
 ·subst h1;rw[aNC.1,aNC.2,show cN 256 1=255 from by decide]
  simp[show eqI 1 1=true from rfl]
 ·by_cases h2:s=2
  ·subst h2;rw[aND.1,aND.2,show cN 65536 1=65535 from by decide]
   simp[show eqI 2 1=false from rfl,show eqI 2 2=true from rfl]
  ·have e1:eqI s 1=false:=by simp[h1]
   have e2:eqI s 2=false:=by simp[h2]
   simp[e1,e2]
def accB(a:aE):Bool:=cI a.Kind 1 3&&(cI a.Addr 0 65535&&(dK a.Size a.Value&&(cI a.Code 0 3&&!(eqI a.Kind 3&&eqI a.Code 0))))
theorem bIH(a:aE):bNP a=true∧bNO a=accB a:=by
 refine aK (t:=a44 a) (P:=fun r=>r=accB a) ?_
 unfold a44 accB;simp only[aB,aJ,aA,aLK,aLJ,uL,uM,(a76 _).1,(a76 _).2,(XV _ _).1,(XV _ _).2,Bool.and_true,Bool.true_or,true_and];cases cI a.Kind 1 3<;>cases dK a.Size a.Value<;>cases cI a.Addr 0 65535<;>cases cI a.Code 0 3<;>cases h:eqI a.Kind 3<;>cases h2:eqI a.Code 0<;>simp_all
theorem bII(a:aE):bKY a=true∧bKX a=accB a:=by
 refine aK (t:=a1U a) (P:=fun r=>r=accB a) ?_
 unfold a1U accB;simp only[aB,aA,aJM,aJL,lS,lT,(NB _).1,(NB _).2,(bIG _ _).1,(bIG _ _).2,Bool.and_true,Bool.true_or,true_and];cases cI a.Kind 1 3<;>cases dK a.Size a.Value<;>cases cI a.Addr 0 65535<;>cases cI a.Code 0 3<;>cases eqI a.Kind 3<;>cases eqI a.Code 0<;>rfl
theorem aTK{α:Type}{p:α→Bool}{l:List α}{i:Nat}(h:i<l.length)(hz:p l[i]=false):l.all p=false:=by
 rw[List.all_eq_false];exact⟨l[i],List.getElem_mem h,by simp[hz]⟩
theorem aTL{α:Type}{p:α→Bool}{l:List α}(h: ∀j(hj:j<l.length),p l[j]=true):l.all p=true:=by
 rw[List.all_eq_true];intro z hz;obtain⟨j,hj,rfl⟩:=List.getElem_of_mem hz;exact h j hj
end Go.Proofs.YtdipcnijfkdnfaaGreatIrqs

namespace Go.Proofs.YtdipcnijfkdnfaaGreatIrqs
open Go Go.Zq
set_option maxHeartbeats 4000000
set_option maxRecDepth 100000
theorem aXJ(zs:List Int)(hl:zs.length<1000000):TI (V164v1_0.mk (ri zs) (cA (ri zs)) 0)=true∧(ltI (JZ (V164v1_0.mk (ri zs) (cA (ri zs)) 0)).s7 (JZ (V164v1_0.mk (ri zs) (cA (ri zs)) 0)).s6=!dI zs):=by
 unfold TI JZ;refine kD (Post:=fun w=>ltI w.s7 w.s6=!dI zs) (eX (fun n v=> ∃i:Nat,v=V164v1_0.mk (ri zs) (cA (ri zs)) i∧i≤zs.length∧n=zs.length-i∧ ∀j(hj:j<zs.length),j<i→cI zs[j] 0 255=true) _ ?_ 2097152 zs.length _ ⟨0,rfl,by omega,by omega,fun j _ h=>absurd h (by omega)⟩ (by omega))
 rintro n v ⟨i,rfl,hi,rfl,hall⟩
 unfold zT;simp only[aB,aJ,aA,bA,bI,eK,pA,true_and,Int.toNat_natCast];constructor
 ·intro h;have hi':i<zs.length:=by omega
  rw[uK hi',oZ hi',uL,uM];refine⟨rfl,rfl,fun hz=>?_,fun hz=>?_⟩
  ·rw[UG hi' (by simpa using hz)]
   simpa [ltI]using h
  ·refine⟨_,?_,i+1,?_,by omega,rfl,?_⟩
   ·omega
   ·rw[bV (by omega)];rfl
   ·intro j hj hji;by_cases e:j=i
    ·subst e;simpa using hz
    ·exact hall j hj (by omega)
 ·intro h;rw[UH fun j hj=>hall j hj (by omega)]
  simpa [ltI]using h
theorem aFW(zs:List Int)(hl:zs.length<1000000):aB4 (ri zs)=true∧aB3 (ri zs)=dI zs:=by
 obtain⟨h1,h2⟩:=aXJ zs hl;unfold aB4 aB3 aB2 TJ;rw[dV,dV];simp only[yY,H7,o9,rA,H8,kA,h1,h2,Bool.true_and];cases dI zs<;>exact⟨rfl,rfl⟩
theorem bGG(b:bM)(l:List aE)(hl:l.length≤2000):aLL (V155_0.mk b (l.map aE.row) (cA (l.map aE.row)) 0)=true∧((TL (V155_0.mk b (l.map aE.row) (cA (l.map aE.row)) 0)).b0=b∧ltI (TL (V155_0.mk b (l.map aE.row) (cA (l.map aE.row)) 0)).s8 (TL (V155_0.mk b (l.map aE.row) (cA (l.map aE.row)) 0)).s7=!l.all accB):=by
 unfold aLL TL;refine kD (Post:=fun w:V155_0=>w.b0=b∧ltI w.s8 w.s7=!l.all accB) (eX (fun(m:Nat) (v:V155_0)=> ∃i:Nat,v=V155_0.mk b (l.map aE.row) (cA (l.map aE.row)) i∧i+m=l.length∧ ∀j(hj:j<l.length),j<i→accB l[j]=true) _ ?_ 2097152 l.length _ ⟨0,rfl,by omega,fun j _ h=>absurd h (by omega)⟩ (by omega))
 rintro m v ⟨i,rfl,hi,hall⟩
 unfold MZ;simp only[aB,aJ,aA,aD,bP,wz,bA,List.length_map,eK,pA,Bool.and_true,true_and,Int.toNat_natCast];constructor
 ·intro h;have hi':i<l.length:=by omega
  obtain⟨p1,p2⟩:=aDC hi';rw[p1,p2,(bIH _).1,(bIH _).2];refine⟨rfl,rfl,fun hz=>?_,fun hz=>?_⟩
  ·rw[aTK hi' (by simpa using hz)]
   simpa [ltI]using h
  ·refine⟨m-1,by omega,i+1,?_,by omega,?_⟩
   ·rw[bV (by omega)];rfl
   ·intro j hj hji;by_cases e:j=i
    ·subst e;simpa using hz
    ·exact hall j hj (by omega)
 ·intro h;rw[aTL fun j hj=>hall j hj (by omega)]
  simpa [ltI]using h
theorem bP5{b:bM}(h:BV b){zs:List Int}{l:List aE}(hz:b.Bytes=ri zs)(hl:b.Log=l.map aE.row):bNS b=true∧bNR b=(eqI (zs.length:Int) 512&&(leI (l.length:Int) 400&&(dI zs&&l.all accB))):=by
 refine aK (t:=a45 b) (P:=fun r=>r=(eqI (zs.length:Int) 512&&(leI (l.length:Int) 400&&(dI zs&&l.all accB)))) ?_
 have n1:=h.nb;have n2:=h.nl;rw[hz,bI]at n1;rw[hl,List.length_map]at n2;obtain⟨a1,a2,a3⟩:=bGG b l (by omega)
 rw[bA,List.length_map]at a1 a2 a3;obtain⟨c1,c2⟩:=aFW zs (by omega)
 unfold a45;simp only[aB,aJ,aA,DE,aD,bP,wz,hl,Bool.and_true,true_and,a1,a2,a3,hz,c1,c2,bA,bI,List.length_map,Bool.true_or];cases l.all accB<;>cases eqI (zs.length:Int) 512<;>cases leI (l.length:Int) 400<;>cases dI zs<;>simp
structure B512(b:bM):Prop where
 z: ∃zs:List Int,b.Bytes=ri zs∧zs.length=512
 l:b.Log=[]
theorem J6{V:Type}{N:V→Pt (Option V)}(st:Nat→V)(n:Nat)(hn:n<1000000)(h: ∀i,i<n→(N (st i)).Sat (fun r=>r=some (st (i+1))))(he:(N (st n)).Sat (fun r=>r=none)):(hid (eG N 2097152 (st 0))).isSome=true∧(hid (eG N 2097152 (st 0))).getD (st 0)=st n:=by
 refine kD (Post:=fun w=>w=st n) (eX (fun(m:Nat) (v:V)=> ∃i,i+m=n∧v=st i) _ ?_ 2097152 n _ ⟨0,by omega,rfl⟩ (by omega))
 rintro m v ⟨i,hi,rfl⟩
 have mono: ∀{α:Type}{P Q:α→Prop},(∀a,P a→Q a)→ ∀{t:Pt α},t.Sat P→t.Sat Q:=fun{α P Q} hPQ t=>by
  induction t with
  |leaf a=>exact hPQ a
  |ok b x ih=>exact fun h=>⟨h.1,ih h.2⟩
  |br b x y ix iy=>exact fun h=>⟨fun e=>ix (h.1 e),fun e=>iy (h.2 e)⟩
 by_cases e:i=n
 ·subst e;exact mono (fun r hr=>by subst hr;rfl) he
 ·exact mono (fun r hr=>by subst hr;exact⟨m-1,by omega,i+1,by omega,rfl⟩) (h i (by omega))
def jB(a:Int):Int:=bif cI a 448 495||leI 512 a then 1 else bif cI a 384 447 then 3 else 0
theorem a79(a:Int):bDL a=true∧a2K a=jB a:=by
 refine aK (t:=a2J a) (P:=fun r=>r=jB a) ?_
 unfold a2J jB;have e:geI a 512=leI 512 a:=rfl;simp only[aB,aJ,aA,lS,lT,e,Bool.and_true,true_and];cases cI a 448 495<;>cases leI 512 a<;>cases cI a 384 447<;>simp
theorem a8A(a:Int):aW7 a=true∧aLP a=jB a:=by
 refine aK (t:=a5U a) (P:=fun r=>r=jB a) ?_
 unfold a5U jB;have e:geI a 512=leI 512 a:=rfl;simp only[aB,aJ,aA,uL,uM,e,Bool.and_true,Bool.true_or,true_and];cases cI a 448 495<;>cases leI 512 a<;>cases cI a 384 447<;>simp
def cY(k s a:Int):Int:=bif eqI s 2&&eqI (a%2) 1 then 2 else bif eqI (jB a) 1||eqI (jB (a+s-1)) 1 then 1 else bif eqI k 2&&(eqI (jB a) 3||eqI (jB (a+s-1)) 3)then 3 else 0
theorem bP6(k s a:Int)(h:cI a 0 65535=true)(hs:cI s 0 2=true):bLM k s a=true∧MD k s a=cY k s a:=by
 refine aK (t:=a2L k s a) (P:=fun r=>r=cY k s a) ?_
 rw[aR]at h hs;have e:cN (bE a s) 1=a+s-1:=by rw[bV (by omega),eV (by omega)]
 unfold a2L cY;simp only[aB,aJ,aA,aJX,(a79 _).1,(a79 _).2,bP4 h.1,e,Bool.and_true,true_and];cases eqI s 2<;>cases eqI (a%2) 1<;>cases eqI (jB a) 1<;>cases eqI (jB (a+s-1)) 1<;>cases eqI k 2<;>cases eqI (jB a) 3<;>cases eqI (jB (a+s-1)) 3<;>simp
theorem bP7(k s a:Int)(h:cI a 0 65535=true)(hs:cI s 0 2=true):bN7 k s a=true∧aCA k s a=cY k s a:=by
 refine aK (t:=a5V k s a) (P:=fun r=>r=cY k s a) ?_
 rw[aR]at h hs;have e:cN (bE a s) 1=a+s-1:=by rw[bV (by omega),eV (by omega)]
 unfold a5V cY;simp only[aB,aJ,aA,aLQ,(a8A _).1,(a8A _).2,b5K,e,Bool.and_true,Bool.true_or,true_and];cases eqI s 2<;>cases eqI (a%2) 1<;>cases eqI (jB a) 1<;>cases eqI (jB (a+s-1)) 1<;>cases eqI k 2<;>cases eqI (jB a) 3<;>cases eqI (jB (a+s-1)) 3<;>simp
theorem a8B(k s a:Int):cI (cY k s a) 0 3=true:=by
 unfold cY;cases eqI s 2&&eqI (a%2) 1<;>cases eqI (jB a) 1||eqI (jB (a+s-1)) 1<;>cases eqI k 2&&(eqI (jB a) 3||eqI (jB (a+s-1)) 3)<;>rfl
theorem J7{a:Int}:(jB a≠1→a<448∨(496≤a∧a<512))∧(jB a≠1→jB a≠3→a<384∨496≤a):=by
 unfold jB;cases h1:cI a 448 495<;>cases h2:leI 512 a<;>cases h3:cI a 384 447<;>simp[cI]at* <;>omega
theorem aDD{k s a:Int}(h:cY k s a=0):cY 1 s a=0∧(a<448∨(496≤a∧a<512))∧(a+s-1<448∨(496≤a+s-1∧a+s-1<512))∧(k=2→(a<384∨496≤a)∧(a+s-1<384∨496≤a+s-1)):=by
 unfold cY at*;cases h1:eqI s 2&&eqI (a%2) 1
 ·cases h2:eqI (jB a) 1||eqI (jB (a+s-1)) 1
  ·rw[h1,h2]at h;rw[Bool.or_eq_false_iff,gT,gT]at h2;refine⟨rfl,J7.1 h2.1,J7.1 h2.2,fun e=>?_⟩
   subst e;cases h3:eqI (jB a) 3||eqI (jB (a+s-1)) 3
   ·rw[Bool.or_eq_false_iff,gT,gT]at h3;exact⟨J7.2 h2.1 h3.1,J7.2 h2.2 h3.2⟩
   ·rw[h3,show eqI 2 2=true from rfl]at h;simp at h
  ·rw[h1,h2]at h;simp at h
 ·rw[h1]at h;simp at h
end Go.Proofs.YtdipcnijfkdnfaaGreatIrqs

namespace Go.Proofs.YtdipcnijfkdnfaaGreatIrqs
open Bool renaming and_true → qt
open Bool renaming true_eq_false → q_1
open Bool renaming false_eq_true → q_2
open Int renaming toNat_natCast → q_m
open Go Go.Zq
set_option maxHeartbeats 4000000
set_option maxRecDepth 100000
def wk(s v:Int)(a:Nat)(zs:List Int):Nat→List Int
 |0=>zs
 |1=>zs.set a (bif eqI s 1 then v%256 else v/256)
 |_=>(zs.set a (v/256)).set (a+1) (v%256)
def rkq(a:Nat)(zs:List Int):Nat→Int
 |0=>0
 |1=>zs.getD a 0
 |_=>zs.getD a 0*256+zs.getD (a+1) 0
theorem sP{zs:List Int}{i:Nat}(h:i<zs.length):zs.getD i 0=zs[i]:=by simp[List.getD_eq_getElem?_getD,h]
theorem J8{zs:List Int}(h:dI zs=true){i:Nat}(hi:i<zs.length):0≤zs[i]∧zs[i]<256:=by
 have:=List.all_eq_true.1 h _ (List.getElem_mem hi);rw[aR]at this;omega
structure TouchOk(s v:Int)(zs:List Int)(l:List aE):Prop where
 hs:s=1∨s=2
 hv:dK s v=true
 hz:zs.length=512
 hb:dI zs=true
 hl:l.length≤400
theorem O8{s v:Int}(hs:s=1∨s=2)(h:dK s v=true):0≤v∧v<65536∧(s=1→v<256):=by
 unfold dK at h;rcases hs with rfl|rfl
 ·rw[show eqI 1 1=true from rfl,cond_true,aR]at h;omega
 ·rw[show eqI 2 1=false from rfl,show eqI 2 2=true from rfl,cond_true,cond_false,aR]at h;omega
theorem xW{zs:List Int}{a:Nat}(h:a<zs.length):leI 0 (a:Int)=true∧ltI (a:Int) (zs.length:Int)=true∧blt a zs.length=true∧jW (jX (ri zs) a) 1=true∧dU [.int .i64] (ri zs) a 0=true:=by
 refine⟨by simp,by simp;exact h,by simp;exact h,by rw[xV h];rfl,EN ⟨zs,rfl⟩ (by rw[bI];exact h)⟩
theorem b5M{v:Int}:eZ v 0=v:=by rw[kQ (n:=0) 0 rfl (by omega)];simp
theorem bP8{v:Int}:eZ v 8=v/256:=by rw[kQ (n:=8) 8 rfl (by omega)];rfl
theorem bGH{s v:Int}{a:Nat}{zs:List Int}{l:List aE}(h:TouchOk s v zs l)(hc:cY 2 s a=0):aLS (V209_0.mk ⟨ri zs,l.map aE.row⟩ 2 s a v 0 v 0)=true∧aLR (V209_0.mk ⟨ri zs,l.map aE.row⟩ 2 s a v 0 v 0)=V209_0.mk ⟨ri (wk s v a zs s.toNat),l.map aE.row⟩ 2 s a v 0 v s:=by
 obtain⟨-,q1,q2,q3⟩:=aDD hc;obtain⟨v0,v1,v2⟩:=O8 h.hs h.hv;have hz:=h.hz;have hl:=h.hl;have e22:eqI 2 2=true:=rfl;have an:bH v 255=v%256:=yZ v0 (by omega)
 have an8:bH (v/256) 255=v/256:=by rw[yZ (by omega) (by omega)];omega
 have:=J6 (N:=sF) (fun i=>V209_0.mk ⟨ri (wk s v a zs i),l.map aE.row⟩ 2 s a v 0 v i) s.toNat (by rcases h.hs with rfl|rfl<;>decide) ?_ ?_
 ·rw[show((s.toNat:Nat):Int)=s from by rcases h.hs with rfl|rfl<;>rfl]at this
  exact this
 ·intro i hi;have p:bE (a:Int) ((i:Nat):Int)=((a+i:Nat):Int):=by
   have:s.toNat≤2:=by rcases h.hs with rfl|rfl<;>decide
   rw[bV (by omega)];omega
  rcases h.hs with rfl|rfl
  ·obtain rfl:i=0:=by have:Int.toNat 1=1:=rfl;omega
   have p2:xU .u64 (dH 8 (cN (cN 1 1) ((0:Nat):Int)))=0:=by decide
   have p3:ltI ((0:Nat):Int) 1=true:=by decide
   have p4:bE ((0:Nat):Int) 1=((0+1:Nat):Int):=by decide
   obtain⟨c1,c2,c3,c4,c5⟩:=xW (zs:=zs) (a:=a) (by omega)
   unfold sF;simp only[aB,aJ,aA,sE,sD,sC,sB,wk,p,p2,p3,p4,b5M,an,q_m,Nat.zero_add,Nat.add_zero,bA,bI,dX,List.length_set,aD,bP,wz,e22,show eqI 1 1=true from rfl,show leI 0 0=true from rfl,c1,c2,c3,c4,c5,qt,true_and,cond_true,implies_true,q_1,false_implies,and_true]
  ·obtain rfl|rfl:i=0∨i=1:=by have:Int.toNat 2=2:=rfl;omega
   ·have p2:xU .u64 (dH 8 (cN (cN 2 1) ((0:Nat):Int)))=8:=by decide
    have p3:ltI ((0:Nat):Int) 2=true:=by decide
    have p4:bE ((0:Nat):Int) 1=((0+1:Nat):Int):=by decide
    obtain⟨c1,c2,c3,c4,c5⟩:=xW (zs:=zs) (a:=a) (by omega)
    unfold sF;simp only[aB,aJ,aA,sE,sD,sC,sB,wk,p,p2,p3,p4,bP8,an8,q_m,Nat.zero_add,Nat.add_zero,bA,bI,dX,List.length_set,aD,bP,wz,e22,show eqI 2 1=false from rfl,show leI 0 8=true from rfl,c1,c2,c3,c4,c5,qt,true_and,cond_true,cond_false,implies_true,q_1,false_implies,and_true]
   ·have p2:xU .u64 (dH 8 (cN (cN 2 1) ((1:Nat):Int)))=0:=by decide
    have p3:ltI ((1:Nat):Int) 2=true:=by decide
    have p4:bE ((1:Nat):Int) 1=((1+1:Nat):Int):=by decide
    obtain⟨c1,c2,c3,c4,c5⟩:=xW (zs:=zs.set a (v/256)) (a:=a+1) (by rw[List.length_set];omega)
    rw[List.length_set]at c2 c3;unfold sF;simp only[aB,aJ,aA,sE,sD,sC,sB,wk,p,p2,p3,p4,b5M,an,q_m,Nat.zero_add,bA,bI,dX,List.length_set,aD,bP,wz,e22,show eqI 2 1=false from rfl,show leI 0 0=true from rfl,c1,c2,c3,c4,c5,qt,true_and,cond_true,cond_false,implies_true,q_1,false_implies,and_true]
 ·have p3:ltI ((s.toNat:Nat):Int) s=false:=by rcases h.hs with rfl|rfl<;>decide
  unfold sF;simp only[aB,aJ,aA,p3,q_2,false_implies,implies_true,true_and]
theorem bGI{k s v:Int}{a:Nat}{zs:List Int}{l:List aE}(h:TouchOk s v zs l)(hk:eqI k 2=false)(hc:cY k s a=0):aLS (V209_0.mk ⟨ri zs,l.map aE.row⟩ k s a v 0 0 0)=true∧aLR (V209_0.mk ⟨ri zs,l.map aE.row⟩ k s a v 0 0 0)=V209_0.mk ⟨ri zs,l.map aE.row⟩ k s a v 0 (rkq a zs s.toNat) s:=by
 obtain⟨-,q1,q2,q3⟩:=aDD hc;have hz:=h.hz;have hl:=h.hl;have:=J6 (N:=sF) (fun i=>V209_0.mk ⟨ri zs,l.map aE.row⟩ k s a v 0 (rkq a zs i) i) s.toNat (by rcases h.hs with rfl|rfl<;>decide) ?_ ?_
 ·rw[show((s.toNat:Nat):Int)=s from by rcases h.hs with rfl|rfl<;>rfl]at this
  exact this
 ·intro i hi;have p:bE (a:Int) ((i:Nat):Int)=((a+i:Nat):Int):=by
   have:s.toNat≤2:=by rcases h.hs with rfl|rfl<;>decide
   rw[bV (by omega)];omega
  have p4:bE ((i:Nat):Int) 1=((i+1:Nat):Int):=by
   have:s.toNat≤2:=by rcases h.hs with rfl|rfl<;>decide
   rw[bV (by omega)];omega
  have ha:a+i<zs.length:=by
   rcases h.hs with rfl|rfl
   ·have:Int.toNat 1=1:=rfl;omega
   ·have:Int.toNat 2=2:=rfl;omega
  obtain⟨c1,c2,c3,c4,c5⟩:=xW ha;have p3:ltI ((i:Nat):Int) s=true:=by rw[eK];omega
  have p5:eW (m7 (rkq a zs i) 8) zs[a+i]=rkq a zs (i+1):=by
   have b1:=J8 h.hb ha;obtain rfl|rfl:i=0∨i=1:=by
    have:s.toNat≤2:=by rcases h.hs with rfl|rfl<;>decide
    omega
   ·simp only[rkq];rw[bGE (by omega) (by omega),UF (by omega) (by omega) b1.1 b1.2,sP (by omega)]
    simp
   ·have b2:=J8 h.hb (i:=a) (by omega)
    simp only[rkq];rw[sP (show a<zs.length by omega),sP ha,bGE b2.1 (by omega),UF (by omega) (by omega) b1.1 b1.2]
  unfold sF;simp only[aB,aJ,aA,sE,sD,sC,sB,p,p3,p4,p5,oZ ha,q_m,Nat.zero_add,bA,bI,aD,bP,wz,hk,c1,c2,c3,c4,c5,qt,true_and,implies_true,q_1,q_2,false_implies,and_true]
 ·have p3:ltI ((s.toNat:Nat):Int) s=false:=by rcases h.hs with rfl|rfl<;>decide
  unfold sF;simp only[aB,aJ,aA,p3,q_2,false_implies,implies_true,true_and]
def tB(k s a v:Int)(zs:List Int):List Int:=bif eqI (cY k s a) 0&&eqI k 2 then wk s v a.toNat zs s.toNat else zs
def tV(k s a v:Int)(zs:List Int):Int:=bif eqI k 2 then v else bif eqI (cY k s a) 0 then rkq a.toNat zs s.toNat else 0
def tL(k s a v:Int)(zs:List Int)(l:List aE):List aE:=bif ltI (l.length:Int) 400&&!(eqI k 3&&eqI (cY k s a) 0)then l++[⟨k,s,a,tV k s a v zs,cY k s a⟩]else l
theorem EO(l:List aE)(x:aE):l.map aE.row++[aE.row x]=(l++[x]).map aE.row:=by simp
theorem bGJ{k s a v:Int}{zs:List Int}{l:List aE}(h:TouchOk s v zs l)(ha:cI a 0 65535=true):bFD k s a v ⟨ri zs,l.map aE.row⟩=true∧bFC k s a v ⟨ri zs,l.map aE.row⟩=(⟨ri (tB k s a v zs),(tL k s a v zs l).map aE.row⟩,tV k s a v zs,cY k s a):=by
 refine aK (t:=aLT k s a v ⟨ri zs,l.map aE.row⟩) (P:=fun r=>r=(⟨ri (tB k s a v zs),(tL k s a v zs l).map aE.row⟩,tV k s a v zs,cY k s a)) ?_
 obtain⟨c1,c2⟩:=bP7 k s a ha (by rcases h.hs with rfl|rfl<;>decide)
 have hl:=h.hl;obtain⟨r1,r2,r3,r4,r5,r6,r7,r8,r9⟩:=FT (n:=l.length) (by omega)
 obtain⟨m,rfl⟩: ∃m:Nat,a=(m:Int):=⟨a.toNat,by rw[aR]at ha;omega⟩
 have z1:eC (0+l.length) l.length=true:=by simp
 have z2:qQ (0+l.length) l.length=true:=by simp
 have n0:dC (cY k s m) 0=!eqI (cY k s m) 0:=rfl;have n2:dC k 2=!eqI k 2:=rfl;have n3:dC k 3=!eqI k 3:=rfl;cases hc:eqI (cY k s m) 0
 ·unfold aLT tB tL tV;simp only[aB,aJ,aA,TR,TQ,TP,TO,aCE,yN,jM,c1,c2,hc,n0,n2,n3,z1,z2,r8,r9,EO,qt,true_and,bA,List.length_map,aD,bP,wz,q_2,false_implies,Bool.and_false,Bool.false_and,Bool.not_false,cond_false,cond_true,forall_const];cases ltI (l.length:Int) 400<;>cases eqI k 2<;>cases eqI k 3<;>simp
 ·have hc':=dS.1 hc;cases hk:eqI k 2
  ·obtain⟨d1,d2⟩:=bGI (a:=m) h hk hc';unfold aLT tB tL tV;simp only[aB,aJ,aA,TR,TQ,TP,TO,aCE,yN,jM,c1,c2,hc,hc',hk,d1,d2,n2,n3,show dC 0 0=false from rfl,show eqI 0 0=true from rfl,z1,z2,r8,r9,EO,bI,qt,true_and,bA,List.length_map,aD,bP,wz,q_m,q_1,q_2,false_implies,Bool.and_false,Bool.not_false,Bool.not_true,cond_false,cond_true,forall_const,and_true]
   cases ltI (l.length:Int) 400<;>cases eqI k 3<;>simp
  ·obtain rfl:=dS.1 hk;obtain⟨d1,d2⟩:=bGH (a:=m) h hc';unfold aLT tB tL tV;simp only[aB,aJ,aA,TR,TQ,TP,TO,aCE,yN,jM,c1,c2,hc,hc',hk,d1,d2,n2,n3,show eqI 2 3=false from rfl,show dC 0 0=false from rfl,show eqI 0 0=true from rfl,z1,z2,r8,r9,EO,bI,qt,true_and,bA,List.length_map,aD,bP,wz,q_m,q_1,q_2,false_implies,Bool.and_false,Bool.false_and,Bool.not_false,Bool.not_true,cond_false,cond_true,forall_const,and_true]
   cases ltI (l.length:Int) 400<;>simp
theorem b5N{s v:Int}{a:Nat}{zs:List Int}{l:List aE}(h:TouchOk s v zs l)(hc:cY 2 s a=0):bLP s a v ⟨ri zs,l.map aE.row⟩=true∧JQ s a v ⟨ri zs,l.map aE.row⟩=⟨ri (wk s v a zs s.toNat),l.map aE.row⟩:=by
 refine aK (t:=a2M s a v ⟨ri zs,l.map aE.row⟩) (P:=fun r=>r=⟨ri (wk s v a zs s.toNat),l.map aE.row⟩) ?_
 obtain⟨-,q1,q2,q3⟩:=aDD hc;obtain⟨v0,v1,v2⟩:=O8 h.hs h.hv;have hz:=h.hz;have an:bH v 255=v%256:=yZ v0 (by omega)
 have p:bE (a:Int) 1=((a+1:Nat):Int):=by rw[bV (by omega)];omega
 obtain⟨c1,c2,c3,c4,c5⟩:=xW (zs:=zs) (a:=a) (by omega)
 unfold a2M;rcases h.hs with rfl|rfl
 ·simp only[aB,aJ,aA,aAZ,aAY,aAX,aAW,SB,aAV,show eqI 1 2=false from rfl,an,p,c1,c2,c3,c4,c5,bA,bI,dX,List.length_set,List.length_map,aD,bP,wz,q_m,Nat.zero_add,qt,true_and,q_2,false_implies,forall_const]
  rfl
 ·obtain⟨d1,d2,d3,d4,d5⟩:=xW (zs:=zs.set a (v/256)) (a:=a+1) (by rw[List.length_set];omega)
  rw[List.length_set]at d2 d3;simp only[aB,aJ,aA,aAZ,aAY,aAX,aAW,SB,aAV,show eqI 2 2=true from rfl,an,p,bP8,c1,c2,c3,c4,c5,d1,d2,d3,d4,d5,bA,bI,dX,List.length_set,List.length_map,aD,bP,wz,q_m,Nat.zero_add,qt,true_and,q_1,false_implies,forall_const,and_true]
  rfl
theorem cJ1{k s v:Int}{a:Nat}{zs:List Int}{l:List aE}(h:TouchOk s v zs l)(hc:cY k s a=0):bLS s a ⟨ri zs,l.map aE.row⟩=true∧a2O s a ⟨ri zs,l.map aE.row⟩=rkq a zs s.toNat:=by
 refine aK (t:=a2N s a ⟨ri zs,l.map aE.row⟩) (P:=fun r=>r=rkq a zs s.toNat) ?_
 obtain⟨-,q1,q2,q3⟩:=aDD hc;have hz:=h.hz;have p:bE (a:Int) 1=((a+1:Nat):Int):=by rw[bV (by omega)];omega
 have ha:a<zs.length:=by omega
 obtain⟨c1,c2,c3,c4,c5⟩:=xW ha;unfold a2N;rcases h.hs with rfl|rfl
 ·simp only[aB,aJ,aA,aA1,aA0,show eqI 1 1=true from rfl,p,c1,c2,c3,c4,c5,oZ ha,aD,bP,wz,bA,bI,q_m,Nat.zero_add,qt,true_and,q_1,false_implies,forall_const,and_true]
  exact(sP ha).symm
 ·have ha2:a+1<zs.length:=by omega
  obtain⟨d1,d2,d3,d4,d5⟩:=xW ha2;have b1:=J8 h.hb ha;have b2:=J8 h.hb ha2;simp only[aB,aJ,aA,aA1,aA0,show eqI 2 1=false from rfl,p,c1,c2,c3,c4,c5,d1,d2,d3,d4,d5,oZ ha,oZ ha2,aD,bP,wz,bA,bI,q_m,Nat.zero_add,qt,true_and,q_2,false_implies,forall_const]
  rw[bGE b1.1 (by omega),UF b1.1 (by omega) b2.1 b2.2]
  simp only[show Int.toNat 2=2 from rfl,rkq]
  rw[sP ha,sP ha2]
theorem EP{k s a v:Int}{zs:List Int}{l:List aE}(h:TouchOk s v zs l)(ha:cI a 0 65535=true)(hv:eqI k 2=false→v=0):HI k s a v ⟨ri zs,l.map aE.row⟩=true∧JU k s a v ⟨ri zs,l.map aE.row⟩=(⟨ri (tB k s a v zs),(tL k s a v zs l).map aE.row⟩,(bif eqI k 2 then 0 else tV k s a v zs),cY k s a):=by
 refine aK (t:=aJY k s a v ⟨ri zs,l.map aE.row⟩) (P:=fun r=>r=(⟨ri (tB k s a v zs),(tL k s a v zs l).map aE.row⟩,(bif eqI k 2 then 0 else tV k s a v zs),cY k s a)) ?_
 obtain⟨c1,c2⟩:=bP6 k s a ha (by rcases h.hs with rfl|rfl<;>decide)
 have hl:=h.hl;obtain⟨r1,r2,r3,r4,r5,r6,r7,r8,r9⟩:=FT (n:=l.length) (by omega)
 obtain⟨m,rfl⟩: ∃m:Nat,a=(m:Int):=⟨a.toNat,by rw[aR]at ha;omega⟩
 have z1:eC (0+l.length) l.length=true:=by simp
 have z2:qQ (0+l.length) l.length=true:=by simp
 have n0:dC (cY k s m) 0=!eqI (cY k s m) 0:=rfl;have n2:dC k 2=!eqI k 2:=rfl;cases hc:eqI (cY k s m) 0
 ·unfold aJY tB tL tV;simp only[aB,aJ,aA,JT,JS,JR,SL,SK,SJ,SI,SH,SG,SF,SE,SD,SC,c1,c2,hc,n0,n2,z1,z2,r8,r9,EO,qt,true_and,bA,List.length_map,aD,bP,wz,q_1,q_2,false_implies,Bool.and_false,Bool.false_and,Bool.not_false,cond_false,cond_true,forall_const,and_true];cases ltI (l.length:Int) 400<;>cases eqI k 2<;>cases eqI k 3<;>simp
 ·have hc':=dS.1 hc;cases hk:eqI k 2
  ·obtain⟨d1,d2⟩:=cJ1 (a:=m) h hc';unfold aJY tB tL tV;simp only[aB,aJ,aA,JT,JS,JR,SL,SK,SJ,SI,SH,SG,SF,SE,SD,SC,c1,c2,hc,hc',hk,d1,d2,n2,show dC 0 0=false from rfl,show eqI 0 0=true from rfl,z1,z2,r8,r9,EO,bI,qt,true_and,bA,List.length_map,aD,bP,wz,q_m,q_1,q_2,false_implies,Bool.and_false,Bool.not_false,Bool.not_true,cond_false,cond_true,forall_const,and_true]
   cases ltI (l.length:Int) 400<;>cases eqI k 3<;>simp
  ·obtain rfl:=dS.1 hk;obtain⟨d1,d2⟩:=b5N (a:=m) h hc';unfold aJY tB tL tV;simp only[aB,aJ,aA,JT,JS,JR,SL,SK,SJ,SI,SH,SG,SF,SE,SD,SC,c1,c2,hc,hc',hk,d1,d2,n2,show eqI 2 3=false from rfl,show dC 0 0=false from rfl,show eqI 0 0=true from rfl,z1,z2,r8,r9,EO,bI,qt,true_and,bA,List.length_map,aD,bP,wz,q_m,q_1,q_2,false_implies,Bool.and_false,Bool.false_and,Bool.not_false,Bool.not_true,cond_false,cond_true,forall_const,and_true]
   cases ltI (l.length:Int) 400<;>simp
end Go.Proofs.YtdipcnijfkdnfaaGreatIrqs

namespace Go.Proofs.YtdipcnijfkdnfaaGreatIrqs
open Go Go.Zq
set_option maxHeartbeats 4000000
set_option maxRecDepth 100000
def cD(s:Int):Int:=bif eqI s 1 then 256 else 65536
theorem kY{s:Int}(h:s=1∨s=2):JX s=true∧xC s=cD s:=by
 rcases h with rfl|rfl
 ·exact aNA
 ·exact aNB
theorem iK{s:Int}(h:s=1∨s=2):C4 s=true∧pM s=cD s:=by
 rcases h with rfl|rfl
 ·exact aNC
 ·exact aND
theorem pS{s v:Int}(h:dK s v=true):(s=1∨s=2)∧0≤v∧v<cD s:=by
 unfold dK at h;cases e1:eqI s 1
 ·cases e2:eqI s 2
  ·rw[e1,e2]at h;simp at h
  ·rw[e1,e2,cond_true,cond_false,aR]at h;unfold cD;rw[e1];rw[dS]at e2;exact⟨Or.inr e2,by omega,by rw[cond_false];omega⟩
 ·rw[e1,cond_true,aR]at h;unfold cD;rw[e1];rw[dS]at e1;exact⟨Or.inl e1,by omega,by rw[cond_true];omega⟩
def zU(s v:Int):Int:=bif geI v (cD s/2)then v-cD s else v
theorem aNE{s:Int}(h:s=1∨s=2):lQ (cD s) 2=cD s/2:=by
 rcases h with rfl|rfl<;>decide
theorem rC{s:Int}(h:s=1∨s=2):cD s=256∨cD s=65536:=by
 rcases h with rfl|rfl
 ·exact Or.inl rfl
 ·exact Or.inr rfl
theorem FU{s v:Int}(h:s=1∨s=2)(h0:0≤v)(h1:v<1000000):aCU s v=true∧aCT s v=zU s v:=by
 refine aK (t:=a6O s v) (P:=fun r=>r=zU s v) ?_
 have l:=rC h;have e:cN v (cD s)=v-cD s:=eV (by omega)
 unfold a6O zU;simp only[aB,aJ,aA,(kY h).1,(kY h).2,aNE h,e,Bool.and_true,true_and];exact⟨fun hh=>by rw[hh];rfl,fun hh=>by rw[hh];rfl⟩
theorem fK(b:Bool)(x:Int):yB b x=true∧yA b x=bif b then x else 0:=by
 refine aK (t:=aIB b x) (P:=fun r=>r=bif b then x else 0) ?_
 unfold aIB;simp only[aB,aJ,aA,true_and];exact⟨fun h=>by rw[h];rfl,fun h=>by rw[h];rfl⟩
theorem EV{s v:Int}(h:s=1∨s=2):aMB s v=true∧aMA s v=eW (bif eqI v 0 then 4 else 0) (bif geI v (cD s/2)then 8 else 0):=by
 refine aK (t:=a6N s v) (P:=fun r=>r=eW (bif eqI v 0 then 4 else 0) (bif geI v (cD s/2)then 8 else 0)) ?_
 unfold a6N;simp only[aB,aA,(fK _ _).1,(fK _ _).2,(kY h).1,(kY h).2,aNE h,Bool.and_true,true_and]
theorem XW{s v:Int}(h:s=1∨s=2)(h0:0≤v)(h1:v<1000000):aFM s v=true∧aBK s v=zU s v:=by
 refine aK (t:=a3T s v) (P:=fun r=>r=zU s v) ?_
 have l:=rC h;have e:cN v (cD s)=v-cD s:=eV (by omega)
 unfold a3T zU;simp only[aB,aJ,aA,(iK h).1,(iK h).2,aNE h,e,Bool.and_true,true_and];exact⟨fun hh=>by rw[hh];rfl,fun hh=>by rw[hh];rfl⟩
theorem zA(b:Bool)(x:Int):yG b x=true∧yF b x=bif b then x else 0:=by
 refine aK (t:=aAR b x) (P:=fun r=>r=bif b then x else 0) ?_
 unfold aAR;simp only[aB,aJ,aA,true_and];exact⟨fun h=>by rw[h];rfl,fun h=>by rw[h];rfl⟩
theorem aXK{s v:Int}(h:s=1∨s=2):aWJ s v=true∧aWI s v=eW (bif eqI v 0 then 4 else 0) (bif geI v (cD s/2)then 8 else 0):=by
 refine aK (t:=a3P s v) (P:=fun r=>r=eW (bif eqI v 0 then 4 else 0) (bif geI v (cD s/2)then 8 else 0)) ?_
 unfold a3P;simp only[aB,aA,(zA _ _).1,(zA _ _).2,(iK h).1,(iK h).2,aNE h,Bool.and_true,true_and]
def fl(c o z n:Bool):Int:=eW (eW (bif c then 17 else 0) (bif o then 2 else 0)) (eW (bif z then 4 else 0) (bif n then 8 else 0))
theorem mask{s v:Int}(h:s=1∨s=2):bH v (cN (cD s) 1)=v%cD s:=by
 rcases h with rfl|rfl
 ·exact i6 8 _ (by omega) (by decide)
 ·exact i6 16 _ (by omega) (by decide)
def aDE(s c a b:Int):Int×Int:=((a+b+c)%cD s,fl (dC (a+b+c) ((a+b+c)%cD s)) (dC (zU s a+zU s b+c) (zU s ((a+b+c)%cD s))) (eqI ((a+b+c)%cD s) 0) (geI ((a+b+c)%cD s) (cD s/2)))
def IB(s a b:Int):Int:=fl (dC (a-b) ((a-b)%cD s)) (dC (zU s a-zU s b) (zU s ((a-b)%cD s))) (eqI ((a-b)%cD s) 0) (geI ((a-b)%cD s) (cD s/2))
theorem xX{s v:Int}(h:s=1∨s=2)(h0:0≤v)(h1:v<cD s): -65536≤zU s v∧zU s v<65536:=by
 have l:=rC h;unfold zU;cases geI v (cD s/2)
 ·rw[cond_false];omega
 ·rw[cond_true];omega
theorem bGK{s x y:Int}(h:s=1∨s=2):bD4 s x y=true∧bD3 s x y=(x%cD s,fl (dC x (x%cD s)) (dC y (zU s (x%cD s))) (eqI (x%cD s) 0) (geI (x%cD s) (cD s/2))):=by
 refine aK (t:=a3U s x y) (P:=fun r=>r=(x%cD s,fl (dC x (x%cD s)) (dC y (zU s (x%cD s))) (eqI (x%cD s) 0) (geI (x%cD s) (cD s/2)))) ?_
 have l:=rC h;have r0:0≤x%cD s:=Int.emod_nonneg _ (by omega)
 have r1:x%cD s<cD s:=Int.emod_lt_of_pos _ (by omega)
 obtain⟨a1,a2⟩:=XW (v:=x%cD s) h r0 (by omega)
 unfold a3U fl;simp only[aB,aA,aKR,(iK h).1,(iK h).2,mask h,a1,a2,(zA _ _).1,(zA _ _).2,(aXK h).1,(aXK h).2,Bool.and_true,true_and]
theorem b5O{s c a b:Int}(hc:c=0∨c=1)(ha:dK s a=true)(hb:dK s b=true):bMJ s c a b=true∧bMI s c a b=aDE s c a b:=by
 refine aK (t:=a3X s c a b) (P:=fun r=>r=aDE s c a b) ?_
 obtain⟨h,a0,a1⟩:=pS ha;obtain⟨-,b0,b1⟩:=pS hb;have l:=rC h;have sa:=xX h a0 a1;have sb:=xX h b0 b1;obtain⟨p1,p2⟩:=XW h a0 (by omega)
 obtain⟨q1,q2⟩:=XW h b0 (by omega)
 have e1:bE (bE a b) c=a+b+c:=by rw[bV (x:=a) (by omega),bV (by omega)]
 have e2:bE (bE (zU s a) (zU s b)) c=zU s a+zU s b+c:=by rw[bV (x:=zU s a) (by omega),bV (by omega)]
 unfold a3X;simp only[aB,aA,aKV,aKU,p1,p2,q1,q2,e1,e2,(bGK h).1,(bGK h).2,Bool.and_true,true_and];rfl
theorem b5P{s c a b:Int}(hc:c=0∨c=1)(ha:dK s a=true)(hb:dK s b=true):bO5 s c a b=true∧bO4 s c a b=aDE s c a b:=by
 refine aK (t:=a7C s c a b) (P:=fun r=>r=aDE s c a b) ?_
 obtain⟨h,a0,a1⟩:=pS ha;obtain⟨-,b0,b1⟩:=pS hb;have l:=rC h;have sa:=xX h a0 a1;have sb:=xX h b0 b1;obtain⟨p1,p2⟩:=FU h a0 (by omega)
 obtain⟨q1,q2⟩:=FU h b0 (by omega)
 have e1:bE (bE a b) c=a+b+c:=by rw[bV (x:=a) (by omega),bV (by omega)]
 have e2:bE (bE (zU s a) (zU s b)) c=zU s a+zU s b+c:=by rw[bV (x:=zU s a) (by omega),bV (by omega)]
 have r0:0≤(a+b+c)%cD s:=Int.emod_nonneg _ (by omega)
 have r1:(a+b+c)%cD s<cD s:=Int.emod_lt_of_pos _ (by omega)
 obtain⟨t1,t2⟩:=FU (v:=(a+b+c)%cD s) h r0 (by omega)
 unfold a7C aDE fl;simp only[aB,aA,aMW,aMV,H3,(kY h).1,(kY h).2,mask h,p1,p2,q1,q2,e1,e2,t1,t2,(fK _ _).1,(fK _ _).2,(EV h).1,(EV h).2,Bool.and_true,true_and]
theorem a8D{s a b:Int}(ha:dK s a=true)(hb:dK s b=true):aFO s 0 a b=true∧(aCW s 0 a b).2=IB s a b:=by
 refine aK (t:=aMD s 0 a b) (P:=fun r=>r.2=IB s a b) ?_
 obtain⟨h,a0,a1⟩:=pS ha;obtain⟨-,b0,b1⟩:=pS hb;have l:=rC h;have sa:=xX h a0 a1;have sb:=xX h b0 b1;obtain⟨p1,p2⟩:=FU h a0 (by omega)
 obtain⟨q1,q2⟩:=FU h b0 (by omega)
 have e1:cN (cN a b) 0=a-b:=by rw[eV (x:=a) (by omega),eV (by omega)];omega
 have e2:cN (cN (zU s a) (zU s b)) 0=zU s a-zU s b:=by rw[eV (x:=zU s a) (by omega),eV (by omega)];omega
 have r0:0≤(a-b)%cD s:=Int.emod_nonneg _ (by omega)
 have r1:(a-b)%cD s<cD s:=Int.emod_lt_of_pos _ (by omega)
 obtain⟨t1,t2⟩:=FU (v:=(a-b)%cD s) h r0 (by omega)
 have e3:ltI (a-b) 0=dC (a-b) ((a-b)%cD s):=by
  cases hh:ltI (a-b) 0
  ·rw[pA]at hh
   symm;rw[OC,Int.emod_eq_of_lt hh (by omega)]
  ·rw[eK]at hh
   symm;rw[oM];omega
 unfold aMD IB fl;simp only[aB,aA,aCV,HV,(kY h).1,(kY h).2,mask h,p1,p2,q1,q2,e1,e2,e3,t1,t2,(fK _ _).1,(fK _ _).2,(EV h).1,(EV h).2,Bool.and_true,true_and]
end Go.Proofs.YtdipcnijfkdnfaaGreatIrqs

namespace Go.Proofs.YtdipcnijfkdnfaaGreatIrqs
open Go Go.Zq
set_option maxHeartbeats 4000000
set_option maxRecDepth 100000
theorem OE(a:Int):k77 a=true∧g77 a=cI a 0 65535:=by
 constructor
 ·simp[k77,dV,T77]
 ·simp[g77,dV,T77]
theorem bIJ(a:Int):k73 a=true∧g73 a=cI a 0 65535:=by
 constructor
 ·simp[k73,dV,T73]
 ·simp[g73,dV,T73]
def wV(s:Int):Bool:=bif eqI s 1 then true else eqI s 2
theorem bIK(s:Int):aVT s=true∧aFA s=wV s:=by
 refine aK (t:=aIC s) (P:=fun r=>r=wV s) ?_
 unfold aIC wV;simp only[aB,aA,true_and]
theorem bIL(s:Int):aV4 s=true∧aFH s=wV s:=by
 refine aK (t:=aJI s) (P:=fun r=>r=wV s) ?_
 unfold aJI wV;simp only[aB,aA,true_and]
theorem XX(m:Int):aH7 m=true∧aH6 m=geI m 5:=by
 refine aK (t:=a0L m) (P:=fun r=>r=geI m 5) ?_
 unfold a0L;simp only[aB,aA,true_and]
def a8E(m:Int):Bool:=bif (bif eqI m 5 then true else eqI m 6)then true else eqI m 7
theorem XY(m:Int):a2Z m=true∧a2Y m=a8E m:=by
 refine aK (t:=a2X m) (P:=fun r=>r=a8E m) ?_
 unfold a2X a8E;simp only[aB,aA,true_and]
theorem aNF{m:Int}(h:cI m 0 7=true):a8E m=geI m 5:=by
 rw[aR]at h;unfold a8E;have:m=0∨m=1∨m=2∨m=3∨m=4∨m=5∨m=6∨m=7:=by omega
 rcases this with rfl|rfl|rfl|rfl|rfl|rfl|rfl|rfl<;>rfl
def opB(o:aG):Bool:=cI o.Mode 0 7&&(cI o.Reg 0 3&&((eqI o.Reg 0||ltI o.Mode 6)&&(cI o.Ext 0 65535&&(geI o.Mode 5||eqI o.Ext 0))))
theorem b5Q(o:aG):bJ2 o=true∧bJ1 o=opB o:=by
 refine aK (t:=a0Q o) (P:=fun r=>r=opB o) ?_
 have e1:geI o.Mode 6=!ltI o.Mode 6:=by
  cases h:ltI o.Mode 6
  ·rw[pA]at h;exact J5.2 h
  ·rw[eK]at h;exact aFV.2 h
 have e2:dC o.Reg 0=!eqI o.Reg 0:=rfl;unfold a0Q opB;simp only[aB,aJ,aA,uL,uM,(OE _).1,(OE _).2,(XX _).1,(XX _).2,e1,e2,Bool.and_true,Bool.true_or,true_and];cases cI o.Mode 0 7<;>cases cI o.Reg 0 3<;>cases eqI o.Reg 0<;>cases ltI o.Mode 6<;>cases cI o.Ext 0 65535<;>cases geI o.Mode 5<;>simp
theorem b5R(o:aG):bLY o=true∧bLX o=opB o:=by
 refine aK (t:=a23 o) (P:=fun r=>r=opB o) ?_
 have e2:dC o.Ext 0=!eqI o.Ext 0:=rfl;unfold a23 opB;simp only[aB,aJ,aA,aJ2,lS,lT,(bIJ _).1,(bIJ _).2,(XY _).1,(XY _).2,e2,Bool.and_true,Bool.true_or,true_and];cases hm:cI o.Mode 0 7
 ·simp
 ·rw[aNF hm];cases cI o.Reg 0 3<;>cases eqI o.Reg 0<;>cases ltI o.Mode 6<;>cases cI o.Ext 0 65535<;>cases geI o.Mode 5<;>cases eqI o.Ext 0<;>simp
def aFY(m:Int):Bool:=cI m 2 6
def aDF(m:Int):Bool:=bif eqI m 0 then true else aFY m
def uN(m:Int):Bool:=bif (bif eqI m 2 then true else eqI m 5)then true else eqI m 6
def UI(o:aG):Bool:=bif eqI o.Mode 7 then leI o.Ext 1023 else false
def UJ(o:aG):Bool:=eqI o.Mode 0&&(eqI o.Reg 0&&eqI o.Ext 0)
theorem bIM(m:Int):bJ4 m=true∧bJ3 m=aFY m:=by
 refine aK (t:=a0R m) (P:=fun r=>r=aFY m) ?_
 unfold a0R aFY;simp only[aB,aA,uL,uM,Bool.and_true,true_and]
theorem bIN(m:Int):bL0 m=true∧bLZ m=aFY m:=by
 refine aK (t:=a24 m) (P:=fun r=>r=aFY m) ?_
 unfold a24 aFY;simp only[aB,aA,lS,lT,Bool.and_true,true_and]
theorem bIO(m:Int):bDV m=true∧bDU m=aDF m:=by
 refine aK (t:=a25 m) (P:=fun r=>r=aDF m) ?_
 unfold a25 aDF;simp only[aB,aA,(bIN _).1,(bIN _).2,Bool.true_or,Bool.and_true,true_and]
theorem aTM(m:Int):bBC m=true∧bBB m=uN m:=by
 refine aK (t:=a0S m) (P:=fun r=>r=uN m) ?_
 unfold a0S uN;simp only[aB,aA,true_and]
theorem aTN(m:Int):bDX m=true∧bDW m=uN m:=by
 refine aK (t:=a26 m) (P:=fun r=>r=uN m) ?_
 unfold a26 uN;simp only[aB,aA,true_and]
theorem bIP(o:aG):bBE o=true∧bBD o=UI o:=by
 refine aK (t:=a0T o) (P:=fun r=>r=UI o) ?_
 unfold a0T UI;simp only[aB,aA,true_and]
theorem aTO(o:aG):bDZ o=true∧bDY o=UI o:=by
 refine aK (t:=a27 o) (P:=fun r=>r=UI o) ?_
 unfold a27 UI;simp only[aB,aA,true_and]
theorem a8F(o:aG):bBG o=true∧bBF o=UJ o:=by
 refine aK (t:=a0U o) (P:=fun r=>r=UJ o) ?_
 unfold a0U UJ;simp only[aB,aA,Bool.and_true,true_and]
def J9(x:aQ):Bool:=bif (bif dC x.Size 2 then true else kU x.Sub 6)then false else bif eqI x.Sub 3 then(bif eqI x.Reg 0 then UI x.Ea else false)else bif (bif ltI x.Sub 3 then dC x.Reg 0 else false)then false else UJ x.Ea
theorem a8G(x:aQ):bL2 x=true∧bL1 x=J9 x:=by
 refine aK (t:=a28 x) (P:=fun r=>r=J9 x) ?_
 unfold a28 J9;simp only[aB,aJ,aA,(aTO _).1,(aTO _).2,Bool.true_or,Bool.and_true,true_and];refine⟨fun h=>by rw[h];rfl,fun h=>⟨fun k=>by rw[h,k];rfl,fun k=>⟨fun m=>by rw[h,k,m];rfl,fun m=>by rw[h,k,m];rfl⟩⟩⟩
def kB(x:aQ):Bool:=
 bif (bif (eqI x.Op 1)then(eqI x.Op 1)else(bif (eqI x.Op 3)then(eqI x.Op 3)else(bif (eqI x.Op 4)then(eqI x.Op 4)else(bif (eqI x.Op 5)then(eqI x.Op 5)else(bif (eqI x.Op 6)then(eqI x.Op 6)else(bif (eqI x.Op 7)then(eqI x.Op 7)else(eqI x.Op 8)))))))then(bif eqI x.Sub 0 then(bif dC x.Ea.Mode 1 then true else eqI x.Size 2)else false)
 else bif eqI x.Op 2 then(bif eqI x.Sub 0 then aDF x.Ea.Mode else false)
 else bif eqI x.Op 9 then(bif eqI x.Size 2 then eqI x.Sub 0 else false)
 else bif eqI x.Op 10 then(bif (bif eqI x.Size 2 then eqI x.Sub 0 else false)then uN x.Ea.Mode else false)
 else bif eqI x.Op 11 then(bif (bif eqI x.Reg 0 then leI x.Sub 3 else false)then aDF x.Ea.Mode else false)
 else bif eqI x.Op 12 then eqI x.Ea.Mode 0
 else bif eqI x.Op 13 then(bif (bif eqI x.Size 2 then leI x.Reg 1 else false)then eqI x.Ea.Mode 7 else false)
 else bif eqI x.Op 14 then(bif (bif (bif eqI x.Size 2 then eqI x.Reg 0 else false)then leI x.Sub 1 else false)then uN x.Ea.Mode else false)
 else bif eqI x.Op 15 then J9 x
 else bif (bif eqI x.Op 16 then eqI x.Op 16 else eqI x.Op 17)then(bif (bif eqI x.Size 2 then eqI x.Sub 0 else false)then dC x.Ea.Mode 1 else false)
 else bif eqI x.Op 18 then(bif (bif !(eqI x.Size 2)then leI x.Sub 1 else false)then eqI x.Ea.Mode 0 else false)
 else bif eqI x.Op 19 then(bif eqI x.Size 2 then(bif (bif (bif eqI x.Sub 0 then eqI x.Reg 0 else false)then UI x.Ea else false)then true else(bif eqI x.Sub 1 then UJ x.Ea else false))else false)
 else false
theorem b5S(x:aQ):bL4 x=true∧bL3 x=kB x:=by
 refine aK (t:=a29 x) (P:=fun r=>r=kB x) ?_
 unfold a29;simp only[aB,aJ,aA,aJ5,aJ4,aJ3,SN,(bIO _).1,(bIO _).2,(aTN _).1,(aTN _).2,(aTO _).1,(aTO _).2,(a8G _).1,(a8G _).2,Bool.true_or,Bool.and_true,true_and];unfold kB;refine⟨fun h=>by rw[h];rfl,fun h1=>?_⟩
 rw[h1];refine⟨fun h=>by rw[h];rfl,fun h1=>?_⟩
 rw[h1];refine⟨fun h=>by rw[h];rfl,fun h1=>?_⟩
 rw[h1];refine⟨fun h=>by rw[h];rfl,fun h1=>?_⟩
 rw[h1];refine⟨fun h=>by rw[h];rfl,fun h1=>?_⟩
 rw[h1];refine⟨fun h=>by rw[h];rfl,fun h1=>?_⟩
 rw[h1];refine⟨fun h=>by rw[h];rfl,fun h1=>?_⟩
 rw[h1];refine⟨fun h=>by rw[h];rfl,fun h1=>?_⟩
 rw[h1];refine⟨fun h=>by rw[h];rfl,fun h1=>?_⟩
 rw[h1];refine⟨fun h=>by rw[h];rfl,fun h1=>?_⟩
 rw[h1];refine⟨fun h=>by rw[h];rfl,fun h1=>?_⟩
 rw[h1];refine⟨fun h=>by rw[h];rfl,fun h1=>?_⟩
 rw[h1];rfl
end Go.Proofs.YtdipcnijfkdnfaaGreatIrqs

namespace Go.Proofs.YtdipcnijfkdnfaaGreatIrqs
open Go Go.Zq
set_option maxHeartbeats 4000000
set_option maxRecDepth 100000
def KA(x:aQ):Bool:=bif (bif eqI x.Ea.Mode 7 then eqI x.Size 1 else false)then kU x.Ea.Ext 255 else false
def kZ(x:aQ):Bool:=wV x.Size&&(cI x.Reg 0 3&&(opB x.Ea&&(cI x.Sub 0 7&&(!KA x&&kB x))))
theorem a8H(x:aQ):a3C x=true∧a3B x=kZ x:=by
 refine aK (t:=a3A x) (P:=fun r=>r=kZ x) ?_
 unfold a3A kZ KA;simp only[aB,aA,aJ8,aJ7,aJ6,lS,lT,(bIL _).1,(bIL _).2,(b5R _).1,(b5R _).2,(b5S _).1,(b5S _).2,Bool.true_or,Bool.and_true,true_and];cases wV x.Size<;>cases cI x.Reg 0 3<;>cases opB x.Ea<;>cases cI x.Sub 0 7<;>cases(bif (bif eqI x.Ea.Mode 7 then eqI x.Size 1 else false)then kU x.Ea.Ext 255 else false)<;>rfl
theorem bIQ(x:aQ)(h:x.Op=15):kB x=J9 x:=by
 unfold kB;rw[h];rfl
theorem UK(x:aQ):tA x=true∧sZ x=kZ x:=by
 refine aK (t:=a0V x) (P:=fun r=>r=kZ x) ?_
 unfold a0V;simp only[aB,aJ,aA,Y8,aIK,aIJ,aII,Y7,aIH,RD,aIG,aIF,aIE,aID,uL,uM,(bIK _).1,(bIK _).2,(b5Q _).1,(b5Q _).2,(bIM _).1,(bIM _).2,(aTM _).1,(aTM _).2,(bIP _).1,(bIP _).2,(a8F _).1,(a8F _).2,Bool.true_or,Bool.and_true,true_and];have e:kZ x=bif (bif (bif (bif (bif !wV x.Size then true else !cI x.Reg 0 3)then true else !opB x.Ea)then true else !cI x.Sub 0 7)then true else KA x)then false else kB x:=by
  unfold kZ;cases wV x.Size<;>cases cI x.Reg 0 3<;>cases opB x.Ea<;>cases cI x.Sub 0 7<;>cases KA x<;>rfl
 rw[e];refine⟨fun h=>?_,fun h=>?_⟩
 ·have h':(bif (bif (bif (bif (bif !wV x.Size then true else !cI x.Reg 0 3)then true else !opB x.Ea)then true else !cI x.Sub 0 7)then true else KA x)then false else kB x)=false:=by
   have:(bif (bif (bif (bif !wV x.Size then true else !cI x.Reg 0 3)then true else !opB x.Ea)then true else !cI x.Sub 0 7)then true else KA x)=true:=h
   rw[this];rfl
  exact h'.symm
 ·have h':(bif (bif (bif (bif (bif !wV x.Size then true else !cI x.Reg 0 3)then true else !opB x.Ea)then true else !cI x.Sub 0 7)then true else KA x)then false else kB x)=kB x:=by
   have:(bif (bif (bif (bif !wV x.Size then true else !cI x.Reg 0 3)then true else !opB x.Ea)then true else !cI x.Sub 0 7)then true else KA x)=false:=h
   rw[this];rfl
  rw[h'];by_cases h15:x.Op=15
  ·rw[bIQ x h15];unfold J9;rw[h15];simp only[show eqI 15 1=false from rfl,show eqI 15 2=false from rfl,show eqI 15 3=false from rfl,show eqI 15 4=false from rfl,show eqI 15 5=false from rfl,show eqI 15 6=false from rfl,show eqI 15 7=false from rfl,show eqI 15 8=false from rfl,show eqI 15 9=false from rfl,show eqI 15 10=false from rfl,show eqI 15 11=false from rfl,show eqI 15 12=false from rfl,show eqI 15 13=false from rfl,show eqI 15 14=false from rfl,show eqI 15 15=true from rfl,show eqI 15 16=false from rfl,show eqI 15 17=false from rfl,show eqI 15 18=false from rfl,show eqI 15 19=false from rfl,cond_false,Bool.false_eq_true,Bool.true_eq_false,false_implies,forall_const,true_and,and_true]
   have e6:kU x.Sub 6=!leI x.Sub 6:=by
    cases hh:leI x.Sub 6
    ·rw[aFU]at hh;exact rB.2 hh
    ·rw[mY]at hh;exact FS.2 hh
   have e2:dC x.Size 2=!eqI x.Size 2:=rfl;have e0:dC x.Reg 0=!eqI x.Reg 0:=rfl;refine⟨fun h3=>?_,fun h3=>?_⟩
   ·have l6:leI x.Sub 6=true:=by rw[dS]at h3;rw[mY];omega
    rw[h3,e6,l6,e2];cases eqI x.Size 2<;>cases eqI x.Reg 0<;>rfl
   ·rw[h3,e6,e2,e0];have e3:kU x.Sub 3=!ltI x.Sub 3:=by
     rw[gT]at h3;cases hh:ltI x.Sub 3
     ·rw[pA]at hh;exact rB.2 (by omega)
     ·rw[eK]at hh;exact FS.2 (by omega)
    rw[e3];cases eqI x.Size 2<;>cases leI x.Sub 6<;>cases eqI x.Reg 0<;>cases ltI x.Sub 3<;>cases UJ x.Ea<;>rfl
  ·have n15:eqI x.Op 15=false:=by rw[gT];exact h15
   have cm:(bif dC x.Ea.Mode 1 then true else eqI x.Size 2)=bif eqI x.Size 2 then true else dC x.Ea.Mode 1:=by
    cases dC x.Ea.Mode 1<;>cases eqI x.Size 2<;>rfl
   unfold kB;rw[n15,cm];refine⟨fun h=>by rw[h];rfl,fun h1=>?_⟩
   rw[h1];refine⟨fun h=>by rw[h];rfl,fun h1=>?_⟩
   rw[h1];refine⟨fun h=>by rw[h];rfl,fun h1=>?_⟩
   rw[h1];refine⟨fun h=>by rw[h];rfl,fun h1=>?_⟩
   rw[h1];refine⟨fun h=>by rw[h];rfl,fun h1=>?_⟩
   rw[h1];refine⟨fun h=>by rw[h];rfl,fun h1=>?_⟩
   rw[h1];refine⟨fun h=>by rw[h];rfl,fun h1=>?_⟩
   rw[h1];refine⟨fun h=>by rw[h];rfl,fun h1=>?_⟩
   rw[h1];refine⟨fun h=>by rw[h];rfl,fun h1=>?_⟩
   rw[h1];refine⟨fun h=>by rw[h];rfl,fun h1=>?_⟩
   rw[h1];refine⟨fun h=>by rw[h];rfl,fun h1=>?_⟩
   rw[h1];simp only[Bool.false_eq_true,false_implies,forall_const,true_and];rfl
structure Rng(x:aQ):Prop where
 o:1≤x.Op∧x.Op≤19
 s:1≤x.Size∧x.Size≤2
 r:0≤x.Reg∧x.Reg≤3
 m:0≤x.Ea.Mode∧x.Ea.Mode≤7
 e:0≤x.Ea.Reg∧x.Ea.Reg≤3
 b:0≤x.Sub∧x.Sub≤7
 xt:0≤x.Ea.Ext∧x.Ea.Ext≤65535
 z:geI x.Ea.Mode 5=false→x.Ea.Ext=0
theorem rng{x:aQ}(h:kZ x=true):Rng x:=by
 unfold kZ opB wV at h;simp only[Bool.and_eq_true,aR]at h;obtain⟨h1,h2,⟨h3,h4,-,h5,h6⟩,h7,-,h8⟩:=h;refine⟨?_,?_,h2,h3,h4,h7,h5,fun hm=>?_⟩
 ·refine Classical.byContradiction fun hn=>?_
  have z: ∀i:Int,1≤i→i≤19→eqI x.Op i=false:=fun i h1 h2=>by rw[gT];intro e;exact hn (by omega)
  unfold kB at h8;simp only[z 1 (by decide) (by decide),z 2 (by decide) (by decide),z 3 (by decide) (by decide),z 4 (by decide) (by decide),z 5 (by decide) (by decide),z 6 (by decide) (by decide),z 7 (by decide) (by decide),z 8 (by decide) (by decide),z 9 (by decide) (by decide),z 10 (by decide) (by decide),z 11 (by decide) (by decide),z 12 (by decide) (by decide),z 13 (by decide) (by decide),z 14 (by decide) (by decide),z 15 (by decide) (by decide),z 16 (by decide) (by decide),z 17 (by decide) (by decide),z 18 (by decide) (by decide),z 19 (by decide) (by decide),cond_false,Bool.false_eq_true]at h8
 ·cases e:eqI x.Size 1
  ·rw[e,cond_false,dS]at h1;omega
  ·rw[dS]at e;omega
 ·rw[hm]at h6;simpa using h6
def W(x:aQ):Int:=x.Op*2048+(x.Size-1)*1024+x.Reg*256+x.Ea.Mode*32+x.Ea.Reg*8+x.Sub
def BH(x:aQ):List Int:=bif geI x.Ea.Mode 5 then [W x,x.Ea.Ext]else [W x]
theorem W_i{x:aQ}(h:Rng x):bE (bE (bE (bE (bE (dH x.Op 2048) (dH (cN x.Size 1) 1024)) (dH x.Reg 256)) (dH x.Ea.Mode 32)) (dH x.Ea.Reg 8)) x.Sub=W x:=by
 obtain⟨h1,h2,h3,h4,h5,h6,-,-⟩:=h;unfold W;rw[hJ (x:=x.Op) (by omega),eV (by omega),hJ (x:=x.Size-1) (by omega),hJ (x:=x.Reg) (by omega),hJ (x:=x.Ea.Mode) (by omega),hJ (x:=x.Ea.Reg) (by omega),bV (x:=x.Op*2048) (by omega),bV (x:=x.Op*2048+(x.Size-1)*1024) (by omega),bV (x:=x.Op*2048+(x.Size-1)*1024+x.Reg*256) (by omega),bV (x:=x.Op*2048+(x.Size-1)*1024+x.Reg*256+x.Ea.Mode*32) (by omega),bV (by omega)]
def KB(w:Int):Bool:=geI (w/32%8) 5
def p9(w:Int):Int:=bif KB w then 2 else 1
def wW(w e:Int):aQ:=⟨w/2048,w/1024%2+1,w/256%4,⟨w/32%8,w/8%4,bif KB w then e else 0⟩,w%8⟩
theorem bGL(w:Int):eZ w 11=w/2048∧bE (bH (eZ w 10) 1) 1=w/1024%2+1∧bH (eZ w 8) 3=w/256%4∧bH (eZ w 5) 7=w/32%8∧bH (eZ w 3) 3=w/8%4∧bH w 7=w%8:=by
 refine⟨kQ (n:=11) 11 rfl (by omega),?_,?_,?_,?_,?_⟩
 ·rw[kQ (n:=10) 10 rfl (by omega),i6 1 1 (by omega) rfl,bV (by omega)];rfl
 ·rw[kQ (n:=8) 8 rfl (by omega),i6 2 3 (by omega) rfl];rfl
 ·rw[kQ (n:=5) 5 rfl (by omega),i6 3 7 (by omega) rfl];rfl
 ·rw[kQ (n:=3) 3 rfl (by omega),i6 2 3 (by omega) rfl];rfl
 ·rw[i6 3 7 (by omega) rfl];rfl
theorem uO(w:Int):a21 w=true∧aWB w=p9 w:=by
 refine aK (t:=a20 w) (P:=fun r=>r=p9 w) ?_
 have f: ∀b,yG b 1=true∧yF b 1=bif b then 1 else 0:=fun b=>by
  refine aK (t:=aAR b 1) (P:=fun r=>r=bif b then 1 else 0) ?_
  unfold aAR;simp only[aB,aJ,aA,true_and];exact⟨fun h=>by rw[h];rfl,fun h=>by rw[h];rfl⟩
 unfold a20;simp only[aB,aA,aJ1,(bGL w).2.2.2.1,(XY _).1,(XY _).2,(f _).1,(f _).2,Bool.and_true,true_and];rw[aNF (by rw[aR];omega)]
 unfold p9 KB;cases geI (w/32%8) 5<;>decide
theorem aDG(w:Int):bFK w=true∧aW8 w=p9 w:=by
 refine aK (t:=a57 w) (P:=fun r=>r=p9 w) ?_
 unfold a57 p9 KB;simp only[aB,aJ,aA,(bGL w).2.2.2.1,(XX _).1,(XX _).2,Bool.and_true,true_and];exact⟨fun h=>by rw[h];rfl,fun h=>by rw[h];rfl⟩
theorem aFZ{w:Int}:eqI (p9 w) 2=KB w:=by
 unfold p9;cases KB w<;>rfl
theorem DS(w e:Int):bDS w e=true∧aWC w e=wW w e:=by
 refine aK (t:=a22 w e) (P:=fun r=>r=wW w e) ?_
 obtain⟨f1,f2,f3,f4,f5,f6⟩:=bGL w;unfold a22 wW;simp only[aB,aJ,aA,(uO _).1,(uO _).2,aFZ,f1,f2,f3,f4,f5,f6,Bool.and_true,true_and];exact⟨fun h=>by rw[h];rfl,fun h=>by rw[h];rfl⟩
theorem a8I(w e:Int):bFL w e=true∧aW9 w e=wW w e:=by
 refine aK (t:=a58 w e) (P:=fun r=>r=wW w e) ?_
 obtain⟨f1,f2,f3,f4,f5,f6⟩:=bGL w;unfold a58 wW;simp only[aB,aJ,aA,(aDG _).1,(aDG _).2,aFZ,f1,f2,f3,f4,f5,f6,Bool.and_true,true_and];exact⟨fun h=>by rw[h];rfl,fun h=>by rw[h];rfl⟩
end Go.Proofs.YtdipcnijfkdnfaaGreatIrqs

namespace Go.Proofs.YtdipcnijfkdnfaaGreatIrqs
open Go Go.Zq
set_option maxHeartbeats 4000000
set_option maxRecDepth 100000
structure RM where
 mk::
 (d a:List Int)
 (oth pc fl mask:Int)
 (sup tr:Bool)
def RM.g(r:RM):aH:=⟨ri r.d,ri r.a,r.oth,r.pc,r.fl,r.mask,r.sup,r.tr⟩
def hX(t:Int)(l:List Int):Bool:=l.all fun z=>cI z 0 t
structure RM.Ok(t:Int)(r:RM):Prop where
 t0:65535≤t
 t1:t≤65536
 d4:r.d.length=4
 a4:r.a.length=4
 dw:hX t r.d=true
 aw:hX 65535 r.a=true
 ow:cI r.oth 0 65535=true
 pw:cI r.pc 0 65535=true
 fw:cI r.fl 0 31=true
 mw:cI r.mask 0 (t-65528)=true
def cX(l:List Int)(i:Int):Int:=l.getD i.toNat 0
theorem jQ{l:List Int}{i:Int}(hl:l.length=4)(hi:cI i 0 3=true):hZ [.int .i64] (ri l) i=true∧bQ (ri l) i.toNat 0=cX l i∧i.toNat<l.length:=by
 rw[aR]at hi;obtain⟨n,rfl⟩:=Int.eq_ofNat_of_zero_le hi.1;have hn:n<l.length:=by omega
 rw[Int.toNat_natCast];refine⟨uK hn,?_,hn⟩;rw[oZ hn,cX,Int.toNat_natCast,sP hn]
theorem nU{t:Int}{l:List Int}{i:Int}(h:hX t l=true)(hl:l.length=4)(hi:cI i 0 3=true):0≤cX l i∧cX l i≤t:=by
 obtain⟨-,-,hn⟩:=jQ hl hi;have:=List.all_eq_true.1 h _ (List.getElem_mem hn);rw[aR]at this;rw[cX,sP hn];exact this
theorem sG{t:Int}{l:List Int}{i:Nat}{v:Int}(h:hX t l=true)(h0:0≤v)(h1:v≤t):hX t (l.set i v)=true:=by
 unfold hX;rw[List.all_eq_true]at*;intro z hz;rcases List.mem_or_eq_of_mem_set hz with hz|rfl
 ·exact List.all_eq_true.1 h z hz
 ·exact aR.2 ⟨h0,h1⟩
theorem f9{l:List Int}{i:Int}{v:Int}(hl:l.length=4)(hi:cI i 0 3=true):blt (0+i.toNat) l.length=true∧jW (jX (ri l) (0+i.toNat)) 1=true∧leI 0 i=true∧ltI i (l.length:Int)=true∧dU [.int .i64] (ri l) (0+i.toNat) 0=true:=by
 obtain⟨-,-,hn⟩:=jQ hl hi;rw[aR]at hi;rw[Nat.zero_add];refine⟨by simpa using hn,by rw[xV hn];rfl,by simp;omega,by simp;omega,EN ⟨l,rfl⟩ (by rw[bI];exact hn)⟩
structure MM where
 mk::
 (r:RM)
 (zs:List Int)
 (l:List aE)
 (stop:Bool)
 (f:aL)
def qF(zs:List Int)(l:List aE):bM:=⟨ri zs,l.map aE.row⟩
def MM.g(m:MM):aS:=⟨m.r.g,qF m.zs m.l,m.stop,m.f⟩
structure BusOk(zs:List Int)(l:List aE):Prop where
 hz:zs.length=512
 hb:dI zs=true
 hl:l.length≤400
 ha:l.all accB=true
structure MM.Ok(t:Int)(m:MM):Prop where
 r:m.r.Ok t
 b:BusOk m.zs m.l
def cG(m:MM):Bool:=eqI m.f.Vector 0
def cS(m:MM)(k s a v:Int):MM×Int:=({m with zs:=tB k s a v m.zs,l:=tL k s a v m.zs m.l,f:=bif dC (cY k s a) 0&&eqI m.f.Vector 0 then{m.f with Vector:=bif eqI (cY k s a) 2 then 3 else 2,Addr:=a,Write:=eqI k 2}else m.f},tV k s a v m.zs)
def dZ(m:MM)(v:Int):MM:=
 bif cG (cS m 2 2 ((cX m.r.a 3-2)%65536) v).1 then{(cS m 2 2 ((cX m.r.a 3-2)%65536) v).1 with r:={m.r with a:=m.r.a.set 3 ((cX m.r.a 3-2)%65536)}}else(cS m 2 2 ((cX m.r.a 3-2)%65536) v).1
def dM(m:MM):MM×Int:=
 (bif cG (cS m 1 2 (cX m.r.a 3) 0).1 then{(cS m 1 2 (cX m.r.a 3) 0).1 with r:={m.r with a:=m.r.a.set 3 ((cX m.r.a 3+2)%65536)}}else(cS m 1 2 (cX m.r.a 3) 0).1,(cS m 1 2 (cX m.r.a 3) 0).2)
def XZ(s k:Int):Int:=bif eqI s 1&&dC k 3 then 1 else 2
def bW(r:RM)(s:Int)(o:aG):RM×Int:=
 bif eqI o.Mode 3 then({r with a:=r.a.set o.Reg.toNat ((cX r.a o.Reg+XZ s o.Reg)%65536)},cX r.a o.Reg)
 else bif eqI o.Mode 4 then({r with a:=r.a.set o.Reg.toNat ((cX r.a o.Reg-XZ s o.Reg)%65536)},(cX r.a o.Reg-XZ s o.Reg)%65536)
 else bif eqI o.Mode 5 then(r,(cX r.a o.Reg+o.Ext)%65536)
 else bif eqI o.Mode 6 then(r,o.Ext)else(r,cX r.a o.Reg)
def zB(r:RM)(s k v:Int):RM:={r with d:=r.d.set k.toNat (bif eqI s 1 then cX r.d k%65536/256*256+v else v)}
def fJ(r:RM):Int:=r.fl+32*r.mask+(bif r.sup then 256 else 0)+(bif r.tr then 512 else 0)
def dN(r:RM)(v:Int):RM:=
 bif vG (eqI (v/256%2) 1) r.sup then⟨r.d,r.a,r.oth,r.pc,v%32,v/32%8,r.sup,eqI (v/512%2) 1⟩
 else⟨r.d,r.a.set 3 r.oth,cX r.a 3,r.pc,v%32,v/32%8,!r.sup,eqI (v/512%2) 1⟩
def dT(m:MM)(s:Int)(o:aG):MM×Int×Int:=
 bif eqI o.Mode 0 then(m,cX m.r.d o.Reg%cD s,0)
 else bif eqI o.Mode 1 then(m,cX m.r.a o.Reg,0)
 else bif eqI o.Mode 7 then(m,o.Ext,0)
 else((cS {m with r:=(bW m.r s o).1} 1 s (bW m.r s o).2 0).1,(cS {m with r:=(bW m.r s o).1} 1 s (bW m.r s o).2 0).2,(bW m.r s o).2)
end Go.Proofs.YtdipcnijfkdnfaaGreatIrqs

namespace Go.Proofs.YtdipcnijfkdnfaaGreatIrqs
open Go Go.Zq
set_option maxHeartbeats 4000000
set_option maxRecDepth 100000
@[simp] theorem eQ(m:MM):m.g.fr=m.r.g:=rfl
@[simp] theorem cJ(m:MM):m.g.fbus=qF m.zs m.l:=rfl
@[simp] theorem cC(m:MM):m.g.fstop=m.stop:=rfl
@[simp] theorem bT(m:MM):m.g.ffault=m.f:=rfl
@[simp] theorem eS(r:RM):r.g.D=ri r.d:=rfl
@[simp] theorem eT(r:RM):r.g.A=ri r.a:=rfl
@[simp] theorem aW(r:RM):r.g.Other=r.oth:=rfl
@[simp] theorem cM(r:RM):r.g.PC=r.pc:=rfl
@[simp] theorem aV(r:RM):r.g.Flags=r.fl:=rfl
@[simp] theorem bL(r:RM):r.g.Mask=r.mask:=rfl
@[simp] theorem aU(r:RM):r.g.Super=r.sup:=rfl
@[simp] theorem aT(r:RM):r.g.Trace=r.tr:=rfl
@[simp] theorem UL(zs:List Int)(l:List aE):(qF zs l).Bytes=ri zs:=rfl
@[simp] theorem UM(zs:List Int)(l:List aE):(qF zs l).Log=l.map aE.row:=rfl
def aXL(c:aI):Prop:=c.R.D.length≤2000∧c.R.A.length≤2000∧c.Bus.Bytes.length≤2000∧c.Bus.Log.length≤2000
theorem a8J{r:aH}(h1:r.D.length≤2000)(h2:r.A.length≤2000):aLM r=true∧sA r=r:=by
 refine aK (t:=a49 r) (P:=fun q=>q=r) ?_
 obtain⟨a1,a2,a3,a4,a5,a6,a7,a8,a9⟩:=FT h1;obtain⟨b1,b2,b3,b4,b5,b6,b7,b8,b9⟩:=FT h2;unfold a49;simp only[aB,aA,aD,bP,wz,bO,cU,bG,cV,Bool.and_true,true_and,(OD).1,(OD).2,a1,a3,a4,a6,b1,b3,b4,b6]
theorem bP9{b:bM}(h1:b.Bytes.length≤2000)(h2:b.Log.length≤2000):bNV b=true∧bE3 b=b:=by
 refine aK (t:=a5F b) (P:=fun r=>r=b) ?_
 obtain⟨a1,a2,a3,a4,a5,a6,a7,a8,a9⟩:=FT h1;obtain⟨b1,b2,b3,b4,b5,b6,b7,b8,b9⟩:=FT h2;unfold a5F;simp only[aB,aA,a5E,a5D,a5C,a5B,a5A,eP,aD,bP,wz,bO,cU,bG,cV,Bool.and_true,true_and,(OD).1,(OD).2,a1,a4,a6,b2,b5,b6]
theorem aNG{c:aI}(h:aXL c):a5I c=true∧TM c=c:=by
 refine aK (t:=a5H c) (P:=fun r=>r=c) ?_
 obtain⟨h1,h2,h3,h4⟩:=h;unfold a5H;simp only[aB,aA,aLN,a8J h1 h2,bP9 h3 h4,aD,bP,wz,Bool.and_true,true_and]
theorem bGM{c:aI}(h:aXL c):k78 c=true∧i5 c=⟨c.R,c.Bus,c.Stop,⟨0,0,0,0,false⟩⟩:=by
 refine aK (t:=T78 c) (P:=fun r=>r=⟨c.R,c.Bus,c.Stop,⟨0,0,0,0,false⟩⟩) ?_
 unfold T78;simp only[aB,aA,aNG h,aD,bP,wz,Bool.and_true,true_and]
theorem b5T{m:aS}(h:aXL ⟨m.fr,m.fbus,m.fstop,false⟩):k80 m=true∧FP m=⟨m.fr,m.fbus,m.fstop,false⟩:=by
 refine aK (t:=T80 m) (P:=fun r=>r=⟨m.fr,m.fbus,m.fstop,false⟩) ?_
 unfold T80;simp only[aB,aA,aR7,aNG h,aD,bP,wz,Bool.and_true,true_and]
@[simp] theorem eH(m:aS):OU m=true∧J0 m=eqI m.ffault.Vector 0:=by
  refine aK (t:=T81 m) (P:=fun r=>r=eqI m.ffault.Vector 0) ?_
  unfold T81;simp only[aB,aA,aD,bP,wz,Bool.and_true,true_and]
theorem tH(v:Int):bH v 65535=v%65536:=i6 16 _ (by omega) (by decide)
theorem b5U(v:Int):0≤v%65536∧v%65536≤65535:=by omega
structure AccOk(s v a:Int)(m:MM):Prop where
 hs:s=1∨s=2
 hv:dK s v=true
 ha:cI a 0 65535=true
theorem AccOk.t{s v a t:Int}{m:MM}(h:AccOk s v a m)(hm:m.Ok t):TouchOk s v m.zs m.l:=⟨h.hs,h.hv,hm.b.hz,hm.b.hb,hm.b.hl⟩
theorem KC{s:Int}(h:s=1∨s=2):dK s 0=true:=by rcases h with rfl|rfl<;>decide
theorem UN{k s a v t:Int}{m:MM}(hm:m.Ok t)(h:AccOk s v a m):aCG k s a v m.g=true∧wI k s a v m.g=((cS m k s a v).1.g,(cS m k s a v).2):=by
 refine aK (t:=a5W k s a v m.g) (P:=fun r=>r=((cS m k s a v).1.g,(cS m k s a v).2)) ?_
 obtain⟨a1,a2⟩:=bGJ (k:=k) (h.t hm) h.ha;have a1':bFD k s a v (qF m.zs m.l)=true:=a1;have a2':bFC k s a v (qF m.zs m.l)=(qF (tB k s a v m.zs) (tL k s a v m.zs m.l),tV k s a v m.zs,cY k s a):=a2;unfold a5W;simp only[aB,aJ,aA,aCF,aLU,yO,eQ,cJ,cC,bT,a1',a2',aD,bP,wz,Bool.and_true,true_and];unfold cS;have e: ∀a b:Bool,(bif a then b else false)=(a&&b):=fun a b=>by cases a<;>rfl
 rw[e];cases dC (cY k s a) 0&&eqI m.f.Vector 0
 ·refine⟨fun q=>absurd q (by decide),fun _=>?_⟩
  rfl
 ·refine⟨fun _=>?_,fun q=>absurd q (by decide)⟩
  cases eqI (cY k s a) 2
  ·exact⟨fun q=>absurd q (by decide),fun _=>rfl⟩
  ·exact⟨fun _=>rfl,fun q=>absurd q (by decide)⟩
theorem NC{zs:List Int}{i:Nat}{x:Int}(h:dI zs=true)(hx:cI x 0 255=true):dI (zs.set i x)=true:=by
 unfold dI;rw[List.all_eq_true]at*;intro z hz;rcases List.mem_or_eq_of_mem_set hz with hz|rfl
 ·exact List.all_eq_true.1 h z hz
 ·exact hx
theorem a8K{k s a v:Int}{zs:List Int}{l:List aE}(h:TouchOk s v zs l):dI (tB k s a v zs)=true:=by
 obtain⟨v0,v1,v2⟩:=O8 h.hs h.hv;unfold tB;cases eqI (cY k s a) 0&&eqI k 2
 ·exact h.hb
 ·rw[cond_true];rcases h.hs with rfl|rfl
  ·exact NC h.hb (by rw[show eqI 1 1=true from rfl,cond_true,aR];omega)
  ·exact NC (NC h.hb (by rw[aR];omega)) (by rw[aR];omega)
theorem bQA{s v:Int}{a:Nat}{zs:List Int}{l:List aE}(h:TouchOk s v zs l):dK s (rkq a zs s.toNat)=true:=by
 have get: ∀i,0≤zs.getD i 0∧zs.getD i 0<256:=fun i=>by
  by_cases hi:i<zs.length
  ·rw[sP hi];exact J8 h.hb hi
  ·simp[List.getD_eq_getElem?_getD,List.getElem?_eq_none (by omega:zs.length≤i)]
 have g1:=get a;have g2:=get (a+1);rcases h.hs with rfl|rfl
 ·show dK 1 (zs.getD a 0)=true
  unfold dK;rw[show eqI 1 1=true from rfl,cond_true,aR];omega
 ·show dK 2 (zs.getD a 0*256+zs.getD (a+1) 0)=true
  unfold dK;rw[show eqI 2 1=false from rfl,show eqI 2 2=true from rfl,cond_false,cond_true,aR];omega
end Go.Proofs.YtdipcnijfkdnfaaGreatIrqs

namespace Go.Proofs.YtdipcnijfkdnfaaGreatIrqs
open Go Go.Zq
set_option maxHeartbeats 4000000
set_option maxRecDepth 100000
theorem a8L{k s a v:Int}{zs:List Int}{l:List aE}(h:TouchOk s v zs l):dK s (tV k s a v zs)=true:=by
 unfold tV;cases eqI k 2
 ·cases eqI (cY k s a) 0
  ·exact KC h.hs
  ·exact bQA h
 ·exact h.hv
theorem b5V{k s a v:Int}{zs:List Int}{l:List aE}(h:TouchOk s v zs l)(ha:cI a 0 65535=true)(hk:cI k 1 3=true)(hl:l.all accB=true):(tL k s a v zs l).length≤400∧(tL k s a v zs l).all accB=true:=by
 have h1:=h.hl;unfold tL;cases hc:ltI (l.length:Int) 400&&!(eqI k 3&&eqI (cY k s a) 0)
 ·exact⟨h1,hl⟩
 ·rw[Bool.and_eq_true,eK]at hc;rw[cond_true,List.length_append,List.all_append,hl];refine⟨by simp;omega,?_⟩
  simp only[List.all_cons,List.all_nil,Bool.and_true,Bool.true_and,accB,hk,ha,a8L h,a8B,hc.2]
theorem bQB(k s a v:Int)(zs:List Int):(tB k s a v zs).length=zs.length:=by
 unfold tB;cases eqI (cY k s a) 0&&eqI k 2
 ·rfl
 ·rw[cond_true]
  match s.toNat with
  |0=>rfl
  |1=>simp[wk]
  |n+2=>simp[wk]
theorem zD{k s a v t:Int}{m:MM}(hm:m.Ok t)(h:AccOk s v a m)(hk:cI k 1 3=true):(cS m k s a v).1.Ok t∧dK s (cS m k s a v).2=true:=by
 have hT:=h.t hm;obtain⟨l1,l2⟩:=b5V (k:=k) hT h.ha hk hm.b.ha;exact⟨⟨hm.r,⟨by show(tB k s a v m.zs).length=512;rw[bQB];exact hm.b.hz,a8K hT,l1,l2⟩⟩,a8L hT⟩
theorem cF{α:Type}{b:Bool}{x y:α}{P:α→Prop}(h1:b=true→P x)(h2:b=false→P y):P (bif b then x else y):=by
 cases b
 ·exact h2 rfl
 ·exact h1 rfl
theorem RM.Ok.setA{t v:Int}{r:RM}{i:Nat}(h:r.Ok t)(h0:0≤v)(h1:v≤65535):RM.Ok t {r with a:=r.a.set i v}:=⟨h.t0,h.t1,h.d4,by simpa using h.a4,h.dw,sG h.aw h0 h1,h.ow,h.pw,h.fw,h.mw⟩
theorem RM.Ok.setD{t v:Int}{r:RM}{i:Nat}(h:r.Ok t)(h0:0≤v)(h1:v≤t):RM.Ok t {r with d:=r.d.set i v}:=⟨h.t0,h.t1,by simpa using h.d4,h.a4,sG h.dw h0 h1,h.aw,h.ow,h.pw,h.fw,h.mw⟩
theorem RM.Ok.setP{t v:Int}{r:RM}(h:r.Ok t)(h1:cI v 0 65535=true):RM.Ok t {r with pc:=v}:=⟨h.t0,h.t1,h.d4,h.a4,h.dw,h.aw,h.ow,h1,h.fw,h.mw⟩
theorem RM.Ok.setF{t v:Int}{r:RM}(h:r.Ok t)(h1:cI v 0 31=true):RM.Ok t {r with fl:=v}:=⟨h.t0,h.t1,h.d4,h.a4,h.dw,h.aw,h.ow,h.pw,h1,h.mw⟩
theorem in3:cI 3 0 3=true:=by decide
theorem b5W:Int.toNat 3=3:=rfl
theorem aDH{t:Int}{r:RM}(h:r.Ok t):0≤cX r.a 3∧cX r.a 3≤65535:=nU h.aw h.a4 in3
theorem bQC{v:Int}(h0:0≤v)(h1:v≤65535):dK 2 v=true:=by
 unfold dK;rw[show eqI 2 1=false from rfl,show eqI 2 2=true from rfl,cond_false,cond_true,aR];omega
theorem rD{v:Int}(h:dK 2 v=true):0≤v∧v≤65535:=by
 unfold dK at h;rw[show eqI 2 1=false from rfl,show eqI 2 2=true from rfl,cond_false,cond_true,aR]at h;omega
theorem UO{t v:Int}{m:MM}(hm:m.Ok t)(h0:0≤v)(h1:v≤65535):AccOk 2 v ((cX m.r.a 3-2)%65536) m:=⟨Or.inr rfl,bQC h0 h1,aR.2 (by omega)⟩
theorem zV{t:Int}{r:RM}(h:r.Ok t):ltI 3 (r.a.length:Int)=true∧dU [.int .i64] (ri r.a) 3 0=true∧bQ (ri r.a) 3 0=cX r.a 3∧blt 3 r.a.length=true∧jW (jX (ri r.a) 3) 1=true∧bH (cN (cX r.a 3) 2) 65535=(cX r.a 3-2)%65536∧bH (bE (cX r.a 3) 2) 65535=(cX r.a 3+2)%65536:=by
 have h4:=h.a4;have hr:=aDH h;obtain⟨-,d2,d3⟩:=jQ h.a4 in3;obtain⟨s1,s2,s3,s4,s5⟩:=f9 (v:=0) h.a4 in3;rw[Nat.zero_add,b5W]at s1 s2 s5;refine⟨s4,s5,d2,s1,s2,?_,?_⟩
 ·rw[eV (by omega),tH]
 ·rw[bV (by omega),tH]
@[simp] theorem bIR(m:MM)(k s a v:Int):(cS m k s a v).1.r=m.r:=rfl
@[simp] theorem b5X(m:MM)(k s a v:Int):(cS m k s a v).1.stop=m.stop:=rfl
theorem a8M{v t:Int}{m:MM}(hm:m.Ok t)(h0:0≤v)(h1:v≤65535):k79 v m.g=true∧g79 v m.g=(dZ m v).g:=by
 refine aK (t:=T79 v m.g) (P:=fun r=>r=(dZ m v).g) ?_
 obtain⟨b1,b2,b3,b4,b5,b6,b7⟩:=zV hm.r;obtain⟨a1,a2⟩:=UN (k:=2) hm (UO hm h0 h1);unfold T79 dZ cG;simp only[aB,aJ,aA,a50,a5Z,bIC,aR6,a5Y,uT,eQ,cJ,bT,eS,eT,UL,UM,bA,bI,b1,b2,b3,b4,b5,b6,a1,a2,eH,bIR,aD,bP,wz,dX,List.length_set,List.length_map,Bool.and_true,true_and];refine⟨fun q=>?_,fun q=>?_⟩
 ·rw[q];rfl
 ·rw[q];rfl
theorem aTP{v t:Int}{m:MM}(hm:m.Ok t)(h0:0≤v)(h1:v≤65535):(dZ m v).Ok t:=by
 obtain⟨a1,-⟩:=zD (k:=2) hm (UO hm h0 h1) (by decide)
 unfold dZ;refine cF (P:=fun q=>MM.Ok t q) (fun _=>⟨hm.r.setA (by omega) (by omega),a1.b⟩) (fun _=>a1)
theorem aDI{t:Int}{m:MM}(hm:m.Ok t):AccOk 2 0 (cX m.r.a 3) m:=⟨Or.inr rfl,by decide,by have:=aDH hm.r;rw[aR];exact this⟩
theorem bIS{t:Int}{m:MM}(hm:m.Ok t):k85 m.g=true∧xD m.g=((dM m).1.g,(dM m).2):=by
 refine aK (t:=T85 m.g) (P:=fun r=>r=((dM m).1.g,(dM m).2)) ?_
 obtain⟨b1,b2,b3,b4,b5,b6,b7⟩:=zV hm.r;obtain⟨a1,a2⟩:=UN (k:=1) hm (aDI hm);unfold T85 dM cG;simp only[aB,aJ,aA,a6X,a6W,oQ,eQ,cJ,bT,eS,eT,UL,UM,bA,bI,b1,b2,b3,b4,b5,b7,a1,a2,eH,bIR,aD,bP,wz,dX,List.length_set,List.length_map,Bool.and_true,true_and];refine⟨fun q=>?_,fun q=>?_⟩
 ·rw[q];rfl
 ·rw[q];rfl
theorem IC{t:Int}{m:MM}(hm:m.Ok t):(dM m).1.Ok t∧0≤(dM m).2∧(dM m).2≤65535:=by
 obtain⟨a1,a2⟩:=zD (k:=1) hm (aDI hm) (by decide)
 refine⟨?_,rD a2⟩;unfold dM;refine cF (P:=fun q=>MM.Ok t q) (fun _=>⟨hm.r.setA (by omega) (by omega),a1.b⟩) (fun _=>a1)
end Go.Proofs.YtdipcnijfkdnfaaGreatIrqs

namespace Go.Proofs.YtdipcnijfkdnfaaGreatIrqs
open Go Go.Zq
set_option maxHeartbeats 4000000
set_option maxRecDepth 100000
theorem b5Y(s k:Int):bFN s k=true∧bFM s k=XZ s k:=by
 refine aK (t:=a6E s k) (P:=fun r=>r=XZ s k) ?_
 have e:(bif eqI s 1 then dC k 3 else false)=(eqI s 1&&dC k 3):=by cases eqI s 1<;>rfl
 unfold a6E XZ;simp only[aB,aJ,aA,e,true_and];exact⟨fun h=>by rw[h];rfl,fun h=>by rw[h];rfl⟩
theorem a8N(s k:Int):XZ s k=1∨XZ s k=2:=by
 unfold XZ;cases eqI s 1&&dC k 3
 ·exact Or.inr rfl
 ·exact Or.inl rfl
structure OpOk(o:aG):Prop where
 hm:cI o.Mode 0 7=true
 hr:cI o.Reg 0 3=true
 he:cI o.Ext 0 65535=true
theorem OpOk.of{o:aG}(h:opB o=true):OpOk o:=by
 unfold opB at h;simp only[Bool.and_eq_true]at h;exact⟨h.1,h.2.1,h.2.2.2.1⟩
theorem aTQ{t s:Int}{r:RM}{o:aG}(h:r.Ok t)(ho:OpOk o):bFO r.g s o=true∧BW r.g s o=((bW r s o).1.g,(bW r s o).2):=by
 refine aK (t:=a6F r.g s o) (P:=fun q=>q=((bW r s o).1.g,(bW r s o).2)) ?_
 obtain⟨d1,d2,d3⟩:=jQ h.a4 ho.hr;obtain⟨s1,s2,s3,s4,s5⟩:=f9 (v:=0) h.a4 ho.hr;rw[Nat.zero_add]at s1 s2 s5;obtain⟨q1,q2⟩:=nU h.aw h.a4 ho.hr;have hb:=a8N s o.Reg;have he:=aR.1 ho.he;have e1:bH (bE (cX r.a o.Reg) (XZ s o.Reg)) 65535=(cX r.a o.Reg+XZ s o.Reg)%65536:=by rw[bV (by omega),tH]
 have e2:bH (cN (cX r.a o.Reg) (XZ s o.Reg)) 65535=(cX r.a o.Reg-XZ s o.Reg)%65536:=by rw[eV (by omega),tH]
 have e3:bH (bE (cX r.a o.Reg) o.Ext) 65535=(cX r.a o.Reg+o.Ext)%65536:=by rw[bV (by omega),tH]
 unfold a6F bW;simp only[aB,aJ,aA,aL6,aL5,aL4,aL3,aL2,aL1,aL0,eS,eT,bA,bI,Nat.zero_add,(b5Y _ _).1,(b5Y _ _).2,d2,s1,s2,s3,s4,s5,e1,e2,e3,dX,List.length_set,aD,bP,wz,Bool.and_true,true_and];refine⟨fun q=>by rw[q];rfl,fun q=>?_⟩
 rw[q];refine⟨fun q=>by rw[q];rfl,fun q=>?_⟩
 rw[q];cases eqI o.Mode 5
 ·cases eqI o.Mode 6<;>rfl
 ·rfl
theorem rE{t s:Int}{r:RM}{o:aG}(h:r.Ok t)(ho:OpOk o):(bW r s o).1.Ok t∧cI (bW r s o).2 0 65535=true:=by
 have q:=nU h.aw h.a4 ho.hr;unfold bW;refine cF (P:=fun z:RM×Int=>z.1.Ok t∧cI z.2 0 65535=true) (fun _=>⟨h.setA (by omega) (by omega),aR.2 q⟩) fun _=>?_
 refine cF (P:=fun z:RM×Int=>z.1.Ok t∧cI z.2 0 65535=true) (fun _=>⟨h.setA (by omega) (by omega),aR.2 (by dsimp only;omega)⟩) fun _=>?_
 refine cF (P:=fun z:RM×Int=>z.1.Ok t∧cI z.2 0 65535=true) (fun _=>⟨h,aR.2 (by dsimp only;omega)⟩) fun _=>?_
 exact cF (P:=fun z:RM×Int=>z.1.Ok t∧cI z.2 0 65535=true) (fun _=>⟨h,ho.he⟩) fun _=>⟨h,aR.2 q⟩
theorem aTR{t s k:Int}{r:RM}(h:r.Ok t)(hs:s=1∨s=2)(hk:cI k 0 3=true):a6D r.g s k=true∧a6C r.g s k=cX r.d k%cD s:=by
 refine aK (t:=a6B r.g s k) (P:=fun q=>q=cX r.d k%cD s) ?_
 obtain⟨d1,d2,d3⟩:=jQ h.d4 hk;unfold a6B;simp only[aB,aA,eS,d1,d2,(kY hs).1,(kY hs).2,mask hs,Bool.and_true,true_and]
theorem iI{s v:Int}(hs:s=1∨s=2):dK s (v%cD s)=true:=by
 rcases hs with rfl|rfl
 ·show(bif eqI 1 1 then cI (v%256) 0 255 else _)=true
  rw[show eqI 1 1=true from rfl,cond_true,aR];omega
 ·exact bQC (v:=v%65536) (by omega) (by omega)
theorem aF0{t s k v:Int}{r:RM}(h:r.Ok t)(hs:s=1∨s=2)(hk:cI k 0 3=true)(hv:s=1→0≤v∧v<256):J2 r.g s k v=true∧J1 r.g s k v=(zB r s k v).g:=by
 refine aK (t:=a6J r.g s k v) (P:=fun q=>q=(zB r s k v).g) ?_
 obtain⟨d1,d2,d3⟩:=jQ h.d4 hk;obtain⟨s1,s2,s3,s4,s5⟩:=f9 (v:=0) h.d4 hk;rw[Nat.zero_add]at s1 s2 s5;have q:=nU h.dw h.d4 hk;have t1:=h.t1;unfold a6J zB;rcases hs with rfl|rfl
 ·have hv:=hv rfl;have e:eW (bH (cX r.d k) 65280) v=cX r.d k%65536/256*256+v:=by
   have:bH (cX r.d k) 65280=cX r.d k%65536/256*256:=by
    have key: ∀n:Nat,n≤65536→bH (n:Int) 65280=((n%65536/256*256:Nat):Int):=fun n hn=>by
     unfold bH;have e1:(BitVec.ofInt 64 (n:Int))&&&(BitVec.ofInt 64 65280)=BitVec.ofNat 64 (n&&&65280):=by
      apply BitVec.eq_of_toNat_eq;simp[BitVec.toNat_and,Nat.and_mod_two_pow]
     rw[e1];have e2:n&&&65280=n%65536/256*256:=by
      have:n&&&65280=(n/256&&&255)*256:=by
       apply Nat.eq_of_testBit_eq;intro i;rw[show(n/256&&&255)*256=(n/2^8&&&255)<<<8 from by rw[Nat.shiftLeft_eq]]
       rw[Nat.testBit_shiftLeft,Nat.testBit_and,Nat.testBit_and,Nat.testBit_div_two_pow];by_cases hi:8≤i
       ·have:(65280:Nat)=255<<<8:=by decide
        rw[this,Nat.testBit_shiftLeft];simp[hi]
       ·have:(65280:Nat)=255<<<8:=by decide
        rw[this,Nat.testBit_shiftLeft];simp[hi]
      rw[this];have:n/256&&&255=n/256%256:=Nat.and_two_pow_sub_one_eq_mod (n:=8) (n/256);rw[this];omega
     rw[e2,BitVec.toNat_ofNat,IntKind.wrap_i64];omega
    have:=key (cX r.d k).toNat (by omega)
    rw[Int.toNat_of_nonneg q.1]at this;rw[this];omega
   rw[this,UF (by omega) (by omega) hv.1 hv.2]
  simp only[aB,aJ,aA,aCS,aCR,aCQ,aCP,aCO,eS,eT,bA,bI,Nat.zero_add,d2,e,s1,s2,s3,s4,s5,dX,List.length_set,aD,bP,wz,show eqI 1 1=true from rfl,Bool.and_true,true_and,forall_const,cond_true,Bool.true_eq_false,false_implies,and_true]
  rfl
 ·simp only[aB,aJ,aA,aCS,aCR,aCQ,aCP,aCO,eS,eT,bA,bI,Nat.zero_add,d2,s1,s2,s3,s4,s5,dX,List.length_set,aD,bP,wz,show eqI 2 1=false from rfl,Bool.and_true,true_and,forall_const,cond_false,Bool.false_eq_true,false_implies]
  rfl
theorem ND{t s k v:Int}{r:RM}(h:r.Ok t)(hk:cI k 0 3=true)(h0:0≤v)(h1:s=1→v<256)(h2:v≤t):(zB r s k v).Ok t:=by
 have q:=nU h.dw h.d4 hk;have t0:=h.t0;unfold zB;cases e:eqI s 1
 ·exact h.setD h0 h2
 ·rw[dS]at e;have:=h1 e;exact h.setD (by rw[cond_true];omega) (by rw[cond_true];omega)
end Go.Proofs.YtdipcnijfkdnfaaGreatIrqs

namespace Go.Proofs.YtdipcnijfkdnfaaGreatIrqs
open Go Go.Zq
set_option maxHeartbeats 4000000
set_option maxRecDepth 100000
theorem rF{p:Int→Prop}{f:Int}(h:cI f 0 31=true)(k: ∀n:Fin 32,p (n.val:Int)):p f:=by
 rw[aR]at h;obtain⟨n,rfl⟩:=Int.eq_ofNat_of_zero_le h.1;exact k ⟨n,by omega⟩
theorem a8O{f:Int}(h:cI f 0 31=true):bH f 16=0∨bH f 16=16:=rF (p:=fun f=>bH f 16=0∨bH f 16=16) h (by decide+kernel)
theorem fl4{f:Int}(h:cI f 0 31=true):bH f 4=0∨bH f 4=4:=rF (p:=fun f=>bH f 4=0∨bH f 4=4) h (by decide+kernel)
theorem pU{a b:Int}(ha:cI a 0 31=true)(hb:cI b 0 31=true):cI (eW a b) 0 31=true:=by
 have key: ∀n m:Fin 32,cI (eW (n.val:Int) (m.val:Int)) 0 31=true:=by decide+kernel
 exact rF (p:=fun a=>cI (eW a b) 0 31=true) ha fun n=>rF (p:=fun b=>cI (eW (n.val:Int) b) 0 31=true) hb fun m=>key n m
theorem vC{b:Bool}{x:Int}(hx:cI x 0 31=true):cI (bif b then x else 0) 0 31=true:=by
 cases b
 ·show cI 0 0 31=true;decide
 ·exact hx
theorem aDJ(c o z n:Bool):cI (fl c o z n) 0 31=true:=by
 cases c<;>cases o<;>cases z<;>cases n<;>decide
theorem oN{s f v:Int}(hs:s=1∨s=2)(hf:cI f 0 31=true):DI s f v=true∧cI (hY s f v) 0 31=true:=by
 refine aK (t:=aMC s f v) (P:=fun r=>cI r 0 31=true) ?_
 unfold aMC;simp only[aB,aA,(EV hs).1,(EV hs).2,Bool.and_true,true_and];refine pU ?_ (pU (vC (by decide)) (vC (by decide)))
 rcases a8O hf with h|h<;>rw[h]<;>decide
theorem a8P{s a b:Int}(ha:dK s a=true)(hb:dK s b=true):aFO s 0 a b=true∧aCW s 0 a b=((a-b)%cD s,IB s a b):=by
 obtain⟨h1,h2⟩:=a8D ha hb;refine⟨h1,?_⟩;have h3:aFO s 0 a b=true∧(aCW s 0 a b).1=(a-b)%cD s:=by
  refine aK (t:=aMD s 0 a b) (P:=fun r=>r.1=(a-b)%cD s) ?_
  obtain⟨h,a0,a1⟩:=pS ha;obtain⟨-,b0,b1⟩:=pS hb;have l:=rC h;obtain⟨p1,p2⟩:=FU h a0 (by omega)
  obtain⟨q1,q2⟩:=FU h b0 (by omega)
  have e1:cN (cN a b) 0=a-b:=by rw[eV (x:=a) (by omega),eV (by omega)];omega
  have r0:0≤(a-b)%cD s:=Int.emod_nonneg _ (by omega)
  have r1:(a-b)%cD s<cD s:=Int.emod_lt_of_pos _ (by omega)
  obtain⟨t1,t2⟩:=FU (v:=(a-b)%cD s) h r0 (by omega)
  unfold aMD;simp only[aB,aA,aCV,HV,(kY h).1,(kY h).2,mask h,p1,q1,e1,t1,(fK _ _).1,(EV h).1,Bool.and_true,true_and]
 exact Prod.ext h3.2 h2
theorem bIT{s f a b:Int}(ha:dK s a=true)(hb:dK s b=true)(hf:cI f 0 31=true):bO6 s f a b=true∧cI (aMY s f a b) 0 31=true:=by
 refine aK (t:=aMX s f a b) (P:=fun r=>cI r 0 31=true) ?_
 obtain⟨h1,h2⟩:=a8D ha hb;unfold aMX;simp only[aB,aA,h1,h2,Bool.and_true,true_and];refine pU ?_ ?_
 ·unfold IB;exact rF (p:=fun z=>cI (bH z 15) 0 31=true) (aDJ _ _ _ _) (by decide+kernel)
 ·rcases a8O hf with h|h<;>rw[h]<;>decide
theorem bGN{s v:Int}(hs:s=1∨s=2):dK s (v%cD s)=true:=iI hs
theorem KD{a b:Int}(ha:0≤a∧a≤65535)(hb:0≤b∧b≤65535):(0≤bH a b∧bH a b≤b)∧(0≤eW a b∧eW a b≤65535)∧(0≤qE a b∧qE a b≤65535)∧(a≤255→b≤255→eW a b≤255∧qE a b≤255):=by
 obtain⟨n,rfl⟩:=Int.eq_ofNat_of_zero_le ha.1;obtain⟨m,rfl⟩:=Int.eq_ofNat_of_zero_le hb.1;have hn:n<2^16:=by omega
 have hm:m<2^16:=by omega
 have e1:((n:Int)%((2^64:Nat):Int)).toNat=n:=by omega
 have e2:((m:Int)%((2^64:Nat):Int)).toNat=m:=by omega
 have a1:n&&&m≤m:=Nat.and_le_right;have o1:n|||m<2^16:=Nat.or_lt_two_pow hn hm
 have x1:n^^^m<2^16:=Nat.xor_lt_two_pow hn hm;have k1:bH (n:Int) (m:Int)=((n&&&m:Nat):Int):=by
  unfold bH;rw[BitVec.toNat_and,BitVec.toNat_ofInt,BitVec.toNat_ofInt,e1,e2,IntKind.wrap_i64];omega
 have k2:eW (n:Int) (m:Int)=((n|||m:Nat):Int):=by
  unfold eW;rw[BitVec.toNat_or,BitVec.toNat_ofInt,BitVec.toNat_ofInt,e1,e2,IntKind.wrap_i64];omega
 have k3:qE (n:Int) (m:Int)=((n^^^m:Nat):Int):=by
  unfold qE;rw[BitVec.toNat_xor,BitVec.toNat_ofInt,BitVec.toNat_ofInt,e1,e2,IntKind.wrap_i64];omega
 rw[k1,k2,k3];refine⟨by omega,by omega,by omega,fun h1 h2=>?_⟩
 have o2:n|||m<2^8:=Nat.or_lt_two_pow (by omega) (by omega)
 have x2:n^^^m<2^8:=Nat.xor_lt_two_pow (by omega) (by omega)
 omega
theorem kE{s v:Int}(hs:s=1∨s=2)(h:dK s v=true):0≤v∧v≤65535∧(s=1→v≤255):=by
 have:=O8 hs h;omega
theorem DT{s v:Int}(hs:s=1∨s=2)(h0:0≤v)(h1:v≤65535)(h2:s=1→v≤255):dK s v=true:=by
 rcases hs with rfl|rfl
 ·show(bif eqI 1 1 then cI v 0 255 else _)=true
  rw[show eqI 1 1=true from rfl,cond_true,aR];exact⟨h0,h2 rfl⟩
 ·exact bQC h0 h1
theorem aTS{s a b:Int}(hs:s=1∨s=2)(ha:dK s a=true)(hb:dK s b=true):dK s (bH a b)=true:=by
 have a1:=kE hs ha;have b1:=kE hs hb;have q:=KD ⟨a1.1,a1.2.1⟩ ⟨b1.1,b1.2.1⟩;exact DT hs q.1.1 (by omega) (fun h=>by have:=b1.2.2 h;omega)
theorem aDK{s a b:Int}(hs:s=1∨s=2)(ha:dK s a=true)(hb:dK s b=true):dK s (eW a b)=true:=by
 have a1:=kE hs ha;have b1:=kE hs hb;have q:=KD ⟨a1.1,a1.2.1⟩ ⟨b1.1,b1.2.1⟩;exact DT hs q.2.1.1 q.2.1.2 (fun h=>(q.2.2.2 (a1.2.2 h) (b1.2.2 h)).1)
theorem aTT{s a b:Int}(hs:s=1∨s=2)(ha:dK s a=true)(hb:dK s b=true):dK s (qE a b)=true:=by
 have a1:=kE hs ha;have b1:=kE hs hb;have q:=KD ⟨a1.1,a1.2.1⟩ ⟨b1.1,b1.2.1⟩;exact DT hs q.2.2.1.1 q.2.2.1.2 (fun h=>(q.2.2.2 (a1.2.2 h) (b1.2.2 h)).2)
end Go.Proofs.YtdipcnijfkdnfaaGreatIrqs

namespace Go.Proofs.YtdipcnijfkdnfaaGreatIrqs
open Go Go.Zq
set_option maxHeartbeats 4000000
set_option maxRecDepth 100000
theorem cJ3{v:Int}(h:0≤v)(h1:v<65536):m7 v 1=v*2:=by
 unfold m7;rw[show((2:Int)^min (Int.toNat 1) 64)=2 from by decide,IntKind.wrap_i64]
 omega
theorem cJ4{v:Int}:eZ v 1=v/2:=kQ 1 rfl (by omega)
theorem a8Q(k:Int):bFQ k=true:=by
 refine(aK (t:=aMF k) (P:=fun _=>True) ?_).1
 unfold aMF;simp only[aB,aA,true_and]
def VL(x:Int):Prop:=x=0∨x=1
theorem rG(b:Bool):VL (bif b then 1 else 0):=by
 cases b
 ·exact Or.inl rfl
 ·exact Or.inr rfl
theorem DU{b:Bool}{x y:Int}(hx:VL x)(hy:VL y):VL (bif b then x else y):=by
 cases b
 ·exact hy
 ·exact hx
theorem aTU{v:Int}:VL (bH v 1):=by
 rw[b5K];unfold VL;omega
def Sh(s:Int)(r:Int×Int):Prop:=dK s r.1=true∧cI r.2 0 31=true
theorem aDL{k s f v:Int}(hs:s=1∨s=2)(hv:dK s v=true)(hf:cI f 0 31=true):bOR k s f v=true∧Sh s (OV k s f v):=by
 refine aK (t:=aMK k s f v) (P:=fun r=>Sh s r) ?_
 have lv:=kE hs hv;have b2:VL (HW s v):=by
  unfold HW;rw[(fK _ _).2];exact rG _
 have b3:VL (lZ k s v):=by
  unfold lZ;exact DU b2 aTU
 have b4:VL (DJ k s f v):=by
  unfold DJ;refine DU b2 (DU b3 (DU ?_ (Or.inl rfl)));rw[(fK _ _).2];exact rG _
 have vb: ∀x,VL x→dK s x=true:=fun x hx=>by
  rcases hx with rfl|rfl
  ·exact KC hs
  ·rcases hs with rfl|rfl<;>decide
 have w5:dK s (oY k s f v)=true:=by
  unfold oY;rw[(kY hs).2];have m1:cN (dH 2 (lQ (cD s) 2)) 1=cN (cD s) 1:=by rcases hs with rfl|rfl<;>decide
  rw[m1,cJ3 lv.1 (by omega),mask hs,cJ4]
  cases a6R k
  ·refine aDK hs (DT hs (by omega) (by omega) (fun h=>by have:=lv.2.2 h;omega)) ?_
   rcases b4 with h|h<;>rw[h]
   ·rcases hs with rfl|rfl<;>decide
   ·rcases hs with rfl|rfl<;>decide
  ·exact aDK hs (bGN hs) (vb _ b4)
 have f8:cI (HX k s f v) 0 31=true:=by
  unfold HX;rw[(EV hs).2,(fK _ _).2];refine pU (pU ?_ (pU (vC (by decide)) (vC (by decide)))) (vC (by decide))
  rcases b3 with h|h<;>rw[h]<;>decide
 unfold aMK;simp only[aB,aJ,aA,(kY hs).1,(fK _ _).1,a8Q,(EV hs).1,Bool.and_true,Bool.true_or,Bool.or_true,true_and];refine⟨fun _=>⟨w5,pU f8 ?_⟩,fun _=>⟨w5,pU f8 ?_⟩⟩
 ·rcases a8O hf with h|h<;>rw[h]<;>decide
 ·rcases b3 with h|h<;>rw[h]<;>decide
theorem b5Z{k s f v c:Int}(hs:s=1∨s=2)(hv:dK s v=true)(hf:cI f 0 31=true)(h0:0≤c)(h1:c≤100):bFV k s f v c=true∧Sh s (aFP k s f v c):=by
 refine aK (t:=aML k s f v c) (P:=fun r=>Sh s r) ?_
 obtain⟨n,rfl⟩:=Int.eq_ofNat_of_zero_le h0;have L:TY (V218_0.mk k s f v (n:Int) 0)=true∧(dK s (A9 (V218_0.mk k s f v (n:Int) 0)).s3=true∧cI (A9 (V218_0.mk k s f v (n:Int) 0)).s2 0 31=true∧cI (A9 (V218_0.mk k s f v (n:Int) 0)).s13 0 31=true):=by
  unfold TY A9;refine kD (Post:=fun w:V218_0=>dK s w.s3=true∧cI w.s2 0 31=true∧cI w.s13 0 31=true) (eX (fun(m:Nat) (w:V218_0)=>w.s1=s∧w.s4=(m:Int)∧m≤100∧dK s w.s3=true∧cI w.s2 0 31=true∧cI w.s13 0 31=true) _ ?_ 2097152 n _ ⟨rfl,rfl,by omega,hv,hf,(by decide:cI 0 0 31=true)⟩ (by omega))
  rintro m w ⟨e1,e2,e3,e4,e5,e6⟩
  obtain⟨o1,o2,o3⟩:=aDL (k:=w.s0) hs e4 e5;have o3':cI (bH (OV w.s0 s w.s2 w.s3).2 2) 0 31=true:=rF (p:=fun z=>cI (bH z 2) 0 31=true) o3 (by decide+kernel)
  unfold HY;simp only[aB,aJ,aA,wK,e1,e2,o1,rB,FS,Bool.and_true,true_and];refine⟨fun q=>⟨m-1,by omega,?_,by omega,o2,o3,pU e6 o3'⟩,fun _=>⟨e4,e5,e6⟩⟩
  rw[eV (by omega)];omega
 obtain⟨l1,l2,l3,l4⟩:=L;unfold aML;simp only[aB,aJ,aA,TZ,aC0,(EV hs).1,(EV hs).2,(fK _ _).1,(fK _ _).2,l1,Bool.and_true,true_and];refine⟨fun _=>⟨hv,pU (pU ?_ (pU (vC (by decide)) (vC (by decide)))) (vC (by decide))⟩,fun _=>⟨l2,pU l3 l4⟩⟩
 rcases a8O hf with h|h<;>rw[h]<;>decide
theorem a8R(c f:Int):bOS c f=true:=by
 refine(aK (t:=aMN c f) (P:=fun _=>True) ?_).1
 unfold aMN;simp only[aB,aJ,aA,true_and,implies_true,and_self]
theorem a8S(c f:Int):bOT c f=true:=by
 refine(aK (t:=aMO c f) (P:=fun _=>True) ?_).1
 unfold aMO;simp only[aB,aA,a8R,Bool.and_true,true_and]
end Go.Proofs.YtdipcnijfkdnfaaGreatIrqs

namespace Go.Proofs.YtdipcnijfkdnfaaGreatIrqs
open Go Go.Zq
set_option maxHeartbeats 4000000
set_option maxRecDepth 100000
theorem lA(m:MM)(r:RM):(aS.mk r.g (qF m.zs m.l) m.stop m.f)=MM.g {m with r:=r}:=rfl
theorem aDM{t s:Int}{m:MM}{o:aG}(hm:m.Ok t)(hs:s=1∨s=2)(ho:OpOk o):aXA s o m.g=true∧cP s o m.g=((dT m s o).1.g,(dT m s o).2.1,(dT m s o).2.2):=by
 refine aK (t:=a6H s o m.g) (P:=fun q=>q=((dT m s o).1.g,(dT m s o).2.1,(dT m s o).2.2)) ?_
 obtain⟨d1,d2,d3⟩:=jQ hm.r.a4 ho.hr;obtain⟨s1,s2,s3,s4,s5⟩:=f9 (v:=0) hm.r.a4 ho.hr;rw[Nat.zero_add]at s5;obtain⟨l1,l2⟩:=aTR hm.r hs ho.hr;obtain⟨p1,p2⟩:=aTQ (s:=s) hm.r ho;obtain⟨p3,p4⟩:=rE (s:=s) hm.r ho;have hm':MM.Ok t {m with r:=(bW m.r s o).1}:=⟨p3,hm.b⟩
 obtain⟨a1,a2⟩:=UN (k:=1) (v:=0) (a:=(bW m.r s o).2) hm' ⟨hs,KC hs,p4⟩;unfold a6H dT;simp only[aB,aJ,aA,TV,HT,DG,aCN,eQ,cJ,cC,bT,eS,eT,bA,bI,Nat.zero_add,l1,l2,d2,s3,s4,s5,p1,p2,lA,a1,a2,aD,bP,wz,bO,cU,bG,cV,Bool.and_true,true_and];refine⟨fun q=>by rw[q];rfl,fun q=>?_⟩
 rw[q];refine⟨fun q=>by rw[q];rfl,fun q=>?_⟩
 rw[q];exact⟨fun q=>by rw[q];rfl,fun q=>by rw[q];rfl⟩
theorem rH{t s:Int}{m:MM}{o:aG}(hm:m.Ok t)(hs:s=1∨s=2)(ho:OpOk o)(hmode:s=1→o.Mode=1→False)(he:s=1→o.Mode=7→o.Ext≤255):(dT m s o).1.Ok t∧dK s (dT m s o).2.1=true∧cI (dT m s o).2.2 0 65535=true:=by
 obtain⟨p3,p4⟩:=rE (s:=s) hm.r ho;have hm':MM.Ok t {m with r:=(bW m.r s o).1}:=⟨p3,hm.b⟩
 obtain⟨a1,a2⟩:=zD (k:=1) (v:=0) (a:=(bW m.r s o).2) hm' ⟨hs,KC hs,p4⟩ (by decide)
 have q:=nU hm.r.aw hm.r.a4 ho.hr;have e:=aR.1 ho.he;have z0:cI 0 0 65535=true:=by decide
 unfold dT;refine cF (P:=fun z:MM×Int×Int=>z.1.Ok t∧dK s z.2.1=true∧cI z.2.2 0 65535=true) (fun _=>⟨hm,iI hs,z0⟩) fun _=>?_
 refine cF (P:=fun z:MM×Int×Int=>z.1.Ok t∧dK s z.2.1=true∧cI z.2.2 0 65535=true) (fun h=>⟨hm,DT hs q.1 q.2 (fun h1=>(hmode h1 (dS.1 h)).elim),z0⟩) fun _=>?_
 refine cF (P:=fun z:MM×Int×Int=>z.1.Ok t∧dK s z.2.1=true∧cI z.2.2 0 65535=true) (fun h=>⟨hm,DT hs e.1 e.2 (fun h1=>he h1 (dS.1 h)),z0⟩) fun _=>?_
 exact⟨a1,a2,p4⟩
def kI(m:MM)(s:Int)(o:aG):MM×Int:=bif eqI o.Mode 0 then(m,0)else({m with r:=(bW m.r s o).1},(bW m.r s o).2)
theorem aTV{t s:Int}{m:MM}{o:aG}(hm:m.Ok t)(ho:OpOk o):aXB s o m.g=true∧iD s o m.g=((kI m s o).1.g,(kI m s o).2):=by
 refine aK (t:=a6I s o m.g) (P:=fun q=>q=((kI m s o).1.g,(kI m s o).2)) ?_
 obtain⟨p1,p2⟩:=aTQ (s:=s) hm.r ho;unfold a6I kI;simp only[aB,aJ,aA,aL7,HU,DH,eQ,cJ,cC,bT,p1,p2,aD,bP,wz,bO,cU,bG,cV,Bool.and_true,true_and];exact⟨fun q=>by rw[q];rfl,fun q=>by rw[q];rfl⟩
theorem DV{t s:Int}{m:MM}{o:aG}(hm:m.Ok t)(ho:OpOk o):(kI m s o).1.Ok t∧cI (kI m s o).2 0 65535=true:=by
 obtain⟨p3,p4⟩:=rE (s:=s) hm.r ho;unfold kI;exact cF (P:=fun z:MM×Int=>z.1.Ok t∧cI z.2 0 65535=true) (fun _=>⟨hm,(by decide:cI 0 0 65535=true)⟩) fun _=>⟨⟨p3,hm.b⟩,p4⟩
def eL(m:MM)(s:Int)(o:aG)(a v:Int):MM:=bif eqI o.Mode 0 then{m with r:=zB m.r s o.Reg v}else(cS m 2 s a v).1
theorem aTW{t s a v:Int}{m:MM}{o:aG}(hm:m.Ok t)(hs:s=1∨s=2)(ho:OpOk o)(ha:cI a 0 65535=true)(hv:dK s v=true):a6M s o a v m.g=true∧a6L s o a v m.g=(eL m s o a v).g:=by
 refine aK (t:=a6K s o a v m.g) (P:=fun q=>q=(eL m s o a v).g) ?_
 have lv:=kE hs hv;obtain⟨p1,p2⟩:=aF0 (v:=v) hm.r hs ho.hr (fun h=>by have:=lv.2.2 h;omega)
 obtain⟨a1,a2⟩:=UN (k:=2) hm (⟨hs,hv,ha⟩:AccOk s v a m);unfold a6K eL;simp only[aB,aJ,aA,aL9,aL8,eQ,cJ,cC,bT,p1,p2,a1,a2,aD,bP,wz,Bool.and_true,true_and];exact⟨fun q=>by rw[q];rfl,fun q=>by rw[q];rfl⟩
theorem zW{t s a v:Int}{m:MM}{o:aG}(hm:m.Ok t)(hs:s=1∨s=2)(ho:OpOk o)(ha:cI a 0 65535=true)(hv:dK s v=true):(eL m s o a v).Ok t:=by
 have lv:=kE hs hv;have t0:=hm.r.t0;obtain⟨a1,-⟩:=zD (k:=2) hm (⟨hs,hv,ha⟩:AccOk s v a m) (by decide)
 unfold eL;exact cF (P:=fun z=>MM.Ok t z) (fun _=>⟨ND hm.r ho.hr lv.1 (fun h=>by have:=lv.2.2 h;omega) (by omega),hm.b⟩) (fun _=>a1)
def UP(q:MM×Int)(p:MM×Int):MM×aQ×Int:=
 bif !cG p.1 then(p.1,⟨0,0,0,⟨0,0,0⟩,0⟩,0)else
 bif !kZ (wW q.2 p.2)then({p.1 with f:={p.1.f with Vector:=4}},⟨0,0,0,⟨0,0,0⟩,0⟩,0)else(p.1,wW q.2 p.2,2)
def KE(q:MM×Int)(pc:Int):MM×aQ×Int:=
 bif !cG q.1 then(q.1,⟨0,0,0,⟨0,0,0⟩,0⟩,0)else
 bif KB q.2 then UP q (cS {q.1 with f:={q.1.f with Word:=q.2}} 3 2 ((pc+2)%65536) 0)
 else bif !kZ (wW q.2 0)then({q.1 with f:={q.1.f with Word:=q.2,Vector:=4}},⟨0,0,0,⟨0,0,0⟩,0⟩,0)else({q.1 with f:={q.1.f with Word:=q.2}},wW q.2 0,1)
def m9(m:MM):MM×aQ×Int:=KE (cS {m with f:={m.f with PC:=m.r.pc}} 3 2 m.r.pc 0) m.r.pc
theorem aF1{t a:Int}{m:MM}(hm:m.Ok t)(ha:cI a 0 65535=true):AccOk 2 0 a m:=⟨Or.inr rfl,by decide,ha⟩
theorem b50(m:MM)(f:aL):(aS.mk m.r.g (qF m.zs m.l) m.stop f)=MM.g {m with f:=f}:=rfl
theorem b51{t:Int}{m:MM}(hm:m.Ok t):bOF m.g=true∧fF m.g=((m9 m).1.g,(m9 m).2.1,(m9 m).2.2):=by
 refine aK (t:=a59 m.g) (P:=fun q=>q=((m9 m).1.g,(m9 m).2.1,(m9 m).2.2)) ?_
 have hp:=aR.1 hm.r.pw;have hm0:MM.Ok t {m with f:={m.f with PC:=m.r.pc}}:=⟨hm.r,hm.b⟩
 obtain⟨a1,a2⟩:=UN (k:=3) hm0 (aF1 hm0 hm.r.pw);obtain⟨a3,a4⟩:=zD (k:=3) hm0 (aF1 hm0 hm.r.pw) (by decide)
 have ha:cI ((m.r.pc+2)%65536) 0 65535=true:=by rw[aR];omega
 have e2:bH (bE m.r.pc 2) 65535=(m.r.pc+2)%65536:=by rw[bV (by omega),tH]
 unfold a59 m9;generalize hq:cS {m with f:={m.f with PC:=m.r.pc}} 3 2 m.r.pc 0=q at a1 a2 a3 a4
 obtain⟨q1,q2⟩:=q;have hm1:MM.Ok t {q1 with f:={q1.f with Word:=q2}}:=⟨a3.r,a3.b⟩
 obtain⟨b1,b2⟩:=UN (k:=3) hm1 (aF1 hm1 ha);unfold KE;generalize cS {q1 with f:={q1.f with Word:=q2}} 3 2 ((m.r.pc+2)%65536) 0=p at b1 b2
 obtain⟨p1,p2⟩:=p;unfold UP cG;simp only[aB,aJ,aA,aCM,aCL,uD,aCK,aCJ,iH,eQ,cJ,cC,bT,cM,b50,e2,a1,a2,b1,b2,eH,(aDG _).1,(aDG _).2,aFZ,(a8I _ _).1,(a8I _ _).2,(UK _).1,(UK _).2,aD,bP,wz,Bool.and_true,true_and];refine⟨fun h=>by rw[h];rfl,fun h=>?_⟩
 rw[h];refine⟨fun h2=>?_,fun h2=>?_⟩
 ·rw[h2];have l2:p9 q2=2:=by unfold p9;rw[h2];rfl
  refine⟨fun h=>by rw[h];rfl,fun h=>?_⟩
  rw[h];exact⟨fun h=>by rw[h];rfl,fun h=>by rw[h,l2];rfl⟩
 ·rw[h2];have l2:p9 q2=1:=by unfold p9;rw[h2];rfl
  exact⟨fun h=>by rw[h];rfl,fun h=>by rw[h,l2];rfl⟩
end Go.Proofs.YtdipcnijfkdnfaaGreatIrqs

namespace Go.Proofs.YtdipcnijfkdnfaaGreatIrqs
open Bool renaming true_eq_false → q_1
open Go Go.Zq
set_option maxHeartbeats 4000000
set_option maxRecDepth 100000
structure InsOk(x:aQ):Prop where
 hs:x.Size=1∨x.Size=2
 hr:cI x.Reg 0 3=true
 hb:cI x.Sub 0 7=true
 ho:OpOk x.Ea
 he:x.Size=1→x.Ea.Mode=7→x.Ea.Ext≤255
 kb:kB x=true
 op:1≤x.Op∧x.Op≤19
theorem InsOk.of{x:aQ}(h:kZ x=true):InsOk x:=by
 have R:=rng h;unfold kZ at h;simp only[Bool.and_eq_true]at h;obtain⟨h1,h2,h3,h4,h5,h6⟩:=h;refine⟨by have:=R.s;omega,h2,h4,OpOk.of h3,fun e1 e2=>?_,h6,R.o⟩
 unfold KA at h5;rw[e1,e2]at h5;simpa using h5
theorem fX(r:RM)(f:Int):(aH.mk (ri r.d) (ri r.a) r.oth r.pc f r.mask r.sup r.tr)=RM.g {r with fl:=f}:=rfl
theorem kF(r:RM)(p:Int):(aH.mk (ri r.d) (ri r.a) r.oth p r.fl r.mask r.sup r.tr)=RM.g {r with pc:=p}:=rfl
noncomputable def BQ(m:MM)(s k v:Int):MM:={m with r:=zB {m.r with fl:=hY s m.r.fl v} s k v}
theorem aDN{t s k v:Int}{m:MM}(hm:m.Ok t)(hs:s=1∨s=2)(hk:cI k 0 3=true)(hv:s=1→0≤v∧v<256):aXD s k v m.g=true∧aXC s k v m.g=(BQ m s k v).g:=by
 refine aK (t:=a61 s k v m.g) (P:=fun q=>q=(BQ m s k v).g) ?_
 obtain⟨l1,l2⟩:=oN (v:=v) hs hm.r.fw;obtain⟨p1,p2⟩:=aF0 (v:=v) (hm.r.setF l2) hs hk hv;unfold a61;simp only[aB,aA,aMR,aMQ,eQ,cJ,cC,bT,eS,eT,aW,cM,aV,bL,aU,aT,fX,l1,p1,p2,aD,bP,wz,bO,cU,bG,cV,Bool.and_true,Bool.true_or,Bool.or_true,true_and];rfl
theorem O9{t s k v:Int}{m:MM}(hm:m.Ok t)(hs:s=1∨s=2)(hk:cI k 0 3=true)(h0:0≤v)(h1:s=1→v<256)(h2:v≤t):(BQ m s k v).Ok t:=⟨ND (hm.r.setF (oN (v:=v) hs hm.r.fw).2) hk h0 h1 h2,hm.b⟩
def zE(m:MM)(v:Int):MM:={m with f:={m.f with Vector:=v,PC:=m.r.pc}}
theorem aTX(m:MM)(v:Int):bFZ v m.g=true∧bFY v m.g=(zE m v).g:=by
 refine aK (t:=a6Z v m.g) (P:=fun q=>q=(zE m v).g) ?_
 unfold a6Z;simp only[aB,aA,eQ,cJ,cC,bT,eS,eT,aW,cM,aV,bL,aU,aT,aD,bP,wz,bO,cU,bG,cV,Bool.and_true,Bool.true_or,Bool.or_true,true_and];rfl
noncomputable def rI(x:aQ)(f d v:Int):Int×Int:=
 bif eqI x.Op 3 then aDE x.Size 0 d v else bif eqI x.Op 4 then((d-v)%cD x.Size,IB x.Size d v)
 else bif eqI x.Op 1 then(v,hY x.Size f v)else bif eqI x.Op 5 then(bH d v,hY x.Size f (bH d v))
 else bif eqI x.Op 6 then(eW d v,hY x.Size f (eW d v))else(qE d v,hY x.Size f (qE d v))
noncomputable def BI(m:MM)(x:aQ):MM:=
 let q:=dT m x.Size x.Ea
 bif !cG q.1 then q.1 else
 bif eqI x.Op 8 then{q.1 with r:={q.1.r with fl:=aMY x.Size q.1.r.fl (cX q.1.r.d x.Reg%cD x.Size) q.2.1}}
 else{q.1 with r:=zB {q.1.r with fl:=(rI x q.1.r.fl (cX q.1.r.d x.Reg%cD x.Size) q.2.1).2} x.Size x.Reg (rI x q.1.r.fl (cX q.1.r.d x.Reg%cD x.Size) q.2.1).1}
theorem aTY{x:aQ}{f d v:Int}(hs:x.Size=1∨x.Size=2)(hf:cI f 0 31=true)(hd:dK x.Size d=true)(hv:dK x.Size v=true):dK x.Size (rI x f d v).1=true∧cI (rI x f d v).2 0 31=true:=by
 unfold rI;refine cF (P:=fun z:Int×Int=>dK x.Size z.1=true∧cI z.2 0 31=true) (fun _=>⟨iI hs,aDJ _ _ _ _⟩) fun _=>?_
 refine cF (P:=fun z:Int×Int=>dK x.Size z.1=true∧cI z.2 0 31=true) (fun _=>⟨iI hs,aDJ _ _ _ _⟩) fun _=>?_
 refine cF (P:=fun z:Int×Int=>dK x.Size z.1=true∧cI z.2 0 31=true) (fun _=>⟨hv,(oN hs hf).2⟩) fun _=>?_
 refine cF (P:=fun z:Int×Int=>dK x.Size z.1=true∧cI z.2 0 31=true) (fun _=>⟨aTS hs hd hv,(oN hs hf).2⟩) fun _=>?_
 refine cF (P:=fun z:Int×Int=>dK x.Size z.1=true∧cI z.2 0 31=true) (fun _=>⟨aDK hs hd hv,(oN hs hf).2⟩) fun _=>?_
 exact⟨aTT hs hd hv,(oN hs hf).2⟩
def qC(x:aQ):Prop:=x.Op=1∨x.Op=3∨x.Op=4∨x.Op=5∨x.Op=6∨x.Op=7∨x.Op=8
theorem bQD{x:aQ}(h:qC x):kB x=bif eqI x.Sub 0 then(bif dC x.Ea.Mode 1 then true else eqI x.Size 2)else false:=by
 unfold kB;rcases h with e|e|e|e|e|e|e<;>rw[e]<;>rfl
theorem UQ{x:aQ}(h:InsOk x)(h2:qC x):x.Size=1→x.Ea.Mode=1→False:=by
 intro e1 e2;have hk:=h.kb;rw[bQD h2,e1,e2]at hk;cases hb:eqI x.Sub 0
 ·rw[hb]at hk;exact absurd hk (by decide)
 ·rw[hb]at hk;exact absurd hk (by decide)
theorem UR{t:Int}{m:MM}{x:aQ}(hm:m.Ok t)(h:InsOk x)(h2:qC x):bO7 x m.g=true∧a7E x m.g=(BI m x).g:=by
 refine aK (t:=a7D x m.g) (P:=fun q=>q=(BI m x).g) ?_
 obtain⟨r1,r2⟩:=aDM hm h.hs h.ho;obtain⟨r3,r4,r5⟩:=rH hm h.hs h.ho (UQ h h2) h.he;unfold a7D BI;generalize dT m x.Size x.Ea=q at r1 r2 r3 r4 r5;obtain⟨q1,v,a⟩:=q;have hd:=iI (s:=x.Size) (v:=cX q1.r.d x.Reg) h.hs;obtain⟨l1,l2⟩:=aTR r3.r h.hs h.hr;obtain⟨a1,a2⟩:=b5P (c:=0) (Or.inl rfl) hd r4;obtain⟨b1,b2⟩:=a8P hd r4;obtain⟨c1,c2⟩:=bIT (f:=q1.r.fl) hd r4 r3.r.fw;have lg: ∀v,DI x.Size q1.r.fl v=true:=fun v=>(oN h.hs r3.r.fw).1
 have pt: ∀v f,dK x.Size v=true→cI f 0 31=true→J2 (RM.g {q1.r with fl:=f}) x.Size x.Reg v=true∧J1 (RM.g {q1.r with fl:=f}) x.Size x.Reg v=(zB {q1.r with fl:=f} x.Size x.Reg v).g:=fun v f hv hf=>aF0 (r3.r.setF hf) h.hs h.hr (fun e=>by have:=kE h.hs hv;have:=this.2.2 e;omega)
 dsimp only;cases hfi:eqI q1.f.Vector 0
 ·simp only[aB,aJ,aA,qZ,qY,oL,qX,oK,qW,oJ,qV,mB,wU,mA,jO,jN,wT,pR,fS,wS,yX,eQ,cJ,cC,bT,eS,eT,aW,cM,aV,bL,aU,aT,r1,r2,eH,cG,hfi,Bool.not_false,cond_true,aD,bP,wz,bO,cU,bG,cV,Bool.and_true,Bool.true_or,Bool.or_true,true_and,forall_const,q_1,false_implies,and_true]
 ·obtain⟨w1,w2⟩:=aTY (x:=x) (f:=q1.r.fl) h.hs r3.r.fw hd r4;obtain⟨p1,p2⟩:=pt _ _ w1 w2;rcases h2 with e|e|e|e|e|e|e
  ·have tw:rI x q1.r.fl (cX q1.r.d x.Reg%cD x.Size) v=(v,hY x.Size q1.r.fl v):=by unfold rI;rw[e];rfl
   rw[tw]at p1 p2⊢;simp only[aB,aJ,aA,qZ,qY,oL,qX,oK,qW,oJ,qV,mB,wU,mA,jO,jN,wT,pR,fS,wS,yX,eQ,cJ,cC,bT,eS,eT,aW,cM,aV,bL,aU,aT,fX,lA,r1,r2,eH,cG,hfi,e,show eqI 1 0=false from rfl,show eqI 1 1=true from rfl,show eqI 1 2=false from rfl,show eqI 1 3=false from rfl,show eqI 1 4=false from rfl,show eqI 1 5=false from rfl,show eqI 1 6=false from rfl,show eqI 1 7=false from rfl,show eqI 1 8=false from rfl,show eqI 1 9=false from rfl,show eqI 1 10=false from rfl,show eqI 1 11=false from rfl,show eqI 1 12=false from rfl,show eqI 1 13=false from rfl,show eqI 1 14=false from rfl,show eqI 1 15=false from rfl,show eqI 1 16=false from rfl,show eqI 1 17=false from rfl,show eqI 1 18=false from rfl,show eqI 1 19=false from rfl,show dC 1 3=true from rfl,show dC 1 4=true from rfl,l1,l2,a1,a2,b1,b2,lg,p1,p2,Bool.not_true,Bool.not_false,cond_true,cond_false,aD,bP,wz,bO,cU,bG,cV,Bool.and_true,Bool.true_or,Bool.or_true,true_and,forall_const,q_1,Bool.false_eq_true,false_implies,and_true]
  ·have tw:rI x q1.r.fl (cX q1.r.d x.Reg%cD x.Size) v=aDE x.Size 0 (cX q1.r.d x.Reg%cD x.Size) v:=by unfold rI;rw[e];rfl
   rw[tw]at p1 p2⊢;simp only[aB,aJ,aA,qZ,qY,oL,qX,oK,qW,oJ,qV,mB,wU,mA,jO,jN,wT,pR,fS,wS,yX,eQ,cJ,cC,bT,eS,eT,aW,cM,aV,bL,aU,aT,fX,lA,r1,r2,eH,cG,hfi,e,show eqI 3 0=false from rfl,show eqI 3 1=false from rfl,show eqI 3 2=false from rfl,show eqI 3 3=true from rfl,show eqI 3 4=false from rfl,show eqI 3 5=false from rfl,show eqI 3 6=false from rfl,show eqI 3 7=false from rfl,show eqI 3 8=false from rfl,show eqI 3 9=false from rfl,show eqI 3 10=false from rfl,show eqI 3 11=false from rfl,show eqI 3 12=false from rfl,show eqI 3 13=false from rfl,show eqI 3 14=false from rfl,show eqI 3 15=false from rfl,show eqI 3 16=false from rfl,show eqI 3 17=false from rfl,show eqI 3 18=false from rfl,show eqI 3 19=false from rfl,show dC 3 3=false from rfl,show dC 3 4=true from rfl,l1,l2,a1,a2,b1,b2,lg,p1,p2,Bool.not_true,Bool.not_false,cond_true,cond_false,aD,bP,wz,bO,cU,bG,cV,Bool.and_true,Bool.true_or,Bool.or_true,true_and,forall_const,q_1,Bool.false_eq_true,false_implies,and_true]
  ·have tw:rI x q1.r.fl (cX q1.r.d x.Reg%cD x.Size) v=((cX q1.r.d x.Reg%cD x.Size-v)%cD x.Size,IB x.Size (cX q1.r.d x.Reg%cD x.Size) v):=by unfold rI;rw[e];rfl
   rw[tw]at p1 p2⊢;simp only[aB,aJ,aA,qZ,qY,oL,qX,oK,qW,oJ,qV,mB,wU,mA,jO,jN,wT,pR,fS,wS,yX,eQ,cJ,cC,bT,eS,eT,aW,cM,aV,bL,aU,aT,fX,lA,r1,r2,eH,cG,hfi,e,show eqI 4 0=false from rfl,show eqI 4 1=false from rfl,show eqI 4 2=false from rfl,show eqI 4 3=false from rfl,show eqI 4 4=true from rfl,show eqI 4 5=false from rfl,show eqI 4 6=false from rfl,show eqI 4 7=false from rfl,show eqI 4 8=false from rfl,show eqI 4 9=false from rfl,show eqI 4 10=false from rfl,show eqI 4 11=false from rfl,show eqI 4 12=false from rfl,show eqI 4 13=false from rfl,show eqI 4 14=false from rfl,show eqI 4 15=false from rfl,show eqI 4 16=false from rfl,show eqI 4 17=false from rfl,show eqI 4 18=false from rfl,show eqI 4 19=false from rfl,show dC 4 3=true from rfl,show dC 4 4=false from rfl,l1,l2,a1,a2,b1,b2,lg,p1,p2,Bool.not_true,Bool.not_false,cond_true,cond_false,aD,bP,wz,bO,cU,bG,cV,Bool.and_true,Bool.true_or,Bool.or_true,true_and,forall_const,q_1,Bool.false_eq_true,false_implies,and_true]
  ·have tw:rI x q1.r.fl (cX q1.r.d x.Reg%cD x.Size) v=(bH (cX q1.r.d x.Reg%cD x.Size) v,hY x.Size q1.r.fl (bH (cX q1.r.d x.Reg%cD x.Size) v)):=by unfold rI;rw[e];rfl
   rw[tw]at p1 p2⊢;simp only[aB,aJ,aA,qZ,qY,oL,qX,oK,qW,oJ,qV,mB,wU,mA,jO,jN,wT,pR,fS,wS,yX,eQ,cJ,cC,bT,eS,eT,aW,cM,aV,bL,aU,aT,fX,lA,r1,r2,eH,cG,hfi,e,show eqI 5 0=false from rfl,show eqI 5 1=false from rfl,show eqI 5 2=false from rfl,show eqI 5 3=false from rfl,show eqI 5 4=false from rfl,show eqI 5 5=true from rfl,show eqI 5 6=false from rfl,show eqI 5 7=false from rfl,show eqI 5 8=false from rfl,show eqI 5 9=false from rfl,show eqI 5 10=false from rfl,show eqI 5 11=false from rfl,show eqI 5 12=false from rfl,show eqI 5 13=false from rfl,show eqI 5 14=false from rfl,show eqI 5 15=false from rfl,show eqI 5 16=false from rfl,show eqI 5 17=false from rfl,show eqI 5 18=false from rfl,show eqI 5 19=false from rfl,show dC 5 3=true from rfl,show dC 5 4=true from rfl,l1,l2,a1,a2,b1,b2,lg,p1,p2,Bool.not_true,Bool.not_false,cond_true,cond_false,aD,bP,wz,bO,cU,bG,cV,Bool.and_true,Bool.true_or,Bool.or_true,true_and,forall_const,q_1,Bool.false_eq_true,false_implies,and_true]
  ·have tw:rI x q1.r.fl (cX q1.r.d x.Reg%cD x.Size) v=(eW (cX q1.r.d x.Reg%cD x.Size) v,hY x.Size q1.r.fl (eW (cX q1.r.d x.Reg%cD x.Size) v)):=by unfold rI;rw[e];rfl
   rw[tw]at p1 p2⊢;simp only[aB,aJ,aA,qZ,qY,oL,qX,oK,qW,oJ,qV,mB,wU,mA,jO,jN,wT,pR,fS,wS,yX,eQ,cJ,cC,bT,eS,eT,aW,cM,aV,bL,aU,aT,fX,lA,r1,r2,eH,cG,hfi,e,show eqI 6 0=false from rfl,show eqI 6 1=false from rfl,show eqI 6 2=false from rfl,show eqI 6 3=false from rfl,show eqI 6 4=false from rfl,show eqI 6 5=false from rfl,show eqI 6 6=true from rfl,show eqI 6 7=false from rfl,show eqI 6 8=false from rfl,show eqI 6 9=false from rfl,show eqI 6 10=false from rfl,show eqI 6 11=false from rfl,show eqI 6 12=false from rfl,show eqI 6 13=false from rfl,show eqI 6 14=false from rfl,show eqI 6 15=false from rfl,show eqI 6 16=false from rfl,show eqI 6 17=false from rfl,show eqI 6 18=false from rfl,show eqI 6 19=false from rfl,show dC 6 3=true from rfl,show dC 6 4=true from rfl,l1,l2,a1,a2,b1,b2,lg,p1,p2,Bool.not_true,Bool.not_false,cond_true,cond_false,aD,bP,wz,bO,cU,bG,cV,Bool.and_true,Bool.true_or,Bool.or_true,true_and,forall_const,q_1,Bool.false_eq_true,false_implies,and_true]
  ·have tw:rI x q1.r.fl (cX q1.r.d x.Reg%cD x.Size) v=(qE (cX q1.r.d x.Reg%cD x.Size) v,hY x.Size q1.r.fl (qE (cX q1.r.d x.Reg%cD x.Size) v)):=by unfold rI;rw[e];rfl
   rw[tw]at p1 p2⊢;simp only[aB,aJ,aA,qZ,qY,oL,qX,oK,qW,oJ,qV,mB,wU,mA,jO,jN,wT,pR,fS,wS,yX,eQ,cJ,cC,bT,eS,eT,aW,cM,aV,bL,aU,aT,fX,lA,r1,r2,eH,cG,hfi,e,show eqI 7 0=false from rfl,show eqI 7 1=false from rfl,show eqI 7 2=false from rfl,show eqI 7 3=false from rfl,show eqI 7 4=false from rfl,show eqI 7 5=false from rfl,show eqI 7 6=false from rfl,show eqI 7 7=true from rfl,show eqI 7 8=false from rfl,show eqI 7 9=false from rfl,show eqI 7 10=false from rfl,show eqI 7 11=false from rfl,show eqI 7 12=false from rfl,show eqI 7 13=false from rfl,show eqI 7 14=false from rfl,show eqI 7 15=false from rfl,show eqI 7 16=false from rfl,show eqI 7 17=false from rfl,show eqI 7 18=false from rfl,show eqI 7 19=false from rfl,show dC 7 3=true from rfl,show dC 7 4=true from rfl,l1,l2,a1,a2,b1,b2,lg,p1,p2,Bool.not_true,Bool.not_false,cond_true,cond_false,aD,bP,wz,bO,cU,bG,cV,Bool.and_true,Bool.true_or,Bool.or_true,true_and,forall_const,q_1,Bool.false_eq_true,false_implies,and_true]
  ·simp only[aB,aJ,aA,qZ,qY,oL,qX,oK,qW,oJ,qV,mB,wU,mA,jO,jN,wT,pR,fS,wS,yX,eQ,cJ,cC,bT,eS,eT,aW,cM,aV,bL,aU,aT,r1,r2,eH,cG,hfi,e,show eqI 8 0=false from rfl,show eqI 8 1=false from rfl,show eqI 8 2=false from rfl,show eqI 8 3=false from rfl,show eqI 8 4=false from rfl,show eqI 8 5=false from rfl,show eqI 8 6=false from rfl,show eqI 8 7=false from rfl,show eqI 8 8=true from rfl,show eqI 8 9=false from rfl,show eqI 8 10=false from rfl,show eqI 8 11=false from rfl,show eqI 8 12=false from rfl,show eqI 8 13=false from rfl,show eqI 8 14=false from rfl,show eqI 8 15=false from rfl,show eqI 8 16=false from rfl,show eqI 8 17=false from rfl,show eqI 8 18=false from rfl,show eqI 8 19=false from rfl,l1,l2,c1,Bool.not_true,Bool.not_false,cond_true,cond_false,aD,bP,wz,bO,cU,bG,cV,Bool.and_true,Bool.true_or,Bool.or_true,true_and,forall_const,q_1,Bool.false_eq_true,false_implies,and_true]
   rfl
theorem bQE{t:Int}{m:MM}{x:aQ}(hm:m.Ok t)(h:InsOk x)(h2:qC x):(BI m x).Ok t:=by
 obtain⟨r3,r4,r5⟩:=rH hm h.hs h.ho (UQ h h2) h.he;have t0:=hm.r.t0;unfold BI;generalize dT m x.Size x.Ea=q at r3 r4 r5;obtain⟨q1,v,a⟩:=q;have hd:=iI (s:=x.Size) (v:=cX q1.r.d x.Reg) h.hs;obtain⟨w1,w2⟩:=aTY (x:=x) (f:=q1.r.fl) h.hs r3.r.fw hd r4;dsimp only at r4 w1 w2 hd r3⊢;have lv:=kE h.hs w1;refine cF (P:=fun z=>MM.Ok t z) (fun _=>r3) fun _=>cF (P:=fun z=>MM.Ok t z) (fun _=>⟨r3.r.setF (bIT hd r4 r3.r.fw).2,r3.b⟩) fun _=>?_
 exact⟨ND (r3.r.setF w2) h.hr lv.1 (fun e=>by have:=lv.2.2 e;omega) (by omega),r3.b⟩
end Go.Proofs.YtdipcnijfkdnfaaGreatIrqs

namespace Go.Proofs.YtdipcnijfkdnfaaGreatIrqs
open Bool renaming true_eq_false → q_1
open Bool renaming false_eq_true → q_2
open Go Go.Zq
set_option maxHeartbeats 4000000
set_option maxRecDepth 100000
theorem aTZ{v:Int}(h:cI v 0 1023=true):dC (bH v 256) 0=eqI (v/256%2) 1∧dC (bH v 512) 0=eqI (v/512%2) 1:=by
 rw[aR]at h;obtain⟨n,rfl⟩:=Int.eq_ofNat_of_zero_le h.1;have key: ∀n:Fin 1024,dC (bH (n.val:Int) 256) 0=eqI ((n.val:Int)/256%2) 1∧dC (bH (n.val:Int) 512) 0=eqI ((n.val:Int)/512%2) 1:=by decide+kernel
 exact key ⟨n,by omega⟩
theorem aDO{t v:Int}{r:RM}(h:r.Ok t)(hv:cI v 0 1023=true):aW5 r.g v=true∧aFN r.g v=(dN r v).g:=by
 refine aK (t:=a5S r.g v) (P:=fun q=>q=(dN r v).g) ?_
 obtain⟨b1,b2,b3,b4,b5,-,-⟩:=zV h;obtain⟨c1,c2⟩:=aTZ hv;have hv':=aR.1 hv;have e1:bH v 31=v%32:=i6 5 _ (by omega) (by decide)
 have e2:bH (eZ v 5) 7=v/32%8:=by rw[kQ (n:=5) 5 rfl (by omega)];exact i6 3 _ (by omega) (by decide)
 unfold a5S dN;simp only[aB,aJ,aA,aLO,eQ,cJ,cC,bT,eS,eT,aW,cM,aV,bL,aU,aT,bA,bI,b1,b2,b3,b4,b5,c1,c2,e1,e2,dX,List.length_set,aD,bP,wz,bO,cU,bG,cV,Bool.and_true,Bool.true_or,Bool.or_true,true_and];cases hs:eqI (v/256%2) 1<;>cases hp:r.sup<;>simp[vG]<;>rfl
theorem EQ{t v:Int}{r:RM}(h:r.Ok t):(dN r v).Ok t:=by
 have q:=aDH h;have t0:=h.t0;have f:cI (v%32) 0 31=true:=aR.2 (by omega)
 have k:cI (v/32%8) 0 (t-65528)=true:=aR.2 (by omega)
 have o:=aR.1 h.ow;unfold dN;exact cF (P:=fun z=>RM.Ok t z) (fun _=>⟨h.t0,h.t1,h.d4,h.a4,h.dw,h.aw,h.ow,h.pw,f,k⟩) (fun _=>⟨h.t0,h.t1,h.d4,by simpa using h.a4,h.dw,sG h.aw o.1 o.2,aR.2 q,h.pw,f,k⟩)
theorem aF2{t:Int}{r:RM}(h:r.Ok t):bE7 r.g=true∧a5O r.g=fJ r:=by
 refine aK (t:=a5N r.g) (P:=fun q=>q=fJ r) ?_
 have f:=aR.1 h.fw;have k:=aR.1 h.mw;have t1:=h.t1;have e1:dH 32 r.mask=32*r.mask:=hJ (by omega)
 have b1: ∀(b:Bool)(n:Int),(bif b then n else 0)=0∨(bif b then n else 0)=n:=fun b n=>by cases b<;>simp
 have c1:=b1 r.sup 256;have c2:=b1 r.tr 512;unfold a5N fJ;simp only[aB,aA,eQ,cJ,cC,bT,eS,eT,aW,cM,aV,bL,aU,aT,(fK _ _).1,(fK _ _).2,e1,aD,bP,wz,bO,cU,bG,cV,Bool.and_true,Bool.true_or,Bool.or_true,true_and];rw[bV (x:=r.fl) (by omega),bV (x:=r.fl+32*r.mask) (by omega),bV (by omega)]
theorem US{t:Int}{r:RM}(h:r.Ok t):0≤fJ r∧fJ r≤65535:=by
 have f:=aR.1 h.fw;have k:=aR.1 h.mw;have t1:=h.t1;have b1: ∀(b:Bool)(n:Int),(bif b then n else 0)=0∨(bif b then n else 0)=n:=fun b n=>by cases b<;>simp
 have c1:=b1 r.sup 256;have c2:=b1 r.tr 512;unfold fJ;omega
noncomputable def wX(x:aQ)(f v:Int):Int×Int:=
 bif eqI x.Sub 1 then((0-v)%cD x.Size,IB x.Size 0 v)else bif eqI x.Sub 2 then(cD x.Size-1-v,hY x.Size f (cD x.Size-1-v))else(v,hY x.Size f v)
def fG(m:MM)(x:aQ):MM×Int×Int:=bif eqI x.Sub 0 then((kI m x.Size x.Ea).1,0,(kI m x.Size x.Ea).2)else dT m x.Size x.Ea
noncomputable def DW(x:aQ)(q:MM)(a:Int)(w:Int×Int):MM:=
 bif !cG q then q else
 bif ltI x.Sub 3 then{eL q x.Size x.Ea a w.1 with r:={(eL q x.Size x.Ea a w.1).r with fl:=w.2}}else{q with r:={q.r with fl:=w.2}}
noncomputable def NE(m:MM)(x:aQ):MM:=DW x (fG m x).1 (fG m x).2.2 (wX x (fG m x).1.r.fl (fG m x).2.1)
theorem b52{x:aQ}(h:x.Op=11):kB x=bif (bif eqI x.Reg 0 then leI x.Sub 3 else false)then aDF x.Ea.Mode else false:=by
 unfold kB;rw[h];rfl
theorem aF3{m:Int}(h:aDF m=true):m=0∨(2≤m∧m≤6):=by
 unfold aDF aFY at h;cases e:eqI m 0
 ·rw[e,cond_false,aR]at h;exact Or.inr h
 ·exact Or.inl (dS.1 e)
theorem UT{x:aQ}(h:InsOk x)(h2:x.Op=11):x.Sub≤3∧(x.Ea.Mode=0∨(2≤x.Ea.Mode∧x.Ea.Mode≤6)):=by
 have hk:=h.kb;rw[b52 h2]at hk;cases e1:eqI x.Reg 0
 ·rw[e1]at hk;simp at hk
 ·cases e2:leI x.Sub 3
  ·rw[e1,e2]at hk;simp at hk
  ·rw[e1,e2]at hk;exact⟨mY.1 e2,aF3 hk⟩
theorem aDP{t:Int}{m:MM}{x:aQ}(hm:m.Ok t)(h:InsOk x)(h2:x.Op=11):(fG m x).1.Ok t∧dK x.Size (fG m x).2.1=true∧cI (fG m x).2.2 0 65535=true:=by
 obtain⟨k1,k2⟩:=UT h h2;obtain⟨p1,p2⟩:=DV (s:=x.Size) hm h.ho;unfold fG;exact cF (P:=fun z:MM×Int×Int=>z.1.Ok t∧dK x.Size z.2.1=true∧cI z.2.2 0 65535=true) (fun _=>⟨p1,KC h.hs,p2⟩) (fun _=>rH hm h.hs h.ho (fun _ e=>by omega) (fun _ e=>by omega))
theorem PA{x:aQ}{f v:Int}(hs:x.Size=1∨x.Size=2)(hf:cI f 0 31=true)(hv:dK x.Size v=true):dK x.Size (wX x f v).1=true∧cI (wX x f v).2 0 31=true:=by
 unfold wX;refine cF (P:=fun z:Int×Int=>dK x.Size z.1=true∧cI z.2 0 31=true) (fun _=>⟨iI hs,aDJ _ _ _ _⟩) fun _=>?_
 refine cF (P:=fun z:Int×Int=>dK x.Size z.1=true∧cI z.2 0 31=true) (fun _=>⟨?_,(oN hs hf).2⟩) fun _=>⟨hv,(oN hs hf).2⟩
 have:=kE hs hv;rcases hs with e|e
 ·rw[e]at this hv⊢;have:=this.2.2 rfl;refine DT (Or.inl rfl) ?_ ?_ (fun _=>?_)<;>(show _≤_;simp only[cD,show eqI 1 1=true from rfl,cond_true];omega)
 ·rw[e];refine DT (Or.inr rfl) ?_ ?_ (fun h=>absurd h (by decide))<;>(show _≤_;simp only[cD,show eqI 2 1=false from rfl,cond_false];omega)
theorem bQF{t:Int}{m:MM}{x:aQ}(hm:m.Ok t)(h:InsOk x)(h2:x.Op=11):(NE m x).Ok t:=by
 obtain⟨q1,q2,q3⟩:=aDP hm h h2;obtain⟨v1,v2⟩:=PA (f:=(fG m x).1.r.fl) h.hs q1.r.fw q2;have w:=zW q1 h.hs h.ho q3 v1;unfold NE DW;refine cF (P:=fun z=>MM.Ok t z) (fun _=>q1) fun _=>cF (P:=fun z=>MM.Ok t z) (fun _=>⟨w.r.setF v2,w.b⟩) (fun _=>⟨q1.r.setF v2,q1.b⟩)
theorem b53{t:Int}{m:MM}{x:aQ}(hm:m.Ok t)(h:InsOk x)(h2:x.Op=11):bOQ x m.g=true∧a6Q x m.g=(NE m x).g:=by
 refine aK (t:=a6P x m.g) (P:=fun q=>q=(NE m x).g) ?_
 obtain⟨k1,k2⟩:=UT h h2;have hb:=aR.1 h.hb;obtain⟨q1,q2,q3⟩:=aDP hm h h2;obtain⟨v1,v2⟩:=PA (f:=(fG m x).1.r.fl) h.hs q1.r.fw q2;obtain⟨w1,w2⟩:=aTW q1 h.hs h.ho q3 v1;have lg: ∀v,DI x.Size (fG m x).1.r.fl v=true:=fun v=>(oN h.hs q1.r.fw).1
 obtain⟨b1,b2⟩:=a8P (s:=x.Size) (a:=0) (KC h.hs) q2;have lv:=kE h.hs q2;have lr:=rC h.hs;have e3:cN (cD x.Size) 1=cD x.Size-1:=eV (by omega)
 have e4:cN (cD x.Size-1) (fG m x).2.1=cD x.Size-1-(fG m x).2.1:=eV (by omega)
 obtain⟨r1,r2⟩:=aDM hm h.hs h.ho;obtain⟨p1,p2⟩:=aTV (s:=x.Size) hm h.ho;unfold a6P NE;have hsub:x.Sub=0∨x.Sub=1∨x.Sub=2∨x.Sub=3:=by omega
 rcases hsub with e|e|e|e
 ·have hq:fG m x=((kI m x.Size x.Ea).1,0,(kI m x.Size x.Ea).2):=by unfold fG;rw[e];rfl
  have hv:wX x (fG m x).1.r.fl (fG m x).2.1=((fG m x).2.1,hY x.Size (fG m x).1.r.fl (fG m x).2.1):=by unfold wX;rw[e];rfl
  have l3:ltI x.Sub 3=true:=by rw[e];rfl
  rw[hv]at v1 w1 w2⊢;rw[hq]at b1 b2 e4 w1 w2 lg⊢;dsimp only at b1 b2 e4 w1 w2 lg⊢;unfold DW;cases hfi:eqI ((kI m x.Size x.Ea).1).f.Vector 0
  ·simp only[aB,aJ,aA,yV,uF,yU,yT,wJ,yS,yR,uE,yQ,yP,eQ,cJ,cC,bT,eS,eT,aW,cM,aV,bL,aU,aT,r1,r2,p1,p2,eH,cG,hfi,e,show eqI 0 0=true from rfl,show eqI 0 1=false from rfl,show eqI 0 2=false from rfl,show eqI 0 3=false from rfl,Bool.not_false,cond_true,cond_false,aD,bP,wz,bO,cU,bG,cV,Bool.and_true,Bool.true_or,Bool.or_true,true_and,forall_const,q_1,q_2,false_implies,and_true,implies_true]
  ·simp only[aB,aJ,aA,yV,uF,yU,yT,wJ,yS,yR,uE,yQ,yP,eQ,cJ,cC,bT,eS,eT,aW,cM,aV,bL,aU,aT,fX,lA,r1,r2,p1,p2,eH,cG,hfi,e,show eqI 0 0=true from rfl,show eqI 0 1=false from rfl,show eqI 0 2=false from rfl,show eqI 0 3=false from rfl,(kY h.hs).1,(kY h.hs).2,b1,b2,lg,e3,e4,w1,w2,l3,show ltI 0 3=true from rfl,Bool.not_true,Bool.not_false,cond_true,cond_false,aD,bP,wz,bO,cU,bG,cV,Bool.and_true,Bool.true_or,Bool.or_true,true_and,forall_const,q_1,q_2,false_implies,and_true,implies_true]
 ·have hq:fG m x=dT m x.Size x.Ea:=by unfold fG;rw[e];rfl
  have hv:wX x (fG m x).1.r.fl (fG m x).2.1=((0-(fG m x).2.1)%cD x.Size,IB x.Size 0 (fG m x).2.1):=by unfold wX;rw[e];rfl
  have l3:ltI x.Sub 3=true:=by rw[e];rfl
  rw[hv]at v1 w1 w2⊢;rw[hq]at b1 b2 e4 w1 w2 lg⊢;dsimp only at b1 b2 e4 w1 w2 lg⊢;unfold DW;cases hfi:eqI ((dT m x.Size x.Ea).1).f.Vector 0
  ·simp only[aB,aJ,aA,yV,uF,yU,yT,wJ,yS,yR,uE,yQ,yP,eQ,cJ,cC,bT,eS,eT,aW,cM,aV,bL,aU,aT,r1,r2,p1,p2,eH,cG,hfi,e,show eqI 1 0=false from rfl,show eqI 1 1=true from rfl,show eqI 1 2=false from rfl,show eqI 1 3=false from rfl,Bool.not_false,cond_true,cond_false,aD,bP,wz,bO,cU,bG,cV,Bool.and_true,Bool.true_or,Bool.or_true,true_and,forall_const,q_1,q_2,false_implies,and_true,implies_true]
  ·simp only[aB,aJ,aA,yV,uF,yU,yT,wJ,yS,yR,uE,yQ,yP,eQ,cJ,cC,bT,eS,eT,aW,cM,aV,bL,aU,aT,fX,lA,r1,r2,p1,p2,eH,cG,hfi,e,show eqI 1 0=false from rfl,show eqI 1 1=true from rfl,show eqI 1 2=false from rfl,show eqI 1 3=false from rfl,(kY h.hs).1,(kY h.hs).2,b1,b2,lg,e3,e4,w1,w2,l3,show ltI 1 3=true from rfl,Bool.not_true,Bool.not_false,cond_true,cond_false,aD,bP,wz,bO,cU,bG,cV,Bool.and_true,Bool.true_or,Bool.or_true,true_and,forall_const,q_1,q_2,false_implies,and_true,implies_true]
 ·have hq:fG m x=dT m x.Size x.Ea:=by unfold fG;rw[e];rfl
  have hv:wX x (fG m x).1.r.fl (fG m x).2.1=(cD x.Size-1-(fG m x).2.1,hY x.Size (fG m x).1.r.fl (cD x.Size-1-(fG m x).2.1)):=by unfold wX;rw[e];rfl
  have l3:ltI x.Sub 3=true:=by rw[e];rfl
  rw[hv]at v1 w1 w2⊢;rw[hq]at b1 b2 e4 w1 w2 lg⊢;dsimp only at b1 b2 e4 w1 w2 lg⊢;unfold DW;cases hfi:eqI ((dT m x.Size x.Ea).1).f.Vector 0
  ·simp only[aB,aJ,aA,yV,uF,yU,yT,wJ,yS,yR,uE,yQ,yP,eQ,cJ,cC,bT,eS,eT,aW,cM,aV,bL,aU,aT,r1,r2,p1,p2,eH,cG,hfi,e,show eqI 2 0=false from rfl,show eqI 2 1=false from rfl,show eqI 2 2=true from rfl,show eqI 2 3=false from rfl,Bool.not_false,cond_true,cond_false,aD,bP,wz,bO,cU,bG,cV,Bool.and_true,Bool.true_or,Bool.or_true,true_and,forall_const,q_1,q_2,false_implies,and_true,implies_true]
  ·simp only[aB,aJ,aA,yV,uF,yU,yT,wJ,yS,yR,uE,yQ,yP,eQ,cJ,cC,bT,eS,eT,aW,cM,aV,bL,aU,aT,fX,lA,r1,r2,p1,p2,eH,cG,hfi,e,show eqI 2 0=false from rfl,show eqI 2 1=false from rfl,show eqI 2 2=true from rfl,show eqI 2 3=false from rfl,(kY h.hs).1,(kY h.hs).2,b1,b2,lg,e3,e4,w1,w2,l3,show ltI 2 3=true from rfl,Bool.not_true,Bool.not_false,cond_true,cond_false,aD,bP,wz,bO,cU,bG,cV,Bool.and_true,Bool.true_or,Bool.or_true,true_and,forall_const,q_1,q_2,false_implies,and_true,implies_true]
 ·have hq:fG m x=dT m x.Size x.Ea:=by unfold fG;rw[e];rfl
  have hv:wX x (fG m x).1.r.fl (fG m x).2.1=((fG m x).2.1,hY x.Size (fG m x).1.r.fl (fG m x).2.1):=by unfold wX;rw[e];rfl
  have l3:ltI x.Sub 3=false:=by rw[e];rfl
  rw[hv]at v1 w1 w2⊢;rw[hq]at b1 b2 e4 w1 w2 lg⊢;dsimp only at b1 b2 e4 w1 w2 lg⊢;unfold DW;cases hfi:eqI ((dT m x.Size x.Ea).1).f.Vector 0
  ·simp only[aB,aJ,aA,yV,uF,yU,yT,wJ,yS,yR,uE,yQ,yP,eQ,cJ,cC,bT,eS,eT,aW,cM,aV,bL,aU,aT,r1,r2,p1,p2,eH,cG,hfi,e,show eqI 3 0=false from rfl,show eqI 3 1=false from rfl,show eqI 3 2=false from rfl,show eqI 3 3=true from rfl,Bool.not_false,cond_true,cond_false,aD,bP,wz,bO,cU,bG,cV,Bool.and_true,Bool.true_or,Bool.or_true,true_and,forall_const,q_1,q_2,false_implies,and_true,implies_true]
  ·simp only[aB,aJ,aA,yV,uF,yU,yT,wJ,yS,yR,uE,yQ,yP,eQ,cJ,cC,bT,eS,eT,aW,cM,aV,bL,aU,aT,fX,lA,r1,r2,p1,p2,eH,cG,hfi,e,show eqI 3 0=false from rfl,show eqI 3 1=false from rfl,show eqI 3 2=false from rfl,show eqI 3 3=true from rfl,(kY h.hs).1,(kY h.hs).2,b1,b2,lg,e3,e4,w1,w2,l3,show ltI 3 3=false from rfl,Bool.not_true,Bool.not_false,cond_true,cond_false,aD,bP,wz,bO,cU,bG,cV,Bool.and_true,Bool.true_or,Bool.or_true,true_and,forall_const,q_1,q_2,false_implies,and_true,implies_true]
end Go.Proofs.YtdipcnijfkdnfaaGreatIrqs

namespace Go.Proofs.YtdipcnijfkdnfaaGreatIrqs
open Go Go.Zq
set_option maxHeartbeats 4000000
set_option maxRecDepth 100000
theorem bIU(a:Int):bM5 a=true∧bM4 a=cI a 0 1:=by
 refine aK (t:=a4J a) (P:=fun r=>r=cI a 0 1) ?_
 unfold a4J;simp only[aB,aA,lS,lT,Bool.and_true,true_and]
theorem a8T(c o z n:Bool):gB (fl c o z n) 16=bH (fl c o z n) 15:=by
 cases c<;>cases o<;>cases z<;>cases n<;>decide
theorem aT0(f:Int):bKR f=true∧bKQ f=cI f 0 31:=by
 refine aK (t:=a1N f) (P:=fun r=>r=cI f 0 31) ?_
 unfold a1N;simp only[aB,aA,lS,lT,Bool.and_true,true_and]
theorem aT1(f:Int):bNM f=true∧bNL f=cI f 0 31:=by
 refine aK (t:=a4Y f) (P:=fun r=>r=cI f 0 31) ?_
 unfold a4Y;simp only[aB,aA,uL,uM,Bool.and_true,true_and]
theorem b54(a:Int):bOY a=true∧bF2 a=(bif dK 1 a then(bH (zU 1 a) 65535,true)else(0,false)):=by
 refine aK (t:=a62 a) (P:=fun r=>r=(bif dK 1 a then(bH (zU 1 a) 65535,true)else(0,false))) ?_
 unfold a62;simp only[aB,aJ,aA,(XV _ _).1,(XV _ _).2,Bool.and_true,true_and];cases ha:dK 1 a
 ·simp
 ·obtain⟨-,h0,h1⟩:=pS ha;obtain⟨p1,p2⟩:=FU (s:=1) (v:=a) (Or.inl rfl) h0 (by unfold cD at h1;rw[show eqI 1 1=true from rfl,cond_true]at h1;omega)
  rw[p1,p2];simp
def X0(a:Int):Int×Bool:=bif cI a 0 65535 then(eW (eZ a 8) (m7 (bH a 255) 8),true)else(0,false)
theorem bQG(a:Int):bOV a=true∧bF0 a=X0 a:=by
 refine aK (t:=a60 a) (P:=fun r=>r=X0 a) ?_
 unfold a60 X0;have e:dK 2 a=cI a 0 65535:=rfl;simp only[aB,aJ,aA,(XV _ _).1,(XV _ _).2,e,Bool.and_true,true_and];cases cI a 0 65535<;>simp
end Go.Proofs.YtdipcnijfkdnfaaGreatIrqs

namespace Go.Proofs.YtdipcnijfkdnfaaGreatIrqs
open Bool renaming and_true → qt
open Bool renaming true_eq_false → q_1
open Bool renaming false_eq_true → q_2
open Bool renaming true_or → q_3
open Bool renaming not_false → q_4
open Bool renaming not_true → q_5
open Bool renaming or_true → q_6
open Nat renaming zero_add → q_9
open Go Go.Zq
set_option maxHeartbeats 4000000
set_option maxRecDepth 100000
def DX(v:Int):Int:=(X0 v).1
theorem UU{v:Int}:0≤DX v∧DX v≤65535:=by
 unfold DX X0;cases h:cI v 0 65535
 ·exact⟨Int.le_refl 0,(by decide:(0:Int)≤65535)⟩
 ·rw[aR]at h;rw[cond_true];have e1:eZ v 8=v/256:=bP8;have e2:m7 (bH v 255) 8=v%256*256:=by rw[yZ h.1 (by omega),bGE (by omega) (by omega)]
  show 0≤eW (eZ v 8) (m7 (bH v 255) 8)∧eW (eZ v 8) (m7 (bH v 255) 8)≤65535
  rw[e1,e2];exact(KD ⟨by omega,by omega⟩ ⟨by omega,by omega⟩).2.1
def V3(v:Int):Int:=bH (zU 1 (v%256)) 65535
theorem aT2{v:Int}:0≤V3 v∧V3 v≤65535:=by
 unfold V3;rw[tH];exact b5U _
noncomputable def DY(m:MM)(x:aQ):MM:=
 bif eqI x.Sub 0 then{(dM m).1 with r:={(dM m).1.r with pc:=(dM m).2}}
 else bif eqI x.Sub 1 then
  (bif !cG (dM m).1 then(dM m).1 else
   bif cG (dM (dM m).1).1 then{(dM (dM m).1).1 with r:=dN {(dM (dM m).1).1.r with pc:=(dM (dM m).1).2} ((dM m).2%1024)}else(dM (dM m).1).1)
 else bif eqI x.Sub 3 then{m with r:=dN m.r x.Ea.Ext,stop:=true}
 else bif eqI x.Sub 4 then zE m (18+x.Reg)
 else bif eqI x.Sub 5 then BQ m 2 x.Reg (DX (cX m.r.d x.Reg))
 else bif eqI x.Sub 6 then BQ m 2 x.Reg (V3 (cX m.r.d x.Reg))else m
theorem a8U{x:aQ}(h:x.Op=15):kB x=J9 x:=bIQ x h
theorem X1{x:aQ}(h:InsOk x)(h2:x.Op=15):x.Sub=3→x.Ea.Ext≤1023:=by
 intro e;have hk:=h.kb;rw[a8U h2]at hk;unfold J9 at hk;rw[e]at hk;simp only[show kU 3 6=false from rfl,show eqI 3 3=true from rfl,cond_true]at hk
 cases e1:dC x.Size 2
 ·rw[e1]at hk;simp only[cond_false]at hk;cases e2:eqI x.Reg 0
  ·rw[e2]at hk;simp at hk
  ·rw[e2,cond_true]at hk;unfold UI at hk;cases e3:eqI x.Ea.Mode 7
   ·rw[e3]at hk;simp at hk
   ·rw[e3,cond_true,mY]at hk;exact hk
 ·rw[e1]at hk;simp at hk
theorem UV:(2:Int)=1∨(2:Int)=2:=Or.inr rfl
theorem oS{P:Prop}:(2:Int)=1→P:=fun h=>absurd h (by decide)
theorem bGO{t:Int}{m:MM}{x:aQ}(hm:m.Ok t)(h:InsOk x):(DY m x).Ok t:=by
 obtain⟨p1,p2,p3⟩:=IC hm;obtain⟨q1,q2,q3⟩:=IC p1;have t0:=hm.r.t0;have s:=UU (v:=cX m.r.d x.Reg);have e:=aT2 (v:=cX m.r.d x.Reg);unfold DY;refine cF (P:=fun z=>MM.Ok t z) (fun _=>⟨p1.r.setP (aR.2 ⟨p2,p3⟩),p1.b⟩) fun _=>?_
 refine cF (P:=fun z=>MM.Ok t z) (fun _=>cF (P:=fun z=>MM.Ok t z) (fun _=>p1) fun _=>cF (P:=fun z=>MM.Ok t z) (fun _=>⟨EQ (q1.r.setP (aR.2 ⟨q2,q3⟩)),q1.b⟩) fun _=>q1) fun _=>?_
 refine cF (P:=fun z=>MM.Ok t z) (fun _=>⟨EQ hm.r,hm.b⟩) fun _=>?_
 refine cF (P:=fun z=>MM.Ok t z) (fun _=>⟨hm.r,hm.b⟩) fun _=>?_
 refine cF (P:=fun z=>MM.Ok t z) (fun _=>O9 hm UV h.hr s.1 oS (by omega)) fun _=>?_
 exact cF (P:=fun z=>MM.Ok t z) (fun _=>O9 hm UV h.hr e.1 oS (by omega)) fun _=>hm
theorem bQH{t:Int}{m:MM}{x:aQ}(hm:m.Ok t)(h:InsOk x)(h2:x.Op=15):bOZ x m.g=true∧a64 x m.g=(DY m x).g:=by
 refine aK (t:=a63 x m.g) (P:=fun q=>q=(DY m x).g) ?_
 obtain⟨p1,p2,p3⟩:=IC hm;obtain⟨q1,q2,q3⟩:=IC p1;obtain⟨a1,a2⟩:=bIS hm;obtain⟨b1,b2⟩:=bIS p1;have hr:=aR.1 h.hr;have c1:bH (dM m).2 1023=(dM m).2%1024:=i6 10 _ (by omega) (by decide)
 have c0:cI ((dM m).2%1024) 0 1023=true:=aR.2 (by omega)
 obtain⟨d1,d2⟩:=aDO (v:=(dM m).2%1024) (q1.r.setP (aR.2 ⟨q2,q3⟩)) c0;have e1:bE 18 x.Reg=18+x.Reg:=bV (by omega)
 obtain⟨f1,f2⟩:=aTX m (18+x.Reg);obtain⟨i1,i2,i3⟩:=jQ hm.r.d4 h.hr;obtain⟨s1,s2,s3,s4,s5⟩:=f9 (v:=0) hm.r.d4 h.hr;rw[q_9]at s5;obtain⟨j1,j2⟩:=bQG (cX m.r.d x.Reg);have sr:=UU (v:=cX m.r.d x.Reg);obtain⟨l1,l2⟩:=aDN (v:=DX (cX m.r.d x.Reg)) hm UV h.hr oS;obtain⟨u1,u2⟩:=aDN (v:=V3 (cX m.r.d x.Reg)) hm UV h.hr oS;have dr:=nU hm.r.dw hm.r.d4 h.hr;have t1:=hm.r.t1;have m8:bH (cX m.r.d x.Reg) 255=cX m.r.d x.Reg%256:=yZ dr.1 (by omega)
 have v1:dK 1 (cX m.r.d x.Reg%256)=true:=iI (s:=1) (Or.inl rfl);obtain⟨w1,w2⟩:=b54 (cX m.r.d x.Reg%256);rw[v1,cond_true]at w2;unfold a63 DY;unfold DX at l1 l2;unfold V3 at u1 u2;have hsub:x.Sub=0∨x.Sub=1∨x.Sub=2∨x.Sub=3∨x.Sub=4∨x.Sub=5∨x.Sub=6∨x.Sub=7:=by have:=aR.1 h.hb;omega
 rcases hsub with e|e|e|e|e|e|e|e
 ·simp only[aB,aJ,aA,uJ,uI,uH,wQ,wP,uG,wO,wN,wM,wL,eQ,cJ,cC,bT,eS,eT,aW,cM,aV,bL,aU,aT,q_9,bA,bI,kF,fX,lA,eH,e,show eqI 0 0=true from rfl,show eqI 0 1=false from rfl,show eqI 0 2=false from rfl,show eqI 0 3=false from rfl,show eqI 0 4=false from rfl,show eqI 0 5=false from rfl,show eqI 0 6=false from rfl,show eqI 0 7=false from rfl,q_5,q_4,cond_true,cond_false,aD,bP,wz,bO,cU,bG,cV,qt,q_3,q_6,true_and,forall_const,q_1,q_2,false_implies,and_true,implies_true,a1,a2]
 ·cases hf:eqI (dM m).1.f.Vector 0
  ·simp only[aB,aJ,aA,uJ,uI,uH,wQ,wP,uG,wO,wN,wM,wL,eQ,cJ,cC,bT,eS,eT,aW,cM,aV,bL,aU,aT,q_9,bA,bI,kF,fX,lA,eH,e,show eqI 1 0=false from rfl,show eqI 1 1=true from rfl,show eqI 1 2=false from rfl,show eqI 1 3=false from rfl,show eqI 1 4=false from rfl,show eqI 1 5=false from rfl,show eqI 1 6=false from rfl,show eqI 1 7=false from rfl,q_5,q_4,cond_true,cond_false,aD,bP,wz,bO,cU,bG,cV,qt,q_3,q_6,true_and,forall_const,q_1,q_2,false_implies,and_true,implies_true,a1,a2,cG,hf]
  ·simp only[aB,aJ,aA,uJ,uI,uH,wQ,wP,uG,wO,wN,wM,wL,eQ,cJ,cC,bT,eS,eT,aW,cM,aV,bL,aU,aT,q_9,bA,bI,kF,fX,lA,eH,e,show eqI 1 0=false from rfl,show eqI 1 1=true from rfl,show eqI 1 2=false from rfl,show eqI 1 3=false from rfl,show eqI 1 4=false from rfl,show eqI 1 5=false from rfl,show eqI 1 6=false from rfl,show eqI 1 7=false from rfl,q_5,q_4,cond_true,cond_false,aD,bP,wz,bO,cU,bG,cV,qt,q_3,q_6,true_and,forall_const,q_1,q_2,false_implies,and_true,implies_true,a1,a2,b1,b2,c1,d1,d2,cG,hf]
   refine⟨fun q=>?_,fun q=>?_⟩
   ·rw[q];rfl
   ·rw[q];rfl
 ·simp only[aB,aJ,aA,uJ,uI,uH,wQ,wP,uG,wO,wN,wM,wL,eQ,cJ,cC,bT,eS,eT,aW,cM,aV,bL,aU,aT,q_9,bA,bI,kF,fX,lA,eH,e,show eqI 2 0=false from rfl,show eqI 2 1=false from rfl,show eqI 2 2=true from rfl,show eqI 2 3=false from rfl,show eqI 2 4=false from rfl,show eqI 2 5=false from rfl,show eqI 2 6=false from rfl,show eqI 2 7=false from rfl,q_5,q_4,cond_true,cond_false,aD,bP,wz,bO,cU,bG,cV,qt,q_3,q_6,true_and,forall_const,q_1,q_2,false_implies,and_true,implies_true]
 ·obtain⟨z1,z2⟩:=aDO (v:=x.Ea.Ext) hm.r (aR.2 ⟨(aR.1 h.ho.he).1,X1 h h2 e⟩);simp only[aB,aJ,aA,uJ,uI,uH,wQ,wP,uG,wO,wN,wM,wL,eQ,cJ,cC,bT,eS,eT,aW,cM,aV,bL,aU,aT,q_9,bA,bI,kF,fX,lA,eH,e,show eqI 3 0=false from rfl,show eqI 3 1=false from rfl,show eqI 3 2=false from rfl,show eqI 3 3=true from rfl,show eqI 3 4=false from rfl,show eqI 3 5=false from rfl,show eqI 3 6=false from rfl,show eqI 3 7=false from rfl,q_5,q_4,cond_true,cond_false,aD,bP,wz,bO,cU,bG,cV,qt,q_3,q_6,true_and,forall_const,q_1,q_2,false_implies,and_true,implies_true,z1,z2]
  rfl
 ·simp only[aB,aJ,aA,uJ,uI,uH,wQ,wP,uG,wO,wN,wM,wL,eQ,cJ,cC,bT,eS,eT,aW,cM,aV,bL,aU,aT,q_9,bA,bI,kF,fX,lA,eH,e,show eqI 4 0=false from rfl,show eqI 4 1=false from rfl,show eqI 4 2=false from rfl,show eqI 4 3=false from rfl,show eqI 4 4=true from rfl,show eqI 4 5=false from rfl,show eqI 4 6=false from rfl,show eqI 4 7=false from rfl,q_5,q_4,cond_true,cond_false,aD,bP,wz,bO,cU,bG,cV,qt,q_3,q_6,true_and,forall_const,q_1,q_2,false_implies,and_true,implies_true,e1,f1,f2]
 ·simp only[aB,aJ,aA,uJ,uI,uH,wQ,wP,uG,wO,wN,wM,wL,eQ,cJ,cC,bT,eS,eT,aW,cM,aV,bL,aU,aT,q_9,bA,bI,kF,fX,lA,eH,e,show eqI 5 0=false from rfl,show eqI 5 1=false from rfl,show eqI 5 2=false from rfl,show eqI 5 3=false from rfl,show eqI 5 4=false from rfl,show eqI 5 5=true from rfl,show eqI 5 6=false from rfl,show eqI 5 7=false from rfl,q_5,q_4,cond_true,cond_false,aD,bP,wz,bO,cU,bG,cV,qt,q_3,q_6,true_and,forall_const,q_1,q_2,false_implies,and_true,implies_true,i2,s3,s4,s5,j1,j2,l1,l2,DX]
 ·simp only[aB,aJ,aA,uJ,uI,uH,wQ,wP,uG,wO,wN,wM,wL,eQ,cJ,cC,bT,eS,eT,aW,cM,aV,bL,aU,aT,q_9,bA,bI,kF,fX,lA,eH,e,show eqI 6 0=false from rfl,show eqI 6 1=false from rfl,show eqI 6 2=false from rfl,show eqI 6 3=false from rfl,show eqI 6 4=false from rfl,show eqI 6 5=false from rfl,show eqI 6 6=true from rfl,show eqI 6 7=false from rfl,q_5,q_4,cond_true,cond_false,aD,bP,wz,bO,cU,bG,cV,qt,q_3,q_6,true_and,forall_const,q_1,q_2,false_implies,and_true,implies_true,i2,s3,s4,s5,m8,w1,w2,u1,u2,V3]
 ·simp only[aB,aJ,aA,uJ,uI,uH,wQ,wP,uG,wO,wN,wM,wL,eQ,cJ,cC,bT,eS,eT,aW,cM,aV,bL,aU,aT,q_9,bA,bI,kF,fX,lA,eH,e,show eqI 7 0=false from rfl,show eqI 7 1=false from rfl,show eqI 7 2=false from rfl,show eqI 7 3=false from rfl,show eqI 7 4=false from rfl,show eqI 7 5=false from rfl,show eqI 7 6=false from rfl,show eqI 7 7=true from rfl,q_5,q_4,cond_true,cond_false,aD,bP,wz,bO,cU,bG,cV,qt,q_3,q_6,true_and,forall_const,q_1,q_2,false_implies,and_true,implies_true]
noncomputable def X2(m:MM)(x:aQ)(v:Int):MM:=
 bif eqI x.Op 16 then{BQ m 2 x.Reg (cX m.r.d x.Reg*v%65536)with r:={(BQ m 2 x.Reg (cX m.r.d x.Reg*v%65536)).r with fl:=eW (BQ m 2 x.Reg (cX m.r.d x.Reg*v%65536)).r.fl (bif kU (cX m.r.d x.Reg*v) 65535 then 2 else 0)}}
 else bif eqI v 0 then zE m 5 else BQ m 2 x.Reg (cX m.r.d x.Reg/v)
noncomputable def kC(m:MM)(x:aQ):MM:=bif !cG (dT m 2 x.Ea).1 then(dT m 2 x.Ea).1 else X2 (dT m 2 x.Ea).1 x (dT m 2 x.Ea).2.1
theorem aDQ{d v:Int}(h0:0≤d)(h1:0<v)(h2:d≤65536):lQ d v=d/v∧0≤d/v∧d/v≤d:=by
 have e:=Int.tdiv_eq_ediv_of_nonneg (b:=v) h0;have p:0≤d/v:=Int.ediv_nonneg h0 (by omega)
 have q:d/v≤d:=Int.ediv_le_self _ h0;refine⟨?_,p,q⟩;unfold lQ;rw[e,IntKind.wrap_i64];omega
theorem aT3{d v:Int}(h0:0≤d)(h1:d≤65536)(h2:0≤v)(h3:v≤65535):dH d v=d*v∧0≤d*v:=by
 have a:=Int.mul_nonneg h0 h2;have b:d*v≤65536*65535:=Int.mul_le_mul h1 h3 h2 (by decide)
 exact⟨hJ (by omega),a⟩
theorem bGP{t s k v:Int}{m:MM}(hm:m.Ok t)(hs:s=1∨s=2):cI (BQ m s k v).r.fl 0 31=true:=(oN (v:=v) hs hm.r.fw).2
theorem aNH{t:Int}{m:MM}{x:aQ}(hm:m.Ok t)(h:InsOk x):(kC m x).Ok t:=by
 obtain⟨r1,r2,r3⟩:=rH hm UV h.ho oS oS;have rv:=rD r2;have dr:=nU r1.r.dw r1.r.d4 h.hr;have t1:=hm.r.t1;have t0:=hm.r.t0;unfold kC X2;refine cF (P:=fun z=>MM.Ok t z) (fun _=>r1) fun _=>?_
 refine cF (P:=fun z=>MM.Ok t z) (fun _=>?_) fun _=>cF (P:=fun z=>MM.Ok t z) (fun _=>⟨r1.r,r1.b⟩) fun hv=>?_
 ·have d:=O9 (v:=cX (dT m 2 x.Ea).1.r.d x.Reg*(dT m 2 x.Ea).2.1%65536) r1 UV h.hr (by omega) oS (by omega)
  exact⟨d.r.setF (pU (bGP r1 UV) (vC (by decide))),d.b⟩
 ·rw[gT]at hv;obtain⟨-,p,q⟩:=aDQ (v:=(dT m 2 x.Ea).2.1) dr.1 (by omega) (by omega)
  exact O9 r1 UV h.hr p oS (by omega)
theorem X3{t:Int}{m:MM}{x:aQ}(hm:m.Ok t)(h:InsOk x):bO0 x m.g=true∧a66 x m.g=(kC m x).g:=by
 refine aK (t:=a65 x m.g) (P:=fun q=>q=(kC m x).g) ?_
 obtain⟨r1,r2,r3⟩:=rH hm UV h.ho oS oS;obtain⟨a1,a2⟩:=aDM hm UV h.ho;unfold a65 kC;generalize dT m 2 x.Ea=q at r1 r2 r3 a1 a2;obtain⟨q1,v,a⟩:=q;dsimp only at r1 r2 r3 a1 a2⊢;have rv:=rD r2;have dr:=nU r1.r.dw r1.r.d4 h.hr;have t1:=hm.r.t1;obtain⟨i1,i2,i3⟩:=jQ r1.r.d4 h.hr;obtain⟨s1,s2,s3,s4,s5⟩:=f9 (v:=0) r1.r.d4 h.hr;rw[q_9]at s5;obtain⟨e1,e2⟩:=aT3 dr.1 (by omega) rv.1 rv.2
 obtain⟨b1,b2⟩:=aDN (v:=cX q1.r.d x.Reg*v%65536) r1 UV h.hr oS;obtain⟨c1,c2⟩:=aTX q1 5;cases hf:eqI q1.f.Vector 0
 ·simp only[aB,aJ,aA,H0,M1,HZ,BA,DN,eQ,cJ,cC,bT,eS,eT,aW,cM,aV,bL,aU,aT,a1,a2,eH,cG,hf,q_5,q_4,cond_true,cond_false,aD,bP,wz,bO,cU,bG,cV,qt,q_3,q_6,true_and,forall_const,q_1,q_2,false_implies,and_true,implies_true]
 ·unfold X2;cases ho:eqI x.Op 16
  ·cases hv:eqI v 0
   ·have hv':=hv;rw[gT]at hv';obtain⟨d1,d2,d3⟩:=aDQ (v:=v) dr.1 (by omega) (by omega)
    obtain⟨j1,j2⟩:=aDN (v:=cX q1.r.d x.Reg/v) r1 UV h.hr oS;have nz:dC v 0=true:=oM.2 hv';simp only[aB,aJ,aA,H0,M1,HZ,BA,DN,eQ,cJ,cC,bT,eS,eT,aW,cM,aV,bL,aU,aT,q_9,bA,bI,a1,a2,eH,cG,hf,ho,hv,nz,i2,s3,s4,s5,d1,j1,j2,q_5,q_4,cond_true,cond_false,aD,bP,wz,bO,cU,bG,cV,qt,q_3,q_6,true_and,forall_const,q_1,q_2,false_implies,and_true,implies_true]
   ·simp only[aB,aJ,aA,H0,M1,HZ,BA,DN,eQ,cJ,cC,bT,eS,eT,aW,cM,aV,bL,aU,aT,q_9,bA,bI,a1,a2,eH,cG,hf,ho,hv,i2,s3,s4,s5,c1,c2,q_5,q_4,cond_true,cond_false,aD,bP,wz,bO,cU,bG,cV,qt,q_3,q_6,true_and,forall_const,q_1,q_2,false_implies,and_true,implies_true]
  ·simp only[aB,aJ,aA,H0,M1,HZ,BA,DN,eQ,cJ,cC,bT,eS,eT,aW,cM,aV,bL,aU,aT,q_9,bA,bI,a1,a2,eH,cG,hf,ho,i2,s3,s4,s5,e1,tH,b1,b2,(fK _ _).1,(fK _ _).2,q_5,q_4,cond_true,cond_false,aD,bP,wz,bO,cU,bG,cV,qt,q_3,q_6,true_and,forall_const,q_1,q_2,false_implies,and_true,implies_true];rfl
theorem X4(v:Int):bF3 v=true∧i7 v=(bif (bif cI v 0 255 then leI (eZ v 4) 9 else false)then leI (bH v 15) 9 else false):=by
 refine aK (t:=a67 v) (P:=fun q=>q=(bif (bif cI v 0 255 then leI (eZ v 4) 9 else false)then leI (bH v 15) 9 else false)) ?_
 unfold a67;simp only[aB,aA,uL,uM,aD,bP,wz,bO,cU,bG,cV,qt,q_3,q_6,true_and]
def Bcd(v:Int):Prop:=0≤v/16∧v/16≤9∧0≤v%16∧v%16≤9
theorem kW{v:Int}(h:i7 v=true):Bcd v:=by
 rw[(X4 v).2]at h;have e1:eZ v 4=v/16:=kQ (n:=4) 4 rfl (by omega)
 have e2:bH v 15=v%16:=i6 4 _ (by omega) (by decide)
 rw[e1,e2]at h;cases h1:cI v 0 255
 ·rw[h1]at h;simp at h
 ·cases h2:leI (v/16) 9
  ·rw[h1,h2]at h;simp at h
  ·rw[h1,h2]at h;simp only[cond_true,mY]at h;rw[mY]at h2;rw[aR]at h1;unfold Bcd;omega
theorem OF{v:Int}(h:Bcd v):aXE v=true∧J3 v=v/16*10+v%16:=by
 refine aK (t:=a68 v) (P:=fun q=>q=v/16*10+v%16) ?_
 have e1:eZ v 4=v/16:=kQ (n:=4) 4 rfl (by omega)
 have e2:bH v 15=v%16:=i6 4 _ (by omega) (by decide)
 obtain⟨h1,h2,h3,h4⟩:=h;unfold a68;simp only[aB,aA,e1,e2,true_and];rw[hJ (by omega),bV (by omega)]
theorem aNI{n:Int}(h0:0≤n)(h1:n≤99):a69 n=true∧(0≤tG n∧tG n≤255):=by
 refine aK (t:=aMS n) (P:=fun q=>0≤q∧q≤255) ?_
 have key: ∀n:Fin 100,0≤eW (m7 (lQ (n.val:Int) 10) 4) (nM (n.val:Int) 10)∧eW (m7 (lQ (n.val:Int) 10) 4) (nM (n.val:Int) 10)≤255:=by decide+kernel
 obtain⟨n,rfl⟩:=Int.eq_ofNat_of_zero_le h0;unfold aMS;simp only[aB,aA,show dC 10 0=true from rfl,show leI 0 4=true from rfl,aD,bP,wz,bO,cU,bG,cV,qt,q_3,q_6,true_and]
 exact key ⟨n,by omega⟩
def BR(r:Int×Int):Prop:=(0≤r.1∧r.1≤255)∧VL r.2
theorem aT4{c a b:Int}(hc:VL c)(ha:Bcd a)(hb:Bcd b):bO1 c a b=true∧BR (OW c a b):=by
 refine aK (t:=aMT c a b) (P:=fun q=>BR q) ?_
 obtain⟨a1,a2⟩:=OF ha;obtain⟨b1,b2⟩:=OF hb;obtain⟨h1,h2,h3,h4⟩:=ha;obtain⟨h5,h6,h7,h8⟩:=hb;have hc':0≤c∧c≤1:=by rcases hc with rfl|rfl<;>decide
 have e1:bE (bE (a/16*10+a%16) (b/16*10+b%16)) c=a/16*10+a%16+(b/16*10+b%16)+c:=by rw[bV (x:=a/16*10+a%16) (by omega),bV (by omega)]
 obtain⟨n,hn⟩: ∃n:Int,n=a/16*10+a%16+(b/16*10+b%16)+c:=⟨_,rfl⟩;rw[←hn]at e1;have n0:0≤n∧n≤199:=by omega
 have e2:nM n 100=n%100:=by unfold nM;exact Int.tmod_eq_emod_of_nonneg n0.1
 have e3:lQ n 100=n/100:=by unfold lQ;rw[Int.tdiv_eq_ediv_of_nonneg n0.1,IntKind.wrap_i64];omega
 obtain⟨o1,o2⟩:=aNI (n:=n%100) (by omega) (by omega)
 unfold aMT;simp only[aB,aA,aC1,a1,a2,b1,b2,e1,e2,e3,o1,show dC 100 0=true from rfl,aD,bP,wz,bO,cU,bG,cV,qt,q_3,q_6,true_and]
 exact⟨o2,by unfold VL;dsimp only;omega⟩
theorem aT5{c a b:Int}(hc:VL c)(ha:Bcd a)(hb:Bcd b):bO2 c a b=true∧BR (OX c a b):=by
 refine aK (t:=aMU c a b) (P:=fun q=>BR q) ?_
 obtain⟨a1,a2⟩:=OF ha;obtain⟨b1,b2⟩:=OF hb;obtain⟨h1,h2,h3,h4⟩:=ha;obtain⟨h5,h6,h7,h8⟩:=hb;have hc':0≤c∧c≤1:=by rcases hc with rfl|rfl<;>decide
 have e1:cN (cN (a/16*10+a%16) (b/16*10+b%16)) c=a/16*10+a%16-(b/16*10+b%16)-c:=by rw[eV (x:=a/16*10+a%16) (by omega),eV (by omega)]
 obtain⟨n,hn⟩: ∃n:Int,n=a/16*10+a%16-(b/16*10+b%16)-c:=⟨_,rfl⟩;rw[←hn]at e1;have n0: -100≤n∧n≤99:=by omega
 have e2:bE n 100=n+100:=bV (by omega)
 unfold aMU;simp only[aB,aJ,aA,aC2,a1,a2,b1,b2,e1,e2,eK,pA,aD,bP,wz,bO,cU,bG,cV,qt,q_3,q_6,true_and];refine⟨fun h=>?_,fun h=>?_⟩
 ·obtain⟨o1,o2⟩:=aNI (n:=n+100) (by omega) (by omega)
  exact⟨o1,o2,Or.inr rfl⟩
 ·obtain⟨o1,o2⟩:=aNI (n:=n) (by omega) (by omega)
  exact⟨o1,o2,Or.inl rfl⟩
end Go.Proofs.YtdipcnijfkdnfaaGreatIrqs

namespace Go.Proofs.YtdipcnijfkdnfaaGreatIrqs
open Bool renaming true_eq_false → q_1
open Bool renaming false_eq_true → q_2
open Go Go.Zq
set_option maxHeartbeats 4000000
set_option maxRecDepth 100000
noncomputable def BX(x:aQ)(m:MM):Int×Int:=bif eqI x.Sub 1 then OX (bif dC (bH m.r.fl 16) 0 then 1 else 0) (cX m.r.d x.Reg%256) (cX m.r.d x.Ea.Reg%256)else OW (bif dC (bH m.r.fl 16) 0 then 1 else 0) (cX m.r.d x.Reg%256) (cX m.r.d x.Ea.Reg%256)
noncomputable def NF(m:MM)(x:aQ):MM:=
 bif i7 (cX m.r.d x.Reg%256)&&i7 (cX m.r.d x.Ea.Reg%256)then
  {m with r:=zB {m.r with fl:=eW (bif eqI (BX x m).1 0 then bH m.r.fl 4 else 0) (dH (BX x m).2 17)} 1 x.Reg (BX x m).1}
 else{m with f:={m.f with Vector:=4}}
theorem aDR{x:aQ}{m:MM}(h1:i7 (cX m.r.d x.Reg%256)=true)(h2:i7 (cX m.r.d x.Ea.Reg%256)=true):BR (BX x m):=by
 unfold BX;exact cF (P:=fun z=>BR z) (fun _=>(aT5 (rG _) (kW h1) (kW h2)).2) (fun _=>(aT4 (rG _) (kW h1) (kW h2)).2)
theorem a8V{f v c:Int}(hf:cI f 0 31=true)(hc:VL c):cI (eW (bif eqI v 0 then bH f 4 else 0) (dH c 17)) 0 31=true:=by
 refine pU ?_ ?_
 ·cases eqI v 0
  ·exact(by decide:cI 0 0 31=true)
  ·rcases fl4 hf with h|h<;>rw[h]<;>decide
 ·rcases hc with h|h<;>rw[h]<;>decide
theorem h11:(1:Int)=1∨(1:Int)=2:=Or.inl rfl
theorem bQI{t:Int}{m:MM}{x:aQ}(hm:m.Ok t)(h:InsOk x):(NF m x).Ok t:=by
 have t0:=hm.r.t0;unfold NF;refine cF (P:=fun z=>MM.Ok t z) (fun hb=>?_) (fun _=>⟨hm.r,hm.b⟩)
 rw[Bool.and_eq_true]at hb;obtain⟨⟨v0,v1⟩,v2⟩:=aDR hb.1 hb.2;exact⟨ND (hm.r.setF (a8V hm.r.fw v2)) h.hr v0 (fun _=>by omega) (by omega),hm.b⟩
theorem b55{t:Int}{m:MM}{x:aQ}(hm:m.Ok t)(h:InsOk x):bO3 x m.g=true∧a7B x m.g=(NF m x).g:=by
 refine aK (t:=a7A x m.g) (P:=fun q=>q=(NF m x).g) ?_
 obtain⟨i1,i2,i3⟩:=jQ hm.r.d4 h.hr;obtain⟨s1,s2,s3,s4,s5⟩:=f9 (v:=0) hm.r.d4 h.hr;obtain⟨j1,j2,j3⟩:=jQ hm.r.d4 h.ho.hr;obtain⟨u1,u2,u3,u4,u5⟩:=f9 (v:=0) hm.r.d4 h.ho.hr;rw[Nat.zero_add]at s5 u5;have dr:=nU hm.r.dw hm.r.d4 h.hr;have er:=nU hm.r.dw hm.r.d4 h.ho.hr;have t1:=hm.r.t1;have m8:bH (cX m.r.d x.Reg) 255=cX m.r.d x.Reg%256:=yZ dr.1 (by omega)
 have n8:bH (cX m.r.d x.Ea.Reg) 255=cX m.r.d x.Ea.Reg%256:=yZ er.1 (by omega)
 unfold a7A NF;cases h1:i7 (cX m.r.d x.Reg%256)
 ·simp only[aB,aJ,aA,M3,M2,DP,H2,H1,DO,yW,wR,eQ,cJ,cC,bT,eS,eT,aW,cM,aV,bL,aU,aT,Nat.zero_add,bA,bI,i2,j2,s3,s4,s5,u3,u4,u5,m8,n8,(X4 _).1,h1,Bool.not_true,Bool.not_false,Bool.false_and,cond_true,cond_false,aD,bP,wz,bO,cU,bG,cV,Bool.and_true,Bool.true_or,Bool.or_true,true_and,forall_const,q_1,q_2,false_implies,and_true,implies_true];rfl
 ·cases h2:i7 (cX m.r.d x.Ea.Reg%256)
  ·simp only[aB,aJ,aA,M3,M2,DP,H2,H1,DO,yW,wR,eQ,cJ,cC,bT,eS,eT,aW,cM,aV,bL,aU,aT,Nat.zero_add,bA,bI,i2,j2,s3,s4,s5,u3,u4,u5,m8,n8,(X4 _).1,h1,h2,Bool.not_true,Bool.not_false,Bool.and_false,cond_true,cond_false,aD,bP,wz,bO,cU,bG,cV,Bool.and_true,Bool.true_or,Bool.or_true,true_and,forall_const,q_1,q_2,false_implies,and_true,implies_true];rfl
  ·obtain⟨⟨v0,v1⟩,v2⟩:=aDR h1 h2;obtain⟨p1,p2⟩:=aF0 (v:=(BX x m).1) (hm.r.setF (a8V (v:=(BX x m).1) hm.r.fw v2)) h11 h.hr (fun _=>by omega)
   obtain⟨a1,a2⟩:=aT4 (rG (dC (bH m.r.fl 16) 0)) (kW h1) (kW h2);obtain⟨b1,b2⟩:=aT5 (rG (dC (bH m.r.fl 16) 0)) (kW h1) (kW h2);cases hs:eqI x.Sub 1
   ·have hv:BX x m=OW (bif dC (bH m.r.fl 16) 0 then 1 else 0) (cX m.r.d x.Reg%256) (cX m.r.d x.Ea.Reg%256):=by unfold BX;rw[hs];rfl
    rw[hv]at p1 p2⊢;simp only[aB,aJ,aA,M3,M2,DP,H2,H1,DO,yW,wR,eQ,cJ,cC,bT,eS,eT,aW,cM,aV,bL,aU,aT,Nat.zero_add,bA,bI,fX,i2,j2,s3,s4,s5,u3,u4,u5,m8,n8,(X4 _).1,(fK _ _).1,(fK _ _).2,h1,h2,hs,a1,b1,p1,p2,Bool.not_true,Bool.not_false,Bool.and_self,cond_true,cond_false,aD,bP,wz,bO,cU,bG,cV,Bool.and_true,Bool.true_or,Bool.or_true,true_and,forall_const,q_1,q_2,false_implies,and_true,implies_true];rfl
   ·have hv:BX x m=OX (bif dC (bH m.r.fl 16) 0 then 1 else 0) (cX m.r.d x.Reg%256) (cX m.r.d x.Ea.Reg%256):=by unfold BX;rw[hs];rfl
    rw[hv]at p1 p2⊢;simp only[aB,aJ,aA,M3,M2,DP,H2,H1,DO,yW,wR,eQ,cJ,cC,bT,eS,eT,aW,cM,aV,bL,aU,aT,Nat.zero_add,bA,bI,fX,i2,j2,s3,s4,s5,u3,u4,u5,m8,n8,(X4 _).1,(fK _ _).1,(fK _ _).2,h1,h2,hs,a1,b1,p1,p2,Bool.not_true,Bool.not_false,Bool.and_self,cond_true,cond_false,aD,bP,wz,bO,cU,bG,cV,Bool.and_true,Bool.true_or,Bool.or_true,true_and,forall_const,q_1,q_2,false_implies,and_true,implies_true];rfl
def V4(x:aQ)(q:MM×Int):MM:=bif eqI x.Sub 1 then dZ q.1 q.1.r.pc else q.1
def aXM(m:MM)(a:Int):MM:=bif cG m then{m with r:={m.r with pc:=a}}else m
noncomputable def zX(m:MM)(x:aQ)(at_:Int):MM:=
 bif eqI x.Op 13 then(bif aMP (x.Sub+8*x.Reg) m.r.fl then{m with r:={m.r with pc:=(at_+2+x.Ea.Ext)%65536}}else m)
 else aXM (V4 x (kI m 2 x.Ea)) (kI m 2 x.Ea).2
theorem bGQ{t:Int}{q:MM×Int}{x:aQ}(hq:q.1.Ok t):(V4 x q).Ok t:=by
 have p:=aR.1 hq.r.pw;unfold V4;exact cF (P:=fun z=>MM.Ok t z) (fun _=>aTP hq p.1 p.2) (fun _=>hq)
theorem bGR{t a:Int}{m:MM}{x:aQ}(hm:m.Ok t)(h:InsOk x):(zX m x a).Ok t:=by
 obtain⟨p1,p2⟩:=DV (s:=2) hm h.ho;have j:=bGQ (x:=x) p1;unfold zX aXM;refine cF (P:=fun z=>MM.Ok t z) (fun _=>cF (P:=fun z=>MM.Ok t z) (fun _=>⟨hm.r.setP (aR.2 (by omega)),hm.b⟩) (fun _=>hm)) fun _=>?_
 exact cF (P:=fun z=>MM.Ok t z) (fun _=>⟨j.r.setP p2,j.b⟩) (fun _=>j)
theorem a8W{t a:Int}{m:MM}{x:aQ}(hm:m.Ok t)(h:InsOk x)(ha:cI a 0 65535=true):bOU x a m.g=true∧a6V x a m.g=(zX m x a).g:=by
 refine aK (t:=a6U x a m.g) (P:=fun q=>q=(zX m x a).g) ?_
 obtain⟨p1,p2⟩:=DV (s:=2) hm h.ho;obtain⟨a1,a2⟩:=aTV (s:=2) hm h.ho;have pp:=aR.1 p1.r.pw;obtain⟨b1,b2⟩:=a8M p1 pp.1 pp.2;have hr:=aR.1 h.hr;have hb:=aR.1 h.hb;have he:=aR.1 h.ho.he;have ha':=aR.1 ha;have e1:bE x.Sub (dH 8 x.Reg)=x.Sub+8*x.Reg:=by rw[hJ (by omega),bV (by omega)]
 have e2:bH (bE (bE a 2) x.Ea.Ext) 65535=(a+2+x.Ea.Ext)%65536:=by rw[bV (x:=a) (by omega),bV (by omega),tH]
 unfold a6U zX aXM V4;cases h13:eqI x.Op 13
 ·cases hs:eqI x.Sub 1
  ·cases hf:eqI (kI m 2 x.Ea).1.f.Vector 0
   ·simp only[aB,aJ,aA,DM,DL,qU,DK,eQ,cJ,cC,bT,eS,eT,aW,cM,aV,bL,aU,aT,kF,lA,a1,a2,h13,hs,hf,cG,eH,Bool.not_true,Bool.not_false,cond_true,cond_false,aD,bP,wz,bO,cU,bG,cV,Bool.and_true,Bool.true_or,Bool.or_true,true_and,forall_const,q_1,q_2,false_implies,and_true,implies_true]
   ·simp only[aB,aJ,aA,DM,DL,qU,DK,eQ,cJ,cC,bT,eS,eT,aW,cM,aV,bL,aU,aT,kF,lA,a1,a2,h13,hs,hf,cG,eH,Bool.not_true,Bool.not_false,cond_true,cond_false,aD,bP,wz,bO,cU,bG,cV,Bool.and_true,Bool.true_or,Bool.or_true,true_and,forall_const,q_1,q_2,false_implies,and_true,implies_true]
  ·cases hf:eqI (dZ (kI m 2 x.Ea).1 (kI m 2 x.Ea).1.r.pc).f.Vector 0
   ·simp only[aB,aJ,aA,DM,DL,qU,DK,eQ,cJ,cC,bT,eS,eT,aW,cM,aV,bL,aU,aT,kF,lA,a1,a2,b1,b2,h13,hs,hf,cG,eH,Bool.not_true,Bool.not_false,cond_true,cond_false,aD,bP,wz,bO,cU,bG,cV,Bool.and_true,Bool.true_or,Bool.or_true,true_and,forall_const,q_1,q_2,false_implies,and_true,implies_true]
   ·simp only[aB,aJ,aA,DM,DL,qU,DK,eQ,cJ,cC,bT,eS,eT,aW,cM,aV,bL,aU,aT,kF,lA,a1,a2,b1,b2,h13,hs,hf,cG,eH,Bool.not_true,Bool.not_false,cond_true,cond_false,aD,bP,wz,bO,cU,bG,cV,Bool.and_true,Bool.true_or,Bool.or_true,true_and,forall_const,q_1,q_2,false_implies,and_true,implies_true]
 ·cases ht:aMP (x.Sub+8*x.Reg) m.r.fl
  ·simp only[aB,aJ,aA,DM,DL,qU,DK,eQ,cJ,cC,bT,eS,eT,aW,cM,aV,bL,aU,aT,kF,lA,e1,e2,a8S,ht,h13,Bool.not_true,Bool.not_false,cond_true,cond_false,aD,bP,wz,bO,cU,bG,cV,Bool.and_true,Bool.true_or,Bool.or_true,true_and,forall_const,q_1,q_2,false_implies,and_true,implies_true]
  ·simp only[aB,aJ,aA,DM,DL,qU,DK,eQ,cJ,cC,bT,eS,eT,aW,cM,aV,bL,aU,aT,kF,lA,e1,e2,a8S,ht,h13,Bool.not_true,Bool.not_false,cond_true,cond_false,aD,bP,wz,bO,cU,bG,cV,Bool.and_true,Bool.true_or,Bool.or_true,true_and,forall_const,q_1,q_2,false_implies,and_true,implies_true]
end Go.Proofs.YtdipcnijfkdnfaaGreatIrqs

namespace Go.Proofs.YtdipcnijfkdnfaaGreatIrqs
open Bool renaming and_true → qt
open Bool renaming true_eq_false → q_1
open Bool renaming false_eq_true → q_2
open Bool renaming true_or → q_3
open Bool renaming not_false → q_4
open Bool renaming not_true → q_5
open Bool renaming or_true → q_6
open Nat renaming zero_add → q_9
open Go Go.Zq
set_option maxHeartbeats 4000000
set_option maxRecDepth 100000
def X5(q:MM×Int×Int)(x:aQ):MM:=bif cG q.1 then{q.1 with r:={q.1.r with a:=q.1.r.a.set x.Reg.toNat q.2.1}}else q.1
def bGS(q:MM×Int)(x:aQ):MM:={q.1 with r:={q.1.r with a:=q.1.r.a.set x.Reg.toNat q.2}}
noncomputable def b56(w:MM)(x:aQ)(v:Int):MM:={w with r:={w.r with fl:=hY x.Size w.r.fl v}}
noncomputable def X6(m:MM)(x:aQ):MM:=b56 (eL (kI m x.Size x.Ea).1 x.Size x.Ea (kI m x.Size x.Ea).2 (cX m.r.d x.Reg%cD x.Size)) x (cX m.r.d x.Reg%cD x.Size)
noncomputable def shV(m:MM)(x:aQ):Int×Int:=aFP x.Sub x.Size m.r.fl (cX m.r.d x.Reg%cD x.Size) (x.Ea.Reg+1)
noncomputable def aDS(m:MM)(x:aQ):MM:={m with r:=zB {m.r with fl:=(shV m x).2} x.Size x.Reg (shV m x).1}
def UW(m:MM)(x:aQ):MM:=bif eqI x.Sub 0 then{m with r:=dN m.r x.Ea.Ext}else{m with r:={m.r with d:=m.r.d.set x.Reg.toNat (fJ m.r)}}
noncomputable def tI(m:MM)(x:aQ)(a:Int):MM:=
 bif eqI x.Op 9 then X5 (dT m 2 x.Ea) x else bif eqI x.Op 10 then bGS (kI m 2 x.Ea) x else bif eqI x.Op 2 then X6 m x
 else bif eqI x.Op 11 then NE m x else bif eqI x.Op 12 then aDS m x else bif eqI x.Op 13||eqI x.Op 14 then zX m x a
 else bif eqI x.Op 15 then DY m x else bif eqI x.Op 16||eqI x.Op 17 then kC m x else bif eqI x.Op 18 then NF m x
 else bif eqI x.Op 19 then UW m x else BI m x
theorem b57{x:aQ}(h:x.Op=19):kB x=bif eqI x.Size 2 then(bif (bif (bif eqI x.Sub 0 then eqI x.Reg 0 else false)then UI x.Ea else false)then true else(bif eqI x.Sub 1 then UJ x.Ea else false))else false:=by
 unfold kB;rw[h];rfl
theorem X7{x:aQ}(h:InsOk x)(h2:x.Op=19)(e:x.Sub=0):cI x.Ea.Ext 0 1023=true:=by
 have hk:=h.kb;have he:=aR.1 h.ho.he;rw[b57 h2,e]at hk;simp only[show eqI 0 0=true from rfl,show eqI 0 1=false from rfl,cond_true,cond_false]at hk
 cases e1:eqI x.Size 2
 ·rw[e1]at hk;simp at hk
 ·cases e2:eqI x.Reg 0
  ·rw[e1,e2]at hk;simp at hk
  ·rw[e1,e2]at hk;unfold UI at hk;cases e3:eqI x.Ea.Mode 7
   ·rw[e3]at hk;simp at hk
   ·rw[e3]at hk;cases e4:leI x.Ea.Ext 1023
    ·rw[e4]at hk;simp at hk
    ·rw[mY]at e4;exact aR.2 ⟨he.1,e4⟩
theorem a8X{t:Int}{m:MM}{x:aQ}(hm:m.Ok t)(h:InsOk x):bFV x.Sub x.Size m.r.fl (cX m.r.d x.Reg%cD x.Size) (x.Ea.Reg+1)=true∧Sh x.Size (shV m x):=by
 have hr:=aR.1 h.ho.hr;exact b5Z h.hs (iI h.hs) hm.r.fw (by omega) (by omega)
theorem bIW{t a:Int}{m:MM}{x:aQ}(hm:m.Ok t)(h:InsOk x):(tI m x a).Ok t:=by
 have t0:=hm.r.t0;obtain⟨r1,r2,r3⟩:=rH hm UV h.ho oS oS;have rv:=rD r2;obtain⟨p1,p2⟩:=DV (s:=2) hm h.ho;obtain⟨q1,q2⟩:=DV (s:=x.Size) hm h.ho;have pv:=aR.1 p2;obtain⟨-,s1,s2⟩:=a8X hm h;have ls:=kE h.hs s1;have st:=US hm.r;have hop:=h.op;unfold tI;refine cF (P:=fun z=>MM.Ok t z) (fun _=>by unfold X5;exact cF (P:=fun z=>MM.Ok t z) (fun _=>⟨r1.r.setA rv.1 rv.2,r1.b⟩) (fun _=>r1)) fun e9=>?_
 refine cF (P:=fun z=>MM.Ok t z) (fun _=>⟨p1.r.setA pv.1 pv.2,p1.b⟩) fun e10=>?_
 refine cF (P:=fun z=>MM.Ok t z) (fun _=>by
  have w:=zW q1 h.hs h.ho q2 (iI (v:=cX m.r.d x.Reg) h.hs);exact⟨w.r.setF (oN h.hs w.r.fw).2,w.b⟩) fun e2=>?_
 refine cF (P:=fun z=>MM.Ok t z) (fun e=>bQF hm h (dS.1 e)) fun e11=>?_
 refine cF (P:=fun z=>MM.Ok t z) (fun _=>⟨ND (hm.r.setF s2) h.hr ls.1 (fun e=>by have:=ls.2.2 e;omega) (by omega),hm.b⟩) fun e12=>?_
 refine cF (P:=fun z=>MM.Ok t z) (fun _=>bGR hm h) fun e13=>?_
 refine cF (P:=fun z=>MM.Ok t z) (fun _=>bGO hm h) fun e15=>?_
 refine cF (P:=fun z=>MM.Ok t z) (fun _=>aNH hm h) fun e16=>?_
 refine cF (P:=fun z=>MM.Ok t z) (fun _=>bQI hm h) fun e18=>?_
 refine cF (P:=fun z=>MM.Ok t z) (fun _=>by unfold UW;exact cF (P:=fun z=>MM.Ok t z) (fun _=>⟨EQ hm.r,hm.b⟩) (fun _=>⟨hm.r.setD st.1 (by omega),hm.b⟩)) fun e19=>?_
 rw[Bool.or_eq_false_iff]at e13 e16;rw[gT]at e9 e10 e2 e11 e12 e15 e18 e19;have a1:=gT.1 e13.1;have a2:=gT.1 e13.2;have a3:=gT.1 e16.1;have a4:=gT.1 e16.2;exact bQE hm h (by unfold qC;omega)
theorem cJ5{t a:Int}{m:MM}{x:aQ}(hm:m.Ok t)(h:InsOk x)(ha:cI a 0 65535=true):bF5 x a m.g=true∧bF4 x a m.g=(tI m x a).g:=by
 refine aK (t:=a7F x a m.g) (P:=fun q=>q=(tI m x a).g) ?_
 have hop:=h.op;have hop2:x.Op=1∨x.Op=2∨x.Op=3∨x.Op=4∨x.Op=5∨x.Op=6∨x.Op=7∨x.Op=8∨x.Op=9∨x.Op=10∨x.Op=11∨x.Op=12∨x.Op=13∨x.Op=14∨x.Op=15∨x.Op=16∨x.Op=17∨x.Op=18∨x.Op=19:=by omega
 obtain⟨i1,i2,i3⟩:=jQ hm.r.d4 h.hr;obtain⟨s1,s2,s3,s4,s5⟩:=f9 (v:=0) hm.r.d4 h.hr;rw[q_9]at s1 s2 s5;unfold a7F;rcases hop2 with e|e|e|e|e|e|e|e|e|e|e|e|e|e|e|e|e|e|e
 ·have hd:tI m x a=BI m x:=by unfold tI;rw[e];rfl
  rw[hd];obtain⟨a1,a2⟩:=UR hm h (by unfold qC;omega)
  simp only[aB,aJ,aA,fW,fV,fU,fT,iW,iC,iV,gR,gQ,iU,iT,iS,iR,iQ,eQ,cJ,cC,bT,eS,eT,aW,cM,aV,bL,aU,aT,q_9,bA,bI,e,show eqI 1 1=true from rfl,show eqI 1 2=false from rfl,show eqI 1 3=false from rfl,show eqI 1 4=false from rfl,show eqI 1 5=false from rfl,show eqI 1 6=false from rfl,show eqI 1 7=false from rfl,show eqI 1 8=false from rfl,show eqI 1 9=false from rfl,show eqI 1 10=false from rfl,show eqI 1 11=false from rfl,show eqI 1 12=false from rfl,show eqI 1 13=false from rfl,show eqI 1 14=false from rfl,show eqI 1 15=false from rfl,show eqI 1 16=false from rfl,show eqI 1 17=false from rfl,show eqI 1 18=false from rfl,show eqI 1 19=false from rfl,q_5,q_4,cond_true,cond_false,aD,bP,wz,bO,cU,bG,cV,qt,q_3,q_6,true_and,forall_const,q_1,q_2,false_implies,and_true,implies_true,a1,a2]
 ·have hd:tI m x a=X6 m x:=by unfold tI;rw[e];rfl
  rw[hd];obtain⟨l1,l2⟩:=aTR hm.r h.hs h.hr;obtain⟨p1,p2⟩:=aTV (s:=x.Size) hm h.ho;obtain⟨q1,q2⟩:=DV (s:=x.Size) hm h.ho;have hd:=iI (s:=x.Size) (v:=cX m.r.d x.Reg) h.hs;obtain⟨w1,w2⟩:=aTW q1 h.hs h.ho q2 hd;have w3:=zW q1 h.hs h.ho q2 hd;have lg:=(oN (v:=cX m.r.d x.Reg%cD x.Size) h.hs w3.r.fw).1;simp only[aB,aJ,aA,fW,fV,fU,fT,iW,iC,iV,gR,gQ,iU,iT,iS,iR,iQ,eQ,cJ,cC,bT,eS,eT,aW,cM,aV,bL,aU,aT,q_9,bA,bI,e,show eqI 2 1=false from rfl,show eqI 2 2=true from rfl,show eqI 2 3=false from rfl,show eqI 2 4=false from rfl,show eqI 2 5=false from rfl,show eqI 2 6=false from rfl,show eqI 2 7=false from rfl,show eqI 2 8=false from rfl,show eqI 2 9=false from rfl,show eqI 2 10=false from rfl,show eqI 2 11=false from rfl,show eqI 2 12=false from rfl,show eqI 2 13=false from rfl,show eqI 2 14=false from rfl,show eqI 2 15=false from rfl,show eqI 2 16=false from rfl,show eqI 2 17=false from rfl,show eqI 2 18=false from rfl,show eqI 2 19=false from rfl,q_5,q_4,cond_true,cond_false,aD,bP,wz,bO,cU,bG,cV,qt,q_3,q_6,true_and,forall_const,q_1,q_2,false_implies,and_true,implies_true,l1,l2,p1,p2,w1,w2,lg]
  rfl
 ·have hd:tI m x a=BI m x:=by unfold tI;rw[e];rfl
  rw[hd];obtain⟨a1,a2⟩:=UR hm h (by unfold qC;omega)
  simp only[aB,aJ,aA,fW,fV,fU,fT,iW,iC,iV,gR,gQ,iU,iT,iS,iR,iQ,eQ,cJ,cC,bT,eS,eT,aW,cM,aV,bL,aU,aT,q_9,bA,bI,e,show eqI 3 1=false from rfl,show eqI 3 2=false from rfl,show eqI 3 3=true from rfl,show eqI 3 4=false from rfl,show eqI 3 5=false from rfl,show eqI 3 6=false from rfl,show eqI 3 7=false from rfl,show eqI 3 8=false from rfl,show eqI 3 9=false from rfl,show eqI 3 10=false from rfl,show eqI 3 11=false from rfl,show eqI 3 12=false from rfl,show eqI 3 13=false from rfl,show eqI 3 14=false from rfl,show eqI 3 15=false from rfl,show eqI 3 16=false from rfl,show eqI 3 17=false from rfl,show eqI 3 18=false from rfl,show eqI 3 19=false from rfl,q_5,q_4,cond_true,cond_false,aD,bP,wz,bO,cU,bG,cV,qt,q_3,q_6,true_and,forall_const,q_1,q_2,false_implies,and_true,implies_true,a1,a2]
 ·have hd:tI m x a=BI m x:=by unfold tI;rw[e];rfl
  rw[hd];obtain⟨a1,a2⟩:=UR hm h (by unfold qC;omega)
  simp only[aB,aJ,aA,fW,fV,fU,fT,iW,iC,iV,gR,gQ,iU,iT,iS,iR,iQ,eQ,cJ,cC,bT,eS,eT,aW,cM,aV,bL,aU,aT,q_9,bA,bI,e,show eqI 4 1=false from rfl,show eqI 4 2=false from rfl,show eqI 4 3=false from rfl,show eqI 4 4=true from rfl,show eqI 4 5=false from rfl,show eqI 4 6=false from rfl,show eqI 4 7=false from rfl,show eqI 4 8=false from rfl,show eqI 4 9=false from rfl,show eqI 4 10=false from rfl,show eqI 4 11=false from rfl,show eqI 4 12=false from rfl,show eqI 4 13=false from rfl,show eqI 4 14=false from rfl,show eqI 4 15=false from rfl,show eqI 4 16=false from rfl,show eqI 4 17=false from rfl,show eqI 4 18=false from rfl,show eqI 4 19=false from rfl,q_5,q_4,cond_true,cond_false,aD,bP,wz,bO,cU,bG,cV,qt,q_3,q_6,true_and,forall_const,q_1,q_2,false_implies,and_true,implies_true,a1,a2]
 ·have hd:tI m x a=BI m x:=by unfold tI;rw[e];rfl
  rw[hd];obtain⟨a1,a2⟩:=UR hm h (by unfold qC;omega)
  simp only[aB,aJ,aA,fW,fV,fU,fT,iW,iC,iV,gR,gQ,iU,iT,iS,iR,iQ,eQ,cJ,cC,bT,eS,eT,aW,cM,aV,bL,aU,aT,q_9,bA,bI,e,show eqI 5 1=false from rfl,show eqI 5 2=false from rfl,show eqI 5 3=false from rfl,show eqI 5 4=false from rfl,show eqI 5 5=true from rfl,show eqI 5 6=false from rfl,show eqI 5 7=false from rfl,show eqI 5 8=false from rfl,show eqI 5 9=false from rfl,show eqI 5 10=false from rfl,show eqI 5 11=false from rfl,show eqI 5 12=false from rfl,show eqI 5 13=false from rfl,show eqI 5 14=false from rfl,show eqI 5 15=false from rfl,show eqI 5 16=false from rfl,show eqI 5 17=false from rfl,show eqI 5 18=false from rfl,show eqI 5 19=false from rfl,q_5,q_4,cond_true,cond_false,aD,bP,wz,bO,cU,bG,cV,qt,q_3,q_6,true_and,forall_const,q_1,q_2,false_implies,and_true,implies_true,a1,a2]
 ·have hd:tI m x a=BI m x:=by unfold tI;rw[e];rfl
  rw[hd];obtain⟨a1,a2⟩:=UR hm h (by unfold qC;omega)
  simp only[aB,aJ,aA,fW,fV,fU,fT,iW,iC,iV,gR,gQ,iU,iT,iS,iR,iQ,eQ,cJ,cC,bT,eS,eT,aW,cM,aV,bL,aU,aT,q_9,bA,bI,e,show eqI 6 1=false from rfl,show eqI 6 2=false from rfl,show eqI 6 3=false from rfl,show eqI 6 4=false from rfl,show eqI 6 5=false from rfl,show eqI 6 6=true from rfl,show eqI 6 7=false from rfl,show eqI 6 8=false from rfl,show eqI 6 9=false from rfl,show eqI 6 10=false from rfl,show eqI 6 11=false from rfl,show eqI 6 12=false from rfl,show eqI 6 13=false from rfl,show eqI 6 14=false from rfl,show eqI 6 15=false from rfl,show eqI 6 16=false from rfl,show eqI 6 17=false from rfl,show eqI 6 18=false from rfl,show eqI 6 19=false from rfl,q_5,q_4,cond_true,cond_false,aD,bP,wz,bO,cU,bG,cV,qt,q_3,q_6,true_and,forall_const,q_1,q_2,false_implies,and_true,implies_true,a1,a2]
 ·have hd:tI m x a=BI m x:=by unfold tI;rw[e];rfl
  rw[hd];obtain⟨a1,a2⟩:=UR hm h (by unfold qC;omega)
  simp only[aB,aJ,aA,fW,fV,fU,fT,iW,iC,iV,gR,gQ,iU,iT,iS,iR,iQ,eQ,cJ,cC,bT,eS,eT,aW,cM,aV,bL,aU,aT,q_9,bA,bI,e,show eqI 7 1=false from rfl,show eqI 7 2=false from rfl,show eqI 7 3=false from rfl,show eqI 7 4=false from rfl,show eqI 7 5=false from rfl,show eqI 7 6=false from rfl,show eqI 7 7=true from rfl,show eqI 7 8=false from rfl,show eqI 7 9=false from rfl,show eqI 7 10=false from rfl,show eqI 7 11=false from rfl,show eqI 7 12=false from rfl,show eqI 7 13=false from rfl,show eqI 7 14=false from rfl,show eqI 7 15=false from rfl,show eqI 7 16=false from rfl,show eqI 7 17=false from rfl,show eqI 7 18=false from rfl,show eqI 7 19=false from rfl,q_5,q_4,cond_true,cond_false,aD,bP,wz,bO,cU,bG,cV,qt,q_3,q_6,true_and,forall_const,q_1,q_2,false_implies,and_true,implies_true,a1,a2]
 ·have hd:tI m x a=BI m x:=by unfold tI;rw[e];rfl
  rw[hd];obtain⟨a1,a2⟩:=UR hm h (by unfold qC;omega)
  simp only[aB,aJ,aA,fW,fV,fU,fT,iW,iC,iV,gR,gQ,iU,iT,iS,iR,iQ,eQ,cJ,cC,bT,eS,eT,aW,cM,aV,bL,aU,aT,q_9,bA,bI,e,show eqI 8 1=false from rfl,show eqI 8 2=false from rfl,show eqI 8 3=false from rfl,show eqI 8 4=false from rfl,show eqI 8 5=false from rfl,show eqI 8 6=false from rfl,show eqI 8 7=false from rfl,show eqI 8 8=true from rfl,show eqI 8 9=false from rfl,show eqI 8 10=false from rfl,show eqI 8 11=false from rfl,show eqI 8 12=false from rfl,show eqI 8 13=false from rfl,show eqI 8 14=false from rfl,show eqI 8 15=false from rfl,show eqI 8 16=false from rfl,show eqI 8 17=false from rfl,show eqI 8 18=false from rfl,show eqI 8 19=false from rfl,q_5,q_4,cond_true,cond_false,aD,bP,wz,bO,cU,bG,cV,qt,q_3,q_6,true_and,forall_const,q_1,q_2,false_implies,and_true,implies_true,a1,a2]
 ·have hd:tI m x a=X5 (dT m 2 x.Ea) x:=by unfold tI;rw[e];rfl
  rw[hd];obtain⟨a1,a2⟩:=aDM hm UV h.ho;obtain⟨r1,r2,r3⟩:=rH hm UV h.ho oS oS;obtain⟨u1,u2,u3,u4,u5⟩:=f9 (v:=0) r1.r.a4 h.hr;rw[q_9]at u1 u2 u5;unfold X5 cG;cases hf:eqI (dT m 2 x.Ea).1.f.Vector 0
  ·simp only[aB,aJ,aA,fW,fV,fU,fT,iW,iC,iV,gR,gQ,iU,iT,iS,iR,iQ,eQ,cJ,cC,bT,eS,eT,aW,cM,aV,bL,aU,aT,q_9,bA,bI,e,show eqI 9 1=false from rfl,show eqI 9 2=false from rfl,show eqI 9 3=false from rfl,show eqI 9 4=false from rfl,show eqI 9 5=false from rfl,show eqI 9 6=false from rfl,show eqI 9 7=false from rfl,show eqI 9 8=false from rfl,show eqI 9 9=true from rfl,show eqI 9 10=false from rfl,show eqI 9 11=false from rfl,show eqI 9 12=false from rfl,show eqI 9 13=false from rfl,show eqI 9 14=false from rfl,show eqI 9 15=false from rfl,show eqI 9 16=false from rfl,show eqI 9 17=false from rfl,show eqI 9 18=false from rfl,show eqI 9 19=false from rfl,q_5,q_4,cond_true,cond_false,aD,bP,wz,bO,cU,bG,cV,qt,q_3,q_6,true_and,forall_const,q_1,q_2,false_implies,and_true,implies_true,a1,a2,eH,hf]
  ·simp only[aB,aJ,aA,fW,fV,fU,fT,iW,iC,iV,gR,gQ,iU,iT,iS,iR,iQ,eQ,cJ,cC,bT,eS,eT,aW,cM,aV,bL,aU,aT,q_9,bA,bI,e,show eqI 9 1=false from rfl,show eqI 9 2=false from rfl,show eqI 9 3=false from rfl,show eqI 9 4=false from rfl,show eqI 9 5=false from rfl,show eqI 9 6=false from rfl,show eqI 9 7=false from rfl,show eqI 9 8=false from rfl,show eqI 9 9=true from rfl,show eqI 9 10=false from rfl,show eqI 9 11=false from rfl,show eqI 9 12=false from rfl,show eqI 9 13=false from rfl,show eqI 9 14=false from rfl,show eqI 9 15=false from rfl,show eqI 9 16=false from rfl,show eqI 9 17=false from rfl,show eqI 9 18=false from rfl,show eqI 9 19=false from rfl,q_5,q_4,cond_true,cond_false,aD,bP,wz,bO,cU,bG,cV,qt,q_3,q_6,true_and,forall_const,q_1,q_2,false_implies,and_true,implies_true,a1,a2,eH,hf,u1,u2,u3,u4,dX,List.length_set]
   rfl
 ·have hd:tI m x a=bGS (kI m 2 x.Ea) x:=by unfold tI;rw[e];rfl
  rw[hd];obtain⟨a1,a2⟩:=aTV (s:=2) hm h.ho;obtain⟨r1,r2⟩:=DV (s:=2) hm h.ho;obtain⟨u1,u2,u3,u4,u5⟩:=f9 (v:=0) r1.r.a4 h.hr;rw[q_9]at u1 u2 u5;unfold bGS;simp only[aB,aJ,aA,fW,fV,fU,fT,iW,iC,iV,gR,gQ,iU,iT,iS,iR,iQ,eQ,cJ,cC,bT,eS,eT,aW,cM,aV,bL,aU,aT,q_9,bA,bI,e,show eqI 10 1=false from rfl,show eqI 10 2=false from rfl,show eqI 10 3=false from rfl,show eqI 10 4=false from rfl,show eqI 10 5=false from rfl,show eqI 10 6=false from rfl,show eqI 10 7=false from rfl,show eqI 10 8=false from rfl,show eqI 10 9=false from rfl,show eqI 10 10=true from rfl,show eqI 10 11=false from rfl,show eqI 10 12=false from rfl,show eqI 10 13=false from rfl,show eqI 10 14=false from rfl,show eqI 10 15=false from rfl,show eqI 10 16=false from rfl,show eqI 10 17=false from rfl,show eqI 10 18=false from rfl,show eqI 10 19=false from rfl,q_5,q_4,cond_true,cond_false,aD,bP,wz,bO,cU,bG,cV,qt,q_3,q_6,true_and,forall_const,q_1,q_2,false_implies,and_true,implies_true,a1,a2,u1,u2,u3,u4,dX,List.length_set]
  rfl
 ·have hd:tI m x a=NE m x:=by unfold tI;rw[e];rfl
  rw[hd];obtain⟨a1,a2⟩:=b53 hm h e;simp only[aB,aJ,aA,fW,fV,fU,fT,iW,iC,iV,gR,gQ,iU,iT,iS,iR,iQ,eQ,cJ,cC,bT,eS,eT,aW,cM,aV,bL,aU,aT,q_9,bA,bI,e,show eqI 11 1=false from rfl,show eqI 11 2=false from rfl,show eqI 11 3=false from rfl,show eqI 11 4=false from rfl,show eqI 11 5=false from rfl,show eqI 11 6=false from rfl,show eqI 11 7=false from rfl,show eqI 11 8=false from rfl,show eqI 11 9=false from rfl,show eqI 11 10=false from rfl,show eqI 11 11=true from rfl,show eqI 11 12=false from rfl,show eqI 11 13=false from rfl,show eqI 11 14=false from rfl,show eqI 11 15=false from rfl,show eqI 11 16=false from rfl,show eqI 11 17=false from rfl,show eqI 11 18=false from rfl,show eqI 11 19=false from rfl,q_5,q_4,cond_true,cond_false,aD,bP,wz,bO,cU,bG,cV,qt,q_3,q_6,true_and,forall_const,q_1,q_2,false_implies,and_true,implies_true,a1,a2]
 ·have hd:tI m x a=aDS m x:=by unfold tI;rw[e];rfl
  rw[hd];obtain⟨l1,l2⟩:=aTR hm.r h.hs h.hr;obtain⟨k1,k2,k3⟩:=a8X hm h;have er:=aR.1 h.ho.hr;have e1:bE x.Ea.Reg 1=x.Ea.Reg+1:=bV (by omega)
  have ls:=kE h.hs k2;obtain⟨p1,p2⟩:=aF0 (v:=(shV m x).1) (hm.r.setF k3) h.hs h.hr (fun e=>by have:=ls.2.2 e;omega)
  unfold aDS;unfold shV at p1 p2⊢;simp only[aB,aJ,aA,fW,fV,fU,fT,iW,iC,iV,gR,gQ,iU,iT,iS,iR,iQ,eQ,cJ,cC,bT,eS,eT,aW,cM,aV,bL,aU,aT,q_9,bA,bI,e,show eqI 12 1=false from rfl,show eqI 12 2=false from rfl,show eqI 12 3=false from rfl,show eqI 12 4=false from rfl,show eqI 12 5=false from rfl,show eqI 12 6=false from rfl,show eqI 12 7=false from rfl,show eqI 12 8=false from rfl,show eqI 12 9=false from rfl,show eqI 12 10=false from rfl,show eqI 12 11=false from rfl,show eqI 12 12=true from rfl,show eqI 12 13=false from rfl,show eqI 12 14=false from rfl,show eqI 12 15=false from rfl,show eqI 12 16=false from rfl,show eqI 12 17=false from rfl,show eqI 12 18=false from rfl,show eqI 12 19=false from rfl,q_5,q_4,cond_true,cond_false,aD,bP,wz,bO,cU,bG,cV,qt,q_3,q_6,true_and,forall_const,q_1,q_2,false_implies,and_true,implies_true,fX,e1,l1,l2,k1,p1,p2]
  rfl
 ·have hd:tI m x a=zX m x a:=by unfold tI;rw[e];rfl
  rw[hd];obtain⟨a1,a2⟩:=a8W hm h ha;simp only[aB,aJ,aA,fW,fV,fU,fT,iW,iC,iV,gR,gQ,iU,iT,iS,iR,iQ,eQ,cJ,cC,bT,eS,eT,aW,cM,aV,bL,aU,aT,q_9,bA,bI,e,show eqI 13 1=false from rfl,show eqI 13 2=false from rfl,show eqI 13 3=false from rfl,show eqI 13 4=false from rfl,show eqI 13 5=false from rfl,show eqI 13 6=false from rfl,show eqI 13 7=false from rfl,show eqI 13 8=false from rfl,show eqI 13 9=false from rfl,show eqI 13 10=false from rfl,show eqI 13 11=false from rfl,show eqI 13 12=false from rfl,show eqI 13 13=true from rfl,show eqI 13 14=false from rfl,show eqI 13 15=false from rfl,show eqI 13 16=false from rfl,show eqI 13 17=false from rfl,show eqI 13 18=false from rfl,show eqI 13 19=false from rfl,q_5,q_4,cond_true,cond_false,aD,bP,wz,bO,cU,bG,cV,qt,q_3,q_6,true_and,forall_const,q_1,q_2,false_implies,and_true,implies_true,a1,a2]
 ·have hd:tI m x a=zX m x a:=by unfold tI;rw[e];rfl
  rw[hd];obtain⟨a1,a2⟩:=a8W hm h ha;simp only[aB,aJ,aA,fW,fV,fU,fT,iW,iC,iV,gR,gQ,iU,iT,iS,iR,iQ,eQ,cJ,cC,bT,eS,eT,aW,cM,aV,bL,aU,aT,q_9,bA,bI,e,show eqI 14 1=false from rfl,show eqI 14 2=false from rfl,show eqI 14 3=false from rfl,show eqI 14 4=false from rfl,show eqI 14 5=false from rfl,show eqI 14 6=false from rfl,show eqI 14 7=false from rfl,show eqI 14 8=false from rfl,show eqI 14 9=false from rfl,show eqI 14 10=false from rfl,show eqI 14 11=false from rfl,show eqI 14 12=false from rfl,show eqI 14 13=false from rfl,show eqI 14 14=true from rfl,show eqI 14 15=false from rfl,show eqI 14 16=false from rfl,show eqI 14 17=false from rfl,show eqI 14 18=false from rfl,show eqI 14 19=false from rfl,q_5,q_4,cond_true,cond_false,aD,bP,wz,bO,cU,bG,cV,qt,q_3,q_6,true_and,forall_const,q_1,q_2,false_implies,and_true,implies_true,a1,a2]
 ·have hd:tI m x a=DY m x:=by unfold tI;rw[e];rfl
  rw[hd];obtain⟨a1,a2⟩:=bQH hm h e;simp only[aB,aJ,aA,fW,fV,fU,fT,iW,iC,iV,gR,gQ,iU,iT,iS,iR,iQ,eQ,cJ,cC,bT,eS,eT,aW,cM,aV,bL,aU,aT,q_9,bA,bI,e,show eqI 15 1=false from rfl,show eqI 15 2=false from rfl,show eqI 15 3=false from rfl,show eqI 15 4=false from rfl,show eqI 15 5=false from rfl,show eqI 15 6=false from rfl,show eqI 15 7=false from rfl,show eqI 15 8=false from rfl,show eqI 15 9=false from rfl,show eqI 15 10=false from rfl,show eqI 15 11=false from rfl,show eqI 15 12=false from rfl,show eqI 15 13=false from rfl,show eqI 15 14=false from rfl,show eqI 15 15=true from rfl,show eqI 15 16=false from rfl,show eqI 15 17=false from rfl,show eqI 15 18=false from rfl,show eqI 15 19=false from rfl,q_5,q_4,cond_true,cond_false,aD,bP,wz,bO,cU,bG,cV,qt,q_3,q_6,true_and,forall_const,q_1,q_2,false_implies,and_true,implies_true,a1,a2]
 ·have hd:tI m x a=kC m x:=by unfold tI;rw[e];rfl
  rw[hd];obtain⟨a1,a2⟩:=X3 hm h;simp only[aB,aJ,aA,fW,fV,fU,fT,iW,iC,iV,gR,gQ,iU,iT,iS,iR,iQ,eQ,cJ,cC,bT,eS,eT,aW,cM,aV,bL,aU,aT,q_9,bA,bI,e,show eqI 16 1=false from rfl,show eqI 16 2=false from rfl,show eqI 16 3=false from rfl,show eqI 16 4=false from rfl,show eqI 16 5=false from rfl,show eqI 16 6=false from rfl,show eqI 16 7=false from rfl,show eqI 16 8=false from rfl,show eqI 16 9=false from rfl,show eqI 16 10=false from rfl,show eqI 16 11=false from rfl,show eqI 16 12=false from rfl,show eqI 16 13=false from rfl,show eqI 16 14=false from rfl,show eqI 16 15=false from rfl,show eqI 16 16=true from rfl,show eqI 16 17=false from rfl,show eqI 16 18=false from rfl,show eqI 16 19=false from rfl,q_5,q_4,cond_true,cond_false,aD,bP,wz,bO,cU,bG,cV,qt,q_3,q_6,true_and,forall_const,q_1,q_2,false_implies,and_true,implies_true,a1,a2]
 ·have hd:tI m x a=kC m x:=by unfold tI;rw[e];rfl
  rw[hd];obtain⟨a1,a2⟩:=X3 hm h;simp only[aB,aJ,aA,fW,fV,fU,fT,iW,iC,iV,gR,gQ,iU,iT,iS,iR,iQ,eQ,cJ,cC,bT,eS,eT,aW,cM,aV,bL,aU,aT,q_9,bA,bI,e,show eqI 17 1=false from rfl,show eqI 17 2=false from rfl,show eqI 17 3=false from rfl,show eqI 17 4=false from rfl,show eqI 17 5=false from rfl,show eqI 17 6=false from rfl,show eqI 17 7=false from rfl,show eqI 17 8=false from rfl,show eqI 17 9=false from rfl,show eqI 17 10=false from rfl,show eqI 17 11=false from rfl,show eqI 17 12=false from rfl,show eqI 17 13=false from rfl,show eqI 17 14=false from rfl,show eqI 17 15=false from rfl,show eqI 17 16=false from rfl,show eqI 17 17=true from rfl,show eqI 17 18=false from rfl,show eqI 17 19=false from rfl,q_5,q_4,cond_true,cond_false,aD,bP,wz,bO,cU,bG,cV,qt,q_3,q_6,true_and,forall_const,q_1,q_2,false_implies,and_true,implies_true,a1,a2]
 ·have hd:tI m x a=NF m x:=by unfold tI;rw[e];rfl
  rw[hd];obtain⟨a1,a2⟩:=b55 hm h;simp only[aB,aJ,aA,fW,fV,fU,fT,iW,iC,iV,gR,gQ,iU,iT,iS,iR,iQ,eQ,cJ,cC,bT,eS,eT,aW,cM,aV,bL,aU,aT,q_9,bA,bI,e,show eqI 18 1=false from rfl,show eqI 18 2=false from rfl,show eqI 18 3=false from rfl,show eqI 18 4=false from rfl,show eqI 18 5=false from rfl,show eqI 18 6=false from rfl,show eqI 18 7=false from rfl,show eqI 18 8=false from rfl,show eqI 18 9=false from rfl,show eqI 18 10=false from rfl,show eqI 18 11=false from rfl,show eqI 18 12=false from rfl,show eqI 18 13=false from rfl,show eqI 18 14=false from rfl,show eqI 18 15=false from rfl,show eqI 18 16=false from rfl,show eqI 18 17=false from rfl,show eqI 18 18=true from rfl,show eqI 18 19=false from rfl,q_5,q_4,cond_true,cond_false,aD,bP,wz,bO,cU,bG,cV,qt,q_3,q_6,true_and,forall_const,q_1,q_2,false_implies,and_true,implies_true,a1,a2]
 ·have hd:tI m x a=UW m x:=by unfold tI;rw[e];rfl
  rw[hd];unfold UW;cases hs:eqI x.Sub 0
  ·obtain⟨a1,a2⟩:=aF2 hm.r;simp only[aB,aJ,aA,fW,fV,fU,fT,iW,iC,iV,gR,gQ,iU,iT,iS,iR,iQ,eQ,cJ,cC,bT,eS,eT,aW,cM,aV,bL,aU,aT,q_9,bA,bI,e,show eqI 19 1=false from rfl,show eqI 19 2=false from rfl,show eqI 19 3=false from rfl,show eqI 19 4=false from rfl,show eqI 19 5=false from rfl,show eqI 19 6=false from rfl,show eqI 19 7=false from rfl,show eqI 19 8=false from rfl,show eqI 19 9=false from rfl,show eqI 19 10=false from rfl,show eqI 19 11=false from rfl,show eqI 19 12=false from rfl,show eqI 19 13=false from rfl,show eqI 19 14=false from rfl,show eqI 19 15=false from rfl,show eqI 19 16=false from rfl,show eqI 19 17=false from rfl,show eqI 19 18=false from rfl,show eqI 19 19=true from rfl,q_5,q_4,cond_true,cond_false,aD,bP,wz,bO,cU,bG,cV,qt,q_3,q_6,true_and,forall_const,q_1,q_2,false_implies,and_true,implies_true,hs,a1,a2,s1,s2,s3,s4,dX,List.length_set]
   rfl
  ·obtain⟨a1,a2⟩:=aDO hm.r (X7 h e (dS.1 hs));simp only[aB,aJ,aA,fW,fV,fU,fT,iW,iC,iV,gR,gQ,iU,iT,iS,iR,iQ,eQ,cJ,cC,bT,eS,eT,aW,cM,aV,bL,aU,aT,q_9,bA,bI,e,show eqI 19 1=false from rfl,show eqI 19 2=false from rfl,show eqI 19 3=false from rfl,show eqI 19 4=false from rfl,show eqI 19 5=false from rfl,show eqI 19 6=false from rfl,show eqI 19 7=false from rfl,show eqI 19 8=false from rfl,show eqI 19 9=false from rfl,show eqI 19 10=false from rfl,show eqI 19 11=false from rfl,show eqI 19 12=false from rfl,show eqI 19 13=false from rfl,show eqI 19 14=false from rfl,show eqI 19 15=false from rfl,show eqI 19 16=false from rfl,show eqI 19 17=false from rfl,show eqI 19 18=false from rfl,show eqI 19 19=true from rfl,q_5,q_4,cond_true,cond_false,aD,bP,wz,bO,cU,bG,cV,qt,q_3,q_6,true_and,forall_const,q_1,q_2,false_implies,and_true,implies_true,hs,a1,a2]
   rfl
def uU(x:aQ):Bool:=bif (bif eqI x.Op 15 then(bif eqI x.Sub 1 then true else eqI x.Sub 3)else false)then true else(bif eqI x.Op 19 then eqI x.Sub 0 else false)
theorem DZ(x:aQ):bOH x=true∧bOG x=uU x:=by
 refine aK (t:=a6A x) (P:=fun q=>q=uU x) ?_
 unfold a6A uU;simp only[aB,aA,aD,bP,wz,bO,cU,bG,cV,qt,q_3,q_6,true_and]
def aXN(t:Int)(z:MM×aQ×Int):Prop:=z.1.Ok t∧(cG z.1=true→kZ z.2.1=true∧(z.2.2=1∨z.2.2=2))
theorem FV{b:Bool}(h:(!b)=true):b=false:=by cases b<;>simp at h⊢
theorem FX{b:Bool}(h:(!b)=false):b=true:=by cases b<;>simp at h⊢
theorem aNJ{t:Int}{m:MM}(hm:m.Ok t):aXN t (m9 m):=by
 have hp:=aR.1 hm.r.pw;have hm0:MM.Ok t {m with f:={m.f with PC:=m.r.pc}}:=⟨hm.r,hm.b⟩
 obtain⟨a3,a4⟩:=zD (k:=3) hm0 (aF1 hm0 hm.r.pw) (by decide)
 have ha:cI ((m.r.pc+2)%65536) 0 65535=true:=by rw[aR];omega
 unfold m9;generalize cS {m with f:={m.f with PC:=m.r.pc}} 3 2 m.r.pc 0=q at a3 a4
 have hm1:MM.Ok t {q.1 with f:={q.1.f with Word:=q.2}}:=⟨a3.r,a3.b⟩
 obtain⟨b3,b4⟩:=zD (k:=3) hm1 (aF1 hm1 ha) (by decide)
 unfold KE;refine cF (P:=fun z=>aXN t z) (fun h=>⟨a3,fun h2=>absurd h2 (by rw[FV h];decide)⟩) fun h=>?_
 refine cF (P:=fun z=>aXN t z) (fun h=>?_) fun h=>?_
 ·generalize cS {q.1 with f:={q.1.f with Word:=q.2}} 3 2 ((m.r.pc+2)%65536) 0=p at b3 b4
  unfold UP;refine cF (P:=fun z=>aXN t z) (fun h=>⟨b3,fun h2=>absurd h2 (by rw[FV h];decide)⟩) fun h=>?_
  exact cF (P:=fun z=>aXN t z) (fun h=>⟨⟨b3.r,b3.b⟩,fun h2=>absurd h2 (by show¬eqI 4 0=true;decide)⟩) fun h=>⟨b3,fun _=>⟨FX h,Or.inr rfl⟩⟩
 ·exact cF (P:=fun z=>aXN t z) (fun h=>⟨⟨a3.r,a3.b⟩,fun h2=>absurd h2 (by show¬eqI 4 0=true;decide)⟩) fun h=>⟨⟨a3.r,a3.b⟩,fun _=>⟨FX h,Or.inl rfl⟩⟩
def uV(q:MM×aQ×Int):MM:=bif cG q.1&&(uU q.2.1&&!q.1.r.sup)then{q.1 with f:={q.1.f with Vector:=8}}else q.1
noncomputable def FY(w:MM)(x:aQ)(n pc:Int):MM:=bif cG w then tI {w with r:={w.r with pc:=(pc+2*n)%65536}} x pc else w
noncomputable def zY(m:MM):MM:=FY (uV (m9 m)) (m9 m).2.1 (m9 m).2.2 m.r.pc
def bF(r:RM)(zs:List Int)(l:List aE)(stop halt:Bool):aI:=⟨r.g,qF zs l,stop,halt⟩
def BS(m w:MM):aI×aL:=bif cG w then(bF w.r w.zs w.l w.stop false,⟨0,0,0,0,false⟩)else(bF m.r w.zs w.l m.stop false,w.f)
theorem aF4{t:Int}{m:MM}(hm:m.Ok t):(zY m).Ok t:=by
 obtain⟨f1,f2⟩:=aNJ hm;unfold zY FY;have b1:(uV (m9 m)).Ok t:=by unfold uV;exact cF (P:=fun z=>MM.Ok t z) (fun _=>⟨f1.r,f1.b⟩) (fun _=>f1)
 refine cF (P:=fun z=>MM.Ok t z) (fun h=>?_) (fun _=>b1)
 have hf:cG (m9 m).1=true:=by
  unfold uV at h;cases hh:cG (m9 m).1
  ·rw[hh,Bool.false_and,cond_false,hh]at h;exact h
  ·rfl
 exact bIW ⟨b1.r.setP (aR.2 (by omega)),b1.b⟩ (InsOk.of (f2 hf).1)
theorem PB{t:Int}{r:RM}{zs:List Int}{l:List aE}(s h:Bool)(hr:r.Ok t)(hb:BusOk zs l):aXL (bF r zs l s h):=by
 have h1:=hr.d4;have h2:=hr.a4;have h3:=hb.hz;have h4:=hb.hl;refine⟨?_,?_,?_,?_⟩
 ·show(ri r.d).length≤2000;rw[bI];omega
 ·show(ri r.a).length≤2000;rw[bI];omega
 ·show(ri zs).length≤2000;rw[bI];omega
 ·show(l.map aE.row).length≤2000;rw[List.length_map];omega
def f0:aL:=⟨0,0,0,0,false⟩
theorem aT6{t:Int}{r:RM}{zs:List Int}{l:List aE}{s h:Bool}(hr:r.Ok t)(hb:BusOk zs l):k78 (bF r zs l s h)=true∧i5 (bF r zs l s h)=MM.g ⟨r,zs,l,s,f0⟩:=bGM (PB s h hr hb)
theorem aT7{t:Int}{m:MM}(hm:m.Ok t):k80 m.g=true∧FP m.g=bF m.r m.zs m.l m.stop false:=b5T (m:=m.g) (PB m.stop false hm.r hm.b)
theorem bQK{t:Int}{r:RM}{zs:List Int}{l:List aE}{s h:Bool}(hr:r.Ok t)(hb:BusOk zs l):k87 (bF r zs l s h)=true∧xE (bF r zs l s h)=BS ⟨r,zs,l,s,f0⟩ (zY ⟨r,zs,l,s,f0⟩):=by
 refine aK (t:=T87 (bF r zs l s h)) (P:=fun q=>q=BS ⟨r,zs,l,s,f0⟩ (zY ⟨r,zs,l,s,f0⟩)) ?_
 have hm:MM.Ok t ⟨r,zs,l,s,f0⟩:=⟨hr,hb⟩;obtain⟨a1,a2⟩:=aT6 (s:=s) (h:=h) hr hb;obtain⟨b1,b2⟩:=b51 hm;obtain⟨f1,f2⟩:=aNJ hm;have e1:(bF r zs l s h).R=r.g:=rfl;have e2:(bF r zs l s h).Stop=s:=rfl;have lR:=PB s h hr hb;obtain⟨o1,o2⟩:=a8J (r:=r.g) lR.1 lR.2.1;unfold T87 zY;have hA:=aF4 hm;unfold zY at hA;obtain⟨m,hM⟩: ∃m:MM,m=⟨r,zs,l,s,f0⟩:=⟨_,rfl⟩;have hr':r.g=m.r.g:=by rw[hM]
 have hs':s=m.stop:=by rw[hM]
 have hp':(i5 (bF r zs l s h)).fr=m.r.g:=by rw[a2,←hM];rfl
 rw[←hM]at a2 hm b1 b2 f1 f2 hA⊢;rw[hr']at e1 o1 o2
 replace e2:(bF r zs l s h).Stop=m.stop:=hs'
 have mp:=aR.1 hm.r.pw;generalize hF:m9 m=q at b1 b2 f1 f2 hA⊢;obtain⟨q1,x,n⟩:=q;dsimp only at b1 b2 f1 f2 hA⊢;have cp: ∀w:MM,w.Ok t→k80 w.g=true∧FP w.g=bF w.r w.zs w.l w.stop false:=fun w hw=>aT7 hw
 cases hf:eqI q1.f.Vector 0
 ·have hB:uV (q1,x,n)=q1:=by unfold uV cG;rw[hf];rfl
  have hC:FY q1 x n m.r.pc=q1:=by unfold FY cG;rw[hf];rfl
  rw[hB,hC];obtain⟨c1,c2⟩:=cp ⟨m.r,q1.zs,q1.l,m.stop,q1.f⟩ ⟨hm.r,f1.b⟩;have c1':k80 (aS.mk m.r.g (qF q1.zs q1.l) m.stop q1.f)=true:=c1;have c2':FP (aS.mk m.r.g (qF q1.zs q1.l) m.stop q1.f)=bF m.r q1.zs q1.l m.stop false:=c2;simp only[aB,aJ,aA,M7,BD,H6,M6,BC,H5,jP,M5,M4,BB,H4,XQ,XP,J4,OB,UB,oR,XO,DQ,FQ,UA,eQ,cJ,cC,bT,eS,eT,aW,cM,aV,bL,aU,aT,a1,a2,b1,b2,e1,e2,o1,o2,c1',c2',eH,(DZ _).1,(DZ _).2,hf,q_5,q_4,cond_true,cond_false,aD,bP,wz,bO,cU,bG,cV,qt,q_3,q_6,true_and,forall_const,q_1,q_2,false_implies,and_true,implies_true];unfold BS cG;rw[hf];rfl
 ·obtain⟨g1,g2⟩:=f2 hf;have hI:=InsOk.of g1;have en:bH (bE m.r.pc (dH 2 n)) 65535=(m.r.pc+2*n)%65536:=by rw[hJ (by omega),bV (by omega),tH]
  cases hv:uU x&&!q1.r.sup
  ·have hB:uV (q1,x,n)=q1:=by unfold uV cG;rw[hf,hv];rfl
   have hC:FY q1 x n m.r.pc=tI {q1 with r:={q1.r with pc:=(m.r.pc+2*n)%65536}} x m.r.pc:=by unfold FY cG;rw[hf];rfl
   have hm2:MM.Ok t {q1 with r:={q1.r with pc:=(m.r.pc+2*n)%65536}}:=⟨f1.r.setP (aR.2 (by omega)),f1.b⟩
   obtain⟨d1,d2⟩:=cJ5 hm2 hI hm.r.pw;have d3:=bIW (a:=m.r.pc) hm2 hI;rw[hB,hC];generalize tI {q1 with r:={q1.r with pc:=(m.r.pc+2*n)%65536}} x m.r.pc=w at d2 d3
   have hw:(bif (bif true then uU x else false)then(!q1.r.sup)else false)=false:=by
    rw[←hv];cases uU x<;>rfl
   have sp:(aS.mk (RM.g {q1.r with pc:=(m.r.pc+2*n)%65536}) (qF q1.zs q1.l) q1.stop q1.f)=MM.g {q1 with r:={q1.r with pc:=(m.r.pc+2*n)%65536}}:=rfl
   obtain⟨c1,c2⟩:=cp ⟨m.r,w.zs,w.l,m.stop,w.f⟩ ⟨hm.r,d3.b⟩;have c1':k80 (aS.mk m.r.g (qF w.zs w.l) m.stop w.f)=true:=c1;have c2':FP (aS.mk m.r.g (qF w.zs w.l) m.stop w.f)=bF m.r w.zs w.l m.stop false:=c2;obtain⟨j1,j2⟩:=cp w d3;cases hz:eqI w.f.Vector 0
   ·simp only[aB,aJ,aA,M7,BD,H6,M6,BC,H5,jP,M5,M4,BB,H4,XQ,XP,J4,OB,UB,oR,XO,DQ,FQ,UA,eQ,cJ,cC,bT,eS,eT,aW,cM,aV,bL,aU,aT,kF,a1,a2,b1,b2,e1,e2,o1,o2,eH,(DZ _).1,(DZ _).2,hf,hw,en,sp,d1,d2,hz,c1',c2',q_5,q_4,cond_false,aD,bP,wz,bO,cU,bG,cV,qt,q_3,q_6,true_and,forall_const,q_1,q_2,false_implies,and_true,implies_true];unfold BS cG;rw[hz];rfl
   ·simp only[aB,aJ,aA,M7,BD,H6,M6,BC,H5,jP,M5,M4,BB,H4,XQ,XP,J4,OB,UB,oR,XO,DQ,FQ,UA,eQ,cJ,cC,bT,eS,eT,aW,cM,aV,bL,aU,aT,kF,a1,a2,b1,b2,e1,e2,o1,o2,eH,(DZ _).1,(DZ _).2,hf,hw,en,sp,d1,d2,hz,j1,j2,q_5,q_4,cond_false,aD,bP,wz,bO,cU,bG,cV,qt,q_3,q_6,true_and,forall_const,q_1,q_2,false_implies,and_true,implies_true];unfold BS cG;rw[hz];rfl
  ·have hB:uV (q1,x,n)={q1 with f:={q1.f with Vector:=8}}:=by unfold uV cG;rw[hf,hv];rfl
   have hC:FY {q1 with f:={q1.f with Vector:=8}} x n m.r.pc={q1 with f:={q1.f with Vector:=8}}:=by unfold FY cG;rfl
   rw[hB,hC];have hw:(bif (bif true then uU x else false)then(!q1.r.sup)else false)=true:=by
    rw[Bool.and_eq_true]at hv;rw[hv.1,hv.2];rfl
   obtain⟨c1,c2⟩:=cp ⟨m.r,q1.zs,q1.l,m.stop,{q1.f with Vector:=8}⟩ ⟨hm.r,f1.b⟩
   have c1':k80 (aS.mk m.r.g (qF q1.zs q1.l) m.stop {q1.f with Vector:=8})=true:=c1
   have c2':FP (aS.mk m.r.g (qF q1.zs q1.l) m.stop {q1.f with Vector:=8})=bF m.r q1.zs q1.l m.stop false:=c2
   simp only[aB,aJ,aA,M7,BD,H6,M6,BC,H5,jP,M5,M4,BB,H4,XQ,XP,J4,OB,UB,oR,XO,DQ,FQ,UA,eQ,cJ,cC,bT,eS,eT,aW,cM,aV,bL,aU,aT,a1,a2,b1,b2,e1,e2,o1,o2,eH,(DZ _).1,(DZ _).2,hf,hw,show eqI 8 0=false from rfl,c1',c2',q_5,q_4,cond_false,aD,bP,wz,bO,cU,bG,cV,qt,q_3,q_6,true_and,forall_const,q_1,q_2,false_implies,and_true,implies_true]
   rfl
end Go.Proofs.YtdipcnijfkdnfaaGreatIrqs

namespace Go.Proofs.YtdipcnijfkdnfaaGreatIrqs
open Go Go.Zq
set_option maxHeartbeats 4000000
set_option maxRecDepth 100000
theorem uP{B:Int}{c:aM}(r:List Int)(h1:CO B c)(h2:B<2500000000000000000)(h3:1≤r.length):k90 (ri r) c=true∧CO (B+2) (N6 (ri r) c).1:=by
 obtain⟨a,b,-⟩:=O7 (r:=ri r) ⟨r,rfl⟩ (by rw[bI];exact h3) h1 (by omega)
 exact⟨a,b⟩
theorem b58{B:Int}{p:Bool}{c d:aM}(h:CO B c)(k:CO B d):CO B (aM.mk (bif p then c.fcode else d.fcode) (bif p then c.fat else d.fat) (bif p then c.fseed else d.fseed)):=by
 cases p
 ·exact k
 ·exact h
theorem a8Y(b:Bool):yB b 1=true:=by
 refine(aK (t:=aIB b 1) (P:=fun _=>True) ?_).1
 unfold aIB;simp only[aB,aJ,aA,true_and,implies_true,and_true]
theorem NG{B:Int}{c:aM}(h:CO B c)(hB:B<2000000000000000000):bA7 c=true∧CO (B+14) (rT c).1:=by
 refine aK (t:=a0N c) (P:=fun r=>CO (B+14) r.1) ?_
 have tl: ∀{c':aM},CO (B+6) c'→k86 60 c'=true∧CO (B+14) (nB 60 c').1∧w7 9 (nB 60 c').1=true∧w7 5 (cW 9 (nB 60 c').1).1=true∧w7 2 (cW 5 (cW 9 (nB 60 c').1).1).1=true∧CO (B+14) (cW 2 (cW 5 (cW 9 (nB 60 c').1).1).1).1:=fun{c'} hc=>by
  obtain⟨a1,a2⟩:=DR 60 hc (by omega)
  obtain⟨b1,b2,-⟩:=eN 9 a2 (by omega)
  obtain⟨e1,e2,-⟩:=eN 5 b2 (by omega)
  obtain⟨f1,f2,-⟩:=eN 2 e2 (by omega)
  exact⟨a1,a2.mono (by omega),b1,e1,f1,f2.mono (by omega)⟩
 obtain⟨a1,a2,-⟩:=eN 8 h (by omega)
 obtain⟨b1,b2,-⟩:=eN 4 a2 (by omega)
 obtain⟨c1,c2⟩:=uP [0,1,2,20,100,200,384,448,65535,65534] b2 (by omega) (by decide)
 obtain⟨d1,d2⟩:=uP [0,1,2,20,100,200,384,448,65535,65534] a2 (by omega) (by decide)
 simp only[BG,H9]at c1 c2 d1 d2;obtain⟨p1,p2,p3,p4,p5,p6⟩:=tl (c2.mono (by omega))
 obtain⟨q1,q2,q3,q4,q5,q6⟩:=tl (b2.mono (by omega))
 obtain⟨r1,r2,r3,r4,r5,r6⟩:=tl (d2.mono (by omega))
 obtain⟨s1,s2,s3,s4,s5,s6⟩:=tl (a2.mono (by omega))
 unfold a0N;simp only[aB,aJ,aA,aIA,LN,aH9,LM,GZ,RC,GY,aH8,LK,GX,(XX _).1,a1,b1,c1,d1,p1,p3,p4,p5,q1,q3,q4,q5,r1,r3,r4,r5,s1,s3,s4,s5,Bool.and_true,true_and];refine⟨fun _=>⟨fun _=>⟨fun _=>p6,fun _=>p2⟩,fun _=>⟨fun _=>q6,fun _=>q2⟩⟩,fun _=>⟨fun _=>⟨fun _=>r6,fun _=>r2⟩,fun _=>⟨fun _=>s6,fun _=>s2⟩⟩⟩
def bQL(B:Int)(n:Nat)(c:aM)(r:Option V185_0):Prop:=match r with
 |none=>CO (B+360) c
 |some w=> ∃m,m<n∧(CO (B+60*(6-m)) w.b0∧w.s3=6-(m:Int)∧m≤6)
theorem a8Z(c:aM)(x:aQ){B:Int}(h:CO B c)(hB:B<1000000000000000000):aIM (V185_0.mk c x 0)=true∧CO (B+360) (aIL (V185_0.mk c x 0)).b0:=by
 unfold aIM aIL;refine kD (Post:=fun w:V185_0=>CO (B+360) w.b0) (eX (fun(m:Nat) (v:V185_0)=>CO (B+60*(6-m)) v.b0∧v.s3=6-(m:Int)∧m≤6) _ ?_ 2097152 6 _ ⟨h.mono (by omega),rfl,by omega⟩ (by omega))
 rintro n v ⟨h,h2,h3⟩
 have hp:CO (B+360) v.b0:=h.mono (by omega)
 have key:(C0 v).Sat (bQL B n v.b0):=by
  have stp:bQL B n v.b0 none:=hp;by_cases hn:n=0
  ·have e:ltI v.s3 6=false:=by rw[pA];omega
   unfold C0;simp only[aB,aJ,aA,e,true_and,Bool.false_eq_true,false_implies];exact fun _=>stp
  have nxt: ∀c',CO (B+60*(6-n)+60) c'→bQL B n v.b0 (some (V185_0.mk c' v.b1 (bE v.s3 1))):=fun c' hc=>⟨n-1,by omega,hc.mono (by omega),by show bE v.s3 1=_;rw[bV (by omega)];omega,by omega⟩
  obtain⟨a1,a2,-⟩:=eN 19 h (by omega)
  obtain⟨b1,b2,-⟩:=eN 2 a2 (by omega)
  obtain⟨c1,c2,-⟩:=eN 4 b2 (by omega)
  obtain⟨o1,o2⟩:=NG c2 (by omega)
  obtain⟨d1,d2,-⟩:=eN 4 o2 (by omega)
  obtain⟨e1,e2,-⟩:=eN 2 o2 (by omega)
  obtain⟨f1,f2,-⟩:=eN 7 e2 (by omega)
  obtain⟨g1,g2,-⟩:=eN 4 f2 (by omega)
  obtain⟨i1,i2,-⟩:=eN 8 e2 (by omega)
  obtain⟨j1,j2⟩:=uP [2,4,6,8,65526,65530,0,3] i2 (by omega) (by decide)
  obtain⟨l1,l2⟩:=uP [0,1,2,2,3,4,5,6] o2 (by omega) (by decide)
  simp only[BG,H9]at j1 j2 l1 l2;obtain⟨m1,m2,-⟩:=eN 4 l2 (by omega)
  obtain⟨n1,n2⟩:=uP [0,256,512,1023] m2 (by omega) (by decide)
  obtain⟨q1,q2⟩:=uP [0,256,512,1023] l2 (by omega) (by decide)
  obtain⟨r1,r2⟩:=uP [0,256,480,768,31] o2 (by omega) (by decide)
  simp only[BG,H9]at n1 n2 q1 q2 r1 r2;obtain⟨s1,s2⟩:=DR 2 r2 (by omega)
  obtain⟨t1,t2,-⟩:=eN 4 s2 (by omega)
  have o2':CO (B+60*(6-n)+60) _:=o2.mono (by omega)
  have d2':CO (B+60*(6-n)+60) _:=d2.mono (by omega)
  have e2':CO (B+60*(6-n)+60) _:=e2.mono (by omega)
  have g2':CO (B+60*(6-n)+60) _:=g2.mono (by omega)
  have j2':CO (B+60*(6-n)+60) _:=j2.mono (by omega)
  have l2':CO (B+60*(6-n)+60) _:=l2.mono (by omega)
  have m2':CO (B+60*(6-n)+60) _:=m2.mono (by omega)
  have n2':CO (B+60*(6-n)+60) _:=n2.mono (by omega)
  have q2':CO (B+60*(6-n)+60) _:=q2.mono (by omega)
  have s2':CO (B+60*(6-n)+60) _:=s2.mono (by omega)
  have t2':CO (B+60*(6-n)+60) _:=t2.mono (by omega)
  unfold C0;simp only[aB,aJ,aA,tE,CZ,CY,tD,p8,nQ,CX,CW,nP,CV,CU,nO,hU,dQ,nN,CT,CS,tC,CQ,CP,p7,G2,rU,AT,dL,AS,pK,lH,G1,G0,cO,bO,cU,bG,cV,aD,bP,wz,a8Y,(UK _).1,a1,b1,c1,o1,d1,e1,f1,g1,i1,j1,l1,m1,n1,q1,r1,s1,t1,Bool.and_true,true_and]
  repeat' first
   |with_reducible exact stp
   |(with_reducible refine nxt _ ?_;with_reducible assumption)
   |intro _
   |with_reducible constructor
 exact key
def b59(B:Int)(r:aM×aQ):Prop:=CO (B+420) r.1
theorem bIX{B:Int}{c:aM}(h:CO B c)(hB:B<1000000000000000000):bBL c=true∧CO (B+420) (ON c).1:=by
 refine aK (t:=aVV c) (P:=fun r=>CO (B+420) r.1) ?_
 obtain⟨w1,w2⟩:=a8Z c ⟨0,0,0,⟨0,0,0⟩,0⟩ h hB;obtain⟨a1,a2,-⟩:=eN 19 w2 (by omega)
 obtain⟨b1,b2,-⟩:=eN 2 a2 (by omega)
 obtain⟨c1,c2,-⟩:=eN 4 b2 (by omega)
 obtain⟨o1,o2⟩:=NG c2 (by omega)
 obtain⟨d1,d2,-⟩:=eN 4 o2 (by omega)
 obtain⟨e1,e2,-⟩:=eN 2 o2 (by omega)
 obtain⟨f1,f2,-⟩:=eN 7 e2 (by omega)
 obtain⟨g1,g2,-⟩:=eN 4 f2 (by omega)
 obtain⟨i1,i2,-⟩:=eN 8 e2 (by omega)
 obtain⟨j1,j2⟩:=uP [2,4,6,8,65526,65530,0,3] i2 (by omega) (by decide)
 obtain⟨l1,l2⟩:=uP [0,1,2,2,3,4,5,6] o2 (by omega) (by decide)
 simp only[BG,H9]at j1 j2 l1 l2;obtain⟨m1,m2,-⟩:=eN 4 l2 (by omega)
 obtain⟨n1,n2⟩:=uP [0,256,512,1023] m2 (by omega) (by decide)
 obtain⟨q1,q2⟩:=uP [0,256,512,1023] l2 (by omega) (by decide)
 obtain⟨r1,r2⟩:=uP [0,256,480,768,31] o2 (by omega) (by decide)
 simp only[BG,H9]at n1 n2 q1 q2 r1 r2;obtain⟨s1,s2⟩:=DR 2 r2 (by omega)
 obtain⟨t1,t2,-⟩:=eN 4 s2 (by omega)
 have o2':CO (B+420) _:=o2.mono (by omega)
 have d2':CO (B+420) _:=d2.mono (by omega)
 have e2':CO (B+420) _:=e2.mono (by omega)
 have g2':CO (B+420) _:=g2.mono (by omega)
 have j2':CO (B+420) _:=j2.mono (by omega)
 have l2':CO (B+420) _:=l2.mono (by omega)
 have m2':CO (B+420) _:=m2.mono (by omega)
 have n2':CO (B+420) _:=n2.mono (by omega)
 have q2':CO (B+420) _:=q2.mono (by omega)
 have s2':CO (B+420) _:=s2.mono (by omega)
 have t2':CO (B+420) _:=t2.mono (by omega)
 have w2':CO (B+420) _:=w2.mono (by omega)
 have nxt: ∀c' x,CO (B+420) c'→b59 B (c',x):=fun c' x h=>h
 have key:(aVV c).Sat (b59 B):=by
  unfold aVV;simp only[aB,aJ,aA,ZG,ZF,ZE,JK,AU,JJ,JI,gC,JH,ZD,RG,yC,aIO,ZC,RF,aIN,gN,lX,gM,bO,cU,bG,cV,aD,bP,wz,a8Y,(UK _).1,w1,a1,b1,c1,o1,d1,e1,f1,g1,i1,j1,l1,m1,n1,q1,r1,s1,t1,Bool.and_true,true_and]
  repeat' first
   |(with_reducible refine nxt _ _ ?_;with_reducible assumption)
   |intro _
   |with_reducible constructor
 exact key
theorem b6A{B:Int}{c:aM}(h:CO B c)(hB:B<1000000000000000000):a0X c=true∧CO (B+500) (aIQ c).1:=by
 refine aK (t:=a0W c) (P:=fun r=>CO (B+500) r.1) ?_
 obtain⟨a1,a2⟩:=bIX h hB;obtain⟨b1,b2⟩:=DR 20 a2 (by omega)
 obtain⟨c1,c2,-⟩:=eN 22 b2 (by omega)
 obtain⟨d1,d2,-⟩:=eN 4 c2 (by omega)
 obtain⟨e1,e2,-⟩:=eN 5 d2 (by omega)
 obtain⟨f1,f2⟩:=NG e2 (by omega)
 obtain⟨g1,g2,-⟩:=eN 9 f2 (by omega)
 unfold a0W;simp only[aB,aJ,aA,aIP,LP,LO,a1,b1,c1,d1,e1,f1,g1,Bool.and_true,true_and];exact⟨fun _=>g2.mono (by omega),fun _=>b2.mono (by omega)⟩
theorem b6B{x:List Row}(h:bytesOk x=true):CO 0 (aM.mk x 0 0):=⟨h,Int.le_refl 0,Int.le_refl 0⟩
end Go.Proofs.YtdipcnijfkdnfaaGreatIrqs

namespace Go.Proofs.YtdipcnijfkdnfaaGreatIrqs
open Go Go.Zq
set_option maxHeartbeats 4000000
set_option maxRecDepth 100000
theorem bQM{l:List aQ}{i:Nat}(h:i<l.length):hZ [.int .i64, .int .i64, .int .i64, .int .i64, .int .i64, .int .i64, .int .i64] (l.map aQ.row) (i:Int)=true∧aQ.at (l.map aQ.row) i 0=l[i]:=by
 have e:(l.map aQ.row).getD i []=aQ.row l[i]:=by simp[List.getD_eq_getElem?_getD,h]
 constructor
 ·simp only[hZ,dU,Int.toNat_natCast,e,List.length_map];have:Nat.blt i l.length=true:=by simpa using h
  rw[this];rfl
 ·unfold aQ.at bQ vS;rw[e];rfl
theorem b6C{n:Nat}(h:n≤2000):qQ (vX (n+1) 56) 140737488355328=true∧qQ (n+1) 140737488355328=true:=by
 simp only[O6,aDB];omega
def IL(n:Nat)(r:List Row):Prop:= ∃l:List aQ,r=l.map aQ.row∧l.length≤n
theorem aT8(n:Nat)(c:aM){B:Int}(h:CO B c)(hB:B+420*n<500000000000000000)(hn:n≤50):ZK (V202_0.mk c [] (n:Int))=true∧(CO (B+420*n) (RJ (V202_0.mk c [] (n:Int))).b0∧IL n (RJ (V202_0.mk c [] (n:Int))).s3):=by
 unfold ZK RJ;refine kD (Post:=fun w:V202_0=>CO (B+420*n) w.b0∧IL n w.s3) (eX (fun(m:Nat) (v:V202_0)=>CO (B+420*(n-m)) v.b0∧v.s4=(m:Int)∧m≤n∧ ∃l:List aQ,v.s3=l.map aQ.row∧l.length+m=n) _ ?_ 2097152 n _ ⟨h.mono (by omega),rfl,by omega,[],rfl,by simp⟩ (by omega))
 rintro m v ⟨h1,h2,h3,l,h4,h5⟩
 obtain⟨a1,a2⟩:=bIX h1 (by omega)
 obtain⟨r1,r2⟩:=b6C (n:=l.length) (by omega)
 unfold LQ;simp only[aB,aJ,aA,G3,h2,h4,a1,r1,r2,List.length_map,Nat.zero_add,aD,bP,wz,rB,FS,Bool.and_true,true_and];refine⟨fun hm=>⟨m-1,by omega,a2.mono (by omega),?_,by omega,l++[(ON v.b0).2],by simp,by simp;omega⟩,fun hm=>⟨h1.mono (by omega),l,rfl,by omega⟩⟩
 rw[eV (by omega)];omega
theorem a80{n:Nat}{r:List Row}(h:IL n r)(x:aQ)(k:Nat):IL n (r.set k (aQ.row x)):=by
 obtain⟨l,rfl,h1⟩:=h;exact⟨l.set k x,by rw[List.map_set],by simpa using h1⟩
theorem bGT{n:Nat}{r:List Row}(h:IL n r)(h0:0<r.length):jW (jX r 0) 7=true:=by
 obtain⟨l,rfl,h1⟩:=h;cases l with
 |nil=>simp at h0
 |cons a l=>rfl
theorem a81{α:Type}(b:Bool)(x:α):(bif b then x else x)=x:=by cases b<;>rfl
theorem X8{n:Nat}{B:Int}{c:aM}{r:List Row}(h1:CO B c)(h2:IL n r)(hB:B<900000000000000000):k86 20 c=true∧CO (B+2) (aM.mk (bif (kU (cA r) 0)then(nB 20 c).1.fcode else c.fcode) (bif (kU (cA r) 0)then(nB 20 c).1.fat else c.fat) (bif (kU (cA r) 0)then(nB 20 c).1.fseed else c.fseed))∧a0X (aM.mk (bif (kU (cA r) 0)then(nB 20 c).1.fcode else c.fcode) (bif (kU (cA r) 0)then(nB 20 c).1.fat else c.fat) (bif (kU (cA r) 0)then(nB 20 c).1.fseed else c.fseed))=true∧CO (B+502) (aIQ (aM.mk (bif (kU (cA r) 0)then(nB 20 c).1.fcode else c.fcode) (bif (kU (cA r) 0)then(nB 20 c).1.fat else c.fat) (bif (kU (cA r) 0)then(nB 20 c).1.fseed else c.fseed))).1:=by
 obtain⟨a1,a2⟩:=DR 20 h1 (by omega)
 have a3:CO (B+2) (aM.mk (bif (kU (cA r) 0)then(nB 20 c).1.fcode else c.fcode) (bif (kU (cA r) 0)then(nB 20 c).1.fat else c.fat) (bif (kU (cA r) 0)then(nB 20 c).1.fseed else c.fseed)):=b58 a2 (h1.mono (by omega))
 obtain⟨b1,b2⟩:=b6A a3 (by omega)
 exact⟨a1,a3,b1,b2.mono (by omega)⟩
theorem bQN{c:aM}{B:Int}(h:CO B c)(hB:B<400000000000000000):bJ5 c=true∧(CO (B+30000) (OO c).1∧IL 50 (OO c).2):=by
 refine aK (t:=a0Y c) (P:=fun r=>CO (B+30000) r.1∧IL 50 r.2) ?_
 obtain⟨a1,a2,a3,a4,-⟩:=eN 8 h (by omega)
 have a4:=a4 (by omega)
 obtain⟨b1,b2⟩:=DR 20 a2 (by omega)
 obtain⟨c1,c2,c3,c4,-⟩:=eN 2 b2 (by omega)
 have c4:=c4 (by omega)
 obtain⟨m,hm⟩: ∃m:Nat,(cW 8 c).2=(m:Int):=⟨_,(Int.toNat_of_nonneg a3).symm⟩;obtain⟨n,hn⟩: ∃n:Nat,bE 40 (cW 2 (nB 20 (cW 8 c).1).1).2=(n:Int):=⟨(40+(cW 2 (nB 20 (cW 8 c).1).1).2).toNat,by rw[bV (by omega)];omega⟩
 have hn':n≤41:=by rw[bV (by omega)]at hn;omega
 obtain⟨d1,d2,d3⟩:=aT8 n _ c2 (by omega) (by omega)
 obtain⟨e1,e2,e3⟩:=aT8 m _ b2 (by omega) (by omega)
 have d3:IL 50 _:=⟨d3.choose,d3.choose_spec.1,by have:=d3.choose_spec.2;omega⟩
 have e3:IL 50 _:=⟨e3.choose,e3.choose_spec.1,by have:=e3.choose_spec.2;omega⟩
 obtain⟨f1,f2,f3,f4⟩:=X8 d2 d3 (by omega)
 obtain⟨i1,i2,i3,i4⟩:=X8 e2 e3 (by omega)
 have tk: ∀r:List Row,List.take r.length r=r:=fun r=>List.take_length
 have z: ∀n:Nat,qQ (0+n) n=true:=fun n=>by simp
 have pos: ∀r:List Row,∀q:Bool,(bif kU (cA r) 0 then q else false)=true→ltI 0 (cA r)=true∧blt 0 r.length=true∧(IL 50 r→jW (jX r 0) 7=true):=fun r q hq=>by
  cases hg:kU (cA r) 0
  ·rw[hg]at hq;simp at hq
  ·rw[rB,bA]at hg;exact⟨by simp;omega,by simp;omega,fun h=>bGT h (by omega)⟩
 unfold a0Y;simp only[aB,aJ,aA,ZO,ZN,ZM,ZL,EM,RN,gP,aIU,aIT,aIS,aIR,LR,RL,gO,RK,a1,b1,c1,hm,hn,d1,e1,f1,i1,f3,i3,z,a81,List.length_set,tk,aD,bP,wz,Bool.and_true,Bool.true_or,true_and];have tks: ∀(r:List Row)(x:Row),List.take r.length (r.set 0 x)=r.set 0 x:=fun r x=>List.take_of_length_le (by simp)
 simp only[tks,List.length_set,aD,bP,wz,Bool.and_true,true_and];refine⟨fun _=>⟨fun hq=>?_,fun _=>⟨f2.mono (by omega),d3⟩⟩,fun _=>⟨fun hq=>?_,fun _=>⟨i2.mono (by omega),e3⟩⟩⟩
 ·obtain⟨p1,p2,p3⟩:=pos _ _ hq;rw[p1,p2,p3 d3];exact⟨rfl,f4.mono (by omega),a80 d3 _ 0⟩
 ·obtain⟨p1,p2,p3⟩:=pos _ _ hq;rw[p1,p2,p3 e3];exact⟨rfl,i4.mono (by omega),a80 e3 _ 0⟩
theorem bQO(x:aQ):bJ7 x=true∧ ∃zs:List Int,bJ6 x=ri zs∧zs.length≤2:=by
 refine aK (t:=a0Z x) (P:=fun r=> ∃zs:List Int,r=ri zs∧zs.length≤2) ?_
 unfold a0Z;simp only[aB,aJ,aA,(XX _).1,show leI 0 11=true from rfl,show leI 0 10=true from rfl,show leI 0 8=true from rfl,show leI 0 5=true from rfl,show leI 0 3=true from rfl,aD,bP,wz,Bool.and_true,true_and]
 exact⟨fun _=>⟨[_,_],rfl,by simp⟩,fun _=>⟨[_],rfl,by simp⟩⟩
def EL(n:Nat)(r:List Row):Prop:= ∃zs:List Int,r=ri zs∧zs.length≤n
theorem bGU(l:List aQ)(hl:l.length≤50)(x:List Row):aIW (V201_0.mk x [] (l.map aQ.row) (cA (l.map aQ.row)) 0)=true∧EL 200 (aIV (V201_0.mk x [] (l.map aQ.row) (cA (l.map aQ.row)) 0)).s4:=by
 unfold aIW aIV;refine kD (Post:=fun w:V201_0=>EL 200 w.s4) (eX (fun(m:Nat) (v:V201_0)=> ∃i:Nat,v.s7=l.map aQ.row∧v.s8=(l.length:Int)∧v.s9=(i:Int)∧i+m=l.length∧EL (2*i) v.s4) _ ?_ 2097152 l.length _ ⟨0,rfl,by simp,rfl,by omega,[],rfl,by simp⟩ (by omega))
 rintro m v ⟨i,h1,h2,h3,h4,zs,h5,h6⟩
 have done:EL 200 v.s4:=⟨zs,h5,by omega⟩
 unfold LS;simp only[aB,aJ,aA,G5,G4,vY,h1,h2,h3,eK,pA,true_and,Int.toNat_natCast,(UK _).1,Bool.and_true];refine⟨fun hlt=>?_,fun _=>done⟩
 have hi:i<l.length:=by omega
 obtain⟨p1,p2⟩:=bQM hi;obtain⟨q1,ws,q2,q3⟩:=bQO l[i];have r1:qQ (vX (zs.length+ws.length) 8) 140737488355328=true∧qQ (zs.length+ws.length) 140737488355328=true:=by simp only[O6,aDB];omega
 rw[p1,p2,q1,q2,h5];simp only[bI,r1,aD,bP,wz,Nat.zero_add,Bool.and_true,true_and];refine⟨fun _=>⟨zs,rfl,by omega⟩,fun _=>⟨m-1,by omega,i+1,?_,by omega,zs++ws,aVJ.symm,by rw[List.length_append];omega⟩⟩
 rw[bV (by omega)];omega
theorem cJ6{r:List Row}(h:IL 50 r):bJ8 r=true∧EL 200 (aIY r).1:=by
 obtain⟨l,rfl,hl⟩:=h;refine aK (t:=a00 (l.map aQ.row)) (P:=fun q=>EL 200 q.1) ?_
 obtain⟨a1,a2⟩:=bGU l hl (l.map aQ.row);have e0:EL 200 []:=⟨[],rfl,by simp⟩
 unfold a00;simp only[aB,aJ,aA,aIX,LT,a1,aD,bP,wz,Bool.and_true,true_and];exact⟨fun _=>e0,fun _=>⟨fun _=>e0,fun _=>a2⟩⟩
end Go.Proofs.YtdipcnijfkdnfaaGreatIrqs

namespace Go.Proofs.YtdipcnijfkdnfaaGreatIrqs
open Go Go.Zq
set_option maxHeartbeats 4000000
set_option maxRecDepth 100000
theorem a82(c:aM)(a:Int){B:Int}(h:CO B c)(hB:B<300000000000000000):aIZ (V149_0.mk c a (ri (List.replicate 384 0)) 384 0)=true∧(CO (B+2000) (RU (V149_0.mk c a (ri (List.replicate 384 0)) 384 0)).b0∧(RU (V149_0.mk c a (ri (List.replicate 384 0)) 384 0)).s4=a∧ ∃zs:List Int,(RU (V149_0.mk c a (ri (List.replicate 384 0)) 384 0)).s5=ri zs∧zs.length=384):=by
 unfold aIZ RU;refine kD (Post:=fun w:V149_0=>CO (B+2000) w.b0∧w.s4=a∧ ∃zs:List Int,w.s5=ri zs∧zs.length=384) (eX (fun(m:Nat) (v:V149_0)=>CO (B+4*(384-m)) v.b0∧v.s4=a∧v.s16=384∧ ∃i:Nat,v.s17=(i:Int)∧i+m=384∧ ∃zs:List Int,v.s5=ri zs∧zs.length=384) _ ?_ 2097152 384 _ ⟨h.mono (by omega),rfl,rfl,0,rfl,by omega,_,rfl,by simp⟩ (by omega))
 rintro m v ⟨h1,h2,h3,i,h4,h5,zs,h6,h7⟩
 obtain⟨a1,a2⟩:=DR 8 h1 (by omega)
 obtain⟨b1,b2,-⟩:=eN 256 a2 (by omega)
 have e1:bE (i:Int) 1=((i+1:Nat):Int):=by rw[bV (by omega)];omega
 unfold LU;simp only[aB,aJ,aA,G7,G6,h2,h3,h4,h6,e1,a1,b1,bA,bI,h7,dX,List.length_set,Nat.zero_add,Int.toNat_natCast,eK,pA,aD,bP,wz,Bool.and_true,true_and];refine⟨fun hi=>⟨fun _=>?_,fun _=>⟨m-1,by omega,a2.mono (by omega),i+1,rfl,by omega,zs,rfl,h7⟩⟩,fun _=>⟨h1.mono (by omega),zs,rfl,h7⟩⟩
 have hi':i<zs.length:=by omega
 have l0:leI 0 (i:Int)=true:=by simp
 have l1:ltI (i:Int) ((384:Nat):Int)=true:=by rw[eK];omega
 have l2:blt i 384=true:=by simp;omega
 have l3:jW (jX (ri zs) i) 1=true:=by rw[xV hi'];rfl
 rw[l0,l1,l2,l3];refine⟨rfl,m-1,by omega,b2.mono (by omega),i+1,rfl,by omega,_,rfl,by rw[List.length_set];exact h7⟩
theorem a83(c:aM)(a:Int)(ys ws:List Int){B:Int}(h:CO B c)(ha:0≤a)(ha1:a≤100)(hy:ys.length=384)(hw:ws.length≤300):aI0 (V149_1.mk c a (ri ys) (ri ws) (cA (ri ws)) 0)=true∧(CO B (RW (V149_1.mk c a (ri ys) (ri ws) (cA (ri ws)) 0)).b0∧(RW (V149_1.mk c a (ri ys) (ri ws) (cA (ri ws)) 0)).s4=a∧ ∃zs:List Int,(RW (V149_1.mk c a (ri ys) (ri ws) (cA (ri ws)) 0)).s5=ri zs∧zs.length=384):=by
 unfold aI0 RW;refine kD (Post:=fun w:V149_1=>CO B w.b0∧w.s4=a∧ ∃zs:List Int,w.s5=ri zs∧zs.length=384) (eX (fun(m:Nat) (v:V149_1)=>CO B v.b0∧v.s4=a∧v.s34=ri ws∧v.s35=(ws.length:Int)∧ ∃i:Nat,v.s36=(i:Int)∧i+m=ws.length∧ ∃zs:List Int,v.s5=ri zs∧zs.length=384) _ ?_ 2097152 ws.length _ ⟨h,rfl,rfl,by simp[bI],0,rfl,by omega,ys,rfl,hy⟩ (by omega))
 rintro m v ⟨h1,h2,h8,h3,i,h4,h5,zs,h6,h7⟩
 obtain⟨an,rfl⟩:=Int.eq_ofNat_of_zero_le ha;have e1:bE (i:Int) 1=((i+1:Nat):Int):=by rw[bV (by omega)];omega
 have e2:dH 2 (i:Int)=((2*i:Nat):Int):=by rw[hJ (by omega)];omega
 have e3:bE (an:Int) ((2*i:Nat):Int)=((an+2*i:Nat):Int):=by rw[bV (by omega)];omega
 have e4:bE ((an+2*i:Nat):Int) 1=((an+2*i+1:Nat):Int):=by rw[bV (by omega)];omega
 unfold LV;simp only[aB,aJ,aA,vZ,HA,G9,AX,AW,AV,G8,h2,h3,h4,h6,h8,e1,e2,e3,e4,bA,bI,h7,dX,List.length_set,Nat.zero_add,Int.toNat_natCast,eK,pA,aD,bP,wz,Bool.and_true,true_and];refine⟨fun hi=>?_,fun _=>⟨h1,zs,rfl,h7⟩⟩
 have hi':i<ws.length:=by omega
 have l0: ∀n:Nat,leI 0 (n:Int)=true:=fun n=>by simp
 have l1:ltI (i:Int) (ws.length:Int)=true:=by rw[eK];omega
 have l2:dU [.int .i64] (ri ws) i 0=true:=EN ⟨ws,rfl⟩ (by rw[bI];exact hi')
 rw[l0,l1,l2];refine⟨rfl,by simp,fun hb=>?_,fun _=>⟨m-1,by omega,h1,i+1,rfl,by omega,zs,rfl,h7⟩⟩
 have hb':an+2*i+1<zs.length:=by omega
 have l4:ltI ((an+2*i:Nat):Int) ((384:Nat):Int)=true:=by rw[eK];omega
 have l5:blt (an+2*i) 384=true:=by simp;omega
 have l6:jW (jX (ri zs) (an+2*i)) 1=true:=by rw[xV (by omega)];rfl
 have l7:blt (an+2*i+1) 384=true:=by simp;omega
 have l8:ltI ((an+2*i+1:Nat):Int) ((384:Nat):Int)=true:=by rw[eK];omega
 have l9: ∀z,jW (jX (ri (zs.set (an+2*i) z)) (an+2*i+1)) 1=true:=fun z=>by rw[xV (by rw[List.length_set];omega)];rfl
 have l10:leI 0 8=true:=rfl;simp only[l0,l1,l2,l4,l5,l6,l7,l8,l9,l10,Bool.and_true,true_and];exact⟨m-1,by omega,h1,i+1,rfl,by omega,_,rfl,by rw[List.length_set,List.length_set];exact h7⟩
theorem bGV{c:aM}{B:Int}(h:CO B c)(hB:B<200000000000000000):bJ9 c=true∧(CO (B+40000) (w9 c).1∧(∃zs:List Int,(w9 c).2.1=ri zs∧zs.length=384)∧0≤(w9 c).2.2∧(w9 c).2.2≤60):=by
 refine aK (t:=a01 c) (P:=fun r=>CO (B+40000) r.1∧(∃zs:List Int,r.2.1=ri zs∧zs.length=384)∧0≤r.2.2∧r.2.2≤60) ?_
 obtain⟨a1,a2,a3,a4,-⟩:=eN 30 h (by omega)
 have a4:=a4 (by omega)
 have e0:List.replicate 384 (bB 0)=ri (List.replicate 384 0):=by simp[ri,List.map_replicate,bB]
 have e1:dH 2 (cW 30 c).2=2*(cW 30 c).2:=hJ (by omega)
 obtain⟨b1,b2,b3,zs,b4,b5⟩:=a82 (cW 30 c).1 (2*(cW 30 c).2) a2 (by omega)
 obtain⟨c1,c2,c3⟩:=bQN b2 (by omega)
 obtain⟨d1,ws,d2,d3⟩:=cJ6 c3;obtain⟨f1,f2,f3,ys,f4,f5⟩:=a83 _ (2*(cW 30 c).2) zs ws c2 (by omega) (by omega) b5 (by omega)
 unfold a01;simp only[aB,aJ,aA,aI1,RY,RX,ZX,oW,a1,e0,e1,b1,b3,b4,c1,d1,d2,f1,f3,f4,aD,bP,wz,Bool.and_true,true_and];exact⟨by simp,f2.mono (by omega),⟨ys,rfl,f5⟩,by omega,by omega⟩
end Go.Proofs.YtdipcnijfkdnfaaGreatIrqs
