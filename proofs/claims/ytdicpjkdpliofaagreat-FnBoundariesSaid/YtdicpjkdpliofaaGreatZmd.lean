import Derived.Test.YtdicpjkdpliofaaGreatZqBoundariesQ
import Derived.Test.YtdicpjkdpliofaaGreatZmc
set_option linter.unusedVariables false
set_option linter.unusedSimpArgs false
namespace Go.Proofs.YtdicpjkdpliofaaGreatBoundaries
open Go Go.Zq
set_option maxHeartbeats 4000000
set_option maxRecDepth 100000
theorem ef (a b : Int) (h : eqI a b = false := by rfl) : eqI a b = false := h
theorem et (a b : Int) (h : eqI a b = true := by rfl) : eqI a b = true := h
@[simp] theorem iU(x a b:Int):tW x a b=cA x a b:=by
  simp only[tW,dP,a4M,rM,kA,geI,leI,cA,ge_iff_le];cases decide (a≤x)<;>rfl
@[simp] theorem iV(x a b:Int):wF x a b=true:=by
  simp[wF,dP,a4M]
@[simp] theorem p8(x a b:Int):tU x a b=cA x a b:=by
  simp only[tU,dP,a3Q,rM,kA,geI,leI,cA,ge_iff_le];cases decide (a≤x)<;>rfl
@[simp] theorem p9(x a b:Int):wB x a b=true:=by
  simp[wB,dP,a3Q]
theorem VG{zs:List Int}{i:Nat}(h:i<zs.length)(hz:cA zs[i] 0 255=false):cZ zs=false:=by
 unfold cZ;rw[List.all_eq_false];exact⟨zs[i],List.getElem_mem h,by simp[hz]⟩
theorem VH{zs:List Int}(h: ∀j(hj:j<zs.length),cA zs[j] 0 255=true):cZ zs=true:=by
 unfold cZ;rw[List.all_eq_true];intro z hz;obtain⟨j,hj,rfl⟩:=List.getElem_of_mem hz;exact h j hj
theorem bKL(zs:List Int)(hl:zs.length<1000000):aK2 (V245_0.mk (ri zs) (bN (ri zs)) 0)=true∧(ltI (aA8 (V245_0.mk (ri zs) (bN (ri zs)) 0)).s7 (aA8 (V245_0.mk (ri zs) (bN (ri zs)) 0)).s6=!cZ zs):=by
 unfold aK2 aA8;refine gP (Post:=fun w=>ltI w.s7 w.s6=!cZ zs) (eC (fun n v=> ∃i:Nat,v=V245_0.mk (ri zs) (bN (ri zs)) i∧i≤zs.length∧n=zs.length-i∧ ∀j(hj:j<zs.length),j<i→cA zs[j] 0 255=true) _ ?_ 9223372036854775808 zs.length _ ⟨0,rfl,by omega,by omega,fun j _ h=>absurd h (by omega)⟩ (by omega))
 rintro n v ⟨i,rfl,hi,rfl,hall⟩
 unfold MW;simp only[aQ,cB,aJ,aP,aY,dM,mB,true_and,Int.toNat_natCast];constructor
 ·intro h;have hi':i<zs.length:=by omega
  rw[rN hi',mN hi',p8,p9];refine⟨rfl,rfl,fun hz=>?_,fun hz=>?_⟩
  ·rw[VG hi' (by simpa using hz)]
   simpa [ltI]using h
  ·refine⟨_,?_,i+1,?_,by omega,rfl,?_⟩
   ·omega
   ·rw[bJ (by omega)];rfl
   ·intro j hj hji;by_cases e:j=i
    ·subst e;simpa using hz
    ·exact hall j hj (by omega)
 ·intro h;rw[VH fun j hj=>hall j hj (by omega)]
  simpa [ltI]using h
theorem YX(zs:List Int)(hl:zs.length<1000000):a4C (ri zs)=true∧aYX (ri zs)=cZ zs:=by
 obtain⟨h1,h2⟩:=bKL zs hl;unfold a4C aYX bFS aK3;rw[dP,dP];simp only[zJ,JF,pJ,rM,JG,kA,h1,h2,Bool.true_and];cases cZ zs<;>exact⟨rfl,rfl⟩
theorem a0B(xs ys:List Int)(hl:xs.length<1000000)(he:xs.length=ys.length):bAW (V24_0.mk (ri xs) (ri ys) (bN (ri xs)) 0)=true∧(ltI (aV1 (V24_0.mk (ri xs) (ri ys) (bN (ri xs)) 0)).s13 (aV1 (V24_0.mk (ri xs) (ri ys) (bN (ri xs)) 0)).s12=!decide (xs=ys)):=by
 unfold bAW aV1;refine gP (Post:=fun w=>ltI w.s13 w.s12=!decide (xs=ys)) (eC (fun n v=> ∃i:Nat,v=V24_0.mk (ri xs) (ri ys) (bN (ri xs)) i∧i≤xs.length∧n=xs.length-i∧ ∀j(hj:j<xs.length),j<i→xs[j]=ys[j]) _ ?_ 9223372036854775808 xs.length _ ⟨0,rfl,by omega,by omega,fun j _ h=>absurd h (by omega)⟩ (by omega))
 rintro n v ⟨i,rfl,hi,rfl,hall⟩
 unfold YN;simp only[aQ,cB,aJ,aP,aY,dM,mB,true_and,Int.toNat_natCast];constructor
 ·intro h;have hi':i<xs.length:=by omega
  have hy':i<ys.length:=by omega
  rw[rN hi',mN hi',rN hy',mN hy'];refine⟨rfl,fun hz=>?_,fun hz=>?_⟩
  ·have:xs≠ys:=fun e=>by subst e;simp at hz
   rw[decide_eq_false this];simpa [ltI]using h
  ·refine⟨_,?_,i+1,?_,by omega,rfl,?_⟩
   ·omega
   ·rw[bJ (by omega)];rfl
   ·intro j hj hji;by_cases e:j=i
    ·subst e;simpa using hz
    ·exact hall j hj (by omega)
 ·intro h;rw[decide_eq_true (List.ext_getElem he fun j h1 h2=>hall j h1 (by omega))]
  simpa [ltI]using h
theorem BZ(xs ys:List Int)(hl:xs.length<1000000):k24 (ri xs) (ri ys)=true∧g24 (ri xs) (ri ys)=decide (xs=ys):=by
 unfold k24 g24 T24 bAX;rw[dP,dP];by_cases he:xs.length=ys.length
 ·obtain⟨h1,h2⟩:=a0B xs ys hl he;have e:cU (bN (ri xs)) (bN (ri ys))=false:=by simp[he,aY]
  simp only[zJ,JF,pJ,rM,JG,kA,h1,h2,e,Bool.true_and,cond_false];cases decide (xs=ys)<;>exact⟨rfl,rfl⟩
 ·have e:cU (bN (ri xs)) (bN (ri ys))=true:=by simp[aY];omega
  have:xs≠ys:=fun e=>he (by rw[e])
  simp only[zJ,JF,pJ,rM,JG,kA,e,decide_eq_false this,Bool.true_and,cond_true,and_self]
def CO(B:Int)(c:aG):Prop:=CurOk B c.fcode c.fat
theorem CO.mono{B C:Int}{c:aG}(h:CO B c)(hB:B≤C):CO C c:=CurOk.mono h hB
theorem b0I(s:Int):0≤wA .i64 (bEL .u64 (a22 .u64 s 40) 255)∧wA .i64 (bEL .u64 (a22 .u64 s 40) 255)<256:=by
 have e:a22 .u64 s 40=Int.fdiv s 1099511627776:=by
  unfold a22;rw[show((2:Int)^min (Int.toNat 40) IntKind.u64.bits)=1099511627776 from by decide]
 unfold wA bEL;rw[e];exact bEK s
theorem bBN{B:Int}{c:aG}(h:CO B c)(hB:B<4000000000000000000):bEM c=true∧(CO (B+1) (CF c).1∧0≤(CF c).2∧(CF c).2<256):=by
 refine aF (t:=a3L c) (P:=fun r=>CO (B+1) r.1∧0≤r.2∧r.2<256) ?_
 obtain⟨h1,h2,h3⟩:=h;have ha:aV c.fat 1=c.fat+1:=bJ (by omega)
 have hc:CurOk (B+1) c.fcode (c.fat+1):=⟨h1,by omega,by omega⟩
 have hv:0≤R7 c∧R7 c<256:=by
  unfold R7;cases hl:ltI c.fat (bN c.fcode)
  ·simp
  ·have hl':c.fat<(c.fcode.length:Int):=by simpa using hl
   obtain⟨z,-,e,z0,z1⟩:=aJM h1 (j:=c.fat.toNat) (by omega)
   rw[cond_true,e,aWK (by omega)]
   exact⟨z0,z1⟩
 have hr:(fU [.int .u8] c.fcode c.fat||!(ltI c.fat (bN c.fcode)))=true:=by
  cases hl:ltI c.fat (bN c.fcode)
  ·simp
  ·have hl':c.fat<(c.fcode.length:Int):=by simpa using hl
   rw[R6 h1 h2 hl'];rfl
 unfold a3L;simp only[aQ,cB,aJ,hr,ha,Bool.and_true,true_and];exact⟨fun _=>⟨hc,hv⟩,fun _=>⟨hc,b0I _⟩⟩
theorem eE{B:Int}{c:aG}(n:Int)(h:CO B c)(hB:B<3000000000000000000):xG n c=true∧(CO (B+2) (cO n c).1∧0≤(cO n c).2∧(2≤n→(cO n c).2<n)∧(n≤1→(cO n c).2=0)):=by
 refine aF (t:=T83 n c) (P:=fun r=>CO (B+2) r.1∧0≤r.2∧(2≤n→r.2<n)∧(n≤1→r.2=0)) ?_
 obtain⟨k1,c1,v0,v1⟩:=bBN h (by omega)
 obtain⟨k2,c2,w0,w1⟩:=bBN c1 (by omega)
 unfold T83;simp only[aQ,cB,aJ,k1,k2,gZ,YW,nG,G2,nF,Bool.and_true,true_and];refine⟨fun hn=>⟨h.mono (by omega),by omega,by omega,fun _=>trivial⟩,fun hn=>⟨fun hb=>⟨by omega,c2.mono (by omega),?_⟩,fun hb=>⟨by omega,c1.mono (by omega),?_⟩⟩⟩
 ·have e:cX (CF c).2 256=(CF c).2*256:=gH (by omega)
  rw[e,bJ (by omega)]
  obtain⟨r0,r1⟩:=PU (x:=(CF c).2*256+(CF (CF c).1).2) (n:=n) (by omega) (by omega)
  exact⟨r0,fun _=>r1,by omega⟩
 ·obtain⟨r0,r1⟩:=PU (x:=(CF c).2) (n:=n) (by omega) (by omega)
  exact⟨r0,fun _=>r1,by omega⟩
theorem B9{B:Int}{c:aG}(n:Int)(h:CO B c)(hB:B<3000000000000000000):Z8 n c=true∧CO (B+2) (kX n c).1:=by
 refine aF (t:=T84 n c) (P:=fun r=>CO (B+2) r.1) ?_
 obtain⟨k1,c1,-⟩:=eE n h hB;unfold T84;simp only[aQ,aJ,k1,Bool.and_true,true_and];exact c1
theorem FZ{B:Int}{c:aG}{r:List Row}(hr:Num r)(hl:1≤r.length)(h:CO B c)(hB:B<3000000000000000000):z8 r c=true∧(CO (B+2) (rE r c).1∧ ∃j,j<r.length∧(rE r c).2=bF r j 0):=by
 refine aF (t:=a3O r c) (P:=fun q=>CO (B+2) q.1∧ ∃j,j<r.length∧q.2=bF r j 0) ?_
 obtain⟨k1,c1,v0,v1,v2⟩:=eE (bN r) h hB;rw[aP]at k1 c1 v0 v1 v2;have hj:(cO (r.length:Int) c).2<(r.length:Int):=by
  by_cases h2:r.length=1
  ·rw[v2 (by omega)];omega
  ·exact v1 (by omega)
 unfold a3O;simp only[aQ,aJ,aP,k1,bUI hr v0 hj,Bool.and_true,true_and];exact⟨c1,_,by omega,rfl⟩
end Go.Proofs.YtdicpjkdpliofaaGreatBoundaries

namespace Go.Proofs.YtdicpjkdpliofaaGreatBoundaries
open Go Go.Zq
set_option maxHeartbeats 4000000
set_option maxRecDepth 100000
def Acc(r:List Row):Prop:= ∃l:List aA,r=l.map aA.row
theorem aES{l:List aA}{i:Nat}(h:i<l.length):fU [.int .i64, .int .i64, .int .i64, .int .i64, .int .i64] (l.map aA.row) (i:Int)=true∧aA.at (l.map aA.row) i 0=l[i]:=by
 have e:(l.map aA.row).getD i []=aA.row l[i]:=by simp[List.getD_eq_getElem?_getD,h]
 constructor
 ·simp only[fU,dO,Int.toNat_natCast,e,List.length_map];have:Nat.blt i l.length=true:=by simpa using h
  rw[this];rfl
 ·unfold aA.at bF vZ;rw[e];rfl
structure BV(b:bC):Prop where
 n:Num b.Bytes
 a:Acc b.Log
 nb:b.Bytes.length≤512
 nl:b.Log.length≤1000
theorem O2{r:List Row}:cV (0+r.length) r.length=true∧lJ (0+r.length) r.length=true:=by simp
theorem G3{n:Nat}(h:n≤2000):lJ (mA n 8) 140737488355328=true∧lJ (mA n 40) 140737488355328=true∧lJ n 140737488355328=true∧lJ (mA (0+n) 8) 140737488355328=true∧lJ (mA (0+n) 40) 140737488355328=true∧lJ (0+n) 140737488355328=true∧lJ (mA (n+1) 8) 140737488355328=true∧lJ (mA (n+1) 40) 140737488355328=true∧lJ (n+1) 140737488355328=true:=by
 simp only[nE,aER];omega
theorem bBO(a:Int):bIV a=true∧bIU a=cA a 0 65535:=by
 constructor
 ·simp[bIV,dP,a8E]
 ·simp[bIU,dP,a8E]
theorem N1(a:Int):k87 a=true∧g87 a=cA a 0 65535:=by
 constructor
 ·simp[k87,dP,T87]
 ·simp[g87,dP,T87]
def dA(s v:Int):Bool:=bif eqI s 1 then cA v 0 255 else bif eqI s 2 then cA v 0 65535 else false
theorem bBP(s:Int):aYU s=true∧aGN s=(eqI s 1||eqI s 2):=by
 constructor
 ·simp[aYU,dP,aKG]
 ·simp only[aGN,dP,aKG,rM,kA];cases eqI s 1<;>rfl
theorem bBQ(s:Int):aY2 s=true∧aGU s=(eqI s 1||eqI s 2):=by
 constructor
 ·simp[aY2,dP,aLF]
 ·simp only[aGU,dP,aLF,rM,kA];cases eqI s 1<;>rfl
theorem aPH:K3 1=true∧xK 1=256:=by
 refine aF (t:=aNH 1) (P:=fun r=>r=256) ?_
 unfold aNH;simp only[aQ,aJ]
 decide+kernel
theorem aPI:K3 2=true∧xK 2=65536:=by
 refine aF (t:=aNH 2) (P:=fun r=>r=65536) ?_
 unfold aNH;simp only[aQ,aJ]
 decide+kernel
theorem aPJ:DP 1=true∧pW 1=256:=by
 refine aF (t:=aLG 1) (P:=fun r=>r=256) ?_
 unfold aLG;simp only[aQ,aJ]
 decide+kernel
theorem aPK:DP 2=true∧pW 2=65536:=by
 refine aF (t:=aLG 2) (P:=fun r=>r=65536) ?_
 unfold aLG;simp only[aQ,aJ]
 decide+kernel
theorem YY(s v:Int):a8D s v=true∧a8C s v=dA s v:=by
 refine aF (t:=a8B s v) (P:=fun r=>r=dA s v) ?_
 unfold a8B dA;rw[(bBP s).1,(bBP s).2];by_cases h1:s=1
 ·subst h1;rw[aPH.1,aPH.2,show cF 256 1=255 from by decide]
  simp[show eqI 1 1=true from rfl]
 ·by_cases h2:s=2
  ·subst h2;rw[aPI.1,aPI.2,show cF 65536 1=65535 from by decide]
   simp[show eqI 2 1=false from rfl,show eqI 2 2=true from rfl]
  ·have e1:eqI s 1=false:=by simp[h1]
   have e2:eqI s 2=false:=by simp[h2]
   simp[e1,e2]
theorem bMD(s v:Int):bOQ s v=true∧bOP s v=dA s v:=by
 refine aF (t:=a4Z s v) (P:=fun r=>r=dA s v) ?_
 unfold a4Z dA;rw[(bBQ s).1,(bBQ s).2];by_cases h1:s=1
 ·subst h1;rw[aPJ.1,aPJ.2,show cF 256 1=255 from by decide]
  simp[show eqI 1 1=true from rfl]
 ·by_cases h2:s=2
  ·subst h2;rw[aPK.1,aPK.2,show cF 65536 1=65535 from by decide]
   simp[show eqI 2 1=false from rfl,show eqI 2 2=true from rfl]
  ·have e1:eqI s 1=false:=by simp[h1]
   have e2:eqI s 2=false:=by simp[h2]
   simp[e1,e2]
def accB(a:aA):Bool:=cA a.Kind 1 3&&(cA a.Addr 0 65535&&(dA a.Size a.Value&&(cA a.Code 0 3&&!(eqI a.Kind 3&&eqI a.Code 0))))
theorem bME(a:aA):bRJ a=true∧bRI a=accB a:=by
 refine aF (t:=a8F a) (P:=fun r=>r=accB a) ?_
 unfold a8F accB;simp only[aQ,cB,aJ,aNJ,aNI,p8,p9,(bBO _).1,(bBO _).2,(YY _ _).1,(YY _ _).2,Bool.and_true,Bool.true_or,true_and];cases cA a.Kind 1 3<;>cases dA a.Size a.Value<;>cases cA a.Addr 0 65535<;>cases cA a.Code 0 3<;>cases h:eqI a.Kind 3<;>cases h2:eqI a.Code 0<;>simp_all
theorem bMF(a:aA):bOS a=true∧bOR a=accB a:=by
 refine aF (t:=a41 a) (P:=fun r=>r=accB a) ?_
 unfold a41 accB;simp only[aQ,aJ,aLJ,aLI,iU,iV,(N1 _).1,(N1 _).2,(bMD _ _).1,(bMD _ _).2,Bool.and_true,Bool.true_or,true_and];cases cA a.Kind 1 3<;>cases dA a.Size a.Value<;>cases cA a.Addr 0 65535<;>cases cA a.Code 0 3<;>cases eqI a.Kind 3<;>cases eqI a.Code 0<;>rfl
theorem aWL{α:Type}{p:α→Bool}{l:List α}{i:Nat}(h:i<l.length)(hz:p l[i]=false):l.all p=false:=by
 rw[List.all_eq_false];exact⟨l[i],List.getElem_mem h,by simp[hz]⟩
theorem aWM{α:Type}{p:α→Bool}{l:List α}(h: ∀j(hj:j<l.length),p l[j]=true):l.all p=true:=by
 rw[List.all_eq_true];intro z hz;obtain⟨j,hj,rfl⟩:=List.getElem_of_mem hz;exact h j hj
end Go.Proofs.YtdicpjkdpliofaaGreatBoundaries

namespace Go.Proofs.YtdicpjkdpliofaaGreatBoundaries
open Go Go.Zq
set_option maxHeartbeats 4000000
set_option maxRecDepth 100000
theorem a0C(zs:List Int)(hl:zs.length<1000000):UL (V245v1_0.mk (ri zs) (bN (ri zs)) 0)=true∧(ltI (K5 (V245v1_0.mk (ri zs) (bN (ri zs)) 0)).s7 (K5 (V245v1_0.mk (ri zs) (bN (ri zs)) 0)).s6=!cZ zs):=by
 unfold UL K5;refine gP (Post:=fun w=>ltI w.s7 w.s6=!cZ zs) (eC (fun n v=> ∃i:Nat,v=V245v1_0.mk (ri zs) (bN (ri zs)) i∧i≤zs.length∧n=zs.length-i∧ ∀j(hj:j<zs.length),j<i→cA zs[j] 0 255=true) _ ?_ 9223372036854775808 zs.length _ ⟨0,rfl,by omega,by omega,fun j _ h=>absurd h (by omega)⟩ (by omega))
 rintro n v ⟨i,rfl,hi,rfl,hall⟩
 unfold AA;simp only[aQ,cB,aJ,aP,aY,dM,mB,true_and,Int.toNat_natCast];constructor
 ·intro h;have hi':i<zs.length:=by omega
  rw[rN hi',mN hi',p8,p9];refine⟨rfl,rfl,fun hz=>?_,fun hz=>?_⟩
  ·rw[VG hi' (by simpa using hz)]
   simpa [ltI]using h
  ·refine⟨_,?_,i+1,?_,by omega,rfl,?_⟩
   ·omega
   ·rw[bJ (by omega)];rfl
   ·intro j hj hji;by_cases e:j=i
    ·subst e;simpa using hz
    ·exact hall j hj (by omega)
 ·intro h;rw[VH fun j hj=>hall j hj (by omega)]
  simpa [ltI]using h
theorem aHQ(zs:List Int)(hl:zs.length<1000000):aDF (ri zs)=true∧aDE (ri zs)=cZ zs:=by
 obtain⟨h1,h2⟩:=a0C zs hl;unfold aDF aDE aDD UM;rw[dP,dP];simp only[zJ,JF,pJ,rM,JG,kA,h1,h2,Bool.true_and];cases cZ zs<;>exact⟨rfl,rfl⟩
theorem bKM(b:bC)(l:List aA)(hl:l.length≤2000):aNK (V177_0.mk b (l.map aA.row) (bN (l.map aA.row)) 0)=true∧((UO (V177_0.mk b (l.map aA.row) (bN (l.map aA.row)) 0)).b0=b∧ltI (UO (V177_0.mk b (l.map aA.row) (bN (l.map aA.row)) 0)).s8 (UO (V177_0.mk b (l.map aA.row) (bN (l.map aA.row)) 0)).s7=!l.all accB):=by
 unfold aNK UO;refine gP (Post:=fun w:V177_0=>w.b0=b∧ltI w.s8 w.s7=!l.all accB) (eC (fun(m:Nat) (v:V177_0)=> ∃i:Nat,v=V177_0.mk b (l.map aA.row) (bN (l.map aA.row)) i∧i+m=l.length∧ ∀j(hj:j<l.length),j<i→accB l[j]=true) _ ?_ 9223372036854775808 l.length _ ⟨0,rfl,by omega,fun j _ h=>absurd h (by omega)⟩ (by omega))
 rintro m v ⟨i,rfl,hi,hall⟩
 unfold NQ;simp only[bG,dW,wz,aP,List.length_map,dM,mB,Int.toNat_natCast];constructor
 ·intro h;have hi':i<l.length:=by omega
  obtain⟨p1,p2⟩:=aES hi';rw[p1,p2,(bME _).1,(bME _).2];refine⟨rfl,rfl,fun hz=>?_,fun hz=>?_⟩
  ·rw[aWL hi' (by simpa using hz)]
   simpa [ltI]using h
  ·refine⟨m-1,by omega,i+1,?_,by omega,?_⟩
   ·rw[bJ (by omega)];rfl
   ·intro j hj hji;by_cases e:j=i
    ·subst e;simpa using hz
    ·exact hall j hj (by omega)
 ·intro h;rw[aWM fun j hj=>hall j hj (by omega)]
  simpa [ltI]using h
theorem bUK{b:bC}(h:BV b){zs:List Int}{l:List aA}(hz:b.Bytes=ri zs)(hl:b.Log=l.map aA.row):bRM b=true∧bRL b=(eqI (zs.length:Int) 512&&(leI (l.length:Int) 400&&(cZ zs&&l.all accB))):=by
 refine aF (t:=a8G b) (P:=fun r=>r=(eqI (zs.length:Int) 512&&(leI (l.length:Int) 400&&(cZ zs&&l.all accB)))) ?_
 have n1:=h.nb;have n2:=h.nl;rw[hz,aY]at n1;rw[hl,List.length_map]at n2;obtain⟨a1,a2,a3⟩:=bKM b l (by omega)
 rw[aP,List.length_map]at a1 a2 a3;obtain⟨c1,c2⟩:=aHQ zs (by omega)
 unfold a8G;simp only[bG,D0,dW,wz,hl,a1,a2,a3,hz,c1,c2,aP,aY,List.length_map];cases l.all accB<;>cases eqI (zs.length:Int) 512<;>cases leI (l.length:Int) 400<;>cases cZ zs<;>simp
structure B512(b:bC):Prop where
 z: ∃zs:List Int,b.Bytes=ri zs∧zs.length=512
 l:b.Log=[]
theorem LA{V:Type}{N:V→Pt (Option V)}(st:Nat→V)(n:Nat)(hn:n<1000000)(h: ∀i,i<n→(N (st i)).Sat (fun r=>r=some (st (i+1))))(he:(N (st n)).Sat (fun r=>r=none)):(hid (dB N 9223372036854775808 (st 0))).isSome=true∧(hid (dB N 9223372036854775808 (st 0))).getD (st 0)=st n:=by
 refine gP (Post:=fun w=>w=st n) (eC (fun(m:Nat) (v:V)=> ∃i,i+m=n∧v=st i) _ ?_ 9223372036854775808 n _ ⟨0,by omega,rfl⟩ (by omega))
 rintro m v ⟨i,hi,rfl⟩
 have mono: ∀{α:Type}{P Q:α→Prop},(∀a,P a→Q a)→ ∀{t:Pt α},t.Sat P→t.Sat Q:=fun{α P Q} hPQ t=>by
  induction t with
  |leaf a=>exact hPQ a
  |ok b x ih=>exact fun h=>⟨h.1,ih h.2⟩
  |br b x y ix iy=>exact fun h=>⟨fun e=>ix (h.1 e),fun e=>iy (h.2 e)⟩
 by_cases e:i=n
 ·subst e;exact mono (fun r hr=>by subst hr;rfl) he
 ·exact mono (fun r hr=>by subst hr;exact⟨m-1,by omega,i+1,by omega,rfl⟩) (h i (by omega))
def i8(a:Int):Int:=bif cA a 448 495||leI 512 a then 1 else bif cA a 384 447 then 3 else 0
theorem bBR(a:Int):bHC a=true∧a5T a=i8 a:=by
 refine aF (t:=a5S a) (P:=fun r=>r=i8 a) ?_
 unfold a5S i8;have e:geI a 512=leI 512 a:=rfl;simp only[aQ,cB,aJ,iU,iV,e,Bool.and_true,true_and];cases cA a 448 495<;>cases leI 512 a<;>cases cA a 384 447<;>simp
theorem bBS(a:Int):aZ1 a=true∧aNP a=i8 a:=by
 refine aF (t:=a85 a) (P:=fun r=>r=i8 a) ?_
 unfold a85 i8;have e:geI a 512=leI 512 a:=rfl;simp only[aQ,cB,aJ,p8,p9,e,Bool.and_true,Bool.true_or,true_and];cases cA a 448 495<;>cases leI 512 a<;>cases cA a 384 447<;>simp
def cQ(k s a:Int):Int:=bif eqI s 2&&eqI (a%2) 1 then 2 else bif eqI (i8 a) 1||eqI (i8 (a+s-1)) 1 then 1 else bif eqI k 2&&(eqI (i8 a) 3||eqI (i8 (a+s-1)) 3)then 3 else 0
theorem bUL(k s a:Int)(h:cA a 0 65535=true)(hs:cA s 0 2=true):bPF k s a=true∧M1 k s a=cQ k s a:=by
 refine aF (t:=a5U k s a) (P:=fun r=>r=cQ k s a) ?_
 rw[aM]at h hs;have e:cF (aV a s) 1=a+s-1:=by rw[bJ (by omega),eK (by omega)]
 unfold a5U cQ;simp only[aQ,cB,aJ,aLU,(bBR _).1,(bBR _).2,bUJ h.1,e,Bool.and_true,true_and];cases eqI s 2<;>cases eqI (a%2) 1<;>cases eqI (i8 a) 1<;>cases eqI (i8 (a+s-1)) 1<;>cases eqI k 2<;>cases eqI (i8 a) 3<;>cases eqI (i8 (a+s-1)) 3<;>simp
theorem bUM(k s a:Int)(h:cA a 0 65535=true)(hs:cA s 0 2=true):bR3 k s a=true∧aDK k s a=cQ k s a:=by
 refine aF (t:=a86 k s a) (P:=fun r=>r=cQ k s a) ?_
 rw[aM]at h hs;have e:cF (aV a s) 1=a+s-1:=by rw[bJ (by omega),eK (by omega)]
 unfold a86 cQ;simp only[aQ,cB,aJ,aNQ,(bBS _).1,(bBS _).2,b0H,e,Bool.and_true,Bool.true_or,true_and];cases eqI s 2<;>cases eqI (a%2) 1<;>cases eqI (i8 a) 1<;>cases eqI (i8 (a+s-1)) 1<;>cases eqI k 2<;>cases eqI (i8 a) 3<;>cases eqI (i8 (a+s-1)) 3<;>simp
theorem bBT(k s a:Int):cA (cQ k s a) 0 3=true:=by
 unfold cQ;cases eqI s 2&&eqI (a%2) 1<;>cases eqI (i8 a) 1||eqI (i8 (a+s-1)) 1<;>cases eqI k 2&&(eqI (i8 a) 3||eqI (i8 (a+s-1)) 3)<;>rfl
theorem LB{a:Int}:(i8 a≠1→a<448∨(496≤a∧a<512))∧(i8 a≠1→i8 a≠3→a<384∨496≤a):=by
 unfold i8;cases h1:cA a 448 495<;>cases h2:leI 512 a<;>cases h3:cA a 384 447<;>simp[cA]at* <;>omega
theorem aET{k s a:Int}(h:cQ k s a=0):cQ 1 s a=0∧(a<448∨(496≤a∧a<512))∧(a+s-1<448∨(496≤a+s-1∧a+s-1<512))∧(k=2→(a<384∨496≤a)∧(a+s-1<384∨496≤a+s-1)):=by
 unfold cQ at*;cases h1:eqI s 2&&eqI (a%2) 1
 ·cases h2:eqI (i8 a) 1||eqI (i8 (a+s-1)) 1
  ·rw[h1,h2]at h;rw[Bool.or_eq_false_iff,hJ,hJ]at h2;refine⟨rfl,LB.1 h2.1,LB.1 h2.2,fun e=>?_⟩
   subst e;cases h3:eqI (i8 a) 3||eqI (i8 (a+s-1)) 3
   ·rw[Bool.or_eq_false_iff,hJ,hJ]at h3;exact⟨LB.2 h2.1 h3.1,LB.2 h2.2 h3.2⟩
   ·rw[h3,show eqI 2 2=true from rfl]at h;simp at h
  ·rw[h1,h2]at h;simp at h
 ·rw[h1]at h;simp at h
end Go.Proofs.YtdicpjkdpliofaaGreatBoundaries

namespace Go.Proofs.YtdicpjkdpliofaaGreatBoundaries
open Int renaming toNat_natCast → q_m
open Go Go.Zq
set_option maxHeartbeats 4000000
set_option maxRecDepth 100000
def wk(s v:Int)(a:Nat)(zs:List Int):Nat→List Int
 |0=>zs
 |1=>zs.set a (bif eqI s 1 then v%256 else v/256)
 |_=>(zs.set a (v/256)).set (a+1) (v%256)
def rkq(a:Nat)(zs:List Int):Nat→Int
 |0=>0
 |1=>zs.getD a 0
 |_=>zs.getD a 0*256+zs.getD (a+1) 0
theorem sZ{zs:List Int}{i:Nat}(h:i<zs.length):zs.getD i 0=zs[i]:=by simp[List.getD_eq_getElem?_getD,h]
theorem LC{zs:List Int}(h:cZ zs=true){i:Nat}(hi:i<zs.length):0≤zs[i]∧zs[i]<256:=by
 have:=List.all_eq_true.1 h _ (List.getElem_mem hi);rw[aM]at this;omega
structure TouchOk(s v:Int)(zs:List Int)(l:List aA):Prop where
 hs:s=1∨s=2
 hv:dA s v=true
 hz:zs.length=512
 hb:cZ zs=true
 hl:l.length≤400
theorem PV{s v:Int}(hs:s=1∨s=2)(h:dA s v=true):0≤v∧v<65536∧(s=1→v<256):=by
 unfold dA at h;rcases hs with rfl|rfl
 ·rw[show eqI 1 1=true from rfl,cond_true,aM]at h;omega
 ·rw[show eqI 2 1=false from rfl,show eqI 2 2=true from rfl,cond_true,cond_false,aM]at h;omega
theorem x6{zs:List Int}{a:Nat}(h:a<zs.length):leI 0 (a:Int)=true∧ltI (a:Int) (zs.length:Int)=true∧blt a zs.length=true∧jW (jX (ri zs) a) 1=true∧dO [.int .i64] (ri zs) a 0=true:=by
 refine⟨by simp,by simp;exact h,by simp;exact h,by rw[x4 h];rfl,FY ⟨zs,rfl⟩ (by rw[aY];exact h)⟩
theorem b0J{v:Int}:eW v 0=v:=by rw[kQ (n:=0) 0 rfl (by omega)];simp
theorem bUN{v:Int}:eW v 8=v/256:=by rw[kQ (n:=8) 8 rfl (by omega)];rfl
theorem bKN{s v:Int}{a:Nat}{zs:List Int}{l:List aA}(h:TouchOk s v zs l)(hc:cQ 2 s a=0):aNS (V341_0.mk ⟨ri zs,l.map aA.row⟩ 2 s a v 0 v 0)=true∧aNR (V341_0.mk ⟨ri zs,l.map aA.row⟩ 2 s a v 0 v 0)=V341_0.mk ⟨ri (wk s v a zs s.toNat),l.map aA.row⟩ 2 s a v 0 v s:=by
 obtain⟨-,q1,q2,q3⟩:=aET hc;obtain⟨v0,v1,v2⟩:=PV h.hs h.hv;have hz:=h.hz;have hl:=h.hl;have e22:eqI 2 2=true:=rfl;have an:aZ v 255=v%256:=zK v0 (by omega)
 have an8:aZ (v/256) 255=v/256:=by rw[zK (by omega) (by omega)];omega
 have:=LA (N:=sQ) (fun i=>V341_0.mk ⟨ri (wk s v a zs i),l.map aA.row⟩ 2 s a v 0 v i) s.toNat (by rcases h.hs with rfl|rfl<;>decide) ?_ ?_
 ·rw[show((s.toNat:Nat):Int)=s from by rcases h.hs with rfl|rfl<;>rfl]at this
  exact this
 ·intro i hi;have p:aV (a:Int) ((i:Nat):Int)=((a+i:Nat):Int):=by
   have:s.toNat≤2:=by rcases h.hs with rfl|rfl<;>decide
   rw[bJ (by omega)];omega
  rcases h.hs with rfl|rfl
  ·obtain rfl:i=0:=by have:Int.toNat 1=1:=rfl;omega
   have p2:wA .u64 (cX 8 (cF (cF 1 1) ((0:Nat):Int)))=0:=by decide
   have p3:ltI ((0:Nat):Int) 1=true:=by decide
   have p4:aV ((0:Nat):Int) 1=((0+1:Nat):Int):=by decide
   obtain⟨c1,c2,c3,c4,c5⟩:=x6 (zs:=zs) (a:=a) (by omega)
   unfold sQ;simp only[bG,sP,sO,sN,sM,wk,p,p2,p3,p4,b0J,an,q_m,Nat.zero_add,Nat.add_zero,aP,aY,dT,List.length_set,dW,wz,e22,show eqI 1 1=true from rfl,show leI 0 0=true from rfl,c1,c2,c3,c4,c5,bZ,implies_true,Bool.true_eq_false,false_implies,and_true]
  ·obtain rfl|rfl:i=0∨i=1:=by have:Int.toNat 2=2:=rfl;omega
   ·have p2:wA .u64 (cX 8 (cF (cF 2 1) ((0:Nat):Int)))=8:=by decide
    have p3:ltI ((0:Nat):Int) 2=true:=by decide
    have p4:aV ((0:Nat):Int) 1=((0+1:Nat):Int):=by decide
    obtain⟨c1,c2,c3,c4,c5⟩:=x6 (zs:=zs) (a:=a) (by omega)
    unfold sQ;simp only[bG,sP,sO,sN,sM,wk,p,p2,p3,p4,bUN,an8,q_m,Nat.zero_add,Nat.add_zero,aP,aY,dT,List.length_set,dW,wz,e22,show eqI 2 1=false from rfl,show leI 0 8=true from rfl,c1,c2,c3,c4,c5,bZ,implies_true,Bool.true_eq_false,false_implies,and_true]
   ·have p2:wA .u64 (cX 8 (cF (cF 2 1) ((1:Nat):Int)))=0:=by decide
    have p3:ltI ((1:Nat):Int) 2=true:=by decide
    have p4:aV ((1:Nat):Int) 1=((1+1:Nat):Int):=by decide
    obtain⟨c1,c2,c3,c4,c5⟩:=x6 (zs:=zs.set a (v/256)) (a:=a+1) (by rw[List.length_set];omega)
    rw[List.length_set]at c2 c3;unfold sQ;simp only[bG,sP,sO,sN,sM,wk,p,p2,p3,p4,b0J,an,q_m,Nat.zero_add,aP,aY,dT,List.length_set,dW,wz,e22,show eqI 2 1=false from rfl,show leI 0 0=true from rfl,c1,c2,c3,c4,c5,bZ,implies_true,Bool.true_eq_false,false_implies,and_true]
 ·have p3:ltI ((s.toNat:Nat):Int) s=false:=by rcases h.hs with rfl|rfl<;>decide
  unfold sQ;simp only[bG,p3,Bool.false_eq_true,false_implies,implies_true,dW]
theorem bKO{k s v:Int}{a:Nat}{zs:List Int}{l:List aA}(h:TouchOk s v zs l)(hk:eqI k 2=false)(hc:cQ k s a=0):aNS (V341_0.mk ⟨ri zs,l.map aA.row⟩ k s a v 0 0 0)=true∧aNR (V341_0.mk ⟨ri zs,l.map aA.row⟩ k s a v 0 0 0)=V341_0.mk ⟨ri zs,l.map aA.row⟩ k s a v 0 (rkq a zs s.toNat) s:=by
 obtain⟨-,q1,q2,q3⟩:=aET hc;have hz:=h.hz;have hl:=h.hl;have:=LA (N:=sQ) (fun i=>V341_0.mk ⟨ri zs,l.map aA.row⟩ k s a v 0 (rkq a zs i) i) s.toNat (by rcases h.hs with rfl|rfl<;>decide) ?_ ?_
 ·rw[show((s.toNat:Nat):Int)=s from by rcases h.hs with rfl|rfl<;>rfl]at this
  exact this
 ·intro i hi;have p:aV (a:Int) ((i:Nat):Int)=((a+i:Nat):Int):=by
   have:s.toNat≤2:=by rcases h.hs with rfl|rfl<;>decide
   rw[bJ (by omega)];omega
  have p4:aV ((i:Nat):Int) 1=((i+1:Nat):Int):=by
   have:s.toNat≤2:=by rcases h.hs with rfl|rfl<;>decide
   rw[bJ (by omega)];omega
  have ha:a+i<zs.length:=by
   rcases h.hs with rfl|rfl
   ·have:Int.toNat 1=1:=rfl;omega
   ·have:Int.toNat 2=2:=rfl;omega
  obtain⟨c1,c2,c3,c4,c5⟩:=x6 ha;have p3:ltI ((i:Nat):Int) s=true:=by rw[dM];omega
  have p5:eT (nL (rkq a zs i) 8) zs[a+i]=rkq a zs (i+1):=by
   have b1:=LC h.hb ha;obtain rfl|rfl:i=0∨i=1:=by
    have:s.toNat≤2:=by rcases h.hs with rfl|rfl<;>decide
    omega
   ·simp only[rkq];rw[bKK (by omega) (by omega),VF (by omega) (by omega) b1.1 b1.2,sZ (by omega)]
    simp
   ·have b2:=LC h.hb (i:=a) (by omega)
    simp only[rkq];rw[sZ (show a<zs.length by omega),sZ ha,bKK b2.1 (by omega),VF (by omega) (by omega) b1.1 b1.2]
  unfold sQ;simp only[bG,sP,sO,sN,sM,p,p3,p4,p5,mN ha,q_m,Nat.zero_add,aP,aY,dW,wz,hk,c1,c2,c3,c4,c5,implies_true,Bool.true_eq_false,Bool.false_eq_true,false_implies,and_true]
 ·have p3:ltI ((s.toNat:Nat):Int) s=false:=by rcases h.hs with rfl|rfl<;>decide
  unfold sQ;simp only[bG,p3,Bool.false_eq_true,false_implies,implies_true,dW]
def tB(k s a v:Int)(zs:List Int):List Int:=bif eqI (cQ k s a) 0&&eqI k 2 then wk s v a.toNat zs s.toNat else zs
def tV(k s a v:Int)(zs:List Int):Int:=bif eqI k 2 then v else bif eqI (cQ k s a) 0 then rkq a.toNat zs s.toNat else 0
def tL(k s a v:Int)(zs:List Int)(l:List aA):List aA:=bif ltI (l.length:Int) 400&&!(eqI k 3&&eqI (cQ k s a) 0)then l++[⟨k,s,a,tV k s a v zs,cQ k s a⟩]else l
theorem GA(l:List aA)(x:aA):l.map aA.row++[aA.row x]=(l++[x]).map aA.row:=by simp
theorem bKP{k s a v:Int}{zs:List Int}{l:List aA}(h:TouchOk s v zs l)(ha:cA a 0 65535=true):bJB k s a v ⟨ri zs,l.map aA.row⟩=true∧bJA k s a v ⟨ri zs,l.map aA.row⟩=(⟨ri (tB k s a v zs),(tL k s a v zs l).map aA.row⟩,tV k s a v zs,cQ k s a):=by
 refine aF (t:=aNT k s a v ⟨ri zs,l.map aA.row⟩) (P:=fun r=>r=(⟨ri (tB k s a v zs),(tL k s a v zs l).map aA.row⟩,tV k s a v zs,cQ k s a)) ?_
 obtain⟨c1,c2⟩:=bUM k s a ha (by rcases h.hs with rfl|rfl<;>decide)
 have hl:=h.hl;obtain⟨r1,r2,r3,r4,r5,r6,r7,r8,r9⟩:=G3 (n:=l.length) (by omega)
 obtain⟨m,rfl⟩: ∃m:Nat,a=(m:Int):=⟨a.toNat,by rw[aM]at ha;omega⟩
 have z1:cV (0+l.length) l.length=true:=by simp
 have z2:lJ (0+l.length) l.length=true:=by simp
 have n0:cU (cQ k s m) 0=!eqI (cQ k s m) 0:=rfl;have n2:cU k 2=!eqI k 2:=rfl;have n3:cU k 3=!eqI k 3:=rfl;cases hc:eqI (cQ k s m) 0
 ·unfold aNT tB tL tV;simp only[bG,UT,US,UR,UQ,aDO,yV,jJ,c1,c2,hc,n0,n2,n3,z1,z2,r8,r9,GA,bX,aP,List.length_map,wz,Bool.and_false,Bool.false_and,bZ];cases ltI (l.length:Int) 400<;>cases eqI k 2<;>cases eqI k 3<;>simp
 ·have hc':=dL.1 hc;cases hk:eqI k 2
  ·obtain⟨d1,d2⟩:=bKO (a:=m) h hk hc';unfold aNT tB tL tV;simp only[bG,UT,US,UR,UQ,aDO,yV,jJ,c1,c2,hc,hc',hk,d1,d2,n2,n3,show cU 0 0=false from rfl,show eqI 0 0=true from rfl,z1,z2,r8,r9,GA,aY,bX,aP,List.length_map,wz,q_m,Bool.and_false,bZ]
   cases ltI (l.length:Int) 400<;>cases eqI k 3<;>simp
  ·obtain rfl:=dL.1 hk;obtain⟨d1,d2⟩:=bKN (a:=m) h hc';unfold aNT tB tL tV;simp only[bG,UT,US,UR,UQ,aDO,yV,jJ,c1,c2,hc,hc',hk,d1,d2,n2,n3,show eqI 2 3=false from rfl,show cU 0 0=false from rfl,show eqI 0 0=true from rfl,z1,z2,r8,r9,GA,aY,bX,aP,List.length_map,wz,q_m,Bool.and_false,Bool.false_and,bZ]
   cases ltI (l.length:Int) 400<;>simp
theorem b0K{s v:Int}{a:Nat}{zs:List Int}{l:List aA}(h:TouchOk s v zs l)(hc:cQ 2 s a=0):bPI s a v ⟨ri zs,l.map aA.row⟩=true∧KW s a v ⟨ri zs,l.map aA.row⟩=⟨ri (wk s v a zs s.toNat),l.map aA.row⟩:=by
 refine aF (t:=a5V s a v ⟨ri zs,l.map aA.row⟩) (P:=fun r=>r=⟨ri (wk s v a zs s.toNat),l.map aA.row⟩) ?_
 obtain⟨-,q1,q2,q3⟩:=aET hc;obtain⟨v0,v1,v2⟩:=PV h.hs h.hv;have hz:=h.hz;have an:aZ v 255=v%256:=zK v0 (by omega)
 have p:aV (a:Int) 1=((a+1:Nat):Int):=by rw[bJ (by omega)];omega
 obtain⟨c1,c2,c3,c4,c5⟩:=x6 (zs:=zs) (a:=a) (by omega)
 unfold a5V;rcases h.hs with rfl|rfl
 ·simp only[bG,aB3,aB2,aB1,aB0,TA,aBZ,show eqI 1 2=false from rfl,an,p,c1,c2,c3,c4,c5,aP,aY,dT,List.length_set,List.length_map,bX,wz,q_m,Nat.zero_add]
  rfl
 ·obtain⟨d1,d2,d3,d4,d5⟩:=x6 (zs:=zs.set a (v/256)) (a:=a+1) (by rw[List.length_set];omega)
  rw[List.length_set]at d2 d3;simp only[bG,aB3,aB2,aB1,aB0,TA,aBZ,show eqI 2 2=true from rfl,an,p,bUN,c1,c2,c3,c4,c5,d1,d2,d3,d4,d5,aP,aY,dT,List.length_set,List.length_map,bX,wz,q_m,Nat.zero_add]
  rfl
theorem cC8{k s v:Int}{a:Nat}{zs:List Int}{l:List aA}(h:TouchOk s v zs l)(hc:cQ k s a=0):bPL s a ⟨ri zs,l.map aA.row⟩=true∧a5X s a ⟨ri zs,l.map aA.row⟩=rkq a zs s.toNat:=by
 refine aF (t:=a5W s a ⟨ri zs,l.map aA.row⟩) (P:=fun r=>r=rkq a zs s.toNat) ?_
 obtain⟨-,q1,q2,q3⟩:=aET hc;have hz:=h.hz;have p:aV (a:Int) 1=((a+1:Nat):Int):=by rw[bJ (by omega)];omega
 have ha:a<zs.length:=by omega
 obtain⟨c1,c2,c3,c4,c5⟩:=x6 ha;unfold a5W;rcases h.hs with rfl|rfl
 ·simp only[bG,aB5,aB4,show eqI 1 1=true from rfl,p,c1,c2,c3,c4,c5,mN ha,bX,wz,aP,aY,q_m,Nat.zero_add]
  exact(sZ ha).symm
 ·have ha2:a+1<zs.length:=by omega
  obtain⟨d1,d2,d3,d4,d5⟩:=x6 ha2;have b1:=LC h.hb ha;have b2:=LC h.hb ha2;simp only[bG,aB5,aB4,show eqI 2 1=false from rfl,p,c1,c2,c3,c4,c5,d1,d2,d3,d4,d5,mN ha,mN ha2,bX,wz,aP,aY,q_m,Nat.zero_add]
  rw[bKK b1.1 (by omega),VF b1.1 (by omega) b2.1 b2.2]
  simp only[show Int.toNat 2=2 from rfl,rkq]
  rw[sZ ha,sZ ha2]
theorem GB{k s a v:Int}{zs:List Int}{l:List aA}(h:TouchOk s v zs l)(ha:cA a 0 65535=true)(hv:eqI k 2=false→v=0):IQ k s a v ⟨ri zs,l.map aA.row⟩=true∧K0 k s a v ⟨ri zs,l.map aA.row⟩=(⟨ri (tB k s a v zs),(tL k s a v zs l).map aA.row⟩,(bif eqI k 2 then 0 else tV k s a v zs),cQ k s a):=by
 refine aF (t:=aLV k s a v ⟨ri zs,l.map aA.row⟩) (P:=fun r=>r=(⟨ri (tB k s a v zs),(tL k s a v zs l).map aA.row⟩,(bif eqI k 2 then 0 else tV k s a v zs),cQ k s a)) ?_
 obtain⟨c1,c2⟩:=bUL k s a ha (by rcases h.hs with rfl|rfl<;>decide)
 have hl:=h.hl;obtain⟨r1,r2,r3,r4,r5,r6,r7,r8,r9⟩:=G3 (n:=l.length) (by omega)
 obtain⟨m,rfl⟩: ∃m:Nat,a=(m:Int):=⟨a.toNat,by rw[aM]at ha;omega⟩
 have z1:cV (0+l.length) l.length=true:=by simp
 have z2:lJ (0+l.length) l.length=true:=by simp
 have n0:cU (cQ k s m) 0=!eqI (cQ k s m) 0:=rfl;have n2:cU k 2=!eqI k 2:=rfl;cases hc:eqI (cQ k s m) 0
 ·unfold aLV tB tL tV;simp only[bG,KZ,KY,KX,TL,TK,TJ,TI,TH,TG,TF,TE,TD,TB,c1,c2,hc,n0,n2,z1,z2,r8,r9,GA,bX,aP,List.length_map,wz,Bool.and_false,Bool.false_and,bZ];cases ltI (l.length:Int) 400<;>cases eqI k 2<;>cases eqI k 3<;>simp
 ·have hc':=dL.1 hc;cases hk:eqI k 2
  ·obtain⟨d1,d2⟩:=cC8 (a:=m) h hc';unfold aLV tB tL tV;simp only[bG,KZ,KY,KX,TL,TK,TJ,TI,TH,TG,TF,TE,TD,TB,c1,c2,hc,hc',hk,d1,d2,n2,show cU 0 0=false from rfl,show eqI 0 0=true from rfl,z1,z2,r8,r9,GA,aY,bX,aP,List.length_map,wz,q_m,Bool.and_false,bZ]
   cases ltI (l.length:Int) 400<;>cases eqI k 3<;>simp
  ·obtain rfl:=dL.1 hk;obtain⟨d1,d2⟩:=b0K (a:=m) h hc';unfold aLV tB tL tV;simp only[bG,KZ,KY,KX,TL,TK,TJ,TI,TH,TG,TF,TE,TD,TB,c1,c2,hc,hc',hk,d1,d2,n2,show eqI 2 3=false from rfl,show cU 0 0=false from rfl,show eqI 0 0=true from rfl,z1,z2,r8,r9,GA,aY,bX,aP,List.length_map,wz,q_m,Bool.and_false,Bool.false_and,bZ]
   cases ltI (l.length:Int) 400<;>simp
end Go.Proofs.YtdicpjkdpliofaaGreatBoundaries

namespace Go.Proofs.YtdicpjkdpliofaaGreatBoundaries
open Go Go.Zq
set_option maxHeartbeats 4000000
set_option maxRecDepth 100000
def bS(s:Int):Int:=bif eqI s 1 then 256 else 65536
theorem kY{s:Int}(h:s=1∨s=2):K3 s=true∧xK s=bS s:=by
 rcases h with rfl|rfl
 ·exact aPH
 ·exact aPI
theorem iH{s:Int}(h:s=1∨s=2):DP s=true∧pW s=bS s:=by
 rcases h with rfl|rfl
 ·exact aPJ
 ·exact aPK
theorem qC{s v:Int}(h:dA s v=true):(s=1∨s=2)∧0≤v∧v<bS s:=by
 unfold dA at h;cases e1:eqI s 1
 ·cases e2:eqI s 2
  ·rw[e1,e2]at h;simp at h
  ·rw[e1,e2,cond_true,cond_false,aM]at h;unfold bS;rw[e1];rw[dL]at e2;exact⟨Or.inr e2,by omega,by rw[cond_false];omega⟩
 ·rw[e1,cond_true,aM]at h;unfold bS;rw[e1];rw[dL]at e1;exact⟨Or.inl e1,by omega,by rw[cond_true];omega⟩
def AE(s v:Int):Int:=bif geI v (bS s/2)then v-bS s else v
theorem aPL{s:Int}(h:s=1∨s=2):lZ (bS s) 2=bS s/2:=by
 rcases h with rfl|rfl<;>decide
theorem rO{s:Int}(h:s=1∨s=2):bS s=256∨bS s=65536:=by
 rcases h with rfl|rfl
 ·exact Or.inl rfl
 ·exact Or.inr rfl
theorem G4{s v:Int}(h:s=1∨s=2)(h0:0≤v)(h1:v<1000000):aD7 s v=true∧aD6 s v=AE s v:=by
 refine aF (t:=a9Y s v) (P:=fun r=>r=AE s v) ?_
 have l:=rO h;have e:cF v (bS s)=v-bS s:=eK (by omega)
 unfold a9Y AE;simp only[aQ,cB,aJ,(kY h).1,(kY h).2,aPL h,e,Bool.and_true,true_and];exact⟨fun hh=>by rw[hh];rfl,fun hh=>by rw[hh];rfl⟩
theorem fH(b:Bool)(x:Int):yI b x=true∧yH b x=bif b then x else 0:=by
 refine aF (t:=aKF b x) (P:=fun r=>r=bif b then x else 0) ?_
 unfold aKF;simp only[aQ,cB,aJ,true_and];exact⟨fun h=>by rw[h];rfl,fun h=>by rw[h];rfl⟩
theorem GG{s v:Int}(h:s=1∨s=2):aOD s v=true∧aOC s v=eT (bif eqI v 0 then 4 else 0) (bif geI v (bS s/2)then 8 else 0):=by
 refine aF (t:=a9X s v) (P:=fun r=>r=eT (bif eqI v 0 then 4 else 0) (bif geI v (bS s/2)then 8 else 0)) ?_
 unfold a9X;simp only[aQ,aJ,(fH _ _).1,(fH _ _).2,(kY h).1,(kY h).2,aPL h,Bool.and_true,true_and]
theorem YZ{s v:Int}(h:s=1∨s=2)(h0:0≤v)(h1:v<1000000):aGZ s v=true∧aCQ s v=AE s v:=by
 refine aF (t:=a62 s v) (P:=fun r=>r=AE s v) ?_
 have l:=rO h;have e:cF v (bS s)=v-bS s:=eK (by omega)
 unfold a62 AE;simp only[aQ,cB,aJ,(iH h).1,(iH h).2,aPL h,e,Bool.and_true,true_and];exact⟨fun hh=>by rw[hh];rfl,fun hh=>by rw[hh];rfl⟩
theorem zL(b:Bool)(x:Int):yN b x=true∧yM b x=bif b then x else 0:=by
 refine aF (t:=aBV b x) (P:=fun r=>r=bif b then x else 0) ?_
 unfold aBV;simp only[aQ,cB,aJ,true_and];exact⟨fun h=>by rw[h];rfl,fun h=>by rw[h];rfl⟩
theorem a0D{s v:Int}(h:s=1∨s=2):aZH s v=true∧aZG s v=eT (bif eqI v 0 then 4 else 0) (bif geI v (bS s/2)then 8 else 0):=by
 refine aF (t:=a6Y s v) (P:=fun r=>r=eT (bif eqI v 0 then 4 else 0) (bif geI v (bS s/2)then 8 else 0)) ?_
 unfold a6Y;simp only[aQ,aJ,(zL _ _).1,(zL _ _).2,(iH h).1,(iH h).2,aPL h,Bool.and_true,true_and]
def fl(c o z n:Bool):Int:=eT (eT (bif c then 17 else 0) (bif o then 2 else 0)) (eT (bif z then 4 else 0) (bif n then 8 else 0))
theorem mask{s v:Int}(h:s=1∨s=2):aZ v (cF (bS s) 1)=v%bS s:=by
 rcases h with rfl|rfl
 ·exact iZ 8 _ (by omega) (by decide)
 ·exact iZ 16 _ (by omega) (by decide)
def aEU(s c a b:Int):Int×Int:=((a+b+c)%bS s,fl (cU (a+b+c) ((a+b+c)%bS s)) (cU (AE s a+AE s b+c) (AE s ((a+b+c)%bS s))) (eqI ((a+b+c)%bS s) 0) (geI ((a+b+c)%bS s) (bS s/2)))
def JH(s a b:Int):Int:=fl (cU (a-b) ((a-b)%bS s)) (cU (AE s a-AE s b) (AE s ((a-b)%bS s))) (eqI ((a-b)%bS s) 0) (geI ((a-b)%bS s) (bS s/2))
theorem x7{s v:Int}(h:s=1∨s=2)(h0:0≤v)(h1:v<bS s): -65536≤AE s v∧AE s v<65536:=by
 have l:=rO h;unfold AE;cases geI v (bS s/2)
 ·rw[cond_false];omega
 ·rw[cond_true];omega
theorem bKQ{s x y:Int}(h:s=1∨s=2):bHW s x y=true∧bHV s x y=(x%bS s,fl (cU x (x%bS s)) (cU y (AE s (x%bS s))) (eqI (x%bS s) 0) (geI (x%bS s) (bS s/2))):=by
 refine aF (t:=a63 s x y) (P:=fun r=>r=(x%bS s,fl (cU x (x%bS s)) (cU y (AE s (x%bS s))) (eqI (x%bS s) 0) (geI (x%bS s) (bS s/2)))) ?_
 have l:=rO h;have r0:0≤x%bS s:=Int.emod_nonneg _ (by omega)
 have r1:x%bS s<bS s:=Int.emod_lt_of_pos _ (by omega)
 obtain⟨a1,a2⟩:=YZ (v:=x%bS s) h r0 (by omega)
 unfold a63 fl;simp only[aQ,aJ,aML,(iH h).1,(iH h).2,mask h,a1,a2,(zL _ _).1,(zL _ _).2,(a0D h).1,(a0D h).2,Bool.and_true,true_and]
theorem b0L{s c a b:Int}(hc:c=0∨c=1)(ha:dA s a=true)(hb:dA s b=true):bQC s c a b=true∧bQB s c a b=aEU s c a b:=by
 refine aF (t:=a66 s c a b) (P:=fun r=>r=aEU s c a b) ?_
 obtain⟨h,a0,a1⟩:=qC ha;obtain⟨-,b0,b1⟩:=qC hb;have l:=rO h;have sa:=x7 h a0 a1;have sb:=x7 h b0 b1;obtain⟨p1,p2⟩:=YZ h a0 (by omega)
 obtain⟨q1,q2⟩:=YZ h b0 (by omega)
 have e1:aV (aV a b) c=a+b+c:=by rw[bJ (x:=a) (by omega),bJ (by omega)]
 have e2:aV (aV (AE s a) (AE s b)) c=AE s a+AE s b+c:=by rw[bJ (x:=AE s a) (by omega),bJ (by omega)]
 unfold a66;simp only[aQ,aJ,aMP,aMO,p1,p2,q1,q2,e1,e2,(bKQ h).1,(bKQ h).2,Bool.and_true,true_and];rfl
theorem b0M{s c a b:Int}(hc:c=0∨c=1)(ha:dA s a=true)(hb:dA s b=true):bS1 s c a b=true∧bS0 s c a b=aEU s c a b:=by
 refine aF (t:=bAL s c a b) (P:=fun r=>r=aEU s c a b) ?_
 obtain⟨h,a0,a1⟩:=qC ha;obtain⟨-,b0,b1⟩:=qC hb;have l:=rO h;have sa:=x7 h a0 a1;have sb:=x7 h b0 b1;obtain⟨p1,p2⟩:=G4 h a0 (by omega)
 obtain⟨q1,q2⟩:=G4 h b0 (by omega)
 have e1:aV (aV a b) c=a+b+c:=by rw[bJ (x:=a) (by omega),bJ (by omega)]
 have e2:aV (aV (AE s a) (AE s b)) c=AE s a+AE s b+c:=by rw[bJ (x:=AE s a) (by omega),bJ (by omega)]
 have r0:0≤(a+b+c)%bS s:=Int.emod_nonneg _ (by omega)
 have r1:(a+b+c)%bS s<bS s:=Int.emod_lt_of_pos _ (by omega)
 obtain⟨t1,t2⟩:=G4 (v:=(a+b+c)%bS s) h r0 (by omega)
 unfold bAL aEU fl;simp only[aQ,aJ,aO0,aOZ,JC,(kY h).1,(kY h).2,mask h,p1,p2,q1,q2,e1,e2,t1,t2,(fH _ _).1,(fH _ _).2,(GG h).1,(GG h).2,Bool.and_true,true_and]
theorem bBV{s a b:Int}(ha:dA s a=true)(hb:dA s b=true):aG4 s 0 a b=true∧(aD9 s 0 a b).2=JH s a b:=by
 refine aF (t:=aOF s 0 a b) (P:=fun r=>r.2=JH s a b) ?_
 obtain⟨h,a0,a1⟩:=qC ha;obtain⟨-,b0,b1⟩:=qC hb;have l:=rO h;have sa:=x7 h a0 a1;have sb:=x7 h b0 b1;obtain⟨p1,p2⟩:=G4 h a0 (by omega)
 obtain⟨q1,q2⟩:=G4 h b0 (by omega)
 have e1:cF (cF a b) 0=a-b:=by rw[eK (x:=a) (by omega),eK (by omega)];omega
 have e2:cF (cF (AE s a) (AE s b)) 0=AE s a-AE s b:=by rw[eK (x:=AE s a) (by omega),eK (by omega)];omega
 have r0:0≤(a-b)%bS s:=Int.emod_nonneg _ (by omega)
 have r1:(a-b)%bS s<bS s:=Int.emod_lt_of_pos _ (by omega)
 obtain⟨t1,t2⟩:=G4 (v:=(a-b)%bS s) h r0 (by omega)
 have e3:ltI (a-b) 0=cU (a-b) ((a-b)%bS s):=by
  cases hh:ltI (a-b) 0
  ·rw[mB]at hh
   symm;rw[O1,Int.emod_eq_of_lt hh (by omega)]
  ·rw[dM]at hh
   symm;rw[nF];omega
 unfold aOF JH fl;simp only[aQ,aJ,aD8,I4,(kY h).1,(kY h).2,mask h,p1,p2,q1,q2,e1,e2,e3,t1,t2,(fH _ _).1,(fH _ _).2,(GG h).1,(GG h).2,Bool.and_true,true_and]
end Go.Proofs.YtdicpjkdpliofaaGreatBoundaries

namespace Go.Proofs.YtdicpjkdpliofaaGreatBoundaries
open Go Go.Zq
set_option maxHeartbeats 4000000
set_option maxRecDepth 100000
theorem O3(a:Int):k92 a=true∧g92 a=cA a 0 65535:=by
 constructor
 ·simp[k92,dP,T92]
 ·simp[g92,dP,T92]
theorem bMG(a:Int):k87 a=true∧g87 a=cA a 0 65535:=by
 constructor
 ·simp[k87,dP,T87]
 ·simp[g87,dP,T87]
def xC(s:Int):Bool:=bif eqI s 1 then true else eqI s 2
theorem bMH(s:Int):aYU s=true∧aGN s=xC s:=by
 refine aF (t:=aKG s) (P:=fun r=>r=xC s) ?_
 unfold aKG xC;simp only[aQ,aJ,true_and]
theorem bMI(s:Int):aY2 s=true∧aGU s=xC s:=by
 refine aF (t:=aLF s) (P:=fun r=>r=xC s) ?_
 unfold aLF xC;simp only[aQ,aJ,true_and]
theorem Y0(m:Int):aKB m=true∧aKA m=geI m 5:=by
 refine aF (t:=a3N m) (P:=fun r=>r=geI m 5) ?_
 unfold a3N;simp only[aQ,aJ,true_and]
def bBW(m:Int):Bool:=bif (bif eqI m 5 then true else eqI m 6)then true else eqI m 7
theorem Y1(m:Int):a57 m=true∧a56 m=bBW m:=by
 refine aF (t:=a55 m) (P:=fun r=>r=bBW m) ?_
 unfold a55 bBW;simp only[aQ,aJ,true_and]
theorem aPM{m:Int}(h:cA m 0 7=true):bBW m=geI m 5:=by
 rw[aM]at h;unfold bBW;have:m=0∨m=1∨m=2∨m=3∨m=4∨m=5∨m=6∨m=7:=by omega
 rcases this with rfl|rfl|rfl|rfl|rfl|rfl|rfl|rfl<;>rfl
def opB(o:aC):Bool:=cA o.Mode 0 7&&(cA o.Reg 0 3&&((eqI o.Reg 0||ltI o.Mode 6)&&(cA o.Ext 0 65535&&(geI o.Mode 5||eqI o.Ext 0))))
theorem b0N(o:aC):bN2 o=true∧bN1 o=opB o:=by
 refine aF (t:=a3S o) (P:=fun r=>r=opB o) ?_
 have e1:geI o.Mode 6=!ltI o.Mode 6:=by
  cases h:ltI o.Mode 6
  ·rw[mB]at h;exact PT.2 h
  ·rw[dM]at h;exact aWJ.2 h
 have e2:cU o.Reg 0=!eqI o.Reg 0:=rfl;unfold a3S opB;simp only[aQ,cB,aJ,p8,p9,(O3 _).1,(O3 _).2,(Y0 _).1,(Y0 _).2,e1,e2,Bool.and_true,Bool.true_or,true_and];cases cA o.Mode 0 7<;>cases cA o.Reg 0 3<;>cases eqI o.Reg 0<;>cases ltI o.Mode 6<;>cases cA o.Ext 0 65535<;>cases geI o.Mode 5<;>simp
theorem b0O(o:aC):bPR o=true∧bPQ o=opB o:=by
 refine aF (t:=a6B o) (P:=fun r=>r=opB o) ?_
 have e2:cU o.Ext 0=!eqI o.Ext 0:=rfl;unfold a6B opB;simp only[aQ,cB,aJ,aLZ,iU,iV,(bMG _).1,(bMG _).2,(Y1 _).1,(Y1 _).2,e2,Bool.and_true,Bool.true_or,true_and];cases hm:cA o.Mode 0 7
 ·simp
 ·rw[aPM hm];cases cA o.Reg 0 3<;>cases eqI o.Reg 0<;>cases ltI o.Mode 6<;>cases cA o.Ext 0 65535<;>cases geI o.Mode 5<;>cases eqI o.Ext 0<;>simp
def aHS(m:Int):Bool:=cA m 2 6
def aEV(m:Int):Bool:=bif eqI m 0 then true else aHS m
def uV(m:Int):Bool:=bif (bif eqI m 2 then true else eqI m 5)then true else eqI m 6
def VI(o:aC):Bool:=bif eqI o.Mode 7 then leI o.Ext 1023 else false
def VJ(o:aC):Bool:=eqI o.Mode 0&&(eqI o.Reg 0&&eqI o.Ext 0)
theorem bMJ(m:Int):bN4 m=true∧bN3 m=aHS m:=by
 refine aF (t:=a3T m) (P:=fun r=>r=aHS m) ?_
 unfold a3T aHS;simp only[aQ,aJ,p8,p9,Bool.and_true,true_and]
theorem bMK(m:Int):bPT m=true∧bPS m=aHS m:=by
 refine aF (t:=a6C m) (P:=fun r=>r=aHS m) ?_
 unfold a6C aHS;simp only[aQ,aJ,iU,iV,Bool.and_true,true_and]
theorem bML(m:Int):bHN m=true∧bHM m=aEV m:=by
 refine aF (t:=a6D m) (P:=fun r=>r=aEV m) ?_
 unfold a6D aEV;simp only[aQ,aJ,(bMK _).1,(bMK _).2,Bool.true_or,Bool.and_true,true_and]
theorem aWN(m:Int):bES m=true∧bER m=uV m:=by
 refine aF (t:=a3U m) (P:=fun r=>r=uV m) ?_
 unfold a3U uV;simp only[aQ,aJ,true_and]
theorem aWO(m:Int):bHP m=true∧bHO m=uV m:=by
 refine aF (t:=a6E m) (P:=fun r=>r=uV m) ?_
 unfold a6E uV;simp only[aQ,aJ,true_and]
theorem bMM(o:aC):bEU o=true∧bET o=VI o:=by
 refine aF (t:=a3V o) (P:=fun r=>r=VI o) ?_
 unfold a3V VI;simp only[aQ,aJ,true_and]
theorem aWP(o:aC):bHR o=true∧bHQ o=VI o:=by
 refine aF (t:=a6F o) (P:=fun r=>r=VI o) ?_
 unfold a6F VI;simp only[aQ,aJ,true_and]
theorem bBX(o:aC):bEW o=true∧bEV o=VJ o:=by
 refine aF (t:=a3W o) (P:=fun r=>r=VJ o) ?_
 unfold a3W VJ;simp only[aQ,aJ,Bool.and_true,true_and]
def LD(x:aN):Bool:=bif (bif cU x.Size 2 then true else kV x.Sub 6)then false else bif eqI x.Sub 3 then(bif eqI x.Reg 0 then VI x.Ea else false)else bif (bif ltI x.Sub 3 then cU x.Reg 0 else false)then false else VJ x.Ea
theorem bBY(x:aN):bPV x=true∧bPU x=LD x:=by
 refine aF (t:=a6G x) (P:=fun r=>r=LD x) ?_
 unfold a6G LD;simp only[aQ,cB,aJ,(aWP _).1,(aWP _).2,Bool.true_or,Bool.and_true,true_and];refine⟨fun h=>by rw[h];rfl,fun h=>⟨fun k=>by rw[h,k];rfl,fun k=>⟨fun m=>by rw[h,k,m];rfl,fun m=>by rw[h,k,m];rfl⟩⟩⟩
def kB(x:aN):Bool:=
 bif (bif (eqI x.Op 1)then(eqI x.Op 1)else(bif (eqI x.Op 3)then(eqI x.Op 3)else(bif (eqI x.Op 4)then(eqI x.Op 4)else(bif (eqI x.Op 5)then(eqI x.Op 5)else(bif (eqI x.Op 6)then(eqI x.Op 6)else(bif (eqI x.Op 7)then(eqI x.Op 7)else(eqI x.Op 8)))))))then(bif eqI x.Sub 0 then(bif cU x.Ea.Mode 1 then true else eqI x.Size 2)else false)
 else bif eqI x.Op 2 then(bif eqI x.Sub 0 then aEV x.Ea.Mode else false)
 else bif eqI x.Op 9 then(bif eqI x.Size 2 then eqI x.Sub 0 else false)
 else bif eqI x.Op 10 then(bif (bif eqI x.Size 2 then eqI x.Sub 0 else false)then uV x.Ea.Mode else false)
 else bif eqI x.Op 11 then(bif (bif eqI x.Reg 0 then leI x.Sub 3 else false)then aEV x.Ea.Mode else false)
 else bif eqI x.Op 12 then eqI x.Ea.Mode 0
 else bif eqI x.Op 13 then(bif (bif eqI x.Size 2 then leI x.Reg 1 else false)then eqI x.Ea.Mode 7 else false)
 else bif eqI x.Op 14 then(bif (bif (bif eqI x.Size 2 then eqI x.Reg 0 else false)then leI x.Sub 1 else false)then uV x.Ea.Mode else false)
 else bif eqI x.Op 15 then LD x
 else bif (bif eqI x.Op 16 then eqI x.Op 16 else eqI x.Op 17)then(bif (bif eqI x.Size 2 then eqI x.Sub 0 else false)then cU x.Ea.Mode 1 else false)
 else bif eqI x.Op 18 then(bif (bif !(eqI x.Size 2)then leI x.Sub 1 else false)then eqI x.Ea.Mode 0 else false)
 else bif eqI x.Op 19 then(bif eqI x.Size 2 then(bif (bif (bif eqI x.Sub 0 then eqI x.Reg 0 else false)then VI x.Ea else false)then true else(bif eqI x.Sub 1 then VJ x.Ea else false))else false)
 else false
theorem b0P(x:aN):bPX x=true∧bPW x=kB x:=by
 refine aF (t:=a6H x) (P:=fun r=>r=kB x) ?_
 unfold a6H;simp only[aQ,cB,aJ,aL2,aL1,aL0,TN,(bML _).1,(bML _).2,(aWO _).1,(aWO _).2,(aWP _).1,(aWP _).2,(bBY _).1,(bBY _).2,Bool.true_or,Bool.and_true,true_and];unfold kB;refine⟨fun h=>by rw[h];rfl,fun h1=>?_⟩
 rw[h1];refine⟨fun h=>by rw[h];rfl,fun h1=>?_⟩
 rw[h1];refine⟨fun h=>by rw[h];rfl,fun h1=>?_⟩
 rw[h1];refine⟨fun h=>by rw[h];rfl,fun h1=>?_⟩
 rw[h1];refine⟨fun h=>by rw[h];rfl,fun h1=>?_⟩
 rw[h1];refine⟨fun h=>by rw[h];rfl,fun h1=>?_⟩
 rw[h1];refine⟨fun h=>by rw[h];rfl,fun h1=>?_⟩
 rw[h1];refine⟨fun h=>by rw[h];rfl,fun h1=>?_⟩
 rw[h1];refine⟨fun h=>by rw[h];rfl,fun h1=>?_⟩
 rw[h1];refine⟨fun h=>by rw[h];rfl,fun h1=>?_⟩
 rw[h1];refine⟨fun h=>by rw[h];rfl,fun h1=>?_⟩
 rw[h1];refine⟨fun h=>by rw[h];rfl,fun h1=>?_⟩
 rw[h1];rfl
end Go.Proofs.YtdicpjkdpliofaaGreatBoundaries

namespace Go.Proofs.YtdicpjkdpliofaaGreatBoundaries
open Go Go.Zq
set_option maxHeartbeats 4000000
set_option maxRecDepth 100000
def LE(x:aN):Bool:=bif (bif eqI x.Ea.Mode 7 then eqI x.Size 1 else false)then kV x.Ea.Ext 255 else false
def kZ(x:aN):Bool:=xC x.Size&&(cA x.Reg 0 3&&(opB x.Ea&&(cA x.Sub 0 7&&(!LE x&&kB x))))
theorem bBZ(x:aN):k86 x=true∧g86 x=kZ x:=by
 refine aF (t:=T86 x) (P:=fun r=>r=kZ x) ?_
 unfold T86 kZ LE;simp only[aQ,aJ,a6K,a6J,a6I,iU,iV,(bMI _).1,(bMI _).2,(b0O _).1,(b0O _).2,(b0P _).1,(b0P _).2,Bool.true_or,Bool.and_true,true_and];cases xC x.Size<;>cases cA x.Reg 0 3<;>cases opB x.Ea<;>cases cA x.Sub 0 7<;>cases(bif (bif eqI x.Ea.Mode 7 then eqI x.Size 1 else false)then kV x.Ea.Ext 255 else false)<;>rfl
theorem bMN(x:aN)(h:x.Op=15):kB x=LD x:=by
 unfold kB;rw[h];rfl
theorem VK(x:aN):OX x=true∧OW x=kZ x:=by
 refine aF (t:=T91 x) (P:=fun r=>r=kZ x) ?_
 unfold T91;simp only[aQ,cB,aJ,aKH,a34,a33,a32,aRB,a31,aGP,a30,a3Z,a3Y,a3X,p8,p9,(bMH _).1,(bMH _).2,(b0N _).1,(b0N _).2,(bMJ _).1,(bMJ _).2,(aWN _).1,(aWN _).2,(bMM _).1,(bMM _).2,(bBX _).1,(bBX _).2,Bool.true_or,Bool.and_true,true_and];have e:kZ x=bif (bif (bif (bif (bif !xC x.Size then true else !cA x.Reg 0 3)then true else !opB x.Ea)then true else !cA x.Sub 0 7)then true else LE x)then false else kB x:=by
  unfold kZ;cases xC x.Size<;>cases cA x.Reg 0 3<;>cases opB x.Ea<;>cases cA x.Sub 0 7<;>cases LE x<;>rfl
 rw[e];refine⟨fun h=>?_,fun h=>?_⟩
 ·have h':(bif (bif (bif (bif (bif !xC x.Size then true else !cA x.Reg 0 3)then true else !opB x.Ea)then true else !cA x.Sub 0 7)then true else LE x)then false else kB x)=false:=by
   have:(bif (bif (bif (bif !xC x.Size then true else !cA x.Reg 0 3)then true else !opB x.Ea)then true else !cA x.Sub 0 7)then true else LE x)=true:=h
   rw[this];rfl
  exact h'.symm
 ·have h':(bif (bif (bif (bif (bif !xC x.Size then true else !cA x.Reg 0 3)then true else !opB x.Ea)then true else !cA x.Sub 0 7)then true else LE x)then false else kB x)=kB x:=by
   have:(bif (bif (bif (bif !xC x.Size then true else !cA x.Reg 0 3)then true else !opB x.Ea)then true else !cA x.Sub 0 7)then true else LE x)=false:=h
   rw[this];rfl
  rw[h'];by_cases h15:x.Op=15
  ·rw[bMN x h15];unfold LD;rw[h15];simp only[show eqI 15 1=false from rfl,show eqI 15 2=false from rfl,show eqI 15 3=false from rfl,show eqI 15 4=false from rfl,show eqI 15 5=false from rfl,show eqI 15 6=false from rfl,show eqI 15 7=false from rfl,show eqI 15 8=false from rfl,show eqI 15 9=false from rfl,show eqI 15 10=false from rfl,show eqI 15 11=false from rfl,show eqI 15 12=false from rfl,show eqI 15 13=false from rfl,show eqI 15 14=false from rfl,show eqI 15 15=true from rfl,show eqI 15 16=false from rfl,show eqI 15 17=false from rfl,show eqI 15 18=false from rfl,show eqI 15 19=false from rfl,cond_false,Bool.false_eq_true,Bool.true_eq_false,false_implies,forall_const,true_and,and_true]
   have e6:kV x.Sub 6=!leI x.Sub 6:=by
    cases hh:leI x.Sub 6
    ·rw[YW]at hh;exact nG.2 hh
    ·rw[gZ]at hh;exact G2.2 hh
   have e2:cU x.Size 2=!eqI x.Size 2:=rfl;have e0:cU x.Reg 0=!eqI x.Reg 0:=rfl;refine⟨fun h3=>?_,fun h3=>?_⟩
   ·have l6:leI x.Sub 6=true:=by rw[dL]at h3;rw[gZ];omega
    rw[h3,e6,l6,e2];cases eqI x.Size 2<;>cases eqI x.Reg 0<;>rfl
   ·rw[h3,e6,e2,e0];have e3:kV x.Sub 3=!ltI x.Sub 3:=by
     rw[hJ]at h3;cases hh:ltI x.Sub 3
     ·rw[mB]at hh;exact nG.2 (by omega)
     ·rw[dM]at hh;exact G2.2 (by omega)
    rw[e3];cases eqI x.Size 2<;>cases leI x.Sub 6<;>cases eqI x.Reg 0<;>cases ltI x.Sub 3<;>cases VJ x.Ea<;>rfl
  ·have n15:eqI x.Op 15=false:=by rw[hJ];exact h15
   have cm:(bif cU x.Ea.Mode 1 then true else eqI x.Size 2)=bif eqI x.Size 2 then true else cU x.Ea.Mode 1:=by
    cases cU x.Ea.Mode 1<;>cases eqI x.Size 2<;>rfl
   unfold kB;rw[n15,cm];refine⟨fun h=>by rw[h];rfl,fun h1=>?_⟩
   rw[h1];refine⟨fun h=>by rw[h];rfl,fun h1=>?_⟩
   rw[h1];refine⟨fun h=>by rw[h];rfl,fun h1=>?_⟩
   rw[h1];refine⟨fun h=>by rw[h];rfl,fun h1=>?_⟩
   rw[h1];refine⟨fun h=>by rw[h];rfl,fun h1=>?_⟩
   rw[h1];refine⟨fun h=>by rw[h];rfl,fun h1=>?_⟩
   rw[h1];refine⟨fun h=>by rw[h];rfl,fun h1=>?_⟩
   rw[h1];refine⟨fun h=>by rw[h];rfl,fun h1=>?_⟩
   rw[h1];refine⟨fun h=>by rw[h];rfl,fun h1=>?_⟩
   rw[h1];refine⟨fun h=>by rw[h];rfl,fun h1=>?_⟩
   rw[h1];refine⟨fun h=>by rw[h];rfl,fun h1=>?_⟩
   rw[h1];simp only[Bool.false_eq_true,false_implies,forall_const,true_and];rfl
structure Rng(x:aN):Prop where
 o:1≤x.Op∧x.Op≤19
 s:1≤x.Size∧x.Size≤2
 r:0≤x.Reg∧x.Reg≤3
 m:0≤x.Ea.Mode∧x.Ea.Mode≤7
 e:0≤x.Ea.Reg∧x.Ea.Reg≤3
 b:0≤x.Sub∧x.Sub≤7
 xt:0≤x.Ea.Ext∧x.Ea.Ext≤65535
 z:geI x.Ea.Mode 5=false→x.Ea.Ext=0
theorem rng{x:aN}(h:kZ x=true):Rng x:=by
 unfold kZ opB xC at h;simp only[Bool.and_eq_true,aM]at h;obtain⟨h1,h2,⟨h3,h4,-,h5,h6⟩,h7,-,h8⟩:=h;refine⟨?_,?_,h2,h3,h4,h7,h5,fun hm=>?_⟩
 ·refine Classical.byContradiction fun hn=>?_
  have z: ∀i:Int,1≤i→i≤19→eqI x.Op i=false:=fun i h1 h2=>by rw[hJ];intro e;exact hn (by omega)
  unfold kB at h8;simp only[z 1 (by decide) (by decide),z 2 (by decide) (by decide),z 3 (by decide) (by decide),z 4 (by decide) (by decide),z 5 (by decide) (by decide),z 6 (by decide) (by decide),z 7 (by decide) (by decide),z 8 (by decide) (by decide),z 9 (by decide) (by decide),z 10 (by decide) (by decide),z 11 (by decide) (by decide),z 12 (by decide) (by decide),z 13 (by decide) (by decide),z 14 (by decide) (by decide),z 15 (by decide) (by decide),z 16 (by decide) (by decide),z 17 (by decide) (by decide),z 18 (by decide) (by decide),z 19 (by decide) (by decide),cond_false,Bool.false_eq_true]at h8
 ·cases e:eqI x.Size 1
  ·rw[e,cond_false,dL]at h1;omega
  ·rw[dL]at e;omega
 ·rw[hm]at h6;simpa using h6
def W(x:aN):Int:=x.Op*2048+(x.Size-1)*1024+x.Reg*256+x.Ea.Mode*32+x.Ea.Reg*8+x.Sub
def B0(x:aN):List Int:=bif geI x.Ea.Mode 5 then [W x,x.Ea.Ext]else [W x]
theorem W_i{x:aN}(h:Rng x):aV (aV (aV (aV (aV (cX x.Op 2048) (cX (cF x.Size 1) 1024)) (cX x.Reg 256)) (cX x.Ea.Mode 32)) (cX x.Ea.Reg 8)) x.Sub=W x:=by
 obtain⟨h1,h2,h3,h4,h5,h6,-,-⟩:=h;unfold W;rw[gH (x:=x.Op) (by omega),eK (by omega),gH (x:=x.Size-1) (by omega),gH (x:=x.Reg) (by omega),gH (x:=x.Ea.Mode) (by omega),gH (x:=x.Ea.Reg) (by omega),bJ (x:=x.Op*2048) (by omega),bJ (x:=x.Op*2048+(x.Size-1)*1024) (by omega),bJ (x:=x.Op*2048+(x.Size-1)*1024+x.Reg*256) (by omega),bJ (x:=x.Op*2048+(x.Size-1)*1024+x.Reg*256+x.Ea.Mode*32) (by omega),bJ (by omega)]
def LF(w:Int):Bool:=geI (w/32%8) 5
def qN(w:Int):Int:=bif LF w then 2 else 1
def xD(w e:Int):aN:=⟨w/2048,w/1024%2+1,w/256%4,⟨w/32%8,w/8%4,bif LF w then e else 0⟩,w%8⟩
theorem bKR(w:Int):eW w 11=w/2048∧aV (aZ (eW w 10) 1) 1=w/1024%2+1∧aZ (eW w 8) 3=w/256%4∧aZ (eW w 5) 7=w/32%8∧aZ (eW w 3) 3=w/8%4∧aZ w 7=w%8:=by
 refine⟨kQ (n:=11) 11 rfl (by omega),?_,?_,?_,?_,?_⟩
 ·rw[kQ (n:=10) 10 rfl (by omega),iZ 1 1 (by omega) rfl,bJ (by omega)];rfl
 ·rw[kQ (n:=8) 8 rfl (by omega),iZ 2 3 (by omega) rfl];rfl
 ·rw[kQ (n:=5) 5 rfl (by omega),iZ 3 7 (by omega) rfl];rfl
 ·rw[kQ (n:=3) 3 rfl (by omega),iZ 2 3 (by omega) rfl];rfl
 ·rw[iZ 3 7 (by omega) rfl];rfl
theorem uW(w:Int):a59 w=true∧aY9 w=qN w:=by
 refine aF (t:=a58 w) (P:=fun r=>r=qN w) ?_
 have f: ∀b,yN b 1=true∧yM b 1=bif b then 1 else 0:=fun b=>by
  refine aF (t:=aBV b 1) (P:=fun r=>r=bif b then 1 else 0) ?_
  unfold aBV;simp only[aQ,cB,aJ,true_and];exact⟨fun h=>by rw[h];rfl,fun h=>by rw[h];rfl⟩
 unfold a58;simp only[aQ,aJ,aLY,(bKR w).2.2.2.1,(Y1 _).1,(Y1 _).2,(f _).1,(f _).2,Bool.and_true,true_and];rw[aPM (by rw[aM];omega)]
 unfold qN LF;cases geI (w/32%8) 5<;>decide
theorem aEW(w:Int):bJL w=true∧aZ2 w=qN w:=by
 refine aF (t:=a9H w) (P:=fun r=>r=qN w) ?_
 unfold a9H qN LF;simp only[aQ,cB,aJ,(bKR w).2.2.2.1,(Y0 _).1,(Y0 _).2,Bool.and_true,true_and];exact⟨fun h=>by rw[h];rfl,fun h=>by rw[h];rfl⟩
theorem aHT{w:Int}:eqI (qN w) 2=LF w:=by
 unfold qN;cases LF w<;>rfl
theorem EF(w e:Int):bHK w e=true∧aZA w e=xD w e:=by
 refine aF (t:=a6A w e) (P:=fun r=>r=xD w e) ?_
 obtain⟨f1,f2,f3,f4,f5,f6⟩:=bKR w;unfold a6A xD;simp only[aQ,cB,aJ,(uW _).1,(uW _).2,aHT,f1,f2,f3,f4,f5,f6,Bool.and_true,true_and];exact⟨fun h=>by rw[h];rfl,fun h=>by rw[h];rfl⟩
theorem bB0(w e:Int):bJM w e=true∧aZ3 w e=xD w e:=by
 refine aF (t:=a9I w e) (P:=fun r=>r=xD w e) ?_
 obtain⟨f1,f2,f3,f4,f5,f6⟩:=bKR w;unfold a9I xD;simp only[aQ,cB,aJ,(aEW _).1,(aEW _).2,aHT,f1,f2,f3,f4,f5,f6,Bool.and_true,true_and];exact⟨fun h=>by rw[h];rfl,fun h=>by rw[h];rfl⟩
end Go.Proofs.YtdicpjkdpliofaaGreatBoundaries

namespace Go.Proofs.YtdicpjkdpliofaaGreatBoundaries
open Go Go.Zq
set_option maxHeartbeats 4000000
set_option maxRecDepth 100000
structure RM where
 mk::
 (d a:List Int)
 (oth pc fl mask:Int)
 (sup tr:Bool)
def RM.g(r:RM):aE:=⟨ri r.d,ri r.a,r.oth,r.pc,r.fl,r.mask,r.sup,r.tr⟩
def hK(t:Int)(l:List Int):Bool:=l.all fun z=>cA z 0 t
structure RM.Ok(t:Int)(r:RM):Prop where
 t0:65535≤t
 t1:t≤65536
 d4:r.d.length=4
 a4:r.a.length=4
 dw:hK t r.d=true
 aw:hK 65535 r.a=true
 ow:cA r.oth 0 65535=true
 pw:cA r.pc 0 65535=true
 fw:cA r.fl 0 31=true
 mw:cA r.mask 0 (t-65528)=true
def cP(l:List Int)(i:Int):Int:=l.getD i.toNat 0
theorem jQ{l:List Int}{i:Int}(hl:l.length=4)(hi:cA i 0 3=true):fU [.int .i64] (ri l) i=true∧bF (ri l) i.toNat 0=cP l i∧i.toNat<l.length:=by
 rw[aM]at hi;obtain⟨n,rfl⟩:=Int.eq_ofNat_of_zero_le hi.1;have hn:n<l.length:=by omega
 rw[Int.toNat_natCast];refine⟨rN hn,?_,hn⟩;rw[mN hn,cP,Int.toNat_natCast,sZ hn]
theorem oE{t:Int}{l:List Int}{i:Int}(h:hK t l=true)(hl:l.length=4)(hi:cA i 0 3=true):0≤cP l i∧cP l i≤t:=by
 obtain⟨-,-,hn⟩:=jQ hl hi;have:=List.all_eq_true.1 h _ (List.getElem_mem hn);rw[aM]at this;rw[cP,sZ hn];exact this
theorem sR{t:Int}{l:List Int}{i:Nat}{v:Int}(h:hK t l=true)(h0:0≤v)(h1:v≤t):hK t (l.set i v)=true:=by
 unfold hK;rw[List.all_eq_true]at*;intro z hz;rcases List.mem_or_eq_of_mem_set hz with hz|rfl
 ·exact List.all_eq_true.1 h z hz
 ·exact aM.2 ⟨h0,h1⟩
theorem fV{l:List Int}{i:Int}{v:Int}(hl:l.length=4)(hi:cA i 0 3=true):blt (0+i.toNat) l.length=true∧jW (jX (ri l) (0+i.toNat)) 1=true∧leI 0 i=true∧ltI i (l.length:Int)=true∧dO [.int .i64] (ri l) (0+i.toNat) 0=true:=by
 obtain⟨-,-,hn⟩:=jQ hl hi;rw[aM]at hi;rw[Nat.zero_add];refine⟨by simpa using hn,by rw[x4 hn];rfl,by simp;omega,by simp;omega,FY ⟨l,rfl⟩ (by rw[aY];exact hn)⟩
structure MM where
 mk::
 (r:RM)
 (zs:List Int)
 (l:List aA)
 (stop:Bool)
 (f:aH)
def qV(zs:List Int)(l:List aA):bC:=⟨ri zs,l.map aA.row⟩
def MM.g(m:MM):aO:=⟨m.r.g,qV m.zs m.l,m.stop,m.f⟩
structure BusOk(zs:List Int)(l:List aA):Prop where
 hz:zs.length=512
 hb:cZ zs=true
 hl:l.length≤400
 ha:l.all accB=true
structure MM.Ok(t:Int)(m:MM):Prop where
 r:m.r.Ok t
 b:BusOk m.zs m.l
def bY(m:MM):Bool:=eqI m.f.Vector 0
def cM(m:MM)(k s a v:Int):MM×Int:=({m with zs:=tB k s a v m.zs,l:=tL k s a v m.zs m.l,f:=bif cU (cQ k s a) 0&&eqI m.f.Vector 0 then{m.f with Vector:=bif eqI (cQ k s a) 2 then 3 else 2,Addr:=a,Write:=eqI k 2}else m.f},tV k s a v m.zs)
def dV(m:MM)(v:Int):MM:=
 bif bY (cM m 2 2 ((cP m.r.a 3-2)%65536) v).1 then{(cM m 2 2 ((cP m.r.a 3-2)%65536) v).1 with r:={m.r with a:=m.r.a.set 3 ((cP m.r.a 3-2)%65536)}}else(cM m 2 2 ((cP m.r.a 3-2)%65536) v).1
def dE(m:MM):MM×Int:=
 (bif bY (cM m 1 2 (cP m.r.a 3) 0).1 then{(cM m 1 2 (cP m.r.a 3) 0).1 with r:={m.r with a:=m.r.a.set 3 ((cP m.r.a 3+2)%65536)}}else(cM m 1 2 (cP m.r.a 3) 0).1,(cM m 1 2 (cP m.r.a 3) 0).2)
def Y2(s k:Int):Int:=bif eqI s 1&&cU k 3 then 1 else 2
def bM(r:RM)(s:Int)(o:aC):RM×Int:=
 bif eqI o.Mode 3 then({r with a:=r.a.set o.Reg.toNat ((cP r.a o.Reg+Y2 s o.Reg)%65536)},cP r.a o.Reg)
 else bif eqI o.Mode 4 then({r with a:=r.a.set o.Reg.toNat ((cP r.a o.Reg-Y2 s o.Reg)%65536)},(cP r.a o.Reg-Y2 s o.Reg)%65536)
 else bif eqI o.Mode 5 then(r,(cP r.a o.Reg+o.Ext)%65536)
 else bif eqI o.Mode 6 then(r,o.Ext)else(r,cP r.a o.Reg)
def zM(r:RM)(s k v:Int):RM:={r with d:=r.d.set k.toNat (bif eqI s 1 then cP r.d k%65536/256*256+v else v)}
def fG(r:RM):Int:=r.fl+32*r.mask+(bif r.sup then 256 else 0)+(bif r.tr then 512 else 0)
def dH(r:RM)(v:Int):RM:=
 bif yF (eqI (v/256%2) 1) r.sup then⟨r.d,r.a,r.oth,r.pc,v%32,v/32%8,r.sup,eqI (v/512%2) 1⟩
 else⟨r.d,r.a.set 3 r.oth,cP r.a 3,r.pc,v%32,v/32%8,!r.sup,eqI (v/512%2) 1⟩
def dN(m:MM)(s:Int)(o:aC):MM×Int×Int:=
 bif eqI o.Mode 0 then(m,cP m.r.d o.Reg%bS s,0)
 else bif eqI o.Mode 1 then(m,cP m.r.a o.Reg,0)
 else bif eqI o.Mode 7 then(m,o.Ext,0)
 else((cM {m with r:=(bM m.r s o).1} 1 s (bM m.r s o).2 0).1,(cM {m with r:=(bM m.r s o).1} 1 s (bM m.r s o).2 0).2,(bM m.r s o).2)
end Go.Proofs.YtdicpjkdpliofaaGreatBoundaries

namespace Go.Proofs.YtdicpjkdpliofaaGreatBoundaries
open Go Go.Zq
set_option maxHeartbeats 4000000
set_option maxRecDepth 100000
@[simp] theorem eL(m:MM):m.g.fr=m.r.g:=rfl
@[simp] theorem cE(m:MM):m.g.fbus=qV m.zs m.l:=rfl
@[simp] theorem bR(m:MM):m.g.fstop=m.stop:=rfl
@[simp] theorem bK(m:MM):m.g.ffault=m.f:=rfl
@[simp] theorem eM(r:RM):r.g.D=ri r.d:=rfl
@[simp] theorem eN(r:RM):r.g.A=ri r.a:=rfl
@[simp] theorem aW(r:RM):r.g.Other=r.oth:=rfl
@[simp] theorem cH(r:RM):r.g.PC=r.pc:=rfl
@[simp] theorem aU(r:RM):r.g.Flags=r.fl:=rfl
@[simp] theorem bE(r:RM):r.g.Mask=r.mask:=rfl
@[simp] theorem aT(r:RM):r.g.Super=r.sup:=rfl
@[simp] theorem aR(r:RM):r.g.Trace=r.tr:=rfl
@[simp] theorem VL(zs:List Int)(l:List aA):(qV zs l).Bytes=ri zs:=rfl
@[simp] theorem VM(zs:List Int)(l:List aA):(qV zs l).Log=l.map aA.row:=rfl
def a0E(c:aD):Prop:=c.R.D.length≤2000∧c.R.A.length≤2000∧c.Bus.Bytes.length≤2000∧c.Bus.Log.length≤2000
theorem bB1{r:aE}(h1:r.D.length≤2000)(h2:r.A.length≤2000):aNL r=true∧sL r=r:=by
 refine aF (t:=a8J r) (P:=fun q=>q=r) ?_
 obtain⟨a1,a2,a3,a4,a5,a6,a7,a8,a9⟩:=G3 h1;obtain⟨b1,b2,b3,b4,b5,b6,b7,b8,b9⟩:=G3 h2;unfold a8J;simp only[bG,dW,wz,bZ,(O2).1,(O2).2,a1,a3,a4,a6,b1,b3,b4,b6]
theorem bUO{b:bC}(h1:b.Bytes.length≤2000)(h2:b.Log.length≤2000):bRQ b=true∧bI2 b=b:=by
 refine aF (t:=a8P b) (P:=fun r=>r=b) ?_
 obtain⟨a1,a2,a3,a4,a5,a6,a7,a8,a9⟩:=G3 h1;obtain⟨b1,b2,b3,b4,b5,b6,b7,b8,b9⟩:=G3 h2;unfold a8P;simp only[bG,a8O,a8N,a8M,a8L,a8K,eH,dW,wz,bZ,(O2).1,(O2).2,a1,a4,a6,b2,b5,b6]
theorem VN{c:aD}(h:a0E c):aNN c=true∧CH c=c:=by
 refine aF (t:=a8R c) (P:=fun r=>r=c) ?_
 obtain⟨h1,h2,h3,h4⟩:=h;unfold a8R;simp only[bG,aNM,bB1 h1 h2,bUO h3 h4,dW,wz]
theorem bKS{c:aD}(h:a0E c):a8X c=true∧d9 c=⟨c.R,c.Bus,c.Stop,⟨0,0,0,0,false⟩⟩:=by
 refine aF (t:=a8W c) (P:=fun r=>r=⟨c.R,c.Bus,c.Stop,⟨0,0,0,0,false⟩⟩) ?_
 unfold a8W;simp only[bG,VN h,dW,wz]
theorem b0Q{m:aO}(h:a0E ⟨m.fr,m.fbus,m.fstop,false⟩):CI m=true∧qT m=⟨m.fr,m.fbus,m.fstop,false⟩:=by
 refine aF (t:=a9B m) (P:=fun r=>r=⟨m.fr,m.fbus,m.fstop,false⟩) ?_
 unfold a9B;simp only[bG,aDT,VN h,dW,wz]
@[simp] theorem dZ(m:aO):uL m=true∧tO m=eqI m.ffault.Vector 0:=by
  refine aF (t:=a84 m) (P:=fun r=>r=eqI m.ffault.Vector 0) ?_
  unfold a84;simp only[bG,dW,wz]
theorem tQ(v:Int):aZ v 65535=v%65536:=iZ 16 _ (by omega) (by decide)
theorem b0R(v:Int):0≤v%65536∧v%65536≤65535:=by omega
structure AccOk(s v a:Int)(m:MM):Prop where
 hs:s=1∨s=2
 hv:dA s v=true
 ha:cA a 0 65535=true
theorem AccOk.t{s v a t:Int}{m:MM}(h:AccOk s v a m)(hm:m.Ok t):TouchOk s v m.zs m.l:=⟨h.hs,h.hv,hm.b.hz,hm.b.hb,hm.b.hl⟩
theorem LG{s:Int}(h:s=1∨s=2):dA s 0=true:=by rcases h with rfl|rfl<;>decide
theorem VO{k s a v t:Int}{m:MM}(hm:m.Ok t)(h:AccOk s v a m):aDQ k s a v m.g=true∧wR k s a v m.g=((cM m k s a v).1.g,(cM m k s a v).2):=by
 refine aF (t:=a87 k s a v m.g) (P:=fun r=>r=((cM m k s a v).1.g,(cM m k s a v).2)) ?_
 obtain⟨a1,a2⟩:=bKP (k:=k) (h.t hm) h.ha;have a1':bJB k s a v (qV m.zs m.l)=true:=a1;have a2':bJA k s a v (qV m.zs m.l)=(qV (tB k s a v m.zs) (tL k s a v m.zs m.l),tV k s a v m.zs,cQ k s a):=a2;unfold a87;simp only[bG,aDP,aNU,yW,eL,cE,bR,bK,a1',a2',dW,wz];unfold cM;have e: ∀a b:Bool,(bif a then b else false)=(a&&b):=fun a b=>by cases a<;>rfl
 rw[e];cases cU (cQ k s a) 0&&eqI m.f.Vector 0
 ·refine⟨fun q=>absurd q (by decide),fun _=>?_⟩
  rfl
 ·refine⟨fun _=>?_,fun q=>absurd q (by decide)⟩
  cases eqI (cQ k s a) 2
  ·exact⟨fun q=>absurd q (by decide),fun _=>rfl⟩
  ·exact⟨fun _=>rfl,fun q=>absurd q (by decide)⟩
theorem N2{zs:List Int}{i:Nat}{x:Int}(h:cZ zs=true)(hx:cA x 0 255=true):cZ (zs.set i x)=true:=by
 unfold cZ;rw[List.all_eq_true]at*;intro z hz;rcases List.mem_or_eq_of_mem_set hz with hz|rfl
 ·exact List.all_eq_true.1 h z hz
 ·exact hx
theorem bB2{k s a v:Int}{zs:List Int}{l:List aA}(h:TouchOk s v zs l):cZ (tB k s a v zs)=true:=by
 obtain⟨v0,v1,v2⟩:=PV h.hs h.hv;unfold tB;cases eqI (cQ k s a) 0&&eqI k 2
 ·exact h.hb
 ·rw[cond_true];rcases h.hs with rfl|rfl
  ·exact N2 h.hb (by rw[show eqI 1 1=true from rfl,cond_true,aM];omega)
  ·exact N2 (N2 h.hb (by rw[aM];omega)) (by rw[aM];omega)
theorem bUP{s v:Int}{a:Nat}{zs:List Int}{l:List aA}(h:TouchOk s v zs l):dA s (rkq a zs s.toNat)=true:=by
 have get: ∀i,0≤zs.getD i 0∧zs.getD i 0<256:=fun i=>by
  by_cases hi:i<zs.length
  ·rw[sZ hi];exact LC h.hb hi
  ·simp[List.getD_eq_getElem?_getD,List.getElem?_eq_none (by omega:zs.length≤i)]
 have g1:=get a;have g2:=get (a+1);rcases h.hs with rfl|rfl
 ·show dA 1 (zs.getD a 0)=true
  unfold dA;rw[show eqI 1 1=true from rfl,cond_true,aM];omega
 ·show dA 2 (zs.getD a 0*256+zs.getD (a+1) 0)=true
  unfold dA;rw[show eqI 2 1=false from rfl,show eqI 2 2=true from rfl,cond_false,cond_true,aM];omega
end Go.Proofs.YtdicpjkdpliofaaGreatBoundaries

namespace Go.Proofs.YtdicpjkdpliofaaGreatBoundaries
open Go Go.Zq
set_option maxHeartbeats 4000000
set_option maxRecDepth 100000
theorem bB3{k s a v:Int}{zs:List Int}{l:List aA}(h:TouchOk s v zs l):dA s (tV k s a v zs)=true:=by
 unfold tV;cases eqI k 2
 ·cases eqI (cQ k s a) 0
  ·exact LG h.hs
  ·exact bUP h
 ·exact h.hv
theorem b0S{k s a v:Int}{zs:List Int}{l:List aA}(h:TouchOk s v zs l)(ha:cA a 0 65535=true)(hk:cA k 1 3=true)(hl:l.all accB=true):(tL k s a v zs l).length≤400∧(tL k s a v zs l).all accB=true:=by
 have h1:=h.hl;unfold tL;cases hc:ltI (l.length:Int) 400&&!(eqI k 3&&eqI (cQ k s a) 0)
 ·exact⟨h1,hl⟩
 ·rw[Bool.and_eq_true,dM]at hc;rw[cond_true,List.length_append,List.all_append,hl];refine⟨by simp;omega,?_⟩
  simp only[List.all_cons,List.all_nil,Bool.and_true,Bool.true_and,accB,hk,ha,bB3 h,bBT,hc.2]
theorem bUQ(k s a v:Int)(zs:List Int):(tB k s a v zs).length=zs.length:=by
 unfold tB;cases eqI (cQ k s a) 0&&eqI k 2
 ·rfl
 ·rw[cond_true]
  match s.toNat with
  |0=>rfl
  |1=>simp[wk]
  |n+2=>simp[wk]
theorem zN{k s a v t:Int}{m:MM}(hm:m.Ok t)(h:AccOk s v a m)(hk:cA k 1 3=true):(cM m k s a v).1.Ok t∧dA s (cM m k s a v).2=true:=by
 have hT:=h.t hm;obtain⟨l1,l2⟩:=b0S (k:=k) hT h.ha hk hm.b.ha;exact⟨⟨hm.r,⟨by show(tB k s a v m.zs).length=512;rw[bUQ];exact hm.b.hz,bB2 hT,l1,l2⟩⟩,bB3 hT⟩
theorem bW{α:Type}{b:Bool}{x y:α}{P:α→Prop}(h1:b=true→P x)(h2:b=false→P y):P (bif b then x else y):=by
 cases b
 ·exact h2 rfl
 ·exact h1 rfl
theorem RM.Ok.setA{t v:Int}{r:RM}{i:Nat}(h:r.Ok t)(h0:0≤v)(h1:v≤65535):RM.Ok t {r with a:=r.a.set i v}:=⟨h.t0,h.t1,h.d4,by simpa using h.a4,h.dw,sR h.aw h0 h1,h.ow,h.pw,h.fw,h.mw⟩
theorem RM.Ok.setD{t v:Int}{r:RM}{i:Nat}(h:r.Ok t)(h0:0≤v)(h1:v≤t):RM.Ok t {r with d:=r.d.set i v}:=⟨h.t0,h.t1,by simpa using h.d4,h.a4,sR h.dw h0 h1,h.aw,h.ow,h.pw,h.fw,h.mw⟩
theorem RM.Ok.setP{t v:Int}{r:RM}(h:r.Ok t)(h1:cA v 0 65535=true):RM.Ok t {r with pc:=v}:=⟨h.t0,h.t1,h.d4,h.a4,h.dw,h.aw,h.ow,h1,h.fw,h.mw⟩
theorem RM.Ok.setF{t v:Int}{r:RM}(h:r.Ok t)(h1:cA v 0 31=true):RM.Ok t {r with fl:=v}:=⟨h.t0,h.t1,h.d4,h.a4,h.dw,h.aw,h.ow,h.pw,h1,h.mw⟩
theorem in3:cA 3 0 3=true:=by decide
theorem b0T:Int.toNat 3=3:=rfl
theorem aEX{t:Int}{r:RM}(h:r.Ok t):0≤cP r.a 3∧cP r.a 3≤65535:=oE h.aw h.a4 in3
theorem bUR{v:Int}(h0:0≤v)(h1:v≤65535):dA 2 v=true:=by
 unfold dA;rw[show eqI 2 1=false from rfl,show eqI 2 2=true from rfl,cond_false,cond_true,aM];omega
theorem rP{v:Int}(h:dA 2 v=true):0≤v∧v≤65535:=by
 unfold dA at h;rw[show eqI 2 1=false from rfl,show eqI 2 2=true from rfl,cond_false,cond_true,aM]at h;omega
theorem VP{t v:Int}{m:MM}(hm:m.Ok t)(h0:0≤v)(h1:v≤65535):AccOk 2 v ((cP m.r.a 3-2)%65536) m:=⟨Or.inr rfl,bUR h0 h1,aM.2 (by omega)⟩
theorem AF{t:Int}{r:RM}(h:r.Ok t):ltI 3 (r.a.length:Int)=true∧dO [.int .i64] (ri r.a) 3 0=true∧bF (ri r.a) 3 0=cP r.a 3∧blt 3 r.a.length=true∧jW (jX (ri r.a) 3) 1=true∧aZ (cF (cP r.a 3) 2) 65535=(cP r.a 3-2)%65536∧aZ (aV (cP r.a 3) 2) 65535=(cP r.a 3+2)%65536:=by
 have h4:=h.a4;have hr:=aEX h;obtain⟨-,d2,d3⟩:=jQ h.a4 in3;obtain⟨s1,s2,s3,s4,s5⟩:=fV (v:=0) h.a4 in3;rw[Nat.zero_add,b0T]at s1 s2 s5;refine⟨s4,s5,d2,s1,s2,?_,?_⟩
 ·rw[eK (by omega),tQ]
 ·rw[bJ (by omega),tQ]
@[simp] theorem bMO(m:MM)(k s a v:Int):(cM m k s a v).1.r=m.r:=rfl
@[simp] theorem b0U(m:MM)(k s a v:Int):(cM m k s a v).1.stop=m.stop:=rfl
theorem bB4{v t:Int}{m:MM}(hm:m.Ok t)(h0:0≤v)(h1:v≤65535):bJE v m.g=true∧bJD v m.g=(dV m v).g:=by
 refine aF (t:=a9A v m.g) (P:=fun r=>r=(dV m v).g) ?_
 obtain⟨b1,b2,b3,b4,b5,b6,b7⟩:=AF hm.r;obtain⟨a1,a2⟩:=VO (k:=2) hm (VP hm h0 h1);unfold a9A dV bY;simp only[bG,aNX,aNW,a89,aDR,aNV,pC,eL,cE,bK,eM,eN,VL,VM,aP,aY,b1,b2,b3,b4,b5,b6,a1,a2,dZ,bMO,dW,wz,dT,List.length_set,List.length_map];refine⟨fun q=>?_,fun q=>?_⟩
 ·rw[q];rfl
 ·rw[q];rfl
theorem aWQ{v t:Int}{m:MM}(hm:m.Ok t)(h0:0≤v)(h1:v≤65535):(dV m v).Ok t:=by
 obtain⟨a1,-⟩:=zN (k:=2) hm (VP hm h0 h1) (by decide)
 unfold dV;refine bW (P:=fun q=>MM.Ok t q) (fun _=>⟨hm.r.setA (by omega) (by omega),a1.b⟩) (fun _=>a1)
theorem aEY{t:Int}{m:MM}(hm:m.Ok t):AccOk 2 0 (cP m.r.a 3) m:=⟨Or.inr rfl,by decide,by have:=aEX hm.r;rw[aM];exact this⟩
theorem bMP{t:Int}{m:MM}(hm:m.Ok t):a97 m.g=true∧jL m.g=((dE m).1.g,(dE m).2):=by
 refine aF (t:=a96 m.g) (P:=fun r=>r=((dE m).1.g,(dE m).2)) ?_
 obtain⟨b1,b2,b3,b4,b5,b6,b7⟩:=AF hm.r;obtain⟨a1,a2⟩:=VO (k:=1) hm (aEY hm);unfold a96 dE bY;simp only[bG,aOT,aOS,jK,eL,cE,bK,eM,eN,VL,VM,aP,aY,b1,b2,b3,b4,b5,b7,a1,a2,dZ,bMO,dW,wz,dT,List.length_set,List.length_map];refine⟨fun q=>?_,fun q=>?_⟩
 ·rw[q];rfl
 ·rw[q];rfl
theorem JI{t:Int}{m:MM}(hm:m.Ok t):(dE m).1.Ok t∧0≤(dE m).2∧(dE m).2≤65535:=by
 obtain⟨a1,a2⟩:=zN (k:=1) hm (aEY hm) (by decide)
 refine⟨?_,rP a2⟩;unfold dE;refine bW (P:=fun q=>MM.Ok t q) (fun _=>⟨hm.r.setA (by omega) (by omega),a1.b⟩) (fun _=>a1)
end Go.Proofs.YtdicpjkdpliofaaGreatBoundaries

namespace Go.Proofs.YtdicpjkdpliofaaGreatBoundaries
open Go Go.Zq
set_option maxHeartbeats 4000000
set_option maxRecDepth 100000
theorem b0V(s k:Int):bJO s k=true∧bJN s k=Y2 s k:=by
 refine aF (t:=a9O s k) (P:=fun r=>r=Y2 s k) ?_
 have e:(bif eqI s 1 then cU k 3 else false)=(eqI s 1&&cU k 3):=by cases eqI s 1<;>rfl
 unfold a9O Y2;simp only[aQ,cB,aJ,e,true_and];exact⟨fun h=>by rw[h];rfl,fun h=>by rw[h];rfl⟩
theorem bB5(s k:Int):Y2 s k=1∨Y2 s k=2:=by
 unfold Y2;cases eqI s 1&&cU k 3
 ·exact Or.inr rfl
 ·exact Or.inl rfl
structure OpOk(o:aC):Prop where
 hm:cA o.Mode 0 7=true
 hr:cA o.Reg 0 3=true
 he:cA o.Ext 0 65535=true
theorem OpOk.of{o:aC}(h:opB o=true):OpOk o:=by
 unfold opB at h;simp only[Bool.and_eq_true]at h;exact⟨h.1,h.2.1,h.2.2.2.1⟩
theorem aWR{t s:Int}{r:RM}{o:aC}(h:r.Ok t)(ho:OpOk o):bJP r.g s o=true∧CJ r.g s o=((bM r s o).1.g,(bM r s o).2):=by
 refine aF (t:=a9P r.g s o) (P:=fun q=>q=((bM r s o).1.g,(bM r s o).2)) ?_
 obtain⟨d1,d2,d3⟩:=jQ h.a4 ho.hr;obtain⟨s1,s2,s3,s4,s5⟩:=fV (v:=0) h.a4 ho.hr;rw[Nat.zero_add]at s1 s2 s5;obtain⟨q1,q2⟩:=oE h.aw h.a4 ho.hr;have hb:=bB5 s o.Reg;have he:=aM.1 ho.he;have e1:aZ (aV (cP r.a o.Reg) (Y2 s o.Reg)) 65535=(cP r.a o.Reg+Y2 s o.Reg)%65536:=by rw[bJ (by omega),tQ]
 have e2:aZ (cF (cP r.a o.Reg) (Y2 s o.Reg)) 65535=(cP r.a o.Reg-Y2 s o.Reg)%65536:=by rw[eK (by omega),tQ]
 have e3:aZ (aV (cP r.a o.Reg) o.Ext) 65535=(cP r.a o.Reg+o.Ext)%65536:=by rw[bJ (by omega),tQ]
 unfold a9P bM;simp only[bG,aN8,aN7,aN6,aN5,aN4,aN3,aN2,eM,eN,aP,aY,Nat.zero_add,(b0V _ _).1,(b0V _ _).2,d2,s1,s2,s3,s4,s5,e1,e2,e3,dT,List.length_set,dW,wz];refine⟨fun q=>by rw[q];rfl,fun q=>?_⟩
 rw[q];refine⟨fun q=>by rw[q];rfl,fun q=>?_⟩
 rw[q];cases eqI o.Mode 5
 ·cases eqI o.Mode 6<;>rfl
 ·rfl
theorem rQ{t s:Int}{r:RM}{o:aC}(h:r.Ok t)(ho:OpOk o):(bM r s o).1.Ok t∧cA (bM r s o).2 0 65535=true:=by
 have q:=oE h.aw h.a4 ho.hr;unfold bM;refine bW (P:=fun z:RM×Int=>z.1.Ok t∧cA z.2 0 65535=true) (fun _=>⟨h.setA (by omega) (by omega),aM.2 q⟩) fun _=>?_
 refine bW (P:=fun z:RM×Int=>z.1.Ok t∧cA z.2 0 65535=true) (fun _=>⟨h.setA (by omega) (by omega),aM.2 (by dsimp only;omega)⟩) fun _=>?_
 refine bW (P:=fun z:RM×Int=>z.1.Ok t∧cA z.2 0 65535=true) (fun _=>⟨h,aM.2 (by dsimp only;omega)⟩) fun _=>?_
 exact bW (P:=fun z:RM×Int=>z.1.Ok t∧cA z.2 0 65535=true) (fun _=>⟨h,ho.he⟩) fun _=>⟨h,aM.2 q⟩
theorem aWS{t s k:Int}{r:RM}(h:r.Ok t)(hs:s=1∨s=2)(hk:cA k 0 3=true):a9N r.g s k=true∧a9M r.g s k=cP r.d k%bS s:=by
 refine aF (t:=a9L r.g s k) (P:=fun q=>q=cP r.d k%bS s) ?_
 obtain⟨d1,d2,d3⟩:=jQ h.d4 hk;unfold a9L;simp only[aQ,aJ,eM,d1,d2,(kY hs).1,(kY hs).2,mask hs,Bool.and_true,true_and]
theorem iE{s v:Int}(hs:s=1∨s=2):dA s (v%bS s)=true:=by
 rcases hs with rfl|rfl
 ·show(bif eqI 1 1 then cA (v%256) 0 255 else _)=true
  rw[show eqI 1 1=true from rfl,cond_true,aM];omega
 ·exact bUR (v:=v%65536) (by omega) (by omega)
theorem aHU{t s k v:Int}{r:RM}(h:r.Ok t)(hs:s=1∨s=2)(hk:cA k 0 3=true)(hv:s=1→0≤v∧v<256):K7 r.g s k v=true∧K6 r.g s k v=(zM r s k v).g:=by
 refine aF (t:=a9T r.g s k v) (P:=fun q=>q=(zM r s k v).g) ?_
 obtain⟨d1,d2,d3⟩:=jQ h.d4 hk;obtain⟨s1,s2,s3,s4,s5⟩:=fV (v:=0) h.d4 hk;rw[Nat.zero_add]at s1 s2 s5;have q:=oE h.dw h.d4 hk;have t1:=h.t1;unfold a9T zM;rcases hs with rfl|rfl
 ·have hv:=hv rfl;have e:eT (aZ (cP r.d k) 65280) v=cP r.d k%65536/256*256+v:=by
   have:aZ (cP r.d k) 65280=cP r.d k%65536/256*256:=by
    have key: ∀n:Nat,n≤65536→aZ (n:Int) 65280=((n%65536/256*256:Nat):Int):=fun n hn=>by
     unfold aZ;have e1:(BitVec.ofInt 64 (n:Int))&&&(BitVec.ofInt 64 65280)=BitVec.ofNat 64 (n&&&65280):=by
      apply BitVec.eq_of_toNat_eq;simp[BitVec.toNat_and,Nat.and_mod_two_pow]
     rw[e1];have e2:n&&&65280=n%65536/256*256:=by
      have:n&&&65280=(n/256&&&255)*256:=by
       apply Nat.eq_of_testBit_eq;intro i;rw[show(n/256&&&255)*256=(n/2^8&&&255)<<<8 from by rw[Nat.shiftLeft_eq]]
       rw[Nat.testBit_shiftLeft,Nat.testBit_and,Nat.testBit_and,Nat.testBit_div_two_pow];by_cases hi:8≤i
       ·have:(65280:Nat)=255<<<8:=by decide
        rw[this,Nat.testBit_shiftLeft];simp[hi]
       ·have:(65280:Nat)=255<<<8:=by decide
        rw[this,Nat.testBit_shiftLeft];simp[hi]
      rw[this];have:n/256&&&255=n/256%256:=Nat.and_two_pow_sub_one_eq_mod (n:=8) (n/256);rw[this];omega
     rw[e2,BitVec.toNat_ofNat,IntKind.wrap_i64];omega
    have:=key (cP r.d k).toNat (by omega)
    rw[Int.toNat_of_nonneg q.1]at this;rw[this];omega
   rw[this,VF (by omega) (by omega) hv.1 hv.2]
  simp only[bG,aD5,aD4,aD3,aD2,aD1,eM,eN,aP,aY,Nat.zero_add,d2,e,s1,s2,s3,s4,s5,dT,List.length_set,bX,wz,show eqI 1 1=true from rfl,bZ]
  rfl
 ·simp only[bG,aD5,aD4,aD3,aD2,aD1,eM,eN,aP,aY,Nat.zero_add,d2,s1,s2,s3,s4,s5,dT,List.length_set,bX,wz,show eqI 2 1=false from rfl,bZ]
  rfl
theorem N3{t s k v:Int}{r:RM}(h:r.Ok t)(hk:cA k 0 3=true)(h0:0≤v)(h1:s=1→v<256)(h2:v≤t):(zM r s k v).Ok t:=by
 have q:=oE h.dw h.d4 hk;have t0:=h.t0;unfold zM;cases e:eqI s 1
 ·exact h.setD h0 h2
 ·rw[dL]at e;have:=h1 e;exact h.setD (by rw[cond_true];omega) (by rw[cond_true];omega)
end Go.Proofs.YtdicpjkdpliofaaGreatBoundaries

namespace Go.Proofs.YtdicpjkdpliofaaGreatBoundaries
open Go Go.Zq
set_option maxHeartbeats 4000000
set_option maxRecDepth 100000
theorem rR{p:Int→Prop}{f:Int}(h:cA f 0 31=true)(k: ∀n:Fin 32,p (n.val:Int)):p f:=by
 rw[aM]at h;obtain⟨n,rfl⟩:=Int.eq_ofNat_of_zero_le h.1;exact k ⟨n,by omega⟩
theorem bB6{f:Int}(h:cA f 0 31=true):aZ f 16=0∨aZ f 16=16:=rR (p:=fun f=>aZ f 16=0∨aZ f 16=16) h (by decide+kernel)
theorem fl4{f:Int}(h:cA f 0 31=true):aZ f 4=0∨aZ f 4=4:=rR (p:=fun f=>aZ f 4=0∨aZ f 4=4) h (by decide+kernel)
theorem qD{a b:Int}(ha:cA a 0 31=true)(hb:cA b 0 31=true):cA (eT a b) 0 31=true:=by
 have key: ∀n m:Fin 32,cA (eT (n.val:Int) (m.val:Int)) 0 31=true:=by decide+kernel
 exact rR (p:=fun a=>cA (eT a b) 0 31=true) ha fun n=>rR (p:=fun b=>cA (eT (n.val:Int) b) 0 31=true) hb fun m=>key n m
theorem vM{b:Bool}{x:Int}(hx:cA x 0 31=true):cA (bif b then x else 0) 0 31=true:=by
 cases b
 ·show cA 0 0 31=true;decide
 ·exact hx
theorem aEZ(c o z n:Bool):cA (fl c o z n) 0 31=true:=by
 cases c<;>cases o<;>cases z<;>cases n<;>decide
theorem oW{s f v:Int}(hs:s=1∨s=2)(hf:cA f 0 31=true):D4 s f v=true∧cA (hU s f v) 0 31=true:=by
 refine aF (t:=aOE s f v) (P:=fun r=>cA r 0 31=true) ?_
 unfold aOE;simp only[aQ,aJ,(GG hs).1,(GG hs).2,Bool.and_true,true_and];refine qD ?_ (qD (vM (by decide)) (vM (by decide)))
 rcases bB6 hf with h|h<;>rw[h]<;>decide
theorem bB7{s a b:Int}(ha:dA s a=true)(hb:dA s b=true):aG4 s 0 a b=true∧aD9 s 0 a b=((a-b)%bS s,JH s a b):=by
 obtain⟨h1,h2⟩:=bBV ha hb;refine⟨h1,?_⟩;have h3:aG4 s 0 a b=true∧(aD9 s 0 a b).1=(a-b)%bS s:=by
  refine aF (t:=aOF s 0 a b) (P:=fun r=>r.1=(a-b)%bS s) ?_
  obtain⟨h,a0,a1⟩:=qC ha;obtain⟨-,b0,b1⟩:=qC hb;have l:=rO h;obtain⟨p1,p2⟩:=G4 h a0 (by omega)
  obtain⟨q1,q2⟩:=G4 h b0 (by omega)
  have e1:cF (cF a b) 0=a-b:=by rw[eK (x:=a) (by omega),eK (by omega)];omega
  have r0:0≤(a-b)%bS s:=Int.emod_nonneg _ (by omega)
  have r1:(a-b)%bS s<bS s:=Int.emod_lt_of_pos _ (by omega)
  obtain⟨t1,t2⟩:=G4 (v:=(a-b)%bS s) h r0 (by omega)
  unfold aOF;simp only[aQ,aJ,aD8,I4,(kY h).1,(kY h).2,mask h,p1,q1,e1,t1,(fH _ _).1,(GG h).1,Bool.and_true,true_and]
 exact Prod.ext h3.2 h2
theorem bMQ{s f a b:Int}(ha:dA s a=true)(hb:dA s b=true)(hf:cA f 0 31=true):bS2 s f a b=true∧cA (aO2 s f a b) 0 31=true:=by
 refine aF (t:=aO1 s f a b) (P:=fun r=>cA r 0 31=true) ?_
 obtain⟨h1,h2⟩:=bBV ha hb;unfold aO1;simp only[aQ,aJ,h1,h2,Bool.and_true,true_and];refine qD ?_ ?_
 ·unfold JH;exact rR (p:=fun z=>cA (aZ z 15) 0 31=true) (aEZ _ _ _ _) (by decide+kernel)
 ·rcases bB6 hf with h|h<;>rw[h]<;>decide
theorem bKT{s v:Int}(hs:s=1∨s=2):dA s (v%bS s)=true:=iE hs
theorem LH{a b:Int}(ha:0≤a∧a≤65535)(hb:0≤b∧b≤65535):(0≤aZ a b∧aZ a b≤b)∧(0≤eT a b∧eT a b≤65535)∧(0≤qR a b∧qR a b≤65535)∧(a≤255→b≤255→eT a b≤255∧qR a b≤255):=by
 obtain⟨n,rfl⟩:=Int.eq_ofNat_of_zero_le ha.1;obtain⟨m,rfl⟩:=Int.eq_ofNat_of_zero_le hb.1;have hn:n<2^16:=by omega
 have hm:m<2^16:=by omega
 have e1:((n:Int)%((2^64:Nat):Int)).toNat=n:=by omega
 have e2:((m:Int)%((2^64:Nat):Int)).toNat=m:=by omega
 have a1:n&&&m≤m:=Nat.and_le_right;have o1:n|||m<2^16:=Nat.or_lt_two_pow hn hm
 have x1:n^^^m<2^16:=Nat.xor_lt_two_pow hn hm;have k1:aZ (n:Int) (m:Int)=((n&&&m:Nat):Int):=by
  unfold aZ;rw[BitVec.toNat_and,BitVec.toNat_ofInt,BitVec.toNat_ofInt,e1,e2,IntKind.wrap_i64];omega
 have k2:eT (n:Int) (m:Int)=((n|||m:Nat):Int):=by
  unfold eT;rw[BitVec.toNat_or,BitVec.toNat_ofInt,BitVec.toNat_ofInt,e1,e2,IntKind.wrap_i64];omega
 have k3:qR (n:Int) (m:Int)=((n^^^m:Nat):Int):=by
  unfold qR;rw[BitVec.toNat_xor,BitVec.toNat_ofInt,BitVec.toNat_ofInt,e1,e2,IntKind.wrap_i64];omega
 rw[k1,k2,k3];refine⟨by omega,by omega,by omega,fun h1 h2=>?_⟩
 have o2:n|||m<2^8:=Nat.or_lt_two_pow (by omega) (by omega)
 have x2:n^^^m<2^8:=Nat.xor_lt_two_pow (by omega) (by omega)
 omega
theorem kE{s v:Int}(hs:s=1∨s=2)(h:dA s v=true):0≤v∧v≤65535∧(s=1→v≤255):=by
 have:=PV hs h;omega
theorem EG{s v:Int}(hs:s=1∨s=2)(h0:0≤v)(h1:v≤65535)(h2:s=1→v≤255):dA s v=true:=by
 rcases hs with rfl|rfl
 ·show(bif eqI 1 1 then cA v 0 255 else _)=true
  rw[show eqI 1 1=true from rfl,cond_true,aM];exact⟨h0,h2 rfl⟩
 ·exact bUR h0 h1
theorem aWT{s a b:Int}(hs:s=1∨s=2)(ha:dA s a=true)(hb:dA s b=true):dA s (aZ a b)=true:=by
 have a1:=kE hs ha;have b1:=kE hs hb;have q:=LH ⟨a1.1,a1.2.1⟩ ⟨b1.1,b1.2.1⟩;exact EG hs q.1.1 (by omega) (fun h=>by have:=b1.2.2 h;omega)
theorem aE0{s a b:Int}(hs:s=1∨s=2)(ha:dA s a=true)(hb:dA s b=true):dA s (eT a b)=true:=by
 have a1:=kE hs ha;have b1:=kE hs hb;have q:=LH ⟨a1.1,a1.2.1⟩ ⟨b1.1,b1.2.1⟩;exact EG hs q.2.1.1 q.2.1.2 (fun h=>(q.2.2.2 (a1.2.2 h) (b1.2.2 h)).1)
theorem aWU{s a b:Int}(hs:s=1∨s=2)(ha:dA s a=true)(hb:dA s b=true):dA s (qR a b)=true:=by
 have a1:=kE hs ha;have b1:=kE hs hb;have q:=LH ⟨a1.1,a1.2.1⟩ ⟨b1.1,b1.2.1⟩;exact EG hs q.2.2.1.1 q.2.2.1.2 (fun h=>(q.2.2.2 (a1.2.2 h) (b1.2.2 h)).2)
end Go.Proofs.YtdicpjkdpliofaaGreatBoundaries

namespace Go.Proofs.YtdicpjkdpliofaaGreatBoundaries
open Go Go.Zq
set_option maxHeartbeats 4000000
set_option maxRecDepth 100000
theorem cDA{v:Int}(h:0≤v)(h1:v<65536):nL v 1=v*2:=by
 unfold nL;rw[show((2:Int)^min (Int.toNat 1) 64)=2 from by decide,IntKind.wrap_i64]
 omega
theorem cDB{v:Int}:eW v 1=v/2:=kQ 1 rfl (by omega)
theorem bB8(k:Int):bJR k=true:=by
 refine(aF (t:=aOH k) (P:=fun _=>True) ?_).1
 unfold aOH;simp only[aQ,aJ,true_and]
def WD(x:Int):Prop:=x=0∨x=1
theorem rS(b:Bool):WD (bif b then 1 else 0):=by
 cases b
 ·exact Or.inl rfl
 ·exact Or.inr rfl
theorem EH{b:Bool}{x y:Int}(hx:WD x)(hy:WD y):WD (bif b then x else y):=by
 cases b
 ·exact hy
 ·exact hx
theorem aWV{v:Int}:WD (aZ v 1):=by
 rw[b0H];unfold WD;omega
def Sh(s:Int)(r:Int×Int):Prop:=dA s r.1=true∧cA r.2 0 31=true
theorem aE1{k s f v:Int}(hs:s=1∨s=2)(hv:dA s v=true)(hf:cA f 0 31=true):bSN k s f v=true∧Sh s (PJ k s f v):=by
 refine aF (t:=aOM k s f v) (P:=fun r=>Sh s r) ?_
 have lv:=kE hs hv;have b2:WD (I5 s v):=by
  unfold I5;rw[(fH _ _).2];exact rS _
 have b3:WD (mJ k s v):=by
  unfold mJ;exact EH b2 aWV
 have b4:WD (D5 k s f v):=by
  unfold D5;refine EH b2 (EH b3 (EH ?_ (Or.inl rfl)));rw[(fH _ _).2];exact rS _
 have vb: ∀x,WD x→dA s x=true:=fun x hx=>by
  rcases hx with rfl|rfl
  ·exact LG hs
  ·rcases hs with rfl|rfl<;>decide
 have w5:dA s (pD k s f v)=true:=by
  unfold pD;rw[(kY hs).2];have m1:cF (cX 2 (lZ (bS s) 2)) 1=cF (bS s) 1:=by rcases hs with rfl|rfl<;>decide
  rw[m1,cDA lv.1 (by omega),mask hs,cDB]
  cases a91 k
  ·refine aE0 hs (EG hs (by omega) (by omega) (fun h=>by have:=lv.2.2 h;omega)) ?_
   rcases b4 with h|h<;>rw[h]
   ·rcases hs with rfl|rfl<;>decide
   ·rcases hs with rfl|rfl<;>decide
  ·exact aE0 hs (bKT hs) (vb _ b4)
 have f8:cA (I6 k s f v) 0 31=true:=by
  unfold I6;rw[(GG hs).2,(fH _ _).2];refine qD (qD ?_ (qD (vM (by decide)) (vM (by decide)))) (vM (by decide))
  rcases b3 with h|h<;>rw[h]<;>decide
 unfold aOM;simp only[bG,(kY hs).1,(fH _ _).1,bB8,(GG hs).1,dW];refine⟨fun _=>⟨w5,qD f8 ?_⟩,fun _=>⟨w5,qD f8 ?_⟩⟩
 ·rcases bB6 hf with h|h<;>rw[h]<;>decide
 ·rcases b3 with h|h<;>rw[h]<;>decide
theorem b0W{k s f v c:Int}(hs:s=1∨s=2)(hv:dA s v=true)(hf:cA f 0 31=true)(h0:0≤c)(h1:c≤100):bJW k s f v c=true∧Sh s (aG5 k s f v c):=by
 refine aF (t:=aON k s f v c) (P:=fun r=>Sh s r) ?_
 obtain⟨n,rfl⟩:=Int.eq_ofNat_of_zero_le h0;have L:VA (V252_0.mk k s f v (n:Int) 0)=true∧(dA s (BM (V252_0.mk k s f v (n:Int) 0)).s3=true∧cA (BM (V252_0.mk k s f v (n:Int) 0)).s2 0 31=true∧cA (BM (V252_0.mk k s f v (n:Int) 0)).s13 0 31=true):=by
  unfold VA BM;refine gP (Post:=fun w:V252_0=>dA s w.s3=true∧cA w.s2 0 31=true∧cA w.s13 0 31=true) (eC (fun(m:Nat) (w:V252_0)=>w.s1=s∧w.s4=(m:Int)∧m≤100∧dA s w.s3=true∧cA w.s2 0 31=true∧cA w.s13 0 31=true) _ ?_ 9223372036854775808 n _ ⟨rfl,rfl,by omega,hv,hf,(by decide:cA 0 0 31=true)⟩ (by omega))
  rintro m w ⟨e1,e2,e3,e4,e5,e6⟩
  obtain⟨o1,o2,o3⟩:=aE1 (k:=w.s0) hs e4 e5;have o3':cA (aZ (PJ w.s0 s w.s2 w.s3).2 2) 0 31=true:=rR (p:=fun z=>cA (aZ z 2) 0 31=true) o3 (by decide+kernel)
  unfold I7;simp only[aQ,cB,aJ,wT,e1,e2,o1,nG,G2,Bool.and_true,true_and];refine⟨fun q=>⟨m-1,by omega,?_,by omega,o2,o3,qD e6 o3'⟩,fun _=>⟨e4,e5,e6⟩⟩
  rw[eK (by omega)];omega
 obtain⟨l1,l2,l3,l4⟩:=L;unfold aON;simp only[aQ,cB,aJ,VB,aED,(GG hs).1,(GG hs).2,(fH _ _).1,(fH _ _).2,l1,Bool.and_true,true_and];refine⟨fun _=>⟨hv,qD (qD ?_ (qD (vM (by decide)) (vM (by decide)))) (vM (by decide))⟩,fun _=>⟨l2,qD l3 l4⟩⟩
 rcases bB6 hf with h|h<;>rw[h]<;>decide
theorem bB9(c f:Int):bSO c f=true:=by
 refine(aF (t:=aOP c f) (P:=fun _=>True) ?_).1
 unfold aOP;simp only[aQ,cB,aJ,true_and,implies_true,and_self]
theorem bCA(c f:Int):bSP c f=true:=by
 refine(aF (t:=aOQ c f) (P:=fun _=>True) ?_).1
 unfold aOQ;simp only[aQ,aJ,bB9,Bool.and_true,true_and]
end Go.Proofs.YtdicpjkdpliofaaGreatBoundaries

namespace Go.Proofs.YtdicpjkdpliofaaGreatBoundaries
open Go Go.Zq
set_option maxHeartbeats 4000000
set_option maxRecDepth 100000
theorem lA(m:MM)(r:RM):(aO.mk r.g (qV m.zs m.l) m.stop m.f)=MM.g {m with r:=r}:=rfl
theorem aE2{t s:Int}{m:MM}{o:aC}(hm:m.Ok t)(hs:s=1∨s=2)(ho:OpOk o):aZ4 s o m.g=true∧cJ s o m.g=((dN m s o).1.g,(dN m s o).2.1,(dN m s o).2.2):=by
 refine aF (t:=a9R s o m.g) (P:=fun q=>q=((dN m s o).1.g,(dN m s o).2.1,(dN m s o).2.2)) ?_
 obtain⟨d1,d2,d3⟩:=jQ hm.r.a4 ho.hr;obtain⟨s1,s2,s3,s4,s5⟩:=fV (v:=0) hm.r.a4 ho.hr;rw[Nat.zero_add]at s5;obtain⟨l1,l2⟩:=aWS hm.r hs ho.hr;obtain⟨p1,p2⟩:=aWR (s:=s) hm.r ho;obtain⟨p3,p4⟩:=rQ (s:=s) hm.r ho;have hm':MM.Ok t {m with r:=(bM m.r s o).1}:=⟨p3,hm.b⟩
 obtain⟨a1,a2⟩:=VO (k:=1) (v:=0) (a:=(bM m.r s o).2) hm' ⟨hs,LG hs,p4⟩;unfold a9R dN;simp only[bG,UX,I2,D2,aD0,eL,cE,bR,bK,eM,eN,aP,aY,Nat.zero_add,l1,l2,d2,s3,s4,s5,p1,p2,lA,a1,a2,dW,wz,bZ];refine⟨fun q=>by rw[q];rfl,fun q=>?_⟩
 rw[q];refine⟨fun q=>by rw[q];rfl,fun q=>?_⟩
 rw[q];exact⟨fun q=>by rw[q];rfl,fun q=>by rw[q];rfl⟩
theorem rT{t s:Int}{m:MM}{o:aC}(hm:m.Ok t)(hs:s=1∨s=2)(ho:OpOk o)(hmode:s=1→o.Mode=1→False)(he:s=1→o.Mode=7→o.Ext≤255):(dN m s o).1.Ok t∧dA s (dN m s o).2.1=true∧cA (dN m s o).2.2 0 65535=true:=by
 obtain⟨p3,p4⟩:=rQ (s:=s) hm.r ho;have hm':MM.Ok t {m with r:=(bM m.r s o).1}:=⟨p3,hm.b⟩
 obtain⟨a1,a2⟩:=zN (k:=1) (v:=0) (a:=(bM m.r s o).2) hm' ⟨hs,LG hs,p4⟩ (by decide)
 have q:=oE hm.r.aw hm.r.a4 ho.hr;have e:=aM.1 ho.he;have z0:cA 0 0 65535=true:=by decide
 unfold dN;refine bW (P:=fun z:MM×Int×Int=>z.1.Ok t∧dA s z.2.1=true∧cA z.2.2 0 65535=true) (fun _=>⟨hm,iE hs,z0⟩) fun _=>?_
 refine bW (P:=fun z:MM×Int×Int=>z.1.Ok t∧dA s z.2.1=true∧cA z.2.2 0 65535=true) (fun h=>⟨hm,EG hs q.1 q.2 (fun h1=>(hmode h1 (dL.1 h)).elim),z0⟩) fun _=>?_
 refine bW (P:=fun z:MM×Int×Int=>z.1.Ok t∧dA s z.2.1=true∧cA z.2.2 0 65535=true) (fun h=>⟨hm,EG hs e.1 e.2 (fun h1=>he h1 (dL.1 h)),z0⟩) fun _=>?_
 exact⟨a1,a2,p4⟩
def kI(m:MM)(s:Int)(o:aC):MM×Int:=bif eqI o.Mode 0 then(m,0)else({m with r:=(bM m.r s o).1},(bM m.r s o).2)
theorem aWW{t s:Int}{m:MM}{o:aC}(hm:m.Ok t)(ho:OpOk o):aZ5 s o m.g=true∧iA s o m.g=((kI m s o).1.g,(kI m s o).2):=by
 refine aF (t:=a9S s o m.g) (P:=fun q=>q=((kI m s o).1.g,(kI m s o).2)) ?_
 obtain⟨p1,p2⟩:=aWR (s:=s) hm.r ho;unfold a9S kI;simp only[bG,aN9,I3,D3,eL,cE,bR,bK,p1,p2,dW,wz,bZ];exact⟨fun q=>by rw[q];rfl,fun q=>by rw[q];rfl⟩
theorem EI{t s:Int}{m:MM}{o:aC}(hm:m.Ok t)(ho:OpOk o):(kI m s o).1.Ok t∧cA (kI m s o).2 0 65535=true:=by
 obtain⟨p3,p4⟩:=rQ (s:=s) hm.r ho;unfold kI;exact bW (P:=fun z:MM×Int=>z.1.Ok t∧cA z.2 0 65535=true) (fun _=>⟨hm,(by decide:cA 0 0 65535=true)⟩) fun _=>⟨⟨p3,hm.b⟩,p4⟩
def eD(m:MM)(s:Int)(o:aC)(a v:Int):MM:=bif eqI o.Mode 0 then{m with r:=zM m.r s o.Reg v}else(cM m 2 s a v).1
theorem aWX{t s a v:Int}{m:MM}{o:aC}(hm:m.Ok t)(hs:s=1∨s=2)(ho:OpOk o)(ha:cA a 0 65535=true)(hv:dA s v=true):a9W s o a v m.g=true∧a9V s o a v m.g=(eD m s o a v).g:=by
 refine aF (t:=a9U s o a v m.g) (P:=fun q=>q=(eD m s o a v).g) ?_
 have lv:=kE hs hv;obtain⟨p1,p2⟩:=aHU (v:=v) hm.r hs ho.hr (fun h=>by have:=lv.2.2 h;omega)
 obtain⟨a1,a2⟩:=VO (k:=2) hm (⟨hs,hv,ha⟩:AccOk s v a m);unfold a9U eD;simp only[bG,aOB,aOA,eL,cE,bR,bK,p1,p2,a1,a2,dW,wz];exact⟨fun q=>by rw[q];rfl,fun q=>by rw[q];rfl⟩
theorem AG{t s a v:Int}{m:MM}{o:aC}(hm:m.Ok t)(hs:s=1∨s=2)(ho:OpOk o)(ha:cA a 0 65535=true)(hv:dA s v=true):(eD m s o a v).Ok t:=by
 have lv:=kE hs hv;have t0:=hm.r.t0;obtain⟨a1,-⟩:=zN (k:=2) hm (⟨hs,hv,ha⟩:AccOk s v a m) (by decide)
 unfold eD;exact bW (P:=fun z=>MM.Ok t z) (fun _=>⟨N3 hm.r ho.hr lv.1 (fun h=>by have:=lv.2.2 h;omega) (by omega),hm.b⟩) (fun _=>a1)
def VQ(q:MM×Int)(p:MM×Int):MM×aN×Int:=
 bif !bY p.1 then(p.1,⟨0,0,0,⟨0,0,0⟩,0⟩,0)else
 bif !kZ (xD q.2 p.2)then({p.1 with f:={p.1.f with Vector:=4}},⟨0,0,0,⟨0,0,0⟩,0⟩,0)else(p.1,xD q.2 p.2,2)
def LI(q:MM×Int)(pc:Int):MM×aN×Int:=
 bif !bY q.1 then(q.1,⟨0,0,0,⟨0,0,0⟩,0⟩,0)else
 bif LF q.2 then VQ q (cM {q.1 with f:={q.1.f with Word:=q.2}} 3 2 ((pc+2)%65536) 0)
 else bif !kZ (xD q.2 0)then({q.1 with f:={q.1.f with Word:=q.2,Vector:=4}},⟨0,0,0,⟨0,0,0⟩,0⟩,0)else({q.1 with f:={q.1.f with Word:=q.2}},xD q.2 0,1)
def nM(m:MM):MM×aN×Int:=LI (cM {m with f:={m.f with PC:=m.r.pc}} 3 2 m.r.pc 0) m.r.pc
theorem aHV{t a:Int}{m:MM}(hm:m.Ok t)(ha:cA a 0 65535=true):AccOk 2 0 a m:=⟨Or.inr rfl,by decide,ha⟩
theorem b0X(m:MM)(f:aH):(aO.mk m.r.g (qV m.zs m.l) m.stop f)=MM.g {m with f:=f}:=rfl
theorem b0Y{t:Int}{m:MM}(hm:m.Ok t):bSB m.g=true∧gI m.g=((nM m).1.g,(nM m).2.1,(nM m).2.2):=by
 refine aF (t:=a9J m.g) (P:=fun q=>q=((nM m).1.g,(nM m).2.1,(nM m).2.2)) ?_
 have hp:=aM.1 hm.r.pw;have hm0:MM.Ok t {m with f:={m.f with PC:=m.r.pc}}:=⟨hm.r,hm.b⟩
 obtain⟨a1,a2⟩:=VO (k:=3) hm0 (aHV hm0 hm.r.pw);obtain⟨a3,a4⟩:=zN (k:=3) hm0 (aHV hm0 hm.r.pw) (by decide)
 have ha:cA ((m.r.pc+2)%65536) 0 65535=true:=by rw[aM];omega
 have e2:aZ (aV m.r.pc 2) 65535=(m.r.pc+2)%65536:=by rw[bJ (by omega),tQ]
 unfold a9J nM;generalize hq:cM {m with f:={m.f with PC:=m.r.pc}} 3 2 m.r.pc 0=q at a1 a2 a3 a4
 obtain⟨q1,q2⟩:=q;have hm1:MM.Ok t {q1 with f:={q1.f with Word:=q2}}:=⟨a3.r,a3.b⟩
 obtain⟨b1,b2⟩:=VO (k:=3) hm1 (aHV hm1 ha);unfold LI;generalize cM {q1 with f:={q1.f with Word:=q2}} 3 2 ((m.r.pc+2)%65536) 0=p at b1 b2
 obtain⟨p1,p2⟩:=p;unfold VQ bY;simp only[bG,aDZ,aDY,uO,aDX,aDW,iD,eL,cE,bR,bK,cH,b0X,e2,a1,a2,b1,b2,dZ,(aEW _).1,(aEW _).2,aHT,(bB0 _ _).1,(bB0 _ _).2,(VK _).1,(VK _).2,dW,wz];refine⟨fun h=>by rw[h];rfl,fun h=>?_⟩
 rw[h];refine⟨fun h2=>?_,fun h2=>?_⟩
 ·rw[h2];have l2:qN q2=2:=by unfold qN;rw[h2];rfl
  refine⟨fun h=>by rw[h];rfl,fun h=>?_⟩
  rw[h];exact⟨fun h=>by rw[h];rfl,fun h=>by rw[h,l2];rfl⟩
 ·rw[h2];have l2:qN q2=1:=by unfold qN;rw[h2];rfl
  exact⟨fun h=>by rw[h];rfl,fun h=>by rw[h,l2];rfl⟩
end Go.Proofs.YtdicpjkdpliofaaGreatBoundaries

namespace Go.Proofs.YtdicpjkdpliofaaGreatBoundaries
open Go Go.Zq
set_option maxHeartbeats 4000000
set_option maxRecDepth 100000
structure InsOk(x:aN):Prop where
 hs:x.Size=1∨x.Size=2
 hr:cA x.Reg 0 3=true
 hb:cA x.Sub 0 7=true
 ho:OpOk x.Ea
 he:x.Size=1→x.Ea.Mode=7→x.Ea.Ext≤255
 kb:kB x=true
 op:1≤x.Op∧x.Op≤19
theorem InsOk.of{x:aN}(h:kZ x=true):InsOk x:=by
 have R:=rng h;unfold kZ at h;simp only[Bool.and_eq_true]at h;obtain⟨h1,h2,h3,h4,h5,h6⟩:=h;refine⟨by have:=R.s;omega,h2,h4,OpOk.of h3,fun e1 e2=>?_,h6,R.o⟩
 unfold LE at h5;rw[e1,e2]at h5;simpa using h5
theorem fS(r:RM)(f:Int):(aE.mk (ri r.d) (ri r.a) r.oth r.pc f r.mask r.sup r.tr)=RM.g {r with fl:=f}:=rfl
theorem kF(r:RM)(p:Int):(aE.mk (ri r.d) (ri r.a) r.oth p r.fl r.mask r.sup r.tr)=RM.g {r with pc:=p}:=rfl
noncomputable def CA(m:MM)(s k v:Int):MM:={m with r:=zM {m.r with fl:=hU s m.r.fl v} s k v}
theorem aE3{t s k v:Int}{m:MM}(hm:m.Ok t)(hs:s=1∨s=2)(hk:cA k 0 3=true)(hv:s=1→0≤v∧v<256):aZ7 s k v m.g=true∧aZ6 s k v m.g=(CA m s k v).g:=by
 refine aF (t:=bAA s k v m.g) (P:=fun q=>q=(CA m s k v).g) ?_
 obtain⟨l1,l2⟩:=oW (v:=v) hs hm.r.fw;obtain⟨p1,p2⟩:=aHU (v:=v) (hm.r.setF l2) hs hk hv;unfold bAA;simp only[bG,aOV,aOU,eL,cE,bR,bK,eM,eN,aW,cH,aU,bE,aT,aR,fS,l1,p1,p2,dW,wz,bZ];rfl
theorem PW{t s k v:Int}{m:MM}(hm:m.Ok t)(hs:s=1∨s=2)(hk:cA k 0 3=true)(h0:0≤v)(h1:s=1→v<256)(h2:v≤t):(CA m s k v).Ok t:=⟨N3 (hm.r.setF (oW (v:=v) hs hm.r.fw).2) hk h0 h1 h2,hm.b⟩
def zO(m:MM)(v:Int):MM:={m with f:={m.f with Vector:=v,PC:=m.r.pc}}
theorem aWY(m:MM)(v:Int):bJ0 v m.g=true∧bJZ v m.g=(zO m v).g:=by
 refine aF (t:=a98 v m.g) (P:=fun q=>q=(zO m v).g) ?_
 unfold a98;simp only[bG,eL,cE,bR,bK,eM,eN,aW,cH,aU,bE,aT,aR,dW,wz,bZ];rfl
noncomputable def rU(x:aN)(f d v:Int):Int×Int:=
 bif eqI x.Op 3 then aEU x.Size 0 d v else bif eqI x.Op 4 then((d-v)%bS x.Size,JH x.Size d v)
 else bif eqI x.Op 1 then(v,hU x.Size f v)else bif eqI x.Op 5 then(aZ d v,hU x.Size f (aZ d v))
 else bif eqI x.Op 6 then(eT d v,hU x.Size f (eT d v))else(qR d v,hU x.Size f (qR d v))
noncomputable def B1(m:MM)(x:aN):MM:=
 let q:=dN m x.Size x.Ea
 bif !bY q.1 then q.1 else
 bif eqI x.Op 8 then{q.1 with r:={q.1.r with fl:=aO2 x.Size q.1.r.fl (cP q.1.r.d x.Reg%bS x.Size) q.2.1}}
 else{q.1 with r:=zM {q.1.r with fl:=(rU x q.1.r.fl (cP q.1.r.d x.Reg%bS x.Size) q.2.1).2} x.Size x.Reg (rU x q.1.r.fl (cP q.1.r.d x.Reg%bS x.Size) q.2.1).1}
theorem aWZ{x:aN}{f d v:Int}(hs:x.Size=1∨x.Size=2)(hf:cA f 0 31=true)(hd:dA x.Size d=true)(hv:dA x.Size v=true):dA x.Size (rU x f d v).1=true∧cA (rU x f d v).2 0 31=true:=by
 unfold rU;refine bW (P:=fun z:Int×Int=>dA x.Size z.1=true∧cA z.2 0 31=true) (fun _=>⟨iE hs,aEZ _ _ _ _⟩) fun _=>?_
 refine bW (P:=fun z:Int×Int=>dA x.Size z.1=true∧cA z.2 0 31=true) (fun _=>⟨iE hs,aEZ _ _ _ _⟩) fun _=>?_
 refine bW (P:=fun z:Int×Int=>dA x.Size z.1=true∧cA z.2 0 31=true) (fun _=>⟨hv,(oW hs hf).2⟩) fun _=>?_
 refine bW (P:=fun z:Int×Int=>dA x.Size z.1=true∧cA z.2 0 31=true) (fun _=>⟨aWT hs hd hv,(oW hs hf).2⟩) fun _=>?_
 refine bW (P:=fun z:Int×Int=>dA x.Size z.1=true∧cA z.2 0 31=true) (fun _=>⟨aE0 hs hd hv,(oW hs hf).2⟩) fun _=>?_
 exact⟨aWU hs hd hv,(oW hs hf).2⟩
def qO(x:aN):Prop:=x.Op=1∨x.Op=3∨x.Op=4∨x.Op=5∨x.Op=6∨x.Op=7∨x.Op=8
theorem bUS{x:aN}(h:qO x):kB x=bif eqI x.Sub 0 then(bif cU x.Ea.Mode 1 then true else eqI x.Size 2)else false:=by
 unfold kB;rcases h with e|e|e|e|e|e|e<;>rw[e]<;>rfl
theorem VR{x:aN}(h:InsOk x)(h2:qO x):x.Size=1→x.Ea.Mode=1→False:=by
 intro e1 e2;have hk:=h.kb;rw[bUS h2,e1,e2]at hk;cases hb:eqI x.Sub 0
 ·rw[hb]at hk;exact absurd hk (by decide)
 ·rw[hb]at hk;exact absurd hk (by decide)
theorem VS{t:Int}{m:MM}{x:aN}(hm:m.Ok t)(h:InsOk x)(h2:qO x):bS3 x m.g=true∧bAN x m.g=(B1 m x).g:=by
 refine aF (t:=bAM x m.g) (P:=fun q=>q=(B1 m x).g) ?_
 obtain⟨r1,r2⟩:=aE2 hm h.hs h.ho;obtain⟨r3,r4,r5⟩:=rT hm h.hs h.ho (VR h h2) h.he;unfold bAM B1;generalize dN m x.Size x.Ea=q at r1 r2 r3 r4 r5;obtain⟨q1,v,a⟩:=q;have hd:=iE (s:=x.Size) (v:=cP q1.r.d x.Reg) h.hs;obtain⟨l1,l2⟩:=aWS r3.r h.hs h.hr;obtain⟨a1,a2⟩:=b0M (c:=0) (Or.inl rfl) hd r4;obtain⟨b1,b2⟩:=bB7 hd r4;obtain⟨c1,c2⟩:=bMQ (f:=q1.r.fl) hd r4 r3.r.fw;have lg: ∀v,D4 x.Size q1.r.fl v=true:=fun v=>(oW h.hs r3.r.fw).1
 have pt: ∀v f,dA x.Size v=true→cA f 0 31=true→K7 (RM.g {q1.r with fl:=f}) x.Size x.Reg v=true∧K6 (RM.g {q1.r with fl:=f}) x.Size x.Reg v=(zM {q1.r with fl:=f} x.Size x.Reg v).g:=fun v f hv hf=>aHU (r3.r.setF hf) h.hs h.hr (fun e=>by have:=kE h.hs hv;have:=this.2.2 e;omega)
 dsimp only;cases hfi:eqI q1.f.Vector 0
 ·simp only[bG,rL,rK,oV,rJ,oU,rI,oT,rH,mL,xA,mK,jN,jM,w9,p7,fN,w8,zG,eL,cE,bR,bK,eM,eN,aW,cH,aU,bE,aT,aR,r1,r2,dZ,bY,hfi,bX,bZ,wz]
 ·obtain⟨w1,w2⟩:=aWZ (x:=x) (f:=q1.r.fl) h.hs r3.r.fw hd r4;obtain⟨p1,p2⟩:=pt _ _ w1 w2;rcases h2 with e|e|e|e|e|e|e
  ·have tw:rU x q1.r.fl (cP q1.r.d x.Reg%bS x.Size) v=(v,hU x.Size q1.r.fl v):=by unfold rU;rw[e];rfl
   rw[tw]at p1 p2⊢;simp only[bG,rL,rK,oV,rJ,oU,rI,oT,rH,mL,xA,mK,jN,jM,w9,p7,fN,w8,zG,eL,cE,bR,bK,eM,eN,aW,cH,aU,bE,aT,aR,fS,lA,r1,r2,dZ,bY,hfi,e,show eqI 1 0=false from rfl,show eqI 1 1=true from rfl,show eqI 1 2=false from rfl,show eqI 1 3=false from rfl,show eqI 1 4=false from rfl,show eqI 1 5=false from rfl,show eqI 1 6=false from rfl,show eqI 1 7=false from rfl,show eqI 1 8=false from rfl,show eqI 1 9=false from rfl,show eqI 1 10=false from rfl,show eqI 1 11=false from rfl,show eqI 1 12=false from rfl,show eqI 1 13=false from rfl,show eqI 1 14=false from rfl,show eqI 1 15=false from rfl,show eqI 1 16=false from rfl,show eqI 1 17=false from rfl,show eqI 1 18=false from rfl,show eqI 1 19=false from rfl,show cU 1 3=true from rfl,show cU 1 4=true from rfl,l1,l2,a1,a2,b1,b2,lg,p1,p2,bX,bZ,wz]
  ·have tw:rU x q1.r.fl (cP q1.r.d x.Reg%bS x.Size) v=aEU x.Size 0 (cP q1.r.d x.Reg%bS x.Size) v:=by unfold rU;rw[e];rfl
   rw[tw]at p1 p2⊢;simp only[bG,rL,rK,oV,rJ,oU,rI,oT,rH,mL,xA,mK,jN,jM,w9,p7,fN,w8,zG,eL,cE,bR,bK,eM,eN,aW,cH,aU,bE,aT,aR,fS,lA,r1,r2,dZ,bY,hfi,e,show eqI 3 0=false from rfl,show eqI 3 1=false from rfl,show eqI 3 2=false from rfl,show eqI 3 3=true from rfl,show eqI 3 4=false from rfl,show eqI 3 5=false from rfl,show eqI 3 6=false from rfl,show eqI 3 7=false from rfl,show eqI 3 8=false from rfl,show eqI 3 9=false from rfl,show eqI 3 10=false from rfl,show eqI 3 11=false from rfl,show eqI 3 12=false from rfl,show eqI 3 13=false from rfl,show eqI 3 14=false from rfl,show eqI 3 15=false from rfl,show eqI 3 16=false from rfl,show eqI 3 17=false from rfl,show eqI 3 18=false from rfl,show eqI 3 19=false from rfl,show cU 3 3=false from rfl,show cU 3 4=true from rfl,l1,l2,a1,a2,b1,b2,lg,p1,p2,bX,bZ,wz]
  ·have tw:rU x q1.r.fl (cP q1.r.d x.Reg%bS x.Size) v=((cP q1.r.d x.Reg%bS x.Size-v)%bS x.Size,JH x.Size (cP q1.r.d x.Reg%bS x.Size) v):=by unfold rU;rw[e];rfl
   rw[tw]at p1 p2⊢;simp only[bG,rL,rK,oV,rJ,oU,rI,oT,rH,mL,xA,mK,jN,jM,w9,p7,fN,w8,zG,eL,cE,bR,bK,eM,eN,aW,cH,aU,bE,aT,aR,fS,lA,r1,r2,dZ,bY,hfi,e,show eqI 4 0=false from rfl,show eqI 4 1=false from rfl,show eqI 4 2=false from rfl,show eqI 4 3=false from rfl,show eqI 4 4=true from rfl,show eqI 4 5=false from rfl,show eqI 4 6=false from rfl,show eqI 4 7=false from rfl,show eqI 4 8=false from rfl,show eqI 4 9=false from rfl,show eqI 4 10=false from rfl,show eqI 4 11=false from rfl,show eqI 4 12=false from rfl,show eqI 4 13=false from rfl,show eqI 4 14=false from rfl,show eqI 4 15=false from rfl,show eqI 4 16=false from rfl,show eqI 4 17=false from rfl,show eqI 4 18=false from rfl,show eqI 4 19=false from rfl,show cU 4 3=true from rfl,show cU 4 4=false from rfl,l1,l2,a1,a2,b1,b2,lg,p1,p2,bX,bZ,wz]
  ·have tw:rU x q1.r.fl (cP q1.r.d x.Reg%bS x.Size) v=(aZ (cP q1.r.d x.Reg%bS x.Size) v,hU x.Size q1.r.fl (aZ (cP q1.r.d x.Reg%bS x.Size) v)):=by unfold rU;rw[e];rfl
   rw[tw]at p1 p2⊢;simp only[bG,rL,rK,oV,rJ,oU,rI,oT,rH,mL,xA,mK,jN,jM,w9,p7,fN,w8,zG,eL,cE,bR,bK,eM,eN,aW,cH,aU,bE,aT,aR,fS,lA,r1,r2,dZ,bY,hfi,e,show eqI 5 0=false from rfl,show eqI 5 1=false from rfl,show eqI 5 2=false from rfl,show eqI 5 3=false from rfl,show eqI 5 4=false from rfl,show eqI 5 5=true from rfl,show eqI 5 6=false from rfl,show eqI 5 7=false from rfl,show eqI 5 8=false from rfl,show eqI 5 9=false from rfl,show eqI 5 10=false from rfl,show eqI 5 11=false from rfl,show eqI 5 12=false from rfl,show eqI 5 13=false from rfl,show eqI 5 14=false from rfl,show eqI 5 15=false from rfl,show eqI 5 16=false from rfl,show eqI 5 17=false from rfl,show eqI 5 18=false from rfl,show eqI 5 19=false from rfl,show cU 5 3=true from rfl,show cU 5 4=true from rfl,l1,l2,a1,a2,b1,b2,lg,p1,p2,bX,bZ,wz]
  ·have tw:rU x q1.r.fl (cP q1.r.d x.Reg%bS x.Size) v=(eT (cP q1.r.d x.Reg%bS x.Size) v,hU x.Size q1.r.fl (eT (cP q1.r.d x.Reg%bS x.Size) v)):=by unfold rU;rw[e];rfl
   rw[tw]at p1 p2⊢;simp only[bG,rL,rK,oV,rJ,oU,rI,oT,rH,mL,xA,mK,jN,jM,w9,p7,fN,w8,zG,eL,cE,bR,bK,eM,eN,aW,cH,aU,bE,aT,aR,fS,lA,r1,r2,dZ,bY,hfi,e,show eqI 6 0=false from rfl,show eqI 6 1=false from rfl,show eqI 6 2=false from rfl,show eqI 6 3=false from rfl,show eqI 6 4=false from rfl,show eqI 6 5=false from rfl,show eqI 6 6=true from rfl,show eqI 6 7=false from rfl,show eqI 6 8=false from rfl,show eqI 6 9=false from rfl,show eqI 6 10=false from rfl,show eqI 6 11=false from rfl,show eqI 6 12=false from rfl,show eqI 6 13=false from rfl,show eqI 6 14=false from rfl,show eqI 6 15=false from rfl,show eqI 6 16=false from rfl,show eqI 6 17=false from rfl,show eqI 6 18=false from rfl,show eqI 6 19=false from rfl,show cU 6 3=true from rfl,show cU 6 4=true from rfl,l1,l2,a1,a2,b1,b2,lg,p1,p2,bX,bZ,wz]
  ·have tw:rU x q1.r.fl (cP q1.r.d x.Reg%bS x.Size) v=(qR (cP q1.r.d x.Reg%bS x.Size) v,hU x.Size q1.r.fl (qR (cP q1.r.d x.Reg%bS x.Size) v)):=by unfold rU;rw[e];rfl
   rw[tw]at p1 p2⊢;simp only[bG,rL,rK,oV,rJ,oU,rI,oT,rH,mL,xA,mK,jN,jM,w9,p7,fN,w8,zG,eL,cE,bR,bK,eM,eN,aW,cH,aU,bE,aT,aR,fS,lA,r1,r2,dZ,bY,hfi,e,show eqI 7 0=false from rfl,show eqI 7 1=false from rfl,show eqI 7 2=false from rfl,show eqI 7 3=false from rfl,show eqI 7 4=false from rfl,show eqI 7 5=false from rfl,show eqI 7 6=false from rfl,show eqI 7 7=true from rfl,show eqI 7 8=false from rfl,show eqI 7 9=false from rfl,show eqI 7 10=false from rfl,show eqI 7 11=false from rfl,show eqI 7 12=false from rfl,show eqI 7 13=false from rfl,show eqI 7 14=false from rfl,show eqI 7 15=false from rfl,show eqI 7 16=false from rfl,show eqI 7 17=false from rfl,show eqI 7 18=false from rfl,show eqI 7 19=false from rfl,show cU 7 3=true from rfl,show cU 7 4=true from rfl,l1,l2,a1,a2,b1,b2,lg,p1,p2,bX,bZ,wz]
  ·simp only[bG,rL,rK,oV,rJ,oU,rI,oT,rH,mL,xA,mK,jN,jM,w9,p7,fN,w8,zG,eL,cE,bR,bK,eM,eN,aW,cH,aU,bE,aT,aR,r1,r2,dZ,bY,hfi,e,show eqI 8 0=false from rfl,show eqI 8 1=false from rfl,show eqI 8 2=false from rfl,show eqI 8 3=false from rfl,show eqI 8 4=false from rfl,show eqI 8 5=false from rfl,show eqI 8 6=false from rfl,show eqI 8 7=false from rfl,show eqI 8 8=true from rfl,show eqI 8 9=false from rfl,show eqI 8 10=false from rfl,show eqI 8 11=false from rfl,show eqI 8 12=false from rfl,show eqI 8 13=false from rfl,show eqI 8 14=false from rfl,show eqI 8 15=false from rfl,show eqI 8 16=false from rfl,show eqI 8 17=false from rfl,show eqI 8 18=false from rfl,show eqI 8 19=false from rfl,l1,l2,c1,bX,bZ,wz]
   rfl
theorem bUT{t:Int}{m:MM}{x:aN}(hm:m.Ok t)(h:InsOk x)(h2:qO x):(B1 m x).Ok t:=by
 obtain⟨r3,r4,r5⟩:=rT hm h.hs h.ho (VR h h2) h.he;have t0:=hm.r.t0;unfold B1;generalize dN m x.Size x.Ea=q at r3 r4 r5;obtain⟨q1,v,a⟩:=q;have hd:=iE (s:=x.Size) (v:=cP q1.r.d x.Reg) h.hs;obtain⟨w1,w2⟩:=aWZ (x:=x) (f:=q1.r.fl) h.hs r3.r.fw hd r4;dsimp only at r4 w1 w2 hd r3⊢;have lv:=kE h.hs w1;refine bW (P:=fun z=>MM.Ok t z) (fun _=>r3) fun _=>bW (P:=fun z=>MM.Ok t z) (fun _=>⟨r3.r.setF (bMQ hd r4 r3.r.fw).2,r3.b⟩) fun _=>?_
 exact⟨N3 (r3.r.setF w2) h.hr lv.1 (fun e=>by have:=lv.2.2 e;omega) (by omega),r3.b⟩
end Go.Proofs.YtdicpjkdpliofaaGreatBoundaries

namespace Go.Proofs.YtdicpjkdpliofaaGreatBoundaries
open Go Go.Zq
set_option maxHeartbeats 4000000
set_option maxRecDepth 100000
theorem aW0{v:Int}(h:cA v 0 1023=true):cU (aZ v 256) 0=eqI (v/256%2) 1∧cU (aZ v 512) 0=eqI (v/512%2) 1:=by
 rw[aM]at h;obtain⟨n,rfl⟩:=Int.eq_ofNat_of_zero_le h.1;have key: ∀n:Fin 1024,cU (aZ (n.val:Int) 256) 0=eqI ((n.val:Int)/256%2) 1∧cU (aZ (n.val:Int) 512) 0=eqI ((n.val:Int)/512%2) 1:=by decide+kernel
 exact key ⟨n,by omega⟩
theorem aE4{t v:Int}{r:RM}(h:r.Ok t)(hv:cA v 0 1023=true):aZZ r.g v=true∧aG3 r.g v=(dH r v).g:=by
 refine aF (t:=a83 r.g v) (P:=fun q=>q=(dH r v).g) ?_
 obtain⟨b1,b2,b3,b4,b5,-,-⟩:=AF h;obtain⟨c1,c2⟩:=aW0 hv;have hv':=aM.1 hv;have e1:aZ v 31=v%32:=iZ 5 _ (by omega) (by decide)
 have e2:aZ (eW v 5) 7=v/32%8:=by rw[kQ (n:=5) 5 rfl (by omega)];exact iZ 3 _ (by omega) (by decide)
 unfold a83 dH;simp only[bG,aNO,eL,cE,bR,bK,eM,eN,aW,cH,aU,bE,aT,aR,aP,aY,b1,b2,b3,b4,b5,c1,c2,e1,e2,dT,List.length_set,dW,wz,bZ];cases hs:eqI (v/256%2) 1<;>cases hp:r.sup<;>simp[yF]<;>rfl
theorem GC{t v:Int}{r:RM}(h:r.Ok t):(dH r v).Ok t:=by
 have q:=aEX h;have t0:=h.t0;have f:cA (v%32) 0 31=true:=aM.2 (by omega)
 have k:cA (v/32%8) 0 (t-65528)=true:=aM.2 (by omega)
 have o:=aM.1 h.ow;unfold dH;exact bW (P:=fun z=>RM.Ok t z) (fun _=>⟨h.t0,h.t1,h.d4,h.a4,h.dw,h.aw,h.ow,h.pw,f,k⟩) (fun _=>⟨h.t0,h.t1,h.d4,by simpa using h.a4,h.dw,sR h.aw o.1 o.2,aM.2 q,h.pw,f,k⟩)
theorem aHW{t:Int}{r:RM}(h:r.Ok t):bI5 r.g=true∧a8Z r.g=fG r:=by
 refine aF (t:=a8Y r.g) (P:=fun q=>q=fG r) ?_
 have f:=aM.1 h.fw;have k:=aM.1 h.mw;have t1:=h.t1;have e1:cX 32 r.mask=32*r.mask:=gH (by omega)
 have b1: ∀(b:Bool)(n:Int),(bif b then n else 0)=0∨(bif b then n else 0)=n:=fun b n=>by cases b<;>simp
 have c1:=b1 r.sup 256;have c2:=b1 r.tr 512;unfold a8Y fG;simp only[bG,eL,cE,bR,bK,eM,eN,aW,cH,aU,bE,aT,aR,(fH _ _).1,(fH _ _).2,e1,dW,wz,bZ];rw[bJ (x:=r.fl) (by omega),bJ (x:=r.fl+32*r.mask) (by omega),bJ (by omega)]
theorem VT{t:Int}{r:RM}(h:r.Ok t):0≤fG r∧fG r≤65535:=by
 have f:=aM.1 h.fw;have k:=aM.1 h.mw;have t1:=h.t1;have b1: ∀(b:Bool)(n:Int),(bif b then n else 0)=0∨(bif b then n else 0)=n:=fun b n=>by cases b<;>simp
 have c1:=b1 r.sup 256;have c2:=b1 r.tr 512;unfold fG;omega
noncomputable def xE(x:aN)(f v:Int):Int×Int:=
 bif eqI x.Sub 1 then((0-v)%bS x.Size,JH x.Size 0 v)else bif eqI x.Sub 2 then(bS x.Size-1-v,hU x.Size f (bS x.Size-1-v))else(v,hU x.Size f v)
def fD(m:MM)(x:aN):MM×Int×Int:=bif eqI x.Sub 0 then((kI m x.Size x.Ea).1,0,(kI m x.Size x.Ea).2)else dN m x.Size x.Ea
noncomputable def EJ(x:aN)(q:MM)(a:Int)(w:Int×Int):MM:=
 bif !bY q then q else
 bif ltI x.Sub 3 then{eD q x.Size x.Ea a w.1 with r:={(eD q x.Size x.Ea a w.1).r with fl:=w.2}}else{q with r:={q.r with fl:=w.2}}
noncomputable def N4(m:MM)(x:aN):MM:=EJ x (fD m x).1 (fD m x).2.2 (xE x (fD m x).1.r.fl (fD m x).2.1)
theorem b0Z{x:aN}(h:x.Op=11):kB x=bif (bif eqI x.Reg 0 then leI x.Sub 3 else false)then aEV x.Ea.Mode else false:=by
 unfold kB;rw[h];rfl
theorem aHX{m:Int}(h:aEV m=true):m=0∨(2≤m∧m≤6):=by
 unfold aEV aHS at h;cases e:eqI m 0
 ·rw[e,cond_false,aM]at h;exact Or.inr h
 ·exact Or.inl (dL.1 e)
theorem VU{x:aN}(h:InsOk x)(h2:x.Op=11):x.Sub≤3∧(x.Ea.Mode=0∨(2≤x.Ea.Mode∧x.Ea.Mode≤6)):=by
 have hk:=h.kb;rw[b0Z h2]at hk;cases e1:eqI x.Reg 0
 ·rw[e1]at hk;simp at hk
 ·cases e2:leI x.Sub 3
  ·rw[e1,e2]at hk;simp at hk
  ·rw[e1,e2]at hk;exact⟨gZ.1 e2,aHX hk⟩
theorem aE5{t:Int}{m:MM}{x:aN}(hm:m.Ok t)(h:InsOk x)(h2:x.Op=11):(fD m x).1.Ok t∧dA x.Size (fD m x).2.1=true∧cA (fD m x).2.2 0 65535=true:=by
 obtain⟨k1,k2⟩:=VU h h2;obtain⟨p1,p2⟩:=EI (s:=x.Size) hm h.ho;unfold fD;exact bW (P:=fun z:MM×Int×Int=>z.1.Ok t∧dA x.Size z.2.1=true∧cA z.2.2 0 65535=true) (fun _=>⟨p1,LG h.hs,p2⟩) (fun _=>rT hm h.hs h.ho (fun _ e=>by omega) (fun _ e=>by omega))
theorem PX{x:aN}{f v:Int}(hs:x.Size=1∨x.Size=2)(hf:cA f 0 31=true)(hv:dA x.Size v=true):dA x.Size (xE x f v).1=true∧cA (xE x f v).2 0 31=true:=by
 unfold xE;refine bW (P:=fun z:Int×Int=>dA x.Size z.1=true∧cA z.2 0 31=true) (fun _=>⟨iE hs,aEZ _ _ _ _⟩) fun _=>?_
 refine bW (P:=fun z:Int×Int=>dA x.Size z.1=true∧cA z.2 0 31=true) (fun _=>⟨?_,(oW hs hf).2⟩) fun _=>⟨hv,(oW hs hf).2⟩
 have:=kE hs hv;rcases hs with e|e
 ·rw[e]at this hv⊢;have:=this.2.2 rfl;refine EG (Or.inl rfl) ?_ ?_ (fun _=>?_)<;>(show _≤_;simp only[bS,show eqI 1 1=true from rfl,cond_true];omega)
 ·rw[e];refine EG (Or.inr rfl) ?_ ?_ (fun h=>absurd h (by decide))<;>(show _≤_;simp only[bS,show eqI 2 1=false from rfl,cond_false];omega)
theorem bUU{t:Int}{m:MM}{x:aN}(hm:m.Ok t)(h:InsOk x)(h2:x.Op=11):(N4 m x).Ok t:=by
 obtain⟨q1,q2,q3⟩:=aE5 hm h h2;obtain⟨v1,v2⟩:=PX (f:=(fD m x).1.r.fl) h.hs q1.r.fw q2;have w:=AG q1 h.hs h.ho q3 v1;unfold N4 EJ;refine bW (P:=fun z=>MM.Ok t z) (fun _=>q1) fun _=>bW (P:=fun z=>MM.Ok t z) (fun _=>⟨w.r.setF v2,w.b⟩) (fun _=>⟨q1.r.setF v2,q1.b⟩)
theorem b00{t:Int}{m:MM}{x:aN}(hm:m.Ok t)(h:InsOk x)(h2:x.Op=11):bSM x m.g=true∧a90 x m.g=(N4 m x).g:=by
 refine aF (t:=a9Z x m.g) (P:=fun q=>q=(N4 m x).g) ?_
 obtain⟨k1,k2⟩:=VU h h2;have hb:=aM.1 h.hb;obtain⟨q1,q2,q3⟩:=aE5 hm h h2;obtain⟨v1,v2⟩:=PX (f:=(fD m x).1.r.fl) h.hs q1.r.fw q2;obtain⟨w1,w2⟩:=aWX q1 h.hs h.ho q3 v1;have lg: ∀v,D4 x.Size (fD m x).1.r.fl v=true:=fun v=>(oW h.hs q1.r.fw).1
 obtain⟨b1,b2⟩:=bB7 (s:=x.Size) (a:=0) (LG h.hs) q2;have lv:=kE h.hs q2;have lr:=rO h.hs;have e3:cF (bS x.Size) 1=bS x.Size-1:=eK (by omega)
 have e4:cF (bS x.Size-1) (fD m x).2.1=bS x.Size-1-(fD m x).2.1:=eK (by omega)
 obtain⟨r1,r2⟩:=aE2 hm h.hs h.ho;obtain⟨p1,p2⟩:=aWW (s:=x.Size) hm h.ho;unfold a9Z N4;have hsub:x.Sub=0∨x.Sub=1∨x.Sub=2∨x.Sub=3:=by omega
 rcases hsub with e|e|e|e
 ·have hq:fD m x=((kI m x.Size x.Ea).1,0,(kI m x.Size x.Ea).2):=by unfold fD;rw[e];rfl
  have hv:xE x (fD m x).1.r.fl (fD m x).2.1=((fD m x).2.1,hU x.Size (fD m x).1.r.fl (fD m x).2.1):=by unfold xE;rw[e];rfl
  have l3:ltI x.Sub 3=true:=by rw[e];rfl
  rw[hv]at v1 w1 w2⊢;rw[hq]at b1 b2 e4 w1 w2 lg⊢;dsimp only at b1 b2 e4 w1 w2 lg⊢;unfold EJ;cases hfi:eqI ((kI m x.Size x.Ea).1).f.Vector 0
  ·simp only[bG,zE,uQ,zD,zB,wS,zA,yZ,uP,yY,yX,eL,cE,bR,bK,eM,eN,aW,cH,aU,bE,aT,aR,r1,r2,p1,p2,dZ,bY,hfi,e,show eqI 0 0=true from rfl,show eqI 0 1=false from rfl,show eqI 0 2=false from rfl,show eqI 0 3=false from rfl,bX,bZ,wz]
  ·simp only[bG,zE,uQ,zD,zB,wS,zA,yZ,uP,yY,yX,eL,cE,bR,bK,eM,eN,aW,cH,aU,bE,aT,aR,fS,lA,r1,r2,p1,p2,dZ,bY,hfi,e,show eqI 0 0=true from rfl,show eqI 0 1=false from rfl,show eqI 0 2=false from rfl,show eqI 0 3=false from rfl,(kY h.hs).1,(kY h.hs).2,b1,b2,lg,e3,e4,w1,w2,l3,show ltI 0 3=true from rfl,bX,bZ,wz]
 ·have hq:fD m x=dN m x.Size x.Ea:=by unfold fD;rw[e];rfl
  have hv:xE x (fD m x).1.r.fl (fD m x).2.1=((0-(fD m x).2.1)%bS x.Size,JH x.Size 0 (fD m x).2.1):=by unfold xE;rw[e];rfl
  have l3:ltI x.Sub 3=true:=by rw[e];rfl
  rw[hv]at v1 w1 w2⊢;rw[hq]at b1 b2 e4 w1 w2 lg⊢;dsimp only at b1 b2 e4 w1 w2 lg⊢;unfold EJ;cases hfi:eqI ((dN m x.Size x.Ea).1).f.Vector 0
  ·simp only[bG,zE,uQ,zD,zB,wS,zA,yZ,uP,yY,yX,eL,cE,bR,bK,eM,eN,aW,cH,aU,bE,aT,aR,r1,r2,p1,p2,dZ,bY,hfi,e,show eqI 1 0=false from rfl,show eqI 1 1=true from rfl,show eqI 1 2=false from rfl,show eqI 1 3=false from rfl,bX,bZ,wz]
  ·simp only[bG,zE,uQ,zD,zB,wS,zA,yZ,uP,yY,yX,eL,cE,bR,bK,eM,eN,aW,cH,aU,bE,aT,aR,fS,lA,r1,r2,p1,p2,dZ,bY,hfi,e,show eqI 1 0=false from rfl,show eqI 1 1=true from rfl,show eqI 1 2=false from rfl,show eqI 1 3=false from rfl,(kY h.hs).1,(kY h.hs).2,b1,b2,lg,e3,e4,w1,w2,l3,show ltI 1 3=true from rfl,bX,bZ,wz]
 ·have hq:fD m x=dN m x.Size x.Ea:=by unfold fD;rw[e];rfl
  have hv:xE x (fD m x).1.r.fl (fD m x).2.1=(bS x.Size-1-(fD m x).2.1,hU x.Size (fD m x).1.r.fl (bS x.Size-1-(fD m x).2.1)):=by unfold xE;rw[e];rfl
  have l3:ltI x.Sub 3=true:=by rw[e];rfl
  rw[hv]at v1 w1 w2⊢;rw[hq]at b1 b2 e4 w1 w2 lg⊢;dsimp only at b1 b2 e4 w1 w2 lg⊢;unfold EJ;cases hfi:eqI ((dN m x.Size x.Ea).1).f.Vector 0
  ·simp only[bG,zE,uQ,zD,zB,wS,zA,yZ,uP,yY,yX,eL,cE,bR,bK,eM,eN,aW,cH,aU,bE,aT,aR,r1,r2,p1,p2,dZ,bY,hfi,e,show eqI 2 0=false from rfl,show eqI 2 1=false from rfl,show eqI 2 2=true from rfl,show eqI 2 3=false from rfl,bX,bZ,wz]
  ·simp only[bG,zE,uQ,zD,zB,wS,zA,yZ,uP,yY,yX,eL,cE,bR,bK,eM,eN,aW,cH,aU,bE,aT,aR,fS,lA,r1,r2,p1,p2,dZ,bY,hfi,e,show eqI 2 0=false from rfl,show eqI 2 1=false from rfl,show eqI 2 2=true from rfl,show eqI 2 3=false from rfl,(kY h.hs).1,(kY h.hs).2,b1,b2,lg,e3,e4,w1,w2,l3,show ltI 2 3=true from rfl,bX,bZ,wz]
 ·have hq:fD m x=dN m x.Size x.Ea:=by unfold fD;rw[e];rfl
  have hv:xE x (fD m x).1.r.fl (fD m x).2.1=((fD m x).2.1,hU x.Size (fD m x).1.r.fl (fD m x).2.1):=by unfold xE;rw[e];rfl
  have l3:ltI x.Sub 3=false:=by rw[e];rfl
  rw[hv]at v1 w1 w2⊢;rw[hq]at b1 b2 e4 w1 w2 lg⊢;dsimp only at b1 b2 e4 w1 w2 lg⊢;unfold EJ;cases hfi:eqI ((dN m x.Size x.Ea).1).f.Vector 0
  ·simp only[bG,zE,uQ,zD,zB,wS,zA,yZ,uP,yY,yX,eL,cE,bR,bK,eM,eN,aW,cH,aU,bE,aT,aR,r1,r2,p1,p2,dZ,bY,hfi,e,show eqI 3 0=false from rfl,show eqI 3 1=false from rfl,show eqI 3 2=false from rfl,show eqI 3 3=true from rfl,bX,bZ,wz]
  ·simp only[bG,zE,uQ,zD,zB,wS,zA,yZ,uP,yY,yX,eL,cE,bR,bK,eM,eN,aW,cH,aU,bE,aT,aR,fS,lA,r1,r2,p1,p2,dZ,bY,hfi,e,show eqI 3 0=false from rfl,show eqI 3 1=false from rfl,show eqI 3 2=false from rfl,show eqI 3 3=true from rfl,(kY h.hs).1,(kY h.hs).2,b1,b2,lg,e3,e4,w1,w2,l3,show ltI 3 3=false from rfl,bX,bZ,wz]
end Go.Proofs.YtdicpjkdpliofaaGreatBoundaries

namespace Go.Proofs.YtdicpjkdpliofaaGreatBoundaries
open Go Go.Zq
set_option maxHeartbeats 4000000
set_option maxRecDepth 100000
theorem bMR(a:Int):bQZ a=true∧bQY a=cA a 0 1:=by
 refine aF (t:=a7Q a) (P:=fun r=>r=cA a 0 1) ?_
 unfold a7Q;simp only[aQ,aJ,iU,iV,Bool.and_true,true_and]
theorem bCB(c o z n:Bool):fX (fl c o z n) 16=aZ (fl c o z n) 15:=by
 cases c<;>cases o<;>cases z<;>cases n<;>decide
theorem aW1(f:Int):bOL f=true∧bOK f=cA f 0 31:=by
 refine aF (t:=a4U f) (P:=fun r=>r=cA f 0 31) ?_
 unfold a4U;simp only[aQ,aJ,iU,iV,Bool.and_true,true_and]
theorem aW2(f:Int):bRG f=true∧bRF f=cA f 0 31:=by
 refine aF (t:=a79 f) (P:=fun r=>r=cA f 0 31) ?_
 unfold a79;simp only[aQ,aJ,p8,p9,Bool.and_true,true_and]
theorem b01(a:Int):bSU a=true∧bJ3 a=(bif dA 1 a then(aZ (AE 1 a) 65535,true)else(0,false)):=by
 refine aF (t:=bAB a) (P:=fun r=>r=(bif dA 1 a then(aZ (AE 1 a) 65535,true)else(0,false))) ?_
 unfold bAB;simp only[aQ,cB,aJ,(YY _ _).1,(YY _ _).2,Bool.and_true,true_and];cases ha:dA 1 a
 ·simp
 ·obtain⟨-,h0,h1⟩:=qC ha;obtain⟨p1,p2⟩:=G4 (s:=1) (v:=a) (Or.inl rfl) h0 (by unfold bS at h1;rw[show eqI 1 1=true from rfl,cond_true]at h1;omega)
  rw[p1,p2];simp
def Y3(a:Int):Int×Bool:=bif cA a 0 65535 then(eT (eW a 8) (nL (aZ a 255) 8),true)else(0,false)
theorem bUV(a:Int):bSR a=true∧bJ1 a=Y3 a:=by
 refine aF (t:=a99 a) (P:=fun r=>r=Y3 a) ?_
 unfold a99 Y3;have e:dA 2 a=cA a 0 65535:=rfl;simp only[aQ,cB,aJ,(YY _ _).1,(YY _ _).2,e,Bool.and_true,true_and];cases cA a 0 65535<;>simp
end Go.Proofs.YtdicpjkdpliofaaGreatBoundaries

namespace Go.Proofs.YtdicpjkdpliofaaGreatBoundaries
open Nat renaming zero_add → q_9
open Go Go.Zq
set_option maxHeartbeats 4000000
set_option maxRecDepth 100000
def EK(v:Int):Int:=(Y3 v).1
theorem VV{v:Int}:0≤EK v∧EK v≤65535:=by
 unfold EK Y3;cases h:cA v 0 65535
 ·exact⟨Int.le_refl 0,(by decide:(0:Int)≤65535)⟩
 ·rw[aM]at h;rw[cond_true];have e1:eW v 8=v/256:=bUN;have e2:nL (aZ v 255) 8=v%256*256:=by rw[zK h.1 (by omega),bKK (by omega) (by omega)]
  show 0≤eT (eW v 8) (nL (aZ v 255) 8)∧eT (eW v 8) (nL (aZ v 255) 8)≤65535
  rw[e1,e2];exact(LH ⟨by omega,by omega⟩ ⟨by omega,by omega⟩).2.1
def WY(v:Int):Int:=aZ (AE 1 (v%256)) 65535
theorem aW3{v:Int}:0≤WY v∧WY v≤65535:=by
 unfold WY;rw[tQ];exact b0R _
noncomputable def EM(m:MM)(x:aN):MM:=
 bif eqI x.Sub 0 then{(dE m).1 with r:={(dE m).1.r with pc:=(dE m).2}}
 else bif eqI x.Sub 1 then
  (bif !bY (dE m).1 then(dE m).1 else
   bif bY (dE (dE m).1).1 then{(dE (dE m).1).1 with r:=dH {(dE (dE m).1).1.r with pc:=(dE (dE m).1).2} ((dE m).2%1024)}else(dE (dE m).1).1)
 else bif eqI x.Sub 3 then{m with r:=dH m.r x.Ea.Ext,stop:=true}
 else bif eqI x.Sub 4 then zO m (18+x.Reg)
 else bif eqI x.Sub 5 then CA m 2 x.Reg (EK (cP m.r.d x.Reg))
 else bif eqI x.Sub 6 then CA m 2 x.Reg (WY (cP m.r.d x.Reg))else m
theorem bCC{x:aN}(h:x.Op=15):kB x=LD x:=bMN x h
theorem Y4{x:aN}(h:InsOk x)(h2:x.Op=15):x.Sub=3→x.Ea.Ext≤1023:=by
 intro e;have hk:=h.kb;rw[bCC h2]at hk;unfold LD at hk;rw[e]at hk;simp only[show kV 3 6=false from rfl,show eqI 3 3=true from rfl,cond_true]at hk
 cases e1:cU x.Size 2
 ·rw[e1]at hk;simp only[cond_false]at hk;cases e2:eqI x.Reg 0
  ·rw[e2]at hk;simp at hk
  ·rw[e2,cond_true]at hk;unfold VI at hk;cases e3:eqI x.Ea.Mode 7
   ·rw[e3]at hk;simp at hk
   ·rw[e3,cond_true,gZ]at hk;exact hk
 ·rw[e1]at hk;simp at hk
theorem VW:(2:Int)=1∨(2:Int)=2:=Or.inr rfl
theorem o6{P:Prop}:(2:Int)=1→P:=fun h=>absurd h (by decide)
theorem bKU{t:Int}{m:MM}{x:aN}(hm:m.Ok t)(h:InsOk x):(EM m x).Ok t:=by
 obtain⟨p1,p2,p3⟩:=JI hm;obtain⟨q1,q2,q3⟩:=JI p1;have t0:=hm.r.t0;have s:=VV (v:=cP m.r.d x.Reg);have e:=aW3 (v:=cP m.r.d x.Reg);unfold EM;refine bW (P:=fun z=>MM.Ok t z) (fun _=>⟨p1.r.setP (aM.2 ⟨p2,p3⟩),p1.b⟩) fun _=>?_
 refine bW (P:=fun z=>MM.Ok t z) (fun _=>bW (P:=fun z=>MM.Ok t z) (fun _=>p1) fun _=>bW (P:=fun z=>MM.Ok t z) (fun _=>⟨GC (q1.r.setP (aM.2 ⟨q2,q3⟩)),q1.b⟩) fun _=>q1) fun _=>?_
 refine bW (P:=fun z=>MM.Ok t z) (fun _=>⟨GC hm.r,hm.b⟩) fun _=>?_
 refine bW (P:=fun z=>MM.Ok t z) (fun _=>⟨hm.r,hm.b⟩) fun _=>?_
 refine bW (P:=fun z=>MM.Ok t z) (fun _=>PW hm VW h.hr s.1 o6 (by omega)) fun _=>?_
 exact bW (P:=fun z=>MM.Ok t z) (fun _=>PW hm VW h.hr e.1 o6 (by omega)) fun _=>hm
theorem bUW{t:Int}{m:MM}{x:aN}(hm:m.Ok t)(h:InsOk x)(h2:x.Op=15):bSV x m.g=true∧bAD x m.g=(EM m x).g:=by
 refine aF (t:=bAC x m.g) (P:=fun q=>q=(EM m x).g) ?_
 obtain⟨p1,p2,p3⟩:=JI hm;obtain⟨q1,q2,q3⟩:=JI p1;obtain⟨a1,a2⟩:=bMP hm;obtain⟨b1,b2⟩:=bMP p1;have hr:=aM.1 h.hr;have c1:aZ (dE m).2 1023=(dE m).2%1024:=iZ 10 _ (by omega) (by decide)
 have c0:cA ((dE m).2%1024) 0 1023=true:=aM.2 (by omega)
 obtain⟨d1,d2⟩:=aE4 (v:=(dE m).2%1024) (q1.r.setP (aM.2 ⟨q2,q3⟩)) c0;have e1:aV 18 x.Reg=18+x.Reg:=bJ (by omega)
 obtain⟨f1,f2⟩:=aWY m (18+x.Reg);obtain⟨i1,i2,i3⟩:=jQ hm.r.d4 h.hr;obtain⟨s1,s2,s3,s4,s5⟩:=fV (v:=0) hm.r.d4 h.hr;rw[q_9]at s5;obtain⟨j1,j2⟩:=bUV (cP m.r.d x.Reg);have sr:=VV (v:=cP m.r.d x.Reg);obtain⟨l1,l2⟩:=aE3 (v:=EK (cP m.r.d x.Reg)) hm VW h.hr o6;obtain⟨u1,u2⟩:=aE3 (v:=WY (cP m.r.d x.Reg)) hm VW h.hr o6;have dr:=oE hm.r.dw hm.r.d4 h.hr;have t1:=hm.r.t1;have m8:aZ (cP m.r.d x.Reg) 255=cP m.r.d x.Reg%256:=zK dr.1 (by omega)
 have v1:dA 1 (cP m.r.d x.Reg%256)=true:=iE (s:=1) (Or.inl rfl);obtain⟨w1,w2⟩:=b01 (cP m.r.d x.Reg%256);rw[v1,cond_true]at w2;unfold bAC EM;unfold EK at l1 l2;unfold WY at u1 u2;have hsub:x.Sub=0∨x.Sub=1∨x.Sub=2∨x.Sub=3∨x.Sub=4∨x.Sub=5∨x.Sub=6∨x.Sub=7:=by have:=aM.1 h.hb;omega
 rcases hsub with e|e|e|e|e|e|e|e
 ·simp only[bG,uU,uT,uS,wZ,wY,uR,wX,wW,wV,wU,eL,cE,bR,bK,eM,eN,aW,cH,aU,bE,aT,aR,q_9,aP,aY,kF,fS,lA,dZ,e,show eqI 0 0=true from rfl,show eqI 0 1=false from rfl,show eqI 0 2=false from rfl,show eqI 0 3=false from rfl,show eqI 0 4=false from rfl,show eqI 0 5=false from rfl,show eqI 0 6=false from rfl,show eqI 0 7=false from rfl,bX,bZ,wz,a1,a2]
 ·cases hf:eqI (dE m).1.f.Vector 0
  ·simp only[bG,uU,uT,uS,wZ,wY,uR,wX,wW,wV,wU,eL,cE,bR,bK,eM,eN,aW,cH,aU,bE,aT,aR,q_9,aP,aY,kF,fS,lA,dZ,e,show eqI 1 0=false from rfl,show eqI 1 1=true from rfl,show eqI 1 2=false from rfl,show eqI 1 3=false from rfl,show eqI 1 4=false from rfl,show eqI 1 5=false from rfl,show eqI 1 6=false from rfl,show eqI 1 7=false from rfl,bX,bZ,wz,a1,a2,bY,hf]
  ·simp only[bG,uU,uT,uS,wZ,wY,uR,wX,wW,wV,wU,eL,cE,bR,bK,eM,eN,aW,cH,aU,bE,aT,aR,q_9,aP,aY,kF,fS,lA,dZ,e,show eqI 1 0=false from rfl,show eqI 1 1=true from rfl,show eqI 1 2=false from rfl,show eqI 1 3=false from rfl,show eqI 1 4=false from rfl,show eqI 1 5=false from rfl,show eqI 1 6=false from rfl,show eqI 1 7=false from rfl,bX,bZ,wz,a1,a2,b1,b2,c1,d1,d2,bY,hf]
   refine⟨fun q=>?_,fun q=>?_⟩
   ·rw[q];rfl
   ·rw[q];rfl
 ·simp only[bG,uU,uT,uS,wZ,wY,uR,wX,wW,wV,wU,eL,cE,bR,bK,eM,eN,aW,cH,aU,bE,aT,aR,q_9,aP,aY,kF,fS,lA,dZ,e,show eqI 2 0=false from rfl,show eqI 2 1=false from rfl,show eqI 2 2=true from rfl,show eqI 2 3=false from rfl,show eqI 2 4=false from rfl,show eqI 2 5=false from rfl,show eqI 2 6=false from rfl,show eqI 2 7=false from rfl,bX,bZ,wz]
 ·obtain⟨z1,z2⟩:=aE4 (v:=x.Ea.Ext) hm.r (aM.2 ⟨(aM.1 h.ho.he).1,Y4 h h2 e⟩);simp only[bG,uU,uT,uS,wZ,wY,uR,wX,wW,wV,wU,eL,cE,bR,bK,eM,eN,aW,cH,aU,bE,aT,aR,q_9,aP,aY,kF,fS,lA,dZ,e,show eqI 3 0=false from rfl,show eqI 3 1=false from rfl,show eqI 3 2=false from rfl,show eqI 3 3=true from rfl,show eqI 3 4=false from rfl,show eqI 3 5=false from rfl,show eqI 3 6=false from rfl,show eqI 3 7=false from rfl,bX,bZ,wz,z1,z2]
  rfl
 ·simp only[bG,uU,uT,uS,wZ,wY,uR,wX,wW,wV,wU,eL,cE,bR,bK,eM,eN,aW,cH,aU,bE,aT,aR,q_9,aP,aY,kF,fS,lA,dZ,e,show eqI 4 0=false from rfl,show eqI 4 1=false from rfl,show eqI 4 2=false from rfl,show eqI 4 3=false from rfl,show eqI 4 4=true from rfl,show eqI 4 5=false from rfl,show eqI 4 6=false from rfl,show eqI 4 7=false from rfl,bX,bZ,wz,e1,f1,f2]
 ·simp only[bG,uU,uT,uS,wZ,wY,uR,wX,wW,wV,wU,eL,cE,bR,bK,eM,eN,aW,cH,aU,bE,aT,aR,q_9,aP,aY,kF,fS,lA,dZ,e,show eqI 5 0=false from rfl,show eqI 5 1=false from rfl,show eqI 5 2=false from rfl,show eqI 5 3=false from rfl,show eqI 5 4=false from rfl,show eqI 5 5=true from rfl,show eqI 5 6=false from rfl,show eqI 5 7=false from rfl,bX,bZ,wz,i2,s3,s4,s5,j1,j2,l1,l2,EK]
 ·simp only[bG,uU,uT,uS,wZ,wY,uR,wX,wW,wV,wU,eL,cE,bR,bK,eM,eN,aW,cH,aU,bE,aT,aR,q_9,aP,aY,kF,fS,lA,dZ,e,show eqI 6 0=false from rfl,show eqI 6 1=false from rfl,show eqI 6 2=false from rfl,show eqI 6 3=false from rfl,show eqI 6 4=false from rfl,show eqI 6 5=false from rfl,show eqI 6 6=true from rfl,show eqI 6 7=false from rfl,bX,bZ,wz,i2,s3,s4,s5,m8,w1,w2,u1,u2,WY]
 ·simp only[bG,uU,uT,uS,wZ,wY,uR,wX,wW,wV,wU,eL,cE,bR,bK,eM,eN,aW,cH,aU,bE,aT,aR,q_9,aP,aY,kF,fS,lA,dZ,e,show eqI 7 0=false from rfl,show eqI 7 1=false from rfl,show eqI 7 2=false from rfl,show eqI 7 3=false from rfl,show eqI 7 4=false from rfl,show eqI 7 5=false from rfl,show eqI 7 6=false from rfl,show eqI 7 7=true from rfl,bX,bZ,wz]
noncomputable def Y5(m:MM)(x:aN)(v:Int):MM:=
 bif eqI x.Op 16 then{CA m 2 x.Reg (cP m.r.d x.Reg*v%65536)with r:={(CA m 2 x.Reg (cP m.r.d x.Reg*v%65536)).r with fl:=eT (CA m 2 x.Reg (cP m.r.d x.Reg*v%65536)).r.fl (bif kV (cP m.r.d x.Reg*v) 65535 then 2 else 0)}}
 else bif eqI v 0 then zO m 5 else CA m 2 x.Reg (cP m.r.d x.Reg/v)
noncomputable def kC(m:MM)(x:aN):MM:=bif !bY (dN m 2 x.Ea).1 then(dN m 2 x.Ea).1 else Y5 (dN m 2 x.Ea).1 x (dN m 2 x.Ea).2.1
theorem aE6{d v:Int}(h0:0≤d)(h1:0<v)(h2:d≤65536):lZ d v=d/v∧0≤d/v∧d/v≤d:=by
 have e:=Int.tdiv_eq_ediv_of_nonneg (b:=v) h0;have p:0≤d/v:=Int.ediv_nonneg h0 (by omega)
 have q:d/v≤d:=Int.ediv_le_self _ h0;refine⟨?_,p,q⟩;unfold lZ;rw[e,IntKind.wrap_i64];omega
theorem aW4{d v:Int}(h0:0≤d)(h1:d≤65536)(h2:0≤v)(h3:v≤65535):cX d v=d*v∧0≤d*v:=by
 have a:=Int.mul_nonneg h0 h2;have b:d*v≤65536*65535:=Int.mul_le_mul h1 h3 h2 (by decide)
 exact⟨gH (by omega),a⟩
theorem bKV{t s k v:Int}{m:MM}(hm:m.Ok t)(hs:s=1∨s=2):cA (CA m s k v).r.fl 0 31=true:=(oW (v:=v) hs hm.r.fw).2
theorem aPN{t:Int}{m:MM}{x:aN}(hm:m.Ok t)(h:InsOk x):(kC m x).Ok t:=by
 obtain⟨r1,r2,r3⟩:=rT hm VW h.ho o6 o6;have rv:=rP r2;have dr:=oE r1.r.dw r1.r.d4 h.hr;have t1:=hm.r.t1;have t0:=hm.r.t0;unfold kC Y5;refine bW (P:=fun z=>MM.Ok t z) (fun _=>r1) fun _=>?_
 refine bW (P:=fun z=>MM.Ok t z) (fun _=>?_) fun _=>bW (P:=fun z=>MM.Ok t z) (fun _=>⟨r1.r,r1.b⟩) fun hv=>?_
 ·have d:=PW (v:=cP (dN m 2 x.Ea).1.r.d x.Reg*(dN m 2 x.Ea).2.1%65536) r1 VW h.hr (by omega) o6 (by omega)
  exact⟨d.r.setF (qD (bKV r1 VW) (vM (by decide))),d.b⟩
 ·rw[hJ]at hv;obtain⟨-,p,q⟩:=aE6 (v:=(dN m 2 x.Ea).2.1) dr.1 (by omega) (by omega)
  exact PW r1 VW h.hr p o6 (by omega)
theorem Y6{t:Int}{m:MM}{x:aN}(hm:m.Ok t)(h:InsOk x):bSW x m.g=true∧bAF x m.g=(kC m x).g:=by
 refine aF (t:=bAE x m.g) (P:=fun q=>q=(kC m x).g) ?_
 obtain⟨r1,r2,r3⟩:=rT hm VW h.ho o6 o6;obtain⟨a1,a2⟩:=aE2 hm VW h.ho;unfold bAE kC;generalize dN m 2 x.Ea=q at r1 r2 r3 a1 a2;obtain⟨q1,v,a⟩:=q;dsimp only at r1 r2 r3 a1 a2⊢;have rv:=rP r2;have dr:=oE r1.r.dw r1.r.d4 h.hr;have t1:=hm.r.t1;obtain⟨i1,i2,i3⟩:=jQ r1.r.d4 h.hr;obtain⟨s1,s2,s3,s4,s5⟩:=fV (v:=0) r1.r.d4 h.hr;rw[q_9]at s5;obtain⟨e1,e2⟩:=aW4 dr.1 (by omega) rv.1 rv.2
 obtain⟨b1,b2⟩:=aE3 (v:=cP q1.r.d x.Reg*v%65536) r1 VW h.hr o6;obtain⟨c1,c2⟩:=aWY q1 5;cases hf:eqI q1.f.Vector 0
 ·simp only[bG,I9,NS,I8,BN,D9,eL,cE,bR,bK,eM,eN,aW,cH,aU,bE,aT,aR,a1,a2,dZ,bY,hf,bX,bZ,wz]
 ·unfold Y5;cases ho:eqI x.Op 16
  ·cases hv:eqI v 0
   ·have hv':=hv;rw[hJ]at hv';obtain⟨d1,d2,d3⟩:=aE6 (v:=v) dr.1 (by omega) (by omega)
    obtain⟨j1,j2⟩:=aE3 (v:=cP q1.r.d x.Reg/v) r1 VW h.hr o6;have nz:cU v 0=true:=nF.2 hv';simp only[bG,I9,NS,I8,BN,D9,eL,cE,bR,bK,eM,eN,aW,cH,aU,bE,aT,aR,q_9,aP,aY,a1,a2,dZ,bY,hf,ho,hv,nz,i2,s3,s4,s5,d1,j1,j2,bX,bZ,wz]
   ·simp only[bG,I9,NS,I8,BN,D9,eL,cE,bR,bK,eM,eN,aW,cH,aU,bE,aT,aR,q_9,aP,aY,a1,a2,dZ,bY,hf,ho,hv,i2,s3,s4,s5,c1,c2,bX,bZ,wz]
  ·simp only[bG,I9,NS,I8,BN,D9,eL,cE,bR,bK,eM,eN,aW,cH,aU,bE,aT,aR,q_9,aP,aY,a1,a2,dZ,bY,hf,ho,i2,s3,s4,s5,e1,tQ,b1,b2,(fH _ _).1,(fH _ _).2,bX,bZ,wz];rfl
theorem Y7(v:Int):bJ4 v=true∧i5 v=(bif (bif cA v 0 255 then leI (eW v 4) 9 else false)then leI (aZ v 15) 9 else false):=by
 refine aF (t:=bAG v) (P:=fun q=>q=(bif (bif cA v 0 255 then leI (eW v 4) 9 else false)then leI (aZ v 15) 9 else false)) ?_
 unfold bAG;simp only[bG,p8,p9,dW,wz,bZ]
def Bcd(v:Int):Prop:=0≤v/16∧v/16≤9∧0≤v%16∧v%16≤9
theorem kU{v:Int}(h:i5 v=true):Bcd v:=by
 rw[(Y7 v).2]at h;have e1:eW v 4=v/16:=kQ (n:=4) 4 rfl (by omega)
 have e2:aZ v 15=v%16:=iZ 4 _ (by omega) (by decide)
 rw[e1,e2]at h;cases h1:cA v 0 255
 ·rw[h1]at h;simp at h
 ·cases h2:leI (v/16) 9
  ·rw[h1,h2]at h;simp at h
  ·rw[h1,h2]at h;simp only[cond_true,gZ]at h;rw[gZ]at h2;rw[aM]at h1;unfold Bcd;omega
theorem O4{v:Int}(h:Bcd v):aZ8 v=true∧K8 v=v/16*10+v%16:=by
 refine aF (t:=bAH v) (P:=fun q=>q=v/16*10+v%16) ?_
 have e1:eW v 4=v/16:=kQ (n:=4) 4 rfl (by omega)
 have e2:aZ v 15=v%16:=iZ 4 _ (by omega) (by decide)
 obtain⟨h1,h2,h3,h4⟩:=h;unfold bAH;simp only[aQ,aJ,e1,e2,true_and];rw[gH (by omega),bJ (by omega)]
theorem aPO{n:Int}(h0:0≤n)(h1:n≤99):bAI n=true∧(0≤tP n∧tP n≤255):=by
 refine aF (t:=aOW n) (P:=fun q=>0≤q∧q≤255) ?_
 have key: ∀n:Fin 100,0≤eT (nL (lZ (n.val:Int) 10) 4) (kD (n.val:Int) 10)∧eT (nL (lZ (n.val:Int) 10) 4) (kD (n.val:Int) 10)≤255:=by decide+kernel
 obtain⟨n,rfl⟩:=Int.eq_ofNat_of_zero_le h0;unfold aOW;simp only[bG,show cU 10 0=true from rfl,show leI 0 4=true from rfl,dW,wz,bZ]
 exact key ⟨n,by omega⟩
def BR(r:Int×Int):Prop:=(0≤r.1∧r.1≤255)∧WD r.2
theorem aW5{c a b:Int}(hc:WD c)(ha:Bcd a)(hb:Bcd b):bSX c a b=true∧BR (PK c a b):=by
 refine aF (t:=aOX c a b) (P:=fun q=>BR q) ?_
 obtain⟨a1,a2⟩:=O4 ha;obtain⟨b1,b2⟩:=O4 hb;obtain⟨h1,h2,h3,h4⟩:=ha;obtain⟨h5,h6,h7,h8⟩:=hb;have hc':0≤c∧c≤1:=by rcases hc with rfl|rfl<;>decide
 have e1:aV (aV (a/16*10+a%16) (b/16*10+b%16)) c=a/16*10+a%16+(b/16*10+b%16)+c:=by rw[bJ (x:=a/16*10+a%16) (by omega),bJ (by omega)]
 obtain⟨n,hn⟩: ∃n:Int,n=a/16*10+a%16+(b/16*10+b%16)+c:=⟨_,rfl⟩;rw[←hn]at e1;have n0:0≤n∧n≤199:=by omega
 have e2:kD n 100=n%100:=by unfold kD;exact Int.tmod_eq_emod_of_nonneg n0.1
 have e3:lZ n 100=n/100:=by unfold lZ;rw[Int.tdiv_eq_ediv_of_nonneg n0.1,IntKind.wrap_i64];omega
 obtain⟨o1,o2⟩:=aPO (n:=n%100) (by omega) (by omega)
 unfold aOX;simp only[bG,aEE,a1,a2,b1,b2,e1,e2,e3,o1,show cU 100 0=true from rfl,dW,wz,bZ]
 exact⟨o2,by unfold WD;dsimp only;omega⟩
theorem aW6{c a b:Int}(hc:WD c)(ha:Bcd a)(hb:Bcd b):bSY c a b=true∧BR (PL c a b):=by
 refine aF (t:=aOY c a b) (P:=fun q=>BR q) ?_
 obtain⟨a1,a2⟩:=O4 ha;obtain⟨b1,b2⟩:=O4 hb;obtain⟨h1,h2,h3,h4⟩:=ha;obtain⟨h5,h6,h7,h8⟩:=hb;have hc':0≤c∧c≤1:=by rcases hc with rfl|rfl<;>decide
 have e1:cF (cF (a/16*10+a%16) (b/16*10+b%16)) c=a/16*10+a%16-(b/16*10+b%16)-c:=by rw[eK (x:=a/16*10+a%16) (by omega),eK (by omega)]
 obtain⟨n,hn⟩: ∃n:Int,n=a/16*10+a%16-(b/16*10+b%16)-c:=⟨_,rfl⟩;rw[←hn]at e1;have n0: -100≤n∧n≤99:=by omega
 have e2:aV n 100=n+100:=bJ (by omega)
 unfold aOY;simp only[bG,aEF,a1,a2,b1,b2,e1,e2,dM,mB,dW,wz,bZ];refine⟨fun h=>?_,fun h=>?_⟩
 ·obtain⟨o1,o2⟩:=aPO (n:=n+100) (by omega) (by omega)
  exact⟨o1,o2,Or.inr rfl⟩
 ·obtain⟨o1,o2⟩:=aPO (n:=n) (by omega) (by omega)
  exact⟨o1,o2,Or.inl rfl⟩
end Go.Proofs.YtdicpjkdpliofaaGreatBoundaries

namespace Go.Proofs.YtdicpjkdpliofaaGreatBoundaries
open Go Go.Zq
set_option maxHeartbeats 4000000
set_option maxRecDepth 100000
noncomputable def CK(x:aN)(m:MM):Int×Int:=bif eqI x.Sub 1 then PL (bif cU (aZ m.r.fl 16) 0 then 1 else 0) (cP m.r.d x.Reg%256) (cP m.r.d x.Ea.Reg%256)else PK (bif cU (aZ m.r.fl 16) 0 then 1 else 0) (cP m.r.d x.Reg%256) (cP m.r.d x.Ea.Reg%256)
noncomputable def N5(m:MM)(x:aN):MM:=
 bif i5 (cP m.r.d x.Reg%256)&&i5 (cP m.r.d x.Ea.Reg%256)then
  {m with r:=zM {m.r with fl:=eT (bif eqI (CK x m).1 0 then aZ m.r.fl 4 else 0) (cX (CK x m).2 17)} 1 x.Reg (CK x m).1}
 else{m with f:={m.f with Vector:=4}}
theorem aE7{x:aN}{m:MM}(h1:i5 (cP m.r.d x.Reg%256)=true)(h2:i5 (cP m.r.d x.Ea.Reg%256)=true):BR (CK x m):=by
 unfold CK;exact bW (P:=fun z=>BR z) (fun _=>(aW6 (rS _) (kU h1) (kU h2)).2) (fun _=>(aW5 (rS _) (kU h1) (kU h2)).2)
theorem bCD{f v c:Int}(hf:cA f 0 31=true)(hc:WD c):cA (eT (bif eqI v 0 then aZ f 4 else 0) (cX c 17)) 0 31=true:=by
 refine qD ?_ ?_
 ·cases eqI v 0
  ·exact(by decide:cA 0 0 31=true)
  ·rcases fl4 hf with h|h<;>rw[h]<;>decide
 ·rcases hc with h|h<;>rw[h]<;>decide
theorem h11:(1:Int)=1∨(1:Int)=2:=Or.inl rfl
theorem bUX{t:Int}{m:MM}{x:aN}(hm:m.Ok t)(h:InsOk x):(N5 m x).Ok t:=by
 have t0:=hm.r.t0;unfold N5;refine bW (P:=fun z=>MM.Ok t z) (fun hb=>?_) (fun _=>⟨hm.r,hm.b⟩)
 rw[Bool.and_eq_true]at hb;obtain⟨⟨v0,v1⟩,v2⟩:=aE7 hb.1 hb.2;exact⟨N3 (hm.r.setF (bCD hm.r.fw v2)) h.hr v0 (fun _=>by omega) (by omega),hm.b⟩
theorem b02{t:Int}{m:MM}{x:aN}(hm:m.Ok t)(h:InsOk x):bSZ x m.g=true∧bAK x m.g=(N5 m x).g:=by
 refine aF (t:=bAJ x m.g) (P:=fun q=>q=(N5 m x).g) ?_
 obtain⟨i1,i2,i3⟩:=jQ hm.r.d4 h.hr;obtain⟨s1,s2,s3,s4,s5⟩:=fV (v:=0) hm.r.d4 h.hr;obtain⟨j1,j2,j3⟩:=jQ hm.r.d4 h.ho.hr;obtain⟨u1,u2,u3,u4,u5⟩:=fV (v:=0) hm.r.d4 h.ho.hr;rw[Nat.zero_add]at s5 u5;have dr:=oE hm.r.dw hm.r.d4 h.hr;have er:=oE hm.r.dw hm.r.d4 h.ho.hr;have t1:=hm.r.t1;have m8:aZ (cP m.r.d x.Reg) 255=cP m.r.d x.Reg%256:=zK dr.1 (by omega)
 have n8:aZ (cP m.r.d x.Ea.Reg) 255=cP m.r.d x.Ea.Reg%256:=zK er.1 (by omega)
 unfold bAJ N5;cases h1:i5 (cP m.r.d x.Reg%256)
 ·simp only[bG,NU,NT,EB,JB,JA,EA,zF,w7,eL,cE,bR,bK,eM,eN,aW,cH,aU,bE,aT,aR,Nat.zero_add,aP,aY,i2,j2,s3,s4,s5,u3,u4,u5,m8,n8,(Y7 _).1,h1,bX,Bool.false_and,bZ,wz];rfl
 ·cases h2:i5 (cP m.r.d x.Ea.Reg%256)
  ·simp only[bG,NU,NT,EB,JB,JA,EA,zF,w7,eL,cE,bR,bK,eM,eN,aW,cH,aU,bE,aT,aR,Nat.zero_add,aP,aY,i2,j2,s3,s4,s5,u3,u4,u5,m8,n8,(Y7 _).1,h1,h2,bX,Bool.and_false,bZ,wz];rfl
  ·obtain⟨⟨v0,v1⟩,v2⟩:=aE7 h1 h2;obtain⟨p1,p2⟩:=aHU (v:=(CK x m).1) (hm.r.setF (bCD (v:=(CK x m).1) hm.r.fw v2)) h11 h.hr (fun _=>by omega)
   obtain⟨a1,a2⟩:=aW5 (rS (cU (aZ m.r.fl 16) 0)) (kU h1) (kU h2);obtain⟨b1,b2⟩:=aW6 (rS (cU (aZ m.r.fl 16) 0)) (kU h1) (kU h2);cases hs:eqI x.Sub 1
   ·have hv:CK x m=PK (bif cU (aZ m.r.fl 16) 0 then 1 else 0) (cP m.r.d x.Reg%256) (cP m.r.d x.Ea.Reg%256):=by unfold CK;rw[hs];rfl
    rw[hv]at p1 p2⊢;simp only[bG,NU,NT,EB,JB,JA,EA,zF,w7,eL,cE,bR,bK,eM,eN,aW,cH,aU,bE,aT,aR,Nat.zero_add,aP,aY,fS,i2,j2,s3,s4,s5,u3,u4,u5,m8,n8,(Y7 _).1,(fH _ _).1,(fH _ _).2,h1,h2,hs,a1,b1,p1,p2,bX,bZ,wz];rfl
   ·have hv:CK x m=PL (bif cU (aZ m.r.fl 16) 0 then 1 else 0) (cP m.r.d x.Reg%256) (cP m.r.d x.Ea.Reg%256):=by unfold CK;rw[hs];rfl
    rw[hv]at p1 p2⊢;simp only[bG,NU,NT,EB,JB,JA,EA,zF,w7,eL,cE,bR,bK,eM,eN,aW,cH,aU,bE,aT,aR,Nat.zero_add,aP,aY,fS,i2,j2,s3,s4,s5,u3,u4,u5,m8,n8,(Y7 _).1,(fH _ _).1,(fH _ _).2,h1,h2,hs,a1,b1,p1,p2,bX,bZ,wz];rfl
def WZ(x:aN)(q:MM×Int):MM:=bif eqI x.Sub 1 then dV q.1 q.1.r.pc else q.1
def a0F(m:MM)(a:Int):MM:=bif bY m then{m with r:={m.r with pc:=a}}else m
noncomputable def AH(m:MM)(x:aN)(at_:Int):MM:=
 bif eqI x.Op 13 then(bif aOR (x.Sub+8*x.Reg) m.r.fl then{m with r:={m.r with pc:=(at_+2+x.Ea.Ext)%65536}}else m)
 else a0F (WZ x (kI m 2 x.Ea)) (kI m 2 x.Ea).2
theorem bKW{t:Int}{q:MM×Int}{x:aN}(hq:q.1.Ok t):(WZ x q).Ok t:=by
 have p:=aM.1 hq.r.pw;unfold WZ;exact bW (P:=fun z=>MM.Ok t z) (fun _=>aWQ hq p.1 p.2) (fun _=>hq)
theorem bKX{t a:Int}{m:MM}{x:aN}(hm:m.Ok t)(h:InsOk x):(AH m x a).Ok t:=by
 obtain⟨p1,p2⟩:=EI (s:=2) hm h.ho;have j:=bKW (x:=x) p1;unfold AH a0F;refine bW (P:=fun z=>MM.Ok t z) (fun _=>bW (P:=fun z=>MM.Ok t z) (fun _=>⟨hm.r.setP (aM.2 (by omega)),hm.b⟩) (fun _=>hm)) fun _=>?_
 exact bW (P:=fun z=>MM.Ok t z) (fun _=>⟨j.r.setP p2,j.b⟩) (fun _=>j)
theorem bCE{t a:Int}{m:MM}{x:aN}(hm:m.Ok t)(h:InsOk x)(ha:cA a 0 65535=true):bSQ x a m.g=true∧a95 x a m.g=(AH m x a).g:=by
 refine aF (t:=a94 x a m.g) (P:=fun q=>q=(AH m x a).g) ?_
 obtain⟨p1,p2⟩:=EI (s:=2) hm h.ho;obtain⟨a1,a2⟩:=aWW (s:=2) hm h.ho;have pp:=aM.1 p1.r.pw;obtain⟨b1,b2⟩:=bB4 p1 pp.1 pp.2;have hr:=aM.1 h.hr;have hb:=aM.1 h.hb;have he:=aM.1 h.ho.he;have ha':=aM.1 ha;have e1:aV x.Sub (cX 8 x.Reg)=x.Sub+8*x.Reg:=by rw[gH (by omega),bJ (by omega)]
 have e2:aZ (aV (aV a 2) x.Ea.Ext) 65535=(a+2+x.Ea.Ext)%65536:=by rw[bJ (x:=a) (by omega),bJ (by omega),tQ]
 unfold a94 AH a0F WZ;cases h13:eqI x.Op 13
 ·cases hs:eqI x.Sub 1
  ·cases hf:eqI (kI m 2 x.Ea).1.f.Vector 0
   ·simp only[bG,D8,D7,rG,D6,eL,cE,bR,bK,eM,eN,aW,cH,aU,bE,aT,aR,kF,lA,a1,a2,h13,hs,hf,bY,dZ,bX,bZ,wz]
   ·simp only[bG,D8,D7,rG,D6,eL,cE,bR,bK,eM,eN,aW,cH,aU,bE,aT,aR,kF,lA,a1,a2,h13,hs,hf,bY,dZ,bX,bZ,wz]
  ·cases hf:eqI (dV (kI m 2 x.Ea).1 (kI m 2 x.Ea).1.r.pc).f.Vector 0
   ·simp only[bG,D8,D7,rG,D6,eL,cE,bR,bK,eM,eN,aW,cH,aU,bE,aT,aR,kF,lA,a1,a2,b1,b2,h13,hs,hf,bY,dZ,bX,bZ,wz]
   ·simp only[bG,D8,D7,rG,D6,eL,cE,bR,bK,eM,eN,aW,cH,aU,bE,aT,aR,kF,lA,a1,a2,b1,b2,h13,hs,hf,bY,dZ,bX,bZ,wz]
 ·cases ht:aOR (x.Sub+8*x.Reg) m.r.fl
  ·simp only[bG,D8,D7,rG,D6,eL,cE,bR,bK,eM,eN,aW,cH,aU,bE,aT,aR,kF,lA,e1,e2,bCA,ht,h13,bX,bZ,wz]
  ·simp only[bG,D8,D7,rG,D6,eL,cE,bR,bK,eM,eN,aW,cH,aU,bE,aT,aR,kF,lA,e1,e2,bCA,ht,h13,bX,bZ,wz]
end Go.Proofs.YtdicpjkdpliofaaGreatBoundaries

namespace Go.Proofs.YtdicpjkdpliofaaGreatBoundaries
open Bool renaming and_true → qt
open Bool renaming true_eq_false → q_1
open Bool renaming false_eq_true → q_2
open Bool renaming true_or → q_3
open Bool renaming not_false → q_4
open Bool renaming not_true → q_5
open Bool renaming or_true → q_6
open Nat renaming zero_add → q_9
open Go Go.Zq
set_option maxHeartbeats 4000000
set_option maxRecDepth 100000
def Y8(q:MM×Int×Int)(x:aN):MM:=bif bY q.1 then{q.1 with r:={q.1.r with a:=q.1.r.a.set x.Reg.toNat q.2.1}}else q.1
def bKY(q:MM×Int)(x:aN):MM:={q.1 with r:={q.1.r with a:=q.1.r.a.set x.Reg.toNat q.2}}
noncomputable def b03(w:MM)(x:aN)(v:Int):MM:={w with r:={w.r with fl:=hU x.Size w.r.fl v}}
noncomputable def Y9(m:MM)(x:aN):MM:=b03 (eD (kI m x.Size x.Ea).1 x.Size x.Ea (kI m x.Size x.Ea).2 (cP m.r.d x.Reg%bS x.Size)) x (cP m.r.d x.Reg%bS x.Size)
noncomputable def shV(m:MM)(x:aN):Int×Int:=aG5 x.Sub x.Size m.r.fl (cP m.r.d x.Reg%bS x.Size) (x.Ea.Reg+1)
noncomputable def aE8(m:MM)(x:aN):MM:={m with r:=zM {m.r with fl:=(shV m x).2} x.Size x.Reg (shV m x).1}
def VX(m:MM)(x:aN):MM:=bif eqI x.Sub 0 then{m with r:=dH m.r x.Ea.Ext}else{m with r:={m.r with d:=m.r.d.set x.Reg.toNat (fG m.r)}}
noncomputable def tR(m:MM)(x:aN)(a:Int):MM:=
 bif eqI x.Op 9 then Y8 (dN m 2 x.Ea) x else bif eqI x.Op 10 then bKY (kI m 2 x.Ea) x else bif eqI x.Op 2 then Y9 m x
 else bif eqI x.Op 11 then N4 m x else bif eqI x.Op 12 then aE8 m x else bif eqI x.Op 13||eqI x.Op 14 then AH m x a
 else bif eqI x.Op 15 then EM m x else bif eqI x.Op 16||eqI x.Op 17 then kC m x else bif eqI x.Op 18 then N5 m x
 else bif eqI x.Op 19 then VX m x else B1 m x
theorem b04{x:aN}(h:x.Op=19):kB x=bif eqI x.Size 2 then(bif (bif (bif eqI x.Sub 0 then eqI x.Reg 0 else false)then VI x.Ea else false)then true else(bif eqI x.Sub 1 then VJ x.Ea else false))else false:=by
 unfold kB;rw[h];rfl
theorem ZA{x:aN}(h:InsOk x)(h2:x.Op=19)(e:x.Sub=0):cA x.Ea.Ext 0 1023=true:=by
 have hk:=h.kb;have he:=aM.1 h.ho.he;rw[b04 h2,e]at hk;simp only[show eqI 0 0=true from rfl,show eqI 0 1=false from rfl,cond_true,cond_false]at hk
 cases e1:eqI x.Size 2
 ·rw[e1]at hk;simp at hk
 ·cases e2:eqI x.Reg 0
  ·rw[e1,e2]at hk;simp at hk
  ·rw[e1,e2]at hk;unfold VI at hk;cases e3:eqI x.Ea.Mode 7
   ·rw[e3]at hk;simp at hk
   ·rw[e3]at hk;cases e4:leI x.Ea.Ext 1023
    ·rw[e4]at hk;simp at hk
    ·rw[gZ]at e4;exact aM.2 ⟨he.1,e4⟩
theorem bCF{t:Int}{m:MM}{x:aN}(hm:m.Ok t)(h:InsOk x):bJW x.Sub x.Size m.r.fl (cP m.r.d x.Reg%bS x.Size) (x.Ea.Reg+1)=true∧Sh x.Size (shV m x):=by
 have hr:=aM.1 h.ho.hr;exact b0W h.hs (iE h.hs) hm.r.fw (by omega) (by omega)
theorem bMT{t a:Int}{m:MM}{x:aN}(hm:m.Ok t)(h:InsOk x):(tR m x a).Ok t:=by
 have t0:=hm.r.t0;obtain⟨r1,r2,r3⟩:=rT hm VW h.ho o6 o6;have rv:=rP r2;obtain⟨p1,p2⟩:=EI (s:=2) hm h.ho;obtain⟨q1,q2⟩:=EI (s:=x.Size) hm h.ho;have pv:=aM.1 p2;obtain⟨-,s1,s2⟩:=bCF hm h;have ls:=kE h.hs s1;have st:=VT hm.r;have hop:=h.op;unfold tR;refine bW (P:=fun z=>MM.Ok t z) (fun _=>by unfold Y8;exact bW (P:=fun z=>MM.Ok t z) (fun _=>⟨r1.r.setA rv.1 rv.2,r1.b⟩) (fun _=>r1)) fun e9=>?_
 refine bW (P:=fun z=>MM.Ok t z) (fun _=>⟨p1.r.setA pv.1 pv.2,p1.b⟩) fun e10=>?_
 refine bW (P:=fun z=>MM.Ok t z) (fun _=>by
  have w:=AG q1 h.hs h.ho q2 (iE (v:=cP m.r.d x.Reg) h.hs);exact⟨w.r.setF (oW h.hs w.r.fw).2,w.b⟩) fun e2=>?_
 refine bW (P:=fun z=>MM.Ok t z) (fun e=>bUU hm h (dL.1 e)) fun e11=>?_
 refine bW (P:=fun z=>MM.Ok t z) (fun _=>⟨N3 (hm.r.setF s2) h.hr ls.1 (fun e=>by have:=ls.2.2 e;omega) (by omega),hm.b⟩) fun e12=>?_
 refine bW (P:=fun z=>MM.Ok t z) (fun _=>bKX hm h) fun e13=>?_
 refine bW (P:=fun z=>MM.Ok t z) (fun _=>bKU hm h) fun e15=>?_
 refine bW (P:=fun z=>MM.Ok t z) (fun _=>aPN hm h) fun e16=>?_
 refine bW (P:=fun z=>MM.Ok t z) (fun _=>bUX hm h) fun e18=>?_
 refine bW (P:=fun z=>MM.Ok t z) (fun _=>by unfold VX;exact bW (P:=fun z=>MM.Ok t z) (fun _=>⟨GC hm.r,hm.b⟩) (fun _=>⟨hm.r.setD st.1 (by omega),hm.b⟩)) fun e19=>?_
 rw[Bool.or_eq_false_iff]at e13 e16;rw[hJ]at e9 e10 e2 e11 e12 e15 e18 e19;have a1:=hJ.1 e13.1;have a2:=hJ.1 e13.2;have a3:=hJ.1 e16.1;have a4:=hJ.1 e16.2;exact bUT hm h (by unfold qO;omega)
theorem cDC{t a:Int}{m:MM}{x:aN}(hm:m.Ok t)(h:InsOk x)(ha:cA a 0 65535=true):bJ6 x a m.g=true∧bJ5 x a m.g=(tR m x a).g:=by
 refine aF (t:=bAO x a m.g) (P:=fun q=>q=(tR m x a).g) ?_
 have hop:=h.op;have hop2:x.Op=1∨x.Op=2∨x.Op=3∨x.Op=4∨x.Op=5∨x.Op=6∨x.Op=7∨x.Op=8∨x.Op=9∨x.Op=10∨x.Op=11∨x.Op=12∨x.Op=13∨x.Op=14∨x.Op=15∨x.Op=16∨x.Op=17∨x.Op=18∨x.Op=19:=by omega
 obtain⟨i1,i2,i3⟩:=jQ hm.r.d4 h.hr;obtain⟨s1,s2,s3,s4,s5⟩:=fV (v:=0) hm.r.d4 h.hr;rw[q_9]at s1 s2 s5;unfold bAO;rcases hop2 with e|e|e|e|e|e|e|e|e|e|e|e|e|e|e|e|e|e|e
 ·have hd:tR m x a=B1 m x:=by unfold tR;rw[e];rfl
  rw[hd];obtain⟨a1,a2⟩:=VS hm h (by unfold qO;omega)
  simp only[aQ,cB,aJ,fR,fQ,fP,fO,iT,hZ,iS,gO,gN,iR,iQ,iP,iO,iM,eL,cE,bR,bK,eM,eN,aW,cH,aU,bE,aT,aR,q_9,aP,aY,e,show eqI 1 1=true from rfl,show eqI 1 2=false from rfl,show eqI 1 3=false from rfl,show eqI 1 4=false from rfl,show eqI 1 5=false from rfl,show eqI 1 6=false from rfl,show eqI 1 7=false from rfl,show eqI 1 8=false from rfl,show eqI 1 9=false from rfl,show eqI 1 10=false from rfl,show eqI 1 11=false from rfl,show eqI 1 12=false from rfl,show eqI 1 13=false from rfl,show eqI 1 14=false from rfl,show eqI 1 15=false from rfl,show eqI 1 16=false from rfl,show eqI 1 17=false from rfl,show eqI 1 18=false from rfl,show eqI 1 19=false from rfl,q_5,q_4,cond_true,cond_false,dS,mG,wz,hH,pH,eV,pI,qt,q_3,q_6,true_and,forall_const,q_1,q_2,false_implies,and_true,implies_true,a1,a2]
 ·have hd:tR m x a=Y9 m x:=by unfold tR;rw[e];rfl
  rw[hd];obtain⟨l1,l2⟩:=aWS hm.r h.hs h.hr;obtain⟨p1,p2⟩:=aWW (s:=x.Size) hm h.ho;obtain⟨q1,q2⟩:=EI (s:=x.Size) hm h.ho;have hd:=iE (s:=x.Size) (v:=cP m.r.d x.Reg) h.hs;obtain⟨w1,w2⟩:=aWX q1 h.hs h.ho q2 hd;have w3:=AG q1 h.hs h.ho q2 hd;have lg:=(oW (v:=cP m.r.d x.Reg%bS x.Size) h.hs w3.r.fw).1;simp only[aQ,cB,aJ,fR,fQ,fP,fO,iT,hZ,iS,gO,gN,iR,iQ,iP,iO,iM,eL,cE,bR,bK,eM,eN,aW,cH,aU,bE,aT,aR,q_9,aP,aY,e,show eqI 2 1=false from rfl,show eqI 2 2=true from rfl,show eqI 2 3=false from rfl,show eqI 2 4=false from rfl,show eqI 2 5=false from rfl,show eqI 2 6=false from rfl,show eqI 2 7=false from rfl,show eqI 2 8=false from rfl,show eqI 2 9=false from rfl,show eqI 2 10=false from rfl,show eqI 2 11=false from rfl,show eqI 2 12=false from rfl,show eqI 2 13=false from rfl,show eqI 2 14=false from rfl,show eqI 2 15=false from rfl,show eqI 2 16=false from rfl,show eqI 2 17=false from rfl,show eqI 2 18=false from rfl,show eqI 2 19=false from rfl,q_5,q_4,cond_true,cond_false,dS,mG,wz,hH,pH,eV,pI,qt,q_3,q_6,true_and,forall_const,q_1,q_2,false_implies,and_true,implies_true,l1,l2,p1,p2,w1,w2,lg]
  rfl
 ·have hd:tR m x a=B1 m x:=by unfold tR;rw[e];rfl
  rw[hd];obtain⟨a1,a2⟩:=VS hm h (by unfold qO;omega)
  simp only[aQ,cB,aJ,fR,fQ,fP,fO,iT,hZ,iS,gO,gN,iR,iQ,iP,iO,iM,eL,cE,bR,bK,eM,eN,aW,cH,aU,bE,aT,aR,q_9,aP,aY,e,show eqI 3 1=false from rfl,show eqI 3 2=false from rfl,show eqI 3 3=true from rfl,show eqI 3 4=false from rfl,show eqI 3 5=false from rfl,show eqI 3 6=false from rfl,show eqI 3 7=false from rfl,show eqI 3 8=false from rfl,show eqI 3 9=false from rfl,show eqI 3 10=false from rfl,show eqI 3 11=false from rfl,show eqI 3 12=false from rfl,show eqI 3 13=false from rfl,show eqI 3 14=false from rfl,show eqI 3 15=false from rfl,show eqI 3 16=false from rfl,show eqI 3 17=false from rfl,show eqI 3 18=false from rfl,show eqI 3 19=false from rfl,q_5,q_4,cond_true,cond_false,dS,mG,wz,hH,pH,eV,pI,qt,q_3,q_6,true_and,forall_const,q_1,q_2,false_implies,and_true,implies_true,a1,a2]
 ·have hd:tR m x a=B1 m x:=by unfold tR;rw[e];rfl
  rw[hd];obtain⟨a1,a2⟩:=VS hm h (by unfold qO;omega)
  simp only[aQ,cB,aJ,fR,fQ,fP,fO,iT,hZ,iS,gO,gN,iR,iQ,iP,iO,iM,eL,cE,bR,bK,eM,eN,aW,cH,aU,bE,aT,aR,q_9,aP,aY,e,show eqI 4 1=false from rfl,show eqI 4 2=false from rfl,show eqI 4 3=false from rfl,show eqI 4 4=true from rfl,show eqI 4 5=false from rfl,show eqI 4 6=false from rfl,show eqI 4 7=false from rfl,show eqI 4 8=false from rfl,show eqI 4 9=false from rfl,show eqI 4 10=false from rfl,show eqI 4 11=false from rfl,show eqI 4 12=false from rfl,show eqI 4 13=false from rfl,show eqI 4 14=false from rfl,show eqI 4 15=false from rfl,show eqI 4 16=false from rfl,show eqI 4 17=false from rfl,show eqI 4 18=false from rfl,show eqI 4 19=false from rfl,q_5,q_4,cond_true,cond_false,dS,mG,wz,hH,pH,eV,pI,qt,q_3,q_6,true_and,forall_const,q_1,q_2,false_implies,and_true,implies_true,a1,a2]
 ·have hd:tR m x a=B1 m x:=by unfold tR;rw[e];rfl
  rw[hd];obtain⟨a1,a2⟩:=VS hm h (by unfold qO;omega)
  simp only[aQ,cB,aJ,fR,fQ,fP,fO,iT,hZ,iS,gO,gN,iR,iQ,iP,iO,iM,eL,cE,bR,bK,eM,eN,aW,cH,aU,bE,aT,aR,q_9,aP,aY,e,show eqI 5 1=false from rfl,show eqI 5 2=false from rfl,show eqI 5 3=false from rfl,show eqI 5 4=false from rfl,show eqI 5 5=true from rfl,show eqI 5 6=false from rfl,show eqI 5 7=false from rfl,show eqI 5 8=false from rfl,show eqI 5 9=false from rfl,show eqI 5 10=false from rfl,show eqI 5 11=false from rfl,show eqI 5 12=false from rfl,show eqI 5 13=false from rfl,show eqI 5 14=false from rfl,show eqI 5 15=false from rfl,show eqI 5 16=false from rfl,show eqI 5 17=false from rfl,show eqI 5 18=false from rfl,show eqI 5 19=false from rfl,q_5,q_4,cond_true,cond_false,dS,mG,wz,hH,pH,eV,pI,qt,q_3,q_6,true_and,forall_const,q_1,q_2,false_implies,and_true,implies_true,a1,a2]
 ·have hd:tR m x a=B1 m x:=by unfold tR;rw[e];rfl
  rw[hd];obtain⟨a1,a2⟩:=VS hm h (by unfold qO;omega)
  simp only[aQ,cB,aJ,fR,fQ,fP,fO,iT,hZ,iS,gO,gN,iR,iQ,iP,iO,iM,eL,cE,bR,bK,eM,eN,aW,cH,aU,bE,aT,aR,q_9,aP,aY,e,show eqI 6 1=false from rfl,show eqI 6 2=false from rfl,show eqI 6 3=false from rfl,show eqI 6 4=false from rfl,show eqI 6 5=false from rfl,show eqI 6 6=true from rfl,show eqI 6 7=false from rfl,show eqI 6 8=false from rfl,show eqI 6 9=false from rfl,show eqI 6 10=false from rfl,show eqI 6 11=false from rfl,show eqI 6 12=false from rfl,show eqI 6 13=false from rfl,show eqI 6 14=false from rfl,show eqI 6 15=false from rfl,show eqI 6 16=false from rfl,show eqI 6 17=false from rfl,show eqI 6 18=false from rfl,show eqI 6 19=false from rfl,q_5,q_4,cond_true,cond_false,dS,mG,wz,hH,pH,eV,pI,qt,q_3,q_6,true_and,forall_const,q_1,q_2,false_implies,and_true,implies_true,a1,a2]
 ·have hd:tR m x a=B1 m x:=by unfold tR;rw[e];rfl
  rw[hd];obtain⟨a1,a2⟩:=VS hm h (by unfold qO;omega)
  simp only[aQ,cB,aJ,fR,fQ,fP,fO,iT,hZ,iS,gO,gN,iR,iQ,iP,iO,iM,eL,cE,bR,bK,eM,eN,aW,cH,aU,bE,aT,aR,q_9,aP,aY,e,show eqI 7 1=false from rfl,show eqI 7 2=false from rfl,show eqI 7 3=false from rfl,show eqI 7 4=false from rfl,show eqI 7 5=false from rfl,show eqI 7 6=false from rfl,show eqI 7 7=true from rfl,show eqI 7 8=false from rfl,show eqI 7 9=false from rfl,show eqI 7 10=false from rfl,show eqI 7 11=false from rfl,show eqI 7 12=false from rfl,show eqI 7 13=false from rfl,show eqI 7 14=false from rfl,show eqI 7 15=false from rfl,show eqI 7 16=false from rfl,show eqI 7 17=false from rfl,show eqI 7 18=false from rfl,show eqI 7 19=false from rfl,q_5,q_4,cond_true,cond_false,dS,mG,wz,hH,pH,eV,pI,qt,q_3,q_6,true_and,forall_const,q_1,q_2,false_implies,and_true,implies_true,a1,a2]
 ·have hd:tR m x a=B1 m x:=by unfold tR;rw[e];rfl
  rw[hd];obtain⟨a1,a2⟩:=VS hm h (by unfold qO;omega)
  simp only[aQ,cB,aJ,fR,fQ,fP,fO,iT,hZ,iS,gO,gN,iR,iQ,iP,iO,iM,eL,cE,bR,bK,eM,eN,aW,cH,aU,bE,aT,aR,q_9,aP,aY,e,show eqI 8 1=false from rfl,show eqI 8 2=false from rfl,show eqI 8 3=false from rfl,show eqI 8 4=false from rfl,show eqI 8 5=false from rfl,show eqI 8 6=false from rfl,show eqI 8 7=false from rfl,show eqI 8 8=true from rfl,show eqI 8 9=false from rfl,show eqI 8 10=false from rfl,show eqI 8 11=false from rfl,show eqI 8 12=false from rfl,show eqI 8 13=false from rfl,show eqI 8 14=false from rfl,show eqI 8 15=false from rfl,show eqI 8 16=false from rfl,show eqI 8 17=false from rfl,show eqI 8 18=false from rfl,show eqI 8 19=false from rfl,q_5,q_4,cond_true,cond_false,dS,mG,wz,hH,pH,eV,pI,qt,q_3,q_6,true_and,forall_const,q_1,q_2,false_implies,and_true,implies_true,a1,a2]
 ·have hd:tR m x a=Y8 (dN m 2 x.Ea) x:=by unfold tR;rw[e];rfl
  rw[hd];obtain⟨a1,a2⟩:=aE2 hm VW h.ho;obtain⟨r1,r2,r3⟩:=rT hm VW h.ho o6 o6;obtain⟨u1,u2,u3,u4,u5⟩:=fV (v:=0) r1.r.a4 h.hr;rw[q_9]at u1 u2 u5;unfold Y8 bY;cases hf:eqI (dN m 2 x.Ea).1.f.Vector 0
  ·simp only[aQ,cB,aJ,fR,fQ,fP,fO,iT,hZ,iS,gO,gN,iR,iQ,iP,iO,iM,eL,cE,bR,bK,eM,eN,aW,cH,aU,bE,aT,aR,q_9,aP,aY,e,show eqI 9 1=false from rfl,show eqI 9 2=false from rfl,show eqI 9 3=false from rfl,show eqI 9 4=false from rfl,show eqI 9 5=false from rfl,show eqI 9 6=false from rfl,show eqI 9 7=false from rfl,show eqI 9 8=false from rfl,show eqI 9 9=true from rfl,show eqI 9 10=false from rfl,show eqI 9 11=false from rfl,show eqI 9 12=false from rfl,show eqI 9 13=false from rfl,show eqI 9 14=false from rfl,show eqI 9 15=false from rfl,show eqI 9 16=false from rfl,show eqI 9 17=false from rfl,show eqI 9 18=false from rfl,show eqI 9 19=false from rfl,q_5,q_4,cond_true,cond_false,dS,mG,wz,hH,pH,eV,pI,qt,q_3,q_6,true_and,forall_const,q_1,q_2,false_implies,and_true,implies_true,a1,a2,dZ,hf]
  ·simp only[aQ,cB,aJ,fR,fQ,fP,fO,iT,hZ,iS,gO,gN,iR,iQ,iP,iO,iM,eL,cE,bR,bK,eM,eN,aW,cH,aU,bE,aT,aR,q_9,aP,aY,e,show eqI 9 1=false from rfl,show eqI 9 2=false from rfl,show eqI 9 3=false from rfl,show eqI 9 4=false from rfl,show eqI 9 5=false from rfl,show eqI 9 6=false from rfl,show eqI 9 7=false from rfl,show eqI 9 8=false from rfl,show eqI 9 9=true from rfl,show eqI 9 10=false from rfl,show eqI 9 11=false from rfl,show eqI 9 12=false from rfl,show eqI 9 13=false from rfl,show eqI 9 14=false from rfl,show eqI 9 15=false from rfl,show eqI 9 16=false from rfl,show eqI 9 17=false from rfl,show eqI 9 18=false from rfl,show eqI 9 19=false from rfl,q_5,q_4,cond_true,cond_false,dS,mG,wz,hH,pH,eV,pI,qt,q_3,q_6,true_and,forall_const,q_1,q_2,false_implies,and_true,implies_true,a1,a2,dZ,hf,u1,u2,u3,u4,dT,List.length_set]
   rfl
 ·have hd:tR m x a=bKY (kI m 2 x.Ea) x:=by unfold tR;rw[e];rfl
  rw[hd];obtain⟨a1,a2⟩:=aWW (s:=2) hm h.ho;obtain⟨r1,r2⟩:=EI (s:=2) hm h.ho;obtain⟨u1,u2,u3,u4,u5⟩:=fV (v:=0) r1.r.a4 h.hr;rw[q_9]at u1 u2 u5;unfold bKY;simp only[aQ,cB,aJ,fR,fQ,fP,fO,iT,hZ,iS,gO,gN,iR,iQ,iP,iO,iM,eL,cE,bR,bK,eM,eN,aW,cH,aU,bE,aT,aR,q_9,aP,aY,e,show eqI 10 1=false from rfl,show eqI 10 2=false from rfl,show eqI 10 3=false from rfl,show eqI 10 4=false from rfl,show eqI 10 5=false from rfl,show eqI 10 6=false from rfl,show eqI 10 7=false from rfl,show eqI 10 8=false from rfl,show eqI 10 9=false from rfl,show eqI 10 10=true from rfl,show eqI 10 11=false from rfl,show eqI 10 12=false from rfl,show eqI 10 13=false from rfl,show eqI 10 14=false from rfl,show eqI 10 15=false from rfl,show eqI 10 16=false from rfl,show eqI 10 17=false from rfl,show eqI 10 18=false from rfl,show eqI 10 19=false from rfl,q_5,q_4,cond_true,cond_false,dS,mG,wz,hH,pH,eV,pI,qt,q_3,q_6,true_and,forall_const,q_1,q_2,false_implies,and_true,implies_true,a1,a2,u1,u2,u3,u4,dT,List.length_set]
  rfl
 ·have hd:tR m x a=N4 m x:=by unfold tR;rw[e];rfl
  rw[hd];obtain⟨a1,a2⟩:=b00 hm h e;simp only[aQ,cB,aJ,fR,fQ,fP,fO,iT,hZ,iS,gO,gN,iR,iQ,iP,iO,iM,eL,cE,bR,bK,eM,eN,aW,cH,aU,bE,aT,aR,q_9,aP,aY,e,show eqI 11 1=false from rfl,show eqI 11 2=false from rfl,show eqI 11 3=false from rfl,show eqI 11 4=false from rfl,show eqI 11 5=false from rfl,show eqI 11 6=false from rfl,show eqI 11 7=false from rfl,show eqI 11 8=false from rfl,show eqI 11 9=false from rfl,show eqI 11 10=false from rfl,show eqI 11 11=true from rfl,show eqI 11 12=false from rfl,show eqI 11 13=false from rfl,show eqI 11 14=false from rfl,show eqI 11 15=false from rfl,show eqI 11 16=false from rfl,show eqI 11 17=false from rfl,show eqI 11 18=false from rfl,show eqI 11 19=false from rfl,q_5,q_4,cond_true,cond_false,dS,mG,wz,hH,pH,eV,pI,qt,q_3,q_6,true_and,forall_const,q_1,q_2,false_implies,and_true,implies_true,a1,a2]
 ·have hd:tR m x a=aE8 m x:=by unfold tR;rw[e];rfl
  rw[hd];obtain⟨l1,l2⟩:=aWS hm.r h.hs h.hr;obtain⟨k1,k2,k3⟩:=bCF hm h;have er:=aM.1 h.ho.hr;have e1:aV x.Ea.Reg 1=x.Ea.Reg+1:=bJ (by omega)
  have ls:=kE h.hs k2;obtain⟨p1,p2⟩:=aHU (v:=(shV m x).1) (hm.r.setF k3) h.hs h.hr (fun e=>by have:=ls.2.2 e;omega)
  unfold aE8;unfold shV at p1 p2⊢;simp only[aQ,cB,aJ,fR,fQ,fP,fO,iT,hZ,iS,gO,gN,iR,iQ,iP,iO,iM,eL,cE,bR,bK,eM,eN,aW,cH,aU,bE,aT,aR,q_9,aP,aY,e,show eqI 12 1=false from rfl,show eqI 12 2=false from rfl,show eqI 12 3=false from rfl,show eqI 12 4=false from rfl,show eqI 12 5=false from rfl,show eqI 12 6=false from rfl,show eqI 12 7=false from rfl,show eqI 12 8=false from rfl,show eqI 12 9=false from rfl,show eqI 12 10=false from rfl,show eqI 12 11=false from rfl,show eqI 12 12=true from rfl,show eqI 12 13=false from rfl,show eqI 12 14=false from rfl,show eqI 12 15=false from rfl,show eqI 12 16=false from rfl,show eqI 12 17=false from rfl,show eqI 12 18=false from rfl,show eqI 12 19=false from rfl,q_5,q_4,cond_true,cond_false,dS,mG,wz,hH,pH,eV,pI,qt,q_3,q_6,true_and,forall_const,q_1,q_2,false_implies,and_true,implies_true,fS,e1,l1,l2,k1,p1,p2]
  rfl
 ·have hd:tR m x a=AH m x a:=by unfold tR;rw[e];rfl
  rw[hd];obtain⟨a1,a2⟩:=bCE hm h ha;simp only[aQ,cB,aJ,fR,fQ,fP,fO,iT,hZ,iS,gO,gN,iR,iQ,iP,iO,iM,eL,cE,bR,bK,eM,eN,aW,cH,aU,bE,aT,aR,q_9,aP,aY,e,show eqI 13 1=false from rfl,show eqI 13 2=false from rfl,show eqI 13 3=false from rfl,show eqI 13 4=false from rfl,show eqI 13 5=false from rfl,show eqI 13 6=false from rfl,show eqI 13 7=false from rfl,show eqI 13 8=false from rfl,show eqI 13 9=false from rfl,show eqI 13 10=false from rfl,show eqI 13 11=false from rfl,show eqI 13 12=false from rfl,show eqI 13 13=true from rfl,show eqI 13 14=false from rfl,show eqI 13 15=false from rfl,show eqI 13 16=false from rfl,show eqI 13 17=false from rfl,show eqI 13 18=false from rfl,show eqI 13 19=false from rfl,q_5,q_4,cond_true,cond_false,dS,mG,wz,hH,pH,eV,pI,qt,q_3,q_6,true_and,forall_const,q_1,q_2,false_implies,and_true,implies_true,a1,a2]
 ·have hd:tR m x a=AH m x a:=by unfold tR;rw[e];rfl
  rw[hd];obtain⟨a1,a2⟩:=bCE hm h ha;simp only[aQ,cB,aJ,fR,fQ,fP,fO,iT,hZ,iS,gO,gN,iR,iQ,iP,iO,iM,eL,cE,bR,bK,eM,eN,aW,cH,aU,bE,aT,aR,q_9,aP,aY,e,show eqI 14 1=false from rfl,show eqI 14 2=false from rfl,show eqI 14 3=false from rfl,show eqI 14 4=false from rfl,show eqI 14 5=false from rfl,show eqI 14 6=false from rfl,show eqI 14 7=false from rfl,show eqI 14 8=false from rfl,show eqI 14 9=false from rfl,show eqI 14 10=false from rfl,show eqI 14 11=false from rfl,show eqI 14 12=false from rfl,show eqI 14 13=false from rfl,show eqI 14 14=true from rfl,show eqI 14 15=false from rfl,show eqI 14 16=false from rfl,show eqI 14 17=false from rfl,show eqI 14 18=false from rfl,show eqI 14 19=false from rfl,q_5,q_4,cond_true,cond_false,dS,mG,wz,hH,pH,eV,pI,qt,q_3,q_6,true_and,forall_const,q_1,q_2,false_implies,and_true,implies_true,a1,a2]
 ·have hd:tR m x a=EM m x:=by unfold tR;rw[e];rfl
  rw[hd];obtain⟨a1,a2⟩:=bUW hm h e;simp only[aQ,cB,aJ,fR,fQ,fP,fO,iT,hZ,iS,gO,gN,iR,iQ,iP,iO,iM,eL,cE,bR,bK,eM,eN,aW,cH,aU,bE,aT,aR,q_9,aP,aY,e,show eqI 15 1=false from rfl,show eqI 15 2=false from rfl,show eqI 15 3=false from rfl,show eqI 15 4=false from rfl,show eqI 15 5=false from rfl,show eqI 15 6=false from rfl,show eqI 15 7=false from rfl,show eqI 15 8=false from rfl,show eqI 15 9=false from rfl,show eqI 15 10=false from rfl,show eqI 15 11=false from rfl,show eqI 15 12=false from rfl,show eqI 15 13=false from rfl,show eqI 15 14=false from rfl,show eqI 15 15=true from rfl,show eqI 15 16=false from rfl,show eqI 15 17=false from rfl,show eqI 15 18=false from rfl,show eqI 15 19=false from rfl,q_5,q_4,cond_true,cond_false,dS,mG,wz,hH,pH,eV,pI,qt,q_3,q_6,true_and,forall_const,q_1,q_2,false_implies,and_true,implies_true,a1,a2]
 ·have hd:tR m x a=kC m x:=by unfold tR;rw[e];rfl
  rw[hd];obtain⟨a1,a2⟩:=Y6 hm h;simp only[aQ,cB,aJ,fR,fQ,fP,fO,iT,hZ,iS,gO,gN,iR,iQ,iP,iO,iM,eL,cE,bR,bK,eM,eN,aW,cH,aU,bE,aT,aR,q_9,aP,aY,e,show eqI 16 1=false from rfl,show eqI 16 2=false from rfl,show eqI 16 3=false from rfl,show eqI 16 4=false from rfl,show eqI 16 5=false from rfl,show eqI 16 6=false from rfl,show eqI 16 7=false from rfl,show eqI 16 8=false from rfl,show eqI 16 9=false from rfl,show eqI 16 10=false from rfl,show eqI 16 11=false from rfl,show eqI 16 12=false from rfl,show eqI 16 13=false from rfl,show eqI 16 14=false from rfl,show eqI 16 15=false from rfl,show eqI 16 16=true from rfl,show eqI 16 17=false from rfl,show eqI 16 18=false from rfl,show eqI 16 19=false from rfl,q_5,q_4,cond_true,cond_false,dS,mG,wz,hH,pH,eV,pI,qt,q_3,q_6,true_and,forall_const,q_1,q_2,false_implies,and_true,implies_true,a1,a2]
 ·have hd:tR m x a=kC m x:=by unfold tR;rw[e];rfl
  rw[hd];obtain⟨a1,a2⟩:=Y6 hm h;simp only[aQ,cB,aJ,fR,fQ,fP,fO,iT,hZ,iS,gO,gN,iR,iQ,iP,iO,iM,eL,cE,bR,bK,eM,eN,aW,cH,aU,bE,aT,aR,q_9,aP,aY,e,show eqI 17 1=false from rfl,show eqI 17 2=false from rfl,show eqI 17 3=false from rfl,show eqI 17 4=false from rfl,show eqI 17 5=false from rfl,show eqI 17 6=false from rfl,show eqI 17 7=false from rfl,show eqI 17 8=false from rfl,show eqI 17 9=false from rfl,show eqI 17 10=false from rfl,show eqI 17 11=false from rfl,show eqI 17 12=false from rfl,show eqI 17 13=false from rfl,show eqI 17 14=false from rfl,show eqI 17 15=false from rfl,show eqI 17 16=false from rfl,show eqI 17 17=true from rfl,show eqI 17 18=false from rfl,show eqI 17 19=false from rfl,q_5,q_4,cond_true,cond_false,dS,mG,wz,hH,pH,eV,pI,qt,q_3,q_6,true_and,forall_const,q_1,q_2,false_implies,and_true,implies_true,a1,a2]
 ·have hd:tR m x a=N5 m x:=by unfold tR;rw[e];rfl
  rw[hd];obtain⟨a1,a2⟩:=b02 hm h;simp only[aQ,cB,aJ,fR,fQ,fP,fO,iT,hZ,iS,gO,gN,iR,iQ,iP,iO,iM,eL,cE,bR,bK,eM,eN,aW,cH,aU,bE,aT,aR,q_9,aP,aY,e,show eqI 18 1=false from rfl,show eqI 18 2=false from rfl,show eqI 18 3=false from rfl,show eqI 18 4=false from rfl,show eqI 18 5=false from rfl,show eqI 18 6=false from rfl,show eqI 18 7=false from rfl,show eqI 18 8=false from rfl,show eqI 18 9=false from rfl,show eqI 18 10=false from rfl,show eqI 18 11=false from rfl,show eqI 18 12=false from rfl,show eqI 18 13=false from rfl,show eqI 18 14=false from rfl,show eqI 18 15=false from rfl,show eqI 18 16=false from rfl,show eqI 18 17=false from rfl,show eqI 18 18=true from rfl,show eqI 18 19=false from rfl,q_5,q_4,cond_true,cond_false,dS,mG,wz,hH,pH,eV,pI,qt,q_3,q_6,true_and,forall_const,q_1,q_2,false_implies,and_true,implies_true,a1,a2]
 ·have hd:tR m x a=VX m x:=by unfold tR;rw[e];rfl
  rw[hd];unfold VX;cases hs:eqI x.Sub 0
  ·obtain⟨a1,a2⟩:=aHW hm.r;simp only[aQ,cB,aJ,fR,fQ,fP,fO,iT,hZ,iS,gO,gN,iR,iQ,iP,iO,iM,eL,cE,bR,bK,eM,eN,aW,cH,aU,bE,aT,aR,q_9,aP,aY,e,show eqI 19 1=false from rfl,show eqI 19 2=false from rfl,show eqI 19 3=false from rfl,show eqI 19 4=false from rfl,show eqI 19 5=false from rfl,show eqI 19 6=false from rfl,show eqI 19 7=false from rfl,show eqI 19 8=false from rfl,show eqI 19 9=false from rfl,show eqI 19 10=false from rfl,show eqI 19 11=false from rfl,show eqI 19 12=false from rfl,show eqI 19 13=false from rfl,show eqI 19 14=false from rfl,show eqI 19 15=false from rfl,show eqI 19 16=false from rfl,show eqI 19 17=false from rfl,show eqI 19 18=false from rfl,show eqI 19 19=true from rfl,q_5,q_4,cond_true,cond_false,dS,mG,wz,hH,pH,eV,pI,qt,q_3,q_6,true_and,forall_const,q_1,q_2,false_implies,and_true,implies_true,hs,a1,a2,s1,s2,s3,s4,dT,List.length_set]
   rfl
  ·obtain⟨a1,a2⟩:=aE4 hm.r (ZA h e (dL.1 hs));simp only[aQ,cB,aJ,fR,fQ,fP,fO,iT,hZ,iS,gO,gN,iR,iQ,iP,iO,iM,eL,cE,bR,bK,eM,eN,aW,cH,aU,bE,aT,aR,q_9,aP,aY,e,show eqI 19 1=false from rfl,show eqI 19 2=false from rfl,show eqI 19 3=false from rfl,show eqI 19 4=false from rfl,show eqI 19 5=false from rfl,show eqI 19 6=false from rfl,show eqI 19 7=false from rfl,show eqI 19 8=false from rfl,show eqI 19 9=false from rfl,show eqI 19 10=false from rfl,show eqI 19 11=false from rfl,show eqI 19 12=false from rfl,show eqI 19 13=false from rfl,show eqI 19 14=false from rfl,show eqI 19 15=false from rfl,show eqI 19 16=false from rfl,show eqI 19 17=false from rfl,show eqI 19 18=false from rfl,show eqI 19 19=true from rfl,q_5,q_4,cond_true,cond_false,dS,mG,wz,hH,pH,eV,pI,qt,q_3,q_6,true_and,forall_const,q_1,q_2,false_implies,and_true,implies_true,hs,a1,a2]
   rfl
def vB(x:aN):Bool:=bif (bif eqI x.Op 15 then(bif eqI x.Sub 1 then true else eqI x.Sub 3)else false)then true else(bif eqI x.Op 19 then eqI x.Sub 0 else false)
theorem EN(x:aN):bSD x=true∧bSC x=vB x:=by
 refine aF (t:=a9K x) (P:=fun q=>q=vB x) ?_
 unfold a9K vB;simp only[aQ,aJ,dS,mG,wz,hH,pH,eV,pI,qt,q_3,q_6,true_and]
def a0G(t:Int)(z:MM×aN×Int):Prop:=z.1.Ok t∧(bY z.1=true→kZ z.2.1=true∧(z.2.2=1∨z.2.2=2))
theorem G5{b:Bool}(h:(!b)=true):b=false:=by cases b<;>simp at h⊢
theorem G6{b:Bool}(h:(!b)=false):b=true:=by cases b<;>simp at h⊢
theorem aPP{t:Int}{m:MM}(hm:m.Ok t):a0G t (nM m):=by
 have hp:=aM.1 hm.r.pw;have hm0:MM.Ok t {m with f:={m.f with PC:=m.r.pc}}:=⟨hm.r,hm.b⟩
 obtain⟨a3,a4⟩:=zN (k:=3) hm0 (aHV hm0 hm.r.pw) (by decide)
 have ha:cA ((m.r.pc+2)%65536) 0 65535=true:=by rw[aM];omega
 unfold nM;generalize cM {m with f:={m.f with PC:=m.r.pc}} 3 2 m.r.pc 0=q at a3 a4
 have hm1:MM.Ok t {q.1 with f:={q.1.f with Word:=q.2}}:=⟨a3.r,a3.b⟩
 obtain⟨b3,b4⟩:=zN (k:=3) hm1 (aHV hm1 ha) (by decide)
 unfold LI;refine bW (P:=fun z=>a0G t z) (fun h=>⟨a3,fun h2=>absurd h2 (by rw[G5 h];decide)⟩) fun h=>?_
 refine bW (P:=fun z=>a0G t z) (fun h=>?_) fun h=>?_
 ·generalize cM {q.1 with f:={q.1.f with Word:=q.2}} 3 2 ((m.r.pc+2)%65536) 0=p at b3 b4
  unfold VQ;refine bW (P:=fun z=>a0G t z) (fun h=>⟨b3,fun h2=>absurd h2 (by rw[G5 h];decide)⟩) fun h=>?_
  exact bW (P:=fun z=>a0G t z) (fun h=>⟨⟨b3.r,b3.b⟩,fun h2=>absurd h2 (by show¬eqI 4 0=true;decide)⟩) fun h=>⟨b3,fun _=>⟨G6 h,Or.inr rfl⟩⟩
 ·exact bW (P:=fun z=>a0G t z) (fun h=>⟨⟨a3.r,a3.b⟩,fun h2=>absurd h2 (by show¬eqI 4 0=true;decide)⟩) fun h=>⟨⟨a3.r,a3.b⟩,fun _=>⟨G6 h,Or.inl rfl⟩⟩
def vC(q:MM×aN×Int):MM:=bif bY q.1&&(vB q.2.1&&!q.1.r.sup)then{q.1 with f:={q.1.f with Vector:=8}}else q.1
noncomputable def G7(w:MM)(x:aN)(n pc:Int):MM:=bif bY w then tR {w with r:={w.r with pc:=(pc+2*n)%65536}} x pc else w
noncomputable def AI(m:MM):MM:=G7 (vC (nM m)) (nM m).2.1 (nM m).2.2 m.r.pc
def bB(r:RM)(zs:List Int)(l:List aA)(stop halt:Bool):aD:=⟨r.g,qV zs l,stop,halt⟩
def CB(m w:MM):aD×aH:=bif bY w then(bB w.r w.zs w.l w.stop false,⟨0,0,0,0,false⟩)else(bB m.r w.zs w.l m.stop false,w.f)
theorem aHY{t:Int}{m:MM}(hm:m.Ok t):(AI m).Ok t:=by
 obtain⟨f1,f2⟩:=aPP hm;unfold AI G7;have b1:(vC (nM m)).Ok t:=by unfold vC;exact bW (P:=fun z=>MM.Ok t z) (fun _=>⟨f1.r,f1.b⟩) (fun _=>f1)
 refine bW (P:=fun z=>MM.Ok t z) (fun h=>?_) (fun _=>b1)
 have hf:bY (nM m).1=true:=by
  unfold vC at h;cases hh:bY (nM m).1
  ·rw[hh,Bool.false_and,cond_false,hh]at h;exact h
  ·rfl
 exact bMT ⟨b1.r.setP (aM.2 (by omega)),b1.b⟩ (InsOk.of (f2 hf).1)
theorem PY{t:Int}{r:RM}{zs:List Int}{l:List aA}(s h:Bool)(hr:r.Ok t)(hb:BusOk zs l):a0E (bB r zs l s h):=by
 have h1:=hr.d4;have h2:=hr.a4;have h3:=hb.hz;have h4:=hb.hl;refine⟨?_,?_,?_,?_⟩
 ·show(ri r.d).length≤2000;rw[aY];omega
 ·show(ri r.a).length≤2000;rw[aY];omega
 ·show(ri zs).length≤2000;rw[aY];omega
 ·show(l.map aA.row).length≤2000;rw[List.length_map];omega
def f0:aH:=⟨0,0,0,0,false⟩
theorem aW7{t:Int}{r:RM}{zs:List Int}{l:List aA}{s h:Bool}(hr:r.Ok t)(hb:BusOk zs l):a8X (bB r zs l s h)=true∧d9 (bB r zs l s h)=MM.g ⟨r,zs,l,s,f0⟩:=bKS (PY s h hr hb)
theorem aW8{t:Int}{m:MM}(hm:m.Ok t):CI m.g=true∧qT m.g=bB m.r m.zs m.l m.stop false:=b0Q (m:=m.g) (PY m.stop false hm.r hm.b)
theorem bUZ{t:Int}{r:RM}{zs:List Int}{l:List aA}{s h:Bool}(hr:r.Ok t)(hb:BusOk zs l):bS4 (bB r zs l s h)=true∧jP (bB r zs l s h)=CB ⟨r,zs,l,s,f0⟩ (AI ⟨r,zs,l,s,f0⟩):=by
 refine aF (t:=bAQ (bB r zs l s h)) (P:=fun q=>q=CB ⟨r,zs,l,s,f0⟩ (AI ⟨r,zs,l,s,f0⟩)) ?_
 have hm:MM.Ok t ⟨r,zs,l,s,f0⟩:=⟨hr,hb⟩;obtain⟨a1,a2⟩:=aW7 (s:=s) (h:=h) hr hb;obtain⟨b1,b2⟩:=b0Y hm;obtain⟨f1,f2⟩:=aPP hm;have e1:(bB r zs l s h).R=r.g:=rfl;have e2:(bB r zs l s h).Stop=s:=rfl;have lR:=PY s h hr hb;obtain⟨o1,o2⟩:=bB1 (r:=r.g) lR.1 lR.2.1;unfold bAQ AI;have hA:=aHY hm;unfold AI at hA;obtain⟨m,hM⟩: ∃m:MM,m=⟨r,zs,l,s,f0⟩:=⟨_,rfl⟩;have hr':r.g=m.r.g:=by rw[hM]
 have hs':s=m.stop:=by rw[hM]
 have hp':(d9 (bB r zs l s h)).fr=m.r.g:=by rw[a2,←hM];rfl
 rw[←hM]at a2 hm b1 b2 f1 f2 hA⊢;rw[hr']at e1 o1 o2
 replace e2:(bB r zs l s h).Stop=m.stop:=hs'
 have mp:=aM.1 hm.r.pw;generalize hF:nM m=q at b1 b2 f1 f2 hA⊢;obtain⟨q1,x,n⟩:=q;dsimp only at b1 b2 f1 f2 hA⊢;have cp: ∀w:MM,w.Ok t→CI w.g=true∧qT w.g=bB w.r w.zs w.l w.stop false:=fun w hw=>aW8 hw
 cases hf:eqI q1.f.Vector 0
 ·have hB:vC (q1,x,n)=q1:=by unfold vC bY;rw[hf];rfl
  have hC:G7 q1 x n m.r.pc=q1:=by unfold G7 bY;rw[hf];rfl
  rw[hB,hC];obtain⟨c1,c2⟩:=cp ⟨m.r,q1.zs,q1.l,m.stop,q1.f⟩ ⟨hm.r,f1.b⟩;have c1':CI (aO.mk m.r.g (qV q1.zs q1.l) m.stop q1.f)=true:=c1;have c2':qT (aO.mk m.r.g (qV q1.zs q1.l) m.stop q1.f)=bB m.r q1.zs q1.l m.stop false:=c2;simp only[aQ,cB,aJ,FQ,FP,vL,BT,BS,FO,vK,BQ,gG,FN,FM,vJ,BP,FL,NW,BO,ED,JE,jO,NV,xB,zH,EC,JD,eL,cE,bR,bK,eM,eN,aW,cH,aU,bE,aT,aR,a1,a2,b1,b2,e1,e2,o1,o2,c1',c2',dZ,(EN _).1,(EN _).2,hf,q_5,q_4,cond_true,cond_false,dS,mG,wz,hH,pH,eV,pI,qt,q_3,q_6,true_and,forall_const,q_1,q_2,false_implies,and_true,implies_true];unfold CB bY;rw[hf];rfl
 ·obtain⟨g1,g2⟩:=f2 hf;have hI:=InsOk.of g1;have en:aZ (aV m.r.pc (cX 2 n)) 65535=(m.r.pc+2*n)%65536:=by rw[gH (by omega),bJ (by omega),tQ]
  cases hv:vB x&&!q1.r.sup
  ·have hB:vC (q1,x,n)=q1:=by unfold vC bY;rw[hf,hv];rfl
   have hC:G7 q1 x n m.r.pc=tR {q1 with r:={q1.r with pc:=(m.r.pc+2*n)%65536}} x m.r.pc:=by unfold G7 bY;rw[hf];rfl
   have hm2:MM.Ok t {q1 with r:={q1.r with pc:=(m.r.pc+2*n)%65536}}:=⟨f1.r.setP (aM.2 (by omega)),f1.b⟩
   obtain⟨d1,d2⟩:=cDC hm2 hI hm.r.pw;have d3:=bMT (a:=m.r.pc) hm2 hI;rw[hB,hC];generalize tR {q1 with r:={q1.r with pc:=(m.r.pc+2*n)%65536}} x m.r.pc=w at d2 d3
   have hw:(bif (bif true then vB x else false)then(!q1.r.sup)else false)=false:=by
    rw[←hv];cases vB x<;>rfl
   have sp:(aO.mk (RM.g {q1.r with pc:=(m.r.pc+2*n)%65536}) (qV q1.zs q1.l) q1.stop q1.f)=MM.g {q1 with r:={q1.r with pc:=(m.r.pc+2*n)%65536}}:=rfl
   obtain⟨c1,c2⟩:=cp ⟨m.r,w.zs,w.l,m.stop,w.f⟩ ⟨hm.r,d3.b⟩;have c1':CI (aO.mk m.r.g (qV w.zs w.l) m.stop w.f)=true:=c1;have c2':qT (aO.mk m.r.g (qV w.zs w.l) m.stop w.f)=bB m.r w.zs w.l m.stop false:=c2;obtain⟨j1,j2⟩:=cp w d3;cases hz:eqI w.f.Vector 0
   ·simp only[aQ,cB,aJ,FQ,FP,vL,BT,BS,FO,vK,BQ,gG,FN,FM,vJ,BP,FL,NW,BO,ED,JE,jO,NV,xB,zH,EC,JD,eL,cE,bR,bK,eM,eN,aW,cH,aU,bE,aT,aR,kF,a1,a2,b1,b2,e1,e2,o1,o2,dZ,(EN _).1,(EN _).2,hf,hw,en,sp,d1,d2,hz,c1',c2',q_5,q_4,cond_false,dS,mG,wz,hH,pH,eV,pI,qt,q_3,q_6,true_and,forall_const,q_1,q_2,false_implies,and_true,implies_true];unfold CB bY;rw[hz];rfl
   ·simp only[aQ,cB,aJ,FQ,FP,vL,BT,BS,FO,vK,BQ,gG,FN,FM,vJ,BP,FL,NW,BO,ED,JE,jO,NV,xB,zH,EC,JD,eL,cE,bR,bK,eM,eN,aW,cH,aU,bE,aT,aR,kF,a1,a2,b1,b2,e1,e2,o1,o2,dZ,(EN _).1,(EN _).2,hf,hw,en,sp,d1,d2,hz,j1,j2,q_5,q_4,cond_false,dS,mG,wz,hH,pH,eV,pI,qt,q_3,q_6,true_and,forall_const,q_1,q_2,false_implies,and_true,implies_true];unfold CB bY;rw[hz];rfl
  ·have hB:vC (q1,x,n)={q1 with f:={q1.f with Vector:=8}}:=by unfold vC bY;rw[hf,hv];rfl
   have hC:G7 {q1 with f:={q1.f with Vector:=8}} x n m.r.pc={q1 with f:={q1.f with Vector:=8}}:=by unfold G7 bY;rfl
   rw[hB,hC];have hw:(bif (bif true then vB x else false)then(!q1.r.sup)else false)=true:=by
    rw[Bool.and_eq_true]at hv;rw[hv.1,hv.2];rfl
   obtain⟨c1,c2⟩:=cp ⟨m.r,q1.zs,q1.l,m.stop,{q1.f with Vector:=8}⟩ ⟨hm.r,f1.b⟩
   have c1':CI (aO.mk m.r.g (qV q1.zs q1.l) m.stop {q1.f with Vector:=8})=true:=c1
   have c2':qT (aO.mk m.r.g (qV q1.zs q1.l) m.stop {q1.f with Vector:=8})=bB m.r q1.zs q1.l m.stop false:=c2
   simp only[aQ,cB,aJ,FQ,FP,vL,BT,BS,FO,vK,BQ,gG,FN,FM,vJ,BP,FL,NW,BO,ED,JE,jO,NV,xB,zH,EC,JD,eL,cE,bR,bK,eM,eN,aW,cH,aU,bE,aT,aR,a1,a2,b1,b2,e1,e2,o1,o2,dZ,(EN _).1,(EN _).2,hf,hw,show eqI 8 0=false from rfl,c1',c2',q_5,q_4,cond_false,dS,mG,wz,hH,pH,eV,pI,qt,q_3,q_6,true_and,forall_const,q_1,q_2,false_implies,and_true,implies_true]
   rfl
end Go.Proofs.YtdicpjkdpliofaaGreatBoundaries

namespace Go.Proofs.YtdicpjkdpliofaaGreatBoundaries
open Go Go.Zq
set_option maxHeartbeats 4000000
set_option maxRecDepth 100000
theorem uX{B:Int}{c:aG}(r:List Int)(h1:CO B c)(h2:B<2500000000000000000)(h3:1≤r.length):z8 (ri r) c=true∧CO (B+2) (rE (ri r) c).1:=by
 obtain⟨a,b,-⟩:=FZ (r:=ri r) ⟨r,rfl⟩ (by rw[aY];exact h3) h1 (by omega)
 exact⟨a,b⟩
theorem b05{B:Int}{p:Bool}{c d:aG}(h:CO B c)(k:CO B d):CO B (aG.mk (bif p then c.fcode else d.fcode) (bif p then c.fat else d.fat) (bif p then c.fseed else d.fseed)):=by
 cases p
 ·exact k
 ·exact h
theorem bCG(b:Bool):yI b 1=true:=by
 refine(aF (t:=aKF b 1) (P:=fun _=>True) ?_).1
 unfold aKF;simp only[aQ,cB,aJ,true_and,implies_true,and_true]
theorem N6{B:Int}{c:aG}(h:CO B c)(hB:B<2000000000000000000):bEN c=true∧CO (B+14) (sE c).1:=by
 refine aF (t:=a3P c) (P:=fun r=>CO (B+14) r.1) ?_
 have tl: ∀{c':aG},CO (B+6) c'→Z8 60 c'=true∧CO (B+14) (kX 60 c').1∧xG 9 (kX 60 c').1=true∧xG 5 (cO 9 (kX 60 c').1).1=true∧xG 2 (cO 5 (cO 9 (kX 60 c').1).1).1=true∧CO (B+14) (cO 2 (cO 5 (cO 9 (kX 60 c').1).1).1).1:=fun{c'} hc=>by
  obtain⟨a1,a2⟩:=B9 60 hc (by omega)
  obtain⟨b1,b2,-⟩:=eE 9 a2 (by omega)
  obtain⟨e1,e2,-⟩:=eE 5 b2 (by omega)
  obtain⟨f1,f2,-⟩:=eE 2 e2 (by omega)
  exact⟨a1,a2.mono (by omega),b1,e1,f1,f2.mono (by omega)⟩
 obtain⟨a1,a2,-⟩:=eE 8 h (by omega)
 obtain⟨b1,b2,-⟩:=eE 4 a2 (by omega)
 obtain⟨c1,c2⟩:=uX [0,1,2,20,100,200,384,448,65535,65534] b2 (by omega) (by decide)
 obtain⟨d1,d2⟩:=uX [0,1,2,20,100,200,384,448,65535,65534] a2 (by omega) (by decide)
 simp only[BY,EE]at c1 c2 d1 d2;obtain⟨p1,p2,p3,p4,p5,p6⟩:=tl (c2.mono (by omega))
 obtain⟨q1,q2,q3,q4,q5,q6⟩:=tl (b2.mono (by omega))
 obtain⟨r1,r2,r3,r4,r5,r6⟩:=tl (d2.mono (by omega))
 obtain⟨s1,s2,s3,s4,s5,s6⟩:=tl (a2.mono (by omega))
 unfold a3P;simp only[aQ,cB,aJ,aKE,ML,aKD,MK,H0,R8,HZ,aKC,MJ,HY,(Y0 _).1,a1,b1,c1,d1,p1,p3,p4,p5,q1,q3,q4,q5,r1,r3,r4,r5,s1,s3,s4,s5,Bool.and_true,true_and];refine⟨fun _=>⟨fun _=>⟨fun _=>p6,fun _=>p2⟩,fun _=>⟨fun _=>q6,fun _=>q2⟩⟩,fun _=>⟨fun _=>⟨fun _=>r6,fun _=>r2⟩,fun _=>⟨fun _=>s6,fun _=>s2⟩⟩⟩
def bU0(B:Int)(n:Nat)(c:aG)(r:Option V168_0):Prop:=match r with
 |none=>CO (B+360) c
 |some w=> ∃m,m<n∧(CO (B+60*(6-m)) w.b0∧w.s3=6-(m:Int)∧m≤6)
theorem bCH(c:aG)(x:aN){B:Int}(h:CO B c)(hB:B<1000000000000000000):aKK (V168_0.mk c x 0)=true∧CO (B+360) (aKJ (V168_0.mk c x 0)).b0:=by
 unfold aKK aKJ;refine gP (Post:=fun w:V168_0=>CO (B+360) w.b0) (eC (fun(m:Nat) (v:V168_0)=>CO (B+60*(6-m)) v.b0∧v.s3=6-(m:Int)∧m≤6) _ ?_ 9223372036854775808 6 _ ⟨h.mono (by omega),rfl,by omega⟩ (by omega))
 rintro n v ⟨h,h2,h3⟩
 have hp:CO (B+360) v.b0:=h.mono (by omega)
 have key:(DK v).Sat (bU0 B n v.b0):=by
  have stp:bU0 B n v.b0 none:=hp;by_cases hn:n=0
  ·have e:ltI v.s3 6=false:=by rw[mB];omega
   unfold DK;simp only[aQ,cB,aJ,e,true_and,Bool.false_eq_true,false_implies];exact fun _=>stp
  have nxt: ∀c',CO (B+60*(6-n)+60) c'→bU0 B n v.b0 (some (V168_0.mk c' v.b1 (aV v.s3 1))):=fun c' hc=>⟨n-1,by omega,hc.mono (by omega),by show aV v.s3 1=_;rw[bJ (by omega)];omega,by omega⟩
  obtain⟨a1,a2,-⟩:=eE 19 h (by omega)
  obtain⟨b1,b2,-⟩:=eE 2 a2 (by omega)
  obtain⟨c1,c2,-⟩:=eE 4 b2 (by omega)
  obtain⟨o1,o2⟩:=N6 c2 (by omega)
  obtain⟨d1,d2,-⟩:=eE 4 o2 (by omega)
  obtain⟨e1,e2,-⟩:=eE 2 o2 (by omega)
  obtain⟨f1,f2,-⟩:=eE 7 e2 (by omega)
  obtain⟨g1,g2,-⟩:=eE 4 f2 (by omega)
  obtain⟨i1,i2,-⟩:=eE 8 e2 (by omega)
  obtain⟨j1,j2⟩:=uX [2,4,6,8,65526,65530,0,3] i2 (by omega) (by decide)
  obtain⟨l1,l2⟩:=uX [0,1,2,2,3,4,5,6] o2 (by omega) (by decide)
  simp only[BY,EE]at j1 j2 l1 l2;obtain⟨m1,m2,-⟩:=eE 4 l2 (by omega)
  obtain⟨n1,n2⟩:=uX [0,256,512,1023] m2 (by omega) (by decide)
  obtain⟨q1,q2⟩:=uX [0,256,512,1023] l2 (by omega) (by decide)
  obtain⟨r1,r2⟩:=uX [0,256,480,768,31] o2 (by omega) (by decide)
  simp only[BY,EE]at n1 n2 q1 q2 r1 r2;obtain⟨s1,s2⟩:=B9 2 r2 (by omega)
  obtain⟨t1,t2,-⟩:=eE 4 s2 (by omega)
  have o2':CO (B+60*(6-n)+60) _:=o2.mono (by omega)
  have d2':CO (B+60*(6-n)+60) _:=d2.mono (by omega)
  have e2':CO (B+60*(6-n)+60) _:=e2.mono (by omega)
  have g2':CO (B+60*(6-n)+60) _:=g2.mono (by omega)
  have j2':CO (B+60*(6-n)+60) _:=j2.mono (by omega)
  have l2':CO (B+60*(6-n)+60) _:=l2.mono (by omega)
  have m2':CO (B+60*(6-n)+60) _:=m2.mono (by omega)
  have n2':CO (B+60*(6-n)+60) _:=n2.mono (by omega)
  have q2':CO (B+60*(6-n)+60) _:=q2.mono (by omega)
  have s2':CO (B+60*(6-n)+60) _:=s2.mono (by omega)
  have t2':CO (B+60*(6-n)+60) _:=t2.mono (by omega)
  unfold DK;simp only[bG,tN,DJ,DI,tM,qM,oB,DH,DG,oA,DF,DE,nZ,hG,dK,nY,DD,DC,tK,DB,DA,qL,H3,sF,A7,dC,A6,pU,lL,H2,H1,cI,bZ,dW,wz,bCG,(VK _).1,a1,b1,c1,o1,d1,e1,f1,g1,i1,j1,l1,m1,n1,q1,r1,s1,t1]
  repeat' first
   |with_reducible exact stp
   |(with_reducible refine nxt _ ?_;with_reducible assumption)
   |intro _
   |with_reducible constructor
 exact key
def b06(B:Int)(r:aG×aN):Prop:=CO (B+420) r.1
theorem bMU{B:Int}{c:aG}(h:CO B c)(hB:B<1000000000000000000):bE1 c=true∧CO (B+420) (PB c).1:=by
 refine aF (t:=aYW c) (P:=fun r=>CO (B+420) r.1) ?_
 obtain⟨w1,w2⟩:=bCH c ⟨0,0,0,⟨0,0,0⟩,0⟩ h hB;obtain⟨a1,a2,-⟩:=eE 19 w2 (by omega)
 obtain⟨b1,b2,-⟩:=eE 2 a2 (by omega)
 obtain⟨c1,c2,-⟩:=eE 4 b2 (by omega)
 obtain⟨o1,o2⟩:=N6 c2 (by omega)
 obtain⟨d1,d2,-⟩:=eE 4 o2 (by omega)
 obtain⟨e1,e2,-⟩:=eE 2 o2 (by omega)
 obtain⟨f1,f2,-⟩:=eE 7 e2 (by omega)
 obtain⟨g1,g2,-⟩:=eE 4 f2 (by omega)
 obtain⟨i1,i2,-⟩:=eE 8 e2 (by omega)
 obtain⟨j1,j2⟩:=uX [2,4,6,8,65526,65530,0,3] i2 (by omega) (by decide)
 obtain⟨l1,l2⟩:=uX [0,1,2,2,3,4,5,6] o2 (by omega) (by decide)
 simp only[BY,EE]at j1 j2 l1 l2;obtain⟨m1,m2,-⟩:=eE 4 l2 (by omega)
 obtain⟨n1,n2⟩:=uX [0,256,512,1023] m2 (by omega) (by decide)
 obtain⟨q1,q2⟩:=uX [0,256,512,1023] l2 (by omega) (by decide)
 obtain⟨r1,r2⟩:=uX [0,256,480,768,31] o2 (by omega) (by decide)
 simp only[BY,EE]at n1 n2 q1 q2 r1 r2;obtain⟨s1,s2⟩:=B9 2 r2 (by omega)
 obtain⟨t1,t2,-⟩:=eE 4 s2 (by omega)
 have o2':CO (B+420) _:=o2.mono (by omega)
 have d2':CO (B+420) _:=d2.mono (by omega)
 have e2':CO (B+420) _:=e2.mono (by omega)
 have g2':CO (B+420) _:=g2.mono (by omega)
 have j2':CO (B+420) _:=j2.mono (by omega)
 have l2':CO (B+420) _:=l2.mono (by omega)
 have m2':CO (B+420) _:=m2.mono (by omega)
 have n2':CO (B+420) _:=n2.mono (by omega)
 have q2':CO (B+420) _:=q2.mono (by omega)
 have s2':CO (B+420) _:=s2.mono (by omega)
 have t2':CO (B+420) _:=t2.mono (by omega)
 have w2':CO (B+420) _:=w2.mono (by omega)
 have nxt: ∀c' x,CO (B+420) c'→b06 B (c',x):=fun c' x h=>h
 have key:(aYW c).Sat (b06 B):=by
  unfold aYW;simp only[bG,aAF,aAE,aAD,KP,A8,KO,KN,fY,KM,aAC,SB,yJ,aKM,aAB,SA,aKL,gK,mH,gJ,bZ,dW,wz,bCG,(VK _).1,w1,a1,b1,c1,o1,d1,e1,f1,g1,i1,j1,l1,m1,n1,q1,r1,s1,t1]
  repeat' first
   |(with_reducible refine nxt _ _ ?_;with_reducible assumption)
   |intro _
   |with_reducible constructor
 exact key
theorem b07{B:Int}{c:aG}(h:CO B c)(hB:B<1000000000000000000):k82 c=true∧CO (B+500) (g82 c).1:=by
 refine aF (t:=T82 c) (P:=fun r=>CO (B+500) r.1) ?_
 obtain⟨a1,a2⟩:=bMU h hB;obtain⟨b1,b2⟩:=B9 20 a2 (by omega)
 obtain⟨c1,c2,-⟩:=eE 22 b2 (by omega)
 obtain⟨d1,d2,-⟩:=eE 4 c2 (by omega)
 obtain⟨e1,e2,-⟩:=eE 5 d2 (by omega)
 obtain⟨f1,f2⟩:=N6 e2 (by omega)
 obtain⟨g1,g2,-⟩:=eE 9 f2 (by omega)
 unfold T82;simp only[aQ,cB,aJ,a35,YG,YF,a1,b1,c1,d1,e1,f1,g1,Bool.and_true,true_and];exact⟨fun _=>g2.mono (by omega),fun _=>b2.mono (by omega)⟩
theorem bU1{x:List Row}(h:bytesOk x=true):CO 0 (aG.mk x 0 0):=⟨h,Int.le_refl 0,Int.le_refl 0⟩
end Go.Proofs.YtdicpjkdpliofaaGreatBoundaries

namespace Go.Proofs.YtdicpjkdpliofaaGreatBoundaries
open Go Go.Zq
set_option maxHeartbeats 4000000
set_option maxRecDepth 100000
theorem bU2{l:List aN}{i:Nat}(h:i<l.length):fU [.int .i64, .int .i64, .int .i64, .int .i64, .int .i64, .int .i64, .int .i64] (l.map aN.row) (i:Int)=true∧aN.at (l.map aN.row) i 0=l[i]:=by
 have e:(l.map aN.row).getD i []=aN.row l[i]:=by simp[List.getD_eq_getElem?_getD,h]
 constructor
 ·simp only[fU,dO,Int.toNat_natCast,e,List.length_map];have:Nat.blt i l.length=true:=by simpa using h
  rw[this];rfl
 ·unfold aN.at bF vZ;rw[e];rfl
theorem b08{n:Nat}(h:n≤2000):lJ (mA (n+1) 56) 140737488355328=true∧lJ (n+1) 140737488355328=true:=by
 simp only[nE,aER];omega
def IL(n:Nat)(r:List Row):Prop:= ∃l:List aN,r=l.map aN.row∧l.length≤n
theorem aW9(n:Nat)(c:aG){B:Int}(h:CO B c)(hB:B+420*n<500000000000000000)(hn:n≤50):aAI (V231_0.mk c [] (n:Int))=true∧(CO (B+420*n) (SD (V231_0.mk c [] (n:Int))).b0∧IL n (SD (V231_0.mk c [] (n:Int))).s3):=by
 unfold aAI SD;refine gP (Post:=fun w:V231_0=>CO (B+420*n) w.b0∧IL n w.s3) (eC (fun(m:Nat) (v:V231_0)=>CO (B+420*(n-m)) v.b0∧v.s4=(m:Int)∧m≤n∧ ∃l:List aN,v.s3=l.map aN.row∧l.length+m=n) _ ?_ 9223372036854775808 n _ ⟨h.mono (by omega),rfl,by omega,[],rfl,by simp⟩ (by omega))
 rintro m v ⟨h1,h2,h3,l,h4,h5⟩
 obtain⟨a1,a2⟩:=bMU h1 (by omega)
 obtain⟨r1,r2⟩:=b08 (n:=l.length) (by omega)
 unfold MN;simp only[bG,H4,h2,h4,a1,r1,r2,List.length_map,Nat.zero_add,dW,wz,nG,G2];refine⟨fun hm=>⟨m-1,by omega,a2.mono (by omega),?_,by omega,l++[(PB v.b0).2],by simp,by simp;omega⟩,fun hm=>⟨h1.mono (by omega),l,rfl,by omega⟩⟩
 rw[eK (by omega)];omega
theorem bCI{n:Nat}{r:List Row}(h:IL n r)(x:aN)(k:Nat):IL n (r.set k (aN.row x)):=by
 obtain⟨l,rfl,h1⟩:=h;exact⟨l.set k x,by rw[List.map_set],by simpa using h1⟩
theorem bKZ{n:Nat}{r:List Row}(h:IL n r)(h0:0<r.length):jW (jX r 0) 7=true:=by
 obtain⟨l,rfl,h1⟩:=h;cases l with
 |nil=>simp at h0
 |cons a l=>rfl
theorem bCJ{α:Type}(b:Bool)(x:α):(bif b then x else x)=x:=by cases b<;>rfl
theorem ZB{n:Nat}{B:Int}{c:aG}{r:List Row}(h1:CO B c)(h2:IL n r)(hB:B<900000000000000000):Z8 20 c=true∧CO (B+2) (aG.mk (bif (kV (bN r) 0)then(kX 20 c).1.fcode else c.fcode) (bif (kV (bN r) 0)then(kX 20 c).1.fat else c.fat) (bif (kV (bN r) 0)then(kX 20 c).1.fseed else c.fseed))∧k82 (aG.mk (bif (kV (bN r) 0)then(kX 20 c).1.fcode else c.fcode) (bif (kV (bN r) 0)then(kX 20 c).1.fat else c.fat) (bif (kV (bN r) 0)then(kX 20 c).1.fseed else c.fseed))=true∧CO (B+502) (g82 (aG.mk (bif (kV (bN r) 0)then(kX 20 c).1.fcode else c.fcode) (bif (kV (bN r) 0)then(kX 20 c).1.fat else c.fat) (bif (kV (bN r) 0)then(kX 20 c).1.fseed else c.fseed))).1:=by
 obtain⟨a1,a2⟩:=B9 20 h1 (by omega)
 have a3:CO (B+2) (aG.mk (bif (kV (bN r) 0)then(kX 20 c).1.fcode else c.fcode) (bif (kV (bN r) 0)then(kX 20 c).1.fat else c.fat) (bif (kV (bN r) 0)then(kX 20 c).1.fseed else c.fseed)):=b05 a2 (h1.mono (by omega))
 obtain⟨b1,b2⟩:=b07 a3 (by omega)
 exact⟨a1,a3,b1,b2.mono (by omega)⟩
theorem bU3{c:aG}{B:Int}(h:CO B c)(hB:B<400000000000000000):bN6 c=true∧(CO (B+30000) (PD c).1∧IL 50 (PD c).2):=by
 refine aF (t:=a36 c) (P:=fun r=>CO (B+30000) r.1∧IL 50 r.2) ?_
 obtain⟨a1,a2,a3,a4,-⟩:=eE 8 h (by omega)
 have a4:=a4 (by omega)
 obtain⟨b1,b2⟩:=B9 20 a2 (by omega)
 obtain⟨c1,c2,c3,c4,-⟩:=eE 2 b2 (by omega)
 have c4:=c4 (by omega)
 obtain⟨m,hm⟩: ∃m:Nat,(cO 8 c).2=(m:Int):=⟨_,(Int.toNat_of_nonneg a3).symm⟩;obtain⟨n,hn⟩: ∃n:Nat,aV 40 (cO 2 (kX 20 (cO 8 c).1).1).2=(n:Int):=⟨(40+(cO 2 (kX 20 (cO 8 c).1).1).2).toNat,by rw[bJ (by omega)];omega⟩
 have hn':n≤41:=by rw[bJ (by omega)]at hn;omega
 obtain⟨d1,d2,d3⟩:=aW9 n _ c2 (by omega) (by omega)
 obtain⟨e1,e2,e3⟩:=aW9 m _ b2 (by omega) (by omega)
 have d3:IL 50 _:=⟨d3.choose,d3.choose_spec.1,by have:=d3.choose_spec.2;omega⟩
 have e3:IL 50 _:=⟨e3.choose,e3.choose_spec.1,by have:=e3.choose_spec.2;omega⟩
 obtain⟨f1,f2,f3,f4⟩:=ZB d2 d3 (by omega)
 obtain⟨i1,i2,i3,i4⟩:=ZB e2 e3 (by omega)
 have tk: ∀r:List Row,List.take r.length r=r:=fun r=>List.take_length
 have z: ∀n:Nat,lJ (0+n) n=true:=fun n=>by simp
 have pos: ∀r:List Row,∀q:Bool,(bif kV (bN r) 0 then q else false)=true→ltI 0 (bN r)=true∧blt 0 r.length=true∧(IL 50 r→jW (jX r 0) 7=true):=fun r q hq=>by
  cases hg:kV (bN r) 0
  ·rw[hg]at hq;simp at hq
  ·rw[nG,aP]at hg;exact⟨by simp;omega,by simp;omega,fun h=>bKZ h (by omega)⟩
 unfold a36;simp only[bG,aAM,aAL,aAK,aAJ,FK,SG,gM,aKR,aKQ,aKP,aKO,MO,SF,gL,SE,a1,b1,c1,hm,hn,d1,e1,f1,i1,f3,i3,z,bCJ,List.length_set,tk,dW,wz];have tks: ∀(r:List Row)(x:Row),List.take r.length (r.set 0 x)=r.set 0 x:=fun r x=>List.take_of_length_le (by simp)
 simp only[tks,List.length_set,dS,mG,wz,Bool.and_true,true_and];refine⟨fun _=>⟨fun hq=>?_,fun _=>⟨f2.mono (by omega),d3⟩⟩,fun _=>⟨fun hq=>?_,fun _=>⟨i2.mono (by omega),e3⟩⟩⟩
 ·obtain⟨p1,p2,p3⟩:=pos _ _ hq;rw[p1,p2,p3 d3];exact⟨rfl,f4.mono (by omega),bCI d3 _ 0⟩
 ·obtain⟨p1,p2,p3⟩:=pos _ _ hq;rw[p1,p2,p3 e3];exact⟨rfl,i4.mono (by omega),bCI e3 _ 0⟩
theorem bU4(x:aN):bN8 x=true∧ ∃zs:List Int,bN7 x=ri zs∧zs.length≤2:=by
 refine aF (t:=a37 x) (P:=fun r=> ∃zs:List Int,r=ri zs∧zs.length≤2) ?_
 unfold a37;simp only[bG,(Y0 _).1,show leI 0 11=true from rfl,show leI 0 10=true from rfl,show leI 0 8=true from rfl,show leI 0 5=true from rfl,show leI 0 3=true from rfl,dW,wz]
 exact⟨fun _=>⟨[_,_],rfl,by simp⟩,fun _=>⟨[_],rfl,by simp⟩⟩
def EL(n:Nat)(r:List Row):Prop:= ∃zs:List Int,r=ri zs∧zs.length≤n
theorem bK0(l:List aN)(hl:l.length≤50)(x:List Row):aKT (V230_0.mk x [] (l.map aN.row) (bN (l.map aN.row)) 0)=true∧EL 200 (aKS (V230_0.mk x [] (l.map aN.row) (bN (l.map aN.row)) 0)).s4:=by
 unfold aKT aKS;refine gP (Post:=fun w:V230_0=>EL 200 w.s4) (eC (fun(m:Nat) (v:V230_0)=> ∃i:Nat,v.s7=l.map aN.row∧v.s8=(l.length:Int)∧v.s9=(i:Int)∧i+m=l.length∧EL (2*i) v.s4) _ ?_ 9223372036854775808 l.length _ ⟨0,rfl,by simp,rfl,by omega,[],rfl,by simp⟩ (by omega))
 rintro m v ⟨i,h1,h2,h3,h4,zs,h5,h6⟩
 have done:EL 200 v.s4:=⟨zs,h5,by omega⟩
 unfold MP;simp only[aQ,cB,aJ,H6,H5,wC,h1,h2,h3,dM,mB,true_and,Int.toNat_natCast,(VK _).1,Bool.and_true];refine⟨fun hlt=>?_,fun _=>done⟩
 have hi:i<l.length:=by omega
 obtain⟨p1,p2⟩:=bU2 hi;obtain⟨q1,ws,q2,q3⟩:=bU4 l[i];have r1:lJ (mA (zs.length+ws.length) 8) 140737488355328=true∧lJ (zs.length+ws.length) 140737488355328=true:=by simp only[nE,aER];omega
 rw[p1,p2,q1,q2,h5];simp only[aY,r1,dS,mG,wz,Nat.zero_add,Bool.and_true,true_and];refine⟨fun _=>⟨zs,rfl,by omega⟩,fun _=>⟨m-1,by omega,i+1,?_,by omega,zs++ws,qK.symm,by rw[List.length_append];omega⟩⟩
 rw[bJ (by omega)];omega
theorem cDD{r:List Row}(h:IL 50 r):bN9 r=true∧EL 200 (aKV r).1:=by
 obtain⟨l,rfl,hl⟩:=h;refine aF (t:=a38 (l.map aN.row)) (P:=fun q=>EL 200 q.1) ?_
 obtain⟨a1,a2⟩:=bK0 l hl (l.map aN.row);have e0:EL 200 []:=⟨[],rfl,by simp⟩
 unfold a38;simp only[bG,aKU,MQ,a1,dW,wz];exact⟨fun _=>e0,fun _=>⟨fun _=>e0,fun _=>a2⟩⟩
end Go.Proofs.YtdicpjkdpliofaaGreatBoundaries

namespace Go.Proofs.YtdicpjkdpliofaaGreatBoundaries
open Go Go.Zq
set_option maxHeartbeats 4000000
set_option maxRecDepth 100000
theorem bCK(c:aG)(a:Int){B:Int}(h:CO B c)(hB:B<300000000000000000):aKW (V165_0.mk c a (ri (List.replicate 384 0)) 384 0)=true∧(CO (B+2000) (SJ (V165_0.mk c a (ri (List.replicate 384 0)) 384 0)).b0∧(SJ (V165_0.mk c a (ri (List.replicate 384 0)) 384 0)).s4=a∧ ∃zs:List Int,(SJ (V165_0.mk c a (ri (List.replicate 384 0)) 384 0)).s5=ri zs∧zs.length=384):=by
 unfold aKW SJ;refine gP (Post:=fun w:V165_0=>CO (B+2000) w.b0∧w.s4=a∧ ∃zs:List Int,w.s5=ri zs∧zs.length=384) (eC (fun(m:Nat) (v:V165_0)=>CO (B+4*(384-m)) v.b0∧v.s4=a∧v.s16=384∧ ∃i:Nat,v.s17=(i:Int)∧i+m=384∧ ∃zs:List Int,v.s5=ri zs∧zs.length=384) _ ?_ 9223372036854775808 384 _ ⟨h.mono (by omega),rfl,rfl,0,rfl,by omega,_,rfl,by simp⟩ (by omega))
 rintro m v ⟨h1,h2,h3,i,h4,h5,zs,h6,h7⟩
 obtain⟨a1,a2⟩:=B9 8 h1 (by omega)
 obtain⟨b1,b2,-⟩:=eE 256 a2 (by omega)
 have e1:aV (i:Int) 1=((i+1:Nat):Int):=by rw[bJ (by omega)];omega
 unfold MR;simp only[bG,H8,H7,h2,h3,h4,h6,e1,a1,b1,aP,aY,h7,dT,List.length_set,Nat.zero_add,Int.toNat_natCast,dM,mB,dW,wz];refine⟨fun hi=>⟨fun _=>?_,fun _=>⟨m-1,by omega,a2.mono (by omega),i+1,rfl,by omega,zs,rfl,h7⟩⟩,fun _=>⟨h1.mono (by omega),zs,rfl,h7⟩⟩
 have hi':i<zs.length:=by omega
 have l0:leI 0 (i:Int)=true:=by simp
 have l1:ltI (i:Int) ((384:Nat):Int)=true:=by rw[dM];omega
 have l2:blt i 384=true:=by simp;omega
 have l3:jW (jX (ri zs) i) 1=true:=by rw[x4 hi'];rfl
 rw[l0,l1,l2,l3];refine⟨rfl,m-1,by omega,b2.mono (by omega),i+1,rfl,by omega,_,rfl,by rw[List.length_set];exact h7⟩
theorem bCL(c:aG)(a:Int)(ys ws:List Int){B:Int}(h:CO B c)(ha:0≤a)(ha1:a≤100)(hy:ys.length=384)(hw:ws.length≤300):aKX (V165_1.mk c a (ri ys) (ri ws) (bN (ri ws)) 0)=true∧(CO B (SL (V165_1.mk c a (ri ys) (ri ws) (bN (ri ws)) 0)).b0∧(SL (V165_1.mk c a (ri ys) (ri ws) (bN (ri ws)) 0)).s4=a∧ ∃zs:List Int,(SL (V165_1.mk c a (ri ys) (ri ws) (bN (ri ws)) 0)).s5=ri zs∧zs.length=384):=by
 unfold aKX SL;refine gP (Post:=fun w:V165_1=>CO B w.b0∧w.s4=a∧ ∃zs:List Int,w.s5=ri zs∧zs.length=384) (eC (fun(m:Nat) (v:V165_1)=>CO B v.b0∧v.s4=a∧v.s34=ri ws∧v.s35=(ws.length:Int)∧ ∃i:Nat,v.s36=(i:Int)∧i+m=ws.length∧ ∃zs:List Int,v.s5=ri zs∧zs.length=384) _ ?_ 9223372036854775808 ws.length _ ⟨h,rfl,rfl,by simp[aY],0,rfl,by omega,ys,rfl,hy⟩ (by omega))
 rintro m v ⟨h1,h2,h8,h3,i,h4,h5,zs,h6,h7⟩
 obtain⟨an,rfl⟩:=Int.eq_ofNat_of_zero_le ha;have e1:aV (i:Int) 1=((i+1:Nat):Int):=by rw[bJ (by omega)];omega
 have e2:cX 2 (i:Int)=((2*i:Nat):Int):=by rw[gH (by omega)];omega
 have e3:aV (an:Int) ((2*i:Nat):Int)=((an+2*i:Nat):Int):=by rw[bJ (by omega)];omega
 have e4:aV ((an+2*i:Nat):Int) 1=((an+2*i+1:Nat):Int):=by rw[bJ (by omega)];omega
 unfold MS;simp only[bG,wD,IB,IA,BB,BA,A9,H9,h2,h3,h4,h6,h8,e1,e2,e3,e4,aP,aY,h7,dT,List.length_set,Nat.zero_add,Int.toNat_natCast,dM,mB,dW,wz];refine⟨fun hi=>?_,fun _=>⟨h1,zs,rfl,h7⟩⟩
 have hi':i<ws.length:=by omega
 have l0: ∀n:Nat,leI 0 (n:Int)=true:=fun n=>by simp
 have l1:ltI (i:Int) (ws.length:Int)=true:=by rw[dM];omega
 have l2:dO [.int .i64] (ri ws) i 0=true:=FY ⟨ws,rfl⟩ (by rw[aY];exact hi')
 rw[l0,l1,l2];refine⟨rfl,by simp,fun hb=>?_,fun _=>⟨m-1,by omega,h1,i+1,rfl,by omega,zs,rfl,h7⟩⟩
 have hb':an+2*i+1<zs.length:=by omega
 have l4:ltI ((an+2*i:Nat):Int) ((384:Nat):Int)=true:=by rw[dM];omega
 have l5:blt (an+2*i) 384=true:=by simp;omega
 have l6:jW (jX (ri zs) (an+2*i)) 1=true:=by rw[x4 (by omega)];rfl
 have l7:blt (an+2*i+1) 384=true:=by simp;omega
 have l8:ltI ((an+2*i+1:Nat):Int) ((384:Nat):Int)=true:=by rw[dM];omega
 have l9: ∀z,jW (jX (ri (zs.set (an+2*i) z)) (an+2*i+1)) 1=true:=fun z=>by rw[x4 (by rw[List.length_set];omega)];rfl
 have l10:leI 0 8=true:=rfl;simp only[l0,l1,l2,l4,l5,l6,l7,l8,l9,l10,Bool.and_true,true_and];exact⟨m-1,by omega,h1,i+1,rfl,by omega,_,rfl,by rw[List.length_set,List.length_set];exact h7⟩
theorem bK1{c:aG}{B:Int}(h:CO B c)(hB:B<200000000000000000):bOA c=true∧(CO (B+40000) (xI c).1∧(∃zs:List Int,(xI c).2.1=ri zs∧zs.length=384)∧0≤(xI c).2.2∧(xI c).2.2≤60):=by
 refine aF (t:=a39 c) (P:=fun r=>CO (B+40000) r.1∧(∃zs:List Int,r.2.1=ri zs∧zs.length=384)∧0≤r.2.2∧r.2.2≤60) ?_
 obtain⟨a1,a2,a3,a4,-⟩:=eE 30 h (by omega)
 have a4:=a4 (by omega)
 have e0:List.replicate 384 (aL 0)=ri (List.replicate 384 0):=by simp[ri,List.map_replicate,aL]
 have e1:cX 2 (cO 30 c).2=2*(cO 30 c).2:=gH (by omega)
 obtain⟨b1,b2,b3,zs,b4,b5⟩:=bCK (cO 30 c).1 (2*(cO 30 c).2) a2 (by omega)
 obtain⟨c1,c2,c3⟩:=bU3 b2 (by omega)
 obtain⟨d1,ws,d2,d3⟩:=cDD c3;obtain⟨f1,f2,f3,ys,f4,f5⟩:=bCL _ (2*(cO 30 c).2) zs ws c2 (by omega) (by omega) b5 (by omega)
 unfold a39;simp only[bG,aKY,SN,SM,aAV,o9,a1,e0,e1,b1,b3,b4,c1,d1,d2,f1,f3,f4,dW,wz];exact⟨by simp,f2.mono (by omega),⟨ys,rfl,f5⟩,by omega,by omega⟩
end Go.Proofs.YtdicpjkdpliofaaGreatBoundaries

namespace Go.Proofs.YtdicpjkdpliofaaGreatBoundaries
open Go Go.Zq
set_option maxHeartbeats 4000000
set_option maxRecDepth 100000
theorem VY{B t:Int}{c:aG}(r:List Int)(h1:CO B c)(h2:B<2500000000000000000)(h3:1≤r.length)(h4:hK t r=true):z8 (ri r) c=true∧CO (B+2) (rE (ri r) c).1∧0≤(rE (ri r) c).2∧(rE (ri r) c).2≤t:=by
 obtain⟨a,b,j,c1,c2⟩:=FZ (r:=ri r) ⟨r,rfl⟩ (by rw[aY];exact h3) h1 (by omega)
 rw[aY]at c1;rw[mN c1]at c2;have:=aM.1 (List.all_eq_true.1 h4 _ (List.getElem_mem c1));rw[c2];exact⟨a,b,this⟩
def r0:RM:=⟨[0,0,0,0],[0,0,0,0],0,0,0,7,true,false⟩
theorem bCM:bFJ=true∧GE=r0.g:=by
 refine aF (t:=a4A) (P:=fun q=>q=r0.g) ?_
 unfold a4A;simp only[bG,dW,wz];rfl
theorem a0H(c:aG)(b1:aE){B:Int}(h:CO B c)(hB:B<300000000000000000):aKZ (V166_0.mk c b1 r0.g 0)=true∧(CO (B+20) (aAZ (V166_0.mk c b1 r0.g 0)).b0∧ ∃ds az:List Int,(aAZ (V166_0.mk c b1 r0.g 0)).b2=RM.g ⟨ds,az,0,0,0,7,true,false⟩∧ds.length=4∧az.length=4∧hK 65535 ds=true∧hK 65535 az=true):=by
 unfold aKZ aAZ;refine gP (Post:=fun w:V166_0=>CO (B+20) w.b0∧ ∃ds az:List Int,w.b2=RM.g ⟨ds,az,0,0,0,7,true,false⟩∧ds.length=4∧az.length=4∧hK 65535 ds=true∧hK 65535 az=true) (eC (fun(m:Nat) (v:V166_0)=>CO (B+4*(4-m)) v.b0∧ ∃i:Nat,v.s4=(i:Int)∧i+m=4∧ ∃ds az:List Int,v.b2=RM.g ⟨ds,az,0,0,0,7,true,false⟩∧ds.length=4∧az.length=4∧hK 65535 ds=true∧hK 65535 az=true) _ ?_ 9223372036854775808 4 _ ⟨h.mono (by omega),0,rfl,by omega,_,_,rfl,rfl,rfl,by decide,by decide⟩ (by omega))
 rintro m v ⟨h1,i,h4,h5,ds,az,h6,h7,h8,h9,h10⟩
 obtain⟨a1,a2,a3,a4⟩:=VY [0,1,2,5,128,255,32768,65535] h1 (by omega) (by decide) (t:=65535) (by decide)
 obtain⟨b1,b2,b3,b4⟩:=VY [0,2,20,40,100,300,301,384,448,500,65534] a2 (by omega) (by decide) (t:=65535) (by decide)
 simp only[BY,EE]at a1 a2 a3 a4 b1 b2 b3 b4;have e1:aV (i:Int) 1=((i+1:Nat):Int):=by rw[bJ (by omega)];omega
 unfold MT;by_cases hi:i<4
 ·obtain⟨s1,s2,s3,s4,-⟩:=fV (l:=ds) (i:=(i:Int)) (v:=0) h7 (aM.2 (by omega))
  obtain⟨u1,u2,u3,u4,-⟩:=fV (l:=az) (i:=(i:Int)) (v:=0) h8 (aM.2 (by omega))
  rw[Nat.zero_add,Int.toNat_natCast]at s1 s2 u1 u2;have l0:ltI (i:Int) 4=true:=by rw[dM];omega
  simp only[bG,IF,IE,BE,sG,BD,ID,IC,wE,pV,BC,h4,h6,l0,e1,a1,b1,eM,eN,aW,cH,aU,bE,aT,aR,aP,aY,dT,List.length_set,Nat.zero_add,Int.toNat_natCast,s1,s2,s3,s4,u1,u2,u3,u4,bX,wz,bZ];exact⟨m-1,by omega,b2.mono (by omega),i+1,rfl,by omega,_,_,rfl,by rw[List.length_set];exact h7,by rw[List.length_set];exact h8,sR h9 a3 a4,sR h10 b3 b4⟩
 ·have l0:ltI (i:Int) 4=false:=by rw[mB];omega
  simp only[bG,h4,l0,bX];exact⟨h1.mono (by omega),ds,az,h6,h7,h8,h9,h10⟩
theorem aE9{d a:List Int}{x y z f mk:Int}{p q:Bool}(hd:d.length=4)(wd:hK 65536 d=true)(ha:a.length=4)(wa:hK 65535 a=true)(hx:0≤x∧x≤65535)(hy:0≤y∧y≤65535)(hz:0≤z∧z≤65535)(hf:0≤f∧f<32)(hm:0≤mk∧mk≤8): ∃r:RM,aE.mk (ri d) (ri (a.set 3 x)) y z f mk p q=r.g∧r.Ok 65536:=
 ⟨⟨d,a.set 3 x,y,z,f,mk,p,q⟩,rfl,by decide,by decide,hd,by rw[List.length_set];exact ha,wd,sR wa hx.1 hx.2,aM.2 hy,aM.2 hz,aM.2 ⟨hf.1,(by omega:f≤31)⟩,aM.2 ⟨hm.1,(by omega:mk≤65536-65528)⟩⟩
theorem bU5{c:aG}{B:Int}(h:CO B c)(hB:B<200000000000000000):bOB c=true∧(CO (B+60) (PE c).1∧ ∃r:RM,(PE c).2=r.g∧r.Ok 65536):=by
 refine aF (t:=a4B c) (P:=fun q=>CO (B+60) q.1∧ ∃r:RM,q.2=r.g∧r.Ok 65536) ?_
 obtain⟨n1,n2⟩:=bCM;obtain⟨a1,a2,ds,az,a3,a4,a5,a6,a7⟩:=a0H c ⟨[],[],0,0,0,0,false,false⟩ h (by omega)
 rw[←n2]at a1 a2 a3;obtain⟨b1,b2,b3,b4⟩:=VY [200,202,380,65534,0,301] a2 (by omega) (by decide) (t:=65535) (by decide)
 obtain⟨c1,c2,c3,c4⟩:=VY [300,0,447] b2 (by omega) (by decide) (t:=65535) (by decide)
 obtain⟨d1,d2,d3,d4⟩:=VY [0,2,10,40,384,3,448] c2 (by omega) (by decide) (t:=65535) (by decide)
 simp only[BY,EE]at b1 b2 b3 b4 c1 c2 c3 c4 d1 d2 d3 d4;obtain⟨e1,e2,e3,e4,-⟩:=eE 32 d2 (by omega)
 have e4:=e4 (by omega)
 obtain⟨f1,f2,f3,f4,-⟩:=eE 8 e2 (by omega)
 have f4:=f4 (by omega)
 obtain⟨i1,i2⟩:=B9 3 f2 (by omega)
 obtain⟨j1,j2⟩:=B9 8 i2 (by omega)
 obtain⟨l1,l2,-⟩:=eE 60 j2 (by omega)
 obtain⟨s1,s2,s3,s4,-⟩:=fV (l:=ds) (i:=0) (v:=0) a4 (by decide)
 obtain⟨u1,u2,u3,u4,-⟩:=fV (l:=az) (i:=3) (v:=0) a5 (by decide)
 rw[Nat.zero_add]at s1 s2 u1 u2;have t0:Int.toNat 0=0:=rfl;rw[t0]at s1 s2;rw[b0T]at u1 u2;have wd:hK 65536 ds=true:=by
  unfold hK at a6⊢;rw[List.all_eq_true]at*;intro z hz;have:=aM.1 (a6 z hz);exact aM.2 (by omega)
 unfold a4B;simp only[bG,aA4,aA3,aA2,aA1,aK1,yL,BF,yK,MV,aK0,MU,IG,aA0,jA,n1,a1,a3,b1,c1,d1,e1,f1,i1,j1,l1,eM,eN,aW,cH,aU,bE,aT,aR,aP,aY,dT,List.length_set,s1,s2,s3,s4,u1,u2,u3,u4,dW,wz,bZ];have ds4:(ds.set 0 65536).length=4:=by rw[List.length_set];exact a4
 have ds5:hK 65536 (ds.set 0 65536)=true:=sR wd (by decide) (by decide)
 have lz:=l2.mono (C:=B+60) (by omega)
 exact⟨fun _=>⟨lz,aE9 ds4 ds5 a5 a7 ⟨b3,b4⟩ ⟨c3,c4⟩ ⟨d3,d4⟩ ⟨e3,e4⟩ ⟨f3,by omega⟩⟩,fun _=>⟨fun _=>⟨lz,aE9 a4 wd a5 a7 ⟨b3,b4⟩ ⟨c3,c4⟩ ⟨d3,d4⟩ ⟨e3,e4⟩ ⟨by decide,by decide⟩⟩,fun _=>⟨lz,aE9 a4 wd a5 a7 ⟨b3,b4⟩ ⟨c3,c4⟩ ⟨d3,d4⟩ ⟨e3,e4⟩ ⟨f3,by omega⟩⟩⟩⟩
end Go.Proofs.YtdicpjkdpliofaaGreatBoundaries
