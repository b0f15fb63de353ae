import Derived.Test.YtdicpjkdpliofaaGreatZqMasksQ
import Derived.Test.YtdicpjkdpliofaaGreatZmc
set_option linter.unusedVariables false
set_option linter.unusedSimpArgs false
namespace Go.Proofs.YtdicpjkdpliofaaGreatMasks
open Go Go.Zq
set_option maxHeartbeats 4000000
set_option maxRecDepth 100000
theorem ef (a b : Int) (h : eqI a b = false := by rfl) : eqI a b = false := h
theorem et (a b : Int) (h : eqI a b = true := by rfl) : eqI a b = true := h
@[simp] theorem oV(x a b:Int):wJ x a b=bS x a b:=by
  simp only[wJ,dA,aW5,oL,iB,jO,leI,bS,ge_iff_le];cases decide (a≤x)<;>rfl
@[simp] theorem oW(x a b:Int):yU x a b=true:=by
  simp[yU,dA,aW5]
@[simp] theorem yD(x a b:Int):wH x a b=bS x a b:=by
  simp only[wH,dA,aV9,oL,iB,jO,leI,bS,ge_iff_le];cases decide (a≤x)<;>rfl
@[simp] theorem yE(x a b:Int):yT x a b=true:=by
  simp[yT,dA,aV9]
theorem R6{zs:List Int}{i:Nat}(h:i<zs.length)(hz:bS zs[i] 0 255=false):cZ zs=false:=by
 unfold cZ;rw[List.all_eq_false];exact⟨zs[i],List.getElem_mem h,by simp[hz]⟩
theorem R7{zs:List Int}(h: ∀j(hj:j<zs.length),bS zs[j] 0 255=true):cZ zs=true:=by
 unfold cZ;rw[List.all_eq_true];intro z hz;obtain⟨j,hj,rfl⟩:=List.getElem_of_mem hz;exact h j hj
theorem bA8(zs:List Int)(hl:zs.length<1000000):aFU (V245_0.mk (ri zs) (bL (ri zs)) 0)=true∧(ltI (X8 (V245_0.mk (ri zs) (bL (ri zs)) 0)).s7 (X8 (V245_0.mk (ri zs) (bL (ri zs)) 0)).s6=!cZ zs):=by
 unfold aFU X8;refine jL (Post:=fun w=>ltI w.s7 w.s6=!cZ zs) (eO (fun n v=> ∃i:Nat,v=V245_0.mk (ri zs) (bL (ri zs)) i∧i≤zs.length∧n=zs.length-i∧ ∀j(hj:j<zs.length),j<i→bS zs[j] 0 255=true) _ ?_ 9223372036854775808 zs.length _ ⟨0,rfl,by omega,by omega,fun j _ h=>absurd h (by omega)⟩ (by omega))
 rintro n v ⟨i,rfl,hi,rfl,hall⟩
 unfold KK;simp only[aZ,dJ,aR,aQ,aY,dW,oU,true_and,Int.toNat_natCast];constructor
 ·intro h;have hi':i<zs.length:=by omega
  rw[tY hi',pO hi',yD,yE];refine⟨rfl,rfl,fun hz=>?_,fun hz=>?_⟩
  ·rw[R6 hi' (by simpa using hz)]
   simpa [ltI]using h
  ·refine⟨_,?_,i+1,?_,by omega,rfl,?_⟩
   ·omega
   ·rw[bP (by omega)];rfl
   ·intro j hj hji;by_cases e:j=i
    ·subst e;simpa using hz
    ·exact hall j hj (by omega)
 ·intro h;rw[R7 fun j hj=>hall j hj (by omega)]
  simpa [ltI]using h
theorem VR(zs:List Int)(hl:zs.length<1000000):aWV (ri zs)=true∧aRZ (ri zs)=cZ zs:=by
 obtain⟨h1,h2⟩:=bA8 zs hl;unfold aWV aRZ a7F aFV;rw[dA,dA];simp only[yB,G5,oT,oL,C4,iB,h1,h2,Bool.true_and];cases cZ zs<;>exact⟨rfl,rfl⟩
theorem aS2(xs ys:List Int)(hl:xs.length<1000000)(he:xs.length=ys.length):a2Y (V24_0.mk (ri xs) (ri ys) (bL (ri xs)) 0)=true∧(ltI (aPB (V24_0.mk (ri xs) (ri ys) (bL (ri xs)) 0)).s13 (aPB (V24_0.mk (ri xs) (ri ys) (bL (ri xs)) 0)).s12=!decide (xs=ys)):=by
 unfold a2Y aPB;refine jL (Post:=fun w=>ltI w.s13 w.s12=!decide (xs=ys)) (eO (fun n v=> ∃i:Nat,v=V24_0.mk (ri xs) (ri ys) (bL (ri xs)) i∧i≤xs.length∧n=xs.length-i∧ ∀j(hj:j<xs.length),j<i→xs[j]=ys[j]) _ ?_ 9223372036854775808 xs.length _ ⟨0,rfl,by omega,by omega,fun j _ h=>absurd h (by omega)⟩ (by omega))
 rintro n v ⟨i,rfl,hi,rfl,hall⟩
 unfold VO;simp only[aZ,dJ,aR,aQ,aY,dW,oU,true_and,Int.toNat_natCast];constructor
 ·intro h;have hi':i<xs.length:=by omega
  have hy':i<ys.length:=by omega
  rw[tY hi',pO hi',tY hy',pO hy'];refine⟨rfl,fun hz=>?_,fun hz=>?_⟩
  ·have:xs≠ys:=fun e=>by subst e;simp at hz
   rw[decide_eq_false this];simpa [ltI]using h
  ·refine⟨_,?_,i+1,?_,by omega,rfl,?_⟩
   ·omega
   ·rw[bP (by omega)];rfl
   ·intro j hj hji;by_cases e:j=i
    ·subst e;simpa using hz
    ·exact hall j hj (by omega)
 ·intro h;rw[decide_eq_true (List.ext_getElem he fun j h1 h2=>hall j h1 (by omega))]
  simpa [ltI]using h
theorem v6(xs ys:List Int)(hl:xs.length<1000000):k24 (ri xs) (ri ys)=true∧g24 (ri xs) (ri ys)=decide (xs=ys):=by
 unfold k24 g24 T24 a2Z;rw[dA,dA];by_cases he:xs.length=ys.length
 ·obtain⟨h1,h2⟩:=aS2 xs ys hl he;have e:cV (bL (ri xs)) (bL (ri ys))=false:=by simp[he,aY]
  simp only[yB,G5,oT,oL,C4,iB,h1,h2,e,Bool.true_and,cond_false];cases decide (xs=ys)<;>exact⟨rfl,rfl⟩
 ·have e:cV (bL (ri xs)) (bL (ri ys))=true:=by simp[aY];omega
  have:xs≠ys:=fun e=>he (by rw[e])
  simp only[yB,G5,oT,oL,C4,iB,e,decide_eq_false this,Bool.true_and,cond_true,and_self]
def CO(B:Int)(c:aI):Prop:=CurOk B c.fcode c.fat
theorem CO.mono{B C:Int}{c:aI}(h:CO B c)(hB:B≤C):CO C c:=CurOk.mono h hB
theorem bO3(s:Int):0≤vB .i64 (a58 .u64 (aVQ .u64 s 40) 255)∧vB .i64 (a58 .u64 (aVQ .u64 s 40) 255)<256:=by
 have e:aVQ .u64 s 40=Int.fdiv s 1099511627776:=by
  unfold aVQ;rw[show((2:Int)^min (Int.toNat 40) IntKind.u64.bits)=1099511627776 from by decide]
 unfold vB a58;rw[e];exact a57 s
theorem a3A{B:Int}{c:aI}(h:CO B c)(hB:B<4000000000000000000):a59 c=true∧(CO (B+1) (AY c).1∧0≤(AY c).2∧(AY c).2<256):=by
 refine aE (t:=aV4 c) (P:=fun r=>CO (B+1) r.1∧0≤r.2∧r.2<256) ?_
 obtain⟨h1,h2,h3⟩:=h;have ha:aV c.fat 1=c.fat+1:=bP (by omega)
 have hc:CurOk (B+1) c.fcode (c.fat+1):=⟨h1,by omega,by omega⟩
 have hv:0≤PI c∧PI c<256:=by
  unfold PI;cases hl:ltI c.fat (bL c.fcode)
  ·simp
  ·have hl':c.fat<(c.fcode.length:Int):=by simpa using hl
   obtain⟨z,-,e,z0,z1⟩:=aEK h1 (j:=c.fat.toNat) (by omega)
   rw[cond_true,e,aPF (by omega)]
   exact⟨z0,z1⟩
 have hr:(gN [.int .u8] c.fcode c.fat||!(ltI c.fat (bL c.fcode)))=true:=by
  cases hl:ltI c.fat (bL c.fcode)
  ·simp
  ·have hl':c.fat<(c.fcode.length:Int):=by simpa using hl
   rw[PH h1 h2 hl'];rfl
 unfold aV4;simp only[aZ,dJ,aR,hr,ha,Bool.and_true,true_and];exact⟨fun _=>⟨hc,hv⟩,fun _=>⟨hc,bO3 _⟩⟩
theorem dZ{B:Int}{c:aI}(n:Int)(h:CO B c)(hB:B<3000000000000000000):wG n c=true∧(CO (B+2) (cK n c).1∧0≤(cK n c).2∧(2≤n→(cK n c).2<n)∧(n≤1→(cK n c).2=0)):=by
 refine aE (t:=T83 n c) (P:=fun r=>CO (B+2) r.1∧0≤r.2∧(2≤n→r.2<n)∧(n≤1→r.2=0)) ?_
 obtain⟨k1,c1,v0,v1⟩:=a3A h (by omega)
 obtain⟨k2,c2,w0,w1⟩:=a3A c1 (by omega)
 unfold T83;simp only[aZ,dJ,aR,k1,k2,j8,aC2,qX,I6,o8,Bool.and_true,true_and];refine⟨fun hn=>⟨h.mono (by omega),by omega,by omega,fun _=>trivial⟩,fun hn=>⟨fun hb=>⟨by omega,c2.mono (by omega),?_⟩,fun hb=>⟨by omega,c1.mono (by omega),?_⟩⟩⟩
 ·have e:dB (AY c).2 256=(AY c).2*256:=hF (by omega)
  rw[e,bP (by omega)]
  obtain⟨r0,r1⟩:=NJ (x:=(AY c).2*256+(AY (AY c).1).2) (n:=n) (by omega) (by omega)
  exact⟨r0,fun _=>r1,by omega⟩
 ·obtain⟨r0,r1⟩:=NJ (x:=(AY c).2) (n:=n) (by omega) (by omega)
  exact⟨r0,fun _=>r1,by omega⟩
theorem EO{B:Int}{c:aI}(n:Int)(h:CO B c)(hB:B<3000000000000000000):k84 n c=true∧CO (B+2) (oE n c).1:=by
 refine aE (t:=T84 n c) (P:=fun r=>CO (B+2) r.1) ?_
 obtain⟨k1,c1,-⟩:=dZ n h hB;unfold T84;simp only[aZ,aR,k1,Bool.and_true,true_and];exact c1
theorem aPG{B:Int}{c:aI}{r:List Row}(hr:Num r)(hl:1≤r.length)(h:CO B c)(hB:B<3000000000000000000):D1 r c=true∧(CO (B+2) (uJ r c).1∧ ∃j,j<r.length∧(uJ r c).2=bD r j 0):=by
 refine aE (t:=aV7 r c) (P:=fun q=>CO (B+2) q.1∧ ∃j,j<r.length∧q.2=bD r j 0) ?_
 obtain⟨k1,c1,v0,v1,v2⟩:=dZ (bL r) h hB;rw[aQ]at k1 c1 v0 v1 v2;have hj:(cK (r.length:Int) c).2<(r.length:Int):=by
  by_cases h2:r.length=1
  ·rw[v2 (by omega)];omega
  ·exact v1 (by omega)
 unfold aV7;simp only[aZ,aR,aQ,k1,bJS hr v0 hj,Bool.and_true,true_and];exact⟨c1,_,by omega,rfl⟩
end Go.Proofs.YtdicpjkdpliofaaGreatMasks

namespace Go.Proofs.YtdicpjkdpliofaaGreatMasks
open Go Go.Zq
set_option maxHeartbeats 4000000
set_option maxRecDepth 100000
def Acc(r:List Row):Prop:= ∃l:List aA,r=l.map aA.row
theorem aAN{l:List aA}{i:Nat}(h:i<l.length):gN [.int .i64, .int .i64, .int .i64, .int .i64, .int .i64] (l.map aA.row) (i:Int)=true∧aA.at (l.map aA.row) i 0=l[i]:=by
 have e:(l.map aA.row).getD i []=aA.row l[i]:=by simp[List.getD_eq_getElem?_getD,h]
 constructor
 ·simp only[gN,dM,Int.toNat_natCast,e,List.length_map];have:Nat.blt i l.length=true:=by simpa using h
  rw[this];rfl
 ·unfold aA.at bD uW;rw[e];rfl
structure BV(b:bG):Prop where
 n:Num b.Bytes
 a:Acc b.Log
 nb:b.Bytes.length≤512
 nl:b.Log.length≤1000
theorem MN{r:List Row}:eD (0+r.length) r.length=true∧qN (0+r.length) r.length=true:=by simp
theorem EP{n:Nat}(h:n≤2000):qN (vC n 8) 140737488355328=true∧qN (vC n 40) 140737488355328=true∧qN n 140737488355328=true∧qN (vC (0+n) 8) 140737488355328=true∧qN (vC (0+n) 40) 140737488355328=true∧qN (0+n) 140737488355328=true∧qN (vC (n+1) 8) 140737488355328=true∧qN (vC (n+1) 40) 140737488355328=true∧qN (n+1) 140737488355328=true:=by
 simp only[I5,aAM];omega
theorem a3B(a:Int):a9W a=true∧a9V a=bS a 0 65535:=by
 constructor
 ·simp[a9W,dA,a0E]
 ·simp[a9V,dA,a0E]
theorem LH(a:Int):k87 a=true∧g87 a=bS a 0 65535:=by
 constructor
 ·simp[k87,dA,T87]
 ·simp[g87,dA,T87]
def cT(s v:Int):Bool:=bif eqI s 1 then bS v 0 255 else bif eqI s 2 then bS v 0 65535 else false
theorem a3C(s:Int):aRU s=true∧aCE s=(eqI s 1||eqI s 2):=by
 constructor
 ·simp[aRU,dA,aE7]
 ·simp only[aCE,dA,aE7,oL,iB];cases eqI s 1<;>rfl
theorem a3D(s:Int):aR4 s=true∧aCL s=(eqI s 1||eqI s 2):=by
 constructor
 ·simp[aR4,dA,aF6]
 ·simp only[aCL,dA,aF6,oL,iB];cases eqI s 1<;>rfl
theorem aJJ:IW 1=true∧wL 1=256:=by
 refine aE (t:=aH2 1) (P:=fun r=>r=256) ?_
 unfold aH2;simp only[aZ,aR]
 decide+kernel
theorem aJK:IW 2=true∧wL 2=65536:=by
 refine aE (t:=aH2 2) (P:=fun r=>r=65536) ?_
 unfold aH2;simp only[aZ,aR]
 decide+kernel
theorem aJL:CF 1=true∧pK 1=256:=by
 refine aE (t:=aF7 1) (P:=fun r=>r=256) ?_
 unfold aF7;simp only[aZ,aR]
 decide+kernel
theorem aJM:CF 2=true∧pK 2=65536:=by
 refine aE (t:=aF7 2) (P:=fun r=>r=65536) ?_
 unfold aF7;simp only[aZ,aR]
 decide+kernel
theorem VS(s v:Int):a0D s v=true∧a0C s v=cT s v:=by
 refine aE (t:=a0B s v) (P:=fun r=>r=cT s v) ?_
 unfold a0B cT;rw[(a3C s).1,(a3C s).2];by_cases h1:s=1
 ·subst h1;rw[aJJ.1,aJJ.2,show bZ 256 1=255 from by decide]
  simp[show eqI 1 1=true from rfl]
 ·by_cases h2:s=2
  ·subst h2;rw[aJK.1,aJK.2,show bZ 65536 1=65535 from by decide]
   simp[show eqI 2 1=false from rfl,show eqI 2 2=true from rfl]
  ·have e1:eqI s 1=false:=by simp[h1]
   have e2:eqI s 2=false:=by simp[h2]
   simp[e1,e2]
theorem bCY(s v:Int):bE6 s v=true∧bE5 s v=cT s v:=by
 refine aE (t:=aXK s v) (P:=fun r=>r=cT s v) ?_
 unfold aXK cT;rw[(a3D s).1,(a3D s).2];by_cases h1:s=1
 ·subst h1;rw[aJL.1,aJL.2,show bZ 256 1=255 from by decide]
  simp[show eqI 1 1=true from rfl]
 ·by_cases h2:s=2
  ·subst h2;rw[aJM.1,aJM.2,show bZ 65536 1=65535 from by decide]
   simp[show eqI 2 1=false from rfl,show eqI 2 2=true from rfl]
  ·have e1:eqI s 1=false:=by simp[h1]
   have e2:eqI s 2=false:=by simp[h2]
   simp[e1,e2]
def accB(a:aA):Bool:=bS a.Kind 1 3&&(bS a.Addr 0 65535&&(cT a.Size a.Value&&(bS a.Code 0 3&&!(eqI a.Kind 3&&eqI a.Code 0))))
theorem bCZ(a:aA):bHN a=true∧bHM a=accB a:=by
 refine aE (t:=a0F a) (P:=fun r=>r=accB a) ?_
 unfold a0F accB;simp only[aZ,dJ,aR,aH4,aH3,yD,yE,(a3B _).1,(a3B _).2,(VS _ _).1,(VS _ _).2,Bool.and_true,Bool.true_or,true_and];cases bS a.Kind 1 3<;>cases cT a.Size a.Value<;>cases bS a.Addr 0 65535<;>cases bS a.Code 0 3<;>cases h:eqI a.Kind 3<;>cases h2:eqI a.Code 0<;>simp_all
theorem bC0(a:aA):bE8 a=true∧bE7 a=accB a:=by
 refine aE (t:=aXM a) (P:=fun r=>r=accB a) ?_
 unfold aXM accB;simp only[aZ,aR,aGA,aF9,oV,oW,(LH _).1,(LH _).2,(bCY _ _).1,(bCY _ _).2,Bool.and_true,Bool.true_or,true_and];cases bS a.Kind 1 3<;>cases cT a.Size a.Value<;>cases bS a.Addr 0 65535<;>cases bS a.Code 0 3<;>cases eqI a.Kind 3<;>cases eqI a.Code 0<;>rfl
theorem aPH{α:Type}{p:α→Bool}{l:List α}{i:Nat}(h:i<l.length)(hz:p l[i]=false):l.all p=false:=by
 rw[List.all_eq_false];exact⟨l[i],List.getElem_mem h,by simp[hz]⟩
theorem aPI{α:Type}{p:α→Bool}{l:List α}(h: ∀j(hj:j<l.length),p l[j]=true):l.all p=true:=by
 rw[List.all_eq_true];intro z hz;obtain⟨j,hj,rfl⟩:=List.getElem_of_mem hz;exact h j hj
end Go.Proofs.YtdicpjkdpliofaaGreatMasks

namespace Go.Proofs.YtdicpjkdpliofaaGreatMasks
open Go Go.Zq
set_option maxHeartbeats 4000000
set_option maxRecDepth 100000
theorem aS3(zs:List Int)(hl:zs.length<1000000):RH (V245v1_0.mk (ri zs) (bL (ri zs)) 0)=true∧(ltI (IY (V245v1_0.mk (ri zs) (bL (ri zs)) 0)).s7 (IY (V245v1_0.mk (ri zs) (bL (ri zs)) 0)).s6=!cZ zs):=by
 unfold RH IY;refine jL (Post:=fun w=>ltI w.s7 w.s6=!cZ zs) (eO (fun n v=> ∃i:Nat,v=V245v1_0.mk (ri zs) (bL (ri zs)) i∧i≤zs.length∧n=zs.length-i∧ ∀j(hj:j<zs.length),j<i→bS zs[j] 0 255=true) _ ?_ 9223372036854775808 zs.length _ ⟨0,rfl,by omega,by omega,fun j _ h=>absurd h (by omega)⟩ (by omega))
 rintro n v ⟨i,rfl,hi,rfl,hall⟩
 unfold yW;simp only[aZ,dJ,aR,aQ,aY,dW,oU,true_and,Int.toNat_natCast];constructor
 ·intro h;have hi':i<zs.length:=by omega
  rw[tY hi',pO hi',yD,yE];refine⟨rfl,rfl,fun hz=>?_,fun hz=>?_⟩
  ·rw[R6 hi' (by simpa using hz)]
   simpa [ltI]using h
  ·refine⟨_,?_,i+1,?_,by omega,rfl,?_⟩
   ·omega
   ·rw[bP (by omega)];rfl
   ·intro j hj hji;by_cases e:j=i
    ·subst e;simpa using hz
    ·exact hall j hj (by omega)
 ·intro h;rw[R7 fun j hj=>hall j hj (by omega)]
  simpa [ltI]using h
theorem aC3(zs:List Int)(hl:zs.length<1000000):ZR (ri zs)=true∧ZQ (ri zs)=cZ zs:=by
 obtain⟨h1,h2⟩:=aS3 zs hl;unfold ZR ZQ ZP RJ;rw[dA,dA];simp only[yB,G5,oT,oL,C4,iB,h1,h2,Bool.true_and];cases cZ zs<;>exact⟨rfl,rfl⟩
theorem bA9(b:bG)(l:List aA)(hl:l.length≤2000):aH5 (V177_0.mk b (l.map aA.row) (bL (l.map aA.row)) 0)=true∧((RL (V177_0.mk b (l.map aA.row) (bL (l.map aA.row)) 0)).b0=b∧ltI (RL (V177_0.mk b (l.map aA.row) (bL (l.map aA.row)) 0)).s8 (RL (V177_0.mk b (l.map aA.row) (bL (l.map aA.row)) 0)).s7=!l.all accB):=by
 unfold aH5 RL;refine jL (Post:=fun w:V177_0=>w.b0=b∧ltI w.s8 w.s7=!l.all accB) (eO (fun(m:Nat) (v:V177_0)=> ∃i:Nat,v=V177_0.mk b (l.map aA.row) (bL (l.map aA.row)) i∧i+m=l.length∧ ∀j(hj:j<l.length),j<i→accB l[j]=true) _ ?_ 9223372036854775808 l.length _ ⟨0,rfl,by omega,fun j _ h=>absurd h (by omega)⟩ (by omega))
 rintro m v ⟨i,rfl,hi,hall⟩
 unfold K8;simp only[bF,eA,wz,aQ,List.length_map,dW,oU,Int.toNat_natCast];constructor
 ·intro h;have hi':i<l.length:=by omega
  obtain⟨p1,p2⟩:=aAN hi';rw[p1,p2,(bCZ _).1,(bCZ _).2];refine⟨rfl,rfl,fun hz=>?_,fun hz=>?_⟩
  ·rw[aPH hi' (by simpa using hz)]
   simpa [ltI]using h
  ·refine⟨m-1,by omega,i+1,?_,by omega,?_⟩
   ·rw[bP (by omega)];rfl
   ·intro j hj hji;by_cases e:j=i
    ·subst e;simpa using hz
    ·exact hall j hj (by omega)
 ·intro h;rw[aPI fun j hj=>hall j hj (by omega)]
  simpa [ltI]using h
theorem bJU{b:bG}(h:BV b){zs:List Int}{l:List aA}(hz:b.Bytes=ri zs)(hl:b.Log=l.map aA.row):bHQ b=true∧bHP b=(eqI (zs.length:Int) 512&&(leI (l.length:Int) 400&&(cZ zs&&l.all accB))):=by
 refine aE (t:=a0G b) (P:=fun r=>r=(eqI (zs.length:Int) 512&&(leI (l.length:Int) 400&&(cZ zs&&l.all accB)))) ?_
 have n1:=h.nb;have n2:=h.nl;rw[hz,aY]at n1;rw[hl,List.length_map]at n2;obtain⟨a1,a2,a3⟩:=bA9 b l (by omega)
 rw[aQ,List.length_map]at a1 a2 a3;obtain⟨c1,c2⟩:=aC3 zs (by omega)
 unfold a0G;simp only[bF,CS,eA,wz,hl,a1,a2,a3,hz,c1,c2,aQ,aY,List.length_map];cases l.all accB<;>cases eqI (zs.length:Int) 512<;>cases leI (l.length:Int) 400<;>cases cZ zs<;>simp
structure B512(b:bG):Prop where
 z: ∃zs:List Int,b.Bytes=ri zs∧zs.length=512
 l:b.Log=[]
theorem NK{V:Type}{N:V→Pt (Option V)}(st:Nat→V)(n:Nat)(hn:n<1000000)(h: ∀i,i<n→(N (st i)).Sat (fun r=>r=some (st (i+1))))(he:(N (st n)).Sat (fun r=>r=none)):(hid (dV N 9223372036854775808 (st 0))).isSome=true∧(hid (dV N 9223372036854775808 (st 0))).getD (st 0)=st n:=by
 refine jL (Post:=fun w=>w=st n) (eO (fun(m:Nat) (v:V)=> ∃i,i+m=n∧v=st i) _ ?_ 9223372036854775808 n _ ⟨0,by omega,rfl⟩ (by omega))
 rintro m v ⟨i,hi,rfl⟩
 have mono: ∀{α:Type}{P Q:α→Prop},(∀a,P a→Q a)→ ∀{t:Pt α},t.Sat P→t.Sat Q:=fun{α P Q} hPQ t=>by
  induction t with
  |leaf a=>exact hPQ a
  |ok b x ih=>exact fun h=>⟨h.1,ih h.2⟩
  |br b x y ix iy=>exact fun h=>⟨fun e=>ix (h.1 e),fun e=>iy (h.2 e)⟩
 by_cases e:i=n
 ·subst e;exact mono (fun r hr=>by subst hr;rfl) he
 ·exact mono (fun r hr=>by subst hr;exact⟨m-1,by omega,i+1,by omega,rfl⟩) (h i (by omega))
def i5(a:Int):Int:=bif bS a 448 495||leI 512 a then 1 else bif bS a 384 447 then 3 else 0
theorem a3E(a:Int):a8Y a=true∧aYL a=i5 a:=by
 refine aE (t:=aYK a) (P:=fun r=>r=i5 a) ?_
 unfold aYK i5;have e:jO a 512=leI 512 a:=rfl;simp only[aZ,dJ,aR,oV,oW,e,Bool.and_true,true_and];cases bS a 448 495<;>cases leI 512 a<;>cases bS a 384 447<;>simp
theorem a3F(a:Int):aSV a=true∧aIE a=i5 a:=by
 refine aE (t:=a0Z a) (P:=fun r=>r=i5 a) ?_
 unfold a0Z i5;have e:jO a 512=leI 512 a:=rfl;simp only[aZ,dJ,aR,yD,yE,e,Bool.and_true,Bool.true_or,true_and];cases bS a 448 495<;>cases leI 512 a<;>cases bS a 384 447<;>simp
def dK(k s a:Int):Int:=bif eqI s 2&&eqI (a%2) 1 then 2 else bif eqI (i5 a) 1||eqI (i5 (a+s-1)) 1 then 1 else bif eqI k 2&&(eqI (i5 a) 3||eqI (i5 (a+s-1)) 3)then 3 else 0
theorem bJV(k s a:Int)(h:bS a 0 65535=true)(hs:bS s 0 2=true):bFP k s a=true∧KP k s a=dK k s a:=by
 refine aE (t:=aYM k s a) (P:=fun r=>r=dK k s a) ?_
 rw[aW]at h hs;have e:bZ (aV a s) 1=a+s-1:=by rw[bP (by omega),eE (by omega)]
 unfold aYM dK;simp only[aZ,dJ,aR,aG0,(a3E _).1,(a3E _).2,bJT h.1,e,Bool.and_true,true_and];cases eqI s 2<;>cases eqI (a%2) 1<;>cases eqI (i5 a) 1<;>cases eqI (i5 (a+s-1)) 1<;>cases eqI k 2<;>cases eqI (i5 a) 3<;>cases eqI (i5 (a+s-1)) 3<;>simp
theorem bJW(k s a:Int)(h:bS a 0 65535=true)(hs:bS s 0 2=true):bH0 k s a=true∧ZU k s a=dK k s a:=by
 refine aE (t:=a00 k s a) (P:=fun r=>r=dK k s a) ?_
 rw[aW]at h hs;have e:bZ (aV a s) 1=a+s-1:=by rw[bP (by omega),eE (by omega)]
 unfold a00 dK;simp only[aZ,dJ,aR,aIF,(a3F _).1,(a3F _).2,bO2,e,Bool.and_true,Bool.true_or,true_and];cases eqI s 2<;>cases eqI (a%2) 1<;>cases eqI (i5 a) 1<;>cases eqI (i5 (a+s-1)) 1<;>cases eqI k 2<;>cases eqI (i5 a) 3<;>cases eqI (i5 (a+s-1)) 3<;>simp
theorem a3G(k s a:Int):bS (dK k s a) 0 3=true:=by
 unfold dK;cases eqI s 2&&eqI (a%2) 1<;>cases eqI (i5 a) 1||eqI (i5 (a+s-1)) 1<;>cases eqI k 2&&(eqI (i5 a) 3||eqI (i5 (a+s-1)) 3)<;>rfl
theorem I9{a:Int}:(i5 a≠1→a<448∨(496≤a∧a<512))∧(i5 a≠1→i5 a≠3→a<384∨496≤a):=by
 unfold i5;cases h1:bS a 448 495<;>cases h2:leI 512 a<;>cases h3:bS a 384 447<;>simp[bS]at* <;>omega
theorem aAO{k s a:Int}(h:dK k s a=0):dK 1 s a=0∧(a<448∨(496≤a∧a<512))∧(a+s-1<448∨(496≤a+s-1∧a+s-1<512))∧(k=2→(a<384∨496≤a)∧(a+s-1<384∨496≤a+s-1)):=by
 unfold dK at*;cases h1:eqI s 2&&eqI (a%2) 1
 ·cases h2:eqI (i5 a) 1||eqI (i5 (a+s-1)) 1
  ·rw[h1,h2]at h;rw[Bool.or_eq_false_iff,eT,eT]at h2;refine⟨rfl,I9.1 h2.1,I9.1 h2.2,fun e=>?_⟩
   subst e;cases h3:eqI (i5 a) 3||eqI (i5 (a+s-1)) 3
   ·rw[Bool.or_eq_false_iff,eT,eT]at h3;exact⟨I9.2 h2.1 h3.1,I9.2 h2.2 h3.2⟩
   ·rw[h3,show eqI 2 2=true from rfl]at h;simp at h
  ·rw[h1,h2]at h;simp at h
 ·rw[h1]at h;simp at h
end Go.Proofs.YtdicpjkdpliofaaGreatMasks

namespace Go.Proofs.YtdicpjkdpliofaaGreatMasks
open Int renaming toNat_natCast → q_m
open Go Go.Zq
set_option maxHeartbeats 4000000
set_option maxRecDepth 100000
def wk(s v:Int)(a:Nat)(zs:List Int):Nat→List Int
 |0=>zs
 |1=>zs.set a (bif eqI s 1 then v%256 else v/256)
 |_=>(zs.set a (v/256)).set (a+1) (v%256)
def rkq(a:Nat)(zs:List Int):Nat→Int
 |0=>0
 |1=>zs.getD a 0
 |_=>zs.getD a 0*256+zs.getD (a+1) 0
theorem sM{zs:List Int}{i:Nat}(h:i<zs.length):zs.getD i 0=zs[i]:=by simp[List.getD_eq_getElem?_getD,h]
theorem JA{zs:List Int}(h:cZ zs=true){i:Nat}(hi:i<zs.length):0≤zs[i]∧zs[i]<256:=by
 have:=List.all_eq_true.1 h _ (List.getElem_mem hi);rw[aW]at this;omega
structure TouchOk(s v:Int)(zs:List Int)(l:List aA):Prop where
 hs:s=1∨s=2
 hv:cT s v=true
 hz:zs.length=512
 hb:cZ zs=true
 hl:l.length≤400
theorem NL{s v:Int}(hs:s=1∨s=2)(h:cT s v=true):0≤v∧v<65536∧(s=1→v<256):=by
 unfold cT at h;rcases hs with rfl|rfl
 ·rw[show eqI 1 1=true from rfl,cond_true,aW]at h;omega
 ·rw[show eqI 2 1=false from rfl,show eqI 2 2=true from rfl,cond_true,cond_false,aW]at h;omega
theorem w9{zs:List Int}{a:Nat}(h:a<zs.length):leI 0 (a:Int)=true∧ltI (a:Int) (zs.length:Int)=true∧blt a zs.length=true∧jT (jU (ri zs) a) 1=true∧dM [.int .i64] (ri zs) a 0=true:=by
 refine⟨by simp,by simp;exact h,by simp;exact h,by rw[w8 h];rfl,I8 ⟨zs,rfl⟩ (by rw[aY];exact h)⟩
theorem bO4{v:Int}:lO v 0=v:=by rw[qY (n:=0) 0 rfl (by omega)];simp
theorem bJX{v:Int}:lO v 8=v/256:=by rw[qY (n:=8) 8 rfl (by omega)];rfl
theorem bBA{s v:Int}{a:Nat}{zs:List Int}{l:List aA}(h:TouchOk s v zs l)(hc:dK 2 s a=0):aIH (V341_0.mk ⟨ri zs,l.map aA.row⟩ 2 s a v 0 v 0)=true∧aIG (V341_0.mk ⟨ri zs,l.map aA.row⟩ 2 s a v 0 v 0)=V341_0.mk ⟨ri (wk s v a zs s.toNat),l.map aA.row⟩ 2 s a v 0 v s:=by
 obtain⟨-,q1,q2,q3⟩:=aAO hc;obtain⟨v0,v1,v2⟩:=NL h.hs h.hv;have hz:=h.hz;have hl:=h.hl;have e22:eqI 2 2=true:=rfl;have an:aD v 255=v%256:=yC v0 (by omega)
 have an8:aD (v/256) 255=v/256:=by rw[yC (by omega) (by omega)];omega
 have:=NK (N:=sA) (fun i=>V341_0.mk ⟨ri (wk s v a zs i),l.map aA.row⟩ 2 s a v 0 v i) s.toNat (by rcases h.hs with rfl|rfl<;>decide) ?_ ?_
 ·rw[show((s.toNat:Nat):Int)=s from by rcases h.hs with rfl|rfl<;>rfl]at this
  exact this
 ·intro i hi;have p:aV (a:Int) ((i:Nat):Int)=((a+i:Nat):Int):=by
   have:s.toNat≤2:=by rcases h.hs with rfl|rfl<;>decide
   rw[bP (by omega)];omega
  rcases h.hs with rfl|rfl
  ·obtain rfl:i=0:=by have:Int.toNat 1=1:=rfl;omega
   have p2:vB .u64 (dB 8 (bZ (bZ 1 1) ((0:Nat):Int)))=0:=by decide
   have p3:ltI ((0:Nat):Int) 1=true:=by decide
   have p4:aV ((0:Nat):Int) 1=((0+1:Nat):Int):=by decide
   obtain⟨c1,c2,c3,c4,c5⟩:=w9 (zs:=zs) (a:=a) (by omega)
   unfold sA;simp only[bF,rZ,rY,rX,rW,wk,p,p2,p3,p4,bO4,an,q_m,Nat.zero_add,Nat.add_zero,aQ,aY,dN,List.length_set,eA,wz,e22,show eqI 1 1=true from rfl,show leI 0 0=true from rfl,c1,c2,c3,c4,c5,bT,implies_true,Bool.true_eq_false,false_implies,and_true]
  ·obtain rfl|rfl:i=0∨i=1:=by have:Int.toNat 2=2:=rfl;omega
   ·have p2:vB .u64 (dB 8 (bZ (bZ 2 1) ((0:Nat):Int)))=8:=by decide
    have p3:ltI ((0:Nat):Int) 2=true:=by decide
    have p4:aV ((0:Nat):Int) 1=((0+1:Nat):Int):=by decide
    obtain⟨c1,c2,c3,c4,c5⟩:=w9 (zs:=zs) (a:=a) (by omega)
    unfold sA;simp only[bF,rZ,rY,rX,rW,wk,p,p2,p3,p4,bJX,an8,q_m,Nat.zero_add,Nat.add_zero,aQ,aY,dN,List.length_set,eA,wz,e22,show eqI 2 1=false from rfl,show leI 0 8=true from rfl,c1,c2,c3,c4,c5,bT,implies_true,Bool.true_eq_false,false_implies,and_true]
   ·have p2:vB .u64 (dB 8 (bZ (bZ 2 1) ((1:Nat):Int)))=0:=by decide
    have p3:ltI ((1:Nat):Int) 2=true:=by decide
    have p4:aV ((1:Nat):Int) 1=((1+1:Nat):Int):=by decide
    obtain⟨c1,c2,c3,c4,c5⟩:=w9 (zs:=zs.set a (v/256)) (a:=a+1) (by rw[List.length_set];omega)
    rw[List.length_set]at c2 c3;unfold sA;simp only[bF,rZ,rY,rX,rW,wk,p,p2,p3,p4,bO4,an,q_m,Nat.zero_add,aQ,aY,dN,List.length_set,eA,wz,e22,show eqI 2 1=false from rfl,show leI 0 0=true from rfl,c1,c2,c3,c4,c5,bT,implies_true,Bool.true_eq_false,false_implies,and_true]
 ·have p3:ltI ((s.toNat:Nat):Int) s=false:=by rcases h.hs with rfl|rfl<;>decide
  unfold sA;simp only[bF,p3,Bool.false_eq_true,false_implies,implies_true,eA]
theorem bBB{k s v:Int}{a:Nat}{zs:List Int}{l:List aA}(h:TouchOk s v zs l)(hk:eqI k 2=false)(hc:dK k s a=0):aIH (V341_0.mk ⟨ri zs,l.map aA.row⟩ k s a v 0 0 0)=true∧aIG (V341_0.mk ⟨ri zs,l.map aA.row⟩ k s a v 0 0 0)=V341_0.mk ⟨ri zs,l.map aA.row⟩ k s a v 0 (rkq a zs s.toNat) s:=by
 obtain⟨-,q1,q2,q3⟩:=aAO hc;have hz:=h.hz;have hl:=h.hl;have:=NK (N:=sA) (fun i=>V341_0.mk ⟨ri zs,l.map aA.row⟩ k s a v 0 (rkq a zs i) i) s.toNat (by rcases h.hs with rfl|rfl<;>decide) ?_ ?_
 ·rw[show((s.toNat:Nat):Int)=s from by rcases h.hs with rfl|rfl<;>rfl]at this
  exact this
 ·intro i hi;have p:aV (a:Int) ((i:Nat):Int)=((a+i:Nat):Int):=by
   have:s.toNat≤2:=by rcases h.hs with rfl|rfl<;>decide
   rw[bP (by omega)];omega
  have p4:aV ((i:Nat):Int) 1=((i+1:Nat):Int):=by
   have:s.toNat≤2:=by rcases h.hs with rfl|rfl<;>decide
   rw[bP (by omega)];omega
  have ha:a+i<zs.length:=by
   rcases h.hs with rfl|rfl
   ·have:Int.toNat 1=1:=rfl;omega
   ·have:Int.toNat 2=2:=rfl;omega
  obtain⟨c1,c2,c3,c4,c5⟩:=w9 ha;have p3:ltI ((i:Nat):Int) s=true:=by rw[dW];omega
  have p5:cD (hX (rkq a zs i) 8) zs[a+i]=rkq a zs (i+1):=by
   have b1:=JA h.hb ha;obtain rfl|rfl:i=0∨i=1:=by
    have:s.toNat≤2:=by rcases h.hs with rfl|rfl<;>decide
    omega
   ·simp only[rkq];rw[bA7 (by omega) (by omega),R5 (by omega) (by omega) b1.1 b1.2,sM (by omega)]
    simp
   ·have b2:=JA h.hb (i:=a) (by omega)
    simp only[rkq];rw[sM (show a<zs.length by omega),sM ha,bA7 b2.1 (by omega),R5 (by omega) (by omega) b1.1 b1.2]
  unfold sA;simp only[bF,rZ,rY,rX,rW,p,p3,p4,p5,pO ha,q_m,Nat.zero_add,aQ,aY,eA,wz,hk,c1,c2,c3,c4,c5,implies_true,Bool.true_eq_false,Bool.false_eq_true,false_implies,and_true]
 ·have p3:ltI ((s.toNat:Nat):Int) s=false:=by rcases h.hs with rfl|rfl<;>decide
  unfold sA;simp only[bF,p3,Bool.false_eq_true,false_implies,implies_true,eA]
def tB(k s a v:Int)(zs:List Int):List Int:=bif eqI (dK k s a) 0&&eqI k 2 then wk s v a.toNat zs s.toNat else zs
def tV(k s a v:Int)(zs:List Int):Int:=bif eqI k 2 then v else bif eqI (dK k s a) 0 then rkq a.toNat zs s.toNat else 0
def tL(k s a v:Int)(zs:List Int)(l:List aA):List aA:=bif ltI (l.length:Int) 400&&!(eqI k 3&&eqI (dK k s a) 0)then l++[⟨k,s,a,tV k s a v zs,dK k s a⟩]else l
theorem DX(l:List aA)(x:aA):l.map aA.row++[aA.row x]=(l++[x]).map aA.row:=by simp
theorem bBC{k s a v:Int}{zs:List Int}{l:List aA}(h:TouchOk s v zs l)(ha:bS a 0 65535=true):bAE k s a v ⟨ri zs,l.map aA.row⟩=true∧bAD k s a v ⟨ri zs,l.map aA.row⟩=(⟨ri (tB k s a v zs),(tL k s a v zs l).map aA.row⟩,tV k s a v zs,dK k s a):=by
 refine aE (t:=aII k s a v ⟨ri zs,l.map aA.row⟩) (P:=fun r=>r=(⟨ri (tB k s a v zs),(tL k s a v zs l).map aA.row⟩,tV k s a v zs,dK k s a)) ?_
 obtain⟨c1,c2⟩:=bJW k s a ha (by rcases h.hs with rfl|rfl<;>decide)
 have hl:=h.hl;obtain⟨r1,r2,r3,r4,r5,r6,r7,r8,r9⟩:=EP (n:=l.length) (by omega)
 obtain⟨m,rfl⟩: ∃m:Nat,a=(m:Int):=⟨a.toNat,by rw[aW]at ha;omega⟩
 have z1:eD (0+l.length) l.length=true:=by simp
 have z2:qN (0+l.length) l.length=true:=by simp
 have n0:cV (dK k s m) 0=!eqI (dK k s m) 0:=rfl;have n2:cV k 2=!eqI k 2:=rfl;have n3:cV k 3=!eqI k 3:=rfl;cases hc:eqI (dK k s m) 0
 ·unfold aII tB tL tV;simp only[bF,RU,RQ,RP,RO,ZY,xW,jF,c1,c2,hc,n0,n2,n3,z1,z2,r8,r9,DX,bW,aQ,List.length_map,wz,Bool.and_false,Bool.false_and,bT];cases ltI (l.length:Int) 400<;>cases eqI k 2<;>cases eqI k 3<;>simp
 ·have hc':=cY.1 hc;cases hk:eqI k 2
  ·obtain⟨d1,d2⟩:=bBB (a:=m) h hk hc';unfold aII tB tL tV;simp only[bF,RU,RQ,RP,RO,ZY,xW,jF,c1,c2,hc,hc',hk,d1,d2,n2,n3,show cV 0 0=false from rfl,show eqI 0 0=true from rfl,z1,z2,r8,r9,DX,aY,bW,aQ,List.length_map,wz,q_m,Bool.and_false,bT]
   cases ltI (l.length:Int) 400<;>cases eqI k 3<;>simp
  ·obtain rfl:=cY.1 hk;obtain⟨d1,d2⟩:=bBA (a:=m) h hc';unfold aII tB tL tV;simp only[bF,RU,RQ,RP,RO,ZY,xW,jF,c1,c2,hc,hc',hk,d1,d2,n2,n3,show eqI 2 3=false from rfl,show cV 0 0=false from rfl,show eqI 0 0=true from rfl,z1,z2,r8,r9,DX,aY,bW,aQ,List.length_map,wz,q_m,Bool.and_false,Bool.false_and,bT]
   cases ltI (l.length:Int) 400<;>simp
theorem bO5{s v:Int}{a:Nat}{zs:List Int}{l:List aA}(h:TouchOk s v zs l)(hc:dK 2 s a=0):bFS s a v ⟨ri zs,l.map aA.row⟩=true∧IR s a v ⟨ri zs,l.map aA.row⟩=⟨ri (wk s v a zs s.toNat),l.map aA.row⟩:=by
 refine aE (t:=aYN s a v ⟨ri zs,l.map aA.row⟩) (P:=fun r=>r=⟨ri (wk s v a zs s.toNat),l.map aA.row⟩) ?_
 obtain⟨-,q1,q2,q3⟩:=aAO hc;obtain⟨v0,v1,v2⟩:=NL h.hs h.hv;have hz:=h.hz;have an:aD v 255=v%256:=yC v0 (by omega)
 have p:aV (a:Int) 1=((a+1:Nat):Int):=by rw[bP (by omega)];omega
 obtain⟨c1,c2,c3,c4,c5⟩:=w9 (zs:=zs) (a:=a) (by omega)
 unfold aYN;rcases h.hs with rfl|rfl
 ·simp only[bF,YY,YX,YW,YV,QG,YU,show eqI 1 2=false from rfl,an,p,c1,c2,c3,c4,c5,aQ,aY,dN,List.length_set,List.length_map,bW,wz,q_m,Nat.zero_add]
  rfl
 ·obtain⟨d1,d2,d3,d4,d5⟩:=w9 (zs:=zs.set a (v/256)) (a:=a+1) (by rw[List.length_set];omega)
  rw[List.length_set]at d2 d3;simp only[bF,YY,YX,YW,YV,QG,YU,show eqI 2 2=true from rfl,an,p,bJX,c1,c2,c3,c4,c5,d1,d2,d3,d4,d5,aQ,aY,dN,List.length_set,List.length_map,bW,wz,q_m,Nat.zero_add]
  rfl
theorem b0Y{k s v:Int}{a:Nat}{zs:List Int}{l:List aA}(h:TouchOk s v zs l)(hc:dK k s a=0):bFV s a ⟨ri zs,l.map aA.row⟩=true∧aYP s a ⟨ri zs,l.map aA.row⟩=rkq a zs s.toNat:=by
 refine aE (t:=aYO s a ⟨ri zs,l.map aA.row⟩) (P:=fun r=>r=rkq a zs s.toNat) ?_
 obtain⟨-,q1,q2,q3⟩:=aAO hc;have hz:=h.hz;have p:aV (a:Int) 1=((a+1:Nat):Int):=by rw[bP (by omega)];omega
 have ha:a<zs.length:=by omega
 obtain⟨c1,c2,c3,c4,c5⟩:=w9 ha;unfold aYO;rcases h.hs with rfl|rfl
 ·simp only[bF,Y0,YZ,show eqI 1 1=true from rfl,p,c1,c2,c3,c4,c5,pO ha,bW,wz,aQ,aY,q_m,Nat.zero_add]
  exact(sM ha).symm
 ·have ha2:a+1<zs.length:=by omega
  obtain⟨d1,d2,d3,d4,d5⟩:=w9 ha2;have b1:=JA h.hb ha;have b2:=JA h.hb ha2;simp only[bF,Y0,YZ,show eqI 2 1=false from rfl,p,c1,c2,c3,c4,c5,d1,d2,d3,d4,d5,pO ha,pO ha2,bW,wz,aQ,aY,q_m,Nat.zero_add]
  rw[bA7 b1.1 (by omega),R5 b1.1 (by omega) b2.1 b2.2]
  simp only[show Int.toNat 2=2 from rfl,rkq]
  rw[sM ha,sM ha2]
theorem NM{k s a v:Int}{zs:List Int}{l:List aA}(h:TouchOk s v zs l)(ha:bS a 0 65535=true)(hv:eqI k 2=false→v=0):TA k s a v ⟨ri zs,l.map aA.row⟩=true∧S9 k s a v ⟨ri zs,l.map aA.row⟩=(⟨ri (tB k s a v zs),(tL k s a v zs l).map aA.row⟩,(bif eqI k 2 then 0 else tV k s a v zs),dK k s a):=by
 refine aE (t:=aG1 k s a v ⟨ri zs,l.map aA.row⟩) (P:=fun r=>r=(⟨ri (tB k s a v zs),(tL k s a v zs l).map aA.row⟩,(bif eqI k 2 then 0 else tV k s a v zs),dK k s a)) ?_
 obtain⟨c1,c2⟩:=bJV k s a ha (by rcases h.hs with rfl|rfl<;>decide)
 have hl:=h.hl;obtain⟨r1,r2,r3,r4,r5,r6,r7,r8,r9⟩:=EP (n:=l.length) (by omega)
 obtain⟨m,rfl⟩: ∃m:Nat,a=(m:Int):=⟨a.toNat,by rw[aW]at ha;omega⟩
 have z1:eD (0+l.length) l.length=true:=by simp
 have z2:qN (0+l.length) l.length=true:=by simp
 have n0:cV (dK k s m) 0=!eqI (dK k s m) 0:=rfl;have n2:cV k 2=!eqI k 2:=rfl;cases hc:eqI (dK k s m) 0
 ·unfold aG1 tB tL tV;simp only[bF,IU,IT,IS,QR,QQ,QP,QN,QM,QL,QK,QJ,QI,QH,c1,c2,hc,n0,n2,z1,z2,r8,r9,DX,bW,aQ,List.length_map,wz,Bool.and_false,Bool.false_and,bT];cases ltI (l.length:Int) 400<;>cases eqI k 2<;>cases eqI k 3<;>simp
 ·have hc':=cY.1 hc;cases hk:eqI k 2
  ·obtain⟨d1,d2⟩:=b0Y (a:=m) h hc';unfold aG1 tB tL tV;simp only[bF,IU,IT,IS,QR,QQ,QP,QN,QM,QL,QK,QJ,QI,QH,c1,c2,hc,hc',hk,d1,d2,n2,show cV 0 0=false from rfl,show eqI 0 0=true from rfl,z1,z2,r8,r9,DX,aY,bW,aQ,List.length_map,wz,q_m,Bool.and_false,bT]
   cases ltI (l.length:Int) 400<;>cases eqI k 3<;>simp
  ·obtain rfl:=cY.1 hk;obtain⟨d1,d2⟩:=bO5 (a:=m) h hc';unfold aG1 tB tL tV;simp only[bF,IU,IT,IS,QR,QQ,QP,QN,QM,QL,QK,QJ,QI,QH,c1,c2,hc,hc',hk,d1,d2,n2,show eqI 2 3=false from rfl,show cV 0 0=false from rfl,show eqI 0 0=true from rfl,z1,z2,r8,r9,DX,aY,bW,aQ,List.length_map,wz,q_m,Bool.and_false,Bool.false_and,bT]
   cases ltI (l.length:Int) 400<;>simp
end Go.Proofs.YtdicpjkdpliofaaGreatMasks

namespace Go.Proofs.YtdicpjkdpliofaaGreatMasks
open Go Go.Zq
set_option maxHeartbeats 4000000
set_option maxRecDepth 100000
def bN(s:Int):Int:=bif eqI s 1 then 256 else 65536
theorem kT{s:Int}(h:s=1∨s=2):IW s=true∧wL s=bN s:=by
 rcases h with rfl|rfl
 ·exact aJJ
 ·exact aJK
theorem iG{s:Int}(h:s=1∨s=2):CF s=true∧pK s=bN s:=by
 rcases h with rfl|rfl
 ·exact aJL
 ·exact aJM
theorem pQ{s v:Int}(h:cT s v=true):(s=1∨s=2)∧0≤v∧v<bN s:=by
 unfold cT at h;cases e1:eqI s 1
 ·cases e2:eqI s 2
  ·rw[e1,e2]at h;simp at h
  ·rw[e1,e2,cond_true,cond_false,aW]at h;unfold bN;rw[e1];rw[cY]at e2;exact⟨Or.inr e2,by omega,by rw[cond_false];omega⟩
 ·rw[e1,cond_true,aW]at h;unfold bN;rw[e1];rw[cY]at e1;exact⟨Or.inl e1,by omega,by rw[cond_true];omega⟩
def xA(s v:Int):Int:=bif jO v (bN s/2)then v-bN s else v
theorem aJN{s:Int}(h:s=1∨s=2):kF (bN s) 2=bN s/2:=by
 rcases h with rfl|rfl<;>decide
theorem qZ{s:Int}(h:s=1∨s=2):bN s=256∨bN s=65536:=by
 rcases h with rfl|rfl
 ·exact Or.inl rfl
 ·exact Or.inr rfl
theorem EQ{s v:Int}(h:s=1∨s=2)(h0:0≤v)(h1:v<1000000):Z7 s v=true∧Z6 s v=xA s v:=by
 refine aE (t:=a1C s v) (P:=fun r=>r=xA s v) ?_
 have l:=qZ h;have e:bZ v (bN s)=v-bN s:=eE (by omega)
 unfold a1C xA;simp only[aZ,dJ,aR,(kT h).1,(kT h).2,aJN h,e,Bool.and_true,true_and];exact⟨fun hh=>by rw[hh];rfl,fun hh=>by rw[hh];rfl⟩
theorem eU(b:Bool)(x:Int):rP b x=true∧rO b x=bif b then x else 0:=by
 refine aE (t:=WY b x) (P:=fun r=>r=bif b then x else 0) ?_
 unfold WY;simp only[aZ,dJ,aR,true_and];exact⟨fun h=>by rw[h];rfl,fun h=>by rw[h];rfl⟩
theorem AN{s v:Int}(h:s=1∨s=2):aIP s v=true∧aIO s v=cD (bif eqI v 0 then 4 else 0) (bif jO v (bN s/2)then 8 else 0):=by
 refine aE (t:=a1B s v) (P:=fun r=>r=cD (bif eqI v 0 then 4 else 0) (bif jO v (bN s/2)then 8 else 0)) ?_
 unfold a1B;simp only[aZ,aR,(eU _ _).1,(eU _ _).2,(kT h).1,(kT h).2,aJN h,Bool.and_true,true_and]
theorem VT{s v:Int}(h:s=1∨s=2)(h0:0≤v)(h1:v<1000000):aCQ s v=true∧Y7 s v=xA s v:=by
 refine aE (t:=aY1 s v) (P:=fun r=>r=xA s v) ?_
 have l:=qZ h;have e:bZ v (bN s)=v-bN s:=eE (by omega)
 unfold aY1 xA;simp only[aZ,dJ,aR,(iG h).1,(iG h).2,aJN h,e,Bool.and_true,true_and];exact⟨fun hh=>by rw[hh];rfl,fun hh=>by rw[hh];rfl⟩
theorem yF(b:Bool)(x:Int):KS b x=true∧KR b x=bif b then x else 0:=by
 refine aE (t:=aG6 b x) (P:=fun r=>r=bif b then x else 0) ?_
 unfold aG6;simp only[aZ,dJ,aR,true_and];exact⟨fun h=>by rw[h];rfl,fun h=>by rw[h];rfl⟩
theorem aS4{s v:Int}(h:s=1∨s=2):aSE s v=true∧aSD s v=cD (bif eqI v 0 then 4 else 0) (bif jO v (bN s/2)then 8 else 0):=by
 refine aE (t:=aYX s v) (P:=fun r=>r=cD (bif eqI v 0 then 4 else 0) (bif jO v (bN s/2)then 8 else 0)) ?_
 unfold aYX;simp only[aZ,aR,(yF _ _).1,(yF _ _).2,(iG h).1,(iG h).2,aJN h,Bool.and_true,true_and]
def fl(c o z n:Bool):Int:=cD (cD (bif c then 17 else 0) (bif o then 2 else 0)) (cD (bif z then 4 else 0) (bif n then 8 else 0))
theorem mask{s v:Int}(h:s=1∨s=2):aD v (bZ (bN s) 1)=v%bN s:=by
 rcases h with rfl|rfl
 ·exact nZ 8 _ (by omega) (by decide)
 ·exact nZ 16 _ (by omega) (by decide)
def TK(s c a b:Int):Int×Int:=((a+b+c)%bN s,fl (cV (a+b+c) ((a+b+c)%bN s)) (cV (xA s a+xA s b+c) (xA s ((a+b+c)%bN s))) (eqI ((a+b+c)%bN s) 0) (jO ((a+b+c)%bN s) (bN s/2)))
def A5(s a b:Int):Int:=fl (cV (a-b) ((a-b)%bN s)) (cV (xA s a-xA s b) (xA s ((a-b)%bN s))) (eqI ((a-b)%bN s) 0) (jO ((a-b)%bN s) (bN s/2))
theorem xB{s v:Int}(h:s=1∨s=2)(h0:0≤v)(h1:v<bN s): -65536≤xA s v∧xA s v<65536:=by
 have l:=qZ h;unfold xA;cases jO v (bN s/2)
 ·rw[cond_false];omega
 ·rw[cond_true];omega
theorem bBD{s x y:Int}(h:s=1∨s=2):a85 s x y=true∧a84 s x y=(x%bN s,fl (cV x (x%bN s)) (cV y (xA s (x%bN s))) (eqI (x%bN s) 0) (jO (x%bN s) (bN s/2))):=by
 refine aE (t:=aY2 s x y) (P:=fun r=>r=(x%bN s,fl (cV x (x%bN s)) (cV y (xA s (x%bN s))) (eqI (x%bN s) 0) (jO (x%bN s) (bN s/2)))) ?_
 have l:=qZ h;have r0:0≤x%bN s:=Int.emod_nonneg _ (by omega)
 have r1:x%bN s<bN s:=Int.emod_lt_of_pos _ (by omega)
 obtain⟨a1,a2⟩:=VT (v:=x%bN s) h r0 (by omega)
 unfold aY2 fl;simp only[aZ,aR,aG7,(iG h).1,(iG h).2,mask h,a1,a2,(yF _ _).1,(yF _ _).2,(aS4 h).1,(aS4 h).2,Bool.and_true,true_and]
theorem bO6{s c a b:Int}(hc:c=0∨c=1)(ha:cT s a=true)(hb:cT s b=true):bF6 s c a b=true∧bF5 s c a b=TK s c a b:=by
 refine aE (t:=aY5 s c a b) (P:=fun r=>r=TK s c a b) ?_
 obtain⟨h,a0,a1⟩:=pQ ha;obtain⟨-,b0,b1⟩:=pQ hb;have l:=qZ h;have sa:=xB h a0 a1;have sb:=xB h b0 b1;obtain⟨p1,p2⟩:=VT h a0 (by omega)
 obtain⟨q1,q2⟩:=VT h b0 (by omega)
 have e1:aV (aV a b) c=a+b+c:=by rw[bP (x:=a) (by omega),bP (by omega)]
 have e2:aV (aV (xA s a) (xA s b)) c=xA s a+xA s b+c:=by rw[bP (x:=xA s a) (by omega),bP (by omega)]
 unfold aY5;simp only[aZ,aR,aHB,aHA,p1,p2,q1,q2,e1,e2,(bBD h).1,(bBD h).2,Bool.and_true,true_and];rfl
theorem bO7{s c a b:Int}(hc:c=0∨c=1)(ha:cT s a=true)(hb:cT s b=true):bIS s c a b=true∧bIR s c a b=TK s c a b:=by
 refine aE (t:=a14 s c a b) (P:=fun r=>r=TK s c a b) ?_
 obtain⟨h,a0,a1⟩:=pQ ha;obtain⟨-,b0,b1⟩:=pQ hb;have l:=qZ h;have sa:=xB h a0 a1;have sb:=xB h b0 b1;obtain⟨p1,p2⟩:=EQ h a0 (by omega)
 obtain⟨q1,q2⟩:=EQ h b0 (by omega)
 have e1:aV (aV a b) c=a+b+c:=by rw[bP (x:=a) (by omega),bP (by omega)]
 have e2:aV (aV (xA s a) (xA s b)) c=xA s a+xA s b+c:=by rw[bP (x:=xA s a) (by omega),bP (by omega)]
 have r0:0≤(a+b+c)%bN s:=Int.emod_nonneg _ (by omega)
 have r1:(a+b+c)%bN s<bN s:=Int.emod_lt_of_pos _ (by omega)
 obtain⟨t1,t2⟩:=EQ (v:=(a+b+c)%bN s) h r0 (by omega)
 unfold a14 TK fl;simp only[aZ,aR,aJA,aI9,G4,(kT h).1,(kT h).2,mask h,p1,p2,q1,q2,e1,e2,t1,t2,(eU _ _).1,(eU _ _).2,(AN h).1,(AN h).2,Bool.and_true,true_and]
theorem a3I{s a b:Int}(ha:cT s a=true)(hb:cT s b=true):aCT s 0 a b=true∧(Z9 s 0 a b).2=A5 s a b:=by
 refine aE (t:=aIR s 0 a b) (P:=fun r=>r.2=A5 s a b) ?_
 obtain⟨h,a0,a1⟩:=pQ ha;obtain⟨-,b0,b1⟩:=pQ hb;have l:=qZ h;have sa:=xB h a0 a1;have sb:=xB h b0 b1;obtain⟨p1,p2⟩:=EQ h a0 (by omega)
 obtain⟨q1,q2⟩:=EQ h b0 (by omega)
 have e1:bZ (bZ a b) 0=a-b:=by rw[eE (x:=a) (by omega),eE (by omega)];omega
 have e2:bZ (bZ (xA s a) (xA s b)) 0=xA s a-xA s b:=by rw[eE (x:=xA s a) (by omega),eE (by omega)];omega
 have r0:0≤(a-b)%bN s:=Int.emod_nonneg _ (by omega)
 have r1:(a-b)%bN s<bN s:=Int.emod_lt_of_pos _ (by omega)
 obtain⟨t1,t2⟩:=EQ (v:=(a-b)%bN s) h r0 (by omega)
 have e3:ltI (a-b) 0=cV (a-b) ((a-b)%bN s):=by
  cases hh:ltI (a-b) 0
  ·rw[oU]at hh
   symm;rw[VQ,Int.emod_eq_of_lt hh (by omega)]
  ·rw[dW]at hh
   symm;rw[o8];omega
 unfold aIR A5 fl;simp only[aZ,aR,Z8,GX,(kT h).1,(kT h).2,mask h,p1,p2,q1,q2,e1,e2,e3,t1,t2,(eU _ _).1,(eU _ _).2,(AN h).1,(AN h).2,Bool.and_true,true_and]
end Go.Proofs.YtdicpjkdpliofaaGreatMasks

namespace Go.Proofs.YtdicpjkdpliofaaGreatMasks
open Go Go.Zq
set_option maxHeartbeats 4000000
set_option maxRecDepth 100000
theorem uE(a:Int):k92 a=true∧g92 a=bS a 0 65535:=by
 constructor
 ·simp[k92,dA,T92]
 ·simp[g92,dA,T92]
theorem ER(a:Int):k87 a=true∧g87 a=bS a 0 65535:=by
 constructor
 ·simp[k87,dA,T87]
 ·simp[g87,dA,T87]
def v7(s:Int):Bool:=bif eqI s 1 then true else eqI s 2
theorem bC1(s:Int):aRU s=true∧aCE s=v7 s:=by
 refine aE (t:=aE7 s) (P:=fun r=>r=v7 s) ?_
 unfold aE7 v7;simp only[aZ,aR,true_and]
theorem bC2(s:Int):aR4 s=true∧aCL s=v7 s:=by
 refine aE (t:=aF6 s) (P:=fun r=>r=v7 s) ?_
 unfold aF6 v7;simp only[aZ,aR,true_and]
theorem VU(m:Int):aRT m=true∧aRS m=jO m 5:=by
 refine aE (t:=aV6 m) (P:=fun r=>r=jO m 5) ?_
 unfold aV6;simp only[aZ,aR,true_and]
def a3J(m:Int):Bool:=bif (bif eqI m 5 then true else eqI m 6)then true else eqI m 7
theorem aPJ(m:Int):a8M m=true∧a8L m=a3J m:=by
 refine aE (t:=aXV m) (P:=fun r=>r=a3J m) ?_
 unfold aXV a3J;simp only[aZ,aR,true_and]
theorem a3K{m:Int}(h:bS m 0 7=true):a3J m=jO m 5:=by
 rw[aW]at h;unfold a3J;have:m=0∨m=1∨m=2∨m=3∨m=4∨m=5∨m=6∨m=7:=by omega
 rcases this with rfl|rfl|rfl|rfl|rfl|rfl|rfl|rfl<;>rfl
def opB(o:aB):Bool:=bS o.Mode 0 7&&(bS o.Reg 0 3&&((eqI o.Reg 0||ltI o.Mode 6)&&(bS o.Ext 0 65535&&(jO o.Mode 5||eqI o.Ext 0))))
theorem bO8(o:aB):bEO o=true∧bEN o=opB o:=by
 refine aE (t:=aWB o) (P:=fun r=>r=opB o) ?_
 have e1:jO o.Mode 6=!ltI o.Mode 6:=by
  cases h:ltI o.Mode 6
  ·rw[oU]at h;exact I7.2 h
  ·rw[dW]at h;exact a29.2 h
 have e2:cV o.Reg 0=!eqI o.Reg 0:=rfl;unfold aWB opB;simp only[aZ,dJ,aR,yD,yE,(uE _).1,(uE _).2,(VU _).1,(VU _).2,e1,e2,Bool.and_true,Bool.true_or,true_and];cases bS o.Mode 0 7<;>cases bS o.Reg 0 3<;>cases eqI o.Reg 0<;>cases ltI o.Mode 6<;>cases bS o.Ext 0 65535<;>cases jO o.Mode 5<;>simp
theorem bO9(o:aB):bFC o=true∧bFB o=opB o:=by
 refine aE (t:=aXW o) (P:=fun r=>r=opB o) ?_
 have e2:cV o.Ext 0=!eqI o.Ext 0:=rfl;unfold aXW opB;simp only[aZ,dJ,aR,aGF,oV,oW,(ER _).1,(ER _).2,(aPJ _).1,(aPJ _).2,e2,Bool.and_true,Bool.true_or,true_and];cases hm:bS o.Mode 0 7
 ·simp
 ·rw[a3K hm];cases bS o.Reg 0 3<;>cases eqI o.Reg 0<;>cases ltI o.Mode 6<;>cases bS o.Ext 0 65535<;>cases jO o.Mode 5<;>cases eqI o.Ext 0<;>simp
def lJ(m:Int):Bool:=bS m 2 6
def G7(m:Int):Bool:=bif eqI m 0 then true else lJ m
def tZ(m:Int):Bool:=bif (bif eqI m 2 then true else eqI m 5)then true else eqI m 6
def M9(o:aB):Bool:=bif eqI o.Mode 7 then leI o.Ext 1023 else false
def MO(o:aB):Bool:=eqI o.Mode 0&&(eqI o.Reg 0&&eqI o.Ext 0)
theorem hH(m:Int):aRX m=true∧aRW m=lJ m:=by
 refine aE (t:=aWC m) (P:=fun r=>r=lJ m) ?_
 unfold aWC lJ;simp only[aZ,aR,yD,yE,Bool.and_true,true_and]
theorem hK(m:Int):aXZ m=true∧aXY m=lJ m:=by
 refine aE (t:=aXX m) (P:=fun r=>r=lJ m) ?_
 unfold aXX lJ;simp only[aZ,aR,oV,oW,Bool.and_true,true_and]
theorem bC3(m:Int):a8O m=true∧a8N m=G7 m:=by
 refine aE (t:=aX0 m) (P:=fun r=>r=G7 m) ?_
 unfold aX0 G7;simp only[aZ,aR,(hK _).1,(hK _).2,Bool.true_or,Bool.and_true,true_and]
theorem aPK(m:Int):a6F m=true∧a6E m=tZ m:=by
 refine aE (t:=aWD m) (P:=fun r=>r=tZ m) ?_
 unfold aWD tZ;simp only[aZ,aR,true_and]
theorem aPL(m:Int):a8Q m=true∧a8P m=tZ m:=by
 refine aE (t:=aX1 m) (P:=fun r=>r=tZ m) ?_
 unfold aX1 tZ;simp only[aZ,aR,true_and]
theorem bC4(o:aB):a6H o=true∧a6G o=M9 o:=by
 refine aE (t:=aWE o) (P:=fun r=>r=M9 o) ?_
 unfold aWE M9;simp only[aZ,aR,true_and]
theorem aPM(o:aB):a8S o=true∧a8R o=M9 o:=by
 refine aE (t:=aX2 o) (P:=fun r=>r=M9 o) ?_
 unfold aX2 M9;simp only[aZ,aR,true_and]
theorem a3L(o:aB):a6J o=true∧a6I o=MO o:=by
 refine aE (t:=aWF o) (P:=fun r=>r=MO o) ?_
 unfold aWF MO;simp only[aZ,aR,Bool.and_true,true_and]
def C5(x:aF):Bool:=bif (bif cV x.Size 2 then true else pG x.Sub 6)then false else bif eqI x.Sub 3 then(bif eqI x.Reg 0 then M9 x.Ea else false)else bif (bif ltI x.Sub 3 then cV x.Reg 0 else false)then false else MO x.Ea
theorem a3M(x:aF):bFE x=true∧bFD x=C5 x:=by
 refine aE (t:=aX3 x) (P:=fun r=>r=C5 x) ?_
 unfold aX3 C5;simp only[aZ,dJ,aR,(aPM _).1,(aPM _).2,Bool.true_or,Bool.and_true,true_and];refine⟨fun h=>by rw[h];rfl,fun h=>⟨fun k=>by rw[h,k];rfl,fun k=>⟨fun m=>by rw[h,k,m];rfl,fun m=>by rw[h,k,m];rfl⟩⟩⟩
def kB(x:aF):Bool:=
 bif (bif (eqI x.Op 1)then(eqI x.Op 1)else(bif (eqI x.Op 3)then(eqI x.Op 3)else(bif (eqI x.Op 4)then(eqI x.Op 4)else(bif (eqI x.Op 5)then(eqI x.Op 5)else(bif (eqI x.Op 6)then(eqI x.Op 6)else(bif (eqI x.Op 7)then(eqI x.Op 7)else(eqI x.Op 8)))))))then(bif eqI x.Sub 0 then(bif cV x.Ea.Mode 1 then true else eqI x.Size 2)else false)
 else bif eqI x.Op 2 then(bif eqI x.Sub 0 then G7 x.Ea.Mode else false)
 else bif eqI x.Op 9 then(bif eqI x.Size 2 then eqI x.Sub 0 else false)
 else bif eqI x.Op 10 then(bif (bif eqI x.Size 2 then eqI x.Sub 0 else false)then tZ x.Ea.Mode else false)
 else bif eqI x.Op 11 then(bif (bif eqI x.Reg 0 then leI x.Sub 3 else false)then G7 x.Ea.Mode else false)
 else bif eqI x.Op 12 then eqI x.Ea.Mode 0
 else bif eqI x.Op 13 then(bif (bif eqI x.Size 2 then leI x.Reg 1 else false)then eqI x.Ea.Mode 7 else false)
 else bif eqI x.Op 14 then(bif (bif (bif eqI x.Size 2 then eqI x.Reg 0 else false)then leI x.Sub 1 else false)then tZ x.Ea.Mode else false)
 else bif eqI x.Op 15 then C5 x
 else bif (bif eqI x.Op 16 then eqI x.Op 16 else eqI x.Op 17)then(bif (bif eqI x.Size 2 then eqI x.Sub 0 else false)then cV x.Ea.Mode 1 else false)
 else bif eqI x.Op 18 then(bif (bif !(eqI x.Size 2)then leI x.Sub 1 else false)then eqI x.Ea.Mode 0 else false)
 else bif eqI x.Op 19 then(bif eqI x.Size 2 then(bif (bif (bif eqI x.Sub 0 then eqI x.Reg 0 else false)then M9 x.Ea else false)then true else(bif eqI x.Sub 1 then MO x.Ea else false))else false)
 else false
theorem bPA(x:aF):bFG x=true∧bFF x=kB x:=by
 refine aE (t:=aX4 x) (P:=fun r=>r=kB x) ?_
 unfold aX4;simp only[aZ,dJ,aR,aGI,aGH,aGG,QB,(bC3 _).1,(bC3 _).2,(aPL _).1,(aPL _).2,(aPM _).1,(aPM _).2,(a3M _).1,(a3M _).2,Bool.true_or,Bool.and_true,true_and];unfold kB;refine⟨fun h=>by rw[h];rfl,fun h1=>?_⟩
 rw[h1];refine⟨fun h=>by rw[h];rfl,fun h1=>?_⟩
 rw[h1];refine⟨fun h=>by rw[h];rfl,fun h1=>?_⟩
 rw[h1];refine⟨fun h=>by rw[h];rfl,fun h1=>?_⟩
 rw[h1];refine⟨fun h=>by rw[h];rfl,fun h1=>?_⟩
 rw[h1];refine⟨fun h=>by rw[h];rfl,fun h1=>?_⟩
 rw[h1];refine⟨fun h=>by rw[h];rfl,fun h1=>?_⟩
 rw[h1];refine⟨fun h=>by rw[h];rfl,fun h1=>?_⟩
 rw[h1];refine⟨fun h=>by rw[h];rfl,fun h1=>?_⟩
 rw[h1];refine⟨fun h=>by rw[h];rfl,fun h1=>?_⟩
 rw[h1];refine⟨fun h=>by rw[h];rfl,fun h1=>?_⟩
 rw[h1];refine⟨fun h=>by rw[h];rfl,fun h1=>?_⟩
 rw[h1];rfl
end Go.Proofs.YtdicpjkdpliofaaGreatMasks

namespace Go.Proofs.YtdicpjkdpliofaaGreatMasks
open Go Go.Zq
set_option maxHeartbeats 4000000
set_option maxRecDepth 100000
def JB(x:aF):Bool:=bif (bif eqI x.Ea.Mode 7 then eqI x.Size 1 else false)then pG x.Ea.Ext 255 else false
def dU(x:aF):Bool:=v7 x.Size&&(bS x.Reg 0 3&&(opB x.Ea&&(bS x.Sub 0 7&&(!JB x&&kB x))))
theorem fW(x:aF):k86 x=true∧g86 x=dU x:=by
 refine aE (t:=T86 x) (P:=fun r=>r=dU x) ?_
 unfold T86 dU JB;simp only[aZ,aR,aX7,aX6,aX5,oV,oW,(bC2 _).1,(bC2 _).2,(bO9 _).1,(bO9 _).2,(bPA _).1,(bPA _).2,Bool.true_or,Bool.and_true,true_and];cases v7 x.Size<;>cases bS x.Reg 0 3<;>cases opB x.Ea<;>cases bS x.Sub 0 7<;>cases(bif (bif eqI x.Ea.Mode 7 then eqI x.Size 1 else false)then pG x.Ea.Ext 255 else false)<;>rfl
theorem bC5(x:aF)(h:x.Op=15):kB x=C5 x:=by
 unfold kB;rw[h];rfl
theorem fA(x:aF):HG x=true∧HF x=dU x:=by
 refine aE (t:=T91 x) (P:=fun r=>r=dU x) ?_
 unfold T91;simp only[aZ,dJ,aR,aE8,aWN,aWM,aWL,aK3,aWK,aCG,aWJ,aWI,aWH,aWG,yD,yE,(bC1 _).1,(bC1 _).2,(bO8 _).1,(bO8 _).2,(hH _).1,(hH _).2,(aPK _).1,(aPK _).2,(bC4 _).1,(bC4 _).2,(a3L _).1,(a3L _).2,Bool.true_or,Bool.and_true,true_and];have e:dU x=bif (bif (bif (bif (bif !v7 x.Size then true else !bS x.Reg 0 3)then true else !opB x.Ea)then true else !bS x.Sub 0 7)then true else JB x)then false else kB x:=by
  unfold dU;cases v7 x.Size<;>cases bS x.Reg 0 3<;>cases opB x.Ea<;>cases bS x.Sub 0 7<;>cases JB x<;>rfl
 rw[e];refine⟨fun h=>?_,fun h=>?_⟩
 ·have h':(bif (bif (bif (bif (bif !v7 x.Size then true else !bS x.Reg 0 3)then true else !opB x.Ea)then true else !bS x.Sub 0 7)then true else JB x)then false else kB x)=false:=by
   have:(bif (bif (bif (bif !v7 x.Size then true else !bS x.Reg 0 3)then true else !opB x.Ea)then true else !bS x.Sub 0 7)then true else JB x)=true:=h
   rw[this];rfl
  exact h'.symm
 ·have h':(bif (bif (bif (bif (bif !v7 x.Size then true else !bS x.Reg 0 3)then true else !opB x.Ea)then true else !bS x.Sub 0 7)then true else JB x)then false else kB x)=kB x:=by
   have:(bif (bif (bif (bif !v7 x.Size then true else !bS x.Reg 0 3)then true else !opB x.Ea)then true else !bS x.Sub 0 7)then true else JB x)=false:=h
   rw[this];rfl
  rw[h'];by_cases h15:x.Op=15
  ·rw[bC5 x h15];unfold C5;rw[h15];simp only[show eqI 15 1=false from rfl,show eqI 15 2=false from rfl,show eqI 15 3=false from rfl,show eqI 15 4=false from rfl,show eqI 15 5=false from rfl,show eqI 15 6=false from rfl,show eqI 15 7=false from rfl,show eqI 15 8=false from rfl,show eqI 15 9=false from rfl,show eqI 15 10=false from rfl,show eqI 15 11=false from rfl,show eqI 15 12=false from rfl,show eqI 15 13=false from rfl,show eqI 15 14=false from rfl,show eqI 15 15=true from rfl,show eqI 15 16=false from rfl,show eqI 15 17=false from rfl,show eqI 15 18=false from rfl,show eqI 15 19=false from rfl,cond_false,Bool.false_eq_true,Bool.true_eq_false,false_implies,forall_const,true_and,and_true]
   have e6:pG x.Sub 6=!leI x.Sub 6:=by
    cases hh:leI x.Sub 6
    ·rw[aC2]at hh;exact qX.2 hh
    ·rw[j8]at hh;exact I6.2 hh
   have e2:cV x.Size 2=!eqI x.Size 2:=rfl;have e0:cV x.Reg 0=!eqI x.Reg 0:=rfl;refine⟨fun h3=>?_,fun h3=>?_⟩
   ·have l6:leI x.Sub 6=true:=by rw[cY]at h3;rw[j8];omega
    rw[h3,e6,l6,e2];cases eqI x.Size 2<;>cases eqI x.Reg 0<;>rfl
   ·rw[h3,e6,e2,e0];have e3:pG x.Sub 3=!ltI x.Sub 3:=by
     rw[eT]at h3;cases hh:ltI x.Sub 3
     ·rw[oU]at hh;exact qX.2 (by omega)
     ·rw[dW]at hh;exact I6.2 (by omega)
    rw[e3];cases eqI x.Size 2<;>cases leI x.Sub 6<;>cases eqI x.Reg 0<;>cases ltI x.Sub 3<;>cases MO x.Ea<;>rfl
  ·have n15:eqI x.Op 15=false:=by rw[eT];exact h15
   have cm:(bif cV x.Ea.Mode 1 then true else eqI x.Size 2)=bif eqI x.Size 2 then true else cV x.Ea.Mode 1:=by
    cases cV x.Ea.Mode 1<;>cases eqI x.Size 2<;>rfl
   unfold kB;rw[n15,cm];refine⟨fun h=>by rw[h];rfl,fun h1=>?_⟩
   rw[h1];refine⟨fun h=>by rw[h];rfl,fun h1=>?_⟩
   rw[h1];refine⟨fun h=>by rw[h];rfl,fun h1=>?_⟩
   rw[h1];refine⟨fun h=>by rw[h];rfl,fun h1=>?_⟩
   rw[h1];refine⟨fun h=>by rw[h];rfl,fun h1=>?_⟩
   rw[h1];refine⟨fun h=>by rw[h];rfl,fun h1=>?_⟩
   rw[h1];refine⟨fun h=>by rw[h];rfl,fun h1=>?_⟩
   rw[h1];refine⟨fun h=>by rw[h];rfl,fun h1=>?_⟩
   rw[h1];refine⟨fun h=>by rw[h];rfl,fun h1=>?_⟩
   rw[h1];refine⟨fun h=>by rw[h];rfl,fun h1=>?_⟩
   rw[h1];refine⟨fun h=>by rw[h];rfl,fun h1=>?_⟩
   rw[h1];simp only[Bool.false_eq_true,false_implies,forall_const,true_and];rfl
theorem bJY{v:Int}(h:0≤v)(h1:v<65536):hX v 11=v*2048:=by
 unfold hX;rw[show((2:Int)^min (Int.toNat 11) 64)=2048 from by decide,IntKind.wrap_i64]
 omega
theorem bPB{q r:Int}(hq:0≤q)(hq1:q<65536)(hr:0≤r)(hr1:r<2048):cD (q*2048) r=q*2048+r:=by
 obtain⟨a,rfl⟩:=Int.eq_ofNat_of_zero_le hq;obtain⟨b,rfl⟩:=Int.eq_ofNat_of_zero_le hr;unfold cD;rw[BitVec.toNat_or,BitVec.toNat_ofInt,BitVec.toNat_ofInt];have e1:(((a:Int)*2048)%((2^64:Nat):Int)).toNat=2^11*a:=by omega
 have e2:((b:Int)%((2^64:Nat):Int)).toNat=b:=by omega
 rw[e1,e2,←Nat.two_pow_add_eq_or_of_lt (by omega),IntKind.wrap_i64]
 omega
theorem bJZ{v:Int}(h:0≤v)(h1:v<65536):hX v 10=v*1024:=by
 unfold hX;rw[show((2:Int)^min (Int.toNat 10) 64)=1024 from by decide,IntKind.wrap_i64]
 omega
theorem bPC{q r:Int}(hq:0≤q)(hq1:q<65536)(hr:0≤r)(hr1:r<1024):cD (q*1024) r=q*1024+r:=by
 obtain⟨a,rfl⟩:=Int.eq_ofNat_of_zero_le hq;obtain⟨b,rfl⟩:=Int.eq_ofNat_of_zero_le hr;unfold cD;rw[BitVec.toNat_or,BitVec.toNat_ofInt,BitVec.toNat_ofInt];have e1:(((a:Int)*1024)%((2^64:Nat):Int)).toNat=2^10*a:=by omega
 have e2:((b:Int)%((2^64:Nat):Int)).toNat=b:=by omega
 rw[e1,e2,←Nat.two_pow_add_eq_or_of_lt (by omega),IntKind.wrap_i64]
 omega
theorem bPD{v:Int}(h:0≤v)(h1:v<65536):hX v 8=v*256:=by
 unfold hX;rw[show((2:Int)^min (Int.toNat 8) 64)=256 from by decide,IntKind.wrap_i64]
 omega
theorem b0Z{q r:Int}(hq:0≤q)(hq1:q<65536)(hr:0≤r)(hr1:r<256):cD (q*256) r=q*256+r:=by
 obtain⟨a,rfl⟩:=Int.eq_ofNat_of_zero_le hq;obtain⟨b,rfl⟩:=Int.eq_ofNat_of_zero_le hr;unfold cD;rw[BitVec.toNat_or,BitVec.toNat_ofInt,BitVec.toNat_ofInt];have e1:(((a:Int)*256)%((2^64:Nat):Int)).toNat=2^8*a:=by omega
 have e2:((b:Int)%((2^64:Nat):Int)).toNat=b:=by omega
 rw[e1,e2,←Nat.two_pow_add_eq_or_of_lt (by omega),IntKind.wrap_i64]
 omega
theorem bPE{v:Int}(h:0≤v)(h1:v<65536):hX v 5=v*32:=by
 unfold hX;rw[show((2:Int)^min (Int.toNat 5) 64)=32 from by decide,IntKind.wrap_i64]
 omega
theorem b00{q r:Int}(hq:0≤q)(hq1:q<65536)(hr:0≤r)(hr1:r<32):cD (q*32) r=q*32+r:=by
 obtain⟨a,rfl⟩:=Int.eq_ofNat_of_zero_le hq;obtain⟨b,rfl⟩:=Int.eq_ofNat_of_zero_le hr;unfold cD;rw[BitVec.toNat_or,BitVec.toNat_ofInt,BitVec.toNat_ofInt];have e1:(((a:Int)*32)%((2^64:Nat):Int)).toNat=2^5*a:=by omega
 have e2:((b:Int)%((2^64:Nat):Int)).toNat=b:=by omega
 rw[e1,e2,←Nat.two_pow_add_eq_or_of_lt (by omega),IntKind.wrap_i64]
 omega
theorem bPF{v:Int}(h:0≤v)(h1:v<65536):hX v 3=v*8:=by
 unfold hX;rw[show((2:Int)^min (Int.toNat 3) 64)=8 from by decide,IntKind.wrap_i64]
 omega
theorem b01{q r:Int}(hq:0≤q)(hq1:q<65536)(hr:0≤r)(hr1:r<8):cD (q*8) r=q*8+r:=by
 obtain⟨a,rfl⟩:=Int.eq_ofNat_of_zero_le hq;obtain⟨b,rfl⟩:=Int.eq_ofNat_of_zero_le hr;unfold cD;rw[BitVec.toNat_or,BitVec.toNat_ofInt,BitVec.toNat_ofInt];have e1:(((a:Int)*8)%((2^64:Nat):Int)).toNat=2^3*a:=by omega
 have e2:((b:Int)%((2^64:Nat):Int)).toNat=b:=by omega
 rw[e1,e2,←Nat.two_pow_add_eq_or_of_lt (by omega),IntKind.wrap_i64]
 omega
structure Rng(x:aF):Prop where
 o:1≤x.Op∧x.Op≤19
 s:1≤x.Size∧x.Size≤2
 r:0≤x.Reg∧x.Reg≤3
 m:0≤x.Ea.Mode∧x.Ea.Mode≤7
 e:0≤x.Ea.Reg∧x.Ea.Reg≤3
 b:0≤x.Sub∧x.Sub≤7
 xt:0≤x.Ea.Ext∧x.Ea.Ext≤65535
 z:jO x.Ea.Mode 5=false→x.Ea.Ext=0
theorem rng{x:aF}(h:dU x=true):Rng x:=by
 unfold dU opB v7 at h;simp only[Bool.and_eq_true,aW]at h;obtain⟨h1,h2,⟨h3,h4,-,h5,h6⟩,h7,-,h8⟩:=h;refine⟨?_,?_,h2,h3,h4,h7,h5,fun hm=>?_⟩
 ·refine Classical.byContradiction fun hn=>?_
  have z: ∀i:Int,1≤i→i≤19→eqI x.Op i=false:=fun i h1 h2=>by rw[eT];intro e;exact hn (by omega)
  unfold kB at h8;simp only[z 1 (by decide) (by decide),z 2 (by decide) (by decide),z 3 (by decide) (by decide),z 4 (by decide) (by decide),z 5 (by decide) (by decide),z 6 (by decide) (by decide),z 7 (by decide) (by decide),z 8 (by decide) (by decide),z 9 (by decide) (by decide),z 10 (by decide) (by decide),z 11 (by decide) (by decide),z 12 (by decide) (by decide),z 13 (by decide) (by decide),z 14 (by decide) (by decide),z 15 (by decide) (by decide),z 16 (by decide) (by decide),z 17 (by decide) (by decide),z 18 (by decide) (by decide),z 19 (by decide) (by decide),cond_false,Bool.false_eq_true]at h8
 ·cases e:eqI x.Size 1
  ·rw[e,cond_false,cY]at h1;omega
  ·rw[cY]at e;omega
 ·rw[hm]at h6;simpa using h6
def W(x:aF):Int:=x.Op*2048+(x.Size-1)*1024+x.Reg*256+x.Ea.Mode*32+x.Ea.Reg*8+x.Sub
def rA(x:aF):List Int:=bif jO x.Ea.Mode 5 then [W x,x.Ea.Ext]else [W x]
theorem W_i{x:aF}(h:Rng x):aV (aV (aV (aV (aV (dB x.Op 2048) (dB (bZ x.Size 1) 1024)) (dB x.Reg 256)) (dB x.Ea.Mode 32)) (dB x.Ea.Reg 8)) x.Sub=W x:=by
 obtain⟨h1,h2,h3,h4,h5,h6,-,-⟩:=h;unfold W;rw[hF (x:=x.Op) (by omega),eE (by omega),hF (x:=x.Size-1) (by omega),hF (x:=x.Reg) (by omega),hF (x:=x.Ea.Mode) (by omega),hF (x:=x.Ea.Reg) (by omega),bP (x:=x.Op*2048) (by omega),bP (x:=x.Op*2048+(x.Size-1)*1024) (by omega),bP (x:=x.Op*2048+(x.Size-1)*1024+x.Reg*256) (by omega),bP (x:=x.Op*2048+(x.Size-1)*1024+x.Reg*256+x.Ea.Mode*32) (by omega),bP (by omega)]
theorem W_s{x:aF}(h:Rng x):cD (cD (cD (cD (cD (hX x.Op 11) (hX (bZ x.Size 1) 10)) (hX x.Reg 8)) (hX x.Ea.Mode 5)) (hX x.Ea.Reg 3)) x.Sub=W x:=by
 obtain⟨h1,h2,h3,h4,h5,h6,-,-⟩:=h;unfold W;rw[eE (by omega),bJY (by omega) (by omega),bJZ (by omega) (by omega),bPD (by omega) (by omega),bPE (by omega) (by omega),bPF (by omega) (by omega),bPB (by omega) (by omega) (by omega) (by omega)]
 rw[show x.Op*2048+(x.Size-1)*1024=(x.Op*2+(x.Size-1))*1024 from by omega,bPC (by omega) (by omega) (by omega) (by omega)]
 rw[show(x.Op*2+(x.Size-1))*1024+x.Reg*256=((x.Op*2+(x.Size-1))*4+x.Reg)*256 from by omega,b0Z (by omega) (by omega) (by omega) (by omega)]
 rw[show((x.Op*2+(x.Size-1))*4+x.Reg)*256+x.Ea.Mode*32=(((x.Op*2+(x.Size-1))*4+x.Reg)*8+x.Ea.Mode)*32 from by omega,b00 (by omega) (by omega) (by omega) (by omega)]
 rw[show(((x.Op*2+(x.Size-1))*4+x.Reg)*8+x.Ea.Mode)*32+x.Ea.Reg*8=((((x.Op*2+(x.Size-1))*4+x.Reg)*8+x.Ea.Mode)*4+x.Ea.Reg)*8 from by omega,b01 (by omega) (by omega) (by omega) (by omega)]
end Go.Proofs.YtdicpjkdpliofaaGreatMasks

namespace Go.Proofs.YtdicpjkdpliofaaGreatMasks
open Go Go.Zq
set_option maxHeartbeats 4000000
set_option maxRecDepth 100000
structure RM where
 mk::
 (d a:List Int)
 (oth pc fl mask:Int)
 (sup tr:Bool)
def RM.g(r:RM):aG:=⟨ri r.d,ri r.a,r.oth,r.pc,r.fl,r.mask,r.sup,r.tr⟩
def gZ(t:Int)(l:List Int):Bool:=l.all fun z=>bS z 0 t
structure RM.Ok(t:Int)(r:RM):Prop where
 t0:65535≤t
 t1:t≤65536
 d4:r.d.length=4
 a4:r.a.length=4
 dw:gZ t r.d=true
 aw:gZ 65535 r.a=true
 ow:bS r.oth 0 65535=true
 pw:bS r.pc 0 65535=true
 fw:bS r.fl 0 31=true
 mw:bS r.mask 0 (t-65528)=true
def cI(l:List Int)(i:Int):Int:=l.getD i.toNat 0
theorem jM{l:List Int}{i:Int}(hl:l.length=4)(hi:bS i 0 3=true):gN [.int .i64] (ri l) i=true∧bD (ri l) i.toNat 0=cI l i∧i.toNat<l.length:=by
 rw[aW]at hi;obtain⟨n,rfl⟩:=Int.eq_ofNat_of_zero_le hi.1;have hn:n<l.length:=by omega
 rw[Int.toNat_natCast];refine⟨tY hn,?_,hn⟩;rw[pO hn,cI,Int.toNat_natCast,sM hn]
theorem nE{t:Int}{l:List Int}{i:Int}(h:gZ t l=true)(hl:l.length=4)(hi:bS i 0 3=true):0≤cI l i∧cI l i≤t:=by
 obtain⟨-,-,hn⟩:=jM hl hi;have:=List.all_eq_true.1 h _ (List.getElem_mem hn);rw[aW]at this;rw[cI,sM hn];exact this
theorem sE{t:Int}{l:List Int}{i:Nat}{v:Int}(h:gZ t l=true)(h0:0≤v)(h1:v≤t):gZ t (l.set i v)=true:=by
 unfold gZ;rw[List.all_eq_true]at*;intro z hz;rcases List.mem_or_eq_of_mem_set hz with hz|rfl
 ·exact List.all_eq_true.1 h z hz
 ·exact aW.2 ⟨h0,h1⟩
theorem fX{l:List Int}{i:Int}{v:Int}(hl:l.length=4)(hi:bS i 0 3=true):blt (0+i.toNat) l.length=true∧jT (jU (ri l) (0+i.toNat)) 1=true∧leI 0 i=true∧ltI i (l.length:Int)=true∧dM [.int .i64] (ri l) (0+i.toNat) 0=true:=by
 obtain⟨-,-,hn⟩:=jM hl hi;rw[aW]at hi;rw[Nat.zero_add];refine⟨by simpa using hn,by rw[w8 hn];rfl,by simp;omega,by simp;omega,I8 ⟨l,rfl⟩ (by rw[aY];exact hn)⟩
structure MM where
 mk::
 (r:RM)
 (zs:List Int)
 (l:List aA)
 (stop:Bool)
 (f:bO)
def wM(zs:List Int)(l:List aA):bG:=⟨ri zs,l.map aA.row⟩
def MM.g(m:MM):aL:=⟨m.r.g,wM m.zs m.l,m.stop,m.f⟩
structure BusOk(zs:List Int)(l:List aA):Prop where
 hz:zs.length=512
 hb:cZ zs=true
 hl:l.length≤400
 ha:l.all accB=true
structure MM.Ok(t:Int)(m:MM):Prop where
 r:m.r.Ok t
 b:BusOk m.zs m.l
def cE(m:MM):Bool:=eqI m.f.Vector 0
def dQ(m:MM)(k s a v:Int):MM×Int:=({m with zs:=tB k s a v m.zs,l:=tL k s a v m.zs m.l,f:=bif cV (dK k s a) 0&&eqI m.f.Vector 0 then{m.f with Vector:=bif eqI (dK k s a) 2 then 3 else 2,Addr:=a,Write:=eqI k 2}else m.f},tV k s a v m.zs)
def fU(m:MM)(v:Int):MM:=
 bif cE (dQ m 2 2 ((cI m.r.a 3-2)%65536) v).1 then{(dQ m 2 2 ((cI m.r.a 3-2)%65536) v).1 with r:={m.r with a:=m.r.a.set 3 ((cI m.r.a 3-2)%65536)}}else(dQ m 2 2 ((cI m.r.a 3-2)%65536) v).1
def cP(m:MM):MM×Int:=
 (bif cE (dQ m 1 2 (cI m.r.a 3) 0).1 then{(dQ m 1 2 (cI m.r.a 3) 0).1 with r:={m.r with a:=m.r.a.set 3 ((cI m.r.a 3+2)%65536)}}else(dQ m 1 2 (cI m.r.a 3) 0).1,(dQ m 1 2 (cI m.r.a 3) 0).2)
def VV(s k:Int):Int:=bif eqI s 1&&cV k 3 then 1 else 2
def bE(r:RM)(s:Int)(o:aB):RM×Int:=
 bif eqI o.Mode 3 then({r with a:=r.a.set o.Reg.toNat ((cI r.a o.Reg+VV s o.Reg)%65536)},cI r.a o.Reg)
 else bif eqI o.Mode 4 then({r with a:=r.a.set o.Reg.toNat ((cI r.a o.Reg-VV s o.Reg)%65536)},(cI r.a o.Reg-VV s o.Reg)%65536)
 else bif eqI o.Mode 5 then(r,(cI r.a o.Reg+o.Ext)%65536)
 else bif eqI o.Mode 6 then(r,o.Ext)else(r,cI r.a o.Reg)
def uA(r:RM)(s k v:Int):RM:={r with d:=r.d.set k.toNat (bif eqI s 1 then cI r.d k%65536/256*256+v else v)}
def o9(r:RM):Int:=r.fl+32*r.mask+(bif r.sup then 256 else 0)+(bif r.tr then 512 else 0)
def iH(r:RM)(v:Int):RM:=
 bif rD (eqI (v/256%2) 1) r.sup then⟨r.d,r.a,r.oth,r.pc,v%32,v/32%8,r.sup,eqI (v/512%2) 1⟩
 else⟨r.d,r.a.set 3 r.oth,cI r.a 3,r.pc,v%32,v/32%8,!r.sup,eqI (v/512%2) 1⟩
def cL(m:MM)(s:Int)(o:aB):MM×Int×Int:=
 bif eqI o.Mode 0 then(m,cI m.r.d o.Reg%bN s,0)
 else bif eqI o.Mode 1 then(m,cI m.r.a o.Reg,0)
 else bif eqI o.Mode 7 then(m,o.Ext,0)
 else((dQ {m with r:=(bE m.r s o).1} 1 s (bE m.r s o).2 0).1,(dQ {m with r:=(bE m.r s o).1} 1 s (bE m.r s o).2 0).2,(bE m.r s o).2)
end Go.Proofs.YtdicpjkdpliofaaGreatMasks

namespace Go.Proofs.YtdicpjkdpliofaaGreatMasks
open Go Go.Zq
set_option maxHeartbeats 4000000
set_option maxRecDepth 100000
@[simp] theorem eK(m:MM):m.g.fr=m.r.g:=rfl
@[simp] theorem cB(m:MM):m.g.fbus=wM m.zs m.l:=rfl
@[simp] theorem bR(m:MM):m.g.fstop=m.stop:=rfl
@[simp] theorem bI(m:MM):m.g.ffault=m.f:=rfl
@[simp] theorem eL(r:RM):r.g.D=ri r.d:=rfl
@[simp] theorem eN(r:RM):r.g.A=ri r.a:=rfl
@[simp] theorem aN(r:RM):r.g.Other=r.oth:=rfl
@[simp] theorem cJ(r:RM):r.g.PC=r.pc:=rfl
@[simp] theorem aM(r:RM):r.g.Flags=r.fl:=rfl
@[simp] theorem bA(r:RM):r.g.Mask=r.mask:=rfl
@[simp] theorem aO(r:RM):r.g.Super=r.sup:=rfl
@[simp] theorem aP(r:RM):r.g.Trace=r.tr:=rfl
@[simp] theorem aC5(zs:List Int)(l:List aA):(wM zs l).Bytes=ri zs:=rfl
@[simp] theorem aPN(zs:List Int)(l:List aA):(wM zs l).Log=l.map aA.row:=rfl
def aS5(c:aH):Prop:=c.R.D.length≤2000∧c.R.A.length≤2000∧c.Bus.Bytes.length≤2000∧c.Bus.Log.length≤2000
theorem a3N{r:aG}(h1:r.D.length≤2000)(h2:r.A.length≤2000):a0J r=true∧D5 r=r:=by
 refine aE (t:=a0I r) (P:=fun q=>q=r) ?_
 obtain⟨a1,a2,a3,a4,a5,a6,a7,a8,a9⟩:=EP h1;obtain⟨b1,b2,b3,b4,b5,b6,b7,b8,b9⟩:=EP h2;unfold a0I;simp only[bF,eA,wz,bT,(MN).1,(MN).2,a1,a3,a4,a6,b1,b3,b4,b6]
theorem bJ0{b:bG}(h1:b.Bytes.length≤2000)(h2:b.Log.length≤2000):bHT b=true∧a92 b=b:=by
 refine aE (t:=a0P b) (P:=fun r=>r=b) ?_
 obtain⟨a1,a2,a3,a4,a5,a6,a7,a8,a9⟩:=EP h1;obtain⟨b1,b2,b3,b4,b5,b6,b7,b8,b9⟩:=EP h2;unfold a0P;simp only[bF,a0O,a0N,a0M,a0L,a0K,d9,eA,wz,bT,(MN).1,(MN).2,a1,a4,a6,b2,b5,b6]
theorem a3O{c:aH}(h:aS5 c):a94 c=true∧aCS c=c:=by
 refine aE (t:=a0R c) (P:=fun r=>r=c) ?_
 obtain⟨h1,h2,h3,h4⟩:=h;unfold a0R;simp only[bF,aH6,a3N h1 h2,bJ0 h3 h4,eA,wz]
theorem bBE{c:aH}(h:aS5 c):a95 c=true∧qC c=⟨c.R,c.Bus,c.Stop,⟨0,0,0,0,false⟩⟩:=by
 refine aE (t:=a0S c) (P:=fun r=>r=⟨c.R,c.Bus,c.Stop,⟨0,0,0,0,false⟩⟩) ?_
 unfold a0S;simp only[bF,a3O h,eA,wz]
theorem bPG{m:aL}(h:aS5 ⟨m.fr,m.fbus,m.fstop,false⟩):TJ m=true∧I2 m=⟨m.fr,m.fbus,m.fstop,false⟩:=by
 refine aE (t:=a18 m) (P:=fun r=>r=⟨m.fr,m.fbus,m.fstop,false⟩) ?_
 unfold a18;simp only[bF,aAH,a3O h,eA,wz]
@[simp] theorem d6(m:aL):GV m=true∧GU m=eqI m.ffault.Vector 0:=by
  refine aE (t:=a05 m) (P:=fun r=>r=eqI m.ffault.Vector 0) ?_
  unfold a05;simp only[bF,eA,wz]
theorem v8(v:Int):aD v 65535=v%65536:=nZ 16 _ (by omega) (by decide)
theorem bPH(v:Int):0≤v%65536∧v%65536≤65535:=by omega
structure AccOk(s v a:Int)(m:MM):Prop where
 hs:s=1∨s=2
 hv:cT s v=true
 ha:bS a 0 65535=true
theorem AccOk.t{s v a t:Int}{m:MM}(h:AccOk s v a m)(hm:m.Ok t):TouchOk s v m.zs m.l:=⟨h.hs,h.hv,hm.b.hz,hm.b.hb,hm.b.hl⟩
theorem JC{s:Int}(h:s=1∨s=2):cT s 0=true:=by rcases h with rfl|rfl<;>decide
theorem aPO{k s a v t:Int}{m:MM}(hm:m.Ok t)(h:AccOk s v a m):aSW k s a v m.g=true∧yX k s a v m.g=((dQ m k s a v).1.g,(dQ m k s a v).2):=by
 refine aE (t:=a01 k s a v m.g) (P:=fun r=>r=((dQ m k s a v).1.g,(dQ m k s a v).2)) ?_
 obtain⟨a1,a2⟩:=bBC (k:=k) (h.t hm) h.ha;have a1':bAE k s a v (wM m.zs m.l)=true:=a1;have a2':bAD k s a v (wM m.zs m.l)=(wM (tB k s a v m.zs) (tL k s a v m.zs m.l),tV k s a v m.zs,dK k s a):=a2;unfold a01;simp only[bF,ZZ,aIJ,xX,eK,cB,bR,bI,a1',a2',eA,wz];unfold dQ;have e: ∀a b:Bool,(bif a then b else false)=(a&&b):=fun a b=>by cases a<;>rfl
 rw[e];cases cV (dK k s a) 0&&eqI m.f.Vector 0
 ·refine⟨fun q=>absurd q (by decide),fun _=>?_⟩
  rfl
 ·refine⟨fun _=>?_,fun q=>absurd q (by decide)⟩
  cases eqI (dK k s a) 2
  ·exact⟨fun q=>absurd q (by decide),fun _=>rfl⟩
  ·exact⟨fun _=>rfl,fun q=>absurd q (by decide)⟩
theorem LI{zs:List Int}{i:Nat}{x:Int}(h:cZ zs=true)(hx:bS x 0 255=true):cZ (zs.set i x)=true:=by
 unfold cZ;rw[List.all_eq_true]at*;intro z hz;rcases List.mem_or_eq_of_mem_set hz with hz|rfl
 ·exact List.all_eq_true.1 h z hz
 ·exact hx
theorem a3P{k s a v:Int}{zs:List Int}{l:List aA}(h:TouchOk s v zs l):cZ (tB k s a v zs)=true:=by
 obtain⟨v0,v1,v2⟩:=NL h.hs h.hv;unfold tB;cases eqI (dK k s a) 0&&eqI k 2
 ·exact h.hb
 ·rw[cond_true];rcases h.hs with rfl|rfl
  ·exact LI h.hb (by rw[show eqI 1 1=true from rfl,cond_true,aW];omega)
  ·exact LI (LI h.hb (by rw[aW];omega)) (by rw[aW];omega)
theorem bJ1{s v:Int}{a:Nat}{zs:List Int}{l:List aA}(h:TouchOk s v zs l):cT s (rkq a zs s.toNat)=true:=by
 have get: ∀i,0≤zs.getD i 0∧zs.getD i 0<256:=fun i=>by
  by_cases hi:i<zs.length
  ·rw[sM hi];exact JA h.hb hi
  ·simp[List.getD_eq_getElem?_getD,List.getElem?_eq_none (by omega:zs.length≤i)]
 have g1:=get a;have g2:=get (a+1);rcases h.hs with rfl|rfl
 ·show cT 1 (zs.getD a 0)=true
  unfold cT;rw[show eqI 1 1=true from rfl,cond_true,aW];omega
 ·show cT 2 (zs.getD a 0*256+zs.getD (a+1) 0)=true
  unfold cT;rw[show eqI 2 1=false from rfl,show eqI 2 2=true from rfl,cond_false,cond_true,aW];omega
end Go.Proofs.YtdicpjkdpliofaaGreatMasks

namespace Go.Proofs.YtdicpjkdpliofaaGreatMasks
open Go Go.Zq
set_option maxHeartbeats 4000000
set_option maxRecDepth 100000
theorem a3Q{k s a v:Int}{zs:List Int}{l:List aA}(h:TouchOk s v zs l):cT s (tV k s a v zs)=true:=by
 unfold tV;cases eqI k 2
 ·cases eqI (dK k s a) 0
  ·exact JC h.hs
  ·exact bJ1 h
 ·exact h.hv
theorem bPI{k s a v:Int}{zs:List Int}{l:List aA}(h:TouchOk s v zs l)(ha:bS a 0 65535=true)(hk:bS k 1 3=true)(hl:l.all accB=true):(tL k s a v zs l).length≤400∧(tL k s a v zs l).all accB=true:=by
 have h1:=h.hl;unfold tL;cases hc:ltI (l.length:Int) 400&&!(eqI k 3&&eqI (dK k s a) 0)
 ·exact⟨h1,hl⟩
 ·rw[Bool.and_eq_true,dW]at hc;rw[cond_true,List.length_append,List.all_append,hl];refine⟨by simp;omega,?_⟩
  simp only[List.all_cons,List.all_nil,Bool.and_true,Bool.true_and,accB,hk,ha,a3Q h,a3G,hc.2]
theorem bJ2(k s a v:Int)(zs:List Int):(tB k s a v zs).length=zs.length:=by
 unfold tB;cases eqI (dK k s a) 0&&eqI k 2
 ·rfl
 ·rw[cond_true]
  match s.toNat with
  |0=>rfl
  |1=>simp[wk]
  |n+2=>simp[wk]
theorem R8{k s a v t:Int}{m:MM}(hm:m.Ok t)(h:AccOk s v a m)(hk:bS k 1 3=true):(dQ m k s a v).1.Ok t∧cT s (dQ m k s a v).2=true:=by
 have hT:=h.t hm;obtain⟨l1,l2⟩:=bPI (k:=k) hT h.ha hk hm.b.ha;exact⟨⟨hm.r,⟨by show(tB k s a v m.zs).length=512;rw[bJ2];exact hm.b.hz,a3P hT,l1,l2⟩⟩,a3Q hT⟩
theorem dY{α:Type}{b:Bool}{x y:α}{P:α→Prop}(h1:b=true→P x)(h2:b=false→P y):P (bif b then x else y):=by
 cases b
 ·exact h2 rfl
 ·exact h1 rfl
theorem RM.Ok.setA{t v:Int}{r:RM}{i:Nat}(h:r.Ok t)(h0:0≤v)(h1:v≤65535):RM.Ok t {r with a:=r.a.set i v}:=⟨h.t0,h.t1,h.d4,by simpa using h.a4,h.dw,sE h.aw h0 h1,h.ow,h.pw,h.fw,h.mw⟩
theorem RM.Ok.setD{t v:Int}{r:RM}{i:Nat}(h:r.Ok t)(h0:0≤v)(h1:v≤t):RM.Ok t {r with d:=r.d.set i v}:=⟨h.t0,h.t1,by simpa using h.d4,h.a4,sE h.dw h0 h1,h.aw,h.ow,h.pw,h.fw,h.mw⟩
theorem RM.Ok.setP{t v:Int}{r:RM}(h:r.Ok t)(h1:bS v 0 65535=true):RM.Ok t {r with pc:=v}:=⟨h.t0,h.t1,h.d4,h.a4,h.dw,h.aw,h.ow,h1,h.fw,h.mw⟩
theorem RM.Ok.setF{t v:Int}{r:RM}(h:r.Ok t)(h1:bS v 0 31=true):RM.Ok t {r with fl:=v}:=⟨h.t0,h.t1,h.d4,h.a4,h.dw,h.aw,h.ow,h.pw,h1,h.mw⟩
theorem in3:bS 3 0 3=true:=by decide
theorem bPJ:Int.toNat 3=3:=rfl
theorem aJO{t:Int}{r:RM}(h:r.Ok t):0≤cI r.a 3∧cI r.a 3≤65535:=nE h.aw h.a4 in3
theorem bJ3{v:Int}(h0:0≤v)(h1:v≤65535):cT 2 v=true:=by
 unfold cT;rw[show eqI 2 1=false from rfl,show eqI 2 2=true from rfl,cond_false,cond_true,aW];omega
theorem C6{v:Int}(h:cT 2 v=true):0≤v∧v≤65535:=by
 unfold cT at h;rw[show eqI 2 1=false from rfl,show eqI 2 2=true from rfl,cond_false,cond_true,aW]at h;omega
theorem R9{t v:Int}{m:MM}(hm:m.Ok t)(h0:0≤v)(h1:v≤65535):AccOk 2 v ((cI m.r.a 3-2)%65536) m:=⟨Or.inr rfl,bJ3 h0 h1,aW.2 (by omega)⟩
theorem yY{t:Int}{r:RM}(h:r.Ok t):ltI 3 (r.a.length:Int)=true∧dM [.int .i64] (ri r.a) 3 0=true∧bD (ri r.a) 3 0=cI r.a 3∧blt 3 r.a.length=true∧jT (jU (ri r.a) 3) 1=true∧aD (bZ (cI r.a 3) 2) 65535=(cI r.a 3-2)%65536∧aD (aV (cI r.a 3) 2) 65535=(cI r.a 3+2)%65536:=by
 have h4:=h.a4;have hr:=aJO h;obtain⟨-,d2,d3⟩:=jM h.a4 in3;obtain⟨s1,s2,s3,s4,s5⟩:=fX (v:=0) h.a4 in3;rw[Nat.zero_add,bPJ]at s1 s2 s5;refine⟨s4,s5,d2,s1,s2,?_,?_⟩
 ·rw[eE (by omega),v8]
 ·rw[bP (by omega),v8]
@[simp] theorem bC6(m:MM)(k s a v:Int):(dQ m k s a v).1.r=m.r:=rfl
@[simp] theorem bPK(m:MM)(k s a v:Int):(dQ m k s a v).1.stop=m.stop:=rfl
theorem bJ4{v t:Int}{m:MM}(hm:m.Ok t)(h0:0≤v)(h1:v≤65535):bIC v m.g=true∧bIB v m.g=(fU m v).g:=by
 refine aE (t:=a1I v m.g) (P:=fun r=>r=(fU m v).g) ?_
 obtain⟨b1,b2,b3,b4,b5,b6,b7⟩:=yY hm.r;obtain⟨a1,a2⟩:=aPO (k:=2) hm (R9 hm h0 h1);unfold a1I fU cE;simp only[bF,aIZ,aIY,a1H,aAE,aIX,oK,eK,cB,bI,eL,eN,aC5,aPN,aQ,aY,b1,b2,b3,b4,b5,b6,a1,a2,d6,bC6,eA,wz,dN,List.length_set,List.length_map];refine⟨fun q=>?_,fun q=>?_⟩
 ·rw[q];rfl
 ·rw[q];rfl
theorem bBF{v t:Int}{m:MM}(hm:m.Ok t)(h0:0≤v)(h1:v≤65535):(fU m v).Ok t:=by
 obtain⟨a1,-⟩:=R8 (k:=2) hm (R9 hm h0 h1) (by decide)
 unfold fU;refine dY (P:=fun q=>MM.Ok t q) (fun _=>⟨hm.r.setA (by omega) (by omega),a1.b⟩) (fun _=>a1)
theorem aAP{t:Int}{m:MM}(hm:m.Ok t):AccOk 2 0 (cI m.r.a 3) m:=⟨Or.inr rfl,by decide,by have:=aJO hm.r;rw[aW];exact this⟩
theorem bC7{t:Int}{m:MM}(hm:m.Ok t):a1N m.g=true∧jI m.g=((cP m).1.g,(cP m).2):=by
 refine aE (t:=a1M m.g) (P:=fun r=>r=((cP m).1.g,(cP m).2)) ?_
 obtain⟨b1,b2,b3,b4,b5,b6,b7⟩:=yY hm.r;obtain⟨a1,a2⟩:=aPO (k:=1) hm (aAP hm);unfold a1M cP cE;simp only[bF,aI1,aI0,jH,eK,cB,bI,eL,eN,aC5,aPN,aQ,aY,b1,b2,b3,b4,b5,b7,a1,a2,d6,bC6,eA,wz,dN,List.length_set,List.length_map];refine⟨fun q=>?_,fun q=>?_⟩
 ·rw[q];rfl
 ·rw[q];rfl
theorem LJ{t:Int}{m:MM}(hm:m.Ok t):(cP m).1.Ok t∧0≤(cP m).2∧(cP m).2≤65535:=by
 obtain⟨a1,a2⟩:=R8 (k:=1) hm (aAP hm) (by decide)
 refine⟨?_,C6 a2⟩;unfold cP;refine dY (P:=fun q=>MM.Ok t q) (fun _=>⟨hm.r.setA (by omega) (by omega),a1.b⟩) (fun _=>a1)
end Go.Proofs.YtdicpjkdpliofaaGreatMasks

namespace Go.Proofs.YtdicpjkdpliofaaGreatMasks
open Go Go.Zq
set_option maxHeartbeats 4000000
set_option maxRecDepth 100000
theorem bPL(s k:Int):a97 s k=true∧a96 s k=VV s k:=by
 refine aE (t:=a0X s k) (P:=fun r=>r=VV s k) ?_
 have e:(bif eqI s 1 then cV k 3 else false)=(eqI s 1&&cV k 3):=by cases eqI s 1<;>rfl
 unfold a0X VV;simp only[aZ,dJ,aR,e,true_and];exact⟨fun h=>by rw[h];rfl,fun h=>by rw[h];rfl⟩
theorem a3R(s k:Int):VV s k=1∨VV s k=2:=by
 unfold VV;cases eqI s 1&&cV k 3
 ·exact Or.inr rfl
 ·exact Or.inl rfl
structure OpOk(o:aB):Prop where
 hm:bS o.Mode 0 7=true
 hr:bS o.Reg 0 3=true
 he:bS o.Ext 0 65535=true
theorem OpOk.of{o:aB}(h:opB o=true):OpOk o:=by
 unfold opB at h;simp only[Bool.and_eq_true]at h;exact⟨h.1,h.2.1,h.2.2.2.1⟩
theorem aPP{t s:Int}{r:RM}{o:aB}(h:r.Ok t)(ho:OpOk o):a98 r.g s o=true∧A0 r.g s o=((bE r s o).1.g,(bE r s o).2):=by
 refine aE (t:=a0Y r.g s o) (P:=fun q=>q=((bE r s o).1.g,(bE r s o).2)) ?_
 obtain⟨d1,d2,d3⟩:=jM h.a4 ho.hr;obtain⟨s1,s2,s3,s4,s5⟩:=fX (v:=0) h.a4 ho.hr;rw[Nat.zero_add]at s1 s2 s5;obtain⟨q1,q2⟩:=nE h.aw h.a4 ho.hr;have hb:=a3R s o.Reg;have he:=aW.1 ho.he;have e1:aD (aV (cI r.a o.Reg) (VV s o.Reg)) 65535=(cI r.a o.Reg+VV s o.Reg)%65536:=by rw[bP (by omega),v8]
 have e2:aD (bZ (cI r.a o.Reg) (VV s o.Reg)) 65535=(cI r.a o.Reg-VV s o.Reg)%65536:=by rw[eE (by omega),v8]
 have e3:aD (aV (cI r.a o.Reg) o.Ext) 65535=(cI r.a o.Reg+o.Ext)%65536:=by rw[bP (by omega),v8]
 unfold a0Y bE;simp only[bF,aID,aIC,aIB,aIA,aH9,aH8,aH7,eL,eN,aQ,aY,Nat.zero_add,(bPL _ _).1,(bPL _ _).2,d2,s1,s2,s3,s4,s5,e1,e2,e3,dN,List.length_set,eA,wz];refine⟨fun q=>by rw[q];rfl,fun q=>?_⟩
 rw[q];refine⟨fun q=>by rw[q];rfl,fun q=>?_⟩
 rw[q];cases eqI o.Mode 5
 ·cases eqI o.Mode 6<;>rfl
 ·rfl
theorem tC{t s:Int}{r:RM}{o:aB}(h:r.Ok t)(ho:OpOk o):(bE r s o).1.Ok t∧bS (bE r s o).2 0 65535=true:=by
 have q:=nE h.aw h.a4 ho.hr;unfold bE;refine dY (P:=fun z:RM×Int=>z.1.Ok t∧bS z.2 0 65535=true) (fun _=>⟨h.setA (by omega) (by omega),aW.2 q⟩) fun _=>?_
 refine dY (P:=fun z:RM×Int=>z.1.Ok t∧bS z.2 0 65535=true) (fun _=>⟨h.setA (by omega) (by omega),aW.2 (by dsimp only;omega)⟩) fun _=>?_
 refine dY (P:=fun z:RM×Int=>z.1.Ok t∧bS z.2 0 65535=true) (fun _=>⟨h,aW.2 (by dsimp only;omega)⟩) fun _=>?_
 exact dY (P:=fun z:RM×Int=>z.1.Ok t∧bS z.2 0 65535=true) (fun _=>⟨h,ho.he⟩) fun _=>⟨h,aW.2 q⟩
theorem aPQ{t s k:Int}{r:RM}(h:r.Ok t)(hs:s=1∨s=2)(hk:bS k 0 3=true):a0W r.g s k=true∧a0V r.g s k=cI r.d k%bN s:=by
 refine aE (t:=a0U r.g s k) (P:=fun q=>q=cI r.d k%bN s) ?_
 obtain⟨d1,d2,d3⟩:=jM h.d4 hk;unfold a0U;simp only[aZ,aR,eL,d1,d2,(kT hs).1,(kT hs).2,mask hs,Bool.and_true,true_and]
theorem hP{s v:Int}(hs:s=1∨s=2):cT s (v%bN s)=true:=by
 rcases hs with rfl|rfl
 ·show(bif eqI 1 1 then bS (v%256) 0 255 else _)=true
  rw[show eqI 1 1=true from rfl,cond_true,aW];omega
 ·exact bJ3 (v:=v%65536) (by omega) (by omega)
theorem aC6{t s k v:Int}{r:RM}(h:r.Ok t)(hs:s=1∨s=2)(hk:bS k 0 3=true)(hv:s=1→0≤v∧v<256):I0 r.g s k v=true∧IZ r.g s k v=(uA r s k v).g:=by
 refine aE (t:=a07 r.g s k v) (P:=fun q=>q=(uA r s k v).g) ?_
 obtain⟨d1,d2,d3⟩:=jM h.d4 hk;obtain⟨s1,s2,s3,s4,s5⟩:=fX (v:=0) h.d4 hk;rw[Nat.zero_add]at s1 s2 s5;have q:=nE h.dw h.d4 hk;have t1:=h.t1;unfold a07 uA;rcases hs with rfl|rfl
 ·have hv:=hv rfl;have e:cD (aD (cI r.d k) 65280) v=cI r.d k%65536/256*256+v:=by
   have:aD (cI r.d k) 65280=cI r.d k%65536/256*256:=by
    have key: ∀n:Nat,n≤65536→aD (n:Int) 65280=((n%65536/256*256:Nat):Int):=fun n hn=>by
     unfold aD;have e1:(BitVec.ofInt 64 (n:Int))&&&(BitVec.ofInt 64 65280)=BitVec.ofNat 64 (n&&&65280):=by
      apply BitVec.eq_of_toNat_eq;simp[BitVec.toNat_and,Nat.and_mod_two_pow]
     rw[e1];have e2:n&&&65280=n%65536/256*256:=by
      have:n&&&65280=(n/256&&&255)*256:=by
       apply Nat.eq_of_testBit_eq;intro i;rw[show(n/256&&&255)*256=(n/2^8&&&255)<<<8 from by rw[Nat.shiftLeft_eq]]
       rw[Nat.testBit_shiftLeft,Nat.testBit_and,Nat.testBit_and,Nat.testBit_div_two_pow];by_cases hi:8≤i
       ·have:(65280:Nat)=255<<<8:=by decide
        rw[this,Nat.testBit_shiftLeft];simp[hi]
       ·have:(65280:Nat)=255<<<8:=by decide
        rw[this,Nat.testBit_shiftLeft];simp[hi]
      rw[this];have:n/256&&&255=n/256%256:=Nat.and_two_pow_sub_one_eq_mod (n:=8) (n/256);rw[this];omega
     rw[e2,BitVec.toNat_ofNat,IntKind.wrap_i64];omega
    have:=key (cI r.d k).toNat (by omega)
    rw[Int.toNat_of_nonneg q.1]at this;rw[this];omega
   rw[this,R5 (by omega) (by omega) hv.1 hv.2]
  simp only[bF,Z5,Z4,Z3,Z2,Z1,eL,eN,aQ,aY,Nat.zero_add,d2,e,s1,s2,s3,s4,s5,dN,List.length_set,bW,wz,show eqI 1 1=true from rfl,bT]
  rfl
 ·simp only[bF,Z5,Z4,Z3,Z2,Z1,eL,eN,aQ,aY,Nat.zero_add,d2,s1,s2,s3,s4,s5,dN,List.length_set,bW,wz,show eqI 2 1=false from rfl,bT]
  rfl
theorem LK{t s k v:Int}{r:RM}(h:r.Ok t)(hk:bS k 0 3=true)(h0:0≤v)(h1:s=1→v<256)(h2:v≤t):(uA r s k v).Ok t:=by
 have q:=nE h.dw h.d4 hk;have t0:=h.t0;unfold uA;cases e:eqI s 1
 ·exact h.setD h0 h2
 ·rw[cY]at e;have:=h1 e;exact h.setD (by rw[cond_true];omega) (by rw[cond_true];omega)
end Go.Proofs.YtdicpjkdpliofaaGreatMasks

namespace Go.Proofs.YtdicpjkdpliofaaGreatMasks
open Go Go.Zq
set_option maxHeartbeats 4000000
set_option maxRecDepth 100000
theorem bU{p:Int→Prop}{f:Int}(h:bS f 0 31=true)(k: ∀n:Fin 32,p (n.val:Int)):p f:=by
 rw[aW]at h;obtain⟨n,rfl⟩:=Int.eq_ofNat_of_zero_le h.1;exact k ⟨n,by omega⟩
theorem aAQ{f:Int}(h:bS f 0 31=true):aD f 16=0∨aD f 16=16:=bU (p:=fun f=>aD f 16=0∨aD f 16=16) h (by decide+kernel)
theorem fl4{f:Int}(h:bS f 0 31=true):aD f 4=0∨aD f 4=4:=bU (p:=fun f=>aD f 4=0∨aD f 4=4) h (by decide+kernel)
theorem oM{a b:Int}(ha:bS a 0 31=true)(hb:bS b 0 31=true):bS (cD a b) 0 31=true:=by
 have key: ∀n m:Fin 32,bS (cD (n.val:Int) (m.val:Int)) 0 31=true:=by decide+kernel
 exact bU (p:=fun a=>bS (cD a b) 0 31=true) ha fun n=>bU (p:=fun b=>bS (cD (n.val:Int) b) 0 31=true) hb fun m=>key n m
theorem uK{b:Bool}{x:Int}(hx:bS x 0 31=true):bS (bif b then x else 0) 0 31=true:=by
 cases b
 ·show bS 0 0 31=true;decide
 ·exact hx
theorem aAR(c o z n:Bool):bS (fl c o z n) 0 31=true:=by
 cases c<;>cases o<;>cases z<;>cases n<;>decide
theorem oA{s f v:Int}(hs:s=1∨s=2)(hf:bS f 0 31=true):CV s f v=true∧bS (eZ s f v) 0 31=true:=by
 refine aE (t:=aIQ s f v) (P:=fun r=>bS r 0 31=true) ?_
 unfold aIQ;simp only[aZ,aR,(AN hs).1,(AN hs).2,Bool.and_true,true_and];refine oM ?_ (oM (uK (by decide)) (uK (by decide)))
 rcases aAQ hf with h|h<;>rw[h]<;>decide
theorem a3S{s a b:Int}(ha:cT s a=true)(hb:cT s b=true):aCT s 0 a b=true∧Z9 s 0 a b=((a-b)%bN s,A5 s a b):=by
 obtain⟨h1,h2⟩:=a3I ha hb;refine⟨h1,?_⟩;have h3:aCT s 0 a b=true∧(Z9 s 0 a b).1=(a-b)%bN s:=by
  refine aE (t:=aIR s 0 a b) (P:=fun r=>r.1=(a-b)%bN s) ?_
  obtain⟨h,a0,a1⟩:=pQ ha;obtain⟨-,b0,b1⟩:=pQ hb;have l:=qZ h;obtain⟨p1,p2⟩:=EQ h a0 (by omega)
  obtain⟨q1,q2⟩:=EQ h b0 (by omega)
  have e1:bZ (bZ a b) 0=a-b:=by rw[eE (x:=a) (by omega),eE (by omega)];omega
  have r0:0≤(a-b)%bN s:=Int.emod_nonneg _ (by omega)
  have r1:(a-b)%bN s<bN s:=Int.emod_lt_of_pos _ (by omega)
  obtain⟨t1,t2⟩:=EQ (v:=(a-b)%bN s) h r0 (by omega)
  unfold aIR;simp only[aZ,aR,Z8,GX,(kT h).1,(kT h).2,mask h,p1,q1,e1,t1,(eU _ _).1,(AN h).1,Bool.and_true,true_and]
 exact Prod.ext h3.2 h2
theorem bC8{s f a b:Int}(ha:cT s a=true)(hb:cT s b=true)(hf:bS f 0 31=true):bIT s f a b=true∧bS (R0 s f a b) 0 31=true:=by
 refine aE (t:=aJB s f a b) (P:=fun r=>bS r 0 31=true) ?_
 obtain⟨h1,h2⟩:=a3I ha hb;unfold aJB;simp only[aZ,aR,h1,h2,Bool.and_true,true_and];refine oM ?_ ?_
 ·unfold A5;exact bU (p:=fun z=>bS (aD z 15) 0 31=true) (aAR _ _ _ _) (by decide+kernel)
 ·rcases aAQ hf with h|h<;>rw[h]<;>decide
theorem aPR{s v:Int}(hs:s=1∨s=2):cT s (v%bN s)=true:=hP hs
theorem JD{a b:Int}(ha:0≤a∧a≤65535)(hb:0≤b∧b≤65535):(0≤aD a b∧aD a b≤b)∧(0≤cD a b∧cD a b≤65535)∧(0≤oR a b∧oR a b≤65535)∧(a≤255→b≤255→cD a b≤255∧oR a b≤255):=by
 obtain⟨n,rfl⟩:=Int.eq_ofNat_of_zero_le ha.1;obtain⟨m,rfl⟩:=Int.eq_ofNat_of_zero_le hb.1;have hn:n<2^16:=by omega
 have hm:m<2^16:=by omega
 have e1:((n:Int)%((2^64:Nat):Int)).toNat=n:=by omega
 have e2:((m:Int)%((2^64:Nat):Int)).toNat=m:=by omega
 have a1:n&&&m≤m:=Nat.and_le_right;have o1:n|||m<2^16:=Nat.or_lt_two_pow hn hm
 have x1:n^^^m<2^16:=Nat.xor_lt_two_pow hn hm;have k1:aD (n:Int) (m:Int)=((n&&&m:Nat):Int):=by
  unfold aD;rw[BitVec.toNat_and,BitVec.toNat_ofInt,BitVec.toNat_ofInt,e1,e2,IntKind.wrap_i64];omega
 have k2:cD (n:Int) (m:Int)=((n|||m:Nat):Int):=by
  unfold cD;rw[BitVec.toNat_or,BitVec.toNat_ofInt,BitVec.toNat_ofInt,e1,e2,IntKind.wrap_i64];omega
 have k3:oR (n:Int) (m:Int)=((n^^^m:Nat):Int):=by
  unfold oR;rw[BitVec.toNat_xor,BitVec.toNat_ofInt,BitVec.toNat_ofInt,e1,e2,IntKind.wrap_i64];omega
 rw[k1,k2,k3];refine⟨by omega,by omega,by omega,fun h1 h2=>?_⟩
 have o2:n|||m<2^8:=Nat.or_lt_two_pow (by omega) (by omega)
 have x2:n^^^m<2^8:=Nat.xor_lt_two_pow (by omega) (by omega)
 omega
theorem kA{s v:Int}(hs:s=1∨s=2)(h:cT s v=true):0≤v∧v≤65535∧(s=1→v≤255):=by
 have:=NL hs h;omega
theorem C7{s v:Int}(hs:s=1∨s=2)(h0:0≤v)(h1:v≤65535)(h2:s=1→v≤255):cT s v=true:=by
 rcases hs with rfl|rfl
 ·show(bif eqI 1 1 then bS v 0 255 else _)=true
  rw[show eqI 1 1=true from rfl,cond_true,aW];exact⟨h0,h2 rfl⟩
 ·exact bJ3 h0 h1
theorem aPS{s a b:Int}(hs:s=1∨s=2)(ha:cT s a=true)(hb:cT s b=true):cT s (aD a b)=true:=by
 have a1:=kA hs ha;have b1:=kA hs hb;have q:=JD ⟨a1.1,a1.2.1⟩ ⟨b1.1,b1.2.1⟩;exact C7 hs q.1.1 (by omega) (fun h=>by have:=b1.2.2 h;omega)
theorem aAS{s a b:Int}(hs:s=1∨s=2)(ha:cT s a=true)(hb:cT s b=true):cT s (cD a b)=true:=by
 have a1:=kA hs ha;have b1:=kA hs hb;have q:=JD ⟨a1.1,a1.2.1⟩ ⟨b1.1,b1.2.1⟩;exact C7 hs q.2.1.1 q.2.1.2 (fun h=>(q.2.2.2 (a1.2.2 h) (b1.2.2 h)).1)
theorem aPT{s a b:Int}(hs:s=1∨s=2)(ha:cT s a=true)(hb:cT s b=true):cT s (oR a b)=true:=by
 have a1:=kA hs ha;have b1:=kA hs hb;have q:=JD ⟨a1.1,a1.2.1⟩ ⟨b1.1,b1.2.1⟩;exact C7 hs q.2.2.1.1 q.2.2.1.2 (fun h=>(q.2.2.2 (a1.2.2 h) (b1.2.2 h)).2)
end Go.Proofs.YtdicpjkdpliofaaGreatMasks

namespace Go.Proofs.YtdicpjkdpliofaaGreatMasks
open Go Go.Zq
set_option maxHeartbeats 4000000
set_option maxRecDepth 100000
theorem b04{v:Int}(h:0≤v)(h1:v<65536):hX v 1=v*2:=by
 unfold hX;rw[show((2:Int)^min (Int.toNat 1) 64)=2 from by decide,IntKind.wrap_i64]
 omega
theorem b05{v:Int}:lO v 1=v/2:=qY 1 rfl (by omega)
theorem a3T(k:Int):bAG k=true:=by
 refine(aE (t:=aIT k) (P:=fun _=>True) ?_).1
 unfold aIT;simp only[aZ,aR,true_and]
def MP(x:Int):Prop:=x=0∨x=1
theorem pA(b:Bool):MP (bif b then 1 else 0):=by
 cases b
 ·exact Or.inl rfl
 ·exact Or.inr rfl
theorem AO{b:Bool}{x y:Int}(hx:MP x)(hy:MP y):MP (bif b then x else y):=by
 cases b
 ·exact hy
 ·exact hx
theorem aAT{v:Int}:MP (aD v 1):=by
 rw[bO2];unfold MP;omega
def Sh(s:Int)(r:Int×Int):Prop:=cT s r.1=true∧bS r.2 0 31=true
theorem C8{k s f v:Int}(hs:s=1∨s=2)(hv:cT s v=true)(hf:bS f 0 31=true):bH8 k s f v=true∧Sh s (oS k s f v):=by
 refine aE (t:=aCU k s f v) (P:=fun r=>Sh s r) ?_
 have lv:=kA hs hv;have b2:MP (AJ s v):=by
  unfold AJ;rw[(eU _ _).2];exact pA _
 have b3:MP (j9 k s v):=by
  unfold j9;exact AO b2 aAT
 have b4:MP (vQ k s f v):=by
  unfold vQ;refine AO b2 (AO b3 (AO ?_ (Or.inl rfl)));rw[(eU _ _).2];exact pA _
 have vb: ∀x,MP x→cT s x=true:=fun x hx=>by
  rcases hx with rfl|rfl
  ·exact JC hs
  ·rcases hs with rfl|rfl<;>decide
 have w5:cT s (jG k s f v)=true:=by
  unfold jG;rw[(kT hs).2];have m1:bZ (dB 2 (kF (bN s) 2)) 1=bZ (bN s) 1:=by rcases hs with rfl|rfl<;>decide
  rw[m1,b04 lv.1 (by omega),mask hs,b05]
  cases a1F k
  ·refine aAS hs (C7 hs (by omega) (by omega) (fun h=>by have:=lv.2.2 h;omega)) ?_
   rcases b4 with h|h<;>rw[h]
   ·rcases hs with rfl|rfl<;>decide
   ·rcases hs with rfl|rfl<;>decide
  ·exact aAS hs (aPR hs) (vb _ b4)
 have f8:bS (sB k s f v) 0 31=true:=by
  unfold sB;rw[(AN hs).2,(eU _ _).2];refine oM (oM ?_ (oM (uK (by decide)) (uK (by decide)))) (uK (by decide))
  rcases b3 with h|h<;>rw[h]<;>decide
 unfold aCU;simp only[bF,(kT hs).1,(eU _ _).1,a3T,(AN hs).1,eA];refine⟨fun _=>⟨w5,oM f8 ?_⟩,fun _=>⟨w5,oM f8 ?_⟩⟩
 ·rcases aAQ hf with h|h<;>rw[h]<;>decide
 ·rcases b3 with h|h<;>rw[h]<;>decide
theorem bPM{k s f v c:Int}(hs:s=1∨s=2)(hv:cT s v=true)(hf:bS f 0 31=true)(h0:0≤c)(h1:c≤100):bAL k s f v c=true∧Sh s (TI k s f v c):=by
 refine aE (t:=aAD k s f v c) (P:=fun r=>Sh s r) ?_
 obtain⟨n,rfl⟩:=Int.eq_ofNat_of_zero_le h0;have L:GZ (V252_0.mk k s f v (n:Int) 0)=true∧(cT s (sD (V252_0.mk k s f v (n:Int) 0)).s3=true∧bS (sD (V252_0.mk k s f v (n:Int) 0)).s2 0 31=true∧bS (sD (V252_0.mk k s f v (n:Int) 0)).s13 0 31=true):=by
  unfold GZ sD;refine jL (Post:=fun w:V252_0=>cT s w.s3=true∧bS w.s2 0 31=true∧bS w.s13 0 31=true) (eO (fun(m:Nat) (w:V252_0)=>w.s1=s∧w.s4=(m:Int)∧m≤100∧cT s w.s3=true∧bS w.s2 0 31=true∧bS w.s13 0 31=true) _ ?_ 9223372036854775808 n _ ⟨rfl,rfl,by omega,hv,hf,(by decide:bS 0 0 31=true)⟩ (by omega))
  rintro m w ⟨e1,e2,e3,e4,e5,e6⟩
  obtain⟨o1,o2,o3⟩:=C8 (k:=w.s0) hs e4 e5;have o3':bS (aD (oS w.s0 s w.s2 w.s3).2 2) 0 31=true:=bU (p:=fun z=>bS (aD z 2) 0 31=true) o3 (by decide+kernel)
  unfold CW;simp only[aZ,dJ,aR,sC,e1,e2,o1,qX,I6,Bool.and_true,true_and];refine⟨fun q=>⟨m-1,by omega,?_,by omega,o2,o3,oM e6 o3'⟩,fun _=>⟨e4,e5,e6⟩⟩
  rw[eE (by omega)];omega
 obtain⟨l1,l2,l3,l4⟩:=L;unfold aAD;simp only[aZ,dJ,aR,LA,RZ,(AN hs).1,(AN hs).2,(eU _ _).1,(eU _ _).2,l1,Bool.and_true,true_and];refine⟨fun _=>⟨hv,oM (oM ?_ (oM (uK (by decide)) (uK (by decide)))) (uK (by decide))⟩,fun _=>⟨l2,oM l3 l4⟩⟩
 rcases aAQ hf with h|h<;>rw[h]<;>decide
theorem a3U(c f:Int):bH9 c f=true:=by
 refine(aE (t:=LB c f) (P:=fun _=>True) ?_).1
 unfold LB;simp only[aZ,dJ,aR,true_and,implies_true,and_self]
theorem a3V(c f:Int):bIA c f=true:=by
 refine(aE (t:=aCV c f) (P:=fun _=>True) ?_).1
 unfold aCV;simp only[aZ,aR,a3U,Bool.and_true,true_and]
end Go.Proofs.YtdicpjkdpliofaaGreatMasks

namespace Go.Proofs.YtdicpjkdpliofaaGreatMasks
open Go Go.Zq
set_option maxHeartbeats 4000000
set_option maxRecDepth 100000
theorem kU(m:MM)(r:RM):(aL.mk r.g (wM m.zs m.l) m.stop m.f)=MM.g {m with r:=r}:=rfl
theorem aAU{t s:Int}{m:MM}{o:aB}(hm:m.Ok t)(hs:s=1∨s=2)(ho:OpOk o):aSX s o m.g=true∧cC s o m.g=((cL m s o).1.g,(cL m s o).2.1,(cL m s o).2.2):=by
 refine aE (t:=a03 s o m.g) (P:=fun q=>q=((cL m s o).1.g,(cL m s o).2.1,(cL m s o).2.2)) ?_
 obtain⟨d1,d2,d3⟩:=jM hm.r.a4 ho.hr;obtain⟨s1,s2,s3,s4,s5⟩:=fX (v:=0) hm.r.a4 ho.hr;rw[Nat.zero_add]at s5;obtain⟨l1,l2⟩:=aPQ hm.r hs ho.hr;obtain⟨p1,p2⟩:=aPP (s:=s) hm.r ho;obtain⟨p3,p4⟩:=tC (s:=s) hm.r ho;have hm':MM.Ok t {m with r:=(bE m.r s o).1}:=⟨p3,hm.b⟩
 obtain⟨a1,a2⟩:=aPO (k:=1) (v:=0) (a:=(bE m.r s o).2) hm' ⟨hs,JC hs,p4⟩;unfold a03 cL;simp only[bF,RV,GT,CT,Z0,eK,cB,bR,bI,eL,eN,aQ,aY,Nat.zero_add,l1,l2,d2,s3,s4,s5,p1,p2,kU,a1,a2,eA,wz,bT];refine⟨fun q=>by rw[q];rfl,fun q=>?_⟩
 rw[q];refine⟨fun q=>by rw[q];rfl,fun q=>?_⟩
 rw[q];exact⟨fun q=>by rw[q];rfl,fun q=>by rw[q];rfl⟩
theorem rB{t s:Int}{m:MM}{o:aB}(hm:m.Ok t)(hs:s=1∨s=2)(ho:OpOk o)(hmode:s=1→o.Mode=1→False)(he:s=1→o.Mode=7→o.Ext≤255):(cL m s o).1.Ok t∧cT s (cL m s o).2.1=true∧bS (cL m s o).2.2 0 65535=true:=by
 obtain⟨p3,p4⟩:=tC (s:=s) hm.r ho;have hm':MM.Ok t {m with r:=(bE m.r s o).1}:=⟨p3,hm.b⟩
 obtain⟨a1,a2⟩:=R8 (k:=1) (v:=0) (a:=(bE m.r s o).2) hm' ⟨hs,JC hs,p4⟩ (by decide)
 have q:=nE hm.r.aw hm.r.a4 ho.hr;have e:=aW.1 ho.he;have z0:bS 0 0 65535=true:=by decide
 unfold cL;refine dY (P:=fun z:MM×Int×Int=>z.1.Ok t∧cT s z.2.1=true∧bS z.2.2 0 65535=true) (fun _=>⟨hm,hP hs,z0⟩) fun _=>?_
 refine dY (P:=fun z:MM×Int×Int=>z.1.Ok t∧cT s z.2.1=true∧bS z.2.2 0 65535=true) (fun h=>⟨hm,C7 hs q.1 q.2 (fun h1=>(hmode h1 (cY.1 h)).elim),z0⟩) fun _=>?_
 refine dY (P:=fun z:MM×Int×Int=>z.1.Ok t∧cT s z.2.1=true∧bS z.2.2 0 65535=true) (fun h=>⟨hm,C7 hs e.1 e.2 (fun h1=>he h1 (cY.1 h)),z0⟩) fun _=>?_
 exact⟨a1,a2,p4⟩
def fC(m:MM)(s:Int)(o:aB):MM×Int:=bif eqI o.Mode 0 then(m,0)else({m with r:=(bE m.r s o).1},(bE m.r s o).2)
theorem aPU{t s:Int}{m:MM}{o:aB}(hm:m.Ok t)(ho:OpOk o):aSY s o m.g=true∧hZ s o m.g=((fC m s o).1.g,(fC m s o).2):=by
 refine aE (t:=a06 s o m.g) (P:=fun q=>q=((fC m s o).1.g,(fC m s o).2)) ?_
 obtain⟨p1,p2⟩:=aPP (s:=s) hm.r ho;unfold a06 fC;simp only[bF,aIL,GW,CU,eK,cB,bR,bI,p1,p2,eA,wz,bT];exact⟨fun q=>by rw[q];rfl,fun q=>by rw[q];rfl⟩
theorem G8{t s:Int}{m:MM}{o:aB}(hm:m.Ok t)(ho:OpOk o):(fC m s o).1.Ok t∧bS (fC m s o).2 0 65535=true:=by
 obtain⟨p3,p4⟩:=tC (s:=s) hm.r ho;unfold fC;exact dY (P:=fun z:MM×Int=>z.1.Ok t∧bS z.2 0 65535=true) (fun _=>⟨hm,(by decide:bS 0 0 65535=true)⟩) fun _=>⟨⟨p3,hm.b⟩,p4⟩
def dD(m:MM)(s:Int)(o:aB)(a v:Int):MM:=bif eqI o.Mode 0 then{m with r:=uA m.r s o.Reg v}else(dQ m 2 s a v).1
theorem aPV{t s a v:Int}{m:MM}{o:aB}(hm:m.Ok t)(hs:s=1∨s=2)(ho:OpOk o)(ha:bS a 0 65535=true)(hv:cT s v=true):a1A s o a v m.g=true∧a09 s o a v m.g=(dD m s o a v).g:=by
 refine aE (t:=a08 s o a v m.g) (P:=fun q=>q=(dD m s o a v).g) ?_
 have lv:=kA hs hv;obtain⟨p1,p2⟩:=aC6 (v:=v) hm.r hs ho.hr (fun h=>by have:=lv.2.2 h;omega)
 obtain⟨a1,a2⟩:=aPO (k:=2) hm (⟨hs,hv,ha⟩:AccOk s v a m);unfold a08 dD;simp only[bF,aIN,aIM,eK,cB,bR,bI,p1,p2,a1,a2,eA,wz];exact⟨fun q=>by rw[q];rfl,fun q=>by rw[q];rfl⟩
theorem yZ{t s a v:Int}{m:MM}{o:aB}(hm:m.Ok t)(hs:s=1∨s=2)(ho:OpOk o)(ha:bS a 0 65535=true)(hv:cT s v=true):(dD m s o a v).Ok t:=by
 have lv:=kA hs hv;have t0:=hm.r.t0;obtain⟨a1,-⟩:=R8 (k:=2) hm (⟨hs,hv,ha⟩:AccOk s v a m) (by decide)
 unfold dD;exact dY (P:=fun z=>MM.Ok t z) (fun _=>⟨LK hm.r ho.hr lv.1 (fun h=>by have:=lv.2.2 h;omega) (by omega),hm.b⟩) (fun _=>a1)
end Go.Proofs.YtdicpjkdpliofaaGreatMasks

namespace Go.Proofs.YtdicpjkdpliofaaGreatMasks
open Go Go.Zq
set_option maxHeartbeats 4000000
set_option maxRecDepth 100000
structure InsOk(x:aF):Prop where
 hs:x.Size=1∨x.Size=2
 hr:bS x.Reg 0 3=true
 hb:bS x.Sub 0 7=true
 ho:OpOk x.Ea
 he:x.Size=1→x.Ea.Mode=7→x.Ea.Ext≤255
 kb:kB x=true
 op:1≤x.Op∧x.Op≤19
theorem InsOk.of{x:aF}(h:dU x=true):InsOk x:=by
 have R:=rng h;unfold dU at h;simp only[Bool.and_eq_true]at h;obtain⟨h1,h2,h3,h4,h5,h6⟩:=h;refine⟨by have:=R.s;omega,h2,h4,OpOk.of h3,fun e1 e2=>?_,h6,R.o⟩
 unfold JB at h5;rw[e1,e2]at h5;simpa using h5
theorem fR(r:RM)(f:Int):(aG.mk (ri r.d) (ri r.a) r.oth r.pc f r.mask r.sup r.tr)=RM.g {r with fl:=f}:=rfl
theorem kC(r:RM)(p:Int):(aG.mk (ri r.d) (ri r.a) r.oth p r.fl r.mask r.sup r.tr)=RM.g {r with pc:=p}:=rfl
noncomputable def oX(m:MM)(s k v:Int):MM:={m with r:=uA {m.r with fl:=eZ s m.r.fl v} s k v}
theorem aAV{t s k v:Int}{m:MM}(hm:m.Ok t)(hs:s=1∨s=2)(hk:bS k 0 3=true)(hv:s=1→0≤v∧v<256):aS0 s k v m.g=true∧aSZ s k v m.g=(oX m s k v).g:=by
 refine aE (t:=a1S s k v m.g) (P:=fun q=>q=(oX m s k v).g) ?_
 obtain⟨l1,l2⟩:=oA (v:=v) hs hm.r.fw;obtain⟨p1,p2⟩:=aC6 (v:=v) (hm.r.setF l2) hs hk hv;unfold a1S;simp only[bF,aI5,aI4,eK,cB,bR,bI,eL,eN,aN,cJ,aM,bA,aO,aP,fR,l1,p1,p2,eA,wz,bT];rfl
theorem NN{t s k v:Int}{m:MM}(hm:m.Ok t)(hs:s=1∨s=2)(hk:bS k 0 3=true)(h0:0≤v)(h1:s=1→v<256)(h2:v≤t):(oX m s k v).Ok t:=⟨LK (hm.r.setF (oA (v:=v) hs hm.r.fw).2) hk h0 h1 h2,hm.b⟩
def v9(m:MM)(v:Int):MM:={m with f:={m.f with Vector:=v,PC:=m.r.pc}}
theorem aPW(m:MM)(v:Int):bAR v m.g=true∧bAQ v m.g=(v9 m v).g:=by
 refine aE (t:=a1Q v m.g) (P:=fun q=>q=(v9 m v).g) ?_
 unfold a1Q;simp only[bF,eK,cB,bR,bI,eL,eN,aN,cJ,aM,bA,aO,aP,eA,wz,bT];rfl
noncomputable def iE(x:aF)(f d v:Int):Int×Int:=
 bif eqI x.Op 3 then TK x.Size 0 d v else bif eqI x.Op 4 then((d-v)%bN x.Size,A5 x.Size d v)
 else bif eqI x.Op 1 then(v,eZ x.Size f v)else bif eqI x.Op 5 then(aD d v,eZ x.Size f (aD d v))
 else bif eqI x.Op 6 then(cD d v,eZ x.Size f (cD d v))else(oR d v,eZ x.Size f (oR d v))
noncomputable def iX(m:MM)(x:aF):MM:=
 let q:=cL m x.Size x.Ea
 bif !cE q.1 then q.1 else
 bif eqI x.Op 8 then{q.1 with r:={q.1.r with fl:=R0 x.Size q.1.r.fl (cI q.1.r.d x.Reg%bN x.Size) q.2.1}}
 else{q.1 with r:=uA {q.1.r with fl:=(iE x q.1.r.fl (cI q.1.r.d x.Reg%bN x.Size) q.2.1).2} x.Size x.Reg (iE x q.1.r.fl (cI q.1.r.d x.Reg%bN x.Size) q.2.1).1}
theorem aAW{x:aF}{f d v:Int}(hs:x.Size=1∨x.Size=2)(hf:bS f 0 31=true)(hd:cT x.Size d=true)(hv:cT x.Size v=true):cT x.Size (iE x f d v).1=true∧bS (iE x f d v).2 0 31=true:=by
 unfold iE;refine dY (P:=fun z:Int×Int=>cT x.Size z.1=true∧bS z.2 0 31=true) (fun _=>⟨hP hs,aAR _ _ _ _⟩) fun _=>?_
 refine dY (P:=fun z:Int×Int=>cT x.Size z.1=true∧bS z.2 0 31=true) (fun _=>⟨hP hs,aAR _ _ _ _⟩) fun _=>?_
 refine dY (P:=fun z:Int×Int=>cT x.Size z.1=true∧bS z.2 0 31=true) (fun _=>⟨hv,(oA hs hf).2⟩) fun _=>?_
 refine dY (P:=fun z:Int×Int=>cT x.Size z.1=true∧bS z.2 0 31=true) (fun _=>⟨aPS hs hd hv,(oA hs hf).2⟩) fun _=>?_
 refine dY (P:=fun z:Int×Int=>cT x.Size z.1=true∧bS z.2 0 31=true) (fun _=>⟨aAS hs hd hv,(oA hs hf).2⟩) fun _=>?_
 exact⟨aPT hs hd hv,(oA hs hf).2⟩
def oF(x:aF):Prop:=x.Op=1∨x.Op=3∨x.Op=4∨x.Op=5∨x.Op=6∨x.Op=7∨x.Op=8
theorem bJ5{x:aF}(h:oF x):kB x=bif eqI x.Sub 0 then(bif cV x.Ea.Mode 1 then true else eqI x.Size 2)else false:=by
 unfold kB;rcases h with e|e|e|e|e|e|e<;>rw[e]<;>rfl
theorem JE{x:aF}(h:InsOk x)(h2:oF x):x.Size=1→x.Ea.Mode=1→False:=by
 intro e1 e2;have hk:=h.kb;rw[bJ5 h2,e1,e2]at hk;cases hb:eqI x.Sub 0
 ·rw[hb]at hk;exact absurd hk (by decide)
 ·rw[hb]at hk;exact absurd hk (by decide)
theorem SA{t:Int}{m:MM}{x:aF}(hm:m.Ok t)(h:InsOk x)(h2:oF x):bIU x m.g=true∧a16 x m.g=(iX m x).g:=by
 refine aE (t:=a15 x m.g) (P:=fun q=>q=(iX m x).g) ?_
 obtain⟨r1,r2⟩:=aAU hm h.hs h.ho;obtain⟨r3,r4,r5⟩:=rB hm h.hs h.ho (JE h h2) h.he;unfold a15 iX;generalize cL m x.Size x.Ea=q at r1 r2 r3 r4 r5;obtain⟨q1,v,a⟩:=q;have hd:=hP (s:=x.Size) (v:=cI q1.r.d x.Reg) h.hs;obtain⟨l1,l2⟩:=aPQ r3.r h.hs h.hr;obtain⟨a1,a2⟩:=bO7 (c:=0) (Or.inl rfl) hd r4;obtain⟨b1,b2⟩:=a3S hd r4;obtain⟨c1,c2⟩:=bC8 (f:=q1.r.fl) hd r4 r3.r.fw;have lg: ∀v,CV x.Size q1.r.fl v=true:=fun v=>(oA h.hs r3.r.fw).1
 have pt: ∀v f,cT x.Size v=true→bS f 0 31=true→I0 (RM.g {q1.r with fl:=f}) x.Size x.Reg v=true∧IZ (RM.g {q1.r with fl:=f}) x.Size x.Reg v=(uA {q1.r with fl:=f} x.Size x.Reg v).g:=fun v f hv hf=>aC6 (r3.r.setF hf) h.hs h.hr (fun e=>by have:=kA h.hs hv;have:=this.2.2 e;omega)
 dsimp only;cases hfi:eqI q1.f.Vector 0
 ·simp only[bF,qW,qV,nY,qU,nX,qT,nW,qR,lT,v4,lS,jK,jJ,vZ,pN,fL,vY,yA,eK,cB,bR,bI,eL,eN,aN,cJ,aM,bA,aO,aP,r1,r2,d6,cE,hfi,bW,bT,wz]
 ·obtain⟨w1,w2⟩:=aAW (x:=x) (f:=q1.r.fl) h.hs r3.r.fw hd r4;obtain⟨p1,p2⟩:=pt _ _ w1 w2;rcases h2 with e|e|e|e|e|e|e
  ·have tw:iE x q1.r.fl (cI q1.r.d x.Reg%bN x.Size) v=(v,eZ x.Size q1.r.fl v):=by unfold iE;rw[e];rfl
   rw[tw]at p1 p2⊢;simp only[bF,qW,qV,nY,qU,nX,qT,nW,qR,lT,v4,lS,jK,jJ,vZ,pN,fL,vY,yA,eK,cB,bR,bI,eL,eN,aN,cJ,aM,bA,aO,aP,fR,kU,r1,r2,d6,cE,hfi,e,show eqI 1 0=false from rfl,show eqI 1 1=true from rfl,show eqI 1 2=false from rfl,show eqI 1 3=false from rfl,show eqI 1 4=false from rfl,show eqI 1 5=false from rfl,show eqI 1 6=false from rfl,show eqI 1 7=false from rfl,show eqI 1 8=false from rfl,show eqI 1 9=false from rfl,show eqI 1 10=false from rfl,show eqI 1 11=false from rfl,show eqI 1 12=false from rfl,show eqI 1 13=false from rfl,show eqI 1 14=false from rfl,show eqI 1 15=false from rfl,show eqI 1 16=false from rfl,show eqI 1 17=false from rfl,show eqI 1 18=false from rfl,show eqI 1 19=false from rfl,show cV 1 3=true from rfl,show cV 1 4=true from rfl,l1,l2,a1,a2,b1,b2,lg,p1,p2,bW,bT,wz]
  ·have tw:iE x q1.r.fl (cI q1.r.d x.Reg%bN x.Size) v=TK x.Size 0 (cI q1.r.d x.Reg%bN x.Size) v:=by unfold iE;rw[e];rfl
   rw[tw]at p1 p2⊢;simp only[bF,qW,qV,nY,qU,nX,qT,nW,qR,lT,v4,lS,jK,jJ,vZ,pN,fL,vY,yA,eK,cB,bR,bI,eL,eN,aN,cJ,aM,bA,aO,aP,fR,kU,r1,r2,d6,cE,hfi,e,show eqI 3 0=false from rfl,show eqI 3 1=false from rfl,show eqI 3 2=false from rfl,show eqI 3 3=true from rfl,show eqI 3 4=false from rfl,show eqI 3 5=false from rfl,show eqI 3 6=false from rfl,show eqI 3 7=false from rfl,show eqI 3 8=false from rfl,show eqI 3 9=false from rfl,show eqI 3 10=false from rfl,show eqI 3 11=false from rfl,show eqI 3 12=false from rfl,show eqI 3 13=false from rfl,show eqI 3 14=false from rfl,show eqI 3 15=false from rfl,show eqI 3 16=false from rfl,show eqI 3 17=false from rfl,show eqI 3 18=false from rfl,show eqI 3 19=false from rfl,show cV 3 3=false from rfl,show cV 3 4=true from rfl,l1,l2,a1,a2,b1,b2,lg,p1,p2,bW,bT,wz]
  ·have tw:iE x q1.r.fl (cI q1.r.d x.Reg%bN x.Size) v=((cI q1.r.d x.Reg%bN x.Size-v)%bN x.Size,A5 x.Size (cI q1.r.d x.Reg%bN x.Size) v):=by unfold iE;rw[e];rfl
   rw[tw]at p1 p2⊢;simp only[bF,qW,qV,nY,qU,nX,qT,nW,qR,lT,v4,lS,jK,jJ,vZ,pN,fL,vY,yA,eK,cB,bR,bI,eL,eN,aN,cJ,aM,bA,aO,aP,fR,kU,r1,r2,d6,cE,hfi,e,show eqI 4 0=false from rfl,show eqI 4 1=false from rfl,show eqI 4 2=false from rfl,show eqI 4 3=false from rfl,show eqI 4 4=true from rfl,show eqI 4 5=false from rfl,show eqI 4 6=false from rfl,show eqI 4 7=false from rfl,show eqI 4 8=false from rfl,show eqI 4 9=false from rfl,show eqI 4 10=false from rfl,show eqI 4 11=false from rfl,show eqI 4 12=false from rfl,show eqI 4 13=false from rfl,show eqI 4 14=false from rfl,show eqI 4 15=false from rfl,show eqI 4 16=false from rfl,show eqI 4 17=false from rfl,show eqI 4 18=false from rfl,show eqI 4 19=false from rfl,show cV 4 3=true from rfl,show cV 4 4=false from rfl,l1,l2,a1,a2,b1,b2,lg,p1,p2,bW,bT,wz]
  ·have tw:iE x q1.r.fl (cI q1.r.d x.Reg%bN x.Size) v=(aD (cI q1.r.d x.Reg%bN x.Size) v,eZ x.Size q1.r.fl (aD (cI q1.r.d x.Reg%bN x.Size) v)):=by unfold iE;rw[e];rfl
   rw[tw]at p1 p2⊢;simp only[bF,qW,qV,nY,qU,nX,qT,nW,qR,lT,v4,lS,jK,jJ,vZ,pN,fL,vY,yA,eK,cB,bR,bI,eL,eN,aN,cJ,aM,bA,aO,aP,fR,kU,r1,r2,d6,cE,hfi,e,show eqI 5 0=false from rfl,show eqI 5 1=false from rfl,show eqI 5 2=false from rfl,show eqI 5 3=false from rfl,show eqI 5 4=false from rfl,show eqI 5 5=true from rfl,show eqI 5 6=false from rfl,show eqI 5 7=false from rfl,show eqI 5 8=false from rfl,show eqI 5 9=false from rfl,show eqI 5 10=false from rfl,show eqI 5 11=false from rfl,show eqI 5 12=false from rfl,show eqI 5 13=false from rfl,show eqI 5 14=false from rfl,show eqI 5 15=false from rfl,show eqI 5 16=false from rfl,show eqI 5 17=false from rfl,show eqI 5 18=false from rfl,show eqI 5 19=false from rfl,show cV 5 3=true from rfl,show cV 5 4=true from rfl,l1,l2,a1,a2,b1,b2,lg,p1,p2,bW,bT,wz]
  ·have tw:iE x q1.r.fl (cI q1.r.d x.Reg%bN x.Size) v=(cD (cI q1.r.d x.Reg%bN x.Size) v,eZ x.Size q1.r.fl (cD (cI q1.r.d x.Reg%bN x.Size) v)):=by unfold iE;rw[e];rfl
   rw[tw]at p1 p2⊢;simp only[bF,qW,qV,nY,qU,nX,qT,nW,qR,lT,v4,lS,jK,jJ,vZ,pN,fL,vY,yA,eK,cB,bR,bI,eL,eN,aN,cJ,aM,bA,aO,aP,fR,kU,r1,r2,d6,cE,hfi,e,show eqI 6 0=false from rfl,show eqI 6 1=false from rfl,show eqI 6 2=false from rfl,show eqI 6 3=false from rfl,show eqI 6 4=false from rfl,show eqI 6 5=false from rfl,show eqI 6 6=true from rfl,show eqI 6 7=false from rfl,show eqI 6 8=false from rfl,show eqI 6 9=false from rfl,show eqI 6 10=false from rfl,show eqI 6 11=false from rfl,show eqI 6 12=false from rfl,show eqI 6 13=false from rfl,show eqI 6 14=false from rfl,show eqI 6 15=false from rfl,show eqI 6 16=false from rfl,show eqI 6 17=false from rfl,show eqI 6 18=false from rfl,show eqI 6 19=false from rfl,show cV 6 3=true from rfl,show cV 6 4=true from rfl,l1,l2,a1,a2,b1,b2,lg,p1,p2,bW,bT,wz]
  ·have tw:iE x q1.r.fl (cI q1.r.d x.Reg%bN x.Size) v=(oR (cI q1.r.d x.Reg%bN x.Size) v,eZ x.Size q1.r.fl (oR (cI q1.r.d x.Reg%bN x.Size) v)):=by unfold iE;rw[e];rfl
   rw[tw]at p1 p2⊢;simp only[bF,qW,qV,nY,qU,nX,qT,nW,qR,lT,v4,lS,jK,jJ,vZ,pN,fL,vY,yA,eK,cB,bR,bI,eL,eN,aN,cJ,aM,bA,aO,aP,fR,kU,r1,r2,d6,cE,hfi,e,show eqI 7 0=false from rfl,show eqI 7 1=false from rfl,show eqI 7 2=false from rfl,show eqI 7 3=false from rfl,show eqI 7 4=false from rfl,show eqI 7 5=false from rfl,show eqI 7 6=false from rfl,show eqI 7 7=true from rfl,show eqI 7 8=false from rfl,show eqI 7 9=false from rfl,show eqI 7 10=false from rfl,show eqI 7 11=false from rfl,show eqI 7 12=false from rfl,show eqI 7 13=false from rfl,show eqI 7 14=false from rfl,show eqI 7 15=false from rfl,show eqI 7 16=false from rfl,show eqI 7 17=false from rfl,show eqI 7 18=false from rfl,show eqI 7 19=false from rfl,show cV 7 3=true from rfl,show cV 7 4=true from rfl,l1,l2,a1,a2,b1,b2,lg,p1,p2,bW,bT,wz]
  ·simp only[bF,qW,qV,nY,qU,nX,qT,nW,qR,lT,v4,lS,jK,jJ,vZ,pN,fL,vY,yA,eK,cB,bR,bI,eL,eN,aN,cJ,aM,bA,aO,aP,r1,r2,d6,cE,hfi,e,show eqI 8 0=false from rfl,show eqI 8 1=false from rfl,show eqI 8 2=false from rfl,show eqI 8 3=false from rfl,show eqI 8 4=false from rfl,show eqI 8 5=false from rfl,show eqI 8 6=false from rfl,show eqI 8 7=false from rfl,show eqI 8 8=true from rfl,show eqI 8 9=false from rfl,show eqI 8 10=false from rfl,show eqI 8 11=false from rfl,show eqI 8 12=false from rfl,show eqI 8 13=false from rfl,show eqI 8 14=false from rfl,show eqI 8 15=false from rfl,show eqI 8 16=false from rfl,show eqI 8 17=false from rfl,show eqI 8 18=false from rfl,show eqI 8 19=false from rfl,l1,l2,c1,bW,bT,wz]
   rfl
theorem bJ6{t:Int}{m:MM}{x:aF}(hm:m.Ok t)(h:InsOk x)(h2:oF x):(iX m x).Ok t:=by
 obtain⟨r3,r4,r5⟩:=rB hm h.hs h.ho (JE h h2) h.he;have t0:=hm.r.t0;unfold iX;generalize cL m x.Size x.Ea=q at r3 r4 r5;obtain⟨q1,v,a⟩:=q;have hd:=hP (s:=x.Size) (v:=cI q1.r.d x.Reg) h.hs;obtain⟨w1,w2⟩:=aAW (x:=x) (f:=q1.r.fl) h.hs r3.r.fw hd r4;dsimp only at r4 w1 w2 hd r3⊢;have lv:=kA h.hs w1;refine dY (P:=fun z=>MM.Ok t z) (fun _=>r3) fun _=>dY (P:=fun z=>MM.Ok t z) (fun _=>⟨r3.r.setF (bC8 hd r4 r3.r.fw).2,r3.b⟩) fun _=>?_
 exact⟨LK (r3.r.setF w2) h.hr lv.1 (fun e=>by have:=lv.2.2 e;omega) (by omega),r3.b⟩
end Go.Proofs.YtdicpjkdpliofaaGreatMasks

namespace Go.Proofs.YtdicpjkdpliofaaGreatMasks
open Go Go.Zq
set_option maxHeartbeats 4000000
set_option maxRecDepth 100000
theorem aPX{v:Int}(h:bS v 0 1023=true):cV (aD v 256) 0=eqI (v/256%2) 1∧cV (aD v 512) 0=eqI (v/512%2) 1:=by
 rw[aW]at h;obtain⟨n,rfl⟩:=Int.eq_ofNat_of_zero_le h.1;have key: ∀n:Fin 1024,cV (aD (n.val:Int) 256) 0=eqI ((n.val:Int)/256%2) 1∧cV (aD (n.val:Int) 512) 0=eqI ((n.val:Int)/512%2) 1:=by decide+kernel
 exact key ⟨n,by omega⟩
theorem aJP{t v:Int}{r:RM}(h:r.Ok t)(hv:bS v 0 1023=true):a1P r.g v=true∧aI3 r.g v=(iH r v).g:=by
 refine aE (t:=a1O r.g v) (P:=fun q=>q=(iH r v).g) ?_
 obtain⟨b1,b2,b3,b4,b5,-,-⟩:=yY h;obtain⟨c1,c2⟩:=aPX hv;have hv':=aW.1 hv;have e1:aD v 31=v%32:=nZ 5 _ (by omega) (by decide)
 have e2:aD (lO v 5) 7=v/32%8:=by rw[qY (n:=5) 5 rfl (by omega)];exact nZ 3 _ (by omega) (by decide)
 unfold a1O iH;simp only[bF,aI2,eK,cB,bR,bI,eL,eN,aN,cJ,aM,bA,aO,aP,aQ,aY,b1,b2,b3,b4,b5,c1,c2,e1,e2,dN,List.length_set,eA,wz,bT];cases hs:eqI (v/256%2) 1<;>cases hp:r.sup<;>simp[rD]<;>rfl
theorem aAX{t v:Int}{r:RM}(h:r.Ok t):(iH r v).Ok t:=by
 have q:=aJO h;have t0:=h.t0;have f:bS (v%32) 0 31=true:=aW.2 (by omega)
 have k:bS (v/32%8) 0 (t-65528)=true:=aW.2 (by omega)
 have o:=aW.1 h.ow;unfold iH;exact dY (P:=fun z=>RM.Ok t z) (fun _=>⟨h.t0,h.t1,h.d4,h.a4,h.dw,h.aw,h.ow,h.pw,f,k⟩) (fun _=>⟨h.t0,h.t1,h.d4,by simpa using h.a4,h.dw,sE h.aw o.1 o.2,aW.2 q,h.pw,f,k⟩)
theorem a3W{t:Int}{r:RM}(h:r.Ok t):bIQ r.g=true∧bIP r.g=o9 r:=by
 refine aE (t:=a13 r.g) (P:=fun q=>q=o9 r) ?_
 have f:=aW.1 h.fw;have k:=aW.1 h.mw;have t1:=h.t1;have e1:dB 32 r.mask=32*r.mask:=hF (by omega)
 have b1: ∀(b:Bool)(n:Int),(bif b then n else 0)=0∨(bif b then n else 0)=n:=fun b n=>by cases b<;>simp
 have c1:=b1 r.sup 256;have c2:=b1 r.tr 512;unfold a13 o9;simp only[bF,eK,cB,bR,bI,eL,eN,aN,cJ,aM,bA,aO,aP,(eU _ _).1,(eU _ _).2,e1,eA,wz,bT];rw[bP (x:=r.fl) (by omega),bP (x:=r.fl+32*r.mask) (by omega),bP (by omega)]
theorem aJQ{t:Int}{r:RM}(h:r.Ok t):0≤o9 r∧o9 r≤65535:=by
 have f:=aW.1 h.fw;have k:=aW.1 h.mw;have t1:=h.t1;have b1: ∀(b:Bool)(n:Int),(bif b then n else 0)=0∨(bif b then n else 0)=n:=fun b n=>by cases b<;>simp
 have c1:=b1 r.sup 256;have c2:=b1 r.tr 512;unfold o9;omega
noncomputable def lU(x:aF)(f v:Int):Int×Int:=
 bif eqI x.Sub 1 then((0-v)%bN x.Size,A5 x.Size 0 v)else bif eqI x.Sub 2 then(bN x.Size-1-v,eZ x.Size f (bN x.Size-1-v))else(v,eZ x.Size f v)
def eP(m:MM)(x:aF):MM×Int×Int:=bif eqI x.Sub 0 then((fC m x.Size x.Ea).1,0,(fC m x.Size x.Ea).2)else cL m x.Size x.Ea
noncomputable def AP(x:aF)(q:MM)(a:Int)(w:Int×Int):MM:=
 bif !cE q then q else
 bif ltI x.Sub 3 then{dD q x.Size x.Ea a w.1 with r:={(dD q x.Size x.Ea a w.1).r with fl:=w.2}}else{q with r:={q.r with fl:=w.2}}
noncomputable def zA(m:MM)(x:aF):MM:=AP x (eP m x).1 (eP m x).2.2 (lU x (eP m x).1.r.fl (eP m x).2.1)
theorem bPN{x:aF}(h:x.Op=11):kB x=bif (bif eqI x.Reg 0 then leI x.Sub 3 else false)then G7 x.Ea.Mode else false:=by
 unfold kB;rw[h];rfl
theorem aC7{m:Int}(h:G7 m=true):m=0∨(2≤m∧m≤6):=by
 unfold G7 lJ at h;cases e:eqI m 0
 ·rw[e,cond_false,aW]at h;exact Or.inr h
 ·exact Or.inl (cY.1 e)
theorem SB{x:aF}(h:InsOk x)(h2:x.Op=11):x.Sub≤3∧(x.Ea.Mode=0∨(2≤x.Ea.Mode∧x.Ea.Mode≤6)):=by
 have hk:=h.kb;rw[bPN h2]at hk;cases e1:eqI x.Reg 0
 ·rw[e1]at hk;simp at hk
 ·cases e2:leI x.Sub 3
  ·rw[e1,e2]at hk;simp at hk
  ·rw[e1,e2]at hk;exact⟨j8.1 e2,aC7 hk⟩
theorem aPY{t:Int}{m:MM}{x:aF}(hm:m.Ok t)(h:InsOk x)(h2:x.Op=11):(eP m x).1.Ok t∧cT x.Size (eP m x).2.1=true∧bS (eP m x).2.2 0 65535=true:=by
 obtain⟨k1,k2⟩:=SB h h2;obtain⟨p1,p2⟩:=G8 (s:=x.Size) hm h.ho;unfold eP;exact dY (P:=fun z:MM×Int×Int=>z.1.Ok t∧cT x.Size z.2.1=true∧bS z.2.2 0 65535=true) (fun _=>⟨p1,JC h.hs,p2⟩) (fun _=>rB hm h.hs h.ho (fun _ e=>by omega) (fun _ e=>by omega))
theorem NO{x:aF}{f v:Int}(hs:x.Size=1∨x.Size=2)(hf:bS f 0 31=true)(hv:cT x.Size v=true):cT x.Size (lU x f v).1=true∧bS (lU x f v).2 0 31=true:=by
 unfold lU;refine dY (P:=fun z:Int×Int=>cT x.Size z.1=true∧bS z.2 0 31=true) (fun _=>⟨hP hs,aAR _ _ _ _⟩) fun _=>?_
 refine dY (P:=fun z:Int×Int=>cT x.Size z.1=true∧bS z.2 0 31=true) (fun _=>⟨?_,(oA hs hf).2⟩) fun _=>⟨hv,(oA hs hf).2⟩
 have:=kA hs hv;rcases hs with e|e
 ·rw[e]at this hv⊢;have:=this.2.2 rfl;refine C7 (Or.inl rfl) ?_ ?_ (fun _=>?_)<;>(show _≤_;simp only[bN,show eqI 1 1=true from rfl,cond_true];omega)
 ·rw[e];refine C7 (Or.inr rfl) ?_ ?_ (fun h=>absurd h (by decide))<;>(show _≤_;simp only[bN,show eqI 2 1=false from rfl,cond_false];omega)
theorem a3X{t:Int}{m:MM}{x:aF}(hm:m.Ok t)(h:InsOk x)(h2:x.Op=11):(zA m x).Ok t:=by
 obtain⟨q1,q2,q3⟩:=aPY hm h h2;obtain⟨v1,v2⟩:=NO (f:=(eP m x).1.r.fl) h.hs q1.r.fw q2;have w:=yZ q1 h.hs h.ho q3 v1;unfold zA AP;refine dY (P:=fun z=>MM.Ok t z) (fun _=>q1) fun _=>dY (P:=fun z=>MM.Ok t z) (fun _=>⟨w.r.setF v2,w.b⟩) (fun _=>⟨q1.r.setF v2,q1.b⟩)
theorem bPO{t:Int}{m:MM}{x:aF}(hm:m.Ok t)(h:InsOk x)(h2:x.Op=11):bH7 x m.g=true∧a1E x m.g=(zA m x).g:=by
 refine aE (t:=a1D x m.g) (P:=fun q=>q=(zA m x).g) ?_
 obtain⟨k1,k2⟩:=SB h h2;have hb:=aW.1 h.hb;obtain⟨q1,q2,q3⟩:=aPY hm h h2;obtain⟨v1,v2⟩:=NO (f:=(eP m x).1.r.fl) h.hs q1.r.fw q2;obtain⟨w1,w2⟩:=aPV q1 h.hs h.ho q3 v1;have lg: ∀v,CV x.Size (eP m x).1.r.fl v=true:=fun v=>(oA h.hs q1.r.fw).1
 obtain⟨b1,b2⟩:=a3S (s:=x.Size) (a:=0) (JC h.hs) q2;have lv:=kA h.hs q2;have lr:=qZ h.hs;have e3:bZ (bN x.Size) 1=bN x.Size-1:=eE (by omega)
 have e4:bZ (bN x.Size-1) (eP m x).2.1=bN x.Size-1-(eP m x).2.1:=eE (by omega)
 obtain⟨r1,r2⟩:=aAU hm h.hs h.ho;obtain⟨p1,p2⟩:=aPU (s:=x.Size) hm h.ho;unfold a1D zA;have hsub:x.Sub=0∨x.Sub=1∨x.Sub=2∨x.Sub=3:=by omega
 rcases hsub with e|e|e|e
 ·have hq:eP m x=((fC m x.Size x.Ea).1,0,(fC m x.Size x.Ea).2):=by unfold eP;rw[e];rfl
  have hv:lU x (eP m x).1.r.fl (eP m x).2.1=((eP m x).2.1,eZ x.Size (eP m x).1.r.fl (eP m x).2.1):=by unfold lU;rw[e];rfl
  have l3:ltI x.Sub 3=true:=by rw[e];rfl
  rw[hv]at v1 w1 w2⊢;rw[hq]at b1 b2 e4 w1 w2 lg⊢;dsimp only at b1 b2 e4 w1 w2 lg⊢;unfold AP;cases hfi:eqI ((fC m x.Size x.Ea).1).f.Vector 0
  ·simp only[bF,x8,tS,x7,x6,vP,x4,x3,tR,xZ,xY,eK,cB,bR,bI,eL,eN,aN,cJ,aM,bA,aO,aP,r1,r2,p1,p2,d6,cE,hfi,e,show eqI 0 0=true from rfl,show eqI 0 1=false from rfl,show eqI 0 2=false from rfl,show eqI 0 3=false from rfl,bW,bT,wz]
  ·simp only[bF,x8,tS,x7,x6,vP,x4,x3,tR,xZ,xY,eK,cB,bR,bI,eL,eN,aN,cJ,aM,bA,aO,aP,fR,kU,r1,r2,p1,p2,d6,cE,hfi,e,show eqI 0 0=true from rfl,show eqI 0 1=false from rfl,show eqI 0 2=false from rfl,show eqI 0 3=false from rfl,(kT h.hs).1,(kT h.hs).2,b1,b2,lg,e3,e4,w1,w2,l3,show ltI 0 3=true from rfl,bW,bT,wz]
 ·have hq:eP m x=cL m x.Size x.Ea:=by unfold eP;rw[e];rfl
  have hv:lU x (eP m x).1.r.fl (eP m x).2.1=((0-(eP m x).2.1)%bN x.Size,A5 x.Size 0 (eP m x).2.1):=by unfold lU;rw[e];rfl
  have l3:ltI x.Sub 3=true:=by rw[e];rfl
  rw[hv]at v1 w1 w2⊢;rw[hq]at b1 b2 e4 w1 w2 lg⊢;dsimp only at b1 b2 e4 w1 w2 lg⊢;unfold AP;cases hfi:eqI ((cL m x.Size x.Ea).1).f.Vector 0
  ·simp only[bF,x8,tS,x7,x6,vP,x4,x3,tR,xZ,xY,eK,cB,bR,bI,eL,eN,aN,cJ,aM,bA,aO,aP,r1,r2,p1,p2,d6,cE,hfi,e,show eqI 1 0=false from rfl,show eqI 1 1=true from rfl,show eqI 1 2=false from rfl,show eqI 1 3=false from rfl,bW,bT,wz]
  ·simp only[bF,x8,tS,x7,x6,vP,x4,x3,tR,xZ,xY,eK,cB,bR,bI,eL,eN,aN,cJ,aM,bA,aO,aP,fR,kU,r1,r2,p1,p2,d6,cE,hfi,e,show eqI 1 0=false from rfl,show eqI 1 1=true from rfl,show eqI 1 2=false from rfl,show eqI 1 3=false from rfl,(kT h.hs).1,(kT h.hs).2,b1,b2,lg,e3,e4,w1,w2,l3,show ltI 1 3=true from rfl,bW,bT,wz]
 ·have hq:eP m x=cL m x.Size x.Ea:=by unfold eP;rw[e];rfl
  have hv:lU x (eP m x).1.r.fl (eP m x).2.1=(bN x.Size-1-(eP m x).2.1,eZ x.Size (eP m x).1.r.fl (bN x.Size-1-(eP m x).2.1)):=by unfold lU;rw[e];rfl
  have l3:ltI x.Sub 3=true:=by rw[e];rfl
  rw[hv]at v1 w1 w2⊢;rw[hq]at b1 b2 e4 w1 w2 lg⊢;dsimp only at b1 b2 e4 w1 w2 lg⊢;unfold AP;cases hfi:eqI ((cL m x.Size x.Ea).1).f.Vector 0
  ·simp only[bF,x8,tS,x7,x6,vP,x4,x3,tR,xZ,xY,eK,cB,bR,bI,eL,eN,aN,cJ,aM,bA,aO,aP,r1,r2,p1,p2,d6,cE,hfi,e,show eqI 2 0=false from rfl,show eqI 2 1=false from rfl,show eqI 2 2=true from rfl,show eqI 2 3=false from rfl,bW,bT,wz]
  ·simp only[bF,x8,tS,x7,x6,vP,x4,x3,tR,xZ,xY,eK,cB,bR,bI,eL,eN,aN,cJ,aM,bA,aO,aP,fR,kU,r1,r2,p1,p2,d6,cE,hfi,e,show eqI 2 0=false from rfl,show eqI 2 1=false from rfl,show eqI 2 2=true from rfl,show eqI 2 3=false from rfl,(kT h.hs).1,(kT h.hs).2,b1,b2,lg,e3,e4,w1,w2,l3,show ltI 2 3=true from rfl,bW,bT,wz]
 ·have hq:eP m x=cL m x.Size x.Ea:=by unfold eP;rw[e];rfl
  have hv:lU x (eP m x).1.r.fl (eP m x).2.1=((eP m x).2.1,eZ x.Size (eP m x).1.r.fl (eP m x).2.1):=by unfold lU;rw[e];rfl
  have l3:ltI x.Sub 3=false:=by rw[e];rfl
  rw[hv]at v1 w1 w2⊢;rw[hq]at b1 b2 e4 w1 w2 lg⊢;dsimp only at b1 b2 e4 w1 w2 lg⊢;unfold AP;cases hfi:eqI ((cL m x.Size x.Ea).1).f.Vector 0
  ·simp only[bF,x8,tS,x7,x6,vP,x4,x3,tR,xZ,xY,eK,cB,bR,bI,eL,eN,aN,cJ,aM,bA,aO,aP,r1,r2,p1,p2,d6,cE,hfi,e,show eqI 3 0=false from rfl,show eqI 3 1=false from rfl,show eqI 3 2=false from rfl,show eqI 3 3=true from rfl,bW,bT,wz]
  ·simp only[bF,x8,tS,x7,x6,vP,x4,x3,tR,xZ,xY,eK,cB,bR,bI,eL,eN,aN,cJ,aM,bA,aO,aP,fR,kU,r1,r2,p1,p2,d6,cE,hfi,e,show eqI 3 0=false from rfl,show eqI 3 1=false from rfl,show eqI 3 2=false from rfl,show eqI 3 3=true from rfl,(kT h.hs).1,(kT h.hs).2,b1,b2,lg,e3,e4,w1,w2,l3,show ltI 3 3=false from rfl,bW,bT,wz]
end Go.Proofs.YtdicpjkdpliofaaGreatMasks

namespace Go.Proofs.YtdicpjkdpliofaaGreatMasks
open Go Go.Zq
set_option maxHeartbeats 4000000
set_option maxRecDepth 100000
theorem bC9(a:Int):bG0 a=true∧bGZ a=bS a 0 1:=by
 refine aE (t:=aZT a) (P:=fun r=>r=bS a 0 1) ?_
 unfold aZT;simp only[aZ,aR,oV,oW,Bool.and_true,true_and]
theorem a3Y(c o z n:Bool):aJ (fl c o z n) 16=aD (fl c o z n) 15:=by
 cases c<;>cases o<;>cases z<;>cases n<;>decide
theorem aPZ(f:Int):bE1 f=true∧bE0 f=bS f 0 31:=by
 refine aE (t:=aXF f) (P:=fun r=>r=bS f 0 31) ?_
 unfold aXF;simp only[aZ,aR,oV,oW,Bool.and_true,true_and]
theorem aP0(f:Int):bHK f=true∧bHJ f=bS f 0 31:=by
 refine aE (t:=aZ9 f) (P:=fun r=>r=bS f 0 31) ?_
 unfold aZ9;simp only[aZ,aR,yD,yE,Bool.and_true,true_and]
theorem bPP(a:Int):bIJ a=true∧bAU a=(bif cT 1 a then(aD (xA 1 a) 65535,true)else(0,false)):=by
 refine aE (t:=a1T a) (P:=fun r=>r=(bif cT 1 a then(aD (xA 1 a) 65535,true)else(0,false))) ?_
 unfold a1T;simp only[aZ,dJ,aR,(VS _ _).1,(VS _ _).2,Bool.and_true,true_and];cases ha:cT 1 a
 ·simp
 ·obtain⟨-,h0,h1⟩:=pQ ha;obtain⟨p1,p2⟩:=EQ (s:=1) (v:=a) (Or.inl rfl) h0 (by unfold bN at h1;rw[show eqI 1 1=true from rfl,cond_true]at h1;omega)
  rw[p1,p2];simp
def VW(a:Int):Int×Bool:=bif bS a 0 65535 then(cD (lO a 8) (hX (aD a 255) 8),true)else(0,false)
theorem bJ7(a:Int):bIG a=true∧bAS a=VW a:=by
 refine aE (t:=a1R a) (P:=fun r=>r=VW a) ?_
 unfold a1R VW;have e:cT 2 a=bS a 0 65535:=rfl;simp only[aZ,dJ,aR,(VS _ _).1,(VS _ _).2,e,Bool.and_true,true_and];cases bS a 0 65535<;>simp
end Go.Proofs.YtdicpjkdpliofaaGreatMasks

namespace Go.Proofs.YtdicpjkdpliofaaGreatMasks
open Nat renaming zero_add → q_9
open Go Go.Zq
set_option maxHeartbeats 4000000
set_option maxRecDepth 100000
def C9(v:Int):Int:=(VW v).1
theorem SC{v:Int}:0≤C9 v∧C9 v≤65535:=by
 unfold C9 VW;cases h:bS v 0 65535
 ·exact⟨Int.le_refl 0,(by decide:(0:Int)≤65535)⟩
 ·rw[aW]at h;rw[cond_true];have e1:lO v 8=v/256:=bJX;have e2:hX (aD v 255) 8=v%256*256:=by rw[yC h.1 (by omega),bA7 (by omega) (by omega)]
  show 0≤cD (lO v 8) (hX (aD v 255) 8)∧cD (lO v 8) (hX (aD v 255) 8)≤65535
  rw[e1,e2];exact(JD ⟨by omega,by omega⟩ ⟨by omega,by omega⟩).2.1
def TL(v:Int):Int:=aD (xA 1 (v%256)) 65535
theorem aP1{v:Int}:0≤TL v∧TL v≤65535:=by
 unfold TL;rw[v8];exact bPH _
noncomputable def rE(m:MM)(x:aF):MM:=
 bif eqI x.Sub 0 then{(cP m).1 with r:={(cP m).1.r with pc:=(cP m).2}}
 else bif eqI x.Sub 1 then
  (bif !cE (cP m).1 then(cP m).1 else
   bif cE (cP (cP m).1).1 then{(cP (cP m).1).1 with r:=iH {(cP (cP m).1).1.r with pc:=(cP (cP m).1).2} ((cP m).2%1024)}else(cP (cP m).1).1)
 else bif eqI x.Sub 3 then{m with r:=iH m.r x.Ea.Ext,stop:=true}
 else bif eqI x.Sub 4 then v9 m (18+x.Reg)
 else bif eqI x.Sub 5 then oX m 2 x.Reg (C9 (cI m.r.d x.Reg))
 else bif eqI x.Sub 6 then oX m 2 x.Reg (TL (cI m.r.d x.Reg))else m
theorem a3Z{x:aF}(h:x.Op=15):kB x=C5 x:=bC5 x h
theorem VX{x:aF}(h:InsOk x)(h2:x.Op=15):x.Sub=3→x.Ea.Ext≤1023:=by
 intro e;have hk:=h.kb;rw[a3Z h2]at hk;unfold C5 at hk;rw[e]at hk;simp only[show pG 3 6=false from rfl,show eqI 3 3=true from rfl,cond_true]at hk
 cases e1:cV x.Size 2
 ·rw[e1]at hk;simp only[cond_false]at hk;cases e2:eqI x.Reg 0
  ·rw[e2]at hk;simp at hk
  ·rw[e2,cond_true]at hk;unfold M9 at hk;cases e3:eqI x.Ea.Mode 7
   ·rw[e3]at hk;simp at hk
   ·rw[e3,cond_true,j8]at hk;exact hk
 ·rw[e1]at hk;simp at hk
theorem h22:(2:Int)=1∨(2:Int)=2:=Or.inr rfl
theorem pZ{P:Prop}:(2:Int)=1→P:=fun h=>absurd h (by decide)
theorem bBG{t:Int}{m:MM}{x:aF}(hm:m.Ok t)(h:InsOk x):(rE m x).Ok t:=by
 obtain⟨p1,p2,p3⟩:=LJ hm;obtain⟨q1,q2,q3⟩:=LJ p1;have t0:=hm.r.t0;have s:=SC (v:=cI m.r.d x.Reg);have e:=aP1 (v:=cI m.r.d x.Reg);unfold rE;refine dY (P:=fun z=>MM.Ok t z) (fun _=>⟨p1.r.setP (aW.2 ⟨p2,p3⟩),p1.b⟩) fun _=>?_
 refine dY (P:=fun z=>MM.Ok t z) (fun _=>dY (P:=fun z=>MM.Ok t z) (fun _=>p1) fun _=>dY (P:=fun z=>MM.Ok t z) (fun _=>⟨aAX (q1.r.setP (aW.2 ⟨q2,q3⟩)),q1.b⟩) fun _=>q1) fun _=>?_
 refine dY (P:=fun z=>MM.Ok t z) (fun _=>⟨aAX hm.r,hm.b⟩) fun _=>?_
 refine dY (P:=fun z=>MM.Ok t z) (fun _=>⟨hm.r,hm.b⟩) fun _=>?_
 refine dY (P:=fun z=>MM.Ok t z) (fun _=>NN hm h22 h.hr s.1 pZ (by omega)) fun _=>?_
 exact dY (P:=fun z=>MM.Ok t z) (fun _=>NN hm h22 h.hr e.1 pZ (by omega)) fun _=>hm
theorem bJ8{t:Int}{m:MM}{x:aF}(hm:m.Ok t)(h:InsOk x)(h2:x.Op=15):bIK x m.g=true∧a1V x m.g=(rE m x).g:=by
 refine aE (t:=a1U x m.g) (P:=fun q=>q=(rE m x).g) ?_
 obtain⟨p1,p2,p3⟩:=LJ hm;obtain⟨q1,q2,q3⟩:=LJ p1;obtain⟨a1,a2⟩:=bC7 hm;obtain⟨b1,b2⟩:=bC7 p1;have hr:=aW.1 h.hr;have c1:aD (cP m).2 1023=(cP m).2%1024:=nZ 10 _ (by omega) (by decide)
 have c0:bS ((cP m).2%1024) 0 1023=true:=aW.2 (by omega)
 obtain⟨d1,d2⟩:=aJP (v:=(cP m).2%1024) (q1.r.setP (aW.2 ⟨q2,q3⟩)) c0;have e1:aV 18 x.Reg=18+x.Reg:=bP (by omega)
 obtain⟨f1,f2⟩:=aPW m (18+x.Reg);obtain⟨i1,i2,i3⟩:=jM hm.r.d4 h.hr;obtain⟨s1,s2,s3,s4,s5⟩:=fX (v:=0) hm.r.d4 h.hr;rw[q_9]at s5;obtain⟨j1,j2⟩:=bJ7 (cI m.r.d x.Reg);have sr:=SC (v:=cI m.r.d x.Reg);obtain⟨l1,l2⟩:=aAV (v:=C9 (cI m.r.d x.Reg)) hm h22 h.hr pZ;obtain⟨u1,u2⟩:=aAV (v:=TL (cI m.r.d x.Reg)) hm h22 h.hr pZ;have dr:=nE hm.r.dw hm.r.d4 h.hr;have t1:=hm.r.t1;have m8:aD (cI m.r.d x.Reg) 255=cI m.r.d x.Reg%256:=yC dr.1 (by omega)
 have v1:cT 1 (cI m.r.d x.Reg%256)=true:=hP (s:=1) (Or.inl rfl);obtain⟨w1,w2⟩:=bPP (cI m.r.d x.Reg%256);rw[v1,cond_true]at w2;unfold a1U rE;unfold C9 at l1 l2;unfold TL at u1 u2;have hsub:x.Sub=0∨x.Sub=1∨x.Sub=2∨x.Sub=3∨x.Sub=4∨x.Sub=5∨x.Sub=6∨x.Sub=7:=by have:=aW.1 h.hb;omega
 rcases hsub with e|e|e|e|e|e|e|e
 ·simp only[bF,tX,tW,tU,vW,vV,tT,vU,vT,vS,vR,eK,cB,bR,bI,eL,eN,aN,cJ,aM,bA,aO,aP,q_9,aQ,aY,kC,fR,kU,d6,e,show eqI 0 0=true from rfl,show eqI 0 1=false from rfl,show eqI 0 2=false from rfl,show eqI 0 3=false from rfl,show eqI 0 4=false from rfl,show eqI 0 5=false from rfl,show eqI 0 6=false from rfl,show eqI 0 7=false from rfl,bW,bT,wz,a1,a2]
 ·cases hf:eqI (cP m).1.f.Vector 0
  ·simp only[bF,tX,tW,tU,vW,vV,tT,vU,vT,vS,vR,eK,cB,bR,bI,eL,eN,aN,cJ,aM,bA,aO,aP,q_9,aQ,aY,kC,fR,kU,d6,e,show eqI 1 0=false from rfl,show eqI 1 1=true from rfl,show eqI 1 2=false from rfl,show eqI 1 3=false from rfl,show eqI 1 4=false from rfl,show eqI 1 5=false from rfl,show eqI 1 6=false from rfl,show eqI 1 7=false from rfl,bW,bT,wz,a1,a2,cE,hf]
  ·simp only[bF,tX,tW,tU,vW,vV,tT,vU,vT,vS,vR,eK,cB,bR,bI,eL,eN,aN,cJ,aM,bA,aO,aP,q_9,aQ,aY,kC,fR,kU,d6,e,show eqI 1 0=false from rfl,show eqI 1 1=true from rfl,show eqI 1 2=false from rfl,show eqI 1 3=false from rfl,show eqI 1 4=false from rfl,show eqI 1 5=false from rfl,show eqI 1 6=false from rfl,show eqI 1 7=false from rfl,bW,bT,wz,a1,a2,b1,b2,c1,d1,d2,cE,hf]
   refine⟨fun q=>?_,fun q=>?_⟩
   ·rw[q];rfl
   ·rw[q];rfl
 ·simp only[bF,tX,tW,tU,vW,vV,tT,vU,vT,vS,vR,eK,cB,bR,bI,eL,eN,aN,cJ,aM,bA,aO,aP,q_9,aQ,aY,kC,fR,kU,d6,e,show eqI 2 0=false from rfl,show eqI 2 1=false from rfl,show eqI 2 2=true from rfl,show eqI 2 3=false from rfl,show eqI 2 4=false from rfl,show eqI 2 5=false from rfl,show eqI 2 6=false from rfl,show eqI 2 7=false from rfl,bW,bT,wz]
 ·obtain⟨z1,z2⟩:=aJP (v:=x.Ea.Ext) hm.r (aW.2 ⟨(aW.1 h.ho.he).1,VX h h2 e⟩);simp only[bF,tX,tW,tU,vW,vV,tT,vU,vT,vS,vR,eK,cB,bR,bI,eL,eN,aN,cJ,aM,bA,aO,aP,q_9,aQ,aY,kC,fR,kU,d6,e,show eqI 3 0=false from rfl,show eqI 3 1=false from rfl,show eqI 3 2=false from rfl,show eqI 3 3=true from rfl,show eqI 3 4=false from rfl,show eqI 3 5=false from rfl,show eqI 3 6=false from rfl,show eqI 3 7=false from rfl,bW,bT,wz,z1,z2]
  rfl
 ·simp only[bF,tX,tW,tU,vW,vV,tT,vU,vT,vS,vR,eK,cB,bR,bI,eL,eN,aN,cJ,aM,bA,aO,aP,q_9,aQ,aY,kC,fR,kU,d6,e,show eqI 4 0=false from rfl,show eqI 4 1=false from rfl,show eqI 4 2=false from rfl,show eqI 4 3=false from rfl,show eqI 4 4=true from rfl,show eqI 4 5=false from rfl,show eqI 4 6=false from rfl,show eqI 4 7=false from rfl,bW,bT,wz,e1,f1,f2]
 ·simp only[bF,tX,tW,tU,vW,vV,tT,vU,vT,vS,vR,eK,cB,bR,bI,eL,eN,aN,cJ,aM,bA,aO,aP,q_9,aQ,aY,kC,fR,kU,d6,e,show eqI 5 0=false from rfl,show eqI 5 1=false from rfl,show eqI 5 2=false from rfl,show eqI 5 3=false from rfl,show eqI 5 4=false from rfl,show eqI 5 5=true from rfl,show eqI 5 6=false from rfl,show eqI 5 7=false from rfl,bW,bT,wz,i2,s3,s4,s5,j1,j2,l1,l2,C9]
 ·simp only[bF,tX,tW,tU,vW,vV,tT,vU,vT,vS,vR,eK,cB,bR,bI,eL,eN,aN,cJ,aM,bA,aO,aP,q_9,aQ,aY,kC,fR,kU,d6,e,show eqI 6 0=false from rfl,show eqI 6 1=false from rfl,show eqI 6 2=false from rfl,show eqI 6 3=false from rfl,show eqI 6 4=false from rfl,show eqI 6 5=false from rfl,show eqI 6 6=true from rfl,show eqI 6 7=false from rfl,bW,bT,wz,i2,s3,s4,s5,m8,w1,w2,u1,u2,TL]
 ·simp only[bF,tX,tW,tU,vW,vV,tT,vU,vT,vS,vR,eK,cB,bR,bI,eL,eN,aN,cJ,aM,bA,aO,aP,q_9,aQ,aY,kC,fR,kU,d6,e,show eqI 7 0=false from rfl,show eqI 7 1=false from rfl,show eqI 7 2=false from rfl,show eqI 7 3=false from rfl,show eqI 7 4=false from rfl,show eqI 7 5=false from rfl,show eqI 7 6=false from rfl,show eqI 7 7=true from rfl,bW,bT,wz]
noncomputable def MQ(m:MM)(x:aF)(v:Int):MM:=
 bif eqI x.Op 16 then{oX m 2 x.Reg (cI m.r.d x.Reg*v%65536)with r:={(oX m 2 x.Reg (cI m.r.d x.Reg*v%65536)).r with fl:=cD (oX m 2 x.Reg (cI m.r.d x.Reg*v%65536)).r.fl (bif pG (cI m.r.d x.Reg*v) 65535 then 2 else 0)}}
 else bif eqI v 0 then v9 m 5 else oX m 2 x.Reg (cI m.r.d x.Reg/v)
noncomputable def eC(m:MM)(x:aF):MM:=bif !cE (cL m 2 x.Ea).1 then(cL m 2 x.Ea).1 else MQ (cL m 2 x.Ea).1 x (cL m 2 x.Ea).2.1
theorem aAY{d v:Int}(h0:0≤d)(h1:0<v)(h2:d≤65536):kF d v=d/v∧0≤d/v∧d/v≤d:=by
 have e:=Int.tdiv_eq_ediv_of_nonneg (b:=v) h0;have p:0≤d/v:=Int.ediv_nonneg h0 (by omega)
 have q:d/v≤d:=Int.ediv_le_self _ h0;refine⟨?_,p,q⟩;unfold kF;rw[e,IntKind.wrap_i64];omega
theorem aP2{d v:Int}(h0:0≤d)(h1:d≤65536)(h2:0≤v)(h3:v≤65535):dB d v=d*v∧0≤d*v:=by
 have a:=Int.mul_nonneg h0 h2;have b:d*v≤65536*65535:=Int.mul_le_mul h1 h3 h2 (by decide)
 exact⟨hF (by omega),a⟩
theorem bBH{t s k v:Int}{m:MM}(hm:m.Ok t)(hs:s=1∨s=2):bS (oX m s k v).r.fl 0 31=true:=(oA (v:=v) hs hm.r.fw).2
theorem aJR{t:Int}{m:MM}{x:aF}(hm:m.Ok t)(h:InsOk x):(eC m x).Ok t:=by
 obtain⟨r1,r2,r3⟩:=rB hm h22 h.ho pZ pZ;have rv:=C6 r2;have dr:=nE r1.r.dw r1.r.d4 h.hr;have t1:=hm.r.t1;have t0:=hm.r.t0;unfold eC MQ;refine dY (P:=fun z=>MM.Ok t z) (fun _=>r1) fun _=>?_
 refine dY (P:=fun z=>MM.Ok t z) (fun _=>?_) fun _=>dY (P:=fun z=>MM.Ok t z) (fun _=>⟨r1.r,r1.b⟩) fun hv=>?_
 ·have d:=NN (v:=cI (cL m 2 x.Ea).1.r.d x.Reg*(cL m 2 x.Ea).2.1%65536) r1 h22 h.hr (by omega) pZ (by omega)
  exact⟨d.r.setF (oM (bBH r1 h22) (uK (by decide))),d.b⟩
 ·rw[eT]at hv;obtain⟨-,p,q⟩:=aAY (v:=(cL m 2 x.Ea).2.1) dr.1 (by omega) (by omega)
  exact NN r1 h22 h.hr p pZ (by omega)
theorem VY{t:Int}{m:MM}{x:aF}(hm:m.Ok t)(h:InsOk x):bIL x m.g=true∧a1X x m.g=(eC m x).g:=by
 refine aE (t:=a1W x m.g) (P:=fun q=>q=(eC m x).g) ?_
 obtain⟨r1,r2,r3⟩:=rB hm h22 h.ho pZ pZ;obtain⟨a1,a2⟩:=aAU hm h22 h.ho;unfold a1W eC;generalize cL m 2 x.Ea=q at r1 r2 r3 a1 a2;obtain⟨q1,v,a⟩:=q;dsimp only at r1 r2 r3 a1 a2⊢;have rv:=C6 r2;have dr:=nE r1.r.dw r1.r.d4 h.hr;have t1:=hm.r.t1;obtain⟨i1,i2,i3⟩:=jM r1.r.d4 h.hr;obtain⟨s1,s2,s3,s4,s5⟩:=fX (v:=0) r1.r.d4 h.hr;rw[q_9]at s5;obtain⟨e1,e2⟩:=aP2 dr.1 (by omega) rv.1 rv.2
 obtain⟨b1,b2⟩:=aAV (v:=cI q1.r.d x.Reg*v%65536) r1 h22 h.hr pZ;obtain⟨c1,c2⟩:=aPW q1 5;cases hf:eqI q1.f.Vector 0
 ·simp only[bF,G1,LC,G0,AK,C0,eK,cB,bR,bI,eL,eN,aN,cJ,aM,bA,aO,aP,a1,a2,d6,cE,hf,bW,bT,wz]
 ·unfold MQ;cases ho:eqI x.Op 16
  ·cases hv:eqI v 0
   ·have hv':=hv;rw[eT]at hv';obtain⟨d1,d2,d3⟩:=aAY (v:=v) dr.1 (by omega) (by omega)
    obtain⟨j1,j2⟩:=aAV (v:=cI q1.r.d x.Reg/v) r1 h22 h.hr pZ;have nz:cV v 0=true:=o8.2 hv';simp only[bF,G1,LC,G0,AK,C0,eK,cB,bR,bI,eL,eN,aN,cJ,aM,bA,aO,aP,q_9,aQ,aY,a1,a2,d6,cE,hf,ho,hv,nz,i2,s3,s4,s5,d1,j1,j2,bW,bT,wz]
   ·simp only[bF,G1,LC,G0,AK,C0,eK,cB,bR,bI,eL,eN,aN,cJ,aM,bA,aO,aP,q_9,aQ,aY,a1,a2,d6,cE,hf,ho,hv,i2,s3,s4,s5,c1,c2,bW,bT,wz]
  ·simp only[bF,G1,LC,G0,AK,C0,eK,cB,bR,bI,eL,eN,aN,cJ,aM,bA,aO,aP,q_9,aQ,aY,a1,a2,d6,cE,hf,ho,i2,s3,s4,s5,e1,v8,b1,b2,(eU _ _).1,(eU _ _).2,bW,bT,wz];rfl
theorem VZ(v:Int):bAV v=true∧iA v=(bif (bif bS v 0 255 then leI (lO v 4) 9 else false)then leI (aD v 15) 9 else false):=by
 refine aE (t:=a1Y v) (P:=fun q=>q=(bif (bif bS v 0 255 then leI (lO v 4) 9 else false)then leI (aD v 15) 9 else false)) ?_
 unfold a1Y;simp only[bF,yD,yE,eA,wz,bT]
def Bcd(v:Int):Prop:=0≤v/16∧v/16≤9∧0≤v%16∧v%16≤9
theorem kR{v:Int}(h:iA v=true):Bcd v:=by
 rw[(VZ v).2]at h;have e1:lO v 4=v/16:=qY (n:=4) 4 rfl (by omega)
 have e2:aD v 15=v%16:=nZ 4 _ (by omega) (by decide)
 rw[e1,e2]at h;cases h1:bS v 0 255
 ·rw[h1]at h;simp at h
 ·cases h2:leI (v/16) 9
  ·rw[h1,h2]at h;simp at h
  ·rw[h1,h2]at h;simp only[cond_true,j8]at h;rw[j8]at h2;rw[aW]at h1;unfold Bcd;omega
theorem MR{v:Int}(h:Bcd v):aS1 v=true∧I1 v=v/16*10+v%16:=by
 refine aE (t:=a1Z v) (P:=fun q=>q=v/16*10+v%16) ?_
 have e1:lO v 4=v/16:=qY (n:=4) 4 rfl (by omega)
 have e2:aD v 15=v%16:=nZ 4 _ (by omega) (by decide)
 obtain⟨h1,h2,h3,h4⟩:=h;unfold a1Z;simp only[aZ,aR,e1,e2,true_and];rw[hF (by omega),bP (by omega)]
theorem aJS{n:Int}(h0:0≤n)(h1:n≤99):a10 n=true∧(0≤tA n∧tA n≤255):=by
 refine aE (t:=aI6 n) (P:=fun q=>0≤q∧q≤255) ?_
 have key: ∀n:Fin 100,0≤cD (hX (kF (n.val:Int) 10) 4) (iC (n.val:Int) 10)∧cD (hX (kF (n.val:Int) 10) 4) (iC (n.val:Int) 10)≤255:=by decide+kernel
 obtain⟨n,rfl⟩:=Int.eq_ofNat_of_zero_le h0;unfold aI6;simp only[bF,show cV 10 0=true from rfl,show leI 0 4=true from rfl,eA,wz,bT]
 exact key ⟨n,by omega⟩
def BR(r:Int×Int):Prop:=(0≤r.1∧r.1≤255)∧MP r.2
theorem aP3{c a b:Int}(hc:MP c)(ha:Bcd a)(hb:Bcd b):bIM c a b=true∧BR (M7 c a b):=by
 refine aE (t:=aI7 c a b) (P:=fun q=>BR q) ?_
 obtain⟨a1,a2⟩:=MR ha;obtain⟨b1,b2⟩:=MR hb;obtain⟨h1,h2,h3,h4⟩:=ha;obtain⟨h5,h6,h7,h8⟩:=hb;have hc':0≤c∧c≤1:=by rcases hc with rfl|rfl<;>decide
 have e1:aV (aV (a/16*10+a%16) (b/16*10+b%16)) c=a/16*10+a%16+(b/16*10+b%16)+c:=by rw[bP (x:=a/16*10+a%16) (by omega),bP (by omega)]
 obtain⟨n,hn⟩: ∃n:Int,n=a/16*10+a%16+(b/16*10+b%16)+c:=⟨_,rfl⟩;rw[←hn]at e1;have n0:0≤n∧n≤199:=by omega
 have e2:iC n 100=n%100:=by unfold iC;exact Int.tmod_eq_emod_of_nonneg n0.1
 have e3:kF n 100=n/100:=by unfold kF;rw[Int.tdiv_eq_ediv_of_nonneg n0.1,IntKind.wrap_i64];omega
 obtain⟨o1,o2⟩:=aJS (n:=n%100) (by omega) (by omega)
 unfold aI7;simp only[bF,aAF,a1,a2,b1,b2,e1,e2,e3,o1,show cV 100 0=true from rfl,eA,wz,bT]
 exact⟨o2,by unfold MP;dsimp only;omega⟩
theorem aP4{c a b:Int}(hc:MP c)(ha:Bcd a)(hb:Bcd b):bIN c a b=true∧BR (M8 c a b):=by
 refine aE (t:=aI8 c a b) (P:=fun q=>BR q) ?_
 obtain⟨a1,a2⟩:=MR ha;obtain⟨b1,b2⟩:=MR hb;obtain⟨h1,h2,h3,h4⟩:=ha;obtain⟨h5,h6,h7,h8⟩:=hb;have hc':0≤c∧c≤1:=by rcases hc with rfl|rfl<;>decide
 have e1:bZ (bZ (a/16*10+a%16) (b/16*10+b%16)) c=a/16*10+a%16-(b/16*10+b%16)-c:=by rw[eE (x:=a/16*10+a%16) (by omega),eE (by omega)]
 obtain⟨n,hn⟩: ∃n:Int,n=a/16*10+a%16-(b/16*10+b%16)-c:=⟨_,rfl⟩;rw[←hn]at e1;have n0: -100≤n∧n≤99:=by omega
 have e2:aV n 100=n+100:=bP (by omega)
 unfold aI8;simp only[bF,aAG,a1,a2,b1,b2,e1,e2,dW,oU,eA,wz,bT];refine⟨fun h=>?_,fun h=>?_⟩
 ·obtain⟨o1,o2⟩:=aJS (n:=n+100) (by omega) (by omega)
  exact⟨o1,o2,Or.inr rfl⟩
 ·obtain⟨o1,o2⟩:=aJS (n:=n) (by omega) (by omega)
  exact⟨o1,o2,Or.inl rfl⟩
end Go.Proofs.YtdicpjkdpliofaaGreatMasks

namespace Go.Proofs.YtdicpjkdpliofaaGreatMasks
open Go Go.Zq
set_option maxHeartbeats 4000000
set_option maxRecDepth 100000
noncomputable def wA(x:aF)(m:MM):Int×Int:=bif eqI x.Sub 1 then M8 (bif cV (aD m.r.fl 16) 0 then 1 else 0) (cI m.r.d x.Reg%256) (cI m.r.d x.Ea.Reg%256)else M7 (bif cV (aD m.r.fl 16) 0 then 1 else 0) (cI m.r.d x.Reg%256) (cI m.r.d x.Ea.Reg%256)
noncomputable def yG(m:MM)(x:aF):MM:=
 bif iA (cI m.r.d x.Reg%256)&&iA (cI m.r.d x.Ea.Reg%256)then
  {m with r:=uA {m.r with fl:=cD (bif eqI (wA x m).1 0 then aD m.r.fl 4 else 0) (dB (wA x m).2 17)} 1 x.Reg (wA x m).1}
 else{m with f:={m.f with Vector:=4}}
theorem aAZ{x:aF}{m:MM}(h1:iA (cI m.r.d x.Reg%256)=true)(h2:iA (cI m.r.d x.Ea.Reg%256)=true):BR (wA x m):=by
 unfold wA;exact dY (P:=fun z=>BR z) (fun _=>(aP4 (pA _) (kR h1) (kR h2)).2) (fun _=>(aP3 (pA _) (kR h1) (kR h2)).2)
theorem a30{f v c:Int}(hf:bS f 0 31=true)(hc:MP c):bS (cD (bif eqI v 0 then aD f 4 else 0) (dB c 17)) 0 31=true:=by
 refine oM ?_ ?_
 ·cases eqI v 0
  ·exact(by decide:bS 0 0 31=true)
  ·rcases fl4 hf with h|h<;>rw[h]<;>decide
 ·rcases hc with h|h<;>rw[h]<;>decide
theorem h11:(1:Int)=1∨(1:Int)=2:=Or.inl rfl
theorem bJ9{t:Int}{m:MM}{x:aF}(hm:m.Ok t)(h:InsOk x):(yG m x).Ok t:=by
 have t0:=hm.r.t0;unfold yG;refine dY (P:=fun z=>MM.Ok t z) (fun hb=>?_) (fun _=>⟨hm.r,hm.b⟩)
 rw[Bool.and_eq_true]at hb;obtain⟨⟨v0,v1⟩,v2⟩:=aAZ hb.1 hb.2;exact⟨LK (hm.r.setF (a30 hm.r.fw v2)) h.hr v0 (fun _=>by omega) (by omega),hm.b⟩
theorem bPQ{t:Int}{m:MM}{x:aF}(hm:m.Ok t)(h:InsOk x):bIO x m.g=true∧a12 x m.g=(yG m x).g:=by
 refine aE (t:=a11 x m.g) (P:=fun q=>q=(yG m x).g) ?_
 obtain⟨i1,i2,i3⟩:=jM hm.r.d4 h.hr;obtain⟨s1,s2,s3,s4,s5⟩:=fX (v:=0) hm.r.d4 h.hr;obtain⟨j1,j2,j3⟩:=jM hm.r.d4 h.ho.hr;obtain⟨u1,u2,u3,u4,u5⟩:=fX (v:=0) hm.r.d4 h.ho.hr;rw[Nat.zero_add]at s5 u5;have dr:=nE hm.r.dw hm.r.d4 h.hr;have er:=nE hm.r.dw hm.r.d4 h.ho.hr;have t1:=hm.r.t1;have m8:aD (cI m.r.d x.Reg) 255=cI m.r.d x.Reg%256:=yC dr.1 (by omega)
 have n8:aD (cI m.r.d x.Ea.Reg) 255=cI m.r.d x.Ea.Reg%256:=yC er.1 (by omega)
 unfold a11 yG;cases h1:iA (cI m.r.d x.Reg%256)
 ·simp only[bF,LE,LD,C2,G3,G2,C1,x9,vX,eK,cB,bR,bI,eL,eN,aN,cJ,aM,bA,aO,aP,Nat.zero_add,aQ,aY,i2,j2,s3,s4,s5,u3,u4,u5,m8,n8,(VZ _).1,h1,bW,Bool.false_and,bT,wz];rfl
 ·cases h2:iA (cI m.r.d x.Ea.Reg%256)
  ·simp only[bF,LE,LD,C2,G3,G2,C1,x9,vX,eK,cB,bR,bI,eL,eN,aN,cJ,aM,bA,aO,aP,Nat.zero_add,aQ,aY,i2,j2,s3,s4,s5,u3,u4,u5,m8,n8,(VZ _).1,h1,h2,bW,Bool.and_false,bT,wz];rfl
  ·obtain⟨⟨v0,v1⟩,v2⟩:=aAZ h1 h2;obtain⟨p1,p2⟩:=aC6 (v:=(wA x m).1) (hm.r.setF (a30 (v:=(wA x m).1) hm.r.fw v2)) h11 h.hr (fun _=>by omega)
   obtain⟨a1,a2⟩:=aP3 (pA (cV (aD m.r.fl 16) 0)) (kR h1) (kR h2);obtain⟨b1,b2⟩:=aP4 (pA (cV (aD m.r.fl 16) 0)) (kR h1) (kR h2);cases hs:eqI x.Sub 1
   ·have hv:wA x m=M7 (bif cV (aD m.r.fl 16) 0 then 1 else 0) (cI m.r.d x.Reg%256) (cI m.r.d x.Ea.Reg%256):=by unfold wA;rw[hs];rfl
    rw[hv]at p1 p2⊢;simp only[bF,LE,LD,C2,G3,G2,C1,x9,vX,eK,cB,bR,bI,eL,eN,aN,cJ,aM,bA,aO,aP,Nat.zero_add,aQ,aY,fR,i2,j2,s3,s4,s5,u3,u4,u5,m8,n8,(VZ _).1,(eU _ _).1,(eU _ _).2,h1,h2,hs,a1,b1,p1,p2,bW,bT,wz];rfl
   ·have hv:wA x m=M8 (bif cV (aD m.r.fl 16) 0 then 1 else 0) (cI m.r.d x.Reg%256) (cI m.r.d x.Ea.Reg%256):=by unfold wA;rw[hs];rfl
    rw[hv]at p1 p2⊢;simp only[bF,LE,LD,C2,G3,G2,C1,x9,vX,eK,cB,bR,bI,eL,eN,aN,cJ,aM,bA,aO,aP,Nat.zero_add,aQ,aY,fR,i2,j2,s3,s4,s5,u3,u4,u5,m8,n8,(VZ _).1,(eU _ _).1,(eU _ _).2,h1,h2,hs,a1,b1,p1,p2,bW,bT,wz];rfl
def SD(x:aF)(q:MM×Int):MM:=bif eqI x.Sub 1 then fU q.1 q.1.r.pc else q.1
def aC9(m:MM)(a:Int):MM:=bif cE m then{m with r:={m.r with pc:=a}}else m
noncomputable def lK(m:MM)(x:aF)(at_:Int):MM:=
 bif eqI x.Op 13 then(bif A4 (x.Sub+8*x.Reg) m.r.fl then{m with r:={m.r with pc:=(at_+2+x.Ea.Ext)%65536}}else m)
 else aC9 (SD x (fC m 2 x.Ea)) (fC m 2 x.Ea).2
theorem bBI{t:Int}{q:MM×Int}{x:aF}(hq:q.1.Ok t):(SD x q).Ok t:=by
 have p:=aW.1 hq.r.pw;unfold SD;exact dY (P:=fun z=>MM.Ok t z) (fun _=>bBF hq p.1 p.2) (fun _=>hq)
theorem bBJ{t a:Int}{m:MM}{x:aF}(hm:m.Ok t)(h:InsOk x):(lK m x a).Ok t:=by
 obtain⟨p1,p2⟩:=G8 (s:=2) hm h.ho;have j:=bBI (x:=x) p1;unfold lK aC9;refine dY (P:=fun z=>MM.Ok t z) (fun _=>dY (P:=fun z=>MM.Ok t z) (fun _=>⟨hm.r.setP (aW.2 (by omega)),hm.b⟩) (fun _=>hm)) fun _=>?_
 exact dY (P:=fun z=>MM.Ok t z) (fun _=>⟨j.r.setP p2,j.b⟩) (fun _=>j)
theorem a31{t a:Int}{m:MM}{x:aF}(hm:m.Ok t)(h:InsOk x)(ha:bS a 0 65535=true):bID x a m.g=true∧a1L x a m.g=(lK m x a).g:=by
 refine aE (t:=a1K x a m.g) (P:=fun q=>q=(lK m x a).g) ?_
 obtain⟨p1,p2⟩:=G8 (s:=2) hm h.ho;obtain⟨a1,a2⟩:=aPU (s:=2) hm h.ho;have pp:=aW.1 p1.r.pw;obtain⟨b1,b2⟩:=bJ4 p1 pp.1 pp.2;have hr:=aW.1 h.hr;have hb:=aW.1 h.hb;have he:=aW.1 h.ho.he;have ha':=aW.1 ha;have e1:aV x.Sub (dB 8 x.Reg)=x.Sub+8*x.Reg:=by rw[hF (by omega),bP (by omega)]
 have e2:aD (aV (aV a 2) x.Ea.Ext) 65535=(a+2+x.Ea.Ext)%65536:=by rw[bP (x:=a) (by omega),bP (by omega),v8]
 unfold a1K lK aC9 SD;cases h13:eqI x.Op 13
 ·cases hs:eqI x.Sub 1
  ·cases hf:eqI (fC m 2 x.Ea).1.f.Vector 0
   ·simp only[bF,CZ,CY,qQ,CX,eK,cB,bR,bI,eL,eN,aN,cJ,aM,bA,aO,aP,kC,kU,a1,a2,h13,hs,hf,cE,d6,bW,bT,wz]
   ·simp only[bF,CZ,CY,qQ,CX,eK,cB,bR,bI,eL,eN,aN,cJ,aM,bA,aO,aP,kC,kU,a1,a2,h13,hs,hf,cE,d6,bW,bT,wz]
  ·cases hf:eqI (fU (fC m 2 x.Ea).1 (fC m 2 x.Ea).1.r.pc).f.Vector 0
   ·simp only[bF,CZ,CY,qQ,CX,eK,cB,bR,bI,eL,eN,aN,cJ,aM,bA,aO,aP,kC,kU,a1,a2,b1,b2,h13,hs,hf,cE,d6,bW,bT,wz]
   ·simp only[bF,CZ,CY,qQ,CX,eK,cB,bR,bI,eL,eN,aN,cJ,aM,bA,aO,aP,kC,kU,a1,a2,b1,b2,h13,hs,hf,cE,d6,bW,bT,wz]
 ·cases ht:A4 (x.Sub+8*x.Reg) m.r.fl
  ·simp only[bF,CZ,CY,qQ,CX,eK,cB,bR,bI,eL,eN,aN,cJ,aM,bA,aO,aP,kC,kU,e1,e2,a3V,ht,h13,bW,bT,wz]
  ·simp only[bF,CZ,CY,qQ,CX,eK,cB,bR,bI,eL,eN,aN,cJ,aM,bA,aO,aP,kC,kU,e1,e2,a3V,ht,h13,bW,bT,wz]
end Go.Proofs.YtdicpjkdpliofaaGreatMasks

namespace Go.Proofs.YtdicpjkdpliofaaGreatMasks
open Nat renaming zero_add → q_9
open Go Go.Zq
set_option maxHeartbeats 4000000
set_option maxRecDepth 100000
def zB(q:MM×Int×Int)(x:aF):MM:=bif cE q.1 then{q.1 with r:={q.1.r with a:=q.1.r.a.set x.Reg.toNat q.2.1}}else q.1
def SE(q:MM×Int)(x:aF):MM:={q.1 with r:={q.1.r with a:=q.1.r.a.set x.Reg.toNat q.2}}
noncomputable def aP5(w:MM)(x:aF)(v:Int):MM:={w with r:={w.r with fl:=eZ x.Size w.r.fl v}}
noncomputable def xC(m:MM)(x:aF):MM:=aP5 (dD (fC m x.Size x.Ea).1 x.Size x.Ea (fC m x.Size x.Ea).2 (cI m.r.d x.Reg%bN x.Size)) x (cI m.r.d x.Reg%bN x.Size)
noncomputable def shV(m:MM)(x:aF):Int×Int:=TI x.Sub x.Size m.r.fl (cI m.r.d x.Reg%bN x.Size) (x.Ea.Reg+1)
noncomputable def yH(m:MM)(x:aF):MM:={m with r:=uA {m.r with fl:=(shV m x).2} x.Size x.Reg (shV m x).1}
def wB(m:MM)(x:aF):MM:=bif eqI x.Sub 0 then{m with r:=iH m.r x.Ea.Ext}else{m with r:={m.r with d:=m.r.d.set x.Reg.toNat (o9 m.r)}}
noncomputable def dX(m:MM)(x:aF)(a:Int):MM:=
 bif eqI x.Op 9 then zB (cL m 2 x.Ea) x else bif eqI x.Op 10 then SE (fC m 2 x.Ea) x else bif eqI x.Op 2 then xC m x
 else bif eqI x.Op 11 then zA m x else bif eqI x.Op 12 then yH m x else bif eqI x.Op 13||eqI x.Op 14 then lK m x a
 else bif eqI x.Op 15 then rE m x else bif eqI x.Op 16||eqI x.Op 17 then eC m x else bif eqI x.Op 18 then yG m x
 else bif eqI x.Op 19 then wB m x else iX m x
theorem bPR{x:aF}(h:x.Op=19):kB x=bif eqI x.Size 2 then(bif (bif (bif eqI x.Sub 0 then eqI x.Reg 0 else false)then M9 x.Ea else false)then true else(bif eqI x.Sub 1 then MO x.Ea else false))else false:=by
 unfold kB;rw[h];rfl
theorem V0{x:aF}(h:InsOk x)(h2:x.Op=19)(e:x.Sub=0):bS x.Ea.Ext 0 1023=true:=by
 have hk:=h.kb;have he:=aW.1 h.ho.he;rw[bPR h2,e]at hk;simp only[show eqI 0 0=true from rfl,show eqI 0 1=false from rfl,cond_true,cond_false]at hk
 cases e1:eqI x.Size 2
 ·rw[e1]at hk;simp at hk
 ·cases e2:eqI x.Reg 0
  ·rw[e1,e2]at hk;simp at hk
  ·rw[e1,e2]at hk;unfold M9 at hk;cases e3:eqI x.Ea.Mode 7
   ·rw[e3]at hk;simp at hk
   ·rw[e3]at hk;cases e4:leI x.Ea.Ext 1023
    ·rw[e4]at hk;simp at hk
    ·rw[j8]at e4;exact aW.2 ⟨he.1,e4⟩
theorem a32{t:Int}{m:MM}{x:aF}(hm:m.Ok t)(h:InsOk x):bAL x.Sub x.Size m.r.fl (cI m.r.d x.Reg%bN x.Size) (x.Ea.Reg+1)=true∧Sh x.Size (shV m x):=by
 have hr:=aW.1 h.ho.hr;exact bPM h.hs (hP h.hs) hm.r.fw (by omega) (by omega)
theorem bDC{t a:Int}{m:MM}{x:aF}(hm:m.Ok t)(h:InsOk x):(dX m x a).Ok t:=by
 have t0:=hm.r.t0;obtain⟨r1,r2,r3⟩:=rB hm h22 h.ho pZ pZ;have rv:=C6 r2;obtain⟨p1,p2⟩:=G8 (s:=2) hm h.ho;obtain⟨q1,q2⟩:=G8 (s:=x.Size) hm h.ho;have pv:=aW.1 p2;obtain⟨-,s1,s2⟩:=a32 hm h;have ls:=kA h.hs s1;have st:=aJQ hm.r;have hop:=h.op;unfold dX;refine dY (P:=fun z=>MM.Ok t z) (fun _=>by unfold zB;exact dY (P:=fun z=>MM.Ok t z) (fun _=>⟨r1.r.setA rv.1 rv.2,r1.b⟩) (fun _=>r1)) fun e9=>?_
 refine dY (P:=fun z=>MM.Ok t z) (fun _=>⟨p1.r.setA pv.1 pv.2,p1.b⟩) fun e10=>?_
 refine dY (P:=fun z=>MM.Ok t z) (fun _=>by
  have w:=yZ q1 h.hs h.ho q2 (hP (v:=cI m.r.d x.Reg) h.hs);exact⟨w.r.setF (oA h.hs w.r.fw).2,w.b⟩) fun e2=>?_
 refine dY (P:=fun z=>MM.Ok t z) (fun e=>a3X hm h (cY.1 e)) fun e11=>?_
 refine dY (P:=fun z=>MM.Ok t z) (fun _=>⟨LK (hm.r.setF s2) h.hr ls.1 (fun e=>by have:=ls.2.2 e;omega) (by omega),hm.b⟩) fun e12=>?_
 refine dY (P:=fun z=>MM.Ok t z) (fun _=>bBJ hm h) fun e13=>?_
 refine dY (P:=fun z=>MM.Ok t z) (fun _=>bBG hm h) fun e15=>?_
 refine dY (P:=fun z=>MM.Ok t z) (fun _=>aJR hm h) fun e16=>?_
 refine dY (P:=fun z=>MM.Ok t z) (fun _=>bJ9 hm h) fun e18=>?_
 refine dY (P:=fun z=>MM.Ok t z) (fun _=>by unfold wB;exact dY (P:=fun z=>MM.Ok t z) (fun _=>⟨aAX hm.r,hm.b⟩) (fun _=>⟨hm.r.setD st.1 (by omega),hm.b⟩)) fun e19=>?_
 rw[Bool.or_eq_false_iff]at e13 e16;rw[eT]at e9 e10 e2 e11 e12 e15 e18 e19;have a1:=eT.1 e13.1;have a2:=eT.1 e13.2;have a3:=eT.1 e16.1;have a4:=eT.1 e16.2;exact bJ6 hm h (by unfold oF;omega)
theorem b06{t a:Int}{m:MM}{x:aF}(hm:m.Ok t)(h:InsOk x)(ha:bS a 0 65535=true):bIW x a m.g=true∧bIV x a m.g=(dX m x a).g:=by
 refine aE (t:=a17 x a m.g) (P:=fun q=>q=(dX m x a).g) ?_
 have hop:=h.op;have hop2:x.Op=1∨x.Op=2∨x.Op=3∨x.Op=4∨x.Op=5∨x.Op=6∨x.Op=7∨x.Op=8∨x.Op=9∨x.Op=10∨x.Op=11∨x.Op=12∨x.Op=13∨x.Op=14∨x.Op=15∨x.Op=16∨x.Op=17∨x.Op=18∨x.Op=19:=by omega
 obtain⟨i1,i2,i3⟩:=jM hm.r.d4 h.hr;obtain⟨s1,s2,s3,s4,s5⟩:=fX (v:=0) hm.r.d4 h.hr;rw[q_9]at s1 s2 s5;unfold a17;rcases hop2 with e|e|e|e|e|e|e|e|e|e|e|e|e|e|e|e|e|e|e
 ·have hd:dX m x a=iX m x:=by unfold dX;rw[e];rfl
  rw[hd];obtain⟨a1,a2⟩:=SA hm h (by unfold oF;omega)
  simp only[bF,fQ,fP,fO,fN,iT,hY,iS,gM,gL,iR,iQ,iP,iO,iM,eK,cB,bR,bI,eL,eN,aN,cJ,aM,bA,aO,aP,q_9,aQ,aY,e,show eqI 1 1=true from rfl,show eqI 1 2=false from rfl,show eqI 1 3=false from rfl,show eqI 1 4=false from rfl,show eqI 1 5=false from rfl,show eqI 1 6=false from rfl,show eqI 1 7=false from rfl,show eqI 1 8=false from rfl,show eqI 1 9=false from rfl,show eqI 1 10=false from rfl,show eqI 1 11=false from rfl,show eqI 1 12=false from rfl,show eqI 1 13=false from rfl,show eqI 1 14=false from rfl,show eqI 1 15=false from rfl,show eqI 1 16=false from rfl,show eqI 1 17=false from rfl,show eqI 1 18=false from rfl,show eqI 1 19=false from rfl,bW,bT,wz,a1,a2]
 ·have hd:dX m x a=xC m x:=by unfold dX;rw[e];rfl
  rw[hd];obtain⟨l1,l2⟩:=aPQ hm.r h.hs h.hr;obtain⟨p1,p2⟩:=aPU (s:=x.Size) hm h.ho;obtain⟨q1,q2⟩:=G8 (s:=x.Size) hm h.ho;have hd:=hP (s:=x.Size) (v:=cI m.r.d x.Reg) h.hs;obtain⟨w1,w2⟩:=aPV q1 h.hs h.ho q2 hd;have w3:=yZ q1 h.hs h.ho q2 hd;have lg:=(oA (v:=cI m.r.d x.Reg%bN x.Size) h.hs w3.r.fw).1;simp only[bF,fQ,fP,fO,fN,iT,hY,iS,gM,gL,iR,iQ,iP,iO,iM,eK,cB,bR,bI,eL,eN,aN,cJ,aM,bA,aO,aP,q_9,aQ,aY,e,show eqI 2 1=false from rfl,show eqI 2 2=true from rfl,show eqI 2 3=false from rfl,show eqI 2 4=false from rfl,show eqI 2 5=false from rfl,show eqI 2 6=false from rfl,show eqI 2 7=false from rfl,show eqI 2 8=false from rfl,show eqI 2 9=false from rfl,show eqI 2 10=false from rfl,show eqI 2 11=false from rfl,show eqI 2 12=false from rfl,show eqI 2 13=false from rfl,show eqI 2 14=false from rfl,show eqI 2 15=false from rfl,show eqI 2 16=false from rfl,show eqI 2 17=false from rfl,show eqI 2 18=false from rfl,show eqI 2 19=false from rfl,bW,bT,wz,l1,l2,p1,p2,w1,w2,lg]
  rfl
 ·have hd:dX m x a=iX m x:=by unfold dX;rw[e];rfl
  rw[hd];obtain⟨a1,a2⟩:=SA hm h (by unfold oF;omega)
  simp only[bF,fQ,fP,fO,fN,iT,hY,iS,gM,gL,iR,iQ,iP,iO,iM,eK,cB,bR,bI,eL,eN,aN,cJ,aM,bA,aO,aP,q_9,aQ,aY,e,show eqI 3 1=false from rfl,show eqI 3 2=false from rfl,show eqI 3 3=true from rfl,show eqI 3 4=false from rfl,show eqI 3 5=false from rfl,show eqI 3 6=false from rfl,show eqI 3 7=false from rfl,show eqI 3 8=false from rfl,show eqI 3 9=false from rfl,show eqI 3 10=false from rfl,show eqI 3 11=false from rfl,show eqI 3 12=false from rfl,show eqI 3 13=false from rfl,show eqI 3 14=false from rfl,show eqI 3 15=false from rfl,show eqI 3 16=false from rfl,show eqI 3 17=false from rfl,show eqI 3 18=false from rfl,show eqI 3 19=false from rfl,bW,bT,wz,a1,a2]
 ·have hd:dX m x a=iX m x:=by unfold dX;rw[e];rfl
  rw[hd];obtain⟨a1,a2⟩:=SA hm h (by unfold oF;omega)
  simp only[bF,fQ,fP,fO,fN,iT,hY,iS,gM,gL,iR,iQ,iP,iO,iM,eK,cB,bR,bI,eL,eN,aN,cJ,aM,bA,aO,aP,q_9,aQ,aY,e,show eqI 4 1=false from rfl,show eqI 4 2=false from rfl,show eqI 4 3=false from rfl,show eqI 4 4=true from rfl,show eqI 4 5=false from rfl,show eqI 4 6=false from rfl,show eqI 4 7=false from rfl,show eqI 4 8=false from rfl,show eqI 4 9=false from rfl,show eqI 4 10=false from rfl,show eqI 4 11=false from rfl,show eqI 4 12=false from rfl,show eqI 4 13=false from rfl,show eqI 4 14=false from rfl,show eqI 4 15=false from rfl,show eqI 4 16=false from rfl,show eqI 4 17=false from rfl,show eqI 4 18=false from rfl,show eqI 4 19=false from rfl,bW,bT,wz,a1,a2]
 ·have hd:dX m x a=iX m x:=by unfold dX;rw[e];rfl
  rw[hd];obtain⟨a1,a2⟩:=SA hm h (by unfold oF;omega)
  simp only[bF,fQ,fP,fO,fN,iT,hY,iS,gM,gL,iR,iQ,iP,iO,iM,eK,cB,bR,bI,eL,eN,aN,cJ,aM,bA,aO,aP,q_9,aQ,aY,e,show eqI 5 1=false from rfl,show eqI 5 2=false from rfl,show eqI 5 3=false from rfl,show eqI 5 4=false from rfl,show eqI 5 5=true from rfl,show eqI 5 6=false from rfl,show eqI 5 7=false from rfl,show eqI 5 8=false from rfl,show eqI 5 9=false from rfl,show eqI 5 10=false from rfl,show eqI 5 11=false from rfl,show eqI 5 12=false from rfl,show eqI 5 13=false from rfl,show eqI 5 14=false from rfl,show eqI 5 15=false from rfl,show eqI 5 16=false from rfl,show eqI 5 17=false from rfl,show eqI 5 18=false from rfl,show eqI 5 19=false from rfl,bW,bT,wz,a1,a2]
 ·have hd:dX m x a=iX m x:=by unfold dX;rw[e];rfl
  rw[hd];obtain⟨a1,a2⟩:=SA hm h (by unfold oF;omega)
  simp only[bF,fQ,fP,fO,fN,iT,hY,iS,gM,gL,iR,iQ,iP,iO,iM,eK,cB,bR,bI,eL,eN,aN,cJ,aM,bA,aO,aP,q_9,aQ,aY,e,show eqI 6 1=false from rfl,show eqI 6 2=false from rfl,show eqI 6 3=false from rfl,show eqI 6 4=false from rfl,show eqI 6 5=false from rfl,show eqI 6 6=true from rfl,show eqI 6 7=false from rfl,show eqI 6 8=false from rfl,show eqI 6 9=false from rfl,show eqI 6 10=false from rfl,show eqI 6 11=false from rfl,show eqI 6 12=false from rfl,show eqI 6 13=false from rfl,show eqI 6 14=false from rfl,show eqI 6 15=false from rfl,show eqI 6 16=false from rfl,show eqI 6 17=false from rfl,show eqI 6 18=false from rfl,show eqI 6 19=false from rfl,bW,bT,wz,a1,a2]
 ·have hd:dX m x a=iX m x:=by unfold dX;rw[e];rfl
  rw[hd];obtain⟨a1,a2⟩:=SA hm h (by unfold oF;omega)
  simp only[bF,fQ,fP,fO,fN,iT,hY,iS,gM,gL,iR,iQ,iP,iO,iM,eK,cB,bR,bI,eL,eN,aN,cJ,aM,bA,aO,aP,q_9,aQ,aY,e,show eqI 7 1=false from rfl,show eqI 7 2=false from rfl,show eqI 7 3=false from rfl,show eqI 7 4=false from rfl,show eqI 7 5=false from rfl,show eqI 7 6=false from rfl,show eqI 7 7=true from rfl,show eqI 7 8=false from rfl,show eqI 7 9=false from rfl,show eqI 7 10=false from rfl,show eqI 7 11=false from rfl,show eqI 7 12=false from rfl,show eqI 7 13=false from rfl,show eqI 7 14=false from rfl,show eqI 7 15=false from rfl,show eqI 7 16=false from rfl,show eqI 7 17=false from rfl,show eqI 7 18=false from rfl,show eqI 7 19=false from rfl,bW,bT,wz,a1,a2]
 ·have hd:dX m x a=iX m x:=by unfold dX;rw[e];rfl
  rw[hd];obtain⟨a1,a2⟩:=SA hm h (by unfold oF;omega)
  simp only[bF,fQ,fP,fO,fN,iT,hY,iS,gM,gL,iR,iQ,iP,iO,iM,eK,cB,bR,bI,eL,eN,aN,cJ,aM,bA,aO,aP,q_9,aQ,aY,e,show eqI 8 1=false from rfl,show eqI 8 2=false from rfl,show eqI 8 3=false from rfl,show eqI 8 4=false from rfl,show eqI 8 5=false from rfl,show eqI 8 6=false from rfl,show eqI 8 7=false from rfl,show eqI 8 8=true from rfl,show eqI 8 9=false from rfl,show eqI 8 10=false from rfl,show eqI 8 11=false from rfl,show eqI 8 12=false from rfl,show eqI 8 13=false from rfl,show eqI 8 14=false from rfl,show eqI 8 15=false from rfl,show eqI 8 16=false from rfl,show eqI 8 17=false from rfl,show eqI 8 18=false from rfl,show eqI 8 19=false from rfl,bW,bT,wz,a1,a2]
 ·have hd:dX m x a=zB (cL m 2 x.Ea) x:=by unfold dX;rw[e];rfl
  rw[hd];obtain⟨a1,a2⟩:=aAU hm h22 h.ho;obtain⟨r1,r2,r3⟩:=rB hm h22 h.ho pZ pZ;obtain⟨u1,u2,u3,u4,u5⟩:=fX (v:=0) r1.r.a4 h.hr;rw[q_9]at u1 u2 u5;unfold zB cE;cases hf:eqI (cL m 2 x.Ea).1.f.Vector 0
  ·simp only[bF,fQ,fP,fO,fN,iT,hY,iS,gM,gL,iR,iQ,iP,iO,iM,eK,cB,bR,bI,eL,eN,aN,cJ,aM,bA,aO,aP,q_9,aQ,aY,e,show eqI 9 1=false from rfl,show eqI 9 2=false from rfl,show eqI 9 3=false from rfl,show eqI 9 4=false from rfl,show eqI 9 5=false from rfl,show eqI 9 6=false from rfl,show eqI 9 7=false from rfl,show eqI 9 8=false from rfl,show eqI 9 9=true from rfl,show eqI 9 10=false from rfl,show eqI 9 11=false from rfl,show eqI 9 12=false from rfl,show eqI 9 13=false from rfl,show eqI 9 14=false from rfl,show eqI 9 15=false from rfl,show eqI 9 16=false from rfl,show eqI 9 17=false from rfl,show eqI 9 18=false from rfl,show eqI 9 19=false from rfl,bW,bT,wz,a1,a2,d6,hf]
  ·simp only[bF,fQ,fP,fO,fN,iT,hY,iS,gM,gL,iR,iQ,iP,iO,iM,eK,cB,bR,bI,eL,eN,aN,cJ,aM,bA,aO,aP,q_9,aQ,aY,e,show eqI 9 1=false from rfl,show eqI 9 2=false from rfl,show eqI 9 3=false from rfl,show eqI 9 4=false from rfl,show eqI 9 5=false from rfl,show eqI 9 6=false from rfl,show eqI 9 7=false from rfl,show eqI 9 8=false from rfl,show eqI 9 9=true from rfl,show eqI 9 10=false from rfl,show eqI 9 11=false from rfl,show eqI 9 12=false from rfl,show eqI 9 13=false from rfl,show eqI 9 14=false from rfl,show eqI 9 15=false from rfl,show eqI 9 16=false from rfl,show eqI 9 17=false from rfl,show eqI 9 18=false from rfl,show eqI 9 19=false from rfl,bW,bT,wz,a1,a2,d6,hf,u1,u2,u3,u4,dN,List.length_set]
   rfl
 ·have hd:dX m x a=SE (fC m 2 x.Ea) x:=by unfold dX;rw[e];rfl
  rw[hd];obtain⟨a1,a2⟩:=aPU (s:=2) hm h.ho;obtain⟨r1,r2⟩:=G8 (s:=2) hm h.ho;obtain⟨u1,u2,u3,u4,u5⟩:=fX (v:=0) r1.r.a4 h.hr;rw[q_9]at u1 u2 u5;unfold SE;simp only[bF,fQ,fP,fO,fN,iT,hY,iS,gM,gL,iR,iQ,iP,iO,iM,eK,cB,bR,bI,eL,eN,aN,cJ,aM,bA,aO,aP,q_9,aQ,aY,e,show eqI 10 1=false from rfl,show eqI 10 2=false from rfl,show eqI 10 3=false from rfl,show eqI 10 4=false from rfl,show eqI 10 5=false from rfl,show eqI 10 6=false from rfl,show eqI 10 7=false from rfl,show eqI 10 8=false from rfl,show eqI 10 9=false from rfl,show eqI 10 10=true from rfl,show eqI 10 11=false from rfl,show eqI 10 12=false from rfl,show eqI 10 13=false from rfl,show eqI 10 14=false from rfl,show eqI 10 15=false from rfl,show eqI 10 16=false from rfl,show eqI 10 17=false from rfl,show eqI 10 18=false from rfl,show eqI 10 19=false from rfl,bW,bT,wz,a1,a2,u1,u2,u3,u4,dN,List.length_set]
  rfl
 ·have hd:dX m x a=zA m x:=by unfold dX;rw[e];rfl
  rw[hd];obtain⟨a1,a2⟩:=bPO hm h e;simp only[bF,fQ,fP,fO,fN,iT,hY,iS,gM,gL,iR,iQ,iP,iO,iM,eK,cB,bR,bI,eL,eN,aN,cJ,aM,bA,aO,aP,q_9,aQ,aY,e,show eqI 11 1=false from rfl,show eqI 11 2=false from rfl,show eqI 11 3=false from rfl,show eqI 11 4=false from rfl,show eqI 11 5=false from rfl,show eqI 11 6=false from rfl,show eqI 11 7=false from rfl,show eqI 11 8=false from rfl,show eqI 11 9=false from rfl,show eqI 11 10=false from rfl,show eqI 11 11=true from rfl,show eqI 11 12=false from rfl,show eqI 11 13=false from rfl,show eqI 11 14=false from rfl,show eqI 11 15=false from rfl,show eqI 11 16=false from rfl,show eqI 11 17=false from rfl,show eqI 11 18=false from rfl,show eqI 11 19=false from rfl,bW,bT,wz,a1,a2]
 ·have hd:dX m x a=yH m x:=by unfold dX;rw[e];rfl
  rw[hd];obtain⟨l1,l2⟩:=aPQ hm.r h.hs h.hr;obtain⟨k1,k2,k3⟩:=a32 hm h;have er:=aW.1 h.ho.hr;have e1:aV x.Ea.Reg 1=x.Ea.Reg+1:=bP (by omega)
  have ls:=kA h.hs k2;obtain⟨p1,p2⟩:=aC6 (v:=(shV m x).1) (hm.r.setF k3) h.hs h.hr (fun e=>by have:=ls.2.2 e;omega)
  unfold yH;unfold shV at p1 p2⊢;simp only[bF,fQ,fP,fO,fN,iT,hY,iS,gM,gL,iR,iQ,iP,iO,iM,eK,cB,bR,bI,eL,eN,aN,cJ,aM,bA,aO,aP,q_9,aQ,aY,e,show eqI 12 1=false from rfl,show eqI 12 2=false from rfl,show eqI 12 3=false from rfl,show eqI 12 4=false from rfl,show eqI 12 5=false from rfl,show eqI 12 6=false from rfl,show eqI 12 7=false from rfl,show eqI 12 8=false from rfl,show eqI 12 9=false from rfl,show eqI 12 10=false from rfl,show eqI 12 11=false from rfl,show eqI 12 12=true from rfl,show eqI 12 13=false from rfl,show eqI 12 14=false from rfl,show eqI 12 15=false from rfl,show eqI 12 16=false from rfl,show eqI 12 17=false from rfl,show eqI 12 18=false from rfl,show eqI 12 19=false from rfl,bW,bT,wz,fR,e1,l1,l2,k1,p1,p2]
  rfl
 ·have hd:dX m x a=lK m x a:=by unfold dX;rw[e];rfl
  rw[hd];obtain⟨a1,a2⟩:=a31 hm h ha;simp only[bF,fQ,fP,fO,fN,iT,hY,iS,gM,gL,iR,iQ,iP,iO,iM,eK,cB,bR,bI,eL,eN,aN,cJ,aM,bA,aO,aP,q_9,aQ,aY,e,show eqI 13 1=false from rfl,show eqI 13 2=false from rfl,show eqI 13 3=false from rfl,show eqI 13 4=false from rfl,show eqI 13 5=false from rfl,show eqI 13 6=false from rfl,show eqI 13 7=false from rfl,show eqI 13 8=false from rfl,show eqI 13 9=false from rfl,show eqI 13 10=false from rfl,show eqI 13 11=false from rfl,show eqI 13 12=false from rfl,show eqI 13 13=true from rfl,show eqI 13 14=false from rfl,show eqI 13 15=false from rfl,show eqI 13 16=false from rfl,show eqI 13 17=false from rfl,show eqI 13 18=false from rfl,show eqI 13 19=false from rfl,bW,bT,wz,a1,a2]
 ·have hd:dX m x a=lK m x a:=by unfold dX;rw[e];rfl
  rw[hd];obtain⟨a1,a2⟩:=a31 hm h ha;simp only[bF,fQ,fP,fO,fN,iT,hY,iS,gM,gL,iR,iQ,iP,iO,iM,eK,cB,bR,bI,eL,eN,aN,cJ,aM,bA,aO,aP,q_9,aQ,aY,e,show eqI 14 1=false from rfl,show eqI 14 2=false from rfl,show eqI 14 3=false from rfl,show eqI 14 4=false from rfl,show eqI 14 5=false from rfl,show eqI 14 6=false from rfl,show eqI 14 7=false from rfl,show eqI 14 8=false from rfl,show eqI 14 9=false from rfl,show eqI 14 10=false from rfl,show eqI 14 11=false from rfl,show eqI 14 12=false from rfl,show eqI 14 13=false from rfl,show eqI 14 14=true from rfl,show eqI 14 15=false from rfl,show eqI 14 16=false from rfl,show eqI 14 17=false from rfl,show eqI 14 18=false from rfl,show eqI 14 19=false from rfl,bW,bT,wz,a1,a2]
 ·have hd:dX m x a=rE m x:=by unfold dX;rw[e];rfl
  rw[hd];obtain⟨a1,a2⟩:=bJ8 hm h e;simp only[bF,fQ,fP,fO,fN,iT,hY,iS,gM,gL,iR,iQ,iP,iO,iM,eK,cB,bR,bI,eL,eN,aN,cJ,aM,bA,aO,aP,q_9,aQ,aY,e,show eqI 15 1=false from rfl,show eqI 15 2=false from rfl,show eqI 15 3=false from rfl,show eqI 15 4=false from rfl,show eqI 15 5=false from rfl,show eqI 15 6=false from rfl,show eqI 15 7=false from rfl,show eqI 15 8=false from rfl,show eqI 15 9=false from rfl,show eqI 15 10=false from rfl,show eqI 15 11=false from rfl,show eqI 15 12=false from rfl,show eqI 15 13=false from rfl,show eqI 15 14=false from rfl,show eqI 15 15=true from rfl,show eqI 15 16=false from rfl,show eqI 15 17=false from rfl,show eqI 15 18=false from rfl,show eqI 15 19=false from rfl,bW,bT,wz,a1,a2]
 ·have hd:dX m x a=eC m x:=by unfold dX;rw[e];rfl
  rw[hd];obtain⟨a1,a2⟩:=VY hm h;simp only[bF,fQ,fP,fO,fN,iT,hY,iS,gM,gL,iR,iQ,iP,iO,iM,eK,cB,bR,bI,eL,eN,aN,cJ,aM,bA,aO,aP,q_9,aQ,aY,e,show eqI 16 1=false from rfl,show eqI 16 2=false from rfl,show eqI 16 3=false from rfl,show eqI 16 4=false from rfl,show eqI 16 5=false from rfl,show eqI 16 6=false from rfl,show eqI 16 7=false from rfl,show eqI 16 8=false from rfl,show eqI 16 9=false from rfl,show eqI 16 10=false from rfl,show eqI 16 11=false from rfl,show eqI 16 12=false from rfl,show eqI 16 13=false from rfl,show eqI 16 14=false from rfl,show eqI 16 15=false from rfl,show eqI 16 16=true from rfl,show eqI 16 17=false from rfl,show eqI 16 18=false from rfl,show eqI 16 19=false from rfl,bW,bT,wz,a1,a2]
 ·have hd:dX m x a=eC m x:=by unfold dX;rw[e];rfl
  rw[hd];obtain⟨a1,a2⟩:=VY hm h;simp only[bF,fQ,fP,fO,fN,iT,hY,iS,gM,gL,iR,iQ,iP,iO,iM,eK,cB,bR,bI,eL,eN,aN,cJ,aM,bA,aO,aP,q_9,aQ,aY,e,show eqI 17 1=false from rfl,show eqI 17 2=false from rfl,show eqI 17 3=false from rfl,show eqI 17 4=false from rfl,show eqI 17 5=false from rfl,show eqI 17 6=false from rfl,show eqI 17 7=false from rfl,show eqI 17 8=false from rfl,show eqI 17 9=false from rfl,show eqI 17 10=false from rfl,show eqI 17 11=false from rfl,show eqI 17 12=false from rfl,show eqI 17 13=false from rfl,show eqI 17 14=false from rfl,show eqI 17 15=false from rfl,show eqI 17 16=false from rfl,show eqI 17 17=true from rfl,show eqI 17 18=false from rfl,show eqI 17 19=false from rfl,bW,bT,wz,a1,a2]
 ·have hd:dX m x a=yG m x:=by unfold dX;rw[e];rfl
  rw[hd];obtain⟨a1,a2⟩:=bPQ hm h;simp only[bF,fQ,fP,fO,fN,iT,hY,iS,gM,gL,iR,iQ,iP,iO,iM,eK,cB,bR,bI,eL,eN,aN,cJ,aM,bA,aO,aP,q_9,aQ,aY,e,show eqI 18 1=false from rfl,show eqI 18 2=false from rfl,show eqI 18 3=false from rfl,show eqI 18 4=false from rfl,show eqI 18 5=false from rfl,show eqI 18 6=false from rfl,show eqI 18 7=false from rfl,show eqI 18 8=false from rfl,show eqI 18 9=false from rfl,show eqI 18 10=false from rfl,show eqI 18 11=false from rfl,show eqI 18 12=false from rfl,show eqI 18 13=false from rfl,show eqI 18 14=false from rfl,show eqI 18 15=false from rfl,show eqI 18 16=false from rfl,show eqI 18 17=false from rfl,show eqI 18 18=true from rfl,show eqI 18 19=false from rfl,bW,bT,wz,a1,a2]
 ·have hd:dX m x a=wB m x:=by unfold dX;rw[e];rfl
  rw[hd];unfold wB;cases hs:eqI x.Sub 0
  ·obtain⟨a1,a2⟩:=a3W hm.r;simp only[bF,fQ,fP,fO,fN,iT,hY,iS,gM,gL,iR,iQ,iP,iO,iM,eK,cB,bR,bI,eL,eN,aN,cJ,aM,bA,aO,aP,q_9,aQ,aY,e,show eqI 19 1=false from rfl,show eqI 19 2=false from rfl,show eqI 19 3=false from rfl,show eqI 19 4=false from rfl,show eqI 19 5=false from rfl,show eqI 19 6=false from rfl,show eqI 19 7=false from rfl,show eqI 19 8=false from rfl,show eqI 19 9=false from rfl,show eqI 19 10=false from rfl,show eqI 19 11=false from rfl,show eqI 19 12=false from rfl,show eqI 19 13=false from rfl,show eqI 19 14=false from rfl,show eqI 19 15=false from rfl,show eqI 19 16=false from rfl,show eqI 19 17=false from rfl,show eqI 19 18=false from rfl,show eqI 19 19=true from rfl,bW,bT,wz,hs,a1,a2,s1,s2,s3,s4,dN,List.length_set]
   rfl
  ·obtain⟨a1,a2⟩:=aJP hm.r (V0 h e (cY.1 hs));simp only[bF,fQ,fP,fO,fN,iT,hY,iS,gM,gL,iR,iQ,iP,iO,iM,eK,cB,bR,bI,eL,eN,aN,cJ,aM,bA,aO,aP,q_9,aQ,aY,e,show eqI 19 1=false from rfl,show eqI 19 2=false from rfl,show eqI 19 3=false from rfl,show eqI 19 4=false from rfl,show eqI 19 5=false from rfl,show eqI 19 6=false from rfl,show eqI 19 7=false from rfl,show eqI 19 8=false from rfl,show eqI 19 9=false from rfl,show eqI 19 10=false from rfl,show eqI 19 11=false from rfl,show eqI 19 12=false from rfl,show eqI 19 13=false from rfl,show eqI 19 14=false from rfl,show eqI 19 15=false from rfl,show eqI 19 16=false from rfl,show eqI 19 17=false from rfl,show eqI 19 18=false from rfl,show eqI 19 19=true from rfl,bW,bT,wz,hs,a1,a2]
   rfl
def p7(x:aF):Bool:=bif (bif eqI x.Op 15 then(bif eqI x.Sub 1 then true else eqI x.Sub 3)else false)then true else(bif eqI x.Op 19 then eqI x.Sub 0 else false)
theorem LM(x:aF):bHV x=true∧bHU x=p7 x:=by
 refine aE (t:=a0T x) (P:=fun q=>q=p7 x) ?_
 unfold a0T p7;simp only[bF,eA,wz,bT]
theorem bDD{b:Bool}(h:(!b)=true):b=false:=by cases b<;>simp at h⊢
theorem bDE{b:Bool}(h:(!b)=false):b=true:=by cases b<;>simp at h⊢
def bV(r:RM)(zs:List Int)(l:List aA)(stop halt:Bool):aH:=⟨r.g,wM zs l,stop,halt⟩
theorem NP{t:Int}{r:RM}{zs:List Int}{l:List aA}(s h:Bool)(hr:r.Ok t)(hb:BusOk zs l):aS5 (bV r zs l s h):=by
 have h1:=hr.d4;have h2:=hr.a4;have h3:=hb.hz;have h4:=hb.hl;refine⟨?_,?_,?_,?_⟩
 ·show(ri r.d).length≤2000;rw[aY];omega
 ·show(ri r.a).length≤2000;rw[aY];omega
 ·show(ri zs).length≤2000;rw[aY];omega
 ·show(l.map aA.row).length≤2000;rw[List.length_map];omega
def f0:bO:=⟨0,0,0,0,false⟩
theorem bBK{t:Int}{r:RM}{zs:List Int}{l:List aA}{s h:Bool}(hr:r.Ok t)(hb:BusOk zs l):a95 (bV r zs l s h)=true∧qC (bV r zs l s h)=MM.g ⟨r,zs,l,s,f0⟩:=bBE (NP s h hr hb)
theorem bPS{t:Int}{m:MM}(hm:m.Ok t):TJ m.g=true∧I2 m.g=bV m.r m.zs m.l m.stop false:=bPG (m:=m.g) (NP m.stop false hm.r hm.b)
end Go.Proofs.YtdicpjkdpliofaaGreatMasks

namespace Go.Proofs.YtdicpjkdpliofaaGreatMasks
open Go Go.Zq
set_option maxHeartbeats 4000000
set_option maxRecDepth 100000
theorem uB{B:Int}{c:aI}(r:List Int)(h1:CO B c)(h2:B<2500000000000000000)(h3:1≤r.length):D1 (ri r) c=true∧CO (B+2) (uJ (ri r) c).1:=by
 obtain⟨a,b,-⟩:=aPG (r:=ri r) ⟨r,rfl⟩ (by rw[aY];exact h3) h1 (by omega)
 exact⟨a,b⟩
theorem bPT{B:Int}{p:Bool}{c d:aI}(h:CO B c)(k:CO B d):CO B (aI.mk (bif p then c.fcode else d.fcode) (bif p then c.fat else d.fat) (bif p then c.fseed else d.fseed)):=by
 cases p
 ·exact k
 ·exact h
theorem a33(b:Bool):rP b 1=true:=by
 refine(aE (t:=WY b 1) (P:=fun _=>True) ?_).1
 unfold WY;simp only[aZ,dJ,aR,true_and,implies_true,and_true]
theorem LN{B:Int}{c:aI}(h:CO B c)(hB:B<2000000000000000000):a6A c=true∧CO (B+14) (rN c).1:=by
 refine aE (t:=aV8 c) (P:=fun r=>CO (B+14) r.1) ?_
 have tl: ∀{c':aI},CO (B+6) c'→k84 60 c'=true∧CO (B+14) (oE 60 c').1∧wG 9 (oE 60 c').1=true∧wG 5 (cK 9 (oE 60 c').1).1=true∧wG 2 (cK 5 (cK 9 (oE 60 c').1).1).1=true∧CO (B+14) (cK 2 (cK 5 (cK 9 (oE 60 c').1).1).1).1:=fun{c'} hc=>by
  obtain⟨a1,a2⟩:=EO 60 hc (by omega)
  obtain⟨b1,b2,-⟩:=dZ 9 a2 (by omega)
  obtain⟨e1,e2,-⟩:=dZ 5 b2 (by omega)
  obtain⟨f1,f2,-⟩:=dZ 2 e2 (by omega)
  exact⟨a1,a2.mono (by omega),b1,e1,f1,f2.mono (by omega)⟩
 obtain⟨a1,a2,-⟩:=dZ 8 h (by omega)
 obtain⟨b1,b2,-⟩:=dZ 4 a2 (by omega)
 obtain⟨c1,c2⟩:=uB [0,1,2,20,100,200,384,448,65535,65534] b2 (by omega) (by decide)
 obtain⟨d1,d2⟩:=uB [0,1,2,20,100,200,384,448,65535,65534] a2 (by omega) (by decide)
 simp only[AM,G6]at c1 c2 d1 d2;obtain⟨p1,p2,p3,p4,p5,p6⟩:=tl (c2.mono (by omega))
 obtain⟨q1,q2,q3,q4,q5,q6⟩:=tl (b2.mono (by omega))
 obtain⟨r1,r2,r3,r4,r5,r6⟩:=tl (d2.mono (by omega))
 obtain⟨s1,s2,s3,s4,s5,s6⟩:=tl (a2.mono (by omega))
 unfold aV8;simp only[aZ,dJ,aR,aE6,KA,aE5,J9,FU,PJ,FT,aE4,J8,FS,(VU _).1,a1,b1,c1,d1,p1,p3,p4,p5,q1,q3,q4,q5,r1,r3,r4,r5,s1,s3,s4,s5,Bool.and_true,true_and];refine⟨fun _=>⟨fun _=>⟨fun _=>p6,fun _=>p2⟩,fun _=>⟨fun _=>q6,fun _=>q2⟩⟩,fun _=>⟨fun _=>⟨fun _=>r6,fun _=>r2⟩,fun _=>⟨fun _=>s6,fun _=>s2⟩⟩⟩
def bKA(B:Int)(n:Nat)(c:aI)(r:Option V168_0):Prop:=match r with
 |none=>CO (B+360) c
 |some w=> ∃m,m<n∧(CO (B+60*(6-m)) w.b0∧w.s3=6-(m:Int)∧m≤6)
theorem a34(c:aI)(x:aF){B:Int}(h:CO B c)(hB:B<1000000000000000000):aFB (V168_0.mk c x 0)=true∧CO (B+360) (aFA (V168_0.mk c x 0)).b0:=by
 unfold aFB aFA;refine jL (Post:=fun w:V168_0=>CO (B+360) w.b0) (eO (fun(m:Nat) (v:V168_0)=>CO (B+60*(6-m)) v.b0∧v.s3=6-(m:Int)∧m≤6) _ ?_ 9223372036854775808 6 _ ⟨h.mono (by omega),rfl,by omega⟩ (by omega))
 rintro n v ⟨h,h2,h3⟩
 have hp:CO (B+360) v.b0:=h.mono (by omega)
 have key:(B9 v).Sat (bKA B n v.b0):=by
  have stp:bKA B n v.b0 none:=hp;by_cases hn:n=0
  ·have e:ltI v.s3 6=false:=by rw[oU];omega
   unfold B9;simp only[aZ,dJ,aR,e,true_and,Bool.false_eq_true,false_implies];exact fun _=>stp
  have nxt: ∀c',CO (B+60*(6-n)+60) c'→bKA B n v.b0 (some (V168_0.mk c' v.b1 (aV v.s3 1))):=fun c' hc=>⟨n-1,by omega,hc.mono (by omega),by show aV v.s3 1=_;rw[bP (by omega)];omega,by omega⟩
  obtain⟨a1,a2,-⟩:=dZ 19 h (by omega)
  obtain⟨b1,b2,-⟩:=dZ 2 a2 (by omega)
  obtain⟨c1,c2,-⟩:=dZ 4 b2 (by omega)
  obtain⟨o1,o2⟩:=LN c2 (by omega)
  obtain⟨d1,d2,-⟩:=dZ 4 o2 (by omega)
  obtain⟨e1,e2,-⟩:=dZ 2 o2 (by omega)
  obtain⟨f1,f2,-⟩:=dZ 7 e2 (by omega)
  obtain⟨g1,g2,-⟩:=dZ 4 f2 (by omega)
  obtain⟨i1,i2,-⟩:=dZ 8 e2 (by omega)
  obtain⟨j1,j2⟩:=uB [2,4,6,8,65526,65530,0,3] i2 (by omega) (by decide)
  obtain⟨l1,l2⟩:=uB [0,1,2,2,3,4,5,6] o2 (by omega) (by decide)
  simp only[AM,G6]at j1 j2 l1 l2;obtain⟨m1,m2,-⟩:=dZ 4 l2 (by omega)
  obtain⟨n1,n2⟩:=uB [0,256,512,1023] m2 (by omega) (by decide)
  obtain⟨q1,q2⟩:=uB [0,256,512,1023] l2 (by omega) (by decide)
  obtain⟨r1,r2⟩:=uB [0,256,480,768,31] o2 (by omega) (by decide)
  simp only[AM,G6]at n1 n2 q1 q2 r1 r2;obtain⟨s1,s2⟩:=EO 2 r2 (by omega)
  obtain⟨t1,t2,-⟩:=dZ 4 s2 (by omega)
  have o2':CO (B+60*(6-n)+60) _:=o2.mono (by omega)
  have d2':CO (B+60*(6-n)+60) _:=d2.mono (by omega)
  have e2':CO (B+60*(6-n)+60) _:=e2.mono (by omega)
  have g2':CO (B+60*(6-n)+60) _:=g2.mono (by omega)
  have j2':CO (B+60*(6-n)+60) _:=j2.mono (by omega)
  have l2':CO (B+60*(6-n)+60) _:=l2.mono (by omega)
  have m2':CO (B+60*(6-n)+60) _:=m2.mono (by omega)
  have n2':CO (B+60*(6-n)+60) _:=n2.mono (by omega)
  have q2':CO (B+60*(6-n)+60) _:=q2.mono (by omega)
  have s2':CO (B+60*(6-n)+60) _:=s2.mono (by omega)
  have t2':CO (B+60*(6-n)+60) _:=t2.mono (by omega)
  unfold B9;simp only[bF,sZ,B8,B7,sY,pY,nB,B6,B5,nA,B4,B0,m9,gY,dH,m7,BZ,BY,sX,BX,BW,pX,FX,rQ,z6,dC,zZ,pI,lA,FW,FV,cA,bT,eA,wz,a33,(fA _).1,a1,b1,c1,o1,d1,e1,f1,g1,i1,j1,l1,m1,n1,q1,r1,s1,t1]
  repeat' first
   |with_reducible exact stp
   |(with_reducible refine nxt _ ?_;with_reducible assumption)
   |intro _
   |with_reducible constructor
 exact key
def bPU(B:Int)(r:aI×aF):Prop:=CO (B+420) r.1
theorem bDF{B:Int}{c:aI}(h:CO B c)(hB:B<1000000000000000000):a6O c=true∧CO (B+420) (MX c).1:=by
 refine aE (t:=aRY c) (P:=fun r=>CO (B+420) r.1) ?_
 obtain⟨w1,w2⟩:=a34 c ⟨0,0,0,⟨0,0,0⟩,0⟩ h hB;obtain⟨a1,a2,-⟩:=dZ 19 w2 (by omega)
 obtain⟨b1,b2,-⟩:=dZ 2 a2 (by omega)
 obtain⟨c1,c2,-⟩:=dZ 4 b2 (by omega)
 obtain⟨o1,o2⟩:=LN c2 (by omega)
 obtain⟨d1,d2,-⟩:=dZ 4 o2 (by omega)
 obtain⟨e1,e2,-⟩:=dZ 2 o2 (by omega)
 obtain⟨f1,f2,-⟩:=dZ 7 e2 (by omega)
 obtain⟨g1,g2,-⟩:=dZ 4 f2 (by omega)
 obtain⟨i1,i2,-⟩:=dZ 8 e2 (by omega)
 obtain⟨j1,j2⟩:=uB [2,4,6,8,65526,65530,0,3] i2 (by omega) (by decide)
 obtain⟨l1,l2⟩:=uB [0,1,2,2,3,4,5,6] o2 (by omega) (by decide)
 simp only[AM,G6]at j1 j2 l1 l2;obtain⟨m1,m2,-⟩:=dZ 4 l2 (by omega)
 obtain⟨n1,n2⟩:=uB [0,256,512,1023] m2 (by omega) (by decide)
 obtain⟨q1,q2⟩:=uB [0,256,512,1023] l2 (by omega) (by decide)
 obtain⟨r1,r2⟩:=uB [0,256,480,768,31] o2 (by omega) (by decide)
 simp only[AM,G6]at n1 n2 q1 q2 r1 r2;obtain⟨s1,s2⟩:=EO 2 r2 (by omega)
 obtain⟨t1,t2,-⟩:=dZ 4 s2 (by omega)
 have o2':CO (B+420) _:=o2.mono (by omega)
 have d2':CO (B+420) _:=d2.mono (by omega)
 have e2':CO (B+420) _:=e2.mono (by omega)
 have g2':CO (B+420) _:=g2.mono (by omega)
 have j2':CO (B+420) _:=j2.mono (by omega)
 have l2':CO (B+420) _:=l2.mono (by omega)
 have m2':CO (B+420) _:=m2.mono (by omega)
 have n2':CO (B+420) _:=n2.mono (by omega)
 have q2':CO (B+420) _:=q2.mono (by omega)
 have s2':CO (B+420) _:=s2.mono (by omega)
 have t2':CO (B+420) _:=t2.mono (by omega)
 have w2':CO (B+420) _:=w2.mono (by omega)
 have nxt: ∀c' x,CO (B+420) c'→bPU B (c',x):=fun c' x h=>h
 have key:(aRY c).Sat (bPU B):=by
  unfold aRY;simp only[bF,XF,XE,XD,IK,z8,IJ,II,f6,IH,XC,PM,xM,aFD,XB,PL,aFC,gI,lP,gH,bT,eA,wz,a33,(fA _).1,w1,a1,b1,c1,o1,d1,e1,f1,g1,i1,j1,l1,m1,n1,q1,r1,s1,t1]
  repeat' first
   |(with_reducible refine nxt _ _ ?_;with_reducible assumption)
   |intro _
   |with_reducible constructor
 exact key
theorem bDG{B:Int}{c:aI}(h:CO B c)(hB:B<1000000000000000000):k82 c=true∧CO (B+500) (g82 c).1:=by
 refine aE (t:=T82 c) (P:=fun r=>CO (B+500) r.1) ?_
 obtain⟨a1,a2⟩:=bDF h hB;obtain⟨b1,b2⟩:=EO 20 a2 (by omega)
 obtain⟨c1,c2,-⟩:=dZ 22 b2 (by omega)
 obtain⟨d1,d2,-⟩:=dZ 4 c2 (by omega)
 obtain⟨e1,e2,-⟩:=dZ 5 d2 (by omega)
 obtain⟨f1,f2⟩:=LN e2 (by omega)
 obtain⟨g1,g2,-⟩:=dZ 9 f2 (by omega)
 unfold T82;simp only[aZ,dJ,aR,aWO,VA,UZ,a1,b1,c1,d1,e1,f1,g1,Bool.and_true,true_and];exact⟨fun _=>g2.mono (by omega),fun _=>b2.mono (by omega)⟩
theorem b07{x:List Row}(h:bytesOk x=true):CO 0 (aI.mk x 0 0):=⟨h,Int.le_refl 0,Int.le_refl 0⟩
end Go.Proofs.YtdicpjkdpliofaaGreatMasks

namespace Go.Proofs.YtdicpjkdpliofaaGreatMasks
open Go Go.Zq
set_option maxHeartbeats 4000000
set_option maxRecDepth 100000
theorem bKB{l:List aF}{i:Nat}(h:i<l.length):gN [.int .i64, .int .i64, .int .i64, .int .i64, .int .i64, .int .i64, .int .i64] (l.map aF.row) (i:Int)=true∧aF.at (l.map aF.row) i 0=l[i]:=by
 have e:(l.map aF.row).getD i []=aF.row l[i]:=by simp[List.getD_eq_getElem?_getD,h]
 constructor
 ·simp only[gN,dM,Int.toNat_natCast,e,List.length_map];have:Nat.blt i l.length=true:=by simpa using h
  rw[this];rfl
 ·unfold aF.at bD uW;rw[e];rfl
theorem bPV{n:Nat}(h:n≤2000):qN (vC (n+1) 56) 140737488355328=true∧qN (n+1) 140737488355328=true:=by
 simp only[I5,aAM];omega
def IL(n:Nat)(r:List Row):Prop:= ∃l:List aF,r=l.map aF.row∧l.length≤n
theorem aP6(n:Nat)(c:aI){B:Int}(h:CO B c)(hB:B+420*n<500000000000000000)(hn:n≤50):XI (V231_0.mk c [] (n:Int))=true∧(CO (B+420*n) (PO (V231_0.mk c [] (n:Int))).b0∧IL n (PO (V231_0.mk c [] (n:Int))).s3):=by
 unfold XI PO;refine jL (Post:=fun w:V231_0=>CO (B+420*n) w.b0∧IL n w.s3) (eO (fun(m:Nat) (v:V231_0)=>CO (B+420*(n-m)) v.b0∧v.s4=(m:Int)∧m≤n∧ ∃l:List aF,v.s3=l.map aF.row∧l.length+m=n) _ ?_ 9223372036854775808 n _ ⟨h.mono (by omega),rfl,by omega,[],rfl,by simp⟩ (by omega))
 rintro m v ⟨h1,h2,h3,l,h4,h5⟩
 obtain⟨a1,a2⟩:=bDF h1 (by omega)
 obtain⟨r1,r2⟩:=bPV (n:=l.length) (by omega)
 unfold KB;simp only[bF,FY,h2,h4,a1,r1,r2,List.length_map,Nat.zero_add,eA,wz,qX,I6];refine⟨fun hm=>⟨m-1,by omega,a2.mono (by omega),?_,by omega,l++[(MX v.b0).2],by simp,by simp;omega⟩,fun hm=>⟨h1.mono (by omega),l,rfl,by omega⟩⟩
 rw[eE (by omega)];omega
theorem a35{n:Nat}{r:List Row}(h:IL n r)(x:aF)(k:Nat):IL n (r.set k (aF.row x)):=by
 obtain⟨l,rfl,h1⟩:=h;exact⟨l.set k x,by rw[List.map_set],by simpa using h1⟩
theorem bBL{n:Nat}{r:List Row}(h:IL n r)(h0:0<r.length):jT (jU r 0) 7=true:=by
 obtain⟨l,rfl,h1⟩:=h;cases l with
 |nil=>simp at h0
 |cons a l=>rfl
theorem a36{α:Type}(b:Bool)(x:α):(bif b then x else x)=x:=by cases b<;>rfl
theorem V1{n:Nat}{B:Int}{c:aI}{r:List Row}(h1:CO B c)(h2:IL n r)(hB:B<900000000000000000):k84 20 c=true∧CO (B+2) (aI.mk (bif (pG (bL r) 0)then(oE 20 c).1.fcode else c.fcode) (bif (pG (bL r) 0)then(oE 20 c).1.fat else c.fat) (bif (pG (bL r) 0)then(oE 20 c).1.fseed else c.fseed))∧k82 (aI.mk (bif (pG (bL r) 0)then(oE 20 c).1.fcode else c.fcode) (bif (pG (bL r) 0)then(oE 20 c).1.fat else c.fat) (bif (pG (bL r) 0)then(oE 20 c).1.fseed else c.fseed))=true∧CO (B+502) (g82 (aI.mk (bif (pG (bL r) 0)then(oE 20 c).1.fcode else c.fcode) (bif (pG (bL r) 0)then(oE 20 c).1.fat else c.fat) (bif (pG (bL r) 0)then(oE 20 c).1.fseed else c.fseed))).1:=by
 obtain⟨a1,a2⟩:=EO 20 h1 (by omega)
 have a3:CO (B+2) (aI.mk (bif (pG (bL r) 0)then(oE 20 c).1.fcode else c.fcode) (bif (pG (bL r) 0)then(oE 20 c).1.fat else c.fat) (bif (pG (bL r) 0)then(oE 20 c).1.fseed else c.fseed)):=bPT a2 (h1.mono (by omega))
 obtain⟨b1,b2⟩:=bDG a3 (by omega)
 exact⟨a1,a3,b1,b2.mono (by omega)⟩
theorem bKC{c:aI}{B:Int}(h:CO B c)(hB:B<400000000000000000):bEP c=true∧(CO (B+30000) (MY c).1∧IL 50 (MY c).2):=by
 refine aE (t:=aWP c) (P:=fun r=>CO (B+30000) r.1∧IL 50 r.2) ?_
 obtain⟨a1,a2,a3,a4,-⟩:=dZ 8 h (by omega)
 have a4:=a4 (by omega)
 obtain⟨b1,b2⟩:=EO 20 a2 (by omega)
 obtain⟨c1,c2,c3,c4,-⟩:=dZ 2 b2 (by omega)
 have c4:=c4 (by omega)
 obtain⟨m,hm⟩: ∃m:Nat,(cK 8 c).2=(m:Int):=⟨_,(Int.toNat_of_nonneg a3).symm⟩;obtain⟨n,hn⟩: ∃n:Nat,aV 40 (cK 2 (oE 20 (cK 8 c).1).1).2=(n:Int):=⟨(40+(cK 2 (oE 20 (cK 8 c).1).1).2).toNat,by rw[bP (by omega)];omega⟩
 have hn':n≤41:=by rw[bP (by omega)]at hn;omega
 obtain⟨d1,d2,d3⟩:=aP6 n _ c2 (by omega) (by omega)
 obtain⟨e1,e2,e3⟩:=aP6 m _ b2 (by omega) (by omega)
 have d3:IL 50 _:=⟨d3.choose,d3.choose_spec.1,by have:=d3.choose_spec.2;omega⟩
 have e3:IL 50 _:=⟨e3.choose,e3.choose_spec.1,by have:=e3.choose_spec.2;omega⟩
 obtain⟨f1,f2,f3,f4⟩:=V1 d2 d3 (by omega)
 obtain⟨i1,i2,i3,i4⟩:=V1 e2 e3 (by omega)
 have tk: ∀r:List Row,List.take r.length r=r:=fun r=>List.take_length
 have z: ∀n:Nat,qN (0+n) n=true:=fun n=>by simp
 have pos: ∀r:List Row,∀q:Bool,(bif pG (bL r) 0 then q else false)=true→ltI 0 (bL r)=true∧blt 0 r.length=true∧(IL 50 r→jT (jU r 0) 7=true):=fun r q hq=>by
  cases hg:pG (bL r) 0
  ·rw[hg]at hq;simp at hq
  ·rw[qX,aQ]at hg;exact⟨by simp;omega,by simp;omega,fun h=>bBL h (by omega)⟩
 unfold aWP;simp only[bF,XM,XL,XK,XJ,DW,PR,gK,aFI,aFH,aFG,aFF,KC,PQ,gJ,PP,a1,b1,c1,hm,hn,d1,e1,f1,i1,f3,i3,z,a36,List.length_set,tk,eA,wz];have tks: ∀(r:List Row)(x:Row),List.take r.length (r.set 0 x)=r.set 0 x:=fun r x=>List.take_of_length_le (by simp)
 simp only[tks,List.length_set,R4,bEK,wz,Bool.and_true,true_and];refine⟨fun _=>⟨fun hq=>?_,fun _=>⟨f2.mono (by omega),d3⟩⟩,fun _=>⟨fun hq=>?_,fun _=>⟨i2.mono (by omega),e3⟩⟩⟩
 ·obtain⟨p1,p2,p3⟩:=pos _ _ hq;rw[p1,p2,p3 d3];exact⟨rfl,f4.mono (by omega),a35 d3 _ 0⟩
 ·obtain⟨p1,p2,p3⟩:=pos _ _ hq;rw[p1,p2,p3 e3];exact⟨rfl,i4.mono (by omega),a35 e3 _ 0⟩
theorem bKD(x:aF):aWQ x=true∧ ∃zs:List Int,D2 x=ri zs∧zs.length≤2:=by
 refine aE (t:=aFJ x) (P:=fun r=> ∃zs:List Int,r=ri zs∧zs.length≤2) ?_
 unfold aFJ;simp only[bF,(VU _).1,show leI 0 11=true from rfl,show leI 0 10=true from rfl,show leI 0 8=true from rfl,show leI 0 5=true from rfl,show leI 0 3=true from rfl,eA,wz]
 exact⟨fun _=>⟨[_,_],rfl,by simp⟩,fun _=>⟨[_],rfl,by simp⟩⟩
def EL(n:Nat)(r:List Row):Prop:= ∃zs:List Int,r=ri zs∧zs.length≤n
theorem bBM(l:List aF)(hl:l.length≤50)(x:List Row):aFL (V230_0.mk x [] (l.map aF.row) (bL (l.map aF.row)) 0)=true∧EL 200 (aFK (V230_0.mk x [] (l.map aF.row) (bL (l.map aF.row)) 0)).s4:=by
 unfold aFL aFK;refine jL (Post:=fun w:V230_0=>EL 200 w.s4) (eO (fun(m:Nat) (v:V230_0)=> ∃i:Nat,v.s7=l.map aF.row∧v.s8=(l.length:Int)∧v.s9=(i:Int)∧i+m=l.length∧EL (2*i) v.s4) _ ?_ 9223372036854775808 l.length _ ⟨0,rfl,by simp,rfl,by omega,[],rfl,by simp⟩ (by omega))
 rintro m v ⟨i,h1,h2,h3,h4,zs,h5,h6⟩
 have done:EL 200 v.s4:=⟨zs,h5,by omega⟩
 unfold KD;simp only[aZ,dJ,aR,GA,FZ,vD,h1,h2,h3,dW,oU,true_and,Int.toNat_natCast,(fA _).1,Bool.and_true];refine⟨fun hlt=>?_,fun _=>done⟩
 have hi:i<l.length:=by omega
 obtain⟨p1,p2⟩:=bKB hi;obtain⟨q1,ws,q2,q3⟩:=bKD l[i];have r1:qN (vC (zs.length+ws.length) 8) 140737488355328=true∧qN (zs.length+ws.length) 140737488355328=true:=by simp only[I5,aAM];omega
 rw[p1,p2,q1,q2,h5];simp only[aY,r1,R4,bEK,wz,Nat.zero_add,Bool.and_true,true_and];refine⟨fun _=>⟨zs,rfl,by omega⟩,fun _=>⟨m-1,by omega,i+1,?_,by omega,zs++ws,aRJ.symm,by rw[List.length_append];omega⟩⟩
 rw[bP (by omega)];omega
theorem b08{r:List Row}(h:IL 50 r):bEQ r=true∧EL 200 (aFN r).1:=by
 obtain⟨l,rfl,hl⟩:=h;refine aE (t:=aWR (l.map aF.row)) (P:=fun q=>EL 200 q.1) ?_
 obtain⟨a1,a2⟩:=bBM l hl (l.map aF.row);have e0:EL 200 []:=⟨[],rfl,by simp⟩
 unfold aWR;simp only[bF,aFM,KE,a1,eA,wz];exact⟨fun _=>e0,fun _=>⟨fun _=>e0,fun _=>a2⟩⟩
end Go.Proofs.YtdicpjkdpliofaaGreatMasks

namespace Go.Proofs.YtdicpjkdpliofaaGreatMasks
open Go Go.Zq
set_option maxHeartbeats 4000000
set_option maxRecDepth 100000
theorem a37(c:aI)(a:Int){B:Int}(h:CO B c)(hB:B<300000000000000000):aFO (V165_0.mk c a (ri (List.replicate 384 0)) 384 0)=true∧(CO (B+2000) (PU (V165_0.mk c a (ri (List.replicate 384 0)) 384 0)).b0∧(PU (V165_0.mk c a (ri (List.replicate 384 0)) 384 0)).s4=a∧ ∃zs:List Int,(PU (V165_0.mk c a (ri (List.replicate 384 0)) 384 0)).s5=ri zs∧zs.length=384):=by
 unfold aFO PU;refine jL (Post:=fun w:V165_0=>CO (B+2000) w.b0∧w.s4=a∧ ∃zs:List Int,w.s5=ri zs∧zs.length=384) (eO (fun(m:Nat) (v:V165_0)=>CO (B+4*(384-m)) v.b0∧v.s4=a∧v.s16=384∧ ∃i:Nat,v.s17=(i:Int)∧i+m=384∧ ∃zs:List Int,v.s5=ri zs∧zs.length=384) _ ?_ 9223372036854775808 384 _ ⟨h.mono (by omega),rfl,rfl,0,rfl,by omega,_,rfl,by simp⟩ (by omega))
 rintro m v ⟨h1,h2,h3,i,h4,h5,zs,h6,h7⟩
 obtain⟨a1,a2⟩:=EO 8 h1 (by omega)
 obtain⟨b1,b2,-⟩:=dZ 256 a2 (by omega)
 have e1:aV (i:Int) 1=((i+1:Nat):Int):=by rw[bP (by omega)];omega
 unfold KF;simp only[bF,GC,GB,h2,h3,h4,h6,e1,a1,b1,aQ,aY,h7,dN,List.length_set,Nat.zero_add,Int.toNat_natCast,dW,oU,eA,wz];refine⟨fun hi=>⟨fun _=>?_,fun _=>⟨m-1,by omega,a2.mono (by omega),i+1,rfl,by omega,zs,rfl,h7⟩⟩,fun _=>⟨h1.mono (by omega),zs,rfl,h7⟩⟩
 have hi':i<zs.length:=by omega
 have l0:leI 0 (i:Int)=true:=by simp
 have l1:ltI (i:Int) ((384:Nat):Int)=true:=by rw[dW];omega
 have l2:blt i 384=true:=by simp;omega
 have l3:jT (jU (ri zs) i) 1=true:=by rw[w8 hi'];rfl
 rw[l0,l1,l2,l3];refine⟨rfl,m-1,by omega,b2.mono (by omega),i+1,rfl,by omega,_,rfl,by rw[List.length_set];exact h7⟩
theorem a38(c:aI)(a:Int)(ys ws:List Int){B:Int}(h:CO B c)(ha:0≤a)(ha1:a≤100)(hy:ys.length=384)(hw:ws.length≤300):aFP (V165_1.mk c a (ri ys) (ri ws) (bL (ri ws)) 0)=true∧(CO B (PW (V165_1.mk c a (ri ys) (ri ws) (bL (ri ws)) 0)).b0∧(PW (V165_1.mk c a (ri ys) (ri ws) (bL (ri ws)) 0)).s4=a∧ ∃zs:List Int,(PW (V165_1.mk c a (ri ys) (ri ws) (bL (ri ws)) 0)).s5=ri zs∧zs.length=384):=by
 unfold aFP PW;refine jL (Post:=fun w:V165_1=>CO B w.b0∧w.s4=a∧ ∃zs:List Int,w.s5=ri zs∧zs.length=384) (eO (fun(m:Nat) (v:V165_1)=>CO B v.b0∧v.s4=a∧v.s34=ri ws∧v.s35=(ws.length:Int)∧ ∃i:Nat,v.s36=(i:Int)∧i+m=ws.length∧ ∃zs:List Int,v.s5=ri zs∧zs.length=384) _ ?_ 9223372036854775808 ws.length _ ⟨h,rfl,rfl,by simp[aY],0,rfl,by omega,ys,rfl,hy⟩ (by omega))
 rintro m v ⟨h1,h2,h8,h3,i,h4,h5,zs,h6,h7⟩
 obtain⟨an,rfl⟩:=Int.eq_ofNat_of_zero_le ha;have e1:aV (i:Int) 1=((i+1:Nat):Int):=by rw[bP (by omega)];omega
 have e2:dB 2 (i:Int)=((2*i:Nat):Int):=by rw[hF (by omega)];omega
 have e3:aV (an:Int) ((2*i:Nat):Int)=((an+2*i:Nat):Int):=by rw[bP (by omega)];omega
 have e4:aV ((an+2*i:Nat):Int) 1=((an+2*i+1:Nat):Int):=by rw[bP (by omega)];omega
 unfold KG;simp only[bF,vE,GF,GE,AB,AA,z9,GD,h2,h3,h4,h6,h8,e1,e2,e3,e4,aQ,aY,h7,dN,List.length_set,Nat.zero_add,Int.toNat_natCast,dW,oU,eA,wz];refine⟨fun hi=>?_,fun _=>⟨h1,zs,rfl,h7⟩⟩
 have hi':i<ws.length:=by omega
 have l0: ∀n:Nat,leI 0 (n:Int)=true:=fun n=>by simp
 have l1:ltI (i:Int) (ws.length:Int)=true:=by rw[dW];omega
 have l2:dM [.int .i64] (ri ws) i 0=true:=I8 ⟨ws,rfl⟩ (by rw[aY];exact hi')
 rw[l0,l1,l2];refine⟨rfl,by simp,fun hb=>?_,fun _=>⟨m-1,by omega,h1,i+1,rfl,by omega,zs,rfl,h7⟩⟩
 have hb':an+2*i+1<zs.length:=by omega
 have l4:ltI ((an+2*i:Nat):Int) ((384:Nat):Int)=true:=by rw[dW];omega
 have l5:blt (an+2*i) 384=true:=by simp;omega
 have l6:jT (jU (ri zs) (an+2*i)) 1=true:=by rw[w8 (by omega)];rfl
 have l7:blt (an+2*i+1) 384=true:=by simp;omega
 have l8:ltI ((an+2*i+1:Nat):Int) ((384:Nat):Int)=true:=by rw[dW];omega
 have l9: ∀z,jT (jU (ri (zs.set (an+2*i) z)) (an+2*i+1)) 1=true:=fun z=>by rw[w8 (by rw[List.length_set];omega)];rfl
 have l10:leI 0 8=true:=rfl;simp only[l0,l1,l2,l4,l5,l6,l7,l8,l9,l10,Bool.and_true,true_and];exact⟨m-1,by omega,h1,i+1,rfl,by omega,_,rfl,by rw[List.length_set,List.length_set];exact h7⟩
theorem bBN{c:aI}{B:Int}(h:CO B c)(hB:B<200000000000000000):bER c=true∧(CO (B+40000) (wI c).1∧(∃zs:List Int,(wI c).2.1=ri zs∧zs.length=384)∧0≤(wI c).2.2∧(wI c).2.2≤60):=by
 refine aE (t:=aWS c) (P:=fun r=>CO (B+40000) r.1∧(∃zs:List Int,r.2.1=ri zs∧zs.length=384)∧0≤r.2.2∧r.2.2≤60) ?_
 obtain⟨a1,a2,a3,a4,-⟩:=dZ 30 h (by omega)
 have a4:=a4 (by omega)
 have e0:List.replicate 384 (aU 0)=ri (List.replicate 384 0):=by simp[ri,List.map_replicate,aU]
 have e1:dB 2 (cK 30 c).2=2*(cK 30 c).2:=hF (by omega)
 obtain⟨b1,b2,b3,zs,b4,b5⟩:=a37 (cK 30 c).1 (2*(cK 30 c).2) a2 (by omega)
 obtain⟨c1,c2,c3⟩:=bKC b2 (by omega)
 obtain⟨d1,ws,d2,d3⟩:=b08 c3;obtain⟨f1,f2,f3,ys,f4,f5⟩:=a38 _ (2*(cK 30 c).2) zs ws c2 (by omega) (by omega) b5 (by omega)
 unfold aWS;simp only[bF,aFQ,PY,PX,XV,oI,a1,e0,e1,b1,b3,b4,c1,d1,d2,f1,f3,f4,eA,wz];exact⟨by simp,f2.mono (by omega),⟨ys,rfl,f5⟩,by omega,by omega⟩
end Go.Proofs.YtdicpjkdpliofaaGreatMasks

namespace Go.Proofs.YtdicpjkdpliofaaGreatMasks
open Go Go.Zq
set_option maxHeartbeats 4000000
set_option maxRecDepth 100000
theorem SF{B t:Int}{c:aI}(r:List Int)(h1:CO B c)(h2:B<2500000000000000000)(h3:1≤r.length)(h4:gZ t r=true):D1 (ri r) c=true∧CO (B+2) (uJ (ri r) c).1∧0≤(uJ (ri r) c).2∧(uJ (ri r) c).2≤t:=by
 obtain⟨a,b,j,c1,c2⟩:=aPG (r:=ri r) ⟨r,rfl⟩ (by rw[aY];exact h3) h1 (by omega)
 rw[aY]at c1;rw[pO c1]at c2;have:=aW.1 (List.all_eq_true.1 h4 _ (List.getElem_mem c1));rw[c2];exact⟨a,b,this⟩
def r0:RM:=⟨[0,0,0,0],[0,0,0,0],0,0,0,7,true,false⟩
theorem a39:a66=true∧D3=r0.g:=by
 refine aE (t:=aWT) (P:=fun q=>q=r0.g) ?_
 unfold aWT;simp only[bF,eA,wz];rfl
theorem aS6(c:aI)(b1:aG){B:Int}(h:CO B c)(hB:B<300000000000000000):aFR (V166_0.mk c b1 r0.g 0)=true∧(CO (B+20) (XZ (V166_0.mk c b1 r0.g 0)).b0∧ ∃ds az:List Int,(XZ (V166_0.mk c b1 r0.g 0)).b2=RM.g ⟨ds,az,0,0,0,7,true,false⟩∧ds.length=4∧az.length=4∧gZ 65535 ds=true∧gZ 65535 az=true):=by
 unfold aFR XZ;refine jL (Post:=fun w:V166_0=>CO (B+20) w.b0∧ ∃ds az:List Int,w.b2=RM.g ⟨ds,az,0,0,0,7,true,false⟩∧ds.length=4∧az.length=4∧gZ 65535 ds=true∧gZ 65535 az=true) (eO (fun(m:Nat) (v:V166_0)=>CO (B+4*(4-m)) v.b0∧ ∃i:Nat,v.s4=(i:Int)∧i+m=4∧ ∃ds az:List Int,v.b2=RM.g ⟨ds,az,0,0,0,7,true,false⟩∧ds.length=4∧az.length=4∧gZ 65535 ds=true∧gZ 65535 az=true) _ ?_ 9223372036854775808 4 _ ⟨h.mono (by omega),0,rfl,by omega,_,_,rfl,rfl,rfl,by decide,by decide⟩ (by omega))
 rintro m v ⟨h1,i,h4,h5,ds,az,h6,h7,h8,h9,h10⟩
 obtain⟨a1,a2,a3,a4⟩:=SF [0,1,2,5,128,255,32768,65535] h1 (by omega) (by decide) (t:=65535) (by decide)
 obtain⟨b1,b2,b3,b4⟩:=SF [0,2,20,40,100,300,301,384,448,500,65534] a2 (by omega) (by decide) (t:=65535) (by decide)
 simp only[AM,G6]at a1 a2 a3 a4 b1 b2 b3 b4;have e1:aV (i:Int) 1=((i+1:Nat):Int):=by rw[bP (by omega)];omega
 unfold KH;by_cases hi:i<4
 ·obtain⟨s1,s2,s3,s4,-⟩:=fX (l:=ds) (i:=(i:Int)) (v:=0) h7 (aW.2 (by omega))
  obtain⟨u1,u2,u3,u4,-⟩:=fX (l:=az) (i:=(i:Int)) (v:=0) h8 (aW.2 (by omega))
  rw[Nat.zero_add,Int.toNat_natCast]at s1 s2 u1 u2;have l0:ltI (i:Int) 4=true:=by rw[dW];omega
  simp only[bF,GJ,GI,AE,rR,AD,GH,GG,vF,pJ,AC,h4,h6,l0,e1,a1,b1,eL,eN,aN,cJ,aM,bA,aO,aP,aQ,aY,dN,List.length_set,Nat.zero_add,Int.toNat_natCast,s1,s2,s3,s4,u1,u2,u3,u4,bW,wz,bT];exact⟨m-1,by omega,b2.mono (by omega),i+1,rfl,by omega,_,_,rfl,by rw[List.length_set];exact h7,by rw[List.length_set];exact h8,sE h9 a3 a4,sE h10 b3 b4⟩
 ·have l0:ltI (i:Int) 4=false:=by rw[oU];omega
  simp only[bF,h4,l0,bW];exact⟨h1.mono (by omega),ds,az,h6,h7,h8,h9,h10⟩
theorem aA0{d a:List Int}{x y z f mk:Int}{p q:Bool}(hd:d.length=4)(wd:gZ 65536 d=true)(ha:a.length=4)(wa:gZ 65535 a=true)(hx:0≤x∧x≤65535)(hy:0≤y∧y≤65535)(hz:0≤z∧z≤65535)(hf:0≤f∧f<32)(hm:0≤mk∧mk≤8): ∃r:RM,aG.mk (ri d) (ri (a.set 3 x)) y z f mk p q=r.g∧r.Ok 65536:=
 ⟨⟨d,a.set 3 x,y,z,f,mk,p,q⟩,rfl,by decide,by decide,hd,by rw[List.length_set];exact ha,wd,sE wa hx.1 hx.2,aW.2 hy,aW.2 hz,aW.2 ⟨hf.1,(by omega:f≤31)⟩,aW.2 ⟨hm.1,(by omega:mk≤65536-65528)⟩⟩
theorem bKE{c:aI}{B:Int}(h:CO B c)(hB:B<200000000000000000):bES c=true∧(CO (B+60) (MZ c).1∧ ∃r:RM,(MZ c).2=r.g∧r.Ok 65536):=by
 refine aE (t:=aWU c) (P:=fun q=>CO (B+60) q.1∧ ∃r:RM,q.2=r.g∧r.Ok 65536) ?_
 obtain⟨n1,n2⟩:=a39;obtain⟨a1,a2,ds,az,a3,a4,a5,a6,a7⟩:=aS6 c ⟨[],[],0,0,0,0,false,false⟩ h (by omega)
 rw[←n2]at a1 a2 a3;obtain⟨b1,b2,b3,b4⟩:=SF [200,202,380,65534,0,301] a2 (by omega) (by decide) (t:=65535) (by decide)
 obtain⟨c1,c2,c3,c4⟩:=SF [300,0,447] b2 (by omega) (by decide) (t:=65535) (by decide)
 obtain⟨d1,d2,d3,d4⟩:=SF [0,2,10,40,384,3,448] c2 (by omega) (by decide) (t:=65535) (by decide)
 simp only[AM,G6]at b1 b2 b3 b4 c1 c2 c3 c4 d1 d2 d3 d4;obtain⟨e1,e2,e3,e4,-⟩:=dZ 32 d2 (by omega)
 have e4:=e4 (by omega)
 obtain⟨f1,f2,f3,f4,-⟩:=dZ 8 e2 (by omega)
 have f4:=f4 (by omega)
 obtain⟨i1,i2⟩:=EO 3 f2 (by omega)
 obtain⟨j1,j2⟩:=EO 8 i2 (by omega)
 obtain⟨l1,l2,-⟩:=dZ 60 j2 (by omega)
 obtain⟨s1,s2,s3,s4,-⟩:=fX (l:=ds) (i:=0) (v:=0) a4 (by decide)
 obtain⟨u1,u2,u3,u4,-⟩:=fX (l:=az) (i:=3) (v:=0) a5 (by decide)
 rw[Nat.zero_add]at s1 s2 u1 u2;have t0:Int.toNat 0=0:=rfl;rw[t0]at s1 s2;rw[bPJ]at u1 u2;have wd:gZ 65536 ds=true:=by
  unfold gZ at a6⊢;rw[List.all_eq_true]at*;intro z hz;have:=aW.1 (a6 z hz);exact aW.2 (by omega)
 unfold aWU;simp only[bF,X4,X3,X2,X1,aFT,xO,AF,xN,KJ,aFS,KI,GK,X0,i6,n1,a1,a3,b1,c1,d1,e1,f1,i1,j1,l1,eL,eN,aN,cJ,aM,bA,aO,aP,aQ,aY,dN,List.length_set,s1,s2,s3,s4,u1,u2,u3,u4,eA,wz,bT];have ds4:(ds.set 0 65536).length=4:=by rw[List.length_set];exact a4
 have ds5:gZ 65536 (ds.set 0 65536)=true:=sE wd (by decide) (by decide)
 have lz:=l2.mono (C:=B+60) (by omega)
 exact⟨fun _=>⟨lz,aA0 ds4 ds5 a5 a7 ⟨b3,b4⟩ ⟨c3,c4⟩ ⟨d3,d4⟩ ⟨e3,e4⟩ ⟨f3,by omega⟩⟩,fun _=>⟨fun _=>⟨lz,aA0 a4 wd a5 a7 ⟨b3,b4⟩ ⟨c3,c4⟩ ⟨d3,d4⟩ ⟨e3,e4⟩ ⟨by decide,by decide⟩⟩,fun _=>⟨lz,aA0 a4 wd a5 a7 ⟨b3,b4⟩ ⟨c3,c4⟩ ⟨d3,d4⟩ ⟨e3,e4⟩ ⟨f3,by omega⟩⟩⟩⟩
end Go.Proofs.YtdicpjkdpliofaaGreatMasks

namespace Go.Proofs.YtdicpjkdpliofaaGreatMasks
open Go Go.Zq
set_option maxHeartbeats 4000000
set_option maxRecDepth 100000
theorem bKF(x:Int):a73 x=!bS x 0 255:=by
 simp[a73,dA,aXI]
theorem bKG(x:Int):a74 x=true:=by
 simp[a74,dA,aXI]
theorem a4A(zs:List Int)(hl:zs.length<1000000):P6 (V275v1_0.mk (ri zs) (bL (ri zs)) 0)=true∧0≤(CD (V275v1_0.mk (ri zs) (bL (ri zs)) 0)).s8∧(ltI (CD (V275v1_0.mk (ri zs) (bL (ri zs)) 0)).s8 (CD (V275v1_0.mk (ri zs) (bL (ri zs)) 0)).s7=!cZ zs):=by
 unfold P6 CD;refine jL (Post:=fun w=>0≤w.s8∧ltI w.s8 w.s7=!cZ zs) (eO (fun n v=> ∃i:Nat,v=V275v1_0.mk (ri zs) (bL (ri zs)) i∧i≤zs.length∧n=zs.length-i∧ ∀j(hj:j<zs.length),j<i→bS zs[j] 0 255=true) _ ?_ 9223372036854775808 zs.length _ ⟨0,rfl,by omega,by omega,fun j _ h=>absurd h (by omega)⟩ (by omega))
 rintro n v ⟨i,rfl,hi,rfl,hall⟩
 unfold yV;simp only[aZ,dJ,aR,aQ,aY,dW,oU,true_and,Int.toNat_natCast];constructor
 ·intro h;have hi':i<zs.length:=by omega
  rw[tY hi',pO hi',bKG,bKF];refine⟨rfl,fun hz=>?_,fun hz=>?_⟩
  ·rw[R6 hi' (by simpa using hz)]
   exact⟨by omega,by simpa [ltI]using h⟩
  ·refine⟨_,?_,i+1,?_,by omega,rfl,?_⟩
   ·omega
   ·rw[bP (by omega)];rfl
   ·intro j hj hji;by_cases e:j=i
    ·subst e;simpa using hz
    ·exact hall j hj (by omega)
 ·intro h;rw[R7 fun j hj=>hall j hj (by omega)]
  exact⟨by omega,by simpa [ltI]using h⟩
theorem bPW(zs:List Int)(hl:zs.length<1000000):P8 (ri zs)=true∧P7 (ri zs)=!cZ zs:=by
 obtain⟨h1,h2,h3⟩:=a4A zs hl;have a:YK (ri zs)=true∧jO (YJ (ri zs)) 0=!cZ zs:=by
  unfold YK YJ YI IQ;rw[dA,dA];simp only[yB,G5,oT,oL,C4,iB,h1,h3,Bool.true_and];cases cZ zs
  ·exact⟨rfl,by simpa using h2⟩
  ·exact⟨rfl,rfl⟩
 have b:P8 (ri zs)=true∧P7 (ri zs)=!cZ zs:=by
  unfold P8 P7 YL;rw[dA,dA];simp only[yB,oT,oL,iB,a.1,a.2,Bool.true_and,and_self]
 exact b
theorem bPX(x:aA):a77 x=!accB x:=by
 simp[a77,dA,aXN,(bC0 x).2]
theorem bPY(x:aA):a78 x=true:=by
 simp[a78,dA,aXN,(bC0 x).1]
theorem aS7(l:List aA)(hl:l.length<1000000):aGB (V276_0.mk (l.map aA.row) (bL (l.map aA.row)) 0)=true∧0≤(QA (V276_0.mk (l.map aA.row) (bL (l.map aA.row)) 0)).s8∧(ltI (QA (V276_0.mk (l.map aA.row) (bL (l.map aA.row)) 0)).s8 (QA (V276_0.mk (l.map aA.row) (bL (l.map aA.row)) 0)).s7=!l.all accB):=by
 unfold aGB QA;refine jL (Post:=fun w=>0≤w.s8∧ltI w.s8 w.s7=!l.all accB) (eO (fun n v=> ∃i:Nat,v=V276_0.mk (l.map aA.row) (bL (l.map aA.row)) i∧i≤l.length∧n=l.length-i∧ ∀j(hj:j<l.length),j<i→accB l[j]=true) _ ?_ 9223372036854775808 l.length _ ⟨0,rfl,by omega,by omega,fun j _ h=>absurd h (by omega)⟩ (by omega))
 rintro n v ⟨i,rfl,hi,rfl,hall⟩
 unfold KN;simp only[aZ,dJ,aR,aQ,List.length_map,dW,oU,true_and,Int.toNat_natCast];constructor
 ·intro h;have hi':i<l.length:=by omega
  obtain⟨p1,p2⟩:=aAN hi';rw[p1,p2,bPY,bPX];refine⟨rfl,fun hz=>?_,fun hz=>?_⟩
  ·rw[aPH hi' (by simpa using hz)]
   exact⟨by omega,by simpa [ltI]using h⟩
  ·refine⟨_,?_,i+1,?_,by omega,rfl,?_⟩
   ·omega
   ·rw[bP (by omega)];rfl
   ·intro j hj hji;by_cases e:j=i
    ·subst e;simpa using hz
    ·exact hall j hj (by omega)
 ·intro h;rw[aPI fun j hj=>hall j hj (by omega)]
  exact⟨by omega,by simpa [ltI]using h⟩
theorem bKH(l:List aA)(hl:l.length<1000000):aXQ (l.map aA.row)=true∧aXP (l.map aA.row)=!l.all accB:=by
 obtain⟨h1,h2,h3⟩:=aS7 l hl;have a:a8G (l.map aA.row)=true∧jO (a8F (l.map aA.row)) 0=!l.all accB:=by
  unfold a8G a8F a8E YP;rw[dA,dA];simp only[yB,G5,oT,oL,C4,iB,h1,h3,Bool.true_and];cases l.all accB
  ·exact⟨rfl,by simpa using h2⟩
  ·exact⟨rfl,rfl⟩
 have b:aXQ (l.map aA.row)=true∧aXP (l.map aA.row)=!l.all accB:=by
  unfold aXQ aXP a8H;rw[dA,dA];simp only[yB,oT,oL,iB,a.1,a.2,Bool.true_and,and_self]
 exact b
def MS(zs:List Int)(l:List aA):Bool:=eqI (zs.length:Int) 512&&(leI (l.length:Int) 400&&(cZ zs&&l.all accB))
theorem bKI(zs:List Int)(l:List aA)(hz:zs.length<1000000)(hl:l.length<1000000):a8J ⟨ri zs,l.map aA.row⟩=true∧a8I ⟨ri zs,l.map aA.row⟩=MS zs l:=by
 refine aE (t:=aXS ⟨ri zs,l.map aA.row⟩) (P:=fun r=>r=MS zs l) ?_
 obtain⟨a1,a2⟩:=bPW zs hz;obtain⟨b1,b2⟩:=bKH l hl;unfold aXS MS;simp only[aZ,aR,aGE,aGD,YQ,Bool.cond_self,a1,a2,b1,b2,aQ,aY,List.length_map,Bool.and_true,Bool.true_or,true_and];cases eqI (zs.length:Int) 512<;>cases leI (l.length:Int) 400<;>cases cZ zs<;>cases l.all accB<;>rfl
def AQ(xs:List Int)(i:Nat):List Int:=xs.take i++List.replicate (512-i) 0
def G9(A ys:List Int)(i:Nat):List Int:=A.take 384++(ys.take i++A.drop (384+i))
theorem JF{xs:List Int}{i:Nat}(h:i≤xs.length)(hx:xs.length≤384):(AQ xs i).length=512:=by
 simp[AQ];omega
theorem aS8{xs:List Int}{i:Nat}(h:i<xs.length)(hx:xs.length≤384):(AQ xs i).set i xs[i]=AQ xs (i+1):=by
 unfold AQ;have e:512-i=(512-(i+1))+1:=by omega
 have l:(xs.take i).length=i:=by simp;omega
 rw[e,List.replicate_succ,List.set_append_right _ _ (by omega),l,Nat.sub_self,List.set_cons_zero,List.take_succ_eq_append_getElem h,List.append_assoc,List.singleton_append]
theorem aS9{A ys:List Int}{i:Nat}(hA:A.length=512)(h:i<ys.length)(hy:ys.length≤64):(G9 A ys i).set (384+i) ys[i]=G9 A ys (i+1):=by
 unfold G9;have l1:(A.take 384).length=384:=by simp;omega
 have l2:(ys.take i).length=i:=by simp;omega
 rw[List.set_append_right _ _ (by omega),l1,show 384+i-384=i from by omega,List.set_append_right _ _ (by omega),l2,Nat.sub_self,List.take_succ_eq_append_getElem h,List.drop_eq_getElem_cons (show 384+i<A.length by omega),List.set_cons_zero,show 384+(i+1)=384+i+1 from rfl,List.append_assoc,List.singleton_append]
theorem b09(xs ys:List Int)(hx:xs.length≤384):aWX (V232_0.mk ⟨[],[]⟩ ⟨ri (AQ xs 0),[]⟩ (ri ys) (ri xs) (xs.length:Int) 0)=true∧aWW (V232_0.mk ⟨[],[]⟩ ⟨ri (AQ xs 0),[]⟩ (ri ys) (ri xs) (xs.length:Int) 0)=V232_0.mk ⟨[],[]⟩ ⟨ri (AQ xs xs.length),[]⟩ (ri ys) (ri xs) (xs.length:Int) (xs.length:Int):=by
 refine NK (N:=CA) (fun i=>V232_0.mk ⟨[],[]⟩ ⟨ri (AQ xs i),[]⟩ (ri ys) (ri xs) (xs.length:Int) (i:Int)) xs.length (by omega) (fun i hi=>?_) ?_
 ·have hl:=JF (xs:=xs) (i:=i) (by omega) hx
  have hl2:=JF (xs:=xs) (i:=i+1) (by omega) hx
  have l1:ltI (i:Int) (xs.length:Int)=true:=by rw[dW];omega
  have l2:ltI (i:Int) ((512:Nat):Int)=true:=by rw[dW];omega
  have l3:leI 0 (i:Int)=true:=by simp
  have a1:aV (i:Int) 1=((i+1:Nat):Int):=by rw[bP (by omega)];omega
  have b1:blt i 512=true:=by simp;omega
  have b2:jT (jU (ri (AQ xs i)) i) 1=true:=by rw[w8 (by omega)];rfl
  unfold CA;simp only[bF,GM,GL,aQ,aY,hl,hl2,dN,List.length_set,List.length_nil,tY hi,pO hi,Int.toNat_natCast,Nat.zero_add,aS8 hi hx,l1,l2,l3,a1,b1,b2,bW,wz]
 ·have l1:ltI (xs.length:Int) (xs.length:Int)=false:=by simp
  unfold CA;simp only[bF,l1,eA,Bool.false_eq_true,false_implies,implies_true]
theorem SG{A ys:List Int}{i:Nat}(hA:A.length=512)(h:i≤ys.length)(hy:ys.length≤64):(G9 A ys i).length=512:=by
 simp[G9];omega
theorem b1A(A ys:List Int)(hA:A.length=512)(hy:ys.length≤64):aWY (V232_1.mk ⟨[],[]⟩ ⟨ri (G9 A ys 0),[]⟩ (ri ys) (ys.length:Int) 0)=true∧aFW (V232_1.mk ⟨[],[]⟩ ⟨ri (G9 A ys 0),[]⟩ (ri ys) (ys.length:Int) 0)=V232_1.mk ⟨[],[]⟩ ⟨ri (G9 A ys ys.length),[]⟩ (ri ys) (ys.length:Int) (ys.length:Int):=by
 refine NK (N:=CB) (fun i=>V232_1.mk ⟨[],[]⟩ ⟨ri (G9 A ys i),[]⟩ (ri ys) (ys.length:Int) (i:Int)) ys.length (by omega) (fun i hi=>?_) ?_
 ·have hl:=SG (A:=A) (ys:=ys) (i:=i) hA (by omega) hy
  have hl2:=SG (A:=A) (ys:=ys) (i:=i+1) hA (by omega) hy
  have l1:ltI (i:Int) (ys.length:Int)=true:=by rw[dW];omega
  have a1:aV (i:Int) 1=((i+1:Nat):Int):=by rw[bP (by omega)];omega
  have a2:aV 384 (i:Int)=((384+i:Nat):Int):=by rw[bP (by omega)];omega
  have l2:ltI ((384+i:Nat):Int) ((512:Nat):Int)=true:=by rw[dW];omega
  have l3:leI 0 ((384+i:Nat):Int)=true:=by rw[j8];omega
  have b1:blt (384+i) 512=true:=by simp;omega
  have b2:jT (jU (ri (G9 A ys i)) (384+i)) 1=true:=by rw[w8 (by omega)];rfl
  unfold CB;simp only[bF,GO,GN,aQ,aY,hl,hl2,dN,List.length_set,List.length_nil,tY hi,pO hi,a2,Int.toNat_natCast,Nat.zero_add,aS9 hA hi hy,l1,l2,l3,a1,b1,b2,bW,wz]
 ·have l1:ltI (ys.length:Int) (ys.length:Int)=false:=by simp
  unfold CB;simp only[bF,l1,eA,Bool.false_eq_true,false_implies,implies_true]
def SH(xs ys:List Int):bG×Bool:=bif cZ xs&&(cZ ys&&(leI (xs.length:Int) 384&&leI (ys.length:Int) 64))then(⟨ri (G9 (AQ xs xs.length) ys ys.length),[]⟩,true)else(⟨[],[]⟩,false)
theorem bDH(a b:Int):pG a b=!leI a b:=by
 cases h:leI a b
 ·rw[aC2]at h;exact qX.2 h
 ·rw[j8]at h;exact I6.2 h
theorem bPZ(xs ys:List Int)(hx:xs.length<1000000)(hy:ys.length<1000000):a7N (ri xs) (ri ys)=true∧aCH (ri xs) (ri ys)=SH xs ys:=by
 refine aE (t:=aWZ (ri xs) (ri ys)) (P:=fun r=>r=SH xs ys) ?_
 obtain⟨a1,a2⟩:=VR xs hx;obtain⟨b1,b2⟩:=VR ys hy;unfold aWZ;have hc:(bif (bif (bif (!(cZ xs))then true else(!(cZ ys)))then true else(pG (xs.length:Int) 384))then true else(pG (ys.length:Int) 64))=!(cZ xs&&(cZ ys&&(leI (xs.length:Int) 384&&leI (ys.length:Int) 64))):=by
  rw[bDH,bDH];cases cZ xs<;>cases cZ ys<;>cases leI (xs.length:Int) 384<;>cases leI (ys.length:Int) 64<;>rfl
 unfold SH;cases hg:cZ xs&&(cZ ys&&(leI (xs.length:Int) 384&&leI (ys.length:Int) 64))
 ·simp only[bF,a1,a2,b1,b2,aQ,aY,hc,hg,bW,bT]
 ·have hg':=hg;simp only[Bool.and_eq_true,j8]at hg';obtain⟨g1,g2,g3,g4⟩:=hg';obtain⟨c1,c2⟩:=b09 xs ys (by omega)
  have hA:=JF (xs:=xs) (i:=xs.length) (Nat.le_refl _) (by omega)
  obtain⟨d1,d2⟩:=b1A (AQ xs xs.length) ys hA (by omega)
  have e0:List.replicate 512 (aU 0)=ri (AQ xs 0):=by simp[AQ,ri,List.map_replicate,aU]
  have e1:G9 (AQ xs xs.length) ys 0=AQ xs xs.length:=by simp[G9]
  rw[e1]at d1 d2;simp only[bF,aFY,aFX,lB,e0,a1,a2,b1,b2,c1,c2,d1,d2,aQ,aY,hc,hg,bW,wz,bT]
theorem HA{xs ys:List Int}:cZ (xs++ys)=(cZ xs&&cZ ys):=by simp[cZ]
theorem aJT{n:Nat}:cZ (List.replicate n 0)=true:=by
 unfold cZ;rw[List.all_eq_true];intro z hz;rw[List.eq_of_mem_replicate hz];rfl
theorem SI{xs ys:List Int}(h: ∀z∈ys,z∈xs)(hb:cZ xs=true):cZ ys=true:=by
 unfold cZ at*;rw[List.all_eq_true]at*;exact fun z hz=>hb z (h z hz)
theorem aTA{xs ys:List Int}(hx:cZ xs=true)(hy:cZ ys=true):cZ (G9 (AQ xs xs.length) ys ys.length)=true:=by
 have hA:cZ (AQ xs xs.length)=true:=by unfold AQ;rw[List.take_length,HA,hx,aJT];rfl
 unfold G9;rw[List.take_length,HA,HA,hy,SI (fun z hz=>List.mem_of_mem_take hz) hA,SI (fun z hz=>List.mem_of_mem_drop hz) hA];rfl
end Go.Proofs.YtdicpjkdpliofaaGreatMasks

namespace Go.Proofs.YtdicpjkdpliofaaGreatMasks
open Go Go.Zq
set_option maxHeartbeats 4000000
set_option maxRecDepth 100000
def nR(pc:Int):RM:=⟨[0,0,0,0],[0,0,0,384],0,pc,0,7,true,false⟩
def cR(xs:List Int)(pc:Int):aH×Bool:=bif (SH xs []).2&&bS pc 0 65535 then(⟨(nR pc).g,(SH xs []).1,false,false⟩,true)else(⟨⟨[],[],0,0,0,0,false,false⟩,⟨[],[]⟩,false,false⟩,false)
theorem a4B(xs:List Int)(pc:Int)(hx:xs.length<1000000):aW1 (ri xs) pc=true∧S6 (ri xs) pc=cR xs pc:=by
 refine aE (t:=aW0 (ri xs) pc) (P:=fun q=>q=cR xs pc) ?_
 obtain⟨a1,a2⟩:=bPZ xs [] hx (by decide)
 obtain⟨n1,n2⟩:=a39;have a1':a7N (ri xs) []=true:=a1;have a2':aCH (ri xs) []=SH xs []:=a2;have l3:ltI 3 ((4:Nat):Int)=true:=by decide
 have b3:blt 3 4=true:=by decide
 have r3:jT (jU (ri r0.a) 3) 1=true:=by rw[w8 (by decide)];rfl
 have l4:r0.a.length=4:=rfl;unfold aW0 cR;simp only[bF,aFZ,a1',a2',n1,n2,(uE _).1,(uE _).2,eL,eN,aN,cJ,aM,bA,aO,aP,aQ,aY,l4,l3,b3,r3,dN,List.length_set,eA,wz];cases(SH xs []).2<;>cases bS pc 0 65535<;>simp<;>rfl
def CG(t:Int)(c:aH):Prop:= ∃r zs l s h,c=bV r zs l s h∧RM.Ok t r∧BusOk zs l
theorem a4C{xs:List Int}(h:(SH xs []).2=true): ∃zs,(SH xs []).1=wM zs []∧BusOk zs []:=by
 unfold SH at h⊢;cases hg:cZ xs&&(cZ []&&(leI (xs.length:Int) 384&&leI (([]:List Int).length:Int) 64))
 ·rw[hg]at h;simp at h
 ·simp only[Bool.and_eq_true,j8]at hg;obtain⟨g1,g2,g3,g4⟩:=hg;refine⟨_,rfl,SG (JF (Nat.le_refl _) (by omega)) (Nat.le_refl _) (by omega),aTA g1 g2,by decide,rfl⟩
theorem aP7{xs:List Int}{pc:Int}(h:(cR xs pc).2=true): ∃zs,(cR xs pc).1=bV (nR pc) zs [] false false∧BusOk zs []∧bS pc 0 65535=true:=by
 unfold cR at h⊢;cases hg:(SH xs []).2&&bS pc 0 65535
 ·rw[hg]at h;simp at h
 ·rw[Bool.and_eq_true]at hg;obtain⟨zs,h1,h2⟩:=a4C hg.1;exact⟨zs,by rw[cond_true,h1];rfl,h2,hg.2⟩
theorem bKJ:(cR [] 0).2=true:=by decide+kernel
theorem aP8{B t:Int}{c:aI}{r:RM}{zs:List Int}{p pc:Int}(hc:CO B c)(hr:r.Ok 65536)(hb:BusOk zs [])(hp:bS pc 0 65535=true)(s h:Bool):CG 65536 (aH.mk (RM.g {r with pc:=pc}) (wM zs []) s h)∧CG 65536 (aH.mk r.g (wM zs []) s h):=
 ⟨⟨_,zs,[],s,h,rfl,hr.setP hp,hb⟩,⟨_,zs,[],s,h,rfl,hr,hb⟩⟩
theorem bP0{c:aI}{B:Int}(h:CO B c)(hB:B<100000000000000000):k81 c=true∧(CO (B+50000) (g81 c).1∧CG 65536 (g81 c).2):=by
 refine aE (t:=T81 c) (P:=fun q=>CO (B+50000) q.1∧CG 65536 q.2) ?_
 obtain⟨a1,a2,⟨xs,a3,a4⟩,a5,a6⟩:=bBN h (by omega)
 obtain⟨b1,b2,r,b3,b4⟩:=bKE a2 (by omega)
 obtain⟨c1,c2⟩:=a4B xs (wI c).2.2 (by omega)
 obtain⟨d1,d2⟩:=a4B [] 0 (by decide)
 have d1:aW1 [] 0=true:=d1;have d2:S6 [] 0=cR [] 0:=d2;obtain⟨z0,e1,e2,e3⟩:=aP7 bKJ;obtain⟨f1,f2,-⟩:=dZ 60 b2 (by omega)
 have lz:=f2.mono (C:=B+50000) (by omega)
 unfold T81;cases hg:(cR xs (wI c).2.2).2
 ·have q:=aP8 (t:=0) (p:=0) f2 b4 e2 e3;simp only[bF,aCJ,EN,aCI,EM,uD,IN,a1,a3,b1,b3,c1,c2,d1,d2,e1,f1,hg,bV,eL,eN,aN,cJ,aM,bA,aO,aP,kC,show(nR 0).pc=0 from rfl,bW,wz]
  exact⟨fun _=>⟨lz,(q _ _).1⟩,fun _=>⟨fun _=>⟨lz,(q _ _).1⟩,fun _=>⟨fun _=>⟨lz,(q _ _).2⟩,fun _=>⟨lz,(q _ _).1⟩⟩⟩⟩
 ·obtain⟨zs,i1,i2,i3⟩:=aP7 hg;have q:=aP8 (t:=0) (p:=0) f2 b4 i2 i3;simp only[bF,aCJ,EN,aCI,EM,uD,IN,a1,a3,b1,b3,c1,c2,i1,f1,hg,bV,eL,eN,aN,cJ,aM,bA,aO,aP,kC,show∀p,(nR p).pc=p from fun _=>rfl,bW,wz]
  exact⟨fun _=>⟨lz,(q _ _).1⟩,fun _=>⟨fun _=>⟨lz,(q _ _).1⟩,fun _=>⟨fun _=>⟨lz,(q _ _).2⟩,fun _=>⟨lz,(q _ _).1⟩⟩⟩⟩
end Go.Proofs.YtdicpjkdpliofaaGreatMasks
