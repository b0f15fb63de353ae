import Derived.Test.YtdipcnijfkdnfaaGreatZqFramesQ
import Derived.Test.YtdipcnijfkdnfaaGreatZmc
set_option linter.unusedVariables false
set_option linter.unusedSimpArgs false
namespace Go.Proofs.YtdipcnijfkdnfaaGreatFrames
open Go Go.Zq
set_option maxHeartbeats 4000000
set_option maxRecDepth 100000
theorem ef (a b : Int) (h : eqI a b = false := by rfl) : eqI a b = false := h
theorem et (a b : Int) (h : eqI a b = true := by rfl) : eqI a b = true := h
@[simp] theorem p8(x a b:Int):rO x a b=cO x a b:=by
  simp only[rO,bT,aDV,iB,eN,rE,leI,cO,ge_iff_le];cases decide (a≤x)<;>rfl
@[simp] theorem p9(x a b:Int):wH x a b=true:=by
  simp[wH,bT,aDV]
@[simp] theorem mC(x a b:Int):jW x a b=cO x a b:=by
  simp only[jW,bT,aCV,iB,eN,rE,leI,cO,ge_iff_le];cases decide (a≤x)<;>rfl
@[simp] theorem mD(x a b:Int):lX x a b=true:=by
  simp[lX,bT,aCV]
theorem FB{zs:List Int}{i:Nat}(h:i<zs.length)(hz:cO zs[i] 0 255=false):bM zs=false:=by
 unfold bM;rw[List.all_eq_false];exact⟨zs[i],List.getElem_mem h,by simp[hz]⟩
theorem FC{zs:List Int}(h: ∀j(hj:j<zs.length),cO zs[j] 0 255=true):bM zs=true:=by
 unfold bM;rw[List.all_eq_true];intro z hz;obtain⟨j,hj,rfl⟩:=List.getElem_of_mem hz;exact h j hj
theorem aOG(zs:List Int)(hl:zs.length<1000000):QP (V164_0.mk (ri zs) (aX (ri zs)) 0)=true∧(ltI (JN (V164_0.mk (ri zs) (aX (ri zs)) 0)).s7 (JN (V164_0.mk (ri zs) (aX (ri zs)) 0)).s6=!bM zs):=by
 unfold QP JN;refine fA (Post:=fun w=>ltI w.s7 w.s6=!bM zs) (cU (fun n v=> ∃i:Nat,v=V164_0.mk (ri zs) (aX (ri zs)) i∧i≤zs.length∧n=zs.length-i∧ ∀j(hj:j<zs.length),j<i→cO zs[j] 0 255=true) _ ?_ 2097152 zs.length _ ⟨0,rfl,by omega,by omega,fun j _ h=>absurd h (by omega)⟩ (by omega))
 rintro n v ⟨i,rfl,hi,rfl,hall⟩
 unfold yC;simp only[aF,aQ,aC,bG,bE,cK,jN,true_and,Int.toNat_natCast];constructor
 ·intro h;have hi':i<zs.length:=by omega
  rw[gG hi',eO hi',mC,mD];refine⟨rfl,rfl,fun hz=>?_,fun hz=>?_⟩
  ·rw[FB hi' (by simpa using hz)]
   simpa [ltI]using h
  ·refine⟨_,?_,i+1,?_,by omega,rfl,?_⟩
   ·omega
   ·rw[bK (by omega)];rfl
   ·intro j hj hji;by_cases e:j=i
    ·subst e;simpa using hz
    ·exact hall j hj (by omega)
 ·intro h;rw[FC fun j hj=>hall j hj (by omega)]
  simpa [ltI]using h
theorem HO(zs:List Int)(hl:zs.length<1000000):aDD (ri zs)=true∧ZL (ri zs)=bM zs:=by
 obtain⟨h1,h2⟩:=aOG zs hl;unfold aDD ZL aLM QQ;rw[bT,bT];simp only[mB,uS,gL,iB,uT,eN,h1,h2,Bool.true_and];cases bM zs<;>exact⟨rfl,rfl⟩
theorem Z3(xs ys:List Int)(hl:xs.length<1000000)(he:xs.length=ys.length):aG3 (V14_0.mk (ri xs) (ri ys) (aX (ri xs)) 0)=true∧(ltI (XO (V14_0.mk (ri xs) (ri ys) (aX (ri xs)) 0)).s13 (XO (V14_0.mk (ri xs) (ri ys) (aX (ri xs)) 0)).s12=!decide (xs=ys)):=by
 unfold aG3 XO;refine fA (Post:=fun w=>ltI w.s13 w.s12=!decide (xs=ys)) (cU (fun n v=> ∃i:Nat,v=V14_0.mk (ri xs) (ri ys) (aX (ri xs)) i∧i≤xs.length∧n=xs.length-i∧ ∀j(hj:j<xs.length),j<i→xs[j]=ys[j]) _ ?_ 2097152 xs.length _ ⟨0,rfl,by omega,by omega,fun j _ h=>absurd h (by omega)⟩ (by omega))
 rintro n v ⟨i,rfl,hi,rfl,hall⟩
 unfold HM;simp only[aF,aQ,aC,bG,bE,cK,jN,true_and,Int.toNat_natCast];constructor
 ·intro h;have hi':i<xs.length:=by omega
  have hy':i<ys.length:=by omega
  rw[gG hi',eO hi',gG hy',eO hy'];refine⟨rfl,fun hz=>?_,fun hz=>?_⟩
  ·have:xs≠ys:=fun e=>by subst e;simp at hz
   rw[decide_eq_false this];simpa [ltI]using h
  ·refine⟨_,?_,i+1,?_,by omega,rfl,?_⟩
   ·omega
   ·rw[bK (by omega)];rfl
   ·intro j hj hji;by_cases e:j=i
    ·subst e;simpa using hz
    ·exact hall j hj (by omega)
 ·intro h;rw[decide_eq_true (List.ext_getElem he fun j h1 h2=>hall j h1 (by omega))]
  simpa [ltI]using h
theorem oD(xs ys:List Int)(hl:xs.length<1000000):k14 (ri xs) (ri ys)=true∧g14 (ri xs) (ri ys)=decide (xs=ys):=by
 unfold k14 g14 T14 aG4;rw[bT,bT];by_cases he:xs.length=ys.length
 ·obtain⟨h1,h2⟩:=Z3 xs ys hl he;have e:eV (aX (ri xs)) (aX (ri ys))=false:=by simp[he,bE]
  simp only[mB,uS,gL,iB,uT,eN,h1,h2,e,Bool.true_and,cond_false];cases decide (xs=ys)<;>exact⟨rfl,rfl⟩
 ·have e:eV (aX (ri xs)) (aX (ri ys))=true:=by simp[bE];omega
  have:xs≠ys:=fun e=>he (by rw[e])
  simp only[mB,uS,gL,iB,uT,eN,e,decide_eq_false this,Bool.true_and,cond_true,and_self]
def CO(B:Int)(c:aB):Prop:=CurOk B c.fcode c.fat
theorem CO.mono{B C:Int}{c:aB}(h:CO B c)(hB:B≤C):CO C c:=CurOk.mono h hB
theorem a3J(s:Int):0≤lM .i64 (aKH .u64 (aCM .u64 s 40) 255)∧lM .i64 (aKH .u64 (aCM .u64 s 40) 255)<256:=by
 have e:aCM .u64 s 40=Int.fdiv s 1099511627776:=by
  unfold aCM;rw[show((2:Int)^min (Int.toNat 40) IntKind.u64.bits)=1099511627776 from by decide]
 unfold lM aKH;rw[e];exact aKG s
theorem aH8{B:Int}{c:aB}(h:CO B c)(hB:B<4000000000000000000):aKI c=true∧(CO (B+1) (oM c).1∧0≤(oM c).2∧(oM c).2<256):=by
 refine aL (t:=aCQ c) (P:=fun r=>CO (B+1) r.1∧0≤r.2∧r.2<256) ?_
 obtain⟨h1,h2,h3⟩:=h;have ha:aR c.fat 1=c.fat+1:=bK (by omega)
 have hc:CurOk (B+1) c.fcode (c.fat+1):=⟨h1,by omega,by omega⟩
 have hv:0≤CY c∧CY c<256:=by
  unfold CY;cases hl:ltI c.fat (aX c.fcode)
  ·simp
  ·have hl':c.fat<(c.fcode.length:Int):=by simpa using hl
   obtain⟨z,-,e,z0,z1⟩:=aCJ h1 (j:=c.fat.toNat) (by omega)
   rw[cond_true,e,aOF (by omega)]
   exact⟨z0,z1⟩
 have hr:(dJ [.int .u8] c.fcode c.fat||!(ltI c.fat (aX c.fcode)))=true:=by
  cases hl:ltI c.fat (aX c.fcode)
  ·simp
  ·have hl':c.fat<(c.fcode.length:Int):=by simpa using hl
   rw[PA h1 h2 hl'];rfl
 unfold aCQ;simp only[aF,aQ,aC,hr,ha,Bool.and_true,true_and];exact⟨fun _=>⟨hc,hv⟩,fun _=>⟨hc,a3J _⟩⟩
theorem bY{B:Int}{c:aB}(n:Int)(h:CO B c)(hB:B<3000000000000000000):jV n c=true∧(CO (B+2) (bF n c).1∧0≤(bF n c).2∧(2≤n→(bF n c).2<n)∧(n≤1→(bF n c).2=0)):=by
 refine aL (t:=T89 n c) (P:=fun r=>CO (B+2) r.1∧0≤r.2∧(2≤n→r.2<n)∧(n≤1→r.2=0)) ?_
 obtain⟨k1,c1,v0,v1⟩:=aH8 h (by omega)
 obtain⟨k2,c2,w0,w1⟩:=aH8 c1 (by omega)
 unfold T89;simp only[aF,aQ,aC,k1,k2,lO,aH6,rH,N1,AZ,Bool.and_true,true_and];refine⟨fun hn=>⟨h.mono (by omega),by omega,by omega,fun _=>trivial⟩,fun hn=>⟨fun hb=>⟨by omega,c2.mono (by omega),?_⟩,fun hb=>⟨by omega,c1.mono (by omega),?_⟩⟩⟩
 ·have e:dD (oM c).2 256=(oM c).2*256:=iC (by omega)
  rw[e,bK (by omega)]
  obtain⟨r0,r1⟩:=X0 (x:=(oM c).2*256+(oM (oM c).1).2) (n:=n) (by omega) (by omega)
  exact⟨r0,fun _=>r1,by omega⟩
 ·obtain⟨r0,r1⟩:=X0 (x:=(oM c).2) (n:=n) (by omega) (by omega)
  exact⟨r0,fun _=>r1,by omega⟩
theorem mT{B:Int}{c:aB}(n:Int)(h:CO B c)(hB:B<3000000000000000000):HD n c=true∧CO (B+2) (eT n c).1:=by
 refine aL (t:=T86 n c) (P:=fun r=>CO (B+2) r.1) ?_
 obtain⟨k1,c1,-⟩:=bY n h hB;unfold T86;simp only[aF,aC,k1,Bool.and_true,true_and];exact c1
theorem rJ{B:Int}{c:aB}{r:List Row}(hr:Num r)(hl:1≤r.length)(h:CO B c)(hB:B<3000000000000000000):FY r c=true∧(CO (B+2) (wB r c).1∧ ∃j,j<r.length∧(wB r c).2=aU r j 0):=by
 refine aL (t:=T90 r c) (P:=fun q=>CO (B+2) q.1∧ ∃j,j<r.length∧q.2=aU r j 0) ?_
 obtain⟨k1,c1,v0,v1,v2⟩:=bY (aX r) h hB;rw[bG]at k1 c1 v0 v1 v2;have hj:(bF (r.length:Int) c).2<(r.length:Int):=by
  by_cases h2:r.length=1
  ·rw[v2 (by omega)];omega
  ·exact v1 (by omega)
 unfold T90;simp only[aF,aC,bG,k1,aUY hr v0 hj,Bool.and_true,true_and];exact⟨c1,_,by omega,rfl⟩
end Go.Proofs.YtdipcnijfkdnfaaGreatFrames

namespace Go.Proofs.YtdipcnijfkdnfaaGreatFrames
open Go Go.Zq
set_option maxHeartbeats 4000000
set_option maxRecDepth 100000
def Acc(r:List Row):Prop:= ∃l:List aA,r=l.map aA.row
theorem LQ{l:List aA}{i:Nat}(h:i<l.length):dJ [.int .i64, .int .i64, .int .i64, .int .i64, .int .i64] (l.map aA.row) (i:Int)=true∧aA.at (l.map aA.row) i 0=l[i]:=by
 have e:(l.map aA.row).getD i []=aA.row l[i]:=by simp[List.getD_eq_getElem?_getD,h]
 constructor
 ·simp only[dJ,dC,Int.toNat_natCast,e,List.length_map];have:Nat.blt i l.length=true:=by simpa using h
  rw[this];rfl
 ·unfold aA.at aU kF;rw[e];rfl
structure BV(b:aO):Prop where
 n:Num b.Bytes
 a:Acc b.Log
 nb:b.Bytes.length≤512
 nl:b.Log.length≤1000
theorem zY{r:List Row}:dR (0+r.length) r.length=true∧iE (0+r.length) r.length=true:=by simp
theorem sM{n:Nat}(h:n≤2000):iE (kL n 8) 140737488355328=true∧iE (kL n 40) 140737488355328=true∧iE n 140737488355328=true∧iE (kL (0+n) 8) 140737488355328=true∧iE (kL (0+n) 40) 140737488355328=true∧iE (0+n) 140737488355328=true∧iE (kL (n+1) 8) 140737488355328=true∧iE (kL (n+1) 40) 140737488355328=true∧iE (n+1) 140737488355328=true:=by
 simp only[LO,LP];omega
theorem LR(a:Int):aFS a=true∧aFR a=cO a 0 65535:=by
 constructor
 ·simp[aFS,bT,aFQ]
 ·simp[aFR,bT,aFQ]
theorem mE(a:Int):k73 a=true∧g73 a=cO a 0 65535:=by
 constructor
 ·simp[k73,bT,T73]
 ·simp[g73,bT,T73]
def jK(s v:Int):Bool:=bif eqI s 1 then cO v 0 255 else bif eqI s 2 then cO v 0 65535 else false
theorem aH9(s:Int):ZI s=true∧M7 s=(eqI s 1||eqI s 2):=by
 constructor
 ·simp[ZI,bT,PV]
 ·simp only[M7,bT,PV,iB,eN];cases eqI s 1<;>rfl
theorem aIA(s:Int):aL8 s=true∧aEB s=(eqI s 1||eqI s 2):=by
 constructor
 ·simp[aL8,bT,aEA]
 ·simp only[aEB,bT,aEA,iB,eN];cases eqI s 1<;>rfl
theorem aIB:aNA 1=true∧aFO 1=256:=by
 refine aL (t:=SF 1) (P:=fun r=>r=256) ?_
 unfold SF;simp only[aF,aC]
 decide+kernel
theorem aIC:aNA 2=true∧aFO 2=65536:=by
 refine aL (t:=SF 2) (P:=fun r=>r=65536) ?_
 unfold SF;simp only[aF,aC]
 decide+kernel
theorem aID:aL9 1=true∧aEC 1=256:=by
 refine aL (t:=RB 1) (P:=fun r=>r=256) ?_
 unfold RB;simp only[aF,aC]
 decide+kernel
theorem aIE:aL9 2=true∧aEC 2=65536:=by
 refine aL (t:=RB 2) (P:=fun r=>r=65536) ?_
 unfold RB;simp only[aF,aC]
 decide+kernel
theorem aQD(s v:Int):aTC s v=true∧aTB s v=jK s v:=by
 refine aL (t:=aFP s v) (P:=fun r=>r=jK s v) ?_
 unfold aFP jK;rw[(aH9 s).1,(aH9 s).2];by_cases h1:s=1
 ·subst h1;rw[aIB.1,aIB.2,show eQ 256 1=255 from by decide]
  simp[show eqI 1 1=true from rfl]
 ·by_cases h2:s=2
  ·subst h2;rw[aIC.1,aIC.2,show eQ 65536 1=65535 from by decide]
   simp[show eqI 2 1=false from rfl,show eqI 2 2=true from rfl]
  ·have e1:eqI s 1=false:=by simp[h1]
   have e2:eqI s 2=false:=by simp[h2]
   simp[e1,e2]
theorem aQE(s v:Int):aSB s v=true∧aSA s v=jK s v:=by
 refine aL (t:=aEE s v) (P:=fun r=>r=jK s v) ?_
 unfold aEE jK;rw[(aIA s).1,(aIA s).2];by_cases h1:s=1
 ·subst h1;rw[aID.1,aID.2,show eQ 256 1=255 from by decide]
  simp[show eqI 1 1=true from rfl]
 ·by_cases h2:s=2
  ·subst h2;rw[aIE.1,aIE.2,show eQ 65536 1=65535 from by decide]
   simp[show eqI 2 1=false from rfl,show eqI 2 2=true from rfl]
  ·have e1:eqI s 1=false:=by simp[h1]
   have e2:eqI s 2=false:=by simp[h2]
   simp[e1,e2]
def accB(a:aA):Bool:=cO a.Kind 1 3&&(cO a.Addr 0 65535&&(jK a.Size a.Value&&(cO a.Code 0 3&&!(eqI a.Kind 3&&eqI a.Code 0))))
theorem aQF(a:aA):aTE a=true∧aTD a=accB a:=by
 refine aL (t:=aFT a) (P:=fun r=>r=accB a) ?_
 unfold aFT accB;simp only[aF,aQ,aC,SH,SG,mC,mD,(LR _).1,(LR _).2,(aQD _ _).1,(aQD _ _).2,Bool.and_true,Bool.true_or,true_and];cases cO a.Kind 1 3<;>cases jK a.Size a.Value<;>cases cO a.Addr 0 65535<;>cases cO a.Code 0 3<;>cases h:eqI a.Kind 3<;>cases h2:eqI a.Code 0<;>simp_all
theorem aQG(a:aA):aSD a=true∧aSC a=accB a:=by
 refine aL (t:=aEG a) (P:=fun r=>r=accB a) ?_
 unfold aEG accB;simp only[aF,aC,RE,RD,p8,p9,(mE _).1,(mE _).2,(aQE _ _).1,(aQE _ _).2,Bool.and_true,Bool.true_or,true_and];cases cO a.Kind 1 3<;>cases jK a.Size a.Value<;>cases cO a.Addr 0 65535<;>cases cO a.Code 0 3<;>cases eqI a.Kind 3<;>cases eqI a.Code 0<;>rfl
theorem X1{α:Type}{p:α→Bool}{l:List α}{i:Nat}(h:i<l.length)(hz:p l[i]=false):l.all p=false:=by
 rw[List.all_eq_false];exact⟨l[i],List.getElem_mem h,by simp[hz]⟩
theorem X2{α:Type}{p:α→Bool}{l:List α}(h: ∀j(hj:j<l.length),p l[j]=true):l.all p=true:=by
 rw[List.all_eq_true];intro z hz;obtain⟨j,hj,rfl⟩:=List.getElem_of_mem hz;exact h j hj
end Go.Proofs.YtdipcnijfkdnfaaGreatFrames

namespace Go.Proofs.YtdipcnijfkdnfaaGreatFrames
open Go Go.Zq
set_option maxHeartbeats 4000000
set_option maxRecDepth 100000
theorem Z4(zs:List Int)(hl:zs.length<1000000):EB (V164v1_0.mk (ri zs) (aX (ri zs)) 0)=true∧(ltI (wS (V164v1_0.mk (ri zs) (aX (ri zs)) 0)).s7 (wS (V164v1_0.mk (ri zs) (aX (ri zs)) 0)).s6=!bM zs):=by
 unfold EB wS;refine fA (Post:=fun w=>ltI w.s7 w.s6=!bM zs) (cU (fun n v=> ∃i:Nat,v=V164v1_0.mk (ri zs) (aX (ri zs)) i∧i≤zs.length∧n=zs.length-i∧ ∀j(hj:j<zs.length),j<i→cO zs[j] 0 255=true) _ ?_ 2097152 zs.length _ ⟨0,rfl,by omega,by omega,fun j _ h=>absurd h (by omega)⟩ (by omega))
 rintro n v ⟨i,rfl,hi,rfl,hall⟩
 unfold mS;simp only[aF,aQ,aC,bG,bE,cK,jN,true_and,Int.toNat_natCast];constructor
 ·intro h;have hi':i<zs.length:=by omega
  rw[gG hi',eO hi',mC,mD];refine⟨rfl,rfl,fun hz=>?_,fun hz=>?_⟩
  ·rw[FB hi' (by simpa using hz)]
   simpa [ltI]using h
  ·refine⟨_,?_,i+1,?_,by omega,rfl,?_⟩
   ·omega
   ·rw[bK (by omega)];rfl
   ·intro j hj hji;by_cases e:j=i
    ·subst e;simpa using hz
    ·exact hall j hj (by omega)
 ·intro h;rw[FC fun j hj=>hall j hj (by omega)]
  simpa [ltI]using h
theorem N2(zs:List Int)(hl:zs.length<1000000):KP (ri zs)=true∧KO (ri zs)=bM zs:=by
 obtain⟨h1,h2⟩:=Z4 zs hl;unfold KP KO KN EC;rw[bT,bT];simp only[mB,uS,gL,iB,uT,eN,h1,h2,Bool.true_and];cases bM zs<;>exact⟨rfl,rfl⟩
theorem aOH(b:aO)(l:List aA)(hl:l.length≤2000):SI (V155_0.mk b (l.map aA.row) (aX (l.map aA.row)) 0)=true∧((EE (V155_0.mk b (l.map aA.row) (aX (l.map aA.row)) 0)).b0=b∧ltI (EE (V155_0.mk b (l.map aA.row) (aX (l.map aA.row)) 0)).s8 (EE (V155_0.mk b (l.map aA.row) (aX (l.map aA.row)) 0)).s7=!l.all accB):=by
 unfold SI EE;refine fA (Post:=fun w:V155_0=>w.b0=b∧ltI w.s8 w.s7=!l.all accB) (cU (fun(m:Nat) (v:V155_0)=> ∃i:Nat,v=V155_0.mk b (l.map aA.row) (aX (l.map aA.row)) i∧i+m=l.length∧ ∀j(hj:j<l.length),j<i→accB l[j]=true) _ ?_ 2097152 l.length _ ⟨0,rfl,by omega,fun j _ h=>absurd h (by omega)⟩ (by omega))
 rintro m v ⟨i,rfl,hi,hall⟩
 unfold yQ;simp only[aF,aQ,aC,aN,cC,bG,List.length_map,cK,jN,Bool.and_true,true_and,Int.toNat_natCast];constructor
 ·intro h;have hi':i<l.length:=by omega
  obtain⟨p1,p2⟩:=LQ hi';rw[p1,p2,(aQF _).1,(aQF _).2];refine⟨rfl,rfl,fun hz=>?_,fun hz=>?_⟩
  ·rw[X1 hi' (by simpa using hz)]
   simpa [ltI]using h
  ·refine⟨m-1,by omega,i+1,?_,by omega,?_⟩
   ·rw[bK (by omega)];rfl
   ·intro j hj hji;by_cases e:j=i
    ·subst e;simpa using hz
    ·exact hall j hj (by omega)
 ·intro h;rw[X2 fun j hj=>hall j hj (by omega)]
  simpa [ltI]using h
theorem aIF{b:aO}(h:BV b){zs:List Int}{l:List aA}(hz:b.Bytes=ri zs)(hl:b.Log=l.map aA.row):aNG b=true∧aFV b=(eqI (zs.length:Int) 512&&(leI (l.length:Int) 400&&(bM zs&&l.all accB))):=by
 refine aL (t:=aFU b) (P:=fun r=>r=(eqI (zs.length:Int) 512&&(leI (l.length:Int) 400&&(bM zs&&l.all accB)))) ?_
 have n1:=h.nb;have n2:=h.nl;rw[hz,bE]at n1;rw[hl,List.length_map]at n2;obtain⟨a1,a2,a3⟩:=aOH b l (by omega)
 rw[bG,List.length_map]at a1 a2 a3;obtain⟨c1,c2⟩:=N2 zs (by omega)
 unfold aFU;simp only[aF,aQ,aC,pZ,aN,cC,hl,Bool.and_true,true_and,a1,a2,a3,hz,c1,c2,bG,bE,List.length_map,Bool.true_or];cases l.all accB<;>cases eqI (zs.length:Int) 512<;>cases leI (l.length:Int) 400<;>cases bM zs<;>simp
structure B512(b:aO):Prop where
 z: ∃zs:List Int,b.Bytes=ri zs∧zs.length=512
 l:b.Log=[]
theorem wV{V:Type}{N:V→Pt (Option V)}(st:Nat→V)(n:Nat)(hn:n<1000000)(h: ∀i,i<n→(N (st i)).Sat (fun r=>r=some (st (i+1))))(he:(N (st n)).Sat (fun r=>r=none)):(hid (cB N 2097152 (st 0))).isSome=true∧(hid (cB N 2097152 (st 0))).getD (st 0)=st n:=by
 refine fA (Post:=fun w=>w=st n) (cU (fun(m:Nat) (v:V)=> ∃i,i+m=n∧v=st i) _ ?_ 2097152 n _ ⟨0,by omega,rfl⟩ (by omega))
 rintro m v ⟨i,hi,rfl⟩
 have mono: ∀{α:Type}{P Q:α→Prop},(∀a,P a→Q a)→ ∀{t:Pt α},t.Sat P→t.Sat Q:=fun{α P Q} hPQ t=>by
  induction t with
  |leaf a=>exact hPQ a
  |ok b x ih=>exact fun h=>⟨h.1,ih h.2⟩
  |br b x y ix iy=>exact fun h=>⟨fun e=>ix (h.1 e),fun e=>iy (h.2 e)⟩
 by_cases e:i=n
 ·subst e;exact mono (fun r hr=>by subst hr;rfl) he
 ·exact mono (fun r hr=>by subst hr;exact⟨m-1,by omega,i+1,by omega,rfl⟩) (h i (by omega))
def eH(a:Int):Int:=bif cO a 448 495||leI 512 a then 1 else bif cO a 384 447 then 3 else 0
theorem aIG(a:Int):aMT a=true∧aE7 a=eH a:=by
 refine aL (t:=aE6 a) (P:=fun r=>r=eH a) ?_
 unfold aE6 eH;have e:rE a 512=leI 512 a:=rfl;simp only[aF,aQ,aC,p8,p9,e,Bool.and_true,true_and];cases cO a 448 495<;>cases leI 512 a<;>cases cO a 384 447<;>simp
theorem aIH(a:Int):ZZ a=true∧SM a=eH a:=by
 refine aL (t:=aGI a) (P:=fun r=>r=eH a) ?_
 unfold aGI eH;have e:rE a 512=leI 512 a:=rfl;simp only[aF,aQ,aC,mC,mD,e,Bool.and_true,Bool.true_or,true_and];cases cO a 448 495<;>cases leI 512 a<;>cases cO a 384 447<;>simp
def bQ(k s a:Int):Int:=bif eqI s 2&&eqI (a%2) 1 then 2 else bif eqI (eH a) 1||eqI (eH (a+s-1)) 1 then 1 else bif eqI k 2&&(eqI (eH a) 3||eqI (eH (a+s-1)) 3)then 3 else 0
theorem aII(k s a:Int)(h:cO a 0 65535=true)(hs:cO s 0 2=true):aMU k s a=true∧wK k s a=bQ k s a:=by
 refine aL (t:=aE8 k s a) (P:=fun r=>r=bQ k s a) ?_
 rw[bA]at h hs;have e:eQ (aR a s) 1=a+s-1:=by rw[bK (by omega),rI (by omega)]
 unfold aE8 bQ;simp only[aF,aQ,aC,R0,(aIG _).1,(aIG _).2,bC0 h.1,e,Bool.and_true,true_and];cases eqI s 2<;>cases eqI (a%2) 1<;>cases eqI (eH a) 1<;>cases eqI (eH (a+s-1)) 1<;>cases eqI k 2<;>cases eqI (eH a) 3<;>cases eqI (eH (a+s-1)) 3<;>simp
theorem aIJ(k s a:Int)(h:cO a 0 65535=true)(hs:cO s 0 2=true):aNQ k s a=true∧GC k s a=bQ k s a:=by
 refine aL (t:=aGJ k s a) (P:=fun r=>r=bQ k s a) ?_
 rw[bA]at h hs;have e:eQ (aR a s) 1=a+s-1:=by rw[bK (by omega),rI (by omega)]
 unfold aGJ bQ;simp only[aF,aQ,aC,SN,(aIH _).1,(aIH _).2,bC1,e,Bool.and_true,Bool.true_or,true_and];cases eqI s 2<;>cases eqI (a%2) 1<;>cases eqI (eH a) 1<;>cases eqI (eH (a+s-1)) 1<;>cases eqI k 2<;>cases eqI (eH a) 3<;>cases eqI (eH (a+s-1)) 3<;>simp
theorem aIK(k s a:Int):cO (bQ k s a) 0 3=true:=by
 unfold bQ;cases eqI s 2&&eqI (a%2) 1<;>cases eqI (eH a) 1||eqI (eH (a+s-1)) 1<;>cases eqI k 2&&(eqI (eH a) 3||eqI (eH (a+s-1)) 3)<;>rfl
theorem wW{a:Int}:(eH a≠1→a<448∨(496≤a∧a<512))∧(eH a≠1→eH a≠3→a<384∨496≤a):=by
 unfold eH;cases h1:cO a 448 495<;>cases h2:leI 512 a<;>cases h3:cO a 384 447<;>simp[cO]at* <;>omega
theorem uV{k s a:Int}(h:bQ k s a=0):bQ 1 s a=0∧(a<448∨(496≤a∧a<512))∧(a+s-1<448∨(496≤a+s-1∧a+s-1<512))∧(k=2→(a<384∨496≤a)∧(a+s-1<384∨496≤a+s-1)):=by
 unfold bQ at*;cases h1:eqI s 2&&eqI (a%2) 1
 ·cases h2:eqI (eH a) 1||eqI (eH (a+s-1)) 1
  ·rw[h1,h2]at h;rw[Bool.or_eq_false_iff,oL,oL]at h2;refine⟨rfl,wW.1 h2.1,wW.1 h2.2,fun e=>?_⟩
   subst e;cases h3:eqI (eH a) 3||eqI (eH (a+s-1)) 3
   ·rw[Bool.or_eq_false_iff,oL,oL]at h3;exact⟨wW.2 h2.1 h3.1,wW.2 h2.2 h3.2⟩
   ·rw[h3,show eqI 2 2=true from rfl]at h;simp at h
  ·rw[h1,h2]at h;simp at h
 ·rw[h1]at h;simp at h
end Go.Proofs.YtdipcnijfkdnfaaGreatFrames

namespace Go.Proofs.YtdipcnijfkdnfaaGreatFrames
open Bool renaming and_true → qt
open Bool renaming true_eq_false → q_1
open Bool renaming false_eq_true → q_2
open Int renaming toNat_natCast → q_m
open Go Go.Zq
set_option maxHeartbeats 4000000
set_option maxRecDepth 100000
def wk(s v:Int)(a:Nat)(zs:List Int):Nat→List Int
 |0=>zs
 |1=>zs.set a (bif eqI s 1 then v%256 else v/256)
 |_=>(zs.set a (v/256)).set (a+1) (v%256)
def uW(a:Nat)(zs:List Int):Nat→Int
 |0=>0
 |1=>zs.getD a 0
 |_=>zs.getD a 0*256+zs.getD (a+1) 0
theorem eE{zs:List Int}{i:Nat}(h:i<zs.length):zs.getD i 0=zs[i]:=by simp[List.getD_eq_getElem?_getD,h]
theorem j4{zs:List Int}(h:bM zs=true){i:Nat}(hi:i<zs.length):0≤zs[i]∧zs[i]<256:=by
 have:=List.all_eq_true.1 h _ (List.getElem_mem hi);rw[bA]at this;omega
structure TouchOk(s v:Int)(zs:List Int)(l:List aA):Prop where
 hs:s=1∨s=2
 hv:jK s v=true
 hz:zs.length=512
 hb:bM zs=true
 hl:l.length≤400
theorem A1{s v:Int}(hs:s=1∨s=2)(h:jK s v=true):0≤v∧v<65536∧(s=1→v<256):=by
 unfold jK at h;rcases hs with rfl|rfl
 ·rw[show eqI 1 1=true from rfl,cond_true,bA]at h;omega
 ·rw[show eqI 2 1=false from rfl,show eqI 2 2=true from rfl,cond_true,cond_false,bA]at h;omega
theorem iY{zs:List Int}{a:Nat}(h:a<zs.length):leI 0 (a:Int)=true∧ltI (a:Int) (zs.length:Int)=true∧blt a zs.length=true∧gD (gE (ri zs) a) 1=true∧dC [.int .i64] (ri zs) a 0=true:=by
 refine⟨by simp,by simp;exact h,by simp;exact h,by rw[lP h];rfl,wU ⟨zs,rfl⟩ (by rw[bE];exact h)⟩
theorem a3K{v:Int}:xQ v 0=v:=by rw[A0 (n:=0) 0 rfl (by omega)];simp
theorem a3L{v:Int}:xQ v 8=v/256:=by rw[A0 (n:=8) 8 rfl (by omega)];rfl
theorem aOI{s v:Int}{a:Nat}{zs:List Int}{l:List aA}(h:TouchOk s v zs l)(hc:bQ 2 s a=0):SP (V209_0.mk ⟨ri zs,l.map aA.row⟩ 2 s a v 0 v 0)=true∧SO (V209_0.mk ⟨ri zs,l.map aA.row⟩ 2 s a v 0 v 0)=V209_0.mk ⟨ri (wk s v a zs s.toNat),l.map aA.row⟩ 2 s a v 0 v s:=by
 obtain⟨-,q1,q2,q3⟩:=uV hc;obtain⟨v0,v1,v2⟩:=A1 h.hs h.hv;have hz:=h.hz;have hl:=h.hl;have e22:eqI 2 2=true:=rfl;have an:cM v 255=v%256:=TG v0 (by omega)
 have an8:cM (v/256) 255=v/256:=by rw[TG (by omega) (by omega)];omega
 have:=wV (N:=iR) (fun i=>V209_0.mk ⟨ri (wk s v a zs i),l.map aA.row⟩ 2 s a v 0 v i) s.toNat (by rcases h.hs with rfl|rfl<;>decide) ?_ ?_
 ·rw[show((s.toNat:Nat):Int)=s from by rcases h.hs with rfl|rfl<;>rfl]at this
  exact this
 ·intro i hi;have p:aR (a:Int) ((i:Nat):Int)=((a+i:Nat):Int):=by
   have:s.toNat≤2:=by rcases h.hs with rfl|rfl<;>decide
   rw[bK (by omega)];omega
  rcases h.hs with rfl|rfl
  ·obtain rfl:i=0:=by have:Int.toNat 1=1:=rfl;omega
   have p2:lM .u64 (dD 8 (eQ (eQ 1 1) ((0:Nat):Int)))=0:=by decide
   have p3:ltI ((0:Nat):Int) 1=true:=by decide
   have p4:aR ((0:Nat):Int) 1=((0+1:Nat):Int):=by decide
   obtain⟨c1,c2,c3,c4,c5⟩:=iY (zs:=zs) (a:=a) (by omega)
   unfold iR;simp only[aF,aQ,aC,iQ,iP,fT,iO,iM,wk,p,p2,p3,p4,a3K,an,q_m,Nat.zero_add,Nat.add_zero,bG,bE,fV,List.length_set,aN,cC,e22,show eqI 1 1=true from rfl,show leI 0 0=true from rfl,c1,c2,c3,c4,c5,qt,true_and,cond_true,implies_true,q_1,false_implies,and_true]
  ·obtain rfl|rfl:i=0∨i=1:=by have:Int.toNat 2=2:=rfl;omega
   ·have p2:lM .u64 (dD 8 (eQ (eQ 2 1) ((0:Nat):Int)))=8:=by decide
    have p3:ltI ((0:Nat):Int) 2=true:=by decide
    have p4:aR ((0:Nat):Int) 1=((0+1:Nat):Int):=by decide
    obtain⟨c1,c2,c3,c4,c5⟩:=iY (zs:=zs) (a:=a) (by omega)
    unfold iR;simp only[aF,aQ,aC,iQ,iP,fT,iO,iM,wk,p,p2,p3,p4,a3L,an8,q_m,Nat.zero_add,Nat.add_zero,bG,bE,fV,List.length_set,aN,cC,e22,show eqI 2 1=false from rfl,show leI 0 8=true from rfl,c1,c2,c3,c4,c5,qt,true_and,cond_true,cond_false,implies_true,q_1,false_implies,and_true]
   ·have p2:lM .u64 (dD 8 (eQ (eQ 2 1) ((1:Nat):Int)))=0:=by decide
    have p3:ltI ((1:Nat):Int) 2=true:=by decide
    have p4:aR ((1:Nat):Int) 1=((1+1:Nat):Int):=by decide
    obtain⟨c1,c2,c3,c4,c5⟩:=iY (zs:=zs.set a (v/256)) (a:=a+1) (by rw[List.length_set];omega)
    rw[List.length_set]at c2 c3;unfold iR;simp only[aF,aQ,aC,iQ,iP,fT,iO,iM,wk,p,p2,p3,p4,a3K,an,q_m,Nat.zero_add,bG,bE,fV,List.length_set,aN,cC,e22,show eqI 2 1=false from rfl,show leI 0 0=true from rfl,c1,c2,c3,c4,c5,qt,true_and,cond_true,cond_false,implies_true,q_1,false_implies,and_true]
 ·have p3:ltI ((s.toNat:Nat):Int) s=false:=by rcases h.hs with rfl|rfl<;>decide
  unfold iR;simp only[aF,aQ,aC,p3,q_2,false_implies,implies_true,true_and]
theorem aOJ{k s v:Int}{a:Nat}{zs:List Int}{l:List aA}(h:TouchOk s v zs l)(hk:eqI k 2=false)(hc:bQ k s a=0):SP (V209_0.mk ⟨ri zs,l.map aA.row⟩ k s a v 0 0 0)=true∧SO (V209_0.mk ⟨ri zs,l.map aA.row⟩ k s a v 0 0 0)=V209_0.mk ⟨ri zs,l.map aA.row⟩ k s a v 0 (uW a zs s.toNat) s:=by
 obtain⟨-,q1,q2,q3⟩:=uV hc;have hz:=h.hz;have hl:=h.hl;have:=wV (N:=iR) (fun i=>V209_0.mk ⟨ri zs,l.map aA.row⟩ k s a v 0 (uW a zs i) i) s.toNat (by rcases h.hs with rfl|rfl<;>decide) ?_ ?_
 ·rw[show((s.toNat:Nat):Int)=s from by rcases h.hs with rfl|rfl<;>rfl]at this
  exact this
 ·intro i hi;have p:aR (a:Int) ((i:Nat):Int)=((a+i:Nat):Int):=by
   have:s.toNat≤2:=by rcases h.hs with rfl|rfl<;>decide
   rw[bK (by omega)];omega
  have p4:aR ((i:Nat):Int) 1=((i+1:Nat):Int):=by
   have:s.toNat≤2:=by rcases h.hs with rfl|rfl<;>decide
   rw[bK (by omega)];omega
  have ha:a+i<zs.length:=by
   rcases h.hs with rfl|rfl
   ·have:Int.toNat 1=1:=rfl;omega
   ·have:Int.toNat 2=2:=rfl;omega
  obtain⟨c1,c2,c3,c4,c5⟩:=iY ha;have p3:ltI ((i:Nat):Int) s=true:=by rw[cK];omega
  have p5:rM (nH (uW a zs i) 8) zs[a+i]=uW a zs (i+1):=by
   have b1:=j4 h.hb ha;obtain rfl|rfl:i=0∨i=1:=by
    have:s.toNat≤2:=by rcases h.hs with rfl|rfl<;>decide
    omega
   ·simp only[uW];rw[aH7 (by omega) (by omega),FA (by omega) (by omega) b1.1 b1.2,eE (by omega)]
    simp
   ·have b2:=j4 h.hb (i:=a) (by omega)
    simp only[uW];rw[eE (show a<zs.length by omega),eE ha,aH7 b2.1 (by omega),FA (by omega) (by omega) b1.1 b1.2]
  unfold iR;simp only[aF,aQ,aC,iQ,iP,fT,iO,iM,p,p3,p4,p5,eO ha,q_m,Nat.zero_add,bG,bE,aN,cC,hk,c1,c2,c3,c4,c5,qt,true_and,implies_true,q_1,q_2,false_implies,and_true]
 ·have p3:ltI ((s.toNat:Nat):Int) s=false:=by rcases h.hs with rfl|rfl<;>decide
  unfold iR;simp only[aF,aQ,aC,p3,q_2,false_implies,implies_true,true_and]
def tB(k s a v:Int)(zs:List Int):List Int:=bif eqI (bQ k s a) 0&&eqI k 2 then wk s v a.toNat zs s.toNat else zs
def tV(k s a v:Int)(zs:List Int):Int:=bif eqI k 2 then v else bif eqI (bQ k s a) 0 then uW a.toNat zs s.toNat else 0
def tL(k s a v:Int)(zs:List Int)(l:List aA):List aA:=bif ltI (l.length:Int) 400&&!(eqI k 3&&eqI (bQ k s a) 0)then l++[⟨k,s,a,tV k s a v zs,bQ k s a⟩]else l
theorem rK(l:List aA)(x:aA):l.map aA.row++[aA.row x]=(l++[x]).map aA.row:=by simp
theorem aOK{k s a v:Int}{zs:List Int}{l:List aA}(h:TouchOk s v zs l)(ha:cO a 0 65535=true):aNW k s a v ⟨ri zs,l.map aA.row⟩=true∧aNV k s a v ⟨ri zs,l.map aA.row⟩=(⟨ri (tB k s a v zs),(tL k s a v zs l).map aA.row⟩,tV k s a v zs,bQ k s a):=by
 refine aL (t:=SQ k s a v ⟨ri zs,l.map aA.row⟩) (P:=fun r=>r=(⟨ri (tB k s a v zs),(tL k s a v zs l).map aA.row⟩,tV k s a v zs,bQ k s a)) ?_
 obtain⟨c1,c2⟩:=aIJ k s a ha (by rcases h.hs with rfl|rfl<;>decide)
 have hl:=h.hl;obtain⟨r1,r2,r3,r4,r5,r6,r7,r8,r9⟩:=sM (n:=l.length) (by omega)
 obtain⟨m,rfl⟩: ∃m:Nat,a=(m:Int):=⟨a.toNat,by rw[bA]at ha;omega⟩
 have z1:dR (0+l.length) l.length=true:=by simp
 have z2:iE (0+l.length) l.length=true:=by simp
 have n0:eV (bQ k s m) 0=!eqI (bQ k s m) 0:=rfl;have n2:eV k 2=!eqI k 2:=rfl;have n3:eV k 3=!eqI k 3:=rfl;cases hc:eqI (bQ k s m) 0
 ·unfold SQ tB tL tV;simp only[aF,aQ,aC,EP,EO,EN,EM,EK,EJ,kQ,eU,nV,c1,c2,hc,n0,n2,n3,z1,z2,r8,r9,rK,qt,true_and,bG,List.length_map,aN,cC,q_2,false_implies,Bool.and_false,Bool.false_and,Bool.not_false,cond_false,cond_true,forall_const];cases ltI (l.length:Int) 400<;>cases eqI k 2<;>cases eqI k 3<;>simp
 ·have hc':=f8.1 hc;cases hk:eqI k 2
  ·obtain⟨d1,d2⟩:=aOJ (a:=m) h hk hc';unfold SQ tB tL tV;simp only[aF,aQ,aC,EP,EO,EN,EM,EK,EJ,kQ,eU,nV,c1,c2,hc,hc',hk,d1,d2,n2,n3,show eV 0 0=false from rfl,show eqI 0 0=true from rfl,z1,z2,r8,r9,rK,bE,qt,true_and,bG,List.length_map,aN,cC,q_m,q_1,q_2,false_implies,Bool.and_false,Bool.not_false,Bool.not_true,cond_false,cond_true,forall_const,and_true]
   cases ltI (l.length:Int) 400<;>cases eqI k 3<;>simp
  ·obtain rfl:=f8.1 hk;obtain⟨d1,d2⟩:=aOI (a:=m) h hc';unfold SQ tB tL tV;simp only[aF,aQ,aC,EP,EO,EN,EM,EK,EJ,kQ,eU,nV,c1,c2,hc,hc',hk,d1,d2,n2,n3,show eqI 2 3=false from rfl,show eV 0 0=false from rfl,show eqI 0 0=true from rfl,z1,z2,r8,r9,rK,bE,qt,true_and,bG,List.length_map,aN,cC,q_m,q_1,q_2,false_implies,Bool.and_false,Bool.false_and,Bool.not_false,Bool.not_true,cond_false,cond_true,forall_const,and_true]
   cases ltI (l.length:Int) 400<;>simp
theorem a3M{s v:Int}{a:Nat}{zs:List Int}{l:List aA}(h:TouchOk s v zs l)(hc:bQ 2 s a=0):aS1 s a v ⟨ri zs,l.map aA.row⟩=true∧AF s a v ⟨ri zs,l.map aA.row⟩=⟨ri (wk s v a zs s.toNat),l.map aA.row⟩:=by
 refine aL (t:=aE9 s a v ⟨ri zs,l.map aA.row⟩) (P:=fun r=>r=⟨ri (wk s v a zs s.toNat),l.map aA.row⟩) ?_
 obtain⟨-,q1,q2,q3⟩:=uV hc;obtain⟨v0,v1,v2⟩:=A1 h.hs h.hv;have hz:=h.hz;have an:cM v 255=v%256:=TG v0 (by omega)
 have p:aR (a:Int) 1=((a+1:Nat):Int):=by rw[bK (by omega)];omega
 obtain⟨c1,c2,c3,c4,c5⟩:=iY (zs:=zs) (a:=a) (by omega)
 unfold aE9;rcases h.hs with rfl|rfl
 ·simp only[aF,aQ,aC,KC,KB,KA,J9,J8,DX,J7,show eqI 1 2=false from rfl,an,p,c1,c2,c3,c4,c5,bG,bE,fV,List.length_set,List.length_map,aN,cC,q_m,Nat.zero_add,qt,true_and,q_2,false_implies,forall_const]
  rfl
 ·obtain⟨d1,d2,d3,d4,d5⟩:=iY (zs:=zs.set a (v/256)) (a:=a+1) (by rw[List.length_set];omega)
  rw[List.length_set]at d2 d3;simp only[aF,aQ,aC,KC,KB,KA,J9,J8,DX,J7,show eqI 2 2=true from rfl,an,p,a3L,c1,c2,c3,c4,c5,d1,d2,d3,d4,d5,bG,bE,fV,List.length_set,List.length_map,aN,cC,q_m,Nat.zero_add,qt,true_and,q_1,false_implies,forall_const,and_true]
  rfl
theorem bC2{k s v:Int}{a:Nat}{zs:List Int}{l:List aA}(h:TouchOk s v zs l)(hc:bQ k s a=0):aS4 s a ⟨ri zs,l.map aA.row⟩=true∧aFB s a ⟨ri zs,l.map aA.row⟩=uW a zs s.toNat:=by
 refine aL (t:=aFA s a ⟨ri zs,l.map aA.row⟩) (P:=fun r=>r=uW a zs s.toNat) ?_
 obtain⟨-,q1,q2,q3⟩:=uV hc;have hz:=h.hz;have p:aR (a:Int) 1=((a+1:Nat):Int):=by rw[bK (by omega)];omega
 have ha:a<zs.length:=by omega
 obtain⟨c1,c2,c3,c4,c5⟩:=iY ha;unfold aFA;rcases h.hs with rfl|rfl
 ·simp only[aF,aQ,aC,yM,KD,show eqI 1 1=true from rfl,p,c1,c2,c3,c4,c5,eO ha,aN,cC,bG,bE,q_m,Nat.zero_add,qt,true_and,q_1,false_implies,forall_const,and_true]
  exact(eE ha).symm
 ·have ha2:a+1<zs.length:=by omega
  obtain⟨d1,d2,d3,d4,d5⟩:=iY ha2;have b1:=j4 h.hb ha;have b2:=j4 h.hb ha2;simp only[aF,aQ,aC,yM,KD,show eqI 2 1=false from rfl,p,c1,c2,c3,c4,c5,d1,d2,d3,d4,d5,eO ha,eO ha2,aN,cC,bG,bE,q_m,Nat.zero_add,qt,true_and,q_2,false_implies,forall_const]
  rw[aH7 b1.1 (by omega),FA b1.1 (by omega) b2.1 b2.2]
  simp only[show Int.toNat 2=2 from rfl,uW]
  rw[eE ha,eE ha2]
theorem LS{k s a v:Int}{zs:List Int}{l:List aA}(h:TouchOk s v zs l)(ha:cO a 0 65535=true)(hv:eqI k 2=false→v=0):NE k s a v ⟨ri zs,l.map aA.row⟩=true∧R2 k s a v ⟨ri zs,l.map aA.row⟩=(⟨ri (tB k s a v zs),(tL k s a v zs l).map aA.row⟩,(bif eqI k 2 then 0 else tV k s a v zs),bQ k s a):=by
 refine aL (t:=R1 k s a v ⟨ri zs,l.map aA.row⟩) (P:=fun r=>r=(⟨ri (tB k s a v zs),(tL k s a v zs l).map aA.row⟩,(bif eqI k 2 then 0 else tV k s a v zs),bQ k s a)) ?_
 obtain⟨c1,c2⟩:=aII k s a ha (by rcases h.hs with rfl|rfl<;>decide)
 have hl:=h.hl;obtain⟨r1,r2,r3,r4,r5,r6,r7,r8,r9⟩:=sM (n:=l.length) (by omega)
 obtain⟨m,rfl⟩: ∃m:Nat,a=(m:Int):=⟨a.toNat,by rw[bA]at ha;omega⟩
 have z1:dR (0+l.length) l.length=true:=by simp
 have z2:iE (0+l.length) l.length=true:=by simp
 have n0:eV (bQ k s m) 0=!eqI (bQ k s m) 0:=rfl;have n2:eV k 2=!eqI k 2:=rfl;cases hc:eqI (bQ k s m) 0
 ·unfold R1 tB tL tV;simp only[aF,aQ,aC,wQ,wP,wO,wN,wM,wL,D6,D5,D4,kP,D3,D2,D1,D0,DZ,DY,c1,c2,hc,n0,n2,z1,z2,r8,r9,rK,qt,true_and,bG,List.length_map,aN,cC,q_1,q_2,false_implies,Bool.and_false,Bool.false_and,Bool.not_false,cond_false,cond_true,forall_const,and_true];cases ltI (l.length:Int) 400<;>cases eqI k 2<;>cases eqI k 3<;>simp
 ·have hc':=f8.1 hc;cases hk:eqI k 2
  ·obtain⟨d1,d2⟩:=bC2 (a:=m) h hc';unfold R1 tB tL tV;simp only[aF,aQ,aC,wQ,wP,wO,wN,wM,wL,D6,D5,D4,kP,D3,D2,D1,D0,DZ,DY,c1,c2,hc,hc',hk,d1,d2,n2,show eV 0 0=false from rfl,show eqI 0 0=true from rfl,z1,z2,r8,r9,rK,bE,qt,true_and,bG,List.length_map,aN,cC,q_m,q_1,q_2,false_implies,Bool.and_false,Bool.not_false,Bool.not_true,cond_false,cond_true,forall_const,and_true]
   cases ltI (l.length:Int) 400<;>cases eqI k 3<;>simp
  ·obtain rfl:=f8.1 hk;obtain⟨d1,d2⟩:=a3M (a:=m) h hc';unfold R1 tB tL tV;simp only[aF,aQ,aC,wQ,wP,wO,wN,wM,wL,D6,D5,D4,kP,D3,D2,D1,D0,DZ,DY,c1,c2,hc,hc',hk,d1,d2,n2,show eqI 2 3=false from rfl,show eV 0 0=false from rfl,show eqI 0 0=true from rfl,z1,z2,r8,r9,rK,bE,qt,true_and,bG,List.length_map,aN,cC,q_m,q_1,q_2,false_implies,Bool.and_false,Bool.false_and,Bool.not_false,Bool.not_true,cond_false,cond_true,forall_const,and_true]
   cases ltI (l.length:Int) 400<;>simp
end Go.Proofs.YtdipcnijfkdnfaaGreatFrames

namespace Go.Proofs.YtdipcnijfkdnfaaGreatFrames
open Go Go.Zq
set_option maxHeartbeats 4000000
set_option maxRecDepth 100000
def a3N(s:Int):Int:=bif eqI s 1 then 256 else 65536
theorem LT(b:Bool)(x:Int):M6 b x=true∧M5 b x=bif b then x else 0:=by
 refine aL (t:=PU b x) (P:=fun r=>r=bif b then x else 0) ?_
 unfold PU;simp only[aF,aQ,aC,true_and];exact⟨fun h=>by rw[h];rfl,fun h=>by rw[h];rfl⟩
def fl(c o z n:Bool):Int:=rM (rM (bif c then 17 else 0) (bif o then 2 else 0)) (rM (bif z then 4 else 0) (bif n then 8 else 0))
theorem mask{s v:Int}(h:s=1∨s=2):cM v (eQ (a3N s) 1)=v%a3N s:=by
 rcases h with rfl|rfl
 ·exact oC 8 _ (by omega) (by decide)
 ·exact oC 16 _ (by omega) (by decide)
end Go.Proofs.YtdipcnijfkdnfaaGreatFrames

namespace Go.Proofs.YtdipcnijfkdnfaaGreatFrames
open Go Go.Zq
set_option maxHeartbeats 4000000
set_option maxRecDepth 100000
theorem sN(a:Int):k77 a=true∧g77 a=cO a 0 65535:=by
 constructor
 ·simp[k77,bT,T77]
 ·simp[g77,bT,T77]
def qC(s:Int):Bool:=bif eqI s 1 then true else eqI s 2
theorem aQH(s:Int):ZI s=true∧M7 s=qC s:=by
 refine aL (t:=PV s) (P:=fun r=>r=qC s) ?_
 unfold PV qC;simp only[aF,aC,true_and]
theorem X3(m:Int):ZH m=true∧ZG m=rE m 5:=by
 refine aL (t:=aCS m) (P:=fun r=>r=rE m 5) ?_
 unfold aCS;simp only[aF,aC,true_and]
def Z5(o:aK):Bool:=cO o.Mode 0 7&&(cO o.Reg 0 3&&((eqI o.Reg 0||ltI o.Mode 6)&&(cO o.Ext 0 65535&&(rE o.Mode 5||eqI o.Ext 0))))
theorem a3O(o:aK):aRL o=true∧aRK o=Z5 o:=by
 refine aL (t:=aCZ o) (P:=fun r=>r=Z5 o) ?_
 have e1:rE o.Mode 6=!ltI o.Mode 6:=by
  cases h:ltI o.Mode 6
  ·rw[jN]at h;exact aOE.2 h
  ·rw[cK]at h;exact a3I.2 h
 have e2:eV o.Reg 0=!eqI o.Reg 0:=rfl;unfold aCZ Z5;simp only[aF,aQ,aC,mC,mD,(sN _).1,(sN _).2,(X3 _).1,(X3 _).2,e1,e2,Bool.and_true,Bool.true_or,true_and];cases cO o.Mode 0 7<;>cases cO o.Reg 0 3<;>cases eqI o.Reg 0<;>cases ltI o.Mode 6<;>cases cO o.Ext 0 65535<;>cases rE o.Mode 5<;>simp
def aOL(m:Int):Bool:=cO m 2 6
def a3P(m:Int):Bool:=bif eqI m 0 then true else aOL m
def FD(m:Int):Bool:=bif (bif eqI m 2 then true else eqI m 5)then true else eqI m 6
def aIL(o:aK):Bool:=bif eqI o.Mode 7 then leI o.Ext 1023 else false
def HP(o:aK):Bool:=eqI o.Mode 0&&(eqI o.Reg 0&&eqI o.Ext 0)
theorem aQI(m:Int):aRN m=true∧aRM m=aOL m:=by
 refine aL (t:=aC0 m) (P:=fun r=>r=aOL m) ?_
 unfold aC0 aOL;simp only[aF,aC,mC,mD,Bool.and_true,true_and]
theorem X4(m:Int):aKO m=true∧aKN m=FD m:=by
 refine aL (t:=aC1 m) (P:=fun r=>r=FD m) ?_
 unfold aC1 FD;simp only[aF,aC,true_and]
theorem aQJ(o:aK):aKQ o=true∧aKP o=aIL o:=by
 refine aL (t:=aC2 o) (P:=fun r=>r=aIL o) ?_
 unfold aC2 aIL;simp only[aF,aC,true_and]
theorem aIM(o:aK):aKS o=true∧aKR o=HP o:=by
 refine aL (t:=aC3 o) (P:=fun r=>r=HP o) ?_
 unfold aC3 HP;simp only[aF,aC,Bool.and_true,true_and]
def aIN(x:bD):Bool:=bif (bif eV x.Size 2 then true else kK x.Sub 6)then false else bif eqI x.Sub 3 then(bif eqI x.Reg 0 then aIL x.Ea else false)else bif (bif ltI x.Sub 3 then eV x.Reg 0 else false)then false else HP x.Ea
def kB(x:bD):Bool:=
 bif (bif (eqI x.Op 1)then(eqI x.Op 1)else(bif (eqI x.Op 3)then(eqI x.Op 3)else(bif (eqI x.Op 4)then(eqI x.Op 4)else(bif (eqI x.Op 5)then(eqI x.Op 5)else(bif (eqI x.Op 6)then(eqI x.Op 6)else(bif (eqI x.Op 7)then(eqI x.Op 7)else(eqI x.Op 8)))))))then(bif eqI x.Sub 0 then(bif eV x.Ea.Mode 1 then true else eqI x.Size 2)else false)
 else bif eqI x.Op 2 then(bif eqI x.Sub 0 then a3P x.Ea.Mode else false)
 else bif eqI x.Op 9 then(bif eqI x.Size 2 then eqI x.Sub 0 else false)
 else bif eqI x.Op 10 then(bif (bif eqI x.Size 2 then eqI x.Sub 0 else false)then FD x.Ea.Mode else false)
 else bif eqI x.Op 11 then(bif (bif eqI x.Reg 0 then leI x.Sub 3 else false)then a3P x.Ea.Mode else false)
 else bif eqI x.Op 12 then eqI x.Ea.Mode 0
 else bif eqI x.Op 13 then(bif (bif eqI x.Size 2 then leI x.Reg 1 else false)then eqI x.Ea.Mode 7 else false)
 else bif eqI x.Op 14 then(bif (bif (bif eqI x.Size 2 then eqI x.Reg 0 else false)then leI x.Sub 1 else false)then FD x.Ea.Mode else false)
 else bif eqI x.Op 15 then aIN x
 else bif (bif eqI x.Op 16 then eqI x.Op 16 else eqI x.Op 17)then(bif (bif eqI x.Size 2 then eqI x.Sub 0 else false)then eV x.Ea.Mode 1 else false)
 else bif eqI x.Op 18 then(bif (bif !(eqI x.Size 2)then leI x.Sub 1 else false)then eqI x.Ea.Mode 0 else false)
 else bif eqI x.Op 19 then(bif eqI x.Size 2 then(bif (bif (bif eqI x.Sub 0 then eqI x.Reg 0 else false)then aIL x.Ea else false)then true else(bif eqI x.Sub 1 then HP x.Ea else false))else false)
 else false
end Go.Proofs.YtdipcnijfkdnfaaGreatFrames

namespace Go.Proofs.YtdipcnijfkdnfaaGreatFrames
open Go Go.Zq
set_option maxHeartbeats 4000000
set_option maxRecDepth 100000
def zZ(x:bD):Bool:=bif (bif eqI x.Ea.Mode 7 then eqI x.Size 1 else false)then kK x.Ea.Ext 255 else false
def z3(x:bD):Bool:=qC x.Size&&(cO x.Reg 0 3&&(Z5 x.Ea&&(cO x.Sub 0 7&&(!zZ x&&kB x))))
theorem a3Q(x:bD)(h:x.Op=15):kB x=aIN x:=by
 unfold kB;rw[h];rfl
theorem TH(x:bD):jY x=true∧jX x=z3 x:=by
 refine aL (t:=aC4 x) (P:=fun r=>r=z3 x) ?_
 unfold aC4;simp only[aF,aQ,aC,II,P3,P2,P1,IH,P0,C0,PZ,PY,PX,PW,mC,mD,(aQH _).1,(aQH _).2,(a3O _).1,(a3O _).2,(aQI _).1,(aQI _).2,(X4 _).1,(X4 _).2,(aQJ _).1,(aQJ _).2,(aIM _).1,(aIM _).2,Bool.true_or,Bool.and_true,true_and];have e:z3 x=bif (bif (bif (bif (bif !qC x.Size then true else !cO x.Reg 0 3)then true else !Z5 x.Ea)then true else !cO x.Sub 0 7)then true else zZ x)then false else kB x:=by
  unfold z3;cases qC x.Size<;>cases cO x.Reg 0 3<;>cases Z5 x.Ea<;>cases cO x.Sub 0 7<;>cases zZ x<;>rfl
 rw[e];refine⟨fun h=>?_,fun h=>?_⟩
 ·have h':(bif (bif (bif (bif (bif !qC x.Size then true else !cO x.Reg 0 3)then true else !Z5 x.Ea)then true else !cO x.Sub 0 7)then true else zZ x)then false else kB x)=false:=by
   have:(bif (bif (bif (bif !qC x.Size then true else !cO x.Reg 0 3)then true else !Z5 x.Ea)then true else !cO x.Sub 0 7)then true else zZ x)=true:=h
   rw[this];rfl
  exact h'.symm
 ·have h':(bif (bif (bif (bif (bif !qC x.Size then true else !cO x.Reg 0 3)then true else !Z5 x.Ea)then true else !cO x.Sub 0 7)then true else zZ x)then false else kB x)=kB x:=by
   have:(bif (bif (bif (bif !qC x.Size then true else !cO x.Reg 0 3)then true else !Z5 x.Ea)then true else !cO x.Sub 0 7)then true else zZ x)=false:=h
   rw[this];rfl
  rw[h'];by_cases h15:x.Op=15
  ·rw[a3Q x h15];unfold aIN;rw[h15];simp only[show eqI 15 1=false from rfl,show eqI 15 2=false from rfl,show eqI 15 3=false from rfl,show eqI 15 4=false from rfl,show eqI 15 5=false from rfl,show eqI 15 6=false from rfl,show eqI 15 7=false from rfl,show eqI 15 8=false from rfl,show eqI 15 9=false from rfl,show eqI 15 10=false from rfl,show eqI 15 11=false from rfl,show eqI 15 12=false from rfl,show eqI 15 13=false from rfl,show eqI 15 14=false from rfl,show eqI 15 15=true from rfl,show eqI 15 16=false from rfl,show eqI 15 17=false from rfl,show eqI 15 18=false from rfl,show eqI 15 19=false from rfl,cond_false,Bool.false_eq_true,Bool.true_eq_false,false_implies,forall_const,true_and,and_true]
   have e6:kK x.Sub 6=!leI x.Sub 6:=by
    cases hh:leI x.Sub 6
    ·rw[aH6]at hh;exact rH.2 hh
    ·rw[lO]at hh;exact N1.2 hh
   have e2:eV x.Size 2=!eqI x.Size 2:=rfl;have e0:eV x.Reg 0=!eqI x.Reg 0:=rfl;refine⟨fun h3=>?_,fun h3=>?_⟩
   ·have l6:leI x.Sub 6=true:=by rw[f8]at h3;rw[lO];omega
    rw[h3,e6,l6,e2];cases eqI x.Size 2<;>cases eqI x.Reg 0<;>rfl
   ·rw[h3,e6,e2,e0];have e3:kK x.Sub 3=!ltI x.Sub 3:=by
     rw[oL]at h3;cases hh:ltI x.Sub 3
     ·rw[jN]at hh;exact rH.2 (by omega)
     ·rw[cK]at hh;exact N1.2 (by omega)
    rw[e3];cases eqI x.Size 2<;>cases leI x.Sub 6<;>cases eqI x.Reg 0<;>cases ltI x.Sub 3<;>cases HP x.Ea<;>rfl
  ·have n15:eqI x.Op 15=false:=by rw[oL];exact h15
   have cm:(bif eV x.Ea.Mode 1 then true else eqI x.Size 2)=bif eqI x.Size 2 then true else eV x.Ea.Mode 1:=by
    cases eV x.Ea.Mode 1<;>cases eqI x.Size 2<;>rfl
   unfold kB;rw[n15,cm];refine⟨fun h=>by rw[h];rfl,fun h1=>?_⟩
   rw[h1];refine⟨fun h=>by rw[h];rfl,fun h1=>?_⟩
   rw[h1];refine⟨fun h=>by rw[h];rfl,fun h1=>?_⟩
   rw[h1];refine⟨fun h=>by rw[h];rfl,fun h1=>?_⟩
   rw[h1];refine⟨fun h=>by rw[h];rfl,fun h1=>?_⟩
   rw[h1];refine⟨fun h=>by rw[h];rfl,fun h1=>?_⟩
   rw[h1];refine⟨fun h=>by rw[h];rfl,fun h1=>?_⟩
   rw[h1];refine⟨fun h=>by rw[h];rfl,fun h1=>?_⟩
   rw[h1];refine⟨fun h=>by rw[h];rfl,fun h1=>?_⟩
   rw[h1];refine⟨fun h=>by rw[h];rfl,fun h1=>?_⟩
   rw[h1];refine⟨fun h=>by rw[h];rfl,fun h1=>?_⟩
   rw[h1];simp only[Bool.false_eq_true,false_implies,forall_const,true_and];rfl
structure Rng(x:bD):Prop where
 o:1≤x.Op∧x.Op≤19
 s:1≤x.Size∧x.Size≤2
 r:0≤x.Reg∧x.Reg≤3
 m:0≤x.Ea.Mode∧x.Ea.Mode≤7
 e:0≤x.Ea.Reg∧x.Ea.Reg≤3
 b:0≤x.Sub∧x.Sub≤7
 xt:0≤x.Ea.Ext∧x.Ea.Ext≤65535
 z:rE x.Ea.Mode 5=false→x.Ea.Ext=0
theorem rng{x:bD}(h:z3 x=true):Rng x:=by
 unfold z3 Z5 qC at h;simp only[Bool.and_eq_true,bA]at h;obtain⟨h1,h2,⟨h3,h4,-,h5,h6⟩,h7,-,h8⟩:=h;refine⟨?_,?_,h2,h3,h4,h7,h5,fun hm=>?_⟩
 ·refine Classical.byContradiction fun hn=>?_
  have z: ∀i:Int,1≤i→i≤19→eqI x.Op i=false:=fun i h1 h2=>by rw[oL];intro e;exact hn (by omega)
  unfold kB at h8;simp only[z 1 (by decide) (by decide),z 2 (by decide) (by decide),z 3 (by decide) (by decide),z 4 (by decide) (by decide),z 5 (by decide) (by decide),z 6 (by decide) (by decide),z 7 (by decide) (by decide),z 8 (by decide) (by decide),z 9 (by decide) (by decide),z 10 (by decide) (by decide),z 11 (by decide) (by decide),z 12 (by decide) (by decide),z 13 (by decide) (by decide),z 14 (by decide) (by decide),z 15 (by decide) (by decide),z 16 (by decide) (by decide),z 17 (by decide) (by decide),z 18 (by decide) (by decide),z 19 (by decide) (by decide),cond_false,Bool.false_eq_true]at h8
 ·cases e:eqI x.Size 1
  ·rw[e,cond_false,f8]at h1;omega
  ·rw[f8]at e;omega
 ·rw[hm]at h6;simpa using h6
def W(x:bD):Int:=x.Op*2048+(x.Size-1)*1024+x.Reg*256+x.Ea.Mode*32+x.Ea.Reg*8+x.Sub
end Go.Proofs.YtdipcnijfkdnfaaGreatFrames

namespace Go.Proofs.YtdipcnijfkdnfaaGreatFrames
open Go Go.Zq
set_option maxHeartbeats 4000000
set_option maxRecDepth 100000
structure RM where
 mk::
 (d a:List Int)
 (oth pc fl mask:Int)
 (sup tr:Bool)
def RM.g(r:RM):aI:=⟨ri r.d,ri r.a,r.oth,r.pc,r.fl,r.mask,r.sup,r.tr⟩
def dP(t:Int)(l:List Int):Bool:=l.all fun z=>cO z 0 t
structure RM.Ok(t:Int)(r:RM):Prop where
 t0:65535≤t
 t1:t≤65536
 d4:r.d.length=4
 a4:r.a.length=4
 dw:dP t r.d=true
 aw:dP 65535 r.a=true
 ow:cO r.oth 0 65535=true
 pw:cO r.pc 0 65535=true
 fw:cO r.fl 0 31=true
 mw:cO r.mask 0 (t-65528)=true
def dS(l:List Int)(i:Int):Int:=l.getD i.toNat 0
theorem TI{l:List Int}{i:Int}(hl:l.length=4)(hi:cO i 0 3=true):dJ [.int .i64] (ri l) i=true∧aU (ri l) i.toNat 0=dS l i∧i.toNat<l.length:=by
 rw[bA]at hi;obtain⟨n,rfl⟩:=Int.eq_ofNat_of_zero_le hi.1;have hn:n<l.length:=by omega
 rw[Int.toNat_natCast];refine⟨gG hn,?_,hn⟩;rw[eO hn,dS,Int.toNat_natCast,eE hn]
theorem aUZ{t:Int}{l:List Int}{i:Int}(h:dP t l=true)(hl:l.length=4)(hi:cO i 0 3=true):0≤dS l i∧dS l i≤t:=by
 obtain⟨-,-,hn⟩:=TI hl hi;have:=List.all_eq_true.1 h _ (List.getElem_mem hn);rw[bA]at this;rw[dS,eE hn];exact this
theorem iS{t:Int}{l:List Int}{i:Nat}{v:Int}(h:dP t l=true)(h0:0≤v)(h1:v≤t):dP t (l.set i v)=true:=by
 unfold dP;rw[List.all_eq_true]at*;intro z hz;rcases List.mem_or_eq_of_mem_set hz with hz|rfl
 ·exact List.all_eq_true.1 h z hz
 ·exact bA.2 ⟨h0,h1⟩
theorem FE{l:List Int}{i:Int}{v:Int}(hl:l.length=4)(hi:cO i 0 3=true):blt (0+i.toNat) l.length=true∧gD (gE (ri l) (0+i.toNat)) 1=true∧leI 0 i=true∧ltI i (l.length:Int)=true∧dC [.int .i64] (ri l) (0+i.toNat) 0=true:=by
 obtain⟨-,-,hn⟩:=TI hl hi;rw[bA]at hi;rw[Nat.zero_add];refine⟨by simpa using hn,by rw[lP hn];rfl,by simp;omega,by simp;omega,wU ⟨l,rfl⟩ (by rw[bE];exact hn)⟩
structure MM where
 mk::
 (r:RM)
 (zs:List Int)
 (l:List aA)
 (stop:Bool)
 (f:aE)
def jO(zs:List Int)(l:List aA):aO:=⟨ri zs,l.map aA.row⟩
def MM.g(m:MM):bL:=⟨m.r.g,jO m.zs m.l,m.stop,m.f⟩
structure BusOk(zs:List Int)(l:List aA):Prop where
 hz:zs.length=512
 hb:bM zs=true
 hl:l.length≤400
 ha:l.all accB=true
structure MM.Ok(t:Int)(m:MM):Prop where
 r:m.r.Ok t
 b:BusOk m.zs m.l
def cP(m:MM):Bool:=eqI m.f.Vector 0
def eJ(m:MM)(k s a v:Int):MM×Int:=({m with zs:=tB k s a v m.zs,l:=tL k s a v m.zs m.l,f:=bif eV (bQ k s a) 0&&eqI m.f.Vector 0 then{m.f with Vector:=bif eqI (bQ k s a) 2 then 3 else 2,Addr:=a,Write:=eqI k 2}else m.f},tV k s a v m.zs)
def cN(m:MM)(v:Int):MM:=
 bif cP (eJ m 2 2 ((dS m.r.a 3-2)%65536) v).1 then{(eJ m 2 2 ((dS m.r.a 3-2)%65536) v).1 with r:={m.r with a:=m.r.a.set 3 ((dS m.r.a 3-2)%65536)}}else(eJ m 2 2 ((dS m.r.a 3-2)%65536) v).1
def kV(m:MM):MM×Int:=
 (bif cP (eJ m 1 2 (dS m.r.a 3) 0).1 then{(eJ m 1 2 (dS m.r.a 3) 0).1 with r:={m.r with a:=m.r.a.set 3 ((dS m.r.a 3+2)%65536)}}else(eJ m 1 2 (dS m.r.a 3) 0).1,(eJ m 1 2 (dS m.r.a 3) 0).2)
def dA(r:RM):Int:=r.fl+32*r.mask+(bif r.sup then 256 else 0)+(bif r.tr then 512 else 0)
def bZ(r:RM)(v:Int):RM:=
 bif uZ (eqI (v/256%2) 1) r.sup then⟨r.d,r.a,r.oth,r.pc,v%32,v/32%8,r.sup,eqI (v/512%2) 1⟩
 else⟨r.d,r.a.set 3 r.oth,dS r.a 3,r.pc,v%32,v/32%8,!r.sup,eqI (v/512%2) 1⟩
end Go.Proofs.YtdipcnijfkdnfaaGreatFrames

namespace Go.Proofs.YtdipcnijfkdnfaaGreatFrames
open Go Go.Zq
set_option maxHeartbeats 4000000
set_option maxRecDepth 100000
@[simp] theorem Z6(m:MM):m.g.fr=m.r.g:=rfl
@[simp] theorem FF(m:MM):m.g.fbus=jO m.zs m.l:=rfl
@[simp] theorem wX(m:MM):m.g.fstop=m.stop:=rfl
@[simp] theorem mU(m:MM):m.g.ffault=m.f:=rfl
@[simp] theorem A6(r:RM):r.g.D=ri r.d:=rfl
@[simp] theorem FS(r:RM):r.g.A=ri r.a:=rfl
@[simp] theorem dL(r:RM):r.g.Other=r.oth:=rfl
@[simp] theorem kW(r:RM):r.g.PC=r.pc:=rfl
@[simp] theorem cV(r:RM):r.g.Flags=r.fl:=rfl
@[simp] theorem dY(r:RM):r.g.Mask=r.mask:=rfl
@[simp] theorem cL(r:RM):r.g.Super=r.sup:=rfl
@[simp] theorem cW(r:RM):r.g.Trace=r.tr:=rfl
@[simp] theorem z4(zs:List Int)(l:List aA):(jO zs l).Bytes=ri zs:=rfl
@[simp] theorem FG(zs:List Int)(l:List aA):(jO zs l).Log=l.map aA.row:=rfl
def Z7(c:aJ):Prop:=c.R.D.length≤2000∧c.R.A.length≤2000∧c.Bus.Bytes.length≤2000∧c.Bus.Log.length≤2000
theorem aU0{r:aI}(h1:r.D.length≤2000)(h2:r.A.length≤2000):aTI r=true∧aF1 r=r:=by
 refine aL (t:=aF0 r) (P:=fun q=>q=r) ?_
 obtain⟨a1,a2,a3,a4,a5,a6,a7,a8,a9⟩:=sM h1;obtain⟨b1,b2,b3,b4,b5,b6,b7,b8,b9⟩:=sM h2;unfold aF0;simp only[aF,aC,SJ,aN,cC,dX,jT,cQ,jU,Bool.and_true,true_and,(zY).1,(zY).2,a1,a3,a4,a6,b1,b3,b4,b6]
theorem aU1{b:aO}(h1:b.Bytes.length≤2000)(h2:b.Log.length≤2000):aTL b=true∧aF6 b=b:=by
 refine aL (t:=aF5 b) (P:=fun r=>r=b) ?_
 obtain⟨a1,a2,a3,a4,a5,a6,a7,a8,a9⟩:=sM h1;obtain⟨b1,b2,b3,b4,b5,b6,b7,b8,b9⟩:=sM h2;unfold aF5;simp only[aF,aC,aF4,aF3,aF2,cG,cE,EF,aN,cC,dX,jT,cQ,jU,Bool.and_true,true_and,(zY).1,(zY).2,a1,a4,a6,b2,b5,b6]
theorem aIO{c:aJ}(h:Z7 c):aNI c=true∧GB c=c:=by
 refine aL (t:=aF8 c) (P:=fun r=>r=c) ?_
 obtain⟨h1,h2,h3,h4⟩:=h;unfold aF8;simp only[aF,aC,SK,aU0 h1 h2,aU1 h3 h4,aN,cC,Bool.and_true,true_and]
theorem aOM{c:aJ}(h:Z7 c):k78 c=true∧AG c=⟨c.R,c.Bus,c.Stop,⟨0,0,0,0,false⟩⟩:=by
 refine aL (t:=T78 c) (P:=fun r=>r=⟨c.R,c.Bus,c.Stop,⟨0,0,0,0,false⟩⟩) ?_
 unfold T78;simp only[aF,aC,aF9,aIO h,aN,cC,Bool.and_true,true_and]
theorem a3R{m:bL}(h:Z7 ⟨m.fr,m.fbus,m.fstop,false⟩):k80 m=true∧L7 m=⟨m.fr,m.fbus,m.fstop,false⟩:=by
 refine aL (t:=T80 m) (P:=fun r=>r=⟨m.fr,m.fbus,m.fstop,false⟩) ?_
 unfold T80;simp only[aF,aC,aGU,HJ,aGT,aIO h,aN,cC,Bool.and_true,true_and]
@[simp] theorem TJ(m:bL):k81 m=true∧g81 m=eqI m.ffault.Vector 0:=by
  refine aL (t:=T81 m) (P:=fun r=>r=eqI m.ffault.Vector 0) ?_
  unfold T81;simp only[aF,aC,aGG,aN,cC,Bool.and_true,true_and]
theorem aQK(v:Int):cM v 65535=v%65536:=oC 16 _ (by omega) (by decide)
structure AccOk(s v a:Int)(m:MM):Prop where
 hs:s=1∨s=2
 hv:jK s v=true
 ha:cO a 0 65535=true
theorem AccOk.t{s v a t:Int}{m:MM}(h:AccOk s v a m)(hm:m.Ok t):TouchOk s v m.zs m.l:=⟨h.hs,h.hv,hm.b.hz,hm.b.hb,hm.b.hl⟩
theorem bC3{s:Int}(h:s=1∨s=2):jK s 0=true:=by rcases h with rfl|rfl<;>decide
theorem aQL{k s a v t:Int}{m:MM}(hm:m.Ok t)(h:AccOk s v a m):aNX k s a v m.g=true∧uM k s a v m.g=((eJ m k s a v).1.g,(eJ m k s a v).2):=by
 refine aL (t:=aGM k s a v m.g) (P:=fun r=>r=((eJ m k s a v).1.g,(eJ m k s a v).2)) ?_
 obtain⟨a1,a2⟩:=aOK (k:=k) (h.t hm) h.ha;have a1':aNW k s a v (jO m.zs m.l)=true:=a1;have a2':aNV k s a v (jO m.zs m.l)=(jO (tB k s a v m.zs) (tL k s a v m.zs m.l),tV k s a v m.zs,bQ k s a):=a2;unfold aGM;simp only[aF,aQ,aC,KV,SS,aGL,aGK,kR,SR,Z6,FF,wX,mU,a1',a2',aN,cC,Bool.and_true,true_and];unfold eJ;have e: ∀a b:Bool,(bif a then b else false)=(a&&b):=fun a b=>by cases a<;>rfl
 rw[e];cases eV (bQ k s a) 0&&eqI m.f.Vector 0
 ·refine⟨fun q=>absurd q (by decide),fun _=>?_⟩
  rfl
 ·refine⟨fun _=>?_,fun q=>absurd q (by decide)⟩
  cases eqI (bQ k s a) 2
  ·exact⟨fun q=>absurd q (by decide),fun _=>rfl⟩
  ·exact⟨fun _=>rfl,fun q=>absurd q (by decide)⟩
theorem yW{zs:List Int}{i:Nat}{x:Int}(h:bM zs=true)(hx:cO x 0 255=true):bM (zs.set i x)=true:=by
 unfold bM;rw[List.all_eq_true]at*;intro z hz;rcases List.mem_or_eq_of_mem_set hz with hz|rfl
 ·exact List.all_eq_true.1 h z hz
 ·exact hx
theorem aIP{k s a v:Int}{zs:List Int}{l:List aA}(h:TouchOk s v zs l):bM (tB k s a v zs)=true:=by
 obtain⟨v0,v1,v2⟩:=A1 h.hs h.hv;unfold tB;cases eqI (bQ k s a) 0&&eqI k 2
 ·exact h.hb
 ·rw[cond_true];rcases h.hs with rfl|rfl
  ·exact yW h.hb (by rw[show eqI 1 1=true from rfl,cond_true,bA];omega)
  ·exact yW (yW h.hb (by rw[bA];omega)) (by rw[bA];omega)
theorem aU2{s v:Int}{a:Nat}{zs:List Int}{l:List aA}(h:TouchOk s v zs l):jK s (uW a zs s.toNat)=true:=by
 have get: ∀i,0≤zs.getD i 0∧zs.getD i 0<256:=fun i=>by
  by_cases hi:i<zs.length
  ·rw[eE hi];exact j4 h.hb hi
  ·simp[List.getD_eq_getElem?_getD,List.getElem?_eq_none (by omega:zs.length≤i)]
 have g1:=get a;have g2:=get (a+1);rcases h.hs with rfl|rfl
 ·show jK 1 (zs.getD a 0)=true
  unfold jK;rw[show eqI 1 1=true from rfl,cond_true,bA];omega
 ·show jK 2 (zs.getD a 0*256+zs.getD (a+1) 0)=true
  unfold jK;rw[show eqI 2 1=false from rfl,show eqI 2 2=true from rfl,cond_false,cond_true,bA];omega
end Go.Proofs.YtdipcnijfkdnfaaGreatFrames

namespace Go.Proofs.YtdipcnijfkdnfaaGreatFrames
open Go Go.Zq
set_option maxHeartbeats 4000000
set_option maxRecDepth 100000
theorem aIQ{k s a v:Int}{zs:List Int}{l:List aA}(h:TouchOk s v zs l):jK s (tV k s a v zs)=true:=by
 unfold tV;cases eqI k 2
 ·cases eqI (bQ k s a) 0
  ·exact bC3 h.hs
  ·exact aU2 h
 ·exact h.hv
theorem aQM{k s a v:Int}{zs:List Int}{l:List aA}(h:TouchOk s v zs l)(ha:cO a 0 65535=true)(hk:cO k 1 3=true)(hl:l.all accB=true):(tL k s a v zs l).length≤400∧(tL k s a v zs l).all accB=true:=by
 have h1:=h.hl;unfold tL;cases hc:ltI (l.length:Int) 400&&!(eqI k 3&&eqI (bQ k s a) 0)
 ·exact⟨h1,hl⟩
 ·rw[Bool.and_eq_true,cK]at hc;rw[cond_true,List.length_append,List.all_append,hl];refine⟨by simp;omega,?_⟩
  simp only[List.all_cons,List.all_nil,Bool.and_true,Bool.true_and,accB,hk,ha,aIQ h,aIK,hc.2]
theorem aU3(k s a v:Int)(zs:List Int):(tB k s a v zs).length=zs.length:=by
 unfold tB;cases eqI (bQ k s a) 0&&eqI k 2
 ·rfl
 ·rw[cond_true]
  match s.toNat with
  |0=>rfl
  |1=>simp[wk]
  |n+2=>simp[wk]
theorem LU{k s a v t:Int}{m:MM}(hm:m.Ok t)(h:AccOk s v a m)(hk:cO k 1 3=true):(eJ m k s a v).1.Ok t∧jK s (eJ m k s a v).2=true:=by
 have hT:=h.t hm;obtain⟨l1,l2⟩:=aQM (k:=k) hT h.ha hk hm.b.ha;exact⟨⟨hm.r,⟨by show(tB k s a v m.zs).length=512;rw[aU3];exact hm.b.hz,aIP hT,l1,l2⟩⟩,aIQ hT⟩
theorem z5{α:Type}{b:Bool}{x y:α}{P:α→Prop}(h1:b=true→P x)(h2:b=false→P y):P (bif b then x else y):=by
 cases b
 ·exact h2 rfl
 ·exact h1 rfl
theorem RM.Ok.setA{t v:Int}{r:RM}{i:Nat}(h:r.Ok t)(h0:0≤v)(h1:v≤65535):RM.Ok t {r with a:=r.a.set i v}:=⟨h.t0,h.t1,h.d4,by simpa using h.a4,h.dw,iS h.aw h0 h1,h.ow,h.pw,h.fw,h.mw⟩
theorem RM.Ok.setD{t v:Int}{r:RM}{i:Nat}(h:r.Ok t)(h0:0≤v)(h1:v≤t):RM.Ok t {r with d:=r.d.set i v}:=⟨h.t0,h.t1,by simpa using h.d4,h.a4,iS h.dw h0 h1,h.aw,h.ow,h.pw,h.fw,h.mw⟩
theorem RM.Ok.setP{t v:Int}{r:RM}(h:r.Ok t)(h1:cO v 0 65535=true):RM.Ok t {r with pc:=v}:=⟨h.t0,h.t1,h.d4,h.a4,h.dw,h.aw,h.ow,h1,h.fw,h.mw⟩
theorem in3:cO 3 0 3=true:=by decide
theorem aU4:Int.toNat 3=3:=rfl
theorem FH{t:Int}{r:RM}(h:r.Ok t):0≤dS r.a 3∧dS r.a 3≤65535:=aUZ h.aw h.a4 in3
theorem a3S{v:Int}(h0:0≤v)(h1:v≤65535):jK 2 v=true:=by
 unfold jK;rw[show eqI 2 1=false from rfl,show eqI 2 2=true from rfl,cond_false,cond_true,bA];omega
theorem FI{v:Int}(h:jK 2 v=true):0≤v∧v≤65535:=by
 unfold jK at h;rw[show eqI 2 1=false from rfl,show eqI 2 2=true from rfl,cond_false,cond_true,bA]at h;omega
theorem FJ{t v:Int}{m:MM}(hm:m.Ok t)(h0:0≤v)(h1:v≤65535):AccOk 2 v ((dS m.r.a 3-2)%65536) m:=⟨Or.inr rfl,a3S h0 h1,bA.2 (by omega)⟩
theorem qD{t:Int}{r:RM}(h:r.Ok t):ltI 3 (r.a.length:Int)=true∧dC [.int .i64] (ri r.a) 3 0=true∧aU (ri r.a) 3 0=dS r.a 3∧blt 3 r.a.length=true∧gD (gE (ri r.a) 3) 1=true∧cM (eQ (dS r.a 3) 2) 65535=(dS r.a 3-2)%65536∧cM (aR (dS r.a 3) 2) 65535=(dS r.a 3+2)%65536:=by
 have h4:=h.a4;have hr:=FH h;obtain⟨-,d2,d3⟩:=TI h.a4 in3;obtain⟨s1,s2,s3,s4,s5⟩:=FE (v:=0) h.a4 in3;rw[Nat.zero_add,aU4]at s1 s2 s5;refine⟨s4,s5,d2,s1,s2,?_,?_⟩
 ·rw[rI (by omega),aQK]
 ·rw[bK (by omega),aQK]
@[simp] theorem a3T(m:MM)(k s a v:Int):(eJ m k s a v).1.r=m.r:=rfl
@[simp] theorem a3U(m:MM)(k s a v:Int):(eJ m k s a v).1.stop=m.stop:=rfl
theorem aU5{v t:Int}{m:MM}(hm:m.Ok t)(h0:0≤v)(h1:v≤65535):k79 v m.g=true∧g79 v m.g=(cN m v).g:=by
 refine aL (t:=T79 v m.g) (P:=fun r=>r=(cN m v).g) ?_
 obtain⟨b1,b2,b3,b4,b5,b6,b7⟩:=qD hm.r;obtain⟨a1,a2⟩:=aQL (k:=2) hm (FJ hm h0 h1);unfold T79 cN cP;simp only[aF,aQ,aC,ST,aGS,aGR,NI,aGQ,aGP,aGO,NH,WX,kS,aGN,Z6,FF,mU,A6,FS,z4,FG,bG,bE,b1,b2,b3,b4,b5,b6,a1,a2,TJ,a3T,aN,cC,fV,List.length_set,List.length_map,Bool.and_true,true_and];refine⟨fun q=>?_,fun q=>?_⟩
 ·rw[q];rfl
 ·rw[q];rfl
theorem aON{v t:Int}{m:MM}(hm:m.Ok t)(h0:0≤v)(h1:v≤65535):(cN m v).Ok t:=by
 obtain⟨a1,-⟩:=LU (k:=2) hm (FJ hm h0 h1) (by decide)
 unfold cN;refine z5 (P:=fun q=>MM.Ok t q) (fun _=>⟨hm.r.setA (by omega) (by omega),a1.b⟩) (fun _=>a1)
theorem X5{t:Int}{m:MM}(hm:m.Ok t):AccOk 2 0 (dS m.r.a 3) m:=⟨Or.inr rfl,by decide,by have:=FH hm.r;rw[bA];exact this⟩
theorem aU6{t:Int}{m:MM}(hm:m.Ok t):(kV m).1.Ok t∧0≤(kV m).2∧(kV m).2≤65535:=by
 obtain⟨a1,a2⟩:=LU (k:=1) hm (X5 hm) (by decide)
 refine⟨?_,FI a2⟩;unfold kV;refine z5 (P:=fun q=>MM.Ok t q) (fun _=>⟨hm.r.setA (by omega) (by omega),a1.b⟩) (fun _=>a1)
end Go.Proofs.YtdipcnijfkdnfaaGreatFrames

namespace Go.Proofs.YtdipcnijfkdnfaaGreatFrames
open Go Go.Zq
set_option maxHeartbeats 4000000
set_option maxRecDepth 100000
structure OpOk(o:aK):Prop where
 hm:cO o.Mode 0 7=true
 hr:cO o.Reg 0 3=true
 he:cO o.Ext 0 65535=true
theorem OpOk.of{o:aK}(h:Z5 o=true):OpOk o:=by
 unfold Z5 at h;simp only[Bool.and_eq_true]at h;exact⟨h.1,h.2.1,h.2.2.2.1⟩
end Go.Proofs.YtdipcnijfkdnfaaGreatFrames

namespace Go.Proofs.YtdipcnijfkdnfaaGreatFrames
open Go Go.Zq
set_option maxHeartbeats 4000000
set_option maxRecDepth 100000
end Go.Proofs.YtdipcnijfkdnfaaGreatFrames

namespace Go.Proofs.YtdipcnijfkdnfaaGreatFrames
open Go Go.Zq
set_option maxHeartbeats 4000000
set_option maxRecDepth 100000
end Go.Proofs.YtdipcnijfkdnfaaGreatFrames

namespace Go.Proofs.YtdipcnijfkdnfaaGreatFrames
open Go Go.Zq
set_option maxHeartbeats 4000000
set_option maxRecDepth 100000
end Go.Proofs.YtdipcnijfkdnfaaGreatFrames

namespace Go.Proofs.YtdipcnijfkdnfaaGreatFrames
open Go Go.Zq
set_option maxHeartbeats 4000000
set_option maxRecDepth 100000
structure InsOk(x:bD):Prop where
 hs:x.Size=1∨x.Size=2
 hr:cO x.Reg 0 3=true
 hb:cO x.Sub 0 7=true
 ho:OpOk x.Ea
 he:x.Size=1→x.Ea.Mode=7→x.Ea.Ext≤255
 kb:kB x=true
 op:1≤x.Op∧x.Op≤19
theorem InsOk.of{x:bD}(h:z3 x=true):InsOk x:=by
 have R:=rng h;unfold z3 at h;simp only[Bool.and_eq_true]at h;obtain⟨h1,h2,h3,h4,h5,h6⟩:=h;refine⟨by have:=R.s;omega,h2,h4,OpOk.of h3,fun e1 e2=>?_,h6,R.o⟩
 unfold zZ at h5;rw[e1,e2]at h5;simpa using h5
theorem TK(r:RM)(p:Int):(aI.mk (ri r.d) (ri r.a) r.oth p r.fl r.mask r.sup r.tr)=RM.g {r with pc:=p}:=rfl
end Go.Proofs.YtdipcnijfkdnfaaGreatFrames

namespace Go.Proofs.YtdipcnijfkdnfaaGreatFrames
open Go Go.Zq
set_option maxHeartbeats 4000000
set_option maxRecDepth 100000
theorem X6{v:Int}(h:cO v 0 1023=true):eV (cM v 256) 0=eqI (v/256%2) 1∧eV (cM v 512) 0=eqI (v/512%2) 1:=by
 rw[bA]at h;obtain⟨n,rfl⟩:=Int.eq_ofNat_of_zero_le h.1;have key: ∀n:Fin 1024,eV (cM (n.val:Int) 256) 0=eqI ((n.val:Int)/256%2) 1∧eV (cM (n.val:Int) 512) 0=eqI ((n.val:Int)/512%2) 1:=by decide+kernel
 exact key ⟨n,by omega⟩
theorem aU7{t v:Int}{r:RM}(h:r.Ok t)(hv:cO v 0 1023=true):aTU r.g v=true∧aTT r.g v=(bZ r v).g:=by
 refine aL (t:=aGE r.g v) (P:=fun q=>q=(bZ r v).g) ?_
 obtain⟨b1,b2,b3,b4,b5,-,-⟩:=qD h;obtain⟨c1,c2⟩:=X6 hv;have hv':=bA.1 hv;have e1:cM v 31=v%32:=oC 5 _ (by omega) (by decide)
 have e2:cM (xQ v 5) 7=v/32%8:=by rw[A0 (n:=5) 5 rfl (by omega)];exact oC 3 _ (by omega) (by decide)
 unfold aGE bZ;simp only[aF,aQ,aC,EH,SL,Z6,FF,wX,mU,A6,FS,dL,kW,cV,dY,cL,cW,bG,bE,b1,b2,b3,b4,b5,c1,c2,e1,e2,fV,List.length_set,aN,cC,dX,jT,cQ,jU,Bool.and_true,Bool.true_or,Bool.or_true,true_and];cases hs:eqI (v/256%2) 1<;>cases hp:r.sup<;>simp[uZ]<;>rfl
theorem A7{t v:Int}{r:RM}(h:r.Ok t):(bZ r v).Ok t:=by
 have q:=FH h;have t0:=h.t0;have f:cO (v%32) 0 31=true:=bA.2 (by omega)
 have k:cO (v/32%8) 0 (t-65528)=true:=bA.2 (by omega)
 have o:=bA.1 h.ow;unfold bZ;exact z5 (P:=fun z=>RM.Ok t z) (fun _=>⟨h.t0,h.t1,h.d4,h.a4,h.dw,h.aw,h.ow,h.pw,f,k⟩) (fun _=>⟨h.t0,h.t1,h.d4,by simpa using h.a4,h.dw,iS h.aw o.1 o.2,bA.2 q,h.pw,f,k⟩)
theorem aIR{t:Int}{r:RM}(h:r.Ok t):aTM r.g=true∧aNJ r.g=dA r:=by
 refine aL (t:=aGB r.g) (P:=fun q=>q=dA r) ?_
 have f:=bA.1 h.fw;have k:=bA.1 h.mw;have t1:=h.t1;have e1:dD 32 r.mask=32*r.mask:=iC (by omega)
 have b1: ∀(b:Bool)(n:Int),(bif b then n else 0)=0∨(bif b then n else 0)=n:=fun b n=>by cases b<;>simp
 have c1:=b1 r.sup 256;have c2:=b1 r.tr 512;unfold aGB dA;simp only[aF,aC,Z6,FF,wX,mU,A6,FS,dL,kW,cV,dY,cL,cW,(LT _ _).1,(LT _ _).2,e1,aN,cC,dX,jT,cQ,jU,Bool.and_true,Bool.true_or,Bool.or_true,true_and];rw[bK (x:=r.fl) (by omega),bK (x:=r.fl+32*r.mask) (by omega),bK (by omega)]
theorem TL{t:Int}{r:RM}(h:r.Ok t):0≤dA r∧dA r≤65535:=by
 have f:=bA.1 h.fw;have k:=bA.1 h.mw;have t1:=h.t1;have b1: ∀(b:Bool)(n:Int),(bif b then n else 0)=0∨(bif b then n else 0)=n:=fun b n=>by cases b<;>simp
 have c1:=b1 r.sup 256;have c2:=b1 r.tr 512;unfold dA;omega
end Go.Proofs.YtdipcnijfkdnfaaGreatFrames

namespace Go.Proofs.YtdipcnijfkdnfaaGreatFrames
open Go Go.Zq
set_option maxHeartbeats 4000000
set_option maxRecDepth 100000
theorem aIS{b:Bool}(h:(!b)=true):b=false:=by cases b<;>simp at h⊢
theorem aQN{b:Bool}(h:(!b)=false):b=true:=by cases b<;>simp at h⊢
def bI(r:RM)(zs:List Int)(l:List aA)(stop halt:Bool):aJ:=⟨r.g,jO zs l,stop,halt⟩
theorem X7{t:Int}{r:RM}{zs:List Int}{l:List aA}(s h:Bool)(hr:r.Ok t)(hb:BusOk zs l):Z7 (bI r zs l s h):=by
 have h1:=hr.d4;have h2:=hr.a4;have h3:=hb.hz;have h4:=hb.hl;refine⟨?_,?_,?_,?_⟩
 ·show(ri r.d).length≤2000;rw[bE];omega
 ·show(ri r.a).length≤2000;rw[bE];omega
 ·show(ri zs).length≤2000;rw[bE];omega
 ·show(l.map aA.row).length≤2000;rw[List.length_map];omega
def f0:aE:=⟨0,0,0,0,false⟩
theorem aOO{t:Int}{r:RM}{zs:List Int}{l:List aA}{s h:Bool}(hr:r.Ok t)(hb:BusOk zs l):k78 (bI r zs l s h)=true∧AG (bI r zs l s h)=MM.g ⟨r,zs,l,s,f0⟩:=aOM (X7 s h hr hb)
theorem aIT{t:Int}{m:MM}(hm:m.Ok t):k80 m.g=true∧L7 m.g=bI m.r m.zs m.l m.stop false:=a3R (m:=m.g) (X7 m.stop false hm.r hm.b)
end Go.Proofs.YtdipcnijfkdnfaaGreatFrames

namespace Go.Proofs.YtdipcnijfkdnfaaGreatFrames
open Go Go.Zq
set_option maxHeartbeats 4000000
set_option maxRecDepth 100000
theorem iT{B:Int}{c:aB}(r:List Int)(h1:CO B c)(h2:B<2500000000000000000)(h3:1≤r.length):FY (ri r) c=true∧CO (B+2) (wB (ri r) c).1:=by
 obtain⟨a,b,-⟩:=rJ (r:=ri r) ⟨r,rfl⟩ (by rw[bE];exact h3) h1 (by omega)
 exact⟨a,b⟩
theorem aOP{B:Int}{c:aB}(h:CO B c)(hB:B<2000000000000000000):k72 c=true∧CO (B+8) (g72 c).1:=by
 refine aL (t:=T72 c) (P:=fun r=>CO (B+8) r.1) ?_
 obtain⟨a1,a2⟩:=mT 2 h (by omega)
 obtain⟨b1,b2⟩:=iT [0,1,127,128,255,256,32767,32768,65535,65536,-1] a2 (by omega) (by decide)
 obtain⟨d1,d2,-⟩:=bY 256 a2 (by omega)
 obtain⟨e1,e2,-⟩:=bY 2 d2 (by omega)
 obtain⟨f1,f2,-⟩:=bY 256 e2 (by omega)
 unfold T72;simp only[aF,aQ,aC,a1,d1,e1,Bool.and_true,true_and];refine⟨fun _=>⟨b1,b2.mono (by omega)⟩,fun _=>⟨?_,f2.mono (by omega)⟩⟩
 rw[Bool.true_and];exact f1
theorem a3V{B:Int}{p:Bool}{c d:aB}(h:CO B c)(k:CO B d):CO B (aB.mk (bif p then c.fcode else d.fcode) (bif p then c.fat else d.fat) (bif p then c.fseed else d.fseed)):=by
 cases p
 ·exact k
 ·exact h
theorem aIU(b:Bool):M6 b 1=true:=by
 refine(aL (t:=PU b 1) (P:=fun _=>True) ?_).1
 unfold PU;simp only[aF,aQ,aC,true_and,implies_true,and_true]
theorem yX{B:Int}{c:aB}(h:CO B c)(hB:B<2000000000000000000):aKK c=true∧CO (B+14) (hZ c).1:=by
 refine aL (t:=aCU c) (P:=fun r=>CO (B+14) r.1) ?_
 have tl: ∀{c':aB},CO (B+6) c'→HD 60 c'=true∧CO (B+14) (eT 60 c').1∧jV 9 (eT 60 c').1=true∧jV 5 (bF 9 (eT 60 c').1).1=true∧jV 2 (bF 5 (bF 9 (eT 60 c').1).1).1=true∧CO (B+14) (bF 2 (bF 5 (bF 9 (eT 60 c').1).1).1).1:=fun{c'} hc=>by
  obtain⟨a1,a2⟩:=mT 60 hc (by omega)
  obtain⟨b1,b2,-⟩:=bY 9 a2 (by omega)
  obtain⟨e1,e2,-⟩:=bY 5 b2 (by omega)
  obtain⟨f1,f2,-⟩:=bY 2 e2 (by omega)
  exact⟨a1,a2.mono (by omega),b1,e1,f1,f2.mono (by omega)⟩
 obtain⟨a1,a2,-⟩:=bY 8 h (by omega)
 obtain⟨b1,b2,-⟩:=bY 4 a2 (by omega)
 obtain⟨c1,c2⟩:=iT [0,1,2,20,100,200,384,448,65535,65534] b2 (by omega) (by decide)
 obtain⟨d1,d2⟩:=iT [0,1,2,20,100,200,384,448,65535,65534] a2 (by omega) (by decide)
 simp only[oB,uU]at c1 c2 d1 d2;obtain⟨p1,p2,p3,p4,p5,p6⟩:=tl (c2.mono (by omega))
 obtain⟨q1,q2,q3,q4,q5,q6⟩:=tl (b2.mono (by omega))
 obtain⟨r1,r2,r3,r4,r5,r6⟩:=tl (d2.mono (by omega))
 obtain⟨s1,s2,s3,s4,s5,s6⟩:=tl (a2.mono (by omega))
 unfold aCU;simp only[aF,aQ,aC,PT,xV,PS,xU,tP,CZ,tO,PR,xT,tN,(X3 _).1,a1,b1,c1,d1,p1,p3,p4,p5,q1,q3,q4,q5,r1,r3,r4,r5,s1,s3,s4,s5,Bool.and_true,true_and];refine⟨fun _=>⟨fun _=>⟨fun _=>p6,fun _=>p2⟩,fun _=>⟨fun _=>q6,fun _=>q2⟩⟩,fun _=>⟨fun _=>⟨fun _=>r6,fun _=>r2⟩,fun _=>⟨fun _=>s6,fun _=>s2⟩⟩⟩
def aU8(B:Int)(n:Nat)(c:aB)(r:Option V185_0):Prop:=match r with
 |none=>CO (B+360) c
 |some w=> ∃m,m<n∧(CO (B+60*(6-m)) w.b0∧w.s3=6-(m:Int)∧m≤6)
theorem aIV(c:aB)(x:bD){B:Int}(h:CO B c)(hB:B<1000000000000000000):P5 (V185_0.mk c x 0)=true∧CO (B+360) (P4 (V185_0.mk c x 0)).b0:=by
 unfold P5 P4;refine fA (Post:=fun w:V185_0=>CO (B+360) w.b0) (cU (fun(m:Nat) (v:V185_0)=>CO (B+60*(6-m)) v.b0∧v.s3=6-(m:Int)∧m≤6) _ ?_ 2097152 6 _ ⟨h.mono (by omega),rfl,by omega⟩ (by omega))
 rintro n v ⟨h,h2,h3⟩
 have hp:CO (B+360) v.b0:=h.mono (by omega)
 have key:(pO v).Sat (aU8 B n v.b0):=by
  have stp:aU8 B n v.b0 none:=hp;by_cases hn:n=0
  ·have e:ltI v.s3 6=false:=by rw[jN];omega
   unfold pO;simp only[aF,aQ,aC,e,true_and,Bool.false_eq_true,false_implies];exact fun _=>stp
  have nxt: ∀c',CO (B+60*(6-n)+60) c'→aU8 B n v.b0 (some (V185_0.mk c' v.b1 (aR v.s3 1))):=fun c' hc=>⟨n-1,by omega,hc.mono (by omega),by show aR v.s3 1=_;rw[bK (by omega)];omega,by omega⟩
  obtain⟨a1,a2,-⟩:=bY 19 h (by omega)
  obtain⟨b1,b2,-⟩:=bY 2 a2 (by omega)
  obtain⟨c1,c2,-⟩:=bY 4 b2 (by omega)
  obtain⟨o1,o2⟩:=yX c2 (by omega)
  obtain⟨d1,d2,-⟩:=bY 4 o2 (by omega)
  obtain⟨e1,e2,-⟩:=bY 2 o2 (by omega)
  obtain⟨f1,f2,-⟩:=bY 7 e2 (by omega)
  obtain⟨g1,g2,-⟩:=bY 4 f2 (by omega)
  obtain⟨i1,i2,-⟩:=bY 8 e2 (by omega)
  obtain⟨j1,j2⟩:=iT [2,4,6,8,65526,65530,0,3] i2 (by omega) (by decide)
  obtain⟨l1,l2⟩:=iT [0,1,2,2,3,4,5,6] o2 (by omega) (by decide)
  simp only[oB,uU]at j1 j2 l1 l2;obtain⟨m1,m2,-⟩:=bY 4 l2 (by omega)
  obtain⟨n1,n2⟩:=iT [0,256,512,1023] m2 (by omega) (by decide)
  obtain⟨q1,q2⟩:=iT [0,256,512,1023] l2 (by omega) (by decide)
  obtain⟨r1,r2⟩:=iT [0,256,480,768,31] o2 (by omega) (by decide)
  simp only[oB,uU]at n1 n2 q1 q2 r1 r2;obtain⟨s1,s2⟩:=mT 2 r2 (by omega)
  obtain⟨t1,t2,-⟩:=bY 4 s2 (by omega)
  have o2':CO (B+60*(6-n)+60) _:=o2.mono (by omega)
  have d2':CO (B+60*(6-n)+60) _:=d2.mono (by omega)
  have e2':CO (B+60*(6-n)+60) _:=e2.mono (by omega)
  have g2':CO (B+60*(6-n)+60) _:=g2.mono (by omega)
  have j2':CO (B+60*(6-n)+60) _:=j2.mono (by omega)
  have l2':CO (B+60*(6-n)+60) _:=l2.mono (by omega)
  have m2':CO (B+60*(6-n)+60) _:=m2.mono (by omega)
  have n2':CO (B+60*(6-n)+60) _:=n2.mono (by omega)
  have q2':CO (B+60*(6-n)+60) _:=q2.mono (by omega)
  have s2':CO (B+60*(6-n)+60) _:=s2.mono (by omega)
  have t2':CO (B+60*(6-n)+60) _:=t2.mono (by omega)
  unfold pO;simp only[aF,aQ,aC,jD,pN,pM,jC,hC,fS,pL,pK,fR,pJ,pI,fQ,dO,bS,fP,pH,pG,jB,pF,pE,gZ,pD,C1,iK,nK,bP,nJ,gR,eZ,tR,tQ,bC,dX,jT,cQ,jU,aN,cC,aIU,(TH _).1,a1,b1,c1,o1,d1,e1,f1,g1,i1,j1,l1,m1,n1,q1,r1,s1,t1,Bool.and_true,true_and]
  repeat' first
   |with_reducible exact stp
   |(with_reducible refine nxt _ ?_;with_reducible assumption)
   |intro _
   |with_reducible constructor
 exact key
def a3W(B:Int)(r:aB×bD):Prop:=CO (B+420) r.1
theorem aQO{B:Int}{c:aB}(h:CO B c)(hB:B<1000000000000000000):aKX c=true∧CO (B+420) (AC c).1:=by
 refine aL (t:=ZK c) (P:=fun r=>CO (B+420) r.1) ?_
 obtain⟨w1,w2⟩:=aIV c ⟨0,0,0,⟨0,0,0⟩,0⟩ h hB;obtain⟨a1,a2,-⟩:=bY 19 w2 (by omega)
 obtain⟨b1,b2,-⟩:=bY 2 a2 (by omega)
 obtain⟨c1,c2,-⟩:=bY 4 b2 (by omega)
 obtain⟨o1,o2⟩:=yX c2 (by omega)
 obtain⟨d1,d2,-⟩:=bY 4 o2 (by omega)
 obtain⟨e1,e2,-⟩:=bY 2 o2 (by omega)
 obtain⟨f1,f2,-⟩:=bY 7 e2 (by omega)
 obtain⟨g1,g2,-⟩:=bY 4 f2 (by omega)
 obtain⟨i1,i2,-⟩:=bY 8 e2 (by omega)
 obtain⟨j1,j2⟩:=iT [2,4,6,8,65526,65530,0,3] i2 (by omega) (by decide)
 obtain⟨l1,l2⟩:=iT [0,1,2,2,3,4,5,6] o2 (by omega) (by decide)
 simp only[oB,uU]at j1 j2 l1 l2;obtain⟨m1,m2,-⟩:=bY 4 l2 (by omega)
 obtain⟨n1,n2⟩:=iT [0,256,512,1023] m2 (by omega) (by decide)
 obtain⟨q1,q2⟩:=iT [0,256,512,1023] l2 (by omega) (by decide)
 obtain⟨r1,r2⟩:=iT [0,256,480,768,31] o2 (by omega) (by decide)
 simp only[oB,uU]at n1 n2 q1 q2 r1 r2;obtain⟨s1,s2⟩:=mT 2 r2 (by omega)
 obtain⟨t1,t2,-⟩:=bY 4 s2 (by omega)
 have o2':CO (B+420) _:=o2.mono (by omega)
 have d2':CO (B+420) _:=d2.mono (by omega)
 have e2':CO (B+420) _:=e2.mono (by omega)
 have g2':CO (B+420) _:=g2.mono (by omega)
 have j2':CO (B+420) _:=j2.mono (by omega)
 have l2':CO (B+420) _:=l2.mono (by omega)
 have m2':CO (B+420) _:=m2.mono (by omega)
 have n2':CO (B+420) _:=n2.mono (by omega)
 have q2':CO (B+420) _:=q2.mono (by omega)
 have s2':CO (B+420) _:=s2.mono (by omega)
 have t2':CO (B+420) _:=t2.mono (by omega)
 have w2':CO (B+420) _:=w2.mono (by omega)
 have nxt: ∀c' x,CO (B+420) c'→a3W B (c',x):=fun c' x h=>h
 have key:(ZK c).Sat (a3W B):=by
  unfold ZK;simp only[aF,aQ,aC,IS,IR,IQ,wF,nL,wE,wD,cZ,wC,IP,C4,lY,P7,IN,C3,P6,dF,e9,dE,dX,jT,cQ,jU,aN,cC,aIU,(TH _).1,w1,a1,b1,c1,o1,d1,e1,f1,g1,i1,j1,l1,m1,n1,q1,r1,s1,t1,Bool.and_true,true_and]
  repeat' first
   |(with_reducible refine nxt _ _ ?_;with_reducible assumption)
   |intro _
   |with_reducible constructor
 exact key
theorem a3X{B:Int}{c:aB}(h:CO B c)(hB:B<1000000000000000000):aC6 c=true∧CO (B+500) (P9 c).1:=by
 refine aL (t:=aC5 c) (P:=fun r=>CO (B+500) r.1) ?_
 obtain⟨a1,a2⟩:=aQO h hB;obtain⟨b1,b2⟩:=mT 20 a2 (by omega)
 obtain⟨c1,c2,-⟩:=bY 22 b2 (by omega)
 obtain⟨d1,d2,-⟩:=bY 4 c2 (by omega)
 obtain⟨e1,e2,-⟩:=bY 5 d2 (by omega)
 obtain⟨f1,f2⟩:=yX e2 (by omega)
 obtain⟨g1,g2,-⟩:=bY 9 f2 (by omega)
 unfold aC5;simp only[aF,aQ,aC,P8,xX,xW,a1,b1,c1,d1,e1,f1,g1,Bool.and_true,true_and];exact⟨fun _=>g2.mono (by omega),fun _=>b2.mono (by omega)⟩
theorem aOQ{x:List Row}(h:bytesOk x=true):CO 0 (aB.mk x 0 0):=⟨h,Int.le_refl 0,Int.le_refl 0⟩
end Go.Proofs.YtdipcnijfkdnfaaGreatFrames

namespace Go.Proofs.YtdipcnijfkdnfaaGreatFrames
open Go Go.Zq
set_option maxHeartbeats 4000000
set_option maxRecDepth 100000
theorem aU9{l:List bD}{i:Nat}(h:i<l.length):dJ [.int .i64, .int .i64, .int .i64, .int .i64, .int .i64, .int .i64, .int .i64] (l.map bD.row) (i:Int)=true∧bD.at (l.map bD.row) i 0=l[i]:=by
 have e:(l.map bD.row).getD i []=bD.row l[i]:=by simp[List.getD_eq_getElem?_getD,h]
 constructor
 ·simp only[dJ,dC,Int.toNat_natCast,e,List.length_map];have:Nat.blt i l.length=true:=by simpa using h
  rw[this];rfl
 ·unfold bD.at aU kF;rw[e];rfl
theorem a3Y{n:Nat}(h:n≤2000):iE (kL (n+1) 56) 140737488355328=true∧iE (n+1) 140737488355328=true:=by
 simp only[LO,LP];omega
def IL(n:Nat)(r:List Row):Prop:= ∃l:List bD,r=l.map bD.row∧l.length≤n
theorem X8(n:Nat)(c:aB){B:Int}(h:CO B c)(hB:B+420*n<500000000000000000)(hn:n≤50):IW (V202_0.mk c [] (n:Int))=true∧(CO (B+420*n) (C6 (V202_0.mk c [] (n:Int))).b0∧IL n (C6 (V202_0.mk c [] (n:Int))).s3):=by
 unfold IW C6;refine fA (Post:=fun w:V202_0=>CO (B+420*n) w.b0∧IL n w.s3) (cU (fun(m:Nat) (v:V202_0)=>CO (B+420*(n-m)) v.b0∧v.s4=(m:Int)∧m≤n∧ ∃l:List bD,v.s3=l.map bD.row∧l.length+m=n) _ ?_ 2097152 n _ ⟨h.mono (by omega),rfl,by omega,[],rfl,by simp⟩ (by omega))
 rintro m v ⟨h1,h2,h3,l,h4,h5⟩
 obtain⟨a1,a2⟩:=aQO h1 (by omega)
 obtain⟨r1,r2⟩:=a3Y (n:=l.length) (by omega)
 unfold xY;simp only[aF,aQ,aC,tS,h2,h4,a1,r1,r2,List.length_map,Nat.zero_add,aN,cC,rH,N1,Bool.and_true,true_and];refine⟨fun hm=>⟨m-1,by omega,a2.mono (by omega),?_,by omega,l++[(AC v.b0).2],by simp,by simp;omega⟩,fun hm=>⟨h1.mono (by omega),l,rfl,by omega⟩⟩
 rw[rI (by omega)];omega
theorem aIW{n:Nat}{r:List Row}(h:IL n r)(x:bD)(k:Nat):IL n (r.set k (bD.row x)):=by
 obtain⟨l,rfl,h1⟩:=h;exact⟨l.set k x,by rw[List.map_set],by simpa using h1⟩
theorem aOR{n:Nat}{r:List Row}(h:IL n r)(h0:0<r.length):gD (gE r 0) 7=true:=by
 obtain⟨l,rfl,h1⟩:=h;cases l with
 |nil=>simp at h0
 |cons a l=>rfl
theorem aIX{α:Type}(b:Bool)(x:α):(bif b then x else x)=x:=by cases b<;>rfl
theorem HQ{n:Nat}{B:Int}{c:aB}{r:List Row}(h1:CO B c)(h2:IL n r)(hB:B<900000000000000000):HD 20 c=true∧CO (B+2) (aB.mk (bif (kK (aX r) 0)then(eT 20 c).1.fcode else c.fcode) (bif (kK (aX r) 0)then(eT 20 c).1.fat else c.fat) (bif (kK (aX r) 0)then(eT 20 c).1.fseed else c.fseed))∧aC6 (aB.mk (bif (kK (aX r) 0)then(eT 20 c).1.fcode else c.fcode) (bif (kK (aX r) 0)then(eT 20 c).1.fat else c.fat) (bif (kK (aX r) 0)then(eT 20 c).1.fseed else c.fseed))=true∧CO (B+502) (P9 (aB.mk (bif (kK (aX r) 0)then(eT 20 c).1.fcode else c.fcode) (bif (kK (aX r) 0)then(eT 20 c).1.fat else c.fat) (bif (kK (aX r) 0)then(eT 20 c).1.fseed else c.fseed))).1:=by
 obtain⟨a1,a2⟩:=mT 20 h1 (by omega)
 have a3:CO (B+2) (aB.mk (bif (kK (aX r) 0)then(eT 20 c).1.fcode else c.fcode) (bif (kK (aX r) 0)then(eT 20 c).1.fat else c.fat) (bif (kK (aX r) 0)then(eT 20 c).1.fseed else c.fseed)):=a3V a2 (h1.mono (by omega))
 obtain⟨b1,b2⟩:=a3X a3 (by omega)
 exact⟨a1,a3,b1,b2.mono (by omega)⟩
theorem aVA{c:aB}{B:Int}(h:CO B c)(hB:B<400000000000000000):aRO c=true∧(CO (B+30000) (AD c).1∧IL 50 (AD c).2):=by
 refine aL (t:=aC7 c) (P:=fun r=>CO (B+30000) r.1∧IL 50 r.2) ?_
 obtain⟨a1,a2,a3,a4,-⟩:=bY 8 h (by omega)
 have a4:=a4 (by omega)
 obtain⟨b1,b2⟩:=mT 20 a2 (by omega)
 obtain⟨c1,c2,c3,c4,-⟩:=bY 2 b2 (by omega)
 have c4:=c4 (by omega)
 obtain⟨m,hm⟩: ∃m:Nat,(bF 8 c).2=(m:Int):=⟨_,(Int.toNat_of_nonneg a3).symm⟩;obtain⟨n,hn⟩: ∃n:Nat,aR 40 (bF 2 (eT 20 (bF 8 c).1).1).2=(n:Int):=⟨(40+(bF 2 (eT 20 (bF 8 c).1).1).2).toNat,by rw[bK (by omega)];omega⟩
 have hn':n≤41:=by rw[bK (by omega)]at hn;omega
 obtain⟨d1,d2,d3⟩:=X8 n _ c2 (by omega) (by omega)
 obtain⟨e1,e2,e3⟩:=X8 m _ b2 (by omega) (by omega)
 have d3:IL 50 _:=⟨d3.choose,d3.choose_spec.1,by have:=d3.choose_spec.2;omega⟩
 have e3:IL 50 _:=⟨e3.choose,e3.choose_spec.1,by have:=e3.choose_spec.2;omega⟩
 obtain⟨f1,f2,f3,f4⟩:=HQ d2 d3 (by omega)
 obtain⟨i1,i2,i3,i4⟩:=HQ e2 e3 (by omega)
 have tk: ∀r:List Row,List.take r.length r=r:=fun r=>List.take_length
 have z: ∀n:Nat,iE (0+n) n=true:=fun n=>by simp
 have pos: ∀r:List Row,∀q:Bool,(bif kK (aX r) 0 then q else false)=true→ltI 0 (aX r)=true∧blt 0 r.length=true∧(IL 50 r→gD (gE r 0) 7=true):=fun r q hq=>by
  cases hg:kK (aX r) 0
  ·rw[hg]at hq;simp at hq
  ·rw[rH,bG]at hg;exact⟨by simp;omega,by simp;omega,fun h=>aOR h (by omega)⟩
 unfold aC7;simp only[aF,aQ,aC,I0,IZ,IY,IX,rF,C9,dH,QD,QC,QB,QA,xZ,C8,dG,C7,a1,b1,c1,hm,hn,d1,e1,f1,i1,f3,i3,z,aIX,List.length_set,tk,aN,cC,Bool.and_true,Bool.true_or,true_and];have tks: ∀(r:List Row)(x:Row),List.take r.length (r.set 0 x)=r.set 0 x:=fun r x=>List.take_of_length_le (by simp)
 simp only[tks,List.length_set,aN,cC,Bool.and_true,true_and];refine⟨fun _=>⟨fun hq=>?_,fun _=>⟨f2.mono (by omega),d3⟩⟩,fun _=>⟨fun hq=>?_,fun _=>⟨i2.mono (by omega),e3⟩⟩⟩
 ·obtain⟨p1,p2,p3⟩:=pos _ _ hq;rw[p1,p2,p3 d3];exact⟨rfl,f4.mono (by omega),aIW d3 _ 0⟩
 ·obtain⟨p1,p2,p3⟩:=pos _ _ hq;rw[p1,p2,p3 e3];exact⟨rfl,i4.mono (by omega),aIW e3 _ 0⟩
theorem aVB(x:bD):aRQ x=true∧ ∃zs:List Int,aRP x=ri zs∧zs.length≤2:=by
 refine aL (t:=aC8 x) (P:=fun r=> ∃zs:List Int,r=ri zs∧zs.length≤2) ?_
 unfold aC8;simp only[aF,aQ,aC,(X3 _).1,show leI 0 11=true from rfl,show leI 0 10=true from rfl,show leI 0 8=true from rfl,show leI 0 5=true from rfl,show leI 0 3=true from rfl,aN,cC,Bool.and_true,true_and]
 exact⟨fun _=>⟨[_,_],rfl,by simp⟩,fun _=>⟨[_],rfl,by simp⟩⟩
def EL(n:Nat)(r:List Row):Prop:= ∃zs:List Int,r=ri zs∧zs.length≤n
theorem aOS(l:List bD)(hl:l.length≤50)(x:List Row):QF (V201_0.mk x [] (l.map bD.row) (aX (l.map bD.row)) 0)=true∧EL 200 (QE (V201_0.mk x [] (l.map bD.row) (aX (l.map bD.row)) 0)).s4:=by
 unfold QF QE;refine fA (Post:=fun w:V201_0=>EL 200 w.s4) (cU (fun(m:Nat) (v:V201_0)=> ∃i:Nat,v.s7=l.map bD.row∧v.s8=(l.length:Int)∧v.s9=(i:Int)∧i+m=l.length∧EL (2*i) v.s4) _ ?_ 2097152 l.length _ ⟨0,rfl,by simp,rfl,by omega,[],rfl,by simp⟩ (by omega))
 rintro m v ⟨i,h1,h2,h3,h4,zs,h5,h6⟩
 have done:EL 200 v.s4:=⟨zs,h5,by omega⟩
 unfold x5;simp only[aF,aQ,aC,tU,tT,kM,h1,h2,h3,cK,jN,true_and,Int.toNat_natCast,(TH _).1,Bool.and_true];refine⟨fun hlt=>?_,fun _=>done⟩
 have hi:i<l.length:=by omega
 obtain⟨p1,p2⟩:=aU9 hi;obtain⟨q1,ws,q2,q3⟩:=aVB l[i];have r1:iE (kL (zs.length+ws.length) 8) 140737488355328=true∧iE (zs.length+ws.length) 140737488355328=true:=by simp only[LO,LP];omega
 rw[p1,p2,q1,q2,h5];simp only[bE,r1,aN,cC,Nat.zero_add,Bool.and_true,true_and];refine⟨fun _=>⟨zs,rfl,by omega⟩,fun _=>⟨m-1,by omega,i+1,?_,by omega,zs++ws,ZF.symm,by rw[List.length_append];omega⟩⟩
 rw[bK (by omega)];omega
theorem bC5{r:List Row}(h:IL 50 r):aRR r=true∧EL 200 (QH r).1:=by
 obtain⟨l,rfl,hl⟩:=h;refine aL (t:=aC9 (l.map bD.row)) (P:=fun q=>EL 200 q.1) ?_
 obtain⟨a1,a2⟩:=aOS l hl (l.map bD.row);have e0:EL 200 []:=⟨[],rfl,by simp⟩
 unfold aC9;simp only[aF,aQ,aC,QG,x6,a1,aN,cC,Bool.and_true,true_and];exact⟨fun _=>e0,fun _=>⟨fun _=>e0,fun _=>a2⟩⟩
end Go.Proofs.YtdipcnijfkdnfaaGreatFrames

namespace Go.Proofs.YtdipcnijfkdnfaaGreatFrames
open Go Go.Zq
set_option maxHeartbeats 4000000
set_option maxRecDepth 100000
theorem aIY(c:aB)(a:Int){B:Int}(h:CO B c)(hB:B<300000000000000000):QI (V149_0.mk c a (ri (List.replicate 384 0)) 384 0)=true∧(CO (B+2000) (DC (V149_0.mk c a (ri (List.replicate 384 0)) 384 0)).b0∧(DC (V149_0.mk c a (ri (List.replicate 384 0)) 384 0)).s4=a∧ ∃zs:List Int,(DC (V149_0.mk c a (ri (List.replicate 384 0)) 384 0)).s5=ri zs∧zs.length=384):=by
 unfold QI DC;refine fA (Post:=fun w:V149_0=>CO (B+2000) w.b0∧w.s4=a∧ ∃zs:List Int,w.s5=ri zs∧zs.length=384) (cU (fun(m:Nat) (v:V149_0)=>CO (B+4*(384-m)) v.b0∧v.s4=a∧v.s16=384∧ ∃i:Nat,v.s17=(i:Int)∧i+m=384∧ ∃zs:List Int,v.s5=ri zs∧zs.length=384) _ ?_ 2097152 384 _ ⟨h.mono (by omega),rfl,rfl,0,rfl,by omega,_,rfl,by simp⟩ (by omega))
 rintro m v ⟨h1,h2,h3,i,h4,h5,zs,h6,h7⟩
 obtain⟨a1,a2⟩:=mT 8 h1 (by omega)
 obtain⟨b1,b2,-⟩:=bY 256 a2 (by omega)
 have e1:aR (i:Int) 1=((i+1:Nat):Int):=by rw[bK (by omega)];omega
 unfold x7;simp only[aF,aQ,aC,tX,tW,h2,h3,h4,h6,e1,a1,b1,bG,bE,h7,fV,List.length_set,Nat.zero_add,Int.toNat_natCast,cK,jN,aN,cC,Bool.and_true,true_and];refine⟨fun hi=>⟨fun _=>?_,fun _=>⟨m-1,by omega,a2.mono (by omega),i+1,rfl,by omega,zs,rfl,h7⟩⟩,fun _=>⟨h1.mono (by omega),zs,rfl,h7⟩⟩
 have hi':i<zs.length:=by omega
 have l0:leI 0 (i:Int)=true:=by simp
 have l1:ltI (i:Int) ((384:Nat):Int)=true:=by rw[cK];omega
 have l2:blt i 384=true:=by simp;omega
 have l3:gD (gE (ri zs) i) 1=true:=by rw[lP hi'];rfl
 rw[l0,l1,l2,l3];refine⟨rfl,m-1,by omega,b2.mono (by omega),i+1,rfl,by omega,_,rfl,by rw[List.length_set];exact h7⟩
theorem aIZ(c:aB)(a:Int)(ys ws:List Int){B:Int}(h:CO B c)(ha:0≤a)(ha1:a≤100)(hy:ys.length=384)(hw:ws.length≤300):QJ (V149_1.mk c a (ri ys) (ri ws) (aX (ri ws)) 0)=true∧(CO B (DE (V149_1.mk c a (ri ys) (ri ws) (aX (ri ws)) 0)).b0∧(DE (V149_1.mk c a (ri ys) (ri ws) (aX (ri ws)) 0)).s4=a∧ ∃zs:List Int,(DE (V149_1.mk c a (ri ys) (ri ws) (aX (ri ws)) 0)).s5=ri zs∧zs.length=384):=by
 unfold QJ DE;refine fA (Post:=fun w:V149_1=>CO B w.b0∧w.s4=a∧ ∃zs:List Int,w.s5=ri zs∧zs.length=384) (cU (fun(m:Nat) (v:V149_1)=>CO B v.b0∧v.s4=a∧v.s34=ri ws∧v.s35=(ws.length:Int)∧ ∃i:Nat,v.s36=(i:Int)∧i+m=ws.length∧ ∃zs:List Int,v.s5=ri zs∧zs.length=384) _ ?_ 2097152 ws.length _ ⟨h,rfl,rfl,by simp[bE],0,rfl,by omega,ys,rfl,hy⟩ (by omega))
 rintro m v ⟨h1,h2,h8,h3,i,h4,h5,zs,h6,h7⟩
 obtain⟨an,rfl⟩:=Int.eq_ofNat_of_zero_le ha;have e1:aR (i:Int) 1=((i+1:Nat):Int):=by rw[bK (by omega)];omega
 have e2:dD 2 (i:Int)=((2*i:Nat):Int):=by rw[iC (by omega)];omega
 have e3:aR (an:Int) ((2*i:Nat):Int)=((an+2*i:Nat):Int):=by rw[bK (by omega)];omega
 have e4:aR ((an+2*i:Nat):Int) 1=((an+2*i+1:Nat):Int):=by rw[bK (by omega)];omega
 unfold x8;simp only[aF,aQ,aC,kN,uA,tZ,nO,nN,nM,tY,h2,h3,h4,h6,h8,e1,e2,e3,e4,bG,bE,h7,fV,List.length_set,Nat.zero_add,Int.toNat_natCast,cK,jN,aN,cC,Bool.and_true,true_and];refine⟨fun hi=>?_,fun _=>⟨h1,zs,rfl,h7⟩⟩
 have hi':i<ws.length:=by omega
 have l0: ∀n:Nat,leI 0 (n:Int)=true:=fun n=>by simp
 have l1:ltI (i:Int) (ws.length:Int)=true:=by rw[cK];omega
 have l2:dC [.int .i64] (ri ws) i 0=true:=wU ⟨ws,rfl⟩ (by rw[bE];exact hi')
 rw[l0,l1,l2];refine⟨rfl,by simp,fun hb=>?_,fun _=>⟨m-1,by omega,h1,i+1,rfl,by omega,zs,rfl,h7⟩⟩
 have hb':an+2*i+1<zs.length:=by omega
 have l4:ltI ((an+2*i:Nat):Int) ((384:Nat):Int)=true:=by rw[cK];omega
 have l5:blt (an+2*i) 384=true:=by simp;omega
 have l6:gD (gE (ri zs) (an+2*i)) 1=true:=by rw[lP (by omega)];rfl
 have l7:blt (an+2*i+1) 384=true:=by simp;omega
 have l8:ltI ((an+2*i+1:Nat):Int) ((384:Nat):Int)=true:=by rw[cK];omega
 have l9: ∀z,gD (gE (ri (zs.set (an+2*i) z)) (an+2*i+1)) 1=true:=fun z=>by rw[lP (by rw[List.length_set];omega)];rfl
 have l10:leI 0 8=true:=rfl;simp only[l0,l1,l2,l4,l5,l6,l7,l8,l9,l10,Bool.and_true,true_and];exact⟨m-1,by omega,h1,i+1,rfl,by omega,_,rfl,by rw[List.length_set,List.length_set];exact h7⟩
theorem aOT{c:aB}{B:Int}(h:CO B c)(hB:B<200000000000000000):aRS c=true∧(CO (B+40000) (kT c).1∧(∃zs:List Int,(kT c).2.1=ri zs∧zs.length=384)∧0≤(kT c).2.2∧(kT c).2.2≤60):=by
 refine aL (t:=aDA c) (P:=fun r=>CO (B+40000) r.1∧(∃zs:List Int,r.2.1=ri zs∧zs.length=384)∧0≤r.2.2∧r.2.2≤60) ?_
 obtain⟨a1,a2,a3,a4,-⟩:=bY 30 h (by omega)
 have a4:=a4 (by omega)
 have e0:List.replicate 384 (aH 0)=ri (List.replicate 384 0):=by simp[ri,List.map_replicate,aH]
 have e1:dD 2 (bF 30 c).2=2*(bF 30 c).2:=iC (by omega)
 obtain⟨b1,b2,b3,zs,b4,b5⟩:=aIY (bF 30 c).1 (2*(bF 30 c).2) a2 (by omega)
 obtain⟨c1,c2,c3⟩:=aVA b2 (by omega)
 obtain⟨d1,ws,d2,d3⟩:=bC5 c3;obtain⟨f1,f2,f3,ys,f4,f5⟩:=aIZ _ (2*(bF 30 c).2) zs ws c2 (by omega) (by omega) b5 (by omega)
 unfold aDA;simp only[aF,aQ,aC,QK,DG,DF,I9,gF,a1,e0,e1,b1,b3,b4,c1,d1,d2,f1,f3,f4,aN,cC,Bool.and_true,true_and];exact⟨by simp,f2.mono (by omega),⟨ys,rfl,f5⟩,by omega,by omega⟩
end Go.Proofs.YtdipcnijfkdnfaaGreatFrames

namespace Go.Proofs.YtdipcnijfkdnfaaGreatFrames
open Go Go.Zq
set_option maxHeartbeats 4000000
set_option maxRecDepth 100000
theorem FK{B t:Int}{c:aB}(r:List Int)(h1:CO B c)(h2:B<2500000000000000000)(h3:1≤r.length)(h4:dP t r=true):FY (ri r) c=true∧CO (B+2) (wB (ri r) c).1∧0≤(wB (ri r) c).2∧(wB (ri r) c).2≤t:=by
 obtain⟨a,b,j,c1,c2⟩:=rJ (r:=ri r) ⟨r,rfl⟩ (by rw[bE];exact h3) h1 (by omega)
 rw[bE]at c1;rw[eO c1]at c2;have:=bA.1 (List.all_eq_true.1 h4 _ (List.getElem_mem c1));rw[c2];exact⟨a,b,this⟩
def r0:RM:=⟨[0,0,0,0],[0,0,0,0],0,0,0,7,true,false⟩
theorem aI0:k94=true∧OB=r0.g:=by
 refine aL (t:=T94) (P:=fun q=>q=r0.g) ?_
 unfold T94;simp only[aF,aC,aN,cC,Bool.and_true,true_and];rfl
theorem Z8(c:aB)(b1:aI){B:Int}(h:CO B c)(hB:B<300000000000000000):QM (V150_0.mk c b1 r0.g 0)=true∧(CO (B+20) (JC (V150_0.mk c b1 r0.g 0)).b0∧ ∃ds az:List Int,(JC (V150_0.mk c b1 r0.g 0)).b2=RM.g ⟨ds,az,0,0,0,7,true,false⟩∧ds.length=4∧az.length=4∧dP 65535 ds=true∧dP 65535 az=true):=by
 unfold QM JC;refine fA (Post:=fun w:V150_0=>CO (B+20) w.b0∧ ∃ds az:List Int,w.b2=RM.g ⟨ds,az,0,0,0,7,true,false⟩∧ds.length=4∧az.length=4∧dP 65535 ds=true∧dP 65535 az=true) (cU (fun(m:Nat) (v:V150_0)=>CO (B+4*(4-m)) v.b0∧ ∃i:Nat,v.s4=(i:Int)∧i+m=4∧ ∃ds az:List Int,v.b2=RM.g ⟨ds,az,0,0,0,7,true,false⟩∧ds.length=4∧az.length=4∧dP 65535 ds=true∧dP 65535 az=true) _ ?_ 2097152 4 _ ⟨h.mono (by omega),0,rfl,by omega,_,_,rfl,rfl,rfl,by decide,by decide⟩ (by omega))
 rintro m v ⟨h1,i,h4,h5,ds,az,h6,h7,h8,h9,h10⟩
 obtain⟨a1,a2,a3,a4⟩:=FK [0,1,2,5,128,255,32768,65535] h1 (by omega) (by decide) (t:=65535) (by decide)
 obtain⟨b1,b2,b3,b4⟩:=FK [0,2,20,40,100,300,301,384,448,500,65534] a2 (by omega) (by decide) (t:=65535) (by decide)
 simp only[oB,uU]at a1 a2 a3 a4 b1 b2 b3 b4;have e1:aR (i:Int) 1=((i+1:Nat):Int):=by rw[bK (by omega)];omega
 unfold x9;by_cases hi:i<4
 ·obtain⟨s1,s2,s3,s4,-⟩:=FE (l:=ds) (i:=(i:Int)) (v:=0) h7 (bA.2 (by omega))
  obtain⟨u1,u2,u3,u4,-⟩:=FE (l:=az) (i:=(i:Int)) (v:=0) h8 (bA.2 (by omega))
  rw[Nat.zero_add,Int.toNat_natCast]at s1 s2 u1 u2;have l0:ltI (i:Int) 4=true:=by rw[cK];omega
  simp only[aF,aQ,aC,pS,pR,pQ,nS,iL,nQ,uE,uD,kO,uC,uB,gS,nP,h4,h6,l0,e1,a1,b1,A6,FS,dL,kW,cV,dY,cL,cW,bG,bE,fV,List.length_set,Nat.zero_add,Int.toNat_natCast,s1,s2,s3,s4,u1,u2,u3,u4,aN,cC,dX,jT,cQ,jU,Bool.and_true,true_and,Bool.true_eq_false,false_implies,and_true,forall_const];exact⟨m-1,by omega,b2.mono (by omega),i+1,rfl,by omega,_,_,rfl,by rw[List.length_set];exact h7,by rw[List.length_set];exact h8,iS h9 a3 a4,iS h10 b3 b4⟩
 ·have l0:ltI (i:Int) 4=false:=by rw[jN];omega
  simp only[aF,aQ,aC,h4,l0,Bool.and_true,true_and,Bool.false_eq_true,false_implies,forall_const];exact⟨h1.mono (by omega),ds,az,h6,h7,h8,h9,h10⟩
theorem LV{d a:List Int}{x y z f mk:Int}{p q:Bool}(hd:d.length=4)(wd:dP 65536 d=true)(ha:a.length=4)(wa:dP 65535 a=true)(hx:0≤x∧x≤65535)(hy:0≤y∧y≤65535)(hz:0≤z∧z≤65535)(hf:0≤f∧f<32)(hm:0≤mk∧mk≤8): ∃r:RM,aI.mk (ri d) (ri (a.set 3 x)) y z f mk p q=r.g∧r.Ok 65536:=
 ⟨⟨d,a.set 3 x,y,z,f,mk,p,q⟩,rfl,by decide,by decide,hd,by rw[List.length_set];exact ha,wd,iS wa hx.1 hx.2,bA.2 hy,bA.2 hz,bA.2 ⟨hf.1,(by omega:f≤31)⟩,bA.2 ⟨hm.1,(by omega:mk≤65536-65528)⟩⟩
theorem aVC{c:aB}{B:Int}(h:CO B c)(hB:B<200000000000000000):aRT c=true∧(CO (B+60) (AE c).1∧ ∃r:RM,(AE c).2=r.g∧r.Ok 65536):=by
 refine aL (t:=aDC c) (P:=fun q=>CO (B+60) q.1∧ ∃r:RM,q.2=r.g∧r.Ok 65536) ?_
 obtain⟨n1,n2⟩:=aI0;obtain⟨a1,a2,ds,az,a3,a4,a5,a6,a7⟩:=Z8 c ⟨[],[],0,0,0,0,false,false⟩ h (by omega)
 rw[←n2]at a1 a2 a3;obtain⟨b1,b2,b3,b4⟩:=FK [200,202,380,65534,0,301] a2 (by omega) (by decide) (t:=65535) (by decide)
 obtain⟨c1,c2,c3,c4⟩:=FK [300,0,447] b2 (by omega) (by decide) (t:=65535) (by decide)
 obtain⟨d1,d2,d3,d4⟩:=FK [0,2,10,40,384,3,448] c2 (by omega) (by decide) (t:=65535) (by decide)
 simp only[oB,uU]at b1 b2 b3 b4 c1 c2 c3 c4 d1 d2 d3 d4;obtain⟨e1,e2,e3,e4,-⟩:=bY 32 d2 (by omega)
 have e4:=e4 (by omega)
 obtain⟨f1,f2,f3,f4,-⟩:=bY 8 e2 (by omega)
 have f4:=f4 (by omega)
 obtain⟨i1,i2⟩:=mT 3 f2 (by omega)
 obtain⟨j1,j2⟩:=mT 8 i2 (by omega)
 obtain⟨l1,l2,-⟩:=bY 60 j2 (by omega)
 obtain⟨s1,s2,s3,s4,-⟩:=FE (l:=ds) (i:=0) (v:=0) a4 (by decide)
 obtain⟨u1,u2,u3,u4,-⟩:=FE (l:=az) (i:=3) (v:=0) a5 (by decide)
 rw[Nat.zero_add]at s1 s2 u1 u2;have t0:Int.toNat 0=0:=rfl;rw[t0]at s1 s2;rw[aU4]at u1 u2;have wd:dP 65536 ds=true:=by
  unfold dP at a6⊢;rw[List.all_eq_true]at*;intro z hz;have:=bA.1 (a6 z hz);exact bA.2 (by omega)
 unfold aDC;simp only[aF,aQ,aC,JJ,JI,JH,JG,JF,JE,iX,nT,lZ,yB,QN,aDB,yA,uF,JD,cI,DI,n1,a1,a3,b1,c1,d1,e1,f1,i1,j1,l1,A6,FS,dL,kW,cV,dY,cL,cW,bG,bE,fV,List.length_set,s1,s2,s3,s4,u1,u2,u3,u4,aN,cC,dX,jT,cQ,jU,Bool.and_true,true_and];have ds4:(ds.set 0 65536).length=4:=by rw[List.length_set];exact a4
 have ds5:dP 65536 (ds.set 0 65536)=true:=iS wd (by decide) (by decide)
 have lz:=l2.mono (C:=B+60) (by omega)
 exact⟨fun _=>⟨lz,LV ds4 ds5 a5 a7 ⟨b3,b4⟩ ⟨c3,c4⟩ ⟨d3,d4⟩ ⟨e3,e4⟩ ⟨f3,by omega⟩⟩,fun _=>⟨fun _=>⟨lz,LV a4 wd a5 a7 ⟨b3,b4⟩ ⟨c3,c4⟩ ⟨d3,d4⟩ ⟨e3,e4⟩ ⟨by decide,by decide⟩⟩,fun _=>⟨lz,LV a4 wd a5 a7 ⟨b3,b4⟩ ⟨c3,c4⟩ ⟨d3,d4⟩ ⟨e3,e4⟩ ⟨f3,by omega⟩⟩⟩⟩
end Go.Proofs.YtdipcnijfkdnfaaGreatFrames

namespace Go.Proofs.YtdipcnijfkdnfaaGreatFrames
open Go Go.Zq
set_option maxHeartbeats 4000000
set_option maxRecDepth 100000
theorem aVD(x:Int):aL4 x=!cO x 0 255:=by
 simp[aL4,bT,aD8]
theorem aVE(x:Int):aL5 x=true:=by
 simp[aL5,bT,aD8]
theorem aI1(zs:List Int)(hl:zs.length<1000000):DO (V227v1_0.mk (ri zs) (aX (ri zs)) 0)=true∧0≤(pW (V227v1_0.mk (ri zs) (aX (ri zs)) 0)).s8∧(ltI (pW (V227v1_0.mk (ri zs) (aX (ri zs)) 0)).s8 (pW (V227v1_0.mk (ri zs) (aX (ri zs)) 0)).s7=!bM zs):=by
 unfold DO pW;refine fA (Post:=fun w=>0≤w.s8∧ltI w.s8 w.s7=!bM zs) (cU (fun n v=> ∃i:Nat,v=V227v1_0.mk (ri zs) (aX (ri zs)) i∧i≤zs.length∧n=zs.length-i∧ ∀j(hj:j<zs.length),j<i→cO zs[j] 0 255=true) _ ?_ 2097152 zs.length _ ⟨0,rfl,by omega,by omega,fun j _ h=>absurd h (by omega)⟩ (by omega))
 rintro n v ⟨i,rfl,hi,rfl,hall⟩
 unfold mR;simp only[aF,aQ,aC,bG,bE,cK,jN,true_and,Int.toNat_natCast];constructor
 ·intro h;have hi':i<zs.length:=by omega
  rw[gG hi',eO hi',aVE,aVD];refine⟨rfl,fun hz=>?_,fun hz=>?_⟩
  ·rw[FB hi' (by simpa using hz)]
   exact⟨by omega,by simpa [ltI]using h⟩
  ·refine⟨_,?_,i+1,?_,by omega,rfl,?_⟩
   ·omega
   ·rw[bK (by omega)];rfl
   ·intro j hj hji;by_cases e:j=i
    ·subst e;simpa using hz
    ·exact hall j hj (by omega)
 ·intro h;rw[FC fun j hj=>hall j hj (by omega)]
  exact⟨by omega,by simpa [ltI]using h⟩
theorem a3Z(zs:List Int)(hl:zs.length<1000000):DQ (ri zs)=true∧DP (ri zs)=!bM zs:=by
 obtain⟨h1,h2,h3⟩:=aI1 zs hl;have a:JV (ri zs)=true∧rE (JU (ri zs)) 0=!bM zs:=by
  unfold JV JU JT wJ;rw[bT,bT];simp only[mB,uS,gL,iB,uT,eN,h1,h3,Bool.true_and];cases bM zs
  ·exact⟨rfl,by simpa using h2⟩
  ·exact⟨rfl,rfl⟩
 have b:DQ (ri zs)=true∧DP (ri zs)=!bM zs:=by
  unfold DQ DP JW;rw[bT,bT];simp only[mB,gL,iB,eN,a.1,a.2,Bool.true_and,and_self]
 exact b
theorem a30(x:aA):aMC x=!accB x:=by
 simp[aMC,bT,aEH,(aQG x).2]
theorem a31(x:aA):aMD x=true:=by
 simp[aMD,bT,aEH,(aQG x).1]
theorem Z9(l:List aA)(hl:l.length<1000000):RF (V228_0.mk (l.map aA.row) (aX (l.map aA.row)) 0)=true∧0≤(DS (V228_0.mk (l.map aA.row) (aX (l.map aA.row)) 0)).s8∧(ltI (DS (V228_0.mk (l.map aA.row) (aX (l.map aA.row)) 0)).s8 (DS (V228_0.mk (l.map aA.row) (aX (l.map aA.row)) 0)).s7=!l.all accB):=by
 unfold RF DS;refine fA (Post:=fun w=>0≤w.s8∧ltI w.s8 w.s7=!l.all accB) (cU (fun n v=> ∃i:Nat,v=V228_0.mk (l.map aA.row) (aX (l.map aA.row)) i∧i≤l.length∧n=l.length-i∧ ∀j(hj:j<l.length),j<i→accB l[j]=true) _ ?_ 2097152 l.length _ ⟨0,rfl,by omega,by omega,fun j _ h=>absurd h (by omega)⟩ (by omega))
 rintro n v ⟨i,rfl,hi,rfl,hall⟩
 unfold yL;simp only[aF,aQ,aC,bG,List.length_map,cK,jN,true_and,Int.toNat_natCast];constructor
 ·intro h;have hi':i<l.length:=by omega
  obtain⟨p1,p2⟩:=LQ hi';rw[p1,p2,a31,a30];refine⟨rfl,fun hz=>?_,fun hz=>?_⟩
  ·rw[X1 hi' (by simpa using hz)]
   exact⟨by omega,by simpa [ltI]using h⟩
  ·refine⟨_,?_,i+1,?_,by omega,rfl,?_⟩
   ·omega
   ·rw[bK (by omega)];rfl
   ·intro j hj hji;by_cases e:j=i
    ·subst e;simpa using hz
    ·exact hall j hj (by omega)
 ·intro h;rw[X2 fun j hj=>hall j hj (by omega)]
  exact⟨by omega,by simpa [ltI]using h⟩
theorem aVF(l:List aA)(hl:l.length<1000000):aEK (l.map aA.row)=true∧aEJ (l.map aA.row)=!l.all accB:=by
 obtain⟨h1,h2,h3⟩:=Z9 l hl;have a:aML (l.map aA.row)=true∧rE (aMK (l.map aA.row)) 0=!l.all accB:=by
  unfold aML aMK aMJ J1;rw[bT,bT];simp only[mB,uS,gL,iB,uT,eN,h1,h3,Bool.true_and];cases l.all accB
  ·exact⟨rfl,by simpa using h2⟩
  ·exact⟨rfl,rfl⟩
 have b:aEK (l.map aA.row)=true∧aEJ (l.map aA.row)=!l.all accB:=by
  unfold aEK aEJ aMM;rw[bT,bT];simp only[mB,gL,iB,eN,a.1,a.2,Bool.true_and,and_self]
 exact b
def qE(zs:List Int)(l:List aA):Bool:=eqI (zs.length:Int) 512&&(leI (l.length:Int) 400&&(bM zs&&l.all accB))
theorem aI2(zs:List Int)(l:List aA)(hz:zs.length<1000000)(hl:l.length<1000000):ZS ⟨ri zs,l.map aA.row⟩=true∧RK ⟨ri zs,l.map aA.row⟩=qE zs l:=by
 refine aL (t:=aEM ⟨ri zs,l.map aA.row⟩) (P:=fun r=>r=qE zs l) ?_
 obtain⟨a1,a2⟩:=a3Z zs hz;obtain⟨b1,b2⟩:=aVF l hl;unfold aEM qE;simp only[aF,aC,RJ,RH,J2,Bool.cond_self,a1,a2,b1,b2,bG,bE,List.length_map,Bool.and_true,Bool.true_or,true_and];cases eqI (zs.length:Int) 512<;>cases leI (l.length:Int) 400<;>cases bM zs<;>cases l.all accB<;>rfl
def oE(xs:List Int)(i:Nat):List Int:=xs.take i++List.replicate (512-i) 0
def uX(A ys:List Int)(i:Nat):List Int:=A.take 384++(ys.take i++A.drop (384+i))
theorem wY{xs:List Int}{i:Nat}(h:i≤xs.length)(hx:xs.length≤384):(oE xs i).length=512:=by
 simp[oE];omega
theorem aAA{xs:List Int}{i:Nat}(h:i<xs.length)(hx:xs.length≤384):(oE xs i).set i xs[i]=oE xs (i+1):=by
 unfold oE;have e:512-i=(512-(i+1))+1:=by omega
 have l:(xs.take i).length=i:=by simp;omega
 rw[e,List.replicate_succ,List.set_append_right _ _ (by omega),l,Nat.sub_self,List.set_cons_zero,List.take_succ_eq_append_getElem h,List.append_assoc,List.singleton_append]
theorem aAB{A ys:List Int}{i:Nat}(hA:A.length=512)(h:i<ys.length)(hy:ys.length≤64):(uX A ys i).set (384+i) ys[i]=uX A ys (i+1):=by
 unfold uX;have l1:(A.take 384).length=384:=by simp;omega
 have l2:(ys.take i).length=i:=by simp;omega
 rw[List.set_append_right _ _ (by omega),l1,show 384+i-384=i from by omega,List.set_append_right _ _ (by omega),l2,Nat.sub_self,List.take_succ_eq_append_getElem h,List.drop_eq_getElem_cons (show 384+i<A.length by omega),List.set_cons_zero,show 384+(i+1)=384+i+1 from rfl,List.append_assoc,List.singleton_append]
theorem bC6(xs ys:List Int)(hx:xs.length≤384):aPS (V93_0.mk ⟨[],[]⟩ ⟨ri (oE xs 0),[]⟩ (ri ys) (ri xs) (xs.length:Int) 0)=true∧aPR (V93_0.mk ⟨[],[]⟩ ⟨ri (oE xs 0),[]⟩ (ri ys) (ri xs) (xs.length:Int) 0)=V93_0.mk ⟨[],[]⟩ ⟨ri (oE xs xs.length),[]⟩ (ri ys) (ri xs) (xs.length:Int) (xs.length:Int):=by
 refine wV (N:=zU) (fun i=>V93_0.mk ⟨[],[]⟩ ⟨ri (oE xs i),[]⟩ (ri ys) (ri xs) (xs.length:Int) (i:Int)) xs.length (by omega) (fun i hi=>?_) ?_
 ·have hl:=wY (xs:=xs) (i:=i) (by omega) hx
  have hl2:=wY (xs:=xs) (i:=i+1) (by omega) hx
  have l1:ltI (i:Int) (xs.length:Int)=true:=by rw[cK];omega
  have l2:ltI (i:Int) ((512:Nat):Int)=true:=by rw[cK];omega
  have l3:leI 0 (i:Int)=true:=by simp
  have a1:aR (i:Int) 1=((i+1:Nat):Int):=by rw[bK (by omega)];omega
  have b1:blt i 512=true:=by simp;omega
  have b2:gD (gE (ri (oE xs i)) i) 1=true:=by rw[lP (by omega)];rfl
  unfold zU;simp only[aF,aQ,aC,yF,yE,yD,bG,bE,hl,hl2,fV,List.length_set,List.length_nil,gG hi,eO hi,Int.toNat_natCast,Nat.zero_add,aAA hi hx,l1,l2,l3,a1,b1,b2,aN,cC,Bool.and_true,true_and,Bool.true_eq_false,false_implies,and_true,forall_const]
 ·have l1:ltI (xs.length:Int) (xs.length:Int)=false:=by simp
  unfold zU;simp only[aF,aQ,aC,l1,true_and,Bool.false_eq_true,false_implies,implies_true]
theorem FL{A ys:List Int}{i:Nat}(hA:A.length=512)(h:i≤ys.length)(hy:ys.length≤64):(uX A ys i).length=512:=by
 simp[uX];omega
theorem bC7(A ys:List Int)(hA:A.length=512)(hy:ys.length≤64):aPT (V93_1.mk ⟨[],[]⟩ ⟨ri (uX A ys 0),[]⟩ (ri ys) (ys.length:Int) 0)=true∧VG (V93_1.mk ⟨[],[]⟩ ⟨ri (uX A ys 0),[]⟩ (ri ys) (ys.length:Int) 0)=V93_1.mk ⟨[],[]⟩ ⟨ri (uX A ys ys.length),[]⟩ (ri ys) (ys.length:Int) (ys.length:Int):=by
 refine wV (N:=zV) (fun i=>V93_1.mk ⟨[],[]⟩ ⟨ri (uX A ys i),[]⟩ (ri ys) (ys.length:Int) (i:Int)) ys.length (by omega) (fun i hi=>?_) ?_
 ·have hl:=FL (A:=A) (ys:=ys) (i:=i) hA (by omega) hy
  have hl2:=FL (A:=A) (ys:=ys) (i:=i+1) hA (by omega) hy
  have l1:ltI (i:Int) (ys.length:Int)=true:=by rw[cK];omega
  have a1:aR (i:Int) 1=((i+1:Nat):Int):=by rw[bK (by omega)];omega
  have a2:aR 384 (i:Int)=((384+i:Nat):Int):=by rw[bK (by omega)];omega
  have l2:ltI ((384+i:Nat):Int) ((512:Nat):Int)=true:=by rw[cK];omega
  have l3:leI 0 ((384+i:Nat):Int)=true:=by rw[lO];omega
  have b1:blt (384+i) 512=true:=by simp;omega
  have b2:gD (gE (ri (uX A ys i)) (384+i)) 1=true:=by rw[lP (by omega)];rfl
  unfold zV;simp only[aF,aQ,aC,yI,yH,yG,bG,bE,hl,hl2,fV,List.length_set,List.length_nil,gG hi,eO hi,a2,Int.toNat_natCast,Nat.zero_add,aAB hA hi hy,l1,l2,l3,a1,b1,b2,aN,cC,Bool.and_true,true_and,Bool.true_eq_false,false_implies,and_true,forall_const]
 ·have l1:ltI (ys.length:Int) (ys.length:Int)=false:=by simp
  unfold zV;simp only[aF,aQ,aC,l1,true_and,Bool.false_eq_true,false_implies,implies_true]
def FM(xs ys:List Int):aO×Bool:=bif bM xs&&(bM ys&&(leI (xs.length:Int) 384&&leI (ys.length:Int) 64))then(⟨ri (uX (oE xs xs.length) ys ys.length),[]⟩,true)else(⟨[],[]⟩,false)
theorem aQP(a b:Int):kK a b=!leI a b:=by
 cases h:leI a b
 ·rw[aH6]at h;exact rH.2 h
 ·rw[lO]at h;exact N1.2 h
theorem a32(xs ys:List Int)(hx:xs.length<1000000)(hy:ys.length<1000000):k93 (ri xs) (ri ys)=true∧g93 (ri xs) (ri ys)=FM xs ys:=by
 refine aL (t:=T93 (ri xs) (ri ys)) (P:=fun r=>r=FM xs ys) ?_
 obtain⟨a1,a2⟩:=HO xs hx;obtain⟨b1,b2⟩:=HO ys hy;unfold T93;have hc:(bif (bif (bif (!(bM xs))then true else(!(bM ys)))then true else(kK (xs.length:Int) 384))then true else(kK (ys.length:Int) 64))=!(bM xs&&(bM ys&&(leI (xs.length:Int) 384&&leI (ys.length:Int) 64))):=by
  rw[aQP,aQP];cases bM xs<;>cases bM ys<;>cases leI (xs.length:Int) 384<;>cases leI (ys.length:Int) 64<;>rfl
 unfold FM;cases hg:bM xs&&(bM ys&&(leI (xs.length:Int) 384&&leI (ys.length:Int) 64))
 ·simp only[aF,aQ,aC,a1,a2,b1,b2,bG,bE,hc,hg,Bool.not_false,cond_false,Bool.and_true,Bool.true_or,true_and,Bool.true_eq_false,false_implies,forall_const,and_true]
 ·have hg':=hg;simp only[Bool.and_eq_true,lO]at hg';obtain⟨g1,g2,g3,g4⟩:=hg';obtain⟨c1,c2⟩:=bC6 xs ys (by omega)
  have hA:=wY (xs:=xs) (i:=xs.length) (Nat.le_refl _) (by omega)
  obtain⟨d1,d2⟩:=bC7 (oE xs xs.length) ys hA (by omega)
  have e0:List.replicate 512 (aH 0)=ri (oE xs 0):=by simp[oE,ri,List.map_replicate,aH]
  have e1:uX (oE xs xs.length) ys 0=oE xs xs.length:=by simp[uX]
  rw[e1]at d1 d2;simp only[aF,aQ,aC,aDI,aPV,aPU,aDH,VH,aDG,aDF,gB,e0,a1,a2,b1,b2,c1,c2,d1,d2,bG,bE,hc,hg,aN,cC,Bool.not_true,cond_true,Bool.and_true,Bool.true_or,true_and,Bool.false_eq_true,false_implies,forall_const]
theorem uY{xs ys:List Int}:bM (xs++ys)=(bM xs&&bM ys):=by simp[bM]
theorem TM{n:Nat}:bM (List.replicate n 0)=true:=by
 unfold bM;rw[List.all_eq_true];intro z hz;rw[List.eq_of_mem_replicate hz];rfl
theorem FN{xs ys:List Int}(h: ∀z∈ys,z∈xs)(hb:bM xs=true):bM ys=true:=by
 unfold bM at*;rw[List.all_eq_true]at*;exact fun z hz=>hb z (h z hz)
theorem aAC{xs ys:List Int}(hx:bM xs=true)(hy:bM ys=true):bM (uX (oE xs xs.length) ys ys.length)=true:=by
 have hA:bM (oE xs xs.length)=true:=by unfold oE;rw[List.take_length,uY,hx,TM];rfl
 unfold uX;rw[List.take_length,uY,uY,hy,FN (fun z hz=>List.mem_of_mem_take hz) hA,FN (fun z hz=>List.mem_of_mem_drop hz) hA];rfl
end Go.Proofs.YtdipcnijfkdnfaaGreatFrames

namespace Go.Proofs.YtdipcnijfkdnfaaGreatFrames
open Go Go.Zq
set_option maxHeartbeats 4000000
set_option maxRecDepth 100000
def nR(pc:Int):RM:=⟨[0,0,0,0],[0,0,0,384],0,pc,0,7,true,false⟩
def cR(xs:List Int)(pc:Int):aJ×Bool:=bif (FM xs []).2&&cO pc 0 65535 then(⟨(nR pc).g,(FM xs []).1,false,false⟩,true)else(⟨⟨[],[],0,0,0,0,false,false⟩,⟨[],[]⟩,false,false⟩,false)
theorem aI3(xs:List Int)(pc:Int)(hx:xs.length<1000000):k20 (ri xs) pc=true∧g20 (ri xs) pc=cR xs pc:=by
 refine aL (t:=T20 (ri xs) pc) (P:=fun q=>q=cR xs pc) ?_
 obtain⟨a1,a2⟩:=a32 xs [] hx (by decide)
 obtain⟨n1,n2⟩:=aI0;have a1':k93 (ri xs) []=true:=a1;have a2':g93 (ri xs) []=FM xs []:=a2;have l3:ltI 3 ((4:Nat):Int)=true:=by decide
 have b3:blt 3 4=true:=by decide
 have r3:gD (gE (ri r0.a) 3) 1=true:=by rw[lP (by decide)];rfl
 have l4:r0.a.length=4:=rfl;unfold T20 cR;simp only[aF,aQ,aC,aDL,aDK,a1',a2',n1,n2,(sN _).1,(sN _).2,A6,FS,dL,kW,cV,dY,cL,cW,bG,bE,l4,l3,b3,r3,fV,List.length_set,aN,cC,Bool.and_true,Bool.true_or,true_and];cases(FM xs []).2<;>cases cO pc 0 65535<;>simp<;>rfl
def CG(t:Int)(c:aJ):Prop:= ∃r zs l s h,c=bI r zs l s h∧RM.Ok t r∧BusOk zs l
theorem aI4{xs:List Int}(h:(FM xs []).2=true): ∃zs,(FM xs []).1=jO zs []∧BusOk zs []:=by
 unfold FM at h⊢;cases hg:bM xs&&(bM []&&(leI (xs.length:Int) 384&&leI (([]:List Int).length:Int) 64))
 ·rw[hg]at h;simp at h
 ·simp only[Bool.and_eq_true,lO]at hg;obtain⟨g1,g2,g3,g4⟩:=hg;refine⟨_,rfl,FL (wY (Nat.le_refl _) (by omega)) (Nat.le_refl _) (by omega),aAC g1 g2,by decide,rfl⟩
theorem X9{xs:List Int}{pc:Int}(h:(cR xs pc).2=true): ∃zs,(cR xs pc).1=bI (nR pc) zs [] false false∧BusOk zs []∧cO pc 0 65535=true:=by
 unfold cR at h⊢;cases hg:(FM xs []).2&&cO pc 0 65535
 ·rw[hg]at h;simp at h
 ·rw[Bool.and_eq_true]at hg;obtain⟨zs,h1,h2⟩:=aI4 hg.1;exact⟨zs,by rw[cond_true,h1];rfl,h2,hg.2⟩
theorem aVG:(cR [] 0).2=true:=by decide+kernel
theorem YA{B t:Int}{c:aB}{r:RM}{zs:List Int}{p pc:Int}(hc:CO B c)(hr:r.Ok 65536)(hb:BusOk zs [])(hp:cO pc 0 65535=true)(s h:Bool):CG 65536 (aJ.mk (RM.g {r with pc:=pc}) (jO zs []) s h)∧CG 65536 (aJ.mk r.g (jO zs []) s h):=
 ⟨⟨_,zs,[],s,h,rfl,hr.setP hp,hb⟩,⟨_,zs,[],s,h,rfl,hr,hb⟩⟩
theorem aI5{c:aB}{B:Int}(h:CO B c)(hB:B<100000000000000000):k71 c=true∧(CO (B+50000) (AQ c).1∧CG 65536 (AQ c).2):=by
 refine aL (t:=T71 c) (P:=fun q=>CO (B+50000) q.1∧CG 65536 q.2) ?_
 obtain⟨a1,a2,⟨xs,a3,a4⟩,a5,a6⟩:=aOT h (by omega)
 obtain⟨b1,b2,r,b3,b4⟩:=aVC a2 (by omega)
 obtain⟨c1,c2⟩:=aI3 xs (kT c).2.2 (by omega)
 obtain⟨d1,d2⟩:=aI3 [] 0 (by decide)
 have d1:k20 [] 0=true:=d1;have d2:g20 [] 0=cR [] 0:=d2;obtain⟨z0,e1,e2,e3⟩:=X9 aVG;obtain⟨f1,f2,-⟩:=bY 60 b2 (by omega)
 have lz:=f2.mono (C:=B+50000) (by omega)
 unfold T71;cases hg:(cR xs (kT c).2.2).2
 ·have q:=YA (t:=0) (p:=0) f2 b4 e2 e3;simp only[aF,aQ,aC,NB,sH,NA,sG,VJ,VI,jM,sF,a1,a3,b1,b3,c1,c2,d1,d2,e1,f1,hg,bI,A6,FS,dL,kW,cV,dY,cL,cW,TK,show(nR 0).pc=0 from rfl,aN,cC,Bool.not_false,Bool.and_true,true_and,Bool.true_eq_false,false_implies,and_true,forall_const]
  exact⟨fun _=>⟨lz,(q _ _).1⟩,fun _=>⟨fun _=>⟨lz,(q _ _).1⟩,fun _=>⟨fun _=>⟨lz,(q _ _).2⟩,fun _=>⟨lz,(q _ _).1⟩⟩⟩⟩
 ·obtain⟨zs,i1,i2,i3⟩:=X9 hg;have q:=YA (t:=0) (p:=0) f2 b4 i2 i3;simp only[aF,aQ,aC,NB,sH,NA,sG,VJ,VI,jM,sF,a1,a3,b1,b3,c1,c2,i1,f1,hg,bI,A6,FS,dL,kW,cV,dY,cL,cW,TK,show∀p,(nR p).pc=p from fun _=>rfl,aN,cC,Bool.not_true,Bool.and_true,true_and,Bool.false_eq_true,false_implies,forall_const]
  exact⟨fun _=>⟨lz,(q _ _).1⟩,fun _=>⟨fun _=>⟨lz,(q _ _).1⟩,fun _=>⟨fun _=>⟨lz,(q _ _).2⟩,fun _=>⟨lz,(q _ _).1⟩⟩⟩⟩
end Go.Proofs.YtdipcnijfkdnfaaGreatFrames

namespace Go.Proofs.YtdipcnijfkdnfaaGreatFrames
open Go Go.Zq
set_option maxHeartbeats 4000000
set_option maxRecDepth 100000
def TN(p:aA×aA):Bool:=eqI p.1.Kind p.2.Kind&&(eqI p.1.Size p.2.Size&&(eqI p.1.Addr p.2.Addr&&(eqI p.1.Value p.2.Value&&(eqI p.1.Code p.2.Code&&true))))
def N3(l m:List aA):Bool:=eqI (l.length:Int) (m.length:Int)&&(l.zip m).all TN
theorem N4: ∀{l:List aA}{p:aA×aA},p∈l.zip l→p.1=p.2
 |[],p,h=>by simp at h
 |a::l,p,h=>by
  rw[List.zip_cons_cons,List.mem_cons]at h;rcases h with rfl|h
  ·rfl
  ·exact N4 h
theorem aAD(l:List aA):N3 l l=true:=by
 unfold N3;rw[show eqI (l.length:Int) (l.length:Int)=true by simp,Bool.true_and,List.all_eq_true]
 intro p hp;have:p.1=p.2:=N4 hp;unfold TN;rw[this];simp
def aAE(r q:RM):Bool:=decide (r.d=q.d)&&(decide (r.a=q.a)&&(eqI r.oth q.oth&&(eqI r.pc q.pc&&(eqI r.fl q.fl&&(eqI r.mask q.mask&&(uZ r.sup q.sup&&uZ r.tr q.tr))))))
theorem aAF(r:RM):aAE r r=true:=by simp[aAE]
theorem b2(a b:Bool):(bif a then b else false)=(a&&b):=by cases a<;>rfl
theorem aAG(l m:List aA)(hl:l.length<1000000)(he:l.length=m.length):S9 (V157_0.mk (l.map aA.row) (m.map aA.row) (aX (l.map aA.row)) 0)=true∧(ltI (LI (V157_0.mk (l.map aA.row) (m.map aA.row) (aX (l.map aA.row)) 0)).s13 (LI (V157_0.mk (l.map aA.row) (m.map aA.row) (aX (l.map aA.row)) 0)).s12=!(l.zip m).all TN):=by
 unfold S9 LI;refine fA (Post:=fun w:V157_0=>ltI w.s13 w.s12=!(l.zip m).all TN) (cU (fun n v=> ∃i:Nat,v=V157_0.mk (l.map aA.row) (m.map aA.row) (aX (l.map aA.row)) i∧i≤l.length∧n=l.length-i∧ ∀j(hj:j<(l.zip m).length),j<i→TN (l.zip m)[j]=true) _ ?_ 2097152 l.length _ ⟨0,rfl,by omega,by omega,fun j _ h=>absurd h (by omega)⟩ (by omega))
 rintro n v ⟨i,rfl,hi,rfl,hall⟩
 have hz:(l.zip m).length=l.length:=by simp;omega
 unfold yV;simp only[aF,aQ,aC,bG,List.length_map,cK,jN,true_and,Int.toNat_natCast];constructor
 ·intro h;have hi':i<l.length:=by omega
  have hy':i<m.length:=by omega
  obtain⟨p1,p2⟩:=LQ hi';obtain⟨q1,q2⟩:=LQ hy';have hzi:i<(l.zip m).length:=by omega
  have ez:(l.zip m)[i]=(l[i],m[i]):=by simp
  have cond:(!(eqI (aU (l.map aA.row) i 0) (aU (m.map aA.row) i 0)&&(eqI (aU (l.map aA.row) i 1) (aU (m.map aA.row) i 1)&&(eqI (aU (l.map aA.row) i 2) (aU (m.map aA.row) i 2)&&(eqI (aU (l.map aA.row) i 3) (aU (m.map aA.row) i 3)&&(eqI (aU (l.map aA.row) i 4) (aU (m.map aA.row) i 4)&&true))))))=!TN (l.zip m)[i]:=by
   rw[ez];have a0:aU (l.map aA.row) i 0=l[i].Kind:=congrArg aA.Kind p2;have a1:aU (l.map aA.row) i 1=l[i].Size:=congrArg aA.Size p2;have a2:aU (l.map aA.row) i 2=l[i].Addr:=congrArg aA.Addr p2;have a3:aU (l.map aA.row) i 3=l[i].Value:=congrArg aA.Value p2;have a4:aU (l.map aA.row) i 4=l[i].Code:=congrArg aA.Code p2;have c0:aU (m.map aA.row) i 0=m[i].Kind:=congrArg aA.Kind q2;have c1:aU (m.map aA.row) i 1=m[i].Size:=congrArg aA.Size q2;have c2:aU (m.map aA.row) i 2=m[i].Addr:=congrArg aA.Addr q2;have c3:aU (m.map aA.row) i 3=m[i].Value:=congrArg aA.Value q2;have c4:aU (m.map aA.row) i 4=m[i].Code:=congrArg aA.Code q2;rw[a0,a1,a2,a3,a4,c0,c1,c2,c3,c4];rfl
  rw[p1,q1,cond];refine⟨rfl,fun hq=>?_,fun hq=>?_⟩
  ·rw[X1 hzi (by simpa using hq)]
   simpa [ltI]using h
  ·refine⟨_,?_,i+1,?_,by omega,rfl,?_⟩
   ·omega
   ·rw[bK (by omega)];rfl
   ·intro j hj hji;by_cases e:j=i
    ·subst e;simpa using hq
    ·exact hall j hj (by omega)
 ·intro h;rw[X2 fun j hj=>hall j hj (by omega)]
  simpa [ltI]using h
theorem aVH(l m:List aA)(hl:l.length<1000000):aUG (l.map aA.row) (m.map aA.row)=true∧aUF (l.map aA.row) (m.map aA.row)=N3 l m:=by
 refine aL (t:=aG7 (l.map aA.row) (m.map aA.row)) (P:=fun q=>q=N3 l m) ?_
 unfold aG7 N3;by_cases he:l.length=m.length
 ·obtain⟨h1,h2⟩:=aAG l m hl he;have e:eV (aX (l.map aA.row)) (aX (m.map aA.row))=false:=by simp[he]
  have e2:eqI (l.length:Int) (m.length:Int)=true:=by simp[he]
  simp only[aF,aQ,aC,TA,h1,h2,e,e2,Bool.true_and,true_and,Bool.false_eq_true,false_implies,forall_const];cases(l.zip m).all TN<;>simp
 ·have e:eV (aX (l.map aA.row)) (aX (m.map aA.row))=true:=by simp;omega
  have e2:eqI (l.length:Int) (m.length:Int)=false:=by simp;omega
  simp only[aF,aQ,aC,e,e2,Bool.false_and,true_and,Bool.true_eq_false,false_implies,forall_const,and_true]
end Go.Proofs.YtdipcnijfkdnfaaGreatFrames

namespace Go.Proofs.YtdipcnijfkdnfaaGreatFrames
open Go Go.Zq
set_option maxHeartbeats 4000000
set_option maxRecDepth 100000
theorem aVI(r q:RM)(hr:r.d.length<1000000)(ha:r.a.length<1000000):k13 r.g q.g=true∧g13 r.g q.g=aAE r q:=by
 refine aL (t:=T13 r.g q.g) (P:=fun z=>z=aAE r q) ?_
 obtain⟨a1,a2⟩:=oD r.d q.d hr;obtain⟨c1,c2⟩:=oD r.a q.a ha;unfold T13 aAE;simp only[aF,aC,A6,FS,dL,kW,cV,dY,cL,cW,a1,a2,c1,c2,b2,Bool.and_assoc,Bool.true_or,Bool.and_true,true_and]
def aI6(r:RM)(zs:List Int)(l:List aA)(s h:Bool)(q:RM)(ys:List Int)(m:List aA)(s' h':Bool):Bool:=aAE r q&&(decide (zs=ys)&&(N3 l m&&(uZ s s'&&uZ h h')))
theorem aAH(r:RM)(zs:List Int)(l:List aA)(s h:Bool):aI6 r zs l s h r zs l s h=true:=by simp[aI6,aAF,aAD]
theorem aOU(zs ys:List Int)(l m:List aA)(hz:zs.length<1000000)(hl:l.length<1000000):k82 (jO zs l) (jO ys m)=true∧g82 (jO zs l) (jO ys m)=(decide (zs=ys)&&N3 l m):=by
 refine aL (t:=T82 (jO zs l) (jO ys m)) (P:=fun z=>z=(decide (zs=ys)&&N3 l m)) ?_
 obtain⟨a1,a2⟩:=oD zs ys hz;obtain⟨c1,c2⟩:=aVH l m hl;unfold T82;simp only[aF,aC,z4,FG,a1,a2,c1,c2,b2,Bool.true_or,Bool.and_true,true_and]
structure Sz(r:RM)(zs:List Int)(l:List aA):Prop where
 d:r.d.length<1000000
 a:r.a.length<1000000
 z:zs.length<1000000
 l:l.length<1000000
theorem aOV(r q:RM)(zs ys:List Int)(l m:List aA)(s h s' h':Bool)(z:Sz r zs l):k11 (bI r zs l s h) (bI q ys m s' h')=true∧g11 (bI r zs l s h) (bI q ys m s' h')=aI6 r zs l s h q ys m s' h':=by
 refine aL (t:=T11 (bI r zs l s h) (bI q ys m s' h')) (P:=fun w=>w=aI6 r zs l s h q ys m s' h') ?_
 obtain⟨a1,a2⟩:=aVI r q z.d z.a;obtain⟨c1,c2⟩:=aOU zs ys l m z.z z.l;unfold T11 aI6 bI;simp only[aF,aC,a1,a2,c1,c2,b2,Bool.and_assoc,Bool.true_or,Bool.and_true,true_and]
end Go.Proofs.YtdipcnijfkdnfaaGreatFrames

namespace Go.Proofs.YtdipcnijfkdnfaaGreatFrames
open Go Go.Zq
set_option maxHeartbeats 4000000
set_option maxRecDepth 100000
theorem YB{t:Int}{zs:List Int}{i:Nat}(h:i<zs.length)(hz:cO zs[i] 0 t=false):dP t zs=false:=X1 h hz
theorem YC{t:Int}{zs:List Int}(h: ∀j(hj:j<zs.length),cO zs[j] 0 t=true):dP t zs=true:=X2 h
theorem bC8(x:Int):aLN x=!cO x 0 65535:=by
 simp[aLN,bT,aDZ,(mE _).2]
theorem bC9(x:Int):aLO x=true:=by
 simp[aLO,bT,aDZ,(mE _).1]
theorem aAI(zs:List Int)(hl:zs.length<1000000):QW (V227_0.mk (ri zs) (aX (ri zs)) 0)=true∧0≤(DN (V227_0.mk (ri zs) (aX (ri zs)) 0)).s8∧(ltI (DN (V227_0.mk (ri zs) (aX (ri zs)) 0)).s8 (DN (V227_0.mk (ri zs) (aX (ri zs)) 0)).s7=!dP 65535 zs):=by
 unfold QW DN;refine fA (Post:=fun w=>0≤w.s8∧ltI w.s8 w.s7=!dP 65535 zs) (cU (fun n v=> ∃i:Nat,v=V227_0.mk (ri zs) (aX (ri zs)) i∧i≤zs.length∧n=zs.length-i∧ ∀j(hj:j<zs.length),j<i→cO zs[j] 0 65535=true) _ ?_ 2097152 zs.length _ ⟨0,rfl,by omega,by omega,fun j _ h=>absurd h (by omega)⟩ (by omega))
 rintro n v ⟨i,rfl,hi,rfl,hall⟩
 unfold yJ;simp only[aF,aQ,aC,bG,bE,cK,jN,true_and,Int.toNat_natCast];constructor
 ·intro h;have hi':i<zs.length:=by omega
  rw[gG hi',eO hi',bC9,bC8];refine⟨rfl,fun hz=>?_,fun hz=>?_⟩
  ·rw[YB hi' (by simpa using hz)]
   exact⟨by omega,by simpa [ltI]using h⟩
  ·refine⟨_,?_,i+1,?_,by omega,rfl,?_⟩
   ·omega
   ·rw[bK (by omega)];rfl
   ·intro j hj hji;by_cases e:j=i
    ·subst e;simpa using hz
    ·exact hall j hj (by omega)
 ·intro h;rw[YC fun j hj=>hall j hj (by omega)]
  exact⟨by omega,by simpa [ltI]using h⟩
theorem aVJ(zs:List Int)(hl:zs.length<1000000):aD2 (ri zs)=true∧aD1 (ri zs)=!dP 65535 zs:=by
 obtain⟨h1,h2,h3⟩:=aAI zs hl;have a:aLW (ri zs)=true∧rE (aLV (ri zs)) 0=!dP 65535 zs:=by
  unfold aLW aLV aLU JR;rw[bT,bT];simp only[mB,uS,gL,iB,uT,eN,h1,h3,Bool.true_and];cases dP 65535 zs
  ·exact⟨rfl,by simpa using h2⟩
  ·exact⟨rfl,rfl⟩
 have b:aD2 (ri zs)=true∧aD1 (ri zs)=!dP 65535 zs:=by
  unfold aD2 aD1 aLX;rw[bT,bT];simp only[mB,gL,iB,eN,a.1,a.2,Bool.true_and,and_self]
 exact b
theorem aI7(zs:List Int)(hl:zs.length<1000000):aLY (ri zs)=true∧aD4 (ri zs)=(eqI (zs.length:Int) 4&&dP 65535 zs):=by
 refine aL (t:=aD3 (ri zs)) (P:=fun q=>q=(eqI (zs.length:Int) 4&&dP 65535 zs)) ?_
 obtain⟨a1,a2⟩:=aVJ zs hl;unfold aD3;simp only[aF,aC,a1,a2,b2,bG,bE,Bool.not_not,Bool.true_or,Bool.and_true,true_and]
theorem YD(x:Int):aL0 x=true∧aLZ x=cO x 0 31:=by
 constructor
 ·simp[aL0,bT,aD5]
 ·simp[aLZ,bT,aD5]
theorem YE(x:Int):aM8 x=true∧aM7 x=cO x 0 31:=by
 constructor
 ·simp[aM8,bT,aFM]
 ·simp[aM7,bT,aFM]
def wZ(r:RM):Bool:=(eqI (r.d.length:Int) 4&&dP 65535 r.d)&&((eqI (r.a.length:Int) 4&&dP 65535 r.a)&&(cO r.oth 0 65535&&(cO r.pc 0 65535&&(cO r.fl 0 31&&cO r.mask 0 7))))
theorem aOW(r:RM)(hd:r.d.length<1000000)(ha:r.a.length<1000000):aR7 r.g=true∧aL2 r.g=wZ r:=by
 refine aL (t:=aD7 r.g) (P:=fun q=>q=wZ r) ?_
 obtain⟨a1,a2⟩:=aI7 r.d hd;obtain⟨c1,c2⟩:=aI7 r.a ha;unfold aD7 wZ;simp only[aF,aC,RA,QZ,QY,QX,A6,FS,dL,kW,cV,dY,cL,cW,a1,a2,c1,c2,(mE _).1,(mE _).2,(YD _).1,(YD _).2,p8,p9,b2,Bool.and_assoc,Bool.true_or,Bool.and_true,true_and]
theorem aAJ(zs:List Int)(hl:zs.length<1000000)(x:List Row):SA (V206_0.mk x (ri zs) (aX (ri zs)) 0)=true∧((EA (V206_0.mk x (ri zs) (aX (ri zs)) 0)).s0=x∧ltI (EA (V206_0.mk x (ri zs) (aX (ri zs)) 0)).s7 (EA (V206_0.mk x (ri zs) (aX (ri zs)) 0)).s6=!dP 65535 zs):=by
 unfold SA EA;refine fA (Post:=fun w:V206_0=>w.s0=x∧ltI w.s7 w.s6=!dP 65535 zs) (cU (fun n v=> ∃i:Nat,v=V206_0.mk x (ri zs) (aX (ri zs)) i∧i≤zs.length∧n=zs.length-i∧ ∀j(hj:j<zs.length),j<i→cO zs[j] 0 65535=true) _ ?_ 2097152 zs.length _ ⟨0,rfl,by omega,by omega,fun j _ h=>absurd h (by omega)⟩ (by omega))
 rintro n v ⟨i,rfl,hi,rfl,hall⟩
 unfold yO;simp only[aF,aQ,aC,bG,bE,cK,jN,true_and,Int.toNat_natCast];constructor
 ·intro h;have hi':i<zs.length:=by omega
  rw[gG hi',eO hi',(sN _).2,(sN _).1];refine⟨rfl,rfl,fun hz=>?_,fun hz=>?_⟩
  ·rw[YB hi' (by simpa using hz)]
   simpa [ltI]using h
  ·refine⟨_,?_,i+1,?_,by omega,rfl,?_⟩
   ·omega
   ·rw[bK (by omega)];rfl
   ·intro j hj hji;by_cases e:j=i
    ·subst e;simpa using hz
    ·exact hall j hj (by omega)
 ·intro h;rw[YC fun j hj=>hall j hj (by omega)]
  simpa [ltI]using h
theorem aI8(zs:List Int)(hl:zs.length<1000000):aM6 (ri zs)=true∧aFL (ri zs)=(eqI (zs.length:Int) 4&&dP 65535 zs):=by
 refine aL (t:=aFK (ri zs)) (P:=fun q=>q=(eqI (zs.length:Int) 4&&dP 65535 zs)) ?_
 obtain⟨h1,h0,h2⟩:=aAJ zs hl (ri zs);simp only[bG,bE]at h1 h0 h2;unfold aFK;simp only[aF,aQ,aC,KM,h1,h0,h2,bG,bE,aN,cC,Bool.and_true,true_and];cases dP 65535 zs<;>simp
theorem aOX(r:RM)(hd:r.d.length<1000000)(ha:r.a.length<1000000):aTA r.g=true∧aM9 r.g=wZ r:=by
 refine aL (t:=aFN r.g) (P:=fun q=>q=wZ r) ?_
 obtain⟨a1,a2⟩:=aI8 r.d hd;obtain⟨c1,c2⟩:=aI8 r.a ha;unfold aFN wZ;simp only[aF,aC,SE,SD,SC,SB,A6,FS,dL,kW,cV,dY,cL,cW,a1,a2,c1,c2,(sN _).1,(sN _).2,(YE _).1,(YE _).2,mC,mD,aN,cC,b2,Bool.and_assoc,Bool.true_or,Bool.and_true,true_and]
def dU(r:RM)(zs:List Int)(l:List aA)(s h:Bool):Bool:=wZ r&&(qE zs l&&!(s&&h))
structure Sm(r:RM)(zs:List Int)(l:List aA):Prop where
 d:r.d.length≤1000
 a:r.a.length≤1000
 z:zs.length≤512
 l:l.length≤1000
theorem Sm.of{t:Int}{r:RM}{zs:List Int}{l:List aA}(h:r.Ok t)(b:BusOk zs l):Sm r zs l:=by
 have h1:=h.d4;have h2:=h.a4;have h3:=b.hz;have h4:=b.hl;exact⟨by omega,by omega,by omega,by omega⟩
theorem Sm.sz{r:RM}{zs:List Int}{l:List aA}(m:Sm r zs l):Sz r zs l:=⟨by have:=m.d;omega,by have:=m.a;omega,by have:=m.z;omega,by have:=m.l;omega⟩
theorem Sm.len{r:RM}{zs:List Int}{l:List aA}(m:Sm r zs l)(s h:Bool):Z7 (bI r zs l s h):=by
 have h1:=m.d;have h2:=m.a;have h3:=m.z;have h4:=m.l;refine⟨?_,?_,?_,?_⟩
 ·show(ri r.d).length≤2000;rw[bE];omega
 ·show(ri r.a).length≤2000;rw[bE];omega
 ·show(ri zs).length≤2000;rw[bE];omega
 ·show(l.map aA.row).length≤2000;rw[List.length_map];omega
theorem rL{r:RM}{zs:List Int}{l:List aA}(s h:Bool)(m:Sm r zs l):k30 (bI r zs l s h)=true∧g30 (bI r zs l s h)=dU r zs l s h:=by
 refine aL (t:=T30 (bI r zs l s h)) (P:=fun q=>q=dU r zs l s h) ?_
 obtain⟨a1,a2⟩:=aOW r (by have:=m.d;omega) (by have:=m.a;omega)
 obtain⟨c1,c2⟩:=aI2 zs l (by have:=m.z;omega) (by have:=m.l;omega)
 have c1':ZS (jO zs l)=true:=c1;have c2':RK (jO zs l)=qE zs l:=c2;unfold T30 dU bI;simp only[aF,aC,a1,a2,c1',c2',b2,Bool.and_assoc,Bool.true_or,Bool.and_true,true_and]
theorem A8{r:RM}{zs:List Int}{l:List aA}(s h:Bool)(m:Sm r zs l):k76 (bI r zs l s h)=true∧g76 (bI r zs l s h)=dU r zs l s h:=by
 refine aL (t:=T76 (bI r zs l s h)) (P:=fun q=>q=dU r zs l s h) ?_
 obtain⟨a1,a2⟩:=aOX r (by have:=m.d;omega) (by have:=m.a;omega)
 obtain⟨c1,c2⟩:=aIF (b:=jO zs l) (zs:=zs) (l:=l) ⟨⟨zs,rfl⟩,⟨l,rfl⟩,by rw[z4,bE];exact m.z,by rw[FG,List.length_map];exact m.l⟩ rfl rfl
 unfold T76 dU bI qE;simp only[aF,aC,a1,a2,c1,c2,aN,cC,b2,Bool.and_assoc,Bool.true_or,Bool.and_true,true_and]
theorem lQ{r:RM}{zs:List Int}{l:List aA}{s h:Bool}(g:dU r zs l s h=true):r.Ok 65535∧BusOk zs l:=by
 unfold dU wZ qE at g;simp only[Bool.and_eq_true,f8,lO]at g;obtain⟨⟨⟨a1,a2⟩,⟨a3,a4⟩,a5,a6,a7,a8⟩,⟨b1,b2,b3,b4⟩,-⟩:=g;exact⟨⟨by decide,by decide,by omega,by omega,a2,a4,a5,a6,a7,a8⟩,⟨by omega,b3,by omega,b4⟩⟩
theorem aVK{r:aI}(h1:r.D.length≤2000)(h2:r.A.length≤2000):aSI r=true∧uG r=r:=by
 refine aL (t:=aES r) (P:=fun q=>q=r) ?_
 obtain⟨a1,a2,a3,a4,a5,a6,a7,a8,a9⟩:=sM h1;obtain⟨c1,c2,c3,c4,c5,c6,c7,c8,c9⟩:=sM h2;unfold aES;simp only[aF,aC,RV,RU,aN,cC,dX,jT,cQ,jU,Bool.and_true,true_and,(zY).1,(zY).2,a1,a3,a4,a6,c1,c3,c4,c6]
theorem aVL{b:aO}(h1:b.Bytes.length≤2000)(h2:b.Log.length≤2000):aSK b=true∧J4 b=b:=by
 refine aL (t:=aET b) (P:=fun r=>r=b) ?_
 obtain⟨a1,a2,a3,a4,a5,a6,a7,a8,a9⟩:=sM h1;obtain⟨c1,c2,c3,c4,c5,c6,c7,c8,c9⟩:=sM h2;unfold aET;simp only[aF,aC,RX,RW,aN,cC,dX,jT,cQ,jU,Bool.and_true,true_and,(zY).1,(zY).2,a1,a4,a6,c2,c5,c6]
theorem aI9{c:aJ}(h:Z7 c):k74 c=true∧sI c=c:=by
 refine aL (t:=T74 c) (P:=fun r=>r=c) ?_
 obtain⟨h1,h2,h3,h4⟩:=h;unfold T74;simp only[aF,aC,aEU,aP5,aP4,eG,aP3,eA,aVK h1 h2,aVL h3 h4,aN,cC,dX,jT,cQ,jU,Bool.and_true,true_and]
end Go.Proofs.YtdipcnijfkdnfaaGreatFrames

namespace Go.Proofs.YtdipcnijfkdnfaaGreatFrames
open Go Go.Zq
set_option maxHeartbeats 4000000
set_option maxRecDepth 100000
theorem iU{m:MM}{k s a v:Int}(h:m.f.Vector=0):cP (eJ m k s a v).1=eqI (bQ k s a) 0:=by
 unfold eJ cP;dsimp only;rw[h];cases hc:eqI (bQ k s a) 0
 ·have:eV (bQ k s a) 0=true:=by rw[oL]at hc;exact AZ.2 hc
  rw[this];cases eqI (bQ k s a) 2<;>rfl
 ·have:eV (bQ k s a) 0=false:=by rw[f8]at hc;exact aH5.2 hc
  rw[this,Bool.false_and,cond_false,h];rfl
def mm(r:RM)(zs:List Int)(l:List aA)(s:Bool):MM:=⟨r,zs,l,s,f0⟩
theorem aJA{v t:Int}{r:RM}{zs:List Int}{l:List aA}{s h:Bool}(hr:r.Ok t)(hb:BusOk zs l)(h0:0≤v)(h1:v≤65535):k75 v (bI r zs l s h)=true∧g75 v (bI r zs l s h)=(bI (cN (mm r zs l s) v).r (cN (mm r zs l s) v).zs (cN (mm r zs l s) v).l s h,(dS r.a 3-2)%65536,bQ 2 2 ((dS r.a 3-2)%65536)):=by
 refine aL (t:=T75 v (bI r zs l s h)) (P:=fun q=>q=(bI (cN (mm r zs l s) v).r (cN (mm r zs l s) v).zs (cN (mm r zs l s) v).l s h,(dS r.a 3-2)%65536,bQ 2 2 ((dS r.a 3-2)%65536))) ?_
 have hm:(mm r zs l s).Ok t:=⟨hr,hb⟩;obtain⟨b1,b2,b3,b4,b5,b6,b7⟩:=qD hr;have fa:=FJ hm h0 h1;obtain⟨a1,a2⟩:=LS (k:=2) (a:=(dS r.a 3-2)%65536) (fa.t hm) fa.ha (fun e=>absurd e (by decide))
 have a1':NE 2 2 ((dS r.a 3-2)%65536) v (jO zs l)=true:=a1;have a2':R2 2 2 ((dS r.a 3-2)%65536) v (jO zs l)=(jO (tB 2 2 ((dS r.a 3-2)%65536) v zs) (tL 2 2 ((dS r.a 3-2)%65536) v zs l),0,bQ 2 2 ((dS r.a 3-2)%65536)):=a2;have hf:cP (eJ (mm r zs l s) 2 2 ((dS r.a 3-2)%65536) v).1=eqI (bQ 2 2 ((dS r.a 3-2)%65536)) 0:=iU rfl;unfold T75 cN;simp only[aF,aQ,aC,aFG,aFF,NF,aFE,zW,aFD,show(bI r zs l s h).R=r.g from rfl,show(bI r zs l s h).Bus=jO zs l from rfl,show(bI r zs l s h).Stop=s from rfl,show(bI r zs l s h).Halt=h from rfl,A6,FS,dL,kW,cV,dY,cL,cW,bG,bE,b1,b2,b3,b4,b5,b6,a1',a2',fV,List.length_set,aN,cC,Bool.and_true,true_and]
 have e:(mm r zs l s).r=r:=rfl;rw[e,hf];refine⟨fun q=>by rw[q];rfl,fun q=>by rw[q];rfl⟩
theorem a33{t:Int}{r:RM}{zs:List Int}{l:List aA}{s h:Bool}(hr:r.Ok t)(hb:BusOk zs l):k83 (bI r zs l s h)=true∧g83 (bI r zs l s h)=(bI (kV (mm r zs l s)).1.r (kV (mm r zs l s)).1.zs (kV (mm r zs l s)).1.l s h,(kV (mm r zs l s)).2,dS r.a 3,bQ 1 2 (dS r.a 3)):=by
 refine aL (t:=T83 (bI r zs l s h)) (P:=fun q=>q=(bI (kV (mm r zs l s)).1.r (kV (mm r zs l s)).1.zs (kV (mm r zs l s)).1.l s h,(kV (mm r zs l s)).2,dS r.a 3,bQ 1 2 (dS r.a 3))) ?_
 have hm:(mm r zs l s).Ok t:=⟨hr,hb⟩;obtain⟨b1,b2,b3,b4,b5,b6,b7⟩:=qD hr;have fa:=X5 hm;obtain⟨a1,a2⟩:=LS (k:=1) (a:=dS r.a 3) (fa.t hm) fa.ha (fun e=>rfl)
 have a1':NE 1 2 (dS r.a 3) 0 (jO zs l)=true:=a1;have a2':R2 1 2 (dS r.a 3) 0 (jO zs l)=(jO (tB 1 2 (dS r.a 3) 0 zs) (tL 1 2 (dS r.a 3) 0 zs l),tV 1 2 (dS r.a 3) 0 zs,bQ 1 2 (dS r.a 3)):=a2;have hf:cP (eJ (mm r zs l s) 1 2 (dS r.a 3) 0).1=eqI (bQ 1 2 (dS r.a 3)) 0:=iU rfl;unfold T83 kV;simp only[aF,aQ,aC,aHD,aHC,NN,aHB,sJ,aHA,show(bI r zs l s h).R=r.g from rfl,show(bI r zs l s h).Bus=jO zs l from rfl,show(bI r zs l s h).Stop=s from rfl,show(bI r zs l s h).Halt=h from rfl,A6,FS,dL,kW,cV,dY,cL,cW,bG,bE,b1,b2,b3,b4,b5,b7,a1',a2',fV,List.length_set,aN,cC,Bool.and_true,true_and]
 have e:(mm r zs l s).r=r:=rfl;rw[e,hf];refine⟨fun q=>by rw[q];rfl,fun q=>by rw[q];rfl⟩
def zC:aJ:=⟨⟨[],[],0,0,0,0,false,false⟩,⟨[],[]⟩,false,false⟩
theorem aAK(r:RM)(zs:List Int)(l:List aA)(s:Bool)(v:Int):cP (cN (mm r zs l s) v)=eqI (bQ 2 2 ((dS r.a 3-2)%65536)) 0:=by
 have hf:cP (eJ (mm r zs l s) 2 2 ((dS r.a 3-2)%65536) v).1=eqI (bQ 2 2 ((dS r.a 3-2)%65536)) 0:=iU rfl;have e:(mm r zs l s).r=r:=rfl;unfold cN;rw[e,hf];cases hc:eqI (bQ 2 2 ((dS r.a 3-2)%65536)) 0
 ·rw[cond_false,hf,hc]
 ·rw[cond_true];rw[hc]at hf;exact hf
theorem N5(r:RM)(zs:List Int)(l:List aA)(s:Bool):cP (kV (mm r zs l s)).1=eqI (bQ 1 2 (dS r.a 3)) 0:=by
 have hf:cP (eJ (mm r zs l s) 1 2 (dS r.a 3) 0).1=eqI (bQ 1 2 (dS r.a 3)) 0:=iU rfl;have e:(mm r zs l s).r=r:=rfl;unfold kV;rw[e,hf];cases hc:eqI (bQ 1 2 (dS r.a 3)) 0
 ·rw[cond_false,hf,hc]
 ·rw[cond_true];rw[hc]at hf;exact hf
theorem aAL(m:MM)(v:Int):(cN m v).stop=m.stop:=by
 unfold cN;exact z5 (P:=fun z:MM=>z.stop=m.stop) (fun _=>rfl) (fun _=>rfl)
def aJB(r:RM)(zs:List Int)(l:List aA)(s h:Bool):aJ×Int×Bool×Bool:=bif dU r zs l s h then(bI (kV (mm r zs l s)).1.r (kV (mm r zs l s)).1.zs (kV (mm r zs l s)).1.l s h,(kV (mm r zs l s)).2,cP (kV (mm r zs l s)).1,true)else(zC,0,false,false)
theorem aVM{r:RM}{zs:List Int}{l:List aA}(s h:Bool)(m:Sm r zs l):k12 (bI r zs l s h)=true∧g12 (bI r zs l s h)=aJB r zs l s h:=by
 refine aL (t:=T12 (bI r zs l s h)) (P:=fun q=>q=aJB r zs l s h) ?_
 obtain⟨a1,a2⟩:=rL s h m;obtain⟨c1,c2⟩:=aI9 (m.len s h);unfold T12 aJB;cases hg:dU r zs l s h
 ·simp only[aF,aQ,aC,NO,XQ,a1,a2,hg,Bool.not_false,Bool.not_true,cond_true,cond_false,Bool.and_true,true_and,Bool.true_eq_false,false_implies,and_true,forall_const];rfl
 ·obtain⟨g1,g2⟩:=lQ hg;obtain⟨p1,p2⟩:=a33 (s:=s) (h:=h) g1 g2;simp only[aF,aQ,aC,NO,XQ,a1,a2,c1,c2,p1,p2,hg,N5,aN,cC,Bool.not_false,Bool.not_true,cond_true,cond_false,Bool.and_true,true_and,Bool.false_eq_true,false_implies,forall_const]
end Go.Proofs.YtdipcnijfkdnfaaGreatFrames

namespace Go.Proofs.YtdipcnijfkdnfaaGreatFrames
open Go Go.Zq
set_option maxHeartbeats 4000000
set_option maxRecDepth 100000
def fE(f:aE):Bool:=eqI f.Vector 2||eqI f.Vector 3
def dB(f:aE):Bool:=cO f.Vector 2 21&&(cO f.PC 0 65535&&(cO f.Addr 0 65535&&(cO f.Word 0 65535&&(fE f||(eqI f.Addr 0&&!f.Write)))))
theorem iD(f:aE):RO f=true∧RN f=fE f:=by
 refine aL (t:=aEO f) (P:=fun q=>q=fE f) ?_
 unfold aEO fE;simp only[aF,aQ,aC,Bool.and_true,true_and];cases eqI f.Vector 2<;>cases eqI f.Vector 3<;>rfl
theorem jE(f:aE):NC f.Vector=true∧QT f.Vector=fE f:=by
 refine aL (t:=aDQ f.Vector) (P:=fun q=>q=fE f) ?_
 unfold aDQ fE;simp only[aF,aQ,aC,Bool.and_true,true_and];cases eqI f.Vector 2<;>cases eqI f.Vector 3<;>rfl
theorem oF(f:aE):k28 f=true∧g28 f=dB f:=by
 refine aL (t:=T28 f) (P:=fun q=>q=dB f) ?_
 unfold T28 dB;simp only[aF,aQ,aC,aEQ,aEP,(mE _).1,(mE _).2,(iD f).1,(iD f).2,p8,p9,Bool.and_true,true_and];cases cO f.Vector 2 21<;>cases cO f.PC 0 65535<;>cases cO f.Addr 0 65535<;>cases cO f.Word 0 65535<;>cases fE f<;>cases eqI f.Addr 0<;>cases f.Write<;>simp
theorem oG(f:aE):k29 f=true∧g29 f=dB f:=by
 refine aL (t:=T29 f) (P:=fun q=>q=dB f) ?_
 unfold T29 dB;simp only[aF,aQ,aC,aFY,aFX,(sN _).1,(sN _).2,(jE f).1,(jE f).2,mC,mD,Bool.and_true,true_and];cases cO f.Vector 2 21<;>cases cO f.PC 0 65535<;>cases cO f.Addr 0 65535<;>cases cO f.Word 0 65535<;>cases fE f<;>cases eqI f.Addr 0<;>cases f.Write<;>simp
theorem N6(f:aE):k32 f=true∧g32 f=(bif dB f then fE f else false,dB f):=by
 refine aL (t:=T32 f) (P:=fun q=>q=(bif dB f then fE f else false,dB f)) ?_
 unfold T32;simp only[aF,aQ,aC,(oF f).1,(oF f).2,(iD f).1,(iD f).2,Bool.and_true,true_and];cases dB f<;>simp
theorem aJC(f:aE):k39 f=true∧g39 f=(bif dB f then fE f else false,dB f):=by
 refine aL (t:=T39 f) (P:=fun q=>q=(bif dB f then fE f else false,dB f)) ?_
 unfold T39;simp only[aF,aQ,aC,(oG f).1,(oG f).2,(jE f).1,(jE f).2,Bool.and_true,true_and];cases dB f<;>simp
end Go.Proofs.YtdipcnijfkdnfaaGreatFrames

namespace Go.Proofs.YtdipcnijfkdnfaaGreatFrames
open Go Go.Zq
set_option maxHeartbeats 4000000
set_option maxRecDepth 100000
theorem z6(b:Bool)(n:Int):GA b n=true∧FZ b n=bif b then n else 0:=by
 refine aL (t:=aEW b n) (P:=fun q=>q=bif b then n else 0) ?_
 unfold aEW;cases b<;>simp
theorem aJD{t:Int}{r:RM}(h:r.Ok t):aMR r.g=true∧aEY r.g=dA r:=by
 refine aL (t:=aEX r.g) (P:=fun q=>q=dA r) ?_
 have f:=bA.1 h.fw;have k:=bA.1 h.mw;have t1:=h.t1;have e1:dD 32 r.mask=32*r.mask:=iC (by omega)
 have b1: ∀(b:Bool)(n:Int),(bif b then n else 0)=0∨(bif b then n else 0)=n:=fun b n=>by cases b<;>simp
 have c1:=b1 r.sup 256;have c2:=b1 r.tr 512;unfold aEX dA;simp only[aF,aC,A6,FS,dL,kW,cV,dY,cL,cW,(z6 _ _).1,(z6 _ _).2,e1,aN,cC,Bool.and_true,true_and];rw[bK (x:=r.fl) (by omega),bK (x:=r.fl+32*r.mask) (by omega),bK (by omega)]
theorem TO{t:Int}{r:RM}(h:r.Ok t):RY r.g=true∧J6 r.g=dA r:=by
 refine aL (t:=DV r.g) (P:=fun q=>q=dA r) ?_
 have f:=bA.1 h.fw;have k:=bA.1 h.mw;have t1:=h.t1;have e1:dD 32 r.mask=32*r.mask:=iC (by omega)
 have b1: ∀(b:Bool)(n:Int),(bif b then n else 0)=0∨(bif b then n else 0)=n:=fun b n=>by cases b<;>simp
 have c1:=b1 r.sup 256;have c2:=b1 r.tr 512;unfold DV dA;simp only[aF,aC,DU,A6,FS,dL,kW,cV,dY,cL,cW,(z6 _ _).1,(z6 _ _).2,e1,aN,cC,Bool.and_true,Bool.and_self,true_and];rw[bK (x:=r.fl) (by omega),bK (x:=r.fl+32*r.mask) (by omega),bK (by omega)]
theorem TP{t:Int}{r:RM}(h:r.Ok t):LE r.g=true∧EV r.g=dA r:=by
 refine aL (t:=EU r.g) (P:=fun q=>q=dA r) ?_
 have f:=bA.1 h.fw;have k:=bA.1 h.mw;have t1:=h.t1;have e1:dD 32 r.mask=32*r.mask:=iC (by omega)
 have b1: ∀(b:Bool)(n:Int),(bif b then n else 0)=0∨(bif b then n else 0)=n:=fun b n=>by cases b<;>simp
 have c1:=b1 r.sup 256;have c2:=b1 r.tr 512;unfold EU dA;simp only[aF,aC,A6,FS,dL,kW,cV,dY,cL,cW,(z6 _ _).1,(z6 _ _).2,e1,aN,cC,Bool.and_true,Bool.and_self,true_and];rw[bK (x:=r.fl) (by omega),bK (x:=r.fl+32*r.mask) (by omega),bK (by omega)]
theorem aVN{t v:Int}{r:RM}(h:r.Ok t)(hv:cO v 0 1023=true):aSY v r.g=true∧aSX v r.g=(bZ r v).g:=by
 refine aL (t:=aE5 v r.g) (P:=fun q=>q=(bZ r v).g) ?_
 obtain⟨b1,b2,b3,b4,b5,-,-⟩:=qD h;obtain⟨c1,c2⟩:=X6 hv;have hv':=bA.1 hv;have e1:cM v 31=v%32:=oC 5 _ (by omega) (by decide)
 have e2:cM (xQ v 5) 7=v/32%8:=by rw[A0 (n:=5) 5 rfl (by omega)];exact oC 3 _ (by omega) (by decide)
 unfold aE5 bZ;simp only[aF,aQ,aC,RZ,DW,A6,FS,dL,kW,cV,dY,cL,cW,bG,bE,b1,b2,b3,b4,b5,c1,c2,e1,e2,fV,List.length_set,aN,cC,Bool.and_true,Bool.true_or,Bool.or_true,true_and];cases hs:eqI (v/256%2) 1<;>cases hp:r.sup<;>simp[uZ]<;>rfl
def qF(s:Bool)(f:aE):Int:=(bif f.Write then 1 else 0)+(bif s then 2 else 0)
theorem YF(w s:Bool):rM (bif w then 1 else 0) (bif s then 2 else 0)=(bif w then 1 else 0)+(bif s then 2 else 0):=by cases w<;>cases s<;>decide+kernel
theorem FO(c:aJ)(f:aE):aE1 c f=true∧aE0 c f=qF c.R.Super f:=by
 refine aL (t:=aEZ c f) (P:=fun q=>q=qF c.R.Super f) ?_
 unfold aEZ qF;simp only[aF,aC,(z6 _ _).1,(z6 _ _).2,YF,Bool.and_true,true_and]
theorem TQ(s:Bool)(f:aE):aNL s f=true∧aNK s f=qF s f:=by
 refine aL (t:=aGC s f) (P:=fun q=>q=qF s f) ?_
 unfold aGC qF;simp only[aF,aC,(LT _ _).1,(LT _ _).2,YF,Bool.and_true,true_and]
def eR(r:RM)(f:aE):List Int:=bif fE f then [f.PC,dA r,f.Word,f.Addr,qF r.sup f]else [f.PC,dA r]
theorem aOY{t:Int}{r:RM}{zs:List Int}{l:List aA}{s h:Bool}(f:aE)(hr:r.Ok t):aSR (bI r zs l s h) f=true∧J5 (bI r zs l s h) f=ri (eR r f):=by
 refine aL (t:=aE3 (bI r zs l s h) f) (P:=fun q=>q=ri (eR r f)) ?_
 obtain⟨a1,a2⟩:=aJD hr;unfold aE3 eR;simp only[aF,aQ,aC,aE2,show(bI r zs l s h).R=r.g from rfl,show(bI r zs l s h).Bus=jO zs l from rfl,a1,a2,(iD f).1,(iD f).2,(FO _ f).1,(FO _ f).2,aN,cC,dX,jT,cQ,jU,cL,Bool.and_true,Bool.and_self,true_and]
 cases fE f<;>simp<;>rfl
theorem aJE{t:Int}{r:RM}{zs:List Int}{l:List aA}{s h:Bool}(f:aE)(hr:r.Ok t):S5 (bI r zs l s h) f=true∧LF (bI r zs l s h) f=ri (eR r f):=by
 refine aL (t:=EW (bI r zs l s h) f) (P:=fun q=>q=ri (eR r f)) ?_
 obtain⟨a1,a2⟩:=TP hr;unfold EW eR;simp only[aF,aQ,aC,NL,show(bI r zs l s h).R=r.g from rfl,show(bI r zs l s h).Bus=jO zs l from rfl,a1,a2,(iD f).1,(iD f).2,(FO _ f).1,(FO _ f).2,aN,cC,dX,jT,cQ,jU,cL,Bool.and_true,Bool.and_self,true_and]
 cases fE f<;>simp<;>rfl
theorem YG{t:Int}{r:RM}(f:aE)(hr:r.Ok t):aNM r.g f=true∧EG r.g f=ri (eR r f):=by
 refine aL (t:=aGD r.g f) (P:=fun q=>q=ri (eR r f)) ?_
 obtain⟨a1,a2⟩:=aIR hr;unfold aGD eR;simp only[aF,aQ,aC,a1,a2,(jE f).1,(jE f).2,(TQ _ f).1,(TQ _ f).2,cL,Bool.and_true,true_and];cases fE f<;>simp<;>rfl
end Go.Proofs.YtdipcnijfkdnfaaGreatFrames

namespace Go.Proofs.YtdipcnijfkdnfaaGreatFrames
open Go Go.Zq
set_option maxHeartbeats 4000000
set_option maxRecDepth 100000
def pk(m:MM)(F:List Int):Nat→MM
 |0=>m
 |i+1=>bif cP (pk m F i)then cN (pk m F i) (F.getD i 0)else pk m F i
def FW(F:List Int):Prop:= ∀i:Nat,0≤F.getD i 0∧F.getD i 0≤65535
theorem z7{t:Int}{m:MM}{F:List Int}(hm:m.Ok t)(hF:FW F): ∀i,(pk m F i).Ok t
 |0=>hm
 |i+1=>z5 (P:=fun z=>MM.Ok t z) (fun _=>aON (z7 hm hF i) (hF i).1 (hF i).2) (fun _=>z7 hm hF i)
theorem LW(m:MM)(F:List Int): ∀i,(pk m F i).stop=m.stop
 |0=>rfl
 |i+1=>z5 (P:=fun z:MM=>z.stop=m.stop) (fun _=>(aAL _ _).trans (LW m F i)) (fun _=>LW m F i)
theorem aOZ{m:MM}{v:Int}(h:m.f=f0)(k:cP (cN m v)=true):(cN m v).f=f0:=by
 have e:(eJ m 2 2 ((dS m.r.a 3-2)%65536) v).1.f=f0∨cP (eJ m 2 2 ((dS m.r.a 3-2)%65536) v).1=false:=by
  unfold eJ cP;dsimp only;rw[h];cases hc:eV (bQ 2 2 ((dS m.r.a 3-2)%65536)) 0
  ·exact Or.inl rfl
  ·right
   cases eqI (bQ 2 2 ((dS m.r.a 3-2)%65536)) 2<;>rfl
 unfold cN at k⊢;cases hf:cP (eJ m 2 2 ((dS m.r.a 3-2)%65536) v).1
 ·rw[hf,cond_false,hf]at k;exact absurd k (by decide)
 ·rw[cond_true];rcases e with e|e
  ·exact e
  ·rw[e]at hf;exact absurd hf (by decide)
theorem aQQ{m:MM}{F:List Int}(h:m.f=f0): ∀i,cP (pk m F i)=true→(pk m F i).f=f0
 |0,_=>h
 |i+1,k=>by
  unfold pk at k⊢;cases hc:cP (pk m F i)
  ·rw[hc,cond_false,hc]at k;exact absurd k (by decide)
  ·rw[hc,cond_true]at k;exact aOZ (aQQ h i hc) k
theorem aQR{m:MM}{F:List Int}{i:Nat}(h:m.f=f0)(k:cP (pk m F i)=true):pk m F i=mm (pk m F i).r (pk m F i).zs (pk m F i).l m.stop:=by
 have e:=aQQ h i k;have s:=LW m F i;generalize pk m F i=p at e s;obtain⟨p1,p2,p3,p4,p5⟩:=p;dsimp only at e s;subst e s;rfl
theorem LX{m:MM}{F:List Int}{i:Nat}(h:cP (pk m F i)=false): ∀d,pk m F (i+d)=pk m F i
 |0=>rfl
 |d+1=>by
  have ih:=LX h d;show(bif cP (pk m F (i+d))then cN (pk m F (i+d)) (F.getD (i+d) 0)else pk m F (i+d))=_
  rw[ih,h];rfl
theorem A9{F:List Int}{i:Nat}(h:i<F.length):aU (ri F) i 0=F.getD i 0:=by
 rw[eO h,List.getD_eq_getElem?_getD,List.getElem?_eq_getElem h];rfl
theorem aO0{t:Int}{m:MM}{F:List Int}(hm:m.Ok t)(hF:FW F)(hl:F.length≤5)(f:aE)(c:aJ):aGX (V103_0.mk f c m.g (ri F) (F.length:Int) 0)=true∧aGW (V103_0.mk f c m.g (ri F) (F.length:Int) 0)=V103_0.mk f c (pk m F F.length).g (ri F) (F.length:Int) (F.length:Int):=by
 refine wV (N:=p7) (fun i=>V103_0.mk f c (pk m F i).g (ri F) (F.length:Int) (i:Int)) F.length (by omega) (fun i hi=>?_) ?_
 ·have hm':=z7 hm hF i;obtain⟨p1,p2⟩:=aU5 hm' (hF i).1 (hF i).2;have l1:ltI (i:Int) (F.length:Int)=true:=by rw[cK];omega
  have l3:leI 0 (i:Int)=true:=by simp
  have a1:aR (i:Int) 1=((i+1:Nat):Int):=by rw[bK (by omega)];omega
  have b1:dC [.int .i64] (ri F) i 0=true:=wU ⟨F,rfl⟩ (by rw[bE];exact hi)
  unfold p7;simp only[aF,aQ,aC,ER,EQ,uQ,uP,fU,uO,uN,nW,Z6,FF,wX,mU,A6,FS,dL,kW,cV,dY,cL,cW,bG,bE,l1,l3,a1,b1,Int.toNat_natCast,Nat.zero_add,A9 hi,p1,p2,TJ,aN,cC,dX,jT,cQ,jU,Bool.and_true,true_and,Bool.true_eq_false,false_implies,and_true,forall_const];refine⟨fun q=>?_,fun q=>?_⟩
  ·have q':cP (pk m F i)=true:=q;show _=some (V103_0.mk f c (MM.g (bif cP (pk m F i)then cN (pk m F i) (F.getD i 0)else pk m F i)) (ri F) (F.length:Int) ((i+1:Nat):Int))
   rw[q',cond_true]
  ·have q':cP (pk m F i)=false:=q;show _=some (V103_0.mk f c (MM.g (bif cP (pk m F i)then cN (pk m F i) (F.getD i 0)else pk m F i)) (ri F) (F.length:Int) ((i+1:Nat):Int))
   rw[q',cond_false]
 ·have l1:ltI (F.length:Int) (F.length:Int)=false:=by simp
  unfold p7;simp only[aF,aQ,aC,l1,true_and,Bool.false_eq_true,false_implies,implies_true]
end Go.Proofs.YtdipcnijfkdnfaaGreatFrames

namespace Go.Proofs.YtdipcnijfkdnfaaGreatFrames
open Go Go.Zq
set_option maxHeartbeats 4000000
set_option maxRecDepth 100000
theorem aO1{t:Int}{r:RM}{zs:List Int}{l:List aA}{F:List Int}(s h:Bool)(f:aE)(hr:r.Ok t)(hb:BusOk zs l)(hF:FW F)(hl:F.length≤5):aFI (V102_0.mk (bI r zs l s h) f (ri F) (F.length:Int) 0)=true∧ ∃j:Nat,j≤F.length∧aFH (V102_0.mk (bI r zs l s h) f (ri F) (F.length:Int) 0)=V102_0.mk (bI (pk (mm r zs l s) F j).r (pk (mm r zs l s) F j).zs (pk (mm r zs l s) F j).l s h) f (ri F) (F.length:Int) (j:Int)∧cP (pk (mm r zs l s) F j)=true∧(j<F.length→cP (cN (pk (mm r zs l s) F j) (F.getD j 0))=false):=by
 have hm:(mm r zs l s).Ok t:=⟨hr,hb⟩;refine fA (Post:=fun w=> ∃j:Nat,j≤F.length∧w=V102_0.mk (bI (pk (mm r zs l s) F j).r (pk (mm r zs l s) F j).zs (pk (mm r zs l s) F j).l s h) f (ri F) (F.length:Int) (j:Int)∧cP (pk (mm r zs l s) F j)=true∧(j<F.length→cP (cN (pk (mm r zs l s) F j) (F.getD j 0))=false)) (cU (fun(n:Nat) (v:V102_0)=> ∃i:Nat,i+n=F.length∧v=V102_0.mk (bI (pk (mm r zs l s) F i).r (pk (mm r zs l s) F i).zs (pk (mm r zs l s) F i).l s h) f (ri F) (F.length:Int) (i:Int)∧cP (pk (mm r zs l s) F i)=true) _ ?_ 2097152 F.length _ ⟨0,by omega,rfl,rfl⟩ (by omega))
 rintro n v ⟨i,hi,rfl,hf⟩
 have hm':=z7 hm hF i;have e:=aQR (m:=mm r zs l s) (F:=F) (i:=i) rfl hf;obtain⟨p1,p2⟩:=aJA (s:=s) (h:=h) hm'.r hm'.b (hF i).1 (hF i).2;have pf:=aAK (pk (mm r zs l s) F i).r (pk (mm r zs l s) F i).zs (pk (mm r zs l s) F i).l s (F.getD i 0);rw[show mm (pk (mm r zs l s) F i).r (pk (mm r zs l s) F i).zs (pk (mm r zs l s) F i).l s=pk (mm r zs l s) F i from e.symm]at p2 pf
 rcases Nat.lt_or_ge i F.length with hlt|hge
 ·have l1:ltI (i:Int) (F.length:Int)=true:=by rw[cK];omega
  have l3:leI 0 (i:Int)=true:=by simp
  have a1:aR (i:Int) 1=((i+1:Nat):Int):=by rw[bK (by omega)];omega
  have b1:dC [.int .i64] (ri F) i 0=true:=wU ⟨F,rfl⟩ (by rw[bE];exact hlt)
  have N: ∀(x:Int),eV x 0=!eqI x 0:=fun x=>by
   cases hx:eqI x 0
   ·rw[oL]at hx;exact AZ.2 hx
   ·rw[f8]at hx;exact aH5.2 hx
  unfold uK;simp only[aF,aQ,aC,uJ,uI,e5,uH,show(bI (pk (mm r zs l s) F i).r (pk (mm r zs l s) F i).zs (pk (mm r zs l s) F i).l s h).R=(pk (mm r zs l s) F i).r.g from rfl,show(bI (pk (mm r zs l s) F i).r (pk (mm r zs l s) F i).zs (pk (mm r zs l s) F i).l s h).Bus=jO (pk (mm r zs l s) F i).zs (pk (mm r zs l s) F i).l from rfl,A6,FS,dL,kW,cV,dY,cL,cW,bG,bE,l1,l3,a1,b1,Int.toNat_natCast,Nat.zero_add,A9 hlt,p1,p2,N,←pf,aN,cC,dX,jT,cQ,jU,Bool.and_true,true_and,Bool.true_eq_false,false_implies,and_true,forall_const]
  refine⟨fun q=>?_,fun q=>?_⟩
  ·have q':=aIS q;exact⟨i,by omega,rfl,hf,fun _=>q'⟩
  ·have q':=aQN q;have e1:pk (mm r zs l s) F (i+1)=cN (pk (mm r zs l s) F i) (F.getD i 0):=by
    show(bif cP (pk (mm r zs l s) F i)then cN (pk (mm r zs l s) F i) (F.getD i 0)else pk (mm r zs l s) F i)=_
    rw[hf,cond_true]
   refine⟨n-1,by omega,i+1,by omega,?_,?_⟩
   ·rw[e1]
   ·rw[e1];exact q'
 ·obtain rfl:i=F.length:=by omega
  have l1:ltI (F.length:Int) (F.length:Int)=false:=by simp
  unfold uK;simp only[aF,aQ,aC,l1,true_and,Bool.false_eq_true,false_implies,forall_const];exact⟨F.length,by omega,rfl,hf,fun h=>absurd h (by omega)⟩
end Go.Proofs.YtdipcnijfkdnfaaGreatFrames

namespace Go.Proofs.YtdipcnijfkdnfaaGreatFrames
open Go Go.Zq
set_option maxHeartbeats 4000000
set_option maxRecDepth 100000
theorem c_R(r:RM)(zs:List Int)(l:List aA)(s h:Bool):(bI r zs l s h).R=r.g:=rfl
theorem c_B(r:RM)(zs:List Int)(l:List aA)(s h:Bool):(bI r zs l s h).Bus=jO zs l:=rfl
theorem c_S(r:RM)(zs:List Int)(l:List aA)(s h:Bool):(bI r zs l s h).Stop=s:=rfl
theorem c_H(r:RM)(zs:List Int)(l:List aA)(s h:Bool):(bI r zs l s h).Halt=h:=rfl
theorem a34(r:RM)(zs:List Int)(l:List aA)(s h:Bool):aJ.mk r.g (jO zs l) s h=bI r zs l s h:=rfl
def aO2(P:MM)(q:MM×Int):aJ:=bif cP q.1 then bI {P.r with pc:=q.2} q.1.zs q.1.l false false else bI P.r q.1.zs q.1.l false true
def aAM(P:MM)(vec:Int):aJ:=bif cP P then aO2 P (eJ P 1 2 (2*vec) 0)else bI P.r P.zs P.l false true
def GD(m:MM)(F:List Int)(vec:Int):aJ:=aAM (pk m F F.length) vec
def vE(r:RM):Int:=r.fl+32*r.mask+256
theorem bDA{r:RM}(h:r.Ok 65535):rM (AO (dA r) 512) 256=vE r∧cO (vE r) 0 1023=true:=by
 have f:=bA.1 h.fw;have k:=bA.1 h.mw;have key: ∀n:Fin 1024,rM (AO (n.val:Int) 512) 256=(n.val:Int)%256+256:=by decide+kernel
 have hs:dA r=r.fl+32*r.mask+(bif r.sup then 256 else 0)+(bif r.tr then 512 else 0):=rfl
 have b1: ∀(b:Bool)(n:Int),(bif b then n else 0)=0∨(bif b then n else 0)=n:=fun b n=>by cases b<;>simp
 have c1:=b1 r.sup 256;have c2:=b1 r.tr 512;have r0:0≤dA r∧dA r<1024∧dA r%256=r.fl+32*r.mask:=by omega
 obtain⟨n,hn⟩:=Int.eq_ofNat_of_zero_le r0.1;refine⟨?_,by rw[bA];unfold vE;omega⟩
 have kk:=key ⟨n,by omega⟩
 unfold vE;rw[←r0.2.2,hn];exact kk
theorem FP{f:aE}(h:dB f=true):(2≤f.Vector∧f.Vector≤21)∧(0≤f.PC∧f.PC≤65535)∧(0≤f.Addr∧f.Addr≤65535)∧(0≤f.Word∧f.Word≤65535):=by
 unfold dB at h;simp only[Bool.and_eq_true,bA]at h;exact⟨h.1,h.2.1,h.2.2.1,h.2.2.2.1⟩
theorem YH{t:Int}{r:RM}{f:aE}(hr:r.Ok t)(h:dB f=true):FW (eR r f)∧(eR r f).length≤5:=by
 obtain⟨h1,h2,h3,h4⟩:=FP h;have s:=TL hr;have i:0≤qF r.sup f∧qF r.sup f≤65535:=by
  unfold qF;cases f.Write<;>cases r.sup<;>simp
 unfold eR;cases fE f
 ·refine⟨fun n=>?_,by simp⟩
  match n with
  |0=>exact h2
  |1=>exact s
  |n+2=>exact⟨by simp,by simp⟩
 ·refine⟨fun n=>?_,by simp⟩
  match n with
  |0=>exact h2
  |1=>exact s
  |2=>exact h4
  |3=>exact h3
  |4=>exact i
  |n+5=>exact⟨by simp,by simp⟩
theorem w5{m:MM}{v:Int}(h:2≤v∧v≤21):AccOk 2 0 (2*v) m:=⟨Or.inr rfl,by decide,by rw[bA];omega⟩
theorem aO3{r:RM}{zs:List Int}{l:List aA}{s:Bool}{f:aE}(hr:r.Ok 65535)(hb:BusOk zs l)(hg:dB f=true):aS9 f (bI r zs l s false)=true∧R8 f (bI r zs l s false)=GD (mm (bZ r (vE r)) zs l false) (eR r f) f.Vector:=by
 refine aL (t:=aFJ f (bI r zs l s false)) (P:=fun q=>q=GD (mm (bZ r (vE r)) zs l false) (eR r f) f.Vector) ?_
 obtain⟨gv,-⟩:=FP hg;obtain⟨v1,v2⟩:=bDA hr;obtain⟨st1,st2⟩:=TO hr;obtain⟨ss1,ss2⟩:=aVN hr v2;obtain⟨fr1,fr2⟩:=aOY (zs:=zs) (l:=l) (s:=s) (h:=false) f hr;obtain⟨w1,w2⟩:=YH hr hg;have hr':(bZ r (vE r)).Ok 65535:=A7 hr;have hm:(mm (bZ r (vE r)) zs l false).Ok 65535:=⟨hr',hb⟩;obtain⟨e1,j,hj,e2,e3,e4⟩:=aO1 false false f hr' hb w1 w2;have em:dD 2 f.Vector=2*f.Vector:=iC (by omega)
 have hp:=z7 hm w1 j;have pj:=aQR (m:=mm (bZ r (vE r)) zs l false) (F:=eR r f) (i:=j) rfl e3;have hP:(if j<(eR r f).length then pk (mm (bZ r (vE r)) zs l false) (eR r f) (eR r f).length=cN (pk (mm (bZ r (vE r)) zs l false) (eR r f) j) ((eR r f).getD j 0)else pk (mm (bZ r (vE r)) zs l false) (eR r f) (eR r f).length=pk (mm (bZ r (vE r)) zs l false) (eR r f) j):=by
  split
  ·rename_i hlt;have s1:pk (mm (bZ r (vE r)) zs l false) (eR r f) (j+1)=cN (pk (mm (bZ r (vE r)) zs l false) (eR r f) j) ((eR r f).getD j 0):=by
    show(bif cP (pk (mm (bZ r (vE r)) zs l false) (eR r f) j)then cN (pk (mm (bZ r (vE r)) zs l false) (eR r f) j) ((eR r f).getD j 0)else pk (mm (bZ r (vE r)) zs l false) (eR r f) j)=_
    rw[e3,cond_true]
   have s2:=LX (m:=mm (bZ r (vE r)) zs l false) (F:=eR r f) (i:=j+1) (by rw[s1];exact e4 hlt) ((eR r f).length-(j+1))
   rw[show j+1+((eR r f).length-(j+1))=(eR r f).length by omega]at s2
   rw[s2,s1]
  ·rw[show j=(eR r f).length by omega]
 obtain⟨p1,p2⟩:=aJA (s:=false) (h:=false) hp.r hp.b (w1 j).1 (w1 j).2;obtain⟨t1,t2⟩:=LS (k:=1) (a:=2*f.Vector) ((w5 gv).t hp) (w5 (m:=pk (mm (bZ r (vE r)) zs l false) (eR r f) j) gv).ha (fun _=>rfl)
 have t1':NE 1 2 (2*f.Vector) 0 (jO (pk (mm (bZ r (vE r)) zs l false) (eR r f) j).zs (pk (mm (bZ r (vE r)) zs l false) (eR r f) j).l)=true:=t1;have t2':=t2;rw[show(aO.mk (ri (pk (mm (bZ r (vE r)) zs l false) (eR r f) j).zs) ((pk (mm (bZ r (vE r)) zs l false) (eR r f) j).l.map aA.row))=jO (pk (mm (bZ r (vE r)) zs l false) (eR r f) j).zs (pk (mm (bZ r (vE r)) zs l false) (eR r f) j).l from rfl]at t2'
 have fc:=iU (m:=pk (mm (bZ r (vE r)) zs l false) (eR r f) j) (k:=1) (s:=2) (a:=2*f.Vector) (v:=0) (by unfold cP at e3;simpa using e3)
 rw[show mm (pk (mm (bZ r (vE r)) zs l false) (eR r f) j).r (pk (mm (bZ r (vE r)) zs l false) (eR r f) j).zs (pk (mm (bZ r (vE r)) zs l false) (eR r f) j).l false=pk (mm (bZ r (vE r)) zs l false) (eR r f) j from pj.symm]at p2
 clear pj
 unfold GD;generalize pk (mm (bZ r (vE r)) zs l false) (eR r f) j=p at*;have N: ∀(x:Int),eV x 0=!eqI x 0:=fun x=>by
  cases hx:eqI x 0
  ·rw[oL]at hx;exact AZ.2 hx
  ·rw[f8]at hx;exact aH5.2 hx
 unfold aFJ;rcases Nat.lt_or_ge j (eR r f).length with hlt|hge
 ·rw[if_pos hlt]at hP;rw[hP];have l1:ltI (j:Int) ((eR r f).length:Int)=true:=by rw[cK];omega
  have nf:=e4 hlt;simp only[aF,aQ,aC,AX,AW,lN,AV,AU,AT,AS,R7,R6,R5,R4,cS,KI,KH,pX,yN,KG,c_R,c_B,c_S,c_H,a34,A6,FS,dL,kW,cV,dY,cL,cW,bG,bE,st1,st2,v1,ss1,ss2,fr1,fr2,e1,e2,l1,Int.toNat_natCast,Nat.zero_add,A9 hlt,p1,p2,aN,cC,dX,jT,cQ,jU,z4,FG,Bool.and_true,Bool.and_self,true_and,Bool.true_eq_false,false_implies,and_true,forall_const];unfold aAM;rw[nf];exact⟨by simp,rfl⟩
 ·rw[if_neg (by omega)]at hP
  rw[hP];obtain rfl:j=(eR r f).length:=by omega
  have l1:ltI ((eR r f).length:Int) ((eR r f).length:Int)=false:=by simp
  simp only[aF,aQ,aC,AX,AW,lN,AV,AU,AT,AS,R7,R6,R5,R4,cS,KI,KH,pX,yN,KG,c_R,c_B,c_S,c_H,a34,A6,FS,dL,kW,cV,dY,cL,cW,bG,bE,st1,st2,v1,ss1,ss2,fr1,fr2,e1,e2,l1,em,t1',t2',N,show eqI 1 2=false from rfl,cond_false,Int.toNat_natCast,Nat.zero_add,aN,cC,dX,jT,cQ,jU,z4,FG,Bool.and_true,Bool.and_self,true_and,Bool.false_eq_true,false_implies,and_true,forall_const]
  unfold aAM aO2;rw[e3,fc,cond_true];refine⟨by simp,fun q=>?_,fun q=>?_⟩
  ·rw[aIS q];rfl
  ·rw[aQN q];rfl
end Go.Proofs.YtdipcnijfkdnfaaGreatFrames

namespace Go.Proofs.YtdipcnijfkdnfaaGreatFrames
open Go Go.Zq
set_option maxHeartbeats 4000000
set_option maxRecDepth 100000
theorem aVO(m:MM)(r:RM):(bL.mk r.g (jO m.zs m.l) false m.f)=MM.g {m with r:=r,stop:=false}:=rfl
theorem g_B(m:MM):m.g.fbus=jO m.zs m.l:=rfl
theorem aO4(m:MM)(b:Bool)(v:Int):cN {m with stop:=b} v={cN m v with stop:=b}:=by
 have a:eJ {m with stop:=b} 2 2 ((dS m.r.a 3-2)%65536) v=({(eJ m 2 2 ((dS m.r.a 3-2)%65536) v).1 with stop:=b},(eJ m 2 2 ((dS m.r.a 3-2)%65536) v).2):=rfl
 unfold cN;show(bif cP (eJ {m with stop:=b} 2 2 ((dS m.r.a 3-2)%65536) v).1 then _ else _)=_
 rw[a];show(bif cP (eJ m 2 2 ((dS m.r.a 3-2)%65536) v).1 then _ else _)=_
 cases cP (eJ m 2 2 ((dS m.r.a 3-2)%65536) v).1<;>rfl
theorem aQT(m:MM)(F:List Int)(b:Bool): ∀i,pk {m with stop:=b} F i={pk m F i with stop:=b}
 |0=>rfl
 |i+1=>by
  show(bif cP (pk {m with stop:=b} F i)then cN (pk {m with stop:=b} F i) (F.getD i 0)else pk {m with stop:=b} F i)={(bif cP (pk m F i)then cN (pk m F i) (F.getD i 0)else pk m F i)with stop:=b}
  rw[aQT m F b i];show(bif cP (pk m F i)then cN {pk m F i with stop:=b} (F.getD i 0)else{pk m F i with stop:=b})=_
  rw[aO4];cases cP (pk m F i)<;>rfl
theorem bDB{fl mk:Int}(h1:cO fl 0 31=true)(h2:cO mk 0 7=true):rM (rM fl (dD 32 mk)) 256=fl+32*mk+256:=by
 rw[bA]at h1 h2;obtain⟨a,rfl⟩:=Int.eq_ofNat_of_zero_le h1.1;obtain⟨b,rfl⟩:=Int.eq_ofNat_of_zero_le h2.1;have key: ∀a:Fin 32,∀b:Fin 8,rM (rM (a.val:Int) (dD 32 (b.val:Int))) 256=(a.val:Int)+32*(b.val:Int)+256:=by decide+kernel
 exact key ⟨a,by omega⟩ ⟨b,by omega⟩
theorem aO5{r:RM}{zs:List Int}{l:List aA}{s h:Bool}{f:aE}{mk:Int}(hr:r.Ok 65535)(hb:BusOk zs l)(hg:dB f=true)(hk:cO mk 0 7=true):aT1 (bI r zs l s h) f mk=true∧SZ (bI r zs l s h) f mk=GD (mm (bZ r (r.fl+32*mk+256)) zs l false) (eR r f) f.Vector:=by
 refine aL (t:=aGY (bI r zs l s h) f mk) (P:=fun q=>q=GD (mm (bZ r (r.fl+32*mk+256)) zs l false) (eR r f) f.Vector) ?_
 obtain⟨gv,-⟩:=FP hg;have v1:=bDB hr.fw hk;have v2:cO (r.fl+32*mk+256) 0 1023=true:=by
  have h1:=bA.1 hr.fw;have h2:=bA.1 hk;rw[bA];omega
 generalize r.fl+32*mk+256=v at*;obtain⟨d1,d2⟩:=aOO (s:=s) (h:=h) hr hb;have d2':AG (bI r zs l s h)=(mm r zs l s).g:=d2;obtain⟨ss1,ss2⟩:=aU7 hr v2;obtain⟨fr1,fr2⟩:=YG f hr;obtain⟨w1,w2⟩:=YH hr hg;have hr':(bZ r v).Ok 65535:=A7 hr;have hm:(mm (bZ r v) zs l s).Ok 65535:=⟨hr',hb⟩;obtain⟨e1,e2⟩:=aO0 hm w1 w2 f ⟨⟨[],[],0,0,0,0,false,false⟩,⟨[],[]⟩,false,false⟩;have em:dD 2 f.Vector=2*f.Vector:=iC (by omega)
 have hp:=z7 hm w1 (eR r f).length;have pe:GD (mm (bZ r v) zs l false) (eR r f) f.Vector=aAM {pk (mm (bZ r v) zs l s) (eR r f) (eR r f).length with stop:=false} f.Vector:=by
  unfold GD;rw[←aQT];rfl
 rw[pe];generalize pk (mm (bZ r v) zs l s) (eR r f) (eR r f).length=p at*;obtain⟨a1,a2⟩:=aQL (k:=1) hp (w5 gv);obtain⟨o1,o2⟩:=LU (k:=1) hp (w5 gv) (by decide)
 have ae:eJ {p with stop:=false} 1 2 (2*f.Vector) 0=({(eJ p 1 2 (2*f.Vector) 0).1 with stop:=false},(eJ p 1 2 (2*f.Vector) 0).2):=rfl
 have ar:(eJ p 1 2 (2*f.Vector) 0).1.r=p.r:=rfl;have am:mm r zs l s=⟨r,zs,l,s,f0⟩:=rfl;generalize eJ p 1 2 (2*f.Vector) 0=q at*;have c1:=aIT (m:={p with stop:=false}) (t:=65535) ⟨hp.r,hp.b⟩
 have c2:=aIT (m:={q.1 with stop:=false}) (t:=65535) ⟨o1.r,o1.b⟩
 have c3:=aIT (m:={q.1 with r:={q.1.r with pc:=q.2},stop:=false}) (t:=65535) ⟨o1.r.setP (by rw[bA];exact FI o2),o1.b⟩
 have b0:(bL.mk (bZ r v).g (jO zs l) s f0)=(mm (bZ r v) zs l s).g:=rfl;unfold aGY;simp only[aF,aQ,aC,LD,XJ,XI,XH,XG,j3,LC,XF,XE,XD,XC,j0,LB,XB,XA,WZ,WY,jZ,rG,LA,oA,nZ,nY,nX,iA,wT,KZ,yU,yT,yS,yR,jJ,SY,SX,uR,SW,KY,d1,d2',show(mm r zs l s).g.fr=r.g from rfl,show(mm r zs l s).g.fbus=jO zs l from rfl,show(mm r zs l s).g.fstop=s from rfl,show(mm r zs l s).g.ffault=f0 from rfl,A6,FS,dL,kW,cV,dY,cL,cW,bG,bE,v1,ss1,ss2,fr1,fr2,b0,e1,e2,em,a1,a2,Z6,g_B,wX,mU,TK,aVO,c1,c2,c3,TJ,z4,FG,aN,cC,dX,jT,cQ,jU,Bool.and_true,Bool.and_self,true_and]
 unfold aAM aO2;rw[ae];have X: ∀z:aJ,(z=bif cP p then(bif cP q.1 then bI {p.r with pc:=q.2} q.1.zs q.1.l false false else bI p.r q.1.zs q.1.l false true)else bI p.r p.zs p.l false true)→z=bif cP {p with stop:=false}then(bif cP ({q.1 with stop:=false}:MM)then bI {p.r with pc:=q.2} q.1.zs q.1.l false false else bI p.r q.1.zs q.1.l false true)else bI p.r p.zs p.l false true:=fun z h=>h
 refine⟨by simp,fun h1=>⟨fun h2=>X _ ?_,fun h2=>X _ ?_⟩,fun h1=>X _ ?_⟩
 ·rw[show cP p=true from h1,show cP q.1=true from h2,h2,ar,cond_true,cond_true];rfl
 ·rw[show cP p=true from h1,show cP q.1=false from h2,h2,ar,cond_true,cond_false];rfl
 ·rw[show cP p=false from h1,h1,cond_false];rfl
end Go.Proofs.YtdipcnijfkdnfaaGreatFrames

namespace Go.Proofs.YtdipcnijfkdnfaaGreatFrames
open Go Go.Zq
set_option maxHeartbeats 4000000
set_option maxRecDepth 100000
def GE(r:RM)(zs:List Int)(l:List aA)(s h:Bool)(f:aE):aJ×Bool:=bif dU r zs l s h&&(dB f&&!h)then(GD (mm (bZ r (vE r)) zs l false) (eR r f) f.Vector,true)else(zC,false)
theorem aJF{r:RM}{zs:List Int}{l:List aA}(s h:Bool)(f:aE)(m:Sm r zs l):k24 (bI r zs l s h) f=true∧g24 (bI r zs l s h) f=GE r zs l s h f:=by
 refine aL (t:=T24 (bI r zs l s h) f) (P:=fun q=>q=GE r zs l s h f) ?_
 obtain⟨a1,a2⟩:=rL s h m;obtain⟨b1,b2⟩:=oF f;obtain⟨c1,c2⟩:=aI9 (m.len s h);unfold T24 GE;cases hg:dU r zs l s h
 ·simp only[aF,aQ,aC,D8,NG,HH,a1,a2,b1,b2,hg,Bool.not_false,Bool.not_true,Bool.false_and,cond_true,cond_false,Bool.true_or,Bool.or_true,Bool.and_true,true_and,Bool.true_eq_false,false_implies,and_true,forall_const];rfl
 ·cases hf:dB f
  ·cases h<;>(simp only[aF,aQ,aC,D8,NG,HH,a1,a2,b1,b2,c_H,hg,hf,Bool.not_false,Bool.not_true,Bool.and_false,Bool.false_and,cond_true,cond_false,Bool.true_or,Bool.or_true,Bool.and_true,true_and,Bool.true_eq_false,false_implies,and_true,forall_const];rfl)
  ·cases h
   ·obtain⟨g1,g2⟩:=lQ hg;obtain⟨p1,p2⟩:=aO3 (s:=s) g1 g2 hf;simp only[aF,aQ,aC,D8,NG,HH,a1,a2,b1,b2,c1,c2,p1,p2,c_H,hg,hf,aN,cC,Bool.not_false,Bool.not_true,Bool.and_self,cond_true,cond_false,Bool.true_or,Bool.or_true,Bool.and_true,true_and,Bool.false_eq_true,false_implies,forall_const]
   ·simp only[aF,aQ,aC,D8,NG,HH,a1,a2,b1,b2,c_H,hg,hf,Bool.not_false,Bool.not_true,Bool.and_false,cond_true,cond_false,Bool.true_or,Bool.or_true,Bool.and_true,true_and,Bool.true_eq_false,false_implies,and_true,forall_const];rfl
theorem aJG{r:RM}{zs:List Int}{l:List aA}(s h:Bool)(f:aE)(m:Sm r zs l):k25 (bI r zs l s h) f=true∧g25 (bI r zs l s h) f=GE r zs l s h f:=by
 refine aL (t:=T25 (bI r zs l s h) f) (P:=fun q=>q=GE r zs l s h f) ?_
 obtain⟨a1,a2⟩:=A8 s h m;obtain⟨b1,b2⟩:=oG f;unfold T25 GE;cases hg:dU r zs l s h
 ·simp only[aF,aQ,aC,ET,NK,NJ,a1,a2,b1,b2,hg,Bool.not_false,Bool.not_true,Bool.false_and,cond_true,cond_false,Bool.true_or,Bool.or_true,Bool.and_true,true_and,Bool.true_eq_false,false_implies,and_true,forall_const];rfl
 ·cases hf:dB f
  ·cases h<;>(simp only[aF,aQ,aC,ET,NK,NJ,a1,a2,b1,b2,c_H,hg,hf,Bool.not_false,Bool.not_true,Bool.and_false,Bool.false_and,cond_true,cond_false,Bool.true_or,Bool.or_true,Bool.and_true,true_and,Bool.true_eq_false,false_implies,and_true,forall_const];rfl)
  ·cases h
   ·obtain⟨g1,g2⟩:=lQ hg;obtain⟨p1,p2⟩:=aO5 (s:=s) (h:=false) g1 g2 hf g1.mw;simp only[aF,aQ,aC,ET,NK,NJ,a1,a2,b1,b2,c_H,c_R,dY,p1,p2,hg,hf,aN,cC,Bool.not_false,Bool.not_true,Bool.and_self,cond_true,cond_false,Bool.true_or,Bool.or_true,Bool.and_true,true_and,Bool.false_eq_true,false_implies,forall_const];rfl
   ·simp only[aF,aQ,aC,ET,NK,NJ,a1,a2,b1,b2,c_H,hg,hf,Bool.not_false,Bool.not_true,Bool.and_false,cond_true,cond_false,Bool.true_or,Bool.or_true,Bool.and_true,true_and,Bool.true_eq_false,false_implies,and_true,forall_const];rfl
def frO(r:RM)(zs:List Int)(l:List aA)(s h:Bool)(f:aE):List Row×Bool:=bif dU r zs l s h&&dB f then(ri (eR r f),true)else([],false)
theorem aJH{r:RM}{zs:List Int}{l:List aA}(s h:Bool)(f:aE)(m:Sm r zs l):k26 (bI r zs l s h) f=true∧g26 (bI r zs l s h) f=frO r zs l s h f:=by
 refine aL (t:=T26 (bI r zs l s h) f) (P:=fun q=>q=frO r zs l s h f) ?_
 obtain⟨a1,a2⟩:=rL s h m;obtain⟨b1,b2⟩:=oF f;unfold T26 frO;cases hg:dU r zs l s h
 ·cases hf:dB f<;>simp[a1,a2,b1,b2,hg,hf]
 ·cases hf:dB f
  ·simp[a1,a2,b1,b2,hg,hf]
  ·obtain⟨p1,p2⟩:=aJE (zs:=zs) (l:=l) (s:=s) (h:=h) f (lQ hg).1;simp only[aF,aQ,aC,XL,a1,a2,b1,b2,hg,hf,p1,p2,dX,jT,cQ,jU,aN,cC,Bool.not_true,Bool.and_true,Bool.and_self,cond_true,cond_false,Bool.or_false,Bool.true_or,Bool.or_true,true_and,Bool.false_eq_true,false_implies,forall_const]
theorem aJI{r:RM}{zs:List Int}{l:List aA}(s h:Bool)(f:aE)(m:Sm r zs l):k27 (bI r zs l s h) f=true∧g27 (bI r zs l s h) f=frO r zs l s h f:=by
 refine aL (t:=T27 (bI r zs l s h) f) (P:=fun q=>q=frO r zs l s h f) ?_
 obtain⟨a1,a2⟩:=A8 s h m;obtain⟨b1,b2⟩:=oG f;unfold T27 frO;cases hg:dU r zs l s h
 ·cases hf:dB f<;>simp[a1,a2,b1,b2,hg,hf]
 ·cases hf:dB f
  ·simp[a1,a2,b1,b2,hg,hf]
  ·obtain⟨p1,p2⟩:=YG f (lQ hg).1;simp only[aF,aQ,aC,XM,a1,a2,b1,b2,hg,hf,c_R,p1,p2,dX,jT,cQ,jU,aN,cC,Bool.not_true,Bool.and_true,Bool.and_self,cond_true,cond_false,Bool.or_false,Bool.true_or,Bool.or_true,true_and,Bool.false_eq_true,false_implies,forall_const]
end Go.Proofs.YtdipcnijfkdnfaaGreatFrames

namespace Go.Proofs.YtdipcnijfkdnfaaGreatFrames
open Go Go.Zq
set_option maxHeartbeats 4000000
set_option maxRecDepth 100000
theorem LY{c:aB}{B:Int}(h:CO B c)(hB:B<1000000000000000000):aDT c=true∧CO (B+100) (aDS c).1:=by
 refine aL (t:=aDR c) (P:=fun q=>CO (B+100) q.1) ?_
 obtain⟨a1,a2,-⟩:=rJ (r:=[(aH 2),(aH 3),(aH 4),(aH 5),(aH 8),(aH 9),(aH 11),(aH 18),(aH 21)]) ⟨[2,3,4,5,8,9,11,18,21],rfl⟩ (by decide) h (by omega)
 obtain⟨b1,b2,-⟩:=bY 200 a2 (by omega)
 obtain⟨c1,c2⟩:=aOP b2 (by omega)
 obtain⟨d1,d2,-⟩:=rJ (r:=[(aH 1),(aH 448),(aH 65535),(aH 500)]) ⟨[1,448,65535,500],rfl⟩ (by decide) c2 (by omega)
 obtain⟨e1,e2⟩:=mT 2 d2 (by omega)
 obtain⟨f1,f2⟩:=mT 30 e2 (by omega)
 obtain⟨i1,i2,-⟩:=rJ (r:=[(aH 0),(aH 1),(aH 22)]) ⟨[0,1,22],rfl⟩ (by decide) f2 (by omega)
 obtain⟨j1,j2⟩:=mT 30 c2 (by omega)
 obtain⟨l1,l2,-⟩:=rJ (r:=[(aH 0),(aH 1),(aH 22)]) ⟨[0,1,22],rfl⟩ (by decide) j2 (by omega)
 have lg: ∀v:Int,NC v=true:=fun v=>(jE ⟨v,0,0,0,false⟩).1
 have m1:=i2.mono (C:=B+100) (by omega)
 have m2:=f2.mono (C:=B+100) (by omega)
 have m3:=l2.mono (C:=B+100) (by omega)
 have m4:=j2.mono (C:=B+100) (by omega)
 unfold aDR;simp only[aF,aQ,aC,QV,QU,DK,pU,jI,jH,a1,b1,c1,d1,e1,f1,i1,j1,l1,lg,Bool.and_true,true_and];exact⟨fun _=>⟨fun _=>m1,fun _=>m2⟩,fun _=>⟨fun _=>m3,fun _=>m4⟩⟩
end Go.Proofs.YtdipcnijfkdnfaaGreatFrames

namespace Go.Proofs.YtdipcnijfkdnfaaGreatFrames
open Go Go.Zq
set_option maxHeartbeats 4000000
set_option maxRecDepth 100000
theorem TR{x:List Row}(h:bytesOk x=true):k23 x=true∧CG 65536 (rN x).1:=by
 refine aL (t:=T23 x) (P:=fun q=>CG 65536 q.1) ?_
 obtain⟨a1,a2,a3⟩:=aI5 (aOQ h) (by decide)
 obtain⟨b1,b2⟩:=LY a2 (by decide)
 unfold T23;simp only[aF,aC,VN,aP1,aP0,aPZ,aPY,a1,b1,aN,cC,dX,jT,cQ,jU,Bool.and_true,true_and];exact a3
theorem aO6{x:List Row}(h:bytesOk x=true):aHM x=true∧CG 65536 (zX x).1:=by
 refine aL (t:=NP x) (P:=fun q=>CG 65536 q.1) ?_
 obtain⟨a1,a2,a3⟩:=aI5 (aOQ h) (by decide)
 obtain⟨b1,b2⟩:=LY a2 (by decide)
 unfold NP;simp only[aF,aC,LM,XV,XU,XT,XS,a1,b1,aN,cC,dX,jT,cQ,jU,Bool.and_true,true_and];exact a3
theorem aVP{x:List Row}(h:bytesOk x=true):k33 x=true∧CG 65536 (sK x).1:=by
 refine aL (t:=T33 x) (P:=fun q=>CG 65536 q.1) ?_
 obtain⟨a1,a2⟩:=aO6 h;unfold T33;simp only[aF,aC,XW,a1,aN,cC,dX,jT,cQ,jU,Bool.and_true,true_and];exact a2
theorem aVQ{x:List Row}(h:bytesOk x=true):k36 x=true∧CG 65536 (sL x).1:=by
 refine aL (t:=T36 x) (P:=fun q=>CG 65536 q.1) ?_
 obtain⟨a1,a2,a3⟩:=aI5 (aOQ h) (by decide)
 obtain⟨b1,b2,-⟩:=bY 34 a2 (by decide)
 unfold T36;simp only[aF,aC,XX,aQC,aQB,aQA,aP9,a1,b1,aN,cC,dX,jT,cQ,jU,Bool.and_true,true_and];exact a3
theorem a35{x:List Row}(h:bytesOk x=true):k38 x=true:=by
 have a:aUW x=true:=by
  obtain⟨b1,b2⟩:=LY (aOQ h) (by decide)
  refine(aL (t:=aHW x) (P:=fun _=>True) ?_).1
  unfold aHW;simp only[aF,aC,b1,Bool.and_true,true_and]
 refine(aL (t:=T38 x) (P:=fun _=>True) ?_).1
 unfold T38;simp only[aF,aC,a,Bool.and_true,true_and]
def aAN(r:RM)(zs:List Int)(l:List aA)(s h:Bool)(f:aE):Int×Bool:=bif dU r zs l s h&&(dB f&&fE f)then(qF r.sup f,true)else(0,false)
theorem aO7{r:RM}{zs:List Int}{l:List aA}(s h:Bool)(f:aE)(m:Sm r zs l):k34 (bI r zs l s h) f=true∧g34 (bI r zs l s h) f=aAN r zs l s h f:=by
 refine aL (t:=T34 (bI r zs l s h) f) (P:=fun q=>q=aAN r zs l s h f) ?_
 obtain⟨a1,a2⟩:=rL s h m;obtain⟨b1,b2⟩:=oF f;obtain⟨c1,c2⟩:=iD f;obtain⟨d1,d2⟩:=FO (bI r zs l s h) f;unfold T34 aAN;simp only[aF,aQ,aC,aHO,a1,a2,b1,b2,c1,c2,d1,d2,c_R,cL,Bool.and_true,true_and];cases dU r zs l s h<;>cases dB f<;>cases fE f<;>simp
theorem aO8{r:RM}{zs:List Int}{l:List aA}(s h:Bool)(f:aE)(m:Sm r zs l):k35 (bI r zs l s h) f=true∧g35 (bI r zs l s h) f=aAN r zs l s h f:=by
 refine aL (t:=T35 (bI r zs l s h) f) (P:=fun q=>q=aAN r zs l s h f) ?_
 obtain⟨a1,a2⟩:=A8 s h m;obtain⟨b1,b2⟩:=oG f;obtain⟨c1,c2⟩:=jE f;obtain⟨d1,d2⟩:=TQ r.sup f;unfold T35 aAN;simp only[aF,aQ,aC,aHQ,a1,a2,b1,b2,c1,c2,c_R,cL,d1,d2,Bool.and_true,true_and];cases dU r zs l s h<;>cases dB f<;>cases fE f<;>simp
end Go.Proofs.YtdipcnijfkdnfaaGreatFrames

namespace Go.Proofs.YtdipcnijfkdnfaaGreatFrames
open Go Go.Zq
set_option maxHeartbeats 4000000
set_option maxRecDepth 100000
theorem FQ{v:Int}(h:cO v 0 31=true):bQ 1 2 (2*v)=0:=by
 rw[bA]at h;obtain⟨a,rfl⟩:=Int.eq_ofNat_of_zero_le h.1;have key: ∀a:Fin 32,bQ 1 2 (2*(a.val:Int))=0:=by decide+kernel
 exact key ⟨a,by omega⟩
theorem YI{r:RM}{zs:List Int}{l:List aA}{s h:Bool}(g:dU r zs l s h=true):qE zs l=true:=by
 unfold dU at g;simp only[Bool.and_eq_true]at g;exact g.2.1
theorem aVR{k s v:Int}{a:Nat}{zs:List Int}{l:List aA}(h:TouchOk s v zs l)(hc:bQ k s a=0):LK s a ⟨ri zs,l.map aA.row⟩=true∧LJ s a ⟨ri zs,l.map aA.row⟩=uW a zs s.toNat:=by
 refine aL (t:=EY s a ⟨ri zs,l.map aA.row⟩) (P:=fun r=>r=uW a zs s.toNat) ?_
 obtain⟨-,q1,q2,q3⟩:=uV hc;have hz:=h.hz;have p:aR (a:Int) 1=((a+1:Nat):Int):=by rw[bK (by omega)];omega
 have ha:a<zs.length:=by omega
 obtain⟨c1,c2,c3,c4,c5⟩:=iY ha;unfold EY;rcases h.hs with rfl|rfl
 ·simp only[aF,aQ,aC,show eqI 1 1=true from rfl,gG ha,p,c1,c2,c3,c4,c5,eO ha,aN,cC,bG,bE,Int.toNat_natCast,Nat.zero_add,Bool.and_true,true_and,Bool.true_eq_false,false_implies,forall_const,and_true]
  exact(eE ha).symm
 ·have ha2:a+1<zs.length:=by omega
  obtain⟨d1,d2,d3,d4,d5⟩:=iY ha2;have b1:=j4 h.hb ha;have b2:=j4 h.hb ha2;simp only[aF,aQ,aC,show eqI 2 1=false from rfl,gG ha,gG ha2,p,c1,c2,c3,c4,c5,d1,d2,d3,d4,d5,eO ha,eO ha2,aN,cC,bG,bE,Int.toNat_natCast,Nat.zero_add,Bool.and_true,true_and,Bool.false_eq_true,false_implies,forall_const]
  rw[aH7 b1.1 (by omega),FA b1.1 (by omega) b2.1 b2.2]
  simp only[show Int.toNat 2=2 from rfl,uW]
  rw[eE ha,eE ha2]
def N7(r:RM)(zs:List Int)(l:List aA)(s h:Bool)(v:Int):Int×Bool:=bif dU r zs l s h&&cO v 0 31 then(uW (2*v).toNat zs 2,true)else(0,false)
theorem aQU{r:RM}{zs:List Int}{l:List aA}(s h:Bool)(v:Int)(m:Sm r zs l):k31 (bI r zs l s h) v=true∧g31 (bI r zs l s h) v=N7 r zs l s h v:=by
 refine aL (t:=T31 (bI r zs l s h) v) (P:=fun q=>q=N7 r zs l s h v) ?_
 obtain⟨a1,a2⟩:=rL s h m;unfold T31 N7;cases hg:dU r zs l s h
 ·cases hv:cO v 0 31<;>simp[a1,a2,hg,hv]
 ·cases hv:cO v 0 31
  ·simp[a1,a2,hg,hv]
  ·have hc:=FQ hv;have hv':=bA.1 hv;have em:dD 2 v=2*v:=iC (by omega)
   have ha:cO (2*v) 0 65535=true:=bA.2 (by omega)
   obtain⟨g1,g2⟩:=lQ hg;obtain⟨c1,c2⟩:=aI2 zs l (by have:=m.z;omega) (by have:=m.l;omega)
   have c1':ZS (jO zs l)=true:=c1;have c2':RK (jO zs l)=qE zs l:=c2;obtain⟨d1,d2⟩:=aII 1 2 (2*v) ha (by decide)
   have hm:(mm r zs l s).Ok 65535:=⟨g1,g2⟩;have P:aUR (jO zs l) (2*v)=true∧aUQ (jO zs l) (2*v)=(uW (2*v).toNat zs 2,true):=by
    refine aL (t:=aHH (jO zs l) (2*v)) (P:=fun q=>q=(uW (2*v).toNat zs 2,true)) ?_
    obtain⟨n,hn⟩:=Int.eq_ofNat_of_zero_le (show 0≤2*v by omega)
    have to:TouchOk 2 0 zs l:=⟨Or.inr rfl,by decide,g2.hz,g2.hb,g2.hl⟩
    rw[hn]at ha hc d1 d2⊢;obtain⟨e1,e2⟩:=aVR (k:=1) to hc;have e1':LK 2 n (jO zs l)=true:=e1;have e2':LJ 2 n (jO zs l)=uW n zs 2:=e2;unfold aHH;simp only[aF,aQ,aC,TD,c1',c2',YI hg,(mE _).1,(mE _).2,ha,d1,d2,hc,e1',e2',show eV 0 0=false from rfl,aN,cC,Int.toNat_natCast,Bool.not_true,Bool.and_true,cond_true,cond_false,Bool.true_or,Bool.or_true,true_and,Bool.false_eq_true,false_implies,forall_const]
   simp only[aF,aQ,aC,aHJ,a1,a2,hg,hv,p8,p9,em,c_B,P.1,P.2,aN,cC,Bool.not_true,Bool.and_self,Bool.and_true,cond_true,cond_false,Bool.true_or,Bool.or_true,true_and,Bool.false_eq_true,false_implies,forall_const]
end Go.Proofs.YtdipcnijfkdnfaaGreatFrames

namespace Go.Proofs.YtdipcnijfkdnfaaGreatFrames
open Go Go.Zq
set_option maxHeartbeats 4000000
set_option maxRecDepth 100000
theorem a36{r:RM}{zs:List Int}{l:List aA}(s h:Bool)(v:Int)(m:Sm r zs l):k37 (bI r zs l s h) v=true∧g37 (bI r zs l s h) v=N7 r zs l s h v:=by
 refine aL (t:=T37 (bI r zs l s h) v) (P:=fun q=>q=N7 r zs l s h v) ?_
 obtain⟨a1,a2⟩:=A8 s h m;unfold T37 N7;cases hg:dU r zs l s h
 ·cases hv:cO v 0 31<;>simp[a1,a2,hg,hv]
 ·cases hv:cO v 0 31
  ·simp[a1,a2,hg,hv]
  ·have hc:=FQ hv;have hv':=bA.1 hv;have em:dD 2 v=2*v:=iC (by omega)
   have ha:cO (2*v) 0 65535=true:=bA.2 (by omega)
   obtain⟨g1,g2⟩:=lQ hg;obtain⟨c1,c2⟩:=aIF (b:=jO zs l) (zs:=zs) (l:=l) ⟨⟨zs,rfl⟩,⟨l,rfl⟩,by rw[z4,bE];exact m.z,by rw[FG,List.length_map];exact m.l⟩ rfl rfl
   have gb:=YI hg;unfold qE at gb;rw[gb]at c2;obtain⟨d1,d2⟩:=aIJ 1 2 (2*v) ha (by decide)
   have P:aUV (jO zs l) (2*v)=true∧aUU (jO zs l) (2*v)=(uW (2*v).toNat zs 2,true):=by
    refine aL (t:=aHT (jO zs l) (2*v)) (P:=fun q=>q=(uW (2*v).toNat zs 2,true)) ?_
    obtain⟨n,hn⟩:=Int.eq_ofNat_of_zero_le (show 0≤2*v by omega)
    have hz:=g2.hz;have i1:n<zs.length:=by omega
    have i2:n+1<zs.length:=by omega
    have b1:=j4 g2.hb i1;have b2:=j4 g2.hb i2;rw[hn]at ha hc d1 d2⊢;have p:aR (n:Int) 1=((n+1:Nat):Int):=by rw[bK (by omega)];omega
    unfold aHT;simp only[aF,aQ,aC,TE,c1,c2,(LR _).1,(LR _).2,ha,d1,d2,hc,p,z4,gG i1,gG i2,eO i1,eO i2,show eV 0 0=false from rfl,aN,cC,Int.toNat_natCast,Bool.not_true,Bool.and_self,Bool.and_true,cond_true,cond_false,Bool.true_or,Bool.or_true,true_and,Bool.false_eq_true,false_implies,forall_const]
    rw[aH7 b1.1 (by omega),FA b1.1 (by omega) b2.1 b2.2]
    simp only[uW];rw[eE i1,eE i2]
   simp only[aF,aQ,aC,aHU,a1,a2,hg,hv,mC,mD,em,c_B,P.1,P.2,aN,cC,Bool.not_true,Bool.and_self,Bool.and_true,cond_true,cond_false,Bool.true_or,Bool.or_true,true_and,Bool.false_eq_true,false_implies,forall_const]
end Go.Proofs.YtdipcnijfkdnfaaGreatFrames

namespace Go.Proofs.YtdipcnijfkdnfaaGreatFrames
open Go Go.Zq
set_option maxHeartbeats 4000000
set_option maxRecDepth 100000
structure RP(r:RM)(p:RM):Prop where
 d:p.d=r.d
 f:p.fl=r.fl
 m:p.mask=r.mask
 s:p.sup=true
 t:p.tr=false
theorem RP.setA{r p:RM}{l:List Int}(h:RP r p):RP r {p with a:=l}:=⟨h.d,h.f,h.m,h.s,h.t⟩
theorem RP.setP{r p:RM}{v:Int}(h:RP r p):RP r {p with pc:=v}:=⟨h.d,h.f,h.m,h.s,h.t⟩
theorem aO9{r:RM}(h:r.Ok 65535):RP r (bZ r (vE r)):=by
 have f:=bA.1 h.fw;have k:=bA.1 h.mw;have e1:vE r%32=r.fl:=by unfold vE;omega
 have e2:vE r/32%8=r.mask:=by unfold vE;omega
 have e3:eqI (vE r/256%2) 1=true:=by rw[f8];unfold vE;omega
 have e4:eqI (vE r/512%2) 1=false:=by rw[oL];unfold vE;omega
 unfold bZ;rw[e1,e2,e3,e4];cases hs:r.sup
 ·exact⟨rfl,rfl,rfl,rfl,rfl⟩
 ·exact⟨rfl,rfl,rfl,rfl,rfl⟩
theorem aPA{r:RM}{m:MM}{v:Int}(h:RP r m.r):RP r (cN m v).r:=by
 unfold cN;exact z5 (P:=fun z:MM=>RP r z.r) (fun _=>h.setA) (fun _=>h)
theorem aJJ{r:RM}{m:MM}{F:List Int}(h:RP r m.r): ∀i,RP r (pk m F i).r
 |0=>h
 |i+1=>z5 (P:=fun z:MM=>RP r z.r) (fun _=>aPA (aJJ h i)) (fun _=>aJJ h i)
theorem aVS{r:RM}{zs:List Int}{l:List aA}{f:aE}(hr:r.Ok 65535)(hb:BusOk zs l)(hg:dB f=true): ∃r' zs' l' h',GD (mm (bZ r (vE r)) zs l false) (eR r f) f.Vector=bI r' zs' l' false h'∧r'.Ok 65535∧BusOk zs' l'∧RP r r'∧(h'=false→cP (pk (mm (bZ r (vE r)) zs l false) (eR r f) (eR r f).length)=true∧zs'=(pk (mm (bZ r (vE r)) zs l false) (eR r f) (eR r f).length).zs∧r'.a=(pk (mm (bZ r (vE r)) zs l false) (eR r f) (eR r f).length).r.a∧r'.pc=tV 1 2 (2*f.Vector) 0 zs'):=by
 obtain⟨gv,-⟩:=FP hg;obtain⟨w1,w2⟩:=YH hr hg;have hr':(bZ r (vE r)).Ok 65535:=A7 hr;have hm:(mm (bZ r (vE r)) zs l false).Ok 65535:=⟨hr',hb⟩;have hp:=z7 hm w1 (eR r f).length;have hq:RP r (pk (mm (bZ r (vE r)) zs l false) (eR r f) (eR r f).length).r:=aJJ (aO9 hr) _;unfold GD;generalize pk (mm (bZ r (vE r)) zs l false) (eR r f) (eR r f).length=p at*;obtain⟨o1,o2⟩:=LU (k:=1) hp (w5 gv) (by decide)
 have ez:(eJ p 1 2 (2*f.Vector) 0).1.zs=p.zs:=by
  show tB 1 2 (2*f.Vector) 0 p.zs=p.zs
  unfold tB;rw[show eqI 1 2=false from rfl,Bool.and_false,cond_false]
 have ev:(eJ p 1 2 (2*f.Vector) 0).2=tV 1 2 (2*f.Vector) 0 p.zs:=rfl;unfold aAM aO2;cases hf:cP p
 ·exact⟨p.r,p.zs,p.l,true,rfl,hp.r,hp.b,hq,fun h=>absurd h (by decide)⟩
 ·rw[cond_true];cases hc:cP (eJ p 1 2 (2*f.Vector) 0).1
  ·exact⟨p.r,_,_,true,rfl,hp.r,o1.b,hq,fun h=>absurd h (by decide)⟩
  ·refine⟨{p.r with pc:=(eJ p 1 2 (2*f.Vector) 0).2},_,_,false,rfl,hp.r.setP (bA.2 (FI o2)),o1.b,hq.setP,fun _=>⟨rfl,ez,rfl,?_⟩⟩
   rw[ez];exact ev
end Go.Proofs.YtdipcnijfkdnfaaGreatFrames

namespace Go.Proofs.YtdipcnijfkdnfaaGreatFrames
open Go Go.Zq
set_option maxHeartbeats 4000000
set_option maxRecDepth 100000
theorem YJ{l:List Int}{x:Int}(h:l.length=4):dS (l.set 3 x) 3=x:=by
 have h3:3<(l.set 3 x).length:=by rw[List.length_set];omega
 rw[dS,aU4,eE h3,List.getElem_set_self]
theorem a37{s v:Int}{a:Nat}{zs:List Int}{l:List aA}(h:TouchOk s v zs l)(hc:bQ 2 s a=0):uW a (wk s v a zs s.toNat) s.toNat=v:=by
 obtain⟨-,q1,q2,q3⟩:=uV hc;obtain⟨v0,v1,v2⟩:=A1 h.hs h.hv;have hz:=h.hz;rcases h.hs with rfl|rfl
 ·have:=v2 rfl;rw[show Int.toNat 1=1 from rfl]
  simp only[wk,uW,show eqI 1 1=true from rfl,cond_true]
  rw[eE (by rw[List.length_set];omega),List.getElem_set_self]
  omega
 ·rw[show Int.toNat 2=2 from rfl]
  simp only[wk,uW];rw[eE (by simp only[List.length_set];omega),eE (by simp only[List.length_set];omega),List.getElem_set_self,List.getElem_set_ne (by omega),List.getElem_set_self]
  omega
theorem aVT{m:MM}{v:Int}(ha:m.r.a.length=4)(hf:m.f.Vector=0)(h:cP (cN m v)=true):dS (cN m v).r.a 3=(dS m.r.a 3-2)%65536∧bQ 2 2 ((dS m.r.a 3-2)%65536)=0∧(cN m v).zs=wk 2 v ((dS m.r.a 3-2)%65536).toNat m.zs 2:=by
 have fc:=iU (m:=m) (k:=2) (s:=2) (a:=(dS m.r.a 3-2)%65536) (v:=v) hf;unfold cN at h⊢;cases hc:cP (eJ m 2 2 ((dS m.r.a 3-2)%65536) v).1
 ·rw[hc,cond_false,hc]at h;exact absurd h (by decide)
 ·rw[cond_true];rw[hc]at fc;have hz:bQ 2 2 ((dS m.r.a 3-2)%65536)=0:=f8.1 fc.symm;refine⟨YJ ha,hz,?_⟩;show tB 2 2 ((dS m.r.a 3-2)%65536) v m.zs=_
  unfold tB;rw[hz];rfl
theorem a38{a b:Nat}{v:Int}{zs:List Int}(h:a+1<b∨b+1<a):uW a (wk 2 v b zs 2) 2=uW a zs 2:=by
 simp only[uW,wk,List.getD_eq_getElem?_getD];rw[List.getElem?_set_ne (by omega),List.getElem?_set_ne (by omega),List.getElem?_set_ne (by omega),List.getElem?_set_ne (by omega)]
theorem HR{a:Int}(h:bQ 2 2 a=0):a%2=0:=by
 unfold bQ at h;cases he:eqI (a%2) 1
 ·rw[oL]at he;omega
 ·rw[he,show(eqI 2 2&&true)=true from rfl,cond_true]at h
  exact absurd h (by decide)
theorem YK{m:MM}{F:List Int}{n:Nat}(h:cP (pk m F n)=true)(j:Nat)(hj:j≤n):cP (pk m F j)=true:=by
 cases hf:cP (pk m F j)
 ·have:=LX hf (n-j);rw[show j+(n-j)=n by omega]at this
  rw[this,hf]at h;exact h
 ·rfl
theorem aPB{m:MM}{F:List Int}{j:Nat}(h:cP (pk m F j)=true):pk m F (j+1)=cN (pk m F j) (F.getD j 0):=by
 show(bif cP (pk m F j)then cN (pk m F j) (F.getD j 0)else pk m F j)=_
 rw[h,cond_true]
theorem aJK{m:MM}{F:List Int}{n:Nat}(hm:m.Ok 65535)(hF:FW F)(hn:n≤5)(h:cP (pk m F n)=true): ∀i,i≤n→dS (pk m F i).r.a 3=(dS m.r.a 3-2*i)%65536∧(∀j:Nat,j<i→bQ 2 2 ((dS m.r.a 3-2*(j+1))%65536)=0∧uW ((dS m.r.a 3-2*(j+1))%65536).toNat (pk m F i).zs 2=F.getD j 0)
 |0,_=>⟨by have:=FH hm.r;show dS m.r.a 3=_;omega,fun j hj=>absurd hj (by omega)⟩
 |i+1,hi=>by
  obtain⟨e1,e2⟩:=aJK hm hF hn h i (by omega)
  have hf:=YK h i (by omega)
  have hf1:=YK h (i+1) hi;have hp:=z7 hm hF i;rw[aPB hf]at hf1⊢;obtain⟨a1,a2,a3⟩:=aVT hp.r.a4 (by unfold cP at hf;simpa using hf) hf1
  have es:(dS (pk m F i).r.a 3-2)%65536=(dS m.r.a 3-2*((i:Int)+1))%65536:=by rw[e1];omega
  rw[es]at a1 a2 a3;refine⟨by rw[a1];omega,fun j hj=>?_⟩
  rcases Nat.lt_or_ge j i with hlt|hge
  ·obtain⟨b1,b2⟩:=e2 j hlt;refine⟨b1,?_⟩;rw[a3,←b2];have v1:=HR a2;have v2:=HR b1;exact a38 (by omega)
  ·obtain rfl:j=i:=by omega
   refine⟨a2,?_⟩;rw[a3];obtain⟨k,hk⟩: ∃k:Nat,(dS m.r.a 3-2*((j:Int)+1))%65536=(k:Int):=⟨((dS m.r.a 3-2*((j:Int)+1))%65536).toNat,by omega⟩
   have hT:TouchOk 2 (F.getD j 0) (pk m F j).zs (pk m F j).l:=⟨Or.inr rfl,a3S (hF j).1 (hF j).2,hp.b.hz,hp.b.hb,hp.b.hl⟩;rw[hk]at a2⊢;exact a37 hT a2
end Go.Proofs.YtdipcnijfkdnfaaGreatFrames

namespace Go.Proofs.YtdipcnijfkdnfaaGreatFrames
open Go Go.Zq
set_option maxHeartbeats 4000000
set_option maxRecDepth 100000
theorem N8{r:RM}{zs:List Int}{l:List aA}{s h:Bool}(hr:r.Ok 65535)(hb:BusOk zs l)(hs:(!(s&&h))=true):dU r zs l s h=true:=by
 have h1:=hr.d4;have h2:=hr.a4;have h3:=hb.hz;have h4:=hb.hl;have e1:eqI (r.d.length:Int) 4=true:=by simp;omega
 have e2:eqI (r.a.length:Int) 4=true:=by simp;omega
 have e3:eqI (zs.length:Int) 512=true:=by simp;omega
 have e4:leI (l.length:Int) 400=true:=by simp;omega
 have hm:=hr.mw;rw[show(65535:Int)-65528=7 from rfl]at hm
 unfold dU wZ qE;rw[e1,e2,e3,e4,hr.dw,hr.aw,hr.ow,hr.pw,hr.fw,hm,hb.hb,hb.ha,hs];rfl
theorem aPC{r:RM}{zs:List Int}{l:List aA}{s h:Bool}(hg:dU r zs l s h=true)(hc:bQ 1 2 (dS r.a 3)=0):aJB r zs l s h=(bI {r with a:=r.a.set 3 ((dS r.a 3+2)%65536)} zs (tL 1 2 (dS r.a 3) 0 zs l) s h,uW (dS r.a 3).toNat zs 2,true,true):=by
 have f1:=N5 r zs l s;rw[hc]at f1;have f2:cP (eJ (mm r zs l s) 1 2 (dS r.a 3) 0).1=true:=by rw[iU rfl,hc];rfl
 have er:(mm r zs l s).r=r:=rfl;have hz:tB 1 2 (dS r.a 3) 0 zs=zs:=by
  unfold tB;rw[show eqI 1 2=false from rfl,Bool.and_false,cond_false]
 have hv:tV 1 2 (dS r.a 3) 0 zs=uW (dS r.a 3).toNat zs 2:=by
  unfold tV;rw[hc];rfl
 have hp:kV (mm r zs l s)=(⟨{r with a:=r.a.set 3 ((dS r.a 3+2)%65536)},tB 1 2 (dS r.a 3) 0 zs,tL 1 2 (dS r.a 3) 0 zs l,s,(eJ (mm r zs l s) 1 2 (dS r.a 3) 0).1.f⟩,tV 1 2 (dS r.a 3) 0 zs):=by
  unfold kV;rw[er,f2,cond_true];rfl
 unfold aJB;rw[hg,cond_true,f1,hp];dsimp only;rw[hz,hv];rfl
theorem a39{F:List Int}{sp:Int}{f:aE}{x:aJ}{w:List Row}{r:RM}{zs:List Int}{l:List aA}(hr:r.Ok 65535)(hb:BusOk zs l)(hl:F.length≤5)(h0:dS r.a 3=(sp-2*F.length)%65536)(hmem: ∀j:Nat,j<F.length→bQ 2 2 ((sp-2*(j+1))%65536)=0∧uW ((sp-2*(j+1))%65536).toNat zs 2=F.getD j 0):a3G (V4_0.mk f x (bI r zs l false false) w (ri F) ((F.length:Int)-1))=true∧(Z1 (V4_0.mk f x (bI r zs l false false) w (ri F) ((F.length:Int)-1))).b0=f∧(Z1 (V4_0.mk f x (bI r zs l false false) w (ri F) ((F.length:Int)-1))).b1=x∧(Z1 (V4_0.mk f x (bI r zs l false false) w (ri F) ((F.length:Int)-1))).s1=w∧(Z1 (V4_0.mk f x (bI r zs l false false) w (ri F) ((F.length:Int)-1))).s11=ri F∧rE (Z1 (V4_0.mk f x (bI r zs l false false) w (ri F) ((F.length:Int)-1))).s16 0=false:=by
 refine fA (Post:=fun v:V4_0=>v.b0=f∧v.b1=x∧v.s1=w∧v.s11=ri F∧rE v.s16 0=false) (cU (fun(n:Nat) (v:V4_0)=> ∃r' l',v=V4_0.mk f x (bI r' zs l' false false) w (ri F) ((n:Int)-1)∧n≤F.length∧r'.Ok 65535∧BusOk zs l'∧dS r'.a 3=(sp-2*n)%65536) _ ?_ 2097152 F.length _ ⟨r,l,rfl,by omega,hr,hb,h0⟩ (by omega))
 rintro n v ⟨r',l',rfl,hn,hr',hb',hd⟩
 obtain⟨p1,p2⟩:=aVM false false (Sm.of hr' hb');have hg:dU r' zs l' false false=true:=N8 hr' hb' rfl;unfold Z0;cases n with
 |zero=>
  simp only[aF,aQ,aC,show rE (((0:Nat):Int)-1) 0=false from rfl,Bool.false_eq_true,false_implies,true_and,forall_const]
 |succ k=>
  obtain⟨m1,m2⟩:=hmem k (by omega)
  have hd':dS r'.a 3=(sp-2*((k:Int)+1))%65536:=by rw[hd];omega
  rw[←hd']at m1 m2;have c1:=(uV m1).1;rw[aPC hg c1,m2]at p2;have e1:(((k+1:Nat):Int)-1)=(k:Int):=by omega
  have g1:rE (k:Int) 0=true:=by simp
  have s1:eQ (k:Int) 1=(k:Int)-1:=rI (by omega)
  have hk:k<F.length:=by omega
  have nn:eV (F.getD k 0) (F.getD k 0)=false:=by simp
  have po:=(aU6 (⟨hr',hb'⟩:(mm r' zs l' false).Ok 65535)).1;rw[e1];simp only[aF,aQ,aC,EZ,p1,p2,g1,s1,gG hk,Int.toNat_natCast,A9 hk,nn,Bool.not_true,cond_false,cond_true,Bool.true_or,Bool.and_true,true_and,Bool.true_eq_false,Bool.false_eq_true,false_implies,forall_const,and_true];refine⟨k,by omega,_,_,rfl,by omega,hr'.setA (by omega) (by omega),?_,?_⟩
  ·obtain⟨t1,t2⟩:=aQM (k:=1) (⟨Or.inr rfl,by decide,hb'.hz,hb'.hb,hb'.hl⟩:TouchOk 2 0 zs l') (a:=dS r'.a 3) (bA.2 (FH hr')) (by decide) hb'.ha
   exact⟨hb'.hz,hb'.hb,t1,t2⟩
  ·rw[YJ hr'.a4,hd'];omega
end Go.Proofs.YtdipcnijfkdnfaaGreatFrames

namespace Go.Proofs.YtdipcnijfkdnfaaGreatFrames
open Go Go.Zq
set_option maxHeartbeats 4000000
set_option maxRecDepth 100000
structure TailF(x:List Row):Prop where
 a1:k33 x=true
 a2:k34 (sK x).1 (sK x).2=true
 a3:k35 (sK x).1 (sK x).2=true
 a4:g35 (sK x).1 (sK x).2=g34 (sK x).1 (sK x).2
 b1:k36 x=true
 b2:k31 (sL x).1 (sL x).2=true
 b3:k37 (sL x).1 (sL x).2=true
 b4:g37 (sL x).1 (sL x).2=g31 (sL x).1 (sL x).2
 c1:k38 x=true
 c2:k32 (LN x)=true
 c3:k39 (LN x)=true
 c4:g39 (LN x)=g32 (LN x)
theorem aQV{x:List Row}(h:bytesOk x=true):TailF x:=by
 obtain⟨a1,a2⟩:=aVP h;obtain⟨r,zs,l,s,t,e,hr,hb⟩:=a2;obtain⟨b1,b2⟩:=aVQ h;obtain⟨r',zs',l',s',t',e',hr',hb'⟩:=b2;have i1:=aO7 s t (sK x).2 (Sm.of hr hb);have i2:=aO8 s t (sK x).2 (Sm.of hr hb);have v1:=aQU s' t' (sL x).2 (Sm.of hr' hb');have v2:=a36 s' t' (sL x).2 (Sm.of hr' hb');rw[←e]at i1 i2;rw[←e']at v1 v2;have l1:=N6 (LN x);have l2:=aJC (LN x);exact⟨a1,i1.1,i2.1,i2.2.trans i1.2.symm,b1,v1.1,v2.1,v2.2.trans v1.2.symm,a35 h,l1.1,l2.1,l2.2.trans l1.2.symm⟩
end Go.Proofs.YtdipcnijfkdnfaaGreatFrames

namespace Go.Proofs.YtdipcnijfkdnfaaGreatFrames
open Go Go.Zq
set_option maxHeartbeats 4000000
set_option maxRecDepth 100000
def CE(c:aJ):Prop:= ∃r zs l s h,c=bI r zs l s h∧Sz r zs l
theorem CE.self{c:aJ}(h:CE c):k11 c c=true∧g11 c c=true:=by
 obtain⟨r,zs,l,s,h,rfl,z⟩:=h;obtain⟨a,b⟩:=aOV r r zs zs l l s h s h z;rw[aAH]at b;exact⟨a,b⟩
theorem zC_ce:CE zC:=⟨⟨[],[],0,0,0,0,false,false⟩,[],[],false,false,rfl,by decide,by decide,by decide,by decide⟩
theorem gX{l:List Int}(h:l.length≤1000):k14 (ri l) (ri l)=true∧g14 (ri l) (ri l)=true:=by
 obtain⟨a,b⟩:=oD l l (by omega)
 rw[decide_eq_true rfl]at b;exact⟨a,b⟩
end Go.Proofs.YtdipcnijfkdnfaaGreatFrames

namespace Go.Proofs.YtdipcnijfkdnfaaGreatFrames
open Go Go.Zq
set_option maxHeartbeats 4000000
set_option maxRecDepth 100000
theorem a4A(r:RM)(zs:List Int)(l:List aA)(s h:Bool)(f:aE): ∃L:List Int,(frO r zs l s h f).1=ri L∧L.length≤5:=by
 unfold frO;cases dU r zs l s h&&dB f
 ·exact⟨[],rfl,by decide⟩
 ·refine⟨eR r f,rfl,?_⟩;unfold eR;cases fE f<;>simp
theorem okF(x0 x1:List Row)(h0:bytesOk x0=true)(h1:bytesOk x1=true)(r:RM)(zs:List Int)(l:List aA)(s h:Bool)(f:aE)(ev:rN x0=(bI r zs l s h,f))(sm:Sm r zs l)(hok:(dU r zs l s h&&(dB f&&!h))=false):(T4 x0 x1).Sat (fun q=>q=true):=by
 have t:=aQV h1;obtain⟨d1,-⟩:=TR h0;obtain⟨e1,e2⟩:=aJF s h f sm;obtain⟨e3,e4⟩:=aJG s h f sm;obtain⟨f1,f2⟩:=aJH s h f sm;obtain⟨f3,f4⟩:=aJI s h f sm;obtain⟨g1,g2⟩:=oF f;obtain⟨g3,g4⟩:=oG f;have hE:GE r zs l s h f=(zC,false):=by unfold GE;rw[hok];rfl
 obtain⟨L,hL,hl⟩:=a4A r zs l s h f;obtain⟨k1,k2⟩:=gX (l:=L) (by omega)
 obtain⟨z1,z2⟩:=zC_ce.self;rw[hE]at e2 e4;have eI: ∀x,eqI x x=true:=fun x=>by simp
 have eB: ∀x,uZ x x=true:=fun x=>by simp
 unfold T4;simp only[aF,aQ,aC,N0,NZ,NY,NX,NW,NV,NU,NT,NS,NR,aH4,aH3,fF,aH2,aH1,aH0,Z2,AH,TF,kU,ev,d1,e1,e2,e3,e4,f1,f2,f3,f4,g1,g2,g3,g4,hL,k1,k2,z1,z2,t.a1,t.a2,t.a3,t.a4,t.b1,t.b2,t.b3,t.b4,t.c1,t.c2,t.c3,t.c4,eI,eB,cond_true,cond_false,Bool.not_true,Bool.not_false,Bool.and_true,Bool.true_and,Bool.true_or,Bool.or_true,Bool.or_false,true_and,and_true,implies_true,Bool.false_eq_true,Bool.true_eq_false,false_implies,forall_const]
end Go.Proofs.YtdipcnijfkdnfaaGreatFrames

namespace Go.Proofs.YtdipcnijfkdnfaaGreatFrames
open Go Go.Zq
set_option maxHeartbeats 4000000
set_option maxRecDepth 100000
theorem a4B(r:RM)(f:aE):eqI ((eR r f).length:Int) 5=fE f:=by
 unfold eR;cases fE f<;>simp
theorem okT(x0 x1:List Row)(h0:bytesOk x0=true)(h1:bytesOk x1=true)(r:RM)(zs:List Int)(l:List aA)(s:Bool)(f:aE)(ev:rN x0=(bI r zs l s false,f))(sm:Sm r zs l)(hg:dU r zs l s false=true)(hf:dB f=true):(T4 x0 x1).Sat (fun q=>q=true):=by
 have t:=aQV h1;obtain⟨d1,-⟩:=TR h0;obtain⟨e1,e2⟩:=aJF s false f sm;obtain⟨e3,e4⟩:=aJG s false f sm;obtain⟨f1,f2⟩:=aJH s false f sm;obtain⟨f3,f4⟩:=aJI s false f sm;obtain⟨g1,g2⟩:=oF f;obtain⟨g3,g4⟩:=oG f;obtain⟨r1,b1⟩:=lQ hg;obtain⟨gv,-⟩:=FP hf;obtain⟨w1,w2⟩:=YH r1 hf;have hm:(mm (bZ r (vE r)) zs l false).Ok 65535:=⟨A7 r1,b1⟩;obtain⟨r',zs',l',h',hE,q1,q2,rp,hx⟩:=aVS r1 b1 hf;have hO:GE r zs l s false f=(bI r' zs' l' false h',true):=by unfold GE;rw[hg,hf,hE];rfl
 have hF:frO r zs l s false f=(ri (eR r f),true):=by unfold frO;rw[hg,hf];rfl
 rw[hO]at e2 e4;rw[hF]at f2 f4;obtain⟨k1,k2⟩:=gX (l:=eR r f) (by omega)
 have sm':=Sm.of q1 q2;obtain⟨z1,z2⟩:=CE.self ⟨r',zs',l',false,h',rfl,sm'.sz⟩;obtain⟨y1,y2⟩:=rL false h' sm';have y3:dU r' zs' l' false h'=true:=N8 q1 q2 rfl;rw[y3]at y2;obtain⟨i1,i2⟩:=gX (l:=r.d) (by have:=r1.d4;omega)
 have eI: ∀x,eqI x x=true:=fun x=>by simp
 have nI: ∀x,eV x x=false:=fun x=>by simp
 have eB: ∀x,uZ x x=true:=fun x=>by simp
 have D:=rp.d;have A2:=rp.f;have A3:=rp.m;have A4:=rp.s;have A5:=rp.t;have sl:eQ ((eR r f).length:Int) 1=((eR r f).length:Int)-1:=rI (by omega)
 unfold T4;cases h' with
 |true=>simp only[aF,aQ,aC,N0,NZ,NY,NX,NW,NV,NU,NT,NS,NR,aH4,aH3,fF,aH2,aH1,aH0,Z2,AH,TF,kU,ev,d1,e1,e2,e3,e4,f1,f2,f3,f4,g1,g2,g3,g4,k1,k2,z1,z2,y1,y2,c_R,c_S,c_H,A6,cV,dY,cL,cW,D,A2,A3,A4,A5,i1,i2,t.a1,t.a2,t.a3,t.a4,t.b1,t.b2,t.b3,t.b4,t.c1,t.c2,t.c3,t.c4,eI,nI,eB,cond_true,cond_false,Bool.not_true,Bool.not_false,Bool.and_true,Bool.true_and,Bool.true_or,Bool.or_true,Bool.or_false,true_and,and_true,implies_true,Bool.false_eq_true,Bool.true_eq_false,false_implies,forall_const]
 |false=>
  obtain⟨x1',x2,x3,x4⟩:=hx rfl;obtain⟨m1,m2⟩:=aJK hm w1 w2 x1' (eR r f).length (by omega)
  rw[←x3]at m1;rw[←x2]at m2;have L:=a39 (f:=f) (x:=bI r' zs' l' false false) (w:=x1) q1 q2 w2 m1 m2;obtain⟨L1,L2,L3,L4,L5,L6⟩:=L;have hv:cO f.Vector 0 31=true:=bA.2 (by omega)
  obtain⟨v1,v2⟩:=aQU false false f.Vector sm';have v3:N7 r' zs' l' false false f.Vector=(r'.pc,true):=by
   unfold N7;rw[y3,hv,x4];unfold tV;rw[FQ hv];rfl
  rw[v3]at v2;obtain⟨n1,n2⟩:=N6 f;rw[hf]at n2;simp only[aF,aQ,aC,N0,NZ,NY,NX,NW,NV,NU,NT,NS,NR,aH4,aH3,fF,aH2,aH1,aH0,Z2,AH,TF,kU,ev,d1,e1,e2,e3,e4,f1,f2,f3,f4,g1,g2,g3,g4,k1,k2,z1,z2,y1,y2,c_R,c_S,c_H,A6,kW,cV,dY,cL,cW,bG,bE,sl,D,A2,A3,A4,A5,i1,i2,L1,L2,L3,L4,L5,L6,v1,v2,n1,n2,a4B,t.a1,t.a2,t.a3,t.a4,t.b1,t.b2,t.b3,t.b4,t.c1,t.c2,t.c3,t.c4,eI,nI,eB,cond_true,cond_false,Bool.not_true,Bool.not_false,Bool.and_true,Bool.true_and,Bool.true_or,Bool.or_true,Bool.or_false,true_and,and_true,implies_true,Bool.false_eq_true,Bool.true_eq_false,false_implies,forall_const]
theorem okL(x0 x1:List Row)(h0:bytesOk x0=true)(h1:bytesOk x1=true):k4 x0 x1=true∧g4 x0 x1=true:=by
 refine aL (t:=T4 x0 x1) (P:=fun q=>q=true) ?_
 obtain⟨d1,r,zs,l,s,h,e,hr,hb⟩:=TR h0;have ev:rN x0=(bI r zs l s h,(rN x0).2):=by rw[←e]
 have sm:=Sm.of hr hb;cases hok:dU r zs l s h&&(dB (rN x0).2&&!h)
 ·exact okF x0 x1 h0 h1 r zs l s h _ ev sm hok
 ·simp only[Bool.and_eq_true]at hok;obtain⟨a,b,c⟩:=hok;have c':=aIS c;subst c';exact okT x0 x1 h0 h1 r zs l s _ ev sm a b
end Go.Proofs.YtdipcnijfkdnfaaGreatFrames
