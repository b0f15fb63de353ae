import Derived.Test.YtdicpjkdpliofaaGreatZqMasksQ
import Derived.Test.YtdicpjkdpliofaaGreatZmc
import Derived.Test.YtdicpjkdpliofaaGreatZme
set_option linter.unusedVariables false
set_option linter.unusedSimpArgs false
namespace Go.Proofs.YtdicpjkdpliofaaGreatMasks
open Go Go.Zq
set_option maxHeartbeats 4000000
set_option maxRecDepth 100000
theorem bQU{x:List Row}(h:bytesOk x=true)(hl:x.length≤9223372036854775807):k25 x=true∧0≤g25 x:=by
 have L:a25 (V25_0.mk 0 x (bL x) 0)=true∧0≤(a24 (V25_0.mk 0 x (bL x) 0)).s3:=by
  unfold a25 a24;refine jL (Post:=fun w:V25_0=>0≤w.s3) (eO (fun(n:Nat) (v:V25_0)=> ∃i:Nat,v.s6=x∧v.s7=(x.length:Int)∧v.s8=(i:Int)∧i+n=x.length∧0≤v.s3∧v.s3<1000003) _ ?_ 9223372036854775808 x.length _ ⟨0,rfl,rfl,rfl,by omega,by simp,by simp⟩ (by omega))
  rintro n v ⟨i,h1,h2,h3,h4,h5,h6⟩
  unfold VP;simp only[aZ,dJ,aR,h1,h2,h3,dW,oU,Int.toNat_natCast,Bool.and_true,true_and];refine⟨fun hlt=>?_,fun _=>h5⟩
  obtain⟨z,-,e,z0,z1⟩:=aEK h (j:=i) (by omega)
  have eI:gN [.int .u8] x (i:Int)=true:=PH h (by omega) (by omega)
  rw[eI,e,aPF (by omega),hF (by omega),bP (by omega),bP (by omega)]
  obtain⟨r0,r1⟩:=NJ (x:=31*v.s3+z) (n:=1000003) (by omega) (by omega)
  exact⟨rfl,n-1,by omega,i+1,by omega,by omega,r0,r1⟩
 refine aE (t:=T25 x) (P:=fun r=>0≤r) ?_
 unfold T25;simp only[aZ,aR,L.1,true_and];exact L.2
noncomputable def NA(x:aF)(a:Int)(sk:Bool)(r:RM)(zs:List Int)(l:List aA)(s h:Bool):aH×bO×Bool:=
 bif ((nF r zs l s h&&!s)&&!h)&&(dU x&&bS a 0 65535)then((A6 x a sk r zs l s h).1,(eG x a r zs l s h).2,true)else(zC,f0,false)
theorem a45(x:aF)(a:Int)(sk:Bool)(r:RM)(zs:List Int)(l:List aA)(s h:Bool):(A6 x a sk r zs l s h).2=(eG x a r zs l s h).2:=by
 unfold A6;cases sk&&eqI (eG x a r zs l s h).2.Vector 0<;>rfl
theorem aBB{r:RM}{zs:List Int}{l:List aA}(x:aF)(a:Int)(sk s h:Bool)(m:Sm r zs l):k11 (bV r zs l s h) x a sk=true∧g11 (bV r zs l s h) x a sk=NA x a sk r zs l s h:=by
 refine aE (t:=T11 (bV r zs l s h) x a sk) (P:=fun q=>q=NA x a sk r zs l s h) ?_
 obtain⟨a1,a2⟩:=bKZ s h m;obtain⟨c1,c2⟩:=bKO (m.len s h);unfold T11 NA;cases hA:(nF r zs l s h&&!s)&&!h
 ·simp only[bF,VG,aCR,VF,VE,a1,a2,hA,(fW _).1,(fW _).2,(ER _).1,(ER _).2,bT,bW,Bool.false_and];rfl
 ·cases hG:dU x
  ·simp only[bF,VG,aCR,VF,VE,a1,a2,hA,hG,(fW _).1,(fW _).2,(ER _).1,(ER _).2,bT,bW,Bool.false_and,Bool.and_false];rfl
  ·cases hW:bS a 0 65535
   ·simp only[bF,VG,aCR,VF,VE,a1,a2,hA,hG,hW,(fW _).1,(fW _).2,(ER _).1,(ER _).2,bT,bW,Bool.and_false];rfl
   ·obtain⟨g1,rfl,rfl⟩:=SQ hA;obtain⟨o1,o2⟩:=aA1 g1;obtain⟨w1,w2⟩:=b1N (s:=false) (h:=false) sk o1 o2 hG hW;simp only[bF,VG,aCR,VF,VE,a1,a2,hA,g1,hG,hW,c1,c2,w1,w2,bW,a45,(fW _).1,(fW _).2,(ER _).1,(ER _).2,bT,wz]
theorem a46{r:RM}{zs:List Int}{l:List aA}(x:aF)(a:Int)(sk s h:Bool)(m:Sm r zs l):k12 (bV r zs l s h) x a sk=true∧g12 (bV r zs l s h) x a sk=NA x a sk r zs l s h:=by
 refine aE (t:=T12 (bV r zs l s h) x a sk) (P:=fun q=>q=NA x a sk r zs l s h) ?_
 obtain⟨a1,a2⟩:=bBT s h m;have te:(bif (bif !(nF r zs l s h)then true else s)then true else h)=!((nF r zs l s h&&!s)&&!h):=by
  cases nF r zs l s h<;>cases s<;>cases h<;>rfl
 unfold T12 NA;cases hA:(nF r zs l s h&&!s)&&!h
 ·rw[hA]at te;simp only[bF,VN,aCZ,VM,VL,a1,a2,mP,nG,te,(fA _).1,(fA _).2,(uE _).1,(uE _).2,bT,bW,Bool.false_and];rfl
 ·rw[hA]at te;cases hG:dU x
  ·simp only[bF,VN,aCZ,VM,VL,a1,a2,mP,nG,te,hG,(fA _).1,(fA _).2,(uE _).1,(uE _).2,bT,bW,Bool.false_and,Bool.and_false];rfl
  ·cases hW:bS a 0 65535
   ·simp only[bF,VN,aCZ,VM,VL,a1,a2,mP,nG,te,hG,hW,(fA _).1,(fA _).2,(uE _).1,(uE _).2,bT,bW,Bool.and_false];rfl
   ·obtain⟨g1,rfl,rfl⟩:=SQ hA;obtain⟨o1,o2⟩:=aA1 g1;obtain⟨w1,w2⟩:=b1O (s:=false) sk o1 o2 hG hW;simp only[bF,VN,aCZ,VM,VL,a1,a2,mP,nG,te,hG,hW,w1,w2,a45,(fA _).1,(fA _).2,(uE _).1,(uE _).2,bT,bW,wz]
theorem aQO{x:aF}{a:Int}{r:RM}{zs:List Int}{l:List aA}{s h:Bool}(hr:r.Ok 65535)(hb:BusOk zs l)(hI:InsOk x): ∃r' zs' l' s' h',(eG x a r zs l s h).1=bV r' zs' l' s' h'∧r'.Ok 65535∧BusOk zs' l':=by
 have hbp:bS (HB x a) 0 65535=true:=by rw[aW];unfold HB;omega
 have hJ:(wE x a r zs l s).Ok 65535:=bDC (m:=mq {r with pc:=HB x a} zs l s a (W x)) ⟨hr.setP hbp,hb⟩ hI
 unfold eG;cases p7 x&&!r.sup
 ·refine⟨_,_,_,_,_,rfl,?_,hJ.b⟩;cases cE (wE x a r zs l s)
  ·exact hr
  ·exact hJ.r
 ·exact⟨_,_,_,_,_,rfl,hr,hb⟩
theorem bCD{x:aF}{a:Int}{r:RM}{zs:List Int}{l:List aA}{s h:Bool}(sk:Bool)(hr:r.Ok 65535)(hb:BusOk zs l)(hI:InsOk x): ∃r' zs' l' s' h',(A6 x a sk r zs l s h).1=bV r' zs' l' s' h'∧r'.Ok 65535∧BusOk zs' l':=by
 obtain⟨r',zs',l',s',h',e,o1,o2⟩:=aQO (a:=a) (s:=s) (h:=h) hr hb hI;unfold A6;cases sk&&eqI (eG x a r zs l s h).2.Vector 0
 ·exact⟨_,_,_,_,_,e,o1,o2⟩
 ·rw[cond_true];show∃r' zs' l' s' h',bDL (eG x a r zs l s h).1 r.fl=_∧_
  rw[e];exact⟨{r' with fl:=r.fl},zs',l',s',h',rfl,{o1 with fw:=hr.fw},o2⟩
theorem a47{x:aF}{a:Int}{r:RM}{zs:List Int}{l:List aA}{s h:Bool}(hI:InsOk x)(hf:eF x=false):(eG x a r zs l s h).2.Vector=0∨(eG x a r zs l s h).2.Vector=8:=by
 unfold eG;cases p7 x&&!r.sup
 ·have hz:cE (wE x a r zs l s)=true:=bCC hI rfl hf
  left
  rw[cond_false];show(dF (wE x a r zs l s)).Vector=0
  unfold dF;rw[hz];rfl
 ·exact Or.inr rfl
structure DoneP(x:aF)(a:Int)(r:RM)(zs:List Int)(l:List aA)(f:Int):Prop where
 v:(eG x a {r with fl:=f} zs l false false).2.Vector=0
 s:aD (eG x a r zs l false false).1.R.Flags (cQ x)=aD (eG x a {r with fl:=f} zs l false false).1.R.Flags (cQ x)
 p:(eG x a r zs l false false).1.R.PC=(eG x a {r with fl:=f} zs l false false).1.R.PC
 n:x.Op≠18→aJ (eG x a r zs l false false).1.R.Flags (cQ x)=aJ r.fl (cQ x)
 w:hU x=false→(eG x a r zs l false false).1.Bus.Bytes=ri zs
theorem bCE{x:aF}{a f:Int}{r:RM}{zs:List Int}{l:List aA}(hr:r.Ok 65535)(hb:BusOk zs l)(hI:InsOk x)(hv:(eG x a r zs l false false).2.Vector=0)(hf:bS f 0 31=true)(hR:aD f (cU x)=aD r.fl (cU x)):DoneP x a r zs l f:=by
 have hbp:bS (HB x a) 0 65535=true:=by rw[aW];unfold HB;omega
 have hm:(mq {r with pc:=HB x a} zs l false a (W x)).Ok 65535:=⟨hr.setP hbp,hb⟩
 have hp:(p7 x&&!r.sup)=false:=by
  cases e:p7 x&&!r.sup
  ·rfl
  ·unfold eG at hv;rw[e,cond_true]at hv;exact absurd hv (by show¬(8:Int)=0;decide)
 have hfi:cE (wE x a r zs l false)=true:=by
  cases e:cE (wE x a r zs l false)
  ·unfold eG at hv;rw[hp,cond_false]at hv;have hv:(dF (wE x a r zs l false)).Vector=0:=hv;unfold dF at hv;rw[e,cond_false]at hv;unfold cE at e;rw[cY.2 hv]at e;cases e
  ·rfl
 have hD: ∀f,(eG x a {r with fl:=f} zs l false false)=(bV (bif cE (wE x a {r with fl:=f} zs l false)then(wE x a {r with fl:=f} zs l false).r else{r with fl:=f}) (wE x a {r with fl:=f} zs l false).zs (wE x a {r with fl:=f} zs l false).l (bif cE (wE x a {r with fl:=f} zs l false)then(wE x a {r with fl:=f} zs l false).stop else false) false,dF (wE x a {r with fl:=f} zs l false)):=fun f=>by
  unfold eG;show(bif p7 x&&!r.sup then _ else _)=_
  rw[hp,cond_false]
 have hD0:eG x a r zs l false false=(bV (wE x a r zs l false).r (wE x a r zs l false).zs (wE x a r zs l false).l (wE x a r zs l false).stop false,f0):=by
  have e:=hD r.fl;have er:({r with fl:=r.fl}:RM)=r:=rfl
  rw[er,hfi,sO hfi]at e;exact e
 obtain⟨k,k1,k2⟩:=bQS (a:=a) hI hm hf hR;have eJ:wE x a {r with fl:=f} zs l false=fM (wE x a r zs l false) k:=k1
 have k3:=k2 hfi;have hz:hU x=false→(wE x a r zs l false).zs=zs:=fun q=>bQT (m:=mq {r with pc:=HB x a} zs l false a (W x)) hI q
 have hD1:eG x a {r with fl:=f} zs l false false=(bV (fM (wE x a r zs l false) k).r (wE x a r zs l false).zs (wE x a r zs l false).l (wE x a r zs l false).stop false,f0):=by
  rw[hD f,eJ,sP,hfi,sO (show cE (fM (wE x a r zs l false) k)=true from hfi)]
  rfl
 have k3':aD k (cQ x)=aD (wE x a r zs l false).r.fl (cQ x)∧(x.Op≠18→aJ (wE x a r zs l false).r.fl (cQ x)=aJ r.fl (cQ x)):=k3;generalize wE x a r zs l false=J at*;constructor
 ·rw[hD1];rfl
 ·rw[hD1,hD0];exact k3'.1.symm
 ·rw[hD1,hD0];rfl
 ·rw[hD0];exact k3'.2
 ·intro q;rw[hD0];show ri J.zs=_;rw[hz q]
theorem a48{x:aF}(T:TabI x):cU x=0∨cU x=5∨cU x=1∨cU x=4∨cU x=2∨cU x=8∨cU x=10∨cU x=14∨cU x=16∨cU x=20∨cU x=31:=by
 unfold cU;by_cases h:x.Op=13
 ·rw[cY.2 h,cond_true];have n1:=T.n1;have n2:=T.n2 h;have n3:=T.sb;obtain⟨n,hn⟩:=Int.eq_ofNat_of_zero_le (show 0≤x.Sub+8*x.Reg by omega)
  rw[hn];have key: ∀n:Fin 16,rC (n.val:Int)=0∨rC (n.val:Int)=5∨rC (n.val:Int)=1∨rC (n.val:Int)=4∨rC (n.val:Int)=2∨rC (n.val:Int)=8∨rC (n.val:Int)=10∨rC (n.val:Int)=14:=by decide+kernel
  have:=key ⟨n,by omega⟩
  dsimp only at this;omega
 ·rw[eT.2 h,cond_false];cases eqI x.Op 12&&jO x.Sub 6<;>cases eqI x.Op 18<;>cases eqI x.Op 19&&eqI x.Sub 1<;>simp
theorem b1Q{f u R:Int}(hf:bS f 0 31=true)(hu:bS u 0 31=true)(hR:R=0∨R=5∨R=1∨R=4∨R=2∨R=8∨R=10∨R=14∨R=16∨R=20∨R=31):bS (cD (aD f R) (aJ u R)) 0 31=true∧aD (cD (aD f R) (aJ u R)) R=aD f R:=by
 rcases hR with rfl|rfl|rfl|rfl|rfl|rfl|rfl|rfl|rfl|rfl|rfl
 ·exact bU (p:=fun f=>bS (cD (aD f 0) (aJ u 0)) 0 31=true∧aD (cD (aD f 0) (aJ u 0)) 0=aD f 0) hf fun n=>bU (p:=fun u=>bS (cD (aD (n.val:Int) 0) (aJ u 0)) 0 31=true∧aD (cD (aD (n.val:Int) 0) (aJ u 0)) 0=aD (n.val:Int) 0) hu ((by decide+kernel: ∀n m:Fin 32,bS (cD (aD (n.val:Int) 0) (aJ (m.val:Int) 0)) 0 31=true∧aD (cD (aD (n.val:Int) 0) (aJ (m.val:Int) 0)) 0=aD (n.val:Int) 0) n)
 ·exact bU (p:=fun f=>bS (cD (aD f 5) (aJ u 5)) 0 31=true∧aD (cD (aD f 5) (aJ u 5)) 5=aD f 5) hf fun n=>bU (p:=fun u=>bS (cD (aD (n.val:Int) 5) (aJ u 5)) 0 31=true∧aD (cD (aD (n.val:Int) 5) (aJ u 5)) 5=aD (n.val:Int) 5) hu ((by decide+kernel: ∀n m:Fin 32,bS (cD (aD (n.val:Int) 5) (aJ (m.val:Int) 5)) 0 31=true∧aD (cD (aD (n.val:Int) 5) (aJ (m.val:Int) 5)) 5=aD (n.val:Int) 5) n)
 ·exact bU (p:=fun f=>bS (cD (aD f 1) (aJ u 1)) 0 31=true∧aD (cD (aD f 1) (aJ u 1)) 1=aD f 1) hf fun n=>bU (p:=fun u=>bS (cD (aD (n.val:Int) 1) (aJ u 1)) 0 31=true∧aD (cD (aD (n.val:Int) 1) (aJ u 1)) 1=aD (n.val:Int) 1) hu ((by decide+kernel: ∀n m:Fin 32,bS (cD (aD (n.val:Int) 1) (aJ (m.val:Int) 1)) 0 31=true∧aD (cD (aD (n.val:Int) 1) (aJ (m.val:Int) 1)) 1=aD (n.val:Int) 1) n)
 ·exact bU (p:=fun f=>bS (cD (aD f 4) (aJ u 4)) 0 31=true∧aD (cD (aD f 4) (aJ u 4)) 4=aD f 4) hf fun n=>bU (p:=fun u=>bS (cD (aD (n.val:Int) 4) (aJ u 4)) 0 31=true∧aD (cD (aD (n.val:Int) 4) (aJ u 4)) 4=aD (n.val:Int) 4) hu ((by decide+kernel: ∀n m:Fin 32,bS (cD (aD (n.val:Int) 4) (aJ (m.val:Int) 4)) 0 31=true∧aD (cD (aD (n.val:Int) 4) (aJ (m.val:Int) 4)) 4=aD (n.val:Int) 4) n)
 ·exact bU (p:=fun f=>bS (cD (aD f 2) (aJ u 2)) 0 31=true∧aD (cD (aD f 2) (aJ u 2)) 2=aD f 2) hf fun n=>bU (p:=fun u=>bS (cD (aD (n.val:Int) 2) (aJ u 2)) 0 31=true∧aD (cD (aD (n.val:Int) 2) (aJ u 2)) 2=aD (n.val:Int) 2) hu ((by decide+kernel: ∀n m:Fin 32,bS (cD (aD (n.val:Int) 2) (aJ (m.val:Int) 2)) 0 31=true∧aD (cD (aD (n.val:Int) 2) (aJ (m.val:Int) 2)) 2=aD (n.val:Int) 2) n)
 ·exact bU (p:=fun f=>bS (cD (aD f 8) (aJ u 8)) 0 31=true∧aD (cD (aD f 8) (aJ u 8)) 8=aD f 8) hf fun n=>bU (p:=fun u=>bS (cD (aD (n.val:Int) 8) (aJ u 8)) 0 31=true∧aD (cD (aD (n.val:Int) 8) (aJ u 8)) 8=aD (n.val:Int) 8) hu ((by decide+kernel: ∀n m:Fin 32,bS (cD (aD (n.val:Int) 8) (aJ (m.val:Int) 8)) 0 31=true∧aD (cD (aD (n.val:Int) 8) (aJ (m.val:Int) 8)) 8=aD (n.val:Int) 8) n)
 ·exact bU (p:=fun f=>bS (cD (aD f 10) (aJ u 10)) 0 31=true∧aD (cD (aD f 10) (aJ u 10)) 10=aD f 10) hf fun n=>bU (p:=fun u=>bS (cD (aD (n.val:Int) 10) (aJ u 10)) 0 31=true∧aD (cD (aD (n.val:Int) 10) (aJ u 10)) 10=aD (n.val:Int) 10) hu ((by decide+kernel: ∀n m:Fin 32,bS (cD (aD (n.val:Int) 10) (aJ (m.val:Int) 10)) 0 31=true∧aD (cD (aD (n.val:Int) 10) (aJ (m.val:Int) 10)) 10=aD (n.val:Int) 10) n)
 ·exact bU (p:=fun f=>bS (cD (aD f 14) (aJ u 14)) 0 31=true∧aD (cD (aD f 14) (aJ u 14)) 14=aD f 14) hf fun n=>bU (p:=fun u=>bS (cD (aD (n.val:Int) 14) (aJ u 14)) 0 31=true∧aD (cD (aD (n.val:Int) 14) (aJ u 14)) 14=aD (n.val:Int) 14) hu ((by decide+kernel: ∀n m:Fin 32,bS (cD (aD (n.val:Int) 14) (aJ (m.val:Int) 14)) 0 31=true∧aD (cD (aD (n.val:Int) 14) (aJ (m.val:Int) 14)) 14=aD (n.val:Int) 14) n)
 ·exact bU (p:=fun f=>bS (cD (aD f 16) (aJ u 16)) 0 31=true∧aD (cD (aD f 16) (aJ u 16)) 16=aD f 16) hf fun n=>bU (p:=fun u=>bS (cD (aD (n.val:Int) 16) (aJ u 16)) 0 31=true∧aD (cD (aD (n.val:Int) 16) (aJ u 16)) 16=aD (n.val:Int) 16) hu ((by decide+kernel: ∀n m:Fin 32,bS (cD (aD (n.val:Int) 16) (aJ (m.val:Int) 16)) 0 31=true∧aD (cD (aD (n.val:Int) 16) (aJ (m.val:Int) 16)) 16=aD (n.val:Int) 16) n)
 ·exact bU (p:=fun f=>bS (cD (aD f 20) (aJ u 20)) 0 31=true∧aD (cD (aD f 20) (aJ u 20)) 20=aD f 20) hf fun n=>bU (p:=fun u=>bS (cD (aD (n.val:Int) 20) (aJ u 20)) 0 31=true∧aD (cD (aD (n.val:Int) 20) (aJ u 20)) 20=aD (n.val:Int) 20) hu ((by decide+kernel: ∀n m:Fin 32,bS (cD (aD (n.val:Int) 20) (aJ (m.val:Int) 20)) 0 31=true∧aD (cD (aD (n.val:Int) 20) (aJ (m.val:Int) 20)) 20=aD (n.val:Int) 20) n)
 ·exact bU (p:=fun f=>bS (cD (aD f 31) (aJ u 31)) 0 31=true∧aD (cD (aD f 31) (aJ u 31)) 31=aD f 31) hf fun n=>bU (p:=fun u=>bS (cD (aD (n.val:Int) 31) (aJ u 31)) 0 31=true∧aD (cD (aD (n.val:Int) 31) (aJ u 31)) 31=aD (n.val:Int) 31) hu ((by decide+kernel: ∀n m:Fin 32,bS (cD (aD (n.val:Int) 31) (aJ (m.val:Int) 31)) 0 31=true∧aD (cD (aD (n.val:Int) 31) (aJ (m.val:Int) 31)) 31=aD (n.val:Int) 31) n)
theorem a49{x:List Row}(h:bytesOk x=true):k10 x=true∧CG 65536 (jW x).1:=by
 refine aE (t:=T10 x) (P:=fun q=>CG 65536 q.1) ?_
 obtain⟨a1,a2,a3⟩:=bP0 (b07 h) (by decide)
 obtain⟨b1,b2⟩:=bDG a2 (by decide)
 obtain⟨c1,c2,-⟩:=dZ 200 b2 (by decide)
 obtain⟨e1,-⟩:=EO 3 c2 (by decide)
 unfold T10;simp only[bF,aW3,VB,a1,b1,c1,e1,eA,wz,bT];exact a3
theorem okF(x0 x1:List Row)(h0:bytesOk x0=true)(x:aF)(a:Int)(sk:Bool)(r:RM)(zs:List Int)(l:List aA)(s h:Bool)(ev:jW x0=(bV r zs l s h,x,a,sk))(sm:Sm r zs l)(hok:(((nF r zs l s h&&!s)&&!h)&&(dU x&&bS a 0 65535))=false):(T3 x0 x1).Sat (fun q=>q=true):=by
 obtain⟨d1,-⟩:=a49 h0;obtain⟨e1,e2⟩:=aBB x a sk s h sm;obtain⟨e3,e4⟩:=a46 x a sk s h sm;have hE:NA x a sk r zs l s h=(zC,f0,false):=by unfold NA;rw[hok];rfl
 rw[hE]at e2 e4;obtain⟨z1,z2⟩:=zC_ce.self;have eI: ∀x,eqI x x=true:=fun x=>by simp
 have nI: ∀x,cV x x=false:=fun x=>by simp
 have eB: ∀x,rD x x=true:=fun x=>by simp
 unfold T3;simp only[bF,a28,aJI,a27,D6,bA6,a26,R3,AL,ev,d1,(DY _).1,(DZ _).1,(zD _).1,(zE _).1,(V2 _).1,(V3 _).1,(LP _).1,(LQ _).1,(LR _).1,(LS _).1,(DY _).2,(DZ _).2,(zD _).2,(zE _).2,(V2 _).2,(V3 _).2,(LP _).2,(LQ _).2,(LR _).2,(LS _).2,e1,e2,e3,e4,z1,z2,eI,nI,eB,bT,bW]
theorem okT(x0 x1:List Row)(h0:bytesOk x0=true)(h1:bytesOk x1=true)(m1:x1.length≤9223372036854775807)(x:aF)(a:Int)(sk:Bool)(r:RM)(zs:List Int)(l:List aA)(ev:jW x0=(bV r zs l false false,x,a,sk))(hr:r.Ok 65535)(hb:BusOk zs l)(hc:nF r zs l false false=true)(hG:dU x=true)(hW:bS a 0 65535=true):(T3 x0 x1).Sat (fun q=>q=true):=by
 have hI:=InsOk.of hG;have T:=TabI.of hI;have sm:=Sm.of hr hb;obtain⟨d1,-⟩:=a49 h0;obtain⟨e1,e2⟩:=aBB x a sk false false sm;obtain⟨e3,e4⟩:=a46 x a sk false false sm;obtain⟨e5,e6⟩:=aBB x a false false false sm;have hE: ∀sk,NA x a sk r zs l false false=((A6 x a sk r zs l false false).1,(eG x a r zs l false false).2,true):=fun sk=>by unfold NA;rw[hc,hG,hW];rfl
 rw[hE]at e2 e4 e6;have e0:(A6 x a false r zs l false false).1=(eG x a r zs l false false).1:=by unfold A6;rw[Bool.false_and,cond_false]
 rw[e0]at e6;obtain⟨r',zs',l',s',h',q1,q2,q3⟩:=bCD (a:=a) (s:=false) (h:=false) sk hr hb hI;obtain⟨z1,z2⟩:=CE.self ⟨r',zs',l',s',h',q1,(Sm.of q2 q3).sz⟩;obtain⟨r2,zs2,l2,s2,h2,p1,p2,p3⟩:=aQO (a:=a) (s:=false) (h:=false) hr hb hI;have eI: ∀x,eqI x x=true:=fun x=>by simp
 have nI: ∀x,cV x x=false:=fun x=>by simp
 have eB: ∀x,rD x x=true:=fun x=>by simp
 have hs7:(bif (bif sk then eqI (eG x a r zs l false false).2.Vector 0 else false)then cV (A6 x a sk r zs l false false).1.R.Flags r.fl else false)=false:=by
  cases sk
  ·rfl
  ·rw[cond_true];cases hv:eqI (eG x a r zs l false false).2.Vector 0
   ·rfl
   ·have:(A6 x a true r zs l false false).1.R.Flags=r.fl:=by unfold A6;rw[hv,Bool.true_and,cond_true];rfl
    rw[this];simp
 unfold T3;cases hv:eqI (eG x a r zs l false false).2.Vector 0
 ·rw[hv]at hs7;have hm:(bif !eF x then cV (eG x a r zs l false false).2.Vector 8 else false)=false:=by
   cases hf:eF x
   ·rcases a47 (a:=a) (r:=r) (zs:=zs) (l:=l) (s:=false) (h:=false) hI hf with h|h
    ·rw[h]at hv;cases hv
    ·rw[h];rfl
   ·rfl
  simp only[bF,a28,aJI,a27,D6,bA6,a26,R3,AL,ev,d1,(DY _).1,(DZ _).1,(zD _).1,(zE _).1,(V2 _).1,(V3 _).1,(LP _).1,(LQ _).1,(LR _).1,(LS _).1,(DY _).2,(DZ _).2,(zD _).2,(zE _).2,(V2 _).2,(V3 _).2,(LP _).2,(LQ _).2,(LR _).2,(LS _).2,e1,e2,e3,e4,e5,e6,hG,z1,z2,hv,hm,hs7,mR,aM,eI,nI,eB,bT,bW]
 ·rw[hv]at hs7;obtain⟨n1,n2⟩:=bQU h1 m1;obtain⟨m0,m2⟩:=NJ (x:=g25 x1) (n:=32) n2 (by omega)
  obtain⟨f1,f2⟩:=b1Q (u:=iC (g25 x1) 32) hr.fw (aW.2 (by omega)) (a48 T)
  have P:=bCE (a:=a) hr hb hI (cY.1 hv) f1 f2;obtain⟨k1,k2⟩:=v6 zs2 zs (by have:=p3.hz;omega)
  have k1':k24 (eG x a r zs l false false).1.Bus.Bytes (ri zs)=true:=by rw[p1];exact k1
  have w1:(bif cV (aJ (eG x a r zs l false false).1.R.Flags (cQ x)) (aJ r.fl (cQ x))then cV x.Op 18 else false)=false:=by
   by_cases h18:x.Op=18
   ·rw[h18];cases cV (aJ (eG x a r zs l false false).1.R.Flags (cQ x)) (aJ r.fl (cQ x))<;>rfl
   ·rw[P.n h18,nI];rfl
  have w2:(bif !hU x then !(g24 (eG x a r zs l false false).1.Bus.Bytes (ri zs))else false)=false:=by
   cases hw:hU x
   ·have k3:=(v6 zs zs (by have:=hb.hz;omega)).2
    rw[P.w hw,k3,decide_eq_true rfl];rfl
   ·rfl
  have hr2:RM.Ok 65535 {r with fl:=cD (aD r.fl (cU x)) (aJ (iC (g25 x1) 32) (cU x))}:={hr with fw:=f1}
  have gd:nF {r with fl:=cD (aD r.fl (cU x)) (aJ (iC (g25 x1) 32) (cU x))} zs l false false=true:=a4U hr2 hb rfl
  have smd:Sm {r with fl:=cD (aD r.fl (cU x)) (aJ (iC (g25 x1) 32) (cU x))} zs l:=Sm.of hr2 hb
  obtain⟨e7,e8⟩:=aBB x a false false false smd;have hE2:NA x a false {r with fl:=cD (aD r.fl (cU x)) (aJ (iC (g25 x1) 32) (cU x))} zs l false false=((eG x a {r with fl:=cD (aD r.fl (cU x)) (aJ (iC (g25 x1) 32) (cU x))} zs l false false).1,(eG x a {r with fl:=cD (aD r.fl (cU x)) (aJ (iC (g25 x1) 32) (cU x))} zs l false false).2,true):=by
   unfold NA A6;rw[gd,hG,hW,Bool.false_and,cond_false];rfl
  rw[hE2]at e8;have hd:(aH.mk (aG.mk (ri r.d) (ri r.a) r.oth r.pc (cD (aD r.fl (cU x)) (aJ (iC (g25 x1) 32) (cU x))) r.mask r.sup r.tr) (wM zs l) false false)=bV {r with fl:=cD (aD r.fl (cU x)) (aJ (iC (g25 x1) 32) (cU x))} zs l false false:=rfl
  have v0:cV (eG x a {r with fl:=cD (aD r.fl (cU x)) (aJ (iC (g25 x1) 32) (cU x))} zs l false false).2.Vector 0=false:=by rw[P.v];rfl
  have Ps:=P.s;have Pp:=P.p;generalize (eG x a {r with fl:=cD (aD r.fl (cU x)) (aJ (iC (g25 x1) 32) (cU x))} zs l false false)=E at*
  simp only[bF,a28,aJI,a27,D6,bA6,a26,R3,AL,ev,d1,(DY _).1,(DZ _).1,(zD _).1,(zE _).1,(V2 _).1,(V3 _).1,(LP _).1,(LQ _).1,(LR _).1,(LS _).1,(DY _).2,(DZ _).2,(zD _).2,(zE _).2,(V2 _).2,(V3 _).2,(LP _).2,(LQ _).2,(LR _).2,(LS _).2,e1,e2,e3,e4,e5,e6,e7,e8,hG,z1,z2,hv,hs7,k1',w1,w2,n1,hd,v0,Ps,Pp,mR,oN,mP,nG,aC5,eL,eN,aN,cJ,aM,bA,aO,aP,eI,nI,eB,bT,bW]
theorem okL(x0 x1:List Row)(h0:bytesOk x0=true)(h1:bytesOk x1=true)(_:x0.length≤9223372036854775807)(m1:x1.length≤9223372036854775807):k3 x0 x1=true∧g3 x0 x1=true:=by
 refine aE (t:=T3 x0 x1) (P:=fun q=>q=true) ?_
 obtain⟨d1,r,zs,l,s,h,e,hr,hb⟩:=a49 h0;have ev:jW x0=(bV r zs l s h,(jW x0).2.1,(jW x0).2.2.1,(jW x0).2.2.2):=by rw[←e]
 have sm:=Sm.of hr hb;cases hok:((nF r zs l s h&&!s)&&!h)&&(dU (jW x0).2.1&&bS (jW x0).2.2.1 0 65535)
 ·exact okF x0 x1 h0 _ _ _ r zs l s h ev sm hok
 ·obtain⟨a,bc⟩:=bB hok;obtain⟨b,c⟩:=bB bc;obtain⟨a1,rfl,rfl⟩:=SQ a;obtain⟨r1,b1⟩:=aA1 a1;exact okT x0 x1 h0 h1 m1 _ _ _ r zs l ev r1 b1 a1 b c
end Go.Proofs.YtdicpjkdpliofaaGreatMasks
