import Derived.Test.YtdicpjkdpliofaaGreatZmb
import Derived.KernelRfl
set_option linter.unusedVariables false
set_option linter.unusedSimpArgs false
namespace Go.Zq
open Go
theorem aD9{P:Program}(w:World)(d:Nat)(t e:TypeId)(a:Option Addr)(l c:Nat)(h:P.underlying t=some (.slice e)):(Op.equalIn (d+1) t (.slice a l c) (.slice none 0 0)).run P w= .ok a.isNone w:=by
 unfold Op.equalIn;simp only[Sem.run_bind,run_underlying h,Result.andThen_ok];cases a<;>rfl
def xI(p:Bool)(n:Nat)(rows:List Row):List (Nat×SV):=[(2, .one (.nls n)),(0, .one (.imm p n rows))]
theorem bLO(R:Rt){p:Bool}{n k:Nat}{rows:List Row}{b:Bool}:fV R 0 k (.seq (.ops [(none, .mv 2 (.c (.one (.nls n))))] none) .ret) ⟨(4, .one (B b))::(3, .one (.imm p n rows))::xI p n rows,[]⟩=
  some (.ret ⟨(2, .one (.nls n))::(4, .one (B b))::(3, .one (.imm p n rows))::xI p n rows,[]⟩):=by
 simp only[fV,dO,kE,K.run,K.exec,St.ev,Option.bind_some,setD,K.dst,St.set,trim]
theorem bLP(R:Rt){p:Bool}{n k by_:Nat}{z:Row}{rows:List Row}{b:Bool}(hz:z.length=n)(h1:rows.length*by_≤room)(h2:rows.length≤room):
  fV R 0 k (.seq (.ops [(none, .bsl 5 0 z []),(none, .mv 6 (.t 0)),(none, .app 7 by_ n (.t 5) (.t 6)),(none, .mv 2 (.t 7))] none) .ret) ⟨(4, .one (B b))::(3, .one (.imm p n rows))::xI p n rows,[]⟩=
  some (.ret ⟨(2, .one (.sl 1 0 rows.length))::(7, .one (.sl 1 0 rows.length))::(6, .one (.imm p n rows))::(5, .one (.sl 0 0 0))::(4, .one (B b))::(3, .one (.imm p n rows))::xI p n rows,[.dead, .lst n rows]⟩):=by
 simp[fV,dO,kE,K.run,K.exec,St.ev,setD,K.dst,St.set,trim,fillRows,bC,xI,iY,dE,NX,mQ,HI,hz,h1,h2]
theorem aQ6{σ:St}{n:Nat}(hh:σ.hp=[]):leave 0 σ [.one (.nls n)]=some (.one (.sl 0 0 0),[.lst n []]):=by
 simp[leave,eS,fB,uN,NU,JN,aTX,aBE,hh,oB,uO,aTZ,bY,NV,A9,dS,mQ,dE,pE,ren,aBF]
theorem aQ7{σ:St}{n:Nat}{rows:List Row}(hh:σ.hp=[.dead, .lst n rows]):leave 0 σ [.one (.sl 1 0 rows.length)]=some (.one (.sl 0 0 rows.length),[.lst n rows]):=by
 simp[leave,eS,fB,uN,NU,JN,aTX,aBE,aTW,hh,oB,uO,aTZ,bY,NV,A9,dS,mQ,dE,pE,ren,A7]
structure CloneSh(P:Program)(f:FuncId)(n by_:Nat) where
 fn:Func
 h:Hint
 q:Array Oper→List Nat→List G→Bool
 dr:FB P q
 t:TypeId
 e:TypeId
 z:Row
 x:Code
 y:Code
 i0:Nat
 i1:Nat
 ops0:Array Oper
 o1:Oper
 o2:Oper
 hf:P.funcs[f]? =some fn:=by kernel_rfl
 hname:(fn.name== "runtime.NumGoroutine")=false:=by kernel_rfl
 hb:fn.body=some (.seq (.region i0 ops0 false) (.seq (.seq (.region i1 #[o1,o2] false) (.cond (.tmp 4) x .skip)) y))
 hn:fn.ntmps=8:=by kernel_rfl
 hr:fn.results= #[.tmp 2]:=by kernel_rfl
 hA:oO P 8 h q (.region i0 ops0 false)=some (.ops [(none, .mv 2 (.c (.one (.nls n))))] none):=by kernel_rfl
 ho1:EB P 8 h.md false #[o1,o2] o1=some (none, .mv 3 (.t 0)):=by kernel_rfl
 ho2:o2.op= .binOp .eql t (.tmp 3) (.const (.slice none 0 0)) t:=by kernel_rfl
 hd2:o2.dst=some 4:=by kernel_rfl
 hg2:o2.guard=none:=by kernel_rfl
 ht:P.underlying t=some (.slice e):=by kernel_rfl
 hx:oO P 8 h q x=some (.seq (.ops [(none, .mv 2 (.c (.one (.nls n))))] none) .ret):=by kernel_rfl
 hz:z.length=n:=by kernel_rfl
 hy:oO P 8 h q y=some (.seq (.ops [(none, .bsl 5 0 z []),(none, .mv 6 (.t 0)),(none, .app 7 by_ n (.t 5) (.t 6)),(none, .mv 2 (.t 7))] none) .ret):=by kernel_rfl
theorem aUX{P:Program}{R:Rt}(hR:oP P R)(hord:OG P){f:FuncId}{n by_:Nat}(s:CloneSh P f n by_){p:Bool}{rows:List Row}(h1:rows.length*by_≤room)(h2:rows.length≤room):
  TC P f [.one (.imm p n rows)] [] (.one (.sl 0 0 rows.length)) [.lst n rows]:=by
 obtain⟨fn,h,q,dr,t,e,z,x,y,i0,i1,ops0,o1,o2,hf,hname,hb,hn,hr,hA,ho1,ho2,hd2,hg2,ht,hx,hz,hy⟩:=s;intro w ρ S us hent;have hdr:DrawSound P q:=⟨dr,hord⟩;have hsim:=hent.sim (N:=8) (by simp)
 have hS:qD 0 [SV.one (T.imm p n rows)]=[(0, .one (.imm p n rows))]:=rfl;have hN:cX []=0:=rfl;rw[hS,hN]at hsim;have fin: ∀(σ:St)(v:SV)(ρ1:Rho)(S1:Rds)(a1:Act)(w1:World),Sim w (wOf [] ρ) S ρ 0 8 ρ1 S1 σ a1 w1→bC 2 σ.sl=some v→leave 0 σ [v]=some (.one (.sl 0 0 rows.length),[.lst n rows])→
   bodyPost P fn (fun| .returned u,w'=>Exit w (wOf [] ρ) S ρ (cX []) (.one (.sl 0 0 rows.length)) [.lst n rows] u w'|_,_=>False) .ret a1 w1:=by
  intro σ v ρ1 S1 a1 w1 hs hv hl;have hrs:HL P 8 fn.results.toList=some [.tmp 2]:=by rw[hr];rfl
  obtain⟨us1,k1,k2,k3⟩:=FE (P:=P) hs fn.results.toList _ hrs [v] (by simp[eH,hv])
  refine⟨hs.defers,_,?_,hs.leave k2 k3 hl⟩;rw[FD];simp only[Array.mapM_eq_mapM_toList,Sem.run_bind,Sem.run_map,k1]
  match us1 with
  |[]=>rfl
  |[u]=>rfl
  |x::y::r=>rfl
 refine calls_of_wp hf hb ?_;rw[hn];refine wp_seq (wp_mono (HV hR hdr (n:=1) _ _ hA _ _ _ _ _ (.nor ⟨xI p n rows,[]⟩) hsim (by simp only[fV,dO,kE,K.run,K.exec,St.ev,Option.bind_some,setD,K.dst,St.set,trim,xI])) fun ex a1 w1 hp=>?_)
 cases ex with
 |normal=>
  obtain⟨σ1,ρ1,S1,e1,hs1⟩:=hp;obtain rfl:=Out.nor.inj e1;refine wp_seq (wp_seq (wp_region ?_));show wpOps P #[o1,o2] _ [0,1] a1 w1
  simp only[wpOps];refine NC hR hs1 ho1 (σ':=⟨(3, .one (.imm p n rows))::xI p n rows,[]⟩) (by simp[kE,K.run,K.exec,St.ev,setD,K.dst,St.set,bC,xI]) fun ρ2 S2 a2 w2 hs2=>?_
  have h3:RS ρ2 w2 S2 (.one (.imm p n rows)) (a2.tmps.getD 3 undef):=(hs2.slots 3 _ (by simp[bC])).2
  have hval: ∃ad l c,a2.tmps.getD 3 undef= .slice ad l c∧(ad.isNone=true→rows=[]):=by
   generalize a2.tmps.getD 3 undef=v at h3;cases h3 with
   |one h=>cases h with
    |ri h=>cases h with
     |nil=>exact⟨_,_,_,rfl,fun _=>rfl⟩
     |imm=>exact⟨_,_,_,rfl,fun h=>by simp at h⟩
  obtain⟨ad,l,c,hv,hnil⟩:=hval;have hdo:lI P w (wOf [] ρ) S ρ 0 8 ⟨(3, .one (.imm p n rows))::xI p n rows,[]⟩ a2 w2 o2 (.one (B ad.isNone)) []:=by
   refine d7 hs2 (u:= .bool ad.isNone) ?_ .bool;simp only[execOp,ho2,Sem.run_bind];have e3:a2.eval (.tmp 3)= .slice ad l c:=hv;have e4:a2.eval (.const (.slice none 0 0))= .slice none 0 0:=rfl;rw[e3,e4];have hg:(eqGuard .eql t (.tmp 3) (.const (.slice none 0 0)) (.slice ad l c) (.slice none 0 0)).run P w2= .ok () w2:=rfl;have he:(Op.equal t (.slice ad l c) (.slice none 0 0)).run P w2= .ok ad.isNone w2:=aD9 w2 9999 t e ad l c ht;simp[Go.binOp,he,hg]
  have hwant:Region.wanted o2 (yielded #[o1,o2] a2.tmps):=by simp[Region.wanted,hg2]
  show if Region.wanted o2 (yielded #[o1,o2] a2.tmps)then _ else _
  rw[if_pos hwant];refine .inl (OpDone.of_does hs2 hd2 (by decide) hdo _ _ fun ρ3 S3 a3 w3 hs3=>?_)
  have hc:a3.eval (.tmp 4)= .bool ad.isNone:=kY (hs3.slots 4 (.one (B ad.isNone)) (by simp[setD,St.set,bC])).2 rfl
  show(Code.cond (.tmp 4) x .skip).wp P _ a3 w3
  refine wp_cond hc ?_;cases hb:ad.isNone with
  |true=>
   rw[hb]at hs3;simp only[if_true];refine wp_mono (HV hR hdr (n:=1) _ _ hx _ _ _ _ _ _ hs3 (bLO R)) fun ex a4 w4 hp4=>?_
   cases ex with
   |ret=>
    obtain⟨σ4,ρ4,S4,e4,hs4⟩:=hp4;obtain rfl:=Out.ret.inj e4;have:=hnil hb;subst this;exact fin _ (.one (.nls n)) ρ4 S4 a4 w4 hs4 (by simp[bC]) (aQ6 rfl)
   |normal=>obtain⟨_,_,_,e4,_⟩:=hp4;simp at e4
   |exit id=>obtain⟨_,_,_,e4,_⟩:=hp4;simp at e4
   |goto l=>exact hp4.elim
   |panic ch=>exact hp4.elim
   |outgrown=>exact hp4.elim
  |false=>
   rw[hb]at hs3;refine wp_skip ?_;show y.wp P _ a3 w3
   refine wp_mono (HV hR hdr (n:=1) _ _ hy _ _ _ _ _ _ hs3 (bLP R hz h1 h2)) fun ex a4 w4 hp4=>?_
   cases ex with
   |ret=>
    obtain⟨σ4,ρ4,S4,e4,hs4⟩:=hp4;obtain rfl:=Out.ret.inj e4;exact fin _ (.one (.sl 1 0 rows.length)) ρ4 S4 a4 w4 hs4 (by simp[bC]) (aQ7 rfl)
   |normal=>obtain⟨_,_,_,e4,_⟩:=hp4;simp at e4
   |exit id=>obtain⟨_,_,_,e4,_⟩:=hp4;simp at e4
   |goto l=>exact hp4.elim
   |panic ch=>exact hp4.elim
   |outgrown=>exact hp4.elim
 |exit id=>obtain⟨_,_,_,e1,_⟩:=hp;simp at e1
 |ret=>obtain⟨_,_,_,e1,_⟩:=hp;simp at e1
 |goto l=>exact hp.elim
 |panic ch=>exact hp.elim
 |outgrown=>exact hp.elim
def WJ(n by_:Nat):List SV→List Blk→Option (SV×List Blk)
 |[.one (.imm _ m rows)],[]=>if m=n∧rows.length*by_≤room∧rows.length≤room then some (.one (.sl 0 0 rows.length),[.lst n rows])else none
 |_,_=>none
def EH:List (FuncId×Nat×Nat)→Rt
 |[],_,_,_=>none
 |(g,n,b)::r,f,args,hp=>if g=f then WJ n b args hp else EH r f args hp
theorem a5Q(P:Program):JT P (EH []):=fun _ _ _ _ _ h=>by simp[EH]at h
theorem aB1{P:Program}(hm:P.follows .mixedOrders=true){f:FuncId}{n by_:Nat}(s:CloneSh P f n by_){r:List (FuncId×Nat×Nat)}(hr:JT P (EH r)):JT P (EH ((f,n,by_)::r)):=fun g args hp res hp' h=>by
 unfold EH at h;split at h
 ·rename_i e;subst e;unfold WJ at h;split at h
  ·rename_i p m rows;obtain⟨⟨rfl,h1,h2⟩,h3⟩:=bQ h;simp only[Option.some.injEq,Prod.mk.injEq]at h3;obtain⟨rfl,rfl⟩:=h3;exact⟨⟨_,_,s.hf,s.hb,s.hname⟩,aUX (aBZ P) (UJ hm) s h1 h2⟩
  ·simp at h
 ·exact hr g args hp res hp' h
end Go.Zq

namespace Go.Zq
open Go
def bRR:List SV→SV
 |[v]=>v
 |vs=> .tup vs
section
variable{R:Rt}{nb n:Nat}{x y:C}{σ σ1:St}{id:Nat}
end
end Go.Zq

namespace Go.Zq
open Option renaming bind_eq_some_iff → qB
open Option.some renaming injEq → qI
open Prod.mk renaming injEq → qP
open Go
theorem bB{a b:Bool}(h:(a&&b)=true):a=true∧b=true:=by simpa using h
def JX:List Src→Nat→Nat→Nat→Nat→Option (Nat×Bool)
 |[],_,_,_,_=>none
 | .lst id o l::r,k,j,off,len=>if id=j then some (k,decide (o=off)&&decide (l=len))else JX r (k+1) j off len
 |_::r,k,j,off,len=>JX r (k+1) j off len
theorem DI: ∀{l:List Src}{k j off len n:Nat},JX l k j off len=some (n,true)→A7 l k j off len=some n
 |[],k,j,off,len,n,h=>by simp[JX]at h
 | .lst id o l::r,k,j,off,len,n,h=>by
   simp only[JX]at h;simp only[A7];split at h
   ·rename_i e;simp only[qI,qP,Bool.and_eq_true,decide_eq_true_eq]at h;rw[if_pos ⟨e,h.2.1,h.2.2⟩,h.1]
   ·rename_i e;rw[if_neg (fun x=>e x.1)]
    exact DI h
 | .box _ _ _::r,k,j,off,len,n,h=>DI (l:=r) h
 | .nil _::r,k,j,off,len,n,h=>DI (l:=r) h
def MW(src:List Src)(m:Nat):T→Option ((T×Nat)×Bool)
 | .lit v=>some ((.lit v,m),true)
 | .nls _=>(aBF src 0 m).bind fun k=>some ((.sl k 0 0,m+1),true)
 | .sl id off len=>(JX src 0 id off len).bind fun k=>some ((.sl k.1 0 len,m),k.2)
 | .imm p n rows=>some ((.imm p n rows,m),true)
 | .clo f caps=>(HH src caps).bind fun caps=>some ((.clo f caps,m),true)
 | .ptr id row off=>(V4 src (.ptr id row off)).bind fun t=>some ((t,m),true)
 | .ip _=>none
theorem ND{src:List Src}{m:Nat}{t:T}{r:T×Nat}(h:MW src m t=some (r,true)):ren src m t=some r:=by
 cases t with
 |lit v=>simpa [MW,ren]using h
 |nls n=>
  simp only[MW,qB,qI,qP,and_true]at h;obtain⟨k,hk,rfl⟩:=h;simp[ren,hk]
 |sl id off len=>
  simp only[MW,qB,qI,qP]at h;obtain⟨k,hk,rfl,h2⟩:=h;have:=DI (n:=k.1) (by rw[hk,←h2])
  simp[ren,this]
 |imm p n rows=>simpa [MW,ren]using h
 |clo f caps=>
  simp only[MW,qB,qI,qP,and_true]at h;obtain⟨k,hk,rfl⟩:=h;simp[ren,hk]
 |ptr id row off=>
  simp only[MW,qB,qI,qP,and_true]at h;obtain⟨k,hk,rfl⟩:=h;simp[ren,hk]
 |ip _=>simp[MW]at h
def wV(src:List Src)(m:Nat):Row→Option ((Row×Nat)×Bool)
 |[]=>some (([],m),true)
 |t::r=>(MW src m t).bind fun x=>(wV src x.1.2 r).bind fun y=>some ((x.1.1::y.1.1,y.1.2),x.2&&y.2)
theorem uT{src:List Src}: ∀{m:Nat}{t:Row}{r:Row×Nat},wV src m t=some (r,true)→rF src m t=some r
 |m,[],r,h=>by simpa [wV,rF]using h
 |m,t::s,r,h=>by
  simp only[wV,qB,qI,qP]at h;obtain⟨x,hx,y,hy,rfl,ho⟩:=h;obtain⟨o1,o2⟩:=bB ho;have h1:=ND (r:=x.1) (by rw[hx,←o1])
  have h2:=uT (r:=y.1) (by rw[hy,←o2])
  simp[rF,h1,h2]
def zO(wm:Bool)(hp:List Blk):T→Option (List Row×Bool)
 | .nls _=>some ([],true)
 | .imm _ _ rows=>some (rows,true)
 | .sl id off len=>
   match hp[id]? with
   |some (.lst _ rows)=>if wm=true then some (rows,decide (off=0)&&decide (len=rows.length))else some ((rows.drop off).take len,decide (off+len≤rows.length))
   |_=>none
 |_=>none
theorem uU{wm:Bool}{hp:List Blk}{t:T}{r:List Row}(h:zO wm hp t=some (r,true)):dE hp t=some r:=by
 unfold zO at h;unfold dE;split at h
 ·simpa using h
 ·simpa using h
 ·split at h
  ·rename_i hb;simp only[hb];split at h
   ·simp only[qI,qP,Bool.and_eq_true,decide_eq_true_eq]at h;obtain⟨rfl,rfl,rfl⟩:=h;simp
   ·simp only[qI,qP,decide_eq_true_eq]at h;rw[if_pos h.2,h.1]
  ·simp at h
 ·simp at h
def EI(wm:Bool)(hp:List Blk)(src:List Src):T→Option (T×Bool)
 | .lit v=>some (.lit v,true)
 | .nls n=>some (.imm false n [],true)
 | .imm p n rows=>some (.imm p n rows,true)
 | .sl id off len=>(mQ hp (.sl id off len)).bind fun n=>(zO wm hp (.sl id off len)).bind fun rows=>if src.all (aDN id)then some (.imm false n rows.1,rows.2)else none
 | .clo f caps=>(HH src caps).bind fun caps=>some (.clo f caps,true)
 | .ptr id row off=>(V4 src (.ptr id row off)).bind fun t=>some (t,true)
 | .ip _=>none
theorem aB2{wm:Bool}{hp:List Blk}{src:List Src}{t r:T}(h:EI wm hp src t=some (r,true)):A8 hp src t=some r:=by
 cases t with
 |lit v=>simpa [EI,A8]using h
 |nls n=>simpa [EI,A8]using h
 |sl id off len=>
  simp only[EI,qB]at h;obtain⟨n,hn,rows,hr,h⟩:=h;split at h
  ·rename_i e;simp only[qI,qP]at h;have:=uU (r:=rows.1) (by rw[hr,←h.2])
   simp[A8,hn,this,e,h.1]
  ·simp at h
 |imm p n rows=>simpa [EI,A8]using h
 |clo f caps=>
  simp only[EI,qB,qI,qP,and_true]at h;obtain⟨k,hk,rfl⟩:=h;simp[A8,hk]
 |ptr id row off=>
  simp only[EI,qB,qI,qP,and_true]at h;obtain⟨k,hk,rfl⟩:=h;simp[A8,hk]
 |ip _=>simp[EI]at h
def BK(wm:Bool)(hp:List Blk)(src:List Src):Row→Option (Row×Bool)
 |[]=>some ([],true)
 |t::r=>(EI wm hp src t).bind fun t=>(BK wm hp src r).bind fun r=>some (t.1::r.1,t.2&&r.2)
theorem MA{wm:Bool}{hp:List Blk}{src:List Src}: ∀{t r:Row},BK wm hp src t=some (r,true)→wN hp src t=some r
 |[],r,h=>by simpa [BK,wN]using h
 |t::s,r,h=>by
  simp only[BK,qB,qI,qP]at h;obtain⟨x,hx,y,hy,rfl,ho⟩:=h;obtain⟨o1,o2⟩:=bB ho;have h1:=aB2 (r:=x.1) (by rw[hx,←o1])
  have h2:=MA (r:=y.1) (by rw[hy,←o2])
  simp[wN,h1,h2]
def mZ(wm:Bool)(hp:List Blk)(src:List Src):Nat→List Src→Option ((List Blk×Nat)×Bool)
 |m,[]=>some (([],m),true)
 |m,s::r=>
  match s with
  | .box id off n=>
    (wV src m (sR hp (.box id off n))).bind fun x=>(mZ wm hp src x.1.2 r).bind fun y=>some ((.box x.1.1::y.1.1,y.1.2),x.2&&y.2)
  | .lst id off len=>
    (mQ hp (.sl id off len)).bind fun n=>(zO wm hp (.sl id off len)).bind fun rows=>(mZ wm hp src m r).bind fun y=>some ((.lst n rows.1::y.1.1,y.1.2),rows.2&&y.2)
  | .nil n=>(mZ wm hp src m r).bind fun y=>some ((.lst n []::y.1.1,y.1.2),y.2)
theorem pU{wm:Bool}{hp:List Blk}{src:List Src}: ∀{l:List Src}{m:Nat}{r:List Blk×Nat},mZ wm hp src m l=some (r,true)→dS hp src m l=some r
 |[],m,r,h=>by simpa [mZ,dS]using h
 | .box id off n::s,m,r,h=>by
   simp only[mZ,qB,qI,qP]at h;obtain⟨x,hx,y,hy,rfl,ho⟩:=h;obtain⟨o1,o2⟩:=bB ho;have h1:=uT (r:=x.1) (by rw[hx,←o1])
   have h2:=pU (r:=y.1) (by rw[hy,←o2])
   simp[dS,h1,h2]
 | .lst id off len::s,m,r,h=>by
   simp only[mZ,qB,qI,qP]at h;obtain⟨n,hn,x,hx,y,hy,rfl,ho⟩:=h;obtain⟨o1,o2⟩:=bB ho;have h1:=uU (r:=x.1) (by rw[hx,←o1])
   have h2:=pU (r:=y.1) (by rw[hy,←o2])
   simp[dS,hn,h1,h2]
 | .nil n::s,m,r,h=>by
   simp only[mZ,qB,qI,qP]at h;obtain⟨y,hy,rfl,ho⟩:=h;have h2:=pU (r:=y.1) (by rw[hy,←ho])
   simp[dS,h2]
def qJ(wm:Bool)(hp:List Blk)(src:List Src):Nat→List (SV×Nat×Bool)→Option (List SV×Bool)
 |_,[]=>some ([],true)
 |m,(v,_,mv)::r=>
  match v with
  | .one t=>
    if mv then(MW src m t).bind fun x=>(qJ wm hp src x.1.2 r).bind fun r=>some (.one x.1.1::r.1,x.2&&r.2)
    else(EI wm hp src t).bind fun x=>(qJ wm hp src m r).bind fun r=>some (.one x.1::r.1,x.2&&r.2)
  | .agg ts=>
    if mv then(wV src m ts).bind fun x=>(qJ wm hp src x.1.2 r).bind fun r=>some (.agg x.1.1::r.1,x.2&&r.2)
    else(BK wm hp src ts).bind fun x=>(qJ wm hp src m r).bind fun r=>some (.agg x.1::r.1,x.2&&r.2)
  |_=>none
theorem pV{wm:Bool}{hp:List Blk}{src:List Src}: ∀{vs:List (SV×Nat×Bool)}{m:Nat}{r:List SV},qJ wm hp src m vs=some (r,true)→kV hp src m vs=some r
 |[],m,r,h=>by simpa [qJ,kV]using h
 |(v,n,mv)::s,m,r,h=>by
  unfold qJ at h;unfold kV;split at h
  ·cases mv
   ·simp only[Bool.false_eq_true,if_false,qB,qI,qP]at h⊢;obtain⟨x,hx,y,hy,rfl,ho⟩:=h;obtain⟨o1,o2⟩:=bB ho;exact⟨x.1,aB2 (by rw[hx,←o1]),y.1,pV (by rw[hy,←o2]),rfl⟩
   ·simp only[if_true,qB,qI,qP]at h⊢;obtain⟨x,hx,y,hy,rfl,ho⟩:=h;obtain⟨o1,o2⟩:=bB ho;exact⟨x.1,ND (by rw[hx,←o1]),y.1,pV (by rw[hy,←o2]),rfl⟩
  ·cases mv
   ·simp only[Bool.false_eq_true,if_false,qB,qI,qP]at h⊢;obtain⟨x,hx,y,hy,rfl,ho⟩:=h;obtain⟨o1,o2⟩:=bB ho;exact⟨x.1,MA (by rw[hx,←o1]),y.1,pV (by rw[hy,←o2]),rfl⟩
   ·simp only[if_true,qB,qI,qP]at h⊢;obtain⟨x,hx,y,hy,rfl,ho⟩:=h;obtain⟨o1,o2⟩:=bB ho;exact⟨x.1,uT (by rw[hx,←o1]),y.1,pV (by rw[hy,←o2]),rfl⟩
  ·simp at h
def WK:List Src→Nat→Nat→Nat→Option Bool
 |[],_,_,_=>none
 | .lst id o l::r,j,off,len=>if id=j then some (decide (o=off)&&decide (l=len))else WK r j off len
 |_::r,j,off,len=>WK r j off len
theorem DJ: ∀{l:List Src}{j off len:Nat},WK l j off len=some true→Src.lst j off len∈l
 |[],j,off,len,h=>by simp[WK]at h
 | .lst id o l::r,j,off,len,h=>by
   simp only[WK]at h;split at h
   ·rename_i e;simp only[qI,Bool.and_eq_true,decide_eq_true_eq]at h;rw[e,h.1,h.2];exact List.mem_cons_self ..
   ·exact List.mem_cons_of_mem _ (DJ h)
 | .box _ _ _::r,j,off,len,h=>List.mem_cons_of_mem _ (DJ (l:=r) h)
 | .nil _::r,j,off,len,h=>List.mem_cons_of_mem _ (DJ (l:=r) h)
theorem DK: ∀{l:List Src}{j off len:Nat},WK l j off len=none→Src.lst j off len∉l
 |[],j,off,len,h=>by simp
 | .lst id o l::r,j,off,len,h=>by
   simp only[WK]at h;split at h
   ·simp at h
   ·rename_i e;simp only[List.mem_cons,Src.lst.injEq,not_or];exact⟨fun x=>e x.1.symm,DK h⟩
 | .box _ _ _::r,j,off,len,h=>by
   simp only[List.mem_cons,reduceCtorEq,false_or];exact DK (l:=r) h
 | .nil _::r,j,off,len,h=>by
   simp only[List.mem_cons,reduceCtorEq,false_or];exact DK (l:=r) h
def OR(l:List Src×Bool):T→List Src×Bool
 | .sl id off len=>match WK l.1 id off len with
   |some b=>(l.1,b&&l.2)
   |none=>(l.1++[.lst id off len],l.2)
 | .nls n=>(l.1++[.nil n],l.2)
 |_=>l
theorem aUY{l:List Src×Bool}{t:T}(h:(OR l t).2=true):l.2=true∧(OR l t).1=aBE l.1 t:=by
 cases t with
 |sl id off len=>
  simp only[OR]at h⊢;cases hl:WK l.1 id off len with
  |none=>
   simp only[hl]at h⊢;refine⟨h,?_⟩;simp only[aBE,aTW,DK hl,if_false]
  |some b=>
   simp only[hl]at h⊢;obtain⟨h1,h2⟩:=bB h;subst h1;refine⟨h2,?_⟩;simp only[aBE,aTW,DJ hl,if_true]
 |_=>exact⟨h,rfl⟩
theorem JY: ∀{ts:Row}{l:List Src×Bool},(ts.foldl OR l).2=true→l.2=true∧(ts.foldl OR l).1=ts.foldl aBE l.1
 |[],l,h=>⟨h,rfl⟩
 |t::r,l,h=>by
  rw[List.foldl_cons]at h;obtain⟨h1,h2⟩:=JY h;obtain⟨h3,h4⟩:=aUY h1;refine⟨h3,?_⟩;rw[List.foldl_cons,h2,h4,List.foldl_cons]
def DL(hp:List Blk)(bx:List Src)(cells:Row):List Src×Bool:=
 let bx:=NU hp 6 0 bx
 let r:=cells.foldl OR ((bx.flatMap (sR hp)).foldl OR ([],true))
 (bx++r.1,r.2)
theorem FH{hp:List Blk}{bx:List Src}{cells:Row}(h:(DL hp bx cells).2=true):(DL hp bx cells).1=uN hp bx cells:=by
 unfold DL at h⊢;simp only at h⊢;obtain⟨h1,h2⟩:=JY h;obtain⟨-,h4⟩:=JY h1;rw[h2,h4];rfl
def WL(wm:Bool)(hp:List Blk)(vs:List (SV×Nat×Bool)):Option (Ent×Bool):=
 let src:=DL hp (vs.foldl (fun l v=>(eS v.1).foldl (JN hp v.2.1) l) []) (vs.flatMap fun v=>if v.2.2 then eS v.1 else [])
 if oB hp src.1 then
  (mZ wm hp src.1 0 src.1).bind fun x=>(qJ wm hp src.1 x.1.2 vs).bind fun args=>some (⟨args.1,x.1.1,src.1,vs.any xD⟩,src.2&&(x.2&&args.2))
 else none
theorem UK{wm:Bool}{hp:List Blk}{vs:List (SV×Nat×Bool)}{e:Ent}(h:WL wm hp vs=some (e,true)):enter hp vs=some e:=by
 unfold WL at h;simp only at h;split at h
 ·rename_i hs;simp only[qB,qI,qP]at h;obtain⟨x,hx,y,hy,rfl,ho⟩:=h;obtain⟨o1,ho⟩:=bB ho;obtain⟨o2,o3⟩:=bB ho;have hg:=FH o1;have h1:=pU (r:=x.1) (by rw[hx,←o2])
  have h2:=pV (r:=y.1) (by rw[hy,←o3])
  rw[hg]at hs h1 h2;unfold enter;simp only;rw[if_pos hs];simp only[h1,h2,Option.bind_some,hg]
 ·simp at h
def uG(src:List Src):Nat→List SV→Option (List SV×Bool)
 |_,[]=>some ([],true)
 |m, .one t::r=>(MW src m t).bind fun x=>(uG src x.1.2 r).bind fun r=>some (.one x.1.1::r.1,x.2&&r.2)
 |m, .agg ts::r=>(wV src m ts).bind fun x=>(uG src x.1.2 r).bind fun r=>some (.agg x.1.1::r.1,x.2&&r.2)
 |_,_::_=>none
theorem FI{src:List Src}: ∀{vs:List SV}{m:Nat}{r:List SV},uG src m vs=some (r,true)→pE src m vs=some r
 |[],m,r,h=>by simpa [uG,pE]using h
 | .one t::s,m,r,h=>by
   simp only[uG,qB,qI,qP]at h;obtain⟨x,hx,y,hy,rfl,ho⟩:=h;obtain⟨o1,o2⟩:=bB ho;have h1:=ND (r:=x.1) (by rw[hx,←o1])
   have h2:=FI (r:=y.1) (by rw[hy,←o2])
   simp[pE,h1,h2]
 | .agg t::s,m,r,h=>by
   simp only[uG,qB,qI,qP]at h;obtain⟨x,hx,y,hy,rfl,ho⟩:=h;obtain⟨o1,o2⟩:=bB ho;have h1:=uT (r:=x.1) (by rw[hx,←o1])
   have h2:=FI (r:=y.1) (by rw[hy,←o2])
   simp[pE,h1,h2]
 | .und::s,m,r,h=>by simp[uG]at h
 | .tup _::s,m,r,h=>by simp[uG]at h
def WM(wm:Bool)(nb:Nat)(σ:St)(vs:List SV):Option ((SV×List Blk)×Bool):=
 let src:=DL σ.hp ((vs.flatMap eS).foldl (JN σ.hp 0) (fB σ.hp nb)) (vs.flatMap eS)
 if oB σ.hp src.1=true∧src.1.take nb=fB σ.hp nb then
  (mZ wm σ.hp src.1 0 src.1).bind fun x=>(uG src.1 x.1.2 vs).bind fun vs=>some ((bRR vs.1,x.1.1),src.2&&(x.2&&vs.2))
 else none
theorem UL{wm:Bool}{nb:Nat}{σ:St}{vs:List SV}{r:SV×List Blk}(h:WM wm nb σ vs=some (r,true)):leave nb σ vs=some r:=by
 unfold WM at h;simp only at h;split at h
 ·rename_i hs;simp only[qB,qI,qP]at h;obtain⟨x,hx,y,hy,rfl,ho⟩:=h;obtain⟨o1,ho⟩:=bB ho;obtain⟨o2,o3⟩:=bB ho;have hg:=FH o1;have h1:=pU (r:=x.1) (by rw[hx,←o2])
  have h2:=FI (r:=y.1) (by rw[hy,←o3])
  rw[hg]at hs h1 h2;unfold leave;simp only;rw[if_pos hs];simp only[h1,h2,Option.bind_some];rfl
 ·simp at h
def zP(σ:St)(src:List Src):Nat→List Nat→Option (List (Nat×SV)×Bool)
 |_,[]=>some ([],true)
 |m,s::r=>(bC s σ.sl).bind fun v=>match v with
  | .one t=>(MW src m t).bind fun x=>(zP σ src x.1.2 r).bind fun l=>some ((s, .one x.1.1)::l.1,x.2&&l.2)
  | .agg ts=>(wV src m ts).bind fun x=>(zP σ src x.1.2 r).bind fun l=>some ((s, .agg x.1.1)::l.1,x.2&&l.2)
  | .und=>(zP σ src m r).bind fun l=>some ((s, .und)::l.1,l.2)
  |_=>none
theorem zQ{σ:St}{src:List Src}: ∀{l:List Nat}{m:Nat}{r:List (Nat×SV)},zP σ src m l=some (r,true)→kX σ src m l=some r
 |[],m,r,h=>by simpa [zP,kX]using h
 |s::t,m,r,h=>by
  simp only[zP,qB]at h;obtain⟨v,hv,h⟩:=h;simp only[kX,hv,Option.bind_some];split at h
  ·simp only[qB,qI,qP]at h⊢;obtain⟨x,hx,y,hy,rfl,ho⟩:=h;obtain⟨o1,o2⟩:=bB ho;exact⟨x.1,ND (by rw[hx,←o1]),y.1,zQ (by rw[hy,←o2]),rfl⟩
  ·simp only[qB,qI,qP]at h⊢;obtain⟨x,hx,y,hy,rfl,ho⟩:=h;obtain⟨o1,o2⟩:=bB ho;exact⟨x.1,uT (by rw[hx,←o1]),y.1,zQ (by rw[hy,←o2]),rfl⟩
  ·simp only[qB,qI,qP]at h⊢;obtain⟨y,hy,rfl,ho⟩:=h;exact⟨y.1,zQ (by rw[hy,←ho]),rfl⟩
  ·simp at h
def JZ(wm:Bool)(nb:Nat)(live:List Nat)(σ:St):Option (St×Bool):=
 let src:=DL σ.hp ((nH σ live).foldl (JN σ.hp 0) (fB σ.hp nb)) (nH σ live)
 if oB σ.hp src.1=true∧src.1.take nb=fB σ.hp nb then
  (mZ wm σ.hp src.1 0 src.1).bind fun x=>(zP σ src.1 x.1.2 live).bind fun sl=>some (⟨sl.1,x.1.1⟩,src.2&&(x.2&&sl.2))
 else none
theorem DM{wm:Bool}{nb:Nat}{live:List Nat}{σ σ':St}(h:JZ wm nb live σ=some (σ',true)):canon nb live σ=some σ':=by
 unfold JZ at h;simp only at h;split at h
 ·rename_i hs;simp only[qB,qI,qP]at h;obtain⟨x,hx,y,hy,rfl,ho⟩:=h;obtain⟨o1,ho⟩:=bB ho;obtain⟨o2,o3⟩:=bB ho;have hg:=FH o1;have h1:=pU (r:=x.1) (by rw[hx,←o2])
  have h2:=zQ (r:=y.1) (by rw[hy,←o3])
  rw[hg]at hs h1 h2;unfold canon;simp only;rw[if_pos hs];simp only[h1,h2,Option.bind_some]
 ·simp at h
def aUZ(hp:List Blk):T→Option Bool
 | .nls _=>some true
 | .sl id off len=>match hp[id]? with
   |some (.lst _ rows)=>some (decide (off+len=rows.length))
   |_=>none
 |_=>none
theorem aU0{hp:List Blk}{t:T}(h:aUZ hp t=some true):NX hp t=true:=by
 unfold aUZ at h;unfold NX;split at h
 ·rfl
 ·split at h
  ·rename_i hb;simp only[hb];simpa using h
  ·simp at h
 ·simp at h
def bDZ(wm:Bool)(hp:List Blk)(by_ sz:Nat)(t s:T):Option ((SV×List Blk)×Bool):=
 (zO wm hp t).bind fun xs=>(zO wm hp s).bind fun ys=>(aUZ hp t).bind fun tl=>
 if mQ hp t=some sz∧mQ hp s=some sz then
  some ((.one (.sl hp.length 0 (xs.1++ys.1).length),HI hp t++[.lst sz (xs.1++ys.1)]),xs.2&&(ys.2&&(tl&&(decide ((xs.1.length+ys.1.length)*by_≤room)&&decide (xs.1.length+ys.1.length≤room)))))
 else none
theorem a5R{wm:Bool}{R:Zq.Rt}{ev:Ev}{hp:List Blk}{d by_ sz:Nat}{x y:Opd}{v u:SV}{t s:T}{r:SV×List Blk}(hx:ev x=some v)(ht:iY v=some t)(hy:ev y=some u)(hs:iY u=some s)(h:bDZ wm hp by_ sz t s=some (r,true)):
  (K.app d by_ sz x y).exec R ev hp=some r:=by
 simp only[bDZ,qB]at h;obtain⟨xs,h1,ys,h2,tl,h3,h⟩:=h;split at h
 ·rename_i hc;simp only[qI,qP,Bool.and_eq_true,decide_eq_true_eq]at h;obtain⟨rfl,o1,o2,o3,o4,o5⟩:=h;subst o3;have e1:=uU (r:=xs.1) (by rw[h1,←o1])
  have e2:=uU (r:=ys.1) (by rw[h2,←o2])
  simp only[K.exec,hx,ht,hy,hs,Option.bind_some,e1,e2];rw[if_pos ⟨aU0 h3,hc.1,hc.2,o4,o5⟩]
 ·simp at h
def a5S(hp:List Blk):T→Option (Int×Bool)
 | .nls _=>some (0,true)
 | .imm _ _ rows=>some ((rows.length:Int),true)
 | .sl id off len=>match hp[id]? with
   |some (.lst _ rows)=>some ((len:Int),decide (off+len≤rows.length))
   |_=>none
 |_=>none
theorem aKD{hp:List Blk}{t:T}{n:Int}(h:a5S hp t=some (n,true)): ∃rows,dE hp t=some rows∧(rows.length:Int)=n:=by
 unfold a5S at h;unfold dE;split at h
 ·simp only[qI,qP,and_true]at h;exact⟨[],rfl,by simp[←h]⟩
 ·simp only[qI,qP,and_true]at h;exact⟨_,rfl,h⟩
 ·split at h
  ·rename_i hb;simp only[qI,qP,decide_eq_true_eq]at h;refine⟨_,by simp only[hb];rw[if_pos h.2],?_⟩
   rw[←h.1,List.length_take,List.length_drop,Nat.min_eq_left (by omega)]
  ·simp at h
 ·simp at h
def bD0(hp:List Blk)(sz:Nat)(t:T)(n l h:Int):Option (T×Bool):=
 (match t with
   | .sl id off ln=>if mQ hp (.sl id off ln)=some sz then some (.sl id (off+l.toNat) (h.toNat-l.toNat))else none
   | .imm p m rows=>if m=sz then some (.imm p m ((rows.drop l.toNat).take (h.toNat-l.toNat)))else none
   | .nls m=>some (.nls m)
   |_=>none:Option T).map (·,decide (0≤l)&&(decide (l≤h)&&decide (h≤n)))
theorem a5T{hp:List Blk}{sz:Nat}{t r:T}{rows:List Row}{n l h:Int}(hn:(rows.length:Int)=n)(hc:bD0 hp sz t n l h=some (r,true)):cut hp sz t rows l h=some r:=by
 simp only[bD0,Option.map_eq_some_iff,qP,Bool.and_eq_true,decide_eq_true_eq]at hc;obtain⟨x,hx,rfl,h1,h2,h3⟩:=hc;unfold cut;rw[if_pos ⟨h1,h2,by omega⟩]
 exact hx
def bD1(hp:List Blk)(by_:Nat)(z:Row)(n c:Int):(SV×List Blk)×Bool:=
 ((.one (.sl hp.length 0 n.toNat),hp++[.lst z.length (List.replicate n.toNat z)]),decide (0≤n)&&(decide (n≤c)&&(decide (c*by_≤room)&&decide (c≤room))))
theorem a5U{R:Zq.Rt}{ev:Ev}{hp:List Blk}{d by_:Nat}{z:Row}{n c:Opd}{v u:SV}{k k':IntKind}{nn cc:Int}{r:SV×List Blk}(hn:ev n=some v)(hv:uM v=some (k,nn))(hc:ev c=some u)(hu:uM u=some (k',cc))(h:bD1 hp by_ z nn cc=(r,true)):
  (K.mks d by_ z n c).exec R ev hp=some r:=by
 simp only[bD1,qP,Bool.and_eq_true,decide_eq_true_eq]at h;obtain⟨rfl,h1,h2,h3,h4⟩:=h;simp only[K.exec,hn,hv,hc,hu,Option.bind_some];rw[if_pos ⟨h1,h2,h3,h4⟩]
def bD2(wm:Bool)(hp:List Blk)(sz:Nat)(t s:T):Option ((SV×List Blk)×Bool):=
 match t with
 | .sl id off len=>match hp[id]? with
   |some (.lst n rows)=>(zO wm hp s).bind fun ys=>if n=sz∧mQ hp s=some sz then
     some ((.one (I (min ys.1.length len:Nat)),hp.set id (.lst n (rows.take off++(ys.1.take (min ys.1.length len)++rows.drop (off+min ys.1.length len))))),ys.2&&decide (off+len≤rows.length))
    else none
   |_=>none
 |_=>none
theorem a5V{R:Zq.Rt}{ev:Ev}{wm:Bool}{hp:List Blk}{d sz:Nat}{x y:Opd}{v u:SV}{t s:T}{r:SV×List Blk}(hx:ev x=some v)(ht:iY v=some t)(hy:ev y=some u)(hs:iY u=some s)(h:bD2 wm hp sz t s=some (r,true)):
  (K.cpy d sz x y).exec R ev hp=some r:=by
 unfold bD2 at h;split at h
 ·split at h
  ·rename_i id off len _ n rows hb;simp only[qB]at h;obtain⟨ys,h1,h⟩:=h;split at h
   ·rename_i hc;simp only[qI,qP,Bool.and_eq_true,decide_eq_true_eq]at h;obtain⟨rfl,o1,o2⟩:=h;have e1:=uU (r:=ys.1) (by rw[h1,←o1])
    have e2:dE hp (.sl id off len)=some ((rows.drop off).take len):=by
     simp only[dE,hb];rw[if_pos o2]
    have e3:((rows.drop off).take len).length=len:=by
     rw[List.length_take,List.length_drop];omega
    simp only[K.exec,hx,ht,hy,hs,Option.bind_some,e1,e2,hb,e3];rw[if_pos hc]
   ·simp at h
  ·simp at h
 ·simp at h
def bD3(hp:List Blk)(sz:Nat)(z:Row)(t:T):Option ((SV×List Blk)×Bool):=
 match t with
 | .sl id off len=>match hp[id]? with
   |some (.lst n rows)=>if n=sz then
     some ((.tup [],hp.set id (.lst n (rows.take off++(List.replicate len z++rows.drop (off+len))))),decide (off+len≤rows.length))
    else none
   |_=>none
 |_=>none
theorem a5W{R:Zq.Rt}{ev:Ev}{hp:List Blk}{sz:Nat}{z:Row}{x:Opd}{v:SV}{t:T}{r:SV×List Blk}(hx:ev x=some v)(ht:iY v=some t)(h:bD3 hp sz z t=some (r,true)):
  (K.clr sz z x).exec R ev hp=some r:=by
 unfold bD3 at h;split at h
 ·split at h
  ·rename_i id off len _ n rows hb;split at h
   ·rename_i hc;simp only[qI,qP,decide_eq_true_eq]at h;obtain⟨rfl,o2⟩:=h;simp only[K.exec,hx,ht,Option.bind_some,hb];rw[if_pos ⟨hc,o2⟩]
   ·simp at h
  ·simp at h
 ·simp at h
end Go.Zq

namespace Go.Zq
open Option renaming bind_eq_some_iff → qB
open Option.some renaming injEq → qI
open Prod.mk renaming injEq → qP
open Option renaming map_eq_some_iff → q_c
open Go
abbrev Qt:=FuncId→List SV→List Blk→Option ((SV×List Blk)×Bool)
def Qt.val(Q:Qt):Rt:=fun f a h=>(Q f a h).map (·.1)
def UM(R:Rt)(Q:Qt):Prop:= ∀f a h r,Q f a h=some (r,true)→R f a h=some r
def aEA(b:Bool):Value→Value→Option Value
 | .int k x, .int k' y=>if k=k' then some (.int k (bif b then x else y))else none
 | .bool x, .bool y=>some (.bool (bif b then x else y))
 | .string x, .string y=>some (.string (bif b then x else y))
 |_,_=>none
def WN(b:Bool):T→T→Option T
 | .lit v, .lit u=>(aEA b v u).bind fun v=>some (.lit v)
 | .ptr i r o, .ptr i' r' o'=>if i=i'∧r=r'∧o=o' then some (.ptr i r o)else none
 | .sl i o l, .sl i' o' l'=>if i=i'∧o=o' then some (.sl i o (bif b then l else l'))else none
 | .nls n, .nls n'=>if n=n' then some (.nls n)else none
 | .imm p n rows, .imm p' n' rows'=>if p=p'∧n=n' then some (.imm p n (bif b then rows else rows'))else none
 |_,_=>none
def sV(b:Bool):Row→Row→Option Row
 |[],[]=>some []
 |x::r,y::s=>(WN b x y).bind fun z=>(sV b r s).bind fun t=>some (z::t)
 |_,_=>none
def NE(b:Bool):SV→SV→Option SV
 | .und, .und=>some .und
 | .one t, .one u=>(WN b t u).bind fun t=>some (.one t)
 | .agg ts, .agg us=>(sV b ts us).bind fun ts=>some (.agg ts)
 |_,_=>none
def uV(b:Bool):List SV→List SV→Option (List SV)
 |[],[]=>some []
 |x::r,y::s=>(NE b x y).bind fun z=>(uV b r s).bind fun t=>some (z::t)
 |_,_=>none
def zR(b:Bool):SV→SV→Option SV
 | .tup vs, .tup us=>(uV b vs us).bind fun vs=>some (.tup vs)
 |v,u=>NE b v u
def OS(b:Bool):Blk→Blk→Option Blk
 | .dead, .dead=>some .dead
 | .box cs, .box ds=>(sV b cs ds).bind fun cs=>some (.box cs)
 | .lst n rows, .lst n' rows'=>if n=n' then some (.lst n (bif b then rows else rows'))else none
 |_,_=>none
def wW(b:Bool):List Blk→List Blk→Option (List Blk)
 |[],[]=>some []
 |x::r,y::s=>(OS b x y).bind fun z=>(wW b r s).bind fun t=>some (z::t)
 |_,_=>none
theorem aQ8{b:Bool}{v u w:Value}(h:aEA b v u=some w):w=bif b then v else u:=by
 unfold aEA at h;split at h
 ·split at h
  ·rename_i k x k' y e;subst e;cases b<;>simp_all
  ·simp at h
 ·cases b<;>simp_all
 ·cases b<;>simp_all
 ·simp at h
theorem UN{b:Bool}{v u w:T}(h:WN b v u=some w):w=bif b then v else u:=by
 unfold WN at h;split at h
 ·simp only[qB,qI]at h;obtain⟨z,hz,rfl⟩:=h;rw[aQ8 hz];cases b<;>rfl
 ·split at h
  ·rename_i e;obtain⟨rfl,rfl,rfl⟩:=e;cases b<;>simp_all
  ·simp at h
 ·split at h
  ·rename_i e;obtain⟨rfl,rfl⟩:=e;cases b<;>simp_all
  ·simp at h
 ·split at h
  ·rename_i e;subst e;cases b<;>simp_all
  ·simp at h
 ·split at h
  ·rename_i e;obtain⟨rfl,rfl⟩:=e;cases b<;>simp_all
  ·simp at h
 ·simp at h
theorem BL{b:Bool}: ∀{v u w:Row},sV b v u=some w→w=bif b then v else u
 |[],[],w,h=>by cases b<;>simp_all [sV]
 |x::r,y::s,w,h=>by
  simp only[sV,qB,qI]at h;obtain⟨z,hz,t,ht,rfl⟩:=h;rw[UN hz,BL ht];cases b<;>rfl
 |[],_::_,w,h=>by simp[sV]at h
 |_::_,[],w,h=>by simp[sV]at h
theorem OT{b:Bool}{v u w:SV}(h:NE b v u=some w):w=bif b then v else u:=by
 unfold NE at h;split at h
 ·cases b<;>simp_all
 ·simp only[qB,qI]at h;obtain⟨z,hz,rfl⟩:=h;rw[UN hz];cases b<;>rfl
 ·simp only[qB,qI]at h;obtain⟨z,hz,rfl⟩:=h;rw[BL hz];cases b<;>rfl
 ·simp at h
theorem MB{b:Bool}: ∀{v u w:List SV},uV b v u=some w→w=bif b then v else u
 |[],[],w,h=>by cases b<;>simp_all [uV]
 |x::r,y::s,w,h=>by
  simp only[uV,qB,qI]at h;obtain⟨z,hz,t,ht,rfl⟩:=h;rw[OT hz,MB ht];cases b<;>rfl
 |[],_::_,w,h=>by simp[uV]at h
 |_::_,[],w,h=>by simp[uV]at h
theorem zS{b:Bool}{v u w:SV}(h:zR b v u=some w):w=bif b then v else u:=by
 unfold zR at h;split at h
 ·simp only[qB,qI]at h;obtain⟨z,hz,rfl⟩:=h;rw[MB hz];cases b<;>rfl
 ·exact OT h
theorem aB3{b:Bool}{v u w:Blk}(h:OS b v u=some w):w=bif b then v else u:=by
 unfold OS at h;split at h
 ·cases b<;>simp_all
 ·simp only[qB,qI]at h;obtain⟨z,hz,rfl⟩:=h;rw[BL hz];cases b<;>rfl
 ·split at h
  ·rename_i e;subst e;cases b<;>simp_all
  ·simp at h
 ·simp at h
theorem zT{b:Bool}: ∀{v u w:List Blk},wW b v u=some w→w=bif b then v else u
 |[],[],w,h=>by cases b<;>simp_all [wW]
 |x::r,y::s,w,h=>by
  simp only[wW,qB,qI]at h;obtain⟨z,hz,t,ht,rfl⟩:=h;rw[aB3 hz,zT ht];cases b<;>rfl
 |[],_::_,w,h=>by simp[wW]at h
 |_::_,[],w,h=>by simp[wW]at h
def bD4(o:BinOp):Value→Value→Option (Value×Bool)
 | .int k x, .int k' y=>
   match o with
   | .shl=>some (.int k (k.wrap (x*2^min y.toNat k.bits)),decide (0≤y))
   | .shr=>some (.int k (x.fdiv (2^min y.toNat k.bits)),decide (0≤y))
   | .quo=>if k=k' then some (.int k (k.wrap (x.tdiv y)),y !=0)else none
   | .rem=>if k=k' then some (.int k (x.tmod y),y !=0)else none
   |o=>if k=k' then(JL o k x y).map (·,true)else none
 |v,u=>(JM o v u).map (·,true)
theorem a5X{o:BinOp}{v u r:Value}(h:bD4 o v u=some (r,true)):JM o v u=some r:=by
 unfold bD4 at h;split at h
 ·rename_i k x k' y;split at h
  ·simp only[qI,qP,decide_eq_true_eq]at h;obtain⟨rfl,hy⟩:=h;simp[JM,show¬y<0 by omega]
  ·simp only[qI,qP,decide_eq_true_eq]at h;obtain⟨rfl,hy⟩:=h;simp[JM,show¬y<0 by omega]
  ·split at h
   ·simp only[qI,qP,bne_iff_ne,ne_eq]at h;obtain⟨rfl,hy⟩:=h
    simp_all [JM,JL]
   ·simp at h
  ·split at h
   ·simp only[qI,qP,bne_iff_ne,ne_eq]at h;obtain⟨rfl,hy⟩:=h
    simp_all [JM,JL]
   ·simp at h
  ·split at h
   ·simp only[q_c,qP,and_true]at h;obtain⟨r',hr,rfl⟩:=h;rename_i hk _ _ _ _;cases o<;>simp_all [JM]
   ·simp at h
 ·simp only[q_c,qP,and_true]at h;obtain⟨r',hr,rfl⟩:=h;exact hr
def UO(hp:List Blk):T→Option (T×Bool)
 | .lit v=>some (.lit v,true)
 | .nls n=>some (.nls n,true)
 | .imm p n rows=>some (.imm p n rows,true)
 | .sl id off len=>match hp[id]? with
   |some (.lst n rows)=>if off=0 then some (.imm true n rows,decide (len=rows.length))else none
   |_=>none
 |_=>none
theorem aB4{hp:List Blk}{t r:T}(h:UO hp t=some (r,true)):JO hp t=some r:=by
 cases t with
 |sl id off len=>
  simp only[UO]at h;split at h
  ·rename_i n rows hb;split at h
   ·rename_i e;subst e;simp only[qI,qP,decide_eq_true_eq]at h;obtain⟨rfl,rfl⟩:=h;simp[JO,mQ,dE,hb]
   ·simp at h
  ·simp at h
 |lit|nls|imm=>simp only[UO,qI,qP,and_true]at h;rw[←h];rfl
 |ptr|ip|clo=>simp[UO]at h
def H2(hp:List Blk):Row→Option (Row×Bool)
 |[]=>some ([],true)
 |t::r=>(UO hp t).bind fun t=>(H2 hp r).bind fun r=>some (t.1::r.1,t.2&&r.2)
theorem OU{hp:List Blk}: ∀{t r:Row},H2 hp t=some (r,true)→ET hp t=some r
 |[],r,h=>by simp only[H2,qI,qP,and_true]at h;subst h;rfl
 |t::s,r,h=>by
  simp only[H2,qB,qI,qP]at h;obtain⟨x,hx,y,hy,rfl,ho⟩:=h;obtain⟨o1,o2⟩:=bB ho;simp only[ET,aB4 (r:=x.1) (by rw[hx,←o1]),Option.bind_some,OU (r:=y.1) (by rw[hy,←o2])]
def FJ(hp:List Blk):SV→Option (SV×Bool)
 | .one t=>(UO hp t).bind fun t=>some (.one t.1,t.2)
 | .agg ts=>(H2 hp ts).bind fun ts=>some (.agg ts.1,ts.2)
 |_=>none
theorem DN{hp:List Blk}{t r:SV}(h:FJ hp t=some (r,true)):AT hp t=some r:=by
 cases t with
 |one t=>
  simp only[FJ,qB,qI,qP]at h;obtain⟨x,hx,rfl,ho⟩:=h;simp only[AT,aB4 (r:=x.1) (by rw[hx,←ho]),Option.bind_some]
 |agg t=>
  simp only[FJ,qB,qI,qP]at h;obtain⟨x,hx,rfl,ho⟩:=h;simp only[AT,OU (r:=x.1) (by rw[hx,←ho]),Option.bind_some]
 |und=>simp[FJ]at h
 |tup=>simp[FJ]at h
def H3(hp:List Blk):List SV→Option (List SV×Bool)
 |[]=>some ([],true)
 |t::r=>(FJ hp t).bind fun t=>(H3 hp r).bind fun r=>some (t.1::r.1,t.2&&r.2)
theorem OV{hp:List Blk}: ∀{t r:List SV},H3 hp t=some (r,true)→EU hp t=some r
 |[],r,h=>by simp only[H3,qI,qP,and_true]at h;subst h;rfl
 |t::s,r,h=>by
  simp only[H3,qB,qI,qP]at h;obtain⟨x,hx,y,hy,rfl,ho⟩:=h;obtain⟨o1,o2⟩:=bB ho;simp only[EU,DN (r:=x.1) (by rw[hx,←o1]),Option.bind_some,OV (r:=y.1) (by rw[hy,←o2])]
def aEB(hp:List Blk):SV→Option (SV×Bool)
 | .tup vs=>(H3 hp vs).bind fun vs=>some (.tup vs.1,vs.2)
 |v=>FJ hp v
theorem aQ9{hp:List Blk}{t r:SV}(h:aEB hp t=some (r,true)):LW hp t=some r:=by
 cases t with
 |tup vs=>
  simp only[aEB,qB,qI,qP]at h;obtain⟨x,hx,rfl,ho⟩:=h;simp only[LW,OV (r:=x.1) (by rw[hx,←ho]),Option.bind_some]
 |one t=>exact DN (hp:=hp) (t:= .one t) h
 |agg t=>exact DN (hp:=hp) (t:= .agg t) h
 |und=>exact DN (hp:=hp) (t:= .und) h
noncomputable def dL(R:Rt):Rt:=fun f a h=>if f<100000 then R f a h else(R (f-100000) a h).bind fun r=>(LW r.2 r.1).bind fun v=>some (v,[])
theorem FK{R:Rt}{f:FuncId}(h:f<100000){a:List SV}{hp:List Blk}:dL R f a hp=R f a hp:=by simp only[dL];rw[if_pos h]
theorem aU1{R:Rt}{f:FuncId}{a:List SV}{hp:List Blk}:dL R (f+100000) a hp=(R f a hp).bind fun r=>(LW r.2 r.1).bind fun v=>some (v,[]):=by
 simp only[dL];rw[if_neg (Nat.not_lt.2 (Nat.le_add_left 100000 f))];exact congrArg (fun g=>(R g a hp).bind fun r=>(LW r.2 r.1).bind fun v=>some (v,[])) (Nat.add_sub_cancel (n:=f) (m:=100000))
def yP(Q:Qt)(wm:Bool)(hp:List Blk)(pu:Bool)(f:FuncId)(vs:List (SV×Nat×Bool)):Option ((SV×List Blk)×Bool):=
 if pu=true then
  (qJ wm hp [] 0 vs).bind fun args=>(Q (f+100000) args.1 []).bind fun r=>
  if vs.any xD=false∨sS r.1.1=true then some ((r.1.1,hp),args.2&&r.2)else none
 else if f<100000 then
  (WL wm hp vs).bind fun e=>(Q f e.1.args e.1.hp).bind fun r=>(aQQ hp e.1 r.1.1 r.1.2).bind fun x=>some (x,e.2&&r.2)
 else none
theorem BM{R:Rt}{Q:Qt}(hQ:UM (dL R) Q){wm:Bool}{hp:List Blk}{pu:Bool}{f:FuncId}{vs:List (SV×Nat×Bool)}{r:SV×List Blk}(h:yP Q wm hp pu f vs=some (r,true)):kW R hp pu f vs=some r:=by
 unfold yP at h;unfold kW;split at h
 ·rename_i hpu;rw[if_pos hpu];simp only[qB]at h⊢;obtain⟨args,h1,q,hq,h⟩:=h;split at h
  ·rename_i hc;simp only[qI,qP]at h;obtain⟨rfl,ho⟩:=h;obtain⟨o1,o2⟩:=bB ho;have hR:=hQ _ _ _ q.1 (by rw[hq,←o2])
   rw[aU1]at hR;simp only[qB,qI]at hR;obtain⟨r,hr,v,hv,e⟩:=hR;refine⟨args.1,pV (by rw[h1,←o1]),r,hr,v,hv,?_⟩
   rw[←e]at hc;rw[if_pos hc,←e]
  ·simp at h
 ·rename_i hpu;rw[if_neg hpu];split at h
  ·rename_i hf;simp only[qB,qI,qP]at h⊢;obtain⟨e,h1,q,hq,x,hx,rfl,ho⟩:=h;obtain⟨o1,o2⟩:=bB ho;have hR:=hQ _ _ _ q.1 (by rw[hq,←o2])
   rw[FK hf]at hR;exact⟨e.1,UK (by rw[h1,←o1]),q.1,hR,hx⟩
  ·simp at h
def OW(Q:Qt)(wm:Bool)(hp:List Blk)(f:FuncId)(vs:List (SV×Nat×Bool)):Option ((SV×List Blk)×Bool):=
 if f<100000 then
  (WL wm hp vs).bind fun e=>(Q f e.1.args e.1.hp).bind fun r=>(aQQ hp e.1 r.1.1 r.1.2).bind fun x=>
    some ((x.1,stay e.1.src hp.length (bY e.1.src+1) (stay e.1.src hp.length (bY e.1.src) x.2)),e.2&&r.2)
 else none
theorem OX{R:Rt}{Q:Qt}(hQ:UM (dL R) Q){wm:Bool}{hp:List Blk}{f:FuncId}{vs:List (SV×Nat×Bool)}{r:SV×List Blk}(h:OW Q wm hp f vs=some (r,true)):wP R hp f vs=some r:=by
 unfold OW at h;unfold wP;obtain⟨hf,h⟩:=bQ h;simp only[qB,qI,qP]at h⊢;obtain⟨e,h1,q,hq,x,hx,rfl,ho⟩:=h;obtain⟨o1,o2⟩:=bB ho;have hR:=hQ _ _ _ q.1 (by rw[hq,←o2])
 rw[FK hf]at hR;exact⟨e.1,UK (by rw[h1,←o1]),q.1,hR,x,hx,rfl⟩
def H4(Q:Qt)(wm:Bool)(hp:List Blk)(pu:Bool)(f:FuncId)(vs:List (SV×Nat×Bool)):Option ((SV×List Blk)×Bool):=
 if f<50000 then yP Q wm hp pu f vs else none
theorem OY{R:Rt}{Q:Qt}(hQ:UM (dL R) Q){wm:Bool}{hp:List Blk}{pu:Bool}{f:FuncId}{vs:List (SV×Nat×Bool)}{r:SV×List Blk}(h:H4 Q wm hp pu f vs=some (r,true)):sF R hp pu f vs=some r:=by
 unfold H4 at h;obtain⟨hf,h⟩:=bQ h;unfold sF;rw[if_pos hf];exact BM hQ h
def H5(Q:Qt)(wm:Bool)(hp:List Blk)(pu:Bool)(f:FuncId)(vs:List (SV×Nat×Bool)):Option ((SV×List Blk)×Bool):=
 if f<50000 then yP Q wm hp pu f vs else if pu=true then none else OW Q wm hp f vs
theorem SY{R:Rt}{Q:Qt}(hQ:UM (dL R) Q){wm:Bool}{hp:List Blk}{pu:Bool}{f:FuncId}{vs:List (SV×Nat×Bool)}{r:SV×List Blk}(h:H5 Q wm hp pu f vs=some (r,true)):mT R hp pu f vs=some r:=by
 unfold H5 at h;unfold mT;split at h
 ·rename_i hf;rw[if_pos hf];exact BM hQ h
 ·rename_i hf;rw[if_neg hf];split at h
  ·simp at h
  ·rename_i hp;rw[if_neg hp];exact OX hQ h
inductive Kd where
 |int (k:IntKind)
 |bool
 |str
 |imm (n:Nat)
def isK:Kd→T→Bool
 | .int k, .lit (.int k' _)=>k==k'
 | .bool, .lit (.bool _)=>true
 | .str, .lit (.string _)=>true
 | .imm n, .imm p n' _=>p&&n==n'
 |_,_=>false
def aU2:List Kd→Row→Bool
 |[],_=>true
 |k::ks,t::r=>isK k t&&aU2 ks r
 |_::_,[]=>false
def uW(rows:List Row)(j i:Nat):T:=(rows.getD j []).getD i (.nls 0)
def bLQ:T→Int
 | .lit (.int _ z)=>z
 |_=>0
def bCH:T→Bool
 | .lit (.bool z)=>z
 |_=>false
def bLR:T→ByteArray
 | .lit (.string z)=>z
 |_=> .empty
def bCI:T→List Row
 | .imm _ _ rows=>rows
 |_=>[]
def bD(rows:List Row)(j i:Nat):Int:=bLQ (uW rows j i)
def rJ(rows:List Row)(j i:Nat):Bool:=bCH (uW rows j i)
def bCJ(rows:List Row)(j i:Nat):ByteArray:=bLR (uW rows j i)
def pF(rows:List Row)(j i:Nat):List Row:=bCI (uW rows j i)
def ofK(rows:List Row)(j i:Nat):Kd→T
 | .int k=> .lit (.int k (bD rows j i))
 | .bool=> .lit (.bool (rJ rows j i))
 | .str=> .lit (.string (bCJ rows j i))
 | .imm n=> .imm true n (pF rows j i)
def UP(rows:List Row)(j:Nat):Nat→List Kd→Row
 |_,[]=>[]
 |i,k::ks=>ofK rows j i k::UP rows j (i+1) ks
def dM(kds:List Kd)(rows:List Row)(j i:Nat):Bool:=Nat.blt j rows.length&&aU2 kds ((rows.getD j []).drop i)
def gN(kds:List Kd)(rows:List Row)(j:Int):Bool:=decide (0≤j)&&(dM kds rows j.toNat 0&&(rows.getD j.toNat []).length==kds.length)
theorem bD5{rows:List Row}{j i:Nat}{k:Kd}{t:T}(ht:uW rows j i=t)(hk:isK k t=true):ofK rows j i k=t:=by
 unfold isK at hk;split at hk
 ·simp only[ofK,bD,ht,bLQ,beq_iff_eq]at hk⊢;rw[hk]
 ·simp only[ofK,rJ,ht,bCH]
 ·simp only[ofK,bCJ,ht,bLR]
 ·simp only[Bool.and_eq_true,beq_iff_eq]at hk;simp only[ofK,pF,ht,bCI];rw[hk.1,hk.2]
 ·simp at hk
theorem OZ{rows:List Row}{j:Nat}: ∀{kds:List Kd}{i:Nat},aU2 kds ((rows.getD j []).drop i)=true→UP rows j i kds=((rows.getD j []).drop i).take kds.length
 |[],i,h=>by simp[UP]
 |k::ks,i,h=>by
  cases hd:(rows.getD j []).drop i with
  |nil=>rw[hd]at h;simp[aU2]at h
  |cons t r=>
   rw[hd]at h;simp only[aU2,Bool.and_eq_true]at h;have hr:(rows.getD j []).drop (i+1)=r:=by
    rw[←List.drop_drop,hd];rfl
   have ht:uW rows j i=t:=by
    have:(rows.getD j [])[i]? =some t:=by
     have:=congrArg (·[0]?) hd;simpa [List.getElem?_drop]using this
    simp only[uW,List.getD_eq_getElem?_getD]at this⊢;rw[this];rfl
   simp only[UP,bD5 ht h.1,List.length_cons,List.take_succ_cons];rw[OZ (by rw[hr];exact h.2),hr]
theorem H6{rows:List Row}{j:Nat}(h:Nat.blt j rows.length=true):rows[j]? =some (rows.getD j []):=by
 have:j<rows.length:=by simpa using h
 simp[List.getD_eq_getElem?_getD,this]
def J0(d:Nat):List (Nat×List Kd)→Option (List Kd)
 |[]=>none
 |(m,v)::r=>if m=d then some v else J0 d r
def bD6(hp:List Blk)(sz:Nat)(kds:List Kd)(t:T)(j:Int):Option (SV×Bool):=
 match t with
 | .sl id off ln=>if mQ hp (.sl id off ln)=some sz then some (.one (.ptr id (off+j.toNat) 0),decide (0≤j)&&decide (j<ln))else none
 | .imm _ n rows=>if n=sz then some (.one (.ip (UP rows j.toNat 0 kds)),gN kds rows j)else none
 |_=>none
theorem a5Y{hp:List Blk}{sz:Nat}{kds:List Kd}{t:T}{j:Int}{v:SV}(h:bD6 hp sz kds t j=some (v,true)):idx hp sz t j=some v:=by
 unfold bD6 at h;split at h
 ·split at h
  ·rename_i hs;simp only[qI,qP,Bool.and_eq_true,decide_eq_true_eq]at h;obtain⟨rfl,h⟩:=h;simp only[idx];rw[if_pos h,if_pos hs]
  ·simp at h
 ·split at h
  ·rename_i hs;simp only[qI,qP,gN,dM,Bool.and_eq_true,decide_eq_true_eq,beq_iff_eq]at h;obtain⟨rfl,h0,⟨h1,h2⟩,h3⟩:=h;simp only[idx];rw[if_pos ⟨h0,hs⟩,H6 h1,Option.map_some,OZ h2,List.drop_zero,←h3,List.take_length]
  ·simp at h
 ·simp at h
def ldS(hp:List Blk)(n:Option Nat)(kds:List Kd)(t:T):Option (SV×Bool):=
 match t with
 | .ptr id row off=>
   match hp[id]? with
   |some (.lst _ rows)=>(SV.of n (UP rows row off kds)).bind fun v=>some (v,dM kds rows row off)
   |_=>(lV hp t).bind fun cs=>(SV.of n cs).bind fun v=>some (v,true)
 |_=>(lV hp t).bind fun cs=>(SV.of n cs).bind fun v=>some (v,true)
theorem a5Z{n:Option Nat}{cs:Row}{m:Nat}{v:SV}(h:SV.of n (cs.take m)=some v):SV.of n cs=some v:=by
 cases n with
 |none=>
  cases cs with
  |nil=>simp[SV.of]at h
  |cons t r=>
   cases m with
   |zero=>simp[SV.of]at h
   |succ m=>simpa [SV.of]using h
 |some k=>
  simp only[SV.of]at h⊢;split at h
  ·rename_i hk;rw[List.length_take]at hk;rw[if_pos (by omega),←h,List.take_take,Nat.min_eq_left (by omega)]
  ·simp at h
theorem bD7{hp:List Blk}{n:Option Nat}{kds:List Kd}{t:T}{v:SV}(h:ldS hp n kds t=some (v,true)):((lV hp t).bind fun cs=>SV.of n cs)=some v:=by
 unfold ldS at h;split at h
 ·split at h
  ·rename_i id row off _ sz rows hb;simp only[qB,qI,qP,dM,Bool.and_eq_true]at h;obtain⟨u,hu,rfl,h1,h2⟩:=h;simp only[lV,hb,H6 h1,Option.map_some,Option.bind_some];rw[OZ h2]at hu;exact a5Z hu
  ·simp only[qB,qI,qP,and_true]at h⊢;obtain⟨cs,hc,u,hu,rfl⟩:=h;exact⟨cs,hc,hu⟩
 ·simp only[qB,qI,qP,and_true]at h⊢;obtain⟨cs,hc,u,hu,rfl⟩:=h;exact⟨cs,hc,hu⟩
def stS(hp:List Blk)(n:Nat)(t:T)(new:Row):Option (List Blk×Bool):=
 match t with
 | .ptr id row off=>
   match hp[id]? with
   |some (.lst sz rows)=>
    if off=0∧n=sz∧new.length=n∧new.all inList=true then some (hp.set id (.lst sz (rows.set row new)),Nat.blt row rows.length&&(rows.getD row []).length==n)
    else if new.length=n∧new.all inList=true then some (hp.set id (.lst sz (rows.set row (wr (rows.getD row []) off new))),Nat.blt row rows.length&&decide (off+n≤(rows.getD row []).length))
    else none
   |_=>(store hp n t new).map (·,true)
 |_=>(store hp n t new).map (·,true)
theorem bD8{hp hp':List Blk}{n:Nat}{t:T}{new:Row}(h:stS hp n t new=some (hp',true)):store hp n t new=some hp':=by
 unfold stS at h;split at h
 ·split at h
  ·rename_i id row off _ sz rows hb;split at h
   ·rename_i hc;obtain⟨rfl,rfl,hn,ha⟩:=hc;simp only[qI,qP,Bool.and_eq_true,beq_iff_eq]at h;obtain⟨rfl,h1,h2⟩:=h;simp only[store,hn,if_true,hb,H6 h1,ha,and_true,Nat.zero_add,h2,Nat.le_refl]
    congr 4
    simp only[wr,List.take_zero,List.nil_append,Nat.zero_add,hn,←h2,List.drop_length,List.append_nil]
   ·split at h
    ·rename_i hc;obtain⟨hn,ha⟩:=hc;simp only[qI,qP,Bool.and_eq_true,decide_eq_true_eq]at h;obtain⟨rfl,h1,h2⟩:=h;simp only[store,hn,if_true,hb,H6 h1];rw[if_pos ⟨h2,ha⟩]
    ·simp at h
  ·simp only[q_c,qP,and_true]at h;obtain⟨x,hx,rfl⟩:=h;exact hx
 ·simp only[q_c,qP,and_true]at h;obtain⟨x,hx,rfl⟩:=h;exact hx
def exK(Q:Qt)(kd:List (Nat×List Kd))(ev:Ev)(hp:List Blk):K→Option ((SV×List Blk)×Bool)
 | .bin _ o x y=>(ev x).bind fun v=>(D8 v).bind fun v=>(ev y).bind fun u=>(D8 u).bind fun u=>(bD4 o v u).bind fun r=>some ((.one (.lit r.1),hp),r.2)
 | .pick _ c x y=>(ev c).bind fun c=>(asBool c).bind fun c=>(ev x).bind fun v=>(ev y).bind fun u=>(zR c v u).bind fun v=>some ((v,hp),true)
 | .call d pu f xs=>(jQ ev xs).bind fun vs=>H5 Q (J0 (d.getD 0) kd).isNone hp pu f vs
 | .calv d pu f xs=>(ev f).bind fun g=>match g with
   | .one (.clo f caps)=>(jQ ev xs).bind fun vs=>H4 Q (J0 (d.getD 0) kd).isNone hp pu f (vs++caps.map fun c=>(.one c,0,false))
   |_=>none
 | .ia d sz x j=>match J0 d kd with
   |some kds=>(ev x).bind fun v=>(iY v).bind fun t=>(ev j).bind fun u=>(uM u).bind fun u=>(bD6 hp sz kds t u.2).bind fun r=>some ((r.1,hp),r.2)
   |none=>((K.ia d sz x j).exec Q.val ev hp).map (·,true)
 | .ld d n x=>match J0 d kd with
   |some kds=>(ev x).bind fun v=>(iY v).bind fun t=>(ldS hp n kds t).bind fun r=>some ((r.1,hp),r.2)
   |none=>((K.ld d n x).exec Q.val ev hp).map (·,true)
 | .st n x y=>(ev x).bind fun v=>(iY v).bind fun t=>(ev y).bind fun u=>u.cells.bind fun cs=>(stS hp n t cs).bind fun r=>some ((.und,r.1),r.2)
 | .app d by_ sz x y=>(ev x).bind fun v=>(iY v).bind fun t=>(ev y).bind fun u=>(iY u).bind fun s=>bDZ (J0 d kd).isNone hp by_ sz t s
 | .len _ x=>(ev x).bind fun v=>(iY v).bind fun t=>(a5S hp t).bind fun r=>some ((.one (I r.1),hp),r.2)
 | .slc _ sz x lo hi=>(ev x).bind fun v=>(iY v).bind fun t=>(a5S hp t).bind fun n=>(uC ev 0 lo).bind fun l=>(match hi with|none=>some n.1|some o=>uC ev 0 (some o)).bind fun h=>(bD0 hp sz t n.1 l h).bind fun r=>some ((.one r.1,hp),n.2&&r.2)
 | .mks _ by_ z n c=>(ev n).bind fun v=>(uM v).bind fun v=>(ev c).bind fun u=>(uM u).bind fun u=>some (bD1 hp by_ z v.2 u.2)
 | .cpy d sz x y=>(ev x).bind fun v=>(iY v).bind fun t=>(ev y).bind fun u=>(iY u).bind fun s=>bD2 (J0 d kd).isNone hp sz t s
 | .clr sz z x=>(ev x).bind fun v=>(iY v).bind fun t=>bD3 hp sz z t
 |k=>(k.exec Q.val ev hp).map (·,true)
def aB5(ev ev':Ev):Prop:= ∀x v,ev x=some v→ev' x=some v
theorem aKE{ev ev':Ev}(he:aB5 ev ev'): ∀{ps:List (Nat×Nat×Opd)}{cs r:Row},fill ev cs ps=some r→fill ev' cs ps=some r
 |[],cs,r,h=>h
 |(o,n,x)::ps,cs,r,h=>by
  simp only[fill,qB]at h⊢;obtain⟨v,hv,new,hn,h⟩:=h;refine⟨v,he _ _ hv,new,hn,?_⟩;split at h
  ·rename_i hc;rw[if_pos hc];exact aKE he h
  ·simp at h
theorem MC{ev ev':Ev}(he:aB5 ev ev'): ∀{ps:List (Nat×Opd)}{cs r:List Row},fillRows ev cs ps=some r→fillRows ev' cs ps=some r
 |[],cs,r,h=>h
 |(o,x)::ps,cs,r,h=>by
  simp only[fillRows,qB]at h⊢;obtain⟨v,hv,new,hn,h⟩:=h;refine⟨v,he _ _ hv,new,hn,?_⟩;split at h
  ·split at h
   ·rename_i hc;rw[if_pos hc];exact MC he h
   ·simp at h
  ·simp at h
theorem BN{ev ev':Ev}(he:aB5 ev ev'): ∀{xs:List (Opd×Nat×Bool)}{r:List (SV×Nat×Bool)},jQ ev xs=some r→jQ ev' xs=some r
 |[],r,h=>h
 |(x,n,m)::xs,r,h=>by
  simp only[jQ,qB]at h⊢;obtain⟨v,hv,s,hs,h⟩:=h;exact⟨v,he _ _ hv,s,BN he hs,h⟩
theorem UQ{ev ev':Ev}(he:aB5 ev ev'): ∀{xs:List Opd}{r:List T},uP ev xs=some r→uP ev' xs=some r
 |[],r,h=>h
 |x::xs,r,h=>by
  simp only[uP,qB]at h⊢;obtain⟨v,hv,t,ht,h⟩:=h;refine⟨v,he _ _ hv,t,ht,?_⟩;split at h
  ·simp only[qB]at h⊢;obtain⟨s,hs,h⟩:=h;exact⟨s,UQ he hs,h⟩
  ·simp at h
theorem H7{ev ev':Ev}(he:aB5 ev ev'){n:Nat}{o:Option Opd}{r:Int}(h:uC ev n o=some r):uC ev' n o=some r:=by
 cases o with
 |none=>exact h
 |some o=>
  simp only[uC,qB]at h⊢;obtain⟨v,hv,h⟩:=h;exact⟨v,he _ _ hv,h⟩
theorem a50{R:Rt}{ev ev':Ev}(he:aB5 ev ev'){hp:List Blk}{k:K}{r:SV×List Blk}(h:k.exec R ev hp=some r):k.exec R ev' hp=some r:=by
 cases k with
 |mv d x=>simp only[K.exec,qB]at h⊢;obtain⟨v,hv,h⟩:=h;exact⟨v,he _ _ hv,h⟩
 |pick d c x y=>
  simp only[K.exec,qB]at h⊢;obtain⟨v,hv,c,hc,h⟩:=h;refine⟨v,he _ _ hv,c,hc,?_⟩;split at h
  ·simp only[qB]at h;obtain⟨u,hu,h⟩:=h;simp[*,he _ _ hu]
  ·simp only[qB]at h;obtain⟨u,hu,h⟩:=h;simp[*,he _ _ hu]
 |alc d z=>exact h
 |box d x=>simp only[K.exec,qB]at h⊢;obtain⟨v,hv,h⟩:=h;exact⟨v,he _ _ hv,h⟩
 |bld d z ps=>simp only[K.exec,qB]at h⊢;obtain⟨v,hv,h⟩:=h;exact⟨v,aKE he hv,h⟩
 |bsl d n z ps=>simp only[K.exec,qB]at h⊢;obtain⟨v,hv,h⟩:=h;exact⟨v,MC he hv,h⟩
 |ld d n x=>simp only[K.exec,qB]at h⊢;obtain⟨v,hv,h⟩:=h;exact⟨v,he _ _ hv,h⟩
 |st n x y=>simp only[K.exec,qB]at h⊢;obtain⟨v,hv,t,ht,u,hu,h⟩:=h;exact⟨v,he _ _ hv,t,ht,u,he _ _ hu,h⟩
 |nilc d x=>simp only[K.exec,qB]at h⊢;obtain⟨v,hv,h⟩:=h;exact⟨v,he _ _ hv,h⟩
 |bin d o x y=>simp only[K.exec,qB]at h⊢;obtain⟨v,hv,t,ht,u,hu,h⟩:=h;exact⟨v,he _ _ hv,t,ht,u,he _ _ hu,h⟩
 |bb d n x y=>simp only[K.exec,qB]at h⊢;obtain⟨v,hv,t,ht,u,hu,h⟩:=h;exact⟨v,he _ _ hv,t,ht,u,he _ _ hu,h⟩
 |eqs d n gs x y=>simp only[K.exec,qB]at h⊢;obtain⟨v,hv,u,hu,h⟩:=h;exact⟨v,he _ _ hv,u,he _ _ hu,h⟩
 |un d o x=>simp only[K.exec,qB]at h⊢;obtain⟨v,hv,h⟩:=h;exact⟨v,he _ _ hv,h⟩
 |cv d k x=>simp only[K.exec,qB]at h⊢;obtain⟨v,hv,h⟩:=h;exact⟨v,he _ _ hv,h⟩
 |mkf d f caps=>simp only[K.exec,qB]at h⊢;obtain⟨v,hv,h⟩:=h;exact⟨v,UQ he hv,h⟩
 |mks d b z n c=>simp only[K.exec,qB]at h⊢;obtain⟨v,hv,t,ht,u,hu,h⟩:=h;exact⟨v,he _ _ hv,t,ht,u,he _ _ hu,h⟩
 |slc d sz x lo hi=>simp only[K.exec,qB]at h⊢;obtain⟨v,hv,t,ht,rows,hr,l,hl,u,hu,h⟩:=h;exact⟨v,he _ _ hv,t,ht,rows,hr,l,H7 he hl,u,H7 he hu,h⟩
 |sls d x lo hi=>
  simp only[K.exec,qB]at h⊢;obtain⟨v,hv,t,ht,h⟩:=h;refine⟨v,he _ _ hv,t,ht,?_⟩;split at h
  ·simp only[qB]at h⊢;obtain⟨l,hl,u,hu,h⟩:=h;exact⟨l,H7 he hl,u,H7 he hu,h⟩
  ·simp at h
 |fa d x o=>simp only[K.exec,qB]at h⊢;obtain⟨v,hv,h⟩:=h;exact⟨v,he _ _ hv,h⟩
 |fld d x o n=>simp only[K.exec,qB]at h⊢;obtain⟨v,hv,h⟩:=h;exact⟨v,he _ _ hv,h⟩
 |ia d sz x j=>simp only[K.exec,qB]at h⊢;obtain⟨v,hv,t,ht,u,hu,h⟩:=h;exact⟨v,he _ _ hv,t,ht,u,he _ _ hu,h⟩
 |ix d x j=>simp only[K.exec,qB]at h⊢;obtain⟨v,hv,t,ht,u,hu,h⟩:=h;exact⟨v,he _ _ hv,t,ht,u,he _ _ hu,h⟩
 |ext d x j=>simp only[K.exec,qB]at h⊢;obtain⟨v,hv,h⟩:=h;exact⟨v,he _ _ hv,h⟩
 |call d pu f xs=>simp only[K.exec,qB]at h⊢;obtain⟨v,hv,h⟩:=h;exact⟨v,BN he hv,h⟩
 |calv d pu f xs=>
  simp only[K.exec,qB]at h⊢;obtain⟨v,hv,h⟩:=h;refine⟨v,he _ _ hv,?_⟩;split at h
  ·simp only[qB]at h⊢;obtain⟨vs,hvs,h⟩:=h;exact⟨vs,BN he hvs,h⟩
  ·simp at h
 |len d x=>simp only[K.exec,qB]at h⊢;obtain⟨v,hv,h⟩:=h;exact⟨v,he _ _ hv,h⟩
 |lens d x=>simp only[K.exec,qB]at h⊢;obtain⟨v,hv,h⟩:=h;exact⟨v,he _ _ hv,h⟩
 |app d b sz x y=>simp only[K.exec,qB]at h⊢;obtain⟨v,hv,t,ht,u,hu,h⟩:=h;exact⟨v,he _ _ hv,t,ht,u,he _ _ hu,h⟩
 |cpy d sz x y=>simp only[K.exec,qB]at h⊢;obtain⟨v,hv,t,ht,u,hu,h⟩:=h;exact⟨v,he _ _ hv,t,ht,u,he _ _ hu,h⟩
 |clr sz z x=>simp only[K.exec,qB]at h⊢;obtain⟨v,hv,h⟩:=h;exact⟨v,he _ _ hv,h⟩
 |mm d m x y=>simp only[K.exec,qB]at h⊢;obtain⟨v,hv,t,ht,u,hu,h⟩:=h;exact⟨v,he _ _ hv,t,ht,u,he _ _ hu,h⟩
def aEC:K→Bool
 | .call .. | .calv .. =>false
 |_=>true
theorem BO{R R':Rt}{ev:Ev}{hp:List Blk}{k:K}(hk:aEC k=true):k.exec R ev hp=k.exec R' ev hp:=by
 cases k<;>first|rfl|simp[aEC]at hk
theorem aRA{R:Rt}{Q:Qt}(hQ:UM (dL R) Q){kd:List (Nat×List Kd)}{ev ev':Ev}(he:aB5 ev ev'){hp:List Blk}{k:K}{r:SV×List Blk}(h:exK Q kd ev hp k=some (r,true)):k.exec R ev' hp=some r:=by
 refine a50 he ?_;unfold exK at h;split at h
 ·simp only[qB,qI,qP,K.exec]at h⊢;obtain⟨v,hv,t,ht,u,hu,s,hs,q,hq,h1,h2⟩:=h;refine⟨v,hv,t,ht,u,hu,s,hs,q.1,a5X (by rw[hq,←h2]),h1⟩
 ·simp only[qB,qI,qP,K.exec]at h⊢;obtain⟨c,hc,b,hb,v,hv,u,hu,m,hm,h1,-⟩:=h;refine⟨c,hc,b,hb,?_⟩;rw[←h1,zS hm];cases b<;>simp[hv,hu]
 ·simp only[qB,qI,qP,K.exec]at h⊢;obtain⟨vs,hvs,h⟩:=h;exact⟨vs,hvs,SY hQ h⟩
 ·simp only[qB,K.exec]at h⊢;obtain⟨g,hg,h⟩:=h;refine⟨g,hg,?_⟩;split at h
  ·simp only[qB,qI,qP]at h⊢;obtain⟨vs,hvs,h⟩:=h;exact⟨vs,hvs,OY hQ h⟩
  ·simp at h
 ·split at h
  ·simp only[qB,qI,qP,K.exec]at h⊢;obtain⟨v,hv,t,ht,u,hu,w,hw,q,hq,h1,h2⟩:=h;exact⟨v,hv,t,ht,u,hu,w,hw,q.1,a5Y (by rw[hq,←h2]),h1⟩
  ·simp only[q_c,qP,and_true]at h;obtain⟨q,hq,rfl⟩:=h;rw[BO (R':=Q.val) rfl];exact hq
 ·split at h
  ·simp only[qB,qI,qP,K.exec]at h⊢;obtain⟨v,hv,t,ht,q,hq,h1,h2⟩:=h;have:=bD7 (v:=q.1) (by rw[hq,←h2])
   simp only[qB]at this;obtain⟨cs,hc,hs⟩:=this;exact⟨v,hv,t,ht,cs,hc,q.1,hs,h1⟩
  ·simp only[q_c,qP,and_true]at h;obtain⟨q,hq,rfl⟩:=h;rw[BO (R':=Q.val) rfl];exact hq
 ·simp only[qB,qI,qP,K.exec]at h⊢;obtain⟨v,hv,t,ht,u,hu,cs,hc,q,hq,h1,h2⟩:=h;exact⟨v,hv,t,ht,u,hu,cs,hc,q.1,bD8 (by rw[hq,←h2]),h1⟩
 ·simp only[qB]at h;obtain⟨v,hv,t,ht,u,hu,s,hs,h⟩:=h;exact a5R hv ht hu hs h
 ·simp only[qB,qI,qP,K.exec]at h⊢;obtain⟨v,hv,t,ht,n,hn,h1,h2⟩:=h;obtain⟨rows,hr,hl⟩:=aKD (n:=n.1) (by rw[hn,←h2])
  exact⟨v,hv,t,ht,rows,hr,by rw[hl,h1]⟩
 ·rename_i d sz x lo hi;simp only[qB,qI,qP,K.exec]at h⊢;obtain⟨v,hv,t,ht,n,hn,l,hl,hh,hb,q,hq,h1,h2⟩:=h;obtain⟨o1,o2⟩:=bB h2;obtain⟨rows,hr,hlen⟩:=aKD (n:=n.1) (by rw[hn,←o1])
  refine⟨v,hv,t,ht,rows,hr,l,hl,hh,?_,q.1,a5T hlen (by rw[hq,←o2]),h1⟩
  cases hi with
  |none=>simp only[uC,hlen];exact hb
  |some o=>exact hb
 ·simp only[qB,qI]at h;obtain⟨v,hv,k,hk,u,hu,k',hk',h⟩:=h;exact a5U (k:=k.1) (nn:=k.2) (k':=k'.1) (cc:=k'.2) hv hk hu hk' h
 ·simp only[qB]at h;obtain⟨v,hv,t,ht,u,hu,s,hs,h⟩:=h;exact a5V hv ht hu hs h
 ·simp only[qB]at h;obtain⟨v,hv,t,ht,h⟩:=h;exact a5W hv ht h
 ·simp only[q_c,qP,and_true]at h;obtain⟨q,hq,rfl⟩:=h;have hk:aEC k=true:=by
   cases k with
   |call d pu f xs=>cases pu<;>simp_all
   |calv d pu f xs=>cases pu<;>simp_all
   |_=>rfl
  rw[BO (R':=Q.val) hk];exact hq
def qK:K→Bool
 | .alc .. | .box .. | .bsl .. | .st .. | .mks .. | .app .. | .cpy .. | .clr .. =>false
 | .call _ pu _ _| .calv _ pu _ _=>pu
 |_=>true
theorem WO{R:Rt}{hp:List Blk}{f:FuncId}{vs:List (SV×Nat×Bool)}{r:SV×List Blk}(h:kW R hp true f vs=some r):r.2=hp:=by
 simp only[kW,if_true,qB]at h;obtain⟨_,_,_,_,_,_,h⟩:=h;split at h
 ·obtain rfl:=Option.some.inj h;rfl
 ·simp at h
theorem MD{R:Rt}{hp:List Blk}{f:FuncId}{vs:List (SV×Nat×Bool)}{r:SV×List Blk}(h:mT R hp true f vs=some r):r.2=hp:=by
 unfold mT at h;split at h
 ·exact WO h
 ·simp at h
def aU3(hp:List Blk)(o:Option (SV×List Blk)):Prop:= ∀r,o=some r→r.2=hp
theorem DO{α:Type}{hp:List Blk}{o:Option α}{f:α→Option (SV×List Blk)}(h: ∀v,aU3 hp (f v)):aU3 hp (o.bind f):=fun r hr=>by
 simp only[qB]at hr;obtain⟨v,_,hv⟩:=hr;exact h v r hv
theorem aRB{hp:List Blk}{v:SV}:aU3 hp (some (v,hp)):=fun r hr=>by
 obtain rfl:=Option.some.inj hr;rfl
theorem UR{hp:List Blk}:aU3 hp none:=fun r hr=>by simp at hr
theorem J1{R:Rt}{ev:Ev}{hp:List Blk}{k:K}{r:SV×List Blk}(hk:qK k=true)(h:k.exec R ev hp=some r):r.2=hp:=by
 have:aU3 hp (k.exec R ev hp):=by
  cases k<;>simp only[qK,Bool.false_eq_true]at hk
  case call d pu f xs=>
   subst hk;exact DO fun vs r hr=>MD hr
  case calv d pu f xs=>
   subst hk;refine DO fun g=>?_
   split
   ·exact DO fun vs r hr=>MD hr
   ·exact UR
  all_goals
   unfold K.exec
   repeat (first|exact aRB|exact UR|(refine DO fun _=>?_)|split)
 exact this r h
end Go.Zq

namespace Go.Zq
open Go
def aRC(n:Nat):List Nat→List Nat
 |[]=>[n]
 |m::r=>bif Nat.blt n m then n::m::r else bif Nat.beq n m then m::r else m::aRC n r
def bD9:List Nat→List Nat→List Nat
 |[],b=>b
 |n::r,b=>aRC n (bD9 r b)
def bLT(n:Nat):List Nat→List Nat
 |[]=>[]
 |m::r=>bif Nat.beq n m then r else m::bLT n r
def aKF:List Operand→List Nat→List Nat
 |[],l=>l
 | .tmp n::r,l=>aRC n (aKF r l)
 |_::r,l=>aKF r l
def bRV:Option Nat→List Nat→List Nat
 |some n,l=>aRC n l
 |none,l=>l
def bRW(ops:Array Oper)(o:Oper)(l:List Nat):List Nat:=
 aKF o.op.operands.toList (match o.guard with
  |some (j,_)=>bRV ((ops[j]?).bind (·.dst)) l
  |none=>l)
def bRX:Option Nat→List Nat→List Nat
 |some n,l=>bLT n l
 |none,l=>l
def bEA(ops:Array Oper)(out:List Nat):List Nat:=ops.toList.foldr (fun o l=>bRW ops o (bRX o.dst l)) out
def bEB(f:List Nat→List Nat):Nat→List Nat→List Nat
 |0,x=>x
 |n+1,x=>let y:=bD9 (f x) x
  bif Nat.beq y.length x.length then x else bEB f n y
def ME(res:List Nat):Code→List Nat→List (Nat×List Nat)→List Nat
 | .seq x y,out,ctx=>ME res x (ME res y out ctx) ctx
 | .region _ ops _,out,_=>bEA ops out
 | .cond c x y,out,ctx=>aKF [c] (bD9 (ME res x out ctx) (ME res y out ctx))
 | .block id x,out,ctx=>ME res x out ((id,out)::ctx)
 | .loop x,_,ctx=>bEB (fun l=>ME res x l ctx) 9 []
 | .exit id,_,ctx=>(H1 id ctx).getD []
 | .ret,_,_=>res
 |_,out,_=>out
def O0(res:List Nat):Code→List Nat→List (Nat×List Nat)→List (Nat×List Nat)→List (Nat×List Nat)
 | .seq x y,out,ctx,l=>O0 res x (ME res y out ctx) ctx (O0 res y out ctx l)
 | .region id _ _,out,_,l=>(2*id,out)::l
 | .cond _ x y,out,ctx,l=>O0 res x out ctx (O0 res y out ctx l)
 | .block id x,out,ctx,l=>O0 res x out ((id,out)::ctx) l
 | .loop x,_,ctx,l=>let h:=bEB (fun l=>ME res x l ctx) 9 []
   (2*EX x+1,h)::O0 res x h ctx l
 |_,_,_,l=>l
def bEC:List ResultVar→List Nat
 |[]=>[]
 | .tmp n::r=>aRC n (bEC r)
 | .cell n _::r=>aRC n (bEC r)
def O1:Code→List (Nat×Nat)
 | .seq x y=>O1 x++O1 y
 | .region id ops true=>[(id,ops.size)]
 | .cond _ x y=>O1 x++O1 y
 | .block _ x=>O1 x
 | .loop x=>O1 x
 |_=>[]
def aU4(n:Nat):List (Nat×Nat)→Nat
 |[]=>0
 |(m,v)::r=>bif Nat.beq m n then v else aU4 n r
def cnN(id:Nat):List (Nat×Bool)→List Nat
 |[]=>[]
 |(m,neg)::r=>bif Nat.beq m id then(bif neg then [999998,999999]else [999999])else cnN id r
def bLU(own:FuncId→Nat→Bool)(cn:List (Nat×Bool))(fn:Func):Hint:=
 match fn.body with
 |some c=>let res:=bEC fn.results.toList
  let l:=O0 res c res [] []
  let d:=O1 c
  ⟨fun n=>(H1 (2*n+1) l).getD [],own,fun n=>List.range (aU4 n d),fun n=>(H1 (2*n) l).map fun x=>x++cnN n cn⟩
 |none=>⟨fun _=>[],own,fun _=>[],fun _=>none⟩
def aED(P:Program):Nat→TypeId→Option (List Kd)
 |0,_=>none
 |f+1,t=>
  match P.underlying t with
  |some (.int k)=>some [.int k]
  |some .bool=>some [.bool]
  |some .string=>some [.str]
  |some (.struct fs)=>(fs.toList.mapM fun x=>aED P f x.type).map List.flatten
  |some (.slice e)=>(oD P e).map fun n=>[.imm n]
  |_=>none
def bED(P:Program)(o:Oper)(l:List (Nat×List Kd)):List (Nat×List Kd):=
 match o.dst,o.op with
 |some d, .indexAddr t _ _=>match(HK P t).bind (aED P 9)with
  |some k=>(d,k)::l
  |none=>l
 |some d, .load t _=>match aED P 9 t with
  |some k=>(d,k)::l
  |none=>l
 |_,_=>l
def FL(P:Program):Code→List (Nat×List Kd)→List (Nat×List Kd)
 | .seq x y,l=>FL P x (FL P y l)
 | .region _ ops _,l=>ops.toList.foldr (bED P) l
 | .cond _ x y,l=>FL P x (FL P y l)
 | .block _ x,l=>FL P x l
 | .loop x,l=>FL P x l
 |_,l=>l
def kdA(P:Program)(f:FuncId):List (Nat×List Kd):=
 match P.funcs[f]? with
 |some fn=>match fn.body with
  |some c=>FL P c []
  |none=>[]
 |none=>[]
def inRuns(f:Nat):List (Nat×Nat)→Bool
 |[]=>false
 |(a,b)::r=>(Nat.ble a f&&Nat.ble f b)||inRuns f r
def bLV(runs:List (Nat×Nat))(mv:List (Nat×List Nat))(f:FuncId)(k:Nat):Bool:=
 match H1 f mv with
 |some l=>decide (k∈l)
 |none=>Nat.beq k 999&&inRuns f runs
def cfA(P:Program)(own:FuncId→FuncId→Nat→Bool)(cn:FuncId→List (Nat×Bool))(f:FuncId):Option Fn:=
 match P.funcs[f]? with
 |some fn=>if(fn.name== "runtime.NumGoroutine")then none else N4 P (bLU (own f) (cn f) fn) quiet? fn (fn.params.size+fn.nfree)
 |none=>none
theorem bEE{P:Program}(hm:P.follows .mixedOrders=true)(own:FuncId→FuncId→Nat→Bool)(cn:FuncId→List (Nat×Bool)):aJ8 P (cfA P own cn):=fun f cf h=>by
 unfold cfA at h;split at h
 ·rename_i fn hf;split at h
  ·cases h
  ·rename_i hn;have h':=h;unfold N4 at h';simp only[Option.bind_eq_some_iff]at h';obtain⟨c,hc,-⟩:=h';exact⟨⟨fn,c,hf,hc,by simpa using hn⟩,fn,_,quiet?,_,hf,MV hm,h⟩
 ·cases h
end Go.Zq

namespace Go.Zq
open Option renaming bind_eq_some_iff → qB
open Option.some renaming injEq → qI
open List renaming mem_append → q_j
open Go
def K.dsts(k:K):List Nat:=match k.dst with|some d=>[d]|none=>[]
inductive Its where
 |nil
 |op (k:K) (r:Its)
 |iff (s:Nat) (w:Bool) (its:Its) (d:Nat) (x y:Opd) (r:Its)
def Its.flat(g:Option (Nat×Bool)):Its→List G
 | .nil=>[]
 | .op k r=>(g,k)::r.flat g
 | .iff s w its d x y r=>its.flat (some (s,w))++(g, .pick d (.t s) x y)::r.flat g
def Its.dsts:Its→List Nat
 | .nil=>[]
 | .op k r=>k.dsts++r.dsts
 | .iff _ _ its d _ _ r=>its.dsts++d::r.dsts
def Its.quiet:Its→Bool
 | .nil=>true
 | .op k r=>qK k&&r.quiet
 | .iff _ _ its _ _ _ r=>its.quiet&&r.quiet
def Its.inner(ds:List Nat):Its→Bool
 | .nil=>true
 | .op k r=>r.inner (k.dsts++ds)
 | .iff s _ its d _ _ r=>ds.contains s&&its.inner []&&r.inner (d::(its.dsts++ds))
def eqG:Option (Nat×Bool)→Option (Nat×Bool)→Bool
 |none,none=>true
 |some (s,w),some (s',w')=>Nat.beq s s'&&(w==w')
 |_,_=>false
theorem aU8: ∀{g h:Option (Nat×Bool)},eqG g h=true→g=h
 |none,none,_=>rfl
 |some (s,w),some (s',w'),h=>by
  simp only[eqG,Bool.and_eq_true,beq_iff_eq]at h;rw[Nat.eq_of_beq_eq_true h.1,h.2]
 |none,some _,h=>by simp[eqG]at h
 |some _,none,h=>by simp[eqG]at h
def wX:Nat→Option (Nat×Bool)→List G→Its×List G
 |0,_,l=>(.nil,l)
 |_+1,_,[]=>(.nil,[])
 |n+1,cur,(g,k)::r=>
  if eqG g cur then let p:=wX n cur r;(.op k p.1,p.2)
  else match g with
   |none=>(.nil,(g,k)::r)
   |some (s,w)=>
    let q:=wX n (some (s,w)) ((g,k)::r)
    match q.2 with
    |(g', .pick d (.t s') x y)::r'=>
     if eqG g' cur&&Nat.beq s' s then let p:=wX n cur r';(.iff s w q.1 d x y p.1,p.2)else(.nil,(g,k)::r)
    |_=>(.nil,(g,k)::r)
theorem zU: ∀(n:Nat)(cur:Option (Nat×Bool))(l:List G),(wX n cur l).1.flat cur++(wX n cur l).2=l
 |0,_,l=>rfl
 |_+1,_,[]=>rfl
 |n+1,cur,(g,k)::r=>by
  unfold wX;split
  ·rename_i h;simp only[Its.flat,List.cons_append,zU n cur r,aU8 h]
  ·split
   ·rfl
   ·rename_i s w hh;simp only;split
    ·rename_i g' d s' x y r' hq;split
     ·rename_i hc;simp only[Bool.and_eq_true]at hc;obtain rfl:=aU8 hc.1;obtain rfl:=Nat.eq_of_beq_eq_true hc.2;have h1:=zU n (some (s',w)) ((some (s',w),k)::r);rw[hq]at h1;simp only[Its.flat,List.append_assoc,List.cons_append,zU n g' r'];exact h1
     ·rfl
    ·rfl
def FM(sl:List (Nat×SV))(ds:List Nat):List (Nat×SV):=sl.filter fun p=>!ds.contains p.1
theorem wY{ds:List Nat}{n:Nat}{v:SV}: ∀{sl:List (Nat×SV)},bC n (FM sl ds)=some v→n∉ds∧bC n sl=some v
 |[],h=>by simp[FM,bC]at h
 |(m,u)::r,h=>by
  unfold FM at h;rw[List.filter_cons]at h;split at h
  ·rename_i hm;simp only[bC]at h⊢;split at h
   ·rename_i e;subst e;exact⟨by simpa using hm,by rw[if_pos rfl];exact h⟩
   ·rename_i e;rw[if_neg e];exact wY h
  ·rename_i hm;have:=wY (sl:=r) h;refine⟨this.1,?_⟩;simp only[bC];split
   ·rename_i e;subst e;exact absurd (by simpa using hm) this.1
   ·exact this.2
structure Le(σ σ':St):Prop where
 sl: ∀n v,bC n σ.sl=some v→bC n σ'.sl=some v
 hp:σ'.hp=σ.hp
theorem Le.rfl{σ:St}:Le σ σ:=⟨fun _ _ h=>h,Eq.refl _⟩
theorem Le.trans{a b c:St}(h:Le a b)(k:Le b c):Le a c:=⟨fun n v x=>k.sl n v (h.sl n v x),k.hp.trans h.hp⟩
theorem Le.ev{σ σ':St}(h:Le σ σ'):aB5 σ.ev σ'.ev:=fun x v hx=>by
 cases x with
 |t n=>exact h.sl n v hx
 |c u=>exact hx
theorem Le.set{σ σ':St}(h:Le σ σ')(d:Nat)(v:SV):Le (σ.set d v) (σ'.set d v):=⟨fun n u hn=>by
 simp only[St.set,bC]at hn⊢;split
 ·rename_i e;rw[if_pos e]at hn;exact hn
 ·rename_i e;rw[if_neg e]at hn;exact h.sl n u hn,h.hp⟩
theorem Le.setD{σ σ':St}(h:Le σ σ')(d:Option Nat)(v:SV):Le (setD σ d v) (setD σ' d v):=by
 cases d with
 |none=>exact h
 |some d=>exact h.set d v
theorem Le.heap{σ σ':St}(h:Le σ σ')(hp:List Blk):Le ⟨σ.sl,hp⟩ ⟨σ'.sl,hp⟩:=⟨h.sl,Eq.refl _⟩
theorem uX{σ:St}{d n:Nat}{v:SV}(h:n≠d):bC n (σ.set d v).sl=bC n σ.sl:=by
 simp only[St.set,bC];rw[if_neg (Ne.symm h)]
theorem tE{σ:St}{d:Nat}{v:SV}:bC d (σ.set d v).sl=some v:=by
 simp[St.set,bC]
theorem jS{σ:St}{k:K}{n:Nat}{v:SV}(h:n∉k.dsts):bC n (Zq.setD σ k.dst v).sl=bC n σ.sl:=by
 unfold K.dsts at h;cases hd:k.dst with
 |none=>rfl
 |some d=>
  rw[hd]at h;exact uX (by simpa using h)
def evI(Q:Qt)(kd:List (Nat×List Kd)):Its→St→Option (St×Bool)
 | .nil,σ=>some (σ,true)
 | .op k r,σ=>(exK Q kd σ.ev σ.hp k).bind fun x=>(evI Q kd r (setD ⟨σ.sl,x.1.2⟩ k.dst x.1.1)).bind fun y=>some (y.1,x.2&&y.2)
 | .iff s w its d x y r,σ=>
   (bC s σ.sl).bind fun c=>(asBool c).bind fun b=>(evI Q kd its σ).bind fun i=>
   if(its.inner []&&!its.dsts.contains s)=true then
    (if its.quiet then some σ.hp else wW (if w then b else !b) i.1.hp σ.hp).bind fun hp=>
    ((if w then i.1 else⟨FM σ.sl its.dsts,σ.hp⟩:St).ev x).bind fun vx=>((if w then⟨FM σ.sl its.dsts,σ.hp⟩else i.1:St).ev y).bind fun vy=>(zR b vx vy).bind fun m=>
    (evI Q kd r (St.set ⟨FM σ.sl its.dsts,hp⟩ d m)).bind fun z=>some (z.1,(i.2||(if w then !b else b))&&z.2)
   else none
def Skips(s:Nat)(w:Bool)(σ:St):Prop:=bC s σ.sl=some .und∨bC s σ.sl=some (.one (B (!w)))
theorem Skips.setD{s:Nat}{w:Bool}{σ:St}(h:Skips s w σ)(k:K):Skips s w (Zq.setD σ k.dst .und):=by
 by_cases e:s∈k.dsts
 ·left
  unfold K.dsts at e;cases hd:k.dst with
  |none=>rw[hd]at e;simp at e
  |some d=>
   rw[hd]at e;obtain rfl:s=d:=by simpa using e
   exact tE
 ·rcases h with h|h
  ·left;rw[jS e];exact h
  ·right;rw[jS e];exact h
theorem US{R:Rt}{s:Nat}{w:Bool}{σ:St}(h:Skips s w σ)(k:K):kE R σ (some (s,w),k)=some (setD σ k.dst .und):=by
 unfold kE;rcases h with h|h
 ·simp only[h]
 ·simp only[h];rw[if_neg (by cases w<;>simp)]
theorem zV{R:Rt}: ∀{l l':List G}{σ σ1:St},dO R l σ=some σ1→dO R (l++l') σ=dO R l' σ1
 |[],l',σ,σ1,h=>by simp only[dO,qI]at h;subst h;rfl
 |g::r,l',σ,σ1,h=>by
  simp only[dO,qB]at h;obtain⟨σ2,h1,h2⟩:=h;simp only[List.cons_append,dO,h1,Option.bind_some];exact zV h2
theorem H8{R:Rt}: ∀{its:Its}{s:Nat}{w:Bool}{ds:List Nat}{σ:St},Skips s w σ→its.inner ds=true→(∀n∈ds,bC n σ.sl=some .und)→
  ∃σ',dO R (its.flat (some (s,w))) σ=some σ'∧σ'.hp=σ.hp∧(∀n,n∉its.dsts→bC n σ'.sl=bC n σ.sl)∧(∀n,(n∈its.dsts∨n∈ds)→bC n σ'.sl=some .und)∧Skips s w σ'
 | .nil,s,w,ds,σ,hs,hi,hd=>⟨σ,rfl,rfl,fun _ _=>rfl,fun n hn=>by rcases hn with hn|hn;·simp[Its.dsts]at hn
                                                                ·exact hd n hn,hs⟩
 | .op k r,s,w,ds,σ,hs,hi,hd=>by
   simp only[Its.inner]at hi;obtain⟨σ',h1,h2,h3,h4,h5⟩:=H8 (R:=R) (its:=r) (σ:=setD σ k.dst .und) (ds:=k.dsts++ds) (hs.setD k) hi (fun n hn=>by
    by_cases e:n∈k.dsts
    ·unfold K.dsts at e;cases hk:k.dst with
     |none=>rw[hk]at e;simp at e
     |some d=>
      rw[hk]at e;obtain rfl:n=d:=by simpa using e
      exact tE
    ·rw[jS e];exact hd n ((List.mem_append.1 hn).resolve_left e))
   refine⟨σ',?_,?_,?_,?_,h5⟩
   ·simp only[Its.flat,dO,US hs,Option.bind_some];exact h1
   ·rw[h2];cases k.dst<;>rfl
   ·intro n hn;simp only[Its.dsts,q_j,not_or]at hn;rw[h3 n hn.2,jS hn.1]
   ·intro n hn;simp only[Its.dsts,q_j]at hn;exact h4 n (by simp only[q_j];rcases hn with(hn|hn)|hn<;>simp[hn])
 | .iff s2 w2 its d x y r,s,w,ds,σ,hs,hi,hd=>by
   simp only[Its.inner,Bool.and_eq_true,List.contains_iff_mem]at hi;obtain⟨σ1,h1,h2,h3,h4,h5⟩:=H8 (R:=R) (its:=its) (s:=s2) (w:=w2) (σ:=σ) (ds:=[]) (.inl (hd s2 hi.1.1)) hi.1.2 (by simp)
   have hs1:Skips s w σ1:=by
    by_cases e:s∈its.dsts
    ·exact .inl (h4 s (.inl e))
    ·rcases hs with hs|hs
     ·left;rw[h3 s e];exact hs
     ·right;rw[h3 s e];exact hs
   obtain⟨σ',k1,k2,k3,k4,k5⟩:=H8 (R:=R) (its:=r) (s:=s) (w:=w) (σ:=setD σ1 (some d) .und) (ds:=d::(its.dsts++ds)) (hs1.setD (.pick d (.t s2) x y)) hi.2 (fun n hn=>by
    by_cases e:n=d
    ·subst e;exact tE
    ·show bC n (σ1.set d .und).sl=_
     rw[uX e];simp only[List.mem_cons,e,false_or,q_j]at hn;by_cases f:n∈its.dsts
     ·exact h4 n (.inl f)
     ·rw[h3 n f];exact hd n (hn.resolve_left f))
   refine⟨σ',?_,?_,?_,?_,k5⟩
   ·rw[Its.flat,zV h1];simp only[dO,US hs1,Option.bind_some];exact k1
   ·rw[k2];exact h2
   ·intro n hn;simp only[Its.dsts,q_j,List.mem_cons,not_or]at hn;rw[k3 n hn.2.2];show bC n (σ1.set d .und).sl=_
    rw[uX hn.2.1,h3 n hn.1]
   ·intro n hn;simp only[Its.dsts,q_j,List.mem_cons]at hn;refine k4 n ?_;simp only[List.mem_cons,q_j];rcases hn with(hn|hn|hn)|hn<;>simp[hn]
def aKG(g:Option (Nat×Bool))(σ:St):Prop:= ∀s w,g=some (s,w)→bC s σ.sl=some (.one (B w))
def bEG(g:Option (Nat×Bool))(ds:List Nat):Prop:= ∀s w,g=some (s,w)→s∉ds
theorem runG_holds{R:Rt}{g:Option (Nat×Bool)}{σ:St}(h:aKG g σ)(k:K):kE R σ (g,k)=k.run R σ:=by
 unfold kE;cases g with
 |none=>rfl
 |some x=>simp only[h x.1 x.2 rfl,if_true]
theorem MF{R:Rt}: ∀{l:List G}{σ σ':St},dO R l σ=some σ'→ ∀n,(∀g∈l,n∉g.2.dsts)→bC n σ'.sl=bC n σ.sl
 |[],σ,σ',h,n,hn=>by simp only[dO,qI]at h;rw[h]
 |g::r,σ,σ',h,n,hn=>by
  simp only[dO,qB]at h;obtain⟨σ1,h1,h2⟩:=h;rw[MF h2 n (fun g hg=>hn g (List.mem_cons_of_mem _ hg))]
  have hk:=hn g (List.mem_cons_self ..);have hrun: ∀{τ:St},g.2.run R σ=some τ→bC n τ.sl=bC n σ.sl:=fun{τ} ht=>by
   simp only[K.run,qB,qI]at ht;obtain⟨q,-,rfl⟩:=ht;rw[jS hk]
  unfold kE at h1;split at h1
  ·exact hrun h1
  ·split at h1
   ·split at h1
    ·exact hrun h1
    ·obtain rfl:=Option.some.inj h1;rw[jS hk]
   ·obtain rfl:=Option.some.inj h1;rw[jS hk]
   ·simp at h1
theorem DP{n:Nat}: ∀{its:Its}{g:Option (Nat×Bool)},n∉its.dsts→ ∀x∈its.flat g,n∉x.2.dsts
 | .nil,g,h,x,hx=>by simp[Its.flat]at hx
 | .op k r,g,h,x,hx=>by
   simp only[Its.dsts,q_j,not_or]at h;simp only[Its.flat,List.mem_cons]at hx;rcases hx with rfl|hx
   ·exact h.1
   ·exact DP h.2 x hx
 | .iff s w its d a b r,g,h,x,hx=>by
   simp only[Its.dsts,q_j,List.mem_cons,not_or]at h;simp only[Its.flat,q_j,List.mem_cons]at hx;rcases hx with hx|rfl|hx
   ·exact DP h.1 x hx
   ·simpa [K.dsts,K.dst]using h.2.1
   ·exact DP h.2.2 x hx
theorem DQ{Q:Qt}{kd:List (Nat×List Kd)}: ∀{its:Its}{σ:St}{r:St×Bool},evI Q kd its σ=some r→ ∀n v,n∉its.dsts→bC n r.1.sl=some v→bC n σ.sl=some v
 | .nil,σ,r,h,n,v,hn,hv=>by simp only[evI,qI]at h;subst h;exact hv
 | .op k t,σ,r,h,n,v,hn,hv=>by
   simp only[evI,qB,qI]at h;obtain⟨x,hx,y,hy,rfl⟩:=h;simp only[Its.dsts,q_j,not_or]at hn;have:=DQ hy n v hn.2 hv;rw[jS hn.1]at this;exact this
 | .iff s w its d a b t,σ,r,h,n,v,hn,hv=>by
   simp only[evI,qB]at h;obtain⟨c,hc,e,he,i,hi,h⟩:=h;split at h
   ·simp only[qB,qI]at h;obtain⟨hp1,hh,vx,hx,vy,hy,m,hm,z,hz,rfl⟩:=h;simp only[Its.dsts,q_j,List.mem_cons,not_or]at hn;have:=DQ hz n v hn.2.2 hv;rw[uX hn.2.1]at this;exact(wY this).2
   ·simp at h
theorem EJ{Q:Qt}{wm:Bool}{hp:List Blk}{f:FuncId}{vs:List (SV×Nat×Bool)}{r:(SV×List Blk)×Bool}(h:yP Q wm hp true f vs=some r):r.1.2=hp:=by
 simp only[yP,if_true,qB]at h;obtain⟨args,h1,q,hq,h⟩:=h;split at h
 ·obtain rfl:=Option.some.inj h;rfl
 ·simp at h
theorem WQ{Q:Qt}{wm:Bool}{hp:List Blk}{f:FuncId}{vs:List (SV×Nat×Bool)}{r:(SV×List Blk)×Bool}(h:H5 Q wm hp true f vs=some r):r.1.2=hp:=by
 unfold H5 at h;split at h
 ·exact EJ h
 ·simp at h
theorem SZ{Q:Qt}{wm:Bool}{hp:List Blk}{f:FuncId}{vs:List (SV×Nat×Bool)}{r:(SV×List Blk)×Bool}(h:H4 Q wm hp true f vs=some r):r.1.2=hp:=EJ (bQ h).2
theorem aRD{Q:Qt}{kd:List (Nat×List Kd)}{ev:Ev}{hp:List Blk}{k:K}{r:(SV×List Blk)×Bool}(hk:qK k=true)(h:exK Q kd ev hp k=some r):r.1.2=hp:=by
 unfold exK at h;split at h
 ·simp only[qB,qI]at h;obtain⟨v,hv,t,ht,u,hu,s,hs,q,hq,rfl⟩:=h;rfl
 ·simp only[qB,qI]at h;obtain⟨c,hc,b,hb,v,hv,u,hu,m,hm,rfl⟩:=h;rfl
 ·simp only[qB,qI]at h;obtain⟨vs,hvs,h⟩:=h;simp only[qK]at hk;subst hk;exact WQ h
 ·simp only[qB]at h;obtain⟨g,hg,h⟩:=h;split at h
  ·simp only[qB,qI]at h;obtain⟨vs,hvs,h⟩:=h;simp only[qK]at hk;subst hk;exact SZ h
  ·simp at h
 ·split at h
  ·simp only[qB,qI]at h;obtain⟨v,hv,t,ht,u,hu,w,hw,q,hq,rfl⟩:=h;rfl
  ·simp only[Option.map_eq_some_iff]at h;obtain⟨q,hq,rfl⟩:=h;exact J1 hk hq
 ·split at h
  ·simp only[qB,qI]at h;obtain⟨v,hv,t,ht,q,hq,rfl⟩:=h;rfl
  ·simp only[Option.map_eq_some_iff]at h;obtain⟨q,hq,rfl⟩:=h;exact J1 hk hq
 ·simp[qK]at hk
 ·simp[qK]at hk
 ·simp only[qB,qI]at h;obtain⟨v,hv,t,ht,n,hn,rfl⟩:=h;rfl
 ·simp only[qB,qI]at h;obtain⟨v,hv,t,ht,n,hn,l,hl,hh,hb,q,hq,rfl⟩:=h;rfl
 ·simp[qK]at hk
 ·simp[qK]at hk
 ·simp[qK]at hk
 ·simp only[Option.map_eq_some_iff]at h;obtain⟨q,hq,rfl⟩:=h;exact J1 hk hq
theorem aRE{σ:St}{d:Option Nat}{v:SV}:(setD σ d v).hp=σ.hp:=by cases d<;>rfl
theorem DR{Q:Qt}{kd:List (Nat×List Kd)}: ∀{its:Its}{σ:St}{r:St×Bool},its.quiet=true→evI Q kd its σ=some r→r.1.hp=σ.hp
 | .nil,σ,r,hq,h=>by simp only[evI,qI]at h;subst h;rfl
 | .op k t,σ,r,hq,h=>by
   simp only[evI,qB,qI]at h;obtain⟨x,hx,y,hy,rfl⟩:=h;simp only[Its.quiet,Bool.and_eq_true]at hq;rw[DR hq.2 hy,aRE];exact aRD hq.1 hx
 | .iff s w its d a b t,σ,r,hq,h=>by
   simp only[evI,qB]at h;obtain⟨c,hc,e,he,i,hi,h⟩:=h;simp only[Its.quiet,Bool.and_eq_true]at hq;split at h
   ·simp only[qB,qI]at h;obtain⟨hp1,hh,vx,hx,vy,hy,m,hm,z,hz,rfl⟩:=h;rw[DR hq.2 hz];rw[if_pos hq.1]at hh;obtain rfl:=Option.some.inj hh;rfl
   ·simp at h
theorem DS{R:Rt}{Q:Qt}(hQ:UM (dL R) Q){kd:List (Nat×List Kd)}: ∀{its:Its}{g:Option (Nat×Bool)}{σ σr σ':St},evI Q kd its σ=some (σ',true)→Le σ σr→aKG g σr→bEG g its.dsts→
  ∃σr',dO R (its.flat g) σr=some σr'∧Le σ' σr'
 | .nil,g,σ,σr,σ',h,hl,hg,ha=>by
   simp only[evI,qI,Prod.mk.injEq]at h;obtain⟨rfl,-⟩:=h;exact⟨σr,rfl,hl⟩
 | .op k t,g,σ,σr,σ',h,hl,hg,ha=>by
   simp only[evI,qB,qI,Prod.mk.injEq,Bool.and_eq_true]at h;obtain⟨x,hx,y,hy,rfl,h1,h2⟩:=h;have hx':k.exec R σr.ev σr.hp=some x.1:=by
    rw[hl.hp];exact aRA hQ hl.ev (by rw[hx,←h1])
   have hl':=(hl.heap x.1.2).setD k.dst x.1.1;have hg':aKG g (setD ⟨σr.sl,x.1.2⟩ k.dst x.1.1):=fun s w e=>by
    have:=ha s w e;simp only[Its.dsts,q_j,not_or]at this;rw[jS this.1];exact hg s w e
   obtain⟨σr',k1,k2⟩:=DS hQ (its:=t) (g:=g) (by rw[hy,←h2]) hl' hg' (fun s w e=>by
    have:=ha s w e;simp only[Its.dsts,q_j,not_or]at this;exact this.2)
   refine⟨σr',?_,k2⟩;simp only[Its.flat,dO,runG_holds hg,K.run,hx',Option.bind_some];exact k1
 | .iff s w its d a b t,g,σ,σr,σ',h,hl,hg,ha=>by
   simp only[evI,qB]at h;obtain⟨c,hc,e,he,i,hi,h⟩:=h;split at h
   case isFalse=>simp at h
   rename_i hcond;simp only[Bool.and_eq_true,Bool.not_eq_true',List.contains_eq_mem,decide_eq_false_iff_not]at hcond;obtain⟨hin,hs⟩:=hcond;simp only[qB,qI,Prod.mk.injEq,Bool.and_eq_true,Bool.or_eq_true]at h;obtain⟨hp1,hh,vx,hx,vy,hy,m,hm,z,hz,rfl,ho1,ho2⟩:=h;have hcs:bC s σr.sl=some (.one (B e)):=by
    have:=hl.sl s c hc;rw[this]
    revert he
    unfold asBool;split
    ·intro he;obtain rfl:=Option.some.inj he;rfl
    ·intro he;simp at he
   have hdrop: ∀{τ:St}{hp:List Blk},τ.hp=hp→(∀n,n∉its.dsts→bC n τ.sl=bC n σr.sl)→Le ⟨FM σ.sl its.dsts,hp⟩ τ:=fun{τ hp} h1 h2=>⟨fun n v hn=>by
    have:=wY hn;rw[h2 n this.1];exact hl.sl n v this.2,h1⟩
   have ha': ∀{n:Nat}{w':Bool},g=some (n,w')→n∉its.dsts∧n≠d∧n∉t.dsts:=fun{n w'} e'=>by
    have:=ha n w' e';simpa only[Its.dsts,q_j,List.mem_cons,not_or]using this
   have main: ∃τ,dO R (its.flat (some (s,w))) σr=some τ∧τ.hp=hp1∧(∀n,n∉its.dsts→bC n τ.sl=bC n σr.sl)∧(if e then τ.ev a else τ.ev b)=some m:=by
    by_cases hw:e=w
    ·subst hw;have hok:i.2=true:=by
      rcases ho1 with h|h
      ·exact h
      ·cases e<;>simp at h
     have hih:i.1.hp=hp1:=by
      split at hh
      ·rename_i hq;obtain rfl:=Option.some.inj hh;exact DR hq hi
      ·rw[zT hh];cases e<;>rfl
     obtain⟨τ,k1,k2⟩:=DS hQ (its:=its) (g:=some (s,e)) (σ:=σ) (σ':=i.1) (by rw[hi,←hok]) hl (fun s' w' e'=>by
      simp only[qI,Prod.mk.injEq]at e';obtain⟨rfl,rfl⟩:=e';exact hcs) (fun s' w' e'=>by
      simp only[qI,Prod.mk.injEq]at e';obtain⟨rfl,rfl⟩:=e';exact hs)
     refine⟨τ,k1,by rw[k2.hp];exact hih,fun n hn=>MF k1 n (DP hn),?_⟩
     rw[zS hm];cases e
     ·simp only[Bool.false_eq_true,if_false,cond_false]at hy⊢;exact k2.ev _ _ hy
     ·simp only[if_true,cond_true]at hx⊢;exact k2.ev _ _ hx
    ·have hw':e=!w:=by cases e<;>cases w<;>simp_all
     subst hw';have hih:hp1=σ.hp:=by
      split at hh
      ·exact(Option.some.inj hh).symm
      ·rw[zT hh];cases w<;>rfl
     obtain⟨τ,k1,k2,k3,k4,k5⟩:=H8 (R:=R) (its:=its) (s:=s) (w:=w) (ds:=[]) (σ:=σr) (.inr hcs) hin (by simp)
     refine⟨τ,k1,by rw[k2,hih];exact hl.hp,k3,?_⟩
     have hd:=hdrop (τ:=τ) (hp:=σ.hp) (by rw[k2];exact hl.hp) k3
     rw[zS hm];cases w
     ·simp only[Bool.not_false,if_true,cond_true,Bool.false_eq_true,if_false]at hx⊢;exact hd.ev _ _ hx
     ·simp only[Bool.not_true,Bool.false_eq_true,if_false,cond_false,if_true]at hy⊢;exact hd.ev _ _ hy
   obtain⟨τ,m1,m2,m3,m4⟩:=main;have hgτ:aKG g τ:=fun s' w' e'=>by rw[m3 s' (ha' e').1];exact hg s' w' e'
   have hpick:(K.pick d (.t s) a b).run R τ=some (τ.set d m):=by
    have hct:τ.ev (.t s)=some (.one (B e)):=by
     show bC s τ.sl=_
     rw[m3 s hs];exact hcs
    simp only[K.run,K.exec,hct,Option.bind_some,asBool,K.dst,Zq.setD];cases e
    ·simp only[Bool.false_eq_true,if_false]at m4⊢;simp[m4]
    ·simp only[if_true]at m4⊢;simp[m4]
   obtain⟨σr',k1,k2⟩:=DS hQ (its:=t) (g:=g) (σr:=τ.set d m) (by rw[hz,←ho2]) ((hdrop m2 m3).set d m) (fun s' w' e'=>by
    rw[uX (ha' e').2.1];exact hgτ s' w' e') (fun s' w' e'=>(ha' e').2.2)
   refine⟨σr',?_,k2⟩;rw[Its.flat,zV m1];simp only[dO,runG_holds hgτ,hpick,Option.bind_some];exact k1
end Go.Zq

namespace Go.Zq
open Go
inductive Tr where
 |leaf (σ:St)
 |br (b:Bool) (x y:Tr)
def Tr.st:Tr→St
 | .leaf σ=>σ
 | .br b x y=>bif b then x.st else y.st
def Tr.All(P:St→Prop):Tr→Prop
 | .leaf σ=>P σ
 | .br _ x y=>x.All P∧y.All P
theorem Tr.All.st{P:St→Prop}: ∀{t:Tr},t.All P→P t.st
 | .leaf σ,h=>h
 | .br b x y,h=>by
   cases b
   ·exact Tr.All.st (t:=y) h.2
   ·exact Tr.All.st (t:=x) h.1
theorem Tr.All.mono{P P':St→Prop}(hp: ∀σ,P σ→P' σ): ∀{t:Tr},t.All P→t.All P'
 | .leaf σ,h=>hp σ h
 | .br b x y,h=>⟨Tr.All.mono hp (t:=x) h.1,Tr.All.mono hp (t:=y) h.2⟩
inductive Ex where
 |ret
 |brk (id:Nat)
def Ex.out:Ex→St→Out
 | .ret,σ=> .ret σ
 | .brk id,σ=> .brk id σ
structure O where
 ex:List (Ex×Bool×Tr)
 nor:Option Tr
def m5:List (Ex×Bool×Tr)→Option Tr→Option Out
 |[],none=>none
 |[],some t=>some (.nor t.st)
 |(k,b,t)::r,n=>bif b then some (k.out t.st)else m5 r n
def O.den(o:O):Option Out:=m5 o.ex o.nor
structure O.All(P:St→Prop)(o:O):Prop where
 ex: ∀e∈o.ex,e.2.2.All P
 nor: ∀t,o.nor=some t→t.All P
theorem O.All.mono{P P':St→Prop}(hp: ∀σ,P σ→P' σ){o:O}(h:o.All P):o.All P':=⟨fun e he=>(h.ex e he).mono hp,fun t ht=>(h.nor t ht).mono hp⟩
inductive LeOut:Out→Out→Prop where
 |nor {σ σ':St} (h:Le σ σ'):LeOut (.nor σ) (.nor σ')
 |brk {id:Nat} {σ σ':St} (h:Le σ σ'):LeOut (.brk id σ) (.brk id σ')
 |ret {σ σ':St} (h:Le σ σ'):LeOut (.ret σ) (.ret σ')
theorem LeOut.refl: ∀{o:Out},LeOut o o
 | .nor _=> .nor .rfl
 | .brk _ _=> .brk .rfl
 | .ret _=> .ret .rfl
theorem LeOut.trans{a b c:Out}(h:LeOut a b)(k:LeOut b c):LeOut a c:=by
 cases h<;>cases k
 ·exact .nor (Le.trans ‹_› ‹_›)
 ·exact .brk (Le.trans ‹_› ‹_›)
 ·exact .ret (Le.trans ‹_› ‹_›)
def O2(asg:Option (List Nat))(n:Nat):Bool:=match asg with|some l=>l.contains n|none=>true
def uH(b:Bool)(asg:Option (List Nat))(s1 s2:List (Nat×SV)):List Nat→List (Nat×SV)
 |[]=>[]
 |n::r=>
  match bC n s1 with
  |none=>uH b asg s1 s2 r
  |some v=>
   match bC n s2 with
   |none=>uH b asg s1 s2 r
   |some u=>
    if O2 asg n=true then
     match zR b v u with
     |some m=>(n,m)::uH b asg s1 s2 r
     |none=>uH b asg s1 s2 r
    else(n,v)::uH b asg s1 s2 r
def wZ(b:Bool)(asg:Option (List Nat))(quiet:Bool)(σ1 σ2:St):Option St:=
 (if quiet then some σ1.hp else wW b σ1.hp σ2.hp).map fun hp=>⟨uH b asg σ1.sl σ2.sl (σ1.sl.map (·.1)),hp⟩
structure Fr(asg:Option (List Nat))(quiet:Bool)(σ0 σ:St):Prop where
 sl: ∀l,asg=some l→ ∀n v,n∉l→bC n σ.sl=some v→bC n σ0.sl=some v
 hp:quiet=true→σ.hp=σ0.hp
theorem iI{b:Bool}{asg:Option (List Nat)}{s1 s2:List (Nat×SV)}{n:Nat}{v:SV}: ∀{l:List Nat},bC n (uH b asg s1 s2 l)=some v→
  ∃x y,bC n s1=some x∧bC n s2=some y∧((O2 asg n=true∧zR b x y=some v)∨(O2 asg n=false∧v=x))
 |[],h=>by simp[uH,bC]at h
 |m::r,h=>by
  unfold uH at h;cases hx:bC m s1 with
  |none=>simp only[hx]at h;exact iI h
  |some x=>
   cases hy:bC m s2 with
   |none=>simp only[hx,hy]at h;exact iI h
   |some y=>
    simp only[hx,hy]at h;by_cases hc:O2 asg m=true
    ·rw[if_pos hc]at h;cases hz:zR b x y with
     |none=>simp only[hz]at h;exact iI h
     |some z=>
      simp only[hz,bC]at h;by_cases e:m=n
      ·rw[if_pos e]at h;subst e;obtain rfl:=Option.some.inj h;exact⟨x,y,hx,hy, .inl ⟨hc,hz⟩⟩
      ·rw[if_neg e]at h;exact iI h
    ·rw[if_neg hc]at h;simp only[bC]at h;by_cases e:m=n
     ·rw[if_pos e]at h;subst e;obtain rfl:=Option.some.inj h;exact⟨x,y,hx,hy, .inr ⟨by simpa using hc,rfl⟩⟩
     ·rw[if_neg e]at h;exact iI h
theorem O3{l:List Nat}{n:Nat}:O2 (some l) n=true↔n∈l:=by simp[O2]
theorem O4{b:Bool}{asg:Option (List Nat)}{quiet:Bool}{σ0 σ1 σ2 σ:St}(h:wZ b asg quiet σ1 σ2=some σ)(h1:Fr asg quiet σ0 σ1)(h2:Fr asg quiet σ0 σ2):Le σ (bif b then σ1 else σ2):=by
 simp only[wZ,Option.map_eq_some_iff]at h;obtain⟨hp,hh,rfl⟩:=h;constructor
 ·intro n v hn;obtain⟨x,y,hx,hy,⟨-,hm⟩|⟨hnl,rfl⟩⟩:=iI hn
  ·rw[zS hm];cases b
   ·exact hy
   ·exact hx
  ·cases b
   ·cases asg with
    |none=>simp[O2]at hnl
    |some l=>
     have hnl':n∉l:=fun e=>by rw[O3.2 e]at hnl;simp at hnl
     have e1:=h1.sl l rfl n _ hnl' hx;have e2:=h2.sl l rfl n _ hnl' hy;rw[e1]at e2;obtain rfl:=Option.some.inj e2;exact hy
   ·exact hx
 ·split at hh
  ·rename_i hq;obtain rfl:=Option.some.inj hh;cases b
   ·exact(h2.hp hq).trans (h1.hp hq).symm
   ·rfl
  ·rw[zT hh];cases b<;>rfl
theorem aEE{b:Bool}{asg:Option (List Nat)}{quiet:Bool}{σ0 σ1 σ2 σ:St}(h:wZ b asg quiet σ1 σ2=some σ)(h1:Fr asg quiet σ0 σ1):Fr asg quiet σ0 σ:=by
 simp only[wZ,Option.map_eq_some_iff]at h;obtain⟨hp,hh,rfl⟩:=h;constructor
 ·intro l hl n v hn hv;obtain⟨x,y,hx,hy,⟨hnl,-⟩|⟨-,rfl⟩⟩:=iI hv
  ·subst hl;exact absurd (O3.1 hnl) hn
  ·exact h1.sl l hl n _ hn hx
 ·intro hq;rw[if_pos hq]at hh;obtain rfl:=Option.some.inj hh;exact h1.hp hq
def O5(mg:Bool→St→St→Option St)(b:Bool):Tr→Tr→Tr
 | .leaf σ1, .leaf σ2=>match mg b σ1 σ2 with
   |some σ=> .leaf σ
   |none=> .br b (.leaf σ1) (.leaf σ2)
 |x,y=> .br b x y
structure MgOk(mg:Bool→St→St→Option St)(P:St→Prop):Prop where
 le: ∀b σ1 σ2 σ,P σ1→P σ2→mg b σ1 σ2=some σ→Le σ (bif b then σ1 else σ2)
 all: ∀b σ1 σ2 σ,P σ1→P σ2→mg b σ1 σ2=some σ→P σ
theorem DT{mg:Bool→St→St→Option St}{P:St→Prop}(hm:MgOk mg P){b:Bool}{x y:Tr}(hx:x.All P)(hy:y.All P):Le (O5 mg b x y).st (bif b then x.st else y.st):=by
 unfold O5;split
 ·split
  ·rename_i h;exact hm.le _ _ _ _ hx hy h
  ·exact .rfl
 ·exact .rfl
theorem O6{mg:Bool→St→St→Option St}{P:St→Prop}(hm:MgOk mg P){b:Bool}{x y:Tr}(hx:x.All P)(hy:y.All P):(O5 mg b x y).All P:=by
 unfold O5;split
 ·split
  ·rename_i h;exact hm.all _ _ _ _ hx hy h
  ·exact⟨hx,hy⟩
 ·exact⟨hx,hy⟩
def H9(mg:Bool→St→St→Option St)(b:Bool):Option Tr→Option Tr→Option Tr
 |none,t=>t
 |some t,none=>some t
 |some x,some y=>some (O5 mg b x y)
def MG(mg:Bool→St→St→Option St)(b:Bool)(o1 o2:O):O:=
 ⟨o1.ex.map (fun e=>(e.1,e.2.1&&b,e.2.2))++o2.ex.map (fun e=>(e.1,e.2.1&&!b,e.2.2)),H9 mg b o1.nor o2.nor⟩
theorem IA: ∀{l:List (Ex×Bool×Tr)}{l':List (Ex×Bool×Tr)}{n:Option Tr},(∀e∈l,e.2.1=false)→m5 (l++l') n=m5 l' n
 |[],l',n,h=>rfl
 |e::r,l',n,h=>by
  have he:=h e (List.mem_cons_self ..);obtain⟨k,b,t⟩:=e;simp only at he;subst he;simp only[List.cons_append,m5,cond_false];exact IA fun e he=>h e (List.mem_cons_of_mem _ he)
theorem O7{l l':List (Ex×Bool×Tr)}{n n':Option Tr}{f:Bool→Bool}(hf: ∀b,f b=b){out:Out}(h:m5 l n=some out)(hl: ∀e∈l',e.2.1=false)(hn: ∀t,n=some t→ ∃t',n'=some t'∧Le t'.st t.st):
  ∃out',m5 (l.map (fun e=>(e.1,f e.2.1,e.2.2))++l') n'=some out'∧LeOut out' out:=by
 induction l with
 |nil=>
  rw[List.map_nil,List.nil_append];have:=IA (l':=[]) (n:=n') hl;rw[List.append_nil]at this;rw[this];cases n with
  |none=>simp[m5]at h
  |some t=>
   simp only[m5,Option.some.injEq]at h;subst h;obtain⟨t',rfl,ht⟩:=hn t rfl;exact⟨_,rfl, .nor ht⟩
 |cons e r ih=>
  obtain⟨k,b,t⟩:=e;cases b
  ·simp only[m5,cond_false]at h;simp only[List.map_cons,List.cons_append,m5];rw[hf];exact ih h
  ·simp only[m5,cond_true]at h;simp only[List.map_cons,List.cons_append,m5];rw[hf];exact⟨_,h, .refl⟩
theorem DU{mg:Bool→St→St→Option St}{P:St→Prop}(hm:MgOk mg P){b:Bool}{o1 o2:O}(h1:o1.All P)(h2:o2.All P){out:Out}(h:(bif b then o1.den else o2.den)=some out):
  ∃out',(MG mg b o1 o2).den=some out'∧LeOut out' out:=by
 cases b
 ·simp only[cond_false]at h;unfold O.den MG at*;simp only;rw[IA (by intro e he;obtain⟨e',-,rfl⟩:=List.mem_map.1 he;simp)]
  have:=O7 (l':=[]) (n':=H9 mg false o1.nor o2.nor) (f:=fun b=>b&&!false) (by simp) h (by simp) (fun t ht=>by
   rw[ht];cases hn:o1.nor with
   |none=>exact⟨t,rfl, .rfl⟩
   |some t1=>exact⟨_,rfl,DT hm (h1.nor _ hn) (h2.nor _ ht)⟩)
  rwa [List.append_nil]at this
 ·simp only[cond_true]at h;unfold O.den MG at*;simp only;exact O7 (f:=fun b=>b&&true) (by simp) h (by intro e he;obtain⟨e',-,rfl⟩:=List.mem_map.1 he;simp) (fun t ht=>by
   rw[ht];cases hn:o2.nor with
   |none=>exact⟨t,rfl, .rfl⟩
   |some t2=>exact⟨_,rfl,DT hm (h1.nor _ ht) (h2.nor _ hn)⟩)
theorem UT{mg:Bool→St→St→Option St}{P:St→Prop}(hm:MgOk mg P){b:Bool}{o1 o2:O}(h1:o1.All P)(h2:o2.All P):(MG mg b o1 o2).All P:=by
 constructor
 ·intro e he;simp only[MG,List.mem_append,List.mem_map]at he;rcases he with⟨e',he',rfl⟩|⟨e',he',rfl⟩
  ·exact h1.ex e' he'
  ·exact h2.ex e' he'
 ·intro t ht;simp only[MG]at ht;cases hn1:o1.nor with
  |none=>rw[hn1]at ht;exact h2.nor t ht
  |some t1=>
   cases hn2:o2.nor with
   |none=>rw[hn1,hn2]at ht;obtain rfl:=Option.some.inj ht;exact h1.nor _ hn1
   |some t2=>rw[hn1,hn2]at ht;obtain rfl:=Option.some.inj ht;exact O6 hm (h1.nor _ hn1) (h2.nor _ hn2)
def aU9(b:Bool)(σ1 σ2:St):Option St:=wZ b none false σ1 σ2
theorem IB:MgOk aU9 (fun _=>True):=⟨fun b σ1 σ2 σ _ _ h=>O4 (σ0:=σ) h ⟨by simp,by simp⟩ ⟨by simp,by simp⟩,fun _ _ _ _ _ _ _=>trivial⟩
theorem O.All.triv(o:O):o.All fun _=>True:=by
 have: ∀t:Tr,t.All fun _=>True:=by
  intro t
  induction t with
  |leaf=>trivial
  |br b x y ihx ihy=>exact⟨ihx,ihy⟩
 exact⟨fun e _=>this _,fun t _=>this t⟩
def aEF(f:St→Option (O×Bool)):Tr→Option (O×Bool)
 | .leaf σ=>f σ
 | .br b x y=>(aEF f x).bind fun r1=>(aEF f y).bind fun r2=>some (MG aU9 b r1.1 r2.1,(r1.2||!b)&&(r2.2||b))
def a52:List (Ex×Bool×Tr)→Bool→Bool
 |[],ok=>ok
 |e::r,ok=>a52 r ok||e.2.1
def EK(r:O×Bool)(f:St→Option (O×Bool)):Option (O×Bool):=
 match r.1.nor with
 |none=>some r
 |some t=>(aEF f t).bind fun r2=>some (⟨r.1.ex++r2.1.ex,r2.1.nor⟩,r.2&&a52 r.1.ex r2.2)
def O8(f:St→Option (O×Bool))(g:St→Option Out):Prop:= ∀σ σr o,f σ=some (o,true)→Le σ σr→ ∃out0 out,o.den=some out0∧g σr=some out∧LeOut out0 out
theorem FN{f:St→Option (O×Bool)}{g:St→Option Out}(hf:O8 f g): ∀{t:Tr}{σr:St}{o:O},aEF f t=some (o,true)→Le t.st σr→ ∃out0 out,o.den=some out0∧g σr=some out∧LeOut out0 out
 | .leaf σ,σr,o,h,hl=>hf σ σr o h hl
 | .br b x y,σr,o,h,hl=>by
   simp only[aEF,Option.bind_eq_some_iff,Option.some.injEq,Prod.mk.injEq,Bool.and_eq_true,Bool.or_eq_true]at h;obtain⟨r1,h1,r2,h2,rfl,k1,k2⟩:=h;cases b
   ·have k:r2.2=true:=by simpa using k2
    obtain⟨out0,out,a1,a2,a3⟩:=FN hf (t:=y) (σr:=σr) (o:=r2.1) (by rw[h2,←k]) hl
    obtain⟨out',b1,b2⟩:=DU (b:=false) (o1:=r1.1) IB (.triv _) (.triv _) a1;exact⟨out',out,b1,a2,b2.trans a3⟩
   ·have k:r1.2=true:=by simpa using k1
    obtain⟨out0,out,a1,a2,a3⟩:=FN hf (t:=x) (σr:=σr) (o:=r1.1) (by rw[h1,←k]) hl
    obtain⟨out',b1,b2⟩:=DU (b:=true) (o2:=r2.1) IB (.triv _) (.triv _) a1;exact⟨out',out,b1,a2,b2.trans a3⟩
theorem UU: ∀{l:List (Ex×Bool×Tr)}{ok:Bool}{t:Tr}{out:Out},a52 l ok=true→m5 l (some t)=some out→(∃σ,out= .nor σ)→ok=true
 |[],ok,t,out,h,hd,hn=>h
 |(k,b,u)::r,ok,t,out,h,hd,hn=>by
  cases b
  ·simp only[a52,Bool.or_false]at h;simp only[m5,cond_false]at hd;exact UU h hd hn
  ·simp only[m5,cond_true,Option.some.injEq]at hd;obtain⟨σ,rfl⟩:=hn;cases k<;>simp[Ex.out]at hd
theorem FO: ∀{l:List (Ex×Bool×Tr)}{n:Option Tr}{out:Out},m5 l n=some out→(∃k σ,out=Ex.out k σ∧ ∀l' m,m5 (l++l') m=some out)∨(∃t,n=some t∧out= .nor t.st∧ ∀l' m,m5 (l++l') m=m5 l' m)
 |[],none,out,h=>by simp[m5]at h
 |[],some t,out,h=>by
  simp only[m5,Option.some.injEq]at h;exact .inr ⟨t,rfl,h.symm,fun _ _=>rfl⟩
 |(k,b,t)::r,n,out,h=>by
  cases b
  ·simp only[m5,cond_false]at h;simp only[List.cons_append,m5,cond_false];exact FO h
  ·simp only[m5,cond_true,Option.some.injEq]at h;subst h;exact .inl ⟨k,t.st,rfl,fun l' m=>by simp[m5]⟩
theorem MH{r:O×Bool}{f:St→Option (O×Bool)}{g:St→Option Out}(hf:O8 f g){o:O}(h:EK r f=some (o,true)){out0 out:Out}(hd:r.2=true→r.1.den=some out0∧LeOut out0 out):
  ∃out0' out',o.den=some out0'∧(match out with| .nor σ=>g σ|o=>some o)=some out'∧LeOut out0' out':=by
 unfold EK at h;split at h
 ·rename_i hn;obtain⟨rfl,hr⟩:r.1=o∧r.2=true:=by
   have:=Option.some.inj h;rw[this];exact⟨rfl,rfl⟩
  obtain⟨hden,hl⟩:=hd hr;refine⟨out0,out,hden,?_,hl⟩;unfold O.den at hden;cases hl with
  |nor hl=>
   rcases FO hden with⟨k,σ,e,-⟩|⟨t,e,-⟩
   ·cases k<;>simp[Ex.out]at e
   ·rw[hn]at e;simp at e
  |brk hl=>rfl
  |ret hl=>rfl
 ·rename_i t hn;simp only[Option.bind_eq_some_iff,Option.some.injEq,Prod.mk.injEq,Bool.and_eq_true]at h;obtain⟨r2,h2,rfl,k1,k2⟩:=h;obtain⟨hden,hl⟩:=hd k1;unfold O.den at hden;rcases FO hden with⟨k,σ,rfl,e⟩|⟨t',e1,rfl,e2⟩
  ·refine⟨Ex.out k σ,out,e _ _,?_,hl⟩;cases k<;>cases hl<;>rfl
  ·rw[hn]at e1 hden;obtain rfl:=Option.some.inj e1;cases hl with
   |nor hl=>
    have hok:=UU k2 hden ⟨_,rfl⟩;obtain⟨o0,o1,a1,a2,a3⟩:=FN hf (t:=t) (o:=r2.1) (by rw[h2,←hok]) hl
    exact⟨o0,o1,by unfold O.den;rw[e2];exact a1,a2,a3⟩
end Go.Zq

namespace Go.Zq
open Option renaming bind_eq_some_iff → qB
open Option.some renaming injEq → qI
open Option.some renaming inj → qi
open Prod.mk renaming injEq → qP
open Go
theorem aVA{a:Option (List Nat)}{q:Bool}{σ0:St}:MgOk aU9 (Fr a q σ0) where
 le b σ1 σ2 σ _ _ h:=IB.le b σ1 σ2 σ trivial trivial h
 all b σ1 σ2 σ h1 h2 h:=by
  have hle:=IB.le b σ1 σ2 σ trivial trivial h;cases b
  ·exact⟨fun l hl n v hn hv=>h2.sl l hl n v hn (hle.sl n v hv),fun hq=>hle.hp.symm.trans (h2.hp hq)⟩
  ·exact⟨fun l hl n v hn hv=>h1.sl l hl n v hn (hle.sl n v hv),fun hq=>hle.hp.symm.trans (h1.hp hq)⟩
def unO(a b:Option (List Nat)):Option (List Nat):=
 match a,b with
 |some x,some y=>some (x++y)
 |_,_=>none
def FP:C→Option (List Nat)
 | .ops l _=>some (l.flatMap fun g=>g.2.dsts)
 | .seq x y=>unO (FP x) (FP y)
 | .cond _ x y=>unO (FP x) (FP y)
 | .blk _ x=>FP x
 | .loop _ _=>none
 | .drw (l::_) _ false=>some (l.flatMap fun g=>g.2.dsts)
 | .drw _ _ _=>none
 |_=>some []
def qM:C→Bool
 | .ops l _=>l.all fun g=>qK g.2
 | .seq x y=>qM x&&qM y
 | .cond _ x y=>qM x&&qM y
 | .blk _ x=>qM x
 | .loop _ _=>false
 | .drw .. =>false
 |_=>true
theorem Fr.rfl{a:Option (List Nat)}{q:Bool}{σ:St}:Fr a q σ σ:=⟨fun _ _ _ _ _ h=>h,fun _=>Eq.refl _⟩
theorem Fr.left{a b:Option (List Nat)}{q r:Bool}{σ τ:St}(h:Fr a q σ τ):Fr (unO a b) (q&&r) σ τ:=⟨fun l hl n v hn hv=>by
 unfold unO at hl;split at hl
 ·obtain rfl:=qi hl;simp only[List.mem_append,not_or]at hn;exact h.sl _ (Eq.refl _) n v hn.1 hv
 ·simp at hl,fun hq=>h.hp (by simp at hq;exact hq.1)⟩
theorem Fr.right{a b:Option (List Nat)}{q r:Bool}{σ τ:St}(h:Fr b r σ τ):Fr (unO a b) (q&&r) σ τ:=⟨fun l hl n v hn hv=>by
 unfold unO at hl;split at hl
 ·obtain rfl:=qi hl;simp only[List.mem_append,not_or]at hn;exact h.sl _ (Eq.refl _) n v hn.2 hv
 ·simp at hl,fun hq=>h.hp (by simp at hq;exact hq.2)⟩
theorem Fr.trans{a b:Option (List Nat)}{q r:Bool}{σ τ ω:St}(h:Fr a q σ τ)(k:Fr b r τ ω):Fr (unO a b) (q&&r) σ ω:=⟨fun l hl n v hn hv=>by
 unfold unO at hl;split at hl
 ·obtain rfl:=qi hl;simp only[List.mem_append,not_or]at hn;exact h.sl _ (Eq.refl _) n v hn.1 (k.sl _ (Eq.refl _) n v hn.2 hv)
 ·simp at hl,fun hq=>by
 simp only[Bool.and_eq_true]at hq;exact(k.hp hq.2).trans (h.hp hq.1)⟩
theorem O9{a:Option (List Nat)}{q:Bool}{σ0:St}{f:St→Option (O×Bool)}: ∀{t:Tr}{r:O×Bool},(∀σ r,f σ=some r→t.All (fun _=>True)→r.1.All (Fr a q σ))→aEF f t=some r→ ∀{a0:Option (List Nat)}{q0:Bool},t.All (Fr a0 q0 σ0)→r.1.All (Fr (unO a0 a) (q0&&q) σ0)
 | .leaf σ,r,hf,h,a0,q0,ht=>(hf σ r h trivial).mono fun τ hτ=>Fr.trans ht hτ
 | .br b x y,r,hf,h,a0,q0,ht=>by
   have htr: ∀t:Tr,t.All fun _=>True:=by
    intro t
    induction t with
    |leaf=>trivial
    |br b x y ihx ihy=>exact⟨ihx,ihy⟩
   simp only[aEF,qB,qI]at h;obtain⟨r1,h1,r2,h2,rfl⟩:=h;exact UT aVA (O9 (fun σ r h _=>hf σ r h (htr _)) h1 ht.1) (O9 (fun σ r h _=>hf σ r h (htr _)) h2 ht.2)
theorem aRF{a a0:Option (List Nat)}{q q0:Bool}{σ0:St}{f:St→Option (O×Bool)}{r r':O×Bool}(hf: ∀σ r,f σ=some r→r.1.All (Fr a q σ))(hr:r.1.All (Fr a0 q0 σ0))(h:EK r f=some r'):r'.1.All (Fr (unO a0 a) (q0&&q) σ0):=by
 unfold EK at h;split at h
 ·obtain rfl:=qi h;exact hr.mono fun _ h=>h.left
 ·rename_i t hn;simp only[qB,qI]at h;obtain⟨r2,h2,rfl⟩:=h;have h3:=O9 (fun σ r h _=>hf σ r h) h2 (hr.nor t hn)
  refine⟨fun e he=>?_,h3.nor⟩
  simp only[List.mem_append]at he;rcases he with he|he
  ·exact(hr.ex e he).mono fun _ h=>h.left
  ·exact h3.ex e he
def uY(mg:Bool→St→St→Option St)(id:Nat):List (Ex×Bool×Tr)→Option Tr→List (Ex×Bool×Tr)×Option Tr
 |[],n=>([],n)
 |(k,p,t)::r,n=>
  match k with
  | .ret=>let q:=uY mg id r n;((.ret,p,t)::q.1,q.2)
  | .brk j=>
    if j=id then let q:=uY mg id r n;(q.1.map (fun e=>(e.1,e.2.1&&!p,e.2.2)),H9 mg p (some t) q.2)
    else let q:=uY mg id r n;((.brk j,p,t)::q.1,q.2)
def xJ(id:Nat):Out→Out
 | .brk j σ=>if j=id then .nor σ else .brk j σ
 |o=>o
theorem J2{mg:Bool→St→St→Option St}{P:St→Prop}(hm:MgOk mg P){id:Nat}: ∀{l:List (Ex×Bool×Tr)}{n:Option Tr},(O.mk l n).All P→(O.mk (uY mg id l n).1 (uY mg id l n).2).All P
 |[],n,h=>h
 |(k,p,t)::r,n,h=>by
  have ih:=J2 hm (id:=id) (l:=r) (n:=n) ⟨fun e he=>h.ex e (List.mem_cons_of_mem _ he),h.nor⟩
  have ht:t.All P:=h.ex _ (List.mem_cons_self ..);unfold uY;split
  ·refine⟨fun e he=>?_,ih.nor⟩
   simp only[List.mem_cons]at he;rcases he with rfl|he
   ·exact ht
   ·exact ih.ex e he
  ·split
   ·refine⟨fun e he=>?_,fun u hu=>?_⟩
    ·obtain⟨e',he',rfl⟩:=List.mem_map.1 he;exact ih.ex e' he'
    ·simp only at hu;cases hn:(uY mg id r n).2 with
     |none=>rw[hn]at hu;obtain rfl:=qi hu;exact ht
     |some t2=>rw[hn]at hu;obtain rfl:=qi hu;exact O6 hm ht (ih.nor _ hn)
   ·refine⟨fun e he=>?_,ih.nor⟩
    simp only[List.mem_cons]at he;rcases he with rfl|he
    ·exact ht
    ·exact ih.ex e he
theorem UV{mg:Bool→St→St→Option St}{P:St→Prop}(hm:MgOk mg P){id:Nat}: ∀{l:List (Ex×Bool×Tr)}{n:Option Tr}{out:Out},(O.mk l n).All P→m5 l n=some out→ ∃out',m5 (uY mg id l n).1 (uY mg id l n).2=some out'∧LeOut out' (xJ id out)
 |[],none,out,h,hd=>by simp[m5]at hd
 |[],some t,out,h,hd=>by
  simp only[m5,qI]at hd;subst hd;exact⟨_,rfl, .refl⟩
 |(k,p,t)::r,n,out,h,hd=>by
  have hr:(O.mk r n).All P:=⟨fun e he=>h.ex e (List.mem_cons_of_mem _ he),h.nor⟩
  have ha:=J2 hm (id:=id) hr;have ht:t.All P:=h.ex _ (List.mem_cons_self ..);unfold uY;cases p
  ·simp only[m5,cond_false]at hd;obtain⟨out',i1,i2⟩:=UV hm (id:=id) hr hd;split
   ·exact⟨out',by simp only[m5,cond_false];exact i1,i2⟩
   ·split
    ·simp only;have:=O7 (l':=[]) (n':=H9 mg false (some t) (uY mg id r n).2) (f:=fun b=>b&&!false) (by simp) i1 (by simp) (fun u hu=>by
      rw[hu];exact⟨_,rfl,DT (b:=false) hm ht (ha.nor _ hu)⟩)
     rw[List.append_nil]at this;obtain⟨o2,j1,j2⟩:=this;exact⟨o2,j1,j2.trans i2⟩
    ·exact⟨out',by simp only[m5,cond_false];exact i1,i2⟩
  ·simp only[m5,cond_true,qI]at hd;subst hd;split
   ·exact⟨_,rfl, .refl⟩
   ·rename_i j;split
    ·rename_i e;subst e;simp only;have:=IA (l:=(uY mg j r n).1.map (fun e=>(e.1,e.2.1&&!true,e.2.2))) (l':=[]) (n:=H9 mg true (some t) (uY mg j r n).2) (by intro e he;obtain⟨e',-,rfl⟩:=List.mem_map.1 he;simp)
     rw[List.append_nil]at this;rw[this];simp only[Ex.out,xJ,if_true];cases hn:(uY mg j r n).2 with
     |none=>exact⟨_,rfl, .refl⟩
     |some t2=>exact⟨_,rfl, .nor (DT (b:=true) hm ht (ha.nor _ hn))⟩
    ·rename_i e;refine⟨.brk j t.st,rfl,?_⟩;simp only[Ex.out,xJ,e,if_false];exact .refl
def UW(nb:Nat)(live:List Nat)(f:St→Option (O×Bool)):Nat→St→Option (O×Bool)
 |0,_=>some (⟨[],none⟩,false)
 |n+1,σ=>(JZ true nb live σ).bind fun c=>(f c.1).bind fun r=>(EK r (UW nb live f n)).bind fun o=>some (o.1,c.2&&o.2)
def bL0(cl:List Nat):Opd→Bool
 | .t n=>cl.contains n
 | .c _=>true
abbrev Lq:=List Nat→St→Option (O×Bool)
def lqN:Lq:=fun _ _=>none
def fT(T:List Nat→C→Prop):C→Prop
 | .seq x y=>fT T x∧fT T y
 | .cond _ x y=>fT T x∧fT T y
 | .blk _ x=>fT T x
 | .loop live x=>T live x∧fT T x
 |_=>True
noncomputable def same{α:Type}(a b:α):Bool:= @decide (a=b) (Classical.propDecidable _)
theorem o6{α:Type}{a b:α}(h:same a b=true):a=b:=by
 unfold same at h;exact @of_decide_eq_true _ (Classical.propDecidable _) h
theorem DV{α:Type}(a:α):same a a=true:=by
 unfold same;exact @decide_eq_true _ (Classical.propDecidable _) rfl
noncomputable def PA(a b:List Row):Bool:=same a b
theorem aEG(a:List Row):PA a a=true:=DV a
noncomputable def eqV:Value→Value→Bool
 | .int k x, .int k' y=>decide (k=k')&&same x y
 | .bool x, .bool y=>same x y
 | .string x, .string y=>same x y
 |v,u=>same v u
theorem bEH{v u:Value}(h:eqV v u=true):v=u:=by
 unfold eqV at h;split at h
 ·obtain⟨h1,h2⟩:=bB h;rw[of_decide_eq_true h1,o6 h2]
 ·rw[o6 h]
 ·rw[o6 h]
 ·exact o6 h
noncomputable def eqT:T→T→Bool
 | .lit v, .lit u=>eqV v u
 | .ptr i r o, .ptr i' r' o'=>Nat.beq i i'&&(Nat.beq r r'&&Nat.beq o o')
 | .sl i o l, .sl i' o' l'=>Nat.beq i i'&&(Nat.beq o o'&&same l l')
 | .nls n, .nls m=>Nat.beq n m
 | .imm p n r, .imm p' n' r'=>same p p'&&(Nat.beq n n'&&PA r r')
 | .clo f c, .clo f' c'=>Nat.beq f f'&&same c c'
 |t,u=>same t u
theorem aVC{v u:T}(h:eqT v u=true):v=u:=by
 unfold eqT at h;split at h
 ·rw[bEH h]
 ·obtain⟨h1,h2⟩:=bB h;obtain⟨h2,h3⟩:=bB h2;rw[Nat.eq_of_beq_eq_true h1,Nat.eq_of_beq_eq_true h2,Nat.eq_of_beq_eq_true h3]
 ·obtain⟨h1,h2⟩:=bB h;obtain⟨h2,h3⟩:=bB h2;rw[Nat.eq_of_beq_eq_true h1,Nat.eq_of_beq_eq_true h2,o6 h3]
 ·rw[Nat.eq_of_beq_eq_true h]
 ·obtain⟨h1,h2⟩:=bB h;obtain⟨h2,h3⟩:=bB h2;rw[o6 h1,Nat.eq_of_beq_eq_true h2,o6 h3]
 ·obtain⟨h1,h2⟩:=bB h;rw[Nat.eq_of_beq_eq_true h1,o6 h2]
 ·exact o6 h
noncomputable def aRG:Row→Row→Bool
 |[],[]=>true
 |t::r,u::s=>eqT t u&&aRG r s
 |_,_=>false
theorem WR: ∀{v u:Row},aRG v u=true→v=u
 |[],[],_=>rfl
 |t::r,u::s,h=>by
  obtain⟨h1,h2⟩:=bB h;rw[aVC h1,WR h2]
 |[],_::_,h=>by simp[aRG]at h
 |_::_,[],h=>by simp[aRG]at h
noncomputable def bEI:SV→SV→Bool
 | .und, .und=>true
 | .one t, .one u=>eqT t u
 | .agg t, .agg u=>aRG t u
 |v,u=>same v u
theorem a53{v u:SV}(h:bEI v u=true):v=u:=by
 unfold bEI at h;split at h
 ·rfl
 ·rw[aVC h]
 ·rw[WR h]
 ·exact o6 h
noncomputable def aVD:List (Nat×SV)→List (Nat×SV)→Bool
 |[],[]=>true
 |(n,v)::r,(m,u)::s=>Nat.beq n m&&(bEI v u&&aVD r s)
 |_,_=>false
theorem aKH: ∀{v u:List (Nat×SV)},aVD v u=true→v=u
 |[],[],_=>rfl
 |(n,v)::r,(m,u)::s,h=>by
  obtain⟨h1,h2⟩:=bB h;obtain⟨h2,h3⟩:=bB h2;rw[Nat.eq_of_beq_eq_true h1,a53 h2,aKH h3]
 |[],_::_,h=>by simp[aVD]at h
 |_::_,[],h=>by simp[aVD]at h
noncomputable def aVE:Blk→Blk→Bool
 | .dead, .dead=>true
 | .box t, .box u=>aRG t u
 | .lst n t, .lst m u=>Nat.beq n m&&PA t u
 |v,u=>same v u
theorem aVF{v u:Blk}(h:aVE v u=true):v=u:=by
 unfold aVE at h;split at h
 ·rfl
 ·rw[WR h]
 ·obtain⟨h1,h2⟩:=bB h;rw[Nat.eq_of_beq_eq_true h1,o6 h2]
 ·exact o6 h
noncomputable def aVG:List Blk→List Blk→Bool
 |[],[]=>true
 |t::r,u::s=>aVE t u&&aVG r s
 |_,_=>false
theorem aKI: ∀{v u:List Blk},aVG v u=true→v=u
 |[],[],_=>rfl
 |t::r,u::s,h=>by
  obtain⟨h1,h2⟩:=bB h;rw[aVF h1,aKI h2]
 |[],_::_,h=>by simp[aVG]at h
 |_::_,[],h=>by simp[aVG]at h
noncomputable def bL1(σ τ:St):Bool:=aVD σ.sl τ.sl&&aVG σ.hp τ.hp
theorem a54{σ τ:St}(h:bL1 σ τ=true):σ=τ:=by
 obtain⟨h1,h2⟩:=bB h;cases σ;cases τ;simp only at h1 h2;rw[aKH h1,aKI h2]
def a55(nb:Nat)(kp:List Nat)(cn:Bool)(σ:St):Option (St×Bool):=
 if cn=true then
  if kp.contains 999998=true then if((kp.filter (·!=999998)).all fun n=>(bC n σ.sl).isSome)=true then(V6 nb (trim (some (kp.filter (·!=999998))) σ)).bind fun c=>some (c,true)else none
  else JZ true nb kp σ
 else if(kp.all fun n=>(bC n σ.sl).isSome)=true then some (trim (some kp) σ,true)else none
theorem PB{σ σr:St}(hl:Le σ σr): ∀{kp:List Nat},(kp.all fun n=>(bC n σ.sl).isSome)=true→keep σr.sl kp=keep σ.sl kp∧(kp.all fun n=>(bC n σr.sl).isSome)=true
 |[],_=>⟨rfl,rfl⟩
 |n::r,h=>by
  simp only[List.all_cons,Bool.and_eq_true]at h;obtain⟨h1,h2⟩:=h;obtain⟨v,hv⟩:=Option.isSome_iff_exists.1 h1;have hr:=hl.sl n v hv;obtain⟨i1,i2⟩:=PB hl h2;constructor
  ·simp only[keep,hv,hr,i1]
  ·simp only[List.all_cons,hr,i2];rfl
noncomputable def IC(Q:Qt)(kd:List (Nat×List Kd))(nb:Nat)(kp:List Nat)(cn:Bool):List (List G)→St→Option (St×Bool)
 |[],_=>none
 |l::r,σ=>
  match(wX (2*l.length+2) none l).2 with
  |[]=>(evI Q kd (wX (2*l.length+2) none l).1 σ).bind fun x=>(a55 nb kp cn x.1).bind fun c=>match r with
   |[]=>some (c.1,x.2&&c.2)
   |_::_=>(IC Q kd nb kp cn r σ).bind fun c'=>some (c.1,(x.2&&c.2)&&(c'.2&&bL1 c'.1 c.1))
  |_::_=>none
noncomputable def JK(Q:Qt)(kd:List (Nat×List Kd))(cl:List Nat)(lq:Lq)(nb n:Nat):C→St→Option (O×Bool)
 | .drw ls kp cn,σ=>(IC Q kd nb kp cn ls σ).bind fun r=>some (⟨[],some (.leaf r.1)⟩,r.2)
 | .ops l kp,σ=>
   match(wX (2*l.length+2) none l).2 with
   |[]=>(evI Q kd (wX (2*l.length+2) none l).1 σ).bind fun r=>some (⟨[],some (.leaf (trim kp r.1))⟩,r.2)
   |_::_=>none
 | .seq x y,σ=>(JK Q kd cl lq nb n x σ).bind fun r=>EK r (JK Q kd cl lq nb n y)
 | .cond c x y,σ=>(σ.ev c).bind fun v=>(asBool v).bind fun b=>
   if bL0 cl c=true then match b with
    |true=>JK Q kd cl lq nb n x σ
    |false=>JK Q kd cl lq nb n y σ
   else(JK Q kd cl lq nb n x σ).bind fun r1=>(JK Q kd cl lq nb n y σ).bind fun r2=>
    some (MG (fun b=>wZ b (unO (FP x) (FP y)) (qM x&&qM y)) b r1.1 r2.1,(r1.2||!b)&&(r2.2||b))
 | .blk id x,σ=>(JK Q kd cl lq nb n x σ).bind fun r=>
   let q:=uY (fun b=>wZ b (FP x) (qM x)) id r.1.ex r.1.nor
   some (⟨q.1,q.2⟩,r.2)
 | .loop live x,σ=>match lq live σ with
   |some r=>some r
   |none=>UW nb live (JK Q kd cl lq nb n x) n σ
 | .brk id,σ=>some (⟨[(.brk id,true, .leaf σ)],none⟩,true)
 | .ret,σ=>some (⟨[(.ret,true, .leaf σ)],none⟩,true)
 | .skip,σ=>some (⟨[],some (.leaf σ)⟩,true)
theorem uZ{a:Option (List Nat)}{q:Bool}{σ0:St}:MgOk (fun b=>wZ b a q) (Fr a q σ0) where
 le b σ1 σ2 σ h1 h2 h:=O4 h h1 h2
 all b σ1 σ2 σ h1 h2 h:=aEE h h1
theorem w6{n:Nat}{v:SV}{sl:List (Nat×SV)}: ∀{l:List Nat},bC n (keep sl l)=some v→n∈l∧bC n sl=some v
 |[],h=>by simp[keep,bC]at h
 |m::r,h=>by
  unfold keep at h;split at h
  ·rename_i u hu;simp only[bC]at h;split at h
   ·rename_i e;subst e;obtain rfl:=qi h;exact⟨List.mem_cons_self ..,hu⟩
   ·have:=w6 h;exact⟨List.mem_cons_of_mem _ this.1,this.2⟩
  ·have:=w6 h;exact⟨List.mem_cons_of_mem _ this.1,this.2⟩
theorem PD{n:Nat}{v:SV}{sl:List (Nat×SV)}: ∀{l:List Nat},n∈l→bC n sl=some v→bC n (keep sl l)=some v
 |m::r,hm,h=>by
  unfold keep;by_cases e:m=n
  ·subst e;rw[h];simp[bC]
  ·have hr:n∈r:=by
    rcases List.mem_cons.1 hm with h|h
    ·exact absurd h.symm e
    ·exact h
   split
   ·simp only[bC,e,if_false];exact PD hr h
   ·exact PD hr h
theorem aKJ{kp:Option (List Nat)}{σ σr:St}(h:Le σ σr):Le (trim kp σ) (trim kp σr):=by
 cases kp with
 |none=>exact h
 |some l=>exact⟨fun n v hn=>by
   have:=w6 hn;exact PD this.1 (h.sl n v this.2),h.hp⟩
theorem aB7{kp:Option (List Nat)}{σ:St}{n:Nat}{v:SV}(h:bC n (trim kp σ).sl=some v):bC n σ.sl=some v:=by
 cases kp with
 |none=>exact h
 |some l=>exact(w6 h).2
theorem a56{kp:Option (List Nat)}{σ:St}:(trim kp σ).hp=σ.hp:=by cases kp<;>rfl
theorem yQ{n:Nat}: ∀{its:Its}{g:Option (Nat×Bool)},(∀x∈its.flat g,n∉x.2.dsts)→n∉its.dsts
 | .nil,g,h=>by simp[Its.dsts]
 | .op k r,g,h=>by
   simp only[Its.flat,List.mem_cons,forall_eq_or_imp]at h;simp only[Its.dsts,List.mem_append,not_or];exact⟨h.1,yQ h.2⟩
 | .iff s w its d a b r,g,h=>by
   simp only[Its.flat,List.mem_append,List.mem_cons]at h;simp only[Its.dsts,List.mem_append,List.mem_cons,not_or];refine⟨yQ fun x hx=>h x (.inl hx),?_,yQ fun x hx=>h x (.inr (.inr hx))⟩
   have:=h _ (.inr (.inl rfl));simpa [K.dsts,K.dst]using this
theorem zW: ∀{its:Its}{g:Option (Nat×Bool)},(∀x∈its.flat g,qK x.2=true)→its.quiet=true
 | .nil,g,h=>rfl
 | .op k r,g,h=>by
   simp only[Its.flat,List.mem_cons,forall_eq_or_imp]at h;simp only[Its.quiet,Bool.and_eq_true];exact⟨h.1,zW h.2⟩
 | .iff s w its d a b r,g,h=>by
   simp only[Its.flat,List.mem_append,List.mem_cons]at h;simp only[Its.quiet,Bool.and_eq_true];exact⟨zW fun x hx=>h x (.inl hx),zW fun x hx=>h x (.inr (.inr hx))⟩
theorem yR{n:Nat}{l:List G}(h:(wX n none l).2=[]):(wX n none l).1.flat none=l:=by
 have:=zU n none l
 rwa [h,List.append_nil]at this
theorem aB8{Q:Qt}{kd:List (Nat×List Kd)}{nb:Nat}{kp:List Nat}{l:List G}{r:List (List G)}{σ:St}{c:St×Bool}(h:IC Q kd nb kp false (l::r) σ=some c)(n:Nat)(v:SV)(hn:n∉l.flatMap fun g=>g.2.dsts)(hv:bC n c.1.sl=some v):
  bC n σ.sl=some v:=by
 unfold IC at h;split at h
 ·rename_i hp;simp only[qB]at h;obtain⟨i,hi,x,hx,h⟩:=h;have hc:c.1=x.1:=by
   split at h
   ·obtain rfl:=qi h;rfl
   ·simp only[qB,qI]at h;obtain⟨_,_,rfl⟩:=h;rfl
  rw[hc]at hv;unfold a55 at hx;rw[if_neg (by simp)]at hx
  obtain⟨-,hx1⟩:=bQ hx;obtain rfl:=qi hx1;have hf:=yR hp;refine DQ hi n v (yQ (g:=none) fun x hx=>?_) (aB7 hv)
  rw[hf]at hx;exact fun e=>hn (List.mem_flatMap.2 ⟨x,hx,e⟩)
 ·simp at h
theorem sH{Q:Qt}{kd:List (Nat×List Kd)}{cl:List Nat}{lq:Lq}{nb n:Nat}: ∀{c:C}{σ:St}{r:O×Bool},JK Q kd cl lq nb n c σ=some r→r.1.All (Fr (FP c) (qM c) σ)
 | .drw ls kp cn,σ,r,h=>by
   simp only[JK,qB,qI]at h;obtain⟨c,hc,rfl⟩:=h;refine⟨by simp,fun t ht=>?_⟩
   obtain rfl:=qi ht;refine⟨fun l' hl' m v hm hv=>?_,fun hq=>by simp[qM]at hq⟩
   cases ls with
   |nil=>simp[IC]at hc
   |cons l ls=>
    cases cn with
    |true=>simp[FP]at hl'
    |false=>
     simp only[FP,qI]at hl';subst hl';exact aB8 hc m v hm hv
 | .ops l kp,σ,r,h=>by
   unfold JK at h;split at h
   ·rename_i hp;simp only[qB,qI]at h;obtain⟨i,hi,rfl⟩:=h;have hf:=yR hp;refine⟨by simp,fun t ht=>?_⟩
    obtain rfl:=qi ht;refine⟨fun l' hl' m v hm hv=>?_,fun hq=>?_⟩
    ·simp only[FP,qI]at hl';subst hl';refine DQ hi m v (yQ (g:=none) fun x hx=>?_) (aB7 hv)
     rw[hf]at hx;exact fun e=>hm (List.mem_flatMap.2 ⟨x,hx,e⟩)
    ·rw[a56];refine DR (zW (g:=none) fun x hx=>?_) hi
     rw[hf]at hx;simp only[qM,List.all_eq_true]at hq;exact hq x hx
   ·simp at h
 | .seq x y,σ,r,h=>by
   simp only[JK,qB]at h;obtain⟨r1,h1,h2⟩:=h;exact aRF (fun σ r h=>sH h) (sH h1) h2
 | .cond c x y,σ,r,h=>by
   simp only[JK,qB]at h;obtain⟨v,hv,b,hb,h⟩:=h;split at h
   ·split at h
    ·exact(sH h).mono fun _ h=>h.left
    ·exact(sH h).mono fun _ h=>h.right
   ·simp only[qB,qI]at h;obtain⟨r1,h1,r2,h2,rfl⟩:=h;exact UT uZ ((sH h1).mono fun _ h=>h.left) ((sH h2).mono fun _ h=>h.right)
 | .blk id x,σ,r,h=>by
   simp only[JK,qB,qI]at h;obtain⟨r1,h1,rfl⟩:=h;have h2:=J2 (uZ (a:=FP x) (q:=qM x)) (id:=id) (sH (c:=x) h1);exact h2
 | .loop live x,σ,r,h=>by
   have htr: ∀t:Tr,t.All (Fr none false σ):=by
    intro t
    induction t with
    |leaf=>exact⟨by simp,by simp⟩
    |br b x y ihx ihy=>exact⟨ihx,ihy⟩
   exact⟨fun e _=>htr _,fun t _=>htr t⟩
 | .brk id,σ,r,h=>by
   simp only[JK,qI]at h;subst h;exact⟨fun e he=>by simp only[List.mem_singleton]at he;subst he;exact Fr.rfl,by simp⟩
 | .ret,σ,r,h=>by
   simp only[JK,qI]at h;subst h;exact⟨fun e he=>by simp only[List.mem_singleton]at he;subst he;exact Fr.rfl,by simp⟩
 | .skip,σ,r,h=>by
   simp only[JK,qI]at h;subst h;exact⟨by simp,fun t ht=>by obtain rfl:=qi ht;exact Fr.rfl⟩
theorem BP{nb:Nat}{live:List Nat}{σ σr σ':St}(h:canon nb live σ=some σ')(hl:Le σ σr):canon nb live σr=some σ':=by
 have h0: ∃src m,∃r,kX σ src m live=some r:=by
  unfold canon at h;simp only at h;split at h
  ·simp only[qB]at h;obtain⟨x,hx,s,hs,h⟩:=h;exact⟨_,_,_,hs⟩
  ·simp at h
 have hlook: ∀s∈live,bC s σr.sl=bC s σ.sl:=by
  obtain⟨src,m,r,h0⟩:=h0
  clear h
  induction live generalizing m r with
  |nil=>simp
  |cons s t ih=>
   simp only[kX,qB]at h0;obtain⟨v,hv,h0⟩:=h0;intro s' hs';rcases List.mem_cons.1 hs' with rfl|hs'
   ·rw[hv,hl.sl _ _ hv]
   ·split at h0
    ·simp only[qB]at h0;obtain⟨x,hx,l,h0,-⟩:=h0;exact ih _ _ h0 _ hs'
    ·simp only[qB]at h0;obtain⟨x,hx,l,h0,-⟩:=h0;exact ih _ _ h0 _ hs'
    ·simp only[qB]at h0;obtain⟨l,h0,-⟩:=h0;exact ih _ _ h0 _ hs'
    ·simp at h0
 have hc: ∀live,(∀s∈live,bC s σr.sl=bC s σ.sl)→nH σr live=nH σ live:=by
  intro live
  induction live with
  |nil=>intro _;rfl
  |cons s t ih=>
   intro h;have:=ih fun s' hs'=>h s' (List.mem_cons_of_mem _ hs')
   unfold nH at*;rw[List.flatMap_cons,List.flatMap_cons,this,h s (List.mem_cons_self ..)]
 have hs: ∀live src m,(∀s∈live,bC s σr.sl=bC s σ.sl)→kX σr src m live=kX σ src m live:=by
  intro live
  induction live with
  |nil=>intro _ _ _;rfl
  |cons s t ih=>
   intro src m h;have:=fun m=>ih src m fun s' hs'=>h s' (List.mem_cons_of_mem _ hs')
   unfold kX;rw[h s (List.mem_cons_self ..)];simp only[this]
 rw[←h];unfold canon;simp only[hc live hlook,hl.hp,hs live _ _ hlook]
theorem MI{nb:Nat}{live:List Nat}{f:St→Option (O×Bool)}{g:St→Option Out}(hf:O8 f g): ∀n,O8 (UW nb live f n) (zG nb live g n)
 |0=>fun σ σr o h hl=>by simp[UW]at h
 |n+1=>fun σ σr o h hl=>by
  simp only[UW,qB,qI,qP]at h;obtain⟨σ1,h1,r,hr,o2,h2,rfl,ho⟩:=h;obtain⟨ok1,ok2⟩:=bB ho;have hc:=BP (DM (σ':=σ1.1) (by rw[h1,←ok1])) hl
  have h2':EK r (UW nb live f n)=some (o2.1,true):=by rw[h2,←ok2]
  simp only[zG,hc,Option.bind_some];have hr2:r.2=true:=by
   unfold EK at h2';split at h2'
   ·rw[qi h2']
   ·simp only[qB,qI,qP,Bool.and_eq_true]at h2';obtain⟨_,_,_,h,_⟩:=h2';exact h
  obtain⟨out0,out,a1,a2,a3⟩:=hf σ1.1 σ1.1 r.1 (by rw[hr,←hr2]) .rfl
  obtain⟨o0,o1,b1,b2,b3⟩:=MH (MI hf n) h2' (fun _=>⟨a1,a3⟩)
  refine⟨o0,o1,b1,?_,b3⟩;rw[a2,Option.bind_some,←b2];cases out<;>rfl
theorem aVH{r r':O×Bool}{f:St→Option (O×Bool)}(h:EK r f=some r')(hr:r'.2=true):r.2=true:=by
 unfold EK at h;split at h
 ·rw[qi h,hr]
 ·simp only[qB,qI]at h;obtain⟨_,_,h⟩:=h;subst h;simp only[Bool.and_eq_true]at hr;exact hr.1
theorem aKK{nb:Nat}{kp:List Nat}{cn:Bool}{σ σr c:St}(h:a55 nb kp cn σ=some (c,true))(hl:Le σ σr):AU nb kp cn σr=some c:=by
 unfold a55 at h;unfold AU;split at h
 ·rename_i e;rw[if_pos e];split at h
  ·rename_i e1;rw[if_pos e1];obtain⟨h1,h2⟩:=bQ h;obtain⟨k1,k2⟩:=PB hl h1;rw[if_pos k2];simp only[qB,qI,qP,and_true]at h2;obtain⟨c',hc,rfl⟩:=h2;rw[←hc];simp only[trim,k1,hl.hp]
  ·rename_i e1;rw[if_neg e1];exact BP (DM h) hl
 ·rename_i e;rw[if_neg e];obtain⟨h1,h2⟩:=bQ h;obtain⟨k1,k2⟩:=PB hl h1;rw[if_pos k2];simp only[qI,qP,and_true]at h2;rw[←h2];simp only[trim,k1,hl.hp]
theorem BQ{R:Rt}{Q:Qt}(hQ:UM (dL R) Q){kd:List (Nat×List Kd)}{nb:Nat}{kp:List Nat}{cn:Bool}{σ σr:St}(hl:Le σ σr): ∀{ls:List (List G)}{c:St},IC Q kd nb kp cn ls σ=some (c,true)→oC R nb kp cn ls σr=some c
 |[],c,h=>by simp[IC]at h
 |l::r,c,h=>by
  unfold IC at h;split at h
  case h_2=>simp at h
  rename_i hp;simp only[qB]at h;obtain⟨i,hi,x,hx,h⟩:=h;have run:i.2=true→ ∃τ,dO R l σr=some τ∧Le i.1 τ:=fun ho=>by
   obtain⟨τ,h1,h2⟩:=DS hQ (g:=none) (by rw[hi,←ho]) hl (fun s w e=>by simp at e) (fun s w e=>by simp at e)
   rw[yR hp]at h1;exact⟨τ,h1,h2⟩
  cases r with
  |nil=>
   simp only[qI,qP]at h;obtain⟨rfl,ho⟩:=h;obtain⟨o1,o2⟩:=bB ho;obtain⟨τ,h1,h2⟩:=run o1;simp only[oC,h1,Option.bind_some];rw[aKK (c:=x.1) (by rw[hx,←o2]) h2]
   rfl
  |cons m r=>
   simp only[qB,qI,qP]at h;obtain⟨c',hc',rfl,ho⟩:=h;obtain⟨o1,o2⟩:=bB ho;obtain⟨o1,o3⟩:=bB o1;obtain⟨o2,o4⟩:=bB o2;obtain⟨τ,h1,h2⟩:=run o1;have h3:=BQ hQ hl (ls:=m::r) (c:=c'.1) (by rw[hc',←o2])
   unfold oC;rw[h1,Option.bind_some,aKK (c:=x.1) (by rw[hx,←o3]) h2,Option.bind_some]
   simp only;rw[h3,Option.bind_some,if_pos (a54 o4)]
theorem nM{R:Rt}{Q:Qt}(hQ:UM (dL R) Q){kd:List (Nat×List Kd)}{cl:List Nat}{lq:Lq}{nb n:Nat}: ∀{c:C},fT (fun live x=>O8 (lq live) (fV R nb n (.loop live x))) c→O8 (JK Q kd cl lq nb n c) (fV R nb n c)
 | .drw ls kp cn,hL=>fun σ σr o h hl=>by
   simp only[JK,qB,qI,qP]at h;obtain⟨c,hc,rfl,ho⟩:=h;have:=BQ hQ hl (c:=c.1) (by rw[hc,←ho])
   exact⟨.nor c.1, .nor c.1,rfl,by simp[fV,this], .nor .rfl⟩
 | .ops l kp,hL=>fun σ σr o h hl=>by
   unfold JK at h;split at h
   ·rename_i hp;simp only[qB,qI,qP]at h;obtain⟨i,hi,rfl,ho⟩:=h;obtain⟨τ,h1,h2⟩:=DS hQ (g:=none) (by rw[hi,←ho]) hl (fun s w e=>by simp at e) (fun s w e=>by simp at e)
    rw[yR hp]at h1;exact⟨.nor (trim kp i.1), .nor (trim kp τ),rfl,by simp[fV,h1], .nor (aKJ h2)⟩
   ·simp at h
 | .seq x y,hL=>fun σ σr o h hl=>by
   simp only[JK,qB]at h;obtain⟨r,hr,h⟩:=h;obtain⟨out0,out,a1,a2,a3⟩:=nM hQ (c:=x) hL.1 σ σr r.1 (by rw[hr,←aVH h rfl]) hl
   obtain⟨o0,o1,b1,b2,b3⟩:=MH (nM hQ (c:=y) hL.2) h (fun _=>⟨a1,a3⟩)
   refine⟨o0,o1,b1,?_,b3⟩;rw[fV,a2,Option.bind_some,←b2];cases out<;>rfl
 | .cond c x y,hL=>fun σ σr o h hl=>by
   simp only[JK,qB]at h;obtain⟨v,hv,b,hb,h⟩:=h;have hv':=hl.ev _ _ hv;simp only[fV,hv',hb,Option.bind_some];split at h
   ·split at h
    ·simp only[if_true];exact nM hQ (c:=x) hL.1 σ σr o h hl
    ·simp only[Bool.false_eq_true,if_false];exact nM hQ (c:=y) hL.2 σ σr o h hl
   ·simp only[qB,qI,qP,Bool.and_eq_true,Bool.or_eq_true]at h;obtain⟨r1,h1,r2,h2,rfl,k1,k2⟩:=h;have f1:=(sH h1).mono fun _ h=>Fr.left (b:=FP y) (r:=qM y) h
    have f2:=(sH h2).mono fun _ h=>Fr.right (a:=FP x) (q:=qM x) h
    cases b
    ·have k:r2.2=true:=by simpa using k2
     obtain⟨out0,out,a1,a2,a3⟩:=nM hQ (c:=y) hL.2 σ σr r2.1 (by rw[h2,←k]) hl
     obtain⟨out',b1,b2⟩:=DU (b:=false) (o1:=r1.1) uZ f1 f2 a1;exact⟨out',out,b1,by simpa using a2,b2.trans a3⟩
    ·have k:r1.2=true:=by simpa using k1
     obtain⟨out0,out,a1,a2,a3⟩:=nM hQ (c:=x) hL.1 σ σr r1.1 (by rw[h1,←k]) hl
     obtain⟨out',b1,b2⟩:=DU (b:=true) (o2:=r2.1) uZ f1 f2 a1;exact⟨out',out,b1,by simpa using a2,b2.trans a3⟩
 | .blk id x,hL=>fun σ σr o h hl=>by
   simp only[JK,qB,qI,qP]at h;obtain⟨r,hr,rfl,ho⟩:=h;obtain⟨out0,out,a1,a2,a3⟩:=nM hQ (c:=x) hL σ σr r.1 (by rw[hr,←ho]) hl
   obtain⟨out',b1,b2⟩:=UV (id:=id) uZ (sH hr) a1;refine⟨out',xJ id out,b1,?_,b2.trans ?_⟩
   ·rw[fV,a2,Option.bind_some];cases out with
    |nor σ=>rfl
    |ret σ=>rfl
    |brk j σ=>
     simp only[xJ];split<;>rfl
   ·cases a3 with
    |nor h=>exact .nor h
    |ret h=>exact .ret h
    |brk h=>
     simp only[xJ];split
     ·exact .nor h
     ·exact .brk h
 | .loop live x,hL=>fun σ σr o h hl=>by
   simp only[JK]at h;split at h
   ·rename_i r hr;rw[h]at hr;exact hL.1 σ σr o hr hl
   ·rw[fV];exact MI (nM hQ (c:=x) hL.2) n σ σr o h hl
 | .brk id,hL=>fun σ σr o h hl=>by
   simp only[JK,qI,qP]at h;obtain⟨rfl,-⟩:=h;exact⟨.brk id σ, .brk id σr,rfl,rfl, .brk hl⟩
 | .ret,hL=>fun σ σr o h hl=>by
   simp only[JK,qI,qP]at h;obtain⟨rfl,-⟩:=h;exact⟨.ret σ, .ret σr,rfl,rfl, .ret hl⟩
 | .skip,hL=>fun σ σr o h hl=>by
   simp only[JK,qI,qP]at h;obtain⟨rfl,-⟩:=h;exact⟨.nor σ, .nor σr,rfl,rfl, .nor hl⟩
def aKL(res:List Rv)(nb:Nat)(σ:St):Option (SV×List Blk):=(eH σ res).bind fun vs=>leave nb σ vs
theorem zX{σ σr:St}(hl:Le σ σr): ∀{res:List Rv}{vs:List SV},eH σ res=some vs→eH σr res=some vs
 |[],vs,h=>h
 | .tmp n::r,vs,h=>by
   simp only[eH,qB]at h⊢;obtain⟨v,hv,us,hu,h⟩:=h;exact⟨v,hl.sl _ _ hv,us,zX hl hu,h⟩
 | .cell n k::r,vs,h=>by
   simp only[eH,qB]at h⊢;obtain⟨v,hv,t,ht,cs,hc,u,hu,us,hus,h⟩:=h;exact⟨v,hl.sl _ _ hv,t,ht,cs,by rw[hl.hp];exact hc,u,hu,us,zX hl hus,h⟩
theorem aVI{res:List Rv}{nb:Nat}{σ σr:St}(hl:Le σ σr){r:SV×List Blk}(h:aKL res nb σ=some r):aKL res nb σr=some r:=by
 simp only[aKL,qB]at h⊢;obtain⟨vs,hv,h⟩:=h;refine⟨vs,zX hl hv,?_⟩;unfold leave at h⊢;rw[hl.hp];exact h
def aT(f:FuncId)(q:List SV→List Blk→Option ((SV×List Blk)×Bool))(Q:Qt):Qt:=fun g args hp=>if g=f then match q args hp with|some r=>some r|none=>Q g args hp else Q g args hp
theorem aC{R:Rt}{f:FuncId}{q:List SV→List Blk→Option ((SV×List Blk)×Bool)}{Q:Qt}(h: ∀args hp r,q args hp=some (r,true)→R f args hp=some r)(hQ:UM R Q):UM R (aT f q Q):=fun g args hp r hg=>by
 unfold aT at hg;split at hg
 ·rename_i e;subst e;split at hg
  ·rename_i r' hr;obtain rfl:=qi hg;exact h _ _ _ hr
  ·exact hQ _ _ _ _ hg
 ·exact hQ _ _ _ _ hg
def qnil:Qt:=fun _ _ _=>none
theorem aKM{R:Rt}:UM R qnil:=fun _ _ _ _ h=>by simp[qnil]at h
end Go.Zq

namespace Go.Zq
open Option renaming bind_eq_some_iff → qB
open Option.some renaming injEq → qI
open Option.some renaming inj → qi
open Go
inductive Pt(α:Type) where
 |leaf (a:α)
 |br (b:Bool) (x y:Pt α)
 |ok (b:Bool) (x:Pt α)
def Pt.val{α:Type}:Pt α→α
 | .leaf a=>a
 | .br b x y=>bif b then x.val else y.val
 | .ok _ x=>x.val
def Pt.okv{α:Type}:Pt α→Bool
 | .leaf _=>true
 | .br b x y=>bif b then x.okv else y.okv
 | .ok b x=>b&&x.okv
def Pt.map{α β:Type}(f:α→β):Pt α→Pt β
 | .leaf a=> .leaf (f a)
 | .br b x y=> .br b (x.map f) (y.map f)
 | .ok b x=> .ok b (x.map f)
def Pt.bindO{α β:Type}(f:α→Option (Pt β)):Pt α→Option (Pt β)
 | .leaf a=>f a
 | .br b x y=>(x.bindO f).bind fun x=>(y.bindO f).bind fun y=>some (.br b x y)
 | .ok b x=>(x.bindO f).bind fun x=>some (.ok b x)
theorem Pt.val_map{α β:Type}(f:α→β): ∀t:Pt α,(t.map f).val=f t.val
 | .leaf a=>rfl
 | .br b x y=>by
   simp only[Pt.map,Pt.val,Pt.val_map f x,Pt.val_map f y];cases b<;>rfl
 | .ok b x=>Pt.val_map f x
theorem Pt.okv_map{α β:Type}(f:α→β): ∀t:Pt α,(t.map f).okv=t.okv
 | .leaf a=>rfl
 | .br b x y=>by simp only[Pt.map,Pt.okv,Pt.okv_map f x,Pt.okv_map f y]
 | .ok b x=>by simp only[Pt.map,Pt.okv,Pt.okv_map f x]
theorem Pt.bindO_val{α β:Type}{f:α→Option (Pt β)}: ∀{t:Pt α}{u:Pt β},t.bindO f=some u→u.okv=true→t.okv=true∧ ∃w,f t.val=some w∧w.okv=true∧u.val=w.val
 | .leaf a,u,h,ho=>⟨rfl,u,h,ho,rfl⟩
 | .br b x y,u,h,ho=>by
   simp only[Pt.bindO,qB,qI]at h;obtain⟨x',hx,y',hy,rfl⟩:=h;cases b
   ·have:=Pt.bindO_val (t:=y) (u:=y') hy ho;exact this
   ·have:=Pt.bindO_val (t:=x) (u:=x') hx ho;exact this
 | .ok b x,u,h,ho=>by
   simp only[Pt.bindO,qB,qI]at h;obtain⟨x',hx,rfl⟩:=h;obtain⟨h1,h2⟩:=bB ho;obtain⟨k1,k2⟩:=Pt.bindO_val (t:=x) hx h2;exact⟨by simp only[Pt.okv,h1,k1];rfl,k2⟩
def cS(f:St→Option (Pt Out))(g:St→Option Out):Prop:= ∀σ σr t,f σ=some t→t.okv=true→Le σ σr→ ∃out,g σr=some out∧LeOut t.val out
def trP:Tr→Pt Out
 | .leaf σ=> .leaf (.nor σ)
 | .br b x y=> .br b (trP x) (trP y)
theorem WS: ∀t:Tr,(trP t).val= .nor t.st∧(trP t).okv=true
 | .leaf σ=>⟨rfl,rfl⟩
 | .br b x y=>by
   cases b
   ·exact WS y
   ·exact WS x
def m6:C→Nat
 | .ops ((_,k)::_) _=>k.dst.getD 0
 | .ops [] _=>0
 | .drw (((_,k)::_)::_) _ _=>k.dst.getD 0
 | .drw _ _ _=>0
 | .seq x _=>m6 x
 | .cond (.t n) _ _=>n
 | .cond (.c _) x _=>m6 x
 | .blk _ x=>m6 x
 | .loop _ x=>m6 x
 |_=>0
abbrev Lp:=List (Nat×(St→Option (Pt Out)))
def oQ:Lp→Nat→St→Option (Pt Out)
 |[],_,_=>none
 |(m,f)::r,n,σ=>if m=n then f σ else oQ r n σ
def aEH(hp:List Blk):T→T×Bool
 | .sl id off len=>match hp[id]? with
   |some (.lst _ rows)=>(.sl id off rows.length,decide (len=rows.length))
   |_=>(.sl id off len,true)
 |t=>(t,true)
theorem aKN{hp:List Blk}{t:T}(h:(aEH hp t).2=true):(aEH hp t).1=t:=by
 unfold aEH at h⊢;split at h
 ·split at h
  ·rename_i hb;simp only[hb];rw[of_decide_eq_true h]
  ·rfl
 ·rfl
def zY(hp:List Blk):Row→Row×Bool
 |[]=>([],true)
 |t::r=>((aEH hp t).1::(zY hp r).1,(aEH hp t).2&&(zY hp r).2)
theorem J3{hp:List Blk}: ∀{t:Row},(zY hp t).2=true→(zY hp t).1=t
 |[],_=>rfl
 |t::r,h=>by
  obtain⟨h1,h2⟩:=bB h;simp only[zY,aKN h1,J3 h2]
def ID(hp:List Blk):SV→SV×Bool
 | .one t=>(.one (aEH hp t).1,(aEH hp t).2)
 | .agg ts=>(.agg (zY hp ts).1,(zY hp ts).2)
 |v=>(v,true)
theorem IE{hp:List Blk}{v:SV}(h:(ID hp v).2=true):(ID hp v).1=v:=by
 cases v with
 |one t=>simp only[ID,aKN (t:=t) h]
 |agg ts=>simp only[ID,J3 (t:=ts) h]
 |und=>rfl
 |tup _=>rfl
def FQ(hp:List Blk):List SV→List SV×Bool
 |[]=>([],true)
 |t::r=>((ID hp t).1::(FQ hp r).1,(ID hp t).2&&(FQ hp r).2)
theorem UX{hp:List Blk}: ∀{t:List SV},(FQ hp t).2=true→(FQ hp t).1=t
 |[],_=>rfl
 |t::r,h=>by
  obtain⟨h1,h2⟩:=bB h;simp only[FQ,IE h1,UX h2]
def aB9(hp:List Blk):SV→SV×Bool
 | .tup vs=>(.tup (FQ hp vs).1,(FQ hp vs).2)
 |v=>ID hp v
theorem aVJ{hp:List Blk}{v:SV}(h:(aB9 hp v).2=true):(aB9 hp v).1=v:=by
 cases v with
 |tup vs=>simp only[aB9,UX (t:=vs) h]
 |one t=>exact IE (v:= .one t) h
 |agg ts=>exact IE (v:= .agg ts) h
 |und=>rfl
def nN(hp:List Blk):List Blk→List Blk×Bool
 |[]=>([],true)
 | .box cs::r=>(.box (zY hp cs).1::(nN hp r).1,(zY hp cs).2&&(nN hp r).2)
 |b::r=>(b::(nN hp r).1,(nN hp r).2)
theorem vA{hp:List Blk}: ∀{l:List Blk},(nN hp l).2=true→(nN hp l).1=l
 |[],_=>rfl
 | .box cs::r,h=>by
   obtain⟨h1,h2⟩:=bB h;simp only[nN,J3 h1,vA h2]
 | .dead::r,h=>by simp only[nN,vA (l:=r) h]
 | .lst n rows::r,h=>by simp only[nN,vA (l:=r) h]
def PE(hp:List Blk):List (Nat×SV)→List (Nat×SV)×Bool
 |[]=>([],true)
 |p::r=>((p.1,(ID hp p.2).1)::(PE hp r).1,(ID hp p.2).2&&(PE hp r).2)
theorem aCA{hp:List Blk}: ∀{l:List (Nat×SV)},(PE hp l).2=true→(PE hp l).1=l
 |[],_=>rfl
 |p::r,h=>by
  obtain⟨h1,h2⟩:=bB h;simp only[PE,IE h1,aCA h2]
def J4(wm nm:Bool)(nb:Nat)(σ:St)(vs:List SV):Option ((SV×List Blk)×Bool):=
 if nm=false then WM wm nb σ vs else(WM wm nb σ vs).bind fun r=>some (((aB9 r.1.2 r.1.1).1,(nN r.1.2 r.1.2).1),r.2&&((aB9 r.1.2 r.1.1).2&&(nN r.1.2 r.1.2).2))
theorem UY{wm nm:Bool}{nb:Nat}{σ:St}{vs:List SV}{r:SV×List Blk}(h:J4 wm nm nb σ vs=some (r,true)):leave nb σ vs=some r:=by
 unfold J4 at h;split at h
 ·exact UL h
 ·simp only[qB,qI,Prod.mk.injEq]at h;obtain⟨q,hq,rfl,ho⟩:=h;obtain⟨o1,o2⟩:=bB ho;obtain⟨o2,o3⟩:=bB o2;rw[aVJ o2,vA o3];exact UL (wm:=wm) (r:=q.1) (by rw[hq,←o1])
def PF(wm nm:Bool)(nb:Nat)(live:List Nat)(σ:St):Option (St×Bool):=
 if nm=false then JZ wm nb live σ else(JZ wm nb live σ).bind fun r=>some (⟨(PE r.1.hp r.1.sl).1,(nN r.1.hp r.1.hp).1⟩,r.2&&((PE r.1.hp r.1.sl).2&&(nN r.1.hp r.1.hp).2))
theorem J5{wm nm:Bool}{nb:Nat}{live:List Nat}{σ σ':St}(h:PF wm nm nb live σ=some (σ',true)):canon nb live σ=some σ':=by
 unfold PF at h;split at h
 ·exact DM h
 ·simp only[qB,qI,Prod.mk.injEq]at h;obtain⟨q,hq,rfl,ho⟩:=h;obtain⟨o1,o2⟩:=bB ho;obtain⟨o2,o3⟩:=bB o2;rw[aCA o2,vA o3];exact DM (wm:=wm) (σ':=q.1) (by rw[hq,←o1])
def lwm(kd:List (Nat×List Kd)):Bool:=(J0 1000000 kd).isNone
def lnm(kd:List (Nat×List Kd)):Bool:=(J0 1000000 kd).isSome||(J0 1000001 kd).isSome
def cwm(kd:List (Nat×List Kd)):Bool:=(J0 1000002 kd).isNone
def cnm(kd:List (Nat×List Kd)):Bool:=(J0 1000002 kd).isSome||(J0 1000003 kd).isSome
def aCB(wm nm:Bool)(nb:Nat)(live:List Nat)(f:St→Option (Pt Out)):Nat→St→Option (Pt Out)
 |0,_=>none
 |n+1,σ=>(PF wm nm nb live σ).bind fun c=>(f c.1).bind fun t=>(t.bindO fun| .nor σ=>aCB wm nm nb live f n σ|o=>some (.leaf o)).bind fun t=>some (.ok c.2 t)
def w7:C→Bool
 | .ops l _=>l.all fun g=>qK g.2
 | .seq x y=>w7 x&&w7 y
 | .cond _ x y=>w7 x&&w7 y
 | .skip=>true
 |_=>false
def WT(r:O×Bool):Option (Pt Out):=match r.1.ex,r.1.nor with
 |[],some t=>some (.ok r.2 (trP t))
 |_,_=>none
noncomputable def yI(Q:Qt)(kd:List (Nat×List Kd))(cl:List Nat)(mg:Bool)(lq:Lp)(nb n:Nat):C→St→Option (Pt Out)
 | .drw ls kp cn,σ=>(IC Q kd nb kp cn ls σ).bind fun r=>some (.ok r.2 (.leaf (.nor r.1)))
 | .ops l kp,σ=>
   match(wX (2*l.length+2) none l).2 with
   |[]=>(evI Q kd (wX (2*l.length+2) none l).1 σ).bind fun r=>some (.ok r.2 (.leaf (.nor (trim kp r.1))))
   |_::_=>none
 | .seq x y,σ=>(yI Q kd cl mg lq nb n x σ).bind fun t=>t.bindO fun
   | .nor σ=>yI Q kd cl mg lq nb n y σ
   |o=>some (.leaf o)
 | .cond c x y,σ=>(σ.ev c).bind fun v=>(asBool v).bind fun b=>
   if bL0 cl c=true then match b with
    |true=>yI Q kd cl mg lq nb n x σ
    |false=>yI Q kd cl mg lq nb n y σ
   else if(mg&&(w7 x&&w7 y))=true then(JK Q kd cl lqN nb n (.cond c x y) σ).bind WT
   else(yI Q kd cl mg lq nb n x σ).bind fun tx=>(yI Q kd cl mg lq nb n y σ).bind fun ty=>some (.br b tx ty)
 | .blk id x,σ=>(yI Q kd cl mg lq nb n x σ).bind fun t=>some (t.map (xJ id))
 | .loop live x,σ=>match oQ lq (m6 x) σ with
   |some t=>some t
   |none=>aCB (cwm kd) (cnm kd) nb live (yI Q kd cl mg lq nb n x) n σ
 | .brk id,σ=>some (.leaf (.brk id σ))
 | .ret,σ=>some (.leaf (.ret σ))
 | .skip,σ=>some (.leaf (.nor σ))
theorem MJ{wm nm:Bool}{nb:Nat}{live:List Nat}{f:St→Option (Pt Out)}{g:St→Option Out}(hf:cS f g): ∀n,cS (aCB wm nm nb live f n) (zG nb live g n)
 |0=>fun σ σr t h ho hl=>by simp[aCB]at h
 |n+1=>fun σ σr t h ho hl=>by
  simp only[aCB,qB,qI]at h;obtain⟨c,hc,u,hu,w,hw,rfl⟩:=h;obtain⟨o1,o2⟩:=bB ho;have hcr:=BP (J5 (σ':=c.1) (by rw[hc,←o1])) hl
  obtain⟨k1,z,hz,k2,k3⟩:=Pt.bindO_val hw o2;obtain⟨out,a1,a2⟩:=hf c.1 c.1 u hu k1 .rfl;simp only[zG,hcr,Option.bind_some,a1];show∃out,_∧LeOut w.val out
  rw[k3];generalize u.val=o at hz a2;cases a2 with
  |nor h=>exact MJ hf n _ _ z hz k2 h
  |brk h=>obtain rfl:=qi hz;exact⟨_,rfl, .brk h⟩
  |ret h=>obtain rfl:=qi hz;exact⟨_,rfl, .ret h⟩
theorem WU{r:O×Bool}{t:Pt Out}{out:Out}(h:WT r=some t)(ho:t.okv=true)(hd:r.2=true→ ∃out0,r.1.den=some out0∧LeOut out0 out):LeOut t.val out:=by
 unfold WT at h;split at h
 ·rename_i u he hn;obtain rfl:=qi h;obtain⟨o1,o2⟩:=bB ho;obtain⟨out0,h1,h2⟩:=hd o1;unfold O.den at h1;rw[he,hn]at h1;simp only[m5,qI]at h1;subst h1;show LeOut (trP u).val out
  rw[(WS u).1];exact h2
 ·simp at h
theorem cW{R:Rt}{Q:Qt}(hQ:UM (dL R) Q){kd:List (Nat×List Kd)}{cl:List Nat}{mg:Bool}{lq:Lp}{nb n:Nat}: ∀{c:C},fT (fun live x=>cS (oQ lq (m6 x)) (fV R nb n (.loop live x))) c→cS (yI Q kd cl mg lq nb n c) (fV R nb n c)
 | .drw ls kp cn,hL=>fun σ σr t h ho hl=>by
   simp only[yI,qB,qI]at h;obtain⟨c,hc,rfl⟩:=h;obtain⟨o1,-⟩:=bB ho;have:=BQ hQ hl (c:=c.1) (by rw[hc,←o1])
   exact⟨.nor c.1,by simp[fV,this], .nor .rfl⟩
 | .ops l kp,hL=>fun σ σr t h ho hl=>by
   unfold yI at h;split at h
   ·rename_i hp;simp only[qB,qI]at h;obtain⟨i,hi,rfl⟩:=h;obtain⟨o1,-⟩:=bB ho;obtain⟨τ,h1,h2⟩:=DS hQ (g:=none) (by rw[hi,←o1]) hl (fun s w e=>by simp at e) (fun s w e=>by simp at e)
    rw[yR hp]at h1;exact⟨.nor (trim kp τ),by simp[fV,h1], .nor (aKJ h2)⟩
   ·simp at h
 | .seq x y,hL=>fun σ σr t h ho hl=>by
   simp only[yI,qB]at h;obtain⟨u,hu,h⟩:=h;obtain⟨k1,z,hz,k2,k3⟩:=Pt.bindO_val h ho;obtain⟨out,a1,a2⟩:=cW hQ (c:=x) hL.1 σ σr u hu k1 hl;rw[k3,fV,a1,Option.bind_some];generalize u.val=o at hz a2;cases a2 with
   |nor h=>exact cW hQ (c:=y) hL.2 _ _ z hz k2 h
   |brk h=>obtain rfl:=qi hz;exact⟨_,rfl, .brk h⟩
   |ret h=>obtain rfl:=qi hz;exact⟨_,rfl, .ret h⟩
 | .cond c x y,hL=>fun σ σr t h ho hl=>by
   have h0:=h;simp only[yI,qB]at h;obtain⟨v,hv,b,hb,h⟩:=h;have hv':=hl.ev _ _ hv;split at h
   ·simp only[fV,hv',hb,Option.bind_some];split at h
    ·simp only[if_true];exact cW hQ (c:=x) hL.1 σ σr t h ho hl
    ·simp only[Bool.false_eq_true,if_false];exact cW hQ (c:=y) hL.2 σ σr t h ho hl
   ·split at h
    ·rename_i hm;simp only[Bool.and_eq_true]at hm;obtain⟨r,hr,hw⟩:=Option.bind_eq_some_iff.1 h;have noLoop: ∀{c:C},w7 c=true→fT (fun live x=>O8 (lqN live) (fV R nb n (.loop live x))) c:=fun{c} hc=>by
      induction c with
      |seq x y ihx ihy=>simp only[w7,Bool.and_eq_true]at hc;exact⟨ihx hc.1,ihy hc.2⟩
      |cond c x y ihx ihy=>simp only[w7,Bool.and_eq_true]at hc;exact⟨ihx hc.1,ihy hc.2⟩
      |ops=>trivial
      |skip=>trivial
      |drw=>simp[w7]at hc
      |blk=>simp[w7]at hc
      |loop=>simp[w7]at hc
      |brk=>simp[w7]at hc
      |ret=>simp[w7]at hc
     have hT:=nM (R:=R) (n:=n) (nb:=nb) (kd:=kd) (cl:=cl) hQ (lq:=lqN) (c:= .cond c x y) ⟨noLoop hm.2.1,noLoop hm.2.2⟩;have hd:r.2=true→ ∃out0 out,r.1.den=some out0∧fV R nb n (.cond c x y) σr=some out∧LeOut out0 out:=fun hk=>hT σ σr r.1 (by rw[hr,←hk]) hl
     have hk:r.2=true:=by
      unfold WT at hw;split at hw
      ·obtain rfl:=qi hw;exact(bB ho).1
      ·simp at hw
     obtain⟨out0,out,a1,a2,a3⟩:=hd hk;exact⟨out,a2,WU hw ho fun _=>⟨out0,a1,a3⟩⟩
    ·simp only[qB,qI]at h;obtain⟨tx,hx,ty,hy,rfl⟩:=h;simp only[fV,hv',hb,Option.bind_some];cases b
     ·have:=cW hQ (c:=y) hL.2 σ σr ty hy ho hl;rw[if_neg (by simp)]
      exact this
     ·have:=cW hQ (c:=x) hL.1 σ σr tx hx ho hl;rw[if_pos rfl];exact this
 | .blk id x,hL=>fun σ σr t h ho hl=>by
   simp only[yI,qB,qI]at h;obtain⟨u,hu,rfl⟩:=h;rw[Pt.okv_map]at ho;obtain⟨out,a1,a2⟩:=cW hQ (c:=x) hL σ σr u hu ho hl;rw[Pt.val_map];generalize u.val=o at a2;refine⟨xJ id out,?_,?_⟩
   ·rw[fV,a1,Option.bind_some];cases out with
    |nor σ=>rfl
    |ret σ=>rfl
    |brk j σ=>
     simp only[xJ];split<;>rfl
   ·cases a2 with
    |nor h=>exact .nor h
    |ret h=>exact .ret h
    |brk h=>
     simp only[xJ];split
     ·exact .nor h
     ·exact .brk h
 | .loop live x,hL=>fun σ σr t h ho hl=>by
   simp only[yI]at h;split at h
   ·rename_i r hr;rw[h]at hr;exact hL.1 σ σr t hr ho hl
   ·rw[fV];exact MJ (cW hQ (c:=x) hL.2) n σ σr t h ho hl
 | .brk id,hL=>fun σ σr t h ho hl=>by
   simp only[yI,qI]at h;subst h;exact⟨.brk id σr,rfl, .brk hl⟩
 | .ret,hL=>fun σ σr t h ho hl=>by
   simp only[yI,qI]at h;subst h;exact⟨.ret σr,rfl, .ret hl⟩
 | .skip,hL=>fun σ σr t h ho hl=>by
   simp only[yI,qI]at h;subst h;exact⟨.nor σr,rfl, .nor hl⟩
def aVK(wm nm:Bool)(res:List Rv)(nb:Nat):Out→Option (Pt (SV×List Blk))
 | .nor σ=>(eH σ res).bind fun vs=>(J4 wm nm nb σ vs).bind fun r=>some (.ok r.2 (.leaf r.1))
 | .ret σ=>(eH σ res).bind fun vs=>(J4 wm nm nb σ vs).bind fun r=>some (.ok r.2 (.leaf r.1))
 | .brk _ _=>none
noncomputable def fnP(Q:Qt)(kd:List (Nat×List Kd))(cl:List Nat)(mg:Bool)(lq:Lp)(n:Nat)(cf:Zq.Fn)(args:List SV)(hp:List Blk):Option (Pt (SV×List Blk)):=
 if args.length=cf.np then(yI Q kd cl mg lq (cX hp) n cf.body ⟨qD 0 args,hp⟩).bind fun t=>t.bindO (aVK (lwm kd) (lnm kd) cf.res (cX hp))else none
theorem aKO{R:Rt}{Q:Qt}(hQ:UM (dL R) Q){kd:List (Nat×List Kd)}{cl:List Nat}{mg:Bool}{lq:Lp}{n:Nat}{cf:Zq.Fn}{args:List SV}{hp:List Blk}{t:Pt (SV×List Blk)}(hL:fT (fun live x=>cS (oQ lq (m6 x)) (fV R (cX hp) n (.loop live x))) cf.body)(h:fnP Q kd cl mg lq n cf args hp=some t)(ho:t.okv=true):cf.run R n args hp=some t.val:=by
 unfold fnP at h;split at h
 ·rename_i hn;simp only[qB]at h;obtain⟨u,hu,h⟩:=h;obtain⟨k1,w,hw,k2,k3⟩:=Pt.bindO_val h ho;obtain⟨out,a1,a2⟩:=cW hQ hL _ _ u hu k1 .rfl;unfold Fn.run;rw[if_pos hn,a1,k3];generalize u.val=o at hw a2;have fin: ∀{σ τ:St},Le σ τ→(eH σ cf.res).bind (fun vs=>(J4 (lwm kd) (lnm kd) (cX hp) σ vs).bind fun r=>some (Pt.ok r.2 (.leaf r.1)))=some w→((eH τ cf.res).bind fun vs=>leave (cX hp) τ vs)=some w.val:=fun{σ τ} hl hw=>by
   simp only[qB,qI]at hw;obtain⟨vs,hv,r,hr,rfl⟩:=hw;obtain⟨o1,-⟩:=bB k2;refine aVI (res:=cf.res) hl (r:=r.1) ?_;simp only[aKL,hv,Option.bind_some];exact UY (by rw[hr,←o1])
  cases a2 with
  |nor hl=>exact fin hl hw
  |ret hl=>exact fin hl hw
  |brk hl=>simp[aVK]at hw
 ·simp at h
def IF(wm nm:Bool)(nb:Nat)(σ:St)(vs:List SV):Option ((SV×List Blk)×Bool):=
 if TN (uN σ.hp ((vs.flatMap eS).foldl (JN σ.hp 0) (fB σ.hp nb)) (vs.flatMap eS)) nb=true∧TN (uN σ.hp ((vs.flatMap eS).foldl (JN σ.hp 0) (fB σ.hp nb)) (vs.flatMap eS)) (nb+1)=true then J4 wm nm nb σ vs else none
theorem aEI{wm nm:Bool}{nb:Nat}{σ:St}{vs:List SV}{r:SV×List Blk}(h:IF wm nm nb σ vs=some (r,true)):leaveK nb σ vs=some r:=by
 unfold IF at h;obtain⟨hc,h1⟩:=bQ h;unfold leaveK;simp only;rw[if_pos hc];exact UY h1
def aKP(wm nm:Bool)(res:List Rv)(nb:Nat):Out→Option (Pt (SV×List Blk))
 | .nor σ=>(eH σ res).bind fun vs=>(IF wm nm nb σ vs).bind fun r=>some (.ok r.2 (.leaf r.1))
 | .ret σ=>(eH σ res).bind fun vs=>(IF wm nm nb σ vs).bind fun r=>some (.ok r.2 (.leaf r.1))
 | .brk _ _=>none
theorem aRH{res:List Rv}{nb:Nat}{σ σr:St}(hl:Le σ σr){r:SV×List Blk}(h:((eH σ res).bind fun vs=>leaveK nb σ vs)=some r):((eH σr res).bind fun vs=>leaveK nb σr vs)=some r:=by
 simp only[qB]at h⊢;obtain⟨vs,hv,h⟩:=h;refine⟨vs,zX hl hv,?_⟩;unfold leaveK leave at h⊢;rw[hl.hp];exact h
noncomputable def aVL(Q:Qt)(kd:List (Nat×List Kd))(cl:List Nat)(mg:Bool)(lq:Lp)(n:Nat)(cf:Zq.Fn)(args:List SV)(hp:List Blk):Option (Pt (SV×List Blk)):=
 if args.length=cf.np∧cX hp+2≤hp.length then(yI Q kd cl mg lq (cX hp+2) n cf.body ⟨qD 0 args,hp⟩).bind fun t=>t.bindO (aKP (lwm kd) (lnm kd) cf.res (cX hp))else none
theorem aVM{R:Rt}{Q:Qt}(hQ:UM (dL R) Q){kd:List (Nat×List Kd)}{cl:List Nat}{mg:Bool}{lq:Lp}{n:Nat}{cf:Zq.Fn}{args:List SV}{hp:List Blk}{t:Pt (SV×List Blk)}(hL:fT (fun live x=>cS (oQ lq (m6 x)) (fV R (cX hp+2) n (.loop live x))) cf.body)(h:aVL Q kd cl mg lq n cf args hp=some t)(ho:t.okv=true):cf.runK R n args hp=some t.val:=by
 unfold aVL at h;split at h
 ·rename_i hn;simp only[qB]at h;obtain⟨u,hu,h⟩:=h;obtain⟨k1,w,hw,k2,k3⟩:=Pt.bindO_val h ho;obtain⟨out,a1,a2⟩:=cW hQ hL _ _ u hu k1 .rfl;unfold Fn.runK;rw[if_pos hn,a1,k3];generalize u.val=o at hw a2;have fin: ∀{σ τ:St},Le σ τ→(eH σ cf.res).bind (fun vs=>(IF (lwm kd) (lnm kd) (cX hp) σ vs).bind fun r=>some (Pt.ok r.2 (.leaf r.1)))=some w→((eH τ cf.res).bind fun vs=>leaveK (cX hp) τ vs)=some w.val:=fun{σ τ} hl hw=>by
   simp only[qB,qI]at hw;obtain⟨vs,hv,r,hr,rfl⟩:=hw;obtain⟨o1,-⟩:=bB k2;refine aRH (res:=cf.res) hl (r:=r.1) ?_;simp only[hv,Option.bind_some];exact aEI (by rw[hr,←o1])
  cases a2 with
  |nor hl=>exact fin hl hw
  |ret hl=>exact fin hl hw
  |brk hl=>simp[aKP]at hw
 ·simp at h
def prn:Pt Out→Option (Pt Out)
 | .leaf (.nor _)=>none
 | .leaf o=>some (.leaf o)
 | .ok _ x=>prn x
 | .br b x y=>match prn x,prn y with
   |none,none=>none
   |some x,none=>some x
   |none,some y=>some y
   |some x,some y=>some (.br b x y)
def aCC:Out→Bool
 | .nor _=>true
 |_=>false
theorem BS: ∀{t:Pt Out},prn t=none→aCC t.val=true
 | .leaf (.nor _),_=>rfl
 | .leaf (.brk _ _),h=>by simp[prn]at h
 | .leaf (.ret _),h=>by simp[prn]at h
 | .ok _ x,h=>BS (t:=x) h
 | .br b x y,h=>by
   simp only[prn]at h;split at h
   ·rename_i h1 h2;cases b
    ·exact BS (t:=y) h2
    ·exact BS (t:=x) h1
   ·simp at h
   ·simp at h
   ·simp at h
theorem yS: ∀{t u:Pt Out},prn t=some u→aCC t.val=false→u.val=t.val∧u.okv=true
 | .leaf (.nor _),u,h,hn=>by simp[prn]at h
 | .leaf (.brk _ _),u,h,hn=>by obtain rfl:=qi h;exact⟨rfl,rfl⟩
 | .leaf (.ret _),u,h,hn=>by obtain rfl:=qi h;exact⟨rfl,rfl⟩
 | .ok _ x,u,h,hn=>yS (t:=x) h hn
 | .br b x y,u,h,hn=>by
   simp only[prn]at h;cases b
   ·have hn':aCC y.val=false:=hn;split at h
    ·simp at h
    ·rename_i h1 h2;have:=BS (t:=y) h2;rw[hn']at this;simp at this
    ·rename_i h1 h2;obtain rfl:=qi h;exact yS (t:=y) h2 hn'
    ·rename_i x' y' h1 h2;obtain rfl:=qi h;exact yS (t:=y) (u:=y') h2 hn'
   ·have hn':aCC x.val=false:=hn;split at h
    ·simp at h
    ·rename_i h1 h2;obtain rfl:=qi h;exact yS (t:=x) h1 hn'
    ·rename_i h1 h2;have:=BS (t:=x) h1;rw[hn']at this;simp at this
    ·rename_i x' y' h1 h2;obtain rfl:=qi h;exact yS (t:=x) (u:=x') h1 hn'
def tF(wm nm:Bool)(nb:Nat)(live:List Nat)(t:Pt Out):Option (Pt (Option St)):=t.bindO fun
 | .nor σ=>(PF wm nm nb live σ).bind fun c=>some (.ok c.2 (.leaf (some c.1)))
 |_=>some (.leaf none)
def dV{V:Type}(N:V→Pt (Option V)):Nat→V→Option V
 |0,_=>none
 |k+1,v=>bif (N v).okv then(match(N v).val with|none=>some v|some v'=>dV N k v')else none
noncomputable def hid{α:Type}(a:α):α:=Classical.choose (⟨a,rfl⟩: ∃b,b=a)
theorem dA{α:Type}(a:α):hid a=a:=Classical.choose_spec (⟨a,rfl⟩: ∃b,b=a)
noncomputable def wD{V:Type}(wm nm:Bool)(nb:Nat)(live:List Nat)(f:St→Option (Pt Out))(un:St→Option (V×Bool))(st:V→St)(N:V→Pt (Option V))(n:Nat)(σ:St):Option (Pt Out):=
 (PF wm nm nb live σ).bind fun c=>(un c.1).bind fun v=>(f (st ((hid (dV N n v.1)).getD v.1))).bind fun t=>(prn t).bind fun t=>some (.ok c.2 (.ok v.2 (.ok (hid (dV N n v.1)).isSome t)))
theorem PG{V:Type}{wm nm:Bool}{nb:Nat}{live:List Nat}{f:St→Option (Pt Out)}{g:St→Option Out}(hf:cS f g){st:V→St}{N:V→Pt (Option V)}(hN: ∀v,((f (st v)).bind (tF wm nm nb live))=some ((N v).map (Option.map st))):
  ∀{k:Nat}{v w:V}{σ:St},canon nb live σ=some (st v)→dV N k v=some w→ ∃t out,f (st w)=some t∧aCC t.val=false∧zG nb live g k σ=some out∧LeOut t.val out
 |0,v,w,σ,hσ,h=>by simp[dV]at h
 |k+1,v,w,σ,hσ,h=>by
  have hb:=hN v;simp only[qB]at hb;obtain⟨t,ht,hs⟩:=hb;unfold dV at h;cases ho:(N v).okv
  ·rw[ho]at h;simp at h
  ·rw[ho,cond_true]at h;unfold tF at hs;obtain⟨k1,z,hz,k2,k3⟩:=Pt.bindO_val hs (by rw[Pt.okv_map];exact ho)
   obtain⟨out,a1,a2⟩:=hf (st v) (st v) t ht k1 .rfl;simp only[zG,hσ,Option.bind_some,a1];rw[Pt.val_map]at k3;cases hv:t.val with
   |nor τ=>
    rw[hv]at hz a2;simp only[qB,qI]at hz;obtain⟨c,hc,rfl⟩:=hz;obtain⟨o1,-⟩:=bB k2;cases a2 with
    |nor hl=>
     cases hn:(N v).val with
     |none=>rw[hn]at k3;simp[Pt.val]at k3
     |some v'=>
      rw[hn]at h k3;simp only[Pt.val,Option.map_some,qI]at k3;have hc':=BP (J5 (σ':=c.1) (by rw[hc,←o1])) hl
      rw[←k3]at hc';exact PG hf hN hc' h
   |brk j τ=>
    rw[hv]at hz a2;obtain rfl:=qi hz;cases a2 with
    |brk hl=>
     cases hn:(N v).val with
     |some v'=>rw[hn]at k3;simp[Pt.val]at k3
     |none=>
      rw[hn]at h;obtain rfl:=qi h;exact⟨t,_,ht,by rw[hv];rfl,rfl,by rw[hv];exact .brk hl⟩
   |ret τ=>
    rw[hv]at hz a2;obtain rfl:=qi hz;cases a2 with
    |ret hl=>
     cases hn:(N v).val with
     |some v'=>rw[hn]at k3;simp[Pt.val]at k3
     |none=>
      rw[hn]at h;obtain rfl:=qi h;exact⟨t,_,ht,by rw[hv];rfl,rfl,by rw[hv];exact .ret hl⟩
theorem d8{R:Rt}{V:Type}{wm nm:Bool}{nb n:Nat}{live:List Nat}{x:C}{f:St→Option (Pt Out)}(hf:cS f (fV R nb n x)){un:St→Option (V×Bool)}{st:V→St}{N:V→Pt (Option V)}
  (hu: ∀σ v,un σ=some (v,true)→σ=st v) (hN: ∀v,((f (st v)).bind (tF wm nm nb live))=some ((N v).map (Option.map st))):cS (wD wm nm nb live f un st N n) (fV R nb n (.loop live x)):=fun σ σr t h ho hl=>by
 simp only[wD,dA,qB,qI]at h;obtain⟨c,hc,v,hv,u,hu',w,hw,rfl⟩:=h;obtain⟨o1,o2⟩:=bB ho;obtain⟨o0,o2⟩:=bB o2;obtain⟨o2,o3⟩:=bB o2;obtain⟨z,hz⟩:=Option.isSome_iff_exists.1 o2;have hc':=BP (J5 (σ':=c.1) (by rw[hc,←o1])) hl
 have he:=hu c.1 v.1 (by rw[hv,←o0])
 rw[he]at hc';obtain⟨t',out,a1,a2,a3,a4⟩:=PG hf hN hc' hz;rw[hz,Option.getD_some,a1]at hu';obtain rfl:=qi hu';obtain⟨b1,-⟩:=yS hw a2;refine⟨out,by rw[fV];exact a3,?_⟩
 show LeOut w.val out
 rw[b1];exact a4
def kZ:C→List (List Nat×C)
 | .seq x y=>kZ x++kZ y
 | .cond _ x y=>kZ x++kZ y
 | .blk _ x=>kZ x
 | .loop live x=>(live,x)::kZ x
 |_=>[]
def aRI(T:List Nat→C→Prop):List (List Nat×C)→Prop
 |[]=>True
 |p::r=>T p.1 p.2∧aRI T r
theorem pW{T:List Nat→C→Prop}: ∀{l m:List (List Nat×C)},aRI T (l++m)→aRI T l∧aRI T m
 |[],m,h=>⟨trivial,h⟩
 |p::r,m,h=>⟨⟨h.1,(pW (l:=r) h.2).1⟩,(pW (l:=r) h.2).2⟩
theorem rK{T:List Nat→C→Prop}: ∀{c:C},aRI T (kZ c)→fT T c
 | .seq x y,h=>⟨rK (c:=x) (pW h).1,rK (c:=y) (pW h).2⟩
 | .cond _ x y,h=>⟨rK (c:=x) (pW h).1,rK (c:=y) (pW h).2⟩
 | .blk _ x,h=>rK (c:=x) h
 | .loop live x,h=>⟨h.1,rK (c:=x) h.2⟩
 | .ops _ _,_=>trivial
 | .drw ..,_=>trivial
 | .brk _,_=>trivial
 | .ret,_=>trivial
 | .skip,_=>trivial
theorem cF{T:List Nat→C→Prop}{c:C}{l:List (List Nat×C)}(h:kZ c=l)(k:aRI T l):fT T c:=rK (by rw[h];exact k)
end Go.Zq

namespace Go.Zq
open Go
def byteRow:Row→Bool
 |[.lit (.int .u8 z)]=>decide (0≤z)&&decide (z<256)
 |_=>false
def bytesOk(rows:List Row):Bool:=rows.all byteRow
def ri(zs:List Int):List Row:=zs.map fun z=>[.lit (.int .i64 z)]
theorem aY{zs:List Int}:(ri zs).length=zs.length:=by simp[ri]
theorem aEJ{r:Row}(h:byteRow r=true): ∃z:Int,r=[.lit (.int .u8 z)]∧0≤z∧z<256:=by
 unfold byteRow at h;split at h
 ·rename_i z;simp only[Bool.and_eq_true,decide_eq_true_eq]at h;exact⟨z,rfl,h⟩
 ·simp at h
theorem aEK{rows:List Row}(h:bytesOk rows=true){j:Nat}(hj:j<rows.length): ∃z:Int,rows.getD j []=[.lit (.int .u8 z)]∧bD rows j 0=z∧0≤z∧z<256:=by
 have hr:rows.getD j []=rows[j]:=by simp[List.getD_eq_getElem?_getD,hj]
 obtain⟨z,hz,h0,h1⟩:=aEJ (List.all_eq_true.1 h rows[j] (List.getElem_mem hj));refine⟨z,by rw[hr,hz],?_,h0,h1⟩
 simp only[bD,uW,hr,hz];rfl
theorem PH{rows:List Row}(h:bytesOk rows=true){p:Int}(h0:0≤p)(h1:p<(rows.length:Int)):gN [.int .u8] rows p=true:=by
 have hj:p.toNat<rows.length:=by omega
 obtain⟨z,hz,-⟩:=aEK h hj;have hb:Nat.blt p.toNat rows.length=true:=by simpa using hj
 simp only[gN,dM,hz,h0,hb,decide_true,Bool.true_and];rfl
def aVO(s:Int):Int:=IntKind.wrap IntKind.i64 (IntKind.wrap IntKind.u64 ↑(BitVec.toNat (BitVec.ofInt (64:Nat) (Int.fdiv s (1099511627776:Int))&&&BitVec.ofInt (64:Nat) (255:Int))))
theorem a57(s:Int):0≤aVO s∧aVO s<256:=by
 unfold aVO;have h:(BitVec.ofInt 64 (s.fdiv 1099511627776)&&&BitVec.ofInt 64 255).toNat≤255:=by
  rw[BitVec.toNat_and];exact Nat.le_trans Nat.and_le_right (by decide)
 generalize (BitVec.ofInt 64 (s.fdiv 1099511627776)&&&BitVec.ofInt 64 255).toNat=n at h;have h1:IntKind.u64.wrap (n:Int)=n:=by
  have:IntKind.u64.wrap (n:Int)=(n:Int)%18446744073709551616:=by simp[IntKind.wrap,IntKind.bits,IntKind.signed]
  omega
 rw[h1,IntKind.wrap_i64];omega
end Go.Zq

namespace Go.Zq
open Go
theorem aRJ{xs ys:List Int}:ri (xs++ys)=ri xs++ri ys:=by simp[ri]
theorem WV{xs:List Int}{j:Nat}{d:Int}(h:xs[j]? =some d):(ri xs).getD j []=[.lit (.int .i64 d)]:=by
 simp[ri,List.getD_eq_getElem?_getD,h]
theorem bL2{xs:List Int}{j:Nat}{d:Int}(h:xs[j]? =some d):bD (ri xs) j 0=d:=by
 simp only[bD,uW,WV h];rfl
theorem aVP{xs:List Int}{j:Nat}{d:Int}(h:xs[j]? =some d):dM [.int .i64] (ri xs) j 0=true:=by
 have hj:j<xs.length:=(List.getElem?_eq_some_iff.1 h).1;simp only[dM,WV h,aY];have:Nat.blt j xs.length=true:=by simpa using hj
 rw[this];rfl
theorem bCK{xs:List Int}{j:Nat}{d:Int}(h:xs[j]? =some d):gN [.int .i64] (ri xs) (j:Int)=true:=by
 have h1:=aVP h;simp only[gN,Int.toNat_natCast,h1,WV h];simp
theorem WW(z:Int)(k:Nat)(hk:k<63):IntKind.wrap IntKind.i64 (↑(BitVec.toNat (BitVec.ofInt (64:Nat) z&&&BitVec.ofInt (64:Nat) ((2:Int)^k-1))):Int)=z%2^k:=by
 have hpos:(1:Nat)≤2^k:=Nat.one_le_two_pow;have hle:(2:Nat)^k≤2^62:=Nat.pow_le_pow_right (by decide) (by omega)
 have e:(((2:Int)^k-1)%((2^64:Nat):Int)).toNat=2^k-1:=by
  have:((2:Int)^k)=((2^k:Nat):Int):=by simp
  rw[this];omega
 rw[BitVec.toNat_and,BitVec.toNat_ofInt,BitVec.toNat_ofInt,e,Nat.and_two_pow_sub_one_eq_mod,IntKind.wrap_i64];have h2:((2:Int)^k)=((2^k:Nat):Int):=by simp
 rw[h2];have h3:(((z%((2^64:Nat):Int)).toNat%2^k:Nat):Int)=z%((2^k:Nat):Int):=by
  rw[Int.natCast_emod,Int.toNat_of_nonneg (by omega)]
  refine Int.emod_emod_of_dvd _ ?_;exact Int.natCast_dvd_natCast.2 (Nat.pow_dvd_pow 2 (by omega))
 rw[h3];have h4:0≤z%((2^k:Nat):Int)∧z%((2^k:Nat):Int)<((2^k:Nat):Int):=⟨Int.emod_nonneg _ (by omega),Int.emod_lt_of_pos _ (by omega)⟩
 omega
end Go.Zq

namespace Go.Zq
open Go
def hC(c:C)(i:Nat):C:=((kZ c)[i]?.map (·.2)).getD .skip
def aV(x y:Int):Int:=IntKind.wrap .i64 (x+y)
def bZ(x y:Int):Int:=IntKind.wrap .i64 (x-y)
def dB(x y:Int):Int:=IntKind.wrap .i64 (x*y)
def bR2(x y:Int):Int:=x*y
def kF(x y:Int):Int:=IntKind.wrap .i64 (x.tdiv y)
def iC(x y:Int):Int:=x.tmod y
def aD(x y:Int):Int:=IntKind.wrap .i64 (BitVec.ofInt 64 x&&&BitVec.ofInt 64 y).toNat
def cD(x y:Int):Int:=IntKind.wrap .i64 (BitVec.ofInt 64 x|||BitVec.ofInt 64 y).toNat
def oR(x y:Int):Int:=IntKind.wrap .i64 (BitVec.ofInt 64 x^^^BitVec.ofInt 64 y).toNat
def aJ(x y:Int):Int:=IntKind.wrap .i64 (BitVec.ofInt 64 x&&& ~~~BitVec.ofInt 64 y).toNat
def hX(x y:Int):Int:=IntKind.wrap .i64 (x*2^min y.toNat 64)
def lO(x y:Int):Int:=x.fdiv (2^min y.toNat 64)
def bL3(k:IntKind)(x y:Int):Int:=k.wrap (x+y)
def bR3(k:IntKind)(x y:Int):Int:=k.wrap (x*y)
def a58(k:IntKind)(x y:Int):Int:=k.wrap (BitVec.ofInt k.bits x&&&BitVec.ofInt k.bits y).toNat
def aVQ(k:IntKind)(x y:Int):Int:=x.fdiv (2^min y.toNat k.bits)
def vB(k:IntKind)(x:Int):Int:=k.wrap x
def eqI(x y:Int):Bool:=x==y
def cV(x y:Int):Bool:=x !=y
def ltI(x y:Int):Bool:=decide (x<y)
def leI(x y:Int):Bool:=decide (x≤y)
def pG(x y:Int):Bool:=decide (x>y)
def jO(x y:Int):Bool:=decide (x≥y)
def rD(x y:Bool):Bool:=x==y
def eD(x y:Nat):Bool:=decide (x=y)
noncomputable def s1{α:Type}(x:α):Bool:=same x x
noncomputable def r1(x:List Row):Bool:=PA x x
def e1(x:Nat):Bool:=eD x x
@[simp] theorem b16{α:Type}(x:α):s1 x=true:=DV x
@[simp] theorem b17(x:List Row):r1 x=true:=DV x
@[simp] theorem bEK(x:Nat):e1 x=true:=decide_eq_true rfl
def qN(x y:Nat):Bool:=decide (x≤y)
def blt(x y:Nat):Bool:=Nat.blt x y
def jT(x y:Nat):Bool:=x==y
def vC(x y:Nat):Nat:=x*y
def bR4(x y:Nat):Nat:=min x y
def jU(r:List Row)(j:Nat):Nat:=(r.getD j []).length
def bR5(n:Nat):Int:=n
def bL(r:List Row):Int:=r.length
def aU(x:Int):Row:=[.lit (.int .i64 x)]
@[reducible] def ot{α:Type}(x:Pt α):Pt α:= .ok true x
theorem bL4{R:Rt}{Q:Qt}(hQ:UM (dL R) Q){kd:List (Nat×List Kd)}{cl:List Nat}{mg:Bool}{lq:Lp}{n:Nat}{cf:Zq.Fn}{args:List SV}{hp:List Blk}{γ:Type}{T:Pt γ}{nn:γ→SV×List Blk}
  (hL:fT (fun live x=>cS (oQ lq (m6 x)) (fV R (cX hp) n (.loop live x))) cf.body) (e:fnP Q kd cl mg lq n cf args hp=some (T.map nn)) {r:SV×List Blk} (hr:nn (hid T.val)=r) (hk:hid T.okv=true):cf.run R n args hp=some r:=by
 rw[dA]at hr hk;have:=aKO hQ hL e (by rw[Pt.okv_map];exact hk)
 rw[this,Pt.val_map,hr]
theorem bEL{R:Rt}{Q:Qt}(hQ:UM (dL R) Q){kd:List (Nat×List Kd)}{cl:List Nat}{mg:Bool}{lq:Lp}{n:Nat}{cf:Zq.Fn}{args:List SV}{hp:List Blk}{γ:Type}{T:Pt γ}{nn:γ→SV×List Blk}
  (hL:fT (fun live x=>cS (oQ lq (m6 x)) (fV R (cX hp+2) n (.loop live x))) cf.body) (e:aVL Q kd cl mg lq n cf args hp=some (T.map nn)) {r:SV×List Blk} (hr:nn (hid T.val)=r) (hk:hid T.okv=true):cf.runK R n args hp=some r:=by
 rw[dA]at hr hk;have:=aVM hQ hL e (by rw[Pt.okv_map];exact hk)
 rw[this,Pt.val_map,hr]
noncomputable def fnZ(Q:Qt)(kd:List (Nat×List Kd))(cl:List Nat)(mg:Bool)(lq:Lp)(n:Nat)(cf:Zq.Fn)(args:List SV):Option (Pt (SV×List Blk)):=
 (fnP Q kd cl mg lq n cf args []).bind fun t=>t.bindO fun r=>(aEB r.2 r.1).bind fun v=>some (.ok v.2 (.leaf (v.1,[])))
theorem bL6{R:Rt}{Q:Qt}(hQ:UM (dL R) Q){kd:List (Nat×List Kd)}{cl:List Nat}{mg:Bool}{lq:Lp}{n:Nat}{cf:Zq.Fn}{args:List SV}{γ:Type}{T:Pt γ}{nn:γ→SV×List Blk}{f:FuncId}
  (hL:fT (fun live x=>cS (oQ lq (m6 x)) (fV R (cX []) n (.loop live x))) cf.body) (e:fnZ Q kd cl mg lq n cf args=some (T.map nn)) {r:SV×List Blk} (hr:nn (hid T.val)=r) (hk:hid T.okv=true) (hR: ∀r,cf.run R n args []=some r→R f args []=some r):dL R (f+100000) args []=some r:=by
 rw[dA]at hr hk;unfold fnZ at e;simp only[Option.bind_eq_some_iff]at e;obtain⟨t,ht,e⟩:=e;obtain⟨k1,w,hw,k2,k3⟩:=Pt.bindO_val e (by rw[Pt.okv_map];exact hk)
 have hrun:=hR _ (aKO hQ hL ht k1);simp only[Option.bind_eq_some_iff,Option.some.injEq]at hw;obtain⟨v,hv,rfl⟩:=hw;obtain⟨o1,-⟩:=bB k2;rw[Pt.val_map,hr]at k3;rw[aU1,hrun];simp only[Option.bind_some,aQ9 (r:=v.1) (by rw[hv,←o1])]
 rw[k3];rfl
end Go.Zq

namespace Go.Zq
open Go
def Pt.Sat{α:Type}(P:α→Prop):Pt α→Prop
 | .leaf a=>P a
 | .br b x y=>(b=true→x.Sat P)∧(b=false→y.Sat P)
 | .ok b x=>b=true∧x.Sat P
theorem Pt.sat_ok{α:Type}{P:α→Prop}: ∀{t:Pt α},t.Sat P→t.okv=true∧P t.val
 | .leaf a,h=>⟨rfl,h⟩
 | .br b x y,h=>by
   cases b
   ·exact Pt.sat_ok (t:=y) (h.2 rfl)
   ·exact Pt.sat_ok (t:=x) (h.1 rfl)
 | .ok b x,h=>by
   obtain⟨h1,h2⟩:=Pt.sat_ok (t:=x) h.2;exact⟨by simp only[Pt.okv,h.1,h1];rfl,h2⟩
theorem aE{α:Type}{P:α→Prop}{t:Pt α}(h:t.Sat P):hid t.okv=true∧P (hid t.val):=by
 rw[dA,dA];exact Pt.sat_ok h
@[simp] theorem aR{α:Type}{P:α→Prop}{a:α}:(Pt.leaf a).Sat P=P a:=rfl
@[simp] theorem dJ{α:Type}{P:α→Prop}{b:Bool}{x y:Pt α}:(Pt.br b x y).Sat P=((b=true→x.Sat P)∧(b=false→y.Sat P)):=rfl
@[simp] theorem aZ{α:Type}{P:α→Prop}{b:Bool}{x:Pt α}:(Pt.ok b x).Sat P=(b=true∧x.Sat P):=rfl
@[simp] theorem oT{α:Type}{a:α}:(Pt.leaf a).okv=true:=rfl
@[simp] theorem G5{α:Type}{b:Bool}{x y:Pt α}:(Pt.br b x y).okv=bif b then x.okv else y.okv:=rfl
@[simp] theorem yB{α:Type}{b:Bool}{x:Pt α}:(Pt.ok b x).okv=(b&&x.okv):=rfl
@[simp] theorem iB{α:Type}{a:α}:(Pt.leaf a).val=a:=rfl
@[simp] theorem C4{α:Type}{b:Bool}{x y:Pt α}:(Pt.br b x y).val=bif b then x.val else y.val:=rfl
@[simp] theorem oL{α:Type}{b:Bool}{x:Pt α}:(Pt.ok b x).val=x.val:=rfl
@[simp] theorem bRG{a b:Nat}:eD a b=true↔a=b:=by simp[eD]
@[simp] theorem R4{a:Nat}:eD a a=true:=by simp[eD]
@[simp] theorem I5{a b:Nat}:qN a b=true↔a≤b:=by simp[qN]
@[simp] theorem bO1{a b:Nat}:jT a b=true↔a=b:=by simp[jT]
@[simp] theorem bRH{a b:Nat}:blt a b=true↔a<b:=by simp[blt]
@[simp] theorem b0X{α:Type}(a:α):same a a=true:=DV a
@[simp] theorem bRI(a:List Row):PA a a=true:=aEG a
@[simp] theorem cY{a b:Int}:eqI a b=true↔a=b:=by simp[eqI]
@[simp] theorem eT{a b:Int}:eqI a b=false↔a≠b:=by simp[eqI]
@[simp] theorem o8{a b:Int}:cV a b=true↔a≠b:=by simp[cV]
@[simp] theorem VQ{a b:Int}:cV a b=false↔a=b:=by simp[cV]
@[simp] theorem dW{a b:Int}:ltI a b=true↔a<b:=by simp[ltI]
@[simp] theorem oU{a b:Int}:ltI a b=false↔b≤a:=by simp[ltI]
@[simp] theorem j8{a b:Int}:leI a b=true↔a≤b:=by simp[leI]
@[simp] theorem aC2{a b:Int}:leI a b=false↔b<a:=by simp[leI]
@[simp] theorem qX{a b:Int}:pG a b=true↔b<a:=by simp[pG]
@[simp] theorem I6{a b:Int}:pG a b=false↔a≤b:=by simp[pG]
@[simp] theorem I7{a b:Int}:jO a b=true↔b≤a:=by simp[jO]
@[simp] theorem a29{a b:Int}:jO a b=false↔a<b:=by simp[jO]
@[simp] theorem bRJ{a b:Bool}:rD a b=true↔a=b:=by simp[rD]
@[simp] theorem aQ{r:List Row}:bL r=(r.length:Int):=rfl
@[simp] theorem bRK{n:Nat}:bR5 n=(n:Int):=rfl
@[simp] theorem aAM{a b:Nat}:vC a b=a*b:=rfl
@[simp] theorem bRL{a b:Nat}:bR4 a b=min a b:=rfl
@[simp] theorem bRM{a b:Int}:bR2 a b=a*b:=rfl
theorem bP{x y:Int}(h: -9223372036854775808≤x+y∧x+y<9223372036854775808):aV x y=x+y:=by
 unfold aV;rw[IntKind.wrap_i64];omega
theorem eE{x y:Int}(h: -9223372036854775808≤x-y∧x-y<9223372036854775808):bZ x y=x-y:=by
 unfold bZ;rw[IntKind.wrap_i64];omega
theorem hF{x y:Int}(h: -9223372036854775808≤x*y∧x*y<9223372036854775808):dB x y=x*y:=by
 unfold dB;rw[IntKind.wrap_i64];omega
theorem aPF{x:Int}(h: -9223372036854775808≤x∧x<9223372036854775808):vB .i64 x=x:=by
 unfold vB;rw[IntKind.wrap_i64];omega
theorem NJ{x n:Int}(h0:0≤x)(h1:0<n):0≤iC x n∧iC x n<n:=by
 unfold iC;rw[Int.tmod_eq_emod_of_nonneg h0];exact⟨Int.emod_nonneg _ (by omega),Int.emod_lt_of_pos _ h1⟩
def Num(r:List Row):Prop:= ∃zs:List Int,r=ri zs
theorem AM{z:Int}{zs:List Int}:ri (z::zs)=aU z::ri zs:=rfl
theorem G6:ri []=[]:=rfl
theorem bJS{r:List Row}(h:Num r){j:Int}(h0:0≤j)(h1:j<(r.length:Int)):gN [.int .i64] r j=true:=by
 obtain⟨a,rfl⟩:=h;rw[aY]at h1;have hj:j.toNat<a.length:=by omega
 have:=bCK (xs:=a) (j:=j.toNat) (d:=a[j.toNat]) (List.getElem?_eq_getElem hj)
 rwa [Int.toNat_of_nonneg h0]at this
theorem I8{r:List Row}(h:Num r){j:Nat}(h1:j<r.length):dM [.int .i64] r j 0=true:=by
 obtain⟨a,rfl⟩:=h;rw[aY]at h1;exact aVP (d:=a[j]) (List.getElem?_eq_getElem h1)
structure CurOk(B:Int)(code:List Row)(p:Int):Prop where
 code:bytesOk code=true
 lo:0≤p
 hi:p≤B
theorem CurOk.mono{B C:Int}{code:List Row}{p:Int}(h:CurOk B code p)(hB:B≤C):CurOk C code p:=⟨h.1,h.2,by have:=h.3;omega⟩
theorem eO{V:Type}{N:V→Pt (Option V)}(Inv:Nat→V→Prop)(Post:V→Prop)(h: ∀n v,Inv n v→(N v).Sat fun r=>match r with|none=>Post v|some v'=> ∃m,m<n∧Inv m v'):
  ∀(k n:Nat)(v:V),Inv n v→n<k→ ∃w,dV N k v=some w∧Post w
 |0,n,v,hi,hk=>by omega
 |k+1,n,v,hi,hk=>by
  obtain⟨h1,h2⟩:=Pt.sat_ok (h n v hi);unfold dV;rw[h1,cond_true];cases hv:(N v).val with
  |none=>rw[hv]at h2;exact⟨v,rfl,h2⟩
  |some v'=>
   rw[hv]at h2;obtain⟨m,hm,hi'⟩:=h2;exact eO Inv Post h k m v' hi' (by omega)
theorem jL{V:Type}{N:V→Pt (Option V)}{Post:V→Prop}{k:Nat}{v:V}(h: ∃w,dV N k v=some w∧Post w):(hid (dV N k v)).isSome=true∧Post ((hid (dV N k v)).getD v):=by
 obtain⟨w,hw,hp⟩:=h;rw[dA,hw];exact⟨rfl,hp⟩
def bS(x a b:Int):Bool:=decide (a≤x)&&decide (x≤b)
@[simp] theorem aW{x a b:Int}:bS x a b=true↔a≤x∧x≤b:=by simp[bS]
def cZ(zs:List Int):Bool:=zs.all fun z=>bS z 0 255
theorem pO{zs:List Int}{i:Nat}(h:i<zs.length):bD (ri zs) i 0=zs[i]:=bL2 (List.getElem?_eq_getElem h)
theorem yC{v:Int}(h:0≤v)(h1:v<9223372036854775808):aD v 255=v%256:=by
 have:=WW v 8 (by omega)
 exact this
theorem nZ{v:Int}(k:Nat)(m:Int)(hk:k<63)(hm:m=2^k-1):aD v m=v%2^k:=by
 subst hm;exact WW v k hk
theorem qY{v n:Int}(k:Nat)(hn:n=(k:Int))(hk:k≤64):lO v n=v/2^k:=by
 subst hn;unfold lO;rw[Int.toNat_natCast,Nat.min_eq_left hk,Int.fdiv_eq_ediv_of_nonneg _ (Int.le_of_lt (Int.pow_pos (by omega)))]
theorem bA7{v:Int}(h:0≤v)(h1:v<65536):hX v 8=v*256:=by
 unfold hX;rw[show((2:Int)^min (Int.toNat 8) 64)=256 from by decide,IntKind.wrap_i64]
 omega
theorem R5{q r:Int}(hq:0≤q)(hq1:q<65536)(hr:0≤r)(hr1:r<256):cD (q*256) r=q*256+r:=by
 obtain⟨a,rfl⟩:=Int.eq_ofNat_of_zero_le hq;obtain⟨b,rfl⟩:=Int.eq_ofNat_of_zero_le hr;unfold cD;rw[BitVec.toNat_or,BitVec.toNat_ofInt,BitVec.toNat_ofInt];have e1:(((a:Int)*256)%((2^64:Nat):Int)).toNat=2^8*a:=by omega
 have e2:((b:Int)%((2^64:Nat):Int)).toNat=b:=by omega
 rw[e1,e2,←Nat.two_pow_add_eq_or_of_lt (by omega),IntKind.wrap_i64]
 omega
theorem bJT{v:Int}(h:0≤v):iC v 2=v%2:=by
 unfold iC;exact Int.tmod_eq_emod_of_nonneg h
theorem bO2{v:Int}:aD v 1=v%2:=by
 have:=WW v 1 (by omega)
 simpa [aD]using this
theorem dN{zs:List Int}{i:Nat}{z:Int}:(ri zs).set i (aU z)=ri (zs.set i z):=by
 simp only[ri,List.map_set];rfl
theorem w8{zs:List Int}{i:Nat}(h:i<zs.length):jU (ri zs) i=1:=by
 unfold jU;rw[WV (List.getElem?_eq_getElem h)];rfl
theorem tY{zs:List Int}{i:Nat}(h:i<zs.length):gN [.int .i64] (ri zs) (i:Int)=true:=bCK (d:=zs[i]) (List.getElem?_eq_getElem h)
theorem bF{α:Type}{P:α→Prop}:(∀a,(Pt.leaf a).Sat P=P a)∧(∀b x y,(Pt.br b x y).Sat P=((b=true→x.Sat P)∧(b=false→y.Sat P)))∧(∀b x,(Pt.ok b x).Sat P=(b=true∧x.Sat P))∧(∀x,(ot x).Sat P=x.Sat P):=⟨fun _=>rfl,fun _ _ _=>rfl,fun _ _=>rfl,fun x=>true_and (x.Sat P)|>fun h=>(by rw[show(ot x).Sat P=(true=true∧x.Sat P)from rfl];simp)⟩
theorem bW:(∀p:Prop,(True∧p)=p)∧(∀p:Prop,(p∧True)=p)∧(∀p:Prop,(False→p)=True)∧(∀p:Prop,(True→p)=p)∧(∀p:Prop,(p→True)=True)∧(true=true)=True∧(false=false)=True∧(false=true)=False∧(true=false)=False∧(∀b,(b&&true)=b)∧(∀b,(true&&b)=b)∧(∀b,(b||true)=true)∧(∀b,(true||b)=true)∧(∀b,(b||false)=b)∧(∀b,(b&&b)=b)∧(!true)=false∧(!false)=true∧(∀a,eD a a=true)∧(∀a,e1 a=true)∧(∀a,PA a a=true)∧(∀a,r1 a=true):=by simp
theorem eA:(∀p:Prop,(True∧p)=p)∧(∀b,(b&&true)=b)∧(∀b,(true&&b)=b)∧(∀b,(b||true)=true)∧(∀b,(true||b)=true)∧(∀b,(b||false)=b)∧(∀b,(b&&b)=b)∧(!true)=false∧(!false)=true∧(∀a,eD a a=true)∧(∀a,e1 a=true)∧(∀a,PA a a=true)∧(∀a,r1 a=true):=by simp
theorem bT{α:Type}:(∀a b:α,cond true a b=a)∧(∀a b:α,cond false a b=b)∧(∀a:α,same a a=true)∧(∀a:α,s1 a=true):=by simp
end Go.Zq
