import Derived.Test.YtdipcnijfkdnfaaGreatZmb
set_option linter.unusedVariables false
set_option linter.unusedSimpArgs false
namespace Go.Zq
open Go
theorem aHC{P:Program}(w:World)(d:Nat)(t e:TypeId)(a:Option Addr)(l c:Nat)(h:P.underlying t=some (.slice e)):(Op.equalIn (d+1) t (.slice a l c) (.slice none 0 0)).run P w= .ok a.isNone w:=by
 unfold Op.equalIn;simp only[Sem.run_bind,run_underlying h,Result.andThen_ok];cases a<;>rfl
def x7(p:Bool)(n:Nat)(rows:List Row):List (Nat×SV):=[(2, .one (.nls n)),(0, .one (.imm p n rows))]
theorem bRZ(R:Rt){p:Bool}{n k:Nat}{rows:List Row}{b:Bool}:fY R 0 k (.seq (.ops [(none, .mv 2 (.c (.one (.nls n))))] none) .ret) ⟨(4, .one (B b))::(3, .one (.imm p n rows))::x7 p n rows,[]⟩=
  some (.ret ⟨(2, .one (.nls n))::(4, .one (B b))::(3, .one (.imm p n rows))::x7 p n rows,[]⟩):=by
 simp only[fY,dY,kH,K.run,K.exec,St.ev,Option.bind_some,setD,K.dst,St.set,trim]
theorem bR0(R:Rt){p:Bool}{n k by_:Nat}{z:Row}{rows:List Row}{b:Bool}(hz:z.length=n)(h1:rows.length*by_≤room)(h2:rows.length≤room):
  fY R 0 k (.seq (.ops [(none, .bsl 5 0 z []),(none, .mv 6 (.t 0)),(none, .app 7 by_ n (.t 5) (.t 6)),(none, .mv 2 (.t 7))] none) .ret) ⟨(4, .one (B b))::(3, .one (.imm p n rows))::x7 p n rows,[]⟩=
  some (.ret ⟨(2, .one (.sl 1 0 rows.length))::(7, .one (.sl 1 0 rows.length))::(6, .one (.imm p n rows))::(5, .one (.sl 0 0 0))::(4, .one (B b))::(3, .one (.imm p n rows))::x7 p n rows,[.dead, .lst n rows]⟩):=by
 simp[fY,dY,kH,K.run,K.exec,St.ev,setD,K.dst,St.set,trim,fillRows,bR,x7,i9,dO,PL,m5,IH,hz,h1,h2]
theorem aU7{σ:St}{n:Nat}(hh:σ.hp=[]):leave 0 σ [.one (.nls n)]=some (.one (.sl 0 0 0),[.lst n []]):=by
 simp[leave,eY,fE,vJ,PI,KO,aYC,aEA,hh,oO,vK,aYE,cL,PJ,B1,eD,m5,dO,pJ,ren,aEB]
theorem aU8{σ:St}{n:Nat}{rows:List Row}(hh:σ.hp=[.dead, .lst n rows]):leave 0 σ [.one (.sl 1 0 rows.length)]=some (.one (.sl 0 0 rows.length),[.lst n rows]):=by
 simp[leave,eY,fE,vJ,PI,KO,aYC,aEA,aYB,hh,oO,vK,aYE,cL,PJ,B1,eD,m5,dO,pJ,ren,BZ]
structure CloneSh(P:Program)(f:FuncId)(n by_:Nat) where
 fn:Func
 h:Hint
 q:Array Oper→List Nat→List G→Bool
 dr:GI P q
 t:TypeId
 e:TypeId
 z:Row
 x:Code
 y:Code
 i0:Nat
 i1:Nat
 ops0:Array Oper
 o1:Oper
 o2:Oper
 hf:P.funcs[f]? =some fn
 hname:(fn.name== "runtime.NumGoroutine")=false
 hb:fn.body=some (.seq (.region i0 ops0 false) (.seq (.seq (.region i1 #[o1,o2] false) (.cond (.tmp 4) x .skip)) y))
 hn:fn.ntmps=8
 hr:fn.results= #[.tmp 2]
 hA:o7 P 8 h q (.region i0 ops0 false)=some (.ops [(none, .mv 2 (.c (.one (.nls n))))] none)
 ho1:FA P 8 h.md false #[o1,o2] o1=some (none, .mv 3 (.t 0))
 ho2:o2.op= .binOp .eql t (.tmp 3) (.const (.slice none 0 0)) t
 hd2:o2.dst=some 4
 hg2:o2.guard=none
 ht:P.underlying t=some (.slice e)
 hx:o7 P 8 h q x=some (.seq (.ops [(none, .mv 2 (.c (.one (.nls n))))] none) .ret)
 hz:z.length=n
 hy:o7 P 8 h q y=some (.seq (.ops [(none, .bsl 5 0 z []),(none, .mv 6 (.t 0)),(none, .app 7 by_ n (.t 5) (.t 6)),(none, .mv 2 (.t 7))] none) .ret)
theorem aZC{P:Program}{R:Rt}(hR:o8 P R)(hord:P3 P){f:FuncId}{n by_:Nat}(s:CloneSh P f n by_){p:Bool}{rows:List Row}(h1:rows.length*by_≤room)(h2:rows.length≤room):
  TC P f [.one (.imm p n rows)] [] (.one (.sl 0 0 rows.length)) [.lst n rows]:=by
 obtain⟨fn,h,q,dr,t,e,z,x,y,i0,i1,ops0,o1,o2,hf,hname,hb,hn,hr,hA,ho1,ho2,hd2,hg2,ht,hx,hz,hy⟩:=s;intro w ρ S us hent;have hdr:DrawSound P q:=⟨dr,hord⟩;have hsim:=hent.sim (N:=8) (by simp)
 have hS:qG 0 [SV.one (T.imm p n rows)]=[(0, .one (.imm p n rows))]:=rfl;have hN:dE []=0:=rfl;rw[hS,hN]at hsim;have fin: ∀(σ:St)(v:SV)(ρ1:Rho)(S1:Rds)(a1:Act)(w1:World),Sim w (wOf [] ρ) S ρ 0 8 ρ1 S1 σ a1 w1→bR 2 σ.sl=some v→leave 0 σ [v]=some (.one (.sl 0 0 rows.length),[.lst n rows])→
   bodyPost P fn (fun| .returned u,w'=>Exit w (wOf [] ρ) S ρ (dE []) (.one (.sl 0 0 rows.length)) [.lst n rows] u w'|_,_=>False) .ret a1 w1:=by
  intro σ v ρ1 S1 a1 w1 hs hv hl;have hrs:IJ P 8 fn.results.toList=some [.tmp 2]:=by rw[hr];rfl
  obtain⟨us1,k1,k2,k3⟩:=GL (P:=P) hs fn.results.toList _ hrs [v] (by simp[eU,hv])
  refine⟨hs.defers,_,?_,hs.leave k2 k3 hl⟩;rw[GK];simp only[Array.mapM_eq_mapM_toList,Sem.run_bind,Sem.run_map,k1]
  match us1 with
  |[]=>rfl
  |[u]=>rfl
  |x::y::r=>rfl
 refine calls_of_wp hf hb ?_;rw[hn];refine wp_seq (wp_mono (IV hR hdr (n:=1) _ _ hA _ _ _ _ _ (.nor ⟨x7 p n rows,[]⟩) hsim (by simp only[fY,dY,kH,K.run,K.exec,St.ev,Option.bind_some,setD,K.dst,St.set,trim,x7])) fun ex a1 w1 hp=>?_)
 cases ex with
 |normal=>
  obtain⟨σ1,ρ1,S1,e1,hs1⟩:=hp;obtain rfl:=Out.nor.inj e1;refine wp_seq (wp_seq (wp_region ?_));show wpOps P #[o1,o2] _ [0,1] a1 w1
  simp only[wpOps];refine O0 hR hs1 ho1 (σ':=⟨(3, .one (.imm p n rows))::x7 p n rows,[]⟩) (by simp[kH,K.run,K.exec,St.ev,setD,K.dst,St.set,bR,x7]) fun ρ2 S2 a2 w2 hs2=>?_
  have h3:RS ρ2 w2 S2 (.one (.imm p n rows)) (a2.tmps.getD 3 undef):=(hs2.slots 3 _ (by simp[bR])).2
  have hval: ∃ad l c,a2.tmps.getD 3 undef= .slice ad l c∧(ad.isNone=true→rows=[]):=by
   generalize a2.tmps.getD 3 undef=v at h3;cases h3 with
   |one h=>cases h with
    |ri h=>cases h with
     |nil=>exact⟨_,_,_,rfl,fun _=>rfl⟩
     |imm=>exact⟨_,_,_,rfl,fun h=>by simp at h⟩
  obtain⟨ad,l,c,hv,hnil⟩:=hval;have hdo:lP P w (wOf [] ρ) S ρ 0 8 ⟨(3, .one (.imm p n rows))::x7 p n rows,[]⟩ a2 w2 o2 (.one (B ad.isNone)) []:=by
   refine eO hs2 (u:= .bool ad.isNone) ?_ .bool;simp only[execOp,ho2,Sem.run_bind];have e3:a2.eval (.tmp 3)= .slice ad l c:=hv;have e4:a2.eval (.const (.slice none 0 0))= .slice none 0 0:=rfl;rw[e3,e4];have hg:(eqGuard .eql t (.tmp 3) (.const (.slice none 0 0)) (.slice ad l c) (.slice none 0 0)).run P w2= .ok () w2:=rfl;have he:(Op.equal t (.slice ad l c) (.slice none 0 0)).run P w2= .ok ad.isNone w2:=aHC w2 9999 t e ad l c ht;simp[Go.binOp,he,hg]
  have hwant:Region.wanted o2 (yielded #[o1,o2] a2.tmps):=by simp[Region.wanted,hg2]
  show if Region.wanted o2 (yielded #[o1,o2] a2.tmps)then _ else _
  rw[if_pos hwant];refine .inl (OpDone.of_does hs2 hd2 (by decide) hdo _ _ fun ρ3 S3 a3 w3 hs3=>?_)
  have hc:a3.eval (.tmp 4)= .bool ad.isNone:=lE (hs3.slots 4 (.one (B ad.isNone)) (by simp[setD,St.set,bR])).2 rfl
  show(Code.cond (.tmp 4) x .skip).wp P _ a3 w3
  refine wp_cond hc ?_;cases hb:ad.isNone with
  |true=>
   rw[hb]at hs3;simp only[if_true];refine wp_mono (IV hR hdr (n:=1) _ _ hx _ _ _ _ _ _ hs3 (bRZ R)) fun ex a4 w4 hp4=>?_
   cases ex with
   |ret=>
    obtain⟨σ4,ρ4,S4,e4,hs4⟩:=hp4;obtain rfl:=Out.ret.inj e4;have:=hnil hb;subst this;exact fin _ (.one (.nls n)) ρ4 S4 a4 w4 hs4 (by simp[bR]) (aU7 rfl)
   |normal=>obtain⟨_,_,_,e4,_⟩:=hp4;simp at e4
   |exit id=>obtain⟨_,_,_,e4,_⟩:=hp4;simp at e4
   |goto l=>exact hp4.elim
   |panic ch=>exact hp4.elim
   |outgrown=>exact hp4.elim
  |false=>
   rw[hb]at hs3;refine wp_skip ?_;show y.wp P _ a3 w3
   refine wp_mono (IV hR hdr (n:=1) _ _ hy _ _ _ _ _ _ hs3 (bR0 R hz h1 h2)) fun ex a4 w4 hp4=>?_
   cases ex with
   |ret=>
    obtain⟨σ4,ρ4,S4,e4,hs4⟩:=hp4;obtain rfl:=Out.ret.inj e4;exact fin _ (.one (.sl 1 0 rows.length)) ρ4 S4 a4 w4 hs4 (by simp[bR]) (aU8 rfl)
   |normal=>obtain⟨_,_,_,e4,_⟩:=hp4;simp at e4
   |exit id=>obtain⟨_,_,_,e4,_⟩:=hp4;simp at e4
   |goto l=>exact hp4.elim
   |panic ch=>exact hp4.elim
   |outgrown=>exact hp4.elim
 |exit id=>obtain⟨_,_,_,e1,_⟩:=hp;simp at e1
 |ret=>obtain⟨_,_,_,e1,_⟩:=hp;simp at e1
 |goto l=>exact hp.elim
 |panic ch=>exact hp.elim
 |outgrown=>exact hp.elim
def YS(n by_:Nat):List SV→List Blk→Option (SV×List Blk)
 |[.one (.imm _ m rows)],[]=>if m=n∧rows.length*by_≤room∧rows.length≤room then some (.one (.sl 0 0 rows.length),[.lst n rows])else none
 |_,_=>none
def FH:List (FuncId×Nat×Nat)→Rt
 |[],_,_,_=>none
 |(g,n,b)::r,f,args,hp=>if g=f then YS n b args hp else FH r f args hp
theorem bAM(P:Program):KV P (FH []):=fun _ _ _ _ _ h=>by simp[FH]at h
theorem aEY{P:Program}(hm:P.follows .mixedOrders=true){f:FuncId}{n by_:Nat}(s:CloneSh P f n by_){r:List (FuncId×Nat×Nat)}(hr:KV P (FH r)):KV P (FH ((f,n,by_)::r)):=fun g args hp res hp' h=>by
 unfold FH at h;split at h
 ·rename_i e;subst e;unfold YS at h;split at h
  ·rename_i p m rows;obtain⟨⟨rfl,h1,h2⟩,h3⟩:=cB h;simp only[Option.some.injEq,Prod.mk.injEq]at h3;obtain⟨rfl,rfl⟩:=h3;exact⟨⟨_,_,s.hf,s.hb,s.hname⟩,aZC (aEV P) (WT hm) s h1 h2⟩
  ·simp at h
 ·exact hr g args hp res hp' h
end Go.Zq

namespace Go.Zq
open Go
def cAA:List SV→SV
 |[v]=>v
 |vs=> .tup vs
section
variable{R:Rt}{nb n:Nat}{x y:C}{σ σ1:St}{id:Nat}
end
end Go.Zq

namespace Go.Zq
open Option renaming bind_eq_some_iff → qB
open Option.some renaming injEq → qI
open Prod.mk renaming injEq → qP
open Go
theorem bJ{a b:Bool}(h:(a&&b)=true):a=true∧b=true:=by simpa using h
def KZ:List Src→Nat→Nat→Nat→Nat→Option (Nat×Bool)
 |[],_,_,_,_=>none
 | .lst id o l::r,k,j,off,len=>if id=j then some (k,decide (o=off)&&decide (l=len))else KZ r (k+1) j off len
 |_::r,k,j,off,len=>KZ r (k+1) j off len
theorem D7: ∀{l:List Src}{k j off len n:Nat},KZ l k j off len=some (n,true)→BZ l k j off len=some n
 |[],k,j,off,len,n,h=>by simp[KZ]at h
 | .lst id o l::r,k,j,off,len,n,h=>by
   simp only[KZ]at h;simp only[BZ];split at h
   ·rename_i e;simp only[qI,qP,Bool.and_eq_true,decide_eq_true_eq]at h;rw[if_pos ⟨e,h.2.1,h.2.2⟩,h.1]
   ·rename_i e;rw[if_neg (fun x=>e x.1)]
    exact D7 h
 | .box _ _ _::r,k,j,off,len,n,h=>D7 (l:=r) h
 | .nil _::r,k,j,off,len,n,h=>D7 (l:=r) h
def OL(src:List Src)(m:Nat):T→Option ((T×Nat)×Bool)
 | .lit v=>some ((.lit v,m),true)
 | .nls _=>(aEB src 0 m).bind fun k=>some ((.sl k 0 0,m+1),true)
 | .sl id off len=>(KZ src 0 id off len).bind fun k=>some ((.sl k.1 0 len,m),k.2)
 | .imm p n rows=>some ((.imm p n rows,m),true)
 | .clo f caps=>(IG src caps).bind fun caps=>some ((.clo f caps,m),true)
 | .ptr id row off=>(YD src (.ptr id row off)).bind fun t=>some ((t,m),true)
 | .ip _=>none
theorem O1{src:List Src}{m:Nat}{t:T}{r:T×Nat}(h:OL src m t=some (r,true)):ren src m t=some r:=by
 cases t with
 |lit v=>simpa [OL,ren]using h
 |nls n=>
  simp only[OL,qB,qI,qP,and_true]at h;obtain⟨k,hk,rfl⟩:=h;simp[ren,hk]
 |sl id off len=>
  simp only[OL,qB,qI,qP]at h;obtain⟨k,hk,rfl,h2⟩:=h;have:=D7 (n:=k.1) (by rw[hk,←h2])
  simp[ren,this]
 |imm p n rows=>simpa [OL,ren]using h
 |clo f caps=>
  simp only[OL,qB,qI,qP,and_true]at h;obtain⟨k,hk,rfl⟩:=h;simp[ren,hk]
 |ptr id row off=>
  simp only[OL,qB,qI,qP,and_true]at h;obtain⟨k,hk,rfl⟩:=h;simp[ren,hk]
 |ip _=>simp[OL]at h
def xN(src:List Src)(m:Nat):Row→Option ((Row×Nat)×Bool)
 |[]=>some (([],m),true)
 |t::r=>(OL src m t).bind fun x=>(xN src x.1.2 r).bind fun y=>some ((x.1.1::y.1.1,y.1.2),x.2&&y.2)
theorem vP{src:List Src}: ∀{m:Nat}{t:Row}{r:Row×Nat},xN src m t=some (r,true)→rL src m t=some r
 |m,[],r,h=>by simpa [xN,rL]using h
 |m,t::s,r,h=>by
  simp only[xN,qB,qI,qP]at h;obtain⟨x,hx,y,hy,rfl,ho⟩:=h;obtain⟨o1,o2⟩:=bJ ho;have h1:=O1 (r:=x.1) (by rw[hx,←o1])
  have h2:=vP (r:=y.1) (by rw[hy,←o2])
  simp[rL,h1,h2]
def AG(wm:Bool)(hp:List Blk):T→Option (List Row×Bool)
 | .nls _=>some ([],true)
 | .imm _ _ rows=>some (rows,true)
 | .sl id off len=>
   match hp[id]? with
   |some (.lst _ rows)=>if wm=true then some (rows,decide (off=0)&&decide (len=rows.length))else some ((rows.drop off).take len,decide (off+len≤rows.length))
   |_=>none
 |_=>none
theorem vQ{wm:Bool}{hp:List Blk}{t:T}{r:List Row}(h:AG wm hp t=some (r,true)):dO hp t=some r:=by
 unfold AG at h;unfold dO;split at h
 ·simpa using h
 ·simpa using h
 ·split at h
  ·rename_i hb;simp only[hb];split at h
   ·simp only[qI,qP,Bool.and_eq_true,decide_eq_true_eq]at h;obtain⟨rfl,rfl,rfl⟩:=h;simp
   ·simp only[qI,qP,decide_eq_true_eq]at h;rw[if_pos h.2,h.1]
  ·simp at h
 ·simp at h
def FJ(wm:Bool)(hp:List Blk)(src:List Src):T→Option (T×Bool)
 | .lit v=>some (.lit v,true)
 | .nls n=>some (.imm false n [],true)
 | .imm p n rows=>some (.imm p n rows,true)
 | .sl id off len=>(m5 hp (.sl id off len)).bind fun n=>(AG wm hp (.sl id off len)).bind fun rows=>if src.all (aGQ id)then some (.imm false n rows.1,rows.2)else none
 | .clo f caps=>(IG src caps).bind fun caps=>some (.clo f caps,true)
 | .ptr id row off=>(YD src (.ptr id row off)).bind fun t=>some (t,true)
 | .ip _=>none
theorem aEZ{wm:Bool}{hp:List Blk}{src:List Src}{t r:T}(h:FJ wm hp src t=some (r,true)):B0 hp src t=some r:=by
 cases t with
 |lit v=>simpa [FJ,B0]using h
 |nls n=>simpa [FJ,B0]using h
 |sl id off len=>
  simp only[FJ,qB]at h;obtain⟨n,hn,rows,hr,h⟩:=h;split at h
  ·rename_i e;simp only[qI,qP]at h;have:=vQ (r:=rows.1) (by rw[hr,←h.2])
   simp[B0,hn,this,e,h.1]
  ·simp at h
 |imm p n rows=>simpa [FJ,B0]using h
 |clo f caps=>
  simp only[FJ,qB,qI,qP,and_true]at h;obtain⟨k,hk,rfl⟩:=h;simp[B0,hk]
 |ptr id row off=>
  simp only[FJ,qB,qI,qP,and_true]at h;obtain⟨k,hk,rfl⟩:=h;simp[B0,hk]
 |ip _=>simp[FJ]at h
def CC(wm:Bool)(hp:List Blk)(src:List Src):Row→Option (Row×Bool)
 |[]=>some ([],true)
 |t::r=>(FJ wm hp src t).bind fun t=>(CC wm hp src r).bind fun r=>some (t.1::r.1,t.2&&r.2)
theorem NX{wm:Bool}{hp:List Blk}{src:List Src}: ∀{t r:Row},CC wm hp src t=some (r,true)→xF hp src t=some r
 |[],r,h=>by simpa [CC,xF]using h
 |t::s,r,h=>by
  simp only[CC,qB,qI,qP]at h;obtain⟨x,hx,y,hy,rfl,ho⟩:=h;obtain⟨o1,o2⟩:=bJ ho;have h1:=aEZ (r:=x.1) (by rw[hx,←o1])
  have h2:=NX (r:=y.1) (by rw[hy,←o2])
  simp[xF,h1,h2]
def nK(wm:Bool)(hp:List Blk)(src:List Src):Nat→List Src→Option ((List Blk×Nat)×Bool)
 |m,[]=>some (([],m),true)
 |m,s::r=>
  match s with
  | .box id off n=>
    (xN src m (sT hp (.box id off n))).bind fun x=>(nK wm hp src x.1.2 r).bind fun y=>some ((.box x.1.1::y.1.1,y.1.2),x.2&&y.2)
  | .lst id off len=>
    (m5 hp (.sl id off len)).bind fun n=>(AG wm hp (.sl id off len)).bind fun rows=>(nK wm hp src m r).bind fun y=>some ((.lst n rows.1::y.1.1,y.1.2),rows.2&&y.2)
  | .nil n=>(nK wm hp src m r).bind fun y=>some ((.lst n []::y.1.1,y.1.2),y.2)
theorem pX{wm:Bool}{hp:List Blk}{src:List Src}: ∀{l:List Src}{m:Nat}{r:List Blk×Nat},nK wm hp src m l=some (r,true)→eD hp src m l=some r
 |[],m,r,h=>by simpa [nK,eD]using h
 | .box id off n::s,m,r,h=>by
   simp only[nK,qB,qI,qP]at h;obtain⟨x,hx,y,hy,rfl,ho⟩:=h;obtain⟨o1,o2⟩:=bJ ho;have h1:=vP (r:=x.1) (by rw[hx,←o1])
   have h2:=pX (r:=y.1) (by rw[hy,←o2])
   simp[eD,h1,h2]
 | .lst id off len::s,m,r,h=>by
   simp only[nK,qB,qI,qP]at h;obtain⟨n,hn,x,hx,y,hy,rfl,ho⟩:=h;obtain⟨o1,o2⟩:=bJ ho;have h1:=vQ (r:=x.1) (by rw[hx,←o1])
   have h2:=pX (r:=y.1) (by rw[hy,←o2])
   simp[eD,hn,h1,h2]
 | .nil n::s,m,r,h=>by
   simp only[nK,qB,qI,qP]at h;obtain⟨y,hy,rfl,ho⟩:=h;have h2:=pX (r:=y.1) (by rw[hy,←ho])
   simp[eD,h2]
def qM(wm:Bool)(hp:List Blk)(src:List Src):Nat→List (SV×Nat×Bool)→Option (List SV×Bool)
 |_,[]=>some ([],true)
 |m,(v,_,mv)::r=>
  match v with
  | .one t=>
    if mv then(OL src m t).bind fun x=>(qM wm hp src x.1.2 r).bind fun r=>some (.one x.1.1::r.1,x.2&&r.2)
    else(FJ wm hp src t).bind fun x=>(qM wm hp src m r).bind fun r=>some (.one x.1::r.1,x.2&&r.2)
  | .agg ts=>
    if mv then(xN src m ts).bind fun x=>(qM wm hp src x.1.2 r).bind fun r=>some (.agg x.1.1::r.1,x.2&&r.2)
    else(CC wm hp src ts).bind fun x=>(qM wm hp src m r).bind fun r=>some (.agg x.1::r.1,x.2&&r.2)
  |_=>none
theorem pY{wm:Bool}{hp:List Blk}{src:List Src}: ∀{vs:List (SV×Nat×Bool)}{m:Nat}{r:List SV},qM wm hp src m vs=some (r,true)→lB hp src m vs=some r
 |[],m,r,h=>by simpa [qM,lB]using h
 |(v,n,mv)::s,m,r,h=>by
  unfold qM at h;unfold lB;split at h
  ·cases mv
   ·simp only[Bool.false_eq_true,if_false,qB,qI,qP]at h⊢;obtain⟨x,hx,y,hy,rfl,ho⟩:=h;obtain⟨o1,o2⟩:=bJ ho;exact⟨x.1,aEZ (by rw[hx,←o1]),y.1,pY (by rw[hy,←o2]),rfl⟩
   ·simp only[if_true,qB,qI,qP]at h⊢;obtain⟨x,hx,y,hy,rfl,ho⟩:=h;obtain⟨o1,o2⟩:=bJ ho;exact⟨x.1,O1 (by rw[hx,←o1]),y.1,pY (by rw[hy,←o2]),rfl⟩
  ·cases mv
   ·simp only[Bool.false_eq_true,if_false,qB,qI,qP]at h⊢;obtain⟨x,hx,y,hy,rfl,ho⟩:=h;obtain⟨o1,o2⟩:=bJ ho;exact⟨x.1,NX (by rw[hx,←o1]),y.1,pY (by rw[hy,←o2]),rfl⟩
   ·simp only[if_true,qB,qI,qP]at h⊢;obtain⟨x,hx,y,hy,rfl,ho⟩:=h;obtain⟨o1,o2⟩:=bJ ho;exact⟨x.1,vP (by rw[hx,←o1]),y.1,pY (by rw[hy,←o2]),rfl⟩
  ·simp at h
def YU:List Src→Nat→Nat→Nat→Option Bool
 |[],_,_,_=>none
 | .lst id o l::r,j,off,len=>if id=j then some (decide (o=off)&&decide (l=len))else YU r j off len
 |_::r,j,off,len=>YU r j off len
theorem D8: ∀{l:List Src}{j off len:Nat},YU l j off len=some true→Src.lst j off len∈l
 |[],j,off,len,h=>by simp[YU]at h
 | .lst id o l::r,j,off,len,h=>by
   simp only[YU]at h;split at h
   ·rename_i e;simp only[qI,Bool.and_eq_true,decide_eq_true_eq]at h;rw[e,h.1,h.2];exact List.mem_cons_self ..
   ·exact List.mem_cons_of_mem _ (D8 h)
 | .box _ _ _::r,j,off,len,h=>List.mem_cons_of_mem _ (D8 (l:=r) h)
 | .nil _::r,j,off,len,h=>List.mem_cons_of_mem _ (D8 (l:=r) h)
theorem D9: ∀{l:List Src}{j off len:Nat},YU l j off len=none→Src.lst j off len∉l
 |[],j,off,len,h=>by simp
 | .lst id o l::r,j,off,len,h=>by
   simp only[YU]at h;split at h
   ·simp at h
   ·rename_i e;simp only[List.mem_cons,Src.lst.injEq,not_or];exact⟨fun x=>e x.1.symm,D9 h⟩
 | .box _ _ _::r,j,off,len,h=>by
   simp only[List.mem_cons,reduceCtorEq,false_or];exact D9 (l:=r) h
 | .nil _::r,j,off,len,h=>by
   simp only[List.mem_cons,reduceCtorEq,false_or];exact D9 (l:=r) h
def QE(l:List Src×Bool):T→List Src×Bool
 | .sl id off len=>match YU l.1 id off len with
   |some b=>(l.1,b&&l.2)
   |none=>(l.1++[.lst id off len],l.2)
 | .nls n=>(l.1++[.nil n],l.2)
 |_=>l
theorem aZF{l:List Src×Bool}{t:T}(h:(QE l t).2=true):l.2=true∧(QE l t).1=aEA l.1 t:=by
 cases t with
 |sl id off len=>
  simp only[QE]at h⊢;cases hl:YU l.1 id off len with
  |none=>
   simp only[hl]at h⊢;refine⟨h,?_⟩;simp only[aEA,aYB,D9 hl,if_false]
  |some b=>
   simp only[hl]at h⊢;obtain⟨h1,h2⟩:=bJ h;subst h1;refine⟨h2,?_⟩;simp only[aEA,aYB,D8 hl,if_true]
 |_=>exact⟨h,rfl⟩
theorem LA: ∀{ts:Row}{l:List Src×Bool},(ts.foldl QE l).2=true→l.2=true∧(ts.foldl QE l).1=ts.foldl aEA l.1
 |[],l,h=>⟨h,rfl⟩
 |t::r,l,h=>by
  rw[List.foldl_cons]at h;obtain⟨h1,h2⟩:=LA h;obtain⟨h3,h4⟩:=aZF h1;refine⟨h3,?_⟩;rw[List.foldl_cons,h2,h4,List.foldl_cons]
def EA(hp:List Blk)(bx:List Src)(cells:Row):List Src×Bool:=
 let bx:=PI hp 6 0 bx
 let r:=cells.foldl QE ((bx.flatMap (sT hp)).foldl QE ([],true))
 (bx++r.1,r.2)
theorem GO{hp:List Blk}{bx:List Src}{cells:Row}(h:(EA hp bx cells).2=true):(EA hp bx cells).1=vJ hp bx cells:=by
 unfold EA at h⊢;simp only at h⊢;obtain⟨h1,h2⟩:=LA h;obtain⟨-,h4⟩:=LA h1;rw[h2,h4];rfl
def YV(wm:Bool)(hp:List Blk)(vs:List (SV×Nat×Bool)):Option (Ent×Bool):=
 let src:=EA hp (vs.foldl (fun l v=>(eY v.1).foldl (KO hp v.2.1) l) []) (vs.flatMap fun v=>if v.2.2 then eY v.1 else [])
 if oO hp src.1 then
  (nK wm hp src.1 0 src.1).bind fun x=>(qM wm hp src.1 x.1.2 vs).bind fun args=>some (⟨args.1,x.1.1,src.1,vs.any xY⟩,src.2&&(x.2&&args.2))
 else none
theorem WU{wm:Bool}{hp:List Blk}{vs:List (SV×Nat×Bool)}{e:Ent}(h:YV wm hp vs=some (e,true)):enter hp vs=some e:=by
 unfold YV at h;simp only at h;split at h
 ·rename_i hs;simp only[qB,qI,qP]at h;obtain⟨x,hx,y,hy,rfl,ho⟩:=h;obtain⟨o1,ho⟩:=bJ ho;obtain⟨o2,o3⟩:=bJ ho;have hg:=GO o1;have h1:=pX (r:=x.1) (by rw[hx,←o2])
  have h2:=pY (r:=y.1) (by rw[hy,←o3])
  rw[hg]at hs h1 h2;unfold enter;simp only;rw[if_pos hs];simp only[h1,h2,Option.bind_some,hg]
 ·simp at h
def uX(src:List Src):Nat→List SV→Option (List SV×Bool)
 |_,[]=>some ([],true)
 |m, .one t::r=>(OL src m t).bind fun x=>(uX src x.1.2 r).bind fun r=>some (.one x.1.1::r.1,x.2&&r.2)
 |m, .agg ts::r=>(xN src m ts).bind fun x=>(uX src x.1.2 r).bind fun r=>some (.agg x.1.1::r.1,x.2&&r.2)
 |_,_::_=>none
theorem GP{src:List Src}: ∀{vs:List SV}{m:Nat}{r:List SV},uX src m vs=some (r,true)→pJ src m vs=some r
 |[],m,r,h=>by simpa [uX,pJ]using h
 | .one t::s,m,r,h=>by
   simp only[uX,qB,qI,qP]at h;obtain⟨x,hx,y,hy,rfl,ho⟩:=h;obtain⟨o1,o2⟩:=bJ ho;have h1:=O1 (r:=x.1) (by rw[hx,←o1])
   have h2:=GP (r:=y.1) (by rw[hy,←o2])
   simp[pJ,h1,h2]
 | .agg t::s,m,r,h=>by
   simp only[uX,qB,qI,qP]at h;obtain⟨x,hx,y,hy,rfl,ho⟩:=h;obtain⟨o1,o2⟩:=bJ ho;have h1:=vP (r:=x.1) (by rw[hx,←o1])
   have h2:=GP (r:=y.1) (by rw[hy,←o2])
   simp[pJ,h1,h2]
 | .und::s,m,r,h=>by simp[uX]at h
 | .tup _::s,m,r,h=>by simp[uX]at h
def YW(wm:Bool)(nb:Nat)(σ:St)(vs:List SV):Option ((SV×List Blk)×Bool):=
 let src:=EA σ.hp ((vs.flatMap eY).foldl (KO σ.hp 0) (fE σ.hp nb)) (vs.flatMap eY)
 if oO σ.hp src.1=true∧src.1.take nb=fE σ.hp nb then
  (nK wm σ.hp src.1 0 src.1).bind fun x=>(uX src.1 x.1.2 vs).bind fun vs=>some ((cAA vs.1,x.1.1),src.2&&(x.2&&vs.2))
 else none
theorem WV{wm:Bool}{nb:Nat}{σ:St}{vs:List SV}{r:SV×List Blk}(h:YW wm nb σ vs=some (r,true)):leave nb σ vs=some r:=by
 unfold YW at h;simp only at h;split at h
 ·rename_i hs;simp only[qB,qI,qP]at h;obtain⟨x,hx,y,hy,rfl,ho⟩:=h;obtain⟨o1,ho⟩:=bJ ho;obtain⟨o2,o3⟩:=bJ ho;have hg:=GO o1;have h1:=pX (r:=x.1) (by rw[hx,←o2])
  have h2:=GP (r:=y.1) (by rw[hy,←o3])
  rw[hg]at hs h1 h2;unfold leave;simp only;rw[if_pos hs];simp only[h1,h2,Option.bind_some];rfl
 ·simp at h
def AH(σ:St)(src:List Src):Nat→List Nat→Option (List (Nat×SV)×Bool)
 |_,[]=>some ([],true)
 |m,s::r=>(bR s σ.sl).bind fun v=>match v with
  | .one t=>(OL src m t).bind fun x=>(AH σ src x.1.2 r).bind fun l=>some ((s, .one x.1.1)::l.1,x.2&&l.2)
  | .agg ts=>(xN src m ts).bind fun x=>(AH σ src x.1.2 r).bind fun l=>some ((s, .agg x.1.1)::l.1,x.2&&l.2)
  | .und=>(AH σ src m r).bind fun l=>some ((s, .und)::l.1,l.2)
  |_=>none
theorem AI{σ:St}{src:List Src}: ∀{l:List Nat}{m:Nat}{r:List (Nat×SV)},AH σ src m l=some (r,true)→lD σ src m l=some r
 |[],m,r,h=>by simpa [AH,lD]using h
 |s::t,m,r,h=>by
  simp only[AH,qB]at h;obtain⟨v,hv,h⟩:=h;simp only[lD,hv,Option.bind_some];split at h
  ·simp only[qB,qI,qP]at h⊢;obtain⟨x,hx,y,hy,rfl,ho⟩:=h;obtain⟨o1,o2⟩:=bJ ho;exact⟨x.1,O1 (by rw[hx,←o1]),y.1,AI (by rw[hy,←o2]),rfl⟩
  ·simp only[qB,qI,qP]at h⊢;obtain⟨x,hx,y,hy,rfl,ho⟩:=h;obtain⟨o1,o2⟩:=bJ ho;exact⟨x.1,vP (by rw[hx,←o1]),y.1,AI (by rw[hy,←o2]),rfl⟩
  ·simp only[qB,qI,qP]at h⊢;obtain⟨y,hy,rfl,ho⟩:=h;exact⟨y.1,AI (by rw[hy,←ho]),rfl⟩
  ·simp at h
def LB(wm:Bool)(nb:Nat)(live:List Nat)(σ:St):Option (St×Bool):=
 let src:=EA σ.hp ((nW σ live).foldl (KO σ.hp 0) (fE σ.hp nb)) (nW σ live)
 if oO σ.hp src.1=true∧src.1.take nb=fE σ.hp nb then
  (nK wm σ.hp src.1 0 src.1).bind fun x=>(AH σ src.1 x.1.2 live).bind fun sl=>some (⟨sl.1,x.1.1⟩,src.2&&(x.2&&sl.2))
 else none
theorem EB{wm:Bool}{nb:Nat}{live:List Nat}{σ σ':St}(h:LB wm nb live σ=some (σ',true)):canon nb live σ=some σ':=by
 unfold LB at h;simp only at h;split at h
 ·rename_i hs;simp only[qB,qI,qP]at h;obtain⟨x,hx,y,hy,rfl,ho⟩:=h;obtain⟨o1,ho⟩:=bJ ho;obtain⟨o2,o3⟩:=bJ ho;have hg:=GO o1;have h1:=pX (r:=x.1) (by rw[hx,←o2])
  have h2:=AI (r:=y.1) (by rw[hy,←o3])
  rw[hg]at hs h1 h2;unfold canon;simp only;rw[if_pos hs];simp only[h1,h2,Option.bind_some]
 ·simp at h
def aZG(hp:List Blk):T→Option Bool
 | .nls _=>some true
 | .sl id off len=>match hp[id]? with
   |some (.lst _ rows)=>some (decide (off+len=rows.length))
   |_=>none
 |_=>none
theorem aZH{hp:List Blk}{t:T}(h:aZG hp t=some true):PL hp t=true:=by
 unfold aZG at h;unfold PL;split at h
 ·rfl
 ·split at h
  ·rename_i hb;simp only[hb];simpa using h
  ·simp at h
 ·simp at h
def bJL(wm:Bool)(hp:List Blk)(by_ sz:Nat)(t s:T):Option ((SV×List Blk)×Bool):=
 (AG wm hp t).bind fun xs=>(AG wm hp s).bind fun ys=>(aZG hp t).bind fun tl=>
 if m5 hp t=some sz∧m5 hp s=some sz then
  some ((.one (.sl hp.length 0 (xs.1++ys.1).length),IH hp t++[.lst sz (xs.1++ys.1)]),xs.2&&(ys.2&&(tl&&(decide ((xs.1.length+ys.1.length)*by_≤room)&&decide (xs.1.length+ys.1.length≤room)))))
 else none
theorem bAO{wm:Bool}{R:Zq.Rt}{ev:Ev}{hp:List Blk}{d by_ sz:Nat}{x y:Opd}{v u:SV}{t s:T}{r:SV×List Blk}(hx:ev x=some v)(ht:i9 v=some t)(hy:ev y=some u)(hs:i9 u=some s)(h:bJL wm hp by_ sz t s=some (r,true)):
  (K.app d by_ sz x y).exec R ev hp=some r:=by
 simp only[bJL,qB]at h;obtain⟨xs,h1,ys,h2,tl,h3,h⟩:=h;split at h
 ·rename_i hc;simp only[qI,qP,Bool.and_eq_true,decide_eq_true_eq]at h;obtain⟨rfl,o1,o2,o3,o4,o5⟩:=h;subst o3;have e1:=vQ (r:=xs.1) (by rw[h1,←o1])
  have e2:=vQ (r:=ys.1) (by rw[h2,←o2])
  simp only[K.exec,hx,ht,hy,hs,Option.bind_some,e1,e2];rw[if_pos ⟨aZH h3,hc.1,hc.2,o4,o5⟩]
 ·simp at h
def bAP(hp:List Blk):T→Option (Int×Bool)
 | .nls _=>some (0,true)
 | .imm _ _ rows=>some ((rows.length:Int),true)
 | .sl id off len=>match hp[id]? with
   |some (.lst _ rows)=>some ((len:Int),decide (off+len≤rows.length))
   |_=>none
 |_=>none
theorem aN5{hp:List Blk}{t:T}{n:Int}(h:bAP hp t=some (n,true)): ∃rows,dO hp t=some rows∧(rows.length:Int)=n:=by
 unfold bAP at h;unfold dO;split at h
 ·simp only[qI,qP,and_true]at h;exact⟨[],rfl,by simp[←h]⟩
 ·simp only[qI,qP,and_true]at h;exact⟨_,rfl,h⟩
 ·split at h
  ·rename_i hb;simp only[qI,qP,decide_eq_true_eq]at h;refine⟨_,by simp only[hb];rw[if_pos h.2],?_⟩
   rw[←h.1,List.length_take,List.length_drop,Nat.min_eq_left (by omega)]
  ·simp at h
 ·simp at h
def bJM(hp:List Blk)(sz:Nat)(t:T)(n l h:Int):Option (T×Bool):=
 (match t with
   | .sl id off ln=>if m5 hp (.sl id off ln)=some sz then some (.sl id (off+l.toNat) (h.toNat-l.toNat))else none
   | .imm p m rows=>if m=sz then some (.imm p m ((rows.drop l.toNat).take (h.toNat-l.toNat)))else none
   | .nls m=>some (.nls m)
   |_=>none:Option T).map (·,decide (0≤l)&&(decide (l≤h)&&decide (h≤n)))
theorem bAQ{hp:List Blk}{sz:Nat}{t r:T}{rows:List Row}{n l h:Int}(hn:(rows.length:Int)=n)(hc:bJM hp sz t n l h=some (r,true)):cut hp sz t rows l h=some r:=by
 simp only[bJM,Option.map_eq_some_iff,qP,Bool.and_eq_true,decide_eq_true_eq]at hc;obtain⟨x,hx,rfl,h1,h2,h3⟩:=hc;unfold cut;rw[if_pos ⟨h1,h2,by omega⟩]
 exact hx
def bJN(hp:List Blk)(by_:Nat)(z:Row)(n c:Int):(SV×List Blk)×Bool:=
 ((.one (.sl hp.length 0 n.toNat),hp++[.lst z.length (List.replicate n.toNat z)]),decide (0≤n)&&(decide (n≤c)&&(decide (c*by_≤room)&&decide (c≤room))))
theorem bAR{R:Zq.Rt}{ev:Ev}{hp:List Blk}{d by_:Nat}{z:Row}{n c:Opd}{v u:SV}{k k':IntKind}{nn cc:Int}{r:SV×List Blk}(hn:ev n=some v)(hv:vI v=some (k,nn))(hc:ev c=some u)(hu:vI u=some (k',cc))(h:bJN hp by_ z nn cc=(r,true)):
  (K.mks d by_ z n c).exec R ev hp=some r:=by
 simp only[bJN,qP,Bool.and_eq_true,decide_eq_true_eq]at h;obtain⟨rfl,h1,h2,h3,h4⟩:=h;simp only[K.exec,hn,hv,hc,hu,Option.bind_some];rw[if_pos ⟨h1,h2,h3,h4⟩]
def bJO(wm:Bool)(hp:List Blk)(sz:Nat)(t s:T):Option ((SV×List Blk)×Bool):=
 match t with
 | .sl id off len=>match hp[id]? with
   |some (.lst n rows)=>(AG wm hp s).bind fun ys=>if n=sz∧m5 hp s=some sz then
     some ((.one (I (min ys.1.length len:Nat)),hp.set id (.lst n (rows.take off++(ys.1.take (min ys.1.length len)++rows.drop (off+min ys.1.length len))))),ys.2&&decide (off+len≤rows.length))
    else none
   |_=>none
 |_=>none
theorem bAS{R:Zq.Rt}{ev:Ev}{wm:Bool}{hp:List Blk}{d sz:Nat}{x y:Opd}{v u:SV}{t s:T}{r:SV×List Blk}(hx:ev x=some v)(ht:i9 v=some t)(hy:ev y=some u)(hs:i9 u=some s)(h:bJO wm hp sz t s=some (r,true)):
  (K.cpy d sz x y).exec R ev hp=some r:=by
 unfold bJO at h;split at h
 ·split at h
  ·rename_i id off len _ n rows hb;simp only[qB]at h;obtain⟨ys,h1,h⟩:=h;split at h
   ·rename_i hc;simp only[qI,qP,Bool.and_eq_true,decide_eq_true_eq]at h;obtain⟨rfl,o1,o2⟩:=h;have e1:=vQ (r:=ys.1) (by rw[h1,←o1])
    have e2:dO hp (.sl id off len)=some ((rows.drop off).take len):=by
     simp only[dO,hb];rw[if_pos o2]
    have e3:((rows.drop off).take len).length=len:=by
     rw[List.length_take,List.length_drop];omega
    simp only[K.exec,hx,ht,hy,hs,Option.bind_some,e1,e2,hb,e3];rw[if_pos hc]
   ·simp at h
  ·simp at h
 ·simp at h
def bJP(hp:List Blk)(sz:Nat)(z:Row)(t:T):Option ((SV×List Blk)×Bool):=
 match t with
 | .sl id off len=>match hp[id]? with
   |some (.lst n rows)=>if n=sz then
     some ((.tup [],hp.set id (.lst n (rows.take off++(List.replicate len z++rows.drop (off+len))))),decide (off+len≤rows.length))
    else none
   |_=>none
 |_=>none
theorem bAT{R:Zq.Rt}{ev:Ev}{hp:List Blk}{sz:Nat}{z:Row}{x:Opd}{v:SV}{t:T}{r:SV×List Blk}(hx:ev x=some v)(ht:i9 v=some t)(h:bJP hp sz z t=some (r,true)):
  (K.clr sz z x).exec R ev hp=some r:=by
 unfold bJP at h;split at h
 ·split at h
  ·rename_i id off len _ n rows hb;split at h
   ·rename_i hc;simp only[qI,qP,decide_eq_true_eq]at h;obtain⟨rfl,o2⟩:=h;simp only[K.exec,hx,ht,Option.bind_some,hb];rw[if_pos ⟨hc,o2⟩]
   ·simp at h
  ·simp at h
 ·simp at h
end Go.Zq

namespace Go.Zq
open Option renaming bind_eq_some_iff → qB
open Option.some renaming injEq → qI
open Prod.mk renaming injEq → qP
open Option renaming map_eq_some_iff → q_c
open Go
abbrev Qt:=FuncId→List SV→List Blk→Option ((SV×List Blk)×Bool)
def Qt.val(Q:Qt):Rt:=fun f a h=>(Q f a h).map (·.1)
def WW(R:Rt)(Q:Qt):Prop:= ∀f a h r,Q f a h=some (r,true)→R f a h=some r
def aHD(b:Bool):Value→Value→Option Value
 | .int k x, .int k' y=>if k=k' then some (.int k (bif b then x else y))else none
 | .bool x, .bool y=>some (.bool (bif b then x else y))
 | .string x, .string y=>some (.string (bif b then x else y))
 |_,_=>none
def YX(b:Bool):T→T→Option T
 | .lit v, .lit u=>(aHD b v u).bind fun v=>some (.lit v)
 | .ptr i r o, .ptr i' r' o'=>if i=i'∧r=r'∧o=o' then some (.ptr i r o)else none
 | .sl i o l, .sl i' o' l'=>if i=i'∧o=o' then some (.sl i o (bif b then l else l'))else none
 | .nls n, .nls n'=>if n=n' then some (.nls n)else none
 | .imm p n rows, .imm p' n' rows'=>if p=p'∧n=n' then some (.imm p n (bif b then rows else rows'))else none
 |_,_=>none
def sX(b:Bool):Row→Row→Option Row
 |[],[]=>some []
 |x::r,y::s=>(YX b x y).bind fun z=>(sX b r s).bind fun t=>some (z::t)
 |_,_=>none
def O2(b:Bool):SV→SV→Option SV
 | .und, .und=>some .und
 | .one t, .one u=>(YX b t u).bind fun t=>some (.one t)
 | .agg ts, .agg us=>(sX b ts us).bind fun ts=>some (.agg ts)
 |_,_=>none
def vR(b:Bool):List SV→List SV→Option (List SV)
 |[],[]=>some []
 |x::r,y::s=>(O2 b x y).bind fun z=>(vR b r s).bind fun t=>some (z::t)
 |_,_=>none
def AJ(b:Bool):SV→SV→Option SV
 | .tup vs, .tup us=>(vR b vs us).bind fun vs=>some (.tup vs)
 |v,u=>O2 b v u
def QF(b:Bool):Blk→Blk→Option Blk
 | .dead, .dead=>some .dead
 | .box cs, .box ds=>(sX b cs ds).bind fun cs=>some (.box cs)
 | .lst n rows, .lst n' rows'=>if n=n' then some (.lst n (bif b then rows else rows'))else none
 |_,_=>none
def xO(b:Bool):List Blk→List Blk→Option (List Blk)
 |[],[]=>some []
 |x::r,y::s=>(QF b x y).bind fun z=>(xO b r s).bind fun t=>some (z::t)
 |_,_=>none
theorem aU9{b:Bool}{v u w:Value}(h:aHD b v u=some w):w=bif b then v else u:=by
 unfold aHD at h;split at h
 ·split at h
  ·rename_i k x k' y e;subst e;cases b<;>simp_all
  ·simp at h
 ·cases b<;>simp_all
 ·cases b<;>simp_all
 ·simp at h
theorem WX{b:Bool}{v u w:T}(h:YX b v u=some w):w=bif b then v else u:=by
 unfold YX at h;split at h
 ·simp only[qB,qI]at h;obtain⟨z,hz,rfl⟩:=h;rw[aU9 hz];cases b<;>rfl
 ·split at h
  ·rename_i e;obtain⟨rfl,rfl,rfl⟩:=e;cases b<;>simp_all
  ·simp at h
 ·split at h
  ·rename_i e;obtain⟨rfl,rfl⟩:=e;cases b<;>simp_all
  ·simp at h
 ·split at h
  ·rename_i e;subst e;cases b<;>simp_all
  ·simp at h
 ·split at h
  ·rename_i e;obtain⟨rfl,rfl⟩:=e;cases b<;>simp_all
  ·simp at h
 ·simp at h
theorem CD{b:Bool}: ∀{v u w:Row},sX b v u=some w→w=bif b then v else u
 |[],[],w,h=>by cases b<;>simp_all [sX]
 |x::r,y::s,w,h=>by
  simp only[sX,qB,qI]at h;obtain⟨z,hz,t,ht,rfl⟩:=h;rw[WX hz,CD ht];cases b<;>rfl
 |[],_::_,w,h=>by simp[sX]at h
 |_::_,[],w,h=>by simp[sX]at h
theorem QG{b:Bool}{v u w:SV}(h:O2 b v u=some w):w=bif b then v else u:=by
 unfold O2 at h;split at h
 ·cases b<;>simp_all
 ·simp only[qB,qI]at h;obtain⟨z,hz,rfl⟩:=h;rw[WX hz];cases b<;>rfl
 ·simp only[qB,qI]at h;obtain⟨z,hz,rfl⟩:=h;rw[CD hz];cases b<;>rfl
 ·simp at h
theorem NY{b:Bool}: ∀{v u w:List SV},vR b v u=some w→w=bif b then v else u
 |[],[],w,h=>by cases b<;>simp_all [vR]
 |x::r,y::s,w,h=>by
  simp only[vR,qB,qI]at h;obtain⟨z,hz,t,ht,rfl⟩:=h;rw[QG hz,NY ht];cases b<;>rfl
 |[],_::_,w,h=>by simp[vR]at h
 |_::_,[],w,h=>by simp[vR]at h
theorem AK{b:Bool}{v u w:SV}(h:AJ b v u=some w):w=bif b then v else u:=by
 unfold AJ at h;split at h
 ·simp only[qB,qI]at h;obtain⟨z,hz,rfl⟩:=h;rw[NY hz];cases b<;>rfl
 ·exact QG h
theorem aE0{b:Bool}{v u w:Blk}(h:QF b v u=some w):w=bif b then v else u:=by
 unfold QF at h;split at h
 ·cases b<;>simp_all
 ·simp only[qB,qI]at h;obtain⟨z,hz,rfl⟩:=h;rw[CD hz];cases b<;>rfl
 ·split at h
  ·rename_i e;subst e;cases b<;>simp_all
  ·simp at h
 ·simp at h
theorem AL{b:Bool}: ∀{v u w:List Blk},xO b v u=some w→w=bif b then v else u
 |[],[],w,h=>by cases b<;>simp_all [xO]
 |x::r,y::s,w,h=>by
  simp only[xO,qB,qI]at h;obtain⟨z,hz,t,ht,rfl⟩:=h;rw[aE0 hz,AL ht];cases b<;>rfl
 |[],_::_,w,h=>by simp[xO]at h
 |_::_,[],w,h=>by simp[xO]at h
def bJQ(o:BinOp):Value→Value→Option (Value×Bool)
 | .int k x, .int k' y=>
   match o with
   | .shl=>some (.int k (k.wrap (x*2^min y.toNat k.bits)),decide (0≤y))
   | .shr=>some (.int k (x.fdiv (2^min y.toNat k.bits)),decide (0≤y))
   | .quo=>if k=k' then some (.int k (k.wrap (x.tdiv y)),y !=0)else none
   | .rem=>if k=k' then some (.int k (x.tmod y),y !=0)else none
   |o=>if k=k' then(KM o k x y).map (·,true)else none
 |v,u=>(KN o v u).map (·,true)
theorem bAU{o:BinOp}{v u r:Value}(h:bJQ o v u=some (r,true)):KN o v u=some r:=by
 unfold bJQ at h;split at h
 ·rename_i k x k' y;split at h
  ·simp only[qI,qP,decide_eq_true_eq]at h;obtain⟨rfl,hy⟩:=h;simp[KN,show¬y<0 by omega]
  ·simp only[qI,qP,decide_eq_true_eq]at h;obtain⟨rfl,hy⟩:=h;simp[KN,show¬y<0 by omega]
  ·split at h
   ·simp only[qI,qP,bne_iff_ne,ne_eq]at h;obtain⟨rfl,hy⟩:=h
    simp_all [KN,KM]
   ·simp at h
  ·split at h
   ·simp only[qI,qP,bne_iff_ne,ne_eq]at h;obtain⟨rfl,hy⟩:=h
    simp_all [KN,KM]
   ·simp at h
  ·split at h
   ·simp only[q_c,qP,and_true]at h;obtain⟨r',hr,rfl⟩:=h;rename_i hk _ _ _ _;cases o<;>simp_all [KN]
   ·simp at h
 ·simp only[q_c,qP,and_true]at h;obtain⟨r',hr,rfl⟩:=h;exact hr
def WY(hp:List Blk):T→Option (T×Bool)
 | .lit v=>some (.lit v,true)
 | .nls n=>some (.nls n,true)
 | .imm p n rows=>some (.imm p n rows,true)
 | .sl id off len=>match hp[id]? with
   |some (.lst n rows)=>if off=0 then some (.imm true n rows,decide (len=rows.length))else none
   |_=>none
 |_=>none
theorem aE1{hp:List Blk}{t r:T}(h:WY hp t=some (r,true)):KP hp t=some r:=by
 cases t with
 |sl id off len=>
  simp only[WY]at h;split at h
  ·rename_i n rows hb;split at h
   ·rename_i e;subst e;simp only[qI,qP,decide_eq_true_eq]at h;obtain⟨rfl,rfl⟩:=h;simp[KP,m5,dO,hb]
   ·simp at h
  ·simp at h
 |lit|nls|imm=>simp only[WY,qI,qP,and_true]at h;rw[←h];rfl
 |ptr|ip|clo=>simp[WY]at h
def I1(hp:List Blk):Row→Option (Row×Bool)
 |[]=>some ([],true)
 |t::r=>(WY hp t).bind fun t=>(I1 hp r).bind fun r=>some (t.1::r.1,t.2&&r.2)
theorem QH{hp:List Blk}: ∀{t r:Row},I1 hp t=some (r,true)→GB hp t=some r
 |[],r,h=>by simp only[I1,qI,qP,and_true]at h;subst h;rfl
 |t::s,r,h=>by
  simp only[I1,qB,qI,qP]at h;obtain⟨x,hx,y,hy,rfl,ho⟩:=h;obtain⟨o1,o2⟩:=bJ ho;simp only[GB,aE1 (r:=x.1) (by rw[hx,←o1]),Option.bind_some,QH (r:=y.1) (by rw[hy,←o2])]
def GQ(hp:List Blk):SV→Option (SV×Bool)
 | .one t=>(WY hp t).bind fun t=>some (.one t.1,t.2)
 | .agg ts=>(I1 hp ts).bind fun ts=>some (.agg ts.1,ts.2)
 |_=>none
theorem EC{hp:List Blk}{t r:SV}(h:GQ hp t=some (r,true)):BL hp t=some r:=by
 cases t with
 |one t=>
  simp only[GQ,qB,qI,qP]at h;obtain⟨x,hx,rfl,ho⟩:=h;simp only[BL,aE1 (r:=x.1) (by rw[hx,←ho]),Option.bind_some]
 |agg t=>
  simp only[GQ,qB,qI,qP]at h;obtain⟨x,hx,rfl,ho⟩:=h;simp only[BL,QH (r:=x.1) (by rw[hx,←ho]),Option.bind_some]
 |und=>simp[GQ]at h
 |tup=>simp[GQ]at h
def I2(hp:List Blk):List SV→Option (List SV×Bool)
 |[]=>some ([],true)
 |t::r=>(GQ hp t).bind fun t=>(I2 hp r).bind fun r=>some (t.1::r.1,t.2&&r.2)
theorem QI{hp:List Blk}: ∀{t r:List SV},I2 hp t=some (r,true)→GC hp t=some r
 |[],r,h=>by simp only[I2,qI,qP,and_true]at h;subst h;rfl
 |t::s,r,h=>by
  simp only[I2,qB,qI,qP]at h;obtain⟨x,hx,y,hy,rfl,ho⟩:=h;obtain⟨o1,o2⟩:=bJ ho;simp only[GC,EC (r:=x.1) (by rw[hx,←o1]),Option.bind_some,QI (r:=y.1) (by rw[hy,←o2])]
def aHE(hp:List Blk):SV→Option (SV×Bool)
 | .tup vs=>(I2 hp vs).bind fun vs=>some (.tup vs.1,vs.2)
 |v=>GQ hp v
theorem aVA{hp:List Blk}{t r:SV}(h:aHE hp t=some (r,true)):NM hp t=some r:=by
 cases t with
 |tup vs=>
  simp only[aHE,qB,qI,qP]at h;obtain⟨x,hx,rfl,ho⟩:=h;simp only[NM,QI (r:=x.1) (by rw[hx,←ho]),Option.bind_some]
 |one t=>exact EC (hp:=hp) (t:= .one t) h
 |agg t=>exact EC (hp:=hp) (t:= .agg t) h
 |und=>exact EC (hp:=hp) (t:= .und) h
noncomputable def dJ(R:Rt):Rt:=fun f a h=>if f<100000 then R f a h else(R (f-100000) a h).bind fun r=>(NM r.2 r.1).bind fun v=>some (v,[])
theorem GR{R:Rt}{f:FuncId}(h:f<100000){a:List SV}{hp:List Blk}:dJ R f a hp=R f a hp:=by simp only[dJ];rw[if_pos h]
theorem aZI{R:Rt}{f:FuncId}{a:List SV}{hp:List Blk}:dJ R (f+100000) a hp=(R f a hp).bind fun r=>(NM r.2 r.1).bind fun v=>some (v,[]):=by
 simp only[dJ];rw[if_neg (Nat.not_lt.2 (Nat.le_add_left 100000 f))];exact congrArg (fun g=>(R g a hp).bind fun r=>(NM r.2 r.1).bind fun v=>some (v,[])) (Nat.add_sub_cancel (n:=f) (m:=100000))
def zN(Q:Qt)(wm:Bool)(hp:List Blk)(pu:Bool)(f:FuncId)(vs:List (SV×Nat×Bool)):Option ((SV×List Blk)×Bool):=
 if pu=true then
  (qM wm hp [] 0 vs).bind fun args=>(Q (f+100000) args.1 []).bind fun r=>
  if vs.any xY=false∨sU r.1.1=true then some ((r.1.1,hp),args.2&&r.2)else none
 else if f<100000 then
  (YV wm hp vs).bind fun e=>(Q f e.1.args e.1.hp).bind fun r=>(aUQ hp e.1 r.1.1 r.1.2).bind fun x=>some (x,e.2&&r.2)
 else none
theorem CF{R:Rt}{Q:Qt}(hQ:WW (dJ R) Q){wm:Bool}{hp:List Blk}{pu:Bool}{f:FuncId}{vs:List (SV×Nat×Bool)}{r:SV×List Blk}(h:zN Q wm hp pu f vs=some (r,true)):lC R hp pu f vs=some r:=by
 unfold zN at h;unfold lC;split at h
 ·rename_i hpu;rw[if_pos hpu];simp only[qB]at h⊢;obtain⟨args,h1,q,hq,h⟩:=h;split at h
  ·rename_i hc;simp only[qI,qP]at h;obtain⟨rfl,ho⟩:=h;obtain⟨o1,o2⟩:=bJ ho;have hR:=hQ _ _ _ q.1 (by rw[hq,←o2])
   rw[aZI]at hR;simp only[qB,qI]at hR;obtain⟨r,hr,v,hv,e⟩:=hR;refine⟨args.1,pY (by rw[h1,←o1]),r,hr,v,hv,?_⟩
   rw[←e]at hc;rw[if_pos hc,←e]
  ·simp at h
 ·rename_i hpu;rw[if_neg hpu];split at h
  ·rename_i hf;simp only[qB,qI,qP]at h⊢;obtain⟨e,h1,q,hq,x,hx,rfl,ho⟩:=h;obtain⟨o1,o2⟩:=bJ ho;have hR:=hQ _ _ _ q.1 (by rw[hq,←o2])
   rw[GR hf]at hR;exact⟨e.1,WU (by rw[h1,←o1]),q.1,hR,hx⟩
  ·simp at h
def QJ(Q:Qt)(wm:Bool)(hp:List Blk)(f:FuncId)(vs:List (SV×Nat×Bool)):Option ((SV×List Blk)×Bool):=
 if f<100000 then
  (YV wm hp vs).bind fun e=>(Q f e.1.args e.1.hp).bind fun r=>(aUQ hp e.1 r.1.1 r.1.2).bind fun x=>
    some ((x.1,stay e.1.src hp.length (cL e.1.src+1) (stay e.1.src hp.length (cL e.1.src) x.2)),e.2&&r.2)
 else none
theorem QK{R:Rt}{Q:Qt}(hQ:WW (dJ R) Q){wm:Bool}{hp:List Blk}{f:FuncId}{vs:List (SV×Nat×Bool)}{r:SV×List Blk}(h:QJ Q wm hp f vs=some (r,true)):xH R hp f vs=some r:=by
 unfold QJ at h;unfold xH;obtain⟨hf,h⟩:=cB h;simp only[qB,qI,qP]at h⊢;obtain⟨e,h1,q,hq,x,hx,rfl,ho⟩:=h;obtain⟨o1,o2⟩:=bJ ho;have hR:=hQ _ _ _ q.1 (by rw[hq,←o2])
 rw[GR hf]at hR;exact⟨e.1,WU (by rw[h1,←o1]),q.1,hR,x,hx,rfl⟩
def I3(Q:Qt)(wm:Bool)(hp:List Blk)(pu:Bool)(f:FuncId)(vs:List (SV×Nat×Bool)):Option ((SV×List Blk)×Bool):=
 if f<50000 then zN Q wm hp pu f vs else none
theorem QL{R:Rt}{Q:Qt}(hQ:WW (dJ R) Q){wm:Bool}{hp:List Blk}{pu:Bool}{f:FuncId}{vs:List (SV×Nat×Bool)}{r:SV×List Blk}(h:I3 Q wm hp pu f vs=some (r,true)):sH R hp pu f vs=some r:=by
 unfold I3 at h;obtain⟨hf,h⟩:=cB h;unfold sH;rw[if_pos hf];exact CF hQ h
def I4(Q:Qt)(wm:Bool)(hp:List Blk)(pu:Bool)(f:FuncId)(vs:List (SV×Nat×Bool)):Option ((SV×List Blk)×Bool):=
 if f<50000 then zN Q wm hp pu f vs else if pu=true then none else QJ Q wm hp f vs
theorem VQ{R:Rt}{Q:Qt}(hQ:WW (dJ R) Q){wm:Bool}{hp:List Blk}{pu:Bool}{f:FuncId}{vs:List (SV×Nat×Bool)}{r:SV×List Blk}(h:I4 Q wm hp pu f vs=some (r,true)):nD R hp pu f vs=some r:=by
 unfold I4 at h;unfold nD;split at h
 ·rename_i hf;rw[if_pos hf];exact CF hQ h
 ·rename_i hf;rw[if_neg hf];split at h
  ·simp at h
  ·rename_i hp;rw[if_neg hp];exact QK hQ h
inductive Kd where
 |int (k:IntKind)
 |bool
 |str
 |imm (n:Nat)
def isK:Kd→T→Bool
 | .int k, .lit (.int k' _)=>k==k'
 | .bool, .lit (.bool _)=>true
 | .str, .lit (.string _)=>true
 | .imm n, .imm p n' _=>p&&n==n'
 |_,_=>false
def aZJ:List Kd→Row→Bool
 |[],_=>true
 |k::ks,t::r=>isK k t&&aZJ ks r
 |_::_,[]=>false
def vS(rows:List Row)(j i:Nat):T:=(rows.getD j []).getD i (.nls 0)
def b18:T→Int
 | .lit (.int _ z)=>z
 |_=>0
def bHY:T→Bool
 | .lit (.bool z)=>z
 |_=>false
def b19:T→ByteArray
 | .lit (.string z)=>z
 |_=> .empty
def bHZ:T→List Row
 | .imm _ _ rows=>rows
 |_=>[]
def bQ(rows:List Row)(j i:Nat):Int:=b18 (vS rows j i)
def lW(rows:List Row)(j i:Nat):Bool:=bHY (vS rows j i)
def bH0(rows:List Row)(j i:Nat):ByteArray:=b19 (vS rows j i)
def lF(rows:List Row)(j i:Nat):List Row:=bHZ (vS rows j i)
def ofK(rows:List Row)(j i:Nat):Kd→T
 | .int k=> .lit (.int k (bQ rows j i))
 | .bool=> .lit (.bool (lW rows j i))
 | .str=> .lit (.string (bH0 rows j i))
 | .imm n=> .imm true n (lF rows j i)
def WZ(rows:List Row)(j:Nat):Nat→List Kd→Row
 |_,[]=>[]
 |i,k::ks=>ofK rows j i k::WZ rows j (i+1) ks
def dU(kds:List Kd)(rows:List Row)(j i:Nat):Bool:=Nat.blt j rows.length&&aZJ kds ((rows.getD j []).drop i)
def hZ(kds:List Kd)(rows:List Row)(j:Int):Bool:=decide (0≤j)&&(dU kds rows j.toNat 0&&(rows.getD j.toNat []).length==kds.length)
theorem bJR{rows:List Row}{j i:Nat}{k:Kd}{t:T}(ht:vS rows j i=t)(hk:isK k t=true):ofK rows j i k=t:=by
 unfold isK at hk;split at hk
 ·simp only[ofK,bQ,ht,b18,beq_iff_eq]at hk⊢;rw[hk]
 ·simp only[ofK,lW,ht,bHY]
 ·simp only[ofK,bH0,ht,b19]
 ·simp only[Bool.and_eq_true,beq_iff_eq]at hk;simp only[ofK,lF,ht,bHZ];rw[hk.1,hk.2]
 ·simp at hk
theorem QM{rows:List Row}{j:Nat}: ∀{kds:List Kd}{i:Nat},aZJ kds ((rows.getD j []).drop i)=true→WZ rows j i kds=((rows.getD j []).drop i).take kds.length
 |[],i,h=>by simp[WZ]
 |k::ks,i,h=>by
  cases hd:(rows.getD j []).drop i with
  |nil=>rw[hd]at h;simp[aZJ]at h
  |cons t r=>
   rw[hd]at h;simp only[aZJ,Bool.and_eq_true]at h;have hr:(rows.getD j []).drop (i+1)=r:=by
    rw[←List.drop_drop,hd];rfl
   have ht:vS rows j i=t:=by
    have:(rows.getD j [])[i]? =some t:=by
     have:=congrArg (·[0]?) hd;simpa [List.getElem?_drop]using this
    simp only[vS,List.getD_eq_getElem?_getD]at this⊢;rw[this];rfl
   simp only[WZ,bJR ht h.1,List.length_cons,List.take_succ_cons];rw[QM (by rw[hr];exact h.2),hr]
theorem I5{rows:List Row}{j:Nat}(h:Nat.blt j rows.length=true):rows[j]? =some (rows.getD j []):=by
 have:j<rows.length:=by simpa using h
 simp[List.getD_eq_getElem?_getD,this]
def LC(d:Nat):List (Nat×List Kd)→Option (List Kd)
 |[]=>none
 |(m,v)::r=>if m=d then some v else LC d r
def bJS(hp:List Blk)(sz:Nat)(kds:List Kd)(t:T)(j:Int):Option (SV×Bool):=
 match t with
 | .sl id off ln=>if m5 hp (.sl id off ln)=some sz then some (.one (.ptr id (off+j.toNat) 0),decide (0≤j)&&decide (j<ln))else none
 | .imm _ n rows=>if n=sz then some (.one (.ip (WZ rows j.toNat 0 kds)),hZ kds rows j)else none
 |_=>none
theorem bAV{hp:List Blk}{sz:Nat}{kds:List Kd}{t:T}{j:Int}{v:SV}(h:bJS hp sz kds t j=some (v,true)):idx hp sz t j=some v:=by
 unfold bJS at h;split at h
 ·split at h
  ·rename_i hs;simp only[qI,qP,Bool.and_eq_true,decide_eq_true_eq]at h;obtain⟨rfl,h⟩:=h;simp only[idx];rw[if_pos h,if_pos hs]
  ·simp at h
 ·split at h
  ·rename_i hs;simp only[qI,qP,hZ,dU,Bool.and_eq_true,decide_eq_true_eq,beq_iff_eq]at h;obtain⟨rfl,h0,⟨h1,h2⟩,h3⟩:=h;simp only[idx];rw[if_pos ⟨h0,hs⟩,I5 h1,Option.map_some,QM h2,List.drop_zero,←h3,List.take_length]
  ·simp at h
 ·simp at h
def ldS(hp:List Blk)(n:Option Nat)(kds:List Kd)(t:T):Option (SV×Bool):=
 match t with
 | .ptr id row off=>
   match hp[id]? with
   |some (.lst _ rows)=>(SV.of n (WZ rows row off kds)).bind fun v=>some (v,dU kds rows row off)
   |_=>(mE hp t).bind fun cs=>(SV.of n cs).bind fun v=>some (v,true)
 |_=>(mE hp t).bind fun cs=>(SV.of n cs).bind fun v=>some (v,true)
theorem bAW{n:Option Nat}{cs:Row}{m:Nat}{v:SV}(h:SV.of n (cs.take m)=some v):SV.of n cs=some v:=by
 cases n with
 |none=>
  cases cs with
  |nil=>simp[SV.of]at h
  |cons t r=>
   cases m with
   |zero=>simp[SV.of]at h
   |succ m=>simpa [SV.of]using h
 |some k=>
  simp only[SV.of]at h⊢;split at h
  ·rename_i hk;rw[List.length_take]at hk;rw[if_pos (by omega),←h,List.take_take,Nat.min_eq_left (by omega)]
  ·simp at h
theorem bJT{hp:List Blk}{n:Option Nat}{kds:List Kd}{t:T}{v:SV}(h:ldS hp n kds t=some (v,true)):((mE hp t).bind fun cs=>SV.of n cs)=some v:=by
 unfold ldS at h;split at h
 ·split at h
  ·rename_i id row off _ sz rows hb;simp only[qB,qI,qP,dU,Bool.and_eq_true]at h;obtain⟨u,hu,rfl,h1,h2⟩:=h;simp only[mE,hb,I5 h1,Option.map_some,Option.bind_some];rw[QM h2]at hu;exact bAW hu
  ·simp only[qB,qI,qP,and_true]at h⊢;obtain⟨cs,hc,u,hu,rfl⟩:=h;exact⟨cs,hc,hu⟩
 ·simp only[qB,qI,qP,and_true]at h⊢;obtain⟨cs,hc,u,hu,rfl⟩:=h;exact⟨cs,hc,hu⟩
def stS(hp:List Blk)(n:Nat)(t:T)(new:Row):Option (List Blk×Bool):=
 match t with
 | .ptr id row off=>
   match hp[id]? with
   |some (.lst sz rows)=>
    if off=0∧n=sz∧new.length=n∧new.all inList=true then some (hp.set id (.lst sz (rows.set row new)),Nat.blt row rows.length&&(rows.getD row []).length==n)
    else if new.length=n∧new.all inList=true then some (hp.set id (.lst sz (rows.set row (wr (rows.getD row []) off new))),Nat.blt row rows.length&&decide (off+n≤(rows.getD row []).length))
    else none
   |_=>(store hp n t new).map (·,true)
 |_=>(store hp n t new).map (·,true)
theorem bJU{hp hp':List Blk}{n:Nat}{t:T}{new:Row}(h:stS hp n t new=some (hp',true)):store hp n t new=some hp':=by
 unfold stS at h;split at h
 ·split at h
  ·rename_i id row off _ sz rows hb;split at h
   ·rename_i hc;obtain⟨rfl,rfl,hn,ha⟩:=hc;simp only[qI,qP,Bool.and_eq_true,beq_iff_eq]at h;obtain⟨rfl,h1,h2⟩:=h;simp only[store,hn,if_true,hb,I5 h1,ha,and_true,Nat.zero_add,h2,Nat.le_refl]
    congr 4
    simp only[wr,List.take_zero,List.nil_append,Nat.zero_add,hn,←h2,List.drop_length,List.append_nil]
   ·split at h
    ·rename_i hc;obtain⟨hn,ha⟩:=hc;simp only[qI,qP,Bool.and_eq_true,decide_eq_true_eq]at h;obtain⟨rfl,h1,h2⟩:=h;simp only[store,hn,if_true,hb,I5 h1];rw[if_pos ⟨h2,ha⟩]
    ·simp at h
  ·simp only[q_c,qP,and_true]at h;obtain⟨x,hx,rfl⟩:=h;exact hx
 ·simp only[q_c,qP,and_true]at h;obtain⟨x,hx,rfl⟩:=h;exact hx
def exK(Q:Qt)(kd:List (Nat×List Kd))(ev:Ev)(hp:List Blk):K→Option ((SV×List Blk)×Bool)
 | .bin _ o x y=>(ev x).bind fun v=>(EX v).bind fun v=>(ev y).bind fun u=>(EX u).bind fun u=>(bJQ o v u).bind fun r=>some ((.one (.lit r.1),hp),r.2)
 | .pick _ c x y=>(ev c).bind fun c=>(asBool c).bind fun c=>(ev x).bind fun v=>(ev y).bind fun u=>(AJ c v u).bind fun v=>some ((v,hp),true)
 | .call d pu f xs=>(jT ev xs).bind fun vs=>I4 Q (LC (d.getD 0) kd).isNone hp pu f vs
 | .calv d pu f xs=>(ev f).bind fun g=>match g with
   | .one (.clo f caps)=>(jT ev xs).bind fun vs=>I3 Q (LC (d.getD 0) kd).isNone hp pu f (vs++caps.map fun c=>(.one c,0,false))
   |_=>none
 | .ia d sz x j=>match LC d kd with
   |some kds=>(ev x).bind fun v=>(i9 v).bind fun t=>(ev j).bind fun u=>(vI u).bind fun u=>(bJS hp sz kds t u.2).bind fun r=>some ((r.1,hp),r.2)
   |none=>((K.ia d sz x j).exec Q.val ev hp).map (·,true)
 | .ld d n x=>match LC d kd with
   |some kds=>(ev x).bind fun v=>(i9 v).bind fun t=>(ldS hp n kds t).bind fun r=>some ((r.1,hp),r.2)
   |none=>((K.ld d n x).exec Q.val ev hp).map (·,true)
 | .st n x y=>(ev x).bind fun v=>(i9 v).bind fun t=>(ev y).bind fun u=>u.cells.bind fun cs=>(stS hp n t cs).bind fun r=>some ((.und,r.1),r.2)
 | .app d by_ sz x y=>(ev x).bind fun v=>(i9 v).bind fun t=>(ev y).bind fun u=>(i9 u).bind fun s=>bJL (LC d kd).isNone hp by_ sz t s
 | .len _ x=>(ev x).bind fun v=>(i9 v).bind fun t=>(bAP hp t).bind fun r=>some ((.one (I r.1),hp),r.2)
 | .slc _ sz x lo hi=>(ev x).bind fun v=>(i9 v).bind fun t=>(bAP hp t).bind fun n=>(uR ev 0 lo).bind fun l=>(match hi with|none=>some n.1|some o=>uR ev 0 (some o)).bind fun h=>(bJM hp sz t n.1 l h).bind fun r=>some ((.one r.1,hp),n.2&&r.2)
 | .mks _ by_ z n c=>(ev n).bind fun v=>(vI v).bind fun v=>(ev c).bind fun u=>(vI u).bind fun u=>some (bJN hp by_ z v.2 u.2)
 | .cpy d sz x y=>(ev x).bind fun v=>(i9 v).bind fun t=>(ev y).bind fun u=>(i9 u).bind fun s=>bJO (LC d kd).isNone hp sz t s
 | .clr sz z x=>(ev x).bind fun v=>(i9 v).bind fun t=>bJP hp sz z t
 |k=>(k.exec Q.val ev hp).map (·,true)
def aE2(ev ev':Ev):Prop:= ∀x v,ev x=some v→ev' x=some v
theorem aN6{ev ev':Ev}(he:aE2 ev ev'): ∀{ps:List (Nat×Nat×Opd)}{cs r:Row},fill ev cs ps=some r→fill ev' cs ps=some r
 |[],cs,r,h=>h
 |(o,n,x)::ps,cs,r,h=>by
  simp only[fill,qB]at h⊢;obtain⟨v,hv,new,hn,h⟩:=h;refine⟨v,he _ _ hv,new,hn,?_⟩;split at h
  ·rename_i hc;rw[if_pos hc];exact aN6 he h
  ·simp at h
theorem NZ{ev ev':Ev}(he:aE2 ev ev'): ∀{ps:List (Nat×Opd)}{cs r:List Row},fillRows ev cs ps=some r→fillRows ev' cs ps=some r
 |[],cs,r,h=>h
 |(o,x)::ps,cs,r,h=>by
  simp only[fillRows,qB]at h⊢;obtain⟨v,hv,new,hn,h⟩:=h;refine⟨v,he _ _ hv,new,hn,?_⟩;split at h
  ·split at h
   ·rename_i hc;rw[if_pos hc];exact NZ he h
   ·simp at h
  ·simp at h
theorem CH{ev ev':Ev}(he:aE2 ev ev'): ∀{xs:List (Opd×Nat×Bool)}{r:List (SV×Nat×Bool)},jT ev xs=some r→jT ev' xs=some r
 |[],r,h=>h
 |(x,n,m)::xs,r,h=>by
  simp only[jT,qB]at h⊢;obtain⟨v,hv,s,hs,h⟩:=h;exact⟨v,he _ _ hv,s,CH he hs,h⟩
theorem XA{ev ev':Ev}(he:aE2 ev ev'): ∀{xs:List Opd}{r:List T},vL ev xs=some r→vL ev' xs=some r
 |[],r,h=>h
 |x::xs,r,h=>by
  simp only[vL,qB]at h⊢;obtain⟨v,hv,t,ht,h⟩:=h;refine⟨v,he _ _ hv,t,ht,?_⟩;split at h
  ·simp only[qB]at h⊢;obtain⟨s,hs,h⟩:=h;exact⟨s,XA he hs,h⟩
  ·simp at h
theorem I6{ev ev':Ev}(he:aE2 ev ev'){n:Nat}{o:Option Opd}{r:Int}(h:uR ev n o=some r):uR ev' n o=some r:=by
 cases o with
 |none=>exact h
 |some o=>
  simp only[uR,qB]at h⊢;obtain⟨v,hv,h⟩:=h;exact⟨v,he _ _ hv,h⟩
theorem bAX{R:Rt}{ev ev':Ev}(he:aE2 ev ev'){hp:List Blk}{k:K}{r:SV×List Blk}(h:k.exec R ev hp=some r):k.exec R ev' hp=some r:=by
 cases k with
 |mv d x=>simp only[K.exec,qB]at h⊢;obtain⟨v,hv,h⟩:=h;exact⟨v,he _ _ hv,h⟩
 |pick d c x y=>
  simp only[K.exec,qB]at h⊢;obtain⟨v,hv,c,hc,h⟩:=h;refine⟨v,he _ _ hv,c,hc,?_⟩;split at h
  ·simp only[qB]at h;obtain⟨u,hu,h⟩:=h;simp[*,he _ _ hu]
  ·simp only[qB]at h;obtain⟨u,hu,h⟩:=h;simp[*,he _ _ hu]
 |alc d z=>exact h
 |box d x=>simp only[K.exec,qB]at h⊢;obtain⟨v,hv,h⟩:=h;exact⟨v,he _ _ hv,h⟩
 |bld d z ps=>simp only[K.exec,qB]at h⊢;obtain⟨v,hv,h⟩:=h;exact⟨v,aN6 he hv,h⟩
 |bsl d n z ps=>simp only[K.exec,qB]at h⊢;obtain⟨v,hv,h⟩:=h;exact⟨v,NZ he hv,h⟩
 |ld d n x=>simp only[K.exec,qB]at h⊢;obtain⟨v,hv,h⟩:=h;exact⟨v,he _ _ hv,h⟩
 |st n x y=>simp only[K.exec,qB]at h⊢;obtain⟨v,hv,t,ht,u,hu,h⟩:=h;exact⟨v,he _ _ hv,t,ht,u,he _ _ hu,h⟩
 |nilc d x=>simp only[K.exec,qB]at h⊢;obtain⟨v,hv,h⟩:=h;exact⟨v,he _ _ hv,h⟩
 |bin d o x y=>simp only[K.exec,qB]at h⊢;obtain⟨v,hv,t,ht,u,hu,h⟩:=h;exact⟨v,he _ _ hv,t,ht,u,he _ _ hu,h⟩
 |bb d n x y=>simp only[K.exec,qB]at h⊢;obtain⟨v,hv,t,ht,u,hu,h⟩:=h;exact⟨v,he _ _ hv,t,ht,u,he _ _ hu,h⟩
 |eqs d n gs x y=>simp only[K.exec,qB]at h⊢;obtain⟨v,hv,u,hu,h⟩:=h;exact⟨v,he _ _ hv,u,he _ _ hu,h⟩
 |un d o x=>simp only[K.exec,qB]at h⊢;obtain⟨v,hv,h⟩:=h;exact⟨v,he _ _ hv,h⟩
 |cv d k x=>simp only[K.exec,qB]at h⊢;obtain⟨v,hv,h⟩:=h;exact⟨v,he _ _ hv,h⟩
 |mkf d f caps=>simp only[K.exec,qB]at h⊢;obtain⟨v,hv,h⟩:=h;exact⟨v,XA he hv,h⟩
 |mks d b z n c=>simp only[K.exec,qB]at h⊢;obtain⟨v,hv,t,ht,u,hu,h⟩:=h;exact⟨v,he _ _ hv,t,ht,u,he _ _ hu,h⟩
 |slc d sz x lo hi=>simp only[K.exec,qB]at h⊢;obtain⟨v,hv,t,ht,rows,hr,l,hl,u,hu,h⟩:=h;exact⟨v,he _ _ hv,t,ht,rows,hr,l,I6 he hl,u,I6 he hu,h⟩
 |sls d x lo hi=>
  simp only[K.exec,qB]at h⊢;obtain⟨v,hv,t,ht,h⟩:=h;refine⟨v,he _ _ hv,t,ht,?_⟩;split at h
  ·simp only[qB]at h⊢;obtain⟨l,hl,u,hu,h⟩:=h;exact⟨l,I6 he hl,u,I6 he hu,h⟩
  ·simp at h
 |fa d x o=>simp only[K.exec,qB]at h⊢;obtain⟨v,hv,h⟩:=h;exact⟨v,he _ _ hv,h⟩
 |fld d x o n=>simp only[K.exec,qB]at h⊢;obtain⟨v,hv,h⟩:=h;exact⟨v,he _ _ hv,h⟩
 |ia d sz x j=>simp only[K.exec,qB]at h⊢;obtain⟨v,hv,t,ht,u,hu,h⟩:=h;exact⟨v,he _ _ hv,t,ht,u,he _ _ hu,h⟩
 |ix d x j=>simp only[K.exec,qB]at h⊢;obtain⟨v,hv,t,ht,u,hu,h⟩:=h;exact⟨v,he _ _ hv,t,ht,u,he _ _ hu,h⟩
 |ext d x j=>simp only[K.exec,qB]at h⊢;obtain⟨v,hv,h⟩:=h;exact⟨v,he _ _ hv,h⟩
 |call d pu f xs=>simp only[K.exec,qB]at h⊢;obtain⟨v,hv,h⟩:=h;exact⟨v,CH he hv,h⟩
 |calv d pu f xs=>
  simp only[K.exec,qB]at h⊢;obtain⟨v,hv,h⟩:=h;refine⟨v,he _ _ hv,?_⟩;split at h
  ·simp only[qB]at h⊢;obtain⟨vs,hvs,h⟩:=h;exact⟨vs,CH he hvs,h⟩
  ·simp at h
 |len d x=>simp only[K.exec,qB]at h⊢;obtain⟨v,hv,h⟩:=h;exact⟨v,he _ _ hv,h⟩
 |lens d x=>simp only[K.exec,qB]at h⊢;obtain⟨v,hv,h⟩:=h;exact⟨v,he _ _ hv,h⟩
 |app d b sz x y=>simp only[K.exec,qB]at h⊢;obtain⟨v,hv,t,ht,u,hu,h⟩:=h;exact⟨v,he _ _ hv,t,ht,u,he _ _ hu,h⟩
 |cpy d sz x y=>simp only[K.exec,qB]at h⊢;obtain⟨v,hv,t,ht,u,hu,h⟩:=h;exact⟨v,he _ _ hv,t,ht,u,he _ _ hu,h⟩
 |clr sz z x=>simp only[K.exec,qB]at h⊢;obtain⟨v,hv,h⟩:=h;exact⟨v,he _ _ hv,h⟩
 |mm d m x y=>simp only[K.exec,qB]at h⊢;obtain⟨v,hv,t,ht,u,hu,h⟩:=h;exact⟨v,he _ _ hv,t,ht,u,he _ _ hu,h⟩
def aHF:K→Bool
 | .call .. | .calv .. =>false
 |_=>true
theorem CI{R R':Rt}{ev:Ev}{hp:List Blk}{k:K}(hk:aHF k=true):k.exec R ev hp=k.exec R' ev hp:=by
 cases k<;>first|rfl|simp[aHF]at hk
theorem aVB{R:Rt}{Q:Qt}(hQ:WW (dJ R) Q){kd:List (Nat×List Kd)}{ev ev':Ev}(he:aE2 ev ev'){hp:List Blk}{k:K}{r:SV×List Blk}(h:exK Q kd ev hp k=some (r,true)):k.exec R ev' hp=some r:=by
 refine bAX he ?_;unfold exK at h;split at h
 ·simp only[qB,qI,qP,K.exec]at h⊢;obtain⟨v,hv,t,ht,u,hu,s,hs,q,hq,h1,h2⟩:=h;refine⟨v,hv,t,ht,u,hu,s,hs,q.1,bAU (by rw[hq,←h2]),h1⟩
 ·simp only[qB,qI,qP,K.exec]at h⊢;obtain⟨c,hc,b,hb,v,hv,u,hu,m,hm,h1,-⟩:=h;refine⟨c,hc,b,hb,?_⟩;rw[←h1,AK hm];cases b<;>simp[hv,hu]
 ·simp only[qB,qI,qP,K.exec]at h⊢;obtain⟨vs,hvs,h⟩:=h;exact⟨vs,hvs,VQ hQ h⟩
 ·simp only[qB,K.exec]at h⊢;obtain⟨g,hg,h⟩:=h;refine⟨g,hg,?_⟩;split at h
  ·simp only[qB,qI,qP]at h⊢;obtain⟨vs,hvs,h⟩:=h;exact⟨vs,hvs,QL hQ h⟩
  ·simp at h
 ·split at h
  ·simp only[qB,qI,qP,K.exec]at h⊢;obtain⟨v,hv,t,ht,u,hu,w,hw,q,hq,h1,h2⟩:=h;exact⟨v,hv,t,ht,u,hu,w,hw,q.1,bAV (by rw[hq,←h2]),h1⟩
  ·simp only[q_c,qP,and_true]at h;obtain⟨q,hq,rfl⟩:=h;rw[CI (R':=Q.val) rfl];exact hq
 ·split at h
  ·simp only[qB,qI,qP,K.exec]at h⊢;obtain⟨v,hv,t,ht,q,hq,h1,h2⟩:=h;have:=bJT (v:=q.1) (by rw[hq,←h2])
   simp only[qB]at this;obtain⟨cs,hc,hs⟩:=this;exact⟨v,hv,t,ht,cs,hc,q.1,hs,h1⟩
  ·simp only[q_c,qP,and_true]at h;obtain⟨q,hq,rfl⟩:=h;rw[CI (R':=Q.val) rfl];exact hq
 ·simp only[qB,qI,qP,K.exec]at h⊢;obtain⟨v,hv,t,ht,u,hu,cs,hc,q,hq,h1,h2⟩:=h;exact⟨v,hv,t,ht,u,hu,cs,hc,q.1,bJU (by rw[hq,←h2]),h1⟩
 ·simp only[qB]at h;obtain⟨v,hv,t,ht,u,hu,s,hs,h⟩:=h;exact bAO hv ht hu hs h
 ·simp only[qB,qI,qP,K.exec]at h⊢;obtain⟨v,hv,t,ht,n,hn,h1,h2⟩:=h;obtain⟨rows,hr,hl⟩:=aN5 (n:=n.1) (by rw[hn,←h2])
  exact⟨v,hv,t,ht,rows,hr,by rw[hl,h1]⟩
 ·rename_i d sz x lo hi;simp only[qB,qI,qP,K.exec]at h⊢;obtain⟨v,hv,t,ht,n,hn,l,hl,hh,hb,q,hq,h1,h2⟩:=h;obtain⟨o1,o2⟩:=bJ h2;obtain⟨rows,hr,hlen⟩:=aN5 (n:=n.1) (by rw[hn,←o1])
  refine⟨v,hv,t,ht,rows,hr,l,hl,hh,?_,q.1,bAQ hlen (by rw[hq,←o2]),h1⟩
  cases hi with
  |none=>simp only[uR,hlen];exact hb
  |some o=>exact hb
 ·simp only[qB,qI]at h;obtain⟨v,hv,k,hk,u,hu,k',hk',h⟩:=h;exact bAR (k:=k.1) (nn:=k.2) (k':=k'.1) (cc:=k'.2) hv hk hu hk' h
 ·simp only[qB]at h;obtain⟨v,hv,t,ht,u,hu,s,hs,h⟩:=h;exact bAS hv ht hu hs h
 ·simp only[qB]at h;obtain⟨v,hv,t,ht,h⟩:=h;exact bAT hv ht h
 ·simp only[q_c,qP,and_true]at h;obtain⟨q,hq,rfl⟩:=h;have hk:aHF k=true:=by
   cases k with
   |call d pu f xs=>cases pu<;>simp_all
   |calv d pu f xs=>cases pu<;>simp_all
   |_=>rfl
  rw[CI (R':=Q.val) hk];exact hq
def qN:K→Bool
 | .alc .. | .box .. | .bsl .. | .st .. | .mks .. | .app .. | .cpy .. | .clr .. =>false
 | .call _ pu _ _| .calv _ pu _ _=>pu
 |_=>true
theorem YY{R:Rt}{hp:List Blk}{f:FuncId}{vs:List (SV×Nat×Bool)}{r:SV×List Blk}(h:lC R hp true f vs=some r):r.2=hp:=by
 simp only[lC,if_true,qB]at h;obtain⟨_,_,_,_,_,_,h⟩:=h;split at h
 ·obtain rfl:=Option.some.inj h;rfl
 ·simp at h
theorem N0{R:Rt}{hp:List Blk}{f:FuncId}{vs:List (SV×Nat×Bool)}{r:SV×List Blk}(h:nD R hp true f vs=some r):r.2=hp:=by
 unfold nD at h;split at h
 ·exact YY h
 ·simp at h
def aZK(hp:List Blk)(o:Option (SV×List Blk)):Prop:= ∀r,o=some r→r.2=hp
theorem ED{α:Type}{hp:List Blk}{o:Option α}{f:α→Option (SV×List Blk)}(h: ∀v,aZK hp (f v)):aZK hp (o.bind f):=fun r hr=>by
 simp only[qB]at hr;obtain⟨v,_,hv⟩:=hr;exact h v r hv
theorem aVC{hp:List Blk}{v:SV}:aZK hp (some (v,hp)):=fun r hr=>by
 obtain rfl:=Option.some.inj hr;rfl
theorem XB{hp:List Blk}:aZK hp none:=fun r hr=>by simp at hr
theorem LD{R:Rt}{ev:Ev}{hp:List Blk}{k:K}{r:SV×List Blk}(hk:qN k=true)(h:k.exec R ev hp=some r):r.2=hp:=by
 have:aZK hp (k.exec R ev hp):=by
  cases k<;>simp only[qN,Bool.false_eq_true]at hk
  case call d pu f xs=>
   subst hk;exact ED fun vs r hr=>N0 hr
  case calv d pu f xs=>
   subst hk;refine ED fun g=>?_
   split
   ·exact ED fun vs r hr=>N0 hr
   ·exact XB
  all_goals
   unfold K.exec
   repeat (first|exact aVC|exact XB|(refine ED fun _=>?_)|split)
 exact this r h
end Go.Zq

namespace Go.Zq
open Option renaming bind_eq_some_iff → qB
open Option.some renaming injEq → qI
open List renaming mem_append → q_j
open Go
def K.dsts(k:K):List Nat:=match k.dst with|some d=>[d]|none=>[]
inductive Its where
 |nil
 |op (k:K) (r:Its)
 |iff (s:Nat) (w:Bool) (its:Its) (d:Nat) (x y:Opd) (r:Its)
def Its.flat(g:Option (Nat×Bool)):Its→List G
 | .nil=>[]
 | .op k r=>(g,k)::r.flat g
 | .iff s w its d x y r=>its.flat (some (s,w))++(g, .pick d (.t s) x y)::r.flat g
def Its.dsts:Its→List Nat
 | .nil=>[]
 | .op k r=>k.dsts++r.dsts
 | .iff _ _ its d _ _ r=>its.dsts++d::r.dsts
def Its.quiet:Its→Bool
 | .nil=>true
 | .op k r=>qN k&&r.quiet
 | .iff _ _ its _ _ _ r=>its.quiet&&r.quiet
def Its.inner(ds:List Nat):Its→Bool
 | .nil=>true
 | .op k r=>r.inner (k.dsts++ds)
 | .iff s _ its d _ _ r=>ds.contains s&&its.inner []&&r.inner (d::(its.dsts++ds))
def eqG:Option (Nat×Bool)→Option (Nat×Bool)→Bool
 |none,none=>true
 |some (s,w),some (s',w')=>Nat.beq s s'&&(w==w')
 |_,_=>false
theorem aZL: ∀{g h:Option (Nat×Bool)},eqG g h=true→g=h
 |none,none,_=>rfl
 |some (s,w),some (s',w'),h=>by
  simp only[eqG,Bool.and_eq_true,beq_iff_eq]at h;rw[Nat.eq_of_beq_eq_true h.1,h.2]
 |none,some _,h=>by simp[eqG]at h
 |some _,none,h=>by simp[eqG]at h
def xP:Nat→Option (Nat×Bool)→List G→Its×List G
 |0,_,l=>(.nil,l)
 |_+1,_,[]=>(.nil,[])
 |n+1,cur,(g,k)::r=>
  if eqG g cur then let p:=xP n cur r;(.op k p.1,p.2)
  else match g with
   |none=>(.nil,(g,k)::r)
   |some (s,w)=>
    let q:=xP n (some (s,w)) ((g,k)::r)
    match q.2 with
    |(g', .pick d (.t s') x y)::r'=>
     if eqG g' cur&&Nat.beq s' s then let p:=xP n cur r';(.iff s w q.1 d x y p.1,p.2)else(.nil,(g,k)::r)
    |_=>(.nil,(g,k)::r)
theorem AM: ∀(n:Nat)(cur:Option (Nat×Bool))(l:List G),(xP n cur l).1.flat cur++(xP n cur l).2=l
 |0,_,l=>rfl
 |_+1,_,[]=>rfl
 |n+1,cur,(g,k)::r=>by
  unfold xP;split
  ·rename_i h;simp only[Its.flat,List.cons_append,AM n cur r,aZL h]
  ·split
   ·rfl
   ·rename_i s w hh;simp only;split
    ·rename_i g' d s' x y r' hq;split
     ·rename_i hc;simp only[Bool.and_eq_true]at hc;obtain rfl:=aZL hc.1;obtain rfl:=Nat.eq_of_beq_eq_true hc.2;have h1:=AM n (some (s',w)) ((some (s',w),k)::r);rw[hq]at h1;simp only[Its.flat,List.append_assoc,List.cons_append,AM n g' r'];exact h1
     ·rfl
    ·rfl
def GS(sl:List (Nat×SV))(ds:List Nat):List (Nat×SV):=sl.filter fun p=>!ds.contains p.1
theorem xQ{ds:List Nat}{n:Nat}{v:SV}: ∀{sl:List (Nat×SV)},bR n (GS sl ds)=some v→n∉ds∧bR n sl=some v
 |[],h=>by simp[GS,bR]at h
 |(m,u)::r,h=>by
  unfold GS at h;rw[List.filter_cons]at h;split at h
  ·rename_i hm;simp only[bR]at h⊢;split at h
   ·rename_i e;subst e;exact⟨by simpa using hm,by rw[if_pos rfl];exact h⟩
   ·rename_i e;rw[if_neg e];exact xQ h
  ·rename_i hm;have:=xQ (sl:=r) h;refine⟨this.1,?_⟩;simp only[bR];split
   ·rename_i e;subst e;exact absurd (by simpa using hm) this.1
   ·exact this.2
structure Le(σ σ':St):Prop where
 sl: ∀n v,bR n σ.sl=some v→bR n σ'.sl=some v
 hp:σ'.hp=σ.hp
theorem Le.rfl{σ:St}:Le σ σ:=⟨fun _ _ h=>h,Eq.refl _⟩
theorem Le.trans{a b c:St}(h:Le a b)(k:Le b c):Le a c:=⟨fun n v x=>k.sl n v (h.sl n v x),k.hp.trans h.hp⟩
theorem Le.ev{σ σ':St}(h:Le σ σ'):aE2 σ.ev σ'.ev:=fun x v hx=>by
 cases x with
 |t n=>exact h.sl n v hx
 |c u=>exact hx
theorem Le.set{σ σ':St}(h:Le σ σ')(d:Nat)(v:SV):Le (σ.set d v) (σ'.set d v):=⟨fun n u hn=>by
 simp only[St.set,bR]at hn⊢;split
 ·rename_i e;rw[if_pos e]at hn;exact hn
 ·rename_i e;rw[if_neg e]at hn;exact h.sl n u hn,h.hp⟩
theorem Le.setD{σ σ':St}(h:Le σ σ')(d:Option Nat)(v:SV):Le (setD σ d v) (setD σ' d v):=by
 cases d with
 |none=>exact h
 |some d=>exact h.set d v
theorem Le.heap{σ σ':St}(h:Le σ σ')(hp:List Blk):Le ⟨σ.sl,hp⟩ ⟨σ'.sl,hp⟩:=⟨h.sl,Eq.refl _⟩
theorem vT{σ:St}{d n:Nat}{v:SV}(h:n≠d):bR n (σ.set d v).sl=bR n σ.sl:=by
 simp only[St.set,bR];rw[if_neg (Ne.symm h)]
theorem tK{σ:St}{d:Nat}{v:SV}:bR d (σ.set d v).sl=some v:=by
 simp[St.set,bR]
theorem jV{σ:St}{k:K}{n:Nat}{v:SV}(h:n∉k.dsts):bR n (Zq.setD σ k.dst v).sl=bR n σ.sl:=by
 unfold K.dsts at h;cases hd:k.dst with
 |none=>rfl
 |some d=>
  rw[hd]at h;exact vT (by simpa using h)
def evI(Q:Qt)(kd:List (Nat×List Kd)):Its→St→Option (St×Bool)
 | .nil,σ=>some (σ,true)
 | .op k r,σ=>(exK Q kd σ.ev σ.hp k).bind fun x=>(evI Q kd r (setD ⟨σ.sl,x.1.2⟩ k.dst x.1.1)).bind fun y=>some (y.1,x.2&&y.2)
 | .iff s w its d x y r,σ=>
   (bR s σ.sl).bind fun c=>(asBool c).bind fun b=>(evI Q kd its σ).bind fun i=>
   if(its.inner []&&!its.dsts.contains s)=true then
    (if its.quiet then some σ.hp else xO (if w then b else !b) i.1.hp σ.hp).bind fun hp=>
    ((if w then i.1 else⟨GS σ.sl its.dsts,σ.hp⟩:St).ev x).bind fun vx=>((if w then⟨GS σ.sl its.dsts,σ.hp⟩else i.1:St).ev y).bind fun vy=>(AJ b vx vy).bind fun m=>
    (evI Q kd r (St.set ⟨GS σ.sl its.dsts,hp⟩ d m)).bind fun z=>some (z.1,(i.2||(if w then !b else b))&&z.2)
   else none
def Skips(s:Nat)(w:Bool)(σ:St):Prop:=bR s σ.sl=some .und∨bR s σ.sl=some (.one (B (!w)))
theorem Skips.setD{s:Nat}{w:Bool}{σ:St}(h:Skips s w σ)(k:K):Skips s w (Zq.setD σ k.dst .und):=by
 by_cases e:s∈k.dsts
 ·left
  unfold K.dsts at e;cases hd:k.dst with
  |none=>rw[hd]at e;simp at e
  |some d=>
   rw[hd]at e;obtain rfl:s=d:=by simpa using e
   exact tK
 ·rcases h with h|h
  ·left;rw[jV e];exact h
  ·right;rw[jV e];exact h
theorem XC{R:Rt}{s:Nat}{w:Bool}{σ:St}(h:Skips s w σ)(k:K):kH R σ (some (s,w),k)=some (setD σ k.dst .und):=by
 unfold kH;rcases h with h|h
 ·simp only[h]
 ·simp only[h];rw[if_neg (by cases w<;>simp)]
theorem AN{R:Rt}: ∀{l l':List G}{σ σ1:St},dY R l σ=some σ1→dY R (l++l') σ=dY R l' σ1
 |[],l',σ,σ1,h=>by simp only[dY,qI]at h;subst h;rfl
 |g::r,l',σ,σ1,h=>by
  simp only[dY,qB]at h;obtain⟨σ2,h1,h2⟩:=h;simp only[List.cons_append,dY,h1,Option.bind_some];exact AN h2
theorem I7{R:Rt}: ∀{its:Its}{s:Nat}{w:Bool}{ds:List Nat}{σ:St},Skips s w σ→its.inner ds=true→(∀n∈ds,bR n σ.sl=some .und)→
  ∃σ',dY R (its.flat (some (s,w))) σ=some σ'∧σ'.hp=σ.hp∧(∀n,n∉its.dsts→bR n σ'.sl=bR n σ.sl)∧(∀n,(n∈its.dsts∨n∈ds)→bR n σ'.sl=some .und)∧Skips s w σ'
 | .nil,s,w,ds,σ,hs,hi,hd=>⟨σ,rfl,rfl,fun _ _=>rfl,fun n hn=>by rcases hn with hn|hn;·simp[Its.dsts]at hn
                                                                ·exact hd n hn,hs⟩
 | .op k r,s,w,ds,σ,hs,hi,hd=>by
   simp only[Its.inner]at hi;obtain⟨σ',h1,h2,h3,h4,h5⟩:=I7 (R:=R) (its:=r) (σ:=setD σ k.dst .und) (ds:=k.dsts++ds) (hs.setD k) hi (fun n hn=>by
    by_cases e:n∈k.dsts
    ·unfold K.dsts at e;cases hk:k.dst with
     |none=>rw[hk]at e;simp at e
     |some d=>
      rw[hk]at e;obtain rfl:n=d:=by simpa using e
      exact tK
    ·rw[jV e];exact hd n ((List.mem_append.1 hn).resolve_left e))
   refine⟨σ',?_,?_,?_,?_,h5⟩
   ·simp only[Its.flat,dY,XC hs,Option.bind_some];exact h1
   ·rw[h2];cases k.dst<;>rfl
   ·intro n hn;simp only[Its.dsts,q_j,not_or]at hn;rw[h3 n hn.2,jV hn.1]
   ·intro n hn;simp only[Its.dsts,q_j]at hn;exact h4 n (by simp only[q_j];rcases hn with(hn|hn)|hn<;>simp[hn])
 | .iff s2 w2 its d x y r,s,w,ds,σ,hs,hi,hd=>by
   simp only[Its.inner,Bool.and_eq_true,List.contains_iff_mem]at hi;obtain⟨σ1,h1,h2,h3,h4,h5⟩:=I7 (R:=R) (its:=its) (s:=s2) (w:=w2) (σ:=σ) (ds:=[]) (.inl (hd s2 hi.1.1)) hi.1.2 (by simp)
   have hs1:Skips s w σ1:=by
    by_cases e:s∈its.dsts
    ·exact .inl (h4 s (.inl e))
    ·rcases hs with hs|hs
     ·left;rw[h3 s e];exact hs
     ·right;rw[h3 s e];exact hs
   obtain⟨σ',k1,k2,k3,k4,k5⟩:=I7 (R:=R) (its:=r) (s:=s) (w:=w) (σ:=setD σ1 (some d) .und) (ds:=d::(its.dsts++ds)) (hs1.setD (.pick d (.t s2) x y)) hi.2 (fun n hn=>by
    by_cases e:n=d
    ·subst e;exact tK
    ·show bR n (σ1.set d .und).sl=_
     rw[vT e];simp only[List.mem_cons,e,false_or,q_j]at hn;by_cases f:n∈its.dsts
     ·exact h4 n (.inl f)
     ·rw[h3 n f];exact hd n (hn.resolve_left f))
   refine⟨σ',?_,?_,?_,?_,k5⟩
   ·rw[Its.flat,AN h1];simp only[dY,XC hs1,Option.bind_some];exact k1
   ·rw[k2];exact h2
   ·intro n hn;simp only[Its.dsts,q_j,List.mem_cons,not_or]at hn;rw[k3 n hn.2.2];show bR n (σ1.set d .und).sl=_
    rw[vT hn.2.1,h3 n hn.1]
   ·intro n hn;simp only[Its.dsts,q_j,List.mem_cons]at hn;refine k4 n ?_;simp only[List.mem_cons,q_j];rcases hn with(hn|hn|hn)|hn<;>simp[hn]
def aN7(g:Option (Nat×Bool))(σ:St):Prop:= ∀s w,g=some (s,w)→bR s σ.sl=some (.one (B w))
def bJV(g:Option (Nat×Bool))(ds:List Nat):Prop:= ∀s w,g=some (s,w)→s∉ds
theorem runG_holds{R:Rt}{g:Option (Nat×Bool)}{σ:St}(h:aN7 g σ)(k:K):kH R σ (g,k)=k.run R σ:=by
 unfold kH;cases g with
 |none=>rfl
 |some x=>simp only[h x.1 x.2 rfl,if_true]
theorem N1{R:Rt}: ∀{l:List G}{σ σ':St},dY R l σ=some σ'→ ∀n,(∀g∈l,n∉g.2.dsts)→bR n σ'.sl=bR n σ.sl
 |[],σ,σ',h,n,hn=>by simp only[dY,qI]at h;rw[h]
 |g::r,σ,σ',h,n,hn=>by
  simp only[dY,qB]at h;obtain⟨σ1,h1,h2⟩:=h;rw[N1 h2 n (fun g hg=>hn g (List.mem_cons_of_mem _ hg))]
  have hk:=hn g (List.mem_cons_self ..);have hrun: ∀{τ:St},g.2.run R σ=some τ→bR n τ.sl=bR n σ.sl:=fun{τ} ht=>by
   simp only[K.run,qB,qI]at ht;obtain⟨q,-,rfl⟩:=ht;rw[jV hk]
  unfold kH at h1;split at h1
  ·exact hrun h1
  ·split at h1
   ·split at h1
    ·exact hrun h1
    ·obtain rfl:=Option.some.inj h1;rw[jV hk]
   ·obtain rfl:=Option.some.inj h1;rw[jV hk]
   ·simp at h1
theorem EE{n:Nat}: ∀{its:Its}{g:Option (Nat×Bool)},n∉its.dsts→ ∀x∈its.flat g,n∉x.2.dsts
 | .nil,g,h,x,hx=>by simp[Its.flat]at hx
 | .op k r,g,h,x,hx=>by
   simp only[Its.dsts,q_j,not_or]at h;simp only[Its.flat,List.mem_cons]at hx;rcases hx with rfl|hx
   ·exact h.1
   ·exact EE h.2 x hx
 | .iff s w its d a b r,g,h,x,hx=>by
   simp only[Its.dsts,q_j,List.mem_cons,not_or]at h;simp only[Its.flat,q_j,List.mem_cons]at hx;rcases hx with hx|rfl|hx
   ·exact EE h.1 x hx
   ·simpa [K.dsts,K.dst]using h.2.1
   ·exact EE h.2.2 x hx
theorem EF{Q:Qt}{kd:List (Nat×List Kd)}: ∀{its:Its}{σ:St}{r:St×Bool},evI Q kd its σ=some r→ ∀n v,n∉its.dsts→bR n r.1.sl=some v→bR n σ.sl=some v
 | .nil,σ,r,h,n,v,hn,hv=>by simp only[evI,qI]at h;subst h;exact hv
 | .op k t,σ,r,h,n,v,hn,hv=>by
   simp only[evI,qB,qI]at h;obtain⟨x,hx,y,hy,rfl⟩:=h;simp only[Its.dsts,q_j,not_or]at hn;have:=EF hy n v hn.2 hv;rw[jV hn.1]at this;exact this
 | .iff s w its d a b t,σ,r,h,n,v,hn,hv=>by
   simp only[evI,qB]at h;obtain⟨c,hc,e,he,i,hi,h⟩:=h;split at h
   ·simp only[qB,qI]at h;obtain⟨hp1,hh,vx,hx,vy,hy,m,hm,z,hz,rfl⟩:=h;simp only[Its.dsts,q_j,List.mem_cons,not_or]at hn;have:=EF hz n v hn.2.2 hv;rw[vT hn.2.1]at this;exact(xQ this).2
   ·simp at h
theorem FK{Q:Qt}{wm:Bool}{hp:List Blk}{f:FuncId}{vs:List (SV×Nat×Bool)}{r:(SV×List Blk)×Bool}(h:zN Q wm hp true f vs=some r):r.1.2=hp:=by
 simp only[zN,if_true,qB]at h;obtain⟨args,h1,q,hq,h⟩:=h;split at h
 ·obtain rfl:=Option.some.inj h;rfl
 ·simp at h
theorem YZ{Q:Qt}{wm:Bool}{hp:List Blk}{f:FuncId}{vs:List (SV×Nat×Bool)}{r:(SV×List Blk)×Bool}(h:I4 Q wm hp true f vs=some r):r.1.2=hp:=by
 unfold I4 at h;split at h
 ·exact FK h
 ·simp at h
theorem VR{Q:Qt}{wm:Bool}{hp:List Blk}{f:FuncId}{vs:List (SV×Nat×Bool)}{r:(SV×List Blk)×Bool}(h:I3 Q wm hp true f vs=some r):r.1.2=hp:=FK (cB h).2
theorem aVD{Q:Qt}{kd:List (Nat×List Kd)}{ev:Ev}{hp:List Blk}{k:K}{r:(SV×List Blk)×Bool}(hk:qN k=true)(h:exK Q kd ev hp k=some r):r.1.2=hp:=by
 unfold exK at h;split at h
 ·simp only[qB,qI]at h;obtain⟨v,hv,t,ht,u,hu,s,hs,q,hq,rfl⟩:=h;rfl
 ·simp only[qB,qI]at h;obtain⟨c,hc,b,hb,v,hv,u,hu,m,hm,rfl⟩:=h;rfl
 ·simp only[qB,qI]at h;obtain⟨vs,hvs,h⟩:=h;simp only[qN]at hk;subst hk;exact YZ h
 ·simp only[qB]at h;obtain⟨g,hg,h⟩:=h;split at h
  ·simp only[qB,qI]at h;obtain⟨vs,hvs,h⟩:=h;simp only[qN]at hk;subst hk;exact VR h
  ·simp at h
 ·split at h
  ·simp only[qB,qI]at h;obtain⟨v,hv,t,ht,u,hu,w,hw,q,hq,rfl⟩:=h;rfl
  ·simp only[Option.map_eq_some_iff]at h;obtain⟨q,hq,rfl⟩:=h;exact LD hk hq
 ·split at h
  ·simp only[qB,qI]at h;obtain⟨v,hv,t,ht,q,hq,rfl⟩:=h;rfl
  ·simp only[Option.map_eq_some_iff]at h;obtain⟨q,hq,rfl⟩:=h;exact LD hk hq
 ·simp[qN]at hk
 ·simp[qN]at hk
 ·simp only[qB,qI]at h;obtain⟨v,hv,t,ht,n,hn,rfl⟩:=h;rfl
 ·simp only[qB,qI]at h;obtain⟨v,hv,t,ht,n,hn,l,hl,hh,hb,q,hq,rfl⟩:=h;rfl
 ·simp[qN]at hk
 ·simp[qN]at hk
 ·simp[qN]at hk
 ·simp only[Option.map_eq_some_iff]at h;obtain⟨q,hq,rfl⟩:=h;exact LD hk hq
theorem aVE{σ:St}{d:Option Nat}{v:SV}:(setD σ d v).hp=σ.hp:=by cases d<;>rfl
theorem EG{Q:Qt}{kd:List (Nat×List Kd)}: ∀{its:Its}{σ:St}{r:St×Bool},its.quiet=true→evI Q kd its σ=some r→r.1.hp=σ.hp
 | .nil,σ,r,hq,h=>by simp only[evI,qI]at h;subst h;rfl
 | .op k t,σ,r,hq,h=>by
   simp only[evI,qB,qI]at h;obtain⟨x,hx,y,hy,rfl⟩:=h;simp only[Its.quiet,Bool.and_eq_true]at hq;rw[EG hq.2 hy,aVE];exact aVD hq.1 hx
 | .iff s w its d a b t,σ,r,hq,h=>by
   simp only[evI,qB]at h;obtain⟨c,hc,e,he,i,hi,h⟩:=h;simp only[Its.quiet,Bool.and_eq_true]at hq;split at h
   ·simp only[qB,qI]at h;obtain⟨hp1,hh,vx,hx,vy,hy,m,hm,z,hz,rfl⟩:=h;rw[EG hq.2 hz];rw[if_pos hq.1]at hh;obtain rfl:=Option.some.inj hh;rfl
   ·simp at h
theorem EH{R:Rt}{Q:Qt}(hQ:WW (dJ R) Q){kd:List (Nat×List Kd)}: ∀{its:Its}{g:Option (Nat×Bool)}{σ σr σ':St},evI Q kd its σ=some (σ',true)→Le σ σr→aN7 g σr→bJV g its.dsts→
  ∃σr',dY R (its.flat g) σr=some σr'∧Le σ' σr'
 | .nil,g,σ,σr,σ',h,hl,hg,ha=>by
   simp only[evI,qI,Prod.mk.injEq]at h;obtain⟨rfl,-⟩:=h;exact⟨σr,rfl,hl⟩
 | .op k t,g,σ,σr,σ',h,hl,hg,ha=>by
   simp only[evI,qB,qI,Prod.mk.injEq,Bool.and_eq_true]at h;obtain⟨x,hx,y,hy,rfl,h1,h2⟩:=h;have hx':k.exec R σr.ev σr.hp=some x.1:=by
    rw[hl.hp];exact aVB hQ hl.ev (by rw[hx,←h1])
   have hl':=(hl.heap x.1.2).setD k.dst x.1.1;have hg':aN7 g (setD ⟨σr.sl,x.1.2⟩ k.dst x.1.1):=fun s w e=>by
    have:=ha s w e;simp only[Its.dsts,q_j,not_or]at this;rw[jV this.1];exact hg s w e
   obtain⟨σr',k1,k2⟩:=EH hQ (its:=t) (g:=g) (by rw[hy,←h2]) hl' hg' (fun s w e=>by
    have:=ha s w e;simp only[Its.dsts,q_j,not_or]at this;exact this.2)
   refine⟨σr',?_,k2⟩;simp only[Its.flat,dY,runG_holds hg,K.run,hx',Option.bind_some];exact k1
 | .iff s w its d a b t,g,σ,σr,σ',h,hl,hg,ha=>by
   simp only[evI,qB]at h;obtain⟨c,hc,e,he,i,hi,h⟩:=h;split at h
   case isFalse=>simp at h
   rename_i hcond;simp only[Bool.and_eq_true,Bool.not_eq_true',List.contains_eq_mem,decide_eq_false_iff_not]at hcond;obtain⟨hin,hs⟩:=hcond;simp only[qB,qI,Prod.mk.injEq,Bool.and_eq_true,Bool.or_eq_true]at h;obtain⟨hp1,hh,vx,hx,vy,hy,m,hm,z,hz,rfl,ho1,ho2⟩:=h;have hcs:bR s σr.sl=some (.one (B e)):=by
    have:=hl.sl s c hc;rw[this]
    revert he
    unfold asBool;split
    ·intro he;obtain rfl:=Option.some.inj he;rfl
    ·intro he;simp at he
   have hdrop: ∀{τ:St}{hp:List Blk},τ.hp=hp→(∀n,n∉its.dsts→bR n τ.sl=bR n σr.sl)→Le ⟨GS σ.sl its.dsts,hp⟩ τ:=fun{τ hp} h1 h2=>⟨fun n v hn=>by
    have:=xQ hn;rw[h2 n this.1];exact hl.sl n v this.2,h1⟩
   have ha': ∀{n:Nat}{w':Bool},g=some (n,w')→n∉its.dsts∧n≠d∧n∉t.dsts:=fun{n w'} e'=>by
    have:=ha n w' e';simpa only[Its.dsts,q_j,List.mem_cons,not_or]using this
   have main: ∃τ,dY R (its.flat (some (s,w))) σr=some τ∧τ.hp=hp1∧(∀n,n∉its.dsts→bR n τ.sl=bR n σr.sl)∧(if e then τ.ev a else τ.ev b)=some m:=by
    by_cases hw:e=w
    ·subst hw;have hok:i.2=true:=by
      rcases ho1 with h|h
      ·exact h
      ·cases e<;>simp at h
     have hih:i.1.hp=hp1:=by
      split at hh
      ·rename_i hq;obtain rfl:=Option.some.inj hh;exact EG hq hi
      ·rw[AL hh];cases e<;>rfl
     obtain⟨τ,k1,k2⟩:=EH hQ (its:=its) (g:=some (s,e)) (σ:=σ) (σ':=i.1) (by rw[hi,←hok]) hl (fun s' w' e'=>by
      simp only[qI,Prod.mk.injEq]at e';obtain⟨rfl,rfl⟩:=e';exact hcs) (fun s' w' e'=>by
      simp only[qI,Prod.mk.injEq]at e';obtain⟨rfl,rfl⟩:=e';exact hs)
     refine⟨τ,k1,by rw[k2.hp];exact hih,fun n hn=>N1 k1 n (EE hn),?_⟩
     rw[AK hm];cases e
     ·simp only[Bool.false_eq_true,if_false,cond_false]at hy⊢;exact k2.ev _ _ hy
     ·simp only[if_true,cond_true]at hx⊢;exact k2.ev _ _ hx
    ·have hw':e=!w:=by cases e<;>cases w<;>simp_all
     subst hw';have hih:hp1=σ.hp:=by
      split at hh
      ·exact(Option.some.inj hh).symm
      ·rw[AL hh];cases w<;>rfl
     obtain⟨τ,k1,k2,k3,k4,k5⟩:=I7 (R:=R) (its:=its) (s:=s) (w:=w) (ds:=[]) (σ:=σr) (.inr hcs) hin (by simp)
     refine⟨τ,k1,by rw[k2,hih];exact hl.hp,k3,?_⟩
     have hd:=hdrop (τ:=τ) (hp:=σ.hp) (by rw[k2];exact hl.hp) k3
     rw[AK hm];cases w
     ·simp only[Bool.not_false,if_true,cond_true,Bool.false_eq_true,if_false]at hx⊢;exact hd.ev _ _ hx
     ·simp only[Bool.not_true,Bool.false_eq_true,if_false,cond_false,if_true]at hy⊢;exact hd.ev _ _ hy
   obtain⟨τ,m1,m2,m3,m4⟩:=main;have hgτ:aN7 g τ:=fun s' w' e'=>by rw[m3 s' (ha' e').1];exact hg s' w' e'
   have hpick:(K.pick d (.t s) a b).run R τ=some (τ.set d m):=by
    have hct:τ.ev (.t s)=some (.one (B e)):=by
     show bR s τ.sl=_
     rw[m3 s hs];exact hcs
    simp only[K.run,K.exec,hct,Option.bind_some,asBool,K.dst,Zq.setD];cases e
    ·simp only[Bool.false_eq_true,if_false]at m4⊢;simp[m4]
    ·simp only[if_true]at m4⊢;simp[m4]
   obtain⟨σr',k1,k2⟩:=EH hQ (its:=t) (g:=g) (σr:=τ.set d m) (by rw[hz,←ho2]) ((hdrop m2 m3).set d m) (fun s' w' e'=>by
    rw[vT (ha' e').2.1];exact hgτ s' w' e') (fun s' w' e'=>(ha' e').2.2)
   refine⟨σr',?_,k2⟩;rw[Its.flat,AN m1];simp only[dY,runG_holds hgτ,hpick,Option.bind_some];exact k1
end Go.Zq

namespace Go.Zq
open Go
inductive Tr where
 |leaf (σ:St)
 |br (b:Bool) (x y:Tr)
def Tr.st:Tr→St
 | .leaf σ=>σ
 | .br b x y=>bif b then x.st else y.st
def Tr.All(P:St→Prop):Tr→Prop
 | .leaf σ=>P σ
 | .br _ x y=>x.All P∧y.All P
theorem Tr.All.st{P:St→Prop}: ∀{t:Tr},t.All P→P t.st
 | .leaf σ,h=>h
 | .br b x y,h=>by
   cases b
   ·exact Tr.All.st (t:=y) h.2
   ·exact Tr.All.st (t:=x) h.1
theorem Tr.All.mono{P P':St→Prop}(hp: ∀σ,P σ→P' σ): ∀{t:Tr},t.All P→t.All P'
 | .leaf σ,h=>hp σ h
 | .br b x y,h=>⟨Tr.All.mono hp (t:=x) h.1,Tr.All.mono hp (t:=y) h.2⟩
inductive Ex where
 |ret
 |brk (id:Nat)
def Ex.out:Ex→St→Out
 | .ret,σ=> .ret σ
 | .brk id,σ=> .brk id σ
structure O where
 ex:List (Ex×Bool×Tr)
 nor:Option Tr
def nL:List (Ex×Bool×Tr)→Option Tr→Option Out
 |[],none=>none
 |[],some t=>some (.nor t.st)
 |(k,b,t)::r,n=>bif b then some (k.out t.st)else nL r n
def O.den(o:O):Option Out:=nL o.ex o.nor
structure O.All(P:St→Prop)(o:O):Prop where
 ex: ∀e∈o.ex,e.2.2.All P
 nor: ∀t,o.nor=some t→t.All P
theorem O.All.mono{P P':St→Prop}(hp: ∀σ,P σ→P' σ){o:O}(h:o.All P):o.All P':=⟨fun e he=>(h.ex e he).mono hp,fun t ht=>(h.nor t ht).mono hp⟩
inductive LeOut:Out→Out→Prop where
 |nor {σ σ':St} (h:Le σ σ'):LeOut (.nor σ) (.nor σ')
 |brk {id:Nat} {σ σ':St} (h:Le σ σ'):LeOut (.brk id σ) (.brk id σ')
 |ret {σ σ':St} (h:Le σ σ'):LeOut (.ret σ) (.ret σ')
theorem LeOut.refl: ∀{o:Out},LeOut o o
 | .nor _=> .nor .rfl
 | .brk _ _=> .brk .rfl
 | .ret _=> .ret .rfl
theorem LeOut.trans{a b c:Out}(h:LeOut a b)(k:LeOut b c):LeOut a c:=by
 cases h<;>cases k
 ·exact .nor (Le.trans ‹_› ‹_›)
 ·exact .brk (Le.trans ‹_› ‹_›)
 ·exact .ret (Le.trans ‹_› ‹_›)
def QN(asg:Option (List Nat))(n:Nat):Bool:=match asg with|some l=>l.contains n|none=>true
def uY(b:Bool)(asg:Option (List Nat))(s1 s2:List (Nat×SV)):List Nat→List (Nat×SV)
 |[]=>[]
 |n::r=>
  match bR n s1 with
  |none=>uY b asg s1 s2 r
  |some v=>
   match bR n s2 with
   |none=>uY b asg s1 s2 r
   |some u=>
    if QN asg n=true then
     match AJ b v u with
     |some m=>(n,m)::uY b asg s1 s2 r
     |none=>uY b asg s1 s2 r
    else(n,v)::uY b asg s1 s2 r
def xR(b:Bool)(asg:Option (List Nat))(quiet:Bool)(σ1 σ2:St):Option St:=
 (if quiet then some σ1.hp else xO b σ1.hp σ2.hp).map fun hp=>⟨uY b asg σ1.sl σ2.sl (σ1.sl.map (·.1)),hp⟩
structure Fr(asg:Option (List Nat))(quiet:Bool)(σ0 σ:St):Prop where
 sl: ∀l,asg=some l→ ∀n v,n∉l→bR n σ.sl=some v→bR n σ0.sl=some v
 hp:quiet=true→σ.hp=σ0.hp
theorem iL{b:Bool}{asg:Option (List Nat)}{s1 s2:List (Nat×SV)}{n:Nat}{v:SV}: ∀{l:List Nat},bR n (uY b asg s1 s2 l)=some v→
  ∃x y,bR n s1=some x∧bR n s2=some y∧((QN asg n=true∧AJ b x y=some v)∨(QN asg n=false∧v=x))
 |[],h=>by simp[uY,bR]at h
 |m::r,h=>by
  unfold uY at h;cases hx:bR m s1 with
  |none=>simp only[hx]at h;exact iL h
  |some x=>
   cases hy:bR m s2 with
   |none=>simp only[hx,hy]at h;exact iL h
   |some y=>
    simp only[hx,hy]at h;by_cases hc:QN asg m=true
    ·rw[if_pos hc]at h;cases hz:AJ b x y with
     |none=>simp only[hz]at h;exact iL h
     |some z=>
      simp only[hz,bR]at h;by_cases e:m=n
      ·rw[if_pos e]at h;subst e;obtain rfl:=Option.some.inj h;exact⟨x,y,hx,hy, .inl ⟨hc,hz⟩⟩
      ·rw[if_neg e]at h;exact iL h
    ·rw[if_neg hc]at h;simp only[bR]at h;by_cases e:m=n
     ·rw[if_pos e]at h;subst e;obtain rfl:=Option.some.inj h;exact⟨x,y,hx,hy, .inr ⟨by simpa using hc,rfl⟩⟩
     ·rw[if_neg e]at h;exact iL h
theorem QP{l:List Nat}{n:Nat}:QN (some l) n=true↔n∈l:=by simp[QN]
theorem QQ{b:Bool}{asg:Option (List Nat)}{quiet:Bool}{σ0 σ1 σ2 σ:St}(h:xR b asg quiet σ1 σ2=some σ)(h1:Fr asg quiet σ0 σ1)(h2:Fr asg quiet σ0 σ2):Le σ (bif b then σ1 else σ2):=by
 simp only[xR,Option.map_eq_some_iff]at h;obtain⟨hp,hh,rfl⟩:=h;constructor
 ·intro n v hn;obtain⟨x,y,hx,hy,⟨-,hm⟩|⟨hnl,rfl⟩⟩:=iL hn
  ·rw[AK hm];cases b
   ·exact hy
   ·exact hx
  ·cases b
   ·cases asg with
    |none=>simp[QN]at hnl
    |some l=>
     have hnl':n∉l:=fun e=>by rw[QP.2 e]at hnl;simp at hnl
     have e1:=h1.sl l rfl n _ hnl' hx;have e2:=h2.sl l rfl n _ hnl' hy;rw[e1]at e2;obtain rfl:=Option.some.inj e2;exact hy
   ·exact hx
 ·split at hh
  ·rename_i hq;obtain rfl:=Option.some.inj hh;cases b
   ·exact(h2.hp hq).trans (h1.hp hq).symm
   ·rfl
  ·rw[AL hh];cases b<;>rfl
theorem aHG{b:Bool}{asg:Option (List Nat)}{quiet:Bool}{σ0 σ1 σ2 σ:St}(h:xR b asg quiet σ1 σ2=some σ)(h1:Fr asg quiet σ0 σ1):Fr asg quiet σ0 σ:=by
 simp only[xR,Option.map_eq_some_iff]at h;obtain⟨hp,hh,rfl⟩:=h;constructor
 ·intro l hl n v hn hv;obtain⟨x,y,hx,hy,⟨hnl,-⟩|⟨-,rfl⟩⟩:=iL hv
  ·subst hl;exact absurd (QP.1 hnl) hn
  ·exact h1.sl l hl n _ hn hx
 ·intro hq;rw[if_pos hq]at hh;obtain rfl:=Option.some.inj hh;exact h1.hp hq
def QR(mg:Bool→St→St→Option St)(b:Bool):Tr→Tr→Tr
 | .leaf σ1, .leaf σ2=>match mg b σ1 σ2 with
   |some σ=> .leaf σ
   |none=> .br b (.leaf σ1) (.leaf σ2)
 |x,y=> .br b x y
structure MgOk(mg:Bool→St→St→Option St)(P:St→Prop):Prop where
 le: ∀b σ1 σ2 σ,P σ1→P σ2→mg b σ1 σ2=some σ→Le σ (bif b then σ1 else σ2)
 all: ∀b σ1 σ2 σ,P σ1→P σ2→mg b σ1 σ2=some σ→P σ
theorem EI{mg:Bool→St→St→Option St}{P:St→Prop}(hm:MgOk mg P){b:Bool}{x y:Tr}(hx:x.All P)(hy:y.All P):Le (QR mg b x y).st (bif b then x.st else y.st):=by
 unfold QR;split
 ·split
  ·rename_i h;exact hm.le _ _ _ _ hx hy h
  ·exact .rfl
 ·exact .rfl
theorem QS{mg:Bool→St→St→Option St}{P:St→Prop}(hm:MgOk mg P){b:Bool}{x y:Tr}(hx:x.All P)(hy:y.All P):(QR mg b x y).All P:=by
 unfold QR;split
 ·split
  ·rename_i h;exact hm.all _ _ _ _ hx hy h
  ·exact⟨hx,hy⟩
 ·exact⟨hx,hy⟩
def I8(mg:Bool→St→St→Option St)(b:Bool):Option Tr→Option Tr→Option Tr
 |none,t=>t
 |some t,none=>some t
 |some x,some y=>some (QR mg b x y)
def N2(mg:Bool→St→St→Option St)(b:Bool)(o1 o2:O):O:=
 ⟨o1.ex.map (fun e=>(e.1,e.2.1&&b,e.2.2))++o2.ex.map (fun e=>(e.1,e.2.1&&!b,e.2.2)),I8 mg b o1.nor o2.nor⟩
theorem I9: ∀{l:List (Ex×Bool×Tr)}{l':List (Ex×Bool×Tr)}{n:Option Tr},(∀e∈l,e.2.1=false)→nL (l++l') n=nL l' n
 |[],l',n,h=>rfl
 |e::r,l',n,h=>by
  have he:=h e (List.mem_cons_self ..);obtain⟨k,b,t⟩:=e;simp only at he;subst he;simp only[List.cons_append,nL,cond_false];exact I9 fun e he=>h e (List.mem_cons_of_mem _ he)
theorem QT{l l':List (Ex×Bool×Tr)}{n n':Option Tr}{f:Bool→Bool}(hf: ∀b,f b=b){out:Out}(h:nL l n=some out)(hl: ∀e∈l',e.2.1=false)(hn: ∀t,n=some t→ ∃t',n'=some t'∧Le t'.st t.st):
  ∃out',nL (l.map (fun e=>(e.1,f e.2.1,e.2.2))++l') n'=some out'∧LeOut out' out:=by
 induction l with
 |nil=>
  rw[List.map_nil,List.nil_append];have:=I9 (l':=[]) (n:=n') hl;rw[List.append_nil]at this;rw[this];cases n with
  |none=>simp[nL]at h
  |some t=>
   simp only[nL,Option.some.injEq]at h;subst h;obtain⟨t',rfl,ht⟩:=hn t rfl;exact⟨_,rfl, .nor ht⟩
 |cons e r ih=>
  obtain⟨k,b,t⟩:=e;cases b
  ·simp only[nL,cond_false]at h;simp only[List.map_cons,List.cons_append,nL];rw[hf];exact ih h
  ·simp only[nL,cond_true]at h;simp only[List.map_cons,List.cons_append,nL];rw[hf];exact⟨_,h, .refl⟩
theorem EJ{mg:Bool→St→St→Option St}{P:St→Prop}(hm:MgOk mg P){b:Bool}{o1 o2:O}(h1:o1.All P)(h2:o2.All P){out:Out}(h:(bif b then o1.den else o2.den)=some out):
  ∃out',(N2 mg b o1 o2).den=some out'∧LeOut out' out:=by
 cases b
 ·simp only[cond_false]at h;unfold O.den N2 at*;simp only;rw[I9 (by intro e he;obtain⟨e',-,rfl⟩:=List.mem_map.1 he;simp)]
  have:=QT (l':=[]) (n':=I8 mg false o1.nor o2.nor) (f:=fun b=>b&&!false) (by simp) h (by simp) (fun t ht=>by
   rw[ht];cases hn:o1.nor with
   |none=>exact⟨t,rfl, .rfl⟩
   |some t1=>exact⟨_,rfl,EI hm (h1.nor _ hn) (h2.nor _ ht)⟩)
  rwa [List.append_nil]at this
 ·simp only[cond_true]at h;unfold O.den N2 at*;simp only;exact QT (f:=fun b=>b&&true) (by simp) h (by intro e he;obtain⟨e',-,rfl⟩:=List.mem_map.1 he;simp) (fun t ht=>by
   rw[ht];cases hn:o2.nor with
   |none=>exact⟨t,rfl, .rfl⟩
   |some t2=>exact⟨_,rfl,EI hm (h1.nor _ ht) (h2.nor _ hn)⟩)
theorem XD{mg:Bool→St→St→Option St}{P:St→Prop}(hm:MgOk mg P){b:Bool}{o1 o2:O}(h1:o1.All P)(h2:o2.All P):(N2 mg b o1 o2).All P:=by
 constructor
 ·intro e he;simp only[N2,List.mem_append,List.mem_map]at he;rcases he with⟨e',he',rfl⟩|⟨e',he',rfl⟩
  ·exact h1.ex e' he'
  ·exact h2.ex e' he'
 ·intro t ht;simp only[N2]at ht;cases hn1:o1.nor with
  |none=>rw[hn1]at ht;exact h2.nor t ht
  |some t1=>
   cases hn2:o2.nor with
   |none=>rw[hn1,hn2]at ht;obtain rfl:=Option.some.inj ht;exact h1.nor _ hn1
   |some t2=>rw[hn1,hn2]at ht;obtain rfl:=Option.some.inj ht;exact QS hm (h1.nor _ hn1) (h2.nor _ hn2)
def aZM(b:Bool)(σ1 σ2:St):Option St:=xR b none false σ1 σ2
theorem JA:MgOk aZM (fun _=>True):=⟨fun b σ1 σ2 σ _ _ h=>QQ (σ0:=σ) h ⟨by simp,by simp⟩ ⟨by simp,by simp⟩,fun _ _ _ _ _ _ _=>trivial⟩
theorem O.All.triv(o:O):o.All fun _=>True:=by
 have: ∀t:Tr,t.All fun _=>True:=by
  intro t
  induction t with
  |leaf=>trivial
  |br b x y ihx ihy=>exact⟨ihx,ihy⟩
 exact⟨fun e _=>this _,fun t _=>this t⟩
def aHH(f:St→Option (O×Bool)):Tr→Option (O×Bool)
 | .leaf σ=>f σ
 | .br b x y=>(aHH f x).bind fun r1=>(aHH f y).bind fun r2=>some (N2 aZM b r1.1 r2.1,(r1.2||!b)&&(r2.2||b))
def bAY:List (Ex×Bool×Tr)→Bool→Bool
 |[],ok=>ok
 |e::r,ok=>bAY r ok||e.2.1
def FL(r:O×Bool)(f:St→Option (O×Bool)):Option (O×Bool):=
 match r.1.nor with
 |none=>some r
 |some t=>(aHH f t).bind fun r2=>some (⟨r.1.ex++r2.1.ex,r2.1.nor⟩,r.2&&bAY r.1.ex r2.2)
def QU(f:St→Option (O×Bool))(g:St→Option Out):Prop:= ∀σ σr o,f σ=some (o,true)→Le σ σr→ ∃out0 out,o.den=some out0∧g σr=some out∧LeOut out0 out
theorem GT{f:St→Option (O×Bool)}{g:St→Option Out}(hf:QU f g): ∀{t:Tr}{σr:St}{o:O},aHH f t=some (o,true)→Le t.st σr→ ∃out0 out,o.den=some out0∧g σr=some out∧LeOut out0 out
 | .leaf σ,σr,o,h,hl=>hf σ σr o h hl
 | .br b x y,σr,o,h,hl=>by
   simp only[aHH,Option.bind_eq_some_iff,Option.some.injEq,Prod.mk.injEq,Bool.and_eq_true,Bool.or_eq_true]at h;obtain⟨r1,h1,r2,h2,rfl,k1,k2⟩:=h;cases b
   ·have k:r2.2=true:=by simpa using k2
    obtain⟨out0,out,a1,a2,a3⟩:=GT hf (t:=y) (σr:=σr) (o:=r2.1) (by rw[h2,←k]) hl
    obtain⟨out',b1,b2⟩:=EJ (b:=false) (o1:=r1.1) JA (.triv _) (.triv _) a1;exact⟨out',out,b1,a2,b2.trans a3⟩
   ·have k:r1.2=true:=by simpa using k1
    obtain⟨out0,out,a1,a2,a3⟩:=GT hf (t:=x) (σr:=σr) (o:=r1.1) (by rw[h1,←k]) hl
    obtain⟨out',b1,b2⟩:=EJ (b:=true) (o2:=r2.1) JA (.triv _) (.triv _) a1;exact⟨out',out,b1,a2,b2.trans a3⟩
theorem XE: ∀{l:List (Ex×Bool×Tr)}{ok:Bool}{t:Tr}{out:Out},bAY l ok=true→nL l (some t)=some out→(∃σ,out= .nor σ)→ok=true
 |[],ok,t,out,h,hd,hn=>h
 |(k,b,u)::r,ok,t,out,h,hd,hn=>by
  cases b
  ·simp only[bAY,Bool.or_false]at h;simp only[nL,cond_false]at hd;exact XE h hd hn
  ·simp only[nL,cond_true,Option.some.injEq]at hd;obtain⟨σ,rfl⟩:=hn;cases k<;>simp[Ex.out]at hd
theorem GU: ∀{l:List (Ex×Bool×Tr)}{n:Option Tr}{out:Out},nL l n=some out→(∃k σ,out=Ex.out k σ∧ ∀l' m,nL (l++l') m=some out)∨(∃t,n=some t∧out= .nor t.st∧ ∀l' m,nL (l++l') m=nL l' m)
 |[],none,out,h=>by simp[nL]at h
 |[],some t,out,h=>by
  simp only[nL,Option.some.injEq]at h;exact .inr ⟨t,rfl,h.symm,fun _ _=>rfl⟩
 |(k,b,t)::r,n,out,h=>by
  cases b
  ·simp only[nL,cond_false]at h;simp only[List.cons_append,nL,cond_false];exact GU h
  ·simp only[nL,cond_true,Option.some.injEq]at h;subst h;exact .inl ⟨k,t.st,rfl,fun l' m=>by simp[nL]⟩
theorem N3{r:O×Bool}{f:St→Option (O×Bool)}{g:St→Option Out}(hf:QU f g){o:O}(h:FL r f=some (o,true)){out0 out:Out}(hd:r.2=true→r.1.den=some out0∧LeOut out0 out):
  ∃out0' out',o.den=some out0'∧(match out with| .nor σ=>g σ|o=>some o)=some out'∧LeOut out0' out':=by
 unfold FL at h;split at h
 ·rename_i hn;obtain⟨rfl,hr⟩:r.1=o∧r.2=true:=by
   have:=Option.some.inj h;rw[this];exact⟨rfl,rfl⟩
  obtain⟨hden,hl⟩:=hd hr;refine⟨out0,out,hden,?_,hl⟩;unfold O.den at hden;cases hl with
  |nor hl=>
   rcases GU hden with⟨k,σ,e,-⟩|⟨t,e,-⟩
   ·cases k<;>simp[Ex.out]at e
   ·rw[hn]at e;simp at e
  |brk hl=>rfl
  |ret hl=>rfl
 ·rename_i t hn;simp only[Option.bind_eq_some_iff,Option.some.injEq,Prod.mk.injEq,Bool.and_eq_true]at h;obtain⟨r2,h2,rfl,k1,k2⟩:=h;obtain⟨hden,hl⟩:=hd k1;unfold O.den at hden;rcases GU hden with⟨k,σ,rfl,e⟩|⟨t',e1,rfl,e2⟩
  ·refine⟨Ex.out k σ,out,e _ _,?_,hl⟩;cases k<;>cases hl<;>rfl
  ·rw[hn]at e1 hden;obtain rfl:=Option.some.inj e1;cases hl with
   |nor hl=>
    have hok:=XE k2 hden ⟨_,rfl⟩;obtain⟨o0,o1,a1,a2,a3⟩:=GT hf (t:=t) (o:=r2.1) (by rw[h2,←hok]) hl
    exact⟨o0,o1,by unfold O.den;rw[e2];exact a1,a2,a3⟩
end Go.Zq

namespace Go.Zq
open Option renaming bind_eq_some_iff → qB
open Option.some renaming injEq → qI
open Option.some renaming inj → qi
open Prod.mk renaming injEq → qP
open Go
theorem aZN{a:Option (List Nat)}{q:Bool}{σ0:St}:MgOk aZM (Fr a q σ0) where
 le b σ1 σ2 σ _ _ h:=JA.le b σ1 σ2 σ trivial trivial h
 all b σ1 σ2 σ h1 h2 h:=by
  have hle:=JA.le b σ1 σ2 σ trivial trivial h;cases b
  ·exact⟨fun l hl n v hn hv=>h2.sl l hl n v hn (hle.sl n v hv),fun hq=>hle.hp.symm.trans (h2.hp hq)⟩
  ·exact⟨fun l hl n v hn hv=>h1.sl l hl n v hn (hle.sl n v hv),fun hq=>hle.hp.symm.trans (h1.hp hq)⟩
def unO(a b:Option (List Nat)):Option (List Nat):=
 match a,b with
 |some x,some y=>some (x++y)
 |_,_=>none
def GV:C→Option (List Nat)
 | .ops l _=>some (l.flatMap fun g=>g.2.dsts)
 | .seq x y=>unO (GV x) (GV y)
 | .cond _ x y=>unO (GV x) (GV y)
 | .blk _ x=>GV x
 | .loop _ _=>none
 | .drw (l::_) _ false=>some (l.flatMap fun g=>g.2.dsts)
 | .drw _ _ _=>none
 |_=>some []
def qO:C→Bool
 | .ops l _=>l.all fun g=>qN g.2
 | .seq x y=>qO x&&qO y
 | .cond _ x y=>qO x&&qO y
 | .blk _ x=>qO x
 | .loop _ _=>false
 | .drw .. =>false
 |_=>true
theorem Fr.rfl{a:Option (List Nat)}{q:Bool}{σ:St}:Fr a q σ σ:=⟨fun _ _ _ _ _ h=>h,fun _=>Eq.refl _⟩
theorem Fr.left{a b:Option (List Nat)}{q r:Bool}{σ τ:St}(h:Fr a q σ τ):Fr (unO a b) (q&&r) σ τ:=⟨fun l hl n v hn hv=>by
 unfold unO at hl;split at hl
 ·obtain rfl:=qi hl;simp only[List.mem_append,not_or]at hn;exact h.sl _ (Eq.refl _) n v hn.1 hv
 ·simp at hl,fun hq=>h.hp (by simp at hq;exact hq.1)⟩
theorem Fr.right{a b:Option (List Nat)}{q r:Bool}{σ τ:St}(h:Fr b r σ τ):Fr (unO a b) (q&&r) σ τ:=⟨fun l hl n v hn hv=>by
 unfold unO at hl;split at hl
 ·obtain rfl:=qi hl;simp only[List.mem_append,not_or]at hn;exact h.sl _ (Eq.refl _) n v hn.2 hv
 ·simp at hl,fun hq=>h.hp (by simp at hq;exact hq.2)⟩
theorem Fr.trans{a b:Option (List Nat)}{q r:Bool}{σ τ ω:St}(h:Fr a q σ τ)(k:Fr b r τ ω):Fr (unO a b) (q&&r) σ ω:=⟨fun l hl n v hn hv=>by
 unfold unO at hl;split at hl
 ·obtain rfl:=qi hl;simp only[List.mem_append,not_or]at hn;exact h.sl _ (Eq.refl _) n v hn.1 (k.sl _ (Eq.refl _) n v hn.2 hv)
 ·simp at hl,fun hq=>by
 simp only[Bool.and_eq_true]at hq;exact(k.hp hq.2).trans (h.hp hq.1)⟩
theorem QV{a:Option (List Nat)}{q:Bool}{σ0:St}{f:St→Option (O×Bool)}: ∀{t:Tr}{r:O×Bool},(∀σ r,f σ=some r→t.All (fun _=>True)→r.1.All (Fr a q σ))→aHH f t=some r→ ∀{a0:Option (List Nat)}{q0:Bool},t.All (Fr a0 q0 σ0)→r.1.All (Fr (unO a0 a) (q0&&q) σ0)
 | .leaf σ,r,hf,h,a0,q0,ht=>(hf σ r h trivial).mono fun τ hτ=>Fr.trans ht hτ
 | .br b x y,r,hf,h,a0,q0,ht=>by
   have htr: ∀t:Tr,t.All fun _=>True:=by
    intro t
    induction t with
    |leaf=>trivial
    |br b x y ihx ihy=>exact⟨ihx,ihy⟩
   simp only[aHH,qB,qI]at h;obtain⟨r1,h1,r2,h2,rfl⟩:=h;exact XD aZN (QV (fun σ r h _=>hf σ r h (htr _)) h1 ht.1) (QV (fun σ r h _=>hf σ r h (htr _)) h2 ht.2)
theorem aVF{a a0:Option (List Nat)}{q q0:Bool}{σ0:St}{f:St→Option (O×Bool)}{r r':O×Bool}(hf: ∀σ r,f σ=some r→r.1.All (Fr a q σ))(hr:r.1.All (Fr a0 q0 σ0))(h:FL r f=some r'):r'.1.All (Fr (unO a0 a) (q0&&q) σ0):=by
 unfold FL at h;split at h
 ·obtain rfl:=qi h;exact hr.mono fun _ h=>h.left
 ·rename_i t hn;simp only[qB,qI]at h;obtain⟨r2,h2,rfl⟩:=h;have h3:=QV (fun σ r h _=>hf σ r h) h2 (hr.nor t hn)
  refine⟨fun e he=>?_,h3.nor⟩
  simp only[List.mem_append]at he;rcases he with he|he
  ·exact(hr.ex e he).mono fun _ h=>h.left
  ·exact h3.ex e he
def vU(mg:Bool→St→St→Option St)(id:Nat):List (Ex×Bool×Tr)→Option Tr→List (Ex×Bool×Tr)×Option Tr
 |[],n=>([],n)
 |(k,p,t)::r,n=>
  match k with
  | .ret=>let q:=vU mg id r n;((.ret,p,t)::q.1,q.2)
  | .brk j=>
    if j=id then let q:=vU mg id r n;(q.1.map (fun e=>(e.1,e.2.1&&!p,e.2.2)),I8 mg p (some t) q.2)
    else let q:=vU mg id r n;((.brk j,p,t)::q.1,q.2)
def x8(id:Nat):Out→Out
 | .brk j σ=>if j=id then .nor σ else .brk j σ
 |o=>o
theorem LE{mg:Bool→St→St→Option St}{P:St→Prop}(hm:MgOk mg P){id:Nat}: ∀{l:List (Ex×Bool×Tr)}{n:Option Tr},(O.mk l n).All P→(O.mk (vU mg id l n).1 (vU mg id l n).2).All P
 |[],n,h=>h
 |(k,p,t)::r,n,h=>by
  have ih:=LE hm (id:=id) (l:=r) (n:=n) ⟨fun e he=>h.ex e (List.mem_cons_of_mem _ he),h.nor⟩
  have ht:t.All P:=h.ex _ (List.mem_cons_self ..);unfold vU;split
  ·refine⟨fun e he=>?_,ih.nor⟩
   simp only[List.mem_cons]at he;rcases he with rfl|he
   ·exact ht
   ·exact ih.ex e he
  ·split
   ·refine⟨fun e he=>?_,fun u hu=>?_⟩
    ·obtain⟨e',he',rfl⟩:=List.mem_map.1 he;exact ih.ex e' he'
    ·simp only at hu;cases hn:(vU mg id r n).2 with
     |none=>rw[hn]at hu;obtain rfl:=qi hu;exact ht
     |some t2=>rw[hn]at hu;obtain rfl:=qi hu;exact QS hm ht (ih.nor _ hn)
   ·refine⟨fun e he=>?_,ih.nor⟩
    simp only[List.mem_cons]at he;rcases he with rfl|he
    ·exact ht
    ·exact ih.ex e he
theorem XF{mg:Bool→St→St→Option St}{P:St→Prop}(hm:MgOk mg P){id:Nat}: ∀{l:List (Ex×Bool×Tr)}{n:Option Tr}{out:Out},(O.mk l n).All P→nL l n=some out→ ∃out',nL (vU mg id l n).1 (vU mg id l n).2=some out'∧LeOut out' (x8 id out)
 |[],none,out,h,hd=>by simp[nL]at hd
 |[],some t,out,h,hd=>by
  simp only[nL,qI]at hd;subst hd;exact⟨_,rfl, .refl⟩
 |(k,p,t)::r,n,out,h,hd=>by
  have hr:(O.mk r n).All P:=⟨fun e he=>h.ex e (List.mem_cons_of_mem _ he),h.nor⟩
  have ha:=LE hm (id:=id) hr;have ht:t.All P:=h.ex _ (List.mem_cons_self ..);unfold vU;cases p
  ·simp only[nL,cond_false]at hd;obtain⟨out',i1,i2⟩:=XF hm (id:=id) hr hd;split
   ·exact⟨out',by simp only[nL,cond_false];exact i1,i2⟩
   ·split
    ·simp only;have:=QT (l':=[]) (n':=I8 mg false (some t) (vU mg id r n).2) (f:=fun b=>b&&!false) (by simp) i1 (by simp) (fun u hu=>by
      rw[hu];exact⟨_,rfl,EI (b:=false) hm ht (ha.nor _ hu)⟩)
     rw[List.append_nil]at this;obtain⟨o2,j1,j2⟩:=this;exact⟨o2,j1,j2.trans i2⟩
    ·exact⟨out',by simp only[nL,cond_false];exact i1,i2⟩
  ·simp only[nL,cond_true,qI]at hd;subst hd;split
   ·exact⟨_,rfl, .refl⟩
   ·rename_i j;split
    ·rename_i e;subst e;simp only;have:=I9 (l:=(vU mg j r n).1.map (fun e=>(e.1,e.2.1&&!true,e.2.2))) (l':=[]) (n:=I8 mg true (some t) (vU mg j r n).2) (by intro e he;obtain⟨e',-,rfl⟩:=List.mem_map.1 he;simp)
     rw[List.append_nil]at this;rw[this];simp only[Ex.out,x8,if_true];cases hn:(vU mg j r n).2 with
     |none=>exact⟨_,rfl, .refl⟩
     |some t2=>exact⟨_,rfl, .nor (EI (b:=true) hm ht (ha.nor _ hn))⟩
    ·rename_i e;refine⟨.brk j t.st,rfl,?_⟩;simp only[Ex.out,x8,e,if_false];exact .refl
def XG(nb:Nat)(live:List Nat)(f:St→Option (O×Bool)):Nat→St→Option (O×Bool)
 |0,_=>some (⟨[],none⟩,false)
 |n+1,σ=>(LB true nb live σ).bind fun c=>(f c.1).bind fun r=>(FL r (XG nb live f n)).bind fun o=>some (o.1,c.2&&o.2)
def b2B(cl:List Nat):Opd→Bool
 | .t n=>cl.contains n
 | .c _=>true
abbrev Lq:=List Nat→St→Option (O×Bool)
def lqN:Lq:=fun _ _=>none
def fM(T:List Nat→C→Prop):C→Prop
 | .seq x y=>fM T x∧fM T y
 | .cond _ x y=>fM T x∧fM T y
 | .blk _ x=>fM T x
 | .loop live x=>T live x∧fM T x
 |_=>True
noncomputable def same{α:Type}(a b:α):Bool:= @decide (a=b) (Classical.propDecidable _)
theorem pE{α:Type}{a b:α}(h:same a b=true):a=b:=by
 unfold same at h;exact @of_decide_eq_true _ (Classical.propDecidable _) h
theorem EK{α:Type}(a:α):same a a=true:=by
 unfold same;exact @decide_eq_true _ (Classical.propDecidable _) rfl
noncomputable def aE3(a b:List Row):Bool:=same a b
theorem aHI(a:List Row):aE3 a a=true:=EK a
noncomputable def eqV:Value→Value→Bool
 | .int k x, .int k' y=>decide (k=k')&&same x y
 | .bool x, .bool y=>same x y
 | .string x, .string y=>same x y
 |v,u=>same v u
theorem bJW{v u:Value}(h:eqV v u=true):v=u:=by
 unfold eqV at h;split at h
 ·obtain⟨h1,h2⟩:=bJ h;rw[of_decide_eq_true h1,pE h2]
 ·rw[pE h]
 ·rw[pE h]
 ·exact pE h
noncomputable def eqT:T→T→Bool
 | .lit v, .lit u=>eqV v u
 | .ptr i r o, .ptr i' r' o'=>Nat.beq i i'&&(Nat.beq r r'&&Nat.beq o o')
 | .sl i o l, .sl i' o' l'=>Nat.beq i i'&&(Nat.beq o o'&&same l l')
 | .nls n, .nls m=>Nat.beq n m
 | .imm p n r, .imm p' n' r'=>same p p'&&(Nat.beq n n'&&aE3 r r')
 | .clo f c, .clo f' c'=>Nat.beq f f'&&same c c'
 |t,u=>same t u
theorem aZP{v u:T}(h:eqT v u=true):v=u:=by
 unfold eqT at h;split at h
 ·rw[bJW h]
 ·obtain⟨h1,h2⟩:=bJ h;obtain⟨h2,h3⟩:=bJ h2;rw[Nat.eq_of_beq_eq_true h1,Nat.eq_of_beq_eq_true h2,Nat.eq_of_beq_eq_true h3]
 ·obtain⟨h1,h2⟩:=bJ h;obtain⟨h2,h3⟩:=bJ h2;rw[Nat.eq_of_beq_eq_true h1,Nat.eq_of_beq_eq_true h2,pE h3]
 ·rw[Nat.eq_of_beq_eq_true h]
 ·obtain⟨h1,h2⟩:=bJ h;obtain⟨h2,h3⟩:=bJ h2;rw[pE h1,Nat.eq_of_beq_eq_true h2,pE h3]
 ·obtain⟨h1,h2⟩:=bJ h;rw[Nat.eq_of_beq_eq_true h1,pE h2]
 ·exact pE h
noncomputable def aVG:Row→Row→Bool
 |[],[]=>true
 |t::r,u::s=>eqT t u&&aVG r s
 |_,_=>false
theorem Y0: ∀{v u:Row},aVG v u=true→v=u
 |[],[],_=>rfl
 |t::r,u::s,h=>by
  obtain⟨h1,h2⟩:=bJ h;rw[aZP h1,Y0 h2]
 |[],_::_,h=>by simp[aVG]at h
 |_::_,[],h=>by simp[aVG]at h
noncomputable def bJX:SV→SV→Bool
 | .und, .und=>true
 | .one t, .one u=>eqT t u
 | .agg t, .agg u=>aVG t u
 |v,u=>same v u
theorem bAZ{v u:SV}(h:bJX v u=true):v=u:=by
 unfold bJX at h;split at h
 ·rfl
 ·rw[aZP h]
 ·rw[Y0 h]
 ·exact pE h
noncomputable def aZQ:List (Nat×SV)→List (Nat×SV)→Bool
 |[],[]=>true
 |(n,v)::r,(m,u)::s=>Nat.beq n m&&(bJX v u&&aZQ r s)
 |_,_=>false
theorem aN8: ∀{v u:List (Nat×SV)},aZQ v u=true→v=u
 |[],[],_=>rfl
 |(n,v)::r,(m,u)::s,h=>by
  obtain⟨h1,h2⟩:=bJ h;obtain⟨h2,h3⟩:=bJ h2;rw[Nat.eq_of_beq_eq_true h1,bAZ h2,aN8 h3]
 |[],_::_,h=>by simp[aZQ]at h
 |_::_,[],h=>by simp[aZQ]at h
noncomputable def aZR:Blk→Blk→Bool
 | .dead, .dead=>true
 | .box t, .box u=>aVG t u
 | .lst n t, .lst m u=>Nat.beq n m&&aE3 t u
 |v,u=>same v u
theorem aZS{v u:Blk}(h:aZR v u=true):v=u:=by
 unfold aZR at h;split at h
 ·rfl
 ·rw[Y0 h]
 ·obtain⟨h1,h2⟩:=bJ h;rw[Nat.eq_of_beq_eq_true h1,pE h2]
 ·exact pE h
noncomputable def aZT:List Blk→List Blk→Bool
 |[],[]=>true
 |t::r,u::s=>aZR t u&&aZT r s
 |_,_=>false
theorem aN9: ∀{v u:List Blk},aZT v u=true→v=u
 |[],[],_=>rfl
 |t::r,u::s,h=>by
  obtain⟨h1,h2⟩:=bJ h;rw[aZS h1,aN9 h2]
 |[],_::_,h=>by simp[aZT]at h
 |_::_,[],h=>by simp[aZT]at h
noncomputable def b2C(σ τ:St):Bool:=aZQ σ.sl τ.sl&&aZT σ.hp τ.hp
theorem bA0{σ τ:St}(h:b2C σ τ=true):σ=τ:=by
 obtain⟨h1,h2⟩:=bJ h;cases σ;cases τ;simp only at h1 h2;rw[aN8 h1,aN9 h2]
def bA1(nb:Nat)(kp:List Nat)(cn:Bool)(σ:St):Option (St×Bool):=
 if cn=true then
  if kp.contains 999998=true then if((kp.filter (·!=999998)).all fun n=>(bR n σ.sl).isSome)=true then(YF nb (trim (some (kp.filter (·!=999998))) σ)).bind fun c=>some (c,true)else none
  else LB true nb kp σ
 else if(kp.all fun n=>(bR n σ.sl).isSome)=true then some (trim (some kp) σ,true)else none
theorem QW{σ σr:St}(hl:Le σ σr): ∀{kp:List Nat},(kp.all fun n=>(bR n σ.sl).isSome)=true→keep σr.sl kp=keep σ.sl kp∧(kp.all fun n=>(bR n σr.sl).isSome)=true
 |[],_=>⟨rfl,rfl⟩
 |n::r,h=>by
  simp only[List.all_cons,Bool.and_eq_true]at h;obtain⟨h1,h2⟩:=h;obtain⟨v,hv⟩:=Option.isSome_iff_exists.1 h1;have hr:=hl.sl n v hv;obtain⟨i1,i2⟩:=QW hl h2;constructor
  ·simp only[keep,hv,hr,i1]
  ·simp only[List.all_cons,hr,i2];rfl
noncomputable def JB(Q:Qt)(kd:List (Nat×List Kd))(nb:Nat)(kp:List Nat)(cn:Bool):List (List G)→St→Option (St×Bool)
 |[],_=>none
 |l::r,σ=>
  match(xP (2*l.length+2) none l).2 with
  |[]=>(evI Q kd (xP (2*l.length+2) none l).1 σ).bind fun x=>(bA1 nb kp cn x.1).bind fun c=>match r with
   |[]=>some (c.1,x.2&&c.2)
   |_::_=>(JB Q kd nb kp cn r σ).bind fun c'=>some (c.1,(x.2&&c.2)&&(c'.2&&b2C c'.1 c.1))
  |_::_=>none
noncomputable def KL(Q:Qt)(kd:List (Nat×List Kd))(cl:List Nat)(lq:Lq)(nb n:Nat):C→St→Option (O×Bool)
 | .drw ls kp cn,σ=>(JB Q kd nb kp cn ls σ).bind fun r=>some (⟨[],some (.leaf r.1)⟩,r.2)
 | .ops l kp,σ=>
   match(xP (2*l.length+2) none l).2 with
   |[]=>(evI Q kd (xP (2*l.length+2) none l).1 σ).bind fun r=>some (⟨[],some (.leaf (trim kp r.1))⟩,r.2)
   |_::_=>none
 | .seq x y,σ=>(KL Q kd cl lq nb n x σ).bind fun r=>FL r (KL Q kd cl lq nb n y)
 | .cond c x y,σ=>(σ.ev c).bind fun v=>(asBool v).bind fun b=>
   if b2B cl c=true then match b with
    |true=>KL Q kd cl lq nb n x σ
    |false=>KL Q kd cl lq nb n y σ
   else(KL Q kd cl lq nb n x σ).bind fun r1=>(KL Q kd cl lq nb n y σ).bind fun r2=>
    some (N2 (fun b=>xR b (unO (GV x) (GV y)) (qO x&&qO y)) b r1.1 r2.1,(r1.2||!b)&&(r2.2||b))
 | .blk id x,σ=>(KL Q kd cl lq nb n x σ).bind fun r=>
   let q:=vU (fun b=>xR b (GV x) (qO x)) id r.1.ex r.1.nor
   some (⟨q.1,q.2⟩,r.2)
 | .loop live x,σ=>match lq live σ with
   |some r=>some r
   |none=>XG nb live (KL Q kd cl lq nb n x) n σ
 | .brk id,σ=>some (⟨[(.brk id,true, .leaf σ)],none⟩,true)
 | .ret,σ=>some (⟨[(.ret,true, .leaf σ)],none⟩,true)
 | .skip,σ=>some (⟨[],some (.leaf σ)⟩,true)
theorem vV{a:Option (List Nat)}{q:Bool}{σ0:St}:MgOk (fun b=>xR b a q) (Fr a q σ0) where
 le b σ1 σ2 σ h1 h2 h:=QQ h h1 h2
 all b σ1 σ2 σ h1 h2 h:=aHG h h1
theorem xS{n:Nat}{v:SV}{sl:List (Nat×SV)}: ∀{l:List Nat},bR n (keep sl l)=some v→n∈l∧bR n sl=some v
 |[],h=>by simp[keep,bR]at h
 |m::r,h=>by
  unfold keep at h;split at h
  ·rename_i u hu;simp only[bR]at h;split at h
   ·rename_i e;subst e;obtain rfl:=qi h;exact⟨List.mem_cons_self ..,hu⟩
   ·have:=xS h;exact⟨List.mem_cons_of_mem _ this.1,this.2⟩
  ·have:=xS h;exact⟨List.mem_cons_of_mem _ this.1,this.2⟩
theorem QX{n:Nat}{v:SV}{sl:List (Nat×SV)}: ∀{l:List Nat},n∈l→bR n sl=some v→bR n (keep sl l)=some v
 |m::r,hm,h=>by
  unfold keep;by_cases e:m=n
  ·subst e;rw[h];simp[bR]
  ·have hr:n∈r:=by
    rcases List.mem_cons.1 hm with h|h
    ·exact absurd h.symm e
    ·exact h
   split
   ·simp only[bR,e,if_false];exact QX hr h
   ·exact QX hr h
theorem aOA{kp:Option (List Nat)}{σ σr:St}(h:Le σ σr):Le (trim kp σ) (trim kp σr):=by
 cases kp with
 |none=>exact h
 |some l=>exact⟨fun n v hn=>by
   have:=xS hn;exact QX this.1 (h.sl n v this.2),h.hp⟩
theorem aE4{kp:Option (List Nat)}{σ:St}{n:Nat}{v:SV}(h:bR n (trim kp σ).sl=some v):bR n σ.sl=some v:=by
 cases kp with
 |none=>exact h
 |some l=>exact(xS h).2
theorem bA2{kp:Option (List Nat)}{σ:St}:(trim kp σ).hp=σ.hp:=by cases kp<;>rfl
theorem zO{n:Nat}: ∀{its:Its}{g:Option (Nat×Bool)},(∀x∈its.flat g,n∉x.2.dsts)→n∉its.dsts
 | .nil,g,h=>by simp[Its.dsts]
 | .op k r,g,h=>by
   simp only[Its.flat,List.mem_cons,forall_eq_or_imp]at h;simp only[Its.dsts,List.mem_append,not_or];exact⟨h.1,zO h.2⟩
 | .iff s w its d a b r,g,h=>by
   simp only[Its.flat,List.mem_append,List.mem_cons]at h;simp only[Its.dsts,List.mem_append,List.mem_cons,not_or];refine⟨zO fun x hx=>h x (.inl hx),?_,zO fun x hx=>h x (.inr (.inr hx))⟩
   have:=h _ (.inr (.inl rfl));simpa [K.dsts,K.dst]using this
theorem AO: ∀{its:Its}{g:Option (Nat×Bool)},(∀x∈its.flat g,qN x.2=true)→its.quiet=true
 | .nil,g,h=>rfl
 | .op k r,g,h=>by
   simp only[Its.flat,List.mem_cons,forall_eq_or_imp]at h;simp only[Its.quiet,Bool.and_eq_true];exact⟨h.1,AO h.2⟩
 | .iff s w its d a b r,g,h=>by
   simp only[Its.flat,List.mem_append,List.mem_cons]at h;simp only[Its.quiet,Bool.and_eq_true];exact⟨AO fun x hx=>h x (.inl hx),AO fun x hx=>h x (.inr (.inr hx))⟩
theorem zP{n:Nat}{l:List G}(h:(xP n none l).2=[]):(xP n none l).1.flat none=l:=by
 have:=AM n none l
 rwa [h,List.append_nil]at this
theorem aE5{Q:Qt}{kd:List (Nat×List Kd)}{nb:Nat}{kp:List Nat}{l:List G}{r:List (List G)}{σ:St}{c:St×Bool}(h:JB Q kd nb kp false (l::r) σ=some c)(n:Nat)(v:SV)(hn:n∉l.flatMap fun g=>g.2.dsts)(hv:bR n c.1.sl=some v):
  bR n σ.sl=some v:=by
 unfold JB at h;split at h
 ·rename_i hp;simp only[qB]at h;obtain⟨i,hi,x,hx,h⟩:=h;have hc:c.1=x.1:=by
   split at h
   ·obtain rfl:=qi h;rfl
   ·simp only[qB,qI]at h;obtain⟨_,_,rfl⟩:=h;rfl
  rw[hc]at hv;unfold bA1 at hx;rw[if_neg (by simp)]at hx
  obtain⟨-,hx1⟩:=cB hx;obtain rfl:=qi hx1;have hf:=zP hp;refine EF hi n v (zO (g:=none) fun x hx=>?_) (aE4 hv)
  rw[hf]at hx;exact fun e=>hn (List.mem_flatMap.2 ⟨x,hx,e⟩)
 ·simp at h
theorem sJ{Q:Qt}{kd:List (Nat×List Kd)}{cl:List Nat}{lq:Lq}{nb n:Nat}: ∀{c:C}{σ:St}{r:O×Bool},KL Q kd cl lq nb n c σ=some r→r.1.All (Fr (GV c) (qO c) σ)
 | .drw ls kp cn,σ,r,h=>by
   simp only[KL,qB,qI]at h;obtain⟨c,hc,rfl⟩:=h;refine⟨by simp,fun t ht=>?_⟩
   obtain rfl:=qi ht;refine⟨fun l' hl' m v hm hv=>?_,fun hq=>by simp[qO]at hq⟩
   cases ls with
   |nil=>simp[JB]at hc
   |cons l ls=>
    cases cn with
    |true=>simp[GV]at hl'
    |false=>
     simp only[GV,qI]at hl';subst hl';exact aE5 hc m v hm hv
 | .ops l kp,σ,r,h=>by
   unfold KL at h;split at h
   ·rename_i hp;simp only[qB,qI]at h;obtain⟨i,hi,rfl⟩:=h;have hf:=zP hp;refine⟨by simp,fun t ht=>?_⟩
    obtain rfl:=qi ht;refine⟨fun l' hl' m v hm hv=>?_,fun hq=>?_⟩
    ·simp only[GV,qI]at hl';subst hl';refine EF hi m v (zO (g:=none) fun x hx=>?_) (aE4 hv)
     rw[hf]at hx;exact fun e=>hm (List.mem_flatMap.2 ⟨x,hx,e⟩)
    ·rw[bA2];refine EG (AO (g:=none) fun x hx=>?_) hi
     rw[hf]at hx;simp only[qO,List.all_eq_true]at hq;exact hq x hx
   ·simp at h
 | .seq x y,σ,r,h=>by
   simp only[KL,qB]at h;obtain⟨r1,h1,h2⟩:=h;exact aVF (fun σ r h=>sJ h) (sJ h1) h2
 | .cond c x y,σ,r,h=>by
   simp only[KL,qB]at h;obtain⟨v,hv,b,hb,h⟩:=h;split at h
   ·split at h
    ·exact(sJ h).mono fun _ h=>h.left
    ·exact(sJ h).mono fun _ h=>h.right
   ·simp only[qB,qI]at h;obtain⟨r1,h1,r2,h2,rfl⟩:=h;exact XD vV ((sJ h1).mono fun _ h=>h.left) ((sJ h2).mono fun _ h=>h.right)
 | .blk id x,σ,r,h=>by
   simp only[KL,qB,qI]at h;obtain⟨r1,h1,rfl⟩:=h;have h2:=LE (vV (a:=GV x) (q:=qO x)) (id:=id) (sJ (c:=x) h1);exact h2
 | .loop live x,σ,r,h=>by
   have htr: ∀t:Tr,t.All (Fr none false σ):=by
    intro t
    induction t with
    |leaf=>exact⟨by simp,by simp⟩
    |br b x y ihx ihy=>exact⟨ihx,ihy⟩
   exact⟨fun e _=>htr _,fun t _=>htr t⟩
 | .brk id,σ,r,h=>by
   simp only[KL,qI]at h;subst h;exact⟨fun e he=>by simp only[List.mem_singleton]at he;subst he;exact Fr.rfl,by simp⟩
 | .ret,σ,r,h=>by
   simp only[KL,qI]at h;subst h;exact⟨fun e he=>by simp only[List.mem_singleton]at he;subst he;exact Fr.rfl,by simp⟩
 | .skip,σ,r,h=>by
   simp only[KL,qI]at h;subst h;exact⟨by simp,fun t ht=>by obtain rfl:=qi ht;exact Fr.rfl⟩
theorem CJ{nb:Nat}{live:List Nat}{σ σr σ':St}(h:canon nb live σ=some σ')(hl:Le σ σr):canon nb live σr=some σ':=by
 have h0: ∃src m,∃r,lD σ src m live=some r:=by
  unfold canon at h;simp only at h;split at h
  ·simp only[qB]at h;obtain⟨x,hx,s,hs,h⟩:=h;exact⟨_,_,_,hs⟩
  ·simp at h
 have hlook: ∀s∈live,bR s σr.sl=bR s σ.sl:=by
  obtain⟨src,m,r,h0⟩:=h0
  clear h
  induction live generalizing m r with
  |nil=>simp
  |cons s t ih=>
   simp only[lD,qB]at h0;obtain⟨v,hv,h0⟩:=h0;intro s' hs';rcases List.mem_cons.1 hs' with rfl|hs'
   ·rw[hv,hl.sl _ _ hv]
   ·split at h0
    ·simp only[qB]at h0;obtain⟨x,hx,l,h0,-⟩:=h0;exact ih _ _ h0 _ hs'
    ·simp only[qB]at h0;obtain⟨x,hx,l,h0,-⟩:=h0;exact ih _ _ h0 _ hs'
    ·simp only[qB]at h0;obtain⟨l,h0,-⟩:=h0;exact ih _ _ h0 _ hs'
    ·simp at h0
 have hc: ∀live,(∀s∈live,bR s σr.sl=bR s σ.sl)→nW σr live=nW σ live:=by
  intro live
  induction live with
  |nil=>intro _;rfl
  |cons s t ih=>
   intro h;have:=ih fun s' hs'=>h s' (List.mem_cons_of_mem _ hs')
   unfold nW at*;rw[List.flatMap_cons,List.flatMap_cons,this,h s (List.mem_cons_self ..)]
 have hs: ∀live src m,(∀s∈live,bR s σr.sl=bR s σ.sl)→lD σr src m live=lD σ src m live:=by
  intro live
  induction live with
  |nil=>intro _ _ _;rfl
  |cons s t ih=>
   intro src m h;have:=fun m=>ih src m fun s' hs'=>h s' (List.mem_cons_of_mem _ hs')
   unfold lD;rw[h s (List.mem_cons_self ..)];simp only[this]
 rw[←h];unfold canon;simp only[hc live hlook,hl.hp,hs live _ _ hlook]
theorem N4{nb:Nat}{live:List Nat}{f:St→Option (O×Bool)}{g:St→Option Out}(hf:QU f g): ∀n,QU (XG nb live f n) (z8 nb live g n)
 |0=>fun σ σr o h hl=>by simp[XG]at h
 |n+1=>fun σ σr o h hl=>by
  simp only[XG,qB,qI,qP]at h;obtain⟨σ1,h1,r,hr,o2,h2,rfl,ho⟩:=h;obtain⟨ok1,ok2⟩:=bJ ho;have hc:=CJ (EB (σ':=σ1.1) (by rw[h1,←ok1])) hl
  have h2':FL r (XG nb live f n)=some (o2.1,true):=by rw[h2,←ok2]
  simp only[z8,hc,Option.bind_some];have hr2:r.2=true:=by
   unfold FL at h2';split at h2'
   ·rw[qi h2']
   ·simp only[qB,qI,qP,Bool.and_eq_true]at h2';obtain⟨_,_,_,h,_⟩:=h2';exact h
  obtain⟨out0,out,a1,a2,a3⟩:=hf σ1.1 σ1.1 r.1 (by rw[hr,←hr2]) .rfl
  obtain⟨o0,o1,b1,b2,b3⟩:=N3 (N4 hf n) h2' (fun _=>⟨a1,a3⟩)
  refine⟨o0,o1,b1,?_,b3⟩;rw[a2,Option.bind_some,←b2];cases out<;>rfl
theorem aZU{r r':O×Bool}{f:St→Option (O×Bool)}(h:FL r f=some r')(hr:r'.2=true):r.2=true:=by
 unfold FL at h;split at h
 ·rw[qi h,hr]
 ·simp only[qB,qI]at h;obtain⟨_,_,h⟩:=h;subst h;simp only[Bool.and_eq_true]at hr;exact hr.1
theorem aOB{nb:Nat}{kp:List Nat}{cn:Bool}{σ σr c:St}(h:bA1 nb kp cn σ=some (c,true))(hl:Le σ σr):BM nb kp cn σr=some c:=by
 unfold bA1 at h;unfold BM;split at h
 ·rename_i e;rw[if_pos e];split at h
  ·rename_i e1;rw[if_pos e1];obtain⟨h1,h2⟩:=cB h;obtain⟨k1,k2⟩:=QW hl h1;rw[if_pos k2];simp only[qB,qI,qP,and_true]at h2;obtain⟨c',hc,rfl⟩:=h2;rw[←hc];simp only[trim,k1,hl.hp]
  ·rename_i e1;rw[if_neg e1];exact CJ (EB h) hl
 ·rename_i e;rw[if_neg e];obtain⟨h1,h2⟩:=cB h;obtain⟨k1,k2⟩:=QW hl h1;rw[if_pos k2];simp only[qI,qP,and_true]at h2;rw[←h2];simp only[trim,k1,hl.hp]
theorem CK{R:Rt}{Q:Qt}(hQ:WW (dJ R) Q){kd:List (Nat×List Kd)}{nb:Nat}{kp:List Nat}{cn:Bool}{σ σr:St}(hl:Le σ σr): ∀{ls:List (List G)}{c:St},JB Q kd nb kp cn ls σ=some (c,true)→oP R nb kp cn ls σr=some c
 |[],c,h=>by simp[JB]at h
 |l::r,c,h=>by
  unfold JB at h;split at h
  case h_2=>simp at h
  rename_i hp;simp only[qB]at h;obtain⟨i,hi,x,hx,h⟩:=h;have run:i.2=true→ ∃τ,dY R l σr=some τ∧Le i.1 τ:=fun ho=>by
   obtain⟨τ,h1,h2⟩:=EH hQ (g:=none) (by rw[hi,←ho]) hl (fun s w e=>by simp at e) (fun s w e=>by simp at e)
   rw[zP hp]at h1;exact⟨τ,h1,h2⟩
  cases r with
  |nil=>
   simp only[qI,qP]at h;obtain⟨rfl,ho⟩:=h;obtain⟨o1,o2⟩:=bJ ho;obtain⟨τ,h1,h2⟩:=run o1;simp only[oP,h1,Option.bind_some];rw[aOB (c:=x.1) (by rw[hx,←o2]) h2]
   rfl
  |cons m r=>
   simp only[qB,qI,qP]at h;obtain⟨c',hc',rfl,ho⟩:=h;obtain⟨o1,o2⟩:=bJ ho;obtain⟨o1,o3⟩:=bJ o1;obtain⟨o2,o4⟩:=bJ o2;obtain⟨τ,h1,h2⟩:=run o1;have h3:=CK hQ hl (ls:=m::r) (c:=c'.1) (by rw[hc',←o2])
   unfold oP;rw[h1,Option.bind_some,aOB (c:=x.1) (by rw[hx,←o3]) h2,Option.bind_some]
   simp only;rw[h3,Option.bind_some,if_pos (bA0 o4)]
theorem oA{R:Rt}{Q:Qt}(hQ:WW (dJ R) Q){kd:List (Nat×List Kd)}{cl:List Nat}{lq:Lq}{nb n:Nat}: ∀{c:C},fM (fun live x=>QU (lq live) (fY R nb n (.loop live x))) c→QU (KL Q kd cl lq nb n c) (fY R nb n c)
 | .drw ls kp cn,hL=>fun σ σr o h hl=>by
   simp only[KL,qB,qI,qP]at h;obtain⟨c,hc,rfl,ho⟩:=h;have:=CK hQ hl (c:=c.1) (by rw[hc,←ho])
   exact⟨.nor c.1, .nor c.1,rfl,by simp[fY,this], .nor .rfl⟩
 | .ops l kp,hL=>fun σ σr o h hl=>by
   unfold KL at h;split at h
   ·rename_i hp;simp only[qB,qI,qP]at h;obtain⟨i,hi,rfl,ho⟩:=h;obtain⟨τ,h1,h2⟩:=EH hQ (g:=none) (by rw[hi,←ho]) hl (fun s w e=>by simp at e) (fun s w e=>by simp at e)
    rw[zP hp]at h1;exact⟨.nor (trim kp i.1), .nor (trim kp τ),rfl,by simp[fY,h1], .nor (aOA h2)⟩
   ·simp at h
 | .seq x y,hL=>fun σ σr o h hl=>by
   simp only[KL,qB]at h;obtain⟨r,hr,h⟩:=h;obtain⟨out0,out,a1,a2,a3⟩:=oA hQ (c:=x) hL.1 σ σr r.1 (by rw[hr,←aZU h rfl]) hl
   obtain⟨o0,o1,b1,b2,b3⟩:=N3 (oA hQ (c:=y) hL.2) h (fun _=>⟨a1,a3⟩)
   refine⟨o0,o1,b1,?_,b3⟩;rw[fY,a2,Option.bind_some,←b2];cases out<;>rfl
 | .cond c x y,hL=>fun σ σr o h hl=>by
   simp only[KL,qB]at h;obtain⟨v,hv,b,hb,h⟩:=h;have hv':=hl.ev _ _ hv;simp only[fY,hv',hb,Option.bind_some];split at h
   ·split at h
    ·simp only[if_true];exact oA hQ (c:=x) hL.1 σ σr o h hl
    ·simp only[Bool.false_eq_true,if_false];exact oA hQ (c:=y) hL.2 σ σr o h hl
   ·simp only[qB,qI,qP,Bool.and_eq_true,Bool.or_eq_true]at h;obtain⟨r1,h1,r2,h2,rfl,k1,k2⟩:=h;have f1:=(sJ h1).mono fun _ h=>Fr.left (b:=GV y) (r:=qO y) h
    have f2:=(sJ h2).mono fun _ h=>Fr.right (a:=GV x) (q:=qO x) h
    cases b
    ·have k:r2.2=true:=by simpa using k2
     obtain⟨out0,out,a1,a2,a3⟩:=oA hQ (c:=y) hL.2 σ σr r2.1 (by rw[h2,←k]) hl
     obtain⟨out',b1,b2⟩:=EJ (b:=false) (o1:=r1.1) vV f1 f2 a1;exact⟨out',out,b1,by simpa using a2,b2.trans a3⟩
    ·have k:r1.2=true:=by simpa using k1
     obtain⟨out0,out,a1,a2,a3⟩:=oA hQ (c:=x) hL.1 σ σr r1.1 (by rw[h1,←k]) hl
     obtain⟨out',b1,b2⟩:=EJ (b:=true) (o2:=r2.1) vV f1 f2 a1;exact⟨out',out,b1,by simpa using a2,b2.trans a3⟩
 | .blk id x,hL=>fun σ σr o h hl=>by
   simp only[KL,qB,qI,qP]at h;obtain⟨r,hr,rfl,ho⟩:=h;obtain⟨out0,out,a1,a2,a3⟩:=oA hQ (c:=x) hL σ σr r.1 (by rw[hr,←ho]) hl
   obtain⟨out',b1,b2⟩:=XF (id:=id) vV (sJ hr) a1;refine⟨out',x8 id out,b1,?_,b2.trans ?_⟩
   ·rw[fY,a2,Option.bind_some];cases out with
    |nor σ=>rfl
    |ret σ=>rfl
    |brk j σ=>
     simp only[x8];split<;>rfl
   ·cases a3 with
    |nor h=>exact .nor h
    |ret h=>exact .ret h
    |brk h=>
     simp only[x8];split
     ·exact .nor h
     ·exact .brk h
 | .loop live x,hL=>fun σ σr o h hl=>by
   simp only[KL]at h;split at h
   ·rename_i r hr;rw[h]at hr;exact hL.1 σ σr o hr hl
   ·rw[fY];exact N4 (oA hQ (c:=x) hL.2) n σ σr o h hl
 | .brk id,hL=>fun σ σr o h hl=>by
   simp only[KL,qI,qP]at h;obtain⟨rfl,-⟩:=h;exact⟨.brk id σ, .brk id σr,rfl,rfl, .brk hl⟩
 | .ret,hL=>fun σ σr o h hl=>by
   simp only[KL,qI,qP]at h;obtain⟨rfl,-⟩:=h;exact⟨.ret σ, .ret σr,rfl,rfl, .ret hl⟩
 | .skip,hL=>fun σ σr o h hl=>by
   simp only[KL,qI,qP]at h;obtain⟨rfl,-⟩:=h;exact⟨.nor σ, .nor σr,rfl,rfl, .nor hl⟩
def aOC(res:List Rv)(nb:Nat)(σ:St):Option (SV×List Blk):=(eU σ res).bind fun vs=>leave nb σ vs
theorem AP{σ σr:St}(hl:Le σ σr): ∀{res:List Rv}{vs:List SV},eU σ res=some vs→eU σr res=some vs
 |[],vs,h=>h
 | .tmp n::r,vs,h=>by
   simp only[eU,qB]at h⊢;obtain⟨v,hv,us,hu,h⟩:=h;exact⟨v,hl.sl _ _ hv,us,AP hl hu,h⟩
 | .cell n k::r,vs,h=>by
   simp only[eU,qB]at h⊢;obtain⟨v,hv,t,ht,cs,hc,u,hu,us,hus,h⟩:=h;exact⟨v,hl.sl _ _ hv,t,ht,cs,by rw[hl.hp];exact hc,u,hu,us,AP hl hus,h⟩
theorem aZV{res:List Rv}{nb:Nat}{σ σr:St}(hl:Le σ σr){r:SV×List Blk}(h:aOC res nb σ=some r):aOC res nb σr=some r:=by
 simp only[aOC,qB]at h⊢;obtain⟨vs,hv,h⟩:=h;refine⟨vs,AP hl hv,?_⟩;unfold leave at h⊢;rw[hl.hp];exact h
def aZ(f:FuncId)(q:List SV→List Blk→Option ((SV×List Blk)×Bool))(Q:Qt):Qt:=fun g args hp=>if g=f then match q args hp with|some r=>some r|none=>Q g args hp else Q g args hp
theorem aF{R:Rt}{f:FuncId}{q:List SV→List Blk→Option ((SV×List Blk)×Bool)}{Q:Qt}(h: ∀args hp r,q args hp=some (r,true)→R f args hp=some r)(hQ:WW R Q):WW R (aZ f q Q):=fun g args hp r hg=>by
 unfold aZ at hg;split at hg
 ·rename_i e;subst e;split at hg
  ·rename_i r' hr;obtain rfl:=qi hg;exact h _ _ _ hr
  ·exact hQ _ _ _ _ hg
 ·exact hQ _ _ _ _ hg
def qnil:Qt:=fun _ _ _=>none
theorem aOD{R:Rt}:WW R qnil:=fun _ _ _ _ h=>by simp[qnil]at h
end Go.Zq

namespace Go.Zq
open Option renaming bind_eq_some_iff → qB
open Option.some renaming injEq → qI
open Option.some renaming inj → qi
open Go
inductive Pt(α:Type) where
 |leaf (a:α)
 |br (b:Bool) (x y:Pt α)
 |ok (b:Bool) (x:Pt α)
def Pt.val{α:Type}:Pt α→α
 | .leaf a=>a
 | .br b x y=>bif b then x.val else y.val
 | .ok _ x=>x.val
def Pt.okv{α:Type}:Pt α→Bool
 | .leaf _=>true
 | .br b x y=>bif b then x.okv else y.okv
 | .ok b x=>b&&x.okv
def Pt.map{α β:Type}(f:α→β):Pt α→Pt β
 | .leaf a=> .leaf (f a)
 | .br b x y=> .br b (x.map f) (y.map f)
 | .ok b x=> .ok b (x.map f)
def Pt.bindO{α β:Type}(f:α→Option (Pt β)):Pt α→Option (Pt β)
 | .leaf a=>f a
 | .br b x y=>(x.bindO f).bind fun x=>(y.bindO f).bind fun y=>some (.br b x y)
 | .ok b x=>(x.bindO f).bind fun x=>some (.ok b x)
theorem Pt.val_map{α β:Type}(f:α→β): ∀t:Pt α,(t.map f).val=f t.val
 | .leaf a=>rfl
 | .br b x y=>by
   simp only[Pt.map,Pt.val,Pt.val_map f x,Pt.val_map f y];cases b<;>rfl
 | .ok b x=>Pt.val_map f x
theorem Pt.okv_map{α β:Type}(f:α→β): ∀t:Pt α,(t.map f).okv=t.okv
 | .leaf a=>rfl
 | .br b x y=>by simp only[Pt.map,Pt.okv,Pt.okv_map f x,Pt.okv_map f y]
 | .ok b x=>by simp only[Pt.map,Pt.okv,Pt.okv_map f x]
theorem Pt.bindO_val{α β:Type}{f:α→Option (Pt β)}: ∀{t:Pt α}{u:Pt β},t.bindO f=some u→u.okv=true→t.okv=true∧ ∃w,f t.val=some w∧w.okv=true∧u.val=w.val
 | .leaf a,u,h,ho=>⟨rfl,u,h,ho,rfl⟩
 | .br b x y,u,h,ho=>by
   simp only[Pt.bindO,qB,qI]at h;obtain⟨x',hx,y',hy,rfl⟩:=h;cases b
   ·have:=Pt.bindO_val (t:=y) (u:=y') hy ho;exact this
   ·have:=Pt.bindO_val (t:=x) (u:=x') hx ho;exact this
 | .ok b x,u,h,ho=>by
   simp only[Pt.bindO,qB,qI]at h;obtain⟨x',hx,rfl⟩:=h;obtain⟨h1,h2⟩:=bJ ho;obtain⟨k1,k2⟩:=Pt.bindO_val (t:=x) hx h2;exact⟨by simp only[Pt.okv,h1,k1];rfl,k2⟩
def dB(f:St→Option (Pt Out))(g:St→Option Out):Prop:= ∀σ σr t,f σ=some t→t.okv=true→Le σ σr→ ∃out,g σr=some out∧LeOut t.val out
def trP:Tr→Pt Out
 | .leaf σ=> .leaf (.nor σ)
 | .br b x y=> .br b (trP x) (trP y)
theorem Y1: ∀t:Tr,(trP t).val= .nor t.st∧(trP t).okv=true
 | .leaf σ=>⟨rfl,rfl⟩
 | .br b x y=>by
   cases b
   ·exact Y1 y
   ·exact Y1 x
def m6:C→Nat
 | .ops ((_,k)::_) _=>k.dst.getD 0
 | .ops [] _=>0
 | .drw (((_,k)::_)::_) _ _=>k.dst.getD 0
 | .drw _ _ _=>0
 | .seq x _=>m6 x
 | .cond (.t n) _ _=>n
 | .cond (.c _) x _=>m6 x
 | .blk _ x=>m6 x
 | .loop _ x=>m6 x
 |_=>0
abbrev Lp:=List (Nat×(St→Option (Pt Out)))
def oV:Lp→Nat→St→Option (Pt Out)
 |[],_,_=>none
 |(m,f)::r,n,σ=>if m=n then f σ else oV r n σ
def aHJ(hp:List Blk):T→T×Bool
 | .sl id off len=>match hp[id]? with
   |some (.lst _ rows)=>(.sl id off rows.length,decide (len=rows.length))
   |_=>(.sl id off len,true)
 |t=>(t,true)
theorem aOE{hp:List Blk}{t:T}(h:(aHJ hp t).2=true):(aHJ hp t).1=t:=by
 unfold aHJ at h⊢;split at h
 ·split at h
  ·rename_i hb;simp only[hb];rw[of_decide_eq_true h]
  ·rfl
 ·rfl
def AQ(hp:List Blk):Row→Row×Bool
 |[]=>([],true)
 |t::r=>((aHJ hp t).1::(AQ hp r).1,(aHJ hp t).2&&(AQ hp r).2)
theorem LF{hp:List Blk}: ∀{t:Row},(AQ hp t).2=true→(AQ hp t).1=t
 |[],_=>rfl
 |t::r,h=>by
  obtain⟨h1,h2⟩:=bJ h;simp only[AQ,aOE h1,LF h2]
def JC(hp:List Blk):SV→SV×Bool
 | .one t=>(.one (aHJ hp t).1,(aHJ hp t).2)
 | .agg ts=>(.agg (AQ hp ts).1,(AQ hp ts).2)
 |v=>(v,true)
theorem JD{hp:List Blk}{v:SV}(h:(JC hp v).2=true):(JC hp v).1=v:=by
 cases v with
 |one t=>simp only[JC,aOE (t:=t) h]
 |agg ts=>simp only[JC,LF (t:=ts) h]
 |und=>rfl
 |tup _=>rfl
def GW(hp:List Blk):List SV→List SV×Bool
 |[]=>([],true)
 |t::r=>((JC hp t).1::(GW hp r).1,(JC hp t).2&&(GW hp r).2)
theorem XH{hp:List Blk}: ∀{t:List SV},(GW hp t).2=true→(GW hp t).1=t
 |[],_=>rfl
 |t::r,h=>by
  obtain⟨h1,h2⟩:=bJ h;simp only[GW,JD h1,XH h2]
def aE6(hp:List Blk):SV→SV×Bool
 | .tup vs=>(.tup (GW hp vs).1,(GW hp vs).2)
 |v=>JC hp v
theorem aZW{hp:List Blk}{v:SV}(h:(aE6 hp v).2=true):(aE6 hp v).1=v:=by
 cases v with
 |tup vs=>simp only[aE6,XH (t:=vs) h]
 |one t=>exact JD (v:= .one t) h
 |agg ts=>exact JD (v:= .agg ts) h
 |und=>rfl
def oB(hp:List Blk):List Blk→List Blk×Bool
 |[]=>([],true)
 | .box cs::r=>(.box (AQ hp cs).1::(oB hp r).1,(AQ hp cs).2&&(oB hp r).2)
 |b::r=>(b::(oB hp r).1,(oB hp r).2)
theorem vW{hp:List Blk}: ∀{l:List Blk},(oB hp l).2=true→(oB hp l).1=l
 |[],_=>rfl
 | .box cs::r,h=>by
   obtain⟨h1,h2⟩:=bJ h;simp only[oB,LF h1,vW h2]
 | .dead::r,h=>by simp only[oB,vW (l:=r) h]
 | .lst n rows::r,h=>by simp only[oB,vW (l:=r) h]
def QY(hp:List Blk):List (Nat×SV)→List (Nat×SV)×Bool
 |[]=>([],true)
 |p::r=>((p.1,(JC hp p.2).1)::(QY hp r).1,(JC hp p.2).2&&(QY hp r).2)
theorem aE7{hp:List Blk}: ∀{l:List (Nat×SV)},(QY hp l).2=true→(QY hp l).1=l
 |[],_=>rfl
 |p::r,h=>by
  obtain⟨h1,h2⟩:=bJ h;simp only[QY,JD h1,aE7 h2]
def LG(wm nm:Bool)(nb:Nat)(σ:St)(vs:List SV):Option ((SV×List Blk)×Bool):=
 if nm=false then YW wm nb σ vs else(YW wm nb σ vs).bind fun r=>some (((aE6 r.1.2 r.1.1).1,(oB r.1.2 r.1.2).1),r.2&&((aE6 r.1.2 r.1.1).2&&(oB r.1.2 r.1.2).2))
theorem XI{wm nm:Bool}{nb:Nat}{σ:St}{vs:List SV}{r:SV×List Blk}(h:LG wm nm nb σ vs=some (r,true)):leave nb σ vs=some r:=by
 unfold LG at h;split at h
 ·exact WV h
 ·simp only[qB,qI,Prod.mk.injEq]at h;obtain⟨q,hq,rfl,ho⟩:=h;obtain⟨o1,o2⟩:=bJ ho;obtain⟨o2,o3⟩:=bJ o2;rw[aZW o2,vW o3];exact WV (wm:=wm) (r:=q.1) (by rw[hq,←o1])
def QZ(wm nm:Bool)(nb:Nat)(live:List Nat)(σ:St):Option (St×Bool):=
 if nm=false then LB wm nb live σ else(LB wm nb live σ).bind fun r=>some (⟨(QY r.1.hp r.1.sl).1,(oB r.1.hp r.1.hp).1⟩,r.2&&((QY r.1.hp r.1.sl).2&&(oB r.1.hp r.1.hp).2))
theorem LH{wm nm:Bool}{nb:Nat}{live:List Nat}{σ σ':St}(h:QZ wm nm nb live σ=some (σ',true)):canon nb live σ=some σ':=by
 unfold QZ at h;split at h
 ·exact EB h
 ·simp only[qB,qI,Prod.mk.injEq]at h;obtain⟨q,hq,rfl,ho⟩:=h;obtain⟨o1,o2⟩:=bJ ho;obtain⟨o2,o3⟩:=bJ o2;rw[aE7 o2,vW o3];exact EB (wm:=wm) (σ':=q.1) (by rw[hq,←o1])
def lwm(kd:List (Nat×List Kd)):Bool:=(LC 1000000 kd).isNone
def lnm(kd:List (Nat×List Kd)):Bool:=(LC 1000000 kd).isSome||(LC 1000001 kd).isSome
def cwm(kd:List (Nat×List Kd)):Bool:=(LC 1000002 kd).isNone
def cnm(kd:List (Nat×List Kd)):Bool:=(LC 1000002 kd).isSome||(LC 1000003 kd).isSome
def aE8(wm nm:Bool)(nb:Nat)(live:List Nat)(f:St→Option (Pt Out)):Nat→St→Option (Pt Out)
 |0,_=>none
 |n+1,σ=>(QZ wm nm nb live σ).bind fun c=>(f c.1).bind fun t=>(t.bindO fun| .nor σ=>aE8 wm nm nb live f n σ|o=>some (.leaf o)).bind fun t=>some (.ok c.2 t)
def xT:C→Bool
 | .ops l _=>l.all fun g=>qN g.2
 | .seq x y=>xT x&&xT y
 | .cond _ x y=>xT x&&xT y
 | .skip=>true
 |_=>false
def Y2(r:O×Bool):Option (Pt Out):=match r.1.ex,r.1.nor with
 |[],some t=>some (.ok r.2 (trP t))
 |_,_=>none
noncomputable def x9(Q:Qt)(kd:List (Nat×List Kd))(cl:List Nat)(mg:Bool)(lq:Lp)(nb n:Nat):C→St→Option (Pt Out)
 | .drw ls kp cn,σ=>(JB Q kd nb kp cn ls σ).bind fun r=>some (.ok r.2 (.leaf (.nor r.1)))
 | .ops l kp,σ=>
   match(xP (2*l.length+2) none l).2 with
   |[]=>(evI Q kd (xP (2*l.length+2) none l).1 σ).bind fun r=>some (.ok r.2 (.leaf (.nor (trim kp r.1))))
   |_::_=>none
 | .seq x y,σ=>(x9 Q kd cl mg lq nb n x σ).bind fun t=>t.bindO fun
   | .nor σ=>x9 Q kd cl mg lq nb n y σ
   |o=>some (.leaf o)
 | .cond c x y,σ=>(σ.ev c).bind fun v=>(asBool v).bind fun b=>
   if b2B cl c=true then match b with
    |true=>x9 Q kd cl mg lq nb n x σ
    |false=>x9 Q kd cl mg lq nb n y σ
   else if(mg&&(xT x&&xT y))=true then(KL Q kd cl lqN nb n (.cond c x y) σ).bind Y2
   else(x9 Q kd cl mg lq nb n x σ).bind fun tx=>(x9 Q kd cl mg lq nb n y σ).bind fun ty=>some (.br b tx ty)
 | .blk id x,σ=>(x9 Q kd cl mg lq nb n x σ).bind fun t=>some (t.map (x8 id))
 | .loop live x,σ=>match oV lq (m6 x) σ with
   |some t=>some t
   |none=>aE8 (cwm kd) (cnm kd) nb live (x9 Q kd cl mg lq nb n x) n σ
 | .brk id,σ=>some (.leaf (.brk id σ))
 | .ret,σ=>some (.leaf (.ret σ))
 | .skip,σ=>some (.leaf (.nor σ))
theorem N5{wm nm:Bool}{nb:Nat}{live:List Nat}{f:St→Option (Pt Out)}{g:St→Option Out}(hf:dB f g): ∀n,dB (aE8 wm nm nb live f n) (z8 nb live g n)
 |0=>fun σ σr t h ho hl=>by simp[aE8]at h
 |n+1=>fun σ σr t h ho hl=>by
  simp only[aE8,qB,qI]at h;obtain⟨c,hc,u,hu,w,hw,rfl⟩:=h;obtain⟨o1,o2⟩:=bJ ho;have hcr:=CJ (LH (σ':=c.1) (by rw[hc,←o1])) hl
  obtain⟨k1,z,hz,k2,k3⟩:=Pt.bindO_val hw o2;obtain⟨out,a1,a2⟩:=hf c.1 c.1 u hu k1 .rfl;simp only[z8,hcr,Option.bind_some,a1];show∃out,_∧LeOut w.val out
  rw[k3];generalize u.val=o at hz a2;cases a2 with
  |nor h=>exact N5 hf n _ _ z hz k2 h
  |brk h=>obtain rfl:=qi hz;exact⟨_,rfl, .brk h⟩
  |ret h=>obtain rfl:=qi hz;exact⟨_,rfl, .ret h⟩
theorem Y3{r:O×Bool}{t:Pt Out}{out:Out}(h:Y2 r=some t)(ho:t.okv=true)(hd:r.2=true→ ∃out0,r.1.den=some out0∧LeOut out0 out):LeOut t.val out:=by
 unfold Y2 at h;split at h
 ·rename_i u he hn;obtain rfl:=qi h;obtain⟨o1,o2⟩:=bJ ho;obtain⟨out0,h1,h2⟩:=hd o1;unfold O.den at h1;rw[he,hn]at h1;simp only[nL,qI]at h1;subst h1;show LeOut (trP u).val out
  rw[(Y1 u).1];exact h2
 ·simp at h
theorem dD{R:Rt}{Q:Qt}(hQ:WW (dJ R) Q){kd:List (Nat×List Kd)}{cl:List Nat}{mg:Bool}{lq:Lp}{nb n:Nat}: ∀{c:C},fM (fun live x=>dB (oV lq (m6 x)) (fY R nb n (.loop live x))) c→dB (x9 Q kd cl mg lq nb n c) (fY R nb n c)
 | .drw ls kp cn,hL=>fun σ σr t h ho hl=>by
   simp only[x9,qB,qI]at h;obtain⟨c,hc,rfl⟩:=h;obtain⟨o1,-⟩:=bJ ho;have:=CK hQ hl (c:=c.1) (by rw[hc,←o1])
   exact⟨.nor c.1,by simp[fY,this], .nor .rfl⟩
 | .ops l kp,hL=>fun σ σr t h ho hl=>by
   unfold x9 at h;split at h
   ·rename_i hp;simp only[qB,qI]at h;obtain⟨i,hi,rfl⟩:=h;obtain⟨o1,-⟩:=bJ ho;obtain⟨τ,h1,h2⟩:=EH hQ (g:=none) (by rw[hi,←o1]) hl (fun s w e=>by simp at e) (fun s w e=>by simp at e)
    rw[zP hp]at h1;exact⟨.nor (trim kp τ),by simp[fY,h1], .nor (aOA h2)⟩
   ·simp at h
 | .seq x y,hL=>fun σ σr t h ho hl=>by
   simp only[x9,qB]at h;obtain⟨u,hu,h⟩:=h;obtain⟨k1,z,hz,k2,k3⟩:=Pt.bindO_val h ho;obtain⟨out,a1,a2⟩:=dD hQ (c:=x) hL.1 σ σr u hu k1 hl;rw[k3,fY,a1,Option.bind_some];generalize u.val=o at hz a2;cases a2 with
   |nor h=>exact dD hQ (c:=y) hL.2 _ _ z hz k2 h
   |brk h=>obtain rfl:=qi hz;exact⟨_,rfl, .brk h⟩
   |ret h=>obtain rfl:=qi hz;exact⟨_,rfl, .ret h⟩
 | .cond c x y,hL=>fun σ σr t h ho hl=>by
   have h0:=h;simp only[x9,qB]at h;obtain⟨v,hv,b,hb,h⟩:=h;have hv':=hl.ev _ _ hv;split at h
   ·simp only[fY,hv',hb,Option.bind_some];split at h
    ·simp only[if_true];exact dD hQ (c:=x) hL.1 σ σr t h ho hl
    ·simp only[Bool.false_eq_true,if_false];exact dD hQ (c:=y) hL.2 σ σr t h ho hl
   ·split at h
    ·rename_i hm;simp only[Bool.and_eq_true]at hm;obtain⟨r,hr,hw⟩:=Option.bind_eq_some_iff.1 h;have noLoop: ∀{c:C},xT c=true→fM (fun live x=>QU (lqN live) (fY R nb n (.loop live x))) c:=fun{c} hc=>by
      induction c with
      |seq x y ihx ihy=>simp only[xT,Bool.and_eq_true]at hc;exact⟨ihx hc.1,ihy hc.2⟩
      |cond c x y ihx ihy=>simp only[xT,Bool.and_eq_true]at hc;exact⟨ihx hc.1,ihy hc.2⟩
      |ops=>trivial
      |skip=>trivial
      |drw=>simp[xT]at hc
      |blk=>simp[xT]at hc
      |loop=>simp[xT]at hc
      |brk=>simp[xT]at hc
      |ret=>simp[xT]at hc
     have hT:=oA (R:=R) (n:=n) (nb:=nb) (kd:=kd) (cl:=cl) hQ (lq:=lqN) (c:= .cond c x y) ⟨noLoop hm.2.1,noLoop hm.2.2⟩;have hd:r.2=true→ ∃out0 out,r.1.den=some out0∧fY R nb n (.cond c x y) σr=some out∧LeOut out0 out:=fun hk=>hT σ σr r.1 (by rw[hr,←hk]) hl
     have hk:r.2=true:=by
      unfold Y2 at hw;split at hw
      ·obtain rfl:=qi hw;exact(bJ ho).1
      ·simp at hw
     obtain⟨out0,out,a1,a2,a3⟩:=hd hk;exact⟨out,a2,Y3 hw ho fun _=>⟨out0,a1,a3⟩⟩
    ·simp only[qB,qI]at h;obtain⟨tx,hx,ty,hy,rfl⟩:=h;simp only[fY,hv',hb,Option.bind_some];cases b
     ·have:=dD hQ (c:=y) hL.2 σ σr ty hy ho hl;rw[if_neg (by simp)]
      exact this
     ·have:=dD hQ (c:=x) hL.1 σ σr tx hx ho hl;rw[if_pos rfl];exact this
 | .blk id x,hL=>fun σ σr t h ho hl=>by
   simp only[x9,qB,qI]at h;obtain⟨u,hu,rfl⟩:=h;rw[Pt.okv_map]at ho;obtain⟨out,a1,a2⟩:=dD hQ (c:=x) hL σ σr u hu ho hl;rw[Pt.val_map];generalize u.val=o at a2;refine⟨x8 id out,?_,?_⟩
   ·rw[fY,a1,Option.bind_some];cases out with
    |nor σ=>rfl
    |ret σ=>rfl
    |brk j σ=>
     simp only[x8];split<;>rfl
   ·cases a2 with
    |nor h=>exact .nor h
    |ret h=>exact .ret h
    |brk h=>
     simp only[x8];split
     ·exact .nor h
     ·exact .brk h
 | .loop live x,hL=>fun σ σr t h ho hl=>by
   simp only[x9]at h;split at h
   ·rename_i r hr;rw[h]at hr;exact hL.1 σ σr t hr ho hl
   ·rw[fY];exact N5 (dD hQ (c:=x) hL.2) n σ σr t h ho hl
 | .brk id,hL=>fun σ σr t h ho hl=>by
   simp only[x9,qI]at h;subst h;exact⟨.brk id σr,rfl, .brk hl⟩
 | .ret,hL=>fun σ σr t h ho hl=>by
   simp only[x9,qI]at h;subst h;exact⟨.ret σr,rfl, .ret hl⟩
 | .skip,hL=>fun σ σr t h ho hl=>by
   simp only[x9,qI]at h;subst h;exact⟨.nor σr,rfl, .nor hl⟩
def aZX(wm nm:Bool)(res:List Rv)(nb:Nat):Out→Option (Pt (SV×List Blk))
 | .nor σ=>(eU σ res).bind fun vs=>(LG wm nm nb σ vs).bind fun r=>some (.ok r.2 (.leaf r.1))
 | .ret σ=>(eU σ res).bind fun vs=>(LG wm nm nb σ vs).bind fun r=>some (.ok r.2 (.leaf r.1))
 | .brk _ _=>none
noncomputable def fnP(Q:Qt)(kd:List (Nat×List Kd))(cl:List Nat)(mg:Bool)(lq:Lp)(n:Nat)(cf:Zq.Fn)(args:List SV)(hp:List Blk):Option (Pt (SV×List Blk)):=
 if args.length=cf.np then(x9 Q kd cl mg lq (dE hp) n cf.body ⟨qG 0 args,hp⟩).bind fun t=>t.bindO (aZX (lwm kd) (lnm kd) cf.res (dE hp))else none
theorem aOF{R:Rt}{Q:Qt}(hQ:WW (dJ R) Q){kd:List (Nat×List Kd)}{cl:List Nat}{mg:Bool}{lq:Lp}{n:Nat}{cf:Zq.Fn}{args:List SV}{hp:List Blk}{t:Pt (SV×List Blk)}(hL:fM (fun live x=>dB (oV lq (m6 x)) (fY R (dE hp) n (.loop live x))) cf.body)(h:fnP Q kd cl mg lq n cf args hp=some t)(ho:t.okv=true):cf.run R n args hp=some t.val:=by
 unfold fnP at h;split at h
 ·rename_i hn;simp only[qB]at h;obtain⟨u,hu,h⟩:=h;obtain⟨k1,w,hw,k2,k3⟩:=Pt.bindO_val h ho;obtain⟨out,a1,a2⟩:=dD hQ hL _ _ u hu k1 .rfl;unfold Fn.run;rw[if_pos hn,a1,k3];generalize u.val=o at hw a2;have fin: ∀{σ τ:St},Le σ τ→(eU σ cf.res).bind (fun vs=>(LG (lwm kd) (lnm kd) (dE hp) σ vs).bind fun r=>some (Pt.ok r.2 (.leaf r.1)))=some w→((eU τ cf.res).bind fun vs=>leave (dE hp) τ vs)=some w.val:=fun{σ τ} hl hw=>by
   simp only[qB,qI]at hw;obtain⟨vs,hv,r,hr,rfl⟩:=hw;obtain⟨o1,-⟩:=bJ k2;refine aZV (res:=cf.res) hl (r:=r.1) ?_;simp only[aOC,hv,Option.bind_some];exact XI (by rw[hr,←o1])
  cases a2 with
  |nor hl=>exact fin hl hw
  |ret hl=>exact fin hl hw
  |brk hl=>simp[aZX]at hw
 ·simp at h
def JE(wm nm:Bool)(nb:Nat)(σ:St)(vs:List SV):Option ((SV×List Blk)×Bool):=
 if V6 (vJ σ.hp ((vs.flatMap eY).foldl (KO σ.hp 0) (fE σ.hp nb)) (vs.flatMap eY)) nb=true∧V6 (vJ σ.hp ((vs.flatMap eY).foldl (KO σ.hp 0) (fE σ.hp nb)) (vs.flatMap eY)) (nb+1)=true then LG wm nm nb σ vs else none
theorem aHK{wm nm:Bool}{nb:Nat}{σ:St}{vs:List SV}{r:SV×List Blk}(h:JE wm nm nb σ vs=some (r,true)):leaveK nb σ vs=some r:=by
 unfold JE at h;obtain⟨hc,h1⟩:=cB h;unfold leaveK;simp only;rw[if_pos hc];exact XI h1
def aOG(wm nm:Bool)(res:List Rv)(nb:Nat):Out→Option (Pt (SV×List Blk))
 | .nor σ=>(eU σ res).bind fun vs=>(JE wm nm nb σ vs).bind fun r=>some (.ok r.2 (.leaf r.1))
 | .ret σ=>(eU σ res).bind fun vs=>(JE wm nm nb σ vs).bind fun r=>some (.ok r.2 (.leaf r.1))
 | .brk _ _=>none
theorem aVH{res:List Rv}{nb:Nat}{σ σr:St}(hl:Le σ σr){r:SV×List Blk}(h:((eU σ res).bind fun vs=>leaveK nb σ vs)=some r):((eU σr res).bind fun vs=>leaveK nb σr vs)=some r:=by
 simp only[qB]at h⊢;obtain⟨vs,hv,h⟩:=h;refine⟨vs,AP hl hv,?_⟩;unfold leaveK leave at h⊢;rw[hl.hp];exact h
noncomputable def bA3(Q:Qt)(kd:List (Nat×List Kd))(cl:List Nat)(mg:Bool)(lq:Lp)(n:Nat)(cf:Zq.Fn)(args:List SV)(hp:List Blk):Option (Pt (SV×List Blk)):=
 if args.length=cf.np∧dE hp+2≤hp.length then(x9 Q kd cl mg lq (dE hp+2) n cf.body ⟨qG 0 args,hp⟩).bind fun t=>t.bindO (aOG (lwm kd) (lnm kd) cf.res (dE hp))else none
theorem aZY{R:Rt}{Q:Qt}(hQ:WW (dJ R) Q){kd:List (Nat×List Kd)}{cl:List Nat}{mg:Bool}{lq:Lp}{n:Nat}{cf:Zq.Fn}{args:List SV}{hp:List Blk}{t:Pt (SV×List Blk)}(hL:fM (fun live x=>dB (oV lq (m6 x)) (fY R (dE hp+2) n (.loop live x))) cf.body)(h:bA3 Q kd cl mg lq n cf args hp=some t)(ho:t.okv=true):cf.runK R n args hp=some t.val:=by
 unfold bA3 at h;split at h
 ·rename_i hn;simp only[qB]at h;obtain⟨u,hu,h⟩:=h;obtain⟨k1,w,hw,k2,k3⟩:=Pt.bindO_val h ho;obtain⟨out,a1,a2⟩:=dD hQ hL _ _ u hu k1 .rfl;unfold Fn.runK;rw[if_pos hn,a1,k3];generalize u.val=o at hw a2;have fin: ∀{σ τ:St},Le σ τ→(eU σ cf.res).bind (fun vs=>(JE (lwm kd) (lnm kd) (dE hp) σ vs).bind fun r=>some (Pt.ok r.2 (.leaf r.1)))=some w→((eU τ cf.res).bind fun vs=>leaveK (dE hp) τ vs)=some w.val:=fun{σ τ} hl hw=>by
   simp only[qB,qI]at hw;obtain⟨vs,hv,r,hr,rfl⟩:=hw;obtain⟨o1,-⟩:=bJ k2;refine aVH (res:=cf.res) hl (r:=r.1) ?_;simp only[hv,Option.bind_some];exact aHK (by rw[hr,←o1])
  cases a2 with
  |nor hl=>exact fin hl hw
  |ret hl=>exact fin hl hw
  |brk hl=>simp[aOG]at hw
 ·simp at h
def prn:Pt Out→Option (Pt Out)
 | .leaf (.nor _)=>none
 | .leaf o=>some (.leaf o)
 | .ok _ x=>prn x
 | .br b x y=>match prn x,prn y with
   |none,none=>none
   |some x,none=>some x
   |none,some y=>some y
   |some x,some y=>some (.br b x y)
def aE9:Out→Bool
 | .nor _=>true
 |_=>false
theorem CL: ∀{t:Pt Out},prn t=none→aE9 t.val=true
 | .leaf (.nor _),_=>rfl
 | .leaf (.brk _ _),h=>by simp[prn]at h
 | .leaf (.ret _),h=>by simp[prn]at h
 | .ok _ x,h=>CL (t:=x) h
 | .br b x y,h=>by
   simp only[prn]at h;split at h
   ·rename_i h1 h2;cases b
    ·exact CL (t:=y) h2
    ·exact CL (t:=x) h1
   ·simp at h
   ·simp at h
   ·simp at h
theorem zR: ∀{t u:Pt Out},prn t=some u→aE9 t.val=false→u.val=t.val∧u.okv=true
 | .leaf (.nor _),u,h,hn=>by simp[prn]at h
 | .leaf (.brk _ _),u,h,hn=>by obtain rfl:=qi h;exact⟨rfl,rfl⟩
 | .leaf (.ret _),u,h,hn=>by obtain rfl:=qi h;exact⟨rfl,rfl⟩
 | .ok _ x,u,h,hn=>zR (t:=x) h hn
 | .br b x y,u,h,hn=>by
   simp only[prn]at h;cases b
   ·have hn':aE9 y.val=false:=hn;split at h
    ·simp at h
    ·rename_i h1 h2;have:=CL (t:=y) h2;rw[hn']at this;simp at this
    ·rename_i h1 h2;obtain rfl:=qi h;exact zR (t:=y) h2 hn'
    ·rename_i x' y' h1 h2;obtain rfl:=qi h;exact zR (t:=y) (u:=y') h2 hn'
   ·have hn':aE9 x.val=false:=hn;split at h
    ·simp at h
    ·rename_i h1 h2;obtain rfl:=qi h;exact zR (t:=x) h1 hn'
    ·rename_i h1 h2;have:=CL (t:=x) h1;rw[hn']at this;simp at this
    ·rename_i x' y' h1 h2;obtain rfl:=qi h;exact zR (t:=x) (u:=x') h1 hn'
def sY(wm nm:Bool)(nb:Nat)(live:List Nat)(t:Pt Out):Option (Pt (Option St)):=t.bindO fun
 | .nor σ=>(QZ wm nm nb live σ).bind fun c=>some (.ok c.2 (.leaf (some c.1)))
 |_=>some (.leaf none)
def eG{V:Type}(N:V→Pt (Option V)):Nat→V→Option V
 |0,_=>none
 |k+1,v=>bif (N v).okv then(match(N v).val with|none=>some v|some v'=>eG N k v')else none
noncomputable def hid{α:Type}(a:α):α:=Classical.choose (⟨a,rfl⟩: ∃b,b=a)
theorem dV{α:Type}(a:α):hid a=a:=Classical.choose_spec (⟨a,rfl⟩: ∃b,b=a)
noncomputable def vF{V:Type}(wm nm:Bool)(nb:Nat)(live:List Nat)(f:St→Option (Pt Out))(un:St→Option (V×Bool))(st:V→St)(N:V→Pt (Option V))(n:Nat)(σ:St):Option (Pt Out):=
 (QZ wm nm nb live σ).bind fun c=>(un c.1).bind fun v=>(f (st ((hid (eG N n v.1)).getD v.1))).bind fun t=>(prn t).bind fun t=>some (.ok c.2 (.ok v.2 (.ok (hid (eG N n v.1)).isSome t)))
theorem RA{V:Type}{wm nm:Bool}{nb:Nat}{live:List Nat}{f:St→Option (Pt Out)}{g:St→Option Out}(hf:dB f g){st:V→St}{N:V→Pt (Option V)}(hN: ∀v,((f (st v)).bind (sY wm nm nb live))=some ((N v).map (Option.map st))):
  ∀{k:Nat}{v w:V}{σ:St},canon nb live σ=some (st v)→eG N k v=some w→ ∃t out,f (st w)=some t∧aE9 t.val=false∧z8 nb live g k σ=some out∧LeOut t.val out
 |0,v,w,σ,hσ,h=>by simp[eG]at h
 |k+1,v,w,σ,hσ,h=>by
  have hb:=hN v;simp only[qB]at hb;obtain⟨t,ht,hs⟩:=hb;unfold eG at h;cases ho:(N v).okv
  ·rw[ho]at h;simp at h
  ·rw[ho,cond_true]at h;unfold sY at hs;obtain⟨k1,z,hz,k2,k3⟩:=Pt.bindO_val hs (by rw[Pt.okv_map];exact ho)
   obtain⟨out,a1,a2⟩:=hf (st v) (st v) t ht k1 .rfl;simp only[z8,hσ,Option.bind_some,a1];rw[Pt.val_map]at k3;cases hv:t.val with
   |nor τ=>
    rw[hv]at hz a2;simp only[qB,qI]at hz;obtain⟨c,hc,rfl⟩:=hz;obtain⟨o1,-⟩:=bJ k2;cases a2 with
    |nor hl=>
     cases hn:(N v).val with
     |none=>rw[hn]at k3;simp[Pt.val]at k3
     |some v'=>
      rw[hn]at h k3;simp only[Pt.val,Option.map_some,qI]at k3;have hc':=CJ (LH (σ':=c.1) (by rw[hc,←o1])) hl
      rw[←k3]at hc';exact RA hf hN hc' h
   |brk j τ=>
    rw[hv]at hz a2;obtain rfl:=qi hz;cases a2 with
    |brk hl=>
     cases hn:(N v).val with
     |some v'=>rw[hn]at k3;simp[Pt.val]at k3
     |none=>
      rw[hn]at h;obtain rfl:=qi h;exact⟨t,_,ht,by rw[hv];rfl,rfl,by rw[hv];exact .brk hl⟩
   |ret τ=>
    rw[hv]at hz a2;obtain rfl:=qi hz;cases a2 with
    |ret hl=>
     cases hn:(N v).val with
     |some v'=>rw[hn]at k3;simp[Pt.val]at k3
     |none=>
      rw[hn]at h;obtain rfl:=qi h;exact⟨t,_,ht,by rw[hv];rfl,rfl,by rw[hv];exact .ret hl⟩
theorem eM{R:Rt}{V:Type}{wm nm:Bool}{nb n:Nat}{live:List Nat}{x:C}{f:St→Option (Pt Out)}(hf:dB f (fY R nb n x)){un:St→Option (V×Bool)}{st:V→St}{N:V→Pt (Option V)}
  (hu: ∀σ v,un σ=some (v,true)→σ=st v) (hN: ∀v,((f (st v)).bind (sY wm nm nb live))=some ((N v).map (Option.map st))):dB (vF wm nm nb live f un st N n) (fY R nb n (.loop live x)):=fun σ σr t h ho hl=>by
 simp only[vF,dV,qB,qI]at h;obtain⟨c,hc,v,hv,u,hu',w,hw,rfl⟩:=h;obtain⟨o1,o2⟩:=bJ ho;obtain⟨o0,o2⟩:=bJ o2;obtain⟨o2,o3⟩:=bJ o2;obtain⟨z,hz⟩:=Option.isSome_iff_exists.1 o2;have hc':=CJ (LH (σ':=c.1) (by rw[hc,←o1])) hl
 have he:=hu c.1 v.1 (by rw[hv,←o0])
 rw[he]at hc';obtain⟨t',out,a1,a2,a3,a4⟩:=RA hf hN hc' hz;rw[hz,Option.getD_some,a1]at hu';obtain rfl:=qi hu';obtain⟨b1,-⟩:=zR hw a2;refine⟨out,by rw[fY];exact a3,?_⟩
 show LeOut w.val out
 rw[b1];exact a4
def pF:C→List (List Nat×C)
 | .seq x y=>pF x++pF y
 | .cond _ x y=>pF x++pF y
 | .blk _ x=>pF x
 | .loop live x=>(live,x)::pF x
 |_=>[]
def aVI(T:List Nat→C→Prop):List (List Nat×C)→Prop
 |[]=>True
 |p::r=>T p.1 p.2∧aVI T r
theorem pZ{T:List Nat→C→Prop}: ∀{l m:List (List Nat×C)},aVI T (l++m)→aVI T l∧aVI T m
 |[],m,h=>⟨trivial,h⟩
 |p::r,m,h=>⟨⟨h.1,(pZ (l:=r) h.2).1⟩,(pZ (l:=r) h.2).2⟩
theorem rP{T:List Nat→C→Prop}: ∀{c:C},aVI T (pF c)→fM T c
 | .seq x y,h=>⟨rP (c:=x) (pZ h).1,rP (c:=y) (pZ h).2⟩
 | .cond _ x y,h=>⟨rP (c:=x) (pZ h).1,rP (c:=y) (pZ h).2⟩
 | .blk _ x,h=>rP (c:=x) h
 | .loop live x,h=>⟨h.1,rP (c:=x) h.2⟩
 | .ops _ _,_=>trivial
 | .drw ..,_=>trivial
 | .brk _,_=>trivial
 | .ret,_=>trivial
 | .skip,_=>trivial
theorem cQ{T:List Nat→C→Prop}{c:C}{l:List (List Nat×C)}(h:pF c=l)(k:aVI T l):fM T c:=rP (by rw[h];exact k)
end Go.Zq

namespace Go.Zq
open Go
def byteRow:Row→Bool
 |[.lit (.int .u8 z)]=>decide (0≤z)&&decide (z<256)
 |_=>false
def bytesOk(rows:List Row):Bool:=rows.all byteRow
def ri(zs:List Int):List Row:=zs.map fun z=>[.lit (.int .i64 z)]
theorem bI{zs:List Int}:(ri zs).length=zs.length:=by simp[ri]
theorem aHL{r:Row}(h:byteRow r=true): ∃z:Int,r=[.lit (.int .u8 z)]∧0≤z∧z<256:=by
 unfold byteRow at h;split at h
 ·rename_i z;simp only[Bool.and_eq_true,decide_eq_true_eq]at h;exact⟨z,rfl,h⟩
 ·simp at h
theorem aZ0{rows:List Row}(h:bytesOk rows=true){j:Nat}(hj:j<rows.length): ∃z:Int,rows.getD j []=[.lit (.int .u8 z)]∧bQ rows j 0=z∧0≤z∧z<256:=by
 have hr:rows.getD j []=rows[j]:=by simp[List.getD_eq_getElem?_getD,hj]
 obtain⟨z,hz,h0,h1⟩:=aHL (List.all_eq_true.1 h rows[j] (List.getElem_mem hj));refine⟨z,by rw[hr,hz],?_,h0,h1⟩
 simp only[bQ,vS,hr,hz];rfl
theorem aHM{rows:List Row}(h:bytesOk rows=true){p:Int}(h0:0≤p)(h1:p<(rows.length:Int)):hZ [.int .u8] rows p=true:=by
 have hj:p.toNat<rows.length:=by omega
 obtain⟨z,hz,-⟩:=aZ0 h hj;have hb:Nat.blt p.toNat rows.length=true:=by simpa using hj
 simp only[hZ,dU,hz,h0,hb,decide_true,Bool.true_and];rfl
def aZ1(s:Int):Int:=IntKind.wrap IntKind.i64 (IntKind.wrap IntKind.u64 ↑(BitVec.toNat (BitVec.ofInt (64:Nat) (Int.fdiv s (1099511627776:Int))&&&BitVec.ofInt (64:Nat) (255:Int))))
theorem bA4(s:Int):0≤aZ1 s∧aZ1 s<256:=by
 unfold aZ1;have h:(BitVec.ofInt 64 (s.fdiv 1099511627776)&&&BitVec.ofInt 64 255).toNat≤255:=by
  rw[BitVec.toNat_and];exact Nat.le_trans Nat.and_le_right (by decide)
 generalize (BitVec.ofInt 64 (s.fdiv 1099511627776)&&&BitVec.ofInt 64 255).toNat=n at h;have h1:IntKind.u64.wrap (n:Int)=n:=by
  have:IntKind.u64.wrap (n:Int)=(n:Int)%18446744073709551616:=by simp[IntKind.wrap,IntKind.bits,IntKind.signed]
  omega
 rw[h1,IntKind.wrap_i64];omega
end Go.Zq

namespace Go.Zq
open Go
theorem aVJ{xs ys:List Int}:ri (xs++ys)=ri xs++ri ys:=by simp[ri]
theorem Y4{xs:List Int}{j:Nat}{d:Int}(h:xs[j]? =some d):(ri xs).getD j []=[.lit (.int .i64 d)]:=by
 simp[ri,List.getD_eq_getElem?_getD,h]
theorem b2D{xs:List Int}{j:Nat}{d:Int}(h:xs[j]? =some d):bQ (ri xs) j 0=d:=by
 simp only[bQ,vS,Y4 h];rfl
theorem aZ2{xs:List Int}{j:Nat}{d:Int}(h:xs[j]? =some d):dU [.int .i64] (ri xs) j 0=true:=by
 have hj:j<xs.length:=(List.getElem?_eq_some_iff.1 h).1;simp only[dU,Y4 h,bI];have:Nat.blt j xs.length=true:=by simpa using hj
 rw[this];rfl
theorem bH1{xs:List Int}{j:Nat}{d:Int}(h:xs[j]? =some d):hZ [.int .i64] (ri xs) (j:Int)=true:=by
 have h1:=aZ2 h;simp only[hZ,Int.toNat_natCast,h1,Y4 h];simp
theorem Y5(z:Int)(k:Nat)(hk:k<63):IntKind.wrap IntKind.i64 (↑(BitVec.toNat (BitVec.ofInt (64:Nat) z&&&BitVec.ofInt (64:Nat) ((2:Int)^k-1))):Int)=z%2^k:=by
 have hpos:(1:Nat)≤2^k:=Nat.one_le_two_pow;have hle:(2:Nat)^k≤2^62:=Nat.pow_le_pow_right (by decide) (by omega)
 have e:(((2:Int)^k-1)%((2^64:Nat):Int)).toNat=2^k-1:=by
  have:((2:Int)^k)=((2^k:Nat):Int):=by simp
  rw[this];omega
 rw[BitVec.toNat_and,BitVec.toNat_ofInt,BitVec.toNat_ofInt,e,Nat.and_two_pow_sub_one_eq_mod,IntKind.wrap_i64];have h2:((2:Int)^k)=((2^k:Nat):Int):=by simp
 rw[h2];have h3:(((z%((2^64:Nat):Int)).toNat%2^k:Nat):Int)=z%((2^k:Nat):Int):=by
  rw[Int.natCast_emod,Int.toNat_of_nonneg (by omega)]
  refine Int.emod_emod_of_dvd _ ?_;exact Int.natCast_dvd_natCast.2 (Nat.pow_dvd_pow 2 (by omega))
 rw[h3];have h4:0≤z%((2^k:Nat):Int)∧z%((2^k:Nat):Int)<((2^k:Nat):Int):=⟨Int.emod_nonneg _ (by omega),Int.emod_lt_of_pos _ (by omega)⟩
 omega
end Go.Zq

namespace Go.Zq
open Go
def gU(c:C)(i:Nat):C:=((pF c)[i]?.map (·.2)).getD .skip
def bE(x y:Int):Int:=IntKind.wrap .i64 (x+y)
def cN(x y:Int):Int:=IntKind.wrap .i64 (x-y)
def dH(x y:Int):Int:=IntKind.wrap .i64 (x*y)
def cAG(x y:Int):Int:=x*y
def lQ(x y:Int):Int:=IntKind.wrap .i64 (x.tdiv y)
def nM(x y:Int):Int:=x.tmod y
def bH(x y:Int):Int:=IntKind.wrap .i64 (BitVec.ofInt 64 x&&&BitVec.ofInt 64 y).toNat
def eW(x y:Int):Int:=IntKind.wrap .i64 (BitVec.ofInt 64 x|||BitVec.ofInt 64 y).toNat
def qE(x y:Int):Int:=IntKind.wrap .i64 (BitVec.ofInt 64 x^^^BitVec.ofInt 64 y).toNat
def gB(x y:Int):Int:=IntKind.wrap .i64 (BitVec.ofInt 64 x&&& ~~~BitVec.ofInt 64 y).toNat
def m7(x y:Int):Int:=IntKind.wrap .i64 (x*2^min y.toNat 64)
def eZ(x y:Int):Int:=x.fdiv (2^min y.toNat 64)
def b2E(k:IntKind)(x y:Int):Int:=k.wrap (x+y)
def cAH(k:IntKind)(x y:Int):Int:=k.wrap (x*y)
def bA5(k:IntKind)(x y:Int):Int:=k.wrap (BitVec.ofInt k.bits x&&&BitVec.ofInt k.bits y).toNat
def aZ3(k:IntKind)(x y:Int):Int:=x.fdiv (2^min y.toNat k.bits)
def xU(k:IntKind)(x:Int):Int:=k.wrap x
def eqI(x y:Int):Bool:=x==y
def dC(x y:Int):Bool:=x !=y
def ltI(x y:Int):Bool:=decide (x<y)
def leI(x y:Int):Bool:=decide (x≤y)
def kU(x y:Int):Bool:=decide (x>y)
def geI(x y:Int):Bool:=decide (x≥y)
def vG(x y:Bool):Bool:=x==y
def eC(x y:Nat):Bool:=decide (x=y)
noncomputable def s1{α:Type}(x:α):Bool:=same x x
noncomputable def r1(x:List Row):Bool:=aE3 x x
def e1(x:Nat):Bool:=eC x x
@[simp] theorem cU{α:Type}(x:α):s1 x=true:=EK x
@[simp] theorem cV(x:List Row):r1 x=true:=EK x
@[simp] theorem bP(x:Nat):e1 x=true:=decide_eq_true rfl
def qQ(x y:Nat):Bool:=decide (x≤y)
def blt(x y:Nat):Bool:=Nat.blt x y
def jW(x y:Nat):Bool:=x==y
def vX(x y:Nat):Nat:=x*y
def cAI(x y:Nat):Nat:=min x y
def jX(r:List Row)(j:Nat):Nat:=(r.getD j []).length
def cAJ(n:Nat):Int:=n
def cA(r:List Row):Int:=r.length
def bB(x:Int):Row:=[.lit (.int .i64 x)]
theorem b2F{R:Rt}{Q:Qt}(hQ:WW (dJ R) Q){kd:List (Nat×List Kd)}{cl:List Nat}{mg:Bool}{lq:Lp}{n:Nat}{cf:Zq.Fn}{args:List SV}{hp:List Blk}{γ:Type}{T:Pt γ}{nn:γ→SV×List Blk}
  (hL:fM (fun live x=>dB (oV lq (m6 x)) (fY R (dE hp) n (.loop live x))) cf.body) (e:fnP Q kd cl mg lq n cf args hp=some (T.map nn)) {r:SV×List Blk} (hr:nn (hid T.val)=r) (hk:hid T.okv=true):cf.run R n args hp=some r:=by
 rw[dV]at hr hk;have:=aOF hQ hL e (by rw[Pt.okv_map];exact hk)
 rw[this,Pt.val_map,hr]
theorem bJY{R:Rt}{Q:Qt}(hQ:WW (dJ R) Q){kd:List (Nat×List Kd)}{cl:List Nat}{mg:Bool}{lq:Lp}{n:Nat}{cf:Zq.Fn}{args:List SV}{hp:List Blk}{γ:Type}{T:Pt γ}{nn:γ→SV×List Blk}
  (hL:fM (fun live x=>dB (oV lq (m6 x)) (fY R (dE hp+2) n (.loop live x))) cf.body) (e:bA3 Q kd cl mg lq n cf args hp=some (T.map nn)) {r:SV×List Blk} (hr:nn (hid T.val)=r) (hk:hid T.okv=true):cf.runK R n args hp=some r:=by
 rw[dV]at hr hk;have:=aZY hQ hL e (by rw[Pt.okv_map];exact hk)
 rw[this,Pt.val_map,hr]
noncomputable def fnZ(Q:Qt)(kd:List (Nat×List Kd))(cl:List Nat)(mg:Bool)(lq:Lp)(n:Nat)(cf:Zq.Fn)(args:List SV):Option (Pt (SV×List Blk)):=
 (fnP Q kd cl mg lq n cf args []).bind fun t=>t.bindO fun r=>(aHE r.2 r.1).bind fun v=>some (.ok v.2 (.leaf (v.1,[])))
theorem b2G{R:Rt}{Q:Qt}(hQ:WW (dJ R) Q){kd:List (Nat×List Kd)}{cl:List Nat}{mg:Bool}{lq:Lp}{n:Nat}{cf:Zq.Fn}{args:List SV}{γ:Type}{T:Pt γ}{nn:γ→SV×List Blk}{f:FuncId}
  (hL:fM (fun live x=>dB (oV lq (m6 x)) (fY R (dE []) n (.loop live x))) cf.body) (e:fnZ Q kd cl mg lq n cf args=some (T.map nn)) {r:SV×List Blk} (hr:nn (hid T.val)=r) (hk:hid T.okv=true) (hR: ∀r,cf.run R n args []=some r→R f args []=some r):dJ R (f+100000) args []=some r:=by
 rw[dV]at hr hk;unfold fnZ at e;simp only[Option.bind_eq_some_iff]at e;obtain⟨t,ht,e⟩:=e;obtain⟨k1,w,hw,k2,k3⟩:=Pt.bindO_val e (by rw[Pt.okv_map];exact hk)
 have hrun:=hR _ (aOF hQ hL ht k1);simp only[Option.bind_eq_some_iff,Option.some.injEq]at hw;obtain⟨v,hv,rfl⟩:=hw;obtain⟨o1,-⟩:=bJ k2;rw[Pt.val_map,hr]at k3;rw[aZI,hrun];simp only[Option.bind_some,aVA (r:=v.1) (by rw[hv,←o1])]
 rw[k3];rfl
end Go.Zq

namespace Go.Zq
open Go
def Pt.Sat{α:Type}(P:α→Prop):Pt α→Prop
 | .leaf a=>P a
 | .br b x y=>(b=true→x.Sat P)∧(b=false→y.Sat P)
 | .ok b x=>b=true∧x.Sat P
theorem Pt.sat_ok{α:Type}{P:α→Prop}: ∀{t:Pt α},t.Sat P→t.okv=true∧P t.val
 | .leaf a,h=>⟨rfl,h⟩
 | .br b x y,h=>by
   cases b
   ·exact Pt.sat_ok (t:=y) (h.2 rfl)
   ·exact Pt.sat_ok (t:=x) (h.1 rfl)
 | .ok b x,h=>by
   obtain⟨h1,h2⟩:=Pt.sat_ok (t:=x) h.2;exact⟨by simp only[Pt.okv,h.1,h1];rfl,h2⟩
theorem aK{α:Type}{P:α→Prop}{t:Pt α}(h:t.Sat P):hid t.okv=true∧P (hid t.val):=by
 rw[dV,dV];exact Pt.sat_ok h
@[simp] theorem aA{α:Type}{P:α→Prop}{a:α}:(Pt.leaf a).Sat P=P a:=rfl
@[simp] theorem aJ{α:Type}{P:α→Prop}{b:Bool}{x y:Pt α}:(Pt.br b x y).Sat P=((b=true→x.Sat P)∧(b=false→y.Sat P)):=rfl
@[simp] theorem aB{α:Type}{P:α→Prop}{b:Bool}{x:Pt α}:(Pt.ok b x).Sat P=(b=true∧x.Sat P):=rfl
@[simp] theorem o9{α:Type}{a:α}:(Pt.leaf a).okv=true:=rfl
@[simp] theorem H7{α:Type}{b:Bool}{x y:Pt α}:(Pt.br b x y).okv=bif b then x.okv else y.okv:=rfl
@[simp] theorem yY{α:Type}{b:Bool}{x:Pt α}:(Pt.ok b x).okv=(b&&x.okv):=rfl
@[simp] theorem kA{α:Type}{a:α}:(Pt.leaf a).val=a:=rfl
@[simp] theorem H8{α:Type}{b:Bool}{x y:Pt α}:(Pt.br b x y).val=bif b then x.val else y.val:=rfl
@[simp] theorem rA{α:Type}{b:Bool}{x:Pt α}:(Pt.ok b x).val=x.val:=rfl
@[simp] theorem b73{a b:Nat}:eC a b=true↔a=b:=by simp[eC]
@[simp] theorem aD{a:Nat}:eC a a=true:=by simp[eC]
@[simp] theorem O6{a b:Nat}:qQ a b=true↔a≤b:=by simp[qQ]
@[simp] theorem b5J{a b:Nat}:jW a b=true↔a=b:=by simp[jW]
@[simp] theorem b74{a b:Nat}:blt a b=true↔a<b:=by simp[blt]
@[simp] theorem bO{α:Type}(a:α):same a a=true:=EK a
@[simp] theorem bG(a:List Row):aE3 a a=true:=aHI a
@[simp] theorem dS{a b:Int}:eqI a b=true↔a=b:=by simp[eqI]
@[simp] theorem gT{a b:Int}:eqI a b=false↔a≠b:=by simp[eqI]
@[simp] theorem oM{a b:Int}:dC a b=true↔a≠b:=by simp[dC]
@[simp] theorem OC{a b:Int}:dC a b=false↔a=b:=by simp[dC]
@[simp] theorem eK{a b:Int}:ltI a b=true↔a<b:=by simp[ltI]
@[simp] theorem pA{a b:Int}:ltI a b=false↔b≤a:=by simp[ltI]
@[simp] theorem mY{a b:Int}:leI a b=true↔a≤b:=by simp[leI]
@[simp] theorem aFU{a b:Int}:leI a b=false↔b<a:=by simp[leI]
@[simp] theorem rB{a b:Int}:kU a b=true↔b<a:=by simp[kU]
@[simp] theorem FS{a b:Int}:kU a b=false↔a≤b:=by simp[kU]
@[simp] theorem J5{a b:Int}:geI a b=true↔b≤a:=by simp[geI]
@[simp] theorem aFV{a b:Int}:geI a b=false↔a<b:=by simp[geI]
@[simp] theorem b75{a b:Bool}:vG a b=true↔a=b:=by simp[vG]
@[simp] theorem bA{r:List Row}:cA r=(r.length:Int):=rfl
@[simp] theorem b76{n:Nat}:cAJ n=(n:Int):=rfl
@[simp] theorem aDB{a b:Nat}:vX a b=a*b:=rfl
@[simp] theorem b77{a b:Nat}:cAI a b=min a b:=rfl
@[simp] theorem b78{a b:Int}:cAG a b=a*b:=rfl
theorem bV{x y:Int}(h: -9223372036854775808≤x+y∧x+y<9223372036854775808):bE x y=x+y:=by
 unfold bE;rw[IntKind.wrap_i64];omega
theorem eV{x y:Int}(h: -9223372036854775808≤x-y∧x-y<9223372036854775808):cN x y=x-y:=by
 unfold cN;rw[IntKind.wrap_i64];omega
theorem hJ{x y:Int}(h: -9223372036854775808≤x*y∧x*y<9223372036854775808):dH x y=x*y:=by
 unfold dH;rw[IntKind.wrap_i64];omega
theorem bGD{x:Int}(h: -9223372036854775808≤x∧x<9223372036854775808):xU .i64 x=x:=by
 unfold xU;rw[IntKind.wrap_i64];omega
theorem aTJ{x n:Int}(h0:0≤x)(h1:0<n):0≤nM x n∧nM x n<n:=by
 unfold nM;rw[Int.tmod_eq_emod_of_nonneg h0];exact⟨Int.emod_nonneg _ (by omega),Int.emod_lt_of_pos _ h1⟩
def Num(r:List Row):Prop:= ∃zs:List Int,r=ri zs
theorem BG{z:Int}{zs:List Int}:ri (z::zs)=bB z::ri zs:=rfl
theorem H9:ri []=[]:=rfl
theorem bP3{r:List Row}(h:Num r){j:Int}(h0:0≤j)(h1:j<(r.length:Int)):hZ [.int .i64] r j=true:=by
 obtain⟨a,rfl⟩:=h;rw[bI]at h1;have hj:j.toNat<a.length:=by omega
 have:=bH1 (xs:=a) (j:=j.toNat) (d:=a[j.toNat]) (List.getElem?_eq_getElem hj)
 rwa [Int.toNat_of_nonneg h0]at this
theorem EN{r:List Row}(h:Num r){j:Nat}(h1:j<r.length):dU [.int .i64] r j 0=true:=by
 obtain⟨a,rfl⟩:=h;rw[bI]at h1;exact aZ2 (d:=a[j]) (List.getElem?_eq_getElem h1)
structure CurOk(B:Int)(code:List Row)(p:Int):Prop where
 code:bytesOk code=true
 lo:0≤p
 hi:p≤B
theorem CurOk.mono{B C:Int}{code:List Row}{p:Int}(h:CurOk B code p)(hB:B≤C):CurOk C code p:=⟨h.1,h.2,by have:=h.3;omega⟩
theorem eX{V:Type}{N:V→Pt (Option V)}(Inv:Nat→V→Prop)(Post:V→Prop)(h: ∀n v,Inv n v→(N v).Sat fun r=>match r with|none=>Post v|some v'=> ∃m,m<n∧Inv m v'):
  ∀(k n:Nat)(v:V),Inv n v→n<k→ ∃w,eG N k v=some w∧Post w
 |0,n,v,hi,hk=>by omega
 |k+1,n,v,hi,hk=>by
  obtain⟨h1,h2⟩:=Pt.sat_ok (h n v hi);unfold eG;rw[h1,cond_true];cases hv:(N v).val with
  |none=>rw[hv]at h2;exact⟨v,rfl,h2⟩
  |some v'=>
   rw[hv]at h2;obtain⟨m,hm,hi'⟩:=h2;exact eX Inv Post h k m v' hi' (by omega)
theorem kD{V:Type}{N:V→Pt (Option V)}{Post:V→Prop}{k:Nat}{v:V}(h: ∃w,eG N k v=some w∧Post w):(hid (eG N k v)).isSome=true∧Post ((hid (eG N k v)).getD v):=by
 obtain⟨w,hw,hp⟩:=h;rw[dV,hw];exact⟨rfl,hp⟩
def cI(x a b:Int):Bool:=decide (a≤x)&&decide (x≤b)
@[simp] theorem aR{x a b:Int}:cI x a b=true↔a≤x∧x≤b:=by simp[cI]
def dI(zs:List Int):Bool:=zs.all fun z=>cI z 0 255
theorem oZ{zs:List Int}{i:Nat}(h:i<zs.length):bQ (ri zs) i 0=zs[i]:=b2D (List.getElem?_eq_getElem h)
theorem yZ{v:Int}(h:0≤v)(h1:v<9223372036854775808):bH v 255=v%256:=by
 have:=Y5 v 8 (by omega)
 exact this
theorem i6{v:Int}(k:Nat)(m:Int)(hk:k<63)(hm:m=2^k-1):bH v m=v%2^k:=by
 subst hm;exact Y5 v k hk
theorem kQ{v n:Int}(k:Nat)(hn:n=(k:Int))(hk:k≤64):eZ v n=v/2^k:=by
 subst hn;unfold eZ;rw[Int.toNat_natCast,Nat.min_eq_left hk,Int.fdiv_eq_ediv_of_nonneg _ (Int.le_of_lt (Int.pow_pos (by omega)))]
theorem bGE{v:Int}(h:0≤v)(h1:v<65536):m7 v 8=v*256:=by
 unfold m7;rw[show((2:Int)^min (Int.toNat 8) 64)=256 from by decide,IntKind.wrap_i64]
 omega
theorem UF{q r:Int}(hq:0≤q)(hq1:q<65536)(hr:0≤r)(hr1:r<256):eW (q*256) r=q*256+r:=by
 obtain⟨a,rfl⟩:=Int.eq_ofNat_of_zero_le hq;obtain⟨b,rfl⟩:=Int.eq_ofNat_of_zero_le hr;unfold eW;rw[BitVec.toNat_or,BitVec.toNat_ofInt,BitVec.toNat_ofInt];have e1:(((a:Int)*256)%((2^64:Nat):Int)).toNat=2^8*a:=by omega
 have e2:((b:Int)%((2^64:Nat):Int)).toNat=b:=by omega
 rw[e1,e2,←Nat.two_pow_add_eq_or_of_lt (by omega),IntKind.wrap_i64]
 omega
theorem bP4{v:Int}(h:0≤v):nM v 2=v%2:=by
 unfold nM;exact Int.tmod_eq_emod_of_nonneg h
theorem b5K{v:Int}:bH v 1=v%2:=by
 have:=Y5 v 1 (by omega)
 simpa [bH]using this
theorem dX{zs:List Int}{i:Nat}{z:Int}:(ri zs).set i (bB z)=ri (zs.set i z):=by
 simp only[ri,List.map_set];rfl
theorem xV{zs:List Int}{i:Nat}(h:i<zs.length):jX (ri zs) i=1:=by
 unfold jX;rw[Y4 (List.getElem?_eq_getElem h)];rfl
theorem uK{zs:List Int}{i:Nat}(h:i<zs.length):hZ [.int .i64] (ri zs) (i:Int)=true:=bH1 (d:=zs[i]) (List.getElem?_eq_getElem h)
end Go.Zq
