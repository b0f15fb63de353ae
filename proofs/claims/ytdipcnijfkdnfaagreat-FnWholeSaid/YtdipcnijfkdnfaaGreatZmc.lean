import Derived.Test.YtdipcnijfkdnfaaGreatZmb
set_option linter.unusedVariables false
set_option linter.unusedSimpArgs false
namespace Go.Zq
open Go
theorem aIC{P:Program}(w:World)(d:Nat)(t e:TypeId)(a:Option Addr)(l c:Nat)(h:P.underlying t=some (.slice e)):(Op.equalIn (d+1) t (.slice a l c) (.slice none 0 0)).run P w= .ok a.isNone w:=by
 unfold Op.equalIn;simp only[Sem.run_bind,run_underlying h,Result.andThen_ok];cases a<;>rfl
def yR(p:Bool)(n:Nat)(rows:List Row):List (Nat×SV):=[(2, .one (.nls n)),(0, .one (.imm p n rows))]
theorem bQ7(R:Rt){p:Bool}{n k:Nat}{rows:List Row}{b:Bool}:fT R 0 k (.seq (.ops [(none, .mv 2 (.c (.one (.nls n))))] none) .ret) ⟨(4, .one (B b))::(3, .one (.imm p n rows))::yR p n rows,[]⟩=
  some (.ret ⟨(2, .one (.nls n))::(4, .one (B b))::(3, .one (.imm p n rows))::yR p n rows,[]⟩):=by
 simp only[fT,d9,kN,K.run,K.exec,St.ev,Option.bind_some,setD,K.dst,St.set,trim]
theorem bQ8(R:Rt){p:Bool}{n k by_:Nat}{z:Row}{rows:List Row}{b:Bool}(hz:z.length=n)(h1:rows.length*by_≤room)(h2:rows.length≤room):
  fT R 0 k (.seq (.ops [(none, .bsl 5 0 z []),(none, .mv 6 (.t 0)),(none, .app 7 by_ n (.t 5) (.t 6)),(none, .mv 2 (.t 7))] none) .ret) ⟨(4, .one (B b))::(3, .one (.imm p n rows))::yR p n rows,[]⟩=
  some (.ret ⟨(2, .one (.sl 1 0 rows.length))::(7, .one (.sl 1 0 rows.length))::(6, .one (.imm p n rows))::(5, .one (.sl 0 0 0))::(4, .one (B b))::(3, .one (.imm p n rows))::yR p n rows,[.dead, .lst n rows]⟩):=by
 simp[fT,d9,kN,K.run,K.exec,St.ev,setD,K.dst,St.set,trim,fillRows,bQ,yR,jH,dN,QR,m7,I7,hz,h1,h2]
theorem aVL{σ:St}{n:Nat}(hh:σ.hp=[]):leave 0 σ [.one (.nls n)]=some (.one (.sl 0 0 0),[.lst n []]):=by
 simp[leave,fE,fM,vW,QN,LX,aYN,aE4,hh,oR,vX,aYP,cL,QP,CY,eG,m7,dN,pQ,ren,aE5]
theorem aVM{σ:St}{n:Nat}{rows:List Row}(hh:σ.hp=[.dead, .lst n rows]):leave 0 σ [.one (.sl 1 0 rows.length)]=some (.one (.sl 0 0 rows.length),[.lst n rows]):=by
 simp[leave,fE,fM,vW,QN,LX,aYN,aE4,aYM,hh,oR,vX,aYP,cL,QP,CY,eG,m7,dN,pQ,ren,CW]
structure CloneSh(P:Program)(f:FuncId)(n by_:Nat) where
 fn:Func
 h:Hint
 q:Array Oper→List Nat→List G→Bool
 dr:G9 P q
 t:TypeId
 e:TypeId
 z:Row
 x:Code
 y:Code
 i0:Nat
 i1:Nat
 ops0:Array Oper
 o1:Oper
 o2:Oper
 hf:P.funcs[f]? =some fn
 hname:(fn.name== "runtime.NumGoroutine")=false
 hb:fn.body=some (.seq (.region i0 ops0 false) (.seq (.seq (.region i1 #[o1,o2] false) (.cond (.tmp 4) x .skip)) y))
 hn:fn.ntmps=8
 hr:fn.results= #[.tmp 2]
 hA:pE P 8 h q (.region i0 ops0 false)=some (.ops [(none, .mv 2 (.c (.one (.nls n))))] none)
 ho1:GJ P 8 h.md false #[o1,o2] o1=some (none, .mv 3 (.t 0))
 ho2:o2.op= .binOp .eql t (.tmp 3) (.const (.slice none 0 0)) t
 hd2:o2.dst=some 4
 hg2:o2.guard=none
 ht:P.underlying t=some (.slice e)
 hx:pE P 8 h q x=some (.seq (.ops [(none, .mv 2 (.c (.one (.nls n))))] none) .ret)
 hz:z.length=n
 hy:pE P 8 h q y=some (.seq (.ops [(none, .bsl 5 0 z []),(none, .mv 6 (.t 0)),(none, .app 7 by_ n (.t 5) (.t 6)),(none, .mv 2 (.t 7))] none) .ret)
theorem aZN{P:Program}{R:Rt}(hR:pF P R)(hord:RK P){f:FuncId}{n by_:Nat}(s:CloneSh P f n by_){p:Bool}{rows:List Row}(h1:rows.length*by_≤room)(h2:rows.length≤room):
  TC P f [.one (.imm p n rows)] [] (.one (.sl 0 0 rows.length)) [.lst n rows]:=by
 obtain⟨fn,h,q,dr,t,e,z,x,y,i0,i1,ops0,o1,o2,hf,hname,hb,hn,hr,hA,ho1,ho2,hd2,hg2,ht,hx,hz,hy⟩:=s;intro w ρ S us hent;have hdr:DrawSound P q:=⟨dr,hord⟩;have hsim:=hent.sim (N:=8) (by simp)
 have hS:qO 0 [SV.one (T.imm p n rows)]=[(0, .one (.imm p n rows))]:=rfl;have hN:dH []=0:=rfl;rw[hS,hN]at hsim;have fin: ∀(σ:St)(v:SV)(ρ1:Rho)(S1:Rds)(a1:Act)(w1:World),Sim w (wOf [] ρ) S ρ 0 8 ρ1 S1 σ a1 w1→bQ 2 σ.sl=some v→leave 0 σ [v]=some (.one (.sl 0 0 rows.length),[.lst n rows])→
   bodyPost P fn (fun| .returned u,w'=>Exit w (wOf [] ρ) S ρ (dH []) (.one (.sl 0 0 rows.length)) [.lst n rows] u w'|_,_=>False) .ret a1 w1:=by
  intro σ v ρ1 S1 a1 w1 hs hv hl;have hrs:I9 P 8 fn.results.toList=some [.tmp 2]:=by rw[hr];rfl
  obtain⟨us1,k1,k2,k3⟩:=HC (P:=P) hs fn.results.toList _ hrs [v] (by simp[eW,hv])
  refine⟨hs.defers,_,?_,hs.leave k2 k3 hl⟩;rw[HB];simp only[Array.mapM_eq_mapM_toList,Sem.run_bind,Sem.run_map,k1]
  match us1 with
  |[]=>rfl
  |[u]=>rfl
  |x::y::r=>rfl
 refine calls_of_wp hf hb ?_;rw[hn];refine wp_seq (wp_mono (JJ hR hdr (n:=1) _ _ hA _ _ _ _ _ (.nor ⟨yR p n rows,[]⟩) hsim (by simp only[fT,d9,kN,K.run,K.exec,St.ev,Option.bind_some,setD,K.dst,St.set,trim,yR])) fun ex a1 w1 hp=>?_)
 cases ex with
 |normal=>
  obtain⟨σ1,ρ1,S1,e1,hs1⟩:=hp;obtain rfl:=Out.nor.inj e1;refine wp_seq (wp_seq (wp_region ?_));show wpOps P #[o1,o2] _ [0,1] a1 w1
  simp only[wpOps];refine P9 hR hs1 ho1 (σ':=⟨(3, .one (.imm p n rows))::yR p n rows,[]⟩) (by simp[kN,K.run,K.exec,St.ev,setD,K.dst,St.set,bQ,yR]) fun ρ2 S2 a2 w2 hs2=>?_
  have h3:RS ρ2 w2 S2 (.one (.imm p n rows)) (a2.tmps.getD 3 undef):=(hs2.slots 3 _ (by simp[bQ])).2
  have hval: ∃ad l c,a2.tmps.getD 3 undef= .slice ad l c∧(ad.isNone=true→rows=[]):=by
   generalize a2.tmps.getD 3 undef=v at h3;cases h3 with
   |one h=>cases h with
    |ri h=>cases h with
     |nil=>exact⟨_,_,_,rfl,fun _=>rfl⟩
     |imm=>exact⟨_,_,_,rfl,fun h=>by simp at h⟩
  obtain⟨ad,l,c,hv,hnil⟩:=hval;have hdo:lU P w (wOf [] ρ) S ρ 0 8 ⟨(3, .one (.imm p n rows))::yR p n rows,[]⟩ a2 w2 o2 (.one (B ad.isNone)) []:=by
   refine eQ hs2 (u:= .bool ad.isNone) ?_ .bool;simp only[execOp,ho2,Sem.run_bind];have e3:a2.eval (.tmp 3)= .slice ad l c:=hv;have e4:a2.eval (.const (.slice none 0 0))= .slice none 0 0:=rfl;rw[e3,e4];have hg:(eqGuard .eql t (.tmp 3) (.const (.slice none 0 0)) (.slice ad l c) (.slice none 0 0)).run P w2= .ok () w2:=rfl;have he:(Op.equal t (.slice ad l c) (.slice none 0 0)).run P w2= .ok ad.isNone w2:=aIC w2 9999 t e ad l c ht;simp[Go.binOp,he,hg]
  have hwant:Region.wanted o2 (yielded #[o1,o2] a2.tmps):=by simp[Region.wanted,hg2]
  show if Region.wanted o2 (yielded #[o1,o2] a2.tmps)then _ else _
  rw[if_pos hwant];refine .inl (OpDone.of_does hs2 hd2 (by decide) hdo _ _ fun ρ3 S3 a3 w3 hs3=>?_)
  have hc:a3.eval (.tmp 4)= .bool ad.isNone:=lI (hs3.slots 4 (.one (B ad.isNone)) (by simp[setD,St.set,bQ])).2 rfl
  show(Code.cond (.tmp 4) x .skip).wp P _ a3 w3
  refine wp_cond hc ?_;cases hb:ad.isNone with
  |true=>
   rw[hb]at hs3;simp only[if_true];refine wp_mono (JJ hR hdr (n:=1) _ _ hx _ _ _ _ _ _ hs3 (bQ7 R)) fun ex a4 w4 hp4=>?_
   cases ex with
   |ret=>
    obtain⟨σ4,ρ4,S4,e4,hs4⟩:=hp4;obtain rfl:=Out.ret.inj e4;have:=hnil hb;subst this;exact fin _ (.one (.nls n)) ρ4 S4 a4 w4 hs4 (by simp[bQ]) (aVL rfl)
   |normal=>obtain⟨_,_,_,e4,_⟩:=hp4;simp at e4
   |exit id=>obtain⟨_,_,_,e4,_⟩:=hp4;simp at e4
   |goto l=>exact hp4.elim
   |panic ch=>exact hp4.elim
   |outgrown=>exact hp4.elim
  |false=>
   rw[hb]at hs3;refine wp_skip ?_;show y.wp P _ a3 w3
   refine wp_mono (JJ hR hdr (n:=1) _ _ hy _ _ _ _ _ _ hs3 (bQ8 R hz h1 h2)) fun ex a4 w4 hp4=>?_
   cases ex with
   |ret=>
    obtain⟨σ4,ρ4,S4,e4,hs4⟩:=hp4;obtain rfl:=Out.ret.inj e4;exact fin _ (.one (.sl 1 0 rows.length)) ρ4 S4 a4 w4 hs4 (by simp[bQ]) (aVM rfl)
   |normal=>obtain⟨_,_,_,e4,_⟩:=hp4;simp at e4
   |exit id=>obtain⟨_,_,_,e4,_⟩:=hp4;simp at e4
   |goto l=>exact hp4.elim
   |panic ch=>exact hp4.elim
   |outgrown=>exact hp4.elim
 |exit id=>obtain⟨_,_,_,e1,_⟩:=hp;simp at e1
 |ret=>obtain⟨_,_,_,e1,_⟩:=hp;simp at e1
 |goto l=>exact hp.elim
 |panic ch=>exact hp.elim
 |outgrown=>exact hp.elim
def ZS(n by_:Nat):List SV→List Blk→Option (SV×List Blk)
 |[.one (.imm _ m rows)],[]=>if m=n∧rows.length*by_≤room∧rows.length≤room then some (.one (.sl 0 0 rows.length),[.lst n rows])else none
 |_,_=>none
def GQ:List (FuncId×Nat×Nat)→Rt
 |[],_,_,_=>none
 |(g,n,b)::r,f,args,hp=>if g=f then ZS n b args hp else GQ r f args hp
theorem bAI(P:Program):L8 P (GQ []):=fun _ _ _ _ _ h=>by simp[GQ]at h
theorem aFS{P:Program}(hm:P.follows .mixedOrders=true){f:FuncId}{n by_:Nat}(s:CloneSh P f n by_){r:List (FuncId×Nat×Nat)}(hr:L8 P (GQ r)):L8 P (GQ ((f,n,by_)::r)):=fun g args hp res hp' h=>by
 unfold GQ at h;split at h
 ·rename_i e;subst e;unfold ZS at h;split at h
  ·rename_i p m rows;obtain⟨⟨rfl,h1,h2⟩,h3⟩:=cC h;simp only[Option.some.injEq,Prod.mk.injEq]at h3;obtain⟨rfl,rfl⟩:=h3;exact⟨⟨_,_,s.hf,s.hb,s.hname⟩,aZN (aFP P) (X4 hm) s h1 h2⟩
  ·simp at h
 ·exact hr g args hp res hp' h
end Go.Zq

namespace Go.Zq
open Go
def b8C:List SV→SV
 |[v]=>v
 |vs=> .tup vs
section
variable{R:Rt}{nb n:Nat}{x y:C}{σ σ1:St}{id:Nat}
end
end Go.Zq

namespace Go.Zq
open Option renaming bind_eq_some_iff → qB
open Option.some renaming injEq → qI
open Prod.mk renaming injEq → qP
open Go
theorem bI{a b:Bool}(h:(a&&b)=true):a=true∧b=true:=by simpa using h
def MC:List Src→Nat→Nat→Nat→Nat→Option (Nat×Bool)
 |[],_,_,_,_=>none
 | .lst id o l::r,k,j,off,len=>if id=j then some (k,decide (o=off)&&decide (l=len))else MC r (k+1) j off len
 |_::r,k,j,off,len=>MC r (k+1) j off len
theorem FC: ∀{l:List Src}{k j off len n:Nat},MC l k j off len=some (n,true)→CW l k j off len=some n
 |[],k,j,off,len,n,h=>by simp[MC]at h
 | .lst id o l::r,k,j,off,len,n,h=>by
   simp only[MC]at h;simp only[CW];split at h
   ·rename_i e;simp only[qI,qP,Bool.and_eq_true,decide_eq_true_eq]at h;rw[if_pos ⟨e,h.2.1,h.2.2⟩,h.1]
   ·rename_i e;rw[if_neg (fun x=>e x.1)]
    exact FC h
 | .box _ _ _::r,k,j,off,len,n,h=>FC (l:=r) h
 | .nil _::r,k,j,off,len,n,h=>FC (l:=r) h
def PO(src:List Src)(m:Nat):T→Option ((T×Nat)×Bool)
 | .lit v=>some ((.lit v,m),true)
 | .nls _=>(aE5 src 0 m).bind fun k=>some ((.sl k 0 0,m+1),true)
 | .sl id off len=>(MC src 0 id off len).bind fun k=>some ((.sl k.1 0 len,m),k.2)
 | .imm p n rows=>some ((.imm p n rows,m),true)
 | .clo f caps=>(I6 src caps).bind fun caps=>some ((.clo f caps,m),true)
 | .ptr id row off=>(ZD src (.ptr id row off)).bind fun t=>some ((t,m),true)
 | .ip _=>none
theorem QA{src:List Src}{m:Nat}{t:T}{r:T×Nat}(h:PO src m t=some (r,true)):ren src m t=some r:=by
 cases t with
 |lit v=>simpa [PO,ren]using h
 |nls n=>
  simp only[PO,qB,qI,qP,and_true]at h;obtain⟨k,hk,rfl⟩:=h;simp[ren,hk]
 |sl id off len=>
  simp only[PO,qB,qI,qP]at h;obtain⟨k,hk,rfl,h2⟩:=h;have:=FC (n:=k.1) (by rw[hk,←h2])
  simp[ren,this]
 |imm p n rows=>simpa [PO,ren]using h
 |clo f caps=>
  simp only[PO,qB,qI,qP,and_true]at h;obtain⟨k,hk,rfl⟩:=h;simp[ren,hk]
 |ptr id row off=>
  simp only[PO,qB,qI,qP,and_true]at h;obtain⟨k,hk,rfl⟩:=h;simp[ren,hk]
 |ip _=>simp[PO]at h
def x7(src:List Src)(m:Nat):Row→Option ((Row×Nat)×Bool)
 |[]=>some (([],m),true)
 |t::r=>(PO src m t).bind fun x=>(x7 src x.1.2 r).bind fun y=>some ((x.1.1::y.1.1,y.1.2),x.2&&y.2)
theorem v8{src:List Src}: ∀{m:Nat}{t:Row}{r:Row×Nat},x7 src m t=some (r,true)→rY src m t=some r
 |m,[],r,h=>by simpa [x7,rY]using h
 |m,t::s,r,h=>by
  simp only[x7,qB,qI,qP]at h;obtain⟨x,hx,y,hy,rfl,ho⟩:=h;obtain⟨o1,o2⟩:=bI ho;have h1:=QA (r:=x.1) (by rw[hx,←o1])
  have h2:=v8 (r:=y.1) (by rw[hy,←o2])
  simp[rY,h1,h2]
def A8(wm:Bool)(hp:List Blk):T→Option (List Row×Bool)
 | .nls _=>some ([],true)
 | .imm _ _ rows=>some (rows,true)
 | .sl id off len=>
   match hp[id]? with
   |some (.lst _ rows)=>if wm=true then some (rows,decide (off=0)&&decide (len=rows.length))else some ((rows.drop off).take len,decide (off+len≤rows.length))
   |_=>none
 |_=>none
theorem v9{wm:Bool}{hp:List Blk}{t:T}{r:List Row}(h:A8 wm hp t=some (r,true)):dN hp t=some r:=by
 unfold A8 at h;unfold dN;split at h
 ·simpa using h
 ·simpa using h
 ·split at h
  ·rename_i hb;simp only[hb];split at h
   ·simp only[qI,qP,Bool.and_eq_true,decide_eq_true_eq]at h;obtain⟨rfl,rfl,rfl⟩:=h;simp
   ·simp only[qI,qP,decide_eq_true_eq]at h;rw[if_pos h.2,h.1]
  ·simp at h
 ·simp at h
def GR(wm:Bool)(hp:List Blk)(src:List Src):T→Option (T×Bool)
 | .lit v=>some (.lit v,true)
 | .nls n=>some (.imm false n [],true)
 | .imm p n rows=>some (.imm p n rows,true)
 | .sl id off len=>(m7 hp (.sl id off len)).bind fun n=>(A8 wm hp (.sl id off len)).bind fun rows=>if src.all (aHQ id)then some (.imm false n rows.1,rows.2)else none
 | .clo f caps=>(I6 src caps).bind fun caps=>some (.clo f caps,true)
 | .ptr id row off=>(ZD src (.ptr id row off)).bind fun t=>some (t,true)
 | .ip _=>none
theorem aFT{wm:Bool}{hp:List Blk}{src:List Src}{t r:T}(h:GR wm hp src t=some (r,true)):CX hp src t=some r:=by
 cases t with
 |lit v=>simpa [GR,CX]using h
 |nls n=>simpa [GR,CX]using h
 |sl id off len=>
  simp only[GR,qB]at h;obtain⟨n,hn,rows,hr,h⟩:=h;split at h
  ·rename_i e;simp only[qI,qP]at h;have:=v9 (r:=rows.1) (by rw[hr,←h.2])
   simp[CX,hn,this,e,h.1]
  ·simp at h
 |imm p n rows=>simpa [GR,CX]using h
 |clo f caps=>
  simp only[GR,qB,qI,qP,and_true]at h;obtain⟨k,hk,rfl⟩:=h;simp[CX,hk]
 |ptr id row off=>
  simp only[GR,qB,qI,qP,and_true]at h;obtain⟨k,hk,rfl⟩:=h;simp[CX,hk]
 |ip _=>simp[GR]at h
def DA(wm:Bool)(hp:List Blk)(src:List Src):Row→Option (Row×Bool)
 |[]=>some ([],true)
 |t::r=>(GR wm hp src t).bind fun t=>(DA wm hp src r).bind fun r=>some (t.1::r.1,t.2&&r.2)
theorem OW{wm:Bool}{hp:List Blk}{src:List Src}: ∀{t r:Row},DA wm hp src t=some (r,true)→xV hp src t=some r
 |[],r,h=>by simpa [DA,xV]using h
 |t::s,r,h=>by
  simp only[DA,qB,qI,qP]at h;obtain⟨x,hx,y,hy,rfl,ho⟩:=h;obtain⟨o1,o2⟩:=bI ho;have h1:=aFT (r:=x.1) (by rw[hx,←o1])
  have h2:=OW (r:=y.1) (by rw[hy,←o2])
  simp[xV,h1,h2]
def nJ(wm:Bool)(hp:List Blk)(src:List Src):Nat→List Src→Option ((List Blk×Nat)×Bool)
 |m,[]=>some (([],m),true)
 |m,s::r=>
  match s with
  | .box id off n=>
    (x7 src m (tN hp (.box id off n))).bind fun x=>(nJ wm hp src x.1.2 r).bind fun y=>some ((.box x.1.1::y.1.1,y.1.2),x.2&&y.2)
  | .lst id off len=>
    (m7 hp (.sl id off len)).bind fun n=>(A8 wm hp (.sl id off len)).bind fun rows=>(nJ wm hp src m r).bind fun y=>some ((.lst n rows.1::y.1.1,y.1.2),rows.2&&y.2)
  | .nil n=>(nJ wm hp src m r).bind fun y=>some ((.lst n []::y.1.1,y.1.2),y.2)
theorem qD{wm:Bool}{hp:List Blk}{src:List Src}: ∀{l:List Src}{m:Nat}{r:List Blk×Nat},nJ wm hp src m l=some (r,true)→eG hp src m l=some r
 |[],m,r,h=>by simpa [nJ,eG]using h
 | .box id off n::s,m,r,h=>by
   simp only[nJ,qB,qI,qP]at h;obtain⟨x,hx,y,hy,rfl,ho⟩:=h;obtain⟨o1,o2⟩:=bI ho;have h1:=v8 (r:=x.1) (by rw[hx,←o1])
   have h2:=qD (r:=y.1) (by rw[hy,←o2])
   simp[eG,h1,h2]
 | .lst id off len::s,m,r,h=>by
   simp only[nJ,qB,qI,qP]at h;obtain⟨n,hn,x,hx,y,hy,rfl,ho⟩:=h;obtain⟨o1,o2⟩:=bI ho;have h1:=v9 (r:=x.1) (by rw[hx,←o1])
   have h2:=qD (r:=y.1) (by rw[hy,←o2])
   simp[eG,hn,h1,h2]
 | .nil n::s,m,r,h=>by
   simp only[nJ,qB,qI,qP]at h;obtain⟨y,hy,rfl,ho⟩:=h;have h2:=qD (r:=y.1) (by rw[hy,←ho])
   simp[eG,h2]
def qV(wm:Bool)(hp:List Blk)(src:List Src):Nat→List (SV×Nat×Bool)→Option (List SV×Bool)
 |_,[]=>some ([],true)
 |m,(v,_,mv)::r=>
  match v with
  | .one t=>
    if mv then(PO src m t).bind fun x=>(qV wm hp src x.1.2 r).bind fun r=>some (.one x.1.1::r.1,x.2&&r.2)
    else(GR wm hp src t).bind fun x=>(qV wm hp src m r).bind fun r=>some (.one x.1::r.1,x.2&&r.2)
  | .agg ts=>
    if mv then(x7 src m ts).bind fun x=>(qV wm hp src x.1.2 r).bind fun r=>some (.agg x.1.1::r.1,x.2&&r.2)
    else(DA wm hp src ts).bind fun x=>(qV wm hp src m r).bind fun r=>some (.agg x.1::r.1,x.2&&r.2)
  |_=>none
theorem qE{wm:Bool}{hp:List Blk}{src:List Src}: ∀{vs:List (SV×Nat×Bool)}{m:Nat}{r:List SV},qV wm hp src m vs=some (r,true)→lF hp src m vs=some r
 |[],m,r,h=>by simpa [qV,lF]using h
 |(v,n,mv)::s,m,r,h=>by
  unfold qV at h;unfold lF;split at h
  ·cases mv
   ·simp only[Bool.false_eq_true,if_false,qB,qI,qP]at h⊢;obtain⟨x,hx,y,hy,rfl,ho⟩:=h;obtain⟨o1,o2⟩:=bI ho;exact⟨x.1,aFT (by rw[hx,←o1]),y.1,qE (by rw[hy,←o2]),rfl⟩
   ·simp only[if_true,qB,qI,qP]at h⊢;obtain⟨x,hx,y,hy,rfl,ho⟩:=h;obtain⟨o1,o2⟩:=bI ho;exact⟨x.1,QA (by rw[hx,←o1]),y.1,qE (by rw[hy,←o2]),rfl⟩
  ·cases mv
   ·simp only[Bool.false_eq_true,if_false,qB,qI,qP]at h⊢;obtain⟨x,hx,y,hy,rfl,ho⟩:=h;obtain⟨o1,o2⟩:=bI ho;exact⟨x.1,OW (by rw[hx,←o1]),y.1,qE (by rw[hy,←o2]),rfl⟩
   ·simp only[if_true,qB,qI,qP]at h⊢;obtain⟨x,hx,y,hy,rfl,ho⟩:=h;obtain⟨o1,o2⟩:=bI ho;exact⟨x.1,v8 (by rw[hx,←o1]),y.1,qE (by rw[hy,←o2]),rfl⟩
  ·simp at h
def ZU:List Src→Nat→Nat→Nat→Option Bool
 |[],_,_,_=>none
 | .lst id o l::r,j,off,len=>if id=j then some (decide (o=off)&&decide (l=len))else ZU r j off len
 |_::r,j,off,len=>ZU r j off len
theorem FD: ∀{l:List Src}{j off len:Nat},ZU l j off len=some true→Src.lst j off len∈l
 |[],j,off,len,h=>by simp[ZU]at h
 | .lst id o l::r,j,off,len,h=>by
   simp only[ZU]at h;split at h
   ·rename_i e;simp only[qI,Bool.and_eq_true,decide_eq_true_eq]at h;rw[e,h.1,h.2];exact List.mem_cons_self ..
   ·exact List.mem_cons_of_mem _ (FD h)
 | .box _ _ _::r,j,off,len,h=>List.mem_cons_of_mem _ (FD (l:=r) h)
 | .nil _::r,j,off,len,h=>List.mem_cons_of_mem _ (FD (l:=r) h)
theorem FE: ∀{l:List Src}{j off len:Nat},ZU l j off len=none→Src.lst j off len∉l
 |[],j,off,len,h=>by simp
 | .lst id o l::r,j,off,len,h=>by
   simp only[ZU]at h;split at h
   ·simp at h
   ·rename_i e;simp only[List.mem_cons,Src.lst.injEq,not_or];exact⟨fun x=>e x.1.symm,FE h⟩
 | .box _ _ _::r,j,off,len,h=>by
   simp only[List.mem_cons,reduceCtorEq,false_or];exact FE (l:=r) h
 | .nil _::r,j,off,len,h=>by
   simp only[List.mem_cons,reduceCtorEq,false_or];exact FE (l:=r) h
def R0(l:List Src×Bool):T→List Src×Bool
 | .sl id off len=>match ZU l.1 id off len with
   |some b=>(l.1,b&&l.2)
   |none=>(l.1++[.lst id off len],l.2)
 | .nls n=>(l.1++[.nil n],l.2)
 |_=>l
theorem aZQ{l:List Src×Bool}{t:T}(h:(R0 l t).2=true):l.2=true∧(R0 l t).1=aE4 l.1 t:=by
 cases t with
 |sl id off len=>
  simp only[R0]at h⊢;cases hl:ZU l.1 id off len with
  |none=>
   simp only[hl]at h⊢;refine⟨h,?_⟩;simp only[aE4,aYM,FE hl,if_false]
  |some b=>
   simp only[hl]at h⊢;obtain⟨h1,h2⟩:=bI h;subst h1;refine⟨h2,?_⟩;simp only[aE4,aYM,FD hl,if_true]
 |_=>exact⟨h,rfl⟩
theorem MD: ∀{ts:Row}{l:List Src×Bool},(ts.foldl R0 l).2=true→l.2=true∧(ts.foldl R0 l).1=ts.foldl aE4 l.1
 |[],l,h=>⟨h,rfl⟩
 |t::r,l,h=>by
  rw[List.foldl_cons]at h;obtain⟨h1,h2⟩:=MD h;obtain⟨h3,h4⟩:=aZQ h1;refine⟨h3,?_⟩;rw[List.foldl_cons,h2,h4,List.foldl_cons]
def FF(hp:List Blk)(bx:List Src)(cells:Row):List Src×Bool:=
 let bx:=QN hp 6 0 bx
 let r:=cells.foldl R0 ((bx.flatMap (tN hp)).foldl R0 ([],true))
 (bx++r.1,r.2)
theorem HF{hp:List Blk}{bx:List Src}{cells:Row}(h:(FF hp bx cells).2=true):(FF hp bx cells).1=vW hp bx cells:=by
 unfold FF at h⊢;simp only at h⊢;obtain⟨h1,h2⟩:=MD h;obtain⟨-,h4⟩:=MD h1;rw[h2,h4];rfl
def ZV(wm:Bool)(hp:List Blk)(vs:List (SV×Nat×Bool)):Option (Ent×Bool):=
 let src:=FF hp (vs.foldl (fun l v=>(fE v.1).foldl (LX hp v.2.1) l) []) (vs.flatMap fun v=>if v.2.2 then fE v.1 else [])
 if oR hp src.1 then
  (nJ wm hp src.1 0 src.1).bind fun x=>(qV wm hp src.1 x.1.2 vs).bind fun args=>some (⟨args.1,x.1.1,src.1,vs.any yM⟩,src.2&&(x.2&&args.2))
 else none
theorem X5{wm:Bool}{hp:List Blk}{vs:List (SV×Nat×Bool)}{e:Ent}(h:ZV wm hp vs=some (e,true)):enter hp vs=some e:=by
 unfold ZV at h;simp only at h;split at h
 ·rename_i hs;simp only[qB,qI,qP]at h;obtain⟨x,hx,y,hy,rfl,ho⟩:=h;obtain⟨o1,ho⟩:=bI ho;obtain⟨o2,o3⟩:=bI ho;have hg:=HF o1;have h1:=qD (r:=x.1) (by rw[hx,←o2])
  have h2:=qE (r:=y.1) (by rw[hy,←o3])
  rw[hg]at hs h1 h2;unfold enter;simp only;rw[if_pos hs];simp only[h1,h2,Option.bind_some,hg]
 ·simp at h
def vN(src:List Src):Nat→List SV→Option (List SV×Bool)
 |_,[]=>some ([],true)
 |m, .one t::r=>(PO src m t).bind fun x=>(vN src x.1.2 r).bind fun r=>some (.one x.1.1::r.1,x.2&&r.2)
 |m, .agg ts::r=>(x7 src m ts).bind fun x=>(vN src x.1.2 r).bind fun r=>some (.agg x.1.1::r.1,x.2&&r.2)
 |_,_::_=>none
theorem HG{src:List Src}: ∀{vs:List SV}{m:Nat}{r:List SV},vN src m vs=some (r,true)→pQ src m vs=some r
 |[],m,r,h=>by simpa [vN,pQ]using h
 | .one t::s,m,r,h=>by
   simp only[vN,qB,qI,qP]at h;obtain⟨x,hx,y,hy,rfl,ho⟩:=h;obtain⟨o1,o2⟩:=bI ho;have h1:=QA (r:=x.1) (by rw[hx,←o1])
   have h2:=HG (r:=y.1) (by rw[hy,←o2])
   simp[pQ,h1,h2]
 | .agg t::s,m,r,h=>by
   simp only[vN,qB,qI,qP]at h;obtain⟨x,hx,y,hy,rfl,ho⟩:=h;obtain⟨o1,o2⟩:=bI ho;have h1:=v8 (r:=x.1) (by rw[hx,←o1])
   have h2:=HG (r:=y.1) (by rw[hy,←o2])
   simp[pQ,h1,h2]
 | .und::s,m,r,h=>by simp[vN]at h
 | .tup _::s,m,r,h=>by simp[vN]at h
def ZW(wm:Bool)(nb:Nat)(σ:St)(vs:List SV):Option ((SV×List Blk)×Bool):=
 let src:=FF σ.hp ((vs.flatMap fE).foldl (LX σ.hp 0) (fM σ.hp nb)) (vs.flatMap fE)
 if oR σ.hp src.1=true∧src.1.take nb=fM σ.hp nb then
  (nJ wm σ.hp src.1 0 src.1).bind fun x=>(vN src.1 x.1.2 vs).bind fun vs=>some ((b8C vs.1,x.1.1),src.2&&(x.2&&vs.2))
 else none
theorem X6{wm:Bool}{nb:Nat}{σ:St}{vs:List SV}{r:SV×List Blk}(h:ZW wm nb σ vs=some (r,true)):leave nb σ vs=some r:=by
 unfold ZW at h;simp only at h;split at h
 ·rename_i hs;simp only[qB,qI,qP]at h;obtain⟨x,hx,y,hy,rfl,ho⟩:=h;obtain⟨o1,ho⟩:=bI ho;obtain⟨o2,o3⟩:=bI ho;have hg:=HF o1;have h1:=qD (r:=x.1) (by rw[hx,←o2])
  have h2:=HG (r:=y.1) (by rw[hy,←o3])
  rw[hg]at hs h1 h2;unfold leave;simp only;rw[if_pos hs];simp only[h1,h2,Option.bind_some];rfl
 ·simp at h
def A9(σ:St)(src:List Src):Nat→List Nat→Option (List (Nat×SV)×Bool)
 |_,[]=>some ([],true)
 |m,s::r=>(bQ s σ.sl).bind fun v=>match v with
  | .one t=>(PO src m t).bind fun x=>(A9 σ src x.1.2 r).bind fun l=>some ((s, .one x.1.1)::l.1,x.2&&l.2)
  | .agg ts=>(x7 src m ts).bind fun x=>(A9 σ src x.1.2 r).bind fun l=>some ((s, .agg x.1.1)::l.1,x.2&&l.2)
  | .und=>(A9 σ src m r).bind fun l=>some ((s, .und)::l.1,l.2)
  |_=>none
theorem BA{σ:St}{src:List Src}: ∀{l:List Nat}{m:Nat}{r:List (Nat×SV)},A9 σ src m l=some (r,true)→lH σ src m l=some r
 |[],m,r,h=>by simpa [A9,lH]using h
 |s::t,m,r,h=>by
  simp only[A9,qB]at h;obtain⟨v,hv,h⟩:=h;simp only[lH,hv,Option.bind_some];split at h
  ·simp only[qB,qI,qP]at h⊢;obtain⟨x,hx,y,hy,rfl,ho⟩:=h;obtain⟨o1,o2⟩:=bI ho;exact⟨x.1,QA (by rw[hx,←o1]),y.1,BA (by rw[hy,←o2]),rfl⟩
  ·simp only[qB,qI,qP]at h⊢;obtain⟨x,hx,y,hy,rfl,ho⟩:=h;obtain⟨o1,o2⟩:=bI ho;exact⟨x.1,v8 (by rw[hx,←o1]),y.1,BA (by rw[hy,←o2]),rfl⟩
  ·simp only[qB,qI,qP]at h⊢;obtain⟨y,hy,rfl,ho⟩:=h;exact⟨y.1,BA (by rw[hy,←ho]),rfl⟩
  ·simp at h
def ME(wm:Bool)(nb:Nat)(live:List Nat)(σ:St):Option (St×Bool):=
 let src:=FF σ.hp ((nY σ live).foldl (LX σ.hp 0) (fM σ.hp nb)) (nY σ live)
 if oR σ.hp src.1=true∧src.1.take nb=fM σ.hp nb then
  (nJ wm σ.hp src.1 0 src.1).bind fun x=>(A9 σ src.1 x.1.2 live).bind fun sl=>some (⟨sl.1,x.1.1⟩,src.2&&(x.2&&sl.2))
 else none
theorem FG{wm:Bool}{nb:Nat}{live:List Nat}{σ σ':St}(h:ME wm nb live σ=some (σ',true)):canon nb live σ=some σ':=by
 unfold ME at h;simp only at h;split at h
 ·rename_i hs;simp only[qB,qI,qP]at h;obtain⟨x,hx,y,hy,rfl,ho⟩:=h;obtain⟨o1,ho⟩:=bI ho;obtain⟨o2,o3⟩:=bI ho;have hg:=HF o1;have h1:=qD (r:=x.1) (by rw[hx,←o2])
  have h2:=BA (r:=y.1) (by rw[hy,←o3])
  rw[hg]at hs h1 h2;unfold canon;simp only;rw[if_pos hs];simp only[h1,h2,Option.bind_some]
 ·simp at h
def aZR(hp:List Blk):T→Option Bool
 | .nls _=>some true
 | .sl id off len=>match hp[id]? with
   |some (.lst _ rows)=>some (decide (off+len=rows.length))
   |_=>none
 |_=>none
theorem aZS{hp:List Blk}{t:T}(h:aZR hp t=some true):QR hp t=true:=by
 unfold aZR at h;unfold QR;split at h
 ·rfl
 ·split at h
  ·rename_i hb;simp only[hb];simpa using h
  ·simp at h
 ·simp at h
def bJB(wm:Bool)(hp:List Blk)(by_ sz:Nat)(t s:T):Option ((SV×List Blk)×Bool):=
 (A8 wm hp t).bind fun xs=>(A8 wm hp s).bind fun ys=>(aZR hp t).bind fun tl=>
 if m7 hp t=some sz∧m7 hp s=some sz then
  some ((.one (.sl hp.length 0 (xs.1++ys.1).length),I7 hp t++[.lst sz (xs.1++ys.1)]),xs.2&&(ys.2&&(tl&&(decide ((xs.1.length+ys.1.length)*by_≤room)&&decide (xs.1.length+ys.1.length≤room)))))
 else none
theorem bAK{wm:Bool}{R:Zq.Rt}{ev:Ev}{hp:List Blk}{d by_ sz:Nat}{x y:Opd}{v u:SV}{t s:T}{r:SV×List Blk}(hx:ev x=some v)(ht:jH v=some t)(hy:ev y=some u)(hs:jH u=some s)(h:bJB wm hp by_ sz t s=some (r,true)):
  (K.app d by_ sz x y).exec R ev hp=some r:=by
 simp only[bJB,qB]at h;obtain⟨xs,h1,ys,h2,tl,h3,h⟩:=h;split at h
 ·rename_i hc;simp only[qI,qP,Bool.and_eq_true,decide_eq_true_eq]at h;obtain⟨rfl,o1,o2,o3,o4,o5⟩:=h;subst o3;have e1:=v9 (r:=xs.1) (by rw[h1,←o1])
  have e2:=v9 (r:=ys.1) (by rw[h2,←o2])
  simp only[K.exec,hx,ht,hy,hs,Option.bind_some,e1,e2];rw[if_pos ⟨aZS h3,hc.1,hc.2,o4,o5⟩]
 ·simp at h
def bAL(hp:List Blk):T→Option (Int×Bool)
 | .nls _=>some (0,true)
 | .imm _ _ rows=>some ((rows.length:Int),true)
 | .sl id off len=>match hp[id]? with
   |some (.lst _ rows)=>some ((len:Int),decide (off+len≤rows.length))
   |_=>none
 |_=>none
theorem aOQ{hp:List Blk}{t:T}{n:Int}(h:bAL hp t=some (n,true)): ∃rows,dN hp t=some rows∧(rows.length:Int)=n:=by
 unfold bAL at h;unfold dN;split at h
 ·simp only[qI,qP,and_true]at h;exact⟨[],rfl,by simp[←h]⟩
 ·simp only[qI,qP,and_true]at h;exact⟨_,rfl,h⟩
 ·split at h
  ·rename_i hb;simp only[qI,qP,decide_eq_true_eq]at h;refine⟨_,by simp only[hb];rw[if_pos h.2],?_⟩
   rw[←h.1,List.length_take,List.length_drop,Nat.min_eq_left (by omega)]
  ·simp at h
 ·simp at h
def bJC(hp:List Blk)(sz:Nat)(t:T)(n l h:Int):Option (T×Bool):=
 (match t with
   | .sl id off ln=>if m7 hp (.sl id off ln)=some sz then some (.sl id (off+l.toNat) (h.toNat-l.toNat))else none
   | .imm p m rows=>if m=sz then some (.imm p m ((rows.drop l.toNat).take (h.toNat-l.toNat)))else none
   | .nls m=>some (.nls m)
   |_=>none:Option T).map (·,decide (0≤l)&&(decide (l≤h)&&decide (h≤n)))
theorem bAM{hp:List Blk}{sz:Nat}{t r:T}{rows:List Row}{n l h:Int}(hn:(rows.length:Int)=n)(hc:bJC hp sz t n l h=some (r,true)):cut hp sz t rows l h=some r:=by
 simp only[bJC,Option.map_eq_some_iff,qP,Bool.and_eq_true,decide_eq_true_eq]at hc;obtain⟨x,hx,rfl,h1,h2,h3⟩:=hc;unfold cut;rw[if_pos ⟨h1,h2,by omega⟩]
 exact hx
def bJD(hp:List Blk)(by_:Nat)(z:Row)(n c:Int):(SV×List Blk)×Bool:=
 ((.one (.sl hp.length 0 n.toNat),hp++[.lst z.length (List.replicate n.toNat z)]),decide (0≤n)&&(decide (n≤c)&&(decide (c*by_≤room)&&decide (c≤room))))
theorem bAN{R:Zq.Rt}{ev:Ev}{hp:List Blk}{d by_:Nat}{z:Row}{n c:Opd}{v u:SV}{k k':IntKind}{nn cc:Int}{r:SV×List Blk}(hn:ev n=some v)(hv:vV v=some (k,nn))(hc:ev c=some u)(hu:vV u=some (k',cc))(h:bJD hp by_ z nn cc=(r,true)):
  (K.mks d by_ z n c).exec R ev hp=some r:=by
 simp only[bJD,qP,Bool.and_eq_true,decide_eq_true_eq]at h;obtain⟨rfl,h1,h2,h3,h4⟩:=h;simp only[K.exec,hn,hv,hc,hu,Option.bind_some];rw[if_pos ⟨h1,h2,h3,h4⟩]
def bJE(wm:Bool)(hp:List Blk)(sz:Nat)(t s:T):Option ((SV×List Blk)×Bool):=
 match t with
 | .sl id off len=>match hp[id]? with
   |some (.lst n rows)=>(A8 wm hp s).bind fun ys=>if n=sz∧m7 hp s=some sz then
     some ((.one (I (min ys.1.length len:Nat)),hp.set id (.lst n (rows.take off++(ys.1.take (min ys.1.length len)++rows.drop (off+min ys.1.length len))))),ys.2&&decide (off+len≤rows.length))
    else none
   |_=>none
 |_=>none
theorem bAO{R:Zq.Rt}{ev:Ev}{wm:Bool}{hp:List Blk}{d sz:Nat}{x y:Opd}{v u:SV}{t s:T}{r:SV×List Blk}(hx:ev x=some v)(ht:jH v=some t)(hy:ev y=some u)(hs:jH u=some s)(h:bJE wm hp sz t s=some (r,true)):
  (K.cpy d sz x y).exec R ev hp=some r:=by
 unfold bJE at h;split at h
 ·split at h
  ·rename_i id off len _ n rows hb;simp only[qB]at h;obtain⟨ys,h1,h⟩:=h;split at h
   ·rename_i hc;simp only[qI,qP,Bool.and_eq_true,decide_eq_true_eq]at h;obtain⟨rfl,o1,o2⟩:=h;have e1:=v9 (r:=ys.1) (by rw[h1,←o1])
    have e2:dN hp (.sl id off len)=some ((rows.drop off).take len):=by
     simp only[dN,hb];rw[if_pos o2]
    have e3:((rows.drop off).take len).length=len:=by
     rw[List.length_take,List.length_drop];omega
    simp only[K.exec,hx,ht,hy,hs,Option.bind_some,e1,e2,hb,e3];rw[if_pos hc]
   ·simp at h
  ·simp at h
 ·simp at h
def bJF(hp:List Blk)(sz:Nat)(z:Row)(t:T):Option ((SV×List Blk)×Bool):=
 match t with
 | .sl id off len=>match hp[id]? with
   |some (.lst n rows)=>if n=sz then
     some ((.tup [],hp.set id (.lst n (rows.take off++(List.replicate len z++rows.drop (off+len))))),decide (off+len≤rows.length))
    else none
   |_=>none
 |_=>none
theorem bAP{R:Zq.Rt}{ev:Ev}{hp:List Blk}{sz:Nat}{z:Row}{x:Opd}{v:SV}{t:T}{r:SV×List Blk}(hx:ev x=some v)(ht:jH v=some t)(h:bJF hp sz z t=some (r,true)):
  (K.clr sz z x).exec R ev hp=some r:=by
 unfold bJF at h;split at h
 ·split at h
  ·rename_i id off len _ n rows hb;split at h
   ·rename_i hc;simp only[qI,qP,decide_eq_true_eq]at h;obtain⟨rfl,o2⟩:=h;simp only[K.exec,hx,ht,Option.bind_some,hb];rw[if_pos ⟨hc,o2⟩]
   ·simp at h
  ·simp at h
 ·simp at h
end Go.Zq

namespace Go.Zq
open Option renaming bind_eq_some_iff → qB
open Option.some renaming injEq → qI
open Prod.mk renaming injEq → qP
open Option renaming map_eq_some_iff → q_c
open Go
abbrev Qt:=FuncId→List SV→List Blk→Option ((SV×List Blk)×Bool)
def Qt.val(Q:Qt):Rt:=fun f a h=>(Q f a h).map (·.1)
def X7(R:Rt)(Q:Qt):Prop:= ∀f a h r,Q f a h=some (r,true)→R f a h=some r
def aID(b:Bool):Value→Value→Option Value
 | .int k x, .int k' y=>if k=k' then some (.int k (bif b then x else y))else none
 | .bool x, .bool y=>some (.bool (bif b then x else y))
 | .string x, .string y=>some (.string (bif b then x else y))
 |_,_=>none
def ZX(b:Bool):T→T→Option T
 | .lit v, .lit u=>(aID b v u).bind fun v=>some (.lit v)
 | .ptr i r o, .ptr i' r' o'=>if i=i'∧r=r'∧o=o' then some (.ptr i r o)else none
 | .sl i o l, .sl i' o' l'=>if i=i'∧o=o' then some (.sl i o (bif b then l else l'))else none
 | .nls n, .nls n'=>if n=n' then some (.nls n)else none
 | .imm p n rows, .imm p' n' rows'=>if p=p'∧n=n' then some (.imm p n (bif b then rows else rows'))else none
 |_,_=>none
def tR(b:Bool):Row→Row→Option Row
 |[],[]=>some []
 |x::r,y::s=>(ZX b x y).bind fun z=>(tR b r s).bind fun t=>some (z::t)
 |_,_=>none
def QB(b:Bool):SV→SV→Option SV
 | .und, .und=>some .und
 | .one t, .one u=>(ZX b t u).bind fun t=>some (.one t)
 | .agg ts, .agg us=>(tR b ts us).bind fun ts=>some (.agg ts)
 |_,_=>none
def wA(b:Bool):List SV→List SV→Option (List SV)
 |[],[]=>some []
 |x::r,y::s=>(QB b x y).bind fun z=>(wA b r s).bind fun t=>some (z::t)
 |_,_=>none
def BB(b:Bool):SV→SV→Option SV
 | .tup vs, .tup us=>(wA b vs us).bind fun vs=>some (.tup vs)
 |v,u=>QB b v u
def R1(b:Bool):Blk→Blk→Option Blk
 | .dead, .dead=>some .dead
 | .box cs, .box ds=>(tR b cs ds).bind fun cs=>some (.box cs)
 | .lst n rows, .lst n' rows'=>if n=n' then some (.lst n (bif b then rows else rows'))else none
 |_,_=>none
def x8(b:Bool):List Blk→List Blk→Option (List Blk)
 |[],[]=>some []
 |x::r,y::s=>(R1 b x y).bind fun z=>(x8 b r s).bind fun t=>some (z::t)
 |_,_=>none
theorem aVN{b:Bool}{v u w:Value}(h:aID b v u=some w):w=bif b then v else u:=by
 unfold aID at h;split at h
 ·split at h
  ·rename_i k x k' y e;subst e;cases b<;>simp_all
  ·simp at h
 ·cases b<;>simp_all
 ·cases b<;>simp_all
 ·simp at h
theorem X8{b:Bool}{v u w:T}(h:ZX b v u=some w):w=bif b then v else u:=by
 unfold ZX at h;split at h
 ·simp only[qB,qI]at h;obtain⟨z,hz,rfl⟩:=h;rw[aVN hz];cases b<;>rfl
 ·split at h
  ·rename_i e;obtain⟨rfl,rfl,rfl⟩:=e;cases b<;>simp_all
  ·simp at h
 ·split at h
  ·rename_i e;obtain⟨rfl,rfl⟩:=e;cases b<;>simp_all
  ·simp at h
 ·split at h
  ·rename_i e;subst e;cases b<;>simp_all
  ·simp at h
 ·split at h
  ·rename_i e;obtain⟨rfl,rfl⟩:=e;cases b<;>simp_all
  ·simp at h
 ·simp at h
theorem DB{b:Bool}: ∀{v u w:Row},tR b v u=some w→w=bif b then v else u
 |[],[],w,h=>by cases b<;>simp_all [tR]
 |x::r,y::s,w,h=>by
  simp only[tR,qB,qI]at h;obtain⟨z,hz,t,ht,rfl⟩:=h;rw[X8 hz,DB ht];cases b<;>rfl
 |[],_::_,w,h=>by simp[tR]at h
 |_::_,[],w,h=>by simp[tR]at h
theorem R2{b:Bool}{v u w:SV}(h:QB b v u=some w):w=bif b then v else u:=by
 unfold QB at h;split at h
 ·cases b<;>simp_all
 ·simp only[qB,qI]at h;obtain⟨z,hz,rfl⟩:=h;rw[X8 hz];cases b<;>rfl
 ·simp only[qB,qI]at h;obtain⟨z,hz,rfl⟩:=h;rw[DB hz];cases b<;>rfl
 ·simp at h
theorem OX{b:Bool}: ∀{v u w:List SV},wA b v u=some w→w=bif b then v else u
 |[],[],w,h=>by cases b<;>simp_all [wA]
 |x::r,y::s,w,h=>by
  simp only[wA,qB,qI]at h;obtain⟨z,hz,t,ht,rfl⟩:=h;rw[R2 hz,OX ht];cases b<;>rfl
 |[],_::_,w,h=>by simp[wA]at h
 |_::_,[],w,h=>by simp[wA]at h
theorem BC{b:Bool}{v u w:SV}(h:BB b v u=some w):w=bif b then v else u:=by
 unfold BB at h;split at h
 ·simp only[qB,qI]at h;obtain⟨z,hz,rfl⟩:=h;rw[OX hz];cases b<;>rfl
 ·exact R2 h
theorem aFU{b:Bool}{v u w:Blk}(h:R1 b v u=some w):w=bif b then v else u:=by
 unfold R1 at h;split at h
 ·cases b<;>simp_all
 ·simp only[qB,qI]at h;obtain⟨z,hz,rfl⟩:=h;rw[DB hz];cases b<;>rfl
 ·split at h
  ·rename_i e;subst e;cases b<;>simp_all
  ·simp at h
 ·simp at h
theorem BD{b:Bool}: ∀{v u w:List Blk},x8 b v u=some w→w=bif b then v else u
 |[],[],w,h=>by cases b<;>simp_all [x8]
 |x::r,y::s,w,h=>by
  simp only[x8,qB,qI]at h;obtain⟨z,hz,t,ht,rfl⟩:=h;rw[aFU hz,BD ht];cases b<;>rfl
 |[],_::_,w,h=>by simp[x8]at h
 |_::_,[],w,h=>by simp[x8]at h
def bJG(o:BinOp):Value→Value→Option (Value×Bool)
 | .int k x, .int k' y=>
   match o with
   | .shl=>some (.int k (k.wrap (x*2^min y.toNat k.bits)),decide (0≤y))
   | .shr=>some (.int k (x.fdiv (2^min y.toNat k.bits)),decide (0≤y))
   | .quo=>if k=k' then some (.int k (k.wrap (x.tdiv y)),y !=0)else none
   | .rem=>if k=k' then some (.int k (x.tmod y),y !=0)else none
   |o=>if k=k' then(LV o k x y).map (·,true)else none
 |v,u=>(LW o v u).map (·,true)
theorem bAQ{o:BinOp}{v u r:Value}(h:bJG o v u=some (r,true)):LW o v u=some r:=by
 unfold bJG at h;split at h
 ·rename_i k x k' y;split at h
  ·simp only[qI,qP,decide_eq_true_eq]at h;obtain⟨rfl,hy⟩:=h;simp[LW,show¬y<0 by omega]
  ·simp only[qI,qP,decide_eq_true_eq]at h;obtain⟨rfl,hy⟩:=h;simp[LW,show¬y<0 by omega]
  ·split at h
   ·simp only[qI,qP,bne_iff_ne,ne_eq]at h;obtain⟨rfl,hy⟩:=h
    simp_all [LW,LV]
   ·simp at h
  ·split at h
   ·simp only[qI,qP,bne_iff_ne,ne_eq]at h;obtain⟨rfl,hy⟩:=h
    simp_all [LW,LV]
   ·simp at h
  ·split at h
   ·simp only[q_c,qP,and_true]at h;obtain⟨r',hr,rfl⟩:=h;rename_i hk _ _ _ _;cases o<;>simp_all [LW]
   ·simp at h
 ·simp only[q_c,qP,and_true]at h;obtain⟨r',hr,rfl⟩:=h;exact hr
def X9(hp:List Blk):T→Option (T×Bool)
 | .lit v=>some (.lit v,true)
 | .nls n=>some (.nls n,true)
 | .imm p n rows=>some (.imm p n rows,true)
 | .sl id off len=>match hp[id]? with
   |some (.lst n rows)=>if off=0 then some (.imm true n rows,decide (len=rows.length))else none
   |_=>none
 |_=>none
theorem aFV{hp:List Blk}{t r:T}(h:X9 hp t=some (r,true)):LY hp t=some r:=by
 cases t with
 |sl id off len=>
  simp only[X9]at h;split at h
  ·rename_i n rows hb;split at h
   ·rename_i e;subst e;simp only[qI,qP,decide_eq_true_eq]at h;obtain⟨rfl,rfl⟩:=h;simp[LY,m7,dN,hb]
   ·simp at h
  ·simp at h
 |lit|nls|imm=>simp only[X9,qI,qP,and_true]at h;rw[←h];rfl
 |ptr|ip|clo=>simp[X9]at h
def JP(hp:List Blk):Row→Option (Row×Bool)
 |[]=>some ([],true)
 |t::r=>(X9 hp t).bind fun t=>(JP hp r).bind fun r=>some (t.1::r.1,t.2&&r.2)
theorem R3{hp:List Blk}: ∀{t r:Row},JP hp t=some (r,true)→G2 hp t=some r
 |[],r,h=>by simp only[JP,qI,qP,and_true]at h;subst h;rfl
 |t::s,r,h=>by
  simp only[JP,qB,qI,qP]at h;obtain⟨x,hx,y,hy,rfl,ho⟩:=h;obtain⟨o1,o2⟩:=bI ho;simp only[G2,aFV (r:=x.1) (by rw[hx,←o1]),Option.bind_some,R3 (r:=y.1) (by rw[hy,←o2])]
def HH(hp:List Blk):SV→Option (SV×Bool)
 | .one t=>(X9 hp t).bind fun t=>some (.one t.1,t.2)
 | .agg ts=>(JP hp ts).bind fun ts=>some (.agg ts.1,ts.2)
 |_=>none
theorem FH{hp:List Blk}{t r:SV}(h:HH hp t=some (r,true)):CI hp t=some r:=by
 cases t with
 |one t=>
  simp only[HH,qB,qI,qP]at h;obtain⟨x,hx,rfl,ho⟩:=h;simp only[CI,aFV (r:=x.1) (by rw[hx,←ho]),Option.bind_some]
 |agg t=>
  simp only[HH,qB,qI,qP]at h;obtain⟨x,hx,rfl,ho⟩:=h;simp only[CI,R3 (r:=x.1) (by rw[hx,←ho]),Option.bind_some]
 |und=>simp[HH]at h
 |tup=>simp[HH]at h
def JQ(hp:List Blk):List SV→Option (List SV×Bool)
 |[]=>some ([],true)
 |t::r=>(HH hp t).bind fun t=>(JQ hp r).bind fun r=>some (t.1::r.1,t.2&&r.2)
theorem R4{hp:List Blk}: ∀{t r:List SV},JQ hp t=some (r,true)→G3 hp t=some r
 |[],r,h=>by simp only[JQ,qI,qP,and_true]at h;subst h;rfl
 |t::s,r,h=>by
  simp only[JQ,qB,qI,qP]at h;obtain⟨x,hx,y,hy,rfl,ho⟩:=h;obtain⟨o1,o2⟩:=bI ho;simp only[G3,FH (r:=x.1) (by rw[hx,←o1]),Option.bind_some,R4 (r:=y.1) (by rw[hy,←o2])]
def aIE(hp:List Blk):SV→Option (SV×Bool)
 | .tup vs=>(JQ hp vs).bind fun vs=>some (.tup vs.1,vs.2)
 |v=>HH hp v
theorem aVO{hp:List Blk}{t r:SV}(h:aIE hp t=some (r,true)):OL hp t=some r:=by
 cases t with
 |tup vs=>
  simp only[aIE,qB,qI,qP]at h;obtain⟨x,hx,rfl,ho⟩:=h;simp only[OL,R4 (r:=x.1) (by rw[hx,←ho]),Option.bind_some]
 |one t=>exact FH (hp:=hp) (t:= .one t) h
 |agg t=>exact FH (hp:=hp) (t:= .agg t) h
 |und=>exact FH (hp:=hp) (t:= .und) h
noncomputable def dQ(R:Rt):Rt:=fun f a h=>if f<100000 then R f a h else(R (f-100000) a h).bind fun r=>(OL r.2 r.1).bind fun v=>some (v,[])
theorem HI{R:Rt}{f:FuncId}(h:f<100000){a:List SV}{hp:List Blk}:dQ R f a hp=R f a hp:=by simp only[dQ];rw[if_pos h]
theorem aZT{R:Rt}{f:FuncId}{a:List SV}{hp:List Blk}:dQ R (f+100000) a hp=(R f a hp).bind fun r=>(OL r.2 r.1).bind fun v=>some (v,[]):=by
 simp only[dQ];rw[if_neg (Nat.not_lt.2 (Nat.le_add_left 100000 f))];exact congrArg (fun g=>(R g a hp).bind fun r=>(OL r.2 r.1).bind fun v=>some (v,[])) (Nat.add_sub_cancel (n:=f) (m:=100000))
def AD(Q:Qt)(wm:Bool)(hp:List Blk)(pu:Bool)(f:FuncId)(vs:List (SV×Nat×Bool)):Option ((SV×List Blk)×Bool):=
 if pu=true then
  (qV wm hp [] 0 vs).bind fun args=>(Q (f+100000) args.1 []).bind fun r=>
  if vs.any yM=false∨tO r.1.1=true then some ((r.1.1,hp),args.2&&r.2)else none
 else if f<100000 then
  (ZV wm hp vs).bind fun e=>(Q f e.1.args e.1.hp).bind fun r=>(aU4 hp e.1 r.1.1 r.1.2).bind fun x=>some (x,e.2&&r.2)
 else none
theorem DC{R:Rt}{Q:Qt}(hQ:X7 (dQ R) Q){wm:Bool}{hp:List Blk}{pu:Bool}{f:FuncId}{vs:List (SV×Nat×Bool)}{r:SV×List Blk}(h:AD Q wm hp pu f vs=some (r,true)):lG R hp pu f vs=some r:=by
 unfold AD at h;unfold lG;split at h
 ·rename_i hpu;rw[if_pos hpu];simp only[qB]at h⊢;obtain⟨args,h1,q,hq,h⟩:=h;split at h
  ·rename_i hc;simp only[qI,qP]at h;obtain⟨rfl,ho⟩:=h;obtain⟨o1,o2⟩:=bI ho;have hR:=hQ _ _ _ q.1 (by rw[hq,←o2])
   rw[aZT]at hR;simp only[qB,qI]at hR;obtain⟨r,hr,v,hv,e⟩:=hR;refine⟨args.1,qE (by rw[h1,←o1]),r,hr,v,hv,?_⟩
   rw[←e]at hc;rw[if_pos hc,←e]
  ·simp at h
 ·rename_i hpu;rw[if_neg hpu];split at h
  ·rename_i hf;simp only[qB,qI,qP]at h⊢;obtain⟨e,h1,q,hq,x,hx,rfl,ho⟩:=h;obtain⟨o1,o2⟩:=bI ho;have hR:=hQ _ _ _ q.1 (by rw[hq,←o2])
   rw[HI hf]at hR;exact⟨e.1,X5 (by rw[h1,←o1]),q.1,hR,hx⟩
  ·simp at h
def R5(Q:Qt)(wm:Bool)(hp:List Blk)(f:FuncId)(vs:List (SV×Nat×Bool)):Option ((SV×List Blk)×Bool):=
 if f<100000 then
  (ZV wm hp vs).bind fun e=>(Q f e.1.args e.1.hp).bind fun r=>(aU4 hp e.1 r.1.1 r.1.2).bind fun x=>
    some ((x.1,stay e.1.src hp.length (cL e.1.src+1) (stay e.1.src hp.length (cL e.1.src) x.2)),e.2&&r.2)
 else none
theorem R6{R:Rt}{Q:Qt}(hQ:X7 (dQ R) Q){wm:Bool}{hp:List Blk}{f:FuncId}{vs:List (SV×Nat×Bool)}{r:SV×List Blk}(h:R5 Q wm hp f vs=some (r,true)):xX R hp f vs=some r:=by
 unfold R5 at h;unfold xX;obtain⟨hf,h⟩:=cC h;simp only[qB,qI,qP]at h⊢;obtain⟨e,h1,q,hq,x,hx,rfl,ho⟩:=h;obtain⟨o1,o2⟩:=bI ho;have hR:=hQ _ _ _ q.1 (by rw[hq,←o2])
 rw[HI hf]at hR;exact⟨e.1,X5 (by rw[h1,←o1]),q.1,hR,x,hx,rfl⟩
def JR(Q:Qt)(wm:Bool)(hp:List Blk)(pu:Bool)(f:FuncId)(vs:List (SV×Nat×Bool)):Option ((SV×List Blk)×Bool):=
 if f<50000 then AD Q wm hp pu f vs else none
theorem R7{R:Rt}{Q:Qt}(hQ:X7 (dQ R) Q){wm:Bool}{hp:List Blk}{pu:Bool}{f:FuncId}{vs:List (SV×Nat×Bool)}{r:SV×List Blk}(h:JR Q wm hp pu f vs=some (r,true)):sW R hp pu f vs=some r:=by
 unfold JR at h;obtain⟨hf,h⟩:=cC h;unfold sW;rw[if_pos hf];exact DC hQ h
def JS(Q:Qt)(wm:Bool)(hp:List Blk)(pu:Bool)(f:FuncId)(vs:List (SV×Nat×Bool)):Option ((SV×List Blk)×Bool):=
 if f<50000 then AD Q wm hp pu f vs else if pu=true then none else R5 Q wm hp f vs
theorem WT{R:Rt}{Q:Qt}(hQ:X7 (dQ R) Q){wm:Bool}{hp:List Blk}{pu:Bool}{f:FuncId}{vs:List (SV×Nat×Bool)}{r:SV×List Blk}(h:JS Q wm hp pu f vs=some (r,true)):nC R hp pu f vs=some r:=by
 unfold JS at h;unfold nC;split at h
 ·rename_i hf;rw[if_pos hf];exact DC hQ h
 ·rename_i hf;rw[if_neg hf];split at h
  ·simp at h
  ·rename_i hp;rw[if_neg hp];exact R6 hQ h
inductive Kd where
 |int (k:IntKind)
 |bool
 |str
 |imm (n:Nat)
def isK:Kd→T→Bool
 | .int k, .lit (.int k' _)=>k==k'
 | .bool, .lit (.bool _)=>true
 | .str, .lit (.string _)=>true
 | .imm n, .imm p n' _=>p&&n==n'
 |_,_=>false
def aZU:List Kd→Row→Bool
 |[],_=>true
 |k::ks,t::r=>isK k t&&aZU ks r
 |_::_,[]=>false
def wB(rows:List Row)(j i:Nat):T:=(rows.getD j []).getD i (.nls 0)
def b0X:T→Int
 | .lit (.int _ z)=>z
 |_=>0
def bHT:T→Bool
 | .lit (.bool z)=>z
 |_=>false
def b0Y:T→ByteArray
 | .lit (.string z)=>z
 |_=> .empty
def bHU:T→List Row
 | .imm _ _ rows=>rows
 |_=>[]
def bR(rows:List Row)(j i:Nat):Int:=b0X (wB rows j i)
def sC(rows:List Row)(j i:Nat):Bool:=bHT (wB rows j i)
def bHV(rows:List Row)(j i:Nat):ByteArray:=b0Y (wB rows j i)
def pR(rows:List Row)(j i:Nat):List Row:=bHU (wB rows j i)
def ofK(rows:List Row)(j i:Nat):Kd→T
 | .int k=> .lit (.int k (bR rows j i))
 | .bool=> .lit (.bool (sC rows j i))
 | .str=> .lit (.string (bHV rows j i))
 | .imm n=> .imm true n (pR rows j i)
def YA(rows:List Row)(j:Nat):Nat→List Kd→Row
 |_,[]=>[]
 |i,k::ks=>ofK rows j i k::YA rows j (i+1) ks
def dV(kds:List Kd)(rows:List Row)(j i:Nat):Bool:=Nat.blt j rows.length&&aZU kds ((rows.getD j []).drop i)
def iG(kds:List Kd)(rows:List Row)(j:Int):Bool:=decide (0≤j)&&(dV kds rows j.toNat 0&&(rows.getD j.toNat []).length==kds.length)
theorem bJH{rows:List Row}{j i:Nat}{k:Kd}{t:T}(ht:wB rows j i=t)(hk:isK k t=true):ofK rows j i k=t:=by
 unfold isK at hk;split at hk
 ·simp only[ofK,bR,ht,b0X,beq_iff_eq]at hk⊢;rw[hk]
 ·simp only[ofK,sC,ht,bHT]
 ·simp only[ofK,bHV,ht,b0Y]
 ·simp only[Bool.and_eq_true,beq_iff_eq]at hk;simp only[ofK,pR,ht,bHU];rw[hk.1,hk.2]
 ·simp at hk
theorem R8{rows:List Row}{j:Nat}: ∀{kds:List Kd}{i:Nat},aZU kds ((rows.getD j []).drop i)=true→YA rows j i kds=((rows.getD j []).drop i).take kds.length
 |[],i,h=>by simp[YA]
 |k::ks,i,h=>by
  cases hd:(rows.getD j []).drop i with
  |nil=>rw[hd]at h;simp[aZU]at h
  |cons t r=>
   rw[hd]at h;simp only[aZU,Bool.and_eq_true]at h;have hr:(rows.getD j []).drop (i+1)=r:=by
    rw[←List.drop_drop,hd];rfl
   have ht:wB rows j i=t:=by
    have:(rows.getD j [])[i]? =some t:=by
     have:=congrArg (·[0]?) hd;simpa [List.getElem?_drop]using this
    simp only[wB,List.getD_eq_getElem?_getD]at this⊢;rw[this];rfl
   simp only[YA,bJH ht h.1,List.length_cons,List.take_succ_cons];rw[R8 (by rw[hr];exact h.2),hr]
theorem JT{rows:List Row}{j:Nat}(h:Nat.blt j rows.length=true):rows[j]? =some (rows.getD j []):=by
 have:j<rows.length:=by simpa using h
 simp[List.getD_eq_getElem?_getD,this]
def MF(d:Nat):List (Nat×List Kd)→Option (List Kd)
 |[]=>none
 |(m,v)::r=>if m=d then some v else MF d r
def bJI(hp:List Blk)(sz:Nat)(kds:List Kd)(t:T)(j:Int):Option (SV×Bool):=
 match t with
 | .sl id off ln=>if m7 hp (.sl id off ln)=some sz then some (.one (.ptr id (off+j.toNat) 0),decide (0≤j)&&decide (j<ln))else none
 | .imm _ n rows=>if n=sz then some (.one (.ip (YA rows j.toNat 0 kds)),iG kds rows j)else none
 |_=>none
theorem bAR{hp:List Blk}{sz:Nat}{kds:List Kd}{t:T}{j:Int}{v:SV}(h:bJI hp sz kds t j=some (v,true)):idx hp sz t j=some v:=by
 unfold bJI at h;split at h
 ·split at h
  ·rename_i hs;simp only[qI,qP,Bool.and_eq_true,decide_eq_true_eq]at h;obtain⟨rfl,h⟩:=h;simp only[idx];rw[if_pos h,if_pos hs]
  ·simp at h
 ·split at h
  ·rename_i hs;simp only[qI,qP,iG,dV,Bool.and_eq_true,decide_eq_true_eq,beq_iff_eq]at h;obtain⟨rfl,h0,⟨h1,h2⟩,h3⟩:=h;simp only[idx];rw[if_pos ⟨h0,hs⟩,JT h1,Option.map_some,R8 h2,List.drop_zero,←h3,List.take_length]
  ·simp at h
 ·simp at h
def ldS(hp:List Blk)(n:Option Nat)(kds:List Kd)(t:T):Option (SV×Bool):=
 match t with
 | .ptr id row off=>
   match hp[id]? with
   |some (.lst _ rows)=>(SV.of n (YA rows row off kds)).bind fun v=>some (v,dV kds rows row off)
   |_=>(mH hp t).bind fun cs=>(SV.of n cs).bind fun v=>some (v,true)
 |_=>(mH hp t).bind fun cs=>(SV.of n cs).bind fun v=>some (v,true)
theorem bAS{n:Option Nat}{cs:Row}{m:Nat}{v:SV}(h:SV.of n (cs.take m)=some v):SV.of n cs=some v:=by
 cases n with
 |none=>
  cases cs with
  |nil=>simp[SV.of]at h
  |cons t r=>
   cases m with
   |zero=>simp[SV.of]at h
   |succ m=>simpa [SV.of]using h
 |some k=>
  simp only[SV.of]at h⊢;split at h
  ·rename_i hk;rw[List.length_take]at hk;rw[if_pos (by omega),←h,List.take_take,Nat.min_eq_left (by omega)]
  ·simp at h
theorem bJJ{hp:List Blk}{n:Option Nat}{kds:List Kd}{t:T}{v:SV}(h:ldS hp n kds t=some (v,true)):((mH hp t).bind fun cs=>SV.of n cs)=some v:=by
 unfold ldS at h;split at h
 ·split at h
  ·rename_i id row off _ sz rows hb;simp only[qB,qI,qP,dV,Bool.and_eq_true]at h;obtain⟨u,hu,rfl,h1,h2⟩:=h;simp only[mH,hb,JT h1,Option.map_some,Option.bind_some];rw[R8 h2]at hu;exact bAS hu
  ·simp only[qB,qI,qP,and_true]at h⊢;obtain⟨cs,hc,u,hu,rfl⟩:=h;exact⟨cs,hc,hu⟩
 ·simp only[qB,qI,qP,and_true]at h⊢;obtain⟨cs,hc,u,hu,rfl⟩:=h;exact⟨cs,hc,hu⟩
def stS(hp:List Blk)(n:Nat)(t:T)(new:Row):Option (List Blk×Bool):=
 match t with
 | .ptr id row off=>
   match hp[id]? with
   |some (.lst sz rows)=>
    if off=0∧n=sz∧new.length=n∧new.all inList=true then some (hp.set id (.lst sz (rows.set row new)),Nat.blt row rows.length&&(rows.getD row []).length==n)
    else if new.length=n∧new.all inList=true then some (hp.set id (.lst sz (rows.set row (wr (rows.getD row []) off new))),Nat.blt row rows.length&&decide (off+n≤(rows.getD row []).length))
    else none
   |_=>(store hp n t new).map (·,true)
 |_=>(store hp n t new).map (·,true)
theorem bJK{hp hp':List Blk}{n:Nat}{t:T}{new:Row}(h:stS hp n t new=some (hp',true)):store hp n t new=some hp':=by
 unfold stS at h;split at h
 ·split at h
  ·rename_i id row off _ sz rows hb;split at h
   ·rename_i hc;obtain⟨rfl,rfl,hn,ha⟩:=hc;simp only[qI,qP,Bool.and_eq_true,beq_iff_eq]at h;obtain⟨rfl,h1,h2⟩:=h;simp only[store,hn,if_true,hb,JT h1,ha,and_true,Nat.zero_add,h2,Nat.le_refl]
    congr 4
    simp only[wr,List.take_zero,List.nil_append,Nat.zero_add,hn,←h2,List.drop_length,List.append_nil]
   ·split at h
    ·rename_i hc;obtain⟨hn,ha⟩:=hc;simp only[qI,qP,Bool.and_eq_true,decide_eq_true_eq]at h;obtain⟨rfl,h1,h2⟩:=h;simp only[store,hn,if_true,hb,JT h1];rw[if_pos ⟨h2,ha⟩]
    ·simp at h
  ·simp only[q_c,qP,and_true]at h;obtain⟨x,hx,rfl⟩:=h;exact hx
 ·simp only[q_c,qP,and_true]at h;obtain⟨x,hx,rfl⟩:=h;exact hx
def exK(Q:Qt)(kd:List (Nat×List Kd))(ev:Ev)(hp:List Blk):K→Option ((SV×List Blk)×Bool)
 | .bin _ o x y=>(ev x).bind fun v=>(GG v).bind fun v=>(ev y).bind fun u=>(GG u).bind fun u=>(bJG o v u).bind fun r=>some ((.one (.lit r.1),hp),r.2)
 | .pick _ c x y=>(ev c).bind fun c=>(asBool c).bind fun c=>(ev x).bind fun v=>(ev y).bind fun u=>(BB c v u).bind fun v=>some ((v,hp),true)
 | .call d pu f xs=>(j4 ev xs).bind fun vs=>JS Q (MF (d.getD 0) kd).isNone hp pu f vs
 | .calv d pu f xs=>(ev f).bind fun g=>match g with
   | .one (.clo f caps)=>(j4 ev xs).bind fun vs=>JR Q (MF (d.getD 0) kd).isNone hp pu f (vs++caps.map fun c=>(.one c,0,false))
   |_=>none
 | .ia d sz x j=>match MF d kd with
   |some kds=>(ev x).bind fun v=>(jH v).bind fun t=>(ev j).bind fun u=>(vV u).bind fun u=>(bJI hp sz kds t u.2).bind fun r=>some ((r.1,hp),r.2)
   |none=>((K.ia d sz x j).exec Q.val ev hp).map (·,true)
 | .ld d n x=>match MF d kd with
   |some kds=>(ev x).bind fun v=>(jH v).bind fun t=>(ldS hp n kds t).bind fun r=>some ((r.1,hp),r.2)
   |none=>((K.ld d n x).exec Q.val ev hp).map (·,true)
 | .st n x y=>(ev x).bind fun v=>(jH v).bind fun t=>(ev y).bind fun u=>u.cells.bind fun cs=>(stS hp n t cs).bind fun r=>some ((.und,r.1),r.2)
 | .app d by_ sz x y=>(ev x).bind fun v=>(jH v).bind fun t=>(ev y).bind fun u=>(jH u).bind fun s=>bJB (MF d kd).isNone hp by_ sz t s
 | .len _ x=>(ev x).bind fun v=>(jH v).bind fun t=>(bAL hp t).bind fun r=>some ((.one (I r.1),hp),r.2)
 | .slc _ sz x lo hi=>(ev x).bind fun v=>(jH v).bind fun t=>(bAL hp t).bind fun n=>(vH ev 0 lo).bind fun l=>(match hi with|none=>some n.1|some o=>vH ev 0 (some o)).bind fun h=>(bJC hp sz t n.1 l h).bind fun r=>some ((.one r.1,hp),n.2&&r.2)
 | .mks _ by_ z n c=>(ev n).bind fun v=>(vV v).bind fun v=>(ev c).bind fun u=>(vV u).bind fun u=>some (bJD hp by_ z v.2 u.2)
 | .cpy d sz x y=>(ev x).bind fun v=>(jH v).bind fun t=>(ev y).bind fun u=>(jH u).bind fun s=>bJE (MF d kd).isNone hp sz t s
 | .clr sz z x=>(ev x).bind fun v=>(jH v).bind fun t=>bJF hp sz z t
 |k=>(k.exec Q.val ev hp).map (·,true)
def aFW(ev ev':Ev):Prop:= ∀x v,ev x=some v→ev' x=some v
theorem aOR{ev ev':Ev}(he:aFW ev ev'): ∀{ps:List (Nat×Nat×Opd)}{cs r:Row},fill ev cs ps=some r→fill ev' cs ps=some r
 |[],cs,r,h=>h
 |(o,n,x)::ps,cs,r,h=>by
  simp only[fill,qB]at h⊢;obtain⟨v,hv,new,hn,h⟩:=h;refine⟨v,he _ _ hv,new,hn,?_⟩;split at h
  ·rename_i hc;rw[if_pos hc];exact aOR he h
  ·simp at h
theorem OY{ev ev':Ev}(he:aFW ev ev'): ∀{ps:List (Nat×Opd)}{cs r:List Row},fillRows ev cs ps=some r→fillRows ev' cs ps=some r
 |[],cs,r,h=>h
 |(o,x)::ps,cs,r,h=>by
  simp only[fillRows,qB]at h⊢;obtain⟨v,hv,new,hn,h⟩:=h;refine⟨v,he _ _ hv,new,hn,?_⟩;split at h
  ·split at h
   ·rename_i hc;rw[if_pos hc];exact OY he h
   ·simp at h
  ·simp at h
theorem DD{ev ev':Ev}(he:aFW ev ev'): ∀{xs:List (Opd×Nat×Bool)}{r:List (SV×Nat×Bool)},j4 ev xs=some r→j4 ev' xs=some r
 |[],r,h=>h
 |(x,n,m)::xs,r,h=>by
  simp only[j4,qB]at h⊢;obtain⟨v,hv,s,hs,h⟩:=h;exact⟨v,he _ _ hv,s,DD he hs,h⟩
theorem YB{ev ev':Ev}(he:aFW ev ev'): ∀{xs:List Opd}{r:List T},vY ev xs=some r→vY ev' xs=some r
 |[],r,h=>h
 |x::xs,r,h=>by
  simp only[vY,qB]at h⊢;obtain⟨v,hv,t,ht,h⟩:=h;refine⟨v,he _ _ hv,t,ht,?_⟩;split at h
  ·simp only[qB]at h⊢;obtain⟨s,hs,h⟩:=h;exact⟨s,YB he hs,h⟩
  ·simp at h
theorem JU{ev ev':Ev}(he:aFW ev ev'){n:Nat}{o:Option Opd}{r:Int}(h:vH ev n o=some r):vH ev' n o=some r:=by
 cases o with
 |none=>exact h
 |some o=>
  simp only[vH,qB]at h⊢;obtain⟨v,hv,h⟩:=h;exact⟨v,he _ _ hv,h⟩
theorem bAT{R:Rt}{ev ev':Ev}(he:aFW ev ev'){hp:List Blk}{k:K}{r:SV×List Blk}(h:k.exec R ev hp=some r):k.exec R ev' hp=some r:=by
 cases k with
 |mv d x=>simp only[K.exec,qB]at h⊢;obtain⟨v,hv,h⟩:=h;exact⟨v,he _ _ hv,h⟩
 |pick d c x y=>
  simp only[K.exec,qB]at h⊢;obtain⟨v,hv,c,hc,h⟩:=h;refine⟨v,he _ _ hv,c,hc,?_⟩;split at h
  ·simp only[qB]at h;obtain⟨u,hu,h⟩:=h;simp[*,he _ _ hu]
  ·simp only[qB]at h;obtain⟨u,hu,h⟩:=h;simp[*,he _ _ hu]
 |alc d z=>exact h
 |box d x=>simp only[K.exec,qB]at h⊢;obtain⟨v,hv,h⟩:=h;exact⟨v,he _ _ hv,h⟩
 |bld d z ps=>simp only[K.exec,qB]at h⊢;obtain⟨v,hv,h⟩:=h;exact⟨v,aOR he hv,h⟩
 |bsl d n z ps=>simp only[K.exec,qB]at h⊢;obtain⟨v,hv,h⟩:=h;exact⟨v,OY he hv,h⟩
 |ld d n x=>simp only[K.exec,qB]at h⊢;obtain⟨v,hv,h⟩:=h;exact⟨v,he _ _ hv,h⟩
 |st n x y=>simp only[K.exec,qB]at h⊢;obtain⟨v,hv,t,ht,u,hu,h⟩:=h;exact⟨v,he _ _ hv,t,ht,u,he _ _ hu,h⟩
 |nilc d x=>simp only[K.exec,qB]at h⊢;obtain⟨v,hv,h⟩:=h;exact⟨v,he _ _ hv,h⟩
 |bin d o x y=>simp only[K.exec,qB]at h⊢;obtain⟨v,hv,t,ht,u,hu,h⟩:=h;exact⟨v,he _ _ hv,t,ht,u,he _ _ hu,h⟩
 |bb d n x y=>simp only[K.exec,qB]at h⊢;obtain⟨v,hv,t,ht,u,hu,h⟩:=h;exact⟨v,he _ _ hv,t,ht,u,he _ _ hu,h⟩
 |eqs d n gs x y=>simp only[K.exec,qB]at h⊢;obtain⟨v,hv,u,hu,h⟩:=h;exact⟨v,he _ _ hv,u,he _ _ hu,h⟩
 |un d o x=>simp only[K.exec,qB]at h⊢;obtain⟨v,hv,h⟩:=h;exact⟨v,he _ _ hv,h⟩
 |cv d k x=>simp only[K.exec,qB]at h⊢;obtain⟨v,hv,h⟩:=h;exact⟨v,he _ _ hv,h⟩
 |mkf d f caps=>simp only[K.exec,qB]at h⊢;obtain⟨v,hv,h⟩:=h;exact⟨v,YB he hv,h⟩
 |mks d b z n c=>simp only[K.exec,qB]at h⊢;obtain⟨v,hv,t,ht,u,hu,h⟩:=h;exact⟨v,he _ _ hv,t,ht,u,he _ _ hu,h⟩
 |slc d sz x lo hi=>simp only[K.exec,qB]at h⊢;obtain⟨v,hv,t,ht,rows,hr,l,hl,u,hu,h⟩:=h;exact⟨v,he _ _ hv,t,ht,rows,hr,l,JU he hl,u,JU he hu,h⟩
 |sls d x lo hi=>
  simp only[K.exec,qB]at h⊢;obtain⟨v,hv,t,ht,h⟩:=h;refine⟨v,he _ _ hv,t,ht,?_⟩;split at h
  ·simp only[qB]at h⊢;obtain⟨l,hl,u,hu,h⟩:=h;exact⟨l,JU he hl,u,JU he hu,h⟩
  ·simp at h
 |fa d x o=>simp only[K.exec,qB]at h⊢;obtain⟨v,hv,h⟩:=h;exact⟨v,he _ _ hv,h⟩
 |fld d x o n=>simp only[K.exec,qB]at h⊢;obtain⟨v,hv,h⟩:=h;exact⟨v,he _ _ hv,h⟩
 |ia d sz x j=>simp only[K.exec,qB]at h⊢;obtain⟨v,hv,t,ht,u,hu,h⟩:=h;exact⟨v,he _ _ hv,t,ht,u,he _ _ hu,h⟩
 |ix d x j=>simp only[K.exec,qB]at h⊢;obtain⟨v,hv,t,ht,u,hu,h⟩:=h;exact⟨v,he _ _ hv,t,ht,u,he _ _ hu,h⟩
 |ext d x j=>simp only[K.exec,qB]at h⊢;obtain⟨v,hv,h⟩:=h;exact⟨v,he _ _ hv,h⟩
 |call d pu f xs=>simp only[K.exec,qB]at h⊢;obtain⟨v,hv,h⟩:=h;exact⟨v,DD he hv,h⟩
 |calv d pu f xs=>
  simp only[K.exec,qB]at h⊢;obtain⟨v,hv,h⟩:=h;refine⟨v,he _ _ hv,?_⟩;split at h
  ·simp only[qB]at h⊢;obtain⟨vs,hvs,h⟩:=h;exact⟨vs,DD he hvs,h⟩
  ·simp at h
 |len d x=>simp only[K.exec,qB]at h⊢;obtain⟨v,hv,h⟩:=h;exact⟨v,he _ _ hv,h⟩
 |lens d x=>simp only[K.exec,qB]at h⊢;obtain⟨v,hv,h⟩:=h;exact⟨v,he _ _ hv,h⟩
 |app d b sz x y=>simp only[K.exec,qB]at h⊢;obtain⟨v,hv,t,ht,u,hu,h⟩:=h;exact⟨v,he _ _ hv,t,ht,u,he _ _ hu,h⟩
 |cpy d sz x y=>simp only[K.exec,qB]at h⊢;obtain⟨v,hv,t,ht,u,hu,h⟩:=h;exact⟨v,he _ _ hv,t,ht,u,he _ _ hu,h⟩
 |clr sz z x=>simp only[K.exec,qB]at h⊢;obtain⟨v,hv,h⟩:=h;exact⟨v,he _ _ hv,h⟩
 |mm d m x y=>simp only[K.exec,qB]at h⊢;obtain⟨v,hv,t,ht,u,hu,h⟩:=h;exact⟨v,he _ _ hv,t,ht,u,he _ _ hu,h⟩
def aIF:K→Bool
 | .call .. | .calv .. =>false
 |_=>true
theorem DE{R R':Rt}{ev:Ev}{hp:List Blk}{k:K}(hk:aIF k=true):k.exec R ev hp=k.exec R' ev hp:=by
 cases k<;>first|rfl|simp[aIF]at hk
theorem aVP{R:Rt}{Q:Qt}(hQ:X7 (dQ R) Q){kd:List (Nat×List Kd)}{ev ev':Ev}(he:aFW ev ev'){hp:List Blk}{k:K}{r:SV×List Blk}(h:exK Q kd ev hp k=some (r,true)):k.exec R ev' hp=some r:=by
 refine bAT he ?_;unfold exK at h;split at h
 ·simp only[qB,qI,qP,K.exec]at h⊢;obtain⟨v,hv,t,ht,u,hu,s,hs,q,hq,h1,h2⟩:=h;refine⟨v,hv,t,ht,u,hu,s,hs,q.1,bAQ (by rw[hq,←h2]),h1⟩
 ·simp only[qB,qI,qP,K.exec]at h⊢;obtain⟨c,hc,b,hb,v,hv,u,hu,m,hm,h1,-⟩:=h;refine⟨c,hc,b,hb,?_⟩;rw[←h1,BC hm];cases b<;>simp[hv,hu]
 ·simp only[qB,qI,qP,K.exec]at h⊢;obtain⟨vs,hvs,h⟩:=h;exact⟨vs,hvs,WT hQ h⟩
 ·simp only[qB,K.exec]at h⊢;obtain⟨g,hg,h⟩:=h;refine⟨g,hg,?_⟩;split at h
  ·simp only[qB,qI,qP]at h⊢;obtain⟨vs,hvs,h⟩:=h;exact⟨vs,hvs,R7 hQ h⟩
  ·simp at h
 ·split at h
  ·simp only[qB,qI,qP,K.exec]at h⊢;obtain⟨v,hv,t,ht,u,hu,w,hw,q,hq,h1,h2⟩:=h;exact⟨v,hv,t,ht,u,hu,w,hw,q.1,bAR (by rw[hq,←h2]),h1⟩
  ·simp only[q_c,qP,and_true]at h;obtain⟨q,hq,rfl⟩:=h;rw[DE (R':=Q.val) rfl];exact hq
 ·split at h
  ·simp only[qB,qI,qP,K.exec]at h⊢;obtain⟨v,hv,t,ht,q,hq,h1,h2⟩:=h;have:=bJJ (v:=q.1) (by rw[hq,←h2])
   simp only[qB]at this;obtain⟨cs,hc,hs⟩:=this;exact⟨v,hv,t,ht,cs,hc,q.1,hs,h1⟩
  ·simp only[q_c,qP,and_true]at h;obtain⟨q,hq,rfl⟩:=h;rw[DE (R':=Q.val) rfl];exact hq
 ·simp only[qB,qI,qP,K.exec]at h⊢;obtain⟨v,hv,t,ht,u,hu,cs,hc,q,hq,h1,h2⟩:=h;exact⟨v,hv,t,ht,u,hu,cs,hc,q.1,bJK (by rw[hq,←h2]),h1⟩
 ·simp only[qB]at h;obtain⟨v,hv,t,ht,u,hu,s,hs,h⟩:=h;exact bAK hv ht hu hs h
 ·simp only[qB,qI,qP,K.exec]at h⊢;obtain⟨v,hv,t,ht,n,hn,h1,h2⟩:=h;obtain⟨rows,hr,hl⟩:=aOQ (n:=n.1) (by rw[hn,←h2])
  exact⟨v,hv,t,ht,rows,hr,by rw[hl,h1]⟩
 ·rename_i d sz x lo hi;simp only[qB,qI,qP,K.exec]at h⊢;obtain⟨v,hv,t,ht,n,hn,l,hl,hh,hb,q,hq,h1,h2⟩:=h;obtain⟨o1,o2⟩:=bI h2;obtain⟨rows,hr,hlen⟩:=aOQ (n:=n.1) (by rw[hn,←o1])
  refine⟨v,hv,t,ht,rows,hr,l,hl,hh,?_,q.1,bAM hlen (by rw[hq,←o2]),h1⟩
  cases hi with
  |none=>simp only[vH,hlen];exact hb
  |some o=>exact hb
 ·simp only[qB,qI]at h;obtain⟨v,hv,k,hk,u,hu,k',hk',h⟩:=h;exact bAN (k:=k.1) (nn:=k.2) (k':=k'.1) (cc:=k'.2) hv hk hu hk' h
 ·simp only[qB]at h;obtain⟨v,hv,t,ht,u,hu,s,hs,h⟩:=h;exact bAO hv ht hu hs h
 ·simp only[qB]at h;obtain⟨v,hv,t,ht,h⟩:=h;exact bAP hv ht h
 ·simp only[q_c,qP,and_true]at h;obtain⟨q,hq,rfl⟩:=h;have hk:aIF k=true:=by
   cases k with
   |call d pu f xs=>cases pu<;>simp_all
   |calv d pu f xs=>cases pu<;>simp_all
   |_=>rfl
  rw[DE (R':=Q.val) hk];exact hq
def qW:K→Bool
 | .alc .. | .box .. | .bsl .. | .st .. | .mks .. | .app .. | .cpy .. | .clr .. =>false
 | .call _ pu _ _| .calv _ pu _ _=>pu
 |_=>true
theorem ZY{R:Rt}{hp:List Blk}{f:FuncId}{vs:List (SV×Nat×Bool)}{r:SV×List Blk}(h:lG R hp true f vs=some r):r.2=hp:=by
 simp only[lG,if_true,qB]at h;obtain⟨_,_,_,_,_,_,h⟩:=h;split at h
 ·obtain rfl:=Option.some.inj h;rfl
 ·simp at h
theorem OZ{R:Rt}{hp:List Blk}{f:FuncId}{vs:List (SV×Nat×Bool)}{r:SV×List Blk}(h:nC R hp true f vs=some r):r.2=hp:=by
 unfold nC at h;split at h
 ·exact ZY h
 ·simp at h
def aZV(hp:List Blk)(o:Option (SV×List Blk)):Prop:= ∀r,o=some r→r.2=hp
theorem FJ{α:Type}{hp:List Blk}{o:Option α}{f:α→Option (SV×List Blk)}(h: ∀v,aZV hp (f v)):aZV hp (o.bind f):=fun r hr=>by
 simp only[qB]at hr;obtain⟨v,_,hv⟩:=hr;exact h v r hv
theorem aVQ{hp:List Blk}{v:SV}:aZV hp (some (v,hp)):=fun r hr=>by
 obtain rfl:=Option.some.inj hr;rfl
theorem YC{hp:List Blk}:aZV hp none:=fun r hr=>by simp at hr
theorem MG{R:Rt}{ev:Ev}{hp:List Blk}{k:K}{r:SV×List Blk}(hk:qW k=true)(h:k.exec R ev hp=some r):r.2=hp:=by
 have:aZV hp (k.exec R ev hp):=by
  cases k<;>simp only[qW,Bool.false_eq_true]at hk
  case call d pu f xs=>
   subst hk;exact FJ fun vs r hr=>OZ hr
  case calv d pu f xs=>
   subst hk;refine FJ fun g=>?_
   split
   ·exact FJ fun vs r hr=>OZ hr
   ·exact YC
  all_goals
   unfold K.exec
   repeat (first|exact aVQ|exact YC|(refine FJ fun _=>?_)|split)
 exact this r h
end Go.Zq

namespace Go.Zq
open Option renaming bind_eq_some_iff → qB
open Option.some renaming injEq → qI
open List renaming mem_append → q_j
open Go
def K.dsts(k:K):List Nat:=match k.dst with|some d=>[d]|none=>[]
inductive Its where
 |nil
 |op (k:K) (r:Its)
 |iff (s:Nat) (w:Bool) (its:Its) (d:Nat) (x y:Opd) (r:Its)
def Its.flat(g:Option (Nat×Bool)):Its→List G
 | .nil=>[]
 | .op k r=>(g,k)::r.flat g
 | .iff s w its d x y r=>its.flat (some (s,w))++(g, .pick d (.t s) x y)::r.flat g
def Its.dsts:Its→List Nat
 | .nil=>[]
 | .op k r=>k.dsts++r.dsts
 | .iff _ _ its d _ _ r=>its.dsts++d::r.dsts
def Its.quiet:Its→Bool
 | .nil=>true
 | .op k r=>qW k&&r.quiet
 | .iff _ _ its _ _ _ r=>its.quiet&&r.quiet
def Its.inner(ds:List Nat):Its→Bool
 | .nil=>true
 | .op k r=>r.inner (k.dsts++ds)
 | .iff s _ its d _ _ r=>ds.contains s&&its.inner []&&r.inner (d::(its.dsts++ds))
def eqG:Option (Nat×Bool)→Option (Nat×Bool)→Bool
 |none,none=>true
 |some (s,w),some (s',w')=>Nat.beq s s'&&(w==w')
 |_,_=>false
theorem aZW: ∀{g h:Option (Nat×Bool)},eqG g h=true→g=h
 |none,none,_=>rfl
 |some (s,w),some (s',w'),h=>by
  simp only[eqG,Bool.and_eq_true,beq_iff_eq]at h;rw[Nat.eq_of_beq_eq_true h.1,h.2]
 |none,some _,h=>by simp[eqG]at h
 |some _,none,h=>by simp[eqG]at h
def x9:Nat→Option (Nat×Bool)→List G→Its×List G
 |0,_,l=>(.nil,l)
 |_+1,_,[]=>(.nil,[])
 |n+1,cur,(g,k)::r=>
  if eqG g cur then let p:=x9 n cur r;(.op k p.1,p.2)
  else match g with
   |none=>(.nil,(g,k)::r)
   |some (s,w)=>
    let q:=x9 n (some (s,w)) ((g,k)::r)
    match q.2 with
    |(g', .pick d (.t s') x y)::r'=>
     if eqG g' cur&&Nat.beq s' s then let p:=x9 n cur r';(.iff s w q.1 d x y p.1,p.2)else(.nil,(g,k)::r)
    |_=>(.nil,(g,k)::r)
theorem BE: ∀(n:Nat)(cur:Option (Nat×Bool))(l:List G),(x9 n cur l).1.flat cur++(x9 n cur l).2=l
 |0,_,l=>rfl
 |_+1,_,[]=>rfl
 |n+1,cur,(g,k)::r=>by
  unfold x9;split
  ·rename_i h;simp only[Its.flat,List.cons_append,BE n cur r,aZW h]
  ·split
   ·rfl
   ·rename_i s w hh;simp only;split
    ·rename_i g' d s' x y r' hq;split
     ·rename_i hc;simp only[Bool.and_eq_true]at hc;obtain rfl:=aZW hc.1;obtain rfl:=Nat.eq_of_beq_eq_true hc.2;have h1:=BE n (some (s',w)) ((some (s',w),k)::r);rw[hq]at h1;simp only[Its.flat,List.append_assoc,List.cons_append,BE n g' r'];exact h1
     ·rfl
    ·rfl
def HJ(sl:List (Nat×SV))(ds:List Nat):List (Nat×SV):=sl.filter fun p=>!ds.contains p.1
theorem yA{ds:List Nat}{n:Nat}{v:SV}: ∀{sl:List (Nat×SV)},bQ n (HJ sl ds)=some v→n∉ds∧bQ n sl=some v
 |[],h=>by simp[HJ,bQ]at h
 |(m,u)::r,h=>by
  unfold HJ at h;rw[List.filter_cons]at h;split at h
  ·rename_i hm;simp only[bQ]at h⊢;split at h
   ·rename_i e;subst e;exact⟨by simpa using hm,by rw[if_pos rfl];exact h⟩
   ·rename_i e;rw[if_neg e];exact yA h
  ·rename_i hm;have:=yA (sl:=r) h;refine⟨this.1,?_⟩;simp only[bQ];split
   ·rename_i e;subst e;exact absurd (by simpa using hm) this.1
   ·exact this.2
structure Le(σ σ':St):Prop where
 sl: ∀n v,bQ n σ.sl=some v→bQ n σ'.sl=some v
 hp:σ'.hp=σ.hp
theorem Le.rfl{σ:St}:Le σ σ:=⟨fun _ _ h=>h,Eq.refl _⟩
theorem Le.trans{a b c:St}(h:Le a b)(k:Le b c):Le a c:=⟨fun n v x=>k.sl n v (h.sl n v x),k.hp.trans h.hp⟩
theorem Le.ev{σ σ':St}(h:Le σ σ'):aFW σ.ev σ'.ev:=fun x v hx=>by
 cases x with
 |t n=>exact h.sl n v hx
 |c u=>exact hx
theorem Le.set{σ σ':St}(h:Le σ σ')(d:Nat)(v:SV):Le (σ.set d v) (σ'.set d v):=⟨fun n u hn=>by
 simp only[St.set,bQ]at hn⊢;split
 ·rename_i e;rw[if_pos e]at hn;exact hn
 ·rename_i e;rw[if_neg e]at hn;exact h.sl n u hn,h.hp⟩
theorem Le.setD{σ σ':St}(h:Le σ σ')(d:Option Nat)(v:SV):Le (setD σ d v) (setD σ' d v):=by
 cases d with
 |none=>exact h
 |some d=>exact h.set d v
theorem Le.heap{σ σ':St}(h:Le σ σ')(hp:List Blk):Le ⟨σ.sl,hp⟩ ⟨σ'.sl,hp⟩:=⟨h.sl,Eq.refl _⟩
theorem wC{σ:St}{d n:Nat}{v:SV}(h:n≠d):bQ n (σ.set d v).sl=bQ n σ.sl:=by
 simp only[St.set,bQ];rw[if_neg (Ne.symm h)]
theorem uE{σ:St}{d:Nat}{v:SV}:bQ d (σ.set d v).sl=some v:=by
 simp[St.set,bQ]
theorem j6{σ:St}{k:K}{n:Nat}{v:SV}(h:n∉k.dsts):bQ n (Zq.setD σ k.dst v).sl=bQ n σ.sl:=by
 unfold K.dsts at h;cases hd:k.dst with
 |none=>rfl
 |some d=>
  rw[hd]at h;exact wC (by simpa using h)
def evI(Q:Qt)(kd:List (Nat×List Kd)):Its→St→Option (St×Bool)
 | .nil,σ=>some (σ,true)
 | .op k r,σ=>(exK Q kd σ.ev σ.hp k).bind fun x=>(evI Q kd r (setD ⟨σ.sl,x.1.2⟩ k.dst x.1.1)).bind fun y=>some (y.1,x.2&&y.2)
 | .iff s w its d x y r,σ=>
   (bQ s σ.sl).bind fun c=>(asBool c).bind fun b=>(evI Q kd its σ).bind fun i=>
   if(its.inner []&&!its.dsts.contains s)=true then
    (if its.quiet then some σ.hp else x8 (if w then b else !b) i.1.hp σ.hp).bind fun hp=>
    ((if w then i.1 else⟨HJ σ.sl its.dsts,σ.hp⟩:St).ev x).bind fun vx=>((if w then⟨HJ σ.sl its.dsts,σ.hp⟩else i.1:St).ev y).bind fun vy=>(BB b vx vy).bind fun m=>
    (evI Q kd r (St.set ⟨HJ σ.sl its.dsts,hp⟩ d m)).bind fun z=>some (z.1,(i.2||(if w then !b else b))&&z.2)
   else none
def Skips(s:Nat)(w:Bool)(σ:St):Prop:=bQ s σ.sl=some .und∨bQ s σ.sl=some (.one (B (!w)))
theorem Skips.setD{s:Nat}{w:Bool}{σ:St}(h:Skips s w σ)(k:K):Skips s w (Zq.setD σ k.dst .und):=by
 by_cases e:s∈k.dsts
 ·left
  unfold K.dsts at e;cases hd:k.dst with
  |none=>rw[hd]at e;simp at e
  |some d=>
   rw[hd]at e;obtain rfl:s=d:=by simpa using e
   exact uE
 ·rcases h with h|h
  ·left;rw[j6 e];exact h
  ·right;rw[j6 e];exact h
theorem YD{R:Rt}{s:Nat}{w:Bool}{σ:St}(h:Skips s w σ)(k:K):kN R σ (some (s,w),k)=some (setD σ k.dst .und):=by
 unfold kN;rcases h with h|h
 ·simp only[h]
 ·simp only[h];rw[if_neg (by cases w<;>simp)]
theorem BF{R:Rt}: ∀{l l':List G}{σ σ1:St},d9 R l σ=some σ1→d9 R (l++l') σ=d9 R l' σ1
 |[],l',σ,σ1,h=>by simp only[d9,qI]at h;subst h;rfl
 |g::r,l',σ,σ1,h=>by
  simp only[d9,qB]at h;obtain⟨σ2,h1,h2⟩:=h;simp only[List.cons_append,d9,h1,Option.bind_some];exact BF h2
theorem JV{R:Rt}: ∀{its:Its}{s:Nat}{w:Bool}{ds:List Nat}{σ:St},Skips s w σ→its.inner ds=true→(∀n∈ds,bQ n σ.sl=some .und)→
  ∃σ',d9 R (its.flat (some (s,w))) σ=some σ'∧σ'.hp=σ.hp∧(∀n,n∉its.dsts→bQ n σ'.sl=bQ n σ.sl)∧(∀n,(n∈its.dsts∨n∈ds)→bQ n σ'.sl=some .und)∧Skips s w σ'
 | .nil,s,w,ds,σ,hs,hi,hd=>⟨σ,rfl,rfl,fun _ _=>rfl,fun n hn=>by rcases hn with hn|hn;·simp[Its.dsts]at hn
                                                                ·exact hd n hn,hs⟩
 | .op k r,s,w,ds,σ,hs,hi,hd=>by
   simp only[Its.inner]at hi;obtain⟨σ',h1,h2,h3,h4,h5⟩:=JV (R:=R) (its:=r) (σ:=setD σ k.dst .und) (ds:=k.dsts++ds) (hs.setD k) hi (fun n hn=>by
    by_cases e:n∈k.dsts
    ·unfold K.dsts at e;cases hk:k.dst with
     |none=>rw[hk]at e;simp at e
     |some d=>
      rw[hk]at e;obtain rfl:n=d:=by simpa using e
      exact uE
    ·rw[j6 e];exact hd n ((List.mem_append.1 hn).resolve_left e))
   refine⟨σ',?_,?_,?_,?_,h5⟩
   ·simp only[Its.flat,d9,YD hs,Option.bind_some];exact h1
   ·rw[h2];cases k.dst<;>rfl
   ·intro n hn;simp only[Its.dsts,q_j,not_or]at hn;rw[h3 n hn.2,j6 hn.1]
   ·intro n hn;simp only[Its.dsts,q_j]at hn;exact h4 n (by simp only[q_j];rcases hn with(hn|hn)|hn<;>simp[hn])
 | .iff s2 w2 its d x y r,s,w,ds,σ,hs,hi,hd=>by
   simp only[Its.inner,Bool.and_eq_true,List.contains_iff_mem]at hi;obtain⟨σ1,h1,h2,h3,h4,h5⟩:=JV (R:=R) (its:=its) (s:=s2) (w:=w2) (σ:=σ) (ds:=[]) (.inl (hd s2 hi.1.1)) hi.1.2 (by simp)
   have hs1:Skips s w σ1:=by
    by_cases e:s∈its.dsts
    ·exact .inl (h4 s (.inl e))
    ·rcases hs with hs|hs
     ·left;rw[h3 s e];exact hs
     ·right;rw[h3 s e];exact hs
   obtain⟨σ',k1,k2,k3,k4,k5⟩:=JV (R:=R) (its:=r) (s:=s) (w:=w) (σ:=setD σ1 (some d) .und) (ds:=d::(its.dsts++ds)) (hs1.setD (.pick d (.t s2) x y)) hi.2 (fun n hn=>by
    by_cases e:n=d
    ·subst e;exact uE
    ·show bQ n (σ1.set d .und).sl=_
     rw[wC e];simp only[List.mem_cons,e,false_or,q_j]at hn;by_cases f:n∈its.dsts
     ·exact h4 n (.inl f)
     ·rw[h3 n f];exact hd n (hn.resolve_left f))
   refine⟨σ',?_,?_,?_,?_,k5⟩
   ·rw[Its.flat,BF h1];simp only[d9,YD hs1,Option.bind_some];exact k1
   ·rw[k2];exact h2
   ·intro n hn;simp only[Its.dsts,q_j,List.mem_cons,not_or]at hn;rw[k3 n hn.2.2];show bQ n (σ1.set d .und).sl=_
    rw[wC hn.2.1,h3 n hn.1]
   ·intro n hn;simp only[Its.dsts,q_j,List.mem_cons]at hn;refine k4 n ?_;simp only[List.mem_cons,q_j];rcases hn with(hn|hn|hn)|hn<;>simp[hn]
def aOS(g:Option (Nat×Bool))(σ:St):Prop:= ∀s w,g=some (s,w)→bQ s σ.sl=some (.one (B w))
def bJL(g:Option (Nat×Bool))(ds:List Nat):Prop:= ∀s w,g=some (s,w)→s∉ds
theorem runG_holds{R:Rt}{g:Option (Nat×Bool)}{σ:St}(h:aOS g σ)(k:K):kN R σ (g,k)=k.run R σ:=by
 unfold kN;cases g with
 |none=>rfl
 |some x=>simp only[h x.1 x.2 rfl,if_true]
theorem O0{R:Rt}: ∀{l:List G}{σ σ':St},d9 R l σ=some σ'→ ∀n,(∀g∈l,n∉g.2.dsts)→bQ n σ'.sl=bQ n σ.sl
 |[],σ,σ',h,n,hn=>by simp only[d9,qI]at h;rw[h]
 |g::r,σ,σ',h,n,hn=>by
  simp only[d9,qB]at h;obtain⟨σ1,h1,h2⟩:=h;rw[O0 h2 n (fun g hg=>hn g (List.mem_cons_of_mem _ hg))]
  have hk:=hn g (List.mem_cons_self ..);have hrun: ∀{τ:St},g.2.run R σ=some τ→bQ n τ.sl=bQ n σ.sl:=fun{τ} ht=>by
   simp only[K.run,qB,qI]at ht;obtain⟨q,-,rfl⟩:=ht;rw[j6 hk]
  unfold kN at h1;split at h1
  ·exact hrun h1
  ·split at h1
   ·split at h1
    ·exact hrun h1
    ·obtain rfl:=Option.some.inj h1;rw[j6 hk]
   ·obtain rfl:=Option.some.inj h1;rw[j6 hk]
   ·simp at h1
theorem FK{n:Nat}: ∀{its:Its}{g:Option (Nat×Bool)},n∉its.dsts→ ∀x∈its.flat g,n∉x.2.dsts
 | .nil,g,h,x,hx=>by simp[Its.flat]at hx
 | .op k r,g,h,x,hx=>by
   simp only[Its.dsts,q_j,not_or]at h;simp only[Its.flat,List.mem_cons]at hx;rcases hx with rfl|hx
   ·exact h.1
   ·exact FK h.2 x hx
 | .iff s w its d a b r,g,h,x,hx=>by
   simp only[Its.dsts,q_j,List.mem_cons,not_or]at h;simp only[Its.flat,q_j,List.mem_cons]at hx;rcases hx with hx|rfl|hx
   ·exact FK h.1 x hx
   ·simpa [K.dsts,K.dst]using h.2.1
   ·exact FK h.2.2 x hx
theorem FL{Q:Qt}{kd:List (Nat×List Kd)}: ∀{its:Its}{σ:St}{r:St×Bool},evI Q kd its σ=some r→ ∀n v,n∉its.dsts→bQ n r.1.sl=some v→bQ n σ.sl=some v
 | .nil,σ,r,h,n,v,hn,hv=>by simp only[evI,qI]at h;subst h;exact hv
 | .op k t,σ,r,h,n,v,hn,hv=>by
   simp only[evI,qB,qI]at h;obtain⟨x,hx,y,hy,rfl⟩:=h;simp only[Its.dsts,q_j,not_or]at hn;have:=FL hy n v hn.2 hv;rw[j6 hn.1]at this;exact this
 | .iff s w its d a b t,σ,r,h,n,v,hn,hv=>by
   simp only[evI,qB]at h;obtain⟨c,hc,e,he,i,hi,h⟩:=h;split at h
   ·simp only[qB,qI]at h;obtain⟨hp1,hh,vx,hx,vy,hy,m,hm,z,hz,rfl⟩:=h;simp only[Its.dsts,q_j,List.mem_cons,not_or]at hn;have:=FL hz n v hn.2.2 hv;rw[wC hn.2.1]at this;exact(yA this).2
   ·simp at h
theorem GS{Q:Qt}{wm:Bool}{hp:List Blk}{f:FuncId}{vs:List (SV×Nat×Bool)}{r:(SV×List Blk)×Bool}(h:AD Q wm hp true f vs=some r):r.1.2=hp:=by
 simp only[AD,if_true,qB]at h;obtain⟨args,h1,q,hq,h⟩:=h;split at h
 ·obtain rfl:=Option.some.inj h;rfl
 ·simp at h
theorem ZZ{Q:Qt}{wm:Bool}{hp:List Blk}{f:FuncId}{vs:List (SV×Nat×Bool)}{r:(SV×List Blk)×Bool}(h:JS Q wm hp true f vs=some r):r.1.2=hp:=by
 unfold JS at h;split at h
 ·exact GS h
 ·simp at h
theorem WU{Q:Qt}{wm:Bool}{hp:List Blk}{f:FuncId}{vs:List (SV×Nat×Bool)}{r:(SV×List Blk)×Bool}(h:JR Q wm hp true f vs=some r):r.1.2=hp:=GS (cC h).2
theorem aVR{Q:Qt}{kd:List (Nat×List Kd)}{ev:Ev}{hp:List Blk}{k:K}{r:(SV×List Blk)×Bool}(hk:qW k=true)(h:exK Q kd ev hp k=some r):r.1.2=hp:=by
 unfold exK at h;split at h
 ·simp only[qB,qI]at h;obtain⟨v,hv,t,ht,u,hu,s,hs,q,hq,rfl⟩:=h;rfl
 ·simp only[qB,qI]at h;obtain⟨c,hc,b,hb,v,hv,u,hu,m,hm,rfl⟩:=h;rfl
 ·simp only[qB,qI]at h;obtain⟨vs,hvs,h⟩:=h;simp only[qW]at hk;subst hk;exact ZZ h
 ·simp only[qB]at h;obtain⟨g,hg,h⟩:=h;split at h
  ·simp only[qB,qI]at h;obtain⟨vs,hvs,h⟩:=h;simp only[qW]at hk;subst hk;exact WU h
  ·simp at h
 ·split at h
  ·simp only[qB,qI]at h;obtain⟨v,hv,t,ht,u,hu,w,hw,q,hq,rfl⟩:=h;rfl
  ·simp only[Option.map_eq_some_iff]at h;obtain⟨q,hq,rfl⟩:=h;exact MG hk hq
 ·split at h
  ·simp only[qB,qI]at h;obtain⟨v,hv,t,ht,q,hq,rfl⟩:=h;rfl
  ·simp only[Option.map_eq_some_iff]at h;obtain⟨q,hq,rfl⟩:=h;exact MG hk hq
 ·simp[qW]at hk
 ·simp[qW]at hk
 ·simp only[qB,qI]at h;obtain⟨v,hv,t,ht,n,hn,rfl⟩:=h;rfl
 ·simp only[qB,qI]at h;obtain⟨v,hv,t,ht,n,hn,l,hl,hh,hb,q,hq,rfl⟩:=h;rfl
 ·simp[qW]at hk
 ·simp[qW]at hk
 ·simp[qW]at hk
 ·simp only[Option.map_eq_some_iff]at h;obtain⟨q,hq,rfl⟩:=h;exact MG hk hq
theorem aVS{σ:St}{d:Option Nat}{v:SV}:(setD σ d v).hp=σ.hp:=by cases d<;>rfl
theorem FM{Q:Qt}{kd:List (Nat×List Kd)}: ∀{its:Its}{σ:St}{r:St×Bool},its.quiet=true→evI Q kd its σ=some r→r.1.hp=σ.hp
 | .nil,σ,r,hq,h=>by simp only[evI,qI]at h;subst h;rfl
 | .op k t,σ,r,hq,h=>by
   simp only[evI,qB,qI]at h;obtain⟨x,hx,y,hy,rfl⟩:=h;simp only[Its.quiet,Bool.and_eq_true]at hq;rw[FM hq.2 hy,aVS];exact aVR hq.1 hx
 | .iff s w its d a b t,σ,r,hq,h=>by
   simp only[evI,qB]at h;obtain⟨c,hc,e,he,i,hi,h⟩:=h;simp only[Its.quiet,Bool.and_eq_true]at hq;split at h
   ·simp only[qB,qI]at h;obtain⟨hp1,hh,vx,hx,vy,hy,m,hm,z,hz,rfl⟩:=h;rw[FM hq.2 hz];rw[if_pos hq.1]at hh;obtain rfl:=Option.some.inj hh;rfl
   ·simp at h
theorem FN{R:Rt}{Q:Qt}(hQ:X7 (dQ R) Q){kd:List (Nat×List Kd)}: ∀{its:Its}{g:Option (Nat×Bool)}{σ σr σ':St},evI Q kd its σ=some (σ',true)→Le σ σr→aOS g σr→bJL g its.dsts→
  ∃σr',d9 R (its.flat g) σr=some σr'∧Le σ' σr'
 | .nil,g,σ,σr,σ',h,hl,hg,ha=>by
   simp only[evI,qI,Prod.mk.injEq]at h;obtain⟨rfl,-⟩:=h;exact⟨σr,rfl,hl⟩
 | .op k t,g,σ,σr,σ',h,hl,hg,ha=>by
   simp only[evI,qB,qI,Prod.mk.injEq,Bool.and_eq_true]at h;obtain⟨x,hx,y,hy,rfl,h1,h2⟩:=h;have hx':k.exec R σr.ev σr.hp=some x.1:=by
    rw[hl.hp];exact aVP hQ hl.ev (by rw[hx,←h1])
   have hl':=(hl.heap x.1.2).setD k.dst x.1.1;have hg':aOS g (setD ⟨σr.sl,x.1.2⟩ k.dst x.1.1):=fun s w e=>by
    have:=ha s w e;simp only[Its.dsts,q_j,not_or]at this;rw[j6 this.1];exact hg s w e
   obtain⟨σr',k1,k2⟩:=FN hQ (its:=t) (g:=g) (by rw[hy,←h2]) hl' hg' (fun s w e=>by
    have:=ha s w e;simp only[Its.dsts,q_j,not_or]at this;exact this.2)
   refine⟨σr',?_,k2⟩;simp only[Its.flat,d9,runG_holds hg,K.run,hx',Option.bind_some];exact k1
 | .iff s w its d a b t,g,σ,σr,σ',h,hl,hg,ha=>by
   simp only[evI,qB]at h;obtain⟨c,hc,e,he,i,hi,h⟩:=h;split at h
   case isFalse=>simp at h
   rename_i hcond;simp only[Bool.and_eq_true,Bool.not_eq_true',List.contains_eq_mem,decide_eq_false_iff_not]at hcond;obtain⟨hin,hs⟩:=hcond;simp only[qB,qI,Prod.mk.injEq,Bool.and_eq_true,Bool.or_eq_true]at h;obtain⟨hp1,hh,vx,hx,vy,hy,m,hm,z,hz,rfl,ho1,ho2⟩:=h;have hcs:bQ s σr.sl=some (.one (B e)):=by
    have:=hl.sl s c hc;rw[this]
    revert he
    unfold asBool;split
    ·intro he;obtain rfl:=Option.some.inj he;rfl
    ·intro he;simp at he
   have hdrop: ∀{τ:St}{hp:List Blk},τ.hp=hp→(∀n,n∉its.dsts→bQ n τ.sl=bQ n σr.sl)→Le ⟨HJ σ.sl its.dsts,hp⟩ τ:=fun{τ hp} h1 h2=>⟨fun n v hn=>by
    have:=yA hn;rw[h2 n this.1];exact hl.sl n v this.2,h1⟩
   have ha': ∀{n:Nat}{w':Bool},g=some (n,w')→n∉its.dsts∧n≠d∧n∉t.dsts:=fun{n w'} e'=>by
    have:=ha n w' e';simpa only[Its.dsts,q_j,List.mem_cons,not_or]using this
   have main: ∃τ,d9 R (its.flat (some (s,w))) σr=some τ∧τ.hp=hp1∧(∀n,n∉its.dsts→bQ n τ.sl=bQ n σr.sl)∧(if e then τ.ev a else τ.ev b)=some m:=by
    by_cases hw:e=w
    ·subst hw;have hok:i.2=true:=by
      rcases ho1 with h|h
      ·exact h
      ·cases e<;>simp at h
     have hih:i.1.hp=hp1:=by
      split at hh
      ·rename_i hq;obtain rfl:=Option.some.inj hh;exact FM hq hi
      ·rw[BD hh];cases e<;>rfl
     obtain⟨τ,k1,k2⟩:=FN hQ (its:=its) (g:=some (s,e)) (σ:=σ) (σ':=i.1) (by rw[hi,←hok]) hl (fun s' w' e'=>by
      simp only[qI,Prod.mk.injEq]at e';obtain⟨rfl,rfl⟩:=e';exact hcs) (fun s' w' e'=>by
      simp only[qI,Prod.mk.injEq]at e';obtain⟨rfl,rfl⟩:=e';exact hs)
     refine⟨τ,k1,by rw[k2.hp];exact hih,fun n hn=>O0 k1 n (FK hn),?_⟩
     rw[BC hm];cases e
     ·simp only[Bool.false_eq_true,if_false,cond_false]at hy⊢;exact k2.ev _ _ hy
     ·simp only[if_true,cond_true]at hx⊢;exact k2.ev _ _ hx
    ·have hw':e=!w:=by cases e<;>cases w<;>simp_all
     subst hw';have hih:hp1=σ.hp:=by
      split at hh
      ·exact(Option.some.inj hh).symm
      ·rw[BD hh];cases w<;>rfl
     obtain⟨τ,k1,k2,k3,k4,k5⟩:=JV (R:=R) (its:=its) (s:=s) (w:=w) (ds:=[]) (σ:=σr) (.inr hcs) hin (by simp)
     refine⟨τ,k1,by rw[k2,hih];exact hl.hp,k3,?_⟩
     have hd:=hdrop (τ:=τ) (hp:=σ.hp) (by rw[k2];exact hl.hp) k3
     rw[BC hm];cases w
     ·simp only[Bool.not_false,if_true,cond_true,Bool.false_eq_true,if_false]at hx⊢;exact hd.ev _ _ hx
     ·simp only[Bool.not_true,Bool.false_eq_true,if_false,cond_false,if_true]at hy⊢;exact hd.ev _ _ hy
   obtain⟨τ,m1,m2,m3,m4⟩:=main;have hgτ:aOS g τ:=fun s' w' e'=>by rw[m3 s' (ha' e').1];exact hg s' w' e'
   have hpick:(K.pick d (.t s) a b).run R τ=some (τ.set d m):=by
    have hct:τ.ev (.t s)=some (.one (B e)):=by
     show bQ s τ.sl=_
     rw[m3 s hs];exact hcs
    simp only[K.run,K.exec,hct,Option.bind_some,asBool,K.dst,Zq.setD];cases e
    ·simp only[Bool.false_eq_true,if_false]at m4⊢;simp[m4]
    ·simp only[if_true]at m4⊢;simp[m4]
   obtain⟨σr',k1,k2⟩:=FN hQ (its:=t) (g:=g) (σr:=τ.set d m) (by rw[hz,←ho2]) ((hdrop m2 m3).set d m) (fun s' w' e'=>by
    rw[wC (ha' e').2.1];exact hgτ s' w' e') (fun s' w' e'=>(ha' e').2.2)
   refine⟨σr',?_,k2⟩;rw[Its.flat,BF m1];simp only[d9,runG_holds hgτ,hpick,Option.bind_some];exact k1
end Go.Zq

namespace Go.Zq
open Go
inductive Tr where
 |leaf (σ:St)
 |br (b:Bool) (x y:Tr)
def Tr.st:Tr→St
 | .leaf σ=>σ
 | .br b x y=>bif b then x.st else y.st
def Tr.All(P:St→Prop):Tr→Prop
 | .leaf σ=>P σ
 | .br _ x y=>x.All P∧y.All P
theorem Tr.All.st{P:St→Prop}: ∀{t:Tr},t.All P→P t.st
 | .leaf σ,h=>h
 | .br b x y,h=>by
   cases b
   ·exact Tr.All.st (t:=y) h.2
   ·exact Tr.All.st (t:=x) h.1
theorem Tr.All.mono{P P':St→Prop}(hp: ∀σ,P σ→P' σ): ∀{t:Tr},t.All P→t.All P'
 | .leaf σ,h=>hp σ h
 | .br b x y,h=>⟨Tr.All.mono hp (t:=x) h.1,Tr.All.mono hp (t:=y) h.2⟩
inductive Ex where
 |ret
 |brk (id:Nat)
def Ex.out:Ex→St→Out
 | .ret,σ=> .ret σ
 | .brk id,σ=> .brk id σ
structure O where
 ex:List (Ex×Bool×Tr)
 nor:Option Tr
def nK:List (Ex×Bool×Tr)→Option Tr→Option Out
 |[],none=>none
 |[],some t=>some (.nor t.st)
 |(k,b,t)::r,n=>bif b then some (k.out t.st)else nK r n
def O.den(o:O):Option Out:=nK o.ex o.nor
structure O.All(P:St→Prop)(o:O):Prop where
 ex: ∀e∈o.ex,e.2.2.All P
 nor: ∀t,o.nor=some t→t.All P
theorem O.All.mono{P P':St→Prop}(hp: ∀σ,P σ→P' σ){o:O}(h:o.All P):o.All P':=⟨fun e he=>(h.ex e he).mono hp,fun t ht=>(h.nor t ht).mono hp⟩
inductive LeOut:Out→Out→Prop where
 |nor {σ σ':St} (h:Le σ σ'):LeOut (.nor σ) (.nor σ')
 |brk {id:Nat} {σ σ':St} (h:Le σ σ'):LeOut (.brk id σ) (.brk id σ')
 |ret {σ σ':St} (h:Le σ σ'):LeOut (.ret σ) (.ret σ')
theorem LeOut.refl: ∀{o:Out},LeOut o o
 | .nor _=> .nor .rfl
 | .brk _ _=> .brk .rfl
 | .ret _=> .ret .rfl
theorem LeOut.trans{a b c:Out}(h:LeOut a b)(k:LeOut b c):LeOut a c:=by
 cases h<;>cases k
 ·exact .nor (Le.trans ‹_› ‹_›)
 ·exact .brk (Le.trans ‹_› ‹_›)
 ·exact .ret (Le.trans ‹_› ‹_›)
def R9(asg:Option (List Nat))(n:Nat):Bool:=match asg with|some l=>l.contains n|none=>true
def vO(b:Bool)(asg:Option (List Nat))(s1 s2:List (Nat×SV)):List Nat→List (Nat×SV)
 |[]=>[]
 |n::r=>
  match bQ n s1 with
  |none=>vO b asg s1 s2 r
  |some v=>
   match bQ n s2 with
   |none=>vO b asg s1 s2 r
   |some u=>
    if R9 asg n=true then
     match BB b v u with
     |some m=>(n,m)::vO b asg s1 s2 r
     |none=>vO b asg s1 s2 r
    else(n,v)::vO b asg s1 s2 r
def yB(b:Bool)(asg:Option (List Nat))(quiet:Bool)(σ1 σ2:St):Option St:=
 (if quiet then some σ1.hp else x8 b σ1.hp σ2.hp).map fun hp=>⟨vO b asg σ1.sl σ2.sl (σ1.sl.map (·.1)),hp⟩
structure Fr(asg:Option (List Nat))(quiet:Bool)(σ0 σ:St):Prop where
 sl: ∀l,asg=some l→ ∀n v,n∉l→bQ n σ.sl=some v→bQ n σ0.sl=some v
 hp:quiet=true→σ.hp=σ0.hp
theorem iU{b:Bool}{asg:Option (List Nat)}{s1 s2:List (Nat×SV)}{n:Nat}{v:SV}: ∀{l:List Nat},bQ n (vO b asg s1 s2 l)=some v→
  ∃x y,bQ n s1=some x∧bQ n s2=some y∧((R9 asg n=true∧BB b x y=some v)∨(R9 asg n=false∧v=x))
 |[],h=>by simp[vO,bQ]at h
 |m::r,h=>by
  unfold vO at h;cases hx:bQ m s1 with
  |none=>simp only[hx]at h;exact iU h
  |some x=>
   cases hy:bQ m s2 with
   |none=>simp only[hx,hy]at h;exact iU h
   |some y=>
    simp only[hx,hy]at h;by_cases hc:R9 asg m=true
    ·rw[if_pos hc]at h;cases hz:BB b x y with
     |none=>simp only[hz]at h;exact iU h
     |some z=>
      simp only[hz,bQ]at h;by_cases e:m=n
      ·rw[if_pos e]at h;subst e;obtain rfl:=Option.some.inj h;exact⟨x,y,hx,hy, .inl ⟨hc,hz⟩⟩
      ·rw[if_neg e]at h;exact iU h
    ·rw[if_neg hc]at h;simp only[bQ]at h;by_cases e:m=n
     ·rw[if_pos e]at h;subst e;obtain rfl:=Option.some.inj h;exact⟨x,y,hx,hy, .inr ⟨by simpa using hc,rfl⟩⟩
     ·rw[if_neg e]at h;exact iU h
theorem SA{l:List Nat}{n:Nat}:R9 (some l) n=true↔n∈l:=by simp[R9]
theorem SB{b:Bool}{asg:Option (List Nat)}{quiet:Bool}{σ0 σ1 σ2 σ:St}(h:yB b asg quiet σ1 σ2=some σ)(h1:Fr asg quiet σ0 σ1)(h2:Fr asg quiet σ0 σ2):Le σ (bif b then σ1 else σ2):=by
 simp only[yB,Option.map_eq_some_iff]at h;obtain⟨hp,hh,rfl⟩:=h;constructor
 ·intro n v hn;obtain⟨x,y,hx,hy,⟨-,hm⟩|⟨hnl,rfl⟩⟩:=iU hn
  ·rw[BC hm];cases b
   ·exact hy
   ·exact hx
  ·cases b
   ·cases asg with
    |none=>simp[R9]at hnl
    |some l=>
     have hnl':n∉l:=fun e=>by rw[SA.2 e]at hnl;simp at hnl
     have e1:=h1.sl l rfl n _ hnl' hx;have e2:=h2.sl l rfl n _ hnl' hy;rw[e1]at e2;obtain rfl:=Option.some.inj e2;exact hy
   ·exact hx
 ·split at hh
  ·rename_i hq;obtain rfl:=Option.some.inj hh;cases b
   ·exact(h2.hp hq).trans (h1.hp hq).symm
   ·rfl
  ·rw[BD hh];cases b<;>rfl
theorem aIG{b:Bool}{asg:Option (List Nat)}{quiet:Bool}{σ0 σ1 σ2 σ:St}(h:yB b asg quiet σ1 σ2=some σ)(h1:Fr asg quiet σ0 σ1):Fr asg quiet σ0 σ:=by
 simp only[yB,Option.map_eq_some_iff]at h;obtain⟨hp,hh,rfl⟩:=h;constructor
 ·intro l hl n v hn hv;obtain⟨x,y,hx,hy,⟨hnl,-⟩|⟨-,rfl⟩⟩:=iU hv
  ·subst hl;exact absurd (SA.1 hnl) hn
  ·exact h1.sl l hl n _ hn hx
 ·intro hq;rw[if_pos hq]at hh;obtain rfl:=Option.some.inj hh;exact h1.hp hq
def SC(mg:Bool→St→St→Option St)(b:Bool):Tr→Tr→Tr
 | .leaf σ1, .leaf σ2=>match mg b σ1 σ2 with
   |some σ=> .leaf σ
   |none=> .br b (.leaf σ1) (.leaf σ2)
 |x,y=> .br b x y
structure MgOk(mg:Bool→St→St→Option St)(P:St→Prop):Prop where
 le: ∀b σ1 σ2 σ,P σ1→P σ2→mg b σ1 σ2=some σ→Le σ (bif b then σ1 else σ2)
 all: ∀b σ1 σ2 σ,P σ1→P σ2→mg b σ1 σ2=some σ→P σ
theorem FO{mg:Bool→St→St→Option St}{P:St→Prop}(hm:MgOk mg P){b:Bool}{x y:Tr}(hx:x.All P)(hy:y.All P):Le (SC mg b x y).st (bif b then x.st else y.st):=by
 unfold SC;split
 ·split
  ·rename_i h;exact hm.le _ _ _ _ hx hy h
  ·exact .rfl
 ·exact .rfl
theorem SD{mg:Bool→St→St→Option St}{P:St→Prop}(hm:MgOk mg P){b:Bool}{x y:Tr}(hx:x.All P)(hy:y.All P):(SC mg b x y).All P:=by
 unfold SC;split
 ·split
  ·rename_i h;exact hm.all _ _ _ _ hx hy h
  ·exact⟨hx,hy⟩
 ·exact⟨hx,hy⟩
def JW(mg:Bool→St→St→Option St)(b:Bool):Option Tr→Option Tr→Option Tr
 |none,t=>t
 |some t,none=>some t
 |some x,some y=>some (SC mg b x y)
def O1(mg:Bool→St→St→Option St)(b:Bool)(o1 o2:O):O:=
 ⟨o1.ex.map (fun e=>(e.1,e.2.1&&b,e.2.2))++o2.ex.map (fun e=>(e.1,e.2.1&&!b,e.2.2)),JW mg b o1.nor o2.nor⟩
theorem JX: ∀{l:List (Ex×Bool×Tr)}{l':List (Ex×Bool×Tr)}{n:Option Tr},(∀e∈l,e.2.1=false)→nK (l++l') n=nK l' n
 |[],l',n,h=>rfl
 |e::r,l',n,h=>by
  have he:=h e (List.mem_cons_self ..);obtain⟨k,b,t⟩:=e;simp only at he;subst he;simp only[List.cons_append,nK,cond_false];exact JX fun e he=>h e (List.mem_cons_of_mem _ he)
theorem SE{l l':List (Ex×Bool×Tr)}{n n':Option Tr}{f:Bool→Bool}(hf: ∀b,f b=b){out:Out}(h:nK l n=some out)(hl: ∀e∈l',e.2.1=false)(hn: ∀t,n=some t→ ∃t',n'=some t'∧Le t'.st t.st):
  ∃out',nK (l.map (fun e=>(e.1,f e.2.1,e.2.2))++l') n'=some out'∧LeOut out' out:=by
 induction l with
 |nil=>
  rw[List.map_nil,List.nil_append];have:=JX (l':=[]) (n:=n') hl;rw[List.append_nil]at this;rw[this];cases n with
  |none=>simp[nK]at h
  |some t=>
   simp only[nK,Option.some.injEq]at h;subst h;obtain⟨t',rfl,ht⟩:=hn t rfl;exact⟨_,rfl, .nor ht⟩
 |cons e r ih=>
  obtain⟨k,b,t⟩:=e;cases b
  ·simp only[nK,cond_false]at h;simp only[List.map_cons,List.cons_append,nK];rw[hf];exact ih h
  ·simp only[nK,cond_true]at h;simp only[List.map_cons,List.cons_append,nK];rw[hf];exact⟨_,h, .refl⟩
theorem FP{mg:Bool→St→St→Option St}{P:St→Prop}(hm:MgOk mg P){b:Bool}{o1 o2:O}(h1:o1.All P)(h2:o2.All P){out:Out}(h:(bif b then o1.den else o2.den)=some out):
  ∃out',(O1 mg b o1 o2).den=some out'∧LeOut out' out:=by
 cases b
 ·simp only[cond_false]at h;unfold O.den O1 at*;simp only;rw[JX (by intro e he;obtain⟨e',-,rfl⟩:=List.mem_map.1 he;simp)]
  have:=SE (l':=[]) (n':=JW mg false o1.nor o2.nor) (f:=fun b=>b&&!false) (by simp) h (by simp) (fun t ht=>by
   rw[ht];cases hn:o1.nor with
   |none=>exact⟨t,rfl, .rfl⟩
   |some t1=>exact⟨_,rfl,FO hm (h1.nor _ hn) (h2.nor _ ht)⟩)
  rwa [List.append_nil]at this
 ·simp only[cond_true]at h;unfold O.den O1 at*;simp only;exact SE (f:=fun b=>b&&true) (by simp) h (by intro e he;obtain⟨e',-,rfl⟩:=List.mem_map.1 he;simp) (fun t ht=>by
   rw[ht];cases hn:o2.nor with
   |none=>exact⟨t,rfl, .rfl⟩
   |some t2=>exact⟨_,rfl,FO hm (h1.nor _ ht) (h2.nor _ hn)⟩)
theorem YE{mg:Bool→St→St→Option St}{P:St→Prop}(hm:MgOk mg P){b:Bool}{o1 o2:O}(h1:o1.All P)(h2:o2.All P):(O1 mg b o1 o2).All P:=by
 constructor
 ·intro e he;simp only[O1,List.mem_append,List.mem_map]at he;rcases he with⟨e',he',rfl⟩|⟨e',he',rfl⟩
  ·exact h1.ex e' he'
  ·exact h2.ex e' he'
 ·intro t ht;simp only[O1]at ht;cases hn1:o1.nor with
  |none=>rw[hn1]at ht;exact h2.nor t ht
  |some t1=>
   cases hn2:o2.nor with
   |none=>rw[hn1,hn2]at ht;obtain rfl:=Option.some.inj ht;exact h1.nor _ hn1
   |some t2=>rw[hn1,hn2]at ht;obtain rfl:=Option.some.inj ht;exact SD hm (h1.nor _ hn1) (h2.nor _ hn2)
def aZX(b:Bool)(σ1 σ2:St):Option St:=yB b none false σ1 σ2
theorem JY:MgOk aZX (fun _=>True):=⟨fun b σ1 σ2 σ _ _ h=>SB (σ0:=σ) h ⟨by simp,by simp⟩ ⟨by simp,by simp⟩,fun _ _ _ _ _ _ _=>trivial⟩
theorem O.All.triv(o:O):o.All fun _=>True:=by
 have: ∀t:Tr,t.All fun _=>True:=by
  intro t
  induction t with
  |leaf=>trivial
  |br b x y ihx ihy=>exact⟨ihx,ihy⟩
 exact⟨fun e _=>this _,fun t _=>this t⟩
def aIH(f:St→Option (O×Bool)):Tr→Option (O×Bool)
 | .leaf σ=>f σ
 | .br b x y=>(aIH f x).bind fun r1=>(aIH f y).bind fun r2=>some (O1 aZX b r1.1 r2.1,(r1.2||!b)&&(r2.2||b))
def bAU:List (Ex×Bool×Tr)→Bool→Bool
 |[],ok=>ok
 |e::r,ok=>bAU r ok||e.2.1
def GT(r:O×Bool)(f:St→Option (O×Bool)):Option (O×Bool):=
 match r.1.nor with
 |none=>some r
 |some t=>(aIH f t).bind fun r2=>some (⟨r.1.ex++r2.1.ex,r2.1.nor⟩,r.2&&bAU r.1.ex r2.2)
def SF(f:St→Option (O×Bool))(g:St→Option Out):Prop:= ∀σ σr o,f σ=some (o,true)→Le σ σr→ ∃out0 out,o.den=some out0∧g σr=some out∧LeOut out0 out
theorem HK{f:St→Option (O×Bool)}{g:St→Option Out}(hf:SF f g): ∀{t:Tr}{σr:St}{o:O},aIH f t=some (o,true)→Le t.st σr→ ∃out0 out,o.den=some out0∧g σr=some out∧LeOut out0 out
 | .leaf σ,σr,o,h,hl=>hf σ σr o h hl
 | .br b x y,σr,o,h,hl=>by
   simp only[aIH,Option.bind_eq_some_iff,Option.some.injEq,Prod.mk.injEq,Bool.and_eq_true,Bool.or_eq_true]at h;obtain⟨r1,h1,r2,h2,rfl,k1,k2⟩:=h;cases b
   ·have k:r2.2=true:=by simpa using k2
    obtain⟨out0,out,a1,a2,a3⟩:=HK hf (t:=y) (σr:=σr) (o:=r2.1) (by rw[h2,←k]) hl
    obtain⟨out',b1,b2⟩:=FP (b:=false) (o1:=r1.1) JY (.triv _) (.triv _) a1;exact⟨out',out,b1,a2,b2.trans a3⟩
   ·have k:r1.2=true:=by simpa using k1
    obtain⟨out0,out,a1,a2,a3⟩:=HK hf (t:=x) (σr:=σr) (o:=r1.1) (by rw[h1,←k]) hl
    obtain⟨out',b1,b2⟩:=FP (b:=true) (o2:=r2.1) JY (.triv _) (.triv _) a1;exact⟨out',out,b1,a2,b2.trans a3⟩
theorem YF: ∀{l:List (Ex×Bool×Tr)}{ok:Bool}{t:Tr}{out:Out},bAU l ok=true→nK l (some t)=some out→(∃σ,out= .nor σ)→ok=true
 |[],ok,t,out,h,hd,hn=>h
 |(k,b,u)::r,ok,t,out,h,hd,hn=>by
  cases b
  ·simp only[bAU,Bool.or_false]at h;simp only[nK,cond_false]at hd;exact YF h hd hn
  ·simp only[nK,cond_true,Option.some.injEq]at hd;obtain⟨σ,rfl⟩:=hn;cases k<;>simp[Ex.out]at hd
theorem HL: ∀{l:List (Ex×Bool×Tr)}{n:Option Tr}{out:Out},nK l n=some out→(∃k σ,out=Ex.out k σ∧ ∀l' m,nK (l++l') m=some out)∨(∃t,n=some t∧out= .nor t.st∧ ∀l' m,nK (l++l') m=nK l' m)
 |[],none,out,h=>by simp[nK]at h
 |[],some t,out,h=>by
  simp only[nK,Option.some.injEq]at h;exact .inr ⟨t,rfl,h.symm,fun _ _=>rfl⟩
 |(k,b,t)::r,n,out,h=>by
  cases b
  ·simp only[nK,cond_false]at h;simp only[List.cons_append,nK,cond_false];exact HL h
  ·simp only[nK,cond_true,Option.some.injEq]at h;subst h;exact .inl ⟨k,t.st,rfl,fun l' m=>by simp[nK]⟩
theorem O2{r:O×Bool}{f:St→Option (O×Bool)}{g:St→Option Out}(hf:SF f g){o:O}(h:GT r f=some (o,true)){out0 out:Out}(hd:r.2=true→r.1.den=some out0∧LeOut out0 out):
  ∃out0' out',o.den=some out0'∧(match out with| .nor σ=>g σ|o=>some o)=some out'∧LeOut out0' out':=by
 unfold GT at h;split at h
 ·rename_i hn;obtain⟨rfl,hr⟩:r.1=o∧r.2=true:=by
   have:=Option.some.inj h;rw[this];exact⟨rfl,rfl⟩
  obtain⟨hden,hl⟩:=hd hr;refine⟨out0,out,hden,?_,hl⟩;unfold O.den at hden;cases hl with
  |nor hl=>
   rcases HL hden with⟨k,σ,e,-⟩|⟨t,e,-⟩
   ·cases k<;>simp[Ex.out]at e
   ·rw[hn]at e;simp at e
  |brk hl=>rfl
  |ret hl=>rfl
 ·rename_i t hn;simp only[Option.bind_eq_some_iff,Option.some.injEq,Prod.mk.injEq,Bool.and_eq_true]at h;obtain⟨r2,h2,rfl,k1,k2⟩:=h;obtain⟨hden,hl⟩:=hd k1;unfold O.den at hden;rcases HL hden with⟨k,σ,rfl,e⟩|⟨t',e1,rfl,e2⟩
  ·refine⟨Ex.out k σ,out,e _ _,?_,hl⟩;cases k<;>cases hl<;>rfl
  ·rw[hn]at e1 hden;obtain rfl:=Option.some.inj e1;cases hl with
   |nor hl=>
    have hok:=YF k2 hden ⟨_,rfl⟩;obtain⟨o0,o1,a1,a2,a3⟩:=HK hf (t:=t) (o:=r2.1) (by rw[h2,←hok]) hl
    exact⟨o0,o1,by unfold O.den;rw[e2];exact a1,a2,a3⟩
end Go.Zq

namespace Go.Zq
open Option renaming bind_eq_some_iff → qB
open Option.some renaming injEq → qI
open Option.some renaming inj → qi
open Prod.mk renaming injEq → qP
open Go
theorem aZY{a:Option (List Nat)}{q:Bool}{σ0:St}:MgOk aZX (Fr a q σ0) where
 le b σ1 σ2 σ _ _ h:=JY.le b σ1 σ2 σ trivial trivial h
 all b σ1 σ2 σ h1 h2 h:=by
  have hle:=JY.le b σ1 σ2 σ trivial trivial h;cases b
  ·exact⟨fun l hl n v hn hv=>h2.sl l hl n v hn (hle.sl n v hv),fun hq=>hle.hp.symm.trans (h2.hp hq)⟩
  ·exact⟨fun l hl n v hn hv=>h1.sl l hl n v hn (hle.sl n v hv),fun hq=>hle.hp.symm.trans (h1.hp hq)⟩
def unO(a b:Option (List Nat)):Option (List Nat):=
 match a,b with
 |some x,some y=>some (x++y)
 |_,_=>none
def HM:C→Option (List Nat)
 | .ops l _=>some (l.flatMap fun g=>g.2.dsts)
 | .seq x y=>unO (HM x) (HM y)
 | .cond _ x y=>unO (HM x) (HM y)
 | .blk _ x=>HM x
 | .loop _ _=>none
 | .drw (l::_) _ false=>some (l.flatMap fun g=>g.2.dsts)
 | .drw _ _ _=>none
 |_=>some []
def qX:C→Bool
 | .ops l _=>l.all fun g=>qW g.2
 | .seq x y=>qX x&&qX y
 | .cond _ x y=>qX x&&qX y
 | .blk _ x=>qX x
 | .loop _ _=>false
 | .drw .. =>false
 |_=>true
theorem Fr.rfl{a:Option (List Nat)}{q:Bool}{σ:St}:Fr a q σ σ:=⟨fun _ _ _ _ _ h=>h,fun _=>Eq.refl _⟩
theorem Fr.left{a b:Option (List Nat)}{q r:Bool}{σ τ:St}(h:Fr a q σ τ):Fr (unO a b) (q&&r) σ τ:=⟨fun l hl n v hn hv=>by
 unfold unO at hl;split at hl
 ·obtain rfl:=qi hl;simp only[List.mem_append,not_or]at hn;exact h.sl _ (Eq.refl _) n v hn.1 hv
 ·simp at hl,fun hq=>h.hp (by simp at hq;exact hq.1)⟩
theorem Fr.right{a b:Option (List Nat)}{q r:Bool}{σ τ:St}(h:Fr b r σ τ):Fr (unO a b) (q&&r) σ τ:=⟨fun l hl n v hn hv=>by
 unfold unO at hl;split at hl
 ·obtain rfl:=qi hl;simp only[List.mem_append,not_or]at hn;exact h.sl _ (Eq.refl _) n v hn.2 hv
 ·simp at hl,fun hq=>h.hp (by simp at hq;exact hq.2)⟩
theorem Fr.trans{a b:Option (List Nat)}{q r:Bool}{σ τ ω:St}(h:Fr a q σ τ)(k:Fr b r τ ω):Fr (unO a b) (q&&r) σ ω:=⟨fun l hl n v hn hv=>by
 unfold unO at hl;split at hl
 ·obtain rfl:=qi hl;simp only[List.mem_append,not_or]at hn;exact h.sl _ (Eq.refl _) n v hn.1 (k.sl _ (Eq.refl _) n v hn.2 hv)
 ·simp at hl,fun hq=>by
 simp only[Bool.and_eq_true]at hq;exact(k.hp hq.2).trans (h.hp hq.1)⟩
theorem SG{a:Option (List Nat)}{q:Bool}{σ0:St}{f:St→Option (O×Bool)}: ∀{t:Tr}{r:O×Bool},(∀σ r,f σ=some r→t.All (fun _=>True)→r.1.All (Fr a q σ))→aIH f t=some r→ ∀{a0:Option (List Nat)}{q0:Bool},t.All (Fr a0 q0 σ0)→r.1.All (Fr (unO a0 a) (q0&&q) σ0)
 | .leaf σ,r,hf,h,a0,q0,ht=>(hf σ r h trivial).mono fun τ hτ=>Fr.trans ht hτ
 | .br b x y,r,hf,h,a0,q0,ht=>by
   have htr: ∀t:Tr,t.All fun _=>True:=by
    intro t
    induction t with
    |leaf=>trivial
    |br b x y ihx ihy=>exact⟨ihx,ihy⟩
   simp only[aIH,qB,qI]at h;obtain⟨r1,h1,r2,h2,rfl⟩:=h;exact YE aZY (SG (fun σ r h _=>hf σ r h (htr _)) h1 ht.1) (SG (fun σ r h _=>hf σ r h (htr _)) h2 ht.2)
theorem aVT{a a0:Option (List Nat)}{q q0:Bool}{σ0:St}{f:St→Option (O×Bool)}{r r':O×Bool}(hf: ∀σ r,f σ=some r→r.1.All (Fr a q σ))(hr:r.1.All (Fr a0 q0 σ0))(h:GT r f=some r'):r'.1.All (Fr (unO a0 a) (q0&&q) σ0):=by
 unfold GT at h;split at h
 ·obtain rfl:=qi h;exact hr.mono fun _ h=>h.left
 ·rename_i t hn;simp only[qB,qI]at h;obtain⟨r2,h2,rfl⟩:=h;have h3:=SG (fun σ r h _=>hf σ r h) h2 (hr.nor t hn)
  refine⟨fun e he=>?_,h3.nor⟩
  simp only[List.mem_append]at he;rcases he with he|he
  ·exact(hr.ex e he).mono fun _ h=>h.left
  ·exact h3.ex e he
def wD(mg:Bool→St→St→Option St)(id:Nat):List (Ex×Bool×Tr)→Option Tr→List (Ex×Bool×Tr)×Option Tr
 |[],n=>([],n)
 |(k,p,t)::r,n=>
  match k with
  | .ret=>let q:=wD mg id r n;((.ret,p,t)::q.1,q.2)
  | .brk j=>
    if j=id then let q:=wD mg id r n;(q.1.map (fun e=>(e.1,e.2.1&&!p,e.2.2)),JW mg p (some t) q.2)
    else let q:=wD mg id r n;((.brk j,p,t)::q.1,q.2)
def yS(id:Nat):Out→Out
 | .brk j σ=>if j=id then .nor σ else .brk j σ
 |o=>o
theorem MH{mg:Bool→St→St→Option St}{P:St→Prop}(hm:MgOk mg P){id:Nat}: ∀{l:List (Ex×Bool×Tr)}{n:Option Tr},(O.mk l n).All P→(O.mk (wD mg id l n).1 (wD mg id l n).2).All P
 |[],n,h=>h
 |(k,p,t)::r,n,h=>by
  have ih:=MH hm (id:=id) (l:=r) (n:=n) ⟨fun e he=>h.ex e (List.mem_cons_of_mem _ he),h.nor⟩
  have ht:t.All P:=h.ex _ (List.mem_cons_self ..);unfold wD;split
  ·refine⟨fun e he=>?_,ih.nor⟩
   simp only[List.mem_cons]at he;rcases he with rfl|he
   ·exact ht
   ·exact ih.ex e he
  ·split
   ·refine⟨fun e he=>?_,fun u hu=>?_⟩
    ·obtain⟨e',he',rfl⟩:=List.mem_map.1 he;exact ih.ex e' he'
    ·simp only at hu;cases hn:(wD mg id r n).2 with
     |none=>rw[hn]at hu;obtain rfl:=qi hu;exact ht
     |some t2=>rw[hn]at hu;obtain rfl:=qi hu;exact SD hm ht (ih.nor _ hn)
   ·refine⟨fun e he=>?_,ih.nor⟩
    simp only[List.mem_cons]at he;rcases he with rfl|he
    ·exact ht
    ·exact ih.ex e he
theorem YG{mg:Bool→St→St→Option St}{P:St→Prop}(hm:MgOk mg P){id:Nat}: ∀{l:List (Ex×Bool×Tr)}{n:Option Tr}{out:Out},(O.mk l n).All P→nK l n=some out→ ∃out',nK (wD mg id l n).1 (wD mg id l n).2=some out'∧LeOut out' (yS id out)
 |[],none,out,h,hd=>by simp[nK]at hd
 |[],some t,out,h,hd=>by
  simp only[nK,qI]at hd;subst hd;exact⟨_,rfl, .refl⟩
 |(k,p,t)::r,n,out,h,hd=>by
  have hr:(O.mk r n).All P:=⟨fun e he=>h.ex e (List.mem_cons_of_mem _ he),h.nor⟩
  have ha:=MH hm (id:=id) hr;have ht:t.All P:=h.ex _ (List.mem_cons_self ..);unfold wD;cases p
  ·simp only[nK,cond_false]at hd;obtain⟨out',i1,i2⟩:=YG hm (id:=id) hr hd;split
   ·exact⟨out',by simp only[nK,cond_false];exact i1,i2⟩
   ·split
    ·simp only;have:=SE (l':=[]) (n':=JW mg false (some t) (wD mg id r n).2) (f:=fun b=>b&&!false) (by simp) i1 (by simp) (fun u hu=>by
      rw[hu];exact⟨_,rfl,FO (b:=false) hm ht (ha.nor _ hu)⟩)
     rw[List.append_nil]at this;obtain⟨o2,j1,j2⟩:=this;exact⟨o2,j1,j2.trans i2⟩
    ·exact⟨out',by simp only[nK,cond_false];exact i1,i2⟩
  ·simp only[nK,cond_true,qI]at hd;subst hd;split
   ·exact⟨_,rfl, .refl⟩
   ·rename_i j;split
    ·rename_i e;subst e;simp only;have:=JX (l:=(wD mg j r n).1.map (fun e=>(e.1,e.2.1&&!true,e.2.2))) (l':=[]) (n:=JW mg true (some t) (wD mg j r n).2) (by intro e he;obtain⟨e',-,rfl⟩:=List.mem_map.1 he;simp)
     rw[List.append_nil]at this;rw[this];simp only[Ex.out,yS,if_true];cases hn:(wD mg j r n).2 with
     |none=>exact⟨_,rfl, .refl⟩
     |some t2=>exact⟨_,rfl, .nor (FO (b:=true) hm ht (ha.nor _ hn))⟩
    ·rename_i e;refine⟨.brk j t.st,rfl,?_⟩;simp only[Ex.out,yS,e,if_false];exact .refl
def YH(nb:Nat)(live:List Nat)(f:St→Option (O×Bool)):Nat→St→Option (O×Bool)
 |0,_=>some (⟨[],none⟩,false)
 |n+1,σ=>(ME true nb live σ).bind fun c=>(f c.1).bind fun r=>(GT r (YH nb live f n)).bind fun o=>some (o.1,c.2&&o.2)
def b00(cl:List Nat):Opd→Bool
 | .t n=>cl.contains n
 | .c _=>true
abbrev Lq:=List Nat→St→Option (O×Bool)
def lqN:Lq:=fun _ _=>none
def fN(T:List Nat→C→Prop):C→Prop
 | .seq x y=>fN T x∧fN T y
 | .cond _ x y=>fN T x∧fN T y
 | .blk _ x=>fN T x
 | .loop live x=>T live x∧fN T x
 |_=>True
noncomputable def same{α:Type}(a b:α):Bool:= @decide (a=b) (Classical.propDecidable _)
theorem pK{α:Type}{a b:α}(h:same a b=true):a=b:=by
 unfold same at h;exact @of_decide_eq_true _ (Classical.propDecidable _) h
theorem vU{α:Type}(a:α):same a a=true:=by
 unfold same;exact @decide_eq_true _ (Classical.propDecidable _) rfl
noncomputable def aFX(a b:List Row):Bool:=same a b
theorem aII(a:List Row):aFX a a=true:=vU a
noncomputable def eqV:Value→Value→Bool
 | .int k x, .int k' y=>decide (k=k')&&same x y
 | .bool x, .bool y=>same x y
 | .string x, .string y=>same x y
 |v,u=>same v u
theorem bJM{v u:Value}(h:eqV v u=true):v=u:=by
 unfold eqV at h;split at h
 ·obtain⟨h1,h2⟩:=bI h;rw[of_decide_eq_true h1,pK h2]
 ·rw[pK h]
 ·rw[pK h]
 ·exact pK h
noncomputable def eqT:T→T→Bool
 | .lit v, .lit u=>eqV v u
 | .ptr i r o, .ptr i' r' o'=>Nat.beq i i'&&(Nat.beq r r'&&Nat.beq o o')
 | .sl i o l, .sl i' o' l'=>Nat.beq i i'&&(Nat.beq o o'&&same l l')
 | .nls n, .nls m=>Nat.beq n m
 | .imm p n r, .imm p' n' r'=>same p p'&&(Nat.beq n n'&&aFX r r')
 | .clo f c, .clo f' c'=>Nat.beq f f'&&same c c'
 |t,u=>same t u
theorem aZ0{v u:T}(h:eqT v u=true):v=u:=by
 unfold eqT at h;split at h
 ·rw[bJM h]
 ·obtain⟨h1,h2⟩:=bI h;obtain⟨h2,h3⟩:=bI h2;rw[Nat.eq_of_beq_eq_true h1,Nat.eq_of_beq_eq_true h2,Nat.eq_of_beq_eq_true h3]
 ·obtain⟨h1,h2⟩:=bI h;obtain⟨h2,h3⟩:=bI h2;rw[Nat.eq_of_beq_eq_true h1,Nat.eq_of_beq_eq_true h2,pK h3]
 ·rw[Nat.eq_of_beq_eq_true h]
 ·obtain⟨h1,h2⟩:=bI h;obtain⟨h2,h3⟩:=bI h2;rw[pK h1,Nat.eq_of_beq_eq_true h2,pK h3]
 ·obtain⟨h1,h2⟩:=bI h;rw[Nat.eq_of_beq_eq_true h1,pK h2]
 ·exact pK h
noncomputable def aVU:Row→Row→Bool
 |[],[]=>true
 |t::r,u::s=>eqT t u&&aVU r s
 |_,_=>false
theorem Z0: ∀{v u:Row},aVU v u=true→v=u
 |[],[],_=>rfl
 |t::r,u::s,h=>by
  obtain⟨h1,h2⟩:=bI h;rw[aZ0 h1,Z0 h2]
 |[],_::_,h=>by simp[aVU]at h
 |_::_,[],h=>by simp[aVU]at h
noncomputable def bJN:SV→SV→Bool
 | .und, .und=>true
 | .one t, .one u=>eqT t u
 | .agg t, .agg u=>aVU t u
 |v,u=>same v u
theorem bAV{v u:SV}(h:bJN v u=true):v=u:=by
 unfold bJN at h;split at h
 ·rfl
 ·rw[aZ0 h]
 ·rw[Z0 h]
 ·exact pK h
noncomputable def aZ1:List (Nat×SV)→List (Nat×SV)→Bool
 |[],[]=>true
 |(n,v)::r,(m,u)::s=>Nat.beq n m&&(bJN v u&&aZ1 r s)
 |_,_=>false
theorem aOT: ∀{v u:List (Nat×SV)},aZ1 v u=true→v=u
 |[],[],_=>rfl
 |(n,v)::r,(m,u)::s,h=>by
  obtain⟨h1,h2⟩:=bI h;obtain⟨h2,h3⟩:=bI h2;rw[Nat.eq_of_beq_eq_true h1,bAV h2,aOT h3]
 |[],_::_,h=>by simp[aZ1]at h
 |_::_,[],h=>by simp[aZ1]at h
noncomputable def aZ2:Blk→Blk→Bool
 | .dead, .dead=>true
 | .box t, .box u=>aVU t u
 | .lst n t, .lst m u=>Nat.beq n m&&aFX t u
 |v,u=>same v u
theorem aZ3{v u:Blk}(h:aZ2 v u=true):v=u:=by
 unfold aZ2 at h;split at h
 ·rfl
 ·rw[Z0 h]
 ·obtain⟨h1,h2⟩:=bI h;rw[Nat.eq_of_beq_eq_true h1,pK h2]
 ·exact pK h
noncomputable def aZ4:List Blk→List Blk→Bool
 |[],[]=>true
 |t::r,u::s=>aZ2 t u&&aZ4 r s
 |_,_=>false
theorem aOU: ∀{v u:List Blk},aZ4 v u=true→v=u
 |[],[],_=>rfl
 |t::r,u::s,h=>by
  obtain⟨h1,h2⟩:=bI h;rw[aZ3 h1,aOU h2]
 |[],_::_,h=>by simp[aZ4]at h
 |_::_,[],h=>by simp[aZ4]at h
noncomputable def b01(σ τ:St):Bool:=aZ1 σ.sl τ.sl&&aZ4 σ.hp τ.hp
theorem bAW{σ τ:St}(h:b01 σ τ=true):σ=τ:=by
 obtain⟨h1,h2⟩:=bI h;cases σ;cases τ;simp only at h1 h2;rw[aOT h1,aOU h2]
def bAX(nb:Nat)(kp:List Nat)(cn:Bool)(σ:St):Option (St×Bool):=
 if cn=true then
  if kp.contains 999998=true then if((kp.filter (·!=999998)).all fun n=>(bQ n σ.sl).isSome)=true then(ZF nb (trim (some (kp.filter (·!=999998))) σ)).bind fun c=>some (c,true)else none
  else ME true nb kp σ
 else if(kp.all fun n=>(bQ n σ.sl).isSome)=true then some (trim (some kp) σ,true)else none
theorem SH{σ σr:St}(hl:Le σ σr): ∀{kp:List Nat},(kp.all fun n=>(bQ n σ.sl).isSome)=true→keep σr.sl kp=keep σ.sl kp∧(kp.all fun n=>(bQ n σr.sl).isSome)=true
 |[],_=>⟨rfl,rfl⟩
 |n::r,h=>by
  simp only[List.all_cons,Bool.and_eq_true]at h;obtain⟨h1,h2⟩:=h;obtain⟨v,hv⟩:=Option.isSome_iff_exists.1 h1;have hr:=hl.sl n v hv;obtain⟨i1,i2⟩:=SH hl h2;constructor
  ·simp only[keep,hv,hr,i1]
  ·simp only[List.all_cons,hr,i2];rfl
noncomputable def JZ(Q:Qt)(kd:List (Nat×List Kd))(nb:Nat)(kp:List Nat)(cn:Bool):List (List G)→St→Option (St×Bool)
 |[],_=>none
 |l::r,σ=>
  match(x9 (2*l.length+2) none l).2 with
  |[]=>(evI Q kd (x9 (2*l.length+2) none l).1 σ).bind fun x=>(bAX nb kp cn x.1).bind fun c=>match r with
   |[]=>some (c.1,x.2&&c.2)
   |_::_=>(JZ Q kd nb kp cn r σ).bind fun c'=>some (c.1,(x.2&&c.2)&&(c'.2&&b01 c'.1 c.1))
  |_::_=>none
noncomputable def LU(Q:Qt)(kd:List (Nat×List Kd))(cl:List Nat)(lq:Lq)(nb n:Nat):C→St→Option (O×Bool)
 | .drw ls kp cn,σ=>(JZ Q kd nb kp cn ls σ).bind fun r=>some (⟨[],some (.leaf r.1)⟩,r.2)
 | .ops l kp,σ=>
   match(x9 (2*l.length+2) none l).2 with
   |[]=>(evI Q kd (x9 (2*l.length+2) none l).1 σ).bind fun r=>some (⟨[],some (.leaf (trim kp r.1))⟩,r.2)
   |_::_=>none
 | .seq x y,σ=>(LU Q kd cl lq nb n x σ).bind fun r=>GT r (LU Q kd cl lq nb n y)
 | .cond c x y,σ=>(σ.ev c).bind fun v=>(asBool v).bind fun b=>
   if b00 cl c=true then match b with
    |true=>LU Q kd cl lq nb n x σ
    |false=>LU Q kd cl lq nb n y σ
   else(LU Q kd cl lq nb n x σ).bind fun r1=>(LU Q kd cl lq nb n y σ).bind fun r2=>
    some (O1 (fun b=>yB b (unO (HM x) (HM y)) (qX x&&qX y)) b r1.1 r2.1,(r1.2||!b)&&(r2.2||b))
 | .blk id x,σ=>(LU Q kd cl lq nb n x σ).bind fun r=>
   let q:=wD (fun b=>yB b (HM x) (qX x)) id r.1.ex r.1.nor
   some (⟨q.1,q.2⟩,r.2)
 | .loop live x,σ=>match lq live σ with
   |some r=>some r
   |none=>YH nb live (LU Q kd cl lq nb n x) n σ
 | .brk id,σ=>some (⟨[(.brk id,true, .leaf σ)],none⟩,true)
 | .ret,σ=>some (⟨[(.ret,true, .leaf σ)],none⟩,true)
 | .skip,σ=>some (⟨[],some (.leaf σ)⟩,true)
theorem wE{a:Option (List Nat)}{q:Bool}{σ0:St}:MgOk (fun b=>yB b a q) (Fr a q σ0) where
 le b σ1 σ2 σ h1 h2 h:=SB h h1 h2
 all b σ1 σ2 σ h1 h2 h:=aIG h h1
theorem yC{n:Nat}{v:SV}{sl:List (Nat×SV)}: ∀{l:List Nat},bQ n (keep sl l)=some v→n∈l∧bQ n sl=some v
 |[],h=>by simp[keep,bQ]at h
 |m::r,h=>by
  unfold keep at h;split at h
  ·rename_i u hu;simp only[bQ]at h;split at h
   ·rename_i e;subst e;obtain rfl:=qi h;exact⟨List.mem_cons_self ..,hu⟩
   ·have:=yC h;exact⟨List.mem_cons_of_mem _ this.1,this.2⟩
  ·have:=yC h;exact⟨List.mem_cons_of_mem _ this.1,this.2⟩
theorem SI{n:Nat}{v:SV}{sl:List (Nat×SV)}: ∀{l:List Nat},n∈l→bQ n sl=some v→bQ n (keep sl l)=some v
 |m::r,hm,h=>by
  unfold keep;by_cases e:m=n
  ·subst e;rw[h];simp[bQ]
  ·have hr:n∈r:=by
    rcases List.mem_cons.1 hm with h|h
    ·exact absurd h.symm e
    ·exact h
   split
   ·simp only[bQ,e,if_false];exact SI hr h
   ·exact SI hr h
theorem aOV{kp:Option (List Nat)}{σ σr:St}(h:Le σ σr):Le (trim kp σ) (trim kp σr):=by
 cases kp with
 |none=>exact h
 |some l=>exact⟨fun n v hn=>by
   have:=yC hn;exact SI this.1 (h.sl n v this.2),h.hp⟩
theorem aFY{kp:Option (List Nat)}{σ:St}{n:Nat}{v:SV}(h:bQ n (trim kp σ).sl=some v):bQ n σ.sl=some v:=by
 cases kp with
 |none=>exact h
 |some l=>exact(yC h).2
theorem bAY{kp:Option (List Nat)}{σ:St}:(trim kp σ).hp=σ.hp:=by cases kp<;>rfl
theorem AE{n:Nat}: ∀{its:Its}{g:Option (Nat×Bool)},(∀x∈its.flat g,n∉x.2.dsts)→n∉its.dsts
 | .nil,g,h=>by simp[Its.dsts]
 | .op k r,g,h=>by
   simp only[Its.flat,List.mem_cons,forall_eq_or_imp]at h;simp only[Its.dsts,List.mem_append,not_or];exact⟨h.1,AE h.2⟩
 | .iff s w its d a b r,g,h=>by
   simp only[Its.flat,List.mem_append,List.mem_cons]at h;simp only[Its.dsts,List.mem_append,List.mem_cons,not_or];refine⟨AE fun x hx=>h x (.inl hx),?_,AE fun x hx=>h x (.inr (.inr hx))⟩
   have:=h _ (.inr (.inl rfl));simpa [K.dsts,K.dst]using this
theorem BG: ∀{its:Its}{g:Option (Nat×Bool)},(∀x∈its.flat g,qW x.2=true)→its.quiet=true
 | .nil,g,h=>rfl
 | .op k r,g,h=>by
   simp only[Its.flat,List.mem_cons,forall_eq_or_imp]at h;simp only[Its.quiet,Bool.and_eq_true];exact⟨h.1,BG h.2⟩
 | .iff s w its d a b r,g,h=>by
   simp only[Its.flat,List.mem_append,List.mem_cons]at h;simp only[Its.quiet,Bool.and_eq_true];exact⟨BG fun x hx=>h x (.inl hx),BG fun x hx=>h x (.inr (.inr hx))⟩
theorem AF{n:Nat}{l:List G}(h:(x9 n none l).2=[]):(x9 n none l).1.flat none=l:=by
 have:=BE n none l
 rwa [h,List.append_nil]at this
theorem aFZ{Q:Qt}{kd:List (Nat×List Kd)}{nb:Nat}{kp:List Nat}{l:List G}{r:List (List G)}{σ:St}{c:St×Bool}(h:JZ Q kd nb kp false (l::r) σ=some c)(n:Nat)(v:SV)(hn:n∉l.flatMap fun g=>g.2.dsts)(hv:bQ n c.1.sl=some v):
  bQ n σ.sl=some v:=by
 unfold JZ at h;split at h
 ·rename_i hp;simp only[qB]at h;obtain⟨i,hi,x,hx,h⟩:=h;have hc:c.1=x.1:=by
   split at h
   ·obtain rfl:=qi h;rfl
   ·simp only[qB,qI]at h;obtain⟨_,_,rfl⟩:=h;rfl
  rw[hc]at hv;unfold bAX at hx;rw[if_neg (by simp)]at hx
  obtain⟨-,hx1⟩:=cC hx;obtain rfl:=qi hx1;have hf:=AF hp;refine FL hi n v (AE (g:=none) fun x hx=>?_) (aFY hv)
  rw[hf]at hx;exact fun e=>hn (List.mem_flatMap.2 ⟨x,hx,e⟩)
 ·simp at h
theorem sY{Q:Qt}{kd:List (Nat×List Kd)}{cl:List Nat}{lq:Lq}{nb n:Nat}: ∀{c:C}{σ:St}{r:O×Bool},LU Q kd cl lq nb n c σ=some r→r.1.All (Fr (HM c) (qX c) σ)
 | .drw ls kp cn,σ,r,h=>by
   simp only[LU,qB,qI]at h;obtain⟨c,hc,rfl⟩:=h;refine⟨by simp,fun t ht=>?_⟩
   obtain rfl:=qi ht;refine⟨fun l' hl' m v hm hv=>?_,fun hq=>by simp[qX]at hq⟩
   cases ls with
   |nil=>simp[JZ]at hc
   |cons l ls=>
    cases cn with
    |true=>simp[HM]at hl'
    |false=>
     simp only[HM,qI]at hl';subst hl';exact aFZ hc m v hm hv
 | .ops l kp,σ,r,h=>by
   unfold LU at h;split at h
   ·rename_i hp;simp only[qB,qI]at h;obtain⟨i,hi,rfl⟩:=h;have hf:=AF hp;refine⟨by simp,fun t ht=>?_⟩
    obtain rfl:=qi ht;refine⟨fun l' hl' m v hm hv=>?_,fun hq=>?_⟩
    ·simp only[HM,qI]at hl';subst hl';refine FL hi m v (AE (g:=none) fun x hx=>?_) (aFY hv)
     rw[hf]at hx;exact fun e=>hm (List.mem_flatMap.2 ⟨x,hx,e⟩)
    ·rw[bAY];refine FM (BG (g:=none) fun x hx=>?_) hi
     rw[hf]at hx;simp only[qX,List.all_eq_true]at hq;exact hq x hx
   ·simp at h
 | .seq x y,σ,r,h=>by
   simp only[LU,qB]at h;obtain⟨r1,h1,h2⟩:=h;exact aVT (fun σ r h=>sY h) (sY h1) h2
 | .cond c x y,σ,r,h=>by
   simp only[LU,qB]at h;obtain⟨v,hv,b,hb,h⟩:=h;split at h
   ·split at h
    ·exact(sY h).mono fun _ h=>h.left
    ·exact(sY h).mono fun _ h=>h.right
   ·simp only[qB,qI]at h;obtain⟨r1,h1,r2,h2,rfl⟩:=h;exact YE wE ((sY h1).mono fun _ h=>h.left) ((sY h2).mono fun _ h=>h.right)
 | .blk id x,σ,r,h=>by
   simp only[LU,qB,qI]at h;obtain⟨r1,h1,rfl⟩:=h;have h2:=MH (wE (a:=HM x) (q:=qX x)) (id:=id) (sY (c:=x) h1);exact h2
 | .loop live x,σ,r,h=>by
   have htr: ∀t:Tr,t.All (Fr none false σ):=by
    intro t
    induction t with
    |leaf=>exact⟨by simp,by simp⟩
    |br b x y ihx ihy=>exact⟨ihx,ihy⟩
   exact⟨fun e _=>htr _,fun t _=>htr t⟩
 | .brk id,σ,r,h=>by
   simp only[LU,qI]at h;subst h;exact⟨fun e he=>by simp only[List.mem_singleton]at he;subst he;exact Fr.rfl,by simp⟩
 | .ret,σ,r,h=>by
   simp only[LU,qI]at h;subst h;exact⟨fun e he=>by simp only[List.mem_singleton]at he;subst he;exact Fr.rfl,by simp⟩
 | .skip,σ,r,h=>by
   simp only[LU,qI]at h;subst h;exact⟨by simp,fun t ht=>by obtain rfl:=qi ht;exact Fr.rfl⟩
theorem DF{nb:Nat}{live:List Nat}{σ σr σ':St}(h:canon nb live σ=some σ')(hl:Le σ σr):canon nb live σr=some σ':=by
 have h0: ∃src m,∃r,lH σ src m live=some r:=by
  unfold canon at h;simp only at h;split at h
  ·simp only[qB]at h;obtain⟨x,hx,s,hs,h⟩:=h;exact⟨_,_,_,hs⟩
  ·simp at h
 have hlook: ∀s∈live,bQ s σr.sl=bQ s σ.sl:=by
  obtain⟨src,m,r,h0⟩:=h0
  clear h
  induction live generalizing m r with
  |nil=>simp
  |cons s t ih=>
   simp only[lH,qB]at h0;obtain⟨v,hv,h0⟩:=h0;intro s' hs';rcases List.mem_cons.1 hs' with rfl|hs'
   ·rw[hv,hl.sl _ _ hv]
   ·split at h0
    ·simp only[qB]at h0;obtain⟨x,hx,l,h0,-⟩:=h0;exact ih _ _ h0 _ hs'
    ·simp only[qB]at h0;obtain⟨x,hx,l,h0,-⟩:=h0;exact ih _ _ h0 _ hs'
    ·simp only[qB]at h0;obtain⟨l,h0,-⟩:=h0;exact ih _ _ h0 _ hs'
    ·simp at h0
 have hc: ∀live,(∀s∈live,bQ s σr.sl=bQ s σ.sl)→nY σr live=nY σ live:=by
  intro live
  induction live with
  |nil=>intro _;rfl
  |cons s t ih=>
   intro h;have:=ih fun s' hs'=>h s' (List.mem_cons_of_mem _ hs')
   unfold nY at*;rw[List.flatMap_cons,List.flatMap_cons,this,h s (List.mem_cons_self ..)]
 have hs: ∀live src m,(∀s∈live,bQ s σr.sl=bQ s σ.sl)→lH σr src m live=lH σ src m live:=by
  intro live
  induction live with
  |nil=>intro _ _ _;rfl
  |cons s t ih=>
   intro src m h;have:=fun m=>ih src m fun s' hs'=>h s' (List.mem_cons_of_mem _ hs')
   unfold lH;rw[h s (List.mem_cons_self ..)];simp only[this]
 rw[←h];unfold canon;simp only[hc live hlook,hl.hp,hs live _ _ hlook]
theorem O3{nb:Nat}{live:List Nat}{f:St→Option (O×Bool)}{g:St→Option Out}(hf:SF f g): ∀n,SF (YH nb live f n) (AZ nb live g n)
 |0=>fun σ σr o h hl=>by simp[YH]at h
 |n+1=>fun σ σr o h hl=>by
  simp only[YH,qB,qI,qP]at h;obtain⟨σ1,h1,r,hr,o2,h2,rfl,ho⟩:=h;obtain⟨ok1,ok2⟩:=bI ho;have hc:=DF (FG (σ':=σ1.1) (by rw[h1,←ok1])) hl
  have h2':GT r (YH nb live f n)=some (o2.1,true):=by rw[h2,←ok2]
  simp only[AZ,hc,Option.bind_some];have hr2:r.2=true:=by
   unfold GT at h2';split at h2'
   ·rw[qi h2']
   ·simp only[qB,qI,qP,Bool.and_eq_true]at h2';obtain⟨_,_,_,h,_⟩:=h2';exact h
  obtain⟨out0,out,a1,a2,a3⟩:=hf σ1.1 σ1.1 r.1 (by rw[hr,←hr2]) .rfl
  obtain⟨o0,o1,b1,b2,b3⟩:=O2 (O3 hf n) h2' (fun _=>⟨a1,a3⟩)
  refine⟨o0,o1,b1,?_,b3⟩;rw[a2,Option.bind_some,←b2];cases out<;>rfl
theorem aZ5{r r':O×Bool}{f:St→Option (O×Bool)}(h:GT r f=some r')(hr:r'.2=true):r.2=true:=by
 unfold GT at h;split at h
 ·rw[qi h,hr]
 ·simp only[qB,qI]at h;obtain⟨_,_,h⟩:=h;subst h;simp only[Bool.and_eq_true]at hr;exact hr.1
theorem aOW{nb:Nat}{kp:List Nat}{cn:Bool}{σ σr c:St}(h:bAX nb kp cn σ=some (c,true))(hl:Le σ σr):CJ nb kp cn σr=some c:=by
 unfold bAX at h;unfold CJ;split at h
 ·rename_i e;rw[if_pos e];split at h
  ·rename_i e1;rw[if_pos e1];obtain⟨h1,h2⟩:=cC h;obtain⟨k1,k2⟩:=SH hl h1;rw[if_pos k2];simp only[qB,qI,qP,and_true]at h2;obtain⟨c',hc,rfl⟩:=h2;rw[←hc];simp only[trim,k1,hl.hp]
  ·rename_i e1;rw[if_neg e1];exact DF (FG h) hl
 ·rename_i e;rw[if_neg e];obtain⟨h1,h2⟩:=cC h;obtain⟨k1,k2⟩:=SH hl h1;rw[if_pos k2];simp only[qI,qP,and_true]at h2;rw[←h2];simp only[trim,k1,hl.hp]
theorem DG{R:Rt}{Q:Qt}(hQ:X7 (dQ R) Q){kd:List (Nat×List Kd)}{nb:Nat}{kp:List Nat}{cn:Bool}{σ σr:St}(hl:Le σ σr): ∀{ls:List (List G)}{c:St},JZ Q kd nb kp cn ls σ=some (c,true)→oS R nb kp cn ls σr=some c
 |[],c,h=>by simp[JZ]at h
 |l::r,c,h=>by
  unfold JZ at h;split at h
  case h_2=>simp at h
  rename_i hp;simp only[qB]at h;obtain⟨i,hi,x,hx,h⟩:=h;have run:i.2=true→ ∃τ,d9 R l σr=some τ∧Le i.1 τ:=fun ho=>by
   obtain⟨τ,h1,h2⟩:=FN hQ (g:=none) (by rw[hi,←ho]) hl (fun s w e=>by simp at e) (fun s w e=>by simp at e)
   rw[AF hp]at h1;exact⟨τ,h1,h2⟩
  cases r with
  |nil=>
   simp only[qI,qP]at h;obtain⟨rfl,ho⟩:=h;obtain⟨o1,o2⟩:=bI ho;obtain⟨τ,h1,h2⟩:=run o1;simp only[oS,h1,Option.bind_some];rw[aOW (c:=x.1) (by rw[hx,←o2]) h2]
   rfl
  |cons m r=>
   simp only[qB,qI,qP]at h;obtain⟨c',hc',rfl,ho⟩:=h;obtain⟨o1,o2⟩:=bI ho;obtain⟨o1,o3⟩:=bI o1;obtain⟨o2,o4⟩:=bI o2;obtain⟨τ,h1,h2⟩:=run o1;have h3:=DG hQ hl (ls:=m::r) (c:=c'.1) (by rw[hc',←o2])
   unfold oS;rw[h1,Option.bind_some,aOW (c:=x.1) (by rw[hx,←o3]) h2,Option.bind_some]
   simp only;rw[h3,Option.bind_some,if_pos (bAW o4)]
theorem oC{R:Rt}{Q:Qt}(hQ:X7 (dQ R) Q){kd:List (Nat×List Kd)}{cl:List Nat}{lq:Lq}{nb n:Nat}: ∀{c:C},fN (fun live x=>SF (lq live) (fT R nb n (.loop live x))) c→SF (LU Q kd cl lq nb n c) (fT R nb n c)
 | .drw ls kp cn,hL=>fun σ σr o h hl=>by
   simp only[LU,qB,qI,qP]at h;obtain⟨c,hc,rfl,ho⟩:=h;have:=DG hQ hl (c:=c.1) (by rw[hc,←ho])
   exact⟨.nor c.1, .nor c.1,rfl,by simp[fT,this], .nor .rfl⟩
 | .ops l kp,hL=>fun σ σr o h hl=>by
   unfold LU at h;split at h
   ·rename_i hp;simp only[qB,qI,qP]at h;obtain⟨i,hi,rfl,ho⟩:=h;obtain⟨τ,h1,h2⟩:=FN hQ (g:=none) (by rw[hi,←ho]) hl (fun s w e=>by simp at e) (fun s w e=>by simp at e)
    rw[AF hp]at h1;exact⟨.nor (trim kp i.1), .nor (trim kp τ),rfl,by simp[fT,h1], .nor (aOV h2)⟩
   ·simp at h
 | .seq x y,hL=>fun σ σr o h hl=>by
   simp only[LU,qB]at h;obtain⟨r,hr,h⟩:=h;obtain⟨out0,out,a1,a2,a3⟩:=oC hQ (c:=x) hL.1 σ σr r.1 (by rw[hr,←aZ5 h rfl]) hl
   obtain⟨o0,o1,b1,b2,b3⟩:=O2 (oC hQ (c:=y) hL.2) h (fun _=>⟨a1,a3⟩)
   refine⟨o0,o1,b1,?_,b3⟩;rw[fT,a2,Option.bind_some,←b2];cases out<;>rfl
 | .cond c x y,hL=>fun σ σr o h hl=>by
   simp only[LU,qB]at h;obtain⟨v,hv,b,hb,h⟩:=h;have hv':=hl.ev _ _ hv;simp only[fT,hv',hb,Option.bind_some];split at h
   ·split at h
    ·simp only[if_true];exact oC hQ (c:=x) hL.1 σ σr o h hl
    ·simp only[Bool.false_eq_true,if_false];exact oC hQ (c:=y) hL.2 σ σr o h hl
   ·simp only[qB,qI,qP,Bool.and_eq_true,Bool.or_eq_true]at h;obtain⟨r1,h1,r2,h2,rfl,k1,k2⟩:=h;have f1:=(sY h1).mono fun _ h=>Fr.left (b:=HM y) (r:=qX y) h
    have f2:=(sY h2).mono fun _ h=>Fr.right (a:=HM x) (q:=qX x) h
    cases b
    ·have k:r2.2=true:=by simpa using k2
     obtain⟨out0,out,a1,a2,a3⟩:=oC hQ (c:=y) hL.2 σ σr r2.1 (by rw[h2,←k]) hl
     obtain⟨out',b1,b2⟩:=FP (b:=false) (o1:=r1.1) wE f1 f2 a1;exact⟨out',out,b1,by simpa using a2,b2.trans a3⟩
    ·have k:r1.2=true:=by simpa using k1
     obtain⟨out0,out,a1,a2,a3⟩:=oC hQ (c:=x) hL.1 σ σr r1.1 (by rw[h1,←k]) hl
     obtain⟨out',b1,b2⟩:=FP (b:=true) (o2:=r2.1) wE f1 f2 a1;exact⟨out',out,b1,by simpa using a2,b2.trans a3⟩
 | .blk id x,hL=>fun σ σr o h hl=>by
   simp only[LU,qB,qI,qP]at h;obtain⟨r,hr,rfl,ho⟩:=h;obtain⟨out0,out,a1,a2,a3⟩:=oC hQ (c:=x) hL σ σr r.1 (by rw[hr,←ho]) hl
   obtain⟨out',b1,b2⟩:=YG (id:=id) wE (sY hr) a1;refine⟨out',yS id out,b1,?_,b2.trans ?_⟩
   ·rw[fT,a2,Option.bind_some];cases out with
    |nor σ=>rfl
    |ret σ=>rfl
    |brk j σ=>
     simp only[yS];split<;>rfl
   ·cases a3 with
    |nor h=>exact .nor h
    |ret h=>exact .ret h
    |brk h=>
     simp only[yS];split
     ·exact .nor h
     ·exact .brk h
 | .loop live x,hL=>fun σ σr o h hl=>by
   simp only[LU]at h;split at h
   ·rename_i r hr;rw[h]at hr;exact hL.1 σ σr o hr hl
   ·rw[fT];exact O3 (oC hQ (c:=x) hL.2) n σ σr o h hl
 | .brk id,hL=>fun σ σr o h hl=>by
   simp only[LU,qI,qP]at h;obtain⟨rfl,-⟩:=h;exact⟨.brk id σ, .brk id σr,rfl,rfl, .brk hl⟩
 | .ret,hL=>fun σ σr o h hl=>by
   simp only[LU,qI,qP]at h;obtain⟨rfl,-⟩:=h;exact⟨.ret σ, .ret σr,rfl,rfl, .ret hl⟩
 | .skip,hL=>fun σ σr o h hl=>by
   simp only[LU,qI,qP]at h;obtain⟨rfl,-⟩:=h;exact⟨.nor σ, .nor σr,rfl,rfl, .nor hl⟩
def aOX(res:List Rv)(nb:Nat)(σ:St):Option (SV×List Blk):=(eW σ res).bind fun vs=>leave nb σ vs
theorem BH{σ σr:St}(hl:Le σ σr): ∀{res:List Rv}{vs:List SV},eW σ res=some vs→eW σr res=some vs
 |[],vs,h=>h
 | .tmp n::r,vs,h=>by
   simp only[eW,qB]at h⊢;obtain⟨v,hv,us,hu,h⟩:=h;exact⟨v,hl.sl _ _ hv,us,BH hl hu,h⟩
 | .cell n k::r,vs,h=>by
   simp only[eW,qB]at h⊢;obtain⟨v,hv,t,ht,cs,hc,u,hu,us,hus,h⟩:=h;exact⟨v,hl.sl _ _ hv,t,ht,cs,by rw[hl.hp];exact hc,u,hu,us,BH hl hus,h⟩
theorem aZ6{res:List Rv}{nb:Nat}{σ σr:St}(hl:Le σ σr){r:SV×List Blk}(h:aOX res nb σ=some r):aOX res nb σr=some r:=by
 simp only[aOX,qB]at h⊢;obtain⟨vs,hv,h⟩:=h;refine⟨vs,BH hl hv,?_⟩;unfold leave at h⊢;rw[hl.hp];exact h
def bD(f:FuncId)(q:List SV→List Blk→Option ((SV×List Blk)×Bool))(Q:Qt):Qt:=fun g args hp=>if g=f then match q args hp with|some r=>some r|none=>Q g args hp else Q g args hp
theorem aH{R:Rt}{f:FuncId}{q:List SV→List Blk→Option ((SV×List Blk)×Bool)}{Q:Qt}(h: ∀args hp r,q args hp=some (r,true)→R f args hp=some r)(hQ:X7 R Q):X7 R (bD f q Q):=fun g args hp r hg=>by
 unfold bD at hg;split at hg
 ·rename_i e;subst e;split at hg
  ·rename_i r' hr;obtain rfl:=qi hg;exact h _ _ _ hr
  ·exact hQ _ _ _ _ hg
 ·exact hQ _ _ _ _ hg
def qnil:Qt:=fun _ _ _=>none
theorem aOY{R:Rt}:X7 R qnil:=fun _ _ _ _ h=>by simp[qnil]at h
end Go.Zq

namespace Go.Zq
open Option renaming bind_eq_some_iff → qB
open Option.some renaming injEq → qI
open Option.some renaming inj → qi
open Go
inductive Pt(α:Type) where
 |leaf (a:α)
 |br (b:Bool) (x y:Pt α)
 |ok (b:Bool) (x:Pt α)
def Pt.val{α:Type}:Pt α→α
 | .leaf a=>a
 | .br b x y=>bif b then x.val else y.val
 | .ok _ x=>x.val
def Pt.okv{α:Type}:Pt α→Bool
 | .leaf _=>true
 | .br b x y=>bif b then x.okv else y.okv
 | .ok b x=>b&&x.okv
def Pt.map{α β:Type}(f:α→β):Pt α→Pt β
 | .leaf a=> .leaf (f a)
 | .br b x y=> .br b (x.map f) (y.map f)
 | .ok b x=> .ok b (x.map f)
def Pt.bindO{α β:Type}(f:α→Option (Pt β)):Pt α→Option (Pt β)
 | .leaf a=>f a
 | .br b x y=>(x.bindO f).bind fun x=>(y.bindO f).bind fun y=>some (.br b x y)
 | .ok b x=>(x.bindO f).bind fun x=>some (.ok b x)
theorem Pt.val_map{α β:Type}(f:α→β): ∀t:Pt α,(t.map f).val=f t.val
 | .leaf a=>rfl
 | .br b x y=>by
   simp only[Pt.map,Pt.val,Pt.val_map f x,Pt.val_map f y];cases b<;>rfl
 | .ok b x=>Pt.val_map f x
theorem Pt.okv_map{α β:Type}(f:α→β): ∀t:Pt α,(t.map f).okv=t.okv
 | .leaf a=>rfl
 | .br b x y=>by simp only[Pt.map,Pt.okv,Pt.okv_map f x,Pt.okv_map f y]
 | .ok b x=>by simp only[Pt.map,Pt.okv,Pt.okv_map f x]
theorem Pt.bindO_val{α β:Type}{f:α→Option (Pt β)}: ∀{t:Pt α}{u:Pt β},t.bindO f=some u→u.okv=true→t.okv=true∧ ∃w,f t.val=some w∧w.okv=true∧u.val=w.val
 | .leaf a,u,h,ho=>⟨rfl,u,h,ho,rfl⟩
 | .br b x y,u,h,ho=>by
   simp only[Pt.bindO,qB,qI]at h;obtain⟨x',hx,y',hy,rfl⟩:=h;cases b
   ·have:=Pt.bindO_val (t:=y) (u:=y') hy ho;exact this
   ·have:=Pt.bindO_val (t:=x) (u:=x') hx ho;exact this
 | .ok b x,u,h,ho=>by
   simp only[Pt.bindO,qB,qI]at h;obtain⟨x',hx,rfl⟩:=h;obtain⟨h1,h2⟩:=bI ho;obtain⟨k1,k2⟩:=Pt.bindO_val (t:=x) hx h2;exact⟨by simp only[Pt.okv,h1,k1];rfl,k2⟩
def cY(f:St→Option (Pt Out))(g:St→Option Out):Prop:= ∀σ σr t,f σ=some t→t.okv=true→Le σ σr→ ∃out,g σr=some out∧LeOut t.val out
def trP:Tr→Pt Out
 | .leaf σ=> .leaf (.nor σ)
 | .br b x y=> .br b (trP x) (trP y)
theorem Z1: ∀t:Tr,(trP t).val= .nor t.st∧(trP t).okv=true
 | .leaf σ=>⟨rfl,rfl⟩
 | .br b x y=>by
   cases b
   ·exact Z1 y
   ·exact Z1 x
def lV:C→Nat
 | .ops ((_,k)::_) _=>k.dst.getD 0
 | .ops [] _=>0
 | .drw (((_,k)::_)::_) _ _=>k.dst.getD 0
 | .drw _ _ _=>0
 | .seq x _=>lV x
 | .cond (.t n) _ _=>n
 | .cond (.c _) x _=>lV x
 | .blk _ x=>lV x
 | .loop _ x=>lV x
 |_=>0
abbrev Lp:=List (Nat×(St→Option (Pt Out)))
def nL:Lp→Nat→St→Option (Pt Out)
 |[],_,_=>none
 |(m,f)::r,n,σ=>if m=n then f σ else nL r n σ
def aIJ(hp:List Blk):T→T×Bool
 | .sl id off len=>match hp[id]? with
   |some (.lst _ rows)=>(.sl id off rows.length,decide (len=rows.length))
   |_=>(.sl id off len,true)
 |t=>(t,true)
theorem aOZ{hp:List Blk}{t:T}(h:(aIJ hp t).2=true):(aIJ hp t).1=t:=by
 unfold aIJ at h⊢;split at h
 ·split at h
  ·rename_i hb;simp only[hb];rw[of_decide_eq_true h]
  ·rfl
 ·rfl
def BI(hp:List Blk):Row→Row×Bool
 |[]=>([],true)
 |t::r=>((aIJ hp t).1::(BI hp r).1,(aIJ hp t).2&&(BI hp r).2)
theorem MI{hp:List Blk}: ∀{t:Row},(BI hp t).2=true→(BI hp t).1=t
 |[],_=>rfl
 |t::r,h=>by
  obtain⟨h1,h2⟩:=bI h;simp only[BI,aOZ h1,MI h2]
def J0(hp:List Blk):SV→SV×Bool
 | .one t=>(.one (aIJ hp t).1,(aIJ hp t).2)
 | .agg ts=>(.agg (BI hp ts).1,(BI hp ts).2)
 |v=>(v,true)
theorem J1{hp:List Blk}{v:SV}(h:(J0 hp v).2=true):(J0 hp v).1=v:=by
 cases v with
 |one t=>simp only[J0,aOZ (t:=t) h]
 |agg ts=>simp only[J0,MI (t:=ts) h]
 |und=>rfl
 |tup _=>rfl
def HN(hp:List Blk):List SV→List SV×Bool
 |[]=>([],true)
 |t::r=>((J0 hp t).1::(HN hp r).1,(J0 hp t).2&&(HN hp r).2)
theorem YI{hp:List Blk}: ∀{t:List SV},(HN hp t).2=true→(HN hp t).1=t
 |[],_=>rfl
 |t::r,h=>by
  obtain⟨h1,h2⟩:=bI h;simp only[HN,J1 h1,YI h2]
def aF0(hp:List Blk):SV→SV×Bool
 | .tup vs=>(.tup (HN hp vs).1,(HN hp vs).2)
 |v=>J0 hp v
theorem aZ7{hp:List Blk}{v:SV}(h:(aF0 hp v).2=true):(aF0 hp v).1=v:=by
 cases v with
 |tup vs=>simp only[aF0,YI (t:=vs) h]
 |one t=>exact J1 (v:= .one t) h
 |agg ts=>exact J1 (v:= .agg ts) h
 |und=>rfl
def oD(hp:List Blk):List Blk→List Blk×Bool
 |[]=>([],true)
 | .box cs::r=>(.box (BI hp cs).1::(oD hp r).1,(BI hp cs).2&&(oD hp r).2)
 |b::r=>(b::(oD hp r).1,(oD hp r).2)
theorem wF{hp:List Blk}: ∀{l:List Blk},(oD hp l).2=true→(oD hp l).1=l
 |[],_=>rfl
 | .box cs::r,h=>by
   obtain⟨h1,h2⟩:=bI h;simp only[oD,MI h1,wF h2]
 | .dead::r,h=>by simp only[oD,wF (l:=r) h]
 | .lst n rows::r,h=>by simp only[oD,wF (l:=r) h]
def SJ(hp:List Blk):List (Nat×SV)→List (Nat×SV)×Bool
 |[]=>([],true)
 |p::r=>((p.1,(J0 hp p.2).1)::(SJ hp r).1,(J0 hp p.2).2&&(SJ hp r).2)
theorem aF1{hp:List Blk}: ∀{l:List (Nat×SV)},(SJ hp l).2=true→(SJ hp l).1=l
 |[],_=>rfl
 |p::r,h=>by
  obtain⟨h1,h2⟩:=bI h;simp only[SJ,J1 h1,aF1 h2]
def MJ(wm nm:Bool)(nb:Nat)(σ:St)(vs:List SV):Option ((SV×List Blk)×Bool):=
 if nm=false then ZW wm nb σ vs else(ZW wm nb σ vs).bind fun r=>some (((aF0 r.1.2 r.1.1).1,(oD r.1.2 r.1.2).1),r.2&&((aF0 r.1.2 r.1.1).2&&(oD r.1.2 r.1.2).2))
theorem YJ{wm nm:Bool}{nb:Nat}{σ:St}{vs:List SV}{r:SV×List Blk}(h:MJ wm nm nb σ vs=some (r,true)):leave nb σ vs=some r:=by
 unfold MJ at h;split at h
 ·exact X6 h
 ·simp only[qB,qI,Prod.mk.injEq]at h;obtain⟨q,hq,rfl,ho⟩:=h;obtain⟨o1,o2⟩:=bI ho;obtain⟨o2,o3⟩:=bI o2;rw[aZ7 o2,wF o3];exact X6 (wm:=wm) (r:=q.1) (by rw[hq,←o1])
def SK(wm nm:Bool)(nb:Nat)(live:List Nat)(σ:St):Option (St×Bool):=
 if nm=false then ME wm nb live σ else(ME wm nb live σ).bind fun r=>some (⟨(SJ r.1.hp r.1.sl).1,(oD r.1.hp r.1.hp).1⟩,r.2&&((SJ r.1.hp r.1.sl).2&&(oD r.1.hp r.1.hp).2))
theorem MK{wm nm:Bool}{nb:Nat}{live:List Nat}{σ σ':St}(h:SK wm nm nb live σ=some (σ',true)):canon nb live σ=some σ':=by
 unfold SK at h;split at h
 ·exact FG h
 ·simp only[qB,qI,Prod.mk.injEq]at h;obtain⟨q,hq,rfl,ho⟩:=h;obtain⟨o1,o2⟩:=bI ho;obtain⟨o2,o3⟩:=bI o2;rw[aF1 o2,wF o3];exact FG (wm:=wm) (σ':=q.1) (by rw[hq,←o1])
def lwm(kd:List (Nat×List Kd)):Bool:=(MF 1000000 kd).isNone
def lnm(kd:List (Nat×List Kd)):Bool:=(MF 1000000 kd).isSome||(MF 1000001 kd).isSome
def cwm(kd:List (Nat×List Kd)):Bool:=(MF 1000002 kd).isNone
def cnm(kd:List (Nat×List Kd)):Bool:=(MF 1000002 kd).isSome||(MF 1000003 kd).isSome
def aF2(wm nm:Bool)(nb:Nat)(live:List Nat)(f:St→Option (Pt Out)):Nat→St→Option (Pt Out)
 |0,_=>none
 |n+1,σ=>(SK wm nm nb live σ).bind fun c=>(f c.1).bind fun t=>(t.bindO fun| .nor σ=>aF2 wm nm nb live f n σ|o=>some (.leaf o)).bind fun t=>some (.ok c.2 t)
def yD:C→Bool
 | .ops l _=>l.all fun g=>qW g.2
 | .seq x y=>yD x&&yD y
 | .cond _ x y=>yD x&&yD y
 | .skip=>true
 |_=>false
def Z2(r:O×Bool):Option (Pt Out):=match r.1.ex,r.1.nor with
 |[],some t=>some (.ok r.2 (trP t))
 |_,_=>none
noncomputable def xN(Q:Qt)(kd:List (Nat×List Kd))(cl:List Nat)(mg:Bool)(lq:Lp)(nb n:Nat):C→St→Option (Pt Out)
 | .drw ls kp cn,σ=>(JZ Q kd nb kp cn ls σ).bind fun r=>some (.ok r.2 (.leaf (.nor r.1)))
 | .ops l kp,σ=>
   match(x9 (2*l.length+2) none l).2 with
   |[]=>(evI Q kd (x9 (2*l.length+2) none l).1 σ).bind fun r=>some (.ok r.2 (.leaf (.nor (trim kp r.1))))
   |_::_=>none
 | .seq x y,σ=>(xN Q kd cl mg lq nb n x σ).bind fun t=>t.bindO fun
   | .nor σ=>xN Q kd cl mg lq nb n y σ
   |o=>some (.leaf o)
 | .cond c x y,σ=>(σ.ev c).bind fun v=>(asBool v).bind fun b=>
   if b00 cl c=true then match b with
    |true=>xN Q kd cl mg lq nb n x σ
    |false=>xN Q kd cl mg lq nb n y σ
   else if(mg&&(yD x&&yD y))=true then(LU Q kd cl lqN nb n (.cond c x y) σ).bind Z2
   else(xN Q kd cl mg lq nb n x σ).bind fun tx=>(xN Q kd cl mg lq nb n y σ).bind fun ty=>some (.br b tx ty)
 | .blk id x,σ=>(xN Q kd cl mg lq nb n x σ).bind fun t=>some (t.map (yS id))
 | .loop live x,σ=>match nL lq (lV x) σ with
   |some t=>some t
   |none=>aF2 (cwm kd) (cnm kd) nb live (xN Q kd cl mg lq nb n x) n σ
 | .brk id,σ=>some (.leaf (.brk id σ))
 | .ret,σ=>some (.leaf (.ret σ))
 | .skip,σ=>some (.leaf (.nor σ))
theorem O4{wm nm:Bool}{nb:Nat}{live:List Nat}{f:St→Option (Pt Out)}{g:St→Option Out}(hf:cY f g): ∀n,cY (aF2 wm nm nb live f n) (AZ nb live g n)
 |0=>fun σ σr t h ho hl=>by simp[aF2]at h
 |n+1=>fun σ σr t h ho hl=>by
  simp only[aF2,qB,qI]at h;obtain⟨c,hc,u,hu,w,hw,rfl⟩:=h;obtain⟨o1,o2⟩:=bI ho;have hcr:=DF (MK (σ':=c.1) (by rw[hc,←o1])) hl
  obtain⟨k1,z,hz,k2,k3⟩:=Pt.bindO_val hw o2;obtain⟨out,a1,a2⟩:=hf c.1 c.1 u hu k1 .rfl;simp only[AZ,hcr,Option.bind_some,a1];show∃out,_∧LeOut w.val out
  rw[k3];generalize u.val=o at hz a2;cases a2 with
  |nor h=>exact O4 hf n _ _ z hz k2 h
  |brk h=>obtain rfl:=qi hz;exact⟨_,rfl, .brk h⟩
  |ret h=>obtain rfl:=qi hz;exact⟨_,rfl, .ret h⟩
theorem Z3{r:O×Bool}{t:Pt Out}{out:Out}(h:Z2 r=some t)(ho:t.okv=true)(hd:r.2=true→ ∃out0,r.1.den=some out0∧LeOut out0 out):LeOut t.val out:=by
 unfold Z2 at h;split at h
 ·rename_i u he hn;obtain rfl:=qi h;obtain⟨o1,o2⟩:=bI ho;obtain⟨out0,h1,h2⟩:=hd o1;unfold O.den at h1;rw[he,hn]at h1;simp only[nK,qI]at h1;subst h1;show LeOut (trP u).val out
  rw[(Z1 u).1];exact h2
 ·simp at h
theorem cZ{R:Rt}{Q:Qt}(hQ:X7 (dQ R) Q){kd:List (Nat×List Kd)}{cl:List Nat}{mg:Bool}{lq:Lp}{nb n:Nat}: ∀{c:C},fN (fun live x=>cY (nL lq (lV x)) (fT R nb n (.loop live x))) c→cY (xN Q kd cl mg lq nb n c) (fT R nb n c)
 | .drw ls kp cn,hL=>fun σ σr t h ho hl=>by
   simp only[xN,qB,qI]at h;obtain⟨c,hc,rfl⟩:=h;obtain⟨o1,-⟩:=bI ho;have:=DG hQ hl (c:=c.1) (by rw[hc,←o1])
   exact⟨.nor c.1,by simp[fT,this], .nor .rfl⟩
 | .ops l kp,hL=>fun σ σr t h ho hl=>by
   unfold xN at h;split at h
   ·rename_i hp;simp only[qB,qI]at h;obtain⟨i,hi,rfl⟩:=h;obtain⟨o1,-⟩:=bI ho;obtain⟨τ,h1,h2⟩:=FN hQ (g:=none) (by rw[hi,←o1]) hl (fun s w e=>by simp at e) (fun s w e=>by simp at e)
    rw[AF hp]at h1;exact⟨.nor (trim kp τ),by simp[fT,h1], .nor (aOV h2)⟩
   ·simp at h
 | .seq x y,hL=>fun σ σr t h ho hl=>by
   simp only[xN,qB]at h;obtain⟨u,hu,h⟩:=h;obtain⟨k1,z,hz,k2,k3⟩:=Pt.bindO_val h ho;obtain⟨out,a1,a2⟩:=cZ hQ (c:=x) hL.1 σ σr u hu k1 hl;rw[k3,fT,a1,Option.bind_some];generalize u.val=o at hz a2;cases a2 with
   |nor h=>exact cZ hQ (c:=y) hL.2 _ _ z hz k2 h
   |brk h=>obtain rfl:=qi hz;exact⟨_,rfl, .brk h⟩
   |ret h=>obtain rfl:=qi hz;exact⟨_,rfl, .ret h⟩
 | .cond c x y,hL=>fun σ σr t h ho hl=>by
   have h0:=h;simp only[xN,qB]at h;obtain⟨v,hv,b,hb,h⟩:=h;have hv':=hl.ev _ _ hv;split at h
   ·simp only[fT,hv',hb,Option.bind_some];split at h
    ·simp only[if_true];exact cZ hQ (c:=x) hL.1 σ σr t h ho hl
    ·simp only[Bool.false_eq_true,if_false];exact cZ hQ (c:=y) hL.2 σ σr t h ho hl
   ·split at h
    ·rename_i hm;simp only[Bool.and_eq_true]at hm;obtain⟨r,hr,hw⟩:=Option.bind_eq_some_iff.1 h;have noLoop: ∀{c:C},yD c=true→fN (fun live x=>SF (lqN live) (fT R nb n (.loop live x))) c:=fun{c} hc=>by
      induction c with
      |seq x y ihx ihy=>simp only[yD,Bool.and_eq_true]at hc;exact⟨ihx hc.1,ihy hc.2⟩
      |cond c x y ihx ihy=>simp only[yD,Bool.and_eq_true]at hc;exact⟨ihx hc.1,ihy hc.2⟩
      |ops=>trivial
      |skip=>trivial
      |drw=>simp[yD]at hc
      |blk=>simp[yD]at hc
      |loop=>simp[yD]at hc
      |brk=>simp[yD]at hc
      |ret=>simp[yD]at hc
     have hT:=oC (R:=R) (n:=n) (nb:=nb) (kd:=kd) (cl:=cl) hQ (lq:=lqN) (c:= .cond c x y) ⟨noLoop hm.2.1,noLoop hm.2.2⟩;have hd:r.2=true→ ∃out0 out,r.1.den=some out0∧fT R nb n (.cond c x y) σr=some out∧LeOut out0 out:=fun hk=>hT σ σr r.1 (by rw[hr,←hk]) hl
     have hk:r.2=true:=by
      unfold Z2 at hw;split at hw
      ·obtain rfl:=qi hw;exact(bI ho).1
      ·simp at hw
     obtain⟨out0,out,a1,a2,a3⟩:=hd hk;exact⟨out,a2,Z3 hw ho fun _=>⟨out0,a1,a3⟩⟩
    ·simp only[qB,qI]at h;obtain⟨tx,hx,ty,hy,rfl⟩:=h;simp only[fT,hv',hb,Option.bind_some];cases b
     ·have:=cZ hQ (c:=y) hL.2 σ σr ty hy ho hl;rw[if_neg (by simp)]
      exact this
     ·have:=cZ hQ (c:=x) hL.1 σ σr tx hx ho hl;rw[if_pos rfl];exact this
 | .blk id x,hL=>fun σ σr t h ho hl=>by
   simp only[xN,qB,qI]at h;obtain⟨u,hu,rfl⟩:=h;rw[Pt.okv_map]at ho;obtain⟨out,a1,a2⟩:=cZ hQ (c:=x) hL σ σr u hu ho hl;rw[Pt.val_map];generalize u.val=o at a2;refine⟨yS id out,?_,?_⟩
   ·rw[fT,a1,Option.bind_some];cases out with
    |nor σ=>rfl
    |ret σ=>rfl
    |brk j σ=>
     simp only[yS];split<;>rfl
   ·cases a2 with
    |nor h=>exact .nor h
    |ret h=>exact .ret h
    |brk h=>
     simp only[yS];split
     ·exact .nor h
     ·exact .brk h
 | .loop live x,hL=>fun σ σr t h ho hl=>by
   simp only[xN]at h;split at h
   ·rename_i r hr;rw[h]at hr;exact hL.1 σ σr t hr ho hl
   ·rw[fT];exact O4 (cZ hQ (c:=x) hL.2) n σ σr t h ho hl
 | .brk id,hL=>fun σ σr t h ho hl=>by
   simp only[xN,qI]at h;subst h;exact⟨.brk id σr,rfl, .brk hl⟩
 | .ret,hL=>fun σ σr t h ho hl=>by
   simp only[xN,qI]at h;subst h;exact⟨.ret σr,rfl, .ret hl⟩
 | .skip,hL=>fun σ σr t h ho hl=>by
   simp only[xN,qI]at h;subst h;exact⟨.nor σr,rfl, .nor hl⟩
def aZ8(wm nm:Bool)(res:List Rv)(nb:Nat):Out→Option (Pt (SV×List Blk))
 | .nor σ=>(eW σ res).bind fun vs=>(MJ wm nm nb σ vs).bind fun r=>some (.ok r.2 (.leaf r.1))
 | .ret σ=>(eW σ res).bind fun vs=>(MJ wm nm nb σ vs).bind fun r=>some (.ok r.2 (.leaf r.1))
 | .brk _ _=>none
noncomputable def fnP(Q:Qt)(kd:List (Nat×List Kd))(cl:List Nat)(mg:Bool)(lq:Lp)(n:Nat)(cf:Zq.Fn)(args:List SV)(hp:List Blk):Option (Pt (SV×List Blk)):=
 if args.length=cf.np then(xN Q kd cl mg lq (dH hp) n cf.body ⟨qO 0 args,hp⟩).bind fun t=>t.bindO (aZ8 (lwm kd) (lnm kd) cf.res (dH hp))else none
theorem aO0{R:Rt}{Q:Qt}(hQ:X7 (dQ R) Q){kd:List (Nat×List Kd)}{cl:List Nat}{mg:Bool}{lq:Lp}{n:Nat}{cf:Zq.Fn}{args:List SV}{hp:List Blk}{t:Pt (SV×List Blk)}(hL:fN (fun live x=>cY (nL lq (lV x)) (fT R (dH hp) n (.loop live x))) cf.body)(h:fnP Q kd cl mg lq n cf args hp=some t)(ho:t.okv=true):cf.run R n args hp=some t.val:=by
 unfold fnP at h;split at h
 ·rename_i hn;simp only[qB]at h;obtain⟨u,hu,h⟩:=h;obtain⟨k1,w,hw,k2,k3⟩:=Pt.bindO_val h ho;obtain⟨out,a1,a2⟩:=cZ hQ hL _ _ u hu k1 .rfl;unfold Fn.run;rw[if_pos hn,a1,k3];generalize u.val=o at hw a2;have fin: ∀{σ τ:St},Le σ τ→(eW σ cf.res).bind (fun vs=>(MJ (lwm kd) (lnm kd) (dH hp) σ vs).bind fun r=>some (Pt.ok r.2 (.leaf r.1)))=some w→((eW τ cf.res).bind fun vs=>leave (dH hp) τ vs)=some w.val:=fun{σ τ} hl hw=>by
   simp only[qB,qI]at hw;obtain⟨vs,hv,r,hr,rfl⟩:=hw;obtain⟨o1,-⟩:=bI k2;refine aZ6 (res:=cf.res) hl (r:=r.1) ?_;simp only[aOX,hv,Option.bind_some];exact YJ (by rw[hr,←o1])
  cases a2 with
  |nor hl=>exact fin hl hw
  |ret hl=>exact fin hl hw
  |brk hl=>simp[aZ8]at hw
 ·simp at h
def J2(wm nm:Bool)(nb:Nat)(σ:St)(vs:List SV):Option ((SV×List Blk)×Bool):=
 if XH (vW σ.hp ((vs.flatMap fE).foldl (LX σ.hp 0) (fM σ.hp nb)) (vs.flatMap fE)) nb=true∧XH (vW σ.hp ((vs.flatMap fE).foldl (LX σ.hp 0) (fM σ.hp nb)) (vs.flatMap fE)) (nb+1)=true then MJ wm nm nb σ vs else none
theorem aIK{wm nm:Bool}{nb:Nat}{σ:St}{vs:List SV}{r:SV×List Blk}(h:J2 wm nm nb σ vs=some (r,true)):leaveK nb σ vs=some r:=by
 unfold J2 at h;obtain⟨hc,h1⟩:=cC h;unfold leaveK;simp only;rw[if_pos hc];exact YJ h1
def aO1(wm nm:Bool)(res:List Rv)(nb:Nat):Out→Option (Pt (SV×List Blk))
 | .nor σ=>(eW σ res).bind fun vs=>(J2 wm nm nb σ vs).bind fun r=>some (.ok r.2 (.leaf r.1))
 | .ret σ=>(eW σ res).bind fun vs=>(J2 wm nm nb σ vs).bind fun r=>some (.ok r.2 (.leaf r.1))
 | .brk _ _=>none
theorem aVV{res:List Rv}{nb:Nat}{σ σr:St}(hl:Le σ σr){r:SV×List Blk}(h:((eW σ res).bind fun vs=>leaveK nb σ vs)=some r):((eW σr res).bind fun vs=>leaveK nb σr vs)=some r:=by
 simp only[qB]at h⊢;obtain⟨vs,hv,h⟩:=h;refine⟨vs,BH hl hv,?_⟩;unfold leaveK leave at h⊢;rw[hl.hp];exact h
noncomputable def bAZ(Q:Qt)(kd:List (Nat×List Kd))(cl:List Nat)(mg:Bool)(lq:Lp)(n:Nat)(cf:Zq.Fn)(args:List SV)(hp:List Blk):Option (Pt (SV×List Blk)):=
 if args.length=cf.np∧dH hp+2≤hp.length then(xN Q kd cl mg lq (dH hp+2) n cf.body ⟨qO 0 args,hp⟩).bind fun t=>t.bindO (aO1 (lwm kd) (lnm kd) cf.res (dH hp))else none
theorem aZ9{R:Rt}{Q:Qt}(hQ:X7 (dQ R) Q){kd:List (Nat×List Kd)}{cl:List Nat}{mg:Bool}{lq:Lp}{n:Nat}{cf:Zq.Fn}{args:List SV}{hp:List Blk}{t:Pt (SV×List Blk)}(hL:fN (fun live x=>cY (nL lq (lV x)) (fT R (dH hp+2) n (.loop live x))) cf.body)(h:bAZ Q kd cl mg lq n cf args hp=some t)(ho:t.okv=true):cf.runK R n args hp=some t.val:=by
 unfold bAZ at h;split at h
 ·rename_i hn;simp only[qB]at h;obtain⟨u,hu,h⟩:=h;obtain⟨k1,w,hw,k2,k3⟩:=Pt.bindO_val h ho;obtain⟨out,a1,a2⟩:=cZ hQ hL _ _ u hu k1 .rfl;unfold Fn.runK;rw[if_pos hn,a1,k3];generalize u.val=o at hw a2;have fin: ∀{σ τ:St},Le σ τ→(eW σ cf.res).bind (fun vs=>(J2 (lwm kd) (lnm kd) (dH hp) σ vs).bind fun r=>some (Pt.ok r.2 (.leaf r.1)))=some w→((eW τ cf.res).bind fun vs=>leaveK (dH hp) τ vs)=some w.val:=fun{σ τ} hl hw=>by
   simp only[qB,qI]at hw;obtain⟨vs,hv,r,hr,rfl⟩:=hw;obtain⟨o1,-⟩:=bI k2;refine aVV (res:=cf.res) hl (r:=r.1) ?_;simp only[hv,Option.bind_some];exact aIK (by rw[hr,←o1])
  cases a2 with
  |nor hl=>exact fin hl hw
  |ret hl=>exact fin hl hw
  |brk hl=>simp[aO1]at hw
 ·simp at h
def prn:Pt Out→Option (Pt Out)
 | .leaf (.nor _)=>none
 | .leaf o=>some (.leaf o)
 | .ok _ x=>prn x
 | .br b x y=>match prn x,prn y with
   |none,none=>none
   |some x,none=>some x
   |none,some y=>some y
   |some x,some y=>some (.br b x y)
def aF3:Out→Bool
 | .nor _=>true
 |_=>false
theorem DH: ∀{t:Pt Out},prn t=none→aF3 t.val=true
 | .leaf (.nor _),_=>rfl
 | .leaf (.brk _ _),h=>by simp[prn]at h
 | .leaf (.ret _),h=>by simp[prn]at h
 | .ok _ x,h=>DH (t:=x) h
 | .br b x y,h=>by
   simp only[prn]at h;split at h
   ·rename_i h1 h2;cases b
    ·exact DH (t:=y) h2
    ·exact DH (t:=x) h1
   ·simp at h
   ·simp at h
   ·simp at h
theorem AG: ∀{t u:Pt Out},prn t=some u→aF3 t.val=false→u.val=t.val∧u.okv=true
 | .leaf (.nor _),u,h,hn=>by simp[prn]at h
 | .leaf (.brk _ _),u,h,hn=>by obtain rfl:=qi h;exact⟨rfl,rfl⟩
 | .leaf (.ret _),u,h,hn=>by obtain rfl:=qi h;exact⟨rfl,rfl⟩
 | .ok _ x,u,h,hn=>AG (t:=x) h hn
 | .br b x y,u,h,hn=>by
   simp only[prn]at h;cases b
   ·have hn':aF3 y.val=false:=hn;split at h
    ·simp at h
    ·rename_i h1 h2;have:=DH (t:=y) h2;rw[hn']at this;simp at this
    ·rename_i h1 h2;obtain rfl:=qi h;exact AG (t:=y) h2 hn'
    ·rename_i x' y' h1 h2;obtain rfl:=qi h;exact AG (t:=y) (u:=y') h2 hn'
   ·have hn':aF3 x.val=false:=hn;split at h
    ·simp at h
    ·rename_i h1 h2;obtain rfl:=qi h;exact AG (t:=x) h1 hn'
    ·rename_i h1 h2;have:=DH (t:=x) h1;rw[hn']at this;simp at this
    ·rename_i x' y' h1 h2;obtain rfl:=qi h;exact AG (t:=x) (u:=x') h1 hn'
def rW(wm nm:Bool)(nb:Nat)(live:List Nat)(t:Pt Out):Option (Pt (Option St)):=t.bindO fun
 | .nor σ=>(SK wm nm nb live σ).bind fun c=>some (.ok c.2 (.leaf (some c.1)))
 |_=>some (.leaf none)
def dW{V:Type}(N:V→Pt (Option V)):Nat→V→Option V
 |0,_=>none
 |k+1,v=>bif (N v).okv then(match(N v).val with|none=>some v|some v'=>dW N k v')else none
noncomputable def hid{α:Type}(a:α):α:=Classical.choose (⟨a,rfl⟩: ∃b,b=a)
theorem dX{α:Type}(a:α):hid a=a:=Classical.choose_spec (⟨a,rfl⟩: ∃b,b=a)
noncomputable def uB{V:Type}(wm nm:Bool)(nb:Nat)(live:List Nat)(f:St→Option (Pt Out))(un:St→Option (V×Bool))(st:V→St)(N:V→Pt (Option V))(n:Nat)(σ:St):Option (Pt Out):=
 (SK wm nm nb live σ).bind fun c=>(un c.1).bind fun v=>(f (st ((hid (dW N n v.1)).getD v.1))).bind fun t=>(prn t).bind fun t=>some (.ok c.2 (.ok v.2 (.ok (hid (dW N n v.1)).isSome t)))
theorem SL{V:Type}{wm nm:Bool}{nb:Nat}{live:List Nat}{f:St→Option (Pt Out)}{g:St→Option Out}(hf:cY f g){st:V→St}{N:V→Pt (Option V)}(hN: ∀v,((f (st v)).bind (rW wm nm nb live))=some ((N v).map (Option.map st))):
  ∀{k:Nat}{v w:V}{σ:St},canon nb live σ=some (st v)→dW N k v=some w→ ∃t out,f (st w)=some t∧aF3 t.val=false∧AZ nb live g k σ=some out∧LeOut t.val out
 |0,v,w,σ,hσ,h=>by simp[dW]at h
 |k+1,v,w,σ,hσ,h=>by
  have hb:=hN v;simp only[qB]at hb;obtain⟨t,ht,hs⟩:=hb;unfold dW at h;cases ho:(N v).okv
  ·rw[ho]at h;simp at h
  ·rw[ho,cond_true]at h;unfold rW at hs;obtain⟨k1,z,hz,k2,k3⟩:=Pt.bindO_val hs (by rw[Pt.okv_map];exact ho)
   obtain⟨out,a1,a2⟩:=hf (st v) (st v) t ht k1 .rfl;simp only[AZ,hσ,Option.bind_some,a1];rw[Pt.val_map]at k3;cases hv:t.val with
   |nor τ=>
    rw[hv]at hz a2;simp only[qB,qI]at hz;obtain⟨c,hc,rfl⟩:=hz;obtain⟨o1,-⟩:=bI k2;cases a2 with
    |nor hl=>
     cases hn:(N v).val with
     |none=>rw[hn]at k3;simp[Pt.val]at k3
     |some v'=>
      rw[hn]at h k3;simp only[Pt.val,Option.map_some,qI]at k3;have hc':=DF (MK (σ':=c.1) (by rw[hc,←o1])) hl
      rw[←k3]at hc';exact SL hf hN hc' h
   |brk j τ=>
    rw[hv]at hz a2;obtain rfl:=qi hz;cases a2 with
    |brk hl=>
     cases hn:(N v).val with
     |some v'=>rw[hn]at k3;simp[Pt.val]at k3
     |none=>
      rw[hn]at h;obtain rfl:=qi h;exact⟨t,_,ht,by rw[hv];rfl,rfl,by rw[hv];exact .brk hl⟩
   |ret τ=>
    rw[hv]at hz a2;obtain rfl:=qi hz;cases a2 with
    |ret hl=>
     cases hn:(N v).val with
     |some v'=>rw[hn]at k3;simp[Pt.val]at k3
     |none=>
      rw[hn]at h;obtain rfl:=qi h;exact⟨t,_,ht,by rw[hv];rfl,rfl,by rw[hv];exact .ret hl⟩
theorem eE{R:Rt}{V:Type}{wm nm:Bool}{nb n:Nat}{live:List Nat}{x:C}{f:St→Option (Pt Out)}(hf:cY f (fT R nb n x)){un:St→Option (V×Bool)}{st:V→St}{N:V→Pt (Option V)}
  (hu: ∀σ v,un σ=some (v,true)→σ=st v) (hN: ∀v,((f (st v)).bind (rW wm nm nb live))=some ((N v).map (Option.map st))):cY (uB wm nm nb live f un st N n) (fT R nb n (.loop live x)):=fun σ σr t h ho hl=>by
 simp only[uB,dX,qB,qI]at h;obtain⟨c,hc,v,hv,u,hu',w,hw,rfl⟩:=h;obtain⟨o1,o2⟩:=bI ho;obtain⟨o0,o2⟩:=bI o2;obtain⟨o2,o3⟩:=bI o2;obtain⟨z,hz⟩:=Option.isSome_iff_exists.1 o2;have hc':=DF (MK (σ':=c.1) (by rw[hc,←o1])) hl
 have he:=hu c.1 v.1 (by rw[hv,←o0])
 rw[he]at hc';obtain⟨t',out,a1,a2,a3,a4⟩:=SL hf hN hc' hz;rw[hz,Option.getD_some,a1]at hu';obtain rfl:=qi hu';obtain⟨b1,-⟩:=AG hw a2;refine⟨out,by rw[fT];exact a3,?_⟩
 show LeOut w.val out
 rw[b1];exact a4
def pL:C→List (List Nat×C)
 | .seq x y=>pL x++pL y
 | .cond _ x y=>pL x++pL y
 | .blk _ x=>pL x
 | .loop live x=>(live,x)::pL x
 |_=>[]
def aVW(T:List Nat→C→Prop):List (List Nat×C)→Prop
 |[]=>True
 |p::r=>T p.1 p.2∧aVW T r
theorem qF{T:List Nat→C→Prop}: ∀{l m:List (List Nat×C)},aVW T (l++m)→aVW T l∧aVW T m
 |[],m,h=>⟨trivial,h⟩
 |p::r,m,h=>⟨⟨h.1,(qF (l:=r) h.2).1⟩,(qF (l:=r) h.2).2⟩
theorem sD{T:List Nat→C→Prop}: ∀{c:C},aVW T (pL c)→fN T c
 | .seq x y,h=>⟨sD (c:=x) (qF h).1,sD (c:=y) (qF h).2⟩
 | .cond _ x y,h=>⟨sD (c:=x) (qF h).1,sD (c:=y) (qF h).2⟩
 | .blk _ x,h=>sD (c:=x) h
 | .loop live x,h=>⟨h.1,sD (c:=x) h.2⟩
 | .ops _ _,_=>trivial
 | .drw ..,_=>trivial
 | .brk _,_=>trivial
 | .ret,_=>trivial
 | .skip,_=>trivial
theorem cI{T:List Nat→C→Prop}{c:C}{l:List (List Nat×C)}(h:pL c=l)(k:aVW T l):fN T c:=sD (by rw[h];exact k)
end Go.Zq

namespace Go.Zq
open Go
def byteRow:Row→Bool
 |[.lit (.int .u8 z)]=>decide (0≤z)&&decide (z<256)
 |_=>false
def bytesOk(rows:List Row):Bool:=rows.all byteRow
def ri(zs:List Int):List Row:=zs.map fun z=>[.lit (.int .i64 z)]
theorem bB{zs:List Int}:(ri zs).length=zs.length:=by simp[ri]
theorem aIL{r:Row}(h:byteRow r=true): ∃z:Int,r=[.lit (.int .u8 z)]∧0≤z∧z<256:=by
 unfold byteRow at h;split at h
 ·rename_i z;simp only[Bool.and_eq_true,decide_eq_true_eq]at h;exact⟨z,rfl,h⟩
 ·simp at h
theorem a0B{rows:List Row}(h:bytesOk rows=true){j:Nat}(hj:j<rows.length): ∃z:Int,rows.getD j []=[.lit (.int .u8 z)]∧bR rows j 0=z∧0≤z∧z<256:=by
 have hr:rows.getD j []=rows[j]:=by simp[List.getD_eq_getElem?_getD,hj]
 obtain⟨z,hz,h0,h1⟩:=aIL (List.all_eq_true.1 h rows[j] (List.getElem_mem hj));refine⟨z,by rw[hr,hz],?_,h0,h1⟩
 simp only[bR,wB,hr,hz];rfl
theorem aIM{rows:List Row}(h:bytesOk rows=true){p:Int}(h0:0≤p)(h1:p<(rows.length:Int)):iG [.int .u8] rows p=true:=by
 have hj:p.toNat<rows.length:=by omega
 obtain⟨z,hz,-⟩:=a0B h hj;have hb:Nat.blt p.toNat rows.length=true:=by simpa using hj
 simp only[iG,dV,hz,h0,hb,decide_true,Bool.true_and];rfl
def a0C(s:Int):Int:=IntKind.wrap IntKind.i64 (IntKind.wrap IntKind.u64 ↑(BitVec.toNat (BitVec.ofInt (64:Nat) (Int.fdiv s (1099511627776:Int))&&&BitVec.ofInt (64:Nat) (255:Int))))
theorem bA0(s:Int):0≤a0C s∧a0C s<256:=by
 unfold a0C;have h:(BitVec.ofInt 64 (s.fdiv 1099511627776)&&&BitVec.ofInt 64 255).toNat≤255:=by
  rw[BitVec.toNat_and];exact Nat.le_trans Nat.and_le_right (by decide)
 generalize (BitVec.ofInt 64 (s.fdiv 1099511627776)&&&BitVec.ofInt 64 255).toNat=n at h;have h1:IntKind.u64.wrap (n:Int)=n:=by
  have:IntKind.u64.wrap (n:Int)=(n:Int)%18446744073709551616:=by simp[IntKind.wrap,IntKind.bits,IntKind.signed]
  omega
 rw[h1,IntKind.wrap_i64];omega
end Go.Zq

namespace Go.Zq
open Go
theorem ML{xs ys:List Int}:ri (xs++ys)=ri xs++ri ys:=by simp[ri]
theorem Z4{xs:List Int}{j:Nat}{d:Int}(h:xs[j]? =some d):(ri xs).getD j []=[.lit (.int .i64 d)]:=by
 simp[ri,List.getD_eq_getElem?_getD,h]
theorem b02{xs:List Int}{j:Nat}{d:Int}(h:xs[j]? =some d):bR (ri xs) j 0=d:=by
 simp only[bR,wB,Z4 h];rfl
theorem a0D{xs:List Int}{j:Nat}{d:Int}(h:xs[j]? =some d):dV [.int .i64] (ri xs) j 0=true:=by
 have hj:j<xs.length:=(List.getElem?_eq_some_iff.1 h).1;simp only[dV,Z4 h,bB];have:Nat.blt j xs.length=true:=by simpa using hj
 rw[this];rfl
theorem bHW{xs:List Int}{j:Nat}{d:Int}(h:xs[j]? =some d):iG [.int .i64] (ri xs) (j:Int)=true:=by
 have h1:=a0D h;simp only[iG,Int.toNat_natCast,h1,Z4 h];simp
theorem Z5(z:Int)(k:Nat)(hk:k<63):IntKind.wrap IntKind.i64 (↑(BitVec.toNat (BitVec.ofInt (64:Nat) z&&&BitVec.ofInt (64:Nat) ((2:Int)^k-1))):Int)=z%2^k:=by
 have hpos:(1:Nat)≤2^k:=Nat.one_le_two_pow;have hle:(2:Nat)^k≤2^62:=Nat.pow_le_pow_right (by decide) (by omega)
 have e:(((2:Int)^k-1)%((2^64:Nat):Int)).toNat=2^k-1:=by
  have:((2:Int)^k)=((2^k:Nat):Int):=by simp
  rw[this];omega
 rw[BitVec.toNat_and,BitVec.toNat_ofInt,BitVec.toNat_ofInt,e,Nat.and_two_pow_sub_one_eq_mod,IntKind.wrap_i64];have h2:((2:Int)^k)=((2^k:Nat):Int):=by simp
 rw[h2];have h3:(((z%((2^64:Nat):Int)).toNat%2^k:Nat):Int)=z%((2^k:Nat):Int):=by
  rw[Int.natCast_emod,Int.toNat_of_nonneg (by omega)]
  refine Int.emod_emod_of_dvd _ ?_;exact Int.natCast_dvd_natCast.2 (Nat.pow_dvd_pow 2 (by omega))
 rw[h3];have h4:0≤z%((2^k:Nat):Int)∧z%((2^k:Nat):Int)<((2^k:Nat):Int):=⟨Int.emod_nonneg _ (by omega),Int.emod_lt_of_pos _ (by omega)⟩
 omega
end Go.Zq

namespace Go.Zq
open Go
def fV(c:C)(i:Nat):C:=((pL c)[i]?.map (·.2)).getD .skip
def bE(x y:Int):Int:=IntKind.wrap .i64 (x+y)
def cM(x y:Int):Int:=IntKind.wrap .i64 (x-y)
def dE(x y:Int):Int:=IntKind.wrap .i64 (x*y)
def b8I(x y:Int):Int:=x*y
def lW(x y:Int):Int:=IntKind.wrap .i64 (x.tdiv y)
def nM(x y:Int):Int:=x.tmod y
def bF(x y:Int):Int:=IntKind.wrap .i64 (BitVec.ofInt 64 x&&&BitVec.ofInt 64 y).toNat
def fB(x y:Int):Int:=IntKind.wrap .i64 (BitVec.ofInt 64 x|||BitVec.ofInt 64 y).toNat
def qN(x y:Int):Int:=IntKind.wrap .i64 (BitVec.ofInt 64 x^^^BitVec.ofInt 64 y).toNat
def gI(x y:Int):Int:=IntKind.wrap .i64 (BitVec.ofInt 64 x&&& ~~~BitVec.ofInt 64 y).toNat
def m9(x y:Int):Int:=IntKind.wrap .i64 (x*2^min y.toNat 64)
def fF(x y:Int):Int:=x.fdiv (2^min y.toNat 64)
def b03(k:IntKind)(x y:Int):Int:=k.wrap (x+y)
def b8J(k:IntKind)(x y:Int):Int:=k.wrap (x*y)
def bA1(k:IntKind)(x y:Int):Int:=k.wrap (BitVec.ofInt k.bits x&&&BitVec.ofInt k.bits y).toNat
def a0E(k:IntKind)(x y:Int):Int:=x.fdiv (2^min y.toNat k.bits)
def yE(k:IntKind)(x:Int):Int:=k.wrap x
def eqI(x y:Int):Bool:=x==y
def dD(x y:Int):Bool:=x !=y
def ltI(x y:Int):Bool:=decide (x<y)
def leI(x y:Int):Bool:=decide (x≤y)
def pG(x y:Int):Bool:=decide (x>y)
def geI(x y:Int):Bool:=decide (x≥y)
def AX(x y:Bool):Bool:=x==y
def dZ(x y:Nat):Bool:=decide (x=y)
noncomputable def s1{α:Type}(x:α):Bool:=same x x
noncomputable def r1(x:List Row):Bool:=aFX x x
def e1(x:Nat):Bool:=dZ x x
@[simp] theorem cQ{α:Type}(x:α):s1 x=true:=vU x
@[simp] theorem cS(x:List Row):r1 x=true:=vU x
@[simp] theorem bO(x:Nat):e1 x=true:=decide_eq_true rfl
def nX(x y:Nat):Bool:=decide (x≤y)
def blt(x y:Nat):Bool:=Nat.blt x y
def j7(x y:Nat):Bool:=x==y
def qY(x y:Nat):Nat:=x*y
def b8K(x y:Nat):Nat:=min x y
def j8(r:List Row)(j:Nat):Nat:=(r.getD j []).length
def b8L(n:Nat):Int:=n
def bX(r:List Row):Int:=r.length
def aY(x:Int):Row:=[.lit (.int .i64 x)]
theorem b04{R:Rt}{Q:Qt}(hQ:X7 (dQ R) Q){kd:List (Nat×List Kd)}{cl:List Nat}{mg:Bool}{lq:Lp}{n:Nat}{cf:Zq.Fn}{args:List SV}{hp:List Blk}{γ:Type}{T:Pt γ}{nn:γ→SV×List Blk}
  (hL:fN (fun live x=>cY (nL lq (lV x)) (fT R (dH hp) n (.loop live x))) cf.body) (e:fnP Q kd cl mg lq n cf args hp=some (T.map nn)) {r:SV×List Blk} (hr:nn (hid T.val)=r) (hk:hid T.okv=true):cf.run R n args hp=some r:=by
 rw[dX]at hr hk;have:=aO0 hQ hL e (by rw[Pt.okv_map];exact hk)
 rw[this,Pt.val_map,hr]
theorem bJO{R:Rt}{Q:Qt}(hQ:X7 (dQ R) Q){kd:List (Nat×List Kd)}{cl:List Nat}{mg:Bool}{lq:Lp}{n:Nat}{cf:Zq.Fn}{args:List SV}{hp:List Blk}{γ:Type}{T:Pt γ}{nn:γ→SV×List Blk}
  (hL:fN (fun live x=>cY (nL lq (lV x)) (fT R (dH hp+2) n (.loop live x))) cf.body) (e:bAZ Q kd cl mg lq n cf args hp=some (T.map nn)) {r:SV×List Blk} (hr:nn (hid T.val)=r) (hk:hid T.okv=true):cf.runK R n args hp=some r:=by
 rw[dX]at hr hk;have:=aZ9 hQ hL e (by rw[Pt.okv_map];exact hk)
 rw[this,Pt.val_map,hr]
noncomputable def fnZ(Q:Qt)(kd:List (Nat×List Kd))(cl:List Nat)(mg:Bool)(lq:Lp)(n:Nat)(cf:Zq.Fn)(args:List SV):Option (Pt (SV×List Blk)):=
 (fnP Q kd cl mg lq n cf args []).bind fun t=>t.bindO fun r=>(aIE r.2 r.1).bind fun v=>some (.ok v.2 (.leaf (v.1,[])))
theorem b05{R:Rt}{Q:Qt}(hQ:X7 (dQ R) Q){kd:List (Nat×List Kd)}{cl:List Nat}{mg:Bool}{lq:Lp}{n:Nat}{cf:Zq.Fn}{args:List SV}{γ:Type}{T:Pt γ}{nn:γ→SV×List Blk}{f:FuncId}
  (hL:fN (fun live x=>cY (nL lq (lV x)) (fT R (dH []) n (.loop live x))) cf.body) (e:fnZ Q kd cl mg lq n cf args=some (T.map nn)) {r:SV×List Blk} (hr:nn (hid T.val)=r) (hk:hid T.okv=true) (hR: ∀r,cf.run R n args []=some r→R f args []=some r):dQ R (f+100000) args []=some r:=by
 rw[dX]at hr hk;unfold fnZ at e;simp only[Option.bind_eq_some_iff]at e;obtain⟨t,ht,e⟩:=e;obtain⟨k1,w,hw,k2,k3⟩:=Pt.bindO_val e (by rw[Pt.okv_map];exact hk)
 have hrun:=hR _ (aO0 hQ hL ht k1);simp only[Option.bind_eq_some_iff,Option.some.injEq]at hw;obtain⟨v,hv,rfl⟩:=hw;obtain⟨o1,-⟩:=bI k2;rw[Pt.val_map,hr]at k3;rw[aZT,hrun];simp only[Option.bind_some,aVO (r:=v.1) (by rw[hv,←o1])]
 rw[k3];rfl
end Go.Zq

namespace Go.Zq
open Go
def Pt.Sat{α:Type}(P:α→Prop):Pt α→Prop
 | .leaf a=>P a
 | .br b x y=>(b=true→x.Sat P)∧(b=false→y.Sat P)
 | .ok b x=>b=true∧x.Sat P
theorem Pt.sat_ok{α:Type}{P:α→Prop}: ∀{t:Pt α},t.Sat P→t.okv=true∧P t.val
 | .leaf a,h=>⟨rfl,h⟩
 | .br b x y,h=>by
   cases b
   ·exact Pt.sat_ok (t:=y) (h.2 rfl)
   ·exact Pt.sat_ok (t:=x) (h.1 rfl)
 | .ok b x,h=>by
   obtain⟨h1,h2⟩:=Pt.sat_ok (t:=x) h.2;exact⟨by simp only[Pt.okv,h.1,h1];rfl,h2⟩
theorem aK{α:Type}{P:α→Prop}{t:Pt α}(h:t.Sat P):hid t.okv=true∧P (hid t.val):=by
 rw[dX,dX];exact Pt.sat_ok h
@[simp] theorem aA{α:Type}{P:α→Prop}{a:α}:(Pt.leaf a).Sat P=P a:=rfl
@[simp] theorem aI{α:Type}{P:α→Prop}{b:Bool}{x y:Pt α}:(Pt.br b x y).Sat P=((b=true→x.Sat P)∧(b=false→y.Sat P)):=rfl
@[simp] theorem aB{α:Type}{P:α→Prop}{b:Bool}{x:Pt α}:(Pt.ok b x).Sat P=(b=true∧x.Sat P):=rfl
@[simp] theorem pH{α:Type}{a:α}:(Pt.leaf a).okv=true:=rfl
@[simp] theorem IY{α:Type}{b:Bool}{x y:Pt α}:(Pt.br b x y).okv=bif b then x.okv else y.okv:=rfl
@[simp] theorem zT{α:Type}{b:Bool}{x:Pt α}:(Pt.ok b x).okv=(b&&x.okv):=rfl
@[simp] theorem kI{α:Type}{a:α}:(Pt.leaf a).val=a:=rfl
@[simp] theorem IZ{α:Type}{b:Bool}{x y:Pt α}:(Pt.br b x y).val=bif b then x.val else y.val:=rfl
@[simp] theorem rN{α:Type}{b:Bool}{x:Pt α}:(Pt.ok b x).val=x.val:=rfl
@[simp] theorem b58{a b:Nat}:dZ a b=true↔a=b:=by simp[dZ]
@[simp] theorem aD{a:Nat}:dZ a a=true:=by simp[dZ]
@[simp] theorem tG{a b:Nat}:nX a b=true↔a≤b:=by simp[nX]
@[simp] theorem b3X{a b:Nat}:j7 a b=true↔a=b:=by simp[j7]
@[simp] theorem b59{a b:Nat}:blt a b=true↔a<b:=by simp[blt]
@[simp] theorem bL{α:Type}(a:α):same a a=true:=vU a
@[simp] theorem aZ(a:List Row):aFX a a=true:=aII a
@[simp] theorem eC{a b:Int}:eqI a b=true↔a=b:=by simp[eqI]
@[simp] theorem iS{a b:Int}:eqI a b=false↔a≠b:=by simp[eqI]
@[simp] theorem oP{a b:Int}:dD a b=true↔a≠b:=by simp[dD]
@[simp] theorem PE{a b:Int}:dD a b=false↔a=b:=by simp[dD]
@[simp] theorem eD{a b:Int}:ltI a b=true↔a<b:=by simp[ltI]
@[simp] theorem nV{a b:Int}:ltI a b=false↔b≤a:=by simp[ltI]
@[simp] theorem lS{a b:Int}:leI a b=true↔a≤b:=by simp[leI]
@[simp] theorem aTW{a b:Int}:leI a b=false↔b<a:=by simp[leI]
@[simp] theorem tH{a b:Int}:pG a b=true↔b<a:=by simp[pG]
@[simp] theorem PF{a b:Int}:pG a b=false↔a≤b:=by simp[pG]
@[simp] theorem KY{a b:Int}:geI a b=true↔b≤a:=by simp[geI]
@[simp] theorem aGV{a b:Int}:geI a b=false↔a<b:=by simp[geI]
@[simp] theorem b6A{a b:Bool}:AX a b=true↔a=b:=by simp[AX]
@[simp] theorem aT{r:List Row}:bX r=(r.length:Int):=rfl
@[simp] theorem b6B{n:Nat}:b8L n=(n:Int):=rfl
@[simp] theorem aD6{a b:Nat}:qY a b=a*b:=rfl
@[simp] theorem b6C{a b:Nat}:b8K a b=min a b:=rfl
@[simp] theorem b6D{a b:Int}:b8I a b=a*b:=rfl
theorem bV{x y:Int}(h: -9223372036854775808≤x+y∧x+y<9223372036854775808):bE x y=x+y:=by
 unfold bE;rw[IntKind.wrap_i64];omega
theorem eX{x y:Int}(h: -9223372036854775808≤x-y∧x-y<9223372036854775808):cM x y=x-y:=by
 unfold cM;rw[IntKind.wrap_i64];omega
theorem gU{x y:Int}(h: -9223372036854775808≤x*y∧x*y<9223372036854775808):dE x y=x*y:=by
 unfold dE;rw[IntKind.wrap_i64];omega
theorem bGB{x:Int}(h: -9223372036854775808≤x∧x<9223372036854775808):yE .i64 x=x:=by
 unfold yE;rw[IntKind.wrap_i64];omega
theorem aTX{x n:Int}(h0:0≤x)(h1:0<n):0≤nM x n∧nM x n<n:=by
 unfold nM;rw[Int.tmod_eq_emod_of_nonneg h0];exact⟨Int.emod_nonneg _ (by omega),Int.emod_lt_of_pos _ h1⟩
def Num(r:List Row):Prop:= ∃zs:List Int,r=ri zs
theorem CA{z:Int}{zs:List Int}:ri (z::zs)=aY z::ri zs:=rfl
theorem I0:ri []=[]:=rfl
theorem bPB{r:List Row}(h:Num r){j:Int}(h0:0≤j)(h1:j<(r.length:Int)):iG [.int .i64] r j=true:=by
 obtain⟨a,rfl⟩:=h;rw[bB]at h1;have hj:j.toNat<a.length:=by omega
 have:=bHW (xs:=a) (j:=j.toNat) (d:=a[j.toNat]) (List.getElem?_eq_getElem hj)
 rwa [Int.toNat_of_nonneg h0]at this
theorem FV{r:List Row}(h:Num r){j:Nat}(h1:j<r.length):dV [.int .i64] r j 0=true:=by
 obtain⟨a,rfl⟩:=h;rw[bB]at h1;exact a0D (d:=a[j]) (List.getElem?_eq_getElem h1)
structure CurOk(B:Int)(code:List Row)(p:Int):Prop where
 code:bytesOk code=true
 lo:0≤p
 hi:p≤B
theorem CurOk.mono{B C:Int}{code:List Row}{p:Int}(h:CurOk B code p)(hB:B≤C):CurOk C code p:=⟨h.1,h.2,by have:=h.3;omega⟩
theorem eY{V:Type}{N:V→Pt (Option V)}(Inv:Nat→V→Prop)(Post:V→Prop)(h: ∀n v,Inv n v→(N v).Sat fun r=>match r with|none=>Post v|some v'=> ∃m,m<n∧Inv m v'):
  ∀(k n:Nat)(v:V),Inv n v→n<k→ ∃w,dW N k v=some w∧Post w
 |0,n,v,hi,hk=>by omega
 |k+1,n,v,hi,hk=>by
  obtain⟨h1,h2⟩:=Pt.sat_ok (h n v hi);unfold dW;rw[h1,cond_true];cases hv:(N v).val with
  |none=>rw[hv]at h2;exact⟨v,rfl,h2⟩
  |some v'=>
   rw[hv]at h2;obtain⟨m,hm,hi'⟩:=h2;exact eY Inv Post h k m v' hi' (by omega)
theorem jA{V:Type}{N:V→Pt (Option V)}{Post:V→Prop}{k:Nat}{v:V}(h: ∃w,dW N k v=some w∧Post w):(hid (dW N k v)).isSome=true∧Post ((hid (dW N k v)).getD v):=by
 obtain⟨w,hw,hp⟩:=h;rw[dX,hw];exact⟨rfl,hp⟩
def cJ(x a b:Int):Bool:=decide (a≤x)&&decide (x≤b)
@[simp] theorem aU{x a b:Int}:cJ x a b=true↔a≤x∧x≤b:=by simp[cJ]
def dJ(zs:List Int):Bool:=zs.all fun z=>cJ z 0 255
theorem o9{zs:List Int}{i:Nat}(h:i<zs.length):bR (ri zs) i 0=zs[i]:=b02 (List.getElem?_eq_getElem h)
theorem zU{v:Int}(h:0≤v)(h1:v<9223372036854775808):bF v 255=v%256:=by
 have:=Z5 v 8 (by omega)
 exact this
theorem jF{v:Int}(k:Nat)(m:Int)(hk:k<63)(hm:m=2^k-1):bF v m=v%2^k:=by
 subst hm;exact Z5 v k hk
theorem kW{v n:Int}(k:Nat)(hn:n=(k:Int))(hk:k≤64):fF v n=v/2^k:=by
 subst hn;unfold fF;rw[Int.toNat_natCast,Nat.min_eq_left hk,Int.fdiv_eq_ediv_of_nonneg _ (Int.le_of_lt (Int.pow_pos (by omega)))]
theorem bGC{v:Int}(h:0≤v)(h1:v<65536):m9 v 8=v*256:=by
 unfold m9;rw[show((2:Int)^min (Int.toNat 8) 64)=256 from by decide,IntKind.wrap_i64]
 omega
theorem VS{q r:Int}(hq:0≤q)(hq1:q<65536)(hr:0≤r)(hr1:r<256):fB (q*256) r=q*256+r:=by
 obtain⟨a,rfl⟩:=Int.eq_ofNat_of_zero_le hq;obtain⟨b,rfl⟩:=Int.eq_ofNat_of_zero_le hr;unfold fB;rw[BitVec.toNat_or,BitVec.toNat_ofInt,BitVec.toNat_ofInt];have e1:(((a:Int)*256)%((2^64:Nat):Int)).toNat=2^8*a:=by omega
 have e2:((b:Int)%((2^64:Nat):Int)).toNat=b:=by omega
 rw[e1,e2,←Nat.two_pow_add_eq_or_of_lt (by omega),IntKind.wrap_i64]
 omega
theorem bPC{v:Int}(h:0≤v):nM v 2=v%2:=by
 unfold nM;exact Int.tmod_eq_emod_of_nonneg h
theorem b3Y{v:Int}:bF v 1=v%2:=by
 have:=Z5 v 1 (by omega)
 simpa [bF]using this
theorem dY{zs:List Int}{i:Nat}{z:Int}:(ri zs).set i (aY z)=ri (zs.set i z):=by
 simp only[ri,List.map_set];rfl
theorem yI{zs:List Int}{i:Nat}(h:i<zs.length):j8 (ri zs) i=1:=by
 unfold j8;rw[Z4 (List.getElem?_eq_getElem h)];rfl
theorem vC{zs:List Int}{i:Nat}(h:i<zs.length):iG [.int .i64] (ri zs) (i:Int)=true:=bHW (d:=zs[i]) (List.getElem?_eq_getElem h)
end Go.Zq
