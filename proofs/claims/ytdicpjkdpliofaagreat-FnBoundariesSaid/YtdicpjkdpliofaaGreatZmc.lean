import Derived.Test.YtdicpjkdpliofaaGreatZmb
import Derived.KernelRfl
set_option linter.unusedVariables false
set_option linter.unusedSimpArgs false
namespace Go.Zq
open Go
theorem aJB{P:Program}(w:World)(d:Nat)(t e:TypeId)(a:Option Addr)(l c:Nat)(h:P.underlying t=some (.slice e)):(Op.equalIn (d+1) t (.slice a l c) (.slice none 0 0)).run P w= .ok a.isNone w:=by
 unfold Op.equalIn;simp only[Sem.run_bind,run_underlying h,Result.andThen_ok];cases a<;>rfl
def yD(p:Bool)(n:Nat)(rows:List Row):List (Nat×SV):=[(2, .one (.nls n)),(0, .one (.imm p n rows))]
theorem bWJ(R:Rt){p:Bool}{n k:Nat}{rows:List Row}{b:Bool}:eY R 0 k (.seq (.ops [(none, .mv 2 (.c (.one (.nls n))))] none) .ret) ⟨(4, .one (B b))::(3, .one (.imm p n rows))::yD p n rows,[]⟩=
  some (.ret ⟨(2, .one (.nls n))::(4, .one (B b))::(3, .one (.imm p n rows))::yD p n rows,[]⟩):=by
 simp only[eY,dU,kG,K.run,K.exec,St.ev,Option.bind_some,setD,K.dst,St.set,trim]
theorem bWK(R:Rt){p:Bool}{n k by_:Nat}{z:Row}{rows:List Row}{b:Bool}(hz:z.length=n)(h1:rows.length*by_≤room)(h2:rows.length≤room):
  eY R 0 k (.seq (.ops [(none, .bsl 5 0 z []),(none, .mv 6 (.t 0)),(none, .app 7 by_ n (.t 5) (.t 6)),(none, .mv 2 (.t 7))] none) .ret) ⟨(4, .one (B b))::(3, .one (.imm p n rows))::yD p n rows,[]⟩=
  some (.ret ⟨(2, .one (.sl 1 0 rows.length))::(7, .one (.sl 1 0 rows.length))::(6, .one (.imm p n rows))::(5, .one (.sl 0 0 0))::(4, .one (B b))::(3, .one (.imm p n rows))::yD p n rows,[.dead, .lst n rows]⟩):=by
 simp[eY,dU,kG,K.run,K.exec,St.ev,setD,K.dst,St.set,trim,fillRows,bH,yD,i6,dI,P6,nJ,JM,hz,h1,h2]
theorem aX9{σ:St}{n:Nat}(hh:σ.hp=[]):leave 0 σ [.one (.nls n)]=some (.one (.sl 0 0 0),[.lst n []]):=by
 simp[leave,eU,fC,vQ,P3,LU,a09,aFO,hh,oX,vR,a1B,cG,P4,CN,dX,nJ,dI,pS,ren,aFP]
theorem aYA{σ:St}{n:Nat}{rows:List Row}(hh:σ.hp=[.dead, .lst n rows]):leave 0 σ [.one (.sl 1 0 rows.length)]=some (.one (.sl 0 0 rows.length),[.lst n rows]):=by
 simp[leave,eU,fC,vQ,P3,LU,a09,aFO,a08,hh,oX,vR,a1B,cG,P4,CN,dX,nJ,dI,pS,ren,CL]
structure CloneSh(P:Program)(f:FuncId)(n by_:Nat) where
 fn:Func
 h:Hint
 q:Array Oper→List Nat→List G→Bool
 dr:HI P q
 t:TypeId
 e:TypeId
 z:Row
 x:Code
 y:Code
 i0:Nat
 i1:Nat
 ops0:Array Oper
 o1:Oper
 o2:Oper
 hf:P.funcs[f]? =some fn:=by kernel_rfl
 hname:(fn.name== "runtime.NumGoroutine")=false:=by kernel_rfl
 hb:fn.body=some (.seq (.region i0 ops0 false) (.seq (.seq (.region i1 #[o1,o2] false) (.cond (.tmp 4) x .skip)) y))
 hn:fn.ntmps=8:=by kernel_rfl
 hr:fn.results= #[.tmp 2]:=by kernel_rfl
 hA:pE P 8 h q (.region i0 ops0 false)=some (.ops [(none, .mv 2 (.c (.one (.nls n))))] none):=by kernel_rfl
 ho1:GN P 8 h.md false #[o1,o2] o1=some (none, .mv 3 (.t 0)):=by kernel_rfl
 ho2:o2.op= .binOp .eql t (.tmp 3) (.const (.slice none 0 0)) t:=by kernel_rfl
 hd2:o2.dst=some 4:=by kernel_rfl
 hg2:o2.guard=none:=by kernel_rfl
 ht:P.underlying t=some (.slice e):=by kernel_rfl
 hx:pE P 8 h q x=some (.seq (.ops [(none, .mv 2 (.c (.one (.nls n))))] none) .ret):=by kernel_rfl
 hz:z.length=n:=by kernel_rfl
 hy:pE P 8 h q y=some (.seq (.ops [(none, .bsl 5 0 z []),(none, .mv 6 (.t 0)),(none, .app 7 by_ n (.t 5) (.t 6)),(none, .mv 2 (.t 7))] none) .ret):=by kernel_rfl
theorem a19{P:Program}{R:Rt}(hR:pF P R)(hord:QQ P){f:FuncId}{n by_:Nat}(s:CloneSh P f n by_){p:Bool}{rows:List Row}(h1:rows.length*by_≤room)(h2:rows.length≤room):
  TC P f [.one (.imm p n rows)] [] (.one (.sl 0 0 rows.length)) [.lst n rows]:=by
 obtain⟨fn,h,q,dr,t,e,z,x,y,i0,i1,ops0,o1,o2,hf,hname,hb,hn,hr,hA,ho1,ho2,hd2,hg2,ht,hx,hz,hy⟩:=s;intro w ρ S us hent;have hdr:DrawSound P q:=⟨dr,hord⟩;have hsim:=hent.sim (N:=8) (by simp)
 have hS:qW 0 [SV.one (T.imm p n rows)]=[(0, .one (.imm p n rows))]:=rfl;have hN:cW []=0:=rfl;rw[hS,hN]at hsim;have fin: ∀(σ:St)(v:SV)(ρ1:Rho)(S1:Rds)(a1:Act)(w1:World),Sim w (wOf [] ρ) S ρ 0 8 ρ1 S1 σ a1 w1→bH 2 σ.sl=some v→leave 0 σ [v]=some (.one (.sl 0 0 rows.length),[.lst n rows])→
   bodyPost P fn (fun| .returned u,w'=>Exit w (wOf [] ρ) S ρ (cW []) (.one (.sl 0 0 rows.length)) [.lst n rows] u w'|_,_=>False) .ret a1 w1:=by
  intro σ v ρ1 S1 a1 w1 hs hv hl;have hrs:JP P 8 fn.results.toList=some [.tmp 2]:=by rw[hr];rfl
  obtain⟨us1,k1,k2,k3⟩:=HL (P:=P) hs fn.results.toList _ hrs [v] (by simp[eO,hv])
  refine⟨hs.defers,_,?_,hs.leave k2 k3 hl⟩;rw[HK];simp only[Array.mapM_eq_mapM_toList,Sem.run_bind,Sem.run_map,k1]
  match us1 with
  |[]=>rfl
  |[u]=>rfl
  |x::y::r=>rfl
 refine calls_of_wp hf hb ?_;rw[hn];refine wp_seq (wp_mono (JZ hR hdr (n:=1) _ _ hA _ _ _ _ _ (.nor ⟨yD p n rows,[]⟩) hsim (by simp only[eY,dU,kG,K.run,K.exec,St.ev,Option.bind_some,setD,K.dst,St.set,trim,yD])) fun ex a1 w1 hp=>?_)
 cases ex with
 |normal=>
  obtain⟨σ1,ρ1,S1,e1,hs1⟩:=hp;obtain rfl:=Out.nor.inj e1;refine wp_seq (wp_seq (wp_region ?_));show wpOps P #[o1,o2] _ [0,1] a1 w1
  simp only[wpOps];refine PO hR hs1 ho1 (σ':=⟨(3, .one (.imm p n rows))::yD p n rows,[]⟩) (by simp[kG,K.run,K.exec,St.ev,setD,K.dst,St.set,bH,yD]) fun ρ2 S2 a2 w2 hs2=>?_
  have h3:RS ρ2 w2 S2 (.one (.imm p n rows)) (a2.tmps.getD 3 undef):=(hs2.slots 3 _ (by simp[bH])).2
  have hval: ∃ad l c,a2.tmps.getD 3 undef= .slice ad l c∧(ad.isNone=true→rows=[]):=by
   generalize a2.tmps.getD 3 undef=v at h3;cases h3 with
   |one h=>cases h with
    |ri h=>cases h with
     |nil=>exact⟨_,_,_,rfl,fun _=>rfl⟩
     |imm=>exact⟨_,_,_,rfl,fun h=>by simp at h⟩
  obtain⟨ad,l,c,hv,hnil⟩:=hval;have hdo:lY P w (wOf [] ρ) S ρ 0 8 ⟨(3, .one (.imm p n rows))::yD p n rows,[]⟩ a2 w2 o2 (.one (B ad.isNone)) []:=by
   refine eG hs2 (u:= .bool ad.isNone) ?_ .bool;simp only[execOp,ho2,Sem.run_bind];have e3:a2.eval (.tmp 3)= .slice ad l c:=hv;have e4:a2.eval (.const (.slice none 0 0))= .slice none 0 0:=rfl;rw[e3,e4];have hg:(eqGuard .eql t (.tmp 3) (.const (.slice none 0 0)) (.slice ad l c) (.slice none 0 0)).run P w2= .ok () w2:=rfl;have he:(Op.equal t (.slice ad l c) (.slice none 0 0)).run P w2= .ok ad.isNone w2:=aJB w2 9999 t e ad l c ht;simp[Go.binOp,he,hg]
  have hwant:Region.wanted o2 (yielded #[o1,o2] a2.tmps):=by simp[Region.wanted,hg2]
  show if Region.wanted o2 (yielded #[o1,o2] a2.tmps)then _ else _
  rw[if_pos hwant];refine .inl (OpDone.of_does hs2 hd2 (by decide) hdo _ _ fun ρ3 S3 a3 w3 hs3=>?_)
  have hc:a3.eval (.tmp 4)= .bool ad.isNone:=lF (hs3.slots 4 (.one (B ad.isNone)) (by simp[setD,St.set,bH])).2 rfl
  show(Code.cond (.tmp 4) x .skip).wp P _ a3 w3
  refine wp_cond hc ?_;cases hb:ad.isNone with
  |true=>
   rw[hb]at hs3;simp only[if_true];refine wp_mono (JZ hR hdr (n:=1) _ _ hx _ _ _ _ _ _ hs3 (bWJ R)) fun ex a4 w4 hp4=>?_
   cases ex with
   |ret=>
    obtain⟨σ4,ρ4,S4,e4,hs4⟩:=hp4;obtain rfl:=Out.ret.inj e4;have:=hnil hb;subst this;exact fin _ (.one (.nls n)) ρ4 S4 a4 w4 hs4 (by simp[bH]) (aX9 rfl)
   |normal=>obtain⟨_,_,_,e4,_⟩:=hp4;simp at e4
   |exit id=>obtain⟨_,_,_,e4,_⟩:=hp4;simp at e4
   |goto l=>exact hp4.elim
   |panic ch=>exact hp4.elim
   |outgrown=>exact hp4.elim
  |false=>
   rw[hb]at hs3;refine wp_skip ?_;show y.wp P _ a3 w3
   refine wp_mono (JZ hR hdr (n:=1) _ _ hy _ _ _ _ _ _ hs3 (bWK R hz h1 h2)) fun ex a4 w4 hp4=>?_
   cases ex with
   |ret=>
    obtain⟨σ4,ρ4,S4,e4,hs4⟩:=hp4;obtain rfl:=Out.ret.inj e4;exact fin _ (.one (.sl 1 0 rows.length)) ρ4 S4 a4 w4 hs4 (by simp[bH]) (aYA rfl)
   |normal=>obtain⟨_,_,_,e4,_⟩:=hp4;simp at e4
   |exit id=>obtain⟨_,_,_,e4,_⟩:=hp4;simp at e4
   |goto l=>exact hp4.elim
   |panic ch=>exact hp4.elim
   |outgrown=>exact hp4.elim
 |exit id=>obtain⟨_,_,_,e1,_⟩:=hp;simp at e1
 |ret=>obtain⟨_,_,_,e1,_⟩:=hp;simp at e1
 |goto l=>exact hp.elim
 |panic ch=>exact hp.elim
 |outgrown=>exact hp.elim
def ZT(n by_:Nat):List SV→List Blk→Option (SV×List Blk)
 |[.one (.imm _ m rows)],[]=>if m=n∧rows.length*by_≤room∧rows.length≤room then some (.one (.sl 0 0 rows.length),[.lst n rows])else none
 |_,_=>none
def GT:List (FuncId×Nat×Nat)→Rt
 |[],_,_,_=>none
 |(g,n,b)::r,f,args,hp=>if g=f then ZT n b args hp else GT r f args hp
theorem bD3(P:Program):L4 P (GT []):=fun _ _ _ _ _ h=>by simp[GT]at h
theorem aGB{P:Program}(hm:P.follows .mixedOrders=true){f:FuncId}{n by_:Nat}(s:CloneSh P f n by_){r:List (FuncId×Nat×Nat)}(hr:L4 P (GT r)):L4 P (GT ((f,n,by_)::r)):=fun g args hp res hp' h=>by
 unfold GT at h;split at h
 ·rename_i e;subst e;unfold ZT at h;split at h
  ·rename_i p m rows;obtain⟨⟨rfl,h1,h2⟩,h3⟩:=bQ h;simp only[Option.some.injEq,Prod.mk.injEq]at h3;obtain⟨rfl,rfl⟩:=h3;exact⟨⟨_,_,s.hf,s.hb,s.hname⟩,a19 (aF9 P) (XZ hm) s h1 h2⟩
  ·simp at h
 ·exact hr g args hp res hp' h
end Go.Zq

namespace Go.Zq
open Go
def b21:List SV→SV
 |[v]=>v
 |vs=> .tup vs
section
variable{R:Rt}{nb n:Nat}{x y:C}{σ σ1:St}{id:Nat}
end
end Go.Zq

namespace Go.Zq
open Option renaming bind_eq_some_iff → qB
open Option.some renaming injEq → qI
open Prod.mk renaming injEq → qP
open Go
theorem aS{a b:Bool}(h:(a&&b)=true):a=true∧b=true:=by simpa using h
def L8:List Src→Nat→Nat→Nat→Nat→Option (Nat×Bool)
 |[],_,_,_,_=>none
 | .lst id o l::r,k,j,off,len=>if id=j then some (k,decide (o=off)&&decide (l=len))else L8 r (k+1) j off len
 |_::r,k,j,off,len=>L8 r (k+1) j off len
theorem EW: ∀{l:List Src}{k j off len n:Nat},L8 l k j off len=some (n,true)→CL l k j off len=some n
 |[],k,j,off,len,n,h=>by simp[L8]at h
 | .lst id o l::r,k,j,off,len,n,h=>by
   simp only[L8]at h;simp only[CL];split at h
   ·rename_i e;simp only[qI,qP,Bool.and_eq_true,decide_eq_true_eq]at h;rw[if_pos ⟨e,h.2.1,h.2.2⟩,h.1]
   ·rename_i e;rw[if_neg (fun x=>e x.1)]
    exact EW h
 | .box _ _ _::r,k,j,off,len,n,h=>EW (l:=r) h
 | .nil _::r,k,j,off,len,n,h=>EW (l:=r) h
def PA(src:List Src)(m:Nat):T→Option ((T×Nat)×Bool)
 | .lit v=>some ((.lit v,m),true)
 | .nls _=>(aFP src 0 m).bind fun k=>some ((.sl k 0 0,m+1),true)
 | .sl id off len=>(L8 src 0 id off len).bind fun k=>some ((.sl k.1 0 len,m),k.2)
 | .imm p n rows=>some ((.imm p n rows,m),true)
 | .clo f caps=>(JL src caps).bind fun caps=>some ((.clo f caps,m),true)
 | .ptr id row off=>(ZE src (.ptr id row off)).bind fun t=>some ((t,m),true)
 | .ip _=>none
theorem PP{src:List Src}{m:Nat}{t:T}{r:T×Nat}(h:PA src m t=some (r,true)):ren src m t=some r:=by
 cases t with
 |lit v=>simpa [PA,ren]using h
 |nls n=>
  simp only[PA,qB,qI,qP,and_true]at h;obtain⟨k,hk,rfl⟩:=h;simp[ren,hk]
 |sl id off len=>
  simp only[PA,qB,qI,qP]at h;obtain⟨k,hk,rfl,h2⟩:=h;have:=EW (n:=k.1) (by rw[hk,←h2])
  simp[ren,this]
 |imm p n rows=>simpa [PA,ren]using h
 |clo f caps=>
  simp only[PA,qB,qI,qP,and_true]at h;obtain⟨k,hk,rfl⟩:=h;simp[ren,hk]
 |ptr id row off=>
  simp only[PA,qB,qI,qP,and_true]at h;obtain⟨k,hk,rfl⟩:=h;simp[ren,hk]
 |ip _=>simp[PA]at h
def xT(src:List Src)(m:Nat):Row→Option ((Row×Nat)×Bool)
 |[]=>some (([],m),true)
 |t::r=>(PA src m t).bind fun x=>(xT src x.1.2 r).bind fun y=>some ((x.1.1::y.1.1,y.1.2),x.2&&y.2)
theorem vW{src:List Src}: ∀{m:Nat}{t:Row}{r:Row×Nat},xT src m t=some (r,true)→rW src m t=some r
 |m,[],r,h=>by simpa [xT,rW]using h
 |m,t::s,r,h=>by
  simp only[xT,qB,qI,qP]at h;obtain⟨x,hx,y,hy,rfl,ho⟩:=h;obtain⟨o1,o2⟩:=aS ho;have h1:=PP (r:=x.1) (by rw[hx,←o1])
  have h2:=vW (r:=y.1) (by rw[hy,←o2])
  simp[rW,h1,h2]
def AU(wm:Bool)(hp:List Blk):T→Option (List Row×Bool)
 | .nls _=>some ([],true)
 | .imm _ _ rows=>some (rows,true)
 | .sl id off len=>
   match hp[id]? with
   |some (.lst _ rows)=>if wm=true then some (rows,decide (off=0)&&decide (len=rows.length))else some ((rows.drop off).take len,decide (off+len≤rows.length))
   |_=>none
 |_=>none
theorem vX{wm:Bool}{hp:List Blk}{t:T}{r:List Row}(h:AU wm hp t=some (r,true)):dI hp t=some r:=by
 unfold AU at h;unfold dI;split at h
 ·simpa using h
 ·simpa using h
 ·split at h
  ·rename_i hb;simp only[hb];split at h
   ·simp only[qI,qP,Bool.and_eq_true,decide_eq_true_eq]at h;obtain⟨rfl,rfl,rfl⟩:=h;simp
   ·simp only[qI,qP,decide_eq_true_eq]at h;rw[if_pos h.2,h.1]
  ·simp at h
 ·simp at h
def GU(wm:Bool)(hp:List Blk)(src:List Src):T→Option (T×Bool)
 | .lit v=>some (.lit v,true)
 | .nls n=>some (.imm false n [],true)
 | .imm p n rows=>some (.imm p n rows,true)
 | .sl id off len=>(nJ hp (.sl id off len)).bind fun n=>(AU wm hp (.sl id off len)).bind fun rows=>if src.all (aIP id)then some (.imm false n rows.1,rows.2)else none
 | .clo f caps=>(JL src caps).bind fun caps=>some (.clo f caps,true)
 | .ptr id row off=>(ZE src (.ptr id row off)).bind fun t=>some (t,true)
 | .ip _=>none
theorem aGC{wm:Bool}{hp:List Blk}{src:List Src}{t r:T}(h:GU wm hp src t=some (r,true)):CM hp src t=some r:=by
 cases t with
 |lit v=>simpa [GU,CM]using h
 |nls n=>simpa [GU,CM]using h
 |sl id off len=>
  simp only[GU,qB]at h;obtain⟨n,hn,rows,hr,h⟩:=h;split at h
  ·rename_i e;simp only[qI,qP]at h;have:=vX (r:=rows.1) (by rw[hr,←h.2])
   simp[CM,hn,this,e,h.1]
  ·simp at h
 |imm p n rows=>simpa [GU,CM]using h
 |clo f caps=>
  simp only[GU,qB,qI,qP,and_true]at h;obtain⟨k,hk,rfl⟩:=h;simp[CM,hk]
 |ptr id row off=>
  simp only[GU,qB,qI,qP,and_true]at h;obtain⟨k,hk,rfl⟩:=h;simp[CM,hk]
 |ip _=>simp[GU]at h
def C0(wm:Bool)(hp:List Blk)(src:List Src):Row→Option (Row×Bool)
 |[]=>some ([],true)
 |t::r=>(GU wm hp src t).bind fun t=>(C0 wm hp src r).bind fun r=>some (t.1::r.1,t.2&&r.2)
theorem OL{wm:Bool}{hp:List Blk}{src:List Src}: ∀{t r:Row},C0 wm hp src t=some (r,true)→xL hp src t=some r
 |[],r,h=>by simpa [C0,xL]using h
 |t::s,r,h=>by
  simp only[C0,qB,qI,qP]at h;obtain⟨x,hx,y,hy,rfl,ho⟩:=h;obtain⟨o1,o2⟩:=aS ho;have h1:=aGC (r:=x.1) (by rw[hx,←o1])
  have h2:=OL (r:=y.1) (by rw[hy,←o2])
  simp[xL,h1,h2]
def nW(wm:Bool)(hp:List Blk)(src:List Src):Nat→List Src→Option ((List Blk×Nat)×Bool)
 |m,[]=>some (([],m),true)
 |m,s::r=>
  match s with
  | .box id off n=>
    (xT src m (tE hp (.box id off n))).bind fun x=>(nW wm hp src x.1.2 r).bind fun y=>some ((.box x.1.1::y.1.1,y.1.2),x.2&&y.2)
  | .lst id off len=>
    (nJ hp (.sl id off len)).bind fun n=>(AU wm hp (.sl id off len)).bind fun rows=>(nW wm hp src m r).bind fun y=>some ((.lst n rows.1::y.1.1,y.1.2),rows.2&&y.2)
  | .nil n=>(nW wm hp src m r).bind fun y=>some ((.lst n []::y.1.1,y.1.2),y.2)
theorem qG{wm:Bool}{hp:List Blk}{src:List Src}: ∀{l:List Src}{m:Nat}{r:List Blk×Nat},nW wm hp src m l=some (r,true)→dX hp src m l=some r
 |[],m,r,h=>by simpa [nW,dX]using h
 | .box id off n::s,m,r,h=>by
   simp only[nW,qB,qI,qP]at h;obtain⟨x,hx,y,hy,rfl,ho⟩:=h;obtain⟨o1,o2⟩:=aS ho;have h1:=vW (r:=x.1) (by rw[hx,←o1])
   have h2:=qG (r:=y.1) (by rw[hy,←o2])
   simp[dX,h1,h2]
 | .lst id off len::s,m,r,h=>by
   simp only[nW,qB,qI,qP]at h;obtain⟨n,hn,x,hx,y,hy,rfl,ho⟩:=h;obtain⟨o1,o2⟩:=aS ho;have h1:=vX (r:=x.1) (by rw[hx,←o1])
   have h2:=qG (r:=y.1) (by rw[hy,←o2])
   simp[dX,hn,h1,h2]
 | .nil n::s,m,r,h=>by
   simp only[nW,qB,qI,qP]at h;obtain⟨y,hy,rfl,ho⟩:=h;have h2:=qG (r:=y.1) (by rw[hy,←ho])
   simp[dX,h2]
def rB(wm:Bool)(hp:List Blk)(src:List Src):Nat→List (SV×Nat×Bool)→Option (List SV×Bool)
 |_,[]=>some ([],true)
 |m,(v,_,mv)::r=>
  match v with
  | .one t=>
    if mv then(PA src m t).bind fun x=>(rB wm hp src x.1.2 r).bind fun r=>some (.one x.1.1::r.1,x.2&&r.2)
    else(GU wm hp src t).bind fun x=>(rB wm hp src m r).bind fun r=>some (.one x.1::r.1,x.2&&r.2)
  | .agg ts=>
    if mv then(xT src m ts).bind fun x=>(rB wm hp src x.1.2 r).bind fun r=>some (.agg x.1.1::r.1,x.2&&r.2)
    else(C0 wm hp src ts).bind fun x=>(rB wm hp src m r).bind fun r=>some (.agg x.1::r.1,x.2&&r.2)
  |_=>none
theorem qH{wm:Bool}{hp:List Blk}{src:List Src}: ∀{vs:List (SV×Nat×Bool)}{m:Nat}{r:List SV},rB wm hp src m vs=some (r,true)→lC hp src m vs=some r
 |[],m,r,h=>by simpa [rB,lC]using h
 |(v,n,mv)::s,m,r,h=>by
  unfold rB at h;unfold lC;split at h
  ·cases mv
   ·simp only[Bool.false_eq_true,if_false,qB,qI,qP]at h⊢;obtain⟨x,hx,y,hy,rfl,ho⟩:=h;obtain⟨o1,o2⟩:=aS ho;exact⟨x.1,aGC (by rw[hx,←o1]),y.1,qH (by rw[hy,←o2]),rfl⟩
   ·simp only[if_true,qB,qI,qP]at h⊢;obtain⟨x,hx,y,hy,rfl,ho⟩:=h;obtain⟨o1,o2⟩:=aS ho;exact⟨x.1,PP (by rw[hx,←o1]),y.1,qH (by rw[hy,←o2]),rfl⟩
  ·cases mv
   ·simp only[Bool.false_eq_true,if_false,qB,qI,qP]at h⊢;obtain⟨x,hx,y,hy,rfl,ho⟩:=h;obtain⟨o1,o2⟩:=aS ho;exact⟨x.1,OL (by rw[hx,←o1]),y.1,qH (by rw[hy,←o2]),rfl⟩
   ·simp only[if_true,qB,qI,qP]at h⊢;obtain⟨x,hx,y,hy,rfl,ho⟩:=h;obtain⟨o1,o2⟩:=aS ho;exact⟨x.1,vW (by rw[hx,←o1]),y.1,qH (by rw[hy,←o2]),rfl⟩
  ·simp at h
def ZU:List Src→Nat→Nat→Nat→Option Bool
 |[],_,_,_=>none
 | .lst id o l::r,j,off,len=>if id=j then some (decide (o=off)&&decide (l=len))else ZU r j off len
 |_::r,j,off,len=>ZU r j off len
theorem EX: ∀{l:List Src}{j off len:Nat},ZU l j off len=some true→Src.lst j off len∈l
 |[],j,off,len,h=>by simp[ZU]at h
 | .lst id o l::r,j,off,len,h=>by
   simp only[ZU]at h;split at h
   ·rename_i e;simp only[qI,Bool.and_eq_true,decide_eq_true_eq]at h;rw[e,h.1,h.2];exact List.mem_cons_self ..
   ·exact List.mem_cons_of_mem _ (EX h)
 | .box _ _ _::r,j,off,len,h=>List.mem_cons_of_mem _ (EX (l:=r) h)
 | .nil _::r,j,off,len,h=>List.mem_cons_of_mem _ (EX (l:=r) h)
theorem EY: ∀{l:List Src}{j off len:Nat},ZU l j off len=none→Src.lst j off len∉l
 |[],j,off,len,h=>by simp
 | .lst id o l::r,j,off,len,h=>by
   simp only[ZU]at h;split at h
   ·simp at h
   ·rename_i e;simp only[List.mem_cons,Src.lst.injEq,not_or];exact⟨fun x=>e x.1.symm,EY h⟩
 | .box _ _ _::r,j,off,len,h=>by
   simp only[List.mem_cons,reduceCtorEq,false_or];exact EY (l:=r) h
 | .nil _::r,j,off,len,h=>by
   simp only[List.mem_cons,reduceCtorEq,false_or];exact EY (l:=r) h
def RB(l:List Src×Bool):T→List Src×Bool
 | .sl id off len=>match ZU l.1 id off len with
   |some b=>(l.1,b&&l.2)
   |none=>(l.1++[.lst id off len],l.2)
 | .nls n=>(l.1++[.nil n],l.2)
 |_=>l
theorem a2A{l:List Src×Bool}{t:T}(h:(RB l t).2=true):l.2=true∧(RB l t).1=aFO l.1 t:=by
 cases t with
 |sl id off len=>
  simp only[RB]at h⊢;cases hl:ZU l.1 id off len with
  |none=>
   simp only[hl]at h⊢;refine⟨h,?_⟩;simp only[aFO,a08,EY hl,if_false]
  |some b=>
   simp only[hl]at h⊢;obtain⟨h1,h2⟩:=aS h;subst h1;refine⟨h2,?_⟩;simp only[aFO,a08,EX hl,if_true]
 |_=>exact⟨h,rfl⟩
theorem L9: ∀{ts:Row}{l:List Src×Bool},(ts.foldl RB l).2=true→l.2=true∧(ts.foldl RB l).1=ts.foldl aFO l.1
 |[],l,h=>⟨h,rfl⟩
 |t::r,l,h=>by
  rw[List.foldl_cons]at h;obtain⟨h1,h2⟩:=L9 h;obtain⟨h3,h4⟩:=a2A h1;refine⟨h3,?_⟩;rw[List.foldl_cons,h2,h4,List.foldl_cons]
def EZ(hp:List Blk)(bx:List Src)(cells:Row):List Src×Bool:=
 let bx:=P3 hp 6 0 bx
 let r:=cells.foldl RB ((bx.flatMap (tE hp)).foldl RB ([],true))
 (bx++r.1,r.2)
theorem HO{hp:List Blk}{bx:List Src}{cells:Row}(h:(EZ hp bx cells).2=true):(EZ hp bx cells).1=vQ hp bx cells:=by
 unfold EZ at h⊢;simp only at h⊢;obtain⟨h1,h2⟩:=L9 h;obtain⟨-,h4⟩:=L9 h1;rw[h2,h4];rfl
def ZV(wm:Bool)(hp:List Blk)(vs:List (SV×Nat×Bool)):Option (Ent×Bool):=
 let src:=EZ hp (vs.foldl (fun l v=>(eU v.1).foldl (LU hp v.2.1) l) []) (vs.flatMap fun v=>if v.2.2 then eU v.1 else [])
 if oX hp src.1 then
  (nW wm hp src.1 0 src.1).bind fun x=>(rB wm hp src.1 x.1.2 vs).bind fun args=>some (⟨args.1,x.1.1,src.1,vs.any x8⟩,src.2&&(x.2&&args.2))
 else none
theorem X0{wm:Bool}{hp:List Blk}{vs:List (SV×Nat×Bool)}{e:Ent}(h:ZV wm hp vs=some (e,true)):enter hp vs=some e:=by
 unfold ZV at h;simp only at h;split at h
 ·rename_i hs;simp only[qB,qI,qP]at h;obtain⟨x,hx,y,hy,rfl,ho⟩:=h;obtain⟨o1,ho⟩:=aS ho;obtain⟨o2,o3⟩:=aS ho;have hg:=HO o1;have h1:=qG (r:=x.1) (by rw[hx,←o2])
  have h2:=qH (r:=y.1) (by rw[hy,←o3])
  rw[hg]at hs h1 h2;unfold enter;simp only;rw[if_pos hs];simp only[h1,h2,Option.bind_some,hg]
 ·simp at h
def vF(src:List Src):Nat→List SV→Option (List SV×Bool)
 |_,[]=>some ([],true)
 |m, .one t::r=>(PA src m t).bind fun x=>(vF src x.1.2 r).bind fun r=>some (.one x.1.1::r.1,x.2&&r.2)
 |m, .agg ts::r=>(xT src m ts).bind fun x=>(vF src x.1.2 r).bind fun r=>some (.agg x.1.1::r.1,x.2&&r.2)
 |_,_::_=>none
theorem HP{src:List Src}: ∀{vs:List SV}{m:Nat}{r:List SV},vF src m vs=some (r,true)→pS src m vs=some r
 |[],m,r,h=>by simpa [vF,pS]using h
 | .one t::s,m,r,h=>by
   simp only[vF,qB,qI,qP]at h;obtain⟨x,hx,y,hy,rfl,ho⟩:=h;obtain⟨o1,o2⟩:=aS ho;have h1:=PP (r:=x.1) (by rw[hx,←o1])
   have h2:=HP (r:=y.1) (by rw[hy,←o2])
   simp[pS,h1,h2]
 | .agg t::s,m,r,h=>by
   simp only[vF,qB,qI,qP]at h;obtain⟨x,hx,y,hy,rfl,ho⟩:=h;obtain⟨o1,o2⟩:=aS ho;have h1:=vW (r:=x.1) (by rw[hx,←o1])
   have h2:=HP (r:=y.1) (by rw[hy,←o2])
   simp[pS,h1,h2]
 | .und::s,m,r,h=>by simp[vF]at h
 | .tup _::s,m,r,h=>by simp[vF]at h
def ZW(wm:Bool)(nb:Nat)(σ:St)(vs:List SV):Option ((SV×List Blk)×Bool):=
 let src:=EZ σ.hp ((vs.flatMap eU).foldl (LU σ.hp 0) (fC σ.hp nb)) (vs.flatMap eU)
 if oX σ.hp src.1=true∧src.1.take nb=fC σ.hp nb then
  (nW wm σ.hp src.1 0 src.1).bind fun x=>(vF src.1 x.1.2 vs).bind fun vs=>some ((b21 vs.1,x.1.1),src.2&&(x.2&&vs.2))
 else none
theorem X1{wm:Bool}{nb:Nat}{σ:St}{vs:List SV}{r:SV×List Blk}(h:ZW wm nb σ vs=some (r,true)):leave nb σ vs=some r:=by
 unfold ZW at h;simp only at h;split at h
 ·rename_i hs;simp only[qB,qI,qP]at h;obtain⟨x,hx,y,hy,rfl,ho⟩:=h;obtain⟨o1,ho⟩:=aS ho;obtain⟨o2,o3⟩:=aS ho;have hg:=HO o1;have h1:=qG (r:=x.1) (by rw[hx,←o2])
  have h2:=HP (r:=y.1) (by rw[hy,←o3])
  rw[hg]at hs h1 h2;unfold leave;simp only;rw[if_pos hs];simp only[h1,h2,Option.bind_some];rfl
 ·simp at h
def AV(σ:St)(src:List Src):Nat→List Nat→Option (List (Nat×SV)×Bool)
 |_,[]=>some ([],true)
 |m,s::r=>(bH s σ.sl).bind fun v=>match v with
  | .one t=>(PA src m t).bind fun x=>(AV σ src x.1.2 r).bind fun l=>some ((s, .one x.1.1)::l.1,x.2&&l.2)
  | .agg ts=>(xT src m ts).bind fun x=>(AV σ src x.1.2 r).bind fun l=>some ((s, .agg x.1.1)::l.1,x.2&&l.2)
  | .und=>(AV σ src m r).bind fun l=>some ((s, .und)::l.1,l.2)
  |_=>none
theorem AW{σ:St}{src:List Src}: ∀{l:List Nat}{m:Nat}{r:List (Nat×SV)},AV σ src m l=some (r,true)→lE σ src m l=some r
 |[],m,r,h=>by simpa [AV,lE]using h
 |s::t,m,r,h=>by
  simp only[AV,qB]at h;obtain⟨v,hv,h⟩:=h;simp only[lE,hv,Option.bind_some];split at h
  ·simp only[qB,qI,qP]at h⊢;obtain⟨x,hx,y,hy,rfl,ho⟩:=h;obtain⟨o1,o2⟩:=aS ho;exact⟨x.1,PP (by rw[hx,←o1]),y.1,AW (by rw[hy,←o2]),rfl⟩
  ·simp only[qB,qI,qP]at h⊢;obtain⟨x,hx,y,hy,rfl,ho⟩:=h;obtain⟨o1,o2⟩:=aS ho;exact⟨x.1,vW (by rw[hx,←o1]),y.1,AW (by rw[hy,←o2]),rfl⟩
  ·simp only[qB,qI,qP]at h⊢;obtain⟨y,hy,rfl,ho⟩:=h;exact⟨y.1,AW (by rw[hy,←ho]),rfl⟩
  ·simp at h
def MA(wm:Bool)(nb:Nat)(live:List Nat)(σ:St):Option (St×Bool):=
 let src:=EZ σ.hp ((oG σ live).foldl (LU σ.hp 0) (fC σ.hp nb)) (oG σ live)
 if oX σ.hp src.1=true∧src.1.take nb=fC σ.hp nb then
  (nW wm σ.hp src.1 0 src.1).bind fun x=>(AV σ src.1 x.1.2 live).bind fun sl=>some (⟨sl.1,x.1.1⟩,src.2&&(x.2&&sl.2))
 else none
theorem FA{wm:Bool}{nb:Nat}{live:List Nat}{σ σ':St}(h:MA wm nb live σ=some (σ',true)):canon nb live σ=some σ':=by
 unfold MA at h;simp only at h;split at h
 ·rename_i hs;simp only[qB,qI,qP]at h;obtain⟨x,hx,y,hy,rfl,ho⟩:=h;obtain⟨o1,ho⟩:=aS ho;obtain⟨o2,o3⟩:=aS ho;have hg:=HO o1;have h1:=qG (r:=x.1) (by rw[hx,←o2])
  have h2:=AW (r:=y.1) (by rw[hy,←o3])
  rw[hg]at hs h1 h2;unfold canon;simp only;rw[if_pos hs];simp only[h1,h2,Option.bind_some]
 ·simp at h
def a2B(hp:List Blk):T→Option Bool
 | .nls _=>some true
 | .sl id off len=>match hp[id]? with
   |some (.lst _ rows)=>some (decide (off+len=rows.length))
   |_=>none
 |_=>none
theorem a2C{hp:List Blk}{t:T}(h:a2B hp t=some true):P6 hp t=true:=by
 unfold a2B at h;unfold P6;split at h
 ·rfl
 ·split at h
  ·rename_i hb;simp only[hb];simpa using h
  ·simp at h
 ·simp at h
def bNE(wm:Bool)(hp:List Blk)(by_ sz:Nat)(t s:T):Option ((SV×List Blk)×Bool):=
 (AU wm hp t).bind fun xs=>(AU wm hp s).bind fun ys=>(a2B hp t).bind fun tl=>
 if nJ hp t=some sz∧nJ hp s=some sz then
  some ((.one (.sl hp.length 0 (xs.1++ys.1).length),JM hp t++[.lst sz (xs.1++ys.1)]),xs.2&&(ys.2&&(tl&&(decide ((xs.1.length+ys.1.length)*by_≤room)&&decide (xs.1.length+ys.1.length≤room)))))
 else none
theorem bD4{wm:Bool}{R:Zq.Rt}{ev:Ev}{hp:List Blk}{d by_ sz:Nat}{x y:Opd}{v u:SV}{t s:T}{r:SV×List Blk}(hx:ev x=some v)(ht:i6 v=some t)(hy:ev y=some u)(hs:i6 u=some s)(h:bNE wm hp by_ sz t s=some (r,true)):
  (K.app d by_ sz x y).exec R ev hp=some r:=by
 simp only[bNE,qB]at h;obtain⟨xs,h1,ys,h2,tl,h3,h⟩:=h;split at h
 ·rename_i hc;simp only[qI,qP,Bool.and_eq_true,decide_eq_true_eq]at h;obtain⟨rfl,o1,o2,o3,o4,o5⟩:=h;subst o3;have e1:=vX (r:=xs.1) (by rw[h1,←o1])
  have e2:=vX (r:=ys.1) (by rw[h2,←o2])
  simp only[K.exec,hx,ht,hy,hs,Option.bind_some,e1,e2];rw[if_pos ⟨a2C h3,hc.1,hc.2,o4,o5⟩]
 ·simp at h
def bD5(hp:List Blk):T→Option (Int×Bool)
 | .nls _=>some (0,true)
 | .imm _ _ rows=>some ((rows.length:Int),true)
 | .sl id off len=>match hp[id]? with
   |some (.lst _ rows)=>some ((len:Int),decide (off+len≤rows.length))
   |_=>none
 |_=>none
theorem aQK{hp:List Blk}{t:T}{n:Int}(h:bD5 hp t=some (n,true)): ∃rows,dI hp t=some rows∧(rows.length:Int)=n:=by
 unfold bD5 at h;unfold dI;split at h
 ·simp only[qI,qP,and_true]at h;exact⟨[],rfl,by simp[←h]⟩
 ·simp only[qI,qP,and_true]at h;exact⟨_,rfl,h⟩
 ·split at h
  ·rename_i hb;simp only[qI,qP,decide_eq_true_eq]at h;refine⟨_,by simp only[hb];rw[if_pos h.2],?_⟩
   rw[←h.1,List.length_take,List.length_drop,Nat.min_eq_left (by omega)]
  ·simp at h
 ·simp at h
def bNF(hp:List Blk)(sz:Nat)(t:T)(n l h:Int):Option (T×Bool):=
 (match t with
   | .sl id off ln=>if nJ hp (.sl id off ln)=some sz then some (.sl id (off+l.toNat) (h.toNat-l.toNat))else none
   | .imm p m rows=>if m=sz then some (.imm p m ((rows.drop l.toNat).take (h.toNat-l.toNat)))else none
   | .nls m=>some (.nls m)
   |_=>none:Option T).map (·,decide (0≤l)&&(decide (l≤h)&&decide (h≤n)))
theorem bD6{hp:List Blk}{sz:Nat}{t r:T}{rows:List Row}{n l h:Int}(hn:(rows.length:Int)=n)(hc:bNF hp sz t n l h=some (r,true)):cut hp sz t rows l h=some r:=by
 simp only[bNF,Option.map_eq_some_iff,qP,Bool.and_eq_true,decide_eq_true_eq]at hc;obtain⟨x,hx,rfl,h1,h2,h3⟩:=hc;unfold cut;rw[if_pos ⟨h1,h2,by omega⟩]
 exact hx
def bNG(hp:List Blk)(by_:Nat)(z:Row)(n c:Int):(SV×List Blk)×Bool:=
 ((.one (.sl hp.length 0 n.toNat),hp++[.lst z.length (List.replicate n.toNat z)]),decide (0≤n)&&(decide (n≤c)&&(decide (c*by_≤room)&&decide (c≤room))))
theorem bD7{R:Zq.Rt}{ev:Ev}{hp:List Blk}{d by_:Nat}{z:Row}{n c:Opd}{v u:SV}{k k':IntKind}{nn cc:Int}{r:SV×List Blk}(hn:ev n=some v)(hv:vP v=some (k,nn))(hc:ev c=some u)(hu:vP u=some (k',cc))(h:bNG hp by_ z nn cc=(r,true)):
  (K.mks d by_ z n c).exec R ev hp=some r:=by
 simp only[bNG,qP,Bool.and_eq_true,decide_eq_true_eq]at h;obtain⟨rfl,h1,h2,h3,h4⟩:=h;simp only[K.exec,hn,hv,hc,hu,Option.bind_some];rw[if_pos ⟨h1,h2,h3,h4⟩]
def bNH(wm:Bool)(hp:List Blk)(sz:Nat)(t s:T):Option ((SV×List Blk)×Bool):=
 match t with
 | .sl id off len=>match hp[id]? with
   |some (.lst n rows)=>(AU wm hp s).bind fun ys=>if n=sz∧nJ hp s=some sz then
     some ((.one (I (min ys.1.length len:Nat)),hp.set id (.lst n (rows.take off++(ys.1.take (min ys.1.length len)++rows.drop (off+min ys.1.length len))))),ys.2&&decide (off+len≤rows.length))
    else none
   |_=>none
 |_=>none
theorem bD8{R:Zq.Rt}{ev:Ev}{wm:Bool}{hp:List Blk}{d sz:Nat}{x y:Opd}{v u:SV}{t s:T}{r:SV×List Blk}(hx:ev x=some v)(ht:i6 v=some t)(hy:ev y=some u)(hs:i6 u=some s)(h:bNH wm hp sz t s=some (r,true)):
  (K.cpy d sz x y).exec R ev hp=some r:=by
 unfold bNH at h;split at h
 ·split at h
  ·rename_i id off len _ n rows hb;simp only[qB]at h;obtain⟨ys,h1,h⟩:=h;split at h
   ·rename_i hc;simp only[qI,qP,Bool.and_eq_true,decide_eq_true_eq]at h;obtain⟨rfl,o1,o2⟩:=h;have e1:=vX (r:=ys.1) (by rw[h1,←o1])
    have e2:dI hp (.sl id off len)=some ((rows.drop off).take len):=by
     simp only[dI,hb];rw[if_pos o2]
    have e3:((rows.drop off).take len).length=len:=by
     rw[List.length_take,List.length_drop];omega
    simp only[K.exec,hx,ht,hy,hs,Option.bind_some,e1,e2,hb,e3];rw[if_pos hc]
   ·simp at h
  ·simp at h
 ·simp at h
def bNI(hp:List Blk)(sz:Nat)(z:Row)(t:T):Option ((SV×List Blk)×Bool):=
 match t with
 | .sl id off len=>match hp[id]? with
   |some (.lst n rows)=>if n=sz then
     some ((.tup [],hp.set id (.lst n (rows.take off++(List.replicate len z++rows.drop (off+len))))),decide (off+len≤rows.length))
    else none
   |_=>none
 |_=>none
theorem bD9{R:Zq.Rt}{ev:Ev}{hp:List Blk}{sz:Nat}{z:Row}{x:Opd}{v:SV}{t:T}{r:SV×List Blk}(hx:ev x=some v)(ht:i6 v=some t)(h:bNI hp sz z t=some (r,true)):
  (K.clr sz z x).exec R ev hp=some r:=by
 unfold bNI at h;split at h
 ·split at h
  ·rename_i id off len _ n rows hb;split at h
   ·rename_i hc;simp only[qI,qP,decide_eq_true_eq]at h;obtain⟨rfl,o2⟩:=h;simp only[K.exec,hx,ht,Option.bind_some,hb];rw[if_pos ⟨hc,o2⟩]
   ·simp at h
  ·simp at h
 ·simp at h
end Go.Zq

namespace Go.Zq
open Option renaming bind_eq_some_iff → qB
open Option.some renaming injEq → qI
open Prod.mk renaming injEq → qP
open Option renaming map_eq_some_iff → q_c
open Go
abbrev Qt:=FuncId→List SV→List Blk→Option ((SV×List Blk)×Bool)
def Qt.val(Q:Qt):Rt:=fun f a h=>(Q f a h).map (·.1)
def X2(R:Rt)(Q:Qt):Prop:= ∀f a h r,Q f a h=some (r,true)→R f a h=some r
def aJC(b:Bool):Value→Value→Option Value
 | .int k x, .int k' y=>if k=k' then some (.int k (bif b then x else y))else none
 | .bool x, .bool y=>some (.bool (bif b then x else y))
 | .string x, .string y=>some (.string (bif b then x else y))
 |_,_=>none
def ZX(b:Bool):T→T→Option T
 | .lit v, .lit u=>(aJC b v u).bind fun v=>some (.lit v)
 | .ptr i r o, .ptr i' r' o'=>if i=i'∧r=r'∧o=o' then some (.ptr i r o)else none
 | .sl i o l, .sl i' o' l'=>if i=i'∧o=o' then some (.sl i o (bif b then l else l'))else none
 | .nls n, .nls n'=>if n=n' then some (.nls n)else none
 | .imm p n rows, .imm p' n' rows'=>if p=p'∧n=n' then some (.imm p n (bif b then rows else rows'))else none
 |_,_=>none
def tJ(b:Bool):Row→Row→Option Row
 |[],[]=>some []
 |x::r,y::s=>(ZX b x y).bind fun z=>(tJ b r s).bind fun t=>some (z::t)
 |_,_=>none
def PQ(b:Bool):SV→SV→Option SV
 | .und, .und=>some .und
 | .one t, .one u=>(ZX b t u).bind fun t=>some (.one t)
 | .agg ts, .agg us=>(tJ b ts us).bind fun ts=>some (.agg ts)
 |_,_=>none
def vY(b:Bool):List SV→List SV→Option (List SV)
 |[],[]=>some []
 |x::r,y::s=>(PQ b x y).bind fun z=>(vY b r s).bind fun t=>some (z::t)
 |_,_=>none
def AX(b:Bool):SV→SV→Option SV
 | .tup vs, .tup us=>(vY b vs us).bind fun vs=>some (.tup vs)
 |v,u=>PQ b v u
def RC(b:Bool):Blk→Blk→Option Blk
 | .dead, .dead=>some .dead
 | .box cs, .box ds=>(tJ b cs ds).bind fun cs=>some (.box cs)
 | .lst n rows, .lst n' rows'=>if n=n' then some (.lst n (bif b then rows else rows'))else none
 |_,_=>none
def xU(b:Bool):List Blk→List Blk→Option (List Blk)
 |[],[]=>some []
 |x::r,y::s=>(RC b x y).bind fun z=>(xU b r s).bind fun t=>some (z::t)
 |_,_=>none
theorem aYB{b:Bool}{v u w:Value}(h:aJC b v u=some w):w=bif b then v else u:=by
 unfold aJC at h;split at h
 ·split at h
  ·rename_i k x k' y e;subst e;cases b<;>simp_all
  ·simp at h
 ·cases b<;>simp_all
 ·cases b<;>simp_all
 ·simp at h
theorem X3{b:Bool}{v u w:T}(h:ZX b v u=some w):w=bif b then v else u:=by
 unfold ZX at h;split at h
 ·simp only[qB,qI]at h;obtain⟨z,hz,rfl⟩:=h;rw[aYB hz];cases b<;>rfl
 ·split at h
  ·rename_i e;obtain⟨rfl,rfl,rfl⟩:=e;cases b<;>simp_all
  ·simp at h
 ·split at h
  ·rename_i e;obtain⟨rfl,rfl⟩:=e;cases b<;>simp_all
  ·simp at h
 ·split at h
  ·rename_i e;subst e;cases b<;>simp_all
  ·simp at h
 ·split at h
  ·rename_i e;obtain⟨rfl,rfl⟩:=e;cases b<;>simp_all
  ·simp at h
 ·simp at h
theorem C2{b:Bool}: ∀{v u w:Row},tJ b v u=some w→w=bif b then v else u
 |[],[],w,h=>by cases b<;>simp_all [tJ]
 |x::r,y::s,w,h=>by
  simp only[tJ,qB,qI]at h;obtain⟨z,hz,t,ht,rfl⟩:=h;rw[X3 hz,C2 ht];cases b<;>rfl
 |[],_::_,w,h=>by simp[tJ]at h
 |_::_,[],w,h=>by simp[tJ]at h
theorem RD{b:Bool}{v u w:SV}(h:PQ b v u=some w):w=bif b then v else u:=by
 unfold PQ at h;split at h
 ·cases b<;>simp_all
 ·simp only[qB,qI]at h;obtain⟨z,hz,rfl⟩:=h;rw[X3 hz];cases b<;>rfl
 ·simp only[qB,qI]at h;obtain⟨z,hz,rfl⟩:=h;rw[C2 hz];cases b<;>rfl
 ·simp at h
theorem OM{b:Bool}: ∀{v u w:List SV},vY b v u=some w→w=bif b then v else u
 |[],[],w,h=>by cases b<;>simp_all [vY]
 |x::r,y::s,w,h=>by
  simp only[vY,qB,qI]at h;obtain⟨z,hz,t,ht,rfl⟩:=h;rw[RD hz,OM ht];cases b<;>rfl
 |[],_::_,w,h=>by simp[vY]at h
 |_::_,[],w,h=>by simp[vY]at h
theorem AY{b:Bool}{v u w:SV}(h:AX b v u=some w):w=bif b then v else u:=by
 unfold AX at h;split at h
 ·simp only[qB,qI]at h;obtain⟨z,hz,rfl⟩:=h;rw[OM hz];cases b<;>rfl
 ·exact RD h
theorem aGD{b:Bool}{v u w:Blk}(h:RC b v u=some w):w=bif b then v else u:=by
 unfold RC at h;split at h
 ·cases b<;>simp_all
 ·simp only[qB,qI]at h;obtain⟨z,hz,rfl⟩:=h;rw[C2 hz];cases b<;>rfl
 ·split at h
  ·rename_i e;subst e;cases b<;>simp_all
  ·simp at h
 ·simp at h
theorem AZ{b:Bool}: ∀{v u w:List Blk},xU b v u=some w→w=bif b then v else u
 |[],[],w,h=>by cases b<;>simp_all [xU]
 |x::r,y::s,w,h=>by
  simp only[xU,qB,qI]at h;obtain⟨z,hz,t,ht,rfl⟩:=h;rw[aGD hz,AZ ht];cases b<;>rfl
 |[],_::_,w,h=>by simp[xU]at h
 |_::_,[],w,h=>by simp[xU]at h
def bNJ(o:BinOp):Value→Value→Option (Value×Bool)
 | .int k x, .int k' y=>
   match o with
   | .shl=>some (.int k (k.wrap (x*2^min y.toNat k.bits)),decide (0≤y))
   | .shr=>some (.int k (x.fdiv (2^min y.toNat k.bits)),decide (0≤y))
   | .quo=>if k=k' then some (.int k (k.wrap (x.tdiv y)),y !=0)else none
   | .rem=>if k=k' then some (.int k (x.tmod y),y !=0)else none
   |o=>if k=k' then(LS o k x y).map (·,true)else none
 |v,u=>(LT o v u).map (·,true)
theorem bEA{o:BinOp}{v u r:Value}(h:bNJ o v u=some (r,true)):LT o v u=some r:=by
 unfold bNJ at h;split at h
 ·rename_i k x k' y;split at h
  ·simp only[qI,qP,decide_eq_true_eq]at h;obtain⟨rfl,hy⟩:=h;simp[LT,show¬y<0 by omega]
  ·simp only[qI,qP,decide_eq_true_eq]at h;obtain⟨rfl,hy⟩:=h;simp[LT,show¬y<0 by omega]
  ·split at h
   ·simp only[qI,qP,bne_iff_ne,ne_eq]at h;obtain⟨rfl,hy⟩:=h
    simp_all [LT,LS]
   ·simp at h
  ·split at h
   ·simp only[qI,qP,bne_iff_ne,ne_eq]at h;obtain⟨rfl,hy⟩:=h
    simp_all [LT,LS]
   ·simp at h
  ·split at h
   ·simp only[q_c,qP,and_true]at h;obtain⟨r',hr,rfl⟩:=h;rename_i hk _ _ _ _;cases o<;>simp_all [LT]
   ·simp at h
 ·simp only[q_c,qP,and_true]at h;obtain⟨r',hr,rfl⟩:=h;exact hr
def X4(hp:List Blk):T→Option (T×Bool)
 | .lit v=>some (.lit v,true)
 | .nls n=>some (.nls n,true)
 | .imm p n rows=>some (.imm p n rows,true)
 | .sl id off len=>match hp[id]? with
   |some (.lst n rows)=>if off=0 then some (.imm true n rows,decide (len=rows.length))else none
   |_=>none
 |_=>none
theorem aGE{hp:List Blk}{t r:T}(h:X4 hp t=some (r,true)):LV hp t=some r:=by
 cases t with
 |sl id off len=>
  simp only[X4]at h;split at h
  ·rename_i n rows hb;split at h
   ·rename_i e;subst e;simp only[qI,qP,decide_eq_true_eq]at h;obtain⟨rfl,rfl⟩:=h;simp[LV,nJ,dI,hb]
   ·simp at h
  ·simp at h
 |lit|nls|imm=>simp only[X4,qI,qP,and_true]at h;rw[←h];rfl
 |ptr|ip|clo=>simp[X4]at h
def J6(hp:List Blk):Row→Option (Row×Bool)
 |[]=>some ([],true)
 |t::r=>(X4 hp t).bind fun t=>(J6 hp r).bind fun r=>some (t.1::r.1,t.2&&r.2)
theorem RE{hp:List Blk}: ∀{t r:Row},J6 hp t=some (r,true)→HA hp t=some r
 |[],r,h=>by simp only[J6,qI,qP,and_true]at h;subst h;rfl
 |t::s,r,h=>by
  simp only[J6,qB,qI,qP]at h;obtain⟨x,hx,y,hy,rfl,ho⟩:=h;obtain⟨o1,o2⟩:=aS ho;simp only[HA,aGE (r:=x.1) (by rw[hx,←o1]),Option.bind_some,RE (r:=y.1) (by rw[hy,←o2])]
def HQ(hp:List Blk):SV→Option (SV×Bool)
 | .one t=>(X4 hp t).bind fun t=>some (.one t.1,t.2)
 | .agg ts=>(J6 hp ts).bind fun ts=>some (.agg ts.1,ts.2)
 |_=>none
theorem FB{hp:List Blk}{t r:SV}(h:HQ hp t=some (r,true)):B4 hp t=some r:=by
 cases t with
 |one t=>
  simp only[HQ,qB,qI,qP]at h;obtain⟨x,hx,rfl,ho⟩:=h;simp only[B4,aGE (r:=x.1) (by rw[hx,←ho]),Option.bind_some]
 |agg t=>
  simp only[HQ,qB,qI,qP]at h;obtain⟨x,hx,rfl,ho⟩:=h;simp only[B4,RE (r:=x.1) (by rw[hx,←ho]),Option.bind_some]
 |und=>simp[HQ]at h
 |tup=>simp[HQ]at h
def J7(hp:List Blk):List SV→Option (List SV×Bool)
 |[]=>some ([],true)
 |t::r=>(HQ hp t).bind fun t=>(J7 hp r).bind fun r=>some (t.1::r.1,t.2&&r.2)
theorem RF{hp:List Blk}: ∀{t r:List SV},J7 hp t=some (r,true)→HB hp t=some r
 |[],r,h=>by simp only[J7,qI,qP,and_true]at h;subst h;rfl
 |t::s,r,h=>by
  simp only[J7,qB,qI,qP]at h;obtain⟨x,hx,y,hy,rfl,ho⟩:=h;obtain⟨o1,o2⟩:=aS ho;simp only[HB,FB (r:=x.1) (by rw[hx,←o1]),Option.bind_some,RF (r:=y.1) (by rw[hy,←o2])]
def aJD(hp:List Blk):SV→Option (SV×Bool)
 | .tup vs=>(J7 hp vs).bind fun vs=>some (.tup vs.1,vs.2)
 |v=>HQ hp v
theorem aYC{hp:List Blk}{t r:SV}(h:aJD hp t=some (r,true)):OB hp t=some r:=by
 cases t with
 |tup vs=>
  simp only[aJD,qB,qI,qP]at h;obtain⟨x,hx,rfl,ho⟩:=h;simp only[OB,RF (r:=x.1) (by rw[hx,←ho]),Option.bind_some]
 |one t=>exact FB (hp:=hp) (t:= .one t) h
 |agg t=>exact FB (hp:=hp) (t:= .agg t) h
 |und=>exact FB (hp:=hp) (t:= .und) h
noncomputable def cY(R:Rt):Rt:=fun f a h=>if f<100000 then R f a h else(R (f-100000) a h).bind fun r=>(OB r.2 r.1).bind fun v=>some (v,[])
theorem HR{R:Rt}{f:FuncId}(h:f<100000){a:List SV}{hp:List Blk}:cY R f a hp=R f a hp:=by simp only[cY];rw[if_pos h]
theorem a2D{R:Rt}{f:FuncId}{a:List SV}{hp:List Blk}:cY R (f+100000) a hp=(R f a hp).bind fun r=>(OB r.2 r.1).bind fun v=>some (v,[]):=by
 simp only[cY];rw[if_neg (Nat.not_lt.2 (Nat.le_add_left 100000 f))];exact congrArg (fun g=>(R g a hp).bind fun r=>(OB r.2 r.1).bind fun v=>some (v,[])) (Nat.add_sub_cancel (n:=f) (m:=100000))
def zX(Q:Qt)(wm:Bool)(hp:List Blk)(pu:Bool)(f:FuncId)(vs:List (SV×Nat×Bool)):Option ((SV×List Blk)×Bool):=
 if pu=true then
  (rB wm hp [] 0 vs).bind fun args=>(Q (f+100000) args.1 []).bind fun r=>
  if vs.any x8=false∨tG r.1.1=true then some ((r.1.1,hp),args.2&&r.2)else none
 else if f<100000 then
  (ZV wm hp vs).bind fun e=>(Q f e.1.args e.1.hp).bind fun r=>(aXT hp e.1 r.1.1 r.1.2).bind fun x=>some (x,e.2&&r.2)
 else none
theorem C3{R:Rt}{Q:Qt}(hQ:X2 (cY R) Q){wm:Bool}{hp:List Blk}{pu:Bool}{f:FuncId}{vs:List (SV×Nat×Bool)}{r:SV×List Blk}(h:zX Q wm hp pu f vs=some (r,true)):lD R hp pu f vs=some r:=by
 unfold zX at h;unfold lD;split at h
 ·rename_i hpu;rw[if_pos hpu];simp only[qB]at h⊢;obtain⟨args,h1,q,hq,h⟩:=h;split at h
  ·rename_i hc;simp only[qI,qP]at h;obtain⟨rfl,ho⟩:=h;obtain⟨o1,o2⟩:=aS ho;have hR:=hQ _ _ _ q.1 (by rw[hq,←o2])
   rw[a2D]at hR;simp only[qB,qI]at hR;obtain⟨r,hr,v,hv,e⟩:=hR;refine⟨args.1,qH (by rw[h1,←o1]),r,hr,v,hv,?_⟩
   rw[←e]at hc;rw[if_pos hc,←e]
  ·simp at h
 ·rename_i hpu;rw[if_neg hpu];split at h
  ·rename_i hf;simp only[qB,qI,qP]at h⊢;obtain⟨e,h1,q,hq,x,hx,rfl,ho⟩:=h;obtain⟨o1,o2⟩:=aS ho;have hR:=hQ _ _ _ q.1 (by rw[hq,←o2])
   rw[HR hf]at hR;exact⟨e.1,X0 (by rw[h1,←o1]),q.1,hR,hx⟩
  ·simp at h
def RG(Q:Qt)(wm:Bool)(hp:List Blk)(f:FuncId)(vs:List (SV×Nat×Bool)):Option ((SV×List Blk)×Bool):=
 if f<100000 then
  (ZV wm hp vs).bind fun e=>(Q f e.1.args e.1.hp).bind fun r=>(aXT hp e.1 r.1.1 r.1.2).bind fun x=>
    some ((x.1,stay e.1.src hp.length (cG e.1.src+1) (stay e.1.src hp.length (cG e.1.src) x.2)),e.2&&r.2)
 else none
theorem RH{R:Rt}{Q:Qt}(hQ:X2 (cY R) Q){wm:Bool}{hp:List Blk}{f:FuncId}{vs:List (SV×Nat×Bool)}{r:SV×List Blk}(h:RG Q wm hp f vs=some (r,true)):xN R hp f vs=some r:=by
 unfold RG at h;unfold xN;obtain⟨hf,h⟩:=bQ h;simp only[qB,qI,qP]at h⊢;obtain⟨e,h1,q,hq,x,hx,rfl,ho⟩:=h;obtain⟨o1,o2⟩:=aS ho;have hR:=hQ _ _ _ q.1 (by rw[hq,←o2])
 rw[HR hf]at hR;exact⟨e.1,X0 (by rw[h1,←o1]),q.1,hR,x,hx,rfl⟩
def J8(Q:Qt)(wm:Bool)(hp:List Blk)(pu:Bool)(f:FuncId)(vs:List (SV×Nat×Bool)):Option ((SV×List Blk)×Bool):=
 if f<50000 then zX Q wm hp pu f vs else none
theorem RJ{R:Rt}{Q:Qt}(hQ:X2 (cY R) Q){wm:Bool}{hp:List Blk}{pu:Bool}{f:FuncId}{vs:List (SV×Nat×Bool)}{r:SV×List Blk}(h:J8 Q wm hp pu f vs=some (r,true)):sS R hp pu f vs=some r:=by
 unfold J8 at h;obtain⟨hf,h⟩:=bQ h;unfold sS;rw[if_pos hf];exact C3 hQ h
def J9(Q:Qt)(wm:Bool)(hp:List Blk)(pu:Bool)(f:FuncId)(vs:List (SV×Nat×Bool)):Option ((SV×List Blk)×Bool):=
 if f<50000 then zX Q wm hp pu f vs else if pu=true then none else RG Q wm hp f vs
theorem WK{R:Rt}{Q:Qt}(hQ:X2 (cY R) Q){wm:Bool}{hp:List Blk}{pu:Bool}{f:FuncId}{vs:List (SV×Nat×Bool)}{r:SV×List Blk}(h:J9 Q wm hp pu f vs=some (r,true)):nP R hp pu f vs=some r:=by
 unfold J9 at h;unfold nP;split at h
 ·rename_i hf;rw[if_pos hf];exact C3 hQ h
 ·rename_i hf;rw[if_neg hf];split at h
  ·simp at h
  ·rename_i hp;rw[if_neg hp];exact RH hQ h
inductive Kd where
 |int (k:IntKind)
 |bool
 |str
 |imm (n:Nat)
def isK:Kd→T→Bool
 | .int k, .lit (.int k' _)=>k==k'
 | .bool, .lit (.bool _)=>true
 | .str, .lit (.string _)=>true
 | .imm n, .imm p n' _=>p&&n==n'
 |_,_=>false
def a2E:List Kd→Row→Bool
 |[],_=>true
 |k::ks,t::r=>isK k t&&a2E ks r
 |_::_,[]=>false
def vZ(rows:List Row)(j i:Nat):T:=(rows.getD j []).getD i (.nls 0)
def bWL:T→Int
 | .lit (.int _ z)=>z
 |_=>0
def bL2:T→Bool
 | .lit (.bool z)=>z
 |_=>false
def bWM:T→ByteArray
 | .lit (.string z)=>z
 |_=> .empty
def bL3:T→List Row
 | .imm _ _ rows=>rows
 |_=>[]
def bF(rows:List Row)(j i:Nat):Int:=bWL (vZ rows j i)
def mF(rows:List Row)(j i:Nat):Bool:=bL2 (vZ rows j i)
def bL4(rows:List Row)(j i:Nat):ByteArray:=bWM (vZ rows j i)
def lG(rows:List Row)(j i:Nat):List Row:=bL3 (vZ rows j i)
def ofK(rows:List Row)(j i:Nat):Kd→T
 | .int k=> .lit (.int k (bF rows j i))
 | .bool=> .lit (.bool (mF rows j i))
 | .str=> .lit (.string (bL4 rows j i))
 | .imm n=> .imm true n (lG rows j i)
def X5(rows:List Row)(j:Nat):Nat→List Kd→Row
 |_,[]=>[]
 |i,k::ks=>ofK rows j i k::X5 rows j (i+1) ks
def dO(kds:List Kd)(rows:List Row)(j i:Nat):Bool:=Nat.blt j rows.length&&a2E kds ((rows.getD j []).drop i)
def fU(kds:List Kd)(rows:List Row)(j:Int):Bool:=decide (0≤j)&&(dO kds rows j.toNat 0&&(rows.getD j.toNat []).length==kds.length)
theorem bNK{rows:List Row}{j i:Nat}{k:Kd}{t:T}(ht:vZ rows j i=t)(hk:isK k t=true):ofK rows j i k=t:=by
 unfold isK at hk;split at hk
 ·simp only[ofK,bF,ht,bWL,beq_iff_eq]at hk⊢;rw[hk]
 ·simp only[ofK,mF,ht,bL2]
 ·simp only[ofK,bL4,ht,bWM]
 ·simp only[Bool.and_eq_true,beq_iff_eq]at hk;simp only[ofK,lG,ht,bL3];rw[hk.1,hk.2]
 ·simp at hk
theorem RK{rows:List Row}{j:Nat}: ∀{kds:List Kd}{i:Nat},a2E kds ((rows.getD j []).drop i)=true→X5 rows j i kds=((rows.getD j []).drop i).take kds.length
 |[],i,h=>by simp[X5]
 |k::ks,i,h=>by
  cases hd:(rows.getD j []).drop i with
  |nil=>rw[hd]at h;simp[a2E]at h
  |cons t r=>
   rw[hd]at h;simp only[a2E,Bool.and_eq_true]at h;have hr:(rows.getD j []).drop (i+1)=r:=by
    rw[←List.drop_drop,hd];rfl
   have ht:vZ rows j i=t:=by
    have:(rows.getD j [])[i]? =some t:=by
     have:=congrArg (·[0]?) hd;simpa [List.getElem?_drop]using this
    simp only[vZ,List.getD_eq_getElem?_getD]at this⊢;rw[this];rfl
   simp only[X5,bNK ht h.1,List.length_cons,List.take_succ_cons];rw[RK (by rw[hr];exact h.2),hr]
theorem KA{rows:List Row}{j:Nat}(h:Nat.blt j rows.length=true):rows[j]? =some (rows.getD j []):=by
 have:j<rows.length:=by simpa using h
 simp[List.getD_eq_getElem?_getD,this]
def MB(d:Nat):List (Nat×List Kd)→Option (List Kd)
 |[]=>none
 |(m,v)::r=>if m=d then some v else MB d r
def bNL(hp:List Blk)(sz:Nat)(kds:List Kd)(t:T)(j:Int):Option (SV×Bool):=
 match t with
 | .sl id off ln=>if nJ hp (.sl id off ln)=some sz then some (.one (.ptr id (off+j.toNat) 0),decide (0≤j)&&decide (j<ln))else none
 | .imm _ n rows=>if n=sz then some (.one (.ip (X5 rows j.toNat 0 kds)),fU kds rows j)else none
 |_=>none
theorem bEB{hp:List Blk}{sz:Nat}{kds:List Kd}{t:T}{j:Int}{v:SV}(h:bNL hp sz kds t j=some (v,true)):idx hp sz t j=some v:=by
 unfold bNL at h;split at h
 ·split at h
  ·rename_i hs;simp only[qI,qP,Bool.and_eq_true,decide_eq_true_eq]at h;obtain⟨rfl,h⟩:=h;simp only[idx];rw[if_pos h,if_pos hs]
  ·simp at h
 ·split at h
  ·rename_i hs;simp only[qI,qP,fU,dO,Bool.and_eq_true,decide_eq_true_eq,beq_iff_eq]at h;obtain⟨rfl,h0,⟨h1,h2⟩,h3⟩:=h;simp only[idx];rw[if_pos ⟨h0,hs⟩,KA h1,Option.map_some,RK h2,List.drop_zero,←h3,List.take_length]
  ·simp at h
 ·simp at h
def ldS(hp:List Blk)(n:Option Nat)(kds:List Kd)(t:T):Option (SV×Bool):=
 match t with
 | .ptr id row off=>
   match hp[id]? with
   |some (.lst _ rows)=>(SV.of n (X5 rows row off kds)).bind fun v=>some (v,dO kds rows row off)
   |_=>(mO hp t).bind fun cs=>(SV.of n cs).bind fun v=>some (v,true)
 |_=>(mO hp t).bind fun cs=>(SV.of n cs).bind fun v=>some (v,true)
theorem bEC{n:Option Nat}{cs:Row}{m:Nat}{v:SV}(h:SV.of n (cs.take m)=some v):SV.of n cs=some v:=by
 cases n with
 |none=>
  cases cs with
  |nil=>simp[SV.of]at h
  |cons t r=>
   cases m with
   |zero=>simp[SV.of]at h
   |succ m=>simpa [SV.of]using h
 |some k=>
  simp only[SV.of]at h⊢;split at h
  ·rename_i hk;rw[List.length_take]at hk;rw[if_pos (by omega),←h,List.take_take,Nat.min_eq_left (by omega)]
  ·simp at h
theorem bNM{hp:List Blk}{n:Option Nat}{kds:List Kd}{t:T}{v:SV}(h:ldS hp n kds t=some (v,true)):((mO hp t).bind fun cs=>SV.of n cs)=some v:=by
 unfold ldS at h;split at h
 ·split at h
  ·rename_i id row off _ sz rows hb;simp only[qB,qI,qP,dO,Bool.and_eq_true]at h;obtain⟨u,hu,rfl,h1,h2⟩:=h;simp only[mO,hb,KA h1,Option.map_some,Option.bind_some];rw[RK h2]at hu;exact bEC hu
  ·simp only[qB,qI,qP,and_true]at h⊢;obtain⟨cs,hc,u,hu,rfl⟩:=h;exact⟨cs,hc,hu⟩
 ·simp only[qB,qI,qP,and_true]at h⊢;obtain⟨cs,hc,u,hu,rfl⟩:=h;exact⟨cs,hc,hu⟩
def stS(hp:List Blk)(n:Nat)(t:T)(new:Row):Option (List Blk×Bool):=
 match t with
 | .ptr id row off=>
   match hp[id]? with
   |some (.lst sz rows)=>
    if off=0∧n=sz∧new.length=n∧new.all inList=true then some (hp.set id (.lst sz (rows.set row new)),Nat.blt row rows.length&&(rows.getD row []).length==n)
    else if new.length=n∧new.all inList=true then some (hp.set id (.lst sz (rows.set row (wr (rows.getD row []) off new))),Nat.blt row rows.length&&decide (off+n≤(rows.getD row []).length))
    else none
   |_=>(store hp n t new).map (·,true)
 |_=>(store hp n t new).map (·,true)
theorem bNN{hp hp':List Blk}{n:Nat}{t:T}{new:Row}(h:stS hp n t new=some (hp',true)):store hp n t new=some hp':=by
 unfold stS at h;split at h
 ·split at h
  ·rename_i id row off _ sz rows hb;split at h
   ·rename_i hc;obtain⟨rfl,rfl,hn,ha⟩:=hc;simp only[qI,qP,Bool.and_eq_true,beq_iff_eq]at h;obtain⟨rfl,h1,h2⟩:=h;simp only[store,hn,if_true,hb,KA h1,ha,and_true,Nat.zero_add,h2,Nat.le_refl]
    congr 4
    simp only[wr,List.take_zero,List.nil_append,Nat.zero_add,hn,←h2,List.drop_length,List.append_nil]
   ·split at h
    ·rename_i hc;obtain⟨hn,ha⟩:=hc;simp only[qI,qP,Bool.and_eq_true,decide_eq_true_eq]at h;obtain⟨rfl,h1,h2⟩:=h;simp only[store,hn,if_true,hb,KA h1];rw[if_pos ⟨h2,ha⟩]
    ·simp at h
  ·simp only[q_c,qP,and_true]at h;obtain⟨x,hx,rfl⟩:=h;exact hx
 ·simp only[q_c,qP,and_true]at h;obtain⟨x,hx,rfl⟩:=h;exact hx
def exK(Q:Qt)(kd:List (Nat×List Kd))(ev:Ev)(hp:List Blk):K→Option ((SV×List Blk)×Bool)
 | .bin _ o x y=>(ev x).bind fun v=>(GK v).bind fun v=>(ev y).bind fun u=>(GK u).bind fun u=>(bNJ o v u).bind fun r=>some ((.one (.lit r.1),hp),r.2)
 | .pick _ c x y=>(ev c).bind fun c=>(asBool c).bind fun c=>(ev x).bind fun v=>(ev y).bind fun u=>(AX c v u).bind fun v=>some ((v,hp),true)
 | .call d pu f xs=>(jT ev xs).bind fun vs=>J9 Q (MB (d.getD 0) kd).isNone hp pu f vs
 | .calv d pu f xs=>(ev f).bind fun g=>match g with
   | .one (.clo f caps)=>(jT ev xs).bind fun vs=>J8 Q (MB (d.getD 0) kd).isNone hp pu f (vs++caps.map fun c=>(.one c,0,false))
   |_=>none
 | .ia d sz x j=>match MB d kd with
   |some kds=>(ev x).bind fun v=>(i6 v).bind fun t=>(ev j).bind fun u=>(vP u).bind fun u=>(bNL hp sz kds t u.2).bind fun r=>some ((r.1,hp),r.2)
   |none=>((K.ia d sz x j).exec Q.val ev hp).map (·,true)
 | .ld d n x=>match MB d kd with
   |some kds=>(ev x).bind fun v=>(i6 v).bind fun t=>(ldS hp n kds t).bind fun r=>some ((r.1,hp),r.2)
   |none=>((K.ld d n x).exec Q.val ev hp).map (·,true)
 | .st n x y=>(ev x).bind fun v=>(i6 v).bind fun t=>(ev y).bind fun u=>u.cells.bind fun cs=>(stS hp n t cs).bind fun r=>some ((.und,r.1),r.2)
 | .app d by_ sz x y=>(ev x).bind fun v=>(i6 v).bind fun t=>(ev y).bind fun u=>(i6 u).bind fun s=>bNE (MB d kd).isNone hp by_ sz t s
 | .len _ x=>(ev x).bind fun v=>(i6 v).bind fun t=>(bD5 hp t).bind fun r=>some ((.one (I r.1),hp),r.2)
 | .slc _ sz x lo hi=>(ev x).bind fun v=>(i6 v).bind fun t=>(bD5 hp t).bind fun n=>(uZ ev 0 lo).bind fun l=>(match hi with|none=>some n.1|some o=>uZ ev 0 (some o)).bind fun h=>(bNF hp sz t n.1 l h).bind fun r=>some ((.one r.1,hp),n.2&&r.2)
 | .mks _ by_ z n c=>(ev n).bind fun v=>(vP v).bind fun v=>(ev c).bind fun u=>(vP u).bind fun u=>some (bNG hp by_ z v.2 u.2)
 | .cpy d sz x y=>(ev x).bind fun v=>(i6 v).bind fun t=>(ev y).bind fun u=>(i6 u).bind fun s=>bNH (MB d kd).isNone hp sz t s
 | .clr sz z x=>(ev x).bind fun v=>(i6 v).bind fun t=>bNI hp sz z t
 |k=>(k.exec Q.val ev hp).map (·,true)
def aGF(ev ev':Ev):Prop:= ∀x v,ev x=some v→ev' x=some v
theorem aQL{ev ev':Ev}(he:aGF ev ev'): ∀{ps:List (Nat×Nat×Opd)}{cs r:Row},fill ev cs ps=some r→fill ev' cs ps=some r
 |[],cs,r,h=>h
 |(o,n,x)::ps,cs,r,h=>by
  simp only[fill,qB]at h⊢;obtain⟨v,hv,new,hn,h⟩:=h;refine⟨v,he _ _ hv,new,hn,?_⟩;split at h
  ·rename_i hc;rw[if_pos hc];exact aQL he h
  ·simp at h
theorem ON{ev ev':Ev}(he:aGF ev ev'): ∀{ps:List (Nat×Opd)}{cs r:List Row},fillRows ev cs ps=some r→fillRows ev' cs ps=some r
 |[],cs,r,h=>h
 |(o,x)::ps,cs,r,h=>by
  simp only[fillRows,qB]at h⊢;obtain⟨v,hv,new,hn,h⟩:=h;refine⟨v,he _ _ hv,new,hn,?_⟩;split at h
  ·split at h
   ·rename_i hc;rw[if_pos hc];exact ON he h
   ·simp at h
  ·simp at h
theorem C4{ev ev':Ev}(he:aGF ev ev'): ∀{xs:List (Opd×Nat×Bool)}{r:List (SV×Nat×Bool)},jT ev xs=some r→jT ev' xs=some r
 |[],r,h=>h
 |(x,n,m)::xs,r,h=>by
  simp only[jT,qB]at h⊢;obtain⟨v,hv,s,hs,h⟩:=h;exact⟨v,he _ _ hv,s,C4 he hs,h⟩
theorem X6{ev ev':Ev}(he:aGF ev ev'): ∀{xs:List Opd}{r:List T},vS ev xs=some r→vS ev' xs=some r
 |[],r,h=>h
 |x::xs,r,h=>by
  simp only[vS,qB]at h⊢;obtain⟨v,hv,t,ht,h⟩:=h;refine⟨v,he _ _ hv,t,ht,?_⟩;split at h
  ·simp only[qB]at h⊢;obtain⟨s,hs,h⟩:=h;exact⟨s,X6 he hs,h⟩
  ·simp at h
theorem KB{ev ev':Ev}(he:aGF ev ev'){n:Nat}{o:Option Opd}{r:Int}(h:uZ ev n o=some r):uZ ev' n o=some r:=by
 cases o with
 |none=>exact h
 |some o=>
  simp only[uZ,qB]at h⊢;obtain⟨v,hv,h⟩:=h;exact⟨v,he _ _ hv,h⟩
theorem bED{R:Rt}{ev ev':Ev}(he:aGF ev ev'){hp:List Blk}{k:K}{r:SV×List Blk}(h:k.exec R ev hp=some r):k.exec R ev' hp=some r:=by
 cases k with
 |mv d x=>simp only[K.exec,qB]at h⊢;obtain⟨v,hv,h⟩:=h;exact⟨v,he _ _ hv,h⟩
 |pick d c x y=>
  simp only[K.exec,qB]at h⊢;obtain⟨v,hv,c,hc,h⟩:=h;refine⟨v,he _ _ hv,c,hc,?_⟩;split at h
  ·simp only[qB]at h;obtain⟨u,hu,h⟩:=h;simp[*,he _ _ hu]
  ·simp only[qB]at h;obtain⟨u,hu,h⟩:=h;simp[*,he _ _ hu]
 |alc d z=>exact h
 |box d x=>simp only[K.exec,qB]at h⊢;obtain⟨v,hv,h⟩:=h;exact⟨v,he _ _ hv,h⟩
 |bld d z ps=>simp only[K.exec,qB]at h⊢;obtain⟨v,hv,h⟩:=h;exact⟨v,aQL he hv,h⟩
 |bsl d n z ps=>simp only[K.exec,qB]at h⊢;obtain⟨v,hv,h⟩:=h;exact⟨v,ON he hv,h⟩
 |ld d n x=>simp only[K.exec,qB]at h⊢;obtain⟨v,hv,h⟩:=h;exact⟨v,he _ _ hv,h⟩
 |st n x y=>simp only[K.exec,qB]at h⊢;obtain⟨v,hv,t,ht,u,hu,h⟩:=h;exact⟨v,he _ _ hv,t,ht,u,he _ _ hu,h⟩
 |nilc d x=>simp only[K.exec,qB]at h⊢;obtain⟨v,hv,h⟩:=h;exact⟨v,he _ _ hv,h⟩
 |bin d o x y=>simp only[K.exec,qB]at h⊢;obtain⟨v,hv,t,ht,u,hu,h⟩:=h;exact⟨v,he _ _ hv,t,ht,u,he _ _ hu,h⟩
 |bb d n x y=>simp only[K.exec,qB]at h⊢;obtain⟨v,hv,t,ht,u,hu,h⟩:=h;exact⟨v,he _ _ hv,t,ht,u,he _ _ hu,h⟩
 |eqs d n gs x y=>simp only[K.exec,qB]at h⊢;obtain⟨v,hv,u,hu,h⟩:=h;exact⟨v,he _ _ hv,u,he _ _ hu,h⟩
 |un d o x=>simp only[K.exec,qB]at h⊢;obtain⟨v,hv,h⟩:=h;exact⟨v,he _ _ hv,h⟩
 |cv d k x=>simp only[K.exec,qB]at h⊢;obtain⟨v,hv,h⟩:=h;exact⟨v,he _ _ hv,h⟩
 |mkf d f caps=>simp only[K.exec,qB]at h⊢;obtain⟨v,hv,h⟩:=h;exact⟨v,X6 he hv,h⟩
 |mks d b z n c=>simp only[K.exec,qB]at h⊢;obtain⟨v,hv,t,ht,u,hu,h⟩:=h;exact⟨v,he _ _ hv,t,ht,u,he _ _ hu,h⟩
 |slc d sz x lo hi=>simp only[K.exec,qB]at h⊢;obtain⟨v,hv,t,ht,rows,hr,l,hl,u,hu,h⟩:=h;exact⟨v,he _ _ hv,t,ht,rows,hr,l,KB he hl,u,KB he hu,h⟩
 |sls d x lo hi=>
  simp only[K.exec,qB]at h⊢;obtain⟨v,hv,t,ht,h⟩:=h;refine⟨v,he _ _ hv,t,ht,?_⟩;split at h
  ·simp only[qB]at h⊢;obtain⟨l,hl,u,hu,h⟩:=h;exact⟨l,KB he hl,u,KB he hu,h⟩
  ·simp at h
 |fa d x o=>simp only[K.exec,qB]at h⊢;obtain⟨v,hv,h⟩:=h;exact⟨v,he _ _ hv,h⟩
 |fld d x o n=>simp only[K.exec,qB]at h⊢;obtain⟨v,hv,h⟩:=h;exact⟨v,he _ _ hv,h⟩
 |ia d sz x j=>simp only[K.exec,qB]at h⊢;obtain⟨v,hv,t,ht,u,hu,h⟩:=h;exact⟨v,he _ _ hv,t,ht,u,he _ _ hu,h⟩
 |ix d x j=>simp only[K.exec,qB]at h⊢;obtain⟨v,hv,t,ht,u,hu,h⟩:=h;exact⟨v,he _ _ hv,t,ht,u,he _ _ hu,h⟩
 |ext d x j=>simp only[K.exec,qB]at h⊢;obtain⟨v,hv,h⟩:=h;exact⟨v,he _ _ hv,h⟩
 |call d pu f xs=>simp only[K.exec,qB]at h⊢;obtain⟨v,hv,h⟩:=h;exact⟨v,C4 he hv,h⟩
 |calv d pu f xs=>
  simp only[K.exec,qB]at h⊢;obtain⟨v,hv,h⟩:=h;refine⟨v,he _ _ hv,?_⟩;split at h
  ·simp only[qB]at h⊢;obtain⟨vs,hvs,h⟩:=h;exact⟨vs,C4 he hvs,h⟩
  ·simp at h
 |len d x=>simp only[K.exec,qB]at h⊢;obtain⟨v,hv,h⟩:=h;exact⟨v,he _ _ hv,h⟩
 |lens d x=>simp only[K.exec,qB]at h⊢;obtain⟨v,hv,h⟩:=h;exact⟨v,he _ _ hv,h⟩
 |app d b sz x y=>simp only[K.exec,qB]at h⊢;obtain⟨v,hv,t,ht,u,hu,h⟩:=h;exact⟨v,he _ _ hv,t,ht,u,he _ _ hu,h⟩
 |cpy d sz x y=>simp only[K.exec,qB]at h⊢;obtain⟨v,hv,t,ht,u,hu,h⟩:=h;exact⟨v,he _ _ hv,t,ht,u,he _ _ hu,h⟩
 |clr sz z x=>simp only[K.exec,qB]at h⊢;obtain⟨v,hv,h⟩:=h;exact⟨v,he _ _ hv,h⟩
 |mm d m x y=>simp only[K.exec,qB]at h⊢;obtain⟨v,hv,t,ht,u,hu,h⟩:=h;exact⟨v,he _ _ hv,t,ht,u,he _ _ hu,h⟩
def aJE:K→Bool
 | .call .. | .calv .. =>false
 |_=>true
theorem C5{R R':Rt}{ev:Ev}{hp:List Blk}{k:K}(hk:aJE k=true):k.exec R ev hp=k.exec R' ev hp:=by
 cases k<;>first|rfl|simp[aJE]at hk
theorem aYD{R:Rt}{Q:Qt}(hQ:X2 (cY R) Q){kd:List (Nat×List Kd)}{ev ev':Ev}(he:aGF ev ev'){hp:List Blk}{k:K}{r:SV×List Blk}(h:exK Q kd ev hp k=some (r,true)):k.exec R ev' hp=some r:=by
 refine bED he ?_;unfold exK at h;split at h
 ·simp only[qB,qI,qP,K.exec]at h⊢;obtain⟨v,hv,t,ht,u,hu,s,hs,q,hq,h1,h2⟩:=h;refine⟨v,hv,t,ht,u,hu,s,hs,q.1,bEA (by rw[hq,←h2]),h1⟩
 ·simp only[qB,qI,qP,K.exec]at h⊢;obtain⟨c,hc,b,hb,v,hv,u,hu,m,hm,h1,-⟩:=h;refine⟨c,hc,b,hb,?_⟩;rw[←h1,AY hm];cases b<;>simp[hv,hu]
 ·simp only[qB,qI,qP,K.exec]at h⊢;obtain⟨vs,hvs,h⟩:=h;exact⟨vs,hvs,WK hQ h⟩
 ·simp only[qB,K.exec]at h⊢;obtain⟨g,hg,h⟩:=h;refine⟨g,hg,?_⟩;split at h
  ·simp only[qB,qI,qP]at h⊢;obtain⟨vs,hvs,h⟩:=h;exact⟨vs,hvs,RJ hQ h⟩
  ·simp at h
 ·split at h
  ·simp only[qB,qI,qP,K.exec]at h⊢;obtain⟨v,hv,t,ht,u,hu,w,hw,q,hq,h1,h2⟩:=h;exact⟨v,hv,t,ht,u,hu,w,hw,q.1,bEB (by rw[hq,←h2]),h1⟩
  ·simp only[q_c,qP,and_true]at h;obtain⟨q,hq,rfl⟩:=h;rw[C5 (R':=Q.val) rfl];exact hq
 ·split at h
  ·simp only[qB,qI,qP,K.exec]at h⊢;obtain⟨v,hv,t,ht,q,hq,h1,h2⟩:=h;have:=bNM (v:=q.1) (by rw[hq,←h2])
   simp only[qB]at this;obtain⟨cs,hc,hs⟩:=this;exact⟨v,hv,t,ht,cs,hc,q.1,hs,h1⟩
  ·simp only[q_c,qP,and_true]at h;obtain⟨q,hq,rfl⟩:=h;rw[C5 (R':=Q.val) rfl];exact hq
 ·simp only[qB,qI,qP,K.exec]at h⊢;obtain⟨v,hv,t,ht,u,hu,cs,hc,q,hq,h1,h2⟩:=h;exact⟨v,hv,t,ht,u,hu,cs,hc,q.1,bNN (by rw[hq,←h2]),h1⟩
 ·simp only[qB]at h;obtain⟨v,hv,t,ht,u,hu,s,hs,h⟩:=h;exact bD4 hv ht hu hs h
 ·simp only[qB,qI,qP,K.exec]at h⊢;obtain⟨v,hv,t,ht,n,hn,h1,h2⟩:=h;obtain⟨rows,hr,hl⟩:=aQK (n:=n.1) (by rw[hn,←h2])
  exact⟨v,hv,t,ht,rows,hr,by rw[hl,h1]⟩
 ·rename_i d sz x lo hi;simp only[qB,qI,qP,K.exec]at h⊢;obtain⟨v,hv,t,ht,n,hn,l,hl,hh,hb,q,hq,h1,h2⟩:=h;obtain⟨o1,o2⟩:=aS h2;obtain⟨rows,hr,hlen⟩:=aQK (n:=n.1) (by rw[hn,←o1])
  refine⟨v,hv,t,ht,rows,hr,l,hl,hh,?_,q.1,bD6 hlen (by rw[hq,←o2]),h1⟩
  cases hi with
  |none=>simp only[uZ,hlen];exact hb
  |some o=>exact hb
 ·simp only[qB,qI]at h;obtain⟨v,hv,k,hk,u,hu,k',hk',h⟩:=h;exact bD7 (k:=k.1) (nn:=k.2) (k':=k'.1) (cc:=k'.2) hv hk hu hk' h
 ·simp only[qB]at h;obtain⟨v,hv,t,ht,u,hu,s,hs,h⟩:=h;exact bD8 hv ht hu hs h
 ·simp only[qB]at h;obtain⟨v,hv,t,ht,h⟩:=h;exact bD9 hv ht h
 ·simp only[q_c,qP,and_true]at h;obtain⟨q,hq,rfl⟩:=h;have hk:aJE k=true:=by
   cases k with
   |call d pu f xs=>cases pu<;>simp_all
   |calv d pu f xs=>cases pu<;>simp_all
   |_=>rfl
  rw[C5 (R':=Q.val) hk];exact hq
def rC:K→Bool
 | .alc .. | .box .. | .bsl .. | .st .. | .mks .. | .app .. | .cpy .. | .clr .. =>false
 | .call _ pu _ _| .calv _ pu _ _=>pu
 |_=>true
theorem ZY{R:Rt}{hp:List Blk}{f:FuncId}{vs:List (SV×Nat×Bool)}{r:SV×List Blk}(h:lD R hp true f vs=some r):r.2=hp:=by
 simp only[lD,if_true,qB]at h;obtain⟨_,_,_,_,_,_,h⟩:=h;split at h
 ·obtain rfl:=Option.some.inj h;rfl
 ·simp at h
theorem OO{R:Rt}{hp:List Blk}{f:FuncId}{vs:List (SV×Nat×Bool)}{r:SV×List Blk}(h:nP R hp true f vs=some r):r.2=hp:=by
 unfold nP at h;split at h
 ·exact ZY h
 ·simp at h
def a2F(hp:List Blk)(o:Option (SV×List Blk)):Prop:= ∀r,o=some r→r.2=hp
theorem FC{α:Type}{hp:List Blk}{o:Option α}{f:α→Option (SV×List Blk)}(h: ∀v,a2F hp (f v)):a2F hp (o.bind f):=fun r hr=>by
 simp only[qB]at hr;obtain⟨v,_,hv⟩:=hr;exact h v r hv
theorem aYE{hp:List Blk}{v:SV}:a2F hp (some (v,hp)):=fun r hr=>by
 obtain rfl:=Option.some.inj hr;rfl
theorem X7{hp:List Blk}:a2F hp none:=fun r hr=>by simp at hr
theorem MC{R:Rt}{ev:Ev}{hp:List Blk}{k:K}{r:SV×List Blk}(hk:rC k=true)(h:k.exec R ev hp=some r):r.2=hp:=by
 have:a2F hp (k.exec R ev hp):=by
  cases k<;>simp only[rC,Bool.false_eq_true]at hk
  case call d pu f xs=>
   subst hk;exact FC fun vs r hr=>OO hr
  case calv d pu f xs=>
   subst hk;refine FC fun g=>?_
   split
   ·exact FC fun vs r hr=>OO hr
   ·exact X7
  all_goals
   unfold K.exec
   repeat (first|exact aYE|exact X7|(refine FC fun _=>?_)|split)
 exact this r h
end Go.Zq

namespace Go.Zq
open Go
def aYF(n:Nat):List Nat→List Nat
 |[]=>[n]
 |m::r=>bif Nat.blt n m then n::m::r else bif Nat.beq n m then m::r else m::aYF n r
def bNO:List Nat→List Nat→List Nat
 |[],b=>b
 |n::r,b=>aYF n (bNO r b)
def bWO(n:Nat):List Nat→List Nat
 |[]=>[]
 |m::r=>bif Nat.beq n m then r else m::bWO n r
def aQM:List Operand→List Nat→List Nat
 |[],l=>l
 | .tmp n::r,l=>aYF n (aQM r l)
 |_::r,l=>aQM r l
def b25:Option Nat→List Nat→List Nat
 |some n,l=>aYF n l
 |none,l=>l
def b26(ops:Array Oper)(o:Oper)(l:List Nat):List Nat:=
 aQM o.op.operands.toList (match o.guard with
  |some (j,_)=>b25 ((ops[j]?).bind (·.dst)) l
  |none=>l)
def b27:Option Nat→List Nat→List Nat
 |some n,l=>bWO n l
 |none,l=>l
def bNP(ops:Array Oper)(out:List Nat):List Nat:=ops.toList.foldr (fun o l=>b26 ops o (b27 o.dst l)) out
def bNQ(f:List Nat→List Nat):Nat→List Nat→List Nat
 |0,x=>x
 |n+1,x=>let y:=bNO (f x) x
  bif Nat.beq y.length x.length then x else bNQ f n y
def OP(res:List Nat):Code→List Nat→List (Nat×List Nat)→List Nat
 | .seq x y,out,ctx=>OP res x (OP res y out ctx) ctx
 | .region _ ops _,out,_=>bNP ops out
 | .cond c x y,out,ctx=>aQM [c] (bNO (OP res x out ctx) (OP res y out ctx))
 | .block id x,out,ctx=>OP res x out ((id,out)::ctx)
 | .loop x,_,ctx=>bNQ (fun l=>OP res x l ctx) 9 []
 | .exit id,_,ctx=>(J5 id ctx).getD []
 | .ret,_,_=>res
 |_,out,_=>out
def RL(res:List Nat):Code→List Nat→List (Nat×List Nat)→List (Nat×List Nat)→List (Nat×List Nat)
 | .seq x y,out,ctx,l=>RL res x (OP res y out ctx) ctx (RL res y out ctx l)
 | .region id _ _,out,_,l=>(2*id,out)::l
 | .cond _ x y,out,ctx,l=>RL res x out ctx (RL res y out ctx l)
 | .block id x,out,ctx,l=>RL res x out ((id,out)::ctx) l
 | .loop x,_,ctx,l=>let h:=bNQ (fun l=>OP res x l ctx) 9 []
   (2*HE x+1,h)::RL res x h ctx l
 |_,_,_,l=>l
def bNR:List ResultVar→List Nat
 |[]=>[]
 | .tmp n::r=>aYF n (bNR r)
 | .cell n _::r=>aYF n (bNR r)
def RN:Code→List (Nat×Nat)
 | .seq x y=>RN x++RN y
 | .region id ops true=>[(id,ops.size)]
 | .cond _ x y=>RN x++RN y
 | .block _ x=>RN x
 | .loop x=>RN x
 |_=>[]
def a2G(n:Nat):List (Nat×Nat)→Nat
 |[]=>0
 |(m,v)::r=>bif Nat.beq m n then v else a2G n r
def cnN(id:Nat):List (Nat×Bool)→List Nat
 |[]=>[]
 |(m,neg)::r=>bif Nat.beq m id then(bif neg then [999998,999999]else [999999])else cnN id r
def bWP(own:FuncId→Nat→Bool)(cn:List (Nat×Bool))(fn:Func):Hint:=
 match fn.body with
 |some c=>let res:=bNR fn.results.toList
  let l:=RL res c res [] []
  let d:=RN c
  ⟨fun n=>(J5 (2*n+1) l).getD [],own,fun n=>List.range (a2G n d),fun n=>(J5 (2*n) l).map fun x=>x++cnN n cn⟩
 |none=>⟨fun _=>[],own,fun _=>[],fun _=>none⟩
def aJF(P:Program):Nat→TypeId→Option (List Kd)
 |0,_=>none
 |f+1,t=>
  match P.underlying t with
  |some (.int k)=>some [.int k]
  |some .bool=>some [.bool]
  |some .string=>some [.str]
  |some (.struct fs)=>(fs.toList.mapM fun x=>aJF P f x.type).map List.flatten
  |some (.slice e)=>(oZ P e).map fun n=>[.imm n]
  |_=>none
def bNS(P:Program)(o:Oper)(l:List (Nat×List Kd)):List (Nat×List Kd):=
 match o.dst,o.op with
 |some d, .indexAddr t _ _=>match(JO P t).bind (aJF P 9)with
  |some k=>(d,k)::l
  |none=>l
 |some d, .load t _=>match aJF P 9 t with
  |some k=>(d,k)::l
  |none=>l
 |_,_=>l
def HS(P:Program):Code→List (Nat×List Kd)→List (Nat×List Kd)
 | .seq x y,l=>HS P x (HS P y l)
 | .region _ ops _,l=>ops.toList.foldr (bNS P) l
 | .cond _ x y,l=>HS P x (HS P y l)
 | .block _ x,l=>HS P x l
 | .loop x,l=>HS P x l
 |_,l=>l
def kdA(P:Program)(f:FuncId):List (Nat×List Kd):=
 match P.funcs[f]? with
 |some fn=>match fn.body with
  |some c=>HS P c []
  |none=>[]
 |none=>[]
def inRuns(f:Nat):List (Nat×Nat)→Bool
 |[]=>false
 |(a,b)::r=>(Nat.ble a f&&Nat.ble f b)||inRuns f r
def bWQ(runs:List (Nat×Nat))(mv:List (Nat×List Nat))(f:FuncId)(k:Nat):Bool:=
 match J5 f mv with
 |some l=>decide (k∈l)
 |none=>Nat.beq k 999&&inRuns f runs
def cfA(P:Program)(own:FuncId→FuncId→Nat→Bool)(cn:FuncId→List (Nat×Bool))(f:FuncId):Option Fn:=
 match P.funcs[f]? with
 |some fn=>if(fn.name== "runtime.NumGoroutine")then none else QD P (bWP (own f) (cn f) fn) quiet? fn (fn.params.size+fn.nfree)
 |none=>none
theorem bNT{P:Program}(hm:P.follows .mixedOrders=true)(own:FuncId→FuncId→Nat→Bool)(cn:FuncId→List (Nat×Bool)):aQF P (cfA P own cn):=fun f cf h=>by
 unfold cfA at h;split at h
 ·rename_i fn hf;split at h
  ·cases h
  ·rename_i hn;have h':=h;unfold QD at h';simp only[Option.bind_eq_some_iff]at h';obtain⟨c,hc,-⟩:=h';exact⟨⟨fn,c,hf,hc,by simpa using hn⟩,fn,_,quiet?,_,hf,O9 hm,h⟩
 ·cases h
end Go.Zq

namespace Go.Zq
open Option renaming bind_eq_some_iff → qB
open Option.some renaming injEq → qI
open List renaming mem_append → q_j
open Go
def K.dsts(k:K):List Nat:=match k.dst with|some d=>[d]|none=>[]
inductive Its where
 |nil
 |op (k:K) (r:Its)
 |iff (s:Nat) (w:Bool) (its:Its) (d:Nat) (x y:Opd) (r:Its)
def Its.flat(g:Option (Nat×Bool)):Its→List G
 | .nil=>[]
 | .op k r=>(g,k)::r.flat g
 | .iff s w its d x y r=>its.flat (some (s,w))++(g, .pick d (.t s) x y)::r.flat g
def Its.dsts:Its→List Nat
 | .nil=>[]
 | .op k r=>k.dsts++r.dsts
 | .iff _ _ its d _ _ r=>its.dsts++d::r.dsts
def Its.quiet:Its→Bool
 | .nil=>true
 | .op k r=>rC k&&r.quiet
 | .iff _ _ its _ _ _ r=>its.quiet&&r.quiet
def Its.inner(ds:List Nat):Its→Bool
 | .nil=>true
 | .op k r=>r.inner (k.dsts++ds)
 | .iff s _ its d _ _ r=>ds.contains s&&its.inner []&&r.inner (d::(its.dsts++ds))
def eqG:Option (Nat×Bool)→Option (Nat×Bool)→Bool
 |none,none=>true
 |some (s,w),some (s',w')=>Nat.beq s s'&&(w==w')
 |_,_=>false
theorem a2K: ∀{g h:Option (Nat×Bool)},eqG g h=true→g=h
 |none,none,_=>rfl
 |some (s,w),some (s',w'),h=>by
  simp only[eqG,Bool.and_eq_true,beq_iff_eq]at h;rw[Nat.eq_of_beq_eq_true h.1,h.2]
 |none,some _,h=>by simp[eqG]at h
 |some _,none,h=>by simp[eqG]at h
def xV:Nat→Option (Nat×Bool)→List G→Its×List G
 |0,_,l=>(.nil,l)
 |_+1,_,[]=>(.nil,[])
 |n+1,cur,(g,k)::r=>
  if eqG g cur then let p:=xV n cur r;(.op k p.1,p.2)
  else match g with
   |none=>(.nil,(g,k)::r)
   |some (s,w)=>
    let q:=xV n (some (s,w)) ((g,k)::r)
    match q.2 with
    |(g', .pick d (.t s') x y)::r'=>
     if eqG g' cur&&Nat.beq s' s then let p:=xV n cur r';(.iff s w q.1 d x y p.1,p.2)else(.nil,(g,k)::r)
    |_=>(.nil,(g,k)::r)
theorem A0: ∀(n:Nat)(cur:Option (Nat×Bool))(l:List G),(xV n cur l).1.flat cur++(xV n cur l).2=l
 |0,_,l=>rfl
 |_+1,_,[]=>rfl
 |n+1,cur,(g,k)::r=>by
  unfold xV;split
  ·rename_i h;simp only[Its.flat,List.cons_append,A0 n cur r,a2K h]
  ·split
   ·rfl
   ·rename_i s w hh;simp only;split
    ·rename_i g' d s' x y r' hq;split
     ·rename_i hc;simp only[Bool.and_eq_true]at hc;obtain rfl:=a2K hc.1;obtain rfl:=Nat.eq_of_beq_eq_true hc.2;have h1:=A0 n (some (s',w)) ((some (s',w),k)::r);rw[hq]at h1;simp only[Its.flat,List.append_assoc,List.cons_append,A0 n g' r'];exact h1
     ·rfl
    ·rfl
def HT(sl:List (Nat×SV))(ds:List Nat):List (Nat×SV):=sl.filter fun p=>!ds.contains p.1
theorem xW{ds:List Nat}{n:Nat}{v:SV}: ∀{sl:List (Nat×SV)},bH n (HT sl ds)=some v→n∉ds∧bH n sl=some v
 |[],h=>by simp[HT,bH]at h
 |(m,u)::r,h=>by
  unfold HT at h;rw[List.filter_cons]at h;split at h
  ·rename_i hm;simp only[bH]at h⊢;split at h
   ·rename_i e;subst e;exact⟨by simpa using hm,by rw[if_pos rfl];exact h⟩
   ·rename_i e;rw[if_neg e];exact xW h
  ·rename_i hm;have:=xW (sl:=r) h;refine⟨this.1,?_⟩;simp only[bH];split
   ·rename_i e;subst e;exact absurd (by simpa using hm) this.1
   ·exact this.2
structure Le(σ σ':St):Prop where
 sl: ∀n v,bH n σ.sl=some v→bH n σ'.sl=some v
 hp:σ'.hp=σ.hp
theorem Le.rfl{σ:St}:Le σ σ:=⟨fun _ _ h=>h,Eq.refl _⟩
theorem Le.trans{a b c:St}(h:Le a b)(k:Le b c):Le a c:=⟨fun n v x=>k.sl n v (h.sl n v x),k.hp.trans h.hp⟩
theorem Le.ev{σ σ':St}(h:Le σ σ'):aGF σ.ev σ'.ev:=fun x v hx=>by
 cases x with
 |t n=>exact h.sl n v hx
 |c u=>exact hx
theorem Le.set{σ σ':St}(h:Le σ σ')(d:Nat)(v:SV):Le (σ.set d v) (σ'.set d v):=⟨fun n u hn=>by
 simp only[St.set,bH]at hn⊢;split
 ·rename_i e;rw[if_pos e]at hn;exact hn
 ·rename_i e;rw[if_neg e]at hn;exact h.sl n u hn,h.hp⟩
theorem Le.setD{σ σ':St}(h:Le σ σ')(d:Option Nat)(v:SV):Le (setD σ d v) (setD σ' d v):=by
 cases d with
 |none=>exact h
 |some d=>exact h.set d v
theorem Le.heap{σ σ':St}(h:Le σ σ')(hp:List Blk):Le ⟨σ.sl,hp⟩ ⟨σ'.sl,hp⟩:=⟨h.sl,Eq.refl _⟩
theorem v6{σ:St}{d n:Nat}{v:SV}(h:n≠d):bH n (σ.set d v).sl=bH n σ.sl:=by
 simp only[St.set,bH];rw[if_neg (Ne.symm h)]
theorem tT{σ:St}{d:Nat}{v:SV}:bH d (σ.set d v).sl=some v:=by
 simp[St.set,bH]
theorem jV{σ:St}{k:K}{n:Nat}{v:SV}(h:n∉k.dsts):bH n (Zq.setD σ k.dst v).sl=bH n σ.sl:=by
 unfold K.dsts at h;cases hd:k.dst with
 |none=>rfl
 |some d=>
  rw[hd]at h;exact v6 (by simpa using h)
def evI(Q:Qt)(kd:List (Nat×List Kd)):Its→St→Option (St×Bool)
 | .nil,σ=>some (σ,true)
 | .op k r,σ=>(exK Q kd σ.ev σ.hp k).bind fun x=>(evI Q kd r (setD ⟨σ.sl,x.1.2⟩ k.dst x.1.1)).bind fun y=>some (y.1,x.2&&y.2)
 | .iff s w its d x y r,σ=>
   (bH s σ.sl).bind fun c=>(asBool c).bind fun b=>(evI Q kd its σ).bind fun i=>
   if(its.inner []&&!its.dsts.contains s)=true then
    (if its.quiet then some σ.hp else xU (if w then b else !b) i.1.hp σ.hp).bind fun hp=>
    ((if w then i.1 else⟨HT σ.sl its.dsts,σ.hp⟩:St).ev x).bind fun vx=>((if w then⟨HT σ.sl its.dsts,σ.hp⟩else i.1:St).ev y).bind fun vy=>(AX b vx vy).bind fun m=>
    (evI Q kd r (St.set ⟨HT σ.sl its.dsts,hp⟩ d m)).bind fun z=>some (z.1,(i.2||(if w then !b else b))&&z.2)
   else none
def Skips(s:Nat)(w:Bool)(σ:St):Prop:=bH s σ.sl=some .und∨bH s σ.sl=some (.one (B (!w)))
theorem Skips.setD{s:Nat}{w:Bool}{σ:St}(h:Skips s w σ)(k:K):Skips s w (Zq.setD σ k.dst .und):=by
 by_cases e:s∈k.dsts
 ·left
  unfold K.dsts at e;cases hd:k.dst with
  |none=>rw[hd]at e;simp at e
  |some d=>
   rw[hd]at e;obtain rfl:s=d:=by simpa using e
   exact tT
 ·rcases h with h|h
  ·left;rw[jV e];exact h
  ·right;rw[jV e];exact h
theorem X8{R:Rt}{s:Nat}{w:Bool}{σ:St}(h:Skips s w σ)(k:K):kG R σ (some (s,w),k)=some (setD σ k.dst .und):=by
 unfold kG;rcases h with h|h
 ·simp only[h]
 ·simp only[h];rw[if_neg (by cases w<;>simp)]
theorem A2{R:Rt}: ∀{l l':List G}{σ σ1:St},dU R l σ=some σ1→dU R (l++l') σ=dU R l' σ1
 |[],l',σ,σ1,h=>by simp only[dU,qI]at h;subst h;rfl
 |g::r,l',σ,σ1,h=>by
  simp only[dU,qB]at h;obtain⟨σ2,h1,h2⟩:=h;simp only[List.cons_append,dU,h1,Option.bind_some];exact A2 h2
theorem KC{R:Rt}: ∀{its:Its}{s:Nat}{w:Bool}{ds:List Nat}{σ:St},Skips s w σ→its.inner ds=true→(∀n∈ds,bH n σ.sl=some .und)→
  ∃σ',dU R (its.flat (some (s,w))) σ=some σ'∧σ'.hp=σ.hp∧(∀n,n∉its.dsts→bH n σ'.sl=bH n σ.sl)∧(∀n,(n∈its.dsts∨n∈ds)→bH n σ'.sl=some .und)∧Skips s w σ'
 | .nil,s,w,ds,σ,hs,hi,hd=>⟨σ,rfl,rfl,fun _ _=>rfl,fun n hn=>by rcases hn with hn|hn;·simp[Its.dsts]at hn
                                                                ·exact hd n hn,hs⟩
 | .op k r,s,w,ds,σ,hs,hi,hd=>by
   simp only[Its.inner]at hi;obtain⟨σ',h1,h2,h3,h4,h5⟩:=KC (R:=R) (its:=r) (σ:=setD σ k.dst .und) (ds:=k.dsts++ds) (hs.setD k) hi (fun n hn=>by
    by_cases e:n∈k.dsts
    ·unfold K.dsts at e;cases hk:k.dst with
     |none=>rw[hk]at e;simp at e
     |some d=>
      rw[hk]at e;obtain rfl:n=d:=by simpa using e
      exact tT
    ·rw[jV e];exact hd n ((List.mem_append.1 hn).resolve_left e))
   refine⟨σ',?_,?_,?_,?_,h5⟩
   ·simp only[Its.flat,dU,X8 hs,Option.bind_some];exact h1
   ·rw[h2];cases k.dst<;>rfl
   ·intro n hn;simp only[Its.dsts,q_j,not_or]at hn;rw[h3 n hn.2,jV hn.1]
   ·intro n hn;simp only[Its.dsts,q_j]at hn;exact h4 n (by simp only[q_j];rcases hn with(hn|hn)|hn<;>simp[hn])
 | .iff s2 w2 its d x y r,s,w,ds,σ,hs,hi,hd=>by
   simp only[Its.inner,Bool.and_eq_true,List.contains_iff_mem]at hi;obtain⟨σ1,h1,h2,h3,h4,h5⟩:=KC (R:=R) (its:=its) (s:=s2) (w:=w2) (σ:=σ) (ds:=[]) (.inl (hd s2 hi.1.1)) hi.1.2 (by simp)
   have hs1:Skips s w σ1:=by
    by_cases e:s∈its.dsts
    ·exact .inl (h4 s (.inl e))
    ·rcases hs with hs|hs
     ·left;rw[h3 s e];exact hs
     ·right;rw[h3 s e];exact hs
   obtain⟨σ',k1,k2,k3,k4,k5⟩:=KC (R:=R) (its:=r) (s:=s) (w:=w) (σ:=setD σ1 (some d) .und) (ds:=d::(its.dsts++ds)) (hs1.setD (.pick d (.t s2) x y)) hi.2 (fun n hn=>by
    by_cases e:n=d
    ·subst e;exact tT
    ·show bH n (σ1.set d .und).sl=_
     rw[v6 e];simp only[List.mem_cons,e,false_or,q_j]at hn;by_cases f:n∈its.dsts
     ·exact h4 n (.inl f)
     ·rw[h3 n f];exact hd n (hn.resolve_left f))
   refine⟨σ',?_,?_,?_,?_,k5⟩
   ·rw[Its.flat,A2 h1];simp only[dU,X8 hs1,Option.bind_some];exact k1
   ·rw[k2];exact h2
   ·intro n hn;simp only[Its.dsts,q_j,List.mem_cons,not_or]at hn;rw[k3 n hn.2.2];show bH n (σ1.set d .und).sl=_
    rw[v6 hn.2.1,h3 n hn.1]
   ·intro n hn;simp only[Its.dsts,q_j,List.mem_cons]at hn;refine k4 n ?_;simp only[List.mem_cons,q_j];rcases hn with(hn|hn|hn)|hn<;>simp[hn]
def aQN(g:Option (Nat×Bool))(σ:St):Prop:= ∀s w,g=some (s,w)→bH s σ.sl=some (.one (B w))
def bNV(g:Option (Nat×Bool))(ds:List Nat):Prop:= ∀s w,g=some (s,w)→s∉ds
theorem runG_holds{R:Rt}{g:Option (Nat×Bool)}{σ:St}(h:aQN g σ)(k:K):kG R σ (g,k)=k.run R σ:=by
 unfold kG;cases g with
 |none=>rfl
 |some x=>simp only[h x.1 x.2 rfl,if_true]
theorem OQ{R:Rt}: ∀{l:List G}{σ σ':St},dU R l σ=some σ'→ ∀n,(∀g∈l,n∉g.2.dsts)→bH n σ'.sl=bH n σ.sl
 |[],σ,σ',h,n,hn=>by simp only[dU,qI]at h;rw[h]
 |g::r,σ,σ',h,n,hn=>by
  simp only[dU,qB]at h;obtain⟨σ1,h1,h2⟩:=h;rw[OQ h2 n (fun g hg=>hn g (List.mem_cons_of_mem _ hg))]
  have hk:=hn g (List.mem_cons_self ..);have hrun: ∀{τ:St},g.2.run R σ=some τ→bH n τ.sl=bH n σ.sl:=fun{τ} ht=>by
   simp only[K.run,qB,qI]at ht;obtain⟨q,-,rfl⟩:=ht;rw[jV hk]
  unfold kG at h1;split at h1
  ·exact hrun h1
  ·split at h1
   ·split at h1
    ·exact hrun h1
    ·obtain rfl:=Option.some.inj h1;rw[jV hk]
   ·obtain rfl:=Option.some.inj h1;rw[jV hk]
   ·simp at h1
theorem FD{n:Nat}: ∀{its:Its}{g:Option (Nat×Bool)},n∉its.dsts→ ∀x∈its.flat g,n∉x.2.dsts
 | .nil,g,h,x,hx=>by simp[Its.flat]at hx
 | .op k r,g,h,x,hx=>by
   simp only[Its.dsts,q_j,not_or]at h;simp only[Its.flat,List.mem_cons]at hx;rcases hx with rfl|hx
   ·exact h.1
   ·exact FD h.2 x hx
 | .iff s w its d a b r,g,h,x,hx=>by
   simp only[Its.dsts,q_j,List.mem_cons,not_or]at h;simp only[Its.flat,q_j,List.mem_cons]at hx;rcases hx with hx|rfl|hx
   ·exact FD h.1 x hx
   ·simpa [K.dsts,K.dst]using h.2.1
   ·exact FD h.2.2 x hx
theorem FE{Q:Qt}{kd:List (Nat×List Kd)}: ∀{its:Its}{σ:St}{r:St×Bool},evI Q kd its σ=some r→ ∀n v,n∉its.dsts→bH n r.1.sl=some v→bH n σ.sl=some v
 | .nil,σ,r,h,n,v,hn,hv=>by simp only[evI,qI]at h;subst h;exact hv
 | .op k t,σ,r,h,n,v,hn,hv=>by
   simp only[evI,qB,qI]at h;obtain⟨x,hx,y,hy,rfl⟩:=h;simp only[Its.dsts,q_j,not_or]at hn;have:=FE hy n v hn.2 hv;rw[jV hn.1]at this;exact this
 | .iff s w its d a b t,σ,r,h,n,v,hn,hv=>by
   simp only[evI,qB]at h;obtain⟨c,hc,e,he,i,hi,h⟩:=h;split at h
   ·simp only[qB,qI]at h;obtain⟨hp1,hh,vx,hx,vy,hy,m,hm,z,hz,rfl⟩:=h;simp only[Its.dsts,q_j,List.mem_cons,not_or]at hn;have:=FE hz n v hn.2.2 hv;rw[v6 hn.2.1]at this;exact(xW this).2
   ·simp at h
theorem GV{Q:Qt}{wm:Bool}{hp:List Blk}{f:FuncId}{vs:List (SV×Nat×Bool)}{r:(SV×List Blk)×Bool}(h:zX Q wm hp true f vs=some r):r.1.2=hp:=by
 simp only[zX,if_true,qB]at h;obtain⟨args,h1,q,hq,h⟩:=h;split at h
 ·obtain rfl:=Option.some.inj h;rfl
 ·simp at h
theorem Z0{Q:Qt}{wm:Bool}{hp:List Blk}{f:FuncId}{vs:List (SV×Nat×Bool)}{r:(SV×List Blk)×Bool}(h:J9 Q wm hp true f vs=some r):r.1.2=hp:=by
 unfold J9 at h;split at h
 ·exact GV h
 ·simp at h
theorem WL{Q:Qt}{wm:Bool}{hp:List Blk}{f:FuncId}{vs:List (SV×Nat×Bool)}{r:(SV×List Blk)×Bool}(h:J8 Q wm hp true f vs=some r):r.1.2=hp:=GV (bQ h).2
theorem aYG{Q:Qt}{kd:List (Nat×List Kd)}{ev:Ev}{hp:List Blk}{k:K}{r:(SV×List Blk)×Bool}(hk:rC k=true)(h:exK Q kd ev hp k=some r):r.1.2=hp:=by
 unfold exK at h;split at h
 ·simp only[qB,qI]at h;obtain⟨v,hv,t,ht,u,hu,s,hs,q,hq,rfl⟩:=h;rfl
 ·simp only[qB,qI]at h;obtain⟨c,hc,b,hb,v,hv,u,hu,m,hm,rfl⟩:=h;rfl
 ·simp only[qB,qI]at h;obtain⟨vs,hvs,h⟩:=h;simp only[rC]at hk;subst hk;exact Z0 h
 ·simp only[qB]at h;obtain⟨g,hg,h⟩:=h;split at h
  ·simp only[qB,qI]at h;obtain⟨vs,hvs,h⟩:=h;simp only[rC]at hk;subst hk;exact WL h
  ·simp at h
 ·split at h
  ·simp only[qB,qI]at h;obtain⟨v,hv,t,ht,u,hu,w,hw,q,hq,rfl⟩:=h;rfl
  ·simp only[Option.map_eq_some_iff]at h;obtain⟨q,hq,rfl⟩:=h;exact MC hk hq
 ·split at h
  ·simp only[qB,qI]at h;obtain⟨v,hv,t,ht,q,hq,rfl⟩:=h;rfl
  ·simp only[Option.map_eq_some_iff]at h;obtain⟨q,hq,rfl⟩:=h;exact MC hk hq
 ·simp[rC]at hk
 ·simp[rC]at hk
 ·simp only[qB,qI]at h;obtain⟨v,hv,t,ht,n,hn,rfl⟩:=h;rfl
 ·simp only[qB,qI]at h;obtain⟨v,hv,t,ht,n,hn,l,hl,hh,hb,q,hq,rfl⟩:=h;rfl
 ·simp[rC]at hk
 ·simp[rC]at hk
 ·simp[rC]at hk
 ·simp only[Option.map_eq_some_iff]at h;obtain⟨q,hq,rfl⟩:=h;exact MC hk hq
theorem aYH{σ:St}{d:Option Nat}{v:SV}:(setD σ d v).hp=σ.hp:=by cases d<;>rfl
theorem FF{Q:Qt}{kd:List (Nat×List Kd)}: ∀{its:Its}{σ:St}{r:St×Bool},its.quiet=true→evI Q kd its σ=some r→r.1.hp=σ.hp
 | .nil,σ,r,hq,h=>by simp only[evI,qI]at h;subst h;rfl
 | .op k t,σ,r,hq,h=>by
   simp only[evI,qB,qI]at h;obtain⟨x,hx,y,hy,rfl⟩:=h;simp only[Its.quiet,Bool.and_eq_true]at hq;rw[FF hq.2 hy,aYH];exact aYG hq.1 hx
 | .iff s w its d a b t,σ,r,hq,h=>by
   simp only[evI,qB]at h;obtain⟨c,hc,e,he,i,hi,h⟩:=h;simp only[Its.quiet,Bool.and_eq_true]at hq;split at h
   ·simp only[qB,qI]at h;obtain⟨hp1,hh,vx,hx,vy,hy,m,hm,z,hz,rfl⟩:=h;rw[FF hq.2 hz];rw[if_pos hq.1]at hh;obtain rfl:=Option.some.inj hh;rfl
   ·simp at h
theorem FG{R:Rt}{Q:Qt}(hQ:X2 (cY R) Q){kd:List (Nat×List Kd)}: ∀{its:Its}{g:Option (Nat×Bool)}{σ σr σ':St},evI Q kd its σ=some (σ',true)→Le σ σr→aQN g σr→bNV g its.dsts→
  ∃σr',dU R (its.flat g) σr=some σr'∧Le σ' σr'
 | .nil,g,σ,σr,σ',h,hl,hg,ha=>by
   simp only[evI,qI,Prod.mk.injEq]at h;obtain⟨rfl,-⟩:=h;exact⟨σr,rfl,hl⟩
 | .op k t,g,σ,σr,σ',h,hl,hg,ha=>by
   simp only[evI,qB,qI,Prod.mk.injEq,Bool.and_eq_true]at h;obtain⟨x,hx,y,hy,rfl,h1,h2⟩:=h;have hx':k.exec R σr.ev σr.hp=some x.1:=by
    rw[hl.hp];exact aYD hQ hl.ev (by rw[hx,←h1])
   have hl':=(hl.heap x.1.2).setD k.dst x.1.1;have hg':aQN g (setD ⟨σr.sl,x.1.2⟩ k.dst x.1.1):=fun s w e=>by
    have:=ha s w e;simp only[Its.dsts,q_j,not_or]at this;rw[jV this.1];exact hg s w e
   obtain⟨σr',k1,k2⟩:=FG hQ (its:=t) (g:=g) (by rw[hy,←h2]) hl' hg' (fun s w e=>by
    have:=ha s w e;simp only[Its.dsts,q_j,not_or]at this;exact this.2)
   refine⟨σr',?_,k2⟩;simp only[Its.flat,dU,runG_holds hg,K.run,hx',Option.bind_some];exact k1
 | .iff s w its d a b t,g,σ,σr,σ',h,hl,hg,ha=>by
   simp only[evI,qB]at h;obtain⟨c,hc,e,he,i,hi,h⟩:=h;split at h
   case isFalse=>simp at h
   rename_i hcond;simp only[Bool.and_eq_true,Bool.not_eq_true',List.contains_eq_mem,decide_eq_false_iff_not]at hcond;obtain⟨hin,hs⟩:=hcond;simp only[qB,qI,Prod.mk.injEq,Bool.and_eq_true,Bool.or_eq_true]at h;obtain⟨hp1,hh,vx,hx,vy,hy,m,hm,z,hz,rfl,ho1,ho2⟩:=h;have hcs:bH s σr.sl=some (.one (B e)):=by
    have:=hl.sl s c hc;rw[this]
    revert he
    unfold asBool;split
    ·intro he;obtain rfl:=Option.some.inj he;rfl
    ·intro he;simp at he
   have hdrop: ∀{τ:St}{hp:List Blk},τ.hp=hp→(∀n,n∉its.dsts→bH n τ.sl=bH n σr.sl)→Le ⟨HT σ.sl its.dsts,hp⟩ τ:=fun{τ hp} h1 h2=>⟨fun n v hn=>by
    have:=xW hn;rw[h2 n this.1];exact hl.sl n v this.2,h1⟩
   have ha': ∀{n:Nat}{w':Bool},g=some (n,w')→n∉its.dsts∧n≠d∧n∉t.dsts:=fun{n w'} e'=>by
    have:=ha n w' e';simpa only[Its.dsts,q_j,List.mem_cons,not_or]using this
   have main: ∃τ,dU R (its.flat (some (s,w))) σr=some τ∧τ.hp=hp1∧(∀n,n∉its.dsts→bH n τ.sl=bH n σr.sl)∧(if e then τ.ev a else τ.ev b)=some m:=by
    by_cases hw:e=w
    ·subst hw;have hok:i.2=true:=by
      rcases ho1 with h|h
      ·exact h
      ·cases e<;>simp at h
     have hih:i.1.hp=hp1:=by
      split at hh
      ·rename_i hq;obtain rfl:=Option.some.inj hh;exact FF hq hi
      ·rw[AZ hh];cases e<;>rfl
     obtain⟨τ,k1,k2⟩:=FG hQ (its:=its) (g:=some (s,e)) (σ:=σ) (σ':=i.1) (by rw[hi,←hok]) hl (fun s' w' e'=>by
      simp only[qI,Prod.mk.injEq]at e';obtain⟨rfl,rfl⟩:=e';exact hcs) (fun s' w' e'=>by
      simp only[qI,Prod.mk.injEq]at e';obtain⟨rfl,rfl⟩:=e';exact hs)
     refine⟨τ,k1,by rw[k2.hp];exact hih,fun n hn=>OQ k1 n (FD hn),?_⟩
     rw[AY hm];cases e
     ·simp only[Bool.false_eq_true,if_false,cond_false]at hy⊢;exact k2.ev _ _ hy
     ·simp only[if_true,cond_true]at hx⊢;exact k2.ev _ _ hx
    ·have hw':e=!w:=by cases e<;>cases w<;>simp_all
     subst hw';have hih:hp1=σ.hp:=by
      split at hh
      ·exact(Option.some.inj hh).symm
      ·rw[AZ hh];cases w<;>rfl
     obtain⟨τ,k1,k2,k3,k4,k5⟩:=KC (R:=R) (its:=its) (s:=s) (w:=w) (ds:=[]) (σ:=σr) (.inr hcs) hin (by simp)
     refine⟨τ,k1,by rw[k2,hih];exact hl.hp,k3,?_⟩
     have hd:=hdrop (τ:=τ) (hp:=σ.hp) (by rw[k2];exact hl.hp) k3
     rw[AY hm];cases w
     ·simp only[Bool.not_false,if_true,cond_true,Bool.false_eq_true,if_false]at hx⊢;exact hd.ev _ _ hx
     ·simp only[Bool.not_true,Bool.false_eq_true,if_false,cond_false,if_true]at hy⊢;exact hd.ev _ _ hy
   obtain⟨τ,m1,m2,m3,m4⟩:=main;have hgτ:aQN g τ:=fun s' w' e'=>by rw[m3 s' (ha' e').1];exact hg s' w' e'
   have hpick:(K.pick d (.t s) a b).run R τ=some (τ.set d m):=by
    have hct:τ.ev (.t s)=some (.one (B e)):=by
     show bH s τ.sl=_
     rw[m3 s hs];exact hcs
    simp only[K.run,K.exec,hct,Option.bind_some,asBool,K.dst,Zq.setD];cases e
    ·simp only[Bool.false_eq_true,if_false]at m4⊢;simp[m4]
    ·simp only[if_true]at m4⊢;simp[m4]
   obtain⟨σr',k1,k2⟩:=FG hQ (its:=t) (g:=g) (σr:=τ.set d m) (by rw[hz,←ho2]) ((hdrop m2 m3).set d m) (fun s' w' e'=>by
    rw[v6 (ha' e').2.1];exact hgτ s' w' e') (fun s' w' e'=>(ha' e').2.2)
   refine⟨σr',?_,k2⟩;rw[Its.flat,A2 m1];simp only[dU,runG_holds hgτ,hpick,Option.bind_some];exact k1
end Go.Zq

namespace Go.Zq
open Go
inductive Tr where
 |leaf (σ:St)
 |br (b:Bool) (x y:Tr)
def Tr.st:Tr→St
 | .leaf σ=>σ
 | .br b x y=>bif b then x.st else y.st
def Tr.All(P:St→Prop):Tr→Prop
 | .leaf σ=>P σ
 | .br _ x y=>x.All P∧y.All P
theorem Tr.All.st{P:St→Prop}: ∀{t:Tr},t.All P→P t.st
 | .leaf σ,h=>h
 | .br b x y,h=>by
   cases b
   ·exact Tr.All.st (t:=y) h.2
   ·exact Tr.All.st (t:=x) h.1
theorem Tr.All.mono{P P':St→Prop}(hp: ∀σ,P σ→P' σ): ∀{t:Tr},t.All P→t.All P'
 | .leaf σ,h=>hp σ h
 | .br b x y,h=>⟨Tr.All.mono hp (t:=x) h.1,Tr.All.mono hp (t:=y) h.2⟩
inductive Ex where
 |ret
 |brk (id:Nat)
def Ex.out:Ex→St→Out
 | .ret,σ=> .ret σ
 | .brk id,σ=> .brk id σ
structure O where
 ex:List (Ex×Bool×Tr)
 nor:Option Tr
def nX:List (Ex×Bool×Tr)→Option Tr→Option Out
 |[],none=>none
 |[],some t=>some (.nor t.st)
 |(k,b,t)::r,n=>bif b then some (k.out t.st)else nX r n
def O.den(o:O):Option Out:=nX o.ex o.nor
structure O.All(P:St→Prop)(o:O):Prop where
 ex: ∀e∈o.ex,e.2.2.All P
 nor: ∀t,o.nor=some t→t.All P
theorem O.All.mono{P P':St→Prop}(hp: ∀σ,P σ→P' σ){o:O}(h:o.All P):o.All P':=⟨fun e he=>(h.ex e he).mono hp,fun t ht=>(h.nor t ht).mono hp⟩
inductive LeOut:Out→Out→Prop where
 |nor {σ σ':St} (h:Le σ σ'):LeOut (.nor σ) (.nor σ')
 |brk {id:Nat} {σ σ':St} (h:Le σ σ'):LeOut (.brk id σ) (.brk id σ')
 |ret {σ σ':St} (h:Le σ σ'):LeOut (.ret σ) (.ret σ')
theorem LeOut.refl: ∀{o:Out},LeOut o o
 | .nor _=> .nor .rfl
 | .brk _ _=> .brk .rfl
 | .ret _=> .ret .rfl
theorem LeOut.trans{a b c:Out}(h:LeOut a b)(k:LeOut b c):LeOut a c:=by
 cases h<;>cases k
 ·exact .nor (Le.trans ‹_› ‹_›)
 ·exact .brk (Le.trans ‹_› ‹_›)
 ·exact .ret (Le.trans ‹_› ‹_›)
def RO(asg:Option (List Nat))(n:Nat):Bool:=match asg with|some l=>l.contains n|none=>true
def vG(b:Bool)(asg:Option (List Nat))(s1 s2:List (Nat×SV)):List Nat→List (Nat×SV)
 |[]=>[]
 |n::r=>
  match bH n s1 with
  |none=>vG b asg s1 s2 r
  |some v=>
   match bH n s2 with
   |none=>vG b asg s1 s2 r
   |some u=>
    if RO asg n=true then
     match AX b v u with
     |some m=>(n,m)::vG b asg s1 s2 r
     |none=>vG b asg s1 s2 r
    else(n,v)::vG b asg s1 s2 r
def xX(b:Bool)(asg:Option (List Nat))(quiet:Bool)(σ1 σ2:St):Option St:=
 (if quiet then some σ1.hp else xU b σ1.hp σ2.hp).map fun hp=>⟨vG b asg σ1.sl σ2.sl (σ1.sl.map (·.1)),hp⟩
structure Fr(asg:Option (List Nat))(quiet:Bool)(σ0 σ:St):Prop where
 sl: ∀l,asg=some l→ ∀n v,n∉l→bH n σ.sl=some v→bH n σ0.sl=some v
 hp:quiet=true→σ.hp=σ0.hp
theorem iI{b:Bool}{asg:Option (List Nat)}{s1 s2:List (Nat×SV)}{n:Nat}{v:SV}: ∀{l:List Nat},bH n (vG b asg s1 s2 l)=some v→
  ∃x y,bH n s1=some x∧bH n s2=some y∧((RO asg n=true∧AX b x y=some v)∨(RO asg n=false∧v=x))
 |[],h=>by simp[vG,bH]at h
 |m::r,h=>by
  unfold vG at h;cases hx:bH m s1 with
  |none=>simp only[hx]at h;exact iI h
  |some x=>
   cases hy:bH m s2 with
   |none=>simp only[hx,hy]at h;exact iI h
   |some y=>
    simp only[hx,hy]at h;by_cases hc:RO asg m=true
    ·rw[if_pos hc]at h;cases hz:AX b x y with
     |none=>simp only[hz]at h;exact iI h
     |some z=>
      simp only[hz,bH]at h;by_cases e:m=n
      ·rw[if_pos e]at h;subst e;obtain rfl:=Option.some.inj h;exact⟨x,y,hx,hy, .inl ⟨hc,hz⟩⟩
      ·rw[if_neg e]at h;exact iI h
    ·rw[if_neg hc]at h;simp only[bH]at h;by_cases e:m=n
     ·rw[if_pos e]at h;subst e;obtain rfl:=Option.some.inj h;exact⟨x,y,hx,hy, .inr ⟨by simpa using hc,rfl⟩⟩
     ·rw[if_neg e]at h;exact iI h
theorem RQ{l:List Nat}{n:Nat}:RO (some l) n=true↔n∈l:=by simp[RO]
theorem RU{b:Bool}{asg:Option (List Nat)}{quiet:Bool}{σ0 σ1 σ2 σ:St}(h:xX b asg quiet σ1 σ2=some σ)(h1:Fr asg quiet σ0 σ1)(h2:Fr asg quiet σ0 σ2):Le σ (bif b then σ1 else σ2):=by
 simp only[xX,Option.map_eq_some_iff]at h;obtain⟨hp,hh,rfl⟩:=h;constructor
 ·intro n v hn;obtain⟨x,y,hx,hy,⟨-,hm⟩|⟨hnl,rfl⟩⟩:=iI hn
  ·rw[AY hm];cases b
   ·exact hy
   ·exact hx
  ·cases b
   ·cases asg with
    |none=>simp[RO]at hnl
    |some l=>
     have hnl':n∉l:=fun e=>by rw[RQ.2 e]at hnl;simp at hnl
     have e1:=h1.sl l rfl n _ hnl' hx;have e2:=h2.sl l rfl n _ hnl' hy;rw[e1]at e2;obtain rfl:=Option.some.inj e2;exact hy
   ·exact hx
 ·split at hh
  ·rename_i hq;obtain rfl:=Option.some.inj hh;cases b
   ·exact(h2.hp hq).trans (h1.hp hq).symm
   ·rfl
  ·rw[AZ hh];cases b<;>rfl
theorem aJG{b:Bool}{asg:Option (List Nat)}{quiet:Bool}{σ0 σ1 σ2 σ:St}(h:xX b asg quiet σ1 σ2=some σ)(h1:Fr asg quiet σ0 σ1):Fr asg quiet σ0 σ:=by
 simp only[xX,Option.map_eq_some_iff]at h;obtain⟨hp,hh,rfl⟩:=h;constructor
 ·intro l hl n v hn hv;obtain⟨x,y,hx,hy,⟨hnl,-⟩|⟨-,rfl⟩⟩:=iI hv
  ·subst hl;exact absurd (RQ.1 hnl) hn
  ·exact h1.sl l hl n _ hn hx
 ·intro hq;rw[if_pos hq]at hh;obtain rfl:=Option.some.inj hh;exact h1.hp hq
def RV(mg:Bool→St→St→Option St)(b:Bool):Tr→Tr→Tr
 | .leaf σ1, .leaf σ2=>match mg b σ1 σ2 with
   |some σ=> .leaf σ
   |none=> .br b (.leaf σ1) (.leaf σ2)
 |x,y=> .br b x y
structure MgOk(mg:Bool→St→St→Option St)(P:St→Prop):Prop where
 le: ∀b σ1 σ2 σ,P σ1→P σ2→mg b σ1 σ2=some σ→Le σ (bif b then σ1 else σ2)
 all: ∀b σ1 σ2 σ,P σ1→P σ2→mg b σ1 σ2=some σ→P σ
theorem FH{mg:Bool→St→St→Option St}{P:St→Prop}(hm:MgOk mg P){b:Bool}{x y:Tr}(hx:x.All P)(hy:y.All P):Le (RV mg b x y).st (bif b then x.st else y.st):=by
 unfold RV;split
 ·split
  ·rename_i h;exact hm.le _ _ _ _ hx hy h
  ·exact .rfl
 ·exact .rfl
theorem RW{mg:Bool→St→St→Option St}{P:St→Prop}(hm:MgOk mg P){b:Bool}{x y:Tr}(hx:x.All P)(hy:y.All P):(RV mg b x y).All P:=by
 unfold RV;split
 ·split
  ·rename_i h;exact hm.all _ _ _ _ hx hy h
  ·exact⟨hx,hy⟩
 ·exact⟨hx,hy⟩
def KD(mg:Bool→St→St→Option St)(b:Bool):Option Tr→Option Tr→Option Tr
 |none,t=>t
 |some t,none=>some t
 |some x,some y=>some (RV mg b x y)
def OR(mg:Bool→St→St→Option St)(b:Bool)(o1 o2:O):O:=
 ⟨o1.ex.map (fun e=>(e.1,e.2.1&&b,e.2.2))++o2.ex.map (fun e=>(e.1,e.2.1&&!b,e.2.2)),KD mg b o1.nor o2.nor⟩
theorem KE: ∀{l:List (Ex×Bool×Tr)}{l':List (Ex×Bool×Tr)}{n:Option Tr},(∀e∈l,e.2.1=false)→nX (l++l') n=nX l' n
 |[],l',n,h=>rfl
 |e::r,l',n,h=>by
  have he:=h e (List.mem_cons_self ..);obtain⟨k,b,t⟩:=e;simp only at he;subst he;simp only[List.cons_append,nX,cond_false];exact KE fun e he=>h e (List.mem_cons_of_mem _ he)
theorem RX{l l':List (Ex×Bool×Tr)}{n n':Option Tr}{f:Bool→Bool}(hf: ∀b,f b=b){out:Out}(h:nX l n=some out)(hl: ∀e∈l',e.2.1=false)(hn: ∀t,n=some t→ ∃t',n'=some t'∧Le t'.st t.st):
  ∃out',nX (l.map (fun e=>(e.1,f e.2.1,e.2.2))++l') n'=some out'∧LeOut out' out:=by
 induction l with
 |nil=>
  rw[List.map_nil,List.nil_append];have:=KE (l':=[]) (n:=n') hl;rw[List.append_nil]at this;rw[this];cases n with
  |none=>simp[nX]at h
  |some t=>
   simp only[nX,Option.some.injEq]at h;subst h;obtain⟨t',rfl,ht⟩:=hn t rfl;exact⟨_,rfl, .nor ht⟩
 |cons e r ih=>
  obtain⟨k,b,t⟩:=e;cases b
  ·simp only[nX,cond_false]at h;simp only[List.map_cons,List.cons_append,nX];rw[hf];exact ih h
  ·simp only[nX,cond_true]at h;simp only[List.map_cons,List.cons_append,nX];rw[hf];exact⟨_,h, .refl⟩
theorem FJ{mg:Bool→St→St→Option St}{P:St→Prop}(hm:MgOk mg P){b:Bool}{o1 o2:O}(h1:o1.All P)(h2:o2.All P){out:Out}(h:(bif b then o1.den else o2.den)=some out):
  ∃out',(OR mg b o1 o2).den=some out'∧LeOut out' out:=by
 cases b
 ·simp only[cond_false]at h;unfold O.den OR at*;simp only;rw[KE (by intro e he;obtain⟨e',-,rfl⟩:=List.mem_map.1 he;simp)]
  have:=RX (l':=[]) (n':=KD mg false o1.nor o2.nor) (f:=fun b=>b&&!false) (by simp) h (by simp) (fun t ht=>by
   rw[ht];cases hn:o1.nor with
   |none=>exact⟨t,rfl, .rfl⟩
   |some t1=>exact⟨_,rfl,FH hm (h1.nor _ hn) (h2.nor _ ht)⟩)
  rwa [List.append_nil]at this
 ·simp only[cond_true]at h;unfold O.den OR at*;simp only;exact RX (f:=fun b=>b&&true) (by simp) h (by intro e he;obtain⟨e',-,rfl⟩:=List.mem_map.1 he;simp) (fun t ht=>by
   rw[ht];cases hn:o2.nor with
   |none=>exact⟨t,rfl, .rfl⟩
   |some t2=>exact⟨_,rfl,FH hm (h1.nor _ ht) (h2.nor _ hn)⟩)
theorem X9{mg:Bool→St→St→Option St}{P:St→Prop}(hm:MgOk mg P){b:Bool}{o1 o2:O}(h1:o1.All P)(h2:o2.All P):(OR mg b o1 o2).All P:=by
 constructor
 ·intro e he;simp only[OR,List.mem_append,List.mem_map]at he;rcases he with⟨e',he',rfl⟩|⟨e',he',rfl⟩
  ·exact h1.ex e' he'
  ·exact h2.ex e' he'
 ·intro t ht;simp only[OR]at ht;cases hn1:o1.nor with
  |none=>rw[hn1]at ht;exact h2.nor t ht
  |some t1=>
   cases hn2:o2.nor with
   |none=>rw[hn1,hn2]at ht;obtain rfl:=Option.some.inj ht;exact h1.nor _ hn1
   |some t2=>rw[hn1,hn2]at ht;obtain rfl:=Option.some.inj ht;exact RW hm (h1.nor _ hn1) (h2.nor _ hn2)
def a2L(b:Bool)(σ1 σ2:St):Option St:=xX b none false σ1 σ2
theorem KF:MgOk a2L (fun _=>True):=⟨fun b σ1 σ2 σ _ _ h=>RU (σ0:=σ) h ⟨by simp,by simp⟩ ⟨by simp,by simp⟩,fun _ _ _ _ _ _ _=>trivial⟩
theorem O.All.triv(o:O):o.All fun _=>True:=by
 have: ∀t:Tr,t.All fun _=>True:=by
  intro t
  induction t with
  |leaf=>trivial
  |br b x y ihx ihy=>exact⟨ihx,ihy⟩
 exact⟨fun e _=>this _,fun t _=>this t⟩
def aJH(f:St→Option (O×Bool)):Tr→Option (O×Bool)
 | .leaf σ=>f σ
 | .br b x y=>(aJH f x).bind fun r1=>(aJH f y).bind fun r2=>some (OR a2L b r1.1 r2.1,(r1.2||!b)&&(r2.2||b))
def bEF:List (Ex×Bool×Tr)→Bool→Bool
 |[],ok=>ok
 |e::r,ok=>bEF r ok||e.2.1
def GW(r:O×Bool)(f:St→Option (O×Bool)):Option (O×Bool):=
 match r.1.nor with
 |none=>some r
 |some t=>(aJH f t).bind fun r2=>some (⟨r.1.ex++r2.1.ex,r2.1.nor⟩,r.2&&bEF r.1.ex r2.2)
def RY(f:St→Option (O×Bool))(g:St→Option Out):Prop:= ∀σ σr o,f σ=some (o,true)→Le σ σr→ ∃out0 out,o.den=some out0∧g σr=some out∧LeOut out0 out
theorem HU{f:St→Option (O×Bool)}{g:St→Option Out}(hf:RY f g): ∀{t:Tr}{σr:St}{o:O},aJH f t=some (o,true)→Le t.st σr→ ∃out0 out,o.den=some out0∧g σr=some out∧LeOut out0 out
 | .leaf σ,σr,o,h,hl=>hf σ σr o h hl
 | .br b x y,σr,o,h,hl=>by
   simp only[aJH,Option.bind_eq_some_iff,Option.some.injEq,Prod.mk.injEq,Bool.and_eq_true,Bool.or_eq_true]at h;obtain⟨r1,h1,r2,h2,rfl,k1,k2⟩:=h;cases b
   ·have k:r2.2=true:=by simpa using k2
    obtain⟨out0,out,a1,a2,a3⟩:=HU hf (t:=y) (σr:=σr) (o:=r2.1) (by rw[h2,←k]) hl
    obtain⟨out',b1,b2⟩:=FJ (b:=false) (o1:=r1.1) KF (.triv _) (.triv _) a1;exact⟨out',out,b1,a2,b2.trans a3⟩
   ·have k:r1.2=true:=by simpa using k1
    obtain⟨out0,out,a1,a2,a3⟩:=HU hf (t:=x) (σr:=σr) (o:=r1.1) (by rw[h1,←k]) hl
    obtain⟨out',b1,b2⟩:=FJ (b:=true) (o2:=r2.1) KF (.triv _) (.triv _) a1;exact⟨out',out,b1,a2,b2.trans a3⟩
theorem YA: ∀{l:List (Ex×Bool×Tr)}{ok:Bool}{t:Tr}{out:Out},bEF l ok=true→nX l (some t)=some out→(∃σ,out= .nor σ)→ok=true
 |[],ok,t,out,h,hd,hn=>h
 |(k,b,u)::r,ok,t,out,h,hd,hn=>by
  cases b
  ·simp only[bEF,Bool.or_false]at h;simp only[nX,cond_false]at hd;exact YA h hd hn
  ·simp only[nX,cond_true,Option.some.injEq]at hd;obtain⟨σ,rfl⟩:=hn;cases k<;>simp[Ex.out]at hd
theorem HV: ∀{l:List (Ex×Bool×Tr)}{n:Option Tr}{out:Out},nX l n=some out→(∃k σ,out=Ex.out k σ∧ ∀l' m,nX (l++l') m=some out)∨(∃t,n=some t∧out= .nor t.st∧ ∀l' m,nX (l++l') m=nX l' m)
 |[],none,out,h=>by simp[nX]at h
 |[],some t,out,h=>by
  simp only[nX,Option.some.injEq]at h;exact .inr ⟨t,rfl,h.symm,fun _ _=>rfl⟩
 |(k,b,t)::r,n,out,h=>by
  cases b
  ·simp only[nX,cond_false]at h;simp only[List.cons_append,nX,cond_false];exact HV h
  ·simp only[nX,cond_true,Option.some.injEq]at h;subst h;exact .inl ⟨k,t.st,rfl,fun l' m=>by simp[nX]⟩
theorem OS{r:O×Bool}{f:St→Option (O×Bool)}{g:St→Option Out}(hf:RY f g){o:O}(h:GW r f=some (o,true)){out0 out:Out}(hd:r.2=true→r.1.den=some out0∧LeOut out0 out):
  ∃out0' out',o.den=some out0'∧(match out with| .nor σ=>g σ|o=>some o)=some out'∧LeOut out0' out':=by
 unfold GW at h;split at h
 ·rename_i hn;obtain⟨rfl,hr⟩:r.1=o∧r.2=true:=by
   have:=Option.some.inj h;rw[this];exact⟨rfl,rfl⟩
  obtain⟨hden,hl⟩:=hd hr;refine⟨out0,out,hden,?_,hl⟩;unfold O.den at hden;cases hl with
  |nor hl=>
   rcases HV hden with⟨k,σ,e,-⟩|⟨t,e,-⟩
   ·cases k<;>simp[Ex.out]at e
   ·rw[hn]at e;simp at e
  |brk hl=>rfl
  |ret hl=>rfl
 ·rename_i t hn;simp only[Option.bind_eq_some_iff,Option.some.injEq,Prod.mk.injEq,Bool.and_eq_true]at h;obtain⟨r2,h2,rfl,k1,k2⟩:=h;obtain⟨hden,hl⟩:=hd k1;unfold O.den at hden;rcases HV hden with⟨k,σ,rfl,e⟩|⟨t',e1,rfl,e2⟩
  ·refine⟨Ex.out k σ,out,e _ _,?_,hl⟩;cases k<;>cases hl<;>rfl
  ·rw[hn]at e1 hden;obtain rfl:=Option.some.inj e1;cases hl with
   |nor hl=>
    have hok:=YA k2 hden ⟨_,rfl⟩;obtain⟨o0,o1,a1,a2,a3⟩:=HU hf (t:=t) (o:=r2.1) (by rw[h2,←hok]) hl
    exact⟨o0,o1,by unfold O.den;rw[e2];exact a1,a2,a3⟩
end Go.Zq

namespace Go.Zq
open Option renaming bind_eq_some_iff → qB
open Option.some renaming injEq → qI
open Option.some renaming inj → qi
open Prod.mk renaming injEq → qP
open Go
theorem a2M{a:Option (List Nat)}{q:Bool}{σ0:St}:MgOk a2L (Fr a q σ0) where
 le b σ1 σ2 σ _ _ h:=KF.le b σ1 σ2 σ trivial trivial h
 all b σ1 σ2 σ h1 h2 h:=by
  have hle:=KF.le b σ1 σ2 σ trivial trivial h;cases b
  ·exact⟨fun l hl n v hn hv=>h2.sl l hl n v hn (hle.sl n v hv),fun hq=>hle.hp.symm.trans (h2.hp hq)⟩
  ·exact⟨fun l hl n v hn hv=>h1.sl l hl n v hn (hle.sl n v hv),fun hq=>hle.hp.symm.trans (h1.hp hq)⟩
def unO(a b:Option (List Nat)):Option (List Nat):=
 match a,b with
 |some x,some y=>some (x++y)
 |_,_=>none
def HW:C→Option (List Nat)
 | .ops l _=>some (l.flatMap fun g=>g.2.dsts)
 | .seq x y=>unO (HW x) (HW y)
 | .cond _ x y=>unO (HW x) (HW y)
 | .blk _ x=>HW x
 | .loop _ _=>none
 | .drw (l::_) _ false=>some (l.flatMap fun g=>g.2.dsts)
 | .drw _ _ _=>none
 |_=>some []
def rD:C→Bool
 | .ops l _=>l.all fun g=>rC g.2
 | .seq x y=>rD x&&rD y
 | .cond _ x y=>rD x&&rD y
 | .blk _ x=>rD x
 | .loop _ _=>false
 | .drw .. =>false
 |_=>true
theorem Fr.rfl{a:Option (List Nat)}{q:Bool}{σ:St}:Fr a q σ σ:=⟨fun _ _ _ _ _ h=>h,fun _=>Eq.refl _⟩
theorem Fr.left{a b:Option (List Nat)}{q r:Bool}{σ τ:St}(h:Fr a q σ τ):Fr (unO a b) (q&&r) σ τ:=⟨fun l hl n v hn hv=>by
 unfold unO at hl;split at hl
 ·obtain rfl:=qi hl;simp only[List.mem_append,not_or]at hn;exact h.sl _ (Eq.refl _) n v hn.1 hv
 ·simp at hl,fun hq=>h.hp (by simp at hq;exact hq.1)⟩
theorem Fr.right{a b:Option (List Nat)}{q r:Bool}{σ τ:St}(h:Fr b r σ τ):Fr (unO a b) (q&&r) σ τ:=⟨fun l hl n v hn hv=>by
 unfold unO at hl;split at hl
 ·obtain rfl:=qi hl;simp only[List.mem_append,not_or]at hn;exact h.sl _ (Eq.refl _) n v hn.2 hv
 ·simp at hl,fun hq=>h.hp (by simp at hq;exact hq.2)⟩
theorem Fr.trans{a b:Option (List Nat)}{q r:Bool}{σ τ ω:St}(h:Fr a q σ τ)(k:Fr b r τ ω):Fr (unO a b) (q&&r) σ ω:=⟨fun l hl n v hn hv=>by
 unfold unO at hl;split at hl
 ·obtain rfl:=qi hl;simp only[List.mem_append,not_or]at hn;exact h.sl _ (Eq.refl _) n v hn.1 (k.sl _ (Eq.refl _) n v hn.2 hv)
 ·simp at hl,fun hq=>by
 simp only[Bool.and_eq_true]at hq;exact(k.hp hq.2).trans (h.hp hq.1)⟩
theorem RZ{a:Option (List Nat)}{q:Bool}{σ0:St}{f:St→Option (O×Bool)}: ∀{t:Tr}{r:O×Bool},(∀σ r,f σ=some r→t.All (fun _=>True)→r.1.All (Fr a q σ))→aJH f t=some r→ ∀{a0:Option (List Nat)}{q0:Bool},t.All (Fr a0 q0 σ0)→r.1.All (Fr (unO a0 a) (q0&&q) σ0)
 | .leaf σ,r,hf,h,a0,q0,ht=>(hf σ r h trivial).mono fun τ hτ=>Fr.trans ht hτ
 | .br b x y,r,hf,h,a0,q0,ht=>by
   have htr: ∀t:Tr,t.All fun _=>True:=by
    intro t
    induction t with
    |leaf=>trivial
    |br b x y ihx ihy=>exact⟨ihx,ihy⟩
   simp only[aJH,qB,qI]at h;obtain⟨r1,h1,r2,h2,rfl⟩:=h;exact X9 a2M (RZ (fun σ r h _=>hf σ r h (htr _)) h1 ht.1) (RZ (fun σ r h _=>hf σ r h (htr _)) h2 ht.2)
theorem aYI{a a0:Option (List Nat)}{q q0:Bool}{σ0:St}{f:St→Option (O×Bool)}{r r':O×Bool}(hf: ∀σ r,f σ=some r→r.1.All (Fr a q σ))(hr:r.1.All (Fr a0 q0 σ0))(h:GW r f=some r'):r'.1.All (Fr (unO a0 a) (q0&&q) σ0):=by
 unfold GW at h;split at h
 ·obtain rfl:=qi h;exact hr.mono fun _ h=>h.left
 ·rename_i t hn;simp only[qB,qI]at h;obtain⟨r2,h2,rfl⟩:=h;have h3:=RZ (fun σ r h _=>hf σ r h) h2 (hr.nor t hn)
  refine⟨fun e he=>?_,h3.nor⟩
  simp only[List.mem_append]at he;rcases he with he|he
  ·exact(hr.ex e he).mono fun _ h=>h.left
  ·exact h3.ex e he
def v7(mg:Bool→St→St→Option St)(id:Nat):List (Ex×Bool×Tr)→Option Tr→List (Ex×Bool×Tr)×Option Tr
 |[],n=>([],n)
 |(k,p,t)::r,n=>
  match k with
  | .ret=>let q:=v7 mg id r n;((.ret,p,t)::q.1,q.2)
  | .brk j=>
    if j=id then let q:=v7 mg id r n;(q.1.map (fun e=>(e.1,e.2.1&&!p,e.2.2)),KD mg p (some t) q.2)
    else let q:=v7 mg id r n;((.brk j,p,t)::q.1,q.2)
def yE(id:Nat):Out→Out
 | .brk j σ=>if j=id then .nor σ else .brk j σ
 |o=>o
theorem MD{mg:Bool→St→St→Option St}{P:St→Prop}(hm:MgOk mg P){id:Nat}: ∀{l:List (Ex×Bool×Tr)}{n:Option Tr},(O.mk l n).All P→(O.mk (v7 mg id l n).1 (v7 mg id l n).2).All P
 |[],n,h=>h
 |(k,p,t)::r,n,h=>by
  have ih:=MD hm (id:=id) (l:=r) (n:=n) ⟨fun e he=>h.ex e (List.mem_cons_of_mem _ he),h.nor⟩
  have ht:t.All P:=h.ex _ (List.mem_cons_self ..);unfold v7;split
  ·refine⟨fun e he=>?_,ih.nor⟩
   simp only[List.mem_cons]at he;rcases he with rfl|he
   ·exact ht
   ·exact ih.ex e he
  ·split
   ·refine⟨fun e he=>?_,fun u hu=>?_⟩
    ·obtain⟨e',he',rfl⟩:=List.mem_map.1 he;exact ih.ex e' he'
    ·simp only at hu;cases hn:(v7 mg id r n).2 with
     |none=>rw[hn]at hu;obtain rfl:=qi hu;exact ht
     |some t2=>rw[hn]at hu;obtain rfl:=qi hu;exact RW hm ht (ih.nor _ hn)
   ·refine⟨fun e he=>?_,ih.nor⟩
    simp only[List.mem_cons]at he;rcases he with rfl|he
    ·exact ht
    ·exact ih.ex e he
theorem YB{mg:Bool→St→St→Option St}{P:St→Prop}(hm:MgOk mg P){id:Nat}: ∀{l:List (Ex×Bool×Tr)}{n:Option Tr}{out:Out},(O.mk l n).All P→nX l n=some out→ ∃out',nX (v7 mg id l n).1 (v7 mg id l n).2=some out'∧LeOut out' (yE id out)
 |[],none,out,h,hd=>by simp[nX]at hd
 |[],some t,out,h,hd=>by
  simp only[nX,qI]at hd;subst hd;exact⟨_,rfl, .refl⟩
 |(k,p,t)::r,n,out,h,hd=>by
  have hr:(O.mk r n).All P:=⟨fun e he=>h.ex e (List.mem_cons_of_mem _ he),h.nor⟩
  have ha:=MD hm (id:=id) hr;have ht:t.All P:=h.ex _ (List.mem_cons_self ..);unfold v7;cases p
  ·simp only[nX,cond_false]at hd;obtain⟨out',i1,i2⟩:=YB hm (id:=id) hr hd;split
   ·exact⟨out',by simp only[nX,cond_false];exact i1,i2⟩
   ·split
    ·simp only;have:=RX (l':=[]) (n':=KD mg false (some t) (v7 mg id r n).2) (f:=fun b=>b&&!false) (by simp) i1 (by simp) (fun u hu=>by
      rw[hu];exact⟨_,rfl,FH (b:=false) hm ht (ha.nor _ hu)⟩)
     rw[List.append_nil]at this;obtain⟨o2,j1,j2⟩:=this;exact⟨o2,j1,j2.trans i2⟩
    ·exact⟨out',by simp only[nX,cond_false];exact i1,i2⟩
  ·simp only[nX,cond_true,qI]at hd;subst hd;split
   ·exact⟨_,rfl, .refl⟩
   ·rename_i j;split
    ·rename_i e;subst e;simp only;have:=KE (l:=(v7 mg j r n).1.map (fun e=>(e.1,e.2.1&&!true,e.2.2))) (l':=[]) (n:=KD mg true (some t) (v7 mg j r n).2) (by intro e he;obtain⟨e',-,rfl⟩:=List.mem_map.1 he;simp)
     rw[List.append_nil]at this;rw[this];simp only[Ex.out,yE,if_true];cases hn:(v7 mg j r n).2 with
     |none=>exact⟨_,rfl, .refl⟩
     |some t2=>exact⟨_,rfl, .nor (FH (b:=true) hm ht (ha.nor _ hn))⟩
    ·rename_i e;refine⟨.brk j t.st,rfl,?_⟩;simp only[Ex.out,yE,e,if_false];exact .refl
def YC(nb:Nat)(live:List Nat)(f:St→Option (O×Bool)):Nat→St→Option (O×Bool)
 |0,_=>some (⟨[],none⟩,false)
 |n+1,σ=>(MA true nb live σ).bind fun c=>(f c.1).bind fun r=>(GW r (YC nb live f n)).bind fun o=>some (o.1,c.2&&o.2)
def bWV(cl:List Nat):Opd→Bool
 | .t n=>cl.contains n
 | .c _=>true
abbrev Lq:=List Nat→St→Option (O×Bool)
def lqN:Lq:=fun _ _=>none
def eS(T:List Nat→C→Prop):C→Prop
 | .seq x y=>eS T x∧eS T y
 | .cond _ x y=>eS T x∧eS T y
 | .blk _ x=>eS T x
 | .loop live x=>T live x∧eS T x
 |_=>True
noncomputable def same{α:Type}(a b:α):Bool:= @decide (a=b) (Classical.propDecidable _)
theorem pN{α:Type}{a b:α}(h:same a b=true):a=b:=by
 unfold same at h;exact @of_decide_eq_true _ (Classical.propDecidable _) h
theorem mE{α:Type}(a:α):same a a=true:=by
 unfold same;exact @decide_eq_true _ (Classical.propDecidable _) rfl
noncomputable def R0(a b:List Row):Bool:=same a b
theorem aJI(a:List Row):R0 a a=true:=mE a
noncomputable def eqV:Value→Value→Bool
 | .int k x, .int k' y=>decide (k=k')&&same x y
 | .bool x, .bool y=>same x y
 | .string x, .string y=>same x y
 |v,u=>same v u
theorem bNW{v u:Value}(h:eqV v u=true):v=u:=by
 unfold eqV at h;split at h
 ·obtain⟨h1,h2⟩:=aS h;rw[of_decide_eq_true h1,pN h2]
 ·rw[pN h]
 ·rw[pN h]
 ·exact pN h
noncomputable def eqT:T→T→Bool
 | .lit v, .lit u=>eqV v u
 | .ptr i r o, .ptr i' r' o'=>Nat.beq i i'&&(Nat.beq r r'&&Nat.beq o o')
 | .sl i o l, .sl i' o' l'=>Nat.beq i i'&&(Nat.beq o o'&&same l l')
 | .nls n, .nls m=>Nat.beq n m
 | .imm p n r, .imm p' n' r'=>same p p'&&(Nat.beq n n'&&R0 r r')
 | .clo f c, .clo f' c'=>Nat.beq f f'&&same c c'
 |t,u=>same t u
theorem a2O{v u:T}(h:eqT v u=true):v=u:=by
 unfold eqT at h;split at h
 ·rw[bNW h]
 ·obtain⟨h1,h2⟩:=aS h;obtain⟨h2,h3⟩:=aS h2;rw[Nat.eq_of_beq_eq_true h1,Nat.eq_of_beq_eq_true h2,Nat.eq_of_beq_eq_true h3]
 ·obtain⟨h1,h2⟩:=aS h;obtain⟨h2,h3⟩:=aS h2;rw[Nat.eq_of_beq_eq_true h1,Nat.eq_of_beq_eq_true h2,pN h3]
 ·rw[Nat.eq_of_beq_eq_true h]
 ·obtain⟨h1,h2⟩:=aS h;obtain⟨h2,h3⟩:=aS h2;rw[pN h1,Nat.eq_of_beq_eq_true h2,pN h3]
 ·obtain⟨h1,h2⟩:=aS h;rw[Nat.eq_of_beq_eq_true h1,pN h2]
 ·exact pN h
noncomputable def aYJ:Row→Row→Bool
 |[],[]=>true
 |t::r,u::s=>eqT t u&&aYJ r s
 |_,_=>false
theorem Z1: ∀{v u:Row},aYJ v u=true→v=u
 |[],[],_=>rfl
 |t::r,u::s,h=>by
  obtain⟨h1,h2⟩:=aS h;rw[a2O h1,Z1 h2]
 |[],_::_,h=>by simp[aYJ]at h
 |_::_,[],h=>by simp[aYJ]at h
noncomputable def bNX:SV→SV→Bool
 | .und, .und=>true
 | .one t, .one u=>eqT t u
 | .agg t, .agg u=>aYJ t u
 |v,u=>same v u
theorem bEG{v u:SV}(h:bNX v u=true):v=u:=by
 unfold bNX at h;split at h
 ·rfl
 ·rw[a2O h]
 ·rw[Z1 h]
 ·exact pN h
noncomputable def a2P:List (Nat×SV)→List (Nat×SV)→Bool
 |[],[]=>true
 |(n,v)::r,(m,u)::s=>Nat.beq n m&&(bNX v u&&a2P r s)
 |_,_=>false
theorem aQO: ∀{v u:List (Nat×SV)},a2P v u=true→v=u
 |[],[],_=>rfl
 |(n,v)::r,(m,u)::s,h=>by
  obtain⟨h1,h2⟩:=aS h;obtain⟨h2,h3⟩:=aS h2;rw[Nat.eq_of_beq_eq_true h1,bEG h2,aQO h3]
 |[],_::_,h=>by simp[a2P]at h
 |_::_,[],h=>by simp[a2P]at h
noncomputable def a2Q:Blk→Blk→Bool
 | .dead, .dead=>true
 | .box t, .box u=>aYJ t u
 | .lst n t, .lst m u=>Nat.beq n m&&R0 t u
 |v,u=>same v u
theorem a2R{v u:Blk}(h:a2Q v u=true):v=u:=by
 unfold a2Q at h;split at h
 ·rfl
 ·rw[Z1 h]
 ·obtain⟨h1,h2⟩:=aS h;rw[Nat.eq_of_beq_eq_true h1,pN h2]
 ·exact pN h
noncomputable def a2S:List Blk→List Blk→Bool
 |[],[]=>true
 |t::r,u::s=>a2Q t u&&a2S r s
 |_,_=>false
theorem aQP: ∀{v u:List Blk},a2S v u=true→v=u
 |[],[],_=>rfl
 |t::r,u::s,h=>by
  obtain⟨h1,h2⟩:=aS h;rw[a2R h1,aQP h2]
 |[],_::_,h=>by simp[a2S]at h
 |_::_,[],h=>by simp[a2S]at h
noncomputable def bWW(σ τ:St):Bool:=a2P σ.sl τ.sl&&a2S σ.hp τ.hp
theorem bEH{σ τ:St}(h:bWW σ τ=true):σ=τ:=by
 obtain⟨h1,h2⟩:=aS h;cases σ;cases τ;simp only at h1 h2;rw[aQO h1,aQP h2]
def bEI(nb:Nat)(kp:List Nat)(cn:Bool)(σ:St):Option (St×Bool):=
 if cn=true then
  if kp.contains 999998=true then if((kp.filter (·!=999998)).all fun n=>(bH n σ.sl).isSome)=true then(ZG nb (trim (some (kp.filter (·!=999998))) σ)).bind fun c=>some (c,true)else none
  else MA true nb kp σ
 else if(kp.all fun n=>(bH n σ.sl).isSome)=true then some (trim (some kp) σ,true)else none
theorem R1{σ σr:St}(hl:Le σ σr): ∀{kp:List Nat},(kp.all fun n=>(bH n σ.sl).isSome)=true→keep σr.sl kp=keep σ.sl kp∧(kp.all fun n=>(bH n σr.sl).isSome)=true
 |[],_=>⟨rfl,rfl⟩
 |n::r,h=>by
  simp only[List.all_cons,Bool.and_eq_true]at h;obtain⟨h1,h2⟩:=h;obtain⟨v,hv⟩:=Option.isSome_iff_exists.1 h1;have hr:=hl.sl n v hv;obtain⟨i1,i2⟩:=R1 hl h2;constructor
  ·simp only[keep,hv,hr,i1]
  ·simp only[List.all_cons,hr,i2];rfl
noncomputable def KG(Q:Qt)(kd:List (Nat×List Kd))(nb:Nat)(kp:List Nat)(cn:Bool):List (List G)→St→Option (St×Bool)
 |[],_=>none
 |l::r,σ=>
  match(xV (2*l.length+2) none l).2 with
  |[]=>(evI Q kd (xV (2*l.length+2) none l).1 σ).bind fun x=>(bEI nb kp cn x.1).bind fun c=>match r with
   |[]=>some (c.1,x.2&&c.2)
   |_::_=>(KG Q kd nb kp cn r σ).bind fun c'=>some (c.1,(x.2&&c.2)&&(c'.2&&bWW c'.1 c.1))
  |_::_=>none
noncomputable def LR(Q:Qt)(kd:List (Nat×List Kd))(cl:List Nat)(lq:Lq)(nb n:Nat):C→St→Option (O×Bool)
 | .drw ls kp cn,σ=>(KG Q kd nb kp cn ls σ).bind fun r=>some (⟨[],some (.leaf r.1)⟩,r.2)
 | .ops l kp,σ=>
   match(xV (2*l.length+2) none l).2 with
   |[]=>(evI Q kd (xV (2*l.length+2) none l).1 σ).bind fun r=>some (⟨[],some (.leaf (trim kp r.1))⟩,r.2)
   |_::_=>none
 | .seq x y,σ=>(LR Q kd cl lq nb n x σ).bind fun r=>GW r (LR Q kd cl lq nb n y)
 | .cond c x y,σ=>(σ.ev c).bind fun v=>(asBool v).bind fun b=>
   if bWV cl c=true then match b with
    |true=>LR Q kd cl lq nb n x σ
    |false=>LR Q kd cl lq nb n y σ
   else(LR Q kd cl lq nb n x σ).bind fun r1=>(LR Q kd cl lq nb n y σ).bind fun r2=>
    some (OR (fun b=>xX b (unO (HW x) (HW y)) (rD x&&rD y)) b r1.1 r2.1,(r1.2||!b)&&(r2.2||b))
 | .blk id x,σ=>(LR Q kd cl lq nb n x σ).bind fun r=>
   let q:=v7 (fun b=>xX b (HW x) (rD x)) id r.1.ex r.1.nor
   some (⟨q.1,q.2⟩,r.2)
 | .loop live x,σ=>match lq live σ with
   |some r=>some r
   |none=>YC nb live (LR Q kd cl lq nb n x) n σ
 | .brk id,σ=>some (⟨[(.brk id,true, .leaf σ)],none⟩,true)
 | .ret,σ=>some (⟨[(.ret,true, .leaf σ)],none⟩,true)
 | .skip,σ=>some (⟨[],some (.leaf σ)⟩,true)
theorem v8{a:Option (List Nat)}{q:Bool}{σ0:St}:MgOk (fun b=>xX b a q) (Fr a q σ0) where
 le b σ1 σ2 σ h1 h2 h:=RU h h1 h2
 all b σ1 σ2 σ h1 h2 h:=aJG h h1
theorem xY{n:Nat}{v:SV}{sl:List (Nat×SV)}: ∀{l:List Nat},bH n (keep sl l)=some v→n∈l∧bH n sl=some v
 |[],h=>by simp[keep,bH]at h
 |m::r,h=>by
  unfold keep at h;split at h
  ·rename_i u hu;simp only[bH]at h;split at h
   ·rename_i e;subst e;obtain rfl:=qi h;exact⟨List.mem_cons_self ..,hu⟩
   ·have:=xY h;exact⟨List.mem_cons_of_mem _ this.1,this.2⟩
  ·have:=xY h;exact⟨List.mem_cons_of_mem _ this.1,this.2⟩
theorem R2{n:Nat}{v:SV}{sl:List (Nat×SV)}: ∀{l:List Nat},n∈l→bH n sl=some v→bH n (keep sl l)=some v
 |m::r,hm,h=>by
  unfold keep;by_cases e:m=n
  ·subst e;rw[h];simp[bH]
  ·have hr:n∈r:=by
    rcases List.mem_cons.1 hm with h|h
    ·exact absurd h.symm e
    ·exact h
   split
   ·simp only[bH,e,if_false];exact R2 hr h
   ·exact R2 hr h
theorem aQQ{kp:Option (List Nat)}{σ σr:St}(h:Le σ σr):Le (trim kp σ) (trim kp σr):=by
 cases kp with
 |none=>exact h
 |some l=>exact⟨fun n v hn=>by
   have:=xY hn;exact R2 this.1 (h.sl n v this.2),h.hp⟩
theorem aGH{kp:Option (List Nat)}{σ:St}{n:Nat}{v:SV}(h:bH n (trim kp σ).sl=some v):bH n σ.sl=some v:=by
 cases kp with
 |none=>exact h
 |some l=>exact(xY h).2
theorem bEJ{kp:Option (List Nat)}{σ:St}:(trim kp σ).hp=σ.hp:=by cases kp<;>rfl
theorem zY{n:Nat}: ∀{its:Its}{g:Option (Nat×Bool)},(∀x∈its.flat g,n∉x.2.dsts)→n∉its.dsts
 | .nil,g,h=>by simp[Its.dsts]
 | .op k r,g,h=>by
   simp only[Its.flat,List.mem_cons,forall_eq_or_imp]at h;simp only[Its.dsts,List.mem_append,not_or];exact⟨h.1,zY h.2⟩
 | .iff s w its d a b r,g,h=>by
   simp only[Its.flat,List.mem_append,List.mem_cons]at h;simp only[Its.dsts,List.mem_append,List.mem_cons,not_or];refine⟨zY fun x hx=>h x (.inl hx),?_,zY fun x hx=>h x (.inr (.inr hx))⟩
   have:=h _ (.inr (.inl rfl));simpa [K.dsts,K.dst]using this
theorem A3: ∀{its:Its}{g:Option (Nat×Bool)},(∀x∈its.flat g,rC x.2=true)→its.quiet=true
 | .nil,g,h=>rfl
 | .op k r,g,h=>by
   simp only[Its.flat,List.mem_cons,forall_eq_or_imp]at h;simp only[Its.quiet,Bool.and_eq_true];exact⟨h.1,A3 h.2⟩
 | .iff s w its d a b r,g,h=>by
   simp only[Its.flat,List.mem_append,List.mem_cons]at h;simp only[Its.quiet,Bool.and_eq_true];exact⟨A3 fun x hx=>h x (.inl hx),A3 fun x hx=>h x (.inr (.inr hx))⟩
theorem zZ{n:Nat}{l:List G}(h:(xV n none l).2=[]):(xV n none l).1.flat none=l:=by
 have:=A0 n none l
 rwa [h,List.append_nil]at this
theorem aGI{Q:Qt}{kd:List (Nat×List Kd)}{nb:Nat}{kp:List Nat}{l:List G}{r:List (List G)}{σ:St}{c:St×Bool}(h:KG Q kd nb kp false (l::r) σ=some c)(n:Nat)(v:SV)(hn:n∉l.flatMap fun g=>g.2.dsts)(hv:bH n c.1.sl=some v):
  bH n σ.sl=some v:=by
 unfold KG at h;split at h
 ·rename_i hp;simp only[qB]at h;obtain⟨i,hi,x,hx,h⟩:=h;have hc:c.1=x.1:=by
   split at h
   ·obtain rfl:=qi h;rfl
   ·simp only[qB,qI]at h;obtain⟨_,_,rfl⟩:=h;rfl
  rw[hc]at hv;unfold bEI at hx;rw[if_neg (by simp)]at hx
  obtain⟨-,hx1⟩:=bQ hx;obtain rfl:=qi hx1;have hf:=zZ hp;refine FE hi n v (zY (g:=none) fun x hx=>?_) (aGH hv)
  rw[hf]at hx;exact fun e=>hn (List.mem_flatMap.2 ⟨x,hx,e⟩)
 ·simp at h
theorem sU{Q:Qt}{kd:List (Nat×List Kd)}{cl:List Nat}{lq:Lq}{nb n:Nat}: ∀{c:C}{σ:St}{r:O×Bool},LR Q kd cl lq nb n c σ=some r→r.1.All (Fr (HW c) (rD c) σ)
 | .drw ls kp cn,σ,r,h=>by
   simp only[LR,qB,qI]at h;obtain⟨c,hc,rfl⟩:=h;refine⟨by simp,fun t ht=>?_⟩
   obtain rfl:=qi ht;refine⟨fun l' hl' m v hm hv=>?_,fun hq=>by simp[rD]at hq⟩
   cases ls with
   |nil=>simp[KG]at hc
   |cons l ls=>
    cases cn with
    |true=>simp[HW]at hl'
    |false=>
     simp only[HW,qI]at hl';subst hl';exact aGI hc m v hm hv
 | .ops l kp,σ,r,h=>by
   unfold LR at h;split at h
   ·rename_i hp;simp only[qB,qI]at h;obtain⟨i,hi,rfl⟩:=h;have hf:=zZ hp;refine⟨by simp,fun t ht=>?_⟩
    obtain rfl:=qi ht;refine⟨fun l' hl' m v hm hv=>?_,fun hq=>?_⟩
    ·simp only[HW,qI]at hl';subst hl';refine FE hi m v (zY (g:=none) fun x hx=>?_) (aGH hv)
     rw[hf]at hx;exact fun e=>hm (List.mem_flatMap.2 ⟨x,hx,e⟩)
    ·rw[bEJ];refine FF (A3 (g:=none) fun x hx=>?_) hi
     rw[hf]at hx;simp only[rD,List.all_eq_true]at hq;exact hq x hx
   ·simp at h
 | .seq x y,σ,r,h=>by
   simp only[LR,qB]at h;obtain⟨r1,h1,h2⟩:=h;exact aYI (fun σ r h=>sU h) (sU h1) h2
 | .cond c x y,σ,r,h=>by
   simp only[LR,qB]at h;obtain⟨v,hv,b,hb,h⟩:=h;split at h
   ·split at h
    ·exact(sU h).mono fun _ h=>h.left
    ·exact(sU h).mono fun _ h=>h.right
   ·simp only[qB,qI]at h;obtain⟨r1,h1,r2,h2,rfl⟩:=h;exact X9 v8 ((sU h1).mono fun _ h=>h.left) ((sU h2).mono fun _ h=>h.right)
 | .blk id x,σ,r,h=>by
   simp only[LR,qB,qI]at h;obtain⟨r1,h1,rfl⟩:=h;have h2:=MD (v8 (a:=HW x) (q:=rD x)) (id:=id) (sU (c:=x) h1);exact h2
 | .loop live x,σ,r,h=>by
   have htr: ∀t:Tr,t.All (Fr none false σ):=by
    intro t
    induction t with
    |leaf=>exact⟨by simp,by simp⟩
    |br b x y ihx ihy=>exact⟨ihx,ihy⟩
   exact⟨fun e _=>htr _,fun t _=>htr t⟩
 | .brk id,σ,r,h=>by
   simp only[LR,qI]at h;subst h;exact⟨fun e he=>by simp only[List.mem_singleton]at he;subst he;exact Fr.rfl,by simp⟩
 | .ret,σ,r,h=>by
   simp only[LR,qI]at h;subst h;exact⟨fun e he=>by simp only[List.mem_singleton]at he;subst he;exact Fr.rfl,by simp⟩
 | .skip,σ,r,h=>by
   simp only[LR,qI]at h;subst h;exact⟨by simp,fun t ht=>by obtain rfl:=qi ht;exact Fr.rfl⟩
theorem C6{nb:Nat}{live:List Nat}{σ σr σ':St}(h:canon nb live σ=some σ')(hl:Le σ σr):canon nb live σr=some σ':=by
 have h0: ∃src m,∃r,lE σ src m live=some r:=by
  unfold canon at h;simp only at h;split at h
  ·simp only[qB]at h;obtain⟨x,hx,s,hs,h⟩:=h;exact⟨_,_,_,hs⟩
  ·simp at h
 have hlook: ∀s∈live,bH s σr.sl=bH s σ.sl:=by
  obtain⟨src,m,r,h0⟩:=h0
  clear h
  induction live generalizing m r with
  |nil=>simp
  |cons s t ih=>
   simp only[lE,qB]at h0;obtain⟨v,hv,h0⟩:=h0;intro s' hs';rcases List.mem_cons.1 hs' with rfl|hs'
   ·rw[hv,hl.sl _ _ hv]
   ·split at h0
    ·simp only[qB]at h0;obtain⟨x,hx,l,h0,-⟩:=h0;exact ih _ _ h0 _ hs'
    ·simp only[qB]at h0;obtain⟨x,hx,l,h0,-⟩:=h0;exact ih _ _ h0 _ hs'
    ·simp only[qB]at h0;obtain⟨l,h0,-⟩:=h0;exact ih _ _ h0 _ hs'
    ·simp at h0
 have hc: ∀live,(∀s∈live,bH s σr.sl=bH s σ.sl)→oG σr live=oG σ live:=by
  intro live
  induction live with
  |nil=>intro _;rfl
  |cons s t ih=>
   intro h;have:=ih fun s' hs'=>h s' (List.mem_cons_of_mem _ hs')
   unfold oG at*;rw[List.flatMap_cons,List.flatMap_cons,this,h s (List.mem_cons_self ..)]
 have hs: ∀live src m,(∀s∈live,bH s σr.sl=bH s σ.sl)→lE σr src m live=lE σ src m live:=by
  intro live
  induction live with
  |nil=>intro _ _ _;rfl
  |cons s t ih=>
   intro src m h;have:=fun m=>ih src m fun s' hs'=>h s' (List.mem_cons_of_mem _ hs')
   unfold lE;rw[h s (List.mem_cons_self ..)];simp only[this]
 rw[←h];unfold canon;simp only[hc live hlook,hl.hp,hs live _ _ hlook]
theorem OT{nb:Nat}{live:List Nat}{f:St→Option (O×Bool)}{g:St→Option Out}(hf:RY f g): ∀n,RY (YC nb live f n) (AL nb live g n)
 |0=>fun σ σr o h hl=>by simp[YC]at h
 |n+1=>fun σ σr o h hl=>by
  simp only[YC,qB,qI,qP]at h;obtain⟨σ1,h1,r,hr,o2,h2,rfl,ho⟩:=h;obtain⟨ok1,ok2⟩:=aS ho;have hc:=C6 (FA (σ':=σ1.1) (by rw[h1,←ok1])) hl
  have h2':GW r (YC nb live f n)=some (o2.1,true):=by rw[h2,←ok2]
  simp only[AL,hc,Option.bind_some];have hr2:r.2=true:=by
   unfold GW at h2';split at h2'
   ·rw[qi h2']
   ·simp only[qB,qI,qP,Bool.and_eq_true]at h2';obtain⟨_,_,_,h,_⟩:=h2';exact h
  obtain⟨out0,out,a1,a2,a3⟩:=hf σ1.1 σ1.1 r.1 (by rw[hr,←hr2]) .rfl
  obtain⟨o0,o1,b1,b2,b3⟩:=OS (OT hf n) h2' (fun _=>⟨a1,a3⟩)
  refine⟨o0,o1,b1,?_,b3⟩;rw[a2,Option.bind_some,←b2];cases out<;>rfl
theorem a2T{r r':O×Bool}{f:St→Option (O×Bool)}(h:GW r f=some r')(hr:r'.2=true):r.2=true:=by
 unfold GW at h;split at h
 ·rw[qi h,hr]
 ·simp only[qB,qI]at h;obtain⟨_,_,h⟩:=h;subst h;simp only[Bool.and_eq_true]at hr;exact hr.1
theorem aQR{nb:Nat}{kp:List Nat}{cn:Bool}{σ σr c:St}(h:bEI nb kp cn σ=some (c,true))(hl:Le σ σr):B5 nb kp cn σr=some c:=by
 unfold bEI at h;unfold B5;split at h
 ·rename_i e;rw[if_pos e];split at h
  ·rename_i e1;rw[if_pos e1];obtain⟨h1,h2⟩:=bQ h;obtain⟨k1,k2⟩:=R1 hl h1;rw[if_pos k2];simp only[qB,qI,qP,and_true]at h2;obtain⟨c',hc,rfl⟩:=h2;rw[←hc];simp only[trim,k1,hl.hp]
  ·rename_i e1;rw[if_neg e1];exact C6 (FA h) hl
 ·rename_i e;rw[if_neg e];obtain⟨h1,h2⟩:=bQ h;obtain⟨k1,k2⟩:=R1 hl h1;rw[if_pos k2];simp only[qI,qP,and_true]at h2;rw[←h2];simp only[trim,k1,hl.hp]
theorem C7{R:Rt}{Q:Qt}(hQ:X2 (cY R) Q){kd:List (Nat×List Kd)}{nb:Nat}{kp:List Nat}{cn:Bool}{σ σr:St}(hl:Le σ σr): ∀{ls:List (List G)}{c:St},KG Q kd nb kp cn ls σ=some (c,true)→oY R nb kp cn ls σr=some c
 |[],c,h=>by simp[KG]at h
 |l::r,c,h=>by
  unfold KG at h;split at h
  case h_2=>simp at h
  rename_i hp;simp only[qB]at h;obtain⟨i,hi,x,hx,h⟩:=h;have run:i.2=true→ ∃τ,dU R l σr=some τ∧Le i.1 τ:=fun ho=>by
   obtain⟨τ,h1,h2⟩:=FG hQ (g:=none) (by rw[hi,←ho]) hl (fun s w e=>by simp at e) (fun s w e=>by simp at e)
   rw[zZ hp]at h1;exact⟨τ,h1,h2⟩
  cases r with
  |nil=>
   simp only[qI,qP]at h;obtain⟨rfl,ho⟩:=h;obtain⟨o1,o2⟩:=aS ho;obtain⟨τ,h1,h2⟩:=run o1;simp only[oY,h1,Option.bind_some];rw[aQR (c:=x.1) (by rw[hx,←o2]) h2]
   rfl
  |cons m r=>
   simp only[qB,qI,qP]at h;obtain⟨c',hc',rfl,ho⟩:=h;obtain⟨o1,o2⟩:=aS ho;obtain⟨o1,o3⟩:=aS o1;obtain⟨o2,o4⟩:=aS o2;obtain⟨τ,h1,h2⟩:=run o1;have h3:=C7 hQ hl (ls:=m::r) (c:=c'.1) (by rw[hc',←o2])
   unfold oY;rw[h1,Option.bind_some,aQR (c:=x.1) (by rw[hx,←o3]) h2,Option.bind_some]
   simp only;rw[h3,Option.bind_some,if_pos (bEH o4)]
theorem oK{R:Rt}{Q:Qt}(hQ:X2 (cY R) Q){kd:List (Nat×List Kd)}{cl:List Nat}{lq:Lq}{nb n:Nat}: ∀{c:C},eS (fun live x=>RY (lq live) (eY R nb n (.loop live x))) c→RY (LR Q kd cl lq nb n c) (eY R nb n c)
 | .drw ls kp cn,hL=>fun σ σr o h hl=>by
   simp only[LR,qB,qI,qP]at h;obtain⟨c,hc,rfl,ho⟩:=h;have:=C7 hQ hl (c:=c.1) (by rw[hc,←ho])
   exact⟨.nor c.1, .nor c.1,rfl,by simp[eY,this], .nor .rfl⟩
 | .ops l kp,hL=>fun σ σr o h hl=>by
   unfold LR at h;split at h
   ·rename_i hp;simp only[qB,qI,qP]at h;obtain⟨i,hi,rfl,ho⟩:=h;obtain⟨τ,h1,h2⟩:=FG hQ (g:=none) (by rw[hi,←ho]) hl (fun s w e=>by simp at e) (fun s w e=>by simp at e)
    rw[zZ hp]at h1;exact⟨.nor (trim kp i.1), .nor (trim kp τ),rfl,by simp[eY,h1], .nor (aQQ h2)⟩
   ·simp at h
 | .seq x y,hL=>fun σ σr o h hl=>by
   simp only[LR,qB]at h;obtain⟨r,hr,h⟩:=h;obtain⟨out0,out,a1,a2,a3⟩:=oK hQ (c:=x) hL.1 σ σr r.1 (by rw[hr,←a2T h rfl]) hl
   obtain⟨o0,o1,b1,b2,b3⟩:=OS (oK hQ (c:=y) hL.2) h (fun _=>⟨a1,a3⟩)
   refine⟨o0,o1,b1,?_,b3⟩;rw[eY,a2,Option.bind_some,←b2];cases out<;>rfl
 | .cond c x y,hL=>fun σ σr o h hl=>by
   simp only[LR,qB]at h;obtain⟨v,hv,b,hb,h⟩:=h;have hv':=hl.ev _ _ hv;simp only[eY,hv',hb,Option.bind_some];split at h
   ·split at h
    ·simp only[if_true];exact oK hQ (c:=x) hL.1 σ σr o h hl
    ·simp only[Bool.false_eq_true,if_false];exact oK hQ (c:=y) hL.2 σ σr o h hl
   ·simp only[qB,qI,qP,Bool.and_eq_true,Bool.or_eq_true]at h;obtain⟨r1,h1,r2,h2,rfl,k1,k2⟩:=h;have f1:=(sU h1).mono fun _ h=>Fr.left (b:=HW y) (r:=rD y) h
    have f2:=(sU h2).mono fun _ h=>Fr.right (a:=HW x) (q:=rD x) h
    cases b
    ·have k:r2.2=true:=by simpa using k2
     obtain⟨out0,out,a1,a2,a3⟩:=oK hQ (c:=y) hL.2 σ σr r2.1 (by rw[h2,←k]) hl
     obtain⟨out',b1,b2⟩:=FJ (b:=false) (o1:=r1.1) v8 f1 f2 a1;exact⟨out',out,b1,by simpa using a2,b2.trans a3⟩
    ·have k:r1.2=true:=by simpa using k1
     obtain⟨out0,out,a1,a2,a3⟩:=oK hQ (c:=x) hL.1 σ σr r1.1 (by rw[h1,←k]) hl
     obtain⟨out',b1,b2⟩:=FJ (b:=true) (o2:=r2.1) v8 f1 f2 a1;exact⟨out',out,b1,by simpa using a2,b2.trans a3⟩
 | .blk id x,hL=>fun σ σr o h hl=>by
   simp only[LR,qB,qI,qP]at h;obtain⟨r,hr,rfl,ho⟩:=h;obtain⟨out0,out,a1,a2,a3⟩:=oK hQ (c:=x) hL σ σr r.1 (by rw[hr,←ho]) hl
   obtain⟨out',b1,b2⟩:=YB (id:=id) v8 (sU hr) a1;refine⟨out',yE id out,b1,?_,b2.trans ?_⟩
   ·rw[eY,a2,Option.bind_some];cases out with
    |nor σ=>rfl
    |ret σ=>rfl
    |brk j σ=>
     simp only[yE];split<;>rfl
   ·cases a3 with
    |nor h=>exact .nor h
    |ret h=>exact .ret h
    |brk h=>
     simp only[yE];split
     ·exact .nor h
     ·exact .brk h
 | .loop live x,hL=>fun σ σr o h hl=>by
   simp only[LR]at h;split at h
   ·rename_i r hr;rw[h]at hr;exact hL.1 σ σr o hr hl
   ·rw[eY];exact OT (oK hQ (c:=x) hL.2) n σ σr o h hl
 | .brk id,hL=>fun σ σr o h hl=>by
   simp only[LR,qI,qP]at h;obtain⟨rfl,-⟩:=h;exact⟨.brk id σ, .brk id σr,rfl,rfl, .brk hl⟩
 | .ret,hL=>fun σ σr o h hl=>by
   simp only[LR,qI,qP]at h;obtain⟨rfl,-⟩:=h;exact⟨.ret σ, .ret σr,rfl,rfl, .ret hl⟩
 | .skip,hL=>fun σ σr o h hl=>by
   simp only[LR,qI,qP]at h;obtain⟨rfl,-⟩:=h;exact⟨.nor σ, .nor σr,rfl,rfl, .nor hl⟩
def aQS(res:List Rv)(nb:Nat)(σ:St):Option (SV×List Blk):=(eO σ res).bind fun vs=>leave nb σ vs
theorem A4{σ σr:St}(hl:Le σ σr): ∀{res:List Rv}{vs:List SV},eO σ res=some vs→eO σr res=some vs
 |[],vs,h=>h
 | .tmp n::r,vs,h=>by
   simp only[eO,qB]at h⊢;obtain⟨v,hv,us,hu,h⟩:=h;exact⟨v,hl.sl _ _ hv,us,A4 hl hu,h⟩
 | .cell n k::r,vs,h=>by
   simp only[eO,qB]at h⊢;obtain⟨v,hv,t,ht,cs,hc,u,hu,us,hus,h⟩:=h;exact⟨v,hl.sl _ _ hv,t,ht,cs,by rw[hl.hp];exact hc,u,hu,us,A4 hl hus,h⟩
theorem a2U{res:List Rv}{nb:Nat}{σ σr:St}(hl:Le σ σr){r:SV×List Blk}(h:aQS res nb σ=some r):aQS res nb σr=some r:=by
 simp only[aQS,qB]at h⊢;obtain⟨vs,hv,h⟩:=h;refine⟨vs,A4 hl hv,?_⟩;unfold leave at h⊢;rw[hl.hp];exact h
def aX(f:FuncId)(q:List SV→List Blk→Option ((SV×List Blk)×Bool))(Q:Qt):Qt:=fun g args hp=>if g=f then match q args hp with|some r=>some r|none=>Q g args hp else Q g args hp
theorem aB{R:Rt}{f:FuncId}{q:List SV→List Blk→Option ((SV×List Blk)×Bool)}{Q:Qt}(h: ∀args hp r,q args hp=some (r,true)→R f args hp=some r)(hQ:X2 R Q):X2 R (aX f q Q):=fun g args hp r hg=>by
 unfold aX at hg;split at hg
 ·rename_i e;subst e;split at hg
  ·rename_i r' hr;obtain rfl:=qi hg;exact h _ _ _ hr
  ·exact hQ _ _ _ _ hg
 ·exact hQ _ _ _ _ hg
def qnil:Qt:=fun _ _ _=>none
theorem aQT{R:Rt}:X2 R qnil:=fun _ _ _ _ h=>by simp[qnil]at h
end Go.Zq

namespace Go.Zq
open Option renaming bind_eq_some_iff → qB
open Option.some renaming injEq → qI
open Option.some renaming inj → qi
open Go
inductive Pt(α:Type) where
 |leaf (a:α)
 |br (b:Bool) (x y:Pt α)
 |ok (b:Bool) (x:Pt α)
def Pt.val{α:Type}:Pt α→α
 | .leaf a=>a
 | .br b x y=>bif b then x.val else y.val
 | .ok _ x=>x.val
def Pt.okv{α:Type}:Pt α→Bool
 | .leaf _=>true
 | .br b x y=>bif b then x.okv else y.okv
 | .ok b x=>b&&x.okv
def Pt.map{α β:Type}(f:α→β):Pt α→Pt β
 | .leaf a=> .leaf (f a)
 | .br b x y=> .br b (x.map f) (y.map f)
 | .ok b x=> .ok b (x.map f)
def Pt.bindO{α β:Type}(f:α→Option (Pt β)):Pt α→Option (Pt β)
 | .leaf a=>f a
 | .br b x y=>(x.bindO f).bind fun x=>(y.bindO f).bind fun y=>some (.br b x y)
 | .ok b x=>(x.bindO f).bind fun x=>some (.ok b x)
theorem Pt.val_map{α β:Type}(f:α→β): ∀t:Pt α,(t.map f).val=f t.val
 | .leaf a=>rfl
 | .br b x y=>by
   simp only[Pt.map,Pt.val,Pt.val_map f x,Pt.val_map f y];cases b<;>rfl
 | .ok b x=>Pt.val_map f x
theorem Pt.okv_map{α β:Type}(f:α→β): ∀t:Pt α,(t.map f).okv=t.okv
 | .leaf a=>rfl
 | .br b x y=>by simp only[Pt.map,Pt.okv,Pt.okv_map f x,Pt.okv_map f y]
 | .ok b x=>by simp only[Pt.map,Pt.okv,Pt.okv_map f x]
theorem Pt.bindO_val{α β:Type}{f:α→Option (Pt β)}: ∀{t:Pt α}{u:Pt β},t.bindO f=some u→u.okv=true→t.okv=true∧ ∃w,f t.val=some w∧w.okv=true∧u.val=w.val
 | .leaf a,u,h,ho=>⟨rfl,u,h,ho,rfl⟩
 | .br b x y,u,h,ho=>by
   simp only[Pt.bindO,qB,qI]at h;obtain⟨x',hx,y',hy,rfl⟩:=h;cases b
   ·have:=Pt.bindO_val (t:=y) (u:=y') hy ho;exact this
   ·have:=Pt.bindO_val (t:=x) (u:=x') hx ho;exact this
 | .ok b x,u,h,ho=>by
   simp only[Pt.bindO,qB,qI]at h;obtain⟨x',hx,rfl⟩:=h;obtain⟨h1,h2⟩:=aS ho;obtain⟨k1,k2⟩:=Pt.bindO_val (t:=x) hx h2;exact⟨by simp only[Pt.okv,h1,k1];rfl,k2⟩
def cK(f:St→Option (Pt Out))(g:St→Option Out):Prop:= ∀σ σr t,f σ=some t→t.okv=true→Le σ σr→ ∃out,g σr=some out∧LeOut t.val out
def trP:Tr→Pt Out
 | .leaf σ=> .leaf (.nor σ)
 | .br b x y=> .br b (trP x) (trP y)
theorem Z2: ∀t:Tr,(trP t).val= .nor t.st∧(trP t).okv=true
 | .leaf σ=>⟨rfl,rfl⟩
 | .br b x y=>by
   cases b
   ·exact Z2 y
   ·exact Z2 x
def kH:C→Nat
 | .ops ((_,k)::_) _=>k.dst.getD 0
 | .ops [] _=>0
 | .drw (((_,k)::_)::_) _ _=>k.dst.getD 0
 | .drw _ _ _=>0
 | .seq x _=>kH x
 | .cond (.t n) _ _=>n
 | .cond (.c _) x _=>kH x
 | .blk _ x=>kH x
 | .loop _ x=>kH x
 |_=>0
abbrev Lp:=List (Nat×(St→Option (Pt Out)))
def lH:Lp→Nat→St→Option (Pt Out)
 |[],_,_=>none
 |(m,f)::r,n,σ=>if m=n then f σ else lH r n σ
def aJJ(hp:List Blk):T→T×Bool
 | .sl id off len=>match hp[id]? with
   |some (.lst _ rows)=>(.sl id off rows.length,decide (len=rows.length))
   |_=>(.sl id off len,true)
 |t=>(t,true)
theorem aQU{hp:List Blk}{t:T}(h:(aJJ hp t).2=true):(aJJ hp t).1=t:=by
 unfold aJJ at h⊢;split at h
 ·split at h
  ·rename_i hb;simp only[hb];rw[of_decide_eq_true h]
  ·rfl
 ·rfl
def A5(hp:List Blk):Row→Row×Bool
 |[]=>([],true)
 |t::r=>((aJJ hp t).1::(A5 hp r).1,(aJJ hp t).2&&(A5 hp r).2)
theorem ME{hp:List Blk}: ∀{t:Row},(A5 hp t).2=true→(A5 hp t).1=t
 |[],_=>rfl
 |t::r,h=>by
  obtain⟨h1,h2⟩:=aS h;simp only[A5,aQU h1,ME h2]
def KH(hp:List Blk):SV→SV×Bool
 | .one t=>(.one (aJJ hp t).1,(aJJ hp t).2)
 | .agg ts=>(.agg (A5 hp ts).1,(A5 hp ts).2)
 |v=>(v,true)
theorem KI{hp:List Blk}{v:SV}(h:(KH hp v).2=true):(KH hp v).1=v:=by
 cases v with
 |one t=>simp only[KH,aQU (t:=t) h]
 |agg ts=>simp only[KH,ME (t:=ts) h]
 |und=>rfl
 |tup _=>rfl
def HX(hp:List Blk):List SV→List SV×Bool
 |[]=>([],true)
 |t::r=>((KH hp t).1::(HX hp r).1,(KH hp t).2&&(HX hp r).2)
theorem YD{hp:List Blk}: ∀{t:List SV},(HX hp t).2=true→(HX hp t).1=t
 |[],_=>rfl
 |t::r,h=>by
  obtain⟨h1,h2⟩:=aS h;simp only[HX,KI h1,YD h2]
def aGJ(hp:List Blk):SV→SV×Bool
 | .tup vs=>(.tup (HX hp vs).1,(HX hp vs).2)
 |v=>KH hp v
theorem a2V{hp:List Blk}{v:SV}(h:(aGJ hp v).2=true):(aGJ hp v).1=v:=by
 cases v with
 |tup vs=>simp only[aGJ,YD (t:=vs) h]
 |one t=>exact KI (v:= .one t) h
 |agg ts=>exact KI (v:= .agg ts) h
 |und=>rfl
def oL(hp:List Blk):List Blk→List Blk×Bool
 |[]=>([],true)
 | .box cs::r=>(.box (A5 hp cs).1::(oL hp r).1,(A5 hp cs).2&&(oL hp r).2)
 |b::r=>(b::(oL hp r).1,(oL hp r).2)
theorem v9{hp:List Blk}: ∀{l:List Blk},(oL hp l).2=true→(oL hp l).1=l
 |[],_=>rfl
 | .box cs::r,h=>by
   obtain⟨h1,h2⟩:=aS h;simp only[oL,ME h1,v9 h2]
 | .dead::r,h=>by simp only[oL,v9 (l:=r) h]
 | .lst n rows::r,h=>by simp only[oL,v9 (l:=r) h]
def R3(hp:List Blk):List (Nat×SV)→List (Nat×SV)×Bool
 |[]=>([],true)
 |p::r=>((p.1,(KH hp p.2).1)::(R3 hp r).1,(KH hp p.2).2&&(R3 hp r).2)
theorem aGK{hp:List Blk}: ∀{l:List (Nat×SV)},(R3 hp l).2=true→(R3 hp l).1=l
 |[],_=>rfl
 |p::r,h=>by
  obtain⟨h1,h2⟩:=aS h;simp only[R3,KI h1,aGK h2]
def MF(wm nm:Bool)(nb:Nat)(σ:St)(vs:List SV):Option ((SV×List Blk)×Bool):=
 if nm=false then ZW wm nb σ vs else(ZW wm nb σ vs).bind fun r=>some (((aGJ r.1.2 r.1.1).1,(oL r.1.2 r.1.2).1),r.2&&((aGJ r.1.2 r.1.1).2&&(oL r.1.2 r.1.2).2))
theorem YE{wm nm:Bool}{nb:Nat}{σ:St}{vs:List SV}{r:SV×List Blk}(h:MF wm nm nb σ vs=some (r,true)):leave nb σ vs=some r:=by
 unfold MF at h;split at h
 ·exact X1 h
 ·simp only[qB,qI,Prod.mk.injEq]at h;obtain⟨q,hq,rfl,ho⟩:=h;obtain⟨o1,o2⟩:=aS ho;obtain⟨o2,o3⟩:=aS o2;rw[a2V o2,v9 o3];exact X1 (wm:=wm) (r:=q.1) (by rw[hq,←o1])
def R4(wm nm:Bool)(nb:Nat)(live:List Nat)(σ:St):Option (St×Bool):=
 if nm=false then MA wm nb live σ else(MA wm nb live σ).bind fun r=>some (⟨(R3 r.1.hp r.1.sl).1,(oL r.1.hp r.1.hp).1⟩,r.2&&((R3 r.1.hp r.1.sl).2&&(oL r.1.hp r.1.hp).2))
theorem MG{wm nm:Bool}{nb:Nat}{live:List Nat}{σ σ':St}(h:R4 wm nm nb live σ=some (σ',true)):canon nb live σ=some σ':=by
 unfold R4 at h;split at h
 ·exact FA h
 ·simp only[qB,qI,Prod.mk.injEq]at h;obtain⟨q,hq,rfl,ho⟩:=h;obtain⟨o1,o2⟩:=aS ho;obtain⟨o2,o3⟩:=aS o2;rw[aGK o2,v9 o3];exact FA (wm:=wm) (σ':=q.1) (by rw[hq,←o1])
def lwm(kd:List (Nat×List Kd)):Bool:=(MB 1000000 kd).isNone
def lnm(kd:List (Nat×List Kd)):Bool:=(MB 1000000 kd).isSome||(MB 1000001 kd).isSome
def cwm(kd:List (Nat×List Kd)):Bool:=(MB 1000002 kd).isNone
def cnm(kd:List (Nat×List Kd)):Bool:=(MB 1000002 kd).isSome||(MB 1000003 kd).isSome
def aGL(wm nm:Bool)(nb:Nat)(live:List Nat)(f:St→Option (Pt Out)):Nat→St→Option (Pt Out)
 |0,_=>none
 |n+1,σ=>(R4 wm nm nb live σ).bind fun c=>(f c.1).bind fun t=>(t.bindO fun| .nor σ=>aGL wm nm nb live f n σ|o=>some (.leaf o)).bind fun t=>some (.ok c.2 t)
def xZ:C→Bool
 | .ops l _=>l.all fun g=>rC g.2
 | .seq x y=>xZ x&&xZ y
 | .cond _ x y=>xZ x&&xZ y
 | .skip=>true
 |_=>false
def Z3(r:O×Bool):Option (Pt Out):=match r.1.ex,r.1.nor with
 |[],some t=>some (.ok r.2 (trP t))
 |_,_=>none
noncomputable def vH(Q:Qt)(kd:List (Nat×List Kd))(cl:List Nat)(mg:Bool)(lq:Lp)(nb n:Nat):C→St→Option (Pt Out)
 | .drw ls kp cn,σ=>(KG Q kd nb kp cn ls σ).bind fun r=>some (.ok r.2 (.leaf (.nor r.1)))
 | .ops l kp,σ=>
   match(xV (2*l.length+2) none l).2 with
   |[]=>(evI Q kd (xV (2*l.length+2) none l).1 σ).bind fun r=>some (.ok r.2 (.leaf (.nor (trim kp r.1))))
   |_::_=>none
 | .seq x y,σ=>(vH Q kd cl mg lq nb n x σ).bind fun t=>t.bindO fun
   | .nor σ=>vH Q kd cl mg lq nb n y σ
   |o=>some (.leaf o)
 | .cond c x y,σ=>(σ.ev c).bind fun v=>(asBool v).bind fun b=>
   if bWV cl c=true then match b with
    |true=>vH Q kd cl mg lq nb n x σ
    |false=>vH Q kd cl mg lq nb n y σ
   else if(mg&&(xZ x&&xZ y))=true then(LR Q kd cl lqN nb n (.cond c x y) σ).bind Z3
   else(vH Q kd cl mg lq nb n x σ).bind fun tx=>(vH Q kd cl mg lq nb n y σ).bind fun ty=>some (.br b tx ty)
 | .blk id x,σ=>(vH Q kd cl mg lq nb n x σ).bind fun t=>some (t.map (yE id))
 | .loop live x,σ=>match lH lq (kH x) σ with
   |some t=>some t
   |none=>aGL (cwm kd) (cnm kd) nb live (vH Q kd cl mg lq nb n x) n σ
 | .brk id,σ=>some (.leaf (.brk id σ))
 | .ret,σ=>some (.leaf (.ret σ))
 | .skip,σ=>some (.leaf (.nor σ))
theorem OU{wm nm:Bool}{nb:Nat}{live:List Nat}{f:St→Option (Pt Out)}{g:St→Option Out}(hf:cK f g): ∀n,cK (aGL wm nm nb live f n) (AL nb live g n)
 |0=>fun σ σr t h ho hl=>by simp[aGL]at h
 |n+1=>fun σ σr t h ho hl=>by
  simp only[aGL,qB,qI]at h;obtain⟨c,hc,u,hu,w,hw,rfl⟩:=h;obtain⟨o1,o2⟩:=aS ho;have hcr:=C6 (MG (σ':=c.1) (by rw[hc,←o1])) hl
  obtain⟨k1,z,hz,k2,k3⟩:=Pt.bindO_val hw o2;obtain⟨out,a1,a2⟩:=hf c.1 c.1 u hu k1 .rfl;simp only[AL,hcr,Option.bind_some,a1];show∃out,_∧LeOut w.val out
  rw[k3];generalize u.val=o at hz a2;cases a2 with
  |nor h=>exact OU hf n _ _ z hz k2 h
  |brk h=>obtain rfl:=qi hz;exact⟨_,rfl, .brk h⟩
  |ret h=>obtain rfl:=qi hz;exact⟨_,rfl, .ret h⟩
theorem Z4{r:O×Bool}{t:Pt Out}{out:Out}(h:Z3 r=some t)(ho:t.okv=true)(hd:r.2=true→ ∃out0,r.1.den=some out0∧LeOut out0 out):LeOut t.val out:=by
 unfold Z3 at h;split at h
 ·rename_i u he hn;obtain rfl:=qi h;obtain⟨o1,o2⟩:=aS ho;obtain⟨out0,h1,h2⟩:=hd o1;unfold O.den at h1;rw[he,hn]at h1;simp only[nX,qI]at h1;subst h1;show LeOut (trP u).val out
  rw[(Z2 u).1];exact h2
 ·simp at h
theorem cL{R:Rt}{Q:Qt}(hQ:X2 (cY R) Q){kd:List (Nat×List Kd)}{cl:List Nat}{mg:Bool}{lq:Lp}{nb n:Nat}: ∀{c:C},eS (fun live x=>cK (lH lq (kH x)) (eY R nb n (.loop live x))) c→cK (vH Q kd cl mg lq nb n c) (eY R nb n c)
 | .drw ls kp cn,hL=>fun σ σr t h ho hl=>by
   simp only[vH,qB,qI]at h;obtain⟨c,hc,rfl⟩:=h;obtain⟨o1,-⟩:=aS ho;have:=C7 hQ hl (c:=c.1) (by rw[hc,←o1])
   exact⟨.nor c.1,by simp[eY,this], .nor .rfl⟩
 | .ops l kp,hL=>fun σ σr t h ho hl=>by
   unfold vH at h;split at h
   ·rename_i hp;simp only[qB,qI]at h;obtain⟨i,hi,rfl⟩:=h;obtain⟨o1,-⟩:=aS ho;obtain⟨τ,h1,h2⟩:=FG hQ (g:=none) (by rw[hi,←o1]) hl (fun s w e=>by simp at e) (fun s w e=>by simp at e)
    rw[zZ hp]at h1;exact⟨.nor (trim kp τ),by simp[eY,h1], .nor (aQQ h2)⟩
   ·simp at h
 | .seq x y,hL=>fun σ σr t h ho hl=>by
   simp only[vH,qB]at h;obtain⟨u,hu,h⟩:=h;obtain⟨k1,z,hz,k2,k3⟩:=Pt.bindO_val h ho;obtain⟨out,a1,a2⟩:=cL hQ (c:=x) hL.1 σ σr u hu k1 hl;rw[k3,eY,a1,Option.bind_some];generalize u.val=o at hz a2;cases a2 with
   |nor h=>exact cL hQ (c:=y) hL.2 _ _ z hz k2 h
   |brk h=>obtain rfl:=qi hz;exact⟨_,rfl, .brk h⟩
   |ret h=>obtain rfl:=qi hz;exact⟨_,rfl, .ret h⟩
 | .cond c x y,hL=>fun σ σr t h ho hl=>by
   have h0:=h;simp only[vH,qB]at h;obtain⟨v,hv,b,hb,h⟩:=h;have hv':=hl.ev _ _ hv;split at h
   ·simp only[eY,hv',hb,Option.bind_some];split at h
    ·simp only[if_true];exact cL hQ (c:=x) hL.1 σ σr t h ho hl
    ·simp only[Bool.false_eq_true,if_false];exact cL hQ (c:=y) hL.2 σ σr t h ho hl
   ·split at h
    ·rename_i hm;simp only[Bool.and_eq_true]at hm;obtain⟨r,hr,hw⟩:=Option.bind_eq_some_iff.1 h;have noLoop: ∀{c:C},xZ c=true→eS (fun live x=>RY (lqN live) (eY R nb n (.loop live x))) c:=fun{c} hc=>by
      induction c with
      |seq x y ihx ihy=>simp only[xZ,Bool.and_eq_true]at hc;exact⟨ihx hc.1,ihy hc.2⟩
      |cond c x y ihx ihy=>simp only[xZ,Bool.and_eq_true]at hc;exact⟨ihx hc.1,ihy hc.2⟩
      |ops=>trivial
      |skip=>trivial
      |drw=>simp[xZ]at hc
      |blk=>simp[xZ]at hc
      |loop=>simp[xZ]at hc
      |brk=>simp[xZ]at hc
      |ret=>simp[xZ]at hc
     have hT:=oK (R:=R) (n:=n) (nb:=nb) (kd:=kd) (cl:=cl) hQ (lq:=lqN) (c:= .cond c x y) ⟨noLoop hm.2.1,noLoop hm.2.2⟩;have hd:r.2=true→ ∃out0 out,r.1.den=some out0∧eY R nb n (.cond c x y) σr=some out∧LeOut out0 out:=fun hk=>hT σ σr r.1 (by rw[hr,←hk]) hl
     have hk:r.2=true:=by
      unfold Z3 at hw;split at hw
      ·obtain rfl:=qi hw;exact(aS ho).1
      ·simp at hw
     obtain⟨out0,out,a1,a2,a3⟩:=hd hk;exact⟨out,a2,Z4 hw ho fun _=>⟨out0,a1,a3⟩⟩
    ·simp only[qB,qI]at h;obtain⟨tx,hx,ty,hy,rfl⟩:=h;simp only[eY,hv',hb,Option.bind_some];cases b
     ·have:=cL hQ (c:=y) hL.2 σ σr ty hy ho hl;rw[if_neg (by simp)]
      exact this
     ·have:=cL hQ (c:=x) hL.1 σ σr tx hx ho hl;rw[if_pos rfl];exact this
 | .blk id x,hL=>fun σ σr t h ho hl=>by
   simp only[vH,qB,qI]at h;obtain⟨u,hu,rfl⟩:=h;rw[Pt.okv_map]at ho;obtain⟨out,a1,a2⟩:=cL hQ (c:=x) hL σ σr u hu ho hl;rw[Pt.val_map];generalize u.val=o at a2;refine⟨yE id out,?_,?_⟩
   ·rw[eY,a1,Option.bind_some];cases out with
    |nor σ=>rfl
    |ret σ=>rfl
    |brk j σ=>
     simp only[yE];split<;>rfl
   ·cases a2 with
    |nor h=>exact .nor h
    |ret h=>exact .ret h
    |brk h=>
     simp only[yE];split
     ·exact .nor h
     ·exact .brk h
 | .loop live x,hL=>fun σ σr t h ho hl=>by
   simp only[vH]at h;split at h
   ·rename_i r hr;rw[h]at hr;exact hL.1 σ σr t hr ho hl
   ·rw[eY];exact OU (cL hQ (c:=x) hL.2) n σ σr t h ho hl
 | .brk id,hL=>fun σ σr t h ho hl=>by
   simp only[vH,qI]at h;subst h;exact⟨.brk id σr,rfl, .brk hl⟩
 | .ret,hL=>fun σ σr t h ho hl=>by
   simp only[vH,qI]at h;subst h;exact⟨.ret σr,rfl, .ret hl⟩
 | .skip,hL=>fun σ σr t h ho hl=>by
   simp only[vH,qI]at h;subst h;exact⟨.nor σr,rfl, .nor hl⟩
def a2W(wm nm:Bool)(res:List Rv)(nb:Nat):Out→Option (Pt (SV×List Blk))
 | .nor σ=>(eO σ res).bind fun vs=>(MF wm nm nb σ vs).bind fun r=>some (.ok r.2 (.leaf r.1))
 | .ret σ=>(eO σ res).bind fun vs=>(MF wm nm nb σ vs).bind fun r=>some (.ok r.2 (.leaf r.1))
 | .brk _ _=>none
noncomputable def fnP(Q:Qt)(kd:List (Nat×List Kd))(cl:List Nat)(mg:Bool)(lq:Lp)(n:Nat)(cf:Zq.Fn)(args:List SV)(hp:List Blk):Option (Pt (SV×List Blk)):=
 if args.length=cf.np then(vH Q kd cl mg lq (cW hp) n cf.body ⟨qW 0 args,hp⟩).bind fun t=>t.bindO (a2W (lwm kd) (lnm kd) cf.res (cW hp))else none
theorem aQV{R:Rt}{Q:Qt}(hQ:X2 (cY R) Q){kd:List (Nat×List Kd)}{cl:List Nat}{mg:Bool}{lq:Lp}{n:Nat}{cf:Zq.Fn}{args:List SV}{hp:List Blk}{t:Pt (SV×List Blk)}(hL:eS (fun live x=>cK (lH lq (kH x)) (eY R (cW hp) n (.loop live x))) cf.body)(h:fnP Q kd cl mg lq n cf args hp=some t)(ho:t.okv=true):cf.run R n args hp=some t.val:=by
 unfold fnP at h;split at h
 ·rename_i hn;simp only[qB]at h;obtain⟨u,hu,h⟩:=h;obtain⟨k1,w,hw,k2,k3⟩:=Pt.bindO_val h ho;obtain⟨out,a1,a2⟩:=cL hQ hL _ _ u hu k1 .rfl;unfold Fn.run;rw[if_pos hn,a1,k3];generalize u.val=o at hw a2;have fin: ∀{σ τ:St},Le σ τ→(eO σ cf.res).bind (fun vs=>(MF (lwm kd) (lnm kd) (cW hp) σ vs).bind fun r=>some (Pt.ok r.2 (.leaf r.1)))=some w→((eO τ cf.res).bind fun vs=>leave (cW hp) τ vs)=some w.val:=fun{σ τ} hl hw=>by
   simp only[qB,qI]at hw;obtain⟨vs,hv,r,hr,rfl⟩:=hw;obtain⟨o1,-⟩:=aS k2;refine a2U (res:=cf.res) hl (r:=r.1) ?_;simp only[aQS,hv,Option.bind_some];exact YE (by rw[hr,←o1])
  cases a2 with
  |nor hl=>exact fin hl hw
  |ret hl=>exact fin hl hw
  |brk hl=>simp[a2W]at hw
 ·simp at h
def KJ(wm nm:Bool)(nb:Nat)(σ:St)(vs:List SV):Option ((SV×List Blk)×Bool):=
 if XD (vQ σ.hp ((vs.flatMap eU).foldl (LU σ.hp 0) (fC σ.hp nb)) (vs.flatMap eU)) nb=true∧XD (vQ σ.hp ((vs.flatMap eU).foldl (LU σ.hp 0) (fC σ.hp nb)) (vs.flatMap eU)) (nb+1)=true then MF wm nm nb σ vs else none
theorem aJK{wm nm:Bool}{nb:Nat}{σ:St}{vs:List SV}{r:SV×List Blk}(h:KJ wm nm nb σ vs=some (r,true)):leaveK nb σ vs=some r:=by
 unfold KJ at h;obtain⟨hc,h1⟩:=bQ h;unfold leaveK;simp only;rw[if_pos hc];exact YE h1
def aQW(wm nm:Bool)(res:List Rv)(nb:Nat):Out→Option (Pt (SV×List Blk))
 | .nor σ=>(eO σ res).bind fun vs=>(KJ wm nm nb σ vs).bind fun r=>some (.ok r.2 (.leaf r.1))
 | .ret σ=>(eO σ res).bind fun vs=>(KJ wm nm nb σ vs).bind fun r=>some (.ok r.2 (.leaf r.1))
 | .brk _ _=>none
theorem aYK{res:List Rv}{nb:Nat}{σ σr:St}(hl:Le σ σr){r:SV×List Blk}(h:((eO σ res).bind fun vs=>leaveK nb σ vs)=some r):((eO σr res).bind fun vs=>leaveK nb σr vs)=some r:=by
 simp only[qB]at h⊢;obtain⟨vs,hv,h⟩:=h;refine⟨vs,A4 hl hv,?_⟩;unfold leaveK leave at h⊢;rw[hl.hp];exact h
noncomputable def a2X(Q:Qt)(kd:List (Nat×List Kd))(cl:List Nat)(mg:Bool)(lq:Lp)(n:Nat)(cf:Zq.Fn)(args:List SV)(hp:List Blk):Option (Pt (SV×List Blk)):=
 if args.length=cf.np∧cW hp+2≤hp.length then(vH Q kd cl mg lq (cW hp+2) n cf.body ⟨qW 0 args,hp⟩).bind fun t=>t.bindO (aQW (lwm kd) (lnm kd) cf.res (cW hp))else none
theorem a2Y{R:Rt}{Q:Qt}(hQ:X2 (cY R) Q){kd:List (Nat×List Kd)}{cl:List Nat}{mg:Bool}{lq:Lp}{n:Nat}{cf:Zq.Fn}{args:List SV}{hp:List Blk}{t:Pt (SV×List Blk)}(hL:eS (fun live x=>cK (lH lq (kH x)) (eY R (cW hp+2) n (.loop live x))) cf.body)(h:a2X Q kd cl mg lq n cf args hp=some t)(ho:t.okv=true):cf.runK R n args hp=some t.val:=by
 unfold a2X at h;split at h
 ·rename_i hn;simp only[qB]at h;obtain⟨u,hu,h⟩:=h;obtain⟨k1,w,hw,k2,k3⟩:=Pt.bindO_val h ho;obtain⟨out,a1,a2⟩:=cL hQ hL _ _ u hu k1 .rfl;unfold Fn.runK;rw[if_pos hn,a1,k3];generalize u.val=o at hw a2;have fin: ∀{σ τ:St},Le σ τ→(eO σ cf.res).bind (fun vs=>(KJ (lwm kd) (lnm kd) (cW hp) σ vs).bind fun r=>some (Pt.ok r.2 (.leaf r.1)))=some w→((eO τ cf.res).bind fun vs=>leaveK (cW hp) τ vs)=some w.val:=fun{σ τ} hl hw=>by
   simp only[qB,qI]at hw;obtain⟨vs,hv,r,hr,rfl⟩:=hw;obtain⟨o1,-⟩:=aS k2;refine aYK (res:=cf.res) hl (r:=r.1) ?_;simp only[hv,Option.bind_some];exact aJK (by rw[hr,←o1])
  cases a2 with
  |nor hl=>exact fin hl hw
  |ret hl=>exact fin hl hw
  |brk hl=>simp[aQW]at hw
 ·simp at h
def prn:Pt Out→Option (Pt Out)
 | .leaf (.nor _)=>none
 | .leaf o=>some (.leaf o)
 | .ok _ x=>prn x
 | .br b x y=>match prn x,prn y with
   |none,none=>none
   |some x,none=>some x
   |none,some y=>some y
   |some x,some y=>some (.br b x y)
def aGM:Out→Bool
 | .nor _=>true
 |_=>false
theorem C8: ∀{t:Pt Out},prn t=none→aGM t.val=true
 | .leaf (.nor _),_=>rfl
 | .leaf (.brk _ _),h=>by simp[prn]at h
 | .leaf (.ret _),h=>by simp[prn]at h
 | .ok _ x,h=>C8 (t:=x) h
 | .br b x y,h=>by
   simp only[prn]at h;split at h
   ·rename_i h1 h2;cases b
    ·exact C8 (t:=y) h2
    ·exact C8 (t:=x) h1
   ·simp at h
   ·simp at h
   ·simp at h
theorem z6: ∀{t u:Pt Out},prn t=some u→aGM t.val=false→u.val=t.val∧u.okv=true
 | .leaf (.nor _),u,h,hn=>by simp[prn]at h
 | .leaf (.brk _ _),u,h,hn=>by obtain rfl:=qi h;exact⟨rfl,rfl⟩
 | .leaf (.ret _),u,h,hn=>by obtain rfl:=qi h;exact⟨rfl,rfl⟩
 | .ok _ x,u,h,hn=>z6 (t:=x) h hn
 | .br b x y,u,h,hn=>by
   simp only[prn]at h;cases b
   ·have hn':aGM y.val=false:=hn;split at h
    ·simp at h
    ·rename_i h1 h2;have:=C8 (t:=y) h2;rw[hn']at this;simp at this
    ·rename_i h1 h2;obtain rfl:=qi h;exact z6 (t:=y) h2 hn'
    ·rename_i x' y' h1 h2;obtain rfl:=qi h;exact z6 (t:=y) (u:=y') h2 hn'
   ·have hn':aGM x.val=false:=hn;split at h
    ·simp at h
    ·rename_i h1 h2;obtain rfl:=qi h;exact z6 (t:=x) h1 hn'
    ·rename_i h1 h2;have:=C8 (t:=x) h1;rw[hn']at this;simp at this
    ·rename_i x' y' h1 h2;obtain rfl:=qi h;exact z6 (t:=x) (u:=x') h1 hn'
def pG(wm nm:Bool)(nb:Nat)(live:List Nat)(t:Pt Out):Option (Pt (Option St)):=t.bindO fun
 | .nor σ=>(R4 wm nm nb live σ).bind fun c=>some (.ok c.2 (.leaf (some c.1)))
 |_=>some (.leaf none)
def dB{V:Type}(N:V→Pt (Option V)):Nat→V→Option V
 |0,_=>none
 |k+1,v=>bif (N v).okv then(match(N v).val with|none=>some v|some v'=>dB N k v')else none
noncomputable def hid{α:Type}(a:α):α:=Classical.choose (⟨a,rfl⟩: ∃b,b=a)
theorem dP{α:Type}(a:α):hid a=a:=Classical.choose_spec (⟨a,rfl⟩: ∃b,b=a)
noncomputable def qU{V:Type}(wm nm:Bool)(nb:Nat)(live:List Nat)(f:St→Option (Pt Out))(un:St→Option (V×Bool))(st:V→St)(N:V→Pt (Option V))(n:Nat)(σ:St):Option (Pt Out):=
 (R4 wm nm nb live σ).bind fun c=>(un c.1).bind fun v=>(f (st ((hid (dB N n v.1)).getD v.1))).bind fun t=>(prn t).bind fun t=>some (.ok c.2 (.ok v.2 (.ok (hid (dB N n v.1)).isSome t)))
theorem R5{V:Type}{wm nm:Bool}{nb:Nat}{live:List Nat}{f:St→Option (Pt Out)}{g:St→Option Out}(hf:cK f g){st:V→St}{N:V→Pt (Option V)}(hN: ∀v,((f (st v)).bind (pG wm nm nb live))=some ((N v).map (Option.map st))):
  ∀{k:Nat}{v w:V}{σ:St},canon nb live σ=some (st v)→dB N k v=some w→ ∃t out,f (st w)=some t∧aGM t.val=false∧AL nb live g k σ=some out∧LeOut t.val out
 |0,v,w,σ,hσ,h=>by simp[dB]at h
 |k+1,v,w,σ,hσ,h=>by
  have hb:=hN v;simp only[qB]at hb;obtain⟨t,ht,hs⟩:=hb;unfold dB at h;cases ho:(N v).okv
  ·rw[ho]at h;simp at h
  ·rw[ho,cond_true]at h;unfold pG at hs;obtain⟨k1,z,hz,k2,k3⟩:=Pt.bindO_val hs (by rw[Pt.okv_map];exact ho)
   obtain⟨out,a1,a2⟩:=hf (st v) (st v) t ht k1 .rfl;simp only[AL,hσ,Option.bind_some,a1];rw[Pt.val_map]at k3;cases hv:t.val with
   |nor τ=>
    rw[hv]at hz a2;simp only[qB,qI]at hz;obtain⟨c,hc,rfl⟩:=hz;obtain⟨o1,-⟩:=aS k2;cases a2 with
    |nor hl=>
     cases hn:(N v).val with
     |none=>rw[hn]at k3;simp[Pt.val]at k3
     |some v'=>
      rw[hn]at h k3;simp only[Pt.val,Option.map_some,qI]at k3;have hc':=C6 (MG (σ':=c.1) (by rw[hc,←o1])) hl
      rw[←k3]at hc';exact R5 hf hN hc' h
   |brk j τ=>
    rw[hv]at hz a2;obtain rfl:=qi hz;cases a2 with
    |brk hl=>
     cases hn:(N v).val with
     |some v'=>rw[hn]at k3;simp[Pt.val]at k3
     |none=>
      rw[hn]at h;obtain rfl:=qi h;exact⟨t,_,ht,by rw[hv];rfl,rfl,by rw[hv];exact .brk hl⟩
   |ret τ=>
    rw[hv]at hz a2;obtain rfl:=qi hz;cases a2 with
    |ret hl=>
     cases hn:(N v).val with
     |some v'=>rw[hn]at k3;simp[Pt.val]at k3
     |none=>
      rw[hn]at h;obtain rfl:=qi h;exact⟨t,_,ht,by rw[hv];rfl,rfl,by rw[hv];exact .ret hl⟩
theorem dD{R:Rt}{V:Type}{wm nm:Bool}{nb n:Nat}{live:List Nat}{x:C}{f:St→Option (Pt Out)}(hf:cK f (eY R nb n x)){un:St→Option (V×Bool)}{st:V→St}{N:V→Pt (Option V)}
  (hu: ∀σ v,un σ=some (v,true)→σ=st v) (hN: ∀v,((f (st v)).bind (pG wm nm nb live))=some ((N v).map (Option.map st))):cK (qU wm nm nb live f un st N n) (eY R nb n (.loop live x)):=fun σ σr t h ho hl=>by
 simp only[qU,dP,qB,qI]at h;obtain⟨c,hc,v,hv,u,hu',w,hw,rfl⟩:=h;obtain⟨o1,o2⟩:=aS ho;obtain⟨o0,o2⟩:=aS o2;obtain⟨o2,o3⟩:=aS o2;obtain⟨z,hz⟩:=Option.isSome_iff_exists.1 o2;have hc':=C6 (MG (σ':=c.1) (by rw[hc,←o1])) hl
 have he:=hu c.1 v.1 (by rw[hv,←o0])
 rw[he]at hc';obtain⟨t',out,a1,a2,a3,a4⟩:=R5 hf hN hc' hz;rw[hz,Option.getD_some,a1]at hu';obtain rfl:=qi hu';obtain⟨b1,-⟩:=z6 hw a2;refine⟨out,by rw[eY];exact a3,?_⟩
 show LeOut w.val out
 rw[b1];exact a4
def lI:C→List (List Nat×C)
 | .seq x y=>lI x++lI y
 | .cond _ x y=>lI x++lI y
 | .blk _ x=>lI x
 | .loop live x=>(live,x)::lI x
 |_=>[]
def aYL(T:List Nat→C→Prop):List (List Nat×C)→Prop
 |[]=>True
 |p::r=>T p.1 p.2∧aYL T r
theorem qJ{T:List Nat→C→Prop}: ∀{l m:List (List Nat×C)},aYL T (l++m)→aYL T l∧aYL T m
 |[],m,h=>⟨trivial,h⟩
 |p::r,m,h=>⟨⟨h.1,(qJ (l:=r) h.2).1⟩,(qJ (l:=r) h.2).2⟩
theorem sA{T:List Nat→C→Prop}: ∀{c:C},aYL T (lI c)→eS T c
 | .seq x y,h=>⟨sA (c:=x) (qJ h).1,sA (c:=y) (qJ h).2⟩
 | .cond _ x y,h=>⟨sA (c:=x) (qJ h).1,sA (c:=y) (qJ h).2⟩
 | .blk _ x,h=>sA (c:=x) h
 | .loop live x,h=>⟨h.1,sA (c:=x) h.2⟩
 | .ops _ _,_=>trivial
 | .drw ..,_=>trivial
 | .brk _,_=>trivial
 | .ret,_=>trivial
 | .skip,_=>trivial
theorem bT{T:List Nat→C→Prop}{c:C}{l:List (List Nat×C)}(h:lI c=l)(k:aYL T l):eS T c:=sA (by rw[h];exact k)
end Go.Zq

namespace Go.Zq
open Go
def byteRow:Row→Bool
 |[.lit (.int .u8 z)]=>decide (0≤z)&&decide (z<256)
 |_=>false
def bytesOk(rows:List Row):Bool:=rows.all byteRow
def ri(zs:List Int):List Row:=zs.map fun z=>[.lit (.int .i64 z)]
theorem aY{zs:List Int}:(ri zs).length=zs.length:=by simp[ri]
theorem aJL{r:Row}(h:byteRow r=true): ∃z:Int,r=[.lit (.int .u8 z)]∧0≤z∧z<256:=by
 unfold byteRow at h;split at h
 ·rename_i z;simp only[Bool.and_eq_true,decide_eq_true_eq]at h;exact⟨z,rfl,h⟩
 ·simp at h
theorem aJM{rows:List Row}(h:bytesOk rows=true){j:Nat}(hj:j<rows.length): ∃z:Int,rows.getD j []=[.lit (.int .u8 z)]∧bF rows j 0=z∧0≤z∧z<256:=by
 have hr:rows.getD j []=rows[j]:=by simp[List.getD_eq_getElem?_getD,hj]
 obtain⟨z,hz,h0,h1⟩:=aJL (List.all_eq_true.1 h rows[j] (List.getElem_mem hj));refine⟨z,by rw[hr,hz],?_,h0,h1⟩
 simp only[bF,vZ,hr,hz];rfl
theorem R6{rows:List Row}(h:bytesOk rows=true){p:Int}(h0:0≤p)(h1:p<(rows.length:Int)):fU [.int .u8] rows p=true:=by
 have hj:p.toNat<rows.length:=by omega
 obtain⟨z,hz,-⟩:=aJM h hj;have hb:Nat.blt p.toNat rows.length=true:=by simpa using hj
 simp only[fU,dO,hz,h0,hb,decide_true,Bool.true_and];rfl
def a20(s:Int):Int:=IntKind.wrap IntKind.i64 (IntKind.wrap IntKind.u64 ↑(BitVec.toNat (BitVec.ofInt (64:Nat) (Int.fdiv s (1099511627776:Int))&&&BitVec.ofInt (64:Nat) (255:Int))))
theorem bEK(s:Int):0≤a20 s∧a20 s<256:=by
 unfold a20;have h:(BitVec.ofInt 64 (s.fdiv 1099511627776)&&&BitVec.ofInt 64 255).toNat≤255:=by
  rw[BitVec.toNat_and];exact Nat.le_trans Nat.and_le_right (by decide)
 generalize (BitVec.ofInt 64 (s.fdiv 1099511627776)&&&BitVec.ofInt 64 255).toNat=n at h;have h1:IntKind.u64.wrap (n:Int)=n:=by
  have:IntKind.u64.wrap (n:Int)=(n:Int)%18446744073709551616:=by simp[IntKind.wrap,IntKind.bits,IntKind.signed]
  omega
 rw[h1,IntKind.wrap_i64];omega
end Go.Zq

namespace Go.Zq
open Go
theorem qK{xs ys:List Int}:ri (xs++ys)=ri xs++ri ys:=by simp[ri]
theorem Z5{xs:List Int}{j:Nat}{d:Int}(h:xs[j]? =some d):(ri xs).getD j []=[.lit (.int .i64 d)]:=by
 simp[ri,List.getD_eq_getElem?_getD,h]
theorem bWX{xs:List Int}{j:Nat}{d:Int}(h:xs[j]? =some d):bF (ri xs) j 0=d:=by
 simp only[bF,vZ,Z5 h];rfl
theorem a21{xs:List Int}{j:Nat}{d:Int}(h:xs[j]? =some d):dO [.int .i64] (ri xs) j 0=true:=by
 have hj:j<xs.length:=(List.getElem?_eq_some_iff.1 h).1;simp only[dO,Z5 h,aY];have:Nat.blt j xs.length=true:=by simpa using hj
 rw[this];rfl
theorem bL5{xs:List Int}{j:Nat}{d:Int}(h:xs[j]? =some d):fU [.int .i64] (ri xs) (j:Int)=true:=by
 have h1:=a21 h;simp only[fU,Int.toNat_natCast,h1,Z5 h];simp
theorem Z6(z:Int)(k:Nat)(hk:k<63):IntKind.wrap IntKind.i64 (↑(BitVec.toNat (BitVec.ofInt (64:Nat) z&&&BitVec.ofInt (64:Nat) ((2:Int)^k-1))):Int)=z%2^k:=by
 have hpos:(1:Nat)≤2^k:=Nat.one_le_two_pow;have hle:(2:Nat)^k≤2^62:=Nat.pow_le_pow_right (by decide) (by omega)
 have e:(((2:Int)^k-1)%((2^64:Nat):Int)).toNat=2^k-1:=by
  have:((2:Int)^k)=((2^k:Nat):Int):=by simp
  rw[this];omega
 rw[BitVec.toNat_and,BitVec.toNat_ofInt,BitVec.toNat_ofInt,e,Nat.and_two_pow_sub_one_eq_mod,IntKind.wrap_i64];have h2:((2:Int)^k)=((2^k:Nat):Int):=by simp
 rw[h2];have h3:(((z%((2^64:Nat):Int)).toNat%2^k:Nat):Int)=z%((2^k:Nat):Int):=by
  rw[Int.natCast_emod,Int.toNat_of_nonneg (by omega)]
  refine Int.emod_emod_of_dvd _ ?_;exact Int.natCast_dvd_natCast.2 (Nat.pow_dvd_pow 2 (by omega))
 rw[h3];have h4:0≤z%((2^k:Nat):Int)∧z%((2^k:Nat):Int)<((2^k:Nat):Int):=⟨Int.emod_nonneg _ (by omega),Int.emod_lt_of_pos _ (by omega)⟩
 omega
end Go.Zq

namespace Go.Zq
open Go
def eQ(c:C)(i:Nat):C:=((lI c)[i]?.map (·.2)).getD .skip
def aV(x y:Int):Int:=IntKind.wrap .i64 (x+y)
def cF(x y:Int):Int:=IntKind.wrap .i64 (x-y)
def cX(x y:Int):Int:=IntKind.wrap .i64 (x*y)
def b3C(x y:Int):Int:=x*y
def lZ(x y:Int):Int:=IntKind.wrap .i64 (x.tdiv y)
def kD(x y:Int):Int:=x.tmod y
def aZ(x y:Int):Int:=IntKind.wrap .i64 (BitVec.ofInt 64 x&&&BitVec.ofInt 64 y).toNat
def eT(x y:Int):Int:=IntKind.wrap .i64 (BitVec.ofInt 64 x|||BitVec.ofInt 64 y).toNat
def qR(x y:Int):Int:=IntKind.wrap .i64 (BitVec.ofInt 64 x^^^BitVec.ofInt 64 y).toNat
def fX(x y:Int):Int:=IntKind.wrap .i64 (BitVec.ofInt 64 x&&& ~~~BitVec.ofInt 64 y).toNat
def nL(x y:Int):Int:=IntKind.wrap .i64 (x*2^min y.toNat 64)
def eW(x y:Int):Int:=x.fdiv (2^min y.toNat 64)
def bWY(k:IntKind)(x y:Int):Int:=k.wrap (x+y)
def b3D(k:IntKind)(x y:Int):Int:=k.wrap (x*y)
def bEL(k:IntKind)(x y:Int):Int:=k.wrap (BitVec.ofInt k.bits x&&&BitVec.ofInt k.bits y).toNat
def a22(k:IntKind)(x y:Int):Int:=x.fdiv (2^min y.toNat k.bits)
def wA(k:IntKind)(x:Int):Int:=k.wrap x
def eqI(x y:Int):Bool:=x==y
def cU(x y:Int):Bool:=x !=y
def ltI(x y:Int):Bool:=decide (x<y)
def leI(x y:Int):Bool:=decide (x≤y)
def kV(x y:Int):Bool:=decide (x>y)
def geI(x y:Int):Bool:=decide (x≥y)
def yF(x y:Bool):Bool:=x==y
def cV(x y:Nat):Bool:=decide (x=y)
noncomputable def s1{α:Type}(x:α):Bool:=same x x
noncomputable def r1(x:List Row):Bool:=R0 x x
def e1(x:Nat):Bool:=cV x x
@[simp] theorem pH{α:Type}(x:α):s1 x=true:=mE x
@[simp] theorem pI(x:List Row):r1 x=true:=mE x
@[simp] theorem mG(x:Nat):e1 x=true:=decide_eq_true rfl
def lJ(x y:Nat):Bool:=decide (x≤y)
def blt(x y:Nat):Bool:=Nat.blt x y
def jW(x y:Nat):Bool:=x==y
def mA(x y:Nat):Nat:=x*y
def b3E(x y:Nat):Nat:=min x y
def jX(r:List Row)(j:Nat):Nat:=(r.getD j []).length
def b3F(n:Nat):Int:=n
def bN(r:List Row):Int:=r.length
def aL(x:Int):Row:=[.lit (.int .i64 x)]
@[reducible] def ot{α:Type}(x:Pt α):Pt α:= .ok true x
theorem bWZ{R:Rt}{Q:Qt}(hQ:X2 (cY R) Q){kd:List (Nat×List Kd)}{cl:List Nat}{mg:Bool}{lq:Lp}{n:Nat}{cf:Zq.Fn}{args:List SV}{hp:List Blk}{γ:Type}{T:Pt γ}{nn:γ→SV×List Blk}
  (hL:eS (fun live x=>cK (lH lq (kH x)) (eY R (cW hp) n (.loop live x))) cf.body) (e:fnP Q kd cl mg lq n cf args hp=some (T.map nn)) {r:SV×List Blk} (hr:nn (hid T.val)=r) (hk:hid T.okv=true):cf.run R n args hp=some r:=by
 rw[dP]at hr hk;have:=aQV hQ hL e (by rw[Pt.okv_map];exact hk)
 rw[this,Pt.val_map,hr]
theorem bNZ{R:Rt}{Q:Qt}(hQ:X2 (cY R) Q){kd:List (Nat×List Kd)}{cl:List Nat}{mg:Bool}{lq:Lp}{n:Nat}{cf:Zq.Fn}{args:List SV}{hp:List Blk}{γ:Type}{T:Pt γ}{nn:γ→SV×List Blk}
  (hL:eS (fun live x=>cK (lH lq (kH x)) (eY R (cW hp+2) n (.loop live x))) cf.body) (e:a2X Q kd cl mg lq n cf args hp=some (T.map nn)) {r:SV×List Blk} (hr:nn (hid T.val)=r) (hk:hid T.okv=true):cf.runK R n args hp=some r:=by
 rw[dP]at hr hk;have:=a2Y hQ hL e (by rw[Pt.okv_map];exact hk)
 rw[this,Pt.val_map,hr]
noncomputable def fnZ(Q:Qt)(kd:List (Nat×List Kd))(cl:List Nat)(mg:Bool)(lq:Lp)(n:Nat)(cf:Zq.Fn)(args:List SV):Option (Pt (SV×List Blk)):=
 (fnP Q kd cl mg lq n cf args []).bind fun t=>t.bindO fun r=>(aJD r.2 r.1).bind fun v=>some (.ok v.2 (.leaf (v.1,[])))
theorem bW1{R:Rt}{Q:Qt}(hQ:X2 (cY R) Q){kd:List (Nat×List Kd)}{cl:List Nat}{mg:Bool}{lq:Lp}{n:Nat}{cf:Zq.Fn}{args:List SV}{γ:Type}{T:Pt γ}{nn:γ→SV×List Blk}{f:FuncId}
  (hL:eS (fun live x=>cK (lH lq (kH x)) (eY R (cW []) n (.loop live x))) cf.body) (e:fnZ Q kd cl mg lq n cf args=some (T.map nn)) {r:SV×List Blk} (hr:nn (hid T.val)=r) (hk:hid T.okv=true) (hR: ∀r,cf.run R n args []=some r→R f args []=some r):cY R (f+100000) args []=some r:=by
 rw[dP]at hr hk;unfold fnZ at e;simp only[Option.bind_eq_some_iff]at e;obtain⟨t,ht,e⟩:=e;obtain⟨k1,w,hw,k2,k3⟩:=Pt.bindO_val e (by rw[Pt.okv_map];exact hk)
 have hrun:=hR _ (aQV hQ hL ht k1);simp only[Option.bind_eq_some_iff,Option.some.injEq]at hw;obtain⟨v,hv,rfl⟩:=hw;obtain⟨o1,-⟩:=aS k2;rw[Pt.val_map,hr]at k3;rw[a2D,hrun];simp only[Option.bind_some,aYC (r:=v.1) (by rw[hv,←o1])]
 rw[k3];rfl
end Go.Zq

namespace Go.Zq
open Go
def Pt.Sat{α:Type}(P:α→Prop):Pt α→Prop
 | .leaf a=>P a
 | .br b x y=>(b=true→x.Sat P)∧(b=false→y.Sat P)
 | .ok b x=>b=true∧x.Sat P
theorem Pt.sat_ok{α:Type}{P:α→Prop}: ∀{t:Pt α},t.Sat P→t.okv=true∧P t.val
 | .leaf a,h=>⟨rfl,h⟩
 | .br b x y,h=>by
   cases b
   ·exact Pt.sat_ok (t:=y) (h.2 rfl)
   ·exact Pt.sat_ok (t:=x) (h.1 rfl)
 | .ok b x,h=>by
   obtain⟨h1,h2⟩:=Pt.sat_ok (t:=x) h.2;exact⟨by simp only[Pt.okv,h.1,h1];rfl,h2⟩
theorem aF{α:Type}{P:α→Prop}{t:Pt α}(h:t.Sat P):hid t.okv=true∧P (hid t.val):=by
 rw[dP,dP];exact Pt.sat_ok h
@[simp] theorem aJ{α:Type}{P:α→Prop}{a:α}:(Pt.leaf a).Sat P=P a:=rfl
@[simp] theorem cB{α:Type}{P:α→Prop}{b:Bool}{x y:Pt α}:(Pt.br b x y).Sat P=((b=true→x.Sat P)∧(b=false→y.Sat P)):=rfl
@[simp] theorem aQ{α:Type}{P:α→Prop}{b:Bool}{x:Pt α}:(Pt.ok b x).Sat P=(b=true∧x.Sat P):=rfl
@[simp] theorem pJ{α:Type}{a:α}:(Pt.leaf a).okv=true:=rfl
@[simp] theorem JF{α:Type}{b:Bool}{x y:Pt α}:(Pt.br b x y).okv=bif b then x.okv else y.okv:=rfl
@[simp] theorem zJ{α:Type}{b:Bool}{x:Pt α}:(Pt.ok b x).okv=(b&&x.okv):=rfl
@[simp] theorem kA{α:Type}{a:α}:(Pt.leaf a).val=a:=rfl
@[simp] theorem JG{α:Type}{b:Bool}{x y:Pt α}:(Pt.br b x y).val=bif b then x.val else y.val:=rfl
@[simp] theorem rM{α:Type}{b:Bool}{x:Pt α}:(Pt.ok b x).val=x.val:=rfl
@[simp] theorem b2Q{a b:Nat}:cV a b=true↔a=b:=by simp[cV]
@[simp] theorem dS{a:Nat}:cV a a=true:=by simp[cV]
@[simp] theorem nE{a b:Nat}:lJ a b=true↔a≤b:=by simp[lJ]
@[simp] theorem b0G{a b:Nat}:jW a b=true↔a=b:=by simp[jW]
@[simp] theorem b2R{a b:Nat}:blt a b=true↔a<b:=by simp[blt]
@[simp] theorem hH{α:Type}(a:α):same a a=true:=mE a
@[simp] theorem eV(a:List Row):R0 a a=true:=aJI a
@[simp] theorem dL{a b:Int}:eqI a b=true↔a=b:=by simp[eqI]
@[simp] theorem hJ{a b:Int}:eqI a b=false↔a≠b:=by simp[eqI]
@[simp] theorem nF{a b:Int}:cU a b=true↔a≠b:=by simp[cU]
@[simp] theorem O1{a b:Int}:cU a b=false↔a=b:=by simp[cU]
@[simp] theorem dM{a b:Int}:ltI a b=true↔a<b:=by simp[ltI]
@[simp] theorem mB{a b:Int}:ltI a b=false↔b≤a:=by simp[ltI]
@[simp] theorem gZ{a b:Int}:leI a b=true↔a≤b:=by simp[leI]
@[simp] theorem YW{a b:Int}:leI a b=false↔b<a:=by simp[leI]
@[simp] theorem nG{a b:Int}:kV a b=true↔b<a:=by simp[kV]
@[simp] theorem G2{a b:Int}:kV a b=false↔a≤b:=by simp[kV]
@[simp] theorem PT{a b:Int}:geI a b=true↔b≤a:=by simp[geI]
@[simp] theorem aWJ{a b:Int}:geI a b=false↔a<b:=by simp[geI]
@[simp] theorem b2S{a b:Bool}:yF a b=true↔a=b:=by simp[yF]
@[simp] theorem aP{r:List Row}:bN r=(r.length:Int):=rfl
@[simp] theorem b2T{n:Nat}:b3F n=(n:Int):=rfl
@[simp] theorem aER{a b:Nat}:mA a b=a*b:=rfl
@[simp] theorem b2U{a b:Nat}:b3E a b=min a b:=rfl
@[simp] theorem b2V{a b:Int}:b3C a b=a*b:=rfl
theorem bJ{x y:Int}(h: -9223372036854775808≤x+y∧x+y<9223372036854775808):aV x y=x+y:=by
 unfold aV;rw[IntKind.wrap_i64];omega
theorem eK{x y:Int}(h: -9223372036854775808≤x-y∧x-y<9223372036854775808):cF x y=x-y:=by
 unfold cF;rw[IntKind.wrap_i64];omega
theorem gH{x y:Int}(h: -9223372036854775808≤x*y∧x*y<9223372036854775808):cX x y=x*y:=by
 unfold cX;rw[IntKind.wrap_i64];omega
theorem aWK{x:Int}(h: -9223372036854775808≤x∧x<9223372036854775808):wA .i64 x=x:=by
 unfold wA;rw[IntKind.wrap_i64];omega
theorem PU{x n:Int}(h0:0≤x)(h1:0<n):0≤kD x n∧kD x n<n:=by
 unfold kD;rw[Int.tmod_eq_emod_of_nonneg h0];exact⟨Int.emod_nonneg _ (by omega),Int.emod_lt_of_pos _ h1⟩
def Num(r:List Row):Prop:= ∃zs:List Int,r=ri zs
theorem BY{z:Int}{zs:List Int}:ri (z::zs)=aL z::ri zs:=rfl
theorem EE:ri []=[]:=rfl
theorem bUI{r:List Row}(h:Num r){j:Int}(h0:0≤j)(h1:j<(r.length:Int)):fU [.int .i64] r j=true:=by
 obtain⟨a,rfl⟩:=h;rw[aY]at h1;have hj:j.toNat<a.length:=by omega
 have:=bL5 (xs:=a) (j:=j.toNat) (d:=a[j.toNat]) (List.getElem?_eq_getElem hj)
 rwa [Int.toNat_of_nonneg h0]at this
theorem FY{r:List Row}(h:Num r){j:Nat}(h1:j<r.length):dO [.int .i64] r j 0=true:=by
 obtain⟨a,rfl⟩:=h;rw[aY]at h1;exact a21 (d:=a[j]) (List.getElem?_eq_getElem h1)
structure CurOk(B:Int)(code:List Row)(p:Int):Prop where
 code:bytesOk code=true
 lo:0≤p
 hi:p≤B
theorem CurOk.mono{B C:Int}{code:List Row}{p:Int}(h:CurOk B code p)(hB:B≤C):CurOk C code p:=⟨h.1,h.2,by have:=h.3;omega⟩
theorem eC{V:Type}{N:V→Pt (Option V)}(Inv:Nat→V→Prop)(Post:V→Prop)(h: ∀n v,Inv n v→(N v).Sat fun r=>match r with|none=>Post v|some v'=> ∃m,m<n∧Inv m v'):
  ∀(k n:Nat)(v:V),Inv n v→n<k→ ∃w,dB N k v=some w∧Post w
 |0,n,v,hi,hk=>by omega
 |k+1,n,v,hi,hk=>by
  obtain⟨h1,h2⟩:=Pt.sat_ok (h n v hi);unfold dB;rw[h1,cond_true];cases hv:(N v).val with
  |none=>rw[hv]at h2;exact⟨v,rfl,h2⟩
  |some v'=>
   rw[hv]at h2;obtain⟨m,hm,hi'⟩:=h2;exact eC Inv Post h k m v' hi' (by omega)
theorem gP{V:Type}{N:V→Pt (Option V)}{Post:V→Prop}{k:Nat}{v:V}(h: ∃w,dB N k v=some w∧Post w):(hid (dB N k v)).isSome=true∧Post ((hid (dB N k v)).getD v):=by
 obtain⟨w,hw,hp⟩:=h;rw[dP,hw];exact⟨rfl,hp⟩
def cA(x a b:Int):Bool:=decide (a≤x)&&decide (x≤b)
@[simp] theorem aM{x a b:Int}:cA x a b=true↔a≤x∧x≤b:=by simp[cA]
def cZ(zs:List Int):Bool:=zs.all fun z=>cA z 0 255
theorem mN{zs:List Int}{i:Nat}(h:i<zs.length):bF (ri zs) i 0=zs[i]:=bWX (List.getElem?_eq_getElem h)
theorem zK{v:Int}(h:0≤v)(h1:v<9223372036854775808):aZ v 255=v%256:=by
 have:=Z6 v 8 (by omega)
 exact this
theorem iZ{v:Int}(k:Nat)(m:Int)(hk:k<63)(hm:m=2^k-1):aZ v m=v%2^k:=by
 subst hm;exact Z6 v k hk
theorem kQ{v n:Int}(k:Nat)(hn:n=(k:Int))(hk:k≤64):eW v n=v/2^k:=by
 subst hn;unfold eW;rw[Int.toNat_natCast,Nat.min_eq_left hk,Int.fdiv_eq_ediv_of_nonneg _ (Int.le_of_lt (Int.pow_pos (by omega)))]
theorem bKK{v:Int}(h:0≤v)(h1:v<65536):nL v 8=v*256:=by
 unfold nL;rw[show((2:Int)^min (Int.toNat 8) 64)=256 from by decide,IntKind.wrap_i64]
 omega
theorem VF{q r:Int}(hq:0≤q)(hq1:q<65536)(hr:0≤r)(hr1:r<256):eT (q*256) r=q*256+r:=by
 obtain⟨a,rfl⟩:=Int.eq_ofNat_of_zero_le hq;obtain⟨b,rfl⟩:=Int.eq_ofNat_of_zero_le hr;unfold eT;rw[BitVec.toNat_or,BitVec.toNat_ofInt,BitVec.toNat_ofInt];have e1:(((a:Int)*256)%((2^64:Nat):Int)).toNat=2^8*a:=by omega
 have e2:((b:Int)%((2^64:Nat):Int)).toNat=b:=by omega
 rw[e1,e2,←Nat.two_pow_add_eq_or_of_lt (by omega),IntKind.wrap_i64]
 omega
theorem bUJ{v:Int}(h:0≤v):kD v 2=v%2:=by
 unfold kD;exact Int.tmod_eq_emod_of_nonneg h
theorem b0H{v:Int}:aZ v 1=v%2:=by
 have:=Z6 v 1 (by omega)
 simpa [aZ]using this
theorem dT{zs:List Int}{i:Nat}{z:Int}:(ri zs).set i (aL z)=ri (zs.set i z):=by
 simp only[ri,List.map_set];rfl
theorem x4{zs:List Int}{i:Nat}(h:i<zs.length):jX (ri zs) i=1:=by
 unfold jX;rw[Z5 (List.getElem?_eq_getElem h)];rfl
theorem rN{zs:List Int}{i:Nat}(h:i<zs.length):fU [.int .i64] (ri zs) (i:Int)=true:=bL5 (d:=zs[i]) (List.getElem?_eq_getElem h)
theorem bG{α:Type}{P:α→Prop}:(∀a,(Pt.leaf a).Sat P=P a)∧(∀b x y,(Pt.br b x y).Sat P=((b=true→x.Sat P)∧(b=false→y.Sat P)))∧(∀b x,(Pt.ok b x).Sat P=(b=true∧x.Sat P))∧(∀x,(ot x).Sat P=x.Sat P):=⟨fun _=>rfl,fun _ _ _=>rfl,fun _ _=>rfl,fun x=>true_and (x.Sat P)|>fun h=>(by rw[show(ot x).Sat P=(true=true∧x.Sat P)from rfl];simp)⟩
theorem bX:(∀p:Prop,(True∧p)=p)∧(∀p:Prop,(p∧True)=p)∧(∀p:Prop,(False→p)=True)∧(∀p:Prop,(True→p)=p)∧(∀p:Prop,(p→True)=True)∧(true=true)=True∧(false=false)=True∧(false=true)=False∧(true=false)=False∧(∀b,(b&&true)=b)∧(∀b,(true&&b)=b)∧(∀b,(b||true)=true)∧(∀b,(true||b)=true)∧(∀b,(b||false)=b)∧(∀b,(b&&b)=b)∧(!true)=false∧(!false)=true∧(∀a,cV a a=true)∧(∀a,e1 a=true)∧(∀a,R0 a a=true)∧(∀a,r1 a=true):=by simp
theorem dW:(∀p:Prop,(True∧p)=p)∧(∀b,(b&&true)=b)∧(∀b,(true&&b)=b)∧(∀b,(b||true)=true)∧(∀b,(true||b)=true)∧(∀b,(b||false)=b)∧(∀b,(b&&b)=b)∧(!true)=false∧(!false)=true∧(∀a,cV a a=true)∧(∀a,e1 a=true)∧(∀a,R0 a a=true)∧(∀a,r1 a=true):=by simp
theorem bZ{α:Type}:(∀a b:α,cond true a b=a)∧(∀a b:α,cond false a b=b)∧(∀a:α,same a a=true)∧(∀a:α,s1 a=true):=by simp
end Go.Zq
