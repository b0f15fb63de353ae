import Derived.Test.YtdipcnijfkdnfaaGreatZmb
set_option linter.unusedVariables false
set_option linter.unusedSimpArgs false
namespace Go.Zq
open Option renaming bind_eq_some_iff → qB
open Option.some renaming injEq → qI
open Prod.mk renaming injEq → qP
open Go
theorem aT{a b:Bool}(h:(a&&b)=true):a=true∧b=true:=by simpa using h
def xI:List Src→Nat→Nat→Nat→Nat→Option (Nat×Bool)
 |[],_,_,_,_=>none
 | .lst id o l::r,k,j,off,len=>if id=j then some (k,decide (o=off)&&decide (l=len))else xI r (k+1) j off len
 |_::r,k,j,off,len=>xI r (k+1) j off len
theorem qO: ∀{l:List Src}{k j off len n:Nat},xI l k j off len=some (n,true)→oN l k j off len=some n
 |[],k,j,off,len,n,h=>by simp[xI]at h
 | .lst id o l::r,k,j,off,len,n,h=>by
   simp only[xI]at h;simp only[oN];split at h
   ·rename_i e;simp only[qI,qP,Bool.and_eq_true,decide_eq_true_eq]at h;rw[if_pos ⟨e,h.2.1,h.2.2⟩,h.1]
   ·rename_i e;rw[if_neg (fun x=>e x.1)]
    exact qO h
 | .box _ _ _::r,k,j,off,len,n,h=>qO (l:=r) h
 | .nil _::r,k,j,off,len,n,h=>qO (l:=r) h
def AB(src:List Src)(m:Nat):T→Option ((T×Nat)×Bool)
 | .lit v=>some ((.lit v,m),true)
 | .nls _=>(MA src 0 m).bind fun k=>some ((.sl k 0 0,m+1),true)
 | .sl id off len=>(xI src 0 id off len).bind fun k=>some ((.sl k.1 0 len,m),k.2)
 | .imm p n rows=>some ((.imm p n rows,m),true)
 | .clo f caps=>(vA src caps).bind fun caps=>some ((.clo f caps,m),true)
 | .ptr id row off=>(HT src (.ptr id row off)).bind fun t=>some ((t,m),true)
 | .ip _=>none
theorem AM{src:List Src}{m:Nat}{t:T}{r:T×Nat}(h:AB src m t=some (r,true)):ren src m t=some r:=by
 cases t with
 |lit v=>simpa [AB,ren]using h
 |nls n=>
  simp only[AB,qB,qI,qP,and_true]at h;obtain⟨k,hk,rfl⟩:=h;simp[ren,hk]
 |sl id off len=>
  simp only[AB,qB,qI,qP]at h;obtain⟨k,hk,rfl,h2⟩:=h;have:=qO (n:=k.1) (by rw[hk,←h2])
  simp[ren,this]
 |imm p n rows=>simpa [AB,ren]using h
 |clo f caps=>
  simp only[AB,qB,qI,qP,and_true]at h;obtain⟨k,hk,rfl⟩:=h;simp[ren,hk]
 |ptr id row off=>
  simp only[AB,qB,qI,qP,and_true]at h;obtain⟨k,hk,rfl⟩:=h;simp[ren,hk]
 |ip _=>simp[AB]at h
def lE(src:List Src)(m:Nat):Row→Option ((Row×Nat)×Bool)
 |[]=>some (([],m),true)
 |t::r=>(AB src m t).bind fun x=>(lE src x.1.2 r).bind fun y=>some ((x.1.1::y.1.1,y.1.2),x.2&&y.2)
theorem kC{src:List Src}: ∀{m:Nat}{t:Row}{r:Row×Nat},lE src m t=some (r,true)→iF src m t=some r
 |m,[],r,h=>by simpa [lE,iF]using h
 |m,t::s,r,h=>by
  simp only[lE,qB,qI,qP]at h;obtain⟨x,hx,y,hy,rfl,ho⟩:=h;obtain⟨o1,o2⟩:=aT ho;have h1:=AM (r:=x.1) (by rw[hx,←o1])
  have h2:=kC (r:=y.1) (by rw[hy,←o2])
  simp[iF,h1,h2]
def m7(wm:Bool)(hp:List Blk):T→Option (List Row×Bool)
 | .nls _=>some ([],true)
 | .imm _ _ rows=>some (rows,true)
 | .sl id off len=>
   match hp[id]? with
   |some (.lst _ rows)=>if wm=true then some (rows,decide (off=0)&&decide (len=rows.length))else some ((rows.drop off).take len,decide (off+len≤rows.length))
   |_=>none
 |_=>none
theorem kD{wm:Bool}{hp:List Blk}{t:T}{r:List Row}(h:m7 wm hp t=some (r,true)):bR hp t=some r:=by
 unfold m7 at h;unfold bR;split at h
 ·simpa using h
 ·simpa using h
 ·split at h
  ·rename_i hb;simp only[hb];split at h
   ·simp only[qI,qP,Bool.and_eq_true,decide_eq_true_eq]at h;obtain⟨rfl,rfl,rfl⟩:=h;simp
   ·simp only[qI,qP,decide_eq_true_eq]at h;rw[if_pos h.2,h.1]
  ·simp at h
 ·simp at h
def sB(wm:Bool)(hp:List Blk)(src:List Src):T→Option (T×Bool)
 | .lit v=>some (.lit v,true)
 | .nls n=>some (.imm false n [],true)
 | .imm p n rows=>some (.imm p n rows,true)
 | .sl id off len=>(fG hp (.sl id off len)).bind fun n=>(m7 wm hp (.sl id off len)).bind fun rows=>if src.all (OD id)then some (.imm false n rows.1,rows.2)else none
 | .clo f caps=>(vA src caps).bind fun caps=>some (.clo f caps,true)
 | .ptr id row off=>(HT src (.ptr id row off)).bind fun t=>some (t,true)
 | .ip _=>none
theorem MS{wm:Bool}{hp:List Blk}{src:List Src}{t r:T}(h:sB wm hp src t=some (r,true)):oO hp src t=some r:=by
 cases t with
 |lit v=>simpa [sB,oO]using h
 |nls n=>simpa [sB,oO]using h
 |sl id off len=>
  simp only[sB,qB]at h;obtain⟨n,hn,rows,hr,h⟩:=h;split at h
  ·rename_i e;simp only[qI,qP]at h;have:=kD (r:=rows.1) (by rw[hr,←h.2])
   simp[oO,hn,this,e,h.1]
  ·simp at h
 |imm p n rows=>simpa [sB,oO]using h
 |clo f caps=>
  simp only[sB,qB,qI,qP,and_true]at h;obtain⟨k,hk,rfl⟩:=h;simp[oO,hk]
 |ptr id row off=>
  simp only[sB,qB,qI,qP,and_true]at h;obtain⟨k,hk,rfl⟩:=h;simp[oO,hk]
 |ip _=>simp[sB]at h
def oZ(wm:Bool)(hp:List Blk)(src:List Src):Row→Option (Row×Bool)
 |[]=>some ([],true)
 |t::r=>(sB wm hp src t).bind fun t=>(oZ wm hp src r).bind fun r=>some (t.1::r.1,t.2&&r.2)
theorem zL{wm:Bool}{hp:List Blk}{src:List Src}: ∀{t r:Row},oZ wm hp src t=some (r,true)→kX hp src t=some r
 |[],r,h=>by simpa [oZ,kX]using h
 |t::s,r,h=>by
  simp only[oZ,qB,qI,qP]at h;obtain⟨x,hx,y,hy,rfl,ho⟩:=h;obtain⟨o1,o2⟩:=aT ho;have h1:=MS (r:=x.1) (by rw[hx,←o1])
  have h2:=zL (r:=y.1) (by rw[hy,←o2])
  simp[kX,h1,h2]
def fN(wm:Bool)(hp:List Blk)(src:List Src):Nat→List Src→Option ((List Blk×Nat)×Bool)
 |m,[]=>some (([],m),true)
 |m,s::r=>
  match s with
  | .box id off n=>
    (lE src m (i5 hp (.box id off n))).bind fun x=>(fN wm hp src x.1.2 r).bind fun y=>some ((.box x.1.1::y.1.1,y.1.2),x.2&&y.2)
  | .lst id off len=>
    (fG hp (.sl id off len)).bind fun n=>(m7 wm hp (.sl id off len)).bind fun rows=>(fN wm hp src m r).bind fun y=>some ((.lst n rows.1::y.1.1,y.1.2),rows.2&&y.2)
  | .nil n=>(fN wm hp src m r).bind fun y=>some ((.lst n []::y.1.1,y.1.2),y.2)
theorem gV{wm:Bool}{hp:List Blk}{src:List Src}: ∀{l:List Src}{m:Nat}{r:List Blk×Nat},fN wm hp src m l=some (r,true)→cA hp src m l=some r
 |[],m,r,h=>by simpa [fN,cA]using h
 | .box id off n::s,m,r,h=>by
   simp only[fN,qB,qI,qP]at h;obtain⟨x,hx,y,hy,rfl,ho⟩:=h;obtain⟨o1,o2⟩:=aT ho;have h1:=kC (r:=x.1) (by rw[hx,←o1])
   have h2:=gV (r:=y.1) (by rw[hy,←o2])
   simp[cA,h1,h2]
 | .lst id off len::s,m,r,h=>by
   simp only[fN,qB,qI,qP]at h;obtain⟨n,hn,x,hx,y,hy,rfl,ho⟩:=h;obtain⟨o1,o2⟩:=aT ho;have h1:=kD (r:=x.1) (by rw[hx,←o1])
   have h2:=gV (r:=y.1) (by rw[hy,←o2])
   simp[cA,hn,h1,h2]
 | .nil n::s,m,r,h=>by
   simp only[fN,qB,qI,qP]at h;obtain⟨y,hy,rfl,ho⟩:=h;have h2:=gV (r:=y.1) (by rw[hy,←ho])
   simp[cA,h2]
def hJ(wm:Bool)(hp:List Blk)(src:List Src):Nat→List (SV×Nat×Bool)→Option (List SV×Bool)
 |_,[]=>some ([],true)
 |m,(v,_,mv)::r=>
  match v with
  | .one t=>
    if mv then(AB src m t).bind fun x=>(hJ wm hp src x.1.2 r).bind fun r=>some (.one x.1.1::r.1,x.2&&r.2)
    else(sB wm hp src t).bind fun x=>(hJ wm hp src m r).bind fun r=>some (.one x.1::r.1,x.2&&r.2)
  | .agg ts=>
    if mv then(lE src m ts).bind fun x=>(hJ wm hp src x.1.2 r).bind fun r=>some (.agg x.1.1::r.1,x.2&&r.2)
    else(oZ wm hp src ts).bind fun x=>(hJ wm hp src m r).bind fun r=>some (.agg x.1::r.1,x.2&&r.2)
  |_=>none
theorem gW{wm:Bool}{hp:List Blk}{src:List Src}: ∀{vs:List (SV×Nat×Bool)}{m:Nat}{r:List SV},hJ wm hp src m vs=some (r,true)→eW hp src m vs=some r
 |[],m,r,h=>by simpa [hJ,eW]using h
 |(v,n,mv)::s,m,r,h=>by
  unfold hJ at h;unfold eW;split at h
  ·cases mv
   ·simp only[Bool.false_eq_true,if_false,qB,qI,qP]at h⊢;obtain⟨x,hx,y,hy,rfl,ho⟩:=h;obtain⟨o1,o2⟩:=aT ho;exact⟨x.1,MS (by rw[hx,←o1]),y.1,gW (by rw[hy,←o2]),rfl⟩
   ·simp only[if_true,qB,qI,qP]at h⊢;obtain⟨x,hx,y,hy,rfl,ho⟩:=h;obtain⟨o1,o2⟩:=aT ho;exact⟨x.1,AM (by rw[hx,←o1]),y.1,gW (by rw[hy,←o2]),rfl⟩
  ·cases mv
   ·simp only[Bool.false_eq_true,if_false,qB,qI,qP]at h⊢;obtain⟨x,hx,y,hy,rfl,ho⟩:=h;obtain⟨o1,o2⟩:=aT ho;exact⟨x.1,zL (by rw[hx,←o1]),y.1,gW (by rw[hy,←o2]),rfl⟩
   ·simp only[if_true,qB,qI,qP]at h⊢;obtain⟨x,hx,y,hy,rfl,ho⟩:=h;obtain⟨o1,o2⟩:=aT ho;exact⟨x.1,kC (by rw[hx,←o1]),y.1,gW (by rw[hy,←o2]),rfl⟩
  ·simp at h
def H7:List Src→Nat→Nat→Nat→Option Bool
 |[],_,_,_=>none
 | .lst id o l::r,j,off,len=>if id=j then some (decide (o=off)&&decide (l=len))else H7 r j off len
 |_::r,j,off,len=>H7 r j off len
theorem qQ: ∀{l:List Src}{j off len:Nat},H7 l j off len=some true→Src.lst j off len∈l
 |[],j,off,len,h=>by simp[H7]at h
 | .lst id o l::r,j,off,len,h=>by
   simp only[H7]at h;split at h
   ·rename_i e;simp only[qI,Bool.and_eq_true,decide_eq_true_eq]at h;rw[e,h.1,h.2];exact List.mem_cons_self ..
   ·exact List.mem_cons_of_mem _ (qQ h)
 | .box _ _ _::r,j,off,len,h=>List.mem_cons_of_mem _ (qQ (l:=r) h)
 | .nil _::r,j,off,len,h=>List.mem_cons_of_mem _ (qQ (l:=r) h)
theorem qR: ∀{l:List Src}{j off len:Nat},H7 l j off len=none→Src.lst j off len∉l
 |[],j,off,len,h=>by simp
 | .lst id o l::r,j,off,len,h=>by
   simp only[H7]at h;split at h
   ·simp at h
   ·rename_i e;simp only[List.mem_cons,Src.lst.injEq,not_or];exact⟨fun x=>e x.1.symm,qR h⟩
 | .box _ _ _::r,j,off,len,h=>by
   simp only[List.mem_cons,reduceCtorEq,false_or];exact qR (l:=r) h
 | .nil _::r,j,off,len,h=>by
   simp only[List.mem_cons,reduceCtorEq,false_or];exact qR (l:=r) h
def B9(l:List Src×Bool):T→List Src×Bool
 | .sl id off len=>match H7 l.1 id off len with
   |some b=>(l.1,b&&l.2)
   |none=>(l.1++[.lst id off len],l.2)
 | .nls n=>(l.1++[.nil n],l.2)
 |_=>l
theorem aBZ{l:List Src×Bool}{t:T}(h:(B9 l t).2=true):l.2=true∧(B9 l t).1=L9 l.1 t:=by
 cases t with
 |sl id off len=>
  simp only[B9]at h⊢;cases hl:H7 l.1 id off len with
  |none=>
   simp only[hl]at h⊢;refine⟨h,?_⟩;simp only[L9,aAS,qR hl,if_false]
  |some b=>
   simp only[hl]at h⊢;obtain⟨h1,h2⟩:=aT h;subst h1;refine⟨h2,?_⟩;simp only[L9,aAS,qQ hl,if_true]
 |_=>exact⟨h,rfl⟩
theorem xJ: ∀{ts:Row}{l:List Src×Bool},(ts.foldl B9 l).2=true→l.2=true∧(ts.foldl B9 l).1=ts.foldl L9 l.1
 |[],l,h=>⟨h,rfl⟩
 |t::r,l,h=>by
  rw[List.foldl_cons]at h;obtain⟨h1,h2⟩:=xJ h;obtain⟨h3,h4⟩:=aBZ h1;refine⟨h3,?_⟩;rw[List.foldl_cons,h2,h4,List.foldl_cons]
def qT(hp:List Blk)(bx:List Src)(cells:Row):List Src×Bool:=
 let bx:=BA hp 6 0 bx
 let r:=cells.foldl B9 ((bx.flatMap (i5 hp)).foldl B9 ([],true))
 (bx++r.1,r.2)
theorem tD{hp:List Blk}{bx:List Src}{cells:Row}(h:(qT hp bx cells).2=true):(qT hp bx cells).1=sO hp bx cells:=by
 unfold qT at h⊢;simp only at h⊢;obtain⟨h1,h2⟩:=xJ h;obtain⟨-,h4⟩:=xJ h1;rw[h2,h4];rfl
def O0(wm:Bool)(hp:List Blk)(vs:List (SV×Nat×Bool)):Option (Ent×Bool):=
 let src:=qT hp (vs.foldl (fun l v=>(dV v.1).foldl (HS hp v.2.1) l) []) (vs.flatMap fun v=>if v.2.2 then dV v.1 else [])
 if f9 hp src.1 then
  (fN wm hp src.1 0 src.1).bind fun x=>(hJ wm hp src.1 x.1.2 vs).bind fun args=>some (⟨args.1,x.1.1,src.1,vs.any lR⟩,src.2&&(x.2&&args.2))
 else none
theorem Y4{wm:Bool}{hp:List Blk}{vs:List (SV×Nat×Bool)}{e:Ent}(h:O0 wm hp vs=some (e,true)):enter hp vs=some e:=by
 unfold O0 at h;simp only at h;split at h
 ·rename_i hs;simp only[qB,qI,qP]at h;obtain⟨x,hx,y,hy,rfl,ho⟩:=h;obtain⟨o1,ho⟩:=aT ho;obtain⟨o2,o3⟩:=aT ho;have hg:=tD o1;have h1:=gV (r:=x.1) (by rw[hx,←o2])
  have h2:=gW (r:=y.1) (by rw[hy,←o3])
  rw[hg]at hs h1 h2;unfold enter;simp only;rw[if_pos hs];simp only[h1,h2,Option.bind_some,hg]
 ·simp at h
def jQ(src:List Src):Nat→List SV→Option (List SV×Bool)
 |_,[]=>some ([],true)
 |m, .one t::r=>(AB src m t).bind fun x=>(jQ src x.1.2 r).bind fun r=>some (.one x.1.1::r.1,x.2&&r.2)
 |m, .agg ts::r=>(lE src m ts).bind fun x=>(jQ src x.1.2 r).bind fun r=>some (.agg x.1.1::r.1,x.2&&r.2)
 |_,_::_=>none
theorem tE{src:List Src}: ∀{vs:List SV}{m:Nat}{r:List SV},jQ src m vs=some (r,true)→gP src m vs=some r
 |[],m,r,h=>by simpa [jQ,gP]using h
 | .one t::s,m,r,h=>by
   simp only[jQ,qB,qI,qP]at h;obtain⟨x,hx,y,hy,rfl,ho⟩:=h;obtain⟨o1,o2⟩:=aT ho;have h1:=AM (r:=x.1) (by rw[hx,←o1])
   have h2:=tE (r:=y.1) (by rw[hy,←o2])
   simp[gP,h1,h2]
 | .agg t::s,m,r,h=>by
   simp only[jQ,qB,qI,qP]at h;obtain⟨x,hx,y,hy,rfl,ho⟩:=h;obtain⟨o1,o2⟩:=aT ho;have h1:=kC (r:=x.1) (by rw[hx,←o1])
   have h2:=tE (r:=y.1) (by rw[hy,←o2])
   simp[gP,h1,h2]
 | .und::s,m,r,h=>by simp[jQ]at h
 | .tup _::s,m,r,h=>by simp[jQ]at h
def H8(wm:Bool)(nb:Nat)(σ:St)(vs:List SV):Option ((SV×List Blk)×Bool):=
 let src:=qT σ.hp ((vs.flatMap dV).foldl (HS σ.hp 0) (dT σ.hp nb)) (vs.flatMap dV)
 if f9 σ.hp src.1=true∧src.1.take nb=dT σ.hp nb then
  (fN wm σ.hp src.1 0 src.1).bind fun x=>(jQ src.1 x.1.2 vs).bind fun vs=>some ((a7G vs.1,x.1.1),src.2&&(x.2&&vs.2))
 else none
theorem G1{wm:Bool}{nb:Nat}{σ:St}{vs:List SV}{r:SV×List Blk}(h:H8 wm nb σ vs=some (r,true)):leave nb σ vs=some r:=by
 unfold H8 at h;simp only at h;split at h
 ·rename_i hs;simp only[qB,qI,qP]at h;obtain⟨x,hx,y,hy,rfl,ho⟩:=h;obtain⟨o1,ho⟩:=aT ho;obtain⟨o2,o3⟩:=aT ho;have hg:=tD o1;have h1:=gV (r:=x.1) (by rw[hx,←o2])
  have h2:=tE (r:=y.1) (by rw[hy,←o3])
  rw[hg]at hs h1 h2;unfold leave;simp only;rw[if_pos hs];simp only[h1,h2,Option.bind_some];rfl
 ·simp at h
def m8(σ:St)(src:List Src):Nat→List Nat→Option (List (Nat×SV)×Bool)
 |_,[]=>some ([],true)
 |m,s::r=>(aM s σ.sl).bind fun v=>match v with
  | .one t=>(AB src m t).bind fun x=>(m8 σ src x.1.2 r).bind fun l=>some ((s, .one x.1.1)::l.1,x.2&&l.2)
  | .agg ts=>(lE src m ts).bind fun x=>(m8 σ src x.1.2 r).bind fun l=>some ((s, .agg x.1.1)::l.1,x.2&&l.2)
  | .und=>(m8 σ src m r).bind fun l=>some ((s, .und)::l.1,l.2)
  |_=>none
theorem m9{σ:St}{src:List Src}: ∀{l:List Nat}{m:Nat}{r:List (Nat×SV)},m8 σ src m l=some (r,true)→eX σ src m l=some r
 |[],m,r,h=>by simpa [m8,eX]using h
 |s::t,m,r,h=>by
  simp only[m8,qB]at h;obtain⟨v,hv,h⟩:=h;simp only[eX,hv,Option.bind_some];split at h
  ·simp only[qB,qI,qP]at h⊢;obtain⟨x,hx,y,hy,rfl,ho⟩:=h;obtain⟨o1,o2⟩:=aT ho;exact⟨x.1,AM (by rw[hx,←o1]),y.1,m9 (by rw[hy,←o2]),rfl⟩
  ·simp only[qB,qI,qP]at h⊢;obtain⟨x,hx,y,hy,rfl,ho⟩:=h;obtain⟨o1,o2⟩:=aT ho;exact⟨x.1,kC (by rw[hx,←o1]),y.1,m9 (by rw[hy,←o2]),rfl⟩
  ·simp only[qB,qI,qP]at h⊢;obtain⟨y,hy,rfl,ho⟩:=h;exact⟨y.1,m9 (by rw[hy,←ho]),rfl⟩
  ·simp at h
def xK(wm:Bool)(nb:Nat)(live:List Nat)(σ:St):Option (St×Bool):=
 let src:=qT σ.hp ((fW σ live).foldl (HS σ.hp 0) (dT σ.hp nb)) (fW σ live)
 if f9 σ.hp src.1=true∧src.1.take nb=dT σ.hp nb then
  (fN wm σ.hp src.1 0 src.1).bind fun x=>(m8 σ src.1 x.1.2 live).bind fun sl=>some (⟨sl.1,x.1.1⟩,src.2&&(x.2&&sl.2))
 else none
theorem qU{wm:Bool}{nb:Nat}{live:List Nat}{σ σ':St}(h:xK wm nb live σ=some (σ',true)):canon nb live σ=some σ':=by
 unfold xK at h;simp only at h;split at h
 ·rename_i hs;simp only[qB,qI,qP]at h;obtain⟨x,hx,y,hy,rfl,ho⟩:=h;obtain⟨o1,ho⟩:=aT ho;obtain⟨o2,o3⟩:=aT ho;have hg:=tD o1;have h1:=gV (r:=x.1) (by rw[hx,←o2])
  have h2:=m9 (r:=y.1) (by rw[hy,←o3])
  rw[hg]at hs h1 h2;unfold canon;simp only;rw[if_pos hs];simp only[h1,h2,Option.bind_some]
 ·simp at h
def aB0(hp:List Blk):T→Option Bool
 | .nls _=>some true
 | .sl id off len=>match hp[id]? with
   |some (.lst _ rows)=>some (decide (off+len=rows.length))
   |_=>none
 |_=>none
theorem aB1{hp:List Blk}{t:T}(h:aB0 hp t=some true):BD hp t=true:=by
 unfold aB0 at h;unfold BD;split at h
 ·rfl
 ·split at h
  ·rename_i hb;simp only[hb];simpa using h
  ·simp at h
 ·simp at h
def aQ5(wm:Bool)(hp:List Blk)(by_ sz:Nat)(t s:T):Option ((SV×List Blk)×Bool):=
 (m7 wm hp t).bind fun xs=>(m7 wm hp s).bind fun ys=>(aB0 hp t).bind fun tl=>
 if fG hp t=some sz∧fG hp s=some sz then
  some ((.one (.sl hp.length 0 (xs.1++ys.1).length),vB hp t++[.lst sz (xs.1++ys.1)]),xs.2&&(ys.2&&(tl&&(decide ((xs.1.length+ys.1.length)*by_≤room)&&decide (xs.1.length+ys.1.length≤room)))))
 else none
theorem aJ1{wm:Bool}{R:Zq.Rt}{ev:Ev}{hp:List Blk}{d by_ sz:Nat}{x y:Opd}{v u:SV}{t s:T}{r:SV×List Blk}(hx:ev x=some v)(ht:eF v=some t)(hy:ev y=some u)(hs:eF u=some s)(h:aQ5 wm hp by_ sz t s=some (r,true)):
  (K.app d by_ sz x y).exec R ev hp=some r:=by
 simp only[aQ5,qB]at h;obtain⟨xs,h1,ys,h2,tl,h3,h⟩:=h;split at h
 ·rename_i hc;simp only[qI,qP,Bool.and_eq_true,decide_eq_true_eq]at h;obtain⟨rfl,o1,o2,o3,o4,o5⟩:=h;subst o3;have e1:=kD (r:=xs.1) (by rw[h1,←o1])
  have e2:=kD (r:=ys.1) (by rw[h2,←o2])
  simp only[K.exec,hx,ht,hy,hs,Option.bind_some,e1,e2];rw[if_pos ⟨aB1 h3,hc.1,hc.2,o4,o5⟩]
 ·simp at h
def aJ2(hp:List Blk):T→Option (Int×Bool)
 | .nls _=>some (0,true)
 | .imm _ _ rows=>some ((rows.length:Int),true)
 | .sl id off len=>match hp[id]? with
   |some (.lst _ rows)=>some ((len:Int),decide (off+len≤rows.length))
   |_=>none
 |_=>none
theorem UC{hp:List Blk}{t:T}{n:Int}(h:aJ2 hp t=some (n,true)): ∃rows,bR hp t=some rows∧(rows.length:Int)=n:=by
 unfold aJ2 at h;unfold bR;split at h
 ·simp only[qI,qP,and_true]at h;exact⟨[],rfl,by simp[←h]⟩
 ·simp only[qI,qP,and_true]at h;exact⟨_,rfl,h⟩
 ·split at h
  ·rename_i hb;simp only[qI,qP,decide_eq_true_eq]at h;refine⟨_,by simp only[hb];rw[if_pos h.2],?_⟩
   rw[←h.1,List.length_take,List.length_drop,Nat.min_eq_left (by omega)]
  ·simp at h
 ·simp at h
def aQ6(hp:List Blk)(sz:Nat)(t:T)(n l h:Int):Option (T×Bool):=
 (match t with
   | .sl id off ln=>if fG hp (.sl id off ln)=some sz then some (.sl id (off+l.toNat) (h.toNat-l.toNat))else none
   | .imm p m rows=>if m=sz then some (.imm p m ((rows.drop l.toNat).take (h.toNat-l.toNat)))else none
   | .nls m=>some (.nls m)
   |_=>none:Option T).map (·,decide (0≤l)&&(decide (l≤h)&&decide (h≤n)))
theorem aJ3{hp:List Blk}{sz:Nat}{t r:T}{rows:List Row}{n l h:Int}(hn:(rows.length:Int)=n)(hc:aQ6 hp sz t n l h=some (r,true)):cut hp sz t rows l h=some r:=by
 simp only[aQ6,Option.map_eq_some_iff,qP,Bool.and_eq_true,decide_eq_true_eq]at hc;obtain⟨x,hx,rfl,h1,h2,h3⟩:=hc;unfold cut;rw[if_pos ⟨h1,h2,by omega⟩]
 exact hx
def aQ7(hp:List Blk)(by_:Nat)(z:Row)(n c:Int):(SV×List Blk)×Bool:=
 ((.one (.sl hp.length 0 n.toNat),hp++[.lst z.length (List.replicate n.toNat z)]),decide (0≤n)&&(decide (n≤c)&&(decide (c*by_≤room)&&decide (c≤room))))
theorem aJ4{R:Zq.Rt}{ev:Ev}{hp:List Blk}{d by_:Nat}{z:Row}{n c:Opd}{v u:SV}{k k':IntKind}{nn cc:Int}{r:SV×List Blk}(hn:ev n=some v)(hv:j5 v=some (k,nn))(hc:ev c=some u)(hu:j5 u=some (k',cc))(h:aQ7 hp by_ z nn cc=(r,true)):
  (K.mks d by_ z n c).exec R ev hp=some r:=by
 simp only[aQ7,qP,Bool.and_eq_true,decide_eq_true_eq]at h;obtain⟨rfl,h1,h2,h3,h4⟩:=h;simp only[K.exec,hn,hv,hc,hu,Option.bind_some];rw[if_pos ⟨h1,h2,h3,h4⟩]
def aQ8(wm:Bool)(hp:List Blk)(sz:Nat)(t s:T):Option ((SV×List Blk)×Bool):=
 match t with
 | .sl id off len=>match hp[id]? with
   |some (.lst n rows)=>(m7 wm hp s).bind fun ys=>if n=sz∧fG hp s=some sz then
     some ((.one (I (min ys.1.length len:Nat)),hp.set id (.lst n (rows.take off++(ys.1.take (min ys.1.length len)++rows.drop (off+min ys.1.length len))))),ys.2&&decide (off+len≤rows.length))
    else none
   |_=>none
 |_=>none
theorem aJ5{R:Zq.Rt}{ev:Ev}{wm:Bool}{hp:List Blk}{d sz:Nat}{x y:Opd}{v u:SV}{t s:T}{r:SV×List Blk}(hx:ev x=some v)(ht:eF v=some t)(hy:ev y=some u)(hs:eF u=some s)(h:aQ8 wm hp sz t s=some (r,true)):
  (K.cpy d sz x y).exec R ev hp=some r:=by
 unfold aQ8 at h;split at h
 ·split at h
  ·rename_i id off len _ n rows hb;simp only[qB]at h;obtain⟨ys,h1,h⟩:=h;split at h
   ·rename_i hc;simp only[qI,qP,Bool.and_eq_true,decide_eq_true_eq]at h;obtain⟨rfl,o1,o2⟩:=h;have e1:=kD (r:=ys.1) (by rw[h1,←o1])
    have e2:bR hp (.sl id off len)=some ((rows.drop off).take len):=by
     simp only[bR,hb];rw[if_pos o2]
    have e3:((rows.drop off).take len).length=len:=by
     rw[List.length_take,List.length_drop];omega
    simp only[K.exec,hx,ht,hy,hs,Option.bind_some,e1,e2,hb,e3];rw[if_pos hc]
   ·simp at h
  ·simp at h
 ·simp at h
def aQ9(hp:List Blk)(sz:Nat)(z:Row)(t:T):Option ((SV×List Blk)×Bool):=
 match t with
 | .sl id off len=>match hp[id]? with
   |some (.lst n rows)=>if n=sz then
     some ((.tup [],hp.set id (.lst n (rows.take off++(List.replicate len z++rows.drop (off+len))))),decide (off+len≤rows.length))
    else none
   |_=>none
 |_=>none
theorem aJ6{R:Zq.Rt}{ev:Ev}{hp:List Blk}{sz:Nat}{z:Row}{x:Opd}{v:SV}{t:T}{r:SV×List Blk}(hx:ev x=some v)(ht:eF v=some t)(h:aQ9 hp sz z t=some (r,true)):
  (K.clr sz z x).exec R ev hp=some r:=by
 unfold aQ9 at h;split at h
 ·split at h
  ·rename_i id off len _ n rows hb;split at h
   ·rename_i hc;simp only[qI,qP,decide_eq_true_eq]at h;obtain⟨rfl,o2⟩:=h;simp only[K.exec,hx,ht,Option.bind_some,hb];rw[if_pos ⟨hc,o2⟩]
   ·simp at h
  ·simp at h
 ·simp at h
end Go.Zq

namespace Go.Zq
open Option renaming bind_eq_some_iff → qB
open Option.some renaming injEq → qI
open Prod.mk renaming injEq → qP
open Option renaming map_eq_some_iff → q_c
open Go
abbrev Qt:=FuncId→List SV→List Blk→Option ((SV×List Blk)×Bool)
def Qt.val(Q:Qt):Rt:=fun f a h=>(Q f a h).map (·.1)
def O1(R:Rt)(Q:Qt):Prop:= ∀f a h r,Q f a h=some (r,true)→R f a h=some r
def O2(b:Bool):Value→Value→Option Value
 | .int k x, .int k' y=>if k=k' then some (.int k (bif b then x else y))else none
 | .bool x, .bool y=>some (.bool (bif b then x else y))
 | .string x, .string y=>some (.string (bif b then x else y))
 |_,_=>none
def H9(b:Bool):T→T→Option T
 | .lit v, .lit u=>(O2 b v u).bind fun v=>some (.lit v)
 | .ptr i r o, .ptr i' r' o'=>if i=i'∧r=r'∧o=o' then some (.ptr i r o)else none
 | .sl i o l, .sl i' o' l'=>if i=i'∧o=o' then some (.sl i o (bif b then l else l'))else none
 | .nls n, .nls n'=>if n=n' then some (.nls n)else none
 | .imm p n rows, .imm p' n' rows'=>if p=p'∧n=n' then some (.imm p n (bif b then rows else rows'))else none
 |_,_=>none
def i8(b:Bool):Row→Row→Option Row
 |[],[]=>some []
 |x::r,y::s=>(H9 b x y).bind fun z=>(i8 b r s).bind fun t=>some (z::t)
 |_,_=>none
def AN(b:Bool):SV→SV→Option SV
 | .und, .und=>some .und
 | .one t, .one u=>(H9 b t u).bind fun t=>some (.one t)
 | .agg ts, .agg us=>(i8 b ts us).bind fun ts=>some (.agg ts)
 |_,_=>none
def kE(b:Bool):List SV→List SV→Option (List SV)
 |[],[]=>some []
 |x::r,y::s=>(AN b x y).bind fun z=>(kE b r s).bind fun t=>some (z::t)
 |_,_=>none
def nA(b:Bool):SV→SV→Option SV
 | .tup vs, .tup us=>(kE b vs us).bind fun vs=>some (.tup vs)
 |v,u=>AN b v u
def CA(b:Bool):Blk→Blk→Option Blk
 | .dead, .dead=>some .dead
 | .box cs, .box ds=>(i8 b cs ds).bind fun cs=>some (.box cs)
 | .lst n rows, .lst n' rows'=>if n=n' then some (.lst n (bif b then rows else rows'))else none
 |_,_=>none
def lF(b:Bool):List Blk→List Blk→Option (List Blk)
 |[],[]=>some []
 |x::r,y::s=>(CA b x y).bind fun z=>(lF b r s).bind fun t=>some (z::t)
 |_,_=>none
theorem Y5{b:Bool}{v u w:Value}(h:O2 b v u=some w):w=bif b then v else u:=by
 unfold O2 at h;split at h
 ·split at h
  ·rename_i k x k' y e;subst e;cases b<;>simp_all
  ·simp at h
 ·cases b<;>simp_all
 ·cases b<;>simp_all
 ·simp at h
theorem G2{b:Bool}{v u w:T}(h:H9 b v u=some w):w=bif b then v else u:=by
 unfold H9 at h;split at h
 ·simp only[qB,qI]at h;obtain⟨z,hz,rfl⟩:=h;rw[Y5 hz];cases b<;>rfl
 ·split at h
  ·rename_i e;obtain⟨rfl,rfl,rfl⟩:=e;cases b<;>simp_all
  ·simp at h
 ·split at h
  ·rename_i e;obtain⟨rfl,rfl⟩:=e;cases b<;>simp_all
  ·simp at h
 ·split at h
  ·rename_i e;subst e;cases b<;>simp_all
  ·simp at h
 ·split at h
  ·rename_i e;obtain⟨rfl,rfl⟩:=e;cases b<;>simp_all
  ·simp at h
 ·simp at h
theorem o6{b:Bool}: ∀{v u w:Row},i8 b v u=some w→w=bif b then v else u
 |[],[],w,h=>by cases b<;>simp_all [i8]
 |x::r,y::s,w,h=>by
  simp only[i8,qB,qI]at h;obtain⟨z,hz,t,ht,rfl⟩:=h;rw[G2 hz,o6 ht];cases b<;>rfl
 |[],_::_,w,h=>by simp[i8]at h
 |_::_,[],w,h=>by simp[i8]at h
theorem CB{b:Bool}{v u w:SV}(h:AN b v u=some w):w=bif b then v else u:=by
 unfold AN at h;split at h
 ·cases b<;>simp_all
 ·simp only[qB,qI]at h;obtain⟨z,hz,rfl⟩:=h;rw[G2 hz];cases b<;>rfl
 ·simp only[qB,qI]at h;obtain⟨z,hz,rfl⟩:=h;rw[o6 hz];cases b<;>rfl
 ·simp at h
theorem zM{b:Bool}: ∀{v u w:List SV},kE b v u=some w→w=bif b then v else u
 |[],[],w,h=>by cases b<;>simp_all [kE]
 |x::r,y::s,w,h=>by
  simp only[kE,qB,qI]at h;obtain⟨z,hz,t,ht,rfl⟩:=h;rw[CB hz,zM ht];cases b<;>rfl
 |[],_::_,w,h=>by simp[kE]at h
 |_::_,[],w,h=>by simp[kE]at h
theorem nB{b:Bool}{v u w:SV}(h:nA b v u=some w):w=bif b then v else u:=by
 unfold nA at h;split at h
 ·simp only[qB,qI]at h;obtain⟨z,hz,rfl⟩:=h;rw[zM hz];cases b<;>rfl
 ·exact CB h
theorem MT{b:Bool}{v u w:Blk}(h:CA b v u=some w):w=bif b then v else u:=by
 unfold CA at h;split at h
 ·cases b<;>simp_all
 ·simp only[qB,qI]at h;obtain⟨z,hz,rfl⟩:=h;rw[o6 hz];cases b<;>rfl
 ·split at h
  ·rename_i e;subst e;cases b<;>simp_all
  ·simp at h
 ·simp at h
theorem nC{b:Bool}: ∀{v u w:List Blk},lF b v u=some w→w=bif b then v else u
 |[],[],w,h=>by cases b<;>simp_all [lF]
 |x::r,y::s,w,h=>by
  simp only[lF,qB,qI]at h;obtain⟨z,hz,t,ht,rfl⟩:=h;rw[MT hz,nC ht];cases b<;>rfl
 |[],_::_,w,h=>by simp[lF]at h
 |_::_,[],w,h=>by simp[lF]at h
def aRA(o:BinOp):Value→Value→Option (Value×Bool)
 | .int k x, .int k' y=>
   match o with
   | .shl=>some (.int k (k.wrap (x*2^min y.toNat k.bits)),decide (0≤y))
   | .shr=>some (.int k (x.fdiv (2^min y.toNat k.bits)),decide (0≤y))
   | .quo=>if k=k' then some (.int k (k.wrap (x.tdiv y)),y !=0)else none
   | .rem=>if k=k' then some (.int k (x.tmod y),y !=0)else none
   |o=>if k=k' then(w7 o k x y).map (·,true)else none
 |v,u=>(w8 o v u).map (·,true)
theorem aJ7{o:BinOp}{v u r:Value}(h:aRA o v u=some (r,true)):w8 o v u=some r:=by
 unfold aRA at h;split at h
 ·rename_i k x k' y;split at h
  ·simp only[qI,qP,decide_eq_true_eq]at h;obtain⟨rfl,hy⟩:=h;simp[w8,show¬y<0 by omega]
  ·simp only[qI,qP,decide_eq_true_eq]at h;obtain⟨rfl,hy⟩:=h;simp[w8,show¬y<0 by omega]
  ·split at h
   ·simp only[qI,qP,bne_iff_ne,ne_eq]at h;obtain⟨rfl,hy⟩:=h
    simp_all [w8,w7]
   ·simp at h
  ·split at h
   ·simp only[qI,qP,bne_iff_ne,ne_eq]at h;obtain⟨rfl,hy⟩:=h
    simp_all [w8,w7]
   ·simp at h
  ·split at h
   ·simp only[q_c,qP,and_true]at h;obtain⟨r',hr,rfl⟩:=h;rename_i hk _ _ _ _;cases o<;>simp_all [w8]
   ·simp at h
 ·simp only[q_c,qP,and_true]at h;obtain⟨r',hr,rfl⟩:=h;exact hr
def G3(hp:List Blk):T→Option (T×Bool)
 | .lit v=>some (.lit v,true)
 | .nls n=>some (.nls n,true)
 | .imm p n rows=>some (.imm p n rows,true)
 | .sl id off len=>match hp[id]? with
   |some (.lst n rows)=>if off=0 then some (.imm true n rows,decide (len=rows.length))else none
   |_=>none
 |_=>none
theorem MU{hp:List Blk}{t r:T}(h:G3 hp t=some (r,true)):w9 hp t=some r:=by
 cases t with
 |sl id off len=>
  simp only[G3]at h;split at h
  ·rename_i n rows hb;split at h
   ·rename_i e;subst e;simp only[qI,qP,decide_eq_true_eq]at h;obtain⟨rfl,rfl⟩:=h;simp[w9,fG,bR,hb]
   ·simp at h
  ·simp at h
 |lit|nls|imm=>simp only[G3,qI,qP,and_true]at h;rw[←h];rfl
 |ptr|ip|clo=>simp[G3]at h
def vV(hp:List Blk):Row→Option (Row×Bool)
 |[]=>some ([],true)
 |t::r=>(G3 hp t).bind fun t=>(vV hp r).bind fun r=>some (t.1::r.1,t.2&&r.2)
theorem CC{hp:List Blk}: ∀{t r:Row},vV hp t=some (r,true)→sQ hp t=some r
 |[],r,h=>by simp only[vV,qI,qP,and_true]at h;subst h;rfl
 |t::s,r,h=>by
  simp only[vV,qB,qI,qP]at h;obtain⟨x,hx,y,hy,rfl,ho⟩:=h;obtain⟨o1,o2⟩:=aT ho;simp only[sQ,MU (r:=x.1) (by rw[hx,←o1]),Option.bind_some,CC (r:=y.1) (by rw[hy,←o2])]
def tF(hp:List Blk):SV→Option (SV×Bool)
 | .one t=>(G3 hp t).bind fun t=>some (.one t.1,t.2)
 | .agg ts=>(vV hp ts).bind fun ts=>some (.agg ts.1,ts.2)
 |_=>none
theorem qV{hp:List Blk}{t r:SV}(h:tF hp t=some (r,true)):oH hp t=some r:=by
 cases t with
 |one t=>
  simp only[tF,qB,qI,qP]at h;obtain⟨x,hx,rfl,ho⟩:=h;simp only[oH,MU (r:=x.1) (by rw[hx,←ho]),Option.bind_some]
 |agg t=>
  simp only[tF,qB,qI,qP]at h;obtain⟨x,hx,rfl,ho⟩:=h;simp only[oH,CC (r:=x.1) (by rw[hx,←ho]),Option.bind_some]
 |und=>simp[tF]at h
 |tup=>simp[tF]at h
def vW(hp:List Blk):List SV→Option (List SV×Bool)
 |[]=>some ([],true)
 |t::r=>(tF hp t).bind fun t=>(vW hp r).bind fun r=>some (t.1::r.1,t.2&&r.2)
theorem CD{hp:List Blk}: ∀{t r:List SV},vW hp t=some (r,true)→sR hp t=some r
 |[],r,h=>by simp only[vW,qI,qP,and_true]at h;subst h;rfl
 |t::s,r,h=>by
  simp only[vW,qB,qI,qP]at h;obtain⟨x,hx,y,hy,rfl,ho⟩:=h;obtain⟨o1,o2⟩:=aT ho;simp only[sR,qV (r:=x.1) (by rw[hx,←o1]),Option.bind_some,CD (r:=y.1) (by rw[hy,←o2])]
def O3(hp:List Blk):SV→Option (SV×Bool)
 | .tup vs=>(vW hp vs).bind fun vs=>some (.tup vs.1,vs.2)
 |v=>tF hp v
theorem Y6{hp:List Blk}{t r:SV}(h:O3 hp t=some (r,true)):yZ hp t=some r:=by
 cases t with
 |tup vs=>
  simp only[O3,qB,qI,qP]at h;obtain⟨x,hx,rfl,ho⟩:=h;simp only[yZ,CD (r:=x.1) (by rw[hx,←ho]),Option.bind_some]
 |one t=>exact qV (hp:=hp) (t:= .one t) h
 |agg t=>exact qV (hp:=hp) (t:= .agg t) h
 |und=>exact qV (hp:=hp) (t:= .und) h
noncomputable def cF(R:Rt):Rt:=fun f a h=>if f<100000 then R f a h else(R (f-100000) a h).bind fun r=>(yZ r.2 r.1).bind fun v=>some (v,[])
theorem CF{R:Rt}{f:FuncId}(h:f<100000){a:List SV}{hp:List Blk}:cF R f a hp=R f a hp:=by simp only[cF];rw[if_pos h]
theorem aB2{R:Rt}{f:FuncId}{a:List SV}{hp:List Blk}:cF R (f+100000) a hp=(R f a hp).bind fun r=>(yZ r.2 r.1).bind fun v=>some (v,[]):=by
 simp only[cF];rw[if_neg (Nat.not_lt.2 (Nat.le_add_left 100000 f))];exact congrArg (fun g=>(R g a hp).bind fun r=>(yZ r.2 r.1).bind fun v=>some (v,[])) (Nat.add_sub_cancel (n:=f) (m:=100000))
def qW(Q:Qt)(wm:Bool)(hp:List Blk)(pu:Bool)(f:FuncId)(vs:List (SV×Nat×Bool)):Option ((SV×List Blk)×Bool):=
 if pu=true then
  (hJ wm hp [] 0 vs).bind fun args=>(Q (f+100000) args.1 []).bind fun r=>
  if vs.any lR=false∨mG r.1.1=true then some ((r.1.1,hp),args.2&&r.2)else none
 else if f<100000 then
  (O0 wm hp vs).bind fun e=>(Q f e.1.args e.1.hp).bind fun r=>(aQX hp e.1 r.1.1 r.1.2).bind fun x=>some (x,e.2&&r.2)
 else none
theorem sC{R:Rt}{Q:Qt}(hQ:O1 (cF R) Q){wm:Bool}{hp:List Blk}{pu:Bool}{f:FuncId}{vs:List (SV×Nat×Bool)}{r:SV×List Blk}(h:qW Q wm hp pu f vs=some (r,true)):gC R hp pu f vs=some r:=by
 unfold qW at h;unfold gC;split at h
 ·rename_i hpu;rw[if_pos hpu];simp only[qB]at h⊢;obtain⟨args,h1,q,hq,h⟩:=h;split at h
  ·rename_i hc;simp only[qI,qP]at h;obtain⟨rfl,ho⟩:=h;obtain⟨o1,o2⟩:=aT ho;have hR:=hQ _ _ _ q.1 (by rw[hq,←o2])
   rw[aB2]at hR;simp only[qB,qI]at hR;obtain⟨r,hr,v,hv,e⟩:=hR;refine⟨args.1,gW (by rw[h1,←o1]),r,hr,v,hv,?_⟩
   rw[←e]at hc;rw[if_pos hc,←e]
  ·simp at h
 ·rename_i hpu;rw[if_neg hpu];split at h
  ·rename_i hf;simp only[qB,qI,qP]at h⊢;obtain⟨e,h1,q,hq,x,hx,rfl,ho⟩:=h;obtain⟨o1,o2⟩:=aT ho;have hR:=hQ _ _ _ q.1 (by rw[hq,←o2])
   rw[CF hf]at hR;exact⟨e.1,Y4 (by rw[h1,←o1]),q.1,hR,hx⟩
  ·simp at h
inductive Kd where
 |int (k:IntKind)
 |bool
 |str
 |imm (n:Nat)
def isK:Kd→T→Bool
 | .int k, .lit (.int k' _)=>k==k'
 | .bool, .lit (.bool _)=>true
 | .str, .lit (.string _)=>true
 | .imm n, .imm p n' _=>p&&n==n'
 |_,_=>false
def aB3:List Kd→Row→Bool
 |[],_=>true
 |k::ks,t::r=>isK k t&&aB3 ks r
 |_::_,[]=>false
def kF(rows:List Row)(j i:Nat):T:=(rows.getD j []).getD i (.nls 0)
def a0Q:T→Int
 | .lit (.int _ z)=>z
 |_=>0
def aPK:T→Bool
 | .lit (.bool z)=>z
 |_=>false
def a0R:T→ByteArray
 | .lit (.string z)=>z
 |_=> .empty
def aPL:T→List Row
 | .imm _ _ rows=>rows
 |_=>[]
def aU(rows:List Row)(j i:Nat):Int:=a0Q (kF rows j i)
def iI(rows:List Row)(j i:Nat):Bool:=aPK (kF rows j i)
def aPM(rows:List Row)(j i:Nat):ByteArray:=a0R (kF rows j i)
def gQ(rows:List Row)(j i:Nat):List Row:=aPL (kF rows j i)
def ofK(rows:List Row)(j i:Nat):Kd→T
 | .int k=> .lit (.int k (aU rows j i))
 | .bool=> .lit (.bool (iI rows j i))
 | .str=> .lit (.string (aPM rows j i))
 | .imm n=> .imm true n (gQ rows j i)
def G4(rows:List Row)(j:Nat):Nat→List Kd→Row
 |_,[]=>[]
 |i,k::ks=>ofK rows j i k::G4 rows j (i+1) ks
def dC(kds:List Kd)(rows:List Row)(j i:Nat):Bool:=Nat.blt j rows.length&&aB3 kds ((rows.getD j []).drop i)
def dJ(kds:List Kd)(rows:List Row)(j:Int):Bool:=decide (0≤j)&&(dC kds rows j.toNat 0&&(rows.getD j.toNat []).length==kds.length)
theorem aRB{rows:List Row}{j i:Nat}{k:Kd}{t:T}(ht:kF rows j i=t)(hk:isK k t=true):ofK rows j i k=t:=by
 unfold isK at hk;split at hk
 ·simp only[ofK,aU,ht,a0Q,beq_iff_eq]at hk⊢;rw[hk]
 ·simp only[ofK,iI,ht,aPK]
 ·simp only[ofK,aPM,ht,a0R]
 ·simp only[Bool.and_eq_true,beq_iff_eq]at hk;simp only[ofK,gQ,ht,aPL];rw[hk.1,hk.2]
 ·simp at hk
theorem CH{rows:List Row}{j:Nat}: ∀{kds:List Kd}{i:Nat},aB3 kds ((rows.getD j []).drop i)=true→G4 rows j i kds=((rows.getD j []).drop i).take kds.length
 |[],i,h=>by simp[G4]
 |k::ks,i,h=>by
  cases hd:(rows.getD j []).drop i with
  |nil=>rw[hd]at h;simp[aB3]at h
  |cons t r=>
   rw[hd]at h;simp only[aB3,Bool.and_eq_true]at h;have hr:(rows.getD j []).drop (i+1)=r:=by
    rw[←List.drop_drop,hd];rfl
   have ht:kF rows j i=t:=by
    have:(rows.getD j [])[i]? =some t:=by
     have:=congrArg (·[0]?) hd;simpa [List.getElem?_drop]using this
    simp only[kF,List.getD_eq_getElem?_getD]at this⊢;rw[this];rfl
   simp only[G4,aRB ht h.1,List.length_cons,List.take_succ_cons];rw[CH (by rw[hr];exact h.2),hr]
theorem vX{rows:List Row}{j:Nat}(h:Nat.blt j rows.length=true):rows[j]? =some (rows.getD j []):=by
 have:j<rows.length:=by simpa using h
 simp[List.getD_eq_getElem?_getD,this]
def xL(d:Nat):List (Nat×List Kd)→Option (List Kd)
 |[]=>none
 |(m,v)::r=>if m=d then some v else xL d r
def aRC(hp:List Blk)(sz:Nat)(kds:List Kd)(t:T)(j:Int):Option (SV×Bool):=
 match t with
 | .sl id off ln=>if fG hp (.sl id off ln)=some sz then some (.one (.ptr id (off+j.toNat) 0),decide (0≤j)&&decide (j<ln))else none
 | .imm _ n rows=>if n=sz then some (.one (.ip (G4 rows j.toNat 0 kds)),dJ kds rows j)else none
 |_=>none
theorem aJ8{hp:List Blk}{sz:Nat}{kds:List Kd}{t:T}{j:Int}{v:SV}(h:aRC hp sz kds t j=some (v,true)):idx hp sz t j=some v:=by
 unfold aRC at h;split at h
 ·split at h
  ·rename_i hs;simp only[qI,qP,Bool.and_eq_true,decide_eq_true_eq]at h;obtain⟨rfl,h⟩:=h;simp only[idx];rw[if_pos h,if_pos hs]
  ·simp at h
 ·split at h
  ·rename_i hs;simp only[qI,qP,dJ,dC,Bool.and_eq_true,decide_eq_true_eq,beq_iff_eq]at h;obtain⟨rfl,h0,⟨h1,h2⟩,h3⟩:=h;simp only[idx];rw[if_pos ⟨h0,hs⟩,vX h1,Option.map_some,CH h2,List.drop_zero,←h3,List.take_length]
  ·simp at h
 ·simp at h
def ldS(hp:List Blk)(n:Option Nat)(kds:List Kd)(t:T):Option (SV×Bool):=
 match t with
 | .ptr id row off=>
   match hp[id]? with
   |some (.lst _ rows)=>(SV.of n (G4 rows row off kds)).bind fun v=>some (v,dC kds rows row off)
   |_=>(fB hp t).bind fun cs=>(SV.of n cs).bind fun v=>some (v,true)
 |_=>(fB hp t).bind fun cs=>(SV.of n cs).bind fun v=>some (v,true)
theorem aJ9{n:Option Nat}{cs:Row}{m:Nat}{v:SV}(h:SV.of n (cs.take m)=some v):SV.of n cs=some v:=by
 cases n with
 |none=>
  cases cs with
  |nil=>simp[SV.of]at h
  |cons t r=>
   cases m with
   |zero=>simp[SV.of]at h
   |succ m=>simpa [SV.of]using h
 |some k=>
  simp only[SV.of]at h⊢;split at h
  ·rename_i hk;rw[List.length_take]at hk;rw[if_pos (by omega),←h,List.take_take,Nat.min_eq_left (by omega)]
  ·simp at h
theorem aRD{hp:List Blk}{n:Option Nat}{kds:List Kd}{t:T}{v:SV}(h:ldS hp n kds t=some (v,true)):((fB hp t).bind fun cs=>SV.of n cs)=some v:=by
 unfold ldS at h;split at h
 ·split at h
  ·rename_i id row off _ sz rows hb;simp only[qB,qI,qP,dC,Bool.and_eq_true]at h;obtain⟨u,hu,rfl,h1,h2⟩:=h;simp only[fB,hb,vX h1,Option.map_some,Option.bind_some];rw[CH h2]at hu;exact aJ9 hu
  ·simp only[qB,qI,qP,and_true]at h⊢;obtain⟨cs,hc,u,hu,rfl⟩:=h;exact⟨cs,hc,hu⟩
 ·simp only[qB,qI,qP,and_true]at h⊢;obtain⟨cs,hc,u,hu,rfl⟩:=h;exact⟨cs,hc,hu⟩
def stS(hp:List Blk)(n:Nat)(t:T)(new:Row):Option (List Blk×Bool):=
 match t with
 | .ptr id row off=>
   match hp[id]? with
   |some (.lst sz rows)=>
    if off=0∧n=sz∧new.length=n∧new.all inList=true then some (hp.set id (.lst sz (rows.set row new)),Nat.blt row rows.length&&(rows.getD row []).length==n)
    else if new.length=n∧new.all inList=true then some (hp.set id (.lst sz (rows.set row (wr (rows.getD row []) off new))),Nat.blt row rows.length&&decide (off+n≤(rows.getD row []).length))
    else none
   |_=>(store hp n t new).map (·,true)
 |_=>(store hp n t new).map (·,true)
theorem aRE{hp hp':List Blk}{n:Nat}{t:T}{new:Row}(h:stS hp n t new=some (hp',true)):store hp n t new=some hp':=by
 unfold stS at h;split at h
 ·split at h
  ·rename_i id row off _ sz rows hb;split at h
   ·rename_i hc;obtain⟨rfl,rfl,hn,ha⟩:=hc;simp only[qI,qP,Bool.and_eq_true,beq_iff_eq]at h;obtain⟨rfl,h1,h2⟩:=h;simp only[store,hn,if_true,hb,vX h1,ha,and_true,Nat.zero_add,h2,Nat.le_refl]
    congr 4
    simp only[wr,List.take_zero,List.nil_append,Nat.zero_add,hn,←h2,List.drop_length,List.append_nil]
   ·split at h
    ·rename_i hc;obtain⟨hn,ha⟩:=hc;simp only[qI,qP,Bool.and_eq_true,decide_eq_true_eq]at h;obtain⟨rfl,h1,h2⟩:=h;simp only[store,hn,if_true,hb,vX h1];rw[if_pos ⟨h2,ha⟩]
    ·simp at h
  ·simp only[q_c,qP,and_true]at h;obtain⟨x,hx,rfl⟩:=h;exact hx
 ·simp only[q_c,qP,and_true]at h;obtain⟨x,hx,rfl⟩:=h;exact hx
def exK(Q:Qt)(kd:List (Nat×List Kd))(ev:Ev)(hp:List Blk):K→Option ((SV×List Blk)×Bool)
 | .bin _ o x y=>(ev x).bind fun v=>(rQ v).bind fun v=>(ev y).bind fun u=>(rQ u).bind fun u=>(aRA o v u).bind fun r=>some ((.one (.lit r.1),hp),r.2)
 | .pick _ c x y=>(ev c).bind fun c=>(asBool c).bind fun c=>(ev x).bind fun v=>(ev y).bind fun u=>(nA c v u).bind fun v=>some ((v,hp),true)
 | .call d pu f xs=>(eK ev xs).bind fun vs=>qW Q (xL (d.getD 0) kd).isNone hp pu f vs
 | .calv d pu f xs=>(ev f).bind fun g=>match g with
   | .one (.clo f caps)=>(eK ev xs).bind fun vs=>qW Q (xL (d.getD 0) kd).isNone hp pu f (vs++caps.map fun c=>(.one c,0,false))
   |_=>none
 | .ia d sz x j=>match xL d kd with
   |some kds=>(ev x).bind fun v=>(eF v).bind fun t=>(ev j).bind fun u=>(j5 u).bind fun u=>(aRC hp sz kds t u.2).bind fun r=>some ((r.1,hp),r.2)
   |none=>((K.ia d sz x j).exec Q.val ev hp).map (·,true)
 | .ld d n x=>match xL d kd with
   |some kds=>(ev x).bind fun v=>(eF v).bind fun t=>(ldS hp n kds t).bind fun r=>some ((r.1,hp),r.2)
   |none=>((K.ld d n x).exec Q.val ev hp).map (·,true)
 | .st n x y=>(ev x).bind fun v=>(eF v).bind fun t=>(ev y).bind fun u=>u.cells.bind fun cs=>(stS hp n t cs).bind fun r=>some ((.und,r.1),r.2)
 | .app d by_ sz x y=>(ev x).bind fun v=>(eF v).bind fun t=>(ev y).bind fun u=>(eF u).bind fun s=>aQ5 (xL d kd).isNone hp by_ sz t s
 | .len _ x=>(ev x).bind fun v=>(eF v).bind fun t=>(aJ2 hp t).bind fun r=>some ((.one (I r.1),hp),r.2)
 | .slc _ sz x lo hi=>(ev x).bind fun v=>(eF v).bind fun t=>(aJ2 hp t).bind fun n=>(jL ev 0 lo).bind fun l=>(match hi with|none=>some n.1|some o=>jL ev 0 (some o)).bind fun h=>(aQ6 hp sz t n.1 l h).bind fun r=>some ((.one r.1,hp),n.2&&r.2)
 | .mks _ by_ z n c=>(ev n).bind fun v=>(j5 v).bind fun v=>(ev c).bind fun u=>(j5 u).bind fun u=>some (aQ7 hp by_ z v.2 u.2)
 | .cpy d sz x y=>(ev x).bind fun v=>(eF v).bind fun t=>(ev y).bind fun u=>(eF u).bind fun s=>aQ8 (xL d kd).isNone hp sz t s
 | .clr sz z x=>(ev x).bind fun v=>(eF v).bind fun t=>aQ9 hp sz z t
 |k=>(k.exec Q.val ev hp).map (·,true)
def MV(ev ev':Ev):Prop:= ∀x v,ev x=some v→ev' x=some v
theorem UD{ev ev':Ev}(he:MV ev ev'): ∀{ps:List (Nat×Nat×Opd)}{cs r:Row},fill ev cs ps=some r→fill ev' cs ps=some r
 |[],cs,r,h=>h
 |(o,n,x)::ps,cs,r,h=>by
  simp only[fill,qB]at h⊢;obtain⟨v,hv,new,hn,h⟩:=h;refine⟨v,he _ _ hv,new,hn,?_⟩;split at h
  ·rename_i hc;rw[if_pos hc];exact UD he h
  ·simp at h
theorem zN{ev ev':Ev}(he:MV ev ev'): ∀{ps:List (Nat×Opd)}{cs r:List Row},fillRows ev cs ps=some r→fillRows ev' cs ps=some r
 |[],cs,r,h=>h
 |(o,x)::ps,cs,r,h=>by
  simp only[fillRows,qB]at h⊢;obtain⟨v,hv,new,hn,h⟩:=h;refine⟨v,he _ _ hv,new,hn,?_⟩;split at h
  ·split at h
   ·rename_i hc;rw[if_pos hc];exact zN he h
   ·simp at h
  ·simp at h
theorem o7{ev ev':Ev}(he:MV ev ev'): ∀{xs:List (Opd×Nat×Bool)}{r:List (SV×Nat×Bool)},eK ev xs=some r→eK ev' xs=some r
 |[],r,h=>h
 |(x,n,m)::xs,r,h=>by
  simp only[eK,qB]at h⊢;obtain⟨v,hv,s,hs,h⟩:=h;exact⟨v,he _ _ hv,s,o7 he hs,h⟩
theorem G5{ev ev':Ev}(he:MV ev ev'): ∀{xs:List Opd}{r:List T},j7 ev xs=some r→j7 ev' xs=some r
 |[],r,h=>h
 |x::xs,r,h=>by
  simp only[j7,qB]at h⊢;obtain⟨v,hv,t,ht,h⟩:=h;refine⟨v,he _ _ hv,t,ht,?_⟩;split at h
  ·simp only[qB]at h⊢;obtain⟨s,hs,h⟩:=h;exact⟨s,G5 he hs,h⟩
  ·simp at h
theorem vY{ev ev':Ev}(he:MV ev ev'){n:Nat}{o:Option Opd}{r:Int}(h:jL ev n o=some r):jL ev' n o=some r:=by
 cases o with
 |none=>exact h
 |some o=>
  simp only[jL,qB]at h⊢;obtain⟨v,hv,h⟩:=h;exact⟨v,he _ _ hv,h⟩
theorem aKA{R:Rt}{ev ev':Ev}(he:MV ev ev'){hp:List Blk}{k:K}{r:SV×List Blk}(h:k.exec R ev hp=some r):k.exec R ev' hp=some r:=by
 cases k with
 |mv d x=>simp only[K.exec,qB]at h⊢;obtain⟨v,hv,h⟩:=h;exact⟨v,he _ _ hv,h⟩
 |pick d c x y=>
  simp only[K.exec,qB]at h⊢;obtain⟨v,hv,c,hc,h⟩:=h;refine⟨v,he _ _ hv,c,hc,?_⟩;split at h
  ·simp only[qB]at h;obtain⟨u,hu,h⟩:=h;simp[*,he _ _ hu]
  ·simp only[qB]at h;obtain⟨u,hu,h⟩:=h;simp[*,he _ _ hu]
 |alc d z=>exact h
 |box d x=>simp only[K.exec,qB]at h⊢;obtain⟨v,hv,h⟩:=h;exact⟨v,he _ _ hv,h⟩
 |bld d z ps=>simp only[K.exec,qB]at h⊢;obtain⟨v,hv,h⟩:=h;exact⟨v,UD he hv,h⟩
 |bsl d n z ps=>simp only[K.exec,qB]at h⊢;obtain⟨v,hv,h⟩:=h;exact⟨v,zN he hv,h⟩
 |ld d n x=>simp only[K.exec,qB]at h⊢;obtain⟨v,hv,h⟩:=h;exact⟨v,he _ _ hv,h⟩
 |st n x y=>simp only[K.exec,qB]at h⊢;obtain⟨v,hv,t,ht,u,hu,h⟩:=h;exact⟨v,he _ _ hv,t,ht,u,he _ _ hu,h⟩
 |nilc d x=>simp only[K.exec,qB]at h⊢;obtain⟨v,hv,h⟩:=h;exact⟨v,he _ _ hv,h⟩
 |bin d o x y=>simp only[K.exec,qB]at h⊢;obtain⟨v,hv,t,ht,u,hu,h⟩:=h;exact⟨v,he _ _ hv,t,ht,u,he _ _ hu,h⟩
 |bb d n x y=>simp only[K.exec,qB]at h⊢;obtain⟨v,hv,t,ht,u,hu,h⟩:=h;exact⟨v,he _ _ hv,t,ht,u,he _ _ hu,h⟩
 |eqs d n gs x y=>simp only[K.exec,qB]at h⊢;obtain⟨v,hv,u,hu,h⟩:=h;exact⟨v,he _ _ hv,u,he _ _ hu,h⟩
 |un d o x=>simp only[K.exec,qB]at h⊢;obtain⟨v,hv,h⟩:=h;exact⟨v,he _ _ hv,h⟩
 |cv d k x=>simp only[K.exec,qB]at h⊢;obtain⟨v,hv,h⟩:=h;exact⟨v,he _ _ hv,h⟩
 |mkf d f caps=>simp only[K.exec,qB]at h⊢;obtain⟨v,hv,h⟩:=h;exact⟨v,G5 he hv,h⟩
 |mks d b z n c=>simp only[K.exec,qB]at h⊢;obtain⟨v,hv,t,ht,u,hu,h⟩:=h;exact⟨v,he _ _ hv,t,ht,u,he _ _ hu,h⟩
 |slc d sz x lo hi=>simp only[K.exec,qB]at h⊢;obtain⟨v,hv,t,ht,rows,hr,l,hl,u,hu,h⟩:=h;exact⟨v,he _ _ hv,t,ht,rows,hr,l,vY he hl,u,vY he hu,h⟩
 |sls d x lo hi=>
  simp only[K.exec,qB]at h⊢;obtain⟨v,hv,t,ht,h⟩:=h;refine⟨v,he _ _ hv,t,ht,?_⟩;split at h
  ·simp only[qB]at h⊢;obtain⟨l,hl,u,hu,h⟩:=h;exact⟨l,vY he hl,u,vY he hu,h⟩
  ·simp at h
 |fa d x o=>simp only[K.exec,qB]at h⊢;obtain⟨v,hv,h⟩:=h;exact⟨v,he _ _ hv,h⟩
 |fld d x o n=>simp only[K.exec,qB]at h⊢;obtain⟨v,hv,h⟩:=h;exact⟨v,he _ _ hv,h⟩
 |ia d sz x j=>simp only[K.exec,qB]at h⊢;obtain⟨v,hv,t,ht,u,hu,h⟩:=h;exact⟨v,he _ _ hv,t,ht,u,he _ _ hu,h⟩
 |ix d x j=>simp only[K.exec,qB]at h⊢;obtain⟨v,hv,t,ht,u,hu,h⟩:=h;exact⟨v,he _ _ hv,t,ht,u,he _ _ hu,h⟩
 |ext d x j=>simp only[K.exec,qB]at h⊢;obtain⟨v,hv,h⟩:=h;exact⟨v,he _ _ hv,h⟩
 |call d pu f xs=>simp only[K.exec,qB]at h⊢;obtain⟨v,hv,h⟩:=h;exact⟨v,o7 he hv,h⟩
 |calv d pu f xs=>
  simp only[K.exec,qB]at h⊢;obtain⟨v,hv,h⟩:=h;refine⟨v,he _ _ hv,?_⟩;split at h
  ·simp only[qB]at h⊢;obtain⟨vs,hvs,h⟩:=h;exact⟨vs,o7 he hvs,h⟩
  ·simp at h
 |len d x=>simp only[K.exec,qB]at h⊢;obtain⟨v,hv,h⟩:=h;exact⟨v,he _ _ hv,h⟩
 |lens d x=>simp only[K.exec,qB]at h⊢;obtain⟨v,hv,h⟩:=h;exact⟨v,he _ _ hv,h⟩
 |app d b sz x y=>simp only[K.exec,qB]at h⊢;obtain⟨v,hv,t,ht,u,hu,h⟩:=h;exact⟨v,he _ _ hv,t,ht,u,he _ _ hu,h⟩
 |cpy d sz x y=>simp only[K.exec,qB]at h⊢;obtain⟨v,hv,t,ht,u,hu,h⟩:=h;exact⟨v,he _ _ hv,t,ht,u,he _ _ hu,h⟩
 |clr sz z x=>simp only[K.exec,qB]at h⊢;obtain⟨v,hv,h⟩:=h;exact⟨v,he _ _ hv,h⟩
 |mm d m x y=>simp only[K.exec,qB]at h⊢;obtain⟨v,hv,t,ht,u,hu,h⟩:=h;exact⟨v,he _ _ hv,t,ht,u,he _ _ hu,h⟩
def O4:K→Bool
 | .call .. | .calv .. =>false
 |_=>true
theorem o8{R R':Rt}{ev:Ev}{hp:List Blk}{k:K}(hk:O4 k=true):k.exec R ev hp=k.exec R' ev hp:=by
 cases k<;>first|rfl|simp[O4]at hk
theorem Y7{R:Rt}{Q:Qt}(hQ:O1 (cF R) Q){kd:List (Nat×List Kd)}{ev ev':Ev}(he:MV ev ev'){hp:List Blk}{k:K}{r:SV×List Blk}(h:exK Q kd ev hp k=some (r,true)):k.exec R ev' hp=some r:=by
 refine aKA he ?_;unfold exK at h;split at h
 ·simp only[qB,qI,qP,K.exec]at h⊢;obtain⟨v,hv,t,ht,u,hu,s,hs,q,hq,h1,h2⟩:=h;refine⟨v,hv,t,ht,u,hu,s,hs,q.1,aJ7 (by rw[hq,←h2]),h1⟩
 ·simp only[qB,qI,qP,K.exec]at h⊢;obtain⟨c,hc,b,hb,v,hv,u,hu,m,hm,h1,-⟩:=h;refine⟨c,hc,b,hb,?_⟩;rw[←h1,nB hm];cases b<;>simp[hv,hu]
 ·simp only[qB,qI,qP,K.exec]at h⊢;obtain⟨vs,hvs,h⟩:=h;exact⟨vs,hvs,sC hQ h⟩
 ·simp only[qB,K.exec]at h⊢;obtain⟨g,hg,h⟩:=h;refine⟨g,hg,?_⟩;split at h
  ·simp only[qB,qI,qP]at h⊢;obtain⟨vs,hvs,h⟩:=h;exact⟨vs,hvs,sC hQ h⟩
  ·simp at h
 ·split at h
  ·simp only[qB,qI,qP,K.exec]at h⊢;obtain⟨v,hv,t,ht,u,hu,w,hw,q,hq,h1,h2⟩:=h;exact⟨v,hv,t,ht,u,hu,w,hw,q.1,aJ8 (by rw[hq,←h2]),h1⟩
  ·simp only[q_c,qP,and_true]at h;obtain⟨q,hq,rfl⟩:=h;rw[o8 (R':=Q.val) rfl];exact hq
 ·split at h
  ·simp only[qB,qI,qP,K.exec]at h⊢;obtain⟨v,hv,t,ht,q,hq,h1,h2⟩:=h;have:=aRD (v:=q.1) (by rw[hq,←h2])
   simp only[qB]at this;obtain⟨cs,hc,hs⟩:=this;exact⟨v,hv,t,ht,cs,hc,q.1,hs,h1⟩
  ·simp only[q_c,qP,and_true]at h;obtain⟨q,hq,rfl⟩:=h;rw[o8 (R':=Q.val) rfl];exact hq
 ·simp only[qB,qI,qP,K.exec]at h⊢;obtain⟨v,hv,t,ht,u,hu,cs,hc,q,hq,h1,h2⟩:=h;exact⟨v,hv,t,ht,u,hu,cs,hc,q.1,aRE (by rw[hq,←h2]),h1⟩
 ·simp only[qB]at h;obtain⟨v,hv,t,ht,u,hu,s,hs,h⟩:=h;exact aJ1 hv ht hu hs h
 ·simp only[qB,qI,qP,K.exec]at h⊢;obtain⟨v,hv,t,ht,n,hn,h1,h2⟩:=h;obtain⟨rows,hr,hl⟩:=UC (n:=n.1) (by rw[hn,←h2])
  exact⟨v,hv,t,ht,rows,hr,by rw[hl,h1]⟩
 ·rename_i d sz x lo hi;simp only[qB,qI,qP,K.exec]at h⊢;obtain⟨v,hv,t,ht,n,hn,l,hl,hh,hb,q,hq,h1,h2⟩:=h;obtain⟨o1,o2⟩:=aT h2;obtain⟨rows,hr,hlen⟩:=UC (n:=n.1) (by rw[hn,←o1])
  refine⟨v,hv,t,ht,rows,hr,l,hl,hh,?_,q.1,aJ3 hlen (by rw[hq,←o2]),h1⟩
  cases hi with
  |none=>simp only[jL,hlen];exact hb
  |some o=>exact hb
 ·simp only[qB,qI]at h;obtain⟨v,hv,k,hk,u,hu,k',hk',h⟩:=h;exact aJ4 (k:=k.1) (nn:=k.2) (k':=k'.1) (cc:=k'.2) hv hk hu hk' h
 ·simp only[qB]at h;obtain⟨v,hv,t,ht,u,hu,s,hs,h⟩:=h;exact aJ5 hv ht hu hs h
 ·simp only[qB]at h;obtain⟨v,hv,t,ht,h⟩:=h;exact aJ6 hv ht h
 ·simp only[q_c,qP,and_true]at h;obtain⟨q,hq,rfl⟩:=h;have hk:O4 k=true:=by
   cases k with
   |call d pu f xs=>cases pu<;>simp_all
   |calv d pu f xs=>cases pu<;>simp_all
   |_=>rfl
  rw[o8 (R':=Q.val) hk];exact hq
def hK:K→Bool
 | .alc .. | .box .. | .bsl .. | .st .. | .mks .. | .app .. | .cpy .. | .clr .. =>false
 | .call _ pu _ _| .calv _ pu _ _=>pu
 |_=>true
theorem zO{R:Rt}{hp:List Blk}{f:FuncId}{vs:List (SV×Nat×Bool)}{r:SV×List Blk}(h:gC R hp true f vs=some r):r.2=hp:=by
 simp only[gC,if_true,qB]at h;obtain⟨_,_,_,_,_,_,h⟩:=h;split at h
 ·obtain rfl:=Option.some.inj h;rfl
 ·simp at h
def aB4(hp:List Blk)(o:Option (SV×List Blk)):Prop:= ∀r,o=some r→r.2=hp
theorem qX{α:Type}{hp:List Blk}{o:Option α}{f:α→Option (SV×List Blk)}(h: ∀v,aB4 hp (f v)):aB4 hp (o.bind f):=fun r hr=>by
 simp only[qB]at hr;obtain⟨v,_,hv⟩:=hr;exact h v r hv
theorem Y8{hp:List Blk}{v:SV}:aB4 hp (some (v,hp)):=fun r hr=>by
 obtain rfl:=Option.some.inj hr;rfl
theorem G6{hp:List Blk}:aB4 hp none:=fun r hr=>by simp at hr
theorem xM{R:Rt}{ev:Ev}{hp:List Blk}{k:K}{r:SV×List Blk}(hk:hK k=true)(h:k.exec R ev hp=some r):r.2=hp:=by
 have:aB4 hp (k.exec R ev hp):=by
  cases k<;>simp only[hK,Bool.false_eq_true]at hk
  case call d pu f xs=>
   subst hk;exact qX fun vs r hr=>zO hr
  case calv d pu f xs=>
   subst hk;refine qX fun g=>?_
   split
   ·exact qX fun vs r hr=>zO hr
   ·exact G6
  all_goals
   unfold K.exec
   repeat (first|exact Y8|exact G6|(refine qX fun _=>?_)|split)
 exact this r h
end Go.Zq

namespace Go.Zq
open Option renaming bind_eq_some_iff → qB
open Option.some renaming injEq → qI
open List renaming mem_append → q_j
open Go
def K.dsts(k:K):List Nat:=match k.dst with|some d=>[d]|none=>[]
inductive Its where
 |nil
 |op (k:K) (r:Its)
 |iff (s:Nat) (w:Bool) (its:Its) (d:Nat) (x y:Opd) (r:Its)
def Its.flat(g:Option (Nat×Bool)):Its→List G
 | .nil=>[]
 | .op k r=>(g,k)::r.flat g
 | .iff s w its d x y r=>its.flat (some (s,w))++(g, .pick d (.t s) x y)::r.flat g
def Its.dsts:Its→List Nat
 | .nil=>[]
 | .op k r=>k.dsts++r.dsts
 | .iff _ _ its d _ _ r=>its.dsts++d::r.dsts
def Its.quiet:Its→Bool
 | .nil=>true
 | .op k r=>hK k&&r.quiet
 | .iff _ _ its _ _ _ r=>its.quiet&&r.quiet
def Its.inner(ds:List Nat):Its→Bool
 | .nil=>true
 | .op k r=>r.inner (k.dsts++ds)
 | .iff s _ its d _ _ r=>ds.contains s&&its.inner []&&r.inner (d::(its.dsts++ds))
def eqG:Option (Nat×Bool)→Option (Nat×Bool)→Bool
 |none,none=>true
 |some (s,w),some (s',w')=>Nat.beq s s'&&(w==w')
 |_,_=>false
theorem aB5: ∀{g h:Option (Nat×Bool)},eqG g h=true→g=h
 |none,none,_=>rfl
 |some (s,w),some (s',w'),h=>by
  simp only[eqG,Bool.and_eq_true,beq_iff_eq]at h;rw[Nat.eq_of_beq_eq_true h.1,h.2]
 |none,some _,h=>by simp[eqG]at h
 |some _,none,h=>by simp[eqG]at h
def lG:Nat→Option (Nat×Bool)→List G→Its×List G
 |0,_,l=>(.nil,l)
 |_+1,_,[]=>(.nil,[])
 |n+1,cur,(g,k)::r=>
  if eqG g cur then let p:=lG n cur r;(.op k p.1,p.2)
  else match g with
   |none=>(.nil,(g,k)::r)
   |some (s,w)=>
    let q:=lG n (some (s,w)) ((g,k)::r)
    match q.2 with
    |(g', .pick d (.t s') x y)::r'=>
     if eqG g' cur&&Nat.beq s' s then let p:=lG n cur r';(.iff s w q.1 d x y p.1,p.2)else(.nil,(g,k)::r)
    |_=>(.nil,(g,k)::r)
theorem nD: ∀(n:Nat)(cur:Option (Nat×Bool))(l:List G),(lG n cur l).1.flat cur++(lG n cur l).2=l
 |0,_,l=>rfl
 |_+1,_,[]=>rfl
 |n+1,cur,(g,k)::r=>by
  unfold lG;split
  ·rename_i h;simp only[Its.flat,List.cons_append,nD n cur r,aB5 h]
  ·split
   ·rfl
   ·rename_i s w hh;simp only;split
    ·rename_i g' d s' x y r' hq;split
     ·rename_i hc;simp only[Bool.and_eq_true]at hc;obtain rfl:=aB5 hc.1;obtain rfl:=Nat.eq_of_beq_eq_true hc.2;have h1:=nD n (some (s',w)) ((some (s',w),k)::r);rw[hq]at h1;simp only[Its.flat,List.append_assoc,List.cons_append,nD n g' r'];exact h1
     ·rfl
    ·rfl
def tG(sl:List (Nat×SV))(ds:List Nat):List (Nat×SV):=sl.filter fun p=>!ds.contains p.1
theorem lH{ds:List Nat}{n:Nat}{v:SV}: ∀{sl:List (Nat×SV)},aM n (tG sl ds)=some v→n∉ds∧aM n sl=some v
 |[],h=>by simp[tG,aM]at h
 |(m,u)::r,h=>by
  unfold tG at h;rw[List.filter_cons]at h;split at h
  ·rename_i hm;simp only[aM]at h⊢;split at h
   ·rename_i e;subst e;exact⟨by simpa using hm,by rw[if_pos rfl];exact h⟩
   ·rename_i e;rw[if_neg e];exact lH h
  ·rename_i hm;have:=lH (sl:=r) h;refine⟨this.1,?_⟩;simp only[aM];split
   ·rename_i e;subst e;exact absurd (by simpa using hm) this.1
   ·exact this.2
structure Le(σ σ':St):Prop where
 sl: ∀n v,aM n σ.sl=some v→aM n σ'.sl=some v
 hp:σ'.hp=σ.hp
theorem Le.rfl{σ:St}:Le σ σ:=⟨fun _ _ h=>h,Eq.refl _⟩
theorem Le.trans{a b c:St}(h:Le a b)(k:Le b c):Le a c:=⟨fun n v x=>k.sl n v (h.sl n v x),k.hp.trans h.hp⟩
theorem Le.ev{σ σ':St}(h:Le σ σ'):MV σ.ev σ'.ev:=fun x v hx=>by
 cases x with
 |t n=>exact h.sl n v hx
 |c u=>exact hx
theorem Le.set{σ σ':St}(h:Le σ σ')(d:Nat)(v:SV):Le (σ.set d v) (σ'.set d v):=⟨fun n u hn=>by
 simp only[St.set,aM]at hn⊢;split
 ·rename_i e;rw[if_pos e]at hn;exact hn
 ·rename_i e;rw[if_neg e]at hn;exact h.sl n u hn,h.hp⟩
theorem Le.setD{σ σ':St}(h:Le σ σ')(d:Option Nat)(v:SV):Le (setD σ d v) (setD σ' d v):=by
 cases d with
 |none=>exact h
 |some d=>exact h.set d v
theorem Le.heap{σ σ':St}(h:Le σ σ')(hp:List Blk):Le ⟨σ.sl,hp⟩ ⟨σ'.sl,hp⟩:=⟨h.sl,Eq.refl _⟩
theorem kG{σ:St}{d n:Nat}{v:SV}(h:n≠d):aM n (σ.set d v).sl=aM n σ.sl:=by
 simp only[St.set,aM];rw[if_neg (Ne.symm h)]
theorem jG{σ:St}{d:Nat}{v:SV}:aM d (σ.set d v).sl=some v:=by
 simp[St.set,aM]
theorem eM{σ:St}{k:K}{n:Nat}{v:SV}(h:n∉k.dsts):aM n (Zq.setD σ k.dst v).sl=aM n σ.sl:=by
 unfold K.dsts at h;cases hd:k.dst with
 |none=>rfl
 |some d=>
  rw[hd]at h;exact kG (by simpa using h)
def LZ(Q:Qt)(kd:List (Nat×List Kd)):Its→St→Option (St×Bool)
 | .nil,σ=>some (σ,true)
 | .op k r,σ=>(exK Q kd σ.ev σ.hp k).bind fun x=>(LZ Q kd r (setD ⟨σ.sl,x.1.2⟩ k.dst x.1.1)).bind fun y=>some (y.1,x.2&&y.2)
 | .iff s w its d x y r,σ=>
   (aM s σ.sl).bind fun c=>(asBool c).bind fun b=>(LZ Q kd its σ).bind fun i=>
   if(its.inner []&&!its.dsts.contains s)=true then
    (if its.quiet then some σ.hp else lF (if w then b else !b) i.1.hp σ.hp).bind fun hp=>
    ((if w then i.1 else⟨tG σ.sl its.dsts,σ.hp⟩:St).ev x).bind fun vx=>((if w then⟨tG σ.sl its.dsts,σ.hp⟩else i.1:St).ev y).bind fun vy=>(nA b vx vy).bind fun m=>
    (LZ Q kd r (St.set ⟨tG σ.sl its.dsts,hp⟩ d m)).bind fun z=>some (z.1,(i.2||(if w then !b else b))&&z.2)
   else none
def Skips(s:Nat)(w:Bool)(σ:St):Prop:=aM s σ.sl=some .und∨aM s σ.sl=some (.one (B (!w)))
theorem Skips.setD{s:Nat}{w:Bool}{σ:St}(h:Skips s w σ)(k:K):Skips s w (Zq.setD σ k.dst .und):=by
 by_cases e:s∈k.dsts
 ·left
  unfold K.dsts at e;cases hd:k.dst with
  |none=>rw[hd]at e;simp at e
  |some d=>
   rw[hd]at e;obtain rfl:s=d:=by simpa using e
   exact jG
 ·rcases h with h|h
  ·left;rw[eM e];exact h
  ·right;rw[eM e];exact h
theorem G7{R:Rt}{s:Nat}{w:Bool}{σ:St}(h:Skips s w σ)(k:K):eP R σ (some (s,w),k)=some (setD σ k.dst .und):=by
 unfold eP;rcases h with h|h
 ·simp only[h]
 ·simp only[h];rw[if_neg (by cases w<;>simp)]
theorem nE{R:Rt}: ∀{l l':List G}{σ σ1:St},bV R l σ=some σ1→bV R (l++l') σ=bV R l' σ1
 |[],l',σ,σ1,h=>by simp only[bV,qI]at h;subst h;rfl
 |g::r,l',σ,σ1,h=>by
  simp only[bV,qB]at h;obtain⟨σ2,h1,h2⟩:=h;simp only[List.cons_append,bV,h1,Option.bind_some];exact nE h2
theorem vZ{R:Rt}: ∀{its:Its}{s:Nat}{w:Bool}{ds:List Nat}{σ:St},Skips s w σ→its.inner ds=true→(∀n∈ds,aM n σ.sl=some .und)→
  ∃σ',bV R (its.flat (some (s,w))) σ=some σ'∧σ'.hp=σ.hp∧(∀n,n∉its.dsts→aM n σ'.sl=aM n σ.sl)∧(∀n,(n∈its.dsts∨n∈ds)→aM n σ'.sl=some .und)∧Skips s w σ'
 | .nil,s,w,ds,σ,hs,hi,hd=>⟨σ,rfl,rfl,fun _ _=>rfl,fun n hn=>by rcases hn with hn|hn;·simp[Its.dsts]at hn
                                                                ·exact hd n hn,hs⟩
 | .op k r,s,w,ds,σ,hs,hi,hd=>by
   simp only[Its.inner]at hi;obtain⟨σ',h1,h2,h3,h4,h5⟩:=vZ (R:=R) (its:=r) (σ:=setD σ k.dst .und) (ds:=k.dsts++ds) (hs.setD k) hi (fun n hn=>by
    by_cases e:n∈k.dsts
    ·unfold K.dsts at e;cases hk:k.dst with
     |none=>rw[hk]at e;simp at e
     |some d=>
      rw[hk]at e;obtain rfl:n=d:=by simpa using e
      exact jG
    ·rw[eM e];exact hd n ((List.mem_append.1 hn).resolve_left e))
   refine⟨σ',?_,?_,?_,?_,h5⟩
   ·simp only[Its.flat,bV,G7 hs,Option.bind_some];exact h1
   ·rw[h2];cases k.dst<;>rfl
   ·intro n hn;simp only[Its.dsts,q_j,not_or]at hn;rw[h3 n hn.2,eM hn.1]
   ·intro n hn;simp only[Its.dsts,q_j]at hn;exact h4 n (by simp only[q_j];rcases hn with(hn|hn)|hn<;>simp[hn])
 | .iff s2 w2 its d x y r,s,w,ds,σ,hs,hi,hd=>by
   simp only[Its.inner,Bool.and_eq_true,List.contains_iff_mem]at hi;obtain⟨σ1,h1,h2,h3,h4,h5⟩:=vZ (R:=R) (its:=its) (s:=s2) (w:=w2) (σ:=σ) (ds:=[]) (.inl (hd s2 hi.1.1)) hi.1.2 (by simp)
   have hs1:Skips s w σ1:=by
    by_cases e:s∈its.dsts
    ·exact .inl (h4 s (.inl e))
    ·rcases hs with hs|hs
     ·left;rw[h3 s e];exact hs
     ·right;rw[h3 s e];exact hs
   obtain⟨σ',k1,k2,k3,k4,k5⟩:=vZ (R:=R) (its:=r) (s:=s) (w:=w) (σ:=setD σ1 (some d) .und) (ds:=d::(its.dsts++ds)) (hs1.setD (.pick d (.t s2) x y)) hi.2 (fun n hn=>by
    by_cases e:n=d
    ·subst e;exact jG
    ·show aM n (σ1.set d .und).sl=_
     rw[kG e];simp only[List.mem_cons,e,false_or,q_j]at hn;by_cases f:n∈its.dsts
     ·exact h4 n (.inl f)
     ·rw[h3 n f];exact hd n (hn.resolve_left f))
   refine⟨σ',?_,?_,?_,?_,k5⟩
   ·rw[Its.flat,nE h1];simp only[bV,G7 hs1,Option.bind_some];exact k1
   ·rw[k2];exact h2
   ·intro n hn;simp only[Its.dsts,q_j,List.mem_cons,not_or]at hn;rw[k3 n hn.2.2];show aM n (σ1.set d .und).sl=_
    rw[kG hn.2.1,h3 n hn.1]
   ·intro n hn;simp only[Its.dsts,q_j,List.mem_cons]at hn;refine k4 n ?_;simp only[List.mem_cons,q_j];rcases hn with(hn|hn|hn)|hn<;>simp[hn]
def UE(g:Option (Nat×Bool))(σ:St):Prop:= ∀s w,g=some (s,w)→aM s σ.sl=some (.one (B w))
def aRF(g:Option (Nat×Bool))(ds:List Nat):Prop:= ∀s w,g=some (s,w)→s∉ds
theorem runG_holds{R:Rt}{g:Option (Nat×Bool)}{σ:St}(h:UE g σ)(k:K):eP R σ (g,k)=k.run R σ:=by
 unfold eP;cases g with
 |none=>rfl
 |some x=>simp only[h x.1 x.2 rfl,if_true]
theorem zP{R:Rt}: ∀{l:List G}{σ σ':St},bV R l σ=some σ'→ ∀n,(∀g∈l,n∉g.2.dsts)→aM n σ'.sl=aM n σ.sl
 |[],σ,σ',h,n,hn=>by simp only[bV,qI]at h;rw[h]
 |g::r,σ,σ',h,n,hn=>by
  simp only[bV,qB]at h;obtain⟨σ1,h1,h2⟩:=h;rw[zP h2 n (fun g hg=>hn g (List.mem_cons_of_mem _ hg))]
  have hk:=hn g (List.mem_cons_self ..);have hrun: ∀{τ:St},g.2.run R σ=some τ→aM n τ.sl=aM n σ.sl:=fun{τ} ht=>by
   simp only[K.run,qB,qI]at ht;obtain⟨q,-,rfl⟩:=ht;rw[eM hk]
  unfold eP at h1;split at h1
  ·exact hrun h1
  ·split at h1
   ·split at h1
    ·exact hrun h1
    ·obtain rfl:=Option.some.inj h1;rw[eM hk]
   ·obtain rfl:=Option.some.inj h1;rw[eM hk]
   ·simp at h1
theorem qY{n:Nat}: ∀{its:Its}{g:Option (Nat×Bool)},n∉its.dsts→ ∀x∈its.flat g,n∉x.2.dsts
 | .nil,g,h,x,hx=>by simp[Its.flat]at hx
 | .op k r,g,h,x,hx=>by
   simp only[Its.dsts,q_j,not_or]at h;simp only[Its.flat,List.mem_cons]at hx;rcases hx with rfl|hx
   ·exact h.1
   ·exact qY h.2 x hx
 | .iff s w its d a b r,g,h,x,hx=>by
   simp only[Its.dsts,q_j,List.mem_cons,not_or]at h;simp only[Its.flat,q_j,List.mem_cons]at hx;rcases hx with hx|rfl|hx
   ·exact qY h.1 x hx
   ·simpa [K.dsts,K.dst]using h.2.1
   ·exact qY h.2.2 x hx
theorem qZ{Q:Qt}{kd:List (Nat×List Kd)}: ∀{its:Its}{σ:St}{r:St×Bool},LZ Q kd its σ=some r→ ∀n v,n∉its.dsts→aM n r.1.sl=some v→aM n σ.sl=some v
 | .nil,σ,r,h,n,v,hn,hv=>by simp only[LZ,qI]at h;subst h;exact hv
 | .op k t,σ,r,h,n,v,hn,hv=>by
   simp only[LZ,qB,qI]at h;obtain⟨x,hx,y,hy,rfl⟩:=h;simp only[Its.dsts,q_j,not_or]at hn;have:=qZ hy n v hn.2 hv;rw[eM hn.1]at this;exact this
 | .iff s w its d a b t,σ,r,h,n,v,hn,hv=>by
   simp only[LZ,qB]at h;obtain⟨c,hc,e,he,i,hi,h⟩:=h;split at h
   ·simp only[qB,qI]at h;obtain⟨hp1,hh,vx,hx,vy,hy,m,hm,z,hz,rfl⟩:=h;simp only[Its.dsts,q_j,List.mem_cons,not_or]at hn;have:=qZ hz n v hn.2.2 hv;rw[kG hn.2.1]at this;exact(lH this).2
   ·simp at h
theorem v4{Q:Qt}{wm:Bool}{hp:List Blk}{f:FuncId}{vs:List (SV×Nat×Bool)}{r:(SV×List Blk)×Bool}(h:qW Q wm hp true f vs=some r):r.1.2=hp:=by
 simp only[qW,if_true,qB]at h;obtain⟨args,h1,q,hq,h⟩:=h;split at h
 ·obtain rfl:=Option.some.inj h;rfl
 ·simp at h
theorem Y9{Q:Qt}{kd:List (Nat×List Kd)}{ev:Ev}{hp:List Blk}{k:K}{r:(SV×List Blk)×Bool}(hk:hK k=true)(h:exK Q kd ev hp k=some r):r.1.2=hp:=by
 unfold exK at h;split at h
 ·simp only[qB,qI]at h;obtain⟨v,hv,t,ht,u,hu,s,hs,q,hq,rfl⟩:=h;rfl
 ·simp only[qB,qI]at h;obtain⟨c,hc,b,hb,v,hv,u,hu,m,hm,rfl⟩:=h;rfl
 ·simp only[qB,qI]at h;obtain⟨vs,hvs,h⟩:=h;simp only[hK]at hk;subst hk;exact v4 h
 ·simp only[qB]at h;obtain⟨g,hg,h⟩:=h;split at h
  ·simp only[qB,qI]at h;obtain⟨vs,hvs,h⟩:=h;simp only[hK]at hk;subst hk;exact v4 h
  ·simp at h
 ·split at h
  ·simp only[qB,qI]at h;obtain⟨v,hv,t,ht,u,hu,w,hw,q,hq,rfl⟩:=h;rfl
  ·simp only[Option.map_eq_some_iff]at h;obtain⟨q,hq,rfl⟩:=h;exact xM hk hq
 ·split at h
  ·simp only[qB,qI]at h;obtain⟨v,hv,t,ht,q,hq,rfl⟩:=h;rfl
  ·simp only[Option.map_eq_some_iff]at h;obtain⟨q,hq,rfl⟩:=h;exact xM hk hq
 ·simp[hK]at hk
 ·simp[hK]at hk
 ·simp only[qB,qI]at h;obtain⟨v,hv,t,ht,n,hn,rfl⟩:=h;rfl
 ·simp only[qB,qI]at h;obtain⟨v,hv,t,ht,n,hn,l,hl,hh,hb,q,hq,rfl⟩:=h;rfl
 ·simp[hK]at hk
 ·simp[hK]at hk
 ·simp[hK]at hk
 ·simp only[Option.map_eq_some_iff]at h;obtain⟨q,hq,rfl⟩:=h;exact xM hk hq
theorem ZA{σ:St}{d:Option Nat}{v:SV}:(setD σ d v).hp=σ.hp:=by cases d<;>rfl
theorem rA{Q:Qt}{kd:List (Nat×List Kd)}: ∀{its:Its}{σ:St}{r:St×Bool},its.quiet=true→LZ Q kd its σ=some r→r.1.hp=σ.hp
 | .nil,σ,r,hq,h=>by simp only[LZ,qI]at h;subst h;rfl
 | .op k t,σ,r,hq,h=>by
   simp only[LZ,qB,qI]at h;obtain⟨x,hx,y,hy,rfl⟩:=h;simp only[Its.quiet,Bool.and_eq_true]at hq;rw[rA hq.2 hy,ZA];exact Y9 hq.1 hx
 | .iff s w its d a b t,σ,r,hq,h=>by
   simp only[LZ,qB]at h;obtain⟨c,hc,e,he,i,hi,h⟩:=h;simp only[Its.quiet,Bool.and_eq_true]at hq;split at h
   ·simp only[qB,qI]at h;obtain⟨hp1,hh,vx,hx,vy,hy,m,hm,z,hz,rfl⟩:=h;rw[rA hq.2 hz];rw[if_pos hq.1]at hh;obtain rfl:=Option.some.inj hh;rfl
   ·simp at h
theorem rB{R:Rt}{Q:Qt}(hQ:O1 (cF R) Q){kd:List (Nat×List Kd)}: ∀{its:Its}{g:Option (Nat×Bool)}{σ σr σ':St},LZ Q kd its σ=some (σ',true)→Le σ σr→UE g σr→aRF g its.dsts→
  ∃σr',bV R (its.flat g) σr=some σr'∧Le σ' σr'
 | .nil,g,σ,σr,σ',h,hl,hg,ha=>by
   simp only[LZ,qI,Prod.mk.injEq]at h;obtain⟨rfl,-⟩:=h;exact⟨σr,rfl,hl⟩
 | .op k t,g,σ,σr,σ',h,hl,hg,ha=>by
   simp only[LZ,qB,qI,Prod.mk.injEq,Bool.and_eq_true]at h;obtain⟨x,hx,y,hy,rfl,h1,h2⟩:=h;have hx':k.exec R σr.ev σr.hp=some x.1:=by
    rw[hl.hp];exact Y7 hQ hl.ev (by rw[hx,←h1])
   have hl':=(hl.heap x.1.2).setD k.dst x.1.1;have hg':UE g (setD ⟨σr.sl,x.1.2⟩ k.dst x.1.1):=fun s w e=>by
    have:=ha s w e;simp only[Its.dsts,q_j,not_or]at this;rw[eM this.1];exact hg s w e
   obtain⟨σr',k1,k2⟩:=rB hQ (its:=t) (g:=g) (by rw[hy,←h2]) hl' hg' (fun s w e=>by
    have:=ha s w e;simp only[Its.dsts,q_j,not_or]at this;exact this.2)
   refine⟨σr',?_,k2⟩;simp only[Its.flat,bV,runG_holds hg,K.run,hx',Option.bind_some];exact k1
 | .iff s w its d a b t,g,σ,σr,σ',h,hl,hg,ha=>by
   simp only[LZ,qB]at h;obtain⟨c,hc,e,he,i,hi,h⟩:=h;split at h
   case isFalse=>simp at h
   rename_i hcond;simp only[Bool.and_eq_true,Bool.not_eq_true',List.contains_eq_mem,decide_eq_false_iff_not]at hcond;obtain⟨hin,hs⟩:=hcond;simp only[qB,qI,Prod.mk.injEq,Bool.and_eq_true,Bool.or_eq_true]at h;obtain⟨hp1,hh,vx,hx,vy,hy,m,hm,z,hz,rfl,ho1,ho2⟩:=h;have hcs:aM s σr.sl=some (.one (B e)):=by
    have:=hl.sl s c hc;rw[this]
    revert he
    unfold asBool;split
    ·intro he;obtain rfl:=Option.some.inj he;rfl
    ·intro he;simp at he
   have hdrop: ∀{τ:St}{hp:List Blk},τ.hp=hp→(∀n,n∉its.dsts→aM n τ.sl=aM n σr.sl)→Le ⟨tG σ.sl its.dsts,hp⟩ τ:=fun{τ hp} h1 h2=>⟨fun n v hn=>by
    have:=lH hn;rw[h2 n this.1];exact hl.sl n v this.2,h1⟩
   have ha': ∀{n:Nat}{w':Bool},g=some (n,w')→n∉its.dsts∧n≠d∧n∉t.dsts:=fun{n w'} e'=>by
    have:=ha n w' e';simpa only[Its.dsts,q_j,List.mem_cons,not_or]using this
   have main: ∃τ,bV R (its.flat (some (s,w))) σr=some τ∧τ.hp=hp1∧(∀n,n∉its.dsts→aM n τ.sl=aM n σr.sl)∧(if e then τ.ev a else τ.ev b)=some m:=by
    by_cases hw:e=w
    ·subst hw;have hok:i.2=true:=by
      rcases ho1 with h|h
      ·exact h
      ·cases e<;>simp at h
     have hih:i.1.hp=hp1:=by
      split at hh
      ·rename_i hq;obtain rfl:=Option.some.inj hh;exact rA hq hi
      ·rw[nC hh];cases e<;>rfl
     obtain⟨τ,k1,k2⟩:=rB hQ (its:=its) (g:=some (s,e)) (σ:=σ) (σ':=i.1) (by rw[hi,←hok]) hl (fun s' w' e'=>by
      simp only[qI,Prod.mk.injEq]at e';obtain⟨rfl,rfl⟩:=e';exact hcs) (fun s' w' e'=>by
      simp only[qI,Prod.mk.injEq]at e';obtain⟨rfl,rfl⟩:=e';exact hs)
     refine⟨τ,k1,by rw[k2.hp];exact hih,fun n hn=>zP k1 n (qY hn),?_⟩
     rw[nB hm];cases e
     ·simp only[Bool.false_eq_true,if_false,cond_false]at hy⊢;exact k2.ev _ _ hy
     ·simp only[if_true,cond_true]at hx⊢;exact k2.ev _ _ hx
    ·have hw':e=!w:=by cases e<;>cases w<;>simp_all
     subst hw';have hih:hp1=σ.hp:=by
      split at hh
      ·exact(Option.some.inj hh).symm
      ·rw[nC hh];cases w<;>rfl
     obtain⟨τ,k1,k2,k3,k4,k5⟩:=vZ (R:=R) (its:=its) (s:=s) (w:=w) (ds:=[]) (σ:=σr) (.inr hcs) hin (by simp)
     refine⟨τ,k1,by rw[k2,hih];exact hl.hp,k3,?_⟩
     have hd:=hdrop (τ:=τ) (hp:=σ.hp) (by rw[k2];exact hl.hp) k3
     rw[nB hm];cases w
     ·simp only[Bool.not_false,if_true,cond_true,Bool.false_eq_true,if_false]at hx⊢;exact hd.ev _ _ hx
     ·simp only[Bool.not_true,Bool.false_eq_true,if_false,cond_false,if_true]at hy⊢;exact hd.ev _ _ hy
   obtain⟨τ,m1,m2,m3,m4⟩:=main;have hgτ:UE g τ:=fun s' w' e'=>by rw[m3 s' (ha' e').1];exact hg s' w' e'
   have hpick:(K.pick d (.t s) a b).run R τ=some (τ.set d m):=by
    have hct:τ.ev (.t s)=some (.one (B e)):=by
     show aM s τ.sl=_
     rw[m3 s hs];exact hcs
    simp only[K.run,K.exec,hct,Option.bind_some,asBool,K.dst,Zq.setD];cases e
    ·simp only[Bool.false_eq_true,if_false]at m4⊢;simp[m4]
    ·simp only[if_true]at m4⊢;simp[m4]
   obtain⟨σr',k1,k2⟩:=rB hQ (its:=t) (g:=g) (σr:=τ.set d m) (by rw[hz,←ho2]) ((hdrop m2 m3).set d m) (fun s' w' e'=>by
    rw[kG (ha' e').2.1];exact hgτ s' w' e') (fun s' w' e'=>(ha' e').2.2)
   refine⟨σr',?_,k2⟩;rw[Its.flat,nE m1];simp only[bV,runG_holds hgτ,hpick,Option.bind_some];exact k1
end Go.Zq

namespace Go.Zq
open Go
inductive Tr where
 |leaf (σ:St)
 |br (b:Bool) (x y:Tr)
def Tr.st:Tr→St
 | .leaf σ=>σ
 | .br b x y=>bif b then x.st else y.st
def Tr.All(P:St→Prop):Tr→Prop
 | .leaf σ=>P σ
 | .br _ x y=>x.All P∧y.All P
theorem Tr.All.st{P:St→Prop}: ∀{t:Tr},t.All P→P t.st
 | .leaf σ,h=>h
 | .br b x y,h=>by
   cases b
   ·exact Tr.All.st (t:=y) h.2
   ·exact Tr.All.st (t:=x) h.1
theorem Tr.All.mono{P P':St→Prop}(hp: ∀σ,P σ→P' σ): ∀{t:Tr},t.All P→t.All P'
 | .leaf σ,h=>hp σ h
 | .br b x y,h=>⟨Tr.All.mono hp (t:=x) h.1,Tr.All.mono hp (t:=y) h.2⟩
inductive Ex where
 |ret
 |brk (id:Nat)
def Ex.out:Ex→St→Out
 | .ret,σ=> .ret σ
 | .brk id,σ=> .brk id σ
structure O where
 ex:List (Ex×Bool×Tr)
 nor:Option Tr
def fO:List (Ex×Bool×Tr)→Option Tr→Option Out
 |[],none=>none
 |[],some t=>some (.nor t.st)
 |(k,b,t)::r,n=>bif b then some (k.out t.st)else fO r n
def O.den(o:O):Option Out:=fO o.ex o.nor
structure O.All(P:St→Prop)(o:O):Prop where
 ex: ∀e∈o.ex,e.2.2.All P
 nor: ∀t,o.nor=some t→t.All P
theorem O.All.mono{P P':St→Prop}(hp: ∀σ,P σ→P' σ){o:O}(h:o.All P):o.All P':=⟨fun e he=>(h.ex e he).mono hp,fun t ht=>(h.nor t ht).mono hp⟩
inductive LeOut:Out→Out→Prop where
 |nor {σ σ':St} (h:Le σ σ'):LeOut (.nor σ) (.nor σ')
 |brk {id:Nat} {σ σ':St} (h:Le σ σ'):LeOut (.brk id σ) (.brk id σ')
 |ret {σ σ':St} (h:Le σ σ'):LeOut (.ret σ) (.ret σ')
theorem LeOut.refl: ∀{o:Out},LeOut o o
 | .nor _=> .nor .rfl
 | .brk _ _=> .brk .rfl
 | .ret _=> .ret .rfl
theorem LeOut.trans{a b c:Out}(h:LeOut a b)(k:LeOut b c):LeOut a c:=by
 cases h<;>cases k
 ·exact .nor (Le.trans ‹_› ‹_›)
 ·exact .brk (Le.trans ‹_› ‹_›)
 ·exact .ret (Le.trans ‹_› ‹_›)
def CI(asg:Option (List Nat))(n:Nat):Bool:=match asg with|some l=>l.contains n|none=>true
def jR(b:Bool)(asg:Option (List Nat))(s1 s2:List (Nat×SV)):List Nat→List (Nat×SV)
 |[]=>[]
 |n::r=>
  match aM n s1 with
  |none=>jR b asg s1 s2 r
  |some v=>
   match aM n s2 with
   |none=>jR b asg s1 s2 r
   |some u=>
    if CI asg n=true then
     match nA b v u with
     |some m=>(n,m)::jR b asg s1 s2 r
     |none=>jR b asg s1 s2 r
    else(n,v)::jR b asg s1 s2 r
def lI(b:Bool)(asg:Option (List Nat))(quiet:Bool)(σ1 σ2:St):Option St:=
 (if quiet then some σ1.hp else lF b σ1.hp σ2.hp).map fun hp=>⟨jR b asg σ1.sl σ2.sl (σ1.sl.map (·.1)),hp⟩
structure Fr(asg:Option (List Nat))(quiet:Bool)(σ0 σ:St):Prop where
 sl: ∀l,asg=some l→ ∀n v,n∉l→aM n σ.sl=some v→aM n σ0.sl=some v
 hp:quiet=true→σ.hp=σ0.hp
theorem d9{b:Bool}{asg:Option (List Nat)}{s1 s2:List (Nat×SV)}{n:Nat}{v:SV}: ∀{l:List Nat},aM n (jR b asg s1 s2 l)=some v→
  ∃x y,aM n s1=some x∧aM n s2=some y∧((CI asg n=true∧nA b x y=some v)∨(CI asg n=false∧v=x))
 |[],h=>by simp[jR,aM]at h
 |m::r,h=>by
  unfold jR at h;cases hx:aM m s1 with
  |none=>simp only[hx]at h;exact d9 h
  |some x=>
   cases hy:aM m s2 with
   |none=>simp only[hx,hy]at h;exact d9 h
   |some y=>
    simp only[hx,hy]at h;by_cases hc:CI asg m=true
    ·rw[if_pos hc]at h;cases hz:nA b x y with
     |none=>simp only[hz]at h;exact d9 h
     |some z=>
      simp only[hz,aM]at h;by_cases e:m=n
      ·rw[if_pos e]at h;subst e;obtain rfl:=Option.some.inj h;exact⟨x,y,hx,hy, .inl ⟨hc,hz⟩⟩
      ·rw[if_neg e]at h;exact d9 h
    ·rw[if_neg hc]at h;simp only[aM]at h;by_cases e:m=n
     ·rw[if_pos e]at h;subst e;obtain rfl:=Option.some.inj h;exact⟨x,y,hx,hy, .inr ⟨by simpa using hc,rfl⟩⟩
     ·rw[if_neg e]at h;exact d9 h
theorem CJ{l:List Nat}{n:Nat}:CI (some l) n=true↔n∈l:=by simp[CI]
theorem CK{b:Bool}{asg:Option (List Nat)}{quiet:Bool}{σ0 σ1 σ2 σ:St}(h:lI b asg quiet σ1 σ2=some σ)(h1:Fr asg quiet σ0 σ1)(h2:Fr asg quiet σ0 σ2):Le σ (bif b then σ1 else σ2):=by
 simp only[lI,Option.map_eq_some_iff]at h;obtain⟨hp,hh,rfl⟩:=h;constructor
 ·intro n v hn;obtain⟨x,y,hx,hy,⟨-,hm⟩|⟨hnl,rfl⟩⟩:=d9 hn
  ·rw[nB hm];cases b
   ·exact hy
   ·exact hx
  ·cases b
   ·cases asg with
    |none=>simp[CI]at hnl
    |some l=>
     have hnl':n∉l:=fun e=>by rw[CJ.2 e]at hnl;simp at hnl
     have e1:=h1.sl l rfl n _ hnl' hx;have e2:=h2.sl l rfl n _ hnl' hy;rw[e1]at e2;obtain rfl:=Option.some.inj e2;exact hy
   ·exact hx
 ·split at hh
  ·rename_i hq;obtain rfl:=Option.some.inj hh;cases b
   ·exact(h2.hp hq).trans (h1.hp hq).symm
   ·rfl
  ·rw[nC hh];cases b<;>rfl
theorem O5{b:Bool}{asg:Option (List Nat)}{quiet:Bool}{σ0 σ1 σ2 σ:St}(h:lI b asg quiet σ1 σ2=some σ)(h1:Fr asg quiet σ0 σ1):Fr asg quiet σ0 σ:=by
 simp only[lI,Option.map_eq_some_iff]at h;obtain⟨hp,hh,rfl⟩:=h;constructor
 ·intro l hl n v hn hv;obtain⟨x,y,hx,hy,⟨hnl,-⟩|⟨-,rfl⟩⟩:=d9 hv
  ·subst hl;exact absurd (CJ.1 hnl) hn
  ·exact h1.sl l hl n _ hn hx
 ·intro hq;rw[if_pos hq]at hh;obtain rfl:=Option.some.inj hh;exact h1.hp hq
def CL(mg:Bool→St→St→Option St)(b:Bool):Tr→Tr→Tr
 | .leaf σ1, .leaf σ2=>match mg b σ1 σ2 with
   |some σ=> .leaf σ
   |none=> .br b (.leaf σ1) (.leaf σ2)
 |x,y=> .br b x y
structure MgOk(mg:Bool→St→St→Option St)(P:St→Prop):Prop where
 le: ∀b σ1 σ2 σ,P σ1→P σ2→mg b σ1 σ2=some σ→Le σ (bif b then σ1 else σ2)
 all: ∀b σ1 σ2 σ,P σ1→P σ2→mg b σ1 σ2=some σ→P σ
theorem rC{mg:Bool→St→St→Option St}{P:St→Prop}(hm:MgOk mg P){b:Bool}{x y:Tr}(hx:x.All P)(hy:y.All P):Le (CL mg b x y).st (bif b then x.st else y.st):=by
 unfold CL;split
 ·split
  ·rename_i h;exact hm.le _ _ _ _ hx hy h
  ·exact .rfl
 ·exact .rfl
theorem CM{mg:Bool→St→St→Option St}{P:St→Prop}(hm:MgOk mg P){b:Bool}{x y:Tr}(hx:x.All P)(hy:y.All P):(CL mg b x y).All P:=by
 unfold CL;split
 ·split
  ·rename_i h;exact hm.all _ _ _ _ hx hy h
  ·exact⟨hx,hy⟩
 ·exact⟨hx,hy⟩
def v5(mg:Bool→St→St→Option St)(b:Bool):Option Tr→Option Tr→Option Tr
 |none,t=>t
 |some t,none=>some t
 |some x,some y=>some (CL mg b x y)
def zQ(mg:Bool→St→St→Option St)(b:Bool)(o1 o2:O):O:=
 ⟨o1.ex.map (fun e=>(e.1,e.2.1&&b,e.2.2))++o2.ex.map (fun e=>(e.1,e.2.1&&!b,e.2.2)),v5 mg b o1.nor o2.nor⟩
theorem v6: ∀{l:List (Ex×Bool×Tr)}{l':List (Ex×Bool×Tr)}{n:Option Tr},(∀e∈l,e.2.1=false)→fO (l++l') n=fO l' n
 |[],l',n,h=>rfl
 |e::r,l',n,h=>by
  have he:=h e (List.mem_cons_self ..);obtain⟨k,b,t⟩:=e;simp only at he;subst he;simp only[List.cons_append,fO,cond_false];exact v6 fun e he=>h e (List.mem_cons_of_mem _ he)
theorem CN{l l':List (Ex×Bool×Tr)}{n n':Option Tr}{f:Bool→Bool}(hf: ∀b,f b=b){out:Out}(h:fO l n=some out)(hl: ∀e∈l',e.2.1=false)(hn: ∀t,n=some t→ ∃t',n'=some t'∧Le t'.st t.st):
  ∃out',fO (l.map (fun e=>(e.1,f e.2.1,e.2.2))++l') n'=some out'∧LeOut out' out:=by
 induction l with
 |nil=>
  rw[List.map_nil,List.nil_append];have:=v6 (l':=[]) (n:=n') hl;rw[List.append_nil]at this;rw[this];cases n with
  |none=>simp[fO]at h
  |some t=>
   simp only[fO,Option.some.injEq]at h;subst h;obtain⟨t',rfl,ht⟩:=hn t rfl;exact⟨_,rfl, .nor ht⟩
 |cons e r ih=>
  obtain⟨k,b,t⟩:=e;cases b
  ·simp only[fO,cond_false]at h;simp only[List.map_cons,List.cons_append,fO];rw[hf];exact ih h
  ·simp only[fO,cond_true]at h;simp only[List.map_cons,List.cons_append,fO];rw[hf];exact⟨_,h, .refl⟩
theorem rD{mg:Bool→St→St→Option St}{P:St→Prop}(hm:MgOk mg P){b:Bool}{o1 o2:O}(h1:o1.All P)(h2:o2.All P){out:Out}(h:(bif b then o1.den else o2.den)=some out):
  ∃out',(zQ mg b o1 o2).den=some out'∧LeOut out' out:=by
 cases b
 ·simp only[cond_false]at h;unfold O.den zQ at*;simp only;rw[v6 (by intro e he;obtain⟨e',-,rfl⟩:=List.mem_map.1 he;simp)]
  have:=CN (l':=[]) (n':=v5 mg false o1.nor o2.nor) (f:=fun b=>b&&!false) (by simp) h (by simp) (fun t ht=>by
   rw[ht];cases hn:o1.nor with
   |none=>exact⟨t,rfl, .rfl⟩
   |some t1=>exact⟨_,rfl,rC hm (h1.nor _ hn) (h2.nor _ ht)⟩)
  rwa [List.append_nil]at this
 ·simp only[cond_true]at h;unfold O.den zQ at*;simp only;exact CN (f:=fun b=>b&&true) (by simp) h (by intro e he;obtain⟨e',-,rfl⟩:=List.mem_map.1 he;simp) (fun t ht=>by
   rw[ht];cases hn:o2.nor with
   |none=>exact⟨t,rfl, .rfl⟩
   |some t2=>exact⟨_,rfl,rC hm (h1.nor _ ht) (h2.nor _ hn)⟩)
theorem G8{mg:Bool→St→St→Option St}{P:St→Prop}(hm:MgOk mg P){b:Bool}{o1 o2:O}(h1:o1.All P)(h2:o2.All P):(zQ mg b o1 o2).All P:=by
 constructor
 ·intro e he;simp only[zQ,List.mem_append,List.mem_map]at he;rcases he with⟨e',he',rfl⟩|⟨e',he',rfl⟩
  ·exact h1.ex e' he'
  ·exact h2.ex e' he'
 ·intro t ht;simp only[zQ]at ht;cases hn1:o1.nor with
  |none=>rw[hn1]at ht;exact h2.nor t ht
  |some t1=>
   cases hn2:o2.nor with
   |none=>rw[hn1,hn2]at ht;obtain rfl:=Option.some.inj ht;exact h1.nor _ hn1
   |some t2=>rw[hn1,hn2]at ht;obtain rfl:=Option.some.inj ht;exact CM hm (h1.nor _ hn1) (h2.nor _ hn2)
def aB6(b:Bool)(σ1 σ2:St):Option St:=lI b none false σ1 σ2
theorem v7:MgOk aB6 (fun _=>True):=⟨fun b σ1 σ2 σ _ _ h=>CK (σ0:=σ) h ⟨by simp,by simp⟩ ⟨by simp,by simp⟩,fun _ _ _ _ _ _ _=>trivial⟩
theorem O.All.triv(o:O):o.All fun _=>True:=by
 have: ∀t:Tr,t.All fun _=>True:=by
  intro t
  induction t with
  |leaf=>trivial
  |br b x y ihx ihy=>exact⟨ihx,ihy⟩
 exact⟨fun e _=>this _,fun t _=>this t⟩
def O6(f:St→Option (O×Bool)):Tr→Option (O×Bool)
 | .leaf σ=>f σ
 | .br b x y=>(O6 f x).bind fun r1=>(O6 f y).bind fun r2=>some (zQ aB6 b r1.1 r2.1,(r1.2||!b)&&(r2.2||b))
def aKB:List (Ex×Bool×Tr)→Bool→Bool
 |[],ok=>ok
 |e::r,ok=>aKB r ok||e.2.1
def sD(r:O×Bool)(f:St→Option (O×Bool)):Option (O×Bool):=
 match r.1.nor with
 |none=>some r
 |some t=>(O6 f t).bind fun r2=>some (⟨r.1.ex++r2.1.ex,r2.1.nor⟩,r.2&&aKB r.1.ex r2.2)
def CP(f:St→Option (O×Bool))(g:St→Option Out):Prop:= ∀σ σr o,f σ=some (o,true)→Le σ σr→ ∃out0 out,o.den=some out0∧g σr=some out∧LeOut out0 out
theorem tH{f:St→Option (O×Bool)}{g:St→Option Out}(hf:CP f g): ∀{t:Tr}{σr:St}{o:O},O6 f t=some (o,true)→Le t.st σr→ ∃out0 out,o.den=some out0∧g σr=some out∧LeOut out0 out
 | .leaf σ,σr,o,h,hl=>hf σ σr o h hl
 | .br b x y,σr,o,h,hl=>by
   simp only[O6,Option.bind_eq_some_iff,Option.some.injEq,Prod.mk.injEq,Bool.and_eq_true,Bool.or_eq_true]at h;obtain⟨r1,h1,r2,h2,rfl,k1,k2⟩:=h;cases b
   ·have k:r2.2=true:=by simpa using k2
    obtain⟨out0,out,a1,a2,a3⟩:=tH hf (t:=y) (σr:=σr) (o:=r2.1) (by rw[h2,←k]) hl
    obtain⟨out',b1,b2⟩:=rD (b:=false) (o1:=r1.1) v7 (.triv _) (.triv _) a1;exact⟨out',out,b1,a2,b2.trans a3⟩
   ·have k:r1.2=true:=by simpa using k1
    obtain⟨out0,out,a1,a2,a3⟩:=tH hf (t:=x) (σr:=σr) (o:=r1.1) (by rw[h1,←k]) hl
    obtain⟨out',b1,b2⟩:=rD (b:=true) (o2:=r2.1) v7 (.triv _) (.triv _) a1;exact⟨out',out,b1,a2,b2.trans a3⟩
theorem G9: ∀{l:List (Ex×Bool×Tr)}{ok:Bool}{t:Tr}{out:Out},aKB l ok=true→fO l (some t)=some out→(∃σ,out= .nor σ)→ok=true
 |[],ok,t,out,h,hd,hn=>h
 |(k,b,u)::r,ok,t,out,h,hd,hn=>by
  cases b
  ·simp only[aKB,Bool.or_false]at h;simp only[fO,cond_false]at hd;exact G9 h hd hn
  ·simp only[fO,cond_true,Option.some.injEq]at hd;obtain⟨σ,rfl⟩:=hn;cases k<;>simp[Ex.out]at hd
theorem tI: ∀{l:List (Ex×Bool×Tr)}{n:Option Tr}{out:Out},fO l n=some out→(∃k σ,out=Ex.out k σ∧ ∀l' m,fO (l++l') m=some out)∨(∃t,n=some t∧out= .nor t.st∧ ∀l' m,fO (l++l') m=fO l' m)
 |[],none,out,h=>by simp[fO]at h
 |[],some t,out,h=>by
  simp only[fO,Option.some.injEq]at h;exact .inr ⟨t,rfl,h.symm,fun _ _=>rfl⟩
 |(k,b,t)::r,n,out,h=>by
  cases b
  ·simp only[fO,cond_false]at h;simp only[List.cons_append,fO,cond_false];exact tI h
  ·simp only[fO,cond_true,Option.some.injEq]at h;subst h;exact .inl ⟨k,t.st,rfl,fun l' m=>by simp[fO]⟩
theorem zR{r:O×Bool}{f:St→Option (O×Bool)}{g:St→Option Out}(hf:CP f g){o:O}(h:sD r f=some (o,true)){out0 out:Out}(hd:r.2=true→r.1.den=some out0∧LeOut out0 out):
  ∃out0' out',o.den=some out0'∧(match out with| .nor σ=>g σ|o=>some o)=some out'∧LeOut out0' out':=by
 unfold sD at h;split at h
 ·rename_i hn;obtain⟨rfl,hr⟩:r.1=o∧r.2=true:=by
   have:=Option.some.inj h;rw[this];exact⟨rfl,rfl⟩
  obtain⟨hden,hl⟩:=hd hr;refine⟨out0,out,hden,?_,hl⟩;unfold O.den at hden;cases hl with
  |nor hl=>
   rcases tI hden with⟨k,σ,e,-⟩|⟨t,e,-⟩
   ·cases k<;>simp[Ex.out]at e
   ·rw[hn]at e;simp at e
  |brk hl=>rfl
  |ret hl=>rfl
 ·rename_i t hn;simp only[Option.bind_eq_some_iff,Option.some.injEq,Prod.mk.injEq,Bool.and_eq_true]at h;obtain⟨r2,h2,rfl,k1,k2⟩:=h;obtain⟨hden,hl⟩:=hd k1;unfold O.den at hden;rcases tI hden with⟨k,σ,rfl,e⟩|⟨t',e1,rfl,e2⟩
  ·refine⟨Ex.out k σ,out,e _ _,?_,hl⟩;cases k<;>cases hl<;>rfl
  ·rw[hn]at e1 hden;obtain rfl:=Option.some.inj e1;cases hl with
   |nor hl=>
    have hok:=G9 k2 hden ⟨_,rfl⟩;obtain⟨o0,o1,a1,a2,a3⟩:=tH hf (t:=t) (o:=r2.1) (by rw[h2,←hok]) hl
    exact⟨o0,o1,by unfold O.den;rw[e2];exact a1,a2,a3⟩
end Go.Zq

namespace Go.Zq
open Option renaming bind_eq_some_iff → qB
open Option.some renaming injEq → qI
open Option.some renaming inj → qi
open Prod.mk renaming injEq → qP
open Go
theorem aB7{a:Option (List Nat)}{q:Bool}{σ0:St}:MgOk aB6 (Fr a q σ0) where
 le b σ1 σ2 σ _ _ h:=v7.le b σ1 σ2 σ trivial trivial h
 all b σ1 σ2 σ h1 h2 h:=by
  have hle:=v7.le b σ1 σ2 σ trivial trivial h;cases b
  ·exact⟨fun l hl n v hn hv=>h2.sl l hl n v hn (hle.sl n v hv),fun hq=>hle.hp.symm.trans (h2.hp hq)⟩
  ·exact⟨fun l hl n v hn hv=>h1.sl l hl n v hn (hle.sl n v hv),fun hq=>hle.hp.symm.trans (h1.hp hq)⟩
def unO(a b:Option (List Nat)):Option (List Nat):=
 match a,b with
 |some x,some y=>some (x++y)
 |_,_=>none
def tJ:C→Option (List Nat)
 | .ops l _=>some (l.flatMap fun g=>g.2.dsts)
 | .seq x y=>unO (tJ x) (tJ y)
 | .cond _ x y=>unO (tJ x) (tJ y)
 | .blk _ x=>tJ x
 | .loop _ _=>none
 | .drw (l::_) _ false=>some (l.flatMap fun g=>g.2.dsts)
 | .drw _ _ _=>none
 |_=>some []
def hU:C→Bool
 | .ops l _=>l.all fun g=>hK g.2
 | .seq x y=>hU x&&hU y
 | .cond _ x y=>hU x&&hU y
 | .blk _ x=>hU x
 | .loop _ _=>false
 | .drw .. =>false
 |_=>true
theorem Fr.rfl{a:Option (List Nat)}{q:Bool}{σ:St}:Fr a q σ σ:=⟨fun _ _ _ _ _ h=>h,fun _=>Eq.refl _⟩
theorem Fr.left{a b:Option (List Nat)}{q r:Bool}{σ τ:St}(h:Fr a q σ τ):Fr (unO a b) (q&&r) σ τ:=⟨fun l hl n v hn hv=>by
 unfold unO at hl;split at hl
 ·obtain rfl:=qi hl;simp only[List.mem_append,not_or]at hn;exact h.sl _ (Eq.refl _) n v hn.1 hv
 ·simp at hl,fun hq=>h.hp (by simp at hq;exact hq.1)⟩
theorem Fr.right{a b:Option (List Nat)}{q r:Bool}{σ τ:St}(h:Fr b r σ τ):Fr (unO a b) (q&&r) σ τ:=⟨fun l hl n v hn hv=>by
 unfold unO at hl;split at hl
 ·obtain rfl:=qi hl;simp only[List.mem_append,not_or]at hn;exact h.sl _ (Eq.refl _) n v hn.2 hv
 ·simp at hl,fun hq=>h.hp (by simp at hq;exact hq.2)⟩
theorem Fr.trans{a b:Option (List Nat)}{q r:Bool}{σ τ ω:St}(h:Fr a q σ τ)(k:Fr b r τ ω):Fr (unO a b) (q&&r) σ ω:=⟨fun l hl n v hn hv=>by
 unfold unO at hl;split at hl
 ·obtain rfl:=qi hl;simp only[List.mem_append,not_or]at hn;exact h.sl _ (Eq.refl _) n v hn.1 (k.sl _ (Eq.refl _) n v hn.2 hv)
 ·simp at hl,fun hq=>by
 simp only[Bool.and_eq_true]at hq;exact(k.hp hq.2).trans (h.hp hq.1)⟩
theorem CQ{a:Option (List Nat)}{q:Bool}{σ0:St}{f:St→Option (O×Bool)}: ∀{t:Tr}{r:O×Bool},(∀σ r,f σ=some r→t.All (fun _=>True)→r.1.All (Fr a q σ))→O6 f t=some r→ ∀{a0:Option (List Nat)}{q0:Bool},t.All (Fr a0 q0 σ0)→r.1.All (Fr (unO a0 a) (q0&&q) σ0)
 | .leaf σ,r,hf,h,a0,q0,ht=>(hf σ r h trivial).mono fun τ hτ=>Fr.trans ht hτ
 | .br b x y,r,hf,h,a0,q0,ht=>by
   have htr: ∀t:Tr,t.All fun _=>True:=by
    intro t
    induction t with
    |leaf=>trivial
    |br b x y ihx ihy=>exact⟨ihx,ihy⟩
   simp only[O6,qB,qI]at h;obtain⟨r1,h1,r2,h2,rfl⟩:=h;exact G8 aB7 (CQ (fun σ r h _=>hf σ r h (htr _)) h1 ht.1) (CQ (fun σ r h _=>hf σ r h (htr _)) h2 ht.2)
theorem ZB{a a0:Option (List Nat)}{q q0:Bool}{σ0:St}{f:St→Option (O×Bool)}{r r':O×Bool}(hf: ∀σ r,f σ=some r→r.1.All (Fr a q σ))(hr:r.1.All (Fr a0 q0 σ0))(h:sD r f=some r'):r'.1.All (Fr (unO a0 a) (q0&&q) σ0):=by
 unfold sD at h;split at h
 ·obtain rfl:=qi h;exact hr.mono fun _ h=>h.left
 ·rename_i t hn;simp only[qB,qI]at h;obtain⟨r2,h2,rfl⟩:=h;have h3:=CQ (fun σ r h _=>hf σ r h) h2 (hr.nor t hn)
  refine⟨fun e he=>?_,h3.nor⟩
  simp only[List.mem_append]at he;rcases he with he|he
  ·exact(hr.ex e he).mono fun _ h=>h.left
  ·exact h3.ex e he
def kH(mg:Bool→St→St→Option St)(id:Nat):List (Ex×Bool×Tr)→Option Tr→List (Ex×Bool×Tr)×Option Tr
 |[],n=>([],n)
 |(k,p,t)::r,n=>
  match k with
  | .ret=>let q:=kH mg id r n;((.ret,p,t)::q.1,q.2)
  | .brk j=>
    if j=id then let q:=kH mg id r n;(q.1.map (fun e=>(e.1,e.2.1&&!p,e.2.2)),v5 mg p (some t) q.2)
    else let q:=kH mg id r n;((.brk j,p,t)::q.1,q.2)
def lW(id:Nat):Out→Out
 | .brk j σ=>if j=id then .nor σ else .brk j σ
 |o=>o
theorem xN{mg:Bool→St→St→Option St}{P:St→Prop}(hm:MgOk mg P){id:Nat}: ∀{l:List (Ex×Bool×Tr)}{n:Option Tr},(O.mk l n).All P→(O.mk (kH mg id l n).1 (kH mg id l n).2).All P
 |[],n,h=>h
 |(k,p,t)::r,n,h=>by
  have ih:=xN hm (id:=id) (l:=r) (n:=n) ⟨fun e he=>h.ex e (List.mem_cons_of_mem _ he),h.nor⟩
  have ht:t.All P:=h.ex _ (List.mem_cons_self ..);unfold kH;split
  ·refine⟨fun e he=>?_,ih.nor⟩
   simp only[List.mem_cons]at he;rcases he with rfl|he
   ·exact ht
   ·exact ih.ex e he
  ·split
   ·refine⟨fun e he=>?_,fun u hu=>?_⟩
    ·obtain⟨e',he',rfl⟩:=List.mem_map.1 he;exact ih.ex e' he'
    ·simp only at hu;cases hn:(kH mg id r n).2 with
     |none=>rw[hn]at hu;obtain rfl:=qi hu;exact ht
     |some t2=>rw[hn]at hu;obtain rfl:=qi hu;exact CM hm ht (ih.nor _ hn)
   ·refine⟨fun e he=>?_,ih.nor⟩
    simp only[List.mem_cons]at he;rcases he with rfl|he
    ·exact ht
    ·exact ih.ex e he
theorem HA{mg:Bool→St→St→Option St}{P:St→Prop}(hm:MgOk mg P){id:Nat}: ∀{l:List (Ex×Bool×Tr)}{n:Option Tr}{out:Out},(O.mk l n).All P→fO l n=some out→ ∃out',fO (kH mg id l n).1 (kH mg id l n).2=some out'∧LeOut out' (lW id out)
 |[],none,out,h,hd=>by simp[fO]at hd
 |[],some t,out,h,hd=>by
  simp only[fO,qI]at hd;subst hd;exact⟨_,rfl, .refl⟩
 |(k,p,t)::r,n,out,h,hd=>by
  have hr:(O.mk r n).All P:=⟨fun e he=>h.ex e (List.mem_cons_of_mem _ he),h.nor⟩
  have ha:=xN hm (id:=id) hr;have ht:t.All P:=h.ex _ (List.mem_cons_self ..);unfold kH;cases p
  ·simp only[fO,cond_false]at hd;obtain⟨out',i1,i2⟩:=HA hm (id:=id) hr hd;split
   ·exact⟨out',by simp only[fO,cond_false];exact i1,i2⟩
   ·split
    ·simp only;have:=CN (l':=[]) (n':=v5 mg false (some t) (kH mg id r n).2) (f:=fun b=>b&&!false) (by simp) i1 (by simp) (fun u hu=>by
      rw[hu];exact⟨_,rfl,rC (b:=false) hm ht (ha.nor _ hu)⟩)
     rw[List.append_nil]at this;obtain⟨o2,j1,j2⟩:=this;exact⟨o2,j1,j2.trans i2⟩
    ·exact⟨out',by simp only[fO,cond_false];exact i1,i2⟩
  ·simp only[fO,cond_true,qI]at hd;subst hd;split
   ·exact⟨_,rfl, .refl⟩
   ·rename_i j;split
    ·rename_i e;subst e;simp only;have:=v6 (l:=(kH mg j r n).1.map (fun e=>(e.1,e.2.1&&!true,e.2.2))) (l':=[]) (n:=v5 mg true (some t) (kH mg j r n).2) (by intro e he;obtain⟨e',-,rfl⟩:=List.mem_map.1 he;simp)
     rw[List.append_nil]at this;rw[this];simp only[Ex.out,lW,if_true];cases hn:(kH mg j r n).2 with
     |none=>exact⟨_,rfl, .refl⟩
     |some t2=>exact⟨_,rfl, .nor (rC (b:=true) hm ht (ha.nor _ hn))⟩
    ·rename_i e;refine⟨.brk j t.st,rfl,?_⟩;simp only[Ex.out,lW,e,if_false];exact .refl
def HB(nb:Nat)(live:List Nat)(f:St→Option (O×Bool)):Nat→St→Option (O×Bool)
 |0,_=>some (⟨[],none⟩,false)
 |n+1,σ=>(xK true nb live σ).bind fun c=>(f c.1).bind fun r=>(sD r (HB nb live f n)).bind fun o=>some (o.1,c.2&&o.2)
def a0T(cl:List Nat):Opd→Bool
 | .t n=>cl.contains n
 | .c _=>true
abbrev Lq:=List Nat→St→Option (O×Bool)
def lqN:Lq:=fun _ _=>none
def dN(T:List Nat→C→Prop):C→Prop
 | .seq x y=>dN T x∧dN T y
 | .cond _ x y=>dN T x∧dN T y
 | .blk _ x=>dN T x
 | .loop live x=>T live x∧dN T x
 |_=>True
noncomputable def same{α:Type}(a b:α):Bool:= @decide (a=b) (Classical.propDecidable _)
theorem gN{α:Type}{a b:α}(h:same a b=true):a=b:=by
 unfold same at h;exact @of_decide_eq_true _ (Classical.propDecidable _) h
theorem gX{α:Type}(a:α):same a a=true:=by
 unfold same;exact @decide_eq_true _ (Classical.propDecidable _) rfl
noncomputable def MW(a b:List Row):Bool:=same a b
theorem O7(a:List Row):MW a a=true:=gX a
noncomputable def eqV:Value→Value→Bool
 | .int k x, .int k' y=>decide (k=k')&&same x y
 | .bool x, .bool y=>same x y
 | .string x, .string y=>same x y
 |v,u=>same v u
theorem aRG{v u:Value}(h:eqV v u=true):v=u:=by
 unfold eqV at h;split at h
 ·obtain⟨h1,h2⟩:=aT h;rw[of_decide_eq_true h1,gN h2]
 ·rw[gN h]
 ·rw[gN h]
 ·exact gN h
noncomputable def eqT:T→T→Bool
 | .lit v, .lit u=>eqV v u
 | .ptr i r o, .ptr i' r' o'=>Nat.beq i i'&&(Nat.beq r r'&&Nat.beq o o')
 | .sl i o l, .sl i' o' l'=>Nat.beq i i'&&(Nat.beq o o'&&same l l')
 | .nls n, .nls m=>Nat.beq n m
 | .imm p n r, .imm p' n' r'=>same p p'&&(Nat.beq n n'&&MW r r')
 | .clo f c, .clo f' c'=>Nat.beq f f'&&same c c'
 |t,u=>same t u
theorem aB9{v u:T}(h:eqT v u=true):v=u:=by
 unfold eqT at h;split at h
 ·rw[aRG h]
 ·obtain⟨h1,h2⟩:=aT h;obtain⟨h2,h3⟩:=aT h2;rw[Nat.eq_of_beq_eq_true h1,Nat.eq_of_beq_eq_true h2,Nat.eq_of_beq_eq_true h3]
 ·obtain⟨h1,h2⟩:=aT h;obtain⟨h2,h3⟩:=aT h2;rw[Nat.eq_of_beq_eq_true h1,Nat.eq_of_beq_eq_true h2,gN h3]
 ·rw[Nat.eq_of_beq_eq_true h]
 ·obtain⟨h1,h2⟩:=aT h;obtain⟨h2,h3⟩:=aT h2;rw[gN h1,Nat.eq_of_beq_eq_true h2,gN h3]
 ·obtain⟨h1,h2⟩:=aT h;rw[Nat.eq_of_beq_eq_true h1,gN h2]
 ·exact gN h
noncomputable def ZC:Row→Row→Bool
 |[],[]=>true
 |t::r,u::s=>eqT t u&&ZC r s
 |_,_=>false
theorem IA: ∀{v u:Row},ZC v u=true→v=u
 |[],[],_=>rfl
 |t::r,u::s,h=>by
  obtain⟨h1,h2⟩:=aT h;rw[aB9 h1,IA h2]
 |[],_::_,h=>by simp[ZC]at h
 |_::_,[],h=>by simp[ZC]at h
noncomputable def aRH:SV→SV→Bool
 | .und, .und=>true
 | .one t, .one u=>eqT t u
 | .agg t, .agg u=>ZC t u
 |v,u=>same v u
theorem aKC{v u:SV}(h:aRH v u=true):v=u:=by
 unfold aRH at h;split at h
 ·rfl
 ·rw[aB9 h]
 ·rw[IA h]
 ·exact gN h
noncomputable def aCA:List (Nat×SV)→List (Nat×SV)→Bool
 |[],[]=>true
 |(n,v)::r,(m,u)::s=>Nat.beq n m&&(aRH v u&&aCA r s)
 |_,_=>false
theorem UF: ∀{v u:List (Nat×SV)},aCA v u=true→v=u
 |[],[],_=>rfl
 |(n,v)::r,(m,u)::s,h=>by
  obtain⟨h1,h2⟩:=aT h;obtain⟨h2,h3⟩:=aT h2;rw[Nat.eq_of_beq_eq_true h1,aKC h2,UF h3]
 |[],_::_,h=>by simp[aCA]at h
 |_::_,[],h=>by simp[aCA]at h
noncomputable def aCB:Blk→Blk→Bool
 | .dead, .dead=>true
 | .box t, .box u=>ZC t u
 | .lst n t, .lst m u=>Nat.beq n m&&MW t u
 |v,u=>same v u
theorem aCC{v u:Blk}(h:aCB v u=true):v=u:=by
 unfold aCB at h;split at h
 ·rfl
 ·rw[IA h]
 ·obtain⟨h1,h2⟩:=aT h;rw[Nat.eq_of_beq_eq_true h1,gN h2]
 ·exact gN h
noncomputable def aCD:List Blk→List Blk→Bool
 |[],[]=>true
 |t::r,u::s=>aCB t u&&aCD r s
 |_,_=>false
theorem UG: ∀{v u:List Blk},aCD v u=true→v=u
 |[],[],_=>rfl
 |t::r,u::s,h=>by
  obtain⟨h1,h2⟩:=aT h;rw[aCC h1,UG h2]
 |[],_::_,h=>by simp[aCD]at h
 |_::_,[],h=>by simp[aCD]at h
noncomputable def a0U(σ τ:St):Bool:=aCA σ.sl τ.sl&&aCD σ.hp τ.hp
theorem aKD{σ τ:St}(h:a0U σ τ=true):σ=τ:=by
 obtain⟨h1,h2⟩:=aT h;cases σ;cases τ;simp only at h1 h2;rw[UF h1,UG h2]
def aKE(nb:Nat)(kp:List Nat)(cn:Bool)(σ:St):Option (St×Bool):=
 if cn=true then
  if kp.contains 999998=true then if((kp.filter (·!=999998)).all fun n=>(aM n σ.sl).isSome)=true then(HV nb (trim (some (kp.filter (·!=999998))) σ)).bind fun c=>some (c,true)else none
  else xK true nb kp σ
 else if(kp.all fun n=>(aM n σ.sl).isSome)=true then some (trim (some kp) σ,true)else none
theorem CS{σ σr:St}(hl:Le σ σr): ∀{kp:List Nat},(kp.all fun n=>(aM n σ.sl).isSome)=true→keep σr.sl kp=keep σ.sl kp∧(kp.all fun n=>(aM n σr.sl).isSome)=true
 |[],_=>⟨rfl,rfl⟩
 |n::r,h=>by
  simp only[List.all_cons,Bool.and_eq_true]at h;obtain⟨h1,h2⟩:=h;obtain⟨v,hv⟩:=Option.isSome_iff_exists.1 h1;have hr:=hl.sl n v hv;obtain⟨i1,i2⟩:=CS hl h2;constructor
  ·simp only[keep,hv,hr,i1]
  ·simp only[List.all_cons,hr,i2];rfl
noncomputable def v8(Q:Qt)(kd:List (Nat×List Kd))(nb:Nat)(kp:List Nat)(cn:Bool):List (List G)→St→Option (St×Bool)
 |[],_=>none
 |l::r,σ=>
  match(lG (2*l.length+2) none l).2 with
  |[]=>(LZ Q kd (lG (2*l.length+2) none l).1 σ).bind fun x=>(aKE nb kp cn x.1).bind fun c=>match r with
   |[]=>some (c.1,x.2&&c.2)
   |_::_=>(v8 Q kd nb kp cn r σ).bind fun c'=>some (c.1,(x.2&&c.2)&&(c'.2&&a0U c'.1 c.1))
  |_::_=>none
noncomputable def w6(Q:Qt)(kd:List (Nat×List Kd))(cl:List Nat)(lq:Lq)(nb n:Nat):C→St→Option (O×Bool)
 | .drw ls kp cn,σ=>(v8 Q kd nb kp cn ls σ).bind fun r=>some (⟨[],some (.leaf r.1)⟩,r.2)
 | .ops l kp,σ=>
   match(lG (2*l.length+2) none l).2 with
   |[]=>(LZ Q kd (lG (2*l.length+2) none l).1 σ).bind fun r=>some (⟨[],some (.leaf (trim kp r.1))⟩,r.2)
   |_::_=>none
 | .seq x y,σ=>(w6 Q kd cl lq nb n x σ).bind fun r=>sD r (w6 Q kd cl lq nb n y)
 | .cond c x y,σ=>(σ.ev c).bind fun v=>(asBool v).bind fun b=>
   if a0T cl c=true then match b with
    |true=>w6 Q kd cl lq nb n x σ
    |false=>w6 Q kd cl lq nb n y σ
   else(w6 Q kd cl lq nb n x σ).bind fun r1=>(w6 Q kd cl lq nb n y σ).bind fun r2=>
    some (zQ (fun b=>lI b (unO (tJ x) (tJ y)) (hU x&&hU y)) b r1.1 r2.1,(r1.2||!b)&&(r2.2||b))
 | .blk id x,σ=>(w6 Q kd cl lq nb n x σ).bind fun r=>
   let q:=kH (fun b=>lI b (tJ x) (hU x)) id r.1.ex r.1.nor
   some (⟨q.1,q.2⟩,r.2)
 | .loop live x,σ=>match lq live σ with
   |some r=>some r
   |none=>HB nb live (w6 Q kd cl lq nb n x) n σ
 | .brk id,σ=>some (⟨[(.brk id,true, .leaf σ)],none⟩,true)
 | .ret,σ=>some (⟨[(.ret,true, .leaf σ)],none⟩,true)
 | .skip,σ=>some (⟨[],some (.leaf σ)⟩,true)
theorem kI{a:Option (List Nat)}{q:Bool}{σ0:St}:MgOk (fun b=>lI b a q) (Fr a q σ0) where
 le b σ1 σ2 σ h1 h2 h:=CK h h1 h2
 all b σ1 σ2 σ h1 h2 h:=O5 h h1
theorem lJ{n:Nat}{v:SV}{sl:List (Nat×SV)}: ∀{l:List Nat},aM n (keep sl l)=some v→n∈l∧aM n sl=some v
 |[],h=>by simp[keep,aM]at h
 |m::r,h=>by
  unfold keep at h;split at h
  ·rename_i u hu;simp only[aM]at h;split at h
   ·rename_i e;subst e;obtain rfl:=qi h;exact⟨List.mem_cons_self ..,hu⟩
   ·have:=lJ h;exact⟨List.mem_cons_of_mem _ this.1,this.2⟩
  ·have:=lJ h;exact⟨List.mem_cons_of_mem _ this.1,this.2⟩
theorem CT{n:Nat}{v:SV}{sl:List (Nat×SV)}: ∀{l:List Nat},n∈l→aM n sl=some v→aM n (keep sl l)=some v
 |m::r,hm,h=>by
  unfold keep;by_cases e:m=n
  ·subst e;rw[h];simp[aM]
  ·have hr:n∈r:=by
    rcases List.mem_cons.1 hm with h|h
    ·exact absurd h.symm e
    ·exact h
   split
   ·simp only[aM,e,if_false];exact CT hr h
   ·exact CT hr h
theorem UH{kp:Option (List Nat)}{σ σr:St}(h:Le σ σr):Le (trim kp σ) (trim kp σr):=by
 cases kp with
 |none=>exact h
 |some l=>exact⟨fun n v hn=>by
   have:=lJ hn;exact CT this.1 (h.sl n v this.2),h.hp⟩
theorem MX{kp:Option (List Nat)}{σ:St}{n:Nat}{v:SV}(h:aM n (trim kp σ).sl=some v):aM n σ.sl=some v:=by
 cases kp with
 |none=>exact h
 |some l=>exact(lJ h).2
theorem aKF{kp:Option (List Nat)}{σ:St}:(trim kp σ).hp=σ.hp:=by cases kp<;>rfl
theorem mN{n:Nat}: ∀{its:Its}{g:Option (Nat×Bool)},(∀x∈its.flat g,n∉x.2.dsts)→n∉its.dsts
 | .nil,g,h=>by simp[Its.dsts]
 | .op k r,g,h=>by
   simp only[Its.flat,List.mem_cons,forall_eq_or_imp]at h;simp only[Its.dsts,List.mem_append,not_or];exact⟨h.1,mN h.2⟩
 | .iff s w its d a b r,g,h=>by
   simp only[Its.flat,List.mem_append,List.mem_cons]at h;simp only[Its.dsts,List.mem_append,List.mem_cons,not_or];refine⟨mN fun x hx=>h x (.inl hx),?_,mN fun x hx=>h x (.inr (.inr hx))⟩
   have:=h _ (.inr (.inl rfl));simpa [K.dsts,K.dst]using this
theorem nF: ∀{its:Its}{g:Option (Nat×Bool)},(∀x∈its.flat g,hK x.2=true)→its.quiet=true
 | .nil,g,h=>rfl
 | .op k r,g,h=>by
   simp only[Its.flat,List.mem_cons,forall_eq_or_imp]at h;simp only[Its.quiet,Bool.and_eq_true];exact⟨h.1,nF h.2⟩
 | .iff s w its d a b r,g,h=>by
   simp only[Its.flat,List.mem_append,List.mem_cons]at h;simp only[Its.quiet,Bool.and_eq_true];exact⟨nF fun x hx=>h x (.inl hx),nF fun x hx=>h x (.inr (.inr hx))⟩
theorem mO{n:Nat}{l:List G}(h:(lG n none l).2=[]):(lG n none l).1.flat none=l:=by
 have:=nD n none l
 rwa [h,List.append_nil]at this
theorem MY{Q:Qt}{kd:List (Nat×List Kd)}{nb:Nat}{kp:List Nat}{l:List G}{r:List (List G)}{σ:St}{c:St×Bool}(h:v8 Q kd nb kp false (l::r) σ=some c)(n:Nat)(v:SV)(hn:n∉l.flatMap fun g=>g.2.dsts)(hv:aM n c.1.sl=some v):
  aM n σ.sl=some v:=by
 unfold v8 at h;split at h
 ·rename_i hp;simp only[qB]at h;obtain⟨i,hi,x,hx,h⟩:=h;have hc:c.1=x.1:=by
   split at h
   ·obtain rfl:=qi h;rfl
   ·simp only[qB,qI]at h;obtain⟨_,_,rfl⟩:=h;rfl
  rw[hc]at hv;unfold aKE at hx;rw[if_neg (by simp)]at hx
  obtain⟨-,hx1⟩:=bB hx;obtain rfl:=qi hx1;have hf:=mO hp;refine qZ hi n v (mN (g:=none) fun x hx=>?_) (MX hv)
  rw[hf]at hx;exact fun e=>hn (List.mem_flatMap.2 ⟨x,hx,e⟩)
 ·simp at h
theorem iW{Q:Qt}{kd:List (Nat×List Kd)}{cl:List Nat}{lq:Lq}{nb n:Nat}: ∀{c:C}{σ:St}{r:O×Bool},w6 Q kd cl lq nb n c σ=some r→r.1.All (Fr (tJ c) (hU c) σ)
 | .drw ls kp cn,σ,r,h=>by
   simp only[w6,qB,qI]at h;obtain⟨c,hc,rfl⟩:=h;refine⟨by simp,fun t ht=>?_⟩
   obtain rfl:=qi ht;refine⟨fun l' hl' m v hm hv=>?_,fun hq=>by simp[hU]at hq⟩
   cases ls with
   |nil=>simp[v8]at hc
   |cons l ls=>
    cases cn with
    |true=>simp[tJ]at hl'
    |false=>
     simp only[tJ,qI]at hl';subst hl';exact MY hc m v hm hv
 | .ops l kp,σ,r,h=>by
   unfold w6 at h;split at h
   ·rename_i hp;simp only[qB,qI]at h;obtain⟨i,hi,rfl⟩:=h;have hf:=mO hp;refine⟨by simp,fun t ht=>?_⟩
    obtain rfl:=qi ht;refine⟨fun l' hl' m v hm hv=>?_,fun hq=>?_⟩
    ·simp only[tJ,qI]at hl';subst hl';refine qZ hi m v (mN (g:=none) fun x hx=>?_) (MX hv)
     rw[hf]at hx;exact fun e=>hm (List.mem_flatMap.2 ⟨x,hx,e⟩)
    ·rw[aKF];refine rA (nF (g:=none) fun x hx=>?_) hi
     rw[hf]at hx;simp only[hU,List.all_eq_true]at hq;exact hq x hx
   ·simp at h
 | .seq x y,σ,r,h=>by
   simp only[w6,qB]at h;obtain⟨r1,h1,h2⟩:=h;exact ZB (fun σ r h=>iW h) (iW h1) h2
 | .cond c x y,σ,r,h=>by
   simp only[w6,qB]at h;obtain⟨v,hv,b,hb,h⟩:=h;split at h
   ·split at h
    ·exact(iW h).mono fun _ h=>h.left
    ·exact(iW h).mono fun _ h=>h.right
   ·simp only[qB,qI]at h;obtain⟨r1,h1,r2,h2,rfl⟩:=h;exact G8 kI ((iW h1).mono fun _ h=>h.left) ((iW h2).mono fun _ h=>h.right)
 | .blk id x,σ,r,h=>by
   simp only[w6,qB,qI]at h;obtain⟨r1,h1,rfl⟩:=h;have h2:=xN (kI (a:=tJ x) (q:=hU x)) (id:=id) (iW (c:=x) h1);exact h2
 | .loop live x,σ,r,h=>by
   have htr: ∀t:Tr,t.All (Fr none false σ):=by
    intro t
    induction t with
    |leaf=>exact⟨by simp,by simp⟩
    |br b x y ihx ihy=>exact⟨ihx,ihy⟩
   exact⟨fun e _=>htr _,fun t _=>htr t⟩
 | .brk id,σ,r,h=>by
   simp only[w6,qI]at h;subst h;exact⟨fun e he=>by simp only[List.mem_singleton]at he;subst he;exact Fr.rfl,by simp⟩
 | .ret,σ,r,h=>by
   simp only[w6,qI]at h;subst h;exact⟨fun e he=>by simp only[List.mem_singleton]at he;subst he;exact Fr.rfl,by simp⟩
 | .skip,σ,r,h=>by
   simp only[w6,qI]at h;subst h;exact⟨by simp,fun t ht=>by obtain rfl:=qi ht;exact Fr.rfl⟩
theorem o9{nb:Nat}{live:List Nat}{σ σr σ':St}(h:canon nb live σ=some σ')(hl:Le σ σr):canon nb live σr=some σ':=by
 have h0: ∃src m,∃r,eX σ src m live=some r:=by
  unfold canon at h;simp only at h;split at h
  ·simp only[qB]at h;obtain⟨x,hx,s,hs,h⟩:=h;exact⟨_,_,_,hs⟩
  ·simp at h
 have hlook: ∀s∈live,aM s σr.sl=aM s σ.sl:=by
  obtain⟨src,m,r,h0⟩:=h0
  clear h
  induction live generalizing m r with
  |nil=>simp
  |cons s t ih=>
   simp only[eX,qB]at h0;obtain⟨v,hv,h0⟩:=h0;intro s' hs';rcases List.mem_cons.1 hs' with rfl|hs'
   ·rw[hv,hl.sl _ _ hv]
   ·split at h0
    ·simp only[qB]at h0;obtain⟨x,hx,l,h0,-⟩:=h0;exact ih _ _ h0 _ hs'
    ·simp only[qB]at h0;obtain⟨x,hx,l,h0,-⟩:=h0;exact ih _ _ h0 _ hs'
    ·simp only[qB]at h0;obtain⟨l,h0,-⟩:=h0;exact ih _ _ h0 _ hs'
    ·simp at h0
 have hc: ∀live,(∀s∈live,aM s σr.sl=aM s σ.sl)→fW σr live=fW σ live:=by
  intro live
  induction live with
  |nil=>intro _;rfl
  |cons s t ih=>
   intro h;have:=ih fun s' hs'=>h s' (List.mem_cons_of_mem _ hs')
   unfold fW at*;rw[List.flatMap_cons,List.flatMap_cons,this,h s (List.mem_cons_self ..)]
 have hs: ∀live src m,(∀s∈live,aM s σr.sl=aM s σ.sl)→eX σr src m live=eX σ src m live:=by
  intro live
  induction live with
  |nil=>intro _ _ _;rfl
  |cons s t ih=>
   intro src m h;have:=fun m=>ih src m fun s' hs'=>h s' (List.mem_cons_of_mem _ hs')
   unfold eX;rw[h s (List.mem_cons_self ..)];simp only[this]
 rw[←h];unfold canon;simp only[hc live hlook,hl.hp,hs live _ _ hlook]
theorem zS{nb:Nat}{live:List Nat}{f:St→Option (O×Bool)}{g:St→Option Out}(hf:CP f g): ∀n,CP (HB nb live f n) (mX nb live g n)
 |0=>fun σ σr o h hl=>by simp[HB]at h
 |n+1=>fun σ σr o h hl=>by
  simp only[HB,qB,qI,qP]at h;obtain⟨σ1,h1,r,hr,o2,h2,rfl,ho⟩:=h;obtain⟨ok1,ok2⟩:=aT ho;have hc:=o9 (qU (σ':=σ1.1) (by rw[h1,←ok1])) hl
  have h2':sD r (HB nb live f n)=some (o2.1,true):=by rw[h2,←ok2]
  simp only[mX,hc,Option.bind_some];have hr2:r.2=true:=by
   unfold sD at h2';split at h2'
   ·rw[qi h2']
   ·simp only[qB,qI,qP,Bool.and_eq_true]at h2';obtain⟨_,_,_,h,_⟩:=h2';exact h
  obtain⟨out0,out,a1,a2,a3⟩:=hf σ1.1 σ1.1 r.1 (by rw[hr,←hr2]) .rfl
  obtain⟨o0,o1,b1,b2,b3⟩:=zR (zS hf n) h2' (fun _=>⟨a1,a3⟩)
  refine⟨o0,o1,b1,?_,b3⟩;rw[a2,Option.bind_some,←b2];cases out<;>rfl
theorem aCE{r r':O×Bool}{f:St→Option (O×Bool)}(h:sD r f=some r')(hr:r'.2=true):r.2=true:=by
 unfold sD at h;split at h
 ·rw[qi h,hr]
 ·simp only[qB,qI]at h;obtain⟨_,_,h⟩:=h;subst h;simp only[Bool.and_eq_true]at hr;exact hr.1
theorem UI{nb:Nat}{kp:List Nat}{cn:Bool}{σ σr c:St}(h:aKE nb kp cn σ=some (c,true))(hl:Le σ σr):oI nb kp cn σr=some c:=by
 unfold aKE at h;unfold oI;split at h
 ·rename_i e;rw[if_pos e];split at h
  ·rename_i e1;rw[if_pos e1];obtain⟨h1,h2⟩:=bB h;obtain⟨k1,k2⟩:=CS hl h1;rw[if_pos k2];simp only[qB,qI,qP,and_true]at h2;obtain⟨c',hc,rfl⟩:=h2;rw[←hc];simp only[trim,k1,hl.hp]
  ·rename_i e1;rw[if_neg e1];exact o9 (qU h) hl
 ·rename_i e;rw[if_neg e];obtain⟨h1,h2⟩:=bB h;obtain⟨k1,k2⟩:=CS hl h1;rw[if_pos k2];simp only[qI,qP,and_true]at h2;rw[←h2];simp only[trim,k1,hl.hp]
theorem pA{R:Rt}{Q:Qt}(hQ:O1 (cF R) Q){kd:List (Nat×List Kd)}{nb:Nat}{kp:List Nat}{cn:Bool}{σ σr:St}(hl:Le σ σr): ∀{ls:List (List G)}{c:St},v8 Q kd nb kp cn ls σ=some (c,true)→gA R nb kp cn ls σr=some c
 |[],c,h=>by simp[v8]at h
 |l::r,c,h=>by
  unfold v8 at h;split at h
  case h_2=>simp at h
  rename_i hp;simp only[qB]at h;obtain⟨i,hi,x,hx,h⟩:=h;have run:i.2=true→ ∃τ,bV R l σr=some τ∧Le i.1 τ:=fun ho=>by
   obtain⟨τ,h1,h2⟩:=rB hQ (g:=none) (by rw[hi,←ho]) hl (fun s w e=>by simp at e) (fun s w e=>by simp at e)
   rw[mO hp]at h1;exact⟨τ,h1,h2⟩
  cases r with
  |nil=>
   simp only[qI,qP]at h;obtain⟨rfl,ho⟩:=h;obtain⟨o1,o2⟩:=aT ho;obtain⟨τ,h1,h2⟩:=run o1;simp only[gA,h1,Option.bind_some];rw[UI (c:=x.1) (by rw[hx,←o2]) h2]
   rfl
  |cons m r=>
   simp only[qB,qI,qP]at h;obtain⟨c',hc',rfl,ho⟩:=h;obtain⟨o1,o2⟩:=aT ho;obtain⟨o1,o3⟩:=aT o1;obtain⟨o2,o4⟩:=aT o2;obtain⟨τ,h1,h2⟩:=run o1;have h3:=pA hQ hl (ls:=m::r) (c:=c'.1) (by rw[hc',←o2])
   unfold gA;rw[h1,Option.bind_some,UI (c:=x.1) (by rw[hx,←o3]) h2,Option.bind_some]
   simp only;rw[h3,Option.bind_some,if_pos (aKD o4)]
theorem f6{R:Rt}{Q:Qt}(hQ:O1 (cF R) Q){kd:List (Nat×List Kd)}{cl:List Nat}{lq:Lq}{nb n:Nat}: ∀{c:C},dN (fun live x=>CP (lq live) (dI R nb n (.loop live x))) c→CP (w6 Q kd cl lq nb n c) (dI R nb n c)
 | .drw ls kp cn,hL=>fun σ σr o h hl=>by
   simp only[w6,qB,qI,qP]at h;obtain⟨c,hc,rfl,ho⟩:=h;have:=pA hQ hl (c:=c.1) (by rw[hc,←ho])
   exact⟨.nor c.1, .nor c.1,rfl,by simp[dI,this], .nor .rfl⟩
 | .ops l kp,hL=>fun σ σr o h hl=>by
   unfold w6 at h;split at h
   ·rename_i hp;simp only[qB,qI,qP]at h;obtain⟨i,hi,rfl,ho⟩:=h;obtain⟨τ,h1,h2⟩:=rB hQ (g:=none) (by rw[hi,←ho]) hl (fun s w e=>by simp at e) (fun s w e=>by simp at e)
    rw[mO hp]at h1;exact⟨.nor (trim kp i.1), .nor (trim kp τ),rfl,by simp[dI,h1], .nor (UH h2)⟩
   ·simp at h
 | .seq x y,hL=>fun σ σr o h hl=>by
   simp only[w6,qB]at h;obtain⟨r,hr,h⟩:=h;obtain⟨out0,out,a1,a2,a3⟩:=f6 hQ (c:=x) hL.1 σ σr r.1 (by rw[hr,←aCE h rfl]) hl
   obtain⟨o0,o1,b1,b2,b3⟩:=zR (f6 hQ (c:=y) hL.2) h (fun _=>⟨a1,a3⟩)
   refine⟨o0,o1,b1,?_,b3⟩;rw[dI,a2,Option.bind_some,←b2];cases out<;>rfl
 | .cond c x y,hL=>fun σ σr o h hl=>by
   simp only[w6,qB]at h;obtain⟨v,hv,b,hb,h⟩:=h;have hv':=hl.ev _ _ hv;simp only[dI,hv',hb,Option.bind_some];split at h
   ·split at h
    ·simp only[if_true];exact f6 hQ (c:=x) hL.1 σ σr o h hl
    ·simp only[Bool.false_eq_true,if_false];exact f6 hQ (c:=y) hL.2 σ σr o h hl
   ·simp only[qB,qI,qP,Bool.and_eq_true,Bool.or_eq_true]at h;obtain⟨r1,h1,r2,h2,rfl,k1,k2⟩:=h;have f1:=(iW h1).mono fun _ h=>Fr.left (b:=tJ y) (r:=hU y) h
    have f2:=(iW h2).mono fun _ h=>Fr.right (a:=tJ x) (q:=hU x) h
    cases b
    ·have k:r2.2=true:=by simpa using k2
     obtain⟨out0,out,a1,a2,a3⟩:=f6 hQ (c:=y) hL.2 σ σr r2.1 (by rw[h2,←k]) hl
     obtain⟨out',b1,b2⟩:=rD (b:=false) (o1:=r1.1) kI f1 f2 a1;exact⟨out',out,b1,by simpa using a2,b2.trans a3⟩
    ·have k:r1.2=true:=by simpa using k1
     obtain⟨out0,out,a1,a2,a3⟩:=f6 hQ (c:=x) hL.1 σ σr r1.1 (by rw[h1,←k]) hl
     obtain⟨out',b1,b2⟩:=rD (b:=true) (o2:=r2.1) kI f1 f2 a1;exact⟨out',out,b1,by simpa using a2,b2.trans a3⟩
 | .blk id x,hL=>fun σ σr o h hl=>by
   simp only[w6,qB,qI,qP]at h;obtain⟨r,hr,rfl,ho⟩:=h;obtain⟨out0,out,a1,a2,a3⟩:=f6 hQ (c:=x) hL σ σr r.1 (by rw[hr,←ho]) hl
   obtain⟨out',b1,b2⟩:=HA (id:=id) kI (iW hr) a1;refine⟨out',lW id out,b1,?_,b2.trans ?_⟩
   ·rw[dI,a2,Option.bind_some];cases out with
    |nor σ=>rfl
    |ret σ=>rfl
    |brk j σ=>
     simp only[lW];split<;>rfl
   ·cases a3 with
    |nor h=>exact .nor h
    |ret h=>exact .ret h
    |brk h=>
     simp only[lW];split
     ·exact .nor h
     ·exact .brk h
 | .loop live x,hL=>fun σ σr o h hl=>by
   simp only[w6]at h;split at h
   ·rename_i r hr;rw[h]at hr;exact hL.1 σ σr o hr hl
   ·rw[dI];exact zS (f6 hQ (c:=x) hL.2) n σ σr o h hl
 | .brk id,hL=>fun σ σr o h hl=>by
   simp only[w6,qI,qP]at h;obtain⟨rfl,-⟩:=h;exact⟨.brk id σ, .brk id σr,rfl,rfl, .brk hl⟩
 | .ret,hL=>fun σ σr o h hl=>by
   simp only[w6,qI,qP]at h;obtain⟨rfl,-⟩:=h;exact⟨.ret σ, .ret σr,rfl,rfl, .ret hl⟩
 | .skip,hL=>fun σ σr o h hl=>by
   simp only[w6,qI,qP]at h;obtain⟨rfl,-⟩:=h;exact⟨.nor σ, .nor σr,rfl,rfl, .nor hl⟩
def UJ(res:List Rv)(nb:Nat)(σ:St):Option (SV×List Blk):=(dQ σ res).bind fun vs=>leave nb σ vs
theorem tK{σ σr:St}(hl:Le σ σr): ∀{res:List Rv}{vs:List SV},dQ σ res=some vs→dQ σr res=some vs
 |[],vs,h=>h
 | .tmp n::r,vs,h=>by
   simp only[dQ,qB]at h⊢;obtain⟨v,hv,us,hu,h⟩:=h;exact⟨v,hl.sl _ _ hv,us,tK hl hu,h⟩
 | .cell n k::r,vs,h=>by
   simp only[dQ,qB]at h⊢;obtain⟨v,hv,t,ht,cs,hc,u,hu,us,hus,h⟩:=h;exact⟨v,hl.sl _ _ hv,t,ht,cs,by rw[hl.hp];exact hc,u,hu,us,tK hl hus,h⟩
theorem aCF{res:List Rv}{nb:Nat}{σ σr:St}(hl:Le σ σr){r:SV×List Blk}(h:UJ res nb σ=some r):UJ res nb σr=some r:=by
 simp only[UJ,qB]at h⊢;obtain⟨vs,hv,h⟩:=h;refine⟨vs,tK hl hv,?_⟩;unfold leave at h⊢;rw[hl.hp];exact h
def aV(f:FuncId)(q:List SV→List Blk→Option ((SV×List Blk)×Bool))(Q:Qt):Qt:=fun g args hp=>if g=f then match q args hp with|some r=>some r|none=>Q g args hp else Q g args hp
theorem aG{R:Rt}{f:FuncId}{q:List SV→List Blk→Option ((SV×List Blk)×Bool)}{Q:Qt}(h: ∀args hp r,q args hp=some (r,true)→R f args hp=some r)(hQ:O1 R Q):O1 R (aV f q Q):=fun g args hp r hg=>by
 unfold aV at hg;split at hg
 ·rename_i e;subst e;split at hg
  ·rename_i r' hr;obtain rfl:=qi hg;exact h _ _ _ hr
  ·exact hQ _ _ _ _ hg
 ·exact hQ _ _ _ _ hg
def qnil:Qt:=fun _ _ _=>none
theorem UK{R:Rt}:O1 R qnil:=fun _ _ _ _ h=>by simp[qnil]at h
end Go.Zq

namespace Go.Zq
open Option renaming bind_eq_some_iff → qB
open Option.some renaming injEq → qI
open Option.some renaming inj → qi
open Go
inductive Pt(α:Type) where
 |leaf (a:α)
 |br (b:Bool) (x y:Pt α)
 |ok (b:Bool) (x:Pt α)
def Pt.val{α:Type}:Pt α→α
 | .leaf a=>a
 | .br b x y=>bif b then x.val else y.val
 | .ok _ x=>x.val
def Pt.okv{α:Type}:Pt α→Bool
 | .leaf _=>true
 | .br b x y=>bif b then x.okv else y.okv
 | .ok b x=>b&&x.okv
def Pt.map{α β:Type}(f:α→β):Pt α→Pt β
 | .leaf a=> .leaf (f a)
 | .br b x y=> .br b (x.map f) (y.map f)
 | .ok b x=> .ok b (x.map f)
def Pt.bindO{α β:Type}(f:α→Option (Pt β)):Pt α→Option (Pt β)
 | .leaf a=>f a
 | .br b x y=>(x.bindO f).bind fun x=>(y.bindO f).bind fun y=>some (.br b x y)
 | .ok b x=>(x.bindO f).bind fun x=>some (.ok b x)
theorem Pt.val_map{α β:Type}(f:α→β): ∀t:Pt α,(t.map f).val=f t.val
 | .leaf a=>rfl
 | .br b x y=>by
   simp only[Pt.map,Pt.val,Pt.val_map f x,Pt.val_map f y];cases b<;>rfl
 | .ok b x=>Pt.val_map f x
theorem Pt.okv_map{α β:Type}(f:α→β): ∀t:Pt α,(t.map f).okv=t.okv
 | .leaf a=>rfl
 | .br b x y=>by simp only[Pt.map,Pt.okv,Pt.okv_map f x,Pt.okv_map f y]
 | .ok b x=>by simp only[Pt.map,Pt.okv,Pt.okv_map f x]
theorem Pt.bindO_val{α β:Type}{f:α→Option (Pt β)}: ∀{t:Pt α}{u:Pt β},t.bindO f=some u→u.okv=true→t.okv=true∧ ∃w,f t.val=some w∧w.okv=true∧u.val=w.val
 | .leaf a,u,h,ho=>⟨rfl,u,h,ho,rfl⟩
 | .br b x y,u,h,ho=>by
   simp only[Pt.bindO,qB,qI]at h;obtain⟨x',hx,y',hy,rfl⟩:=h;cases b
   ·have:=Pt.bindO_val (t:=y) (u:=y') hy ho;exact this
   ·have:=Pt.bindO_val (t:=x) (u:=x') hx ho;exact this
 | .ok b x,u,h,ho=>by
   simp only[Pt.bindO,qB,qI]at h;obtain⟨x',hx,rfl⟩:=h;obtain⟨h1,h2⟩:=aT ho;obtain⟨k1,k2⟩:=Pt.bindO_val (t:=x) hx h2;exact⟨by simp only[Pt.okv,h1,k1];rfl,k2⟩
def bN(f:St→Option (Pt Out))(g:St→Option Out):Prop:= ∀σ σr t,f σ=some t→t.okv=true→Le σ σr→ ∃out,g σr=some out∧LeOut t.val out
def trP:Tr→Pt Out
 | .leaf σ=> .leaf (.nor σ)
 | .br b x y=> .br b (trP x) (trP y)
theorem IB: ∀t:Tr,(trP t).val= .nor t.st∧(trP t).okv=true
 | .leaf σ=>⟨rfl,rfl⟩
 | .br b x y=>by
   cases b
   ·exact IB y
   ·exact IB x
def gK:C→Nat
 | .ops ((_,k)::_) _=>k.dst.getD 0
 | .ops [] _=>0
 | .drw (((_,k)::_)::_) _ _=>k.dst.getD 0
 | .drw _ _ _=>0
 | .seq x _=>gK x
 | .cond (.t n) _ _=>n
 | .cond (.c _) x _=>gK x
 | .blk _ x=>gK x
 | .loop _ x=>gK x
 |_=>0
abbrev Lp:=List (Nat×(St→Option (Pt Out)))
def hX:Lp→Nat→St→Option (Pt Out)
 |[],_,_=>none
 |(m,f)::r,n,σ=>if m=n then f σ else hX r n σ
def O8(hp:List Blk):T→T×Bool
 | .sl id off len=>match hp[id]? with
   |some (.lst _ rows)=>(.sl id off rows.length,decide (len=rows.length))
   |_=>(.sl id off len,true)
 |t=>(t,true)
theorem UL{hp:List Blk}{t:T}(h:(O8 hp t).2=true):(O8 hp t).1=t:=by
 unfold O8 at h⊢;split at h
 ·split at h
  ·rename_i hb;simp only[hb];rw[of_decide_eq_true h]
  ·rfl
 ·rfl
def nG(hp:List Blk):Row→Row×Bool
 |[]=>([],true)
 |t::r=>((O8 hp t).1::(nG hp r).1,(O8 hp t).2&&(nG hp r).2)
theorem xO{hp:List Blk}: ∀{t:Row},(nG hp t).2=true→(nG hp t).1=t
 |[],_=>rfl
 |t::r,h=>by
  obtain⟨h1,h2⟩:=aT h;simp only[nG,UL h1,xO h2]
def v9(hp:List Blk):SV→SV×Bool
 | .one t=>(.one (O8 hp t).1,(O8 hp t).2)
 | .agg ts=>(.agg (nG hp ts).1,(nG hp ts).2)
 |v=>(v,true)
theorem wA{hp:List Blk}{v:SV}(h:(v9 hp v).2=true):(v9 hp v).1=v:=by
 cases v with
 |one t=>simp only[v9,UL (t:=t) h]
 |agg ts=>simp only[v9,xO (t:=ts) h]
 |und=>rfl
 |tup _=>rfl
def tM(hp:List Blk):List SV→List SV×Bool
 |[]=>([],true)
 |t::r=>((v9 hp t).1::(tM hp r).1,(v9 hp t).2&&(tM hp r).2)
theorem HC{hp:List Blk}: ∀{t:List SV},(tM hp t).2=true→(tM hp t).1=t
 |[],_=>rfl
 |t::r,h=>by
  obtain⟨h1,h2⟩:=aT h;simp only[tM,wA h1,HC h2]
def MZ(hp:List Blk):SV→SV×Bool
 | .tup vs=>(.tup (tM hp vs).1,(tM hp vs).2)
 |v=>v9 hp v
theorem aCG{hp:List Blk}{v:SV}(h:(MZ hp v).2=true):(MZ hp v).1=v:=by
 cases v with
 |tup vs=>simp only[MZ,HC (t:=vs) h]
 |one t=>exact wA (v:= .one t) h
 |agg ts=>exact wA (v:= .agg ts) h
 |und=>rfl
def f7(hp:List Blk):List Blk→List Blk×Bool
 |[]=>([],true)
 | .box cs::r=>(.box (nG hp cs).1::(f7 hp r).1,(nG hp cs).2&&(f7 hp r).2)
 |b::r=>(b::(f7 hp r).1,(f7 hp r).2)
theorem kJ{hp:List Blk}: ∀{l:List Blk},(f7 hp l).2=true→(f7 hp l).1=l
 |[],_=>rfl
 | .box cs::r,h=>by
   obtain⟨h1,h2⟩:=aT h;simp only[f7,xO h1,kJ h2]
 | .dead::r,h=>by simp only[f7,kJ (l:=r) h]
 | .lst n rows::r,h=>by simp only[f7,kJ (l:=r) h]
def CU(hp:List Blk):List (Nat×SV)→List (Nat×SV)×Bool
 |[]=>([],true)
 |p::r=>((p.1,(v9 hp p.2).1)::(CU hp r).1,(v9 hp p.2).2&&(CU hp r).2)
theorem M1{hp:List Blk}: ∀{l:List (Nat×SV)},(CU hp l).2=true→(CU hp l).1=l
 |[],_=>rfl
 |p::r,h=>by
  obtain⟨h1,h2⟩:=aT h;simp only[CU,wA h1,M1 h2]
def CV(wm nm:Bool)(nb:Nat)(σ:St)(vs:List SV):Option ((SV×List Blk)×Bool):=
 if nm=false then H8 wm nb σ vs else(H8 wm nb σ vs).bind fun r=>some (((MZ r.1.2 r.1.1).1,(f7 r.1.2 r.1.2).1),r.2&&((MZ r.1.2 r.1.1).2&&(f7 r.1.2 r.1.2).2))
theorem ZD{wm nm:Bool}{nb:Nat}{σ:St}{vs:List SV}{r:SV×List Blk}(h:CV wm nm nb σ vs=some (r,true)):leave nb σ vs=some r:=by
 unfold CV at h;split at h
 ·exact G1 h
 ·simp only[qB,qI,Prod.mk.injEq]at h;obtain⟨q,hq,rfl,ho⟩:=h;obtain⟨o1,o2⟩:=aT ho;obtain⟨o2,o3⟩:=aT o2;rw[aCG o2,kJ o3];exact G1 (wm:=wm) (r:=q.1) (by rw[hq,←o1])
def CW(wm nm:Bool)(nb:Nat)(live:List Nat)(σ:St):Option (St×Bool):=
 if nm=false then xK wm nb live σ else(xK wm nb live σ).bind fun r=>some (⟨(CU r.1.hp r.1.sl).1,(f7 r.1.hp r.1.hp).1⟩,r.2&&((CU r.1.hp r.1.sl).2&&(f7 r.1.hp r.1.hp).2))
theorem xP{wm nm:Bool}{nb:Nat}{live:List Nat}{σ σ':St}(h:CW wm nm nb live σ=some (σ',true)):canon nb live σ=some σ':=by
 unfold CW at h;split at h
 ·exact qU h
 ·simp only[qB,qI,Prod.mk.injEq]at h;obtain⟨q,hq,rfl,ho⟩:=h;obtain⟨o1,o2⟩:=aT ho;obtain⟨o2,o3⟩:=aT o2;rw[M1 o2,kJ o3];exact qU (wm:=wm) (σ':=q.1) (by rw[hq,←o1])
def lwm(kd:List (Nat×List Kd)):Bool:=(xL 1000000 kd).isNone
def lnm(kd:List (Nat×List Kd)):Bool:=(xL 1000000 kd).isSome||(xL 1000001 kd).isSome
def cwm(kd:List (Nat×List Kd)):Bool:=(xL 1000002 kd).isNone
def cnm(kd:List (Nat×List Kd)):Bool:=(xL 1000002 kd).isSome||(xL 1000003 kd).isSome
def M2(wm nm:Bool)(nb:Nat)(live:List Nat)(f:St→Option (Pt Out)):Nat→St→Option (Pt Out)
 |0,_=>none
 |n+1,σ=>(CW wm nm nb live σ).bind fun c=>(f c.1).bind fun t=>(t.bindO fun| .nor σ=>M2 wm nm nb live f n σ|o=>some (.leaf o)).bind fun t=>some (.ok c.2 t)
def lK:C→Bool
 | .ops l _=>l.all fun g=>hK g.2
 | .seq x y=>lK x&&lK y
 | .cond _ x y=>lK x&&lK y
 | .skip=>true
 |_=>false
def IC(r:O×Bool):Option (Pt Out):=match r.1.ex,r.1.nor with
 |[],some t=>some (.ok r.2 (trP t))
 |_,_=>none
noncomputable def mV(Q:Qt)(kd:List (Nat×List Kd))(cl:List Nat)(mg:Bool)(lq:Lp)(nb n:Nat):C→St→Option (Pt Out)
 | .drw ls kp cn,σ=>(v8 Q kd nb kp cn ls σ).bind fun r=>some (.ok r.2 (.leaf (.nor r.1)))
 | .ops l kp,σ=>
   match(lG (2*l.length+2) none l).2 with
   |[]=>(LZ Q kd (lG (2*l.length+2) none l).1 σ).bind fun r=>some (.ok r.2 (.leaf (.nor (trim kp r.1))))
   |_::_=>none
 | .seq x y,σ=>(mV Q kd cl mg lq nb n x σ).bind fun t=>t.bindO fun
   | .nor σ=>mV Q kd cl mg lq nb n y σ
   |o=>some (.leaf o)
 | .cond c x y,σ=>(σ.ev c).bind fun v=>(asBool v).bind fun b=>
   if a0T cl c=true then match b with
    |true=>mV Q kd cl mg lq nb n x σ
    |false=>mV Q kd cl mg lq nb n y σ
   else if(mg&&(lK x&&lK y))=true then(w6 Q kd cl lqN nb n (.cond c x y) σ).bind IC
   else(mV Q kd cl mg lq nb n x σ).bind fun tx=>(mV Q kd cl mg lq nb n y σ).bind fun ty=>some (.br b tx ty)
 | .blk id x,σ=>(mV Q kd cl mg lq nb n x σ).bind fun t=>some (t.map (lW id))
 | .loop live x,σ=>match hX lq (gK x) σ with
   |some t=>some t
   |none=>M2 (cwm kd) (cnm kd) nb live (mV Q kd cl mg lq nb n x) n σ
 | .brk id,σ=>some (.leaf (.brk id σ))
 | .ret,σ=>some (.leaf (.ret σ))
 | .skip,σ=>some (.leaf (.nor σ))
theorem zT{wm nm:Bool}{nb:Nat}{live:List Nat}{f:St→Option (Pt Out)}{g:St→Option Out}(hf:bN f g): ∀n,bN (M2 wm nm nb live f n) (mX nb live g n)
 |0=>fun σ σr t h ho hl=>by simp[M2]at h
 |n+1=>fun σ σr t h ho hl=>by
  simp only[M2,qB,qI]at h;obtain⟨c,hc,u,hu,w,hw,rfl⟩:=h;obtain⟨o1,o2⟩:=aT ho;have hcr:=o9 (xP (σ':=c.1) (by rw[hc,←o1])) hl
  obtain⟨k1,z,hz,k2,k3⟩:=Pt.bindO_val hw o2;obtain⟨out,a1,a2⟩:=hf c.1 c.1 u hu k1 .rfl;simp only[mX,hcr,Option.bind_some,a1];show∃out,_∧LeOut w.val out
  rw[k3];generalize u.val=o at hz a2;cases a2 with
  |nor h=>exact zT hf n _ _ z hz k2 h
  |brk h=>obtain rfl:=qi hz;exact⟨_,rfl, .brk h⟩
  |ret h=>obtain rfl:=qi hz;exact⟨_,rfl, .ret h⟩
theorem ID{r:O×Bool}{t:Pt Out}{out:Out}(h:IC r=some t)(ho:t.okv=true)(hd:r.2=true→ ∃out0,r.1.den=some out0∧LeOut out0 out):LeOut t.val out:=by
 unfold IC at h;split at h
 ·rename_i u he hn;obtain rfl:=qi h;obtain⟨o1,o2⟩:=aT ho;obtain⟨out0,h1,h2⟩:=hd o1;unfold O.den at h1;rw[he,hn]at h1;simp only[fO,qI]at h1;subst h1;show LeOut (trP u).val out
  rw[(IB u).1];exact h2
 ·simp at h
theorem bO{R:Rt}{Q:Qt}(hQ:O1 (cF R) Q){kd:List (Nat×List Kd)}{cl:List Nat}{mg:Bool}{lq:Lp}{nb n:Nat}: ∀{c:C},dN (fun live x=>bN (hX lq (gK x)) (dI R nb n (.loop live x))) c→bN (mV Q kd cl mg lq nb n c) (dI R nb n c)
 | .drw ls kp cn,hL=>fun σ σr t h ho hl=>by
   simp only[mV,qB,qI]at h;obtain⟨c,hc,rfl⟩:=h;obtain⟨o1,-⟩:=aT ho;have:=pA hQ hl (c:=c.1) (by rw[hc,←o1])
   exact⟨.nor c.1,by simp[dI,this], .nor .rfl⟩
 | .ops l kp,hL=>fun σ σr t h ho hl=>by
   unfold mV at h;split at h
   ·rename_i hp;simp only[qB,qI]at h;obtain⟨i,hi,rfl⟩:=h;obtain⟨o1,-⟩:=aT ho;obtain⟨τ,h1,h2⟩:=rB hQ (g:=none) (by rw[hi,←o1]) hl (fun s w e=>by simp at e) (fun s w e=>by simp at e)
    rw[mO hp]at h1;exact⟨.nor (trim kp τ),by simp[dI,h1], .nor (UH h2)⟩
   ·simp at h
 | .seq x y,hL=>fun σ σr t h ho hl=>by
   simp only[mV,qB]at h;obtain⟨u,hu,h⟩:=h;obtain⟨k1,z,hz,k2,k3⟩:=Pt.bindO_val h ho;obtain⟨out,a1,a2⟩:=bO hQ (c:=x) hL.1 σ σr u hu k1 hl;rw[k3,dI,a1,Option.bind_some];generalize u.val=o at hz a2;cases a2 with
   |nor h=>exact bO hQ (c:=y) hL.2 _ _ z hz k2 h
   |brk h=>obtain rfl:=qi hz;exact⟨_,rfl, .brk h⟩
   |ret h=>obtain rfl:=qi hz;exact⟨_,rfl, .ret h⟩
 | .cond c x y,hL=>fun σ σr t h ho hl=>by
   have h0:=h;simp only[mV,qB]at h;obtain⟨v,hv,b,hb,h⟩:=h;have hv':=hl.ev _ _ hv;split at h
   ·simp only[dI,hv',hb,Option.bind_some];split at h
    ·simp only[if_true];exact bO hQ (c:=x) hL.1 σ σr t h ho hl
    ·simp only[Bool.false_eq_true,if_false];exact bO hQ (c:=y) hL.2 σ σr t h ho hl
   ·split at h
    ·rename_i hm;simp only[Bool.and_eq_true]at hm;obtain⟨r,hr,hw⟩:=Option.bind_eq_some_iff.1 h;have noLoop: ∀{c:C},lK c=true→dN (fun live x=>CP (lqN live) (dI R nb n (.loop live x))) c:=fun{c} hc=>by
      induction c with
      |seq x y ihx ihy=>simp only[lK,Bool.and_eq_true]at hc;exact⟨ihx hc.1,ihy hc.2⟩
      |cond c x y ihx ihy=>simp only[lK,Bool.and_eq_true]at hc;exact⟨ihx hc.1,ihy hc.2⟩
      |ops=>trivial
      |skip=>trivial
      |drw=>simp[lK]at hc
      |blk=>simp[lK]at hc
      |loop=>simp[lK]at hc
      |brk=>simp[lK]at hc
      |ret=>simp[lK]at hc
     have hT:=f6 (R:=R) (n:=n) (nb:=nb) (kd:=kd) (cl:=cl) hQ (lq:=lqN) (c:= .cond c x y) ⟨noLoop hm.2.1,noLoop hm.2.2⟩;have hd:r.2=true→ ∃out0 out,r.1.den=some out0∧dI R nb n (.cond c x y) σr=some out∧LeOut out0 out:=fun hk=>hT σ σr r.1 (by rw[hr,←hk]) hl
     have hk:r.2=true:=by
      unfold IC at hw;split at hw
      ·obtain rfl:=qi hw;exact(aT ho).1
      ·simp at hw
     obtain⟨out0,out,a1,a2,a3⟩:=hd hk;exact⟨out,a2,ID hw ho fun _=>⟨out0,a1,a3⟩⟩
    ·simp only[qB,qI]at h;obtain⟨tx,hx,ty,hy,rfl⟩:=h;simp only[dI,hv',hb,Option.bind_some];cases b
     ·have:=bO hQ (c:=y) hL.2 σ σr ty hy ho hl;rw[if_neg (by simp)]
      exact this
     ·have:=bO hQ (c:=x) hL.1 σ σr tx hx ho hl;rw[if_pos rfl];exact this
 | .blk id x,hL=>fun σ σr t h ho hl=>by
   simp only[mV,qB,qI]at h;obtain⟨u,hu,rfl⟩:=h;rw[Pt.okv_map]at ho;obtain⟨out,a1,a2⟩:=bO hQ (c:=x) hL σ σr u hu ho hl;rw[Pt.val_map];generalize u.val=o at a2;refine⟨lW id out,?_,?_⟩
   ·rw[dI,a1,Option.bind_some];cases out with
    |nor σ=>rfl
    |ret σ=>rfl
    |brk j σ=>
     simp only[lW];split<;>rfl
   ·cases a2 with
    |nor h=>exact .nor h
    |ret h=>exact .ret h
    |brk h=>
     simp only[lW];split
     ·exact .nor h
     ·exact .brk h
 | .loop live x,hL=>fun σ σr t h ho hl=>by
   simp only[mV]at h;split at h
   ·rename_i r hr;rw[h]at hr;exact hL.1 σ σr t hr ho hl
   ·rw[dI];exact zT (bO hQ (c:=x) hL.2) n σ σr t h ho hl
 | .brk id,hL=>fun σ σr t h ho hl=>by
   simp only[mV,qI]at h;subst h;exact⟨.brk id σr,rfl, .brk hl⟩
 | .ret,hL=>fun σ σr t h ho hl=>by
   simp only[mV,qI]at h;subst h;exact⟨.ret σr,rfl, .ret hl⟩
 | .skip,hL=>fun σ σr t h ho hl=>by
   simp only[mV,qI]at h;subst h;exact⟨.nor σr,rfl, .nor hl⟩
def aCH(wm nm:Bool)(res:List Rv)(nb:Nat):Out→Option (Pt (SV×List Blk))
 | .nor σ=>(dQ σ res).bind fun vs=>(CV wm nm nb σ vs).bind fun r=>some (.ok r.2 (.leaf r.1))
 | .ret σ=>(dQ σ res).bind fun vs=>(CV wm nm nb σ vs).bind fun r=>some (.ok r.2 (.leaf r.1))
 | .brk _ _=>none
noncomputable def fnP(Q:Qt)(kd:List (Nat×List Kd))(cl:List Nat)(mg:Bool)(lq:Lp)(n:Nat)(cf:Zq.Fn)(args:List SV)(hp:List Blk):Option (Pt (SV×List Blk)):=
 if args.length=cf.np then(mV Q kd cl mg lq (cJ hp) n cf.body ⟨kZ 0 args,hp⟩).bind fun t=>t.bindO (aCH (lwm kd) (lnm kd) cf.res (cJ hp))else none
theorem UM{R:Rt}{Q:Qt}(hQ:O1 (cF R) Q){kd:List (Nat×List Kd)}{cl:List Nat}{mg:Bool}{lq:Lp}{n:Nat}{cf:Zq.Fn}{args:List SV}{hp:List Blk}{t:Pt (SV×List Blk)}(hL:dN (fun live x=>bN (hX lq (gK x)) (dI R (cJ hp) n (.loop live x))) cf.body)(h:fnP Q kd cl mg lq n cf args hp=some t)(ho:t.okv=true):cf.run R n args hp=some t.val:=by
 unfold fnP at h;split at h
 ·rename_i hn;simp only[qB]at h;obtain⟨u,hu,h⟩:=h;obtain⟨k1,w,hw,k2,k3⟩:=Pt.bindO_val h ho;obtain⟨out,a1,a2⟩:=bO hQ hL _ _ u hu k1 .rfl;unfold Fn.run;rw[if_pos hn,a1,k3];generalize u.val=o at hw a2;have fin: ∀{σ τ:St},Le σ τ→(dQ σ cf.res).bind (fun vs=>(CV (lwm kd) (lnm kd) (cJ hp) σ vs).bind fun r=>some (Pt.ok r.2 (.leaf r.1)))=some w→((dQ τ cf.res).bind fun vs=>leave (cJ hp) τ vs)=some w.val:=fun{σ τ} hl hw=>by
   simp only[qB,qI]at hw;obtain⟨vs,hv,r,hr,rfl⟩:=hw;obtain⟨o1,-⟩:=aT k2;refine aCF (res:=cf.res) hl (r:=r.1) ?_;simp only[UJ,hv,Option.bind_some];exact ZD (by rw[hr,←o1])
  cases a2 with
  |nor hl=>exact fin hl hw
  |ret hl=>exact fin hl hw
  |brk hl=>simp[aCH]at hw
 ·simp at h
def prn:Pt Out→Option (Pt Out)
 | .leaf (.nor _)=>none
 | .leaf o=>some (.leaf o)
 | .ok _ x=>prn x
 | .br b x y=>match prn x,prn y with
   |none,none=>none
   |some x,none=>some x
   |none,some y=>some y
   |some x,some y=>some (.br b x y)
def M3:Out→Bool
 | .nor _=>true
 |_=>false
theorem pC: ∀{t:Pt Out},prn t=none→M3 t.val=true
 | .leaf (.nor _),_=>rfl
 | .leaf (.brk _ _),h=>by simp[prn]at h
 | .leaf (.ret _),h=>by simp[prn]at h
 | .ok _ x,h=>pC (t:=x) h
 | .br b x y,h=>by
   simp only[prn]at h;split at h
   ·rename_i h1 h2;cases b
    ·exact pC (t:=y) h2
    ·exact pC (t:=x) h1
   ·simp at h
   ·simp at h
   ·simp at h
theorem mP: ∀{t u:Pt Out},prn t=some u→M3 t.val=false→u.val=t.val∧u.okv=true
 | .leaf (.nor _),u,h,hn=>by simp[prn]at h
 | .leaf (.brk _ _),u,h,hn=>by obtain rfl:=qi h;exact⟨rfl,rfl⟩
 | .leaf (.ret _),u,h,hn=>by obtain rfl:=qi h;exact⟨rfl,rfl⟩
 | .ok _ x,u,h,hn=>mP (t:=x) h hn
 | .br b x y,u,h,hn=>by
   simp only[prn]at h;cases b
   ·have hn':M3 y.val=false:=hn;split at h
    ·simp at h
    ·rename_i h1 h2;have:=pC (t:=y) h2;rw[hn']at this;simp at this
    ·rename_i h1 h2;obtain rfl:=qi h;exact mP (t:=y) h2 hn'
    ·rename_i x' y' h1 h2;obtain rfl:=qi h;exact mP (t:=y) (u:=y') h2 hn'
   ·have hn':M3 x.val=false:=hn;split at h
    ·simp at h
    ·rename_i h1 h2;obtain rfl:=qi h;exact mP (t:=x) h1 hn'
    ·rename_i h1 h2;have:=pC (t:=x) h1;rw[hn']at this;simp at this
    ·rename_i x' y' h1 h2;obtain rfl:=qi h;exact mP (t:=x) (u:=x') h1 hn'
def jS(wm nm:Bool)(nb:Nat)(live:List Nat)(t:Pt Out):Option (Pt (Option St)):=t.bindO fun
 | .nor σ=>(CW wm nm nb live σ).bind fun c=>some (.ok c.2 (.leaf (some c.1)))
 |_=>some (.leaf none)
def cB{V:Type}(N:V→Pt (Option V)):Nat→V→Option V
 |0,_=>none
 |k+1,v=>bif (N v).okv then(match(N v).val with|none=>some v|some v'=>cB N k v')else none
noncomputable def hid{α:Type}(a:α):α:=Classical.choose (⟨a,rfl⟩: ∃b,b=a)
theorem bT{α:Type}(a:α):hid a=a:=Classical.choose_spec (⟨a,rfl⟩: ∃b,b=a)
noncomputable def lL{V:Type}(wm nm:Bool)(nb:Nat)(live:List Nat)(f:St→Option (Pt Out))(un:St→Option (V×Bool))(st:V→St)(N:V→Pt (Option V))(n:Nat)(σ:St):Option (Pt Out):=
 (CW wm nm nb live σ).bind fun c=>(un c.1).bind fun v=>(f (st ((hid (cB N n v.1)).getD v.1))).bind fun t=>(prn t).bind fun t=>some (.ok c.2 (.ok v.2 (.ok (hid (cB N n v.1)).isSome t)))
theorem CX{V:Type}{wm nm:Bool}{nb:Nat}{live:List Nat}{f:St→Option (Pt Out)}{g:St→Option Out}(hf:bN f g){st:V→St}{N:V→Pt (Option V)}(hN: ∀v,((f (st v)).bind (jS wm nm nb live))=some ((N v).map (Option.map st))):
  ∀{k:Nat}{v w:V}{σ:St},canon nb live σ=some (st v)→cB N k v=some w→ ∃t out,f (st w)=some t∧M3 t.val=false∧mX nb live g k σ=some out∧LeOut t.val out
 |0,v,w,σ,hσ,h=>by simp[cB]at h
 |k+1,v,w,σ,hσ,h=>by
  have hb:=hN v;simp only[qB]at hb;obtain⟨t,ht,hs⟩:=hb;unfold cB at h;cases ho:(N v).okv
  ·rw[ho]at h;simp at h
  ·rw[ho,cond_true]at h;unfold jS at hs;obtain⟨k1,z,hz,k2,k3⟩:=Pt.bindO_val hs (by rw[Pt.okv_map];exact ho)
   obtain⟨out,a1,a2⟩:=hf (st v) (st v) t ht k1 .rfl;simp only[mX,hσ,Option.bind_some,a1];rw[Pt.val_map]at k3;cases hv:t.val with
   |nor τ=>
    rw[hv]at hz a2;simp only[qB,qI]at hz;obtain⟨c,hc,rfl⟩:=hz;obtain⟨o1,-⟩:=aT k2;cases a2 with
    |nor hl=>
     cases hn:(N v).val with
     |none=>rw[hn]at k3;simp[Pt.val]at k3
     |some v'=>
      rw[hn]at h k3;simp only[Pt.val,Option.map_some,qI]at k3;have hc':=o9 (xP (σ':=c.1) (by rw[hc,←o1])) hl
      rw[←k3]at hc';exact CX hf hN hc' h
   |brk j τ=>
    rw[hv]at hz a2;obtain rfl:=qi hz;cases a2 with
    |brk hl=>
     cases hn:(N v).val with
     |some v'=>rw[hn]at k3;simp[Pt.val]at k3
     |none=>
      rw[hn]at h;obtain rfl:=qi h;exact⟨t,_,ht,by rw[hv];rfl,rfl,by rw[hv];exact .brk hl⟩
   |ret τ=>
    rw[hv]at hz a2;obtain rfl:=qi hz;cases a2 with
    |ret hl=>
     cases hn:(N v).val with
     |some v'=>rw[hn]at k3;simp[Pt.val]at k3
     |none=>
      rw[hn]at h;obtain rfl:=qi h;exact⟨t,_,ht,by rw[hv];rfl,rfl,by rw[hv];exact .ret hl⟩
theorem cH{R:Rt}{V:Type}{wm nm:Bool}{nb n:Nat}{live:List Nat}{x:C}{f:St→Option (Pt Out)}(hf:bN f (dI R nb n x)){un:St→Option (V×Bool)}{st:V→St}{N:V→Pt (Option V)}
  (hu: ∀σ v,un σ=some (v,true)→σ=st v) (hN: ∀v,((f (st v)).bind (jS wm nm nb live))=some ((N v).map (Option.map st))):bN (lL wm nm nb live f un st N n) (dI R nb n (.loop live x)):=fun σ σr t h ho hl=>by
 simp only[lL,bT,qB,qI]at h;obtain⟨c,hc,v,hv,u,hu',w,hw,rfl⟩:=h;obtain⟨o1,o2⟩:=aT ho;obtain⟨o0,o2⟩:=aT o2;obtain⟨o2,o3⟩:=aT o2;obtain⟨z,hz⟩:=Option.isSome_iff_exists.1 o2;have hc':=o9 (xP (σ':=c.1) (by rw[hc,←o1])) hl
 have he:=hu c.1 v.1 (by rw[hv,←o0])
 rw[he]at hc';obtain⟨t',out,a1,a2,a3,a4⟩:=CX hf hN hc' hz;rw[hz,Option.getD_some,a1]at hu';obtain rfl:=qi hu';obtain⟨b1,-⟩:=mP hw a2;refine⟨out,by rw[dI];exact a3,?_⟩
 show LeOut w.val out
 rw[b1];exact a4
def hY:C→List (List Nat×C)
 | .seq x y=>hY x++hY y
 | .cond _ x y=>hY x++hY y
 | .blk _ x=>hY x
 | .loop live x=>(live,x)::hY x
 |_=>[]
def ZE(T:List Nat→C→Prop):List (List Nat×C)→Prop
 |[]=>True
 |p::r=>T p.1 p.2∧ZE T r
theorem gY{T:List Nat→C→Prop}: ∀{l m:List (List Nat×C)},ZE T (l++m)→ZE T l∧ZE T m
 |[],m,h=>⟨trivial,h⟩
 |p::r,m,h=>⟨⟨h.1,(gY (l:=r) h.2).1⟩,(gY (l:=r) h.2).2⟩
theorem iJ{T:List Nat→C→Prop}: ∀{c:C},ZE T (hY c)→dN T c
 | .seq x y,h=>⟨iJ (c:=x) (gY h).1,iJ (c:=y) (gY h).2⟩
 | .cond _ x y,h=>⟨iJ (c:=x) (gY h).1,iJ (c:=y) (gY h).2⟩
 | .blk _ x,h=>iJ (c:=x) h
 | .loop live x,h=>⟨h.1,iJ (c:=x) h.2⟩
 | .ops _ _,_=>trivial
 | .drw ..,_=>trivial
 | .brk _,_=>trivial
 | .ret,_=>trivial
 | .skip,_=>trivial
theorem bH{T:List Nat→C→Prop}{c:C}{l:List (List Nat×C)}(h:hY c=l)(k:ZE T l):dN T c:=iJ (by rw[h];exact k)
end Go.Zq

namespace Go.Zq
open Go
def byteRow:Row→Bool
 |[.lit (.int .u8 z)]=>decide (0≤z)&&decide (z<256)
 |_=>false
def bytesOk(rows:List Row):Bool:=rows.all byteRow
def ri(zs:List Int):List Row:=zs.map fun z=>[.lit (.int .i64 z)]
theorem bE{zs:List Int}:(ri zs).length=zs.length:=by simp[ri]
theorem O9{r:Row}(h:byteRow r=true): ∃z:Int,r=[.lit (.int .u8 z)]∧0≤z∧z<256:=by
 unfold byteRow at h;split at h
 ·rename_i z;simp only[Bool.and_eq_true,decide_eq_true_eq]at h;exact⟨z,rfl,h⟩
 ·simp at h
theorem aCJ{rows:List Row}(h:bytesOk rows=true){j:Nat}(hj:j<rows.length): ∃z:Int,rows.getD j []=[.lit (.int .u8 z)]∧aU rows j 0=z∧0≤z∧z<256:=by
 have hr:rows.getD j []=rows[j]:=by simp[List.getD_eq_getElem?_getD,hj]
 obtain⟨z,hz,h0,h1⟩:=O9 (List.all_eq_true.1 h rows[j] (List.getElem_mem hj));refine⟨z,by rw[hr,hz],?_,h0,h1⟩
 simp only[aU,kF,hr,hz];rfl
theorem PA{rows:List Row}(h:bytesOk rows=true){p:Int}(h0:0≤p)(h1:p<(rows.length:Int)):dJ [.int .u8] rows p=true:=by
 have hj:p.toNat<rows.length:=by omega
 obtain⟨z,hz,-⟩:=aCJ h hj;have hb:Nat.blt p.toNat rows.length=true:=by simpa using hj
 simp only[dJ,dC,hz,h0,hb,decide_true,Bool.true_and];rfl
def aCK(s:Int):Int:=IntKind.wrap IntKind.i64 (IntKind.wrap IntKind.u64 ↑(BitVec.toNat (BitVec.ofInt (64:Nat) (Int.fdiv s (1099511627776:Int))&&&BitVec.ofInt (64:Nat) (255:Int))))
theorem aKG(s:Int):0≤aCK s∧aCK s<256:=by
 unfold aCK;have h:(BitVec.ofInt 64 (s.fdiv 1099511627776)&&&BitVec.ofInt 64 255).toNat≤255:=by
  rw[BitVec.toNat_and];exact Nat.le_trans Nat.and_le_right (by decide)
 generalize (BitVec.ofInt 64 (s.fdiv 1099511627776)&&&BitVec.ofInt 64 255).toNat=n at h;have h1:IntKind.u64.wrap (n:Int)=n:=by
  have:IntKind.u64.wrap (n:Int)=(n:Int)%18446744073709551616:=by simp[IntKind.wrap,IntKind.bits,IntKind.signed]
  omega
 rw[h1,IntKind.wrap_i64];omega
end Go.Zq

namespace Go.Zq
open Go
theorem ZF{xs ys:List Int}:ri (xs++ys)=ri xs++ri ys:=by simp[ri]
theorem IE{xs:List Int}{j:Nat}{d:Int}(h:xs[j]? =some d):(ri xs).getD j []=[.lit (.int .i64 d)]:=by
 simp[ri,List.getD_eq_getElem?_getD,h]
theorem a0V{xs:List Int}{j:Nat}{d:Int}(h:xs[j]? =some d):aU (ri xs) j 0=d:=by
 simp only[aU,kF,IE h];rfl
theorem aCL{xs:List Int}{j:Nat}{d:Int}(h:xs[j]? =some d):dC [.int .i64] (ri xs) j 0=true:=by
 have hj:j<xs.length:=(List.getElem?_eq_some_iff.1 h).1;simp only[dC,IE h,bE];have:Nat.blt j xs.length=true:=by simpa using hj
 rw[this];rfl
theorem aPN{xs:List Int}{j:Nat}{d:Int}(h:xs[j]? =some d):dJ [.int .i64] (ri xs) (j:Int)=true:=by
 have h1:=aCL h;simp only[dJ,Int.toNat_natCast,h1,IE h];simp
theorem IF(z:Int)(k:Nat)(hk:k<63):IntKind.wrap IntKind.i64 (↑(BitVec.toNat (BitVec.ofInt (64:Nat) z&&&BitVec.ofInt (64:Nat) ((2:Int)^k-1))):Int)=z%2^k:=by
 have hpos:(1:Nat)≤2^k:=Nat.one_le_two_pow;have hle:(2:Nat)^k≤2^62:=Nat.pow_le_pow_right (by decide) (by omega)
 have e:(((2:Int)^k-1)%((2^64:Nat):Int)).toNat=2^k-1:=by
  have:((2:Int)^k)=((2^k:Nat):Int):=by simp
  rw[this];omega
 rw[BitVec.toNat_and,BitVec.toNat_ofInt,BitVec.toNat_ofInt,e,Nat.and_two_pow_sub_one_eq_mod,IntKind.wrap_i64];have h2:((2:Int)^k)=((2^k:Nat):Int):=by simp
 rw[h2];have h3:(((z%((2^64:Nat):Int)).toNat%2^k:Nat):Int)=z%((2^k:Nat):Int):=by
  rw[Int.natCast_emod,Int.toNat_of_nonneg (by omega)]
  refine Int.emod_emod_of_dvd _ ?_;exact Int.natCast_dvd_natCast.2 (Nat.pow_dvd_pow 2 (by omega))
 rw[h3];have h4:0≤z%((2^k:Nat):Int)∧z%((2^k:Nat):Int)<((2^k:Nat):Int):=⟨Int.emod_nonneg _ (by omega),Int.emod_lt_of_pos _ (by omega)⟩
 omega
end Go.Zq

namespace Go.Zq
open Go
def dW(c:C)(i:Nat):C:=((hY c)[i]?.map (·.2)).getD .skip
def aR(x y:Int):Int:=IntKind.wrap .i64 (x+y)
def eQ(x y:Int):Int:=IntKind.wrap .i64 (x-y)
def dD(x y:Int):Int:=IntKind.wrap .i64 (x*y)
def a7M(x y:Int):Int:=x*y
def M4(x y:Int):Int:=x.tmod y
def cM(x y:Int):Int:=IntKind.wrap .i64 (BitVec.ofInt 64 x&&&BitVec.ofInt 64 y).toNat
def rM(x y:Int):Int:=IntKind.wrap .i64 (BitVec.ofInt 64 x|||BitVec.ofInt 64 y).toNat
def AO(x y:Int):Int:=IntKind.wrap .i64 (BitVec.ofInt 64 x&&& ~~~BitVec.ofInt 64 y).toNat
def nH(x y:Int):Int:=IntKind.wrap .i64 (x*2^min y.toNat 64)
def xQ(x y:Int):Int:=x.fdiv (2^min y.toNat 64)
def a0W(k:IntKind)(x y:Int):Int:=k.wrap (x+y)
def a7N(k:IntKind)(x y:Int):Int:=k.wrap (x*y)
def aKH(k:IntKind)(x y:Int):Int:=k.wrap (BitVec.ofInt k.bits x&&&BitVec.ofInt k.bits y).toNat
def aCM(k:IntKind)(x y:Int):Int:=x.fdiv (2^min y.toNat k.bits)
def lM(k:IntKind)(x:Int):Int:=k.wrap x
def eqI(x y:Int):Bool:=x==y
def eV(x y:Int):Bool:=x !=y
def ltI(x y:Int):Bool:=decide (x<y)
def leI(x y:Int):Bool:=decide (x≤y)
def kK(x y:Int):Bool:=decide (x>y)
def rE(x y:Int):Bool:=decide (x≥y)
def uZ(x y:Bool):Bool:=x==y
def dR(x y:Nat):Bool:=decide (x=y)
noncomputable def s1{α:Type}(x:α):Bool:=same x x
noncomputable def r1(x:List Row):Bool:=MW x x
def e1(x:Nat):Bool:=dR x x
@[simp] theorem jT{α:Type}(x:α):s1 x=true:=gX x
@[simp] theorem jU(x:List Row):r1 x=true:=gX x
@[simp] theorem cC(x:Nat):e1 x=true:=decide_eq_true rfl
def iE(x y:Nat):Bool:=decide (x≤y)
def blt(x y:Nat):Bool:=Nat.blt x y
def gD(x y:Nat):Bool:=x==y
def kL(x y:Nat):Nat:=x*y
def a7O(x y:Nat):Nat:=min x y
def gE(r:List Row)(j:Nat):Nat:=(r.getD j []).length
def a7P(n:Nat):Int:=n
def aX(r:List Row):Int:=r.length
def aH(x:Int):Row:=[.lit (.int .i64 x)]
theorem a0X{R:Rt}{Q:Qt}(hQ:O1 (cF R) Q){kd:List (Nat×List Kd)}{cl:List Nat}{mg:Bool}{lq:Lp}{n:Nat}{cf:Zq.Fn}{args:List SV}{hp:List Blk}{γ:Type}{T:Pt γ}{nn:γ→SV×List Blk}
  (hL:dN (fun live x=>bN (hX lq (gK x)) (dI R (cJ hp) n (.loop live x))) cf.body) (e:fnP Q kd cl mg lq n cf args hp=some (T.map nn)) {r:SV×List Blk} (hr:nn (hid T.val)=r) (hk:hid T.okv=true):cf.run R n args hp=some r:=by
 rw[bT]at hr hk;have:=UM hQ hL e (by rw[Pt.okv_map];exact hk)
 rw[this,Pt.val_map,hr]
noncomputable def fnZ(Q:Qt)(kd:List (Nat×List Kd))(cl:List Nat)(mg:Bool)(lq:Lp)(n:Nat)(cf:Zq.Fn)(args:List SV):Option (Pt (SV×List Blk)):=
 (fnP Q kd cl mg lq n cf args []).bind fun t=>t.bindO fun r=>(O3 r.2 r.1).bind fun v=>some (.ok v.2 (.leaf (v.1,[])))
theorem a0Y{R:Rt}{Q:Qt}(hQ:O1 (cF R) Q){kd:List (Nat×List Kd)}{cl:List Nat}{mg:Bool}{lq:Lp}{n:Nat}{cf:Zq.Fn}{args:List SV}{γ:Type}{T:Pt γ}{nn:γ→SV×List Blk}{f:FuncId}
  (hL:dN (fun live x=>bN (hX lq (gK x)) (dI R (cJ []) n (.loop live x))) cf.body) (e:fnZ Q kd cl mg lq n cf args=some (T.map nn)) {r:SV×List Blk} (hr:nn (hid T.val)=r) (hk:hid T.okv=true) (hR: ∀r,cf.run R n args []=some r→R f args []=some r):cF R (f+100000) args []=some r:=by
 rw[bT]at hr hk;unfold fnZ at e;simp only[Option.bind_eq_some_iff]at e;obtain⟨t,ht,e⟩:=e;obtain⟨k1,w,hw,k2,k3⟩:=Pt.bindO_val e (by rw[Pt.okv_map];exact hk)
 have hrun:=hR _ (UM hQ hL ht k1);simp only[Option.bind_eq_some_iff,Option.some.injEq]at hw;obtain⟨v,hv,rfl⟩:=hw;obtain⟨o1,-⟩:=aT k2;rw[Pt.val_map,hr]at k3;rw[aB2,hrun];simp only[Option.bind_some,Y6 (r:=v.1) (by rw[hv,←o1])]
 rw[k3];rfl
end Go.Zq

namespace Go.Zq
open Go
def Pt.Sat{α:Type}(P:α→Prop):Pt α→Prop
 | .leaf a=>P a
 | .br b x y=>(b=true→x.Sat P)∧(b=false→y.Sat P)
 | .ok b x=>b=true∧x.Sat P
theorem Pt.sat_ok{α:Type}{P:α→Prop}: ∀{t:Pt α},t.Sat P→t.okv=true∧P t.val
 | .leaf a,h=>⟨rfl,h⟩
 | .br b x y,h=>by
   cases b
   ·exact Pt.sat_ok (t:=y) (h.2 rfl)
   ·exact Pt.sat_ok (t:=x) (h.1 rfl)
 | .ok b x,h=>by
   obtain⟨h1,h2⟩:=Pt.sat_ok (t:=x) h.2;exact⟨by simp only[Pt.okv,h.1,h1];rfl,h2⟩
theorem aL{α:Type}{P:α→Prop}{t:Pt α}(h:t.Sat P):hid t.okv=true∧P (hid t.val):=by
 rw[bT,bT];exact Pt.sat_ok h
@[simp] theorem aC{α:Type}{P:α→Prop}{a:α}:(Pt.leaf a).Sat P=P a:=rfl
@[simp] theorem aQ{α:Type}{P:α→Prop}{b:Bool}{x y:Pt α}:(Pt.br b x y).Sat P=((b=true→x.Sat P)∧(b=false→y.Sat P)):=rfl
@[simp] theorem aF{α:Type}{P:α→Prop}{b:Bool}{x:Pt α}:(Pt.ok b x).Sat P=(b=true∧x.Sat P):=rfl
@[simp] theorem gL{α:Type}{a:α}:(Pt.leaf a).okv=true:=rfl
@[simp] theorem uS{α:Type}{b:Bool}{x y:Pt α}:(Pt.br b x y).okv=bif b then x.okv else y.okv:=rfl
@[simp] theorem mB{α:Type}{b:Bool}{x:Pt α}:(Pt.ok b x).okv=(b&&x.okv):=rfl
@[simp] theorem eN{α:Type}{a:α}:(Pt.leaf a).val=a:=rfl
@[simp] theorem uT{α:Type}{b:Bool}{x y:Pt α}:(Pt.br b x y).val=bif b then x.val else y.val:=rfl
@[simp] theorem iB{α:Type}{b:Bool}{x:Pt α}:(Pt.ok b x).val=x.val:=rfl
@[simp] theorem a4Y{a b:Nat}:dR a b=true↔a=b:=by simp[dR]
@[simp] theorem aN{a:Nat}:dR a a=true:=by simp[dR]
@[simp] theorem LO{a b:Nat}:iE a b=true↔a≤b:=by simp[iE]
@[simp] theorem a3H{a b:Nat}:gD a b=true↔a=b:=by simp[gD]
@[simp] theorem a4Z{a b:Nat}:blt a b=true↔a<b:=by simp[blt]
@[simp] theorem dX{α:Type}(a:α):same a a=true:=gX a
@[simp] theorem cQ(a:List Row):MW a a=true:=O7 a
@[simp] theorem f8{a b:Int}:eqI a b=true↔a=b:=by simp[eqI]
@[simp] theorem oL{a b:Int}:eqI a b=false↔a≠b:=by simp[eqI]
@[simp] theorem AZ{a b:Int}:eV a b=true↔a≠b:=by simp[eV]
@[simp] theorem aH5{a b:Int}:eV a b=false↔a=b:=by simp[eV]
@[simp] theorem cK{a b:Int}:ltI a b=true↔a<b:=by simp[ltI]
@[simp] theorem jN{a b:Int}:ltI a b=false↔b≤a:=by simp[ltI]
@[simp] theorem lO{a b:Int}:leI a b=true↔a≤b:=by simp[leI]
@[simp] theorem aH6{a b:Int}:leI a b=false↔b<a:=by simp[leI]
@[simp] theorem rH{a b:Int}:kK a b=true↔b<a:=by simp[kK]
@[simp] theorem N1{a b:Int}:kK a b=false↔a≤b:=by simp[kK]
@[simp] theorem aOE{a b:Int}:rE a b=true↔b≤a:=by simp[rE]
@[simp] theorem a3I{a b:Int}:rE a b=false↔a<b:=by simp[rE]
@[simp] theorem a40{a b:Bool}:uZ a b=true↔a=b:=by simp[uZ]
@[simp] theorem bG{r:List Row}:aX r=(r.length:Int):=rfl
@[simp] theorem a41{n:Nat}:a7P n=(n:Int):=rfl
@[simp] theorem LP{a b:Nat}:kL a b=a*b:=rfl
@[simp] theorem a42{a b:Nat}:a7O a b=min a b:=rfl
@[simp] theorem a43{a b:Int}:a7M a b=a*b:=rfl
theorem bK{x y:Int}(h: -9223372036854775808≤x+y∧x+y<9223372036854775808):aR x y=x+y:=by
 unfold aR;rw[IntKind.wrap_i64];omega
theorem rI{x y:Int}(h: -9223372036854775808≤x-y∧x-y<9223372036854775808):eQ x y=x-y:=by
 unfold eQ;rw[IntKind.wrap_i64];omega
theorem iC{x y:Int}(h: -9223372036854775808≤x*y∧x*y<9223372036854775808):dD x y=x*y:=by
 unfold dD;rw[IntKind.wrap_i64];omega
theorem aOF{x:Int}(h: -9223372036854775808≤x∧x<9223372036854775808):lM .i64 x=x:=by
 unfold lM;rw[IntKind.wrap_i64];omega
theorem X0{x n:Int}(h0:0≤x)(h1:0<n):0≤M4 x n∧M4 x n<n:=by
 unfold M4;rw[Int.tmod_eq_emod_of_nonneg h0];exact⟨Int.emod_nonneg _ (by omega),Int.emod_lt_of_pos _ h1⟩
def Num(r:List Row):Prop:= ∃zs:List Int,r=ri zs
theorem oB{z:Int}{zs:List Int}:ri (z::zs)=aH z::ri zs:=rfl
theorem uU:ri []=[]:=rfl
theorem aUY{r:List Row}(h:Num r){j:Int}(h0:0≤j)(h1:j<(r.length:Int)):dJ [.int .i64] r j=true:=by
 obtain⟨a,rfl⟩:=h;rw[bE]at h1;have hj:j.toNat<a.length:=by omega
 have:=aPN (xs:=a) (j:=j.toNat) (d:=a[j.toNat]) (List.getElem?_eq_getElem hj)
 rwa [Int.toNat_of_nonneg h0]at this
theorem wU{r:List Row}(h:Num r){j:Nat}(h1:j<r.length):dC [.int .i64] r j 0=true:=by
 obtain⟨a,rfl⟩:=h;rw[bE]at h1;exact aCL (d:=a[j]) (List.getElem?_eq_getElem h1)
structure CurOk(B:Int)(code:List Row)(p:Int):Prop where
 code:bytesOk code=true
 lo:0≤p
 hi:p≤B
theorem CurOk.mono{B C:Int}{code:List Row}{p:Int}(h:CurOk B code p)(hB:B≤C):CurOk C code p:=⟨h.1,h.2,by have:=h.3;omega⟩
theorem cU{V:Type}{N:V→Pt (Option V)}(Inv:Nat→V→Prop)(Post:V→Prop)(h: ∀n v,Inv n v→(N v).Sat fun r=>match r with|none=>Post v|some v'=> ∃m,m<n∧Inv m v'):
  ∀(k n:Nat)(v:V),Inv n v→n<k→ ∃w,cB N k v=some w∧Post w
 |0,n,v,hi,hk=>by omega
 |k+1,n,v,hi,hk=>by
  obtain⟨h1,h2⟩:=Pt.sat_ok (h n v hi);unfold cB;rw[h1,cond_true];cases hv:(N v).val with
  |none=>rw[hv]at h2;exact⟨v,rfl,h2⟩
  |some v'=>
   rw[hv]at h2;obtain⟨m,hm,hi'⟩:=h2;exact cU Inv Post h k m v' hi' (by omega)
theorem fA{V:Type}{N:V→Pt (Option V)}{Post:V→Prop}{k:Nat}{v:V}(h: ∃w,cB N k v=some w∧Post w):(hid (cB N k v)).isSome=true∧Post ((hid (cB N k v)).getD v):=by
 obtain⟨w,hw,hp⟩:=h;rw[bT,hw];exact⟨rfl,hp⟩
def cO(x a b:Int):Bool:=decide (a≤x)&&decide (x≤b)
@[simp] theorem bA{x a b:Int}:cO x a b=true↔a≤x∧x≤b:=by simp[cO]
def bM(zs:List Int):Bool:=zs.all fun z=>cO z 0 255
theorem eO{zs:List Int}{i:Nat}(h:i<zs.length):aU (ri zs) i 0=zs[i]:=a0V (List.getElem?_eq_getElem h)
theorem TG{v:Int}(h:0≤v)(h1:v<9223372036854775808):cM v 255=v%256:=by
 have:=IF v 8 (by omega)
 exact this
theorem oC{v:Int}(k:Nat)(m:Int)(hk:k<63)(hm:m=2^k-1):cM v m=v%2^k:=by
 subst hm;exact IF v k hk
theorem A0{v n:Int}(k:Nat)(hn:n=(k:Int))(hk:k≤64):xQ v n=v/2^k:=by
 subst hn;unfold xQ;rw[Int.toNat_natCast,Nat.min_eq_left hk,Int.fdiv_eq_ediv_of_nonneg _ (Int.le_of_lt (Int.pow_pos (by omega)))]
theorem aH7{v:Int}(h:0≤v)(h1:v<65536):nH v 8=v*256:=by
 unfold nH;rw[show((2:Int)^min (Int.toNat 8) 64)=256 from by decide,IntKind.wrap_i64]
 omega
theorem FA{q r:Int}(hq:0≤q)(hq1:q<65536)(hr:0≤r)(hr1:r<256):rM (q*256) r=q*256+r:=by
 obtain⟨a,rfl⟩:=Int.eq_ofNat_of_zero_le hq;obtain⟨b,rfl⟩:=Int.eq_ofNat_of_zero_le hr;unfold rM;rw[BitVec.toNat_or,BitVec.toNat_ofInt,BitVec.toNat_ofInt];have e1:(((a:Int)*256)%((2^64:Nat):Int)).toNat=2^8*a:=by omega
 have e2:((b:Int)%((2^64:Nat):Int)).toNat=b:=by omega
 rw[e1,e2,←Nat.two_pow_add_eq_or_of_lt (by omega),IntKind.wrap_i64]
 omega
theorem bC0{v:Int}(h:0≤v):M4 v 2=v%2:=by
 unfold M4;exact Int.tmod_eq_emod_of_nonneg h
theorem bC1{v:Int}:cM v 1=v%2:=by
 have:=IF v 1 (by omega)
 simpa [cM]using this
theorem fV{zs:List Int}{i:Nat}{z:Int}:(ri zs).set i (aH z)=ri (zs.set i z):=by
 simp only[ri,List.map_set];rfl
theorem lP{zs:List Int}{i:Nat}(h:i<zs.length):gE (ri zs) i=1:=by
 unfold gE;rw[IE (List.getElem?_eq_getElem h)];rfl
theorem gG{zs:List Int}{i:Nat}(h:i<zs.length):dJ [.int .i64] (ri zs) (i:Int)=true:=aPN (d:=zs[i]) (List.getElem?_eq_getElem h)
end Go.Zq
