import Derived.Test.YtdicpjkdpliofaaGreatZma
import Derived.LoopN
import Derived.Orders
import Derived.Below
set_option linter.unusedVariables false
set_option linter.unusedSimpArgs false
namespace Go.Zq
open Option renaming bind_eq_some_iff → qB
open Option.some renaming injEq → qI
open Prod.mk renaming injEq → qP
open List renaming getElem?_cons_succ → qS
open Go
section
variable{P:Program}{ρ:Rho}{S Se:Rds}{w:World}{hp hp':List Blk}{src:List Src}
def rho(ρ:Rho)(src:List Src):Rho:=fun j=>
 match src[j]? with
 |some (.box id off n)=>(ρ id).map fun L=>⟨L.blk,L.base+off,n,false⟩
 |some (.lst id off _)=>(ρ id).map fun L=>⟨L.blk,L.base+off*L.sz,L.sz,true⟩
 |_=>none
theorem xP: ∀{l:List Src}{k j off i d:Nat},OA l k j off=some (i,d)→ ∃o n,k≤i∧l[i-k]? =some (.box j o n)∧o≤off∧off<o+n∧d=off-o
 |[],_,_,_,_,_,h=>by simp[OA]at h
 | .box id o n::r,k,j,off,i,d,h=>by
   simp only[OA]at h;split at h
   ·rename_i hc;simp only[qI,qP]at h;obtain⟨rfl,rfl⟩:=h;exact⟨o,n,Nat.le_refl _,by simp[hc.1],hc.2.1,hc.2.2,rfl⟩
   ·obtain⟨o',n',h1,h2,h3⟩:=xP h;exact⟨o',n',by omega,by rw[show i-k=(i-(k+1))+1 by omega,qS];exact h2,h3⟩
 | .lst .. ::r,k,j,off,i,d,h=>by
   simp only[OA]at h;obtain⟨o',n',h1,h2,h3⟩:=xP h;exact⟨o',n',by omega,by rw[show i-k=(i-(k+1))+1 by omega,qS];exact h2,h3⟩
 | .nil _::r,k,j,off,i,d,h=>by
   simp only[OA]at h;obtain⟨o',n',h1,h2,h3⟩:=xP h;exact⟨o',n',by omega,by rw[show i-k=(i-(k+1))+1 by omega,qS];exact h2,h3⟩
theorem xQ: ∀{l:List Src}{k id off len i:Nat},CL l k id off len=some i→k≤i∧l[i-k]? =some (.lst id off len)
 |[],_,_,_,_,_,h=>by simp[CL]at h
 | .lst id' o n::r,k,id,off,len,i,h=>by
   simp only[CL]at h;split at h
   ·rename_i hc;obtain rfl:=Option.some.inj h;obtain⟨rfl,rfl,rfl⟩:=hc;exact⟨Nat.le_refl _,by simp⟩
   ·obtain⟨h1,h2⟩:=xQ h;exact⟨by omega,by rw[show i-k=(i-(k+1))+1 by omega,qS];exact h2⟩
 | .box .. ::r,k,id,off,len,i,h=>by
   simp only[CL]at h;obtain⟨h1,h2⟩:=xQ h;exact⟨by omega,by rw[show i-k=(i-(k+1))+1 by omega,qS];exact h2⟩
 | .nil _::r,k,id,off,len,i,h=>by
   simp only[CL]at h;obtain⟨h1,h2⟩:=xQ h;exact⟨by omega,by rw[show i-k=(i-(k+1))+1 by omega,qS];exact h2⟩
theorem QK{t t':T}(hr:ZE src t=some t'): ∃id off k o n,t= .ptr id 0 off∧t'= .ptr k 0 (off-o)∧src[k]? =some (.box id o n)∧o≤off:=by
 unfold ZE at hr;split at hr
 ·obtain⟨rfl,hr1⟩:=bQ hr;simp only[qB,qI]at hr1;obtain⟨⟨k,d⟩,hf,rfl⟩:=hr1;obtain⟨o,n,-,h2,h3,-,rfl⟩:=xP hf;exact⟨_,_,k,o,n,rfl,rfl,by simpa using h2,h3⟩
 ·simp at hr
theorem OF: ∀{l l':List T},JL src l=some l'→l'.length=l.length∧ ∀(k:Nat)(t':T),l'[k]? =some t'→ ∃t,l[k]? =some t∧ZE src t=some t'
 |[],l',h=>by
  simp only[JL,qI]at h;subst h;exact⟨rfl,fun k t h=>by simp at h⟩
 |t::r,l',h=>by
  simp only[JL,qB,qI]at h;obtain⟨t1,h1,r1,h2,rfl⟩:=h;obtain⟨h3,h4⟩:=OF h2;refine⟨by simp[h3],fun k t' ht'=>?_⟩
  cases k with
  |zero=>
   simp only[List.getElem?_cons_zero,qI]at ht';subst ht';exact⟨t,rfl,h1⟩
  |succ k=>exact h4 k t' (by simpa using ht')
theorem aQC{t t':T}{v:Value}(h:RT ρ w S t v)(hr:ZE src t=some t'):RT (rho ρ src) w Se t' v:=by
 obtain⟨id,off,k,o,n,rfl,rfl,hs,hle⟩:=QK hr;cases h with
 |ri h=>cases h
 |ptr hL=>
  rename_i L;have:=RT.ptr (w:=w) (S:=Se) (ρ:=rho ρ src) (id:=k) (row:=0) (off:=off-o) (L:=⟨L.blk,L.base+o,n,false⟩) (by simp[rho,hs,hL])
  simpa [show L.base+o+(off-o)=L.base+off by omega]using this
theorem XK{f:FuncId}{caps caps':List T}{v:Value}(h:RT ρ w S (.clo f caps) v)(hr:JL src caps=some caps'):RT (rho ρ src) w Se (.clo f caps') v:=by
 cases h with
 |ri h=>cases h
 |clo hn h=>
  rename_i vs;obtain⟨h1,h2⟩:=OF hr;refine .clo (by omega) fun k t' ht'=>?_
  obtain⟨t,ht,hrt⟩:=h2 k t' ht';obtain⟨id,off,i,o,n,rfl,rfl,hs,hle⟩:=QK hrt;obtain⟨id',row',off',L,e,hL,hv⟩:=h k _ ht;simp only[T.ptr.injEq]at e;obtain⟨rfl,rfl,rfl⟩:=e;refine⟨i,0,off-o,⟨L.blk,L.base+o,n,false⟩,rfl,by simp[rho,hs,hL],?_⟩
  rw[hv];simp[show L.base+o+(off-o)=L.base+off by omega]
theorem aI1(hS: ∀p b,S p b→Se p b){t t':T}{m m':Nat}{v:Value}(h:RT ρ w S t v)(hr:ren src m t=some (t',m')):RT (rho ρ src) w Se t' v:=by
 cases t with
 |lit x=>
  simp only[ren,qI,qP]at hr;obtain⟨rfl,-⟩:=hr;cases h with
  |ri h=>exact .ri (h.mono hS (fun _ _ _=>rfl))
 |imm p n rows=>
  simp only[ren,qI,qP]at hr;obtain⟨rfl,-⟩:=hr;cases h with
  |ri h=>exact .ri (h.mono hS (fun _ _ _=>rfl))
 |nls n=>
  simp only[ren,qB,qI,qP]at hr;obtain⟨k,-,rfl,-⟩:=hr;cases h with
  |ri h=>cases h;exact .nil
 |sl id off len=>
  simp only[ren,qB,qI,qP]at hr;obtain⟨k,hk,rfl,-⟩:=hr;obtain⟨-,hk⟩:=xQ hk;simp only[Nat.sub_zero]at hk;cases h with
  |ri h=>cases h
  |nil=>exact .nil
  |sl hL hc hs ha=>
   rename_i L e n;refine .sl (L:=⟨L.blk,L.base+off*L.sz,L.sz,true⟩) (by simp[rho,hk,hL]) hc hs ?_
   rcases ha with ha|⟨rfl,ha⟩
   ·exact .inl ha
   ·refine .inr ⟨by simp,?_⟩
    simp only[Nat.zero_add];rw[Nat.add_mul]at ha;omega
 |clo f caps=>
  simp only[ren,qB,qI,qP]at hr;obtain⟨caps',hc,rfl,-⟩:=hr;exact XK h hc
 |ptr id row off=>
  simp only[ren,qB,qI,qP]at hr;obtain⟨t1,ht,rfl,-⟩:=hr;exact aQC h ht
 |ip cells=>simp[ren]at hr
theorem AM: ∀{l l':Row}{m m':Nat},rW src m l=some (l',m')→l'.length=l.length∧ ∀(k:Nat)(t':T),l'[k]? =some t'→ ∃t m1 m2,l[k]? =some t∧ren src m1 t=some (t',m2)
 |[],l',m,m',h=>by
  simp only[rW,qI,qP]at h;obtain⟨rfl,-⟩:=h;exact⟨rfl,fun k t h=>by simp at h⟩
 |t::r,l',m,m',h=>by
  simp only[rW,qB,qI,qP]at h;obtain⟨⟨t1,m1⟩,h1,⟨r1,m2⟩,h2,rfl,-⟩:=h;obtain⟨h3,h4⟩:=AM h2;refine⟨by simp[h3],fun k t' ht'=>?_⟩
  cases k with
  |zero=>
   simp only[List.getElem?_cons_zero,qI]at ht';subst ht';exact⟨t,m,m1,rfl,h1⟩
  |succ k=>exact h4 k t' (by simpa using ht')
def aI2(hp:List Blk)(src:List Src)(s:Src)(b:Blk):Prop:=
 match s with
 | .box _ _ _=> ∃m1 m2 row,rW src m1 (tE hp s)=some (row,m2)∧b= .box row
 | .lst id off len=> ∃n rows,nJ hp (.sl id off len)=some n∧dI hp (.sl id off len)=some rows∧b= .lst n rows
 | .nil n=>b= .lst n []
theorem mD: ∀{l:List Src}{m m':Nat}{bs:List Blk},dX hp src m l=some (bs,m')→bs.length=l.length∧ ∀(k:Nat)(s:Src),l[k]? =some s→ ∃b,bs[k]? =some b∧aI2 hp src s b
 |[],m,m',bs,h=>by
  simp only[dX,qI,qP]at h;obtain⟨rfl,-⟩:=h;exact⟨rfl,fun k t h=>by simp at h⟩
 |s::r,m,m',bs,h=>by
  have cons: ∀(b:Blk)(m1 m2:Nat)(r':List Blk),aI2 hp src s b→dX hp src m1 r=some (r',m2)→bs=b::r'→bs.length=(s::r).length∧ ∀(k:Nat)(s':Src),(s::r)[k]? =some s'→ ∃b,bs[k]? =some b∧aI2 hp src s' b:=by
   intro b m1 m2 r' hb hr e;subst e;obtain⟨h3,h4⟩:=mD hr;refine⟨by simp[h3],fun k s' hs'=>?_⟩
   cases k with
   |zero=>
    simp only[List.getElem?_cons_zero,qI]at hs';subst hs';exact⟨b,rfl,hb⟩
   |succ k=>exact h4 k s' (by simpa using hs')
  cases s with
  |box id off n=>
   simp only[dX,qB,qI,qP]at h;obtain⟨⟨row,m1⟩,h1,⟨r',m2⟩,h2,rfl,-⟩:=h;exact cons _ _ _ _ ⟨m,m1,row,h1,rfl⟩ h2 rfl
  |lst id off len=>
   simp only[dX,qB,qI,qP]at h;obtain⟨n,h1,rows,h2,⟨r',m2⟩,h3,rfl,-⟩:=h;exact cons _ _ _ _ ⟨n,rows,h1,h2,rfl⟩ h3 rfl
  |nil n=>
   simp only[dX,qB,qI,qP]at h;obtain⟨⟨r',m2⟩,h2,rfl,-⟩:=h;exact cons _ _ _ _ rfl h2 rfl
theorem aFV{id off n:Nat}(h:a1A hp id off n=true): ∃cells,hp[id]? =some (.box cells)∧off+n≤cells.length∧0<n:=by
 unfold a1A at h;split at h
 ·rename_i cells hc;simp only[Bool.and_eq_true,decide_eq_true_eq]at h;exact⟨cells,hc,h.1,h.2⟩
 ·simp at h
theorem vV: ∀{l:List Src},vR l=true→ ∀(i j:Nat)(s s':Src),i<j→l[i]? =some s→l[j]? =some s'→CN s s'=true
 |[],_,i,j,s,s',_,h,_=>by simp at h
 |x::r,h,i,j,s,s',hij,hi,hj=>by
  simp only[vR,Bool.and_eq_true]at h;obtain⟨j,rfl⟩: ∃k,j=k+1:=⟨j-1,by omega⟩
  simp only[qS]at hj;cases i with
  |zero=>
   simp only[List.getElem?_cons_zero,qI]at hi;subst hi;exact List.all_eq_true.1 h.1 s' (List.mem_of_getElem? hj)
  |succ i=>exact vV h.2 i j s s' (by omega) (by simpa using hi) hj
theorem zV(h:oX hp src=true){k id off n:Nat}(hk:src[k]? =some (.box id off n)): ∃cells,hp[id]? =some (.box cells)∧off+n≤cells.length∧0<n:=by
 unfold oX at h;simp only[Bool.and_eq_true]at h;have:=List.all_eq_true.1 h.1.2 _ (List.mem_of_getElem? hk);exact aFV this
theorem Hp.locB(h:Hp ρ w S hp){id:Nat}{cells:Row}(hc:hp[id]? =some (.box cells)): ∃L,ρ id=some L∧L.whole=false∧cells.length=L.sz∧RR ρ w S L [cells]:=by
 obtain⟨L,h1,h2,h3⟩:=h.br id _ hc;exact⟨L,h1,h2.1,h3.len cells (by simp),h3⟩
theorem EU(h:Hp ρ w S hp)(hs:oX hp src=true){m m':Nat}(hb:dX hp src m src=some (hp',m')){j:Nat}{M:Loc}(hM:rho ρ src j=some M):
  ∃s id L,src[j]? =some s∧(s= .box id (M.base-L.base) M.sz∧L.base≤M.base∧L.whole=false∧M.whole=false∧M.base+M.sz≤L.base+L.sz∨(∃off len,s= .lst id off len)∧L.whole=true∧M.whole=true)∧
   live hp id∧ρ id=some L∧M.blk=L.blk∧ ∀b o,M.has b o→L.has b o:=by
 unfold rho at hM;split at hM
 ·rename_i id off n hk;simp only[Option.map_eq_some_iff]at hM;obtain⟨L,hL,rfl⟩:=hM;obtain⟨cells,hc,hle,hpos⟩:=zV hs hk;obtain⟨L',hL',hw,hlen,-⟩:=h.locB hc;obtain rfl:L=L':=by rw[hL]at hL';exact Option.some.inj hL'
  refine⟨_,id,L,hk, .inl ⟨by rw[Nat.add_sub_cancel_left],Nat.le_add_right _ _,hw,rfl,?_⟩,⟨_,hc,by simp⟩,hL,rfl,fun b o hb=>?_⟩
  ·show L.base+off+n≤L.base+L.sz
   omega
  ·obtain⟨h1,h2⟩:=hb;refine⟨h1, .inr ?_⟩;simp only[Bool.false_eq_true,false_or]at h2;omega
 ·rename_i id off len hk;simp only[Option.map_eq_some_iff]at hM;obtain⟨L,hL,rfl⟩:=hM;obtain⟨-,hall⟩:=mD hb;obtain⟨b,-,n,rows,hsz,-,-⟩:=hall _ _ hk;obtain⟨-,hw,hl⟩:=JT h hL hsz;exact⟨_,id,L,hk, .inr ⟨⟨off,len,rfl⟩,hw,rfl⟩,hl,hL,rfl,fun b o hb=>⟨hb.1, .inl hw⟩⟩
 ·simp at hM
theorem Hp.ren(h:Hp ρ w S hp)(hs:oX hp src=true){m m':Nat}(hb:dX hp src m src=some (hp',m'))(hS: ∀p b,S p b→Se p b)(hsb: ∀p b,Se p b→b<w.heap.size)(hst: ∀b,Se true b→Se false b)
  (hsd: ∀p b,Se p b→ ∀j L,rho ρ src j=some L→L.blk≠b):Hp (rho ρ src) w Se hp':=by
 obtain⟨hlen,hall⟩:=mD hb;have hrt: ∀{t t':T}{m m':Nat}{v:Value},RT ρ w S t v→Zq.ren src m t=some (t',m')→RT (rho ρ src) w Se t' v:=fun ht hr=>aI1 hS ht hr
 refine⟨fun id x hx=>?_,?_,fun p b hb j L _ hL=>hsd p b hb j L hL,hsb,hst,fun j hj=>?_⟩
 ·have hlt:id<src.length:=by rw[←hlen];exact(List.getElem?_eq_some_iff.1 hx).1
  have hsid:src[id]? =some src[id]:=List.getElem?_eq_getElem hlt;obtain⟨b,hb',hnew⟩:=hall id _ hsid;rw[hx]at hb';obtain rfl:=Option.some.inj hb';generalize hsrc:src[id]=s at hsid hnew;cases s with
  |box i off n=>
   obtain⟨m1,m2,row,hr,rfl⟩:=hnew;obtain⟨cells,hc,hle,hpos⟩:=zV hs hsid;obtain⟨L,hL,hw,hcl,hrr⟩:=h.locB hc;obtain⟨h1,h2⟩:=AM hr;have hsc:tE hp (.box i off n)=(cells.drop off).take n:=by simp[tE,tD,hc]
   rw[hsc]at h1 h2;have hrl:row.length=n:=by rw[h1];simp;omega
   obtain⟨c,e,hob,hsz⟩:=hrr.obj;refine⟨⟨L.blk,L.base+off,n,false⟩,by simp[rho,hsid,hL],⟨rfl,hpos⟩,⟨c,e,hob,?_⟩,fun r hr=>?_,fun j k t ht=>?_⟩
   ·simp at hsz⊢;omega
   ·obtain rfl:=by simpa using hr
    exact hrl
   ·cases j with
    |succ j=>simp at ht
    |zero=>
     simp only[List.getElem?_cons_zero,Option.bind_some]at ht;obtain⟨t0,m3,m4,ht0,hren⟩:=h2 k t ht;have hk:k<n:=by rw[←hrl];exact(List.getElem?_eq_some_iff.1 ht).1
     rw[List.getElem?_take_of_lt hk,List.getElem?_drop]at ht0;obtain⟨v,hv,hrv⟩:=hrr.cell 0 (off+k) t0 (by simpa using ht0)
     exact⟨v,by simpa [Nat.add_assoc]using hv,hrt hrv hren⟩
  |nil n=>
   obtain rfl:=hnew;exact .inl ⟨by simp[rho,hsid],rfl⟩
  |lst i off len=>
   obtain⟨n,rows,hsz,hrows,rfl⟩:=hnew;simp only[nJ]at hsz;simp only[dI]at hrows;cases hi:hp[i]? with
   |none=>simp[hi]at hsz
   |some y=>
    cases y with
    |lst n' rs=>
     simp only[hi,qI]at hsz hrows;subst hsz;obtain⟨hle,hrows1⟩:=bQ hrows;obtain rfl:=Option.some.inj hrows1;rcases h.br i _ hi with⟨hn,hrs⟩|⟨L,hL,hw,hLs,hpos,hrr,hin⟩
     ·refine .inl ⟨by simp[rho,hsid,hn],?_⟩
      simp[hrs]
     ·obtain⟨c,e,hob,hsz⟩:=hrr.obj;refine .inr ⟨⟨L.blk,L.base+off*L.sz,L.sz,true⟩,by simp[rho,hsid,hL],rfl,hLs,hpos,⟨⟨c,e,hob,?_⟩,fun r hr=>?_,fun j k t ht=>?_⟩,fun r hr=>?_⟩
      ·have hm:(off+((rs.drop off).take len).length)*L.sz≤rs.length*L.sz:=Nat.mul_le_mul_right _ (by simp;omega)
       rw[Nat.add_mul]at hm;simp only;omega
      ·exact hrr.len r (List.mem_of_mem_drop (List.mem_of_mem_take hr))
      ·obtain⟨r,hr,hk⟩:=hD ht;have hj:j<len:=by have:=(List.getElem?_eq_some_iff.1 hr).1;simp at this;omega
       rw[List.getElem?_take_of_lt hj,List.getElem?_drop]at hr;obtain⟨v,hv,hrv⟩:=hrr.cell (off+j) k t (by simp[hr,hk])
       refine⟨v,?_, .ri ((hrv.inList (List.all_eq_true.1 (hin r (List.mem_of_getElem? hr)) t (List.mem_of_getElem? hk))).mono hS (fun _ _ _=>rfl))⟩
       rw[←hv]
       congr 2
       rw[Nat.add_mul];show L.base+off*L.sz+j*L.sz+k=_
       omega
      ·exact hin r (List.mem_of_mem_drop (List.mem_of_mem_take hr))
    |_=>simp[hi]at hsz
 ·intro i j L M b o hij _ _ hL hM hLb hMb;obtain⟨s,id,L0,hs1,hc1,hl1,hL0,hb1,hh1⟩:=EU h hs hb hL;obtain⟨s',id',M0,hs2,hc2,hl2,hM0,hb2,hh2⟩:=EU h hs hb hM;have hap:vR src=true:=by unfold oX at hs;simp only[Bool.and_eq_true]at hs;exact hs.1.1
  have hk1:=hh1 b o hLb;have hk2:=hh2 b o hMb;by_cases hid:id=id'
  ·subst hid;obtain rfl:L0=M0:=by rw[hL0]at hM0;exact Option.some.inj hM0
   have hapart:CN s s'=true∨CN s' s=true:=by
    rcases Nat.lt_or_gt_of_ne hij with hlt|hlt
    ·exact .inl (vV hap i j s s' hlt hs1 hs2)
    ·exact .inr (vV hap j i s' s hlt hs2 hs1)
   rcases hc1 with⟨rfl,g1,g2,g3,g4⟩|⟨⟨o1,l1,rfl⟩,g2,g3⟩
   ·rcases hc2 with⟨rfl,k1,k2,k3,k4⟩|⟨⟨o2,l2,rfl⟩,k2,k3⟩
    ·simp only[CN,bne_self_eq_false,Bool.false_or,Bool.or_eq_true,decide_eq_true_eq]at hapart;obtain⟨-,e1⟩:=hLb;obtain⟨-,e2⟩:=hMb;simp only[g3,k3,Bool.false_eq_true,false_or]at e1 e2;omega
    ·rw[g2]at k2;simp at k2
   ·rcases hc2 with⟨rfl,k1,k2,k3,k4⟩|⟨⟨o2,l2,rfl⟩,k2,k3⟩
    ·rw[g2]at k2;simp at k2
    ·simp[CN]at hapart
  ·exact h.dj id id' L0 M0 b o hid hl1 hl2 hL0 hM0 hk1 hk2
 ·unfold rho;rw[List.getElem?_eq_none (by omega)]
end
end Go.Zq

namespace Go.Zq
open Option renaming bind_eq_some_iff → qB
open Option.some renaming injEq → qI
open Go
section
variable{P:Program}{w0:World}{W:Nat→Nat→Prop}{S0:Rds}{ρ0:Rho}{nb N:Nat}{ρ:Rho}{S Se:Rds}{σ:St}{a:Act}{w:World}{src:List Src}
theorem ZN{hp:List Blk}{nb i:Nat}(h:i<nb):(fC hp nb)[i]? =some (.box i 0 (tD hp i).length):=by
 simp[fC,h]
theorem ZO{hp:List Blk}(h:Hp ρ w S hp)(hs:oX hp src=true)(ht:src.take nb=fC hp nb):(∀i,i<nb→rho ρ src i=ρ i)∧nb≤src.length:=by
 constructor
 ·intro i hi;have h1:src[i]? =some (.box i 0 (tD hp i).length):=by
   rw[←ZN (hp:=hp) hi,←ht,List.getElem?_take_of_lt hi]
  obtain⟨cells,hc,-,-⟩:=zV hs h1;obtain⟨L,hL,hw,hl,-⟩:=h.locB hc;have hbc:tD hp i=cells:=by simp[tD,hc]
  rw[hbc]at h1;simp only[rho,h1,hL,Option.map_some];obtain⟨b,s,z,wh⟩:=L;simp only at hw hl;subst hw hl;simp
 ·have:=congrArg List.length ht;simp[fC]at this;omega
theorem Sim.sdr(h:Sim w0 W S0 ρ0 nb N ρ S σ a w)(hs:oX σ.hp src=true){m m':Nat}{hp':List Blk}(hb:dX σ.hp src m src=some (hp',m')):
  ∀p b,S p b→ ∀j L,rho ρ src j=some L→L.blk≠b:=fun p b hpb j L hL=>by
 obtain⟨s,id,L0,-,-,hl,hL0,e,-⟩:=EU h.heap hs hb hL;rw[e];exact h.heap.sd p b hpb id L0 hl hL0
theorem Sim.renHp(h:Sim w0 W S0 ρ0 nb N ρ S σ a w)(hs:oX σ.hp src=true){m m':Nat}{hp':List Blk}(hb:dX σ.hp src m src=some (hp',m')):Hp (rho ρ src) w S hp':=
 h.heap.ren hs hb (fun _ _ h=>h) h.heap.sb h.heap.st (h.sdr hs hb)
theorem Sim.renOwn(h:Sim w0 W S0 ρ0 nb N ρ S σ a w)(hs:oX σ.hp src=true){m m':Nat}{hp':List Blk}(hb:dX σ.hp src m src=some (hp',m')):
  ∀i L b o,rho ρ src i=some L→L.has b o→W b o∨w0.heap.size≤b:=fun i L b o hL ho=>by
 obtain⟨s,id,L0,-,-,hl,hL0,e,hh⟩:=EU h.heap hs hb hL;exact h.own id L0 b o hl hL0 (hh b o ho)
theorem Sim.ren(h:Sim w0 W S0 ρ0 nb N ρ S σ a w)(hs:oX σ.hp src=true)(ht:src.take nb=fC σ.hp nb){m m':Nat}{hp':List Blk}(hb:dX σ.hp src m src=some (hp',m')){sl:List (Nat×SV)}
  (hsl: ∀n v',bH n sl=some v'→n<N∧RS (rho ρ src) w S v' (a.tmps.getD n undef)):Sim w0 W S0 ρ0 nb N (rho ρ src) S ⟨sl,hp'⟩ a w:=by
 obtain⟨h1,h2⟩:=ZO h.heap hs ht;exact⟨hsl,h.size,h.defers,h.renHp hs hb,h.keep,fun i L b o _ hL ho=>h.renOwn hs hb i L b o hL ho,h.sn,h.ss,fun i hi=>(h1 i hi).trans (h.boxes i hi),by rw[(mD hb).1];exact h2⟩
theorem ZP(hS: ∀p b,S p b→Se p b){t t':T}{m m':Nat}{v:Value}(h:RS ρ w S (.one t) v)(hr:ren src m t=some (t',m')):RS (rho ρ src) w Se (.one t') v:=by
 cases h with
 |one h=>exact .one (aI1 hS h hr)
theorem ZQ(hS: ∀p b,S p b→Se p b){t t':Row}{m m':Nat}{v:Value}(h:RS ρ w S (.agg t) v)(hr:rW src m t=some (t',m')):RS (rho ρ src) w Se (.agg t') v:=by
 cases h with
 |agg hn h=>
  obtain⟨h1,h2⟩:=AM hr;refine .agg (by omega) fun k t ht=>?_
  obtain⟨t0,m1,m2,ht0,hren⟩:=h2 k t ht;exact aI1 hS (h k t0 ht0) hren
theorem JV{g:Nat→Value}(hv: ∀n v,bH n σ.sl=some v→n<N∧RS ρ w S v (g n)): ∀{l:List Nat}{m:Nat}{sl:List (Nat×SV)},lE σ src m l=some sl→
  ∀n v',bH n sl=some v'→n<N∧RS (rho ρ src) w S v' (g n)
 |[],m,sl,h,n,v',hl=>by
  simp only[lE,qI]at h;subst h;simp[bH]at hl
 |s::r,m,sl,h,n,v',hl=>by
  simp only[lE,qB]at h;obtain⟨v,hlv,h⟩:=h;obtain⟨hN,hrs⟩:=hv s v hlv;have cons: ∀(x:SV)(m1:Nat)(l':List (Nat×SV)),RS (rho ρ src) w S x (g s)→lE σ src m1 r=some l'→sl=(s,x)::l'→n<N∧RS (rho ρ src) w S v' (g n):=by
   intro x m1 l' hx hl' e;subst e;rw[tI]at hl;split at hl
   ·rename_i e;subst e;obtain rfl:=Option.some.inj hl;exact⟨hN,hx⟩
   ·exact JV hv hl' n v' hl
  split at h
  ·simp only[qB,qI]at h;obtain⟨⟨t',m'⟩,hr,l',hl',rfl⟩:=h;exact cons _ _ _ (ZP (fun _ _ h=>h) hrs hr) hl' rfl
  ·simp only[qB,qI]at h;obtain⟨⟨t',m'⟩,hr,l',hl',rfl⟩:=h;exact cons _ _ _ (ZQ (fun _ _ h=>h) hrs hr) hl' rfl
  ·simp only[qB,qI]at h;obtain⟨l',hl',rfl⟩:=h;have hu:RS (rho ρ src) w S .und (g s):=by
    generalize g s=u at hrs;cases hrs;exact .und
   exact cons .und m l' hu hl' rfl
  ·simp at h
theorem Sim.canon(h:Sim w0 W S0 ρ0 nb N ρ S σ a w){lv:List Nat}{σ':St}(hc:canon nb lv σ=some σ'): ∃ρ',Sim w0 W S0 ρ0 nb N ρ' S σ' a w:=by
 unfold Zq.canon at hc;simp only at hc;obtain⟨⟨hs,ht⟩,hc1⟩:=bQ hc;simp only[qB,qI]at hc1;obtain⟨⟨hp',m'⟩,hb,sl,hsl,rfl⟩:=hc1;exact⟨_,h.ren hs ht hb (JV h.slots hsl)⟩
def Exit(w0:World)(W:Nat→Nat→Prop)(S0:Rds)(ρ0:Rho)(nb:Nat)(res:SV)(hp':List Blk)(u:Value)(w:World):Prop:=
 ∃ρ S,RS ρ w S res u∧Hp ρ w S hp'∧Keep W w0 w∧(∀i L b o,live hp' i→ρ i=some L→L.has b o→W b o∨w0.heap.size≤b)∧(∀p b,S p b→S0 p b∨w0.heap.size≤b)∧(∀p b,S0 p b→S p b)∧
  (∀i,i<nb→ρ i=ρ0 i)
theorem AN(hS: ∀p b,S p b→Se p b): ∀{l l':List SV}{m:Nat}{us:List Value},pS src m l=some l'→us.length=l.length→(∀(k:Nat)(v:SV)(u:Value),l[k]? =some v→us[k]? =some u→RS ρ w S v u)→
  l'.length=l.length∧ ∀(k:Nat)(v:SV)(u:Value),l'[k]? =some v→us[k]? =some u→RS (rho ρ src) w Se v u
 |[],l',m,us,h,_,_=>by
  simp only[pS,qI]at h;subst h;exact⟨rfl,fun k v u hv=>by simp at hv⟩
 |x::r,l',m,[],h,hl,_=>by simp at hl
 |x::r,l',m,y::us,h,hl,hrel=>by
  have hx:=hrel 0 x y rfl rfl;have hl':us.length=r.length:=by simpa using hl
  have hrel': ∀(k:Nat)(v:SV)(u:Value),r[k]? =some v→us[k]? =some u→RS ρ w S v u:=fun k v u hv hu=>hrel (k+1) v u (by simpa using hv) (by simpa using hu)
  have cons: ∀(z:SV)(m1:Nat)(r':List SV),RS (rho ρ src) w Se z y→pS src m1 r=some r'→l'=z::r'→l'.length=(x::r).length∧ ∀(k:Nat)(v:SV)(u:Value),l'[k]? =some v→(y::us)[k]? =some u→RS (rho ρ src) w Se v u:=by
   intro z m1 r' hz hr' e;subst e;obtain⟨h1,h2⟩:=AN hS hr' hl' hrel';refine⟨by simp[h1],fun k v u hv hu=>?_⟩
   cases k with
   |zero=>
    simp only[List.getElem?_cons_zero,qI]at hv hu;subst hv hu;exact hz
   |succ k=>exact h2 k v u (by simpa using hv) (by simpa using hu)
  cases x with
  |one t=>
   simp only[pS,qB,qI]at h;obtain⟨⟨t',m'⟩,hr,r',hr',rfl⟩:=h;exact cons _ _ _ (ZP hS hx hr) hr' rfl
  |agg t=>
   simp only[pS,qB,qI]at h;obtain⟨⟨t',m'⟩,hr,r',hr',rfl⟩:=h;exact cons _ _ _ (ZQ hS hx hr) hr' rfl
  |_=>simp[pS]at h
theorem Sim.leave(h:Sim w0 W S0 ρ0 nb N ρ S σ a w){vs:List SV}{us:List Value}(hn:us.length=vs.length)(hv: ∀(k:Nat)(v:SV)(u:Value),vs[k]? =some v→us[k]? =some u→RS ρ w S v u){res:SV}{hp':List Blk}
  (hl:leave nb σ vs=some (res,hp')):Exit w0 W S0 ρ0 nb res hp' (match us with|[u]=>u|us=> .tuple us.toArray) w:=by
 unfold Zq.leave at hl;simp only at hl;generalize vQ σ.hp (List.foldl (LU σ.hp 0) (fC σ.hp nb) (List.flatMap eU vs)) (List.flatMap eU vs)=src at hl;obtain⟨⟨hs,ht⟩,hl1⟩:=bQ hl;simp only[qB,qI,Prod.mk.injEq]at hl1;obtain⟨⟨hp1,m'⟩,hb,vs',hvs',hres,rfl⟩:=hl1;obtain⟨h1,h2⟩:=ZO h.heap hs ht;obtain⟨g1,g2⟩:=AN (fun _ _ h=>h) hvs' hn hv
 refine⟨rho ρ src,S,?_,h.renHp hs hb,h.keep,fun i L b o _ hL ho=>h.renOwn hs hb i L b o hL ho,h.sn,h.ss,fun i hi=>(h1 i hi).trans (h.boxes i hi)⟩
 have tup: ∀(vs':List SV)(us:List Value),vs'.length=us.length→(∀(k:Nat)(v:SV)(u:Value),vs'[k]? =some v→us[k]? =some u→RS (rho ρ src) w S v u)→RS (rho ρ src) w S (.tup vs') (.tuple us.toArray):=by
  intro vs' us hn hr;refine .tup (by simpa using hn) fun k v hk=>?_
  have hlt:k<us.length:=by rw[←hn];exact(List.getElem?_eq_some_iff.1 hk).1
  have:=hr k v us[k] hk (by simp)
  simpa [Array.getD_eq_getD_getElem?,hlt]using this
 match vs',us,(show vs'.length=us.length by omega),g2,hres with
 |[],[],hn,g2,hres=>rw[←hres];exact tup [] [] hn g2
 |[v],[u],hn,g2,hres=>rw[←hres];exact g2 0 v u rfl rfl
 |x::y::r,x'::y'::r',hn,g2,hres=>rw[←hres];exact tup _ _ hn g2
theorem XL{hp hp':List Blk}(h:Hp ρ w S hp){src:List Src}{m m':Nat}{l:List Src}(hb:dX hp src m l=some (hp',m')){k id off len:Nat}(hk:l[k]? =some (.lst id off len)):(∃sz rows,hp[id]? =some (.lst sz rows))∧ ∀L,ρ id=some L→L.whole=true:=by
 obtain⟨b,-,n,rows,hsz,-,-⟩:=(mD hb).2 _ _ hk;simp only[nJ]at hsz;cases hi:hp[id]? with
 |none=>simp[hi]at hsz
 |some x=>
  cases x with
  |lst sz rows'=>
   refine⟨⟨sz,rows',rfl⟩,fun L hL=>?_⟩
   rcases h.br id _ hi with⟨hn,-⟩|⟨M,hM,hw,-⟩
   ·rw[hn]at hL;simp at hL
   ·rw[hL]at hM;obtain rfl:=Option.some.inj hM;exact hw
  |_=>simp[hi]at hsz
theorem XM{hp hp':List Blk}(h:Hp ρ w S hp){src:List Src}{m m':Nat}(hb:dX hp src m src=some (hp',m')){k:Nat}(hk:XD src k=true):rho ρ src k=ρ k:=by
 unfold XD at hk;split at hk
 ·rename_i id len hs;have e:id=k:=by simpa using hk
  subst e;obtain⟨-,hw⟩:=XL h hb hs;simp only[rho,hs];cases hL:ρ id with
  |none=>rfl
  |some L=>
   obtain⟨b,bs,sz,wh⟩:=L;have:=hw _ hL;simp only at this;subst this;simp
 ·simp at hk
theorem Sim.leaveK(h:Sim w0 W S0 ρ0 (nb+2) N ρ S σ a w){vs:List SV}{us:List Value}(hn:us.length=vs.length)(hv: ∀(k:Nat)(v:SV)(u:Value),vs[k]? =some v→us[k]? =some u→RS ρ w S v u){res:SV}{hp':List Blk}
  (hl:leaveK nb σ vs=some (res,hp')):Exit w0 W S0 ρ0 (nb+2) res hp' (match us with|[u]=>u|us=> .tuple us.toArray) w:=by
 unfold Zq.leaveK Zq.leave at hl;simp only at hl;generalize vQ σ.hp (List.foldl (LU σ.hp 0) (fC σ.hp nb) (List.flatMap eU vs)) (List.flatMap eU vs)=src at hl;obtain⟨⟨st1,st2⟩,hl⟩:=bQ hl;obtain⟨⟨hs,ht⟩,hl1⟩:=bQ hl;simp only[qB,qI,Prod.mk.injEq]at hl1;obtain⟨⟨hp1,m'⟩,hb,vs',hvs',hres,rfl⟩:=hl1;obtain⟨h1,h2⟩:=ZO h.heap hs ht;obtain⟨g1,g2⟩:=AN (fun _ _ h=>h) hvs' hn hv
 refine⟨rho ρ src,S,?_,h.renHp hs hb,h.keep,fun i L b o _ hL ho=>h.renOwn hs hb i L b o hL ho,h.sn,h.ss,fun i hi=>?_⟩
 rotate_left
 ·rw[←h.boxes i hi];by_cases h3:i<nb
  ·exact h1 i h3
  ·have:i=nb∨i=nb+1:=by omega
   rcases this with rfl|rfl
   ·exact XM h.heap hb st1
   ·exact XM h.heap hb st2
 have tup: ∀(vs':List SV)(us:List Value),vs'.length=us.length→(∀(k:Nat)(v:SV)(u:Value),vs'[k]? =some v→us[k]? =some u→RS (rho ρ src) w S v u)→RS (rho ρ src) w S (.tup vs') (.tuple us.toArray):=by
  intro vs' us hn hr;refine .tup (by simpa using hn) fun k v hk=>?_
  have hlt:k<us.length:=by rw[←hn];exact(List.getElem?_eq_some_iff.1 hk).1
  have:=hr k v us[k] hk (by simp)
  simpa [Array.getD_eq_getD_getElem?,hlt]using this
 match vs',us,(show vs'.length=us.length by omega),g2,hres with
 |[],[],hn,g2,hres=>rw[←hres];exact tup [] [] hn g2
 |[v],[u],hn,g2,hres=>rw[←hres];exact g2 0 v u rfl rfl
 |x::y::r,x'::y'::r',hn,g2,hres=>rw[←hres];exact tup _ _ hn g2
end
end Go.Zq

namespace Go.Zq
open Option renaming bind_eq_some_iff → qB
open Option.some renaming injEq → qI
open Go
section
variable{P:Program}{w0:World}{W:Nat→Nat→Prop}{S0:Rds}{ρ0:Rho}{nb N:Nat}{ρ:Rho}{S Se:Rds}{σ:St}{a:Act}{w:World}{src:List Src}{hp hp':List Blk}
def zW(S:Rds)(hp:List Blk)(ρ:Rho)(src:List Src)(bor:Bool):Rds:=fun p b=>
 S p b∨(p=false∧bor=true∧ ∃id L,live hp id∧ρ id=some L∧L.whole=true∧b=L.blk∧ ∀off len,Src.lst id off len∉src)
theorem aFW{b:Nat}{p:Bool}(h:zW S hp ρ src false p b):S p b:=by
 rcases h with h|⟨-,h,-⟩
 ·exact h
 ·simp at h
theorem QL{b:Nat}{bor:Bool}(h:zW S hp ρ src bor true b):S true b:=by
 rcases h with h|⟨h,-⟩
 ·exact h
 ·simp at h
theorem objLt{w:World}{b:Nat}{y:Obj}(hy:w.heap[b]? =some y):b<w.heap.size:=by
 by_cases hl:b<w.heap.size
 ·exact hl
 ·simp[hl]at hy
theorem Hp.lt(h:Hp ρ w S hp){id:Nat}{L:Loc}(hl:live hp id)(hL:ρ id=some L):L.blk<w.heap.size:=by
 obtain⟨c,e,hc,-⟩:=h.obj hl hL;exact objLt hc
theorem aFX(h:Hp ρ w S hp)(hs:oX hp src=true){m m':Nat}(hb:dX hp src m src=some (hp',m'))(bor:Bool):Hp (rho ρ src) w (zW S hp ρ src bor) hp':=by
 refine h.ren hs hb (fun _ _ h=> .inl h) (fun p b hpb=>?_) (fun b hb=> .inl (h.st _ (QL hb))) (fun p b hpb j M hM=>?_)
 ·rcases hpb with hpb|⟨-,-,id,L,hl,hL,-,rfl,-⟩
  ·exact h.sb p b hpb
  ·exact h.lt hl hL
 ·obtain⟨s,id0,L0,hs0,hc0,hl0,hL0,e0,-⟩:=EU h hs hb hM;rw[e0];rcases hpb with hpb|⟨-,-,id,L,hl,hL,hw,rfl,hno⟩
  ·exact h.sd p b hpb id0 L0 hl0 hL0
  ·by_cases e:id0=id
   ·subst e;obtain rfl:L0=L:=by rw[hL0]at hL;exact Option.some.inj hL
    rcases hc0 with⟨-,-,g,-⟩|⟨⟨off,len,rfl⟩,-⟩
    ·rw[hw]at g;simp at g
    ·exact absurd (List.mem_of_getElem? hs0) (hno off len)
   ·exact h.alone hl hL hw hl0 hL0 e
theorem aQD(h:Hp ρ w S hp){t t':T}{v:Value}{bor:Bool}(ht:RT ρ w S t v)(hr:CM hp src t=some t')(hbor:bM5 t=true→bor=true):RT (rho ρ src) w (zW S hp ρ src bor) t' v:=by
 have hS: ∀p b,S p b→zW S hp ρ src bor p b:=fun _ _ h=> .inl h
 cases t with
 |lit x=>
  simp only[CM,qI]at hr;subst hr;cases ht with
  |ri h=>exact .ri (h.mono hS (fun _ _ _=>rfl))
 |nls n=>
  simp only[CM,qI]at hr;subst hr;cases ht with
  |ri h=>cases h;exact .ri .nil
 |imm p n rows=>
  simp only[CM,qI]at hr;subst hr;cases ht with
  |ri h'=>exact .ri (h'.mono hS (fun _ _ _=>rfl))
 |sl id off len=>
  simp only[CM,qB]at hr;obtain⟨n,hn,rows,hrows,hr⟩:=hr;obtain⟨hno,hr1⟩:=bQ hr;obtain rfl:=Option.some.inj hr1;obtain⟨ad,cap,rfl,hcap,hrd⟩:=qY h ht hrows hn;rcases hrd with rfl|⟨b,o,rfl,hsz,hin,hc,hb⟩
  ·exact .ri .nil
  ·refine .ri (.imm (p:=false) (g:=fun j k=>(w.cell? ⟨b,o+j*n+k,none⟩).getD undef) ?_ hcap hsz hin (fun j k t ht=>?_) (fun j k t ht=>?_))
   ·rcases hb with hb|⟨id',off',len',L,e,hL,hl,rfl⟩
    ·exact .inl hb
    ·simp only[T.sl.injEq]at e;obtain⟨rfl,rfl,rfl⟩:=e;obtain⟨-,hw,-⟩:=JT h hL hn;refine .inr ⟨rfl,hbor rfl,id,L,hl,hL,hw,rfl,fun off len hm=>?_⟩
     have:=List.all_eq_true.1 hno _ hm;simp[aIP]at this
   ·obtain⟨u,hu,-⟩:=hc j k t ht;simp only[hu,Option.getD_some]
   ·obtain⟨u,hu,hru⟩:=hc j k t ht;simp only[hu,Option.getD_some];exact hru.mono hS (fun _ _ _=>rfl)
 |clo f caps=>
  simp only[CM,qB,qI]at hr;obtain⟨caps',hc,rfl⟩:=hr;exact XK ht hc
 |ptr id row off=>exact aQC ht hr
 |ip cells=>simp[CM]at hr
theorem GP: ∀{l l':Row},xL hp src l=some l'→l'.length=l.length∧ ∀(k:Nat)(t':T),l'[k]? =some t'→ ∃t,l[k]? =some t∧CM hp src t=some t'
 |[],l',h=>by
  simp only[xL,qI]at h;subst h;exact⟨rfl,fun k t h=>by simp at h⟩
 |t::r,l',h=>by
  simp only[xL,qB,qI]at h;obtain⟨t1,h1,r1,h2,rfl⟩:=h;obtain⟨h3,h4⟩:=GP h2;refine⟨by simp[h3],fun k t' ht'=>?_⟩
  cases k with
  |zero=>
   simp only[List.getElem?_cons_zero,qI]at ht';subst ht';exact⟨t,rfl,h1⟩
  |succ k=>exact h4 k t' (by simpa using ht')
theorem yB(h:Hp ρ w S hp){bor:Bool}: ∀{l:List (SV×Nat×Bool)}{l':List SV}{m:Nat}{us:List Value},lC hp src m l=some l'→us.length=l.length→(l.any x8=true→bor=true)→
  (∀(k:Nat)(v:SV×Nat×Bool)(u:Value),l[k]? =some v→us[k]? =some u→RS ρ w S v.1 u)→
  l'.length=l.length∧ ∀(k:Nat)(v:SV)(u:Value),l'[k]? =some v→us[k]? =some u→RS (rho ρ src) w (zW S hp ρ src bor) v u
 |[],l',m,us,h,_,_,_=>by
  simp only[lC,qI]at h;subst h;exact⟨rfl,fun k v u hv=>by simp at hv⟩
 |x::r,l',m,[],_,hl,_,_=>by simp at hl
 |(x,n,mv)::r,l',m,y::us,hr,hl,hbor,hrel=>by
  have hS: ∀p b,S p b→zW S hp ρ src bor p b:=fun _ _ h=> .inl h
  have hx:=hrel 0 (x,n,mv) y rfl rfl;have hl':us.length=r.length:=by simpa using hl
  have hbor':r.any x8=true→bor=true:=fun hh=>hbor (by simp[hh])
  have hrel': ∀(k:Nat)(v:SV×Nat×Bool)(u:Value),r[k]? =some v→us[k]? =some u→RS ρ w S v.1 u:=fun k v u hv hu=>hrel (k+1) v u (by simpa using hv) (by simpa using hu)
  have cons: ∀(z:SV)(m1:Nat)(r':List SV),RS (rho ρ src) w (zW S hp ρ src bor) z y→lC hp src m1 r=some r'→l'=z::r'→
    l'.length=((x,n,mv)::r).length∧ ∀(k:Nat)(v:SV)(u:Value),l'[k]? =some v→(y::us)[k]? =some u→RS (rho ρ src) w (zW S hp ρ src bor) v u:=by
   intro z m1 r' hz hr' e;subst e;obtain⟨h1,h2⟩:=yB h hr' hl' hbor' hrel';refine⟨by simp[h1],fun k v u hv hu=>?_⟩
   cases k with
   |zero=>
    simp only[List.getElem?_cons_zero,qI]at hv hu;subst hv hu;exact hz
   |succ k=>exact h2 k v u (by simpa using hv) (by simpa using hu)
  cases x with
  |one t=>
   simp only[lC]at hr;split at hr
   ·simp only[qB,qI]at hr;obtain⟨⟨t',m'⟩,hr1,r',hr',rfl⟩:=hr;exact cons _ _ _ (ZP hS hx hr1) hr' rfl
   ·rename_i hmv;simp only[qB,qI]at hr;obtain⟨t',hr1,r',hr',rfl⟩:=hr;refine cons _ _ _ ?_ hr' rfl;cases hx with
    |one hx=>exact .one (aQD h hx hr1 (fun hi=>hbor (by simp[x8,hmv,eU,hi])))
  |agg t=>
   simp only[lC]at hr;split at hr
   ·simp only[qB,qI]at hr;obtain⟨⟨t',m'⟩,hr1,r',hr',rfl⟩:=hr;exact cons _ _ _ (ZQ hS hx hr1) hr' rfl
   ·rename_i hmv;simp only[qB,qI]at hr;obtain⟨t',hr1,r',hr',rfl⟩:=hr;refine cons _ _ _ ?_ hr' rfl;obtain⟨h1,h2⟩:=GP hr1;cases hx with
    |agg hn hx=>
     refine .agg (by omega) fun k t'' ht''=>?_
     obtain⟨t0,ht0,hle⟩:=h2 k t'' ht'';exact aQD h (hx k t0 ht0) hle (fun hi=>hbor (by
      have:t.any bM5=true:=List.any_eq_true.2 ⟨t0,List.mem_of_getElem? ht0,hi⟩;simp[x8,hmv,eU,this]))
  |_=>simp[lC]at hr
def Entry(P:Program)(w:World)(ρ:Rho)(S:Rds)(args:List SV)(hp:List Blk)(us:List Value):Prop:=
 Hp ρ w S hp∧args.length=us.length∧ ∀(k:Nat)(v:SV)(u:Value),args[k]? =some v→us[k]? =some u→RS ρ w S v u
theorem OG(h:Hp ρ w S hp){vs:List (SV×Nat×Bool)}{e:Ent}(he:enter hp vs=some e){us:List Value}(hn:us.length=vs.length)(hv: ∀(k:Nat)(v:SV×Nat×Bool)(u:Value),vs[k]? =some v→us[k]? =some u→RS ρ w S v.1 u):
  oX hp e.src=true∧(∃m,dX hp e.src 0 e.src=some (e.hp,m))∧Entry P w (rho ρ e.src) (zW S hp ρ e.src e.bor) e.args e.hp us:=by
 unfold enter at he;simp only at he;obtain⟨hs,he1⟩:=bQ he;simp only[qB,qI]at he1;obtain⟨⟨hp1,m⟩,hb,args,ha,rfl⟩:=he1;obtain⟨h1,h2⟩:=yB h ha hn (fun hh=>hh) hv
 exact⟨hs,⟨m,hb⟩,aFX h hs hb _,by simp only;omega,h2⟩
end
end Go.Zq

namespace Go.Zq
open Option.some renaming injEq → qI
open Go
section
variable{P:Program}{w0:World}{W:Nat→Nat→Prop}{S0:Rds}{ρ0:Rho}{nb N:Nat}{ρ:Rho}{S Se:Rds}{σ:St}{a:Act}{w w':World}{src:List Src}{hp hp':List Blk}
theorem XN{t:T}(h:inList t=true):x9 t=true:=by
 cases t<;>simp_all [inList,x9]
theorem RI.perm{S2:Rds}(hp: ∀b,S true b→S2 true b){t:T}{v:Value}(h:RI w S t v):x9 t=true→RI w S2 t v:=by
 induction h with
 |lit h=>exact fun _=> .lit h
 |nls=>exact fun _=> .nls
 |nil=>exact fun _=> .nil
 |imm hb hcap hsz hin hg _ ih=>
  intro hn;rename_i p rows b off cap sz g _;obtain rfl:p=true:=hn;refine .imm (hp _ hb) hcap hsz hin hg fun j k t ht=>ih j k t ht (XN ?_)
  obtain⟨r,hr,hk⟩:=hD ht;exact List.all_eq_true.1 (hin r (List.mem_of_getElem? hr)) t (List.mem_of_getElem? hk)
theorem Keep.same{W:Nat→Nat→Prop}(h:Keep W w w'){b:Nat}(hb:b<w.heap.size)(hn: ∀o,¬W b o):w'.heap[b]? =w.heap[b]? :=by
 have hx:w.heap[b]? =some w.heap[b]:=by simp[hb]
 generalize w.heap[b]=x at hx;rw[hx];by_cases hc: ∃c e z,x= .cells c e z
 ·obtain⟨c,e,z,rfl⟩:=hc;obtain⟨c',h1,h2,h3⟩:=h.cells b c e z hx;rw[h1]
  congr 2
  apply Array.ext_getElem?;intro i;exact h3 i (hn i)
 ·exact h.other b x hx (fun c e z he=>hc ⟨c,e,z,he⟩)
theorem Keep.shape{W:Nat→Nat→Prop}(h:Keep W w w'){b:Nat}{e:TypeId}{n:Nat}(hs:w.shape? b=some (e,n)):w'.shape? b=some (e,n):=by
 simp only[World.shape?]at hs;cases hx:w.heap[b]? with
 |none=>simp[hx]at hs
 |some x=>
  cases x with
  |cells c e' z=>
   obtain⟨c',h1,h2,h3⟩:=h.cells b c e' z hx;simp only[hx,qI,Prod.mk.injEq]at hs;simp only[World.shape?,h1,qI,Prod.mk.injEq];exact⟨hs.1,h2.trans hs.2⟩
  |_=>simp[hx]at hs
theorem Keep.cell{W:Nat→Nat→Prop}(h:Keep W w w'){b o:Nat}{u:Value}(hu:w.cell? ⟨b,o,none⟩=some u)(hn:¬W b o):w'.cell? ⟨b,o,none⟩=some u:=by
 obtain⟨c,e,z,hc,hv⟩:=P7 hu;obtain⟨c',h1,h2,h3⟩:=h.cells b c e z hc;rw[HC h1,h3 o hn];exact hv
theorem Keep.weaken{W W':Nat→Nat→Prop}(h:Keep W w w')(hw: ∀b o,W b o→W' b o):Keep W' w w':=
 ⟨h.os,h.tape,h.output,h.size,fun b c e z hc=>by
   obtain⟨c',h1,h2,h3⟩:=h.cells b c e z hc;exact⟨c',h1,h2,fun o ho=>h3 o (fun hh=>ho (hw b o hh))⟩,h.other⟩
def xH(ρ ρ':Rho)(len nb:Nat):Rho:=fun j=>if j<len then ρ j else ρ' (nb+(j-len))
def kR(S S':Rds)(bor:Bool):Rds:=fun p b=>if bor=true then S p b∨S' true b else S' p b
theorem aFY{nbe base:Nat}{t t':T}(h:XC src nbe base t=some t'): ∃j row off,t= .ptr j row off∧
  ((j<nbe∧row=0∧ ∃id o n,src[j]? =some (.box id o n)∧t'= .ptr id 0 (o+off))∨(nbe≤j∧t'= .ptr (base+(j-nbe)) row off)):=by
 unfold XC at h;split at h
 ·rename_i j row off;refine⟨j,row,off,rfl,?_⟩;split at h
  ·rename_i hj;split at h
   ·rename_i id o n hs;obtain⟨h0,h1⟩:=bQ h;exact .inl ⟨hj,h0,id,o,n,hs,(Option.some.inj h1).symm⟩
   ·simp at h
  ·rename_i hj;exact .inr ⟨by omega,(Option.some.inj h).symm⟩
 ·simp at h
theorem JW{nbe base:Nat}: ∀{l l':List T},P5 src nbe base l=some l'→l'.length=l.length∧ ∀(k:Nat)(t':T),l'[k]? =some t'→ ∃t,l[k]? =some t∧XC src nbe base t=some t'
 |[],l',h=>by
  simp only[P5,qI]at h;subst h;exact⟨rfl,fun k t h=>by simp at h⟩
 |t::r,l',h=>by
  simp only[P5,Option.bind_eq_some_iff,qI]at h;obtain⟨t1,h1,r1,h2,rfl⟩:=h;obtain⟨h3,h4⟩:=JW h2;refine⟨by simp[h3],fun k t' ht'=>?_⟩
  cases k with
  |zero=>
   simp only[List.getElem?_cons_zero,qI]at ht';subst ht';exact⟨t,rfl,h1⟩
  |succ k=>exact h4 k t' (by simpa using ht')
theorem sT{nbe base:Nat}: ∀{l l':Row},vD src nbe base l=some l'→l'.length=l.length∧ ∀(k:Nat)(t':T),l'[k]? =some t'→ ∃t,l[k]? =some t∧O7 src nbe base t=some t'
 |[],l',h=>by
  simp only[vD,qI]at h;subst h;exact⟨rfl,fun k t h=>by simp at h⟩
 |t::r,l',h=>by
  simp only[vD,Option.bind_eq_some_iff,qI]at h;obtain⟨t1,h1,r1,h2,rfl⟩:=h;obtain⟨h3,h4⟩:=sT h2;refine⟨by simp[h3],fun k t' ht'=>?_⟩
  cases k with
  |zero=>
   simp only[List.getElem?_cons_zero,qI]at ht';subst ht';exact⟨t,rfl,h1⟩
  |succ k=>exact h4 k t' (by simpa using ht')
theorem CU{nbe base:Nat}: ∀{l l':List Blk},zR src nbe base l=some l'→l'.length=l.length∧ ∀(k:Nat)(x':Blk),l'[k]? =some x'→ ∃x,l[k]? =some x∧AK src nbe base x=some x'
 |[],l',h=>by
  simp only[zR,qI]at h;subst h;exact⟨rfl,fun k t h=>by simp at h⟩
 |t::r,l',h=>by
  simp only[zR,Option.bind_eq_some_iff,qI]at h;obtain⟨t1,h1,r1,h2,rfl⟩:=h;obtain⟨h3,h4⟩:=CU h2;refine⟨by simp[h3],fun k t' ht'=>?_⟩
  cases k with
  |zero=>
   simp only[List.getElem?_cons_zero,qI]at ht';subst ht';exact⟨t,rfl,h1⟩
  |succ k=>exact h4 k t' (by simpa using ht')
structure Ctx(ρ:Rho)(w:World)(S:Rds)(hp:List Blk)(src:List Src)(bor:Bool)(ρ':Rho)(S':Rds)(nbe:Nat)(w':World):Prop where
 fr: ∀j,hp.length≤j→ρ j=none
 boxes: ∀i,i<nbe→ρ' i=rho ρ src i
theorem PN{bor:Bool}{ρ':Rho}{S':Rds}{nbe:Nat}(c:Ctx ρ w S hp src bor ρ' S' nbe w'){t t':T}{v:Value}(h:RT ρ' w' S' t v)(hi:O7 src nbe hp.length t=some t')(hl:bor=true→x9 t=true):
  RT (xH ρ ρ' hp.length nbe) w' (kR S S' bor) t' v:=by
 have old: ∀i L,ρ i=some L→xH ρ ρ' hp.length nbe i=some L:=fun i L hL=>by
  unfold xH;rw[if_pos]
  ·exact hL
  ·by_cases hlt:i<hp.length
   ·exact hlt
   ·rw[c.fr i (by omega)]at hL;simp at hL
 have new: ∀j,nbe≤j→xH ρ ρ' hp.length nbe (hp.length+(j-nbe))=ρ' j:=fun j hj=>by
  unfold xH;rw[if_neg (by omega)]
  congr 1
  omega
 have hri: ∀{t:T}{v:Value},RI w' S' t v→(bor=true→x9 t=true)→RI w' (kR S S' bor) t v:=fun{t} {v} hr hn=>by
  cases hb:bor with
  |true=>exact hr.perm (fun b hb=>by simp[kR,hb]) (hn hb)
  |false=>exact hr.mono (fun p b hb=>by simpa [kR]using hb) (fun _ _ _=>rfl)
 have hptr: ∀{j row off:Nat}{t':T}{L:Loc},ρ' j=some L→XC src nbe hp.length (.ptr j row off)=some t'→
   ∃id row' off' L',t'= .ptr id row' off'∧xH ρ ρ' hp.length nbe id=some L'∧L'.blk=L.blk∧L'.base+row'*L'.sz+off'=L.base+row*L.sz+off:=by
  intro j row off t' L hL hh;obtain⟨j',row',off',e,hc⟩:=aFY hh;simp only[T.ptr.injEq]at e;obtain⟨rfl,rfl,rfl⟩:=e;rcases hc with⟨hj,rfl,id,o,n,hs,rfl⟩|⟨hj,rfl⟩
  ·rw[c.boxes j hj]at hL;simp only[rho,hs,Option.map_eq_some_iff]at hL;obtain⟨L0,hL0,rfl⟩:=hL;exact⟨id,0,o+off,L0,rfl,old id L0 hL0,rfl,by simp;omega⟩
  ·exact⟨_,row,off,L,rfl,by rw[new j hj];exact hL,rfl,rfl⟩
 cases t with
 |lit x=>
  simp only[O7,qI]at hi;subst hi;cases h with
  |ri h=>exact .ri (hri h hl)
 |nls n=>
  simp only[O7,qI]at hi;subst hi;cases h with
  |ri h=>exact .ri (hri h hl)
 |imm p n rows=>
  simp only[O7,qI]at hi;subst hi;cases h with
  |ri h=>exact .ri (hri h hl)
 |ip cells=>
  simp only[O7,qI]at hi;subst hi;cases bor with
  |true=>simp[x9]at hl
  |false=>
   have hS: ∀p b,S' p b→kR S S' false p b:=fun p b hb=>by simpa [kR]using hb
   cases h with
   |ri h=>cases h
   |ip hb hg h=>exact .ip (hS _ _ hb) hg (fun k t ht=>(h k t ht).mono hS (fun _ _ _=>rfl))
 |sl j off len=>
  simp only[O7]at hi;obtain⟨hj,hi1⟩:=bQ hi;obtain rfl:=Option.some.inj hi1;cases h with
  |ri h=>cases h
  |nil=>exact .nil
  |sl hL hc hs ha=>exact .sl (by rw[new j hj];exact hL) hc hs ha
 |ptr j row off=>
  cases h with
  |ri h=>cases h
  |ptr hL=>
   rename_i L;obtain⟨id,row',off',L',rfl,hL',e1,e2⟩:=hptr hL hi;have:=RT.ptr (w:=w') (S:=kR S S' bor) (row:=row') (off:=off') hL'
   rwa [e1,e2]at this
 |clo f caps=>
  simp only[O7,Option.bind_eq_some_iff,qI]at hi;obtain⟨caps',hc,rfl⟩:=hi;cases h with
  |ri h=>cases h
  |clo hn h=>
   obtain⟨h1,h2⟩:=JW hc;refine .clo (by omega) fun k t' ht'=>?_
   obtain⟨t,ht,hit⟩:=h2 k t' ht';obtain⟨j,row,off,L,rfl,hL,hv⟩:=h k t ht;obtain⟨id,row',off',L',rfl,hL',e1,e2⟩:=hptr hL hit;exact⟨id,row',off',L',rfl,hL',by rw[hv,e1,e2]⟩
end
end Go.Zq

namespace Go.Zq
open Go
section
variable{P:Program}{w0:World}{W:Nat→Nat→Prop}{S0:Rds}{ρ0:Rho}{nb N:Nat}{ρ ρ':Rho}{S S':Rds}{σ:St}{a:Act}{w w':World}{e:Ent}{hp':List Blk}
def wOf(hp:List Blk)(ρ:Rho)(b o:Nat):Prop:= ∃i L,live hp i∧ρ i=some L∧L.has b o
structure Cb(w0:World)(W:Nat→Nat→Prop)(S0:Rds)(ρ0:Rho)(nb N:Nat)(ρ:Rho)(S:Rds)(σ:St)(a:Act)(w:World)(e:Ent)(ρ':Rho)(S':Rds)(hp':List Blk)(w':World):Prop where
 sim:Sim w0 W S0 ρ0 nb N ρ S σ a w
 hs:oX σ.hp e.src=true
 hb: ∃m,dX σ.hp e.src 0 e.src=some (e.hp,m)
 heap:Hp ρ' w' S' hp'
 keep:Keep (wOf e.hp (rho ρ e.src)) w w'
 own: ∀i L b o,live hp' i→ρ' i=some L→L.has b o→wOf e.hp (rho ρ e.src) b o∨w.heap.size≤b
 sn: ∀p b,S' p b→zW S σ.hp ρ e.src e.bor p b∨w.heap.size≤b
 ss: ∀p b,zW S σ.hp ρ e.src e.bor p b→S' p b
 boxes: ∀i,i<cG e.src→ρ' i=rho ρ e.src i
 lent:e.bor=true→hp'.all vN=true
theorem Cb.ctx(c:Cb w0 W S0 ρ0 nb N ρ S σ a w e ρ' S' hp' w'):Ctx ρ w S σ.hp e.src e.bor ρ' S' (cG e.src) w':=⟨c.sim.heap.fr,c.boxes⟩
theorem Cb.wOld(c:Cb w0 W S0 ρ0 nb N ρ S σ a w e ρ' S' hp' w'){b o:Nat}(h:wOf e.hp (rho ρ e.src) b o): ∃k M s id L,k<e.src.length∧rho ρ e.src k=some M∧M.has b o∧e.src[k]? =some s∧
  (s= .box id (M.base-L.base) M.sz∧L.base≤M.base∧L.whole=false∧M.whole=false∧M.base+M.sz≤L.base+L.sz∨(∃off len,s= .lst id off len)∧L.whole=true∧M.whole=true)∧
    live σ.hp id∧ρ id=some L∧M.blk=L.blk∧L.has b o:=by
 obtain⟨k,M,-,hM,hh⟩:=h;obtain⟨m,hb⟩:=c.hb;obtain⟨s,id,L,h1,h2,h3,h4,h5,h6⟩:=EU c.sim.heap c.hs hb hM;exact⟨k,M,s,id,L,(List.getElem?_eq_some_iff.1 h1).1,hM,hh,h1,h2,h3,h4,h5,h6 b o hh⟩
theorem Cb.noW(c:Cb w0 W S0 ρ0 nb N ρ S σ a w e ρ' S' hp' w'){i:Nat}{L:Loc}(hi:live σ.hp i)(hL:ρ i=some L){b o:Nat}(hh:L.has b o)
  (h1: ∀(j off n:Nat),e.src[j]? =some (.box i off n)→¬(L.base+off≤o∧o<L.base+off+n)) (h2: ∀(j off len:Nat),e.src[j]? ≠some (.lst i off len)):¬wOf e.hp (rho ρ e.src) b o:=by
 intro hw;obtain⟨k,M,s,id,L0,-,-,hM,hs,hc,hl,hL0,hbk,hh0⟩:=c.wOld hw;by_cases e1:id=i
 ·subst e1;obtain rfl:L0=L:=by rw[hL0]at hL;exact Option.some.inj hL
  rcases hc with⟨rfl,g1,g2,g3,g4⟩|⟨⟨off,len,rfl⟩,-⟩
  ·refine h1 k _ _ hs ?_;obtain⟨-,hm⟩:=hM;simp only[g3,Bool.false_eq_true,false_or]at hm;omega
  ·exact h2 k off len hs
 ·exact c.sim.heap.dj id i L0 L b o e1 hl hi hL0 hL hh0 hh
theorem Cb.same(c:Cb w0 W S0 ρ0 nb N ρ S σ a w e ρ' S' hp' w'):aIQ S w w':=fun p b hb=>by
 refine c.keep.same (c.sim.heap.sb p b hb) fun o hw=>?_
 obtain⟨k,M,s,id,L0,-,-,hM,hs,hc,hl,hL0,hbk,hh0⟩:=c.wOld hw;exact c.sim.heap.sd p b hb id L0 hl hL0 hh0.1.symm
theorem Cb.old(c:Cb w0 W S0 ρ0 nb N ρ S σ a w e ρ' S' hp' w'): ∀i L,ρ i=some L→xH ρ ρ' σ.hp.length (cG e.src) i=some L:=fun i L hL=>by
 unfold xH;rw[if_pos]
 ·exact hL
 ·by_cases hlt:i<σ.hp.length
  ·exact hlt
  ·rw[c.sim.heap.fr i (by omega)]at hL;simp at hL
theorem Cb.sub(c:Cb w0 W S0 ρ0 nb N ρ S σ a w e ρ' S' hp' w'): ∀p b,S p b→kR S S' e.bor p b:=fun p b hb=>by
 unfold kR;split
 ·exact .inl hb
 ·exact c.ss p b (.inl hb)
theorem Cb.shp(c:Cb w0 W S0 ρ0 nb N ρ S σ a w e ρ' S' hp' w'):Shp ρ w w':=fun _ _ _ _ _ hs=>c.keep.shape hs
theorem Cb.rt(c:Cb w0 W S0 ρ0 nb N ρ S σ a w e ρ' S' hp' w'){t:T}{v:Value}(h:RT ρ w S t v):RT (xH ρ ρ' σ.hp.length (cG e.src)) w' (kR S S' e.bor) t v:=
 h.mono c.old c.sub c.same c.shp
theorem WJ{src:List Src}(h:((src.drop (cG src)).all P4)=true){k id o n:Nat}(hk:src[k]? =some (.box id o n)):k<cG src:=by
 by_cases hlt:k<cG src
 ·exact hlt
 ·have:(src.drop (cG src))[k-cG src]? =some (.box id o n):=by
   rw[List.getElem?_drop,show cG src+(k-cG src)=k by omega]
   exact hk
  have:=List.all_eq_true.1 h _ (List.mem_of_getElem? this);simp[P4]at this
theorem Cb.first(c:Cb w0 W S0 ρ0 nb N ρ S σ a w e ρ' S' hp' w'){k id o n:Nat}(hk:e.src[k]? =some (.box id o n)):k<cG e.src:=by
 have:=c.hs;unfold oX at this;simp only[Bool.and_eq_true]at this;exact WJ this.2 hk
theorem Cb.isLst(c:Cb w0 W S0 ρ0 nb N ρ S σ a w e ρ' S' hp' w'){k id o n:Nat}(hk:e.src[k]? =some (.lst id o n)): ∃sz rows,σ.hp[id]? =some (.lst sz rows):=by
 obtain⟨m,hb⟩:=c.hb;obtain⟨b,-,n,rows,hsz,-,-⟩:=(mD hb).2 _ _ hk;simp only[nJ]at hsz;cases hi:σ.hp[id]? with
 |none=>simp[hi]at hsz
 |some x=>
  cases x with
  |lst sz rows=>exact⟨sz,rows,rfl⟩
  |_=>simp[hi]at hsz
structure Inv(ρ:Rho)(ρ':Rho)(S S':Rds)(σ:St)(e:Ent)(hp':List Blk)(w':World)(k:Nat)(hc:List Blk):Prop where
 len:hc.length=σ.hp.length
 gone: ∀(i off len j:Nat),j<k→e.src[j]? =some (.lst i off len)→hc[i]? =some .dead
 box: ∀(i:Nat)(cells:Row),hc[i]? =some (.box cells)→ ∃old,σ.hp[i]? =some (.box old)∧cells.length=old.length∧ ∀(c:Nat)(t:T),cells[c]? =some t→
  (∃(j o n:Nat),k≤j∧e.src[j]? =some (.box i o n)∧o≤c∧c<o+n)∨
  ∃L v,ρ i=some L∧w'.cell? ⟨L.blk,L.base+c,none⟩=some v∧RT (xH ρ ρ' σ.hp.length (cG e.src)) w' (kR S S' e.bor) t v
 lst: ∀(i n:Nat)(rows:List Row),hc[i]? =some (.lst n rows)→σ.hp[i]? =some (.lst n rows)
 there: ∀(j i o n:Nat),j<k→e.src[j]? =some (.box i o n)→ ∃new,hp'[j]? =some (.box new)
theorem Cb.inv(c:Cb w0 W S0 ρ0 nb N ρ S σ a w e ρ' S' hp' w'):Inv ρ ρ' S S' σ e hp' w' 0 σ.hp:=by
 refine⟨rfl,fun _ _ _ j hj=>absurd hj (Nat.not_lt_zero _),fun i cells hi=>⟨cells,hi,rfl,fun k t hk=>?_⟩,fun _ _ _ h=>h,fun j _ _ _ hj=>absurd hj (Nat.not_lt_zero _)⟩
 by_cases hcov: ∃(j o n:Nat),e.src[j]? =some (.box i o n)∧o≤k∧k<o+n
 ·obtain⟨j,o,n,h1,h2,h3⟩:=hcov;exact .inl ⟨j,o,n,Nat.zero_le _,h1,h2,h3⟩
 ·right
  obtain⟨L,hL,hw,hl,hrr⟩:=c.sim.heap.locB hi;obtain⟨v,hv,hrv⟩:=hrr.cell 0 k t (by simpa using hk)
  have hkl:=(List.getElem?_eq_some_iff.1 hk).1;simp only[Nat.zero_mul,Nat.add_zero]at hv;refine⟨L,v,hL,c.keep.cell hv (c.noW ⟨_,hi,by simp⟩ hL ⟨rfl, .inr ⟨by omega,by omega⟩⟩ (fun j off n hj hcc=>hcov ⟨j,off,n,hj,by omega,by omega⟩) (fun j off len hj=>?_)),c.rt hrv⟩
  obtain⟨sz,rows,hr⟩:=c.isLst hj;rw[hi]at hr;simp at hr
theorem Cb.step(c:Cb w0 W S0 ρ0 nb N ρ S σ a w e ρ' S' hp' w'): ∀(r:List Src)(k:Nat)(hc hp1:List Blk),e.src.drop k=r→mC e.src (cG e.src) σ.hp.length hp' k r hc=some hp1→
  Inv ρ ρ' S S' σ e hp' w' k hc→ ∃k',e.src.length≤k'∧Inv ρ ρ' S S' σ e hp' w' k' hp1:=by
 intro r
 induction r with
 |nil=>
  intro k hc hp1 hd hb hi;simp only[mC,Option.some.injEq]at hb;subst hb;refine⟨k,?_,hi⟩;have:=congrArg List.length hd;simp at this;omega
 |cons s r ih=>
  intro k hc hp1 hd hb hi;have hsk:e.src[k]? =some s:=by
   have:(e.src.drop k)[0]? =some s:=by rw[hd];rfl
   simpa [List.getElem?_drop]using this
  have hd':e.src.drop (k+1)=r:=by rw[←List.drop_drop,hd];rfl
  cases s with
  |nil n=>
   simp only[mC]at hb;refine ih (k+1) hc hp1 hd' hb ⟨hi.len,fun i off len j hj hs=>?_,fun i cells hic=>?_,hi.lst,fun j i o n hj hs=>?_⟩
   ·by_cases e1:j=k
    ·subst e1;rw[hsk]at hs;simp at hs
    ·exact hi.gone i off len j (by omega) hs
   ·obtain⟨old,h1,h2,h3⟩:=hi.box i cells hic;refine⟨old,h1,h2,fun x t hx=>?_⟩
    rcases h3 x t hx with⟨j,o,n,hj,hs,hr⟩|h
    ·refine .inl ⟨j,o,n,?_,hs,hr⟩;by_cases e1:j=k
     ·subst e1;rw[hsk]at hs;simp at hs
     ·omega
    ·exact .inr h
   ·by_cases e1:j=k
    ·subst e1;rw[hsk]at hs;simp at hs
    ·exact hi.there j i o n (by omega) hs
  |lst id off len=>
   simp only[mC]at hb;obtain⟨sz,rows,hrows⟩:=c.isLst hsk;have hlt:id<hc.length:=by rw[hi.len];exact(List.getElem?_eq_some_iff.1 hrows).1
   refine ih (k+1) _ hp1 hd' hb ⟨by simp[hi.len],fun i off' len' j hj hs=>?_,fun i cells hic=>?_,fun i n rows hic=>?_,fun j i o n hj hs=>?_⟩
   ·rw[List.getElem?_set];by_cases e2:id=i
    ·subst e2;simp[hlt]
    ·rw[if_neg e2];by_cases e1:j=k
     ·subst e1;rw[hsk]at hs;simp at hs;exact absurd hs.1 e2
     ·exact hi.gone i off' len' j (by omega) hs
   ·rw[List.getElem?_set]at hic;split at hic
    ·simp at hic
    ·obtain⟨old,h1,h2,h3⟩:=hi.box i cells hic;refine⟨old,h1,h2,fun x t hx=>?_⟩
     rcases h3 x t hx with⟨j,o,n,hj,hs,hr⟩|h
     ·refine .inl ⟨j,o,n,?_,hs,hr⟩;by_cases e1:j=k
      ·subst e1;rw[hsk]at hs;simp at hs
      ·omega
     ·exact .inr h
   ·rw[List.getElem?_set]at hic;split at hic
    ·simp at hic
    ·exact hi.lst i n rows hic
   ·by_cases e1:j=k
    ·subst e1;rw[hsk]at hs;simp at hs
    ·exact hi.there j i o n (by omega) hs
  |box id off n=>
   simp only[mC]at hb;split at hb
   ·rename_i new cells hnew hcells;obtain⟨hn,hb1⟩:=bQ hb;simp only[Option.bind_eq_some_iff]at hb1;obtain⟨new2,hin,hb2⟩:=hb1;obtain⟨g1,g2⟩:=sT hin;obtain⟨old,ho1,ho2,ho3⟩:=hi.box id cells hcells;obtain⟨old',ho',hle,hpos⟩:=zV c.hs hsk;obtain rfl:old=old':=by rw[ho1]at ho';simpa using ho'
    have hkb:=c.first hsk;obtain⟨L',hL',-,hl',hrr'⟩:=c.heap.locB hnew;obtain⟨L,hL,-,hlL,-⟩:=c.sim.heap.locB ho1;rw[c.boxes k hkb]at hL';simp only[rho,hsk,hL,Option.map_some,Option.some.injEq]at hL';subst hL';have hidlt:id<hc.length:=(List.getElem?_eq_some_iff.1 hcells).1;refine ih (k+1) _ hp1 hd' hb2 ⟨by simp[hi.len],fun i off' len' j hj hs=>?_,fun i cells' hic=>?_,fun i n' rows hic=>?_,fun j i o n' hj hs=>?_⟩
    ·by_cases e1:j=k
     ·subst e1;rw[hsk]at hs;simp at hs
     ·have:=hi.gone i off' len' j (by omega) hs
      rw[List.getElem?_set];split
      ·rename_i e2;subst e2;rw[hcells]at this;simp at this
      ·exact this
    ·rw[List.getElem?_set]at hic;by_cases e2:id=i
     ·subst e2;rw[if_pos rfl,if_pos hidlt]at hic;simp only[Option.some.injEq,Blk.box.injEq]at hic;subst hic;have hwl:off+new2.length≤cells.length:=by omega
      refine⟨old,ho1,by rw[LX hwl,ho2],fun x t hx=>?_⟩
      rw[aIS hwl]at hx;split at hx
      ·rename_i hxc
       right
       obtain⟨t0,ht0,hit⟩:=g2 _ t hx;obtain⟨v,hv,hrv⟩:=hrr'.cell 0 (x-off) t0 (by simpa using ht0)
       refine⟨L,v,hL,?_,PN c.ctx hrv hit (fun hbor=>?_)⟩
       ·rw[←hv]
        congr 2
        simp only[Nat.zero_mul,Nat.add_zero];omega
       ·have:=List.all_eq_true.1 (c.lent hbor) _ (List.mem_of_getElem? hnew);exact List.all_eq_true.1 this t0 (List.mem_of_getElem? ht0)
      ·rename_i hxc;rcases ho3 x t hx with⟨j,o,n',hj,hs,hr⟩|h
       ·refine .inl ⟨j,o,n',?_,hs,hr⟩;by_cases e1:j=k
        ·subst e1;rw[hsk]at hs;simp only[Option.some.injEq,Src.box.injEq,true_and]at hs;omega
        ·omega
       ·exact .inr h
     ·rw[if_neg e2]at hic;obtain⟨old2,h1,h2,h3⟩:=hi.box i cells' hic;refine⟨old2,h1,h2,fun x t hx=>?_⟩
      rcases h3 x t hx with⟨j,o,n',hj,hs,hr⟩|h
      ·refine .inl ⟨j,o,n',?_,hs,hr⟩;by_cases e1:j=k
       ·subst e1;rw[hsk]at hs;simp at hs;exact absurd hs.1 e2
       ·omega
      ·exact .inr h
    ·rw[List.getElem?_set]at hic;split at hic
     ·simp at hic
     ·exact hi.lst i n' rows hic
    ·by_cases e1:j=k
     ·subst e1;exact⟨new,hnew⟩
     ·exact hi.there j i o n' (by omega) hs
   ·simp at hb
end
end Go.Zq

namespace Go.Zq
open Option.some renaming injEq → qI
open Go
section
variable{P:Program}{w0:World}{W:Nat→Nat→Prop}{S0:Rds}{ρ0:Rho}{nb N:Nat}{ρ ρ':Rho}{S S':Rds}{σ:St}{a:Act}{w w':World}{e:Ent}{hp' hp1 new:List Blk}
theorem Cb.wIn(c:Cb w0 W S0 ρ0 nb N ρ S σ a w e ρ' S' hp' w'){b o:Nat}(h:wOf e.hp (rho ρ e.src) b o):W b o∨w0.heap.size≤b:=by
 obtain⟨k,M,s,id,L,-,-,-,-,-,hl,hL,-,hh⟩:=c.wOld h;exact c.sim.own id L b o hl hL hh
theorem Cb.after(c:Cb w0 W S0 ρ0 nb N ρ S σ a w e ρ' S' hp' w'){p:Bool}{b:Nat}(h:kR S S' e.bor p b):S p b∨(S' p b∨S' true b)∧w.heap.size≤b:=by
 unfold kR at h;split at h
 ·rcases h with h|h
  ·exact .inl h
  ·rcases c.sn true b h with h1|h1
   ·left
    have:=QL h1;cases p
    ·exact c.sim.heap.st b this
    ·exact this
   ·exact .inr ⟨.inr h,h1⟩
 ·rename_i hb;have hb':e.bor=false:=by simpa using hb
  rcases c.sn p b h with h1|h1
  ·rw[hb']at h1;exact .inl (aFW h1)
  ·exact .inr ⟨.inl h,h1⟩
theorem Cb.rr(c:Cb w0 W S0 ρ0 nb N ρ S σ a w e ρ' S' hp' w'){L:Loc}{rows:List Row}(h:RR ρ w S L rows)(hn: ∀j k,(∃t:T,(rows[j]?).bind (·[k]?)=some t)→¬wOf e.hp (rho ρ e.src) L.blk (L.base+j*L.sz+k)):
  RR (xH ρ ρ' σ.hp.length (cG e.src)) w' (kR S S' e.bor) L rows:=by
 obtain⟨cs,ty,hc,hs⟩:=h.obj;obtain⟨c',h1,h2,-⟩:=c.keep.cells _ cs ty _ hc;refine⟨⟨c',ty,h1,by omega⟩,h.len,fun j k t ht=>?_⟩
 obtain⟨v,hv,hr⟩:=h.cell j k t ht;exact⟨v,c.keep.cell hv (hn j k ⟨t,ht⟩),c.rt hr⟩
theorem Cb.sim'(c:Cb w0 W S0 ρ0 nb N ρ S σ a w e ρ' S' hp' w')(hback:mC e.src (cG e.src) σ.hp.length hp' 0 e.src σ.hp=some hp1)(hnew:zR e.src (cG e.src) σ.hp.length (hp'.drop (cG e.src))=some new):
  Sim w0 W S0 ρ0 nb N (xH ρ ρ' σ.hp.length (cG e.src)) (kR S S' e.bor) ⟨σ.sl,hp1++new⟩ a w':=by
 obtain⟨k,hk,inv⟩:=c.step e.src 0 σ.hp hp1 rfl hback c.inv;obtain⟨n1,n2⟩:=CU hnew;simp only[List.length_drop]at n1;have oldLive: ∀i,live hp1 i→live σ.hp i∧i<σ.hp.length∧ ∀(j off len:Nat),e.src[j]? ≠some (.lst i off len):=by
  rintro i ⟨x,hx,hd⟩
  have hlt:i<σ.hp.length:=by rw[←inv.len];exact(List.getElem?_eq_some_iff.1 hx).1
  refine⟨?_,hlt,fun j off len hj=>?_⟩
  ·cases x with
   |dead=>exact absurd rfl hd
   |box cells=>obtain⟨old,h1,-,-⟩:=inv.box i cells hx;exact⟨_,h1,by simp⟩
   |lst n rows=>exact⟨_,inv.lst i n rows hx,by simp⟩
  ·have:=inv.gone i off len j (by have:=(List.getElem?_eq_some_iff.1 hj).1;omega) hj
   rw[hx]at this;obtain rfl:=Option.some.inj this;exact hd rfl
 have oldRho: ∀i,i<σ.hp.length→xH ρ ρ' σ.hp.length (cG e.src) i=ρ i:=fun i hi=>by unfold xH;rw[if_pos hi]
 have newRho: ∀i,xH ρ ρ' σ.hp.length (cG e.src) (σ.hp.length+i)=ρ' (cG e.src+i):=fun i=>by
  unfold xH;rw[if_neg (by omega)]
  congr 1
  omega
 have spl: ∀(i:Nat)(x:Blk),(hp1++new)[i]? =some x→(i<σ.hp.length∧hp1[i]? =some x)∨ ∃(i':Nat)(y:Blk),i=σ.hp.length+i'∧new[i']? =some x∧hp'[cG e.src+i']? =some y∧AK e.src (cG e.src) σ.hp.length y=some x:=by
  intro i x hx;rw[List.getElem?_append]at hx;split at hx
  ·rename_i hlt;exact .inl ⟨by rw[←inv.len];exact hlt,hx⟩
  ·rename_i hge;rw[inv.len]at hx hge;obtain⟨y,hy,hi⟩:=n2 _ x hx;rw[List.getElem?_drop]at hy;exact .inr ⟨i-σ.hp.length,y,by omega,hx,hy,hi⟩
 have spl': ∀i,live (hp1++new) i→(i<σ.hp.length∧live hp1 i)∨ ∃i',i=σ.hp.length+i'∧live hp' (cG e.src+i'):=by
  rintro i ⟨x,hx,hd⟩
  rcases spl i x hx with⟨h1,h2⟩|⟨i',y,rfl,-,hy,hi⟩
  ·exact .inl ⟨h1,x,h2,hd⟩
  ·refine .inr ⟨i',rfl,y,hy,?_⟩
   rintro rfl
   simp only[AK,qI]at hi;exact hd hi.symm
 have boxLive: ∀(j i o n:Nat),e.src[j]? =some (.box i o n)→live hp' j:=fun j i o n hj=>by
  obtain⟨nw,h1⟩:=inv.there j i o n (by have:=(List.getElem?_eq_some_iff.1 hj).1;omega) hj
  exact⟨_,h1,by simp⟩
 have CN: ∀i j' L M b o,live hp1 i→live hp' (cG e.src+j')→ρ i=some L→ρ' (cG e.src+j')=some M→L.has b o→¬M.has b o:=by
  intro i j' L M b o hi hj hL hM hLb hMb;obtain⟨hli,hlt,hno⟩:=oldLive i hi;have hblk:=c.sim.heap.lt hli hL;rcases c.own _ M b o hj hM hMb with hw|hw
  ·obtain⟨k',M',s,id,L0,-,hM',hh,hs,hcc,hl0,hL0,-,hh0⟩:=c.wOld hw;rcases hcc with⟨rfl,-⟩|⟨⟨off,len,rfl⟩,hwh,-⟩
   ·have hkb:=c.first hs;exact c.heap.dj k' (cG e.src+j') M' M b o (by omega) (boxLive _ _ _ _ hs) hj (by rw[c.boxes k' hkb];exact hM') hM hh hMb
   ·have hne:i≠id:=fun e1=>hno k' off len (by rw[e1];exact hs)
    exact c.sim.heap.alone hl0 hL0 hwh hli hL hne (hLb.1.symm.trans hh0.1)
  ·rw[hLb.1]at hw;omega
 have hri:=fun{t:T} {v:Value} (h:RT ρ w S t v)=>c.rt h
 refine⟨fun n v hv=>?_,c.sim.size,c.sim.defers,⟨fun i x hx=>?_,?_,?_,?_,?_,?_⟩,?_,?_,?_,?_,fun i hi=>?_,?_⟩
 ·obtain⟨h1,h2⟩:=c.sim.slots n v hv;exact⟨h1,h2.mono c.old c.sub c.same c.shp⟩
 ·
  rcases spl i x hx with⟨hlt,h1⟩|⟨i',y,rfl,-,hy,hi⟩
  ·cases x with
   |dead=>trivial
   |box cells=>
    obtain⟨old,ho1,ho2,ho3⟩:=inv.box i cells h1;obtain⟨L,hL,hw,hl,hrr⟩:=c.sim.heap.locB ho1;obtain⟨L',hL',⟨-,hpos⟩,-⟩:=c.sim.heap.br i _ ho1;obtain rfl:L=L':=by rw[hL]at hL';exact Option.some.inj hL'
    obtain⟨cs,ty,hc,hs⟩:=hrr.obj;obtain⟨c',g1,g2,-⟩:=c.keep.cells _ cs ty _ hc;refine⟨L,by rw[oldRho i hlt];exact hL,⟨hw,hpos⟩,⟨c',ty,g1,by simp at hs⊢;omega⟩,fun r hr=>?_,fun j k' t ht=>?_⟩
    ·obtain rfl:=by simpa using hr
     omega
    ·cases j with
     |succ j=>simp at ht
     |zero=>
      simp only[List.getElem?_cons_zero,Option.bind_some]at ht;rcases ho3 k' t ht with⟨j,o,n,hj,hs',-⟩|⟨L2,v,hL2,hv,hrv⟩
      ·have:=(List.getElem?_eq_some_iff.1 hs').1;omega
      ·obtain rfl:L=L2:=by rw[hL]at hL2;exact Option.some.inj hL2
       exact⟨v,by simpa using hv,hrv⟩
   |lst n rows=>
    have hold:=inv.lst i n rows h1;rcases c.sim.heap.br i _ hold with⟨hn,hr⟩|⟨L,hL,hw,hls,hpos,hrr,hin⟩
    ·exact .inl ⟨by rw[oldRho i hlt];exact hn,hr⟩
    ·refine .inr ⟨L,by rw[oldRho i hlt];exact hL,hw,hls,hpos,c.rr hrr (fun j k' _=>?_),hin⟩
     obtain⟨hli,-,hno⟩:=oldLive i ⟨_,h1,by simp⟩
     refine c.noW hli hL ⟨rfl, .inl hw⟩ (fun j off n hj=>?_) hno
     obtain⟨cells,hcells,-,-⟩:=zV c.hs hj;rw[hold]at hcells;simp at hcells
  ·have hb:=c.heap.br _ y hy;cases y with
   |dead=>
    simp only[AK,qI]at hi;subst hi;trivial
   |box cells=>
    simp only[AK,Option.bind_eq_some_iff,qI]at hi;obtain⟨cells',hc',rfl⟩:=hi;obtain⟨L,hL,hw,hrr⟩:=hb;obtain⟨g1,g2⟩:=sT hc';refine⟨L,by rw[newRho];exact hL,hw,⟨?_,fun r hr=>?_,fun j k' t ht=>?_⟩⟩
    ·simpa using hrr.obj
    ·obtain rfl:=by simpa using hr
     rw[g1];exact hrr.len cells (by simp)
    ·cases j with
     |succ j=>simp at ht
     |zero=>
      simp only[List.getElem?_cons_zero,Option.bind_some]at ht;obtain⟨t0,ht0,hit⟩:=g2 k' t ht;obtain⟨v,hv,hrv⟩:=hrr.cell 0 k' t0 (by simpa using ht0)
      refine⟨v,hv,PN c.ctx hrv hit (fun hbor=>?_)⟩
      have:=List.all_eq_true.1 (c.lent hbor) _ (List.mem_of_getElem? hy);exact List.all_eq_true.1 this t0 (List.mem_of_getElem? ht0)
   |lst n rows=>
    simp only[AK,qI]at hi;subst hi;rcases hb with⟨hn,hr⟩|⟨L,hL,hw,hls,hpos,hrr,hin⟩
    ·exact .inl ⟨by rw[newRho];exact hn,hr⟩
    ·refine .inr ⟨L,by rw[newRho];exact hL,hw,hls,hpos,⟨hrr.obj,hrr.len,fun j k' t ht=>?_⟩,hin⟩
     obtain⟨v,hv,hrv⟩:=hrr.cell j k' t ht;obtain⟨r,hr,hkk⟩:=hD ht;have hil:=List.all_eq_true.1 (hin r (List.mem_of_getElem? hr)) t (List.mem_of_getElem? hkk);have hri:=hrv.inList hil;refine⟨v,hv, .ri ?_⟩;cases hbor:e.bor with
     |true=>exact hri.perm (fun b hb=>by simp[kR,hb]) (XN hil)
     |false=>exact hri.mono (fun p b hb=>by simpa [kR]using hb) (fun _ _ _=>rfl)
 ·intro i j L M b o hij hi hj hL hM hLb hMb;rcases spl' i hi with⟨hi1,hi2⟩|⟨i',rfl,hi2⟩
  ·rw[oldRho i hi1]at hL;rcases spl' j hj with⟨hj1,hj2⟩|⟨j',rfl,hj2⟩
   ·rw[oldRho j hj1]at hM;exact c.sim.heap.dj i j L M b o hij (oldLive i hi2).1 (oldLive j hj2).1 hL hM hLb hMb
   ·rw[newRho]at hM;exact CN i j' L M b o hi2 hj2 hL hM hLb hMb
  ·rw[newRho]at hL;rcases spl' j hj with⟨hj1,hj2⟩|⟨j',rfl,hj2⟩
   ·rw[oldRho j hj1]at hM;exact CN j i' M L b o hj2 hi2 hM hL hMb hLb
   ·rw[newRho]at hM;exact c.heap.dj _ _ L M b o (by omega) hi2 hj2 hL hM hLb hMb
 ·intro p b hb j L hj hL;rcases spl' j hj with⟨hj1,hj2⟩|⟨j',rfl,hj2⟩
  ·rw[oldRho j hj1]at hL;have hli:=(oldLive j hj2).1;rcases c.after hb with h|⟨-,h⟩
   ·exact c.sim.heap.sd p b h j L hli hL
   ·have:=c.sim.heap.lt hli hL;omega
  ·rw[newRho]at hL;rcases c.after hb with h|⟨h,-⟩
   ·exact c.heap.sd p b (c.ss p b (.inl h)) _ L hj2 hL
   ·rcases h with h|h
    ·exact c.heap.sd p b h _ L hj2 hL
    ·exact c.heap.sd true b h _ L hj2 hL
 ·intro p b hb;rcases c.after hb with h|⟨h,-⟩
  ·have:=c.sim.heap.sb p b h;have:=c.keep.size;omega
  ·rcases h with h|h
   ·exact c.heap.sb p b h
   ·exact c.heap.sb true b h
 ·intro b hb;unfold kR at hb⊢;split at hb
  ·rename_i h1;rw[if_pos h1];rcases hb with hb|hb
   ·exact .inl (c.sim.heap.st b hb)
   ·exact .inr hb
  ·rename_i h1;rw[if_neg h1];exact c.heap.st b hb
 ·intro j hj;simp only[List.length_append,inv.len,n1]at hj;unfold xH;rw[if_neg (by omega)]
  exact c.heap.fr _ (by omega)
 ·exact c.sim.keep.trans (c.keep.weaken fun b o h=>c.wIn h)
 ·intro i L b o hi hL hb;rcases spl' i hi with⟨hi1,hi2⟩|⟨i',rfl,hi2⟩
  ·rw[oldRho i hi1]at hL;exact c.sim.own i L b o (oldLive i hi2).1 hL hb
  ·rw[newRho]at hL;rcases c.own _ L b o hi2 hL hb with h|h
   ·exact c.wIn h
   ·have:=c.sim.keep.size;exact .inr (by omega)
 ·intro p b hb;have:=c.sim.keep.size;rcases c.after hb with h|⟨-,h⟩
  ·exact c.sim.sn p b h
  ·exact .inr (by omega)
 ·intro p b hb;exact c.sub p b (c.sim.ss p b hb)
 ·rw[oldRho i (by have:=c.sim.nbl;omega)]
  exact c.sim.boxes i hi
 ·simp[inv.len];have:=c.sim.nbl;omega
theorem rA{bor:Bool}{nbe:Nat}{src:List Src}{hp:List Blk}(c:Ctx ρ w S hp src bor ρ' S' nbe w'){v v':SV}{u:Value}(h:RS ρ' w' S' v u)(hi:nO src nbe hp.length v=some v')(hl:bor=true→(eU v).all x9=true):
  RS (xH ρ ρ' hp.length nbe) w' (kR S S' bor) v' u:=by
 cases v with
 |one t=>
  simp only[nO,Option.bind_eq_some_iff,qI]at hi;obtain⟨t',ht,rfl⟩:=hi;cases h with
  |one h=>exact .one (PN c h ht (fun hb=>by simpa [eU]using hl hb))
 |agg ts=>
  simp only[nO,Option.bind_eq_some_iff,qI]at hi;obtain⟨ts',ht,rfl⟩:=hi;obtain⟨g1,g2⟩:=sT ht;cases h with
  |agg hn h=>
   refine .agg (by omega) fun k t' ht'=>?_
   obtain⟨t,ht,hit⟩:=g2 k t' ht';exact PN c (h k t ht) hit (fun hb=>List.all_eq_true.1 (hl hb) t (List.mem_of_getElem? ht))
 |_=>simp[nO]at hi
theorem GQ{nbe base:Nat}{src:List Src}: ∀{l l':List SV},xM src nbe base l=some l'→l'.length=l.length∧ ∀(k:Nat)(t':SV),l'[k]? =some t'→ ∃t,l[k]? =some t∧nO src nbe base t=some t'
 |[],l',h=>by
  simp only[xM,qI]at h;subst h;exact⟨rfl,fun k t h=>by simp at h⟩
 |t::r,l',h=>by
  simp only[xM,Option.bind_eq_some_iff,qI]at h;obtain⟨t1,h1,r1,h2,rfl⟩:=h;obtain⟨h3,h4⟩:=GQ h2;refine⟨by simp[h3],fun k t' ht'=>?_⟩
  cases k with
  |zero=>
   simp only[List.getElem?_cons_zero,qI]at ht';subst ht';exact⟨t,rfl,h1⟩
  |succ k=>exact h4 k t' (by simpa using ht')
theorem AO{bor:Bool}{nbe:Nat}{src:List Src}{hp:List Blk}(c:Ctx ρ w S hp src bor ρ' S' nbe w'){v v':SV}{u:Value}(h:RS ρ' w' S' v u)(hi:G9 src nbe hp.length v=some v')(hl:bor=true→tG v=true):
  RS (xH ρ ρ' hp.length nbe) w' (kR S S' bor) v' u:=by
 cases v with
 |tup vs=>
  simp only[G9,Option.bind_eq_some_iff,qI]at hi;obtain⟨vs',ht,rfl⟩:=hi;obtain⟨g1,g2⟩:=GQ ht;cases h with
  |tup hn h=>
   refine .tup (by omega) fun k t' ht'=>?_
   obtain⟨t,ht,hit⟩:=g2 k t' ht';exact rA c (h k t ht) hit (fun hb=>List.all_eq_true.1 (hl hb) t (List.mem_of_getElem? ht))
 |one t=>exact rA c h hi (fun hb=>hl hb)
 |agg t=>exact rA c h hi (fun hb=>hl hb)
 |und=>exact rA c h hi (fun hb=>hl hb)
end
end Go.Zq

namespace Go.Zq
open Go
section
variable{P:Program}{w0:World}{W:Nat→Nat→Prop}{S0:Rds}{ρ0:Rho}{nb N:Nat}{ρ:Rho}{S:Rds}{σ:St}{a:Act}{w:World}
theorem QM{e:TypeId}{z:Row}(hz:iY P e=some z){x:TypeInfo}{zv:Value}(hx:P.info? e=some x)(hzv:x.zero=some zv)(n:Nat):
  Flat (fun t v=>RT ρ w S t v) x.size (List.replicate n z) (Builtin.zeroCells zv.cells n).toList:=by
 obtain⟨x',zv',h1,h2,h3,h4,h5⟩:=jU hz;obtain rfl:x=x':=by rw[hx]at h1;exact Option.some.inj h1
 obtain rfl:zv=zv':=by rw[hzv]at h2;exact Option.some.inj h2
 refine⟨by simp[Builtin.zeroCells,h3],fun r hr=>by rw[(List.mem_replicate.1 hr).2,h4],fun j k t ht=>?_⟩
 obtain⟨r,hr,hk⟩:=hD ht;have hj:j<n:=by have:=(List.getElem?_eq_some_iff.1 hr).1;simpa using this
 obtain rfl:z=r:=by simpa [List.getElem?_replicate,hj]using hr
 obtain⟨u,hu,hru⟩:=h5 (ρ:=ρ) (w:=w) (S:=S) k t hk;have hkl:=(List.getElem?_eq_some_iff.1 hk).1;have hlt:j*x.size+k<n*x.size:=by
  have:=Nat.mul_le_mul_right x.size (show j+1≤n by omega)
  rw[Nat.add_mul]at this;omega
 refine⟨u,?_,hru⟩;have hmod:(j*x.size+k)%zv.cells.size=k:=by
  rw[h3,Nat.add_comm,Nat.mul_comm,Nat.add_mul_mod_self_left];exact Nat.mod_eq_of_lt (by omega)
 have hku:k<zv.cells.size:=by omega
 have hu':zv.cells[k]! =u:=by
  rw[getElem!_pos zv.cells k hku];exact(Array.getElem?_eq_some_iff.1 hu).2
 have hlt':j*x.size+k<n*zv.cells.size:=by rw[h3];exact hlt
 simp[Builtin.zeroCells,hlt',hmod,hu']
theorem Flat.oneT{sz:Nat}{rows:List Row}{vs:List Value}(h:Flat (fun t v=>RT ρ w S t v) sz rows vs)(hpos:0<sz): ∀v∈vs,(∀x,v≠ .agg x)∧ ∀x,v≠ .tuple x:=by
 intro v hv;obtain⟨i,hi,rfl⟩:=List.mem_iff_getElem.1 hv;obtain⟨h1,h2,h3⟩:=h;rw[h1]at hi;have hj:i/sz<rows.length:=(Nat.div_lt_iff_lt_mul hpos).2 hi;have hk:i%sz<sz:=Nat.mod_lt _ hpos;have hl:=h2 rows[i/sz] (List.getElem_mem hj);obtain⟨u,hu,hr⟩:=h3 (i/sz) (i%sz) (rows[i/sz][i%sz]'(by omega)) (by simp[hj])
 have e:i/sz*sz+i%sz=i:=by have:=Nat.div_add_mod i sz;rw[Nat.mul_comm]at this;omega
 rw[e]at hu;have hu':vs[i]=u:=(List.getElem?_eq_some_iff.1 hu).2;rw[hu'];exact hr.one.2
theorem a11(h:Sim w0 W S0 ρ0 nb N ρ S σ a w){o:Oper}{c:Call}{x:Operand}{t e:TypeId}{i:TypeInfo}{z:Row}(ho:o.op= .call c)(hc:c.callee= .builtin .clear)(hargs:c.args.toList=[x])(htys:c.argTypes.toList=[t])
  (ht:P.underlying t=some (.slice e)) (hi:P.info? e=some i) (hz:iY P e=some z) (hpos:0<i.size) {id off len:Nat} (hx:RT ρ w S (.sl id off len) (a.eval x))
  {rows:List Row} (hb:σ.hp[id]? =some (.lst i.size rows)) (hle:off+len≤rows.length):
  lY P w0 W S0 ρ0 nb N σ a w o (.tup []) (σ.hp.set id (.lst i.size (rows.take off++(List.replicate len z++rows.drop (off+len))))):=by
 have hargs':c.args= #[x]:=Array.toList_inj.1 hargs;have htys':c.argTypes= #[t]:=Array.toList_inj.1 htys;obtain⟨i',zv,k1,k2,k3,k4,-⟩:=jU hz;obtain rfl:i=i':=by rw[hi]at k1;exact Option.some.inj k1
 have hexec: ∀w',(Builtin.clear_ #[t] o.type #[a.eval x]).run P w= .ok (.tuple #[]) w'→(execOp a.eval o).run P w= .ok (.value (.tuple #[])) w':=fun w' hu=>by
  simp only[execOp,ho,resolve,hc,hargs',htys',Sem.run_bind,Sem.run_pure,Result.andThen_ok,invoke,builtin];simp[hu]
 have tt: ∀ρ' w' S',RS ρ' w' S' (.tup []) (.tuple #[]):=fun ρ' w' S'=> .tup rfl (fun k v hk=>by simp at hk)
 have noth:len=0→ ∀ad cap,a.eval x= .slice ad len cap→lY P w0 W S0 ρ0 nb N σ a w o (.tup []) (σ.hp.set id (.lst i.size (rows.take off++(List.replicate len z++rows.drop (off+len))))):=by
  intro h0 ad cap hv;subst h0;rw[hv]at hexec;refine⟨_,w,ρ,S,hexec w ?_,?_,tt _ _ _⟩
  ·cases ad<;>simp[Builtin.clear_,run_underlying ht]
  ·have same:rows.take off++(List.replicate 0 z++rows.drop (off+0))=rows:=by simp
   rw[same];have:σ.hp.set id (.lst i.size rows)=σ.hp:=by
    apply List.ext_getElem?;intro j;rw[List.getElem?_set];split
    ·rename_i e1;subst e1;rw[if_pos (List.getElem?_eq_some_iff.1 hb).1,hb]
    ·rfl
   rw[this];exact h
 generalize hvx:a.eval x=vx at hx;cases hx with
 |ri h=>cases h
 |nil=>exact noth rfl _ _ hvx
 |sl hL hcl hs ha=>
  rename_i cap1 ad L e' n';by_cases h0:len=0
  ·exact noth h0 _ _ hvx
  rcases ha with ha|⟨rfl,hfit⟩
  ·omega
  rw[hvx]at hexec;have hbr:=h.heap.br id _ hb;rcases hbr with⟨hnone,-⟩|⟨M,hM,hwh,hsz,-,hrr,hall⟩
  ·rw[hL]at hnone;simp at hnone
  obtain rfl:L=M:=by rw[hL]at hM;exact Option.some.inj hM
  have hlive:live σ.hp id:=⟨_,hb,by simp⟩
  obtain⟨c0,e0,hc0,hs0⟩:=hrr.obj;have hf:=QM (ρ:=ρ) (w:=w) (S:=S) hz hi k2 len;have hfl:(Builtin.zeroCells zv.cells len).toList.length=len*L.sz:=by rw[hf.1,List.length_replicate,hsz]
  have hmul:(off+len)*L.sz≤rows.length*L.sz:=Nat.mul_le_mul_right _ (by omega)
  rw[Nat.add_mul]at hmul;obtain⟨w',hst,hw⟩:=nQ (P:=P) (Builtin.zeroCells zv.cells len).toList (L.base+off*L.sz) 0 w c0 e0 hc0 (by omega) (hf.oneT hpos)
  have hle':off+(List.replicate len z).length≤rows.length:=by rw[List.length_replicate];omega
  have hnew:=hrr.splice hle' hw (by rw[hsz];exact hf) (fun t v ht=>h.heap.rt hlive hL hw ht)
  rw[List.length_replicate]at hnew;refine⟨_,w',ρ,S,hexec w' ?_,?_,tt _ _ _⟩
  ·obtain⟨m,rfl⟩: ∃m,len=m+1:=⟨len-1,by omega⟩
   simp[Builtin.clear_,run_underlying ht,OC hi k2,hst]
  ·refine h.write hlive hL hw (fun o _ _=>⟨rfl, .inl hwh⟩) _ (.inr ⟨L,hL,hwh,hsz,by omega,hnew,fun r hr=>?_⟩)
   simp only[List.mem_append]at hr;rcases hr with hr|hr|hr
   ·exact hall r (List.mem_of_mem_take hr)
   ·rw[(List.mem_replicate.1 hr).2];exact HF hz
   ·exact hall r (List.mem_of_mem_drop hr)
end
end Go.Zq

namespace Go.Zq
open Option renaming bind_eq_some_iff → qB
open Option.some renaming injEq → qI
open Prod.mk renaming injEq → qP
open Go
section
variable{P:Program}{w0:World}{W:Nat→Nat→Prop}{S0:Rds}{ρ0:Rho}{nb N:Nat}{ρ:Rho}{S:Rds}{σ:St}{a:Act}{w:World}{R:Rt}
def TC(P:Program)(f:FuncId)(args:List SV)(hp:List Blk)(res:SV)(hp':List Blk):Prop:=
 ∀(w:World)(ρ:Rho)(S:Rds)(us:List Value),Entry P w ρ S args hp us→
  Calls P f us.toArray w fun
   | .returned u,w'=>Exit w (wOf hp ρ) S ρ (cW hp) res hp' u w'
   |_,_=>False
def xR(P:Program)(f:FuncId):Prop:= ∃fn c,P.funcs[f]? =some fn∧fn.body=some c∧(fn.name== "runtime.NumGoroutine")=false
def TCK(P:Program)(f:FuncId)(args:List SV)(hp:List Blk)(res:SV)(hp':List Blk):Prop:=
 ∀(w:World)(ρ:Rho)(S:Rds)(us:List Value),Entry P w ρ S args hp us→
  Calls P f us.toArray w fun
   | .returned u,w'=>Exit w (wOf hp ρ) S ρ (cW hp+2) res hp' u w'
   |_,_=>False
def pF(P:Program)(R:Rt):Prop:= ∀f args hp res hp',R f args hp=some (res,hp')→(f<50000→xR P f∧TC P f args hp res hp')∧(50000≤f→xR P (f-50000)∧TCK P (f-50000) args hp res hp')
def QN(f:FuncId):FuncId:=if f<50000 then f else f-50000
theorem XO{f:FuncId}(h:xR P f)(args:Array Value)(w:World):(callFunc f args).run P w= .ok (.enter f args) w:=by
 obtain⟨fn,c,hf,hb,hn⟩:=h;simp only[callFunc,Sem.run_bind,run_program,Result.andThen_ok,hf,hn,hb];simp
theorem yC{hp:List Blk}{src0:List Src}: ∀{l:List Src}{m m':Nat}{bs:List Blk},dX hp src0 m l=some (bs,m')→cW bs=cG l
 |[],m,m',bs,h=>by
  simp only[dX,qI,qP]at h;obtain⟨rfl,-⟩:=h;rfl
 | .box id off n::r,m,m',bs,h=>by
   simp only[dX,qB,qI,qP]at h;obtain⟨⟨row,m1⟩,h1,⟨r',m2⟩,h2,rfl,-⟩:=h;simp[cW,cG,yC h2]
 | .lst id off len::r,m,m',bs,h=>by
   simp only[dX,qB,qI,qP]at h;obtain⟨n,h1,rows,h2,⟨r',m2⟩,h3,rfl,-⟩:=h;simp[cW,cG]
 | .nil n::r,m,m',bs,h=>by
   simp only[dX,qB,qI,qP]at h;obtain⟨⟨r',m2⟩,h2,rfl,-⟩:=h;simp[cW,cG]
theorem HG{t:T}(h:pR t=true){src:List Src}{nb base:Nat}:O7 src nb base t=some t:=by
 cases t<;>simp_all [pR,O7]
theorem HH{src:List Src}{nb base:Nat}: ∀{ts:Row},ts.all pR=true→vD src nb base ts=some ts
 |[],_=>rfl
 |t::r,h=>by
  simp only[List.all_cons,Bool.and_eq_true]at h;simp[vD,HG h.1,HH h.2]
theorem QP{src:List Src}{nb base:Nat}: ∀{vs:List SV},(vs.all fun
  | .one t=>pR t
  | .agg ts=>ts.all pR
  |_=>false)=true→xM src nb base vs=some vs
 |[],_=>rfl
 |v::r,h=>by
  rw[List.all_cons,Bool.and_eq_true]at h;have hr:=QP (src:=src) (nb:=nb) (base:=base) h.2;cases v with
  |one t=>simp[xM,nO,HG h.1,hr]
  |agg ts=>simp[xM,nO,HH h.1,hr]
  |_=>simp at h
theorem aF0{v:SV}(h:CP v=true){src:List Src}{nb base:Nat}:G9 src nb base v=some v:=by
 cases v with
 |und=>simp[CP]at h
 |one t=>simp[G9,nO,HG (show pR t=true from h)]
 |agg ts=>simp[G9,nO,HH (show ts.all pR=true from h)]
 |tup vs=>simp[G9,QP (show _=true from h)]
theorem a12{hp:List Blk}(hh:Hp ρ w S hp){id off len:Nat}{v:Value}(h:RT ρ w S (.sl id off len) v){rows:List Row}(hr:dI hp (.sl id off len)=some rows){sz:Nat}(hz:nJ hp (.sl id off len)=some sz):
  ∃ad cap,v= .slice ad rows.length cap∧rows.length≤cap∧(rows=[]∨ ∃b o,ad=some ⟨b,o,none⟩∧(∀r∈rows,r.length=sz)∧(∀r∈rows,r.all inList=true)∧
   (∀(j k:Nat)(t:T),(rows[j]?).bind (·[k]?)=some t→ ∃u,w.cell? ⟨b,o+j*sz+k,none⟩=some u∧RI w S t u)∧ ∃L,ρ id=some L∧live hp id∧L.whole=true∧b=L.blk):=by
 cases h with
 |ri h=>cases h
 |nil=>
  simp only[dI]at hr;cases hb:hp[id]? with
  |none=>simp[hb]at hr
  |some x=>
   cases x with
   |lst n rows'=>
    simp only[hb]at hr;obtain⟨-,hr1⟩:=bQ hr;obtain rfl:=Option.some.inj hr1;exact⟨none,0,by simp,by simp, .inl (by simp)⟩
   |_=>simp[hb]at hr
 |sl hL hc hs ha=>
  rename_i cap ad L e n;simp only[dI]at hr;cases hb:hp[id]? with
  |none=>simp[hb]at hr
  |some x=>
   have hbr:=hh.br id x hb;cases x with
   |lst n' rows'=>
    simp only[hb]at hr;obtain⟨hle,hr1⟩:=bQ hr;obtain rfl:=Option.some.inj hr1;have hn':n'=sz:=by simpa [nJ,hb]using hz
    have hlen:((rows'.drop off).take len).length=len:=by simp;omega
    refine⟨some ad,cap,by rw[hlen],by omega,?_⟩
    rcases hbr with⟨hnone,rfl⟩|⟨M,hM,hwh,hsz,hpos,hrr,hall⟩
    ·left
     simp
    obtain rfl:L=M:=by rw[hL]at hM;simpa using hM
    by_cases h0:len=0
    ·left
     subst h0;simp
    ·right
     rcases ha with ha|⟨rfl,hfit⟩
     ·omega
     refine⟨L.blk,L.base+off*L.sz,rfl,fun r hr=>?_,fun r hr=>?_,fun j k t ht=>?_,⟨L,hL,⟨_,hb,by simp⟩,hwh,rfl⟩⟩
     ·rw[hrr.len r (List.mem_of_mem_drop (List.mem_of_mem_take hr)),hsz,hn']
     ·exact hall r (List.mem_of_mem_drop (List.mem_of_mem_take hr))
     ·obtain⟨r,hr,hk⟩:=hD ht;have hj:j<len:=by
       have:=(List.getElem?_eq_some_iff.1 hr).1;omega
      rw[List.getElem?_take_of_lt hj,List.getElem?_drop]at hr;obtain⟨u,hu,hru⟩:=hrr.cell (off+j) k t (by simp[hr,hk])
      refine⟨u,?_,hru.inList (List.all_eq_true.1 (hall r (List.mem_of_getElem? hr)) t (List.mem_of_getElem? hk))⟩;rw[←hn',←hsz];rw[show L.base+off*L.sz+j*L.sz+k=L.base+(off+j)*L.sz+k by rw[Nat.add_mul];omega]
      exact hu
   |_=>simp[hb]at hr
def aXX(S:Rds)(hp:List Blk)(ρ:Rho):Rds:=fun p b=>S p b∨ ∃id L,live hp id∧ρ id=some L∧L.whole=true∧b=L.blk
theorem aI3{hp:List Blk}(h:Hp ρ w S hp){ρ2:Rho}{t t':T}{v:Value}(ht:RT ρ w S t v)(hr:LV hp t=some t'):RT ρ2 w (aXX S hp ρ) t' v∧pR t'=true:=by
 have hS: ∀p b,S p b→aXX S hp ρ p b:=fun _ _ h=> .inl h
 cases t with
 |lit x=>
  simp only[LV,qI]at hr;subst hr;cases ht with
  |ri h=>exact⟨.ri (h.mono hS (fun _ _ _=>rfl)),rfl⟩
 |nls n=>
  simp only[LV,qI]at hr;subst hr;cases ht with
  |ri h=>exact⟨.ri (h.mono hS (fun _ _ _=>rfl)),rfl⟩
 |imm p n rows=>
  simp only[LV,qI]at hr;subst hr;cases ht with
  |ri h'=>exact⟨.ri (h'.mono hS (fun _ _ _=>rfl)),rfl⟩
 |sl id off len=>
  simp only[LV,qB,qI]at hr;obtain⟨n,hn,rows,hrows,rfl⟩:=hr;obtain⟨ad,cap,rfl,hcap,hrd⟩:=a12 h ht hrows hn;rcases hrd with rfl|⟨b,o,rfl,hsz,hin,hc,L,hL,hl,hw,rfl⟩
  ·exact⟨.ri .nil,rfl⟩
  ·refine⟨.ri (.imm (p:=true) (g:=fun j k=>(w.cell? ⟨L.blk,o+j*n+k,none⟩).getD undef) (.inr ⟨id,L,hl,hL,hw,rfl⟩) hcap hsz hin (fun j k t ht=>?_) (fun j k t ht=>?_)),rfl⟩
   ·obtain⟨u,hu,-⟩:=hc j k t ht;simp only[hu,Option.getD_some]
   ·obtain⟨u,hu,hru⟩:=hc j k t ht;simp only[hu,Option.getD_some];exact hru.mono hS (fun _ _ _=>rfl)
 |clo f caps=>simp[LV]at hr
 |ptr id row off=>simp[LV]at hr
 |ip cells=>simp[LV]at hr
theorem JX{hp:List Blk}: ∀{l l':Row},HA hp l=some l'→l'.length=l.length∧ ∀(k:Nat)(t':T),l'[k]? =some t'→ ∃t,l[k]? =some t∧LV hp t=some t'
 |[],l',h=>by
  simp only[HA,qI]at h;subst h;exact⟨rfl,fun k t h=>by simp at h⟩
 |t::r,l',h=>by
  simp only[HA,qB,qI]at h;obtain⟨t1,h1,r1,h2,rfl⟩:=h;obtain⟨h3,h4⟩:=JX h2;refine⟨by simp[h3],fun k t' ht'=>?_⟩
  cases k with
  |zero=>
   simp only[List.getElem?_cons_zero,qI]at ht';subst ht';exact⟨t,rfl,h1⟩
  |succ k=>exact h4 k t' (by simpa using ht')
theorem aI4{hp:List Blk}(h:Hp ρ w S hp){ρ2:Rho}{v v':SV}{u:Value}(hv:RS ρ w S v u)(hr:B4 hp v=some v'):RS ρ2 w (aXX S hp ρ) v' u∧(match v' with| .one t=>pR t=true| .agg ts=>ts.all pR=true|_=>False):=by
 cases v with
 |one t=>
  simp only[B4,qB,qI]at hr;obtain⟨t',h1,rfl⟩:=hr;cases hv with
  |one ht=>
   obtain⟨k1,k2⟩:=aI3 h (ρ2:=ρ2) ht h1;exact⟨.one k1,k2⟩
 |agg ts=>
  simp only[B4,qB,qI]at hr;obtain⟨ts',h1,rfl⟩:=hr;obtain⟨h2,h3⟩:=JX h1;cases hv with
  |agg hn ht=>
   refine⟨.agg (by rw[h2,hn]) fun k t' hk=>?_,?_⟩
   ·obtain⟨t,e1,e2⟩:=h3 k t' hk;exact(aI3 h (ρ2:=ρ2) (ht k t e1) e2).1
   ·show ts'.all pR=true
    rw[List.all_eq_true];intro t' hk;obtain⟨k,hk1⟩:=List.mem_iff_getElem?.1 hk;obtain⟨t,e1,e2⟩:=h3 k t' hk1;exact(aI3 h (ρ2:=ρ2) (ht k t e1) e2).2
 |und=>simp[B4]at hr
 |tup vs=>simp[B4]at hr
theorem JY{hp:List Blk}: ∀{l l':List SV},HB hp l=some l'→l'.length=l.length∧ ∀(k:Nat)(t':SV),l'[k]? =some t'→ ∃t,l[k]? =some t∧B4 hp t=some t'
 |[],l',h=>by
  simp only[HB,qI]at h;subst h;exact⟨rfl,fun k t h=>by simp at h⟩
 |t::r,l',h=>by
  simp only[HB,qB,qI]at h;obtain⟨t1,h1,r1,h2,rfl⟩:=h;obtain⟨h3,h4⟩:=JY h2;refine⟨by simp[h3],fun k t' ht'=>?_⟩
  cases k with
  |zero=>
   simp only[List.getElem?_cons_zero,qI]at ht';subst ht';exact⟨t,rfl,h1⟩
  |succ k=>exact h4 k t' (by simpa using ht')
theorem bM9{hp:List Blk}(h:Hp ρ w S hp){ρ2:Rho}{v v':SV}{u:Value}(hv:RS ρ w S v u)(hr:OB hp v=some v'):RS ρ2 w (aXX S hp ρ) v' u∧CP v'=true:=by
 have flat: ∀{v v':SV}{u:Value},RS ρ w S v u→B4 hp v=some v'→RS ρ2 w (aXX S hp ρ) v' u∧CP v'=true:=fun{v v' u} hv hr=>by
  obtain⟨k1,k2⟩:=aI4 h (ρ2:=ρ2) hv hr;refine⟨k1,?_⟩;cases v' with
  |one t=>exact k2
  |agg ts=>exact k2
  |und=>exact k2.elim
  |tup vs=>exact k2.elim
 cases v with
 |tup vs=>
  simp only[OB,qB,qI]at hr;obtain⟨vs',h1,rfl⟩:=hr;obtain⟨h2,h3⟩:=JY h1;cases hv with
  |tup hn ht=>
   refine⟨.tup (by rw[h2,hn]) fun k t' hk=>?_,?_⟩
   ·obtain⟨t,e1,e2⟩:=h3 k t' hk;exact(aI4 h (ρ2:=ρ2) (ht k t e1) e2).1
   ·simp only[CP,List.all_eq_true];intro t' hk;obtain⟨k,hk1⟩:=List.mem_iff_getElem?.1 hk;obtain⟨t,e1,e2⟩:=h3 k t' hk1;have:=(aI4 h (ρ2:=ρ2) (ht k t e1) e2).2;cases t' with
    |one t=>exact this
    |agg ts=>exact this
    |und=>exact this.elim
    |tup vs=>exact this.elim
 |one t=>exact flat hv hr
 |agg ts=>exact flat hv hr
 |und=>exact flat hv hr
theorem bNA{i j:Nat}(e:ρ i=ρ j){t:T}{v:Value}(h:RT ρ w S t v):RT ρ w S (swT i j t) v:=by
 cases t with
 |sl k a b=>
  unfold swT;by_cases hk:k=j
  ·subst hk;simp only[if_true];cases h with
   |ri h=>cases h
   |nil=>exact .nil
   |sl hL hc hs ha=>exact .sl (by rw[e];exact hL) hc hs ha
  ·simp only[if_neg hk];exact h
 |_=>exact h
theorem bNB{i j k k0:Nat}(e:ρ i=ρ j)(hk:ρ k0=ρ k){y:Blk}(h:BR ρ w S k0 y):BR ρ w S k (swB i j y):=by
 cases y with
 |dead=>trivial
 |box cells=>
  obtain⟨L,hL,hw,hrr⟩:=h;refine⟨L,by rw[←hk];exact hL,hw,⟨by simpa using hrr.obj,fun r hr=>?_,fun x c t ht=>?_⟩⟩
  ·obtain rfl:r=cells.map (swT i j):=by simpa using hr
   rw[List.length_map];exact hrr.len cells (by simp)
  ·cases x with
   |succ x=>simp at ht
   |zero=>
    simp only[List.getElem?_cons_zero,Option.bind_some,List.getElem?_map,Option.map_eq_some_iff]at ht;obtain⟨t0,ht0,rfl⟩:=ht;obtain⟨v,hv,hr⟩:=hrr.cell 0 c t0 (by simpa using ht0)
    exact⟨v,hv,bNA e hr⟩
 |lst n rows=>
  rcases h with⟨hn,hr⟩|⟨L,hL,hr⟩
  ·exact .inl ⟨by rw[←hk];exact hn,hr⟩
  ·exact .inr ⟨L,by rw[←hk];exact hL,hr⟩
theorem Sim.swp{sl:List (Nat×SV)}{hp:List Blk}(h:Sim w0 W S0 ρ0 nb N ρ S ⟨sl,hp⟩ a w){i j:Nat}(e:ρ i=ρ j):Sim w0 W S0 ρ0 nb N ρ S ⟨sl,swp i j hp⟩ a w:=by
 unfold Zq.swp;split
 ·rename_i sz rows hi hj;have hne:i≠j:=fun q=>by subst q;rw[hi]at hj;simp at hj
  have hil:=(List.getElem?_eq_some_iff.1 hi).1;have hjl:=(List.getElem?_eq_some_iff.1 hj).1;have get: ∀k x,(((hp.set i (.lst sz rows)).set j .dead).map (swB i j))[k]? =some x→(k=j∧x= .dead)∨(k≠j∧ ∃y,hp[if k=i then j else k]? =some y∧x=swB i j y):=by
   intro k x hx;simp only[List.getElem?_map,Option.map_eq_some_iff]at hx;obtain⟨y,hy,rfl⟩:=hx;rw[List.getElem?_set]at hy;by_cases h1:j=k
   ·subst h1;simp only[if_true,List.length_set,hjl]at hy;obtain rfl:=Option.some.inj hy;exact .inl ⟨rfl,rfl⟩
   ·rw[if_neg h1,List.getElem?_set]at hy;refine .inr ⟨fun q=>h1 q.symm,?_⟩
    by_cases h2:i=k
    ·subst h2;simp only[if_true,hil]at hy;obtain rfl:=Option.some.inj hy;exact⟨_,by simpa using hj,rfl⟩
    ·rw[if_neg h2]at hy;rw[if_neg (fun q=>h2 q.symm)]
     exact⟨y,hy,rfl⟩
  have rr: ∀k,ρ (if k=i then j else k)=ρ k:=fun k=>by
   by_cases h2:k=i
   ·subst h2;simp only[if_true];exact e.symm
   ·rw[if_neg h2]
  have lv: ∀k,live (((hp.set i (.lst sz rows)).set j .dead).map (swB i j)) k→k≠j∧live hp (if k=i then j else k):=by
   rintro k ⟨x,hx,hd⟩
   rcases get k x hx with⟨-,rfl⟩|⟨h1,y,hy,rfl⟩
   ·exact absurd rfl hd
   ·exact⟨h1,y,hy,fun q=>hd (by rw[q];rfl)⟩
  have tau: ∀k k',k≠k'→k≠j→k'≠j→(if k=i then j else k)≠(if k'=i then j else k'):=by
   intro k k' h1 h2 h3;split<;>split<;>omega
  refine⟨h.slots,h.size,h.defers,⟨fun k x hx=>?_,fun k k' L M b o hkk hk hk' hL hM=>?_,fun p b hb k L hk hL=>?_,h.heap.sb,h.heap.st,fun k hk=>h.heap.fr k (by simpa using hk)⟩,h.keep,fun k L b o hk hL=>?_,h.sn,h.ss,h.boxes,by simpa using h.nbl⟩
  ·rcases get k x hx with⟨-,rfl⟩|⟨-,y,hy,rfl⟩
   ·trivial
   ·exact bNB e (rr k) (h.heap.br _ y hy)
  ·obtain⟨a1,a2⟩:=lv k hk;obtain⟨b1,b2⟩:=lv k' hk';exact h.heap.dj _ _ L M b o (tau k k' hkk a1 b1) a2 b2 (by rw[rr];exact hL) (by rw[rr];exact hM)
  ·obtain⟨a1,a2⟩:=lv k hk;exact h.heap.sd p b hb _ L a2 (by rw[rr];exact hL)
  ·obtain⟨a1,a2⟩:=lv k hk;exact h.own _ L b o a2 (by rw[rr];exact hL)
 ·exact h
theorem Sim.stay{sl:List (Nat×SV)}{hp:List Blk}(h:Sim w0 W S0 ρ0 nb N ρ S ⟨sl,hp⟩ a w){src:List Src}{base k:Nat}(e: ∀id len,src[k]? =some (.lst id 0 len)→ρ id=ρ (base+(k-cG src))):Sim w0 W S0 ρ0 nb N ρ S ⟨sl,stay src base k hp⟩ a w:=by
 unfold Zq.stay;split
 ·rename_i id len hs;exact h.swp (e id len hs)
 ·exact h
theorem OH: ∀{src:List Src}{k:Nat},k<cG src→ ∃i o n,src[k]? =some (.box i o n)
 |[],k,h=>by simp[cG]at h
 | .box i o n::r,0,h=>⟨i,o,n,rfl⟩
 | .box i o n::r,k+1,h=>by
   obtain⟨i',o',n',hx⟩:=OH (src:=r) (k:=k) (by simpa [cG]using h)
   exact⟨i',o',n',by simpa using hx⟩
 | .lst _ _ _::r,k,h=>by simp[cG]at h
 | .nil _::r,k,h=>by simp[cG]at h
theorem aF1(hR:pF P R)(h:Sim w0 W S0 ρ0 nb N ρ S σ a w){pu:Bool}{f:FuncId}(hf:f<50000){vs:List (SV×Nat×Bool)}{us:List Value}(hn:us.length=vs.length)
  (hv: ∀(k:Nat)(v:SV×Nat×Bool)(u:Value),vs[k]? =some v→us[k]? =some u→RS ρ w S v.1 u) {r:SV} {hp2:List Blk} (hd:lD R σ.hp pu f vs=some (r,hp2)):
  xR P f∧Calls P f us.toArray w fun
   | .returned u,w'=> ∃ρ2 S2,Sim w0 W S0 ρ0 nb N ρ2 S2 ⟨σ.sl,hp2⟩ a w'∧RS ρ2 w' S2 r u
   |_,_=>False:=by
 unfold lD at hd;split at hd
 ·simp only[qB]at hd;obtain⟨args,hargs,⟨res0,hp'⟩,hr,res,hfr,hd⟩:=hd;obtain⟨hnl,hd1⟩:=bQ hd;simp only[qI,qP]at hd1;obtain⟨rfl,rfl⟩:=hd1;obtain⟨g1,g2⟩:=yB h.heap hargs hn (fun hh=>hh) hv
  have hent:Entry P w (rho ρ []) (zW S σ.hp ρ [] (vs.any x8)) args [] us:=⟨aFX h.heap (src:=[]) rfl (m:=0) rfl _,by omega,g2⟩
  obtain⟨hbody,htc⟩:=(hR f _ _ _ _ hr).1 hf;refine⟨hbody,(htc w _ _ us hent).mono fun x w' hx=>?_⟩
  cases x with
  |returned u=>
   obtain⟨ρ',S',hrs0,hheap,hkeep,hown,hsn,hss,hboxes⟩:=hx;obtain⟨hrs,hcl⟩:=bM9 hheap (ρ2:=fun _=>none) hrs0 hfr
   have hnone: ∀i,rho ρ [] i=none:=fun i=>by simp[rho]
   have c:Cb w0 W S0 ρ0 nb N ρ S σ a w ⟨args,[],[],vs.any x8⟩ (fun _=>none) (aXX S' hp' ρ') [] w':=by
    refine⟨h,rfl,⟨0,rfl⟩,⟨fun id x hx=>by simp at hx,fun i j L M b o _ hi=>by obtain⟨_,hi,_⟩:=hi;simp at hi,fun p b _ j L hj=>by obtain⟨_,hj,_⟩:=hj;simp at hj,fun p b hb=>?_,fun b hb=>?_,fun j _=>rfl⟩,hkeep,fun i L b o hi=>by obtain⟨_,hi,_⟩:=hi;simp at hi,fun p b hb=>?_,fun p b hb=> .inl (hss p b hb),fun i hi=>by simp[cG]at hi,fun _=>rfl⟩
    ·rcases hb with hb|⟨id,L,hl,hL,-,rfl⟩
     ·exact hheap.sb p b hb
     ·exact hheap.lt hl hL
    ·rcases hb with hb|hb
     ·exact .inl (hheap.st b hb)
     ·exact .inr hb
    ·rcases hb with hb|⟨id,L,hl,hL,hw,rfl⟩
     ·exact hsn p b hb
     ·rcases hown id L L.blk 0 hl hL ⟨rfl, .inl hw⟩with ho|ho
      ·obtain⟨i,M,hi,-⟩:=ho;obtain⟨_,hi,_⟩:=hi;simp at hi
      ·exact .inr ho
   have hs:=c.sim' (hp1:=σ.hp) (new:=[]) rfl rfl;rw[List.append_nil]at hs;refine⟨_,_,hs,AO c.ctx hrs (aF0 hcl) (fun hb=>?_)⟩
   rcases hnl with hnl|hnl
   ·simp only at hb;rw[hnl]at hb;simp at hb
   ·exact hnl
  |panicked _=>exact hx.elim
  |outgrown=>exact hx.elim
 simp only[qB]at hd;obtain⟨e,he,hd⟩:=hd;obtain⟨⟨res,hp'⟩,hr,hb⟩:=hd;obtain⟨hs,⟨m,hren⟩,hent⟩:=OG (P:=P) h.heap he hn hv;obtain⟨hbody,htc⟩:=(hR f _ _ _ _ hr).1 hf;refine⟨hbody,(htc w _ _ us hent).mono fun x w' hx=>?_⟩
 cases x with
 |returned u=>
  obtain⟨ρ',S',hrs,hheap,hkeep,hown,hsn,hss,hboxes⟩:=hx;rw[yC hren]at hboxes;unfold aXT at hb;simp only at hb;split at hb
  ·simp at hb
  rename_i hlent;simp only[qB,qI,qP]at hb;obtain⟨hp1,h1,res',h2,new,h3,rfl,rfl⟩:=hb;have hl:e.bor=true→tG res=true∧hp'.all vN=true:=fun hbor=>by
   have:¬((tG res&&hp'.all vN)=false):=fun hf=>hlent ⟨hbor,hf⟩
   simpa using this
  have c:Cb w0 W S0 ρ0 nb N ρ S σ a w e ρ' S' hp' w':=⟨h,hs,⟨m,hren⟩,hheap,hkeep,hown,hsn,hss,hboxes,fun hbor=>(hl hbor).2⟩
  exact⟨_,_,c.sim' h1 h3,AO c.ctx hrs h2 (fun hbor=>(hl hbor).1)⟩
 |panicked _=>exact hx.elim
 |outgrown=>exact hx.elim
theorem aF2(hR:pF P R)(h:Sim w0 W S0 ρ0 nb N ρ S σ a w){f:FuncId}(hf:50000≤f){vs:List (SV×Nat×Bool)}{us:List Value}(hn:us.length=vs.length)
  (hv: ∀(k:Nat)(v:SV×Nat×Bool)(u:Value),vs[k]? =some v→us[k]? =some u→RS ρ w S v.1 u) {r:SV} {hp2:List Blk} (hd:xN R σ.hp f vs=some (r,hp2)):
  xR P (f-50000)∧Calls P (f-50000) us.toArray w fun
   | .returned u,w'=> ∃ρ2 S2,Sim w0 W S0 ρ0 nb N ρ2 S2 ⟨σ.sl,hp2⟩ a w'∧RS ρ2 w' S2 r u
   |_,_=>False:=by
 unfold xN at hd;simp only[qB]at hd;obtain⟨e,he,hd⟩:=hd;obtain⟨⟨res,hp'⟩,hr,⟨r0,hp0⟩,hb,hd⟩:=hd;simp only[qI,qP]at hd;obtain⟨rfl,rfl⟩:=hd;obtain⟨hs,⟨m,hren⟩,hent⟩:=OG (P:=P) h.heap he hn hv;obtain⟨hbody,htc⟩:=(hR f _ _ _ _ hr).2 hf;refine⟨hbody,(htc w _ _ us hent).mono fun x w' hx=>?_⟩
 cases x with
 |returned u=>
  obtain⟨ρ',S',hrs,hheap,hkeep,hown,hsn,hss,hboxes⟩:=hx;rw[yC hren]at hboxes;unfold aXT at hb;simp only at hb;split at hb
  ·simp at hb
  rename_i hlent;simp only[qB,qI,qP]at hb;obtain⟨hp1,h1,res',h2,new,h3,rfl,rfl⟩:=hb;have hl:e.bor=true→tG res=true∧hp'.all vN=true:=fun hbor=>by
   have:¬((tG res&&hp'.all vN)=false):=fun hf=>hlent ⟨hbor,hf⟩
   simpa using this
  have c:Cb w0 W S0 ρ0 nb N ρ S σ a w e ρ' S' hp' w':=⟨h,hs,⟨m,hren⟩,hheap,hkeep,hown,hsn,hss,fun i hi=>hboxes i (by omega),fun hbor=>(hl hbor).2⟩
  have hs1:=c.sim' h1 h3;have idn: ∀k,k<cG e.src+2→ ∀id len,e.src[k]? =some (.lst id 0 len)→xH ρ ρ' σ.hp.length (cG e.src) id=xH ρ ρ' σ.hp.length (cG e.src) (σ.hp.length+(k-cG e.src)):=by
   intro k hk id len hs0;obtain⟨⟨sz,rows,hr0⟩,hwh⟩:=XL h.heap hren hs0;have hlt:=(List.getElem?_eq_some_iff.1 hr0).1;have hkb:cG e.src≤k:=by
    by_cases hh:cG e.src≤k
    ·exact hh
    ·obtain⟨i0,o0,n0,hx⟩:=OH (src:=e.src) (k:=k) (by omega)
     rw[hs0]at hx;simp at hx
   unfold xH;rw[if_pos hlt,if_neg (by omega),show cG e.src+(σ.hp.length+(k-cG e.src)-σ.hp.length)=k by omega,hboxes k hk]
   simp only[rho,hs0];cases hL:ρ id with
   |none=>rfl
   |some L=>
    obtain⟨b,bs,sz0,wh⟩:=L;have:=hwh _ hL;simp only at this;subst this;simp
  refine⟨_,_,?_,AO c.ctx hrs h2 (fun hbor=>(hl hbor).1)⟩
  exact(hs1.stay (fun id len=>idn (cG e.src) (by omega) id len)).stay (fun id len=>idn (cG e.src+1) (by omega) id len)
 |panicked _=>exact hx.elim
 |outgrown=>exact hx.elim
theorem aI5(hR:pF P R)(h:Sim w0 W S0 ρ0 nb N ρ S σ a w){pu:Bool}{f:FuncId}{vs:List (SV×Nat×Bool)}{us:List Value}(hn:us.length=vs.length)
  (hv: ∀(k:Nat)(v:SV×Nat×Bool)(u:Value),vs[k]? =some v→us[k]? =some u→RS ρ w S v.1 u) {r:SV} {hp2:List Blk} (hd:nP R σ.hp pu f vs=some (r,hp2)):
  xR P (QN f)∧Calls P (QN f) us.toArray w fun
   | .returned u,w'=> ∃ρ2 S2,Sim w0 W S0 ρ0 nb N ρ2 S2 ⟨σ.sl,hp2⟩ a w'∧RS ρ2 w' S2 r u
   |_,_=>False:=by
 unfold nP at hd;by_cases hf:f<50000
 ·rw[if_pos hf]at hd;have e:QN f=f:=if_pos hf;rw[e];exact aF1 hR h hf hn hv hd
 ·rw[if_neg hf]at hd;have e:QN f=f-50000:=if_neg hf;rw[e];split at hd
  ·simp at hd
  ·exact aF2 hR h (Nat.not_lt.1 hf) hn hv hd
theorem CV(h:Sim w0 W S0 ρ0 nb N ρ S σ a w){md:Nat→Bool}{ps:List TypeId}: ∀(xs:List Operand)(ts:List TypeId)(k:Nat)(ys:List (Opd×Nat×Bool)),tH P N md ps k xs ts=some ys→ ∀vs,jT σ.ev ys=some vs→
  vs.length=xs.length∧ ∀(i:Nat)(v:SV×Nat×Bool)(u:Value),vs[i]? =some v→(xs.map a.eval)[i]? =some u→RS ρ w S v.1 u:=by
 intro xs
 induction xs with
 |nil=>
  intro ts k ys hys vs hvs;cases ts with
  |nil=>
   simp only[tH,qI]at hys;subst hys;simp only[jT,qI]at hvs;subst hvs;exact⟨rfl,fun i v u hv=>by simp at hv⟩
  |cons=>simp[tH]at hys
 |cons x xs ih=>
  intro ts k ys hys vs hvs;cases ts with
  |nil=>simp[tH]at hys
  |cons t ts=>
   simp only[tH,qB,qI]at hys;obtain⟨y,hy,n,hn,r,hr,rfl⟩:=hys;simp only[jT,qB,qI]at hvs;obtain⟨v,hv,r',hr',rfl⟩:=hvs;obtain⟨h1,h2⟩:=ih ts (k+1) r hr r' hr';refine⟨by simp[h1],fun i v' u hv' hu=>?_⟩
   cases i with
   |zero=>
    simp only[List.getElem?_cons_zero,List.map_cons,qI]at hv' hu;subst hv' hu;exact dY h hy hv
   |succ i=>exact h2 i v' u (by simpa using hv') (by simpa using hu)
def OpDone(P:Program)(w0:World)(W:Nat→Nat→Prop)(S0:Rds)(ρ0:Rho)(nb N:Nat)(σ':St)(o:Oper)(a:Act)(w:World):Prop:=
 ∀(next:Act→World→Prop)(Q:Go.Exit→Act→World→Prop),(∀ρ S a w,Sim w0 W S0 ρ0 nb N ρ S σ' a w→next a w)→o.wp P a w next Q
theorem OpDone.of_does(h:Sim w0 W S0 ρ0 nb N ρ S σ a w){o:Oper}{d:Option Nat}(hd:o.dst=d)(hok:QB N d=true){r:SV}{hp':List Blk}(hdo:lY P w0 W S0 ρ0 nb N σ a w o r hp'):
  OpDone P w0 W S0 ρ0 nb N (setD ⟨σ.sl,hp'⟩ d r) o a w:=by
 intro next Q hn;obtain⟨u,w',ρ',S',hrun,hsim,hrs⟩:=hdo;unfold Oper.wp;rw[hrun,Oper.upon_value,hd];exact hn ρ' S' _ _ (hsim.set hok hrs)
theorem OpDone.of_call(hR:pF P R)(h:Sim w0 W S0 ρ0 nb N ρ S σ a w){o:Oper}{d:Option Nat}(hd:o.dst=d)(hok:QB N d=true){pu:Bool}{f:FuncId}{vs:List (SV×Nat×Bool)}{us:List Value}
  (hexec:execOp a.eval o=callFunc (QN f) us.toArray∨(execOp a.eval o).run P w=(callFunc (QN f) us.toArray).run P w) (hn:us.length=vs.length)
  (hv: ∀(k:Nat)(v:SV×Nat×Bool)(u:Value),vs[k]? =some v→us[k]? =some u→RS ρ w S v.1 u) {r:SV} {hp2:List Blk} (hc:nP R σ.hp pu f vs=some (r,hp2)):
  OpDone P w0 W S0 ρ0 nb N (setD ⟨σ.sl,hp2⟩ d r) o a w:=by
 intro next Q hnx;obtain⟨hb,hcalls⟩:=aI5 hR h hn hv hc;have hrun:(execOp a.eval o).run P w= .ok (.enter (QN f) us.toArray) w:=by
  rcases hexec with e|e
  ·rw[e,XO hb]
  ·rw[e,XO hb]
 unfold Oper.wp;rw[hrun,Oper.upon_enter];refine hcalls.mono fun x w' hx=>?_
 cases x with
 |returned u=>
  obtain⟨ρ2,S2,hsim,hrs⟩:=hx;simp only[hd];exact hnx ρ2 S2 _ _ (hsim.set hok hrs)
 |panicked _=>exact hx.elim
 |outgrown=>exact hx.elim
set_option maxHeartbeats 1000000 in
theorem aF3(hR:pF P R)(h:Sim w0 W S0 ρ0 nb N ρ S σ a w){md:FuncId→Nat→Bool}{dr:Bool}{o:Oper}{c:Call}(ho:o.op= .call c)(hok:QB N o.dst=true){k:K}(hk:QC P N md dr o c=some k){r:SV}{hp':List Blk}
  (hx:k.exec R σ.ev σ.hp=some (r,hp')):OpDone P w0 W S0 ρ0 nb N (setD ⟨σ.sl,hp'⟩ k.dst r) o a w:=by
 unfold QC at hk;split at hk
 ·
  rename_i f hcal;simp only[qB]at hk;obtain⟨xs,hxs,hk⟩:=hk;split at hk
  ·obtain⟨⟨hf5,-⟩,hk1⟩:=bQ hk;obtain rfl:=Option.some.inj hk1;have hfo:QN (if md f 998=true then f+50000 else f)=f:=by
    by_cases hm:md f 998=true
    ·rw[if_pos hm];unfold QN;rw[if_neg (Nat.not_lt.2 (Nat.le_add_left 50000 f))];exact Nat.add_sub_cancel (n:=f) (m:=50000)
    ·rw[if_neg hm];unfold QN;rw[if_pos hf5]
   simp only[K.exec,qB]at hx;obtain⟨vs,hvs,hx⟩:=hx;obtain⟨h1,h2⟩:=CV h _ _ 0 xs hxs vs hvs;refine OpDone.of_call hR h rfl hok (us:=c.args.toList.map a.eval) (.inl ?_) (by simp[h1]) h2 hx
   have:(c.args.toList.map a.eval).toArray=c.args.map a.eval:=by apply Array.toList_inj.1;simp
   rw[this,hfo];simp only[execOp,ho,resolve,hcal];show callFunc f ((#[]++c.args.map a.eval)++ #[])=_
   simp
  ·simp at hk
 ·
  rename_i n hcal;obtain⟨hn,hk1⟩:=bQ hk;simp only[qB,qI]at hk1;obtain⟨xs,hxs,rfl⟩:=hk1;simp only[K.exec,qB]at hx;obtain⟨g,hg,hx⟩:=hx;split at hx
  ·rename_i f caps;simp only[qB]at hx;obtain⟨vs,hvs,hx⟩:=hx;unfold sS at hx;obtain⟨hf5,hx0⟩:=bQ hx;have hx:nP R σ.hp false f (vs++caps.map fun c=>(.one c,0,false))=some (r,hp'):=by unfold nP;rw[if_pos hf5];exact hx0
   have hfo:QN f=f:=if_pos hf5;obtain⟨h1,h2⟩:=CV h _ _ 0 xs hxs vs hvs;have hrs:=nT h hg;generalize hfv:a.eval (.tmp n)=fv at hrs;cases hrs with
   |one hrs=>
   cases hrs with
   |ri hrs=>cases hrs
   |clo hcn hch=>
   rename_i cv;refine OpDone.of_call hR h rfl hok (us:=c.args.toList.map a.eval++cv.toList) (.inr ?_) (by simp[h1,hcn]) (fun k v u hv hu=>?_) hx
   ·have:(c.args.toList.map a.eval++cv.toList).toArray=c.args.map a.eval++cv:=by apply Array.toList_inj.1;simp
    rw[this,hfo];simp only[execOp,ho,resolve,hcal,hfv,Deferred.ofValue,Sem.run_bind,Sem.run_pure,Result.andThen_ok,invoke];simp
   ·by_cases hlt:k<vs.length
    ·rw[List.getElem?_append_left hlt]at hv;rw[List.getElem?_append_left (by rw[List.length_map];omega)]at hu
     exact h2 k v u hv hu
    ·rw[List.getElem?_append_right (by omega)]at hv
     rw[List.getElem?_append_right (by rw[List.length_map];omega)]at hu
     simp only[List.getElem?_map,Option.map_eq_some_iff]at hv;obtain⟨t,ht,rfl⟩:=hv;obtain⟨id,row,off,L,rfl,hL,hval⟩:=hch _ t ht;simp only[List.length_map]at hu;rw[show k-c.args.toList.length=k-vs.length by omega]at hu
     have:cv.getD (k-vs.length) undef=u:=by
      rw[Array.getD_eq_getD_getElem?];simp only[Array.getElem?_toList]at hu;rw[hu];rfl
     rw[this]at hval;rw[hval];exact .one (.ptr hL)
  ·simp at hx
 ·
  rename_i hcal;split at hk
  ·rename_i x t d hargs htys hdst;rw[hdst]at hok;split at hk
   ·rename_i hu;simp only[qB,qI]at hk;obtain⟨y,hy,rfl⟩:=hk;simp only[K.exec,qB]at hx;obtain⟨v,hv,s,hs,hx⟩:=hx;split at hx
    ·simp only[qI,qP]at hx;obtain⟨rfl,rfl⟩:=hx;exact OpDone.of_does h hdst hok (aXU h ho hcal hargs htys hu (qE (dY h hy hv) hs).1)
    ·simp at hx
   ·rename_i e hu;simp only[qB,qI]at hk;obtain⟨y,hy,rfl⟩:=hk;simp only[K.exec,qB,qI,qP]at hx;obtain⟨v,hv,tx,htx,rows,hrows,rfl,rfl⟩:=hx;exact OpDone.of_does h hdst hok (a1Q h ho hcal hargs htys hu (fT (dY h hy hv) htx) hrows)
   ·simp at hk
  ·simp at hk
 ·
  rename_i hcal;split at hk
  ·rename_i x y t u d hargs htys hdst;rw[hdst]at hok;obtain⟨rfl,hk1⟩:=bQ hk;simp only[qB]at hk1;obtain⟨el,hel,i,hi,z,hz,x',hx',y',hy',hk2⟩:=hk1;obtain⟨hpos,hk3⟩:=bQ hk2;obtain rfl:=Option.some.inj hk3;simp only[K.exec,qB]at hx;obtain⟨v,hv,tx,htx,v',hv',ty,hty,xs,hxs,ys,hys,hx⟩:=hx;obtain⟨⟨g1,g2,g3,g4,g5⟩,hx1⟩:=bQ hx;simp only[qI,qP]at hx1;obtain⟨rfl,rfl⟩:=hx1;exact OpDone.of_does h hdst hok (a1U h ho hcal hargs htys (k_sound.elem_und hel) hi hz hpos (fT (dY h hx' hv) htx) (fT (dY h hy' hv') hty) hxs hys g1 g2 g3 g4 g5)
  ·simp at hk
 ·
  rename_i hcal;split at hk
  ·rename_i x y t u d hargs htys hdst;rw[hdst]at hok;obtain⟨rfl,hk1⟩:=bQ hk;simp only[qB]at hk1;obtain⟨el,hel,n,hn,x',hx',y',hy',hk2⟩:=hk1;obtain⟨hpos,hk3⟩:=bQ hk2;obtain rfl:=Option.some.inj hk3;simp only[K.exec,qB]at hx;obtain⟨v,hv,tx,htx,v',hv',ty,hty,xs,hxs,ys,hys,hx⟩:=hx;split at hx
   ·rename_i id off len;split at hx
    ·rename_i n' rows hb;obtain⟨⟨rfl,g2⟩,hx1⟩:=bQ hx;simp only[qI,qP]at hx1;obtain⟨rfl,rfl⟩:=hx1;obtain⟨i,hi,hin⟩: ∃i,P.info? el=some i∧i.size=n':=by simpa [oZ]using hn
     subst hin;exact OpDone.of_does h hdst hok (a1V h ho hcal hargs htys (k_sound.elem_und hel) hi hpos (fT (dY h hx' hv) htx) (fT (dY h hy' hv') hty) hxs hys hb g2)
    ·simp at hx
   ·simp at hx
  ·simp at hk
 ·
  rename_i hcal;split at hk
  ·rename_i x t hargs htys hdst;rw[hdst]at hok;simp only[qB]at hk;obtain⟨el,hel,i,hi,z,hz,x',hx',hk2⟩:=hk;obtain⟨hpos,hk3⟩:=bQ hk2;obtain rfl:=Option.some.inj hk3;simp only[K.exec,qB]at hx;obtain⟨v,hv,tx,htx,hx⟩:=hx;split at hx
   ·rename_i id off len;split at hx
    ·rename_i n' rows hb;obtain⟨⟨rfl,g2⟩,hx1⟩:=bQ hx;simp only[qI,qP]at hx1;obtain⟨rfl,rfl⟩:=hx1;exact OpDone.of_does h hdst hok (a11 h ho hcal hargs htys (k_sound.elem_und hel) hi hz hpos (fT (dY h hx' hv) htx) hb g2)
    ·simp at hx
   ·simp at hx
  ·simp at hk
 ·
  rename_i hcal;split at hk
  ·rename_i x y d hargs hdst;rw[hdst]at hok;simp only[qB,qI]at hk;obtain⟨x',hx',y',hy',rfl⟩:=hk;simp only[K.exec,qB]at hx;obtain⟨v,hv,m,hm,v',hv',n,hn,hx⟩:=hx;obtain⟨g,hx1⟩:=bQ hx;simp only[qI,qP]at hx1;obtain⟨rfl,rfl⟩:=hx1;exact OpDone.of_does h hdst hok (aQB h (isMax:=false) ho hcal hargs (iG (oI h hx' hv) hm) (by rw[g];exact iG (oI h hy' hv') hn))
  ·simp at hk
 ·rename_i hcal;split at hk
  ·rename_i x y d hargs hdst;rw[hdst]at hok;simp only[qB,qI]at hk;obtain⟨x',hx',y',hy',rfl⟩:=hk;simp only[K.exec,qB]at hx;obtain⟨v,hv,m,hm,v',hv',n,hn,hx⟩:=hx;obtain⟨g,hx1⟩:=bQ hx;simp only[qI,qP]at hx1;obtain⟨rfl,rfl⟩:=hx1;exact OpDone.of_does h hdst hok (aQB h (isMax:=true) ho hcal hargs (iG (oI h hx' hv) hm) (by rw[g];exact iG (oI h hy' hv') hn))
  ·simp at hk
 ·simp at hk
end
end Go.Zq

namespace Go.Zq
open Option renaming bind_eq_some_iff → qB
open Option.some renaming injEq → qI
open Option.some renaming inj → qi
open Go
section
variable{P:Program}{w0:World}{W:Nat→Nat→Prop}{S0:Rds}{ρ0:Rho}{nb N:Nat}{ρ:Rho}{S:Rds}{σ:St}{a:Act}{w:World}{R:Rt}
theorem aF4(hR:pF P R)(h:Sim w0 W S0 ρ0 nb N ρ S σ a w){md:FuncId→Nat→Bool}{dr:Bool}{ops:Array Oper}{o:Oper}{g:G}(hg:GN P N md dr ops o=some g){σ':St}(hx:g.2.run R σ=some σ'):
  OpDone P w0 W S0 ρ0 nb N σ' o a w:=by
 unfold GN at hg;obtain⟨hok,hg1⟩:=bQ hg;simp only[qB]at hg1;obtain⟨gd,-,k,hk,hg2⟩:=hg1;obtain⟨hdst,hg3⟩:=bQ hg2;obtain rfl:=qi hg3;unfold K.run at hx;simp only[qB,qI]at hx;obtain⟨⟨r,hp'⟩,hex,rfl⟩:=hx;split at hk
 ·rename_i t x y ho hd;simp only[qB,qI]at hk;obtain⟨n,hn,x',hx',y',hy',rfl⟩:=hk;simp only[K.exec,qB,qI,Prod.mk.injEq]at hex;obtain⟨v,hv,tx,htx,u,hu,cs,hcs,hp2,hst,rfl,rfl⟩:=hex;have hxs:RS ρ w S v (a.eval x):=by
   split at hx'
   ·obtain⟨-,hx1⟩:=bQ hx';obtain rfl:=qi hx1;exact nT h hv
   ·simp at hx'
  obtain⟨w',hrun,hsim⟩:=a1K (P:=P) h ho hn (fT hxs htx) (dY h hy' hu) hcs hst;intro next Q hnx;unfold Oper.wp;rw[hrun,Oper.upon_skip,hd];exact hnx ρ S _ _ hsim
 ·rename_i c ho;exact aF3 hR h ho hok hk hex
 ·rename_i d hd _;obtain⟨h1,h2⟩:=k_sound R h hk hex;simp only[h1];exact OpDone.of_does h hd (by rw[hd]at hok;exact hok) h2
 ·simp at hk
theorem a13{md:FuncId→Nat→Bool}{dr:Bool}{ops:Array Oper}{o:Oper}{g:G}(hg:GN P N md dr ops o=some g):QB N o.dst=true∧g.2.dst=o.dst∧
  match g.1 with
  |none=>o.guard=none
  |some (s,want)=> ∃j,o.guard=some (j,want)∧((ops[j]?).bind (·.dst))=some s:=by
 unfold GN at hg;obtain⟨hok,hg1⟩:=bQ hg;simp only[qB]at hg1;obtain⟨gd,hgd,k,hk,hg2⟩:=hg1;obtain⟨hdst,hg3⟩:=bQ hg2;obtain rfl:=qi hg3;refine⟨hok,hdst,?_⟩;split at hgd
 ·rename_i hgn;simp only[qI]at hgd;subst hgd;exact hgn
 ·rename_i j want hgj;simp only[qB,qI]at hgd;obtain⟨s,hs,rfl⟩:=hgd;exact⟨j,hgj,by simpa [qB]using hs⟩
theorem PO(hR:pF P R)(h:Sim w0 W S0 ρ0 nb N ρ S σ a w){md:FuncId→Nat→Bool}{dr:Bool}{ops:Array Oper}{o:Oper}{g:G}(hg:GN P N md dr ops o=some g){σ':St}(hx:kG R σ g=some σ')
  {next:Act→World→Prop} {Q:Go.Exit→Act→World→Prop} (hn: ∀ρ S a w,Sim w0 W S0 ρ0 nb N ρ S σ' a w→next a w):
  if Region.wanted o (yielded ops a.tmps)then o.wp P a w next Q∨(o.asks P a w∧LetsOut Q)else next (a.put o.dst undef) w:=by
 obtain⟨hok,hdst,hgd⟩:=a13 hg;have skip: ∀σ',σ'=setD σ g.2.dst .und→Sim w0 W S0 ρ0 nb N ρ S σ' (a.put o.dst undef) w:=fun σ' e=>by
  rw[e,hdst];exact h.set hok .und
 unfold kG at hx;split at hx
 ·rename_i hg1;rw[hg1]at hgd;simp only at hgd;rw[if_pos (by simp[Region.wanted,hgd])]
  exact .inl (aF4 hR h hg hx next Q hn)
 ·rename_i s want hg1;rw[hg1]at hgd;obtain⟨j,hgj,hs⟩:=hgd;have hy: ∀v,bH s σ.sl=some v→a.tmps[s]? =some (a.tmps.getD s undef)∧RS ρ w S v (a.tmps.getD s undef):=fun v hv=>by
   obtain⟨h1,h2⟩:=h.slots s v hv;refine⟨?_,h2⟩;have:s<a.tmps.size:=by rw[h.size];exact h1
   simp[Array.getD_eq_getD_getElem?,this]
  split at hx
  ·rename_i x hl;obtain⟨h1,h2⟩:=hy _ hl;have h3:a.tmps.getD s undef= .bool x:=lF h2 rfl;have hyd:yielded ops a.tmps j=some x:=by
    simp only[yielded,hs,Option.bind_some,h1,h3]
   split at hx
   ·rename_i e;subst e;rw[if_pos (by simp[Region.wanted,hgj,hyd])]
    exact .inl (aF4 hR h hg hx next Q hn)
   ·rename_i e;rw[if_neg (by simp[Region.wanted,hgj,hyd,e])]
    exact hn _ _ _ _ (skip σ' (qi hx).symm)
  ·rename_i hl;obtain⟨h1,h2⟩:=hy _ hl;have h3:a.tmps.getD s undef=undef:=by
    generalize a.tmps.getD s undef=u at h2;cases h2;rfl
   have hyd:yielded ops a.tmps j=none:=by
    simp only[yielded,hs,Option.bind_some,h1,h3];rfl
   rw[if_neg (by simp[Region.wanted,hgj,hyd])]
   exact hn _ _ _ _ (skip σ' (qi hx).symm)
  ·simp at hx
theorem aXY(hR:pF P R){md:FuncId→Nat→Bool}{dr:Bool}{ops:Array Oper}{Q:Go.Exit→Act→World→Prop}: ∀(l:List Nat)(gs:List G),vT P N md dr ops l=some gs→ ∀(ρ:Rho)(S:Rds)(σ σ':St)(a:Act)(w:World),
  Sim w0 W S0 ρ0 nb N ρ S σ a w→dU R gs σ=some σ'→(∀ρ S a w,Sim w0 W S0 ρ0 nb N ρ S σ' a w→Q .normal a w)→wpOps P ops Q l a w:=by
 intro l
 induction l with
 |nil=>
  intro gs hgs ρ S σ σ' a w h hx hq;simp only[vT,qI]at hgs;subst hgs;simp only[dU,qI]at hx;subst hx;exact hq _ _ _ _ h
 |cons j l ih=>
  intro gs hgs ρ S σ σ' a w h hx hq;simp only[vT,qB,qI]at hgs;obtain⟨o,ho,g,hg,gs',hgs',rfl⟩:=hgs;simp only[dU,qB]at hx;obtain⟨σ1,h1,h2⟩:=hx;simp only[wpOps,ho];exact PO hR h hg h1 fun ρ1 S1 a1 w1 hs=>ih gs' hgs' ρ1 S1 σ1 σ' a1 w1 hs h2 hq
def Post(w0:World)(W:Nat→Nat→Prop)(S0:Rds)(ρ0:Rho)(nb N:Nat)(out:Out):Go.Exit→Act→World→Prop
 | .normal,a,w=> ∃σ ρ S,out= .nor σ∧Sim w0 W S0 ρ0 nb N ρ S σ a w
 | .exit id,a,w=> ∃σ ρ S,out= .brk id σ∧Sim w0 W S0 ρ0 nb N ρ S σ a w
 | .ret,a,w=> ∃σ ρ S,out= .ret σ∧Sim w0 W S0 ρ0 nb N ρ S σ a w
 |_,_,_=>False
def HI(P:Program)(drawOk:Array Oper→List Nat→List G→Bool):Prop:=
 ∀(N:Nat)(md:FuncId→Nat→Bool)(ops:Array Oper)(pm:List Nat)(l:List G),vT P N md true ops pm=some l→drawOk ops pm l=true→ ∀(R:Rt),pF P R→
  ∀(w0:World)(W:Nat→Nat→Prop)(S0:Rds)(ρ0:Rho)(nb:Nat)(ρ:Rho)(S:Rds)(σ σ':St)(a:Act)(w:World),Sim w0 W S0 ρ0 nb N ρ S σ a w→dU R l σ=some σ'→
   ∀t(Q:Go.Exit→Act→World→Prop),(∀ρ S a w,Sim w0 W S0 ρ0 nb N ρ S σ' a w→Q .normal a w)→wpOps P ops Q (Region.schedule (P.follows .mixedOrders) ops t) a {w with drawn:=w.drawn+1}
def QQ(P:Program):Prop:=
 ∀(N:Nat)(md:FuncId→Nat→Bool)(ops:Array Oper)(pm:List Nat)(l:List G),vT P N md true ops pm=some l→a1F ops pm=true→ ∀(R:Rt),pF P R→
  ∀(w0:World)(W:Nat→Nat→Prop)(S0:Rds)(ρ0:Rho)(nb:Nat)(ρ:Rho)(S:Rds)(σ c:St)(a:Act)(w:World),Sim w0 W S0 ρ0 nb N ρ S σ a w→ ∀(kp:List Nat)(cn:Bool),oY R nb kp cn (nS ops (ops.size+1) (pm.zip l)) σ=some c→
   ∀t(Q:Go.Exit→Act→World→Prop),(∀ρ S a w,Sim w0 W S0 ρ0 nb N ρ S c a w→Q .normal a w)→wpOps P ops Q (Region.schedule (P.follows .mixedOrders) ops t) a {w with drawn:=w.drawn+1}
structure DrawSound(P:Program)(drawOk:Array Oper→List Nat→List G→Bool):Prop where
 one:HI P drawOk
 all:QQ P
theorem CW{sl:List (Nat×SV)}: ∀(l:List Nat)(n:Nat)(v:SV),bH n (keep sl l)=some v→bH n sl=some v
 |[],n,v,h=>by simp[keep,bH]at h
 |m::r,n,v,h=>by
  simp only[keep]at h;split at h
  ·rename_i x hx;rw[tI]at h;split at h
   ·rename_i e;subst e;rw[←h];exact hx
   ·exact CW r n v h
  ·exact CW r n v h
theorem Sim.trim(h:Sim w0 W S0 ρ0 nb N ρ S σ a w)(kp:Option (List Nat)):Sim w0 W S0 ρ0 nb N ρ S (trim kp σ) a w:=by
 cases kp with
 |none=>exact h
 |some l=>exact{h with slots:=fun n v hv=>h.slots n v (CW l n v hv),heap:=h.heap,own:=h.own,nbl:=h.nbl}
theorem JZ(hR:pF P R){drawOk:Array Oper→List Nat→List G→Bool}(hdr:DrawSound P drawOk){h:Hint}{n:Nat}: ∀(code:Code)(c:C),pE P N h drawOk code=some c→ ∀(ρ:Rho)(S:Rds)(σ:St)(a:Act)(w:World)(out:Out),
  Sim w0 W S0 ρ0 nb N ρ S σ a w→eY R nb n c σ=some out→code.wp P (Post w0 W S0 ρ0 nb N out) a w:=by
 intro code
 induction code with
 |skip=>
  intro c hc ρ S σ a w out hs he;simp only[pE,qI]at hc;subst hc;simp only[eY,qI]at he;subst he;exact wp_skip ⟨σ,ρ,S,rfl,hs⟩
 |label l=>
  intro c hc ρ S σ a w out hs he;simp only[pE,qI]at hc;subst hc;simp only[eY,qI]at he;subst he;exact wp_label ⟨σ,ρ,S,rfl,hs⟩
 |region id ops draw=>
  intro c hc ρ S σ a w out hs he;simp only[pE]at hc;split at hc
  ·rename_i hd;subst hd;simp only[qB]at hc;obtain⟨l,hl,hc⟩:=hc;split at hc
   case isFalse=>
    simp only[qB]at hc;obtain⟨kp,-,hc⟩:=hc;obtain⟨hok,hc1⟩:=bQ hc;obtain rfl:=qi hc1;simp only[eY,qB,qI]at he;obtain⟨c,hr,rfl⟩:=he;exact wp_region_draw fun t=>hdr.all N h.md ops _ l hl hok R hR w0 W S0 ρ0 nb ρ S σ c a w hs _ _ hr t _ (fun ρ S a w hs=>⟨_,ρ,S,rfl,hs⟩)
   rename_i hok;obtain rfl:=qi hc;simp only[eY,qB,qI]at he;obtain⟨σ',hr,rfl⟩:=he;exact wp_region_draw fun t=>hdr.one N h.md ops _ l hl hok R hR w0 W S0 ρ0 nb ρ S σ σ' a w hs hr t _ (fun ρ S a w hs=>⟨_,ρ,S,rfl,hs.trim _⟩)
  ·rename_i hd;have hd':draw=false:=by simpa using hd
   subst hd';simp only[qB,qI]at hc;obtain⟨l,hl,rfl⟩:=hc;simp only[eY,qB,qI]at he;obtain⟨σ',hr,rfl⟩:=he;exact wp_region (aXY hR _ l hl ρ S σ σ' a w hs hr (fun ρ S a w hs=>⟨_,ρ,S,rfl,hs.trim _⟩))
 |seq x y ihx ihy=>
  intro c hc ρ S σ a w out hs he;simp only[pE,qB,qI]at hc;obtain⟨x',hx',y',hy',rfl⟩:=hc;simp only[eY,qB]at he;obtain⟨o1,h1,h2⟩:=he;refine wp_seq (wp_mono (ihx x' hx' ρ S σ a w o1 hs h1) fun e a1 w1 hp=>?_)
  cases e with
  |normal=>
   obtain⟨σ1,ρ1,S1,rfl,hs1⟩:=hp;exact ihy y' hy' ρ1 S1 σ1 a1 w1 out hs1 h2
  |exit id=>
   obtain⟨σ1,ρ1,S1,rfl,hs1⟩:=hp;exact⟨σ1,ρ1,S1,(qi h2).symm,hs1⟩
  |ret=>
   obtain⟨σ1,ρ1,S1,rfl,hs1⟩:=hp;exact⟨σ1,ρ1,S1,(qi h2).symm,hs1⟩
  |goto l=>exact hp.elim
  |panic ch=>exact hp.elim
  |outgrown=>exact hp.elim
 |cond c x y ihx ihy=>
  intro c' hc ρ S σ a w out hs he;simp only[pE,qB,qI]at hc;obtain⟨cc,hcc,x',hx',y',hy',rfl⟩:=hc;simp only[eY,qB]at he;obtain⟨v,hv,b,hb,he⟩:=he;have hrs:RS ρ w S v (a.eval c):=by
   split at hcc
   ·obtain⟨-,hx1⟩:=bQ hcc;obtain rfl:=qi hx1;exact nT hs hv
   ·obtain rfl:=qi hcc;obtain rfl:=by simpa [St.ev]using hv
    exact .one (.ri (.lit rfl))
   ·simp at hcc
  have hbv:=lF hrs hb;refine wp_cond hbv ?_;cases b
  ·exact ihy y' hy' ρ S σ a w out hs (by simpa using he)
  ·exact ihx x' hx' ρ S σ a w out hs (by simpa using he)
 |block id x ih=>
  intro c hc ρ S σ a w out hs he;simp only[pE,qB,qI]at hc;obtain⟨x',hx',rfl⟩:=hc;simp only[eY,qB]at he;obtain⟨o1,h1,h2⟩:=he;refine wp_block (wp_mono (ih x' hx' ρ S σ a w o1 hs h1) fun e a1 w1 hp=>?_)
  cases e with
  |normal=>
   obtain⟨σ1,ρ1,S1,rfl,hs1⟩:=hp;exact⟨σ1,ρ1,S1,(qi h2).symm,hs1⟩
  |exit j=>
   obtain⟨σ1,ρ1,S1,rfl,hs1⟩:=hp;simp only[Go.Exit.inBlock];simp only at h2;split at h2
   ·rename_i e;rw[if_pos e];exact⟨σ1,ρ1,S1,(qi h2).symm,hs1⟩
   ·rename_i e;rw[if_neg e];exact⟨σ1,ρ1,S1,(qi h2).symm,hs1⟩
  |ret=>
   obtain⟨σ1,ρ1,S1,rfl,hs1⟩:=hp;exact⟨σ1,ρ1,S1,(qi h2).symm,hs1⟩
  |goto l=>exact hp.elim
  |panic ch=>exact hp.elim
  |outgrown=>exact hp.elim
 |loop x ih=>
  intro c hc ρ S σ a w out hs he;simp only[pE,qB,qI]at hc;obtain⟨x',hx',rfl⟩:=hc;simp only[eY]at he;have key: ∀(k:Nat)(ρ:Rho)(S:Rds)(σ:St)(a:Act)(w:World),Sim w0 W S0 ρ0 nb N ρ S σ a w→AL nb (h.lv (HE x)) (eY R nb n x') k σ=some out→Code.rounds P x (Post w0 W S0 ρ0 nb N out) k a w:=by
   intro k
   induction k with
   |zero=>intro ρ S σ a w _ hi;simp[AL]at hi
   |succ k ihk=>
    intro ρ S σ a w hs hi;simp only[AL,qB]at hi;obtain⟨σ1,hcn,o1,h1,h2⟩:=hi;obtain⟨ρ1,hs1⟩:=hs.canon hcn;rw[rounds_succ];refine wp_mono (ih x' hx' ρ1 S σ1 a w o1 hs1 h1) fun e a1 w1 hp=>?_
    cases e with
    |normal=>
     obtain⟨σ2,ρ2,S2,rfl,hs2⟩:=hp;exact ihk ρ2 S2 σ2 a1 w1 hs2 h2
    |exit j=>
     obtain⟨σ2,ρ2,S2,rfl,hs2⟩:=hp;exact⟨σ2,ρ2,S2,(qi h2).symm,hs2⟩
    |ret=>
     obtain⟨σ2,ρ2,S2,rfl,hs2⟩:=hp;exact⟨σ2,ρ2,S2,(qi h2).symm,hs2⟩
    |goto l=>exact hp.elim
    |panic ch=>exact hp.elim
    |outgrown=>exact hp.elim
  exact wp_loop_rounds n (key n ρ S σ a w hs he)
 |exit id=>
  intro c hc ρ S σ a w out hs he;simp only[pE,qI]at hc;subst hc;simp only[eY,qI]at he;subst he;exact wp_exit ⟨σ,ρ,S,rfl,hs⟩
 |ret=>
  intro c hc ρ S σ a w out hs he;simp only[pE,qI]at hc;subst hc;simp only[eY,qI]at he;subst he;exact wp_ret ⟨σ,ρ,S,rfl,hs⟩
 |_=>intro c hc;simp[pE]at hc
end
end Go.Zq

namespace Go.Zq
open Option renaming bind_eq_some_iff → qB
open Go
section
variable{P:Program}{w0:World}{W:Nat→Nat→Prop}{S0:Rds}{ρ0:Rho}{nb N:Nat}{ρ:Rho}{S:Rds}{σ:St}{a:Act}{w:World}{R:Rt}
def HJ(tmps:Array Value):ResultVar→Sem Value
 | .tmp t=>pure (tmps.getD t undef)
 | .cell x t=>do loadVar t (←asAddr (tmps.getD x undef))
theorem HK(fn:Func)(tmps:Array Value):results fn tmps=(do
  let vs←fn.results.mapM (HJ tmps)
  pure (if h:vs.size=1 then vs[0]else .tuple vs)):=by
 have:(fun(x:ResultVar)=>(match x with
  | .tmp t=>pure (tmps.getD t undef)
  | .cell a t=>do loadVar t (←asAddr (tmps.getD a undef)):Sem Value))=HJ tmps:=by
  funext x
  cases x<;>rfl
 rw[←this];rfl
theorem HL(h:Sim w0 W S0 ρ0 nb N ρ S σ a w): ∀(rs:List ResultVar)(rv:List Rv),JP P N rs=some rv→ ∀vs,eO σ rv=some vs→ ∃us:List Value,
  (rs.mapM (HJ a.tmps)).run P w= .ok us w∧us.length=vs.length∧ ∀(k:Nat)(v:SV)(u:Value),vs[k]? =some v→us[k]? =some u→RS ρ w S v u:=by
 intro rs
 induction rs with
 |nil=>
  intro rv hrv vs hvs;simp only[JP,Option.some.injEq]at hrv;subst hrv;simp only[eO,Option.some.injEq]at hvs;subst hvs;exact⟨[],by simp,rfl,fun k v u hv=>by simp at hv⟩
 |cons r rs ih=>
  intro rv hrv vs hvs;have cons: ∀(x:Rv)(v:SV)(u:Value)(rv':List Rv)(vs':List SV),RS ρ w S v u→JP P N rs=some rv'→eO σ rv'=some vs'→vs=v::vs'→
    (HJ a.tmps r).run P w= .ok u w→ ∃us:List Value,
    ((r::rs).mapM (HJ a.tmps)).run P w= .ok us w∧us.length=vs.length∧ ∀(k:Nat)(v:SV)(u:Value),vs[k]? =some v→us[k]? =some u→RS ρ w S v u:=by
   intro x v u rv' vs' hru h1 h2 e hrun;subst e;obtain⟨us,k1,k2,k3⟩:=ih rv' h1 vs' h2;refine⟨u::us,?_,by simp[k2],fun k v' u' hv' hu'=>?_⟩
   ·rw[List.mapM_cons];simp only[Sem.run_bind,hrun,Result.andThen_ok,k1,Sem.run_pure]
   ·cases k with
    |zero=>
     simp only[List.getElem?_cons_zero,Option.some.injEq]at hv' hu';subst hv' hu';exact hru
    |succ k=>exact k3 k v' u' (by simpa using hv') (by simpa using hu')
  cases r with
  |tmp t=>
   simp only[JP]at hrv;obtain⟨ht,hrv1⟩:=bQ hrv;simp only[qB,Option.some.injEq]at hrv1;obtain⟨rv',h1,rfl⟩:=hrv1;simp only[eO,qB,Option.some.injEq]at hvs;obtain⟨v,hv,vs',h2,rfl⟩:=hvs;exact cons (.tmp t) v _ rv' vs' (h.slots t v hv).2 h1 h2 rfl (by simp[HJ])
  |cell x t=>
   simp only[JP]at hrv;obtain⟨ht,hrv1⟩:=bQ hrv;simp only[qB,Option.some.injEq]at hrv1;obtain⟨k,hk,rv',h1,rfl⟩:=hrv1;simp only[eO,qB,Option.some.injEq]at hvs;obtain⟨v,hv,tx,htx,cs,hcs,s,hs,vs',h2,rfl⟩:=hvs;obtain⟨b,o,hval,hcells⟩:=GL (fT (h.slots x v hv).2 htx) h.heap hcs;obtain⟨u,hu,hru⟩:=OD (P:=P) hk hs hcells;refine cons (.cell x k) s u rv' vs' hru h1 h2 rfl ?_;simp only[HJ,Sem.run_bind,hval];simpa [asAddr]using hu
theorem AP: ∀(args:List SV)(k n:Nat)(v:SV),bH n (qW k args)=some v→k≤n∧args[n-k]? =some v
 |[],k,n,v,h=>by simp[qW,bH]at h
 |x::r,k,n,v,h=>by
  simp only[qW,bH]at h;split at h
  ·rename_i e;subst e;exact⟨Nat.le_refl _,by simpa using h⟩
  ·obtain⟨h1,h2⟩:=AP r (k+1) n v h;exact⟨by omega,by rw[show n-k=(n-(k+1))+1 by omega,List.getElem?_cons_succ];exact h2⟩
theorem QR: ∀(hp:List Blk),cW hp≤hp.length
 |[]=>Nat.le_refl _
 | .box _::r=>by simp only[cW,List.length_cons];have:=QR r;omega
 | .dead::r=>by simp[cW]
 | .lst _ _::r=>by simp[cW]
theorem Entry.sim{args:List SV}{hp:List Blk}{us:List Value}(h:Entry P w ρ S args hp us)(hn:args.length≤N):
  Sim w (wOf hp ρ) S ρ (cW hp) N ρ S ⟨qW 0 args,hp⟩ {tmps:=us.toArray++Array.replicate (N-us.toArray.size) undef,defers:=[]} w:=by
 obtain⟨h1,h2,h3⟩:=h;refine⟨fun n v hv=>?_,?_,rfl,h1,Keep.refl _ _,fun i L b o hi hL hb=> .inl ⟨i,L,hi,hL,hb⟩,fun _ _ h=> .inl h,fun _ _ h=>h,fun _ _=>rfl,QR hp⟩
 ·obtain⟨-,hk⟩:=AP args 0 n v hv;simp only[Nat.sub_zero]at hk;have hlt:=(List.getElem?_eq_some_iff.1 hk).1;refine⟨by omega,?_⟩
  have hu:us[n]? =some us[n]:=List.getElem?_eq_getElem (by omega)
  have:=h3 n v us[n] hk hu;have hlt':n<us.length:=by omega
  simpa [Array.getD_eq_getD_getElem?,Array.getElem?_append,hlt']using this
 ·simp;omega
theorem Entry.simK{args:List SV}{hp:List Blk}{us:List Value}(h:Entry P w ρ S args hp us)(hn:args.length≤N)(h2:cW hp+2≤hp.length):
  Sim w (wOf hp ρ) S ρ (cW hp+2) N ρ S ⟨qW 0 args,hp⟩ {tmps:=us.toArray++Array.replicate (N-us.toArray.size) undef,defers:=[]} w:=by
 obtain⟨h1,h2',h3⟩:=h;refine⟨fun n v hv=>?_,?_,rfl,h1,Keep.refl _ _,fun i L b o hi hL hb=> .inl ⟨i,L,hi,hL,hb⟩,fun _ _ h=> .inl h,fun _ _ h=>h,fun _ _=>rfl,h2⟩
 ·obtain⟨-,hk⟩:=AP args 0 n v hv;simp only[Nat.sub_zero]at hk;have hlt:=(List.getElem?_eq_some_iff.1 hk).1;refine⟨by omega,?_⟩
  have hu:us[n]? =some us[n]:=List.getElem?_eq_getElem (by omega)
  have:=h3 n v us[n] hk hu;have hlt':n<us.length:=by omega
  simpa [Array.getD_eq_getD_getElem?,Array.getElem?_append,hlt']using this
 ·simp;omega
theorem a14(hR:pF P R){drawOk:Array Oper→List Nat→List G→Bool}(hdr:DrawSound P drawOk){h:Hint}{n np:Nat}{f:FuncId}{fn:Func}{cf:Fn}(hf:P.funcs[f]? =some fn)
  (hc:QD P h drawOk fn np=some cf) {args:List SV} {hp:List Blk} {res:SV} {hp':List Blk} (hr:cf.run R n args hp=some (res,hp')):TC P f args hp res hp':=by
 intro w ρ S us hent;unfold QD at hc;simp only[qB]at hc;obtain⟨code,hcode,c,hc1,rs,hrs,hc2⟩:=hc;obtain⟨hnp,hc3⟩:=bQ hc2;obtain rfl:=Option.some.inj hc3;unfold Fn.run at hr;obtain⟨hlen,hr1⟩:=bQ hr;simp only[qB]at hr1;obtain⟨out,hev,hout⟩:=hr1;simp only at hlen;have hsim:=hent.sim (N:=fn.ntmps) (by omega)
 have hwp:=JZ hR hdr code c hc1 ρ S _ _ w out hsim hev;have fin: ∀(σ:St)(ρ1:Rho)(S1:Rds)(a1:Act)(w1:World),Sim w (wOf hp ρ) S ρ (cW hp) fn.ntmps ρ1 S1 σ a1 w1→(eO σ rs).bind (fun vs=>leave (cW hp) σ vs)=some (res,hp')→
   a1.defers=[]∧ ∃v,(results fn a1.tmps).run P w1= .ok v w1∧Exit w (wOf hp ρ) S ρ (cW hp) res hp' v w1:=by
  intro σ ρ1 S1 a1 w1 hs hl;simp only[qB]at hl;obtain⟨vs,hvs,hl⟩:=hl;obtain⟨us1,k1,k2,k3⟩:=HL (P:=P) hs fn.results.toList rs hrs vs hvs;refine⟨hs.defers,_,?_,hs.leave k2 k3 hl⟩;rw[HK];simp only[Array.mapM_eq_mapM_toList,Sem.run_bind,Sem.run_map,k1]
  match us1 with
  |[]=>rfl
  |[u]=>rfl
  |x::y::r=>rfl
 refine calls_of_wp hf hcode (wp_mono hwp fun e a1 w1 hp1=>?_)
 cases e with
 |normal=>
  obtain⟨σ1,ρ1,S1,rfl,hs⟩:=hp1;exact fin σ1 ρ1 S1 a1 w1 hs hout
 |ret=>
  obtain⟨σ1,ρ1,S1,rfl,hs⟩:=hp1;exact fin σ1 ρ1 S1 a1 w1 hs hout
 |exit id=>
  obtain⟨σ1,ρ1,S1,rfl,hs⟩:=hp1;simp at hout
 |goto l=>exact hp1.elim
 |panic ch=>exact hp1.elim
 |outgrown=>exact hp1.elim
theorem aXZ(hR:pF P R){drawOk:Array Oper→List Nat→List G→Bool}(hdr:DrawSound P drawOk){h:Hint}{n np:Nat}{f:FuncId}{fn:Func}{cf:Fn}(hf:P.funcs[f]? =some fn)
  (hc:QD P h drawOk fn np=some cf) {args:List SV} {hp:List Blk} {res:SV} {hp':List Blk} (hr:cf.runK R n args hp=some (res,hp')):TCK P f args hp res hp':=by
 intro w ρ S us hent;unfold QD at hc;simp only[qB]at hc;obtain⟨code,hcode,c,hc1,rs,hrs,hc2⟩:=hc;obtain⟨hnp,hc3⟩:=bQ hc2;obtain rfl:=Option.some.inj hc3;unfold Fn.runK at hr;obtain⟨⟨hlen,hle2⟩,hr1⟩:=bQ hr;simp only[qB]at hr1;obtain⟨out,hev,hout⟩:=hr1;simp only at hlen;have hsim:=hent.simK (N:=fn.ntmps) (by omega) hle2
 have hwp:=JZ hR hdr code c hc1 ρ S _ _ w out hsim hev;have fin: ∀(σ:St)(ρ1:Rho)(S1:Rds)(a1:Act)(w1:World),Sim w (wOf hp ρ) S ρ (cW hp+2) fn.ntmps ρ1 S1 σ a1 w1→(eO σ rs).bind (fun vs=>leaveK (cW hp) σ vs)=some (res,hp')→
   a1.defers=[]∧ ∃v,(results fn a1.tmps).run P w1= .ok v w1∧Exit w (wOf hp ρ) S ρ (cW hp+2) res hp' v w1:=by
  intro σ ρ1 S1 a1 w1 hs hl;simp only[qB]at hl;obtain⟨vs,hvs,hl⟩:=hl;obtain⟨us1,k1,k2,k3⟩:=HL (P:=P) hs fn.results.toList rs hrs vs hvs;refine⟨hs.defers,_,?_,hs.leaveK k2 k3 hl⟩;rw[HK];simp only[Array.mapM_eq_mapM_toList,Sem.run_bind,Sem.run_map,k1]
  match us1 with
  |[]=>rfl
  |[u]=>rfl
  |x::y::r=>rfl
 refine calls_of_wp hf hcode (wp_mono hwp fun e a1 w1 hp1=>?_)
 cases e with
 |normal=>
  obtain⟨σ1,ρ1,S1,rfl,hs⟩:=hp1;exact fin σ1 ρ1 S1 a1 w1 hs hout
 |ret=>
  obtain⟨σ1,ρ1,S1,rfl,hs⟩:=hp1;exact fin σ1 ρ1 S1 a1 w1 hs hout
 |exit id=>
  obtain⟨σ1,ρ1,S1,rfl,hs⟩:=hp1;simp at hout
 |goto l=>exact hp1.elim
 |panic ch=>exact hp1.elim
 |outgrown=>exact hp1.elim
end
end Go.Zq

namespace Go.Zq
open Option renaming bind_eq_some_iff → qB
open Go
def LeR(R R':Rt):Prop:= ∀f args hp r,R f args hp=some r→R' f args hp=some r
theorem LeR.refl(R:Rt):LeR R R:=fun _ _ _ _ h=>h
theorem LeR.trans{R R' R'':Rt}(h:LeR R R')(k:LeR R' R''):LeR R R'':=fun f a h' r hr=>k f a h' r (h f a h' r hr)
theorem J0{R R':Rt}(hR:LeR R R'){hp:List Blk}{pu:Bool}{f:FuncId}{vs:List (SV×Nat×Bool)}{x:SV×List Blk}(h:lD R hp pu f vs=some x):lD R' hp pu f vs=some x:=by
 unfold lD at h⊢;split at h
 ·rename_i e;rw[if_pos e];simp only[qB]at h⊢;obtain⟨args,ha,r,hr,hb⟩:=h;exact⟨args,ha,r,hR _ _ _ _ hr,hb⟩
 ·rename_i e;rw[if_neg e];simp only[qB]at h⊢;obtain⟨e,he,r,hr,hb⟩:=h;exact⟨e,he,r,hR _ _ _ _ hr,hb⟩
theorem aF5{R R':Rt}(hR:LeR R R'){hp:List Blk}{pu:Bool}{f:FuncId}{vs:List (SV×Nat×Bool)}{x:SV×List Blk}(h:nP R hp pu f vs=some x):nP R' hp pu f vs=some x:=by
 unfold nP at h⊢;split at h
 ·rename_i e;rw[if_pos e];exact J0 hR h
 ·rename_i e;rw[if_neg e];split at h
  ·simp at h
  ·rename_i e2;rw[if_neg e2];unfold xN at h⊢;simp only[qB]at h⊢;obtain⟨e,he,r,hr,hb⟩:=h;exact⟨e,he,r,hR _ _ _ _ hr,hb⟩
theorem ZR{R R':Rt}(hR:LeR R R'){hp:List Blk}{pu:Bool}{f:FuncId}{vs:List (SV×Nat×Bool)}{x:SV×List Blk}(h:sS R hp pu f vs=some x):sS R' hp pu f vs=some x:=by
 unfold sS at h⊢;obtain⟨e,h1⟩:=bQ h;rw[if_pos e];exact J0 hR h1
theorem aX0{R R':Rt}(hR:LeR R R'){ev:Ev}{hp:List Blk}{k:K}{x:SV×List Blk}(h:k.exec R ev hp=some x):k.exec R' ev hp=some x:=by
 cases k with
 |call d pu f xs=>
  simp only[K.exec,qB]at h⊢;obtain⟨vs,hvs,h⟩:=h;exact⟨vs,hvs,aF5 hR h⟩
 |calv d pu f xs=>
  simp only[K.exec,qB]at h⊢;obtain⟨g,hg,h⟩:=h;refine⟨g,hg,?_⟩;split at h
  ·simp only[qB]at h⊢;obtain⟨vs,hvs,h⟩:=h;exact⟨vs,hvs,ZR hR h⟩
  ·simp at h
 |_=>exact h
theorem XP{R R':Rt}(hR:LeR R R'){σ σ':St}{k:K}(h:k.run R σ=some σ'):k.run R' σ=some σ':=by
 unfold K.run at h⊢;simp only[qB]at h⊢;obtain⟨r,hr,h⟩:=h;exact⟨r,aX0 hR hr,h⟩
theorem XQ{R R':Rt}(hR:LeR R R'){σ σ':St}{g:G}(h:kG R σ g=some σ'):kG R' σ g=some σ':=by
 unfold kG at h⊢;split at h
 ·exact XP hR h
 ·split at h
  ·split at h
   ·rename_i e;rw[if_pos e];exact XP hR h
   ·rename_i e;rw[if_neg e];exact h
  ·exact h
  ·simp at h
theorem rX{R R':Rt}(hR:LeR R R'): ∀{l:List G}{σ σ':St},dU R l σ=some σ'→dU R' l σ=some σ'
 |[],σ,σ',h=>h
 |g::r,σ,σ',h=>by
  simp only[dU,qB]at h⊢;obtain⟨σ1,h1,h2⟩:=h;exact⟨σ1,XQ hR h1,rX hR h2⟩
theorem LZ{nb:Nat}{live:List Nat}{f f':St→Option Out}(hf: ∀σ o,f σ=some o→f' σ=some o): ∀{n n':Nat}{σ:St}{o:Out},n≤n'→AL nb live f n σ=some o→AL nb live f' n' σ=some o
 |0,n',σ,o,_,h=>by simp[AL]at h
 |n+1,n',σ,o,hn,h=>by
  obtain⟨m,rfl⟩: ∃m,n'=m+1:=⟨n'-1,by omega⟩
  simp only[AL,qB]at h⊢;obtain⟨σ1,hc,o1,h1,h2⟩:=h;refine⟨σ1,hc,o1,hf _ _ h1,?_⟩;cases o1 with
  |nor σ2=>exact LZ hf (by omega) h2
  |brk j σ2=>exact h2
  |ret σ2=>exact h2
theorem HM{R R':Rt}(hR:LeR R R'){nb:Nat}{kp:List Nat}{cn:Bool}: ∀{ls:List (List G)}{σ c:St},oY R nb kp cn ls σ=some c→oY R' nb kp cn ls σ=some c
 |[],_,_,h=>by simp[oY]at h
 |[l],σ,c,h=>by
  simp only[oY,qB]at h⊢;obtain⟨x,⟨y,h1,h2⟩,h3⟩:=h;exact⟨x,⟨y,rX hR h1,h2⟩,h3⟩
 |l::m::r,σ,c,h=>by
  simp only[oY,qB]at h⊢;obtain⟨x,⟨y,h1,h2⟩,z,h3,h4⟩:=h;refine⟨x,⟨y,rX hR h1,h2⟩,z,?_,h4⟩;have:=HM hR (ls:=m::r) (σ:=σ) (c:=z) (by simpa only[oY,qB]using h3)
  simpa only[oY,qB]using this
theorem CX{R R':Rt}(hR:LeR R R'){nb n n':Nat}(hn:n≤n'): ∀{c:C}{σ:St}{o:Out},eY R nb n c σ=some o→eY R' nb n' c σ=some o:=by
 intro c
 induction c with
 |ops l kp=>
  intro σ o h;simp only[eY,qB]at h⊢;obtain⟨σ1,h1,h2⟩:=h;exact⟨σ1,rX hR h1,h2⟩
 |drw ls kp cn=>
  intro σ o h;simp only[eY,qB]at h⊢;obtain⟨σ1,h1,h2⟩:=h;exact⟨σ1,HM hR h1,h2⟩
 |seq x y ihx ihy=>
  intro σ o h;simp only[eY,qB]at h⊢;obtain⟨o1,h1,h2⟩:=h;refine⟨o1,ihx h1,?_⟩;cases o1 with
  |nor σ1=>exact ihy h2
  |brk j σ1=>exact h2
  |ret σ1=>exact h2
 |cond c x y ihx ihy=>
  intro σ o h;simp only[eY,qB]at h⊢;obtain⟨v,hv,b,hb,h⟩:=h;refine⟨v,hv,b,hb,?_⟩;split at h
  ·rename_i e;rw[if_pos e];exact ihx h
  ·rename_i e;rw[if_neg e];exact ihy h
 |blk id x ih=>
  intro σ o h;simp only[eY,qB]at h⊢;obtain⟨o1,h1,h2⟩:=h;exact⟨o1,ih h1,h2⟩
 |loop live x ih=>
  intro σ o h;simp only[eY]at h⊢;exact LZ (fun σ o h=>ih h) hn h
 |_=>intro σ o h;exact h
theorem QS{R R':Rt}(hR:LeR R R'){n n':Nat}(hn:n≤n'){cf:Fn}{args:List SV}{hp:List Blk}{x:SV×List Blk}(h:cf.run R n args hp=some x):cf.run R' n' args hp=some x:=by
 unfold Fn.run at h⊢;obtain⟨hl,h1⟩:=bQ h;rw[if_pos hl];simp only[qB]at h1⊢;obtain⟨o,ho,h2⟩:=h1;exact⟨o,CX hR hn ho,h2⟩
theorem OI{R R':Rt}(hR:LeR R R'){n n':Nat}(hn:n≤n'){cf:Fn}{args:List SV}{hp:List Blk}{x:SV×List Blk}(h:cf.runK R n args hp=some x):cf.runK R' n' args hp=some x:=by
 unfold Fn.runK at h⊢;obtain⟨hl,h1⟩:=bQ h;rw[if_pos hl];simp only[qB]at h1⊢;obtain⟨o,ho,h2⟩:=h1;exact⟨o,CX hR hn ho,h2⟩
structure Chain(Rk:Nat→Rt)(R:Rt):Prop where
 mono: ∀k,LeR (Rk k) (Rk (k+1))
 lim: ∀f args hp r,R f args hp=some r→ ∃k,Rk k f args hp=some r
theorem Chain.le{Rk:Nat→Rt}{R:Rt}(c:Chain Rk R){k m:Nat}(h:k≤m):LeR (Rk k) (Rk m):=by
 induction m with
 |zero=>obtain rfl:k=0:=by omega
        exact LeR.refl _
 |succ m ih=>
  by_cases e:k=m+1
  ·subst e;exact LeR.refl _
  ·exact(ih (by omega)).trans (c.mono m)
section
variable{Rk:Nat→Rt}{R:Rt}
theorem J1(c:Chain Rk R){hp:List Blk}{pu:Bool}{f:FuncId}{vs:List (SV×Nat×Bool)}{x:SV×List Blk}(h:lD R hp pu f vs=some x): ∃k,lD (Rk k) hp pu f vs=some x:=by
 unfold lD at h⊢;split at h
 ·rename_i e;simp only[qB]at h;obtain⟨args,ha,r,hr,hb⟩:=h;obtain⟨k,hk⟩:=c.lim _ _ _ _ hr;refine⟨k,?_⟩;rw[if_pos e];simp only[qB];exact⟨args,ha,r,hk,hb⟩
 ·rename_i e;simp only[qB]at h;obtain⟨e1,he,r,hr,hb⟩:=h;obtain⟨k,hk⟩:=c.lim _ _ _ _ hr;refine⟨k,?_⟩;rw[if_neg e];simp only[qB];exact⟨e1,he,r,hk,hb⟩
theorem aF6(c:Chain Rk R){hp:List Blk}{pu:Bool}{f:FuncId}{vs:List (SV×Nat×Bool)}{x:SV×List Blk}(h:nP R hp pu f vs=some x): ∃k,nP (Rk k) hp pu f vs=some x:=by
 unfold nP at h⊢;split at h
 ·rename_i e;obtain⟨k,hk⟩:=J1 c h;exact⟨k,by rw[if_pos e];exact hk⟩
 ·rename_i e;split at h
  ·simp at h
  ·rename_i e2;unfold xN at h;simp only[qB]at h;obtain⟨e1,he,r,hr,hb⟩:=h;obtain⟨k,hk⟩:=c.lim _ _ _ _ hr;refine⟨k,?_⟩;rw[if_neg e,if_neg e2];unfold xN;simp only[qB];exact⟨e1,he,r,hk,hb⟩
theorem ZS(c:Chain Rk R){hp:List Blk}{pu:Bool}{f:FuncId}{vs:List (SV×Nat×Bool)}{x:SV×List Blk}(h:sS R hp pu f vs=some x): ∃k,sS (Rk k) hp pu f vs=some x:=by
 unfold sS at h⊢;obtain⟨e,h1⟩:=bQ h;obtain⟨k,hk⟩:=J1 c h1;exact⟨k,by rw[if_pos e];exact hk⟩
theorem aX1(c:Chain Rk R){ev:Ev}{hp:List Blk}{q:K}{x:SV×List Blk}(h:q.exec R ev hp=some x): ∃k,q.exec (Rk k) ev hp=some x:=by
 cases q with
 |call d pu f xs=>
  simp only[K.exec,qB]at h⊢;obtain⟨vs,hvs,h⟩:=h;obtain⟨k,hk⟩:=aF6 c h;exact⟨k,vs,hvs,hk⟩
 |calv d pu f xs=>
  simp only[K.exec,qB]at h;obtain⟨g,hg,h⟩:=h;split at h
  ·simp only[qB]at h;obtain⟨vs,hvs,h⟩:=h;obtain⟨k,hk⟩:=ZS c h;refine⟨k,?_⟩;simp only[K.exec,qB];exact⟨_,hg,by simp only[qB];exact⟨vs,hvs,hk⟩⟩
  ·simp at h
 |_=>exact⟨0,h⟩
theorem XR(c:Chain Rk R){σ σ':St}{q:K}(h:q.run R σ=some σ'): ∃k,q.run (Rk k) σ=some σ':=by
 unfold K.run at h⊢;simp only[qB]at h⊢;obtain⟨r,hr,h⟩:=h;obtain⟨k,hk⟩:=aX1 c hr;exact⟨k,r,hk,h⟩
theorem aX2(c:Chain Rk R){σ σ':St}{g:G}(h:kG R σ g=some σ'): ∃k,kG (Rk k) σ g=some σ':=by
 unfold kG at h;split at h
 ·rename_i hg;obtain⟨k,hk⟩:=XR c h;exact⟨k,by unfold kG;rw[hg];exact hk⟩
 ·rename_i s want hg;split at h
  ·rename_i x hl;split at h
   ·rename_i e;obtain⟨k,hk⟩:=XR c h;exact⟨k,by unfold kG;rw[hg];simp only[hl];rw[if_pos e];exact hk⟩
   ·rename_i e;exact⟨0,by unfold kG;rw[hg];simp only[hl];rw[if_neg e];exact h⟩
  ·rename_i hl;exact⟨0,by unfold kG;rw[hg];simp only[hl];exact h⟩
  ·simp at h
theorem AQ(c:Chain Rk R): ∀{l:List G}{σ σ':St},dU R l σ=some σ'→ ∃k,dU (Rk k) l σ=some σ'
 |[],σ,σ',h=>⟨0,h⟩
 |g::r,σ,σ',h=>by
  simp only[dU,qB]at h⊢;obtain⟨σ1,h1,h2⟩:=h;obtain⟨k1,g1⟩:=aX2 c h1;obtain⟨k2,g2⟩:=AQ c h2;exact⟨max k1 k2,σ1,XQ (c.le (Nat.le_max_left _ _)) g1,rX (c.le (Nat.le_max_right _ _)) g2⟩
theorem XS{nb:Nat}{live:List Nat}{f:St→Option Out}{fk:Nat→St→Option Out}(hm: ∀k m,k≤m→ ∀σ o,fk k σ=some o→fk m σ=some o)(hf: ∀σ o,f σ=some o→ ∃k,fk k σ=some o):
  ∀{n:Nat}{σ:St}{o:Out},AL nb live f n σ=some o→ ∃k,AL nb live (fk k) n σ=some o
 |0,σ,o,h=>by simp[AL]at h
 |n+1,σ,o,h=>by
  simp only[AL,qB]at h⊢;obtain⟨σ1,hc,o1,h1,h2⟩:=h;obtain⟨k1,g1⟩:=hf _ _ h1;cases o1 with
  |nor σ2=>
   obtain⟨k2,g2⟩:=XS hm hf h2;exact⟨max k1 k2,σ1,hc, .nor σ2,hm _ _ (Nat.le_max_left _ _) _ _ g1,LZ (hm _ _ (Nat.le_max_right _ _)) (Nat.le_refl _) g2⟩
  |brk j σ2=>exact⟨k1,σ1,hc,_,g1,h2⟩
  |ret σ2=>exact⟨k1,σ1,hc,_,g1,h2⟩
theorem QT(c:Chain Rk R){nb:Nat}{kp:List Nat}{cn:Bool}: ∀{ls:List (List G)}{σ τ:St},oY R nb kp cn ls σ=some τ→ ∃k,oY (Rk k) nb kp cn ls σ=some τ
 |[],_,_,h=>by simp[oY]at h
 |[l],σ,τ,h=>by
  simp only[oY,qB]at h⊢;obtain⟨x,⟨y,h1,h2⟩,h3⟩:=h;obtain⟨k,hk⟩:=AQ c h1;exact⟨k,x,⟨y,hk,h2⟩,h3⟩
 |l::m::r,σ,τ,h=>by
  unfold oY at h⊢;simp only[qB]at h⊢;obtain⟨x,⟨y,h1,h2⟩,z,h3,h4⟩:=h;obtain⟨k1,hk1⟩:=AQ c h1;obtain⟨k2,hk2⟩:=QT c (ls:=m::r) h3;exact⟨max k1 k2,x,⟨y,rX (c.le (Nat.le_max_left _ _)) hk1,h2⟩,z,HM (c.le (Nat.le_max_right _ _)) hk2,h4⟩
theorem aF7(c:Chain Rk R){nb n:Nat}: ∀{q:C}{σ:St}{o:Out},eY R nb n q σ=some o→ ∃k,eY (Rk k) nb n q σ=some o:=by
 intro q
 induction q with
 |ops l kp=>
  intro σ o h;simp only[eY,qB]at h⊢;obtain⟨σ1,h1,h2⟩:=h;obtain⟨k,hk⟩:=AQ c h1;exact⟨k,σ1,hk,h2⟩
 |drw ls kp cn=>
  intro σ o h;simp only[eY,qB]at h⊢;obtain⟨σ1,h1,h2⟩:=h;obtain⟨k,hk⟩:=QT c h1;exact⟨k,σ1,hk,h2⟩
 |seq x y ihx ihy=>
  intro σ o h;simp only[eY,qB]at h⊢;obtain⟨o1,h1,h2⟩:=h;obtain⟨k1,g1⟩:=ihx h1;cases o1 with
  |nor σ1=>
   obtain⟨k2,g2⟩:=ihy h2;exact⟨max k1 k2, .nor σ1,CX (c.le (Nat.le_max_left _ _)) (Nat.le_refl _) g1,CX (c.le (Nat.le_max_right _ _)) (Nat.le_refl _) g2⟩
  |brk j σ1=>exact⟨k1,_,g1,h2⟩
  |ret σ1=>exact⟨k1,_,g1,h2⟩
 |cond cc x y ihx ihy=>
  intro σ o h;simp only[eY,qB]at h⊢;obtain⟨v,hv,b,hb,h⟩:=h;split at h
  ·rename_i e;obtain⟨k,hk⟩:=ihx h;exact⟨k,v,hv,b,hb,by rw[if_pos e];exact hk⟩
  ·rename_i e;obtain⟨k,hk⟩:=ihy h;exact⟨k,v,hv,b,hb,by rw[if_neg e];exact hk⟩
 |blk id x ih=>
  intro σ o h;simp only[eY,qB]at h⊢;obtain⟨o1,h1,h2⟩:=h;obtain⟨k,hk⟩:=ih h1;exact⟨k,o1,hk,h2⟩
 |loop live x ih=>
  intro σ o h;simp only[eY]at h⊢;exact XS (f:=eY R nb n x) (fk:=fun k=>eY (Rk k) nb n x) (fun k m hkm σ o h=>CX (c.le hkm) (Nat.le_refl _) h) (fun σ o h=>ih h) h
 |_=>intro σ o h;exact⟨0,h⟩
theorem aI6(c:Chain Rk R){n:Nat}{cf:Fn}{args:List SV}{hp:List Blk}{x:SV×List Blk}(h:cf.run R n args hp=some x): ∃k,cf.run (Rk k) n args hp=some x:=by
 unfold Fn.run at h⊢;obtain⟨hl,h1⟩:=bQ h;simp only[qB]at h1;obtain⟨o,ho,h2⟩:=h1;obtain⟨k,hk⟩:=aF7 c ho;refine⟨k,?_⟩;rw[if_pos hl];simp only[qB];exact⟨o,hk,h2⟩
theorem aF8(c:Chain Rk R){n:Nat}{cf:Fn}{args:List SV}{hp:List Blk}{x:SV×List Blk}(h:cf.runK R n args hp=some x): ∃k,cf.runK (Rk k) n args hp=some x:=by
 unfold Fn.runK at h⊢;obtain⟨hl,h1⟩:=bQ h;simp only[qB]at h1;obtain⟨o,ho,h2⟩:=h1;obtain⟨k,hk⟩:=aF7 c ho;refine⟨k,?_⟩;rw[if_pos hl];simp only[qB];exact⟨o,hk,h2⟩
end
abbrev Tab:=FuncId→Option Fn
noncomputable def CC(tab:Tab)(ext:Rt):Nat→Rt
 |0,f,args,hp=>if 50000≤f then none else match tab f with
  |some _=>none
  |none=>ext f args hp
 |k+1,f,args,hp=>if 50000≤f then(tab (f-50000)).bind fun cf=>cf.runK (CC tab ext k) k args hp else match tab f with
  |some cf=>cf.run (CC tab ext k) k args hp
  |none=>ext f args hp
theorem XT(tab:Tab)(ext:Rt): ∀k,LeR (CC tab ext k) (CC tab ext (k+1))
 |0=>fun f args hp r h=>by
  rw[CC]at h;rw[CC];split at h
  ·simp at h
  ·rename_i e;rw[if_neg e];split at h
   ·simp at h
   ·exact h
 |k+1=>fun f args hp r h=>by
  have ih:=XT tab ext k;rw[CC]at h;rw[CC];split at h
  ·rename_i e;rw[if_pos e];simp only[qB]at h⊢;obtain⟨cf,h1,h2⟩:=h;exact⟨cf,h1,OI ih (Nat.le_succ _) h2⟩
  ·rename_i e;rw[if_neg e];split at h
   ·exact QS ih (Nat.le_succ _) h
   ·exact h
open Classical in
noncomputable def run(tab:Tab)(ext:Rt):Rt:=fun f args hp=>
 if h: ∃r k,CC tab ext k f args hp=some r then some h.choose else none
theorem rY(tab:Tab)(ext:Rt):Chain (CC tab ext) (run tab ext):=by
 refine⟨XT tab ext,fun f args hp r h=>?_⟩
 unfold run at h;split at h
 ·rename_i hx;obtain rfl:=Option.some.inj h;exact hx.choose_spec
 ·simp at h
theorem aI7{tab:Tab}{ext:Rt}{f:FuncId}{args:List SV}{hp:List Blk}{r:SV×List Blk}{k:Nat}(h:CC tab ext k f args hp=some r):run tab ext f args hp=some r:=by
 unfold run;have hx: ∃r k,CC tab ext k f args hp=some r:=⟨r,k,h⟩;rw[dif_pos hx];obtain⟨m,hm⟩:=hx.choose_spec;have h1:=(rY tab ext).le (Nat.le_max_left k m) _ _ _ _ h;have h2:=(rY tab ext).le (Nat.le_max_right k m) _ _ _ _ hm;rw[h1]at h2;exact h2.symm
theorem bNC{tab:Tab}{ext:Rt}{f:FuncId}{cf:Fn}(hf5:f<50000)(hf:tab f=some cf){n:Nat}{args:List SV}{hp:List Blk}{r:SV×List Blk}(h:cf.run (run tab ext) n args hp=some r):run tab ext f args hp=some r:=by
 obtain⟨k,hk⟩:=aI6 (rY tab ext) h;refine aI7 (k:=max k n+1) ?_;rw[CC,if_neg (Nat.not_le.2 hf5)];simp only[hf];exact QS ((rY tab ext).le (Nat.le_max_left _ _)) (Nat.le_max_right _ _) hk
theorem bD1{tab:Tab}{ext:Rt}{f:FuncId}{cf:Fn}(hf:tab f=some cf){n:Nat}{args:List SV}{hp:List Blk}{r:SV×List Blk}(h:cf.runK (run tab ext) n args hp=some r):run tab ext (f+50000) args hp=some r:=by
 obtain⟨k,hk⟩:=aF8 (rY tab ext) h;refine aI7 (k:=max k n+1) ?_;rw[CC,if_pos (Nat.le_add_left 50000 f),show f+50000-50000=f from Nat.add_sub_cancel (n:=f) (m:=50000),hf]
 exact OI ((rY tab ext).le (Nat.le_max_left _ _)) (Nat.le_max_right _ _) hk
theorem aQE{tab:Tab}{ext:Rt}{f:FuncId}(hf5:f<50000)(hf:tab f=none){args:List SV}{hp:List Blk}{r:SV×List Blk}(h:ext f args hp=some r):run tab ext f args hp=some r:=
 aI7 (k:=0) (by rw[CC,if_neg (Nat.not_le.2 hf5)];simp only[hf];exact h)
def aQF(P:Program)(tab:Tab):Prop:= ∀f cf,tab f=some cf→xR P f∧ ∃fn h drawOk np,P.funcs[f]? =some fn∧DrawSound P drawOk∧QD P h drawOk fn np=some cf
def L4(P:Program)(R:Rt):Prop:= ∀f args hp res hp',R f args hp=some (res,hp')→xR P f∧TC P f args hp res hp'
theorem QU{P:Program}{tab:Tab}{ext:Rt}(ht:aQF P tab)(he:L4 P ext): ∀k,pF P (CC tab ext k)
 |0=>fun f args hp res hp' h=>by
  rw[CC]at h;split at h
  ·simp at h
  ·rename_i e;split at h
   ·simp at h
   ·exact⟨fun _=>he f args hp res hp' h,fun e'=>absurd e' e⟩
 |k+1=>fun f args hp res hp' h=>by
  have ih:=QU ht he k;rw[CC]at h;split at h
  ·rename_i e;simp only[qB]at h;obtain⟨cf,hcf,h⟩:=h;obtain⟨hb,fn,hh,drawOk,np,hfn,hdr,hc⟩:=ht _ cf hcf;exact⟨fun e'=>absurd e (Nat.not_le.2 e'),fun _=>⟨hb,aXZ ih hdr hfn hc h⟩⟩
  ·rename_i e;split at h
   ·rename_i cf hcf;obtain⟨hb,fn,hh,drawOk,np,hfn,hdr,hc⟩:=ht f cf hcf;exact⟨fun _=>⟨hb,a14 ih hdr hfn hc h⟩,fun e'=>absurd e' e⟩
   ·exact⟨fun _=>he f args hp res hp' h,fun e'=>absurd e' e⟩
theorem aX3{P:Program}{tab:Tab}{ext:Rt}(ht:aQF P tab)(he:L4 P ext):pF P (run tab ext):=fun f args hp res hp' h=>by
 obtain⟨k,hk⟩:=(rY tab ext).lim _ _ _ _ h;exact QU ht he k f args hp res hp' hk
theorem aF9(P:Program):pF P (fun _ _ _=>none):=fun _ _ _ _ _ h=>by simp at h
end Go.Zq

namespace Go.Zq
open Option renaming bind_eq_some_iff → qB
open Option.some renaming injEq → qI
open Prod.mk renaming injEq → qP
open Go
def Like(rs:List Nat)(σ τ:St):Prop:= ∀n∈rs,bH n σ.sl=bH n τ.sl
theorem Like.l{rs rs':List Nat}{σ τ:St}(h:Like (rs++rs') σ τ):Like rs σ τ:=fun n hn=>h n (List.mem_append_left _ hn)
theorem Like.r{rs rs':List Nat}{σ τ:St}(h:Like (rs++rs') σ τ):Like rs' σ τ:=fun n hn=>h n (List.mem_append_right _ hn)
theorem fW{σ τ:St}{x:Opd}(h:Like x.rd σ τ):σ.ev x=τ.ev x:=by
 cases x with
 |t n=>exact h n (by simp[Opd.rd])
 |c v=>rfl
theorem nU{σ τ:St}{n:Nat}{o:Option Opd}(h:Like (ord o) σ τ):uZ σ.ev n o=uZ τ.ev n o:=by
 cases o with
 |none=>rfl
 |some x=>simp only[uZ];rw[fW h]
theorem EV{σ τ:St}: ∀{xs:List (Opd×Nat×Bool)},Like (xs.flatMap fun x=>x.1.rd) σ τ→jT σ.ev xs=jT τ.ev xs
 |[],_=>rfl
 |(x,n,mv)::r,h=>by
  simp only[List.flatMap_cons]at h;simp only[jT];rw[fW h.l,EV h.r]
theorem aX4(R:Rt){σ τ:St}{k:K}{rs:List Nat}(hk:k.rd=some rs)(h:Like rs σ τ)(hp:List Blk):k.exec R σ.ev hp=k.exec R τ.ev hp:=by
 cases k with
 |call d pu f xs=>
  cases pu with
  |false=>simp[K.rd]at hk
  |true=>
   simp only[K.rd,qI]at hk;subst hk;simp only[K.exec];rw[EV h]
 |pick d c x y=>
  simp only[K.rd,qI]at hk;subst hk;simp only[K.exec];rw[fW h.l,fW h.r.l,fW h.r.r]
 |slc d sz x lo hi=>
  simp only[K.rd,qI]at hk;subst hk;simp only[K.exec];rw[fW h.l,nU h.r.l];simp only[nU h.r.r]
 |sls d x lo hi=>
  simp only[K.rd,qI]at hk;subst hk;simp only[K.exec];rw[fW h.l,nU h.r.l];simp only[nU h.r.r]
 |mv|ld|nilc|un|cv|fa|fld|ext|len|lens=>
  simp only[K.rd,qI]at hk;subst hk;simp only[K.exec];rw[fW h]
 |bin|bb|eqs|ia|ix|mm=>
  simp only[K.rd,qI]at hk;subst hk;simp only[K.exec];rw[fW h.l];simp only[fW h.r]
 |_=>simp[K.rd]at hk
theorem aI8(R:Rt){ev:Ev}{k:K}{rs:List Nat}(hk:k.rd=some rs){hp hp':List Blk}{r:SV}(h:k.exec R ev hp=some (r,hp')):hp'=hp:=by
 cases k with
 |call d pu f xs=>
  cases pu with
  |false=>simp[K.rd]at hk
  |true=>
   simp only[K.exec,qB]at h;obtain⟨vs,-,h⟩:=h;unfold nP at h;split at h
   rotate_left
   ·simp at h
   unfold lD at h;rw[if_pos rfl]at h;simp only[qB]at h;obtain⟨_,-,_,-,_,-,h⟩:=h;have:=(bQ h).2;simp only[qI,qP]at this;exact this.2.symm
 |pick d c x y=>
  simp only[K.exec,qB]at h;obtain⟨v,-,b,-,h⟩:=h;split at h
  all_goals
   simp only[qB,qI,qP]at h;obtain⟨_,-,-,h⟩:=h;exact h.symm
 |nilc d x=>
  simp only[K.exec,qB]at h;obtain⟨v,-,h⟩:=h;split at h
  ·simp only[qI,qP]at h;exact h.2.symm
  ·simp only[qI,qP]at h;exact h.2.symm
  ·simp at h
 |eqs d neg gs x y=>
  simp only[K.exec,qB]at h;obtain⟨v,-,u,-,h⟩:=h;split at h
  ·simp only[qB,qI,qP]at h;obtain⟨_,-,-,h⟩:=h;exact h.symm
  ·simp at h
 |sls d x lo hi=>
  simp only[K.exec,qB]at h;obtain⟨v,-,u,-,h⟩:=h;split at h
  ·simp only[qB]at h;obtain⟨_,-,_,-,h⟩:=h;have:=(bQ h).2;simp only[qI,qP]at this;exact this.2.symm
  ·simp at h
 |fld d x off n=>
  simp only[K.exec,qB]at h;obtain⟨v,-,h⟩:=h;split at h
  ·simp only[qB,qI,qP]at h;obtain⟨_,-,-,h⟩:=h;exact h.symm
  ·simp at h
 |ix d x j=>
  simp only[K.exec,qB]at h;obtain⟨v,-,u,-,v',-,u',-,h⟩:=h;split at h
  ·have h1:=(bQ h).2;split at h1
   ·simp only[qI,qP]at h1;exact h1.2.symm
   ·simp at h1
  ·simp at h
 |ext d x j=>
  simp only[K.exec,qB]at h;obtain⟨v,-,h⟩:=h;split at h
  ·simp only[qB,qI,qP]at h;obtain⟨_,-,-,h⟩:=h;exact h.symm
  ·simp at h
 |lens d x=>
  simp only[K.exec,qB]at h;obtain⟨v,-,u,-,h⟩:=h;split at h
  ·simp only[qI,qP]at h;exact h.2.symm
  ·simp at h
 |mm d m x y=>
  simp only[K.exec,qB]at h;obtain⟨v,-,u,-,v',-,u',-,h⟩:=h;have:=(bQ h).2;simp only[qI,qP]at this;exact this.2.symm
 |mv|un|cv|fa|len|ld|bin|bb|ia|slc=>
  simp only[K.exec,qB,qI,qP]at h
  first
   |(obtain⟨_,-,-,h⟩:=h;exact h.symm)
   |(obtain⟨_,-,_,-,-,h⟩:=h;exact h.symm)
   |(obtain⟨_,-,_,-,_,-,-,h⟩:=h;exact h.symm)
   |(obtain⟨_,-,_,-,_,-,_,-,-,h⟩:=h;exact h.symm)
   |(obtain⟨_,-,_,-,_,-,_,-,_,-,-,h⟩:=h;exact h.symm)
   |(obtain⟨_,-,_,-,_,-,_,-,_,-,_,-,-,h⟩:=h;exact h.symm)
 |_=>simp[K.rd]at hk
theorem AS(R:Rt){σ τ σ':St}{g:G}{rs:List Nat}(hg:grd g=some rs)(hl:Like rs σ τ)(hh:σ.hp=τ.hp)(h:kG R σ g=some σ'):
  ∃v,σ'=setD σ g.2.dst v∧kG R τ g=some (setD τ g.2.dst v):=by
 simp only[grd,Option.map_eq_some_iff]at hg;obtain⟨rs',hk,rfl⟩:=hg;have hk':=aX4 R hk hl.r τ.hp;have exec: ∀σ',g.2.run R σ=some σ'→ ∃v,σ'=setD σ g.2.dst v∧g.2.run R τ=some (setD τ g.2.dst v):=by
  intro σ' h;unfold K.run at h⊢;simp only[qB,qI]at h;obtain⟨⟨r,hp'⟩,hr,rfl⟩:=h;have:=aI8 R hk hr;subst this;rw[hh,hk']at hr;exact⟨r,rfl,by rw[hr,←hh];simp[hh]⟩
 unfold kG at h⊢;cases hgd:g.1 with
 |none=>
  simp only[hgd]at h⊢;exact exec σ' h
 |some sw=>
  obtain⟨s,want⟩:=sw;simp only[hgd]at h⊢;have hs:bH s σ.sl=bH s τ.sl:=hl.l s (by simp[gsl,hgd])
  rw[←hs];split at h
  ·rename_i x hx;split at h
   ·rename_i e;rw[if_pos e];exact exec σ' h
   ·rename_i e;rw[if_neg e];exact⟨.und,(Option.some.inj h).symm,rfl⟩
  ·rename_i hx;exact⟨.und,(Option.some.inj h).symm,rfl⟩
  ·simp at h
def Eqv(σ τ:St):Prop:=σ.hp=τ.hp∧ ∀n,bH n σ.sl=bH n τ.sl
theorem Eqv.refl(σ:St):Eqv σ σ:=⟨rfl,fun _=>rfl⟩
theorem Eqv.trans{σ τ υ:St}(h:Eqv σ τ)(k:Eqv τ υ):Eqv σ υ:=⟨h.1.trans k.1,fun n=>(h.2 n).trans (k.2 n)⟩
theorem Eqv.symm{σ τ:St}(h:Eqv σ τ):Eqv τ σ:=⟨h.1.symm,fun n=>(h.2 n).symm⟩
theorem xS{σ:St}{d:Option Nat}{v:SV}(n:Nat):bH n (setD σ d v).sl=if d=some n then some v else bH n σ.sl:=by
 cases d with
 |none=>simp[setD]
 |some m=>simp[setD,St.set,bH]
theorem oJ{σ:St}{d:Option Nat}{v:SV}:(setD σ d v).hp=σ.hp:=by cases d<;>rfl
theorem XU(R:Rt): ∀{l:List G}{σ τ σ':St},(∀g∈l,(grd g).isSome=true)→Eqv σ τ→dU R l σ=some σ'→ ∃τ',dU R l τ=some τ'∧Eqv σ' τ'
 |[],σ,τ,σ',_,h,hr=>by
  simp only[dU,qI]at hr;subst hr;exact⟨τ,rfl,h⟩
 |g::r,σ,τ,σ',hq,h,hr=>by
  simp only[dU,qB]at hr⊢;obtain⟨σ1,h1,h2⟩:=hr;obtain⟨rs,hrs⟩:=Option.isSome_iff_exists.1 (hq g (List.mem_cons_self ..));obtain⟨v,rfl,h3⟩:=AS R hrs (fun n _=>h.2 n) h.1 h1
  have he:Eqv (setD σ g.2.dst v) (setD τ g.2.dst v):=⟨by simp[oJ,h.1],fun n=>by simp[xS,h.2 n]⟩
  obtain⟨τ',k1,k2⟩:=XU R (fun g hg=>hq g (List.mem_cons_of_mem _ hg)) he h2
  exact⟨τ',⟨_,h3,k1⟩,k2⟩
def J2 (x y:G):Bool:=match grd x,grd y with
 |some rx,some ry=>(match x.2.dst with|some d=>!ry.contains d|none=>true)&&(match y.2.dst with|some d=>!rx.contains d|none=>true)&&(x.2.dst.isNone||x.2.dst !=y.2.dst)
 |_,_=>false
theorem XV{σ:St}{d:Option Nat}{v:SV}{rs:List Nat}(h: ∀n,d=some n→n∉rs):Like rs σ (setD σ d v):=fun n hn=>by
 rw[xS,if_neg];intro e;exact h n e hn
theorem XW(R:Rt){x y:G}(hs:J2 x y=true){σ σ1 σ2:St}(h1:kG R σ x=some σ1)(h2:kG R σ1 y=some σ2): ∃τ1 τ2,kG R σ y=some τ1∧kG R τ1 x=some τ2∧Eqv σ2 τ2:=by
 unfold J2 at hs;cases hx:grd x with
 |none=>simp[hx]at hs
 |some rx=>
  cases hy:grd y with
  |none=>simp[hx,hy]at hs
  |some ry=>
   simp only[hx,hy,Bool.and_eq_true]at hs;obtain⟨⟨c1,c2⟩,c3⟩:=hs;obtain⟨vx,rfl,-⟩:=AS R hx (τ:=σ) (fun _ _=>rfl) rfl h1
   have l1:Like ry (setD σ x.2.dst vx) σ:=fun n hn=>(XV (fun m hm=>by rw[hm]at c1;simpa using c1) n hn).symm
   obtain⟨vy,rfl,k1⟩:=AS R hy l1 oJ h2;have l2:Like rx σ (setD σ y.2.dst vy):=XV (fun m hm=>by rw[hm]at c2;simpa using c2)
   obtain⟨vx',e,k2⟩:=AS R hx l2 oJ.symm h1;refine⟨_,_,k1,k2,by simp[oJ],fun n=>?_⟩
   have hlk:=congrArg (fun s=>bH n s.sl) e
   simp only[xS]at hlk⊢;by_cases e1:x.2.dst=some n
   ·rw[if_pos e1]at hlk⊢;rw[if_pos e1]at hlk⊢;rw[if_neg]
    ·exact hlk
    ·intro e2;rw[e1,e2]at c3;simp at c3
   ·simp only[e1,if_false]
theorem OJ(R:Rt){g:G}{v:List G}: ∀{u:List G}{σ σ':St},(∀x∈u,J2 x g=true)→(∀x∈u++g::v,(grd x).isSome=true)→dU R (u++g::v) σ=some σ'→
  ∃σ1 τ',kG R σ g=some σ1∧dU R (u++v) σ1=some τ'∧Eqv σ' τ'
 |[],σ,σ',_,_,h=>by
  simp only[List.nil_append,dU,qB]at h;obtain⟨σ1,h1,h2⟩:=h;exact⟨σ1,σ',h1,h2,Eqv.refl _⟩
 |x::u,σ,σ',hs,hq,h=>by
  simp only[List.cons_append,dU,qB]at h;obtain⟨σ1,h1,h2⟩:=h;obtain⟨σ2,τ',h3,h4,h5⟩:=OJ R (fun x hx=>hs x (List.mem_cons_of_mem _ hx)) (fun x hx=>hq x (List.mem_cons_of_mem _ hx)) h2
  obtain⟨τ1,τ2,k1,k2,k3⟩:=XW R (hs x (List.mem_cons_self ..)) h1 h3;have hq': ∀y∈u++v,(grd y).isSome=true:=fun y hy=>hq y (List.mem_cons_of_mem _ (by
   rcases List.mem_append.1 hy with hy|hy
   ·exact List.mem_append_left _ hy
   ·exact List.mem_append_right _ (List.mem_cons_of_mem _ hy)))
  obtain⟨υ,m1,m2⟩:=XU R hq' k3 h4;refine⟨τ1,υ,k1,?_,h5.trans m2⟩;simp only[List.cons_append,dU,qB];exact⟨τ2,k2,m1⟩
end Go.Zq

namespace Go.Zq
open Go
def chk(ops:Array Oper):List (Nat×G)→List (Nat×G)→Bool
 |_,[]=>true
 |seen,x::r=>
  decide (x.1∉seen.map (·.1))&&(grd x.2).isSome&&(match ops[x.1]? with
   |some o=>o.after.all fun e=>!Region.binds .any e||decide (e.on∈seen.map (·.1))
   |none=>false)&&(seen.all fun y=>J2 y.2 x.2||after? ops x.1 y.1)&&chk ops (seen++[x]) r
def quiet? (ops:Array Oper)(pm:List Nat)(l:List G):Bool:=
 decide (pm.length=ops.size)&&(List.range ops.size).all (fun i=>decide (i∈pm))&&pm.all (fun i=>decide (i<ops.size))&&chk ops [] (pm.zip l)
section
variable{P:Program}{w0:World}{W:Nat→Nat→Prop}{S0:Rds}{ρ0:Rho}{nb N:Nat}{ρ:Rho}{S:Rds}{σ τ:St}{a:Act}{w:World}{R:Rt}
theorem Sim.eqv(h:Sim w0 W S0 ρ0 nb N ρ S σ a w)(e:Eqv σ τ):Sim w0 W S0 ρ0 nb N ρ S τ a w:=by
 obtain⟨sl,hp⟩:=σ;obtain⟨sl',hp'⟩:=τ;obtain⟨e1,e2⟩:=e;simp only at e1 e2;subst e1;exact{h with slots:=fun n v hv=>h.slots n v (by rw[e2];exact hv),heap:=h.heap,own:=h.own,nbl:=h.nbl}
structure Plan(ops:Array Oper)(pm:List (Nat×G)):Prop where
 quiet: ∀x∈pm,(grd x.2).isSome=true
 nodup:(pm.map (·.1)).Nodup
 pw:pm.Pairwise fun x y=>J2 x.2 y.2=true∨after? ops y.1 x.1=true
 top: ∀u x v,pm=u++x::v→ ∀o,ops[x.1]? =some o→ ∀e∈o.after,Region.binds .any e=true→e.on∈u.map (·.1)
theorem aQG{ops:Array Oper}: ∀{r seen:List (Nat×G)},chk ops seen r=true→Plan ops seen→Plan ops (seen++r)
 |[],seen,_,h=>by rw[List.append_nil];exact h
 |x::r,seen,hc,h=>by
  simp only[chk,Bool.and_eq_true,decide_eq_true_eq]at hc;obtain⟨⟨⟨⟨c1,c2⟩,c3⟩,c4⟩,c5⟩:=hc;have hp:Plan ops (seen++[x]):=by
   refine⟨fun y hy=>?_,?_,?_,fun u y v e o ho ed hed hb=>?_⟩
   ·rcases List.mem_append.1 hy with hy|hy
    ·exact h.quiet y hy
    ·obtain rfl:=by simpa using hy
     exact c2
   ·rw[List.map_append,List.nodup_append];refine⟨h.nodup,by simp,fun i hi j hj=>?_⟩
    simp only[List.map_cons,List.map_nil,List.mem_singleton]at hj;subst hj;intro e;subst e;exact c1 hi
   ·rw[List.pairwise_append];refine⟨h.pw,by simp,fun y hy z hz=>?_⟩
    obtain rfl:=by simpa using hz
    have:=List.all_eq_true.1 c4 y hy;simpa using this
   ·rcases List.eq_nil_or_concat v with rfl|⟨v',z,rfl⟩
    ·have e':seen++[x]=u++[y]:=e;have:=List.append_inj' e' rfl;obtain⟨rfl,h2⟩:=this;obtain rfl:x=y:=by simpa using h2
     rw[ho]at c3;simp only at c3;have:=Array.all_eq_true'.1 c3 ed hed;simpa [hb]using this
    ·have e':seen++[x]=(u++y::v')++[z]:=by rw[e];simp
     have:=(List.append_inj' e' rfl).1;exact h.top u y v' this o ho ed hed hb
  have:=aQG c5 hp
  rwa [List.append_assoc,List.singleton_append]at this
def rem(pm:List (Nat×G))(listed:Array Bool):List (Nat×G):=pm.filter fun x=>!listed.getD x.1 true
theorem aX5(hR:pF P R){md:FuncId→Nat→Bool}{ops:Array Oper}{Q:Go.Exit→Act→World→Prop}{pm:List (Nat×G)}(hpl:Plan ops pm)(hc: ∀x∈pm,∃o,ops[x.1]? =some o∧GN P N md true ops o=some x.2)
  (hall: ∀i,i<ops.size→i∈pm.map (·.1)): ∀(fuel:Nat)(listed:Array Bool)(ρ:Rho)(S:Rds)(σ σ':St)(a:Act)(w:World),listed.size=ops.size→Sim w0 W S0 ρ0 nb N ρ S σ a w→
    dU R ((rem pm listed).map (·.2)) σ=some σ'→(rem pm listed).length≤fuel→(∀ρ S σ2 a w,Eqv σ' σ2→Sim w0 W S0 ρ0 nb N ρ S σ2 a w→Q .normal a w)→wpAny P .any ops Q fuel listed a w:=by
 have lt: ∀x∈pm,x.1<ops.size:=fun x hx=>by
  obtain⟨o,ho,-⟩:=hc x hx;exact(Array.getElem?_eq_some_iff.1 ho).1
 have inRem: ∀listed:Array Bool,listed.size=ops.size→ ∀i,i∈Region.ready .any ops listed→ ∃g,(i,g)∈rem pm listed:=fun listed hsz i hi=>by
  unfold Region.ready at hi;rw[List.mem_filter]at hi;obtain⟨h1,h2⟩:=hi;simp only[Bool.and_eq_true]at h2;obtain⟨x,hx,rfl⟩:=List.mem_map.1 (hall i (by simpa using h1))
  exact⟨x.2,List.mem_filter.2 ⟨hx,h2.1⟩⟩
 have noReady: ∀listed:Array Bool,listed.size=ops.size→Region.ready .any ops listed=[]→rem pm listed=[]:=fun listed hsz hr=>by
  cases hrem:rem pm listed with
  |nil=>rfl
  |cons x r=>
   exfalso;obtain⟨u,v,e,h1,h2,h3⟩:=List.filter_eq_cons_iff.1 hrem;have hxm:x∈pm:=by rw[e];simp
   obtain⟨o,ho,-⟩:=hc x hxm;have:x.1∈Region.ready .any ops listed:=by
    unfold Region.ready;rw[List.mem_filter];refine⟨by simpa using lt x hxm,?_⟩
    simp only[Bool.and_eq_true];refine⟨h2,?_⟩;rw[ho];simp only[Option.map_some,Option.getD_some];rw[Array.all_eq_true'];intro ed hed;cases hb:Region.binds .any ed with
    |false=>rfl
    |true=>
     obtain⟨y,hy,hye⟩:=List.mem_map.1 (hpl.top u x v e o ho ed hed hb);have hny:=h1 y hy;have hym:y∈pm:=by rw[e];exact List.mem_append_left _ hy
     have hyl:=lt y hym;rw[←hsz]at hyl;rw[←hye];simp only[Array.getD_eq_getD_getElem?,hyl,Array.getElem?_eq_getElem,Option.getD_some]at hny⊢;simpa using hny
   rw[hr]at this;simp at this
 intro fuel
 induction fuel with
 |zero=>
  intro listed ρ S σ σ' a w hsz hs hrun hlen hQ;have hrem:rem pm listed=[]:=List.eq_nil_of_length_eq_zero (by omega)
  refine⟨?_,?_⟩
  ·cases hrd:Region.ready .any ops listed with
   |nil=>rfl
   |cons i r=>
    obtain⟨g,hg⟩:=inRem listed hsz i (by rw[hrd];simp)
    rw[hrem]at hg;simp at hg
  ·rw[hrem]at hrun;simp only[List.map_nil,dU,Option.some.injEq]at hrun;subst hrun;exact hQ _ _ _ _ _ (Eqv.refl _) hs
 |succ fuel ih=>
  intro listed ρ S σ σ' a w hsz hs hrun hlen hQ;refine⟨fun hr=>?_,fun i hi=>?_⟩
  ·have hrem:=noReady listed hsz hr;rw[hrem]at hrun;simp only[List.map_nil,dU,Option.some.injEq]at hrun;subst hrun;exact hQ _ _ _ _ _ (Eqv.refl _) hs
  ·obtain⟨g,hg⟩:=inRem listed hsz i hi;obtain⟨u,v,huv⟩:=List.append_of_mem hg;have hsub: ∀y∈rem pm listed,y∈pm:=fun y hy=>(List.mem_filter.1 hy).1
   have hndr:((rem pm listed).map (·.1)).Nodup:=(List.Sublist.map _ List.filter_sublist).nodup hpl.nodup;have hpwr:(rem pm listed).Pairwise fun x y=>J2 x.2 y.2=true∨after? ops y.1 x.1=true:=hpl.pw.sublist List.filter_sublist
   rw[huv]at hpwr hndr;have hsw: ∀y∈u,J2 y.2 g=true:=fun y hy=>by
    rcases(List.pairwise_append.1 hpwr).2.2 y hy (i,g) (by simp)with h|h
    ·exact h
    ·exfalso;simp only[after?]at h;cases ho:ops[i]? with
     |none=>simp[ho]at h
     |some o=>
      simp only[ho]at h;obtain⟨ed,hed,hb⟩:=Array.any_eq_true'.1 h;simp only[Bool.and_eq_true,beq_iff_eq]at hb;obtain⟨hb1,hb2⟩:=hb;unfold Region.ready at hi;rw[List.mem_filter]at hi;obtain⟨-,h2⟩:=hi;simp only[Bool.and_eq_true,ho,Option.map_some,Option.getD_some]at h2;have:=Array.all_eq_true'.1 h2.2 ed hed;rw[hb1,hb2]at this;have hyr:y∈rem pm listed:=by rw[huv];exact List.mem_append_left _ hy
      have hny:=(List.mem_filter.1 hyr).2;have hyl:=lt y (hsub y hyr);rw[←hsz]at hyl;simp only[Array.getD_eq_getD_getElem?,hyl,Array.getElem?_eq_getElem,Option.getD_some,Bool.not_true,Bool.false_or]at hny this;rw[this]at hny;simp at hny
   rw[huv,List.map_append,List.map_cons]at hrun;have hq: ∀x∈u.map (·.2)++g::v.map (·.2),(grd x).isSome=true:=fun x hx=>by
    have:x∈(rem pm listed).map (·.2):=by rw[huv];simpa using hx
    obtain⟨y,hy,rfl⟩:=List.mem_map.1 this;exact hpl.quiet y (hsub y hy)
   obtain⟨σ1,τ',h1,h2,h3⟩:=OJ R (u:=u.map (·.2)) (v:=v.map (·.2)) (fun x hx=>by obtain⟨y,hy,rfl⟩:=List.mem_map.1 hx;exact hsw y hy) hq hrun
   have hrem':rem pm (listed.setIfInBounds i true)=u++v:=by
    have e1:rem pm (listed.setIfInBounds i true)=(rem pm listed).filter fun x=>decide (x.1≠i):=by
     unfold rem;rw[List.filter_filter];apply List.filter_congr;intro x hx;have hxl:=lt x hx;rw[←hsz]at hxl;by_cases e:x.1=i
     ·subst e;simp[Array.getD_eq_getD_getElem?,hxl]
     ·have e':¬i=x.1:=fun h=>e h.symm
      simp[Array.getD_eq_getD_getElem?,e,e',hxl,Array.getElem_setIfInBounds]
    rw[e1,huv,List.filter_append,List.filter_cons];rw[List.map_append,List.map_cons,List.nodup_append]at hndr;obtain⟨-,n2,n3⟩:=hndr;rw[if_neg (by simp),List.filter_eq_self.2,List.filter_eq_self.2]
    ·intro x hx;have:=(List.nodup_cons.1 n2).1;simp only[decide_eq_true_eq];intro e;exact this (List.mem_map.2 ⟨x,hx,e⟩)
    ·intro x hx;simp only[decide_eq_true_eq];intro e;exact n3 x.1 (List.mem_map_of_mem hx) i (by simp) e
   obtain⟨o,ho,hco⟩:=hc (i,g) (hsub _ hg);simp only at ho hco;unfold wpOp;rw[ho];simp only;refine PO hR hs hco h1 fun ρ1 S1 a1 w1 hs1=>?_
   refine ih (listed.setIfInBounds i true) ρ1 S1 σ1 τ' a1 w1 (by simpa using hsz) hs1 (by rw[hrem',List.map_append];exact h2) ?_ (fun ρ S σ2 a w he hs2=>hQ ρ S σ2 a w (h3.trans he) hs2)
   rw[hrem'];rw[huv]at hlen;simp at hlen⊢;omega
theorem QV{md:FuncId→Nat→Bool}{ops:Array Oper}: ∀{pm:List Nat}{l:List G},vT P N md true ops pm=some l→pm.length=l.length∧ ∀x∈pm.zip l,∃o,ops[x.1]? =some o∧GN P N md true ops o=some x.2
 |[],l,h=>by
  simp only[vT,Option.some.injEq]at h;subst h;exact⟨rfl,fun x hx=>by simp at hx⟩
 |j::r,l,h=>by
  simp only[vT,Option.bind_eq_some_iff,Option.some.injEq]at h;obtain⟨o,ho,g,hg,r',hr,rfl⟩:=h;obtain⟨h1,h2⟩:=QV hr;refine⟨by simp[h1],fun x hx=>?_⟩
  rw[List.zip_cons_cons,List.mem_cons]at hx;rcases hx with rfl|hx
  ·exact⟨o,ho,hg⟩
  ·exact h2 x hx
theorem rZ(hm:P.follows .mixedOrders=true):HI P quiet? :=by
 intro N md ops pm l hl hok R hR w0 W S0 ρ0 nb ρ S σ σ' a w hs hrun t Q hQ;unfold quiet? at hok;simp only[Bool.and_eq_true,decide_eq_true_eq]at hok;obtain⟨⟨⟨c1,c2⟩,c3⟩,c4⟩:=hok;obtain⟨z1,z2⟩:=QV hl;have hpl:Plan ops (pm.zip l):=by
  have:=aQG c4 ⟨fun x hx=>by simp at hx,by simp,by simp,fun u x v e=>by simp at e⟩
  simpa using this
 have hfst:(pm.zip l).map (·.1)=pm:=by rw[←List.unzip_fst,List.unzip_zip (by omega)]
 have hsnd:(pm.zip l).map (·.2)=l:=by rw[←List.unzip_snd,List.unzip_zip (by omega)]
 have hrem:rem (pm.zip l) (Array.replicate ops.size false)=pm.zip l:=by
  unfold rem;rw[List.filter_eq_self];intro x hx;have:x.1∈pm:=by rw[←hfst];exact List.mem_map_of_mem hx
  have:=List.all_eq_true.1 c3 x.1 this;have hlt:x.1<ops.size:=by simpa using this
  simp[Array.getD_eq_getD_getElem?,hlt]
 simp only[Region.schedule,hm,Bool.true_or,if_true];refine wpAny_sound ops.size t _ a _ (aX5 hR hpl z2 (fun i hi=>?_) ops.size _ ρ S σ σ' a _ (by simp) (hs.drawn rfl rfl rfl rfl) (by rw[hrem,hsnd];exact hrun) (by rw[hrem,List.length_zip];omega) (fun ρ S σ2 a w he hs2=>hQ ρ S a w (hs2.eqv he.symm)))
 rw[hfst];have:=List.all_eq_true.1 c2 i (by simpa using hi)
 simpa using this
end
end Go.Zq

namespace Go.Zq
open Go
section
variable{w0:World}{W:Nat→Nat→Prop}{S0 S:Rds}{ρ0 ρ:Rho}{nb N n:Nat}{σ:St}{a:Act}{w:World}{o:List Nat}{hp:List Blk}
def L5(ρ:Rho)(o:List Nat):Rho:=fun j=>match o[j]? with|some i=>ρ i|none=>none
structure OkO(o:List Nat)(n nb:Nat):Prop where
 len:o.length=n
 to: ∀i,i<n→o[o.idxOf i]? =some i
 fro: ∀j,j<n→o.idxOf (o.getD j 0)=j
 par: ∀i,i<nb→o[i]? =some i
 lt: ∀i,i∈o→i<n
theorem aX6(h:okO o n nb=true):OkO o n nb:=by
 unfold okO at h;simp only[Bool.and_eq_true,List.all_eq_true,List.mem_range,beq_iff_eq,decide_eq_true_eq]at h;exact⟨h.1.1.1.1,h.1.1.1.2,h.1.1.2,h.1.2,h.2⟩
theorem OkO.rho(ho:OkO o n nb)(hf: ∀j,n≤j→ρ j=none){id:Nat}{L:Loc}(h:ρ id=some L):L5 ρ o (o.idxOf id)=some L:=by
 have hid:id<n:=Nat.lt_of_not_le fun hle=>by rw[hf id hle]at h;simp at h
 simp only[L5,ho.to id hid,h]
theorem a15(ho:OkO o n nb)(hf: ∀j,n≤j→ρ j=none){t:T}{v:Value}(h:RT ρ w S t v):RT (L5 ρ o) w S (pT o t) v:=by
 cases h with
 |ri h=>
  cases h with
  |lit h=>exact .ri (.lit h)
  |nls=>exact .ri .nls
  |nil=>exact .ri .nil
  |imm h1 h2 h3 h4 h5 h6=>exact .ri (.imm h1 h2 h3 h4 h5 h6)
 |ptr hL=>exact .ptr (ho.rho hf hL)
 |nil=>exact .nil
 |sl hL hc hs ha=>exact .sl (ho.rho hf hL) hc hs ha
 |ip hS hg h=>exact .ip hS hg h
 |clo hn h=>
  refine .clo (by simpa using hn) fun k t ht=>?_
  rw[List.getElem?_map]at ht;obtain⟨t0,ht0,rfl⟩:=Option.map_eq_some_iff.1 ht;obtain⟨id,row,off,L,rfl,hL,hv⟩:=h k t0 ht0;exact⟨o.idxOf id,row,off,L,rfl,ho.rho hf hL,hv⟩
theorem QW{k:Nat}{v:SV}: ∀{sl sl':List (Nat×SV)},pSl o sl=some sl'→bH k sl'=some v→ ∃x,bH k sl=some x∧((∃t,x= .one t∧v= .one (pT o t))∨(∃ts,x= .agg ts∧v= .agg (ts.map (pT o)))∨(x= .und∧v= .und))
 |[],sl',h,hl=>by
  simp only[pSl,Option.some.injEq]at h;subst h;simp[bH]at hl
 |(m,x)::r,sl',h,hl=>by
  have go: ∀(y:SV)(r':List (Nat×SV)),pSl o r=some r'→sl'=(m,y)::r'→((∃t,x= .one t∧y= .one (pT o t))∨(∃ts,x= .agg ts∧y= .agg (ts.map (pT o)))∨(x= .und∧y= .und))→ ∃x',bH k ((m,x)::r)=some x'∧((∃t,x'= .one t∧v= .one (pT o t))∨(∃ts,x'= .agg ts∧v= .agg (ts.map (pT o)))∨(x'= .und∧v= .und)):=by
   intro y r' hr e hy;subst e;rw[tI]at hl;rw[tI];split at hl
   ·rename_i e;rw[if_pos e];obtain rfl:=Option.some.inj hl;exact⟨x,rfl,hy⟩
   ·rename_i e;rw[if_neg e];exact QW hr hl
  cases x with
  |one t=>
   simp only[pSl,Option.bind_eq_some_iff,Option.some.injEq]at h;obtain⟨r',hr,e⟩:=h;exact go _ r' hr e.symm (.inl ⟨t,rfl,rfl⟩)
  |agg ts=>
   simp only[pSl,Option.bind_eq_some_iff,Option.some.injEq]at h;obtain⟨r',hr,e⟩:=h;exact go _ r' hr e.symm (.inr (.inl ⟨ts,rfl,rfl⟩))
  |und=>
   simp only[pSl,Option.bind_eq_some_iff,Option.some.injEq]at h;obtain⟨r',hr,e⟩:=h;exact go _ r' hr e.symm (.inr (.inr ⟨rfl,rfl⟩))
  |tup vs=>simp[pSl]at h
theorem aQH(ho:OkO o hp.length nb){id:Nat}{x:Blk}(h:(o.map fun i=>pB o (hp.getD i .dead))[id]? =some x): ∃i y,o[id]? =some i∧hp[i]? =some y∧x=pB o y:=by
 rw[List.getElem?_map]at h;obtain⟨i,hi,rfl⟩:=Option.map_eq_some_iff.1 h;have hlt:i<hp.length:=ho.lt i (List.mem_of_getElem? hi);exact⟨i,hp[i],hi,List.getElem?_eq_getElem hlt,by rw[List.getD_eq_getElem?_getD,List.getElem?_eq_getElem hlt];rfl⟩
theorem J3(ho:OkO o hp.length nb){id:Nat}(h:live (o.map fun i=>pB o (hp.getD i .dead)) id): ∃i,o[id]? =some i∧live hp i:=by
 obtain⟨x,hx,hd⟩:=h;obtain⟨i,y,hi,hy,rfl⟩:=aQH ho hx;exact⟨i,hi,y,hy,fun e=>hd (by rw[e];rfl)⟩
theorem OkO.inj(ho:OkO o n nb){i j k:Nat}(hi:o[i]? =some k)(hj:o[j]? =some k):i=j:=by
 have h1:i<n:=by rw[←ho.len];exact(List.getElem?_eq_some_iff.1 hi).1
 have h2:j<n:=by rw[←ho.len];exact(List.getElem?_eq_some_iff.1 hj).1
 have f1:=ho.fro i h1;have f2:=ho.fro j h2;rw[show o.getD i 0=k by simp[List.getD_eq_getElem?_getD,hi]]at f1
 rw[show o.getD j 0=k by simp[List.getD_eq_getElem?_getD,hj]]at f2
 rw[←f1,←f2]
theorem Hp.perm(h:Hp ρ w S hp)(ho:OkO o hp.length nb):Hp (L5 ρ o) w S (o.map fun i=>pB o (hp.getD i .dead)):=by
 refine⟨fun id x hx=>?_,?_,?_,h.sb,h.st,fun j hj=>?_⟩
 ·obtain⟨i,y,hi,hy,rfl⟩:=aQH ho hx;have hb:=h.br i y hy;have hr:L5 ρ o id=ρ i:=by simp only[L5,hi]
  cases y with
  |dead=>trivial
  |box cells=>
   obtain⟨L,h1,h2,h3⟩:=hb;refine⟨L,by rw[hr];exact h1,h2,⟨h3.obj,fun r hr=>?_,fun j k t ht=>?_⟩⟩
   ·obtain rfl:=by simpa using hr
    rw[List.length_map];exact h3.len cells (by simp)
   ·cases j with
    |succ j=>simp at ht
    |zero=>
     simp only[List.getElem?_cons_zero,Option.bind_some,List.getElem?_map]at ht;obtain⟨t0,ht0,rfl⟩:=Option.map_eq_some_iff.1 ht;obtain⟨v,hv,hrv⟩:=h3.cell 0 k t0 (by simpa using ht0)
     exact⟨v,hv,a15 ho h.fr hrv⟩
  |lst sz rows=>
   rcases hb with⟨h1,h2⟩|⟨L,h1,h2,h3,h4,h5,h6⟩
   ·exact .inl ⟨by rw[hr];exact h1,h2⟩
   ·refine .inr ⟨L,by rw[hr];exact h1,h2,h3,h4,⟨h5.obj,h5.len,fun j k t ht=>?_⟩,h6⟩
    obtain⟨v,hv,hrv⟩:=h5.cell j k t ht;obtain⟨r,hr',hk⟩:=hD ht;exact⟨v,hv, .ri (hrv.inList (List.all_eq_true.1 (h6 r (List.mem_of_getElem? hr')) t (List.mem_of_getElem? hk)))⟩
 ·intro i j L M b c hij hli hlj hL hM hLb hMb;obtain⟨i',hi,hl1⟩:=J3 ho hli;obtain⟨j',hj,hl2⟩:=J3 ho hlj;simp only[L5,hi]at hL;simp only[L5,hj]at hM;exact h.dj i' j' L M b c (fun e=>hij (ho.inj hi (by rw[e];exact hj))) hl1 hl2 hL hM hLb hMb
 ·intro p b hp' j L hl hL;obtain⟨j',hj,hl'⟩:=J3 ho hl;simp only[L5,hj]at hL;exact h.sd p b hp' j' L hl' hL
 ·rw[List.length_map]at hj;simp only[L5,List.getElem?_eq_none hj]
theorem Sim.perm(h:Sim w0 W S0 ρ0 nb N ρ S σ a w){c:St}(hc:ZG nb σ=some c): ∃ρ',Sim w0 W S0 ρ0 nb N ρ' S c a w:=by
 unfold ZG at hc;obtain⟨ho,hc⟩:=bQ hc;have ho:=aX6 ho;generalize a1C σ.hp nb=o at ho hc;simp only[Option.bind_eq_some_iff,Option.some.injEq]at hc;obtain⟨sl,hsl,rfl⟩:=hc;refine⟨L5 ρ o,⟨fun n v hv=>?_,h.size,h.defers,h.heap.perm ho,h.keep,fun i L b c hl hL hb=>?_,h.sn,h.ss,fun i hi=>?_,?_⟩⟩
 ·obtain⟨x,hx,hh⟩:=QW hsl hv;obtain⟨h1,h2⟩:=h.slots n x hx;refine⟨h1,?_⟩;rcases hh with⟨t,rfl,rfl⟩|⟨ts,rfl,rfl⟩|⟨rfl,rfl⟩
  ·generalize a.tmps.getD n undef=u at h2;cases h2 with
   |one h2=>exact .one (a15 ho h.heap.fr h2)
  ·generalize a.tmps.getD n undef=u at h2;cases h2 with
   |agg hn h2=>
    refine .agg (by simpa using hn) fun k t ht=>?_
    rw[List.getElem?_map]at ht;obtain⟨t0,ht0,rfl⟩:=Option.map_eq_some_iff.1 ht;exact a15 ho h.heap.fr (h2 k t0 ht0)
  ·generalize a.tmps.getD n undef=u at h2;cases h2;exact .und
 ·obtain⟨i',hi,hl'⟩:=J3 ho hl;simp only[L5,hi]at hL;exact h.own i' L b c hl' hL hb
 ·simp only[L5,ho.par i hi];exact h.boxes i hi
 ·rw[List.length_map,ho.len];exact h.nbl
end
end Go.Zq

namespace Go.Zq
open Option renaming bind_eq_some_iff → qB
open Bool renaming and_eq_true → qA
open Go
theorem OK{σ τ:St}: ∀{cs:List Opd},Like (cs.flatMap fun x=>x.rd) σ τ→vS σ.ev cs=vS τ.ev cs
 |[],_=>rfl
 |x::r,h=>by
  simp only[List.flatMap_cons]at h;simp only[vS];rw[fW h.l,OK h.r]
theorem XX{σ τ:St}: ∀{ps:List (Nat×Nat×Opd)}{cs:Row},Like (ps.flatMap fun x=>x.2.2.rd) σ τ→fill σ.ev cs ps=fill τ.ev cs ps
 |[],_,_=>rfl
 |(o,n,x)::r,cs,h=>by
  simp only[List.flatMap_cons]at h;simp only[fill];rw[fW h.l];simp only[XX h.r]
theorem GR{σ τ:St}: ∀{ps:List (Nat×Opd)}{cs:List Row},Like (ps.flatMap fun x=>x.2.rd) σ τ→fillRows σ.ev cs ps=fillRows τ.ev cs ps
 |[],_,_=>rfl
 |(o,x)::r,cs,h=>by
  simp only[List.flatMap_cons]at h;simp only[fillRows];rw[fW h.l];simp only[GR h.r]
theorem aI9(R:Rt){σ τ:St}{k:K}(h:Like k.rdA σ τ)(hp:List Blk):k.exec R σ.ev hp=k.exec R τ.ev hp:=by
 cases k with
 |call d pu f xs=>
  simp only[K.exec];rw[EV h]
 |calv d pu f xs=>
  simp only[K.exec];rw[fW h.l,EV h.r]
 |pick d c x y=>
  simp only[K.exec];rw[fW h.l,fW h.r.l,fW h.r.r]
 |slc d sz x lo hi=>
  simp only[K.exec];rw[fW h.l,nU h.r.l];simp only[nU h.r.r]
 |sls d x lo hi=>
  simp only[K.exec];rw[fW h.l,nU h.r.l];simp only[nU h.r.r]
 |alc d z=>rfl
 |bld d z ps=>
  simp only[K.exec];rw[XX h]
 |bsl d n z ps=>
  simp only[K.exec];rw[GR h]
 |mkf d f cs=>
  simp only[K.exec];rw[OK h]
 |mv|ld|nilc|un|cv|fa|fld|ext|len|lens|box|clr=>
  simp only[K.exec];rw[fW h]
 |bin|bb|eqs|ia|ix|mm|st|app|cpy|mks=>
  simp only[K.exec];rw[fW h.l];simp only[fW h.r]
theorem QX(R:Rt){ev:Ev}{k:K}(hk:k.still=true)(hp hp':List Blk):k.exec R ev hp'=(k.exec R ev hp).map fun r=>(r.1,hp'):=by
 cases k with
 |mv|un|cv|fa|bin|bb|bld=>
  simp only[K.exec,Option.map_bind,Option.map_some,Function.comp_def]
 |pick d c x y=>
  simp only[K.exec,Option.map_bind,Function.comp_def]
  congr 1
  funext v
  congr 1
  funext b
  cases b<;>simp[Option.map_bind,Function.comp_def]
 |nilc d x=>
  simp only[K.exec,Option.map_bind,Function.comp_def]
  congr 1
  funext v
  split<;>rfl
 |eqs d neg gs x y=>
  simp only[K.exec,Option.map_bind,Function.comp_def]
  congr 1
  funext v
  congr 1
  funext u
  split
  ·simp only[Option.map_bind,Option.map_some,Function.comp_def]
  ·rfl
 |fld d x off n=>
  simp only[K.exec,Option.map_bind,Function.comp_def]
  congr 1
  funext v
  split
  ·simp only[Option.map_bind,Option.map_some,Function.comp_def]
  ·rfl
 |ext d x j=>
  simp only[K.exec,Option.map_bind,Function.comp_def]
  congr 1
  funext v
  split
  ·simp only[Option.map_bind,Option.map_some,Function.comp_def]
  ·rfl
 |sls d x lo hi=>
  simp only[K.exec,Option.map_bind,Function.comp_def]
  congr 1
  funext v
  congr 1
  funext u
  split
  ·simp only[Option.map_bind,Function.comp_def]
   congr 1
   funext l
   congr 1
   funext h
   split<;>rfl
  ·rfl
 |ix d x j=>
  simp only[K.exec,Option.map_bind,Function.comp_def]
  congr 1
  funext v
  congr 1
  funext u
  congr 1
  funext v'
  congr 1
  funext u'
  split
  ·split
   ·split<;>rfl
   ·rfl
  ·rfl
 |lens d x=>
  simp only[K.exec,Option.map_bind,Function.comp_def]
  congr 1
  funext v
  congr 1
  funext u
  split<;>rfl
 |mm d m x y=>
  simp only[K.exec,Option.map_bind,Function.comp_def]
  congr 1
  funext v
  congr 1
  funext u
  congr 1
  funext v'
  congr 1
  funext u'
  split<;>rfl
 |_=>simp[K.still]at hk
def gex(R:Rt)(σ:St)(g:G):Option (SV×List Blk):=
 match g.1 with
 |none=>g.2.exec R σ.ev σ.hp
 |some (s,want)=>match bH s σ.sl with
  |some (.one (.lit (.bool x)))=>if x=want then g.2.exec R σ.ev σ.hp else some (.und,σ.hp)
  |some .und=>some (.und,σ.hp)
  |_=>none
theorem a16(R:Rt)(σ:St)(g:G):kG R σ g=(gex R σ g).bind fun r=>some (setD ⟨σ.sl,r.2⟩ g.2.dst r.1):=by
 obtain⟨gd,k⟩:=g;cases gd with
 |none=>rfl
 |some sw=>
  obtain⟨s,want⟩:=sw;simp only[kG,gex];generalize bH s σ.sl=o
  match o with
  |some (.one (.lit (.bool x)))=>by_cases e:x=want<;>simp only[e,if_true,if_false]<;>rfl
  |some .und=>rfl
  |none=>rfl
  |some (.agg _)=>rfl
  |some (.tup _)=>rfl
  |some (.one (.ptr ..))=>rfl
  |some (.one (.sl ..))=>rfl
  |some (.one (.nls ..))=>rfl
  |some (.one (.imm ..))=>rfl
  |some (.one (.ip ..))=>rfl
  |some (.one (.clo ..))=>rfl
  |some (.one (.lit v))=>cases v<;>try rfl
                         rename_i b;by_cases e:b=want<;>simp only[e,if_true,if_false]<;>rfl
theorem CY(R:Rt){σ τ:St}{g:G}(h:Like (P8 g) σ τ)(hh:σ.hp=τ.hp):gex R σ g=gex R τ g:=by
 unfold gex;have he:g.2.exec R σ.ev τ.hp=g.2.exec R τ.ev τ.hp:=aI9 R (Like.r (rs:=gsl g) h) _;cases hg:g.1 with
 |none=>simp only[hh,he]
 |some sw=>
  have hs:bH sw.1 σ.sl=bH sw.1 τ.sl:=h sw.1 (List.mem_append_left _ (by simp[gsl,hg]))
  simp only[hs,hh,he]
theorem L6(R:Rt){σ:St}{g:G}(hk:g.2.still=true)(hp:List Blk):gex R ⟨σ.sl,hp⟩ g=(gex R σ g).map fun r=>(r.1,hp):=by
 unfold gex;cases hg:g.1 with
 |none=>exact QX R hk _ _
 |some sw=>
  simp only;split
  ·split
   ·exact QX R hk _ _
   ·rfl
  ·rfl
  ·rfl
theorem AT(R:Rt){σ:St}{g:G}(hk:g.2.still=true){r:SV×List Blk}(h:gex R σ g=some r):r.2=σ.hp:=by
 have:=L6 R (σ:=σ) hk σ.hp;have e:gex R ⟨σ.sl,σ.hp⟩ g=gex R σ g:=rfl;rw[e,h]at this;exact congrArg Prod.snd (Option.some.inj this)
theorem pM{R:Rt}{σ σ':St}{g:G}:kG R σ g=some σ'↔ ∃r,gex R σ g=some r∧σ'=setD ⟨σ.sl,r.2⟩ g.2.dst r.1:=by
 rw[a16];simp only[qB,Option.some.injEq];exact⟨fun⟨r,h,e⟩=>⟨r,h,e.symm⟩,fun⟨r,h,e⟩=>⟨r,h,e.symm⟩⟩
theorem fI{sl:List (Nat×SV)}{hp:List Blk}{d:Option Nat}{v:SV}(n:Nat):bH n (setD ⟨sl,hp⟩ d v).sl=if d=some n then some v else bH n sl:=xS (σ:=⟨sl,hp⟩) n
theorem aGA{sl:List (Nat×SV)}{hp hp':List Blk}{d e:Option Nat}{u v:SV}(h:(d.isNone||d !=e)=true)(hh:hp=hp'):
  Eqv (setD ⟨(setD ⟨sl,hp⟩ d u).sl,hp⟩ e v) (setD ⟨(setD ⟨sl,hp'⟩ e v).sl,hp'⟩ d u):=by
 subst hh;refine⟨by simp[oJ],fun n=>?_⟩
 rw[fI,fI,fI,fI];by_cases e1:d=some n
 ·by_cases e2:e=some n
  ·subst e1;subst e2;simp at h
  ·simp[e1,e2]
 ·simp[e1]
theorem aJA(R:Rt){x y:G}(hs:aFQ x y=true){σ σ1 σ2:St}(h1:kG R σ x=some σ1)(h2:kG R σ1 y=some σ2): ∃τ1 τ2,kG R σ y=some τ1∧kG R τ1 x=some τ2∧Eqv σ2 τ2:=by
 unfold aFQ at hs;simp only[qA,Bool.or_eq_true]at hs;obtain⟨⟨⟨c1,c2⟩,c3⟩,c4⟩:=hs;have dx: ∀n,x.2.dst=some n→n∉P8 y:=fun n hn=>by rw[hn]at c1;simpa using c1
 have dy: ∀n,y.2.dst=some n→n∉P8 x:=fun n hn=>by rw[hn]at c2;simpa using c2
 have c3':(x.2.dst.isNone||x.2.dst !=y.2.dst)=true:=by simpa using c3
 rcases c4 with(c4|c4)|c4
 ·obtain⟨r,hr,rfl⟩:=pM.1 h1;obtain⟨q,hq,rfl⟩:=pM.1 h2;have hrh:=AT R c4 hr;have l1:Like (P8 y) (setD ⟨σ.sl,r.2⟩ x.2.dst r.1) σ:=fun n hn=>by
   rw[fI,if_neg];intro e;exact dx n e hn
  rw[CY R l1 (by rw[oJ,hrh])]at hq
  refine⟨_,_,pM.2 ⟨q,hq,rfl⟩,pM.2 ⟨(r.1,q.2),?_,rfl⟩,?_⟩
  ·have l2:Like (P8 x) (setD ⟨σ.sl,q.2⟩ y.2.dst q.1) ⟨σ.sl,q.2⟩:=fun n hn=>by
    rw[fI,if_neg];intro e;exact dy n e hn
   rw[CY R l2 (by rw[oJ]),L6 R c4,hr];rfl
  ·rw[hrh];refine Eqv.trans ?_ (aGA c3' rfl);exact⟨by simp[oJ],fun n=>by simp only[fI]⟩
 ·obtain⟨r,hr,rfl⟩:=pM.1 h1;obtain⟨q,hq,rfl⟩:=pM.1 h2;have hqh:=AT R c4 hq;rw[oJ]at hqh;have l1:Like (P8 y) (setD ⟨σ.sl,r.2⟩ x.2.dst r.1) ⟨σ.sl,r.2⟩:=fun n hn=>by
   rw[fI,if_neg];intro e;exact dx n e hn
  rw[CY R l1 (by rw[oJ]),L6 R c4]at hq
  simp only[Option.map_eq_some_iff]at hq;obtain⟨q',hq',rfl⟩:=hq;have hq'h:=AT R c4 hq';refine⟨_,_,pM.2 ⟨q',hq',rfl⟩,pM.2 ⟨r,?_,rfl⟩,?_⟩
  ·have l2:Like (P8 x) (setD ⟨σ.sl,q'.2⟩ y.2.dst q'.1) σ:=fun n hn=>by
    rw[fI,if_neg];intro e;exact dy n e hn
   rw[CY R l2 (by rw[oJ,hq'h]),hr]
  ·refine⟨by simp[oJ],fun n=>?_⟩
   have:=(aGA (sl:=σ.sl) (hp:=r.2) (u:=r.1) (v:=q'.1) c3' rfl).2 n;simp only[fI]at this⊢;exact this
 ·obtain⟨r,hr,rfl⟩:=pM.1 h1;obtain⟨q,hq,rfl⟩:=pM.1 h2;have hsx:J2 x y=true:=by
   unfold J2;obtain⟨rx,hx⟩:=Option.isSome_iff_exists.1 c4.1;obtain⟨ry,hy⟩:=Option.isSome_iff_exists.1 c4.2;have sub: ∀{g:G}{rs:List Nat},grd g=some rs→rs=P8 g:=fun{g rs} hg=>by
    simp only[grd,Option.map_eq_some_iff]at hg;obtain⟨rs',hk,rfl⟩:=hg;unfold P8
    congr 1
    revert hk
    cases g.2<;>simp[K.rd,K.rdA]<;>(try (intro h;exact h.symm))
    all_goals (rename_i pu f xs;cases pu<;>simp (config:={contextual:=true}) [K.rd])
   rw[hx,hy,sub hx,sub hy];simp only[qA];exact⟨⟨by revert c1;cases x.2.dst<;>simp,by revert c2;cases y.2.dst<;>simp⟩,c3'⟩
  exact XW R hsx h1 h2
theorem a17(R:Rt){σ τ σ':St}{g:G}(h:Eqv σ τ)(hr:kG R σ g=some σ'): ∃τ',kG R τ g=some τ'∧Eqv σ' τ':=by
 obtain⟨r,h1,rfl⟩:=pM.1 hr;rw[CY R (fun n _=>h.2 n) h.1]at h1
 exact⟨_,pM.2 ⟨r,h1,rfl⟩,by simp[oJ],fun n=>by simp only[fI,h.2 n]⟩
theorem QY(R:Rt): ∀{l:List G}{σ τ σ':St},Eqv σ τ→dU R l σ=some σ'→ ∃τ',dU R l τ=some τ'∧Eqv σ' τ'
 |[],σ,τ,σ',h,hr=>by
  simp only[dU,Option.some.injEq]at hr;subst hr;exact⟨τ,rfl,h⟩
 |g::r,σ,τ,σ',h,hr=>by
  simp only[dU,qB]at hr⊢;obtain⟨σ1,h1,h2⟩:=hr;obtain⟨τ1,k1,e1⟩:=a17 R h h1;obtain⟨τ',k2,e2⟩:=QY R e1 h2;exact⟨τ',⟨_,k1,k2⟩,e2⟩
inductive Cov(ops:Array Oper):List (Nat×G)→List (List G)→Prop
 |nil:Cov ops [] [[]]
 |one {rem:List (Nat×G)} {x:Nat×G} {L:List (List G)} (hx:x∈rem) (hr:iX ops rem x.1=true) (hs: ∀y∈without rem x.1,aFQ x.2 y.2=true∨dep ops 40 y.1 x.1=true) (h:Cov ops (without rem x.1) L):Cov ops rem (L.map (x.2:: ·))
 |br {rem:List (Nat×G)} {LL:List (List G)} {F:Nat×G→List (List G)} (hne:rem≠[]) (h1: ∀x∈rem,iX ops rem x.1=true→F x≠[]) (h: ∀x∈rem,iX ops rem x.1=true→Cov ops (without rem x.1) (F x))
   (h3: ∀x∈rem,iX ops rem x.1=true→ ∀l∈F x,x.2::l∈LL):Cov ops rem LL
structure TopP(ops:Array Oper)(rem:List (Nat×G)):Prop where
 irr: ∀x∈rem,after? ops x.1 x.1=false
 pw:rem.Pairwise fun x y=>after? ops x.1 y.1=false
 nd:(rem.map (·.1)).Nodup
theorem nV{rem:List (Nat×G)}{j:Nat}{x:Nat×G}:x∈without rem j↔x∈rem∧x.1≠j:=by simp[without]
theorem TopP.without{ops:Array Oper}{rem:List (Nat×G)}(h:TopP ops rem)(j:Nat):TopP ops (without rem j):=
 ⟨fun x hx=>h.irr x (nV.1 hx).1,h.pw.sublist List.filter_sublist,(List.Sublist.map _ List.filter_sublist).nodup h.nd⟩
theorem TopP.ready{ops:Array Oper}{x:Nat×G}{r:List (Nat×G)}(h:TopP ops (x::r)):iX ops (x::r) x.1=true:=by
 simp only[iX,List.all_eq_true,Bool.not_eq_true'];intro y hy;rcases List.mem_cons.1 hy with rfl|hy
 ·exact h.irr y (List.mem_cons_self ..)
 ·exact List.rel_of_pairwise_cons h.pw hy
theorem qF{rem:List (Nat×G)}{x:Nat×G}(hx:x∈rem):(without rem x.1).length<rem.length:=by
 unfold without;exact List.length_filter_lt_length_iff_exists.2 ⟨x,hx,by simp⟩
theorem L7{ops:Array Oper}: ∀{n:Nat}{rem:List (Nat×G)},rem.length<n→TopP ops rem→nS ops n rem≠[]
 |0,_,h,_=>by omega
 |n+1,[],_,_=>by simp[nS]
 |n+1,x::r,hl,ht=>by
  unfold nS;simp only;split
  ·rename_i y hy;have hm:=List.mem_of_find?_eq_some hy;have:=qF hm;have:=L7 (n:=n) (rem:=without (x::r) y.1) (by omega) (ht.without _)
   simpa using this
  ·intro e;have hm:x∈(x::r).filter fun z=>iX ops (x::r) z.1:=List.mem_filter.2 ⟨List.mem_cons_self ..,ht.ready⟩
   have:=qF (List.mem_cons_self (a:=x) (l:=r));have h2:=L7 (n:=n) (rem:=without (x::r) x.1) (by omega) (ht.without _)
   obtain⟨l,hl2⟩:=List.exists_mem_of_ne_nil _ h2;have:x.2::l∈([]:List (List G)):=by
    rw[←e];exact List.mem_flatMap.2 ⟨x,hm,List.mem_map.2 ⟨l,hl2,rfl⟩⟩
   simp at this
theorem HN{ops:Array Oper}: ∀{n:Nat}{rem:List (Nat×G)},rem.length<n→TopP ops rem→Cov ops rem (nS ops n rem)
 |0,_,h,_=>by omega
 |n+1,[],_,_=>by
  simp only[nS];exact .nil
 |n+1,x::r,hl,ht=>by
  unfold nS;simp only;split
  ·rename_i y hy;have hm:=List.mem_of_find?_eq_some hy;have hf:=List.find?_some hy;simp only[a1E,qA,List.all_eq_true,Bool.or_eq_true]at hf
   have:=qF hm;exact .one hm hf.1 hf.2 (HN (by omega) (ht.without _))
  ·refine .br (F:=fun y=>nS ops n (Zq.without (x::r) y.1)) (by simp) (fun y hm hr=>?_) (fun y hm hr=>?_) (fun y hm hr l hl=>?_)
   ·have:=qF hm;exact L7 (by omega) (ht.without _)
   ·have:=qF hm;exact HN (by omega) (ht.without _)
   ·exact List.mem_flatMap.2 ⟨y,List.mem_filter.2 ⟨hm,hr⟩,List.mem_map.2 ⟨l,hl,rfl⟩⟩
theorem bND{ops:Array Oper}{rem:List (Nat×G)}{L:List (List G)}(h:Cov ops rem L)(ht:TopP ops rem):L≠[]:=by
 induction h with
 |nil=>simp
 |one hx hr hs h ih=>
  have:=ih (ht.without _);simpa using this
 | @br rem LL F hne h1 h h3 _=>
   match rem,hne with
   |[],hne=>exact absurd rfl hne
   |x::r,_=>
    obtain⟨l,hl⟩:=List.exists_mem_of_ne_nil _ (h1 x (List.mem_cons_self ..) ht.ready);exact List.ne_nil_of_mem (h3 x (List.mem_cons_self ..) ht.ready l hl)
def Closed(ops:Array Oper)(rem:List (Nat×G)):Prop:= ∀z,z∉rem.map (·.1)→ ∀y∈rem,after? ops z y.1=false
theorem aQI{ops:Array Oper}{rem:List (Nat×G)}(hc:Closed ops rem){x:Nat×G}(hx:x∈rem): ∀{n j:Nat},(∀y∈rem,after? ops j y.1=false)→dep ops n j x.1=false
 |0,_,_=>rfl
 |n+1,j,h=>by
  unfold dep;cases ho:ops[j]? with
  |none=>rfl
  |some o=>
   simp only;rw[Array.any_eq_false];intro i hi;have hed:o.after[i]∈o.after:=Array.getElem_mem hi;generalize o.after[i]=e at hed;cases hb:Region.binds .any e with
   |false=>simp
   |true=>
    have hon:e.on∉rem.map (·.1):=by
     intro hm;obtain⟨y,hy,hye⟩:=List.mem_map.1 hm;have:=h y hy;simp only[after?,ho]at this;rw[Array.any_eq_false']at this;exact this e hed (by simp[hb,hye])
    have h1:(e.on==x.1)=false:=by
     simp only[beq_eq_false_iff_ne];intro e1;exact hon (e1▸List.mem_map_of_mem hx)
    have h2:=aQI hc hx (n:=n) (j:=e.on) (hc e.on hon);simp[h1,h2]
theorem CZ{ops:Array Oper}{rem:List (Nat×G)}{j:Nat}(h:iX ops rem j=true): ∀y∈rem,after? ops j y.1=false:=by
 simpa [iX]using h
theorem Closed.without{ops:Array Oper}{rem:List (Nat×G)}(hc:Closed ops rem){j:Nat}(hr:iX ops rem j=true):Closed ops (without rem j):=fun z hz y hy=>by
 have hy':=(nV.1 hy).1;by_cases e:z∈rem.map (·.1)
 ·obtain⟨x,hx,rfl⟩:=List.mem_map.1 e;have:x.1=j:=by
   refine Decidable.byContradiction fun hne=>?_
   exact hz (List.mem_map_of_mem (nV.2 ⟨hx,hne⟩))
  rw[this];exact CZ hr y hy'
 ·exact hc z e y hy'
theorem GS{ops:Array Oper}{rem:List (Nat×G)}{i j:Nat}(h:iX ops rem i=true):iX ops (without rem j) i=true:=by
 simp only[iX,List.all_eq_true,Bool.not_eq_true']at h⊢;exact fun y hy=>h y (nV.1 hy).1
theorem J4{rem:List (Nat×G)}{i j:Nat}:without (without rem i) j=without (without rem j) i:=by
 unfold without;rw[List.filter_filter,List.filter_filter]
 congr 1
 funext x
 exact Bool.and_comm _ _
theorem bWI{ops:Array Oper}(R:Rt){rem:List (Nat×G)}{L:List (List G)}(h:Cov ops rem L):Closed ops rem→TopP ops rem→ ∀x0∈rem,iX ops rem x0.1=true→
  ∃L',Cov ops (without rem x0.1) L'∧ ∀l'∈L',∃l∈L,∀σ σ',dU R l σ=some σ'→ ∃σ1 τ',kG R σ x0.2=some σ1∧dU R l' σ1=some τ'∧Eqv σ' τ':=by
 induction h with
 |nil=>intro _ _ x0 hx;simp at hx
 |one hx hr hs h ih=>
  rename_i rem x L;intro hc ht x0 hx0 hr0;have tail: ∀l∈L,∀σ σ',dU R (x.2::l) σ=some σ'→ ∃σ1,kG R σ x.2=some σ1∧dU R l σ1=some σ':=fun l _ σ σ' hl=>by
   simp only[dU,qB]at hl;exact hl
  by_cases e:x0.1=x.1
  ·have:x0=x:=by
    obtain⟨i,hi,hi'⟩:=List.mem_iff_getElem.1 hx0;obtain⟨j,hj,hj'⟩:=List.mem_iff_getElem.1 hx;have hij:i=j:=(List.getElem_inj (xs:=rem.map (·.1)) (h₀:=by simpa using hi) (h₁:=by simpa using hj) ht.nd).1 (by simp[hi',hj',e])
    subst hij;rw[←hi',←hj']
   subst this;refine⟨L,h,fun l' hl'=>⟨x0.2::l',List.mem_map.2 ⟨l',hl',rfl⟩,fun σ σ' hrun=>?_⟩⟩
   obtain⟨σ1,h1,h2⟩:=tail l' hl' σ σ' hrun;exact⟨σ1,σ',h1,h2,Eqv.refl _⟩
  ·have hx0':x0∈without rem x.1:=nV.2 ⟨hx0,e⟩;have hsw:aFQ x.2 x0.2=true:=by
    rcases hs x0 hx0' with h1|h1
    ·exact h1
    ·rw[aQI hc hx (CZ hr0)]at h1;simp at h1
   obtain⟨L'',k1,k2⟩:=ih (hc.without hr) (ht.without _) x0 hx0' (GS hr0);refine⟨L''.map (x.2:: ·), .one (nV.2 ⟨hx,fun e'=>e e'.symm⟩) (GS hr) (fun y hy=>hs y ?_) (by rw[J4];exact k1),fun l' hl'=>?_⟩
   ·rw[J4]at hy;exact(nV.1 hy).1
   ·obtain⟨l'',hl'',rfl⟩:=List.mem_map.1 hl';obtain⟨l,hl,hrun⟩:=k2 l'' hl'';refine⟨x.2::l,List.mem_map.2 ⟨l,hl,rfl⟩,fun σ σ' hr1=>?_⟩
    obtain⟨σa,h1,h2⟩:=tail l hl σ σ' hr1;obtain⟨σb,τ',h3,h4,h5⟩:=hrun σa σ' h2;obtain⟨τ1,τ2,m1,m2,m3⟩:=aJA R hsw h1 h3;obtain⟨υ,n1,n2⟩:=QY R m3 h4;refine⟨τ1,υ,m1,?_,h5.trans n2⟩;simp only[dU,qB];exact⟨τ2,m2,n1⟩
 |br hne h1 h h3 _=>
  intro hc ht x0 hx0 hr0;refine⟨_,h x0 hx0 hr0,fun l' hl'=>⟨x0.2::l',h3 x0 hx0 hr0 l' hl',fun σ σ' hrun=>?_⟩⟩
  simp only[dU,qB]at hrun;obtain⟨σ1,k1,k2⟩:=hrun;exact⟨σ1,σ',k1,k2,Eqv.refl _⟩
theorem QZ{σ τ:St}(h:Eqv σ τ): ∀l,keep σ.sl l=keep τ.sl l
 |[]=>rfl
 |n::r=>by simp only[keep,h.2 n,QZ h r]
theorem RA{σ τ:St}(h:Eqv σ τ){src:List Src}: ∀{l:List Nat}{m:Nat},lE σ src m l=lE τ src m l
 |[],_=>rfl
 |s::r,m=>by
  simp only[lE,h.2 s]
  congr 1
  funext v
  cases v<;>simp only[RA h (l:=r)]
theorem aX7{σ τ:St}(h:Eqv σ τ){nb:Nat}{kp:List Nat}{cn:Bool}:B5 nb kp cn σ=B5 nb kp cn τ:=by
 unfold B5;split
 ·split
  ·unfold trim;simp only[QZ h,h.1,h.2]
  ·have e2: ∀lv,oG σ lv=oG τ lv:=fun lv=>by
    unfold oG;simp only[h.2]
   unfold canon;simp only[e2,h.1,RA h]
 ·unfold trim;simp only[QZ h,h.1,h.2]
theorem XY{R:Rt}{nb:Nat}{kp:List Nat}{cn:Bool}: ∀{ls:List (List G)}{σ c:St},oY R nb kp cn ls σ=some c→ ∀l∈ls,(dU R l σ).bind (B5 nb kp cn)=some c
 |[],_,_,h=>by simp[oY]at h
 |[l],σ,c,h=>by
  simp only[oY,qB,Option.some.injEq]at h;obtain⟨x,h1,rfl⟩:=h;intro l' hl';obtain rfl:=by simpa using hl'
  simpa only[qB]using h1
 |l::m::r,σ,c,h=>by
  unfold oY at h;rw[qB]at h;obtain⟨x,h1,h⟩:=h;simp only at h;rw[qB]at h;obtain⟨y,h2,h3⟩:=h;split at h3
  case isFalse=>simp at h3
  rename_i e;subst e;obtain rfl:=Option.some.inj h3;intro l' hl';rcases List.mem_cons.1 hl' with rfl|hl'
  ·exact h1
  ·exact XY h2 l' hl'
section
variable{P:Program}{w0:World}{W:Nat→Nat→Prop}{S0:Rds}{ρ0:Rho}{nb N:Nat}{ρ:Rho}{S:Rds}{σ τ:St}{a:Act}{w:World}{R:Rt}
theorem aX8(h:Sim w0 W S0 ρ0 nb N ρ S σ a w){kp:List Nat}{cn:Bool}{c:St}(hc:B5 nb kp cn σ=some c): ∃ρ',Sim w0 W S0 ρ0 nb N ρ' S c a w:=by
 unfold B5 at hc;split at hc
 ·split at hc
  ·split at hc
   ·exact(h.trim _).perm hc
   ·simp at hc
  ·exact h.canon hc
 ·split at hc
  ·obtain rfl:=Option.some.inj hc;exact⟨ρ,h.trim _⟩
  ·simp at hc
theorem bD2(hR:pF P R){md:FuncId→Nat→Bool}{ops:Array Oper}{Q:Go.Exit→Act→World→Prop}{pm:List (Nat×G)}(htop:TopP ops pm)(hc: ∀x∈pm,∃o,ops[x.1]? =some o∧GN P N md true ops o=some x.2)
  (hon: ∀x∈pm,∀o,ops[x.1]? =some o→ ∀ed∈o.after,Region.binds .any ed=true→ed.on<ops.size) (hall: ∀i,i<ops.size→i∈pm.map (·.1)) {kp:List Nat} {cn:Bool} {c:St} (hQ: ∀ρ S a w,Sim w0 W S0 ρ0 nb N ρ S c a w→Q .normal a w): ∀(fuel:Nat)(listed:Array Bool)(ρ:Rho)(S:Rds)(σ:St)(a:Act)(w:World)(L:List (List G)),listed.size=ops.size→Sim w0 W S0 ρ0 nb N ρ S σ a w→
    Cov ops (rem pm listed) L→Closed ops (rem pm listed)→(∀l∈L,(dU R l σ).bind (B5 nb kp cn)=some c)→(rem pm listed).length≤fuel→wpAny P .any ops Q fuel listed a w:=by
 have lt: ∀x∈pm,x.1<ops.size:=fun x hx=>by
  obtain⟨o,ho,-⟩:=hc x hx;exact(Array.getElem?_eq_some_iff.1 ho).1
 have topR: ∀listed,TopP ops (rem pm listed):=fun listed=>⟨fun x hx=>htop.irr x (List.mem_filter.1 hx).1,htop.pw.sublist List.filter_sublist,(List.Sublist.map _ List.filter_sublist).nodup htop.nd⟩
 have inRem: ∀listed:Array Bool,listed.size=ops.size→ ∀i,i∈Region.ready .any ops listed→ ∃g,(i,g)∈rem pm listed∧iX ops (rem pm listed) i=true:=fun listed hsz i hi=>by
  unfold Region.ready at hi;rw[List.mem_filter]at hi;obtain⟨h1,h2⟩:=hi;simp only[qA]at h2;obtain⟨x,hx,rfl⟩:=List.mem_map.1 (hall i (by simpa using h1))
  refine⟨x.2,List.mem_filter.2 ⟨hx,h2.1⟩,?_⟩;obtain⟨o,ho,-⟩:=hc x hx;simp only[iX,List.all_eq_true,Bool.not_eq_true'];intro y hy;simp only[after?,ho];rw[Array.any_eq_false'];intro ed hed hb;simp only[qA,beq_iff_eq]at hb;obtain⟨hb1,hb2⟩:=hb;have h3:=h2.2;rw[ho]at h3;simp only[Option.map_some,Option.getD_some]at h3;have:=Array.all_eq_true'.1 h3 ed hed;rw[hb1,hb2]at this;have hny:=(List.mem_filter.1 hy).2;have hyl:=lt y (List.mem_filter.1 hy).1;rw[←hsz]at hyl;simp only[Array.getD_eq_getD_getElem?,hyl,Array.getElem?_eq_getElem,Option.getD_some,Bool.not_true,Bool.false_or]at hny this;rw[this]at hny;simp at hny
 have noReady: ∀listed:Array Bool,listed.size=ops.size→Region.ready .any ops listed=[]→rem pm listed=[]:=fun listed hsz hr=>by
  cases hrem:rem pm listed with
  |nil=>rfl
  |cons x r=>
   exfalso;have hx:x∈rem pm listed:=by rw[hrem];simp
   have hxm:=(List.mem_filter.1 hx).1;have ht:=topR listed;rw[hrem]at ht;have hrd:=ht.ready;obtain⟨o,ho,-⟩:=hc x hxm;have:x.1∈Region.ready .any ops listed:=by
    unfold Region.ready;rw[List.mem_filter];refine⟨by simpa using lt x hxm,?_⟩
    simp only[qA];refine⟨(List.mem_filter.1 hx).2,?_⟩;rw[ho];simp only[Option.map_some,Option.getD_some];rw[Array.all_eq_true'];intro ed hed;cases hb:Region.binds .any ed with
    |false=>rfl
    |true=>
     simp only[Bool.not_true,Bool.false_or];cases hl:listed.getD ed.on false with
     |true=>rfl
     |false=>
      exfalso;by_cases hlt:ed.on<ops.size
      ·obtain⟨y,hy,hye⟩:=List.mem_map.1 (hall ed.on hlt);have hyr:y∈rem pm listed:=by
        refine List.mem_filter.2 ⟨hy,?_⟩;rw[hye];rw[←hsz]at hlt;simp only[Array.getD_eq_getD_getElem?,hlt,Array.getElem?_eq_getElem,Option.getD_some]at hl⊢;simp[hl]
       rw[hrem]at hyr;have:=CZ hrd y hyr;simp only[after?,ho]at this;rw[Array.any_eq_false']at this;exact this ed hed (by simp[hb,hye])
      ·exact hlt (hon x hxm o ho ed hed hb)
   rw[hr]at this;simp at this
 have fin: ∀(L:List (List G))(ρ:Rho)(S:Rds)(σ:St)(a:Act)(w:World),Cov ops [] L→Sim w0 W S0 ρ0 nb N ρ S σ a w→(∀l∈L,(dU R l σ).bind (B5 nb kp cn)=some c)→Q .normal a w:=fun L ρ S σ a w hcov hs hrun=>by
  have:([]:List G)∈L:=by
   generalize e:([]:List (Nat×G))=z at hcov;cases hcov with
   |nil=>simp
   |one hx=>subst e;simp at hx
   |br hne=>exact absurd e.symm hne
  have h1:=hrun [] this;simp only[dU,Option.bind_some]at h1;obtain⟨ρ',h2⟩:=aX8 hs h1;exact hQ _ _ _ _ h2
 intro fuel
 induction fuel with
 |zero=>
  intro listed ρ S σ a w L hsz hs hcov hcl hrun hlen;have hrem:rem pm listed=[]:=List.eq_nil_of_length_eq_zero (by omega)
  refine⟨?_,?_⟩
  ·cases hrd:Region.ready .any ops listed with
   |nil=>rfl
   |cons i r=>
    obtain⟨g,hg,-⟩:=inRem listed hsz i (by rw[hrd];simp)
    rw[hrem]at hg;simp at hg
  ·rw[hrem]at hcov;exact fin L ρ S σ a w hcov hs hrun
 |succ fuel ih=>
  intro listed ρ S σ a w L hsz hs hcov hcl hrun hlen;refine⟨fun hr=>?_,fun i hi=>?_⟩
  ·rw[noReady listed hsz hr]at hcov;exact fin L ρ S σ a w hcov hs hrun
  ·obtain⟨g,hg,hrd⟩:=inRem listed hsz i hi;obtain⟨L',k1,k2⟩:=bWI R hcov hcl (topR listed) (i,g) hg hrd;obtain⟨l0,hl0⟩:=List.exists_mem_of_ne_nil _ (bND k1 ((topR listed).without _));have each: ∀l'∈L',∃σ1 τ',kG R σ g=some σ1∧dU R l' σ1=some τ'∧B5 nb kp cn τ'=some c:=fun l' hl'=>by
    obtain⟨l,hl,h1⟩:=k2 l' hl';have h2:=hrun l hl;rw[qB]at h2;obtain⟨σ',h3,h4⟩:=h2;obtain⟨σ1,τ',m1,m2,m3⟩:=h1 σ σ' h3;exact⟨σ1,τ',m1,m2,by rw[←aX7 m3];exact h4⟩
   obtain⟨σ1,-,h1,-,-⟩:=each l0 hl0;have hrem':rem pm (listed.setIfInBounds i true)=without (rem pm listed) i:=by
    unfold rem without;rw[List.filter_filter];apply List.filter_congr;intro x hx;have hxl:=lt x hx;rw[←hsz]at hxl;by_cases e:x.1=i
    ·subst e;simp[Array.getD_eq_getD_getElem?,hxl]
    ·have e':¬i=x.1:=fun h=>e h.symm
     simp[Array.getD_eq_getD_getElem?,e,e',hxl,Array.getElem_setIfInBounds]
   obtain⟨o,ho,hco⟩:=hc (i,g) (List.mem_filter.1 hg).1;simp only at ho hco;unfold wpOp;rw[ho];simp only;refine PO hR hs hco h1 fun ρ1 S1 a1 w1 hs1=>?_
   refine ih (listed.setIfInBounds i true) ρ1 S1 σ1 a1 w1 L' (by simpa using hsz) hs1 (by rw[hrem'];exact k1) (by rw[hrem'];exact hcl.without hrd) (fun l' hl'=>?_) ?_
   ·obtain⟨σ1',τ',m1,m2,m3⟩:=each l' hl';rw[h1]at m1;obtain rfl:=Option.some.inj m1;rw[m2];exact m3
   ·rw[hrem'];have:=qF hg;simp only at this;omega
theorem aQJ{ops:Array Oper}: ∀{r seen:List Nat},bDT ops seen r=true→(∀x∈r,x∉seen)∧r.Nodup∧r.Pairwise (fun x y=>after? ops x y=false)∧(∀x∈r,after? ops x x=false)∧
  (∀x∈r,∀o,ops[x]? =some o→ ∀ed∈o.after,Region.binds .any ed=true→ed.on∈seen++r)
 |[],seen,_=>by simp
 |x::r,seen,h=>by
  simp only[bDT,qA,decide_eq_true_eq]at h;obtain⟨⟨h1,h2⟩,h3⟩:=h;obtain⟨a1,a2,a3,a4,a5⟩:=aQJ h3;have key: ∀y,y∉seen→after? ops x y=false:=fun y hy=>by
   unfold after?;cases ho:ops[x]? with
   |none=>rfl
   |some o=>
    rw[ho]at h2;simp only at h2⊢;rw[Array.any_eq_false'];intro ed hed hb;simp only[qA,beq_iff_eq]at hb;have:=Array.all_eq_true'.1 h2 ed hed;rw[hb.1,hb.2]at this;simp[hy]at this
  refine⟨fun y hy=>?_,?_,?_,fun y hy=>?_,fun y hy o ho ed hed hb=>?_⟩
  ·rcases List.mem_cons.1 hy with rfl|hy
   ·exact h1
   ·exact fun hs=>a1 y hy (List.mem_append_left _ hs)
  ·refine List.nodup_cons.2 ⟨fun hx=>a1 x hx (by simp),a2⟩
  ·refine List.pairwise_cons.2 ⟨fun y hy=>key y fun hs=>a1 y hy (List.mem_append_left _ hs),a3⟩
  ·rcases List.mem_cons.1 hy with rfl|hy
   ·exact key y h1
   ·exact a4 y hy
  ·rcases List.mem_cons.1 hy with rfl|hy
   ·rw[ho]at h2;have:=Array.all_eq_true'.1 h2 ed hed;rw[hb]at this;have hm:ed.on∈seen:=by simpa using this
    exact List.mem_append_left _ hm
   ·have:=a5 y hy o ho ed hed hb
    rwa [List.append_assoc,List.singleton_append]at this
theorem XZ(hm:P.follows .mixedOrders=true):QQ P:=by
 intro N md ops pm l hl hok R hR w0 W S0 ρ0 nb ρ S σ c a w hs kp cn hdr t Q hQ;unfold a1F at hok;simp only[qA,decide_eq_true_eq]at hok;obtain⟨⟨c1,c2⟩,c3⟩:=hok;obtain⟨z1,z2⟩:=QV hl;have hfst:(pm.zip l).map (·.1)=pm:=by rw[←List.unzip_fst,List.unzip_zip (by omega)]
 obtain⟨t1,t2,t3,t4,t5⟩:=aQJ c3;have hin: ∀x∈pm.zip l,x.1∈pm:=fun x hx=>by rw[←hfst];exact List.mem_map_of_mem hx
 have htop:TopP ops (pm.zip l):=by
  refine⟨fun x hx=>t4 _ (hin x hx),?_,by rw[hfst];exact t2⟩
  have:=t3;rw[←hfst,List.pairwise_map]at this;exact this
 have hon: ∀x∈pm.zip l,∀o,ops[x.1]? =some o→ ∀ed∈o.after,Region.binds .any ed=true→ed.on<ops.size:=fun x hx o ho ed hed hb=>by
  have h1:=t5 x.1 (hin x hx) o ho ed hed hb;rw[List.nil_append,←hfst]at h1;obtain⟨y,hy,hye⟩:=List.mem_map.1 h1;obtain⟨o',ho',-⟩:=z2 y hy;rw[←hye];exact(Array.getElem?_eq_some_iff.1 ho').1
 have hall: ∀i,i<ops.size→i∈(pm.zip l).map (·.1):=fun i hi=>by
  rw[hfst];have:=List.all_eq_true.1 c2 i (by simpa using hi)
  simpa using this
 have hrem:rem (pm.zip l) (Array.replicate ops.size false)=pm.zip l:=by
  unfold rem;rw[List.filter_eq_self];intro x hx;obtain⟨o,ho,-⟩:=z2 x hx;have hlt:=(Array.getElem?_eq_some_iff.1 ho).1;simp[Array.getD_eq_getD_getElem?,hlt]
 have hlen:(pm.zip l).length=ops.size:=by rw[List.length_zip];omega
 simp only[Region.schedule,hm,Bool.true_or,if_true];refine wpAny_sound ops.size t _ a _ (bD2 hR htop z2 hon hall (kp:=kp) (cn:=cn) (c:=c) (fun ρ S a w h=>hQ ρ S a w h) ops.size _ ρ S σ a _ _ (by simp) (hs.drawn rfl rfl rfl rfl) (by rw[hrem];exact HN (by omega) htop) ?_ (XY hdr) (by rw[hrem];omega))
 rw[hrem];intro z hz y hy;unfold after?;cases ho:ops[z]? with
 |none=>rfl
 |some o=>exact absurd (hall z (Array.getElem?_eq_some_iff.1 ho).1) hz
theorem O9(hm:P.follows .mixedOrders=true):DrawSound P quiet? :=⟨rZ hm,XZ hm⟩
end
end Go.Zq

namespace Go.Zq
open Go
def allS(w:World):Rds:=fun _ b=>b<w.heap.size
def noRho:Rho:=fun _=>none
def ints(k:IntKind)(zs:List Int):T:= .imm true 1 (zs.map fun z=>[.lit (.int k z)])
theorem ints_ri{w:World}{k:IntKind}{x:Addr}{len cap:Nat}{zs:List Int}(hl:len≤cap)(hz:zs.length=cap)(hc: ∀i,i<zs.length→w.cell? (x.add i)=some (.int k (zs.getD i 0))):
  RI w (allS w) (ints k (zs.take len)) (.slice (some x) len cap):=by
 by_cases h0:len=0
 ·subst h0;simp only[List.take_zero,ints,List.map_nil];exact .nil
 ·have hx:x.spot=none:=by
   have:=hc 0 (by omega)
   obtain⟨b,o,s⟩:=x;cases s with
   |none=>rfl
   |some s=>
    exfalso;simp only[Addr.add,World.cell?]at this;split at this<;>simp_all
  obtain⟨b,o,s⟩:=x;simp only at hx;subst hx;have hcell: ∀i,i<len→w.cell? ⟨b,o+i,none⟩=some (.int k (zs.getD i 0)):=fun i hi=>by
   have:=hc i (by omega)
   rwa [Addr.add_at rfl]at this
  have hb:b<w.heap.size:=by
   obtain⟨c,e,z,hc,-⟩:=P7 (hcell 0 (by omega))
   exact objLt hc
  have hlen:((zs.take len).map fun z=>([.lit (.int k z)]:Row)).length=len:=by simp;omega
  have key: ∀(j q:Nat)(t:T),(((zs.take len).map fun z=>([.lit (.int k z)]:Row))[j]?).bind (·[q]?)=some t→j<len∧q=0∧t= .lit (.int k (zs.getD j 0)):=fun j q t ht=>by
   obtain⟨r,hr,hq⟩:=hD ht;have hj:j<len:=by rw[←hlen];exact(List.getElem?_eq_some_iff.1 hr).1
   rw[List.getElem?_map,List.getElem?_take_of_lt hj,List.getElem?_eq_getElem (by omega)]at hr
   simp only[Option.map_some,Option.some.injEq]at hr;subst hr;cases q with
   |succ q=>simp at hq
   |zero=>
    simp only[List.getElem?_cons_zero,Option.some.injEq]at hq;refine⟨hj,rfl,?_⟩;rw[←hq];simp[List.getD_eq_getElem?_getD,show j<zs.length by omega]
  have:=RI.imm (w:=w) (S:=allS w) (p:=true) (rows:=(zs.take len).map fun z=>([.lit (.int k z)]:Row)) (b:=b) (off:=o) (cap:=cap) (sz:=1) (g:=fun j _=> .int k (zs.getD j 0)) hb (by omega)
   (fun r hr=>by obtain⟨z,-,rfl⟩:=List.mem_map.1 hr;rfl) (fun r hr=>by obtain⟨z,-,rfl⟩:=List.mem_map.1 hr;rfl)
   (fun j q t ht=>by obtain⟨hj,rfl,rfl⟩:=key j q t ht;rw[←hcell j hj];simp) (fun j q t ht=>by obtain⟨hj,rfl,rfl⟩:=key j q t ht;exact .lit rfl)
  rw[hlen]at this;exact this
theorem entry_row(P:Program){w:World}{args:List SV}{us:List Value}(hn:args.length=us.length)(h: ∀(k:Nat)(v:SV)(u:Value),args[k]? =some v→us[k]? =some u→RS noRho w (allS w) v u):
  Entry P w noRho (allS w) args [] us:=
 ⟨⟨fun id x hx=>by simp at hx,fun _ _ _ _ _ _ _ hi=>by obtain⟨x,hx,-⟩:=hi;simp at hx,fun _ _ _ _ _ hj=>by obtain⟨x,hx,-⟩:=hj;simp at hx,fun p b h=>h,fun b h=>h,fun _ _=>rfl⟩,hn,h⟩
theorem law_calls{P:Program}{R:Rt}(hR:pF P R){f:FuncId}{args:List SV}{us:List Value}{w:World}(he:Entry P w noRho (allS w) args [] us)(h:R f args []=some (.one (B true),[]))(hf5:f<50000:=by decide):
  Calls P f us.toArray w fun e w'=>e= .returned (.bool true)∧RowKit.Below w.heap.size w w':=by
 refine(((hR f args [] _ _ h).1 hf5).2 w _ _ us he).mono fun e w' hx=>?_
 cases e with
 |returned u=>
  obtain⟨ρ',S',hrs,-,hk,-⟩:=hx;have hu:u= .bool true:=lF hrs rfl;refine⟨by rw[hu],hk.os,hk.tape,hk.output,hk.size,fun b hb=>hk.same hb fun o hw=>?_⟩
  obtain⟨i,L,hi,-⟩:=hw;obtain⟨x,hx,-⟩:=hi;simp at hx
 |panicked _=>exact hx.elim
 |outgrown=>exact hx.elim
end Go.Zq

namespace Go.Zq
open Go
def J5(n:Nat):List (Nat×List Nat)→Option (List Nat)
 |[]=>none
 |(m,v)::r=>if m=n then some v else J5 n r
def a18(lv kp pm:List (Nat×List Nat))(own:List (Nat×List Nat)):Hint:=
 ⟨fun n=>(J5 n lv).getD [],fun f k=>decide (k∈(J5 f own).getD []),fun n=>(J5 n pm).getD [],fun n=>J5 n kp⟩
end Go.Zq
