import Derived.Test.YtdicpjkdpliofaaGreatRows
import Derived.Test.YtdicpjkdpliofaaGreatZqBoundariesM
import Derived.Test.YtdicpjkdpliofaaGreatZmb
import Derived.WalkKit
import Derived.ProofKit
import Derived.OpenShut
import Derived.ShutString
import Derived.ChangeOld
import Derived.Below
import Derived.SizedLaws
import Derived.KernelRfl
set_option linter.unusedVariables false
set_option linter.unusedSimpArgs false
namespace Go.Proofs.YtdicpjkdpliofaaGreat.fnBoundaries
open Go.ChangeShapes Go.WideShapes Go.ChangeAt Go.RowKit
open Go.ChangeMaps (open_string shut_string)
set_option linter.unusedVariables false
theorem own:ownKnob Tryz.prog.godebug=none:=by kernel_rfl
theorem aXS:laidOutB Tryz.prog=true:=by kernel_rfl
def aIM(k:IntKind)(w:World)(a:Option Addr)(len cap:Nat)(zs:List Int):Prop:=
 (a=none∧len=0∧cap=0∧zs=[])∨
 ∃x,a=some x∧len≤cap∧cap≤maxLen∧zs.length=cap∧(∀i,i<zs.length→w.cell? (x.add i)=some (.int k (zs.getD i 0)))∧ ∀n∈zs,(Lit.int k n).wf=true
theorem bDM{zs:List Int}(h: ∀n∈zs,(Lit.int .u8 n).wf=true)(k:Nat):Go.Zq.bytesOk ((zs.take k).map fun z=>[.lit (.int .u8 z)])=true:=by
 simp only[Go.Zq.bytesOk,List.all_map,List.all_eq_true];intro z hz;have:=h z (List.mem_of_mem_take hz);simp[Lit.wf,IntKind.min,IntKind.max,IntKind.bits,IntKind.signed]at this;simp[Go.Zq.byteRow];omega
theorem bDN{w:World}{a:Option Addr}{len cap:Nat}{zs:List Int}(h:aIM .u8 w a len cap zs): ∃ys:List Int,Go.Zq.bytesOk (ys.map fun z=>[.lit (.int .u8 z)])=true∧ys.length≤maxLen∧Go.Zq.RI w (Go.Zq.allS w) (Go.Zq.ints .u8 ys) (.slice a len cap):=by
 rcases h with⟨rfl,rfl,rfl,rfl⟩|⟨x,rfl,h1,h2,h3,h4,h5⟩
 ·exact⟨[],rfl,Nat.zero_le _, .nil⟩
 ·exact⟨zs.take len,bDM h5 len,by rw[List.length_take];omega,Go.Zq.ints_ri h1 h3 h4⟩
theorem cDT(W:World){a0:Option Addr}{len0 cap0:Nat}{z0:List Int}(w0:aIM .u8 W a0 len0 cap0 z0){a1:Option Addr}{len1 cap1:Nat}{z1:List Int}(w1:aIM .u8 W a1 len1 cap1 z1):Calls Tryz.prog 4 #[.slice a0 len0 cap0, .slice a1 len1 cap1] W fun e W'=>e= .returned (.bool true)∧Below W.heap.size W W':=by
 obtain⟨y0,b0,c0,r0⟩:=bDN w0;obtain⟨y1,b1,c1,r1⟩:=bDN w1;have he:Go.Zq.Entry Tryz.prog W Go.Zq.noRho (Go.Zq.allS W) [.one (Go.Zq.ints .u8 y0), .one (Go.Zq.ints .u8 y1)] [] [.slice a0 len0 cap0, .slice a1 len1 cap1]:=Go.Zq.entry_row _ rfl fun k v u hv hu=>by
  match k with
  |0=>
   simp only[List.getElem?_cons_zero,List.getElem?_cons_succ,Option.some.injEq]at hv hu;subst hv hu;exact .one (.ri r0)
  |1=>
   simp only[List.getElem?_cons_zero,List.getElem?_cons_succ,Option.some.injEq]at hv hu;subst hv hu;exact .one (.ri r1)
  |k+2=>simp at hv
 refine Go.Zq.law_calls (P:=Tryz.prog) YtdicpjkdpliofaaGreatBoundaries.sound he (YtdicpjkdpliofaaGreatBoundaries.law _ _ b0 b1 c0 c1)
set_option maxRecDepth 100000 in
theorem bV5(os:Os)(started:os.Started)(H:Type)(enc:TypeId×Value→H):
  ReturnsInHanded {} Tryz.checked os 4 .any (Rows.fnBoundariesSpec.pre6 enc Tryz.prog Tryz.f4 Rows.fnBoundariesRow.domain false) (Rows.fnBoundariesSpec.post enc Tryz.prog Tryz.f4 false true false false):=by
 refine returnsInHanded_of_change_sized (C:=Tryz.checked) own started (by kernel_rfl) Tryz.func4
  (ChangeSpec.witness6 (enc:=enc) (C:=Tryz.checked) false ⟨#[], #[.slice none 0 0, .slice none 0 0],[]⟩ 8 (by kernel_rfl) (by kernel_rfl) (by kernel_rfl) (by kernel_rfl)) ?_
 intro W base args ds gs before hval0 hW hcnd hsz0 _;have hval: ∀(j:Nat) t v,Tryz.f4.params[j]? =some t→args[j]? =some v→Value.okWide Tryz.prog W .any base t v:=hval0;have hW':=hW;obtain⟨p,q,hA0,hV,rfl,hfz,hnd⟩:=hW;have hA:DataW.TrodAll enc Tryz.prog W 0 (fun _=>true) true Tryz.f4.params.toList args.toList ds p:=hA0
 rw[Tryz.params4]at hA hval;obtain⟨v0,vs0,d0,ds0,p0,q0,hargs,rfl,rfl,h0,r0⟩:=trodAll_cons hA;obtain⟨v1,vs1,d1,ds1,p1,q1,rfl,rfl,rfl,h1,r1⟩:=trodAll_cons r0;obtain⟨rfl,rfl,rfl⟩:=trodAll_nil r1;obtain rfl:args= #[v0,v1]:=by cases args;simp_all
 obtain⟨rfl,rfl⟩:=trodVars_none hV;obtain⟨a0,len0,cap0,rfl⟩:=okWide_slice Tryz.underlying22 (hval 0 22 v0 rfl rfl);have k0:=h0;have lt0: ∀x∈p0,x.block<W.heap.size:=by obtain⟨m,hm⟩:=k0;exact DataW.trod_lt m _ _ _ hm
 obtain⟨z0,w0⟩: ∃zs,aIM .u8 W a0 len0 cap0 zs:=by
  obtain⟨fuel,hf⟩:=h0;rcases open_ints Tryz.underlying22 Tryz.underlying5 (by kernel_rfl) hf with⟨hcs,_⟩|⟨x,l,c,zs,hcs,_,hl,hm,hz,_,hcell,hwz⟩
  ·simp[Value.cells]at hcs;obtain⟨rfl,rfl,rfl⟩:=hcs;exact⟨[], .inl ⟨rfl,rfl,rfl,rfl⟩⟩
  ·simp[Value.cells]at hcs;obtain⟨rfl,rfl,rfl⟩:=hcs;exact⟨zs, .inr ⟨_,rfl,hl,hm,by simpa using hz,hcell,hwz⟩⟩
 obtain⟨a1,len1,cap1,rfl⟩:=okWide_slice Tryz.underlying22 (hval 1 22 v1 rfl rfl);have k1:=h1;have lt1: ∀x∈p1,x.block<W.heap.size:=by obtain⟨m,hm⟩:=k1;exact DataW.trod_lt m _ _ _ hm
 obtain⟨z1,w1⟩: ∃zs,aIM .u8 W a1 len1 cap1 zs:=by
  obtain⟨fuel,hf⟩:=h1;rcases open_ints Tryz.underlying22 Tryz.underlying5 (by kernel_rfl) hf with⟨hcs,_⟩|⟨x,l,c,zs,hcs,_,hl,hm,hz,_,hcell,hwz⟩
  ·simp[Value.cells]at hcs;obtain⟨rfl,rfl,rfl⟩:=hcs;exact⟨[], .inl ⟨rfl,rfl,rfl,rfl⟩⟩
  ·simp[Value.cells]at hcs;obtain⟨rfl,rfl,rfl⟩:=hcs;exact⟨zs, .inr ⟨_,rfl,hl,hm,by simpa using hz,hcell,hwz⟩⟩
 clear hA0 hval0 hsz0
 refine(cDT W w0 w1).mono fun e W' ⟨he,bel⟩=>?_
 subst he;exact⟨_,rfl,_,_,_,[],_,[],hW',trodAll_mk1 (shut_bool Tryz.underlying4 _),(trodAll_cons_mk (Below.trod aXS (by kernel_rfl) (of_decide_eq_true (by kernel_rfl)) k0 bel lt0) (trodAll_cons_mk (Below.trod aXS (by kernel_rfl) (of_decide_eq_true (by kernel_rfl)) k1 bel lt1) trodAll_mk0)),rfl,bel.frame _,fun h=>by cases h⟩
theorem j1:(Rows.fnBoundariesRow.inPlace==Tryz.pinned.checked.prog.inPlace 4)=true:=by kernel_rfl
theorem j2:(Rows.fnBoundariesRow.unfollowed==Tryz.pinned.checked.prog.unfollowed 4)=true:=by kernel_rfl
theorem j3:(Rows.fnBoundariesRow.recurses==Tryz.pinned.checked.prog.recurses 4)=true:=by kernel_rfl
theorem j4:(Rows.fnBoundariesRow.named==Tryz.pinned.checked.prog.varsNamed 4)=true:=by kernel_rfl
theorem jj:joinedFacts Tryz.pinned.checked.prog 4 Tryz.f4 Rows.fnBoundariesSpec Rows.fnBoundariesRow=true:=by
 unfold joinedFacts;rw[j1,j2,j3,j4]
 kernel_rfl
theorem cDU:Rows.fnBoundariesRow.holds Tryz.pinned (OpenSpec.ofChange Rows.fnBoundariesSpec):=
 OpenClaim.holds_of_wide 4 Tryz.f4 rfl rfl rfl rfl rfl rfl rfl ⟨rfl,rfl,rfl,rfl,rfl⟩ rfl rfl rfl rfl rfl (by kernel_rfl) Tryz.func4 jj
  (of_decide_eq_true (by kernel_rfl)) (by unfold Func.isWrapper;first|(rw[if_pos (by decide+kernel)];kernel_rfl)|(rw[if_neg (by decide+kernel)];exact⟨rfl,rfl⟩))
  (fun os started H enc _=>bV5 os started H enc)
theorem proved:Rows.FnBoundariesSaid:=cDU
end Go.Proofs.YtdicpjkdpliofaaGreat.fnBoundaries
namespace Go.Proofs.YtdicpjkdpliofaaGreat
theorem fnBoundaries_holds:Rows.FnBoundariesSaid:=fnBoundaries.proved
#print axioms fnBoundaries_holds
end Go.Proofs.YtdicpjkdpliofaaGreat
