import Derived.Test.YtdipcnijfkdnfaaGreatZqTabFrames
import Derived.Test.YtdipcnijfkdnfaaGreatZmc
set_option linter.unusedVariables false
set_option linter.unusedSimpArgs false
namespace Go.Proofs.YtdipcnijfkdnfaaGreatFrames
open Go Go.Zq
noncomputable def R:Rt:=run (aS aW) (sA H6)
theorem a0Z{f:FuncId}{cf:Zq.Fn}(hf:aS aW f=some cf){args:List SV}{hp:List Blk}{r:SV×List Blk}(n:Nat)(h:cf.run R n args hp=some r):R f args hp=some r:=aQ2 hf h
noncomputable def aRI:C:=dW F4.body 0
noncomputable def aCN:C:=dW F14.body 0
noncomputable def aCO:C:=dW F93.body 0
noncomputable def aCP:C:=dW F93.body 1
noncomputable def PB:C:=dW F102.body 0
noncomputable def PD:C:=dW F103.body 0
noncomputable def PE:C:=dW F149.body 0
noncomputable def PF:C:=dW F149.body 1
noncomputable def PG:C:=dW F150.body 0
noncomputable def PH:C:=dW F155.body 0
noncomputable def PI:C:=dW F157.body 0
noncomputable def xR:C:=dW F164.body 0
noncomputable def PJ:C:=dW F185.body 0
noncomputable def PK:C:=dW F201.body 0
noncomputable def PL:C:=dW F202.body 0
noncomputable def PM:C:=dW F206.body 0
noncomputable def PN:C:=dW F209.body 0
noncomputable def xS:C:=dW F227.body 0
noncomputable def PO:C:=dW F228.body 0
theorem dK{lq:Lp}{x:C}{n:Nat}{g:St→Option Out}(hx:gK x=n)(h:bN (hX lq n) g):bN (hX lq (gK x)) g:=by rw[hx];exact h
def bX(f:Nat)(q:List SV→List Blk→Option ((SV×List Blk)×Bool)):Prop:= ∀args hp r,q args hp=some (r,true)→cF R f args hp=some r
@[match_pattern] abbrev li(z:Int):T:= .lit (.int .i64 z)
abbrev QO(Q:Qt):Prop:=O1 (cF R) Q
theorem UN{f:FuncId}{cf:Zq.Fn}(hf:aS aW f=some cf){Q:Qt}(hQ:QO Q){lq:Lp}{args:List SV}{hp:List Blk}{nb:Nat}(hL:dN (fun live x=>bN (hX lq (gK x)) (dI R nb 2097152 (.loop live x))) cf.body)(kd:List (Nat×List Kd))(cl:List Nat)(mg:Bool){γ:Type}(T:Pt γ)(nn:γ→SV×List Blk)(hk:hid T.okv=true)(hb:cJ hp=nb:=by kernel_rfl)(h:f<100000:=by decide)(e:fnP Q kd cl mg lq 2097152 cf args hp=some (T.map nn):=by kernel_rfl):cF R f args hp=some (nn (hid T.val)):=by subst hb;exact(CF h).trans (a0Z hf 2097152 (a0X hQ hL e rfl hk))
theorem tc{f:FuncId}{cf:Zq.Fn}(hf:aS aW f=some cf){Q:Qt}(hQ:QO Q){args:List SV}{hp:List Blk}(kd:List (Nat×List Kd))(cl:List Nat)(mg:Bool){γ:Type}(T:Pt γ)(nn:γ→SV×List Blk)(hk:hid T.okv=true)(h:f<100000:=by decide)(hl:hY cf.body=[]:=by kernel_rfl)(e:fnP Q kd cl mg [] 2097152 cf args hp=some (T.map nn):=by kernel_rfl):cF R f args hp=some (nn (hid T.val)):=UN hf hQ (bH (l:=[]) hl trivial) kd cl mg T nn hk rfl h e
theorem tzl{f:FuncId}{cf:Zq.Fn}(hf:aS aW f=some cf){Q:Qt}(hQ:QO Q){lq:Lp}{args:List SV}(hL:dN (fun live x=>bN (hX lq (gK x)) (dI R (cJ []) 2097152 (.loop live x))) cf.body)(kd:List (Nat×List Kd))(cl:List Nat)(mg:Bool){γ:Type}(T:Pt γ)(nn:γ→SV×List Blk)(hk:hid T.okv=true)(e:fnZ Q kd cl mg lq 2097152 cf args=some (T.map nn):=by kernel_rfl):cF R (f+100000) args []=some (nn (hid T.val)):=a0Y (f:=f) hQ hL e rfl hk (fun r h=>a0Z hf 2097152 h)
theorem tz{f:FuncId}{cf:Zq.Fn}(hf:aS aW f=some cf){Q:Qt}(hQ:QO Q){args:List SV}(kd:List (Nat×List Kd))(cl:List Nat)(mg:Bool){γ:Type}(T:Pt γ)(nn:γ→SV×List Blk)(hk:hid T.okv=true)(hl:hY cf.body=[]:=by kernel_rfl)(e:fnZ Q kd cl mg [] 2097152 cf args=some (T.map nn):=by kernel_rfl):cF R (f+100000) args []=some (nn (hid T.val)):=tzl hf hQ (bH (l:=[]) hl trivial) kd cl mg T nn hk e
theorem mQ{a:SV×List Blk}{k:Bool}{r:SV×List Blk}{G:Option (SV×List Blk)}(e:some (a,k)=some (r,true))(h:k=true→G=some a):G=some r:=by
 obtain⟨h1,h2⟩:=Prod.mk.inj (Option.some.inj e);rw[←h1];exact h h2
end Go.Proofs.YtdipcnijfkdnfaaGreatFrames
