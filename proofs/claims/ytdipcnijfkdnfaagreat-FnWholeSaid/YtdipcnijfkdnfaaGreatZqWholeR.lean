import Derived.Test.YtdipcnijfkdnfaaGreatZqTabWhole
import Derived.Test.YtdipcnijfkdnfaaGreatZmc
set_option linter.unusedVariables false
set_option linter.unusedSimpArgs false
namespace Go.Proofs.YtdipcnijfkdnfaaGreatWhole
open Go Go.Zq
noncomputable def R:Rt:=run (bA bC) (GQ ZT)
theorem b06{f:FuncId}{cf:Zq.Fn}(h5:f<50000)(hf:bA bC f=some cf){args:List SV}{hp:List Blk}{r:SV×List Blk}(n:Nat)(h:cf.run R n args hp=some r):R f args hp=some r:=bI8 h5 hf h
noncomputable def a0F:C:=fV F14.body 0
noncomputable def a0G:C:=fV F45.body 0
noncomputable def a0H:C:=fV F46.body 0
noncomputable def a0I:C:=fV F93.body 0
noncomputable def a0J:C:=fV F93.body 1
noncomputable def aIN:C:=fV F102.body 0
noncomputable def aIO:C:=fV F103.body 0
noncomputable def aIP:C:=fV F149.body 0
noncomputable def aIQ:C:=fV F149.body 1
noncomputable def aIR:C:=fV F150.body 0
noncomputable def aIS:C:=fV F155.body 0
noncomputable def aIT:C:=fV F157.body 0
noncomputable def MN:C:=fV F164.body 0
noncomputable def aIU:C:=fV F185.body 0
noncomputable def aIV:C:=fV F201.body 0
noncomputable def aIW:C:=fV F202.body 0
noncomputable def aIX:C:=fV F206.body 0
noncomputable def aIY:C:=fV F209.body 0
noncomputable def aIZ:C:=fV F218.body 0
noncomputable def MO:C:=fV F227.body 0
noncomputable def aI0:C:=fV F228.body 0
noncomputable def aI1:C:=fV F268.body 0
noncomputable def aI2:C:=fV F303.body 0
theorem fH{lq:Lp}{x:C}{n:Nat}{g:St→Option Out}(hx:lV x=n)(h:cY (nL lq n) g):cY (nL lq (lV x)) g:=by rw[hx];exact h
def cP(f:Nat)(q:List SV→List Blk→Option ((SV×List Blk)×Bool)):Prop:= ∀args hp r,q args hp=some (r,true)→dQ R f args hp=some r
@[match_pattern] abbrev li(z:Int):T:= .lit (.int .i64 z)
abbrev QO(Q:Qt):Prop:=X7 (dQ R) Q
theorem tcl{f:FuncId}{cf:Zq.Fn}(hf:bA bC f=some cf){Q:Qt}(hQ:QO Q){lq:Lp}{args:List SV}{hp:List Blk}{nb:Nat}(hL:fN (fun live x=>cY (nL lq (lV x)) (fT R nb 2097152 (.loop live x))) cf.body)(kd:List (Nat×List Kd))(cl:List Nat)(mg:Bool){γ:Type}(T:Pt γ)(nn:γ→SV×List Blk)(hk:hid T.okv=true)(hb:dH hp=nb:=by kernel_rfl)(h:f<50000:=by decide)(e:fnP Q kd cl mg lq 2097152 cf args hp=some (T.map nn):=by kernel_rfl):dQ R f args hp=some (nn (hid T.val)):=by subst hb;exact(HI (Nat.lt_trans h (by decide))).trans (b06 h hf 2097152 (b04 hQ hL e rfl hk))
theorem tc{f:FuncId}{cf:Zq.Fn}(hf:bA bC f=some cf){Q:Qt}(hQ:QO Q){args:List SV}{hp:List Blk}(kd:List (Nat×List Kd))(cl:List Nat)(mg:Bool){γ:Type}(T:Pt γ)(nn:γ→SV×List Blk)(hk:hid T.okv=true)(h:f<50000:=by decide)(hl:pL cf.body=[]:=by kernel_rfl)(e:fnP Q kd cl mg [] 2097152 cf args hp=some (T.map nn):=by kernel_rfl):dQ R f args hp=some (nn (hid T.val)):=tcl hf hQ (cI (l:=[]) hl trivial) kd cl mg T nn hk rfl h e
theorem tzl{f:FuncId}{cf:Zq.Fn}(hf:bA bC f=some cf){Q:Qt}(hQ:QO Q){lq:Lp}{args:List SV}(hL:fN (fun live x=>cY (nL lq (lV x)) (fT R (dH []) 2097152 (.loop live x))) cf.body)(kd:List (Nat×List Kd))(cl:List Nat)(mg:Bool){γ:Type}(T:Pt γ)(nn:γ→SV×List Blk)(hk:hid T.okv=true)(e:fnZ Q kd cl mg lq 2097152 cf args=some (T.map nn):=by kernel_rfl)(h:f<50000:=by decide):dQ R (f+100000) args []=some (nn (hid T.val)):=b05 (f:=f) hQ hL e rfl hk (fun r h'=>b06 h hf 2097152 h')
theorem tz{f:FuncId}{cf:Zq.Fn}(hf:bA bC f=some cf){Q:Qt}(hQ:QO Q){args:List SV}(kd:List (Nat×List Kd))(cl:List Nat)(mg:Bool){γ:Type}(T:Pt γ)(nn:γ→SV×List Blk)(hk:hid T.okv=true)(hl:pL cf.body=[]:=by kernel_rfl)(e:fnZ Q kd cl mg [] 2097152 cf args=some (T.map nn):=by kernel_rfl)(h:f<50000:=by decide):dQ R (f+100000) args []=some (nn (hid T.val)):=tzl hf hQ (cI (l:=[]) hl trivial) kd cl mg T nn hk e h
theorem tck{f:FuncId}{cf:Zq.Fn}(hf:bA bC f=some cf){Q:Qt}(hQ:QO Q){args:List SV}{hp:List Blk}(kd:List (Nat×List Kd))(cl:List Nat)(mg:Bool){γ:Type}(T:Pt γ)(nn:γ→SV×List Blk)(hk:hid T.okv=true)(h:f<50000:=by decide)(hl:pL cf.body=[]:=by kernel_rfl)(e:bAZ Q kd cl mg [] 2097152 cf args hp=some (T.map nn):=by kernel_rfl):dQ R (f+50000) args hp=some (nn (hid T.val)):=(HI (Nat.add_lt_add_right h 50000)).trans (bAG hf (n:=2097152) (bJO hQ (cI (l:=[]) hl trivial) e rfl hk))
theorem yF{a:SV×List Blk}{k:Bool}{r:SV×List Blk}{G:Option (SV×List Blk)}(e:some (a,k)=some (r,true))(h:k=true→G=some a):G=some r:=by
 obtain⟨h1,h2⟩:=Prod.mk.inj (Option.some.inj e);rw[←h1];exact h h2
end Go.Proofs.YtdipcnijfkdnfaaGreatWhole
