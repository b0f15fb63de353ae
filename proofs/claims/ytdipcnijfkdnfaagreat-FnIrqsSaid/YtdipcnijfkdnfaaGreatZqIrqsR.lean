import Derived.Test.YtdipcnijfkdnfaaGreatZqTabIrqs
import Derived.Test.YtdipcnijfkdnfaaGreatZmc
set_option linter.unusedVariables false
set_option linter.unusedSimpArgs false
namespace Go.Proofs.YtdipcnijfkdnfaaGreatIrqs
open Go Go.Zq
noncomputable def R:Rt:=run (aX aY) (FH YT)
theorem b2H{f:FuncId}{cf:Zq.Fn}(h5:f<50000)(hf:aX aY f=some cf){args:List SV}{hp:List Blk}{r:SV×List Blk}(n:Nat)(h:cf.run R n args hp=some r):R f args hp=some r:=bJI h5 hf h
noncomputable def aZ4:C:=gU F14.body 0
noncomputable def aZ5:C:=gU F93.body 0
noncomputable def aZ6:C:=gU F93.body 1
noncomputable def aHN:C:=gU F102.body 0
noncomputable def aHO:C:=gU F103.body 0
noncomputable def aHP:C:=gU F149.body 0
noncomputable def aHQ:C:=gU F149.body 1
noncomputable def aHR:C:=gU F150.body 0
noncomputable def aHS:C:=gU F155.body 0
noncomputable def aHT:C:=gU F157.body 0
noncomputable def LI:C:=gU F164.body 0
noncomputable def aHU:C:=gU F185.body 0
noncomputable def aHV:C:=gU F201.body 0
noncomputable def aHW:C:=gU F202.body 0
noncomputable def aHX:C:=gU F206.body 0
noncomputable def aHY:C:=gU F209.body 0
noncomputable def aHZ:C:=gU F218.body 0
noncomputable def LJ:C:=gU F227.body 0
noncomputable def aH0:C:=gU F228.body 0
noncomputable def aH1:C:=gU F268.body 0
noncomputable def aH2:C:=gU F303.body 0
theorem fN{lq:Lp}{x:C}{n:Nat}{g:St→Option Out}(hx:m6 x=n)(h:dB (oV lq n) g):dB (oV lq (m6 x)) g:=by rw[hx];exact h
def cK(f:Nat)(q:List SV→List Blk→Option ((SV×List Blk)×Bool)):Prop:= ∀args hp r,q args hp=some (r,true)→dJ R f args hp=some r
@[match_pattern] abbrev li(z:Int):T:= .lit (.int .i64 z)
abbrev QO(Q:Qt):Prop:=WW (dJ R) Q
theorem tcl{f:FuncId}{cf:Zq.Fn}(hf:aX aY f=some cf){Q:Qt}(hQ:QO Q){lq:Lp}{args:List SV}{hp:List Blk}{nb:Nat}(hL:fM (fun live x=>dB (oV lq (m6 x)) (fY R nb 2097152 (.loop live x))) cf.body)(kd:List (Nat×List Kd))(cl:List Nat)(mg:Bool){γ:Type}(T:Pt γ)(nn:γ→SV×List Blk)(hk:hid T.okv=true)(hb:dE hp=nb:=by kernel_rfl)(h:f<50000:=by decide)(e:fnP Q kd cl mg lq 2097152 cf args hp=some (T.map nn):=by kernel_rfl):dJ R f args hp=some (nn (hid T.val)):=by subst hb;exact(GR (Nat.lt_trans h (by decide))).trans (b2H h hf 2097152 (b2F hQ hL e rfl hk))
theorem tc{f:FuncId}{cf:Zq.Fn}(hf:aX aY f=some cf){Q:Qt}(hQ:QO Q){args:List SV}{hp:List Blk}(kd:List (Nat×List Kd))(cl:List Nat)(mg:Bool){γ:Type}(T:Pt γ)(nn:γ→SV×List Blk)(hk:hid T.okv=true)(h:f<50000:=by decide)(hl:pF cf.body=[]:=by kernel_rfl)(e:fnP Q kd cl mg [] 2097152 cf args hp=some (T.map nn):=by kernel_rfl):dJ R f args hp=some (nn (hid T.val)):=tcl hf hQ (cQ (l:=[]) hl trivial) kd cl mg T nn hk rfl h e
theorem tzl{f:FuncId}{cf:Zq.Fn}(hf:aX aY f=some cf){Q:Qt}(hQ:QO Q){lq:Lp}{args:List SV}(hL:fM (fun live x=>dB (oV lq (m6 x)) (fY R (dE []) 2097152 (.loop live x))) cf.body)(kd:List (Nat×List Kd))(cl:List Nat)(mg:Bool){γ:Type}(T:Pt γ)(nn:γ→SV×List Blk)(hk:hid T.okv=true)(e:fnZ Q kd cl mg lq 2097152 cf args=some (T.map nn):=by kernel_rfl)(h:f<50000:=by decide):dJ R (f+100000) args []=some (nn (hid T.val)):=b2G (f:=f) hQ hL e rfl hk (fun r h'=>b2H h hf 2097152 h')
theorem tz{f:FuncId}{cf:Zq.Fn}(hf:aX aY f=some cf){Q:Qt}(hQ:QO Q){args:List SV}(kd:List (Nat×List Kd))(cl:List Nat)(mg:Bool){γ:Type}(T:Pt γ)(nn:γ→SV×List Blk)(hk:hid T.okv=true)(hl:pF cf.body=[]:=by kernel_rfl)(e:fnZ Q kd cl mg [] 2097152 cf args=some (T.map nn):=by kernel_rfl)(h:f<50000:=by decide):dJ R (f+100000) args []=some (nn (hid T.val)):=tzl hf hQ (cQ (l:=[]) hl trivial) kd cl mg T nn hk e h
theorem tck{f:FuncId}{cf:Zq.Fn}(hf:aX aY f=some cf){Q:Qt}(hQ:QO Q){args:List SV}{hp:List Blk}(kd:List (Nat×List Kd))(cl:List Nat)(mg:Bool){γ:Type}(T:Pt γ)(nn:γ→SV×List Blk)(hk:hid T.okv=true)(h:f<50000:=by decide)(hl:pF cf.body=[]:=by kernel_rfl)(e:bA3 Q kd cl mg [] 2097152 cf args hp=some (T.map nn):=by kernel_rfl):dJ R (f+50000) args hp=some (nn (hid T.val)):=(GR (Nat.add_lt_add_right h 50000)).trans (bAK hf (n:=2097152) (bJY hQ (cQ (l:=[]) hl trivial) e rfl hk))
theorem vH{a:SV×List Blk}{k:Bool}{r:SV×List Blk}{G:Option (SV×List Blk)}(e:some (a,k)=some (r,true))(h:k=true→G=some a):G=some r:=by
 obtain⟨h1,h2⟩:=Prod.mk.inj (Option.some.inj e);rw[←h1];exact h h2
end Go.Proofs.YtdipcnijfkdnfaaGreatIrqs
