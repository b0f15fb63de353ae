import Derived.Test.YtdicpjkdpliofaaGreatZqTabMasks
import Derived.Test.YtdicpjkdpliofaaGreatZmc
set_option linter.unusedVariables false
set_option linter.unusedSimpArgs false
namespace Go.Proofs.YtdicpjkdpliofaaGreatMasks
open Go Go.Zq
set_option maxRecDepth 100000
noncomputable def R:Rt:=run tab (EH WP)
theorem bL7{f:FuncId}(h5:f<50000)(hs:(tab f).isSome=true){args:List SV}{hp:List Blk}{r:SV×List Blk}(n:Nat)(h:(qL f).run R n args hp=some r):R f args hp=some r:=bDX h5 (aB6 hs) h
noncomputable def aVR:C:=hC (qL 24).body 0
noncomputable def aVS:C:=hC (qL 25).body 0
noncomputable def aEL:C:=hC (qL 165).body 0
noncomputable def aEM:C:=hC (qL 165).body 1
noncomputable def aEN:C:=hC (qL 166).body 0
noncomputable def aEO:C:=hC (qL 168).body 0
noncomputable def aEP:C:=hC (qL 177).body 0
noncomputable def aEQ:C:=hC (qL 193).body 0
noncomputable def aER:C:=hC (qL 230).body 0
noncomputable def aES:C:=hC (qL 231).body 0
noncomputable def aET:C:=hC (qL 232).body 0
noncomputable def aEU:C:=hC (qL 232).body 1
noncomputable def aEV:C:=hC (qL 242).body 0
noncomputable def J6:C:=hC (qL 245).body 0
noncomputable def aEW:C:=hC (qL 252).body 0
noncomputable def J7:C:=hC (qL 275).body 0
noncomputable def aEX:C:=hC (qL 276).body 0
noncomputable def aEY:C:=hC (qL 286).body 0
noncomputable def aEZ:C:=hC (qL 341).body 0
noncomputable def aE0:C:=hC (qL 358).body 0
theorem fZ{lq:Lp}{x:C}{n:Nat}{g:St→Option Out}(hx:m6 x=n)(h:cS (oQ lq n) g):cS (oQ lq (m6 x)) g:=by rw[hx];exact h
def cG(f:Nat)(q:List SV→List Blk→Option ((SV×List Blk)×Bool)):Prop:= ∀args hp r,q args hp=some (r,true)→dL R f args hp=some r
@[match_pattern] abbrev li(z:Int):T:= .lit (.int .i64 z)
abbrev QO(Q:Qt):Prop:=UM (dL R) Q
theorem tcl{f:FuncId}{Q:Qt}(hQ:QO Q){lq:Lp}{args:List SV}{hp:List Blk}{nb:Nat}(hL:fT (fun live x=>cS (oQ lq (m6 x)) (fV R nb 9223372036854775808 (.loop live x))) (qL f).body)(kx:List (Nat×List Kd))(cl:List Nat)(mg:Bool){γ:Type}(T:Pt γ)(nn:γ→SV×List Blk)(hk:hid T.okv=true)(hs:(tab f).isSome=true:=by kernel_rfl)(hb:cX hp=nb:=by kernel_rfl)(h:f<50000:=by decide)(e:fnP Q (kx++HD f) cl mg lq 9223372036854775808 (qL f) args hp=some (T.map nn):=by kernel_rfl):dL R f args hp=some (nn (hid T.val)):=by subst hb;exact(FK (Nat.lt_trans h (by decide))).trans (bL7 h hs 9223372036854775808 (bL4 hQ hL e rfl hk))
theorem tcx{f:FuncId}{Q:Qt}(hQ:QO Q){args:List SV}{hp:List Blk}(kx:List (Nat×List Kd))(cl:List Nat)(mg:Bool){γ:Type}(T:Pt γ)(nn:γ→SV×List Blk)(hk:hid T.okv=true)(hs:(tab f).isSome=true:=by kernel_rfl)(h:f<50000:=by decide)(hl:kZ (qL f).body=[]:=by kernel_rfl)(e:fnP Q (kx++HD f) cl mg [] 9223372036854775808 (qL f) args hp=some (T.map nn):=by kernel_rfl):dL R f args hp=some (nn (hid T.val)):=tcl hQ (cF (l:=[]) hl trivial) kx cl mg T nn hk hs rfl h e
theorem tc{f:FuncId}{Q:Qt}(hQ:QO Q){args:List SV}{hp:List Blk}{γ:Type}(T:Pt γ)(nn:γ→SV×List Blk)(hk:hid T.okv=true)(hs:(tab f).isSome=true:=by kernel_rfl)(h:f<50000:=by decide)(hl:kZ (qL f).body=[]:=by kernel_rfl)(e:fnP Q ([]++HD f) [] true [] 9223372036854775808 (qL f) args hp=some (T.map nn):=by kernel_rfl):dL R f args hp=some (nn (hid T.val)):=tcx hQ [] [] true T nn hk hs h hl e
theorem tzl{f:FuncId}{Q:Qt}(hQ:QO Q){lq:Lp}{args:List SV}(hL:fT (fun live x=>cS (oQ lq (m6 x)) (fV R (cX []) 9223372036854775808 (.loop live x))) (qL f).body)(kx:List (Nat×List Kd))(cl:List Nat)(mg:Bool){γ:Type}(T:Pt γ)(nn:γ→SV×List Blk)(hk:hid T.okv=true)(hs:(tab f).isSome=true:=by kernel_rfl)(e:fnZ Q (kx++HD f) cl mg lq 9223372036854775808 (qL f) args=some (T.map nn):=by kernel_rfl)(h:f<50000:=by decide):dL R (f+100000) args []=some (nn (hid T.val)):=bL6 (f:=f) hQ hL e rfl hk (fun r h'=>bL7 h hs 9223372036854775808 h')
theorem tzx{f:FuncId}{Q:Qt}(hQ:QO Q){args:List SV}(kx:List (Nat×List Kd))(cl:List Nat)(mg:Bool){γ:Type}(T:Pt γ)(nn:γ→SV×List Blk)(hk:hid T.okv=true)(hs:(tab f).isSome=true:=by kernel_rfl)(hl:kZ (qL f).body=[]:=by kernel_rfl)(e:fnZ Q (kx++HD f) cl mg [] 9223372036854775808 (qL f) args=some (T.map nn):=by kernel_rfl)(h:f<50000:=by decide):dL R (f+100000) args []=some (nn (hid T.val)):=tzl hQ (cF (l:=[]) hl trivial) kx cl mg T nn hk hs e h
theorem tz{f:FuncId}{Q:Qt}(hQ:QO Q){args:List SV}{γ:Type}(T:Pt γ)(nn:γ→SV×List Blk)(hk:hid T.okv=true)(hs:(tab f).isSome=true:=by kernel_rfl)(hl:kZ (qL f).body=[]:=by kernel_rfl)(e:fnZ Q ([]++HD f) [] true [] 9223372036854775808 (qL f) args=some (T.map nn):=by kernel_rfl)(h:f<50000:=by decide):dL R (f+100000) args []=some (nn (hid T.val)):=tzx hQ [] [] true T nn hk hs hl e h
theorem bL8{f:FuncId}{Q:Qt}(hQ:QO Q){args:List SV}{hp:List Blk}(kx:List (Nat×List Kd))(cl:List Nat)(mg:Bool){γ:Type}(T:Pt γ)(nn:γ→SV×List Blk)(hk:hid T.okv=true)(hs:(tab f).isSome=true:=by kernel_rfl)(h:f<50000:=by decide)(hl:kZ (qL f).body=[]:=by kernel_rfl)(e:aVL Q (kx++HD f) cl mg [] 9223372036854775808 (qL f) args hp=some (T.map nn):=by kernel_rfl):dL R (f+50000) args hp=some (nn (hid T.val)):=(FK (Nat.add_lt_add_right h 50000)).trans (a5O (aB6 hs) (n:=9223372036854775808) (bEL hQ (cF (l:=[]) hl trivial) e rfl hk))
theorem tck{f:FuncId}{Q:Qt}(hQ:QO Q){args:List SV}{hp:List Blk}{γ:Type}(T:Pt γ)(nn:γ→SV×List Blk)(hk:hid T.okv=true)(hs:(tab f).isSome=true:=by kernel_rfl)(h:f<50000:=by decide)(hl:kZ (qL f).body=[]:=by kernel_rfl)(e:aVL Q ([]++HD f) [] true [] 9223372036854775808 (qL f) args hp=some (T.map nn):=by kernel_rfl):dL R (f+50000) args hp=some (nn (hid T.val)):=bL8 hQ [] [] true T nn hk hs h hl e
theorem BT{a:SV×List Blk}{k:Bool}{r:SV×List Blk}{G:Option (SV×List Blk)}(e:some (a,k)=some (r,true))(h:k=true→G=some a):G=some r:=by
 obtain⟨h1,h2⟩:=Prod.mk.inj (Option.some.inj e);rw[←h1];exact h h2
end Go.Proofs.YtdicpjkdpliofaaGreatMasks
