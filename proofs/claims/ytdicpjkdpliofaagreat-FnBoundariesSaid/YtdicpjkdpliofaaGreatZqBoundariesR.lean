import Derived.Test.YtdicpjkdpliofaaGreatZqTabBoundaries
import Derived.Test.YtdicpjkdpliofaaGreatZmc
set_option linter.unusedVariables false
set_option linter.unusedSimpArgs false
namespace Go.Proofs.YtdicpjkdpliofaaGreatBoundaries
open Go Go.Zq
set_option maxRecDepth 100000
noncomputable def R:Rt:=run tab (GT ZZ)
theorem bW2{f:FuncId}(h5:f<50000)(hs:(tab f).isSome=true){args:List SV}{hp:List Blk}{r:SV×List Blk}(n:Nat)(h:(nK f).run R n args hp=some r):R f args hp=some r:=bNC h5 (aGG hs) h
noncomputable def a23:C:=eQ (nK 24).body 0
noncomputable def a24:C:=eQ (nK 25).body 0
noncomputable def a25:C:=eQ (nK 28).body 0
noncomputable def a26:C:=eQ (nK 30).body 0
noncomputable def a27:C:=eQ (nK 31).body 0
noncomputable def a28:C:=eQ (nK 32).body 0
noncomputable def aJN:C:=eQ (nK 111).body 0
noncomputable def aJO:C:=eQ (nK 165).body 0
noncomputable def aJP:C:=eQ (nK 165).body 1
noncomputable def aJQ:C:=eQ (nK 166).body 0
noncomputable def aJR:C:=eQ (nK 168).body 0
noncomputable def aJS:C:=eQ (nK 177).body 0
noncomputable def aJT:C:=eQ (nK 193).body 0
noncomputable def aJU:C:=eQ (nK 198).body 0
noncomputable def aJV:C:=eQ (nK 230).body 0
noncomputable def aJW:C:=eQ (nK 231).body 0
noncomputable def aJX:C:=eQ (nK 232).body 0
noncomputable def aJY:C:=eQ (nK 232).body 1
noncomputable def aJZ:C:=eQ (nK 242).body 0
noncomputable def MH:C:=eQ (nK 245).body 0
noncomputable def aJ0:C:=eQ (nK 252).body 0
noncomputable def aJ1:C:=eQ (nK 261).body 0
noncomputable def MI:C:=eQ (nK 275).body 0
noncomputable def aJ2:C:=eQ (nK 276).body 0
noncomputable def aJ3:C:=eQ (nK 286).body 0
noncomputable def aJ4:C:=eQ (nK 341).body 0
noncomputable def aJ5:C:=eQ (nK 358).body 0
theorem eP{lq:Lp}{x:C}{n:Nat}{g:St→Option Out}(hx:kH x=n)(h:cK (lH lq n) g):cK (lH lq (kH x)) g:=by rw[hx];exact h
def cD(f:Nat)(q:List SV→List Blk→Option ((SV×List Blk)×Bool)):Prop:= ∀args hp r,q args hp=some (r,true)→cY R f args hp=some r
@[match_pattern] abbrev li(z:Int):T:= .lit (.int .i64 z)
abbrev QO(Q:Qt):Prop:=X2 (cY R) Q
theorem tcl{f:FuncId}{Q:Qt}(hQ:QO Q){lq:Lp}{args:List SV}{hp:List Blk}{nb:Nat}(hL:eS (fun live x=>cK (lH lq (kH x)) (eY R nb 9223372036854775808 (.loop live x))) (nK f).body)(kx:List (Nat×List Kd))(cl:List Nat)(mg:Bool){γ:Type}(T:Pt γ)(nn:γ→SV×List Blk)(hk:hid T.okv=true)(hs:(tab f).isSome=true:=by kernel_rfl)(hb:cW hp=nb:=by kernel_rfl)(h:f<50000:=by decide)(e:fnP Q (kx++CD f) cl mg lq 9223372036854775808 (nK f) args hp=some (T.map nn):=by kernel_rfl):cY R f args hp=some (nn (hid T.val)):=by subst hb;exact(HR (Nat.lt_trans h (by decide))).trans (bW2 h hs 9223372036854775808 (bWZ hQ hL e rfl hk))
theorem tcx{f:FuncId}{Q:Qt}(hQ:QO Q){args:List SV}{hp:List Blk}(kx:List (Nat×List Kd))(cl:List Nat)(mg:Bool){γ:Type}(T:Pt γ)(nn:γ→SV×List Blk)(hk:hid T.okv=true)(hs:(tab f).isSome=true:=by kernel_rfl)(h:f<50000:=by decide)(hl:lI (nK f).body=[]:=by kernel_rfl)(e:fnP Q (kx++CD f) cl mg [] 9223372036854775808 (nK f) args hp=some (T.map nn):=by kernel_rfl):cY R f args hp=some (nn (hid T.val)):=tcl hQ (bT (l:=[]) hl trivial) kx cl mg T nn hk hs rfl h e
theorem tc{f:FuncId}{Q:Qt}(hQ:QO Q){args:List SV}{hp:List Blk}{γ:Type}(T:Pt γ)(nn:γ→SV×List Blk)(hk:hid T.okv=true)(hs:(tab f).isSome=true:=by kernel_rfl)(h:f<50000:=by decide)(hl:lI (nK f).body=[]:=by kernel_rfl)(e:fnP Q ([]++CD f) [] true [] 9223372036854775808 (nK f) args hp=some (T.map nn):=by kernel_rfl):cY R f args hp=some (nn (hid T.val)):=tcx hQ [] [] true T nn hk hs h hl e
theorem tzl{f:FuncId}{Q:Qt}(hQ:QO Q){lq:Lp}{args:List SV}(hL:eS (fun live x=>cK (lH lq (kH x)) (eY R (cW []) 9223372036854775808 (.loop live x))) (nK f).body)(kx:List (Nat×List Kd))(cl:List Nat)(mg:Bool){γ:Type}(T:Pt γ)(nn:γ→SV×List Blk)(hk:hid T.okv=true)(hs:(tab f).isSome=true:=by kernel_rfl)(e:fnZ Q (kx++CD f) cl mg lq 9223372036854775808 (nK f) args=some (T.map nn):=by kernel_rfl)(h:f<50000:=by decide):cY R (f+100000) args []=some (nn (hid T.val)):=bW1 (f:=f) hQ hL e rfl hk (fun r h'=>bW2 h hs 9223372036854775808 h')
theorem tzx{f:FuncId}{Q:Qt}(hQ:QO Q){args:List SV}(kx:List (Nat×List Kd))(cl:List Nat)(mg:Bool){γ:Type}(T:Pt γ)(nn:γ→SV×List Blk)(hk:hid T.okv=true)(hs:(tab f).isSome=true:=by kernel_rfl)(hl:lI (nK f).body=[]:=by kernel_rfl)(e:fnZ Q (kx++CD f) cl mg [] 9223372036854775808 (nK f) args=some (T.map nn):=by kernel_rfl)(h:f<50000:=by decide):cY R (f+100000) args []=some (nn (hid T.val)):=tzl hQ (bT (l:=[]) hl trivial) kx cl mg T nn hk hs e h
theorem tz{f:FuncId}{Q:Qt}(hQ:QO Q){args:List SV}{γ:Type}(T:Pt γ)(nn:γ→SV×List Blk)(hk:hid T.okv=true)(hs:(tab f).isSome=true:=by kernel_rfl)(hl:lI (nK f).body=[]:=by kernel_rfl)(e:fnZ Q ([]++CD f) [] true [] 9223372036854775808 (nK f) args=some (T.map nn):=by kernel_rfl)(h:f<50000:=by decide):cY R (f+100000) args []=some (nn (hid T.val)):=tzx hQ [] [] true T nn hk hs hl e h
theorem bW3{f:FuncId}{Q:Qt}(hQ:QO Q){args:List SV}{hp:List Blk}(kx:List (Nat×List Kd))(cl:List Nat)(mg:Bool){γ:Type}(T:Pt γ)(nn:γ→SV×List Blk)(hk:hid T.okv=true)(hs:(tab f).isSome=true:=by kernel_rfl)(h:f<50000:=by decide)(hl:lI (nK f).body=[]:=by kernel_rfl)(e:a2X Q (kx++CD f) cl mg [] 9223372036854775808 (nK f) args hp=some (T.map nn):=by kernel_rfl):cY R (f+50000) args hp=some (nn (hid T.val)):=(HR (Nat.add_lt_add_right h 50000)).trans (bD1 (aGG hs) (n:=9223372036854775808) (bNZ hQ (bT (l:=[]) hl trivial) e rfl hk))
theorem tck{f:FuncId}{Q:Qt}(hQ:QO Q){args:List SV}{hp:List Blk}{γ:Type}(T:Pt γ)(nn:γ→SV×List Blk)(hk:hid T.okv=true)(hs:(tab f).isSome=true:=by kernel_rfl)(h:f<50000:=by decide)(hl:lI (nK f).body=[]:=by kernel_rfl)(e:a2X Q ([]++CD f) [] true [] 9223372036854775808 (nK f) args hp=some (T.map nn):=by kernel_rfl):cY R (f+50000) args hp=some (nn (hid T.val)):=bW3 hQ [] [] true T nn hk hs h hl e
theorem vO{a:SV×List Blk}{k:Bool}{r:SV×List Blk}{G:Option (SV×List Blk)}(e:some (a,k)=some (r,true))(h:k=true→G=some a):G=some r:=by
 obtain⟨h1,h2⟩:=Prod.mk.inj (Option.some.inj e);rw[←h1];exact h h2
end Go.Proofs.YtdicpjkdpliofaaGreatBoundaries
