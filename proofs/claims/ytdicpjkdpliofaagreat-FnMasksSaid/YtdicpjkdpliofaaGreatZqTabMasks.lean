import Derived.Test.YtdicpjkdpliofaaGreatZmc
import Derived.Test.YtdicpjkdpliofaaGreatProg
import Derived.KernelRfl
set_option linter.unusedVariables false
set_option linter.unusedSimpArgs false
namespace Go.Proofs.YtdicpjkdpliofaaGreatMasks
open Go Go.Zq
set_option maxRecDepth 100000
def aU5:List (Nat×List Nat):=[(239,[998]),(253,[0]),(258,[0]),(283,[998]),(284,[998]),(287,[998]),(295,[0]),(331,[998]),(354,[998])]
def bEF:Nat→List (Nat×List Nat)
 |241=>[(265,[998])]
 |_=>[]
def own(f:FuncId):FuncId→Nat→Bool:=bif Nat.beq f 3 then bLV [(3,25),(85,88),(90,105),(109,158),(167,167),(171,174),(176,184),(188,219),(223,223),(225,226),(230,230),(232,238),(242,245),(248,248),(250,250),(252,252),(259,259),(268,269),(277,278),(286,286),(289,289),(294,294),(297,301),(305,305),(307,318),(320,324),(326,328),(332,333),(337,340),(342,351),(353,353),(355,356),(358,364)] aU5 else bLV [(3,3),(13,25),(85,87),(90,92),(94,105),(109,119),(151,158),(171,172),(176,182),(184,184),(189,200),(211,215),(223,223),(225,226),(233,236),(238,238),(242,245),(248,248),(250,250),(252,252),(259,259),(268,269),(277,278),(286,286),(289,289),(294,294),(297,301),(305,305),(307,318),(320,324),(326,328),(332,333),(337,340),(342,351),(353,353),(355,356),(358,364)] (bEF f++aU5)
def bRZ:Nat→List (Nat×Bool)
 |201=>[(1,false)]
 |246=>[(3,true),(5,true),(8,true)]
 |247=>[(3,true)]
 |_=>[]
noncomputable def tab:Tab:=cfA Tryz.prog own bRZ
noncomputable def qL(f:FuncId):Zq.Fn:=(tab f).getD ⟨0,[], .skip⟩
theorem aB6{f:FuncId}(h:(tab f).isSome=true):tab f=some (qL f):=by
 obtain⟨c,hc⟩:=Option.isSome_iff_exists.1 h;unfold qL;rw[hc];rfl
noncomputable def HD(f:FuncId):List (Nat×List Kd):=kdA Tryz.prog f
noncomputable def bLW:CloneSh Tryz.prog 219 1 8:={fn:=Tryz.f219,h:=aUW [] [] [] [],q:=quiet?,dr:=rI (by kernel_rfl),t:=23,e:=3,z:=[.lit (.int .i64 0)],x:=_,y:=_,i0:=_,i1:=_,ops0:=_,o1:=_,o2:=_,hb:=rfl}
noncomputable def bLX:CloneSh Tryz.prog 237 5 40:={fn:=Tryz.f237,h:=aUW [] [] [] [],q:=quiet?,dr:=rI (by kernel_rfl),t:=26,e:=221,z:=[.lit (.int .i64 0), .lit (.int .i64 0), .lit (.int .i64 0), .lit (.int .i64 0), .lit (.int .i64 0)],x:=_,y:=_,i0:=_,i1:=_,ops0:=_,o1:=_,o2:=_,hb:=rfl}
theorem aU6:Tryz.prog.follows .mixedOrders=true:=by kernel_rfl
theorem a51:aJ8 Tryz.prog tab:=bEE aU6 _ _
def WP:List (FuncId×Nat×Nat):=[(219,1,8),(237,5,40)]
theorem aU7:JT Tryz.prog (EH WP):=aB1 aU6 bLW (aB1 aU6 bLX (a5Q _))
theorem bLY:tab 219=none:=by kernel_rfl
theorem bLZ:tab 237=none:=by kernel_rfl
end Go.Proofs.YtdicpjkdpliofaaGreatMasks
