import Derived.Test.YtdicpjkdpliofaaGreatZmc
import Derived.Test.YtdicpjkdpliofaaGreatProg
import Derived.KernelRfl
set_option linter.unusedVariables false
set_option linter.unusedSimpArgs false
namespace Go.Proofs.YtdicpjkdpliofaaGreatBoundaries
open Go Go.Zq
set_option maxRecDepth 100000
def a2H:List (Nat×List Nat):=[(115,[0]),(118,[0]),(239,[998]),(253,[0]),(258,[0]),(283,[998]),(284,[998]),(287,[998]),(295,[0]),(331,[998]),(354,[998])]
def bNU:Nat→List (Nat×List Nat)
 |241=>[(265,[998])]
 |_=>[]
def own(f:FuncId):FuncId→Nat→Bool:=bif Nat.beq f 4 then bWQ [(4,35),(86,105),(108,110),(112,114),(119,151),(155,158),(167,167),(171,174),(176,184),(188,196),(200,219),(223,223),(225,226),(230,230),(232,238),(242,245),(248,248),(250,250),(252,252),(259,259),(261,263),(268,269),(277,280),(286,286),(289,289),(294,294),(297,301),(305,305),(307,313),(315,318),(320,324),(326,328),(332,333),(337,340),(342,351),(353,353),(355,356),(358,364)] a2H else bWQ [(4,25),(29,29),(86,87),(90,105),(108,109),(112,113),(119,119),(151,151),(155,158),(171,172),(176,182),(184,184),(189,194),(200,200),(211,215),(223,223),(225,226),(233,236),(238,238),(242,245),(248,248),(250,250),(252,252),(259,259),(268,269),(277,280),(286,286),(289,289),(294,294),(297,301),(305,305),(307,312),(315,318),(320,324),(326,328),(332,333),(337,340),(342,351),(353,353),(355,356),(358,364)] (bNU f++a2H)
def b29:Nat→List (Nat×Bool)
 |201=>[(1,false)]
 |246=>[(3,true),(5,true),(8,true)]
 |247=>[(3,true)]
 |_=>[]
noncomputable def tab:Tab:=cfA Tryz.prog own b29
noncomputable def nK(f:FuncId):Zq.Fn:=(tab f).getD ⟨0,[], .skip⟩
theorem aGG{f:FuncId}(h:(tab f).isSome=true):tab f=some (nK f):=by
 obtain⟨c,hc⟩:=Option.isSome_iff_exists.1 h;unfold nK;rw[hc];rfl
noncomputable def CD(f:FuncId):List (Nat×List Kd):=kdA Tryz.prog f
noncomputable def bWR:CloneSh Tryz.prog 219 1 8:={fn:=Tryz.f219,h:=a18 [] [] [] [],q:=quiet?,dr:=rZ (by kernel_rfl),t:=23,e:=3,z:=[.lit (.int .i64 0)],x:=_,y:=_,i0:=_,i1:=_,ops0:=_,o1:=_,o2:=_,hb:=rfl}
noncomputable def bWS:CloneSh Tryz.prog 237 5 40:={fn:=Tryz.f237,h:=a18 [] [] [] [],q:=quiet?,dr:=rZ (by kernel_rfl),t:=26,e:=221,z:=[.lit (.int .i64 0), .lit (.int .i64 0), .lit (.int .i64 0), .lit (.int .i64 0), .lit (.int .i64 0)],x:=_,y:=_,i0:=_,i1:=_,ops0:=_,o1:=_,o2:=_,hb:=rfl}
theorem a2I:Tryz.prog.follows .mixedOrders=true:=by kernel_rfl
theorem bEE:aQF Tryz.prog tab:=bNT a2I _ _
def ZZ:List (FuncId×Nat×Nat):=[(219,1,8),(237,5,40)]
theorem a2J:L4 Tryz.prog (GT ZZ):=aGB a2I bWR (aGB a2I bWS (bD3 _))
theorem bWT:tab 219=none:=by kernel_rfl
theorem bWU:tab 237=none:=by kernel_rfl
end Go.Proofs.YtdicpjkdpliofaaGreatBoundaries
