import Derived.Test.YtdicpjkdpliofaaGreatZmf
import Derived.Test.YtdicpjkdpliofaaGreatZmb
set_option linter.unusedVariables false
set_option linter.unusedSimpArgs false
namespace Go.Proofs.YtdicpjkdpliofaaGreatBoundaries
open Go Go.Zq
theorem sound:pF Tryz.prog R:=aX3 bEE a2J
theorem law(y0:List Int)(y1:List Int)(b0:bytesOk (y0.map fun z=>[.lit (.int .u8 z)])=true)(b1:bytesOk (y1.map fun z=>[.lit (.int .u8 z)])=true)(c0:y0.length≤maxLen)(c1:y1.length≤maxLen):R 4 [.one (ints .u8 y0), .one (ints .u8 y1)] []=some (.one (B true),[]):=by
 obtain⟨hk,hg⟩:=okL (y0.map fun z=>[.lit (.int .u8 z)]) (y1.map fun z=>[.lit (.int .u8 z)]) b0 b1 (by rw[List.length_map];exact c0) (by rw[List.length_map];exact c1)
 have e:q4 [.one (ints .u8 y0), .one (ints .u8 y1)] []=some ((.one (B true),[]),true):=by
  show some (n24 (y0.map fun z=>[.lit (.int .u8 z)]) (y1.map fun z=>[.lit (.int .u8 z)]) (g4 (y0.map fun z=>[.lit (.int .u8 z)]) (y1.map fun z=>[.lit (.int .u8 z)])),k4 (y0.map fun z=>[.lit (.int .u8 z)]) (y1.map fun z=>[.lit (.int .u8 z)]))=_
  rw[hk,hg];rfl
 exact(HR (R:=R) (f:=4) (by decide)).symm.trans (t4 _ _ _ e)
end Go.Proofs.YtdicpjkdpliofaaGreatBoundaries
