import Derived.Test.YtdicpjkdpliofaaGreatZqMasksL
import Derived.Test.YtdicpjkdpliofaaGreatZmb
set_option linter.unusedVariables false
set_option linter.unusedSimpArgs false
namespace Go.Proofs.YtdicpjkdpliofaaGreatMasks
open Go Go.Zq
theorem sound:oP Tryz.prog R:=aQ0 a51 aU7
theorem law(y0:List Int)(y1:List Int)(b0:bytesOk (y0.map fun z=>[.lit (.int .u8 z)])=true)(b1:bytesOk (y1.map fun z=>[.lit (.int .u8 z)])=true)(c0:y0.length≤maxLen)(c1:y1.length≤maxLen):R 3 [.one (ints .u8 y0), .one (ints .u8 y1)] []=some (.one (B true),[]):=by
 obtain⟨hk,hg⟩:=okL (y0.map fun z=>[.lit (.int .u8 z)]) (y1.map fun z=>[.lit (.int .u8 z)]) b0 b1 (by rw[List.length_map];exact c0) (by rw[List.length_map];exact c1)
 have e:q3 [.one (ints .u8 y0), .one (ints .u8 y1)] []=some ((.one (B true),[]),true):=by
  show some (n24 (y0.map fun z=>[.lit (.int .u8 z)]) (y1.map fun z=>[.lit (.int .u8 z)]) (g3 (y0.map fun z=>[.lit (.int .u8 z)]) (y1.map fun z=>[.lit (.int .u8 z)])),k3 (y0.map fun z=>[.lit (.int .u8 z)]) (y1.map fun z=>[.lit (.int .u8 z)]))=_
  rw[hk,hg];rfl
 exact(FK (R:=R) (f:=3) (by decide)).symm.trans (t3 _ _ _ e)
end Go.Proofs.YtdicpjkdpliofaaGreatMasks
