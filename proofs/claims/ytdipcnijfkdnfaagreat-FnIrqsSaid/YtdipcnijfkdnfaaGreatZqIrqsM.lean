import Derived.Test.YtdipcnijfkdnfaaGreatZmf
import Derived.Test.YtdipcnijfkdnfaaGreatZmb
set_option linter.unusedVariables false
set_option linter.unusedSimpArgs false
namespace Go.Proofs.YtdipcnijfkdnfaaGreatIrqs
open Go Go.Zq
theorem sound:o8 Tryz.prog R:=aU0 bAN aZD
theorem law(y0:List Int)(y1:List Int)(b0:bytesOk (y0.map fun z=>[.lit (.int .u8 z)])=true)(b1:bytesOk (y1.map fun z=>[.lit (.int .u8 z)])=true):R 7 [.one (ints .u8 y0), .one (ints .u8 y1)] []=some (.one (B true),[]):=by
 obtain⟨hk,hg⟩:=okL (y0.map fun z=>[.lit (.int .u8 z)]) (y1.map fun z=>[.lit (.int .u8 z)]) b0 b1
 have e:q7 [.one (ints .u8 y0), .one (ints .u8 y1)] []=some ((.one (B true),[]),true):=by
  show some (n14 (y0.map fun z=>[.lit (.int .u8 z)]) (y1.map fun z=>[.lit (.int .u8 z)]) (g7 (y0.map fun z=>[.lit (.int .u8 z)]) (y1.map fun z=>[.lit (.int .u8 z)])),k7 (y0.map fun z=>[.lit (.int .u8 z)]) (y1.map fun z=>[.lit (.int .u8 z)]))=_
  rw[hk,hg];rfl
 exact(GR (R:=R) (f:=7) (by decide)).symm.trans (t7 _ _ _ e)
end Go.Proofs.YtdipcnijfkdnfaaGreatIrqs
