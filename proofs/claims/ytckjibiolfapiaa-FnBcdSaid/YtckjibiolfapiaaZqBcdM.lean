/- The law's call gives true. -/
import Derived.Test.YtckjibiolfapiaaZqBcdL
import Derived.Test.YtckjibiolfapiaaZqRow
namespace Go.Proofs.YtckjibiolfapiaaBcd
open Go Go.Zq

theorem sound : Sound Try.prog R := run_sound tableOk (fun _ _ _ _ _ h => by simp at h)
theorem law (y0 y1 : List Int) (b0 : bytesOk (y0.map fun z => [.lit (.int .u8 z)]) = true) (b1 : bytesOk (y1.map fun z => [.lit (.int .u8 z)]) = true) : R 3 [.one (ints .u8 y0), .one (ints .u8 y1)] [] = some (.one (B true), []) :=
  t3 _ _ _ (by
    show some (((SV.one (T.lit (Value.bool (g3_0 (y0.map fun z => [.lit (.int .u8 z)]) (y1.map fun z => [.lit (.int .u8 z)])))), []), bytesOk (y0.map fun z => [.lit (.int .u8 z)]) && bytesOk (y1.map fun z => [.lit (.int .u8 z)])) : (SV × List Blk) × Bool) = _
    rw [pure3, b0, b1]
    rfl)
end Go.Proofs.YtckjibiolfapiaaBcd
