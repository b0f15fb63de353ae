/- The law's call gives true. -/
import Derived.Test.YtckjibiolfapiaaZqSumsL
import Derived.Test.YtckjibiolfapiaaZqRow
set_option linter.unusedVariables false
set_option linter.unusedSimpArgs false
namespace Go.Proofs.YtckjibiolfapiaaSums
open Go Go.Zq

theorem sound : Sound Try.prog R := run_sound tableOk (fun _ _ _ _ _ h => by simp at h)
theorem law (y0 : List Int) (y1 : List Int) (b0 : bytesOk (y0.map fun z => [.lit (.int .u8 z)]) = true) (b1 : bytesOk (y1.map fun z => [.lit (.int .u8 z)]) = true) : R 4 [.one (ints .u8 y0), .one (ints .u8 y1)] [] = some (.one (B true), []) :=
  t4 _ _ _ (by
    show some (((SV.one (T.lit (Value.bool (g4_0 (y0.map fun z => [.lit (.int .u8 z)]) (y1.map fun z => [.lit (.int .u8 z)])))), []), bytesOk (y0.map fun z => [.lit (.int .u8 z)]) && bytesOk (y1.map fun z => [.lit (.int .u8 z)])) : (SV × List Blk) × Bool) = _
    rw [pure4, b0, b1]
    rfl)
end Go.Proofs.YtckjibiolfapiaaSums
