/- The law's call gives true. -/
import Derived.Test.YtilfpkfifdhhdaaZqNotesL
import Derived.Test.YtilfpkfifdhhdaaZqRow
set_option linter.unusedVariables false
set_option linter.unusedSimpArgs false
namespace Go.Proofs.YtilfpkfifdhhdaaNotes
open Go Go.Zq

theorem sound : Sound Try.prog R := run_sound tableOk clonesOk
theorem law (y0 : List Int) (y1 : List Int) (b0 : bytesOk (y0.map fun z => [.lit (.int .u8 z)]) = true) (b1 : bytesOk (y1.map fun z => [.lit (.int .u8 z)]) = true) : R 8 [.one (ints .u8 y0), .one (ints .u8 y1)] [] = some (.one (B true), []) :=
  t8 _ _ _ (by
    obtain ⟨ok, e, h⟩ := okL (y0.map fun z => [.lit (.int .u8 z)]) (y1.map fun z => [.lit (.int .u8 z)]) b0 b1
    have e2 := e
    rw [h, pureL _ _ b0 b1] at e2
    exact e2)
end Go.Proofs.YtilfpkfifdhhdaaNotes
