/- The law's call gives true. -/
import Derived.Test.YtilfpkfifdhhdaaZqLazyL
import Derived.Test.YtilfpkfifdhhdaaZqRow
set_option linter.unusedVariables false
set_option linter.unusedSimpArgs false
namespace Go.Proofs.YtilfpkfifdhhdaaLazy
open Go Go.Zq

theorem sound : Sound Try.prog R := run_sound tableOk clonesOk
theorem law (y0 : List Int) (b0 : bytesOk (y0.map fun z => [.lit (.int .u8 z)]) = true) : R 6 [.one (ints .u8 y0)] [] = some (.one (B true), []) :=
  t6 _ _ _ (by
    obtain ⟨ok, e, h⟩ := okL (y0.map fun z => [.lit (.int .u8 z)]) b0
    have e2 := e
    rw [h, pureL _ b0] at e2
    exact e2)
end Go.Proofs.YtilfpkfifdhhdaaLazy
