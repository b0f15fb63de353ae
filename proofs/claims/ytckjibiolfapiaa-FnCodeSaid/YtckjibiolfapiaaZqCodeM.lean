/- The law's call gives true. -/
import Derived.Test.YtckjibiolfapiaaZme
import Derived.Test.YtckjibiolfapiaaZmb
set_option linter.unusedVariables false
set_option linter.unusedSimpArgs false
namespace Go.Proofs.YtckjibiolfapiaaCode
open Go Go.Zq

theorem sound : Sound Try.prog R := run_sound tableOk clonesOk
theorem law (y0 : List Int) (y1 : List Int) (b0 : bytesOk (y0.map fun z => [.lit (.int .u8 z)]) = true) (b1 : bytesOk (y1.map fun z => [.lit (.int .u8 z)]) = true) (c0 : y0.length ≤ maxLen) (c1 : y1.length ≤ maxLen) : R 14 [.one (ints .u8 y0), .one (ints .u8 y1)] [] = some (.one (B true), []) := by
  obtain ⟨hk, hg⟩ := okL (y0.map fun z => [.lit (.int .u8 z)]) (y1.map fun z => [.lit (.int .u8 z)]) b0 b1 (by rw [List.length_map]; exact c0) (by rw [List.length_map]; exact c1)
  have e : q14 [.one (ints .u8 y0), .one (ints .u8 y1)] [] = some ((.one (B true), []), true) := by
    show some (n14 (y0.map fun z => [.lit (.int .u8 z)]) (y1.map fun z => [.lit (.int .u8 z)]) (g14 (y0.map fun z => [.lit (.int .u8 z)]) (y1.map fun z => [.lit (.int .u8 z)])), k14 (y0.map fun z => [.lit (.int .u8 z)]) (y1.map fun z => [.lit (.int .u8 z)])) = _
    rw [hk, hg]
    rfl
  exact (frz_lo (R := R) (f := 14) (by decide)).symm.trans (t14 _ _ _ e)
end Go.Proofs.YtckjibiolfapiaaCode
