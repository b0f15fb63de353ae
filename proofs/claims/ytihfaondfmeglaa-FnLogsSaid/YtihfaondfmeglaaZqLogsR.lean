/- What the functions of the table compute. -/
import Derived.Test.YtihfaondfmeglaaZqTabLogs
import Derived.Test.YtihfaondfmeglaaZmc
set_option linter.unusedVariables false
set_option linter.unusedSimpArgs false
namespace Go.Proofs.YtihfaondfmeglaaLogs
open Go Go.Zq

noncomputable def R : Rt := run (tabOf table) (extOf clones)
theorem R_fn {f : FuncId} {cf : Zq.Fn} (hf : tabOf table f = some cf) {args : List SV} {hp : List Blk} {r : SV × List Blk} (n : Nat) (h : cf.run R n args hp = some r) : R f args hp = some r := run_fn hf h
end Go.Proofs.YtihfaondfmeglaaLogs
