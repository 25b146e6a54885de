import Derived.Test.YtggaimcopbjdiaaChartAwakeMemo4
import Derived.KernelRfl
set_option linter.unusedVariables false
set_option maxRecDepth 100000
namespace Go.Proofs.Ytggaimcopbjdiaa.ChartAwake
open Go.Proofs.Ytggaimcopbjdiaa.AM Go.RowKit
theorem run : (acall E2 4000 6 [] Vec.emp).map (·.1) = some (.bool true) := by kernel_rfl
theorem calls (w : World) : Calls Try.prog 6 #[] w (fun e w' => e = .returned (.bool true) ∧ Below w.heap.size w w') := calls_closed env2_ok run w
end Go.Proofs.Ytggaimcopbjdiaa.ChartAwake
