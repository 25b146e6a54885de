/- What function 12 comes to, by evaluation: true. -/
import Derived.Test.YtdbehmepikhghaaGraphAwakeCode
set_option linter.unusedVariables false
set_option maxRecDepth 100000
namespace Go.Proofs.Ytdbehmepikhghaa.GraphAwake
open Go.Proofs.Ytdbehmepikhghaa.AM Go.RowKit
theorem run : (acall E 1000 12 [] Vec.emp).map (·.1) = some (.bool true) := by kernel_rfl
theorem calls (w : World) : Calls Try.prog 12 #[] w (fun e w' => e = .returned (.bool true) ∧ Below w.heap.size w w') := calls_closed env_ok run w
end Go.Proofs.Ytdbehmepikhghaa.GraphAwake
