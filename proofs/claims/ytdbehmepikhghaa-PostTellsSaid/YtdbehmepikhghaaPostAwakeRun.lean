/- What function 30 comes to, by evaluation: true. -/
import Derived.Test.YtdbehmepikhghaaPostAwakeCode
set_option linter.unusedVariables false
set_option maxRecDepth 100000
namespace Go.Proofs.Ytdbehmepikhghaa.PostAwake
open Go.Proofs.Ytdbehmepikhghaa.AM Go.RowKit
theorem run : (acall E 3000 30 [] Vec.emp).map (·.1) = some (.bool true) := by kernel_rfl
theorem calls (w : World) : Calls Try.prog 30 #[] w (fun e w' => e = .returned (.bool true) ∧ Below w.heap.size w w') := calls_closed env_ok run w
end Go.Proofs.Ytdbehmepikhghaa.PostAwake
