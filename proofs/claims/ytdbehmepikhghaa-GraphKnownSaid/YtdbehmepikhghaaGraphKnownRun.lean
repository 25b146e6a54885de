/- What the law GraphKnown comes to, by evaluation. -/
import Derived.Test.YtdbehmepikhghaaGraphKnownCode
set_option linter.unusedVariables false
set_option maxRecDepth 100000
namespace Go.Proofs.Ytdbehmepikhghaa.GraphKnown
open Go.Proofs.Ytdbehmepikhghaa.AM Go.RowKit
theorem run : (acall E 2000 5 [] Vec.emp).map (·.1) = some (.bool true) := by kernel_rfl
theorem calls (w : World) : Calls Try.prog 5 #[] w (fun e w' => e = .returned (.bool true) ∧ Below w.heap.size w w') := calls_closed env_ok run w
end Go.Proofs.Ytdbehmepikhghaa.GraphKnown
