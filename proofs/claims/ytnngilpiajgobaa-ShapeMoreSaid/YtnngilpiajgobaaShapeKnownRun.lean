/- What function 23 comes to, by evaluation: true. -/
import Derived.Test.YtnngilpiajgobaaShapeKnownCode
set_option linter.unusedVariables false
set_option maxRecDepth 100000
namespace Go.Proofs.Ytnngilpiajgobaa.ShapeKnown
open Go.Proofs.Ytnngilpiajgobaa.AM Go.RowKit
theorem run : (acall E 3000 23 [] Vec.emp).map (·.1) = some (.bool true) := by kernel_rfl
theorem calls (w : World) : Calls Try.prog 23 #[] w (fun e w' => e = .returned (.bool true) ∧ Below w.heap.size w w') := calls_closed env_ok run w
end Go.Proofs.Ytnngilpiajgobaa.ShapeKnown
