/- What function 27 comes to, by evaluation: true. -/
import Derived.Test.YtollibkfagjnaaaFrameAwakeCode
set_option linter.unusedVariables false
set_option maxRecDepth 100000
namespace Go.Proofs.Ytollibkfagjnaaa.FrameAwake
open Go.Proofs.Ytollibkfagjnaaa.AM Go.RowKit
theorem run : (acall E 4000 27 [] Vec.emp).map (·.1) = some (.bool true) := by kernel_rfl
theorem calls (w : World) : Calls Try.prog 27 #[] w (fun e w' => e = .returned (.bool true) ∧ Below w.heap.size w w') := calls_closed env_ok run w
end Go.Proofs.Ytollibkfagjnaaa.FrameAwake
