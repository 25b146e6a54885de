/- What the law comes to, by evaluation: true. PRINTED by memo.py. -/
import Derived.Test.YtdbehmepikhghaaPostKnownMemo1
import Derived.KernelRfl
set_option linter.unusedVariables false
set_option maxRecDepth 100000
namespace Go.Proofs.Ytdbehmepikhghaa.PostKnown
open Go.Proofs.Ytdbehmepikhghaa.AM Go.RowKit
theorem run : (acall E1 3000 8 [] Vec.emp).map (·.1) = some (.bool true) := by kernel_rfl
theorem calls (w : World) : Calls Try.prog 8 #[] w (fun e w' => e = .returned (.bool true) ∧ Below w.heap.size w w') := calls_closed env1_ok run w
end Go.Proofs.Ytdbehmepikhghaa.PostKnown
