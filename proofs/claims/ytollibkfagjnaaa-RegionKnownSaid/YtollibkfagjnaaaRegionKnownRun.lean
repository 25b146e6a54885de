/- What the law comes to, by evaluation: true. PRINTED by memo.py. -/
import Derived.Test.YtollibkfagjnaaaRegionKnownMemo7
import Derived.KernelRfl
set_option linter.unusedVariables false
set_option maxRecDepth 100000
namespace Go.Proofs.Ytollibkfagjnaaa.RegionKnown
open Go.Proofs.Ytollibkfagjnaaa.AM Go.RowKit
theorem run : (acall E3 3000 10 [] Vec.emp).map (·.1) = some (.bool true) := by kernel_rfl
theorem calls (w : World) : Calls Try.prog 10 #[] w (fun e w' => e = .returned (.bool true) ∧ Below w.heap.size w w') := calls_closed env3_ok run w
end Go.Proofs.Ytollibkfagjnaaa.RegionKnown
