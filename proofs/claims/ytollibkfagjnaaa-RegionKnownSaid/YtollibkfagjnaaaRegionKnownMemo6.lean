/- Calls, each evaluated in a heap of what it reads. PRINTED by memo.py. -/
import Derived.Test.YtollibkfagjnaaaRegionKnownMemo5
import Derived.KernelRfl
set_option linter.unusedVariables false
set_option maxRecDepth 100000
namespace Go.Proofs.Ytollibkfagjnaaa.RegionKnown
open Go.Proofs.Ytollibkfagjnaaa.AM
noncomputable def m20 : Memo := ⟨34, [], [], (.bool true), none⟩
theorem m20_ok : memoRun E2 3000 0 m20 = true := by kernel_rfl
end Go.Proofs.Ytollibkfagjnaaa.RegionKnown
