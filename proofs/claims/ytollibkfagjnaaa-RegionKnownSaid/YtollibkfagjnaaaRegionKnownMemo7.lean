/- A table of calls; with it. PRINTED by memo.py. -/
import Derived.Test.YtollibkfagjnaaaRegionKnownMemo6
import Derived.KernelRfl
set_option linter.unusedVariables false
set_option maxRecDepth 100000
namespace Go.Proofs.Ytollibkfagjnaaa.RegionKnown
open Go.Proofs.Ytollibkfagjnaaa.AM
noncomputable def tb2 : List Memo := [m20]
theorem tb2_ok : AllRun E2 tb2 := ⟨⟨3000, 0, m20_ok⟩, trivial⟩
noncomputable def E3 : Env TV := E2.more tb2
theorem env3_ok : EnvOk E3 := more_ok env2_ok tb2_ok
end Go.Proofs.Ytollibkfagjnaaa.RegionKnown
