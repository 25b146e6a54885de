/- A table of calls; with it. PRINTED by memo.py. -/
import Derived.Test.YtollibkfagjnaaaRegionKnownMemo2
import Derived.Test.YtollibkfagjnaaaRegionKnownMemo3
import Derived.Test.YtollibkfagjnaaaRegionKnownMemo4
import Derived.KernelRfl
set_option linter.unusedVariables false
set_option maxRecDepth 100000
namespace Go.Proofs.Ytollibkfagjnaaa.RegionKnown
open Go.Proofs.Ytollibkfagjnaaa.AM
noncomputable def tb1 : List Memo := [m6, m7, m8, m9, m10, m11, m12, m13, m14, m15, m16, m17, m18, m19]
theorem tb1_ok : AllRun E1 tb1 := ⟨⟨3000, 17, m6_ok⟩, ⟨⟨3000, 35, m7_ok⟩, ⟨⟨3000, 34, m8_ok⟩, ⟨⟨3000, 52, m9_ok⟩, ⟨⟨3000, 16, m10_ok⟩, ⟨⟨3000, 16, m11_ok⟩, ⟨⟨3000, 16, m12_ok⟩, ⟨⟨3000, 16, m13_ok⟩, ⟨⟨3000, 16, m14_ok⟩, ⟨⟨3000, 16, m15_ok⟩, ⟨⟨3000, 16, m16_ok⟩, ⟨⟨3000, 16, m17_ok⟩, ⟨⟨3000, 24, m18_ok⟩, ⟨⟨3000, 30, m19_ok⟩, trivial⟩⟩⟩⟩⟩⟩⟩⟩⟩⟩⟩⟩⟩⟩
noncomputable def E2 : Env TV := E1.more tb1
theorem env2_ok : EnvOk E2 := more_ok env1_ok tb1_ok
end Go.Proofs.Ytollibkfagjnaaa.RegionKnown
