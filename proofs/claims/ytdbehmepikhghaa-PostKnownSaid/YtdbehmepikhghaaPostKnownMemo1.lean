/- A table of calls; with it. PRINTED by memo.py. -/
import Derived.Test.YtdbehmepikhghaaPostKnownMemo0
import Derived.KernelRfl
set_option linter.unusedVariables false
set_option maxRecDepth 100000
namespace Go.Proofs.Ytdbehmepikhghaa.PostKnown
open Go.Proofs.Ytdbehmepikhghaa.AM
noncomputable def tb0 : List Memo := [m0, m1, m2, m3, m4, m5]
theorem tb0_ok : AllRun E tb0 := ⟨⟨3000, 20, m0_ok⟩, ⟨⟨3000, 0, m1_ok⟩, ⟨⟨3000, 63, m2_ok⟩, ⟨⟨3000, 85, m3_ok⟩, ⟨⟨3000, 107, m4_ok⟩, ⟨⟨3000, 0, m5_ok⟩, trivial⟩⟩⟩⟩⟩⟩
noncomputable def E1 : Env TV := E.more tb0
theorem env1_ok : EnvOk E1 := more_ok env_ok tb0_ok
end Go.Proofs.Ytdbehmepikhghaa.PostKnown
