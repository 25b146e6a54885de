/- Calls, each evaluated in a heap of what it reads. PRINTED by memo.py. -/
import Derived.Test.YtollibkfagjnaaaRegionKnownMemo1
import Derived.KernelRfl
set_option linter.unusedVariables false
set_option maxRecDepth 100000
namespace Go.Proofs.Ytollibkfagjnaaa.RegionKnown
open Go.Proofs.Ytollibkfagjnaaa.AM
noncomputable def m18 : Memo := ⟨37, [(.agg #[(.int .u64 0), (.slice none 0 0), (.slice none 0 0), (.int .i64 0), (.int .i64 0), (.slice none 0 0)]), (.int .u64 1), (.slice (some ⟨23, 0, none⟩) 1 3)], [(23, [(.int .u64 7)])], (.slice (some ⟨35, 0, none⟩) 0 1), (some [])⟩
theorem m18_ok : memoRun E1 3000 24 m18 = true := by kernel_rfl
noncomputable def m19 : Memo := ⟨42, [(.agg #[(.int .u64 0), (.slice none 0 0), (.slice none 0 0), (.int .i64 0), (.int .i64 0), (.slice (some ⟨29, 0, none⟩) 1 2)]), (.int .i64 0)], [(29, [(.int .i64 43), (.int .i64 0)])], (.slice none 0 0), none⟩
theorem m19_ok : memoRun E1 3000 30 m19 = true := by kernel_rfl
end Go.Proofs.Ytollibkfagjnaaa.RegionKnown
