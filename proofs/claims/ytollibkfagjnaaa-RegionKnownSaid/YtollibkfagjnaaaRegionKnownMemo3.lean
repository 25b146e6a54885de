/- Calls, each evaluated in a heap of what it reads. PRINTED by memo.py. -/
import Derived.Test.YtollibkfagjnaaaRegionKnownMemo1
import Derived.KernelRfl
set_option linter.unusedVariables false
set_option maxRecDepth 100000
namespace Go.Proofs.Ytollibkfagjnaaa.RegionKnown
open Go.Proofs.Ytollibkfagjnaaa.AM
noncomputable def m12 : Memo := ⟨42, [(.agg #[(.int .u64 0), (.slice none 0 0), (.slice none 0 0), (.int .i64 0), (.int .i64 0), (.slice (some ⟨15, 0, none⟩) 6 12)]), (.int .i64 5)], [(15, [(.int .i64 44), (.int .i64 3), (.int .i64 42), (.int .i64 0), (.int .i64 43), (.int .i64 4), (.int .i64 42), (.int .i64 0), (.int .i64 44), (.int .i64 4), (.int .i64 46), (.int .i64 0)])], (.slice none 0 0), none⟩
theorem m12_ok : memoRun E1 3000 16 m12 = true := by kernel_rfl
noncomputable def m13 : Memo := ⟨42, [(.agg #[(.int .u64 0), (.slice none 0 0), (.slice none 0 0), (.int .i64 0), (.int .i64 0), (.slice (some ⟨15, 0, none⟩) 6 12)]), (.int .i64 9)], [(15, [(.int .i64 44), (.int .i64 3), (.int .i64 42), (.int .i64 0), (.int .i64 43), (.int .i64 4), (.int .i64 42), (.int .i64 0), (.int .i64 44), (.int .i64 4), (.int .i64 46), (.int .i64 0)])], (.slice none 0 0), none⟩
theorem m13_ok : memoRun E1 3000 16 m13 = true := by kernel_rfl
noncomputable def m14 : Memo := ⟨42, [(.agg #[(.int .u64 0), (.slice none 0 0), (.slice none 0 0), (.int .i64 0), (.int .i64 0), (.slice (some ⟨15, 0, none⟩) 6 12)]), (.int .i64 (-1))], [(15, [(.int .i64 44), (.int .i64 3), (.int .i64 42), (.int .i64 0), (.int .i64 43), (.int .i64 4), (.int .i64 42), (.int .i64 0), (.int .i64 44), (.int .i64 4), (.int .i64 46), (.int .i64 0)])], (.slice none 0 0), none⟩
theorem m14_ok : memoRun E1 3000 16 m14 = true := by kernel_rfl
noncomputable def m15 : Memo := ⟨43, [(.agg #[(.int .u64 0), (.slice none 0 0), (.slice none 0 0), (.int .i64 0), (.int .i64 0), (.slice (some ⟨15, 0, none⟩) 6 12)]), (.int .i64 2)], [(15, [(.int .i64 44), (.int .i64 3), (.int .i64 42), (.int .i64 0), (.int .i64 43), (.int .i64 4), (.int .i64 42), (.int .i64 0), (.int .i64 44), (.int .i64 4), (.int .i64 46), (.int .i64 0)])], (.slice (some ⟨89, 0, none⟩) 1 3), (some [(.int .i64 0)])⟩
theorem m15_ok : memoRun E1 3000 16 m15 = true := by kernel_rfl
noncomputable def m16 : Memo := ⟨43, [(.agg #[(.int .u64 0), (.slice none 0 0), (.slice none 0 0), (.int .i64 0), (.int .i64 0), (.slice (some ⟨15, 0, none⟩) 6 12)]), (.int .i64 4)], [(15, [(.int .i64 44), (.int .i64 3), (.int .i64 42), (.int .i64 0), (.int .i64 43), (.int .i64 4), (.int .i64 42), (.int .i64 0), (.int .i64 44), (.int .i64 4), (.int .i64 46), (.int .i64 0)])], (.slice (some ⟨115, 0, none⟩) 1 3), (some [(.int .i64 4)])⟩
theorem m16_ok : memoRun E1 3000 16 m16 = true := by kernel_rfl
noncomputable def m17 : Memo := ⟨43, [(.agg #[(.int .u64 0), (.slice none 0 0), (.slice none 0 0), (.int .i64 0), (.int .i64 0), (.slice (some ⟨15, 0, none⟩) 6 12)]), (.int .i64 5)], [(15, [(.int .i64 44), (.int .i64 3), (.int .i64 42), (.int .i64 0), (.int .i64 43), (.int .i64 4), (.int .i64 42), (.int .i64 0), (.int .i64 44), (.int .i64 4), (.int .i64 46), (.int .i64 0)])], (.slice none 0 0), none⟩
theorem m17_ok : memoRun E1 3000 16 m17 = true := by kernel_rfl
end Go.Proofs.Ytollibkfagjnaaa.RegionKnown
