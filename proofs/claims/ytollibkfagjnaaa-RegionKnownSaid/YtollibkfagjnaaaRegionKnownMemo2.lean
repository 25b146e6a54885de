/- Calls, each evaluated in a heap of what it reads. PRINTED by memo.py. -/
import Derived.Test.YtollibkfagjnaaaRegionKnownMemo1
import Derived.KernelRfl
set_option linter.unusedVariables false
set_option maxRecDepth 100000
namespace Go.Proofs.Ytollibkfagjnaaa.RegionKnown
open Go.Proofs.Ytollibkfagjnaaa.AM
noncomputable def m6 : Memo := ⟨37, [(.agg #[(.int .u64 0), (.slice none 0 0), (.slice none 0 0), (.int .i64 0), (.int .i64 0), (.slice (some ⟨15, 0, none⟩) 6 12)]), (.int .u64 1), (.slice (some ⟨16, 0, none⟩) 5 11)], [(15, [(.int .i64 44), (.int .i64 3), (.int .i64 42), (.int .i64 0), (.int .i64 43), (.int .i64 4), (.int .i64 42), (.int .i64 0), (.int .i64 44), (.int .i64 4), (.int .i64 46), (.int .i64 0)]), (16, [(.int .u64 2), (.int .u64 0), (.int .u64 0), (.int .u64 0), (.int .u64 4)])], (.slice (some ⟨76, 0, none⟩) 6 13), (some [(.int .u64 1), (.int .u64 3), (.int .u64 3), (.int .u64 3), (.int .u64 5), (.int .u64 1)])⟩
theorem m6_ok : memoRun E1 3000 17 m6 = true := by kernel_rfl
noncomputable def m7 : Memo := ⟨42, [(.agg #[(.int .u64 0), (.slice none 0 0), (.slice none 0 0), (.int .i64 0), (.int .i64 0), (.slice (some ⟨34, 0, none⟩) 6 12)]), (.int .i64 0)], [(34, [(.int .i64 44), (.int .i64 3), (.int .i64 42), (.int .i64 0), (.int .i64 43), (.int .i64 4), (.int .i64 42), (.int .i64 0), (.int .i64 44), (.int .i64 4), (.int .i64 46), (.int .i64 0)])], (.slice (some ⟨110, 0, none⟩) 3 7), (some [(.int .i64 1), (.int .i64 2), (.int .i64 3)])⟩
theorem m7_ok : memoRun E1 3000 35 m7 = true := by kernel_rfl
noncomputable def m8 : Memo := ⟨37, [(.agg #[(.int .u64 0), (.slice none 0 0), (.slice none 0 0), (.int .i64 0), (.int .i64 0), (.slice (some ⟨32, 0, none⟩) 6 12)]), (.int .u64 1), (.slice (some ⟨33, 0, none⟩) 5 11)], [(32, [(.int .i64 44), (.int .i64 3), (.int .i64 42), (.int .i64 0), (.int .i64 43), (.int .i64 4), (.int .i64 42), (.int .i64 0), (.int .i64 44), (.int .i64 4), (.int .i64 46), (.int .i64 0)]), (33, [(.int .u64 2), (.int .u64 0), (.int .u64 0), (.int .u64 0), (.int .u64 4)])], (.slice (some ⟨93, 0, none⟩) 6 13), (some [(.int .u64 1), (.int .u64 3), (.int .u64 3), (.int .u64 3), (.int .u64 5), (.int .u64 1)])⟩
theorem m8_ok : memoRun E1 3000 34 m8 = true := by kernel_rfl
noncomputable def m9 : Memo := ⟨42, [(.agg #[(.int .u64 0), (.slice none 0 0), (.slice none 0 0), (.int .i64 0), (.int .i64 0), (.slice (some ⟨51, 0, none⟩) 6 12)]), (.int .i64 0)], [(51, [(.int .i64 44), (.int .i64 3), (.int .i64 42), (.int .i64 0), (.int .i64 43), (.int .i64 4), (.int .i64 42), (.int .i64 0), (.int .i64 44), (.int .i64 4), (.int .i64 46), (.int .i64 0)])], (.slice (some ⟨127, 0, none⟩) 3 7), (some [(.int .i64 1), (.int .i64 2), (.int .i64 3)])⟩
theorem m9_ok : memoRun E1 3000 52 m9 = true := by kernel_rfl
noncomputable def m10 : Memo := ⟨42, [(.agg #[(.int .u64 0), (.slice none 0 0), (.slice none 0 0), (.int .i64 0), (.int .i64 0), (.slice (some ⟨15, 0, none⟩) 6 12)]), (.int .i64 1)], [(15, [(.int .i64 44), (.int .i64 3), (.int .i64 42), (.int .i64 0), (.int .i64 43), (.int .i64 4), (.int .i64 42), (.int .i64 0), (.int .i64 44), (.int .i64 4), (.int .i64 46), (.int .i64 0)])], (.slice none 0 0), none⟩
theorem m10_ok : memoRun E1 3000 16 m10 = true := by kernel_rfl
noncomputable def m11 : Memo := ⟨42, [(.agg #[(.int .u64 0), (.slice none 0 0), (.slice none 0 0), (.int .i64 0), (.int .i64 0), (.slice (some ⟨15, 0, none⟩) 6 12)]), (.int .i64 4)], [(15, [(.int .i64 44), (.int .i64 3), (.int .i64 42), (.int .i64 0), (.int .i64 43), (.int .i64 4), (.int .i64 42), (.int .i64 0), (.int .i64 44), (.int .i64 4), (.int .i64 46), (.int .i64 0)])], (.slice (some ⟨84, 0, none⟩) 1 3), (some [(.int .i64 4)])⟩
theorem m11_ok : memoRun E1 3000 16 m11 = true := by kernel_rfl
end Go.Proofs.Ytollibkfagjnaaa.RegionKnown
