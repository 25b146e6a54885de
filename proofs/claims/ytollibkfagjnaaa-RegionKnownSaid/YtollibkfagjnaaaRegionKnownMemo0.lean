/- Calls, each evaluated in a heap of what it reads. PRINTED by memo.py. -/
import Derived.Test.YtollibkfagjnaaaRegionKnownCode
import Derived.Test.YtollibkfagjnaaaAM27
import Derived.KernelRfl
set_option linter.unusedVariables false
set_option maxRecDepth 100000
namespace Go.Proofs.Ytollibkfagjnaaa.RegionKnown
open Go.Proofs.Ytollibkfagjnaaa.AM
noncomputable def m0 : Memo := ⟨88, [(.agg #[(.int .u64 0), (.slice none 0 0), (.slice none 0 0), (.int .i64 0), (.int .i64 0), (.slice (some ⟨15, 0, none⟩) 6 12)])], [(15, [(.int .i64 44), (.int .i64 3), (.int .i64 42), (.int .i64 0), (.int .i64 43), (.int .i64 4), (.int .i64 42), (.int .i64 0), (.int .i64 44), (.int .i64 4), (.int .i64 46), (.int .i64 0)])], (.slice (some ⟨118, 0, none⟩) 7 15), (some [(.int .i64 4), (.int .i64 2), (.int .i64 4), (.int .i64 4), (.int .i64 5), (.int .i64 6), (.int .i64 (-1))])⟩
theorem m0_ok : memoRun E 3000 16 m0 = true := by kernel_rfl
noncomputable def m1 : Memo := ⟨88, [(.agg #[(.int .u64 0), (.slice none 0 0), (.slice none 0 0), (.int .i64 0), (.int .i64 0), (.slice (some ⟨34, 0, none⟩) 6 12)])], [(34, [(.int .i64 44), (.int .i64 3), (.int .i64 42), (.int .i64 0), (.int .i64 43), (.int .i64 4), (.int .i64 42), (.int .i64 0), (.int .i64 44), (.int .i64 4), (.int .i64 46), (.int .i64 0)])], (.slice (some ⟨137, 0, none⟩) 7 15), (some [(.int .i64 4), (.int .i64 2), (.int .i64 4), (.int .i64 4), (.int .i64 5), (.int .i64 6), (.int .i64 (-1))])⟩
theorem m1_ok : memoRun E 3000 35 m1 = true := by kernel_rfl
noncomputable def m2 : Memo := ⟨88, [(.agg #[(.int .u64 0), (.slice none 0 0), (.slice none 0 0), (.int .i64 0), (.int .i64 0), (.slice (some ⟨32, 0, none⟩) 6 12)])], [(32, [(.int .i64 44), (.int .i64 3), (.int .i64 42), (.int .i64 0), (.int .i64 43), (.int .i64 4), (.int .i64 42), (.int .i64 0), (.int .i64 44), (.int .i64 4), (.int .i64 46), (.int .i64 0)])], (.slice (some ⟨135, 0, none⟩) 7 15), (some [(.int .i64 4), (.int .i64 2), (.int .i64 4), (.int .i64 4), (.int .i64 5), (.int .i64 6), (.int .i64 (-1))])⟩
theorem m2_ok : memoRun E 3000 33 m2 = true := by kernel_rfl
noncomputable def m3 : Memo := ⟨88, [(.agg #[(.int .u64 0), (.slice none 0 0), (.slice none 0 0), (.int .i64 0), (.int .i64 0), (.slice (some ⟨51, 0, none⟩) 6 12)])], [(51, [(.int .i64 44), (.int .i64 3), (.int .i64 42), (.int .i64 0), (.int .i64 43), (.int .i64 4), (.int .i64 42), (.int .i64 0), (.int .i64 44), (.int .i64 4), (.int .i64 46), (.int .i64 0)])], (.slice (some ⟨154, 0, none⟩) 7 15), (some [(.int .i64 4), (.int .i64 2), (.int .i64 4), (.int .i64 4), (.int .i64 5), (.int .i64 6), (.int .i64 (-1))])⟩
theorem m3_ok : memoRun E 3000 52 m3 = true := by kernel_rfl
noncomputable def m4 : Memo := ⟨88, [(.agg #[(.int .u64 0), (.slice none 0 0), (.slice none 0 0), (.int .i64 0), (.int .i64 0), (.slice none 0 0)])], [], (.slice (some ⟨15, 0, none⟩) 1 3), (some [(.int .i64 (-1))])⟩
theorem m4_ok : memoRun E 3000 0 m4 = true := by kernel_rfl
noncomputable def m5 : Memo := ⟨88, [(.agg #[(.int .u64 0), (.slice none 0 0), (.slice none 0 0), (.int .i64 0), (.int .i64 0), (.slice (some ⟨29, 0, none⟩) 1 2)])], [(29, [(.int .i64 43), (.int .i64 0)])], (.slice (some ⟨56, 0, none⟩) 2 5), (some [(.int .i64 (-1)), (.int .i64 (-1))])⟩
theorem m5_ok : memoRun E 3000 30 m5 = true := by kernel_rfl
end Go.Proofs.Ytollibkfagjnaaa.RegionKnown
