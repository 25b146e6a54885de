/- Calls, each evaluated in a heap of what it reads. PRINTED by memo.py. -/
import Derived.Test.YtdbehmepikhghaaPostKnownCode
import Derived.Test.YtdbehmepikhghaaAM27
import Derived.KernelRfl
set_option linter.unusedVariables false
set_option maxRecDepth 100000
namespace Go.Proofs.Ytdbehmepikhghaa.PostKnown
open Go.Proofs.Ytdbehmepikhghaa.AM
noncomputable def m0 : Memo := ⟨33, [(.agg #[(.int .u64 0), (.slice none 0 0), (.slice none 0 0), (.int .i64 0), (.int .i64 0), (.slice (some ⟨19, 0, none⟩) 8 16)])], [(19, [(.int .i64 44), (.int .i64 3), (.int .i64 42), (.int .i64 0), (.int .i64 43), (.int .i64 4), (.int .i64 42), (.int .i64 0), (.int .i64 44), (.int .i64 6), (.int .i64 46), (.int .i64 0), (.int .i64 46), (.int .i64 0), (.int .i64 43), (.int .i64 7)])], (.slice (some ⟨143, 0, none⟩) 9 19), (some [(.int .i64 4), (.int .i64 2), (.int .i64 4), (.int .i64 4), (.int .i64 8), (.int .i64 8), (.int .i64 8), (.int .i64 (-1)), (.int .i64 (-1))])⟩
theorem m0_ok : memoRun E 3000 20 m0 = true := by kernel_rfl
noncomputable def m1 : Memo := ⟨30, [], [], (.bool true), none⟩
theorem m1_ok : memoRun E 3000 0 m1 = true := by kernel_rfl
noncomputable def m2 : Memo := ⟨33, [(.agg #[(.int .u64 0), (.slice none 0 0), (.slice none 0 0), (.int .i64 0), (.int .i64 0), (.slice (some ⟨62, 0, none⟩) 8 16)])], [(62, [(.int .i64 44), (.int .i64 3), (.int .i64 42), (.int .i64 0), (.int .i64 43), (.int .i64 4), (.int .i64 42), (.int .i64 0), (.int .i64 44), (.int .i64 6), (.int .i64 46), (.int .i64 0), (.int .i64 46), (.int .i64 0), (.int .i64 43), (.int .i64 7)])], (.slice (some ⟨186, 0, none⟩) 9 19), (some [(.int .i64 4), (.int .i64 2), (.int .i64 4), (.int .i64 4), (.int .i64 8), (.int .i64 8), (.int .i64 8), (.int .i64 (-1)), (.int .i64 (-1))])⟩
theorem m2_ok : memoRun E 3000 63 m2 = true := by kernel_rfl
noncomputable def m3 : Memo := ⟨33, [(.agg #[(.int .u64 0), (.slice none 0 0), (.slice none 0 0), (.int .i64 0), (.int .i64 0), (.slice (some ⟨84, 0, none⟩) 8 16)])], [(84, [(.int .i64 44), (.int .i64 3), (.int .i64 42), (.int .i64 0), (.int .i64 43), (.int .i64 4), (.int .i64 42), (.int .i64 0), (.int .i64 44), (.int .i64 6), (.int .i64 46), (.int .i64 0), (.int .i64 46), (.int .i64 0), (.int .i64 43), (.int .i64 7)])], (.slice (some ⟨208, 0, none⟩) 9 19), (some [(.int .i64 4), (.int .i64 2), (.int .i64 4), (.int .i64 4), (.int .i64 8), (.int .i64 8), (.int .i64 8), (.int .i64 (-1)), (.int .i64 (-1))])⟩
theorem m3_ok : memoRun E 3000 85 m3 = true := by kernel_rfl
noncomputable def m4 : Memo := ⟨33, [(.agg #[(.int .u64 0), (.slice none 0 0), (.slice none 0 0), (.int .i64 0), (.int .i64 0), (.slice (some ⟨106, 0, none⟩) 8 16)])], [(106, [(.int .i64 44), (.int .i64 3), (.int .i64 42), (.int .i64 0), (.int .i64 43), (.int .i64 4), (.int .i64 42), (.int .i64 0), (.int .i64 44), (.int .i64 6), (.int .i64 46), (.int .i64 0), (.int .i64 46), (.int .i64 0), (.int .i64 43), (.int .i64 7)])], (.slice (some ⟨230, 0, none⟩) 9 19), (some [(.int .i64 4), (.int .i64 2), (.int .i64 4), (.int .i64 4), (.int .i64 8), (.int .i64 8), (.int .i64 8), (.int .i64 (-1)), (.int .i64 (-1))])⟩
theorem m4_ok : memoRun E 3000 107 m4 = true := by kernel_rfl
noncomputable def m5 : Memo := ⟨33, [(.agg #[(.int .u64 0), (.slice none 0 0), (.slice none 0 0), (.int .i64 0), (.int .i64 0), (.slice none 0 0)])], [], (.slice (some ⟨15, 0, none⟩) 1 3), (some [(.int .i64 (-1))])⟩
theorem m5_ok : memoRun E 3000 0 m5 = true := by kernel_rfl
end Go.Proofs.Ytdbehmepikhghaa.PostKnown
