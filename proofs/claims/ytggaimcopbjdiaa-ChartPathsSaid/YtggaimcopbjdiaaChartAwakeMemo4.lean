import Derived.Test.YtggaimcopbjdiaaChartAwakeCode
import Derived.Test.YtggaimcopbjdiaaAMb
import Derived.KernelRfl
set_option linter.unusedVariables false
set_option maxRecDepth 100000
namespace Go.Proofs.Ytggaimcopbjdiaa.ChartAwake
open Go.Proofs.Ytggaimcopbjdiaa.AM
noncomputable def m0 : Memo := ⟨58, [(.agg #[(.int .u64 0), (.slice none 0 0), (.slice none 0 0), (.int .i64 0), (.int .i64 0), (.slice (some ⟨13, 0, none⟩) 5 10)])], [(13, [(.int .i64 33), (.int .i64 0), (.int .i64 44), (.int .i64 4), (.int .i64 42), (.int .i64 0), (.int .i64 43), (.int .i64 1), (.int .i64 46), (.int .i64 0)])], (.slice (some ⟨99, 0, none⟩) 6 13), (some [(.int .i64 1), (.int .i64 4), (.int .i64 3), (.int .i64 1), (.int .i64 5), (.int .i64 (-1))])⟩
theorem m0_ok : memoRun E 4000 14 m0 = true := by kernel_rfl
end Go.Proofs.Ytggaimcopbjdiaa.ChartAwake
namespace Go.Proofs.Ytggaimcopbjdiaa.ChartAwake
open Go.Proofs.Ytggaimcopbjdiaa.AM
noncomputable def tb0 : List Memo := [m0]
theorem tb0_ok : AllRun E tb0 := ⟨⟨4000, 14, m0_ok⟩, trivial⟩
noncomputable def E1 : Env TV := E.more tb0
theorem env1_ok : EnvOk E1 := more_ok env_ok tb0_ok
end Go.Proofs.Ytggaimcopbjdiaa.ChartAwake
namespace Go.Proofs.Ytggaimcopbjdiaa.ChartAwake
open Go.Proofs.Ytggaimcopbjdiaa.AM
noncomputable def m1 : Memo := ⟨48, [(.agg #[(.int .u64 0), (.slice none 0 0), (.slice none 0 0), (.int .i64 0), (.int .i64 0), (.slice (some ⟨13, 0, none⟩) 5 10)]), (.int .i64 0)], [(13, [(.int .i64 33), (.int .i64 0), (.int .i64 44), (.int .i64 4), (.int .i64 42), (.int .i64 0), (.int .i64 43), (.int .i64 1), (.int .i64 46), (.int .i64 0)])], (.slice none 0 0), none⟩
theorem m1_ok : memoRun E1 4000 14 m1 = true := by kernel_rfl
noncomputable def m2 : Memo := ⟨48, [(.agg #[(.int .u64 0), (.slice none 0 0), (.slice none 0 0), (.int .i64 0), (.int .i64 0), (.slice (some ⟨13, 0, none⟩) 5 10)]), (.int .i64 1)], [(13, [(.int .i64 33), (.int .i64 0), (.int .i64 44), (.int .i64 4), (.int .i64 42), (.int .i64 0), (.int .i64 43), (.int .i64 1), (.int .i64 46), (.int .i64 0)])], (.slice (some ⟨79, 0, none⟩) 3 7), (some [(.int .i64 1), (.int .i64 2), (.int .i64 3)])⟩
theorem m2_ok : memoRun E1 4000 14 m2 = true := by kernel_rfl
noncomputable def m3 : Memo := ⟨48, [(.agg #[(.int .u64 0), (.slice none 0 0), (.slice none 0 0), (.int .i64 0), (.int .i64 0), (.slice (some ⟨13, 0, none⟩) 5 10)]), (.int .i64 2)], [(13, [(.int .i64 33), (.int .i64 0), (.int .i64 44), (.int .i64 4), (.int .i64 42), (.int .i64 0), (.int .i64 43), (.int .i64 1), (.int .i64 46), (.int .i64 0)])], (.slice none 0 0), none⟩
theorem m3_ok : memoRun E1 4000 14 m3 = true := by kernel_rfl
end Go.Proofs.Ytggaimcopbjdiaa.ChartAwake
namespace Go.Proofs.Ytggaimcopbjdiaa.ChartAwake
open Go.Proofs.Ytggaimcopbjdiaa.AM
noncomputable def m4 : Memo := ⟨48, [(.agg #[(.int .u64 0), (.slice none 0 0), (.slice none 0 0), (.int .i64 0), (.int .i64 0), (.slice (some ⟨13, 0, none⟩) 5 10)]), (.int .i64 3)], [(13, [(.int .i64 33), (.int .i64 0), (.int .i64 44), (.int .i64 4), (.int .i64 42), (.int .i64 0), (.int .i64 43), (.int .i64 1), (.int .i64 46), (.int .i64 0)])], (.slice none 0 0), none⟩
theorem m4_ok : memoRun E1 4000 14 m4 = true := by kernel_rfl
noncomputable def m5 : Memo := ⟨48, [(.agg #[(.int .u64 0), (.slice none 0 0), (.slice none 0 0), (.int .i64 0), (.int .i64 0), (.slice (some ⟨13, 0, none⟩) 5 10)]), (.int .i64 4)], [(13, [(.int .i64 33), (.int .i64 0), (.int .i64 44), (.int .i64 4), (.int .i64 42), (.int .i64 0), (.int .i64 43), (.int .i64 1), (.int .i64 46), (.int .i64 0)])], (.slice none 0 0), none⟩
theorem m5_ok : memoRun E1 4000 14 m5 = true := by kernel_rfl
end Go.Proofs.Ytggaimcopbjdiaa.ChartAwake
namespace Go.Proofs.Ytggaimcopbjdiaa.ChartAwake
open Go.Proofs.Ytggaimcopbjdiaa.AM
noncomputable def tb1 : List Memo := [m1, m2, m3, m4, m5]
theorem tb1_ok : AllRun E1 tb1 := ⟨⟨4000, 14, m1_ok⟩, ⟨⟨4000, 14, m2_ok⟩, ⟨⟨4000, 14, m3_ok⟩, ⟨⟨4000, 14, m4_ok⟩, ⟨⟨4000, 14, m5_ok⟩, trivial⟩⟩⟩⟩⟩
noncomputable def E2 : Env TV := E1.more tb1
theorem env2_ok : EnvOk E2 := more_ok env1_ok tb1_ok
end Go.Proofs.Ytggaimcopbjdiaa.ChartAwake
