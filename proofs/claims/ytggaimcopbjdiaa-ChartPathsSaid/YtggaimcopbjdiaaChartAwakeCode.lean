import Derived.Test.YtggaimcopbjdiaaAMb
import Derived.Test.YtggaimcopbjdiaaProg
import Derived.KernelRfl
set_option linter.unusedVariables false
set_option maxRecDepth 100000
namespace Go.Proofs.Ytggaimcopbjdiaa.ChartAwake
open Go.Proofs.Ytggaimcopbjdiaa.AM
noncomputable def c6 : AFunc := ⟨[0, 1], [.tmp 0],
 .seq (.region [] [(0, (.const (.bool false)))])
 (.seq (.region [⟨.call (.func 22) [], none, 0⟩, ⟨.alloc [(.int .u64 0), (.slice none 0 0), (.slice none 0 0), (.int .i64 0), (.int .i64 0), (.slice none 0 0)], none, 0⟩, ⟨.store 6 (.loc 0) (.loc 1), none, 0⟩] [(1, (.loc 1))])
 (.seq (.region [⟨.load (some 6) (.tmp 1), none, 0⟩, ⟨.call (.func 7) [(.loc 0)], none, 0⟩, ⟨.mkarr 6 [(.complex .f64 0 0), (.complex .f64 0 0), (.complex .f64 0 0), (.complex .f64 0 0), (.complex .f64 0 0), (.complex .f64 0 0)] [(0, 1, (.const (.complex .f64 0 0))), (1, 1, (.const (.complex .f64 4607182418800017408 13830554455654793216))), (2, 1, (.const (.complex .f64 4607182418800017408 13835058055282163712))), (3, 1, (.const (.complex .f64 4607182418800017408 13837309855095848960))), (4, 1, (.const (.complex .f64 0 13839561654909534208))), (5, 1, (.const (.complex .f64 0 13840687554816376832)))], none, 0⟩, ⟨.call (.func 9) [(.loc 1), (.loc 0)], none, 0⟩, ⟨.load (some 6) (.tmp 1), (some ((.loc 0), true)), 0⟩, ⟨.mkarr 4 [(.complex .f64 0 0), (.complex .f64 0 0), (.complex .f64 0 0), (.complex .f64 0 0)] [(0, 1, (.const (.complex .f64 4607182418800017408 13830554455654793216))), (1, 1, (.const (.complex .f64 4611686018427387904 13830554455654793216))), (2, 1, (.const (.complex .f64 4611686018427387904 13839561654909534208))), (3, 1, (.const (.complex .f64 0 13839561654909534208)))], (some ((.loc 1), true)), 0⟩, ⟨.call (.func 23) [(.loc 1), (.const (.int .i64 1)), (.const (.int .i64 4)), (.loc 0)], (some ((.loc 2), true)), 0⟩, ⟨.pick (.loc 3) (.loc 0) (.const (.bool false)), none, 0⟩, ⟨.load (some 6) (.tmp 1), (some ((.loc 0), true)), 0⟩, ⟨.mkarr 2 [(.complex .f64 0 0), (.complex .f64 0 0)] [(0, 1, (.const (.complex .f64 0 0))), (1, 1, (.const (.complex .f64 4607182418800017408 13830554455654793216)))], (some ((.loc 1), true)), 0⟩, ⟨.call (.func 23) [(.loc 1), (.const (.int .i64 0)), (.const (.int .i64 1)), (.loc 0)], (some ((.loc 2), true)), 0⟩, ⟨.pick (.loc 3) (.loc 0) (.const (.bool false)), none, 0⟩] [(0, (.loc 0))])
 (.ret)))⟩
theorem c6_ok : compileFn Try.prog false 6 = some c6 := by kernel_rfl
noncomputable def c7 : AFunc := ⟨[0, 1, 2, 3, 4, 5, 7, 8, 9, 10], [.tmp 2],
 .seq (.region [⟨.box (.tmp 0), none, 0⟩] [(1, (.loc 0)), (2, (.const (.slice none 0 0)))])
 (.seq (.region [] [(3, (.const (.slice none 0 0)))])
 (.seq (.seq (.region [⟨.load (some 6) (.tmp 1), none, 0⟩, ⟨.call (.func 24) [(.loc 0)], none, 0⟩, ⟨.len (.loc 0), none, 0⟩] [(6, (.loc 1)), (7, (.loc 0)), (8, (.const (.int .i64 0)))])
  (.block 0 (.loop (.seq (.region [⟨.bin .lss (.tmp 8) (.tmp 7), none, 0⟩] [(9, (.loc 0))])
   (.seq (.cond (.tmp 9)
    (.skip)
    (.exit 0))
   (.seq (.block 1 (.seq (.region [⟨.iaddr 1 (.tmp 6) (.tmp 8), none, 0⟩, ⟨.load none (.loc 0), none, 0⟩] [(4, (.tmp 8)), (5, (.loc 0))])
    (.region [⟨.call (.func 25) [(.tmp 5), (.tmp 4)], none, 0⟩, ⟨.mkarr 1 [(.complex .f64 0 0)] [(0, 1, (.loc 0))], none, 0⟩, ⟨.append false 1 16 (.tmp 3) (.loc 0), none, 0⟩] [(3, (.loc 0))])))
   (.region [⟨.bin .add (.tmp 8) (.const (.int .i64 1)), none, 0⟩] [(8, (.loc 0))])))))))
 (.seq (.region [⟨.call (.func 26) [(.tmp 3)], none, 0⟩] [(2, (.loc 0))])
 (.ret))))⟩
theorem c7_ok : compileFn Try.prog false 7 = some c7 := by kernel_rfl
noncomputable def c9 : AFunc := ⟨[0, 1, 4, 5, 10, 14, 25], [.tmp 2],
 .seq (.region [] [(2, (.const (.bool false)))])
 (.seq (.seq (.region [⟨.len (.tmp 0), none, 0⟩, ⟨.len (.tmp 1), none, 0⟩, ⟨.bin .neq (.loc 1) (.loc 0), none, 0⟩] [(4, (.loc 0))])
  (.cond (.tmp 4)
   (.seq (.region [] [(2, (.const (.bool false)))])
    (.ret))
   (.skip)))
 (.seq (.seq (.region [] [(3, (.const (.int .i64 0)))])
  (.block 0 (.loop (.seq (.seq (.region [⟨.len (.tmp 0), none, 0⟩, ⟨.bin .lss (.tmp 3) (.loc 0), none, 0⟩] [(5, (.loc 0))])
   (.cond (.tmp 5)
    (.skip)
    (.exit 0)))
   (.seq (.block 1 (.seq (.draw [⟨.iaddr 1 (.tmp 0) (.tmp 3), none, 0⟩, ⟨.load none (.loc 0), none, 0⟩, ⟨.iaddr 1 (.tmp 1) (.tmp 3), none, 0⟩, ⟨.load none (.loc 0), none, 0⟩, ⟨.flat (.bin .neq 32 (.tmp 20) (.tmp 24)) [(.loc 2), (.loc 0)], none, 0⟩] [(6, (.loc 0))])
    (.cond (.tmp 6)
     (.seq (.region [] [(2, (.const (.bool false)))])
      (.ret))
     (.skip))))
   (.region [⟨.bin .add (.tmp 3) (.const (.int .i64 1)), none, 0⟩] [(3, (.loc 0))]))))))
 (.seq (.region [] [(2, (.const (.bool true)))])
 (.ret))))⟩
theorem c9_ok : compileFn Try.prog false 9 = some c9 := by kernel_rfl
noncomputable def c11 : AFunc := ⟨[0, 1, 2, 3, 6, 7, 13], [.tmp 4, .tmp 5],
 .seq (.region [⟨.box (.tmp 0), none, 0⟩] [(3, (.loc 0)), (4, (.const (.slice none 0 0))), (5, (.const (.bool false)))])
 (.seq (.seq (.region [⟨.load (some 6) (.tmp 3), none, 0⟩, ⟨.call (.func 20) [(.loc 0), (.tmp 1)], none, 0⟩, ⟨.call (.func 29) [(.loc 0), (.tmp 2)], none, 0⟩, ⟨.not (.loc 0), none, 0⟩] [(6, (.loc 0))])
  (.cond (.tmp 6)
   (.seq (.region [] [(4, (.const (.slice none 0 0))), (5, (.const (.bool false)))])
    (.ret))
   (.skip)))
 (.seq (.region [⟨.load (some 6) (.tmp 3), none, 0⟩, ⟨.call (.func 24) [(.loc 0)], none, 0⟩, ⟨.call (.func 30) [(.loc 0), (.tmp 1), (.tmp 2)], none, 0⟩] [(4, (.loc 0)), (5, (.const (.bool true)))])
 (.ret)))⟩
theorem c11_ok : compileFn Try.prog false 11 = some c11 := by kernel_rfl
noncomputable def c20 : AFunc := ⟨[0, 1, 2, 4, 5, 6, 15], [.tmp 3],
 .seq (.region [⟨.box (.tmp 0), none, 0⟩] [(2, (.loc 0)), (3, (.const (.slice none 0 0)))])
 (.seq (.seq (.region [⟨.bin .lss (.tmp 1) (.const (.int .i64 0)), none, 0⟩, ⟨.mov (.tmp 1), (some ((.loc 0), false)), 0⟩, ⟨.faddr 5 (.tmp 2), (some ((.loc 1), false)), 0⟩, ⟨.load none (.loc 0), (some ((.loc 2), false)), 0⟩, ⟨.len (.loc 0), (some ((.loc 3), false)), 0⟩, ⟨.bin .geq (.loc 3) (.loc 0), (some ((.loc 4), false)), 0⟩, ⟨.pick (.loc 5) (.const (.bool true)) (.loc 0), none, 0⟩] [(6, (.loc 0))])
  (.cond (.tmp 6)
   (.seq (.region [] [(3, (.const (.slice none 0 0)))])
    (.ret))
   (.skip)))
 (.seq (.region [⟨.faddr 5 (.tmp 2), none, 0⟩, ⟨.load none (.loc 0), none, 0⟩, ⟨.call (.func 45) [(.loc 0), (.tmp 1)], none, 0⟩, ⟨.ext (.loc 0) 0, none, 0⟩, ⟨.ext (.loc 1) 1, none, 0⟩, ⟨.alloc [(.int .i64 0), (.int .i64 0)], none, 0⟩, ⟨.store 2 (.loc 0) (.loc 2), none, 0⟩] [(4, (.loc 1)), (5, (.loc 2))])
 (.seq (.region [⟨.slarr 2 1 (.tmp 4) none (some (.tmp 5)) none, none, 0⟩, ⟨.call (.func 46) [(.loc 0)], none, 0⟩, ⟨.call (.func 44) [(.loc 0)], none, 0⟩] [(3, (.loc 0))])
 (.ret))))⟩
theorem c20_ok : compileFn Try.prog false 20 = some c20 := by kernel_rfl
noncomputable def c22 : AFunc := ⟨[0], [.cell 0 (some 6)],
 .seq (.region [⟨.alloc [(.int .u64 0), (.slice none 0 0), (.slice none 0 0), (.int .i64 0), (.int .i64 0), (.slice none 0 0)], none, 0⟩] [(0, (.loc 0))])
 (.seq (.region [⟨.mkarr 10 [(.int .i64 0), (.int .i64 0), (.int .i64 0), (.int .i64 0), (.int .i64 0), (.int .i64 0), (.int .i64 0), (.int .i64 0), (.int .i64 0), (.int .i64 0)] [(0, 1, (.const (.int .i64 33))), (1, 1, (.const (.int .i64 0))), (2, 1, (.const (.int .i64 44))), (3, 1, (.const (.int .i64 4))), (4, 1, (.const (.int .i64 42))), (5, 1, (.const (.int .i64 0))), (6, 1, (.const (.int .i64 43))), (7, 1, (.const (.int .i64 1))), (8, 1, (.const (.int .i64 46))), (9, 1, (.const (.int .i64 0)))], none, 0⟩, ⟨.call (.func 47) [(.loc 0)], none, 0⟩, ⟨.store 6 (.tmp 0) (.loc 0), none, 0⟩] [])
 (.ret))⟩
theorem c22_ok : compileFn Try.prog false 22 = some c22 := by kernel_rfl
noncomputable def c23 : AFunc := ⟨[0, 1, 2, 3, 4, 8, 9, 10], [.tmp 5],
 .seq (.region [⟨.box (.tmp 0), none, 0⟩] [(4, (.loc 0)), (5, (.const (.bool false)))])
 (.seq (.region [⟨.load (some 6) (.tmp 4), none, 0⟩, ⟨.call (.func 11) [(.loc 0), (.tmp 1), (.tmp 2)], none, 0⟩, ⟨.ext (.loc 0) 0, none, 0⟩, ⟨.ext (.loc 1) 1, none, 0⟩] [(6, (.loc 1)), (7, (.loc 0))])
 (.seq (.region [⟨.len (.tmp 3), none, 0⟩, ⟨.bin .gtr (.loc 0) (.const (.int .i64 0)), none, 0⟩, ⟨.beq false (.tmp 7) (.loc 0), none, 0⟩, ⟨.mov (.tmp 6), (some ((.loc 0), true)), 0⟩, ⟨.mov (.tmp 3), (some ((.loc 1), true)), 0⟩, ⟨.call (.func 9) [(.loc 1), (.loc 0)], (some ((.loc 2), true)), 0⟩, ⟨.pick (.loc 3) (.loc 0) (.const (.bool false)), none, 0⟩] [(5, (.loc 0))])
 (.ret)))⟩
theorem c23_ok : compileFn Try.prog false 23 = some c23 := by kernel_rfl
noncomputable def c24 : AFunc := ⟨[0, 1, 2, 3, 4, 6, 14, 15, 16, 20, 21, 22, 23], [.tmp 2],
 .seq (.region [⟨.box (.tmp 0), none, 0⟩] [(1, (.loc 0)), (2, (.const (.slice none 0 0)))])
 (.seq (.region [⟨.faddr 5 (.tmp 1), none, 0⟩, ⟨.load none (.loc 0), none, 0⟩, ⟨.len (.loc 0), none, 0⟩, ⟨.bin .add (.loc 0) (.const (.int .i64 1)), none, 0⟩, ⟨.mkslice [(.int .i64 0)] 8 (.loc 0) (.loc 0), none, 0⟩] [(3, (.loc 0))])
 (.seq (.seq (.region [⟨.faddr 5 (.tmp 1), none, 0⟩, ⟨.load none (.loc 0), none, 0⟩, ⟨.len (.loc 0), none, 0⟩] [(6, (.loc 0)), (7, (.const (.int .i64 0)))])
  (.block 0 (.loop (.seq (.region [⟨.bin .lss (.tmp 7) (.tmp 6), none, 0⟩] [(8, (.loc 0))])
   (.seq (.cond (.tmp 8)
    (.skip)
    (.exit 0))
   (.seq (.block 1 (.seq (.region [] [(4, (.tmp 7))])
    (.seq (.region [⟨.load (some 6) (.tmp 1), none, 0⟩, ⟨.call (.func 48) [(.loc 0), (.tmp 4)], none, 0⟩, ⟨.len (.loc 0), none, 0⟩] [(9, (.loc 1)), (10, (.loc 0)), (11, (.const (.int .i64 0)))])
    (.block 2 (.loop (.seq (.region [⟨.bin .lss (.tmp 11) (.tmp 10), none, 0⟩] [(12, (.loc 0))])
     (.seq (.cond (.tmp 12)
      (.skip)
      (.exit 2))
     (.seq (.block 3 (.seq (.region [⟨.iaddr 1 (.tmp 9) (.tmp 11), none, 0⟩, ⟨.load none (.loc 0), none, 0⟩] [(5, (.loc 0))])
      (.region [⟨.iaddr 1 (.tmp 3) (.tmp 5), none, 0⟩, ⟨.load none (.loc 0), none, 0⟩, ⟨.bin .add (.loc 0) (.const (.int .i64 1)), none, 0⟩, ⟨.iaddr 1 (.tmp 3) (.tmp 5), none, 0⟩, ⟨.store 1 (.loc 0) (.loc 1), none, 0⟩] [])))
     (.region [⟨.bin .add (.tmp 11) (.const (.int .i64 1)), none, 0⟩] [(11, (.loc 0))])))))))))
   (.region [⟨.bin .add (.tmp 7) (.const (.int .i64 1)), none, 0⟩] [(7, (.loc 0))])))))))
 (.seq (.region [] [(2, (.tmp 3))])
 (.ret))))⟩
theorem c24_ok : compileFn Try.prog false 24 = some c24 := by kernel_rfl
noncomputable def c25 : AFunc := ⟨[0, 1, 4], [.tmp 2],
 .seq (.region [] [(2, (.const (.complex .f64 0 0)))])
 (.seq (.region [⟨.flat (.conv 3 33) [(.tmp 0)], none, 0⟩, ⟨.flat (.un .neg) [(.tmp 1)], none, 0⟩, ⟨.flat (.conv 3 33) [(.loc 0)], none, 0⟩, ⟨.flat (.cplx #[33, 33] 32) [(.loc 2), (.loc 0)], none, 0⟩] [(2, (.loc 0))])
 (.ret))⟩
theorem c25_ok : compileFn Try.prog false 25 = some c25 := by kernel_rfl
noncomputable def c26 : AFunc := ⟨[0, 2], [.tmp 1],
 .seq (.region [] [(1, (.const (.slice none 0 0)))])
 (.seq (.region [⟨.len (.tmp 0), none, 0⟩, ⟨.len (.tmp 0), none, 0⟩, ⟨.slice 1 (.tmp 0) none (some (.loc 1)) (some (.loc 0)), none, 0⟩] [(1, (.loc 0))])
 (.ret))⟩
theorem c26_ok : compileFn Try.prog false 26 = some c26 := by kernel_rfl
noncomputable def c29 : AFunc := ⟨[0, 1, 4], [.tmp 2],
 .seq (.region [] [(2, (.const (.bool false)))])
 (.seq (.region [⟨.call (.func 49) [(.tmp 0), (.tmp 1)], none, 0⟩, ⟨.bin .geq (.loc 0) (.const (.int .i64 0)), none, 0⟩] [(2, (.loc 0))])
 (.ret))⟩
theorem c29_ok : compileFn Try.prog false 29 = some c29 := by kernel_rfl
noncomputable def c30 : AFunc := ⟨[0, 1, 2, 6, 7, 11], [.tmp 3],
 .seq (.region [] [(3, (.const (.slice none 0 0)))])
 (.seq (.seq (.region [⟨.bin .add (.tmp 1) (.const (.int .i64 1)), none, 0⟩, ⟨.bin .eql (.tmp 2) (.loc 0), none, 0⟩] [(5, (.loc 0))])
  (.cond (.tmp 5)
   (.seq (.draw [⟨.iaddr 1 (.tmp 0) (.tmp 1), none, 0⟩, ⟨.load none (.loc 0), none, 0⟩, ⟨.call (.func 25) [(.loc 0), (.tmp 1)], none, 0⟩, ⟨.iaddr 1 (.tmp 0) (.tmp 2), none, 0⟩, ⟨.load none (.loc 0), none, 0⟩, ⟨.call (.func 25) [(.loc 0), (.tmp 2)], none, 1⟩, ⟨.mkarr 2 [(.complex .f64 0 0), (.complex .f64 0 0)] [(0, 1, (.loc 3)), (1, 1, (.loc 0))], none, 2⟩] [(3, (.loc 0))])
    (.ret))
   (.skip)))
 (.seq (.region [⟨.flat (.min #[3, 3] 3) [(.tmp 1), (.tmp 2)], none, 0⟩, ⟨.flat (.max #[3, 3] 3) [(.tmp 1), (.tmp 2)], none, 0⟩, ⟨.bin .add (.loc 0) (.const (.int .i64 1)), none, 0⟩, ⟨.slice 1 (.tmp 0) (some (.loc 2)) (some (.loc 0)) none, none, 0⟩, ⟨.call (.func 50) [(.loc 0)], none, 0⟩, ⟨.bin .add (.const (.int .i64 1)) (.loc 0), none, 0⟩] [(4, (.loc 0))])
 (.seq (.draw [⟨.iaddr 1 (.tmp 0) (.tmp 1), none, 0⟩, ⟨.load none (.loc 0), none, 0⟩, ⟨.call (.func 25) [(.loc 0), (.tmp 1)], none, 0⟩, ⟨.call (.func 25) [(.tmp 4), (.tmp 1)], none, 1⟩, ⟨.call (.func 25) [(.tmp 4), (.tmp 2)], none, 2⟩, ⟨.iaddr 1 (.tmp 0) (.tmp 2), none, 0⟩, ⟨.load none (.loc 0), none, 0⟩, ⟨.call (.func 25) [(.loc 0), (.tmp 2)], none, 3⟩, ⟨.mkarr 4 [(.complex .f64 0 0), (.complex .f64 0 0), (.complex .f64 0 0), (.complex .f64 0 0)] [(0, 1, (.loc 5)), (1, 1, (.loc 4)), (2, 1, (.loc 3)), (3, 1, (.loc 0))], none, 4⟩] [(3, (.loc 0))])
 (.ret))))⟩
theorem c30_ok : compileFn Try.prog false 30 = some c30 := by kernel_rfl
noncomputable def c40 : AFunc := ⟨[0, 1, 2], [.tmp 2],
 .seq (.region [⟨.box (.tmp 0), none, 0⟩] [(1, (.loc 0)), (2, (.const .nilFunc))])
 (.seq (.region [⟨.faddr 5 (.tmp 1), none, 0⟩, ⟨.load none (.loc 0), none, 0⟩, ⟨.call (.func 57) [(.loc 0)], none, 0⟩, ⟨.call (.func 56) [(.loc 0)], none, 0⟩] [(2, (.loc 0))])
 (.ret))⟩
theorem c40_ok : compileFn Try.prog false 40 = some c40 := by kernel_rfl
noncomputable def c41 : AFunc := ⟨[0, 1, 2, 3, 4, 5, 21, 22, 23], [.tmp 2],
 .seq (.region [⟨.box (.tmp 0), none, 0⟩] [(1, (.loc 0)), (2, (.const (.pointer none)))])
 (.seq (.draw [⟨.load (some 6) (.tmp 1), none, 0⟩, ⟨.call (.func 58) [(.loc 0)], none, 0⟩, ⟨.faddr 5 (.tmp 1), none, 0⟩, ⟨.load none (.loc 0), none, 0⟩, ⟨.len (.loc 0), none, 0⟩, ⟨.bin .add (.loc 0) (.const (.int .i64 1)), none, 0⟩, ⟨.mkslice [(.slice none 0 0)] 24 (.loc 0) (.loc 0), none, 0⟩, ⟨.faddr 5 (.tmp 1), none, 0⟩, ⟨.load none (.loc 0), none, 0⟩, ⟨.len (.loc 0), none, 0⟩, ⟨.bin .add (.loc 0) (.const (.int .i64 1)), none, 0⟩, ⟨.mkslice [(.int .i64 0)] 8 (.loc 0) (.loc 0), none, 0⟩, ⟨.build [(.slice none 0 0), (.slice none 0 0), (.slice none 0 0)] [(0, 1, (.loc 5)), (1, 1, (.loc 10)), (2, 1, (.loc 0))], none, 1⟩, ⟨.box (.loc 0), none, 1⟩, ⟨.alloc [(.pointer none)], none, 0⟩, ⟨.store 1 (.loc 0) (.loc 1), none, 1⟩] [(3, (.loc 1))])
 (.seq (.seq (.region [⟨.load (some 6) (.tmp 1), none, 0⟩, ⟨.call (.func 40) [(.loc 0)], none, 0⟩] [(6, (.loc 0))])
  (.block 0 (.rangeFunc (.tmp 6) [(some 7), (some 8)]
   (.seq (.region [] [(4, (.tmp 7))])
    (.region [] [(5, (.tmp 8))]))
   (.block 1 (.draw [⟨.load none (.tmp 3), none, 0⟩, ⟨.nilchk (.loc 0), none, 0⟩, ⟨.faddr 0 (.loc 0), none, 0⟩, ⟨.load none (.loc 0), none, 0⟩, ⟨.iaddr 1 (.loc 0) (.tmp 4), none, 0⟩, ⟨.load none (.loc 0), none, 0⟩, ⟨.mkarr 1 [(.int .i64 0)] [(0, 1, (.tmp 5))], none, 0⟩, ⟨.append false 1 8 (.loc 1) (.loc 0), none, 0⟩, ⟨.load none (.tmp 3), none, 0⟩, ⟨.nilchk (.loc 0), none, 0⟩, ⟨.faddr 0 (.loc 0), none, 0⟩, ⟨.load none (.loc 0), none, 0⟩, ⟨.iaddr 1 (.loc 0) (.tmp 4), none, 1⟩, ⟨.store 1 (.loc 0) (.loc 5), none, 1⟩] [])))))
 (.seq (.region [⟨.load none (.tmp 3), none, 0⟩] [(2, (.loc 0))])
 (.ret))))⟩
theorem c41_ok : compileFn Try.prog false 41 = some c41 := by kernel_rfl
noncomputable def c42 : AFunc := ⟨[0, 1, 2, 3, 4, 6, 7, 8, 9, 10, 33, 53], [],
 .seq (.region [⟨.box (.tmp 0), none, 0⟩, ⟨.box (.tmp 1), none, 0⟩] [(3, (.loc 1)), (4, (.loc 0))])
 (.scope (.seq (.region [⟨.load none (.tmp 3), none, 0⟩, ⟨.nilchk (.loc 0), none, 0⟩, ⟨.faddr 1 (.loc 0), none, 0⟩, ⟨.load none (.loc 0), none, 0⟩, ⟨.len (.loc 0), none, 0⟩, ⟨.bin .sub (.loc 0) (.const (.int .i64 1)), none, 0⟩, ⟨.alloc [(.int .i64 0)], none, 0⟩, ⟨.store 1 (.loc 0) (.loc 1), none, 0⟩] [(5, (.loc 1))])
 (.seq (.seq (.draw [⟨.load none (.tmp 4), none, 0⟩, ⟨.bin .lss (.loc 0) (.const (.int .i64 0)), none, 0⟩, ⟨.load none (.tmp 4), (some ((.loc 0), false)), 0⟩, ⟨.load none (.tmp 5), (some ((.loc 1), false)), 0⟩, ⟨.bin .geq (.loc 1) (.loc 0), (some ((.loc 2), false)), 0⟩, ⟨.pick (.loc 3) (.const (.bool true)) (.loc 0), none, 0⟩, ⟨.load none (.tmp 3), (some ((.loc 0), false)), 0⟩, ⟨.nilchk (.loc 0), (some ((.loc 1), false)), 0⟩, ⟨.faddr 1 (.loc 0), (some ((.loc 2), false)), 0⟩, ⟨.load none (.loc 0), (some ((.loc 3), false)), 0⟩, ⟨.load none (.tmp 4), (some ((.loc 4), false)), 0⟩, ⟨.iaddr 1 (.loc 1) (.loc 0), (some ((.loc 5), false)), 0⟩, ⟨.load none (.loc 0), (some ((.loc 6), false)), 0⟩, ⟨.bin .lss (.loc 0) (.const (.int .i64 0)), (some ((.loc 7), false)), 0⟩, ⟨.pick (.loc 8) (.const (.bool true)) (.loc 0), none, 0⟩] [(10, (.loc 0))])
  (.cond (.tmp 10)
   (.ret)
   (.skip)))
 (.seq (.draw [⟨.load none (.tmp 3), none, 0⟩, ⟨.nilchk (.loc 0), none, 0⟩, ⟨.faddr 1 (.loc 0), none, 0⟩, ⟨.load none (.loc 0), none, 0⟩, ⟨.load none (.tmp 4), none, 0⟩, ⟨.iaddr 1 (.loc 1) (.loc 0), none, 0⟩, ⟨.load none (.loc 0), none, 0⟩, ⟨.alloc [(.int .i64 0)], none, 0⟩, ⟨.store 1 (.loc 0) (.loc 1), none, 0⟩] [(6, (.loc 1))])
 (.seq (.region [⟨.alloc [(.slice none 0 0)], none, 0⟩] [(7, (.loc 0))])
 (.seq (.region [⟨.mkfn 59 [] [(.tmp 6), (.tmp 5), (.tmp 3), (.tmp 4), (.tmp 7)], none, 0⟩] [(8, (.loc 0))])
 (.seq (.draw [⟨.load none (.tmp 3), none, 0⟩, ⟨.nilchk (.loc 0), none, 0⟩, ⟨.faddr 0 (.loc 0), none, 0⟩, ⟨.load none (.loc 0), none, 0⟩, ⟨.load none (.tmp 4), none, 0⟩, ⟨.iaddr 1 (.loc 1) (.loc 0), none, 0⟩, ⟨.load none (.loc 0), none, 0⟩, ⟨.call (.tmp 8) [(.loc 0)], none, 0⟩] [])
 (.seq (.label 0)
 (.block 0 (.loop (.block 1 (.seq (.seq (.region [⟨.load none (.tmp 7), none, 0⟩, ⟨.len (.loc 0), none, 0⟩, ⟨.bin .eql (.loc 0) (.const (.int .i64 0)), none, 0⟩] [(11, (.loc 0))])
  (.cond (.tmp 11)
   (.exit 0)
   (.skip)))
  (.seq (.region [⟨.load none (.tmp 7), none, 0⟩, ⟨.load none (.tmp 7), none, 0⟩, ⟨.len (.loc 0), none, 0⟩, ⟨.bin .sub (.loc 0) (.const (.int .i64 1)), none, 0⟩, ⟨.iaddr 1 (.loc 3) (.loc 0), none, 0⟩, ⟨.load none (.loc 0), none, 0⟩] [(9, (.loc 0))])
  (.seq (.region [⟨.load none (.tmp 7), none, 0⟩, ⟨.load none (.tmp 7), none, 0⟩, ⟨.len (.loc 0), none, 0⟩, ⟨.bin .sub (.loc 0) (.const (.int .i64 1)), none, 0⟩, ⟨.slice 1 (.loc 3) none (some (.loc 0)) none, none, 0⟩, ⟨.store 1 (.tmp 7) (.loc 0), none, 0⟩] [])
  (.seq (.region [⟨.call (.tmp 2) [(.tmp 9)], none, 0⟩] [])
  (.region [⟨.load none (.tmp 3), none, 0⟩, ⟨.nilchk (.loc 0), none, 0⟩, ⟨.faddr 0 (.loc 0), none, 0⟩, ⟨.load none (.loc 0), none, 0⟩, ⟨.iaddr 1 (.loc 0) (.tmp 9), none, 0⟩, ⟨.load none (.loc 0), none, 0⟩, ⟨.call (.tmp 8) [(.loc 0)], none, 0⟩] []))))))))))))))))⟩
theorem c42_ok : compileFn Try.prog false 42 = some c42 := by kernel_rfl
noncomputable def c44 : AFunc := ⟨[0, 2], [.tmp 1],
 .seq (.region [] [(1, (.const (.slice none 0 0)))])
 (.seq (.region [⟨.len (.tmp 0), none, 0⟩, ⟨.len (.tmp 0), none, 0⟩, ⟨.slice 1 (.tmp 0) none (some (.loc 1)) (some (.loc 0)), none, 0⟩] [(1, (.loc 0))])
 (.ret))⟩
theorem c44_ok : compileFn Try.prog false 44 = some c44 := by kernel_rfl
noncomputable def c45 : AFunc := ⟨[0, 1, 4, 5, 6, 7, 8, 9, 10, 20, 26, 33, 45, 61], [.cell 2 (some 2), .tmp 3],
 .seq (.region [⟨.alloc [(.int .i64 0), (.int .i64 0)], none, 0⟩] [(2, (.loc 0)), (3, (.const (.int .i64 0)))])
 (.seq (.region [⟨.alloc [(.int .i64 0), (.int .i64 0)], none, 0⟩] [(4, (.loc 0))])
 (.seq (.region [⟨.alloc [(.int .i64 0)], none, 0⟩, ⟨.store 1 (.loc 0) (.const (.int .i64 0)), none, 0⟩] [(5, (.loc 1))])
 (.seq (.region [⟨.mkfn 60 [] [(.tmp 5), (.tmp 4)], none, 0⟩] [(6, (.loc 0))])
 (.seq (.region [⟨.len (.tmp 0), none, 0⟩, ⟨.bin .sub (.loc 0) (.const (.int .i64 1)), none, 0⟩] [(7, (.loc 0))])
 (.seq (.seq (.region [⟨.iaddr 2 (.tmp 0) (.tmp 1), none, 0⟩, ⟨.load (some 2) (.loc 0), none, 0⟩, ⟨.alloc [(.int .i64 0), (.int .i64 0)], none, 0⟩, ⟨.store 2 (.loc 0) (.loc 1), none, 0⟩] [(8, (.loc 1))])
  (.seq (.region [⟨.faddr 0 (.tmp 8), none, 0⟩, ⟨.load none (.loc 0), none, 0⟩] [(9, (.loc 0))])
  (.block 0 (.seq (.region [⟨.bin .eql (.tmp 9) (.const (.int .i64 43)), none, 0⟩] [(10, (.loc 0))])
  (.cond (.tmp 10)
   (.region [⟨.faddr 1 (.tmp 8), none, 0⟩, ⟨.load none (.loc 0), none, 0⟩, ⟨.call (.tmp 6) [(.loc 0), (.tmp 7)], none, 0⟩] [])
   (.seq (.region [⟨.bin .eql (.tmp 9) (.const (.int .i64 44)), none, 0⟩] [(11, (.loc 0))])
    (.cond (.tmp 11)
     (.seq (.region [⟨.bin .add (.tmp 1) (.const (.int .i64 1)), none, 0⟩, ⟨.call (.tmp 6) [(.loc 0), (.tmp 7)], none, 0⟩] [])
      (.region [⟨.faddr 1 (.tmp 8), none, 0⟩, ⟨.load none (.loc 0), none, 0⟩, ⟨.call (.tmp 6) [(.loc 0), (.tmp 7)], none, 0⟩] []))
     (.seq (.region [⟨.bin .eql (.tmp 9) (.const (.int .i64 46)), none, 0⟩] [(12, (.loc 0))])
      (.cond (.tmp 12)
       (.region [⟨.bin .add (.tmp 7) (.const (.int .i64 1)), none, 0⟩, ⟨.bin .add (.tmp 7) (.const (.int .i64 1)), none, 0⟩, ⟨.call (.tmp 6) [(.loc 1), (.loc 0)], none, 0⟩] [])
       (.region [⟨.bin .add (.tmp 1) (.const (.int .i64 1)), none, 0⟩, ⟨.call (.tmp 6) [(.loc 0), (.tmp 7)], none, 0⟩] []))))))))))
 (.seq (.seq (.region [⟨.load none (.tmp 5), none, 0⟩, ⟨.bin .eql (.loc 0) (.const (.int .i64 2)), none, 0⟩, ⟨.iarr 2 1 (.tmp 4) (.const (.int .i64 0)), (some ((.loc 0), true)), 0⟩, ⟨.load none (.loc 0), (some ((.loc 1), true)), 0⟩, ⟨.iarr 2 1 (.tmp 4) (.const (.int .i64 1)), (some ((.loc 2), true)), 0⟩, ⟨.load none (.loc 0), (some ((.loc 3), true)), 0⟩, ⟨.bin .gtr (.loc 2) (.loc 0), (some ((.loc 4), true)), 0⟩, ⟨.pick (.loc 5) (.loc 0) (.const (.bool false)), none, 0⟩] [(13, (.loc 0))])
  (.cond (.tmp 13)
   (.region [⟨.iarr 2 1 (.tmp 4) (.const (.int .i64 1)), none, 0⟩, ⟨.load none (.loc 0), none, 0⟩, ⟨.iarr 2 1 (.tmp 4) (.const (.int .i64 0)), none, 0⟩, ⟨.load none (.loc 0), none, 0⟩, ⟨.iarr 2 1 (.tmp 4) (.const (.int .i64 0)), none, 0⟩, ⟨.store 1 (.loc 0) (.loc 3), none, 0⟩, ⟨.iarr 2 1 (.tmp 4) (.const (.int .i64 1)), none, 0⟩, ⟨.store 1 (.loc 0) (.loc 3), none, 0⟩] [])
   (.skip)))
 (.seq (.draw [⟨.load (some 2) (.tmp 4), none, 0⟩, ⟨.store 2 (.tmp 2) (.loc 0), none, 0⟩, ⟨.load none (.tmp 5), none, 0⟩] [(3, (.loc 0))])
 (.ret))))))))⟩
theorem c45_ok : compileFn Try.prog false 45 = some c45 := by kernel_rfl
noncomputable def c46 : AFunc := ⟨[0, 2, 4], [.tmp 1],
 .seq (.region [] [(1, (.const (.slice none 0 0)))])
 (.seq (.seq (.region [⟨.eqn 0 false (.tmp 0) (.const (.slice none 0 0)), none, 0⟩] [(2, (.loc 0))])
  (.cond (.tmp 2)
   (.seq (.region [] [(1, (.const (.slice none 0 0)))])
    (.ret))
   (.skip)))
 (.seq (.region [⟨.mkarr 0 [] [], none, 0⟩, ⟨.append false 1 8 (.loc 0) (.tmp 0), none, 0⟩] [(1, (.loc 0))])
 (.ret)))⟩
theorem c46_ok : compileFn Try.prog false 46 = some c46 := by kernel_rfl
noncomputable def c47 : AFunc := ⟨[0, 2, 3, 4, 9], [.cell 1 (some 6)],
 .seq (.region [⟨.alloc [(.int .u64 0), (.slice none 0 0), (.slice none 0 0), (.int .i64 0), (.int .i64 0), (.slice none 0 0)], none, 0⟩] [(1, (.loc 0))])
 (.seq (.region [⟨.alloc [(.int .u64 0), (.slice none 0 0), (.slice none 0 0), (.int .i64 0), (.int .i64 0), (.slice none 0 0)], none, 0⟩] [(2, (.loc 0))])
 (.seq (.seq (.region [] [(3, (.const (.int .i64 0)))])
  (.block 0 (.loop (.seq (.seq (.region [⟨.bin .add (.tmp 3) (.const (.int .i64 1)), none, 0⟩, ⟨.len (.tmp 0), none, 0⟩, ⟨.bin .lss (.loc 1) (.loc 0), none, 0⟩] [(4, (.loc 0))])
   (.cond (.tmp 4)
    (.skip)
    (.exit 0)))
   (.seq (.block 1 (.draw [⟨.faddr 5 (.tmp 2), none, 0⟩, ⟨.load none (.loc 0), none, 0⟩, ⟨.iaddr 1 (.tmp 0) (.tmp 3), none, 0⟩, ⟨.load none (.loc 0), none, 0⟩, ⟨.bin .add (.tmp 3) (.const (.int .i64 1)), none, 0⟩, ⟨.iaddr 1 (.tmp 0) (.loc 0), none, 0⟩, ⟨.load none (.loc 0), none, 0⟩, ⟨.build [(.int .i64 0), (.int .i64 0)] [(0, 1, (.loc 3)), (1, 1, (.loc 0))], none, 0⟩, ⟨.mkarr 1 [(.int .i64 0), (.int .i64 0)] [(0, 2, (.loc 0))], none, 0⟩, ⟨.append false 2 16 (.loc 7) (.loc 0), none, 0⟩, ⟨.faddr 5 (.tmp 2), none, 1⟩, ⟨.store 1 (.loc 0) (.loc 1), none, 1⟩] []))
   (.region [⟨.bin .add (.tmp 3) (.const (.int .i64 2)), none, 0⟩] [(3, (.loc 0))]))))))
 (.seq (.region [⟨.load (some 6) (.tmp 2), none, 0⟩, ⟨.store 6 (.tmp 1) (.loc 0), none, 0⟩] [])
 (.ret))))⟩
theorem c47_ok : compileFn Try.prog false 47 = some c47 := by kernel_rfl
noncomputable def c48 : AFunc := ⟨[0, 1, 2, 4, 5], [.tmp 3],
 .seq (.region [⟨.box (.tmp 0), none, 0⟩] [(2, (.loc 0)), (3, (.const (.slice none 0 0)))])
 (.seq (.region [⟨.alloc [(.slice none 0 0)], none, 0⟩] [(4, (.loc 0))])
 (.seq (.region [⟨.load (some 6) (.tmp 2), none, 0⟩, ⟨.call (.func 41) [(.loc 0)], none, 0⟩, ⟨.mkfn 61 [] [(.tmp 4)], none, 0⟩, ⟨.call (.func 42) [(.loc 1), (.tmp 1), (.loc 0)], none, 0⟩] [])
 (.seq (.region [⟨.load none (.tmp 4), none, 0⟩, ⟨.call (.func 62) [(.loc 0)], none, 0⟩] [])
 (.seq (.region [⟨.load none (.tmp 4), none, 0⟩, ⟨.call (.func 44) [(.loc 0)], none, 0⟩] [(3, (.loc 0))])
 (.ret)))))⟩
theorem c48_ok : compileFn Try.prog false 48 = some c48 := by kernel_rfl
noncomputable def c49 : AFunc := ⟨[0, 1, 4, 5, 7, 8, 9, 16], [.tmp 2],
 .seq (.region [] [(2, (.const (.int .i64 0)))])
 (.seq (.seq (.region [⟨.len (.tmp 0), none, 0⟩] [(4, (.loc 0)), (5, (.const (.int .i64 0)))])
  (.block 0 (.loop (.seq (.region [⟨.bin .lss (.tmp 5) (.tmp 4), none, 0⟩] [(6, (.loc 0))])
   (.seq (.cond (.tmp 6)
    (.skip)
    (.exit 0))
   (.seq (.block 1 (.seq (.region [] [(3, (.tmp 5))])
    (.seq (.region [⟨.iaddr 1 (.tmp 0) (.tmp 3), none, 0⟩, ⟨.load none (.loc 0), none, 0⟩, ⟨.bin .eql (.tmp 1) (.loc 0), none, 0⟩] [(7, (.loc 0))])
    (.cond (.tmp 7)
     (.seq (.region [] [(2, (.tmp 3))])
      (.ret))
     (.skip)))))
   (.region [⟨.bin .add (.tmp 5) (.const (.int .i64 1)), none, 0⟩] [(5, (.loc 0))])))))))
 (.seq (.region [] [(2, (.const (.int .i64 (-1))))])
 (.ret)))⟩
theorem c49_ok : compileFn Try.prog false 49 = some c49 := by kernel_rfl
noncomputable def c50 : AFunc := ⟨[0, 2, 3, 4, 7, 15], [.tmp 1],
 .seq (.region [] [(1, (.const (.int .i64 0)))])
 (.seq (.seq (.region [⟨.len (.tmp 0), none, 0⟩, ⟨.bin .lss (.loc 0) (.const (.int .i64 1)), none, 0⟩] [(4, (.loc 0))])
  (.cond (.tmp 4)
   (.region [⟨.bad, none, 0⟩, ⟨.bad, none, 0⟩] [])
   (.skip)))
 (.seq (.region [⟨.iaddr 1 (.tmp 0) (.const (.int .i64 0)), none, 0⟩, ⟨.load none (.loc 0), none, 0⟩] [(2, (.loc 0))])
 (.seq (.seq (.region [] [(3, (.const (.int .i64 1)))])
  (.block 0 (.loop (.seq (.seq (.region [⟨.len (.tmp 0), none, 0⟩, ⟨.bin .lss (.tmp 3) (.loc 0), none, 0⟩] [(5, (.loc 0))])
   (.cond (.tmp 5)
    (.skip)
    (.exit 0)))
   (.seq (.block 1 (.region [⟨.iaddr 1 (.tmp 0) (.tmp 3), none, 0⟩, ⟨.load none (.loc 0), none, 0⟩, ⟨.flat (.max #[3, 3] 3) [(.tmp 2), (.loc 0)], none, 0⟩] [(2, (.loc 0))]))
   (.region [⟨.bin .add (.tmp 3) (.const (.int .i64 1)), none, 0⟩] [(3, (.loc 0))]))))))
 (.seq (.region [] [(1, (.tmp 2))])
 (.ret)))))⟩
theorem c50_ok : compileFn Try.prog false 50 = some c50 := by kernel_rfl
noncomputable def c56 : AFunc := ⟨[0, 1, 2], [.tmp 2],
 .seq (.region [⟨.box (.tmp 0), none, 0⟩] [(1, (.loc 0)), (2, (.const .nilFunc))])
 (.seq (.region [⟨.mkfn 64 [] [(.tmp 1)], none, 0⟩] [(2, (.loc 0))])
 (.ret))⟩
theorem c56_ok : compileFn Try.prog false 56 = some c56 := by kernel_rfl
noncomputable def c57 : AFunc := ⟨[0, 2, 4], [.tmp 1],
 .seq (.region [] [(1, (.const (.slice none 0 0)))])
 (.seq (.seq (.region [⟨.eqn 0 false (.tmp 0) (.const (.slice none 0 0)), none, 0⟩] [(2, (.loc 0))])
  (.cond (.tmp 2)
   (.seq (.region [] [(1, (.const (.slice none 0 0)))])
    (.ret))
   (.skip)))
 (.seq (.region [⟨.mkarr 0 [] [], none, 0⟩, ⟨.append false 2 16 (.loc 0) (.tmp 0), none, 0⟩] [(1, (.loc 0))])
 (.ret)))⟩
theorem c57_ok : compileFn Try.prog false 57 = some c57 := by kernel_rfl
noncomputable def c58 : AFunc := ⟨[0, 1, 2, 3, 4, 5, 6, 7, 8, 9, 10, 11, 12, 13, 14, 15, 17, 18, 20, 30, 31, 32, 61, 62, 63, 69, 70, 71, 72, 89, 90, 91, 92, 98, 99, 100, 101, 108, 114, 124, 130], [.tmp 2],
 .seq (.region [⟨.box (.tmp 0), none, 0⟩] [(1, (.loc 0)), (2, (.const (.slice none 0 0)))])
 (.scope (.seq (.region [⟨.faddr 5 (.tmp 1), none, 0⟩, ⟨.load none (.loc 0), none, 0⟩, ⟨.len (.loc 0), none, 0⟩, ⟨.bin .add (.loc 0) (.const (.int .i64 1)), none, 0⟩] [(3, (.loc 0))])
 (.seq (.draw [⟨.mkslice [(.slice none 0 0)] 24 (.tmp 3) (.tmp 3), none, 0⟩, ⟨.alloc [(.slice none 0 0)], none, 0⟩, ⟨.alloc [(.slice none 0 0)], none, 0⟩, ⟨.store 1 (.loc 1) (.loc 2), none, 0⟩, ⟨.mkslice [(.slice none 0 0)] 24 (.tmp 3) (.tmp 3), none, 0⟩, ⟨.store 1 (.loc 2) (.loc 0), none, 1⟩] [(4, (.loc 4)), (5, (.loc 3))])
 (.seq (.seq (.region [⟨.load (some 6) (.tmp 1), none, 0⟩, ⟨.call (.func 40) [(.loc 0)], none, 0⟩] [(19, (.loc 0))])
  (.block 0 (.rangeFunc (.tmp 19) [(some 20), (some 21)]
   (.seq (.region [] [(6, (.tmp 20))])
    (.region [] [(7, (.tmp 21))]))
   (.block 1 (.seq (.draw [⟨.load none (.tmp 4), none, 0⟩, ⟨.iaddr 1 (.loc 0) (.tmp 7), none, 0⟩, ⟨.load none (.loc 0), none, 0⟩, ⟨.mkarr 1 [(.int .i64 0)] [(0, 1, (.tmp 6))], none, 0⟩, ⟨.append false 1 8 (.loc 1) (.loc 0), none, 0⟩, ⟨.load none (.tmp 4), none, 0⟩, ⟨.iaddr 1 (.loc 0) (.tmp 7), none, 1⟩, ⟨.store 1 (.loc 0) (.loc 2), none, 1⟩] [])
    (.draw [⟨.load none (.tmp 5), none, 0⟩, ⟨.iaddr 1 (.loc 0) (.tmp 6), none, 0⟩, ⟨.load none (.loc 0), none, 0⟩, ⟨.mkarr 1 [(.int .i64 0)] [(0, 1, (.tmp 7))], none, 0⟩, ⟨.append false 1 8 (.loc 1) (.loc 0), none, 0⟩, ⟨.load none (.tmp 5), none, 0⟩, ⟨.iaddr 1 (.loc 0) (.tmp 6), none, 1⟩, ⟨.store 1 (.loc 0) (.loc 2), none, 1⟩] []))))))
 (.seq (.region [⟨.load none (.tmp 4), none, 0⟩, ⟨.call (.func 65) [(.tmp 3), (.loc 0)], none, 0⟩] [(8, (.loc 0))])
 (.seq (.region [⟨.mkslice [(.int .i64 0)] 8 (.tmp 3) (.tmp 3), none, 0⟩, ⟨.alloc [(.slice none 0 0)], none, 0⟩, ⟨.store 1 (.loc 0) (.loc 1), none, 0⟩] [(9, (.loc 1))])
 (.seq (.region [⟨.mkslice [(.int .i64 0)] 8 (.tmp 3) (.tmp 3), none, 0⟩, ⟨.alloc [(.slice none 0 0)], none, 0⟩, ⟨.store 1 (.loc 0) (.loc 1), none, 0⟩] [(10, (.loc 1))])
 (.seq (.seq (.region [⟨.load none (.tmp 10), none, 0⟩, ⟨.len (.loc 0), none, 0⟩] [(22, (.loc 0)), (23, (.const (.int .i64 0)))])
  (.block 2 (.loop (.seq (.region [⟨.bin .lss (.tmp 23) (.tmp 22), none, 0⟩] [(24, (.loc 0))])
   (.seq (.cond (.tmp 24)
    (.skip)
    (.exit 2))
   (.seq (.block 3 (.seq (.region [] [(11, (.tmp 23))])
    (.region [⟨.load none (.tmp 10), none, 0⟩, ⟨.iaddr 1 (.loc 0) (.tmp 11), none, 0⟩, ⟨.store 1 (.loc 0) (.const (.int .i64 (-1))), none, 0⟩] [])))
   (.region [⟨.bin .add (.tmp 23) (.const (.int .i64 1)), none, 0⟩] [(23, (.loc 0))])))))))
 (.seq (.seq (.region [⟨.len (.tmp 8), none, 0⟩] [(25, (.tmp 8)), (26, (.loc 0)), (27, (.const (.int .i64 0)))])
  (.block 4 (.loop (.seq (.region [⟨.bin .lss (.tmp 27) (.tmp 26), none, 0⟩] [(28, (.loc 0))])
   (.seq (.cond (.tmp 28)
    (.skip)
    (.exit 4))
   (.seq (.block 5 (.seq (.region [⟨.iaddr 1 (.tmp 25) (.tmp 27), none, 0⟩, ⟨.load none (.loc 0), none, 0⟩] [(12, (.tmp 27)), (13, (.loc 0))])
    (.region [⟨.load none (.tmp 9), none, 0⟩, ⟨.iaddr 1 (.loc 0) (.tmp 13), none, 0⟩, ⟨.store 1 (.loc 0) (.tmp 12), none, 0⟩] [])))
   (.region [⟨.bin .add (.tmp 27) (.const (.int .i64 1)), none, 0⟩] [(27, (.loc 0))])))))))
 (.seq (.region [⟨.load none (.tmp 10), none, 0⟩, ⟨.bin .sub (.tmp 3) (.const (.int .i64 1)), none, 0⟩, ⟨.bin .sub (.tmp 3) (.const (.int .i64 1)), none, 0⟩, ⟨.iaddr 1 (.loc 2) (.loc 1), none, 0⟩, ⟨.store 1 (.loc 0) (.loc 1), none, 0⟩] [])
 (.seq (.region [⟨.mkfn 66 [] [(.tmp 9), (.tmp 10)], none, 0⟩] [(14, (.loc 0))])
 (.seq (.label 0)
 (.seq (.region [] [(15, (.const (.bool false)))])
 (.seq (.seq (.region [⟨.slice 1 (.tmp 8) (some (.const (.int .i64 1))) none none, none, 0⟩, ⟨.len (.loc 0), none, 0⟩] [(29, (.loc 1)), (30, (.loc 0)), (31, (.const (.int .i64 0)))])
  (.block 6 (.loop (.seq (.region [⟨.bin .lss (.tmp 31) (.tmp 30), none, 0⟩] [(32, (.loc 0))])
   (.seq (.cond (.tmp 32)
    (.skip)
    (.exit 6))
   (.seq (.block 7 (.seq (.region [⟨.iaddr 1 (.tmp 29) (.tmp 31), none, 0⟩, ⟨.load none (.loc 0), none, 0⟩] [(16, (.loc 0))])
    (.seq (.region [] [(17, (.const (.int .i64 (-1))))])
    (.seq (.seq (.region [⟨.load none (.tmp 5), none, 0⟩, ⟨.iaddr 1 (.loc 0) (.tmp 16), none, 0⟩, ⟨.load none (.loc 0), none, 0⟩, ⟨.len (.loc 0), none, 0⟩] [(33, (.loc 1)), (34, (.loc 0)), (35, (.const (.int .i64 0)))])
     (.block 8 (.loop (.seq (.region [⟨.bin .lss (.tmp 35) (.tmp 34), none, 0⟩] [(36, (.loc 0))])
      (.seq (.cond (.tmp 36)
       (.skip)
       (.exit 8))
      (.seq (.block 9 (.seq (.region [⟨.iaddr 1 (.tmp 33) (.tmp 35), none, 0⟩, ⟨.load none (.loc 0), none, 0⟩] [(18, (.loc 0))])
       (.block 10 (.seq (.region [⟨.load none (.tmp 10), none, 0⟩, ⟨.iaddr 1 (.loc 0) (.tmp 18), none, 0⟩, ⟨.load none (.loc 0), none, 0⟩, ⟨.bin .lss (.loc 0) (.const (.int .i64 0)), none, 0⟩] [(37, (.loc 0))])
       (.cond (.tmp 37)
        (.skip)
        (.seq (.region [⟨.bin .lss (.tmp 17) (.const (.int .i64 0)), none, 0⟩] [(38, (.loc 0))])
         (.cond (.tmp 38)
          (.region [] [(17, (.tmp 18))])
          (.region [⟨.call (.tmp 14) [(.tmp 17), (.tmp 18)], none, 0⟩] [(17, (.loc 0))]))))))))
      (.region [⟨.bin .add (.tmp 35) (.const (.int .i64 1)), none, 0⟩] [(35, (.loc 0))])))))))
    (.seq (.region [⟨.load none (.tmp 10), none, 0⟩, ⟨.iaddr 1 (.loc 0) (.tmp 16), none, 0⟩, ⟨.load none (.loc 0), none, 0⟩, ⟨.bin .neq (.tmp 17) (.loc 0), none, 0⟩] [(39, (.loc 0))])
    (.cond (.tmp 39)
     (.seq (.region [⟨.load none (.tmp 10), none, 0⟩, ⟨.iaddr 1 (.loc 0) (.tmp 16), none, 0⟩, ⟨.store 1 (.loc 0) (.tmp 17), none, 0⟩] [])
      (.region [] [(15, (.const (.bool true)))]))
     (.skip)))))))
   (.region [⟨.bin .add (.tmp 31) (.const (.int .i64 1)), none, 0⟩] [(31, (.loc 0))])))))))
 (.seq (.seq (.region [] [(40, (.tmp 15))])
  (.cond (.tmp 40)
   (.goto 0)
   (.skip)))
 (.seq (.region [⟨.load none (.tmp 10), none, 0⟩, ⟨.bin .sub (.tmp 3) (.const (.int .i64 1)), none, 0⟩, ⟨.iaddr 1 (.loc 1) (.loc 0), none, 0⟩, ⟨.store 1 (.loc 0) (.const (.int .i64 (-1))), none, 0⟩] [])
 (.seq (.region [⟨.load none (.tmp 10), none, 0⟩] [(2, (.loc 0))])
 (.ret))))))))))))))))))⟩
theorem c58_ok : compileFn Try.prog false 58 = some c58 := by kernel_rfl
noncomputable def c59 : AFunc := ⟨[0, 1, 2, 3, 4, 5, 8, 9, 10, 11, 12, 34], [],
 .seq (.region [⟨.len (.tmp 0), none, 0⟩] [(7, (.tmp 0)), (8, (.loc 0)), (9, (.const (.int .i64 0)))])
 (.block 0 (.loop (.seq (.region [⟨.bin .lss (.tmp 9) (.tmp 8), none, 0⟩] [(10, (.loc 0))])
  (.seq (.cond (.tmp 10)
   (.skip)
   (.exit 0))
  (.seq (.block 1 (.seq (.region [⟨.iaddr 1 (.tmp 7) (.tmp 9), none, 0⟩, ⟨.load none (.loc 0), none, 0⟩] [(6, (.loc 0))])
   (.seq (.draw [⟨.load none (.tmp 1), none, 0⟩, ⟨.bin .neq (.tmp 6) (.loc 0), none, 0⟩, ⟨.mov (.tmp 6), (some ((.loc 0), true)), 0⟩, ⟨.load none (.tmp 2), (some ((.loc 1), true)), 0⟩, ⟨.bin .neq (.loc 1) (.loc 0), (some ((.loc 2), true)), 0⟩, ⟨.pick (.loc 3) (.loc 0) (.const (.bool false)), none, 0⟩, ⟨.load none (.tmp 3), (some ((.loc 0), true)), 0⟩, ⟨.nilchk (.loc 0), (some ((.loc 1), true)), 0⟩, ⟨.faddr 2 (.loc 0), (some ((.loc 2), true)), 0⟩, ⟨.load none (.loc 0), (some ((.loc 3), true)), 0⟩, ⟨.mov (.tmp 6), (some ((.loc 4), true)), 0⟩, ⟨.iaddr 1 (.loc 1) (.loc 0), (some ((.loc 5), true)), 0⟩, ⟨.load none (.loc 0), (some ((.loc 6), true)), 0⟩, ⟨.load none (.tmp 4), (some ((.loc 7), true)), 0⟩, ⟨.bin .add (.loc 0) (.const (.int .i64 1)), (some ((.loc 8), true)), 0⟩, ⟨.bin .neq (.loc 2) (.loc 0), (some ((.loc 9), true)), 0⟩, ⟨.pick (.loc 10) (.loc 0) (.const (.bool false)), none, 0⟩] [(11, (.loc 0))])
   (.cond (.tmp 11)
    (.seq (.draw [⟨.load none (.tmp 3), none, 0⟩, ⟨.nilchk (.loc 0), none, 0⟩, ⟨.faddr 2 (.loc 0), none, 0⟩, ⟨.load none (.loc 0), none, 0⟩, ⟨.load none (.tmp 4), none, 0⟩, ⟨.bin .add (.loc 0) (.const (.int .i64 1)), none, 0⟩, ⟨.iaddr 1 (.loc 2) (.tmp 6), none, 0⟩, ⟨.store 1 (.loc 0) (.loc 1), none, 0⟩] [])
     (.region [⟨.load none (.tmp 5), none, 0⟩, ⟨.mkarr 1 [(.int .i64 0)] [(0, 1, (.tmp 6))], none, 0⟩, ⟨.append false 1 8 (.loc 1) (.loc 0), none, 0⟩, ⟨.store 1 (.tmp 5) (.loc 0), none, 0⟩] []))
    (.skip)))))
  (.region [⟨.bin .add (.tmp 9) (.const (.int .i64 1)), none, 0⟩] [(9, (.loc 0))]))))))⟩
theorem c59_ok : compileFn Try.prog false 59 = some c59 := by kernel_rfl
noncomputable def c60 : AFunc := ⟨[0, 1, 2, 3, 22], [],
 .seq (.region [⟨.bin .geq (.tmp 0) (.const (.int .i64 0)), none, 0⟩, ⟨.mov (.tmp 0), (some ((.loc 0), true)), 0⟩, ⟨.mov (.tmp 1), (some ((.loc 1), true)), 0⟩, ⟨.bin .leq (.loc 1) (.loc 0), (some ((.loc 2), true)), 0⟩, ⟨.pick (.loc 3) (.loc 0) (.const (.bool false)), none, 0⟩, ⟨.load none (.tmp 2), (some ((.loc 0), true)), 0⟩, ⟨.bin .eql (.loc 0) (.const (.int .i64 0)), (some ((.loc 1), true)), 0⟩, ⟨.mov (.loc 0), (some ((.loc 2), true)), 0⟩, ⟨.iarr 2 1 (.tmp 3) (.const (.int .i64 0)), (some ((.loc 0), false)), 0⟩, ⟨.load none (.loc 0), (some ((.loc 1), false)), 0⟩, ⟨.mov (.tmp 0), (some ((.loc 2), false)), 0⟩, ⟨.bin .neq (.loc 1) (.loc 0), (some ((.loc 3), false)), 0⟩, ⟨.pick (.loc 4) (.const (.bool true)) (.loc 0), (some ((.loc 7), true)), 0⟩, ⟨.pick (.loc 8) (.loc 0) (.const (.bool false)), none, 0⟩] [(4, (.loc 0))])
 (.cond (.tmp 4)
  (.seq (.region [⟨.load none (.tmp 2), none, 0⟩, ⟨.iarr 2 1 (.tmp 3) (.loc 0), none, 0⟩, ⟨.store 1 (.loc 0) (.tmp 0), none, 0⟩] [])
   (.region [⟨.load none (.tmp 2), none, 0⟩, ⟨.bin .add (.loc 0) (.const (.int .i64 1)), none, 0⟩, ⟨.store 1 (.tmp 2) (.loc 0), none, 0⟩] []))
  (.skip))⟩
theorem c60_ok : compileFn Try.prog false 60 = some c60 := by kernel_rfl
noncomputable def c61 : AFunc := ⟨[0, 1], [],
 .region [⟨.load none (.tmp 1), none, 0⟩, ⟨.mkarr 1 [(.int .i64 0)] [(0, 1, (.tmp 0))], none, 0⟩, ⟨.append false 1 8 (.loc 1) (.loc 0), none, 0⟩, ⟨.store 1 (.tmp 1) (.loc 0), none, 0⟩] []⟩
theorem c61_ok : compileFn Try.prog false 61 = some c61 := by kernel_rfl
noncomputable def c62 : AFunc := ⟨[0, 2], [],
 .seq (.region [⟨.len (.tmp 0), none, 0⟩] [(1, (.loc 0))])
 (.region [⟨.conv .u64 (.tmp 1), none, 0⟩, ⟨.call (.func 68) [(.loc 0)], none, 0⟩, ⟨.call (.func 67) [(.tmp 0), (.const (.int .i64 0)), (.tmp 1), (.loc 0)], none, 0⟩] [])⟩
theorem c62_ok : compileFn Try.prog false 62 = some c62 := by kernel_rfl
noncomputable def c64 : AFunc := ⟨[0, 1, 3, 4, 5, 7, 9, 10, 11, 20, 21, 22, 23, 30], [],
 .seq (.region [⟨.load none (.tmp 1), none, 0⟩, ⟨.len (.loc 0), none, 0⟩] [(6, (.loc 0)), (7, (.const (.int .i64 0)))])
 (.block 0 (.loop (.seq (.region [⟨.bin .lss (.tmp 7) (.tmp 6), none, 0⟩] [(8, (.loc 0))])
  (.seq (.cond (.tmp 8)
   (.skip)
   (.exit 0))
  (.seq (.block 1 (.seq (.region [] [(2, (.tmp 7))])
   (.seq (.region [⟨.load none (.tmp 1), none, 0⟩, ⟨.call (.func 45) [(.loc 0), (.tmp 2)], none, 0⟩, ⟨.ext (.loc 0) 0, none, 0⟩, ⟨.ext (.loc 1) 1, none, 0⟩, ⟨.alloc [(.int .i64 0), (.int .i64 0)], none, 0⟩, ⟨.store 2 (.loc 0) (.loc 2), none, 0⟩] [(3, (.loc 1)), (4, (.loc 2))])
   (.seq (.region [⟨.slarr 2 1 (.tmp 3) none (some (.tmp 4)) none, none, 0⟩, ⟨.len (.loc 0), none, 0⟩] [(9, (.loc 1)), (10, (.loc 0)), (11, (.const (.int .i64 0)))])
   (.block 2 (.loop (.seq (.region [⟨.bin .lss (.tmp 11) (.tmp 10), none, 0⟩] [(12, (.loc 0))])
    (.seq (.cond (.tmp 12)
     (.skip)
     (.exit 2))
    (.seq (.block 3 (.seq (.region [⟨.iaddr 1 (.tmp 9) (.tmp 11), none, 0⟩, ⟨.load none (.loc 0), none, 0⟩] [(5, (.loc 0))])
     (.seq (.region [⟨.call (.tmp 0) [(.tmp 2), (.tmp 5)], none, 0⟩, ⟨.not (.loc 0), none, 0⟩] [(13, (.loc 0))])
     (.cond (.tmp 13)
      (.ret)
      (.skip)))))
    (.region [⟨.bin .add (.tmp 11) (.const (.int .i64 1)), none, 0⟩] [(11, (.loc 0))]))))))))))
  (.region [⟨.bin .add (.tmp 7) (.const (.int .i64 1)), none, 0⟩] [(7, (.loc 0))]))))))⟩
theorem c64_ok : compileFn Try.prog false 64 = some c64 := by kernel_rfl
noncomputable def c65 : AFunc := ⟨[0, 1, 4, 5, 6, 7, 8, 9, 22, 40, 77], [.tmp 2],
 .seq (.region [] [(2, (.const (.slice none 0 0)))])
 (.seq (.region [⟨.mkslice [(.bool false)] 1 (.tmp 0) (.tmp 0), none, 0⟩] [(3, (.loc 0))])
 (.seq (.region [] [(4, (.const (.slice none 0 0)))])
 (.seq (.region [⟨.bin .sub (.tmp 0) (.const (.int .i64 1)), none, 0⟩, ⟨.build [(.int .i64 0), (.int .i64 0)] [(0, 1, (.loc 0)), (1, 1, (.const (.int .i64 0)))], none, 0⟩, ⟨.mkarr 1 [(.int .i64 0), (.int .i64 0)] [(0, 2, (.loc 0))], none, 0⟩] [(5, (.loc 0))])
 (.seq (.region [⟨.bin .sub (.tmp 0) (.const (.int .i64 1)), none, 0⟩, ⟨.iaddr 1 (.tmp 3) (.loc 0), none, 0⟩, ⟨.store 1 (.loc 0) (.const (.bool true)), none, 0⟩] [])
 (.seq (.block 0 (.loop (.seq (.seq (.region [⟨.len (.tmp 5), none, 0⟩, ⟨.bin .gtr (.loc 0) (.const (.int .i64 0)), none, 0⟩] [(8, (.loc 0))])
   (.cond (.tmp 8)
    (.skip)
    (.exit 0)))
  (.block 1 (.seq (.region [⟨.len (.tmp 5), none, 0⟩, ⟨.bin .sub (.loc 0) (.const (.int .i64 1)), none, 0⟩, ⟨.iaddr 2 (.tmp 5) (.loc 0), none, 0⟩] [(6, (.loc 0))])
  (.seq (.seq (.draw [⟨.nilchk (.tmp 6), none, 0⟩, ⟨.faddr 1 (.loc 0), none, 0⟩, ⟨.load none (.loc 0), none, 0⟩, ⟨.nilchk (.tmp 6), none, 0⟩, ⟨.faddr 0 (.loc 0), none, 0⟩, ⟨.load none (.loc 0), none, 0⟩, ⟨.iaddr 1 (.tmp 1) (.loc 0), none, 0⟩, ⟨.load none (.loc 0), none, 0⟩, ⟨.len (.loc 0), none, 0⟩, ⟨.bin .eql (.loc 6) (.loc 0), none, 0⟩] [(9, (.loc 0))])
   (.cond (.tmp 9)
    (.seq (.region [⟨.nilchk (.tmp 6), none, 0⟩, ⟨.faddr 0 (.loc 0), none, 0⟩, ⟨.load none (.loc 0), none, 0⟩, ⟨.mkarr 1 [(.int .i64 0)] [(0, 1, (.loc 0))], none, 0⟩, ⟨.append false 1 8 (.tmp 4) (.loc 0), none, 0⟩] [(4, (.loc 0))])
     (.seq (.region [⟨.len (.tmp 5), none, 0⟩, ⟨.bin .sub (.loc 0) (.const (.int .i64 1)), none, 0⟩, ⟨.slice 2 (.tmp 5) none (some (.loc 0)) none, none, 0⟩] [(5, (.loc 0))])
     (.exit 1)))
    (.skip)))
  (.seq (.draw [⟨.nilchk (.tmp 6), none, 0⟩, ⟨.faddr 0 (.loc 0), none, 0⟩, ⟨.load none (.loc 0), none, 0⟩, ⟨.iaddr 1 (.tmp 1) (.loc 0), none, 0⟩, ⟨.load none (.loc 0), none, 0⟩, ⟨.nilchk (.tmp 6), none, 0⟩, ⟨.faddr 1 (.loc 0), none, 0⟩, ⟨.load none (.loc 0), none, 0⟩, ⟨.iaddr 1 (.loc 3) (.loc 0), none, 0⟩, ⟨.load none (.loc 0), none, 0⟩] [(7, (.loc 0))])
  (.seq (.region [⟨.nilchk (.tmp 6), none, 0⟩, ⟨.faddr 1 (.loc 0), none, 0⟩, ⟨.load none (.loc 0), none, 0⟩, ⟨.bin .add (.loc 0) (.const (.int .i64 1)), none, 0⟩, ⟨.nilchk (.tmp 6), none, 0⟩, ⟨.faddr 1 (.loc 0), none, 0⟩, ⟨.store 1 (.loc 0) (.loc 2), none, 0⟩] [])
  (.seq (.region [⟨.iaddr 1 (.tmp 3) (.tmp 7), none, 0⟩, ⟨.load none (.loc 0), none, 0⟩, ⟨.not (.loc 0), none, 0⟩] [(10, (.loc 0))])
  (.cond (.tmp 10)
   (.seq (.region [⟨.iaddr 1 (.tmp 3) (.tmp 7), none, 0⟩, ⟨.store 1 (.loc 0) (.const (.bool true)), none, 0⟩] [])
    (.region [⟨.build [(.int .i64 0), (.int .i64 0)] [(0, 1, (.tmp 7)), (1, 1, (.const (.int .i64 0)))], none, 0⟩, ⟨.mkarr 1 [(.int .i64 0), (.int .i64 0)] [(0, 2, (.loc 0))], none, 0⟩, ⟨.append false 2 16 (.tmp 5) (.loc 0), none, 0⟩] [(5, (.loc 0))]))
   (.skip)))))))))))
 (.seq (.region [⟨.call (.func 72) [(.tmp 4)], none, 0⟩] [])
 (.seq (.region [] [(2, (.tmp 4))])
 (.ret))))))))⟩
theorem c65_ok : compileFn Try.prog false 65 = some c65 := by kernel_rfl
noncomputable def c66 : AFunc := ⟨[0, 1, 2, 3, 6, 9, 18, 31], [.tmp 4],
 .seq (.region [] [(4, (.const (.int .i64 0)))])
 (.seq (.block 0 (.loop (.seq (.seq (.region [⟨.bin .neq (.tmp 0) (.tmp 1), none, 0⟩] [(5, (.loc 0))])
   (.cond (.tmp 5)
    (.skip)
    (.exit 0)))
  (.block 1 (.seq (.block 2 (.loop (.seq (.seq (.draw [⟨.load none (.tmp 2), none, 0⟩, ⟨.iaddr 1 (.loc 0) (.tmp 0), none, 0⟩, ⟨.load none (.loc 0), none, 0⟩, ⟨.load none (.tmp 2), none, 0⟩, ⟨.iaddr 1 (.loc 0) (.tmp 1), none, 0⟩, ⟨.load none (.loc 0), none, 0⟩, ⟨.bin .gtr (.loc 3) (.loc 0), none, 0⟩] [(6, (.loc 0))])
    (.cond (.tmp 6)
     (.skip)
     (.exit 2)))
   (.block 3 (.region [⟨.load none (.tmp 3), none, 0⟩, ⟨.iaddr 1 (.loc 0) (.tmp 0), none, 0⟩, ⟨.load none (.loc 0), none, 0⟩] [(0, (.loc 0))])))))
  (.block 4 (.loop (.seq (.seq (.draw [⟨.load none (.tmp 2), none, 0⟩, ⟨.iaddr 1 (.loc 0) (.tmp 1), none, 0⟩, ⟨.load none (.loc 0), none, 0⟩, ⟨.load none (.tmp 2), none, 0⟩, ⟨.iaddr 1 (.loc 0) (.tmp 0), none, 0⟩, ⟨.load none (.loc 0), none, 0⟩, ⟨.bin .gtr (.loc 3) (.loc 0), none, 0⟩] [(7, (.loc 0))])
   (.cond (.tmp 7)
    (.skip)
    (.exit 4)))
   (.block 5 (.region [⟨.load none (.tmp 3), none, 0⟩, ⟨.iaddr 1 (.loc 0) (.tmp 1), none, 0⟩, ⟨.load none (.loc 0), none, 0⟩] [(1, (.loc 0))]))))))))))
 (.seq (.region [] [(4, (.tmp 0))])
 (.ret)))⟩
theorem c66_ok : compileFn Try.prog false 66 = some c66 := by kernel_rfl
noncomputable def c67 : AFunc := ⟨[0, 1, 2, 3, 8, 9, 10, 11, 12, 13, 14, 15, 16, 17, 18, 23, 29, 35, 50, 68, 72, 87, 113], [],
 .seq (.region [] [(4, (.const (.bool true)))])
 (.seq (.region [] [(5, (.const (.bool true)))])
 (.block 0 (.loop (.block 1 (.seq (.region [⟨.bin .sub (.tmp 2) (.tmp 1), none, 0⟩] [(6, (.loc 0))])
  (.seq (.seq (.region [⟨.bin .leq (.tmp 6) (.const (.int .i64 12)), none, 0⟩] [(15, (.loc 0))])
   (.cond (.tmp 15)
    (.seq (.region [⟨.call (.func 73) [(.tmp 0), (.tmp 1), (.tmp 2)], none, 0⟩] [])
     (.ret))
    (.skip)))
  (.seq (.seq (.region [⟨.bin .eql (.tmp 3) (.const (.int .i64 0)), none, 0⟩] [(16, (.loc 0))])
   (.cond (.tmp 16)
    (.seq (.region [⟨.call (.func 74) [(.tmp 0), (.tmp 1), (.tmp 2)], none, 0⟩] [])
     (.ret))
    (.skip)))
  (.seq (.seq (.region [⟨.not (.tmp 4), none, 0⟩] [(17, (.loc 0))])
   (.cond (.tmp 17)
    (.seq (.region [⟨.call (.func 75) [(.tmp 0), (.tmp 1), (.tmp 2)], none, 0⟩] [])
     (.region [⟨.bin .sub (.tmp 3) (.const (.int .i64 1)), none, 0⟩] [(3, (.loc 0))]))
    (.skip)))
  (.seq (.region [⟨.call (.func 76) [(.tmp 0), (.tmp 1), (.tmp 2)], none, 0⟩, ⟨.ext (.loc 0) 0, none, 0⟩, ⟨.ext (.loc 1) 1, none, 0⟩] [(7, (.loc 1)), (8, (.loc 0))])
  (.seq (.seq (.region [⟨.bin .eql (.tmp 8) (.const (.int .i64 2)), none, 0⟩] [(18, (.loc 0))])
   (.cond (.tmp 18)
    (.seq (.region [⟨.call (.func 77) [(.tmp 0), (.tmp 1), (.tmp 2)], none, 0⟩] [])
     (.seq (.region [⟨.bin .sub (.tmp 2) (.const (.int .i64 1)), none, 0⟩, ⟨.bin .sub (.tmp 7) (.tmp 1), none, 0⟩, ⟨.bin .sub (.loc 1) (.loc 0), none, 0⟩] [(7, (.loc 0))])
     (.region [] [(8, (.const (.int .i64 1)))])))
    (.skip)))
  (.seq (.seq (.region [⟨.mov (.tmp 5), (some ((.tmp 4), true)), 0⟩, ⟨.pick (.tmp 4) (.loc 0) (.const (.bool false)), none, 0⟩, ⟨.mov (.tmp 8), (some ((.loc 0), true)), 0⟩, ⟨.bin .eql (.loc 0) (.const (.int .i64 1)), (some ((.loc 1), true)), 0⟩, ⟨.pick (.loc 2) (.loc 0) (.const (.bool false)), none, 0⟩] [(19, (.loc 0))])
   (.cond (.tmp 19)
    (.seq (.region [⟨.call (.func 78) [(.tmp 0), (.tmp 1), (.tmp 2)], none, 0⟩] [(20, (.loc 0))])
     (.cond (.tmp 20)
      (.ret)
      (.skip)))
    (.skip)))
  (.seq (.seq (.draw [⟨.bin .gtr (.tmp 1) (.const (.int .i64 0)), none, 0⟩, ⟨.mov (.tmp 0), (some ((.loc 0), true)), 0⟩, ⟨.mov (.tmp 1), (some ((.loc 1), true)), 0⟩, ⟨.bin .sub (.loc 0) (.const (.int .i64 1)), (some ((.loc 2), true)), 0⟩, ⟨.iaddr 1 (.loc 2) (.loc 0), (some ((.loc 3), true)), 0⟩, ⟨.load none (.loc 0), (some ((.loc 4), true)), 0⟩, ⟨.mov (.tmp 0), (some ((.loc 5), true)), 0⟩, ⟨.mov (.tmp 7), (some ((.loc 6), true)), 0⟩, ⟨.iaddr 1 (.loc 1) (.loc 0), (some ((.loc 7), true)), 0⟩, ⟨.load none (.loc 0), (some ((.loc 8), true)), 0⟩, ⟨.call (.func 79) [(.loc 4), (.loc 0)], (some ((.loc 9), true)), 0⟩, ⟨.not (.loc 0), (some ((.loc 10), true)), 1⟩, ⟨.pick (.loc 11) (.loc 0) (.const (.bool false)), none, 1⟩] [(21, (.loc 0))])
   (.cond (.tmp 21)
    (.seq (.region [⟨.call (.func 80) [(.tmp 0), (.tmp 1), (.tmp 2), (.tmp 7)], none, 0⟩] [(9, (.loc 0))])
     (.seq (.region [] [(1, (.tmp 9))])
     (.exit 1)))
    (.skip)))
  (.seq (.region [⟨.call (.func 81) [(.tmp 0), (.tmp 1), (.tmp 2), (.tmp 7)], none, 0⟩, ⟨.ext (.loc 0) 0, none, 0⟩, ⟨.ext (.loc 1) 1, none, 0⟩] [(10, (.loc 1)), (11, (.loc 0))])
  (.seq (.region [] [(5, (.tmp 11))])
  (.seq (.region [⟨.bin .sub (.tmp 10) (.tmp 1), none, 0⟩, ⟨.bin .sub (.tmp 2) (.tmp 10), none, 0⟩] [(12, (.loc 1)), (13, (.loc 0))])
  (.seq (.region [⟨.bin .quo (.tmp 6) (.const (.int .i64 8)), none, 0⟩] [(14, (.loc 0))])
  (.seq (.region [⟨.bin .lss (.tmp 12) (.tmp 13), none, 0⟩] [(22, (.loc 0))])
  (.cond (.tmp 22)
   (.seq (.region [⟨.bin .geq (.tmp 12) (.tmp 14), none, 0⟩] [(4, (.loc 0))])
    (.seq (.region [⟨.call (.func 67) [(.tmp 0), (.tmp 1), (.tmp 10), (.tmp 3)], none, 0⟩] [])
    (.region [⟨.bin .add (.tmp 10) (.const (.int .i64 1)), none, 0⟩] [(1, (.loc 0))])))
   (.seq (.region [⟨.bin .geq (.tmp 13) (.tmp 14), none, 0⟩] [(4, (.loc 0))])
    (.seq (.region [⟨.bin .add (.tmp 10) (.const (.int .i64 1)), none, 0⟩, ⟨.call (.func 67) [(.tmp 0), (.loc 0), (.tmp 2), (.tmp 3)], none, 0⟩] [])
    (.region [] [(2, (.tmp 10))])))))))))))))))))))))⟩
theorem c67_ok : compileFn Try.prog false 67 = some c67 := by kernel_rfl
noncomputable def c68 : AFunc := ⟨[0, 2], [.tmp 1],
 .seq (.region [] [(1, (.const (.int .i64 0)))])
 (.seq (.cond (.const (.bool false))
  (.seq (.region [⟨.conv .u32 (.tmp 0), none, 0⟩, ⟨.call (.func 82) [(.loc 0)], none, 0⟩] [(1, (.loc 0))])
   (.ret))
  (.skip))
 (.seq (.region [⟨.call (.func 83) [(.tmp 0)], none, 0⟩] [(1, (.loc 0))])
 (.ret)))⟩
theorem c68_ok : compileFn Try.prog false 68 = some c68 := by kernel_rfl
noncomputable def c72 : AFunc := ⟨[0, 2, 3, 9], [],
 .seq (.region [⟨.len (.tmp 0), none, 0⟩, ⟨.bin .sub (.loc 0) (.const (.int .i64 1)), none, 0⟩] [(1, (.const (.int .i64 0))), (2, (.loc 0))])
 (.block 0 (.loop (.seq (.seq (.region [⟨.bin .lss (.tmp 1) (.tmp 2), none, 0⟩] [(3, (.loc 0))])
  (.cond (.tmp 3)
   (.skip)
   (.exit 0)))
  (.seq (.block 1 (.draw [⟨.iaddr 1 (.tmp 0) (.tmp 2), none, 0⟩, ⟨.load none (.loc 0), none, 0⟩, ⟨.iaddr 1 (.tmp 0) (.tmp 1), none, 0⟩, ⟨.load none (.loc 0), none, 0⟩, ⟨.iaddr 1 (.tmp 0) (.tmp 1), none, 0⟩, ⟨.store 1 (.loc 0) (.loc 3), none, 0⟩, ⟨.iaddr 1 (.tmp 0) (.tmp 2), none, 1⟩, ⟨.store 1 (.loc 0) (.loc 3), none, 1⟩] []))
  (.region [⟨.bin .add (.tmp 1) (.const (.int .i64 1)), none, 0⟩, ⟨.bin .sub (.tmp 2) (.const (.int .i64 1)), none, 0⟩] [(1, (.loc 1)), (2, (.loc 0))])))))⟩
theorem c72_ok : compileFn Try.prog false 72 = some c72 := by kernel_rfl
noncomputable def c73 : AFunc := ⟨[0, 1, 2, 6, 7, 12, 30], [],
 .seq (.region [⟨.bin .add (.tmp 1) (.const (.int .i64 1)), none, 0⟩] [(3, (.loc 0))])
 (.block 0 (.loop (.seq (.seq (.region [⟨.bin .lss (.tmp 3) (.tmp 2), none, 0⟩] [(5, (.loc 0))])
  (.cond (.tmp 5)
   (.skip)
   (.exit 0)))
  (.seq (.block 1 (.seq (.region [] [(4, (.tmp 3))])
   (.block 2 (.loop (.seq (.seq (.draw [⟨.bin .gtr (.tmp 4) (.tmp 1), none, 0⟩, ⟨.mov (.tmp 0), (some ((.loc 0), true)), 0⟩, ⟨.mov (.tmp 4), (some ((.loc 1), true)), 0⟩, ⟨.iaddr 1 (.loc 1) (.loc 0), (some ((.loc 2), true)), 0⟩, ⟨.load none (.loc 0), (some ((.loc 3), true)), 0⟩, ⟨.mov (.tmp 0), (some ((.loc 4), true)), 0⟩, ⟨.mov (.tmp 4), (some ((.loc 5), true)), 0⟩, ⟨.bin .sub (.loc 0) (.const (.int .i64 1)), (some ((.loc 6), true)), 0⟩, ⟨.iaddr 1 (.loc 2) (.loc 0), (some ((.loc 7), true)), 0⟩, ⟨.load none (.loc 0), (some ((.loc 8), true)), 0⟩, ⟨.call (.func 79) [(.loc 5), (.loc 0)], (some ((.loc 9), true)), 0⟩, ⟨.pick (.loc 10) (.loc 0) (.const (.bool false)), none, 1⟩] [(6, (.loc 0))])
    (.cond (.tmp 6)
     (.skip)
     (.exit 2)))
    (.seq (.block 3 (.draw [⟨.bin .sub (.tmp 4) (.const (.int .i64 1)), none, 0⟩, ⟨.iaddr 1 (.tmp 0) (.loc 0), none, 0⟩, ⟨.load none (.loc 0), none, 0⟩, ⟨.iaddr 1 (.tmp 0) (.tmp 4), none, 0⟩, ⟨.load none (.loc 0), none, 0⟩, ⟨.iaddr 1 (.tmp 0) (.tmp 4), none, 0⟩, ⟨.store 1 (.loc 0) (.loc 3), none, 0⟩, ⟨.bin .sub (.tmp 4) (.const (.int .i64 1)), none, 0⟩, ⟨.iaddr 1 (.tmp 0) (.loc 0), none, 1⟩, ⟨.store 1 (.loc 0) (.loc 4), none, 1⟩] []))
    (.region [⟨.bin .sub (.tmp 4) (.const (.int .i64 1)), none, 0⟩] [(4, (.loc 0))])))))))
  (.region [⟨.bin .add (.tmp 3) (.const (.int .i64 1)), none, 0⟩] [(3, (.loc 0))])))))⟩
theorem c73_ok : compileFn Try.prog false 73 = some c73 := by kernel_rfl
noncomputable def c74 : AFunc := ⟨[0, 1, 2, 6, 7, 8, 9, 10, 19, 30], [],
 .seq (.region [] [(3, (.tmp 1))])
 (.seq (.region [] [(4, (.const (.int .i64 0)))])
 (.seq (.region [⟨.bin .sub (.tmp 2) (.tmp 1), none, 0⟩] [(5, (.loc 0))])
 (.seq (.seq (.region [⟨.bin .sub (.tmp 5) (.const (.int .i64 1)), none, 0⟩, ⟨.bin .quo (.loc 0) (.const (.int .i64 2)), none, 0⟩] [(6, (.loc 0))])
  (.block 0 (.loop (.seq (.seq (.region [⟨.bin .geq (.tmp 6) (.const (.int .i64 0)), none, 0⟩] [(8, (.loc 0))])
   (.cond (.tmp 8)
    (.skip)
    (.exit 0)))
   (.seq (.block 1 (.region [⟨.call (.func 85) [(.tmp 0), (.tmp 6), (.tmp 5), (.tmp 3)], none, 0⟩] []))
   (.region [⟨.bin .sub (.tmp 6) (.const (.int .i64 1)), none, 0⟩] [(6, (.loc 0))]))))))
 (.seq (.region [⟨.bin .sub (.tmp 5) (.const (.int .i64 1)), none, 0⟩] [(7, (.loc 0))])
 (.block 2 (.loop (.seq (.seq (.region [⟨.bin .geq (.tmp 7) (.const (.int .i64 0)), none, 0⟩] [(9, (.loc 0))])
  (.cond (.tmp 9)
   (.skip)
   (.exit 2)))
  (.seq (.block 3 (.seq (.draw [⟨.bin .add (.tmp 3) (.tmp 7), none, 0⟩, ⟨.iaddr 1 (.tmp 0) (.loc 0), none, 0⟩, ⟨.load none (.loc 0), none, 0⟩, ⟨.iaddr 1 (.tmp 0) (.tmp 3), none, 0⟩, ⟨.load none (.loc 0), none, 0⟩, ⟨.iaddr 1 (.tmp 0) (.tmp 3), none, 0⟩, ⟨.store 1 (.loc 0) (.loc 3), none, 0⟩, ⟨.bin .add (.tmp 3) (.tmp 7), none, 0⟩, ⟨.iaddr 1 (.tmp 0) (.loc 0), none, 1⟩, ⟨.store 1 (.loc 0) (.loc 4), none, 1⟩] [])
   (.region [⟨.call (.func 85) [(.tmp 0), (.tmp 4), (.tmp 7), (.tmp 3)], none, 0⟩] [])))
  (.region [⟨.bin .sub (.tmp 7) (.const (.int .i64 1)), none, 0⟩] [(7, (.loc 0))])))))))))⟩
theorem c74_ok : compileFn Try.prog false 74 = some c74 := by kernel_rfl
noncomputable def c75 : AFunc := ⟨[0, 1, 2, 6, 7, 8, 9, 10, 15, 33, 43], [],
 .seq (.region [⟨.bin .sub (.tmp 2) (.tmp 1), none, 0⟩] [(3, (.loc 0))])
 (.seq (.region [⟨.bin .geq (.tmp 3) (.const (.int .i64 8)), none, 0⟩] [(8, (.loc 0))])
 (.cond (.tmp 8)
  (.seq (.region [⟨.conv .u64 (.tmp 3), none, 0⟩, ⟨.alloc [(.int .u64 0)], none, 0⟩, ⟨.store 1 (.loc 0) (.loc 1), none, 0⟩] [(4, (.loc 1))])
   (.seq (.region [⟨.call (.func 86) [(.tmp 3)], none, 0⟩] [(5, (.loc 0))])
   (.seq (.region [⟨.bin .quo (.tmp 3) (.const (.int .i64 4)), none, 0⟩, ⟨.bin .mul (.loc 0) (.const (.int .i64 2)), none, 0⟩, ⟨.bin .add (.tmp 1) (.loc 0), none, 0⟩, ⟨.bin .sub (.loc 0) (.const (.int .i64 1)), none, 0⟩] [(6, (.loc 0))])
   (.block 0 (.loop (.seq (.seq (.region [⟨.bin .quo (.tmp 3) (.const (.int .i64 4)), none, 0⟩, ⟨.bin .mul (.loc 0) (.const (.int .i64 2)), none, 0⟩, ⟨.bin .add (.tmp 1) (.loc 0), none, 0⟩, ⟨.bin .add (.loc 0) (.const (.int .i64 1)), none, 0⟩, ⟨.bin .leq (.tmp 6) (.loc 0), none, 0⟩] [(9, (.loc 0))])
    (.cond (.tmp 9)
     (.skip)
     (.exit 0)))
    (.seq (.block 1 (.seq (.region [⟨.call (.func 87) [(.tmp 4)], none, 0⟩, ⟨.bin .sub (.tmp 5) (.const (.int .u64 1)), none, 0⟩, ⟨.bin .and (.loc 1) (.loc 0), none, 0⟩, ⟨.conv .i64 (.loc 0), none, 0⟩] [(7, (.loc 0))])
     (.seq (.seq (.region [⟨.bin .geq (.tmp 7) (.tmp 3), none, 0⟩] [(10, (.loc 0))])
      (.cond (.tmp 10)
       (.region [⟨.bin .sub (.tmp 7) (.tmp 3), none, 0⟩] [(7, (.loc 0))])
       (.skip)))
     (.draw [⟨.bin .add (.tmp 1) (.tmp 7), none, 0⟩, ⟨.iaddr 1 (.tmp 0) (.loc 0), none, 0⟩, ⟨.load none (.loc 0), none, 0⟩, ⟨.iaddr 1 (.tmp 0) (.tmp 6), none, 0⟩, ⟨.load none (.loc 0), none, 0⟩, ⟨.iaddr 1 (.tmp 0) (.tmp 6), none, 0⟩, ⟨.store 1 (.loc 0) (.loc 3), none, 0⟩, ⟨.bin .add (.tmp 1) (.tmp 7), none, 0⟩, ⟨.iaddr 1 (.tmp 0) (.loc 0), none, 1⟩, ⟨.store 1 (.loc 0) (.loc 4), none, 1⟩] []))))
    (.region [⟨.bin .add (.tmp 6) (.const (.int .i64 1)), none, 0⟩] [(6, (.loc 0))]))))))))
  (.skip)))⟩
theorem c75_ok : compileFn Try.prog false 75 = some c75 := by kernel_rfl
noncomputable def c76 : AFunc := ⟨[0, 1, 2, 6, 7, 8, 9, 10, 11, 12, 32, 34, 49, 51, 54], [.tmp 3, .tmp 4],
 .seq (.region [] [(3, (.const (.int .i64 0))), (4, (.const (.int .i64 0)))])
 (.seq (.region [⟨.bin .sub (.tmp 2) (.tmp 1), none, 0⟩] [(5, (.loc 0))])
 (.seq (.region [⟨.alloc [(.int .i64 0)], none, 0⟩] [(6, (.loc 0))])
 (.seq (.region [⟨.bin .quo (.tmp 5) (.const (.int .i64 4)), none, 0⟩, ⟨.bin .mul (.loc 0) (.const (.int .i64 1)), none, 0⟩, ⟨.bin .add (.tmp 1) (.loc 0), none, 0⟩] [(7, (.loc 0))])
 (.seq (.region [⟨.bin .quo (.tmp 5) (.const (.int .i64 4)), none, 0⟩, ⟨.bin .mul (.loc 0) (.const (.int .i64 2)), none, 0⟩, ⟨.bin .add (.tmp 1) (.loc 0), none, 0⟩] [(8, (.loc 0))])
 (.seq (.region [⟨.bin .quo (.tmp 5) (.const (.int .i64 4)), none, 0⟩, ⟨.bin .mul (.loc 0) (.const (.int .i64 3)), none, 0⟩, ⟨.bin .add (.tmp 1) (.loc 0), none, 0⟩] [(9, (.loc 0))])
 (.seq (.seq (.region [⟨.bin .geq (.tmp 5) (.const (.int .i64 8)), none, 0⟩] [(10, (.loc 0))])
  (.cond (.tmp 10)
   (.seq (.seq (.region [⟨.bin .geq (.tmp 5) (.const (.int .i64 50)), none, 0⟩] [(11, (.loc 0))])
    (.cond (.tmp 11)
     (.seq (.region [⟨.call (.func 88) [(.tmp 0), (.tmp 7), (.tmp 6)], none, 0⟩] [(7, (.loc 0))])
      (.seq (.region [⟨.call (.func 88) [(.tmp 0), (.tmp 8), (.tmp 6)], none, 0⟩] [(8, (.loc 0))])
      (.region [⟨.call (.func 88) [(.tmp 0), (.tmp 9), (.tmp 6)], none, 0⟩] [(9, (.loc 0))])))
     (.skip)))
    (.region [⟨.call (.func 89) [(.tmp 0), (.tmp 7), (.tmp 8), (.tmp 9), (.tmp 6)], none, 0⟩] [(8, (.loc 0))]))
   (.skip)))
 (.seq (.region [⟨.load none (.tmp 6), none, 0⟩] [(12, (.loc 0))])
 (.block 0 (.seq (.region [⟨.bin .eql (.tmp 12) (.const (.int .i64 0)), none, 0⟩] [(13, (.loc 0))])
 (.cond (.tmp 13)
  (.seq (.region [] [(3, (.tmp 8)), (4, (.const (.int .i64 1)))])
   (.ret))
  (.seq (.region [⟨.bin .eql (.tmp 12) (.const (.int .i64 12)), none, 0⟩] [(14, (.loc 0))])
   (.cond (.tmp 14)
    (.seq (.region [] [(3, (.tmp 8)), (4, (.const (.int .i64 2)))])
     (.ret))
    (.seq (.region [] [(3, (.tmp 8)), (4, (.const (.int .i64 0)))])
     (.ret))))))))))))))⟩
theorem c76_ok : compileFn Try.prog false 76 = some c76 := by kernel_rfl
noncomputable def c77 : AFunc := ⟨[0, 1, 2, 6, 7, 13], [],
 .seq (.region [] [(3, (.tmp 1))])
 (.seq (.region [⟨.bin .sub (.tmp 2) (.const (.int .i64 1)), none, 0⟩] [(4, (.loc 0))])
 (.block 0 (.loop (.seq (.seq (.region [⟨.bin .lss (.tmp 3) (.tmp 4), none, 0⟩] [(5, (.loc 0))])
  (.cond (.tmp 5)
   (.skip)
   (.exit 0)))
  (.block 1 (.seq (.draw [⟨.iaddr 1 (.tmp 0) (.tmp 4), none, 0⟩, ⟨.load none (.loc 0), none, 0⟩, ⟨.iaddr 1 (.tmp 0) (.tmp 3), none, 0⟩, ⟨.load none (.loc 0), none, 0⟩, ⟨.iaddr 1 (.tmp 0) (.tmp 3), none, 0⟩, ⟨.store 1 (.loc 0) (.loc 3), none, 0⟩, ⟨.iaddr 1 (.tmp 0) (.tmp 4), none, 1⟩, ⟨.store 1 (.loc 0) (.loc 3), none, 1⟩] [])
  (.seq (.region [⟨.bin .add (.tmp 3) (.const (.int .i64 1)), none, 0⟩] [(3, (.loc 0))])
  (.region [⟨.bin .sub (.tmp 4) (.const (.int .i64 1)), none, 0⟩] [(4, (.loc 0))]))))))))⟩
theorem c77_ok : compileFn Try.prog false 77 = some c77 := by kernel_rfl
noncomputable def c78 : AFunc := ⟨[0, 1, 2, 6, 7, 8, 9, 10, 14, 32, 37, 41, 61, 65, 78, 98, 103, 116], [.tmp 3],
 .seq (.region [] [(3, (.const (.bool false)))])
 (.seq (.region [⟨.bin .add (.tmp 1) (.const (.int .i64 1)), none, 0⟩] [(4, (.loc 0))])
 (.seq (.seq (.region [] [(5, (.const (.int .i64 0)))])
  (.block 0 (.loop (.seq (.seq (.region [⟨.bin .lss (.tmp 5) (.const (.int .i64 5)), none, 0⟩] [(8, (.loc 0))])
   (.cond (.tmp 8)
    (.skip)
    (.exit 0)))
   (.seq (.block 1 (.seq (.block 2 (.loop (.seq (.seq (.draw [⟨.bin .lss (.tmp 4) (.tmp 2), none, 0⟩, ⟨.mov (.tmp 0), (some ((.loc 0), true)), 0⟩, ⟨.mov (.tmp 4), (some ((.loc 1), true)), 0⟩, ⟨.iaddr 1 (.loc 1) (.loc 0), (some ((.loc 2), true)), 0⟩, ⟨.load none (.loc 0), (some ((.loc 3), true)), 0⟩, ⟨.mov (.tmp 0), (some ((.loc 4), true)), 0⟩, ⟨.mov (.tmp 4), (some ((.loc 5), true)), 0⟩, ⟨.bin .sub (.loc 0) (.const (.int .i64 1)), (some ((.loc 6), true)), 0⟩, ⟨.iaddr 1 (.loc 2) (.loc 0), (some ((.loc 7), true)), 0⟩, ⟨.load none (.loc 0), (some ((.loc 8), true)), 0⟩, ⟨.call (.func 79) [(.loc 5), (.loc 0)], (some ((.loc 9), true)), 0⟩, ⟨.not (.loc 0), (some ((.loc 10), true)), 1⟩, ⟨.pick (.loc 11) (.loc 0) (.const (.bool false)), none, 1⟩] [(9, (.loc 0))])
     (.cond (.tmp 9)
      (.skip)
      (.exit 2)))
     (.block 3 (.region [⟨.bin .add (.tmp 4) (.const (.int .i64 1)), none, 0⟩] [(4, (.loc 0))])))))
    (.seq (.seq (.region [⟨.bin .eql (.tmp 4) (.tmp 2), none, 0⟩] [(10, (.loc 0))])
     (.cond (.tmp 10)
      (.seq (.region [] [(3, (.const (.bool true)))])
       (.ret))
      (.skip)))
    (.seq (.seq (.region [⟨.bin .sub (.tmp 2) (.tmp 1), none, 0⟩, ⟨.bin .lss (.loc 0) (.const (.int .i64 50)), none, 0⟩] [(11, (.loc 0))])
     (.cond (.tmp 11)
      (.seq (.region [] [(3, (.const (.bool false)))])
       (.ret))
      (.skip)))
    (.seq (.draw [⟨.bin .sub (.tmp 4) (.const (.int .i64 1)), none, 0⟩, ⟨.iaddr 1 (.tmp 0) (.loc 0), none, 0⟩, ⟨.load none (.loc 0), none, 0⟩, ⟨.iaddr 1 (.tmp 0) (.tmp 4), none, 0⟩, ⟨.load none (.loc 0), none, 0⟩, ⟨.iaddr 1 (.tmp 0) (.tmp 4), none, 0⟩, ⟨.store 1 (.loc 0) (.loc 3), none, 0⟩, ⟨.bin .sub (.tmp 4) (.const (.int .i64 1)), none, 0⟩, ⟨.iaddr 1 (.tmp 0) (.loc 0), none, 1⟩, ⟨.store 1 (.loc 0) (.loc 4), none, 1⟩] [])
    (.seq (.seq (.region [⟨.bin .sub (.tmp 4) (.tmp 1), none, 0⟩, ⟨.bin .geq (.loc 0) (.const (.int .i64 2)), none, 0⟩] [(12, (.loc 0))])
     (.cond (.tmp 12)
      (.seq (.region [⟨.bin .sub (.tmp 4) (.const (.int .i64 1)), none, 0⟩] [(6, (.loc 0))])
       (.block 4 (.loop (.seq (.seq (.region [⟨.bin .geq (.tmp 6) (.const (.int .i64 1)), none, 0⟩] [(13, (.loc 0))])
        (.cond (.tmp 13)
         (.skip)
         (.exit 4)))
        (.seq (.block 5 (.seq (.seq (.draw [⟨.iaddr 1 (.tmp 0) (.tmp 6), none, 0⟩, ⟨.load none (.loc 0), none, 0⟩, ⟨.bin .sub (.tmp 6) (.const (.int .i64 1)), none, 0⟩, ⟨.iaddr 1 (.tmp 0) (.loc 0), none, 0⟩, ⟨.load none (.loc 0), none, 0⟩, ⟨.call (.func 79) [(.loc 3), (.loc 0)], none, 0⟩, ⟨.not (.loc 0), none, 1⟩] [(14, (.loc 0))])
         (.cond (.tmp 14)
          (.exit 4)
          (.skip)))
         (.draw [⟨.bin .sub (.tmp 6) (.const (.int .i64 1)), none, 0⟩, ⟨.iaddr 1 (.tmp 0) (.loc 0), none, 0⟩, ⟨.load none (.loc 0), none, 0⟩, ⟨.iaddr 1 (.tmp 0) (.tmp 6), none, 0⟩, ⟨.load none (.loc 0), none, 0⟩, ⟨.iaddr 1 (.tmp 0) (.tmp 6), none, 0⟩, ⟨.store 1 (.loc 0) (.loc 3), none, 0⟩, ⟨.bin .sub (.tmp 6) (.const (.int .i64 1)), none, 0⟩, ⟨.iaddr 1 (.tmp 0) (.loc 0), none, 1⟩, ⟨.store 1 (.loc 0) (.loc 4), none, 1⟩] [])))
        (.region [⟨.bin .sub (.tmp 6) (.const (.int .i64 1)), none, 0⟩] [(6, (.loc 0))]))))))
      (.skip)))
    (.seq (.region [⟨.bin .sub (.tmp 2) (.tmp 4), none, 0⟩, ⟨.bin .geq (.loc 0) (.const (.int .i64 2)), none, 0⟩] [(15, (.loc 0))])
    (.cond (.tmp 15)
     (.seq (.region [⟨.bin .add (.tmp 4) (.const (.int .i64 1)), none, 0⟩] [(7, (.loc 0))])
      (.block 6 (.loop (.seq (.seq (.region [⟨.bin .lss (.tmp 7) (.tmp 2), none, 0⟩] [(16, (.loc 0))])
       (.cond (.tmp 16)
        (.skip)
        (.exit 6)))
       (.seq (.block 7 (.seq (.seq (.draw [⟨.iaddr 1 (.tmp 0) (.tmp 7), none, 0⟩, ⟨.load none (.loc 0), none, 0⟩, ⟨.bin .sub (.tmp 7) (.const (.int .i64 1)), none, 0⟩, ⟨.iaddr 1 (.tmp 0) (.loc 0), none, 0⟩, ⟨.load none (.loc 0), none, 0⟩, ⟨.call (.func 79) [(.loc 3), (.loc 0)], none, 0⟩, ⟨.not (.loc 0), none, 1⟩] [(17, (.loc 0))])
        (.cond (.tmp 17)
         (.exit 6)
         (.skip)))
        (.draw [⟨.bin .sub (.tmp 7) (.const (.int .i64 1)), none, 0⟩, ⟨.iaddr 1 (.tmp 0) (.loc 0), none, 0⟩, ⟨.load none (.loc 0), none, 0⟩, ⟨.iaddr 1 (.tmp 0) (.tmp 7), none, 0⟩, ⟨.load none (.loc 0), none, 0⟩, ⟨.iaddr 1 (.tmp 0) (.tmp 7), none, 0⟩, ⟨.store 1 (.loc 0) (.loc 3), none, 0⟩, ⟨.bin .sub (.tmp 7) (.const (.int .i64 1)), none, 0⟩, ⟨.iaddr 1 (.tmp 0) (.loc 0), none, 1⟩, ⟨.store 1 (.loc 0) (.loc 4), none, 1⟩] [])))
       (.region [⟨.bin .add (.tmp 7) (.const (.int .i64 1)), none, 0⟩] [(7, (.loc 0))]))))))
     (.skip)))))))))
   (.region [⟨.bin .add (.tmp 5) (.const (.int .i64 1)), none, 0⟩] [(5, (.loc 0))]))))))
 (.seq (.region [] [(3, (.const (.bool false)))])
 (.ret))))⟩
theorem c78_ok : compileFn Try.prog false 78 = some c78 := by kernel_rfl
noncomputable def c79 : AFunc := ⟨[0, 1, 4], [.tmp 2],
 .seq (.region [] [(2, (.const (.bool false)))])
 (.seq (.region [⟨.call (.func 90) [(.tmp 0)], none, 0⟩, ⟨.mov (.tmp 1), (some ((.loc 0), true)), 0⟩, ⟨.call (.func 90) [(.loc 0)], (some ((.loc 1), true)), 0⟩, ⟨.not (.loc 0), (some ((.loc 2), true)), 0⟩, ⟨.pick (.loc 3) (.loc 0) (.const (.bool false)), none, 0⟩, ⟨.mov (.tmp 0), (some ((.loc 0), false)), 0⟩, ⟨.mov (.tmp 1), (some ((.loc 1), false)), 0⟩, ⟨.bin .lss (.loc 1) (.loc 0), (some ((.loc 2), false)), 0⟩, ⟨.pick (.loc 3) (.const (.bool true)) (.loc 0), none, 0⟩] [(2, (.loc 0))])
 (.ret))⟩
theorem c79_ok : compileFn Try.prog false 79 = some c79 := by kernel_rfl
noncomputable def c80 : AFunc := ⟨[0, 1, 2, 3, 8, 9, 10, 43, 59, 64], [.tmp 4],
 .seq (.region [] [(4, (.const (.int .i64 0)))])
 (.seq (.draw [⟨.iaddr 1 (.tmp 0) (.tmp 3), none, 0⟩, ⟨.load none (.loc 0), none, 0⟩, ⟨.iaddr 1 (.tmp 0) (.tmp 1), none, 0⟩, ⟨.load none (.loc 0), none, 0⟩, ⟨.iaddr 1 (.tmp 0) (.tmp 1), none, 0⟩, ⟨.store 1 (.loc 0) (.loc 3), none, 0⟩, ⟨.iaddr 1 (.tmp 0) (.tmp 3), none, 1⟩, ⟨.store 1 (.loc 0) (.loc 3), none, 1⟩] [])
 (.seq (.region [⟨.bin .add (.tmp 1) (.const (.int .i64 1)), none, 0⟩, ⟨.bin .sub (.tmp 2) (.const (.int .i64 1)), none, 0⟩] [(5, (.loc 1)), (6, (.loc 0))])
 (.seq (.block 0 (.loop (.block 1 (.seq (.block 2 (.loop (.seq (.seq (.draw [⟨.bin .leq (.tmp 5) (.tmp 6), none, 0⟩, ⟨.mov (.tmp 0), (some ((.loc 0), true)), 0⟩, ⟨.mov (.tmp 1), (some ((.loc 1), true)), 0⟩, ⟨.iaddr 1 (.loc 1) (.loc 0), (some ((.loc 2), true)), 0⟩, ⟨.load none (.loc 0), (some ((.loc 3), true)), 0⟩, ⟨.mov (.tmp 0), (some ((.loc 4), true)), 0⟩, ⟨.mov (.tmp 5), (some ((.loc 5), true)), 0⟩, ⟨.iaddr 1 (.loc 1) (.loc 0), (some ((.loc 6), true)), 0⟩, ⟨.load none (.loc 0), (some ((.loc 7), true)), 0⟩, ⟨.call (.func 79) [(.loc 4), (.loc 0)], (some ((.loc 8), true)), 0⟩, ⟨.not (.loc 0), (some ((.loc 9), true)), 1⟩, ⟨.pick (.loc 10) (.loc 0) (.const (.bool false)), none, 1⟩] [(7, (.loc 0))])
    (.cond (.tmp 7)
     (.skip)
     (.exit 2)))
   (.block 3 (.region [⟨.bin .add (.tmp 5) (.const (.int .i64 1)), none, 0⟩] [(5, (.loc 0))])))))
  (.seq (.block 4 (.loop (.seq (.seq (.draw [⟨.bin .leq (.tmp 5) (.tmp 6), none, 0⟩, ⟨.mov (.tmp 0), (some ((.loc 0), true)), 0⟩, ⟨.mov (.tmp 1), (some ((.loc 1), true)), 0⟩, ⟨.iaddr 1 (.loc 1) (.loc 0), (some ((.loc 2), true)), 0⟩, ⟨.load none (.loc 0), (some ((.loc 3), true)), 0⟩, ⟨.mov (.tmp 0), (some ((.loc 4), true)), 0⟩, ⟨.mov (.tmp 6), (some ((.loc 5), true)), 0⟩, ⟨.iaddr 1 (.loc 1) (.loc 0), (some ((.loc 6), true)), 0⟩, ⟨.load none (.loc 0), (some ((.loc 7), true)), 0⟩, ⟨.call (.func 79) [(.loc 4), (.loc 0)], (some ((.loc 8), true)), 0⟩, ⟨.pick (.loc 9) (.loc 0) (.const (.bool false)), none, 1⟩] [(8, (.loc 0))])
    (.cond (.tmp 8)
     (.skip)
     (.exit 4)))
   (.block 5 (.region [⟨.bin .sub (.tmp 6) (.const (.int .i64 1)), none, 0⟩] [(6, (.loc 0))])))))
  (.seq (.seq (.region [⟨.bin .gtr (.tmp 5) (.tmp 6), none, 0⟩] [(9, (.loc 0))])
   (.cond (.tmp 9)
    (.exit 0)
    (.skip)))
  (.seq (.draw [⟨.iaddr 1 (.tmp 0) (.tmp 6), none, 0⟩, ⟨.load none (.loc 0), none, 0⟩, ⟨.iaddr 1 (.tmp 0) (.tmp 5), none, 0⟩, ⟨.load none (.loc 0), none, 0⟩, ⟨.iaddr 1 (.tmp 0) (.tmp 5), none, 0⟩, ⟨.store 1 (.loc 0) (.loc 3), none, 0⟩, ⟨.iaddr 1 (.tmp 0) (.tmp 6), none, 1⟩, ⟨.store 1 (.loc 0) (.loc 3), none, 1⟩] [])
  (.seq (.region [⟨.bin .add (.tmp 5) (.const (.int .i64 1)), none, 0⟩] [(5, (.loc 0))])
  (.region [⟨.bin .sub (.tmp 6) (.const (.int .i64 1)), none, 0⟩] [(6, (.loc 0))])))))))))
 (.seq (.region [] [(4, (.tmp 5))])
 (.ret)))))⟩
theorem c80_ok : compileFn Try.prog false 80 = some c80 := by kernel_rfl
noncomputable def c81 : AFunc := ⟨[0, 1, 2, 3, 8, 9, 10, 11, 43, 60, 65, 112, 129, 134], [.tmp 4, .tmp 5],
 .seq (.region [] [(4, (.const (.int .i64 0))), (5, (.const (.bool false)))])
 (.seq (.draw [⟨.iaddr 1 (.tmp 0) (.tmp 3), none, 0⟩, ⟨.load none (.loc 0), none, 0⟩, ⟨.iaddr 1 (.tmp 0) (.tmp 1), none, 0⟩, ⟨.load none (.loc 0), none, 0⟩, ⟨.iaddr 1 (.tmp 0) (.tmp 1), none, 0⟩, ⟨.store 1 (.loc 0) (.loc 3), none, 0⟩, ⟨.iaddr 1 (.tmp 0) (.tmp 3), none, 1⟩, ⟨.store 1 (.loc 0) (.loc 3), none, 1⟩] [])
 (.seq (.region [⟨.bin .add (.tmp 1) (.const (.int .i64 1)), none, 0⟩, ⟨.bin .sub (.tmp 2) (.const (.int .i64 1)), none, 0⟩] [(6, (.loc 1)), (7, (.loc 0))])
 (.seq (.block 0 (.loop (.seq (.seq (.draw [⟨.bin .leq (.tmp 6) (.tmp 7), none, 0⟩, ⟨.mov (.tmp 0), (some ((.loc 0), true)), 0⟩, ⟨.mov (.tmp 6), (some ((.loc 1), true)), 0⟩, ⟨.iaddr 1 (.loc 1) (.loc 0), (some ((.loc 2), true)), 0⟩, ⟨.load none (.loc 0), (some ((.loc 3), true)), 0⟩, ⟨.mov (.tmp 0), (some ((.loc 4), true)), 0⟩, ⟨.mov (.tmp 1), (some ((.loc 5), true)), 0⟩, ⟨.iaddr 1 (.loc 1) (.loc 0), (some ((.loc 6), true)), 0⟩, ⟨.load none (.loc 0), (some ((.loc 7), true)), 0⟩, ⟨.call (.func 79) [(.loc 4), (.loc 0)], (some ((.loc 8), true)), 0⟩, ⟨.pick (.loc 9) (.loc 0) (.const (.bool false)), none, 1⟩] [(8, (.loc 0))])
   (.cond (.tmp 8)
    (.skip)
    (.exit 0)))
  (.block 1 (.region [⟨.bin .add (.tmp 6) (.const (.int .i64 1)), none, 0⟩] [(6, (.loc 0))])))))
 (.seq (.block 2 (.loop (.seq (.seq (.draw [⟨.bin .leq (.tmp 6) (.tmp 7), none, 0⟩, ⟨.mov (.tmp 0), (some ((.loc 0), true)), 0⟩, ⟨.mov (.tmp 7), (some ((.loc 1), true)), 0⟩, ⟨.iaddr 1 (.loc 1) (.loc 0), (some ((.loc 2), true)), 0⟩, ⟨.load none (.loc 0), (some ((.loc 3), true)), 0⟩, ⟨.mov (.tmp 0), (some ((.loc 4), true)), 0⟩, ⟨.mov (.tmp 1), (some ((.loc 5), true)), 0⟩, ⟨.iaddr 1 (.loc 1) (.loc 0), (some ((.loc 6), true)), 0⟩, ⟨.load none (.loc 0), (some ((.loc 7), true)), 0⟩, ⟨.call (.func 79) [(.loc 4), (.loc 0)], (some ((.loc 8), true)), 0⟩, ⟨.not (.loc 0), (some ((.loc 9), true)), 1⟩, ⟨.pick (.loc 10) (.loc 0) (.const (.bool false)), none, 1⟩] [(9, (.loc 0))])
   (.cond (.tmp 9)
    (.skip)
    (.exit 2)))
  (.block 3 (.region [⟨.bin .sub (.tmp 7) (.const (.int .i64 1)), none, 0⟩] [(7, (.loc 0))])))))
 (.seq (.seq (.region [⟨.bin .gtr (.tmp 6) (.tmp 7), none, 0⟩] [(10, (.loc 0))])
  (.cond (.tmp 10)
   (.seq (.draw [⟨.iaddr 1 (.tmp 0) (.tmp 1), none, 0⟩, ⟨.load none (.loc 0), none, 0⟩, ⟨.iaddr 1 (.tmp 0) (.tmp 7), none, 0⟩, ⟨.load none (.loc 0), none, 0⟩, ⟨.iaddr 1 (.tmp 0) (.tmp 7), none, 0⟩, ⟨.store 1 (.loc 0) (.loc 3), none, 0⟩, ⟨.iaddr 1 (.tmp 0) (.tmp 1), none, 1⟩, ⟨.store 1 (.loc 0) (.loc 3), none, 1⟩] [])
    (.seq (.region [] [(4, (.tmp 7)), (5, (.const (.bool true)))])
    (.ret)))
   (.skip)))
 (.seq (.draw [⟨.iaddr 1 (.tmp 0) (.tmp 7), none, 0⟩, ⟨.load none (.loc 0), none, 0⟩, ⟨.iaddr 1 (.tmp 0) (.tmp 6), none, 0⟩, ⟨.load none (.loc 0), none, 0⟩, ⟨.iaddr 1 (.tmp 0) (.tmp 6), none, 0⟩, ⟨.store 1 (.loc 0) (.loc 3), none, 0⟩, ⟨.iaddr 1 (.tmp 0) (.tmp 7), none, 1⟩, ⟨.store 1 (.loc 0) (.loc 3), none, 1⟩] [])
 (.seq (.region [⟨.bin .add (.tmp 6) (.const (.int .i64 1)), none, 0⟩] [(6, (.loc 0))])
 (.seq (.region [⟨.bin .sub (.tmp 7) (.const (.int .i64 1)), none, 0⟩] [(7, (.loc 0))])
 (.seq (.block 4 (.loop (.block 5 (.seq (.block 6 (.loop (.seq (.seq (.draw [⟨.bin .leq (.tmp 6) (.tmp 7), none, 0⟩, ⟨.mov (.tmp 0), (some ((.loc 0), true)), 0⟩, ⟨.mov (.tmp 6), (some ((.loc 1), true)), 0⟩, ⟨.iaddr 1 (.loc 1) (.loc 0), (some ((.loc 2), true)), 0⟩, ⟨.load none (.loc 0), (some ((.loc 3), true)), 0⟩, ⟨.mov (.tmp 0), (some ((.loc 4), true)), 0⟩, ⟨.mov (.tmp 1), (some ((.loc 5), true)), 0⟩, ⟨.iaddr 1 (.loc 1) (.loc 0), (some ((.loc 6), true)), 0⟩, ⟨.load none (.loc 0), (some ((.loc 7), true)), 0⟩, ⟨.call (.func 79) [(.loc 4), (.loc 0)], (some ((.loc 8), true)), 0⟩, ⟨.pick (.loc 9) (.loc 0) (.const (.bool false)), none, 1⟩] [(11, (.loc 0))])
    (.cond (.tmp 11)
     (.skip)
     (.exit 6)))
   (.block 7 (.region [⟨.bin .add (.tmp 6) (.const (.int .i64 1)), none, 0⟩] [(6, (.loc 0))])))))
  (.seq (.block 8 (.loop (.seq (.seq (.draw [⟨.bin .leq (.tmp 6) (.tmp 7), none, 0⟩, ⟨.mov (.tmp 0), (some ((.loc 0), true)), 0⟩, ⟨.mov (.tmp 7), (some ((.loc 1), true)), 0⟩, ⟨.iaddr 1 (.loc 1) (.loc 0), (some ((.loc 2), true)), 0⟩, ⟨.load none (.loc 0), (some ((.loc 3), true)), 0⟩, ⟨.mov (.tmp 0), (some ((.loc 4), true)), 0⟩, ⟨.mov (.tmp 1), (some ((.loc 5), true)), 0⟩, ⟨.iaddr 1 (.loc 1) (.loc 0), (some ((.loc 6), true)), 0⟩, ⟨.load none (.loc 0), (some ((.loc 7), true)), 0⟩, ⟨.call (.func 79) [(.loc 4), (.loc 0)], (some ((.loc 8), true)), 0⟩, ⟨.not (.loc 0), (some ((.loc 9), true)), 1⟩, ⟨.pick (.loc 10) (.loc 0) (.const (.bool false)), none, 1⟩] [(12, (.loc 0))])
    (.cond (.tmp 12)
     (.skip)
     (.exit 8)))
   (.block 9 (.region [⟨.bin .sub (.tmp 7) (.const (.int .i64 1)), none, 0⟩] [(7, (.loc 0))])))))
  (.seq (.seq (.region [⟨.bin .gtr (.tmp 6) (.tmp 7), none, 0⟩] [(13, (.loc 0))])
   (.cond (.tmp 13)
    (.exit 4)
    (.skip)))
  (.seq (.draw [⟨.iaddr 1 (.tmp 0) (.tmp 7), none, 0⟩, ⟨.load none (.loc 0), none, 0⟩, ⟨.iaddr 1 (.tmp 0) (.tmp 6), none, 0⟩, ⟨.load none (.loc 0), none, 0⟩, ⟨.iaddr 1 (.tmp 0) (.tmp 6), none, 0⟩, ⟨.store 1 (.loc 0) (.loc 3), none, 0⟩, ⟨.iaddr 1 (.tmp 0) (.tmp 7), none, 1⟩, ⟨.store 1 (.loc 0) (.loc 3), none, 1⟩] [])
  (.seq (.region [⟨.bin .add (.tmp 6) (.const (.int .i64 1)), none, 0⟩] [(6, (.loc 0))])
  (.region [⟨.bin .sub (.tmp 7) (.const (.int .i64 1)), none, 0⟩] [(7, (.loc 0))])))))))))
 (.seq (.draw [⟨.iaddr 1 (.tmp 0) (.tmp 1), none, 0⟩, ⟨.load none (.loc 0), none, 0⟩, ⟨.iaddr 1 (.tmp 0) (.tmp 7), none, 0⟩, ⟨.load none (.loc 0), none, 0⟩, ⟨.iaddr 1 (.tmp 0) (.tmp 7), none, 0⟩, ⟨.store 1 (.loc 0) (.loc 3), none, 0⟩, ⟨.iaddr 1 (.tmp 0) (.tmp 1), none, 1⟩, ⟨.store 1 (.loc 0) (.loc 3), none, 1⟩] [])
 (.seq (.region [] [(4, (.tmp 7)), (5, (.const (.bool false)))])
 (.ret))))))))))))⟩
theorem c81_ok : compileFn Try.prog false 81 = some c81 := by kernel_rfl
noncomputable def c82 : AFunc := ⟨[0, 2, 4, 8], [.tmp 1],
 .seq (.region [] [(1, (.const (.int .i64 0)))])
 (.seq (.seq (.region [⟨.bin .geq (.tmp 0) (.const (.int .u32 65536)), none, 0⟩] [(2, (.loc 0))])
  (.cond (.tmp 2)
   (.seq (.region [⟨.bin .shr (.tmp 0) (.const (.int .u64 16)), none, 0⟩] [(0, (.loc 0))])
    (.region [] [(1, (.const (.int .i64 16)))]))
   (.skip)))
 (.seq (.seq (.region [⟨.bin .geq (.tmp 0) (.const (.int .u32 256)), none, 0⟩] [(3, (.loc 0))])
  (.cond (.tmp 3)
   (.seq (.region [⟨.bin .shr (.tmp 0) (.const (.int .u64 8)), none, 0⟩] [(0, (.loc 0))])
    (.region [⟨.bin .add (.tmp 1) (.const (.int .i64 8)), none, 0⟩] [(1, (.loc 0))]))
   (.skip)))
 (.seq (.region [⟨.conv .u8 (.tmp 0), none, 0⟩, ⟨.sidx (.const (strOf [0, 1, 2, 2, 3, 3, 3, 3, 4, 4, 4, 4, 4, 4, 4, 4, 5, 5, 5, 5, 5, 5, 5, 5, 5, 5, 5, 5, 5, 5, 5, 5, 6, 6, 6, 6, 6, 6, 6, 6, 6, 6, 6, 6, 6, 6, 6, 6, 6, 6, 6, 6, 6, 6, 6, 6, 6, 6, 6, 6, 6, 6, 6, 6, 7, 7, 7, 7, 7, 7, 7, 7, 7, 7, 7, 7, 7, 7, 7, 7, 7, 7, 7, 7, 7, 7, 7, 7, 7, 7, 7, 7, 7, 7, 7, 7, 7, 7, 7, 7, 7, 7, 7, 7, 7, 7, 7, 7, 7, 7, 7, 7, 7, 7, 7, 7, 7, 7, 7, 7, 7, 7, 7, 7, 7, 7, 7, 7, 8, 8, 8, 8, 8, 8, 8, 8, 8, 8, 8, 8, 8, 8, 8, 8, 8, 8, 8, 8, 8, 8, 8, 8, 8, 8, 8, 8, 8, 8, 8, 8, 8, 8, 8, 8, 8, 8, 8, 8, 8, 8, 8, 8, 8, 8, 8, 8, 8, 8, 8, 8, 8, 8, 8, 8, 8, 8, 8, 8, 8, 8, 8, 8, 8, 8, 8, 8, 8, 8, 8, 8, 8, 8, 8, 8, 8, 8, 8, 8, 8, 8, 8, 8, 8, 8, 8, 8, 8, 8, 8, 8, 8, 8, 8, 8, 8, 8, 8, 8, 8, 8, 8, 8, 8, 8, 8, 8, 8, 8, 8, 8, 8, 8, 8, 8, 8, 8, 8, 8, 8, 8, 8, 8, 8, 8, 8, 8])) (.loc 0), none, 0⟩, ⟨.conv .i64 (.loc 0), none, 0⟩, ⟨.bin .add (.tmp 1) (.loc 0), none, 0⟩] [(1, (.loc 0))])
 (.ret))))⟩
theorem c82_ok : compileFn Try.prog false 82 = some c82 := by kernel_rfl
noncomputable def c83 : AFunc := ⟨[0, 2, 4, 8, 14], [.tmp 1],
 .seq (.region [] [(1, (.const (.int .i64 0)))])
 (.seq (.seq (.region [⟨.bin .geq (.tmp 0) (.const (.int .u64 4294967296)), none, 0⟩] [(2, (.loc 0))])
  (.cond (.tmp 2)
   (.seq (.region [⟨.bin .shr (.tmp 0) (.const (.int .u64 32)), none, 0⟩] [(0, (.loc 0))])
    (.region [] [(1, (.const (.int .i64 32)))]))
   (.skip)))
 (.seq (.seq (.region [⟨.bin .geq (.tmp 0) (.const (.int .u64 65536)), none, 0⟩] [(3, (.loc 0))])
  (.cond (.tmp 3)
   (.seq (.region [⟨.bin .shr (.tmp 0) (.const (.int .u64 16)), none, 0⟩] [(0, (.loc 0))])
    (.region [⟨.bin .add (.tmp 1) (.const (.int .i64 16)), none, 0⟩] [(1, (.loc 0))]))
   (.skip)))
 (.seq (.seq (.region [⟨.bin .geq (.tmp 0) (.const (.int .u64 256)), none, 0⟩] [(4, (.loc 0))])
  (.cond (.tmp 4)
   (.seq (.region [⟨.bin .shr (.tmp 0) (.const (.int .u64 8)), none, 0⟩] [(0, (.loc 0))])
    (.region [⟨.bin .add (.tmp 1) (.const (.int .i64 8)), none, 0⟩] [(1, (.loc 0))]))
   (.skip)))
 (.seq (.region [⟨.conv .u8 (.tmp 0), none, 0⟩, ⟨.sidx (.const (strOf [0, 1, 2, 2, 3, 3, 3, 3, 4, 4, 4, 4, 4, 4, 4, 4, 5, 5, 5, 5, 5, 5, 5, 5, 5, 5, 5, 5, 5, 5, 5, 5, 6, 6, 6, 6, 6, 6, 6, 6, 6, 6, 6, 6, 6, 6, 6, 6, 6, 6, 6, 6, 6, 6, 6, 6, 6, 6, 6, 6, 6, 6, 6, 6, 7, 7, 7, 7, 7, 7, 7, 7, 7, 7, 7, 7, 7, 7, 7, 7, 7, 7, 7, 7, 7, 7, 7, 7, 7, 7, 7, 7, 7, 7, 7, 7, 7, 7, 7, 7, 7, 7, 7, 7, 7, 7, 7, 7, 7, 7, 7, 7, 7, 7, 7, 7, 7, 7, 7, 7, 7, 7, 7, 7, 7, 7, 7, 7, 8, 8, 8, 8, 8, 8, 8, 8, 8, 8, 8, 8, 8, 8, 8, 8, 8, 8, 8, 8, 8, 8, 8, 8, 8, 8, 8, 8, 8, 8, 8, 8, 8, 8, 8, 8, 8, 8, 8, 8, 8, 8, 8, 8, 8, 8, 8, 8, 8, 8, 8, 8, 8, 8, 8, 8, 8, 8, 8, 8, 8, 8, 8, 8, 8, 8, 8, 8, 8, 8, 8, 8, 8, 8, 8, 8, 8, 8, 8, 8, 8, 8, 8, 8, 8, 8, 8, 8, 8, 8, 8, 8, 8, 8, 8, 8, 8, 8, 8, 8, 8, 8, 8, 8, 8, 8, 8, 8, 8, 8, 8, 8, 8, 8, 8, 8, 8, 8, 8, 8, 8, 8, 8, 8, 8, 8, 8, 8])) (.loc 0), none, 0⟩, ⟨.conv .i64 (.loc 0), none, 0⟩, ⟨.bin .add (.tmp 1) (.loc 0), none, 0⟩] [(1, (.loc 0))])
 (.ret)))))⟩
theorem c83_ok : compileFn Try.prog false 83 = some c83 := by kernel_rfl
noncomputable def c85 : AFunc := ⟨[0, 1, 2, 3, 8, 9, 16, 36, 52], [],
 .seq (.region [] [(4, (.tmp 1))])
 (.block 0 (.loop (.block 1 (.seq (.region [⟨.bin .mul (.const (.int .i64 2)) (.tmp 4), none, 0⟩, ⟨.bin .add (.loc 0) (.const (.int .i64 1)), none, 0⟩] [(5, (.loc 0))])
  (.seq (.seq (.region [⟨.bin .geq (.tmp 5) (.tmp 2), none, 0⟩] [(6, (.loc 0))])
   (.cond (.tmp 6)
    (.exit 0)
    (.skip)))
  (.seq (.seq (.draw [⟨.bin .add (.tmp 5) (.const (.int .i64 1)), none, 0⟩, ⟨.bin .lss (.loc 0) (.tmp 2), none, 0⟩, ⟨.mov (.tmp 0), (some ((.loc 0), true)), 0⟩, ⟨.mov (.tmp 3), (some ((.loc 1), true)), 0⟩, ⟨.mov (.tmp 5), (some ((.loc 2), true)), 0⟩, ⟨.bin .add (.loc 1) (.loc 0), (some ((.loc 3), true)), 0⟩, ⟨.iaddr 1 (.loc 3) (.loc 0), (some ((.loc 4), true)), 0⟩, ⟨.load none (.loc 0), (some ((.loc 5), true)), 0⟩, ⟨.mov (.tmp 0), (some ((.loc 6), true)), 0⟩, ⟨.mov (.tmp 3), (some ((.loc 7), true)), 0⟩, ⟨.mov (.tmp 5), (some ((.loc 8), true)), 0⟩, ⟨.bin .add (.loc 1) (.loc 0), (some ((.loc 9), true)), 0⟩, ⟨.bin .add (.loc 0) (.const (.int .i64 1)), (some ((.loc 10), true)), 0⟩, ⟨.iaddr 1 (.loc 4) (.loc 0), (some ((.loc 11), true)), 0⟩, ⟨.load none (.loc 0), (some ((.loc 12), true)), 0⟩, ⟨.call (.func 79) [(.loc 7), (.loc 0)], (some ((.loc 13), true)), 0⟩, ⟨.pick (.loc 14) (.loc 0) (.const (.bool false)), none, 1⟩] [(7, (.loc 0))])
   (.cond (.tmp 7)
    (.region [⟨.bin .add (.tmp 5) (.const (.int .i64 1)), none, 0⟩] [(5, (.loc 0))])
    (.skip)))
  (.seq (.seq (.draw [⟨.bin .add (.tmp 3) (.tmp 4), none, 0⟩, ⟨.iaddr 1 (.tmp 0) (.loc 0), none, 0⟩, ⟨.load none (.loc 0), none, 0⟩, ⟨.bin .add (.tmp 3) (.tmp 5), none, 0⟩, ⟨.iaddr 1 (.tmp 0) (.loc 0), none, 0⟩, ⟨.load none (.loc 0), none, 0⟩, ⟨.call (.func 79) [(.loc 3), (.loc 0)], none, 0⟩, ⟨.not (.loc 0), none, 1⟩] [(8, (.loc 0))])
   (.cond (.tmp 8)
    (.ret)
    (.skip)))
  (.seq (.draw [⟨.bin .add (.tmp 3) (.tmp 4), none, 0⟩, ⟨.bin .add (.tmp 3) (.tmp 5), none, 0⟩, ⟨.iaddr 1 (.tmp 0) (.loc 0), none, 0⟩, ⟨.load none (.loc 0), none, 0⟩, ⟨.bin .add (.tmp 3) (.tmp 4), none, 0⟩, ⟨.iaddr 1 (.tmp 0) (.loc 0), none, 0⟩, ⟨.load none (.loc 0), none, 0⟩, ⟨.iaddr 1 (.tmp 0) (.loc 6), none, 0⟩, ⟨.store 1 (.loc 0) (.loc 4), none, 0⟩, ⟨.bin .add (.tmp 3) (.tmp 5), none, 0⟩, ⟨.iaddr 1 (.tmp 0) (.loc 0), none, 1⟩, ⟨.store 1 (.loc 0) (.loc 4), none, 1⟩] [])
  (.region [] [(4, (.tmp 5))])))))))))⟩
theorem c85_ok : compileFn Try.prog false 85 = some c85 := by kernel_rfl
noncomputable def c86 : AFunc := ⟨[0, 2], [.tmp 1],
 .seq (.region [] [(1, (.const (.int .u64 0)))])
 (.seq (.region [⟨.conv .u64 (.tmp 0), none, 0⟩, ⟨.call (.func 68) [(.loc 0)], none, 0⟩, ⟨.bin .shl (.const (.int .u64 1)) (.loc 0), none, 0⟩] [(1, (.loc 0))])
 (.ret))⟩
theorem c86_ok : compileFn Try.prog false 86 = some c86 := by kernel_rfl
noncomputable def c87 : AFunc := ⟨[0, 2], [.tmp 1],
 .seq (.region [] [(1, (.const (.int .u64 0)))])
 (.seq (.draw [⟨.nilchk (.tmp 0), none, 0⟩, ⟨.load none (.loc 0), none, 0⟩, ⟨.nilchk (.tmp 0), none, 0⟩, ⟨.load none (.loc 0), none, 0⟩, ⟨.bin .shl (.loc 0) (.const (.int .u64 13)), none, 0⟩, ⟨.bin .xor (.loc 3) (.loc 0), none, 0⟩, ⟨.nilchk (.tmp 0), none, 0⟩, ⟨.store 1 (.loc 0) (.loc 1), none, 0⟩] [])
 (.seq (.draw [⟨.nilchk (.tmp 0), none, 0⟩, ⟨.load none (.loc 0), none, 0⟩, ⟨.nilchk (.tmp 0), none, 0⟩, ⟨.load none (.loc 0), none, 0⟩, ⟨.bin .shr (.loc 0) (.const (.int .u64 7)), none, 0⟩, ⟨.bin .xor (.loc 3) (.loc 0), none, 0⟩, ⟨.nilchk (.tmp 0), none, 0⟩, ⟨.store 1 (.loc 0) (.loc 1), none, 0⟩] [])
 (.seq (.draw [⟨.nilchk (.tmp 0), none, 0⟩, ⟨.load none (.loc 0), none, 0⟩, ⟨.nilchk (.tmp 0), none, 0⟩, ⟨.load none (.loc 0), none, 0⟩, ⟨.bin .shl (.loc 0) (.const (.int .u64 17)), none, 0⟩, ⟨.bin .xor (.loc 3) (.loc 0), none, 0⟩, ⟨.nilchk (.tmp 0), none, 0⟩, ⟨.store 1 (.loc 0) (.loc 1), none, 0⟩] [])
 (.seq (.region [⟨.nilchk (.tmp 0), none, 0⟩, ⟨.load none (.loc 0), none, 0⟩] [(1, (.loc 0))])
 (.ret)))))⟩
theorem c87_ok : compileFn Try.prog false 87 = some c87 := by kernel_rfl
noncomputable def c88 : AFunc := ⟨[0, 1, 2, 6], [.tmp 3],
 .seq (.region [] [(3, (.const (.int .i64 0)))])
 (.seq (.region [⟨.bin .sub (.tmp 1) (.const (.int .i64 1)), none, 0⟩, ⟨.bin .add (.tmp 1) (.const (.int .i64 1)), none, 0⟩, ⟨.call (.func 89) [(.tmp 0), (.loc 1), (.tmp 1), (.loc 0), (.tmp 2)], none, 0⟩] [(3, (.loc 0))])
 (.ret))⟩
theorem c88_ok : compileFn Try.prog false 88 = some c88 := by kernel_rfl
noncomputable def c89 : AFunc := ⟨[0, 1, 2, 3, 4, 10], [.tmp 5],
 .seq (.region [] [(5, (.const (.int .i64 0)))])
 (.seq (.region [⟨.call (.func 92) [(.tmp 0), (.tmp 1), (.tmp 2), (.tmp 4)], none, 0⟩, ⟨.ext (.loc 0) 0, none, 0⟩, ⟨.ext (.loc 1) 1, none, 0⟩] [(1, (.loc 1)), (2, (.loc 0))])
 (.seq (.region [⟨.call (.func 92) [(.tmp 0), (.tmp 2), (.tmp 3), (.tmp 4)], none, 0⟩, ⟨.ext (.loc 0) 0, none, 0⟩, ⟨.ext (.loc 1) 1, none, 0⟩] [(2, (.loc 1)), (3, (.loc 0))])
 (.seq (.region [⟨.call (.func 92) [(.tmp 0), (.tmp 1), (.tmp 2), (.tmp 4)], none, 0⟩, ⟨.ext (.loc 0) 0, none, 0⟩, ⟨.ext (.loc 1) 1, none, 0⟩] [(1, (.loc 1)), (2, (.loc 0))])
 (.seq (.region [] [(5, (.tmp 2))])
 (.ret)))))⟩
theorem c89_ok : compileFn Try.prog false 89 = some c89 := by kernel_rfl
noncomputable def c90 : AFunc := ⟨[0, 2], [.tmp 1],
 .seq (.region [] [(1, (.const (.bool false)))])
 (.seq (.region [⟨.bin .neq (.tmp 0) (.tmp 0), none, 0⟩] [(1, (.loc 0))])
 (.ret))⟩
theorem c90_ok : compileFn Try.prog false 90 = some c90 := by kernel_rfl
noncomputable def c92 : AFunc := ⟨[0, 1, 2, 3, 8, 9, 18], [.tmp 4, .tmp 5],
 .seq (.region [] [(4, (.const (.int .i64 0))), (5, (.const (.int .i64 0)))])
 (.seq (.seq (.draw [⟨.iaddr 1 (.tmp 0) (.tmp 2), none, 0⟩, ⟨.load none (.loc 0), none, 0⟩, ⟨.iaddr 1 (.tmp 0) (.tmp 1), none, 0⟩, ⟨.load none (.loc 0), none, 0⟩, ⟨.call (.func 79) [(.loc 2), (.loc 0)], none, 0⟩] [(6, (.loc 0))])
  (.cond (.tmp 6)
   (.seq (.region [⟨.nilchk (.tmp 3), none, 0⟩, ⟨.load none (.loc 0), none, 0⟩, ⟨.bin .add (.loc 0) (.const (.int .i64 1)), none, 0⟩, ⟨.nilchk (.tmp 3), none, 0⟩, ⟨.store 1 (.loc 0) (.loc 1), none, 0⟩] [])
    (.seq (.region [] [(4, (.tmp 2)), (5, (.tmp 1))])
    (.ret)))
   (.skip)))
 (.seq (.region [] [(4, (.tmp 1)), (5, (.tmp 2))])
 (.ret)))⟩
theorem c92_ok : compileFn Try.prog false 92 = some c92 := by kernel_rfl
noncomputable def list : List (Option AFunc) := [none, none, none, none, none, none, some c6, some c7, none, some c9, none, some c11, none, none, none, none, none, none, none, none, some c20, none, some c22, some c23, some c24, some c25, some c26, none, none, some c29, some c30, none, none, none, none, none, none, none, none, none, some c40, some c41, some c42, none, some c44, some c45, some c46, some c47, some c48, some c49, some c50, none, none, none, none, none, some c56, some c57, some c58, some c59, some c60, some c61, some c62, none, some c64, some c65, some c66, some c67, some c68, none, none, none, some c72, some c73, some c74, some c75, some c76, some c77, some c78, some c79, some c80, some c81, some c82, some c83, none, some c85, some c86, some c87, some c88, some c89, some c90, none, some c92]
noncomputable def fns : TV (Option AFunc) := Vec.ofList list
noncomputable def ext (f : FuncId) (args : List Value) (H : AH TV) : Option (Value × AH TV) := none
noncomputable def E : Env TV := { P := Try.prog, fn := fun f => (Vec.get fns f).getD none, ext := ext }
theorem all_ok : OkFrom Try.prog 0 list := ⟨⟨false, c6_ok⟩, ⟨⟨false, c7_ok⟩, ⟨⟨false, c9_ok⟩, ⟨⟨false, c11_ok⟩, ⟨⟨false, c20_ok⟩, ⟨⟨false, c22_ok⟩, ⟨⟨false, c23_ok⟩, ⟨⟨false, c24_ok⟩, ⟨⟨false, c25_ok⟩, ⟨⟨false, c26_ok⟩, ⟨⟨false, c29_ok⟩, ⟨⟨false, c30_ok⟩, ⟨⟨false, c40_ok⟩, ⟨⟨false, c41_ok⟩, ⟨⟨false, c42_ok⟩, ⟨⟨false, c44_ok⟩, ⟨⟨false, c45_ok⟩, ⟨⟨false, c46_ok⟩, ⟨⟨false, c47_ok⟩, ⟨⟨false, c48_ok⟩, ⟨⟨false, c49_ok⟩, ⟨⟨false, c50_ok⟩, ⟨⟨false, c56_ok⟩, ⟨⟨false, c57_ok⟩, ⟨⟨false, c58_ok⟩, ⟨⟨false, c59_ok⟩, ⟨⟨false, c60_ok⟩, ⟨⟨false, c61_ok⟩, ⟨⟨false, c62_ok⟩, ⟨⟨false, c64_ok⟩, ⟨⟨false, c65_ok⟩, ⟨⟨false, c66_ok⟩, ⟨⟨false, c67_ok⟩, ⟨⟨false, c68_ok⟩, ⟨⟨false, c72_ok⟩, ⟨⟨false, c73_ok⟩, ⟨⟨false, c74_ok⟩, ⟨⟨false, c75_ok⟩, ⟨⟨false, c76_ok⟩, ⟨⟨false, c77_ok⟩, ⟨⟨false, c78_ok⟩, ⟨⟨false, c79_ok⟩, ⟨⟨false, c80_ok⟩, ⟨⟨false, c81_ok⟩, ⟨⟨false, c82_ok⟩, ⟨⟨false, c83_ok⟩, ⟨⟨false, c85_ok⟩, ⟨⟨false, c86_ok⟩, ⟨⟨false, c87_ok⟩, ⟨⟨false, c88_ok⟩, ⟨⟨false, c89_ok⟩, ⟨⟨false, c90_ok⟩, ⟨⟨false, c92_ok⟩, trivial⟩⟩⟩⟩⟩⟩⟩⟩⟩⟩⟩⟩⟩⟩⟩⟩⟩⟩⟩⟩⟩⟩⟩⟩⟩⟩⟩⟩⟩⟩⟩⟩⟩⟩⟩⟩⟩⟩⟩⟩⟩⟩⟩⟩⟩⟩⟩⟩⟩⟩⟩⟩⟩
theorem ext_ok (f : FuncId) (args : List Value) (H : AH TV) (v : Value) (H' : AH TV) (h : ext f args H = some (v, H')) : CallsOk Try.prog f args H v H' := by
 unfold ext at h
 cases h
theorem env_ok : EnvOk E := ⟨fun f fn h => fn_of all_ok h, ext_ok, draw_ok (by kernel_rfl)⟩
end Go.Proofs.Ytggaimcopbjdiaa.ChartAwake
