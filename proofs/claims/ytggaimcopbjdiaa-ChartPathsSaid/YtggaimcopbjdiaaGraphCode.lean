import Derived.Test.YtggaimcopbjdiaaAMb
import Derived.Test.YtggaimcopbjdiaaChartAwakeRun
import Derived.Test.YtggaimcopbjdiaaChartAwakeCode
import Derived.Test.YtggaimcopbjdiaaProg
import Derived.KernelRfl
set_option linter.unusedVariables false
set_option maxRecDepth 100000
namespace Go.Proofs.Ytggaimcopbjdiaa.Graph
open Go.Proofs.Ytggaimcopbjdiaa.AM
noncomputable def c4 : AFunc := ⟨[0, 1, 2, 3, 6, 7, 8, 9, 10, 11, 12, 13, 14, 15, 16, 17, 19, 20, 25, 32, 38, 77], [.tmp 4],
 .seq (.region [⟨.box (.tmp 0), none, 0⟩] [(3, (.loc 0)), (4, (.const (.bool false)))])
 (.seq (.region [⟨.faddr 5 (.tmp 3), none, 0⟩, ⟨.load none (.loc 0), none, 0⟩, ⟨.len (.loc 0), none, 0⟩] [(5, (.loc 0))])
 (.seq (.seq (.region [⟨.bin .gtr (.tmp 5) (.const (.int .i64 18)), none, 0⟩] [(18, (.loc 0))])
  (.cond (.tmp 18)
   (.seq (.region [⟨.call (.func 6) [], none, 0⟩] [(4, (.loc 0))])
    (.ret))
   (.skip)))
 (.seq (.region [⟨.load (some 6) (.tmp 3), none, 0⟩, ⟨.call (.func 10) [(.loc 0)], none, 0⟩, ⟨.alloc [(.int .u64 0), (.slice none 0 0), (.slice none 0 0), (.int .i64 0), (.int .i64 0), (.slice none 0 0)], none, 0⟩, ⟨.store 6 (.loc 0) (.loc 1), none, 0⟩] [(6, (.loc 1))])
 (.seq (.seq (.region [] [(7, (.const (.int .i64 (-1))))])
  (.block 0 (.loop (.seq (.seq (.region [⟨.bin .add (.tmp 5) (.const (.int .i64 1)), none, 0⟩, ⟨.bin .leq (.tmp 7) (.loc 0), none, 0⟩] [(19, (.loc 0))])
   (.cond (.tmp 19)
    (.skip)
    (.exit 0)))
   (.seq (.block 1 (.seq (.region [] [(8, (.const (.int .i64 (-1))))])
    (.block 2 (.loop (.seq (.seq (.region [⟨.bin .add (.tmp 5) (.const (.int .i64 1)), none, 0⟩, ⟨.bin .leq (.tmp 8) (.loc 0), none, 0⟩] [(20, (.loc 0))])
     (.cond (.tmp 20)
      (.skip)
      (.exit 2)))
     (.seq (.block 3 (.seq (.region [⟨.load (some 6) (.tmp 6), none, 0⟩, ⟨.call (.func 11) [(.loc 0), (.tmp 7), (.tmp 8)], none, 0⟩, ⟨.ext (.loc 0) 0, none, 0⟩, ⟨.ext (.loc 1) 1, none, 0⟩] [(9, (.loc 1)), (10, (.loc 0))])
      (.seq (.region [⟨.load (some 6) (.tmp 3), none, 0⟩, ⟨.call (.func 12) [(.loc 0), (.tmp 7), (.tmp 8)], none, 0⟩, ⟨.ext (.loc 0) 0, none, 0⟩, ⟨.ext (.loc 1) 1, none, 0⟩] [(11, (.loc 1)), (12, (.loc 0))])
      (.seq (.draw [⟨.beq true (.tmp 10) (.tmp 12), none, 0⟩, ⟨.mov (.tmp 9), (some ((.loc 0), false)), 0⟩, ⟨.mov (.tmp 11), (some ((.loc 1), false)), 0⟩, ⟨.call (.func 13) [(.loc 1), (.loc 0)], (some ((.loc 2), false)), 0⟩, ⟨.not (.loc 0), (some ((.loc 3), false)), 1⟩, ⟨.pick (.loc 4) (.const (.bool true)) (.loc 0), none, 1⟩, ⟨.mov (.tmp 10), (some ((.loc 0), false)), 1⟩, ⟨.mov (.loc 0), (some ((.loc 1), false)), 1⟩, ⟨.load (some 6) (.tmp 6), (some ((.loc 0), true)), 1⟩, ⟨.mov (.tmp 7), (some ((.loc 1), true)), 1⟩, ⟨.mov (.tmp 8), (some ((.loc 2), true)), 1⟩, ⟨.call (.func 14) [(.loc 2), (.loc 1), (.loc 0)], (some ((.loc 3), true)), 1⟩, ⟨.load (some 6) (.tmp 3), (some ((.loc 4), true)), 1⟩, ⟨.mov (.tmp 7), (some ((.loc 5), true)), 1⟩, ⟨.mov (.tmp 8), (some ((.loc 6), true)), 1⟩, ⟨.call (.func 15) [(.loc 2), (.loc 1), (.loc 0)], (some ((.loc 7), true)), 2⟩, ⟨.bin .neq (.loc 4) (.loc 0), (some ((.loc 8), true)), 3⟩, ⟨.pick (.loc 9) (.loc 0) (.const (.bool false)), (some ((.loc 11), false)), 3⟩, ⟨.pick (.loc 12) (.const (.bool true)) (.loc 0), none, 3⟩] [(21, (.loc 0))])
      (.cond (.tmp 21)
       (.seq (.region [] [(4, (.const (.bool false)))])
        (.ret))
       (.skip))))))
     (.region [⟨.bin .add (.tmp 8) (.const (.int .i64 1)), none, 0⟩] [(8, (.loc 0))])))))))
   (.region [⟨.bin .add (.tmp 7) (.const (.int .i64 1)), none, 0⟩] [(7, (.loc 0))]))))))
 (.seq (.region [⟨.load (some 6) (.tmp 6), none, 0⟩, ⟨.call (.func 11) [(.loc 0), (.tmp 1), (.tmp 2)], none, 0⟩, ⟨.ext (.loc 0) 0, none, 0⟩, ⟨.ext (.loc 1) 1, none, 0⟩] [(13, (.loc 1)), (14, (.loc 0))])
 (.seq (.region [⟨.load (some 6) (.tmp 6), none, 0⟩, ⟨.call (.func 11) [(.loc 0), (.tmp 1), (.tmp 2)], none, 0⟩, ⟨.ext (.loc 0) 0, none, 0⟩, ⟨.ext (.loc 1) 1, none, 0⟩] [(15, (.loc 1))])
 (.seq (.region [⟨.load (some 6) (.tmp 3), none, 0⟩, ⟨.call (.func 12) [(.loc 0), (.tmp 1), (.tmp 2)], none, 0⟩, ⟨.ext (.loc 0) 0, none, 0⟩, ⟨.ext (.loc 1) 1, none, 0⟩] [(16, (.loc 1)), (17, (.loc 0))])
 (.seq (.draw [⟨.beq false (.tmp 14) (.tmp 17), none, 0⟩, ⟨.mov (.tmp 13), (some ((.loc 0), true)), 0⟩, ⟨.mov (.tmp 16), (some ((.loc 1), true)), 0⟩, ⟨.call (.func 13) [(.loc 1), (.loc 0)], (some ((.loc 2), true)), 0⟩, ⟨.pick (.loc 3) (.loc 0) (.const (.bool false)), none, 1⟩, ⟨.load (some 6) (.tmp 6), (some ((.loc 0), true)), 1⟩, ⟨.mov (.tmp 1), (some ((.loc 1), true)), 1⟩, ⟨.mov (.tmp 2), (some ((.loc 2), true)), 1⟩, ⟨.call (.func 14) [(.loc 2), (.loc 1), (.loc 0)], (some ((.loc 3), true)), 1⟩, ⟨.load (some 6) (.tmp 3), (some ((.loc 4), true)), 1⟩, ⟨.mov (.tmp 1), (some ((.loc 5), true)), 1⟩, ⟨.mov (.tmp 2), (some ((.loc 6), true)), 1⟩, ⟨.call (.func 15) [(.loc 2), (.loc 1), (.loc 0)], (some ((.loc 7), true)), 2⟩, ⟨.bin .eql (.loc 4) (.loc 0), (some ((.loc 8), true)), 3⟩, ⟨.pick (.loc 9) (.loc 0) (.const (.bool false)), none, 3⟩, ⟨.load (some 6) (.tmp 6), (some ((.loc 0), true)), 3⟩, ⟨.load (some 6) (.tmp 3), (some ((.loc 1), true)), 3⟩, ⟨.call (.func 16) [(.loc 1), (.loc 0)], (some ((.loc 2), true)), 3⟩, ⟨.pick (.loc 3) (.loc 0) (.const (.bool false)), none, 4⟩, ⟨.mov (.tmp 13), (some ((.loc 0), true)), 4⟩, ⟨.mov (.tmp 15), (some ((.loc 1), true)), 4⟩, ⟨.mov (.tmp 16), (some ((.loc 2), true)), 4⟩, ⟨.call (.func 17) [(.loc 2), (.loc 1), (.loc 0)], (some ((.loc 3), true)), 4⟩, ⟨.pick (.loc 4) (.loc 0) (.const (.bool false)), none, 5⟩, ⟨.call (.func 6) [], (some ((.loc 0), true)), 5⟩, ⟨.pick (.loc 1) (.loc 0) (.const (.bool false)), none, 6⟩] [(4, (.loc 0))])
 (.ret)))))))))⟩
theorem c4_ok : compileFn Try.prog false 4 = some c4 := by kernel_rfl
noncomputable def c10 : AFunc := ⟨[0, 1, 2], [.cell 2 (some 6)],
 .seq (.region [⟨.box (.tmp 0), none, 0⟩, ⟨.alloc [(.int .u64 0), (.slice none 0 0), (.slice none 0 0), (.int .i64 0), (.int .i64 0), (.slice none 0 0)], none, 0⟩] [(1, (.loc 1)), (2, (.loc 0))])
 (.seq (.region [⟨.faddr 1 (.tmp 1), none, 0⟩, ⟨.load none (.loc 0), none, 0⟩, ⟨.call (.func 27) [(.loc 0)], none, 0⟩, ⟨.faddr 1 (.tmp 1), none, 0⟩, ⟨.store 1 (.loc 0) (.loc 1), none, 0⟩] [])
 (.seq (.region [⟨.faddr 2 (.tmp 1), none, 0⟩, ⟨.load none (.loc 0), none, 0⟩, ⟨.call (.func 27) [(.loc 0)], none, 0⟩, ⟨.faddr 2 (.tmp 1), none, 0⟩, ⟨.store 1 (.loc 0) (.loc 1), none, 0⟩] [])
 (.seq (.region [⟨.faddr 5 (.tmp 1), none, 0⟩, ⟨.load none (.loc 0), none, 0⟩, ⟨.call (.func 28) [(.loc 0)], none, 0⟩, ⟨.faddr 5 (.tmp 1), none, 0⟩, ⟨.store 1 (.loc 0) (.loc 1), none, 0⟩] [])
 (.seq (.region [⟨.load (some 6) (.tmp 1), none, 0⟩, ⟨.store 6 (.tmp 2) (.loc 0), none, 0⟩] [])
 (.ret)))))⟩
theorem c10_ok : compileFn Try.prog false 10 = some c10 := by kernel_rfl
noncomputable abbrev c11 : AFunc := ChartAwake.c11
noncomputable def c12 : AFunc := ⟨[0, 1, 2, 3, 6, 7, 12], [.tmp 4, .tmp 5],
 .seq (.region [⟨.box (.tmp 0), none, 0⟩] [(3, (.loc 0)), (4, (.const (.slice none 0 0))), (5, (.const (.bool false)))])
 (.seq (.seq (.region [⟨.load (some 6) (.tmp 3), none, 0⟩, ⟨.call (.func 31) [(.loc 0), (.tmp 1), (.tmp 2)], none, 0⟩, ⟨.not (.loc 0), none, 0⟩] [(6, (.loc 0))])
  (.cond (.tmp 6)
   (.seq (.region [] [(4, (.const (.slice none 0 0))), (5, (.const (.bool false)))])
    (.ret))
   (.skip)))
 (.seq (.region [⟨.load (some 6) (.tmp 3), none, 0⟩, ⟨.call (.func 33) [(.loc 0)], none, 0⟩, ⟨.call (.func 32) [(.loc 0), (.tmp 1), (.tmp 2)], none, 0⟩] [(4, (.loc 0)), (5, (.const (.bool true)))])
 (.ret)))⟩
theorem c12_ok : compileFn Try.prog false 12 = some c12 := by kernel_rfl
noncomputable def c13 : AFunc := ⟨[0, 1, 4, 5, 10, 14, 26], [.tmp 2],
 .seq (.region [] [(2, (.const (.bool false)))])
 (.seq (.seq (.region [⟨.len (.tmp 0), none, 0⟩, ⟨.len (.tmp 1), none, 0⟩, ⟨.bin .neq (.loc 1) (.loc 0), none, 0⟩] [(4, (.loc 0))])
  (.cond (.tmp 4)
   (.seq (.region [] [(2, (.const (.bool false)))])
    (.ret))
   (.skip)))
 (.seq (.seq (.region [] [(3, (.const (.int .i64 0)))])
  (.block 0 (.loop (.seq (.seq (.region [⟨.len (.tmp 0), none, 0⟩, ⟨.bin .lss (.tmp 3) (.loc 0), none, 0⟩] [(5, (.loc 0))])
   (.cond (.tmp 5)
    (.skip)
    (.exit 0)))
   (.seq (.block 1 (.seq (.draw [⟨.iaddr 1 (.tmp 0) (.tmp 3), none, 0⟩, ⟨.load none (.loc 0), none, 0⟩, ⟨.iaddr 2 (.tmp 1) (.tmp 3), none, 0⟩, ⟨.load (some 2) (.loc 0), none, 0⟩, ⟨.call (.func 34) [(.loc 2), (.loc 0)], none, 0⟩, ⟨.not (.loc 0), none, 1⟩] [(6, (.loc 0))])
    (.cond (.tmp 6)
     (.seq (.region [] [(2, (.const (.bool false)))])
      (.ret))
     (.skip))))
   (.region [⟨.bin .add (.tmp 3) (.const (.int .i64 1)), none, 0⟩] [(3, (.loc 0))]))))))
 (.seq (.region [] [(2, (.const (.bool true)))])
 (.ret))))⟩
theorem c13_ok : compileFn Try.prog false 13 = some c13 := by kernel_rfl
noncomputable def c14 : AFunc := ⟨[0, 1, 2, 3, 6, 7, 9, 10, 11, 22], [.tmp 4],
 .seq (.region [⟨.box (.tmp 0), none, 0⟩] [(3, (.loc 0)), (4, (.const (.int .i64 0)))])
 (.seq (.region [⟨.load (some 6) (.tmp 3), none, 0⟩, ⟨.call (.func 11) [(.loc 0), (.tmp 1), (.tmp 2)], none, 0⟩, ⟨.ext (.loc 0) 0, none, 0⟩, ⟨.ext (.loc 1) 1, none, 0⟩] [(5, (.loc 1))])
 (.seq (.region [] [(6, (.const (.float .f64 0)))])
 (.seq (.seq (.region [] [(7, (.const (.int .i64 1)))])
  (.block 0 (.loop (.seq (.seq (.region [⟨.len (.tmp 5), none, 0⟩, ⟨.bin .lss (.tmp 7) (.loc 0), none, 0⟩] [(9, (.loc 0))])
   (.cond (.tmp 9)
    (.skip)
    (.exit 0)))
   (.seq (.block 1 (.seq (.draw [⟨.iaddr 1 (.tmp 5) (.tmp 7), none, 0⟩, ⟨.load none (.loc 0), none, 0⟩, ⟨.bin .sub (.tmp 7) (.const (.int .i64 1)), none, 0⟩, ⟨.iaddr 1 (.tmp 5) (.loc 0), none, 0⟩, ⟨.load none (.loc 0), none, 0⟩, ⟨.flat (.bin .sub 32 (.tmp 28) (.tmp 33)) [(.loc 3), (.loc 0)], none, 0⟩] [(8, (.loc 0))])
    (.region [⟨.flat (.re #[32] 33) [(.tmp 8)], none, 0⟩, ⟨.call (.func 35) [(.loc 0)], none, 0⟩, ⟨.flat (.im #[32] 33) [(.tmp 8)], none, 0⟩, ⟨.call (.func 35) [(.loc 0)], none, 0⟩, ⟨.flat (.bin .add 33 (.tmp 38) (.tmp 41)) [(.loc 2), (.loc 0)], none, 0⟩, ⟨.flat (.bin .add 33 (.tmp 35) (.tmp 42)) [(.tmp 6), (.loc 0)], none, 0⟩] [(6, (.loc 0))])))
   (.region [⟨.bin .add (.tmp 7) (.const (.int .i64 1)), none, 0⟩] [(7, (.loc 0))]))))))
 (.seq (.region [⟨.flat (.conv 33 3) [(.tmp 6)], none, 0⟩] [(4, (.loc 0))])
 (.ret)))))⟩
theorem c14_ok : compileFn Try.prog false 14 = some c14 := by kernel_rfl
noncomputable def c15 : AFunc := ⟨[0, 1, 2, 3, 6, 7, 9, 10, 21], [.tmp 4],
 .seq (.region [⟨.box (.tmp 0), none, 0⟩] [(3, (.loc 0)), (4, (.const (.int .i64 0)))])
 (.seq (.region [⟨.load (some 6) (.tmp 3), none, 0⟩, ⟨.call (.func 12) [(.loc 0), (.tmp 1), (.tmp 2)], none, 0⟩, ⟨.ext (.loc 0) 0, none, 0⟩, ⟨.ext (.loc 1) 1, none, 0⟩] [(5, (.loc 1))])
 (.seq (.region [] [(6, (.const (.int .i64 0)))])
 (.seq (.seq (.region [] [(7, (.const (.int .i64 1)))])
  (.block 0 (.loop (.seq (.seq (.region [⟨.len (.tmp 5), none, 0⟩, ⟨.bin .lss (.tmp 7) (.loc 0), none, 0⟩] [(8, (.loc 0))])
   (.cond (.tmp 8)
    (.skip)
    (.exit 0)))
   (.seq (.block 1 (.draw [⟨.iaddr 2 (.tmp 5) (.tmp 7), none, 0⟩, ⟨.faddr 0 (.loc 0), none, 0⟩, ⟨.load none (.loc 0), none, 0⟩, ⟨.bin .sub (.tmp 7) (.const (.int .i64 1)), none, 0⟩, ⟨.iaddr 2 (.tmp 5) (.loc 0), none, 0⟩, ⟨.faddr 0 (.loc 0), none, 0⟩, ⟨.load none (.loc 0), none, 0⟩, ⟨.bin .sub (.loc 4) (.loc 0), none, 0⟩, ⟨.call (.func 36) [(.loc 0)], none, 0⟩, ⟨.iaddr 2 (.tmp 5) (.tmp 7), none, 0⟩, ⟨.faddr 1 (.loc 0), none, 0⟩, ⟨.load none (.loc 0), none, 0⟩, ⟨.bin .sub (.tmp 7) (.const (.int .i64 1)), none, 0⟩, ⟨.iaddr 2 (.tmp 5) (.loc 0), none, 0⟩, ⟨.faddr 1 (.loc 0), none, 0⟩, ⟨.load none (.loc 0), none, 0⟩, ⟨.bin .sub (.loc 4) (.loc 0), none, 0⟩, ⟨.call (.func 36) [(.loc 0)], none, 1⟩, ⟨.bin .add (.tmp 6) (.loc 9), none, 1⟩, ⟨.bin .add (.loc 0) (.loc 1), none, 2⟩] [(6, (.loc 0))]))
   (.region [⟨.bin .add (.tmp 7) (.const (.int .i64 1)), none, 0⟩] [(7, (.loc 0))]))))))
 (.seq (.region [] [(4, (.tmp 6))])
 (.ret)))))⟩
theorem c15_ok : compileFn Try.prog false 15 = some c15 := by kernel_rfl
noncomputable def c16 : AFunc := ⟨[0, 1, 2, 3, 4], [.tmp 4],
 .seq (.region [⟨.box (.tmp 0), none, 0⟩, ⟨.box (.tmp 1), none, 0⟩] [(2, (.loc 1)), (3, (.loc 0)), (4, (.const (.bool false)))])
 (.seq (.region [⟨.faddr 0 (.tmp 2), none, 0⟩, ⟨.load none (.loc 0), none, 0⟩, ⟨.faddr 0 (.tmp 3), none, 0⟩, ⟨.load none (.loc 0), none, 0⟩, ⟨.bin .eql (.loc 2) (.loc 0), none, 0⟩, ⟨.faddr 3 (.tmp 2), (some ((.loc 0), true)), 0⟩, ⟨.load none (.loc 0), (some ((.loc 1), true)), 0⟩, ⟨.faddr 3 (.tmp 3), (some ((.loc 2), true)), 0⟩, ⟨.load none (.loc 0), (some ((.loc 3), true)), 0⟩, ⟨.bin .eql (.loc 2) (.loc 0), (some ((.loc 4), true)), 0⟩, ⟨.pick (.loc 5) (.loc 0) (.const (.bool false)), none, 0⟩, ⟨.faddr 4 (.tmp 2), (some ((.loc 0), true)), 0⟩, ⟨.load none (.loc 0), (some ((.loc 1), true)), 0⟩, ⟨.faddr 4 (.tmp 3), (some ((.loc 2), true)), 0⟩, ⟨.load none (.loc 0), (some ((.loc 3), true)), 0⟩, ⟨.bin .eql (.loc 2) (.loc 0), (some ((.loc 4), true)), 0⟩, ⟨.pick (.loc 5) (.loc 0) (.const (.bool false)), none, 0⟩, ⟨.faddr 1 (.tmp 2), (some ((.loc 0), true)), 0⟩, ⟨.load none (.loc 0), (some ((.loc 1), true)), 0⟩, ⟨.faddr 1 (.tmp 3), (some ((.loc 2), true)), 0⟩, ⟨.load none (.loc 0), (some ((.loc 3), true)), 0⟩, ⟨.call (.func 37) [(.loc 2), (.loc 0)], (some ((.loc 4), true)), 0⟩, ⟨.pick (.loc 5) (.loc 0) (.const (.bool false)), none, 0⟩, ⟨.faddr 2 (.tmp 2), (some ((.loc 0), true)), 0⟩, ⟨.load none (.loc 0), (some ((.loc 1), true)), 0⟩, ⟨.faddr 2 (.tmp 3), (some ((.loc 2), true)), 0⟩, ⟨.load none (.loc 0), (some ((.loc 3), true)), 0⟩, ⟨.call (.func 37) [(.loc 2), (.loc 0)], (some ((.loc 4), true)), 0⟩, ⟨.pick (.loc 5) (.loc 0) (.const (.bool false)), none, 0⟩, ⟨.faddr 5 (.tmp 2), (some ((.loc 0), true)), 0⟩, ⟨.load none (.loc 0), (some ((.loc 1), true)), 0⟩, ⟨.faddr 5 (.tmp 3), (some ((.loc 2), true)), 0⟩, ⟨.load none (.loc 0), (some ((.loc 3), true)), 0⟩, ⟨.call (.func 38) [(.loc 2), (.loc 0)], (some ((.loc 4), true)), 0⟩, ⟨.pick (.loc 5) (.loc 0) (.const (.bool false)), none, 0⟩] [(4, (.loc 0))])
 (.ret))⟩
theorem c16_ok : compileFn Try.prog false 16 = some c16 := by kernel_rfl
noncomputable def c17 : AFunc := ⟨[0, 1, 2, 6, 7, 8, 12, 19], [.tmp 3],
 .seq (.region [] [(3, (.const (.bool false)))])
 (.seq (.seq (.region [] [(4, (.const (.int .i64 0)))])
  (.block 0 (.loop (.seq (.seq (.region [⟨.len (.tmp 0), none, 0⟩, ⟨.bin .lss (.tmp 4) (.loc 0), none, 0⟩] [(6, (.loc 0))])
   (.cond (.tmp 6)
    (.skip)
    (.exit 0)))
   (.seq (.block 1 (.region [⟨.iaddr 1 (.tmp 0) (.tmp 4), none, 0⟩, ⟨.store 1 (.loc 0) (.const (.complex .f64 0 13842939354630062080)), none, 0⟩] []))
   (.region [⟨.bin .add (.tmp 4) (.const (.int .i64 1)), none, 0⟩] [(4, (.loc 0))]))))))
 (.seq (.seq (.region [] [(5, (.const (.int .i64 0)))])
  (.block 2 (.loop (.seq (.seq (.region [⟨.bin .lss (.tmp 5) (.const (.int .i64 30)), none, 0⟩] [(7, (.loc 0))])
   (.cond (.tmp 7)
    (.skip)
    (.exit 2)))
   (.seq (.block 3 (.seq (.region [⟨.mkarr 1 [(.complex .f64 0 0)] [(0, 1, (.const (.complex .f64 13844065254536904704 0)))], none, 0⟩, ⟨.append false 1 16 (.tmp 0) (.loc 0), none, 0⟩] [(0, (.loc 0))])
    (.region [⟨.mkarr 1 [(.complex .f64 0 0)] [(0, 1, (.const (.complex .f64 13844628204490326016 0)))], none, 0⟩, ⟨.append false 1 16 (.tmp 1) (.loc 0), none, 0⟩] [(1, (.loc 0))])))
   (.region [⟨.bin .add (.tmp 5) (.const (.int .i64 1)), none, 0⟩] [(5, (.loc 0))]))))))
 (.seq (.region [⟨.len (.tmp 2), none, 0⟩, ⟨.slice 1 (.tmp 1) none (some (.loc 0)) none, none, 0⟩, ⟨.call (.func 13) [(.loc 0), (.tmp 2)], none, 0⟩, ⟨.mov (.tmp 0), (some ((.loc 0), true)), 0⟩, ⟨.mov (.tmp 2), (some ((.loc 1), true)), 0⟩, ⟨.len (.loc 0), (some ((.loc 2), true)), 0⟩, ⟨.iaddr 1 (.loc 2) (.loc 0), (some ((.loc 3), true)), 0⟩, ⟨.load none (.loc 0), (some ((.loc 4), true)), 0⟩, ⟨.flat (.bin .eql 32 (.tmp 39) (.const (.complex .f64 13844065254536904704 0))) [(.loc 0), (.const (.complex .f64 13844065254536904704 0))], (some ((.loc 5), true)), 0⟩, ⟨.pick (.loc 6) (.loc 0) (.const (.bool false)), none, 0⟩, ⟨.mov (.tmp 0), (some ((.loc 0), true)), 0⟩, ⟨.mov (.tmp 2), (some ((.loc 1), true)), 0⟩, ⟨.len (.loc 0), (some ((.loc 2), true)), 0⟩, ⟨.bin .add (.loc 0) (.const (.int .i64 29)), (some ((.loc 3), true)), 0⟩, ⟨.iaddr 1 (.loc 3) (.loc 0), (some ((.loc 4), true)), 0⟩, ⟨.load none (.loc 0), (some ((.loc 5), true)), 0⟩, ⟨.flat (.bin .eql 32 (.tmp 48) (.const (.complex .f64 13844065254536904704 0))) [(.loc 0), (.const (.complex .f64 13844065254536904704 0))], (some ((.loc 6), true)), 0⟩, ⟨.pick (.loc 7) (.loc 0) (.const (.bool false)), none, 0⟩] [(3, (.loc 0))])
 (.ret))))⟩
theorem c17_ok : compileFn Try.prog false 17 = some c17 := by kernel_rfl
noncomputable abbrev c20 : AFunc := ChartAwake.c20
noncomputable abbrev c24 : AFunc := ChartAwake.c24
noncomputable abbrev c25 : AFunc := ChartAwake.c25
noncomputable def c27 : AFunc := ⟨[0, 2, 3], [.tmp 1],
 .seq (.region [] [(1, (.const (.slice none 0 0)))])
 (.seq (.region [] [(2, (.const (.slice none 0 0)))])
 (.seq (.region [⟨.append false 1 8 (.tmp 2) (.tmp 0), none, 0⟩] [(2, (.loc 0))])
 (.seq (.region [⟨.mkarr 1 [(.int .u64 0)] [(0, 1, (.const (.int .u64 7171)))], none, 0⟩, ⟨.append false 1 8 (.tmp 2) (.loc 0), none, 0⟩] [(2, (.loc 0))])
 (.seq (.region [⟨.len (.tmp 0), none, 0⟩, ⟨.slice 1 (.tmp 2) none (some (.loc 0)) none, none, 0⟩] [(1, (.loc 0))])
 (.ret)))))⟩
theorem c27_ok : compileFn Try.prog false 27 = some c27 := by kernel_rfl
noncomputable def c28 : AFunc := ⟨[0, 2, 3], [.tmp 1],
 .seq (.region [] [(1, (.const (.slice none 0 0)))])
 (.seq (.region [] [(2, (.const (.slice none 0 0)))])
 (.seq (.region [⟨.append false 2 16 (.tmp 2) (.tmp 0), none, 0⟩] [(2, (.loc 0))])
 (.seq (.region [⟨.build [(.int .i64 0), (.int .i64 0)] [(0, 1, (.const (.int .i64 (-71))))], none, 0⟩, ⟨.mkarr 1 [(.int .i64 0), (.int .i64 0)] [(0, 2, (.loc 0))], none, 0⟩, ⟨.append false 2 16 (.tmp 2) (.loc 0), none, 0⟩] [(2, (.loc 0))])
 (.seq (.region [⟨.len (.tmp 0), none, 0⟩, ⟨.slice 2 (.tmp 2) none (some (.loc 0)) none, none, 0⟩] [(1, (.loc 0))])
 (.ret)))))⟩
theorem c28_ok : compileFn Try.prog false 28 = some c28 := by kernel_rfl
noncomputable abbrev c29 : AFunc := ChartAwake.c29
noncomputable abbrev c30 : AFunc := ChartAwake.c30
noncomputable def c31 : AFunc := ⟨[0, 1, 2, 3, 6, 7, 8, 27, 34, 35, 46, 63], [.tmp 4],
 .seq (.region [⟨.box (.tmp 0), none, 0⟩] [(3, (.loc 0)), (4, (.const (.bool false)))])
 (.seq (.region [⟨.faddr 5 (.tmp 3), none, 0⟩, ⟨.load none (.loc 0), none, 0⟩, ⟨.len (.loc 0), none, 0⟩] [(5, (.loc 0))])
 (.seq (.seq (.region [⟨.bin .lss (.tmp 1) (.const (.int .i64 0)), none, 0⟩, ⟨.mov (.tmp 1), (some ((.loc 0), false)), 0⟩, ⟨.mov (.tmp 5), (some ((.loc 1), false)), 0⟩, ⟨.bin .geq (.loc 1) (.loc 0), (some ((.loc 2), false)), 0⟩, ⟨.pick (.loc 3) (.const (.bool true)) (.loc 0), none, 0⟩, ⟨.mov (.tmp 2), (some ((.loc 0), false)), 0⟩, ⟨.bin .lss (.loc 0) (.const (.int .i64 0)), (some ((.loc 1), false)), 0⟩, ⟨.pick (.loc 2) (.const (.bool true)) (.loc 0), none, 0⟩, ⟨.mov (.tmp 2), (some ((.loc 0), false)), 0⟩, ⟨.mov (.tmp 5), (some ((.loc 1), false)), 0⟩, ⟨.bin .gtr (.loc 1) (.loc 0), (some ((.loc 2), false)), 0⟩, ⟨.pick (.loc 3) (.const (.bool true)) (.loc 0), none, 0⟩] [(7, (.loc 0))])
  (.cond (.tmp 7)
   (.seq (.region [] [(4, (.const (.bool false)))])
    (.ret))
   (.skip)))
 (.seq (.region [⟨.faddr 5 (.tmp 3), none, 0⟩, ⟨.load none (.loc 0), none, 0⟩, ⟨.iaddr 2 (.loc 0) (.tmp 1), none, 0⟩, ⟨.load (some 2) (.loc 0), none, 0⟩, ⟨.alloc [(.int .i64 0), (.int .i64 0)], none, 0⟩, ⟨.store 2 (.loc 0) (.loc 1), none, 0⟩] [(6, (.loc 1))])
 (.seq (.seq (.region [⟨.faddr 0 (.tmp 6), none, 0⟩, ⟨.load none (.loc 0), none, 0⟩] [(8, (.loc 0))])
  (.block 0 (.seq (.region [⟨.bin .eql (.tmp 8) (.const (.int .i64 43)), none, 0⟩] [(9, (.loc 0))])
  (.cond (.tmp 9)
   (.seq (.region [⟨.bin .lss (.tmp 2) (.tmp 5), none, 0⟩, ⟨.faddr 1 (.tmp 6), (some ((.loc 0), true)), 0⟩, ⟨.load none (.loc 0), (some ((.loc 1), true)), 0⟩, ⟨.mov (.tmp 2), (some ((.loc 2), true)), 0⟩, ⟨.bin .eql (.loc 1) (.loc 0), (some ((.loc 3), true)), 0⟩, ⟨.pick (.loc 4) (.loc 0) (.const (.bool false)), none, 0⟩] [(4, (.loc 0))])
    (.ret))
   (.seq (.region [⟨.bin .eql (.tmp 8) (.const (.int .i64 44)), none, 0⟩] [(10, (.loc 0))])
    (.cond (.tmp 10)
     (.seq (.region [⟨.bin .lss (.tmp 2) (.tmp 5), none, 0⟩, ⟨.mov (.tmp 2), (some ((.loc 0), true)), 0⟩, ⟨.mov (.tmp 1), (some ((.loc 1), true)), 0⟩, ⟨.bin .add (.loc 0) (.const (.int .i64 1)), (some ((.loc 2), true)), 0⟩, ⟨.bin .eql (.loc 2) (.loc 0), (some ((.loc 3), true)), 0⟩, ⟨.mov (.loc 0), (some ((.loc 4), true)), 0⟩, ⟨.faddr 1 (.tmp 6), (some ((.loc 0), false)), 0⟩, ⟨.load none (.loc 0), (some ((.loc 1), false)), 0⟩, ⟨.mov (.tmp 2), (some ((.loc 2), false)), 0⟩, ⟨.bin .eql (.loc 1) (.loc 0), (some ((.loc 3), false)), 0⟩, ⟨.pick (.loc 4) (.const (.bool true)) (.loc 0), (some ((.loc 9), true)), 0⟩, ⟨.pick (.loc 10) (.loc 0) (.const (.bool false)), none, 0⟩] [(4, (.loc 0))])
      (.ret))
     (.seq (.region [⟨.bin .eql (.tmp 8) (.const (.int .i64 46)), none, 0⟩] [(11, (.loc 0))])
      (.cond (.tmp 11)
       (.seq (.region [⟨.bin .eql (.tmp 2) (.tmp 5), none, 0⟩] [(4, (.loc 0))])
        (.ret))
       (.skip)))))))))
 (.seq (.region [⟨.bin .lss (.tmp 2) (.tmp 5), none, 0⟩, ⟨.mov (.tmp 2), (some ((.loc 0), true)), 0⟩, ⟨.mov (.tmp 1), (some ((.loc 1), true)), 0⟩, ⟨.bin .add (.loc 0) (.const (.int .i64 1)), (some ((.loc 2), true)), 0⟩, ⟨.bin .eql (.loc 2) (.loc 0), (some ((.loc 3), true)), 0⟩, ⟨.pick (.loc 4) (.loc 0) (.const (.bool false)), none, 0⟩] [(4, (.loc 0))])
 (.ret))))))⟩
theorem c31_ok : compileFn Try.prog false 31 = some c31 := by kernel_rfl
noncomputable def c32 : AFunc := ⟨[0, 1, 2, 6, 7, 8, 12, 25, 54], [.tmp 3],
 .seq (.region [] [(3, (.const (.slice none 0 0)))])
 (.seq (.seq (.region [⟨.bin .add (.tmp 1) (.const (.int .i64 1)), none, 0⟩, ⟨.bin .eql (.tmp 2) (.loc 0), none, 0⟩] [(6, (.loc 0))])
  (.cond (.tmp 6)
   (.seq (.draw [⟨.iaddr 2 (.tmp 0) (.tmp 1), none, 0⟩, ⟨.load (some 2) (.loc 0), none, 0⟩, ⟨.iaddr 2 (.tmp 0) (.tmp 2), none, 0⟩, ⟨.load (some 2) (.loc 0), none, 0⟩, ⟨.mkarr 2 [(.int .i64 0), (.int .i64 0), (.int .i64 0), (.int .i64 0)] [(0, 2, (.loc 2)), (2, 2, (.loc 0))], none, 0⟩] [(3, (.loc 0))])
    (.ret))
   (.skip)))
 (.seq (.region [] [(4, (.const (.int .i64 0)))])
 (.seq (.seq (.region [] [(5, (.const (.int .i64 0)))])
  (.block 0 (.loop (.seq (.seq (.region [⟨.len (.tmp 0), none, 0⟩, ⟨.bin .lss (.tmp 5) (.loc 0), none, 0⟩] [(7, (.loc 0))])
   (.cond (.tmp 7)
    (.skip)
    (.exit 0)))
   (.seq (.block 1 (.seq (.region [⟨.bin .geq (.tmp 5) (.tmp 1), none, 0⟩, ⟨.mov (.tmp 5), (some ((.loc 0), true)), 0⟩, ⟨.mov (.tmp 2), (some ((.loc 1), true)), 0⟩, ⟨.bin .leq (.loc 1) (.loc 0), (some ((.loc 2), true)), 0⟩, ⟨.pick (.loc 3) (.loc 0) (.const (.bool false)), none, 0⟩, ⟨.mov (.tmp 5), (some ((.loc 0), false)), 0⟩, ⟨.mov (.tmp 2), (some ((.loc 1), false)), 0⟩, ⟨.bin .geq (.loc 1) (.loc 0), (some ((.loc 2), false)), 0⟩, ⟨.mov (.loc 0), (some ((.loc 3), false)), 0⟩, ⟨.mov (.tmp 5), (some ((.loc 0), true)), 0⟩, ⟨.mov (.tmp 1), (some ((.loc 1), true)), 0⟩, ⟨.bin .leq (.loc 1) (.loc 0), (some ((.loc 2), true)), 0⟩, ⟨.pick (.loc 3) (.loc 0) (.const (.bool false)), (some ((.loc 7), false)), 0⟩, ⟨.pick (.loc 8) (.const (.bool true)) (.loc 0), none, 0⟩, ⟨.mov (.tmp 0), (some ((.loc 0), true)), 0⟩, ⟨.mov (.tmp 5), (some ((.loc 1), true)), 0⟩, ⟨.iaddr 2 (.loc 1) (.loc 0), (some ((.loc 2), true)), 0⟩, ⟨.faddr 0 (.loc 0), (some ((.loc 3), true)), 0⟩, ⟨.load none (.loc 0), (some ((.loc 4), true)), 0⟩, ⟨.mov (.tmp 4), (some ((.loc 5), true)), 0⟩, ⟨.bin .geq (.loc 1) (.loc 0), (some ((.loc 6), true)), 0⟩, ⟨.pick (.loc 7) (.loc 0) (.const (.bool false)), none, 0⟩] [(8, (.loc 0))])
    (.cond (.tmp 8)
     (.region [⟨.iaddr 2 (.tmp 0) (.tmp 5), none, 0⟩, ⟨.faddr 0 (.loc 0), none, 0⟩, ⟨.load none (.loc 0), none, 0⟩, ⟨.bin .add (.loc 0) (.const (.int .i64 1)), none, 0⟩] [(4, (.loc 0))])
     (.skip))))
   (.region [⟨.bin .add (.tmp 5) (.const (.int .i64 1)), none, 0⟩] [(5, (.loc 0))]))))))
 (.seq (.draw [⟨.iaddr 2 (.tmp 0) (.tmp 1), none, 0⟩, ⟨.load (some 2) (.loc 0), none, 0⟩, ⟨.flat (.un .neg) [(.tmp 1)], none, 0⟩, ⟨.build [(.int .i64 0), (.int .i64 0)] [(0, 1, (.tmp 4)), (1, 1, (.loc 0))], none, 0⟩, ⟨.flat (.un .neg) [(.tmp 2)], none, 0⟩, ⟨.build [(.int .i64 0), (.int .i64 0)] [(0, 1, (.tmp 4)), (1, 1, (.loc 0))], none, 0⟩, ⟨.iaddr 2 (.tmp 0) (.tmp 2), none, 0⟩, ⟨.load (some 2) (.loc 0), none, 0⟩, ⟨.mkarr 4 [(.int .i64 0), (.int .i64 0), (.int .i64 0), (.int .i64 0), (.int .i64 0), (.int .i64 0), (.int .i64 0), (.int .i64 0)] [(0, 2, (.loc 6)), (2, 2, (.loc 4)), (4, 2, (.loc 2)), (6, 2, (.loc 0))], none, 0⟩] [(3, (.loc 0))])
 (.ret)))))⟩
theorem c32_ok : compileFn Try.prog false 32 = some c32 := by kernel_rfl
noncomputable def c33 : AFunc := ⟨[0, 1, 2, 3, 4, 9], [.tmp 2],
 .seq (.region [⟨.box (.tmp 0), none, 0⟩] [(1, (.loc 0)), (2, (.const (.slice none 0 0)))])
 (.seq (.region [] [(3, (.const (.slice none 0 0)))])
 (.seq (.seq (.region [] [(4, (.const (.int .i64 0)))])
  (.block 0 (.loop (.seq (.seq (.region [⟨.faddr 5 (.tmp 1), none, 0⟩, ⟨.load none (.loc 0), none, 0⟩, ⟨.len (.loc 0), none, 0⟩, ⟨.bin .leq (.tmp 4) (.loc 0), none, 0⟩] [(5, (.loc 0))])
   (.cond (.tmp 5)
    (.skip)
    (.exit 0)))
   (.seq (.block 1 (.region [⟨.load (some 6) (.tmp 1), none, 0⟩, ⟨.call (.func 51) [(.loc 0), (.tmp 4)], none, 0⟩, ⟨.len (.loc 0), none, 0⟩, ⟨.flat (.un .neg) [(.tmp 4)], none, 0⟩, ⟨.build [(.int .i64 0), (.int .i64 0)] [(0, 1, (.loc 1)), (1, 1, (.loc 0))], none, 0⟩, ⟨.mkarr 1 [(.int .i64 0), (.int .i64 0)] [(0, 2, (.loc 0))], none, 0⟩, ⟨.append false 2 16 (.tmp 3) (.loc 0), none, 0⟩] [(3, (.loc 0))]))
   (.region [⟨.bin .add (.tmp 4) (.const (.int .i64 1)), none, 0⟩] [(4, (.loc 0))]))))))
 (.seq (.region [] [(2, (.tmp 3))])
 (.ret))))⟩
theorem c33_ok : compileFn Try.prog false 33 = some c33 := by kernel_rfl
noncomputable def c34 : AFunc := ⟨[0, 1, 3, 4], [.tmp 3],
 .seq (.region [⟨.box (.tmp 1), none, 0⟩] [(2, (.loc 0)), (3, (.const (.bool false)))])
 (.seq (.region [⟨.faddr 0 (.tmp 2), none, 0⟩, ⟨.load none (.loc 0), none, 0⟩, ⟨.flat (.conv 3 33) [(.loc 0)], none, 0⟩, ⟨.faddr 1 (.tmp 2), none, 0⟩, ⟨.load none (.loc 0), none, 0⟩, ⟨.flat (.conv 3 33) [(.loc 0)], none, 0⟩, ⟨.flat (.cplx #[33, 33] 32) [(.loc 3), (.loc 0)], none, 0⟩, ⟨.flat (.bin .eql 32 (.tmp 5) (.tmp 12)) [(.tmp 0), (.loc 0)], none, 0⟩] [(3, (.loc 0))])
 (.ret))⟩
theorem c34_ok : compileFn Try.prog false 34 = some c34 := by kernel_rfl
noncomputable def c35 : AFunc := ⟨[0, 2], [.tmp 1],
 .seq (.region [] [(1, (.const (.float .f64 0)))])
 (.seq (.region [⟨.xt 53 [(.tmp 0)], none, 0⟩, ⟨.bin .andNot (.loc 0) (.const (.int .u64 9223372036854775808)), none, 0⟩, ⟨.xt 52 [(.loc 0)], none, 0⟩] [(1, (.loc 0))])
 (.ret))⟩
theorem c35_ok : compileFn Try.prog false 35 = some c35 := by kernel_rfl
noncomputable def c36 : AFunc := ⟨[0, 2, 4], [.tmp 1],
 .seq (.region [] [(1, (.const (.int .i64 0)))])
 (.seq (.seq (.region [⟨.bin .lss (.tmp 0) (.const (.int .i64 0)), none, 0⟩] [(2, (.loc 0))])
  (.cond (.tmp 2)
   (.seq (.region [⟨.flat (.un .neg) [(.tmp 0)], none, 0⟩] [(1, (.loc 0))])
    (.ret))
   (.skip)))
 (.seq (.region [] [(1, (.tmp 0))])
 (.ret)))⟩
theorem c36_ok : compileFn Try.prog false 36 = some c36 := by kernel_rfl
noncomputable def c37 : AFunc := ⟨[0, 1, 4, 5, 9], [.tmp 2],
 .seq (.region [] [(2, (.const (.bool false)))])
 (.seq (.seq (.region [⟨.call (.func 54) [(.tmp 0), (.tmp 1)], none, 0⟩, ⟨.not (.loc 0), none, 0⟩] [(4, (.loc 0))])
  (.cond (.tmp 4)
   (.seq (.region [] [(2, (.const (.bool false)))])
    (.ret))
   (.skip)))
 (.seq (.region [⟨.len (.tmp 0), none, 0⟩, ⟨.bin .add (.loc 0) (.const (.int .i64 1)), none, 0⟩, ⟨.slice 1 (.tmp 0) none (some (.loc 0)) none, none, 0⟩] [(3, (.loc 0))])
 (.seq (.region [⟨.len (.tmp 0), none, 0⟩, ⟨.iaddr 1 (.tmp 3) (.loc 0), none, 0⟩, ⟨.load none (.loc 0), none, 0⟩, ⟨.bin .eql (.loc 0) (.const (.int .u64 7171)), none, 0⟩] [(2, (.loc 0))])
 (.ret))))⟩
theorem c37_ok : compileFn Try.prog false 37 = some c37 := by kernel_rfl
noncomputable def c38 : AFunc := ⟨[0, 1, 4, 5, 9], [.tmp 2],
 .seq (.region [] [(2, (.const (.bool false)))])
 (.seq (.seq (.region [⟨.call (.func 55) [(.tmp 0), (.tmp 1)], none, 0⟩, ⟨.not (.loc 0), none, 0⟩] [(4, (.loc 0))])
  (.cond (.tmp 4)
   (.seq (.region [] [(2, (.const (.bool false)))])
    (.ret))
   (.skip)))
 (.seq (.region [⟨.len (.tmp 0), none, 0⟩, ⟨.bin .add (.loc 0) (.const (.int .i64 1)), none, 0⟩, ⟨.slice 2 (.tmp 0) none (some (.loc 0)) none, none, 0⟩] [(3, (.loc 0))])
 (.seq (.region [⟨.len (.tmp 0), none, 0⟩, ⟨.iaddr 2 (.tmp 3) (.loc 0), none, 0⟩, ⟨.load (some 2) (.loc 0), none, 0⟩, ⟨.build [(.int .i64 0), (.int .i64 0)] [(0, 1, (.const (.int .i64 (-71))))], none, 0⟩, ⟨.flat (.bin .eql 83 (.tmp 19) (.tmp 20)) [(.loc 1), (.loc 0)], none, 0⟩] [(2, (.loc 0))])
 (.ret))))⟩
theorem c38_ok : compileFn Try.prog false 38 = some c38 := by kernel_rfl
noncomputable abbrev c40 : AFunc := ChartAwake.c40
noncomputable abbrev c41 : AFunc := ChartAwake.c41
noncomputable abbrev c42 : AFunc := ChartAwake.c42
noncomputable abbrev c44 : AFunc := ChartAwake.c44
noncomputable abbrev c45 : AFunc := ChartAwake.c45
noncomputable abbrev c46 : AFunc := ChartAwake.c46
noncomputable abbrev c48 : AFunc := ChartAwake.c48
noncomputable abbrev c49 : AFunc := ChartAwake.c49
noncomputable abbrev c50 : AFunc := ChartAwake.c50
noncomputable def c51 : AFunc := ⟨[0, 1, 2, 4, 5, 6, 11, 17], [.tmp 3],
 .seq (.region [⟨.box (.tmp 0), none, 0⟩] [(2, (.loc 0)), (3, (.const (.slice none 0 0)))])
 (.seq (.region [] [(4, (.const (.slice none 0 0)))])
 (.seq (.seq (.region [] [(5, (.const (.int .i64 0)))])
  (.block 0 (.loop (.seq (.seq (.region [⟨.faddr 5 (.tmp 2), none, 0⟩, ⟨.load none (.loc 0), none, 0⟩, ⟨.len (.loc 0), none, 0⟩, ⟨.bin .lss (.tmp 5) (.loc 0), none, 0⟩] [(6, (.loc 0))])
   (.cond (.tmp 6)
    (.skip)
    (.exit 0)))
   (.seq (.block 1 (.seq (.region [⟨.load (some 6) (.tmp 2), none, 0⟩, ⟨.call (.func 63) [(.loc 0), (.tmp 1), (.tmp 5)], none, 0⟩] [(7, (.loc 0))])
    (.cond (.tmp 7)
     (.region [⟨.mkarr 1 [(.int .i64 0)] [(0, 1, (.tmp 5))], none, 0⟩, ⟨.append false 1 8 (.tmp 4) (.loc 0), none, 0⟩] [(4, (.loc 0))])
     (.skip))))
   (.region [⟨.bin .add (.tmp 5) (.const (.int .i64 1)), none, 0⟩] [(5, (.loc 0))]))))))
 (.seq (.region [] [(3, (.tmp 4))])
 (.ret))))⟩
theorem c51_ok : compileFn Try.prog false 51 = some c51 := by kernel_rfl
noncomputable def c54 : AFunc := ⟨[0, 1, 4, 5, 10, 14, 25], [.tmp 2],
 .seq (.region [] [(2, (.const (.bool false)))])
 (.seq (.seq (.region [⟨.len (.tmp 0), none, 0⟩, ⟨.len (.tmp 1), none, 0⟩, ⟨.bin .neq (.loc 1) (.loc 0), none, 0⟩] [(4, (.loc 0))])
  (.cond (.tmp 4)
   (.seq (.region [] [(2, (.const (.bool false)))])
    (.ret))
   (.skip)))
 (.seq (.seq (.region [] [(3, (.const (.int .i64 0)))])
  (.block 0 (.loop (.seq (.seq (.region [⟨.len (.tmp 0), none, 0⟩, ⟨.bin .lss (.tmp 3) (.loc 0), none, 0⟩] [(5, (.loc 0))])
   (.cond (.tmp 5)
    (.skip)
    (.exit 0)))
   (.seq (.block 1 (.seq (.draw [⟨.iaddr 1 (.tmp 0) (.tmp 3), none, 0⟩, ⟨.load none (.loc 0), none, 0⟩, ⟨.iaddr 1 (.tmp 1) (.tmp 3), none, 0⟩, ⟨.load none (.loc 0), none, 0⟩, ⟨.bin .neq (.loc 2) (.loc 0), none, 0⟩] [(6, (.loc 0))])
    (.cond (.tmp 6)
     (.seq (.region [] [(2, (.const (.bool false)))])
      (.ret))
     (.skip))))
   (.region [⟨.bin .add (.tmp 3) (.const (.int .i64 1)), none, 0⟩] [(3, (.loc 0))]))))))
 (.seq (.region [] [(2, (.const (.bool true)))])
 (.ret))))⟩
theorem c54_ok : compileFn Try.prog false 54 = some c54 := by kernel_rfl
noncomputable def c55 : AFunc := ⟨[0, 1, 4, 5, 10, 14, 25], [.tmp 2],
 .seq (.region [] [(2, (.const (.bool false)))])
 (.seq (.seq (.region [⟨.len (.tmp 0), none, 0⟩, ⟨.len (.tmp 1), none, 0⟩, ⟨.bin .neq (.loc 1) (.loc 0), none, 0⟩] [(4, (.loc 0))])
  (.cond (.tmp 4)
   (.seq (.region [] [(2, (.const (.bool false)))])
    (.ret))
   (.skip)))
 (.seq (.seq (.region [] [(3, (.const (.int .i64 0)))])
  (.block 0 (.loop (.seq (.seq (.region [⟨.len (.tmp 0), none, 0⟩, ⟨.bin .lss (.tmp 3) (.loc 0), none, 0⟩] [(5, (.loc 0))])
   (.cond (.tmp 5)
    (.skip)
    (.exit 0)))
   (.seq (.block 1 (.seq (.draw [⟨.iaddr 2 (.tmp 0) (.tmp 3), none, 0⟩, ⟨.load (some 2) (.loc 0), none, 0⟩, ⟨.iaddr 2 (.tmp 1) (.tmp 3), none, 0⟩, ⟨.load (some 2) (.loc 0), none, 0⟩, ⟨.flat (.bin .neq 83 (.tmp 20) (.tmp 24)) [(.loc 2), (.loc 0)], none, 0⟩] [(6, (.loc 0))])
    (.cond (.tmp 6)
     (.seq (.region [] [(2, (.const (.bool false)))])
      (.ret))
     (.skip))))
   (.region [⟨.bin .add (.tmp 3) (.const (.int .i64 1)), none, 0⟩] [(3, (.loc 0))]))))))
 (.seq (.region [] [(2, (.const (.bool true)))])
 (.ret))))⟩
theorem c55_ok : compileFn Try.prog false 55 = some c55 := by kernel_rfl
noncomputable abbrev c56 : AFunc := ChartAwake.c56
noncomputable abbrev c57 : AFunc := ChartAwake.c57
noncomputable abbrev c58 : AFunc := ChartAwake.c58
noncomputable abbrev c59 : AFunc := ChartAwake.c59
noncomputable abbrev c60 : AFunc := ChartAwake.c60
noncomputable abbrev c61 : AFunc := ChartAwake.c61
noncomputable abbrev c62 : AFunc := ChartAwake.c62
noncomputable def c63 : AFunc := ⟨[0, 1, 2, 3, 6, 7, 8, 9, 10, 11, 12, 31, 39, 46, 59], [.tmp 4],
 .seq (.region [⟨.box (.tmp 0), none, 0⟩] [(3, (.loc 0)), (4, (.const (.bool false)))])
 (.seq (.region [⟨.faddr 5 (.tmp 3), none, 0⟩, ⟨.load none (.loc 0), none, 0⟩, ⟨.len (.loc 0), none, 0⟩] [(5, (.loc 0))])
 (.seq (.seq (.region [⟨.bin .lss (.tmp 1) (.const (.int .i64 0)), none, 0⟩, ⟨.mov (.tmp 1), (some ((.loc 0), false)), 0⟩, ⟨.mov (.tmp 5), (some ((.loc 1), false)), 0⟩, ⟨.bin .geq (.loc 1) (.loc 0), (some ((.loc 2), false)), 0⟩, ⟨.pick (.loc 3) (.const (.bool true)) (.loc 0), none, 0⟩, ⟨.mov (.tmp 2), (some ((.loc 0), false)), 0⟩, ⟨.bin .lss (.loc 0) (.const (.int .i64 0)), (some ((.loc 1), false)), 0⟩, ⟨.pick (.loc 2) (.const (.bool true)) (.loc 0), none, 0⟩, ⟨.mov (.tmp 2), (some ((.loc 0), false)), 0⟩, ⟨.mov (.tmp 5), (some ((.loc 1), false)), 0⟩, ⟨.bin .geq (.loc 1) (.loc 0), (some ((.loc 2), false)), 0⟩, ⟨.pick (.loc 3) (.const (.bool true)) (.loc 0), none, 0⟩] [(11, (.loc 0))])
  (.cond (.tmp 11)
   (.seq (.region [] [(4, (.const (.bool false)))])
    (.ret))
   (.skip)))
 (.seq (.region [⟨.load (some 6) (.tmp 3), none, 0⟩, ⟨.call (.func 69) [(.loc 0), (.tmp 2)], none, 0⟩, ⟨.ext (.loc 0) 0, none, 0⟩, ⟨.ext (.loc 1) 1, none, 0⟩] [(6, (.loc 1)), (7, (.loc 0))])
 (.seq (.seq (.region [⟨.not (.tmp 7), none, 0⟩] [(12, (.loc 0))])
  (.cond (.tmp 12)
   (.seq (.region [] [(4, (.const (.bool false)))])
    (.ret))
   (.skip)))
 (.seq (.region [⟨.load (some 6) (.tmp 3), none, 0⟩, ⟨.call (.func 70) [(.loc 0), (.tmp 2)], none, 0⟩] [(8, (.loc 0))])
 (.seq (.seq (.region [] [(9, (.const (.int .i64 0)))])
  (.block 0 (.loop (.seq (.seq (.region [⟨.len (.tmp 8), none, 0⟩, ⟨.bin .lss (.tmp 9) (.loc 0), none, 0⟩] [(13, (.loc 0))])
   (.cond (.tmp 13)
    (.skip)
    (.exit 0)))
   (.seq (.block 1 (.seq (.draw [⟨.load (some 6) (.tmp 3), none, 0⟩, ⟨.iaddr 1 (.tmp 8) (.tmp 9), none, 0⟩, ⟨.load none (.loc 0), none, 0⟩, ⟨.call (.func 71) [(.loc 2), (.loc 0), (.tmp 6)], none, 0⟩] [(10, (.loc 0))])
    (.seq (.region [⟨.iaddr 1 (.tmp 10) (.tmp 1), none, 0⟩, ⟨.load none (.loc 0), none, 0⟩] [(14, (.loc 0))])
    (.cond (.tmp 14)
     (.seq (.region [] [(4, (.const (.bool true)))])
      (.ret))
     (.skip)))))
   (.region [⟨.bin .add (.tmp 9) (.const (.int .i64 1)), none, 0⟩] [(9, (.loc 0))]))))))
 (.seq (.region [] [(4, (.const (.bool false)))])
 (.ret))))))))⟩
theorem c63_ok : compileFn Try.prog false 63 = some c63 := by kernel_rfl
noncomputable abbrev c64 : AFunc := ChartAwake.c64
noncomputable abbrev c65 : AFunc := ChartAwake.c65
noncomputable abbrev c66 : AFunc := ChartAwake.c66
noncomputable abbrev c67 : AFunc := ChartAwake.c67
noncomputable abbrev c68 : AFunc := ChartAwake.c68
noncomputable def c69 : AFunc := ⟨[0, 1, 2, 4, 5, 6, 7, 8, 9, 10, 15, 26, 34, 43, 56], [.tmp 3, .tmp 4],
 .seq (.region [⟨.box (.tmp 0), none, 0⟩] [(2, (.loc 0)), (3, (.const (.int .i64 0))), (4, (.const (.bool false)))])
 (.seq (.region [] [(5, (.const (.slice none 0 0)))])
 (.seq (.seq (.region [] [(6, (.const (.int .i64 0)))])
  (.block 0 (.loop (.seq (.seq (.region [⟨.faddr 5 (.tmp 2), none, 0⟩, ⟨.load none (.loc 0), none, 0⟩, ⟨.len (.loc 0), none, 0⟩, ⟨.bin .leq (.tmp 6) (.loc 0), none, 0⟩] [(10, (.loc 0))])
   (.cond (.tmp 10)
    (.skip)
    (.exit 0)))
   (.seq (.block 1 (.seq (.region [⟨.bin .neq (.tmp 6) (.tmp 1), none, 0⟩, ⟨.load (some 6) (.tmp 2), (some ((.loc 0), true)), 0⟩, ⟨.mov (.tmp 6), (some ((.loc 1), true)), 0⟩, ⟨.mov (.tmp 1), (some ((.loc 2), true)), 0⟩, ⟨.call (.func 84) [(.loc 2), (.loc 1), (.loc 0)], (some ((.loc 3), true)), 0⟩, ⟨.pick (.loc 4) (.loc 0) (.const (.bool false)), none, 0⟩] [(11, (.loc 0))])
    (.cond (.tmp 11)
     (.region [⟨.mkarr 1 [(.int .i64 0)] [(0, 1, (.tmp 6))], none, 0⟩, ⟨.append false 1 8 (.tmp 5) (.loc 0), none, 0⟩] [(5, (.loc 0))])
     (.skip))))
   (.region [⟨.bin .add (.tmp 6) (.const (.int .i64 1)), none, 0⟩] [(6, (.loc 0))]))))))
 (.seq (.seq (.region [] [(7, (.const (.int .i64 0)))])
  (.block 2 (.loop (.seq (.seq (.region [⟨.len (.tmp 5), none, 0⟩, ⟨.bin .lss (.tmp 7) (.loc 0), none, 0⟩] [(12, (.loc 0))])
   (.cond (.tmp 12)
    (.skip)
    (.exit 2)))
   (.seq (.block 3 (.seq (.region [] [(8, (.const (.bool true)))])
    (.seq (.seq (.region [] [(9, (.const (.int .i64 0)))])
     (.block 4 (.loop (.seq (.seq (.region [⟨.len (.tmp 5), none, 0⟩, ⟨.bin .lss (.tmp 9) (.loc 0), none, 0⟩, ⟨.mov (.tmp 8), (some ((.loc 0), true)), 0⟩, ⟨.pick (.loc 1) (.loc 0) (.const (.bool false)), none, 0⟩] [(13, (.loc 0))])
      (.cond (.tmp 13)
       (.skip)
       (.exit 4)))
      (.seq (.block 5 (.draw [⟨.load (some 6) (.tmp 2), none, 0⟩, ⟨.iaddr 1 (.tmp 5) (.tmp 9), none, 0⟩, ⟨.load none (.loc 0), none, 0⟩, ⟨.iaddr 1 (.tmp 5) (.tmp 7), none, 0⟩, ⟨.load none (.loc 0), none, 0⟩, ⟨.call (.func 84) [(.loc 4), (.loc 2), (.loc 0)], none, 0⟩] [(8, (.loc 0))]))
      (.region [⟨.bin .add (.tmp 9) (.const (.int .i64 1)), none, 0⟩] [(9, (.loc 0))]))))))
    (.seq (.region [] [(14, (.tmp 8))])
    (.cond (.tmp 14)
     (.seq (.region [⟨.iaddr 1 (.tmp 5) (.tmp 7), none, 0⟩, ⟨.load none (.loc 0), none, 0⟩] [(3, (.loc 0)), (4, (.const (.bool true)))])
      (.ret))
     (.skip))))))
   (.region [⟨.bin .add (.tmp 7) (.const (.int .i64 1)), none, 0⟩] [(7, (.loc 0))]))))))
 (.seq (.region [] [(3, (.const (.int .i64 0))), (4, (.const (.bool false)))])
 (.ret)))))⟩
theorem c69_ok : compileFn Try.prog false 69 = some c69 := by kernel_rfl
noncomputable def c70 : AFunc := ⟨[0, 1, 2, 4, 5, 6, 7, 8, 18, 29, 30, 50, 63, 65, 71, 76, 88], [.tmp 3],
 .seq (.region [⟨.box (.tmp 0), none, 0⟩] [(2, (.loc 0)), (3, (.const (.slice none 0 0)))])
 (.seq (.region [] [(4, (.const (.slice none 0 0)))])
 (.seq (.region [⟨.faddr 5 (.tmp 2), none, 0⟩, ⟨.load none (.loc 0), none, 0⟩, ⟨.len (.loc 0), none, 0⟩] [(5, (.loc 0))])
 (.seq (.seq (.region [⟨.bin .lss (.tmp 1) (.const (.int .i64 0)), none, 0⟩, ⟨.mov (.tmp 1), (some ((.loc 0), false)), 0⟩, ⟨.mov (.tmp 5), (some ((.loc 1), false)), 0⟩, ⟨.bin .geq (.loc 1) (.loc 0), (some ((.loc 2), false)), 0⟩, ⟨.pick (.loc 3) (.const (.bool true)) (.loc 0), none, 0⟩] [(8, (.loc 0))])
  (.cond (.tmp 8)
   (.seq (.region [] [(3, (.tmp 4))])
    (.ret))
   (.skip)))
 (.seq (.region [⟨.bin .add (.tmp 1) (.const (.int .i64 1)), none, 0⟩] [(6, (.loc 0))])
 (.seq (.region [⟨.bin .add (.tmp 1) (.const (.int .i64 1)), none, 0⟩] [(7, (.loc 0))])
 (.seq (.seq (.region [⟨.faddr 5 (.tmp 2), none, 0⟩, ⟨.load none (.loc 0), none, 0⟩, ⟨.iaddr 2 (.loc 0) (.tmp 1), none, 0⟩, ⟨.faddr 0 (.loc 0), none, 0⟩, ⟨.load none (.loc 0), none, 0⟩] [(9, (.loc 0))])
  (.block 0 (.seq (.seq (.region [⟨.bin .eql (.tmp 9) (.const (.int .i64 43)), none, 0⟩] [(10, (.loc 0))])
   (.cond (.tmp 10)
    (.skip)
    (.region [⟨.bin .eql (.tmp 9) (.const (.int .i64 44)), none, 0⟩] [(10, (.loc 0))])))
  (.cond (.tmp 10)
   (.seq (.region [] [(7, (.tmp 5))])
    (.seq (.seq (.region [⟨.faddr 5 (.tmp 2), none, 0⟩, ⟨.load none (.loc 0), none, 0⟩, ⟨.iaddr 2 (.loc 0) (.tmp 1), none, 0⟩, ⟨.faddr 1 (.loc 0), none, 0⟩, ⟨.load none (.loc 0), none, 0⟩, ⟨.bin .geq (.loc 0) (.const (.int .i64 0)), none, 0⟩, ⟨.faddr 5 (.tmp 2), (some ((.loc 0), true)), 0⟩, ⟨.load none (.loc 0), (some ((.loc 1), true)), 0⟩, ⟨.mov (.tmp 1), (some ((.loc 2), true)), 0⟩, ⟨.iaddr 2 (.loc 1) (.loc 0), (some ((.loc 3), true)), 0⟩, ⟨.faddr 1 (.loc 0), (some ((.loc 4), true)), 0⟩, ⟨.load none (.loc 0), (some ((.loc 5), true)), 0⟩, ⟨.mov (.tmp 5), (some ((.loc 6), true)), 0⟩, ⟨.bin .lss (.loc 1) (.loc 0), (some ((.loc 7), true)), 0⟩, ⟨.pick (.loc 8) (.loc 0) (.const (.bool false)), none, 0⟩] [(11, (.loc 0))])
     (.cond (.tmp 11)
      (.region [⟨.faddr 5 (.tmp 2), none, 0⟩, ⟨.load none (.loc 0), none, 0⟩, ⟨.iaddr 2 (.loc 0) (.tmp 1), none, 0⟩, ⟨.faddr 1 (.loc 0), none, 0⟩, ⟨.load none (.loc 0), none, 0⟩] [(7, (.loc 0))])
      (.skip)))
    (.seq (.region [⟨.faddr 5 (.tmp 2), none, 0⟩, ⟨.load none (.loc 0), none, 0⟩, ⟨.iaddr 2 (.loc 0) (.tmp 1), none, 0⟩, ⟨.faddr 0 (.loc 0), none, 0⟩, ⟨.load none (.loc 0), none, 0⟩, ⟨.bin .eql (.loc 0) (.const (.int .i64 43)), none, 0⟩] [(12, (.loc 0))])
    (.cond (.tmp 12)
     (.region [] [(6, (.tmp 7))])
     (.skip)))))
   (.seq (.region [⟨.bin .eql (.tmp 9) (.const (.int .i64 46)), none, 0⟩] [(13, (.loc 0))])
    (.cond (.tmp 13)
     (.seq (.region [⟨.mkarr 1 [(.int .i64 0)] [(0, 1, (.tmp 5))], none, 0⟩] [(3, (.loc 0))])
      (.ret))
     (.skip)))))))
 (.seq (.seq (.region [⟨.bin .gtr (.tmp 6) (.tmp 7), none, 0⟩] [(14, (.loc 0))])
  (.cond (.tmp 14)
   (.region [] [(6, (.tmp 7)), (7, (.tmp 6))])
   (.skip)))
 (.seq (.seq (.region [⟨.bin .lss (.tmp 6) (.tmp 5), none, 0⟩] [(15, (.loc 0))])
  (.cond (.tmp 15)
   (.region [⟨.mkarr 1 [(.int .i64 0)] [(0, 1, (.tmp 6))], none, 0⟩, ⟨.append false 1 8 (.tmp 4) (.loc 0), none, 0⟩] [(4, (.loc 0))])
   (.skip)))
 (.seq (.seq (.region [⟨.bin .lss (.tmp 7) (.tmp 5), none, 0⟩, ⟨.mov (.tmp 7), (some ((.loc 0), true)), 0⟩, ⟨.mov (.tmp 6), (some ((.loc 1), true)), 0⟩, ⟨.bin .neq (.loc 1) (.loc 0), (some ((.loc 2), true)), 0⟩, ⟨.pick (.loc 3) (.loc 0) (.const (.bool false)), none, 0⟩] [(16, (.loc 0))])
  (.cond (.tmp 16)
   (.region [⟨.mkarr 1 [(.int .i64 0)] [(0, 1, (.tmp 7))], none, 0⟩, ⟨.append false 1 8 (.tmp 4) (.loc 0), none, 0⟩] [(4, (.loc 0))])
   (.skip)))
 (.seq (.region [] [(3, (.tmp 4))])
 (.ret)))))))))))⟩
theorem c70_ok : compileFn Try.prog false 70 = some c70 := by kernel_rfl
noncomputable def c71 : AFunc := ⟨[0, 1, 2, 3, 6, 7, 8, 9, 10, 11, 12, 30, 40, 52, 70], [.tmp 4],
 .seq (.region [⟨.box (.tmp 0), none, 0⟩] [(3, (.loc 0)), (4, (.const (.slice none 0 0)))])
 (.seq (.region [⟨.faddr 5 (.tmp 3), none, 0⟩, ⟨.load none (.loc 0), none, 0⟩, ⟨.len (.loc 0), none, 0⟩, ⟨.bin .add (.loc 0) (.const (.int .i64 1)), none, 0⟩] [(5, (.loc 0))])
 (.seq (.region [⟨.mkslice [(.bool false)] 1 (.tmp 5) (.tmp 5), none, 0⟩] [(6, (.loc 0))])
 (.seq (.seq (.region [⟨.bin .lss (.tmp 1) (.const (.int .i64 0)), none, 0⟩, ⟨.mov (.tmp 1), (some ((.loc 0), false)), 0⟩, ⟨.mov (.tmp 5), (some ((.loc 1), false)), 0⟩, ⟨.bin .geq (.loc 1) (.loc 0), (some ((.loc 2), false)), 0⟩, ⟨.pick (.loc 3) (.const (.bool true)) (.loc 0), none, 0⟩, ⟨.mov (.tmp 1), (some ((.loc 0), false)), 0⟩, ⟨.mov (.tmp 2), (some ((.loc 1), false)), 0⟩, ⟨.bin .eql (.loc 1) (.loc 0), (some ((.loc 2), false)), 0⟩, ⟨.pick (.loc 3) (.const (.bool true)) (.loc 0), none, 0⟩] [(11, (.loc 0))])
  (.cond (.tmp 11)
   (.seq (.region [] [(4, (.tmp 6))])
    (.ret))
   (.skip)))
 (.seq (.region [⟨.iaddr 1 (.tmp 6) (.tmp 1), none, 0⟩, ⟨.store 1 (.loc 0) (.const (.bool true)), none, 0⟩] [])
 (.seq (.region [⟨.mkarr 1 [(.int .i64 0)] [(0, 1, (.tmp 1))], none, 0⟩] [(7, (.loc 0))])
 (.seq (.seq (.region [] [(8, (.const (.int .i64 0)))])
  (.block 0 (.loop (.seq (.seq (.region [⟨.len (.tmp 7), none, 0⟩, ⟨.bin .lss (.tmp 8) (.loc 0), none, 0⟩] [(12, (.loc 0))])
   (.cond (.tmp 12)
    (.skip)
    (.exit 0)))
   (.seq (.block 1 (.seq (.draw [⟨.load (some 6) (.tmp 3), none, 0⟩, ⟨.iaddr 1 (.tmp 7) (.tmp 8), none, 0⟩, ⟨.load none (.loc 0), none, 0⟩, ⟨.call (.func 70) [(.loc 2), (.loc 0)], none, 0⟩] [(9, (.loc 0))])
    (.seq (.region [] [(10, (.const (.int .i64 0)))])
    (.block 2 (.loop (.seq (.seq (.region [⟨.len (.tmp 9), none, 0⟩, ⟨.bin .lss (.tmp 10) (.loc 0), none, 0⟩] [(13, (.loc 0))])
     (.cond (.tmp 13)
      (.skip)
      (.exit 2)))
     (.seq (.block 3 (.seq (.region [⟨.iaddr 1 (.tmp 9) (.tmp 10), none, 0⟩, ⟨.load none (.loc 0), none, 0⟩, ⟨.iaddr 1 (.tmp 6) (.loc 0), none, 0⟩, ⟨.load none (.loc 0), none, 0⟩, ⟨.not (.loc 0), none, 0⟩, ⟨.mov (.tmp 9), (some ((.loc 0), true)), 0⟩, ⟨.mov (.tmp 10), (some ((.loc 1), true)), 0⟩, ⟨.iaddr 1 (.loc 1) (.loc 0), (some ((.loc 2), true)), 0⟩, ⟨.load none (.loc 0), (some ((.loc 3), true)), 0⟩, ⟨.mov (.tmp 2), (some ((.loc 4), true)), 0⟩, ⟨.bin .neq (.loc 1) (.loc 0), (some ((.loc 5), true)), 0⟩, ⟨.pick (.loc 6) (.loc 0) (.const (.bool false)), none, 0⟩] [(14, (.loc 0))])
      (.cond (.tmp 14)
       (.seq (.region [⟨.iaddr 1 (.tmp 9) (.tmp 10), none, 0⟩, ⟨.load none (.loc 0), none, 0⟩, ⟨.iaddr 1 (.tmp 6) (.loc 0), none, 0⟩, ⟨.store 1 (.loc 0) (.const (.bool true)), none, 0⟩] [])
        (.region [⟨.iaddr 1 (.tmp 9) (.tmp 10), none, 0⟩, ⟨.load none (.loc 0), none, 0⟩, ⟨.mkarr 1 [(.int .i64 0)] [(0, 1, (.loc 0))], none, 0⟩, ⟨.append false 1 8 (.tmp 7) (.loc 0), none, 0⟩] [(7, (.loc 0))]))
       (.skip))))
     (.region [⟨.bin .add (.tmp 10) (.const (.int .i64 1)), none, 0⟩] [(10, (.loc 0))]))))))))
   (.region [⟨.bin .add (.tmp 8) (.const (.int .i64 1)), none, 0⟩] [(8, (.loc 0))]))))))
 (.seq (.region [] [(4, (.tmp 6))])
 (.ret))))))))⟩
theorem c71_ok : compileFn Try.prog false 71 = some c71 := by kernel_rfl
noncomputable abbrev c72 : AFunc := ChartAwake.c72
noncomputable abbrev c73 : AFunc := ChartAwake.c73
noncomputable abbrev c74 : AFunc := ChartAwake.c74
noncomputable abbrev c75 : AFunc := ChartAwake.c75
noncomputable abbrev c76 : AFunc := ChartAwake.c76
noncomputable abbrev c77 : AFunc := ChartAwake.c77
noncomputable abbrev c78 : AFunc := ChartAwake.c78
noncomputable abbrev c79 : AFunc := ChartAwake.c79
noncomputable abbrev c80 : AFunc := ChartAwake.c80
noncomputable abbrev c81 : AFunc := ChartAwake.c81
noncomputable abbrev c82 : AFunc := ChartAwake.c82
noncomputable abbrev c83 : AFunc := ChartAwake.c83
noncomputable def c84 : AFunc := ⟨[0, 1, 2, 3, 6, 7, 8, 9, 28, 36], [.tmp 4],
 .seq (.region [⟨.box (.tmp 0), none, 0⟩] [(3, (.loc 0)), (4, (.const (.bool false)))])
 (.seq (.region [⟨.faddr 5 (.tmp 3), none, 0⟩, ⟨.load none (.loc 0), none, 0⟩, ⟨.len (.loc 0), none, 0⟩] [(5, (.loc 0))])
 (.seq (.seq (.region [⟨.bin .lss (.tmp 1) (.const (.int .i64 0)), none, 0⟩, ⟨.mov (.tmp 1), (some ((.loc 0), false)), 0⟩, ⟨.mov (.tmp 5), (some ((.loc 1), false)), 0⟩, ⟨.bin .gtr (.loc 1) (.loc 0), (some ((.loc 2), false)), 0⟩, ⟨.pick (.loc 3) (.const (.bool true)) (.loc 0), none, 0⟩, ⟨.mov (.tmp 2), (some ((.loc 0), false)), 0⟩, ⟨.bin .lss (.loc 0) (.const (.int .i64 0)), (some ((.loc 1), false)), 0⟩, ⟨.pick (.loc 2) (.const (.bool true)) (.loc 0), none, 0⟩, ⟨.mov (.tmp 2), (some ((.loc 0), false)), 0⟩, ⟨.mov (.tmp 5), (some ((.loc 1), false)), 0⟩, ⟨.bin .gtr (.loc 1) (.loc 0), (some ((.loc 2), false)), 0⟩, ⟨.pick (.loc 3) (.const (.bool true)) (.loc 0), none, 0⟩] [(8, (.loc 0))])
  (.cond (.tmp 8)
   (.seq (.region [] [(4, (.const (.bool false)))])
    (.ret))
   (.skip)))
 (.seq (.region [⟨.load (some 6) (.tmp 3), none, 0⟩, ⟨.call (.func 91) [(.loc 0), (.tmp 2)], none, 0⟩] [(6, (.loc 0))])
 (.seq (.seq (.region [⟨.iaddr 1 (.tmp 6) (.tmp 5), none, 0⟩, ⟨.load none (.loc 0), none, 0⟩, ⟨.not (.loc 0), none, 0⟩] [(9, (.loc 0))])
  (.cond (.tmp 9)
   (.seq (.region [] [(4, (.const (.bool false)))])
    (.ret))
   (.skip)))
 (.seq (.region [⟨.load (some 6) (.tmp 3), none, 0⟩, ⟨.call (.func 71) [(.loc 0), (.tmp 2), (.tmp 1)], none, 0⟩] [(7, (.loc 0))])
 (.seq (.region [⟨.iaddr 1 (.tmp 7) (.tmp 5), none, 0⟩, ⟨.load none (.loc 0), none, 0⟩, ⟨.not (.loc 0), none, 0⟩] [(4, (.loc 0))])
 (.ret)))))))⟩
theorem c84_ok : compileFn Try.prog false 84 = some c84 := by kernel_rfl
noncomputable abbrev c85 : AFunc := ChartAwake.c85
noncomputable abbrev c86 : AFunc := ChartAwake.c86
noncomputable abbrev c87 : AFunc := ChartAwake.c87
noncomputable abbrev c88 : AFunc := ChartAwake.c88
noncomputable abbrev c89 : AFunc := ChartAwake.c89
noncomputable abbrev c90 : AFunc := ChartAwake.c90
noncomputable def c91 : AFunc := ⟨[0, 1, 2, 4], [.tmp 3],
 .seq (.region [⟨.box (.tmp 0), none, 0⟩] [(2, (.loc 0)), (3, (.const (.slice none 0 0)))])
 (.seq (.region [⟨.load (some 6) (.tmp 2), none, 0⟩, ⟨.call (.func 71) [(.loc 0), (.tmp 1), (.const (.int .i64 (-1)))], none, 0⟩] [(3, (.loc 0))])
 (.ret))⟩
theorem c91_ok : compileFn Try.prog false 91 = some c91 := by kernel_rfl
noncomputable abbrev c92 : AFunc := ChartAwake.c92
noncomputable def list : List (Option AFunc) := [none, none, none, none, some c4, none, none, none, none, none, some c10, some ChartAwake.c11, some c12, some c13, some c14, some c15, some c16, some c17, none, none, some ChartAwake.c20, none, none, none, some ChartAwake.c24, some ChartAwake.c25, none, some c27, some c28, some ChartAwake.c29, some ChartAwake.c30, some c31, some c32, some c33, some c34, some c35, some c36, some c37, some c38, none, some ChartAwake.c40, some ChartAwake.c41, some ChartAwake.c42, none, some ChartAwake.c44, some ChartAwake.c45, some ChartAwake.c46, none, some ChartAwake.c48, some ChartAwake.c49, some ChartAwake.c50, some c51, none, none, some c54, some c55, some ChartAwake.c56, some ChartAwake.c57, some ChartAwake.c58, some ChartAwake.c59, some ChartAwake.c60, some ChartAwake.c61, some ChartAwake.c62, some c63, some ChartAwake.c64, some ChartAwake.c65, some ChartAwake.c66, some ChartAwake.c67, some ChartAwake.c68, some c69, some c70, some c71, some ChartAwake.c72, some ChartAwake.c73, some ChartAwake.c74, some ChartAwake.c75, some ChartAwake.c76, some ChartAwake.c77, some ChartAwake.c78, some ChartAwake.c79, some ChartAwake.c80, some ChartAwake.c81, some ChartAwake.c82, some ChartAwake.c83, some c84, some ChartAwake.c85, some ChartAwake.c86, some ChartAwake.c87, some ChartAwake.c88, some ChartAwake.c89, some ChartAwake.c90, some c91, some ChartAwake.c92]
noncomputable def fns : TV (Option AFunc) := Vec.ofList list
def none1 (args : List Value) (H : AH TV) : Option (Value × AH TV) := match args with | [] => some (.bool true, H) | _ => none
noncomputable def ext (f : FuncId) (args : List Value) (H : AH TV) : Option (Value × AH TV) := bif Nat.beq f 6 then none1 args H else none
noncomputable def E : Env TV := { P := Try.prog, fn := fun f => (Vec.get fns f).getD none, ext := ext }
theorem all_ok : OkFrom Try.prog 0 list := ⟨⟨false, c4_ok⟩, ⟨⟨false, c10_ok⟩, ⟨⟨false, ChartAwake.c11_ok⟩, ⟨⟨false, c12_ok⟩, ⟨⟨false, c13_ok⟩, ⟨⟨false, c14_ok⟩, ⟨⟨false, c15_ok⟩, ⟨⟨false, c16_ok⟩, ⟨⟨false, c17_ok⟩, ⟨⟨false, ChartAwake.c20_ok⟩, ⟨⟨false, ChartAwake.c24_ok⟩, ⟨⟨false, ChartAwake.c25_ok⟩, ⟨⟨false, c27_ok⟩, ⟨⟨false, c28_ok⟩, ⟨⟨false, ChartAwake.c29_ok⟩, ⟨⟨false, ChartAwake.c30_ok⟩, ⟨⟨false, c31_ok⟩, ⟨⟨false, c32_ok⟩, ⟨⟨false, c33_ok⟩, ⟨⟨false, c34_ok⟩, ⟨⟨false, c35_ok⟩, ⟨⟨false, c36_ok⟩, ⟨⟨false, c37_ok⟩, ⟨⟨false, c38_ok⟩, ⟨⟨false, ChartAwake.c40_ok⟩, ⟨⟨false, ChartAwake.c41_ok⟩, ⟨⟨false, ChartAwake.c42_ok⟩, ⟨⟨false, ChartAwake.c44_ok⟩, ⟨⟨false, ChartAwake.c45_ok⟩, ⟨⟨false, ChartAwake.c46_ok⟩, ⟨⟨false, ChartAwake.c48_ok⟩, ⟨⟨false, ChartAwake.c49_ok⟩, ⟨⟨false, ChartAwake.c50_ok⟩, ⟨⟨false, c51_ok⟩, ⟨⟨false, c54_ok⟩, ⟨⟨false, c55_ok⟩, ⟨⟨false, ChartAwake.c56_ok⟩, ⟨⟨false, ChartAwake.c57_ok⟩, ⟨⟨false, ChartAwake.c58_ok⟩, ⟨⟨false, ChartAwake.c59_ok⟩, ⟨⟨false, ChartAwake.c60_ok⟩, ⟨⟨false, ChartAwake.c61_ok⟩, ⟨⟨false, ChartAwake.c62_ok⟩, ⟨⟨false, c63_ok⟩, ⟨⟨false, ChartAwake.c64_ok⟩, ⟨⟨false, ChartAwake.c65_ok⟩, ⟨⟨false, ChartAwake.c66_ok⟩, ⟨⟨false, ChartAwake.c67_ok⟩, ⟨⟨false, ChartAwake.c68_ok⟩, ⟨⟨false, c69_ok⟩, ⟨⟨false, c70_ok⟩, ⟨⟨false, c71_ok⟩, ⟨⟨false, ChartAwake.c72_ok⟩, ⟨⟨false, ChartAwake.c73_ok⟩, ⟨⟨false, ChartAwake.c74_ok⟩, ⟨⟨false, ChartAwake.c75_ok⟩, ⟨⟨false, ChartAwake.c76_ok⟩, ⟨⟨false, ChartAwake.c77_ok⟩, ⟨⟨false, ChartAwake.c78_ok⟩, ⟨⟨false, ChartAwake.c79_ok⟩, ⟨⟨false, ChartAwake.c80_ok⟩, ⟨⟨false, ChartAwake.c81_ok⟩, ⟨⟨false, ChartAwake.c82_ok⟩, ⟨⟨false, ChartAwake.c83_ok⟩, ⟨⟨false, c84_ok⟩, ⟨⟨false, ChartAwake.c85_ok⟩, ⟨⟨false, ChartAwake.c86_ok⟩, ⟨⟨false, ChartAwake.c87_ok⟩, ⟨⟨false, ChartAwake.c88_ok⟩, ⟨⟨false, ChartAwake.c89_ok⟩, ⟨⟨false, ChartAwake.c90_ok⟩, ⟨⟨false, c91_ok⟩, ⟨⟨false, ChartAwake.c92_ok⟩, trivial⟩⟩⟩⟩⟩⟩⟩⟩⟩⟩⟩⟩⟩⟩⟩⟩⟩⟩⟩⟩⟩⟩⟩⟩⟩⟩⟩⟩⟩⟩⟩⟩⟩⟩⟩⟩⟩⟩⟩⟩⟩⟩⟩⟩⟩⟩⟩⟩⟩⟩⟩⟩⟩⟩⟩⟩⟩⟩⟩⟩⟩⟩⟩⟩⟩⟩⟩⟩⟩⟩⟩⟩⟩
theorem ext_ok (f : FuncId) (args : List Value) (H : AH TV) (v : Value) (H' : AH TV) (h : ext f args H = some (v, H')) : CallsOk Try.prog f args H v H' := by
 unfold ext at h
 cases hb : Nat.beq f 6 with
 | true =>
   have hf : f = 6 := Nat.eq_of_beq_eq_true hb
   rw [hb] at h
   cases args with
   | nil =>
     simp only [none1, cond_true, Option.some.injEq, Prod.mk.injEq] at h
     obtain ⟨rfl, rfl⟩ := h
     rw [hf]
     exact closed_ok ChartAwake.env2_ok ChartAwake.run rfl H
   | cons a r => cases h
 | false =>
 rw [hb] at h
 cases h
theorem env_ok : EnvOk E := ⟨fun f fn h => fn_of all_ok h, ext_ok, draw_ok (by kernel_rfl)⟩
end Go.Proofs.Ytggaimcopbjdiaa.Graph
