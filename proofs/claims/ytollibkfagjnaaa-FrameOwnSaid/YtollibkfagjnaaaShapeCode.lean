/- The functions that louver/louverlaw17.FrameOwn reaches, compiled; that each is what 'compileFn' comes to. PRINTED by code.py. -/
import Derived.Test.YtollibkfagjnaaaAMb
import Derived.Test.YtollibkfagjnaaaFrameAwakeRun
import Derived.Test.YtollibkfagjnaaaFrIns
import Derived.Test.YtollibkfagjnaaaFrameAwakeCode
import Derived.Test.YtollibkfagjnaaaProg
import Derived.KernelRfl
set_option linter.unusedVariables false
set_option maxRecDepth 100000
namespace Go.Proofs.Ytollibkfagjnaaa.Shape
open Go.Proofs.Ytollibkfagjnaaa.AM
/-- louver/louverlaw17.FrameOwn -/
noncomputable def c5 : AFunc := ⟨[0, 1, 2, 3, 4, 5, 8, 10, 11, 12, 13, 16, 19, 20, 21, 23, 25, 27, 29, 31], [.tmp 7],
  .seq (.region [⟨.box (.tmp 0), none, 0⟩, ⟨.box (.tmp 3), none, 0⟩] [(5, (.loc 1)), (6, (.loc 0)), (7, (.const (.bool false)))])
  (.seq (.seq (.region [⟨.call (.func 27) [], none, 0⟩, ⟨.not (.loc 0), none, 0⟩] [(19, (.loc 0))])
   (.cond (.tmp 19)
    (.seq (.region [] [(7, (.const (.bool false)))])
     (.ret))
    (.skip)))
  (.seq (.draw [⟨.load (some 4) (.tmp 5), none, 0⟩, ⟨.call (.func 13) [(.loc 0)], none, 0⟩, ⟨.load (some 2) (.tmp 6), none, 0⟩, ⟨.call (.func 14) [(.loc 0)], none, 1⟩, ⟨.alloc [(.slice none 0 0), (.slice none 0 0), (.slice none 0 0), (.slice none 0 0)], none, 0⟩, ⟨.alloc [(.slice none 0 0), (.slice none 0 0)], none, 0⟩, ⟨.store 4 (.loc 1) (.loc 4), none, 2⟩, ⟨.store 2 (.loc 1) (.loc 3), none, 3⟩] [(8, (.loc 3)), (9, (.loc 2))])
  (.seq (.region [⟨.load (some 4) (.tmp 8), none, 0⟩, ⟨.load (some 2) (.tmp 9), none, 0⟩, ⟨.call (.func 15) [(.loc 1), (.tmp 1), (.tmp 2), (.loc 0), (.tmp 4)], none, 0⟩, ⟨.ext (.loc 0) 0, none, 0⟩, ⟨.ext (.loc 1) 1, none, 0⟩, ⟨.ext (.loc 2) 2, none, 0⟩, ⟨.alloc [(.slice none 0 0), (.slice none 0 0)], none, 0⟩, ⟨.store 2 (.loc 0) (.loc 3), none, 0⟩] [(10, (.loc 1))])
  (.seq (.region [⟨.load (some 4) (.tmp 8), none, 0⟩, ⟨.load (some 2) (.tmp 9), none, 0⟩, ⟨.call (.func 15) [(.loc 1), (.tmp 1), (.tmp 2), (.loc 0), (.tmp 4)], none, 0⟩, ⟨.ext (.loc 0) 0, none, 0⟩, ⟨.ext (.loc 1) 1, none, 0⟩, ⟨.ext (.loc 2) 2, none, 0⟩, ⟨.alloc [(.slice none 0 0), (.slice none 0 0)], none, 0⟩, ⟨.store 2 (.loc 0) (.loc 3), none, 0⟩] [(11, (.loc 1))])
  (.seq (.draw [⟨.load (some 4) (.tmp 8), none, 0⟩, ⟨.call (.func 25) [(.loc 0), (.tmp 1)], none, 0⟩, ⟨.load (some 4) (.tmp 8), none, 0⟩, ⟨.call (.func 25) [(.loc 0), (.tmp 1)], none, 1⟩, ⟨.alloc [(.slice none 0 0), (.slice none 0 0)], none, 0⟩, ⟨.alloc [(.slice none 0 0), (.slice none 0 0)], none, 0⟩, ⟨.store 2 (.loc 1) (.loc 4), none, 2⟩, ⟨.store 2 (.loc 1) (.loc 3), none, 3⟩] [(12, (.loc 3)), (13, (.loc 2))])
  (.seq (.region [⟨.load (some 2) (.tmp 9), none, 0⟩, ⟨.load (some 2) (.tmp 9), none, 0⟩, ⟨.call (.func 28) [(.loc 1), (.loc 0)], none, 0⟩, ⟨.ext (.loc 0) 0, none, 0⟩, ⟨.ext (.loc 1) 1, none, 0⟩, ⟨.alloc [(.slice none 0 0), (.slice none 0 0)], none, 0⟩, ⟨.store 2 (.loc 0) (.loc 2), none, 0⟩] [(14, (.loc 1))])
  (.seq (.region [⟨.load (some 2) (.tmp 9), none, 0⟩, ⟨.load (some 2) (.tmp 9), none, 0⟩, ⟨.call (.func 28) [(.loc 1), (.loc 0)], none, 0⟩, ⟨.ext (.loc 0) 0, none, 0⟩, ⟨.ext (.loc 1) 1, none, 0⟩, ⟨.alloc [(.slice none 0 0), (.slice none 0 0)], none, 0⟩, ⟨.store 2 (.loc 0) (.loc 2), none, 0⟩] [(15, (.loc 1))])
  (.seq (.region [⟨.load (some 4) (.tmp 8), none, 0⟩, ⟨.call (.func 20) [(.loc 0), (.tmp 1)], none, 0⟩, ⟨.ext (.loc 0) 0, none, 0⟩, ⟨.ext (.loc 1) 1, none, 0⟩, ⟨.alloc [(.int .i64 0), (.int .i64 0), (.int .i64 0)], none, 0⟩, ⟨.store 3 (.loc 0) (.loc 1), none, 0⟩] [(16, (.loc 3))])
  (.seq (.region [⟨.load (some 4) (.tmp 8), none, 0⟩, ⟨.call (.func 20) [(.loc 0), (.tmp 1)], none, 0⟩, ⟨.ext (.loc 0) 0, none, 0⟩, ⟨.ext (.loc 1) 1, none, 0⟩, ⟨.alloc [(.int .i64 0), (.int .i64 0), (.int .i64 0)], none, 0⟩, ⟨.store 3 (.loc 0) (.loc 1), none, 0⟩] [(17, (.loc 3))])
  (.seq (.region [⟨.faddr 0 (.tmp 10), none, 0⟩, ⟨.load none (.loc 0), none, 0⟩, ⟨.faddr 1 (.tmp 10), none, 0⟩, ⟨.load none (.loc 0), none, 0⟩, ⟨.faddr 0 (.tmp 11), none, 0⟩, ⟨.load none (.loc 0), none, 0⟩, ⟨.faddr 1 (.tmp 11), none, 0⟩, ⟨.load none (.loc 0), none, 0⟩, ⟨.faddr 1 (.tmp 12), none, 0⟩, ⟨.load none (.loc 0), none, 0⟩, ⟨.faddr 1 (.tmp 13), none, 0⟩, ⟨.load none (.loc 0), none, 0⟩, ⟨.faddr 0 (.tmp 14), none, 0⟩, ⟨.load none (.loc 0), none, 0⟩, ⟨.faddr 1 (.tmp 14), none, 0⟩, ⟨.load none (.loc 0), none, 0⟩, ⟨.faddr 0 (.tmp 15), none, 0⟩, ⟨.load none (.loc 0), none, 0⟩, ⟨.faddr 1 (.tmp 15), none, 0⟩, ⟨.load none (.loc 0), none, 0⟩, ⟨.mkarr 10 [(.slice none 0 0), (.slice none 0 0), (.slice none 0 0), (.slice none 0 0), (.slice none 0 0), (.slice none 0 0), (.slice none 0 0), (.slice none 0 0), (.slice none 0 0), (.slice none 0 0)] [(0, 1, (.loc 18)), (1, 1, (.loc 16)), (2, 1, (.loc 14)), (3, 1, (.loc 12)), (4, 1, (.loc 10)), (5, 1, (.loc 8)), (6, 1, (.loc 6)), (7, 1, (.loc 4)), (8, 1, (.loc 2)), (9, 1, (.loc 0))], none, 0⟩] [(18, (.loc 0))])
  (.seq (.region [⟨.call (.func 29) [(.tmp 18)], none, 0⟩, ⟨.mov (.tmp 16), (some ((.loc 0), true)), 0⟩, ⟨.mov (.tmp 17), (some ((.loc 1), true)), 0⟩, ⟨.mkarr 2 [(.slice none 0 0), (.slice none 0 0)] [(0, 1, (.loc 1)), (1, 1, (.loc 0))], (some ((.loc 2), true)), 0⟩, ⟨.call (.func 30) [(.loc 0)], (some ((.loc 3), true)), 0⟩, ⟨.pick (.loc 4) (.loc 0) (.const (.bool false)), none, 0⟩, ⟨.load (some 4) (.tmp 8), (some ((.loc 0), true)), 0⟩, ⟨.load (some 4) (.tmp 5), (some ((.loc 1), true)), 0⟩, ⟨.call (.func 18) [(.loc 1), (.loc 0)], (some ((.loc 2), true)), 0⟩, ⟨.pick (.loc 3) (.loc 0) (.const (.bool false)), none, 0⟩, ⟨.load (some 2) (.tmp 9), (some ((.loc 0), true)), 0⟩, ⟨.load (some 2) (.tmp 6), (some ((.loc 1), true)), 0⟩, ⟨.call (.func 19) [(.loc 1), (.loc 0)], (some ((.loc 2), true)), 0⟩, ⟨.pick (.loc 3) (.loc 0) (.const (.bool false)), none, 0⟩] [(7, (.loc 0))])
  (.ret))))))))))))⟩
theorem c5_ok : compileFn Try.prog false 5 = some c5 := by kernel_rfl
/-- louver/louverkit.LentModule -/
noncomputable def c13 : AFunc := ⟨[0, 1, 2, 3, 4, 5, 6, 19], [.cell 2 (some 4)],
  .seq (.region [⟨.box (.tmp 0), none, 0⟩, ⟨.alloc [(.slice none 0 0), (.slice none 0 0), (.slice none 0 0), (.slice none 0 0)], none, 0⟩] [(1, (.loc 1)), (2, (.loc 0))])
  (.seq (.region [] [(3, (.const (.slice none 0 0)))])
  (.seq (.region [⟨.faddr 1 (.tmp 1), none, 0⟩, ⟨.load none (.loc 0), none, 0⟩, ⟨.append false 2 16 (.tmp 3) (.loc 0), none, 0⟩] [(3, (.loc 0))])
  (.seq (.region [⟨.build [(.int .i64 0), (.int .u64 0)] [(0, 1, (.const (.int .i64 (-71))))], none, 0⟩, ⟨.mkarr 1 [(.int .i64 0), (.int .u64 0)] [(0, 2, (.loc 0))], none, 0⟩, ⟨.append false 2 16 (.tmp 3) (.loc 0), none, 0⟩] [(3, (.loc 0))])
  (.seq (.region [] [(4, (.const (.slice none 0 0)))])
  (.seq (.seq (.region [] [(5, (.const (.int .i64 0)))])
   (.block 0 (.loop (.seq (.seq (.region [⟨.faddr 3 (.tmp 1), none, 0⟩, ⟨.load none (.loc 0), none, 0⟩, ⟨.len (.loc 0), none, 0⟩, ⟨.bin .lss (.tmp 5) (.loc 0), none, 0⟩] [(7, (.loc 0))])
     (.cond (.tmp 7)
      (.skip)
      (.exit 0)))
    (.seq (.block 1 (.seq (.region [⟨.faddr 3 (.tmp 1), none, 0⟩, ⟨.load none (.loc 0), none, 0⟩, ⟨.iaddr 6 (.loc 0) (.tmp 5), none, 0⟩, ⟨.load (some 6) (.loc 0), none, 0⟩, ⟨.call (.func 35) [(.loc 0)], none, 0⟩, ⟨.alloc [(.int .u64 0), (.slice none 0 0), (.slice none 0 0), (.int .i64 0), (.int .i64 0), (.slice none 0 0)], none, 0⟩, ⟨.store 6 (.loc 0) (.loc 1), none, 0⟩] [(6, (.loc 1))])
     (.region [⟨.load (some 6) (.tmp 6), none, 0⟩, ⟨.mkarr 1 [(.int .u64 0), (.slice none 0 0), (.slice none 0 0), (.int .i64 0), (.int .i64 0), (.slice none 0 0)] [(0, 6, (.loc 0))], none, 0⟩, ⟨.append false 6 96 (.tmp 4) (.loc 0), none, 0⟩] [(4, (.loc 0))])))
    (.region [⟨.bin .add (.tmp 5) (.const (.int .i64 1)), none, 0⟩] [(5, (.loc 0))]))))))
  (.seq (.region [⟨.build [(.int .u64 0), (.slice none 0 0), (.slice none 0 0), (.int .i64 0), (.int .i64 0), (.slice none 0 0)] [(4, 1, (.const (.int .i64 (-71))))], none, 0⟩, ⟨.mkarr 1 [(.int .u64 0), (.slice none 0 0), (.slice none 0 0), (.int .i64 0), (.int .i64 0), (.slice none 0 0)] [(0, 6, (.loc 0))], none, 0⟩, ⟨.append false 6 96 (.tmp 4) (.loc 0), none, 0⟩] [(4, (.loc 0))])
  (.seq (.draw [⟨.faddr 0 (.tmp 1), none, 0⟩, ⟨.load none (.loc 0), none, 0⟩, ⟨.call (.func 36) [(.loc 0)], none, 0⟩, ⟨.faddr 2 (.tmp 1), none, 0⟩, ⟨.load none (.loc 0), none, 0⟩, ⟨.call (.func 36) [(.loc 0)], none, 1⟩, ⟨.faddr 1 (.tmp 1), none, 0⟩, ⟨.load none (.loc 0), none, 0⟩, ⟨.len (.loc 0), none, 0⟩, ⟨.slice 2 (.tmp 3) none (some (.loc 0)) none, none, 0⟩, ⟨.faddr 3 (.tmp 1), none, 0⟩, ⟨.load none (.loc 0), none, 0⟩, ⟨.len (.loc 0), none, 0⟩, ⟨.slice 6 (.tmp 4) none (some (.loc 0)) none, none, 0⟩, ⟨.build [(.slice none 0 0), (.slice none 0 0), (.slice none 0 0), (.slice none 0 0)] [(0, 1, (.loc 11)), (1, 1, (.loc 4)), (2, 1, (.loc 8)), (3, 1, (.loc 0))], none, 2⟩, ⟨.store 4 (.tmp 2) (.loc 0), none, 2⟩] [])
  (.ret))))))))⟩
theorem c13_ok : compileFn Try.prog false 13 = some c13 := by kernel_rfl
/-- louver/louverkit.LentFrame -/
noncomputable def c14 : AFunc := ⟨[0, 1, 2], [.cell 2 (some 2)],
  .seq (.region [⟨.box (.tmp 0), none, 0⟩, ⟨.alloc [(.slice none 0 0), (.slice none 0 0)], none, 0⟩] [(1, (.loc 1)), (2, (.loc 0))])
  (.seq (.draw [⟨.faddr 0 (.tmp 1), none, 0⟩, ⟨.load none (.loc 0), none, 0⟩, ⟨.call (.func 36) [(.loc 0)], none, 0⟩, ⟨.faddr 1 (.tmp 1), none, 0⟩, ⟨.load none (.loc 0), none, 0⟩, ⟨.call (.func 36) [(.loc 0)], none, 1⟩, ⟨.build [(.slice none 0 0), (.slice none 0 0)] [(0, 1, (.loc 3)), (1, 1, (.loc 0))], none, 2⟩, ⟨.store 2 (.tmp 2) (.loc 0), none, 2⟩] [])
  (.ret))⟩
theorem c14_ok : compileFn Try.prog false 14 = some c14 := by kernel_rfl
noncomputable abbrev c15 : AFunc := FrameAwake.c15
/-- louver/louverkit.KeptModule -/
noncomputable def c18 : AFunc := ⟨[0, 1, 2, 3, 4, 5, 6, 7, 8, 40, 45, 58, 63, 77], [.tmp 4],
  .seq (.region [⟨.box (.tmp 0), none, 0⟩, ⟨.box (.tmp 1), none, 0⟩] [(2, (.loc 1)), (3, (.loc 0)), (4, (.const (.bool false)))])
  (.seq (.seq (.region [⟨.faddr 0 (.tmp 2), none, 0⟩, ⟨.load none (.loc 0), none, 0⟩, ⟨.faddr 0 (.tmp 3), none, 0⟩, ⟨.load none (.loc 0), none, 0⟩, ⟨.call (.func 41) [(.loc 2), (.loc 0)], none, 0⟩, ⟨.not (.loc 0), none, 0⟩, ⟨.faddr 2 (.tmp 2), (some ((.loc 0), false)), 0⟩, ⟨.load none (.loc 0), (some ((.loc 1), false)), 0⟩, ⟨.faddr 2 (.tmp 3), (some ((.loc 2), false)), 0⟩, ⟨.load none (.loc 0), (some ((.loc 3), false)), 0⟩, ⟨.call (.func 41) [(.loc 2), (.loc 0)], (some ((.loc 4), false)), 0⟩, ⟨.not (.loc 0), (some ((.loc 5), false)), 0⟩, ⟨.pick (.loc 6) (.const (.bool true)) (.loc 0), none, 0⟩, ⟨.faddr 1 (.tmp 2), (some ((.loc 0), false)), 0⟩, ⟨.load none (.loc 0), (some ((.loc 1), false)), 0⟩, ⟨.len (.loc 0), (some ((.loc 2), false)), 0⟩, ⟨.faddr 1 (.tmp 3), (some ((.loc 3), false)), 0⟩, ⟨.load none (.loc 0), (some ((.loc 4), false)), 0⟩, ⟨.len (.loc 0), (some ((.loc 5), false)), 0⟩, ⟨.bin .neq (.loc 3) (.loc 0), (some ((.loc 6), false)), 0⟩, ⟨.pick (.loc 7) (.const (.bool true)) (.loc 0), none, 0⟩, ⟨.faddr 3 (.tmp 2), (some ((.loc 0), false)), 0⟩, ⟨.load none (.loc 0), (some ((.loc 1), false)), 0⟩, ⟨.len (.loc 0), (some ((.loc 2), false)), 0⟩, ⟨.faddr 3 (.tmp 3), (some ((.loc 3), false)), 0⟩, ⟨.load none (.loc 0), (some ((.loc 4), false)), 0⟩, ⟨.len (.loc 0), (some ((.loc 5), false)), 0⟩, ⟨.bin .neq (.loc 3) (.loc 0), (some ((.loc 6), false)), 0⟩, ⟨.pick (.loc 7) (.const (.bool true)) (.loc 0), none, 0⟩] [(9, (.loc 0))])
   (.cond (.tmp 9)
    (.seq (.region [] [(4, (.const (.bool false)))])
     (.ret))
    (.skip)))
  (.seq (.seq (.region [] [(5, (.const (.int .i64 0)))])
   (.block 0 (.loop (.seq (.seq (.region [⟨.faddr 1 (.tmp 2), none, 0⟩, ⟨.load none (.loc 0), none, 0⟩, ⟨.len (.loc 0), none, 0⟩, ⟨.bin .lss (.tmp 5) (.loc 0), none, 0⟩] [(10, (.loc 0))])
     (.cond (.tmp 10)
      (.skip)
      (.exit 0)))
    (.seq (.block 1 (.seq (.draw [⟨.faddr 1 (.tmp 2), none, 0⟩, ⟨.load none (.loc 0), none, 0⟩, ⟨.iaddr 2 (.loc 0) (.tmp 5), none, 0⟩, ⟨.load (some 2) (.loc 0), none, 0⟩, ⟨.faddr 1 (.tmp 3), none, 0⟩, ⟨.load none (.loc 0), none, 0⟩, ⟨.iaddr 2 (.loc 0) (.tmp 5), none, 0⟩, ⟨.load (some 2) (.loc 0), none, 0⟩, ⟨.flat (.bin .neq 83 (.tmp 52) (.tmp 57)) [(.loc 4), (.loc 0)], none, 0⟩] [(11, (.loc 0))])
     (.cond (.tmp 11)
      (.seq (.region [] [(4, (.const (.bool false)))])
       (.ret))
      (.skip))))
    (.region [⟨.bin .add (.tmp 5) (.const (.int .i64 1)), none, 0⟩] [(5, (.loc 0))]))))))
  (.seq (.seq (.region [] [(6, (.const (.int .i64 0)))])
   (.block 2 (.loop (.seq (.seq (.region [⟨.faddr 3 (.tmp 2), none, 0⟩, ⟨.load none (.loc 0), none, 0⟩, ⟨.len (.loc 0), none, 0⟩, ⟨.bin .lss (.tmp 6) (.loc 0), none, 0⟩] [(12, (.loc 0))])
     (.cond (.tmp 12)
      (.skip)
      (.exit 2)))
    (.seq (.block 3 (.seq (.draw [⟨.faddr 3 (.tmp 2), none, 0⟩, ⟨.load none (.loc 0), none, 0⟩, ⟨.iaddr 6 (.loc 0) (.tmp 6), none, 0⟩, ⟨.load (some 6) (.loc 0), none, 0⟩, ⟨.faddr 3 (.tmp 3), none, 0⟩, ⟨.load none (.loc 0), none, 0⟩, ⟨.iaddr 6 (.loc 0) (.tmp 6), none, 0⟩, ⟨.load (some 6) (.loc 0), none, 0⟩, ⟨.call (.func 40) [(.loc 4), (.loc 0)], none, 0⟩, ⟨.not (.loc 0), none, 1⟩] [(13, (.loc 0))])
     (.cond (.tmp 13)
      (.seq (.region [] [(4, (.const (.bool false)))])
       (.ret))
      (.skip))))
    (.region [⟨.bin .add (.tmp 6) (.const (.int .i64 1)), none, 0⟩] [(6, (.loc 0))]))))))
  (.seq (.region [⟨.faddr 1 (.tmp 2), none, 0⟩, ⟨.load none (.loc 0), none, 0⟩, ⟨.faddr 1 (.tmp 2), none, 0⟩, ⟨.load none (.loc 0), none, 0⟩, ⟨.len (.loc 0), none, 0⟩, ⟨.bin .add (.loc 0) (.const (.int .i64 1)), none, 0⟩, ⟨.slice 2 (.loc 4) none (some (.loc 0)) none, none, 0⟩] [(7, (.loc 0))])
  (.seq (.region [⟨.faddr 3 (.tmp 2), none, 0⟩, ⟨.load none (.loc 0), none, 0⟩, ⟨.faddr 3 (.tmp 2), none, 0⟩, ⟨.load none (.loc 0), none, 0⟩, ⟨.len (.loc 0), none, 0⟩, ⟨.bin .add (.loc 0) (.const (.int .i64 1)), none, 0⟩, ⟨.slice 6 (.loc 4) none (some (.loc 0)) none, none, 0⟩] [(8, (.loc 0))])
  (.seq (.region [⟨.faddr 1 (.tmp 2), none, 0⟩, ⟨.load none (.loc 0), none, 0⟩, ⟨.len (.loc 0), none, 0⟩, ⟨.iaddr 2 (.tmp 7) (.loc 0), none, 0⟩, ⟨.faddr 0 (.loc 0), none, 0⟩, ⟨.load none (.loc 0), none, 0⟩, ⟨.bin .eql (.loc 0) (.const (.int .i64 (-71))), none, 0⟩, ⟨.mov (.tmp 8), (some ((.loc 0), true)), 0⟩, ⟨.faddr 3 (.tmp 2), (some ((.loc 1), true)), 0⟩, ⟨.load none (.loc 0), (some ((.loc 2), true)), 0⟩, ⟨.len (.loc 0), (some ((.loc 3), true)), 0⟩, ⟨.iaddr 6 (.loc 3) (.loc 0), (some ((.loc 4), true)), 0⟩, ⟨.faddr 4 (.loc 0), (some ((.loc 5), true)), 0⟩, ⟨.load none (.loc 0), (some ((.loc 6), true)), 0⟩, ⟨.bin .eql (.loc 0) (.const (.int .i64 (-71))), (some ((.loc 7), true)), 0⟩, ⟨.pick (.loc 8) (.loc 0) (.const (.bool false)), none, 0⟩] [(4, (.loc 0))])
  (.ret)))))))⟩
theorem c18_ok : compileFn Try.prog false 18 = some c18 := by kernel_rfl
/-- louver/louverkit.KeptFrame -/
noncomputable def c19 : AFunc := ⟨[0, 1, 2, 3, 4], [.tmp 4],
  .seq (.region [⟨.box (.tmp 0), none, 0⟩, ⟨.box (.tmp 1), none, 0⟩] [(2, (.loc 1)), (3, (.loc 0)), (4, (.const (.bool false)))])
  (.seq (.region [⟨.faddr 0 (.tmp 2), none, 0⟩, ⟨.load none (.loc 0), none, 0⟩, ⟨.faddr 0 (.tmp 3), none, 0⟩, ⟨.load none (.loc 0), none, 0⟩, ⟨.call (.func 41) [(.loc 2), (.loc 0)], none, 0⟩, ⟨.faddr 1 (.tmp 2), (some ((.loc 0), true)), 0⟩, ⟨.load none (.loc 0), (some ((.loc 1), true)), 0⟩, ⟨.faddr 1 (.tmp 3), (some ((.loc 2), true)), 0⟩, ⟨.load none (.loc 0), (some ((.loc 3), true)), 0⟩, ⟨.call (.func 41) [(.loc 2), (.loc 0)], (some ((.loc 4), true)), 0⟩, ⟨.pick (.loc 5) (.loc 0) (.const (.bool false)), none, 0⟩] [(4, (.loc 0))])
  (.ret))⟩
theorem c19_ok : compileFn Try.prog false 19 = some c19 := by kernel_rfl
noncomputable abbrev c20 : AFunc := FrameAwake.c20
/-- louver/frame.Entry -/
noncomputable def c25 : AFunc := ⟨[0, 1, 2, 4, 5, 6, 33, 44, 45, 46], [.cell 3 (some 2)],
  .seq (.region [⟨.box (.tmp 0), none, 0⟩, ⟨.alloc [(.slice none 0 0), (.slice none 0 0)], none, 0⟩] [(2, (.loc 1)), (3, (.loc 0))])
  (.seq (.seq (.region [⟨.bin .lss (.tmp 1) (.const (.int .i64 0)), none, 0⟩, ⟨.mov (.tmp 1), (some ((.loc 0), false)), 0⟩, ⟨.faddr 3 (.tmp 2), (some ((.loc 1), false)), 0⟩, ⟨.load none (.loc 0), (some ((.loc 2), false)), 0⟩, ⟨.len (.loc 0), (some ((.loc 3), false)), 0⟩, ⟨.bin .geq (.loc 3) (.loc 0), (some ((.loc 4), false)), 0⟩, ⟨.pick (.loc 5) (.const (.bool true)) (.loc 0), none, 0⟩, ⟨.faddr 3 (.tmp 2), (some ((.loc 0), false)), 0⟩, ⟨.load none (.loc 0), (some ((.loc 1), false)), 0⟩, ⟨.mov (.tmp 1), (some ((.loc 2), false)), 0⟩, ⟨.iaddr 6 (.loc 1) (.loc 0), (some ((.loc 3), false)), 0⟩, ⟨.faddr 3 (.loc 0), (some ((.loc 4), false)), 0⟩, ⟨.load none (.loc 0), (some ((.loc 5), false)), 0⟩, ⟨.bin .lss (.loc 0) (.const (.int .i64 0)), (some ((.loc 6), false)), 0⟩, ⟨.pick (.loc 7) (.const (.bool true)) (.loc 0), none, 0⟩, ⟨.faddr 3 (.tmp 2), (some ((.loc 0), false)), 0⟩, ⟨.load none (.loc 0), (some ((.loc 1), false)), 0⟩, ⟨.mov (.tmp 1), (some ((.loc 2), false)), 0⟩, ⟨.iaddr 6 (.loc 1) (.loc 0), (some ((.loc 3), false)), 0⟩, ⟨.faddr 3 (.loc 0), (some ((.loc 4), false)), 0⟩, ⟨.load none (.loc 0), (some ((.loc 5), false)), 0⟩, ⟨.bin .gtr (.loc 0) (.const (.int .i64 32)), (some ((.loc 6), false)), 0⟩, ⟨.pick (.loc 7) (.const (.bool true)) (.loc 0), none, 0⟩] [(6, (.loc 0))])
   (.cond (.tmp 6)
    (.seq (.region [⟨.build [(.slice none 0 0), (.slice none 0 0)] [], none, 0⟩, ⟨.store 2 (.tmp 3) (.loc 0), none, 0⟩] [])
     (.ret))
    (.skip)))
  (.seq (.region [⟨.faddr 3 (.tmp 2), none, 0⟩, ⟨.load none (.loc 0), none, 0⟩, ⟨.iaddr 6 (.loc 0) (.tmp 1), none, 0⟩, ⟨.load (some 6) (.loc 0), none, 0⟩, ⟨.alloc [(.int .u64 0), (.slice none 0 0), (.slice none 0 0), (.int .i64 0), (.int .i64 0), (.slice none 0 0)], none, 0⟩, ⟨.store 6 (.loc 0) (.loc 1), none, 0⟩] [(4, (.loc 1))])
  (.seq (.region [⟨.faddr 1 (.tmp 4), none, 0⟩, ⟨.load none (.loc 0), none, 0⟩, ⟨.call (.func 55) [(.loc 0)], none, 0⟩] [(5, (.loc 0))])
  (.seq (.seq (.region [⟨.faddr 3 (.tmp 4), none, 0⟩, ⟨.load none (.loc 0), none, 0⟩] [(7, (.loc 0)), (8, (.const (.int .i64 0)))])
   (.block 0 (.loop (.seq (.region [⟨.bin .lss (.tmp 8) (.tmp 7), none, 0⟩] [(9, (.loc 0))])
    (.seq (.cond (.tmp 9)
      (.skip)
      (.exit 0))
    (.seq (.block 1 (.region [⟨.faddr 0 (.tmp 4), none, 0⟩, ⟨.load none (.loc 0), none, 0⟩, ⟨.mkarr 1 [(.int .u64 0)] [(0, 1, (.loc 0))], none, 0⟩, ⟨.append false 1 8 (.tmp 5) (.loc 0), none, 0⟩] [(5, (.loc 0))]))
    (.region [⟨.bin .add (.tmp 8) (.const (.int .i64 1)), none, 0⟩] [(8, (.loc 0))])))))))
  (.seq (.region [⟨.build [(.slice none 0 0), (.slice none 0 0)] [(1, 1, (.tmp 5))], none, 0⟩, ⟨.store 2 (.tmp 3) (.loc 0), none, 0⟩] [])
  (.ret))))))⟩
theorem c25_ok : compileFn Try.prog false 25 = some c25 := by kernel_rfl
/-- louver/frame.Join -/
noncomputable def c28 : AFunc := ⟨[0, 1, 2, 3, 4, 5, 6, 7, 8, 9, 10, 26, 29, 30, 31, 32, 51, 52, 53, 54], [.cell 4 (some 2), .tmp 5],
  .seq (.region [⟨.box (.tmp 0), none, 0⟩, ⟨.box (.tmp 1), none, 0⟩, ⟨.alloc [(.slice none 0 0), (.slice none 0 0)], none, 0⟩] [(2, (.loc 2)), (3, (.loc 1)), (4, (.loc 0)), (5, (.const (.bool false)))])
  (.seq (.seq (.region [⟨.faddr 0 (.tmp 2), none, 0⟩, ⟨.load none (.loc 0), none, 0⟩, ⟨.len (.loc 0), none, 0⟩, ⟨.faddr 0 (.tmp 3), none, 0⟩, ⟨.load none (.loc 0), none, 0⟩, ⟨.len (.loc 0), none, 0⟩, ⟨.bin .neq (.loc 3) (.loc 0), none, 0⟩, ⟨.faddr 1 (.tmp 2), (some ((.loc 0), false)), 0⟩, ⟨.load none (.loc 0), (some ((.loc 1), false)), 0⟩, ⟨.len (.loc 0), (some ((.loc 2), false)), 0⟩, ⟨.faddr 1 (.tmp 3), (some ((.loc 3), false)), 0⟩, ⟨.load none (.loc 0), (some ((.loc 4), false)), 0⟩, ⟨.len (.loc 0), (some ((.loc 5), false)), 0⟩, ⟨.bin .neq (.loc 3) (.loc 0), (some ((.loc 6), false)), 0⟩, ⟨.pick (.loc 7) (.const (.bool true)) (.loc 0), none, 0⟩] [(11, (.loc 0))])
   (.cond (.tmp 11)
    (.seq (.region [⟨.build [(.slice none 0 0), (.slice none 0 0)] [], none, 0⟩, ⟨.store 2 (.tmp 4) (.loc 0), none, 0⟩] [(5, (.const (.bool false)))])
     (.ret))
    (.skip)))
  (.seq (.region [⟨.alloc [(.slice none 0 0), (.slice none 0 0)], none, 0⟩] [(6, (.loc 0))])
  (.seq (.seq (.region [⟨.faddr 0 (.tmp 2), none, 0⟩, ⟨.load none (.loc 0), none, 0⟩, ⟨.len (.loc 0), none, 0⟩] [(12, (.loc 1)), (13, (.loc 0)), (14, (.const (.int .i64 0)))])
   (.block 0 (.loop (.seq (.region [⟨.bin .lss (.tmp 14) (.tmp 13), none, 0⟩] [(15, (.loc 0))])
    (.seq (.cond (.tmp 15)
      (.skip)
      (.exit 0))
    (.seq (.block 1 (.seq (.region [⟨.iaddr 1 (.tmp 12) (.tmp 14), none, 0⟩, ⟨.load none (.loc 0), none, 0⟩] [(7, (.tmp 14)), (8, (.loc 0))])
     (.draw [⟨.faddr 0 (.tmp 3), none, 0⟩, ⟨.load none (.loc 0), none, 0⟩, ⟨.iaddr 1 (.loc 0) (.tmp 7), none, 0⟩, ⟨.load none (.loc 0), none, 0⟩, ⟨.mkarr 2 [(.int .u64 0), (.int .u64 0)] [(0, 1, (.tmp 8)), (1, 1, (.loc 0))], none, 0⟩, ⟨.call (.func 67) [(.loc 0)], none, 0⟩, ⟨.faddr 0 (.tmp 6), none, 0⟩, ⟨.load none (.loc 0), none, 0⟩, ⟨.mkarr 1 [(.int .u64 0)] [(0, 1, (.loc 2))], none, 1⟩, ⟨.append false 1 8 (.loc 1) (.loc 0), none, 1⟩, ⟨.faddr 0 (.tmp 6), none, 2⟩, ⟨.store 1 (.loc 0) (.loc 1), none, 2⟩] [])))
    (.region [⟨.bin .add (.tmp 14) (.const (.int .i64 1)), none, 0⟩] [(14, (.loc 0))])))))))
  (.seq (.seq (.region [⟨.faddr 1 (.tmp 2), none, 0⟩, ⟨.load none (.loc 0), none, 0⟩, ⟨.len (.loc 0), none, 0⟩] [(16, (.loc 1)), (17, (.loc 0)), (18, (.const (.int .i64 0)))])
   (.block 2 (.loop (.seq (.region [⟨.bin .lss (.tmp 18) (.tmp 17), none, 0⟩] [(19, (.loc 0))])
    (.seq (.cond (.tmp 19)
      (.skip)
      (.exit 2))
    (.seq (.block 3 (.seq (.region [⟨.iaddr 1 (.tmp 16) (.tmp 18), none, 0⟩, ⟨.load none (.loc 0), none, 0⟩] [(9, (.tmp 18)), (10, (.loc 0))])
     (.draw [⟨.faddr 1 (.tmp 3), none, 0⟩, ⟨.load none (.loc 0), none, 0⟩, ⟨.iaddr 1 (.loc 0) (.tmp 9), none, 0⟩, ⟨.load none (.loc 0), none, 0⟩, ⟨.mkarr 2 [(.int .u64 0), (.int .u64 0)] [(0, 1, (.tmp 10)), (1, 1, (.loc 0))], none, 0⟩, ⟨.call (.func 67) [(.loc 0)], none, 0⟩, ⟨.faddr 1 (.tmp 6), none, 0⟩, ⟨.load none (.loc 0), none, 0⟩, ⟨.mkarr 1 [(.int .u64 0)] [(0, 1, (.loc 2))], none, 1⟩, ⟨.append false 1 8 (.loc 1) (.loc 0), none, 1⟩, ⟨.faddr 1 (.tmp 6), none, 2⟩, ⟨.store 1 (.loc 0) (.loc 1), none, 2⟩] [])))
    (.region [⟨.bin .add (.tmp 18) (.const (.int .i64 1)), none, 0⟩] [(18, (.loc 0))])))))))
  (.seq (.region [⟨.load (some 2) (.tmp 6), none, 0⟩, ⟨.store 2 (.tmp 4) (.loc 0), none, 0⟩] [(5, (.const (.bool true)))])
  (.ret))))))⟩
theorem c28_ok : compileFn Try.prog false 28 = some c28 := by kernel_rfl
/-- louver/louverkit.ApartLabels -/
noncomputable def c29 : AFunc := ⟨[0, 2, 3, 4, 5, 6, 7, 8, 9, 10, 11, 12, 16, 25, 42, 50, 69, 79, 109, 111, 129], [.tmp 1],
  .seq (.region [] [(1, (.const (.bool false)))])
  (.seq (.seq (.region [] [(2, (.const (.int .i64 0)))])
   (.block 0 (.loop (.seq (.seq (.region [⟨.len (.tmp 0), none, 0⟩, ⟨.bin .lss (.tmp 2) (.loc 0), none, 0⟩] [(12, (.loc 0))])
     (.cond (.tmp 12)
      (.skip)
      (.exit 0)))
    (.seq (.block 1 (.seq (.region [] [(3, (.const (.int .i64 0)))])
     (.block 2 (.loop (.seq (.seq (.region [⟨.iaddr 1 (.tmp 0) (.tmp 2), none, 0⟩, ⟨.load none (.loc 0), none, 0⟩, ⟨.len (.loc 0), none, 0⟩, ⟨.bin .lss (.tmp 3) (.loc 0), none, 0⟩] [(13, (.loc 0))])
       (.cond (.tmp 13)
        (.skip)
        (.exit 2)))
      (.seq (.block 3 (.region [⟨.iaddr 1 (.tmp 0) (.tmp 2), none, 0⟩, ⟨.load none (.loc 0), none, 0⟩, ⟨.bin .mul (.const (.int .i64 1000)) (.tmp 2), none, 0⟩, ⟨.bin .add (.loc 0) (.tmp 3), none, 0⟩, ⟨.conv .u64 (.loc 0), none, 0⟩, ⟨.iaddr 1 (.loc 3) (.tmp 3), none, 0⟩, ⟨.store 1 (.loc 0) (.loc 1), none, 0⟩] []))
      (.region [⟨.bin .add (.tmp 3) (.const (.int .i64 1)), none, 0⟩] [(3, (.loc 0))])))))))
    (.region [⟨.bin .add (.tmp 2) (.const (.int .i64 1)), none, 0⟩] [(2, (.loc 0))]))))))
  (.seq (.region [] [(4, (.const (.slice none 0 0)))])
  (.seq (.seq (.region [] [(5, (.const (.int .i64 0)))])
   (.block 4 (.loop (.seq (.seq (.region [⟨.len (.tmp 0), none, 0⟩, ⟨.bin .lss (.tmp 5) (.loc 0), none, 0⟩] [(14, (.loc 0))])
     (.cond (.tmp 14)
      (.skip)
      (.exit 4)))
    (.seq (.block 5 (.seq (.region [⟨.iaddr 1 (.tmp 0) (.tmp 5), none, 0⟩, ⟨.load none (.loc 0), none, 0⟩] [(6, (.loc 0))])
     (.seq (.seq (.region [] [(7, (.const (.int .i64 0)))])
      (.block 6 (.loop (.seq (.seq (.region [⟨.bin .lss (.tmp 7) (.const (.int .i64 30)), none, 0⟩] [(15, (.loc 0))])
        (.cond (.tmp 15)
         (.skip)
         (.exit 6)))
       (.seq (.block 7 (.region [⟨.bin .mul (.const (.int .i64 1000)) (.tmp 5), none, 0⟩, ⟨.bin .add (.const (.int .i64 500000)) (.loc 0), none, 0⟩, ⟨.bin .add (.loc 0) (.tmp 7), none, 0⟩, ⟨.conv .u64 (.loc 0), none, 0⟩, ⟨.mkarr 1 [(.int .u64 0)] [(0, 1, (.loc 0))], none, 0⟩, ⟨.append true 1 8 (.tmp 6) (.loc 0), none, 0⟩] [(6, (.loc 0))]))
       (.region [⟨.bin .add (.tmp 7) (.const (.int .i64 1)), none, 0⟩] [(7, (.loc 0))]))))))
     (.region [⟨.mkarr 1 [(.slice none 0 0)] [(0, 1, (.tmp 6))], none, 0⟩, ⟨.append true 1 24 (.tmp 4) (.loc 0), none, 0⟩] [(4, (.loc 0))]))))
    (.region [⟨.bin .add (.tmp 5) (.const (.int .i64 1)), none, 0⟩] [(5, (.loc 0))]))))))
  (.seq (.seq (.region [] [(8, (.const (.int .i64 0)))])
   (.block 8 (.loop (.seq (.seq (.region [⟨.len (.tmp 0), none, 0⟩, ⟨.bin .lss (.tmp 8) (.loc 0), none, 0⟩] [(16, (.loc 0))])
     (.cond (.tmp 16)
      (.skip)
      (.exit 8)))
    (.seq (.block 9 (.seq (.region [⟨.iaddr 1 (.tmp 0) (.tmp 8), none, 0⟩, ⟨.load none (.loc 0), none, 0⟩, ⟨.len (.loc 0), none, 0⟩] [(9, (.loc 0))])
     (.seq (.seq (.region [] [(10, (.const (.int .i64 0)))])
      (.block 10 (.loop (.seq (.seq (.region [⟨.bin .lss (.tmp 10) (.tmp 9), none, 0⟩] [(17, (.loc 0))])
        (.cond (.tmp 17)
         (.skip)
         (.exit 10)))
       (.seq (.block 11 (.seq (.region [⟨.iaddr 1 (.tmp 0) (.tmp 8), none, 0⟩, ⟨.load none (.loc 0), none, 0⟩, ⟨.iaddr 1 (.loc 0) (.tmp 10), none, 0⟩, ⟨.load none (.loc 0), none, 0⟩, ⟨.conv .i64 (.loc 0), none, 0⟩, ⟨.bin .mul (.const (.int .i64 1000)) (.tmp 8), none, 0⟩, ⟨.bin .add (.loc 0) (.tmp 10), none, 0⟩, ⟨.bin .neq (.loc 2) (.loc 0), none, 0⟩, ⟨.mov (.tmp 4), (some ((.loc 0), false)), 0⟩, ⟨.mov (.tmp 8), (some ((.loc 1), false)), 0⟩, ⟨.iaddr 1 (.loc 1) (.loc 0), (some ((.loc 2), false)), 0⟩, ⟨.load none (.loc 0), (some ((.loc 3), false)), 0⟩, ⟨.mov (.tmp 10), (some ((.loc 4), false)), 0⟩, ⟨.iaddr 1 (.loc 1) (.loc 0), (some ((.loc 5), false)), 0⟩, ⟨.load none (.loc 0), (some ((.loc 6), false)), 0⟩, ⟨.conv .i64 (.loc 0), (some ((.loc 7), false)), 0⟩, ⟨.mov (.tmp 8), (some ((.loc 8), false)), 0⟩, ⟨.bin .mul (.const (.int .i64 1000)) (.loc 0), (some ((.loc 9), false)), 0⟩, ⟨.mov (.tmp 10), (some ((.loc 10), false)), 0⟩, ⟨.bin .add (.loc 1) (.loc 0), (some ((.loc 11), false)), 0⟩, ⟨.bin .neq (.loc 4) (.loc 0), (some ((.loc 12), false)), 0⟩, ⟨.pick (.loc 13) (.const (.bool true)) (.loc 0), none, 0⟩] [(18, (.loc 0))])
        (.cond (.tmp 18)
         (.seq (.region [] [(1, (.const (.bool false)))])
          (.ret))
         (.skip))))
       (.region [⟨.bin .add (.tmp 10) (.const (.int .i64 1)), none, 0⟩] [(10, (.loc 0))]))))))
     (.seq (.region [] [(11, (.const (.int .i64 0)))])
     (.block 12 (.loop (.seq (.seq (.region [⟨.bin .lss (.tmp 11) (.const (.int .i64 30)), none, 0⟩] [(19, (.loc 0))])
       (.cond (.tmp 19)
        (.skip)
        (.exit 12)))
      (.seq (.block 13 (.seq (.region [⟨.iaddr 1 (.tmp 4) (.tmp 8), none, 0⟩, ⟨.load none (.loc 0), none, 0⟩, ⟨.bin .add (.tmp 9) (.tmp 11), none, 0⟩, ⟨.iaddr 1 (.loc 1) (.loc 0), none, 0⟩, ⟨.load none (.loc 0), none, 0⟩, ⟨.conv .i64 (.loc 0), none, 0⟩, ⟨.bin .mul (.const (.int .i64 1000)) (.tmp 8), none, 0⟩, ⟨.bin .add (.const (.int .i64 500000)) (.loc 0), none, 0⟩, ⟨.bin .add (.loc 0) (.tmp 11), none, 0⟩, ⟨.bin .neq (.loc 3) (.loc 0), none, 0⟩] [(20, (.loc 0))])
       (.cond (.tmp 20)
        (.seq (.region [] [(1, (.const (.bool false)))])
         (.ret))
        (.skip))))
      (.region [⟨.bin .add (.tmp 11) (.const (.int .i64 1)), none, 0⟩] [(11, (.loc 0))])))))))))
    (.region [⟨.bin .add (.tmp 8) (.const (.int .i64 1)), none, 0⟩] [(8, (.loc 0))]))))))
  (.seq (.region [] [(1, (.const (.bool true)))])
  (.ret))))))⟩
theorem c29_ok : compileFn Try.prog true 29 = some c29 := by kernel_rfl
/-- louver/louverkit.ApartInts -/
noncomputable def c30 : AFunc := ⟨[0, 2, 3, 4, 5, 6, 7, 8, 9, 10, 11, 12, 16, 25, 41, 49, 67, 77, 105, 107, 124], [.tmp 1],
  .seq (.region [] [(1, (.const (.bool false)))])
  (.seq (.seq (.region [] [(2, (.const (.int .i64 0)))])
   (.block 0 (.loop (.seq (.seq (.region [⟨.len (.tmp 0), none, 0⟩, ⟨.bin .lss (.tmp 2) (.loc 0), none, 0⟩] [(12, (.loc 0))])
     (.cond (.tmp 12)
      (.skip)
      (.exit 0)))
    (.seq (.block 1 (.seq (.region [] [(3, (.const (.int .i64 0)))])
     (.block 2 (.loop (.seq (.seq (.region [⟨.iaddr 1 (.tmp 0) (.tmp 2), none, 0⟩, ⟨.load none (.loc 0), none, 0⟩, ⟨.len (.loc 0), none, 0⟩, ⟨.bin .lss (.tmp 3) (.loc 0), none, 0⟩] [(13, (.loc 0))])
       (.cond (.tmp 13)
        (.skip)
        (.exit 2)))
      (.seq (.block 3 (.region [⟨.iaddr 1 (.tmp 0) (.tmp 2), none, 0⟩, ⟨.load none (.loc 0), none, 0⟩, ⟨.bin .mul (.const (.int .i64 1000)) (.tmp 2), none, 0⟩, ⟨.bin .add (.loc 0) (.tmp 3), none, 0⟩, ⟨.iaddr 1 (.loc 2) (.tmp 3), none, 0⟩, ⟨.store 1 (.loc 0) (.loc 1), none, 0⟩] []))
      (.region [⟨.bin .add (.tmp 3) (.const (.int .i64 1)), none, 0⟩] [(3, (.loc 0))])))))))
    (.region [⟨.bin .add (.tmp 2) (.const (.int .i64 1)), none, 0⟩] [(2, (.loc 0))]))))))
  (.seq (.region [] [(4, (.const (.slice none 0 0)))])
  (.seq (.seq (.region [] [(5, (.const (.int .i64 0)))])
   (.block 4 (.loop (.seq (.seq (.region [⟨.len (.tmp 0), none, 0⟩, ⟨.bin .lss (.tmp 5) (.loc 0), none, 0⟩] [(14, (.loc 0))])
     (.cond (.tmp 14)
      (.skip)
      (.exit 4)))
    (.seq (.block 5 (.seq (.region [⟨.iaddr 1 (.tmp 0) (.tmp 5), none, 0⟩, ⟨.load none (.loc 0), none, 0⟩] [(6, (.loc 0))])
     (.seq (.seq (.region [] [(7, (.const (.int .i64 0)))])
      (.block 6 (.loop (.seq (.seq (.region [⟨.bin .lss (.tmp 7) (.const (.int .i64 30)), none, 0⟩] [(15, (.loc 0))])
        (.cond (.tmp 15)
         (.skip)
         (.exit 6)))
       (.seq (.block 7 (.region [⟨.bin .mul (.const (.int .i64 1000)) (.tmp 5), none, 0⟩, ⟨.bin .add (.const (.int .i64 500000)) (.loc 0), none, 0⟩, ⟨.bin .add (.loc 0) (.tmp 7), none, 0⟩, ⟨.mkarr 1 [(.int .i64 0)] [(0, 1, (.loc 0))], none, 0⟩, ⟨.append false 1 8 (.tmp 6) (.loc 0), none, 0⟩] [(6, (.loc 0))]))
       (.region [⟨.bin .add (.tmp 7) (.const (.int .i64 1)), none, 0⟩] [(7, (.loc 0))]))))))
     (.region [⟨.mkarr 1 [(.slice none 0 0)] [(0, 1, (.tmp 6))], none, 0⟩, ⟨.append false 1 24 (.tmp 4) (.loc 0), none, 0⟩] [(4, (.loc 0))]))))
    (.region [⟨.bin .add (.tmp 5) (.const (.int .i64 1)), none, 0⟩] [(5, (.loc 0))]))))))
  (.seq (.seq (.region [] [(8, (.const (.int .i64 0)))])
   (.block 8 (.loop (.seq (.seq (.region [⟨.len (.tmp 0), none, 0⟩, ⟨.bin .lss (.tmp 8) (.loc 0), none, 0⟩] [(16, (.loc 0))])
     (.cond (.tmp 16)
      (.skip)
      (.exit 8)))
    (.seq (.block 9 (.seq (.region [⟨.iaddr 1 (.tmp 0) (.tmp 8), none, 0⟩, ⟨.load none (.loc 0), none, 0⟩, ⟨.len (.loc 0), none, 0⟩] [(9, (.loc 0))])
     (.seq (.seq (.region [] [(10, (.const (.int .i64 0)))])
      (.block 10 (.loop (.seq (.seq (.region [⟨.bin .lss (.tmp 10) (.tmp 9), none, 0⟩] [(17, (.loc 0))])
        (.cond (.tmp 17)
         (.skip)
         (.exit 10)))
       (.seq (.block 11 (.seq (.region [⟨.iaddr 1 (.tmp 0) (.tmp 8), none, 0⟩, ⟨.load none (.loc 0), none, 0⟩, ⟨.iaddr 1 (.loc 0) (.tmp 10), none, 0⟩, ⟨.load none (.loc 0), none, 0⟩, ⟨.bin .mul (.const (.int .i64 1000)) (.tmp 8), none, 0⟩, ⟨.bin .add (.loc 0) (.tmp 10), none, 0⟩, ⟨.bin .neq (.loc 2) (.loc 0), none, 0⟩, ⟨.mov (.tmp 4), (some ((.loc 0), false)), 0⟩, ⟨.mov (.tmp 8), (some ((.loc 1), false)), 0⟩, ⟨.iaddr 1 (.loc 1) (.loc 0), (some ((.loc 2), false)), 0⟩, ⟨.load none (.loc 0), (some ((.loc 3), false)), 0⟩, ⟨.mov (.tmp 10), (some ((.loc 4), false)), 0⟩, ⟨.iaddr 1 (.loc 1) (.loc 0), (some ((.loc 5), false)), 0⟩, ⟨.load none (.loc 0), (some ((.loc 6), false)), 0⟩, ⟨.mov (.tmp 8), (some ((.loc 7), false)), 0⟩, ⟨.bin .mul (.const (.int .i64 1000)) (.loc 0), (some ((.loc 8), false)), 0⟩, ⟨.mov (.tmp 10), (some ((.loc 9), false)), 0⟩, ⟨.bin .add (.loc 1) (.loc 0), (some ((.loc 10), false)), 0⟩, ⟨.bin .neq (.loc 4) (.loc 0), (some ((.loc 11), false)), 0⟩, ⟨.pick (.loc 12) (.const (.bool true)) (.loc 0), none, 0⟩] [(18, (.loc 0))])
        (.cond (.tmp 18)
         (.seq (.region [] [(1, (.const (.bool false)))])
          (.ret))
         (.skip))))
       (.region [⟨.bin .add (.tmp 10) (.const (.int .i64 1)), none, 0⟩] [(10, (.loc 0))]))))))
     (.seq (.region [] [(11, (.const (.int .i64 0)))])
     (.block 12 (.loop (.seq (.seq (.region [⟨.bin .lss (.tmp 11) (.const (.int .i64 30)), none, 0⟩] [(19, (.loc 0))])
       (.cond (.tmp 19)
        (.skip)
        (.exit 12)))
      (.seq (.block 13 (.seq (.region [⟨.iaddr 1 (.tmp 4) (.tmp 8), none, 0⟩, ⟨.load none (.loc 0), none, 0⟩, ⟨.bin .add (.tmp 9) (.tmp 11), none, 0⟩, ⟨.iaddr 1 (.loc 1) (.loc 0), none, 0⟩, ⟨.load none (.loc 0), none, 0⟩, ⟨.bin .mul (.const (.int .i64 1000)) (.tmp 8), none, 0⟩, ⟨.bin .add (.const (.int .i64 500000)) (.loc 0), none, 0⟩, ⟨.bin .add (.loc 0) (.tmp 11), none, 0⟩, ⟨.bin .neq (.loc 3) (.loc 0), none, 0⟩] [(20, (.loc 0))])
       (.cond (.tmp 20)
        (.seq (.region [] [(1, (.const (.bool false)))])
         (.ret))
        (.skip))))
      (.region [⟨.bin .add (.tmp 11) (.const (.int .i64 1)), none, 0⟩] [(11, (.loc 0))])))))))))
    (.region [⟨.bin .add (.tmp 8) (.const (.int .i64 1)), none, 0⟩] [(8, (.loc 0))]))))))
  (.seq (.region [] [(1, (.const (.bool true)))])
  (.ret))))))⟩
theorem c30_ok : compileFn Try.prog false 30 = some c30 := by kernel_rfl
noncomputable abbrev c32 : AFunc := FrameAwake.c32
/-- louver/louverkit.LentFunction -/
noncomputable def c35 : AFunc := ⟨[0, 1, 2], [.cell 2 (some 6)],
  .seq (.region [⟨.box (.tmp 0), none, 0⟩, ⟨.alloc [(.int .u64 0), (.slice none 0 0), (.slice none 0 0), (.int .i64 0), (.int .i64 0), (.slice none 0 0)], none, 0⟩] [(1, (.loc 1)), (2, (.loc 0))])
  (.seq (.region [⟨.faddr 1 (.tmp 1), none, 0⟩, ⟨.load none (.loc 0), none, 0⟩, ⟨.call (.func 36) [(.loc 0)], none, 0⟩, ⟨.faddr 1 (.tmp 1), none, 0⟩, ⟨.store 1 (.loc 0) (.loc 1), none, 0⟩] [])
  (.seq (.region [⟨.faddr 2 (.tmp 1), none, 0⟩, ⟨.load none (.loc 0), none, 0⟩, ⟨.call (.func 36) [(.loc 0)], none, 0⟩, ⟨.faddr 2 (.tmp 1), none, 0⟩, ⟨.store 1 (.loc 0) (.loc 1), none, 0⟩] [])
  (.seq (.region [⟨.faddr 5 (.tmp 1), none, 0⟩, ⟨.load none (.loc 0), none, 0⟩, ⟨.call (.func 74) [(.loc 0)], none, 0⟩, ⟨.faddr 5 (.tmp 1), none, 0⟩, ⟨.store 1 (.loc 0) (.loc 1), none, 0⟩] [])
  (.seq (.region [⟨.load (some 6) (.tmp 1), none, 0⟩, ⟨.store 6 (.tmp 2) (.loc 0), none, 0⟩] [])
  (.ret)))))⟩
theorem c35_ok : compileFn Try.prog false 35 = some c35 := by kernel_rfl
/-- louver/louverkit.LentLabels -/
noncomputable def c36 : AFunc := ⟨[0, 2, 3], [.tmp 1],
  .seq (.region [] [(1, (.const (.slice none 0 0)))])
  (.seq (.region [] [(2, (.const (.slice none 0 0)))])
  (.seq (.region [⟨.append false 1 8 (.tmp 2) (.tmp 0), none, 0⟩] [(2, (.loc 0))])
  (.seq (.region [⟨.mkarr 1 [(.int .u64 0)] [(0, 1, (.const (.int .u64 7171)))], none, 0⟩, ⟨.append false 1 8 (.tmp 2) (.loc 0), none, 0⟩] [(2, (.loc 0))])
  (.seq (.region [⟨.len (.tmp 0), none, 0⟩, ⟨.slice 1 (.tmp 2) none (some (.loc 0)) none, none, 0⟩] [(1, (.loc 0))])
  (.ret)))))⟩
theorem c36_ok : compileFn Try.prog false 36 = some c36 := by kernel_rfl
noncomputable abbrev c39 : AFunc := FrameAwake.c39
/-- louver/louverkit.KeptFunction -/
noncomputable def c40 : AFunc := ⟨[0, 1, 2, 3, 4], [.tmp 4],
  .seq (.region [⟨.box (.tmp 0), none, 0⟩, ⟨.box (.tmp 1), none, 0⟩] [(2, (.loc 1)), (3, (.loc 0)), (4, (.const (.bool false)))])
  (.seq (.region [⟨.faddr 0 (.tmp 2), none, 0⟩, ⟨.load none (.loc 0), none, 0⟩, ⟨.faddr 0 (.tmp 3), none, 0⟩, ⟨.load none (.loc 0), none, 0⟩, ⟨.bin .eql (.loc 2) (.loc 0), none, 0⟩, ⟨.faddr 3 (.tmp 2), (some ((.loc 0), true)), 0⟩, ⟨.load none (.loc 0), (some ((.loc 1), true)), 0⟩, ⟨.faddr 3 (.tmp 3), (some ((.loc 2), true)), 0⟩, ⟨.load none (.loc 0), (some ((.loc 3), true)), 0⟩, ⟨.bin .eql (.loc 2) (.loc 0), (some ((.loc 4), true)), 0⟩, ⟨.pick (.loc 5) (.loc 0) (.const (.bool false)), none, 0⟩, ⟨.faddr 4 (.tmp 2), (some ((.loc 0), true)), 0⟩, ⟨.load none (.loc 0), (some ((.loc 1), true)), 0⟩, ⟨.faddr 4 (.tmp 3), (some ((.loc 2), true)), 0⟩, ⟨.load none (.loc 0), (some ((.loc 3), true)), 0⟩, ⟨.bin .eql (.loc 2) (.loc 0), (some ((.loc 4), true)), 0⟩, ⟨.pick (.loc 5) (.loc 0) (.const (.bool false)), none, 0⟩, ⟨.faddr 1 (.tmp 2), (some ((.loc 0), true)), 0⟩, ⟨.load none (.loc 0), (some ((.loc 1), true)), 0⟩, ⟨.faddr 1 (.tmp 3), (some ((.loc 2), true)), 0⟩, ⟨.load none (.loc 0), (some ((.loc 3), true)), 0⟩, ⟨.call (.func 41) [(.loc 2), (.loc 0)], (some ((.loc 4), true)), 0⟩, ⟨.pick (.loc 5) (.loc 0) (.const (.bool false)), none, 0⟩, ⟨.faddr 2 (.tmp 2), (some ((.loc 0), true)), 0⟩, ⟨.load none (.loc 0), (some ((.loc 1), true)), 0⟩, ⟨.faddr 2 (.tmp 3), (some ((.loc 2), true)), 0⟩, ⟨.load none (.loc 0), (some ((.loc 3), true)), 0⟩, ⟨.call (.func 41) [(.loc 2), (.loc 0)], (some ((.loc 4), true)), 0⟩, ⟨.pick (.loc 5) (.loc 0) (.const (.bool false)), none, 0⟩, ⟨.faddr 5 (.tmp 2), (some ((.loc 0), true)), 0⟩, ⟨.load none (.loc 0), (some ((.loc 1), true)), 0⟩, ⟨.faddr 5 (.tmp 3), (some ((.loc 2), true)), 0⟩, ⟨.load none (.loc 0), (some ((.loc 3), true)), 0⟩, ⟨.call (.func 78) [(.loc 2), (.loc 0)], (some ((.loc 4), true)), 0⟩, ⟨.pick (.loc 5) (.loc 0) (.const (.bool false)), none, 0⟩] [(4, (.loc 0))])
  (.ret))⟩
theorem c40_ok : compileFn Try.prog false 40 = some c40 := by kernel_rfl
/-- louver/louverkit.KeptLabels -/
noncomputable def c41 : AFunc := ⟨[0, 1, 4, 5, 9], [.tmp 2],
  .seq (.region [] [(2, (.const (.bool false)))])
  (.seq (.seq (.region [⟨.call (.func 39) [(.tmp 0), (.tmp 1)], none, 0⟩, ⟨.not (.loc 0), none, 0⟩] [(4, (.loc 0))])
   (.cond (.tmp 4)
    (.seq (.region [] [(2, (.const (.bool false)))])
     (.ret))
    (.skip)))
  (.seq (.region [⟨.len (.tmp 0), none, 0⟩, ⟨.bin .add (.loc 0) (.const (.int .i64 1)), none, 0⟩, ⟨.slice 1 (.tmp 0) none (some (.loc 0)) none, none, 0⟩] [(3, (.loc 0))])
  (.seq (.region [⟨.len (.tmp 0), none, 0⟩, ⟨.iaddr 1 (.tmp 3) (.loc 0), none, 0⟩, ⟨.load none (.loc 0), none, 0⟩, ⟨.bin .eql (.loc 0) (.const (.int .u64 7171)), none, 0⟩] [(2, (.loc 0))])
  (.ret))))⟩
theorem c41_ok : compileFn Try.prog false 41 = some c41 := by kernel_rfl
noncomputable abbrev c52 : AFunc := FrameAwake.c52
noncomputable abbrev c53 : AFunc := FrameAwake.c53
noncomputable abbrev c54 : AFunc := FrameAwake.c54
noncomputable abbrev c55 : AFunc := FrameAwake.c55
noncomputable abbrev c56 : AFunc := FrameAwake.c56
noncomputable abbrev c60 : AFunc := FrameAwake.c60
noncomputable abbrev c61 : AFunc := FrameAwake.c61
noncomputable abbrev c62 : AFunc := FrameAwake.c62
noncomputable abbrev c67 : AFunc := FrameAwake.c67
noncomputable abbrev c70 : AFunc := FrameAwake.c70
noncomputable abbrev c71 : AFunc := FrameAwake.c71
noncomputable abbrev c72 : AFunc := FrameAwake.c72
noncomputable abbrev c73 : AFunc := FrameAwake.c73
/-- louver/louverkit.LentCode -/
noncomputable def c74 : AFunc := ⟨[0, 2, 3], [.tmp 1],
  .seq (.region [] [(1, (.const (.slice none 0 0)))])
  (.seq (.region [] [(2, (.const (.slice none 0 0)))])
  (.seq (.region [⟨.append false 2 16 (.tmp 2) (.tmp 0), none, 0⟩] [(2, (.loc 0))])
  (.seq (.region [⟨.build [(.int .i64 0), (.int .i64 0)] [(0, 1, (.const (.int .i64 (-71))))], none, 0⟩, ⟨.mkarr 1 [(.int .i64 0), (.int .i64 0)] [(0, 2, (.loc 0))], none, 0⟩, ⟨.append false 2 16 (.tmp 2) (.loc 0), none, 0⟩] [(2, (.loc 0))])
  (.seq (.region [⟨.len (.tmp 0), none, 0⟩, ⟨.slice 2 (.tmp 2) none (some (.loc 0)) none, none, 0⟩] [(1, (.loc 0))])
  (.ret)))))⟩
theorem c74_ok : compileFn Try.prog false 74 = some c74 := by kernel_rfl
/-- louver/louverkit.KeptCode -/
noncomputable def c78 : AFunc := ⟨[0, 1, 4, 5, 9], [.tmp 2],
  .seq (.region [] [(2, (.const (.bool false)))])
  (.seq (.seq (.region [⟨.call (.func 105) [(.tmp 0), (.tmp 1)], none, 0⟩, ⟨.not (.loc 0), none, 0⟩] [(4, (.loc 0))])
   (.cond (.tmp 4)
    (.seq (.region [] [(2, (.const (.bool false)))])
     (.ret))
    (.skip)))
  (.seq (.region [⟨.len (.tmp 0), none, 0⟩, ⟨.bin .add (.loc 0) (.const (.int .i64 1)), none, 0⟩, ⟨.slice 2 (.tmp 0) none (some (.loc 0)) none, none, 0⟩] [(3, (.loc 0))])
  (.seq (.region [⟨.len (.tmp 0), none, 0⟩, ⟨.iaddr 2 (.tmp 3) (.loc 0), none, 0⟩, ⟨.load (some 2) (.loc 0), none, 0⟩, ⟨.build [(.int .i64 0), (.int .i64 0)] [(0, 1, (.const (.int .i64 (-71))))], none, 0⟩, ⟨.flat (.bin .eql 62 (.tmp 19) (.tmp 20)) [(.loc 1), (.loc 0)], none, 0⟩] [(2, (.loc 0))])
  (.ret))))⟩
theorem c78_ok : compileFn Try.prog false 78 = some c78 := by kernel_rfl
noncomputable abbrev c90 : AFunc := FrameAwake.c90
noncomputable abbrev c91 : AFunc := FrameAwake.c91
noncomputable abbrev c92 : AFunc := FrameAwake.c92
noncomputable abbrev c93 : AFunc := FrameAwake.c93
noncomputable abbrev c94 : AFunc := FrameAwake.c94
noncomputable abbrev c95 : AFunc := FrameAwake.c95
noncomputable abbrev c96 : AFunc := FrameAwake.c96
noncomputable abbrev c97 : AFunc := FrameAwake.c97
noncomputable abbrev c98 : AFunc := FrameAwake.c98
noncomputable abbrev c102 : AFunc := FrameAwake.c102
/-- louver/louverkit.Code -/
noncomputable def c105 : AFunc := ⟨[0, 1, 4, 5, 10, 14, 25], [.tmp 2],
  .seq (.region [] [(2, (.const (.bool false)))])
  (.seq (.seq (.region [⟨.len (.tmp 0), none, 0⟩, ⟨.len (.tmp 1), none, 0⟩, ⟨.bin .neq (.loc 1) (.loc 0), none, 0⟩] [(4, (.loc 0))])
   (.cond (.tmp 4)
    (.seq (.region [] [(2, (.const (.bool false)))])
     (.ret))
    (.skip)))
  (.seq (.seq (.region [] [(3, (.const (.int .i64 0)))])
   (.block 0 (.loop (.seq (.seq (.region [⟨.len (.tmp 0), none, 0⟩, ⟨.bin .lss (.tmp 3) (.loc 0), none, 0⟩] [(5, (.loc 0))])
     (.cond (.tmp 5)
      (.skip)
      (.exit 0)))
    (.seq (.block 1 (.seq (.draw [⟨.iaddr 2 (.tmp 0) (.tmp 3), none, 0⟩, ⟨.load (some 2) (.loc 0), none, 0⟩, ⟨.iaddr 2 (.tmp 1) (.tmp 3), none, 0⟩, ⟨.load (some 2) (.loc 0), none, 0⟩, ⟨.flat (.bin .neq 62 (.tmp 20) (.tmp 24)) [(.loc 2), (.loc 0)], none, 0⟩] [(6, (.loc 0))])
     (.cond (.tmp 6)
      (.seq (.region [] [(2, (.const (.bool false)))])
       (.ret))
      (.skip))))
    (.region [⟨.bin .add (.tmp 3) (.const (.int .i64 1)), none, 0⟩] [(3, (.loc 0))]))))))
  (.seq (.region [] [(2, (.const (.bool true)))])
  (.ret))))⟩
theorem c105_ok : compileFn Try.prog false 105 = some c105 := by kernel_rfl
noncomputable abbrev c112 : AFunc := FrameAwake.c112
noncomputable abbrev c113 : AFunc := FrameAwake.c113
noncomputable abbrev c114 : AFunc := FrameAwake.c114
noncomputable def list : List (Option AFunc) := [none, none, none, none, none, some c5, none, none, none, none, none, none, none, some c13, some c14, some FrameAwake.c15, none, none, some c18, some c19, some FrameAwake.c20, none, none, none, none, some c25, none, none, some c28, some c29, some c30, none, some FrameAwake.c32, none, none, some c35, some c36, none, none, some FrameAwake.c39, some c40, some c41, none, none, none, none, none, none, none, none, none, none, some FrameAwake.c52, some FrameAwake.c53, some FrameAwake.c54, some FrameAwake.c55, some FrameAwake.c56, none, none, none, some FrameAwake.c60, some FrameAwake.c61, some FrameAwake.c62, none, none, none, none, some FrameAwake.c67, none, none, some FrameAwake.c70, some FrameAwake.c71, some FrameAwake.c72, some FrameAwake.c73, some c74, none, none, none, some c78, none, none, none, none, none, none, none, none, none, none, none, some FrameAwake.c90, some FrameAwake.c91, some FrameAwake.c92, some FrameAwake.c93, some FrameAwake.c94, some FrameAwake.c95, some FrameAwake.c96, some FrameAwake.c97, some FrameAwake.c98, none, none, none, some FrameAwake.c102, none, none, some c105, none, none, none, none, none, none, some FrameAwake.c112, some FrameAwake.c113, some FrameAwake.c114]
noncomputable def fns : TV (Option AFunc) := Vec.ofList list
def none1 (args : List Value) (H : AH TV) : Option (Value × AH TV) := match args with | [] => some (.bool true, H) | _ => none
noncomputable def ext (f : FuncId) (args : List Value) (H : AH TV) : Option (Value × AH TV) := bif Nat.beq f 63 then ains 63 f args H else bif Nat.beq f 27 then none1 args H else none
noncomputable def E : Env TV := { P := Try.prog, fn := fun f => (Vec.get fns f).getD none, ext := ext }
theorem all_ok : OkFrom Try.prog 0 list := ⟨⟨false, c5_ok⟩, ⟨⟨false, c13_ok⟩, ⟨⟨false, c14_ok⟩, ⟨⟨false, FrameAwake.c15_ok⟩, ⟨⟨false, c18_ok⟩, ⟨⟨false, c19_ok⟩, ⟨⟨false, FrameAwake.c20_ok⟩, ⟨⟨false, c25_ok⟩, ⟨⟨false, c28_ok⟩, ⟨⟨true, c29_ok⟩, ⟨⟨false, c30_ok⟩, ⟨⟨false, FrameAwake.c32_ok⟩, ⟨⟨false, c35_ok⟩, ⟨⟨false, c36_ok⟩, ⟨⟨false, FrameAwake.c39_ok⟩, ⟨⟨false, c40_ok⟩, ⟨⟨false, c41_ok⟩, ⟨⟨false, FrameAwake.c52_ok⟩, ⟨⟨false, FrameAwake.c53_ok⟩, ⟨⟨false, FrameAwake.c54_ok⟩, ⟨⟨false, FrameAwake.c55_ok⟩, ⟨⟨false, FrameAwake.c56_ok⟩, ⟨⟨false, FrameAwake.c60_ok⟩, ⟨⟨false, FrameAwake.c61_ok⟩, ⟨⟨false, FrameAwake.c62_ok⟩, ⟨⟨false, FrameAwake.c67_ok⟩, ⟨⟨false, FrameAwake.c70_ok⟩, ⟨⟨false, FrameAwake.c71_ok⟩, ⟨⟨false, FrameAwake.c72_ok⟩, ⟨⟨false, FrameAwake.c73_ok⟩, ⟨⟨false, c74_ok⟩, ⟨⟨false, c78_ok⟩, ⟨⟨false, FrameAwake.c90_ok⟩, ⟨⟨false, FrameAwake.c91_ok⟩, ⟨⟨false, FrameAwake.c92_ok⟩, ⟨⟨false, FrameAwake.c93_ok⟩, ⟨⟨false, FrameAwake.c94_ok⟩, ⟨⟨false, FrameAwake.c95_ok⟩, ⟨⟨false, FrameAwake.c96_ok⟩, ⟨⟨false, FrameAwake.c97_ok⟩, ⟨⟨false, FrameAwake.c98_ok⟩, ⟨⟨false, FrameAwake.c102_ok⟩, ⟨⟨false, c105_ok⟩, ⟨⟨false, FrameAwake.c112_ok⟩, ⟨⟨false, FrameAwake.c113_ok⟩, ⟨⟨false, FrameAwake.c114_ok⟩, trivial⟩⟩⟩⟩⟩⟩⟩⟩⟩⟩⟩⟩⟩⟩⟩⟩⟩⟩⟩⟩⟩⟩⟩⟩⟩⟩⟩⟩⟩⟩⟩⟩⟩⟩⟩⟩⟩⟩⟩⟩⟩⟩⟩⟩⟩⟩
theorem ext_ok (f : FuncId) (args : List Value) (H : AH TV) (v : Value) (H' : AH TV) (h : ext f args H = some (v, H')) : CallsOk Try.prog f args H v H' := by
  unfold ext at h
  cases hb : Nat.beq f 63 with
  | true =>
    rw [hb] at h
    exact FrIns.ins_ok h
  | false =>
  rw [hb] at h
  cases hb : Nat.beq f 27 with
  | true =>
    have hf : f = 27 := Nat.eq_of_beq_eq_true hb
    rw [hb] at h
    cases args with
    | nil =>
      simp only [none1, cond_true, Option.some.injEq, Prod.mk.injEq] at h
      obtain ⟨rfl, rfl⟩ := h
      rw [hf]
      exact closed_ok FrameAwake.env_ok FrameAwake.run rfl H
    | cons a r => cases h
  | false =>
  rw [hb] at h
  cases h
theorem env_ok : EnvOk E := ⟨fun f fn h => fn_of all_ok h, ext_ok, draw_ok (by kernel_rfl)⟩
end Go.Proofs.Ytollibkfagjnaaa.Shape
