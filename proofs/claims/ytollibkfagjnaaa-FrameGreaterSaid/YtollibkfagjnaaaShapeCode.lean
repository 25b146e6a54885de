/- The functions that louver/louverlaw17.FrameGreater reaches, compiled; that each is what 'compileFn' comes to. PRINTED by code.py. -/
import Derived.Test.YtollibkfagjnaaaAMb
import Derived.Test.YtollibkfagjnaaaFrameAwakeRun
import Derived.Test.YtollibkfagjnaaaFrIns
import Derived.Test.YtollibkfagjnaaaFrameAwakeCode
import Derived.Test.YtollibkfagjnaaaProg
import Derived.KernelRfl
set_option linter.unusedVariables false
set_option maxRecDepth 100000
namespace Go.Proofs.Ytollibkfagjnaaa.Shape
open Go.Proofs.Ytollibkfagjnaaa.AM
/-- louver/louverlaw17.FrameGreater -/
noncomputable def c7 : AFunc := ⟨[0, 1, 2, 3, 4, 5, 6, 7, 10, 11, 14, 15, 16, 17, 18, 19, 20, 21, 22, 23, 24, 25, 26, 28, 36, 56, 115, 136, 153, 161, 171], [.tmp 10],
  .seq (.region [⟨.box (.tmp 0), none, 0⟩, ⟨.box (.tmp 3), none, 0⟩, ⟨.box (.tmp 4), none, 0⟩] [(7, (.loc 2)), (8, (.loc 1)), (9, (.loc 0)), (10, (.const (.bool false)))])
  (.seq (.seq (.region [⟨.call (.func 27) [], none, 0⟩, ⟨.not (.loc 0), none, 0⟩] [(23, (.loc 0))])
   (.cond (.tmp 23)
    (.seq (.region [] [(10, (.const (.bool false)))])
     (.ret))
    (.skip)))
  (.seq (.region [⟨.load (some 2) (.tmp 8), none, 0⟩, ⟨.load (some 2) (.tmp 9), none, 0⟩, ⟨.call (.func 28) [(.loc 1), (.loc 0)], none, 0⟩, ⟨.ext (.loc 0) 0, none, 0⟩, ⟨.ext (.loc 1) 1, none, 0⟩, ⟨.alloc [(.slice none 0 0), (.slice none 0 0)], none, 0⟩, ⟨.store 2 (.loc 0) (.loc 2), none, 0⟩] [(11, (.loc 1)), (12, (.loc 2))])
  (.seq (.seq (.region [⟨.not (.tmp 12), none, 0⟩] [(24, (.loc 0))])
   (.cond (.tmp 24)
    (.seq (.region [⟨.faddr 0 (.tmp 11), none, 0⟩, ⟨.load none (.loc 0), none, 0⟩, ⟨.len (.loc 0), none, 0⟩, ⟨.bin .eql (.loc 0) (.const (.int .i64 0)), none, 0⟩, ⟨.faddr 1 (.tmp 11), (some ((.loc 0), true)), 0⟩, ⟨.load none (.loc 0), (some ((.loc 1), true)), 0⟩, ⟨.len (.loc 0), (some ((.loc 2), true)), 0⟩, ⟨.bin .eql (.loc 0) (.const (.int .i64 0)), (some ((.loc 3), true)), 0⟩, ⟨.pick (.loc 4) (.loc 0) (.const (.bool false)), none, 0⟩] [(10, (.loc 0))])
     (.ret))
    (.skip)))
  (.seq (.seq (.region [⟨.load (some 2) (.tmp 8), none, 0⟩, ⟨.load (some 2) (.tmp 11), none, 0⟩, ⟨.call (.func 33) [(.loc 1), (.loc 0)], none, 0⟩, ⟨.not (.loc 0), none, 0⟩, ⟨.load (some 2) (.tmp 9), (some ((.loc 0), false)), 0⟩, ⟨.load (some 2) (.tmp 11), (some ((.loc 1), false)), 0⟩, ⟨.call (.func 33) [(.loc 1), (.loc 0)], (some ((.loc 2), false)), 0⟩, ⟨.not (.loc 0), (some ((.loc 3), false)), 0⟩, ⟨.pick (.loc 4) (.const (.bool true)) (.loc 0), none, 0⟩] [(25, (.loc 0))])
   (.cond (.tmp 25)
    (.seq (.region [] [(10, (.const (.bool false)))])
     (.ret))
    (.skip)))
  (.seq (.draw [⟨.load (some 2) (.tmp 8), none, 0⟩, ⟨.call (.func 14) [(.loc 0)], none, 0⟩, ⟨.load (some 4) (.tmp 7), none, 0⟩, ⟨.call (.func 15) [(.loc 0), (.tmp 1), (.tmp 2), (.loc 1), (.tmp 5)], none, 1⟩, ⟨.ext (.loc 0) 0, none, 2⟩, ⟨.alloc [(.slice none 0 0), (.slice none 0 0)], none, 0⟩, ⟨.store 2 (.loc 0) (.loc 1), none, 2⟩, ⟨.ext (.loc 3) 1, none, 2⟩, ⟨.ext (.loc 4) 2, none, 2⟩] [(13, (.loc 3)), (14, (.loc 1)), (15, (.loc 0))])
  (.seq (.draw [⟨.load (some 2) (.tmp 11), none, 0⟩, ⟨.call (.func 14) [(.loc 0)], none, 0⟩, ⟨.load (some 4) (.tmp 7), none, 0⟩, ⟨.bin .or (.tmp 5) (.tmp 6), none, 0⟩, ⟨.call (.func 15) [(.loc 1), (.tmp 1), (.tmp 2), (.loc 2), (.loc 0)], none, 1⟩, ⟨.ext (.loc 0) 0, none, 2⟩, ⟨.alloc [(.slice none 0 0), (.slice none 0 0)], none, 0⟩, ⟨.store 2 (.loc 0) (.loc 1), none, 2⟩, ⟨.ext (.loc 3) 1, none, 2⟩, ⟨.ext (.loc 4) 2, none, 2⟩] [(16, (.loc 3)), (17, (.loc 1)), (18, (.loc 0))])
  (.seq (.seq (.region [⟨.faddr 0 (.tmp 13), none, 0⟩, ⟨.load none (.loc 0), none, 0⟩, ⟨.len (.loc 0), none, 0⟩, ⟨.faddr 0 (.tmp 16), none, 0⟩, ⟨.load none (.loc 0), none, 0⟩, ⟨.len (.loc 0), none, 0⟩, ⟨.bin .neq (.loc 3) (.loc 0), none, 0⟩, ⟨.faddr 1 (.tmp 13), (some ((.loc 0), false)), 0⟩, ⟨.load none (.loc 0), (some ((.loc 1), false)), 0⟩, ⟨.len (.loc 0), (some ((.loc 2), false)), 0⟩, ⟨.faddr 1 (.tmp 16), (some ((.loc 3), false)), 0⟩, ⟨.load none (.loc 0), (some ((.loc 4), false)), 0⟩, ⟨.len (.loc 0), (some ((.loc 5), false)), 0⟩, ⟨.bin .neq (.loc 3) (.loc 0), (some ((.loc 6), false)), 0⟩, ⟨.pick (.loc 7) (.const (.bool true)) (.loc 0), none, 0⟩, ⟨.load (some 2) (.tmp 13), (some ((.loc 0), false)), 0⟩, ⟨.load (some 2) (.tmp 16), (some ((.loc 1), false)), 0⟩, ⟨.call (.func 33) [(.loc 1), (.loc 0)], (some ((.loc 2), false)), 0⟩, ⟨.not (.loc 0), (some ((.loc 3), false)), 0⟩, ⟨.pick (.loc 4) (.const (.bool true)) (.loc 0), none, 0⟩, ⟨.mov (.tmp 14), (some ((.loc 0), false)), 0⟩, ⟨.mov (.tmp 17), (some ((.loc 1), false)), 0⟩, ⟨.bin .andNot (.loc 1) (.loc 0), (some ((.loc 2), false)), 0⟩, ⟨.bin .neq (.loc 0) (.const (.int .u64 0)), (some ((.loc 3), false)), 0⟩, ⟨.pick (.loc 4) (.const (.bool true)) (.loc 0), none, 0⟩, ⟨.mov (.tmp 18), (some ((.loc 0), false)), 0⟩, ⟨.mov (.loc 0), (some ((.loc 1), false)), 0⟩, ⟨.mov (.tmp 15), (some ((.loc 0), true)), 0⟩, ⟨.not (.loc 0), (some ((.loc 1), true)), 0⟩, ⟨.pick (.loc 2) (.loc 0) (.const (.bool false)), (some ((.loc 4), false)), 0⟩, ⟨.pick (.loc 5) (.const (.bool true)) (.loc 0), none, 0⟩] [(26, (.loc 0))])
   (.cond (.tmp 26)
    (.seq (.region [] [(10, (.const (.bool false)))])
     (.ret))
    (.skip)))
  (.seq (.region [⟨.load (some 4) (.tmp 7), none, 0⟩, ⟨.call (.func 22) [(.loc 0), (.tmp 1), (.tmp 2)], none, 0⟩, ⟨.ext (.loc 0) 0, none, 0⟩, ⟨.ext (.loc 1) 1, none, 0⟩] [(19, (.loc 1)), (20, (.loc 0))])
  (.seq (.seq (.region [⟨.faddr 1 (.tmp 13), none, 0⟩, ⟨.load none (.loc 0), none, 0⟩, ⟨.len (.loc 0), none, 0⟩, ⟨.bin .eql (.loc 0) (.const (.int .i64 0)), none, 0⟩, ⟨.faddr 0 (.tmp 13), (some ((.loc 0), true)), 0⟩, ⟨.load none (.loc 0), (some ((.loc 1), true)), 0⟩, ⟨.len (.loc 0), (some ((.loc 2), true)), 0⟩, ⟨.bin .eql (.loc 0) (.const (.int .i64 0)), (some ((.loc 3), true)), 0⟩, ⟨.pick (.loc 4) (.loc 0) (.const (.bool false)), none, 0⟩, ⟨.mov (.tmp 14), (some ((.loc 0), true)), 0⟩, ⟨.bin .eql (.loc 0) (.const (.int .u64 0)), (some ((.loc 1), true)), 0⟩, ⟨.pick (.loc 2) (.loc 0) (.const (.bool false)), none, 0⟩] [(27, (.loc 0))])
   (.cond (.tmp 27)
    (.seq (.region [] [(10, (.const (.bool true)))])
     (.ret))
    (.skip)))
  (.seq (.region [⟨.faddr 0 (.tmp 13), none, 0⟩, ⟨.load none (.loc 0), none, 0⟩, ⟨.len (.loc 0), none, 0⟩] [(21, (.loc 0))])
  (.seq (.seq (.region [⟨.bin .lss (.tmp 21) (.tmp 20), none, 0⟩, ⟨.mov (.tmp 21), (some ((.loc 0), false)), 0⟩, ⟨.faddr 0 (.tmp 8), (some ((.loc 1), false)), 0⟩, ⟨.load none (.loc 0), (some ((.loc 2), false)), 0⟩, ⟨.len (.loc 0), (some ((.loc 3), false)), 0⟩, ⟨.mov (.tmp 19), (some ((.loc 4), false)), 0⟩, ⟨.bin .sub (.loc 1) (.loc 0), (some ((.loc 5), false)), 0⟩, ⟨.mov (.tmp 20), (some ((.loc 6), false)), 0⟩, ⟨.bin .add (.loc 1) (.loc 0), (some ((.loc 7), false)), 0⟩, ⟨.bin .neq (.loc 7) (.loc 0), (some ((.loc 8), false)), 0⟩, ⟨.pick (.loc 9) (.const (.bool true)) (.loc 0), none, 0⟩] [(28, (.loc 0))])
   (.cond (.tmp 28)
    (.seq (.region [⟨.bin .eql (.tmp 21) (.const (.int .i64 0)), none, 0⟩] [(10, (.loc 0))])
     (.ret))
    (.skip)))
  (.seq (.seq (.region [⟨.bin .sub (.tmp 21) (.tmp 20), none, 0⟩] [(22, (.loc 0))])
   (.block 0 (.loop (.seq (.seq (.region [⟨.bin .lss (.tmp 22) (.tmp 21), none, 0⟩] [(29, (.loc 0))])
     (.cond (.tmp 29)
      (.skip)
      (.exit 0)))
    (.seq (.block 1 (.seq (.region [⟨.faddr 0 (.tmp 13), none, 0⟩, ⟨.load none (.loc 0), none, 0⟩, ⟨.iaddr 1 (.loc 0) (.tmp 22), none, 0⟩, ⟨.load none (.loc 0), none, 0⟩, ⟨.bin .andNot (.tmp 5) (.loc 0), none, 0⟩, ⟨.bin .neq (.loc 0) (.const (.int .u64 0)), none, 0⟩] [(30, (.loc 0))])
     (.cond (.tmp 30)
      (.seq (.region [] [(10, (.const (.bool false)))])
       (.ret))
      (.skip))))
    (.region [⟨.bin .add (.tmp 22) (.const (.int .i64 1)), none, 0⟩] [(22, (.loc 0))]))))))
  (.seq (.region [⟨.faddr 3 (.tmp 7), none, 0⟩, ⟨.load none (.loc 0), none, 0⟩, ⟨.iaddr 6 (.loc 0) (.tmp 1), none, 0⟩, ⟨.faddr 5 (.loc 0), none, 0⟩, ⟨.load none (.loc 0), none, 0⟩, ⟨.iaddr 2 (.loc 0) (.tmp 2), none, 0⟩, ⟨.faddr 0 (.loc 0), none, 0⟩, ⟨.load none (.loc 0), none, 0⟩, ⟨.bin .neq (.loc 0) (.const (.int .i64 44)), none, 0⟩, ⟨.mov (.tmp 5), (some ((.loc 0), false)), 0⟩, ⟨.mov (.tmp 14), (some ((.loc 1), false)), 0⟩, ⟨.bin .andNot (.loc 1) (.loc 0), (some ((.loc 2), false)), 0⟩, ⟨.bin .eql (.loc 0) (.const (.int .u64 0)), (some ((.loc 3), false)), 0⟩, ⟨.pick (.loc 4) (.const (.bool true)) (.loc 0), none, 0⟩] [(10, (.loc 0))])
  (.ret))))))))))))))⟩
theorem c7_ok : compileFn Try.prog false 7 = some c7 := by kernel_rfl
/-- louver/louverkit.LentFrame -/
noncomputable def c14 : AFunc := ⟨[0, 1, 2], [.cell 2 (some 2)],
  .seq (.region [⟨.box (.tmp 0), none, 0⟩, ⟨.alloc [(.slice none 0 0), (.slice none 0 0)], none, 0⟩] [(1, (.loc 1)), (2, (.loc 0))])
  (.seq (.draw [⟨.faddr 0 (.tmp 1), none, 0⟩, ⟨.load none (.loc 0), none, 0⟩, ⟨.call (.func 36) [(.loc 0)], none, 0⟩, ⟨.faddr 1 (.tmp 1), none, 0⟩, ⟨.load none (.loc 0), none, 0⟩, ⟨.call (.func 36) [(.loc 0)], none, 1⟩, ⟨.build [(.slice none 0 0), (.slice none 0 0)] [(0, 1, (.loc 3)), (1, 1, (.loc 0))], none, 2⟩, ⟨.store 2 (.tmp 2) (.loc 0), none, 2⟩] [])
  (.ret))⟩
theorem c14_ok : compileFn Try.prog false 14 = some c14 := by kernel_rfl
noncomputable abbrev c15 : AFunc := FrameAwake.c15
/-- louver/frame.Effect -/
noncomputable def c22 : AFunc := ⟨[0, 1, 2, 3, 6, 7, 12], [.tmp 4, .tmp 5],
  .seq (.region [⟨.box (.tmp 0), none, 0⟩] [(3, (.loc 0)), (4, (.const (.int .i64 0))), (5, (.const (.int .i64 0)))])
  (.seq (.seq (.region [⟨.load (some 4) (.tmp 3), none, 0⟩, ⟨.call (.func 52) [(.loc 0), (.tmp 1), (.tmp 2)], none, 0⟩, ⟨.not (.loc 0), none, 0⟩] [(6, (.loc 0))])
   (.cond (.tmp 6)
    (.seq (.region [] [(4, (.const (.int .i64 0))), (5, (.const (.int .i64 0)))])
     (.ret))
    (.skip)))
  (.seq (.draw [⟨.load (some 4) (.tmp 3), none, 0⟩, ⟨.faddr 3 (.tmp 3), none, 0⟩, ⟨.load none (.loc 0), none, 0⟩, ⟨.iaddr 6 (.loc 0) (.tmp 1), none, 0⟩, ⟨.faddr 5 (.loc 0), none, 0⟩, ⟨.load none (.loc 0), none, 0⟩, ⟨.iaddr 2 (.loc 0) (.tmp 2), none, 0⟩, ⟨.load (some 2) (.loc 0), none, 0⟩, ⟨.call (.func 54) [(.loc 7), (.tmp 1), (.loc 0)], none, 0⟩, ⟨.ext (.loc 0) 0, none, 1⟩, ⟨.ext (.loc 1) 1, none, 1⟩] [(4, (.loc 1)), (5, (.loc 0))])
  (.ret)))⟩
theorem c22_ok : compileFn Try.prog false 22 = some c22 := by kernel_rfl
/-- louver/frame.Join -/
noncomputable def c28 : AFunc := ⟨[0, 1, 2, 3, 4, 5, 6, 7, 8, 9, 10, 26, 29, 30, 31, 32, 51, 52, 53, 54], [.cell 4 (some 2), .tmp 5],
  .seq (.region [⟨.box (.tmp 0), none, 0⟩, ⟨.box (.tmp 1), none, 0⟩, ⟨.alloc [(.slice none 0 0), (.slice none 0 0)], none, 0⟩] [(2, (.loc 2)), (3, (.loc 1)), (4, (.loc 0)), (5, (.const (.bool false)))])
  (.seq (.seq (.region [⟨.faddr 0 (.tmp 2), none, 0⟩, ⟨.load none (.loc 0), none, 0⟩, ⟨.len (.loc 0), none, 0⟩, ⟨.faddr 0 (.tmp 3), none, 0⟩, ⟨.load none (.loc 0), none, 0⟩, ⟨.len (.loc 0), none, 0⟩, ⟨.bin .neq (.loc 3) (.loc 0), none, 0⟩, ⟨.faddr 1 (.tmp 2), (some ((.loc 0), false)), 0⟩, ⟨.load none (.loc 0), (some ((.loc 1), false)), 0⟩, ⟨.len (.loc 0), (some ((.loc 2), false)), 0⟩, ⟨.faddr 1 (.tmp 3), (some ((.loc 3), false)), 0⟩, ⟨.load none (.loc 0), (some ((.loc 4), false)), 0⟩, ⟨.len (.loc 0), (some ((.loc 5), false)), 0⟩, ⟨.bin .neq (.loc 3) (.loc 0), (some ((.loc 6), false)), 0⟩, ⟨.pick (.loc 7) (.const (.bool true)) (.loc 0), none, 0⟩] [(11, (.loc 0))])
   (.cond (.tmp 11)
    (.seq (.region [⟨.build [(.slice none 0 0), (.slice none 0 0)] [], none, 0⟩, ⟨.store 2 (.tmp 4) (.loc 0), none, 0⟩] [(5, (.const (.bool false)))])
     (.ret))
    (.skip)))
  (.seq (.region [⟨.alloc [(.slice none 0 0), (.slice none 0 0)], none, 0⟩] [(6, (.loc 0))])
  (.seq (.seq (.region [⟨.faddr 0 (.tmp 2), none, 0⟩, ⟨.load none (.loc 0), none, 0⟩, ⟨.len (.loc 0), none, 0⟩] [(12, (.loc 1)), (13, (.loc 0)), (14, (.const (.int .i64 0)))])
   (.block 0 (.loop (.seq (.region [⟨.bin .lss (.tmp 14) (.tmp 13), none, 0⟩] [(15, (.loc 0))])
    (.seq (.cond (.tmp 15)
      (.skip)
      (.exit 0))
    (.seq (.block 1 (.seq (.region [⟨.iaddr 1 (.tmp 12) (.tmp 14), none, 0⟩, ⟨.load none (.loc 0), none, 0⟩] [(7, (.tmp 14)), (8, (.loc 0))])
     (.draw [⟨.faddr 0 (.tmp 3), none, 0⟩, ⟨.load none (.loc 0), none, 0⟩, ⟨.iaddr 1 (.loc 0) (.tmp 7), none, 0⟩, ⟨.load none (.loc 0), none, 0⟩, ⟨.mkarr 2 [(.int .u64 0), (.int .u64 0)] [(0, 1, (.tmp 8)), (1, 1, (.loc 0))], none, 0⟩, ⟨.call (.func 67) [(.loc 0)], none, 0⟩, ⟨.faddr 0 (.tmp 6), none, 0⟩, ⟨.load none (.loc 0), none, 0⟩, ⟨.mkarr 1 [(.int .u64 0)] [(0, 1, (.loc 2))], none, 1⟩, ⟨.append false 1 8 (.loc 1) (.loc 0), none, 1⟩, ⟨.faddr 0 (.tmp 6), none, 2⟩, ⟨.store 1 (.loc 0) (.loc 1), none, 2⟩] [])))
    (.region [⟨.bin .add (.tmp 14) (.const (.int .i64 1)), none, 0⟩] [(14, (.loc 0))])))))))
  (.seq (.seq (.region [⟨.faddr 1 (.tmp 2), none, 0⟩, ⟨.load none (.loc 0), none, 0⟩, ⟨.len (.loc 0), none, 0⟩] [(16, (.loc 1)), (17, (.loc 0)), (18, (.const (.int .i64 0)))])
   (.block 2 (.loop (.seq (.region [⟨.bin .lss (.tmp 18) (.tmp 17), none, 0⟩] [(19, (.loc 0))])
    (.seq (.cond (.tmp 19)
      (.skip)
      (.exit 2))
    (.seq (.block 3 (.seq (.region [⟨.iaddr 1 (.tmp 16) (.tmp 18), none, 0⟩, ⟨.load none (.loc 0), none, 0⟩] [(9, (.tmp 18)), (10, (.loc 0))])
     (.draw [⟨.faddr 1 (.tmp 3), none, 0⟩, ⟨.load none (.loc 0), none, 0⟩, ⟨.iaddr 1 (.loc 0) (.tmp 9), none, 0⟩, ⟨.load none (.loc 0), none, 0⟩, ⟨.mkarr 2 [(.int .u64 0), (.int .u64 0)] [(0, 1, (.tmp 10)), (1, 1, (.loc 0))], none, 0⟩, ⟨.call (.func 67) [(.loc 0)], none, 0⟩, ⟨.faddr 1 (.tmp 6), none, 0⟩, ⟨.load none (.loc 0), none, 0⟩, ⟨.mkarr 1 [(.int .u64 0)] [(0, 1, (.loc 2))], none, 1⟩, ⟨.append false 1 8 (.loc 1) (.loc 0), none, 1⟩, ⟨.faddr 1 (.tmp 6), none, 2⟩, ⟨.store 1 (.loc 0) (.loc 1), none, 2⟩] [])))
    (.region [⟨.bin .add (.tmp 18) (.const (.int .i64 1)), none, 0⟩] [(18, (.loc 0))])))))))
  (.seq (.region [⟨.load (some 2) (.tmp 6), none, 0⟩, ⟨.store 2 (.tmp 4) (.loc 0), none, 0⟩] [(5, (.const (.bool true)))])
  (.ret))))))⟩
theorem c28_ok : compileFn Try.prog false 28 = some c28 := by kernel_rfl
/-- louver/frame.Within -/
noncomputable def c33 : AFunc := ⟨[0, 1, 2, 3, 4, 5, 6, 7, 8, 24, 26, 27, 28, 29, 40, 43, 44, 45, 46, 57], [.tmp 4],
  .seq (.region [⟨.box (.tmp 0), none, 0⟩, ⟨.box (.tmp 1), none, 0⟩] [(2, (.loc 1)), (3, (.loc 0)), (4, (.const (.bool false)))])
  (.seq (.seq (.region [⟨.faddr 0 (.tmp 2), none, 0⟩, ⟨.load none (.loc 0), none, 0⟩, ⟨.len (.loc 0), none, 0⟩, ⟨.faddr 0 (.tmp 3), none, 0⟩, ⟨.load none (.loc 0), none, 0⟩, ⟨.len (.loc 0), none, 0⟩, ⟨.bin .neq (.loc 3) (.loc 0), none, 0⟩, ⟨.faddr 1 (.tmp 2), (some ((.loc 0), false)), 0⟩, ⟨.load none (.loc 0), (some ((.loc 1), false)), 0⟩, ⟨.len (.loc 0), (some ((.loc 2), false)), 0⟩, ⟨.faddr 1 (.tmp 3), (some ((.loc 3), false)), 0⟩, ⟨.load none (.loc 0), (some ((.loc 4), false)), 0⟩, ⟨.len (.loc 0), (some ((.loc 5), false)), 0⟩, ⟨.bin .neq (.loc 3) (.loc 0), (some ((.loc 6), false)), 0⟩, ⟨.pick (.loc 7) (.const (.bool true)) (.loc 0), none, 0⟩] [(9, (.loc 0))])
   (.cond (.tmp 9)
    (.seq (.region [] [(4, (.const (.bool false)))])
     (.ret))
    (.skip)))
  (.seq (.seq (.region [⟨.faddr 0 (.tmp 2), none, 0⟩, ⟨.load none (.loc 0), none, 0⟩, ⟨.len (.loc 0), none, 0⟩] [(10, (.loc 1)), (11, (.loc 0)), (12, (.const (.int .i64 0)))])
   (.block 0 (.loop (.seq (.region [⟨.bin .lss (.tmp 12) (.tmp 11), none, 0⟩] [(13, (.loc 0))])
    (.seq (.cond (.tmp 13)
      (.skip)
      (.exit 0))
    (.seq (.block 1 (.seq (.region [⟨.iaddr 1 (.tmp 10) (.tmp 12), none, 0⟩, ⟨.load none (.loc 0), none, 0⟩] [(5, (.tmp 12)), (6, (.loc 0))])
     (.seq (.region [⟨.faddr 0 (.tmp 3), none, 0⟩, ⟨.load none (.loc 0), none, 0⟩, ⟨.iaddr 1 (.loc 0) (.tmp 5), none, 0⟩, ⟨.load none (.loc 0), none, 0⟩, ⟨.call (.func 73) [(.tmp 6), (.loc 0)], none, 0⟩, ⟨.not (.loc 0), none, 0⟩] [(14, (.loc 0))])
     (.cond (.tmp 14)
      (.seq (.region [] [(4, (.const (.bool false)))])
       (.ret))
      (.skip)))))
    (.region [⟨.bin .add (.tmp 12) (.const (.int .i64 1)), none, 0⟩] [(12, (.loc 0))])))))))
  (.seq (.seq (.region [⟨.faddr 1 (.tmp 2), none, 0⟩, ⟨.load none (.loc 0), none, 0⟩, ⟨.len (.loc 0), none, 0⟩] [(15, (.loc 1)), (16, (.loc 0)), (17, (.const (.int .i64 0)))])
   (.block 2 (.loop (.seq (.region [⟨.bin .lss (.tmp 17) (.tmp 16), none, 0⟩] [(18, (.loc 0))])
    (.seq (.cond (.tmp 18)
      (.skip)
      (.exit 2))
    (.seq (.block 3 (.seq (.region [⟨.iaddr 1 (.tmp 15) (.tmp 17), none, 0⟩, ⟨.load none (.loc 0), none, 0⟩] [(7, (.tmp 17)), (8, (.loc 0))])
     (.seq (.region [⟨.faddr 1 (.tmp 3), none, 0⟩, ⟨.load none (.loc 0), none, 0⟩, ⟨.iaddr 1 (.loc 0) (.tmp 7), none, 0⟩, ⟨.load none (.loc 0), none, 0⟩, ⟨.call (.func 73) [(.tmp 8), (.loc 0)], none, 0⟩, ⟨.not (.loc 0), none, 0⟩] [(19, (.loc 0))])
     (.cond (.tmp 19)
      (.seq (.region [] [(4, (.const (.bool false)))])
       (.ret))
      (.skip)))))
    (.region [⟨.bin .add (.tmp 17) (.const (.int .i64 1)), none, 0⟩] [(17, (.loc 0))])))))))
  (.seq (.region [] [(4, (.const (.bool true)))])
  (.ret)))))⟩
theorem c33_ok : compileFn Try.prog false 33 = some c33 := by kernel_rfl
/-- louver/louverkit.LentLabels -/
noncomputable def c36 : AFunc := ⟨[0, 2, 3], [.tmp 1],
  .seq (.region [] [(1, (.const (.slice none 0 0)))])
  (.seq (.region [] [(2, (.const (.slice none 0 0)))])
  (.seq (.region [⟨.append false 1 8 (.tmp 2) (.tmp 0), none, 0⟩] [(2, (.loc 0))])
  (.seq (.region [⟨.mkarr 1 [(.int .u64 0)] [(0, 1, (.const (.int .u64 7171)))], none, 0⟩, ⟨.append false 1 8 (.tmp 2) (.loc 0), none, 0⟩] [(2, (.loc 0))])
  (.seq (.region [⟨.len (.tmp 0), none, 0⟩, ⟨.slice 1 (.tmp 2) none (some (.loc 0)) none, none, 0⟩] [(1, (.loc 0))])
  (.ret)))))⟩
theorem c36_ok : compileFn Try.prog false 36 = some c36 := by kernel_rfl
noncomputable abbrev c52 : AFunc := FrameAwake.c52
noncomputable abbrev c53 : AFunc := FrameAwake.c53
noncomputable abbrev c54 : AFunc := FrameAwake.c54
noncomputable abbrev c55 : AFunc := FrameAwake.c55
noncomputable abbrev c56 : AFunc := FrameAwake.c56
noncomputable abbrev c60 : AFunc := FrameAwake.c60
noncomputable abbrev c67 : AFunc := FrameAwake.c67
noncomputable abbrev c73 : AFunc := FrameAwake.c73
noncomputable abbrev c90 : AFunc := FrameAwake.c90
noncomputable abbrev c91 : AFunc := FrameAwake.c91
noncomputable abbrev c92 : AFunc := FrameAwake.c92
noncomputable abbrev c93 : AFunc := FrameAwake.c93
noncomputable abbrev c94 : AFunc := FrameAwake.c94
noncomputable abbrev c95 : AFunc := FrameAwake.c95
noncomputable def list : List (Option AFunc) := [none, none, none, none, none, none, none, some c7, none, none, none, none, none, none, some c14, some FrameAwake.c15, none, none, none, none, none, none, some c22, none, none, none, none, none, some c28, none, none, none, none, some c33, none, none, some c36, none, none, none, none, none, none, none, none, none, none, none, none, none, none, none, some FrameAwake.c52, some FrameAwake.c53, some FrameAwake.c54, some FrameAwake.c55, some FrameAwake.c56, none, none, none, some FrameAwake.c60, none, none, none, none, none, none, some FrameAwake.c67, none, none, none, none, none, some FrameAwake.c73, none, none, none, none, none, none, none, none, none, none, none, none, none, none, none, none, some FrameAwake.c90, some FrameAwake.c91, some FrameAwake.c92, some FrameAwake.c93, some FrameAwake.c94, some FrameAwake.c95]
noncomputable def fns : TV (Option AFunc) := Vec.ofList list
def none1 (args : List Value) (H : AH TV) : Option (Value × AH TV) := match args with | [] => some (.bool true, H) | _ => none
noncomputable def ext (f : FuncId) (args : List Value) (H : AH TV) : Option (Value × AH TV) := bif Nat.beq f 63 then ains 63 f args H else bif Nat.beq f 27 then none1 args H else none
noncomputable def E : Env TV := { P := Try.prog, fn := fun f => (Vec.get fns f).getD none, ext := ext }
theorem all_ok : OkFrom Try.prog 0 list := ⟨⟨false, c7_ok⟩, ⟨⟨false, c14_ok⟩, ⟨⟨false, FrameAwake.c15_ok⟩, ⟨⟨false, c22_ok⟩, ⟨⟨false, c28_ok⟩, ⟨⟨false, c33_ok⟩, ⟨⟨false, c36_ok⟩, ⟨⟨false, FrameAwake.c52_ok⟩, ⟨⟨false, FrameAwake.c53_ok⟩, ⟨⟨false, FrameAwake.c54_ok⟩, ⟨⟨false, FrameAwake.c55_ok⟩, ⟨⟨false, FrameAwake.c56_ok⟩, ⟨⟨false, FrameAwake.c60_ok⟩, ⟨⟨false, FrameAwake.c67_ok⟩, ⟨⟨false, FrameAwake.c73_ok⟩, ⟨⟨false, FrameAwake.c90_ok⟩, ⟨⟨false, FrameAwake.c91_ok⟩, ⟨⟨false, FrameAwake.c92_ok⟩, ⟨⟨false, FrameAwake.c93_ok⟩, ⟨⟨false, FrameAwake.c94_ok⟩, ⟨⟨false, FrameAwake.c95_ok⟩, trivial⟩⟩⟩⟩⟩⟩⟩⟩⟩⟩⟩⟩⟩⟩⟩⟩⟩⟩⟩⟩⟩
theorem ext_ok (f : FuncId) (args : List Value) (H : AH TV) (v : Value) (H' : AH TV) (h : ext f args H = some (v, H')) : CallsOk Try.prog f args H v H' := by
  unfold ext at h
  cases hb : Nat.beq f 63 with
  | true =>
    rw [hb] at h
    exact FrIns.ins_ok h
  | false =>
  rw [hb] at h
  cases hb : Nat.beq f 27 with
  | true =>
    have hf : f = 27 := Nat.eq_of_beq_eq_true hb
    rw [hb] at h
    cases args with
    | nil =>
      simp only [none1, cond_true, Option.some.injEq, Prod.mk.injEq] at h
      obtain ⟨rfl, rfl⟩ := h
      rw [hf]
      exact closed_ok FrameAwake.env_ok FrameAwake.run rfl H
    | cons a r => cases h
  | false =>
  rw [hb] at h
  cases h
theorem env_ok : EnvOk E := ⟨fun f fn h => fn_of all_ok h, ext_ok, draw_ok (by kernel_rfl)⟩
end Go.Proofs.Ytollibkfagjnaaa.Shape
