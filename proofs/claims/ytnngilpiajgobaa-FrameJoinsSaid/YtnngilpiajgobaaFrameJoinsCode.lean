/- The functions that louver/louverlaw17.FrameJoins reaches, compiled; that each is what 'compileFn' comes to. PRINTED by code.py. -/
import Derived.Test.YtnngilpiajgobaaAM25
import Derived.Test.YtnngilpiajgobaaProg
import Derived.KernelRfl
set_option linter.unusedVariables false
set_option maxRecDepth 100000
namespace Go.Proofs.Ytnngilpiajgobaa.FrameJoins
open Go.Proofs.Ytnngilpiajgobaa.AM
/-- louver/louverlaw17.FrameJoins -/
noncomputable def c3 : AFunc := ⟨[0, 1, 2, 3, 4, 5, 6, 7, 8, 9, 10], [.tmp 4],
  .seq (.region [⟨.box (.tmp 0), none, 0⟩, ⟨.box (.tmp 1), none, 0⟩] [(2, (.loc 1)), (3, (.loc 0)), (4, (.const (.bool false)))])
  (.seq (.draw [⟨.load (some 2) (.tmp 2), none, 0⟩, ⟨.call (.func 8) [(.loc 0)], none, 0⟩, ⟨.load (some 2) (.tmp 3), none, 0⟩, ⟨.call (.func 8) [(.loc 0)], none, 1⟩, ⟨.alloc [(.slice none 0 0), (.slice none 0 0)], none, 0⟩, ⟨.alloc [(.slice none 0 0), (.slice none 0 0)], none, 0⟩, ⟨.store 2 (.loc 1) (.loc 4), none, 2⟩, ⟨.store 2 (.loc 1) (.loc 3), none, 3⟩] [(5, (.loc 3)), (6, (.loc 2))])
  (.seq (.region [⟨.load (some 2) (.tmp 5), none, 0⟩, ⟨.load (some 2) (.tmp 6), none, 0⟩, ⟨.call (.func 9) [(.loc 1), (.loc 0)], none, 0⟩, ⟨.ext (.loc 0) 0, none, 0⟩, ⟨.ext (.loc 1) 1, none, 0⟩, ⟨.alloc [(.slice none 0 0), (.slice none 0 0)], none, 0⟩, ⟨.store 2 (.loc 0) (.loc 2), none, 0⟩] [(7, (.loc 1)), (8, (.loc 2))])
  (.seq (.region [⟨.load (some 2) (.tmp 2), none, 0⟩, ⟨.load (some 2) (.tmp 3), none, 0⟩, ⟨.call (.func 10) [(.loc 1), (.loc 0)], none, 0⟩, ⟨.ext (.loc 0) 0, none, 0⟩, ⟨.ext (.loc 1) 1, none, 0⟩, ⟨.alloc [(.slice none 0 0), (.slice none 0 0)], none, 0⟩, ⟨.store 2 (.loc 0) (.loc 2), none, 0⟩] [(9, (.loc 1)), (10, (.loc 2))])
  (.seq (.draw [⟨.load (some 2) (.tmp 7), none, 0⟩, ⟨.load (some 2) (.tmp 9), none, 0⟩, ⟨.call (.func 11) [(.loc 1), (.loc 0)], none, 0⟩, ⟨.mov (.tmp 8), (some ((.loc 0), true)), 1⟩, ⟨.mov (.tmp 10), (some ((.loc 1), true)), 1⟩, ⟨.beq false (.loc 1) (.loc 0), (some ((.loc 2), true)), 1⟩, ⟨.pick (.loc 3) (.loc 0) (.const (.bool false)), none, 1⟩, ⟨.load (some 2) (.tmp 5), (some ((.loc 0), true)), 1⟩, ⟨.load (some 2) (.tmp 6), (some ((.loc 1), true)), 1⟩, ⟨.call (.func 12) [(.loc 1), (.loc 0)], (some ((.loc 2), true)), 1⟩, ⟨.load (some 2) (.tmp 2), (some ((.loc 3), true)), 1⟩, ⟨.load (some 2) (.tmp 3), (some ((.loc 4), true)), 1⟩, ⟨.call (.func 13) [(.loc 1), (.loc 0)], (some ((.loc 5), true)), 2⟩, ⟨.beq false (.loc 3) (.loc 0), (some ((.loc 6), true)), 3⟩, ⟨.pick (.loc 7) (.loc 0) (.const (.bool false)), none, 3⟩, ⟨.load (some 2) (.tmp 5), (some ((.loc 0), true)), 3⟩, ⟨.load (some 2) (.tmp 2), (some ((.loc 1), true)), 3⟩, ⟨.call (.func 14) [(.loc 1), (.loc 0)], (some ((.loc 2), true)), 3⟩, ⟨.pick (.loc 3) (.loc 0) (.const (.bool false)), none, 4⟩, ⟨.load (some 2) (.tmp 6), (some ((.loc 0), true)), 4⟩, ⟨.load (some 2) (.tmp 3), (some ((.loc 1), true)), 4⟩, ⟨.call (.func 14) [(.loc 1), (.loc 0)], (some ((.loc 2), true)), 4⟩, ⟨.pick (.loc 3) (.loc 0) (.const (.bool false)), none, 5⟩] [(4, (.loc 0))])
  (.ret)))))⟩
theorem c3_ok : compileFn Try.prog false 3 = some c3 := by kernel_rfl
/-- louver/louverkit.LentFrame -/
noncomputable def c8 : AFunc := ⟨[0, 1, 2], [.cell 2 (some 2)],
  .seq (.region [⟨.box (.tmp 0), none, 0⟩, ⟨.alloc [(.slice none 0 0), (.slice none 0 0)], none, 0⟩] [(1, (.loc 1)), (2, (.loc 0))])
  (.seq (.draw [⟨.faddr 0 (.tmp 1), none, 0⟩, ⟨.load none (.loc 0), none, 0⟩, ⟨.call (.func 25) [(.loc 0)], none, 0⟩, ⟨.faddr 1 (.tmp 1), none, 0⟩, ⟨.load none (.loc 0), none, 0⟩, ⟨.call (.func 25) [(.loc 0)], none, 1⟩, ⟨.build [(.slice none 0 0), (.slice none 0 0)] [(0, 1, (.loc 3)), (1, 1, (.loc 0))], none, 2⟩, ⟨.store 2 (.tmp 2) (.loc 0), none, 2⟩] [])
  (.ret))⟩
theorem c8_ok : compileFn Try.prog false 8 = some c8 := by kernel_rfl
/-- louver/frame.Join -/
noncomputable def c9 : AFunc := ⟨[0, 1, 2, 3, 4, 5, 6, 7, 8, 9, 10, 26, 29, 30, 31, 32, 51, 52, 53, 54], [.cell 4 (some 2), .tmp 5],
  .seq (.region [⟨.box (.tmp 0), none, 0⟩, ⟨.box (.tmp 1), none, 0⟩, ⟨.alloc [(.slice none 0 0), (.slice none 0 0)], none, 0⟩] [(2, (.loc 2)), (3, (.loc 1)), (4, (.loc 0)), (5, (.const (.bool false)))])
  (.seq (.seq (.region [⟨.faddr 0 (.tmp 2), none, 0⟩, ⟨.load none (.loc 0), none, 0⟩, ⟨.len (.loc 0), none, 0⟩, ⟨.faddr 0 (.tmp 3), none, 0⟩, ⟨.load none (.loc 0), none, 0⟩, ⟨.len (.loc 0), none, 0⟩, ⟨.bin .neq (.loc 3) (.loc 0), none, 0⟩, ⟨.faddr 1 (.tmp 2), (some ((.loc 0), false)), 0⟩, ⟨.load none (.loc 0), (some ((.loc 1), false)), 0⟩, ⟨.len (.loc 0), (some ((.loc 2), false)), 0⟩, ⟨.faddr 1 (.tmp 3), (some ((.loc 3), false)), 0⟩, ⟨.load none (.loc 0), (some ((.loc 4), false)), 0⟩, ⟨.len (.loc 0), (some ((.loc 5), false)), 0⟩, ⟨.bin .neq (.loc 3) (.loc 0), (some ((.loc 6), false)), 0⟩, ⟨.pick (.loc 7) (.const (.bool true)) (.loc 0), none, 0⟩] [(11, (.loc 0))])
   (.cond (.tmp 11)
    (.seq (.region [⟨.build [(.slice none 0 0), (.slice none 0 0)] [], none, 0⟩, ⟨.store 2 (.tmp 4) (.loc 0), none, 0⟩] [(5, (.const (.bool false)))])
     (.ret))
    (.skip)))
  (.seq (.region [⟨.alloc [(.slice none 0 0), (.slice none 0 0)], none, 0⟩] [(6, (.loc 0))])
  (.seq (.seq (.region [⟨.faddr 0 (.tmp 2), none, 0⟩, ⟨.load none (.loc 0), none, 0⟩, ⟨.len (.loc 0), none, 0⟩] [(12, (.loc 1)), (13, (.loc 0)), (14, (.const (.int .i64 0)))])
   (.block 0 (.loop (.seq (.region [⟨.bin .lss (.tmp 14) (.tmp 13), none, 0⟩] [(15, (.loc 0))])
    (.seq (.cond (.tmp 15)
      (.skip)
      (.exit 0))
    (.seq (.block 1 (.seq (.region [⟨.iaddr 1 (.tmp 12) (.tmp 14), none, 0⟩, ⟨.load none (.loc 0), none, 0⟩] [(7, (.tmp 14)), (8, (.loc 0))])
     (.draw [⟨.faddr 0 (.tmp 3), none, 0⟩, ⟨.load none (.loc 0), none, 0⟩, ⟨.iaddr 1 (.loc 0) (.tmp 7), none, 0⟩, ⟨.load none (.loc 0), none, 0⟩, ⟨.mkarr 2 [(.int .u64 0), (.int .u64 0)] [(0, 1, (.tmp 8)), (1, 1, (.loc 0))], none, 0⟩, ⟨.call (.func 26) [(.loc 0)], none, 0⟩, ⟨.faddr 0 (.tmp 6), none, 0⟩, ⟨.load none (.loc 0), none, 0⟩, ⟨.mkarr 1 [(.int .u64 0)] [(0, 1, (.loc 2))], none, 1⟩, ⟨.append false 1 8 (.loc 1) (.loc 0), none, 1⟩, ⟨.faddr 0 (.tmp 6), none, 2⟩, ⟨.store 1 (.loc 0) (.loc 1), none, 2⟩] [])))
    (.region [⟨.bin .add (.tmp 14) (.const (.int .i64 1)), none, 0⟩] [(14, (.loc 0))])))))))
  (.seq (.seq (.region [⟨.faddr 1 (.tmp 2), none, 0⟩, ⟨.load none (.loc 0), none, 0⟩, ⟨.len (.loc 0), none, 0⟩] [(16, (.loc 1)), (17, (.loc 0)), (18, (.const (.int .i64 0)))])
   (.block 2 (.loop (.seq (.region [⟨.bin .lss (.tmp 18) (.tmp 17), none, 0⟩] [(19, (.loc 0))])
    (.seq (.cond (.tmp 19)
      (.skip)
      (.exit 2))
    (.seq (.block 3 (.seq (.region [⟨.iaddr 1 (.tmp 16) (.tmp 18), none, 0⟩, ⟨.load none (.loc 0), none, 0⟩] [(9, (.tmp 18)), (10, (.loc 0))])
     (.draw [⟨.faddr 1 (.tmp 3), none, 0⟩, ⟨.load none (.loc 0), none, 0⟩, ⟨.iaddr 1 (.loc 0) (.tmp 9), none, 0⟩, ⟨.load none (.loc 0), none, 0⟩, ⟨.mkarr 2 [(.int .u64 0), (.int .u64 0)] [(0, 1, (.tmp 10)), (1, 1, (.loc 0))], none, 0⟩, ⟨.call (.func 26) [(.loc 0)], none, 0⟩, ⟨.faddr 1 (.tmp 6), none, 0⟩, ⟨.load none (.loc 0), none, 0⟩, ⟨.mkarr 1 [(.int .u64 0)] [(0, 1, (.loc 2))], none, 1⟩, ⟨.append false 1 8 (.loc 1) (.loc 0), none, 1⟩, ⟨.faddr 1 (.tmp 6), none, 2⟩, ⟨.store 1 (.loc 0) (.loc 1), none, 2⟩] [])))
    (.region [⟨.bin .add (.tmp 18) (.const (.int .i64 1)), none, 0⟩] [(18, (.loc 0))])))))))
  (.seq (.region [⟨.load (some 2) (.tmp 6), none, 0⟩, ⟨.store 2 (.tmp 4) (.loc 0), none, 0⟩] [(5, (.const (.bool true)))])
  (.ret))))))⟩
theorem c9_ok : compileFn Try.prog false 9 = some c9 := by kernel_rfl
/-- louver/louverref17.Join -/
noncomputable def c10 : AFunc := ⟨[0, 1, 2, 3, 4, 5, 6, 7, 8, 24, 30, 53], [.cell 4 (some 2), .tmp 5],
  .seq (.region [⟨.box (.tmp 0), none, 0⟩, ⟨.box (.tmp 1), none, 0⟩, ⟨.alloc [(.slice none 0 0), (.slice none 0 0)], none, 0⟩] [(2, (.loc 2)), (3, (.loc 1)), (4, (.loc 0)), (5, (.const (.bool false)))])
  (.seq (.region [⟨.alloc [(.slice none 0 0), (.slice none 0 0)], none, 0⟩] [(6, (.loc 0))])
  (.seq (.seq (.region [⟨.faddr 0 (.tmp 2), none, 0⟩, ⟨.load none (.loc 0), none, 0⟩, ⟨.len (.loc 0), none, 0⟩, ⟨.faddr 0 (.tmp 3), none, 0⟩, ⟨.load none (.loc 0), none, 0⟩, ⟨.len (.loc 0), none, 0⟩, ⟨.bin .neq (.loc 3) (.loc 0), none, 0⟩, ⟨.faddr 1 (.tmp 2), (some ((.loc 0), false)), 0⟩, ⟨.load none (.loc 0), (some ((.loc 1), false)), 0⟩, ⟨.len (.loc 0), (some ((.loc 2), false)), 0⟩, ⟨.faddr 1 (.tmp 3), (some ((.loc 3), false)), 0⟩, ⟨.load none (.loc 0), (some ((.loc 4), false)), 0⟩, ⟨.len (.loc 0), (some ((.loc 5), false)), 0⟩, ⟨.bin .neq (.loc 3) (.loc 0), (some ((.loc 6), false)), 0⟩, ⟨.pick (.loc 7) (.const (.bool true)) (.loc 0), none, 0⟩] [(9, (.loc 0))])
   (.cond (.tmp 9)
    (.seq (.region [⟨.load (some 2) (.tmp 6), none, 0⟩, ⟨.store 2 (.tmp 4) (.loc 0), none, 0⟩] [(5, (.const (.bool false)))])
     (.ret))
    (.skip)))
  (.seq (.seq (.region [] [(7, (.const (.int .i64 0)))])
   (.block 0 (.loop (.seq (.seq (.region [⟨.faddr 0 (.tmp 2), none, 0⟩, ⟨.load none (.loc 0), none, 0⟩, ⟨.len (.loc 0), none, 0⟩, ⟨.bin .lss (.tmp 7) (.loc 0), none, 0⟩] [(10, (.loc 0))])
     (.cond (.tmp 10)
      (.skip)
      (.exit 0)))
    (.seq (.block 1 (.draw [⟨.faddr 0 (.tmp 6), none, 0⟩, ⟨.load none (.loc 0), none, 0⟩, ⟨.faddr 0 (.tmp 2), none, 0⟩, ⟨.load none (.loc 0), none, 0⟩, ⟨.iaddr 1 (.loc 0) (.tmp 7), none, 0⟩, ⟨.load none (.loc 0), none, 0⟩, ⟨.faddr 0 (.tmp 3), none, 0⟩, ⟨.load none (.loc 0), none, 0⟩, ⟨.iaddr 1 (.loc 0) (.tmp 7), none, 0⟩, ⟨.load none (.loc 0), none, 0⟩, ⟨.bin .or (.loc 4) (.loc 0), none, 0⟩, ⟨.mkarr 1 [(.int .u64 0)] [(0, 1, (.loc 0))], none, 0⟩, ⟨.append false 1 8 (.loc 10) (.loc 0), none, 0⟩, ⟨.faddr 0 (.tmp 6), none, 1⟩, ⟨.store 1 (.loc 0) (.loc 1), none, 1⟩] []))
    (.region [⟨.bin .add (.tmp 7) (.const (.int .i64 1)), none, 0⟩] [(7, (.loc 0))]))))))
  (.seq (.seq (.region [] [(8, (.const (.int .i64 0)))])
   (.block 2 (.loop (.seq (.seq (.region [⟨.faddr 1 (.tmp 2), none, 0⟩, ⟨.load none (.loc 0), none, 0⟩, ⟨.len (.loc 0), none, 0⟩, ⟨.bin .lss (.tmp 8) (.loc 0), none, 0⟩] [(11, (.loc 0))])
     (.cond (.tmp 11)
      (.skip)
      (.exit 2)))
    (.seq (.block 3 (.draw [⟨.faddr 1 (.tmp 6), none, 0⟩, ⟨.load none (.loc 0), none, 0⟩, ⟨.faddr 1 (.tmp 2), none, 0⟩, ⟨.load none (.loc 0), none, 0⟩, ⟨.iaddr 1 (.loc 0) (.tmp 8), none, 0⟩, ⟨.load none (.loc 0), none, 0⟩, ⟨.faddr 1 (.tmp 3), none, 0⟩, ⟨.load none (.loc 0), none, 0⟩, ⟨.iaddr 1 (.loc 0) (.tmp 8), none, 0⟩, ⟨.load none (.loc 0), none, 0⟩, ⟨.bin .or (.loc 4) (.loc 0), none, 0⟩, ⟨.mkarr 1 [(.int .u64 0)] [(0, 1, (.loc 0))], none, 0⟩, ⟨.append false 1 8 (.loc 10) (.loc 0), none, 0⟩, ⟨.faddr 1 (.tmp 6), none, 1⟩, ⟨.store 1 (.loc 0) (.loc 1), none, 1⟩] []))
    (.region [⟨.bin .add (.tmp 8) (.const (.int .i64 1)), none, 0⟩] [(8, (.loc 0))]))))))
  (.seq (.region [⟨.load (some 2) (.tmp 6), none, 0⟩, ⟨.store 2 (.tmp 4) (.loc 0), none, 0⟩] [(5, (.const (.bool true)))])
  (.ret))))))⟩
theorem c10_ok : compileFn Try.prog false 10 = some c10 := by kernel_rfl
/-- louver/louverkit.Frame -/
noncomputable def c11 : AFunc := ⟨[0, 1, 2, 3, 4], [.tmp 4],
  .seq (.region [⟨.box (.tmp 0), none, 0⟩, ⟨.box (.tmp 1), none, 0⟩] [(2, (.loc 1)), (3, (.loc 0)), (4, (.const (.bool false)))])
  (.seq (.region [⟨.faddr 0 (.tmp 2), none, 0⟩, ⟨.load none (.loc 0), none, 0⟩, ⟨.faddr 0 (.tmp 3), none, 0⟩, ⟨.load none (.loc 0), none, 0⟩, ⟨.call (.func 27) [(.loc 2), (.loc 0)], none, 0⟩, ⟨.faddr 1 (.tmp 2), (some ((.loc 0), true)), 0⟩, ⟨.load none (.loc 0), (some ((.loc 1), true)), 0⟩, ⟨.faddr 1 (.tmp 3), (some ((.loc 2), true)), 0⟩, ⟨.load none (.loc 0), (some ((.loc 3), true)), 0⟩, ⟨.call (.func 27) [(.loc 2), (.loc 0)], (some ((.loc 4), true)), 0⟩, ⟨.pick (.loc 5) (.loc 0) (.const (.bool false)), none, 0⟩] [(4, (.loc 0))])
  (.ret))⟩
theorem c11_ok : compileFn Try.prog false 11 = some c11 := by kernel_rfl
/-- louver/frame.Within -/
noncomputable def c12 : AFunc := ⟨[0, 1, 2, 3, 4, 5, 6, 7, 8, 24, 26, 27, 28, 29, 40, 43, 44, 45, 46, 57], [.tmp 4],
  .seq (.region [⟨.box (.tmp 0), none, 0⟩, ⟨.box (.tmp 1), none, 0⟩] [(2, (.loc 1)), (3, (.loc 0)), (4, (.const (.bool false)))])
  (.seq (.seq (.region [⟨.faddr 0 (.tmp 2), none, 0⟩, ⟨.load none (.loc 0), none, 0⟩, ⟨.len (.loc 0), none, 0⟩, ⟨.faddr 0 (.tmp 3), none, 0⟩, ⟨.load none (.loc 0), none, 0⟩, ⟨.len (.loc 0), none, 0⟩, ⟨.bin .neq (.loc 3) (.loc 0), none, 0⟩, ⟨.faddr 1 (.tmp 2), (some ((.loc 0), false)), 0⟩, ⟨.load none (.loc 0), (some ((.loc 1), false)), 0⟩, ⟨.len (.loc 0), (some ((.loc 2), false)), 0⟩, ⟨.faddr 1 (.tmp 3), (some ((.loc 3), false)), 0⟩, ⟨.load none (.loc 0), (some ((.loc 4), false)), 0⟩, ⟨.len (.loc 0), (some ((.loc 5), false)), 0⟩, ⟨.bin .neq (.loc 3) (.loc 0), (some ((.loc 6), false)), 0⟩, ⟨.pick (.loc 7) (.const (.bool true)) (.loc 0), none, 0⟩] [(9, (.loc 0))])
   (.cond (.tmp 9)
    (.seq (.region [] [(4, (.const (.bool false)))])
     (.ret))
    (.skip)))
  (.seq (.seq (.region [⟨.faddr 0 (.tmp 2), none, 0⟩, ⟨.load none (.loc 0), none, 0⟩, ⟨.len (.loc 0), none, 0⟩] [(10, (.loc 1)), (11, (.loc 0)), (12, (.const (.int .i64 0)))])
   (.block 0 (.loop (.seq (.region [⟨.bin .lss (.tmp 12) (.tmp 11), none, 0⟩] [(13, (.loc 0))])
    (.seq (.cond (.tmp 13)
      (.skip)
      (.exit 0))
    (.seq (.block 1 (.seq (.region [⟨.iaddr 1 (.tmp 10) (.tmp 12), none, 0⟩, ⟨.load none (.loc 0), none, 0⟩] [(5, (.tmp 12)), (6, (.loc 0))])
     (.seq (.region [⟨.faddr 0 (.tmp 3), none, 0⟩, ⟨.load none (.loc 0), none, 0⟩, ⟨.iaddr 1 (.loc 0) (.tmp 5), none, 0⟩, ⟨.load none (.loc 0), none, 0⟩, ⟨.call (.func 28) [(.tmp 6), (.loc 0)], none, 0⟩, ⟨.not (.loc 0), none, 0⟩] [(14, (.loc 0))])
     (.cond (.tmp 14)
      (.seq (.region [] [(4, (.const (.bool false)))])
       (.ret))
      (.skip)))))
    (.region [⟨.bin .add (.tmp 12) (.const (.int .i64 1)), none, 0⟩] [(12, (.loc 0))])))))))
  (.seq (.seq (.region [⟨.faddr 1 (.tmp 2), none, 0⟩, ⟨.load none (.loc 0), none, 0⟩, ⟨.len (.loc 0), none, 0⟩] [(15, (.loc 1)), (16, (.loc 0)), (17, (.const (.int .i64 0)))])
   (.block 2 (.loop (.seq (.region [⟨.bin .lss (.tmp 17) (.tmp 16), none, 0⟩] [(18, (.loc 0))])
    (.seq (.cond (.tmp 18)
      (.skip)
      (.exit 2))
    (.seq (.block 3 (.seq (.region [⟨.iaddr 1 (.tmp 15) (.tmp 17), none, 0⟩, ⟨.load none (.loc 0), none, 0⟩] [(7, (.tmp 17)), (8, (.loc 0))])
     (.seq (.region [⟨.faddr 1 (.tmp 3), none, 0⟩, ⟨.load none (.loc 0), none, 0⟩, ⟨.iaddr 1 (.loc 0) (.tmp 7), none, 0⟩, ⟨.load none (.loc 0), none, 0⟩, ⟨.call (.func 28) [(.tmp 8), (.loc 0)], none, 0⟩, ⟨.not (.loc 0), none, 0⟩] [(19, (.loc 0))])
     (.cond (.tmp 19)
      (.seq (.region [] [(4, (.const (.bool false)))])
       (.ret))
      (.skip)))))
    (.region [⟨.bin .add (.tmp 17) (.const (.int .i64 1)), none, 0⟩] [(17, (.loc 0))])))))))
  (.seq (.region [] [(4, (.const (.bool true)))])
  (.ret)))))⟩
theorem c12_ok : compileFn Try.prog false 12 = some c12 := by kernel_rfl
/-- louver/louverref17.Within -/
noncomputable def c13 : AFunc := ⟨[0, 1, 2, 3, 4, 5, 6, 22, 27, 41, 46, 60], [.tmp 4],
  .seq (.region [⟨.box (.tmp 0), none, 0⟩, ⟨.box (.tmp 1), none, 0⟩] [(2, (.loc 1)), (3, (.loc 0)), (4, (.const (.bool false)))])
  (.seq (.seq (.region [⟨.faddr 0 (.tmp 2), none, 0⟩, ⟨.load none (.loc 0), none, 0⟩, ⟨.len (.loc 0), none, 0⟩, ⟨.faddr 0 (.tmp 3), none, 0⟩, ⟨.load none (.loc 0), none, 0⟩, ⟨.len (.loc 0), none, 0⟩, ⟨.bin .neq (.loc 3) (.loc 0), none, 0⟩, ⟨.faddr 1 (.tmp 2), (some ((.loc 0), false)), 0⟩, ⟨.load none (.loc 0), (some ((.loc 1), false)), 0⟩, ⟨.len (.loc 0), (some ((.loc 2), false)), 0⟩, ⟨.faddr 1 (.tmp 3), (some ((.loc 3), false)), 0⟩, ⟨.load none (.loc 0), (some ((.loc 4), false)), 0⟩, ⟨.len (.loc 0), (some ((.loc 5), false)), 0⟩, ⟨.bin .neq (.loc 3) (.loc 0), (some ((.loc 6), false)), 0⟩, ⟨.pick (.loc 7) (.const (.bool true)) (.loc 0), none, 0⟩] [(7, (.loc 0))])
   (.cond (.tmp 7)
    (.seq (.region [] [(4, (.const (.bool false)))])
     (.ret))
    (.skip)))
  (.seq (.seq (.region [] [(5, (.const (.int .i64 0)))])
   (.block 0 (.loop (.seq (.seq (.region [⟨.faddr 0 (.tmp 2), none, 0⟩, ⟨.load none (.loc 0), none, 0⟩, ⟨.len (.loc 0), none, 0⟩, ⟨.bin .lss (.tmp 5) (.loc 0), none, 0⟩] [(8, (.loc 0))])
     (.cond (.tmp 8)
      (.skip)
      (.exit 0)))
    (.seq (.block 1 (.seq (.draw [⟨.faddr 0 (.tmp 2), none, 0⟩, ⟨.load none (.loc 0), none, 0⟩, ⟨.iaddr 1 (.loc 0) (.tmp 5), none, 0⟩, ⟨.load none (.loc 0), none, 0⟩, ⟨.faddr 0 (.tmp 3), none, 0⟩, ⟨.load none (.loc 0), none, 0⟩, ⟨.iaddr 1 (.loc 0) (.tmp 5), none, 0⟩, ⟨.load none (.loc 0), none, 0⟩, ⟨.bin .andNot (.loc 4) (.loc 0), none, 0⟩, ⟨.bin .neq (.loc 0) (.const (.int .u64 0)), none, 0⟩] [(9, (.loc 0))])
     (.cond (.tmp 9)
      (.seq (.region [] [(4, (.const (.bool false)))])
       (.ret))
      (.skip))))
    (.region [⟨.bin .add (.tmp 5) (.const (.int .i64 1)), none, 0⟩] [(5, (.loc 0))]))))))
  (.seq (.seq (.region [] [(6, (.const (.int .i64 0)))])
   (.block 2 (.loop (.seq (.seq (.region [⟨.faddr 1 (.tmp 2), none, 0⟩, ⟨.load none (.loc 0), none, 0⟩, ⟨.len (.loc 0), none, 0⟩, ⟨.bin .lss (.tmp 6) (.loc 0), none, 0⟩] [(10, (.loc 0))])
     (.cond (.tmp 10)
      (.skip)
      (.exit 2)))
    (.seq (.block 3 (.seq (.draw [⟨.faddr 1 (.tmp 2), none, 0⟩, ⟨.load none (.loc 0), none, 0⟩, ⟨.iaddr 1 (.loc 0) (.tmp 6), none, 0⟩, ⟨.load none (.loc 0), none, 0⟩, ⟨.faddr 1 (.tmp 3), none, 0⟩, ⟨.load none (.loc 0), none, 0⟩, ⟨.iaddr 1 (.loc 0) (.tmp 6), none, 0⟩, ⟨.load none (.loc 0), none, 0⟩, ⟨.bin .andNot (.loc 4) (.loc 0), none, 0⟩, ⟨.bin .neq (.loc 0) (.const (.int .u64 0)), none, 0⟩] [(11, (.loc 0))])
     (.cond (.tmp 11)
      (.seq (.region [] [(4, (.const (.bool false)))])
       (.ret))
      (.skip))))
    (.region [⟨.bin .add (.tmp 6) (.const (.int .i64 1)), none, 0⟩] [(6, (.loc 0))]))))))
  (.seq (.region [] [(4, (.const (.bool true)))])
  (.ret)))))⟩
theorem c13_ok : compileFn Try.prog false 13 = some c13 := by kernel_rfl
/-- louver/louverkit.KeptFrame -/
noncomputable def c14 : AFunc := ⟨[0, 1, 2, 3, 4], [.tmp 4],
  .seq (.region [⟨.box (.tmp 0), none, 0⟩, ⟨.box (.tmp 1), none, 0⟩] [(2, (.loc 1)), (3, (.loc 0)), (4, (.const (.bool false)))])
  (.seq (.region [⟨.faddr 0 (.tmp 2), none, 0⟩, ⟨.load none (.loc 0), none, 0⟩, ⟨.faddr 0 (.tmp 3), none, 0⟩, ⟨.load none (.loc 0), none, 0⟩, ⟨.call (.func 29) [(.loc 2), (.loc 0)], none, 0⟩, ⟨.faddr 1 (.tmp 2), (some ((.loc 0), true)), 0⟩, ⟨.load none (.loc 0), (some ((.loc 1), true)), 0⟩, ⟨.faddr 1 (.tmp 3), (some ((.loc 2), true)), 0⟩, ⟨.load none (.loc 0), (some ((.loc 3), true)), 0⟩, ⟨.call (.func 29) [(.loc 2), (.loc 0)], (some ((.loc 4), true)), 0⟩, ⟨.pick (.loc 5) (.loc 0) (.const (.bool false)), none, 0⟩] [(4, (.loc 0))])
  (.ret))⟩
theorem c14_ok : compileFn Try.prog false 14 = some c14 := by kernel_rfl
/-- louver/louverkit.LentLabels -/
noncomputable def c25 : AFunc := ⟨[0, 2, 3], [.tmp 1],
  .seq (.region [] [(1, (.const (.slice none 0 0)))])
  (.seq (.region [] [(2, (.const (.slice none 0 0)))])
  (.seq (.region [⟨.append false 1 8 (.tmp 2) (.tmp 0), none, 0⟩] [(2, (.loc 0))])
  (.seq (.region [⟨.mkarr 1 [(.int .u64 0)] [(0, 1, (.const (.int .u64 7171)))], none, 0⟩, ⟨.append false 1 8 (.tmp 2) (.loc 0), none, 0⟩] [(2, (.loc 0))])
  (.seq (.region [⟨.len (.tmp 0), none, 0⟩, ⟨.slice 1 (.tmp 2) none (some (.loc 0)) none, none, 0⟩] [(1, (.loc 0))])
  (.ret)))))⟩
theorem c25_ok : compileFn Try.prog false 25 = some c25 := by kernel_rfl
/-- louver/bits.Join -/
noncomputable def c26 : AFunc := ⟨[0, 2, 4, 5, 6, 7, 8], [.tmp 1],
  .seq (.region [] [(1, (.const (.int .u64 0)))])
  (.seq (.seq (.region [⟨.len (.tmp 0), none, 0⟩] [(3, (.tmp 0)), (4, (.loc 0)), (5, (.const (.int .i64 0)))])
   (.block 0 (.loop (.seq (.region [⟨.bin .lss (.tmp 5) (.tmp 4), none, 0⟩] [(6, (.loc 0))])
    (.seq (.cond (.tmp 6)
      (.skip)
      (.exit 0))
    (.seq (.block 1 (.seq (.region [⟨.iaddr 1 (.tmp 3) (.tmp 5), none, 0⟩, ⟨.load none (.loc 0), none, 0⟩] [(2, (.loc 0))])
     (.region [⟨.bin .or (.tmp 1) (.tmp 2), none, 0⟩] [(1, (.loc 0))])))
    (.region [⟨.bin .add (.tmp 5) (.const (.int .i64 1)), none, 0⟩] [(5, (.loc 0))])))))))
  (.seq (.region [] [])
  (.ret)))⟩
theorem c26_ok : compileFn Try.prog false 26 = some c26 := by kernel_rfl
/-- louver/louverkit.Labels -/
noncomputable def c27 : AFunc := ⟨[0, 1, 4, 5, 10, 14, 25], [.tmp 2],
  .seq (.region [] [(2, (.const (.bool false)))])
  (.seq (.seq (.region [⟨.len (.tmp 0), none, 0⟩, ⟨.len (.tmp 1), none, 0⟩, ⟨.bin .neq (.loc 1) (.loc 0), none, 0⟩] [(4, (.loc 0))])
   (.cond (.tmp 4)
    (.seq (.region [] [(2, (.const (.bool false)))])
     (.ret))
    (.skip)))
  (.seq (.seq (.region [] [(3, (.const (.int .i64 0)))])
   (.block 0 (.loop (.seq (.seq (.region [⟨.len (.tmp 0), none, 0⟩, ⟨.bin .lss (.tmp 3) (.loc 0), none, 0⟩] [(5, (.loc 0))])
     (.cond (.tmp 5)
      (.skip)
      (.exit 0)))
    (.seq (.block 1 (.seq (.draw [⟨.iaddr 1 (.tmp 0) (.tmp 3), none, 0⟩, ⟨.load none (.loc 0), none, 0⟩, ⟨.iaddr 1 (.tmp 1) (.tmp 3), none, 0⟩, ⟨.load none (.loc 0), none, 0⟩, ⟨.bin .neq (.loc 2) (.loc 0), none, 0⟩] [(6, (.loc 0))])
     (.cond (.tmp 6)
      (.seq (.region [] [(2, (.const (.bool false)))])
       (.ret))
      (.skip))))
    (.region [⟨.bin .add (.tmp 3) (.const (.int .i64 1)), none, 0⟩] [(3, (.loc 0))]))))))
  (.seq (.region [] [(2, (.const (.bool true)))])
  (.ret))))⟩
theorem c27_ok : compileFn Try.prog false 27 = some c27 := by kernel_rfl
/-- louver/bits.Within -/
noncomputable def c28 : AFunc := ⟨[0, 1, 4], [.tmp 2],
  .seq (.region [] [(2, (.const (.bool false)))])
  (.seq (.region [⟨.bin .andNot (.tmp 0) (.tmp 1), none, 0⟩, ⟨.bin .eql (.loc 0) (.const (.int .u64 0)), none, 0⟩] [(2, (.loc 0))])
  (.ret))⟩
theorem c28_ok : compileFn Try.prog false 28 = some c28 := by kernel_rfl
/-- louver/louverkit.KeptLabels -/
noncomputable def c29 : AFunc := ⟨[0, 1, 4, 5, 9], [.tmp 2],
  .seq (.region [] [(2, (.const (.bool false)))])
  (.seq (.seq (.region [⟨.call (.func 27) [(.tmp 0), (.tmp 1)], none, 0⟩, ⟨.not (.loc 0), none, 0⟩] [(4, (.loc 0))])
   (.cond (.tmp 4)
    (.seq (.region [] [(2, (.const (.bool false)))])
     (.ret))
    (.skip)))
  (.seq (.region [⟨.len (.tmp 0), none, 0⟩, ⟨.bin .add (.loc 0) (.const (.int .i64 1)), none, 0⟩, ⟨.slice 1 (.tmp 0) none (some (.loc 0)) none, none, 0⟩] [(3, (.loc 0))])
  (.seq (.region [⟨.len (.tmp 0), none, 0⟩, ⟨.iaddr 1 (.tmp 3) (.loc 0), none, 0⟩, ⟨.load none (.loc 0), none, 0⟩, ⟨.bin .eql (.loc 0) (.const (.int .u64 7171)), none, 0⟩] [(2, (.loc 0))])
  (.ret))))⟩
theorem c29_ok : compileFn Try.prog false 29 = some c29 := by kernel_rfl
noncomputable def list : List (Option AFunc) := [none, none, none, some c3, none, none, none, none, some c8, some c9, some c10, some c11, some c12, some c13, some c14, none, none, none, none, none, none, none, none, none, none, some c25, some c26, some c27, some c28, some c29]
noncomputable def fns : TV (Option AFunc) := Vec.ofList list
noncomputable def ext (f : FuncId) (args : List Value) (H : AH TV) : Option (Value × AH TV) := none
noncomputable def E : Env TV := { P := Try.prog, fn := fun f => (Vec.get fns f).getD none, ext := ext }
theorem all_ok : OkFrom Try.prog 0 list := ⟨⟨false, c3_ok⟩, ⟨⟨false, c8_ok⟩, ⟨⟨false, c9_ok⟩, ⟨⟨false, c10_ok⟩, ⟨⟨false, c11_ok⟩, ⟨⟨false, c12_ok⟩, ⟨⟨false, c13_ok⟩, ⟨⟨false, c14_ok⟩, ⟨⟨false, c25_ok⟩, ⟨⟨false, c26_ok⟩, ⟨⟨false, c27_ok⟩, ⟨⟨false, c28_ok⟩, ⟨⟨false, c29_ok⟩, trivial⟩⟩⟩⟩⟩⟩⟩⟩⟩⟩⟩⟩⟩
theorem ext_ok (f : FuncId) (args : List Value) (H : AH TV) (v : Value) (H' : AH TV) (h : ext f args H = some (v, H')) : CallsOk Try.prog f args H v H' := by
  unfold ext at h
  cases h
theorem env_ok : EnvOk E := ⟨fun f fn h => fn_of all_ok h, ext_ok, draw_ok (by kernel_rfl)⟩
end Go.Proofs.Ytnngilpiajgobaa.FrameJoins
