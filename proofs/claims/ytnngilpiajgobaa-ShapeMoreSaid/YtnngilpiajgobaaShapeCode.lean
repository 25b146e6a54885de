/- The functions that louver/louverlaw13.ShapeInstrs,louver/louverlaw13.ShapeChecks,louver/louverlaw13.ShapeGraph,louver/louverlaw13.ShapeMore reaches, compiled; that each is what 'compileFn' comes to. PRINTED by code.py. -/
import Derived.Test.YtnngilpiajgobaaAM25
import Derived.Test.YtnngilpiajgobaaShapeKnownRun
import Derived.Test.YtnngilpiajgobaaShapeKnownCode
import Derived.Test.YtnngilpiajgobaaProg
import Derived.KernelRfl
set_option linter.unusedVariables false
set_option maxRecDepth 100000
namespace Go.Proofs.Ytnngilpiajgobaa.Shape
open Go.Proofs.Ytnngilpiajgobaa.AM
/-- louver/louverlaw13.ShapeInstrs -/
noncomputable def c4 : AFunc := ⟨[0, 1, 2, 3, 5, 6, 7], [.tmp 5],
  .seq (.region [⟨.box (.tmp 0), none, 0⟩, ⟨.box (.tmp 2), none, 0⟩] [(3, (.loc 1)), (4, (.loc 0)), (5, (.const (.bool false)))])
  (.seq (.region [⟨.load (some 4) (.tmp 3), none, 0⟩, ⟨.call (.func 15) [(.loc 0)], none, 0⟩, ⟨.alloc [(.slice none 0 0), (.slice none 0 0), (.slice none 0 0), (.slice none 0 0)], none, 0⟩, ⟨.store 4 (.loc 0) (.loc 1), none, 0⟩] [(6, (.loc 1))])
  (.seq (.draw [⟨.load (some 4) (.tmp 6), none, 0⟩, ⟨.load (some 2) (.tmp 4), none, 0⟩, ⟨.call (.func 16) [(.loc 1), (.tmp 1), (.loc 0)], none, 0⟩, ⟨.load (some 4) (.tmp 3), none, 0⟩, ⟨.load (some 2) (.tmp 4), none, 0⟩, ⟨.call (.func 17) [(.loc 1), (.tmp 1), (.loc 0)], none, 1⟩, ⟨.bin .eql (.loc 3) (.loc 0), none, 2⟩, ⟨.load (some 4) (.tmp 6), (some ((.loc 0), true)), 2⟩, ⟨.mov (.tmp 1), (some ((.loc 1), true)), 2⟩, ⟨.call (.func 18) [(.loc 1), (.loc 0)], (some ((.loc 2), true)), 2⟩, ⟨.load (some 4) (.tmp 3), (some ((.loc 3), true)), 2⟩, ⟨.mov (.tmp 1), (some ((.loc 4), true)), 2⟩, ⟨.call (.func 19) [(.loc 1), (.loc 0)], (some ((.loc 5), true)), 3⟩, ⟨.bin .eql (.loc 3) (.loc 0), (some ((.loc 6), true)), 4⟩, ⟨.pick (.loc 7) (.loc 0) (.const (.bool false)), none, 4⟩, ⟨.load (some 4) (.tmp 6), (some ((.loc 0), true)), 4⟩, ⟨.load (some 4) (.tmp 3), (some ((.loc 1), true)), 4⟩, ⟨.call (.func 20) [(.loc 1), (.loc 0)], (some ((.loc 2), true)), 4⟩, ⟨.pick (.loc 3) (.loc 0) (.const (.bool false)), none, 5⟩] [(5, (.loc 0))])
  (.ret)))⟩
theorem c4_ok : compileFn Try.prog false 4 = some c4 := by kernel_rfl
/-- louver/louverlaw13.ShapeChecks -/
noncomputable def c5 : AFunc := ⟨[0, 1, 2, 3], [.tmp 2],
  .seq (.region [⟨.box (.tmp 0), none, 0⟩] [(1, (.loc 0)), (2, (.const (.bool false)))])
  (.seq (.region [⟨.load (some 4) (.tmp 1), none, 0⟩, ⟨.call (.func 15) [(.loc 0)], none, 0⟩, ⟨.alloc [(.slice none 0 0), (.slice none 0 0), (.slice none 0 0), (.slice none 0 0)], none, 0⟩, ⟨.store 4 (.loc 0) (.loc 1), none, 0⟩] [(3, (.loc 1))])
  (.seq (.draw [⟨.load (some 4) (.tmp 3), none, 0⟩, ⟨.call (.func 21) [(.loc 0)], none, 0⟩, ⟨.load (some 4) (.tmp 1), none, 0⟩, ⟨.call (.func 22) [(.loc 0)], none, 1⟩, ⟨.flat (.bin .eql 43 (.tmp 7) (.tmp 9)) [(.loc 2), (.loc 0)], none, 2⟩, ⟨.load (some 4) (.tmp 3), (some ((.loc 0), true)), 2⟩, ⟨.load (some 4) (.tmp 1), (some ((.loc 1), true)), 2⟩, ⟨.call (.func 20) [(.loc 1), (.loc 0)], (some ((.loc 2), true)), 2⟩, ⟨.pick (.loc 3) (.loc 0) (.const (.bool false)), none, 3⟩] [(2, (.loc 0))])
  (.ret)))⟩
theorem c5_ok : compileFn Try.prog false 5 = some c5 := by kernel_rfl
/-- louver/louverlaw13.ShapeGraph -/
noncomputable def c6 : AFunc := ⟨[0, 1, 2, 3, 4, 5, 6, 7, 9, 14, 19, 31, 45, 80, 93], [.tmp 2],
  .seq (.region [⟨.box (.tmp 0), none, 0⟩] [(1, (.loc 0)), (2, (.const (.bool false)))])
  (.seq (.seq (.region [⟨.call (.func 23) [], none, 0⟩, ⟨.not (.loc 0), none, 0⟩] [(8, (.loc 0))])
   (.cond (.tmp 8)
    (.seq (.region [] [(2, (.const (.bool false)))])
     (.ret))
    (.skip)))
  (.seq (.seq (.region [⟨.load (some 4) (.tmp 1), none, 0⟩, ⟨.call (.func 15) [(.loc 0)], none, 0⟩, ⟨.call (.func 21) [(.loc 0)], none, 0⟩, ⟨.build [(.int .i64 0), (.int .i64 0), (.int .i64 0)] [], none, 0⟩, ⟨.flat (.bin .neq 43 (.tmp 12) (.tmp 13)) [(.loc 1), (.loc 0)], none, 0⟩] [(9, (.loc 0))])
   (.cond (.tmp 9)
    (.seq (.region [] [(2, (.const (.bool true)))])
     (.ret))
    (.skip)))
  (.seq (.seq (.region [] [(3, (.const (.int .i64 0)))])
   (.block 0 (.loop (.seq (.seq (.region [⟨.faddr 3 (.tmp 1), none, 0⟩, ⟨.load none (.loc 0), none, 0⟩, ⟨.len (.loc 0), none, 0⟩, ⟨.bin .lss (.tmp 3) (.loc 0), none, 0⟩] [(10, (.loc 0))])
     (.cond (.tmp 10)
      (.skip)
      (.exit 0)))
    (.seq (.block 1 (.seq (.region [⟨.faddr 3 (.tmp 1), none, 0⟩, ⟨.load none (.loc 0), none, 0⟩, ⟨.iaddr 6 (.loc 0) (.tmp 3), none, 0⟩, ⟨.faddr 5 (.loc 0), none, 0⟩, ⟨.load none (.loc 0), none, 0⟩, ⟨.len (.loc 0), none, 0⟩] [(4, (.loc 0))])
     (.seq (.region [] [(5, (.const (.int .i64 0)))])
     (.block 2 (.loop (.seq (.seq (.region [⟨.bin .lss (.tmp 5) (.tmp 4), none, 0⟩] [(11, (.loc 0))])
       (.cond (.tmp 11)
        (.skip)
        (.exit 2)))
      (.seq (.block 3 (.seq (.region [⟨.faddr 3 (.tmp 1), none, 0⟩, ⟨.load none (.loc 0), none, 0⟩, ⟨.iaddr 6 (.loc 0) (.tmp 3), none, 0⟩, ⟨.faddr 5 (.loc 0), none, 0⟩, ⟨.load none (.loc 0), none, 0⟩, ⟨.call (.func 24) [(.loc 0), (.tmp 5)], none, 0⟩] [(6, (.loc 0))])
       (.seq (.seq (.region [] [(7, (.const (.int .i64 0)))])
        (.block 4 (.loop (.seq (.seq (.region [⟨.len (.tmp 6), none, 0⟩, ⟨.bin .lss (.tmp 7) (.loc 0), none, 0⟩] [(12, (.loc 0))])
          (.cond (.tmp 12)
           (.skip)
           (.exit 4)))
         (.seq (.block 5 (.seq (.draw [⟨.iaddr 1 (.tmp 6) (.tmp 7), none, 0⟩, ⟨.load none (.loc 0), none, 0⟩, ⟨.bin .lss (.loc 0) (.const (.int .i64 0)), none, 0⟩, ⟨.mov (.tmp 6), (some ((.loc 0), false)), 0⟩, ⟨.mov (.tmp 7), (some ((.loc 1), false)), 0⟩, ⟨.iaddr 1 (.loc 1) (.loc 0), (some ((.loc 2), false)), 0⟩, ⟨.load none (.loc 0), (some ((.loc 3), false)), 0⟩, ⟨.mov (.tmp 4), (some ((.loc 4), false)), 0⟩, ⟨.bin .gtr (.loc 1) (.loc 0), (some ((.loc 5), false)), 0⟩, ⟨.pick (.loc 6) (.const (.bool true)) (.loc 0), none, 0⟩, ⟨.mov (.tmp 6), (some ((.loc 0), false)), 0⟩, ⟨.mov (.tmp 7), (some ((.loc 1), false)), 0⟩, ⟨.iaddr 1 (.loc 1) (.loc 0), (some ((.loc 2), false)), 0⟩, ⟨.load none (.loc 0), (some ((.loc 3), false)), 0⟩, ⟨.mov (.tmp 4), (some ((.loc 4), false)), 0⟩, ⟨.bin .eql (.loc 1) (.loc 0), (some ((.loc 5), false)), 0⟩, ⟨.faddr 3 (.tmp 1), (some ((.loc 6), false)), 0⟩, ⟨.load none (.loc 0), (some ((.loc 7), false)), 0⟩, ⟨.mov (.tmp 3), (some ((.loc 8), false)), 0⟩, ⟨.iaddr 6 (.loc 1) (.loc 0), (some ((.loc 9), false)), 0⟩, ⟨.faddr 5 (.loc 0), (some ((.loc 10), false)), 0⟩, ⟨.load none (.loc 0), (some ((.loc 11), false)), 0⟩, ⟨.mov (.tmp 5), (some ((.loc 12), false)), 0⟩, ⟨.iaddr 2 (.loc 1) (.loc 0), (some ((.loc 13), false)), 0⟩, ⟨.faddr 0 (.loc 0), (some ((.loc 14), false)), 0⟩, ⟨.load none (.loc 0), (some ((.loc 15), false)), 0⟩, ⟨.bin .eql (.loc 0) (.const (.int .i64 46)), (some ((.loc 16), false)), 0⟩, ⟨.beq true (.loc 11) (.loc 0), (some ((.loc 17), false)), 0⟩, ⟨.pick (.loc 18) (.const (.bool true)) (.loc 0), none, 0⟩] [(13, (.loc 0))])
          (.cond (.tmp 13)
           (.seq (.region [] [(2, (.const (.bool false)))])
            (.ret))
           (.skip))))
         (.region [⟨.bin .add (.tmp 7) (.const (.int .i64 1)), none, 0⟩] [(7, (.loc 0))]))))))
       (.seq (.draw [⟨.load (some 4) (.tmp 1), none, 0⟩, ⟨.faddr 3 (.tmp 1), none, 0⟩, ⟨.load none (.loc 0), none, 0⟩, ⟨.iaddr 6 (.loc 0) (.tmp 3), none, 0⟩, ⟨.faddr 5 (.loc 0), none, 0⟩, ⟨.load none (.loc 0), none, 0⟩, ⟨.iaddr 2 (.loc 0) (.tmp 5), none, 0⟩, ⟨.load (some 2) (.loc 0), none, 0⟩, ⟨.call (.func 16) [(.loc 7), (.tmp 3), (.loc 0)], none, 0⟩, ⟨.bin .neq (.loc 0) (.const (.int .i64 0)), none, 1⟩] [(14, (.loc 0))])
       (.cond (.tmp 14)
        (.seq (.region [] [(2, (.const (.bool false)))])
         (.ret))
        (.skip))))))
      (.region [⟨.bin .add (.tmp 5) (.const (.int .i64 1)), none, 0⟩] [(5, (.loc 0))]))))))))
    (.region [⟨.bin .add (.tmp 3) (.const (.int .i64 1)), none, 0⟩] [(3, (.loc 0))]))))))
  (.seq (.region [] [(2, (.const (.bool true)))])
  (.ret)))))⟩
theorem c6_ok : compileFn Try.prog false 6 = some c6 := by kernel_rfl
/-- louver/louverlaw13.ShapeMore -/
noncomputable def c7 : AFunc := ⟨[0, 1, 2, 3, 6, 7, 8, 9, 10, 12, 17, 35, 58, 77, 88, 107], [.tmp 4],
  .seq (.region [⟨.box (.tmp 0), none, 0⟩] [(3, (.loc 0)), (4, (.const (.bool false)))])
  (.seq (.seq (.region [⟨.call (.func 23) [], none, 0⟩, ⟨.not (.loc 0), none, 0⟩] [(9, (.loc 0))])
   (.cond (.tmp 9)
    (.seq (.region [] [(4, (.const (.bool false)))])
     (.ret))
    (.skip)))
  (.seq (.seq (.region [⟨.load (some 4) (.tmp 3), none, 0⟩, ⟨.call (.func 15) [(.loc 0)], none, 0⟩, ⟨.call (.func 21) [(.loc 0)], none, 0⟩, ⟨.build [(.int .i64 0), (.int .i64 0), (.int .i64 0)] [], none, 0⟩, ⟨.flat (.bin .neq 43 (.tmp 15) (.tmp 16)) [(.loc 1), (.loc 0)], none, 0⟩] [(10, (.loc 0))])
   (.cond (.tmp 10)
    (.seq (.region [] [(4, (.const (.bool true)))])
     (.ret))
    (.skip)))
  (.seq (.region [⟨.load (some 4) (.tmp 3), none, 0⟩, ⟨.call (.func 15) [(.loc 0)], none, 0⟩, ⟨.alloc [(.slice none 0 0), (.slice none 0 0), (.slice none 0 0), (.slice none 0 0)], none, 0⟩, ⟨.store 4 (.loc 0) (.loc 1), none, 0⟩] [(5, (.loc 1))])
  (.seq (.seq (.region [⟨.faddr 0 (.tmp 5), none, 0⟩, ⟨.load none (.loc 0), none, 0⟩, ⟨.len (.loc 0), none, 0⟩, ⟨.bin .lss (.loc 0) (.const (.int .i64 32)), none, 0⟩, ⟨.faddr 1 (.tmp 5), (some ((.loc 0), true)), 0⟩, ⟨.load none (.loc 0), (some ((.loc 1), true)), 0⟩, ⟨.len (.loc 0), (some ((.loc 2), true)), 0⟩, ⟨.bin .lss (.loc 0) (.const (.int .i64 16)), (some ((.loc 3), true)), 0⟩, ⟨.pick (.loc 4) (.loc 0) (.const (.bool false)), none, 0⟩, ⟨.faddr 2 (.tmp 5), (some ((.loc 0), true)), 0⟩, ⟨.load none (.loc 0), (some ((.loc 1), true)), 0⟩, ⟨.len (.loc 0), (some ((.loc 2), true)), 0⟩, ⟨.bin .lss (.loc 0) (.const (.int .i64 16)), (some ((.loc 3), true)), 0⟩, ⟨.pick (.loc 4) (.loc 0) (.const (.bool false)), none, 0⟩] [(11, (.loc 0))])
   (.cond (.tmp 11)
    (.seq (.region [⟨.faddr 0 (.tmp 5), none, 0⟩, ⟨.load none (.loc 0), none, 0⟩, ⟨.mkarr 1 [(.int .u64 0)] [(0, 1, (.tmp 1))], none, 0⟩, ⟨.append false 1 8 (.loc 1) (.loc 0), none, 0⟩, ⟨.faddr 0 (.tmp 5), none, 0⟩, ⟨.store 1 (.loc 0) (.loc 1), none, 0⟩] [])
     (.seq (.region [⟨.faddr 1 (.tmp 5), none, 0⟩, ⟨.load none (.loc 0), none, 0⟩, ⟨.build [(.int .i64 0), (.int .u64 0)] [(0, 1, (.const (.int .i64 1))), (1, 1, (.tmp 1))], none, 0⟩, ⟨.mkarr 1 [(.int .i64 0), (.int .u64 0)] [(0, 2, (.loc 0))], none, 0⟩, ⟨.append false 2 16 (.loc 2) (.loc 0), none, 0⟩, ⟨.faddr 1 (.tmp 5), none, 0⟩, ⟨.store 1 (.loc 0) (.loc 1), none, 0⟩] [])
     (.seq (.region [⟨.faddr 2 (.tmp 5), none, 0⟩, ⟨.load none (.loc 0), none, 0⟩, ⟨.mkarr 1 [(.int .u64 0)] [(0, 1, (.tmp 1))], none, 0⟩, ⟨.append false 1 8 (.loc 1) (.loc 0), none, 0⟩, ⟨.faddr 2 (.tmp 5), none, 0⟩, ⟨.store 1 (.loc 0) (.loc 1), none, 0⟩] [])
     (.seq (.region [⟨.load (some 4) (.tmp 5), none, 0⟩, ⟨.call (.func 21) [(.loc 0)], none, 0⟩, ⟨.build [(.int .i64 0), (.int .i64 0), (.int .i64 0)] [], none, 0⟩, ⟨.flat (.bin .neq 43 (.tmp 56) (.tmp 57)) [(.loc 1), (.loc 0)], none, 0⟩] [(12, (.loc 0))])
     (.cond (.tmp 12)
      (.seq (.region [] [(4, (.const (.bool false)))])
       (.ret))
      (.skip))))))
    (.skip)))
  (.seq (.seq (.region [⟨.bin .lss (.tmp 2) (.const (.int .i64 0)), none, 0⟩, ⟨.mov (.tmp 2), (some ((.loc 0), false)), 0⟩, ⟨.faddr 3 (.tmp 3), (some ((.loc 1), false)), 0⟩, ⟨.load none (.loc 0), (some ((.loc 2), false)), 0⟩, ⟨.len (.loc 0), (some ((.loc 3), false)), 0⟩, ⟨.bin .geq (.loc 3) (.loc 0), (some ((.loc 4), false)), 0⟩, ⟨.pick (.loc 5) (.const (.bool true)) (.loc 0), none, 0⟩, ⟨.faddr 3 (.tmp 3), (some ((.loc 0), false)), 0⟩, ⟨.load none (.loc 0), (some ((.loc 1), false)), 0⟩, ⟨.mov (.tmp 2), (some ((.loc 2), false)), 0⟩, ⟨.iaddr 6 (.loc 1) (.loc 0), (some ((.loc 3), false)), 0⟩, ⟨.faddr 5 (.loc 0), (some ((.loc 4), false)), 0⟩, ⟨.load none (.loc 0), (some ((.loc 5), false)), 0⟩, ⟨.len (.loc 0), (some ((.loc 6), false)), 0⟩, ⟨.bin .geq (.loc 0) (.const (.int .i64 2048)), (some ((.loc 7), false)), 0⟩, ⟨.pick (.loc 8) (.const (.bool true)) (.loc 0), none, 0⟩] [(13, (.loc 0))])
   (.cond (.tmp 13)
    (.seq (.region [] [(4, (.const (.bool true)))])
     (.ret))
    (.skip)))
  (.seq (.region [⟨.build [(.int .i64 0), (.int .i64 0)] [(0, 1, (.const (.int .i64 42)))], none, 0⟩, ⟨.mkarr 1 [(.int .i64 0), (.int .i64 0)] [(0, 2, (.loc 0))], none, 0⟩] [(6, (.loc 0))])
  (.seq (.seq (.region [] [(7, (.const (.int .i64 0)))])
   (.block 0 (.loop (.seq (.seq (.region [⟨.faddr 3 (.tmp 3), none, 0⟩, ⟨.load none (.loc 0), none, 0⟩, ⟨.iaddr 6 (.loc 0) (.tmp 2), none, 0⟩, ⟨.faddr 5 (.loc 0), none, 0⟩, ⟨.load none (.loc 0), none, 0⟩, ⟨.len (.loc 0), none, 0⟩, ⟨.bin .lss (.tmp 7) (.loc 0), none, 0⟩] [(14, (.loc 0))])
     (.cond (.tmp 14)
      (.skip)
      (.exit 0)))
    (.seq (.block 1 (.seq (.region [⟨.faddr 3 (.tmp 3), none, 0⟩, ⟨.load none (.loc 0), none, 0⟩, ⟨.iaddr 6 (.loc 0) (.tmp 2), none, 0⟩, ⟨.faddr 5 (.loc 0), none, 0⟩, ⟨.load none (.loc 0), none, 0⟩, ⟨.iaddr 2 (.loc 0) (.tmp 7), none, 0⟩, ⟨.load (some 2) (.loc 0), none, 0⟩, ⟨.alloc [(.int .i64 0), (.int .i64 0)], none, 0⟩, ⟨.store 2 (.loc 0) (.loc 1), none, 0⟩] [(8, (.loc 1))])
     (.seq (.seq (.region [⟨.faddr 0 (.tmp 8), none, 0⟩, ⟨.load none (.loc 0), none, 0⟩, ⟨.bin .eql (.loc 0) (.const (.int .i64 43)), none, 0⟩, ⟨.faddr 0 (.tmp 8), (some ((.loc 0), false)), 0⟩, ⟨.load none (.loc 0), (some ((.loc 1), false)), 0⟩, ⟨.bin .eql (.loc 0) (.const (.int .i64 44)), (some ((.loc 2), false)), 0⟩, ⟨.pick (.loc 3) (.const (.bool true)) (.loc 0), none, 0⟩] [(15, (.loc 0))])
      (.cond (.tmp 15)
       (.region [⟨.faddr 1 (.tmp 8), none, 0⟩, ⟨.load none (.loc 0), none, 0⟩, ⟨.bin .add (.loc 0) (.const (.int .i64 1)), none, 0⟩, ⟨.faddr 1 (.tmp 8), none, 0⟩, ⟨.store 1 (.loc 0) (.loc 1), none, 0⟩] [])
       (.skip)))
     (.region [⟨.load (some 2) (.tmp 8), none, 0⟩, ⟨.mkarr 1 [(.int .i64 0), (.int .i64 0)] [(0, 2, (.loc 0))], none, 0⟩, ⟨.append false 2 16 (.tmp 6) (.loc 0), none, 0⟩] [(6, (.loc 0))]))))
    (.region [⟨.bin .add (.tmp 7) (.const (.int .i64 1)), none, 0⟩] [(7, (.loc 0))]))))))
  (.seq (.region [⟨.faddr 3 (.tmp 5), none, 0⟩, ⟨.load none (.loc 0), none, 0⟩, ⟨.iaddr 6 (.loc 0) (.tmp 2), none, 0⟩, ⟨.faddr 5 (.loc 0), none, 0⟩, ⟨.store 1 (.loc 0) (.tmp 6), none, 0⟩] [])
  (.seq (.region [⟨.load (some 4) (.tmp 5), none, 0⟩, ⟨.call (.func 21) [(.loc 0)], none, 0⟩, ⟨.build [(.int .i64 0), (.int .i64 0), (.int .i64 0)] [], none, 0⟩, ⟨.flat (.bin .eql 43 (.tmp 123) (.tmp 124)) [(.loc 1), (.loc 0)], none, 0⟩] [(4, (.loc 0))])
  (.ret))))))))))⟩
theorem c7_ok : compileFn Try.prog false 7 = some c7 := by kernel_rfl
/-- louver/louverkit.LentModule -/
noncomputable def c15 : AFunc := ⟨[0, 1, 2, 3, 4, 5, 6, 19], [.cell 2 (some 4)],
  .seq (.region [⟨.box (.tmp 0), none, 0⟩, ⟨.alloc [(.slice none 0 0), (.slice none 0 0), (.slice none 0 0), (.slice none 0 0)], none, 0⟩] [(1, (.loc 1)), (2, (.loc 0))])
  (.seq (.region [] [(3, (.const (.slice none 0 0)))])
  (.seq (.region [⟨.faddr 1 (.tmp 1), none, 0⟩, ⟨.load none (.loc 0), none, 0⟩, ⟨.append false 2 16 (.tmp 3) (.loc 0), none, 0⟩] [(3, (.loc 0))])
  (.seq (.region [⟨.build [(.int .i64 0), (.int .u64 0)] [(0, 1, (.const (.int .i64 (-71))))], none, 0⟩, ⟨.mkarr 1 [(.int .i64 0), (.int .u64 0)] [(0, 2, (.loc 0))], none, 0⟩, ⟨.append false 2 16 (.tmp 3) (.loc 0), none, 0⟩] [(3, (.loc 0))])
  (.seq (.region [] [(4, (.const (.slice none 0 0)))])
  (.seq (.seq (.region [] [(5, (.const (.int .i64 0)))])
   (.block 0 (.loop (.seq (.seq (.region [⟨.faddr 3 (.tmp 1), none, 0⟩, ⟨.load none (.loc 0), none, 0⟩, ⟨.len (.loc 0), none, 0⟩, ⟨.bin .lss (.tmp 5) (.loc 0), none, 0⟩] [(7, (.loc 0))])
     (.cond (.tmp 7)
      (.skip)
      (.exit 0)))
    (.seq (.block 1 (.seq (.region [⟨.faddr 3 (.tmp 1), none, 0⟩, ⟨.load none (.loc 0), none, 0⟩, ⟨.iaddr 6 (.loc 0) (.tmp 5), none, 0⟩, ⟨.load (some 6) (.loc 0), none, 0⟩, ⟨.call (.func 30) [(.loc 0)], none, 0⟩, ⟨.alloc [(.int .u64 0), (.slice none 0 0), (.slice none 0 0), (.int .i64 0), (.int .i64 0), (.slice none 0 0)], none, 0⟩, ⟨.store 6 (.loc 0) (.loc 1), none, 0⟩] [(6, (.loc 1))])
     (.region [⟨.load (some 6) (.tmp 6), none, 0⟩, ⟨.mkarr 1 [(.int .u64 0), (.slice none 0 0), (.slice none 0 0), (.int .i64 0), (.int .i64 0), (.slice none 0 0)] [(0, 6, (.loc 0))], none, 0⟩, ⟨.append false 6 96 (.tmp 4) (.loc 0), none, 0⟩] [(4, (.loc 0))])))
    (.region [⟨.bin .add (.tmp 5) (.const (.int .i64 1)), none, 0⟩] [(5, (.loc 0))]))))))
  (.seq (.region [⟨.build [(.int .u64 0), (.slice none 0 0), (.slice none 0 0), (.int .i64 0), (.int .i64 0), (.slice none 0 0)] [(4, 1, (.const (.int .i64 (-71))))], none, 0⟩, ⟨.mkarr 1 [(.int .u64 0), (.slice none 0 0), (.slice none 0 0), (.int .i64 0), (.int .i64 0), (.slice none 0 0)] [(0, 6, (.loc 0))], none, 0⟩, ⟨.append false 6 96 (.tmp 4) (.loc 0), none, 0⟩] [(4, (.loc 0))])
  (.seq (.draw [⟨.faddr 0 (.tmp 1), none, 0⟩, ⟨.load none (.loc 0), none, 0⟩, ⟨.call (.func 25) [(.loc 0)], none, 0⟩, ⟨.faddr 2 (.tmp 1), none, 0⟩, ⟨.load none (.loc 0), none, 0⟩, ⟨.call (.func 25) [(.loc 0)], none, 1⟩, ⟨.faddr 1 (.tmp 1), none, 0⟩, ⟨.load none (.loc 0), none, 0⟩, ⟨.len (.loc 0), none, 0⟩, ⟨.slice 2 (.tmp 3) none (some (.loc 0)) none, none, 0⟩, ⟨.faddr 3 (.tmp 1), none, 0⟩, ⟨.load none (.loc 0), none, 0⟩, ⟨.len (.loc 0), none, 0⟩, ⟨.slice 6 (.tmp 4) none (some (.loc 0)) none, none, 0⟩, ⟨.build [(.slice none 0 0), (.slice none 0 0), (.slice none 0 0), (.slice none 0 0)] [(0, 1, (.loc 11)), (1, 1, (.loc 4)), (2, 1, (.loc 8)), (3, 1, (.loc 0))], none, 2⟩, ⟨.store 4 (.tmp 2) (.loc 0), none, 2⟩] [])
  (.ret))))))))⟩
theorem c15_ok : compileFn Try.prog false 15 = some c15 := by kernel_rfl
/-- louver/louverref13.Instr -/
noncomputable def c17 : AFunc := ⟨[0, 1, 2, 3, 5, 6, 7, 16, 23, 36], [.tmp 5],
  .seq (.region [⟨.box (.tmp 0), none, 0⟩, ⟨.box (.tmp 2), none, 0⟩] [(3, (.loc 1)), (4, (.loc 0)), (5, (.const (.int .i64 0)))])
  (.seq (.seq (.region [⟨.bin .lss (.tmp 1) (.const (.int .i64 0)), none, 0⟩, ⟨.mov (.tmp 1), (some ((.loc 0), false)), 0⟩, ⟨.faddr 3 (.tmp 3), (some ((.loc 1), false)), 0⟩, ⟨.load none (.loc 0), (some ((.loc 2), false)), 0⟩, ⟨.len (.loc 0), (some ((.loc 3), false)), 0⟩, ⟨.bin .geq (.loc 3) (.loc 0), (some ((.loc 4), false)), 0⟩, ⟨.pick (.loc 5) (.const (.bool true)) (.loc 0), none, 0⟩] [(7, (.loc 0))])
   (.cond (.tmp 7)
    (.seq (.region [] [(5, (.const (.int .i64 1)))])
     (.ret))
    (.skip)))
  (.seq (.region [⟨.load (some 4) (.tmp 3), none, 0⟩, ⟨.faddr 0 (.tmp 4), none, 0⟩, ⟨.load none (.loc 0), none, 0⟩, ⟨.call (.func 31) [(.loc 2), (.tmp 1), (.loc 0)], none, 0⟩] [(6, (.loc 0))])
  (.seq (.seq (.region [⟨.bin .eql (.tmp 6) (.const (.int .i64 (-2))), none, 0⟩] [(8, (.loc 0))])
   (.cond (.tmp 8)
    (.seq (.region [] [(5, (.const (.int .i64 100)))])
     (.ret))
    (.skip)))
  (.seq (.seq (.region [⟨.bin .geq (.tmp 6) (.const (.int .i64 0)), none, 0⟩, ⟨.faddr 1 (.tmp 4), (some ((.loc 0), true)), 0⟩, ⟨.load none (.loc 0), (some ((.loc 1), true)), 0⟩, ⟨.bin .lss (.loc 0) (.const (.int .i64 0)), (some ((.loc 2), true)), 0⟩, ⟨.mov (.loc 0), (some ((.loc 3), true)), 0⟩, ⟨.faddr 1 (.tmp 4), (some ((.loc 0), false)), 0⟩, ⟨.load none (.loc 0), (some ((.loc 1), false)), 0⟩, ⟨.mov (.tmp 6), (some ((.loc 2), false)), 0⟩, ⟨.bin .geq (.loc 1) (.loc 0), (some ((.loc 3), false)), 0⟩, ⟨.pick (.loc 4) (.const (.bool true)) (.loc 0), (some ((.loc 8), true)), 0⟩, ⟨.pick (.loc 9) (.loc 0) (.const (.bool false)), none, 0⟩] [(9, (.loc 0))])
   (.cond (.tmp 9)
    (.seq (.region [] [(5, (.const (.int .i64 130)))])
     (.ret))
    (.skip)))
  (.seq (.region [] [(5, (.const (.int .i64 0)))])
  (.ret))))))⟩
theorem c17_ok : compileFn Try.prog false 17 = some c17 := by kernel_rfl
/-- louver/louverref13.Locals -/
noncomputable def c19 : AFunc := ⟨[0, 1, 2, 4, 5, 6, 15, 30, 32], [.tmp 3],
  .seq (.region [⟨.box (.tmp 0), none, 0⟩] [(2, (.loc 0)), (3, (.const (.int .i64 0)))])
  (.seq (.seq (.region [⟨.bin .lss (.tmp 1) (.const (.int .i64 0)), none, 0⟩, ⟨.mov (.tmp 1), (some ((.loc 0), false)), 0⟩, ⟨.faddr 3 (.tmp 2), (some ((.loc 1), false)), 0⟩, ⟨.load none (.loc 0), (some ((.loc 2), false)), 0⟩, ⟨.len (.loc 0), (some ((.loc 3), false)), 0⟩, ⟨.bin .geq (.loc 3) (.loc 0), (some ((.loc 4), false)), 0⟩, ⟨.pick (.loc 5) (.const (.bool true)) (.loc 0), none, 0⟩] [(6, (.loc 0))])
   (.cond (.tmp 6)
    (.seq (.region [] [(3, (.const (.int .i64 0)))])
     (.ret))
    (.skip)))
  (.seq (.region [⟨.faddr 3 (.tmp 2), none, 0⟩, ⟨.load none (.loc 0), none, 0⟩, ⟨.iaddr 6 (.loc 0) (.tmp 1), none, 0⟩, ⟨.faddr 1 (.loc 0), none, 0⟩, ⟨.load none (.loc 0), none, 0⟩, ⟨.len (.loc 0), none, 0⟩] [(4, (.loc 0))])
  (.seq (.region [⟨.faddr 3 (.tmp 2), none, 0⟩, ⟨.load none (.loc 0), none, 0⟩, ⟨.iaddr 6 (.loc 0) (.tmp 1), none, 0⟩, ⟨.faddr 3 (.loc 0), none, 0⟩, ⟨.load none (.loc 0), none, 0⟩] [(5, (.loc 0))])
  (.seq (.seq (.region [⟨.bin .lss (.tmp 5) (.const (.int .i64 0)), none, 0⟩] [(7, (.loc 0))])
   (.cond (.tmp 7)
    (.region [] [(5, (.const (.int .i64 0)))])
    (.skip)))
  (.seq (.seq (.region [⟨.bin .gtr (.tmp 5) (.const (.int .i64 32)), none, 0⟩] [(8, (.loc 0))])
   (.cond (.tmp 8)
    (.region [] [(5, (.const (.int .i64 32)))])
    (.skip)))
  (.seq (.region [⟨.bin .add (.tmp 4) (.tmp 5), none, 0⟩] [(3, (.loc 0))])
  (.ret)))))))⟩
theorem c19_ok : compileFn Try.prog false 19 = some c19 := by kernel_rfl
/-- louver/louverkit.KeptModule -/
noncomputable def c20 : AFunc := ⟨[0, 1, 2, 3, 4, 5, 6, 7, 8, 40, 45, 58, 63, 77], [.tmp 4],
  .seq (.region [⟨.box (.tmp 0), none, 0⟩, ⟨.box (.tmp 1), none, 0⟩] [(2, (.loc 1)), (3, (.loc 0)), (4, (.const (.bool false)))])
  (.seq (.seq (.region [⟨.faddr 0 (.tmp 2), none, 0⟩, ⟨.load none (.loc 0), none, 0⟩, ⟨.faddr 0 (.tmp 3), none, 0⟩, ⟨.load none (.loc 0), none, 0⟩, ⟨.call (.func 29) [(.loc 2), (.loc 0)], none, 0⟩, ⟨.not (.loc 0), none, 0⟩, ⟨.faddr 2 (.tmp 2), (some ((.loc 0), false)), 0⟩, ⟨.load none (.loc 0), (some ((.loc 1), false)), 0⟩, ⟨.faddr 2 (.tmp 3), (some ((.loc 2), false)), 0⟩, ⟨.load none (.loc 0), (some ((.loc 3), false)), 0⟩, ⟨.call (.func 29) [(.loc 2), (.loc 0)], (some ((.loc 4), false)), 0⟩, ⟨.not (.loc 0), (some ((.loc 5), false)), 0⟩, ⟨.pick (.loc 6) (.const (.bool true)) (.loc 0), none, 0⟩, ⟨.faddr 1 (.tmp 2), (some ((.loc 0), false)), 0⟩, ⟨.load none (.loc 0), (some ((.loc 1), false)), 0⟩, ⟨.len (.loc 0), (some ((.loc 2), false)), 0⟩, ⟨.faddr 1 (.tmp 3), (some ((.loc 3), false)), 0⟩, ⟨.load none (.loc 0), (some ((.loc 4), false)), 0⟩, ⟨.len (.loc 0), (some ((.loc 5), false)), 0⟩, ⟨.bin .neq (.loc 3) (.loc 0), (some ((.loc 6), false)), 0⟩, ⟨.pick (.loc 7) (.const (.bool true)) (.loc 0), none, 0⟩, ⟨.faddr 3 (.tmp 2), (some ((.loc 0), false)), 0⟩, ⟨.load none (.loc 0), (some ((.loc 1), false)), 0⟩, ⟨.len (.loc 0), (some ((.loc 2), false)), 0⟩, ⟨.faddr 3 (.tmp 3), (some ((.loc 3), false)), 0⟩, ⟨.load none (.loc 0), (some ((.loc 4), false)), 0⟩, ⟨.len (.loc 0), (some ((.loc 5), false)), 0⟩, ⟨.bin .neq (.loc 3) (.loc 0), (some ((.loc 6), false)), 0⟩, ⟨.pick (.loc 7) (.const (.bool true)) (.loc 0), none, 0⟩] [(9, (.loc 0))])
   (.cond (.tmp 9)
    (.seq (.region [] [(4, (.const (.bool false)))])
     (.ret))
    (.skip)))
  (.seq (.seq (.region [] [(5, (.const (.int .i64 0)))])
   (.block 0 (.loop (.seq (.seq (.region [⟨.faddr 1 (.tmp 2), none, 0⟩, ⟨.load none (.loc 0), none, 0⟩, ⟨.len (.loc 0), none, 0⟩, ⟨.bin .lss (.tmp 5) (.loc 0), none, 0⟩] [(10, (.loc 0))])
     (.cond (.tmp 10)
      (.skip)
      (.exit 0)))
    (.seq (.block 1 (.seq (.draw [⟨.faddr 1 (.tmp 2), none, 0⟩, ⟨.load none (.loc 0), none, 0⟩, ⟨.iaddr 2 (.loc 0) (.tmp 5), none, 0⟩, ⟨.load (some 2) (.loc 0), none, 0⟩, ⟨.faddr 1 (.tmp 3), none, 0⟩, ⟨.load none (.loc 0), none, 0⟩, ⟨.iaddr 2 (.loc 0) (.tmp 5), none, 0⟩, ⟨.load (some 2) (.loc 0), none, 0⟩, ⟨.flat (.bin .neq 55 (.tmp 52) (.tmp 57)) [(.loc 4), (.loc 0)], none, 0⟩] [(11, (.loc 0))])
     (.cond (.tmp 11)
      (.seq (.region [] [(4, (.const (.bool false)))])
       (.ret))
      (.skip))))
    (.region [⟨.bin .add (.tmp 5) (.const (.int .i64 1)), none, 0⟩] [(5, (.loc 0))]))))))
  (.seq (.seq (.region [] [(6, (.const (.int .i64 0)))])
   (.block 2 (.loop (.seq (.seq (.region [⟨.faddr 3 (.tmp 2), none, 0⟩, ⟨.load none (.loc 0), none, 0⟩, ⟨.len (.loc 0), none, 0⟩, ⟨.bin .lss (.tmp 6) (.loc 0), none, 0⟩] [(12, (.loc 0))])
     (.cond (.tmp 12)
      (.skip)
      (.exit 2)))
    (.seq (.block 3 (.seq (.draw [⟨.faddr 3 (.tmp 2), none, 0⟩, ⟨.load none (.loc 0), none, 0⟩, ⟨.iaddr 6 (.loc 0) (.tmp 6), none, 0⟩, ⟨.load (some 6) (.loc 0), none, 0⟩, ⟨.faddr 3 (.tmp 3), none, 0⟩, ⟨.load none (.loc 0), none, 0⟩, ⟨.iaddr 6 (.loc 0) (.tmp 6), none, 0⟩, ⟨.load (some 6) (.loc 0), none, 0⟩, ⟨.call (.func 32) [(.loc 4), (.loc 0)], none, 0⟩, ⟨.not (.loc 0), none, 1⟩] [(13, (.loc 0))])
     (.cond (.tmp 13)
      (.seq (.region [] [(4, (.const (.bool false)))])
       (.ret))
      (.skip))))
    (.region [⟨.bin .add (.tmp 6) (.const (.int .i64 1)), none, 0⟩] [(6, (.loc 0))]))))))
  (.seq (.region [⟨.faddr 1 (.tmp 2), none, 0⟩, ⟨.load none (.loc 0), none, 0⟩, ⟨.faddr 1 (.tmp 2), none, 0⟩, ⟨.load none (.loc 0), none, 0⟩, ⟨.len (.loc 0), none, 0⟩, ⟨.bin .add (.loc 0) (.const (.int .i64 1)), none, 0⟩, ⟨.slice 2 (.loc 4) none (some (.loc 0)) none, none, 0⟩] [(7, (.loc 0))])
  (.seq (.region [⟨.faddr 3 (.tmp 2), none, 0⟩, ⟨.load none (.loc 0), none, 0⟩, ⟨.faddr 3 (.tmp 2), none, 0⟩, ⟨.load none (.loc 0), none, 0⟩, ⟨.len (.loc 0), none, 0⟩, ⟨.bin .add (.loc 0) (.const (.int .i64 1)), none, 0⟩, ⟨.slice 6 (.loc 4) none (some (.loc 0)) none, none, 0⟩] [(8, (.loc 0))])
  (.seq (.region [⟨.faddr 1 (.tmp 2), none, 0⟩, ⟨.load none (.loc 0), none, 0⟩, ⟨.len (.loc 0), none, 0⟩, ⟨.iaddr 2 (.tmp 7) (.loc 0), none, 0⟩, ⟨.faddr 0 (.loc 0), none, 0⟩, ⟨.load none (.loc 0), none, 0⟩, ⟨.bin .eql (.loc 0) (.const (.int .i64 (-71))), none, 0⟩, ⟨.mov (.tmp 8), (some ((.loc 0), true)), 0⟩, ⟨.faddr 3 (.tmp 2), (some ((.loc 1), true)), 0⟩, ⟨.load none (.loc 0), (some ((.loc 2), true)), 0⟩, ⟨.len (.loc 0), (some ((.loc 3), true)), 0⟩, ⟨.iaddr 6 (.loc 3) (.loc 0), (some ((.loc 4), true)), 0⟩, ⟨.faddr 4 (.loc 0), (some ((.loc 5), true)), 0⟩, ⟨.load none (.loc 0), (some ((.loc 6), true)), 0⟩, ⟨.bin .eql (.loc 0) (.const (.int .i64 (-71))), (some ((.loc 7), true)), 0⟩, ⟨.pick (.loc 8) (.loc 0) (.const (.bool false)), none, 0⟩] [(4, (.loc 0))])
  (.ret)))))))⟩
theorem c20_ok : compileFn Try.prog false 20 = some c20 := by kernel_rfl
/-- louver/louverref13.Check -/
noncomputable def c22 : AFunc := ⟨[0, 1, 2, 3, 4, 5, 6, 7, 8, 30, 36, 54, 61, 95, 105, 109, 114, 150, 152], [.cell 2 (some 3)],
  .seq (.region [⟨.box (.tmp 0), none, 0⟩, ⟨.alloc [(.int .i64 0), (.int .i64 0), (.int .i64 0)], none, 0⟩] [(1, (.loc 1)), (2, (.loc 0))])
  (.seq (.seq (.region [⟨.faddr 0 (.tmp 1), none, 0⟩, ⟨.load none (.loc 0), none, 0⟩, ⟨.len (.loc 0), none, 0⟩, ⟨.bin .gtr (.loc 0) (.const (.int .i64 32)), none, 0⟩, ⟨.faddr 1 (.tmp 1), (some ((.loc 0), false)), 0⟩, ⟨.load none (.loc 0), (some ((.loc 1), false)), 0⟩, ⟨.len (.loc 0), (some ((.loc 2), false)), 0⟩, ⟨.bin .gtr (.loc 0) (.const (.int .i64 16)), (some ((.loc 3), false)), 0⟩, ⟨.pick (.loc 4) (.const (.bool true)) (.loc 0), none, 0⟩, ⟨.faddr 2 (.tmp 1), (some ((.loc 0), false)), 0⟩, ⟨.load none (.loc 0), (some ((.loc 1), false)), 0⟩, ⟨.len (.loc 0), (some ((.loc 2), false)), 0⟩, ⟨.bin .gtr (.loc 0) (.const (.int .i64 16)), (some ((.loc 3), false)), 0⟩, ⟨.pick (.loc 4) (.const (.bool true)) (.loc 0), none, 0⟩, ⟨.faddr 3 (.tmp 1), (some ((.loc 0), false)), 0⟩, ⟨.load none (.loc 0), (some ((.loc 1), false)), 0⟩, ⟨.len (.loc 0), (some ((.loc 2), false)), 0⟩, ⟨.bin .gtr (.loc 0) (.const (.int .i64 32)), (some ((.loc 3), false)), 0⟩, ⟨.pick (.loc 4) (.const (.bool true)) (.loc 0), none, 0⟩] [(9, (.loc 0))])
   (.cond (.tmp 9)
    (.seq (.region [⟨.build [(.int .i64 0), (.int .i64 0), (.int .i64 0)] [(0, 1, (.const (.int .i64 74))), (1, 1, (.const (.int .i64 (-1))))], none, 0⟩, ⟨.store 3 (.tmp 2) (.loc 0), none, 0⟩] [])
     (.ret))
    (.skip)))
  (.seq (.seq (.region [] [(3, (.const (.int .i64 0)))])
   (.block 0 (.loop (.seq (.seq (.region [⟨.faddr 1 (.tmp 1), none, 0⟩, ⟨.load none (.loc 0), none, 0⟩, ⟨.len (.loc 0), none, 0⟩, ⟨.bin .lss (.tmp 3) (.loc 0), none, 0⟩] [(10, (.loc 0))])
     (.cond (.tmp 10)
      (.skip)
      (.exit 0)))
    (.seq (.block 1 (.seq (.region [⟨.faddr 1 (.tmp 1), none, 0⟩, ⟨.load none (.loc 0), none, 0⟩, ⟨.iaddr 2 (.loc 0) (.tmp 3), none, 0⟩, ⟨.faddr 0 (.loc 0), none, 0⟩, ⟨.load none (.loc 0), none, 0⟩, ⟨.bin .lss (.loc 0) (.const (.int .i64 1)), none, 0⟩, ⟨.faddr 1 (.tmp 1), (some ((.loc 0), false)), 0⟩, ⟨.load none (.loc 0), (some ((.loc 1), false)), 0⟩, ⟨.mov (.tmp 3), (some ((.loc 2), false)), 0⟩, ⟨.iaddr 2 (.loc 1) (.loc 0), (some ((.loc 3), false)), 0⟩, ⟨.faddr 0 (.loc 0), (some ((.loc 4), false)), 0⟩, ⟨.load none (.loc 0), (some ((.loc 5), false)), 0⟩, ⟨.bin .gtr (.loc 0) (.const (.int .i64 256)), (some ((.loc 6), false)), 0⟩, ⟨.pick (.loc 7) (.const (.bool true)) (.loc 0), none, 0⟩] [(11, (.loc 0))])
     (.cond (.tmp 11)
      (.seq (.region [⟨.build [(.int .i64 0), (.int .i64 0), (.int .i64 0)] [(0, 1, (.const (.int .i64 130))), (1, 1, (.const (.int .i64 (-1)))), (2, 1, (.tmp 3))], none, 0⟩, ⟨.store 3 (.tmp 2) (.loc 0), none, 0⟩] [])
       (.ret))
      (.skip))))
    (.region [⟨.bin .add (.tmp 3) (.const (.int .i64 1)), none, 0⟩] [(3, (.loc 0))]))))))
  (.seq (.seq (.region [] [(4, (.const (.int .i64 0)))])
   (.block 2 (.loop (.seq (.seq (.region [⟨.faddr 3 (.tmp 1), none, 0⟩, ⟨.load none (.loc 0), none, 0⟩, ⟨.len (.loc 0), none, 0⟩, ⟨.bin .lss (.tmp 4) (.loc 0), none, 0⟩] [(12, (.loc 0))])
     (.cond (.tmp 12)
      (.skip)
      (.exit 2)))
    (.seq (.block 3 (.seq (.region [⟨.faddr 3 (.tmp 1), none, 0⟩, ⟨.load none (.loc 0), none, 0⟩, ⟨.iaddr 6 (.loc 0) (.tmp 4), none, 0⟩, ⟨.load (some 6) (.loc 0), none, 0⟩, ⟨.alloc [(.int .u64 0), (.slice none 0 0), (.slice none 0 0), (.int .i64 0), (.int .i64 0), (.slice none 0 0)], none, 0⟩, ⟨.store 6 (.loc 0) (.loc 1), none, 0⟩] [(5, (.loc 1))])
     (.seq (.region [⟨.faddr 5 (.tmp 5), none, 0⟩, ⟨.load none (.loc 0), none, 0⟩, ⟨.len (.loc 0), none, 0⟩] [(6, (.loc 0))])
     (.seq (.seq (.region [⟨.faddr 1 (.tmp 5), none, 0⟩, ⟨.load none (.loc 0), none, 0⟩, ⟨.len (.loc 0), none, 0⟩, ⟨.bin .gtr (.loc 0) (.const (.int .i64 8)), none, 0⟩, ⟨.faddr 2 (.tmp 5), (some ((.loc 0), false)), 0⟩, ⟨.load none (.loc 0), (some ((.loc 1), false)), 0⟩, ⟨.len (.loc 0), (some ((.loc 2), false)), 0⟩, ⟨.bin .gtr (.loc 0) (.const (.int .i64 4)), (some ((.loc 3), false)), 0⟩, ⟨.pick (.loc 4) (.const (.bool true)) (.loc 0), none, 0⟩, ⟨.mov (.tmp 6), (some ((.loc 0), false)), 0⟩, ⟨.bin .gtr (.loc 0) (.const (.int .i64 2048)), (some ((.loc 1), false)), 0⟩, ⟨.pick (.loc 2) (.const (.bool true)) (.loc 0), none, 0⟩, ⟨.faddr 3 (.tmp 5), (some ((.loc 0), false)), 0⟩, ⟨.load none (.loc 0), (some ((.loc 1), false)), 0⟩, ⟨.bin .gtr (.loc 0) (.const (.int .i64 32)), (some ((.loc 2), false)), 0⟩, ⟨.pick (.loc 3) (.const (.bool true)) (.loc 0), none, 0⟩, ⟨.faddr 4 (.tmp 5), (some ((.loc 0), false)), 0⟩, ⟨.load none (.loc 0), (some ((.loc 1), false)), 0⟩, ⟨.bin .gtr (.loc 0) (.const (.int .i64 64)), (some ((.loc 2), false)), 0⟩, ⟨.pick (.loc 3) (.const (.bool true)) (.loc 0), none, 0⟩] [(13, (.loc 0))])
      (.cond (.tmp 13)
       (.seq (.region [⟨.build [(.int .i64 0), (.int .i64 0), (.int .i64 0)] [(0, 1, (.const (.int .i64 74))), (1, 1, (.tmp 4)), (2, 1, (.const (.int .i64 (-1))))], none, 0⟩, ⟨.store 3 (.tmp 2) (.loc 0), none, 0⟩] [])
        (.ret))
       (.skip)))
     (.seq (.seq (.region [⟨.faddr 3 (.tmp 5), none, 0⟩, ⟨.load none (.loc 0), none, 0⟩, ⟨.bin .lss (.loc 0) (.const (.int .i64 0)), none, 0⟩, ⟨.faddr 4 (.tmp 5), (some ((.loc 0), false)), 0⟩, ⟨.load none (.loc 0), (some ((.loc 1), false)), 0⟩, ⟨.bin .lss (.loc 0) (.const (.int .i64 0)), (some ((.loc 2), false)), 0⟩, ⟨.pick (.loc 3) (.const (.bool true)) (.loc 0), none, 0⟩] [(14, (.loc 0))])
      (.cond (.tmp 14)
       (.seq (.region [⟨.build [(.int .i64 0), (.int .i64 0), (.int .i64 0)] [(0, 1, (.const (.int .i64 130))), (1, 1, (.tmp 4)), (2, 1, (.const (.int .i64 (-1))))], none, 0⟩, ⟨.store 3 (.tmp 2) (.loc 0), none, 0⟩] [])
        (.ret))
       (.skip)))
     (.seq (.seq (.region [⟨.bin .eql (.tmp 6) (.const (.int .i64 0)), none, 0⟩] [(15, (.loc 0))])
      (.cond (.tmp 15)
       (.seq (.region [⟨.build [(.int .i64 0), (.int .i64 0), (.int .i64 0)] [(0, 1, (.const (.int .i64 132))), (1, 1, (.tmp 4)), (2, 1, (.const (.int .i64 (-1))))], none, 0⟩, ⟨.store 3 (.tmp 2) (.loc 0), none, 0⟩] [])
        (.ret))
       (.skip)))
     (.seq (.region [] [(7, (.const (.int .i64 0)))])
     (.block 4 (.loop (.seq (.seq (.region [⟨.bin .lss (.tmp 7) (.tmp 6), none, 0⟩] [(16, (.loc 0))])
       (.cond (.tmp 16)
        (.skip)
        (.exit 4)))
      (.seq (.block 5 (.seq (.draw [⟨.load (some 4) (.tmp 1), none, 0⟩, ⟨.faddr 5 (.tmp 5), none, 0⟩, ⟨.load none (.loc 0), none, 0⟩, ⟨.iaddr 2 (.loc 0) (.tmp 7), none, 0⟩, ⟨.load (some 2) (.loc 0), none, 0⟩, ⟨.call (.func 17) [(.loc 4), (.tmp 4), (.loc 0)], none, 0⟩] [(8, (.loc 0))])
       (.seq (.seq (.region [⟨.bin .eql (.tmp 8) (.const (.int .i64 0)), none, 0⟩, ⟨.mov (.tmp 7), (some ((.loc 0), true)), 0⟩, ⟨.mov (.tmp 6), (some ((.loc 1), true)), 0⟩, ⟨.bin .sub (.loc 0) (.const (.int .i64 1)), (some ((.loc 2), true)), 0⟩, ⟨.bin .eql (.loc 2) (.loc 0), (some ((.loc 3), true)), 0⟩, ⟨.pick (.loc 4) (.loc 0) (.const (.bool false)), none, 0⟩, ⟨.faddr 5 (.tmp 5), (some ((.loc 0), true)), 0⟩, ⟨.load none (.loc 0), (some ((.loc 1), true)), 0⟩, ⟨.mov (.tmp 7), (some ((.loc 2), true)), 0⟩, ⟨.iaddr 2 (.loc 1) (.loc 0), (some ((.loc 3), true)), 0⟩, ⟨.faddr 0 (.loc 0), (some ((.loc 4), true)), 0⟩, ⟨.load none (.loc 0), (some ((.loc 5), true)), 0⟩, ⟨.bin .neq (.loc 0) (.const (.int .i64 43)), (some ((.loc 6), true)), 0⟩, ⟨.pick (.loc 7) (.loc 0) (.const (.bool false)), none, 0⟩, ⟨.faddr 5 (.tmp 5), (some ((.loc 0), true)), 0⟩, ⟨.load none (.loc 0), (some ((.loc 1), true)), 0⟩, ⟨.mov (.tmp 7), (some ((.loc 2), true)), 0⟩, ⟨.iaddr 2 (.loc 1) (.loc 0), (some ((.loc 3), true)), 0⟩, ⟨.faddr 0 (.loc 0), (some ((.loc 4), true)), 0⟩, ⟨.load none (.loc 0), (some ((.loc 5), true)), 0⟩, ⟨.bin .neq (.loc 0) (.const (.int .i64 46)), (some ((.loc 6), true)), 0⟩, ⟨.pick (.loc 7) (.loc 0) (.const (.bool false)), none, 0⟩] [(17, (.loc 0))])
        (.cond (.tmp 17)
         (.region [] [(8, (.const (.int .i64 131)))])
         (.skip)))
       (.seq (.region [⟨.bin .neq (.tmp 8) (.const (.int .i64 0)), none, 0⟩] [(18, (.loc 0))])
       (.cond (.tmp 18)
        (.seq (.region [⟨.build [(.int .i64 0), (.int .i64 0), (.int .i64 0)] [(0, 1, (.tmp 8)), (1, 1, (.tmp 4)), (2, 1, (.tmp 7))], none, 0⟩, ⟨.store 3 (.tmp 2) (.loc 0), none, 0⟩] [])
         (.ret))
        (.skip))))))
      (.region [⟨.bin .add (.tmp 7) (.const (.int .i64 1)), none, 0⟩] [(7, (.loc 0))]))))))))))))
    (.region [⟨.bin .add (.tmp 4) (.const (.int .i64 1)), none, 0⟩] [(4, (.loc 0))]))))))
  (.seq (.region [⟨.build [(.int .i64 0), (.int .i64 0), (.int .i64 0)] [], none, 0⟩, ⟨.store 3 (.tmp 2) (.loc 0), none, 0⟩] [])
  (.ret)))))⟩
theorem c22_ok : compileFn Try.prog false 22 = some c22 := by kernel_rfl
/-- louver/louverlaw13.next -/
noncomputable def c24 : AFunc := ⟨[0, 1, 4, 5, 6, 14, 15, 20, 26], [.tmp 2],
  .seq (.region [] [(2, (.const (.slice none 0 0)))])
  (.seq (.region [⟨.iaddr 2 (.tmp 0) (.tmp 1), none, 0⟩, ⟨.load (some 2) (.loc 0), none, 0⟩, ⟨.alloc [(.int .i64 0), (.int .i64 0)], none, 0⟩, ⟨.store 2 (.loc 0) (.loc 1), none, 0⟩] [(3, (.loc 1))])
  (.seq (.region [⟨.bin .add (.tmp 1) (.const (.int .i64 1)), none, 0⟩] [(4, (.loc 0))])
  (.seq (.seq (.region [⟨.faddr 0 (.tmp 3), none, 0⟩, ⟨.load none (.loc 0), none, 0⟩] [(5, (.loc 0))])
   (.block 0 (.seq (.region [⟨.bin .eql (.tmp 5) (.const (.int .i64 43)), none, 0⟩] [(6, (.loc 0))])
   (.cond (.tmp 6)
    (.seq (.region [⟨.faddr 1 (.tmp 3), none, 0⟩, ⟨.load none (.loc 0), none, 0⟩, ⟨.mkarr 1 [(.int .i64 0)] [(0, 1, (.loc 0))], none, 0⟩] [(2, (.loc 0))])
     (.ret))
    (.seq (.region [⟨.bin .eql (.tmp 5) (.const (.int .i64 44)), none, 0⟩] [(7, (.loc 0))])
     (.cond (.tmp 7)
      (.seq (.region [⟨.faddr 1 (.tmp 3), none, 0⟩, ⟨.load none (.loc 0), none, 0⟩, ⟨.mkarr 2 [(.int .i64 0), (.int .i64 0)] [(0, 1, (.tmp 4)), (1, 1, (.loc 0))], none, 0⟩] [(2, (.loc 0))])
       (.ret))
      (.seq (.region [⟨.bin .eql (.tmp 5) (.const (.int .i64 46)), none, 0⟩] [(8, (.loc 0))])
       (.cond (.tmp 8)
        (.seq (.region [⟨.len (.tmp 0), none, 0⟩, ⟨.mkarr 1 [(.int .i64 0)] [(0, 1, (.loc 0))], none, 0⟩] [(2, (.loc 0))])
         (.ret))
        (.skip)))))))))
  (.seq (.region [⟨.mkarr 1 [(.int .i64 0)] [(0, 1, (.tmp 4))], none, 0⟩] [(2, (.loc 0))])
  (.ret)))))⟩
theorem c24_ok : compileFn Try.prog false 24 = some c24 := by kernel_rfl
/-- louver/louverkit.LentLabels -/
noncomputable def c25 : AFunc := ⟨[0, 2, 3], [.tmp 1],
  .seq (.region [] [(1, (.const (.slice none 0 0)))])
  (.seq (.region [] [(2, (.const (.slice none 0 0)))])
  (.seq (.region [⟨.append false 1 8 (.tmp 2) (.tmp 0), none, 0⟩] [(2, (.loc 0))])
  (.seq (.region [⟨.mkarr 1 [(.int .u64 0)] [(0, 1, (.const (.int .u64 7171)))], none, 0⟩, ⟨.append false 1 8 (.tmp 2) (.loc 0), none, 0⟩] [(2, (.loc 0))])
  (.seq (.region [⟨.len (.tmp 0), none, 0⟩, ⟨.slice 1 (.tmp 2) none (some (.loc 0)) none, none, 0⟩] [(1, (.loc 0))])
  (.ret)))))⟩
theorem c25_ok : compileFn Try.prog false 25 = some c25 := by kernel_rfl
/-- louver/louverkit.Labels -/
noncomputable def c27 : AFunc := ⟨[0, 1, 4, 5, 10, 14, 25], [.tmp 2],
  .seq (.region [] [(2, (.const (.bool false)))])
  (.seq (.seq (.region [⟨.len (.tmp 0), none, 0⟩, ⟨.len (.tmp 1), none, 0⟩, ⟨.bin .neq (.loc 1) (.loc 0), none, 0⟩] [(4, (.loc 0))])
   (.cond (.tmp 4)
    (.seq (.region [] [(2, (.const (.bool false)))])
     (.ret))
    (.skip)))
  (.seq (.seq (.region [] [(3, (.const (.int .i64 0)))])
   (.block 0 (.loop (.seq (.seq (.region [⟨.len (.tmp 0), none, 0⟩, ⟨.bin .lss (.tmp 3) (.loc 0), none, 0⟩] [(5, (.loc 0))])
     (.cond (.tmp 5)
      (.skip)
      (.exit 0)))
    (.seq (.block 1 (.seq (.draw [⟨.iaddr 1 (.tmp 0) (.tmp 3), none, 0⟩, ⟨.load none (.loc 0), none, 0⟩, ⟨.iaddr 1 (.tmp 1) (.tmp 3), none, 0⟩, ⟨.load none (.loc 0), none, 0⟩, ⟨.bin .neq (.loc 2) (.loc 0), none, 0⟩] [(6, (.loc 0))])
     (.cond (.tmp 6)
      (.seq (.region [] [(2, (.const (.bool false)))])
       (.ret))
      (.skip))))
    (.region [⟨.bin .add (.tmp 3) (.const (.int .i64 1)), none, 0⟩] [(3, (.loc 0))]))))))
  (.seq (.region [] [(2, (.const (.bool true)))])
  (.ret))))⟩
theorem c27_ok : compileFn Try.prog false 27 = some c27 := by kernel_rfl
/-- louver/louverkit.KeptLabels -/
noncomputable def c29 : AFunc := ⟨[0, 1, 4, 5, 9], [.tmp 2],
  .seq (.region [] [(2, (.const (.bool false)))])
  (.seq (.seq (.region [⟨.call (.func 27) [(.tmp 0), (.tmp 1)], none, 0⟩, ⟨.not (.loc 0), none, 0⟩] [(4, (.loc 0))])
   (.cond (.tmp 4)
    (.seq (.region [] [(2, (.const (.bool false)))])
     (.ret))
    (.skip)))
  (.seq (.region [⟨.len (.tmp 0), none, 0⟩, ⟨.bin .add (.loc 0) (.const (.int .i64 1)), none, 0⟩, ⟨.slice 1 (.tmp 0) none (some (.loc 0)) none, none, 0⟩] [(3, (.loc 0))])
  (.seq (.region [⟨.len (.tmp 0), none, 0⟩, ⟨.iaddr 1 (.tmp 3) (.loc 0), none, 0⟩, ⟨.load none (.loc 0), none, 0⟩, ⟨.bin .eql (.loc 0) (.const (.int .u64 7171)), none, 0⟩] [(2, (.loc 0))])
  (.ret))))⟩
theorem c29_ok : compileFn Try.prog false 29 = some c29 := by kernel_rfl
/-- louver/louverkit.LentFunction -/
noncomputable def c30 : AFunc := ⟨[0, 1, 2], [.cell 2 (some 6)],
  .seq (.region [⟨.box (.tmp 0), none, 0⟩, ⟨.alloc [(.int .u64 0), (.slice none 0 0), (.slice none 0 0), (.int .i64 0), (.int .i64 0), (.slice none 0 0)], none, 0⟩] [(1, (.loc 1)), (2, (.loc 0))])
  (.seq (.region [⟨.faddr 1 (.tmp 1), none, 0⟩, ⟨.load none (.loc 0), none, 0⟩, ⟨.call (.func 25) [(.loc 0)], none, 0⟩, ⟨.faddr 1 (.tmp 1), none, 0⟩, ⟨.store 1 (.loc 0) (.loc 1), none, 0⟩] [])
  (.seq (.region [⟨.faddr 2 (.tmp 1), none, 0⟩, ⟨.load none (.loc 0), none, 0⟩, ⟨.call (.func 25) [(.loc 0)], none, 0⟩, ⟨.faddr 2 (.tmp 1), none, 0⟩, ⟨.store 1 (.loc 0) (.loc 1), none, 0⟩] [])
  (.seq (.region [⟨.faddr 5 (.tmp 1), none, 0⟩, ⟨.load none (.loc 0), none, 0⟩, ⟨.call (.func 35) [(.loc 0)], none, 0⟩, ⟨.faddr 5 (.tmp 1), none, 0⟩, ⟨.store 1 (.loc 0) (.loc 1), none, 0⟩] [])
  (.seq (.region [⟨.load (some 6) (.tmp 1), none, 0⟩, ⟨.store 6 (.tmp 2) (.loc 0), none, 0⟩] [])
  (.ret)))))⟩
theorem c30_ok : compileFn Try.prog false 30 = some c30 := by kernel_rfl
/-- louver/louverref13.room -/
noncomputable def c31 : AFunc := ⟨[0, 1, 2, 3, 6, 12, 13, 14, 16, 22, 28, 34, 40, 50, 55], [.tmp 4],
  .seq (.region [⟨.box (.tmp 0), none, 0⟩] [(3, (.loc 0)), (4, (.const (.int .i64 0)))])
  (.seq (.seq (.region [⟨.bin .geq (.tmp 2) (.const (.int .i64 1)), none, 0⟩, ⟨.mov (.tmp 2), (some ((.loc 0), true)), 0⟩, ⟨.bin .leq (.loc 0) (.const (.int .i64 17)), (some ((.loc 1), true)), 0⟩, ⟨.pick (.loc 2) (.loc 0) (.const (.bool false)), none, 0⟩] [(5, (.loc 0))])
   (.cond (.tmp 5)
    (.seq (.region [] [(4, (.const (.int .i64 1)))])
     (.ret))
    (.skip)))
  (.seq (.seq (.region [] [(6, (.tmp 2))])
   (.block 0 (.seq (.region [⟨.bin .eql (.tmp 6) (.const (.int .i64 32)), none, 0⟩] [(7, (.loc 0))])
   (.cond (.tmp 7)
    (.seq (.region [] [(4, (.const (.int .i64 (-1))))])
     (.ret))
    (.seq (.seq (.region [⟨.bin .eql (.tmp 6) (.const (.int .i64 33)), none, 0⟩] [(8, (.loc 0))])
      (.cond (.tmp 8)
       (.skip)
       (.region [⟨.bin .eql (.tmp 6) (.const (.int .i64 34)), none, 0⟩] [(8, (.loc 0))])))
     (.cond (.tmp 8)
      (.seq (.region [⟨.load (some 4) (.tmp 3), none, 0⟩, ⟨.call (.func 19) [(.loc 0), (.tmp 1)], none, 0⟩] [(4, (.loc 0))])
       (.ret))
      (.seq (.seq (.region [⟨.bin .eql (.tmp 6) (.const (.int .i64 35)), none, 0⟩] [(9, (.loc 0))])
        (.cond (.tmp 9)
         (.skip)
         (.region [⟨.bin .eql (.tmp 6) (.const (.int .i64 36)), none, 0⟩] [(9, (.loc 0))])))
       (.cond (.tmp 9)
        (.seq (.region [⟨.faddr 0 (.tmp 3), none, 0⟩, ⟨.load none (.loc 0), none, 0⟩, ⟨.len (.loc 0), none, 0⟩] [(4, (.loc 0))])
         (.ret))
        (.seq (.seq (.region [⟨.bin .eql (.tmp 6) (.const (.int .i64 37)), none, 0⟩] [(10, (.loc 0))])
          (.cond (.tmp 10)
           (.skip)
           (.region [⟨.bin .eql (.tmp 6) (.const (.int .i64 38)), none, 0⟩] [(10, (.loc 0))])))
         (.cond (.tmp 10)
          (.seq (.region [⟨.faddr 1 (.tmp 3), none, 0⟩, ⟨.load none (.loc 0), none, 0⟩, ⟨.len (.loc 0), none, 0⟩] [(4, (.loc 0))])
           (.ret))
          (.seq (.seq (.region [⟨.bin .eql (.tmp 6) (.const (.int .i64 39)), none, 0⟩] [(11, (.loc 0))])
            (.cond (.tmp 11)
             (.skip)
             (.seq (.region [⟨.bin .eql (.tmp 6) (.const (.int .i64 40)), none, 0⟩] [(11, (.loc 0))])
              (.cond (.tmp 11)
               (.skip)
               (.seq (.region [⟨.bin .eql (.tmp 6) (.const (.int .i64 41)), none, 0⟩] [(11, (.loc 0))])
                (.cond (.tmp 11)
                 (.skip)
                 (.seq (.region [⟨.bin .eql (.tmp 6) (.const (.int .i64 42)), none, 0⟩] [(11, (.loc 0))])
                  (.cond (.tmp 11)
                   (.skip)
                   (.region [⟨.bin .eql (.tmp 6) (.const (.int .i64 46)), none, 0⟩] [(11, (.loc 0))])))))))))
           (.cond (.tmp 11)
            (.seq (.region [] [(4, (.const (.int .i64 1)))])
             (.ret))
            (.seq (.seq (.region [⟨.bin .eql (.tmp 6) (.const (.int .i64 43)), none, 0⟩] [(12, (.loc 0))])
              (.cond (.tmp 12)
               (.skip)
               (.region [⟨.bin .eql (.tmp 6) (.const (.int .i64 44)), none, 0⟩] [(12, (.loc 0))])))
             (.cond (.tmp 12)
              (.seq (.region [⟨.faddr 3 (.tmp 3), none, 0⟩, ⟨.load none (.loc 0), none, 0⟩, ⟨.iaddr 6 (.loc 0) (.tmp 1), none, 0⟩, ⟨.faddr 5 (.loc 0), none, 0⟩, ⟨.load none (.loc 0), none, 0⟩, ⟨.len (.loc 0), none, 0⟩] [(4, (.loc 0))])
               (.ret))
              (.seq (.region [⟨.bin .eql (.tmp 6) (.const (.int .i64 45)), none, 0⟩] [(13, (.loc 0))])
               (.cond (.tmp 13)
                (.seq (.region [⟨.faddr 3 (.tmp 3), none, 0⟩, ⟨.load none (.loc 0), none, 0⟩, ⟨.len (.loc 0), none, 0⟩] [(4, (.loc 0))])
                 (.ret))
                (.seq (.region [⟨.bin .eql (.tmp 6) (.const (.int .i64 47)), none, 0⟩] [(14, (.loc 0))])
                 (.cond (.tmp 14)
                  (.seq (.region [⟨.faddr 2 (.tmp 3), none, 0⟩, ⟨.load none (.loc 0), none, 0⟩, ⟨.len (.loc 0), none, 0⟩] [(4, (.loc 0))])
                   (.ret))
                  (.skip)))))))))))))))))))
  (.seq (.region [] [(4, (.const (.int .i64 (-2))))])
  (.ret))))⟩
theorem c31_ok : compileFn Try.prog false 31 = some c31 := by kernel_rfl
/-- louver/louverkit.KeptFunction -/
noncomputable def c32 : AFunc := ⟨[0, 1, 2, 3, 4], [.tmp 4],
  .seq (.region [⟨.box (.tmp 0), none, 0⟩, ⟨.box (.tmp 1), none, 0⟩] [(2, (.loc 1)), (3, (.loc 0)), (4, (.const (.bool false)))])
  (.seq (.region [⟨.faddr 0 (.tmp 2), none, 0⟩, ⟨.load none (.loc 0), none, 0⟩, ⟨.faddr 0 (.tmp 3), none, 0⟩, ⟨.load none (.loc 0), none, 0⟩, ⟨.bin .eql (.loc 2) (.loc 0), none, 0⟩, ⟨.faddr 3 (.tmp 2), (some ((.loc 0), true)), 0⟩, ⟨.load none (.loc 0), (some ((.loc 1), true)), 0⟩, ⟨.faddr 3 (.tmp 3), (some ((.loc 2), true)), 0⟩, ⟨.load none (.loc 0), (some ((.loc 3), true)), 0⟩, ⟨.bin .eql (.loc 2) (.loc 0), (some ((.loc 4), true)), 0⟩, ⟨.pick (.loc 5) (.loc 0) (.const (.bool false)), none, 0⟩, ⟨.faddr 4 (.tmp 2), (some ((.loc 0), true)), 0⟩, ⟨.load none (.loc 0), (some ((.loc 1), true)), 0⟩, ⟨.faddr 4 (.tmp 3), (some ((.loc 2), true)), 0⟩, ⟨.load none (.loc 0), (some ((.loc 3), true)), 0⟩, ⟨.bin .eql (.loc 2) (.loc 0), (some ((.loc 4), true)), 0⟩, ⟨.pick (.loc 5) (.loc 0) (.const (.bool false)), none, 0⟩, ⟨.faddr 1 (.tmp 2), (some ((.loc 0), true)), 0⟩, ⟨.load none (.loc 0), (some ((.loc 1), true)), 0⟩, ⟨.faddr 1 (.tmp 3), (some ((.loc 2), true)), 0⟩, ⟨.load none (.loc 0), (some ((.loc 3), true)), 0⟩, ⟨.call (.func 29) [(.loc 2), (.loc 0)], (some ((.loc 4), true)), 0⟩, ⟨.pick (.loc 5) (.loc 0) (.const (.bool false)), none, 0⟩, ⟨.faddr 2 (.tmp 2), (some ((.loc 0), true)), 0⟩, ⟨.load none (.loc 0), (some ((.loc 1), true)), 0⟩, ⟨.faddr 2 (.tmp 3), (some ((.loc 2), true)), 0⟩, ⟨.load none (.loc 0), (some ((.loc 3), true)), 0⟩, ⟨.call (.func 29) [(.loc 2), (.loc 0)], (some ((.loc 4), true)), 0⟩, ⟨.pick (.loc 5) (.loc 0) (.const (.bool false)), none, 0⟩, ⟨.faddr 5 (.tmp 2), (some ((.loc 0), true)), 0⟩, ⟨.load none (.loc 0), (some ((.loc 1), true)), 0⟩, ⟨.faddr 5 (.tmp 3), (some ((.loc 2), true)), 0⟩, ⟨.load none (.loc 0), (some ((.loc 3), true)), 0⟩, ⟨.call (.func 36) [(.loc 2), (.loc 0)], (some ((.loc 4), true)), 0⟩, ⟨.pick (.loc 5) (.loc 0) (.const (.bool false)), none, 0⟩] [(4, (.loc 0))])
  (.ret))⟩
theorem c32_ok : compileFn Try.prog false 32 = some c32 := by kernel_rfl
/-- louver/louverkit.LentCode -/
noncomputable def c35 : AFunc := ⟨[0, 2, 3], [.tmp 1],
  .seq (.region [] [(1, (.const (.slice none 0 0)))])
  (.seq (.region [] [(2, (.const (.slice none 0 0)))])
  (.seq (.region [⟨.append false 2 16 (.tmp 2) (.tmp 0), none, 0⟩] [(2, (.loc 0))])
  (.seq (.region [⟨.build [(.int .i64 0), (.int .i64 0)] [(0, 1, (.const (.int .i64 (-71))))], none, 0⟩, ⟨.mkarr 1 [(.int .i64 0), (.int .i64 0)] [(0, 2, (.loc 0))], none, 0⟩, ⟨.append false 2 16 (.tmp 2) (.loc 0), none, 0⟩] [(2, (.loc 0))])
  (.seq (.region [⟨.len (.tmp 0), none, 0⟩, ⟨.slice 2 (.tmp 2) none (some (.loc 0)) none, none, 0⟩] [(1, (.loc 0))])
  (.ret)))))⟩
theorem c35_ok : compileFn Try.prog false 35 = some c35 := by kernel_rfl
/-- louver/louverkit.KeptCode -/
noncomputable def c36 : AFunc := ⟨[0, 1, 4, 5, 9], [.tmp 2],
  .seq (.region [] [(2, (.const (.bool false)))])
  (.seq (.seq (.region [⟨.call (.func 37) [(.tmp 0), (.tmp 1)], none, 0⟩, ⟨.not (.loc 0), none, 0⟩] [(4, (.loc 0))])
   (.cond (.tmp 4)
    (.seq (.region [] [(2, (.const (.bool false)))])
     (.ret))
    (.skip)))
  (.seq (.region [⟨.len (.tmp 0), none, 0⟩, ⟨.bin .add (.loc 0) (.const (.int .i64 1)), none, 0⟩, ⟨.slice 2 (.tmp 0) none (some (.loc 0)) none, none, 0⟩] [(3, (.loc 0))])
  (.seq (.region [⟨.len (.tmp 0), none, 0⟩, ⟨.iaddr 2 (.tmp 3) (.loc 0), none, 0⟩, ⟨.load (some 2) (.loc 0), none, 0⟩, ⟨.build [(.int .i64 0), (.int .i64 0)] [(0, 1, (.const (.int .i64 (-71))))], none, 0⟩, ⟨.flat (.bin .eql 34 (.tmp 19) (.tmp 20)) [(.loc 1), (.loc 0)], none, 0⟩] [(2, (.loc 0))])
  (.ret))))⟩
theorem c36_ok : compileFn Try.prog false 36 = some c36 := by kernel_rfl
/-- louver/louverkit.Code -/
noncomputable def c37 : AFunc := ⟨[0, 1, 4, 5, 10, 14, 25], [.tmp 2],
  .seq (.region [] [(2, (.const (.bool false)))])
  (.seq (.seq (.region [⟨.len (.tmp 0), none, 0⟩, ⟨.len (.tmp 1), none, 0⟩, ⟨.bin .neq (.loc 1) (.loc 0), none, 0⟩] [(4, (.loc 0))])
   (.cond (.tmp 4)
    (.seq (.region [] [(2, (.const (.bool false)))])
     (.ret))
    (.skip)))
  (.seq (.seq (.region [] [(3, (.const (.int .i64 0)))])
   (.block 0 (.loop (.seq (.seq (.region [⟨.len (.tmp 0), none, 0⟩, ⟨.bin .lss (.tmp 3) (.loc 0), none, 0⟩] [(5, (.loc 0))])
     (.cond (.tmp 5)
      (.skip)
      (.exit 0)))
    (.seq (.block 1 (.seq (.draw [⟨.iaddr 2 (.tmp 0) (.tmp 3), none, 0⟩, ⟨.load (some 2) (.loc 0), none, 0⟩, ⟨.iaddr 2 (.tmp 1) (.tmp 3), none, 0⟩, ⟨.load (some 2) (.loc 0), none, 0⟩, ⟨.flat (.bin .neq 34 (.tmp 20) (.tmp 24)) [(.loc 2), (.loc 0)], none, 0⟩] [(6, (.loc 0))])
     (.cond (.tmp 6)
      (.seq (.region [] [(2, (.const (.bool false)))])
       (.ret))
      (.skip))))
    (.region [⟨.bin .add (.tmp 3) (.const (.int .i64 1)), none, 0⟩] [(3, (.loc 0))]))))))
  (.seq (.region [] [(2, (.const (.bool true)))])
  (.ret))))⟩
theorem c37_ok : compileFn Try.prog false 37 = some c37 := by kernel_rfl
noncomputable def list : List (Option AFunc) := [none, none, none, none, some c4, some c5, some c6, some c7, none, none, none, none, none, none, none, some c15, some ShapeKnown.c16, some c17, some ShapeKnown.c18, some c19, some c20, some ShapeKnown.c21, some c22, none, some c24, some c25, none, some c27, none, some c29, some c30, some c31, some c32, some ShapeKnown.c33, none, some c35, some c36, some c37]
noncomputable def fns : TV (Option AFunc) := Vec.ofList list
def none1 (args : List Value) (H : AH TV) : Option (Value × AH TV) := match args with | [] => some (.bool true, H) | _ => none
noncomputable def ext (f : FuncId) (args : List Value) (H : AH TV) : Option (Value × AH TV) := bif Nat.beq f 23 then none1 args H else none
noncomputable def E : Env TV := { P := Try.prog, fn := fun f => (Vec.get fns f).getD none, ext := ext }
theorem all_ok : OkFrom Try.prog 0 list := ⟨⟨false, c4_ok⟩, ⟨⟨false, c5_ok⟩, ⟨⟨false, c6_ok⟩, ⟨⟨false, c7_ok⟩, ⟨⟨false, c15_ok⟩, ⟨⟨false, ShapeKnown.c16_ok⟩, ⟨⟨false, c17_ok⟩, ⟨⟨false, ShapeKnown.c18_ok⟩, ⟨⟨false, c19_ok⟩, ⟨⟨false, c20_ok⟩, ⟨⟨false, ShapeKnown.c21_ok⟩, ⟨⟨false, c22_ok⟩, ⟨⟨false, c24_ok⟩, ⟨⟨false, c25_ok⟩, ⟨⟨false, c27_ok⟩, ⟨⟨false, c29_ok⟩, ⟨⟨false, c30_ok⟩, ⟨⟨false, c31_ok⟩, ⟨⟨false, c32_ok⟩, ⟨⟨false, ShapeKnown.c33_ok⟩, ⟨⟨false, c35_ok⟩, ⟨⟨false, c36_ok⟩, ⟨⟨false, c37_ok⟩, trivial⟩⟩⟩⟩⟩⟩⟩⟩⟩⟩⟩⟩⟩⟩⟩⟩⟩⟩⟩⟩⟩⟩⟩
theorem ext_ok (f : FuncId) (args : List Value) (H : AH TV) (v : Value) (H' : AH TV) (h : ext f args H = some (v, H')) : CallsOk Try.prog f args H v H' := by
  unfold ext at h
  cases hb : Nat.beq f 23 with
  | true =>
    have hf : f = 23 := Nat.eq_of_beq_eq_true hb
    rw [hb] at h
    cases args with
    | nil =>
      simp only [none1, cond_true, Option.some.injEq, Prod.mk.injEq] at h
      obtain ⟨rfl, rfl⟩ := h
      rw [hf]
      exact closed_ok ShapeKnown.env_ok ShapeKnown.run rfl H
    | cons a r => cases h
  | false =>
  rw [hb] at h
  cases h
theorem env_ok : EnvOk E := ⟨fun f fn h => fn_of all_ok h, ext_ok, draw_ok (by kernel_rfl)⟩
end Go.Proofs.Ytnngilpiajgobaa.Shape
