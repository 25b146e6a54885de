/- The functions that louver/louverlaw14.GraphEdges,louver/louverlaw14.GraphTells,louver/louverlaw14.GraphWays reaches, compiled; that each is what 'compileFn' comes to. PRINTED by code.py. -/
import Derived.Test.YtdbehmepikhghaaAMb
import Derived.Test.YtdbehmepikhghaaGraphAwakeRun
import Derived.Test.YtdbehmepikhghaaGraphAwakeCode
import Derived.Test.YtdbehmepikhghaaProg
import Derived.KernelRfl
set_option linter.unusedVariables false
set_option maxRecDepth 100000
namespace Go.Proofs.Ytdbehmepikhghaa.Graph
open Go.Proofs.Ytdbehmepikhghaa.AM
/-- louver/louverlaw14.GraphEdges -/
noncomputable def c3 : AFunc := ⟨[0, 1, 2, 3, 4, 5, 6, 7, 8, 9, 10, 11, 12, 13, 14, 15, 16, 21, 28, 30, 31, 32, 33, 38, 43, 53, 62, 73, 74, 75], [.tmp 4],
  .seq (.region [⟨.box (.tmp 0), none, 0⟩, ⟨.box (.tmp 1), none, 0⟩] [(2, (.loc 1)), (3, (.loc 0)), (4, (.const (.bool false)))])
  (.seq (.region [⟨.faddr 5 (.tmp 2), none, 0⟩, ⟨.load none (.loc 0), none, 0⟩, ⟨.len (.loc 0), none, 0⟩] [(5, (.loc 0))])
  (.seq (.seq (.region [⟨.bin .gtr (.tmp 5) (.const (.int .i64 200)), none, 0⟩] [(17, (.loc 0))])
   (.cond (.tmp 17)
    (.seq (.region [⟨.call (.func 12) [], none, 0⟩] [(4, (.loc 0))])
     (.ret))
    (.skip)))
  (.seq (.region [⟨.load (some 6) (.tmp 2), none, 0⟩, ⟨.call (.func 13) [(.loc 0)], none, 0⟩, ⟨.alloc [(.int .u64 0), (.slice none 0 0), (.slice none 0 0), (.int .i64 0), (.int .i64 0), (.slice none 0 0)], none, 0⟩, ⟨.store 6 (.loc 0) (.loc 1), none, 0⟩] [(6, (.loc 1))])
  (.seq (.region [⟨.load (some 6) (.tmp 6), none, 0⟩, ⟨.call (.func 14) [(.loc 0)], none, 0⟩] [(7, (.loc 0))])
  (.seq (.seq (.region [⟨.eqn 2 false (.tmp 7) (.const .nilFunc), none, 0⟩] [(18, (.loc 0))])
   (.cond (.tmp 18)
    (.seq (.region [] [(4, (.const (.bool false)))])
     (.ret))
    (.skip)))
  (.seq (.seq (.region [⟨.load none (.tmp 3), none, 0⟩, ⟨.bin .lss (.loc 0) (.const (.int .i64 1)), none, 0⟩] [(19, (.loc 0))])
   (.cond (.tmp 19)
    (.region [⟨.store 1 (.tmp 3) (.const (.int .i64 1)), none, 0⟩] [])
    (.skip)))
  (.seq (.region [⟨.alloc [(.int .i64 0)], none, 0⟩, ⟨.store 1 (.loc 0) (.const (.int .i64 0)), none, 0⟩] [(8, (.loc 1))])
  (.seq (.seq (.region [] [(20, (.tmp 7))])
   (.block 0 (.rangeFunc (.tmp 20) [(some 21), (some 22)]
    (.skip)
    (.block 1 (.seq (.region [⟨.load none (.tmp 8), none, 0⟩, ⟨.bin .add (.loc 0) (.const (.int .i64 1)), none, 0⟩, ⟨.store 1 (.tmp 8) (.loc 0), none, 0⟩] [])
     (.seq (.region [⟨.load none (.tmp 8), none, 0⟩, ⟨.load none (.tmp 3), none, 0⟩, ⟨.bin .eql (.loc 1) (.loc 0), none, 0⟩] [(23, (.loc 0))])
     (.cond (.tmp 23)
      (.exit 0)
      (.skip))))))))
  (.seq (.seq (.region [] [(9, (.const (.int .i64 0)))])
   (.block 2 (.loop (.seq (.seq (.region [⟨.faddr 5 (.tmp 6), none, 0⟩, ⟨.load none (.loc 0), none, 0⟩, ⟨.len (.loc 0), none, 0⟩, ⟨.bin .lss (.tmp 9) (.loc 0), none, 0⟩] [(24, (.loc 0))])
     (.cond (.tmp 24)
      (.skip)
      (.exit 2)))
    (.seq (.block 3 (.region [⟨.faddr 5 (.tmp 6), none, 0⟩, ⟨.load none (.loc 0), none, 0⟩, ⟨.build [(.int .i64 0), (.int .i64 0)] [(0, 1, (.const (.int .i64 46)))], none, 0⟩, ⟨.iaddr 2 (.loc 1) (.tmp 9), none, 0⟩, ⟨.store 2 (.loc 0) (.loc 1), none, 0⟩] []))
    (.region [⟨.bin .add (.tmp 9) (.const (.int .i64 1)), none, 0⟩] [(9, (.loc 0))]))))))
  (.seq (.region [] [(10, (.const (.slice none 0 0)))])
  (.seq (.seq (.region [] [(11, (.const (.int .i64 0)))])
   (.block 4 (.loop (.seq (.seq (.region [⟨.bin .lss (.tmp 11) (.tmp 5), none, 0⟩] [(25, (.loc 0))])
     (.cond (.tmp 25)
      (.skip)
      (.exit 4)))
    (.seq (.block 5 (.seq (.region [⟨.load (some 6) (.tmp 2), none, 0⟩, ⟨.call (.func 15) [(.loc 0), (.tmp 11)], none, 0⟩] [(12, (.loc 0))])
     (.seq (.region [] [(13, (.const (.int .i64 0)))])
     (.block 6 (.loop (.seq (.seq (.region [⟨.len (.tmp 12), none, 0⟩, ⟨.bin .lss (.tmp 13) (.loc 0), none, 0⟩] [(26, (.loc 0))])
       (.cond (.tmp 26)
        (.skip)
        (.exit 6)))
      (.seq (.block 7 (.region [⟨.iaddr 1 (.tmp 12) (.tmp 13), none, 0⟩, ⟨.load none (.loc 0), none, 0⟩, ⟨.mkarr 2 [(.int .i64 0), (.int .i64 0)] [(0, 1, (.tmp 11)), (1, 1, (.loc 0))], none, 0⟩, ⟨.append false 1 8 (.tmp 10) (.loc 0), none, 0⟩] [(10, (.loc 0))]))
      (.region [⟨.bin .add (.tmp 13) (.const (.int .i64 1)), none, 0⟩] [(13, (.loc 0))]))))))))
    (.region [⟨.bin .add (.tmp 11) (.const (.int .i64 1)), none, 0⟩] [(11, (.loc 0))]))))))
  (.seq (.region [⟨.alloc [(.slice none 0 0)], none, 0⟩] [(14, (.loc 0))])
  (.seq (.seq (.region [] [(27, (.tmp 7))])
   (.block 8 (.rangeFunc (.tmp 27) [(some 28), (some 29)]
    (.seq (.region [] [(15, (.tmp 28))])
     (.region [] [(16, (.tmp 29))]))
    (.block 9 (.region [⟨.load none (.tmp 14), none, 0⟩, ⟨.mkarr 2 [(.int .i64 0), (.int .i64 0)] [(0, 1, (.tmp 15)), (1, 1, (.tmp 16))], none, 0⟩, ⟨.append false 1 8 (.loc 1) (.loc 0), none, 0⟩, ⟨.store 1 (.tmp 14) (.loc 0), none, 0⟩] [])))))
  (.seq (.region [⟨.load none (.tmp 14), none, 0⟩, ⟨.call (.func 16) [(.loc 0), (.tmp 10)], none, 0⟩, ⟨.load none (.tmp 8), (some ((.loc 0), true)), 0⟩, ⟨.load none (.tmp 3), (some ((.loc 1), true)), 0⟩, ⟨.bin .eql (.loc 1) (.loc 0), (some ((.loc 2), true)), 0⟩, ⟨.mov (.loc 0), (some ((.loc 3), true)), 0⟩, ⟨.load none (.tmp 8), (some ((.loc 0), false)), 0⟩, ⟨.bin .mul (.const (.int .i64 2)) (.loc 0), (some ((.loc 1), false)), 0⟩, ⟨.mov (.tmp 10), (some ((.loc 2), false)), 0⟩, ⟨.len (.loc 0), (some ((.loc 3), false)), 0⟩, ⟨.bin .eql (.loc 2) (.loc 0), (some ((.loc 4), false)), 0⟩, ⟨.pick (.loc 5) (.const (.bool true)) (.loc 0), (some ((.loc 9), true)), 0⟩, ⟨.pick (.loc 10) (.loc 0) (.const (.bool false)), none, 0⟩, ⟨.call (.func 12) [], (some ((.loc 0), true)), 0⟩, ⟨.pick (.loc 1) (.loc 0) (.const (.bool false)), none, 0⟩] [(4, (.loc 0))])
  (.ret)))))))))))))))⟩
theorem c3_ok : compileFn Try.prog false 3 = some c3 := by kernel_rfl
/-- louver/louverlaw14.GraphTells -/
noncomputable def c4 : AFunc := ⟨[0, 1, 2, 4, 5, 6, 7, 8, 9, 10, 11, 12, 13, 14, 19, 26, 58], [.tmp 3],
  .seq (.region [⟨.box (.tmp 0), none, 0⟩] [(2, (.loc 0)), (3, (.const (.bool false)))])
  (.seq (.region [⟨.faddr 5 (.tmp 2), none, 0⟩, ⟨.load none (.loc 0), none, 0⟩, ⟨.len (.loc 0), none, 0⟩] [(4, (.loc 0))])
  (.seq (.seq (.region [⟨.bin .gtr (.tmp 4) (.const (.int .i64 80)), none, 0⟩] [(14, (.loc 0))])
   (.cond (.tmp 14)
    (.seq (.region [⟨.call (.func 12) [], none, 0⟩] [(3, (.loc 0))])
     (.ret))
    (.skip)))
  (.seq (.region [⟨.load (some 6) (.tmp 2), none, 0⟩, ⟨.call (.func 13) [(.loc 0)], none, 0⟩, ⟨.alloc [(.int .u64 0), (.slice none 0 0), (.slice none 0 0), (.int .i64 0), (.int .i64 0), (.slice none 0 0)], none, 0⟩, ⟨.store 6 (.loc 0) (.loc 1), none, 0⟩] [(5, (.loc 1))])
  (.seq (.region [] [(6, (.const (.slice none 0 0)))])
  (.seq (.seq (.region [] [(7, (.const (.int .i64 (-1))))])
   (.block 0 (.loop (.seq (.seq (.region [⟨.bin .add (.tmp 4) (.const (.int .i64 1)), none, 0⟩, ⟨.bin .leq (.tmp 7) (.loc 0), none, 0⟩] [(15, (.loc 0))])
     (.cond (.tmp 15)
      (.skip)
      (.exit 0)))
    (.seq (.block 1 (.seq (.region [⟨.load (some 6) (.tmp 5), none, 0⟩, ⟨.call (.func 17) [(.loc 0), (.tmp 7)], none, 0⟩] [(8, (.loc 0))])
     (.seq (.region [⟨.load (some 6) (.tmp 5), none, 0⟩, ⟨.call (.func 18) [(.loc 0), (.tmp 7)], none, 0⟩] [(9, (.loc 0))])
     (.seq (.seq (.draw [⟨.load (some 6) (.tmp 2), none, 0⟩, ⟨.call (.func 15) [(.loc 0), (.tmp 7)], none, 0⟩, ⟨.call (.func 16) [(.tmp 8), (.loc 0)], none, 1⟩, ⟨.not (.loc 0), none, 2⟩, ⟨.load (some 6) (.tmp 2), (some ((.loc 0), false)), 2⟩, ⟨.mov (.tmp 7), (some ((.loc 1), false)), 2⟩, ⟨.call (.func 19) [(.loc 1), (.loc 0)], (some ((.loc 2), false)), 2⟩, ⟨.mov (.tmp 9), (some ((.loc 3), false)), 2⟩, ⟨.call (.func 16) [(.loc 0), (.loc 1)], (some ((.loc 4), false)), 3⟩, ⟨.not (.loc 0), (some ((.loc 5), false)), 4⟩, ⟨.pick (.loc 6) (.const (.bool true)) (.loc 0), none, 4⟩, ⟨.load (some 6) (.tmp 5), (some ((.loc 0), false)), 4⟩, ⟨.mov (.tmp 7), (some ((.loc 1), false)), 4⟩, ⟨.call (.func 21) [(.loc 1), (.loc 0)], (some ((.loc 2), false)), 4⟩, ⟨.load (some 6) (.tmp 2), (some ((.loc 3), false)), 4⟩, ⟨.mov (.tmp 7), (some ((.loc 4), false)), 4⟩, ⟨.call (.func 22) [(.loc 1), (.loc 0)], (some ((.loc 5), false)), 5⟩, ⟨.call (.func 20) [(.loc 3), (.loc 0)], (some ((.loc 6), false)), 6⟩, ⟨.not (.loc 0), (some ((.loc 7), false)), 7⟩, ⟨.pick (.loc 8) (.const (.bool true)) (.loc 0), none, 7⟩] [(16, (.loc 0))])
      (.cond (.tmp 16)
       (.seq (.region [] [(3, (.const (.bool false)))])
        (.ret))
       (.skip)))
     (.draw [⟨.load (some 6) (.tmp 5), none, 0⟩, ⟨.call (.func 17) [(.loc 0), (.tmp 7)], none, 0⟩, ⟨.load (some 6) (.tmp 5), none, 0⟩, ⟨.call (.func 18) [(.loc 0), (.tmp 7)], none, 1⟩, ⟨.mkarr 4 [(.slice none 0 0), (.slice none 0 0), (.slice none 0 0), (.slice none 0 0)] [(0, 1, (.tmp 8)), (1, 1, (.tmp 9)), (2, 1, (.loc 2)), (3, 1, (.loc 0))], none, 2⟩, ⟨.append false 1 24 (.tmp 6) (.loc 0), none, 2⟩] [(6, (.loc 0))])))))
    (.region [⟨.bin .add (.tmp 7) (.const (.int .i64 1)), none, 0⟩] [(7, (.loc 0))]))))))
  (.seq (.region [⟨.load (some 6) (.tmp 5), none, 0⟩, ⟨.call (.func 23) [(.loc 0)], none, 0⟩, ⟨.ext (.loc 0) 0, none, 0⟩, ⟨.ext (.loc 1) 1, none, 0⟩] [(10, (.loc 1)), (11, (.loc 0))])
  (.seq (.region [⟨.load (some 6) (.tmp 2), none, 0⟩, ⟨.call (.func 24) [(.loc 0)], none, 0⟩, ⟨.ext (.loc 0) 0, none, 0⟩, ⟨.ext (.loc 1) 1, none, 0⟩] [(12, (.loc 1)), (13, (.loc 0))])
  (.seq (.draw [⟨.bin .eql (.tmp 10) (.tmp 12), none, 0⟩, ⟨.mov (.tmp 11), (some ((.loc 0), true)), 0⟩, ⟨.mov (.tmp 13), (some ((.loc 1), true)), 0⟩, ⟨.beq false (.loc 1) (.loc 0), (some ((.loc 2), true)), 0⟩, ⟨.pick (.loc 3) (.loc 0) (.const (.bool false)), none, 0⟩, ⟨.load (some 6) (.tmp 5), (some ((.loc 0), true)), 0⟩, ⟨.mov (.tmp 1), (some ((.loc 1), true)), 0⟩, ⟨.call (.func 17) [(.loc 1), (.loc 0)], (some ((.loc 2), true)), 0⟩, ⟨.load (some 6) (.tmp 2), (some ((.loc 3), true)), 0⟩, ⟨.mov (.tmp 1), (some ((.loc 4), true)), 0⟩, ⟨.call (.func 15) [(.loc 1), (.loc 0)], (some ((.loc 5), true)), 1⟩, ⟨.call (.func 16) [(.loc 3), (.loc 0)], (some ((.loc 6), true)), 2⟩, ⟨.pick (.loc 7) (.loc 0) (.const (.bool false)), none, 3⟩, ⟨.load (some 6) (.tmp 5), (some ((.loc 0), true)), 3⟩, ⟨.mov (.tmp 1), (some ((.loc 1), true)), 3⟩, ⟨.call (.func 18) [(.loc 1), (.loc 0)], (some ((.loc 2), true)), 3⟩, ⟨.load (some 6) (.tmp 2), (some ((.loc 3), true)), 3⟩, ⟨.mov (.tmp 1), (some ((.loc 4), true)), 3⟩, ⟨.call (.func 19) [(.loc 1), (.loc 0)], (some ((.loc 5), true)), 4⟩, ⟨.call (.func 16) [(.loc 3), (.loc 0)], (some ((.loc 6), true)), 5⟩, ⟨.pick (.loc 7) (.loc 0) (.const (.bool false)), none, 6⟩, ⟨.load (some 6) (.tmp 5), (some ((.loc 0), true)), 6⟩, ⟨.load (some 6) (.tmp 2), (some ((.loc 1), true)), 6⟩, ⟨.call (.func 25) [(.loc 1), (.loc 0)], (some ((.loc 2), true)), 6⟩, ⟨.pick (.loc 3) (.loc 0) (.const (.bool false)), none, 7⟩, ⟨.mov (.tmp 6), (some ((.loc 0), true)), 7⟩, ⟨.call (.func 26) [(.loc 0)], (some ((.loc 1), true)), 7⟩, ⟨.pick (.loc 2) (.loc 0) (.const (.bool false)), none, 8⟩, ⟨.load (some 6) (.tmp 5), (some ((.loc 0), true)), 8⟩, ⟨.load (some 6) (.tmp 2), (some ((.loc 1), true)), 8⟩, ⟨.call (.func 25) [(.loc 1), (.loc 0)], (some ((.loc 2), true)), 8⟩, ⟨.pick (.loc 3) (.loc 0) (.const (.bool false)), none, 9⟩, ⟨.call (.func 12) [], (some ((.loc 0), true)), 9⟩, ⟨.pick (.loc 1) (.loc 0) (.const (.bool false)), none, 10⟩] [(3, (.loc 0))])
  (.ret)))))))))⟩
theorem c4_ok : compileFn Try.prog false 4 = some c4 := by kernel_rfl
/-- louver/louverlaw14.GraphWays -/
noncomputable def c6 : AFunc := ⟨[0, 1, 2, 4, 5, 6, 7, 8, 9, 10, 11, 12, 13, 14, 15, 16, 17, 18, 19, 28, 32, 40, 51, 59, 62, 69, 76, 86, 96, 110, 124, 132, 142], [.tmp 3],
  .seq (.region [⟨.box (.tmp 0), none, 0⟩] [(2, (.loc 0)), (3, (.const (.bool false)))])
  (.seq (.region [⟨.faddr 5 (.tmp 2), none, 0⟩, ⟨.load none (.loc 0), none, 0⟩, ⟨.len (.loc 0), none, 0⟩] [(4, (.loc 0))])
  (.seq (.seq (.region [⟨.bin .gtr (.tmp 4) (.const (.int .i64 60)), none, 0⟩, ⟨.call (.func 12) [], (some ((.loc 0), false)), 0⟩, ⟨.not (.loc 0), (some ((.loc 1), false)), 0⟩, ⟨.pick (.loc 2) (.const (.bool true)) (.loc 0), none, 0⟩] [(19, (.loc 0))])
   (.cond (.tmp 19)
    (.seq (.region [⟨.call (.func 12) [], none, 0⟩] [(3, (.loc 0))])
     (.ret))
    (.skip)))
  (.seq (.seq (.region [] [(5, (.const (.int .i64 0)))])
   (.block 0 (.loop (.seq (.seq (.region [⟨.bin .leq (.tmp 5) (.tmp 4), none, 0⟩] [(20, (.loc 0))])
     (.cond (.tmp 20)
      (.skip)
      (.exit 0)))
    (.seq (.block 1 (.seq (.region [⟨.load (some 6) (.tmp 2), none, 0⟩, ⟨.call (.func 17) [(.loc 0), (.tmp 5)], none, 0⟩] [(6, (.loc 0))])
     (.seq (.region [] [(7, (.const (.int .i64 0)))])
     (.block 2 (.loop (.seq (.seq (.region [⟨.bin .leq (.tmp 7) (.tmp 4), none, 0⟩] [(21, (.loc 0))])
       (.cond (.tmp 21)
        (.skip)
        (.exit 2)))
      (.seq (.block 3 (.seq (.draw [⟨.call (.func 29) [(.tmp 6), (.tmp 7)], none, 0⟩, ⟨.load (some 6) (.tmp 2), none, 0⟩, ⟨.call (.func 18) [(.loc 0), (.tmp 7)], none, 1⟩, ⟨.call (.func 29) [(.loc 0), (.tmp 5)], none, 2⟩, ⟨.beq true (.loc 3) (.loc 0), none, 3⟩] [(22, (.loc 0))])
       (.cond (.tmp 22)
        (.seq (.region [] [(3, (.const (.bool false)))])
         (.ret))
        (.skip))))
      (.region [⟨.bin .add (.tmp 7) (.const (.int .i64 1)), none, 0⟩] [(7, (.loc 0))]))))))))
    (.region [⟨.bin .add (.tmp 5) (.const (.int .i64 1)), none, 0⟩] [(5, (.loc 0))]))))))
  (.seq (.region [⟨.load (some 6) (.tmp 2), none, 0⟩, ⟨.call (.func 21) [(.loc 0), (.tmp 1)], none, 0⟩] [(8, (.loc 0))])
  (.seq (.seq (.region [⟨.len (.tmp 8), none, 0⟩, ⟨.bin .add (.tmp 4) (.const (.int .i64 1)), none, 0⟩, ⟨.bin .neq (.loc 1) (.loc 0), none, 0⟩] [(23, (.loc 0))])
   (.cond (.tmp 23)
    (.seq (.region [] [(3, (.const (.bool false)))])
     (.ret))
    (.skip)))
  (.seq (.seq (.region [] [(9, (.const (.int .i64 0)))])
   (.block 4 (.loop (.seq (.seq (.region [⟨.bin .leq (.tmp 9) (.tmp 4), none, 0⟩] [(24, (.loc 0))])
     (.cond (.tmp 24)
      (.skip)
      (.exit 4)))
    (.seq (.block 5 (.seq (.seq (.region [⟨.iaddr 1 (.tmp 8) (.tmp 9), none, 0⟩, ⟨.load none (.loc 0), none, 0⟩, ⟨.not (.loc 0), none, 0⟩] [(25, (.loc 0))])
      (.cond (.tmp 25)
       (.exit 5)
       (.skip)))
     (.seq (.region [⟨.load (some 6) (.tmp 2), none, 0⟩, ⟨.call (.func 17) [(.loc 0), (.tmp 9)], none, 0⟩] [(10, (.loc 0))])
     (.seq (.seq (.region [] [(11, (.const (.int .i64 0)))])
      (.block 6 (.loop (.seq (.seq (.region [⟨.len (.tmp 10), none, 0⟩, ⟨.bin .lss (.tmp 11) (.loc 0), none, 0⟩] [(26, (.loc 0))])
        (.cond (.tmp 26)
         (.skip)
         (.exit 6)))
       (.seq (.block 7 (.seq (.region [⟨.iaddr 1 (.tmp 10) (.tmp 11), none, 0⟩, ⟨.load none (.loc 0), none, 0⟩, ⟨.iaddr 1 (.tmp 8) (.loc 0), none, 0⟩, ⟨.load none (.loc 0), none, 0⟩, ⟨.not (.loc 0), none, 0⟩] [(27, (.loc 0))])
        (.cond (.tmp 27)
         (.seq (.region [] [(3, (.const (.bool false)))])
          (.ret))
         (.skip))))
       (.region [⟨.bin .add (.tmp 11) (.const (.int .i64 1)), none, 0⟩] [(11, (.loc 0))]))))))
     (.seq (.region [⟨.bin .eql (.tmp 9) (.tmp 1), none, 0⟩] [(12, (.loc 0))])
     (.seq (.region [⟨.load (some 6) (.tmp 2), none, 0⟩, ⟨.call (.func 18) [(.loc 0), (.tmp 9)], none, 0⟩] [(13, (.loc 0))])
     (.seq (.seq (.region [] [(14, (.const (.int .i64 0)))])
      (.block 8 (.loop (.seq (.seq (.region [⟨.len (.tmp 13), none, 0⟩, ⟨.bin .lss (.tmp 14) (.loc 0), none, 0⟩] [(28, (.loc 0))])
        (.cond (.tmp 28)
         (.skip)
         (.exit 8)))
       (.seq (.block 9 (.region [⟨.mov (.tmp 8), (some ((.tmp 12), false)), 0⟩, ⟨.mov (.tmp 13), (some ((.tmp 12), false)), 0⟩, ⟨.mov (.tmp 14), (some ((.tmp 12), false)), 0⟩, ⟨.iaddr 1 (.loc 1) (.loc 0), (some ((.tmp 12), false)), 0⟩, ⟨.load none (.loc 0), (some ((.tmp 12), false)), 0⟩, ⟨.iaddr 1 (.loc 4) (.loc 0), (some ((.tmp 12), false)), 0⟩, ⟨.load none (.loc 0), (some ((.tmp 12), false)), 0⟩, ⟨.pick (.tmp 12) (.const (.bool true)) (.loc 0), none, 0⟩] [(12, (.loc 0))]))
       (.region [⟨.bin .add (.tmp 14) (.const (.int .i64 1)), none, 0⟩] [(14, (.loc 0))]))))))
     (.seq (.region [⟨.not (.tmp 12), none, 0⟩] [(29, (.loc 0))])
     (.cond (.tmp 29)
      (.seq (.region [] [(3, (.const (.bool false)))])
       (.ret))
      (.skip))))))))))
    (.region [⟨.bin .add (.tmp 9) (.const (.int .i64 1)), none, 0⟩] [(9, (.loc 0))]))))))
  (.seq (.seq (.region [⟨.bin .geq (.tmp 1) (.const (.int .i64 0)), none, 0⟩, ⟨.mov (.tmp 1), (some ((.loc 0), true)), 0⟩, ⟨.mov (.tmp 4), (some ((.loc 1), true)), 0⟩, ⟨.bin .leq (.loc 1) (.loc 0), (some ((.loc 2), true)), 0⟩, ⟨.pick (.loc 3) (.loc 0) (.const (.bool false)), none, 0⟩, ⟨.mov (.tmp 8), (some ((.loc 0), true)), 0⟩, ⟨.mov (.tmp 1), (some ((.loc 1), true)), 0⟩, ⟨.iaddr 1 (.loc 1) (.loc 0), (some ((.loc 2), true)), 0⟩, ⟨.load none (.loc 0), (some ((.loc 3), true)), 0⟩, ⟨.not (.loc 0), (some ((.loc 4), true)), 0⟩, ⟨.pick (.loc 5) (.loc 0) (.const (.bool false)), none, 0⟩] [(30, (.loc 0))])
   (.cond (.tmp 30)
    (.seq (.region [] [(3, (.const (.bool false)))])
     (.ret))
    (.skip)))
  (.seq (.region [⟨.load (some 6) (.tmp 2), none, 0⟩, ⟨.call (.func 23) [(.loc 0)], none, 0⟩, ⟨.ext (.loc 0) 0, none, 0⟩, ⟨.ext (.loc 1) 1, none, 0⟩] [(15, (.loc 1)), (16, (.loc 0))])
  (.seq (.seq (.region [] [(17, (.const (.int .i64 0)))])
   (.block 10 (.loop (.seq (.seq (.region [⟨.bin .lss (.tmp 17) (.tmp 4), none, 0⟩] [(31, (.loc 0))])
     (.cond (.tmp 31)
      (.skip)
      (.exit 10)))
    (.seq (.block 11 (.seq (.region [⟨.load (some 6) (.tmp 2), none, 0⟩, ⟨.call (.func 21) [(.loc 0), (.tmp 17)], none, 0⟩] [(18, (.loc 0))])
     (.seq (.region [⟨.iaddr 1 (.tmp 18) (.tmp 4), none, 0⟩, ⟨.load none (.loc 0), none, 0⟩, ⟨.not (.loc 0), none, 0⟩] [(32, (.loc 0))])
     (.cond (.tmp 32)
      (.seq (.region [⟨.mov (.tmp 15), (some ((.tmp 16), true)), 0⟩, ⟨.mov (.tmp 17), (some ((.tmp 16), true)), 0⟩, ⟨.bin .eql (.loc 1) (.loc 0), (some ((.tmp 16), true)), 0⟩, ⟨.pick (.tmp 16) (.loc 0) (.const (.bool false)), none, 0⟩] [(3, (.loc 0))])
       (.ret))
      (.skip)))))
    (.region [⟨.bin .add (.tmp 17) (.const (.int .i64 1)), none, 0⟩] [(17, (.loc 0))]))))))
  (.seq (.region [⟨.not (.tmp 16), none, 0⟩, ⟨.mov (.tmp 15), (some ((.loc 0), true)), 0⟩, ⟨.bin .eql (.loc 0) (.const (.int .i64 0)), (some ((.loc 1), true)), 0⟩, ⟨.pick (.loc 2) (.loc 0) (.const (.bool false)), none, 0⟩] [(3, (.loc 0))])
  (.ret)))))))))))⟩
theorem c6_ok : compileFn Try.prog false 6 = some c6 := by kernel_rfl
/-- louver/louverkit.LentFunction -/
noncomputable def c13 : AFunc := ⟨[0, 1, 2], [.cell 2 (some 6)],
  .seq (.region [⟨.box (.tmp 0), none, 0⟩, ⟨.alloc [(.int .u64 0), (.slice none 0 0), (.slice none 0 0), (.int .i64 0), (.int .i64 0), (.slice none 0 0)], none, 0⟩] [(1, (.loc 1)), (2, (.loc 0))])
  (.seq (.region [⟨.faddr 1 (.tmp 1), none, 0⟩, ⟨.load none (.loc 0), none, 0⟩, ⟨.call (.func 47) [(.loc 0)], none, 0⟩, ⟨.faddr 1 (.tmp 1), none, 0⟩, ⟨.store 1 (.loc 0) (.loc 1), none, 0⟩] [])
  (.seq (.region [⟨.faddr 2 (.tmp 1), none, 0⟩, ⟨.load none (.loc 0), none, 0⟩, ⟨.call (.func 47) [(.loc 0)], none, 0⟩, ⟨.faddr 2 (.tmp 1), none, 0⟩, ⟨.store 1 (.loc 0) (.loc 1), none, 0⟩] [])
  (.seq (.region [⟨.faddr 5 (.tmp 1), none, 0⟩, ⟨.load none (.loc 0), none, 0⟩, ⟨.call (.func 48) [(.loc 0)], none, 0⟩, ⟨.faddr 5 (.tmp 1), none, 0⟩, ⟨.store 1 (.loc 0) (.loc 1), none, 0⟩] [])
  (.seq (.region [⟨.load (some 6) (.tmp 1), none, 0⟩, ⟨.store 6 (.tmp 2) (.loc 0), none, 0⟩] [])
  (.ret)))))⟩
theorem c13_ok : compileFn Try.prog false 13 = some c13 := by kernel_rfl
/-- louver/graph.Edges -/
noncomputable def c14 : AFunc := ⟨[0, 1, 2], [.tmp 2],
  .seq (.region [⟨.box (.tmp 0), none, 0⟩] [(1, (.loc 0)), (2, (.const .nilFunc))])
  (.seq (.region [⟨.faddr 5 (.tmp 1), none, 0⟩, ⟨.load none (.loc 0), none, 0⟩, ⟨.call (.func 50) [(.loc 0)], none, 0⟩, ⟨.call (.func 49) [(.loc 0)], none, 0⟩] [(2, (.loc 0))])
  (.ret))⟩
theorem c14_ok : compileFn Try.prog false 14 = some c14 := by kernel_rfl
/-- louver/louverref14.Next -/
noncomputable def c15 : AFunc := ⟨[0, 1, 2, 4, 5, 6, 7, 8, 18, 29, 30, 50, 63, 65, 71, 76, 88], [.tmp 3],
  .seq (.region [⟨.box (.tmp 0), none, 0⟩] [(2, (.loc 0)), (3, (.const (.slice none 0 0)))])
  (.seq (.region [] [(4, (.const (.slice none 0 0)))])
  (.seq (.region [⟨.faddr 5 (.tmp 2), none, 0⟩, ⟨.load none (.loc 0), none, 0⟩, ⟨.len (.loc 0), none, 0⟩] [(5, (.loc 0))])
  (.seq (.seq (.region [⟨.bin .lss (.tmp 1) (.const (.int .i64 0)), none, 0⟩, ⟨.mov (.tmp 1), (some ((.loc 0), false)), 0⟩, ⟨.mov (.tmp 5), (some ((.loc 1), false)), 0⟩, ⟨.bin .geq (.loc 1) (.loc 0), (some ((.loc 2), false)), 0⟩, ⟨.pick (.loc 3) (.const (.bool true)) (.loc 0), none, 0⟩] [(8, (.loc 0))])
   (.cond (.tmp 8)
    (.seq (.region [] [(3, (.tmp 4))])
     (.ret))
    (.skip)))
  (.seq (.region [⟨.bin .add (.tmp 1) (.const (.int .i64 1)), none, 0⟩] [(6, (.loc 0))])
  (.seq (.region [⟨.bin .add (.tmp 1) (.const (.int .i64 1)), none, 0⟩] [(7, (.loc 0))])
  (.seq (.seq (.region [⟨.faddr 5 (.tmp 2), none, 0⟩, ⟨.load none (.loc 0), none, 0⟩, ⟨.iaddr 2 (.loc 0) (.tmp 1), none, 0⟩, ⟨.faddr 0 (.loc 0), none, 0⟩, ⟨.load none (.loc 0), none, 0⟩] [(9, (.loc 0))])
   (.block 0 (.seq (.seq (.region [⟨.bin .eql (.tmp 9) (.const (.int .i64 43)), none, 0⟩] [(10, (.loc 0))])
    (.cond (.tmp 10)
     (.skip)
     (.region [⟨.bin .eql (.tmp 9) (.const (.int .i64 44)), none, 0⟩] [(10, (.loc 0))])))
   (.cond (.tmp 10)
    (.seq (.region [] [(7, (.tmp 5))])
     (.seq (.seq (.region [⟨.faddr 5 (.tmp 2), none, 0⟩, ⟨.load none (.loc 0), none, 0⟩, ⟨.iaddr 2 (.loc 0) (.tmp 1), none, 0⟩, ⟨.faddr 1 (.loc 0), none, 0⟩, ⟨.load none (.loc 0), none, 0⟩, ⟨.bin .geq (.loc 0) (.const (.int .i64 0)), none, 0⟩, ⟨.faddr 5 (.tmp 2), (some ((.loc 0), true)), 0⟩, ⟨.load none (.loc 0), (some ((.loc 1), true)), 0⟩, ⟨.mov (.tmp 1), (some ((.loc 2), true)), 0⟩, ⟨.iaddr 2 (.loc 1) (.loc 0), (some ((.loc 3), true)), 0⟩, ⟨.faddr 1 (.loc 0), (some ((.loc 4), true)), 0⟩, ⟨.load none (.loc 0), (some ((.loc 5), true)), 0⟩, ⟨.mov (.tmp 5), (some ((.loc 6), true)), 0⟩, ⟨.bin .lss (.loc 1) (.loc 0), (some ((.loc 7), true)), 0⟩, ⟨.pick (.loc 8) (.loc 0) (.const (.bool false)), none, 0⟩] [(11, (.loc 0))])
      (.cond (.tmp 11)
       (.region [⟨.faddr 5 (.tmp 2), none, 0⟩, ⟨.load none (.loc 0), none, 0⟩, ⟨.iaddr 2 (.loc 0) (.tmp 1), none, 0⟩, ⟨.faddr 1 (.loc 0), none, 0⟩, ⟨.load none (.loc 0), none, 0⟩] [(7, (.loc 0))])
       (.skip)))
     (.seq (.region [⟨.faddr 5 (.tmp 2), none, 0⟩, ⟨.load none (.loc 0), none, 0⟩, ⟨.iaddr 2 (.loc 0) (.tmp 1), none, 0⟩, ⟨.faddr 0 (.loc 0), none, 0⟩, ⟨.load none (.loc 0), none, 0⟩, ⟨.bin .eql (.loc 0) (.const (.int .i64 43)), none, 0⟩] [(12, (.loc 0))])
     (.cond (.tmp 12)
      (.region [] [(6, (.tmp 7))])
      (.skip)))))
    (.seq (.region [⟨.bin .eql (.tmp 9) (.const (.int .i64 46)), none, 0⟩] [(13, (.loc 0))])
     (.cond (.tmp 13)
      (.seq (.region [⟨.mkarr 1 [(.int .i64 0)] [(0, 1, (.tmp 5))], none, 0⟩] [(3, (.loc 0))])
       (.ret))
      (.skip)))))))
  (.seq (.seq (.region [⟨.bin .gtr (.tmp 6) (.tmp 7), none, 0⟩] [(14, (.loc 0))])
   (.cond (.tmp 14)
    (.region [] [(6, (.tmp 7)), (7, (.tmp 6))])
    (.skip)))
  (.seq (.seq (.region [⟨.bin .lss (.tmp 6) (.tmp 5), none, 0⟩] [(15, (.loc 0))])
   (.cond (.tmp 15)
    (.region [⟨.mkarr 1 [(.int .i64 0)] [(0, 1, (.tmp 6))], none, 0⟩, ⟨.append false 1 8 (.tmp 4) (.loc 0), none, 0⟩] [(4, (.loc 0))])
    (.skip)))
  (.seq (.seq (.region [⟨.bin .lss (.tmp 7) (.tmp 5), none, 0⟩, ⟨.mov (.tmp 7), (some ((.loc 0), true)), 0⟩, ⟨.mov (.tmp 6), (some ((.loc 1), true)), 0⟩, ⟨.bin .neq (.loc 1) (.loc 0), (some ((.loc 2), true)), 0⟩, ⟨.pick (.loc 3) (.loc 0) (.const (.bool false)), none, 0⟩] [(16, (.loc 0))])
   (.cond (.tmp 16)
    (.region [⟨.mkarr 1 [(.int .i64 0)] [(0, 1, (.tmp 7))], none, 0⟩, ⟨.append false 1 8 (.tmp 4) (.loc 0), none, 0⟩] [(4, (.loc 0))])
    (.skip)))
  (.seq (.region [] [(3, (.tmp 4))])
  (.ret)))))))))))⟩
theorem c15_ok : compileFn Try.prog false 15 = some c15 := by kernel_rfl
/-- louver/louverref14.Ahead -/
noncomputable def c19 : AFunc := ⟨[0, 1, 2, 4, 5, 6, 11, 17], [.tmp 3],
  .seq (.region [⟨.box (.tmp 0), none, 0⟩] [(2, (.loc 0)), (3, (.const (.slice none 0 0)))])
  (.seq (.region [] [(4, (.const (.slice none 0 0)))])
  (.seq (.seq (.region [] [(5, (.const (.int .i64 0)))])
   (.block 0 (.loop (.seq (.seq (.region [⟨.faddr 5 (.tmp 2), none, 0⟩, ⟨.load none (.loc 0), none, 0⟩, ⟨.len (.loc 0), none, 0⟩, ⟨.bin .leq (.tmp 5) (.loc 0), none, 0⟩] [(6, (.loc 0))])
     (.cond (.tmp 6)
      (.skip)
      (.exit 0)))
    (.seq (.block 1 (.seq (.region [⟨.load (some 6) (.tmp 2), none, 0⟩, ⟨.call (.func 54) [(.loc 0), (.tmp 5), (.tmp 1)], none, 0⟩] [(7, (.loc 0))])
     (.cond (.tmp 7)
      (.region [⟨.mkarr 1 [(.int .i64 0)] [(0, 1, (.tmp 5))], none, 0⟩, ⟨.append false 1 8 (.tmp 4) (.loc 0), none, 0⟩] [(4, (.loc 0))])
      (.skip))))
    (.region [⟨.bin .add (.tmp 5) (.const (.int .i64 1)), none, 0⟩] [(5, (.loc 0))]))))))
  (.seq (.region [] [(3, (.tmp 4))])
  (.ret))))⟩
theorem c19_ok : compileFn Try.prog false 19 = some c19 := by kernel_rfl
/-- louver/louverref14.Reach -/
noncomputable def c22 : AFunc := ⟨[0, 1, 2, 4], [.tmp 3],
  .seq (.region [⟨.box (.tmp 0), none, 0⟩] [(2, (.loc 0)), (3, (.const (.slice none 0 0)))])
  (.seq (.region [⟨.load (some 6) (.tmp 2), none, 0⟩, ⟨.call (.func 57) [(.loc 0), (.tmp 1), (.const (.int .i64 (-1)))], none, 0⟩] [(3, (.loc 0))])
  (.ret))⟩
theorem c22_ok : compileFn Try.prog false 22 = some c22 := by kernel_rfl
/-- louver/graph.Exit -/
noncomputable def c23 : AFunc := ⟨[0, 1, 2, 3, 4, 5, 6, 7, 8, 16, 17, 18, 39], [.tmp 2, .tmp 3],
  .seq (.region [⟨.box (.tmp 0), none, 0⟩] [(1, (.loc 0)), (2, (.const (.int .i64 0))), (3, (.const (.bool false)))])
  (.seq (.region [⟨.faddr 5 (.tmp 1), none, 0⟩, ⟨.load none (.loc 0), none, 0⟩, ⟨.len (.loc 0), none, 0⟩, ⟨.bin .add (.loc 0) (.const (.int .i64 1)), none, 0⟩, ⟨.mkslice [(.slice none 0 0)] 24 (.loc 0) (.loc 0), none, 0⟩, ⟨.alloc [(.slice none 0 0)], none, 0⟩, ⟨.store 1 (.loc 0) (.loc 1), none, 0⟩] [(4, (.loc 1))])
  (.seq (.seq (.region [⟨.faddr 5 (.tmp 1), none, 0⟩, ⟨.load none (.loc 0), none, 0⟩, ⟨.call (.func 49) [(.loc 0)], none, 0⟩] [(9, (.loc 0))])
   (.block 0 (.rangeFunc (.tmp 9) [(some 10), (some 11)]
    (.seq (.region [] [(5, (.tmp 10))])
     (.region [] [(6, (.tmp 11))]))
    (.block 1 (.draw [⟨.load none (.tmp 4), none, 0⟩, ⟨.iaddr 1 (.loc 0) (.tmp 6), none, 0⟩, ⟨.load none (.loc 0), none, 0⟩, ⟨.mkarr 1 [(.int .i64 0)] [(0, 1, (.tmp 5))], none, 0⟩, ⟨.append false 1 8 (.loc 1) (.loc 0), none, 0⟩, ⟨.load none (.tmp 4), none, 0⟩, ⟨.iaddr 1 (.loc 0) (.tmp 6), none, 1⟩, ⟨.store 1 (.loc 0) (.loc 2), none, 1⟩] [])))))
  (.seq (.region [⟨.load none (.tmp 4), none, 0⟩, ⟨.len (.loc 0), none, 0⟩, ⟨.faddr 5 (.tmp 1), none, 0⟩, ⟨.load none (.loc 0), none, 0⟩, ⟨.len (.loc 0), none, 0⟩, ⟨.mkfn 58 [] [(.tmp 4)], none, 0⟩, ⟨.call (.func 55) [(.loc 4), (.loc 1), (.loc 0)], none, 0⟩] [(7, (.loc 0))])
  (.seq (.seq (.region [⟨.call (.func 59) [(.tmp 7), (.const (.bool false))], none, 0⟩] [(8, (.loc 0))])
   (.seq (.region [⟨.bin .geq (.tmp 8) (.const (.int .i64 0)), none, 0⟩] [(12, (.loc 0))])
   (.cond (.tmp 12)
    (.seq (.region [] [(2, (.tmp 8)), (3, (.const (.bool true)))])
     (.ret))
    (.skip))))
  (.seq (.region [] [(2, (.const (.int .i64 0))), (3, (.const (.bool false)))])
  (.ret))))))⟩
theorem c23_ok : compileFn Try.prog false 23 = some c23 := by kernel_rfl
/-- louver/louverref14.Exit -/
noncomputable def c24 : AFunc := ⟨[0, 1, 2, 3, 4, 5, 10, 22], [.tmp 2, .tmp 3],
  .seq (.region [⟨.box (.tmp 0), none, 0⟩] [(1, (.loc 0)), (2, (.const (.int .i64 0))), (3, (.const (.bool false)))])
  (.seq (.seq (.region [] [(4, (.const (.int .i64 0)))])
   (.block 0 (.loop (.seq (.seq (.region [⟨.faddr 5 (.tmp 1), none, 0⟩, ⟨.load none (.loc 0), none, 0⟩, ⟨.len (.loc 0), none, 0⟩, ⟨.bin .lss (.tmp 4) (.loc 0), none, 0⟩] [(6, (.loc 0))])
     (.cond (.tmp 6)
      (.skip)
      (.exit 0)))
    (.seq (.block 1 (.seq (.region [⟨.load (some 6) (.tmp 1), none, 0⟩, ⟨.call (.func 22) [(.loc 0), (.tmp 4)], none, 0⟩] [(5, (.loc 0))])
     (.seq (.region [⟨.faddr 5 (.tmp 1), none, 0⟩, ⟨.load none (.loc 0), none, 0⟩, ⟨.len (.loc 0), none, 0⟩, ⟨.iaddr 1 (.tmp 5) (.loc 0), none, 0⟩, ⟨.load none (.loc 0), none, 0⟩, ⟨.not (.loc 0), none, 0⟩] [(7, (.loc 0))])
     (.cond (.tmp 7)
      (.seq (.region [] [(2, (.tmp 4)), (3, (.const (.bool true)))])
       (.ret))
      (.skip)))))
    (.region [⟨.bin .add (.tmp 4) (.const (.int .i64 1)), none, 0⟩] [(4, (.loc 0))]))))))
  (.seq (.region [] [(2, (.const (.int .i64 0))), (3, (.const (.bool false)))])
  (.ret)))⟩
theorem c24_ok : compileFn Try.prog false 24 = some c24 := by kernel_rfl
/-- louver/louverkit.KeptFunction -/
noncomputable def c25 : AFunc := ⟨[0, 1, 2, 3, 4], [.tmp 4],
  .seq (.region [⟨.box (.tmp 0), none, 0⟩, ⟨.box (.tmp 1), none, 0⟩] [(2, (.loc 1)), (3, (.loc 0)), (4, (.const (.bool false)))])
  (.seq (.region [⟨.faddr 0 (.tmp 2), none, 0⟩, ⟨.load none (.loc 0), none, 0⟩, ⟨.faddr 0 (.tmp 3), none, 0⟩, ⟨.load none (.loc 0), none, 0⟩, ⟨.bin .eql (.loc 2) (.loc 0), none, 0⟩, ⟨.faddr 3 (.tmp 2), (some ((.loc 0), true)), 0⟩, ⟨.load none (.loc 0), (some ((.loc 1), true)), 0⟩, ⟨.faddr 3 (.tmp 3), (some ((.loc 2), true)), 0⟩, ⟨.load none (.loc 0), (some ((.loc 3), true)), 0⟩, ⟨.bin .eql (.loc 2) (.loc 0), (some ((.loc 4), true)), 0⟩, ⟨.pick (.loc 5) (.loc 0) (.const (.bool false)), none, 0⟩, ⟨.faddr 4 (.tmp 2), (some ((.loc 0), true)), 0⟩, ⟨.load none (.loc 0), (some ((.loc 1), true)), 0⟩, ⟨.faddr 4 (.tmp 3), (some ((.loc 2), true)), 0⟩, ⟨.load none (.loc 0), (some ((.loc 3), true)), 0⟩, ⟨.bin .eql (.loc 2) (.loc 0), (some ((.loc 4), true)), 0⟩, ⟨.pick (.loc 5) (.loc 0) (.const (.bool false)), none, 0⟩, ⟨.faddr 1 (.tmp 2), (some ((.loc 0), true)), 0⟩, ⟨.load none (.loc 0), (some ((.loc 1), true)), 0⟩, ⟨.faddr 1 (.tmp 3), (some ((.loc 2), true)), 0⟩, ⟨.load none (.loc 0), (some ((.loc 3), true)), 0⟩, ⟨.call (.func 60) [(.loc 2), (.loc 0)], (some ((.loc 4), true)), 0⟩, ⟨.pick (.loc 5) (.loc 0) (.const (.bool false)), none, 0⟩, ⟨.faddr 2 (.tmp 2), (some ((.loc 0), true)), 0⟩, ⟨.load none (.loc 0), (some ((.loc 1), true)), 0⟩, ⟨.faddr 2 (.tmp 3), (some ((.loc 2), true)), 0⟩, ⟨.load none (.loc 0), (some ((.loc 3), true)), 0⟩, ⟨.call (.func 60) [(.loc 2), (.loc 0)], (some ((.loc 4), true)), 0⟩, ⟨.pick (.loc 5) (.loc 0) (.const (.bool false)), none, 0⟩, ⟨.faddr 5 (.tmp 2), (some ((.loc 0), true)), 0⟩, ⟨.load none (.loc 0), (some ((.loc 1), true)), 0⟩, ⟨.faddr 5 (.tmp 3), (some ((.loc 2), true)), 0⟩, ⟨.load none (.loc 0), (some ((.loc 3), true)), 0⟩, ⟨.call (.func 61) [(.loc 2), (.loc 0)], (some ((.loc 4), true)), 0⟩, ⟨.pick (.loc 5) (.loc 0) (.const (.bool false)), none, 0⟩] [(4, (.loc 0))])
  (.ret))⟩
theorem c25_ok : compileFn Try.prog false 25 = some c25 := by kernel_rfl
/-- louver/louverkit.ApartInts -/
noncomputable def c26 : AFunc := ⟨[0, 2, 3, 4, 5, 6, 7, 8, 9, 10, 11, 12, 16, 25, 41, 49, 67, 77, 105, 107, 124], [.tmp 1],
  .seq (.region [] [(1, (.const (.bool false)))])
  (.seq (.seq (.region [] [(2, (.const (.int .i64 0)))])
   (.block 0 (.loop (.seq (.seq (.region [⟨.len (.tmp 0), none, 0⟩, ⟨.bin .lss (.tmp 2) (.loc 0), none, 0⟩] [(12, (.loc 0))])
     (.cond (.tmp 12)
      (.skip)
      (.exit 0)))
    (.seq (.block 1 (.seq (.region [] [(3, (.const (.int .i64 0)))])
     (.block 2 (.loop (.seq (.seq (.region [⟨.iaddr 1 (.tmp 0) (.tmp 2), none, 0⟩, ⟨.load none (.loc 0), none, 0⟩, ⟨.len (.loc 0), none, 0⟩, ⟨.bin .lss (.tmp 3) (.loc 0), none, 0⟩] [(13, (.loc 0))])
       (.cond (.tmp 13)
        (.skip)
        (.exit 2)))
      (.seq (.block 3 (.region [⟨.iaddr 1 (.tmp 0) (.tmp 2), none, 0⟩, ⟨.load none (.loc 0), none, 0⟩, ⟨.bin .mul (.const (.int .i64 1000)) (.tmp 2), none, 0⟩, ⟨.bin .add (.loc 0) (.tmp 3), none, 0⟩, ⟨.iaddr 1 (.loc 2) (.tmp 3), none, 0⟩, ⟨.store 1 (.loc 0) (.loc 1), none, 0⟩] []))
      (.region [⟨.bin .add (.tmp 3) (.const (.int .i64 1)), none, 0⟩] [(3, (.loc 0))])))))))
    (.region [⟨.bin .add (.tmp 2) (.const (.int .i64 1)), none, 0⟩] [(2, (.loc 0))]))))))
  (.seq (.region [] [(4, (.const (.slice none 0 0)))])
  (.seq (.seq (.region [] [(5, (.const (.int .i64 0)))])
   (.block 4 (.loop (.seq (.seq (.region [⟨.len (.tmp 0), none, 0⟩, ⟨.bin .lss (.tmp 5) (.loc 0), none, 0⟩] [(14, (.loc 0))])
     (.cond (.tmp 14)
      (.skip)
      (.exit 4)))
    (.seq (.block 5 (.seq (.region [⟨.iaddr 1 (.tmp 0) (.tmp 5), none, 0⟩, ⟨.load none (.loc 0), none, 0⟩] [(6, (.loc 0))])
     (.seq (.seq (.region [] [(7, (.const (.int .i64 0)))])
      (.block 6 (.loop (.seq (.seq (.region [⟨.bin .lss (.tmp 7) (.const (.int .i64 30)), none, 0⟩] [(15, (.loc 0))])
        (.cond (.tmp 15)
         (.skip)
         (.exit 6)))
       (.seq (.block 7 (.region [⟨.bin .mul (.const (.int .i64 1000)) (.tmp 5), none, 0⟩, ⟨.bin .add (.const (.int .i64 500000)) (.loc 0), none, 0⟩, ⟨.bin .add (.loc 0) (.tmp 7), none, 0⟩, ⟨.mkarr 1 [(.int .i64 0)] [(0, 1, (.loc 0))], none, 0⟩, ⟨.append false 1 8 (.tmp 6) (.loc 0), none, 0⟩] [(6, (.loc 0))]))
       (.region [⟨.bin .add (.tmp 7) (.const (.int .i64 1)), none, 0⟩] [(7, (.loc 0))]))))))
     (.region [⟨.mkarr 1 [(.slice none 0 0)] [(0, 1, (.tmp 6))], none, 0⟩, ⟨.append false 1 24 (.tmp 4) (.loc 0), none, 0⟩] [(4, (.loc 0))]))))
    (.region [⟨.bin .add (.tmp 5) (.const (.int .i64 1)), none, 0⟩] [(5, (.loc 0))]))))))
  (.seq (.seq (.region [] [(8, (.const (.int .i64 0)))])
   (.block 8 (.loop (.seq (.seq (.region [⟨.len (.tmp 0), none, 0⟩, ⟨.bin .lss (.tmp 8) (.loc 0), none, 0⟩] [(16, (.loc 0))])
     (.cond (.tmp 16)
      (.skip)
      (.exit 8)))
    (.seq (.block 9 (.seq (.region [⟨.iaddr 1 (.tmp 0) (.tmp 8), none, 0⟩, ⟨.load none (.loc 0), none, 0⟩, ⟨.len (.loc 0), none, 0⟩] [(9, (.loc 0))])
     (.seq (.seq (.region [] [(10, (.const (.int .i64 0)))])
      (.block 10 (.loop (.seq (.seq (.region [⟨.bin .lss (.tmp 10) (.tmp 9), none, 0⟩] [(17, (.loc 0))])
        (.cond (.tmp 17)
         (.skip)
         (.exit 10)))
       (.seq (.block 11 (.seq (.region [⟨.iaddr 1 (.tmp 0) (.tmp 8), none, 0⟩, ⟨.load none (.loc 0), none, 0⟩, ⟨.iaddr 1 (.loc 0) (.tmp 10), none, 0⟩, ⟨.load none (.loc 0), none, 0⟩, ⟨.bin .mul (.const (.int .i64 1000)) (.tmp 8), none, 0⟩, ⟨.bin .add (.loc 0) (.tmp 10), none, 0⟩, ⟨.bin .neq (.loc 2) (.loc 0), none, 0⟩, ⟨.mov (.tmp 4), (some ((.loc 0), false)), 0⟩, ⟨.mov (.tmp 8), (some ((.loc 1), false)), 0⟩, ⟨.iaddr 1 (.loc 1) (.loc 0), (some ((.loc 2), false)), 0⟩, ⟨.load none (.loc 0), (some ((.loc 3), false)), 0⟩, ⟨.mov (.tmp 10), (some ((.loc 4), false)), 0⟩, ⟨.iaddr 1 (.loc 1) (.loc 0), (some ((.loc 5), false)), 0⟩, ⟨.load none (.loc 0), (some ((.loc 6), false)), 0⟩, ⟨.mov (.tmp 8), (some ((.loc 7), false)), 0⟩, ⟨.bin .mul (.const (.int .i64 1000)) (.loc 0), (some ((.loc 8), false)), 0⟩, ⟨.mov (.tmp 10), (some ((.loc 9), false)), 0⟩, ⟨.bin .add (.loc 1) (.loc 0), (some ((.loc 10), false)), 0⟩, ⟨.bin .neq (.loc 4) (.loc 0), (some ((.loc 11), false)), 0⟩, ⟨.pick (.loc 12) (.const (.bool true)) (.loc 0), none, 0⟩] [(18, (.loc 0))])
        (.cond (.tmp 18)
         (.seq (.region [] [(1, (.const (.bool false)))])
          (.ret))
         (.skip))))
       (.region [⟨.bin .add (.tmp 10) (.const (.int .i64 1)), none, 0⟩] [(10, (.loc 0))]))))))
     (.seq (.region [] [(11, (.const (.int .i64 0)))])
     (.block 12 (.loop (.seq (.seq (.region [⟨.bin .lss (.tmp 11) (.const (.int .i64 30)), none, 0⟩] [(19, (.loc 0))])
       (.cond (.tmp 19)
        (.skip)
        (.exit 12)))
      (.seq (.block 13 (.seq (.region [⟨.iaddr 1 (.tmp 4) (.tmp 8), none, 0⟩, ⟨.load none (.loc 0), none, 0⟩, ⟨.bin .add (.tmp 9) (.tmp 11), none, 0⟩, ⟨.iaddr 1 (.loc 1) (.loc 0), none, 0⟩, ⟨.load none (.loc 0), none, 0⟩, ⟨.bin .mul (.const (.int .i64 1000)) (.tmp 8), none, 0⟩, ⟨.bin .add (.const (.int .i64 500000)) (.loc 0), none, 0⟩, ⟨.bin .add (.loc 0) (.tmp 11), none, 0⟩, ⟨.bin .neq (.loc 3) (.loc 0), none, 0⟩] [(20, (.loc 0))])
       (.cond (.tmp 20)
        (.seq (.region [] [(1, (.const (.bool false)))])
         (.ret))
        (.skip))))
      (.region [⟨.bin .add (.tmp 11) (.const (.int .i64 1)), none, 0⟩] [(11, (.loc 0))])))))))))
    (.region [⟨.bin .add (.tmp 8) (.const (.int .i64 1)), none, 0⟩] [(8, (.loc 0))]))))))
  (.seq (.region [] [(1, (.const (.bool true)))])
  (.ret))))))⟩
theorem c26_ok : compileFn Try.prog false 26 = some c26 := by kernel_rfl
/-- louver/louverlaw14.has -/
noncomputable def c29 : AFunc := ⟨[0, 1, 4, 5, 9, 17], [.tmp 2],
  .seq (.region [] [(2, (.const (.bool false)))])
  (.seq (.seq (.region [] [(3, (.const (.int .i64 0)))])
   (.block 0 (.loop (.seq (.seq (.region [⟨.len (.tmp 0), none, 0⟩, ⟨.bin .lss (.tmp 3) (.loc 0), none, 0⟩] [(4, (.loc 0))])
     (.cond (.tmp 4)
      (.skip)
      (.exit 0)))
    (.seq (.block 1 (.seq (.region [⟨.iaddr 1 (.tmp 0) (.tmp 3), none, 0⟩, ⟨.load none (.loc 0), none, 0⟩, ⟨.bin .eql (.loc 0) (.tmp 1), none, 0⟩] [(5, (.loc 0))])
     (.cond (.tmp 5)
      (.seq (.region [] [(2, (.const (.bool true)))])
       (.ret))
      (.skip))))
    (.region [⟨.bin .add (.tmp 3) (.const (.int .i64 1)), none, 0⟩] [(3, (.loc 0))]))))))
  (.seq (.region [] [(2, (.const (.bool false)))])
  (.ret)))⟩
theorem c29_ok : compileFn Try.prog false 29 = some c29 := by kernel_rfl
/-- louver/louverkit.LentLabels -/
noncomputable def c47 : AFunc := ⟨[0, 2, 3], [.tmp 1],
  .seq (.region [] [(1, (.const (.slice none 0 0)))])
  (.seq (.region [] [(2, (.const (.slice none 0 0)))])
  (.seq (.region [⟨.append false 1 8 (.tmp 2) (.tmp 0), none, 0⟩] [(2, (.loc 0))])
  (.seq (.region [⟨.mkarr 1 [(.int .u64 0)] [(0, 1, (.const (.int .u64 7171)))], none, 0⟩, ⟨.append false 1 8 (.tmp 2) (.loc 0), none, 0⟩] [(2, (.loc 0))])
  (.seq (.region [⟨.len (.tmp 0), none, 0⟩, ⟨.slice 1 (.tmp 2) none (some (.loc 0)) none, none, 0⟩] [(1, (.loc 0))])
  (.ret)))))⟩
theorem c47_ok : compileFn Try.prog false 47 = some c47 := by kernel_rfl
/-- louver/louverkit.LentCode -/
noncomputable def c48 : AFunc := ⟨[0, 2, 3], [.tmp 1],
  .seq (.region [] [(1, (.const (.slice none 0 0)))])
  (.seq (.region [] [(2, (.const (.slice none 0 0)))])
  (.seq (.region [⟨.append false 2 16 (.tmp 2) (.tmp 0), none, 0⟩] [(2, (.loc 0))])
  (.seq (.region [⟨.build [(.int .i64 0), (.int .i64 0)] [(0, 1, (.const (.int .i64 (-71))))], none, 0⟩, ⟨.mkarr 1 [(.int .i64 0), (.int .i64 0)] [(0, 2, (.loc 0))], none, 0⟩, ⟨.append false 2 16 (.tmp 2) (.loc 0), none, 0⟩] [(2, (.loc 0))])
  (.seq (.region [⟨.len (.tmp 0), none, 0⟩, ⟨.slice 2 (.tmp 2) none (some (.loc 0)) none, none, 0⟩] [(1, (.loc 0))])
  (.ret)))))⟩
theorem c48_ok : compileFn Try.prog false 48 = some c48 := by kernel_rfl
/-- slices.Clone[[]louver/api.Instr,louver/api.Instr] -/
noncomputable def c50 : AFunc := ⟨[0, 2, 4], [.tmp 1],
  .seq (.region [] [(1, (.const (.slice none 0 0)))])
  (.seq (.seq (.region [⟨.eqn 0 false (.tmp 0) (.const (.slice none 0 0)), none, 0⟩] [(2, (.loc 0))])
   (.cond (.tmp 2)
    (.seq (.region [] [(1, (.const (.slice none 0 0)))])
     (.ret))
    (.skip)))
  (.seq (.region [⟨.mkarr 0 [] [], none, 0⟩, ⟨.append false 2 16 (.loc 0) (.tmp 0), none, 0⟩] [(1, (.loc 0))])
  (.ret)))⟩
theorem c50_ok : compileFn Try.prog false 50 = some c50 := by kernel_rfl
/-- louver/louverref14.Edge -/
noncomputable def c54 : AFunc := ⟨[0, 1, 2, 3, 6, 7, 8, 27, 34, 35, 46, 63], [.tmp 4],
  .seq (.region [⟨.box (.tmp 0), none, 0⟩] [(3, (.loc 0)), (4, (.const (.bool false)))])
  (.seq (.region [⟨.faddr 5 (.tmp 3), none, 0⟩, ⟨.load none (.loc 0), none, 0⟩, ⟨.len (.loc 0), none, 0⟩] [(5, (.loc 0))])
  (.seq (.seq (.region [⟨.bin .lss (.tmp 1) (.const (.int .i64 0)), none, 0⟩, ⟨.mov (.tmp 1), (some ((.loc 0), false)), 0⟩, ⟨.mov (.tmp 5), (some ((.loc 1), false)), 0⟩, ⟨.bin .geq (.loc 1) (.loc 0), (some ((.loc 2), false)), 0⟩, ⟨.pick (.loc 3) (.const (.bool true)) (.loc 0), none, 0⟩, ⟨.mov (.tmp 2), (some ((.loc 0), false)), 0⟩, ⟨.bin .lss (.loc 0) (.const (.int .i64 0)), (some ((.loc 1), false)), 0⟩, ⟨.pick (.loc 2) (.const (.bool true)) (.loc 0), none, 0⟩, ⟨.mov (.tmp 2), (some ((.loc 0), false)), 0⟩, ⟨.mov (.tmp 5), (some ((.loc 1), false)), 0⟩, ⟨.bin .gtr (.loc 1) (.loc 0), (some ((.loc 2), false)), 0⟩, ⟨.pick (.loc 3) (.const (.bool true)) (.loc 0), none, 0⟩] [(7, (.loc 0))])
   (.cond (.tmp 7)
    (.seq (.region [] [(4, (.const (.bool false)))])
     (.ret))
    (.skip)))
  (.seq (.region [⟨.faddr 5 (.tmp 3), none, 0⟩, ⟨.load none (.loc 0), none, 0⟩, ⟨.iaddr 2 (.loc 0) (.tmp 1), none, 0⟩, ⟨.load (some 2) (.loc 0), none, 0⟩, ⟨.alloc [(.int .i64 0), (.int .i64 0)], none, 0⟩, ⟨.store 2 (.loc 0) (.loc 1), none, 0⟩] [(6, (.loc 1))])
  (.seq (.seq (.region [⟨.faddr 0 (.tmp 6), none, 0⟩, ⟨.load none (.loc 0), none, 0⟩] [(8, (.loc 0))])
   (.block 0 (.seq (.region [⟨.bin .eql (.tmp 8) (.const (.int .i64 43)), none, 0⟩] [(9, (.loc 0))])
   (.cond (.tmp 9)
    (.seq (.region [⟨.bin .lss (.tmp 2) (.tmp 5), none, 0⟩, ⟨.faddr 1 (.tmp 6), (some ((.loc 0), true)), 0⟩, ⟨.load none (.loc 0), (some ((.loc 1), true)), 0⟩, ⟨.mov (.tmp 2), (some ((.loc 2), true)), 0⟩, ⟨.bin .eql (.loc 1) (.loc 0), (some ((.loc 3), true)), 0⟩, ⟨.pick (.loc 4) (.loc 0) (.const (.bool false)), none, 0⟩] [(4, (.loc 0))])
     (.ret))
    (.seq (.region [⟨.bin .eql (.tmp 8) (.const (.int .i64 44)), none, 0⟩] [(10, (.loc 0))])
     (.cond (.tmp 10)
      (.seq (.region [⟨.bin .lss (.tmp 2) (.tmp 5), none, 0⟩, ⟨.mov (.tmp 2), (some ((.loc 0), true)), 0⟩, ⟨.mov (.tmp 1), (some ((.loc 1), true)), 0⟩, ⟨.bin .add (.loc 0) (.const (.int .i64 1)), (some ((.loc 2), true)), 0⟩, ⟨.bin .eql (.loc 2) (.loc 0), (some ((.loc 3), true)), 0⟩, ⟨.mov (.loc 0), (some ((.loc 4), true)), 0⟩, ⟨.faddr 1 (.tmp 6), (some ((.loc 0), false)), 0⟩, ⟨.load none (.loc 0), (some ((.loc 1), false)), 0⟩, ⟨.mov (.tmp 2), (some ((.loc 2), false)), 0⟩, ⟨.bin .eql (.loc 1) (.loc 0), (some ((.loc 3), false)), 0⟩, ⟨.pick (.loc 4) (.const (.bool true)) (.loc 0), (some ((.loc 9), true)), 0⟩, ⟨.pick (.loc 10) (.loc 0) (.const (.bool false)), none, 0⟩] [(4, (.loc 0))])
       (.ret))
      (.seq (.region [⟨.bin .eql (.tmp 8) (.const (.int .i64 46)), none, 0⟩] [(11, (.loc 0))])
       (.cond (.tmp 11)
        (.seq (.region [⟨.bin .eql (.tmp 2) (.tmp 5), none, 0⟩] [(4, (.loc 0))])
         (.ret))
        (.skip)))))))))
  (.seq (.region [⟨.bin .lss (.tmp 2) (.tmp 5), none, 0⟩, ⟨.mov (.tmp 2), (some ((.loc 0), true)), 0⟩, ⟨.mov (.tmp 1), (some ((.loc 1), true)), 0⟩, ⟨.bin .add (.loc 0) (.const (.int .i64 1)), (some ((.loc 2), true)), 0⟩, ⟨.bin .eql (.loc 2) (.loc 0), (some ((.loc 3), true)), 0⟩, ⟨.pick (.loc 4) (.loc 0) (.const (.bool false)), none, 0⟩] [(4, (.loc 0))])
  (.ret))))))⟩
theorem c54_ok : compileFn Try.prog false 54 = some c54 := by kernel_rfl
/-- louver/louverref14.Without -/
noncomputable def c57 : AFunc := ⟨[0, 1, 2, 3, 6, 7, 8, 9, 10, 11, 12, 30, 40, 52, 70], [.tmp 4],
  .seq (.region [⟨.box (.tmp 0), none, 0⟩] [(3, (.loc 0)), (4, (.const (.slice none 0 0)))])
  (.seq (.region [⟨.faddr 5 (.tmp 3), none, 0⟩, ⟨.load none (.loc 0), none, 0⟩, ⟨.len (.loc 0), none, 0⟩, ⟨.bin .add (.loc 0) (.const (.int .i64 1)), none, 0⟩] [(5, (.loc 0))])
  (.seq (.region [⟨.mkslice [(.bool false)] 1 (.tmp 5) (.tmp 5), none, 0⟩] [(6, (.loc 0))])
  (.seq (.seq (.region [⟨.bin .lss (.tmp 1) (.const (.int .i64 0)), none, 0⟩, ⟨.mov (.tmp 1), (some ((.loc 0), false)), 0⟩, ⟨.mov (.tmp 5), (some ((.loc 1), false)), 0⟩, ⟨.bin .geq (.loc 1) (.loc 0), (some ((.loc 2), false)), 0⟩, ⟨.pick (.loc 3) (.const (.bool true)) (.loc 0), none, 0⟩, ⟨.mov (.tmp 1), (some ((.loc 0), false)), 0⟩, ⟨.mov (.tmp 2), (some ((.loc 1), false)), 0⟩, ⟨.bin .eql (.loc 1) (.loc 0), (some ((.loc 2), false)), 0⟩, ⟨.pick (.loc 3) (.const (.bool true)) (.loc 0), none, 0⟩] [(11, (.loc 0))])
   (.cond (.tmp 11)
    (.seq (.region [] [(4, (.tmp 6))])
     (.ret))
    (.skip)))
  (.seq (.region [⟨.iaddr 1 (.tmp 6) (.tmp 1), none, 0⟩, ⟨.store 1 (.loc 0) (.const (.bool true)), none, 0⟩] [])
  (.seq (.region [⟨.mkarr 1 [(.int .i64 0)] [(0, 1, (.tmp 1))], none, 0⟩] [(7, (.loc 0))])
  (.seq (.seq (.region [] [(8, (.const (.int .i64 0)))])
   (.block 0 (.loop (.seq (.seq (.region [⟨.len (.tmp 7), none, 0⟩, ⟨.bin .lss (.tmp 8) (.loc 0), none, 0⟩] [(12, (.loc 0))])
     (.cond (.tmp 12)
      (.skip)
      (.exit 0)))
    (.seq (.block 1 (.seq (.draw [⟨.load (some 6) (.tmp 3), none, 0⟩, ⟨.iaddr 1 (.tmp 7) (.tmp 8), none, 0⟩, ⟨.load none (.loc 0), none, 0⟩, ⟨.call (.func 15) [(.loc 2), (.loc 0)], none, 0⟩] [(9, (.loc 0))])
     (.seq (.region [] [(10, (.const (.int .i64 0)))])
     (.block 2 (.loop (.seq (.seq (.region [⟨.len (.tmp 9), none, 0⟩, ⟨.bin .lss (.tmp 10) (.loc 0), none, 0⟩] [(13, (.loc 0))])
       (.cond (.tmp 13)
        (.skip)
        (.exit 2)))
      (.seq (.block 3 (.seq (.region [⟨.iaddr 1 (.tmp 9) (.tmp 10), none, 0⟩, ⟨.load none (.loc 0), none, 0⟩, ⟨.iaddr 1 (.tmp 6) (.loc 0), none, 0⟩, ⟨.load none (.loc 0), none, 0⟩, ⟨.not (.loc 0), none, 0⟩, ⟨.mov (.tmp 9), (some ((.loc 0), true)), 0⟩, ⟨.mov (.tmp 10), (some ((.loc 1), true)), 0⟩, ⟨.iaddr 1 (.loc 1) (.loc 0), (some ((.loc 2), true)), 0⟩, ⟨.load none (.loc 0), (some ((.loc 3), true)), 0⟩, ⟨.mov (.tmp 2), (some ((.loc 4), true)), 0⟩, ⟨.bin .neq (.loc 1) (.loc 0), (some ((.loc 5), true)), 0⟩, ⟨.pick (.loc 6) (.loc 0) (.const (.bool false)), none, 0⟩] [(14, (.loc 0))])
       (.cond (.tmp 14)
        (.seq (.region [⟨.iaddr 1 (.tmp 9) (.tmp 10), none, 0⟩, ⟨.load none (.loc 0), none, 0⟩, ⟨.iaddr 1 (.tmp 6) (.loc 0), none, 0⟩, ⟨.store 1 (.loc 0) (.const (.bool true)), none, 0⟩] [])
         (.region [⟨.iaddr 1 (.tmp 9) (.tmp 10), none, 0⟩, ⟨.load none (.loc 0), none, 0⟩, ⟨.mkarr 1 [(.int .i64 0)] [(0, 1, (.loc 0))], none, 0⟩, ⟨.append false 1 8 (.tmp 7) (.loc 0), none, 0⟩] [(7, (.loc 0))]))
        (.skip))))
      (.region [⟨.bin .add (.tmp 10) (.const (.int .i64 1)), none, 0⟩] [(10, (.loc 0))]))))))))
    (.region [⟨.bin .add (.tmp 8) (.const (.int .i64 1)), none, 0⟩] [(8, (.loc 0))]))))))
  (.seq (.region [] [(4, (.tmp 6))])
  (.ret))))))))⟩
theorem c57_ok : compileFn Try.prog false 57 = some c57 := by kernel_rfl
/-- louver/graph.Exit$1 -/
noncomputable def c58 : AFunc := ⟨[0, 1, 3], [.tmp 2],
  .seq (.region [] [(2, (.const (.slice none 0 0)))])
  (.seq (.region [⟨.load none (.tmp 1), none, 0⟩, ⟨.iaddr 1 (.loc 0) (.tmp 0), none, 0⟩, ⟨.load none (.loc 0), none, 0⟩] [(2, (.loc 0))])
  (.ret))⟩
theorem c58_ok : compileFn Try.prog false 58 = some c58 := by kernel_rfl
/-- slices.Index[[]bool,bool] -/
noncomputable def c59 : AFunc := ⟨[0, 1, 4, 5, 7, 8, 9, 16], [.tmp 2],
  .seq (.region [] [(2, (.const (.int .i64 0)))])
  (.seq (.seq (.region [⟨.len (.tmp 0), none, 0⟩] [(4, (.loc 0)), (5, (.const (.int .i64 0)))])
   (.block 0 (.loop (.seq (.region [⟨.bin .lss (.tmp 5) (.tmp 4), none, 0⟩] [(6, (.loc 0))])
    (.seq (.cond (.tmp 6)
      (.skip)
      (.exit 0))
    (.seq (.block 1 (.seq (.region [] [(3, (.tmp 5))])
     (.seq (.region [⟨.iaddr 1 (.tmp 0) (.tmp 3), none, 0⟩, ⟨.load none (.loc 0), none, 0⟩, ⟨.beq false (.tmp 1) (.loc 0), none, 0⟩] [(7, (.loc 0))])
     (.cond (.tmp 7)
      (.seq (.region [] [(2, (.tmp 3))])
       (.ret))
      (.skip)))))
    (.region [⟨.bin .add (.tmp 5) (.const (.int .i64 1)), none, 0⟩] [(5, (.loc 0))])))))))
  (.seq (.region [] [(2, (.const (.int .i64 (-1))))])
  (.ret)))⟩
theorem c59_ok : compileFn Try.prog false 59 = some c59 := by kernel_rfl
/-- louver/louverkit.KeptLabels -/
noncomputable def c60 : AFunc := ⟨[0, 1, 4, 5, 9], [.tmp 2],
  .seq (.region [] [(2, (.const (.bool false)))])
  (.seq (.seq (.region [⟨.call (.func 76) [(.tmp 0), (.tmp 1)], none, 0⟩, ⟨.not (.loc 0), none, 0⟩] [(4, (.loc 0))])
   (.cond (.tmp 4)
    (.seq (.region [] [(2, (.const (.bool false)))])
     (.ret))
    (.skip)))
  (.seq (.region [⟨.len (.tmp 0), none, 0⟩, ⟨.bin .add (.loc 0) (.const (.int .i64 1)), none, 0⟩, ⟨.slice 1 (.tmp 0) none (some (.loc 0)) none, none, 0⟩] [(3, (.loc 0))])
  (.seq (.region [⟨.len (.tmp 0), none, 0⟩, ⟨.iaddr 1 (.tmp 3) (.loc 0), none, 0⟩, ⟨.load none (.loc 0), none, 0⟩, ⟨.bin .eql (.loc 0) (.const (.int .u64 7171)), none, 0⟩] [(2, (.loc 0))])
  (.ret))))⟩
theorem c60_ok : compileFn Try.prog false 60 = some c60 := by kernel_rfl
/-- louver/louverkit.KeptCode -/
noncomputable def c61 : AFunc := ⟨[0, 1, 4, 5, 9], [.tmp 2],
  .seq (.region [] [(2, (.const (.bool false)))])
  (.seq (.seq (.region [⟨.call (.func 77) [(.tmp 0), (.tmp 1)], none, 0⟩, ⟨.not (.loc 0), none, 0⟩] [(4, (.loc 0))])
   (.cond (.tmp 4)
    (.seq (.region [] [(2, (.const (.bool false)))])
     (.ret))
    (.skip)))
  (.seq (.region [⟨.len (.tmp 0), none, 0⟩, ⟨.bin .add (.loc 0) (.const (.int .i64 1)), none, 0⟩, ⟨.slice 2 (.tmp 0) none (some (.loc 0)) none, none, 0⟩] [(3, (.loc 0))])
  (.seq (.region [⟨.len (.tmp 0), none, 0⟩, ⟨.iaddr 2 (.tmp 3) (.loc 0), none, 0⟩, ⟨.load (some 2) (.loc 0), none, 0⟩, ⟨.build [(.int .i64 0), (.int .i64 0)] [(0, 1, (.const (.int .i64 (-71))))], none, 0⟩, ⟨.flat (.bin .eql 34 (.tmp 19) (.tmp 20)) [(.loc 1), (.loc 0)], none, 0⟩] [(2, (.loc 0))])
  (.ret))))⟩
theorem c61_ok : compileFn Try.prog false 61 = some c61 := by kernel_rfl
/-- louver/louverkit.Labels -/
noncomputable def c76 : AFunc := ⟨[0, 1, 4, 5, 10, 14, 25], [.tmp 2],
  .seq (.region [] [(2, (.const (.bool false)))])
  (.seq (.seq (.region [⟨.len (.tmp 0), none, 0⟩, ⟨.len (.tmp 1), none, 0⟩, ⟨.bin .neq (.loc 1) (.loc 0), none, 0⟩] [(4, (.loc 0))])
   (.cond (.tmp 4)
    (.seq (.region [] [(2, (.const (.bool false)))])
     (.ret))
    (.skip)))
  (.seq (.seq (.region [] [(3, (.const (.int .i64 0)))])
   (.block 0 (.loop (.seq (.seq (.region [⟨.len (.tmp 0), none, 0⟩, ⟨.bin .lss (.tmp 3) (.loc 0), none, 0⟩] [(5, (.loc 0))])
     (.cond (.tmp 5)
      (.skip)
      (.exit 0)))
    (.seq (.block 1 (.seq (.draw [⟨.iaddr 1 (.tmp 0) (.tmp 3), none, 0⟩, ⟨.load none (.loc 0), none, 0⟩, ⟨.iaddr 1 (.tmp 1) (.tmp 3), none, 0⟩, ⟨.load none (.loc 0), none, 0⟩, ⟨.bin .neq (.loc 2) (.loc 0), none, 0⟩] [(6, (.loc 0))])
     (.cond (.tmp 6)
      (.seq (.region [] [(2, (.const (.bool false)))])
       (.ret))
      (.skip))))
    (.region [⟨.bin .add (.tmp 3) (.const (.int .i64 1)), none, 0⟩] [(3, (.loc 0))]))))))
  (.seq (.region [] [(2, (.const (.bool true)))])
  (.ret))))⟩
theorem c76_ok : compileFn Try.prog false 76 = some c76 := by kernel_rfl
/-- louver/louverkit.Code -/
noncomputable def c77 : AFunc := ⟨[0, 1, 4, 5, 10, 14, 25], [.tmp 2],
  .seq (.region [] [(2, (.const (.bool false)))])
  (.seq (.seq (.region [⟨.len (.tmp 0), none, 0⟩, ⟨.len (.tmp 1), none, 0⟩, ⟨.bin .neq (.loc 1) (.loc 0), none, 0⟩] [(4, (.loc 0))])
   (.cond (.tmp 4)
    (.seq (.region [] [(2, (.const (.bool false)))])
     (.ret))
    (.skip)))
  (.seq (.seq (.region [] [(3, (.const (.int .i64 0)))])
   (.block 0 (.loop (.seq (.seq (.region [⟨.len (.tmp 0), none, 0⟩, ⟨.bin .lss (.tmp 3) (.loc 0), none, 0⟩] [(5, (.loc 0))])
     (.cond (.tmp 5)
      (.skip)
      (.exit 0)))
    (.seq (.block 1 (.seq (.draw [⟨.iaddr 2 (.tmp 0) (.tmp 3), none, 0⟩, ⟨.load (some 2) (.loc 0), none, 0⟩, ⟨.iaddr 2 (.tmp 1) (.tmp 3), none, 0⟩, ⟨.load (some 2) (.loc 0), none, 0⟩, ⟨.flat (.bin .neq 34 (.tmp 20) (.tmp 24)) [(.loc 2), (.loc 0)], none, 0⟩] [(6, (.loc 0))])
     (.cond (.tmp 6)
      (.seq (.region [] [(2, (.const (.bool false)))])
       (.ret))
      (.skip))))
    (.region [⟨.bin .add (.tmp 3) (.const (.int .i64 1)), none, 0⟩] [(3, (.loc 0))]))))))
  (.seq (.region [] [(2, (.const (.bool true)))])
  (.ret))))⟩
theorem c77_ok : compileFn Try.prog false 77 = some c77 := by kernel_rfl
noncomputable def list : List (Option AFunc) := [none, none, none, some c3, some c4, none, some c6, none, none, none, none, none, none, some c13, some c14, some c15, some GraphAwake.c16, some GraphAwake.c17, some GraphAwake.c18, some c19, some GraphAwake.c20, some GraphAwake.c21, some c22, some c23, some c24, some c25, some c26, none, none, some c29, none, none, none, none, none, none, none, none, none, none, none, none, none, none, none, none, none, some c47, some c48, some GraphAwake.c49, some c50, some GraphAwake.c51, some GraphAwake.c52, some GraphAwake.c53, some c54, some GraphAwake.c55, some GraphAwake.c56, some c57, some c58, some c59, some c60, some c61, none, none, none, none, none, none, none, none, none, none, none, none, some GraphAwake.c74, some GraphAwake.c75, some c76, some c77]
noncomputable def fns : TV (Option AFunc) := Vec.ofList list
def none1 (args : List Value) (H : AH TV) : Option (Value × AH TV) := match args with | [] => some (.bool true, H) | _ => none
noncomputable def ext (f : FuncId) (args : List Value) (H : AH TV) : Option (Value × AH TV) := bif Nat.beq f 12 then none1 args H else none
noncomputable def E : Env TV := { P := Try.prog, fn := fun f => (Vec.get fns f).getD none, ext := ext }
theorem all_ok : OkFrom Try.prog 0 list := ⟨⟨false, c3_ok⟩, ⟨⟨false, c4_ok⟩, ⟨⟨false, c6_ok⟩, ⟨⟨false, c13_ok⟩, ⟨⟨false, c14_ok⟩, ⟨⟨false, c15_ok⟩, ⟨⟨false, GraphAwake.c16_ok⟩, ⟨⟨false, GraphAwake.c17_ok⟩, ⟨⟨false, GraphAwake.c18_ok⟩, ⟨⟨false, c19_ok⟩, ⟨⟨false, GraphAwake.c20_ok⟩, ⟨⟨false, GraphAwake.c21_ok⟩, ⟨⟨false, c22_ok⟩, ⟨⟨false, c23_ok⟩, ⟨⟨false, c24_ok⟩, ⟨⟨false, c25_ok⟩, ⟨⟨false, c26_ok⟩, ⟨⟨false, c29_ok⟩, ⟨⟨false, c47_ok⟩, ⟨⟨false, c48_ok⟩, ⟨⟨false, GraphAwake.c49_ok⟩, ⟨⟨false, c50_ok⟩, ⟨⟨false, GraphAwake.c51_ok⟩, ⟨⟨false, GraphAwake.c52_ok⟩, ⟨⟨false, GraphAwake.c53_ok⟩, ⟨⟨false, c54_ok⟩, ⟨⟨false, GraphAwake.c55_ok⟩, ⟨⟨false, GraphAwake.c56_ok⟩, ⟨⟨false, c57_ok⟩, ⟨⟨false, c58_ok⟩, ⟨⟨false, c59_ok⟩, ⟨⟨false, c60_ok⟩, ⟨⟨false, c61_ok⟩, ⟨⟨false, GraphAwake.c74_ok⟩, ⟨⟨false, GraphAwake.c75_ok⟩, ⟨⟨false, c76_ok⟩, ⟨⟨false, c77_ok⟩, trivial⟩⟩⟩⟩⟩⟩⟩⟩⟩⟩⟩⟩⟩⟩⟩⟩⟩⟩⟩⟩⟩⟩⟩⟩⟩⟩⟩⟩⟩⟩⟩⟩⟩⟩⟩⟩⟩
theorem ext_ok (f : FuncId) (args : List Value) (H : AH TV) (v : Value) (H' : AH TV) (h : ext f args H = some (v, H')) : CallsOk Try.prog f args H v H' := by
  unfold ext at h
  cases hb : Nat.beq f 12 with
  | true =>
    have hf : f = 12 := Nat.eq_of_beq_eq_true hb
    rw [hb] at h
    cases args with
    | nil =>
      simp only [none1, cond_true, Option.some.injEq, Prod.mk.injEq] at h
      obtain ⟨rfl, rfl⟩ := h
      rw [hf]
      exact closed_ok GraphAwake.env_ok GraphAwake.run rfl H
    | cons a r => cases h
  | false =>
  rw [hb] at h
  cases h
theorem env_ok : EnvOk E := ⟨fun f fn h => fn_of all_ok h, ext_ok, draw_ok (by kernel_rfl)⟩
end Go.Proofs.Ytdbehmepikhghaa.Graph
