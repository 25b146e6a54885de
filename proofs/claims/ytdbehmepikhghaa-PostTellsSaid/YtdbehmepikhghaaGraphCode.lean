/- The functions that louver/louverlaw15.PostTells reaches, compiled; that each is what 'compileFn' comes to. PRINTED by code.py. -/
import Derived.Test.YtdbehmepikhghaaAMb
import Derived.Test.YtdbehmepikhghaaPostAwakeRun
import Derived.Test.YtdbehmepikhghaaGraphAwakeCode
import Derived.Test.YtdbehmepikhghaaPostAwakeCode
import Derived.Test.YtdbehmepikhghaaProg
import Derived.KernelRfl
set_option linter.unusedVariables false
set_option maxRecDepth 100000
namespace Go.Proofs.Ytdbehmepikhghaa.Graph
open Go.Proofs.Ytdbehmepikhghaa.AM
/-- louver/louverlaw15.PostTells -/
noncomputable def c7 : AFunc := ⟨[0, 1, 2, 3, 6, 7, 8, 9, 10, 11, 12, 13, 14, 15, 16, 17, 18, 19, 20, 21, 22, 23, 24, 25, 30, 67, 70, 116, 160, 163, 168, 196, 201, 218], [.tmp 4],
  .seq (.region [⟨.box (.tmp 0), none, 0⟩] [(3, (.loc 0)), (4, (.const (.bool false)))])
  (.seq (.region [⟨.faddr 5 (.tmp 3), none, 0⟩, ⟨.load none (.loc 0), none, 0⟩, ⟨.len (.loc 0), none, 0⟩] [(5, (.loc 0))])
  (.seq (.seq (.region [⟨.bin .gtr (.tmp 5) (.const (.int .i64 40)), none, 0⟩] [(24, (.loc 0))])
   (.cond (.tmp 24)
    (.seq (.region [⟨.call (.func 30) [], none, 0⟩] [(4, (.loc 0))])
     (.ret))
    (.skip)))
  (.seq (.region [⟨.load (some 6) (.tmp 3), none, 0⟩, ⟨.call (.func 13) [(.loc 0)], none, 0⟩, ⟨.alloc [(.int .u64 0), (.slice none 0 0), (.slice none 0 0), (.int .i64 0), (.int .i64 0), (.slice none 0 0)], none, 0⟩, ⟨.store 6 (.loc 0) (.loc 1), none, 0⟩] [(6, (.loc 1))])
  (.seq (.region [⟨.load (some 6) (.tmp 3), none, 0⟩, ⟨.call (.func 31) [(.loc 0)], none, 0⟩] [(7, (.loc 0))])
  (.seq (.region [⟨.load (some 6) (.tmp 6), none, 0⟩, ⟨.call (.func 32) [(.loc 0)], none, 0⟩] [(8, (.loc 0))])
  (.seq (.region [⟨.load (some 6) (.tmp 6), none, 0⟩, ⟨.call (.func 32) [(.loc 0)], none, 0⟩] [(9, (.loc 0))])
  (.seq (.region [⟨.load (some 6) (.tmp 6), none, 0⟩, ⟨.call (.func 33) [(.loc 0)], none, 0⟩] [(10, (.loc 0))])
  (.seq (.region [⟨.load (some 6) (.tmp 6), none, 0⟩, ⟨.call (.func 33) [(.loc 0)], none, 0⟩] [(11, (.loc 0))])
  (.seq (.region [⟨.load (some 6) (.tmp 3), none, 0⟩, ⟨.call (.func 34) [(.loc 0)], none, 0⟩] [(12, (.loc 0))])
  (.seq (.seq (.region [⟨.call (.func 35) [(.tmp 8), (.tmp 7)], none, 0⟩, ⟨.not (.loc 0), none, 0⟩, ⟨.mov (.tmp 9), (some ((.loc 0), false)), 0⟩, ⟨.mov (.tmp 7), (some ((.loc 1), false)), 0⟩, ⟨.call (.func 35) [(.loc 1), (.loc 0)], (some ((.loc 2), false)), 0⟩, ⟨.not (.loc 0), (some ((.loc 3), false)), 0⟩, ⟨.pick (.loc 4) (.const (.bool true)) (.loc 0), none, 0⟩, ⟨.mov (.tmp 10), (some ((.loc 0), false)), 0⟩, ⟨.mov (.tmp 12), (some ((.loc 1), false)), 0⟩, ⟨.call (.func 16) [(.loc 1), (.loc 0)], (some ((.loc 2), false)), 0⟩, ⟨.not (.loc 0), (some ((.loc 3), false)), 0⟩, ⟨.pick (.loc 4) (.const (.bool true)) (.loc 0), none, 0⟩, ⟨.mov (.tmp 11), (some ((.loc 0), false)), 0⟩, ⟨.mov (.tmp 12), (some ((.loc 1), false)), 0⟩, ⟨.call (.func 16) [(.loc 1), (.loc 0)], (some ((.loc 2), false)), 0⟩, ⟨.not (.loc 0), (some ((.loc 3), false)), 0⟩, ⟨.pick (.loc 4) (.const (.bool true)) (.loc 0), none, 0⟩] [(25, (.loc 0))])
   (.cond (.tmp 25)
    (.seq (.region [] [(4, (.const (.bool false)))])
     (.ret))
    (.skip)))
  (.seq (.seq (.region [] [(13, (.const (.int .i64 0)))])
   (.block 0 (.loop (.seq (.seq (.region [⟨.bin .leq (.tmp 13) (.tmp 5), none, 0⟩] [(26, (.loc 0))])
     (.cond (.tmp 26)
      (.skip)
      (.exit 0)))
    (.seq (.block 1 (.seq (.region [⟨.load (some 6) (.tmp 6), none, 0⟩, ⟨.call (.func 36) [(.loc 0), (.tmp 13)], none, 0⟩, ⟨.ext (.loc 0) 0, none, 0⟩, ⟨.ext (.loc 1) 1, none, 0⟩] [(14, (.loc 1)), (15, (.loc 0))])
     (.seq (.draw [⟨.iaddr 1 (.tmp 12) (.tmp 13), none, 0⟩, ⟨.load none (.loc 0), none, 0⟩, ⟨.bin .geq (.loc 0) (.const (.int .i64 0)), none, 0⟩, ⟨.beq true (.tmp 15) (.loc 0), none, 0⟩, ⟨.mov (.tmp 15), (some ((.loc 0), false)), 0⟩, ⟨.mov (.loc 0), (some ((.loc 1), false)), 0⟩, ⟨.mov (.tmp 14), (some ((.loc 0), true)), 0⟩, ⟨.mov (.tmp 12), (some ((.loc 1), true)), 0⟩, ⟨.mov (.tmp 13), (some ((.loc 2), true)), 0⟩, ⟨.iaddr 1 (.loc 1) (.loc 0), (some ((.loc 3), true)), 0⟩, ⟨.load none (.loc 0), (some ((.loc 4), true)), 0⟩, ⟨.bin .neq (.loc 4) (.loc 0), (some ((.loc 5), true)), 0⟩, ⟨.pick (.loc 6) (.loc 0) (.const (.bool false)), (some ((.loc 8), false)), 0⟩, ⟨.pick (.loc 9) (.const (.bool true)) (.loc 0), none, 0⟩, ⟨.mov (.tmp 15), (some ((.loc 0), false)), 0⟩, ⟨.not (.loc 0), (some ((.loc 1), false)), 0⟩, ⟨.mov (.loc 0), (some ((.loc 2), false)), 0⟩, ⟨.mov (.tmp 14), (some ((.loc 0), true)), 0⟩, ⟨.bin .neq (.loc 0) (.const (.int .i64 0)), (some ((.loc 1), true)), 0⟩, ⟨.pick (.loc 2) (.loc 0) (.const (.bool false)), (some ((.loc 5), false)), 0⟩, ⟨.pick (.loc 6) (.const (.bool true)) (.loc 0), none, 0⟩, ⟨.load (some 6) (.tmp 6), (some ((.loc 0), false)), 0⟩, ⟨.mov (.tmp 13), (some ((.loc 1), false)), 0⟩, ⟨.call (.func 37) [(.loc 1), (.loc 0), (.const (.int .i64 0))], (some ((.loc 2), false)), 0⟩, ⟨.mov (.tmp 7), (some ((.loc 3), false)), 0⟩, ⟨.iaddr 1 (.loc 0) (.const (.int .i64 0)), (some ((.loc 4), false)), 0⟩, ⟨.load none (.loc 0), (some ((.loc 5), false)), 0⟩, ⟨.mov (.tmp 13), (some ((.loc 6), false)), 0⟩, ⟨.iaddr 1 (.loc 1) (.loc 0), (some ((.loc 7), false)), 0⟩, ⟨.load none (.loc 0), (some ((.loc 8), false)), 0⟩, ⟨.beq true (.loc 6) (.loc 0), (some ((.loc 9), false)), 1⟩, ⟨.pick (.loc 10) (.const (.bool true)) (.loc 0), none, 1⟩] [(27, (.loc 0))])
     (.cond (.tmp 27)
      (.seq (.region [] [(4, (.const (.bool false)))])
       (.ret))
      (.skip)))))
    (.region [⟨.bin .add (.tmp 13) (.const (.int .i64 1)), none, 0⟩] [(13, (.loc 0))]))))))
  (.seq (.region [⟨.load (some 6) (.tmp 6), none, 0⟩, ⟨.call (.func 36) [(.loc 0), (.tmp 1)], none, 0⟩, ⟨.ext (.loc 0) 0, none, 0⟩, ⟨.ext (.loc 1) 1, none, 0⟩] [(16, (.loc 1)), (17, (.loc 0))])
  (.seq (.region [⟨.load (some 6) (.tmp 3), none, 0⟩, ⟨.call (.func 38) [(.loc 0), (.tmp 1)], none, 0⟩, ⟨.ext (.loc 0) 0, none, 0⟩, ⟨.ext (.loc 1) 1, none, 0⟩] [(18, (.loc 1)), (19, (.loc 0))])
  (.seq (.seq (.draw [⟨.bin .neq (.tmp 16) (.tmp 18), none, 0⟩, ⟨.mov (.tmp 17), (some ((.loc 0), false)), 0⟩, ⟨.mov (.tmp 19), (some ((.loc 1), false)), 0⟩, ⟨.beq true (.loc 1) (.loc 0), (some ((.loc 2), false)), 0⟩, ⟨.pick (.loc 3) (.const (.bool true)) (.loc 0), none, 0⟩, ⟨.load (some 6) (.tmp 6), (some ((.loc 0), false)), 0⟩, ⟨.mov (.tmp 2), (some ((.loc 1), false)), 0⟩, ⟨.mov (.tmp 1), (some ((.loc 2), false)), 0⟩, ⟨.call (.func 37) [(.loc 2), (.loc 1), (.loc 0)], (some ((.loc 3), false)), 0⟩, ⟨.load (some 6) (.tmp 3), (some ((.loc 4), false)), 0⟩, ⟨.mov (.tmp 2), (some ((.loc 5), false)), 0⟩, ⟨.mov (.tmp 1), (some ((.loc 6), false)), 0⟩, ⟨.call (.func 39) [(.loc 2), (.loc 1), (.loc 0)], (some ((.loc 7), false)), 1⟩, ⟨.beq true (.loc 4) (.loc 0), (some ((.loc 8), false)), 2⟩, ⟨.pick (.loc 9) (.const (.bool true)) (.loc 0), none, 2⟩, ⟨.load (some 6) (.tmp 6), (some ((.loc 0), false)), 2⟩, ⟨.load (some 6) (.tmp 3), (some ((.loc 1), false)), 2⟩, ⟨.call (.func 25) [(.loc 1), (.loc 0)], (some ((.loc 2), false)), 2⟩, ⟨.not (.loc 0), (some ((.loc 3), false)), 3⟩, ⟨.pick (.loc 4) (.const (.bool true)) (.loc 0), none, 3⟩, ⟨.mov (.tmp 10), (some ((.loc 0), false)), 3⟩, ⟨.mov (.tmp 11), (some ((.loc 1), false)), 3⟩, ⟨.mkarr 2 [(.slice none 0 0), (.slice none 0 0)] [(0, 1, (.loc 1)), (1, 1, (.loc 0))], (some ((.loc 2), false)), 3⟩, ⟨.call (.func 26) [(.loc 0)], (some ((.loc 3), false)), 3⟩, ⟨.not (.loc 0), (some ((.loc 4), false)), 4⟩, ⟨.pick (.loc 5) (.const (.bool true)) (.loc 0), none, 4⟩] [(28, (.loc 0))])
   (.cond (.tmp 28)
    (.seq (.region [] [(4, (.const (.bool false)))])
     (.ret))
    (.skip)))
  (.seq (.seq (.region [] [(20, (.const (.int .i64 0)))])
   (.block 2 (.loop (.seq (.seq (.region [⟨.bin .leq (.tmp 20) (.tmp 5), none, 0⟩] [(29, (.loc 0))])
     (.cond (.tmp 29)
      (.skip)
      (.exit 2)))
    (.seq (.block 3 (.seq (.seq (.region [] [(21, (.const (.int .i64 0)))])
      (.block 4 (.loop (.seq (.seq (.region [⟨.bin .leq (.tmp 21) (.tmp 5), none, 0⟩] [(30, (.loc 0))])
        (.cond (.tmp 30)
         (.skip)
         (.exit 4)))
       (.seq (.block 5 (.draw [⟨.iaddr 1 (.tmp 8) (.tmp 20), none, 0⟩, ⟨.load none (.loc 0), none, 0⟩, ⟨.iaddr 1 (.tmp 8) (.tmp 20), none, 0⟩, ⟨.load none (.loc 0), none, 0⟩, ⟨.iaddr 1 (.loc 0) (.tmp 21), none, 0⟩, ⟨.load none (.loc 0), none, 0⟩, ⟨.not (.loc 0), none, 0⟩, ⟨.iaddr 1 (.loc 5) (.tmp 21), none, 0⟩, ⟨.store 1 (.loc 0) (.loc 1), none, 0⟩] []))
       (.region [⟨.bin .add (.tmp 21) (.const (.int .i64 1)), none, 0⟩] [(21, (.loc 0))]))))))
     (.region [⟨.iaddr 1 (.tmp 8) (.tmp 20), none, 0⟩, ⟨.load none (.loc 0), none, 0⟩, ⟨.mkarr 2 [(.bool false), (.bool false)] [(0, 1, (.const (.bool true))), (1, 1, (.const (.bool true)))], none, 0⟩, ⟨.append false 1 1 (.loc 1) (.loc 0), none, 0⟩, ⟨.iaddr 1 (.tmp 8) (.tmp 20), none, 0⟩, ⟨.store 1 (.loc 0) (.loc 1), none, 0⟩] [])))
    (.region [⟨.bin .add (.tmp 20) (.const (.int .i64 1)), none, 0⟩] [(20, (.loc 0))]))))))
  (.seq (.seq (.region [] [(22, (.const (.int .i64 0)))])
   (.block 6 (.loop (.seq (.seq (.region [⟨.bin .leq (.tmp 22) (.tmp 5), none, 0⟩] [(31, (.loc 0))])
     (.cond (.tmp 31)
      (.skip)
      (.exit 6)))
    (.seq (.block 7 (.seq (.region [] [(23, (.const (.int .i64 0)))])
     (.block 8 (.loop (.seq (.seq (.region [⟨.bin .leq (.tmp 23) (.tmp 5), none, 0⟩] [(32, (.loc 0))])
       (.cond (.tmp 32)
        (.skip)
        (.exit 8)))
      (.seq (.block 9 (.seq (.draw [⟨.iaddr 1 (.tmp 8) (.tmp 22), none, 0⟩, ⟨.load none (.loc 0), none, 0⟩, ⟨.iaddr 1 (.loc 0) (.tmp 23), none, 0⟩, ⟨.load none (.loc 0), none, 0⟩, ⟨.iaddr 1 (.tmp 7) (.tmp 22), none, 0⟩, ⟨.load none (.loc 0), none, 0⟩, ⟨.iaddr 1 (.loc 0) (.tmp 23), none, 0⟩, ⟨.load none (.loc 0), none, 0⟩, ⟨.beq false (.loc 4) (.loc 0), none, 0⟩] [(33, (.loc 0))])
       (.cond (.tmp 33)
        (.seq (.region [] [(4, (.const (.bool false)))])
         (.ret))
        (.skip))))
      (.region [⟨.bin .add (.tmp 23) (.const (.int .i64 1)), none, 0⟩] [(23, (.loc 0))])))))))
    (.region [⟨.bin .add (.tmp 22) (.const (.int .i64 1)), none, 0⟩] [(22, (.loc 0))]))))))
  (.seq (.region [⟨.call (.func 35) [(.tmp 9), (.tmp 7)], none, 0⟩, ⟨.load (some 6) (.tmp 6), (some ((.loc 0), true)), 0⟩, ⟨.load (some 6) (.tmp 3), (some ((.loc 1), true)), 0⟩, ⟨.call (.func 25) [(.loc 1), (.loc 0)], (some ((.loc 2), true)), 0⟩, ⟨.pick (.loc 3) (.loc 0) (.const (.bool false)), none, 0⟩, ⟨.call (.func 30) [], (some ((.loc 0), true)), 0⟩, ⟨.pick (.loc 1) (.loc 0) (.const (.bool false)), none, 0⟩] [(4, (.loc 0))])
  (.ret))))))))))))))))))⟩
theorem c7_ok : compileFn Try.prog false 7 = some c7 := by kernel_rfl
/-- louver/louverkit.LentFunction -/
noncomputable def c13 : AFunc := ⟨[0, 1, 2], [.cell 2 (some 6)],
  .seq (.region [⟨.box (.tmp 0), none, 0⟩, ⟨.alloc [(.int .u64 0), (.slice none 0 0), (.slice none 0 0), (.int .i64 0), (.int .i64 0), (.slice none 0 0)], none, 0⟩] [(1, (.loc 1)), (2, (.loc 0))])
  (.seq (.region [⟨.faddr 1 (.tmp 1), none, 0⟩, ⟨.load none (.loc 0), none, 0⟩, ⟨.call (.func 47) [(.loc 0)], none, 0⟩, ⟨.faddr 1 (.tmp 1), none, 0⟩, ⟨.store 1 (.loc 0) (.loc 1), none, 0⟩] [])
  (.seq (.region [⟨.faddr 2 (.tmp 1), none, 0⟩, ⟨.load none (.loc 0), none, 0⟩, ⟨.call (.func 47) [(.loc 0)], none, 0⟩, ⟨.faddr 2 (.tmp 1), none, 0⟩, ⟨.store 1 (.loc 0) (.loc 1), none, 0⟩] [])
  (.seq (.region [⟨.faddr 5 (.tmp 1), none, 0⟩, ⟨.load none (.loc 0), none, 0⟩, ⟨.call (.func 48) [(.loc 0)], none, 0⟩, ⟨.faddr 5 (.tmp 1), none, 0⟩, ⟨.store 1 (.loc 0) (.loc 1), none, 0⟩] [])
  (.seq (.region [⟨.load (some 6) (.tmp 1), none, 0⟩, ⟨.store 6 (.tmp 2) (.loc 0), none, 0⟩] [])
  (.ret)))))⟩
theorem c13_ok : compileFn Try.prog false 13 = some c13 := by kernel_rfl
/-- louver/louverref14.Next -/
noncomputable def c15 : AFunc := ⟨[0, 1, 2, 4, 5, 6, 7, 8, 18, 29, 30, 50, 63, 65, 71, 76, 88], [.tmp 3],
  .seq (.region [⟨.box (.tmp 0), none, 0⟩] [(2, (.loc 0)), (3, (.const (.slice none 0 0)))])
  (.seq (.region [] [(4, (.const (.slice none 0 0)))])
  (.seq (.region [⟨.faddr 5 (.tmp 2), none, 0⟩, ⟨.load none (.loc 0), none, 0⟩, ⟨.len (.loc 0), none, 0⟩] [(5, (.loc 0))])
  (.seq (.seq (.region [⟨.bin .lss (.tmp 1) (.const (.int .i64 0)), none, 0⟩, ⟨.mov (.tmp 1), (some ((.loc 0), false)), 0⟩, ⟨.mov (.tmp 5), (some ((.loc 1), false)), 0⟩, ⟨.bin .geq (.loc 1) (.loc 0), (some ((.loc 2), false)), 0⟩, ⟨.pick (.loc 3) (.const (.bool true)) (.loc 0), none, 0⟩] [(8, (.loc 0))])
   (.cond (.tmp 8)
    (.seq (.region [] [(3, (.tmp 4))])
     (.ret))
    (.skip)))
  (.seq (.region [⟨.bin .add (.tmp 1) (.const (.int .i64 1)), none, 0⟩] [(6, (.loc 0))])
  (.seq (.region [⟨.bin .add (.tmp 1) (.const (.int .i64 1)), none, 0⟩] [(7, (.loc 0))])
  (.seq (.seq (.region [⟨.faddr 5 (.tmp 2), none, 0⟩, ⟨.load none (.loc 0), none, 0⟩, ⟨.iaddr 2 (.loc 0) (.tmp 1), none, 0⟩, ⟨.faddr 0 (.loc 0), none, 0⟩, ⟨.load none (.loc 0), none, 0⟩] [(9, (.loc 0))])
   (.block 0 (.seq (.seq (.region [⟨.bin .eql (.tmp 9) (.const (.int .i64 43)), none, 0⟩] [(10, (.loc 0))])
    (.cond (.tmp 10)
     (.skip)
     (.region [⟨.bin .eql (.tmp 9) (.const (.int .i64 44)), none, 0⟩] [(10, (.loc 0))])))
   (.cond (.tmp 10)
    (.seq (.region [] [(7, (.tmp 5))])
     (.seq (.seq (.region [⟨.faddr 5 (.tmp 2), none, 0⟩, ⟨.load none (.loc 0), none, 0⟩, ⟨.iaddr 2 (.loc 0) (.tmp 1), none, 0⟩, ⟨.faddr 1 (.loc 0), none, 0⟩, ⟨.load none (.loc 0), none, 0⟩, ⟨.bin .geq (.loc 0) (.const (.int .i64 0)), none, 0⟩, ⟨.faddr 5 (.tmp 2), (some ((.loc 0), true)), 0⟩, ⟨.load none (.loc 0), (some ((.loc 1), true)), 0⟩, ⟨.mov (.tmp 1), (some ((.loc 2), true)), 0⟩, ⟨.iaddr 2 (.loc 1) (.loc 0), (some ((.loc 3), true)), 0⟩, ⟨.faddr 1 (.loc 0), (some ((.loc 4), true)), 0⟩, ⟨.load none (.loc 0), (some ((.loc 5), true)), 0⟩, ⟨.mov (.tmp 5), (some ((.loc 6), true)), 0⟩, ⟨.bin .lss (.loc 1) (.loc 0), (some ((.loc 7), true)), 0⟩, ⟨.pick (.loc 8) (.loc 0) (.const (.bool false)), none, 0⟩] [(11, (.loc 0))])
      (.cond (.tmp 11)
       (.region [⟨.faddr 5 (.tmp 2), none, 0⟩, ⟨.load none (.loc 0), none, 0⟩, ⟨.iaddr 2 (.loc 0) (.tmp 1), none, 0⟩, ⟨.faddr 1 (.loc 0), none, 0⟩, ⟨.load none (.loc 0), none, 0⟩] [(7, (.loc 0))])
       (.skip)))
     (.seq (.region [⟨.faddr 5 (.tmp 2), none, 0⟩, ⟨.load none (.loc 0), none, 0⟩, ⟨.iaddr 2 (.loc 0) (.tmp 1), none, 0⟩, ⟨.faddr 0 (.loc 0), none, 0⟩, ⟨.load none (.loc 0), none, 0⟩, ⟨.bin .eql (.loc 0) (.const (.int .i64 43)), none, 0⟩] [(12, (.loc 0))])
     (.cond (.tmp 12)
      (.region [] [(6, (.tmp 7))])
      (.skip)))))
    (.seq (.region [⟨.bin .eql (.tmp 9) (.const (.int .i64 46)), none, 0⟩] [(13, (.loc 0))])
     (.cond (.tmp 13)
      (.seq (.region [⟨.mkarr 1 [(.int .i64 0)] [(0, 1, (.tmp 5))], none, 0⟩] [(3, (.loc 0))])
       (.ret))
      (.skip)))))))
  (.seq (.seq (.region [⟨.bin .gtr (.tmp 6) (.tmp 7), none, 0⟩] [(14, (.loc 0))])
   (.cond (.tmp 14)
    (.region [] [(6, (.tmp 7)), (7, (.tmp 6))])
    (.skip)))
  (.seq (.seq (.region [⟨.bin .lss (.tmp 6) (.tmp 5), none, 0⟩] [(15, (.loc 0))])
   (.cond (.tmp 15)
    (.region [⟨.mkarr 1 [(.int .i64 0)] [(0, 1, (.tmp 6))], none, 0⟩, ⟨.append false 1 8 (.tmp 4) (.loc 0), none, 0⟩] [(4, (.loc 0))])
    (.skip)))
  (.seq (.seq (.region [⟨.bin .lss (.tmp 7) (.tmp 5), none, 0⟩, ⟨.mov (.tmp 7), (some ((.loc 0), true)), 0⟩, ⟨.mov (.tmp 6), (some ((.loc 1), true)), 0⟩, ⟨.bin .neq (.loc 1) (.loc 0), (some ((.loc 2), true)), 0⟩, ⟨.pick (.loc 3) (.loc 0) (.const (.bool false)), none, 0⟩] [(16, (.loc 0))])
   (.cond (.tmp 16)
    (.region [⟨.mkarr 1 [(.int .i64 0)] [(0, 1, (.tmp 7))], none, 0⟩, ⟨.append false 1 8 (.tmp 4) (.loc 0), none, 0⟩] [(4, (.loc 0))])
    (.skip)))
  (.seq (.region [] [(3, (.tmp 4))])
  (.ret)))))))))))⟩
theorem c15_ok : compileFn Try.prog false 15 = some c15 := by kernel_rfl
/-- louver/louverref14.Reach -/
noncomputable def c22 : AFunc := ⟨[0, 1, 2, 4], [.tmp 3],
  .seq (.region [⟨.box (.tmp 0), none, 0⟩] [(2, (.loc 0)), (3, (.const (.slice none 0 0)))])
  (.seq (.region [⟨.load (some 6) (.tmp 2), none, 0⟩, ⟨.call (.func 57) [(.loc 0), (.tmp 1), (.const (.int .i64 (-1)))], none, 0⟩] [(3, (.loc 0))])
  (.ret))⟩
theorem c22_ok : compileFn Try.prog false 22 = some c22 := by kernel_rfl
/-- louver/louverkit.KeptFunction -/
noncomputable def c25 : AFunc := ⟨[0, 1, 2, 3, 4], [.tmp 4],
  .seq (.region [⟨.box (.tmp 0), none, 0⟩, ⟨.box (.tmp 1), none, 0⟩] [(2, (.loc 1)), (3, (.loc 0)), (4, (.const (.bool false)))])
  (.seq (.region [⟨.faddr 0 (.tmp 2), none, 0⟩, ⟨.load none (.loc 0), none, 0⟩, ⟨.faddr 0 (.tmp 3), none, 0⟩, ⟨.load none (.loc 0), none, 0⟩, ⟨.bin .eql (.loc 2) (.loc 0), none, 0⟩, ⟨.faddr 3 (.tmp 2), (some ((.loc 0), true)), 0⟩, ⟨.load none (.loc 0), (some ((.loc 1), true)), 0⟩, ⟨.faddr 3 (.tmp 3), (some ((.loc 2), true)), 0⟩, ⟨.load none (.loc 0), (some ((.loc 3), true)), 0⟩, ⟨.bin .eql (.loc 2) (.loc 0), (some ((.loc 4), true)), 0⟩, ⟨.pick (.loc 5) (.loc 0) (.const (.bool false)), none, 0⟩, ⟨.faddr 4 (.tmp 2), (some ((.loc 0), true)), 0⟩, ⟨.load none (.loc 0), (some ((.loc 1), true)), 0⟩, ⟨.faddr 4 (.tmp 3), (some ((.loc 2), true)), 0⟩, ⟨.load none (.loc 0), (some ((.loc 3), true)), 0⟩, ⟨.bin .eql (.loc 2) (.loc 0), (some ((.loc 4), true)), 0⟩, ⟨.pick (.loc 5) (.loc 0) (.const (.bool false)), none, 0⟩, ⟨.faddr 1 (.tmp 2), (some ((.loc 0), true)), 0⟩, ⟨.load none (.loc 0), (some ((.loc 1), true)), 0⟩, ⟨.faddr 1 (.tmp 3), (some ((.loc 2), true)), 0⟩, ⟨.load none (.loc 0), (some ((.loc 3), true)), 0⟩, ⟨.call (.func 60) [(.loc 2), (.loc 0)], (some ((.loc 4), true)), 0⟩, ⟨.pick (.loc 5) (.loc 0) (.const (.bool false)), none, 0⟩, ⟨.faddr 2 (.tmp 2), (some ((.loc 0), true)), 0⟩, ⟨.load none (.loc 0), (some ((.loc 1), true)), 0⟩, ⟨.faddr 2 (.tmp 3), (some ((.loc 2), true)), 0⟩, ⟨.load none (.loc 0), (some ((.loc 3), true)), 0⟩, ⟨.call (.func 60) [(.loc 2), (.loc 0)], (some ((.loc 4), true)), 0⟩, ⟨.pick (.loc 5) (.loc 0) (.const (.bool false)), none, 0⟩, ⟨.faddr 5 (.tmp 2), (some ((.loc 0), true)), 0⟩, ⟨.load none (.loc 0), (some ((.loc 1), true)), 0⟩, ⟨.faddr 5 (.tmp 3), (some ((.loc 2), true)), 0⟩, ⟨.load none (.loc 0), (some ((.loc 3), true)), 0⟩, ⟨.call (.func 61) [(.loc 2), (.loc 0)], (some ((.loc 4), true)), 0⟩, ⟨.pick (.loc 5) (.loc 0) (.const (.bool false)), none, 0⟩] [(4, (.loc 0))])
  (.ret))⟩
theorem c25_ok : compileFn Try.prog false 25 = some c25 := by kernel_rfl
/-- louver/louverkit.ApartInts -/
noncomputable def c26 : AFunc := ⟨[0, 2, 3, 4, 5, 6, 7, 8, 9, 10, 11, 12, 16, 25, 41, 49, 67, 77, 105, 107, 124], [.tmp 1],
  .seq (.region [] [(1, (.const (.bool false)))])
  (.seq (.seq (.region [] [(2, (.const (.int .i64 0)))])
   (.block 0 (.loop (.seq (.seq (.region [⟨.len (.tmp 0), none, 0⟩, ⟨.bin .lss (.tmp 2) (.loc 0), none, 0⟩] [(12, (.loc 0))])
     (.cond (.tmp 12)
      (.skip)
      (.exit 0)))
    (.seq (.block 1 (.seq (.region [] [(3, (.const (.int .i64 0)))])
     (.block 2 (.loop (.seq (.seq (.region [⟨.iaddr 1 (.tmp 0) (.tmp 2), none, 0⟩, ⟨.load none (.loc 0), none, 0⟩, ⟨.len (.loc 0), none, 0⟩, ⟨.bin .lss (.tmp 3) (.loc 0), none, 0⟩] [(13, (.loc 0))])
       (.cond (.tmp 13)
        (.skip)
        (.exit 2)))
      (.seq (.block 3 (.region [⟨.iaddr 1 (.tmp 0) (.tmp 2), none, 0⟩, ⟨.load none (.loc 0), none, 0⟩, ⟨.bin .mul (.const (.int .i64 1000)) (.tmp 2), none, 0⟩, ⟨.bin .add (.loc 0) (.tmp 3), none, 0⟩, ⟨.iaddr 1 (.loc 2) (.tmp 3), none, 0⟩, ⟨.store 1 (.loc 0) (.loc 1), none, 0⟩] []))
      (.region [⟨.bin .add (.tmp 3) (.const (.int .i64 1)), none, 0⟩] [(3, (.loc 0))])))))))
    (.region [⟨.bin .add (.tmp 2) (.const (.int .i64 1)), none, 0⟩] [(2, (.loc 0))]))))))
  (.seq (.region [] [(4, (.const (.slice none 0 0)))])
  (.seq (.seq (.region [] [(5, (.const (.int .i64 0)))])
   (.block 4 (.loop (.seq (.seq (.region [⟨.len (.tmp 0), none, 0⟩, ⟨.bin .lss (.tmp 5) (.loc 0), none, 0⟩] [(14, (.loc 0))])
     (.cond (.tmp 14)
      (.skip)
      (.exit 4)))
    (.seq (.block 5 (.seq (.region [⟨.iaddr 1 (.tmp 0) (.tmp 5), none, 0⟩, ⟨.load none (.loc 0), none, 0⟩] [(6, (.loc 0))])
     (.seq (.seq (.region [] [(7, (.const (.int .i64 0)))])
      (.block 6 (.loop (.seq (.seq (.region [⟨.bin .lss (.tmp 7) (.const (.int .i64 30)), none, 0⟩] [(15, (.loc 0))])
        (.cond (.tmp 15)
         (.skip)
         (.exit 6)))
       (.seq (.block 7 (.region [⟨.bin .mul (.const (.int .i64 1000)) (.tmp 5), none, 0⟩, ⟨.bin .add (.const (.int .i64 500000)) (.loc 0), none, 0⟩, ⟨.bin .add (.loc 0) (.tmp 7), none, 0⟩, ⟨.mkarr 1 [(.int .i64 0)] [(0, 1, (.loc 0))], none, 0⟩, ⟨.append false 1 8 (.tmp 6) (.loc 0), none, 0⟩] [(6, (.loc 0))]))
       (.region [⟨.bin .add (.tmp 7) (.const (.int .i64 1)), none, 0⟩] [(7, (.loc 0))]))))))
     (.region [⟨.mkarr 1 [(.slice none 0 0)] [(0, 1, (.tmp 6))], none, 0⟩, ⟨.append false 1 24 (.tmp 4) (.loc 0), none, 0⟩] [(4, (.loc 0))]))))
    (.region [⟨.bin .add (.tmp 5) (.const (.int .i64 1)), none, 0⟩] [(5, (.loc 0))]))))))
  (.seq (.seq (.region [] [(8, (.const (.int .i64 0)))])
   (.block 8 (.loop (.seq (.seq (.region [⟨.len (.tmp 0), none, 0⟩, ⟨.bin .lss (.tmp 8) (.loc 0), none, 0⟩] [(16, (.loc 0))])
     (.cond (.tmp 16)
      (.skip)
      (.exit 8)))
    (.seq (.block 9 (.seq (.region [⟨.iaddr 1 (.tmp 0) (.tmp 8), none, 0⟩, ⟨.load none (.loc 0), none, 0⟩, ⟨.len (.loc 0), none, 0⟩] [(9, (.loc 0))])
     (.seq (.seq (.region [] [(10, (.const (.int .i64 0)))])
      (.block 10 (.loop (.seq (.seq (.region [⟨.bin .lss (.tmp 10) (.tmp 9), none, 0⟩] [(17, (.loc 0))])
        (.cond (.tmp 17)
         (.skip)
         (.exit 10)))
       (.seq (.block 11 (.seq (.region [⟨.iaddr 1 (.tmp 0) (.tmp 8), none, 0⟩, ⟨.load none (.loc 0), none, 0⟩, ⟨.iaddr 1 (.loc 0) (.tmp 10), none, 0⟩, ⟨.load none (.loc 0), none, 0⟩, ⟨.bin .mul (.const (.int .i64 1000)) (.tmp 8), none, 0⟩, ⟨.bin .add (.loc 0) (.tmp 10), none, 0⟩, ⟨.bin .neq (.loc 2) (.loc 0), none, 0⟩, ⟨.mov (.tmp 4), (some ((.loc 0), false)), 0⟩, ⟨.mov (.tmp 8), (some ((.loc 1), false)), 0⟩, ⟨.iaddr 1 (.loc 1) (.loc 0), (some ((.loc 2), false)), 0⟩, ⟨.load none (.loc 0), (some ((.loc 3), false)), 0⟩, ⟨.mov (.tmp 10), (some ((.loc 4), false)), 0⟩, ⟨.iaddr 1 (.loc 1) (.loc 0), (some ((.loc 5), false)), 0⟩, ⟨.load none (.loc 0), (some ((.loc 6), false)), 0⟩, ⟨.mov (.tmp 8), (some ((.loc 7), false)), 0⟩, ⟨.bin .mul (.const (.int .i64 1000)) (.loc 0), (some ((.loc 8), false)), 0⟩, ⟨.mov (.tmp 10), (some ((.loc 9), false)), 0⟩, ⟨.bin .add (.loc 1) (.loc 0), (some ((.loc 10), false)), 0⟩, ⟨.bin .neq (.loc 4) (.loc 0), (some ((.loc 11), false)), 0⟩, ⟨.pick (.loc 12) (.const (.bool true)) (.loc 0), none, 0⟩] [(18, (.loc 0))])
        (.cond (.tmp 18)
         (.seq (.region [] [(1, (.const (.bool false)))])
          (.ret))
         (.skip))))
       (.region [⟨.bin .add (.tmp 10) (.const (.int .i64 1)), none, 0⟩] [(10, (.loc 0))]))))))
     (.seq (.region [] [(11, (.const (.int .i64 0)))])
     (.block 12 (.loop (.seq (.seq (.region [⟨.bin .lss (.tmp 11) (.const (.int .i64 30)), none, 0⟩] [(19, (.loc 0))])
       (.cond (.tmp 19)
        (.skip)
        (.exit 12)))
      (.seq (.block 13 (.seq (.region [⟨.iaddr 1 (.tmp 4) (.tmp 8), none, 0⟩, ⟨.load none (.loc 0), none, 0⟩, ⟨.bin .add (.tmp 9) (.tmp 11), none, 0⟩, ⟨.iaddr 1 (.loc 1) (.loc 0), none, 0⟩, ⟨.load none (.loc 0), none, 0⟩, ⟨.bin .mul (.const (.int .i64 1000)) (.tmp 8), none, 0⟩, ⟨.bin .add (.const (.int .i64 500000)) (.loc 0), none, 0⟩, ⟨.bin .add (.loc 0) (.tmp 11), none, 0⟩, ⟨.bin .neq (.loc 3) (.loc 0), none, 0⟩] [(20, (.loc 0))])
       (.cond (.tmp 20)
        (.seq (.region [] [(1, (.const (.bool false)))])
         (.ret))
        (.skip))))
      (.region [⟨.bin .add (.tmp 11) (.const (.int .i64 1)), none, 0⟩] [(11, (.loc 0))])))))))))
    (.region [⟨.bin .add (.tmp 8) (.const (.int .i64 1)), none, 0⟩] [(8, (.loc 0))]))))))
  (.seq (.region [] [(1, (.const (.bool true)))])
  (.ret))))))⟩
theorem c26_ok : compileFn Try.prog false 26 = some c26 := by kernel_rfl
/-- louver/louverref15.All -/
noncomputable def c31 : AFunc := ⟨[0, 1, 2, 3, 4, 5, 6, 11, 18], [.tmp 2],
  .seq (.region [⟨.box (.tmp 0), none, 0⟩] [(1, (.loc 0)), (2, (.const (.slice none 0 0)))])
  (.seq (.region [] [(3, (.const (.slice none 0 0)))])
  (.seq (.seq (.region [] [(4, (.const (.int .i64 0)))])
   (.block 0 (.loop (.seq (.seq (.region [⟨.faddr 5 (.tmp 1), none, 0⟩, ⟨.load none (.loc 0), none, 0⟩, ⟨.len (.loc 0), none, 0⟩, ⟨.bin .leq (.tmp 4) (.loc 0), none, 0⟩] [(7, (.loc 0))])
     (.cond (.tmp 7)
      (.skip)
      (.exit 0)))
    (.seq (.block 1 (.seq (.region [] [(5, (.const (.slice none 0 0)))])
     (.seq (.seq (.region [] [(6, (.const (.int .i64 0)))])
      (.block 2 (.loop (.seq (.seq (.region [⟨.faddr 5 (.tmp 1), none, 0⟩, ⟨.load none (.loc 0), none, 0⟩, ⟨.len (.loc 0), none, 0⟩, ⟨.bin .leq (.tmp 6) (.loc 0), none, 0⟩] [(8, (.loc 0))])
        (.cond (.tmp 8)
         (.skip)
         (.exit 2)))
       (.seq (.block 3 (.region [⟨.load (some 6) (.tmp 1), none, 0⟩, ⟨.call (.func 39) [(.loc 0), (.tmp 6), (.tmp 4)], none, 0⟩, ⟨.mkarr 1 [(.bool false)] [(0, 1, (.loc 0))], none, 0⟩, ⟨.append false 1 1 (.tmp 5) (.loc 0), none, 0⟩] [(5, (.loc 0))]))
       (.region [⟨.bin .add (.tmp 6) (.const (.int .i64 1)), none, 0⟩] [(6, (.loc 0))]))))))
     (.region [⟨.mkarr 1 [(.slice none 0 0)] [(0, 1, (.tmp 5))], none, 0⟩, ⟨.append false 1 24 (.tmp 3) (.loc 0), none, 0⟩] [(3, (.loc 0))]))))
    (.region [⟨.bin .add (.tmp 4) (.const (.int .i64 1)), none, 0⟩] [(4, (.loc 0))]))))))
  (.seq (.region [] [(2, (.tmp 3))])
  (.ret))))⟩
theorem c31_ok : compileFn Try.prog false 31 = some c31 := by kernel_rfl
/-- louver/post.All -/
noncomputable def c32 : AFunc := ⟨[0, 1, 2, 3, 4, 5, 6, 7, 16, 17, 18], [.tmp 2],
  .seq (.region [⟨.box (.tmp 0), none, 0⟩] [(1, (.loc 0)), (2, (.const (.slice none 0 0)))])
  (.seq (.region [⟨.load (some 6) (.tmp 1), none, 0⟩, ⟨.call (.func 33) [(.loc 0)], none, 0⟩, ⟨.alloc [(.slice none 0 0)], none, 0⟩, ⟨.store 1 (.loc 0) (.loc 1), none, 0⟩] [(3, (.loc 1))])
  (.seq (.region [⟨.load none (.tmp 3), none, 0⟩, ⟨.len (.loc 0), none, 0⟩, ⟨.alloc [(.int .i64 0)], none, 0⟩, ⟨.store 1 (.loc 0) (.loc 1), none, 0⟩] [(4, (.loc 1))])
  (.seq (.region [⟨.mkfn 62 [] [(.tmp 4), (.tmp 3)], none, 0⟩] [(5, (.loc 0))])
  (.seq (.region [⟨.load none (.tmp 4), none, 0⟩, ⟨.mkslice [(.slice none 0 0)] 24 (.loc 0) (.loc 0), none, 0⟩] [(6, (.loc 0))])
  (.seq (.seq (.region [⟨.len (.tmp 6), none, 0⟩] [(8, (.loc 0)), (9, (.const (.int .i64 0)))])
   (.block 0 (.loop (.seq (.region [⟨.bin .lss (.tmp 9) (.tmp 8), none, 0⟩] [(10, (.loc 0))])
    (.seq (.cond (.tmp 10)
      (.skip)
      (.exit 0))
    (.seq (.block 1 (.seq (.region [] [(7, (.tmp 9))])
     (.region [⟨.call (.tmp 5) [(.tmp 7)], none, 0⟩, ⟨.iaddr 1 (.tmp 6) (.tmp 7), none, 0⟩, ⟨.store 1 (.loc 0) (.loc 1), none, 0⟩] [])))
    (.region [⟨.bin .add (.tmp 9) (.const (.int .i64 1)), none, 0⟩] [(9, (.loc 0))])))))))
  (.seq (.region [] [(2, (.tmp 6))])
  (.ret)))))))⟩
theorem c32_ok : compileFn Try.prog false 32 = some c32 := by kernel_rfl
/-- louver/louverref15.Tree -/
noncomputable def c34 : AFunc := ⟨[0, 1, 2, 3, 4, 5, 6, 12], [.tmp 2],
  .seq (.region [⟨.box (.tmp 0), none, 0⟩] [(1, (.loc 0)), (2, (.const (.slice none 0 0)))])
  (.seq (.region [⟨.load (some 6) (.tmp 1), none, 0⟩, ⟨.call (.func 31) [(.loc 0)], none, 0⟩] [(3, (.loc 0))])
  (.seq (.region [] [(4, (.const (.slice none 0 0)))])
  (.seq (.seq (.region [] [(5, (.const (.int .i64 0)))])
   (.block 0 (.loop (.seq (.seq (.region [⟨.len (.tmp 3), none, 0⟩, ⟨.bin .lss (.tmp 5) (.loc 0), none, 0⟩] [(7, (.loc 0))])
     (.cond (.tmp 7)
      (.skip)
      (.exit 0)))
    (.seq (.block 1 (.seq (.region [⟨.call (.func 65) [(.tmp 3), (.tmp 5)], none, 0⟩] [(6, (.loc 0))])
     (.region [⟨.mkarr 1 [(.int .i64 0)] [(0, 1, (.tmp 6))], none, 0⟩, ⟨.append false 1 8 (.tmp 4) (.loc 0), none, 0⟩] [(4, (.loc 0))])))
    (.region [⟨.bin .add (.tmp 5) (.const (.int .i64 1)), none, 0⟩] [(5, (.loc 0))]))))))
  (.seq (.region [] [(2, (.tmp 4))])
  (.ret)))))⟩
theorem c34_ok : compileFn Try.prog false 34 = some c34 := by kernel_rfl
/-- louver/louverlaw15.rows -/
noncomputable def c35 : AFunc := ⟨[0, 1, 4, 5, 10, 14, 26], [.tmp 2],
  .seq (.region [] [(2, (.const (.bool false)))])
  (.seq (.seq (.region [⟨.len (.tmp 0), none, 0⟩, ⟨.len (.tmp 1), none, 0⟩, ⟨.bin .neq (.loc 1) (.loc 0), none, 0⟩] [(4, (.loc 0))])
   (.cond (.tmp 4)
    (.seq (.region [] [(2, (.const (.bool false)))])
     (.ret))
    (.skip)))
  (.seq (.seq (.region [] [(3, (.const (.int .i64 0)))])
   (.block 0 (.loop (.seq (.seq (.region [⟨.len (.tmp 0), none, 0⟩, ⟨.bin .lss (.tmp 3) (.loc 0), none, 0⟩] [(5, (.loc 0))])
     (.cond (.tmp 5)
      (.skip)
      (.exit 0)))
    (.seq (.block 1 (.seq (.draw [⟨.iaddr 1 (.tmp 0) (.tmp 3), none, 0⟩, ⟨.load none (.loc 0), none, 0⟩, ⟨.iaddr 1 (.tmp 1) (.tmp 3), none, 0⟩, ⟨.load none (.loc 0), none, 0⟩, ⟨.call (.func 20) [(.loc 2), (.loc 0)], none, 0⟩, ⟨.not (.loc 0), none, 1⟩] [(6, (.loc 0))])
     (.cond (.tmp 6)
      (.seq (.region [] [(2, (.const (.bool false)))])
       (.ret))
      (.skip))))
    (.region [⟨.bin .add (.tmp 3) (.const (.int .i64 1)), none, 0⟩] [(3, (.loc 0))]))))))
  (.seq (.region [] [(2, (.const (.bool true)))])
  (.ret))))⟩
theorem c35_ok : compileFn Try.prog false 35 = some c35 := by kernel_rfl
/-- louver/post.Near -/
noncomputable def c36 : AFunc := ⟨[0, 1, 2, 4, 5, 6, 15], [.tmp 3, .tmp 4],
  .seq (.region [⟨.box (.tmp 0), none, 0⟩] [(2, (.loc 0)), (3, (.const (.int .i64 0))), (4, (.const (.bool false)))])
  (.seq (.seq (.region [⟨.bin .lss (.tmp 1) (.const (.int .i64 0)), none, 0⟩, ⟨.mov (.tmp 1), (some ((.loc 0), false)), 0⟩, ⟨.faddr 5 (.tmp 2), (some ((.loc 1), false)), 0⟩, ⟨.load none (.loc 0), (some ((.loc 2), false)), 0⟩, ⟨.len (.loc 0), (some ((.loc 3), false)), 0⟩, ⟨.bin .gtr (.loc 3) (.loc 0), (some ((.loc 4), false)), 0⟩, ⟨.pick (.loc 5) (.const (.bool true)) (.loc 0), none, 0⟩] [(6, (.loc 0))])
   (.cond (.tmp 6)
    (.seq (.region [] [(3, (.const (.int .i64 0))), (4, (.const (.bool false)))])
     (.ret))
    (.skip)))
  (.seq (.region [⟨.load (some 6) (.tmp 2), none, 0⟩, ⟨.call (.func 33) [(.loc 0)], none, 0⟩, ⟨.iaddr 1 (.loc 0) (.tmp 1), none, 0⟩, ⟨.load none (.loc 0), none, 0⟩] [(5, (.loc 0))])
  (.seq (.region [⟨.flat (.max #[3, 3] 3) [(.tmp 5), (.const (.int .i64 0))], none, 0⟩, ⟨.bin .geq (.tmp 5) (.const (.int .i64 0)), none, 0⟩] [(3, (.loc 1)), (4, (.loc 0))])
  (.ret))))⟩
theorem c36_ok : compileFn Try.prog false 36 = some c36 := by kernel_rfl
/-- louver/louverref15.Near -/
noncomputable def c38 : AFunc := ⟨[0, 1, 2, 4, 5, 6, 7, 8, 9, 10, 15, 26, 34, 43, 56], [.tmp 3, .tmp 4],
  .seq (.region [⟨.box (.tmp 0), none, 0⟩] [(2, (.loc 0)), (3, (.const (.int .i64 0))), (4, (.const (.bool false)))])
  (.seq (.region [] [(5, (.const (.slice none 0 0)))])
  (.seq (.seq (.region [] [(6, (.const (.int .i64 0)))])
   (.block 0 (.loop (.seq (.seq (.region [⟨.faddr 5 (.tmp 2), none, 0⟩, ⟨.load none (.loc 0), none, 0⟩, ⟨.len (.loc 0), none, 0⟩, ⟨.bin .leq (.tmp 6) (.loc 0), none, 0⟩] [(10, (.loc 0))])
     (.cond (.tmp 10)
      (.skip)
      (.exit 0)))
    (.seq (.block 1 (.seq (.region [⟨.bin .neq (.tmp 6) (.tmp 1), none, 0⟩, ⟨.load (some 6) (.tmp 2), (some ((.loc 0), true)), 0⟩, ⟨.mov (.tmp 6), (some ((.loc 1), true)), 0⟩, ⟨.mov (.tmp 1), (some ((.loc 2), true)), 0⟩, ⟨.call (.func 39) [(.loc 2), (.loc 1), (.loc 0)], (some ((.loc 3), true)), 0⟩, ⟨.pick (.loc 4) (.loc 0) (.const (.bool false)), none, 0⟩] [(11, (.loc 0))])
     (.cond (.tmp 11)
      (.region [⟨.mkarr 1 [(.int .i64 0)] [(0, 1, (.tmp 6))], none, 0⟩, ⟨.append false 1 8 (.tmp 5) (.loc 0), none, 0⟩] [(5, (.loc 0))])
      (.skip))))
    (.region [⟨.bin .add (.tmp 6) (.const (.int .i64 1)), none, 0⟩] [(6, (.loc 0))]))))))
  (.seq (.seq (.region [] [(7, (.const (.int .i64 0)))])
   (.block 2 (.loop (.seq (.seq (.region [⟨.len (.tmp 5), none, 0⟩, ⟨.bin .lss (.tmp 7) (.loc 0), none, 0⟩] [(12, (.loc 0))])
     (.cond (.tmp 12)
      (.skip)
      (.exit 2)))
    (.seq (.block 3 (.seq (.region [] [(8, (.const (.bool true)))])
     (.seq (.seq (.region [] [(9, (.const (.int .i64 0)))])
      (.block 4 (.loop (.seq (.seq (.region [⟨.len (.tmp 5), none, 0⟩, ⟨.bin .lss (.tmp 9) (.loc 0), none, 0⟩, ⟨.mov (.tmp 8), (some ((.loc 0), true)), 0⟩, ⟨.pick (.loc 1) (.loc 0) (.const (.bool false)), none, 0⟩] [(13, (.loc 0))])
        (.cond (.tmp 13)
         (.skip)
         (.exit 4)))
       (.seq (.block 5 (.draw [⟨.load (some 6) (.tmp 2), none, 0⟩, ⟨.iaddr 1 (.tmp 5) (.tmp 9), none, 0⟩, ⟨.load none (.loc 0), none, 0⟩, ⟨.iaddr 1 (.tmp 5) (.tmp 7), none, 0⟩, ⟨.load none (.loc 0), none, 0⟩, ⟨.call (.func 39) [(.loc 4), (.loc 2), (.loc 0)], none, 0⟩] [(8, (.loc 0))]))
       (.region [⟨.bin .add (.tmp 9) (.const (.int .i64 1)), none, 0⟩] [(9, (.loc 0))]))))))
     (.seq (.region [] [(14, (.tmp 8))])
     (.cond (.tmp 14)
      (.seq (.region [⟨.iaddr 1 (.tmp 5) (.tmp 7), none, 0⟩, ⟨.load none (.loc 0), none, 0⟩] [(3, (.loc 0)), (4, (.const (.bool true)))])
       (.ret))
      (.skip))))))
    (.region [⟨.bin .add (.tmp 7) (.const (.int .i64 1)), none, 0⟩] [(7, (.loc 0))]))))))
  (.seq (.region [] [(3, (.const (.int .i64 0))), (4, (.const (.bool false)))])
  (.ret)))))⟩
theorem c38_ok : compileFn Try.prog false 38 = some c38 := by kernel_rfl
/-- louver/louverref15.Dominates -/
noncomputable def c39 : AFunc := ⟨[0, 1, 2, 3, 6, 7, 8, 9, 28, 36], [.tmp 4],
  .seq (.region [⟨.box (.tmp 0), none, 0⟩] [(3, (.loc 0)), (4, (.const (.bool false)))])
  (.seq (.region [⟨.faddr 5 (.tmp 3), none, 0⟩, ⟨.load none (.loc 0), none, 0⟩, ⟨.len (.loc 0), none, 0⟩] [(5, (.loc 0))])
  (.seq (.seq (.region [⟨.bin .lss (.tmp 1) (.const (.int .i64 0)), none, 0⟩, ⟨.mov (.tmp 1), (some ((.loc 0), false)), 0⟩, ⟨.mov (.tmp 5), (some ((.loc 1), false)), 0⟩, ⟨.bin .gtr (.loc 1) (.loc 0), (some ((.loc 2), false)), 0⟩, ⟨.pick (.loc 3) (.const (.bool true)) (.loc 0), none, 0⟩, ⟨.mov (.tmp 2), (some ((.loc 0), false)), 0⟩, ⟨.bin .lss (.loc 0) (.const (.int .i64 0)), (some ((.loc 1), false)), 0⟩, ⟨.pick (.loc 2) (.const (.bool true)) (.loc 0), none, 0⟩, ⟨.mov (.tmp 2), (some ((.loc 0), false)), 0⟩, ⟨.mov (.tmp 5), (some ((.loc 1), false)), 0⟩, ⟨.bin .gtr (.loc 1) (.loc 0), (some ((.loc 2), false)), 0⟩, ⟨.pick (.loc 3) (.const (.bool true)) (.loc 0), none, 0⟩] [(8, (.loc 0))])
   (.cond (.tmp 8)
    (.seq (.region [] [(4, (.const (.bool false)))])
     (.ret))
    (.skip)))
  (.seq (.region [⟨.load (some 6) (.tmp 3), none, 0⟩, ⟨.call (.func 22) [(.loc 0), (.tmp 2)], none, 0⟩] [(6, (.loc 0))])
  (.seq (.seq (.region [⟨.iaddr 1 (.tmp 6) (.tmp 5), none, 0⟩, ⟨.load none (.loc 0), none, 0⟩, ⟨.not (.loc 0), none, 0⟩] [(9, (.loc 0))])
   (.cond (.tmp 9)
    (.seq (.region [] [(4, (.const (.bool false)))])
     (.ret))
    (.skip)))
  (.seq (.region [⟨.load (some 6) (.tmp 3), none, 0⟩, ⟨.call (.func 57) [(.loc 0), (.tmp 2), (.tmp 1)], none, 0⟩] [(7, (.loc 0))])
  (.seq (.region [⟨.iaddr 1 (.tmp 7) (.tmp 5), none, 0⟩, ⟨.load none (.loc 0), none, 0⟩, ⟨.not (.loc 0), none, 0⟩] [(4, (.loc 0))])
  (.ret)))))))⟩
theorem c39_ok : compileFn Try.prog false 39 = some c39 := by kernel_rfl
/-- louver/louverkit.LentLabels -/
noncomputable def c47 : AFunc := ⟨[0, 2, 3], [.tmp 1],
  .seq (.region [] [(1, (.const (.slice none 0 0)))])
  (.seq (.region [] [(2, (.const (.slice none 0 0)))])
  (.seq (.region [⟨.append false 1 8 (.tmp 2) (.tmp 0), none, 0⟩] [(2, (.loc 0))])
  (.seq (.region [⟨.mkarr 1 [(.int .u64 0)] [(0, 1, (.const (.int .u64 7171)))], none, 0⟩, ⟨.append false 1 8 (.tmp 2) (.loc 0), none, 0⟩] [(2, (.loc 0))])
  (.seq (.region [⟨.len (.tmp 0), none, 0⟩, ⟨.slice 1 (.tmp 2) none (some (.loc 0)) none, none, 0⟩] [(1, (.loc 0))])
  (.ret)))))⟩
theorem c47_ok : compileFn Try.prog false 47 = some c47 := by kernel_rfl
/-- louver/louverkit.LentCode -/
noncomputable def c48 : AFunc := ⟨[0, 2, 3], [.tmp 1],
  .seq (.region [] [(1, (.const (.slice none 0 0)))])
  (.seq (.region [] [(2, (.const (.slice none 0 0)))])
  (.seq (.region [⟨.append false 2 16 (.tmp 2) (.tmp 0), none, 0⟩] [(2, (.loc 0))])
  (.seq (.region [⟨.build [(.int .i64 0), (.int .i64 0)] [(0, 1, (.const (.int .i64 (-71))))], none, 0⟩, ⟨.mkarr 1 [(.int .i64 0), (.int .i64 0)] [(0, 2, (.loc 0))], none, 0⟩, ⟨.append false 2 16 (.tmp 2) (.loc 0), none, 0⟩] [(2, (.loc 0))])
  (.seq (.region [⟨.len (.tmp 0), none, 0⟩, ⟨.slice 2 (.tmp 2) none (some (.loc 0)) none, none, 0⟩] [(1, (.loc 0))])
  (.ret)))))⟩
theorem c48_ok : compileFn Try.prog false 48 = some c48 := by kernel_rfl
/-- louver/louverref14.Without -/
noncomputable def c57 : AFunc := ⟨[0, 1, 2, 3, 6, 7, 8, 9, 10, 11, 12, 30, 40, 52, 70], [.tmp 4],
  .seq (.region [⟨.box (.tmp 0), none, 0⟩] [(3, (.loc 0)), (4, (.const (.slice none 0 0)))])
  (.seq (.region [⟨.faddr 5 (.tmp 3), none, 0⟩, ⟨.load none (.loc 0), none, 0⟩, ⟨.len (.loc 0), none, 0⟩, ⟨.bin .add (.loc 0) (.const (.int .i64 1)), none, 0⟩] [(5, (.loc 0))])
  (.seq (.region [⟨.mkslice [(.bool false)] 1 (.tmp 5) (.tmp 5), none, 0⟩] [(6, (.loc 0))])
  (.seq (.seq (.region [⟨.bin .lss (.tmp 1) (.const (.int .i64 0)), none, 0⟩, ⟨.mov (.tmp 1), (some ((.loc 0), false)), 0⟩, ⟨.mov (.tmp 5), (some ((.loc 1), false)), 0⟩, ⟨.bin .geq (.loc 1) (.loc 0), (some ((.loc 2), false)), 0⟩, ⟨.pick (.loc 3) (.const (.bool true)) (.loc 0), none, 0⟩, ⟨.mov (.tmp 1), (some ((.loc 0), false)), 0⟩, ⟨.mov (.tmp 2), (some ((.loc 1), false)), 0⟩, ⟨.bin .eql (.loc 1) (.loc 0), (some ((.loc 2), false)), 0⟩, ⟨.pick (.loc 3) (.const (.bool true)) (.loc 0), none, 0⟩] [(11, (.loc 0))])
   (.cond (.tmp 11)
    (.seq (.region [] [(4, (.tmp 6))])
     (.ret))
    (.skip)))
  (.seq (.region [⟨.iaddr 1 (.tmp 6) (.tmp 1), none, 0⟩, ⟨.store 1 (.loc 0) (.const (.bool true)), none, 0⟩] [])
  (.seq (.region [⟨.mkarr 1 [(.int .i64 0)] [(0, 1, (.tmp 1))], none, 0⟩] [(7, (.loc 0))])
  (.seq (.seq (.region [] [(8, (.const (.int .i64 0)))])
   (.block 0 (.loop (.seq (.seq (.region [⟨.len (.tmp 7), none, 0⟩, ⟨.bin .lss (.tmp 8) (.loc 0), none, 0⟩] [(12, (.loc 0))])
     (.cond (.tmp 12)
      (.skip)
      (.exit 0)))
    (.seq (.block 1 (.seq (.draw [⟨.load (some 6) (.tmp 3), none, 0⟩, ⟨.iaddr 1 (.tmp 7) (.tmp 8), none, 0⟩, ⟨.load none (.loc 0), none, 0⟩, ⟨.call (.func 15) [(.loc 2), (.loc 0)], none, 0⟩] [(9, (.loc 0))])
     (.seq (.region [] [(10, (.const (.int .i64 0)))])
     (.block 2 (.loop (.seq (.seq (.region [⟨.len (.tmp 9), none, 0⟩, ⟨.bin .lss (.tmp 10) (.loc 0), none, 0⟩] [(13, (.loc 0))])
       (.cond (.tmp 13)
        (.skip)
        (.exit 2)))
      (.seq (.block 3 (.seq (.region [⟨.iaddr 1 (.tmp 9) (.tmp 10), none, 0⟩, ⟨.load none (.loc 0), none, 0⟩, ⟨.iaddr 1 (.tmp 6) (.loc 0), none, 0⟩, ⟨.load none (.loc 0), none, 0⟩, ⟨.not (.loc 0), none, 0⟩, ⟨.mov (.tmp 9), (some ((.loc 0), true)), 0⟩, ⟨.mov (.tmp 10), (some ((.loc 1), true)), 0⟩, ⟨.iaddr 1 (.loc 1) (.loc 0), (some ((.loc 2), true)), 0⟩, ⟨.load none (.loc 0), (some ((.loc 3), true)), 0⟩, ⟨.mov (.tmp 2), (some ((.loc 4), true)), 0⟩, ⟨.bin .neq (.loc 1) (.loc 0), (some ((.loc 5), true)), 0⟩, ⟨.pick (.loc 6) (.loc 0) (.const (.bool false)), none, 0⟩] [(14, (.loc 0))])
       (.cond (.tmp 14)
        (.seq (.region [⟨.iaddr 1 (.tmp 9) (.tmp 10), none, 0⟩, ⟨.load none (.loc 0), none, 0⟩, ⟨.iaddr 1 (.tmp 6) (.loc 0), none, 0⟩, ⟨.store 1 (.loc 0) (.const (.bool true)), none, 0⟩] [])
         (.region [⟨.iaddr 1 (.tmp 9) (.tmp 10), none, 0⟩, ⟨.load none (.loc 0), none, 0⟩, ⟨.mkarr 1 [(.int .i64 0)] [(0, 1, (.loc 0))], none, 0⟩, ⟨.append false 1 8 (.tmp 7) (.loc 0), none, 0⟩] [(7, (.loc 0))]))
        (.skip))))
      (.region [⟨.bin .add (.tmp 10) (.const (.int .i64 1)), none, 0⟩] [(10, (.loc 0))]))))))))
    (.region [⟨.bin .add (.tmp 8) (.const (.int .i64 1)), none, 0⟩] [(8, (.loc 0))]))))))
  (.seq (.region [] [(4, (.tmp 6))])
  (.ret))))))))⟩
theorem c57_ok : compileFn Try.prog false 57 = some c57 := by kernel_rfl
/-- louver/louverkit.KeptLabels -/
noncomputable def c60 : AFunc := ⟨[0, 1, 4, 5, 9], [.tmp 2],
  .seq (.region [] [(2, (.const (.bool false)))])
  (.seq (.seq (.region [⟨.call (.func 76) [(.tmp 0), (.tmp 1)], none, 0⟩, ⟨.not (.loc 0), none, 0⟩] [(4, (.loc 0))])
   (.cond (.tmp 4)
    (.seq (.region [] [(2, (.const (.bool false)))])
     (.ret))
    (.skip)))
  (.seq (.region [⟨.len (.tmp 0), none, 0⟩, ⟨.bin .add (.loc 0) (.const (.int .i64 1)), none, 0⟩, ⟨.slice 1 (.tmp 0) none (some (.loc 0)) none, none, 0⟩] [(3, (.loc 0))])
  (.seq (.region [⟨.len (.tmp 0), none, 0⟩, ⟨.iaddr 1 (.tmp 3) (.loc 0), none, 0⟩, ⟨.load none (.loc 0), none, 0⟩, ⟨.bin .eql (.loc 0) (.const (.int .u64 7171)), none, 0⟩] [(2, (.loc 0))])
  (.ret))))⟩
theorem c60_ok : compileFn Try.prog false 60 = some c60 := by kernel_rfl
/-- louver/louverkit.KeptCode -/
noncomputable def c61 : AFunc := ⟨[0, 1, 4, 5, 9], [.tmp 2],
  .seq (.region [] [(2, (.const (.bool false)))])
  (.seq (.seq (.region [⟨.call (.func 77) [(.tmp 0), (.tmp 1)], none, 0⟩, ⟨.not (.loc 0), none, 0⟩] [(4, (.loc 0))])
   (.cond (.tmp 4)
    (.seq (.region [] [(2, (.const (.bool false)))])
     (.ret))
    (.skip)))
  (.seq (.region [⟨.len (.tmp 0), none, 0⟩, ⟨.bin .add (.loc 0) (.const (.int .i64 1)), none, 0⟩, ⟨.slice 2 (.tmp 0) none (some (.loc 0)) none, none, 0⟩] [(3, (.loc 0))])
  (.seq (.region [⟨.len (.tmp 0), none, 0⟩, ⟨.iaddr 2 (.tmp 3) (.loc 0), none, 0⟩, ⟨.load (some 2) (.loc 0), none, 0⟩, ⟨.build [(.int .i64 0), (.int .i64 0)] [(0, 1, (.const (.int .i64 (-71))))], none, 0⟩, ⟨.flat (.bin .eql 34 (.tmp 19) (.tmp 20)) [(.loc 1), (.loc 0)], none, 0⟩] [(2, (.loc 0))])
  (.ret))))⟩
theorem c61_ok : compileFn Try.prog false 61 = some c61 := by kernel_rfl
/-- louver/post.All$1 -/
noncomputable def c62 : AFunc := ⟨[0, 1, 2, 4, 5, 6, 24], [.tmp 3],
  .seq (.region [] [(3, (.const (.slice none 0 0)))])
  (.seq (.region [⟨.load none (.tmp 1), none, 0⟩, ⟨.mkslice [(.bool false)] 1 (.loc 0) (.loc 0), none, 0⟩] [(4, (.loc 0))])
  (.seq (.seq (.region [] [(5, (.tmp 0))])
   (.block 0 (.loop (.seq (.seq (.region [⟨.bin .geq (.tmp 5) (.const (.int .i64 0)), none, 0⟩, ⟨.load none (.tmp 2), (some ((.loc 0), true)), 0⟩, ⟨.mov (.tmp 0), (some ((.loc 1), true)), 0⟩, ⟨.iaddr 1 (.loc 1) (.loc 0), (some ((.loc 2), true)), 0⟩, ⟨.load none (.loc 0), (some ((.loc 3), true)), 0⟩, ⟨.bin .geq (.loc 0) (.const (.int .i64 0)), (some ((.loc 4), true)), 0⟩, ⟨.mov (.loc 0), (some ((.loc 5), true)), 0⟩, ⟨.mov (.tmp 0), (some ((.loc 0), false)), 0⟩, ⟨.load none (.tmp 1), (some ((.loc 1), false)), 0⟩, ⟨.bin .sub (.loc 0) (.const (.int .i64 1)), (some ((.loc 2), false)), 0⟩, ⟨.bin .eql (.loc 2) (.loc 0), (some ((.loc 3), false)), 0⟩, ⟨.pick (.loc 4) (.const (.bool true)) (.loc 0), (some ((.loc 10), true)), 0⟩, ⟨.pick (.loc 11) (.loc 0) (.const (.bool false)), none, 0⟩] [(6, (.loc 0))])
     (.cond (.tmp 6)
      (.skip)
      (.exit 0)))
    (.seq (.block 1 (.region [⟨.iaddr 1 (.tmp 4) (.tmp 5), none, 0⟩, ⟨.store 1 (.loc 0) (.const (.bool true)), none, 0⟩] []))
    (.region [⟨.load none (.tmp 2), none, 0⟩, ⟨.iaddr 1 (.loc 0) (.tmp 5), none, 0⟩, ⟨.load none (.loc 0), none, 0⟩] [(5, (.loc 0))]))))))
  (.seq (.region [] [(3, (.tmp 4))])
  (.ret))))⟩
theorem c62_ok : compileFn Try.prog false 62 = some c62 := by kernel_rfl
/-- louver/louverref15.near -/
noncomputable def c65 : AFunc := ⟨[0, 1, 4, 5, 6, 7, 11, 26, 30, 54, 55], [.tmp 2],
  .seq (.region [] [(2, (.const (.int .i64 0)))])
  (.seq (.seq (.region [] [(3, (.const (.int .i64 0)))])
   (.block 0 (.loop (.seq (.seq (.region [⟨.len (.tmp 0), none, 0⟩, ⟨.bin .lss (.tmp 3) (.loc 0), none, 0⟩] [(6, (.loc 0))])
     (.cond (.tmp 6)
      (.skip)
      (.exit 0)))
    (.seq (.block 1 (.seq (.seq (.region [⟨.bin .eql (.tmp 3) (.tmp 1), none, 0⟩, ⟨.mov (.tmp 0), (some ((.loc 0), false)), 0⟩, ⟨.mov (.tmp 1), (some ((.loc 1), false)), 0⟩, ⟨.iaddr 1 (.loc 1) (.loc 0), (some ((.loc 2), false)), 0⟩, ⟨.load none (.loc 0), (some ((.loc 3), false)), 0⟩, ⟨.mov (.tmp 3), (some ((.loc 4), false)), 0⟩, ⟨.iaddr 1 (.loc 1) (.loc 0), (some ((.loc 5), false)), 0⟩, ⟨.load none (.loc 0), (some ((.loc 6), false)), 0⟩, ⟨.not (.loc 0), (some ((.loc 7), false)), 0⟩, ⟨.pick (.loc 8) (.const (.bool true)) (.loc 0), none, 0⟩] [(7, (.loc 0))])
      (.cond (.tmp 7)
       (.exit 1)
       (.skip)))
     (.seq (.region [] [(4, (.const (.bool true)))])
     (.seq (.seq (.region [] [(5, (.const (.int .i64 0)))])
      (.block 2 (.loop (.seq (.seq (.region [⟨.len (.tmp 0), none, 0⟩, ⟨.bin .lss (.tmp 5) (.loc 0), none, 0⟩] [(8, (.loc 0))])
        (.cond (.tmp 8)
         (.skip)
         (.exit 2)))
       (.seq (.block 3 (.seq (.region [⟨.bin .neq (.tmp 5) (.tmp 1), none, 0⟩, ⟨.mov (.tmp 0), (some ((.loc 0), true)), 0⟩, ⟨.mov (.tmp 1), (some ((.loc 1), true)), 0⟩, ⟨.iaddr 1 (.loc 1) (.loc 0), (some ((.loc 2), true)), 0⟩, ⟨.load none (.loc 0), (some ((.loc 3), true)), 0⟩, ⟨.mov (.tmp 5), (some ((.loc 4), true)), 0⟩, ⟨.iaddr 1 (.loc 1) (.loc 0), (some ((.loc 5), true)), 0⟩, ⟨.load none (.loc 0), (some ((.loc 6), true)), 0⟩, ⟨.pick (.loc 7) (.loc 0) (.const (.bool false)), none, 0⟩, ⟨.mov (.tmp 0), (some ((.loc 0), true)), 0⟩, ⟨.mov (.tmp 3), (some ((.loc 1), true)), 0⟩, ⟨.iaddr 1 (.loc 1) (.loc 0), (some ((.loc 2), true)), 0⟩, ⟨.load none (.loc 0), (some ((.loc 3), true)), 0⟩, ⟨.mov (.tmp 5), (some ((.loc 4), true)), 0⟩, ⟨.iaddr 1 (.loc 1) (.loc 0), (some ((.loc 5), true)), 0⟩, ⟨.load none (.loc 0), (some ((.loc 6), true)), 0⟩, ⟨.not (.loc 0), (some ((.loc 7), true)), 0⟩, ⟨.pick (.loc 8) (.loc 0) (.const (.bool false)), none, 0⟩] [(9, (.loc 0))])
        (.cond (.tmp 9)
         (.region [] [(4, (.const (.bool false)))])
         (.skip))))
       (.region [⟨.bin .add (.tmp 5) (.const (.int .i64 1)), none, 0⟩] [(5, (.loc 0))]))))))
     (.seq (.region [] [(10, (.tmp 4))])
     (.cond (.tmp 10)
      (.seq (.region [] [(2, (.tmp 3))])
       (.ret))
      (.skip)))))))
    (.region [⟨.bin .add (.tmp 3) (.const (.int .i64 1)), none, 0⟩] [(3, (.loc 0))]))))))
  (.seq (.region [] [(2, (.const (.int .i64 (-1))))])
  (.ret)))⟩
theorem c65_ok : compileFn Try.prog false 65 = some c65 := by kernel_rfl
/-- louver/louverkit.Labels -/
noncomputable def c76 : AFunc := ⟨[0, 1, 4, 5, 10, 14, 25], [.tmp 2],
  .seq (.region [] [(2, (.const (.bool false)))])
  (.seq (.seq (.region [⟨.len (.tmp 0), none, 0⟩, ⟨.len (.tmp 1), none, 0⟩, ⟨.bin .neq (.loc 1) (.loc 0), none, 0⟩] [(4, (.loc 0))])
   (.cond (.tmp 4)
    (.seq (.region [] [(2, (.const (.bool false)))])
     (.ret))
    (.skip)))
  (.seq (.seq (.region [] [(3, (.const (.int .i64 0)))])
   (.block 0 (.loop (.seq (.seq (.region [⟨.len (.tmp 0), none, 0⟩, ⟨.bin .lss (.tmp 3) (.loc 0), none, 0⟩] [(5, (.loc 0))])
     (.cond (.tmp 5)
      (.skip)
      (.exit 0)))
    (.seq (.block 1 (.seq (.draw [⟨.iaddr 1 (.tmp 0) (.tmp 3), none, 0⟩, ⟨.load none (.loc 0), none, 0⟩, ⟨.iaddr 1 (.tmp 1) (.tmp 3), none, 0⟩, ⟨.load none (.loc 0), none, 0⟩, ⟨.bin .neq (.loc 2) (.loc 0), none, 0⟩] [(6, (.loc 0))])
     (.cond (.tmp 6)
      (.seq (.region [] [(2, (.const (.bool false)))])
       (.ret))
      (.skip))))
    (.region [⟨.bin .add (.tmp 3) (.const (.int .i64 1)), none, 0⟩] [(3, (.loc 0))]))))))
  (.seq (.region [] [(2, (.const (.bool true)))])
  (.ret))))⟩
theorem c76_ok : compileFn Try.prog false 76 = some c76 := by kernel_rfl
/-- louver/louverkit.Code -/
noncomputable def c77 : AFunc := ⟨[0, 1, 4, 5, 10, 14, 25], [.tmp 2],
  .seq (.region [] [(2, (.const (.bool false)))])
  (.seq (.seq (.region [⟨.len (.tmp 0), none, 0⟩, ⟨.len (.tmp 1), none, 0⟩, ⟨.bin .neq (.loc 1) (.loc 0), none, 0⟩] [(4, (.loc 0))])
   (.cond (.tmp 4)
    (.seq (.region [] [(2, (.const (.bool false)))])
     (.ret))
    (.skip)))
  (.seq (.seq (.region [] [(3, (.const (.int .i64 0)))])
   (.block 0 (.loop (.seq (.seq (.region [⟨.len (.tmp 0), none, 0⟩, ⟨.bin .lss (.tmp 3) (.loc 0), none, 0⟩] [(5, (.loc 0))])
     (.cond (.tmp 5)
      (.skip)
      (.exit 0)))
    (.seq (.block 1 (.seq (.draw [⟨.iaddr 2 (.tmp 0) (.tmp 3), none, 0⟩, ⟨.load (some 2) (.loc 0), none, 0⟩, ⟨.iaddr 2 (.tmp 1) (.tmp 3), none, 0⟩, ⟨.load (some 2) (.loc 0), none, 0⟩, ⟨.flat (.bin .neq 34 (.tmp 20) (.tmp 24)) [(.loc 2), (.loc 0)], none, 0⟩] [(6, (.loc 0))])
     (.cond (.tmp 6)
      (.seq (.region [] [(2, (.const (.bool false)))])
       (.ret))
      (.skip))))
    (.region [⟨.bin .add (.tmp 3) (.const (.int .i64 1)), none, 0⟩] [(3, (.loc 0))]))))))
  (.seq (.region [] [(2, (.const (.bool true)))])
  (.ret))))⟩
theorem c77_ok : compileFn Try.prog false 77 = some c77 := by kernel_rfl
noncomputable def list : List (Option AFunc) := [none, none, none, none, none, none, none, some c7, none, none, none, none, none, some c13, some PostAwake.c14, some c15, some GraphAwake.c16, none, none, none, some GraphAwake.c20, none, some c22, none, none, some c25, some c26, none, none, none, none, some c31, some c32, some PostAwake.c33, some c34, some c35, some c36, some PostAwake.c37, some c38, some c39, none, none, none, none, none, none, none, some c47, some c48, some GraphAwake.c49, some PostAwake.c50, some GraphAwake.c51, none, none, none, none, none, some c57, none, none, some c60, some c61, some c62, some PostAwake.c63, some PostAwake.c64, some c65, some PostAwake.c66, none, none, none, none, none, none, none, some GraphAwake.c74, some GraphAwake.c75, some c76, some c77, some PostAwake.c78]
noncomputable def fns : TV (Option AFunc) := Vec.ofList list
def none1 (args : List Value) (H : AH TV) : Option (Value × AH TV) := match args with | [] => some (.bool true, H) | _ => none
noncomputable def ext (f : FuncId) (args : List Value) (H : AH TV) : Option (Value × AH TV) := bif Nat.beq f 30 then none1 args H else none
noncomputable def E : Env TV := { P := Try.prog, fn := fun f => (Vec.get fns f).getD none, ext := ext }
theorem all_ok : OkFrom Try.prog 0 list := ⟨⟨false, c7_ok⟩, ⟨⟨false, c13_ok⟩, ⟨⟨false, PostAwake.c14_ok⟩, ⟨⟨false, c15_ok⟩, ⟨⟨false, GraphAwake.c16_ok⟩, ⟨⟨false, GraphAwake.c20_ok⟩, ⟨⟨false, c22_ok⟩, ⟨⟨false, c25_ok⟩, ⟨⟨false, c26_ok⟩, ⟨⟨false, c31_ok⟩, ⟨⟨false, c32_ok⟩, ⟨⟨false, PostAwake.c33_ok⟩, ⟨⟨false, c34_ok⟩, ⟨⟨false, c35_ok⟩, ⟨⟨false, c36_ok⟩, ⟨⟨false, PostAwake.c37_ok⟩, ⟨⟨false, c38_ok⟩, ⟨⟨false, c39_ok⟩, ⟨⟨false, c47_ok⟩, ⟨⟨false, c48_ok⟩, ⟨⟨false, GraphAwake.c49_ok⟩, ⟨⟨false, PostAwake.c50_ok⟩, ⟨⟨false, GraphAwake.c51_ok⟩, ⟨⟨false, c57_ok⟩, ⟨⟨false, c60_ok⟩, ⟨⟨false, c61_ok⟩, ⟨⟨false, c62_ok⟩, ⟨⟨false, PostAwake.c63_ok⟩, ⟨⟨false, PostAwake.c64_ok⟩, ⟨⟨false, c65_ok⟩, ⟨⟨false, PostAwake.c66_ok⟩, ⟨⟨false, GraphAwake.c74_ok⟩, ⟨⟨false, GraphAwake.c75_ok⟩, ⟨⟨false, c76_ok⟩, ⟨⟨false, c77_ok⟩, ⟨⟨false, PostAwake.c78_ok⟩, trivial⟩⟩⟩⟩⟩⟩⟩⟩⟩⟩⟩⟩⟩⟩⟩⟩⟩⟩⟩⟩⟩⟩⟩⟩⟩⟩⟩⟩⟩⟩⟩⟩⟩⟩⟩⟩
theorem ext_ok (f : FuncId) (args : List Value) (H : AH TV) (v : Value) (H' : AH TV) (h : ext f args H = some (v, H')) : CallsOk Try.prog f args H v H' := by
  unfold ext at h
  cases hb : Nat.beq f 30 with
  | true =>
    have hf : f = 30 := Nat.eq_of_beq_eq_true hb
    rw [hb] at h
    cases args with
    | nil =>
      simp only [none1, cond_true, Option.some.injEq, Prod.mk.injEq] at h
      obtain ⟨rfl, rfl⟩ := h
      rw [hf]
      exact closed_ok PostAwake.env_ok PostAwake.run rfl H
    | cons a r => cases h
  | false =>
  rw [hb] at h
  cases h
theorem env_ok : EnvOk E := ⟨fun f fn h => fn_of all_ok h, ext_ok, draw_ok (by kernel_rfl)⟩
end Go.Proofs.Ytdbehmepikhghaa.Graph
