/- The functions that louver/louverlaw16.RegionRises,louver/louverlaw16.RegionLevels,louver/louverlaw16.RegionClosed reaches, compiled; that each is what 'compileFn' comes to. PRINTED by code.py. -/
import Derived.Test.YtollibkfagjnaaaAMb
import Derived.Test.YtollibkfagjnaaaRegionAwakeRun
import Derived.Test.YtollibkfagjnaaaRegionAwakeCode
import Derived.Test.YtollibkfagjnaaaProg
import Derived.KernelRfl
set_option linter.unusedVariables false
set_option maxRecDepth 100000
namespace Go.Proofs.Ytollibkfagjnaaa.Graph
open Go.Proofs.Ytollibkfagjnaaa.AM
/-- louver/louverlaw16.RegionLevels -/
noncomputable def c8 : AFunc := ⟨[0, 1, 2, 3, 6, 7, 8, 9, 10, 11, 15], [.tmp 4],
  .seq (.region [⟨.box (.tmp 0), none, 0⟩] [(3, (.loc 0)), (4, (.const (.bool false)))])
  (.seq (.seq (.region [⟨.faddr 5 (.tmp 3), none, 0⟩, ⟨.load none (.loc 0), none, 0⟩, ⟨.len (.loc 0), none, 0⟩, ⟨.bin .gtr (.loc 0) (.const (.int .i64 40)), none, 0⟩] [(10, (.loc 0))])
   (.cond (.tmp 10)
    (.seq (.region [⟨.call (.func 34) [], none, 0⟩] [(4, (.loc 0))])
     (.ret))
    (.skip)))
  (.seq (.region [⟨.load (some 6) (.tmp 3), none, 0⟩, ⟨.call (.func 35) [(.loc 0)], none, 0⟩, ⟨.alloc [(.int .u64 0), (.slice none 0 0), (.slice none 0 0), (.int .i64 0), (.int .i64 0), (.slice none 0 0)], none, 0⟩, ⟨.store 6 (.loc 0) (.loc 1), none, 0⟩] [(5, (.loc 1))])
  (.seq (.region [⟨.call (.func 36) [(.tmp 2)], none, 0⟩] [(6, (.loc 0))])
  (.seq (.region [⟨.load (some 6) (.tmp 5), none, 0⟩, ⟨.call (.func 37) [(.loc 0), (.tmp 1), (.tmp 6)], none, 0⟩] [(7, (.loc 0))])
  (.seq (.region [⟨.load (some 6) (.tmp 5), none, 0⟩, ⟨.call (.func 37) [(.loc 0), (.tmp 1), (.tmp 6)], none, 0⟩] [(8, (.loc 0))])
  (.seq (.region [⟨.load (some 6) (.tmp 3), none, 0⟩, ⟨.call (.func 38) [(.loc 0), (.tmp 1), (.tmp 2)], none, 0⟩] [(9, (.loc 0))])
  (.seq (.region [⟨.call (.func 39) [(.tmp 7), (.tmp 9)], none, 0⟩, ⟨.mov (.tmp 8), (some ((.loc 0), true)), 0⟩, ⟨.mov (.tmp 9), (some ((.loc 1), true)), 0⟩, ⟨.call (.func 39) [(.loc 1), (.loc 0)], (some ((.loc 2), true)), 0⟩, ⟨.pick (.loc 3) (.loc 0) (.const (.bool false)), none, 0⟩, ⟨.load (some 6) (.tmp 5), (some ((.loc 0), true)), 0⟩, ⟨.load (some 6) (.tmp 3), (some ((.loc 1), true)), 0⟩, ⟨.call (.func 40) [(.loc 1), (.loc 0)], (some ((.loc 2), true)), 0⟩, ⟨.pick (.loc 3) (.loc 0) (.const (.bool false)), none, 0⟩, ⟨.mov (.tmp 6), (some ((.loc 0), true)), 0⟩, ⟨.mov (.tmp 2), (some ((.loc 1), true)), 0⟩, ⟨.call (.func 41) [(.loc 1), (.loc 0)], (some ((.loc 2), true)), 0⟩, ⟨.pick (.loc 3) (.loc 0) (.const (.bool false)), none, 0⟩, ⟨.mov (.tmp 7), (some ((.loc 0), true)), 0⟩, ⟨.mov (.tmp 8), (some ((.loc 1), true)), 0⟩, ⟨.mkarr 2 [(.slice none 0 0), (.slice none 0 0)] [(0, 1, (.loc 1)), (1, 1, (.loc 0))], (some ((.loc 2), true)), 0⟩, ⟨.call (.func 29) [(.loc 0)], (some ((.loc 3), true)), 0⟩, ⟨.pick (.loc 4) (.loc 0) (.const (.bool false)), none, 0⟩, ⟨.call (.func 34) [], (some ((.loc 0), true)), 0⟩, ⟨.pick (.loc 1) (.loc 0) (.const (.bool false)), none, 0⟩] [(4, (.loc 0))])
  (.ret))))))))⟩
theorem c8_ok : compileFn Try.prog false 8 = some c8 := by kernel_rfl
/-- louver/louverlaw16.RegionRises -/
noncomputable def c11 : AFunc := ⟨[0, 1, 2, 3, 4, 5, 10, 11, 12, 13, 14, 15, 16, 17, 18, 19, 28, 37, 40, 50, 59, 74, 85, 103, 129], [.tmp 6],
  .seq (.region [⟨.box (.tmp 0), none, 0⟩] [(5, (.loc 0)), (6, (.const (.bool false)))])
  (.seq (.region [⟨.faddr 5 (.tmp 5), none, 0⟩, ⟨.load none (.loc 0), none, 0⟩, ⟨.len (.loc 0), none, 0⟩] [(7, (.loc 0))])
  (.seq (.seq (.region [⟨.bin .gtr (.tmp 7) (.const (.int .i64 40)), none, 0⟩, ⟨.call (.func 34) [], (some ((.loc 0), false)), 0⟩, ⟨.not (.loc 0), (some ((.loc 1), false)), 0⟩, ⟨.pick (.loc 2) (.const (.bool true)) (.loc 0), none, 0⟩] [(16, (.loc 0))])
   (.cond (.tmp 16)
    (.seq (.region [⟨.call (.func 34) [], none, 0⟩] [(6, (.loc 0))])
     (.ret))
    (.skip)))
  (.seq (.region [⟨.load (some 6) (.tmp 5), none, 0⟩, ⟨.call (.func 37) [(.loc 0), (.tmp 1), (.tmp 2)], none, 0⟩] [(8, (.loc 0))])
  (.seq (.seq (.region [⟨.len (.tmp 8), none, 0⟩, ⟨.bin .neq (.loc 0) (.tmp 7), none, 0⟩] [(17, (.loc 0))])
   (.cond (.tmp 17)
    (.seq (.region [] [(6, (.const (.bool false)))])
     (.ret))
    (.skip)))
  (.seq (.seq (.region [] [(9, (.const (.int .i64 0)))])
   (.block 0 (.loop (.seq (.seq (.region [⟨.bin .lss (.tmp 9) (.tmp 7), none, 0⟩] [(18, (.loc 0))])
     (.cond (.tmp 18)
      (.skip)
      (.exit 0)))
    (.seq (.block 1 (.seq (.region [] [(10, (.tmp 1))])
     (.seq (.region [⟨.load (some 6) (.tmp 5), none, 0⟩, ⟨.call (.func 43) [(.loc 0), (.tmp 9)], none, 0⟩] [(11, (.loc 0))])
     (.seq (.seq (.region [] [(12, (.const (.int .i64 0)))])
      (.block 2 (.loop (.seq (.seq (.region [⟨.len (.tmp 11), none, 0⟩, ⟨.bin .lss (.tmp 12) (.loc 0), none, 0⟩] [(19, (.loc 0))])
        (.cond (.tmp 19)
         (.skip)
         (.exit 2)))
       (.seq (.block 3 (.seq (.region [⟨.iaddr 1 (.tmp 11) (.tmp 12), none, 0⟩, ⟨.load none (.loc 0), none, 0⟩, ⟨.len (.tmp 2), none, 0⟩, ⟨.bin .lss (.loc 1) (.loc 0), none, 0⟩] [(20, (.loc 0))])
        (.cond (.tmp 20)
         (.region [⟨.iaddr 1 (.tmp 11) (.tmp 12), none, 0⟩, ⟨.load none (.loc 0), none, 0⟩, ⟨.iaddr 1 (.tmp 2) (.loc 0), none, 0⟩, ⟨.load none (.loc 0), none, 0⟩, ⟨.bin .or (.tmp 10) (.loc 0), none, 0⟩] [(10, (.loc 0))])
         (.skip))))
       (.region [⟨.bin .add (.tmp 12) (.const (.int .i64 1)), none, 0⟩] [(12, (.loc 0))]))))))
     (.seq (.region [⟨.iaddr 1 (.tmp 8) (.tmp 9), none, 0⟩, ⟨.load none (.loc 0), none, 0⟩, ⟨.bin .neq (.loc 0) (.tmp 10), none, 0⟩] [(21, (.loc 0))])
     (.cond (.tmp 21)
      (.seq (.region [] [(6, (.const (.bool false)))])
       (.ret))
      (.skip)))))))
    (.region [⟨.bin .add (.tmp 9) (.const (.int .i64 1)), none, 0⟩] [(9, (.loc 0))]))))))
  (.seq (.region [] [(13, (.const (.slice none 0 0)))])
  (.seq (.region [⟨.append false 1 8 (.tmp 13) (.tmp 2), none, 0⟩] [(13, (.loc 0))])
  (.seq (.seq (.region [⟨.bin .geq (.tmp 3) (.const (.int .i64 0)), none, 0⟩, ⟨.mov (.tmp 3), (some ((.loc 0), true)), 0⟩, ⟨.mov (.tmp 13), (some ((.loc 1), true)), 0⟩, ⟨.len (.loc 0), (some ((.loc 2), true)), 0⟩, ⟨.bin .lss (.loc 2) (.loc 0), (some ((.loc 3), true)), 0⟩, ⟨.pick (.loc 4) (.loc 0) (.const (.bool false)), none, 0⟩] [(22, (.loc 0))])
   (.cond (.tmp 22)
    (.region [⟨.iaddr 1 (.tmp 13) (.tmp 3), none, 0⟩, ⟨.load none (.loc 0), none, 0⟩, ⟨.bin .or (.loc 0) (.tmp 4), none, 0⟩, ⟨.iaddr 1 (.tmp 13) (.tmp 3), none, 0⟩, ⟨.store 1 (.loc 0) (.loc 1), none, 0⟩] [])
    (.skip)))
  (.seq (.region [⟨.load (some 6) (.tmp 5), none, 0⟩, ⟨.bin .or (.tmp 1) (.tmp 4), none, 0⟩, ⟨.call (.func 37) [(.loc 1), (.loc 0), (.tmp 13)], none, 0⟩] [(14, (.loc 0))])
  (.seq (.seq (.region [] [(15, (.const (.int .i64 0)))])
   (.block 4 (.loop (.seq (.seq (.region [⟨.bin .lss (.tmp 15) (.tmp 7), none, 0⟩] [(23, (.loc 0))])
     (.cond (.tmp 23)
      (.skip)
      (.exit 4)))
    (.seq (.block 5 (.seq (.draw [⟨.iaddr 1 (.tmp 8) (.tmp 15), none, 0⟩, ⟨.load none (.loc 0), none, 0⟩, ⟨.iaddr 1 (.tmp 14) (.tmp 15), none, 0⟩, ⟨.load none (.loc 0), none, 0⟩, ⟨.bin .andNot (.loc 2) (.loc 0), none, 0⟩, ⟨.bin .neq (.loc 0) (.const (.int .u64 0)), none, 0⟩, ⟨.mov (.tmp 14), (some ((.loc 0), false)), 0⟩, ⟨.mov (.tmp 15), (some ((.loc 1), false)), 0⟩, ⟨.iaddr 1 (.loc 1) (.loc 0), (some ((.loc 2), false)), 0⟩, ⟨.load none (.loc 0), (some ((.loc 3), false)), 0⟩, ⟨.mov (.tmp 8), (some ((.loc 4), false)), 0⟩, ⟨.mov (.tmp 15), (some ((.loc 5), false)), 0⟩, ⟨.iaddr 1 (.loc 1) (.loc 0), (some ((.loc 6), false)), 0⟩, ⟨.load none (.loc 0), (some ((.loc 7), false)), 0⟩, ⟨.mov (.tmp 4), (some ((.loc 8), false)), 0⟩, ⟨.bin .or (.loc 1) (.loc 0), (some ((.loc 9), false)), 0⟩, ⟨.bin .andNot (.loc 6) (.loc 0), (some ((.loc 10), false)), 0⟩, ⟨.bin .neq (.loc 0) (.const (.int .u64 0)), (some ((.loc 11), false)), 0⟩, ⟨.pick (.loc 12) (.const (.bool true)) (.loc 0), none, 0⟩] [(24, (.loc 0))])
     (.cond (.tmp 24)
      (.seq (.region [] [(6, (.const (.bool false)))])
       (.ret))
      (.skip))))
    (.region [⟨.bin .add (.tmp 15) (.const (.int .i64 1)), none, 0⟩] [(15, (.loc 0))]))))))
  (.seq (.region [] [(6, (.const (.bool true)))])
  (.ret))))))))))))⟩
theorem c11_ok : compileFn Try.prog false 11 = some c11 := by kernel_rfl
/-- louver/louverlaw16.RegionClosed -/
noncomputable def c12 : AFunc := ⟨[0, 1, 2, 3, 5, 6, 7, 8, 9, 10, 11, 12, 13, 14, 15, 16, 25, 34, 50, 53, 54, 62, 80, 84, 101, 105, 132, 164, 174, 191], [.tmp 2],
  .seq (.region [⟨.box (.tmp 0), none, 0⟩] [(1, (.loc 0)), (2, (.const (.bool false)))])
  (.seq (.region [⟨.faddr 5 (.tmp 1), none, 0⟩, ⟨.load none (.loc 0), none, 0⟩, ⟨.len (.loc 0), none, 0⟩] [(3, (.loc 0))])
  (.seq (.seq (.region [⟨.bin .gtr (.tmp 3) (.const (.int .i64 40)), none, 0⟩, ⟨.call (.func 34) [], (some ((.loc 0), false)), 0⟩, ⟨.not (.loc 0), (some ((.loc 1), false)), 0⟩, ⟨.pick (.loc 2) (.const (.bool true)) (.loc 0), none, 0⟩] [(16, (.loc 0))])
   (.cond (.tmp 16)
    (.seq (.region [⟨.call (.func 34) [], none, 0⟩] [(2, (.loc 0))])
     (.ret))
    (.skip)))
  (.seq (.region [⟨.load (some 6) (.tmp 1), none, 0⟩, ⟨.call (.func 48) [(.loc 0)], none, 0⟩, ⟨.ext (.loc 0) 0, none, 0⟩, ⟨.ext (.loc 1) 1, none, 0⟩] [(4, (.loc 0))])
  (.seq (.seq (.region [] [(5, (.const (.int .i64 0)))])
   (.block 0 (.loop (.seq (.seq (.region [⟨.bin .lss (.tmp 5) (.tmp 3), none, 0⟩] [(17, (.loc 0))])
     (.cond (.tmp 17)
      (.skip)
      (.exit 0)))
    (.seq (.block 1 (.seq (.region [⟨.load (some 6) (.tmp 1), none, 0⟩, ⟨.call (.func 42) [(.loc 0), (.tmp 5)], none, 0⟩] [(6, (.loc 0))])
     (.seq (.region [⟨.load (some 6) (.tmp 1), none, 0⟩, ⟨.call (.func 49) [(.loc 0), (.tmp 5)], none, 0⟩, ⟨.ext (.loc 0) 0, none, 0⟩, ⟨.ext (.loc 1) 1, none, 0⟩] [(7, (.loc 1)), (8, (.loc 0))])
     (.seq (.region [⟨.load (some 6) (.tmp 1), none, 0⟩, ⟨.call (.func 32) [(.loc 0), (.tmp 5)], none, 0⟩] [(9, (.loc 0))])
     (.seq (.seq (.region [⟨.not (.tmp 8), none, 0⟩] [(18, (.loc 0))])
      (.cond (.tmp 18)
       (.seq (.seq (.region [⟨.len (.tmp 6), none, 0⟩, ⟨.bin .gtr (.loc 0) (.const (.int .i64 0)), none, 0⟩] [(19, (.loc 0))])
         (.cond (.tmp 19)
          (.seq (.region [] [(2, (.const (.bool false)))])
           (.ret))
          (.skip)))
        (.exit 1))
       (.skip)))
     (.seq (.seq (.region [] [(20, (.tmp 4))])
      (.cond (.tmp 20)
       (.seq (.seq (.region [⟨.call (.func 50) [(.tmp 6), (.tmp 7)], none, 0⟩, ⟨.mov (.tmp 6), (some ((.loc 0), false)), 0⟩, ⟨.mov (.tmp 3), (some ((.loc 1), false)), 0⟩, ⟨.call (.func 50) [(.loc 1), (.loc 0)], (some ((.loc 2), false)), 0⟩, ⟨.pick (.loc 3) (.const (.bool true)) (.loc 0), none, 0⟩] [(21, (.loc 0))])
         (.cond (.tmp 21)
          (.seq (.region [] [(2, (.const (.bool false)))])
           (.ret))
          (.skip)))
        (.exit 1))
       (.skip)))
     (.seq (.seq (.region [⟨.len (.tmp 9), none, 0⟩, ⟨.bin .eql (.loc 0) (.const (.int .i64 1)), none, 0⟩, ⟨.mov (.tmp 6), (some ((.loc 0), true)), 0⟩, ⟨.len (.loc 0), (some ((.loc 1), true)), 0⟩, ⟨.bin .gtr (.loc 0) (.const (.int .i64 0)), (some ((.loc 2), true)), 0⟩, ⟨.pick (.loc 3) (.loc 0) (.const (.bool false)), none, 0⟩, ⟨.mov (.tmp 6), (some ((.loc 0), false)), 0⟩, ⟨.mov (.tmp 7), (some ((.loc 1), false)), 0⟩, ⟨.call (.func 50) [(.loc 1), (.loc 0)], (some ((.loc 2), false)), 0⟩, ⟨.pick (.loc 3) (.const (.bool true)) (.loc 0), none, 0⟩, ⟨.mov (.tmp 6), (some ((.loc 0), false)), 0⟩, ⟨.mov (.tmp 3), (some ((.loc 1), false)), 0⟩, ⟨.call (.func 50) [(.loc 1), (.loc 0)], (some ((.loc 2), false)), 0⟩, ⟨.pick (.loc 3) (.const (.bool true)) (.loc 0), none, 0⟩] [(22, (.loc 0))])
      (.cond (.tmp 22)
       (.seq (.region [] [(2, (.const (.bool false)))])
        (.ret))
       (.skip)))
     (.seq (.seq (.region [] [(10, (.const (.int .i64 0)))])
      (.block 2 (.loop (.seq (.seq (.region [⟨.len (.tmp 9), none, 0⟩, ⟨.bin .lss (.tmp 10) (.loc 0), none, 0⟩] [(23, (.loc 0))])
        (.cond (.tmp 23)
         (.skip)
         (.exit 2)))
       (.seq (.block 3 (.seq (.region [⟨.iaddr 1 (.tmp 9) (.tmp 10), none, 0⟩, ⟨.load none (.loc 0), none, 0⟩, ⟨.bin .neq (.loc 0) (.tmp 7), none, 0⟩, ⟨.mov (.tmp 6), (some ((.loc 0), true)), 0⟩, ⟨.mov (.tmp 9), (some ((.loc 1), true)), 0⟩, ⟨.mov (.tmp 10), (some ((.loc 2), true)), 0⟩, ⟨.iaddr 1 (.loc 1) (.loc 0), (some ((.loc 3), true)), 0⟩, ⟨.load none (.loc 0), (some ((.loc 4), true)), 0⟩, ⟨.call (.func 50) [(.loc 4), (.loc 0)], (some ((.loc 5), true)), 0⟩, ⟨.not (.loc 0), (some ((.loc 6), true)), 0⟩, ⟨.pick (.loc 7) (.loc 0) (.const (.bool false)), none, 0⟩] [(24, (.loc 0))])
        (.cond (.tmp 24)
         (.seq (.region [] [(2, (.const (.bool false)))])
          (.ret))
         (.skip))))
       (.region [⟨.bin .add (.tmp 10) (.const (.int .i64 1)), none, 0⟩] [(10, (.loc 0))]))))))
     (.seq (.region [] [(11, (.const (.int .i64 0)))])
     (.block 4 (.loop (.seq (.seq (.region [⟨.len (.tmp 6), none, 0⟩, ⟨.bin .lss (.tmp 11) (.loc 0), none, 0⟩] [(25, (.loc 0))])
       (.cond (.tmp 25)
        (.skip)
        (.exit 4)))
      (.seq (.block 5 (.seq (.seq (.draw [⟨.bin .gtr (.tmp 11) (.const (.int .i64 0)), none, 0⟩, ⟨.mov (.tmp 6), (some ((.loc 0), true)), 0⟩, ⟨.mov (.tmp 11), (some ((.loc 1), true)), 0⟩, ⟨.iaddr 1 (.loc 1) (.loc 0), (some ((.loc 2), true)), 0⟩, ⟨.load none (.loc 0), (some ((.loc 3), true)), 0⟩, ⟨.mov (.tmp 6), (some ((.loc 4), true)), 0⟩, ⟨.mov (.tmp 11), (some ((.loc 5), true)), 0⟩, ⟨.bin .sub (.loc 0) (.const (.int .i64 1)), (some ((.loc 6), true)), 0⟩, ⟨.iaddr 1 (.loc 2) (.loc 0), (some ((.loc 7), true)), 0⟩, ⟨.load none (.loc 0), (some ((.loc 8), true)), 0⟩, ⟨.bin .leq (.loc 5) (.loc 0), (some ((.loc 9), true)), 0⟩, ⟨.pick (.loc 10) (.loc 0) (.const (.bool false)), none, 0⟩, ⟨.load (some 6) (.tmp 1), (some ((.loc 0), false)), 0⟩, ⟨.mov (.tmp 6), (some ((.loc 1), false)), 0⟩, ⟨.mov (.tmp 11), (some ((.loc 2), false)), 0⟩, ⟨.iaddr 1 (.loc 1) (.loc 0), (some ((.loc 3), false)), 0⟩, ⟨.load none (.loc 0), (some ((.loc 4), false)), 0⟩, ⟨.call (.func 43) [(.loc 4), (.loc 0)], (some ((.loc 5), false)), 0⟩, ⟨.mov (.tmp 5), (some ((.loc 6), false)), 0⟩, ⟨.call (.func 50) [(.loc 1), (.loc 0)], (some ((.loc 7), false)), 1⟩, ⟨.not (.loc 0), (some ((.loc 8), false)), 2⟩, ⟨.pick (.loc 9) (.const (.bool true)) (.loc 0), none, 2⟩] [(26, (.loc 0))])
        (.cond (.tmp 26)
         (.seq (.region [] [(2, (.const (.bool false)))])
          (.ret))
         (.skip)))
       (.seq (.draw [⟨.load (some 6) (.tmp 1), none, 0⟩, ⟨.iaddr 1 (.tmp 6) (.tmp 11), none, 0⟩, ⟨.load none (.loc 0), none, 0⟩, ⟨.call (.func 49) [(.loc 2), (.loc 0)], none, 0⟩, ⟨.ext (.loc 0) 0, none, 1⟩, ⟨.ext (.loc 1) 1, none, 1⟩] [(12, (.loc 1)), (13, (.loc 0))])
       (.seq (.seq (.draw [⟨.not (.tmp 13), none, 0⟩, ⟨.mov (.tmp 12), (some ((.loc 0), false)), 0⟩, ⟨.mov (.tmp 7), (some ((.loc 1), false)), 0⟩, ⟨.bin .neq (.loc 1) (.loc 0), (some ((.loc 2), false)), 0⟩, ⟨.mov (.loc 0), (some ((.loc 3), false)), 0⟩, ⟨.mov (.tmp 6), (some ((.loc 0), true)), 0⟩, ⟨.mov (.tmp 12), (some ((.loc 1), true)), 0⟩, ⟨.call (.func 50) [(.loc 1), (.loc 0)], (some ((.loc 2), true)), 0⟩, ⟨.not (.loc 0), (some ((.loc 3), true)), 1⟩, ⟨.pick (.loc 4) (.loc 0) (.const (.bool false)), (some ((.loc 8), false)), 1⟩, ⟨.pick (.loc 9) (.const (.bool true)) (.loc 0), none, 1⟩, ⟨.load (some 6) (.tmp 1), (some ((.loc 0), false)), 1⟩, ⟨.mov (.tmp 7), (some ((.loc 1), false)), 1⟩, ⟨.mov (.tmp 6), (some ((.loc 2), false)), 1⟩, ⟨.mov (.tmp 11), (some ((.loc 3), false)), 1⟩, ⟨.iaddr 1 (.loc 1) (.loc 0), (some ((.loc 4), false)), 1⟩, ⟨.load none (.loc 0), (some ((.loc 5), false)), 1⟩, ⟨.call (.func 51) [(.loc 5), (.loc 4), (.loc 0)], (some ((.loc 6), false)), 1⟩, ⟨.not (.loc 0), (some ((.loc 7), false)), 2⟩, ⟨.pick (.loc 8) (.const (.bool true)) (.loc 0), none, 2⟩] [(27, (.loc 0))])
        (.cond (.tmp 27)
         (.seq (.region [] [(2, (.const (.bool false)))])
          (.ret))
         (.skip)))
       (.seq (.draw [⟨.load (some 6) (.tmp 1), none, 0⟩, ⟨.iaddr 1 (.tmp 6) (.tmp 11), none, 0⟩, ⟨.load none (.loc 0), none, 0⟩, ⟨.call (.func 32) [(.loc 2), (.loc 0)], none, 0⟩] [(14, (.loc 0))])
       (.seq (.region [] [(15, (.const (.int .i64 0)))])
       (.block 6 (.loop (.seq (.seq (.region [⟨.len (.tmp 14), none, 0⟩, ⟨.bin .lss (.tmp 15) (.loc 0), none, 0⟩] [(28, (.loc 0))])
         (.cond (.tmp 28)
          (.skip)
          (.exit 6)))
        (.seq (.block 7 (.seq (.region [⟨.iaddr 1 (.tmp 14) (.tmp 15), none, 0⟩, ⟨.load none (.loc 0), none, 0⟩, ⟨.bin .neq (.loc 0) (.tmp 7), none, 0⟩, ⟨.mov (.tmp 6), (some ((.loc 0), true)), 0⟩, ⟨.mov (.tmp 14), (some ((.loc 1), true)), 0⟩, ⟨.mov (.tmp 15), (some ((.loc 2), true)), 0⟩, ⟨.iaddr 1 (.loc 1) (.loc 0), (some ((.loc 3), true)), 0⟩, ⟨.load none (.loc 0), (some ((.loc 4), true)), 0⟩, ⟨.call (.func 50) [(.loc 4), (.loc 0)], (some ((.loc 5), true)), 0⟩, ⟨.not (.loc 0), (some ((.loc 6), true)), 0⟩, ⟨.pick (.loc 7) (.loc 0) (.const (.bool false)), none, 0⟩] [(29, (.loc 0))])
         (.cond (.tmp 29)
          (.seq (.region [] [(2, (.const (.bool false)))])
           (.ret))
          (.skip))))
        (.region [⟨.bin .add (.tmp 15) (.const (.int .i64 1)), none, 0⟩] [(15, (.loc 0))])))))))))))
      (.region [⟨.bin .add (.tmp 11) (.const (.int .i64 1)), none, 0⟩] [(11, (.loc 0))]))))))))))))))
    (.region [⟨.bin .add (.tmp 5) (.const (.int .i64 1)), none, 0⟩] [(5, (.loc 0))]))))))
  (.seq (.region [] [(2, (.const (.bool true)))])
  (.ret))))))⟩
theorem c12_ok : compileFn Try.prog false 12 = some c12 := by kernel_rfl
/-- louver/louverkit.ApartLabels -/
noncomputable def c29 : AFunc := ⟨[0, 2, 3, 4, 5, 6, 7, 8, 9, 10, 11, 12, 16, 25, 42, 50, 69, 79, 109, 111, 129], [.tmp 1],
  .seq (.region [] [(1, (.const (.bool false)))])
  (.seq (.seq (.region [] [(2, (.const (.int .i64 0)))])
   (.block 0 (.loop (.seq (.seq (.region [⟨.len (.tmp 0), none, 0⟩, ⟨.bin .lss (.tmp 2) (.loc 0), none, 0⟩] [(12, (.loc 0))])
     (.cond (.tmp 12)
      (.skip)
      (.exit 0)))
    (.seq (.block 1 (.seq (.region [] [(3, (.const (.int .i64 0)))])
     (.block 2 (.loop (.seq (.seq (.region [⟨.iaddr 1 (.tmp 0) (.tmp 2), none, 0⟩, ⟨.load none (.loc 0), none, 0⟩, ⟨.len (.loc 0), none, 0⟩, ⟨.bin .lss (.tmp 3) (.loc 0), none, 0⟩] [(13, (.loc 0))])
       (.cond (.tmp 13)
        (.skip)
        (.exit 2)))
      (.seq (.block 3 (.region [⟨.iaddr 1 (.tmp 0) (.tmp 2), none, 0⟩, ⟨.load none (.loc 0), none, 0⟩, ⟨.bin .mul (.const (.int .i64 1000)) (.tmp 2), none, 0⟩, ⟨.bin .add (.loc 0) (.tmp 3), none, 0⟩, ⟨.conv .u64 (.loc 0), none, 0⟩, ⟨.iaddr 1 (.loc 3) (.tmp 3), none, 0⟩, ⟨.store 1 (.loc 0) (.loc 1), none, 0⟩] []))
      (.region [⟨.bin .add (.tmp 3) (.const (.int .i64 1)), none, 0⟩] [(3, (.loc 0))])))))))
    (.region [⟨.bin .add (.tmp 2) (.const (.int .i64 1)), none, 0⟩] [(2, (.loc 0))]))))))
  (.seq (.region [] [(4, (.const (.slice none 0 0)))])
  (.seq (.seq (.region [] [(5, (.const (.int .i64 0)))])
   (.block 4 (.loop (.seq (.seq (.region [⟨.len (.tmp 0), none, 0⟩, ⟨.bin .lss (.tmp 5) (.loc 0), none, 0⟩] [(14, (.loc 0))])
     (.cond (.tmp 14)
      (.skip)
      (.exit 4)))
    (.seq (.block 5 (.seq (.region [⟨.iaddr 1 (.tmp 0) (.tmp 5), none, 0⟩, ⟨.load none (.loc 0), none, 0⟩] [(6, (.loc 0))])
     (.seq (.seq (.region [] [(7, (.const (.int .i64 0)))])
      (.block 6 (.loop (.seq (.seq (.region [⟨.bin .lss (.tmp 7) (.const (.int .i64 30)), none, 0⟩] [(15, (.loc 0))])
        (.cond (.tmp 15)
         (.skip)
         (.exit 6)))
       (.seq (.block 7 (.region [⟨.bin .mul (.const (.int .i64 1000)) (.tmp 5), none, 0⟩, ⟨.bin .add (.const (.int .i64 500000)) (.loc 0), none, 0⟩, ⟨.bin .add (.loc 0) (.tmp 7), none, 0⟩, ⟨.conv .u64 (.loc 0), none, 0⟩, ⟨.mkarr 1 [(.int .u64 0)] [(0, 1, (.loc 0))], none, 0⟩, ⟨.append false 1 8 (.tmp 6) (.loc 0), none, 0⟩] [(6, (.loc 0))]))
       (.region [⟨.bin .add (.tmp 7) (.const (.int .i64 1)), none, 0⟩] [(7, (.loc 0))]))))))
     (.region [⟨.mkarr 1 [(.slice none 0 0)] [(0, 1, (.tmp 6))], none, 0⟩, ⟨.append false 1 24 (.tmp 4) (.loc 0), none, 0⟩] [(4, (.loc 0))]))))
    (.region [⟨.bin .add (.tmp 5) (.const (.int .i64 1)), none, 0⟩] [(5, (.loc 0))]))))))
  (.seq (.seq (.region [] [(8, (.const (.int .i64 0)))])
   (.block 8 (.loop (.seq (.seq (.region [⟨.len (.tmp 0), none, 0⟩, ⟨.bin .lss (.tmp 8) (.loc 0), none, 0⟩] [(16, (.loc 0))])
     (.cond (.tmp 16)
      (.skip)
      (.exit 8)))
    (.seq (.block 9 (.seq (.region [⟨.iaddr 1 (.tmp 0) (.tmp 8), none, 0⟩, ⟨.load none (.loc 0), none, 0⟩, ⟨.len (.loc 0), none, 0⟩] [(9, (.loc 0))])
     (.seq (.seq (.region [] [(10, (.const (.int .i64 0)))])
      (.block 10 (.loop (.seq (.seq (.region [⟨.bin .lss (.tmp 10) (.tmp 9), none, 0⟩] [(17, (.loc 0))])
        (.cond (.tmp 17)
         (.skip)
         (.exit 10)))
       (.seq (.block 11 (.seq (.region [⟨.iaddr 1 (.tmp 0) (.tmp 8), none, 0⟩, ⟨.load none (.loc 0), none, 0⟩, ⟨.iaddr 1 (.loc 0) (.tmp 10), none, 0⟩, ⟨.load none (.loc 0), none, 0⟩, ⟨.conv .i64 (.loc 0), none, 0⟩, ⟨.bin .mul (.const (.int .i64 1000)) (.tmp 8), none, 0⟩, ⟨.bin .add (.loc 0) (.tmp 10), none, 0⟩, ⟨.bin .neq (.loc 2) (.loc 0), none, 0⟩, ⟨.mov (.tmp 4), (some ((.loc 0), false)), 0⟩, ⟨.mov (.tmp 8), (some ((.loc 1), false)), 0⟩, ⟨.iaddr 1 (.loc 1) (.loc 0), (some ((.loc 2), false)), 0⟩, ⟨.load none (.loc 0), (some ((.loc 3), false)), 0⟩, ⟨.mov (.tmp 10), (some ((.loc 4), false)), 0⟩, ⟨.iaddr 1 (.loc 1) (.loc 0), (some ((.loc 5), false)), 0⟩, ⟨.load none (.loc 0), (some ((.loc 6), false)), 0⟩, ⟨.conv .i64 (.loc 0), (some ((.loc 7), false)), 0⟩, ⟨.mov (.tmp 8), (some ((.loc 8), false)), 0⟩, ⟨.bin .mul (.const (.int .i64 1000)) (.loc 0), (some ((.loc 9), false)), 0⟩, ⟨.mov (.tmp 10), (some ((.loc 10), false)), 0⟩, ⟨.bin .add (.loc 1) (.loc 0), (some ((.loc 11), false)), 0⟩, ⟨.bin .neq (.loc 4) (.loc 0), (some ((.loc 12), false)), 0⟩, ⟨.pick (.loc 13) (.const (.bool true)) (.loc 0), none, 0⟩] [(18, (.loc 0))])
        (.cond (.tmp 18)
         (.seq (.region [] [(1, (.const (.bool false)))])
          (.ret))
         (.skip))))
       (.region [⟨.bin .add (.tmp 10) (.const (.int .i64 1)), none, 0⟩] [(10, (.loc 0))]))))))
     (.seq (.region [] [(11, (.const (.int .i64 0)))])
     (.block 12 (.loop (.seq (.seq (.region [⟨.bin .lss (.tmp 11) (.const (.int .i64 30)), none, 0⟩] [(19, (.loc 0))])
       (.cond (.tmp 19)
        (.skip)
        (.exit 12)))
      (.seq (.block 13 (.seq (.region [⟨.iaddr 1 (.tmp 4) (.tmp 8), none, 0⟩, ⟨.load none (.loc 0), none, 0⟩, ⟨.bin .add (.tmp 9) (.tmp 11), none, 0⟩, ⟨.iaddr 1 (.loc 1) (.loc 0), none, 0⟩, ⟨.load none (.loc 0), none, 0⟩, ⟨.conv .i64 (.loc 0), none, 0⟩, ⟨.bin .mul (.const (.int .i64 1000)) (.tmp 8), none, 0⟩, ⟨.bin .add (.const (.int .i64 500000)) (.loc 0), none, 0⟩, ⟨.bin .add (.loc 0) (.tmp 11), none, 0⟩, ⟨.bin .neq (.loc 3) (.loc 0), none, 0⟩] [(20, (.loc 0))])
       (.cond (.tmp 20)
        (.seq (.region [] [(1, (.const (.bool false)))])
         (.ret))
        (.skip))))
      (.region [⟨.bin .add (.tmp 11) (.const (.int .i64 1)), none, 0⟩] [(11, (.loc 0))])))))))))
    (.region [⟨.bin .add (.tmp 8) (.const (.int .i64 1)), none, 0⟩] [(8, (.loc 0))]))))))
  (.seq (.region [] [(1, (.const (.bool true)))])
  (.ret))))))⟩
theorem c29_ok : compileFn Try.prog false 29 = some c29 := by kernel_rfl
/-- louver/graph.Next -/
noncomputable def c32 : AFunc := ⟨[0, 1, 2, 4, 5, 6, 15], [.tmp 3],
  .seq (.region [⟨.box (.tmp 0), none, 0⟩] [(2, (.loc 0)), (3, (.const (.slice none 0 0)))])
  (.seq (.seq (.region [⟨.bin .lss (.tmp 1) (.const (.int .i64 0)), none, 0⟩, ⟨.mov (.tmp 1), (some ((.loc 0), false)), 0⟩, ⟨.faddr 5 (.tmp 2), (some ((.loc 1), false)), 0⟩, ⟨.load none (.loc 0), (some ((.loc 2), false)), 0⟩, ⟨.len (.loc 0), (some ((.loc 3), false)), 0⟩, ⟨.bin .geq (.loc 3) (.loc 0), (some ((.loc 4), false)), 0⟩, ⟨.pick (.loc 5) (.const (.bool true)) (.loc 0), none, 0⟩] [(6, (.loc 0))])
   (.cond (.tmp 6)
    (.seq (.region [] [(3, (.const (.slice none 0 0)))])
     (.ret))
    (.skip)))
  (.seq (.region [⟨.faddr 5 (.tmp 2), none, 0⟩, ⟨.load none (.loc 0), none, 0⟩, ⟨.call (.func 70) [(.loc 0), (.tmp 1)], none, 0⟩, ⟨.ext (.loc 0) 0, none, 0⟩, ⟨.ext (.loc 1) 1, none, 0⟩, ⟨.alloc [(.int .i64 0), (.int .i64 0)], none, 0⟩, ⟨.store 2 (.loc 0) (.loc 2), none, 0⟩] [(4, (.loc 1)), (5, (.loc 2))])
  (.seq (.region [⟨.slarr 2 1 (.tmp 4) none (some (.tmp 5)) none, none, 0⟩, ⟨.call (.func 72) [(.loc 0)], none, 0⟩, ⟨.call (.func 71) [(.loc 0)], none, 0⟩] [(3, (.loc 0))])
  (.ret))))⟩
theorem c32_ok : compileFn Try.prog false 32 = some c32 := by kernel_rfl
/-- louver/louverkit.LentFunction -/
noncomputable def c35 : AFunc := ⟨[0, 1, 2], [.cell 2 (some 6)],
  .seq (.region [⟨.box (.tmp 0), none, 0⟩, ⟨.alloc [(.int .u64 0), (.slice none 0 0), (.slice none 0 0), (.int .i64 0), (.int .i64 0), (.slice none 0 0)], none, 0⟩] [(1, (.loc 1)), (2, (.loc 0))])
  (.seq (.region [⟨.faddr 1 (.tmp 1), none, 0⟩, ⟨.load none (.loc 0), none, 0⟩, ⟨.call (.func 36) [(.loc 0)], none, 0⟩, ⟨.faddr 1 (.tmp 1), none, 0⟩, ⟨.store 1 (.loc 0) (.loc 1), none, 0⟩] [])
  (.seq (.region [⟨.faddr 2 (.tmp 1), none, 0⟩, ⟨.load none (.loc 0), none, 0⟩, ⟨.call (.func 36) [(.loc 0)], none, 0⟩, ⟨.faddr 2 (.tmp 1), none, 0⟩, ⟨.store 1 (.loc 0) (.loc 1), none, 0⟩] [])
  (.seq (.region [⟨.faddr 5 (.tmp 1), none, 0⟩, ⟨.load none (.loc 0), none, 0⟩, ⟨.call (.func 74) [(.loc 0)], none, 0⟩, ⟨.faddr 5 (.tmp 1), none, 0⟩, ⟨.store 1 (.loc 0) (.loc 1), none, 0⟩] [])
  (.seq (.region [⟨.load (some 6) (.tmp 1), none, 0⟩, ⟨.store 6 (.tmp 2) (.loc 0), none, 0⟩] [])
  (.ret)))))⟩
theorem c35_ok : compileFn Try.prog false 35 = some c35 := by kernel_rfl
/-- louver/louverkit.LentLabels -/
noncomputable def c36 : AFunc := ⟨[0, 2, 3], [.tmp 1],
  .seq (.region [] [(1, (.const (.slice none 0 0)))])
  (.seq (.region [] [(2, (.const (.slice none 0 0)))])
  (.seq (.region [⟨.append false 1 8 (.tmp 2) (.tmp 0), none, 0⟩] [(2, (.loc 0))])
  (.seq (.region [⟨.mkarr 1 [(.int .u64 0)] [(0, 1, (.const (.int .u64 7171)))], none, 0⟩, ⟨.append false 1 8 (.tmp 2) (.loc 0), none, 0⟩] [(2, (.loc 0))])
  (.seq (.region [⟨.len (.tmp 0), none, 0⟩, ⟨.slice 1 (.tmp 2) none (some (.loc 0)) none, none, 0⟩] [(1, (.loc 0))])
  (.ret)))))⟩
theorem c36_ok : compileFn Try.prog false 36 = some c36 := by kernel_rfl
/-- louver/louverref16.Levels -/
noncomputable def c38 : AFunc := ⟨[0, 1, 2, 3, 6, 7, 8, 9, 10, 11, 19, 36, 43, 50], [.tmp 4],
  .seq (.region [⟨.box (.tmp 0), none, 0⟩] [(3, (.loc 0)), (4, (.const (.slice none 0 0)))])
  (.seq (.region [⟨.faddr 5 (.tmp 3), none, 0⟩, ⟨.load none (.loc 0), none, 0⟩, ⟨.len (.loc 0), none, 0⟩, ⟨.mkslice [(.int .u64 0)] 8 (.loc 0) (.loc 0), none, 0⟩] [(5, (.loc 0))])
  (.seq (.seq (.region [] [(6, (.const (.int .i64 0)))])
   (.block 0 (.loop (.seq (.seq (.region [⟨.len (.tmp 5), none, 0⟩, ⟨.bin .lss (.tmp 6) (.loc 0), none, 0⟩] [(10, (.loc 0))])
     (.cond (.tmp 10)
      (.skip)
      (.exit 0)))
    (.seq (.block 1 (.region [⟨.iaddr 1 (.tmp 5) (.tmp 6), none, 0⟩, ⟨.store 1 (.loc 0) (.tmp 1), none, 0⟩] []))
    (.region [⟨.bin .add (.tmp 6) (.const (.int .i64 1)), none, 0⟩] [(6, (.loc 0))]))))))
  (.seq (.seq (.region [] [(7, (.const (.int .i64 0)))])
   (.block 2 (.loop (.seq (.seq (.region [⟨.faddr 5 (.tmp 3), none, 0⟩, ⟨.load none (.loc 0), none, 0⟩, ⟨.len (.loc 0), none, 0⟩, ⟨.bin .lss (.tmp 7) (.loc 0), none, 0⟩, ⟨.mov (.tmp 7), (some ((.loc 0), true)), 0⟩, ⟨.mov (.tmp 2), (some ((.loc 1), true)), 0⟩, ⟨.len (.loc 0), (some ((.loc 2), true)), 0⟩, ⟨.bin .lss (.loc 2) (.loc 0), (some ((.loc 3), true)), 0⟩, ⟨.pick (.loc 4) (.loc 0) (.const (.bool false)), none, 0⟩] [(11, (.loc 0))])
     (.cond (.tmp 11)
      (.skip)
      (.exit 2)))
    (.seq (.block 3 (.seq (.seq (.region [⟨.iaddr 1 (.tmp 2) (.tmp 7), none, 0⟩, ⟨.load none (.loc 0), none, 0⟩, ⟨.bin .eql (.loc 0) (.const (.int .u64 0)), none, 0⟩] [(12, (.loc 0))])
      (.cond (.tmp 12)
       (.exit 3)
       (.skip)))
     (.seq (.region [⟨.load (some 6) (.tmp 3), none, 0⟩, ⟨.call (.func 44) [(.loc 0), (.tmp 7)], none, 0⟩] [(8, (.loc 0))])
     (.seq (.region [] [(9, (.const (.int .i64 0)))])
     (.block 4 (.loop (.seq (.seq (.region [⟨.len (.tmp 8), none, 0⟩, ⟨.bin .lss (.tmp 9) (.loc 0), none, 0⟩] [(13, (.loc 0))])
       (.cond (.tmp 13)
        (.skip)
        (.exit 4)))
      (.seq (.block 5 (.draw [⟨.iaddr 1 (.tmp 8) (.tmp 9), none, 0⟩, ⟨.load none (.loc 0), none, 0⟩, ⟨.iaddr 1 (.tmp 8) (.tmp 9), none, 0⟩, ⟨.load none (.loc 0), none, 0⟩, ⟨.iaddr 1 (.tmp 5) (.loc 0), none, 0⟩, ⟨.load none (.loc 0), none, 0⟩, ⟨.iaddr 1 (.tmp 2) (.tmp 7), none, 0⟩, ⟨.load none (.loc 0), none, 0⟩, ⟨.bin .or (.loc 2) (.loc 0), none, 0⟩, ⟨.iaddr 1 (.tmp 5) (.loc 7), none, 0⟩, ⟨.store 1 (.loc 0) (.loc 1), none, 0⟩] []))
      (.region [⟨.bin .add (.tmp 9) (.const (.int .i64 1)), none, 0⟩] [(9, (.loc 0))])))))))))
    (.region [⟨.bin .add (.tmp 7) (.const (.int .i64 1)), none, 0⟩] [(7, (.loc 0))]))))))
  (.seq (.region [] [(4, (.tmp 5))])
  (.ret)))))⟩
theorem c38_ok : compileFn Try.prog false 38 = some c38 := by kernel_rfl
/-- louver/louverkit.KeptFunction -/
noncomputable def c40 : AFunc := ⟨[0, 1, 2, 3, 4], [.tmp 4],
  .seq (.region [⟨.box (.tmp 0), none, 0⟩, ⟨.box (.tmp 1), none, 0⟩] [(2, (.loc 1)), (3, (.loc 0)), (4, (.const (.bool false)))])
  (.seq (.region [⟨.faddr 0 (.tmp 2), none, 0⟩, ⟨.load none (.loc 0), none, 0⟩, ⟨.faddr 0 (.tmp 3), none, 0⟩, ⟨.load none (.loc 0), none, 0⟩, ⟨.bin .eql (.loc 2) (.loc 0), none, 0⟩, ⟨.faddr 3 (.tmp 2), (some ((.loc 0), true)), 0⟩, ⟨.load none (.loc 0), (some ((.loc 1), true)), 0⟩, ⟨.faddr 3 (.tmp 3), (some ((.loc 2), true)), 0⟩, ⟨.load none (.loc 0), (some ((.loc 3), true)), 0⟩, ⟨.bin .eql (.loc 2) (.loc 0), (some ((.loc 4), true)), 0⟩, ⟨.pick (.loc 5) (.loc 0) (.const (.bool false)), none, 0⟩, ⟨.faddr 4 (.tmp 2), (some ((.loc 0), true)), 0⟩, ⟨.load none (.loc 0), (some ((.loc 1), true)), 0⟩, ⟨.faddr 4 (.tmp 3), (some ((.loc 2), true)), 0⟩, ⟨.load none (.loc 0), (some ((.loc 3), true)), 0⟩, ⟨.bin .eql (.loc 2) (.loc 0), (some ((.loc 4), true)), 0⟩, ⟨.pick (.loc 5) (.loc 0) (.const (.bool false)), none, 0⟩, ⟨.faddr 1 (.tmp 2), (some ((.loc 0), true)), 0⟩, ⟨.load none (.loc 0), (some ((.loc 1), true)), 0⟩, ⟨.faddr 1 (.tmp 3), (some ((.loc 2), true)), 0⟩, ⟨.load none (.loc 0), (some ((.loc 3), true)), 0⟩, ⟨.call (.func 41) [(.loc 2), (.loc 0)], (some ((.loc 4), true)), 0⟩, ⟨.pick (.loc 5) (.loc 0) (.const (.bool false)), none, 0⟩, ⟨.faddr 2 (.tmp 2), (some ((.loc 0), true)), 0⟩, ⟨.load none (.loc 0), (some ((.loc 1), true)), 0⟩, ⟨.faddr 2 (.tmp 3), (some ((.loc 2), true)), 0⟩, ⟨.load none (.loc 0), (some ((.loc 3), true)), 0⟩, ⟨.call (.func 41) [(.loc 2), (.loc 0)], (some ((.loc 4), true)), 0⟩, ⟨.pick (.loc 5) (.loc 0) (.const (.bool false)), none, 0⟩, ⟨.faddr 5 (.tmp 2), (some ((.loc 0), true)), 0⟩, ⟨.load none (.loc 0), (some ((.loc 1), true)), 0⟩, ⟨.faddr 5 (.tmp 3), (some ((.loc 2), true)), 0⟩, ⟨.load none (.loc 0), (some ((.loc 3), true)), 0⟩, ⟨.call (.func 78) [(.loc 2), (.loc 0)], (some ((.loc 4), true)), 0⟩, ⟨.pick (.loc 5) (.loc 0) (.const (.bool false)), none, 0⟩] [(4, (.loc 0))])
  (.ret))⟩
theorem c40_ok : compileFn Try.prog false 40 = some c40 := by kernel_rfl
/-- louver/louverkit.KeptLabels -/
noncomputable def c41 : AFunc := ⟨[0, 1, 4, 5, 9], [.tmp 2],
  .seq (.region [] [(2, (.const (.bool false)))])
  (.seq (.seq (.region [⟨.call (.func 39) [(.tmp 0), (.tmp 1)], none, 0⟩, ⟨.not (.loc 0), none, 0⟩] [(4, (.loc 0))])
   (.cond (.tmp 4)
    (.seq (.region [] [(2, (.const (.bool false)))])
     (.ret))
    (.skip)))
  (.seq (.region [⟨.len (.tmp 0), none, 0⟩, ⟨.bin .add (.loc 0) (.const (.int .i64 1)), none, 0⟩, ⟨.slice 1 (.tmp 0) none (some (.loc 0)) none, none, 0⟩] [(3, (.loc 0))])
  (.seq (.region [⟨.len (.tmp 0), none, 0⟩, ⟨.iaddr 1 (.tmp 3) (.loc 0), none, 0⟩, ⟨.load none (.loc 0), none, 0⟩, ⟨.bin .eql (.loc 0) (.const (.int .u64 7171)), none, 0⟩] [(2, (.loc 0))])
  (.ret))))⟩
theorem c41_ok : compileFn Try.prog false 41 = some c41 := by kernel_rfl
/-- louver/region.Governs -/
noncomputable def c43 : AFunc := ⟨[0, 1, 2, 3, 4, 5, 6, 7, 12, 13, 14], [.tmp 4],
  .seq (.region [⟨.box (.tmp 0), none, 0⟩, ⟨.box (.tmp 1), none, 0⟩] [(2, (.loc 1)), (3, (.loc 0)), (4, (.const (.slice none 0 0)))])
  (.seq (.region [⟨.load (some 6) (.tmp 2), none, 0⟩, ⟨.call (.func 75) [(.loc 0)], none, 0⟩] [(5, (.loc 0))])
  (.seq (.region [⟨.alloc [(.slice none 0 0)], none, 0⟩] [(6, (.loc 0))])
  (.seq (.seq (.region [⟨.faddr 5 (.tmp 2), none, 0⟩, ⟨.load none (.loc 0), none, 0⟩, ⟨.len (.loc 0), none, 0⟩] [(8, (.loc 0)), (9, (.const (.int .i64 0)))])
   (.block 0 (.loop (.seq (.region [⟨.bin .lss (.tmp 9) (.tmp 8), none, 0⟩] [(10, (.loc 0))])
    (.seq (.cond (.tmp 10)
      (.skip)
      (.exit 0))
    (.seq (.block 1 (.seq (.region [⟨.alloc [(.int .i64 0)], none, 0⟩, ⟨.store 1 (.loc 0) (.tmp 9), none, 0⟩] [(7, (.loc 1))])
     (.region [⟨.load none (.tmp 7), none, 0⟩, ⟨.mkfn 81 [] [(.tmp 3), (.tmp 6), (.tmp 7)], none, 0⟩, ⟨.call (.func 77) [(.tmp 5), (.loc 1), (.loc 0)], none, 0⟩] [])))
    (.region [⟨.bin .add (.tmp 9) (.const (.int .i64 1)), none, 0⟩] [(9, (.loc 0))])))))))
  (.seq (.region [⟨.load none (.tmp 6), none, 0⟩, ⟨.call (.func 71) [(.loc 0)], none, 0⟩] [(4, (.loc 0))])
  (.ret)))))⟩
theorem c43_ok : compileFn Try.prog false 43 = some c43 := by kernel_rfl
/-- louver/louverref16.Of -/
noncomputable def c44 : AFunc := ⟨[0, 1, 2, 4, 5, 6, 7, 8, 9, 10, 11, 12, 13, 14, 24, 33, 44, 56, 74, 80], [.tmp 3],
  .seq (.region [⟨.box (.tmp 0), none, 0⟩] [(2, (.loc 0)), (3, (.const (.slice none 0 0)))])
  (.seq (.region [] [(4, (.const (.slice none 0 0)))])
  (.seq (.region [⟨.faddr 5 (.tmp 2), none, 0⟩, ⟨.load none (.loc 0), none, 0⟩, ⟨.len (.loc 0), none, 0⟩] [(5, (.loc 0))])
  (.seq (.seq (.region [⟨.bin .lss (.tmp 1) (.const (.int .i64 0)), none, 0⟩, ⟨.mov (.tmp 1), (some ((.loc 0), false)), 0⟩, ⟨.mov (.tmp 5), (some ((.loc 1), false)), 0⟩, ⟨.bin .geq (.loc 1) (.loc 0), (some ((.loc 2), false)), 0⟩, ⟨.pick (.loc 3) (.const (.bool true)) (.loc 0), none, 0⟩] [(14, (.loc 0))])
   (.cond (.tmp 14)
    (.seq (.region [] [(3, (.tmp 4))])
     (.ret))
    (.skip)))
  (.seq (.region [⟨.load (some 6) (.tmp 2), none, 0⟩, ⟨.call (.func 82) [(.loc 0), (.tmp 1)], none, 0⟩, ⟨.ext (.loc 0) 0, none, 0⟩, ⟨.ext (.loc 1) 1, none, 0⟩] [(6, (.loc 1)), (7, (.loc 0))])
  (.seq (.seq (.region [⟨.not (.tmp 7), none, 0⟩] [(15, (.loc 0))])
   (.cond (.tmp 15)
    (.seq (.region [] [(3, (.tmp 4))])
     (.ret))
    (.skip)))
  (.seq (.region [⟨.bin .add (.tmp 5) (.const (.int .i64 1)), none, 0⟩, ⟨.mkslice [(.bool false)] 1 (.loc 0) (.loc 0), none, 0⟩] [(8, (.loc 0))])
  (.seq (.region [⟨.load (some 6) (.tmp 2), none, 0⟩, ⟨.call (.func 65) [(.loc 0), (.tmp 1)], none, 0⟩] [(9, (.loc 0))])
  (.seq (.seq (.region [] [(10, (.const (.int .i64 0)))])
   (.block 0 (.loop (.seq (.seq (.region [⟨.len (.tmp 9), none, 0⟩, ⟨.bin .lss (.tmp 10) (.loc 0), none, 0⟩] [(16, (.loc 0))])
     (.cond (.tmp 16)
      (.skip)
      (.exit 0)))
    (.seq (.block 1 (.seq (.draw [⟨.load (some 6) (.tmp 2), none, 0⟩, ⟨.iaddr 1 (.tmp 9) (.tmp 10), none, 0⟩, ⟨.load none (.loc 0), none, 0⟩, ⟨.call (.func 83) [(.loc 2), (.loc 0), (.tmp 6)], none, 0⟩] [(11, (.loc 0))])
     (.seq (.region [] [(12, (.const (.int .i64 0)))])
     (.block 2 (.loop (.seq (.seq (.region [⟨.bin .lss (.tmp 12) (.tmp 5), none, 0⟩] [(17, (.loc 0))])
       (.cond (.tmp 17)
        (.skip)
        (.exit 2)))
      (.seq (.block 3 (.region [⟨.iaddr 1 (.tmp 8) (.tmp 12), none, 0⟩, ⟨.load none (.loc 0), none, 0⟩, ⟨.mov (.tmp 11), (some ((.loc 0), false)), 0⟩, ⟨.mov (.tmp 12), (some ((.loc 1), false)), 0⟩, ⟨.iaddr 1 (.loc 1) (.loc 0), (some ((.loc 2), false)), 0⟩, ⟨.load none (.loc 0), (some ((.loc 3), false)), 0⟩, ⟨.pick (.loc 4) (.const (.bool true)) (.loc 0), none, 0⟩, ⟨.iaddr 1 (.tmp 8) (.tmp 12), none, 0⟩, ⟨.store 1 (.loc 0) (.loc 1), none, 0⟩] []))
      (.region [⟨.bin .add (.tmp 12) (.const (.int .i64 1)), none, 0⟩] [(12, (.loc 0))]))))))))
    (.region [⟨.bin .add (.tmp 10) (.const (.int .i64 1)), none, 0⟩] [(10, (.loc 0))]))))))
  (.seq (.seq (.region [] [(13, (.const (.int .i64 0)))])
   (.block 4 (.loop (.seq (.seq (.region [⟨.bin .lss (.tmp 13) (.tmp 5), none, 0⟩] [(18, (.loc 0))])
     (.cond (.tmp 18)
      (.skip)
      (.exit 4)))
    (.seq (.block 5 (.seq (.region [⟨.iaddr 1 (.tmp 8) (.tmp 13), none, 0⟩, ⟨.load none (.loc 0), none, 0⟩] [(19, (.loc 0))])
     (.cond (.tmp 19)
      (.region [⟨.mkarr 1 [(.int .i64 0)] [(0, 1, (.tmp 13))], none, 0⟩, ⟨.append false 1 8 (.tmp 4) (.loc 0), none, 0⟩] [(4, (.loc 0))])
      (.skip))))
    (.region [⟨.bin .add (.tmp 13) (.const (.int .i64 1)), none, 0⟩] [(13, (.loc 0))]))))))
  (.seq (.region [] [(3, (.tmp 4))])
  (.ret)))))))))))⟩
theorem c44_ok : compileFn Try.prog false 44 = some c44 := by kernel_rfl
/-- louver/graph.Exit -/
noncomputable def c48 : AFunc := ⟨[0, 1, 2, 3, 4, 5, 6, 7, 8, 16, 17, 18, 39], [.tmp 2, .tmp 3],
  .seq (.region [⟨.box (.tmp 0), none, 0⟩] [(1, (.loc 0)), (2, (.const (.int .i64 0))), (3, (.const (.bool false)))])
  (.seq (.region [⟨.faddr 5 (.tmp 1), none, 0⟩, ⟨.load none (.loc 0), none, 0⟩, ⟨.len (.loc 0), none, 0⟩, ⟨.bin .add (.loc 0) (.const (.int .i64 1)), none, 0⟩, ⟨.mkslice [(.slice none 0 0)] 24 (.loc 0) (.loc 0), none, 0⟩, ⟨.alloc [(.slice none 0 0)], none, 0⟩, ⟨.store 1 (.loc 0) (.loc 1), none, 0⟩] [(4, (.loc 1))])
  (.seq (.seq (.region [⟨.faddr 5 (.tmp 1), none, 0⟩, ⟨.load none (.loc 0), none, 0⟩, ⟨.call (.func 85) [(.loc 0)], none, 0⟩] [(9, (.loc 0))])
   (.block 0 (.rangeFunc (.tmp 9) [(some 10), (some 11)]
    (.seq (.region [] [(5, (.tmp 10))])
     (.region [] [(6, (.tmp 11))]))
    (.block 1 (.draw [⟨.load none (.tmp 4), none, 0⟩, ⟨.iaddr 1 (.loc 0) (.tmp 6), none, 0⟩, ⟨.load none (.loc 0), none, 0⟩, ⟨.mkarr 1 [(.int .i64 0)] [(0, 1, (.tmp 5))], none, 0⟩, ⟨.append false 1 8 (.loc 1) (.loc 0), none, 0⟩, ⟨.load none (.tmp 4), none, 0⟩, ⟨.iaddr 1 (.loc 0) (.tmp 6), none, 1⟩, ⟨.store 1 (.loc 0) (.loc 2), none, 1⟩] [])))))
  (.seq (.region [⟨.load none (.tmp 4), none, 0⟩, ⟨.len (.loc 0), none, 0⟩, ⟨.faddr 5 (.tmp 1), none, 0⟩, ⟨.load none (.loc 0), none, 0⟩, ⟨.len (.loc 0), none, 0⟩, ⟨.mkfn 86 [] [(.tmp 4)], none, 0⟩, ⟨.call (.func 68) [(.loc 4), (.loc 1), (.loc 0)], none, 0⟩] [(7, (.loc 0))])
  (.seq (.seq (.region [⟨.call (.func 87) [(.tmp 7), (.const (.bool false))], none, 0⟩] [(8, (.loc 0))])
   (.seq (.region [⟨.bin .geq (.tmp 8) (.const (.int .i64 0)), none, 0⟩] [(12, (.loc 0))])
   (.cond (.tmp 12)
    (.seq (.region [] [(2, (.tmp 8)), (3, (.const (.bool true)))])
     (.ret))
    (.skip))))
  (.seq (.region [] [(2, (.const (.int .i64 0))), (3, (.const (.bool false)))])
  (.ret))))))⟩
theorem c48_ok : compileFn Try.prog false 48 = some c48 := by kernel_rfl
/-- louver/post.Near -/
noncomputable def c49 : AFunc := ⟨[0, 1, 2, 4, 5, 6, 15], [.tmp 3, .tmp 4],
  .seq (.region [⟨.box (.tmp 0), none, 0⟩] [(2, (.loc 0)), (3, (.const (.int .i64 0))), (4, (.const (.bool false)))])
  (.seq (.seq (.region [⟨.bin .lss (.tmp 1) (.const (.int .i64 0)), none, 0⟩, ⟨.mov (.tmp 1), (some ((.loc 0), false)), 0⟩, ⟨.faddr 5 (.tmp 2), (some ((.loc 1), false)), 0⟩, ⟨.load none (.loc 0), (some ((.loc 2), false)), 0⟩, ⟨.len (.loc 0), (some ((.loc 3), false)), 0⟩, ⟨.bin .gtr (.loc 3) (.loc 0), (some ((.loc 4), false)), 0⟩, ⟨.pick (.loc 5) (.const (.bool true)) (.loc 0), none, 0⟩] [(6, (.loc 0))])
   (.cond (.tmp 6)
    (.seq (.region [] [(3, (.const (.int .i64 0))), (4, (.const (.bool false)))])
     (.ret))
    (.skip)))
  (.seq (.region [⟨.load (some 6) (.tmp 2), none, 0⟩, ⟨.call (.func 88) [(.loc 0)], none, 0⟩, ⟨.iaddr 1 (.loc 0) (.tmp 1), none, 0⟩, ⟨.load none (.loc 0), none, 0⟩] [(5, (.loc 0))])
  (.seq (.region [⟨.flat (.max #[3, 3] 3) [(.tmp 5), (.const (.int .i64 0))], none, 0⟩, ⟨.bin .geq (.tmp 5) (.const (.int .i64 0)), none, 0⟩] [(3, (.loc 1)), (4, (.loc 0))])
  (.ret))))⟩
theorem c49_ok : compileFn Try.prog false 49 = some c49 := by kernel_rfl
/-- louver/louverlaw16.has -/
noncomputable def c50 : AFunc := ⟨[0, 1, 4, 5, 9, 17], [.tmp 2],
  .seq (.region [] [(2, (.const (.bool false)))])
  (.seq (.seq (.region [] [(3, (.const (.int .i64 0)))])
   (.block 0 (.loop (.seq (.seq (.region [⟨.len (.tmp 0), none, 0⟩, ⟨.bin .lss (.tmp 3) (.loc 0), none, 0⟩] [(4, (.loc 0))])
     (.cond (.tmp 4)
      (.skip)
      (.exit 0)))
    (.seq (.block 1 (.seq (.region [⟨.iaddr 1 (.tmp 0) (.tmp 3), none, 0⟩, ⟨.load none (.loc 0), none, 0⟩, ⟨.bin .eql (.loc 0) (.tmp 1), none, 0⟩] [(5, (.loc 0))])
     (.cond (.tmp 5)
      (.seq (.region [] [(2, (.const (.bool true)))])
       (.ret))
      (.skip))))
    (.region [⟨.bin .add (.tmp 3) (.const (.int .i64 1)), none, 0⟩] [(3, (.loc 0))]))))))
  (.seq (.region [] [(2, (.const (.bool false)))])
  (.ret)))⟩
theorem c50_ok : compileFn Try.prog false 50 = some c50 := by kernel_rfl
/-- louver/post.Dominates -/
noncomputable def c51 : AFunc := ⟨[0, 1, 2, 3, 6, 7], [.tmp 4],
  .seq (.region [⟨.box (.tmp 0), none, 0⟩] [(3, (.loc 0)), (4, (.const (.bool false)))])
  (.seq (.region [⟨.faddr 5 (.tmp 3), none, 0⟩, ⟨.load none (.loc 0), none, 0⟩, ⟨.len (.loc 0), none, 0⟩] [(5, (.loc 0))])
  (.seq (.region [⟨.bin .geq (.tmp 1) (.const (.int .i64 0)), none, 0⟩, ⟨.mov (.tmp 1), (some ((.loc 0), true)), 0⟩, ⟨.mov (.tmp 5), (some ((.loc 1), true)), 0⟩, ⟨.bin .leq (.loc 1) (.loc 0), (some ((.loc 2), true)), 0⟩, ⟨.pick (.loc 3) (.loc 0) (.const (.bool false)), none, 0⟩, ⟨.mov (.tmp 2), (some ((.loc 0), true)), 0⟩, ⟨.bin .geq (.loc 0) (.const (.int .i64 0)), (some ((.loc 1), true)), 0⟩, ⟨.pick (.loc 2) (.loc 0) (.const (.bool false)), none, 0⟩, ⟨.mov (.tmp 2), (some ((.loc 0), true)), 0⟩, ⟨.mov (.tmp 5), (some ((.loc 1), true)), 0⟩, ⟨.bin .leq (.loc 1) (.loc 0), (some ((.loc 2), true)), 0⟩, ⟨.pick (.loc 3) (.loc 0) (.const (.bool false)), none, 0⟩, ⟨.load (some 6) (.tmp 3), (some ((.loc 0), true)), 0⟩, ⟨.call (.func 88) [(.loc 0)], (some ((.loc 1), true)), 0⟩, ⟨.mov (.tmp 1), (some ((.loc 2), true)), 0⟩, ⟨.mov (.tmp 2), (some ((.loc 3), true)), 0⟩, ⟨.call (.func 89) [(.loc 2), (.loc 1), (.loc 0)], (some ((.loc 4), true)), 0⟩, ⟨.pick (.loc 5) (.loc 0) (.const (.bool false)), none, 0⟩] [(4, (.loc 0))])
  (.ret)))⟩
theorem c51_ok : compileFn Try.prog false 51 = some c51 := by kernel_rfl
/-- louver/louverref14.Next -/
noncomputable def c65 : AFunc := ⟨[0, 1, 2, 4, 5, 6, 7, 8, 18, 29, 30, 50, 63, 65, 71, 76, 88], [.tmp 3],
  .seq (.region [⟨.box (.tmp 0), none, 0⟩] [(2, (.loc 0)), (3, (.const (.slice none 0 0)))])
  (.seq (.region [] [(4, (.const (.slice none 0 0)))])
  (.seq (.region [⟨.faddr 5 (.tmp 2), none, 0⟩, ⟨.load none (.loc 0), none, 0⟩, ⟨.len (.loc 0), none, 0⟩] [(5, (.loc 0))])
  (.seq (.seq (.region [⟨.bin .lss (.tmp 1) (.const (.int .i64 0)), none, 0⟩, ⟨.mov (.tmp 1), (some ((.loc 0), false)), 0⟩, ⟨.mov (.tmp 5), (some ((.loc 1), false)), 0⟩, ⟨.bin .geq (.loc 1) (.loc 0), (some ((.loc 2), false)), 0⟩, ⟨.pick (.loc 3) (.const (.bool true)) (.loc 0), none, 0⟩] [(8, (.loc 0))])
   (.cond (.tmp 8)
    (.seq (.region [] [(3, (.tmp 4))])
     (.ret))
    (.skip)))
  (.seq (.region [⟨.bin .add (.tmp 1) (.const (.int .i64 1)), none, 0⟩] [(6, (.loc 0))])
  (.seq (.region [⟨.bin .add (.tmp 1) (.const (.int .i64 1)), none, 0⟩] [(7, (.loc 0))])
  (.seq (.seq (.region [⟨.faddr 5 (.tmp 2), none, 0⟩, ⟨.load none (.loc 0), none, 0⟩, ⟨.iaddr 2 (.loc 0) (.tmp 1), none, 0⟩, ⟨.faddr 0 (.loc 0), none, 0⟩, ⟨.load none (.loc 0), none, 0⟩] [(9, (.loc 0))])
   (.block 0 (.seq (.seq (.region [⟨.bin .eql (.tmp 9) (.const (.int .i64 43)), none, 0⟩] [(10, (.loc 0))])
    (.cond (.tmp 10)
     (.skip)
     (.region [⟨.bin .eql (.tmp 9) (.const (.int .i64 44)), none, 0⟩] [(10, (.loc 0))])))
   (.cond (.tmp 10)
    (.seq (.region [] [(7, (.tmp 5))])
     (.seq (.seq (.region [⟨.faddr 5 (.tmp 2), none, 0⟩, ⟨.load none (.loc 0), none, 0⟩, ⟨.iaddr 2 (.loc 0) (.tmp 1), none, 0⟩, ⟨.faddr 1 (.loc 0), none, 0⟩, ⟨.load none (.loc 0), none, 0⟩, ⟨.bin .geq (.loc 0) (.const (.int .i64 0)), none, 0⟩, ⟨.faddr 5 (.tmp 2), (some ((.loc 0), true)), 0⟩, ⟨.load none (.loc 0), (some ((.loc 1), true)), 0⟩, ⟨.mov (.tmp 1), (some ((.loc 2), true)), 0⟩, ⟨.iaddr 2 (.loc 1) (.loc 0), (some ((.loc 3), true)), 0⟩, ⟨.faddr 1 (.loc 0), (some ((.loc 4), true)), 0⟩, ⟨.load none (.loc 0), (some ((.loc 5), true)), 0⟩, ⟨.mov (.tmp 5), (some ((.loc 6), true)), 0⟩, ⟨.bin .lss (.loc 1) (.loc 0), (some ((.loc 7), true)), 0⟩, ⟨.pick (.loc 8) (.loc 0) (.const (.bool false)), none, 0⟩] [(11, (.loc 0))])
      (.cond (.tmp 11)
       (.region [⟨.faddr 5 (.tmp 2), none, 0⟩, ⟨.load none (.loc 0), none, 0⟩, ⟨.iaddr 2 (.loc 0) (.tmp 1), none, 0⟩, ⟨.faddr 1 (.loc 0), none, 0⟩, ⟨.load none (.loc 0), none, 0⟩] [(7, (.loc 0))])
       (.skip)))
     (.seq (.region [⟨.faddr 5 (.tmp 2), none, 0⟩, ⟨.load none (.loc 0), none, 0⟩, ⟨.iaddr 2 (.loc 0) (.tmp 1), none, 0⟩, ⟨.faddr 0 (.loc 0), none, 0⟩, ⟨.load none (.loc 0), none, 0⟩, ⟨.bin .eql (.loc 0) (.const (.int .i64 43)), none, 0⟩] [(12, (.loc 0))])
     (.cond (.tmp 12)
      (.region [] [(6, (.tmp 7))])
      (.skip)))))
    (.seq (.region [⟨.bin .eql (.tmp 9) (.const (.int .i64 46)), none, 0⟩] [(13, (.loc 0))])
     (.cond (.tmp 13)
      (.seq (.region [⟨.mkarr 1 [(.int .i64 0)] [(0, 1, (.tmp 5))], none, 0⟩] [(3, (.loc 0))])
       (.ret))
      (.skip)))))))
  (.seq (.seq (.region [⟨.bin .gtr (.tmp 6) (.tmp 7), none, 0⟩] [(14, (.loc 0))])
   (.cond (.tmp 14)
    (.region [] [(6, (.tmp 7)), (7, (.tmp 6))])
    (.skip)))
  (.seq (.seq (.region [⟨.bin .lss (.tmp 6) (.tmp 5), none, 0⟩] [(15, (.loc 0))])
   (.cond (.tmp 15)
    (.region [⟨.mkarr 1 [(.int .i64 0)] [(0, 1, (.tmp 6))], none, 0⟩, ⟨.append false 1 8 (.tmp 4) (.loc 0), none, 0⟩] [(4, (.loc 0))])
    (.skip)))
  (.seq (.seq (.region [⟨.bin .lss (.tmp 7) (.tmp 5), none, 0⟩, ⟨.mov (.tmp 7), (some ((.loc 0), true)), 0⟩, ⟨.mov (.tmp 6), (some ((.loc 1), true)), 0⟩, ⟨.bin .neq (.loc 1) (.loc 0), (some ((.loc 2), true)), 0⟩, ⟨.pick (.loc 3) (.loc 0) (.const (.bool false)), none, 0⟩] [(16, (.loc 0))])
   (.cond (.tmp 16)
    (.region [⟨.mkarr 1 [(.int .i64 0)] [(0, 1, (.tmp 7))], none, 0⟩, ⟨.append false 1 8 (.tmp 4) (.loc 0), none, 0⟩] [(4, (.loc 0))])
    (.skip)))
  (.seq (.region [] [(3, (.tmp 4))])
  (.ret)))))))))))⟩
theorem c65_ok : compileFn Try.prog false 65 = some c65 := by kernel_rfl
/-- louver/graph.visit -/
noncomputable def c68 : AFunc := ⟨[0, 1, 2, 6, 7, 8, 9, 11, 20, 29, 38, 39, 40, 41, 48], [.tmp 3],
  .seq (.region [] [(3, (.const (.slice none 0 0)))])
  (.scope (.seq (.region [⟨.mkslice [(.bool false)] 1 (.tmp 0) (.tmp 0), none, 0⟩] [(4, (.loc 0))])
  (.seq (.seq (.region [⟨.bin .lss (.tmp 1) (.const (.int .i64 0)), none, 0⟩, ⟨.mov (.tmp 1), (some ((.loc 0), false)), 0⟩, ⟨.mov (.tmp 0), (some ((.loc 1), false)), 0⟩, ⟨.bin .geq (.loc 1) (.loc 0), (some ((.loc 2), false)), 0⟩, ⟨.pick (.loc 3) (.const (.bool true)) (.loc 0), none, 0⟩] [(8, (.loc 0))])
   (.cond (.tmp 8)
    (.seq (.region [] [(3, (.tmp 4))])
     (.ret))
    (.skip)))
  (.seq (.region [⟨.iaddr 1 (.tmp 4) (.tmp 1), none, 0⟩, ⟨.store 1 (.loc 0) (.const (.bool true)), none, 0⟩] [])
  (.seq (.region [⟨.mkarr 1 [(.int .i64 0)] [(0, 1, (.tmp 1))], none, 0⟩] [(5, (.loc 0))])
  (.seq (.label 0)
  (.seq (.block 0 (.loop (.seq (.seq (.region [⟨.len (.tmp 5), none, 0⟩, ⟨.bin .gtr (.loc 0) (.const (.int .i64 0)), none, 0⟩] [(9, (.loc 0))])
     (.cond (.tmp 9)
      (.skip)
      (.exit 0)))
    (.block 1 (.seq (.region [⟨.len (.tmp 5), none, 0⟩, ⟨.bin .sub (.loc 0) (.const (.int .i64 1)), none, 0⟩, ⟨.iaddr 1 (.tmp 5) (.loc 0), none, 0⟩, ⟨.load none (.loc 0), none, 0⟩] [(6, (.loc 0))])
    (.seq (.seq (.region [⟨.call (.tmp 2) [(.tmp 6)], none, 0⟩, ⟨.len (.loc 0), none, 0⟩] [(10, (.loc 1)), (11, (.loc 0)), (12, (.const (.int .i64 0)))])
     (.block 2 (.loop (.seq (.region [⟨.bin .lss (.tmp 12) (.tmp 11), none, 0⟩] [(13, (.loc 0))])
      (.seq (.cond (.tmp 13)
        (.skip)
        (.exit 2))
      (.seq (.block 3 (.seq (.region [⟨.iaddr 1 (.tmp 10) (.tmp 12), none, 0⟩, ⟨.load none (.loc 0), none, 0⟩] [(7, (.loc 0))])
       (.seq (.region [⟨.iaddr 1 (.tmp 4) (.tmp 7), none, 0⟩, ⟨.load none (.loc 0), none, 0⟩, ⟨.not (.loc 0), none, 0⟩] [(14, (.loc 0))])
       (.cond (.tmp 14)
        (.seq (.region [⟨.iaddr 1 (.tmp 4) (.tmp 7), none, 0⟩, ⟨.store 1 (.loc 0) (.const (.bool true)), none, 0⟩] [])
         (.seq (.region [⟨.mkarr 1 [(.int .i64 0)] [(0, 1, (.tmp 7))], none, 0⟩, ⟨.append false 1 8 (.tmp 5) (.loc 0), none, 0⟩] [(5, (.loc 0))])
         (.exit 1)))
        (.skip)))))
      (.region [⟨.bin .add (.tmp 12) (.const (.int .i64 1)), none, 0⟩] [(12, (.loc 0))])))))))
    (.region [⟨.len (.tmp 5), none, 0⟩, ⟨.bin .sub (.loc 0) (.const (.int .i64 1)), none, 0⟩, ⟨.slice 1 (.tmp 5) none (some (.loc 0)) none, none, 0⟩] [(5, (.loc 0))])))))))
  (.seq (.region [] [(3, (.tmp 4))])
  (.ret)))))))))⟩
theorem c68_ok : compileFn Try.prog false 68 = some c68 := by kernel_rfl
/-- slices.Clone[[]int,int] -/
noncomputable def c72 : AFunc := ⟨[0, 2, 4], [.tmp 1],
  .seq (.region [] [(1, (.const (.slice none 0 0)))])
  (.seq (.seq (.region [⟨.eqn 0 false (.tmp 0) (.const (.slice none 0 0)), none, 0⟩] [(2, (.loc 0))])
   (.cond (.tmp 2)
    (.seq (.region [] [(1, (.const (.slice none 0 0)))])
     (.ret))
    (.skip)))
  (.seq (.region [⟨.mkarr 0 [] [], none, 0⟩, ⟨.append false 1 8 (.loc 0) (.tmp 0), none, 0⟩] [(1, (.loc 0))])
  (.ret)))⟩
theorem c72_ok : compileFn Try.prog false 72 = some c72 := by kernel_rfl
/-- louver/louverkit.LentCode -/
noncomputable def c74 : AFunc := ⟨[0, 2, 3], [.tmp 1],
  .seq (.region [] [(1, (.const (.slice none 0 0)))])
  (.seq (.region [] [(2, (.const (.slice none 0 0)))])
  (.seq (.region [⟨.append false 2 16 (.tmp 2) (.tmp 0), none, 0⟩] [(2, (.loc 0))])
  (.seq (.region [⟨.build [(.int .i64 0), (.int .i64 0)] [(0, 1, (.const (.int .i64 (-71))))], none, 0⟩, ⟨.mkarr 1 [(.int .i64 0), (.int .i64 0)] [(0, 2, (.loc 0))], none, 0⟩, ⟨.append false 2 16 (.tmp 2) (.loc 0), none, 0⟩] [(2, (.loc 0))])
  (.seq (.region [⟨.len (.tmp 0), none, 0⟩, ⟨.slice 2 (.tmp 2) none (some (.loc 0)) none, none, 0⟩] [(1, (.loc 0))])
  (.ret)))))⟩
theorem c74_ok : compileFn Try.prog false 74 = some c74 := by kernel_rfl
/-- louver/louverkit.KeptCode -/
noncomputable def c78 : AFunc := ⟨[0, 1, 4, 5, 9], [.tmp 2],
  .seq (.region [] [(2, (.const (.bool false)))])
  (.seq (.seq (.region [⟨.call (.func 105) [(.tmp 0), (.tmp 1)], none, 0⟩, ⟨.not (.loc 0), none, 0⟩] [(4, (.loc 0))])
   (.cond (.tmp 4)
    (.seq (.region [] [(2, (.const (.bool false)))])
     (.ret))
    (.skip)))
  (.seq (.region [⟨.len (.tmp 0), none, 0⟩, ⟨.bin .add (.loc 0) (.const (.int .i64 1)), none, 0⟩, ⟨.slice 2 (.tmp 0) none (some (.loc 0)) none, none, 0⟩] [(3, (.loc 0))])
  (.seq (.region [⟨.len (.tmp 0), none, 0⟩, ⟨.iaddr 2 (.tmp 3) (.loc 0), none, 0⟩, ⟨.load (some 2) (.loc 0), none, 0⟩, ⟨.build [(.int .i64 0), (.int .i64 0)] [(0, 1, (.const (.int .i64 (-71))))], none, 0⟩, ⟨.flat (.bin .eql 62 (.tmp 19) (.tmp 20)) [(.loc 1), (.loc 0)], none, 0⟩] [(2, (.loc 0))])
  (.ret))))⟩
theorem c78_ok : compileFn Try.prog false 78 = some c78 := by kernel_rfl
/-- louver/region.Governs$1 -/
noncomputable def c81 : AFunc := ⟨[0, 1, 2, 3, 7], [],
  .seq (.region [⟨.load none (.tmp 1), none, 0⟩, ⟨.bin .eql (.tmp 0) (.loc 0), none, 0⟩] [(4, (.loc 0))])
  (.cond (.tmp 4)
   (.region [⟨.load none (.tmp 2), none, 0⟩, ⟨.load none (.tmp 3), none, 0⟩, ⟨.mkarr 1 [(.int .i64 0)] [(0, 1, (.loc 0))], none, 0⟩, ⟨.append false 1 8 (.loc 2) (.loc 0), none, 0⟩, ⟨.store 1 (.tmp 2) (.loc 0), none, 0⟩] [])
   (.skip))⟩
theorem c81_ok : compileFn Try.prog false 81 = some c81 := by kernel_rfl
/-- louver/louverref15.Near -/
noncomputable def c82 : AFunc := ⟨[0, 1, 2, 4, 5, 6, 7, 8, 9, 10, 15, 26, 34, 43, 56], [.tmp 3, .tmp 4],
  .seq (.region [⟨.box (.tmp 0), none, 0⟩] [(2, (.loc 0)), (3, (.const (.int .i64 0))), (4, (.const (.bool false)))])
  (.seq (.region [] [(5, (.const (.slice none 0 0)))])
  (.seq (.seq (.region [] [(6, (.const (.int .i64 0)))])
   (.block 0 (.loop (.seq (.seq (.region [⟨.faddr 5 (.tmp 2), none, 0⟩, ⟨.load none (.loc 0), none, 0⟩, ⟨.len (.loc 0), none, 0⟩, ⟨.bin .leq (.tmp 6) (.loc 0), none, 0⟩] [(10, (.loc 0))])
     (.cond (.tmp 10)
      (.skip)
      (.exit 0)))
    (.seq (.block 1 (.seq (.region [⟨.bin .neq (.tmp 6) (.tmp 1), none, 0⟩, ⟨.load (some 6) (.tmp 2), (some ((.loc 0), true)), 0⟩, ⟨.mov (.tmp 6), (some ((.loc 1), true)), 0⟩, ⟨.mov (.tmp 1), (some ((.loc 2), true)), 0⟩, ⟨.call (.func 108) [(.loc 2), (.loc 1), (.loc 0)], (some ((.loc 3), true)), 0⟩, ⟨.pick (.loc 4) (.loc 0) (.const (.bool false)), none, 0⟩] [(11, (.loc 0))])
     (.cond (.tmp 11)
      (.region [⟨.mkarr 1 [(.int .i64 0)] [(0, 1, (.tmp 6))], none, 0⟩, ⟨.append false 1 8 (.tmp 5) (.loc 0), none, 0⟩] [(5, (.loc 0))])
      (.skip))))
    (.region [⟨.bin .add (.tmp 6) (.const (.int .i64 1)), none, 0⟩] [(6, (.loc 0))]))))))
  (.seq (.seq (.region [] [(7, (.const (.int .i64 0)))])
   (.block 2 (.loop (.seq (.seq (.region [⟨.len (.tmp 5), none, 0⟩, ⟨.bin .lss (.tmp 7) (.loc 0), none, 0⟩] [(12, (.loc 0))])
     (.cond (.tmp 12)
      (.skip)
      (.exit 2)))
    (.seq (.block 3 (.seq (.region [] [(8, (.const (.bool true)))])
     (.seq (.seq (.region [] [(9, (.const (.int .i64 0)))])
      (.block 4 (.loop (.seq (.seq (.region [⟨.len (.tmp 5), none, 0⟩, ⟨.bin .lss (.tmp 9) (.loc 0), none, 0⟩, ⟨.mov (.tmp 8), (some ((.loc 0), true)), 0⟩, ⟨.pick (.loc 1) (.loc 0) (.const (.bool false)), none, 0⟩] [(13, (.loc 0))])
        (.cond (.tmp 13)
         (.skip)
         (.exit 4)))
       (.seq (.block 5 (.draw [⟨.load (some 6) (.tmp 2), none, 0⟩, ⟨.iaddr 1 (.tmp 5) (.tmp 9), none, 0⟩, ⟨.load none (.loc 0), none, 0⟩, ⟨.iaddr 1 (.tmp 5) (.tmp 7), none, 0⟩, ⟨.load none (.loc 0), none, 0⟩, ⟨.call (.func 108) [(.loc 4), (.loc 2), (.loc 0)], none, 0⟩] [(8, (.loc 0))]))
       (.region [⟨.bin .add (.tmp 9) (.const (.int .i64 1)), none, 0⟩] [(9, (.loc 0))]))))))
     (.seq (.region [] [(14, (.tmp 8))])
     (.cond (.tmp 14)
      (.seq (.region [⟨.iaddr 1 (.tmp 5) (.tmp 7), none, 0⟩, ⟨.load none (.loc 0), none, 0⟩] [(3, (.loc 0)), (4, (.const (.bool true)))])
       (.ret))
      (.skip))))))
    (.region [⟨.bin .add (.tmp 7) (.const (.int .i64 1)), none, 0⟩] [(7, (.loc 0))]))))))
  (.seq (.region [] [(3, (.const (.int .i64 0))), (4, (.const (.bool false)))])
  (.ret)))))⟩
theorem c82_ok : compileFn Try.prog false 82 = some c82 := by kernel_rfl
/-- louver/louverref14.Without -/
noncomputable def c83 : AFunc := ⟨[0, 1, 2, 3, 6, 7, 8, 9, 10, 11, 12, 30, 40, 52, 70], [.tmp 4],
  .seq (.region [⟨.box (.tmp 0), none, 0⟩] [(3, (.loc 0)), (4, (.const (.slice none 0 0)))])
  (.seq (.region [⟨.faddr 5 (.tmp 3), none, 0⟩, ⟨.load none (.loc 0), none, 0⟩, ⟨.len (.loc 0), none, 0⟩, ⟨.bin .add (.loc 0) (.const (.int .i64 1)), none, 0⟩] [(5, (.loc 0))])
  (.seq (.region [⟨.mkslice [(.bool false)] 1 (.tmp 5) (.tmp 5), none, 0⟩] [(6, (.loc 0))])
  (.seq (.seq (.region [⟨.bin .lss (.tmp 1) (.const (.int .i64 0)), none, 0⟩, ⟨.mov (.tmp 1), (some ((.loc 0), false)), 0⟩, ⟨.mov (.tmp 5), (some ((.loc 1), false)), 0⟩, ⟨.bin .geq (.loc 1) (.loc 0), (some ((.loc 2), false)), 0⟩, ⟨.pick (.loc 3) (.const (.bool true)) (.loc 0), none, 0⟩, ⟨.mov (.tmp 1), (some ((.loc 0), false)), 0⟩, ⟨.mov (.tmp 2), (some ((.loc 1), false)), 0⟩, ⟨.bin .eql (.loc 1) (.loc 0), (some ((.loc 2), false)), 0⟩, ⟨.pick (.loc 3) (.const (.bool true)) (.loc 0), none, 0⟩] [(11, (.loc 0))])
   (.cond (.tmp 11)
    (.seq (.region [] [(4, (.tmp 6))])
     (.ret))
    (.skip)))
  (.seq (.region [⟨.iaddr 1 (.tmp 6) (.tmp 1), none, 0⟩, ⟨.store 1 (.loc 0) (.const (.bool true)), none, 0⟩] [])
  (.seq (.region [⟨.mkarr 1 [(.int .i64 0)] [(0, 1, (.tmp 1))], none, 0⟩] [(7, (.loc 0))])
  (.seq (.seq (.region [] [(8, (.const (.int .i64 0)))])
   (.block 0 (.loop (.seq (.seq (.region [⟨.len (.tmp 7), none, 0⟩, ⟨.bin .lss (.tmp 8) (.loc 0), none, 0⟩] [(12, (.loc 0))])
     (.cond (.tmp 12)
      (.skip)
      (.exit 0)))
    (.seq (.block 1 (.seq (.draw [⟨.load (some 6) (.tmp 3), none, 0⟩, ⟨.iaddr 1 (.tmp 7) (.tmp 8), none, 0⟩, ⟨.load none (.loc 0), none, 0⟩, ⟨.call (.func 65) [(.loc 2), (.loc 0)], none, 0⟩] [(9, (.loc 0))])
     (.seq (.region [] [(10, (.const (.int .i64 0)))])
     (.block 2 (.loop (.seq (.seq (.region [⟨.len (.tmp 9), none, 0⟩, ⟨.bin .lss (.tmp 10) (.loc 0), none, 0⟩] [(13, (.loc 0))])
       (.cond (.tmp 13)
        (.skip)
        (.exit 2)))
      (.seq (.block 3 (.seq (.region [⟨.iaddr 1 (.tmp 9) (.tmp 10), none, 0⟩, ⟨.load none (.loc 0), none, 0⟩, ⟨.iaddr 1 (.tmp 6) (.loc 0), none, 0⟩, ⟨.load none (.loc 0), none, 0⟩, ⟨.not (.loc 0), none, 0⟩, ⟨.mov (.tmp 9), (some ((.loc 0), true)), 0⟩, ⟨.mov (.tmp 10), (some ((.loc 1), true)), 0⟩, ⟨.iaddr 1 (.loc 1) (.loc 0), (some ((.loc 2), true)), 0⟩, ⟨.load none (.loc 0), (some ((.loc 3), true)), 0⟩, ⟨.mov (.tmp 2), (some ((.loc 4), true)), 0⟩, ⟨.bin .neq (.loc 1) (.loc 0), (some ((.loc 5), true)), 0⟩, ⟨.pick (.loc 6) (.loc 0) (.const (.bool false)), none, 0⟩] [(14, (.loc 0))])
       (.cond (.tmp 14)
        (.seq (.region [⟨.iaddr 1 (.tmp 9) (.tmp 10), none, 0⟩, ⟨.load none (.loc 0), none, 0⟩, ⟨.iaddr 1 (.tmp 6) (.loc 0), none, 0⟩, ⟨.store 1 (.loc 0) (.const (.bool true)), none, 0⟩] [])
         (.region [⟨.iaddr 1 (.tmp 9) (.tmp 10), none, 0⟩, ⟨.load none (.loc 0), none, 0⟩, ⟨.mkarr 1 [(.int .i64 0)] [(0, 1, (.loc 0))], none, 0⟩, ⟨.append false 1 8 (.tmp 7) (.loc 0), none, 0⟩] [(7, (.loc 0))]))
        (.skip))))
      (.region [⟨.bin .add (.tmp 10) (.const (.int .i64 1)), none, 0⟩] [(10, (.loc 0))]))))))))
    (.region [⟨.bin .add (.tmp 8) (.const (.int .i64 1)), none, 0⟩] [(8, (.loc 0))]))))))
  (.seq (.region [] [(4, (.tmp 6))])
  (.ret))))))))⟩
theorem c83_ok : compileFn Try.prog false 83 = some c83 := by kernel_rfl
/-- louver/graph.Exit$1 -/
noncomputable def c86 : AFunc := ⟨[0, 1, 3], [.tmp 2],
  .seq (.region [] [(2, (.const (.slice none 0 0)))])
  (.seq (.region [⟨.load none (.tmp 1), none, 0⟩, ⟨.iaddr 1 (.loc 0) (.tmp 0), none, 0⟩, ⟨.load none (.loc 0), none, 0⟩] [(2, (.loc 0))])
  (.ret))⟩
theorem c86_ok : compileFn Try.prog false 86 = some c86 := by kernel_rfl
/-- slices.Index[[]bool,bool] -/
noncomputable def c87 : AFunc := ⟨[0, 1, 4, 5, 7, 8, 9, 16], [.tmp 2],
  .seq (.region [] [(2, (.const (.int .i64 0)))])
  (.seq (.seq (.region [⟨.len (.tmp 0), none, 0⟩] [(4, (.loc 0)), (5, (.const (.int .i64 0)))])
   (.block 0 (.loop (.seq (.region [⟨.bin .lss (.tmp 5) (.tmp 4), none, 0⟩] [(6, (.loc 0))])
    (.seq (.cond (.tmp 6)
      (.skip)
      (.exit 0))
    (.seq (.block 1 (.seq (.region [] [(3, (.tmp 5))])
     (.seq (.region [⟨.iaddr 1 (.tmp 0) (.tmp 3), none, 0⟩, ⟨.load none (.loc 0), none, 0⟩, ⟨.beq false (.tmp 1) (.loc 0), none, 0⟩] [(7, (.loc 0))])
     (.cond (.tmp 7)
      (.seq (.region [] [(2, (.tmp 3))])
       (.ret))
      (.skip)))))
    (.region [⟨.bin .add (.tmp 5) (.const (.int .i64 1)), none, 0⟩] [(5, (.loc 0))])))))))
  (.seq (.region [] [(2, (.const (.int .i64 (-1))))])
  (.ret)))⟩
theorem c87_ok : compileFn Try.prog false 87 = some c87 := by kernel_rfl
/-- louver/post.above -/
noncomputable def c89 : AFunc := ⟨[0, 1, 2, 6, 18, 25], [.tmp 3],
  .seq (.region [] [(3, (.const (.bool false)))])
  (.seq (.seq (.region [⟨.len (.tmp 0), none, 0⟩, ⟨.bin .sub (.loc 0) (.const (.int .i64 1)), none, 0⟩, ⟨.bin .neq (.tmp 2) (.loc 0), none, 0⟩, ⟨.mov (.tmp 0), (some ((.loc 0), true)), 0⟩, ⟨.mov (.tmp 2), (some ((.loc 1), true)), 0⟩, ⟨.iaddr 1 (.loc 1) (.loc 0), (some ((.loc 2), true)), 0⟩, ⟨.load none (.loc 0), (some ((.loc 3), true)), 0⟩, ⟨.bin .lss (.loc 0) (.const (.int .i64 0)), (some ((.loc 4), true)), 0⟩, ⟨.pick (.loc 5) (.loc 0) (.const (.bool false)), none, 0⟩] [(4, (.loc 0))])
   (.cond (.tmp 4)
    (.seq (.region [] [(3, (.const (.bool false)))])
     (.ret))
    (.skip)))
  (.seq (.block 0 (.loop (.seq (.seq (.region [⟨.bin .geq (.tmp 2) (.const (.int .i64 0)), none, 0⟩, ⟨.mov (.tmp 2), (some ((.loc 0), true)), 0⟩, ⟨.mov (.tmp 1), (some ((.loc 1), true)), 0⟩, ⟨.bin .neq (.loc 1) (.loc 0), (some ((.loc 2), true)), 0⟩, ⟨.pick (.loc 3) (.loc 0) (.const (.bool false)), none, 0⟩] [(5, (.loc 0))])
     (.cond (.tmp 5)
      (.skip)
      (.exit 0)))
    (.block 1 (.region [⟨.iaddr 1 (.tmp 0) (.tmp 2), none, 0⟩, ⟨.load none (.loc 0), none, 0⟩] [(2, (.loc 0))])))))
  (.seq (.region [⟨.bin .eql (.tmp 2) (.tmp 1), none, 0⟩] [(3, (.loc 0))])
  (.ret))))⟩
theorem c89_ok : compileFn Try.prog false 89 = some c89 := by kernel_rfl
/-- louver/louverkit.Code -/
noncomputable def c105 : AFunc := ⟨[0, 1, 4, 5, 10, 14, 25], [.tmp 2],
  .seq (.region [] [(2, (.const (.bool false)))])
  (.seq (.seq (.region [⟨.len (.tmp 0), none, 0⟩, ⟨.len (.tmp 1), none, 0⟩, ⟨.bin .neq (.loc 1) (.loc 0), none, 0⟩] [(4, (.loc 0))])
   (.cond (.tmp 4)
    (.seq (.region [] [(2, (.const (.bool false)))])
     (.ret))
    (.skip)))
  (.seq (.seq (.region [] [(3, (.const (.int .i64 0)))])
   (.block 0 (.loop (.seq (.seq (.region [⟨.len (.tmp 0), none, 0⟩, ⟨.bin .lss (.tmp 3) (.loc 0), none, 0⟩] [(5, (.loc 0))])
     (.cond (.tmp 5)
      (.skip)
      (.exit 0)))
    (.seq (.block 1 (.seq (.draw [⟨.iaddr 2 (.tmp 0) (.tmp 3), none, 0⟩, ⟨.load (some 2) (.loc 0), none, 0⟩, ⟨.iaddr 2 (.tmp 1) (.tmp 3), none, 0⟩, ⟨.load (some 2) (.loc 0), none, 0⟩, ⟨.flat (.bin .neq 62 (.tmp 20) (.tmp 24)) [(.loc 2), (.loc 0)], none, 0⟩] [(6, (.loc 0))])
     (.cond (.tmp 6)
      (.seq (.region [] [(2, (.const (.bool false)))])
       (.ret))
      (.skip))))
    (.region [⟨.bin .add (.tmp 3) (.const (.int .i64 1)), none, 0⟩] [(3, (.loc 0))]))))))
  (.seq (.region [] [(2, (.const (.bool true)))])
  (.ret))))⟩
theorem c105_ok : compileFn Try.prog false 105 = some c105 := by kernel_rfl
/-- louver/louverref15.Dominates -/
noncomputable def c108 : AFunc := ⟨[0, 1, 2, 3, 6, 7, 8, 9, 28, 36], [.tmp 4],
  .seq (.region [⟨.box (.tmp 0), none, 0⟩] [(3, (.loc 0)), (4, (.const (.bool false)))])
  (.seq (.region [⟨.faddr 5 (.tmp 3), none, 0⟩, ⟨.load none (.loc 0), none, 0⟩, ⟨.len (.loc 0), none, 0⟩] [(5, (.loc 0))])
  (.seq (.seq (.region [⟨.bin .lss (.tmp 1) (.const (.int .i64 0)), none, 0⟩, ⟨.mov (.tmp 1), (some ((.loc 0), false)), 0⟩, ⟨.mov (.tmp 5), (some ((.loc 1), false)), 0⟩, ⟨.bin .gtr (.loc 1) (.loc 0), (some ((.loc 2), false)), 0⟩, ⟨.pick (.loc 3) (.const (.bool true)) (.loc 0), none, 0⟩, ⟨.mov (.tmp 2), (some ((.loc 0), false)), 0⟩, ⟨.bin .lss (.loc 0) (.const (.int .i64 0)), (some ((.loc 1), false)), 0⟩, ⟨.pick (.loc 2) (.const (.bool true)) (.loc 0), none, 0⟩, ⟨.mov (.tmp 2), (some ((.loc 0), false)), 0⟩, ⟨.mov (.tmp 5), (some ((.loc 1), false)), 0⟩, ⟨.bin .gtr (.loc 1) (.loc 0), (some ((.loc 2), false)), 0⟩, ⟨.pick (.loc 3) (.const (.bool true)) (.loc 0), none, 0⟩] [(8, (.loc 0))])
   (.cond (.tmp 8)
    (.seq (.region [] [(4, (.const (.bool false)))])
     (.ret))
    (.skip)))
  (.seq (.region [⟨.load (some 6) (.tmp 3), none, 0⟩, ⟨.call (.func 128) [(.loc 0), (.tmp 2)], none, 0⟩] [(6, (.loc 0))])
  (.seq (.seq (.region [⟨.iaddr 1 (.tmp 6) (.tmp 5), none, 0⟩, ⟨.load none (.loc 0), none, 0⟩, ⟨.not (.loc 0), none, 0⟩] [(9, (.loc 0))])
   (.cond (.tmp 9)
    (.seq (.region [] [(4, (.const (.bool false)))])
     (.ret))
    (.skip)))
  (.seq (.region [⟨.load (some 6) (.tmp 3), none, 0⟩, ⟨.call (.func 83) [(.loc 0), (.tmp 2), (.tmp 1)], none, 0⟩] [(7, (.loc 0))])
  (.seq (.region [⟨.iaddr 1 (.tmp 7) (.tmp 5), none, 0⟩, ⟨.load none (.loc 0), none, 0⟩, ⟨.not (.loc 0), none, 0⟩] [(4, (.loc 0))])
  (.ret)))))))⟩
theorem c108_ok : compileFn Try.prog false 108 = some c108 := by kernel_rfl
/-- louver/louverref14.Reach -/
noncomputable def c128 : AFunc := ⟨[0, 1, 2, 4], [.tmp 3],
  .seq (.region [⟨.box (.tmp 0), none, 0⟩] [(2, (.loc 0)), (3, (.const (.slice none 0 0)))])
  (.seq (.region [⟨.load (some 6) (.tmp 2), none, 0⟩, ⟨.call (.func 83) [(.loc 0), (.tmp 1), (.const (.int .i64 (-1)))], none, 0⟩] [(3, (.loc 0))])
  (.ret))⟩
theorem c128_ok : compileFn Try.prog false 128 = some c128 := by kernel_rfl
noncomputable def list : List (Option AFunc) := [none, none, none, none, none, none, none, none, some c8, none, none, some c11, some c12, none, none, none, none, none, none, none, none, none, none, none, none, none, none, none, none, some c29, none, none, some c32, none, none, some c35, some c36, some RegionAwake.c37, some c38, some RegionAwake.c39, some c40, some c41, some RegionAwake.c42, some c43, some c44, none, none, none, some c48, some c49, some c50, some c51, none, none, none, none, none, none, none, none, none, none, none, none, none, some c65, none, none, some c68, none, some RegionAwake.c70, some RegionAwake.c71, some c72, none, some c74, some RegionAwake.c75, some RegionAwake.c76, some RegionAwake.c77, some c78, some RegionAwake.c79, some RegionAwake.c80, some c81, some c82, some c83, none, some RegionAwake.c85, some c86, some c87, some RegionAwake.c88, some c89, none, none, none, none, none, none, none, some RegionAwake.c97, none, none, none, none, some RegionAwake.c102, some RegionAwake.c103, some RegionAwake.c104, some c105, some RegionAwake.c106, some RegionAwake.c107, some c108, some RegionAwake.c109, some RegionAwake.c110, some RegionAwake.c111, none, none, some RegionAwake.c114, none, none, some RegionAwake.c117, some RegionAwake.c118, some RegionAwake.c119, some RegionAwake.c120, some RegionAwake.c121, some RegionAwake.c122, some RegionAwake.c123, some RegionAwake.c124, some RegionAwake.c125, some RegionAwake.c126, some RegionAwake.c127, some c128, some RegionAwake.c129, some RegionAwake.c130, some RegionAwake.c131, some RegionAwake.c132, some RegionAwake.c133, some RegionAwake.c134, some RegionAwake.c135]
noncomputable def fns : TV (Option AFunc) := Vec.ofList list
def none1 (args : List Value) (H : AH TV) : Option (Value × AH TV) := match args with | [] => some (.bool true, H) | _ => none
noncomputable def ext (f : FuncId) (args : List Value) (H : AH TV) : Option (Value × AH TV) := bif Nat.beq f 34 then none1 args H else none
noncomputable def E : Env TV := { P := Try.prog, fn := fun f => (Vec.get fns f).getD none, ext := ext }
theorem all_ok : OkFrom Try.prog 0 list := ⟨⟨false, c8_ok⟩, ⟨⟨false, c11_ok⟩, ⟨⟨false, c12_ok⟩, ⟨⟨false, c29_ok⟩, ⟨⟨false, c32_ok⟩, ⟨⟨false, c35_ok⟩, ⟨⟨false, c36_ok⟩, ⟨⟨false, RegionAwake.c37_ok⟩, ⟨⟨false, c38_ok⟩, ⟨⟨false, RegionAwake.c39_ok⟩, ⟨⟨false, c40_ok⟩, ⟨⟨false, c41_ok⟩, ⟨⟨false, RegionAwake.c42_ok⟩, ⟨⟨false, c43_ok⟩, ⟨⟨false, c44_ok⟩, ⟨⟨false, c48_ok⟩, ⟨⟨false, c49_ok⟩, ⟨⟨false, c50_ok⟩, ⟨⟨false, c51_ok⟩, ⟨⟨false, c65_ok⟩, ⟨⟨false, c68_ok⟩, ⟨⟨false, RegionAwake.c70_ok⟩, ⟨⟨false, RegionAwake.c71_ok⟩, ⟨⟨false, c72_ok⟩, ⟨⟨false, c74_ok⟩, ⟨⟨false, RegionAwake.c75_ok⟩, ⟨⟨false, RegionAwake.c76_ok⟩, ⟨⟨false, RegionAwake.c77_ok⟩, ⟨⟨false, c78_ok⟩, ⟨⟨false, RegionAwake.c79_ok⟩, ⟨⟨false, RegionAwake.c80_ok⟩, ⟨⟨false, c81_ok⟩, ⟨⟨false, c82_ok⟩, ⟨⟨false, c83_ok⟩, ⟨⟨false, RegionAwake.c85_ok⟩, ⟨⟨false, c86_ok⟩, ⟨⟨false, c87_ok⟩, ⟨⟨false, RegionAwake.c88_ok⟩, ⟨⟨false, c89_ok⟩, ⟨⟨false, RegionAwake.c97_ok⟩, ⟨⟨false, RegionAwake.c102_ok⟩, ⟨⟨false, RegionAwake.c103_ok⟩, ⟨⟨false, RegionAwake.c104_ok⟩, ⟨⟨false, c105_ok⟩, ⟨⟨false, RegionAwake.c106_ok⟩, ⟨⟨false, RegionAwake.c107_ok⟩, ⟨⟨false, c108_ok⟩, ⟨⟨false, RegionAwake.c109_ok⟩, ⟨⟨false, RegionAwake.c110_ok⟩, ⟨⟨false, RegionAwake.c111_ok⟩, ⟨⟨false, RegionAwake.c114_ok⟩, ⟨⟨false, RegionAwake.c117_ok⟩, ⟨⟨false, RegionAwake.c118_ok⟩, ⟨⟨false, RegionAwake.c119_ok⟩, ⟨⟨false, RegionAwake.c120_ok⟩, ⟨⟨false, RegionAwake.c121_ok⟩, ⟨⟨false, RegionAwake.c122_ok⟩, ⟨⟨false, RegionAwake.c123_ok⟩, ⟨⟨false, RegionAwake.c124_ok⟩, ⟨⟨false, RegionAwake.c125_ok⟩, ⟨⟨false, RegionAwake.c126_ok⟩, ⟨⟨false, RegionAwake.c127_ok⟩, ⟨⟨false, c128_ok⟩, ⟨⟨false, RegionAwake.c129_ok⟩, ⟨⟨false, RegionAwake.c130_ok⟩, ⟨⟨false, RegionAwake.c131_ok⟩, ⟨⟨false, RegionAwake.c132_ok⟩, ⟨⟨false, RegionAwake.c133_ok⟩, ⟨⟨false, RegionAwake.c134_ok⟩, ⟨⟨false, RegionAwake.c135_ok⟩, trivial⟩⟩⟩⟩⟩⟩⟩⟩⟩⟩⟩⟩⟩⟩⟩⟩⟩⟩⟩⟩⟩⟩⟩⟩⟩⟩⟩⟩⟩⟩⟩⟩⟩⟩⟩⟩⟩⟩⟩⟩⟩⟩⟩⟩⟩⟩⟩⟩⟩⟩⟩⟩⟩⟩⟩⟩⟩⟩⟩⟩⟩⟩⟩⟩⟩⟩⟩⟩⟩⟩
theorem ext_ok (f : FuncId) (args : List Value) (H : AH TV) (v : Value) (H' : AH TV) (h : ext f args H = some (v, H')) : CallsOk Try.prog f args H v H' := by
  unfold ext at h
  cases hb : Nat.beq f 34 with
  | true =>
    have hf : f = 34 := Nat.eq_of_beq_eq_true hb
    rw [hb] at h
    cases args with
    | nil =>
      simp only [none1, cond_true, Option.some.injEq, Prod.mk.injEq] at h
      obtain ⟨rfl, rfl⟩ := h
      rw [hf]
      exact closed_ok RegionAwake.env_ok RegionAwake.run rfl H
    | cons a r => cases h
  | false =>
  rw [hb] at h
  cases h
theorem env_ok : EnvOk E := ⟨fun f fn h => fn_of all_ok h, ext_ok, draw_ok (by kernel_rfl)⟩
end Go.Proofs.Ytollibkfagjnaaa.Graph
