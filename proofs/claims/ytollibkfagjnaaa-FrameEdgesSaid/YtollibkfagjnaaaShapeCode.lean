/- The functions that louver/louverlaw17.FrameEdges reaches, compiled; that each is what 'compileFn' comes to. PRINTED by code.py. -/
import Derived.Test.YtollibkfagjnaaaAMb
import Derived.Test.YtollibkfagjnaaaFrameAwakeRun
import Derived.Test.YtollibkfagjnaaaFrIns
import Derived.Test.YtollibkfagjnaaaFrameAwakeCode
import Derived.Test.YtollibkfagjnaaaProg
import Derived.KernelRfl
set_option linter.unusedVariables false
set_option maxRecDepth 100000
namespace Go.Proofs.Ytollibkfagjnaaa.Shape
open Go.Proofs.Ytollibkfagjnaaa.AM
/-- louver/louverlaw17.FrameEdges -/
noncomputable def c6 : AFunc := ⟨[0, 1, 2, 4, 5, 6, 7, 8, 9, 10, 11, 12, 13, 15, 25, 45, 51, 72, 77, 122, 129, 156], [.tmp 3],
  .seq (.region [⟨.box (.tmp 0), none, 0⟩] [(2, (.loc 0)), (3, (.const (.bool false)))])
  (.seq (.seq (.region [⟨.call (.func 27) [], none, 0⟩, ⟨.not (.loc 0), none, 0⟩] [(13, (.loc 0))])
   (.cond (.tmp 13)
    (.seq (.region [] [(3, (.const (.bool false)))])
     (.ret))
    (.skip)))
  (.seq (.region [⟨.load (some 4) (.tmp 2), none, 0⟩, ⟨.call (.func 13) [(.loc 0)], none, 0⟩, ⟨.call (.func 20) [(.loc 0), (.tmp 1)], none, 0⟩, ⟨.ext (.loc 0) 0, none, 0⟩, ⟨.ext (.loc 1) 1, none, 0⟩, ⟨.alloc [(.int .i64 0), (.int .i64 0), (.int .i64 0)], none, 0⟩, ⟨.store 3 (.loc 0) (.loc 1), none, 0⟩] [(4, (.loc 3)), (5, (.loc 1))])
  (.seq (.seq (.region [⟨.load (some 3) (.tmp 5), none, 0⟩, ⟨.build [(.int .i64 0), (.int .i64 0), (.int .i64 0)] [], none, 0⟩, ⟨.flat (.bin .neq 41 (.tmp 23) (.tmp 24)) [(.loc 1), (.loc 0)], none, 0⟩] [(14, (.loc 0))])
   (.cond (.tmp 14)
    (.seq (.region [⟨.len (.tmp 4), none, 0⟩, ⟨.bin .eql (.loc 0) (.const (.int .i64 0)), none, 0⟩] [(3, (.loc 0))])
     (.ret))
    (.skip)))
  (.seq (.region [⟨.faddr 3 (.tmp 2), none, 0⟩, ⟨.load none (.loc 0), none, 0⟩, ⟨.iaddr 6 (.loc 0) (.tmp 1), none, 0⟩, ⟨.load (some 6) (.loc 0), none, 0⟩, ⟨.alloc [(.int .u64 0), (.slice none 0 0), (.slice none 0 0), (.int .i64 0), (.int .i64 0), (.slice none 0 0)], none, 0⟩, ⟨.store 6 (.loc 0) (.loc 1), none, 0⟩] [(6, (.loc 1))])
  (.seq (.seq (.region [⟨.len (.tmp 4), none, 0⟩, ⟨.faddr 5 (.tmp 6), none, 0⟩, ⟨.load none (.loc 0), none, 0⟩, ⟨.len (.loc 0), none, 0⟩, ⟨.bin .neq (.loc 3) (.loc 0), none, 0⟩, ⟨.mov (.tmp 4), (some ((.loc 0), false)), 0⟩, ⟨.iaddr 1 (.loc 0) (.const (.int .i64 0)), (some ((.loc 1), false)), 0⟩, ⟨.load none (.loc 0), (some ((.loc 2), false)), 0⟩, ⟨.bin .neq (.loc 0) (.const (.int .i64 0)), (some ((.loc 3), false)), 0⟩, ⟨.pick (.loc 4) (.const (.bool true)) (.loc 0), none, 0⟩] [(15, (.loc 0))])
   (.cond (.tmp 15)
    (.seq (.region [] [(3, (.const (.bool false)))])
     (.ret))
    (.skip)))
  (.seq (.region [⟨.load (some 6) (.tmp 6), none, 0⟩, ⟨.call (.func 31) [(.loc 0), (.const (.int .i64 0))], none, 0⟩] [(7, (.loc 0))])
  (.seq (.seq (.region [] [(8, (.const (.int .i64 0)))])
   (.block 0 (.loop (.seq (.seq (.region [⟨.len (.tmp 4), none, 0⟩, ⟨.bin .lss (.tmp 8) (.loc 0), none, 0⟩] [(16, (.loc 0))])
     (.cond (.tmp 16)
      (.skip)
      (.exit 0)))
    (.seq (.block 1 (.seq (.seq (.draw [⟨.iaddr 1 (.tmp 4) (.tmp 8), none, 0⟩, ⟨.load none (.loc 0), none, 0⟩, ⟨.bin .geq (.loc 0) (.const (.int .i64 0)), none, 0⟩, ⟨.iaddr 1 (.tmp 7) (.tmp 8), none, 0⟩, ⟨.load none (.loc 0), none, 0⟩, ⟨.beq true (.loc 2) (.loc 0), none, 0⟩, ⟨.mov (.tmp 4), (some ((.loc 0), false)), 0⟩, ⟨.mov (.tmp 8), (some ((.loc 1), false)), 0⟩, ⟨.iaddr 1 (.loc 1) (.loc 0), (some ((.loc 2), false)), 0⟩, ⟨.load none (.loc 0), (some ((.loc 3), false)), 0⟩, ⟨.faddr 4 (.tmp 6), (some ((.loc 4), false)), 0⟩, ⟨.load none (.loc 0), (some ((.loc 5), false)), 0⟩, ⟨.bin .gtr (.loc 2) (.loc 0), (some ((.loc 6), false)), 0⟩, ⟨.pick (.loc 7) (.const (.bool true)) (.loc 0), none, 0⟩] [(17, (.loc 0))])
      (.cond (.tmp 17)
       (.seq (.region [] [(3, (.const (.bool false)))])
        (.ret))
       (.skip)))
     (.seq (.seq (.region [⟨.iaddr 1 (.tmp 4) (.tmp 8), none, 0⟩, ⟨.load none (.loc 0), none, 0⟩, ⟨.bin .lss (.loc 0) (.const (.int .i64 0)), none, 0⟩] [(18, (.loc 0))])
      (.cond (.tmp 18)
       (.exit 1)
       (.skip)))
     (.seq (.region [⟨.load (some 4) (.tmp 2), none, 0⟩, ⟨.call (.func 22) [(.loc 0), (.tmp 1), (.tmp 8)], none, 0⟩, ⟨.ext (.loc 0) 0, none, 0⟩, ⟨.ext (.loc 1) 1, none, 0⟩] [(9, (.loc 1)), (10, (.loc 0))])
     (.seq (.seq (.draw [⟨.iaddr 1 (.tmp 4) (.tmp 8), none, 0⟩, ⟨.load none (.loc 0), none, 0⟩, ⟨.bin .lss (.loc 0) (.tmp 9), none, 0⟩, ⟨.mov (.tmp 4), (some ((.loc 0), false)), 0⟩, ⟨.mov (.tmp 8), (some ((.loc 1), false)), 0⟩, ⟨.iaddr 1 (.loc 1) (.loc 0), (some ((.loc 2), false)), 0⟩, ⟨.load none (.loc 0), (some ((.loc 3), false)), 0⟩, ⟨.mov (.tmp 9), (some ((.loc 4), false)), 0⟩, ⟨.bin .sub (.loc 1) (.loc 0), (some ((.loc 5), false)), 0⟩, ⟨.mov (.tmp 10), (some ((.loc 6), false)), 0⟩, ⟨.bin .add (.loc 1) (.loc 0), (some ((.loc 7), false)), 0⟩, ⟨.faddr 4 (.tmp 6), (some ((.loc 8), false)), 0⟩, ⟨.load none (.loc 0), (some ((.loc 9), false)), 0⟩, ⟨.bin .gtr (.loc 2) (.loc 0), (some ((.loc 10), false)), 0⟩, ⟨.pick (.loc 11) (.const (.bool true)) (.loc 0), none, 0⟩, ⟨.faddr 5 (.tmp 6), (some ((.loc 0), false)), 0⟩, ⟨.load none (.loc 0), (some ((.loc 1), false)), 0⟩, ⟨.mov (.tmp 8), (some ((.loc 2), false)), 0⟩, ⟨.iaddr 2 (.loc 1) (.loc 0), (some ((.loc 3), false)), 0⟩, ⟨.faddr 0 (.loc 0), (some ((.loc 4), false)), 0⟩, ⟨.load none (.loc 0), (some ((.loc 5), false)), 0⟩, ⟨.bin .eql (.loc 0) (.const (.int .i64 46)), (some ((.loc 6), false)), 0⟩, ⟨.mov (.loc 0), (some ((.loc 7), false)), 0⟩, ⟨.mov (.tmp 4), (some ((.loc 0), true)), 0⟩, ⟨.mov (.tmp 8), (some ((.loc 1), true)), 0⟩, ⟨.iaddr 1 (.loc 1) (.loc 0), (some ((.loc 2), true)), 0⟩, ⟨.load none (.loc 0), (some ((.loc 3), true)), 0⟩, ⟨.faddr 2 (.tmp 6), (some ((.loc 4), true)), 0⟩, ⟨.load none (.loc 0), (some ((.loc 5), true)), 0⟩, ⟨.len (.loc 0), (some ((.loc 6), true)), 0⟩, ⟨.bin .neq (.loc 3) (.loc 0), (some ((.loc 7), true)), 0⟩, ⟨.pick (.loc 8) (.loc 0) (.const (.bool false)), (some ((.loc 16), false)), 0⟩, ⟨.pick (.loc 17) (.const (.bool true)) (.loc 0), none, 0⟩] [(19, (.loc 0))])
      (.cond (.tmp 19)
       (.seq (.region [] [(3, (.const (.bool false)))])
        (.ret))
       (.skip)))
     (.seq (.region [⟨.load (some 6) (.tmp 6), none, 0⟩, ⟨.call (.func 32) [(.loc 0), (.tmp 8)], none, 0⟩] [(11, (.loc 0))])
     (.seq (.region [] [(12, (.const (.int .i64 0)))])
     (.block 2 (.loop (.seq (.seq (.region [⟨.len (.tmp 11), none, 0⟩, ⟨.bin .lss (.tmp 12) (.loc 0), none, 0⟩] [(20, (.loc 0))])
       (.cond (.tmp 20)
        (.skip)
        (.exit 2)))
      (.seq (.block 3 (.seq (.draw [⟨.iaddr 1 (.tmp 11) (.tmp 12), none, 0⟩, ⟨.load none (.loc 0), none, 0⟩, ⟨.len (.tmp 4), none, 0⟩, ⟨.bin .lss (.loc 1) (.loc 0), none, 0⟩, ⟨.mov (.tmp 4), (some ((.loc 0), true)), 0⟩, ⟨.mov (.tmp 11), (some ((.loc 1), true)), 0⟩, ⟨.mov (.tmp 12), (some ((.loc 2), true)), 0⟩, ⟨.iaddr 1 (.loc 1) (.loc 0), (some ((.loc 3), true)), 0⟩, ⟨.load none (.loc 0), (some ((.loc 4), true)), 0⟩, ⟨.iaddr 1 (.loc 4) (.loc 0), (some ((.loc 5), true)), 0⟩, ⟨.load none (.loc 0), (some ((.loc 6), true)), 0⟩, ⟨.mov (.tmp 4), (some ((.loc 7), true)), 0⟩, ⟨.mov (.tmp 8), (some ((.loc 8), true)), 0⟩, ⟨.iaddr 1 (.loc 1) (.loc 0), (some ((.loc 9), true)), 0⟩, ⟨.load none (.loc 0), (some ((.loc 10), true)), 0⟩, ⟨.mov (.tmp 9), (some ((.loc 11), true)), 0⟩, ⟨.bin .sub (.loc 1) (.loc 0), (some ((.loc 12), true)), 0⟩, ⟨.mov (.tmp 10), (some ((.loc 13), true)), 0⟩, ⟨.bin .add (.loc 1) (.loc 0), (some ((.loc 14), true)), 0⟩, ⟨.bin .neq (.loc 8) (.loc 0), (some ((.loc 15), true)), 0⟩, ⟨.pick (.loc 16) (.loc 0) (.const (.bool false)), none, 0⟩] [(21, (.loc 0))])
       (.cond (.tmp 21)
        (.seq (.region [] [(3, (.const (.bool false)))])
         (.ret))
        (.skip))))
      (.region [⟨.bin .add (.tmp 12) (.const (.int .i64 1)), none, 0⟩] [(12, (.loc 0))]))))))))))))
    (.region [⟨.bin .add (.tmp 8) (.const (.int .i64 1)), none, 0⟩] [(8, (.loc 0))]))))))
  (.seq (.region [] [(3, (.const (.bool true)))])
  (.ret)))))))))⟩
theorem c6_ok : compileFn Try.prog false 6 = some c6 := by kernel_rfl
/-- louver/louverkit.LentModule -/
noncomputable def c13 : AFunc := ⟨[0, 1, 2, 3, 4, 5, 6, 19], [.cell 2 (some 4)],
  .seq (.region [⟨.box (.tmp 0), none, 0⟩, ⟨.alloc [(.slice none 0 0), (.slice none 0 0), (.slice none 0 0), (.slice none 0 0)], none, 0⟩] [(1, (.loc 1)), (2, (.loc 0))])
  (.seq (.region [] [(3, (.const (.slice none 0 0)))])
  (.seq (.region [⟨.faddr 1 (.tmp 1), none, 0⟩, ⟨.load none (.loc 0), none, 0⟩, ⟨.append false 2 16 (.tmp 3) (.loc 0), none, 0⟩] [(3, (.loc 0))])
  (.seq (.region [⟨.build [(.int .i64 0), (.int .u64 0)] [(0, 1, (.const (.int .i64 (-71))))], none, 0⟩, ⟨.mkarr 1 [(.int .i64 0), (.int .u64 0)] [(0, 2, (.loc 0))], none, 0⟩, ⟨.append false 2 16 (.tmp 3) (.loc 0), none, 0⟩] [(3, (.loc 0))])
  (.seq (.region [] [(4, (.const (.slice none 0 0)))])
  (.seq (.seq (.region [] [(5, (.const (.int .i64 0)))])
   (.block 0 (.loop (.seq (.seq (.region [⟨.faddr 3 (.tmp 1), none, 0⟩, ⟨.load none (.loc 0), none, 0⟩, ⟨.len (.loc 0), none, 0⟩, ⟨.bin .lss (.tmp 5) (.loc 0), none, 0⟩] [(7, (.loc 0))])
     (.cond (.tmp 7)
      (.skip)
      (.exit 0)))
    (.seq (.block 1 (.seq (.region [⟨.faddr 3 (.tmp 1), none, 0⟩, ⟨.load none (.loc 0), none, 0⟩, ⟨.iaddr 6 (.loc 0) (.tmp 5), none, 0⟩, ⟨.load (some 6) (.loc 0), none, 0⟩, ⟨.call (.func 35) [(.loc 0)], none, 0⟩, ⟨.alloc [(.int .u64 0), (.slice none 0 0), (.slice none 0 0), (.int .i64 0), (.int .i64 0), (.slice none 0 0)], none, 0⟩, ⟨.store 6 (.loc 0) (.loc 1), none, 0⟩] [(6, (.loc 1))])
     (.region [⟨.load (some 6) (.tmp 6), none, 0⟩, ⟨.mkarr 1 [(.int .u64 0), (.slice none 0 0), (.slice none 0 0), (.int .i64 0), (.int .i64 0), (.slice none 0 0)] [(0, 6, (.loc 0))], none, 0⟩, ⟨.append false 6 96 (.tmp 4) (.loc 0), none, 0⟩] [(4, (.loc 0))])))
    (.region [⟨.bin .add (.tmp 5) (.const (.int .i64 1)), none, 0⟩] [(5, (.loc 0))]))))))
  (.seq (.region [⟨.build [(.int .u64 0), (.slice none 0 0), (.slice none 0 0), (.int .i64 0), (.int .i64 0), (.slice none 0 0)] [(4, 1, (.const (.int .i64 (-71))))], none, 0⟩, ⟨.mkarr 1 [(.int .u64 0), (.slice none 0 0), (.slice none 0 0), (.int .i64 0), (.int .i64 0), (.slice none 0 0)] [(0, 6, (.loc 0))], none, 0⟩, ⟨.append false 6 96 (.tmp 4) (.loc 0), none, 0⟩] [(4, (.loc 0))])
  (.seq (.draw [⟨.faddr 0 (.tmp 1), none, 0⟩, ⟨.load none (.loc 0), none, 0⟩, ⟨.call (.func 36) [(.loc 0)], none, 0⟩, ⟨.faddr 2 (.tmp 1), none, 0⟩, ⟨.load none (.loc 0), none, 0⟩, ⟨.call (.func 36) [(.loc 0)], none, 1⟩, ⟨.faddr 1 (.tmp 1), none, 0⟩, ⟨.load none (.loc 0), none, 0⟩, ⟨.len (.loc 0), none, 0⟩, ⟨.slice 2 (.tmp 3) none (some (.loc 0)) none, none, 0⟩, ⟨.faddr 3 (.tmp 1), none, 0⟩, ⟨.load none (.loc 0), none, 0⟩, ⟨.len (.loc 0), none, 0⟩, ⟨.slice 6 (.tmp 4) none (some (.loc 0)) none, none, 0⟩, ⟨.build [(.slice none 0 0), (.slice none 0 0), (.slice none 0 0), (.slice none 0 0)] [(0, 1, (.loc 11)), (1, 1, (.loc 4)), (2, 1, (.loc 8)), (3, 1, (.loc 0))], none, 2⟩, ⟨.store 4 (.tmp 2) (.loc 0), none, 2⟩] [])
  (.ret))))))))⟩
theorem c13_ok : compileFn Try.prog false 13 = some c13 := by kernel_rfl
noncomputable abbrev c20 : AFunc := FrameAwake.c20
/-- louver/frame.Effect -/
noncomputable def c22 : AFunc := ⟨[0, 1, 2, 3, 6, 7, 12], [.tmp 4, .tmp 5],
  .seq (.region [⟨.box (.tmp 0), none, 0⟩] [(3, (.loc 0)), (4, (.const (.int .i64 0))), (5, (.const (.int .i64 0)))])
  (.seq (.seq (.region [⟨.load (some 4) (.tmp 3), none, 0⟩, ⟨.call (.func 52) [(.loc 0), (.tmp 1), (.tmp 2)], none, 0⟩, ⟨.not (.loc 0), none, 0⟩] [(6, (.loc 0))])
   (.cond (.tmp 6)
    (.seq (.region [] [(4, (.const (.int .i64 0))), (5, (.const (.int .i64 0)))])
     (.ret))
    (.skip)))
  (.seq (.draw [⟨.load (some 4) (.tmp 3), none, 0⟩, ⟨.faddr 3 (.tmp 3), none, 0⟩, ⟨.load none (.loc 0), none, 0⟩, ⟨.iaddr 6 (.loc 0) (.tmp 1), none, 0⟩, ⟨.faddr 5 (.loc 0), none, 0⟩, ⟨.load none (.loc 0), none, 0⟩, ⟨.iaddr 2 (.loc 0) (.tmp 2), none, 0⟩, ⟨.load (some 2) (.loc 0), none, 0⟩, ⟨.call (.func 54) [(.loc 7), (.tmp 1), (.loc 0)], none, 0⟩, ⟨.ext (.loc 0) 0, none, 1⟩, ⟨.ext (.loc 1) 1, none, 1⟩] [(4, (.loc 1)), (5, (.loc 0))])
  (.ret)))⟩
theorem c22_ok : compileFn Try.prog false 22 = some c22 := by kernel_rfl
/-- louver/graph.Reach -/
noncomputable def c31 : AFunc := ⟨[0, 1, 2, 4], [.tmp 3],
  .seq (.region [⟨.box (.tmp 0), none, 0⟩] [(2, (.loc 0)), (3, (.const (.slice none 0 0)))])
  (.seq (.region [⟨.faddr 5 (.tmp 2), none, 0⟩, ⟨.load none (.loc 0), none, 0⟩, ⟨.len (.loc 0), none, 0⟩, ⟨.bin .add (.loc 0) (.const (.int .i64 1)), none, 0⟩, ⟨.mkfn 69 [] [(.tmp 2)], none, 0⟩, ⟨.call (.func 68) [(.loc 1), (.tmp 1), (.loc 0)], none, 0⟩] [(3, (.loc 0))])
  (.ret))⟩
theorem c31_ok : compileFn Try.prog false 31 = some c31 := by kernel_rfl
noncomputable abbrev c32 : AFunc := FrameAwake.c32
/-- louver/louverkit.LentFunction -/
noncomputable def c35 : AFunc := ⟨[0, 1, 2], [.cell 2 (some 6)],
  .seq (.region [⟨.box (.tmp 0), none, 0⟩, ⟨.alloc [(.int .u64 0), (.slice none 0 0), (.slice none 0 0), (.int .i64 0), (.int .i64 0), (.slice none 0 0)], none, 0⟩] [(1, (.loc 1)), (2, (.loc 0))])
  (.seq (.region [⟨.faddr 1 (.tmp 1), none, 0⟩, ⟨.load none (.loc 0), none, 0⟩, ⟨.call (.func 36) [(.loc 0)], none, 0⟩, ⟨.faddr 1 (.tmp 1), none, 0⟩, ⟨.store 1 (.loc 0) (.loc 1), none, 0⟩] [])
  (.seq (.region [⟨.faddr 2 (.tmp 1), none, 0⟩, ⟨.load none (.loc 0), none, 0⟩, ⟨.call (.func 36) [(.loc 0)], none, 0⟩, ⟨.faddr 2 (.tmp 1), none, 0⟩, ⟨.store 1 (.loc 0) (.loc 1), none, 0⟩] [])
  (.seq (.region [⟨.faddr 5 (.tmp 1), none, 0⟩, ⟨.load none (.loc 0), none, 0⟩, ⟨.call (.func 74) [(.loc 0)], none, 0⟩, ⟨.faddr 5 (.tmp 1), none, 0⟩, ⟨.store 1 (.loc 0) (.loc 1), none, 0⟩] [])
  (.seq (.region [⟨.load (some 6) (.tmp 1), none, 0⟩, ⟨.store 6 (.tmp 2) (.loc 0), none, 0⟩] [])
  (.ret)))))⟩
theorem c35_ok : compileFn Try.prog false 35 = some c35 := by kernel_rfl
/-- louver/louverkit.LentLabels -/
noncomputable def c36 : AFunc := ⟨[0, 2, 3], [.tmp 1],
  .seq (.region [] [(1, (.const (.slice none 0 0)))])
  (.seq (.region [] [(2, (.const (.slice none 0 0)))])
  (.seq (.region [⟨.append false 1 8 (.tmp 2) (.tmp 0), none, 0⟩] [(2, (.loc 0))])
  (.seq (.region [⟨.mkarr 1 [(.int .u64 0)] [(0, 1, (.const (.int .u64 7171)))], none, 0⟩, ⟨.append false 1 8 (.tmp 2) (.loc 0), none, 0⟩] [(2, (.loc 0))])
  (.seq (.region [⟨.len (.tmp 0), none, 0⟩, ⟨.slice 1 (.tmp 2) none (some (.loc 0)) none, none, 0⟩] [(1, (.loc 0))])
  (.ret)))))⟩
theorem c36_ok : compileFn Try.prog false 36 = some c36 := by kernel_rfl
noncomputable abbrev c52 : AFunc := FrameAwake.c52
noncomputable abbrev c53 : AFunc := FrameAwake.c53
noncomputable abbrev c54 : AFunc := FrameAwake.c54
noncomputable abbrev c60 : AFunc := FrameAwake.c60
noncomputable abbrev c61 : AFunc := FrameAwake.c61
noncomputable abbrev c62 : AFunc := FrameAwake.c62
/-- louver/graph.visit -/
noncomputable def c68 : AFunc := ⟨[0, 1, 2, 6, 7, 8, 9, 11, 20, 29, 38, 39, 40, 41, 48], [.tmp 3],
  .seq (.region [] [(3, (.const (.slice none 0 0)))])
  (.scope (.seq (.region [⟨.mkslice [(.bool false)] 1 (.tmp 0) (.tmp 0), none, 0⟩] [(4, (.loc 0))])
  (.seq (.seq (.region [⟨.bin .lss (.tmp 1) (.const (.int .i64 0)), none, 0⟩, ⟨.mov (.tmp 1), (some ((.loc 0), false)), 0⟩, ⟨.mov (.tmp 0), (some ((.loc 1), false)), 0⟩, ⟨.bin .geq (.loc 1) (.loc 0), (some ((.loc 2), false)), 0⟩, ⟨.pick (.loc 3) (.const (.bool true)) (.loc 0), none, 0⟩] [(8, (.loc 0))])
   (.cond (.tmp 8)
    (.seq (.region [] [(3, (.tmp 4))])
     (.ret))
    (.skip)))
  (.seq (.region [⟨.iaddr 1 (.tmp 4) (.tmp 1), none, 0⟩, ⟨.store 1 (.loc 0) (.const (.bool true)), none, 0⟩] [])
  (.seq (.region [⟨.mkarr 1 [(.int .i64 0)] [(0, 1, (.tmp 1))], none, 0⟩] [(5, (.loc 0))])
  (.seq (.label 0)
  (.seq (.block 0 (.loop (.seq (.seq (.region [⟨.len (.tmp 5), none, 0⟩, ⟨.bin .gtr (.loc 0) (.const (.int .i64 0)), none, 0⟩] [(9, (.loc 0))])
     (.cond (.tmp 9)
      (.skip)
      (.exit 0)))
    (.block 1 (.seq (.region [⟨.len (.tmp 5), none, 0⟩, ⟨.bin .sub (.loc 0) (.const (.int .i64 1)), none, 0⟩, ⟨.iaddr 1 (.tmp 5) (.loc 0), none, 0⟩, ⟨.load none (.loc 0), none, 0⟩] [(6, (.loc 0))])
    (.seq (.seq (.region [⟨.call (.tmp 2) [(.tmp 6)], none, 0⟩, ⟨.len (.loc 0), none, 0⟩] [(10, (.loc 1)), (11, (.loc 0)), (12, (.const (.int .i64 0)))])
     (.block 2 (.loop (.seq (.region [⟨.bin .lss (.tmp 12) (.tmp 11), none, 0⟩] [(13, (.loc 0))])
      (.seq (.cond (.tmp 13)
        (.skip)
        (.exit 2))
      (.seq (.block 3 (.seq (.region [⟨.iaddr 1 (.tmp 10) (.tmp 12), none, 0⟩, ⟨.load none (.loc 0), none, 0⟩] [(7, (.loc 0))])
       (.seq (.region [⟨.iaddr 1 (.tmp 4) (.tmp 7), none, 0⟩, ⟨.load none (.loc 0), none, 0⟩, ⟨.not (.loc 0), none, 0⟩] [(14, (.loc 0))])
       (.cond (.tmp 14)
        (.seq (.region [⟨.iaddr 1 (.tmp 4) (.tmp 7), none, 0⟩, ⟨.store 1 (.loc 0) (.const (.bool true)), none, 0⟩] [])
         (.seq (.region [⟨.mkarr 1 [(.int .i64 0)] [(0, 1, (.tmp 7))], none, 0⟩, ⟨.append false 1 8 (.tmp 5) (.loc 0), none, 0⟩] [(5, (.loc 0))])
         (.exit 1)))
        (.skip)))))
      (.region [⟨.bin .add (.tmp 12) (.const (.int .i64 1)), none, 0⟩] [(12, (.loc 0))])))))))
    (.region [⟨.len (.tmp 5), none, 0⟩, ⟨.bin .sub (.loc 0) (.const (.int .i64 1)), none, 0⟩, ⟨.slice 1 (.tmp 5) none (some (.loc 0)) none, none, 0⟩] [(5, (.loc 0))])))))))
  (.seq (.region [] [(3, (.tmp 4))])
  (.ret)))))))))⟩
theorem c68_ok : compileFn Try.prog false 68 = some c68 := by kernel_rfl
/-- louver/graph.Reach$1 -/
noncomputable def c69 : AFunc := ⟨[0, 1, 3], [.tmp 2],
  .seq (.region [] [(2, (.const (.slice none 0 0)))])
  (.seq (.region [⟨.load (some 6) (.tmp 1), none, 0⟩, ⟨.call (.func 32) [(.loc 0), (.tmp 0)], none, 0⟩] [(2, (.loc 0))])
  (.ret))⟩
theorem c69_ok : compileFn Try.prog false 69 = some c69 := by kernel_rfl
noncomputable abbrev c70 : AFunc := FrameAwake.c70
noncomputable abbrev c71 : AFunc := FrameAwake.c71
noncomputable abbrev c72 : AFunc := FrameAwake.c72
/-- louver/louverkit.LentCode -/
noncomputable def c74 : AFunc := ⟨[0, 2, 3], [.tmp 1],
  .seq (.region [] [(1, (.const (.slice none 0 0)))])
  (.seq (.region [] [(2, (.const (.slice none 0 0)))])
  (.seq (.region [⟨.append false 2 16 (.tmp 2) (.tmp 0), none, 0⟩] [(2, (.loc 0))])
  (.seq (.region [⟨.build [(.int .i64 0), (.int .i64 0)] [(0, 1, (.const (.int .i64 (-71))))], none, 0⟩, ⟨.mkarr 1 [(.int .i64 0), (.int .i64 0)] [(0, 2, (.loc 0))], none, 0⟩, ⟨.append false 2 16 (.tmp 2) (.loc 0), none, 0⟩] [(2, (.loc 0))])
  (.seq (.region [⟨.len (.tmp 0), none, 0⟩, ⟨.slice 2 (.tmp 2) none (some (.loc 0)) none, none, 0⟩] [(1, (.loc 0))])
  (.ret)))))⟩
theorem c74_ok : compileFn Try.prog false 74 = some c74 := by kernel_rfl
noncomputable abbrev c94 : AFunc := FrameAwake.c94
noncomputable abbrev c95 : AFunc := FrameAwake.c95
noncomputable abbrev c96 : AFunc := FrameAwake.c96
noncomputable abbrev c97 : AFunc := FrameAwake.c97
noncomputable abbrev c98 : AFunc := FrameAwake.c98
noncomputable abbrev c102 : AFunc := FrameAwake.c102
noncomputable abbrev c112 : AFunc := FrameAwake.c112
noncomputable abbrev c113 : AFunc := FrameAwake.c113
noncomputable abbrev c114 : AFunc := FrameAwake.c114
noncomputable def list : List (Option AFunc) := [none, none, none, none, none, none, some c6, none, none, none, none, none, none, some c13, none, none, none, none, none, none, some FrameAwake.c20, none, some c22, none, none, none, none, none, none, none, none, some c31, some FrameAwake.c32, none, none, some c35, some c36, none, none, none, none, none, none, none, none, none, none, none, none, none, none, none, some FrameAwake.c52, some FrameAwake.c53, some FrameAwake.c54, none, none, none, none, none, some FrameAwake.c60, some FrameAwake.c61, some FrameAwake.c62, none, none, none, none, none, some c68, some c69, some FrameAwake.c70, some FrameAwake.c71, some FrameAwake.c72, none, some c74, none, none, none, none, none, none, none, none, none, none, none, none, none, none, none, none, none, none, none, some FrameAwake.c94, some FrameAwake.c95, some FrameAwake.c96, some FrameAwake.c97, some FrameAwake.c98, none, none, none, some FrameAwake.c102, none, none, none, none, none, none, none, none, none, some FrameAwake.c112, some FrameAwake.c113, some FrameAwake.c114]
noncomputable def fns : TV (Option AFunc) := Vec.ofList list
def none1 (args : List Value) (H : AH TV) : Option (Value × AH TV) := match args with | [] => some (.bool true, H) | _ => none
noncomputable def ext (f : FuncId) (args : List Value) (H : AH TV) : Option (Value × AH TV) := bif Nat.beq f 63 then ains 63 f args H else bif Nat.beq f 27 then none1 args H else none
noncomputable def E : Env TV := { P := Try.prog, fn := fun f => (Vec.get fns f).getD none, ext := ext }
theorem all_ok : OkFrom Try.prog 0 list := ⟨⟨false, c6_ok⟩, ⟨⟨false, c13_ok⟩, ⟨⟨false, FrameAwake.c20_ok⟩, ⟨⟨false, c22_ok⟩, ⟨⟨false, c31_ok⟩, ⟨⟨false, FrameAwake.c32_ok⟩, ⟨⟨false, c35_ok⟩, ⟨⟨false, c36_ok⟩, ⟨⟨false, FrameAwake.c52_ok⟩, ⟨⟨false, FrameAwake.c53_ok⟩, ⟨⟨false, FrameAwake.c54_ok⟩, ⟨⟨false, FrameAwake.c60_ok⟩, ⟨⟨false, FrameAwake.c61_ok⟩, ⟨⟨false, FrameAwake.c62_ok⟩, ⟨⟨false, c68_ok⟩, ⟨⟨false, c69_ok⟩, ⟨⟨false, FrameAwake.c70_ok⟩, ⟨⟨false, FrameAwake.c71_ok⟩, ⟨⟨false, FrameAwake.c72_ok⟩, ⟨⟨false, c74_ok⟩, ⟨⟨false, FrameAwake.c94_ok⟩, ⟨⟨false, FrameAwake.c95_ok⟩, ⟨⟨false, FrameAwake.c96_ok⟩, ⟨⟨false, FrameAwake.c97_ok⟩, ⟨⟨false, FrameAwake.c98_ok⟩, ⟨⟨false, FrameAwake.c102_ok⟩, ⟨⟨false, FrameAwake.c112_ok⟩, ⟨⟨false, FrameAwake.c113_ok⟩, ⟨⟨false, FrameAwake.c114_ok⟩, trivial⟩⟩⟩⟩⟩⟩⟩⟩⟩⟩⟩⟩⟩⟩⟩⟩⟩⟩⟩⟩⟩⟩⟩⟩⟩⟩⟩⟩⟩
theorem ext_ok (f : FuncId) (args : List Value) (H : AH TV) (v : Value) (H' : AH TV) (h : ext f args H = some (v, H')) : CallsOk Try.prog f args H v H' := by
  unfold ext at h
  cases hb : Nat.beq f 63 with
  | true =>
    rw [hb] at h
    exact FrIns.ins_ok h
  | false =>
  rw [hb] at h
  cases hb : Nat.beq f 27 with
  | true =>
    have hf : f = 27 := Nat.eq_of_beq_eq_true hb
    rw [hb] at h
    cases args with
    | nil =>
      simp only [none1, cond_true, Option.some.injEq, Prod.mk.injEq] at h
      obtain ⟨rfl, rfl⟩ := h
      rw [hf]
      exact closed_ok FrameAwake.env_ok FrameAwake.run rfl H
    | cons a r => cases h
  | false =>
  rw [hb] at h
  cases h
theorem env_ok : EnvOk E := ⟨fun f fn h => fn_of all_ok h, ext_ok, draw_ok (by kernel_rfl)⟩
end Go.Proofs.Ytollibkfagjnaaa.Shape
