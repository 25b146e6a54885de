/- The functions that louver/louverlaw14.awake reaches, compiled; that each is what 'compileFn' comes to. PRINTED by code.py. -/
import Derived.Test.YtdbehmepikhghaaAMb
import Derived.Test.YtdbehmepikhghaaProg
import Derived.KernelRfl
set_option linter.unusedVariables false
set_option maxRecDepth 100000
namespace Go.Proofs.Ytdbehmepikhghaa.GraphAwake
open Go.Proofs.Ytdbehmepikhghaa.AM
/-- louver/louverlaw14.awake -/
noncomputable def c12 : AFunc := ⟨[0, 1], [.tmp 0],
  .seq (.region [] [(0, (.const (.bool false)))])
  (.seq (.region [⟨.call (.func 27) [], none, 0⟩, ⟨.alloc [(.int .u64 0), (.slice none 0 0), (.slice none 0 0), (.int .i64 0), (.int .i64 0), (.slice none 0 0)], none, 0⟩, ⟨.store 6 (.loc 0) (.loc 1), none, 0⟩] [(1, (.loc 1))])
  (.seq (.region [⟨.load (some 6) (.tmp 1), none, 0⟩, ⟨.call (.func 17) [(.loc 0), (.const (.int .i64 1))], none, 0⟩, ⟨.mkarr 2 [(.int .i64 0), (.int .i64 0)] [(0, 1, (.const (.int .i64 2))), (1, 1, (.const (.int .i64 4)))], none, 0⟩, ⟨.call (.func 16) [(.loc 1), (.loc 0)], none, 0⟩, ⟨.load (some 6) (.tmp 1), (some ((.loc 0), true)), 0⟩, ⟨.call (.func 17) [(.loc 0), (.const (.int .i64 4))], (some ((.loc 1), true)), 0⟩, ⟨.mkarr 1 [(.int .i64 0)] [(0, 1, (.const (.int .i64 5)))], (some ((.loc 2), true)), 0⟩, ⟨.call (.func 16) [(.loc 1), (.loc 0)], (some ((.loc 3), true)), 0⟩, ⟨.pick (.loc 4) (.loc 0) (.const (.bool false)), none, 0⟩, ⟨.load (some 6) (.tmp 1), (some ((.loc 0), true)), 0⟩, ⟨.call (.func 18) [(.loc 0), (.const (.int .i64 1))], (some ((.loc 1), true)), 0⟩, ⟨.mkarr 2 [(.int .i64 0), (.int .i64 0)] [(0, 1, (.const (.int .i64 0))), (1, 1, (.const (.int .i64 3)))], (some ((.loc 2), true)), 0⟩, ⟨.call (.func 16) [(.loc 1), (.loc 0)], (some ((.loc 3), true)), 0⟩, ⟨.pick (.loc 4) (.loc 0) (.const (.bool false)), none, 0⟩, ⟨.load (some 6) (.tmp 1), (some ((.loc 0), true)), 0⟩, ⟨.call (.func 21) [(.loc 0), (.const (.int .i64 4))], (some ((.loc 1), true)), 0⟩, ⟨.mkarr 6 [(.bool false), (.bool false), (.bool false), (.bool false), (.bool false), (.bool false)] [(0, 1, (.const (.bool false))), (1, 1, (.const (.bool false))), (2, 1, (.const (.bool false))), (3, 1, (.const (.bool false))), (4, 1, (.const (.bool true))), (5, 1, (.const (.bool true)))], (some ((.loc 2), true)), 0⟩, ⟨.call (.func 20) [(.loc 1), (.loc 0)], (some ((.loc 3), true)), 0⟩, ⟨.pick (.loc 4) (.loc 0) (.const (.bool false)), none, 0⟩] [(0, (.loc 0))])
  (.ret)))⟩
theorem c12_ok : compileFn Try.prog false 12 = some c12 := by kernel_rfl
/-- louver/louverkit.Ints -/
noncomputable def c16 : AFunc := ⟨[0, 1, 4, 5, 10, 14, 25], [.tmp 2],
  .seq (.region [] [(2, (.const (.bool false)))])
  (.seq (.seq (.region [⟨.len (.tmp 0), none, 0⟩, ⟨.len (.tmp 1), none, 0⟩, ⟨.bin .neq (.loc 1) (.loc 0), none, 0⟩] [(4, (.loc 0))])
   (.cond (.tmp 4)
    (.seq (.region [] [(2, (.const (.bool false)))])
     (.ret))
    (.skip)))
  (.seq (.seq (.region [] [(3, (.const (.int .i64 0)))])
   (.block 0 (.loop (.seq (.seq (.region [⟨.len (.tmp 0), none, 0⟩, ⟨.bin .lss (.tmp 3) (.loc 0), none, 0⟩] [(5, (.loc 0))])
     (.cond (.tmp 5)
      (.skip)
      (.exit 0)))
    (.seq (.block 1 (.seq (.draw [⟨.iaddr 1 (.tmp 0) (.tmp 3), none, 0⟩, ⟨.load none (.loc 0), none, 0⟩, ⟨.iaddr 1 (.tmp 1) (.tmp 3), none, 0⟩, ⟨.load none (.loc 0), none, 0⟩, ⟨.bin .neq (.loc 2) (.loc 0), none, 0⟩] [(6, (.loc 0))])
     (.cond (.tmp 6)
      (.seq (.region [] [(2, (.const (.bool false)))])
       (.ret))
      (.skip))))
    (.region [⟨.bin .add (.tmp 3) (.const (.int .i64 1)), none, 0⟩] [(3, (.loc 0))]))))))
  (.seq (.region [] [(2, (.const (.bool true)))])
  (.ret))))⟩
theorem c16_ok : compileFn Try.prog false 16 = some c16 := by kernel_rfl
/-- louver/graph.Next -/
noncomputable def c17 : AFunc := ⟨[0, 1, 2, 4, 5, 6, 15], [.tmp 3],
  .seq (.region [⟨.box (.tmp 0), none, 0⟩] [(2, (.loc 0)), (3, (.const (.slice none 0 0)))])
  (.seq (.seq (.region [⟨.bin .lss (.tmp 1) (.const (.int .i64 0)), none, 0⟩, ⟨.mov (.tmp 1), (some ((.loc 0), false)), 0⟩, ⟨.faddr 5 (.tmp 2), (some ((.loc 1), false)), 0⟩, ⟨.load none (.loc 0), (some ((.loc 2), false)), 0⟩, ⟨.len (.loc 0), (some ((.loc 3), false)), 0⟩, ⟨.bin .geq (.loc 3) (.loc 0), (some ((.loc 4), false)), 0⟩, ⟨.pick (.loc 5) (.const (.bool true)) (.loc 0), none, 0⟩] [(6, (.loc 0))])
   (.cond (.tmp 6)
    (.seq (.region [] [(3, (.const (.slice none 0 0)))])
     (.ret))
    (.skip)))
  (.seq (.region [⟨.faddr 5 (.tmp 2), none, 0⟩, ⟨.load none (.loc 0), none, 0⟩, ⟨.call (.func 51) [(.loc 0), (.tmp 1)], none, 0⟩, ⟨.ext (.loc 0) 0, none, 0⟩, ⟨.ext (.loc 1) 1, none, 0⟩, ⟨.alloc [(.int .i64 0), (.int .i64 0)], none, 0⟩, ⟨.store 2 (.loc 0) (.loc 2), none, 0⟩] [(4, (.loc 1)), (5, (.loc 2))])
  (.seq (.region [⟨.slarr 2 1 (.tmp 4) none (some (.tmp 5)) none, none, 0⟩, ⟨.call (.func 53) [(.loc 0)], none, 0⟩, ⟨.call (.func 52) [(.loc 0)], none, 0⟩] [(3, (.loc 0))])
  (.ret))))⟩
theorem c17_ok : compileFn Try.prog false 17 = some c17 := by kernel_rfl
/-- louver/graph.Ahead -/
noncomputable def c18 : AFunc := ⟨[0, 1, 2, 3, 4, 5, 6, 7, 10, 11, 12, 15], [.tmp 4],
  .seq (.region [⟨.box (.tmp 0), none, 0⟩, ⟨.box (.tmp 1), none, 0⟩] [(2, (.loc 1)), (3, (.loc 0)), (4, (.const (.slice none 0 0)))])
  (.seq (.region [⟨.alloc [(.slice none 0 0)], none, 0⟩] [(5, (.loc 0))])
  (.seq (.seq (.region [⟨.faddr 5 (.tmp 2), none, 0⟩, ⟨.load none (.loc 0), none, 0⟩, ⟨.call (.func 49) [(.loc 0)], none, 0⟩] [(8, (.loc 0))])
   (.block 0 (.rangeFunc (.tmp 8) [(some 9), (some 10)]
    (.seq (.region [] [(6, (.tmp 9))])
     (.region [] [(7, (.tmp 10))]))
    (.block 1 (.seq (.region [⟨.load none (.tmp 3), none, 0⟩, ⟨.bin .eql (.tmp 7) (.loc 0), none, 0⟩] [(11, (.loc 0))])
     (.cond (.tmp 11)
      (.region [⟨.load none (.tmp 5), none, 0⟩, ⟨.mkarr 1 [(.int .i64 0)] [(0, 1, (.tmp 6))], none, 0⟩, ⟨.append false 1 8 (.loc 1) (.loc 0), none, 0⟩, ⟨.store 1 (.tmp 5) (.loc 0), none, 0⟩] [])
      (.skip)))))))
  (.seq (.region [⟨.load none (.tmp 5), none, 0⟩, ⟨.call (.func 52) [(.loc 0)], none, 0⟩] [(4, (.loc 0))])
  (.ret))))⟩
theorem c18_ok : compileFn Try.prog false 18 = some c18 := by kernel_rfl
/-- louver/louverkit.Bools -/
noncomputable def c20 : AFunc := ⟨[0, 1, 4, 5, 10, 14, 25], [.tmp 2],
  .seq (.region [] [(2, (.const (.bool false)))])
  (.seq (.seq (.region [⟨.len (.tmp 0), none, 0⟩, ⟨.len (.tmp 1), none, 0⟩, ⟨.bin .neq (.loc 1) (.loc 0), none, 0⟩] [(4, (.loc 0))])
   (.cond (.tmp 4)
    (.seq (.region [] [(2, (.const (.bool false)))])
     (.ret))
    (.skip)))
  (.seq (.seq (.region [] [(3, (.const (.int .i64 0)))])
   (.block 0 (.loop (.seq (.seq (.region [⟨.len (.tmp 0), none, 0⟩, ⟨.bin .lss (.tmp 3) (.loc 0), none, 0⟩] [(5, (.loc 0))])
     (.cond (.tmp 5)
      (.skip)
      (.exit 0)))
    (.seq (.block 1 (.seq (.draw [⟨.iaddr 1 (.tmp 0) (.tmp 3), none, 0⟩, ⟨.load none (.loc 0), none, 0⟩, ⟨.iaddr 1 (.tmp 1) (.tmp 3), none, 0⟩, ⟨.load none (.loc 0), none, 0⟩, ⟨.beq true (.loc 2) (.loc 0), none, 0⟩] [(6, (.loc 0))])
     (.cond (.tmp 6)
      (.seq (.region [] [(2, (.const (.bool false)))])
       (.ret))
      (.skip))))
    (.region [⟨.bin .add (.tmp 3) (.const (.int .i64 1)), none, 0⟩] [(3, (.loc 0))]))))))
  (.seq (.region [] [(2, (.const (.bool true)))])
  (.ret))))⟩
theorem c20_ok : compileFn Try.prog false 20 = some c20 := by kernel_rfl
/-- louver/graph.Reach -/
noncomputable def c21 : AFunc := ⟨[0, 1, 2, 4], [.tmp 3],
  .seq (.region [⟨.box (.tmp 0), none, 0⟩] [(2, (.loc 0)), (3, (.const (.slice none 0 0)))])
  (.seq (.region [⟨.faddr 5 (.tmp 2), none, 0⟩, ⟨.load none (.loc 0), none, 0⟩, ⟨.len (.loc 0), none, 0⟩, ⟨.bin .add (.loc 0) (.const (.int .i64 1)), none, 0⟩, ⟨.mkfn 56 [] [(.tmp 2)], none, 0⟩, ⟨.call (.func 55) [(.loc 1), (.tmp 1), (.loc 0)], none, 0⟩] [(3, (.loc 0))])
  (.ret))⟩
theorem c21_ok : compileFn Try.prog false 21 = some c21 := by kernel_rfl
/-- louver/louverlaw14.given -/
noncomputable def c27 : AFunc := ⟨[0], [.cell 0 (some 6)],
  .seq (.region [⟨.alloc [(.int .u64 0), (.slice none 0 0), (.slice none 0 0), (.int .i64 0), (.int .i64 0), (.slice none 0 0)], none, 0⟩] [(0, (.loc 0))])
  (.seq (.region [⟨.mkarr 10 [(.int .i64 0), (.int .i64 0), (.int .i64 0), (.int .i64 0), (.int .i64 0), (.int .i64 0), (.int .i64 0), (.int .i64 0), (.int .i64 0), (.int .i64 0)] [(0, 1, (.const (.int .i64 32))), (1, 1, (.const (.int .i64 1))), (2, 1, (.const (.int .i64 44))), (3, 1, (.const (.int .i64 4))), (4, 1, (.const (.int .i64 42))), (5, 1, (.const (.int .i64 0))), (6, 1, (.const (.int .i64 43))), (7, 1, (.const (.int .i64 1))), (8, 1, (.const (.int .i64 46))), (9, 1, (.const (.int .i64 0)))], none, 0⟩, ⟨.call (.func 28) [(.loc 0)], none, 0⟩, ⟨.store 6 (.tmp 0) (.loc 0), none, 0⟩] [])
  (.ret))⟩
theorem c27_ok : compileFn Try.prog false 27 = some c27 := by kernel_rfl
/-- louver/louverlaw14.code -/
noncomputable def c28 : AFunc := ⟨[0, 2, 3, 4, 9], [.cell 1 (some 6)],
  .seq (.region [⟨.alloc [(.int .u64 0), (.slice none 0 0), (.slice none 0 0), (.int .i64 0), (.int .i64 0), (.slice none 0 0)], none, 0⟩] [(1, (.loc 0))])
  (.seq (.region [⟨.alloc [(.int .u64 0), (.slice none 0 0), (.slice none 0 0), (.int .i64 0), (.int .i64 0), (.slice none 0 0)], none, 0⟩] [(2, (.loc 0))])
  (.seq (.seq (.region [] [(3, (.const (.int .i64 0)))])
   (.block 0 (.loop (.seq (.seq (.region [⟨.bin .add (.tmp 3) (.const (.int .i64 1)), none, 0⟩, ⟨.len (.tmp 0), none, 0⟩, ⟨.bin .lss (.loc 1) (.loc 0), none, 0⟩] [(4, (.loc 0))])
     (.cond (.tmp 4)
      (.skip)
      (.exit 0)))
    (.seq (.block 1 (.draw [⟨.faddr 5 (.tmp 2), none, 0⟩, ⟨.load none (.loc 0), none, 0⟩, ⟨.iaddr 1 (.tmp 0) (.tmp 3), none, 0⟩, ⟨.load none (.loc 0), none, 0⟩, ⟨.bin .add (.tmp 3) (.const (.int .i64 1)), none, 0⟩, ⟨.iaddr 1 (.tmp 0) (.loc 0), none, 0⟩, ⟨.load none (.loc 0), none, 0⟩, ⟨.build [(.int .i64 0), (.int .i64 0)] [(0, 1, (.loc 3)), (1, 1, (.loc 0))], none, 0⟩, ⟨.mkarr 1 [(.int .i64 0), (.int .i64 0)] [(0, 2, (.loc 0))], none, 0⟩, ⟨.append false 2 16 (.loc 7) (.loc 0), none, 0⟩, ⟨.faddr 5 (.tmp 2), none, 1⟩, ⟨.store 1 (.loc 0) (.loc 1), none, 1⟩] []))
    (.region [⟨.bin .add (.tmp 3) (.const (.int .i64 2)), none, 0⟩] [(3, (.loc 0))]))))))
  (.seq (.region [⟨.load (some 6) (.tmp 2), none, 0⟩, ⟨.store 6 (.tmp 1) (.loc 0), none, 0⟩] [])
  (.ret))))⟩
theorem c28_ok : compileFn Try.prog false 28 = some c28 := by kernel_rfl
/-- louver/graph.edges -/
noncomputable def c49 : AFunc := ⟨[0, 1, 2], [.tmp 2],
  .seq (.region [⟨.box (.tmp 0), none, 0⟩] [(1, (.loc 0)), (2, (.const .nilFunc))])
  (.seq (.region [⟨.mkfn 74 [] [(.tmp 1)], none, 0⟩] [(2, (.loc 0))])
  (.ret))⟩
theorem c49_ok : compileFn Try.prog false 49 = some c49 := by kernel_rfl
/-- louver/graph.to -/
noncomputable def c51 : AFunc := ⟨[0, 1, 4, 5, 6, 7, 8, 9, 10, 20, 26, 33, 45, 61], [.cell 2 (some 2), .tmp 3],
  .seq (.region [⟨.alloc [(.int .i64 0), (.int .i64 0)], none, 0⟩] [(2, (.loc 0)), (3, (.const (.int .i64 0)))])
  (.seq (.region [⟨.alloc [(.int .i64 0), (.int .i64 0)], none, 0⟩] [(4, (.loc 0))])
  (.seq (.region [⟨.alloc [(.int .i64 0)], none, 0⟩, ⟨.store 1 (.loc 0) (.const (.int .i64 0)), none, 0⟩] [(5, (.loc 1))])
  (.seq (.region [⟨.mkfn 75 [] [(.tmp 5), (.tmp 4)], none, 0⟩] [(6, (.loc 0))])
  (.seq (.region [⟨.len (.tmp 0), none, 0⟩, ⟨.bin .sub (.loc 0) (.const (.int .i64 1)), none, 0⟩] [(7, (.loc 0))])
  (.seq (.seq (.region [⟨.iaddr 2 (.tmp 0) (.tmp 1), none, 0⟩, ⟨.load (some 2) (.loc 0), none, 0⟩, ⟨.alloc [(.int .i64 0), (.int .i64 0)], none, 0⟩, ⟨.store 2 (.loc 0) (.loc 1), none, 0⟩] [(8, (.loc 1))])
   (.seq (.region [⟨.faddr 0 (.tmp 8), none, 0⟩, ⟨.load none (.loc 0), none, 0⟩] [(9, (.loc 0))])
   (.block 0 (.seq (.region [⟨.bin .eql (.tmp 9) (.const (.int .i64 43)), none, 0⟩] [(10, (.loc 0))])
   (.cond (.tmp 10)
    (.region [⟨.faddr 1 (.tmp 8), none, 0⟩, ⟨.load none (.loc 0), none, 0⟩, ⟨.call (.tmp 6) [(.loc 0), (.tmp 7)], none, 0⟩] [])
    (.seq (.region [⟨.bin .eql (.tmp 9) (.const (.int .i64 44)), none, 0⟩] [(11, (.loc 0))])
     (.cond (.tmp 11)
      (.seq (.region [⟨.bin .add (.tmp 1) (.const (.int .i64 1)), none, 0⟩, ⟨.call (.tmp 6) [(.loc 0), (.tmp 7)], none, 0⟩] [])
       (.region [⟨.faddr 1 (.tmp 8), none, 0⟩, ⟨.load none (.loc 0), none, 0⟩, ⟨.call (.tmp 6) [(.loc 0), (.tmp 7)], none, 0⟩] []))
      (.seq (.region [⟨.bin .eql (.tmp 9) (.const (.int .i64 46)), none, 0⟩] [(12, (.loc 0))])
       (.cond (.tmp 12)
        (.region [⟨.bin .add (.tmp 7) (.const (.int .i64 1)), none, 0⟩, ⟨.bin .add (.tmp 7) (.const (.int .i64 1)), none, 0⟩, ⟨.call (.tmp 6) [(.loc 1), (.loc 0)], none, 0⟩] [])
        (.region [⟨.bin .add (.tmp 1) (.const (.int .i64 1)), none, 0⟩, ⟨.call (.tmp 6) [(.loc 0), (.tmp 7)], none, 0⟩] []))))))))))
  (.seq (.seq (.region [⟨.load none (.tmp 5), none, 0⟩, ⟨.bin .eql (.loc 0) (.const (.int .i64 2)), none, 0⟩, ⟨.iarr 2 1 (.tmp 4) (.const (.int .i64 0)), (some ((.loc 0), true)), 0⟩, ⟨.load none (.loc 0), (some ((.loc 1), true)), 0⟩, ⟨.iarr 2 1 (.tmp 4) (.const (.int .i64 1)), (some ((.loc 2), true)), 0⟩, ⟨.load none (.loc 0), (some ((.loc 3), true)), 0⟩, ⟨.bin .gtr (.loc 2) (.loc 0), (some ((.loc 4), true)), 0⟩, ⟨.pick (.loc 5) (.loc 0) (.const (.bool false)), none, 0⟩] [(13, (.loc 0))])
   (.cond (.tmp 13)
    (.region [⟨.iarr 2 1 (.tmp 4) (.const (.int .i64 1)), none, 0⟩, ⟨.load none (.loc 0), none, 0⟩, ⟨.iarr 2 1 (.tmp 4) (.const (.int .i64 0)), none, 0⟩, ⟨.load none (.loc 0), none, 0⟩, ⟨.iarr 2 1 (.tmp 4) (.const (.int .i64 0)), none, 0⟩, ⟨.store 1 (.loc 0) (.loc 3), none, 0⟩, ⟨.iarr 2 1 (.tmp 4) (.const (.int .i64 1)), none, 0⟩, ⟨.store 1 (.loc 0) (.loc 3), none, 0⟩] [])
    (.skip)))
  (.seq (.draw [⟨.load (some 2) (.tmp 4), none, 0⟩, ⟨.store 2 (.tmp 2) (.loc 0), none, 0⟩, ⟨.load none (.tmp 5), none, 0⟩] [(3, (.loc 0))])
  (.ret))))))))⟩
theorem c51_ok : compileFn Try.prog false 51 = some c51 := by kernel_rfl
/-- slices.Clip[[]int,int] -/
noncomputable def c52 : AFunc := ⟨[0, 2], [.tmp 1],
  .seq (.region [] [(1, (.const (.slice none 0 0)))])
  (.seq (.region [⟨.len (.tmp 0), none, 0⟩, ⟨.len (.tmp 0), none, 0⟩, ⟨.slice 1 (.tmp 0) none (some (.loc 1)) (some (.loc 0)), none, 0⟩] [(1, (.loc 0))])
  (.ret))⟩
theorem c52_ok : compileFn Try.prog false 52 = some c52 := by kernel_rfl
/-- slices.Clone[[]int,int] -/
noncomputable def c53 : AFunc := ⟨[0, 2, 4], [.tmp 1],
  .seq (.region [] [(1, (.const (.slice none 0 0)))])
  (.seq (.seq (.region [⟨.eqn 0 false (.tmp 0) (.const (.slice none 0 0)), none, 0⟩] [(2, (.loc 0))])
   (.cond (.tmp 2)
    (.seq (.region [] [(1, (.const (.slice none 0 0)))])
     (.ret))
    (.skip)))
  (.seq (.region [⟨.mkarr 0 [] [], none, 0⟩, ⟨.append false 1 8 (.loc 0) (.tmp 0), none, 0⟩] [(1, (.loc 0))])
  (.ret)))⟩
theorem c53_ok : compileFn Try.prog false 53 = some c53 := by kernel_rfl
/-- louver/graph.visit -/
noncomputable def c55 : AFunc := ⟨[0, 1, 2, 6, 7, 8, 9, 11, 20, 29, 38, 39, 40, 41, 48], [.tmp 3],
  .seq (.region [] [(3, (.const (.slice none 0 0)))])
  (.scope (.seq (.region [⟨.mkslice [(.bool false)] 1 (.tmp 0) (.tmp 0), none, 0⟩] [(4, (.loc 0))])
  (.seq (.seq (.region [⟨.bin .lss (.tmp 1) (.const (.int .i64 0)), none, 0⟩, ⟨.mov (.tmp 1), (some ((.loc 0), false)), 0⟩, ⟨.mov (.tmp 0), (some ((.loc 1), false)), 0⟩, ⟨.bin .geq (.loc 1) (.loc 0), (some ((.loc 2), false)), 0⟩, ⟨.pick (.loc 3) (.const (.bool true)) (.loc 0), none, 0⟩] [(8, (.loc 0))])
   (.cond (.tmp 8)
    (.seq (.region [] [(3, (.tmp 4))])
     (.ret))
    (.skip)))
  (.seq (.region [⟨.iaddr 1 (.tmp 4) (.tmp 1), none, 0⟩, ⟨.store 1 (.loc 0) (.const (.bool true)), none, 0⟩] [])
  (.seq (.region [⟨.mkarr 1 [(.int .i64 0)] [(0, 1, (.tmp 1))], none, 0⟩] [(5, (.loc 0))])
  (.seq (.label 0)
  (.seq (.block 0 (.loop (.seq (.seq (.region [⟨.len (.tmp 5), none, 0⟩, ⟨.bin .gtr (.loc 0) (.const (.int .i64 0)), none, 0⟩] [(9, (.loc 0))])
     (.cond (.tmp 9)
      (.skip)
      (.exit 0)))
    (.block 1 (.seq (.region [⟨.len (.tmp 5), none, 0⟩, ⟨.bin .sub (.loc 0) (.const (.int .i64 1)), none, 0⟩, ⟨.iaddr 1 (.tmp 5) (.loc 0), none, 0⟩, ⟨.load none (.loc 0), none, 0⟩] [(6, (.loc 0))])
    (.seq (.seq (.region [⟨.call (.tmp 2) [(.tmp 6)], none, 0⟩, ⟨.len (.loc 0), none, 0⟩] [(10, (.loc 1)), (11, (.loc 0)), (12, (.const (.int .i64 0)))])
     (.block 2 (.loop (.seq (.region [⟨.bin .lss (.tmp 12) (.tmp 11), none, 0⟩] [(13, (.loc 0))])
      (.seq (.cond (.tmp 13)
        (.skip)
        (.exit 2))
      (.seq (.block 3 (.seq (.region [⟨.iaddr 1 (.tmp 10) (.tmp 12), none, 0⟩, ⟨.load none (.loc 0), none, 0⟩] [(7, (.loc 0))])
       (.seq (.region [⟨.iaddr 1 (.tmp 4) (.tmp 7), none, 0⟩, ⟨.load none (.loc 0), none, 0⟩, ⟨.not (.loc 0), none, 0⟩] [(14, (.loc 0))])
       (.cond (.tmp 14)
        (.seq (.region [⟨.iaddr 1 (.tmp 4) (.tmp 7), none, 0⟩, ⟨.store 1 (.loc 0) (.const (.bool true)), none, 0⟩] [])
         (.seq (.region [⟨.mkarr 1 [(.int .i64 0)] [(0, 1, (.tmp 7))], none, 0⟩, ⟨.append false 1 8 (.tmp 5) (.loc 0), none, 0⟩] [(5, (.loc 0))])
         (.exit 1)))
        (.skip)))))
      (.region [⟨.bin .add (.tmp 12) (.const (.int .i64 1)), none, 0⟩] [(12, (.loc 0))])))))))
    (.region [⟨.len (.tmp 5), none, 0⟩, ⟨.bin .sub (.loc 0) (.const (.int .i64 1)), none, 0⟩, ⟨.slice 1 (.tmp 5) none (some (.loc 0)) none, none, 0⟩] [(5, (.loc 0))])))))))
  (.seq (.region [] [(3, (.tmp 4))])
  (.ret)))))))))⟩
theorem c55_ok : compileFn Try.prog false 55 = some c55 := by kernel_rfl
/-- louver/graph.Reach$1 -/
noncomputable def c56 : AFunc := ⟨[0, 1, 3], [.tmp 2],
  .seq (.region [] [(2, (.const (.slice none 0 0)))])
  (.seq (.region [⟨.load (some 6) (.tmp 1), none, 0⟩, ⟨.call (.func 17) [(.loc 0), (.tmp 0)], none, 0⟩] [(2, (.loc 0))])
  (.ret))⟩
theorem c56_ok : compileFn Try.prog false 56 = some c56 := by kernel_rfl
/-- louver/graph.edges$1 -/
noncomputable def c74 : AFunc := ⟨[0, 1, 3, 4, 5, 7, 9, 10, 11, 20, 21, 22, 23, 30], [],
  .seq (.region [⟨.load none (.tmp 1), none, 0⟩, ⟨.len (.loc 0), none, 0⟩] [(6, (.loc 0)), (7, (.const (.int .i64 0)))])
  (.block 0 (.loop (.seq (.region [⟨.bin .lss (.tmp 7) (.tmp 6), none, 0⟩] [(8, (.loc 0))])
   (.seq (.cond (.tmp 8)
     (.skip)
     (.exit 0))
   (.seq (.block 1 (.seq (.region [] [(2, (.tmp 7))])
    (.seq (.region [⟨.load none (.tmp 1), none, 0⟩, ⟨.call (.func 51) [(.loc 0), (.tmp 2)], none, 0⟩, ⟨.ext (.loc 0) 0, none, 0⟩, ⟨.ext (.loc 1) 1, none, 0⟩, ⟨.alloc [(.int .i64 0), (.int .i64 0)], none, 0⟩, ⟨.store 2 (.loc 0) (.loc 2), none, 0⟩] [(3, (.loc 1)), (4, (.loc 2))])
    (.seq (.region [⟨.slarr 2 1 (.tmp 3) none (some (.tmp 4)) none, none, 0⟩, ⟨.len (.loc 0), none, 0⟩] [(9, (.loc 1)), (10, (.loc 0)), (11, (.const (.int .i64 0)))])
    (.block 2 (.loop (.seq (.region [⟨.bin .lss (.tmp 11) (.tmp 10), none, 0⟩] [(12, (.loc 0))])
     (.seq (.cond (.tmp 12)
       (.skip)
       (.exit 2))
     (.seq (.block 3 (.seq (.region [⟨.iaddr 1 (.tmp 9) (.tmp 11), none, 0⟩, ⟨.load none (.loc 0), none, 0⟩] [(5, (.loc 0))])
      (.seq (.region [⟨.call (.tmp 0) [(.tmp 2), (.tmp 5)], none, 0⟩, ⟨.not (.loc 0), none, 0⟩] [(13, (.loc 0))])
      (.cond (.tmp 13)
       (.ret)
       (.skip)))))
     (.region [⟨.bin .add (.tmp 11) (.const (.int .i64 1)), none, 0⟩] [(11, (.loc 0))]))))))))))
   (.region [⟨.bin .add (.tmp 7) (.const (.int .i64 1)), none, 0⟩] [(7, (.loc 0))]))))))⟩
theorem c74_ok : compileFn Try.prog false 74 = some c74 := by kernel_rfl
/-- louver/graph.to$1 -/
noncomputable def c75 : AFunc := ⟨[0, 1, 2, 3, 22], [],
  .seq (.region [⟨.bin .geq (.tmp 0) (.const (.int .i64 0)), none, 0⟩, ⟨.mov (.tmp 0), (some ((.loc 0), true)), 0⟩, ⟨.mov (.tmp 1), (some ((.loc 1), true)), 0⟩, ⟨.bin .leq (.loc 1) (.loc 0), (some ((.loc 2), true)), 0⟩, ⟨.pick (.loc 3) (.loc 0) (.const (.bool false)), none, 0⟩, ⟨.load none (.tmp 2), (some ((.loc 0), true)), 0⟩, ⟨.bin .eql (.loc 0) (.const (.int .i64 0)), (some ((.loc 1), true)), 0⟩, ⟨.mov (.loc 0), (some ((.loc 2), true)), 0⟩, ⟨.iarr 2 1 (.tmp 3) (.const (.int .i64 0)), (some ((.loc 0), false)), 0⟩, ⟨.load none (.loc 0), (some ((.loc 1), false)), 0⟩, ⟨.mov (.tmp 0), (some ((.loc 2), false)), 0⟩, ⟨.bin .neq (.loc 1) (.loc 0), (some ((.loc 3), false)), 0⟩, ⟨.pick (.loc 4) (.const (.bool true)) (.loc 0), (some ((.loc 7), true)), 0⟩, ⟨.pick (.loc 8) (.loc 0) (.const (.bool false)), none, 0⟩] [(4, (.loc 0))])
  (.cond (.tmp 4)
   (.seq (.region [⟨.load none (.tmp 2), none, 0⟩, ⟨.iarr 2 1 (.tmp 3) (.loc 0), none, 0⟩, ⟨.store 1 (.loc 0) (.tmp 0), none, 0⟩] [])
    (.region [⟨.load none (.tmp 2), none, 0⟩, ⟨.bin .add (.loc 0) (.const (.int .i64 1)), none, 0⟩, ⟨.store 1 (.tmp 2) (.loc 0), none, 0⟩] []))
   (.skip))⟩
theorem c75_ok : compileFn Try.prog false 75 = some c75 := by kernel_rfl
noncomputable def list : List (Option AFunc) := [none, none, none, none, none, none, none, none, none, none, none, none, some c12, none, none, none, some c16, some c17, some c18, none, some c20, some c21, none, none, none, none, none, some c27, some c28, none, none, none, none, none, none, none, none, none, none, none, none, none, none, none, none, none, none, none, none, some c49, none, some c51, some c52, some c53, none, some c55, some c56, none, none, none, none, none, none, none, none, none, none, none, none, none, none, none, none, none, some c74, some c75]
noncomputable def fns : TV (Option AFunc) := Vec.ofList list
noncomputable def ext (f : FuncId) (args : List Value) (H : AH TV) : Option (Value × AH TV) := none
noncomputable def E : Env TV := { P := Try.prog, fn := fun f => (Vec.get fns f).getD none, ext := ext }
theorem all_ok : OkFrom Try.prog 0 list := ⟨⟨false, c12_ok⟩, ⟨⟨false, c16_ok⟩, ⟨⟨false, c17_ok⟩, ⟨⟨false, c18_ok⟩, ⟨⟨false, c20_ok⟩, ⟨⟨false, c21_ok⟩, ⟨⟨false, c27_ok⟩, ⟨⟨false, c28_ok⟩, ⟨⟨false, c49_ok⟩, ⟨⟨false, c51_ok⟩, ⟨⟨false, c52_ok⟩, ⟨⟨false, c53_ok⟩, ⟨⟨false, c55_ok⟩, ⟨⟨false, c56_ok⟩, ⟨⟨false, c74_ok⟩, ⟨⟨false, c75_ok⟩, trivial⟩⟩⟩⟩⟩⟩⟩⟩⟩⟩⟩⟩⟩⟩⟩⟩
theorem ext_ok (f : FuncId) (args : List Value) (H : AH TV) (v : Value) (H' : AH TV) (h : ext f args H = some (v, H')) : CallsOk Try.prog f args H v H' := by
  unfold ext at h
  cases h
theorem env_ok : EnvOk E := ⟨fun f fn h => fn_of all_ok h, ext_ok, draw_ok (by kernel_rfl)⟩
end Go.Proofs.Ytdbehmepikhghaa.GraphAwake
