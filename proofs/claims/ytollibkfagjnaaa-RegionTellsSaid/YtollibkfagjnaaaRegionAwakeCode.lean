/- The functions that louver/louverlaw16.awake reaches, compiled; that each is what 'compileFn' comes to. PRINTED by code.py. -/
import Derived.Test.YtollibkfagjnaaaAMb
import Derived.Test.YtollibkfagjnaaaProg
import Derived.KernelRfl
set_option linter.unusedVariables false
set_option maxRecDepth 100000
namespace Go.Proofs.Ytollibkfagjnaaa.RegionAwake
open Go.Proofs.Ytollibkfagjnaaa.AM
/-- louver/louverkit.Ints -/
noncomputable def c24 : AFunc := ⟨[0, 1, 4, 5, 10, 14, 25], [.tmp 2],
  .seq (.region [] [(2, (.const (.bool false)))])
  (.seq (.seq (.region [⟨.len (.tmp 0), none, 0⟩, ⟨.len (.tmp 1), none, 0⟩, ⟨.bin .neq (.loc 1) (.loc 0), none, 0⟩] [(4, (.loc 0))])
   (.cond (.tmp 4)
    (.seq (.region [] [(2, (.const (.bool false)))])
     (.ret))
    (.skip)))
  (.seq (.seq (.region [] [(3, (.const (.int .i64 0)))])
   (.block 0 (.loop (.seq (.seq (.region [⟨.len (.tmp 0), none, 0⟩, ⟨.bin .lss (.tmp 3) (.loc 0), none, 0⟩] [(5, (.loc 0))])
     (.cond (.tmp 5)
      (.skip)
      (.exit 0)))
    (.seq (.block 1 (.seq (.draw [⟨.iaddr 1 (.tmp 0) (.tmp 3), none, 0⟩, ⟨.load none (.loc 0), none, 0⟩, ⟨.iaddr 1 (.tmp 1) (.tmp 3), none, 0⟩, ⟨.load none (.loc 0), none, 0⟩, ⟨.bin .neq (.loc 2) (.loc 0), none, 0⟩] [(6, (.loc 0))])
     (.cond (.tmp 6)
      (.seq (.region [] [(2, (.const (.bool false)))])
       (.ret))
      (.skip))))
    (.region [⟨.bin .add (.tmp 3) (.const (.int .i64 1)), none, 0⟩] [(3, (.loc 0))]))))))
  (.seq (.region [] [(2, (.const (.bool true)))])
  (.ret))))⟩
theorem c24_ok : compileFn Try.prog false 24 = some c24 := by kernel_rfl
/-- louver/louverlaw16.awake -/
noncomputable def c34 : AFunc := ⟨[0], [.tmp 0],
  .seq (.region [] [(0, (.const (.bool false)))])
  (.seq (.region [⟨.call (.func 46) [], none, 0⟩, ⟨.mkarr 5 [(.int .u64 0), (.int .u64 0), (.int .u64 0), (.int .u64 0), (.int .u64 0)] [(0, 1, (.const (.int .u64 2))), (1, 1, (.const (.int .u64 0))), (2, 1, (.const (.int .u64 0))), (3, 1, (.const (.int .u64 0))), (4, 1, (.const (.int .u64 4)))], none, 0⟩, ⟨.call (.func 37) [(.loc 1), (.const (.int .u64 1)), (.loc 0)], none, 0⟩, ⟨.mkarr 6 [(.int .u64 0), (.int .u64 0), (.int .u64 0), (.int .u64 0), (.int .u64 0), (.int .u64 0)] [(0, 1, (.const (.int .u64 1))), (1, 1, (.const (.int .u64 3))), (2, 1, (.const (.int .u64 3))), (3, 1, (.const (.int .u64 3))), (4, 1, (.const (.int .u64 5))), (5, 1, (.const (.int .u64 1)))], none, 0⟩, ⟨.call (.func 39) [(.loc 1), (.loc 0)], none, 0⟩, ⟨.call (.func 46) [], (some ((.loc 0), true)), 0⟩, ⟨.call (.func 42) [(.loc 0), (.const (.int .i64 0))], (some ((.loc 1), true)), 0⟩, ⟨.mkarr 3 [(.int .i64 0), (.int .i64 0), (.int .i64 0)] [(0, 1, (.const (.int .i64 1))), (1, 1, (.const (.int .i64 2))), (2, 1, (.const (.int .i64 3)))], (some ((.loc 2), true)), 0⟩, ⟨.call (.func 24) [(.loc 1), (.loc 0)], (some ((.loc 3), true)), 0⟩, ⟨.pick (.loc 4) (.loc 0) (.const (.bool false)), none, 0⟩] [(0, (.loc 0))])
  (.ret))⟩
theorem c34_ok : compileFn Try.prog false 34 = some c34 := by kernel_rfl
/-- louver/region.Levels -/
noncomputable def c37 : AFunc := ⟨[0, 1, 2, 3, 6, 7, 8, 9, 10, 11, 12, 25, 26, 27, 39, 40, 41, 42, 47], [.tmp 4],
  .seq (.region [⟨.box (.tmp 0), none, 0⟩] [(3, (.loc 0)), (4, (.const (.slice none 0 0)))])
  (.seq (.region [⟨.load (some 6) (.tmp 3), none, 0⟩, ⟨.call (.func 75) [(.loc 0)], none, 0⟩] [(5, (.loc 0))])
  (.seq (.region [⟨.faddr 5 (.tmp 3), none, 0⟩, ⟨.load none (.loc 0), none, 0⟩, ⟨.len (.loc 0), none, 0⟩, ⟨.mkslice [(.int .u64 0)] 8 (.loc 0) (.loc 0), none, 0⟩, ⟨.build [(.slice none 0 0), (.int .u64 0)] [(0, 1, (.loc 0))], none, 0⟩, ⟨.box (.loc 0), none, 0⟩] [(6, (.loc 0))])
  (.seq (.seq (.region [⟨.nilchk (.tmp 6), none, 0⟩, ⟨.faddr 0 (.loc 0), none, 0⟩, ⟨.load none (.loc 0), none, 0⟩, ⟨.len (.loc 0), none, 0⟩] [(11, (.loc 0)), (12, (.const (.int .i64 0)))])
   (.block 0 (.loop (.seq (.region [⟨.bin .lss (.tmp 12) (.tmp 11), none, 0⟩] [(13, (.loc 0))])
    (.seq (.cond (.tmp 13)
      (.skip)
      (.exit 0))
    (.seq (.block 1 (.seq (.region [] [(7, (.tmp 12))])
     (.region [⟨.nilchk (.tmp 6), none, 0⟩, ⟨.faddr 0 (.loc 0), none, 0⟩, ⟨.load none (.loc 0), none, 0⟩, ⟨.iaddr 1 (.loc 0) (.tmp 7), none, 0⟩, ⟨.store 1 (.loc 0) (.tmp 1), none, 0⟩] [])))
    (.region [⟨.bin .add (.tmp 12) (.const (.int .i64 1)), none, 0⟩] [(12, (.loc 0))])))))))
  (.seq (.region [⟨.mkfn 76 [(.tmp 6)] [], none, 0⟩] [(8, (.loc 0))])
  (.seq (.seq (.region [⟨.len (.tmp 2), none, 0⟩] [(14, (.tmp 2)), (15, (.loc 0)), (16, (.const (.int .i64 0)))])
   (.block 2 (.loop (.seq (.region [⟨.bin .lss (.tmp 16) (.tmp 15), none, 0⟩] [(17, (.loc 0))])
    (.seq (.cond (.tmp 17)
      (.skip)
      (.exit 2))
    (.seq (.block 3 (.seq (.region [⟨.iaddr 1 (.tmp 14) (.tmp 16), none, 0⟩, ⟨.load none (.loc 0), none, 0⟩] [(9, (.tmp 16)), (10, (.loc 0))])
     (.seq (.region [⟨.bin .neq (.tmp 10) (.const (.int .u64 0)), none, 0⟩] [(18, (.loc 0))])
     (.cond (.tmp 18)
      (.seq (.region [⟨.nilchk (.tmp 6), none, 0⟩, ⟨.faddr 1 (.loc 0), none, 0⟩, ⟨.store 1 (.loc 0) (.tmp 10), none, 0⟩] [])
       (.region [⟨.call (.func 77) [(.tmp 5), (.tmp 9), (.tmp 8)], none, 0⟩] []))
      (.skip)))))
    (.region [⟨.bin .add (.tmp 16) (.const (.int .i64 1)), none, 0⟩] [(16, (.loc 0))])))))))
  (.seq (.region [⟨.nilchk (.tmp 6), none, 0⟩, ⟨.faddr 0 (.loc 0), none, 0⟩, ⟨.load none (.loc 0), none, 0⟩] [(4, (.loc 0))])
  (.ret)))))))⟩
theorem c37_ok : compileFn Try.prog false 37 = some c37 := by kernel_rfl
/-- louver/louverkit.Labels -/
noncomputable def c39 : AFunc := ⟨[0, 1, 4, 5, 10, 14, 25], [.tmp 2],
  .seq (.region [] [(2, (.const (.bool false)))])
  (.seq (.seq (.region [⟨.len (.tmp 0), none, 0⟩, ⟨.len (.tmp 1), none, 0⟩, ⟨.bin .neq (.loc 1) (.loc 0), none, 0⟩] [(4, (.loc 0))])
   (.cond (.tmp 4)
    (.seq (.region [] [(2, (.const (.bool false)))])
     (.ret))
    (.skip)))
  (.seq (.seq (.region [] [(3, (.const (.int .i64 0)))])
   (.block 0 (.loop (.seq (.seq (.region [⟨.len (.tmp 0), none, 0⟩, ⟨.bin .lss (.tmp 3) (.loc 0), none, 0⟩] [(5, (.loc 0))])
     (.cond (.tmp 5)
      (.skip)
      (.exit 0)))
    (.seq (.block 1 (.seq (.draw [⟨.iaddr 1 (.tmp 0) (.tmp 3), none, 0⟩, ⟨.load none (.loc 0), none, 0⟩, ⟨.iaddr 1 (.tmp 1) (.tmp 3), none, 0⟩, ⟨.load none (.loc 0), none, 0⟩, ⟨.bin .neq (.loc 2) (.loc 0), none, 0⟩] [(6, (.loc 0))])
     (.cond (.tmp 6)
      (.seq (.region [] [(2, (.const (.bool false)))])
       (.ret))
      (.skip))))
    (.region [⟨.bin .add (.tmp 3) (.const (.int .i64 1)), none, 0⟩] [(3, (.loc 0))]))))))
  (.seq (.region [] [(2, (.const (.bool true)))])
  (.ret))))⟩
theorem c39_ok : compileFn Try.prog false 39 = some c39 := by kernel_rfl
/-- louver/region.Of -/
noncomputable def c42 : AFunc := ⟨[0, 1, 2, 4, 5], [.tmp 3],
  .seq (.region [⟨.box (.tmp 0), none, 0⟩] [(2, (.loc 0)), (3, (.const (.slice none 0 0)))])
  (.seq (.region [⟨.alloc [(.slice none 0 0)], none, 0⟩] [(4, (.loc 0))])
  (.seq (.region [⟨.load (some 6) (.tmp 2), none, 0⟩, ⟨.call (.func 75) [(.loc 0)], none, 0⟩, ⟨.mkfn 79 [] [(.tmp 4)], none, 0⟩, ⟨.call (.func 77) [(.loc 1), (.tmp 1), (.loc 0)], none, 0⟩] [])
  (.seq (.region [⟨.load none (.tmp 4), none, 0⟩, ⟨.call (.func 80) [(.loc 0)], none, 0⟩] [])
  (.seq (.region [⟨.load none (.tmp 4), none, 0⟩, ⟨.call (.func 71) [(.loc 0)], none, 0⟩] [(3, (.loc 0))])
  (.ret)))))⟩
theorem c42_ok : compileFn Try.prog false 42 = some c42 := by kernel_rfl
/-- louver/louverlaw16.given -/
noncomputable def c46 : AFunc := ⟨[0], [.cell 0 (some 6)],
  .seq (.region [⟨.alloc [(.int .u64 0), (.slice none 0 0), (.slice none 0 0), (.int .i64 0), (.int .i64 0), (.slice none 0 0)], none, 0⟩] [(0, (.loc 0))])
  (.seq (.region [⟨.mkarr 12 [(.int .i64 0), (.int .i64 0), (.int .i64 0), (.int .i64 0), (.int .i64 0), (.int .i64 0), (.int .i64 0), (.int .i64 0), (.int .i64 0), (.int .i64 0), (.int .i64 0), (.int .i64 0)] [(0, 1, (.const (.int .i64 44))), (1, 1, (.const (.int .i64 3))), (2, 1, (.const (.int .i64 42))), (3, 1, (.const (.int .i64 0))), (4, 1, (.const (.int .i64 43))), (5, 1, (.const (.int .i64 4))), (6, 1, (.const (.int .i64 42))), (7, 1, (.const (.int .i64 0))), (8, 1, (.const (.int .i64 44))), (9, 1, (.const (.int .i64 4))), (10, 1, (.const (.int .i64 46))), (11, 1, (.const (.int .i64 0)))], none, 0⟩, ⟨.call (.func 47) [(.loc 0)], none, 0⟩, ⟨.store 6 (.tmp 0) (.loc 0), none, 0⟩] [])
  (.ret))⟩
theorem c46_ok : compileFn Try.prog false 46 = some c46 := by kernel_rfl
/-- louver/louverlaw16.code -/
noncomputable def c47 : AFunc := ⟨[0, 2, 3, 4, 9], [.cell 1 (some 6)],
  .seq (.region [⟨.alloc [(.int .u64 0), (.slice none 0 0), (.slice none 0 0), (.int .i64 0), (.int .i64 0), (.slice none 0 0)], none, 0⟩] [(1, (.loc 0))])
  (.seq (.region [⟨.alloc [(.int .u64 0), (.slice none 0 0), (.slice none 0 0), (.int .i64 0), (.int .i64 0), (.slice none 0 0)], none, 0⟩] [(2, (.loc 0))])
  (.seq (.seq (.region [] [(3, (.const (.int .i64 0)))])
   (.block 0 (.loop (.seq (.seq (.region [⟨.bin .add (.tmp 3) (.const (.int .i64 1)), none, 0⟩, ⟨.len (.tmp 0), none, 0⟩, ⟨.bin .lss (.loc 1) (.loc 0), none, 0⟩] [(4, (.loc 0))])
     (.cond (.tmp 4)
      (.skip)
      (.exit 0)))
    (.seq (.block 1 (.draw [⟨.faddr 5 (.tmp 2), none, 0⟩, ⟨.load none (.loc 0), none, 0⟩, ⟨.iaddr 1 (.tmp 0) (.tmp 3), none, 0⟩, ⟨.load none (.loc 0), none, 0⟩, ⟨.bin .add (.tmp 3) (.const (.int .i64 1)), none, 0⟩, ⟨.iaddr 1 (.tmp 0) (.loc 0), none, 0⟩, ⟨.load none (.loc 0), none, 0⟩, ⟨.build [(.int .i64 0), (.int .i64 0)] [(0, 1, (.loc 3)), (1, 1, (.loc 0))], none, 0⟩, ⟨.mkarr 1 [(.int .i64 0), (.int .i64 0)] [(0, 2, (.loc 0))], none, 0⟩, ⟨.append false 2 16 (.loc 7) (.loc 0), none, 0⟩, ⟨.faddr 5 (.tmp 2), none, 1⟩, ⟨.store 1 (.loc 0) (.loc 1), none, 1⟩] []))
    (.region [⟨.bin .add (.tmp 3) (.const (.int .i64 2)), none, 0⟩] [(3, (.loc 0))]))))))
  (.seq (.region [⟨.load (some 6) (.tmp 2), none, 0⟩, ⟨.store 6 (.tmp 1) (.loc 0), none, 0⟩] [])
  (.ret))))⟩
theorem c47_ok : compileFn Try.prog false 47 = some c47 := by kernel_rfl
/-- louver/graph.to -/
noncomputable def c70 : AFunc := ⟨[0, 1, 4, 5, 6, 7, 8, 9, 10, 20, 26, 33, 45, 61], [.cell 2 (some 2), .tmp 3],
  .seq (.region [⟨.alloc [(.int .i64 0), (.int .i64 0)], none, 0⟩] [(2, (.loc 0)), (3, (.const (.int .i64 0)))])
  (.seq (.region [⟨.alloc [(.int .i64 0), (.int .i64 0)], none, 0⟩] [(4, (.loc 0))])
  (.seq (.region [⟨.alloc [(.int .i64 0)], none, 0⟩, ⟨.store 1 (.loc 0) (.const (.int .i64 0)), none, 0⟩] [(5, (.loc 1))])
  (.seq (.region [⟨.mkfn 102 [] [(.tmp 5), (.tmp 4)], none, 0⟩] [(6, (.loc 0))])
  (.seq (.region [⟨.len (.tmp 0), none, 0⟩, ⟨.bin .sub (.loc 0) (.const (.int .i64 1)), none, 0⟩] [(7, (.loc 0))])
  (.seq (.seq (.region [⟨.iaddr 2 (.tmp 0) (.tmp 1), none, 0⟩, ⟨.load (some 2) (.loc 0), none, 0⟩, ⟨.alloc [(.int .i64 0), (.int .i64 0)], none, 0⟩, ⟨.store 2 (.loc 0) (.loc 1), none, 0⟩] [(8, (.loc 1))])
   (.seq (.region [⟨.faddr 0 (.tmp 8), none, 0⟩, ⟨.load none (.loc 0), none, 0⟩] [(9, (.loc 0))])
   (.block 0 (.seq (.region [⟨.bin .eql (.tmp 9) (.const (.int .i64 43)), none, 0⟩] [(10, (.loc 0))])
   (.cond (.tmp 10)
    (.region [⟨.faddr 1 (.tmp 8), none, 0⟩, ⟨.load none (.loc 0), none, 0⟩, ⟨.call (.tmp 6) [(.loc 0), (.tmp 7)], none, 0⟩] [])
    (.seq (.region [⟨.bin .eql (.tmp 9) (.const (.int .i64 44)), none, 0⟩] [(11, (.loc 0))])
     (.cond (.tmp 11)
      (.seq (.region [⟨.bin .add (.tmp 1) (.const (.int .i64 1)), none, 0⟩, ⟨.call (.tmp 6) [(.loc 0), (.tmp 7)], none, 0⟩] [])
       (.region [⟨.faddr 1 (.tmp 8), none, 0⟩, ⟨.load none (.loc 0), none, 0⟩, ⟨.call (.tmp 6) [(.loc 0), (.tmp 7)], none, 0⟩] []))
      (.seq (.region [⟨.bin .eql (.tmp 9) (.const (.int .i64 46)), none, 0⟩] [(12, (.loc 0))])
       (.cond (.tmp 12)
        (.region [⟨.bin .add (.tmp 7) (.const (.int .i64 1)), none, 0⟩, ⟨.bin .add (.tmp 7) (.const (.int .i64 1)), none, 0⟩, ⟨.call (.tmp 6) [(.loc 1), (.loc 0)], none, 0⟩] [])
        (.region [⟨.bin .add (.tmp 1) (.const (.int .i64 1)), none, 0⟩, ⟨.call (.tmp 6) [(.loc 0), (.tmp 7)], none, 0⟩] []))))))))))
  (.seq (.seq (.region [⟨.load none (.tmp 5), none, 0⟩, ⟨.bin .eql (.loc 0) (.const (.int .i64 2)), none, 0⟩, ⟨.iarr 2 1 (.tmp 4) (.const (.int .i64 0)), (some ((.loc 0), true)), 0⟩, ⟨.load none (.loc 0), (some ((.loc 1), true)), 0⟩, ⟨.iarr 2 1 (.tmp 4) (.const (.int .i64 1)), (some ((.loc 2), true)), 0⟩, ⟨.load none (.loc 0), (some ((.loc 3), true)), 0⟩, ⟨.bin .gtr (.loc 2) (.loc 0), (some ((.loc 4), true)), 0⟩, ⟨.pick (.loc 5) (.loc 0) (.const (.bool false)), none, 0⟩] [(13, (.loc 0))])
   (.cond (.tmp 13)
    (.region [⟨.iarr 2 1 (.tmp 4) (.const (.int .i64 1)), none, 0⟩, ⟨.load none (.loc 0), none, 0⟩, ⟨.iarr 2 1 (.tmp 4) (.const (.int .i64 0)), none, 0⟩, ⟨.load none (.loc 0), none, 0⟩, ⟨.iarr 2 1 (.tmp 4) (.const (.int .i64 0)), none, 0⟩, ⟨.store 1 (.loc 0) (.loc 3), none, 0⟩, ⟨.iarr 2 1 (.tmp 4) (.const (.int .i64 1)), none, 0⟩, ⟨.store 1 (.loc 0) (.loc 3), none, 0⟩] [])
    (.skip)))
  (.seq (.draw [⟨.load (some 2) (.tmp 4), none, 0⟩, ⟨.store 2 (.tmp 2) (.loc 0), none, 0⟩, ⟨.load none (.tmp 5), none, 0⟩] [(3, (.loc 0))])
  (.ret))))))))⟩
theorem c70_ok : compileFn Try.prog false 70 = some c70 := by kernel_rfl
/-- slices.Clip[[]int,int] -/
noncomputable def c71 : AFunc := ⟨[0, 2], [.tmp 1],
  .seq (.region [] [(1, (.const (.slice none 0 0)))])
  (.seq (.region [⟨.len (.tmp 0), none, 0⟩, ⟨.len (.tmp 0), none, 0⟩, ⟨.slice 1 (.tmp 0) none (some (.loc 1)) (some (.loc 0)), none, 0⟩] [(1, (.loc 0))])
  (.ret))⟩
theorem c71_ok : compileFn Try.prog false 71 = some c71 := by kernel_rfl
/-- louver/region.newWalker -/
noncomputable def c75 : AFunc := ⟨[0, 1, 2, 3, 4, 5, 21, 22, 23], [.tmp 2],
  .seq (.region [⟨.box (.tmp 0), none, 0⟩] [(1, (.loc 0)), (2, (.const (.pointer none)))])
  (.seq (.draw [⟨.load (some 6) (.tmp 1), none, 0⟩, ⟨.call (.func 88) [(.loc 0)], none, 0⟩, ⟨.faddr 5 (.tmp 1), none, 0⟩, ⟨.load none (.loc 0), none, 0⟩, ⟨.len (.loc 0), none, 0⟩, ⟨.bin .add (.loc 0) (.const (.int .i64 1)), none, 0⟩, ⟨.mkslice [(.slice none 0 0)] 24 (.loc 0) (.loc 0), none, 0⟩, ⟨.faddr 5 (.tmp 1), none, 0⟩, ⟨.load none (.loc 0), none, 0⟩, ⟨.len (.loc 0), none, 0⟩, ⟨.bin .add (.loc 0) (.const (.int .i64 1)), none, 0⟩, ⟨.mkslice [(.int .i64 0)] 8 (.loc 0) (.loc 0), none, 0⟩, ⟨.build [(.slice none 0 0), (.slice none 0 0), (.slice none 0 0)] [(0, 1, (.loc 5)), (1, 1, (.loc 10)), (2, 1, (.loc 0))], none, 1⟩, ⟨.box (.loc 0), none, 1⟩, ⟨.alloc [(.pointer none)], none, 0⟩, ⟨.store 1 (.loc 0) (.loc 1), none, 1⟩] [(3, (.loc 1))])
  (.seq (.seq (.region [⟨.load (some 6) (.tmp 1), none, 0⟩, ⟨.call (.func 103) [(.loc 0)], none, 0⟩] [(6, (.loc 0))])
   (.block 0 (.rangeFunc (.tmp 6) [(some 7), (some 8)]
    (.seq (.region [] [(4, (.tmp 7))])
     (.region [] [(5, (.tmp 8))]))
    (.block 1 (.draw [⟨.load none (.tmp 3), none, 0⟩, ⟨.nilchk (.loc 0), none, 0⟩, ⟨.faddr 0 (.loc 0), none, 0⟩, ⟨.load none (.loc 0), none, 0⟩, ⟨.iaddr 1 (.loc 0) (.tmp 4), none, 0⟩, ⟨.load none (.loc 0), none, 0⟩, ⟨.mkarr 1 [(.int .i64 0)] [(0, 1, (.tmp 5))], none, 0⟩, ⟨.append false 1 8 (.loc 1) (.loc 0), none, 0⟩, ⟨.load none (.tmp 3), none, 0⟩, ⟨.nilchk (.loc 0), none, 0⟩, ⟨.faddr 0 (.loc 0), none, 0⟩, ⟨.load none (.loc 0), none, 0⟩, ⟨.iaddr 1 (.loc 0) (.tmp 4), none, 1⟩, ⟨.store 1 (.loc 0) (.loc 5), none, 1⟩] [])))))
  (.seq (.region [⟨.load none (.tmp 3), none, 0⟩] [(2, (.loc 0))])
  (.ret))))⟩
theorem c75_ok : compileFn Try.prog false 75 = some c75 := by kernel_rfl
/-- (*louver/region.level).add -/
noncomputable def c76 : AFunc := ⟨[0, 1], [],
  .draw [⟨.nilchk (.tmp 0), none, 0⟩, ⟨.faddr 0 (.loc 0), none, 0⟩, ⟨.load none (.loc 0), none, 0⟩, ⟨.iaddr 1 (.loc 0) (.tmp 1), none, 0⟩, ⟨.load none (.loc 0), none, 0⟩, ⟨.nilchk (.tmp 0), none, 0⟩, ⟨.faddr 1 (.loc 0), none, 0⟩, ⟨.load none (.loc 0), none, 0⟩, ⟨.bin .or (.loc 3) (.loc 0), none, 0⟩, ⟨.iaddr 1 (.loc 6) (.tmp 1), none, 0⟩, ⟨.store 1 (.loc 0) (.loc 1), none, 0⟩] []⟩
theorem c76_ok : compileFn Try.prog false 76 = some c76 := by kernel_rfl
/-- (*louver/region.walker).each -/
noncomputable def c77 : AFunc := ⟨[0, 1, 2, 3, 4, 6, 7, 8, 9, 10, 33, 53], [],
  .seq (.region [⟨.box (.tmp 0), none, 0⟩, ⟨.box (.tmp 1), none, 0⟩] [(3, (.loc 1)), (4, (.loc 0))])
  (.scope (.seq (.region [⟨.load none (.tmp 3), none, 0⟩, ⟨.nilchk (.loc 0), none, 0⟩, ⟨.faddr 1 (.loc 0), none, 0⟩, ⟨.load none (.loc 0), none, 0⟩, ⟨.len (.loc 0), none, 0⟩, ⟨.bin .sub (.loc 0) (.const (.int .i64 1)), none, 0⟩, ⟨.alloc [(.int .i64 0)], none, 0⟩, ⟨.store 1 (.loc 0) (.loc 1), none, 0⟩] [(5, (.loc 1))])
  (.seq (.seq (.draw [⟨.load none (.tmp 4), none, 0⟩, ⟨.bin .lss (.loc 0) (.const (.int .i64 0)), none, 0⟩, ⟨.load none (.tmp 4), (some ((.loc 0), false)), 0⟩, ⟨.load none (.tmp 5), (some ((.loc 1), false)), 0⟩, ⟨.bin .geq (.loc 1) (.loc 0), (some ((.loc 2), false)), 0⟩, ⟨.pick (.loc 3) (.const (.bool true)) (.loc 0), none, 0⟩, ⟨.load none (.tmp 3), (some ((.loc 0), false)), 0⟩, ⟨.nilchk (.loc 0), (some ((.loc 1), false)), 0⟩, ⟨.faddr 1 (.loc 0), (some ((.loc 2), false)), 0⟩, ⟨.load none (.loc 0), (some ((.loc 3), false)), 0⟩, ⟨.load none (.tmp 4), (some ((.loc 4), false)), 0⟩, ⟨.iaddr 1 (.loc 1) (.loc 0), (some ((.loc 5), false)), 0⟩, ⟨.load none (.loc 0), (some ((.loc 6), false)), 0⟩, ⟨.bin .lss (.loc 0) (.const (.int .i64 0)), (some ((.loc 7), false)), 0⟩, ⟨.pick (.loc 8) (.const (.bool true)) (.loc 0), none, 0⟩] [(10, (.loc 0))])
   (.cond (.tmp 10)
    (.ret)
    (.skip)))
  (.seq (.draw [⟨.load none (.tmp 3), none, 0⟩, ⟨.nilchk (.loc 0), none, 0⟩, ⟨.faddr 1 (.loc 0), none, 0⟩, ⟨.load none (.loc 0), none, 0⟩, ⟨.load none (.tmp 4), none, 0⟩, ⟨.iaddr 1 (.loc 1) (.loc 0), none, 0⟩, ⟨.load none (.loc 0), none, 0⟩, ⟨.alloc [(.int .i64 0)], none, 0⟩, ⟨.store 1 (.loc 0) (.loc 1), none, 0⟩] [(6, (.loc 1))])
  (.seq (.region [⟨.alloc [(.slice none 0 0)], none, 0⟩] [(7, (.loc 0))])
  (.seq (.region [⟨.mkfn 104 [] [(.tmp 6), (.tmp 5), (.tmp 3), (.tmp 4), (.tmp 7)], none, 0⟩] [(8, (.loc 0))])
  (.seq (.draw [⟨.load none (.tmp 3), none, 0⟩, ⟨.nilchk (.loc 0), none, 0⟩, ⟨.faddr 0 (.loc 0), none, 0⟩, ⟨.load none (.loc 0), none, 0⟩, ⟨.load none (.tmp 4), none, 0⟩, ⟨.iaddr 1 (.loc 1) (.loc 0), none, 0⟩, ⟨.load none (.loc 0), none, 0⟩, ⟨.call (.tmp 8) [(.loc 0)], none, 0⟩] [])
  (.seq (.label 0)
  (.block 0 (.loop (.block 1 (.seq (.seq (.region [⟨.load none (.tmp 7), none, 0⟩, ⟨.len (.loc 0), none, 0⟩, ⟨.bin .eql (.loc 0) (.const (.int .i64 0)), none, 0⟩] [(11, (.loc 0))])
    (.cond (.tmp 11)
     (.exit 0)
     (.skip)))
   (.seq (.region [⟨.load none (.tmp 7), none, 0⟩, ⟨.load none (.tmp 7), none, 0⟩, ⟨.len (.loc 0), none, 0⟩, ⟨.bin .sub (.loc 0) (.const (.int .i64 1)), none, 0⟩, ⟨.iaddr 1 (.loc 3) (.loc 0), none, 0⟩, ⟨.load none (.loc 0), none, 0⟩] [(9, (.loc 0))])
   (.seq (.region [⟨.load none (.tmp 7), none, 0⟩, ⟨.load none (.tmp 7), none, 0⟩, ⟨.len (.loc 0), none, 0⟩, ⟨.bin .sub (.loc 0) (.const (.int .i64 1)), none, 0⟩, ⟨.slice 1 (.loc 3) none (some (.loc 0)) none, none, 0⟩, ⟨.store 1 (.tmp 7) (.loc 0), none, 0⟩] [])
   (.seq (.region [⟨.call (.tmp 2) [(.tmp 9)], none, 0⟩] [])
   (.region [⟨.load none (.tmp 3), none, 0⟩, ⟨.nilchk (.loc 0), none, 0⟩, ⟨.faddr 0 (.loc 0), none, 0⟩, ⟨.load none (.loc 0), none, 0⟩, ⟨.iaddr 1 (.loc 0) (.tmp 9), none, 0⟩, ⟨.load none (.loc 0), none, 0⟩, ⟨.call (.tmp 8) [(.loc 0)], none, 0⟩] []))))))))))))))))⟩
theorem c77_ok : compileFn Try.prog false 77 = some c77 := by kernel_rfl
/-- louver/region.Of$1 -/
noncomputable def c79 : AFunc := ⟨[0, 1], [],
  .region [⟨.load none (.tmp 1), none, 0⟩, ⟨.mkarr 1 [(.int .i64 0)] [(0, 1, (.tmp 0))], none, 0⟩, ⟨.append false 1 8 (.loc 1) (.loc 0), none, 0⟩, ⟨.store 1 (.tmp 1) (.loc 0), none, 0⟩] []⟩
theorem c79_ok : compileFn Try.prog false 79 = some c79 := by kernel_rfl
/-- slices.Sort[[]int,int] -/
noncomputable def c80 : AFunc := ⟨[0, 2], [],
  .seq (.region [⟨.len (.tmp 0), none, 0⟩] [(1, (.loc 0))])
  (.region [⟨.conv .u64 (.tmp 1), none, 0⟩, ⟨.call (.func 107) [(.loc 0)], none, 0⟩, ⟨.call (.func 106) [(.tmp 0), (.const (.int .i64 0)), (.tmp 1), (.loc 0)], none, 0⟩] [])⟩
theorem c80_ok : compileFn Try.prog false 80 = some c80 := by kernel_rfl
/-- louver/graph.edges -/
noncomputable def c85 : AFunc := ⟨[0, 1, 2], [.tmp 2],
  .seq (.region [⟨.box (.tmp 0), none, 0⟩] [(1, (.loc 0)), (2, (.const .nilFunc))])
  (.seq (.region [⟨.mkfn 109 [] [(.tmp 1)], none, 0⟩] [(2, (.loc 0))])
  (.ret))⟩
theorem c85_ok : compileFn Try.prog false 85 = some c85 := by kernel_rfl
/-- louver/post.Tree -/
noncomputable def c88 : AFunc := ⟨[0, 1, 2, 3, 4, 5, 6, 7, 8, 9, 10, 11, 12, 13, 14, 15, 17, 18, 20, 30, 31, 32, 61, 62, 63, 69, 70, 71, 72, 89, 90, 91, 92, 98, 99, 100, 101, 108, 114, 124, 130], [.tmp 2],
  .seq (.region [⟨.box (.tmp 0), none, 0⟩] [(1, (.loc 0)), (2, (.const (.slice none 0 0)))])
  (.scope (.seq (.region [⟨.faddr 5 (.tmp 1), none, 0⟩, ⟨.load none (.loc 0), none, 0⟩, ⟨.len (.loc 0), none, 0⟩, ⟨.bin .add (.loc 0) (.const (.int .i64 1)), none, 0⟩] [(3, (.loc 0))])
  (.seq (.draw [⟨.mkslice [(.slice none 0 0)] 24 (.tmp 3) (.tmp 3), none, 0⟩, ⟨.alloc [(.slice none 0 0)], none, 0⟩, ⟨.alloc [(.slice none 0 0)], none, 0⟩, ⟨.store 1 (.loc 1) (.loc 2), none, 0⟩, ⟨.mkslice [(.slice none 0 0)] 24 (.tmp 3) (.tmp 3), none, 0⟩, ⟨.store 1 (.loc 2) (.loc 0), none, 1⟩] [(4, (.loc 4)), (5, (.loc 3))])
  (.seq (.seq (.region [⟨.load (some 6) (.tmp 1), none, 0⟩, ⟨.call (.func 103) [(.loc 0)], none, 0⟩] [(19, (.loc 0))])
   (.block 0 (.rangeFunc (.tmp 19) [(some 20), (some 21)]
    (.seq (.region [] [(6, (.tmp 20))])
     (.region [] [(7, (.tmp 21))]))
    (.block 1 (.seq (.draw [⟨.load none (.tmp 4), none, 0⟩, ⟨.iaddr 1 (.loc 0) (.tmp 7), none, 0⟩, ⟨.load none (.loc 0), none, 0⟩, ⟨.mkarr 1 [(.int .i64 0)] [(0, 1, (.tmp 6))], none, 0⟩, ⟨.append false 1 8 (.loc 1) (.loc 0), none, 0⟩, ⟨.load none (.tmp 4), none, 0⟩, ⟨.iaddr 1 (.loc 0) (.tmp 7), none, 1⟩, ⟨.store 1 (.loc 0) (.loc 2), none, 1⟩] [])
     (.draw [⟨.load none (.tmp 5), none, 0⟩, ⟨.iaddr 1 (.loc 0) (.tmp 6), none, 0⟩, ⟨.load none (.loc 0), none, 0⟩, ⟨.mkarr 1 [(.int .i64 0)] [(0, 1, (.tmp 7))], none, 0⟩, ⟨.append false 1 8 (.loc 1) (.loc 0), none, 0⟩, ⟨.load none (.tmp 5), none, 0⟩, ⟨.iaddr 1 (.loc 0) (.tmp 6), none, 1⟩, ⟨.store 1 (.loc 0) (.loc 2), none, 1⟩] []))))))
  (.seq (.region [⟨.load none (.tmp 4), none, 0⟩, ⟨.call (.func 110) [(.tmp 3), (.loc 0)], none, 0⟩] [(8, (.loc 0))])
  (.seq (.region [⟨.mkslice [(.int .i64 0)] 8 (.tmp 3) (.tmp 3), none, 0⟩, ⟨.alloc [(.slice none 0 0)], none, 0⟩, ⟨.store 1 (.loc 0) (.loc 1), none, 0⟩] [(9, (.loc 1))])
  (.seq (.region [⟨.mkslice [(.int .i64 0)] 8 (.tmp 3) (.tmp 3), none, 0⟩, ⟨.alloc [(.slice none 0 0)], none, 0⟩, ⟨.store 1 (.loc 0) (.loc 1), none, 0⟩] [(10, (.loc 1))])
  (.seq (.seq (.region [⟨.load none (.tmp 10), none, 0⟩, ⟨.len (.loc 0), none, 0⟩] [(22, (.loc 0)), (23, (.const (.int .i64 0)))])
   (.block 2 (.loop (.seq (.region [⟨.bin .lss (.tmp 23) (.tmp 22), none, 0⟩] [(24, (.loc 0))])
    (.seq (.cond (.tmp 24)
      (.skip)
      (.exit 2))
    (.seq (.block 3 (.seq (.region [] [(11, (.tmp 23))])
     (.region [⟨.load none (.tmp 10), none, 0⟩, ⟨.iaddr 1 (.loc 0) (.tmp 11), none, 0⟩, ⟨.store 1 (.loc 0) (.const (.int .i64 (-1))), none, 0⟩] [])))
    (.region [⟨.bin .add (.tmp 23) (.const (.int .i64 1)), none, 0⟩] [(23, (.loc 0))])))))))
  (.seq (.seq (.region [⟨.len (.tmp 8), none, 0⟩] [(25, (.tmp 8)), (26, (.loc 0)), (27, (.const (.int .i64 0)))])
   (.block 4 (.loop (.seq (.region [⟨.bin .lss (.tmp 27) (.tmp 26), none, 0⟩] [(28, (.loc 0))])
    (.seq (.cond (.tmp 28)
      (.skip)
      (.exit 4))
    (.seq (.block 5 (.seq (.region [⟨.iaddr 1 (.tmp 25) (.tmp 27), none, 0⟩, ⟨.load none (.loc 0), none, 0⟩] [(12, (.tmp 27)), (13, (.loc 0))])
     (.region [⟨.load none (.tmp 9), none, 0⟩, ⟨.iaddr 1 (.loc 0) (.tmp 13), none, 0⟩, ⟨.store 1 (.loc 0) (.tmp 12), none, 0⟩] [])))
    (.region [⟨.bin .add (.tmp 27) (.const (.int .i64 1)), none, 0⟩] [(27, (.loc 0))])))))))
  (.seq (.region [⟨.load none (.tmp 10), none, 0⟩, ⟨.bin .sub (.tmp 3) (.const (.int .i64 1)), none, 0⟩, ⟨.bin .sub (.tmp 3) (.const (.int .i64 1)), none, 0⟩, ⟨.iaddr 1 (.loc 2) (.loc 1), none, 0⟩, ⟨.store 1 (.loc 0) (.loc 1), none, 0⟩] [])
  (.seq (.region [⟨.mkfn 111 [] [(.tmp 9), (.tmp 10)], none, 0⟩] [(14, (.loc 0))])
  (.seq (.label 0)
  (.seq (.region [] [(15, (.const (.bool false)))])
  (.seq (.seq (.region [⟨.slice 1 (.tmp 8) (some (.const (.int .i64 1))) none none, none, 0⟩, ⟨.len (.loc 0), none, 0⟩] [(29, (.loc 1)), (30, (.loc 0)), (31, (.const (.int .i64 0)))])
   (.block 6 (.loop (.seq (.region [⟨.bin .lss (.tmp 31) (.tmp 30), none, 0⟩] [(32, (.loc 0))])
    (.seq (.cond (.tmp 32)
      (.skip)
      (.exit 6))
    (.seq (.block 7 (.seq (.region [⟨.iaddr 1 (.tmp 29) (.tmp 31), none, 0⟩, ⟨.load none (.loc 0), none, 0⟩] [(16, (.loc 0))])
     (.seq (.region [] [(17, (.const (.int .i64 (-1))))])
     (.seq (.seq (.region [⟨.load none (.tmp 5), none, 0⟩, ⟨.iaddr 1 (.loc 0) (.tmp 16), none, 0⟩, ⟨.load none (.loc 0), none, 0⟩, ⟨.len (.loc 0), none, 0⟩] [(33, (.loc 1)), (34, (.loc 0)), (35, (.const (.int .i64 0)))])
      (.block 8 (.loop (.seq (.region [⟨.bin .lss (.tmp 35) (.tmp 34), none, 0⟩] [(36, (.loc 0))])
       (.seq (.cond (.tmp 36)
         (.skip)
         (.exit 8))
       (.seq (.block 9 (.seq (.region [⟨.iaddr 1 (.tmp 33) (.tmp 35), none, 0⟩, ⟨.load none (.loc 0), none, 0⟩] [(18, (.loc 0))])
        (.block 10 (.seq (.region [⟨.load none (.tmp 10), none, 0⟩, ⟨.iaddr 1 (.loc 0) (.tmp 18), none, 0⟩, ⟨.load none (.loc 0), none, 0⟩, ⟨.bin .lss (.loc 0) (.const (.int .i64 0)), none, 0⟩] [(37, (.loc 0))])
        (.cond (.tmp 37)
         (.skip)
         (.seq (.region [⟨.bin .lss (.tmp 17) (.const (.int .i64 0)), none, 0⟩] [(38, (.loc 0))])
          (.cond (.tmp 38)
           (.region [] [(17, (.tmp 18))])
           (.region [⟨.call (.tmp 14) [(.tmp 17), (.tmp 18)], none, 0⟩] [(17, (.loc 0))]))))))))
       (.region [⟨.bin .add (.tmp 35) (.const (.int .i64 1)), none, 0⟩] [(35, (.loc 0))])))))))
     (.seq (.region [⟨.load none (.tmp 10), none, 0⟩, ⟨.iaddr 1 (.loc 0) (.tmp 16), none, 0⟩, ⟨.load none (.loc 0), none, 0⟩, ⟨.bin .neq (.tmp 17) (.loc 0), none, 0⟩] [(39, (.loc 0))])
     (.cond (.tmp 39)
      (.seq (.region [⟨.load none (.tmp 10), none, 0⟩, ⟨.iaddr 1 (.loc 0) (.tmp 16), none, 0⟩, ⟨.store 1 (.loc 0) (.tmp 17), none, 0⟩] [])
       (.region [] [(15, (.const (.bool true)))]))
      (.skip)))))))
    (.region [⟨.bin .add (.tmp 31) (.const (.int .i64 1)), none, 0⟩] [(31, (.loc 0))])))))))
  (.seq (.seq (.region [] [(40, (.tmp 15))])
   (.cond (.tmp 40)
    (.goto 0)
    (.skip)))
  (.seq (.region [⟨.load none (.tmp 10), none, 0⟩, ⟨.bin .sub (.tmp 3) (.const (.int .i64 1)), none, 0⟩, ⟨.iaddr 1 (.loc 1) (.loc 0), none, 0⟩, ⟨.store 1 (.loc 0) (.const (.int .i64 (-1))), none, 0⟩] [])
  (.seq (.region [⟨.load none (.tmp 10), none, 0⟩] [(2, (.loc 0))])
  (.ret))))))))))))))))))⟩
theorem c88_ok : compileFn Try.prog false 88 = some c88 := by kernel_rfl
/-- cmp.Less[int] -/
noncomputable def c97 : AFunc := ⟨[0, 1, 4], [.tmp 2],
  .seq (.region [] [(2, (.const (.bool false)))])
  (.seq (.region [⟨.call (.func 114) [(.tmp 0)], none, 0⟩, ⟨.mov (.tmp 1), (some ((.loc 0), true)), 0⟩, ⟨.call (.func 114) [(.loc 0)], (some ((.loc 1), true)), 0⟩, ⟨.not (.loc 0), (some ((.loc 2), true)), 0⟩, ⟨.pick (.loc 3) (.loc 0) (.const (.bool false)), none, 0⟩, ⟨.mov (.tmp 0), (some ((.loc 0), false)), 0⟩, ⟨.mov (.tmp 1), (some ((.loc 1), false)), 0⟩, ⟨.bin .lss (.loc 1) (.loc 0), (some ((.loc 2), false)), 0⟩, ⟨.pick (.loc 3) (.const (.bool true)) (.loc 0), none, 0⟩] [(2, (.loc 0))])
  (.ret))⟩
theorem c97_ok : compileFn Try.prog false 97 = some c97 := by kernel_rfl
/-- louver/graph.to$1 -/
noncomputable def c102 : AFunc := ⟨[0, 1, 2, 3, 22], [],
  .seq (.region [⟨.bin .geq (.tmp 0) (.const (.int .i64 0)), none, 0⟩, ⟨.mov (.tmp 0), (some ((.loc 0), true)), 0⟩, ⟨.mov (.tmp 1), (some ((.loc 1), true)), 0⟩, ⟨.bin .leq (.loc 1) (.loc 0), (some ((.loc 2), true)), 0⟩, ⟨.pick (.loc 3) (.loc 0) (.const (.bool false)), none, 0⟩, ⟨.load none (.tmp 2), (some ((.loc 0), true)), 0⟩, ⟨.bin .eql (.loc 0) (.const (.int .i64 0)), (some ((.loc 1), true)), 0⟩, ⟨.mov (.loc 0), (some ((.loc 2), true)), 0⟩, ⟨.iarr 2 1 (.tmp 3) (.const (.int .i64 0)), (some ((.loc 0), false)), 0⟩, ⟨.load none (.loc 0), (some ((.loc 1), false)), 0⟩, ⟨.mov (.tmp 0), (some ((.loc 2), false)), 0⟩, ⟨.bin .neq (.loc 1) (.loc 0), (some ((.loc 3), false)), 0⟩, ⟨.pick (.loc 4) (.const (.bool true)) (.loc 0), (some ((.loc 7), true)), 0⟩, ⟨.pick (.loc 8) (.loc 0) (.const (.bool false)), none, 0⟩] [(4, (.loc 0))])
  (.cond (.tmp 4)
   (.seq (.region [⟨.load none (.tmp 2), none, 0⟩, ⟨.iarr 2 1 (.tmp 3) (.loc 0), none, 0⟩, ⟨.store 1 (.loc 0) (.tmp 0), none, 0⟩] [])
    (.region [⟨.load none (.tmp 2), none, 0⟩, ⟨.bin .add (.loc 0) (.const (.int .i64 1)), none, 0⟩, ⟨.store 1 (.tmp 2) (.loc 0), none, 0⟩] []))
   (.skip))⟩
theorem c102_ok : compileFn Try.prog false 102 = some c102 := by kernel_rfl
/-- louver/graph.Edges -/
noncomputable def c103 : AFunc := ⟨[0, 1, 2], [.tmp 2],
  .seq (.region [⟨.box (.tmp 0), none, 0⟩] [(1, (.loc 0)), (2, (.const .nilFunc))])
  (.seq (.region [⟨.faddr 5 (.tmp 1), none, 0⟩, ⟨.load none (.loc 0), none, 0⟩, ⟨.call (.func 117) [(.loc 0)], none, 0⟩, ⟨.call (.func 85) [(.loc 0)], none, 0⟩] [(2, (.loc 0))])
  (.ret))⟩
theorem c103_ok : compileFn Try.prog false 103 = some c103 := by kernel_rfl
/-- (*louver/region.walker).each$1 -/
noncomputable def c104 : AFunc := ⟨[0, 1, 2, 3, 4, 5, 8, 9, 10, 11, 12, 34], [],
  .seq (.region [⟨.len (.tmp 0), none, 0⟩] [(7, (.tmp 0)), (8, (.loc 0)), (9, (.const (.int .i64 0)))])
  (.block 0 (.loop (.seq (.region [⟨.bin .lss (.tmp 9) (.tmp 8), none, 0⟩] [(10, (.loc 0))])
   (.seq (.cond (.tmp 10)
     (.skip)
     (.exit 0))
   (.seq (.block 1 (.seq (.region [⟨.iaddr 1 (.tmp 7) (.tmp 9), none, 0⟩, ⟨.load none (.loc 0), none, 0⟩] [(6, (.loc 0))])
    (.seq (.draw [⟨.load none (.tmp 1), none, 0⟩, ⟨.bin .neq (.tmp 6) (.loc 0), none, 0⟩, ⟨.mov (.tmp 6), (some ((.loc 0), true)), 0⟩, ⟨.load none (.tmp 2), (some ((.loc 1), true)), 0⟩, ⟨.bin .neq (.loc 1) (.loc 0), (some ((.loc 2), true)), 0⟩, ⟨.pick (.loc 3) (.loc 0) (.const (.bool false)), none, 0⟩, ⟨.load none (.tmp 3), (some ((.loc 0), true)), 0⟩, ⟨.nilchk (.loc 0), (some ((.loc 1), true)), 0⟩, ⟨.faddr 2 (.loc 0), (some ((.loc 2), true)), 0⟩, ⟨.load none (.loc 0), (some ((.loc 3), true)), 0⟩, ⟨.mov (.tmp 6), (some ((.loc 4), true)), 0⟩, ⟨.iaddr 1 (.loc 1) (.loc 0), (some ((.loc 5), true)), 0⟩, ⟨.load none (.loc 0), (some ((.loc 6), true)), 0⟩, ⟨.load none (.tmp 4), (some ((.loc 7), true)), 0⟩, ⟨.bin .add (.loc 0) (.const (.int .i64 1)), (some ((.loc 8), true)), 0⟩, ⟨.bin .neq (.loc 2) (.loc 0), (some ((.loc 9), true)), 0⟩, ⟨.pick (.loc 10) (.loc 0) (.const (.bool false)), none, 0⟩] [(11, (.loc 0))])
    (.cond (.tmp 11)
     (.seq (.draw [⟨.load none (.tmp 3), none, 0⟩, ⟨.nilchk (.loc 0), none, 0⟩, ⟨.faddr 2 (.loc 0), none, 0⟩, ⟨.load none (.loc 0), none, 0⟩, ⟨.load none (.tmp 4), none, 0⟩, ⟨.bin .add (.loc 0) (.const (.int .i64 1)), none, 0⟩, ⟨.iaddr 1 (.loc 2) (.tmp 6), none, 0⟩, ⟨.store 1 (.loc 0) (.loc 1), none, 0⟩] [])
      (.region [⟨.load none (.tmp 5), none, 0⟩, ⟨.mkarr 1 [(.int .i64 0)] [(0, 1, (.tmp 6))], none, 0⟩, ⟨.append false 1 8 (.loc 1) (.loc 0), none, 0⟩, ⟨.store 1 (.tmp 5) (.loc 0), none, 0⟩] []))
     (.skip)))))
   (.region [⟨.bin .add (.tmp 9) (.const (.int .i64 1)), none, 0⟩] [(9, (.loc 0))]))))))⟩
theorem c104_ok : compileFn Try.prog false 104 = some c104 := by kernel_rfl
/-- slices.pdqsortOrdered[int] -/
noncomputable def c106 : AFunc := ⟨[0, 1, 2, 3, 8, 9, 10, 11, 12, 13, 14, 15, 16, 17, 18, 23, 29, 35, 50, 68, 72, 87, 113], [],
  .seq (.region [] [(4, (.const (.bool true)))])
  (.seq (.region [] [(5, (.const (.bool true)))])
  (.block 0 (.loop (.block 1 (.seq (.region [⟨.bin .sub (.tmp 2) (.tmp 1), none, 0⟩] [(6, (.loc 0))])
   (.seq (.seq (.region [⟨.bin .leq (.tmp 6) (.const (.int .i64 12)), none, 0⟩] [(15, (.loc 0))])
    (.cond (.tmp 15)
     (.seq (.region [⟨.call (.func 118) [(.tmp 0), (.tmp 1), (.tmp 2)], none, 0⟩] [])
      (.ret))
     (.skip)))
   (.seq (.seq (.region [⟨.bin .eql (.tmp 3) (.const (.int .i64 0)), none, 0⟩] [(16, (.loc 0))])
    (.cond (.tmp 16)
     (.seq (.region [⟨.call (.func 119) [(.tmp 0), (.tmp 1), (.tmp 2)], none, 0⟩] [])
      (.ret))
     (.skip)))
   (.seq (.seq (.region [⟨.not (.tmp 4), none, 0⟩] [(17, (.loc 0))])
    (.cond (.tmp 17)
     (.seq (.region [⟨.call (.func 120) [(.tmp 0), (.tmp 1), (.tmp 2)], none, 0⟩] [])
      (.region [⟨.bin .sub (.tmp 3) (.const (.int .i64 1)), none, 0⟩] [(3, (.loc 0))]))
     (.skip)))
   (.seq (.region [⟨.call (.func 121) [(.tmp 0), (.tmp 1), (.tmp 2)], none, 0⟩, ⟨.ext (.loc 0) 0, none, 0⟩, ⟨.ext (.loc 1) 1, none, 0⟩] [(7, (.loc 1)), (8, (.loc 0))])
   (.seq (.seq (.region [⟨.bin .eql (.tmp 8) (.const (.int .i64 2)), none, 0⟩] [(18, (.loc 0))])
    (.cond (.tmp 18)
     (.seq (.region [⟨.call (.func 122) [(.tmp 0), (.tmp 1), (.tmp 2)], none, 0⟩] [])
      (.seq (.region [⟨.bin .sub (.tmp 2) (.const (.int .i64 1)), none, 0⟩, ⟨.bin .sub (.tmp 7) (.tmp 1), none, 0⟩, ⟨.bin .sub (.loc 1) (.loc 0), none, 0⟩] [(7, (.loc 0))])
      (.region [] [(8, (.const (.int .i64 1)))])))
     (.skip)))
   (.seq (.seq (.region [⟨.mov (.tmp 5), (some ((.tmp 4), true)), 0⟩, ⟨.pick (.tmp 4) (.loc 0) (.const (.bool false)), none, 0⟩, ⟨.mov (.tmp 8), (some ((.loc 0), true)), 0⟩, ⟨.bin .eql (.loc 0) (.const (.int .i64 1)), (some ((.loc 1), true)), 0⟩, ⟨.pick (.loc 2) (.loc 0) (.const (.bool false)), none, 0⟩] [(19, (.loc 0))])
    (.cond (.tmp 19)
     (.seq (.region [⟨.call (.func 123) [(.tmp 0), (.tmp 1), (.tmp 2)], none, 0⟩] [(20, (.loc 0))])
      (.cond (.tmp 20)
       (.ret)
       (.skip)))
     (.skip)))
   (.seq (.seq (.draw [⟨.bin .gtr (.tmp 1) (.const (.int .i64 0)), none, 0⟩, ⟨.mov (.tmp 0), (some ((.loc 0), true)), 0⟩, ⟨.mov (.tmp 1), (some ((.loc 1), true)), 0⟩, ⟨.bin .sub (.loc 0) (.const (.int .i64 1)), (some ((.loc 2), true)), 0⟩, ⟨.iaddr 1 (.loc 2) (.loc 0), (some ((.loc 3), true)), 0⟩, ⟨.load none (.loc 0), (some ((.loc 4), true)), 0⟩, ⟨.mov (.tmp 0), (some ((.loc 5), true)), 0⟩, ⟨.mov (.tmp 7), (some ((.loc 6), true)), 0⟩, ⟨.iaddr 1 (.loc 1) (.loc 0), (some ((.loc 7), true)), 0⟩, ⟨.load none (.loc 0), (some ((.loc 8), true)), 0⟩, ⟨.call (.func 97) [(.loc 4), (.loc 0)], (some ((.loc 9), true)), 0⟩, ⟨.not (.loc 0), (some ((.loc 10), true)), 1⟩, ⟨.pick (.loc 11) (.loc 0) (.const (.bool false)), none, 1⟩] [(21, (.loc 0))])
    (.cond (.tmp 21)
     (.seq (.region [⟨.call (.func 124) [(.tmp 0), (.tmp 1), (.tmp 2), (.tmp 7)], none, 0⟩] [(9, (.loc 0))])
      (.seq (.region [] [(1, (.tmp 9))])
      (.exit 1)))
     (.skip)))
   (.seq (.region [⟨.call (.func 125) [(.tmp 0), (.tmp 1), (.tmp 2), (.tmp 7)], none, 0⟩, ⟨.ext (.loc 0) 0, none, 0⟩, ⟨.ext (.loc 1) 1, none, 0⟩] [(10, (.loc 1)), (11, (.loc 0))])
   (.seq (.region [] [(5, (.tmp 11))])
   (.seq (.region [⟨.bin .sub (.tmp 10) (.tmp 1), none, 0⟩, ⟨.bin .sub (.tmp 2) (.tmp 10), none, 0⟩] [(12, (.loc 1)), (13, (.loc 0))])
   (.seq (.region [⟨.bin .quo (.tmp 6) (.const (.int .i64 8)), none, 0⟩] [(14, (.loc 0))])
   (.seq (.region [⟨.bin .lss (.tmp 12) (.tmp 13), none, 0⟩] [(22, (.loc 0))])
   (.cond (.tmp 22)
    (.seq (.region [⟨.bin .geq (.tmp 12) (.tmp 14), none, 0⟩] [(4, (.loc 0))])
     (.seq (.region [⟨.call (.func 106) [(.tmp 0), (.tmp 1), (.tmp 10), (.tmp 3)], none, 0⟩] [])
     (.region [⟨.bin .add (.tmp 10) (.const (.int .i64 1)), none, 0⟩] [(1, (.loc 0))])))
    (.seq (.region [⟨.bin .geq (.tmp 13) (.tmp 14), none, 0⟩] [(4, (.loc 0))])
     (.seq (.region [⟨.bin .add (.tmp 10) (.const (.int .i64 1)), none, 0⟩, ⟨.call (.func 106) [(.tmp 0), (.loc 0), (.tmp 2), (.tmp 3)], none, 0⟩] [])
     (.region [] [(2, (.tmp 10))])))))))))))))))))))))⟩
theorem c106_ok : compileFn Try.prog false 106 = some c106 := by kernel_rfl
/-- math/bits.Len -/
noncomputable def c107 : AFunc := ⟨[0, 2], [.tmp 1],
  .seq (.region [] [(1, (.const (.int .i64 0)))])
  (.seq (.cond (.const (.bool false))
    (.seq (.region [⟨.conv .u32 (.tmp 0), none, 0⟩, ⟨.call (.func 126) [(.loc 0)], none, 0⟩] [(1, (.loc 0))])
     (.ret))
    (.skip))
  (.seq (.region [⟨.call (.func 127) [(.tmp 0)], none, 0⟩] [(1, (.loc 0))])
  (.ret)))⟩
theorem c107_ok : compileFn Try.prog false 107 = some c107 := by kernel_rfl
/-- louver/graph.edges$1 -/
noncomputable def c109 : AFunc := ⟨[0, 1, 3, 4, 5, 7, 9, 10, 11, 20, 21, 22, 23, 30], [],
  .seq (.region [⟨.load none (.tmp 1), none, 0⟩, ⟨.len (.loc 0), none, 0⟩] [(6, (.loc 0)), (7, (.const (.int .i64 0)))])
  (.block 0 (.loop (.seq (.region [⟨.bin .lss (.tmp 7) (.tmp 6), none, 0⟩] [(8, (.loc 0))])
   (.seq (.cond (.tmp 8)
     (.skip)
     (.exit 0))
   (.seq (.block 1 (.seq (.region [] [(2, (.tmp 7))])
    (.seq (.region [⟨.load none (.tmp 1), none, 0⟩, ⟨.call (.func 70) [(.loc 0), (.tmp 2)], none, 0⟩, ⟨.ext (.loc 0) 0, none, 0⟩, ⟨.ext (.loc 1) 1, none, 0⟩, ⟨.alloc [(.int .i64 0), (.int .i64 0)], none, 0⟩, ⟨.store 2 (.loc 0) (.loc 2), none, 0⟩] [(3, (.loc 1)), (4, (.loc 2))])
    (.seq (.region [⟨.slarr 2 1 (.tmp 3) none (some (.tmp 4)) none, none, 0⟩, ⟨.len (.loc 0), none, 0⟩] [(9, (.loc 1)), (10, (.loc 0)), (11, (.const (.int .i64 0)))])
    (.block 2 (.loop (.seq (.region [⟨.bin .lss (.tmp 11) (.tmp 10), none, 0⟩] [(12, (.loc 0))])
     (.seq (.cond (.tmp 12)
       (.skip)
       (.exit 2))
     (.seq (.block 3 (.seq (.region [⟨.iaddr 1 (.tmp 9) (.tmp 11), none, 0⟩, ⟨.load none (.loc 0), none, 0⟩] [(5, (.loc 0))])
      (.seq (.region [⟨.call (.tmp 0) [(.tmp 2), (.tmp 5)], none, 0⟩, ⟨.not (.loc 0), none, 0⟩] [(13, (.loc 0))])
      (.cond (.tmp 13)
       (.ret)
       (.skip)))))
     (.region [⟨.bin .add (.tmp 11) (.const (.int .i64 1)), none, 0⟩] [(11, (.loc 0))]))))))))))
   (.region [⟨.bin .add (.tmp 7) (.const (.int .i64 1)), none, 0⟩] [(7, (.loc 0))]))))))⟩
theorem c109_ok : compileFn Try.prog false 109 = some c109 := by kernel_rfl
/-- louver/post.order -/
noncomputable def c110 : AFunc := ⟨[0, 1, 4, 5, 6, 7, 8, 9, 22, 40, 77], [.tmp 2],
  .seq (.region [] [(2, (.const (.slice none 0 0)))])
  (.seq (.region [⟨.mkslice [(.bool false)] 1 (.tmp 0) (.tmp 0), none, 0⟩] [(3, (.loc 0))])
  (.seq (.region [] [(4, (.const (.slice none 0 0)))])
  (.seq (.region [⟨.bin .sub (.tmp 0) (.const (.int .i64 1)), none, 0⟩, ⟨.build [(.int .i64 0), (.int .i64 0)] [(0, 1, (.loc 0)), (1, 1, (.const (.int .i64 0)))], none, 0⟩, ⟨.mkarr 1 [(.int .i64 0), (.int .i64 0)] [(0, 2, (.loc 0))], none, 0⟩] [(5, (.loc 0))])
  (.seq (.region [⟨.bin .sub (.tmp 0) (.const (.int .i64 1)), none, 0⟩, ⟨.iaddr 1 (.tmp 3) (.loc 0), none, 0⟩, ⟨.store 1 (.loc 0) (.const (.bool true)), none, 0⟩] [])
  (.seq (.block 0 (.loop (.seq (.seq (.region [⟨.len (.tmp 5), none, 0⟩, ⟨.bin .gtr (.loc 0) (.const (.int .i64 0)), none, 0⟩] [(8, (.loc 0))])
     (.cond (.tmp 8)
      (.skip)
      (.exit 0)))
    (.block 1 (.seq (.region [⟨.len (.tmp 5), none, 0⟩, ⟨.bin .sub (.loc 0) (.const (.int .i64 1)), none, 0⟩, ⟨.iaddr 2 (.tmp 5) (.loc 0), none, 0⟩] [(6, (.loc 0))])
    (.seq (.seq (.draw [⟨.nilchk (.tmp 6), none, 0⟩, ⟨.faddr 1 (.loc 0), none, 0⟩, ⟨.load none (.loc 0), none, 0⟩, ⟨.nilchk (.tmp 6), none, 0⟩, ⟨.faddr 0 (.loc 0), none, 0⟩, ⟨.load none (.loc 0), none, 0⟩, ⟨.iaddr 1 (.tmp 1) (.loc 0), none, 0⟩, ⟨.load none (.loc 0), none, 0⟩, ⟨.len (.loc 0), none, 0⟩, ⟨.bin .eql (.loc 6) (.loc 0), none, 0⟩] [(9, (.loc 0))])
     (.cond (.tmp 9)
      (.seq (.region [⟨.nilchk (.tmp 6), none, 0⟩, ⟨.faddr 0 (.loc 0), none, 0⟩, ⟨.load none (.loc 0), none, 0⟩, ⟨.mkarr 1 [(.int .i64 0)] [(0, 1, (.loc 0))], none, 0⟩, ⟨.append false 1 8 (.tmp 4) (.loc 0), none, 0⟩] [(4, (.loc 0))])
       (.seq (.region [⟨.len (.tmp 5), none, 0⟩, ⟨.bin .sub (.loc 0) (.const (.int .i64 1)), none, 0⟩, ⟨.slice 2 (.tmp 5) none (some (.loc 0)) none, none, 0⟩] [(5, (.loc 0))])
       (.exit 1)))
      (.skip)))
    (.seq (.draw [⟨.nilchk (.tmp 6), none, 0⟩, ⟨.faddr 0 (.loc 0), none, 0⟩, ⟨.load none (.loc 0), none, 0⟩, ⟨.iaddr 1 (.tmp 1) (.loc 0), none, 0⟩, ⟨.load none (.loc 0), none, 0⟩, ⟨.nilchk (.tmp 6), none, 0⟩, ⟨.faddr 1 (.loc 0), none, 0⟩, ⟨.load none (.loc 0), none, 0⟩, ⟨.iaddr 1 (.loc 3) (.loc 0), none, 0⟩, ⟨.load none (.loc 0), none, 0⟩] [(7, (.loc 0))])
    (.seq (.region [⟨.nilchk (.tmp 6), none, 0⟩, ⟨.faddr 1 (.loc 0), none, 0⟩, ⟨.load none (.loc 0), none, 0⟩, ⟨.bin .add (.loc 0) (.const (.int .i64 1)), none, 0⟩, ⟨.nilchk (.tmp 6), none, 0⟩, ⟨.faddr 1 (.loc 0), none, 0⟩, ⟨.store 1 (.loc 0) (.loc 2), none, 0⟩] [])
    (.seq (.region [⟨.iaddr 1 (.tmp 3) (.tmp 7), none, 0⟩, ⟨.load none (.loc 0), none, 0⟩, ⟨.not (.loc 0), none, 0⟩] [(10, (.loc 0))])
    (.cond (.tmp 10)
     (.seq (.region [⟨.iaddr 1 (.tmp 3) (.tmp 7), none, 0⟩, ⟨.store 1 (.loc 0) (.const (.bool true)), none, 0⟩] [])
      (.region [⟨.build [(.int .i64 0), (.int .i64 0)] [(0, 1, (.tmp 7)), (1, 1, (.const (.int .i64 0)))], none, 0⟩, ⟨.mkarr 1 [(.int .i64 0), (.int .i64 0)] [(0, 2, (.loc 0))], none, 0⟩, ⟨.append false 2 16 (.tmp 5) (.loc 0), none, 0⟩] [(5, (.loc 0))]))
     (.skip)))))))))))
  (.seq (.region [⟨.call (.func 129) [(.tmp 4)], none, 0⟩] [])
  (.seq (.region [] [(2, (.tmp 4))])
  (.ret))))))))⟩
theorem c110_ok : compileFn Try.prog false 110 = some c110 := by kernel_rfl
/-- louver/post.Tree$1 -/
noncomputable def c111 : AFunc := ⟨[0, 1, 2, 3, 6, 9, 18, 31], [.tmp 4],
  .seq (.region [] [(4, (.const (.int .i64 0)))])
  (.seq (.block 0 (.loop (.seq (.seq (.region [⟨.bin .neq (.tmp 0) (.tmp 1), none, 0⟩] [(5, (.loc 0))])
     (.cond (.tmp 5)
      (.skip)
      (.exit 0)))
    (.block 1 (.seq (.block 2 (.loop (.seq (.seq (.draw [⟨.load none (.tmp 2), none, 0⟩, ⟨.iaddr 1 (.loc 0) (.tmp 0), none, 0⟩, ⟨.load none (.loc 0), none, 0⟩, ⟨.load none (.tmp 2), none, 0⟩, ⟨.iaddr 1 (.loc 0) (.tmp 1), none, 0⟩, ⟨.load none (.loc 0), none, 0⟩, ⟨.bin .gtr (.loc 3) (.loc 0), none, 0⟩] [(6, (.loc 0))])
       (.cond (.tmp 6)
        (.skip)
        (.exit 2)))
      (.block 3 (.region [⟨.load none (.tmp 3), none, 0⟩, ⟨.iaddr 1 (.loc 0) (.tmp 0), none, 0⟩, ⟨.load none (.loc 0), none, 0⟩] [(0, (.loc 0))])))))
    (.block 4 (.loop (.seq (.seq (.draw [⟨.load none (.tmp 2), none, 0⟩, ⟨.iaddr 1 (.loc 0) (.tmp 1), none, 0⟩, ⟨.load none (.loc 0), none, 0⟩, ⟨.load none (.tmp 2), none, 0⟩, ⟨.iaddr 1 (.loc 0) (.tmp 0), none, 0⟩, ⟨.load none (.loc 0), none, 0⟩, ⟨.bin .gtr (.loc 3) (.loc 0), none, 0⟩] [(7, (.loc 0))])
      (.cond (.tmp 7)
       (.skip)
       (.exit 4)))
     (.block 5 (.region [⟨.load none (.tmp 3), none, 0⟩, ⟨.iaddr 1 (.loc 0) (.tmp 1), none, 0⟩, ⟨.load none (.loc 0), none, 0⟩] [(1, (.loc 0))]))))))))))
  (.seq (.region [] [(4, (.tmp 0))])
  (.ret)))⟩
theorem c111_ok : compileFn Try.prog false 111 = some c111 := by kernel_rfl
/-- cmp.isNaN[int] -/
noncomputable def c114 : AFunc := ⟨[0, 2], [.tmp 1],
  .seq (.region [] [(1, (.const (.bool false)))])
  (.seq (.region [⟨.bin .neq (.tmp 0) (.tmp 0), none, 0⟩] [(1, (.loc 0))])
  (.ret))⟩
theorem c114_ok : compileFn Try.prog false 114 = some c114 := by kernel_rfl
/-- slices.Clone[[]louver/api.Instr,louver/api.Instr] -/
noncomputable def c117 : AFunc := ⟨[0, 2, 4], [.tmp 1],
  .seq (.region [] [(1, (.const (.slice none 0 0)))])
  (.seq (.seq (.region [⟨.eqn 0 false (.tmp 0) (.const (.slice none 0 0)), none, 0⟩] [(2, (.loc 0))])
   (.cond (.tmp 2)
    (.seq (.region [] [(1, (.const (.slice none 0 0)))])
     (.ret))
    (.skip)))
  (.seq (.region [⟨.mkarr 0 [] [], none, 0⟩, ⟨.append false 2 16 (.loc 0) (.tmp 0), none, 0⟩] [(1, (.loc 0))])
  (.ret)))⟩
theorem c117_ok : compileFn Try.prog false 117 = some c117 := by kernel_rfl
/-- slices.insertionSortOrdered[int] -/
noncomputable def c118 : AFunc := ⟨[0, 1, 2, 6, 7, 12, 30], [],
  .seq (.region [⟨.bin .add (.tmp 1) (.const (.int .i64 1)), none, 0⟩] [(3, (.loc 0))])
  (.block 0 (.loop (.seq (.seq (.region [⟨.bin .lss (.tmp 3) (.tmp 2), none, 0⟩] [(5, (.loc 0))])
    (.cond (.tmp 5)
     (.skip)
     (.exit 0)))
   (.seq (.block 1 (.seq (.region [] [(4, (.tmp 3))])
    (.block 2 (.loop (.seq (.seq (.draw [⟨.bin .gtr (.tmp 4) (.tmp 1), none, 0⟩, ⟨.mov (.tmp 0), (some ((.loc 0), true)), 0⟩, ⟨.mov (.tmp 4), (some ((.loc 1), true)), 0⟩, ⟨.iaddr 1 (.loc 1) (.loc 0), (some ((.loc 2), true)), 0⟩, ⟨.load none (.loc 0), (some ((.loc 3), true)), 0⟩, ⟨.mov (.tmp 0), (some ((.loc 4), true)), 0⟩, ⟨.mov (.tmp 4), (some ((.loc 5), true)), 0⟩, ⟨.bin .sub (.loc 0) (.const (.int .i64 1)), (some ((.loc 6), true)), 0⟩, ⟨.iaddr 1 (.loc 2) (.loc 0), (some ((.loc 7), true)), 0⟩, ⟨.load none (.loc 0), (some ((.loc 8), true)), 0⟩, ⟨.call (.func 97) [(.loc 5), (.loc 0)], (some ((.loc 9), true)), 0⟩, ⟨.pick (.loc 10) (.loc 0) (.const (.bool false)), none, 1⟩] [(6, (.loc 0))])
      (.cond (.tmp 6)
       (.skip)
       (.exit 2)))
     (.seq (.block 3 (.draw [⟨.bin .sub (.tmp 4) (.const (.int .i64 1)), none, 0⟩, ⟨.iaddr 1 (.tmp 0) (.loc 0), none, 0⟩, ⟨.load none (.loc 0), none, 0⟩, ⟨.iaddr 1 (.tmp 0) (.tmp 4), none, 0⟩, ⟨.load none (.loc 0), none, 0⟩, ⟨.iaddr 1 (.tmp 0) (.tmp 4), none, 0⟩, ⟨.store 1 (.loc 0) (.loc 3), none, 0⟩, ⟨.bin .sub (.tmp 4) (.const (.int .i64 1)), none, 0⟩, ⟨.iaddr 1 (.tmp 0) (.loc 0), none, 1⟩, ⟨.store 1 (.loc 0) (.loc 4), none, 1⟩] []))
     (.region [⟨.bin .sub (.tmp 4) (.const (.int .i64 1)), none, 0⟩] [(4, (.loc 0))])))))))
   (.region [⟨.bin .add (.tmp 3) (.const (.int .i64 1)), none, 0⟩] [(3, (.loc 0))])))))⟩
theorem c118_ok : compileFn Try.prog false 118 = some c118 := by kernel_rfl
/-- slices.heapSortOrdered[int] -/
noncomputable def c119 : AFunc := ⟨[0, 1, 2, 6, 7, 8, 9, 10, 19, 30], [],
  .seq (.region [] [(3, (.tmp 1))])
  (.seq (.region [] [(4, (.const (.int .i64 0)))])
  (.seq (.region [⟨.bin .sub (.tmp 2) (.tmp 1), none, 0⟩] [(5, (.loc 0))])
  (.seq (.seq (.region [⟨.bin .sub (.tmp 5) (.const (.int .i64 1)), none, 0⟩, ⟨.bin .quo (.loc 0) (.const (.int .i64 2)), none, 0⟩] [(6, (.loc 0))])
   (.block 0 (.loop (.seq (.seq (.region [⟨.bin .geq (.tmp 6) (.const (.int .i64 0)), none, 0⟩] [(8, (.loc 0))])
     (.cond (.tmp 8)
      (.skip)
      (.exit 0)))
    (.seq (.block 1 (.region [⟨.call (.func 130) [(.tmp 0), (.tmp 6), (.tmp 5), (.tmp 3)], none, 0⟩] []))
    (.region [⟨.bin .sub (.tmp 6) (.const (.int .i64 1)), none, 0⟩] [(6, (.loc 0))]))))))
  (.seq (.region [⟨.bin .sub (.tmp 5) (.const (.int .i64 1)), none, 0⟩] [(7, (.loc 0))])
  (.block 2 (.loop (.seq (.seq (.region [⟨.bin .geq (.tmp 7) (.const (.int .i64 0)), none, 0⟩] [(9, (.loc 0))])
    (.cond (.tmp 9)
     (.skip)
     (.exit 2)))
   (.seq (.block 3 (.seq (.draw [⟨.bin .add (.tmp 3) (.tmp 7), none, 0⟩, ⟨.iaddr 1 (.tmp 0) (.loc 0), none, 0⟩, ⟨.load none (.loc 0), none, 0⟩, ⟨.iaddr 1 (.tmp 0) (.tmp 3), none, 0⟩, ⟨.load none (.loc 0), none, 0⟩, ⟨.iaddr 1 (.tmp 0) (.tmp 3), none, 0⟩, ⟨.store 1 (.loc 0) (.loc 3), none, 0⟩, ⟨.bin .add (.tmp 3) (.tmp 7), none, 0⟩, ⟨.iaddr 1 (.tmp 0) (.loc 0), none, 1⟩, ⟨.store 1 (.loc 0) (.loc 4), none, 1⟩] [])
    (.region [⟨.call (.func 130) [(.tmp 0), (.tmp 4), (.tmp 7), (.tmp 3)], none, 0⟩] [])))
   (.region [⟨.bin .sub (.tmp 7) (.const (.int .i64 1)), none, 0⟩] [(7, (.loc 0))])))))))))⟩
theorem c119_ok : compileFn Try.prog false 119 = some c119 := by kernel_rfl
/-- slices.breakPatternsOrdered[int] -/
noncomputable def c120 : AFunc := ⟨[0, 1, 2, 6, 7, 8, 9, 10, 15, 33, 43], [],
  .seq (.region [⟨.bin .sub (.tmp 2) (.tmp 1), none, 0⟩] [(3, (.loc 0))])
  (.seq (.region [⟨.bin .geq (.tmp 3) (.const (.int .i64 8)), none, 0⟩] [(8, (.loc 0))])
  (.cond (.tmp 8)
   (.seq (.region [⟨.conv .u64 (.tmp 3), none, 0⟩, ⟨.alloc [(.int .u64 0)], none, 0⟩, ⟨.store 1 (.loc 0) (.loc 1), none, 0⟩] [(4, (.loc 1))])
    (.seq (.region [⟨.call (.func 131) [(.tmp 3)], none, 0⟩] [(5, (.loc 0))])
    (.seq (.region [⟨.bin .quo (.tmp 3) (.const (.int .i64 4)), none, 0⟩, ⟨.bin .mul (.loc 0) (.const (.int .i64 2)), none, 0⟩, ⟨.bin .add (.tmp 1) (.loc 0), none, 0⟩, ⟨.bin .sub (.loc 0) (.const (.int .i64 1)), none, 0⟩] [(6, (.loc 0))])
    (.block 0 (.loop (.seq (.seq (.region [⟨.bin .quo (.tmp 3) (.const (.int .i64 4)), none, 0⟩, ⟨.bin .mul (.loc 0) (.const (.int .i64 2)), none, 0⟩, ⟨.bin .add (.tmp 1) (.loc 0), none, 0⟩, ⟨.bin .add (.loc 0) (.const (.int .i64 1)), none, 0⟩, ⟨.bin .leq (.tmp 6) (.loc 0), none, 0⟩] [(9, (.loc 0))])
      (.cond (.tmp 9)
       (.skip)
       (.exit 0)))
     (.seq (.block 1 (.seq (.region [⟨.call (.func 132) [(.tmp 4)], none, 0⟩, ⟨.bin .sub (.tmp 5) (.const (.int .u64 1)), none, 0⟩, ⟨.bin .and (.loc 1) (.loc 0), none, 0⟩, ⟨.conv .i64 (.loc 0), none, 0⟩] [(7, (.loc 0))])
      (.seq (.seq (.region [⟨.bin .geq (.tmp 7) (.tmp 3), none, 0⟩] [(10, (.loc 0))])
       (.cond (.tmp 10)
        (.region [⟨.bin .sub (.tmp 7) (.tmp 3), none, 0⟩] [(7, (.loc 0))])
        (.skip)))
      (.draw [⟨.bin .add (.tmp 1) (.tmp 7), none, 0⟩, ⟨.iaddr 1 (.tmp 0) (.loc 0), none, 0⟩, ⟨.load none (.loc 0), none, 0⟩, ⟨.iaddr 1 (.tmp 0) (.tmp 6), none, 0⟩, ⟨.load none (.loc 0), none, 0⟩, ⟨.iaddr 1 (.tmp 0) (.tmp 6), none, 0⟩, ⟨.store 1 (.loc 0) (.loc 3), none, 0⟩, ⟨.bin .add (.tmp 1) (.tmp 7), none, 0⟩, ⟨.iaddr 1 (.tmp 0) (.loc 0), none, 1⟩, ⟨.store 1 (.loc 0) (.loc 4), none, 1⟩] []))))
     (.region [⟨.bin .add (.tmp 6) (.const (.int .i64 1)), none, 0⟩] [(6, (.loc 0))]))))))))
   (.skip)))⟩
theorem c120_ok : compileFn Try.prog false 120 = some c120 := by kernel_rfl
/-- slices.choosePivotOrdered[int] -/
noncomputable def c121 : AFunc := ⟨[0, 1, 2, 6, 7, 8, 9, 10, 11, 12, 32, 34, 49, 51, 54], [.tmp 3, .tmp 4],
  .seq (.region [] [(3, (.const (.int .i64 0))), (4, (.const (.int .i64 0)))])
  (.seq (.region [⟨.bin .sub (.tmp 2) (.tmp 1), none, 0⟩] [(5, (.loc 0))])
  (.seq (.region [⟨.alloc [(.int .i64 0)], none, 0⟩] [(6, (.loc 0))])
  (.seq (.region [⟨.bin .quo (.tmp 5) (.const (.int .i64 4)), none, 0⟩, ⟨.bin .mul (.loc 0) (.const (.int .i64 1)), none, 0⟩, ⟨.bin .add (.tmp 1) (.loc 0), none, 0⟩] [(7, (.loc 0))])
  (.seq (.region [⟨.bin .quo (.tmp 5) (.const (.int .i64 4)), none, 0⟩, ⟨.bin .mul (.loc 0) (.const (.int .i64 2)), none, 0⟩, ⟨.bin .add (.tmp 1) (.loc 0), none, 0⟩] [(8, (.loc 0))])
  (.seq (.region [⟨.bin .quo (.tmp 5) (.const (.int .i64 4)), none, 0⟩, ⟨.bin .mul (.loc 0) (.const (.int .i64 3)), none, 0⟩, ⟨.bin .add (.tmp 1) (.loc 0), none, 0⟩] [(9, (.loc 0))])
  (.seq (.seq (.region [⟨.bin .geq (.tmp 5) (.const (.int .i64 8)), none, 0⟩] [(10, (.loc 0))])
   (.cond (.tmp 10)
    (.seq (.seq (.region [⟨.bin .geq (.tmp 5) (.const (.int .i64 50)), none, 0⟩] [(11, (.loc 0))])
      (.cond (.tmp 11)
       (.seq (.region [⟨.call (.func 133) [(.tmp 0), (.tmp 7), (.tmp 6)], none, 0⟩] [(7, (.loc 0))])
        (.seq (.region [⟨.call (.func 133) [(.tmp 0), (.tmp 8), (.tmp 6)], none, 0⟩] [(8, (.loc 0))])
        (.region [⟨.call (.func 133) [(.tmp 0), (.tmp 9), (.tmp 6)], none, 0⟩] [(9, (.loc 0))])))
       (.skip)))
     (.region [⟨.call (.func 134) [(.tmp 0), (.tmp 7), (.tmp 8), (.tmp 9), (.tmp 6)], none, 0⟩] [(8, (.loc 0))]))
    (.skip)))
  (.seq (.region [⟨.load none (.tmp 6), none, 0⟩] [(12, (.loc 0))])
  (.block 0 (.seq (.region [⟨.bin .eql (.tmp 12) (.const (.int .i64 0)), none, 0⟩] [(13, (.loc 0))])
  (.cond (.tmp 13)
   (.seq (.region [] [(3, (.tmp 8)), (4, (.const (.int .i64 1)))])
    (.ret))
   (.seq (.region [⟨.bin .eql (.tmp 12) (.const (.int .i64 12)), none, 0⟩] [(14, (.loc 0))])
    (.cond (.tmp 14)
     (.seq (.region [] [(3, (.tmp 8)), (4, (.const (.int .i64 2)))])
      (.ret))
     (.seq (.region [] [(3, (.tmp 8)), (4, (.const (.int .i64 0)))])
      (.ret))))))))))))))⟩
theorem c121_ok : compileFn Try.prog false 121 = some c121 := by kernel_rfl
/-- slices.reverseRangeOrdered[int] -/
noncomputable def c122 : AFunc := ⟨[0, 1, 2, 6, 7, 13], [],
  .seq (.region [] [(3, (.tmp 1))])
  (.seq (.region [⟨.bin .sub (.tmp 2) (.const (.int .i64 1)), none, 0⟩] [(4, (.loc 0))])
  (.block 0 (.loop (.seq (.seq (.region [⟨.bin .lss (.tmp 3) (.tmp 4), none, 0⟩] [(5, (.loc 0))])
    (.cond (.tmp 5)
     (.skip)
     (.exit 0)))
   (.block 1 (.seq (.draw [⟨.iaddr 1 (.tmp 0) (.tmp 4), none, 0⟩, ⟨.load none (.loc 0), none, 0⟩, ⟨.iaddr 1 (.tmp 0) (.tmp 3), none, 0⟩, ⟨.load none (.loc 0), none, 0⟩, ⟨.iaddr 1 (.tmp 0) (.tmp 3), none, 0⟩, ⟨.store 1 (.loc 0) (.loc 3), none, 0⟩, ⟨.iaddr 1 (.tmp 0) (.tmp 4), none, 1⟩, ⟨.store 1 (.loc 0) (.loc 3), none, 1⟩] [])
   (.seq (.region [⟨.bin .add (.tmp 3) (.const (.int .i64 1)), none, 0⟩] [(3, (.loc 0))])
   (.region [⟨.bin .sub (.tmp 4) (.const (.int .i64 1)), none, 0⟩] [(4, (.loc 0))]))))))))⟩
theorem c122_ok : compileFn Try.prog false 122 = some c122 := by kernel_rfl
/-- slices.partialInsertionSortOrdered[int] -/
noncomputable def c123 : AFunc := ⟨[0, 1, 2, 6, 7, 8, 9, 10, 14, 32, 37, 41, 61, 65, 78, 98, 103, 116], [.tmp 3],
  .seq (.region [] [(3, (.const (.bool false)))])
  (.seq (.region [⟨.bin .add (.tmp 1) (.const (.int .i64 1)), none, 0⟩] [(4, (.loc 0))])
  (.seq (.seq (.region [] [(5, (.const (.int .i64 0)))])
   (.block 0 (.loop (.seq (.seq (.region [⟨.bin .lss (.tmp 5) (.const (.int .i64 5)), none, 0⟩] [(8, (.loc 0))])
     (.cond (.tmp 8)
      (.skip)
      (.exit 0)))
    (.seq (.block 1 (.seq (.block 2 (.loop (.seq (.seq (.draw [⟨.bin .lss (.tmp 4) (.tmp 2), none, 0⟩, ⟨.mov (.tmp 0), (some ((.loc 0), true)), 0⟩, ⟨.mov (.tmp 4), (some ((.loc 1), true)), 0⟩, ⟨.iaddr 1 (.loc 1) (.loc 0), (some ((.loc 2), true)), 0⟩, ⟨.load none (.loc 0), (some ((.loc 3), true)), 0⟩, ⟨.mov (.tmp 0), (some ((.loc 4), true)), 0⟩, ⟨.mov (.tmp 4), (some ((.loc 5), true)), 0⟩, ⟨.bin .sub (.loc 0) (.const (.int .i64 1)), (some ((.loc 6), true)), 0⟩, ⟨.iaddr 1 (.loc 2) (.loc 0), (some ((.loc 7), true)), 0⟩, ⟨.load none (.loc 0), (some ((.loc 8), true)), 0⟩, ⟨.call (.func 97) [(.loc 5), (.loc 0)], (some ((.loc 9), true)), 0⟩, ⟨.not (.loc 0), (some ((.loc 10), true)), 1⟩, ⟨.pick (.loc 11) (.loc 0) (.const (.bool false)), none, 1⟩] [(9, (.loc 0))])
        (.cond (.tmp 9)
         (.skip)
         (.exit 2)))
       (.block 3 (.region [⟨.bin .add (.tmp 4) (.const (.int .i64 1)), none, 0⟩] [(4, (.loc 0))])))))
     (.seq (.seq (.region [⟨.bin .eql (.tmp 4) (.tmp 2), none, 0⟩] [(10, (.loc 0))])
      (.cond (.tmp 10)
       (.seq (.region [] [(3, (.const (.bool true)))])
        (.ret))
       (.skip)))
     (.seq (.seq (.region [⟨.bin .sub (.tmp 2) (.tmp 1), none, 0⟩, ⟨.bin .lss (.loc 0) (.const (.int .i64 50)), none, 0⟩] [(11, (.loc 0))])
      (.cond (.tmp 11)
       (.seq (.region [] [(3, (.const (.bool false)))])
        (.ret))
       (.skip)))
     (.seq (.draw [⟨.bin .sub (.tmp 4) (.const (.int .i64 1)), none, 0⟩, ⟨.iaddr 1 (.tmp 0) (.loc 0), none, 0⟩, ⟨.load none (.loc 0), none, 0⟩, ⟨.iaddr 1 (.tmp 0) (.tmp 4), none, 0⟩, ⟨.load none (.loc 0), none, 0⟩, ⟨.iaddr 1 (.tmp 0) (.tmp 4), none, 0⟩, ⟨.store 1 (.loc 0) (.loc 3), none, 0⟩, ⟨.bin .sub (.tmp 4) (.const (.int .i64 1)), none, 0⟩, ⟨.iaddr 1 (.tmp 0) (.loc 0), none, 1⟩, ⟨.store 1 (.loc 0) (.loc 4), none, 1⟩] [])
     (.seq (.seq (.region [⟨.bin .sub (.tmp 4) (.tmp 1), none, 0⟩, ⟨.bin .geq (.loc 0) (.const (.int .i64 2)), none, 0⟩] [(12, (.loc 0))])
      (.cond (.tmp 12)
       (.seq (.region [⟨.bin .sub (.tmp 4) (.const (.int .i64 1)), none, 0⟩] [(6, (.loc 0))])
        (.block 4 (.loop (.seq (.seq (.region [⟨.bin .geq (.tmp 6) (.const (.int .i64 1)), none, 0⟩] [(13, (.loc 0))])
          (.cond (.tmp 13)
           (.skip)
           (.exit 4)))
         (.seq (.block 5 (.seq (.seq (.draw [⟨.iaddr 1 (.tmp 0) (.tmp 6), none, 0⟩, ⟨.load none (.loc 0), none, 0⟩, ⟨.bin .sub (.tmp 6) (.const (.int .i64 1)), none, 0⟩, ⟨.iaddr 1 (.tmp 0) (.loc 0), none, 0⟩, ⟨.load none (.loc 0), none, 0⟩, ⟨.call (.func 97) [(.loc 3), (.loc 0)], none, 0⟩, ⟨.not (.loc 0), none, 1⟩] [(14, (.loc 0))])
           (.cond (.tmp 14)
            (.exit 4)
            (.skip)))
          (.draw [⟨.bin .sub (.tmp 6) (.const (.int .i64 1)), none, 0⟩, ⟨.iaddr 1 (.tmp 0) (.loc 0), none, 0⟩, ⟨.load none (.loc 0), none, 0⟩, ⟨.iaddr 1 (.tmp 0) (.tmp 6), none, 0⟩, ⟨.load none (.loc 0), none, 0⟩, ⟨.iaddr 1 (.tmp 0) (.tmp 6), none, 0⟩, ⟨.store 1 (.loc 0) (.loc 3), none, 0⟩, ⟨.bin .sub (.tmp 6) (.const (.int .i64 1)), none, 0⟩, ⟨.iaddr 1 (.tmp 0) (.loc 0), none, 1⟩, ⟨.store 1 (.loc 0) (.loc 4), none, 1⟩] [])))
         (.region [⟨.bin .sub (.tmp 6) (.const (.int .i64 1)), none, 0⟩] [(6, (.loc 0))]))))))
       (.skip)))
     (.seq (.region [⟨.bin .sub (.tmp 2) (.tmp 4), none, 0⟩, ⟨.bin .geq (.loc 0) (.const (.int .i64 2)), none, 0⟩] [(15, (.loc 0))])
     (.cond (.tmp 15)
      (.seq (.region [⟨.bin .add (.tmp 4) (.const (.int .i64 1)), none, 0⟩] [(7, (.loc 0))])
       (.block 6 (.loop (.seq (.seq (.region [⟨.bin .lss (.tmp 7) (.tmp 2), none, 0⟩] [(16, (.loc 0))])
         (.cond (.tmp 16)
          (.skip)
          (.exit 6)))
        (.seq (.block 7 (.seq (.seq (.draw [⟨.iaddr 1 (.tmp 0) (.tmp 7), none, 0⟩, ⟨.load none (.loc 0), none, 0⟩, ⟨.bin .sub (.tmp 7) (.const (.int .i64 1)), none, 0⟩, ⟨.iaddr 1 (.tmp 0) (.loc 0), none, 0⟩, ⟨.load none (.loc 0), none, 0⟩, ⟨.call (.func 97) [(.loc 3), (.loc 0)], none, 0⟩, ⟨.not (.loc 0), none, 1⟩] [(17, (.loc 0))])
          (.cond (.tmp 17)
           (.exit 6)
           (.skip)))
         (.draw [⟨.bin .sub (.tmp 7) (.const (.int .i64 1)), none, 0⟩, ⟨.iaddr 1 (.tmp 0) (.loc 0), none, 0⟩, ⟨.load none (.loc 0), none, 0⟩, ⟨.iaddr 1 (.tmp 0) (.tmp 7), none, 0⟩, ⟨.load none (.loc 0), none, 0⟩, ⟨.iaddr 1 (.tmp 0) (.tmp 7), none, 0⟩, ⟨.store 1 (.loc 0) (.loc 3), none, 0⟩, ⟨.bin .sub (.tmp 7) (.const (.int .i64 1)), none, 0⟩, ⟨.iaddr 1 (.tmp 0) (.loc 0), none, 1⟩, ⟨.store 1 (.loc 0) (.loc 4), none, 1⟩] [])))
        (.region [⟨.bin .add (.tmp 7) (.const (.int .i64 1)), none, 0⟩] [(7, (.loc 0))]))))))
      (.skip)))))))))
    (.region [⟨.bin .add (.tmp 5) (.const (.int .i64 1)), none, 0⟩] [(5, (.loc 0))]))))))
  (.seq (.region [] [(3, (.const (.bool false)))])
  (.ret))))⟩
theorem c123_ok : compileFn Try.prog false 123 = some c123 := by kernel_rfl
/-- slices.partitionEqualOrdered[int] -/
noncomputable def c124 : AFunc := ⟨[0, 1, 2, 3, 8, 9, 10, 43, 59, 64], [.tmp 4],
  .seq (.region [] [(4, (.const (.int .i64 0)))])
  (.seq (.draw [⟨.iaddr 1 (.tmp 0) (.tmp 3), none, 0⟩, ⟨.load none (.loc 0), none, 0⟩, ⟨.iaddr 1 (.tmp 0) (.tmp 1), none, 0⟩, ⟨.load none (.loc 0), none, 0⟩, ⟨.iaddr 1 (.tmp 0) (.tmp 1), none, 0⟩, ⟨.store 1 (.loc 0) (.loc 3), none, 0⟩, ⟨.iaddr 1 (.tmp 0) (.tmp 3), none, 1⟩, ⟨.store 1 (.loc 0) (.loc 3), none, 1⟩] [])
  (.seq (.region [⟨.bin .add (.tmp 1) (.const (.int .i64 1)), none, 0⟩, ⟨.bin .sub (.tmp 2) (.const (.int .i64 1)), none, 0⟩] [(5, (.loc 1)), (6, (.loc 0))])
  (.seq (.block 0 (.loop (.block 1 (.seq (.block 2 (.loop (.seq (.seq (.draw [⟨.bin .leq (.tmp 5) (.tmp 6), none, 0⟩, ⟨.mov (.tmp 0), (some ((.loc 0), true)), 0⟩, ⟨.mov (.tmp 1), (some ((.loc 1), true)), 0⟩, ⟨.iaddr 1 (.loc 1) (.loc 0), (some ((.loc 2), true)), 0⟩, ⟨.load none (.loc 0), (some ((.loc 3), true)), 0⟩, ⟨.mov (.tmp 0), (some ((.loc 4), true)), 0⟩, ⟨.mov (.tmp 5), (some ((.loc 5), true)), 0⟩, ⟨.iaddr 1 (.loc 1) (.loc 0), (some ((.loc 6), true)), 0⟩, ⟨.load none (.loc 0), (some ((.loc 7), true)), 0⟩, ⟨.call (.func 97) [(.loc 4), (.loc 0)], (some ((.loc 8), true)), 0⟩, ⟨.not (.loc 0), (some ((.loc 9), true)), 1⟩, ⟨.pick (.loc 10) (.loc 0) (.const (.bool false)), none, 1⟩] [(7, (.loc 0))])
       (.cond (.tmp 7)
        (.skip)
        (.exit 2)))
      (.block 3 (.region [⟨.bin .add (.tmp 5) (.const (.int .i64 1)), none, 0⟩] [(5, (.loc 0))])))))
    (.seq (.block 4 (.loop (.seq (.seq (.draw [⟨.bin .leq (.tmp 5) (.tmp 6), none, 0⟩, ⟨.mov (.tmp 0), (some ((.loc 0), true)), 0⟩, ⟨.mov (.tmp 1), (some ((.loc 1), true)), 0⟩, ⟨.iaddr 1 (.loc 1) (.loc 0), (some ((.loc 2), true)), 0⟩, ⟨.load none (.loc 0), (some ((.loc 3), true)), 0⟩, ⟨.mov (.tmp 0), (some ((.loc 4), true)), 0⟩, ⟨.mov (.tmp 6), (some ((.loc 5), true)), 0⟩, ⟨.iaddr 1 (.loc 1) (.loc 0), (some ((.loc 6), true)), 0⟩, ⟨.load none (.loc 0), (some ((.loc 7), true)), 0⟩, ⟨.call (.func 97) [(.loc 4), (.loc 0)], (some ((.loc 8), true)), 0⟩, ⟨.pick (.loc 9) (.loc 0) (.const (.bool false)), none, 1⟩] [(8, (.loc 0))])
       (.cond (.tmp 8)
        (.skip)
        (.exit 4)))
      (.block 5 (.region [⟨.bin .sub (.tmp 6) (.const (.int .i64 1)), none, 0⟩] [(6, (.loc 0))])))))
    (.seq (.seq (.region [⟨.bin .gtr (.tmp 5) (.tmp 6), none, 0⟩] [(9, (.loc 0))])
     (.cond (.tmp 9)
      (.exit 0)
      (.skip)))
    (.seq (.draw [⟨.iaddr 1 (.tmp 0) (.tmp 6), none, 0⟩, ⟨.load none (.loc 0), none, 0⟩, ⟨.iaddr 1 (.tmp 0) (.tmp 5), none, 0⟩, ⟨.load none (.loc 0), none, 0⟩, ⟨.iaddr 1 (.tmp 0) (.tmp 5), none, 0⟩, ⟨.store 1 (.loc 0) (.loc 3), none, 0⟩, ⟨.iaddr 1 (.tmp 0) (.tmp 6), none, 1⟩, ⟨.store 1 (.loc 0) (.loc 3), none, 1⟩] [])
    (.seq (.region [⟨.bin .add (.tmp 5) (.const (.int .i64 1)), none, 0⟩] [(5, (.loc 0))])
    (.region [⟨.bin .sub (.tmp 6) (.const (.int .i64 1)), none, 0⟩] [(6, (.loc 0))])))))))))
  (.seq (.region [] [(4, (.tmp 5))])
  (.ret)))))⟩
theorem c124_ok : compileFn Try.prog false 124 = some c124 := by kernel_rfl
/-- slices.partitionOrdered[int] -/
noncomputable def c125 : AFunc := ⟨[0, 1, 2, 3, 8, 9, 10, 11, 43, 60, 65, 112, 129, 134], [.tmp 4, .tmp 5],
  .seq (.region [] [(4, (.const (.int .i64 0))), (5, (.const (.bool false)))])
  (.seq (.draw [⟨.iaddr 1 (.tmp 0) (.tmp 3), none, 0⟩, ⟨.load none (.loc 0), none, 0⟩, ⟨.iaddr 1 (.tmp 0) (.tmp 1), none, 0⟩, ⟨.load none (.loc 0), none, 0⟩, ⟨.iaddr 1 (.tmp 0) (.tmp 1), none, 0⟩, ⟨.store 1 (.loc 0) (.loc 3), none, 0⟩, ⟨.iaddr 1 (.tmp 0) (.tmp 3), none, 1⟩, ⟨.store 1 (.loc 0) (.loc 3), none, 1⟩] [])
  (.seq (.region [⟨.bin .add (.tmp 1) (.const (.int .i64 1)), none, 0⟩, ⟨.bin .sub (.tmp 2) (.const (.int .i64 1)), none, 0⟩] [(6, (.loc 1)), (7, (.loc 0))])
  (.seq (.block 0 (.loop (.seq (.seq (.draw [⟨.bin .leq (.tmp 6) (.tmp 7), none, 0⟩, ⟨.mov (.tmp 0), (some ((.loc 0), true)), 0⟩, ⟨.mov (.tmp 6), (some ((.loc 1), true)), 0⟩, ⟨.iaddr 1 (.loc 1) (.loc 0), (some ((.loc 2), true)), 0⟩, ⟨.load none (.loc 0), (some ((.loc 3), true)), 0⟩, ⟨.mov (.tmp 0), (some ((.loc 4), true)), 0⟩, ⟨.mov (.tmp 1), (some ((.loc 5), true)), 0⟩, ⟨.iaddr 1 (.loc 1) (.loc 0), (some ((.loc 6), true)), 0⟩, ⟨.load none (.loc 0), (some ((.loc 7), true)), 0⟩, ⟨.call (.func 97) [(.loc 4), (.loc 0)], (some ((.loc 8), true)), 0⟩, ⟨.pick (.loc 9) (.loc 0) (.const (.bool false)), none, 1⟩] [(8, (.loc 0))])
     (.cond (.tmp 8)
      (.skip)
      (.exit 0)))
    (.block 1 (.region [⟨.bin .add (.tmp 6) (.const (.int .i64 1)), none, 0⟩] [(6, (.loc 0))])))))
  (.seq (.block 2 (.loop (.seq (.seq (.draw [⟨.bin .leq (.tmp 6) (.tmp 7), none, 0⟩, ⟨.mov (.tmp 0), (some ((.loc 0), true)), 0⟩, ⟨.mov (.tmp 7), (some ((.loc 1), true)), 0⟩, ⟨.iaddr 1 (.loc 1) (.loc 0), (some ((.loc 2), true)), 0⟩, ⟨.load none (.loc 0), (some ((.loc 3), true)), 0⟩, ⟨.mov (.tmp 0), (some ((.loc 4), true)), 0⟩, ⟨.mov (.tmp 1), (some ((.loc 5), true)), 0⟩, ⟨.iaddr 1 (.loc 1) (.loc 0), (some ((.loc 6), true)), 0⟩, ⟨.load none (.loc 0), (some ((.loc 7), true)), 0⟩, ⟨.call (.func 97) [(.loc 4), (.loc 0)], (some ((.loc 8), true)), 0⟩, ⟨.not (.loc 0), (some ((.loc 9), true)), 1⟩, ⟨.pick (.loc 10) (.loc 0) (.const (.bool false)), none, 1⟩] [(9, (.loc 0))])
     (.cond (.tmp 9)
      (.skip)
      (.exit 2)))
    (.block 3 (.region [⟨.bin .sub (.tmp 7) (.const (.int .i64 1)), none, 0⟩] [(7, (.loc 0))])))))
  (.seq (.seq (.region [⟨.bin .gtr (.tmp 6) (.tmp 7), none, 0⟩] [(10, (.loc 0))])
   (.cond (.tmp 10)
    (.seq (.draw [⟨.iaddr 1 (.tmp 0) (.tmp 1), none, 0⟩, ⟨.load none (.loc 0), none, 0⟩, ⟨.iaddr 1 (.tmp 0) (.tmp 7), none, 0⟩, ⟨.load none (.loc 0), none, 0⟩, ⟨.iaddr 1 (.tmp 0) (.tmp 7), none, 0⟩, ⟨.store 1 (.loc 0) (.loc 3), none, 0⟩, ⟨.iaddr 1 (.tmp 0) (.tmp 1), none, 1⟩, ⟨.store 1 (.loc 0) (.loc 3), none, 1⟩] [])
     (.seq (.region [] [(4, (.tmp 7)), (5, (.const (.bool true)))])
     (.ret)))
    (.skip)))
  (.seq (.draw [⟨.iaddr 1 (.tmp 0) (.tmp 7), none, 0⟩, ⟨.load none (.loc 0), none, 0⟩, ⟨.iaddr 1 (.tmp 0) (.tmp 6), none, 0⟩, ⟨.load none (.loc 0), none, 0⟩, ⟨.iaddr 1 (.tmp 0) (.tmp 6), none, 0⟩, ⟨.store 1 (.loc 0) (.loc 3), none, 0⟩, ⟨.iaddr 1 (.tmp 0) (.tmp 7), none, 1⟩, ⟨.store 1 (.loc 0) (.loc 3), none, 1⟩] [])
  (.seq (.region [⟨.bin .add (.tmp 6) (.const (.int .i64 1)), none, 0⟩] [(6, (.loc 0))])
  (.seq (.region [⟨.bin .sub (.tmp 7) (.const (.int .i64 1)), none, 0⟩] [(7, (.loc 0))])
  (.seq (.block 4 (.loop (.block 5 (.seq (.block 6 (.loop (.seq (.seq (.draw [⟨.bin .leq (.tmp 6) (.tmp 7), none, 0⟩, ⟨.mov (.tmp 0), (some ((.loc 0), true)), 0⟩, ⟨.mov (.tmp 6), (some ((.loc 1), true)), 0⟩, ⟨.iaddr 1 (.loc 1) (.loc 0), (some ((.loc 2), true)), 0⟩, ⟨.load none (.loc 0), (some ((.loc 3), true)), 0⟩, ⟨.mov (.tmp 0), (some ((.loc 4), true)), 0⟩, ⟨.mov (.tmp 1), (some ((.loc 5), true)), 0⟩, ⟨.iaddr 1 (.loc 1) (.loc 0), (some ((.loc 6), true)), 0⟩, ⟨.load none (.loc 0), (some ((.loc 7), true)), 0⟩, ⟨.call (.func 97) [(.loc 4), (.loc 0)], (some ((.loc 8), true)), 0⟩, ⟨.pick (.loc 9) (.loc 0) (.const (.bool false)), none, 1⟩] [(11, (.loc 0))])
       (.cond (.tmp 11)
        (.skip)
        (.exit 6)))
      (.block 7 (.region [⟨.bin .add (.tmp 6) (.const (.int .i64 1)), none, 0⟩] [(6, (.loc 0))])))))
    (.seq (.block 8 (.loop (.seq (.seq (.draw [⟨.bin .leq (.tmp 6) (.tmp 7), none, 0⟩, ⟨.mov (.tmp 0), (some ((.loc 0), true)), 0⟩, ⟨.mov (.tmp 7), (some ((.loc 1), true)), 0⟩, ⟨.iaddr 1 (.loc 1) (.loc 0), (some ((.loc 2), true)), 0⟩, ⟨.load none (.loc 0), (some ((.loc 3), true)), 0⟩, ⟨.mov (.tmp 0), (some ((.loc 4), true)), 0⟩, ⟨.mov (.tmp 1), (some ((.loc 5), true)), 0⟩, ⟨.iaddr 1 (.loc 1) (.loc 0), (some ((.loc 6), true)), 0⟩, ⟨.load none (.loc 0), (some ((.loc 7), true)), 0⟩, ⟨.call (.func 97) [(.loc 4), (.loc 0)], (some ((.loc 8), true)), 0⟩, ⟨.not (.loc 0), (some ((.loc 9), true)), 1⟩, ⟨.pick (.loc 10) (.loc 0) (.const (.bool false)), none, 1⟩] [(12, (.loc 0))])
       (.cond (.tmp 12)
        (.skip)
        (.exit 8)))
      (.block 9 (.region [⟨.bin .sub (.tmp 7) (.const (.int .i64 1)), none, 0⟩] [(7, (.loc 0))])))))
    (.seq (.seq (.region [⟨.bin .gtr (.tmp 6) (.tmp 7), none, 0⟩] [(13, (.loc 0))])
     (.cond (.tmp 13)
      (.exit 4)
      (.skip)))
    (.seq (.draw [⟨.iaddr 1 (.tmp 0) (.tmp 7), none, 0⟩, ⟨.load none (.loc 0), none, 0⟩, ⟨.iaddr 1 (.tmp 0) (.tmp 6), none, 0⟩, ⟨.load none (.loc 0), none, 0⟩, ⟨.iaddr 1 (.tmp 0) (.tmp 6), none, 0⟩, ⟨.store 1 (.loc 0) (.loc 3), none, 0⟩, ⟨.iaddr 1 (.tmp 0) (.tmp 7), none, 1⟩, ⟨.store 1 (.loc 0) (.loc 3), none, 1⟩] [])
    (.seq (.region [⟨.bin .add (.tmp 6) (.const (.int .i64 1)), none, 0⟩] [(6, (.loc 0))])
    (.region [⟨.bin .sub (.tmp 7) (.const (.int .i64 1)), none, 0⟩] [(7, (.loc 0))])))))))))
  (.seq (.draw [⟨.iaddr 1 (.tmp 0) (.tmp 1), none, 0⟩, ⟨.load none (.loc 0), none, 0⟩, ⟨.iaddr 1 (.tmp 0) (.tmp 7), none, 0⟩, ⟨.load none (.loc 0), none, 0⟩, ⟨.iaddr 1 (.tmp 0) (.tmp 7), none, 0⟩, ⟨.store 1 (.loc 0) (.loc 3), none, 0⟩, ⟨.iaddr 1 (.tmp 0) (.tmp 1), none, 1⟩, ⟨.store 1 (.loc 0) (.loc 3), none, 1⟩] [])
  (.seq (.region [] [(4, (.tmp 7)), (5, (.const (.bool false)))])
  (.ret))))))))))))⟩
theorem c125_ok : compileFn Try.prog false 125 = some c125 := by kernel_rfl
/-- math/bits.Len32 -/
noncomputable def c126 : AFunc := ⟨[0, 2, 4, 8], [.tmp 1],
  .seq (.region [] [(1, (.const (.int .i64 0)))])
  (.seq (.seq (.region [⟨.bin .geq (.tmp 0) (.const (.int .u32 65536)), none, 0⟩] [(2, (.loc 0))])
   (.cond (.tmp 2)
    (.seq (.region [⟨.bin .shr (.tmp 0) (.const (.int .u64 16)), none, 0⟩] [(0, (.loc 0))])
     (.region [] [(1, (.const (.int .i64 16)))]))
    (.skip)))
  (.seq (.seq (.region [⟨.bin .geq (.tmp 0) (.const (.int .u32 256)), none, 0⟩] [(3, (.loc 0))])
   (.cond (.tmp 3)
    (.seq (.region [⟨.bin .shr (.tmp 0) (.const (.int .u64 8)), none, 0⟩] [(0, (.loc 0))])
     (.region [⟨.bin .add (.tmp 1) (.const (.int .i64 8)), none, 0⟩] [(1, (.loc 0))]))
    (.skip)))
  (.seq (.region [⟨.conv .u8 (.tmp 0), none, 0⟩, ⟨.sidx (.const (strOf [0, 1, 2, 2, 3, 3, 3, 3, 4, 4, 4, 4, 4, 4, 4, 4, 5, 5, 5, 5, 5, 5, 5, 5, 5, 5, 5, 5, 5, 5, 5, 5, 6, 6, 6, 6, 6, 6, 6, 6, 6, 6, 6, 6, 6, 6, 6, 6, 6, 6, 6, 6, 6, 6, 6, 6, 6, 6, 6, 6, 6, 6, 6, 6, 7, 7, 7, 7, 7, 7, 7, 7, 7, 7, 7, 7, 7, 7, 7, 7, 7, 7, 7, 7, 7, 7, 7, 7, 7, 7, 7, 7, 7, 7, 7, 7, 7, 7, 7, 7, 7, 7, 7, 7, 7, 7, 7, 7, 7, 7, 7, 7, 7, 7, 7, 7, 7, 7, 7, 7, 7, 7, 7, 7, 7, 7, 7, 7, 8, 8, 8, 8, 8, 8, 8, 8, 8, 8, 8, 8, 8, 8, 8, 8, 8, 8, 8, 8, 8, 8, 8, 8, 8, 8, 8, 8, 8, 8, 8, 8, 8, 8, 8, 8, 8, 8, 8, 8, 8, 8, 8, 8, 8, 8, 8, 8, 8, 8, 8, 8, 8, 8, 8, 8, 8, 8, 8, 8, 8, 8, 8, 8, 8, 8, 8, 8, 8, 8, 8, 8, 8, 8, 8, 8, 8, 8, 8, 8, 8, 8, 8, 8, 8, 8, 8, 8, 8, 8, 8, 8, 8, 8, 8, 8, 8, 8, 8, 8, 8, 8, 8, 8, 8, 8, 8, 8, 8, 8, 8, 8, 8, 8, 8, 8, 8, 8, 8, 8, 8, 8, 8, 8, 8, 8, 8, 8])) (.loc 0), none, 0⟩, ⟨.conv .i64 (.loc 0), none, 0⟩, ⟨.bin .add (.tmp 1) (.loc 0), none, 0⟩] [(1, (.loc 0))])
  (.ret))))⟩
theorem c126_ok : compileFn Try.prog false 126 = some c126 := by kernel_rfl
/-- math/bits.Len64 -/
noncomputable def c127 : AFunc := ⟨[0, 2, 4, 8, 14], [.tmp 1],
  .seq (.region [] [(1, (.const (.int .i64 0)))])
  (.seq (.seq (.region [⟨.bin .geq (.tmp 0) (.const (.int .u64 4294967296)), none, 0⟩] [(2, (.loc 0))])
   (.cond (.tmp 2)
    (.seq (.region [⟨.bin .shr (.tmp 0) (.const (.int .u64 32)), none, 0⟩] [(0, (.loc 0))])
     (.region [] [(1, (.const (.int .i64 32)))]))
    (.skip)))
  (.seq (.seq (.region [⟨.bin .geq (.tmp 0) (.const (.int .u64 65536)), none, 0⟩] [(3, (.loc 0))])
   (.cond (.tmp 3)
    (.seq (.region [⟨.bin .shr (.tmp 0) (.const (.int .u64 16)), none, 0⟩] [(0, (.loc 0))])
     (.region [⟨.bin .add (.tmp 1) (.const (.int .i64 16)), none, 0⟩] [(1, (.loc 0))]))
    (.skip)))
  (.seq (.seq (.region [⟨.bin .geq (.tmp 0) (.const (.int .u64 256)), none, 0⟩] [(4, (.loc 0))])
   (.cond (.tmp 4)
    (.seq (.region [⟨.bin .shr (.tmp 0) (.const (.int .u64 8)), none, 0⟩] [(0, (.loc 0))])
     (.region [⟨.bin .add (.tmp 1) (.const (.int .i64 8)), none, 0⟩] [(1, (.loc 0))]))
    (.skip)))
  (.seq (.region [⟨.conv .u8 (.tmp 0), none, 0⟩, ⟨.sidx (.const (strOf [0, 1, 2, 2, 3, 3, 3, 3, 4, 4, 4, 4, 4, 4, 4, 4, 5, 5, 5, 5, 5, 5, 5, 5, 5, 5, 5, 5, 5, 5, 5, 5, 6, 6, 6, 6, 6, 6, 6, 6, 6, 6, 6, 6, 6, 6, 6, 6, 6, 6, 6, 6, 6, 6, 6, 6, 6, 6, 6, 6, 6, 6, 6, 6, 7, 7, 7, 7, 7, 7, 7, 7, 7, 7, 7, 7, 7, 7, 7, 7, 7, 7, 7, 7, 7, 7, 7, 7, 7, 7, 7, 7, 7, 7, 7, 7, 7, 7, 7, 7, 7, 7, 7, 7, 7, 7, 7, 7, 7, 7, 7, 7, 7, 7, 7, 7, 7, 7, 7, 7, 7, 7, 7, 7, 7, 7, 7, 7, 8, 8, 8, 8, 8, 8, 8, 8, 8, 8, 8, 8, 8, 8, 8, 8, 8, 8, 8, 8, 8, 8, 8, 8, 8, 8, 8, 8, 8, 8, 8, 8, 8, 8, 8, 8, 8, 8, 8, 8, 8, 8, 8, 8, 8, 8, 8, 8, 8, 8, 8, 8, 8, 8, 8, 8, 8, 8, 8, 8, 8, 8, 8, 8, 8, 8, 8, 8, 8, 8, 8, 8, 8, 8, 8, 8, 8, 8, 8, 8, 8, 8, 8, 8, 8, 8, 8, 8, 8, 8, 8, 8, 8, 8, 8, 8, 8, 8, 8, 8, 8, 8, 8, 8, 8, 8, 8, 8, 8, 8, 8, 8, 8, 8, 8, 8, 8, 8, 8, 8, 8, 8, 8, 8, 8, 8, 8, 8])) (.loc 0), none, 0⟩, ⟨.conv .i64 (.loc 0), none, 0⟩, ⟨.bin .add (.tmp 1) (.loc 0), none, 0⟩] [(1, (.loc 0))])
  (.ret)))))⟩
theorem c127_ok : compileFn Try.prog false 127 = some c127 := by kernel_rfl
/-- slices.Reverse[[]int,int] -/
noncomputable def c129 : AFunc := ⟨[0, 2, 3, 9], [],
  .seq (.region [⟨.len (.tmp 0), none, 0⟩, ⟨.bin .sub (.loc 0) (.const (.int .i64 1)), none, 0⟩] [(1, (.const (.int .i64 0))), (2, (.loc 0))])
  (.block 0 (.loop (.seq (.seq (.region [⟨.bin .lss (.tmp 1) (.tmp 2), none, 0⟩] [(3, (.loc 0))])
    (.cond (.tmp 3)
     (.skip)
     (.exit 0)))
   (.seq (.block 1 (.draw [⟨.iaddr 1 (.tmp 0) (.tmp 2), none, 0⟩, ⟨.load none (.loc 0), none, 0⟩, ⟨.iaddr 1 (.tmp 0) (.tmp 1), none, 0⟩, ⟨.load none (.loc 0), none, 0⟩, ⟨.iaddr 1 (.tmp 0) (.tmp 1), none, 0⟩, ⟨.store 1 (.loc 0) (.loc 3), none, 0⟩, ⟨.iaddr 1 (.tmp 0) (.tmp 2), none, 1⟩, ⟨.store 1 (.loc 0) (.loc 3), none, 1⟩] []))
   (.region [⟨.bin .add (.tmp 1) (.const (.int .i64 1)), none, 0⟩, ⟨.bin .sub (.tmp 2) (.const (.int .i64 1)), none, 0⟩] [(1, (.loc 1)), (2, (.loc 0))])))))⟩
theorem c129_ok : compileFn Try.prog false 129 = some c129 := by kernel_rfl
/-- slices.siftDownOrdered[int] -/
noncomputable def c130 : AFunc := ⟨[0, 1, 2, 3, 8, 9, 16, 36, 52], [],
  .seq (.region [] [(4, (.tmp 1))])
  (.block 0 (.loop (.block 1 (.seq (.region [⟨.bin .mul (.const (.int .i64 2)) (.tmp 4), none, 0⟩, ⟨.bin .add (.loc 0) (.const (.int .i64 1)), none, 0⟩] [(5, (.loc 0))])
   (.seq (.seq (.region [⟨.bin .geq (.tmp 5) (.tmp 2), none, 0⟩] [(6, (.loc 0))])
    (.cond (.tmp 6)
     (.exit 0)
     (.skip)))
   (.seq (.seq (.draw [⟨.bin .add (.tmp 5) (.const (.int .i64 1)), none, 0⟩, ⟨.bin .lss (.loc 0) (.tmp 2), none, 0⟩, ⟨.mov (.tmp 0), (some ((.loc 0), true)), 0⟩, ⟨.mov (.tmp 3), (some ((.loc 1), true)), 0⟩, ⟨.mov (.tmp 5), (some ((.loc 2), true)), 0⟩, ⟨.bin .add (.loc 1) (.loc 0), (some ((.loc 3), true)), 0⟩, ⟨.iaddr 1 (.loc 3) (.loc 0), (some ((.loc 4), true)), 0⟩, ⟨.load none (.loc 0), (some ((.loc 5), true)), 0⟩, ⟨.mov (.tmp 0), (some ((.loc 6), true)), 0⟩, ⟨.mov (.tmp 3), (some ((.loc 7), true)), 0⟩, ⟨.mov (.tmp 5), (some ((.loc 8), true)), 0⟩, ⟨.bin .add (.loc 1) (.loc 0), (some ((.loc 9), true)), 0⟩, ⟨.bin .add (.loc 0) (.const (.int .i64 1)), (some ((.loc 10), true)), 0⟩, ⟨.iaddr 1 (.loc 4) (.loc 0), (some ((.loc 11), true)), 0⟩, ⟨.load none (.loc 0), (some ((.loc 12), true)), 0⟩, ⟨.call (.func 97) [(.loc 7), (.loc 0)], (some ((.loc 13), true)), 0⟩, ⟨.pick (.loc 14) (.loc 0) (.const (.bool false)), none, 1⟩] [(7, (.loc 0))])
    (.cond (.tmp 7)
     (.region [⟨.bin .add (.tmp 5) (.const (.int .i64 1)), none, 0⟩] [(5, (.loc 0))])
     (.skip)))
   (.seq (.seq (.draw [⟨.bin .add (.tmp 3) (.tmp 4), none, 0⟩, ⟨.iaddr 1 (.tmp 0) (.loc 0), none, 0⟩, ⟨.load none (.loc 0), none, 0⟩, ⟨.bin .add (.tmp 3) (.tmp 5), none, 0⟩, ⟨.iaddr 1 (.tmp 0) (.loc 0), none, 0⟩, ⟨.load none (.loc 0), none, 0⟩, ⟨.call (.func 97) [(.loc 3), (.loc 0)], none, 0⟩, ⟨.not (.loc 0), none, 1⟩] [(8, (.loc 0))])
    (.cond (.tmp 8)
     (.ret)
     (.skip)))
   (.seq (.draw [⟨.bin .add (.tmp 3) (.tmp 4), none, 0⟩, ⟨.bin .add (.tmp 3) (.tmp 5), none, 0⟩, ⟨.iaddr 1 (.tmp 0) (.loc 0), none, 0⟩, ⟨.load none (.loc 0), none, 0⟩, ⟨.bin .add (.tmp 3) (.tmp 4), none, 0⟩, ⟨.iaddr 1 (.tmp 0) (.loc 0), none, 0⟩, ⟨.load none (.loc 0), none, 0⟩, ⟨.iaddr 1 (.tmp 0) (.loc 6), none, 0⟩, ⟨.store 1 (.loc 0) (.loc 4), none, 0⟩, ⟨.bin .add (.tmp 3) (.tmp 5), none, 0⟩, ⟨.iaddr 1 (.tmp 0) (.loc 0), none, 1⟩, ⟨.store 1 (.loc 0) (.loc 4), none, 1⟩] [])
   (.region [] [(4, (.tmp 5))])))))))))⟩
theorem c130_ok : compileFn Try.prog false 130 = some c130 := by kernel_rfl
/-- slices.nextPowerOfTwo -/
noncomputable def c131 : AFunc := ⟨[0, 2], [.tmp 1],
  .seq (.region [] [(1, (.const (.int .u64 0)))])
  (.seq (.region [⟨.conv .u64 (.tmp 0), none, 0⟩, ⟨.call (.func 107) [(.loc 0)], none, 0⟩, ⟨.bin .shl (.const (.int .u64 1)) (.loc 0), none, 0⟩] [(1, (.loc 0))])
  (.ret))⟩
theorem c131_ok : compileFn Try.prog false 131 = some c131 := by kernel_rfl
/-- (*slices.xorshift).Next -/
noncomputable def c132 : AFunc := ⟨[0, 2], [.tmp 1],
  .seq (.region [] [(1, (.const (.int .u64 0)))])
  (.seq (.draw [⟨.nilchk (.tmp 0), none, 0⟩, ⟨.load none (.loc 0), none, 0⟩, ⟨.nilchk (.tmp 0), none, 0⟩, ⟨.load none (.loc 0), none, 0⟩, ⟨.bin .shl (.loc 0) (.const (.int .u64 13)), none, 0⟩, ⟨.bin .xor (.loc 3) (.loc 0), none, 0⟩, ⟨.nilchk (.tmp 0), none, 0⟩, ⟨.store 1 (.loc 0) (.loc 1), none, 0⟩] [])
  (.seq (.draw [⟨.nilchk (.tmp 0), none, 0⟩, ⟨.load none (.loc 0), none, 0⟩, ⟨.nilchk (.tmp 0), none, 0⟩, ⟨.load none (.loc 0), none, 0⟩, ⟨.bin .shr (.loc 0) (.const (.int .u64 7)), none, 0⟩, ⟨.bin .xor (.loc 3) (.loc 0), none, 0⟩, ⟨.nilchk (.tmp 0), none, 0⟩, ⟨.store 1 (.loc 0) (.loc 1), none, 0⟩] [])
  (.seq (.draw [⟨.nilchk (.tmp 0), none, 0⟩, ⟨.load none (.loc 0), none, 0⟩, ⟨.nilchk (.tmp 0), none, 0⟩, ⟨.load none (.loc 0), none, 0⟩, ⟨.bin .shl (.loc 0) (.const (.int .u64 17)), none, 0⟩, ⟨.bin .xor (.loc 3) (.loc 0), none, 0⟩, ⟨.nilchk (.tmp 0), none, 0⟩, ⟨.store 1 (.loc 0) (.loc 1), none, 0⟩] [])
  (.seq (.region [⟨.nilchk (.tmp 0), none, 0⟩, ⟨.load none (.loc 0), none, 0⟩] [(1, (.loc 0))])
  (.ret)))))⟩
theorem c132_ok : compileFn Try.prog false 132 = some c132 := by kernel_rfl
/-- slices.medianAdjacentOrdered[int] -/
noncomputable def c133 : AFunc := ⟨[0, 1, 2, 6], [.tmp 3],
  .seq (.region [] [(3, (.const (.int .i64 0)))])
  (.seq (.region [⟨.bin .sub (.tmp 1) (.const (.int .i64 1)), none, 0⟩, ⟨.bin .add (.tmp 1) (.const (.int .i64 1)), none, 0⟩, ⟨.call (.func 134) [(.tmp 0), (.loc 1), (.tmp 1), (.loc 0), (.tmp 2)], none, 0⟩] [(3, (.loc 0))])
  (.ret))⟩
theorem c133_ok : compileFn Try.prog false 133 = some c133 := by kernel_rfl
/-- slices.medianOrdered[int] -/
noncomputable def c134 : AFunc := ⟨[0, 1, 2, 3, 4, 10], [.tmp 5],
  .seq (.region [] [(5, (.const (.int .i64 0)))])
  (.seq (.region [⟨.call (.func 135) [(.tmp 0), (.tmp 1), (.tmp 2), (.tmp 4)], none, 0⟩, ⟨.ext (.loc 0) 0, none, 0⟩, ⟨.ext (.loc 1) 1, none, 0⟩] [(1, (.loc 1)), (2, (.loc 0))])
  (.seq (.region [⟨.call (.func 135) [(.tmp 0), (.tmp 2), (.tmp 3), (.tmp 4)], none, 0⟩, ⟨.ext (.loc 0) 0, none, 0⟩, ⟨.ext (.loc 1) 1, none, 0⟩] [(2, (.loc 1)), (3, (.loc 0))])
  (.seq (.region [⟨.call (.func 135) [(.tmp 0), (.tmp 1), (.tmp 2), (.tmp 4)], none, 0⟩, ⟨.ext (.loc 0) 0, none, 0⟩, ⟨.ext (.loc 1) 1, none, 0⟩] [(1, (.loc 1)), (2, (.loc 0))])
  (.seq (.region [] [(5, (.tmp 2))])
  (.ret)))))⟩
theorem c134_ok : compileFn Try.prog false 134 = some c134 := by kernel_rfl
/-- slices.order2Ordered[int] -/
noncomputable def c135 : AFunc := ⟨[0, 1, 2, 3, 8, 9, 18], [.tmp 4, .tmp 5],
  .seq (.region [] [(4, (.const (.int .i64 0))), (5, (.const (.int .i64 0)))])
  (.seq (.seq (.draw [⟨.iaddr 1 (.tmp 0) (.tmp 2), none, 0⟩, ⟨.load none (.loc 0), none, 0⟩, ⟨.iaddr 1 (.tmp 0) (.tmp 1), none, 0⟩, ⟨.load none (.loc 0), none, 0⟩, ⟨.call (.func 97) [(.loc 2), (.loc 0)], none, 0⟩] [(6, (.loc 0))])
   (.cond (.tmp 6)
    (.seq (.region [⟨.nilchk (.tmp 3), none, 0⟩, ⟨.load none (.loc 0), none, 0⟩, ⟨.bin .add (.loc 0) (.const (.int .i64 1)), none, 0⟩, ⟨.nilchk (.tmp 3), none, 0⟩, ⟨.store 1 (.loc 0) (.loc 1), none, 0⟩] [])
     (.seq (.region [] [(4, (.tmp 2)), (5, (.tmp 1))])
     (.ret)))
    (.skip)))
  (.seq (.region [] [(4, (.tmp 1)), (5, (.tmp 2))])
  (.ret)))⟩
theorem c135_ok : compileFn Try.prog false 135 = some c135 := by kernel_rfl
noncomputable def list : List (Option AFunc) := [none, none, none, none, none, none, none, none, none, none, none, none, none, none, none, none, none, none, none, none, none, none, none, none, some c24, none, none, none, none, none, none, none, none, none, some c34, none, none, some c37, none, some c39, none, none, some c42, none, none, none, some c46, some c47, none, none, none, none, none, none, none, none, none, none, none, none, none, none, none, none, none, none, none, none, none, none, some c70, some c71, none, none, none, some c75, some c76, some c77, none, some c79, some c80, none, none, none, none, some c85, none, none, some c88, none, none, none, none, none, none, none, none, some c97, none, none, none, none, some c102, some c103, some c104, none, some c106, some c107, none, some c109, some c110, some c111, none, none, some c114, none, none, some c117, some c118, some c119, some c120, some c121, some c122, some c123, some c124, some c125, some c126, some c127, none, some c129, some c130, some c131, some c132, some c133, some c134, some c135]
noncomputable def fns : TV (Option AFunc) := Vec.ofList list
noncomputable def ext (f : FuncId) (args : List Value) (H : AH TV) : Option (Value × AH TV) := none
noncomputable def E : Env TV := { P := Try.prog, fn := fun f => (Vec.get fns f).getD none, ext := ext }
theorem all_ok : OkFrom Try.prog 0 list := ⟨⟨false, c24_ok⟩, ⟨⟨false, c34_ok⟩, ⟨⟨false, c37_ok⟩, ⟨⟨false, c39_ok⟩, ⟨⟨false, c42_ok⟩, ⟨⟨false, c46_ok⟩, ⟨⟨false, c47_ok⟩, ⟨⟨false, c70_ok⟩, ⟨⟨false, c71_ok⟩, ⟨⟨false, c75_ok⟩, ⟨⟨false, c76_ok⟩, ⟨⟨false, c77_ok⟩, ⟨⟨false, c79_ok⟩, ⟨⟨false, c80_ok⟩, ⟨⟨false, c85_ok⟩, ⟨⟨false, c88_ok⟩, ⟨⟨false, c97_ok⟩, ⟨⟨false, c102_ok⟩, ⟨⟨false, c103_ok⟩, ⟨⟨false, c104_ok⟩, ⟨⟨false, c106_ok⟩, ⟨⟨false, c107_ok⟩, ⟨⟨false, c109_ok⟩, ⟨⟨false, c110_ok⟩, ⟨⟨false, c111_ok⟩, ⟨⟨false, c114_ok⟩, ⟨⟨false, c117_ok⟩, ⟨⟨false, c118_ok⟩, ⟨⟨false, c119_ok⟩, ⟨⟨false, c120_ok⟩, ⟨⟨false, c121_ok⟩, ⟨⟨false, c122_ok⟩, ⟨⟨false, c123_ok⟩, ⟨⟨false, c124_ok⟩, ⟨⟨false, c125_ok⟩, ⟨⟨false, c126_ok⟩, ⟨⟨false, c127_ok⟩, ⟨⟨false, c129_ok⟩, ⟨⟨false, c130_ok⟩, ⟨⟨false, c131_ok⟩, ⟨⟨false, c132_ok⟩, ⟨⟨false, c133_ok⟩, ⟨⟨false, c134_ok⟩, ⟨⟨false, c135_ok⟩, trivial⟩⟩⟩⟩⟩⟩⟩⟩⟩⟩⟩⟩⟩⟩⟩⟩⟩⟩⟩⟩⟩⟩⟩⟩⟩⟩⟩⟩⟩⟩⟩⟩⟩⟩⟩⟩⟩⟩⟩⟩⟩⟩⟩⟩
theorem ext_ok (f : FuncId) (args : List Value) (H : AH TV) (v : Value) (H' : AH TV) (h : ext f args H = some (v, H')) : CallsOk Try.prog f args H v H' := by
  unfold ext at h
  cases h
theorem env_ok : EnvOk E := ⟨fun f fn h => fn_of all_ok h, ext_ok, draw_ok (by kernel_rfl)⟩
end Go.Proofs.Ytollibkfagjnaaa.RegionAwake
