/- The functions that louver/louverlaw16.RegionTells reaches, compiled; that each is what 'compileFn' comes to. PRINTED by code.py. -/
import Derived.Test.YtollibkfagjnaaaAMb
import Derived.Test.YtollibkfagjnaaaRegionAwakeRun
import Derived.Test.YtollibkfagjnaaaRegionAwakeCode
import Derived.Test.YtollibkfagjnaaaProg
import Derived.KernelRfl
set_option linter.unusedVariables false
set_option maxRecDepth 100000
namespace Go.Proofs.Ytollibkfagjnaaa.Graph
open Go.Proofs.Ytollibkfagjnaaa.AM
/-- louver/louverlaw16.RegionTells -/
noncomputable def c9 : AFunc := ⟨[0, 1, 2, 4, 5, 6, 7, 8, 9, 10, 15, 22, 44], [.tmp 3],
  .seq (.region [⟨.box (.tmp 0), none, 0⟩] [(2, (.loc 0)), (3, (.const (.bool false)))])
  (.seq (.region [⟨.faddr 5 (.tmp 2), none, 0⟩, ⟨.load none (.loc 0), none, 0⟩, ⟨.len (.loc 0), none, 0⟩] [(4, (.loc 0))])
  (.seq (.seq (.region [⟨.bin .gtr (.tmp 4) (.const (.int .i64 25)), none, 0⟩] [(10, (.loc 0))])
   (.cond (.tmp 10)
    (.seq (.region [⟨.call (.func 34) [], none, 0⟩] [(3, (.loc 0))])
     (.ret))
    (.skip)))
  (.seq (.region [⟨.load (some 6) (.tmp 2), none, 0⟩, ⟨.call (.func 35) [(.loc 0)], none, 0⟩, ⟨.alloc [(.int .u64 0), (.slice none 0 0), (.slice none 0 0), (.int .i64 0), (.int .i64 0), (.slice none 0 0)], none, 0⟩, ⟨.store 6 (.loc 0) (.loc 1), none, 0⟩] [(5, (.loc 1))])
  (.seq (.region [] [(6, (.const (.slice none 0 0)))])
  (.seq (.seq (.region [] [(7, (.const (.int .i64 (-1))))])
   (.block 0 (.loop (.seq (.seq (.region [⟨.bin .add (.tmp 4) (.const (.int .i64 1)), none, 0⟩, ⟨.bin .leq (.tmp 7) (.loc 0), none, 0⟩] [(11, (.loc 0))])
     (.cond (.tmp 11)
      (.skip)
      (.exit 0)))
    (.seq (.block 1 (.seq (.region [⟨.load (some 6) (.tmp 5), none, 0⟩, ⟨.call (.func 42) [(.loc 0), (.tmp 7)], none, 0⟩] [(8, (.loc 0))])
     (.seq (.region [⟨.load (some 6) (.tmp 5), none, 0⟩, ⟨.call (.func 43) [(.loc 0), (.tmp 7)], none, 0⟩] [(9, (.loc 0))])
     (.seq (.seq (.region [⟨.load (some 6) (.tmp 2), none, 0⟩, ⟨.call (.func 44) [(.loc 0), (.tmp 7)], none, 0⟩, ⟨.call (.func 24) [(.tmp 8), (.loc 0)], none, 0⟩, ⟨.not (.loc 0), none, 0⟩, ⟨.mov (.tmp 9), (some ((.loc 0), false)), 0⟩, ⟨.load (some 6) (.tmp 2), (some ((.loc 1), false)), 0⟩, ⟨.mov (.tmp 7), (some ((.loc 2), false)), 0⟩, ⟨.call (.func 45) [(.loc 1), (.loc 0)], (some ((.loc 3), false)), 0⟩, ⟨.call (.func 24) [(.loc 3), (.loc 0)], (some ((.loc 4), false)), 0⟩, ⟨.not (.loc 0), (some ((.loc 5), false)), 0⟩, ⟨.pick (.loc 6) (.const (.bool true)) (.loc 0), none, 0⟩] [(12, (.loc 0))])
      (.cond (.tmp 12)
       (.seq (.region [] [(3, (.const (.bool false)))])
        (.ret))
       (.skip)))
     (.region [⟨.load (some 6) (.tmp 5), none, 0⟩, ⟨.call (.func 42) [(.loc 0), (.tmp 7)], none, 0⟩, ⟨.mkarr 3 [(.slice none 0 0), (.slice none 0 0), (.slice none 0 0)] [(0, 1, (.tmp 8)), (1, 1, (.tmp 9)), (2, 1, (.loc 0))], none, 0⟩, ⟨.append false 1 24 (.tmp 6) (.loc 0), none, 0⟩] [(6, (.loc 0))])))))
    (.region [⟨.bin .add (.tmp 7) (.const (.int .i64 1)), none, 0⟩] [(7, (.loc 0))]))))))
  (.seq (.region [⟨.load (some 6) (.tmp 5), none, 0⟩, ⟨.bin .add (.tmp 4) (.const (.int .i64 2)), none, 0⟩, ⟨.bin .and (.tmp 1) (.const (.int .i64 1023)), none, 0⟩, ⟨.bin .add (.loc 1) (.loc 0), none, 0⟩, ⟨.call (.func 42) [(.loc 3), (.loc 0)], none, 0⟩, ⟨.len (.loc 0), none, 0⟩, ⟨.bin .eql (.loc 0) (.const (.int .i64 0)), none, 0⟩, ⟨.load (some 6) (.tmp 5), (some ((.loc 0), true)), 0⟩, ⟨.load (some 6) (.tmp 2), (some ((.loc 1), true)), 0⟩, ⟨.call (.func 40) [(.loc 1), (.loc 0)], (some ((.loc 2), true)), 0⟩, ⟨.pick (.loc 3) (.loc 0) (.const (.bool false)), none, 0⟩, ⟨.mov (.tmp 6), (some ((.loc 0), true)), 0⟩, ⟨.call (.func 30) [(.loc 0)], (some ((.loc 1), true)), 0⟩, ⟨.pick (.loc 2) (.loc 0) (.const (.bool false)), none, 0⟩, ⟨.load (some 6) (.tmp 5), (some ((.loc 0), true)), 0⟩, ⟨.load (some 6) (.tmp 2), (some ((.loc 1), true)), 0⟩, ⟨.call (.func 40) [(.loc 1), (.loc 0)], (some ((.loc 2), true)), 0⟩, ⟨.pick (.loc 3) (.loc 0) (.const (.bool false)), none, 0⟩, ⟨.call (.func 34) [], (some ((.loc 0), true)), 0⟩, ⟨.pick (.loc 1) (.loc 0) (.const (.bool false)), none, 0⟩] [(3, (.loc 0))])
  (.ret)))))))⟩
theorem c9_ok : compileFn Try.prog false 9 = some c9 := by kernel_rfl
/-- louver/louverkit.ApartInts -/
noncomputable def c30 : AFunc := ⟨[0, 2, 3, 4, 5, 6, 7, 8, 9, 10, 11, 12, 16, 25, 41, 49, 67, 77, 105, 107, 124], [.tmp 1],
  .seq (.region [] [(1, (.const (.bool false)))])
  (.seq (.seq (.region [] [(2, (.const (.int .i64 0)))])
   (.block 0 (.loop (.seq (.seq (.region [⟨.len (.tmp 0), none, 0⟩, ⟨.bin .lss (.tmp 2) (.loc 0), none, 0⟩] [(12, (.loc 0))])
     (.cond (.tmp 12)
      (.skip)
      (.exit 0)))
    (.seq (.block 1 (.seq (.region [] [(3, (.const (.int .i64 0)))])
     (.block 2 (.loop (.seq (.seq (.region [⟨.iaddr 1 (.tmp 0) (.tmp 2), none, 0⟩, ⟨.load none (.loc 0), none, 0⟩, ⟨.len (.loc 0), none, 0⟩, ⟨.bin .lss (.tmp 3) (.loc 0), none, 0⟩] [(13, (.loc 0))])
       (.cond (.tmp 13)
        (.skip)
        (.exit 2)))
      (.seq (.block 3 (.region [⟨.iaddr 1 (.tmp 0) (.tmp 2), none, 0⟩, ⟨.load none (.loc 0), none, 0⟩, ⟨.bin .mul (.const (.int .i64 1000)) (.tmp 2), none, 0⟩, ⟨.bin .add (.loc 0) (.tmp 3), none, 0⟩, ⟨.iaddr 1 (.loc 2) (.tmp 3), none, 0⟩, ⟨.store 1 (.loc 0) (.loc 1), none, 0⟩] []))
      (.region [⟨.bin .add (.tmp 3) (.const (.int .i64 1)), none, 0⟩] [(3, (.loc 0))])))))))
    (.region [⟨.bin .add (.tmp 2) (.const (.int .i64 1)), none, 0⟩] [(2, (.loc 0))]))))))
  (.seq (.region [] [(4, (.const (.slice none 0 0)))])
  (.seq (.seq (.region [] [(5, (.const (.int .i64 0)))])
   (.block 4 (.loop (.seq (.seq (.region [⟨.len (.tmp 0), none, 0⟩, ⟨.bin .lss (.tmp 5) (.loc 0), none, 0⟩] [(14, (.loc 0))])
     (.cond (.tmp 14)
      (.skip)
      (.exit 4)))
    (.seq (.block 5 (.seq (.region [⟨.iaddr 1 (.tmp 0) (.tmp 5), none, 0⟩, ⟨.load none (.loc 0), none, 0⟩] [(6, (.loc 0))])
     (.seq (.seq (.region [] [(7, (.const (.int .i64 0)))])
      (.block 6 (.loop (.seq (.seq (.region [⟨.bin .lss (.tmp 7) (.const (.int .i64 30)), none, 0⟩] [(15, (.loc 0))])
        (.cond (.tmp 15)
         (.skip)
         (.exit 6)))
       (.seq (.block 7 (.region [⟨.bin .mul (.const (.int .i64 1000)) (.tmp 5), none, 0⟩, ⟨.bin .add (.const (.int .i64 500000)) (.loc 0), none, 0⟩, ⟨.bin .add (.loc 0) (.tmp 7), none, 0⟩, ⟨.mkarr 1 [(.int .i64 0)] [(0, 1, (.loc 0))], none, 0⟩, ⟨.append false 1 8 (.tmp 6) (.loc 0), none, 0⟩] [(6, (.loc 0))]))
       (.region [⟨.bin .add (.tmp 7) (.const (.int .i64 1)), none, 0⟩] [(7, (.loc 0))]))))))
     (.region [⟨.mkarr 1 [(.slice none 0 0)] [(0, 1, (.tmp 6))], none, 0⟩, ⟨.append false 1 24 (.tmp 4) (.loc 0), none, 0⟩] [(4, (.loc 0))]))))
    (.region [⟨.bin .add (.tmp 5) (.const (.int .i64 1)), none, 0⟩] [(5, (.loc 0))]))))))
  (.seq (.seq (.region [] [(8, (.const (.int .i64 0)))])
   (.block 8 (.loop (.seq (.seq (.region [⟨.len (.tmp 0), none, 0⟩, ⟨.bin .lss (.tmp 8) (.loc 0), none, 0⟩] [(16, (.loc 0))])
     (.cond (.tmp 16)
      (.skip)
      (.exit 8)))
    (.seq (.block 9 (.seq (.region [⟨.iaddr 1 (.tmp 0) (.tmp 8), none, 0⟩, ⟨.load none (.loc 0), none, 0⟩, ⟨.len (.loc 0), none, 0⟩] [(9, (.loc 0))])
     (.seq (.seq (.region [] [(10, (.const (.int .i64 0)))])
      (.block 10 (.loop (.seq (.seq (.region [⟨.bin .lss (.tmp 10) (.tmp 9), none, 0⟩] [(17, (.loc 0))])
        (.cond (.tmp 17)
         (.skip)
         (.exit 10)))
       (.seq (.block 11 (.seq (.region [⟨.iaddr 1 (.tmp 0) (.tmp 8), none, 0⟩, ⟨.load none (.loc 0), none, 0⟩, ⟨.iaddr 1 (.loc 0) (.tmp 10), none, 0⟩, ⟨.load none (.loc 0), none, 0⟩, ⟨.bin .mul (.const (.int .i64 1000)) (.tmp 8), none, 0⟩, ⟨.bin .add (.loc 0) (.tmp 10), none, 0⟩, ⟨.bin .neq (.loc 2) (.loc 0), none, 0⟩, ⟨.mov (.tmp 4), (some ((.loc 0), false)), 0⟩, ⟨.mov (.tmp 8), (some ((.loc 1), false)), 0⟩, ⟨.iaddr 1 (.loc 1) (.loc 0), (some ((.loc 2), false)), 0⟩, ⟨.load none (.loc 0), (some ((.loc 3), false)), 0⟩, ⟨.mov (.tmp 10), (some ((.loc 4), false)), 0⟩, ⟨.iaddr 1 (.loc 1) (.loc 0), (some ((.loc 5), false)), 0⟩, ⟨.load none (.loc 0), (some ((.loc 6), false)), 0⟩, ⟨.mov (.tmp 8), (some ((.loc 7), false)), 0⟩, ⟨.bin .mul (.const (.int .i64 1000)) (.loc 0), (some ((.loc 8), false)), 0⟩, ⟨.mov (.tmp 10), (some ((.loc 9), false)), 0⟩, ⟨.bin .add (.loc 1) (.loc 0), (some ((.loc 10), false)), 0⟩, ⟨.bin .neq (.loc 4) (.loc 0), (some ((.loc 11), false)), 0⟩, ⟨.pick (.loc 12) (.const (.bool true)) (.loc 0), none, 0⟩] [(18, (.loc 0))])
        (.cond (.tmp 18)
         (.seq (.region [] [(1, (.const (.bool false)))])
          (.ret))
         (.skip))))
       (.region [⟨.bin .add (.tmp 10) (.const (.int .i64 1)), none, 0⟩] [(10, (.loc 0))]))))))
     (.seq (.region [] [(11, (.const (.int .i64 0)))])
     (.block 12 (.loop (.seq (.seq (.region [⟨.bin .lss (.tmp 11) (.const (.int .i64 30)), none, 0⟩] [(19, (.loc 0))])
       (.cond (.tmp 19)
        (.skip)
        (.exit 12)))
      (.seq (.block 13 (.seq (.region [⟨.iaddr 1 (.tmp 4) (.tmp 8), none, 0⟩, ⟨.load none (.loc 0), none, 0⟩, ⟨.bin .add (.tmp 9) (.tmp 11), none, 0⟩, ⟨.iaddr 1 (.loc 1) (.loc 0), none, 0⟩, ⟨.load none (.loc 0), none, 0⟩, ⟨.bin .mul (.const (.int .i64 1000)) (.tmp 8), none, 0⟩, ⟨.bin .add (.const (.int .i64 500000)) (.loc 0), none, 0⟩, ⟨.bin .add (.loc 0) (.tmp 11), none, 0⟩, ⟨.bin .neq (.loc 3) (.loc 0), none, 0⟩] [(20, (.loc 0))])
       (.cond (.tmp 20)
        (.seq (.region [] [(1, (.const (.bool false)))])
         (.ret))
        (.skip))))
      (.region [⟨.bin .add (.tmp 11) (.const (.int .i64 1)), none, 0⟩] [(11, (.loc 0))])))))))))
    (.region [⟨.bin .add (.tmp 8) (.const (.int .i64 1)), none, 0⟩] [(8, (.loc 0))]))))))
  (.seq (.region [] [(1, (.const (.bool true)))])
  (.ret))))))⟩
theorem c30_ok : compileFn Try.prog false 30 = some c30 := by kernel_rfl
/-- louver/louverkit.LentFunction -/
noncomputable def c35 : AFunc := ⟨[0, 1, 2], [.cell 2 (some 6)],
  .seq (.region [⟨.box (.tmp 0), none, 0⟩, ⟨.alloc [(.int .u64 0), (.slice none 0 0), (.slice none 0 0), (.int .i64 0), (.int .i64 0), (.slice none 0 0)], none, 0⟩] [(1, (.loc 1)), (2, (.loc 0))])
  (.seq (.region [⟨.faddr 1 (.tmp 1), none, 0⟩, ⟨.load none (.loc 0), none, 0⟩, ⟨.call (.func 36) [(.loc 0)], none, 0⟩, ⟨.faddr 1 (.tmp 1), none, 0⟩, ⟨.store 1 (.loc 0) (.loc 1), none, 0⟩] [])
  (.seq (.region [⟨.faddr 2 (.tmp 1), none, 0⟩, ⟨.load none (.loc 0), none, 0⟩, ⟨.call (.func 36) [(.loc 0)], none, 0⟩, ⟨.faddr 2 (.tmp 1), none, 0⟩, ⟨.store 1 (.loc 0) (.loc 1), none, 0⟩] [])
  (.seq (.region [⟨.faddr 5 (.tmp 1), none, 0⟩, ⟨.load none (.loc 0), none, 0⟩, ⟨.call (.func 74) [(.loc 0)], none, 0⟩, ⟨.faddr 5 (.tmp 1), none, 0⟩, ⟨.store 1 (.loc 0) (.loc 1), none, 0⟩] [])
  (.seq (.region [⟨.load (some 6) (.tmp 1), none, 0⟩, ⟨.store 6 (.tmp 2) (.loc 0), none, 0⟩] [])
  (.ret)))))⟩
theorem c35_ok : compileFn Try.prog false 35 = some c35 := by kernel_rfl
/-- louver/louverkit.LentLabels -/
noncomputable def c36 : AFunc := ⟨[0, 2, 3], [.tmp 1],
  .seq (.region [] [(1, (.const (.slice none 0 0)))])
  (.seq (.region [] [(2, (.const (.slice none 0 0)))])
  (.seq (.region [⟨.append false 1 8 (.tmp 2) (.tmp 0), none, 0⟩] [(2, (.loc 0))])
  (.seq (.region [⟨.mkarr 1 [(.int .u64 0)] [(0, 1, (.const (.int .u64 7171)))], none, 0⟩, ⟨.append false 1 8 (.tmp 2) (.loc 0), none, 0⟩] [(2, (.loc 0))])
  (.seq (.region [⟨.len (.tmp 0), none, 0⟩, ⟨.slice 1 (.tmp 2) none (some (.loc 0)) none, none, 0⟩] [(1, (.loc 0))])
  (.ret)))))⟩
theorem c36_ok : compileFn Try.prog false 36 = some c36 := by kernel_rfl
/-- louver/louverkit.KeptFunction -/
noncomputable def c40 : AFunc := ⟨[0, 1, 2, 3, 4], [.tmp 4],
  .seq (.region [⟨.box (.tmp 0), none, 0⟩, ⟨.box (.tmp 1), none, 0⟩] [(2, (.loc 1)), (3, (.loc 0)), (4, (.const (.bool false)))])
  (.seq (.region [⟨.faddr 0 (.tmp 2), none, 0⟩, ⟨.load none (.loc 0), none, 0⟩, ⟨.faddr 0 (.tmp 3), none, 0⟩, ⟨.load none (.loc 0), none, 0⟩, ⟨.bin .eql (.loc 2) (.loc 0), none, 0⟩, ⟨.faddr 3 (.tmp 2), (some ((.loc 0), true)), 0⟩, ⟨.load none (.loc 0), (some ((.loc 1), true)), 0⟩, ⟨.faddr 3 (.tmp 3), (some ((.loc 2), true)), 0⟩, ⟨.load none (.loc 0), (some ((.loc 3), true)), 0⟩, ⟨.bin .eql (.loc 2) (.loc 0), (some ((.loc 4), true)), 0⟩, ⟨.pick (.loc 5) (.loc 0) (.const (.bool false)), none, 0⟩, ⟨.faddr 4 (.tmp 2), (some ((.loc 0), true)), 0⟩, ⟨.load none (.loc 0), (some ((.loc 1), true)), 0⟩, ⟨.faddr 4 (.tmp 3), (some ((.loc 2), true)), 0⟩, ⟨.load none (.loc 0), (some ((.loc 3), true)), 0⟩, ⟨.bin .eql (.loc 2) (.loc 0), (some ((.loc 4), true)), 0⟩, ⟨.pick (.loc 5) (.loc 0) (.const (.bool false)), none, 0⟩, ⟨.faddr 1 (.tmp 2), (some ((.loc 0), true)), 0⟩, ⟨.load none (.loc 0), (some ((.loc 1), true)), 0⟩, ⟨.faddr 1 (.tmp 3), (some ((.loc 2), true)), 0⟩, ⟨.load none (.loc 0), (some ((.loc 3), true)), 0⟩, ⟨.call (.func 41) [(.loc 2), (.loc 0)], (some ((.loc 4), true)), 0⟩, ⟨.pick (.loc 5) (.loc 0) (.const (.bool false)), none, 0⟩, ⟨.faddr 2 (.tmp 2), (some ((.loc 0), true)), 0⟩, ⟨.load none (.loc 0), (some ((.loc 1), true)), 0⟩, ⟨.faddr 2 (.tmp 3), (some ((.loc 2), true)), 0⟩, ⟨.load none (.loc 0), (some ((.loc 3), true)), 0⟩, ⟨.call (.func 41) [(.loc 2), (.loc 0)], (some ((.loc 4), true)), 0⟩, ⟨.pick (.loc 5) (.loc 0) (.const (.bool false)), none, 0⟩, ⟨.faddr 5 (.tmp 2), (some ((.loc 0), true)), 0⟩, ⟨.load none (.loc 0), (some ((.loc 1), true)), 0⟩, ⟨.faddr 5 (.tmp 3), (some ((.loc 2), true)), 0⟩, ⟨.load none (.loc 0), (some ((.loc 3), true)), 0⟩, ⟨.call (.func 78) [(.loc 2), (.loc 0)], (some ((.loc 4), true)), 0⟩, ⟨.pick (.loc 5) (.loc 0) (.const (.bool false)), none, 0⟩] [(4, (.loc 0))])
  (.ret))⟩
theorem c40_ok : compileFn Try.prog false 40 = some c40 := by kernel_rfl
/-- louver/louverkit.KeptLabels -/
noncomputable def c41 : AFunc := ⟨[0, 1, 4, 5, 9], [.tmp 2],
  .seq (.region [] [(2, (.const (.bool false)))])
  (.seq (.seq (.region [⟨.call (.func 39) [(.tmp 0), (.tmp 1)], none, 0⟩, ⟨.not (.loc 0), none, 0⟩] [(4, (.loc 0))])
   (.cond (.tmp 4)
    (.seq (.region [] [(2, (.const (.bool false)))])
     (.ret))
    (.skip)))
  (.seq (.region [⟨.len (.tmp 0), none, 0⟩, ⟨.bin .add (.loc 0) (.const (.int .i64 1)), none, 0⟩, ⟨.slice 1 (.tmp 0) none (some (.loc 0)) none, none, 0⟩] [(3, (.loc 0))])
  (.seq (.region [⟨.len (.tmp 0), none, 0⟩, ⟨.iaddr 1 (.tmp 3) (.loc 0), none, 0⟩, ⟨.load none (.loc 0), none, 0⟩, ⟨.bin .eql (.loc 0) (.const (.int .u64 7171)), none, 0⟩] [(2, (.loc 0))])
  (.ret))))⟩
theorem c41_ok : compileFn Try.prog false 41 = some c41 := by kernel_rfl
/-- louver/region.Governs -/
noncomputable def c43 : AFunc := ⟨[0, 1, 2, 3, 4, 5, 6, 7, 12, 13, 14], [.tmp 4],
  .seq (.region [⟨.box (.tmp 0), none, 0⟩, ⟨.box (.tmp 1), none, 0⟩] [(2, (.loc 1)), (3, (.loc 0)), (4, (.const (.slice none 0 0)))])
  (.seq (.region [⟨.load (some 6) (.tmp 2), none, 0⟩, ⟨.call (.func 75) [(.loc 0)], none, 0⟩] [(5, (.loc 0))])
  (.seq (.region [⟨.alloc [(.slice none 0 0)], none, 0⟩] [(6, (.loc 0))])
  (.seq (.seq (.region [⟨.faddr 5 (.tmp 2), none, 0⟩, ⟨.load none (.loc 0), none, 0⟩, ⟨.len (.loc 0), none, 0⟩] [(8, (.loc 0)), (9, (.const (.int .i64 0)))])
   (.block 0 (.loop (.seq (.region [⟨.bin .lss (.tmp 9) (.tmp 8), none, 0⟩] [(10, (.loc 0))])
    (.seq (.cond (.tmp 10)
      (.skip)
      (.exit 0))
    (.seq (.block 1 (.seq (.region [⟨.alloc [(.int .i64 0)], none, 0⟩, ⟨.store 1 (.loc 0) (.tmp 9), none, 0⟩] [(7, (.loc 1))])
     (.region [⟨.load none (.tmp 7), none, 0⟩, ⟨.mkfn 81 [] [(.tmp 3), (.tmp 6), (.tmp 7)], none, 0⟩, ⟨.call (.func 77) [(.tmp 5), (.loc 1), (.loc 0)], none, 0⟩] [])))
    (.region [⟨.bin .add (.tmp 9) (.const (.int .i64 1)), none, 0⟩] [(9, (.loc 0))])))))))
  (.seq (.region [⟨.load none (.tmp 6), none, 0⟩, ⟨.call (.func 71) [(.loc 0)], none, 0⟩] [(4, (.loc 0))])
  (.ret)))))⟩
theorem c43_ok : compileFn Try.prog false 43 = some c43 := by kernel_rfl
/-- louver/louverref16.Of -/
noncomputable def c44 : AFunc := ⟨[0, 1, 2, 4, 5, 6, 7, 8, 9, 10, 11, 12, 13, 14, 24, 33, 44, 56, 74, 80], [.tmp 3],
  .seq (.region [⟨.box (.tmp 0), none, 0⟩] [(2, (.loc 0)), (3, (.const (.slice none 0 0)))])
  (.seq (.region [] [(4, (.const (.slice none 0 0)))])
  (.seq (.region [⟨.faddr 5 (.tmp 2), none, 0⟩, ⟨.load none (.loc 0), none, 0⟩, ⟨.len (.loc 0), none, 0⟩] [(5, (.loc 0))])
  (.seq (.seq (.region [⟨.bin .lss (.tmp 1) (.const (.int .i64 0)), none, 0⟩, ⟨.mov (.tmp 1), (some ((.loc 0), false)), 0⟩, ⟨.mov (.tmp 5), (some ((.loc 1), false)), 0⟩, ⟨.bin .geq (.loc 1) (.loc 0), (some ((.loc 2), false)), 0⟩, ⟨.pick (.loc 3) (.const (.bool true)) (.loc 0), none, 0⟩] [(14, (.loc 0))])
   (.cond (.tmp 14)
    (.seq (.region [] [(3, (.tmp 4))])
     (.ret))
    (.skip)))
  (.seq (.region [⟨.load (some 6) (.tmp 2), none, 0⟩, ⟨.call (.func 82) [(.loc 0), (.tmp 1)], none, 0⟩, ⟨.ext (.loc 0) 0, none, 0⟩, ⟨.ext (.loc 1) 1, none, 0⟩] [(6, (.loc 1)), (7, (.loc 0))])
  (.seq (.seq (.region [⟨.not (.tmp 7), none, 0⟩] [(15, (.loc 0))])
   (.cond (.tmp 15)
    (.seq (.region [] [(3, (.tmp 4))])
     (.ret))
    (.skip)))
  (.seq (.region [⟨.bin .add (.tmp 5) (.const (.int .i64 1)), none, 0⟩, ⟨.mkslice [(.bool false)] 1 (.loc 0) (.loc 0), none, 0⟩] [(8, (.loc 0))])
  (.seq (.region [⟨.load (some 6) (.tmp 2), none, 0⟩, ⟨.call (.func 65) [(.loc 0), (.tmp 1)], none, 0⟩] [(9, (.loc 0))])
  (.seq (.seq (.region [] [(10, (.const (.int .i64 0)))])
   (.block 0 (.loop (.seq (.seq (.region [⟨.len (.tmp 9), none, 0⟩, ⟨.bin .lss (.tmp 10) (.loc 0), none, 0⟩] [(16, (.loc 0))])
     (.cond (.tmp 16)
      (.skip)
      (.exit 0)))
    (.seq (.block 1 (.seq (.draw [⟨.load (some 6) (.tmp 2), none, 0⟩, ⟨.iaddr 1 (.tmp 9) (.tmp 10), none, 0⟩, ⟨.load none (.loc 0), none, 0⟩, ⟨.call (.func 83) [(.loc 2), (.loc 0), (.tmp 6)], none, 0⟩] [(11, (.loc 0))])
     (.seq (.region [] [(12, (.const (.int .i64 0)))])
     (.block 2 (.loop (.seq (.seq (.region [⟨.bin .lss (.tmp 12) (.tmp 5), none, 0⟩] [(17, (.loc 0))])
       (.cond (.tmp 17)
        (.skip)
        (.exit 2)))
      (.seq (.block 3 (.region [⟨.iaddr 1 (.tmp 8) (.tmp 12), none, 0⟩, ⟨.load none (.loc 0), none, 0⟩, ⟨.mov (.tmp 11), (some ((.loc 0), false)), 0⟩, ⟨.mov (.tmp 12), (some ((.loc 1), false)), 0⟩, ⟨.iaddr 1 (.loc 1) (.loc 0), (some ((.loc 2), false)), 0⟩, ⟨.load none (.loc 0), (some ((.loc 3), false)), 0⟩, ⟨.pick (.loc 4) (.const (.bool true)) (.loc 0), none, 0⟩, ⟨.iaddr 1 (.tmp 8) (.tmp 12), none, 0⟩, ⟨.store 1 (.loc 0) (.loc 1), none, 0⟩] []))
      (.region [⟨.bin .add (.tmp 12) (.const (.int .i64 1)), none, 0⟩] [(12, (.loc 0))]))))))))
    (.region [⟨.bin .add (.tmp 10) (.const (.int .i64 1)), none, 0⟩] [(10, (.loc 0))]))))))
  (.seq (.seq (.region [] [(13, (.const (.int .i64 0)))])
   (.block 4 (.loop (.seq (.seq (.region [⟨.bin .lss (.tmp 13) (.tmp 5), none, 0⟩] [(18, (.loc 0))])
     (.cond (.tmp 18)
      (.skip)
      (.exit 4)))
    (.seq (.block 5 (.seq (.region [⟨.iaddr 1 (.tmp 8) (.tmp 13), none, 0⟩, ⟨.load none (.loc 0), none, 0⟩] [(19, (.loc 0))])
     (.cond (.tmp 19)
      (.region [⟨.mkarr 1 [(.int .i64 0)] [(0, 1, (.tmp 13))], none, 0⟩, ⟨.append false 1 8 (.tmp 4) (.loc 0), none, 0⟩] [(4, (.loc 0))])
      (.skip))))
    (.region [⟨.bin .add (.tmp 13) (.const (.int .i64 1)), none, 0⟩] [(13, (.loc 0))]))))))
  (.seq (.region [] [(3, (.tmp 4))])
  (.ret)))))))))))⟩
theorem c44_ok : compileFn Try.prog false 44 = some c44 := by kernel_rfl
/-- louver/louverref16.Governs -/
noncomputable def c45 : AFunc := ⟨[0, 1, 2, 4, 5, 6, 11, 17], [.tmp 3],
  .seq (.region [⟨.box (.tmp 0), none, 0⟩] [(2, (.loc 0)), (3, (.const (.slice none 0 0)))])
  (.seq (.region [] [(4, (.const (.slice none 0 0)))])
  (.seq (.seq (.region [] [(5, (.const (.int .i64 0)))])
   (.block 0 (.loop (.seq (.seq (.region [⟨.faddr 5 (.tmp 2), none, 0⟩, ⟨.load none (.loc 0), none, 0⟩, ⟨.len (.loc 0), none, 0⟩, ⟨.bin .lss (.tmp 5) (.loc 0), none, 0⟩] [(6, (.loc 0))])
     (.cond (.tmp 6)
      (.skip)
      (.exit 0)))
    (.seq (.block 1 (.seq (.region [⟨.load (some 6) (.tmp 2), none, 0⟩, ⟨.call (.func 84) [(.loc 0), (.tmp 1), (.tmp 5)], none, 0⟩] [(7, (.loc 0))])
     (.cond (.tmp 7)
      (.region [⟨.mkarr 1 [(.int .i64 0)] [(0, 1, (.tmp 5))], none, 0⟩, ⟨.append false 1 8 (.tmp 4) (.loc 0), none, 0⟩] [(4, (.loc 0))])
      (.skip))))
    (.region [⟨.bin .add (.tmp 5) (.const (.int .i64 1)), none, 0⟩] [(5, (.loc 0))]))))))
  (.seq (.region [] [(3, (.tmp 4))])
  (.ret))))⟩
theorem c45_ok : compileFn Try.prog false 45 = some c45 := by kernel_rfl
/-- louver/louverref14.Next -/
noncomputable def c65 : AFunc := ⟨[0, 1, 2, 4, 5, 6, 7, 8, 18, 29, 30, 50, 63, 65, 71, 76, 88], [.tmp 3],
  .seq (.region [⟨.box (.tmp 0), none, 0⟩] [(2, (.loc 0)), (3, (.const (.slice none 0 0)))])
  (.seq (.region [] [(4, (.const (.slice none 0 0)))])
  (.seq (.region [⟨.faddr 5 (.tmp 2), none, 0⟩, ⟨.load none (.loc 0), none, 0⟩, ⟨.len (.loc 0), none, 0⟩] [(5, (.loc 0))])
  (.seq (.seq (.region [⟨.bin .lss (.tmp 1) (.const (.int .i64 0)), none, 0⟩, ⟨.mov (.tmp 1), (some ((.loc 0), false)), 0⟩, ⟨.mov (.tmp 5), (some ((.loc 1), false)), 0⟩, ⟨.bin .geq (.loc 1) (.loc 0), (some ((.loc 2), false)), 0⟩, ⟨.pick (.loc 3) (.const (.bool true)) (.loc 0), none, 0⟩] [(8, (.loc 0))])
   (.cond (.tmp 8)
    (.seq (.region [] [(3, (.tmp 4))])
     (.ret))
    (.skip)))
  (.seq (.region [⟨.bin .add (.tmp 1) (.const (.int .i64 1)), none, 0⟩] [(6, (.loc 0))])
  (.seq (.region [⟨.bin .add (.tmp 1) (.const (.int .i64 1)), none, 0⟩] [(7, (.loc 0))])
  (.seq (.seq (.region [⟨.faddr 5 (.tmp 2), none, 0⟩, ⟨.load none (.loc 0), none, 0⟩, ⟨.iaddr 2 (.loc 0) (.tmp 1), none, 0⟩, ⟨.faddr 0 (.loc 0), none, 0⟩, ⟨.load none (.loc 0), none, 0⟩] [(9, (.loc 0))])
   (.block 0 (.seq (.seq (.region [⟨.bin .eql (.tmp 9) (.const (.int .i64 43)), none, 0⟩] [(10, (.loc 0))])
    (.cond (.tmp 10)
     (.skip)
     (.region [⟨.bin .eql (.tmp 9) (.const (.int .i64 44)), none, 0⟩] [(10, (.loc 0))])))
   (.cond (.tmp 10)
    (.seq (.region [] [(7, (.tmp 5))])
     (.seq (.seq (.region [⟨.faddr 5 (.tmp 2), none, 0⟩, ⟨.load none (.loc 0), none, 0⟩, ⟨.iaddr 2 (.loc 0) (.tmp 1), none, 0⟩, ⟨.faddr 1 (.loc 0), none, 0⟩, ⟨.load none (.loc 0), none, 0⟩, ⟨.bin .geq (.loc 0) (.const (.int .i64 0)), none, 0⟩, ⟨.faddr 5 (.tmp 2), (some ((.loc 0), true)), 0⟩, ⟨.load none (.loc 0), (some ((.loc 1), true)), 0⟩, ⟨.mov (.tmp 1), (some ((.loc 2), true)), 0⟩, ⟨.iaddr 2 (.loc 1) (.loc 0), (some ((.loc 3), true)), 0⟩, ⟨.faddr 1 (.loc 0), (some ((.loc 4), true)), 0⟩, ⟨.load none (.loc 0), (some ((.loc 5), true)), 0⟩, ⟨.mov (.tmp 5), (some ((.loc 6), true)), 0⟩, ⟨.bin .lss (.loc 1) (.loc 0), (some ((.loc 7), true)), 0⟩, ⟨.pick (.loc 8) (.loc 0) (.const (.bool false)), none, 0⟩] [(11, (.loc 0))])
      (.cond (.tmp 11)
       (.region [⟨.faddr 5 (.tmp 2), none, 0⟩, ⟨.load none (.loc 0), none, 0⟩, ⟨.iaddr 2 (.loc 0) (.tmp 1), none, 0⟩, ⟨.faddr 1 (.loc 0), none, 0⟩, ⟨.load none (.loc 0), none, 0⟩] [(7, (.loc 0))])
       (.skip)))
     (.seq (.region [⟨.faddr 5 (.tmp 2), none, 0⟩, ⟨.load none (.loc 0), none, 0⟩, ⟨.iaddr 2 (.loc 0) (.tmp 1), none, 0⟩, ⟨.faddr 0 (.loc 0), none, 0⟩, ⟨.load none (.loc 0), none, 0⟩, ⟨.bin .eql (.loc 0) (.const (.int .i64 43)), none, 0⟩] [(12, (.loc 0))])
     (.cond (.tmp 12)
      (.region [] [(6, (.tmp 7))])
      (.skip)))))
    (.seq (.region [⟨.bin .eql (.tmp 9) (.const (.int .i64 46)), none, 0⟩] [(13, (.loc 0))])
     (.cond (.tmp 13)
      (.seq (.region [⟨.mkarr 1 [(.int .i64 0)] [(0, 1, (.tmp 5))], none, 0⟩] [(3, (.loc 0))])
       (.ret))
      (.skip)))))))
  (.seq (.seq (.region [⟨.bin .gtr (.tmp 6) (.tmp 7), none, 0⟩] [(14, (.loc 0))])
   (.cond (.tmp 14)
    (.region [] [(6, (.tmp 7)), (7, (.tmp 6))])
    (.skip)))
  (.seq (.seq (.region [⟨.bin .lss (.tmp 6) (.tmp 5), none, 0⟩] [(15, (.loc 0))])
   (.cond (.tmp 15)
    (.region [⟨.mkarr 1 [(.int .i64 0)] [(0, 1, (.tmp 6))], none, 0⟩, ⟨.append false 1 8 (.tmp 4) (.loc 0), none, 0⟩] [(4, (.loc 0))])
    (.skip)))
  (.seq (.seq (.region [⟨.bin .lss (.tmp 7) (.tmp 5), none, 0⟩, ⟨.mov (.tmp 7), (some ((.loc 0), true)), 0⟩, ⟨.mov (.tmp 6), (some ((.loc 1), true)), 0⟩, ⟨.bin .neq (.loc 1) (.loc 0), (some ((.loc 2), true)), 0⟩, ⟨.pick (.loc 3) (.loc 0) (.const (.bool false)), none, 0⟩] [(16, (.loc 0))])
   (.cond (.tmp 16)
    (.region [⟨.mkarr 1 [(.int .i64 0)] [(0, 1, (.tmp 7))], none, 0⟩, ⟨.append false 1 8 (.tmp 4) (.loc 0), none, 0⟩] [(4, (.loc 0))])
    (.skip)))
  (.seq (.region [] [(3, (.tmp 4))])
  (.ret)))))))))))⟩
theorem c65_ok : compileFn Try.prog false 65 = some c65 := by kernel_rfl
/-- louver/louverkit.LentCode -/
noncomputable def c74 : AFunc := ⟨[0, 2, 3], [.tmp 1],
  .seq (.region [] [(1, (.const (.slice none 0 0)))])
  (.seq (.region [] [(2, (.const (.slice none 0 0)))])
  (.seq (.region [⟨.append false 2 16 (.tmp 2) (.tmp 0), none, 0⟩] [(2, (.loc 0))])
  (.seq (.region [⟨.build [(.int .i64 0), (.int .i64 0)] [(0, 1, (.const (.int .i64 (-71))))], none, 0⟩, ⟨.mkarr 1 [(.int .i64 0), (.int .i64 0)] [(0, 2, (.loc 0))], none, 0⟩, ⟨.append false 2 16 (.tmp 2) (.loc 0), none, 0⟩] [(2, (.loc 0))])
  (.seq (.region [⟨.len (.tmp 0), none, 0⟩, ⟨.slice 2 (.tmp 2) none (some (.loc 0)) none, none, 0⟩] [(1, (.loc 0))])
  (.ret)))))⟩
theorem c74_ok : compileFn Try.prog false 74 = some c74 := by kernel_rfl
/-- louver/louverkit.KeptCode -/
noncomputable def c78 : AFunc := ⟨[0, 1, 4, 5, 9], [.tmp 2],
  .seq (.region [] [(2, (.const (.bool false)))])
  (.seq (.seq (.region [⟨.call (.func 105) [(.tmp 0), (.tmp 1)], none, 0⟩, ⟨.not (.loc 0), none, 0⟩] [(4, (.loc 0))])
   (.cond (.tmp 4)
    (.seq (.region [] [(2, (.const (.bool false)))])
     (.ret))
    (.skip)))
  (.seq (.region [⟨.len (.tmp 0), none, 0⟩, ⟨.bin .add (.loc 0) (.const (.int .i64 1)), none, 0⟩, ⟨.slice 2 (.tmp 0) none (some (.loc 0)) none, none, 0⟩] [(3, (.loc 0))])
  (.seq (.region [⟨.len (.tmp 0), none, 0⟩, ⟨.iaddr 2 (.tmp 3) (.loc 0), none, 0⟩, ⟨.load (some 2) (.loc 0), none, 0⟩, ⟨.build [(.int .i64 0), (.int .i64 0)] [(0, 1, (.const (.int .i64 (-71))))], none, 0⟩, ⟨.flat (.bin .eql 62 (.tmp 19) (.tmp 20)) [(.loc 1), (.loc 0)], none, 0⟩] [(2, (.loc 0))])
  (.ret))))⟩
theorem c78_ok : compileFn Try.prog false 78 = some c78 := by kernel_rfl
/-- louver/region.Governs$1 -/
noncomputable def c81 : AFunc := ⟨[0, 1, 2, 3, 7], [],
  .seq (.region [⟨.load none (.tmp 1), none, 0⟩, ⟨.bin .eql (.tmp 0) (.loc 0), none, 0⟩] [(4, (.loc 0))])
  (.cond (.tmp 4)
   (.region [⟨.load none (.tmp 2), none, 0⟩, ⟨.load none (.tmp 3), none, 0⟩, ⟨.mkarr 1 [(.int .i64 0)] [(0, 1, (.loc 0))], none, 0⟩, ⟨.append false 1 8 (.loc 2) (.loc 0), none, 0⟩, ⟨.store 1 (.tmp 2) (.loc 0), none, 0⟩] [])
   (.skip))⟩
theorem c81_ok : compileFn Try.prog false 81 = some c81 := by kernel_rfl
/-- louver/louverref15.Near -/
noncomputable def c82 : AFunc := ⟨[0, 1, 2, 4, 5, 6, 7, 8, 9, 10, 15, 26, 34, 43, 56], [.tmp 3, .tmp 4],
  .seq (.region [⟨.box (.tmp 0), none, 0⟩] [(2, (.loc 0)), (3, (.const (.int .i64 0))), (4, (.const (.bool false)))])
  (.seq (.region [] [(5, (.const (.slice none 0 0)))])
  (.seq (.seq (.region [] [(6, (.const (.int .i64 0)))])
   (.block 0 (.loop (.seq (.seq (.region [⟨.faddr 5 (.tmp 2), none, 0⟩, ⟨.load none (.loc 0), none, 0⟩, ⟨.len (.loc 0), none, 0⟩, ⟨.bin .leq (.tmp 6) (.loc 0), none, 0⟩] [(10, (.loc 0))])
     (.cond (.tmp 10)
      (.skip)
      (.exit 0)))
    (.seq (.block 1 (.seq (.region [⟨.bin .neq (.tmp 6) (.tmp 1), none, 0⟩, ⟨.load (some 6) (.tmp 2), (some ((.loc 0), true)), 0⟩, ⟨.mov (.tmp 6), (some ((.loc 1), true)), 0⟩, ⟨.mov (.tmp 1), (some ((.loc 2), true)), 0⟩, ⟨.call (.func 108) [(.loc 2), (.loc 1), (.loc 0)], (some ((.loc 3), true)), 0⟩, ⟨.pick (.loc 4) (.loc 0) (.const (.bool false)), none, 0⟩] [(11, (.loc 0))])
     (.cond (.tmp 11)
      (.region [⟨.mkarr 1 [(.int .i64 0)] [(0, 1, (.tmp 6))], none, 0⟩, ⟨.append false 1 8 (.tmp 5) (.loc 0), none, 0⟩] [(5, (.loc 0))])
      (.skip))))
    (.region [⟨.bin .add (.tmp 6) (.const (.int .i64 1)), none, 0⟩] [(6, (.loc 0))]))))))
  (.seq (.seq (.region [] [(7, (.const (.int .i64 0)))])
   (.block 2 (.loop (.seq (.seq (.region [⟨.len (.tmp 5), none, 0⟩, ⟨.bin .lss (.tmp 7) (.loc 0), none, 0⟩] [(12, (.loc 0))])
     (.cond (.tmp 12)
      (.skip)
      (.exit 2)))
    (.seq (.block 3 (.seq (.region [] [(8, (.const (.bool true)))])
     (.seq (.seq (.region [] [(9, (.const (.int .i64 0)))])
      (.block 4 (.loop (.seq (.seq (.region [⟨.len (.tmp 5), none, 0⟩, ⟨.bin .lss (.tmp 9) (.loc 0), none, 0⟩, ⟨.mov (.tmp 8), (some ((.loc 0), true)), 0⟩, ⟨.pick (.loc 1) (.loc 0) (.const (.bool false)), none, 0⟩] [(13, (.loc 0))])
        (.cond (.tmp 13)
         (.skip)
         (.exit 4)))
       (.seq (.block 5 (.draw [⟨.load (some 6) (.tmp 2), none, 0⟩, ⟨.iaddr 1 (.tmp 5) (.tmp 9), none, 0⟩, ⟨.load none (.loc 0), none, 0⟩, ⟨.iaddr 1 (.tmp 5) (.tmp 7), none, 0⟩, ⟨.load none (.loc 0), none, 0⟩, ⟨.call (.func 108) [(.loc 4), (.loc 2), (.loc 0)], none, 0⟩] [(8, (.loc 0))]))
       (.region [⟨.bin .add (.tmp 9) (.const (.int .i64 1)), none, 0⟩] [(9, (.loc 0))]))))))
     (.seq (.region [] [(14, (.tmp 8))])
     (.cond (.tmp 14)
      (.seq (.region [⟨.iaddr 1 (.tmp 5) (.tmp 7), none, 0⟩, ⟨.load none (.loc 0), none, 0⟩] [(3, (.loc 0)), (4, (.const (.bool true)))])
       (.ret))
      (.skip))))))
    (.region [⟨.bin .add (.tmp 7) (.const (.int .i64 1)), none, 0⟩] [(7, (.loc 0))]))))))
  (.seq (.region [] [(3, (.const (.int .i64 0))), (4, (.const (.bool false)))])
  (.ret)))))⟩
theorem c82_ok : compileFn Try.prog false 82 = some c82 := by kernel_rfl
/-- louver/louverref14.Without -/
noncomputable def c83 : AFunc := ⟨[0, 1, 2, 3, 6, 7, 8, 9, 10, 11, 12, 30, 40, 52, 70], [.tmp 4],
  .seq (.region [⟨.box (.tmp 0), none, 0⟩] [(3, (.loc 0)), (4, (.const (.slice none 0 0)))])
  (.seq (.region [⟨.faddr 5 (.tmp 3), none, 0⟩, ⟨.load none (.loc 0), none, 0⟩, ⟨.len (.loc 0), none, 0⟩, ⟨.bin .add (.loc 0) (.const (.int .i64 1)), none, 0⟩] [(5, (.loc 0))])
  (.seq (.region [⟨.mkslice [(.bool false)] 1 (.tmp 5) (.tmp 5), none, 0⟩] [(6, (.loc 0))])
  (.seq (.seq (.region [⟨.bin .lss (.tmp 1) (.const (.int .i64 0)), none, 0⟩, ⟨.mov (.tmp 1), (some ((.loc 0), false)), 0⟩, ⟨.mov (.tmp 5), (some ((.loc 1), false)), 0⟩, ⟨.bin .geq (.loc 1) (.loc 0), (some ((.loc 2), false)), 0⟩, ⟨.pick (.loc 3) (.const (.bool true)) (.loc 0), none, 0⟩, ⟨.mov (.tmp 1), (some ((.loc 0), false)), 0⟩, ⟨.mov (.tmp 2), (some ((.loc 1), false)), 0⟩, ⟨.bin .eql (.loc 1) (.loc 0), (some ((.loc 2), false)), 0⟩, ⟨.pick (.loc 3) (.const (.bool true)) (.loc 0), none, 0⟩] [(11, (.loc 0))])
   (.cond (.tmp 11)
    (.seq (.region [] [(4, (.tmp 6))])
     (.ret))
    (.skip)))
  (.seq (.region [⟨.iaddr 1 (.tmp 6) (.tmp 1), none, 0⟩, ⟨.store 1 (.loc 0) (.const (.bool true)), none, 0⟩] [])
  (.seq (.region [⟨.mkarr 1 [(.int .i64 0)] [(0, 1, (.tmp 1))], none, 0⟩] [(7, (.loc 0))])
  (.seq (.seq (.region [] [(8, (.const (.int .i64 0)))])
   (.block 0 (.loop (.seq (.seq (.region [⟨.len (.tmp 7), none, 0⟩, ⟨.bin .lss (.tmp 8) (.loc 0), none, 0⟩] [(12, (.loc 0))])
     (.cond (.tmp 12)
      (.skip)
      (.exit 0)))
    (.seq (.block 1 (.seq (.draw [⟨.load (some 6) (.tmp 3), none, 0⟩, ⟨.iaddr 1 (.tmp 7) (.tmp 8), none, 0⟩, ⟨.load none (.loc 0), none, 0⟩, ⟨.call (.func 65) [(.loc 2), (.loc 0)], none, 0⟩] [(9, (.loc 0))])
     (.seq (.region [] [(10, (.const (.int .i64 0)))])
     (.block 2 (.loop (.seq (.seq (.region [⟨.len (.tmp 9), none, 0⟩, ⟨.bin .lss (.tmp 10) (.loc 0), none, 0⟩] [(13, (.loc 0))])
       (.cond (.tmp 13)
        (.skip)
        (.exit 2)))
      (.seq (.block 3 (.seq (.region [⟨.iaddr 1 (.tmp 9) (.tmp 10), none, 0⟩, ⟨.load none (.loc 0), none, 0⟩, ⟨.iaddr 1 (.tmp 6) (.loc 0), none, 0⟩, ⟨.load none (.loc 0), none, 0⟩, ⟨.not (.loc 0), none, 0⟩, ⟨.mov (.tmp 9), (some ((.loc 0), true)), 0⟩, ⟨.mov (.tmp 10), (some ((.loc 1), true)), 0⟩, ⟨.iaddr 1 (.loc 1) (.loc 0), (some ((.loc 2), true)), 0⟩, ⟨.load none (.loc 0), (some ((.loc 3), true)), 0⟩, ⟨.mov (.tmp 2), (some ((.loc 4), true)), 0⟩, ⟨.bin .neq (.loc 1) (.loc 0), (some ((.loc 5), true)), 0⟩, ⟨.pick (.loc 6) (.loc 0) (.const (.bool false)), none, 0⟩] [(14, (.loc 0))])
       (.cond (.tmp 14)
        (.seq (.region [⟨.iaddr 1 (.tmp 9) (.tmp 10), none, 0⟩, ⟨.load none (.loc 0), none, 0⟩, ⟨.iaddr 1 (.tmp 6) (.loc 0), none, 0⟩, ⟨.store 1 (.loc 0) (.const (.bool true)), none, 0⟩] [])
         (.region [⟨.iaddr 1 (.tmp 9) (.tmp 10), none, 0⟩, ⟨.load none (.loc 0), none, 0⟩, ⟨.mkarr 1 [(.int .i64 0)] [(0, 1, (.loc 0))], none, 0⟩, ⟨.append false 1 8 (.tmp 7) (.loc 0), none, 0⟩] [(7, (.loc 0))]))
        (.skip))))
      (.region [⟨.bin .add (.tmp 10) (.const (.int .i64 1)), none, 0⟩] [(10, (.loc 0))]))))))))
    (.region [⟨.bin .add (.tmp 8) (.const (.int .i64 1)), none, 0⟩] [(8, (.loc 0))]))))))
  (.seq (.region [] [(4, (.tmp 6))])
  (.ret))))))))⟩
theorem c83_ok : compileFn Try.prog false 83 = some c83 := by kernel_rfl
/-- louver/louverref16.In -/
noncomputable def c84 : AFunc := ⟨[0, 1, 2, 3, 6, 7, 8, 9, 10, 11, 12, 31, 39, 46, 59], [.tmp 4],
  .seq (.region [⟨.box (.tmp 0), none, 0⟩] [(3, (.loc 0)), (4, (.const (.bool false)))])
  (.seq (.region [⟨.faddr 5 (.tmp 3), none, 0⟩, ⟨.load none (.loc 0), none, 0⟩, ⟨.len (.loc 0), none, 0⟩] [(5, (.loc 0))])
  (.seq (.seq (.region [⟨.bin .lss (.tmp 1) (.const (.int .i64 0)), none, 0⟩, ⟨.mov (.tmp 1), (some ((.loc 0), false)), 0⟩, ⟨.mov (.tmp 5), (some ((.loc 1), false)), 0⟩, ⟨.bin .geq (.loc 1) (.loc 0), (some ((.loc 2), false)), 0⟩, ⟨.pick (.loc 3) (.const (.bool true)) (.loc 0), none, 0⟩, ⟨.mov (.tmp 2), (some ((.loc 0), false)), 0⟩, ⟨.bin .lss (.loc 0) (.const (.int .i64 0)), (some ((.loc 1), false)), 0⟩, ⟨.pick (.loc 2) (.const (.bool true)) (.loc 0), none, 0⟩, ⟨.mov (.tmp 2), (some ((.loc 0), false)), 0⟩, ⟨.mov (.tmp 5), (some ((.loc 1), false)), 0⟩, ⟨.bin .geq (.loc 1) (.loc 0), (some ((.loc 2), false)), 0⟩, ⟨.pick (.loc 3) (.const (.bool true)) (.loc 0), none, 0⟩] [(11, (.loc 0))])
   (.cond (.tmp 11)
    (.seq (.region [] [(4, (.const (.bool false)))])
     (.ret))
    (.skip)))
  (.seq (.region [⟨.load (some 6) (.tmp 3), none, 0⟩, ⟨.call (.func 82) [(.loc 0), (.tmp 2)], none, 0⟩, ⟨.ext (.loc 0) 0, none, 0⟩, ⟨.ext (.loc 1) 1, none, 0⟩] [(6, (.loc 1)), (7, (.loc 0))])
  (.seq (.seq (.region [⟨.not (.tmp 7), none, 0⟩] [(12, (.loc 0))])
   (.cond (.tmp 12)
    (.seq (.region [] [(4, (.const (.bool false)))])
     (.ret))
    (.skip)))
  (.seq (.region [⟨.load (some 6) (.tmp 3), none, 0⟩, ⟨.call (.func 65) [(.loc 0), (.tmp 2)], none, 0⟩] [(8, (.loc 0))])
  (.seq (.seq (.region [] [(9, (.const (.int .i64 0)))])
   (.block 0 (.loop (.seq (.seq (.region [⟨.len (.tmp 8), none, 0⟩, ⟨.bin .lss (.tmp 9) (.loc 0), none, 0⟩] [(13, (.loc 0))])
     (.cond (.tmp 13)
      (.skip)
      (.exit 0)))
    (.seq (.block 1 (.seq (.draw [⟨.load (some 6) (.tmp 3), none, 0⟩, ⟨.iaddr 1 (.tmp 8) (.tmp 9), none, 0⟩, ⟨.load none (.loc 0), none, 0⟩, ⟨.call (.func 83) [(.loc 2), (.loc 0), (.tmp 6)], none, 0⟩] [(10, (.loc 0))])
     (.seq (.region [⟨.iaddr 1 (.tmp 10) (.tmp 1), none, 0⟩, ⟨.load none (.loc 0), none, 0⟩] [(14, (.loc 0))])
     (.cond (.tmp 14)
      (.seq (.region [] [(4, (.const (.bool true)))])
       (.ret))
      (.skip)))))
    (.region [⟨.bin .add (.tmp 9) (.const (.int .i64 1)), none, 0⟩] [(9, (.loc 0))]))))))
  (.seq (.region [] [(4, (.const (.bool false)))])
  (.ret))))))))⟩
theorem c84_ok : compileFn Try.prog false 84 = some c84 := by kernel_rfl
/-- louver/louverkit.Code -/
noncomputable def c105 : AFunc := ⟨[0, 1, 4, 5, 10, 14, 25], [.tmp 2],
  .seq (.region [] [(2, (.const (.bool false)))])
  (.seq (.seq (.region [⟨.len (.tmp 0), none, 0⟩, ⟨.len (.tmp 1), none, 0⟩, ⟨.bin .neq (.loc 1) (.loc 0), none, 0⟩] [(4, (.loc 0))])
   (.cond (.tmp 4)
    (.seq (.region [] [(2, (.const (.bool false)))])
     (.ret))
    (.skip)))
  (.seq (.seq (.region [] [(3, (.const (.int .i64 0)))])
   (.block 0 (.loop (.seq (.seq (.region [⟨.len (.tmp 0), none, 0⟩, ⟨.bin .lss (.tmp 3) (.loc 0), none, 0⟩] [(5, (.loc 0))])
     (.cond (.tmp 5)
      (.skip)
      (.exit 0)))
    (.seq (.block 1 (.seq (.draw [⟨.iaddr 2 (.tmp 0) (.tmp 3), none, 0⟩, ⟨.load (some 2) (.loc 0), none, 0⟩, ⟨.iaddr 2 (.tmp 1) (.tmp 3), none, 0⟩, ⟨.load (some 2) (.loc 0), none, 0⟩, ⟨.flat (.bin .neq 62 (.tmp 20) (.tmp 24)) [(.loc 2), (.loc 0)], none, 0⟩] [(6, (.loc 0))])
     (.cond (.tmp 6)
      (.seq (.region [] [(2, (.const (.bool false)))])
       (.ret))
      (.skip))))
    (.region [⟨.bin .add (.tmp 3) (.const (.int .i64 1)), none, 0⟩] [(3, (.loc 0))]))))))
  (.seq (.region [] [(2, (.const (.bool true)))])
  (.ret))))⟩
theorem c105_ok : compileFn Try.prog false 105 = some c105 := by kernel_rfl
/-- louver/louverref15.Dominates -/
noncomputable def c108 : AFunc := ⟨[0, 1, 2, 3, 6, 7, 8, 9, 28, 36], [.tmp 4],
  .seq (.region [⟨.box (.tmp 0), none, 0⟩] [(3, (.loc 0)), (4, (.const (.bool false)))])
  (.seq (.region [⟨.faddr 5 (.tmp 3), none, 0⟩, ⟨.load none (.loc 0), none, 0⟩, ⟨.len (.loc 0), none, 0⟩] [(5, (.loc 0))])
  (.seq (.seq (.region [⟨.bin .lss (.tmp 1) (.const (.int .i64 0)), none, 0⟩, ⟨.mov (.tmp 1), (some ((.loc 0), false)), 0⟩, ⟨.mov (.tmp 5), (some ((.loc 1), false)), 0⟩, ⟨.bin .gtr (.loc 1) (.loc 0), (some ((.loc 2), false)), 0⟩, ⟨.pick (.loc 3) (.const (.bool true)) (.loc 0), none, 0⟩, ⟨.mov (.tmp 2), (some ((.loc 0), false)), 0⟩, ⟨.bin .lss (.loc 0) (.const (.int .i64 0)), (some ((.loc 1), false)), 0⟩, ⟨.pick (.loc 2) (.const (.bool true)) (.loc 0), none, 0⟩, ⟨.mov (.tmp 2), (some ((.loc 0), false)), 0⟩, ⟨.mov (.tmp 5), (some ((.loc 1), false)), 0⟩, ⟨.bin .gtr (.loc 1) (.loc 0), (some ((.loc 2), false)), 0⟩, ⟨.pick (.loc 3) (.const (.bool true)) (.loc 0), none, 0⟩] [(8, (.loc 0))])
   (.cond (.tmp 8)
    (.seq (.region [] [(4, (.const (.bool false)))])
     (.ret))
    (.skip)))
  (.seq (.region [⟨.load (some 6) (.tmp 3), none, 0⟩, ⟨.call (.func 128) [(.loc 0), (.tmp 2)], none, 0⟩] [(6, (.loc 0))])
  (.seq (.seq (.region [⟨.iaddr 1 (.tmp 6) (.tmp 5), none, 0⟩, ⟨.load none (.loc 0), none, 0⟩, ⟨.not (.loc 0), none, 0⟩] [(9, (.loc 0))])
   (.cond (.tmp 9)
    (.seq (.region [] [(4, (.const (.bool false)))])
     (.ret))
    (.skip)))
  (.seq (.region [⟨.load (some 6) (.tmp 3), none, 0⟩, ⟨.call (.func 83) [(.loc 0), (.tmp 2), (.tmp 1)], none, 0⟩] [(7, (.loc 0))])
  (.seq (.region [⟨.iaddr 1 (.tmp 7) (.tmp 5), none, 0⟩, ⟨.load none (.loc 0), none, 0⟩, ⟨.not (.loc 0), none, 0⟩] [(4, (.loc 0))])
  (.ret)))))))⟩
theorem c108_ok : compileFn Try.prog false 108 = some c108 := by kernel_rfl
/-- louver/louverref14.Reach -/
noncomputable def c128 : AFunc := ⟨[0, 1, 2, 4], [.tmp 3],
  .seq (.region [⟨.box (.tmp 0), none, 0⟩] [(2, (.loc 0)), (3, (.const (.slice none 0 0)))])
  (.seq (.region [⟨.load (some 6) (.tmp 2), none, 0⟩, ⟨.call (.func 83) [(.loc 0), (.tmp 1), (.const (.int .i64 (-1)))], none, 0⟩] [(3, (.loc 0))])
  (.ret))⟩
theorem c128_ok : compileFn Try.prog false 128 = some c128 := by kernel_rfl
noncomputable def list : List (Option AFunc) := [none, none, none, none, none, none, none, none, none, some c9, none, none, none, none, none, none, none, none, none, none, none, none, none, none, some RegionAwake.c24, none, none, none, none, none, some c30, none, none, none, none, some c35, some c36, none, none, some RegionAwake.c39, some c40, some c41, some RegionAwake.c42, some c43, some c44, some c45, none, none, none, none, none, none, none, none, none, none, none, none, none, none, none, none, none, none, none, some c65, none, none, none, none, some RegionAwake.c70, some RegionAwake.c71, none, none, some c74, some RegionAwake.c75, none, some RegionAwake.c77, some c78, some RegionAwake.c79, some RegionAwake.c80, some c81, some c82, some c83, some c84, some RegionAwake.c85, none, none, some RegionAwake.c88, none, none, none, none, none, none, none, none, some RegionAwake.c97, none, none, none, none, some RegionAwake.c102, some RegionAwake.c103, some RegionAwake.c104, some c105, some RegionAwake.c106, some RegionAwake.c107, some c108, some RegionAwake.c109, some RegionAwake.c110, some RegionAwake.c111, none, none, some RegionAwake.c114, none, none, some RegionAwake.c117, some RegionAwake.c118, some RegionAwake.c119, some RegionAwake.c120, some RegionAwake.c121, some RegionAwake.c122, some RegionAwake.c123, some RegionAwake.c124, some RegionAwake.c125, some RegionAwake.c126, some RegionAwake.c127, some c128, some RegionAwake.c129, some RegionAwake.c130, some RegionAwake.c131, some RegionAwake.c132, some RegionAwake.c133, some RegionAwake.c134, some RegionAwake.c135]
noncomputable def fns : TV (Option AFunc) := Vec.ofList list
def none1 (args : List Value) (H : AH TV) : Option (Value × AH TV) := match args with | [] => some (.bool true, H) | _ => none
noncomputable def ext (f : FuncId) (args : List Value) (H : AH TV) : Option (Value × AH TV) := bif Nat.beq f 34 then none1 args H else none
noncomputable def E : Env TV := { P := Try.prog, fn := fun f => (Vec.get fns f).getD none, ext := ext }
theorem all_ok : OkFrom Try.prog 0 list := ⟨⟨false, c9_ok⟩, ⟨⟨false, RegionAwake.c24_ok⟩, ⟨⟨false, c30_ok⟩, ⟨⟨false, c35_ok⟩, ⟨⟨false, c36_ok⟩, ⟨⟨false, RegionAwake.c39_ok⟩, ⟨⟨false, c40_ok⟩, ⟨⟨false, c41_ok⟩, ⟨⟨false, RegionAwake.c42_ok⟩, ⟨⟨false, c43_ok⟩, ⟨⟨false, c44_ok⟩, ⟨⟨false, c45_ok⟩, ⟨⟨false, c65_ok⟩, ⟨⟨false, RegionAwake.c70_ok⟩, ⟨⟨false, RegionAwake.c71_ok⟩, ⟨⟨false, c74_ok⟩, ⟨⟨false, RegionAwake.c75_ok⟩, ⟨⟨false, RegionAwake.c77_ok⟩, ⟨⟨false, c78_ok⟩, ⟨⟨false, RegionAwake.c79_ok⟩, ⟨⟨false, RegionAwake.c80_ok⟩, ⟨⟨false, c81_ok⟩, ⟨⟨false, c82_ok⟩, ⟨⟨false, c83_ok⟩, ⟨⟨false, c84_ok⟩, ⟨⟨false, RegionAwake.c85_ok⟩, ⟨⟨false, RegionAwake.c88_ok⟩, ⟨⟨false, RegionAwake.c97_ok⟩, ⟨⟨false, RegionAwake.c102_ok⟩, ⟨⟨false, RegionAwake.c103_ok⟩, ⟨⟨false, RegionAwake.c104_ok⟩, ⟨⟨false, c105_ok⟩, ⟨⟨false, RegionAwake.c106_ok⟩, ⟨⟨false, RegionAwake.c107_ok⟩, ⟨⟨false, c108_ok⟩, ⟨⟨false, RegionAwake.c109_ok⟩, ⟨⟨false, RegionAwake.c110_ok⟩, ⟨⟨false, RegionAwake.c111_ok⟩, ⟨⟨false, RegionAwake.c114_ok⟩, ⟨⟨false, RegionAwake.c117_ok⟩, ⟨⟨false, RegionAwake.c118_ok⟩, ⟨⟨false, RegionAwake.c119_ok⟩, ⟨⟨false, RegionAwake.c120_ok⟩, ⟨⟨false, RegionAwake.c121_ok⟩, ⟨⟨false, RegionAwake.c122_ok⟩, ⟨⟨false, RegionAwake.c123_ok⟩, ⟨⟨false, RegionAwake.c124_ok⟩, ⟨⟨false, RegionAwake.c125_ok⟩, ⟨⟨false, RegionAwake.c126_ok⟩, ⟨⟨false, RegionAwake.c127_ok⟩, ⟨⟨false, c128_ok⟩, ⟨⟨false, RegionAwake.c129_ok⟩, ⟨⟨false, RegionAwake.c130_ok⟩, ⟨⟨false, RegionAwake.c131_ok⟩, ⟨⟨false, RegionAwake.c132_ok⟩, ⟨⟨false, RegionAwake.c133_ok⟩, ⟨⟨false, RegionAwake.c134_ok⟩, ⟨⟨false, RegionAwake.c135_ok⟩, trivial⟩⟩⟩⟩⟩⟩⟩⟩⟩⟩⟩⟩⟩⟩⟩⟩⟩⟩⟩⟩⟩⟩⟩⟩⟩⟩⟩⟩⟩⟩⟩⟩⟩⟩⟩⟩⟩⟩⟩⟩⟩⟩⟩⟩⟩⟩⟩⟩⟩⟩⟩⟩⟩⟩⟩⟩⟩⟩
theorem ext_ok (f : FuncId) (args : List Value) (H : AH TV) (v : Value) (H' : AH TV) (h : ext f args H = some (v, H')) : CallsOk Try.prog f args H v H' := by
  unfold ext at h
  cases hb : Nat.beq f 34 with
  | true =>
    have hf : f = 34 := Nat.eq_of_beq_eq_true hb
    rw [hb] at h
    cases args with
    | nil =>
      simp only [none1, cond_true, Option.some.injEq, Prod.mk.injEq] at h
      obtain ⟨rfl, rfl⟩ := h
      rw [hf]
      exact closed_ok RegionAwake.env_ok RegionAwake.run rfl H
    | cons a r => cases h
  | false =>
  rw [hb] at h
  cases h
theorem env_ok : EnvOk E := ⟨fun f fn h => fn_of all_ok h, ext_ok, draw_ok (by kernel_rfl)⟩
end Go.Proofs.Ytollibkfagjnaaa.Graph
