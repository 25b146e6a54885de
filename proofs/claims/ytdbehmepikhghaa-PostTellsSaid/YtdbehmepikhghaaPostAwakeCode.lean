/- The functions that louver/louverlaw15.awake reaches, compiled; that each is what 'compileFn' comes to. PRINTED by code.py. -/
import Derived.Test.YtdbehmepikhghaaAMb
import Derived.Test.YtdbehmepikhghaaProg
import Derived.KernelRfl
set_option linter.unusedVariables false
set_option maxRecDepth 100000
namespace Go.Proofs.Ytdbehmepikhghaa.PostAwake
open Go.Proofs.Ytdbehmepikhghaa.AM
/-- louver/graph.Edges -/
noncomputable def c14 : AFunc := ⟨[0, 1, 2], [.tmp 2],
  .seq (.region [⟨.box (.tmp 0), none, 0⟩] [(1, (.loc 0)), (2, (.const .nilFunc))])
  (.seq (.region [⟨.faddr 5 (.tmp 1), none, 0⟩, ⟨.load none (.loc 0), none, 0⟩, ⟨.call (.func 50) [(.loc 0)], none, 0⟩, ⟨.call (.func 49) [(.loc 0)], none, 0⟩] [(2, (.loc 0))])
  (.ret))⟩
theorem c14_ok : compileFn Try.prog false 14 = some c14 := by kernel_rfl
/-- louver/louverkit.Ints -/
noncomputable def c16 : AFunc := ⟨[0, 1, 4, 5, 10, 14, 25], [.tmp 2],
  .seq (.region [] [(2, (.const (.bool false)))])
  (.seq (.seq (.region [⟨.len (.tmp 0), none, 0⟩, ⟨.len (.tmp 1), none, 0⟩, ⟨.bin .neq (.loc 1) (.loc 0), none, 0⟩] [(4, (.loc 0))])
   (.cond (.tmp 4)
    (.seq (.region [] [(2, (.const (.bool false)))])
     (.ret))
    (.skip)))
  (.seq (.seq (.region [] [(3, (.const (.int .i64 0)))])
   (.block 0 (.loop (.seq (.seq (.region [⟨.len (.tmp 0), none, 0⟩, ⟨.bin .lss (.tmp 3) (.loc 0), none, 0⟩] [(5, (.loc 0))])
     (.cond (.tmp 5)
      (.skip)
      (.exit 0)))
    (.seq (.block 1 (.seq (.draw [⟨.iaddr 1 (.tmp 0) (.tmp 3), none, 0⟩, ⟨.load none (.loc 0), none, 0⟩, ⟨.iaddr 1 (.tmp 1) (.tmp 3), none, 0⟩, ⟨.load none (.loc 0), none, 0⟩, ⟨.bin .neq (.loc 2) (.loc 0), none, 0⟩] [(6, (.loc 0))])
     (.cond (.tmp 6)
      (.seq (.region [] [(2, (.const (.bool false)))])
       (.ret))
      (.skip))))
    (.region [⟨.bin .add (.tmp 3) (.const (.int .i64 1)), none, 0⟩] [(3, (.loc 0))]))))))
  (.seq (.region [] [(2, (.const (.bool true)))])
  (.ret))))⟩
theorem c16_ok : compileFn Try.prog false 16 = some c16 := by kernel_rfl
/-- louver/louverlaw15.awake -/
noncomputable def c30 : AFunc := ⟨[0], [.tmp 0],
  .seq (.region [] [(0, (.const (.bool false)))])
  (.seq (.region [⟨.call (.func 40) [], none, 0⟩, ⟨.call (.func 33) [(.loc 0)], none, 0⟩, ⟨.mkarr 9 [(.int .i64 0), (.int .i64 0), (.int .i64 0), (.int .i64 0), (.int .i64 0), (.int .i64 0), (.int .i64 0), (.int .i64 0), (.int .i64 0)] [(0, 1, (.const (.int .i64 4))), (1, 1, (.const (.int .i64 2))), (2, 1, (.const (.int .i64 4))), (3, 1, (.const (.int .i64 4))), (4, 1, (.const (.int .i64 8))), (5, 1, (.const (.int .i64 8))), (6, 1, (.const (.int .i64 8))), (7, 1, (.const (.int .i64 (-1)))), (8, 1, (.const (.int .i64 (-1))))], none, 0⟩, ⟨.call (.func 16) [(.loc 1), (.loc 0)], none, 0⟩, ⟨.call (.func 40) [], (some ((.loc 0), true)), 0⟩, ⟨.call (.func 37) [(.loc 0), (.const (.int .i64 4)), (.const (.int .i64 0))], (some ((.loc 1), true)), 0⟩, ⟨.pick (.loc 2) (.loc 0) (.const (.bool false)), none, 0⟩, ⟨.call (.func 40) [], (some ((.loc 0), true)), 0⟩, ⟨.call (.func 37) [(.loc 0), (.const (.int .i64 1)), (.const (.int .i64 0))], (some ((.loc 1), true)), 0⟩, ⟨.not (.loc 0), (some ((.loc 2), true)), 0⟩, ⟨.pick (.loc 3) (.loc 0) (.const (.bool false)), none, 0⟩] [(0, (.loc 0))])
  (.ret))⟩
theorem c30_ok : compileFn Try.prog false 30 = some c30 := by kernel_rfl
/-- louver/post.Tree -/
noncomputable def c33 : AFunc := ⟨[0, 1, 2, 3, 4, 5, 6, 7, 8, 9, 10, 11, 12, 13, 14, 15, 17, 18, 20, 30, 31, 32, 61, 62, 63, 69, 70, 71, 72, 89, 90, 91, 92, 98, 99, 100, 101, 108, 114, 124, 130], [.tmp 2],
  .seq (.region [⟨.box (.tmp 0), none, 0⟩] [(1, (.loc 0)), (2, (.const (.slice none 0 0)))])
  (.scope (.seq (.region [⟨.faddr 5 (.tmp 1), none, 0⟩, ⟨.load none (.loc 0), none, 0⟩, ⟨.len (.loc 0), none, 0⟩, ⟨.bin .add (.loc 0) (.const (.int .i64 1)), none, 0⟩] [(3, (.loc 0))])
  (.seq (.draw [⟨.mkslice [(.slice none 0 0)] 24 (.tmp 3) (.tmp 3), none, 0⟩, ⟨.alloc [(.slice none 0 0)], none, 0⟩, ⟨.alloc [(.slice none 0 0)], none, 0⟩, ⟨.store 1 (.loc 1) (.loc 2), none, 0⟩, ⟨.mkslice [(.slice none 0 0)] 24 (.tmp 3) (.tmp 3), none, 0⟩, ⟨.store 1 (.loc 2) (.loc 0), none, 1⟩] [(4, (.loc 4)), (5, (.loc 3))])
  (.seq (.seq (.region [⟨.load (some 6) (.tmp 1), none, 0⟩, ⟨.call (.func 14) [(.loc 0)], none, 0⟩] [(19, (.loc 0))])
   (.block 0 (.rangeFunc (.tmp 19) [(some 20), (some 21)]
    (.seq (.region [] [(6, (.tmp 20))])
     (.region [] [(7, (.tmp 21))]))
    (.block 1 (.seq (.draw [⟨.load none (.tmp 4), none, 0⟩, ⟨.iaddr 1 (.loc 0) (.tmp 7), none, 0⟩, ⟨.load none (.loc 0), none, 0⟩, ⟨.mkarr 1 [(.int .i64 0)] [(0, 1, (.tmp 6))], none, 0⟩, ⟨.append false 1 8 (.loc 1) (.loc 0), none, 0⟩, ⟨.load none (.tmp 4), none, 0⟩, ⟨.iaddr 1 (.loc 0) (.tmp 7), none, 1⟩, ⟨.store 1 (.loc 0) (.loc 2), none, 1⟩] [])
     (.draw [⟨.load none (.tmp 5), none, 0⟩, ⟨.iaddr 1 (.loc 0) (.tmp 6), none, 0⟩, ⟨.load none (.loc 0), none, 0⟩, ⟨.mkarr 1 [(.int .i64 0)] [(0, 1, (.tmp 7))], none, 0⟩, ⟨.append false 1 8 (.loc 1) (.loc 0), none, 0⟩, ⟨.load none (.tmp 5), none, 0⟩, ⟨.iaddr 1 (.loc 0) (.tmp 6), none, 1⟩, ⟨.store 1 (.loc 0) (.loc 2), none, 1⟩] []))))))
  (.seq (.region [⟨.load none (.tmp 4), none, 0⟩, ⟨.call (.func 63) [(.tmp 3), (.loc 0)], none, 0⟩] [(8, (.loc 0))])
  (.seq (.region [⟨.mkslice [(.int .i64 0)] 8 (.tmp 3) (.tmp 3), none, 0⟩, ⟨.alloc [(.slice none 0 0)], none, 0⟩, ⟨.store 1 (.loc 0) (.loc 1), none, 0⟩] [(9, (.loc 1))])
  (.seq (.region [⟨.mkslice [(.int .i64 0)] 8 (.tmp 3) (.tmp 3), none, 0⟩, ⟨.alloc [(.slice none 0 0)], none, 0⟩, ⟨.store 1 (.loc 0) (.loc 1), none, 0⟩] [(10, (.loc 1))])
  (.seq (.seq (.region [⟨.load none (.tmp 10), none, 0⟩, ⟨.len (.loc 0), none, 0⟩] [(22, (.loc 0)), (23, (.const (.int .i64 0)))])
   (.block 2 (.loop (.seq (.region [⟨.bin .lss (.tmp 23) (.tmp 22), none, 0⟩] [(24, (.loc 0))])
    (.seq (.cond (.tmp 24)
      (.skip)
      (.exit 2))
    (.seq (.block 3 (.seq (.region [] [(11, (.tmp 23))])
     (.region [⟨.load none (.tmp 10), none, 0⟩, ⟨.iaddr 1 (.loc 0) (.tmp 11), none, 0⟩, ⟨.store 1 (.loc 0) (.const (.int .i64 (-1))), none, 0⟩] [])))
    (.region [⟨.bin .add (.tmp 23) (.const (.int .i64 1)), none, 0⟩] [(23, (.loc 0))])))))))
  (.seq (.seq (.region [⟨.len (.tmp 8), none, 0⟩] [(25, (.tmp 8)), (26, (.loc 0)), (27, (.const (.int .i64 0)))])
   (.block 4 (.loop (.seq (.region [⟨.bin .lss (.tmp 27) (.tmp 26), none, 0⟩] [(28, (.loc 0))])
    (.seq (.cond (.tmp 28)
      (.skip)
      (.exit 4))
    (.seq (.block 5 (.seq (.region [⟨.iaddr 1 (.tmp 25) (.tmp 27), none, 0⟩, ⟨.load none (.loc 0), none, 0⟩] [(12, (.tmp 27)), (13, (.loc 0))])
     (.region [⟨.load none (.tmp 9), none, 0⟩, ⟨.iaddr 1 (.loc 0) (.tmp 13), none, 0⟩, ⟨.store 1 (.loc 0) (.tmp 12), none, 0⟩] [])))
    (.region [⟨.bin .add (.tmp 27) (.const (.int .i64 1)), none, 0⟩] [(27, (.loc 0))])))))))
  (.seq (.region [⟨.load none (.tmp 10), none, 0⟩, ⟨.bin .sub (.tmp 3) (.const (.int .i64 1)), none, 0⟩, ⟨.bin .sub (.tmp 3) (.const (.int .i64 1)), none, 0⟩, ⟨.iaddr 1 (.loc 2) (.loc 1), none, 0⟩, ⟨.store 1 (.loc 0) (.loc 1), none, 0⟩] [])
  (.seq (.region [⟨.mkfn 64 [] [(.tmp 9), (.tmp 10)], none, 0⟩] [(14, (.loc 0))])
  (.seq (.label 0)
  (.seq (.region [] [(15, (.const (.bool false)))])
  (.seq (.seq (.region [⟨.slice 1 (.tmp 8) (some (.const (.int .i64 1))) none none, none, 0⟩, ⟨.len (.loc 0), none, 0⟩] [(29, (.loc 1)), (30, (.loc 0)), (31, (.const (.int .i64 0)))])
   (.block 6 (.loop (.seq (.region [⟨.bin .lss (.tmp 31) (.tmp 30), none, 0⟩] [(32, (.loc 0))])
    (.seq (.cond (.tmp 32)
      (.skip)
      (.exit 6))
    (.seq (.block 7 (.seq (.region [⟨.iaddr 1 (.tmp 29) (.tmp 31), none, 0⟩, ⟨.load none (.loc 0), none, 0⟩] [(16, (.loc 0))])
     (.seq (.region [] [(17, (.const (.int .i64 (-1))))])
     (.seq (.seq (.region [⟨.load none (.tmp 5), none, 0⟩, ⟨.iaddr 1 (.loc 0) (.tmp 16), none, 0⟩, ⟨.load none (.loc 0), none, 0⟩, ⟨.len (.loc 0), none, 0⟩] [(33, (.loc 1)), (34, (.loc 0)), (35, (.const (.int .i64 0)))])
      (.block 8 (.loop (.seq (.region [⟨.bin .lss (.tmp 35) (.tmp 34), none, 0⟩] [(36, (.loc 0))])
       (.seq (.cond (.tmp 36)
         (.skip)
         (.exit 8))
       (.seq (.block 9 (.seq (.region [⟨.iaddr 1 (.tmp 33) (.tmp 35), none, 0⟩, ⟨.load none (.loc 0), none, 0⟩] [(18, (.loc 0))])
        (.block 10 (.seq (.region [⟨.load none (.tmp 10), none, 0⟩, ⟨.iaddr 1 (.loc 0) (.tmp 18), none, 0⟩, ⟨.load none (.loc 0), none, 0⟩, ⟨.bin .lss (.loc 0) (.const (.int .i64 0)), none, 0⟩] [(37, (.loc 0))])
        (.cond (.tmp 37)
         (.skip)
         (.seq (.region [⟨.bin .lss (.tmp 17) (.const (.int .i64 0)), none, 0⟩] [(38, (.loc 0))])
          (.cond (.tmp 38)
           (.region [] [(17, (.tmp 18))])
           (.region [⟨.call (.tmp 14) [(.tmp 17), (.tmp 18)], none, 0⟩] [(17, (.loc 0))]))))))))
       (.region [⟨.bin .add (.tmp 35) (.const (.int .i64 1)), none, 0⟩] [(35, (.loc 0))])))))))
     (.seq (.region [⟨.load none (.tmp 10), none, 0⟩, ⟨.iaddr 1 (.loc 0) (.tmp 16), none, 0⟩, ⟨.load none (.loc 0), none, 0⟩, ⟨.bin .neq (.tmp 17) (.loc 0), none, 0⟩] [(39, (.loc 0))])
     (.cond (.tmp 39)
      (.seq (.region [⟨.load none (.tmp 10), none, 0⟩, ⟨.iaddr 1 (.loc 0) (.tmp 16), none, 0⟩, ⟨.store 1 (.loc 0) (.tmp 17), none, 0⟩] [])
       (.region [] [(15, (.const (.bool true)))]))
      (.skip)))))))
    (.region [⟨.bin .add (.tmp 31) (.const (.int .i64 1)), none, 0⟩] [(31, (.loc 0))])))))))
  (.seq (.seq (.region [] [(40, (.tmp 15))])
   (.cond (.tmp 40)
    (.goto 0)
    (.skip)))
  (.seq (.region [⟨.load none (.tmp 10), none, 0⟩, ⟨.bin .sub (.tmp 3) (.const (.int .i64 1)), none, 0⟩, ⟨.iaddr 1 (.loc 1) (.loc 0), none, 0⟩, ⟨.store 1 (.loc 0) (.const (.int .i64 (-1))), none, 0⟩] [])
  (.seq (.region [⟨.load none (.tmp 10), none, 0⟩] [(2, (.loc 0))])
  (.ret))))))))))))))))))⟩
theorem c33_ok : compileFn Try.prog false 33 = some c33 := by kernel_rfl
/-- louver/post.Dominates -/
noncomputable def c37 : AFunc := ⟨[0, 1, 2, 3, 6, 7], [.tmp 4],
  .seq (.region [⟨.box (.tmp 0), none, 0⟩] [(3, (.loc 0)), (4, (.const (.bool false)))])
  (.seq (.region [⟨.faddr 5 (.tmp 3), none, 0⟩, ⟨.load none (.loc 0), none, 0⟩, ⟨.len (.loc 0), none, 0⟩] [(5, (.loc 0))])
  (.seq (.region [⟨.bin .geq (.tmp 1) (.const (.int .i64 0)), none, 0⟩, ⟨.mov (.tmp 1), (some ((.loc 0), true)), 0⟩, ⟨.mov (.tmp 5), (some ((.loc 1), true)), 0⟩, ⟨.bin .leq (.loc 1) (.loc 0), (some ((.loc 2), true)), 0⟩, ⟨.pick (.loc 3) (.loc 0) (.const (.bool false)), none, 0⟩, ⟨.mov (.tmp 2), (some ((.loc 0), true)), 0⟩, ⟨.bin .geq (.loc 0) (.const (.int .i64 0)), (some ((.loc 1), true)), 0⟩, ⟨.pick (.loc 2) (.loc 0) (.const (.bool false)), none, 0⟩, ⟨.mov (.tmp 2), (some ((.loc 0), true)), 0⟩, ⟨.mov (.tmp 5), (some ((.loc 1), true)), 0⟩, ⟨.bin .leq (.loc 1) (.loc 0), (some ((.loc 2), true)), 0⟩, ⟨.pick (.loc 3) (.loc 0) (.const (.bool false)), none, 0⟩, ⟨.load (some 6) (.tmp 3), (some ((.loc 0), true)), 0⟩, ⟨.call (.func 33) [(.loc 0)], (some ((.loc 1), true)), 0⟩, ⟨.mov (.tmp 1), (some ((.loc 2), true)), 0⟩, ⟨.mov (.tmp 2), (some ((.loc 3), true)), 0⟩, ⟨.call (.func 66) [(.loc 2), (.loc 1), (.loc 0)], (some ((.loc 4), true)), 0⟩, ⟨.pick (.loc 5) (.loc 0) (.const (.bool false)), none, 0⟩] [(4, (.loc 0))])
  (.ret)))⟩
theorem c37_ok : compileFn Try.prog false 37 = some c37 := by kernel_rfl
/-- louver/louverlaw15.given -/
noncomputable def c40 : AFunc := ⟨[0], [.cell 0 (some 6)],
  .seq (.region [⟨.alloc [(.int .u64 0), (.slice none 0 0), (.slice none 0 0), (.int .i64 0), (.int .i64 0), (.slice none 0 0)], none, 0⟩] [(0, (.loc 0))])
  (.seq (.region [⟨.mkarr 16 [(.int .i64 0), (.int .i64 0), (.int .i64 0), (.int .i64 0), (.int .i64 0), (.int .i64 0), (.int .i64 0), (.int .i64 0), (.int .i64 0), (.int .i64 0), (.int .i64 0), (.int .i64 0), (.int .i64 0), (.int .i64 0), (.int .i64 0), (.int .i64 0)] [(0, 1, (.const (.int .i64 44))), (1, 1, (.const (.int .i64 3))), (2, 1, (.const (.int .i64 42))), (3, 1, (.const (.int .i64 0))), (4, 1, (.const (.int .i64 43))), (5, 1, (.const (.int .i64 4))), (6, 1, (.const (.int .i64 42))), (7, 1, (.const (.int .i64 0))), (8, 1, (.const (.int .i64 44))), (9, 1, (.const (.int .i64 6))), (10, 1, (.const (.int .i64 46))), (11, 1, (.const (.int .i64 0))), (12, 1, (.const (.int .i64 46))), (13, 1, (.const (.int .i64 0))), (14, 1, (.const (.int .i64 43))), (15, 1, (.const (.int .i64 7)))], none, 0⟩, ⟨.call (.func 67) [(.loc 0)], none, 0⟩, ⟨.store 6 (.tmp 0) (.loc 0), none, 0⟩] [])
  (.ret))⟩
theorem c40_ok : compileFn Try.prog false 40 = some c40 := by kernel_rfl
/-- louver/graph.edges -/
noncomputable def c49 : AFunc := ⟨[0, 1, 2], [.tmp 2],
  .seq (.region [⟨.box (.tmp 0), none, 0⟩] [(1, (.loc 0)), (2, (.const .nilFunc))])
  (.seq (.region [⟨.mkfn 74 [] [(.tmp 1)], none, 0⟩] [(2, (.loc 0))])
  (.ret))⟩
theorem c49_ok : compileFn Try.prog false 49 = some c49 := by kernel_rfl
/-- slices.Clone[[]louver/api.Instr,louver/api.Instr] -/
noncomputable def c50 : AFunc := ⟨[0, 2, 4], [.tmp 1],
  .seq (.region [] [(1, (.const (.slice none 0 0)))])
  (.seq (.seq (.region [⟨.eqn 0 false (.tmp 0) (.const (.slice none 0 0)), none, 0⟩] [(2, (.loc 0))])
   (.cond (.tmp 2)
    (.seq (.region [] [(1, (.const (.slice none 0 0)))])
     (.ret))
    (.skip)))
  (.seq (.region [⟨.mkarr 0 [] [], none, 0⟩, ⟨.append false 2 16 (.loc 0) (.tmp 0), none, 0⟩] [(1, (.loc 0))])
  (.ret)))⟩
theorem c50_ok : compileFn Try.prog false 50 = some c50 := by kernel_rfl
/-- louver/graph.to -/
noncomputable def c51 : AFunc := ⟨[0, 1, 4, 5, 6, 7, 8, 9, 10, 20, 26, 33, 45, 61], [.cell 2 (some 2), .tmp 3],
  .seq (.region [⟨.alloc [(.int .i64 0), (.int .i64 0)], none, 0⟩] [(2, (.loc 0)), (3, (.const (.int .i64 0)))])
  (.seq (.region [⟨.alloc [(.int .i64 0), (.int .i64 0)], none, 0⟩] [(4, (.loc 0))])
  (.seq (.region [⟨.alloc [(.int .i64 0)], none, 0⟩, ⟨.store 1 (.loc 0) (.const (.int .i64 0)), none, 0⟩] [(5, (.loc 1))])
  (.seq (.region [⟨.mkfn 75 [] [(.tmp 5), (.tmp 4)], none, 0⟩] [(6, (.loc 0))])
  (.seq (.region [⟨.len (.tmp 0), none, 0⟩, ⟨.bin .sub (.loc 0) (.const (.int .i64 1)), none, 0⟩] [(7, (.loc 0))])
  (.seq (.seq (.region [⟨.iaddr 2 (.tmp 0) (.tmp 1), none, 0⟩, ⟨.load (some 2) (.loc 0), none, 0⟩, ⟨.alloc [(.int .i64 0), (.int .i64 0)], none, 0⟩, ⟨.store 2 (.loc 0) (.loc 1), none, 0⟩] [(8, (.loc 1))])
   (.seq (.region [⟨.faddr 0 (.tmp 8), none, 0⟩, ⟨.load none (.loc 0), none, 0⟩] [(9, (.loc 0))])
   (.block 0 (.seq (.region [⟨.bin .eql (.tmp 9) (.const (.int .i64 43)), none, 0⟩] [(10, (.loc 0))])
   (.cond (.tmp 10)
    (.region [⟨.faddr 1 (.tmp 8), none, 0⟩, ⟨.load none (.loc 0), none, 0⟩, ⟨.call (.tmp 6) [(.loc 0), (.tmp 7)], none, 0⟩] [])
    (.seq (.region [⟨.bin .eql (.tmp 9) (.const (.int .i64 44)), none, 0⟩] [(11, (.loc 0))])
     (.cond (.tmp 11)
      (.seq (.region [⟨.bin .add (.tmp 1) (.const (.int .i64 1)), none, 0⟩, ⟨.call (.tmp 6) [(.loc 0), (.tmp 7)], none, 0⟩] [])
       (.region [⟨.faddr 1 (.tmp 8), none, 0⟩, ⟨.load none (.loc 0), none, 0⟩, ⟨.call (.tmp 6) [(.loc 0), (.tmp 7)], none, 0⟩] []))
      (.seq (.region [⟨.bin .eql (.tmp 9) (.const (.int .i64 46)), none, 0⟩] [(12, (.loc 0))])
       (.cond (.tmp 12)
        (.region [⟨.bin .add (.tmp 7) (.const (.int .i64 1)), none, 0⟩, ⟨.bin .add (.tmp 7) (.const (.int .i64 1)), none, 0⟩, ⟨.call (.tmp 6) [(.loc 1), (.loc 0)], none, 0⟩] [])
        (.region [⟨.bin .add (.tmp 1) (.const (.int .i64 1)), none, 0⟩, ⟨.call (.tmp 6) [(.loc 0), (.tmp 7)], none, 0⟩] []))))))))))
  (.seq (.seq (.region [⟨.load none (.tmp 5), none, 0⟩, ⟨.bin .eql (.loc 0) (.const (.int .i64 2)), none, 0⟩, ⟨.iarr 2 1 (.tmp 4) (.const (.int .i64 0)), (some ((.loc 0), true)), 0⟩, ⟨.load none (.loc 0), (some ((.loc 1), true)), 0⟩, ⟨.iarr 2 1 (.tmp 4) (.const (.int .i64 1)), (some ((.loc 2), true)), 0⟩, ⟨.load none (.loc 0), (some ((.loc 3), true)), 0⟩, ⟨.bin .gtr (.loc 2) (.loc 0), (some ((.loc 4), true)), 0⟩, ⟨.pick (.loc 5) (.loc 0) (.const (.bool false)), none, 0⟩] [(13, (.loc 0))])
   (.cond (.tmp 13)
    (.region [⟨.iarr 2 1 (.tmp 4) (.const (.int .i64 1)), none, 0⟩, ⟨.load none (.loc 0), none, 0⟩, ⟨.iarr 2 1 (.tmp 4) (.const (.int .i64 0)), none, 0⟩, ⟨.load none (.loc 0), none, 0⟩, ⟨.iarr 2 1 (.tmp 4) (.const (.int .i64 0)), none, 0⟩, ⟨.store 1 (.loc 0) (.loc 3), none, 0⟩, ⟨.iarr 2 1 (.tmp 4) (.const (.int .i64 1)), none, 0⟩, ⟨.store 1 (.loc 0) (.loc 3), none, 0⟩] [])
    (.skip)))
  (.seq (.draw [⟨.load (some 2) (.tmp 4), none, 0⟩, ⟨.store 2 (.tmp 2) (.loc 0), none, 0⟩, ⟨.load none (.tmp 5), none, 0⟩] [(3, (.loc 0))])
  (.ret))))))))⟩
theorem c51_ok : compileFn Try.prog false 51 = some c51 := by kernel_rfl
/-- louver/post.order -/
noncomputable def c63 : AFunc := ⟨[0, 1, 4, 5, 6, 7, 8, 9, 22, 40, 77], [.tmp 2],
  .seq (.region [] [(2, (.const (.slice none 0 0)))])
  (.seq (.region [⟨.mkslice [(.bool false)] 1 (.tmp 0) (.tmp 0), none, 0⟩] [(3, (.loc 0))])
  (.seq (.region [] [(4, (.const (.slice none 0 0)))])
  (.seq (.region [⟨.bin .sub (.tmp 0) (.const (.int .i64 1)), none, 0⟩, ⟨.build [(.int .i64 0), (.int .i64 0)] [(0, 1, (.loc 0)), (1, 1, (.const (.int .i64 0)))], none, 0⟩, ⟨.mkarr 1 [(.int .i64 0), (.int .i64 0)] [(0, 2, (.loc 0))], none, 0⟩] [(5, (.loc 0))])
  (.seq (.region [⟨.bin .sub (.tmp 0) (.const (.int .i64 1)), none, 0⟩, ⟨.iaddr 1 (.tmp 3) (.loc 0), none, 0⟩, ⟨.store 1 (.loc 0) (.const (.bool true)), none, 0⟩] [])
  (.seq (.block 0 (.loop (.seq (.seq (.region [⟨.len (.tmp 5), none, 0⟩, ⟨.bin .gtr (.loc 0) (.const (.int .i64 0)), none, 0⟩] [(8, (.loc 0))])
     (.cond (.tmp 8)
      (.skip)
      (.exit 0)))
    (.block 1 (.seq (.region [⟨.len (.tmp 5), none, 0⟩, ⟨.bin .sub (.loc 0) (.const (.int .i64 1)), none, 0⟩, ⟨.iaddr 2 (.tmp 5) (.loc 0), none, 0⟩] [(6, (.loc 0))])
    (.seq (.seq (.draw [⟨.nilchk (.tmp 6), none, 0⟩, ⟨.faddr 1 (.loc 0), none, 0⟩, ⟨.load none (.loc 0), none, 0⟩, ⟨.nilchk (.tmp 6), none, 0⟩, ⟨.faddr 0 (.loc 0), none, 0⟩, ⟨.load none (.loc 0), none, 0⟩, ⟨.iaddr 1 (.tmp 1) (.loc 0), none, 0⟩, ⟨.load none (.loc 0), none, 0⟩, ⟨.len (.loc 0), none, 0⟩, ⟨.bin .eql (.loc 6) (.loc 0), none, 0⟩] [(9, (.loc 0))])
     (.cond (.tmp 9)
      (.seq (.region [⟨.nilchk (.tmp 6), none, 0⟩, ⟨.faddr 0 (.loc 0), none, 0⟩, ⟨.load none (.loc 0), none, 0⟩, ⟨.mkarr 1 [(.int .i64 0)] [(0, 1, (.loc 0))], none, 0⟩, ⟨.append false 1 8 (.tmp 4) (.loc 0), none, 0⟩] [(4, (.loc 0))])
       (.seq (.region [⟨.len (.tmp 5), none, 0⟩, ⟨.bin .sub (.loc 0) (.const (.int .i64 1)), none, 0⟩, ⟨.slice 2 (.tmp 5) none (some (.loc 0)) none, none, 0⟩] [(5, (.loc 0))])
       (.exit 1)))
      (.skip)))
    (.seq (.draw [⟨.nilchk (.tmp 6), none, 0⟩, ⟨.faddr 0 (.loc 0), none, 0⟩, ⟨.load none (.loc 0), none, 0⟩, ⟨.iaddr 1 (.tmp 1) (.loc 0), none, 0⟩, ⟨.load none (.loc 0), none, 0⟩, ⟨.nilchk (.tmp 6), none, 0⟩, ⟨.faddr 1 (.loc 0), none, 0⟩, ⟨.load none (.loc 0), none, 0⟩, ⟨.iaddr 1 (.loc 3) (.loc 0), none, 0⟩, ⟨.load none (.loc 0), none, 0⟩] [(7, (.loc 0))])
    (.seq (.region [⟨.nilchk (.tmp 6), none, 0⟩, ⟨.faddr 1 (.loc 0), none, 0⟩, ⟨.load none (.loc 0), none, 0⟩, ⟨.bin .add (.loc 0) (.const (.int .i64 1)), none, 0⟩, ⟨.nilchk (.tmp 6), none, 0⟩, ⟨.faddr 1 (.loc 0), none, 0⟩, ⟨.store 1 (.loc 0) (.loc 2), none, 0⟩] [])
    (.seq (.region [⟨.iaddr 1 (.tmp 3) (.tmp 7), none, 0⟩, ⟨.load none (.loc 0), none, 0⟩, ⟨.not (.loc 0), none, 0⟩] [(10, (.loc 0))])
    (.cond (.tmp 10)
     (.seq (.region [⟨.iaddr 1 (.tmp 3) (.tmp 7), none, 0⟩, ⟨.store 1 (.loc 0) (.const (.bool true)), none, 0⟩] [])
      (.region [⟨.build [(.int .i64 0), (.int .i64 0)] [(0, 1, (.tmp 7)), (1, 1, (.const (.int .i64 0)))], none, 0⟩, ⟨.mkarr 1 [(.int .i64 0), (.int .i64 0)] [(0, 2, (.loc 0))], none, 0⟩, ⟨.append false 2 16 (.tmp 5) (.loc 0), none, 0⟩] [(5, (.loc 0))]))
     (.skip)))))))))))
  (.seq (.region [⟨.call (.func 78) [(.tmp 4)], none, 0⟩] [])
  (.seq (.region [] [(2, (.tmp 4))])
  (.ret))))))))⟩
theorem c63_ok : compileFn Try.prog false 63 = some c63 := by kernel_rfl
/-- louver/post.Tree$1 -/
noncomputable def c64 : AFunc := ⟨[0, 1, 2, 3, 6, 9, 18, 31], [.tmp 4],
  .seq (.region [] [(4, (.const (.int .i64 0)))])
  (.seq (.block 0 (.loop (.seq (.seq (.region [⟨.bin .neq (.tmp 0) (.tmp 1), none, 0⟩] [(5, (.loc 0))])
     (.cond (.tmp 5)
      (.skip)
      (.exit 0)))
    (.block 1 (.seq (.block 2 (.loop (.seq (.seq (.draw [⟨.load none (.tmp 2), none, 0⟩, ⟨.iaddr 1 (.loc 0) (.tmp 0), none, 0⟩, ⟨.load none (.loc 0), none, 0⟩, ⟨.load none (.tmp 2), none, 0⟩, ⟨.iaddr 1 (.loc 0) (.tmp 1), none, 0⟩, ⟨.load none (.loc 0), none, 0⟩, ⟨.bin .gtr (.loc 3) (.loc 0), none, 0⟩] [(6, (.loc 0))])
       (.cond (.tmp 6)
        (.skip)
        (.exit 2)))
      (.block 3 (.region [⟨.load none (.tmp 3), none, 0⟩, ⟨.iaddr 1 (.loc 0) (.tmp 0), none, 0⟩, ⟨.load none (.loc 0), none, 0⟩] [(0, (.loc 0))])))))
    (.block 4 (.loop (.seq (.seq (.draw [⟨.load none (.tmp 2), none, 0⟩, ⟨.iaddr 1 (.loc 0) (.tmp 1), none, 0⟩, ⟨.load none (.loc 0), none, 0⟩, ⟨.load none (.tmp 2), none, 0⟩, ⟨.iaddr 1 (.loc 0) (.tmp 0), none, 0⟩, ⟨.load none (.loc 0), none, 0⟩, ⟨.bin .gtr (.loc 3) (.loc 0), none, 0⟩] [(7, (.loc 0))])
      (.cond (.tmp 7)
       (.skip)
       (.exit 4)))
     (.block 5 (.region [⟨.load none (.tmp 3), none, 0⟩, ⟨.iaddr 1 (.loc 0) (.tmp 1), none, 0⟩, ⟨.load none (.loc 0), none, 0⟩] [(1, (.loc 0))]))))))))))
  (.seq (.region [] [(4, (.tmp 0))])
  (.ret)))⟩
theorem c64_ok : compileFn Try.prog false 64 = some c64 := by kernel_rfl
/-- louver/post.above -/
noncomputable def c66 : AFunc := ⟨[0, 1, 2, 6, 18, 25], [.tmp 3],
  .seq (.region [] [(3, (.const (.bool false)))])
  (.seq (.seq (.region [⟨.len (.tmp 0), none, 0⟩, ⟨.bin .sub (.loc 0) (.const (.int .i64 1)), none, 0⟩, ⟨.bin .neq (.tmp 2) (.loc 0), none, 0⟩, ⟨.mov (.tmp 0), (some ((.loc 0), true)), 0⟩, ⟨.mov (.tmp 2), (some ((.loc 1), true)), 0⟩, ⟨.iaddr 1 (.loc 1) (.loc 0), (some ((.loc 2), true)), 0⟩, ⟨.load none (.loc 0), (some ((.loc 3), true)), 0⟩, ⟨.bin .lss (.loc 0) (.const (.int .i64 0)), (some ((.loc 4), true)), 0⟩, ⟨.pick (.loc 5) (.loc 0) (.const (.bool false)), none, 0⟩] [(4, (.loc 0))])
   (.cond (.tmp 4)
    (.seq (.region [] [(3, (.const (.bool false)))])
     (.ret))
    (.skip)))
  (.seq (.block 0 (.loop (.seq (.seq (.region [⟨.bin .geq (.tmp 2) (.const (.int .i64 0)), none, 0⟩, ⟨.mov (.tmp 2), (some ((.loc 0), true)), 0⟩, ⟨.mov (.tmp 1), (some ((.loc 1), true)), 0⟩, ⟨.bin .neq (.loc 1) (.loc 0), (some ((.loc 2), true)), 0⟩, ⟨.pick (.loc 3) (.loc 0) (.const (.bool false)), none, 0⟩] [(5, (.loc 0))])
     (.cond (.tmp 5)
      (.skip)
      (.exit 0)))
    (.block 1 (.region [⟨.iaddr 1 (.tmp 0) (.tmp 2), none, 0⟩, ⟨.load none (.loc 0), none, 0⟩] [(2, (.loc 0))])))))
  (.seq (.region [⟨.bin .eql (.tmp 2) (.tmp 1), none, 0⟩] [(3, (.loc 0))])
  (.ret))))⟩
theorem c66_ok : compileFn Try.prog false 66 = some c66 := by kernel_rfl
/-- louver/louverlaw15.code -/
noncomputable def c67 : AFunc := ⟨[0, 2, 3, 4, 9], [.cell 1 (some 6)],
  .seq (.region [⟨.alloc [(.int .u64 0), (.slice none 0 0), (.slice none 0 0), (.int .i64 0), (.int .i64 0), (.slice none 0 0)], none, 0⟩] [(1, (.loc 0))])
  (.seq (.region [⟨.alloc [(.int .u64 0), (.slice none 0 0), (.slice none 0 0), (.int .i64 0), (.int .i64 0), (.slice none 0 0)], none, 0⟩] [(2, (.loc 0))])
  (.seq (.seq (.region [] [(3, (.const (.int .i64 0)))])
   (.block 0 (.loop (.seq (.seq (.region [⟨.bin .add (.tmp 3) (.const (.int .i64 1)), none, 0⟩, ⟨.len (.tmp 0), none, 0⟩, ⟨.bin .lss (.loc 1) (.loc 0), none, 0⟩] [(4, (.loc 0))])
     (.cond (.tmp 4)
      (.skip)
      (.exit 0)))
    (.seq (.block 1 (.draw [⟨.faddr 5 (.tmp 2), none, 0⟩, ⟨.load none (.loc 0), none, 0⟩, ⟨.iaddr 1 (.tmp 0) (.tmp 3), none, 0⟩, ⟨.load none (.loc 0), none, 0⟩, ⟨.bin .add (.tmp 3) (.const (.int .i64 1)), none, 0⟩, ⟨.iaddr 1 (.tmp 0) (.loc 0), none, 0⟩, ⟨.load none (.loc 0), none, 0⟩, ⟨.build [(.int .i64 0), (.int .i64 0)] [(0, 1, (.loc 3)), (1, 1, (.loc 0))], none, 0⟩, ⟨.mkarr 1 [(.int .i64 0), (.int .i64 0)] [(0, 2, (.loc 0))], none, 0⟩, ⟨.append false 2 16 (.loc 7) (.loc 0), none, 0⟩, ⟨.faddr 5 (.tmp 2), none, 1⟩, ⟨.store 1 (.loc 0) (.loc 1), none, 1⟩] []))
    (.region [⟨.bin .add (.tmp 3) (.const (.int .i64 2)), none, 0⟩] [(3, (.loc 0))]))))))
  (.seq (.region [⟨.load (some 6) (.tmp 2), none, 0⟩, ⟨.store 6 (.tmp 1) (.loc 0), none, 0⟩] [])
  (.ret))))⟩
theorem c67_ok : compileFn Try.prog false 67 = some c67 := by kernel_rfl
/-- louver/graph.edges$1 -/
noncomputable def c74 : AFunc := ⟨[0, 1, 3, 4, 5, 7, 9, 10, 11, 20, 21, 22, 23, 30], [],
  .seq (.region [⟨.load none (.tmp 1), none, 0⟩, ⟨.len (.loc 0), none, 0⟩] [(6, (.loc 0)), (7, (.const (.int .i64 0)))])
  (.block 0 (.loop (.seq (.region [⟨.bin .lss (.tmp 7) (.tmp 6), none, 0⟩] [(8, (.loc 0))])
   (.seq (.cond (.tmp 8)
     (.skip)
     (.exit 0))
   (.seq (.block 1 (.seq (.region [] [(2, (.tmp 7))])
    (.seq (.region [⟨.load none (.tmp 1), none, 0⟩, ⟨.call (.func 51) [(.loc 0), (.tmp 2)], none, 0⟩, ⟨.ext (.loc 0) 0, none, 0⟩, ⟨.ext (.loc 1) 1, none, 0⟩, ⟨.alloc [(.int .i64 0), (.int .i64 0)], none, 0⟩, ⟨.store 2 (.loc 0) (.loc 2), none, 0⟩] [(3, (.loc 1)), (4, (.loc 2))])
    (.seq (.region [⟨.slarr 2 1 (.tmp 3) none (some (.tmp 4)) none, none, 0⟩, ⟨.len (.loc 0), none, 0⟩] [(9, (.loc 1)), (10, (.loc 0)), (11, (.const (.int .i64 0)))])
    (.block 2 (.loop (.seq (.region [⟨.bin .lss (.tmp 11) (.tmp 10), none, 0⟩] [(12, (.loc 0))])
     (.seq (.cond (.tmp 12)
       (.skip)
       (.exit 2))
     (.seq (.block 3 (.seq (.region [⟨.iaddr 1 (.tmp 9) (.tmp 11), none, 0⟩, ⟨.load none (.loc 0), none, 0⟩] [(5, (.loc 0))])
      (.seq (.region [⟨.call (.tmp 0) [(.tmp 2), (.tmp 5)], none, 0⟩, ⟨.not (.loc 0), none, 0⟩] [(13, (.loc 0))])
      (.cond (.tmp 13)
       (.ret)
       (.skip)))))
     (.region [⟨.bin .add (.tmp 11) (.const (.int .i64 1)), none, 0⟩] [(11, (.loc 0))]))))))))))
   (.region [⟨.bin .add (.tmp 7) (.const (.int .i64 1)), none, 0⟩] [(7, (.loc 0))]))))))⟩
theorem c74_ok : compileFn Try.prog false 74 = some c74 := by kernel_rfl
/-- louver/graph.to$1 -/
noncomputable def c75 : AFunc := ⟨[0, 1, 2, 3, 22], [],
  .seq (.region [⟨.bin .geq (.tmp 0) (.const (.int .i64 0)), none, 0⟩, ⟨.mov (.tmp 0), (some ((.loc 0), true)), 0⟩, ⟨.mov (.tmp 1), (some ((.loc 1), true)), 0⟩, ⟨.bin .leq (.loc 1) (.loc 0), (some ((.loc 2), true)), 0⟩, ⟨.pick (.loc 3) (.loc 0) (.const (.bool false)), none, 0⟩, ⟨.load none (.tmp 2), (some ((.loc 0), true)), 0⟩, ⟨.bin .eql (.loc 0) (.const (.int .i64 0)), (some ((.loc 1), true)), 0⟩, ⟨.mov (.loc 0), (some ((.loc 2), true)), 0⟩, ⟨.iarr 2 1 (.tmp 3) (.const (.int .i64 0)), (some ((.loc 0), false)), 0⟩, ⟨.load none (.loc 0), (some ((.loc 1), false)), 0⟩, ⟨.mov (.tmp 0), (some ((.loc 2), false)), 0⟩, ⟨.bin .neq (.loc 1) (.loc 0), (some ((.loc 3), false)), 0⟩, ⟨.pick (.loc 4) (.const (.bool true)) (.loc 0), (some ((.loc 7), true)), 0⟩, ⟨.pick (.loc 8) (.loc 0) (.const (.bool false)), none, 0⟩] [(4, (.loc 0))])
  (.cond (.tmp 4)
   (.seq (.region [⟨.load none (.tmp 2), none, 0⟩, ⟨.iarr 2 1 (.tmp 3) (.loc 0), none, 0⟩, ⟨.store 1 (.loc 0) (.tmp 0), none, 0⟩] [])
    (.region [⟨.load none (.tmp 2), none, 0⟩, ⟨.bin .add (.loc 0) (.const (.int .i64 1)), none, 0⟩, ⟨.store 1 (.tmp 2) (.loc 0), none, 0⟩] []))
   (.skip))⟩
theorem c75_ok : compileFn Try.prog false 75 = some c75 := by kernel_rfl
/-- slices.Reverse[[]int,int] -/
noncomputable def c78 : AFunc := ⟨[0, 2, 3, 9], [],
  .seq (.region [⟨.len (.tmp 0), none, 0⟩, ⟨.bin .sub (.loc 0) (.const (.int .i64 1)), none, 0⟩] [(1, (.const (.int .i64 0))), (2, (.loc 0))])
  (.block 0 (.loop (.seq (.seq (.region [⟨.bin .lss (.tmp 1) (.tmp 2), none, 0⟩] [(3, (.loc 0))])
    (.cond (.tmp 3)
     (.skip)
     (.exit 0)))
   (.seq (.block 1 (.draw [⟨.iaddr 1 (.tmp 0) (.tmp 2), none, 0⟩, ⟨.load none (.loc 0), none, 0⟩, ⟨.iaddr 1 (.tmp 0) (.tmp 1), none, 0⟩, ⟨.load none (.loc 0), none, 0⟩, ⟨.iaddr 1 (.tmp 0) (.tmp 1), none, 0⟩, ⟨.store 1 (.loc 0) (.loc 3), none, 0⟩, ⟨.iaddr 1 (.tmp 0) (.tmp 2), none, 1⟩, ⟨.store 1 (.loc 0) (.loc 3), none, 1⟩] []))
   (.region [⟨.bin .add (.tmp 1) (.const (.int .i64 1)), none, 0⟩, ⟨.bin .sub (.tmp 2) (.const (.int .i64 1)), none, 0⟩] [(1, (.loc 1)), (2, (.loc 0))])))))⟩
theorem c78_ok : compileFn Try.prog false 78 = some c78 := by kernel_rfl
noncomputable def list : List (Option AFunc) := [none, none, none, none, none, none, none, none, none, none, none, none, none, none, some c14, none, some c16, none, none, none, none, none, none, none, none, none, none, none, none, none, some c30, none, none, some c33, none, none, none, some c37, none, none, some c40, none, none, none, none, none, none, none, none, some c49, some c50, some c51, none, none, none, none, none, none, none, none, none, none, none, some c63, some c64, none, some c66, some c67, none, none, none, none, none, none, some c74, some c75, none, none, some c78]
noncomputable def fns : TV (Option AFunc) := Vec.ofList list
noncomputable def ext (f : FuncId) (args : List Value) (H : AH TV) : Option (Value × AH TV) := none
noncomputable def E : Env TV := { P := Try.prog, fn := fun f => (Vec.get fns f).getD none, ext := ext }
theorem all_ok : OkFrom Try.prog 0 list := ⟨⟨false, c14_ok⟩, ⟨⟨false, c16_ok⟩, ⟨⟨false, c30_ok⟩, ⟨⟨false, c33_ok⟩, ⟨⟨false, c37_ok⟩, ⟨⟨false, c40_ok⟩, ⟨⟨false, c49_ok⟩, ⟨⟨false, c50_ok⟩, ⟨⟨false, c51_ok⟩, ⟨⟨false, c63_ok⟩, ⟨⟨false, c64_ok⟩, ⟨⟨false, c66_ok⟩, ⟨⟨false, c67_ok⟩, ⟨⟨false, c74_ok⟩, ⟨⟨false, c75_ok⟩, ⟨⟨false, c78_ok⟩, trivial⟩⟩⟩⟩⟩⟩⟩⟩⟩⟩⟩⟩⟩⟩⟩⟩
theorem ext_ok (f : FuncId) (args : List Value) (H : AH TV) (v : Value) (H' : AH TV) (h : ext f args H = some (v, H')) : CallsOk Try.prog f args H v H' := by
  unfold ext at h
  cases h
theorem env_ok : EnvOk E := ⟨fun f fn h => fn_of all_ok h, ext_ok, draw_ok (by kernel_rfl)⟩
end Go.Proofs.Ytdbehmepikhghaa.PostAwake
