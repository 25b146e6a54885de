/- The functions that louver/louverlaw17.known reaches, compiled; that each is what 'compileFn' comes to. PRINTED by code.py. -/
import Derived.Test.YtollibkfagjnaaaAMb
import Derived.Test.YtollibkfagjnaaaFrIns
import Derived.Test.YtollibkfagjnaaaProg
import Derived.KernelRfl
set_option linter.unusedVariables false
set_option maxRecDepth 100000
namespace Go.Proofs.Ytollibkfagjnaaa.FrameAwake
open Go.Proofs.Ytollibkfagjnaaa.AM
/-- louver/frame.Step -/
noncomputable def c15 : AFunc := ⟨[0, 1, 2, 3, 4, 5, 8, 10, 11, 12, 13, 14, 15, 16, 17, 43, 80], [.cell 7 (some 2), .tmp 8, .tmp 9],
  .seq (.region [⟨.box (.tmp 0), none, 0⟩, ⟨.box (.tmp 3), none, 0⟩, ⟨.alloc [(.slice none 0 0), (.slice none 0 0)], none, 0⟩] [(5, (.loc 2)), (6, (.loc 1)), (7, (.loc 0)), (8, (.const (.int .u64 0))), (9, (.const (.bool false)))])
  (.seq (.seq (.draw [⟨.load (some 4) (.tmp 5), none, 0⟩, ⟨.call (.func 52) [(.loc 0), (.tmp 1), (.tmp 2)], none, 0⟩, ⟨.not (.loc 0), none, 1⟩, ⟨.load (some 4) (.tmp 5), (some ((.loc 0), false)), 1⟩, ⟨.mov (.tmp 1), (some ((.loc 1), false)), 1⟩, ⟨.call (.func 53) [(.loc 1), (.loc 0)], (some ((.loc 2), false)), 1⟩, ⟨.faddr 1 (.tmp 6), (some ((.loc 3), false)), 1⟩, ⟨.load none (.loc 0), (some ((.loc 4), false)), 1⟩, ⟨.len (.loc 0), (some ((.loc 5), false)), 1⟩, ⟨.bin .neq (.loc 0) (.loc 3), (some ((.loc 6), false)), 2⟩, ⟨.pick (.loc 7) (.const (.bool true)) (.loc 0), none, 2⟩, ⟨.faddr 0 (.tmp 6), (some ((.loc 0), false)), 2⟩, ⟨.load none (.loc 0), (some ((.loc 1), false)), 2⟩, ⟨.len (.loc 0), (some ((.loc 2), false)), 2⟩, ⟨.faddr 3 (.tmp 5), (some ((.loc 3), false)), 2⟩, ⟨.load none (.loc 0), (some ((.loc 4), false)), 2⟩, ⟨.mov (.tmp 1), (some ((.loc 5), false)), 2⟩, ⟨.iaddr 6 (.loc 1) (.loc 0), (some ((.loc 6), false)), 2⟩, ⟨.faddr 4 (.loc 0), (some ((.loc 7), false)), 2⟩, ⟨.load none (.loc 0), (some ((.loc 8), false)), 2⟩, ⟨.bin .gtr (.loc 6) (.loc 0), (some ((.loc 9), false)), 2⟩, ⟨.pick (.loc 10) (.const (.bool true)) (.loc 0), none, 2⟩] [(15, (.loc 0))])
   (.cond (.tmp 15)
    (.seq (.region [⟨.build [(.slice none 0 0), (.slice none 0 0)] [], none, 0⟩, ⟨.store 2 (.tmp 7) (.loc 0), none, 0⟩] [(8, (.const (.int .u64 0))), (9, (.const (.bool false)))])
     (.ret))
    (.skip)))
  (.seq (.region [⟨.faddr 3 (.tmp 5), none, 0⟩, ⟨.load none (.loc 0), none, 0⟩, ⟨.iaddr 6 (.loc 0) (.tmp 1), none, 0⟩, ⟨.faddr 5 (.loc 0), none, 0⟩, ⟨.load none (.loc 0), none, 0⟩, ⟨.iaddr 2 (.loc 0) (.tmp 2), none, 0⟩, ⟨.load (some 2) (.loc 0), none, 0⟩, ⟨.alloc [(.int .i64 0), (.int .i64 0)], none, 0⟩, ⟨.store 2 (.loc 0) (.loc 1), none, 0⟩] [(10, (.loc 1))])
  (.seq (.region [⟨.load (some 4) (.tmp 5), none, 0⟩, ⟨.load (some 2) (.tmp 10), none, 0⟩, ⟨.call (.func 54) [(.loc 1), (.tmp 1), (.loc 0)], none, 0⟩, ⟨.ext (.loc 0) 0, none, 0⟩, ⟨.ext (.loc 1) 1, none, 0⟩] [(11, (.loc 1)), (12, (.loc 0))])
  (.seq (.seq (.region [⟨.faddr 0 (.tmp 6), none, 0⟩, ⟨.load none (.loc 0), none, 0⟩, ⟨.len (.loc 0), none, 0⟩] [(13, (.loc 0))])
   (.seq (.region [⟨.bin .lss (.tmp 13) (.tmp 11), none, 0⟩, ⟨.mov (.tmp 13), (some ((.loc 0), false)), 0⟩, ⟨.mov (.tmp 11), (some ((.loc 1), false)), 0⟩, ⟨.bin .sub (.loc 1) (.loc 0), (some ((.loc 2), false)), 0⟩, ⟨.mov (.tmp 12), (some ((.loc 3), false)), 0⟩, ⟨.bin .add (.loc 1) (.loc 0), (some ((.loc 4), false)), 0⟩, ⟨.faddr 3 (.tmp 5), (some ((.loc 5), false)), 0⟩, ⟨.load none (.loc 0), (some ((.loc 6), false)), 0⟩, ⟨.mov (.tmp 1), (some ((.loc 7), false)), 0⟩, ⟨.iaddr 6 (.loc 1) (.loc 0), (some ((.loc 8), false)), 0⟩, ⟨.faddr 4 (.loc 0), (some ((.loc 9), false)), 0⟩, ⟨.load none (.loc 0), (some ((.loc 10), false)), 0⟩, ⟨.bin .gtr (.loc 6) (.loc 0), (some ((.loc 11), false)), 0⟩, ⟨.pick (.loc 12) (.const (.bool true)) (.loc 0), none, 0⟩] [(16, (.loc 0))])
   (.cond (.tmp 16)
    (.seq (.region [⟨.build [(.slice none 0 0), (.slice none 0 0)] [], none, 0⟩, ⟨.store 2 (.tmp 7) (.loc 0), none, 0⟩] [(8, (.const (.int .u64 0))), (9, (.const (.bool false)))])
     (.ret))
    (.skip))))
  (.seq (.draw [⟨.faddr 0 (.tmp 6), none, 0⟩, ⟨.load none (.loc 0), none, 0⟩, ⟨.call (.func 55) [(.loc 0)], none, 0⟩, ⟨.faddr 1 (.tmp 6), none, 0⟩, ⟨.load none (.loc 0), none, 0⟩, ⟨.call (.func 55) [(.loc 0)], none, 1⟩, ⟨.build [(.slice none 0 0), (.slice none 0 0)] [(0, 1, (.loc 3)), (1, 1, (.loc 0))], none, 2⟩, ⟨.build [(.slice none 0 0), (.slice none 0 0), (.int .u64 0), (.bool false)] [(0, 2, (.loc 0)), (2, 1, (.tmp 4)), (3, 1, (.const (.bool true)))], none, 2⟩, ⟨.box (.loc 0), none, 2⟩] [(14, (.loc 0))])
  (.seq (.region [⟨.load (some 4) (.tmp 5), none, 0⟩, ⟨.load (some 2) (.tmp 10), none, 0⟩, ⟨.call (.func 56) [(.tmp 14), (.loc 1), (.tmp 1), (.loc 0)], none, 0⟩] [(8, (.loc 0))])
  (.seq (.draw [⟨.nilchk (.tmp 14), none, 0⟩, ⟨.faddr 0 (.loc 0), none, 0⟩, ⟨.load (some 2) (.loc 0), none, 0⟩, ⟨.store 2 (.tmp 7) (.loc 0), none, 0⟩, ⟨.nilchk (.tmp 14), none, 0⟩, ⟨.faddr 3 (.loc 0), none, 0⟩, ⟨.load none (.loc 0), none, 0⟩] [(9, (.loc 0))])
  (.ret))))))))⟩
theorem c15_ok : compileFn Try.prog false 15 = some c15 := by kernel_rfl
/-- louver/frame.Heights -/
noncomputable def c20 : AFunc := ⟨[0, 1, 2, 4, 5, 6, 7, 8, 9, 10, 11, 12, 13, 14, 16, 17, 23, 33, 51, 76, 83, 88, 106, 107, 108, 109, 112, 122, 143, 152], [.tmp 3, .cell 4 (some 3)],
  .seq (.region [⟨.box (.tmp 0), none, 0⟩, ⟨.alloc [(.int .i64 0), (.int .i64 0), (.int .i64 0)], none, 0⟩] [(2, (.loc 1)), (3, (.const (.slice none 0 0))), (4, (.loc 0))])
  (.seq (.seq (.region [⟨.load (some 4) (.tmp 2), none, 0⟩, ⟨.call (.func 60) [(.loc 0)], none, 0⟩, ⟨.alloc [(.int .i64 0), (.int .i64 0), (.int .i64 0)], none, 0⟩, ⟨.store 3 (.loc 0) (.loc 1), none, 0⟩] [(5, (.loc 1))])
   (.seq (.region [⟨.faddr 0 (.tmp 5), none, 0⟩, ⟨.load none (.loc 0), none, 0⟩, ⟨.bin .neq (.loc 0) (.const (.int .i64 0)), none, 0⟩] [(16, (.loc 0))])
   (.cond (.tmp 16)
    (.seq (.draw [⟨.load (some 3) (.tmp 5), none, 0⟩, ⟨.store 3 (.tmp 4) (.loc 0), none, 0⟩] [(3, (.const (.slice none 0 0)))])
     (.ret))
    (.skip))))
  (.seq (.seq (.region [⟨.bin .lss (.tmp 1) (.const (.int .i64 0)), none, 0⟩, ⟨.mov (.tmp 1), (some ((.loc 0), false)), 0⟩, ⟨.faddr 3 (.tmp 2), (some ((.loc 1), false)), 0⟩, ⟨.load none (.loc 0), (some ((.loc 2), false)), 0⟩, ⟨.len (.loc 0), (some ((.loc 3), false)), 0⟩, ⟨.bin .geq (.loc 3) (.loc 0), (some ((.loc 4), false)), 0⟩, ⟨.pick (.loc 5) (.const (.bool true)) (.loc 0), none, 0⟩] [(17, (.loc 0))])
   (.cond (.tmp 17)
    (.seq (.region [⟨.build [(.int .i64 0), (.int .i64 0), (.int .i64 0)] [(0, 1, (.const (.int .i64 1))), (1, 1, (.tmp 1))], none, 0⟩, ⟨.store 3 (.tmp 4) (.loc 0), none, 0⟩] [(3, (.const (.slice none 0 0)))])
     (.ret))
    (.skip)))
  (.seq (.region [⟨.faddr 3 (.tmp 2), none, 0⟩, ⟨.load none (.loc 0), none, 0⟩, ⟨.iaddr 6 (.loc 0) (.tmp 1), none, 0⟩, ⟨.load (some 6) (.loc 0), none, 0⟩, ⟨.alloc [(.int .u64 0), (.slice none 0 0), (.slice none 0 0), (.int .i64 0), (.int .i64 0), (.slice none 0 0)], none, 0⟩, ⟨.store 6 (.loc 0) (.loc 1), none, 0⟩] [(6, (.loc 1))])
  (.seq (.region [⟨.mkarr 1 [(.int .i64 0)] [(0, 1, (.const (.int .i64 (-1))))], none, 0⟩, ⟨.faddr 5 (.tmp 6), none, 0⟩, ⟨.load none (.loc 0), none, 0⟩, ⟨.len (.loc 0), none, 0⟩, ⟨.call (.func 61) [(.loc 3), (.loc 0)], none, 0⟩] [(7, (.loc 0))])
  (.seq (.region [⟨.iaddr 1 (.tmp 7) (.const (.int .i64 0)), none, 0⟩, ⟨.store 1 (.loc 0) (.const (.int .i64 0)), none, 0⟩] [])
  (.seq (.seq (.region [⟨.mkarr 1 [(.int .i64 0)] [(0, 1, (.const (.int .i64 0)))], none, 0⟩] [(8, (.loc 0))])
   (.block 0 (.loop (.seq (.seq (.region [⟨.len (.tmp 8), none, 0⟩, ⟨.bin .gtr (.loc 0) (.const (.int .i64 0)), none, 0⟩] [(18, (.loc 0))])
     (.cond (.tmp 18)
      (.skip)
      (.exit 0)))
    (.block 1 (.seq (.region [⟨.iaddr 1 (.tmp 8) (.const (.int .i64 0)), none, 0⟩, ⟨.load none (.loc 0), none, 0⟩] [(9, (.loc 0))])
    (.seq (.region [⟨.slice 1 (.tmp 8) (some (.const (.int .i64 1))) none none, none, 0⟩] [(8, (.loc 0))])
    (.seq (.draw [⟨.load (some 4) (.tmp 2), none, 0⟩, ⟨.faddr 5 (.tmp 6), none, 0⟩, ⟨.load none (.loc 0), none, 0⟩, ⟨.iaddr 2 (.loc 0) (.tmp 9), none, 0⟩, ⟨.load (some 2) (.loc 0), none, 0⟩, ⟨.call (.func 54) [(.loc 4), (.tmp 1), (.loc 0)], none, 0⟩, ⟨.ext (.loc 0) 0, none, 1⟩, ⟨.ext (.loc 1) 1, none, 1⟩] [(10, (.loc 1)), (11, (.loc 0))])
    (.seq (.region [⟨.iaddr 1 (.tmp 7) (.tmp 9), none, 0⟩, ⟨.load none (.loc 0), none, 0⟩, ⟨.bin .sub (.loc 0) (.tmp 10), none, 0⟩, ⟨.bin .add (.loc 0) (.tmp 11), none, 0⟩] [(12, (.loc 0))])
    (.seq (.region [] [(13, (.const (.int .i64 0)))])
    (.seq (.block 2 (.seq (.region [⟨.iaddr 1 (.tmp 7) (.tmp 9), none, 0⟩, ⟨.load none (.loc 0), none, 0⟩, ⟨.bin .lss (.loc 0) (.tmp 10), none, 0⟩] [(19, (.loc 0))])
     (.cond (.tmp 19)
      (.region [] [(13, (.const (.int .i64 172)))])
      (.seq (.region [⟨.faddr 4 (.tmp 6), none, 0⟩, ⟨.load none (.loc 0), none, 0⟩, ⟨.bin .gtr (.tmp 12) (.loc 0), none, 0⟩] [(20, (.loc 0))])
       (.cond (.tmp 20)
        (.region [] [(13, (.const (.int .i64 171)))])
        (.seq (.region [⟨.faddr 5 (.tmp 6), none, 0⟩, ⟨.load none (.loc 0), none, 0⟩, ⟨.iaddr 2 (.loc 0) (.tmp 9), none, 0⟩, ⟨.faddr 0 (.loc 0), none, 0⟩, ⟨.load none (.loc 0), none, 0⟩, ⟨.bin .eql (.loc 0) (.const (.int .i64 46)), none, 0⟩, ⟨.mov (.tmp 7), (some ((.loc 0), true)), 0⟩, ⟨.mov (.tmp 9), (some ((.loc 1), true)), 0⟩, ⟨.iaddr 1 (.loc 1) (.loc 0), (some ((.loc 2), true)), 0⟩, ⟨.load none (.loc 0), (some ((.loc 3), true)), 0⟩, ⟨.mov (.tmp 10), (some ((.loc 4), true)), 0⟩, ⟨.bin .neq (.loc 1) (.loc 0), (some ((.loc 5), true)), 0⟩, ⟨.pick (.loc 6) (.loc 0) (.const (.bool false)), none, 0⟩] [(21, (.loc 0))])
         (.cond (.tmp 21)
          (.region [] [(13, (.const (.int .i64 170)))])
          (.skip))))))))
    (.seq (.seq (.region [⟨.load (some 6) (.tmp 6), none, 0⟩, ⟨.call (.func 32) [(.loc 0), (.tmp 9)], none, 0⟩, ⟨.len (.loc 0), none, 0⟩] [(22, (.loc 1)), (23, (.loc 0)), (24, (.const (.int .i64 0)))])
     (.block 3 (.loop (.seq (.region [⟨.bin .lss (.tmp 24) (.tmp 23), none, 0⟩] [(25, (.loc 0))])
      (.seq (.cond (.tmp 25)
        (.skip)
        (.exit 3))
      (.seq (.block 4 (.seq (.region [⟨.iaddr 1 (.tmp 22) (.tmp 24), none, 0⟩, ⟨.load none (.loc 0), none, 0⟩] [(14, (.loc 0))])
       (.block 5 (.seq (.region [⟨.faddr 5 (.tmp 6), none, 0⟩, ⟨.load none (.loc 0), none, 0⟩, ⟨.len (.loc 0), none, 0⟩, ⟨.bin .eql (.tmp 14) (.loc 0), none, 0⟩, ⟨.mov (.tmp 13), (some ((.loc 0), false)), 0⟩, ⟨.bin .neq (.loc 0) (.const (.int .i64 0)), (some ((.loc 1), false)), 0⟩, ⟨.pick (.loc 2) (.const (.bool true)) (.loc 0), none, 0⟩] [(26, (.loc 0))])
       (.cond (.tmp 26)
        (.skip)
        (.seq (.region [⟨.iaddr 1 (.tmp 7) (.tmp 14), none, 0⟩, ⟨.load none (.loc 0), none, 0⟩, ⟨.bin .lss (.loc 0) (.const (.int .i64 0)), none, 0⟩] [(27, (.loc 0))])
         (.cond (.tmp 27)
          (.seq (.region [⟨.iaddr 1 (.tmp 7) (.tmp 14), none, 0⟩, ⟨.store 1 (.loc 0) (.tmp 12), none, 0⟩] [])
           (.seq (.region [⟨.call (.func 62) [(.tmp 8), (.tmp 14)], none, 0⟩, ⟨.ext (.loc 0) 0, none, 0⟩, ⟨.ext (.loc 1) 1, none, 0⟩] [(15, (.loc 1))])
           (.region [⟨.mkarr 1 [(.int .i64 0)] [(0, 1, (.tmp 14))], none, 0⟩, ⟨.call (.func 63) [(.tmp 8), (.tmp 15), (.loc 0)], none, 0⟩] [(8, (.loc 0))])))
          (.seq (.region [⟨.iaddr 1 (.tmp 7) (.tmp 14), none, 0⟩, ⟨.load none (.loc 0), none, 0⟩, ⟨.bin .neq (.loc 0) (.tmp 12), none, 0⟩] [(28, (.loc 0))])
           (.cond (.tmp 28)
            (.region [] [(13, (.const (.int .i64 170)))])
            (.skip))))))))))
      (.region [⟨.bin .add (.tmp 24) (.const (.int .i64 1)), none, 0⟩] [(24, (.loc 0))])))))))
    (.seq (.region [⟨.bin .neq (.tmp 13) (.const (.int .i64 0)), none, 0⟩] [(29, (.loc 0))])
    (.cond (.tmp 29)
     (.seq (.region [⟨.build [(.int .i64 0), (.int .i64 0), (.int .i64 0)] [(0, 1, (.tmp 13)), (1, 1, (.tmp 1)), (2, 1, (.tmp 9))], none, 0⟩, ⟨.store 3 (.tmp 4) (.loc 0), none, 0⟩] [(3, (.const (.slice none 0 0)))])
      (.ret))
     (.skip)))))))))))))))
  (.seq (.region [⟨.build [(.int .i64 0), (.int .i64 0), (.int .i64 0)] [], none, 0⟩, ⟨.store 3 (.tmp 4) (.loc 0), none, 0⟩] [(3, (.tmp 7))])
  (.ret))))))))⟩
theorem c20_ok : compileFn Try.prog false 20 = some c20 := by kernel_rfl
/-- louver/louverkit.Ints -/
noncomputable def c24 : AFunc := ⟨[0, 1, 4, 5, 10, 14, 25], [.tmp 2],
  .seq (.region [] [(2, (.const (.bool false)))])
  (.seq (.seq (.region [⟨.len (.tmp 0), none, 0⟩, ⟨.len (.tmp 1), none, 0⟩, ⟨.bin .neq (.loc 1) (.loc 0), none, 0⟩] [(4, (.loc 0))])
   (.cond (.tmp 4)
    (.seq (.region [] [(2, (.const (.bool false)))])
     (.ret))
    (.skip)))
  (.seq (.seq (.region [] [(3, (.const (.int .i64 0)))])
   (.block 0 (.loop (.seq (.seq (.region [⟨.len (.tmp 0), none, 0⟩, ⟨.bin .lss (.tmp 3) (.loc 0), none, 0⟩] [(5, (.loc 0))])
     (.cond (.tmp 5)
      (.skip)
      (.exit 0)))
    (.seq (.block 1 (.seq (.draw [⟨.iaddr 1 (.tmp 0) (.tmp 3), none, 0⟩, ⟨.load none (.loc 0), none, 0⟩, ⟨.iaddr 1 (.tmp 1) (.tmp 3), none, 0⟩, ⟨.load none (.loc 0), none, 0⟩, ⟨.bin .neq (.loc 2) (.loc 0), none, 0⟩] [(6, (.loc 0))])
     (.cond (.tmp 6)
      (.seq (.region [] [(2, (.const (.bool false)))])
       (.ret))
      (.skip))))
    (.region [⟨.bin .add (.tmp 3) (.const (.int .i64 1)), none, 0⟩] [(3, (.loc 0))]))))))
  (.seq (.region [] [(2, (.const (.bool true)))])
  (.ret))))⟩
theorem c24_ok : compileFn Try.prog false 24 = some c24 := by kernel_rfl
/-- louver/louverlaw17.known -/
noncomputable def c27 : AFunc := ⟨[0, 1, 2, 3, 5, 7, 8, 9, 11, 13, 17], [.tmp 0],
  .seq (.region [] [(0, (.const (.bool false)))])
  (.seq (.region [⟨.build [(.int .i64 0), (.int .i64 0)] [(0, 1, (.const (.int .i64 46)))], none, 0⟩, ⟨.alloc [(.int .i64 0), (.int .i64 0)], none, 0⟩, ⟨.store 2 (.loc 0) (.loc 1), none, 0⟩] [(1, (.loc 1))])
  (.seq (.region [⟨.build [(.int .i64 0), (.int .i64 0)] [(0, 1, (.const (.int .i64 32)))], none, 0⟩, ⟨.build [(.int .i64 0), (.int .i64 0)] [(0, 1, (.const (.int .i64 44))), (1, 1, (.const (.int .i64 3)))], none, 0⟩, ⟨.build [(.int .i64 0), (.int .i64 0)] [(0, 1, (.const (.int .i64 42)))], none, 0⟩, ⟨.load (some 2) (.tmp 1), none, 0⟩, ⟨.mkarr 4 [(.int .i64 0), (.int .i64 0), (.int .i64 0), (.int .i64 0), (.int .i64 0), (.int .i64 0), (.int .i64 0), (.int .i64 0)] [(0, 2, (.loc 3)), (2, 2, (.loc 2)), (4, 2, (.loc 1)), (6, 2, (.loc 0))], none, 0⟩, ⟨.call (.func 66) [(.loc 0)], none, 0⟩, ⟨.call (.func 20) [(.loc 0), (.const (.int .i64 0))], none, 0⟩, ⟨.ext (.loc 0) 0, none, 0⟩, ⟨.ext (.loc 1) 1, none, 0⟩, ⟨.alloc [(.int .i64 0), (.int .i64 0), (.int .i64 0)], none, 0⟩, ⟨.store 3 (.loc 0) (.loc 1), none, 0⟩] [(2, (.loc 3)), (3, (.loc 1))])
  (.seq (.region [⟨.build [(.int .i64 0), (.int .i64 0)] [(0, 1, (.const (.int .i64 32)))], none, 0⟩, ⟨.build [(.int .i64 0), (.int .i64 0)] [(0, 1, (.const (.int .i64 43))), (1, 1, (.const (.int .i64 0)))], none, 0⟩, ⟨.mkarr 2 [(.int .i64 0), (.int .i64 0), (.int .i64 0), (.int .i64 0)] [(0, 2, (.loc 1)), (2, 2, (.loc 0))], none, 0⟩, ⟨.call (.func 66) [(.loc 0)], none, 0⟩, ⟨.call (.func 20) [(.loc 0), (.const (.int .i64 0))], none, 0⟩, ⟨.ext (.loc 0) 0, none, 0⟩, ⟨.ext (.loc 1) 1, none, 0⟩, ⟨.alloc [(.int .i64 0), (.int .i64 0), (.int .i64 0)], none, 0⟩, ⟨.store 3 (.loc 0) (.loc 1), none, 0⟩] [(4, (.loc 1))])
  (.seq (.region [⟨.build [(.int .i64 0), (.int .i64 0)] [(0, 1, (.const (.int .i64 41)))], none, 0⟩, ⟨.load (some 2) (.tmp 1), none, 0⟩, ⟨.mkarr 2 [(.int .i64 0), (.int .i64 0), (.int .i64 0), (.int .i64 0)] [(0, 2, (.loc 1)), (2, 2, (.loc 0))], none, 0⟩, ⟨.call (.func 66) [(.loc 0)], none, 0⟩, ⟨.call (.func 20) [(.loc 0), (.const (.int .i64 0))], none, 0⟩, ⟨.ext (.loc 0) 0, none, 0⟩, ⟨.ext (.loc 1) 1, none, 0⟩, ⟨.alloc [(.int .i64 0), (.int .i64 0), (.int .i64 0)], none, 0⟩, ⟨.store 3 (.loc 0) (.loc 1), none, 0⟩] [(5, (.loc 1))])
  (.seq (.region [⟨.mkarr 2 [(.int .u64 0), (.int .u64 0)] [(0, 1, (.const (.int .u64 2))), (1, 1, (.const (.int .u64 0)))], none, 0⟩] [(6, (.loc 0))])
  (.seq (.region [⟨.build [(.int .i64 0), (.int .i64 0)] [(0, 1, (.const (.int .i64 1)))], none, 0⟩, ⟨.load (some 2) (.tmp 1), none, 0⟩, ⟨.mkarr 2 [(.int .i64 0), (.int .i64 0), (.int .i64 0), (.int .i64 0)] [(0, 2, (.loc 1)), (2, 2, (.loc 0))], none, 0⟩, ⟨.call (.func 66) [(.loc 0)], none, 0⟩, ⟨.mkarr 2 [(.int .u64 0), (.int .u64 0)] [(0, 1, (.const (.int .u64 1))), (1, 1, (.const (.int .u64 2)))], none, 0⟩, ⟨.build [(.slice none 0 0), (.slice none 0 0)] [(0, 1, (.loc 0)), (1, 1, (.tmp 6))], none, 0⟩, ⟨.call (.func 15) [(.loc 2), (.const (.int .i64 0)), (.const (.int .i64 0)), (.loc 0), (.const (.int .u64 4))], none, 0⟩, ⟨.ext (.loc 0) 0, none, 0⟩, ⟨.ext (.loc 1) 1, none, 0⟩, ⟨.ext (.loc 2) 2, none, 0⟩, ⟨.alloc [(.slice none 0 0), (.slice none 0 0)], none, 0⟩, ⟨.store 2 (.loc 0) (.loc 3), none, 0⟩] [(7, (.loc 1)), (8, (.loc 2))])
  (.seq (.region [⟨.build [(.int .i64 0), (.int .i64 0)] [(0, 1, (.const (.int .i64 44))), (1, 1, (.const (.int .i64 0)))], none, 0⟩, ⟨.load (some 2) (.tmp 1), none, 0⟩, ⟨.mkarr 2 [(.int .i64 0), (.int .i64 0), (.int .i64 0), (.int .i64 0)] [(0, 2, (.loc 1)), (2, 2, (.loc 0))], none, 0⟩, ⟨.call (.func 66) [(.loc 0)], none, 0⟩, ⟨.mkarr 1 [(.int .u64 0)] [(0, 1, (.const (.int .u64 1)))], none, 0⟩, ⟨.build [(.slice none 0 0), (.slice none 0 0)] [(0, 1, (.loc 0)), (1, 1, (.tmp 6))], none, 0⟩, ⟨.call (.func 15) [(.loc 2), (.const (.int .i64 0)), (.const (.int .i64 0)), (.loc 0), (.const (.int .u64 4))], none, 0⟩, ⟨.ext (.loc 0) 0, none, 0⟩, ⟨.ext (.loc 1) 1, none, 0⟩, ⟨.ext (.loc 2) 2, none, 0⟩, ⟨.alloc [(.slice none 0 0), (.slice none 0 0)], none, 0⟩, ⟨.store 2 (.loc 0) (.loc 3), none, 0⟩] [(9, (.loc 3))])
  (.seq (.region [⟨.build [(.int .i64 0), (.int .i64 0)] [(0, 1, (.const (.int .i64 36)))], none, 0⟩, ⟨.load (some 2) (.tmp 1), none, 0⟩, ⟨.mkarr 2 [(.int .i64 0), (.int .i64 0), (.int .i64 0), (.int .i64 0)] [(0, 2, (.loc 1)), (2, 2, (.loc 0))], none, 0⟩, ⟨.call (.func 66) [(.loc 0)], none, 0⟩, ⟨.mkarr 1 [(.int .u64 0)] [(0, 1, (.const (.int .u64 2)))], none, 0⟩, ⟨.build [(.slice none 0 0), (.slice none 0 0)] [(0, 1, (.loc 0)), (1, 1, (.tmp 6))], none, 0⟩, ⟨.call (.func 15) [(.loc 2), (.const (.int .i64 0)), (.const (.int .i64 0)), (.loc 0), (.const (.int .u64 0))], none, 0⟩, ⟨.ext (.loc 0) 0, none, 0⟩, ⟨.ext (.loc 1) 1, none, 0⟩, ⟨.ext (.loc 2) 2, none, 0⟩, ⟨.alloc [(.slice none 0 0), (.slice none 0 0)], none, 0⟩, ⟨.store 2 (.loc 0) (.loc 3), none, 0⟩] [(10, (.loc 2))])
  (.seq (.region [⟨.load (some 3) (.tmp 3), none, 0⟩, ⟨.build [(.int .i64 0), (.int .i64 0), (.int .i64 0)] [], none, 0⟩, ⟨.flat (.bin .eql 41 (.tmp 82) (.tmp 83)) [(.loc 1), (.loc 0)], none, 0⟩, ⟨.mov (.tmp 2), (some ((.loc 0), true)), 0⟩, ⟨.mkarr 4 [(.int .i64 0), (.int .i64 0), (.int .i64 0), (.int .i64 0)] [(0, 1, (.const (.int .i64 0))), (1, 1, (.const (.int .i64 1))), (2, 1, (.const (.int .i64 0))), (3, 1, (.const (.int .i64 0)))], (some ((.loc 1), true)), 0⟩, ⟨.call (.func 24) [(.loc 1), (.loc 0)], (some ((.loc 2), true)), 0⟩, ⟨.pick (.loc 3) (.loc 0) (.const (.bool false)), none, 0⟩, ⟨.load (some 3) (.tmp 4), (some ((.loc 0), true)), 0⟩, ⟨.build [(.int .i64 0), (.int .i64 0), (.int .i64 0)] [(0, 1, (.const (.int .i64 170))), (2, 1, (.const (.int .i64 1)))], (some ((.loc 1), true)), 0⟩, ⟨.flat (.bin .eql 41 (.tmp 91) (.tmp 92)) [(.loc 1), (.loc 0)], (some ((.loc 2), true)), 0⟩, ⟨.pick (.loc 3) (.loc 0) (.const (.bool false)), none, 0⟩, ⟨.load (some 3) (.tmp 5), (some ((.loc 0), true)), 0⟩, ⟨.build [(.int .i64 0), (.int .i64 0), (.int .i64 0)] [(0, 1, (.const (.int .i64 172)))], (some ((.loc 1), true)), 0⟩, ⟨.flat (.bin .eql 41 (.tmp 96) (.tmp 97)) [(.loc 1), (.loc 0)], (some ((.loc 2), true)), 0⟩, ⟨.pick (.loc 3) (.loc 0) (.const (.bool false)), none, 0⟩, ⟨.mov (.tmp 8), (some ((.loc 0), true)), 0⟩, ⟨.pick (.loc 1) (.loc 0) (.const (.bool false)), none, 0⟩, ⟨.faddr 0 (.tmp 7), (some ((.loc 0), true)), 0⟩, ⟨.load none (.loc 0), (some ((.loc 1), true)), 0⟩, ⟨.mkarr 1 [(.int .u64 0)] [(0, 1, (.const (.int .u64 7)))], (some ((.loc 2), true)), 0⟩, ⟨.call (.func 39) [(.loc 1), (.loc 0)], (some ((.loc 3), true)), 0⟩, ⟨.pick (.loc 4) (.loc 0) (.const (.bool false)), none, 0⟩, ⟨.mov (.tmp 9), (some ((.loc 0), true)), 0⟩, ⟨.bin .eql (.loc 0) (.const (.int .u64 5)), (some ((.loc 1), true)), 0⟩, ⟨.pick (.loc 2) (.loc 0) (.const (.bool false)), none, 0⟩, ⟨.mov (.tmp 10), (some ((.loc 0), true)), 0⟩, ⟨.not (.loc 0), (some ((.loc 1), true)), 0⟩, ⟨.pick (.loc 2) (.loc 0) (.const (.bool false)), none, 0⟩] [(0, (.loc 0))])
  (.ret))))))))))⟩
theorem c27_ok : compileFn Try.prog false 27 = some c27 := by kernel_rfl
/-- louver/graph.Next -/
noncomputable def c32 : AFunc := ⟨[0, 1, 2, 4, 5, 6, 15], [.tmp 3],
  .seq (.region [⟨.box (.tmp 0), none, 0⟩] [(2, (.loc 0)), (3, (.const (.slice none 0 0)))])
  (.seq (.seq (.region [⟨.bin .lss (.tmp 1) (.const (.int .i64 0)), none, 0⟩, ⟨.mov (.tmp 1), (some ((.loc 0), false)), 0⟩, ⟨.faddr 5 (.tmp 2), (some ((.loc 1), false)), 0⟩, ⟨.load none (.loc 0), (some ((.loc 2), false)), 0⟩, ⟨.len (.loc 0), (some ((.loc 3), false)), 0⟩, ⟨.bin .geq (.loc 3) (.loc 0), (some ((.loc 4), false)), 0⟩, ⟨.pick (.loc 5) (.const (.bool true)) (.loc 0), none, 0⟩] [(6, (.loc 0))])
   (.cond (.tmp 6)
    (.seq (.region [] [(3, (.const (.slice none 0 0)))])
     (.ret))
    (.skip)))
  (.seq (.region [⟨.faddr 5 (.tmp 2), none, 0⟩, ⟨.load none (.loc 0), none, 0⟩, ⟨.call (.func 70) [(.loc 0), (.tmp 1)], none, 0⟩, ⟨.ext (.loc 0) 0, none, 0⟩, ⟨.ext (.loc 1) 1, none, 0⟩, ⟨.alloc [(.int .i64 0), (.int .i64 0)], none, 0⟩, ⟨.store 2 (.loc 0) (.loc 2), none, 0⟩] [(4, (.loc 1)), (5, (.loc 2))])
  (.seq (.region [⟨.slarr 2 1 (.tmp 4) none (some (.tmp 5)) none, none, 0⟩, ⟨.call (.func 72) [(.loc 0)], none, 0⟩, ⟨.call (.func 71) [(.loc 0)], none, 0⟩] [(3, (.loc 0))])
  (.ret))))⟩
theorem c32_ok : compileFn Try.prog false 32 = some c32 := by kernel_rfl
/-- louver/louverkit.Labels -/
noncomputable def c39 : AFunc := ⟨[0, 1, 4, 5, 10, 14, 25], [.tmp 2],
  .seq (.region [] [(2, (.const (.bool false)))])
  (.seq (.seq (.region [⟨.len (.tmp 0), none, 0⟩, ⟨.len (.tmp 1), none, 0⟩, ⟨.bin .neq (.loc 1) (.loc 0), none, 0⟩] [(4, (.loc 0))])
   (.cond (.tmp 4)
    (.seq (.region [] [(2, (.const (.bool false)))])
     (.ret))
    (.skip)))
  (.seq (.seq (.region [] [(3, (.const (.int .i64 0)))])
   (.block 0 (.loop (.seq (.seq (.region [⟨.len (.tmp 0), none, 0⟩, ⟨.bin .lss (.tmp 3) (.loc 0), none, 0⟩] [(5, (.loc 0))])
     (.cond (.tmp 5)
      (.skip)
      (.exit 0)))
    (.seq (.block 1 (.seq (.draw [⟨.iaddr 1 (.tmp 0) (.tmp 3), none, 0⟩, ⟨.load none (.loc 0), none, 0⟩, ⟨.iaddr 1 (.tmp 1) (.tmp 3), none, 0⟩, ⟨.load none (.loc 0), none, 0⟩, ⟨.bin .neq (.loc 2) (.loc 0), none, 0⟩] [(6, (.loc 0))])
     (.cond (.tmp 6)
      (.seq (.region [] [(2, (.const (.bool false)))])
       (.ret))
      (.skip))))
    (.region [⟨.bin .add (.tmp 3) (.const (.int .i64 1)), none, 0⟩] [(3, (.loc 0))]))))))
  (.seq (.region [] [(2, (.const (.bool true)))])
  (.ret))))⟩
theorem c39_ok : compileFn Try.prog false 39 = some c39 := by kernel_rfl
/-- louver/frame.address -/
noncomputable def c52 : AFunc := ⟨[0, 1, 2, 3, 6], [.tmp 4],
  .seq (.region [⟨.box (.tmp 0), none, 0⟩] [(3, (.loc 0)), (4, (.const (.bool false)))])
  (.seq (.region [⟨.load (some 4) (.tmp 3), none, 0⟩, ⟨.call (.func 60) [(.loc 0)], none, 0⟩, ⟨.fld none 0 (.loc 0), none, 0⟩, ⟨.bin .eql (.loc 0) (.const (.int .i64 0)), none, 0⟩, ⟨.mov (.tmp 1), (some ((.loc 0), true)), 0⟩, ⟨.bin .geq (.loc 0) (.const (.int .i64 0)), (some ((.loc 1), true)), 0⟩, ⟨.pick (.loc 2) (.loc 0) (.const (.bool false)), none, 0⟩, ⟨.mov (.tmp 1), (some ((.loc 0), true)), 0⟩, ⟨.faddr 3 (.tmp 3), (some ((.loc 1), true)), 0⟩, ⟨.load none (.loc 0), (some ((.loc 2), true)), 0⟩, ⟨.len (.loc 0), (some ((.loc 3), true)), 0⟩, ⟨.bin .lss (.loc 3) (.loc 0), (some ((.loc 4), true)), 0⟩, ⟨.pick (.loc 5) (.loc 0) (.const (.bool false)), none, 0⟩, ⟨.mov (.tmp 2), (some ((.loc 0), true)), 0⟩, ⟨.bin .geq (.loc 0) (.const (.int .i64 0)), (some ((.loc 1), true)), 0⟩, ⟨.pick (.loc 2) (.loc 0) (.const (.bool false)), none, 0⟩, ⟨.mov (.tmp 2), (some ((.loc 0), true)), 0⟩, ⟨.faddr 3 (.tmp 3), (some ((.loc 1), true)), 0⟩, ⟨.load none (.loc 0), (some ((.loc 2), true)), 0⟩, ⟨.mov (.tmp 1), (some ((.loc 3), true)), 0⟩, ⟨.iaddr 6 (.loc 1) (.loc 0), (some ((.loc 4), true)), 0⟩, ⟨.faddr 5 (.loc 0), (some ((.loc 5), true)), 0⟩, ⟨.load none (.loc 0), (some ((.loc 6), true)), 0⟩, ⟨.len (.loc 0), (some ((.loc 7), true)), 0⟩, ⟨.bin .lss (.loc 7) (.loc 0), (some ((.loc 8), true)), 0⟩, ⟨.pick (.loc 9) (.loc 0) (.const (.bool false)), none, 0⟩] [(4, (.loc 0))])
  (.ret))⟩
theorem c52_ok : compileFn Try.prog false 52 = some c52 := by kernel_rfl
/-- louver/shape.Locals -/
noncomputable def c53 : AFunc := ⟨[0, 1, 2, 4, 13], [.tmp 3],
  .seq (.region [⟨.box (.tmp 0), none, 0⟩] [(2, (.loc 0)), (3, (.const (.int .i64 0)))])
  (.seq (.seq (.region [⟨.bin .lss (.tmp 1) (.const (.int .i64 0)), none, 0⟩, ⟨.mov (.tmp 1), (some ((.loc 0), false)), 0⟩, ⟨.faddr 3 (.tmp 2), (some ((.loc 1), false)), 0⟩, ⟨.load none (.loc 0), (some ((.loc 2), false)), 0⟩, ⟨.len (.loc 0), (some ((.loc 3), false)), 0⟩, ⟨.bin .geq (.loc 3) (.loc 0), (some ((.loc 4), false)), 0⟩, ⟨.pick (.loc 5) (.const (.bool true)) (.loc 0), none, 0⟩] [(4, (.loc 0))])
   (.cond (.tmp 4)
    (.seq (.region [] [(3, (.const (.int .i64 0)))])
     (.ret))
    (.skip)))
  (.seq (.draw [⟨.faddr 3 (.tmp 2), none, 0⟩, ⟨.load none (.loc 0), none, 0⟩, ⟨.iaddr 6 (.loc 0) (.tmp 1), none, 0⟩, ⟨.faddr 1 (.loc 0), none, 0⟩, ⟨.load none (.loc 0), none, 0⟩, ⟨.len (.loc 0), none, 0⟩, ⟨.faddr 3 (.tmp 2), none, 0⟩, ⟨.load none (.loc 0), none, 0⟩, ⟨.iaddr 6 (.loc 0) (.tmp 1), none, 0⟩, ⟨.faddr 3 (.loc 0), none, 0⟩, ⟨.load none (.loc 0), none, 0⟩, ⟨.flat (.max #[3, 3] 3) [(.const (.int .i64 0)), (.loc 0)], none, 0⟩, ⟨.flat (.min #[3, 3] 3) [(.loc 0), (.const (.int .i64 32))], none, 0⟩, ⟨.bin .add (.loc 7) (.loc 0), none, 0⟩] [(3, (.loc 0))])
  (.ret)))⟩
theorem c53_ok : compileFn Try.prog false 53 = some c53 := by kernel_rfl
/-- louver/frame.effect -/
noncomputable def c54 : AFunc := ⟨[0, 1, 2, 3, 5, 6, 7, 9, 10, 14, 20, 22, 24, 26, 28, 31, 49, 58], [.tmp 5, .tmp 6],
  .seq (.region [⟨.box (.tmp 0), none, 0⟩, ⟨.box (.tmp 2), none, 0⟩] [(3, (.loc 1)), (4, (.loc 0)), (5, (.const (.int .i64 0))), (6, (.const (.int .i64 0)))])
  (.seq (.seq (.region [⟨.faddr 0 (.tmp 4), none, 0⟩, ⟨.load none (.loc 0), none, 0⟩] [(7, (.loc 0))])
   (.block 0 (.seq (.seq (.region [⟨.bin .eql (.tmp 7) (.const (.int .i64 32)), none, 0⟩] [(8, (.loc 0))])
    (.cond (.tmp 8)
     (.skip)
     (.seq (.region [⟨.bin .eql (.tmp 7) (.const (.int .i64 33)), none, 0⟩] [(8, (.loc 0))])
      (.cond (.tmp 8)
       (.skip)
       (.region [⟨.bin .eql (.tmp 7) (.const (.int .i64 35)), none, 0⟩] [(8, (.loc 0))])))))
   (.cond (.tmp 8)
    (.seq (.region [] [(5, (.const (.int .i64 0))), (6, (.const (.int .i64 1)))])
     (.ret))
    (.seq (.seq (.region [⟨.bin .eql (.tmp 7) (.const (.int .i64 34)), none, 0⟩] [(9, (.loc 0))])
      (.cond (.tmp 9)
       (.skip)
       (.seq (.region [⟨.bin .eql (.tmp 7) (.const (.int .i64 36)), none, 0⟩] [(9, (.loc 0))])
        (.cond (.tmp 9)
         (.skip)
         (.seq (.region [⟨.bin .eql (.tmp 7) (.const (.int .i64 41)), none, 0⟩] [(9, (.loc 0))])
          (.cond (.tmp 9)
           (.skip)
           (.seq (.region [⟨.bin .eql (.tmp 7) (.const (.int .i64 44)), none, 0⟩] [(9, (.loc 0))])
            (.cond (.tmp 9)
             (.skip)
             (.region [⟨.bin .eql (.tmp 7) (.const (.int .i64 47)), none, 0⟩] [(9, (.loc 0))])))))))))
     (.cond (.tmp 9)
      (.seq (.region [] [(5, (.const (.int .i64 1))), (6, (.const (.int .i64 0)))])
       (.ret))
      (.seq (.region [⟨.bin .eql (.tmp 7) (.const (.int .i64 37)), none, 0⟩] [(10, (.loc 0))])
       (.cond (.tmp 10)
        (.seq (.region [] [(5, (.const (.int .i64 1))), (6, (.const (.int .i64 1)))])
         (.ret))
        (.seq (.region [⟨.bin .eql (.tmp 7) (.const (.int .i64 38)), none, 0⟩] [(11, (.loc 0))])
         (.cond (.tmp 11)
          (.seq (.region [] [(5, (.const (.int .i64 2))), (6, (.const (.int .i64 0)))])
           (.ret))
          (.seq (.region [⟨.bin .eql (.tmp 7) (.const (.int .i64 39)), none, 0⟩] [(12, (.loc 0))])
           (.cond (.tmp 12)
            (.seq (.region [] [(5, (.const (.int .i64 1))), (6, (.const (.int .i64 2)))])
             (.ret))
            (.seq (.region [⟨.bin .eql (.tmp 7) (.const (.int .i64 40)), none, 0⟩] [(13, (.loc 0))])
             (.cond (.tmp 13)
              (.seq (.region [] [(5, (.const (.int .i64 2))), (6, (.const (.int .i64 2)))])
               (.ret))
              (.seq (.seq (.region [⟨.bin .eql (.tmp 7) (.const (.int .i64 42)), none, 0⟩] [(14, (.loc 0))])
                (.cond (.tmp 14)
                 (.skip)
                 (.region [⟨.bin .eql (.tmp 7) (.const (.int .i64 43)), none, 0⟩] [(14, (.loc 0))])))
               (.cond (.tmp 14)
                (.seq (.region [] [(5, (.const (.int .i64 0))), (6, (.const (.int .i64 0)))])
                 (.ret))
                (.seq (.region [⟨.bin .eql (.tmp 7) (.const (.int .i64 45)), none, 0⟩] [(15, (.loc 0))])
                 (.cond (.tmp 15)
                  (.seq (.draw [⟨.faddr 3 (.tmp 3), none, 0⟩, ⟨.load none (.loc 0), none, 0⟩, ⟨.faddr 1 (.tmp 4), none, 0⟩, ⟨.load none (.loc 0), none, 0⟩, ⟨.iaddr 6 (.loc 2) (.loc 0), none, 0⟩, ⟨.faddr 1 (.loc 0), none, 0⟩, ⟨.load none (.loc 0), none, 0⟩, ⟨.len (.loc 0), none, 0⟩, ⟨.faddr 3 (.tmp 3), none, 0⟩, ⟨.load none (.loc 0), none, 0⟩, ⟨.faddr 1 (.tmp 4), none, 0⟩, ⟨.load none (.loc 0), none, 0⟩, ⟨.iaddr 6 (.loc 2) (.loc 0), none, 0⟩, ⟨.faddr 2 (.loc 0), none, 0⟩, ⟨.load none (.loc 0), none, 0⟩, ⟨.len (.loc 0), none, 0⟩] [(5, (.loc 8)), (6, (.loc 0))])
                   (.ret))
                  (.seq (.region [⟨.bin .eql (.tmp 7) (.const (.int .i64 46)), none, 0⟩] [(16, (.loc 0))])
                   (.cond (.tmp 16)
                    (.seq (.region [⟨.faddr 3 (.tmp 3), none, 0⟩, ⟨.load none (.loc 0), none, 0⟩, ⟨.iaddr 6 (.loc 0) (.tmp 1), none, 0⟩, ⟨.faddr 2 (.loc 0), none, 0⟩, ⟨.load none (.loc 0), none, 0⟩, ⟨.len (.loc 0), none, 0⟩] [(5, (.loc 0)), (6, (.const (.int .i64 0)))])
                     (.ret))
                    (.seq (.seq (.region [⟨.bin .eql (.tmp 7) (.const (.int .i64 15)), none, 0⟩] [(17, (.loc 0))])
                      (.cond (.tmp 17)
                       (.skip)
                       (.seq (.region [⟨.bin .eql (.tmp 7) (.const (.int .i64 16)), none, 0⟩] [(17, (.loc 0))])
                        (.cond (.tmp 17)
                         (.skip)
                         (.region [⟨.bin .eql (.tmp 7) (.const (.int .i64 17)), none, 0⟩] [(17, (.loc 0))])))))
                     (.cond (.tmp 17)
                      (.seq (.region [] [(5, (.const (.int .i64 1))), (6, (.const (.int .i64 1)))])
                       (.ret))
                      (.skip)))))))))))))))))))))))
  (.seq (.region [] [(5, (.const (.int .i64 2))), (6, (.const (.int .i64 1)))])
  (.ret)))⟩
theorem c54_ok : compileFn Try.prog false 54 = some c54 := by kernel_rfl
/-- slices.Clone[[]louver/api.Label,louver/api.Label] -/
noncomputable def c55 : AFunc := ⟨[0, 2, 4], [.tmp 1],
  .seq (.region [] [(1, (.const (.slice none 0 0)))])
  (.seq (.seq (.region [⟨.eqn 0 false (.tmp 0) (.const (.slice none 0 0)), none, 0⟩] [(2, (.loc 0))])
   (.cond (.tmp 2)
    (.seq (.region [] [(1, (.const (.slice none 0 0)))])
     (.ret))
    (.skip)))
  (.seq (.region [⟨.mkarr 0 [] [], none, 0⟩, ⟨.append false 1 8 (.loc 0) (.tmp 0), none, 0⟩] [(1, (.loc 0))])
  (.ret)))⟩
theorem c55_ok : compileFn Try.prog false 55 = some c55 := by kernel_rfl
/-- (*louver/frame.worker).do -/
noncomputable def c56 : AFunc := ⟨[0, 1, 2, 3, 5, 7, 8, 9, 10, 11, 12, 13, 14, 15, 16, 17, 18, 27, 42, 47, 61, 79, 90, 102, 118, 135, 144, 153, 157, 167, 179, 191, 192, 193, 194, 215, 225, 226, 227, 228, 245], [.tmp 6],
  .seq (.region [⟨.box (.tmp 1), none, 0⟩, ⟨.box (.tmp 3), none, 0⟩] [(4, (.loc 1)), (5, (.loc 0)), (6, (.const (.int .u64 0)))])
  (.seq (.region [⟨.mkfn 90 [(.tmp 0)] [], none, 0⟩, ⟨.mkfn 91 [(.tmp 0)] [], none, 0⟩, ⟨.mkfn 92 [(.tmp 0)] [], none, 0⟩] [(7, (.loc 2)), (8, (.loc 1)), (9, (.loc 0))])
  (.seq (.seq (.region [⟨.faddr 0 (.tmp 5), none, 0⟩, ⟨.load none (.loc 0), none, 0⟩] [(17, (.loc 0))])
   (.block 0 (.seq (.region [⟨.bin .eql (.tmp 17) (.const (.int .i64 32)), none, 0⟩] [(18, (.loc 0))])
   (.cond (.tmp 18)
    (.region [⟨.mkarr 1 [(.int .u64 0)] [(0, 1, (.const (.int .u64 0)))], none, 0⟩, ⟨.call (.tmp 8) [(.loc 0)], none, 0⟩] [])
    (.seq (.region [⟨.bin .eql (.tmp 17) (.const (.int .i64 33)), none, 0⟩] [(19, (.loc 0))])
     (.cond (.tmp 19)
      (.draw [⟨.nilchk (.tmp 0), none, 0⟩, ⟨.faddr 0 (.loc 0), none, 0⟩, ⟨.faddr 1 (.loc 0), none, 0⟩, ⟨.load none (.loc 0), none, 0⟩, ⟨.faddr 1 (.tmp 5), none, 0⟩, ⟨.load none (.loc 0), none, 0⟩, ⟨.iaddr 1 (.loc 2) (.loc 0), none, 0⟩, ⟨.load none (.loc 0), none, 0⟩, ⟨.mkarr 1 [(.int .u64 0)] [(0, 1, (.loc 0))], none, 0⟩, ⟨.call (.tmp 8) [(.loc 0)], none, 0⟩] [])
      (.seq (.region [⟨.bin .eql (.tmp 17) (.const (.int .i64 34)), none, 0⟩] [(20, (.loc 0))])
       (.cond (.tmp 20)
        (.draw [⟨.call (.tmp 7) [], none, 0⟩, ⟨.nilchk (.tmp 0), none, 0⟩, ⟨.faddr 2 (.loc 0), none, 0⟩, ⟨.load none (.loc 0), none, 0⟩, ⟨.mkarr 2 [(.int .u64 0), (.int .u64 0)] [(0, 1, (.loc 3)), (1, 1, (.loc 0))], none, 1⟩, ⟨.call (.func 67) [(.loc 0)], none, 1⟩, ⟨.nilchk (.tmp 0), none, 0⟩, ⟨.faddr 0 (.loc 0), none, 0⟩, ⟨.faddr 1 (.loc 0), none, 0⟩, ⟨.load none (.loc 0), none, 0⟩, ⟨.faddr 1 (.tmp 5), none, 0⟩, ⟨.load none (.loc 0), none, 0⟩, ⟨.iaddr 1 (.loc 2) (.loc 0), none, 2⟩, ⟨.store 1 (.loc 0) (.loc 7), none, 2⟩] [])
        (.seq (.region [⟨.bin .eql (.tmp 17) (.const (.int .i64 35)), none, 0⟩] [(21, (.loc 0))])
         (.cond (.tmp 21)
          (.region [⟨.faddr 0 (.tmp 4), none, 0⟩, ⟨.load none (.loc 0), none, 0⟩, ⟨.faddr 1 (.tmp 5), none, 0⟩, ⟨.load none (.loc 0), none, 0⟩, ⟨.iaddr 1 (.loc 2) (.loc 0), none, 0⟩, ⟨.load none (.loc 0), none, 0⟩, ⟨.mkarr 1 [(.int .u64 0)] [(0, 1, (.loc 0))], none, 0⟩, ⟨.call (.tmp 8) [(.loc 0)], none, 0⟩] [])
          (.seq (.region [⟨.bin .eql (.tmp 17) (.const (.int .i64 36)), none, 0⟩] [(22, (.loc 0))])
           (.cond (.tmp 22)
            (.draw [⟨.call (.tmp 7) [], none, 0⟩, ⟨.faddr 0 (.tmp 4), none, 0⟩, ⟨.load none (.loc 0), none, 0⟩, ⟨.faddr 1 (.tmp 5), none, 0⟩, ⟨.load none (.loc 0), none, 0⟩, ⟨.iaddr 1 (.loc 2) (.loc 0), none, 0⟩, ⟨.load none (.loc 0), none, 0⟩, ⟨.call (.tmp 9) [(.loc 6), (.loc 0)], none, 1⟩] [])
            (.seq (.region [⟨.bin .eql (.tmp 17) (.const (.int .i64 37)), none, 0⟩] [(23, (.loc 0))])
             (.cond (.tmp 23)
              (.draw [⟨.call (.tmp 7) [], none, 0⟩, ⟨.faddr 1 (.tmp 4), none, 0⟩, ⟨.load none (.loc 0), none, 0⟩, ⟨.faddr 1 (.tmp 5), none, 0⟩, ⟨.load none (.loc 0), none, 0⟩, ⟨.iaddr 2 (.loc 2) (.loc 0), none, 0⟩, ⟨.faddr 1 (.loc 0), none, 0⟩, ⟨.load none (.loc 0), none, 0⟩, ⟨.mkarr 2 [(.int .u64 0), (.int .u64 0)] [(0, 1, (.loc 7)), (1, 1, (.loc 0))], none, 1⟩, ⟨.call (.func 67) [(.loc 0)], none, 1⟩, ⟨.mkarr 1 [(.int .u64 0)] [(0, 1, (.loc 0))], none, 2⟩, ⟨.call (.tmp 8) [(.loc 0)], none, 2⟩] [])
              (.seq (.region [⟨.bin .eql (.tmp 17) (.const (.int .i64 38)), none, 0⟩] [(24, (.loc 0))])
               (.cond (.tmp 24)
                (.draw [⟨.call (.tmp 7) [], none, 0⟩, ⟨.call (.tmp 7) [], none, 1⟩, ⟨.mkarr 2 [(.int .u64 0), (.int .u64 0)] [(0, 1, (.loc 1)), (1, 1, (.loc 0))], none, 2⟩, ⟨.call (.func 67) [(.loc 0)], none, 2⟩, ⟨.faddr 1 (.tmp 4), none, 0⟩, ⟨.load none (.loc 0), none, 0⟩, ⟨.faddr 1 (.tmp 5), none, 0⟩, ⟨.load none (.loc 0), none, 0⟩, ⟨.iaddr 2 (.loc 2) (.loc 0), none, 0⟩, ⟨.faddr 1 (.loc 0), none, 0⟩, ⟨.load none (.loc 0), none, 0⟩, ⟨.call (.tmp 9) [(.loc 7), (.loc 0)], none, 3⟩] [])
                (.seq (.region [⟨.bin .eql (.tmp 17) (.const (.int .i64 39)), none, 0⟩] [(25, (.loc 0))])
                 (.cond (.tmp 25)
                  (.seq (.region [⟨.call (.tmp 7) [], none, 0⟩] [(10, (.loc 0))])
                   (.region [⟨.mkarr 2 [(.int .u64 0), (.int .u64 0)] [(0, 1, (.tmp 10)), (1, 1, (.tmp 10))], none, 0⟩, ⟨.call (.tmp 8) [(.loc 0)], none, 0⟩] []))
                  (.seq (.region [⟨.bin .eql (.tmp 17) (.const (.int .i64 40)), none, 0⟩] [(26, (.loc 0))])
                   (.cond (.tmp 26)
                    (.region [⟨.call (.tmp 7) [], none, 0⟩, ⟨.call (.tmp 7) [], none, 0⟩, ⟨.mkarr 2 [(.int .u64 0), (.int .u64 0)] [(0, 1, (.loc 1)), (1, 1, (.loc 0))], none, 0⟩, ⟨.call (.tmp 8) [(.loc 0)], none, 0⟩] [])
                    (.seq (.region [⟨.bin .eql (.tmp 17) (.const (.int .i64 41)), none, 0⟩] [(27, (.loc 0))])
                     (.cond (.tmp 27)
                      (.region [⟨.call (.tmp 7) [], none, 0⟩] [])
                      (.seq (.region [⟨.bin .eql (.tmp 17) (.const (.int .i64 44)), none, 0⟩] [(28, (.loc 0))])
                       (.cond (.tmp 28)
                        (.seq (.draw [⟨.call (.tmp 7) [], none, 0⟩, ⟨.nilchk (.tmp 0), none, 0⟩, ⟨.faddr 2 (.loc 0), none, 0⟩, ⟨.load none (.loc 0), none, 0⟩, ⟨.mkarr 2 [(.int .u64 0), (.int .u64 0)] [(0, 1, (.loc 3)), (1, 1, (.loc 0))], none, 1⟩, ⟨.call (.func 67) [(.loc 0)], none, 1⟩] [(6, (.loc 0))])
                         (.ret))
                        (.seq (.region [⟨.bin .eql (.tmp 17) (.const (.int .i64 47)), none, 0⟩] [(29, (.loc 0))])
                         (.cond (.tmp 29)
                          (.draw [⟨.call (.tmp 7) [], none, 0⟩, ⟨.faddr 2 (.tmp 4), none, 0⟩, ⟨.load none (.loc 0), none, 0⟩, ⟨.faddr 1 (.tmp 5), none, 0⟩, ⟨.load none (.loc 0), none, 0⟩, ⟨.iaddr 1 (.loc 2) (.loc 0), none, 0⟩, ⟨.load none (.loc 0), none, 0⟩, ⟨.call (.tmp 9) [(.loc 6), (.loc 0)], none, 1⟩] [])
                          (.seq (.region [⟨.bin .eql (.tmp 17) (.const (.int .i64 45)), none, 0⟩] [(30, (.loc 0))])
                           (.cond (.tmp 30)
                            (.seq (.region [⟨.faddr 3 (.tmp 4), none, 0⟩, ⟨.load none (.loc 0), none, 0⟩, ⟨.faddr 1 (.tmp 5), none, 0⟩, ⟨.load none (.loc 0), none, 0⟩, ⟨.iaddr 6 (.loc 2) (.loc 0), none, 0⟩, ⟨.load (some 6) (.loc 0), none, 0⟩, ⟨.alloc [(.int .u64 0), (.slice none 0 0), (.slice none 0 0), (.int .i64 0), (.int .i64 0), (.slice none 0 0)], none, 0⟩, ⟨.store 6 (.loc 0) (.loc 1), none, 0⟩] [(11, (.loc 1))])
                             (.seq (.seq (.region [⟨.faddr 1 (.tmp 11), none, 0⟩, ⟨.load none (.loc 0), none, 0⟩, ⟨.len (.loc 0), none, 0⟩, ⟨.call (.func 93) [(.tmp 0), (.loc 0)], none, 0⟩, ⟨.len (.loc 0), none, 0⟩] [(31, (.loc 1)), (32, (.loc 0)), (33, (.const (.int .i64 0)))])
                              (.block 1 (.loop (.seq (.region [⟨.bin .lss (.tmp 33) (.tmp 32), none, 0⟩] [(34, (.loc 0))])
                               (.seq (.cond (.tmp 34)
                                 (.skip)
                                 (.exit 1))
                               (.seq (.block 2 (.seq (.region [⟨.iaddr 1 (.tmp 31) (.tmp 33), none, 0⟩, ⟨.load none (.loc 0), none, 0⟩] [(12, (.tmp 33)), (13, (.loc 0))])
                                (.region [⟨.faddr 1 (.tmp 11), none, 0⟩, ⟨.load none (.loc 0), none, 0⟩, ⟨.iaddr 1 (.loc 0) (.tmp 12), none, 0⟩, ⟨.load none (.loc 0), none, 0⟩, ⟨.call (.tmp 9) [(.tmp 13), (.loc 0)], none, 0⟩] [])))
                               (.region [⟨.bin .add (.tmp 33) (.const (.int .i64 1)), none, 0⟩] [(33, (.loc 0))])))))))
                             (.seq (.region [⟨.faddr 0 (.tmp 11), none, 0⟩, ⟨.load none (.loc 0), none, 0⟩, ⟨.call (.tmp 9) [(.const (.int .u64 0)), (.loc 0)], none, 0⟩] [])
                             (.region [⟨.faddr 2 (.tmp 11), none, 0⟩, ⟨.load none (.loc 0), none, 0⟩, ⟨.call (.tmp 8) [(.loc 0)], none, 0⟩] []))))
                            (.seq (.region [⟨.bin .eql (.tmp 17) (.const (.int .i64 46)), none, 0⟩] [(35, (.loc 0))])
                             (.cond (.tmp 35)
                              (.seq (.region [⟨.faddr 3 (.tmp 4), none, 0⟩, ⟨.load none (.loc 0), none, 0⟩, ⟨.iaddr 6 (.loc 0) (.tmp 2), none, 0⟩, ⟨.faddr 2 (.loc 0), none, 0⟩, ⟨.load none (.loc 0), none, 0⟩, ⟨.len (.loc 0), none, 0⟩, ⟨.call (.func 93) [(.tmp 0), (.loc 0)], none, 0⟩, ⟨.len (.loc 0), none, 0⟩] [(36, (.loc 1)), (37, (.loc 0)), (38, (.const (.int .i64 0)))])
                               (.block 3 (.loop (.seq (.region [⟨.bin .lss (.tmp 38) (.tmp 37), none, 0⟩] [(39, (.loc 0))])
                                (.seq (.cond (.tmp 39)
                                  (.skip)
                                  (.exit 3))
                                (.seq (.block 4 (.seq (.region [⟨.iaddr 1 (.tmp 36) (.tmp 38), none, 0⟩, ⟨.load none (.loc 0), none, 0⟩] [(14, (.tmp 38)), (15, (.loc 0))])
                                 (.region [⟨.faddr 3 (.tmp 4), none, 0⟩, ⟨.load none (.loc 0), none, 0⟩, ⟨.iaddr 6 (.loc 0) (.tmp 2), none, 0⟩, ⟨.faddr 2 (.loc 0), none, 0⟩, ⟨.load none (.loc 0), none, 0⟩, ⟨.iaddr 1 (.loc 0) (.tmp 14), none, 0⟩, ⟨.load none (.loc 0), none, 0⟩, ⟨.call (.tmp 9) [(.tmp 15), (.loc 0)], none, 0⟩] [])))
                                (.region [⟨.bin .add (.tmp 38) (.const (.int .i64 1)), none, 0⟩] [(38, (.loc 0))])))))))
                              (.seq (.seq (.region [⟨.bin .eql (.tmp 17) (.const (.int .i64 42)), none, 0⟩] [(40, (.loc 0))])
                                (.cond (.tmp 40)
                                 (.skip)
                                 (.region [⟨.bin .eql (.tmp 17) (.const (.int .i64 43)), none, 0⟩] [(40, (.loc 0))])))
                               (.cond (.tmp 40)
                                (.skip)
                                (.seq (.region [⟨.load (some 4) (.tmp 4), none, 0⟩, ⟨.load (some 2) (.tmp 5), none, 0⟩, ⟨.call (.func 54) [(.loc 1), (.tmp 2), (.loc 0)], none, 0⟩, ⟨.ext (.loc 0) 0, none, 0⟩, ⟨.ext (.loc 1) 1, none, 0⟩] [(16, (.loc 1))])
                                 (.region [⟨.call (.func 93) [(.tmp 0), (.tmp 16)], none, 0⟩, ⟨.call (.func 67) [(.loc 0)], none, 0⟩, ⟨.mkarr 1 [(.int .u64 0)] [(0, 1, (.loc 0))], none, 0⟩, ⟨.call (.tmp 8) [(.loc 0)], none, 0⟩] []))))))))))))))))))))))))))))))))))
  (.seq (.region [] [(6, (.const (.int .u64 0)))])
  (.ret))))⟩
theorem c56_ok : compileFn Try.prog false 56 = some c56 := by kernel_rfl
/-- louver/shape.Check -/
noncomputable def c60 : AFunc := ⟨[0, 1, 2, 3, 4, 5, 6, 7, 8, 9, 10, 32, 35, 36, 37, 38, 49, 54, 55, 56, 57, 64, 69, 70, 71, 72, 99, 101], [.cell 2 (some 3)],
  .seq (.region [⟨.box (.tmp 0), none, 0⟩, ⟨.alloc [(.int .i64 0), (.int .i64 0), (.int .i64 0)], none, 0⟩] [(1, (.loc 1)), (2, (.loc 0))])
  (.scope (.seq (.seq (.region [⟨.faddr 0 (.tmp 1), none, 0⟩, ⟨.load none (.loc 0), none, 0⟩, ⟨.len (.loc 0), none, 0⟩, ⟨.bin .gtr (.loc 0) (.const (.int .i64 32)), none, 0⟩, ⟨.faddr 1 (.tmp 1), (some ((.loc 0), false)), 0⟩, ⟨.load none (.loc 0), (some ((.loc 1), false)), 0⟩, ⟨.len (.loc 0), (some ((.loc 2), false)), 0⟩, ⟨.bin .gtr (.loc 0) (.const (.int .i64 16)), (some ((.loc 3), false)), 0⟩, ⟨.pick (.loc 4) (.const (.bool true)) (.loc 0), none, 0⟩, ⟨.faddr 2 (.tmp 1), (some ((.loc 0), false)), 0⟩, ⟨.load none (.loc 0), (some ((.loc 1), false)), 0⟩, ⟨.len (.loc 0), (some ((.loc 2), false)), 0⟩, ⟨.bin .gtr (.loc 0) (.const (.int .i64 16)), (some ((.loc 3), false)), 0⟩, ⟨.pick (.loc 4) (.const (.bool true)) (.loc 0), none, 0⟩, ⟨.faddr 3 (.tmp 1), (some ((.loc 0), false)), 0⟩, ⟨.load none (.loc 0), (some ((.loc 1), false)), 0⟩, ⟨.len (.loc 0), (some ((.loc 2), false)), 0⟩, ⟨.bin .gtr (.loc 0) (.const (.int .i64 32)), (some ((.loc 3), false)), 0⟩, ⟨.pick (.loc 4) (.const (.bool true)) (.loc 0), none, 0⟩] [(11, (.loc 0))])
   (.cond (.tmp 11)
    (.seq (.region [⟨.build [(.int .i64 0), (.int .i64 0), (.int .i64 0)] [(0, 1, (.const (.int .i64 74))), (1, 1, (.const (.int .i64 (-1))))], none, 0⟩, ⟨.store 3 (.tmp 2) (.loc 0), none, 0⟩] [])
     (.ret))
    (.skip)))
  (.seq (.seq (.region [⟨.faddr 1 (.tmp 1), none, 0⟩, ⟨.load none (.loc 0), none, 0⟩, ⟨.len (.loc 0), none, 0⟩] [(12, (.loc 1)), (13, (.loc 0)), (14, (.const (.int .i64 0)))])
   (.block 0 (.loop (.seq (.region [⟨.bin .lss (.tmp 14) (.tmp 13), none, 0⟩] [(15, (.loc 0))])
    (.seq (.cond (.tmp 15)
      (.skip)
      (.exit 0))
    (.seq (.block 1 (.seq (.region [⟨.iaddr 2 (.tmp 12) (.tmp 14), none, 0⟩, ⟨.load (some 2) (.loc 0), none, 0⟩, ⟨.alloc [(.int .i64 0), (.int .u64 0)], none, 0⟩, ⟨.store 2 (.loc 0) (.loc 1), none, 0⟩] [(3, (.tmp 14)), (4, (.loc 1))])
     (.seq (.region [⟨.faddr 0 (.tmp 4), none, 0⟩, ⟨.load none (.loc 0), none, 0⟩, ⟨.bin .lss (.loc 0) (.const (.int .i64 1)), none, 0⟩, ⟨.faddr 0 (.tmp 4), (some ((.loc 0), false)), 0⟩, ⟨.load none (.loc 0), (some ((.loc 1), false)), 0⟩, ⟨.bin .gtr (.loc 0) (.const (.int .i64 256)), (some ((.loc 2), false)), 0⟩, ⟨.pick (.loc 3) (.const (.bool true)) (.loc 0), none, 0⟩] [(16, (.loc 0))])
     (.cond (.tmp 16)
      (.seq (.region [⟨.build [(.int .i64 0), (.int .i64 0), (.int .i64 0)] [(0, 1, (.const (.int .i64 130))), (1, 1, (.const (.int .i64 (-1)))), (2, 1, (.tmp 3))], none, 0⟩, ⟨.store 3 (.tmp 2) (.loc 0), none, 0⟩] [])
       (.ret))
      (.skip)))))
    (.region [⟨.bin .add (.tmp 14) (.const (.int .i64 1)), none, 0⟩] [(14, (.loc 0))])))))))
  (.seq (.label 0)
  (.seq (.seq (.region [⟨.faddr 3 (.tmp 1), none, 0⟩, ⟨.load none (.loc 0), none, 0⟩, ⟨.len (.loc 0), none, 0⟩] [(17, (.loc 1)), (18, (.loc 0)), (19, (.const (.int .i64 0)))])
   (.block 2 (.loop (.seq (.region [⟨.bin .lss (.tmp 19) (.tmp 18), none, 0⟩] [(20, (.loc 0))])
    (.seq (.cond (.tmp 20)
      (.skip)
      (.exit 2))
    (.seq (.block 3 (.seq (.region [⟨.iaddr 6 (.tmp 17) (.tmp 19), none, 0⟩, ⟨.load (some 6) (.loc 0), none, 0⟩, ⟨.alloc [(.int .u64 0), (.slice none 0 0), (.slice none 0 0), (.int .i64 0), (.int .i64 0), (.slice none 0 0)], none, 0⟩, ⟨.store 6 (.loc 0) (.loc 1), none, 0⟩] [(5, (.tmp 19)), (6, (.loc 1))])
     (.seq (.seq (.region [⟨.load (some 6) (.tmp 6), none, 0⟩, ⟨.call (.func 94) [(.loc 0)], none, 0⟩] [(7, (.loc 0))])
      (.seq (.region [⟨.bin .neq (.tmp 7) (.const (.int .i64 0)), none, 0⟩] [(21, (.loc 0))])
      (.cond (.tmp 21)
       (.seq (.region [⟨.build [(.int .i64 0), (.int .i64 0), (.int .i64 0)] [(0, 1, (.tmp 7)), (1, 1, (.tmp 5)), (2, 1, (.const (.int .i64 (-1))))], none, 0⟩, ⟨.store 3 (.tmp 2) (.loc 0), none, 0⟩] [])
        (.exit 2))
       (.skip))))
     (.seq (.region [⟨.faddr 5 (.tmp 6), none, 0⟩, ⟨.load none (.loc 0), none, 0⟩, ⟨.len (.loc 0), none, 0⟩] [(22, (.loc 1)), (23, (.loc 0)), (24, (.const (.int .i64 0)))])
     (.block 4 (.loop (.seq (.region [⟨.bin .lss (.tmp 24) (.tmp 23), none, 0⟩] [(25, (.loc 0))])
      (.seq (.cond (.tmp 25)
        (.skip)
        (.exit 4))
      (.seq (.block 5 (.seq (.region [⟨.iaddr 2 (.tmp 22) (.tmp 24), none, 0⟩, ⟨.load (some 2) (.loc 0), none, 0⟩, ⟨.alloc [(.int .i64 0), (.int .i64 0)], none, 0⟩, ⟨.store 2 (.loc 0) (.loc 1), none, 0⟩] [(8, (.tmp 24)), (9, (.loc 1))])
       (.seq (.region [⟨.load (some 4) (.tmp 1), none, 0⟩, ⟨.load (some 2) (.tmp 9), none, 0⟩, ⟨.call (.func 95) [(.loc 1), (.tmp 5), (.loc 0)], none, 0⟩] [(10, (.loc 0))])
       (.seq (.seq (.region [⟨.bin .eql (.tmp 10) (.const (.int .i64 0)), none, 0⟩, ⟨.mov (.tmp 8), (some ((.loc 0), true)), 0⟩, ⟨.faddr 5 (.tmp 6), (some ((.loc 1), true)), 0⟩, ⟨.load none (.loc 0), (some ((.loc 2), true)), 0⟩, ⟨.len (.loc 0), (some ((.loc 3), true)), 0⟩, ⟨.bin .sub (.loc 0) (.const (.int .i64 1)), (some ((.loc 4), true)), 0⟩, ⟨.bin .eql (.loc 4) (.loc 0), (some ((.loc 5), true)), 0⟩, ⟨.pick (.loc 6) (.loc 0) (.const (.bool false)), none, 0⟩, ⟨.faddr 0 (.tmp 9), (some ((.loc 0), true)), 0⟩, ⟨.load none (.loc 0), (some ((.loc 1), true)), 0⟩, ⟨.bin .neq (.loc 0) (.const (.int .i64 43)), (some ((.loc 2), true)), 0⟩, ⟨.pick (.loc 3) (.loc 0) (.const (.bool false)), none, 0⟩, ⟨.faddr 0 (.tmp 9), (some ((.loc 0), true)), 0⟩, ⟨.load none (.loc 0), (some ((.loc 1), true)), 0⟩, ⟨.bin .neq (.loc 0) (.const (.int .i64 46)), (some ((.loc 2), true)), 0⟩, ⟨.pick (.loc 3) (.loc 0) (.const (.bool false)), none, 0⟩] [(26, (.loc 0))])
        (.cond (.tmp 26)
         (.region [] [(10, (.const (.int .i64 131)))])
         (.skip)))
       (.seq (.region [⟨.bin .neq (.tmp 10) (.const (.int .i64 0)), none, 0⟩] [(27, (.loc 0))])
       (.cond (.tmp 27)
        (.seq (.region [⟨.build [(.int .i64 0), (.int .i64 0), (.int .i64 0)] [(0, 1, (.tmp 10)), (1, 1, (.tmp 5)), (2, 1, (.tmp 8))], none, 0⟩, ⟨.store 3 (.tmp 2) (.loc 0), none, 0⟩] [])
         (.exit 2))
        (.skip)))))))
      (.region [⟨.bin .add (.tmp 24) (.const (.int .i64 1)), none, 0⟩] [(24, (.loc 0))]))))))))))
    (.region [⟨.bin .add (.tmp 19) (.const (.int .i64 1)), none, 0⟩] [(19, (.loc 0))])))))))
  (.seq (.region [⟨.load (some 3) (.tmp 2), none, 0⟩, ⟨.store 3 (.tmp 2) (.loc 0), none, 0⟩] [])
  (.ret)))))))⟩
theorem c60_ok : compileFn Try.prog false 60 = some c60 := by kernel_rfl
/-- slices.Repeat[[]int,int] -/
noncomputable def c61 : AFunc := ⟨[0, 1, 4, 5, 6, 7, 8, 10, 26, 37], [.tmp 2],
  .seq (.region [] [(2, (.const (.slice none 0 0)))])
  (.seq (.seq (.region [⟨.bin .lss (.tmp 1) (.const (.int .i64 0)), none, 0⟩] [(7, (.loc 0))])
   (.cond (.tmp 7)
    (.region [⟨.bad, none, 0⟩, ⟨.bad, none, 0⟩] [])
    (.skip)))
  (.seq (.region [⟨.len (.tmp 0), none, 0⟩, ⟨.conv .u64 (.loc 0), none, 0⟩, ⟨.conv .u64 (.tmp 1), none, 0⟩, ⟨.call (.func 96) [(.loc 1), (.loc 0)], none, 0⟩, ⟨.ext (.loc 0) 0, none, 0⟩, ⟨.ext (.loc 1) 1, none, 0⟩] [(3, (.loc 1)), (4, (.loc 0))])
  (.seq (.seq (.region [⟨.bin .gtr (.tmp 3) (.const (.int .u64 0)), none, 0⟩, ⟨.mov (.tmp 4), (some ((.loc 0), false)), 0⟩, ⟨.bin .gtr (.loc 0) (.const (.int .u64 9223372036854775807)), (some ((.loc 1), false)), 0⟩, ⟨.pick (.loc 2) (.const (.bool true)) (.loc 0), none, 0⟩] [(8, (.loc 0))])
   (.cond (.tmp 8)
    (.region [⟨.bad, none, 0⟩, ⟨.bad, none, 0⟩] [])
    (.skip)))
  (.seq (.region [⟨.conv .i64 (.tmp 4), none, 0⟩, ⟨.mkslice [(.int .i64 0)] 8 (.loc 0) (.loc 0), none, 0⟩] [(5, (.loc 0))])
  (.seq (.region [⟨.copy 1 (.tmp 5) (.tmp 0), none, 0⟩] [(6, (.loc 0))])
  (.seq (.block 0 (.loop (.seq (.seq (.region [⟨.len (.tmp 5), none, 0⟩, ⟨.bin .lss (.tmp 6) (.loc 0), none, 0⟩] [(9, (.loc 0))])
     (.cond (.tmp 9)
      (.skip)
      (.exit 0)))
    (.block 1 (.draw [⟨.slice 1 (.tmp 5) (some (.tmp 6)) none none, none, 0⟩, ⟨.slice 1 (.tmp 5) none (some (.tmp 6)) none, none, 0⟩, ⟨.copy 1 (.loc 1) (.loc 0), none, 0⟩, ⟨.bin .add (.tmp 6) (.loc 0), none, 1⟩] [(6, (.loc 0))])))))
  (.seq (.region [] [(2, (.tmp 5))])
  (.ret))))))))⟩
theorem c61_ok : compileFn Try.prog false 61 = some c61 := by kernel_rfl
/-- slices.BinarySearch[[]int,int] -/
noncomputable def c62 : AFunc := ⟨[0, 1, 4, 5, 6, 7, 8, 9, 15, 27], [.tmp 2, .tmp 3],
  .seq (.region [] [(2, (.const (.int .i64 0))), (3, (.const (.bool false)))])
  (.seq (.region [⟨.len (.tmp 0), none, 0⟩] [(4, (.loc 0))])
  (.seq (.region [] [(5, (.const (.int .i64 0))), (6, (.tmp 4))])
  (.seq (.block 0 (.loop (.seq (.seq (.region [⟨.bin .lss (.tmp 5) (.tmp 6), none, 0⟩] [(8, (.loc 0))])
     (.cond (.tmp 8)
      (.skip)
      (.exit 0)))
    (.block 1 (.seq (.region [⟨.bin .add (.tmp 5) (.tmp 6), none, 0⟩, ⟨.conv .u64 (.loc 0), none, 0⟩, ⟨.bin .shr (.loc 0) (.const (.int .u64 1)), none, 0⟩, ⟨.conv .i64 (.loc 0), none, 0⟩] [(7, (.loc 0))])
    (.seq (.region [⟨.iaddr 1 (.tmp 0) (.tmp 7), none, 0⟩, ⟨.load none (.loc 0), none, 0⟩, ⟨.call (.func 97) [(.loc 0), (.tmp 1)], none, 0⟩] [(9, (.loc 0))])
    (.cond (.tmp 9)
     (.region [⟨.bin .add (.tmp 7) (.const (.int .i64 1)), none, 0⟩] [(5, (.loc 0))])
     (.region [] [(6, (.tmp 7))]))))))))
  (.seq (.region [⟨.bin .lss (.tmp 5) (.tmp 4), none, 0⟩, ⟨.mov (.tmp 0), (some ((.loc 0), true)), 0⟩, ⟨.mov (.tmp 5), (some ((.loc 1), true)), 0⟩, ⟨.iaddr 1 (.loc 1) (.loc 0), (some ((.loc 2), true)), 0⟩, ⟨.load none (.loc 0), (some ((.loc 3), true)), 0⟩, ⟨.mov (.tmp 1), (some ((.loc 4), true)), 0⟩, ⟨.bin .eql (.loc 1) (.loc 0), (some ((.loc 5), true)), 0⟩, ⟨.mov (.loc 0), (some ((.loc 6), true)), 0⟩, ⟨.mov (.tmp 0), (some ((.loc 0), false)), 0⟩, ⟨.mov (.tmp 5), (some ((.loc 1), false)), 0⟩, ⟨.iaddr 1 (.loc 1) (.loc 0), (some ((.loc 2), false)), 0⟩, ⟨.load none (.loc 0), (some ((.loc 3), false)), 0⟩, ⟨.call (.func 98) [(.loc 0)], (some ((.loc 4), false)), 0⟩, ⟨.mov (.loc 0), (some ((.loc 5), false)), 0⟩, ⟨.mov (.tmp 1), (some ((.loc 0), true)), 0⟩, ⟨.call (.func 98) [(.loc 0)], (some ((.loc 1), true)), 0⟩, ⟨.pick (.loc 2) (.loc 0) (.const (.bool false)), (some ((.loc 8), false)), 0⟩, ⟨.pick (.loc 9) (.const (.bool true)) (.loc 0), (some ((.loc 16), true)), 0⟩, ⟨.pick (.loc 17) (.loc 0) (.const (.bool false)), none, 0⟩] [(2, (.tmp 5)), (3, (.loc 0))])
  (.ret)))))⟩
theorem c62_ok : compileFn Try.prog false 62 = some c62 := by kernel_rfl
/-- louver/louverlaw17.of -/
noncomputable def c66 : AFunc := ⟨[0, 2], [.cell 1 (some 4)],
  .seq (.region [⟨.alloc [(.slice none 0 0), (.slice none 0 0), (.slice none 0 0), (.slice none 0 0)], none, 0⟩] [(1, (.loc 0))])
  (.seq (.region [⟨.mkarr 1 [(.int .u64 0)] [(0, 1, (.const (.int .u64 1)))], none, 0⟩, ⟨.mkarr 1 [(.int .u64 0)] [(0, 1, (.const (.int .u64 2)))], none, 0⟩, ⟨.build [(.int .u64 0), (.slice none 0 0), (.slice none 0 0), (.int .i64 0), (.int .i64 0), (.slice none 0 0)] [(1, 1, (.loc 0)), (3, 1, (.const (.int .i64 1))), (4, 1, (.const (.int .i64 2))), (5, 1, (.tmp 0))], none, 0⟩, ⟨.mkarr 1 [(.int .u64 0), (.slice none 0 0), (.slice none 0 0), (.int .i64 0), (.int .i64 0), (.slice none 0 0)] [(0, 6, (.loc 0))], none, 0⟩, ⟨.build [(.slice none 0 0), (.slice none 0 0), (.slice none 0 0), (.slice none 0 0)] [(0, 1, (.loc 3)), (3, 1, (.loc 0))], none, 0⟩, ⟨.store 4 (.tmp 1) (.loc 0), none, 0⟩] [])
  (.ret))⟩
theorem c66_ok : compileFn Try.prog false 66 = some c66 := by kernel_rfl
/-- louver/bits.Join -/
noncomputable def c67 : AFunc := ⟨[0, 2, 4, 5, 6, 7, 8], [.tmp 1],
  .seq (.region [] [(1, (.const (.int .u64 0)))])
  (.seq (.seq (.region [⟨.len (.tmp 0), none, 0⟩] [(3, (.tmp 0)), (4, (.loc 0)), (5, (.const (.int .i64 0)))])
   (.block 0 (.loop (.seq (.region [⟨.bin .lss (.tmp 5) (.tmp 4), none, 0⟩] [(6, (.loc 0))])
    (.seq (.cond (.tmp 6)
      (.skip)
      (.exit 0))
    (.seq (.block 1 (.seq (.region [⟨.iaddr 1 (.tmp 3) (.tmp 5), none, 0⟩, ⟨.load none (.loc 0), none, 0⟩] [(2, (.loc 0))])
     (.region [⟨.bin .or (.tmp 1) (.tmp 2), none, 0⟩] [(1, (.loc 0))])))
    (.region [⟨.bin .add (.tmp 5) (.const (.int .i64 1)), none, 0⟩] [(5, (.loc 0))])))))))
  (.seq (.region [] [])
  (.ret)))⟩
theorem c67_ok : compileFn Try.prog false 67 = some c67 := by kernel_rfl
/-- louver/graph.to -/
noncomputable def c70 : AFunc := ⟨[0, 1, 4, 5, 6, 7, 8, 9, 10, 20, 26, 33, 45, 61], [.cell 2 (some 2), .tmp 3],
  .seq (.region [⟨.alloc [(.int .i64 0), (.int .i64 0)], none, 0⟩] [(2, (.loc 0)), (3, (.const (.int .i64 0)))])
  (.seq (.region [⟨.alloc [(.int .i64 0), (.int .i64 0)], none, 0⟩] [(4, (.loc 0))])
  (.seq (.region [⟨.alloc [(.int .i64 0)], none, 0⟩, ⟨.store 1 (.loc 0) (.const (.int .i64 0)), none, 0⟩] [(5, (.loc 1))])
  (.seq (.region [⟨.mkfn 102 [] [(.tmp 5), (.tmp 4)], none, 0⟩] [(6, (.loc 0))])
  (.seq (.region [⟨.len (.tmp 0), none, 0⟩, ⟨.bin .sub (.loc 0) (.const (.int .i64 1)), none, 0⟩] [(7, (.loc 0))])
  (.seq (.seq (.region [⟨.iaddr 2 (.tmp 0) (.tmp 1), none, 0⟩, ⟨.load (some 2) (.loc 0), none, 0⟩, ⟨.alloc [(.int .i64 0), (.int .i64 0)], none, 0⟩, ⟨.store 2 (.loc 0) (.loc 1), none, 0⟩] [(8, (.loc 1))])
   (.seq (.region [⟨.faddr 0 (.tmp 8), none, 0⟩, ⟨.load none (.loc 0), none, 0⟩] [(9, (.loc 0))])
   (.block 0 (.seq (.region [⟨.bin .eql (.tmp 9) (.const (.int .i64 43)), none, 0⟩] [(10, (.loc 0))])
   (.cond (.tmp 10)
    (.region [⟨.faddr 1 (.tmp 8), none, 0⟩, ⟨.load none (.loc 0), none, 0⟩, ⟨.call (.tmp 6) [(.loc 0), (.tmp 7)], none, 0⟩] [])
    (.seq (.region [⟨.bin .eql (.tmp 9) (.const (.int .i64 44)), none, 0⟩] [(11, (.loc 0))])
     (.cond (.tmp 11)
      (.seq (.region [⟨.bin .add (.tmp 1) (.const (.int .i64 1)), none, 0⟩, ⟨.call (.tmp 6) [(.loc 0), (.tmp 7)], none, 0⟩] [])
       (.region [⟨.faddr 1 (.tmp 8), none, 0⟩, ⟨.load none (.loc 0), none, 0⟩, ⟨.call (.tmp 6) [(.loc 0), (.tmp 7)], none, 0⟩] []))
      (.seq (.region [⟨.bin .eql (.tmp 9) (.const (.int .i64 46)), none, 0⟩] [(12, (.loc 0))])
       (.cond (.tmp 12)
        (.region [⟨.bin .add (.tmp 7) (.const (.int .i64 1)), none, 0⟩, ⟨.bin .add (.tmp 7) (.const (.int .i64 1)), none, 0⟩, ⟨.call (.tmp 6) [(.loc 1), (.loc 0)], none, 0⟩] [])
        (.region [⟨.bin .add (.tmp 1) (.const (.int .i64 1)), none, 0⟩, ⟨.call (.tmp 6) [(.loc 0), (.tmp 7)], none, 0⟩] []))))))))))
  (.seq (.seq (.region [⟨.load none (.tmp 5), none, 0⟩, ⟨.bin .eql (.loc 0) (.const (.int .i64 2)), none, 0⟩, ⟨.iarr 2 1 (.tmp 4) (.const (.int .i64 0)), (some ((.loc 0), true)), 0⟩, ⟨.load none (.loc 0), (some ((.loc 1), true)), 0⟩, ⟨.iarr 2 1 (.tmp 4) (.const (.int .i64 1)), (some ((.loc 2), true)), 0⟩, ⟨.load none (.loc 0), (some ((.loc 3), true)), 0⟩, ⟨.bin .gtr (.loc 2) (.loc 0), (some ((.loc 4), true)), 0⟩, ⟨.pick (.loc 5) (.loc 0) (.const (.bool false)), none, 0⟩] [(13, (.loc 0))])
   (.cond (.tmp 13)
    (.region [⟨.iarr 2 1 (.tmp 4) (.const (.int .i64 1)), none, 0⟩, ⟨.load none (.loc 0), none, 0⟩, ⟨.iarr 2 1 (.tmp 4) (.const (.int .i64 0)), none, 0⟩, ⟨.load none (.loc 0), none, 0⟩, ⟨.iarr 2 1 (.tmp 4) (.const (.int .i64 0)), none, 0⟩, ⟨.store 1 (.loc 0) (.loc 3), none, 0⟩, ⟨.iarr 2 1 (.tmp 4) (.const (.int .i64 1)), none, 0⟩, ⟨.store 1 (.loc 0) (.loc 3), none, 0⟩] [])
    (.skip)))
  (.seq (.draw [⟨.load (some 2) (.tmp 4), none, 0⟩, ⟨.store 2 (.tmp 2) (.loc 0), none, 0⟩, ⟨.load none (.tmp 5), none, 0⟩] [(3, (.loc 0))])
  (.ret))))))))⟩
theorem c70_ok : compileFn Try.prog false 70 = some c70 := by kernel_rfl
/-- slices.Clip[[]int,int] -/
noncomputable def c71 : AFunc := ⟨[0, 2], [.tmp 1],
  .seq (.region [] [(1, (.const (.slice none 0 0)))])
  (.seq (.region [⟨.len (.tmp 0), none, 0⟩, ⟨.len (.tmp 0), none, 0⟩, ⟨.slice 1 (.tmp 0) none (some (.loc 1)) (some (.loc 0)), none, 0⟩] [(1, (.loc 0))])
  (.ret))⟩
theorem c71_ok : compileFn Try.prog false 71 = some c71 := by kernel_rfl
/-- slices.Clone[[]int,int] -/
noncomputable def c72 : AFunc := ⟨[0, 2, 4], [.tmp 1],
  .seq (.region [] [(1, (.const (.slice none 0 0)))])
  (.seq (.seq (.region [⟨.eqn 0 false (.tmp 0) (.const (.slice none 0 0)), none, 0⟩] [(2, (.loc 0))])
   (.cond (.tmp 2)
    (.seq (.region [] [(1, (.const (.slice none 0 0)))])
     (.ret))
    (.skip)))
  (.seq (.region [⟨.mkarr 0 [] [], none, 0⟩, ⟨.append false 1 8 (.loc 0) (.tmp 0), none, 0⟩] [(1, (.loc 0))])
  (.ret)))⟩
theorem c72_ok : compileFn Try.prog false 72 = some c72 := by kernel_rfl
/-- louver/bits.Within -/
noncomputable def c73 : AFunc := ⟨[0, 1, 4], [.tmp 2],
  .seq (.region [] [(2, (.const (.bool false)))])
  (.seq (.region [⟨.bin .andNot (.tmp 0) (.tmp 1), none, 0⟩, ⟨.bin .eql (.loc 0) (.const (.int .u64 0)), none, 0⟩] [(2, (.loc 0))])
  (.ret))⟩
theorem c73_ok : compileFn Try.prog false 73 = some c73 := by kernel_rfl
/-- (*louver/frame.worker).pop -/
noncomputable def c90 : AFunc := ⟨[0, 2, 3, 4], [.tmp 1],
  .seq (.region [] [(1, (.const (.int .u64 0)))])
  (.seq (.region [⟨.nilchk (.tmp 0), none, 0⟩, ⟨.faddr 0 (.loc 0), none, 0⟩, ⟨.faddr 0 (.loc 0), none, 0⟩, ⟨.load none (.loc 0), none, 0⟩, ⟨.len (.loc 0), none, 0⟩, ⟨.bin .sub (.loc 0) (.const (.int .i64 1)), none, 0⟩] [(2, (.loc 0))])
  (.seq (.region [⟨.nilchk (.tmp 0), none, 0⟩, ⟨.faddr 0 (.loc 0), none, 0⟩, ⟨.faddr 0 (.loc 0), none, 0⟩, ⟨.load none (.loc 0), none, 0⟩, ⟨.iaddr 1 (.loc 0) (.tmp 2), none, 0⟩, ⟨.load none (.loc 0), none, 0⟩] [(3, (.loc 0))])
  (.seq (.region [⟨.nilchk (.tmp 0), none, 0⟩, ⟨.faddr 0 (.loc 0), none, 0⟩, ⟨.faddr 0 (.loc 0), none, 0⟩, ⟨.load none (.loc 0), none, 0⟩, ⟨.slice 1 (.loc 0) none (some (.tmp 2)) none, none, 0⟩, ⟨.nilchk (.tmp 0), none, 0⟩, ⟨.faddr 0 (.loc 0), none, 0⟩, ⟨.faddr 0 (.loc 0), none, 0⟩, ⟨.store 1 (.loc 0) (.loc 3), none, 0⟩] [])
  (.seq (.region [] [(1, (.tmp 3))])
  (.ret)))))⟩
theorem c90_ok : compileFn Try.prog false 90 = some c90 := by kernel_rfl
/-- (*louver/frame.worker).push -/
noncomputable def c91 : AFunc := ⟨[0, 1, 5, 6, 7, 8, 9], [],
  .seq (.region [⟨.len (.tmp 1), none, 0⟩] [(3, (.tmp 1)), (4, (.loc 0)), (5, (.const (.int .i64 0)))])
  (.block 0 (.loop (.seq (.region [⟨.bin .lss (.tmp 5) (.tmp 4), none, 0⟩] [(6, (.loc 0))])
   (.seq (.cond (.tmp 6)
     (.skip)
     (.exit 0))
   (.seq (.block 1 (.seq (.region [⟨.iaddr 1 (.tmp 3) (.tmp 5), none, 0⟩, ⟨.load none (.loc 0), none, 0⟩] [(2, (.loc 0))])
    (.draw [⟨.nilchk (.tmp 0), none, 0⟩, ⟨.faddr 2 (.loc 0), none, 0⟩, ⟨.load none (.loc 0), none, 0⟩, ⟨.mkarr 2 [(.int .u64 0), (.int .u64 0)] [(0, 1, (.tmp 2)), (1, 1, (.loc 0))], none, 0⟩, ⟨.call (.func 67) [(.loc 0)], none, 0⟩, ⟨.nilchk (.tmp 0), none, 0⟩, ⟨.faddr 0 (.loc 0), none, 0⟩, ⟨.faddr 0 (.loc 0), none, 0⟩, ⟨.load none (.loc 0), none, 0⟩, ⟨.mkarr 1 [(.int .u64 0)] [(0, 1, (.loc 4))], none, 1⟩, ⟨.append false 1 8 (.loc 1) (.loc 0), none, 1⟩, ⟨.nilchk (.tmp 0), none, 2⟩, ⟨.faddr 0 (.loc 0), none, 2⟩, ⟨.faddr 0 (.loc 0), none, 2⟩, ⟨.store 1 (.loc 0) (.loc 3), none, 2⟩] [])))
   (.region [⟨.bin .add (.tmp 5) (.const (.int .i64 1)), none, 0⟩] [(5, (.loc 0))]))))))⟩
theorem c91_ok : compileFn Try.prog false 91 = some c91 := by kernel_rfl
/-- (*louver/frame.worker).need -/
noncomputable def c92 : AFunc := ⟨[0, 1, 2], [],
  .region [⟨.nilchk (.tmp 0), none, 0⟩, ⟨.faddr 3 (.loc 0), none, 0⟩, ⟨.load none (.loc 0), none, 0⟩, ⟨.mov (.tmp 1), (some ((.loc 0), true)), 0⟩, ⟨.mov (.tmp 0), (some ((.loc 1), true)), 0⟩, ⟨.nilchk (.loc 0), (some ((.loc 2), true)), 0⟩, ⟨.faddr 2 (.loc 0), (some ((.loc 3), true)), 0⟩, ⟨.load none (.loc 0), (some ((.loc 4), true)), 0⟩, ⟨.mkarr 2 [(.int .u64 0), (.int .u64 0)] [(0, 1, (.loc 4)), (1, 1, (.loc 0))], (some ((.loc 5), true)), 0⟩, ⟨.call (.func 67) [(.loc 0)], (some ((.loc 6), true)), 0⟩, ⟨.mov (.tmp 2), (some ((.loc 7), true)), 0⟩, ⟨.call (.func 73) [(.loc 1), (.loc 0)], (some ((.loc 8), true)), 0⟩, ⟨.pick (.loc 9) (.loc 0) (.const (.bool false)), none, 0⟩, ⟨.nilchk (.tmp 0), none, 0⟩, ⟨.faddr 3 (.loc 0), none, 0⟩, ⟨.store 1 (.loc 0) (.loc 2), none, 0⟩] []⟩
theorem c92_ok : compileFn Try.prog false 92 = some c92 := by kernel_rfl
/-- (*louver/frame.worker).last -/
noncomputable def c93 : AFunc := ⟨[0, 1, 4, 5, 6], [.tmp 2],
  .seq (.region [] [(2, (.const (.slice none 0 0)))])
  (.seq (.region [⟨.nilchk (.tmp 0), none, 0⟩, ⟨.faddr 0 (.loc 0), none, 0⟩, ⟨.faddr 0 (.loc 0), none, 0⟩, ⟨.load none (.loc 0), none, 0⟩, ⟨.len (.loc 0), none, 0⟩, ⟨.bin .sub (.loc 0) (.tmp 1), none, 0⟩] [(3, (.loc 0))])
  (.seq (.region [⟨.nilchk (.tmp 0), none, 0⟩, ⟨.faddr 0 (.loc 0), none, 0⟩, ⟨.faddr 0 (.loc 0), none, 0⟩, ⟨.load none (.loc 0), none, 0⟩, ⟨.slice 1 (.loc 0) (some (.tmp 3)) none none, none, 0⟩, ⟨.call (.func 55) [(.loc 0)], none, 0⟩] [(4, (.loc 0))])
  (.seq (.region [⟨.nilchk (.tmp 0), none, 0⟩, ⟨.faddr 0 (.loc 0), none, 0⟩, ⟨.faddr 0 (.loc 0), none, 0⟩, ⟨.load none (.loc 0), none, 0⟩, ⟨.slice 1 (.loc 0) none (some (.tmp 3)) none, none, 0⟩, ⟨.nilchk (.tmp 0), none, 0⟩, ⟨.faddr 0 (.loc 0), none, 0⟩, ⟨.faddr 0 (.loc 0), none, 0⟩, ⟨.store 1 (.loc 0) (.loc 3), none, 0⟩] [])
  (.seq (.region [] [(2, (.tmp 4))])
  (.ret)))))⟩
theorem c93_ok : compileFn Try.prog false 93 = some c93 := by kernel_rfl
/-- louver/shape.head -/
noncomputable def c94 : AFunc := ⟨[0, 1, 2, 3, 30, 39], [.tmp 2],
  .seq (.region [⟨.box (.tmp 0), none, 0⟩] [(1, (.loc 0)), (2, (.const (.int .i64 0)))])
  (.seq (.block 0 (.seq (.region [⟨.faddr 1 (.tmp 1), none, 0⟩, ⟨.load none (.loc 0), none, 0⟩, ⟨.len (.loc 0), none, 0⟩, ⟨.bin .gtr (.loc 0) (.const (.int .i64 8)), none, 0⟩, ⟨.faddr 2 (.tmp 1), (some ((.loc 0), false)), 0⟩, ⟨.load none (.loc 0), (some ((.loc 1), false)), 0⟩, ⟨.len (.loc 0), (some ((.loc 2), false)), 0⟩, ⟨.bin .gtr (.loc 0) (.const (.int .i64 4)), (some ((.loc 3), false)), 0⟩, ⟨.pick (.loc 4) (.const (.bool true)) (.loc 0), none, 0⟩, ⟨.faddr 5 (.tmp 1), (some ((.loc 0), false)), 0⟩, ⟨.load none (.loc 0), (some ((.loc 1), false)), 0⟩, ⟨.len (.loc 0), (some ((.loc 2), false)), 0⟩, ⟨.bin .gtr (.loc 0) (.const (.int .i64 2048)), (some ((.loc 3), false)), 0⟩, ⟨.pick (.loc 4) (.const (.bool true)) (.loc 0), none, 0⟩, ⟨.faddr 3 (.tmp 1), (some ((.loc 0), false)), 0⟩, ⟨.load none (.loc 0), (some ((.loc 1), false)), 0⟩, ⟨.bin .gtr (.loc 0) (.const (.int .i64 32)), (some ((.loc 2), false)), 0⟩, ⟨.pick (.loc 3) (.const (.bool true)) (.loc 0), none, 0⟩, ⟨.faddr 4 (.tmp 1), (some ((.loc 0), false)), 0⟩, ⟨.load none (.loc 0), (some ((.loc 1), false)), 0⟩, ⟨.bin .gtr (.loc 0) (.const (.int .i64 64)), (some ((.loc 2), false)), 0⟩, ⟨.pick (.loc 3) (.const (.bool true)) (.loc 0), none, 0⟩] [(3, (.loc 0))])
   (.cond (.tmp 3)
    (.seq (.region [] [(2, (.const (.int .i64 74)))])
     (.ret))
    (.seq (.region [⟨.faddr 3 (.tmp 1), none, 0⟩, ⟨.load none (.loc 0), none, 0⟩, ⟨.bin .lss (.loc 0) (.const (.int .i64 0)), none, 0⟩, ⟨.faddr 4 (.tmp 1), (some ((.loc 0), false)), 0⟩, ⟨.load none (.loc 0), (some ((.loc 1), false)), 0⟩, ⟨.bin .lss (.loc 0) (.const (.int .i64 0)), (some ((.loc 2), false)), 0⟩, ⟨.pick (.loc 3) (.const (.bool true)) (.loc 0), none, 0⟩] [(4, (.loc 0))])
     (.cond (.tmp 4)
      (.seq (.region [] [(2, (.const (.int .i64 130)))])
       (.ret))
      (.seq (.region [⟨.faddr 5 (.tmp 1), none, 0⟩, ⟨.load none (.loc 0), none, 0⟩, ⟨.len (.loc 0), none, 0⟩, ⟨.bin .eql (.loc 0) (.const (.int .i64 0)), none, 0⟩] [(5, (.loc 0))])
       (.cond (.tmp 5)
        (.seq (.region [] [(2, (.const (.int .i64 132)))])
         (.ret))
        (.skip))))))))
  (.seq (.region [] [(2, (.const (.int .i64 0)))])
  (.ret)))⟩
theorem c94_ok : compileFn Try.prog false 94 = some c94 := by kernel_rfl
/-- louver/shape.Instr -/
noncomputable def c95 : AFunc := ⟨[0, 1, 2, 3, 5, 6, 7, 16, 18, 19, 21, 23, 25, 27, 29, 31, 33, 35, 37, 39, 41, 76, 85], [.tmp 5],
  .seq (.region [⟨.box (.tmp 0), none, 0⟩, ⟨.box (.tmp 2), none, 0⟩] [(3, (.loc 1)), (4, (.loc 0)), (5, (.const (.int .i64 0)))])
  (.seq (.seq (.region [⟨.bin .lss (.tmp 1) (.const (.int .i64 0)), none, 0⟩, ⟨.mov (.tmp 1), (some ((.loc 0), false)), 0⟩, ⟨.faddr 3 (.tmp 3), (some ((.loc 1), false)), 0⟩, ⟨.load none (.loc 0), (some ((.loc 2), false)), 0⟩, ⟨.len (.loc 0), (some ((.loc 3), false)), 0⟩, ⟨.bin .geq (.loc 3) (.loc 0), (some ((.loc 4), false)), 0⟩, ⟨.pick (.loc 5) (.const (.bool true)) (.loc 0), none, 0⟩] [(7, (.loc 0))])
   (.cond (.tmp 7)
    (.seq (.region [] [(5, (.const (.int .i64 1)))])
     (.ret))
    (.skip)))
  (.seq (.region [] [(6, (.const (.int .i64 1)))])
  (.seq (.seq (.region [⟨.faddr 0 (.tmp 4), none, 0⟩, ⟨.load none (.loc 0), none, 0⟩] [(8, (.loc 0))])
   (.block 0 (.seq (.block 13 (.seq (.block 12 (.seq (.block 11 (.seq (.block 10 (.seq (.block 9 (.block 8 (.seq (.block 7 (.block 6 (.seq (.block 5 (.block 4 (.seq (.block 3 (.block 2 (.seq (.block 1 (.seq (.seq (.seq (.region [⟨.bin .eql (.tmp 8) (.const (.int .i64 32)), none, 0⟩] [(9, (.loc 0))])
              (.cond (.tmp 9)
               (.exit 1)
               (.skip)))
             (.seq (.seq (.region [⟨.bin .eql (.tmp 8) (.const (.int .i64 33)), none, 0⟩] [(10, (.loc 0))])
              (.cond (.tmp 10)
               (.exit 2)
               (.skip)))
             (.seq (.seq (.region [⟨.bin .eql (.tmp 8) (.const (.int .i64 34)), none, 0⟩] [(11, (.loc 0))])
              (.cond (.tmp 11)
               (.exit 3)
               (.skip)))
             (.seq (.seq (.region [⟨.bin .eql (.tmp 8) (.const (.int .i64 35)), none, 0⟩] [(12, (.loc 0))])
              (.cond (.tmp 12)
               (.exit 4)
               (.skip)))
             (.seq (.seq (.region [⟨.bin .eql (.tmp 8) (.const (.int .i64 36)), none, 0⟩] [(13, (.loc 0))])
              (.cond (.tmp 13)
               (.exit 5)
               (.skip)))
             (.seq (.seq (.region [⟨.bin .eql (.tmp 8) (.const (.int .i64 37)), none, 0⟩] [(14, (.loc 0))])
              (.cond (.tmp 14)
               (.exit 6)
               (.skip)))
             (.seq (.seq (.region [⟨.bin .eql (.tmp 8) (.const (.int .i64 38)), none, 0⟩] [(15, (.loc 0))])
              (.cond (.tmp 15)
               (.exit 7)
               (.skip)))
             (.seq (.seq (.region [⟨.bin .eql (.tmp 8) (.const (.int .i64 43)), none, 0⟩] [(16, (.loc 0))])
              (.cond (.tmp 16)
               (.exit 8)
               (.skip)))
             (.seq (.seq (.region [⟨.bin .eql (.tmp 8) (.const (.int .i64 44)), none, 0⟩] [(17, (.loc 0))])
              (.cond (.tmp 17)
               (.exit 9)
               (.skip)))
             (.seq (.seq (.region [⟨.bin .eql (.tmp 8) (.const (.int .i64 45)), none, 0⟩] [(18, (.loc 0))])
              (.cond (.tmp 18)
               (.exit 10)
               (.skip)))
             (.seq (.seq (.region [⟨.bin .eql (.tmp 8) (.const (.int .i64 47)), none, 0⟩] [(19, (.loc 0))])
              (.cond (.tmp 19)
               (.exit 11)
               (.skip)))
             (.seq (.seq (.region [⟨.bin .eql (.tmp 8) (.const (.int .i64 39)), none, 0⟩] [(20, (.loc 0))])
              (.cond (.tmp 20)
               (.skip)
               (.seq (.region [⟨.bin .eql (.tmp 8) (.const (.int .i64 40)), none, 0⟩] [(20, (.loc 0))])
                (.cond (.tmp 20)
                 (.skip)
                 (.seq (.region [⟨.bin .eql (.tmp 8) (.const (.int .i64 41)), none, 0⟩] [(20, (.loc 0))])
                  (.cond (.tmp 20)
                   (.skip)
                   (.seq (.region [⟨.bin .eql (.tmp 8) (.const (.int .i64 42)), none, 0⟩] [(20, (.loc 0))])
                    (.cond (.tmp 20)
                     (.skip)
                     (.region [⟨.bin .eql (.tmp 8) (.const (.int .i64 46)), none, 0⟩] [(20, (.loc 0))])))))))))
             (.cond (.tmp 20)
              (.exit 12)
              (.skip))))))))))))))
            (.exit 13)))
           (.seq (.seq (.region [] [(5, (.const (.int .i64 0)))])
            (.ret))
           (.exit 0)))))
          (.seq (.region [⟨.load (some 4) (.tmp 3), none, 0⟩, ⟨.call (.func 53) [(.loc 0), (.tmp 1)], none, 0⟩] [(6, (.loc 0))])
          (.exit 0)))))
         (.seq (.region [⟨.faddr 0 (.tmp 3), none, 0⟩, ⟨.load none (.loc 0), none, 0⟩, ⟨.len (.loc 0), none, 0⟩] [(6, (.loc 0))])
         (.exit 0)))))
        (.seq (.region [⟨.faddr 1 (.tmp 3), none, 0⟩, ⟨.load none (.loc 0), none, 0⟩, ⟨.len (.loc 0), none, 0⟩] [(6, (.loc 0))])
        (.exit 0)))))
       (.seq (.region [⟨.faddr 3 (.tmp 3), none, 0⟩, ⟨.load none (.loc 0), none, 0⟩, ⟨.iaddr 6 (.loc 0) (.tmp 1), none, 0⟩, ⟨.faddr 5 (.loc 0), none, 0⟩, ⟨.load none (.loc 0), none, 0⟩, ⟨.len (.loc 0), none, 0⟩] [(6, (.loc 0))])
       (.exit 0))))
      (.seq (.region [⟨.faddr 3 (.tmp 3), none, 0⟩, ⟨.load none (.loc 0), none, 0⟩, ⟨.len (.loc 0), none, 0⟩] [(6, (.loc 0))])
      (.exit 0))))
     (.seq (.region [⟨.faddr 2 (.tmp 3), none, 0⟩, ⟨.load none (.loc 0), none, 0⟩, ⟨.len (.loc 0), none, 0⟩] [(6, (.loc 0))])
     (.exit 0))))
    (.exit 0)))
   (.seq (.seq (.region [⟨.faddr 0 (.tmp 4), none, 0⟩, ⟨.load none (.loc 0), none, 0⟩, ⟨.bin .lss (.loc 0) (.const (.int .i64 1)), none, 0⟩, ⟨.faddr 0 (.tmp 4), (some ((.loc 0), false)), 0⟩, ⟨.load none (.loc 0), (some ((.loc 1), false)), 0⟩, ⟨.bin .gtr (.loc 0) (.const (.int .i64 17)), (some ((.loc 2), false)), 0⟩, ⟨.pick (.loc 3) (.const (.bool true)) (.loc 0), none, 0⟩] [(21, (.loc 0))])
    (.cond (.tmp 21)
     (.seq (.region [] [(5, (.const (.int .i64 100)))])
      (.ret))
     (.skip)))
   (.exit 0)))))
  (.seq (.seq (.region [⟨.faddr 1 (.tmp 4), none, 0⟩, ⟨.load none (.loc 0), none, 0⟩, ⟨.bin .lss (.loc 0) (.const (.int .i64 0)), none, 0⟩, ⟨.faddr 1 (.tmp 4), (some ((.loc 0), false)), 0⟩, ⟨.load none (.loc 0), (some ((.loc 1), false)), 0⟩, ⟨.mov (.tmp 6), (some ((.loc 2), false)), 0⟩, ⟨.bin .geq (.loc 1) (.loc 0), (some ((.loc 3), false)), 0⟩, ⟨.pick (.loc 4) (.const (.bool true)) (.loc 0), none, 0⟩] [(22, (.loc 0))])
   (.cond (.tmp 22)
    (.seq (.region [] [(5, (.const (.int .i64 130)))])
     (.ret))
    (.skip)))
  (.seq (.region [] [(5, (.const (.int .i64 0)))])
  (.ret))))))⟩
theorem c95_ok : compileFn Try.prog false 95 = some c95 := by kernel_rfl
/-- math/bits.Mul -/
noncomputable def c96 : AFunc := ⟨[0, 1, 4, 5, 6, 7, 8, 9], [.tmp 2, .tmp 3],
  .seq (.region [] [(2, (.const (.int .u64 0))), (3, (.const (.int .u64 0)))])
  (.seq (.cond (.const (.bool false))
    (.seq (.region [⟨.conv .u32 (.tmp 0), none, 0⟩, ⟨.conv .u32 (.tmp 1), none, 0⟩, ⟨.call (.func 112) [(.loc 1), (.loc 0)], none, 0⟩, ⟨.ext (.loc 0) 0, none, 0⟩, ⟨.ext (.loc 1) 1, none, 0⟩] [(4, (.loc 1)), (5, (.loc 0))])
     (.seq (.region [⟨.conv .u64 (.tmp 4), none, 0⟩, ⟨.conv .u64 (.tmp 5), none, 0⟩] [(2, (.loc 1)), (3, (.loc 0))])
     (.ret)))
    (.skip))
  (.seq (.region [⟨.call (.func 113) [(.tmp 0), (.tmp 1)], none, 0⟩, ⟨.ext (.loc 0) 0, none, 0⟩, ⟨.ext (.loc 1) 1, none, 0⟩] [(6, (.loc 1)), (7, (.loc 0))])
  (.seq (.region [] [(2, (.tmp 6)), (3, (.tmp 7))])
  (.ret))))⟩
theorem c96_ok : compileFn Try.prog false 96 = some c96 := by kernel_rfl
/-- cmp.Less[int] -/
noncomputable def c97 : AFunc := ⟨[0, 1, 4], [.tmp 2],
  .seq (.region [] [(2, (.const (.bool false)))])
  (.seq (.region [⟨.call (.func 114) [(.tmp 0)], none, 0⟩, ⟨.mov (.tmp 1), (some ((.loc 0), true)), 0⟩, ⟨.call (.func 114) [(.loc 0)], (some ((.loc 1), true)), 0⟩, ⟨.not (.loc 0), (some ((.loc 2), true)), 0⟩, ⟨.pick (.loc 3) (.loc 0) (.const (.bool false)), none, 0⟩, ⟨.mov (.tmp 0), (some ((.loc 0), false)), 0⟩, ⟨.mov (.tmp 1), (some ((.loc 1), false)), 0⟩, ⟨.bin .lss (.loc 1) (.loc 0), (some ((.loc 2), false)), 0⟩, ⟨.pick (.loc 3) (.const (.bool true)) (.loc 0), none, 0⟩] [(2, (.loc 0))])
  (.ret))⟩
theorem c97_ok : compileFn Try.prog false 97 = some c97 := by kernel_rfl
/-- slices.isNaN[int] -/
noncomputable def c98 : AFunc := ⟨[0, 2], [.tmp 1],
  .seq (.region [] [(1, (.const (.bool false)))])
  (.seq (.region [⟨.bin .neq (.tmp 0) (.tmp 0), none, 0⟩] [(1, (.loc 0))])
  (.ret))⟩
theorem c98_ok : compileFn Try.prog false 98 = some c98 := by kernel_rfl
/-- louver/graph.to$1 -/
noncomputable def c102 : AFunc := ⟨[0, 1, 2, 3, 22], [],
  .seq (.region [⟨.bin .geq (.tmp 0) (.const (.int .i64 0)), none, 0⟩, ⟨.mov (.tmp 0), (some ((.loc 0), true)), 0⟩, ⟨.mov (.tmp 1), (some ((.loc 1), true)), 0⟩, ⟨.bin .leq (.loc 1) (.loc 0), (some ((.loc 2), true)), 0⟩, ⟨.pick (.loc 3) (.loc 0) (.const (.bool false)), none, 0⟩, ⟨.load none (.tmp 2), (some ((.loc 0), true)), 0⟩, ⟨.bin .eql (.loc 0) (.const (.int .i64 0)), (some ((.loc 1), true)), 0⟩, ⟨.mov (.loc 0), (some ((.loc 2), true)), 0⟩, ⟨.iarr 2 1 (.tmp 3) (.const (.int .i64 0)), (some ((.loc 0), false)), 0⟩, ⟨.load none (.loc 0), (some ((.loc 1), false)), 0⟩, ⟨.mov (.tmp 0), (some ((.loc 2), false)), 0⟩, ⟨.bin .neq (.loc 1) (.loc 0), (some ((.loc 3), false)), 0⟩, ⟨.pick (.loc 4) (.const (.bool true)) (.loc 0), (some ((.loc 7), true)), 0⟩, ⟨.pick (.loc 8) (.loc 0) (.const (.bool false)), none, 0⟩] [(4, (.loc 0))])
  (.cond (.tmp 4)
   (.seq (.region [⟨.load none (.tmp 2), none, 0⟩, ⟨.iarr 2 1 (.tmp 3) (.loc 0), none, 0⟩, ⟨.store 1 (.loc 0) (.tmp 0), none, 0⟩] [])
    (.region [⟨.load none (.tmp 2), none, 0⟩, ⟨.bin .add (.loc 0) (.const (.int .i64 1)), none, 0⟩, ⟨.store 1 (.tmp 2) (.loc 0), none, 0⟩] []))
   (.skip))⟩
theorem c102_ok : compileFn Try.prog false 102 = some c102 := by kernel_rfl
/-- math/bits.Mul32 -/
noncomputable def c112 : AFunc := ⟨[0, 1, 4, 5, 6], [.tmp 2, .tmp 3],
  .seq (.region [] [(2, (.const (.int .u32 0))), (3, (.const (.int .u32 0)))])
  (.seq (.region [⟨.conv .u64 (.tmp 0), none, 0⟩, ⟨.conv .u64 (.tmp 1), none, 0⟩, ⟨.bin .mul (.loc 1) (.loc 0), none, 0⟩] [(4, (.loc 0))])
  (.seq (.region [⟨.bin .shr (.tmp 4) (.const (.int .u64 32)), none, 0⟩, ⟨.conv .u32 (.loc 0), none, 0⟩, ⟨.conv .u32 (.tmp 4), none, 0⟩] [(2, (.loc 1)), (3, (.loc 0))])
  (.ret)))⟩
theorem c112_ok : compileFn Try.prog false 112 = some c112 := by kernel_rfl
/-- math/bits.Mul64 -/
noncomputable def c113 : AFunc := ⟨[0, 1, 4, 5, 6, 7, 8, 9, 10, 11, 12, 13], [.tmp 2, .tmp 3],
  .seq (.region [] [(2, (.const (.int .u64 0))), (3, (.const (.int .u64 0)))])
  (.seq (.region [⟨.bin .and (.tmp 0) (.const (.int .u64 4294967295)), none, 0⟩] [(4, (.loc 0))])
  (.seq (.region [⟨.bin .shr (.tmp 0) (.const (.int .u64 32)), none, 0⟩] [(5, (.loc 0))])
  (.seq (.region [⟨.bin .and (.tmp 1) (.const (.int .u64 4294967295)), none, 0⟩] [(6, (.loc 0))])
  (.seq (.region [⟨.bin .shr (.tmp 1) (.const (.int .u64 32)), none, 0⟩] [(7, (.loc 0))])
  (.seq (.region [⟨.bin .mul (.tmp 4) (.tmp 6), none, 0⟩] [(8, (.loc 0))])
  (.seq (.region [⟨.bin .mul (.tmp 5) (.tmp 6), none, 0⟩, ⟨.bin .shr (.tmp 8) (.const (.int .u64 32)), none, 0⟩, ⟨.bin .add (.loc 1) (.loc 0), none, 0⟩] [(9, (.loc 0))])
  (.seq (.region [⟨.bin .and (.tmp 9) (.const (.int .u64 4294967295)), none, 0⟩] [(10, (.loc 0))])
  (.seq (.region [⟨.bin .shr (.tmp 9) (.const (.int .u64 32)), none, 0⟩] [(11, (.loc 0))])
  (.seq (.region [⟨.bin .mul (.tmp 4) (.tmp 7), none, 0⟩, ⟨.bin .add (.tmp 10) (.loc 0), none, 0⟩] [(10, (.loc 0))])
  (.seq (.region [⟨.bin .mul (.tmp 5) (.tmp 7), none, 0⟩, ⟨.bin .add (.loc 0) (.tmp 11), none, 0⟩, ⟨.bin .shr (.tmp 10) (.const (.int .u64 32)), none, 0⟩, ⟨.bin .add (.loc 1) (.loc 0), none, 0⟩] [(2, (.loc 0))])
  (.seq (.region [⟨.bin .mul (.tmp 0) (.tmp 1), none, 0⟩] [(3, (.loc 0))])
  (.ret))))))))))))⟩
theorem c113_ok : compileFn Try.prog false 113 = some c113 := by kernel_rfl
/-- cmp.isNaN[int] -/
noncomputable def c114 : AFunc := ⟨[0, 2], [.tmp 1],
  .seq (.region [] [(1, (.const (.bool false)))])
  (.seq (.region [⟨.bin .neq (.tmp 0) (.tmp 0), none, 0⟩] [(1, (.loc 0))])
  (.ret))⟩
theorem c114_ok : compileFn Try.prog false 114 = some c114 := by kernel_rfl
noncomputable def list : List (Option AFunc) := [none, none, none, none, none, none, none, none, none, none, none, none, none, none, none, some c15, none, none, none, none, some c20, none, none, none, some c24, none, none, some c27, none, none, none, none, some c32, none, none, none, none, none, none, some c39, none, none, none, none, none, none, none, none, none, none, none, none, some c52, some c53, some c54, some c55, some c56, none, none, none, some c60, some c61, some c62, none, none, none, some c66, some c67, none, none, some c70, some c71, some c72, some c73, none, none, none, none, none, none, none, none, none, none, none, none, none, none, none, none, some c90, some c91, some c92, some c93, some c94, some c95, some c96, some c97, some c98, none, none, none, some c102, none, none, none, none, none, none, none, none, none, some c112, some c113, some c114]
noncomputable def fns : TV (Option AFunc) := Vec.ofList list
noncomputable def ext (f : FuncId) (args : List Value) (H : AH TV) : Option (Value × AH TV) := bif Nat.beq f 63 then ains 63 f args H else none
noncomputable def E : Env TV := { P := Try.prog, fn := fun f => (Vec.get fns f).getD none, ext := ext }
theorem all_ok : OkFrom Try.prog 0 list := ⟨⟨false, c15_ok⟩, ⟨⟨false, c20_ok⟩, ⟨⟨false, c24_ok⟩, ⟨⟨false, c27_ok⟩, ⟨⟨false, c32_ok⟩, ⟨⟨false, c39_ok⟩, ⟨⟨false, c52_ok⟩, ⟨⟨false, c53_ok⟩, ⟨⟨false, c54_ok⟩, ⟨⟨false, c55_ok⟩, ⟨⟨false, c56_ok⟩, ⟨⟨false, c60_ok⟩, ⟨⟨false, c61_ok⟩, ⟨⟨false, c62_ok⟩, ⟨⟨false, c66_ok⟩, ⟨⟨false, c67_ok⟩, ⟨⟨false, c70_ok⟩, ⟨⟨false, c71_ok⟩, ⟨⟨false, c72_ok⟩, ⟨⟨false, c73_ok⟩, ⟨⟨false, c90_ok⟩, ⟨⟨false, c91_ok⟩, ⟨⟨false, c92_ok⟩, ⟨⟨false, c93_ok⟩, ⟨⟨false, c94_ok⟩, ⟨⟨false, c95_ok⟩, ⟨⟨false, c96_ok⟩, ⟨⟨false, c97_ok⟩, ⟨⟨false, c98_ok⟩, ⟨⟨false, c102_ok⟩, ⟨⟨false, c112_ok⟩, ⟨⟨false, c113_ok⟩, ⟨⟨false, c114_ok⟩, trivial⟩⟩⟩⟩⟩⟩⟩⟩⟩⟩⟩⟩⟩⟩⟩⟩⟩⟩⟩⟩⟩⟩⟩⟩⟩⟩⟩⟩⟩⟩⟩⟩⟩
theorem ext_ok (f : FuncId) (args : List Value) (H : AH TV) (v : Value) (H' : AH TV) (h : ext f args H = some (v, H')) : CallsOk Try.prog f args H v H' := by
  unfold ext at h
  cases hb : Nat.beq f 63 with
  | true =>
    rw [hb] at h
    exact FrIns.ins_ok h
  | false =>
  rw [hb] at h
  cases h
theorem env_ok : EnvOk E := ⟨fun f fn h => fn_of all_ok h, ext_ok, draw_ok (by kernel_rfl)⟩
end Go.Proofs.Ytollibkfagjnaaa.FrameAwake
