/- The functions that louver/louverlaw16.RegionRises reaches, compiled; that each is what 'compileFn' comes to. PRINTED by code.py. -/
import Derived.Test.YtollibkfagjnaaaAMb
import Derived.Test.YtollibkfagjnaaaRegionAwakeRun
import Derived.Test.YtollibkfagjnaaaRegionAwakeCode
import Derived.Test.YtollibkfagjnaaaProg
import Derived.KernelRfl
set_option linter.unusedVariables false
set_option maxRecDepth 100000
namespace Go.Proofs.Ytollibkfagjnaaa.Graph
open Go.Proofs.Ytollibkfagjnaaa.AM
/-- louver/louverlaw16.RegionRises -/
noncomputable def c11 : AFunc := ⟨[0, 1, 2, 3, 4, 5, 10, 11, 12, 13, 14, 15, 16, 17, 18, 19, 28, 37, 40, 50, 59, 74, 85, 103, 129], [.tmp 6],
  .seq (.region [⟨.box (.tmp 0), none, 0⟩] [(5, (.loc 0)), (6, (.const (.bool false)))])
  (.seq (.region [⟨.faddr 5 (.tmp 5), none, 0⟩, ⟨.load none (.loc 0), none, 0⟩, ⟨.len (.loc 0), none, 0⟩] [(7, (.loc 0))])
  (.seq (.seq (.region [⟨.bin .gtr (.tmp 7) (.const (.int .i64 40)), none, 0⟩, ⟨.call (.func 34) [], (some ((.loc 0), false)), 0⟩, ⟨.not (.loc 0), (some ((.loc 1), false)), 0⟩, ⟨.pick (.loc 2) (.const (.bool true)) (.loc 0), none, 0⟩] [(16, (.loc 0))])
   (.cond (.tmp 16)
    (.seq (.region [⟨.call (.func 34) [], none, 0⟩] [(6, (.loc 0))])
     (.ret))
    (.skip)))
  (.seq (.region [⟨.load (some 6) (.tmp 5), none, 0⟩, ⟨.call (.func 37) [(.loc 0), (.tmp 1), (.tmp 2)], none, 0⟩] [(8, (.loc 0))])
  (.seq (.seq (.region [⟨.len (.tmp 8), none, 0⟩, ⟨.bin .neq (.loc 0) (.tmp 7), none, 0⟩] [(17, (.loc 0))])
   (.cond (.tmp 17)
    (.seq (.region [] [(6, (.const (.bool false)))])
     (.ret))
    (.skip)))
  (.seq (.seq (.region [] [(9, (.const (.int .i64 0)))])
   (.block 0 (.loop (.seq (.seq (.region [⟨.bin .lss (.tmp 9) (.tmp 7), none, 0⟩] [(18, (.loc 0))])
     (.cond (.tmp 18)
      (.skip)
      (.exit 0)))
    (.seq (.block 1 (.seq (.region [] [(10, (.tmp 1))])
     (.seq (.region [⟨.load (some 6) (.tmp 5), none, 0⟩, ⟨.call (.func 43) [(.loc 0), (.tmp 9)], none, 0⟩] [(11, (.loc 0))])
     (.seq (.seq (.region [] [(12, (.const (.int .i64 0)))])
      (.block 2 (.loop (.seq (.seq (.region [⟨.len (.tmp 11), none, 0⟩, ⟨.bin .lss (.tmp 12) (.loc 0), none, 0⟩] [(19, (.loc 0))])
        (.cond (.tmp 19)
         (.skip)
         (.exit 2)))
       (.seq (.block 3 (.seq (.region [⟨.iaddr 1 (.tmp 11) (.tmp 12), none, 0⟩, ⟨.load none (.loc 0), none, 0⟩, ⟨.len (.tmp 2), none, 0⟩, ⟨.bin .lss (.loc 1) (.loc 0), none, 0⟩] [(20, (.loc 0))])
        (.cond (.tmp 20)
         (.region [⟨.iaddr 1 (.tmp 11) (.tmp 12), none, 0⟩, ⟨.load none (.loc 0), none, 0⟩, ⟨.iaddr 1 (.tmp 2) (.loc 0), none, 0⟩, ⟨.load none (.loc 0), none, 0⟩, ⟨.bin .or (.tmp 10) (.loc 0), none, 0⟩] [(10, (.loc 0))])
         (.skip))))
       (.region [⟨.bin .add (.tmp 12) (.const (.int .i64 1)), none, 0⟩] [(12, (.loc 0))]))))))
     (.seq (.region [⟨.iaddr 1 (.tmp 8) (.tmp 9), none, 0⟩, ⟨.load none (.loc 0), none, 0⟩, ⟨.bin .neq (.loc 0) (.tmp 10), none, 0⟩] [(21, (.loc 0))])
     (.cond (.tmp 21)
      (.seq (.region [] [(6, (.const (.bool false)))])
       (.ret))
      (.skip)))))))
    (.region [⟨.bin .add (.tmp 9) (.const (.int .i64 1)), none, 0⟩] [(9, (.loc 0))]))))))
  (.seq (.region [] [(13, (.const (.slice none 0 0)))])
  (.seq (.region [⟨.append false 1 8 (.tmp 13) (.tmp 2), none, 0⟩] [(13, (.loc 0))])
  (.seq (.seq (.region [⟨.bin .geq (.tmp 3) (.const (.int .i64 0)), none, 0⟩, ⟨.mov (.tmp 3), (some ((.loc 0), true)), 0⟩, ⟨.mov (.tmp 13), (some ((.loc 1), true)), 0⟩, ⟨.len (.loc 0), (some ((.loc 2), true)), 0⟩, ⟨.bin .lss (.loc 2) (.loc 0), (some ((.loc 3), true)), 0⟩, ⟨.pick (.loc 4) (.loc 0) (.const (.bool false)), none, 0⟩] [(22, (.loc 0))])
   (.cond (.tmp 22)
    (.region [⟨.iaddr 1 (.tmp 13) (.tmp 3), none, 0⟩, ⟨.load none (.loc 0), none, 0⟩, ⟨.bin .or (.loc 0) (.tmp 4), none, 0⟩, ⟨.iaddr 1 (.tmp 13) (.tmp 3), none, 0⟩, ⟨.store 1 (.loc 0) (.loc 1), none, 0⟩] [])
    (.skip)))
  (.seq (.region [⟨.load (some 6) (.tmp 5), none, 0⟩, ⟨.bin .or (.tmp 1) (.tmp 4), none, 0⟩, ⟨.call (.func 37) [(.loc 1), (.loc 0), (.tmp 13)], none, 0⟩] [(14, (.loc 0))])
  (.seq (.seq (.region [] [(15, (.const (.int .i64 0)))])
   (.block 4 (.loop (.seq (.seq (.region [⟨.bin .lss (.tmp 15) (.tmp 7), none, 0⟩] [(23, (.loc 0))])
     (.cond (.tmp 23)
      (.skip)
      (.exit 4)))
    (.seq (.block 5 (.seq (.draw [⟨.iaddr 1 (.tmp 8) (.tmp 15), none, 0⟩, ⟨.load none (.loc 0), none, 0⟩, ⟨.iaddr 1 (.tmp 14) (.tmp 15), none, 0⟩, ⟨.load none (.loc 0), none, 0⟩, ⟨.bin .andNot (.loc 2) (.loc 0), none, 0⟩, ⟨.bin .neq (.loc 0) (.const (.int .u64 0)), none, 0⟩, ⟨.mov (.tmp 14), (some ((.loc 0), false)), 0⟩, ⟨.mov (.tmp 15), (some ((.loc 1), false)), 0⟩, ⟨.iaddr 1 (.loc 1) (.loc 0), (some ((.loc 2), false)), 0⟩, ⟨.load none (.loc 0), (some ((.loc 3), false)), 0⟩, ⟨.mov (.tmp 8), (some ((.loc 4), false)), 0⟩, ⟨.mov (.tmp 15), (some ((.loc 5), false)), 0⟩, ⟨.iaddr 1 (.loc 1) (.loc 0), (some ((.loc 6), false)), 0⟩, ⟨.load none (.loc 0), (some ((.loc 7), false)), 0⟩, ⟨.mov (.tmp 4), (some ((.loc 8), false)), 0⟩, ⟨.bin .or (.loc 1) (.loc 0), (some ((.loc 9), false)), 0⟩, ⟨.bin .andNot (.loc 6) (.loc 0), (some ((.loc 10), false)), 0⟩, ⟨.bin .neq (.loc 0) (.const (.int .u64 0)), (some ((.loc 11), false)), 0⟩, ⟨.pick (.loc 12) (.const (.bool true)) (.loc 0), none, 0⟩] [(24, (.loc 0))])
     (.cond (.tmp 24)
      (.seq (.region [] [(6, (.const (.bool false)))])
       (.ret))
      (.skip))))
    (.region [⟨.bin .add (.tmp 15) (.const (.int .i64 1)), none, 0⟩] [(15, (.loc 0))]))))))
  (.seq (.region [] [(6, (.const (.bool true)))])
  (.ret))))))))))))⟩
theorem c11_ok : compileFn Try.prog false 11 = some c11 := by kernel_rfl
/-- louver/region.Governs -/
noncomputable def c43 : AFunc := ⟨[0, 1, 2, 3, 4, 5, 6, 7, 12, 13, 14], [.tmp 4],
  .seq (.region [⟨.box (.tmp 0), none, 0⟩, ⟨.box (.tmp 1), none, 0⟩] [(2, (.loc 1)), (3, (.loc 0)), (4, (.const (.slice none 0 0)))])
  (.seq (.region [⟨.load (some 6) (.tmp 2), none, 0⟩, ⟨.call (.func 75) [(.loc 0)], none, 0⟩] [(5, (.loc 0))])
  (.seq (.region [⟨.alloc [(.slice none 0 0)], none, 0⟩] [(6, (.loc 0))])
  (.seq (.seq (.region [⟨.faddr 5 (.tmp 2), none, 0⟩, ⟨.load none (.loc 0), none, 0⟩, ⟨.len (.loc 0), none, 0⟩] [(8, (.loc 0)), (9, (.const (.int .i64 0)))])
   (.block 0 (.loop (.seq (.region [⟨.bin .lss (.tmp 9) (.tmp 8), none, 0⟩] [(10, (.loc 0))])
    (.seq (.cond (.tmp 10)
      (.skip)
      (.exit 0))
    (.seq (.block 1 (.seq (.region [⟨.alloc [(.int .i64 0)], none, 0⟩, ⟨.store 1 (.loc 0) (.tmp 9), none, 0⟩] [(7, (.loc 1))])
     (.region [⟨.load none (.tmp 7), none, 0⟩, ⟨.mkfn 81 [] [(.tmp 3), (.tmp 6), (.tmp 7)], none, 0⟩, ⟨.call (.func 77) [(.tmp 5), (.loc 1), (.loc 0)], none, 0⟩] [])))
    (.region [⟨.bin .add (.tmp 9) (.const (.int .i64 1)), none, 0⟩] [(9, (.loc 0))])))))))
  (.seq (.region [⟨.load none (.tmp 6), none, 0⟩, ⟨.call (.func 71) [(.loc 0)], none, 0⟩] [(4, (.loc 0))])
  (.ret)))))⟩
theorem c43_ok : compileFn Try.prog false 43 = some c43 := by kernel_rfl
/-- louver/region.Governs$1 -/
noncomputable def c81 : AFunc := ⟨[0, 1, 2, 3, 7], [],
  .seq (.region [⟨.load none (.tmp 1), none, 0⟩, ⟨.bin .eql (.tmp 0) (.loc 0), none, 0⟩] [(4, (.loc 0))])
  (.cond (.tmp 4)
   (.region [⟨.load none (.tmp 2), none, 0⟩, ⟨.load none (.tmp 3), none, 0⟩, ⟨.mkarr 1 [(.int .i64 0)] [(0, 1, (.loc 0))], none, 0⟩, ⟨.append false 1 8 (.loc 2) (.loc 0), none, 0⟩, ⟨.store 1 (.tmp 2) (.loc 0), none, 0⟩] [])
   (.skip))⟩
theorem c81_ok : compileFn Try.prog false 81 = some c81 := by kernel_rfl
noncomputable def list : List (Option AFunc) := [none, none, none, none, none, none, none, none, none, none, none, some c11, none, none, none, none, none, none, none, none, none, none, none, none, none, none, none, none, none, none, none, none, none, none, none, none, none, some RegionAwake.c37, none, none, none, none, none, some c43, none, none, none, none, none, none, none, none, none, none, none, none, none, none, none, none, none, none, none, none, none, none, none, none, none, none, some RegionAwake.c70, some RegionAwake.c71, none, none, none, some RegionAwake.c75, some RegionAwake.c76, some RegionAwake.c77, none, none, none, some c81, none, none, none, some RegionAwake.c85, none, none, some RegionAwake.c88, none, none, none, none, none, none, none, none, none, none, none, none, none, some RegionAwake.c102, some RegionAwake.c103, some RegionAwake.c104, none, none, none, none, some RegionAwake.c109, some RegionAwake.c110, some RegionAwake.c111, none, none, none, none, none, some RegionAwake.c117, none, none, none, none, none, none, none, none, none, none, none, some RegionAwake.c129]
noncomputable def fns : TV (Option AFunc) := Vec.ofList list
def none1 (args : List Value) (H : AH TV) : Option (Value × AH TV) := match args with | [] => some (.bool true, H) | _ => none
noncomputable def ext (f : FuncId) (args : List Value) (H : AH TV) : Option (Value × AH TV) := bif Nat.beq f 34 then none1 args H else none
noncomputable def E : Env TV := { P := Try.prog, fn := fun f => (Vec.get fns f).getD none, ext := ext }
theorem all_ok : OkFrom Try.prog 0 list := ⟨⟨false, c11_ok⟩, ⟨⟨false, RegionAwake.c37_ok⟩, ⟨⟨false, c43_ok⟩, ⟨⟨false, RegionAwake.c70_ok⟩, ⟨⟨false, RegionAwake.c71_ok⟩, ⟨⟨false, RegionAwake.c75_ok⟩, ⟨⟨false, RegionAwake.c76_ok⟩, ⟨⟨false, RegionAwake.c77_ok⟩, ⟨⟨false, c81_ok⟩, ⟨⟨false, RegionAwake.c85_ok⟩, ⟨⟨false, RegionAwake.c88_ok⟩, ⟨⟨false, RegionAwake.c102_ok⟩, ⟨⟨false, RegionAwake.c103_ok⟩, ⟨⟨false, RegionAwake.c104_ok⟩, ⟨⟨false, RegionAwake.c109_ok⟩, ⟨⟨false, RegionAwake.c110_ok⟩, ⟨⟨false, RegionAwake.c111_ok⟩, ⟨⟨false, RegionAwake.c117_ok⟩, ⟨⟨false, RegionAwake.c129_ok⟩, trivial⟩⟩⟩⟩⟩⟩⟩⟩⟩⟩⟩⟩⟩⟩⟩⟩⟩⟩⟩
theorem ext_ok (f : FuncId) (args : List Value) (H : AH TV) (v : Value) (H' : AH TV) (h : ext f args H = some (v, H')) : CallsOk Try.prog f args H v H' := by
  unfold ext at h
  cases hb : Nat.beq f 34 with
  | true =>
    have hf : f = 34 := Nat.eq_of_beq_eq_true hb
    rw [hb] at h
    cases args with
    | nil =>
      simp only [none1, cond_true, Option.some.injEq, Prod.mk.injEq] at h
      obtain ⟨rfl, rfl⟩ := h
      rw [hf]
      exact closed_ok RegionAwake.env_ok RegionAwake.run rfl H
    | cons a r => cases h
  | false =>
  rw [hb] at h
  cases h
theorem env_ok : EnvOk E := ⟨fun f fn h => fn_of all_ok h, ext_ok, draw_ok (by kernel_rfl)⟩
end Go.Proofs.Ytollibkfagjnaaa.Graph
