/- The functions that louver/louverlaw15.PostKnown reaches, compiled; that each is what 'compileFn' comes to. PRINTED by code.py. -/
import Derived.Test.YtdbehmepikhghaaAM25
import Derived.Test.YtdbehmepikhghaaPostAwakeRun
import Derived.Test.YtdbehmepikhghaaPostAwakeCode
import Derived.Test.YtdbehmepikhghaaProg
import Derived.KernelRfl
set_option linter.unusedVariables false
set_option maxRecDepth 100000
namespace Go.Proofs.Ytdbehmepikhghaa.PostKnown
open Go.Proofs.Ytdbehmepikhghaa.AM
/-- louver/louverlaw15.PostKnown -/
noncomputable def c8 : AFunc := ⟨[0, 1, 2, 3, 5, 7, 9, 11, 12], [.tmp 0],
  .seq (.region [] [(0, (.const (.bool false)))])
  (.seq (.region [⟨.call (.func 40) [], none, 0⟩, ⟨.alloc [(.int .u64 0), (.slice none 0 0), (.slice none 0 0), (.int .i64 0), (.int .i64 0), (.slice none 0 0)], none, 0⟩, ⟨.store 6 (.loc 0) (.loc 1), none, 0⟩] [(1, (.loc 1))])
  (.seq (.region [⟨.load (some 6) (.tmp 1), none, 0⟩, ⟨.call (.func 36) [(.loc 0), (.const (.int .i64 0))], none, 0⟩, ⟨.ext (.loc 0) 0, none, 0⟩, ⟨.ext (.loc 1) 1, none, 0⟩] [(2, (.loc 1)), (3, (.loc 0))])
  (.seq (.region [⟨.load (some 6) (.tmp 1), none, 0⟩, ⟨.call (.func 36) [(.loc 0), (.const (.int .i64 8))], none, 0⟩, ⟨.ext (.loc 0) 0, none, 0⟩, ⟨.ext (.loc 1) 1, none, 0⟩] [(4, (.loc 0))])
  (.seq (.region [⟨.load (some 6) (.tmp 1), none, 0⟩, ⟨.call (.func 36) [(.loc 0), (.const (.int .i64 7))], none, 0⟩, ⟨.ext (.loc 0) 0, none, 0⟩, ⟨.ext (.loc 1) 1, none, 0⟩] [(5, (.loc 0))])
  (.seq (.region [⟨.load (some 6) (.tmp 1), none, 0⟩, ⟨.call (.func 36) [(.loc 0), (.const (.int .i64 9))], none, 0⟩, ⟨.ext (.loc 0) 0, none, 0⟩, ⟨.ext (.loc 1) 1, none, 0⟩] [(6, (.loc 0))])
  (.seq (.region [⟨.load (some 6) (.tmp 1), none, 0⟩, ⟨.call (.func 36) [(.loc 0), (.const (.int .i64 (-1)))], none, 0⟩, ⟨.ext (.loc 0) 0, none, 0⟩, ⟨.ext (.loc 1) 1, none, 0⟩] [(7, (.loc 0))])
  (.seq (.region [⟨.load (some 6) (.tmp 1), none, 0⟩, ⟨.call (.func 32) [(.loc 0)], none, 0⟩] [(8, (.loc 0))])
  (.seq (.region [⟨.call (.func 30) [], none, 0⟩, ⟨.mov (.tmp 2), (some ((.loc 0), true)), 0⟩, ⟨.bin .eql (.loc 0) (.const (.int .i64 4)), (some ((.loc 1), true)), 0⟩, ⟨.pick (.loc 2) (.loc 0) (.const (.bool false)), none, 0⟩, ⟨.mov (.tmp 3), (some ((.loc 0), true)), 0⟩, ⟨.pick (.loc 1) (.loc 0) (.const (.bool false)), none, 0⟩, ⟨.mov (.tmp 4), (some ((.loc 0), true)), 0⟩, ⟨.not (.loc 0), (some ((.loc 1), true)), 0⟩, ⟨.pick (.loc 2) (.loc 0) (.const (.bool false)), none, 0⟩, ⟨.mov (.tmp 5), (some ((.loc 0), true)), 0⟩, ⟨.not (.loc 0), (some ((.loc 1), true)), 0⟩, ⟨.pick (.loc 2) (.loc 0) (.const (.bool false)), none, 0⟩, ⟨.mov (.tmp 6), (some ((.loc 0), true)), 0⟩, ⟨.not (.loc 0), (some ((.loc 1), true)), 0⟩, ⟨.pick (.loc 2) (.loc 0) (.const (.bool false)), none, 0⟩, ⟨.mov (.tmp 7), (some ((.loc 0), true)), 0⟩, ⟨.not (.loc 0), (some ((.loc 1), true)), 0⟩, ⟨.pick (.loc 2) (.loc 0) (.const (.bool false)), none, 0⟩, ⟨.load (some 6) (.tmp 1), (some ((.loc 0), true)), 0⟩, ⟨.call (.func 37) [(.loc 0), (.const (.int .i64 8)), (.const (.int .i64 0))], (some ((.loc 1), true)), 0⟩, ⟨.pick (.loc 2) (.loc 0) (.const (.bool false)), none, 0⟩, ⟨.load (some 6) (.tmp 1), (some ((.loc 0), true)), 0⟩, ⟨.call (.func 37) [(.loc 0), (.const (.int .i64 0)), (.const (.int .i64 0))], (some ((.loc 1), true)), 0⟩, ⟨.pick (.loc 2) (.loc 0) (.const (.bool false)), none, 0⟩, ⟨.load (some 6) (.tmp 1), (some ((.loc 0), true)), 0⟩, ⟨.call (.func 37) [(.loc 0), (.const (.int .i64 5)), (.const (.int .i64 4))], (some ((.loc 1), true)), 0⟩, ⟨.not (.loc 0), (some ((.loc 2), true)), 0⟩, ⟨.pick (.loc 3) (.loc 0) (.const (.bool false)), none, 0⟩, ⟨.load (some 6) (.tmp 1), (some ((.loc 0), true)), 0⟩, ⟨.call (.func 37) [(.loc 0), (.const (.int .i64 8)), (.const (.int .i64 7))], (some ((.loc 1), true)), 0⟩, ⟨.not (.loc 0), (some ((.loc 2), true)), 0⟩, ⟨.pick (.loc 3) (.loc 0) (.const (.bool false)), none, 0⟩, ⟨.load (some 6) (.tmp 1), (some ((.loc 0), true)), 0⟩, ⟨.call (.func 37) [(.loc 0), (.const (.int .i64 7)), (.const (.int .i64 7))], (some ((.loc 1), true)), 0⟩, ⟨.not (.loc 0), (some ((.loc 2), true)), 0⟩, ⟨.pick (.loc 3) (.loc 0) (.const (.bool false)), none, 0⟩, ⟨.load (some 6) (.tmp 1), (some ((.loc 0), true)), 0⟩, ⟨.call (.func 37) [(.loc 0), (.const (.int .i64 8)), (.const (.int .i64 8))], (some ((.loc 1), true)), 0⟩, ⟨.pick (.loc 2) (.loc 0) (.const (.bool false)), none, 0⟩, ⟨.load (some 6) (.tmp 1), (some ((.loc 0), true)), 0⟩, ⟨.call (.func 37) [(.loc 0), (.const (.int .i64 9)), (.const (.int .i64 9))], (some ((.loc 1), true)), 0⟩, ⟨.not (.loc 0), (some ((.loc 2), true)), 0⟩, ⟨.pick (.loc 3) (.loc 0) (.const (.bool false)), none, 0⟩, ⟨.mov (.tmp 8), (some ((.loc 0), true)), 0⟩, ⟨.len (.loc 0), (some ((.loc 1), true)), 0⟩, ⟨.bin .eql (.loc 0) (.const (.int .i64 9)), (some ((.loc 2), true)), 0⟩, ⟨.pick (.loc 3) (.loc 0) (.const (.bool false)), none, 0⟩, ⟨.mov (.tmp 8), (some ((.loc 0), true)), 0⟩, ⟨.iaddr 1 (.loc 0) (.const (.int .i64 0)), (some ((.loc 1), true)), 0⟩, ⟨.load none (.loc 0), (some ((.loc 2), true)), 0⟩, ⟨.iaddr 1 (.loc 0) (.const (.int .i64 4)), (some ((.loc 3), true)), 0⟩, ⟨.load none (.loc 0), (some ((.loc 4), true)), 0⟩, ⟨.pick (.loc 5) (.loc 0) (.const (.bool false)), none, 0⟩, ⟨.mov (.tmp 8), (some ((.loc 0), true)), 0⟩, ⟨.iaddr 1 (.loc 0) (.const (.int .i64 0)), (some ((.loc 1), true)), 0⟩, ⟨.load none (.loc 0), (some ((.loc 2), true)), 0⟩, ⟨.iaddr 1 (.loc 0) (.const (.int .i64 3)), (some ((.loc 3), true)), 0⟩, ⟨.load none (.loc 0), (some ((.loc 4), true)), 0⟩, ⟨.not (.loc 0), (some ((.loc 5), true)), 0⟩, ⟨.pick (.loc 6) (.loc 0) (.const (.bool false)), none, 0⟩, ⟨.build [(.int .u64 0), (.slice none 0 0), (.slice none 0 0), (.int .i64 0), (.int .i64 0), (.slice none 0 0)] [], (some ((.loc 0), true)), 0⟩, ⟨.call (.func 33) [(.loc 0)], (some ((.loc 1), true)), 0⟩, ⟨.mkarr 1 [(.int .i64 0)] [(0, 1, (.const (.int .i64 (-1))))], (some ((.loc 2), true)), 0⟩, ⟨.call (.func 16) [(.loc 1), (.loc 0)], (some ((.loc 3), true)), 0⟩, ⟨.pick (.loc 4) (.loc 0) (.const (.bool false)), none, 0⟩, ⟨.build [(.int .u64 0), (.slice none 0 0), (.slice none 0 0), (.int .i64 0), (.int .i64 0), (.slice none 0 0)] [], (some ((.loc 0), true)), 0⟩, ⟨.call (.func 37) [(.loc 0), (.const (.int .i64 0)), (.const (.int .i64 0))], (some ((.loc 1), true)), 0⟩, ⟨.pick (.loc 2) (.loc 0) (.const (.bool false)), none, 0⟩] [(0, (.loc 0))])
  (.ret)))))))))⟩
theorem c8_ok : compileFn Try.prog false 8 = some c8 := by kernel_rfl
/-- louver/post.All -/
noncomputable def c32 : AFunc := ⟨[0, 1, 2, 3, 4, 5, 6, 7, 16, 17, 18], [.tmp 2],
  .seq (.region [⟨.box (.tmp 0), none, 0⟩] [(1, (.loc 0)), (2, (.const (.slice none 0 0)))])
  (.seq (.region [⟨.load (some 6) (.tmp 1), none, 0⟩, ⟨.call (.func 33) [(.loc 0)], none, 0⟩, ⟨.alloc [(.slice none 0 0)], none, 0⟩, ⟨.store 1 (.loc 0) (.loc 1), none, 0⟩] [(3, (.loc 1))])
  (.seq (.region [⟨.load none (.tmp 3), none, 0⟩, ⟨.len (.loc 0), none, 0⟩, ⟨.alloc [(.int .i64 0)], none, 0⟩, ⟨.store 1 (.loc 0) (.loc 1), none, 0⟩] [(4, (.loc 1))])
  (.seq (.region [⟨.mkfn 62 [] [(.tmp 4), (.tmp 3)], none, 0⟩] [(5, (.loc 0))])
  (.seq (.region [⟨.load none (.tmp 4), none, 0⟩, ⟨.mkslice [(.slice none 0 0)] 24 (.loc 0) (.loc 0), none, 0⟩] [(6, (.loc 0))])
  (.seq (.seq (.region [⟨.len (.tmp 6), none, 0⟩] [(8, (.loc 0)), (9, (.const (.int .i64 0)))])
   (.block 0 (.loop (.seq (.region [⟨.bin .lss (.tmp 9) (.tmp 8), none, 0⟩] [(10, (.loc 0))])
    (.seq (.cond (.tmp 10)
      (.skip)
      (.exit 0))
    (.seq (.block 1 (.seq (.region [] [(7, (.tmp 9))])
     (.region [⟨.call (.tmp 5) [(.tmp 7)], none, 0⟩, ⟨.iaddr 1 (.tmp 6) (.tmp 7), none, 0⟩, ⟨.store 1 (.loc 0) (.loc 1), none, 0⟩] [])))
    (.region [⟨.bin .add (.tmp 9) (.const (.int .i64 1)), none, 0⟩] [(9, (.loc 0))])))))))
  (.seq (.region [] [(2, (.tmp 6))])
  (.ret)))))))⟩
theorem c32_ok : compileFn Try.prog false 32 = some c32 := by kernel_rfl
/-- louver/post.Near -/
noncomputable def c36 : AFunc := ⟨[0, 1, 2, 4, 5, 6, 15], [.tmp 3, .tmp 4],
  .seq (.region [⟨.box (.tmp 0), none, 0⟩] [(2, (.loc 0)), (3, (.const (.int .i64 0))), (4, (.const (.bool false)))])
  (.seq (.seq (.region [⟨.bin .lss (.tmp 1) (.const (.int .i64 0)), none, 0⟩, ⟨.mov (.tmp 1), (some ((.loc 0), false)), 0⟩, ⟨.faddr 5 (.tmp 2), (some ((.loc 1), false)), 0⟩, ⟨.load none (.loc 0), (some ((.loc 2), false)), 0⟩, ⟨.len (.loc 0), (some ((.loc 3), false)), 0⟩, ⟨.bin .gtr (.loc 3) (.loc 0), (some ((.loc 4), false)), 0⟩, ⟨.pick (.loc 5) (.const (.bool true)) (.loc 0), none, 0⟩] [(6, (.loc 0))])
   (.cond (.tmp 6)
    (.seq (.region [] [(3, (.const (.int .i64 0))), (4, (.const (.bool false)))])
     (.ret))
    (.skip)))
  (.seq (.region [⟨.load (some 6) (.tmp 2), none, 0⟩, ⟨.call (.func 33) [(.loc 0)], none, 0⟩, ⟨.iaddr 1 (.loc 0) (.tmp 1), none, 0⟩, ⟨.load none (.loc 0), none, 0⟩] [(5, (.loc 0))])
  (.seq (.region [⟨.flat (.max #[3, 3] 3) [(.tmp 5), (.const (.int .i64 0))], none, 0⟩, ⟨.bin .geq (.tmp 5) (.const (.int .i64 0)), none, 0⟩] [(3, (.loc 1)), (4, (.loc 0))])
  (.ret))))⟩
theorem c36_ok : compileFn Try.prog false 36 = some c36 := by kernel_rfl
/-- louver/post.All$1 -/
noncomputable def c62 : AFunc := ⟨[0, 1, 2, 4, 5, 6, 24], [.tmp 3],
  .seq (.region [] [(3, (.const (.slice none 0 0)))])
  (.seq (.region [⟨.load none (.tmp 1), none, 0⟩, ⟨.mkslice [(.bool false)] 1 (.loc 0) (.loc 0), none, 0⟩] [(4, (.loc 0))])
  (.seq (.seq (.region [] [(5, (.tmp 0))])
   (.block 0 (.loop (.seq (.seq (.region [⟨.bin .geq (.tmp 5) (.const (.int .i64 0)), none, 0⟩, ⟨.load none (.tmp 2), (some ((.loc 0), true)), 0⟩, ⟨.mov (.tmp 0), (some ((.loc 1), true)), 0⟩, ⟨.iaddr 1 (.loc 1) (.loc 0), (some ((.loc 2), true)), 0⟩, ⟨.load none (.loc 0), (some ((.loc 3), true)), 0⟩, ⟨.bin .geq (.loc 0) (.const (.int .i64 0)), (some ((.loc 4), true)), 0⟩, ⟨.mov (.loc 0), (some ((.loc 5), true)), 0⟩, ⟨.mov (.tmp 0), (some ((.loc 0), false)), 0⟩, ⟨.load none (.tmp 1), (some ((.loc 1), false)), 0⟩, ⟨.bin .sub (.loc 0) (.const (.int .i64 1)), (some ((.loc 2), false)), 0⟩, ⟨.bin .eql (.loc 2) (.loc 0), (some ((.loc 3), false)), 0⟩, ⟨.pick (.loc 4) (.const (.bool true)) (.loc 0), (some ((.loc 10), true)), 0⟩, ⟨.pick (.loc 11) (.loc 0) (.const (.bool false)), none, 0⟩] [(6, (.loc 0))])
     (.cond (.tmp 6)
      (.skip)
      (.exit 0)))
    (.seq (.block 1 (.region [⟨.iaddr 1 (.tmp 4) (.tmp 5), none, 0⟩, ⟨.store 1 (.loc 0) (.const (.bool true)), none, 0⟩] []))
    (.region [⟨.load none (.tmp 2), none, 0⟩, ⟨.iaddr 1 (.loc 0) (.tmp 5), none, 0⟩, ⟨.load none (.loc 0), none, 0⟩] [(5, (.loc 0))]))))))
  (.seq (.region [] [(3, (.tmp 4))])
  (.ret))))⟩
theorem c62_ok : compileFn Try.prog false 62 = some c62 := by kernel_rfl
noncomputable def list : List (Option AFunc) := [none, none, none, none, none, none, none, none, some c8, none, none, none, none, none, some PostAwake.c14, none, some PostAwake.c16, none, none, none, none, none, none, none, none, none, none, none, none, none, none, none, some c32, some PostAwake.c33, none, none, some c36, some PostAwake.c37, none, none, some PostAwake.c40, none, none, none, none, none, none, none, none, some PostAwake.c49, some PostAwake.c50, some PostAwake.c51, none, none, none, none, none, none, none, none, none, none, some c62, some PostAwake.c63, some PostAwake.c64, none, some PostAwake.c66, some PostAwake.c67, none, none, none, none, none, none, some PostAwake.c74, some PostAwake.c75, none, none, some PostAwake.c78]
noncomputable def fns : TV (Option AFunc) := Vec.ofList list
def none1 (args : List Value) (H : AH TV) : Option (Value × AH TV) := match args with | [] => some (.bool true, H) | _ => none
noncomputable def ext (f : FuncId) (args : List Value) (H : AH TV) : Option (Value × AH TV) := bif Nat.beq f 30 then none1 args H else none
noncomputable def E : Env TV := { P := Try.prog, fn := fun f => (Vec.get fns f).getD none, ext := ext }
theorem all_ok : OkFrom Try.prog 0 list := ⟨⟨false, c8_ok⟩, ⟨⟨false, PostAwake.c14_ok⟩, ⟨⟨false, PostAwake.c16_ok⟩, ⟨⟨false, c32_ok⟩, ⟨⟨false, PostAwake.c33_ok⟩, ⟨⟨false, c36_ok⟩, ⟨⟨false, PostAwake.c37_ok⟩, ⟨⟨false, PostAwake.c40_ok⟩, ⟨⟨false, PostAwake.c49_ok⟩, ⟨⟨false, PostAwake.c50_ok⟩, ⟨⟨false, PostAwake.c51_ok⟩, ⟨⟨false, c62_ok⟩, ⟨⟨false, PostAwake.c63_ok⟩, ⟨⟨false, PostAwake.c64_ok⟩, ⟨⟨false, PostAwake.c66_ok⟩, ⟨⟨false, PostAwake.c67_ok⟩, ⟨⟨false, PostAwake.c74_ok⟩, ⟨⟨false, PostAwake.c75_ok⟩, ⟨⟨false, PostAwake.c78_ok⟩, trivial⟩⟩⟩⟩⟩⟩⟩⟩⟩⟩⟩⟩⟩⟩⟩⟩⟩⟩⟩
theorem ext_ok (f : FuncId) (args : List Value) (H : AH TV) (v : Value) (H' : AH TV) (h : ext f args H = some (v, H')) : CallsOk Try.prog f args H v H' := by
  unfold ext at h
  cases hb : Nat.beq f 30 with
  | true =>
    have hf : f = 30 := Nat.eq_of_beq_eq_true hb
    rw [hb] at h
    cases args with
    | nil =>
      simp only [none1, cond_true, Option.some.injEq, Prod.mk.injEq] at h
      obtain ⟨rfl, rfl⟩ := h
      rw [hf]
      exact closed_ok PostAwake.env_ok PostAwake.run rfl H
    | cons a r => cases h
  | false =>
  rw [hb] at h
  cases h
theorem env_ok : EnvOk E := ⟨fun f fn h => fn_of all_ok h, ext_ok, draw_ok (by kernel_rfl)⟩
end Go.Proofs.Ytdbehmepikhghaa.PostKnown
