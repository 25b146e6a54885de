/- The functions that louver/louverlaw28.ChartTurns reaches, compiled; that each is what 'compileFn' comes to. PRINTED by code.py. -/
import Derived.Test.YtggaimcopbjdiaaAMb
import Derived.Test.YtggaimcopbjdiaaChartAwakeRun
import Derived.Test.YtggaimcopbjdiaaChartAwakeCode
import Derived.Test.YtggaimcopbjdiaaProg
import Derived.KernelRfl
set_option linter.unusedVariables false
set_option maxRecDepth 100000
namespace Go.Proofs.Ytggaimcopbjdiaa.Graph
open Go.Proofs.Ytggaimcopbjdiaa.AM
/-- louver/louverlaw28.ChartTurns -/
noncomputable def c3 : AFunc := ⟨[0, 1, 2, 3, 6, 7, 8, 9, 10, 11, 12, 13, 21, 46, 52, 61, 124], [.tmp 4],
  .seq (.region [⟨.box (.tmp 0), none, 0⟩] [(3, (.loc 0)), (4, (.const (.bool false)))])
  (.seq (.seq (.region [⟨.faddr 5 (.tmp 3), none, 0⟩, ⟨.load none (.loc 0), none, 0⟩, ⟨.len (.loc 0), none, 0⟩, ⟨.bin .gtr (.loc 0) (.const (.int .i64 25)), none, 0⟩, ⟨.call (.func 6) [], (some ((.loc 0), false)), 0⟩, ⟨.not (.loc 0), (some ((.loc 1), false)), 0⟩, ⟨.pick (.loc 2) (.const (.bool true)) (.loc 0), none, 0⟩] [(12, (.loc 0))])
   (.cond (.tmp 12)
    (.seq (.region [⟨.call (.func 6) [], none, 0⟩] [(4, (.loc 0))])
     (.ret))
    (.skip)))
  (.seq (.region [⟨.load (some 6) (.tmp 3), none, 0⟩, ⟨.call (.func 7) [(.loc 0)], none, 0⟩] [(5, (.loc 0))])
  (.seq (.region [⟨.load (some 6) (.tmp 3), none, 0⟩, ⟨.call (.func 8) [(.loc 0), (.tmp 1)], none, 0⟩] [(6, (.loc 0))])
  (.seq (.region [⟨.load (some 6) (.tmp 3), none, 0⟩, ⟨.bin .and (.tmp 1) (.const (.int .i64 3)), none, 0⟩, ⟨.bin .and (.tmp 2) (.const (.int .i64 3)), none, 0⟩, ⟨.bin .add (.loc 1) (.loc 0), none, 0⟩, ⟨.call (.func 8) [(.loc 3), (.loc 0)], none, 0⟩] [(7, (.loc 0))])
  (.seq (.seq (.region [⟨.len (.tmp 6), none, 0⟩, ⟨.len (.tmp 5), none, 0⟩, ⟨.bin .neq (.loc 1) (.loc 0), none, 0⟩, ⟨.mov (.tmp 7), (some ((.loc 0), false)), 0⟩, ⟨.len (.loc 0), (some ((.loc 1), false)), 0⟩, ⟨.mov (.tmp 5), (some ((.loc 2), false)), 0⟩, ⟨.len (.loc 0), (some ((.loc 3), false)), 0⟩, ⟨.bin .neq (.loc 2) (.loc 0), (some ((.loc 4), false)), 0⟩, ⟨.pick (.loc 5) (.const (.bool true)) (.loc 0), none, 0⟩] [(13, (.loc 0))])
   (.cond (.tmp 13)
    (.seq (.region [] [(4, (.const (.bool false)))])
     (.ret))
    (.skip)))
  (.seq (.region [⟨.bin .and (.tmp 2) (.const (.int .i64 3)), none, 0⟩] [(8, (.loc 0))])
  (.seq (.seq (.region [] [(9, (.const (.int .i64 0)))])
   (.block 0 (.loop (.seq (.seq (.region [⟨.len (.tmp 5), none, 0⟩, ⟨.bin .lss (.tmp 9) (.loc 0), none, 0⟩] [(14, (.loc 0))])
     (.cond (.tmp 14)
      (.skip)
      (.exit 0)))
    (.seq (.block 1 (.seq (.region [⟨.iaddr 1 (.tmp 6) (.tmp 9), none, 0⟩, ⟨.load none (.loc 0), none, 0⟩] [(10, (.loc 0))])
     (.seq (.seq (.region [] [(11, (.const (.int .i64 0)))])
      (.block 2 (.loop (.seq (.seq (.region [⟨.bin .lss (.tmp 11) (.tmp 8), none, 0⟩] [(15, (.loc 0))])
        (.cond (.tmp 15)
         (.skip)
         (.exit 2)))
       (.seq (.block 3 (.region [⟨.flat (.im #[32] 33) [(.tmp 10)], none, 0⟩, ⟨.flat (.un .neg) [(.loc 0)], none, 0⟩, ⟨.flat (.re #[32] 33) [(.tmp 10)], none, 0⟩, ⟨.flat (.cplx #[33, 33] 32) [(.loc 1), (.loc 0)], none, 0⟩] [(10, (.loc 0))]))
       (.region [⟨.bin .add (.tmp 11) (.const (.int .i64 1)), none, 0⟩] [(11, (.loc 0))]))))))
     (.seq (.draw [⟨.iaddr 1 (.tmp 7) (.tmp 9), none, 0⟩, ⟨.load none (.loc 0), none, 0⟩, ⟨.flat (.bin .neq 32 (.tmp 70) (.tmp 74)) [(.tmp 10), (.loc 0)], none, 0⟩, ⟨.mov (.tmp 6), (some ((.loc 0), false)), 0⟩, ⟨.mov (.tmp 9), (some ((.loc 1), false)), 0⟩, ⟨.iaddr 1 (.loc 1) (.loc 0), (some ((.loc 2), false)), 0⟩, ⟨.load none (.loc 0), (some ((.loc 3), false)), 0⟩, ⟨.flat (.re #[32] 33) [(.loc 0)], (some ((.loc 4), false)), 0⟩, ⟨.mov (.tmp 6), (some ((.loc 5), false)), 0⟩, ⟨.mov (.tmp 9), (some ((.loc 6), false)), 0⟩, ⟨.iaddr 1 (.loc 1) (.loc 0), (some ((.loc 7), false)), 0⟩, ⟨.load none (.loc 0), (some ((.loc 8), false)), 0⟩, ⟨.flat (.re #[32] 33) [(.loc 0)], (some ((.loc 9), false)), 0⟩, ⟨.flat (.bin .mul 33 (.tmp 81) (.tmp 86)) [(.loc 5), (.loc 0)], (some ((.loc 10), false)), 0⟩, ⟨.mov (.tmp 6), (some ((.loc 11), false)), 0⟩, ⟨.mov (.tmp 9), (some ((.loc 12), false)), 0⟩, ⟨.iaddr 1 (.loc 1) (.loc 0), (some ((.loc 13), false)), 0⟩, ⟨.load none (.loc 0), (some ((.loc 14), false)), 0⟩, ⟨.flat (.im #[32] 33) [(.loc 0)], (some ((.loc 15), false)), 0⟩, ⟨.mov (.tmp 6), (some ((.loc 16), false)), 0⟩, ⟨.mov (.tmp 9), (some ((.loc 17), false)), 0⟩, ⟨.iaddr 1 (.loc 1) (.loc 0), (some ((.loc 18), false)), 0⟩, ⟨.load none (.loc 0), (some ((.loc 19), false)), 0⟩, ⟨.flat (.im #[32] 33) [(.loc 0)], (some ((.loc 20), false)), 0⟩, ⟨.flat (.bin .mul 33 (.tmp 92) (.tmp 97)) [(.loc 5), (.loc 0)], (some ((.loc 21), false)), 0⟩, ⟨.flat (.bin .add 33 (.tmp 87) (.tmp 98)) [(.loc 11), (.loc 0)], (some ((.loc 22), false)), 0⟩, ⟨.mov (.tmp 5), (some ((.loc 23), false)), 0⟩, ⟨.mov (.tmp 9), (some ((.loc 24), false)), 0⟩, ⟨.iaddr 1 (.loc 1) (.loc 0), (some ((.loc 25), false)), 0⟩, ⟨.load none (.loc 0), (some ((.loc 26), false)), 0⟩, ⟨.flat (.re #[32] 33) [(.loc 0)], (some ((.loc 27), false)), 0⟩, ⟨.mov (.tmp 5), (some ((.loc 28), false)), 0⟩, ⟨.mov (.tmp 9), (some ((.loc 29), false)), 0⟩, ⟨.iaddr 1 (.loc 1) (.loc 0), (some ((.loc 30), false)), 0⟩, ⟨.load none (.loc 0), (some ((.loc 31), false)), 0⟩, ⟨.flat (.re #[32] 33) [(.loc 0)], (some ((.loc 32), false)), 0⟩, ⟨.flat (.bin .mul 33 (.tmp 104) (.tmp 109)) [(.loc 5), (.loc 0)], (some ((.loc 33), false)), 0⟩, ⟨.mov (.tmp 5), (some ((.loc 34), false)), 0⟩, ⟨.mov (.tmp 9), (some ((.loc 35), false)), 0⟩, ⟨.iaddr 1 (.loc 1) (.loc 0), (some ((.loc 36), false)), 0⟩, ⟨.load none (.loc 0), (some ((.loc 37), false)), 0⟩, ⟨.flat (.im #[32] 33) [(.loc 0)], (some ((.loc 38), false)), 0⟩, ⟨.mov (.tmp 5), (some ((.loc 39), false)), 0⟩, ⟨.mov (.tmp 9), (some ((.loc 40), false)), 0⟩, ⟨.iaddr 1 (.loc 1) (.loc 0), (some ((.loc 41), false)), 0⟩, ⟨.load none (.loc 0), (some ((.loc 42), false)), 0⟩, ⟨.flat (.im #[32] 33) [(.loc 0)], (some ((.loc 43), false)), 0⟩, ⟨.flat (.bin .mul 33 (.tmp 115) (.tmp 120)) [(.loc 5), (.loc 0)], (some ((.loc 44), false)), 0⟩, ⟨.flat (.bin .add 33 (.tmp 110) (.tmp 121)) [(.loc 11), (.loc 0)], (some ((.loc 45), false)), 0⟩, ⟨.flat (.bin .neq 33 (.tmp 99) (.tmp 122)) [(.loc 23), (.loc 0)], (some ((.loc 46), false)), 0⟩, ⟨.pick (.loc 47) (.const (.bool true)) (.loc 0), none, 0⟩] [(16, (.loc 0))])
     (.cond (.tmp 16)
      (.seq (.region [] [(4, (.const (.bool false)))])
       (.ret))
      (.skip))))))
    (.region [⟨.bin .add (.tmp 9) (.const (.int .i64 1)), none, 0⟩] [(9, (.loc 0))]))))))
  (.seq (.region [⟨.load (some 6) (.tmp 3), none, 0⟩, ⟨.bin .and (.tmp 1) (.const (.int .i64 3)), none, 0⟩, ⟨.bin .add (.loc 0) (.const (.int .i64 4)), none, 0⟩, ⟨.call (.func 8) [(.loc 2), (.loc 0)], none, 0⟩, ⟨.call (.func 9) [(.loc 0), (.tmp 6)], none, 0⟩, ⟨.load (some 6) (.tmp 3), (some ((.loc 0), true)), 0⟩, ⟨.call (.func 8) [(.loc 0), (.const (.int .i64 4))], (some ((.loc 1), true)), 0⟩, ⟨.mov (.tmp 5), (some ((.loc 2), true)), 0⟩, ⟨.call (.func 9) [(.loc 1), (.loc 0)], (some ((.loc 3), true)), 0⟩, ⟨.pick (.loc 4) (.loc 0) (.const (.bool false)), none, 0⟩, ⟨.load (some 6) (.tmp 3), (some ((.loc 0), true)), 0⟩, ⟨.call (.func 8) [(.loc 0), (.const (.int .i64 0))], (some ((.loc 1), true)), 0⟩, ⟨.mov (.tmp 5), (some ((.loc 2), true)), 0⟩, ⟨.call (.func 9) [(.loc 1), (.loc 0)], (some ((.loc 3), true)), 0⟩, ⟨.pick (.loc 4) (.loc 0) (.const (.bool false)), none, 0⟩] [(4, (.loc 0))])
  (.ret)))))))))⟩
theorem c3_ok : compileFn Try.prog false 3 = some c3 := by kernel_rfl
noncomputable abbrev c7 : AFunc := ChartAwake.c7
/-- louver/chart.Turned -/
noncomputable def c8 : AFunc := ⟨[0, 1, 2, 4, 5, 6, 12, 13, 14, 16, 17, 18], [.tmp 3],
  .seq (.region [⟨.box (.tmp 0), none, 0⟩] [(2, (.loc 0)), (3, (.const (.slice none 0 0)))])
  (.seq (.region [⟨.load (some 6) (.tmp 2), none, 0⟩, ⟨.call (.func 7) [(.loc 0)], none, 0⟩] [(4, (.loc 0))])
  (.seq (.seq (.region [⟨.bin .rem (.tmp 1) (.const (.int .i64 4)), none, 0⟩, ⟨.bin .add (.loc 0) (.const (.int .i64 4)), none, 0⟩, ⟨.bin .rem (.loc 0) (.const (.int .i64 4)), none, 0⟩] [(6, (.loc 0)), (7, (.const (.int .i64 0)))])
   (.block 0 (.loop (.seq (.region [⟨.bin .lss (.tmp 7) (.tmp 6), none, 0⟩] [(8, (.loc 0))])
    (.seq (.cond (.tmp 8)
      (.skip)
      (.exit 0))
    (.seq (.block 1 (.seq (.region [⟨.len (.tmp 4), none, 0⟩] [(9, (.loc 0)), (10, (.const (.int .i64 0)))])
     (.block 2 (.loop (.seq (.region [⟨.bin .lss (.tmp 10) (.tmp 9), none, 0⟩] [(11, (.loc 0))])
      (.seq (.cond (.tmp 11)
        (.skip)
        (.exit 2))
      (.seq (.block 3 (.seq (.region [] [(5, (.tmp 10))])
       (.region [⟨.iaddr 1 (.tmp 4) (.tmp 5), none, 0⟩, ⟨.load none (.loc 0), none, 0⟩, ⟨.flat (.bin .mul 32 (.tmp 23) (.const (.complex .f64 0 4607182418800017408))) [(.loc 0), (.const (.complex .f64 0 4607182418800017408))], none, 0⟩, ⟨.iaddr 1 (.tmp 4) (.tmp 5), none, 0⟩, ⟨.store 1 (.loc 0) (.loc 1), none, 0⟩] [])))
      (.region [⟨.bin .add (.tmp 10) (.const (.int .i64 1)), none, 0⟩] [(10, (.loc 0))]))))))))
    (.region [⟨.bin .add (.tmp 7) (.const (.int .i64 1)), none, 0⟩] [(7, (.loc 0))])))))))
  (.seq (.region [] [(3, (.tmp 4))])
  (.ret))))⟩
theorem c8_ok : compileFn Try.prog false 8 = some c8 := by kernel_rfl
noncomputable abbrev c9 : AFunc := ChartAwake.c9
noncomputable abbrev c24 : AFunc := ChartAwake.c24
noncomputable abbrev c25 : AFunc := ChartAwake.c25
noncomputable abbrev c26 : AFunc := ChartAwake.c26
noncomputable abbrev c40 : AFunc := ChartAwake.c40
noncomputable abbrev c41 : AFunc := ChartAwake.c41
noncomputable abbrev c42 : AFunc := ChartAwake.c42
noncomputable abbrev c44 : AFunc := ChartAwake.c44
noncomputable abbrev c45 : AFunc := ChartAwake.c45
noncomputable abbrev c48 : AFunc := ChartAwake.c48
noncomputable abbrev c56 : AFunc := ChartAwake.c56
noncomputable abbrev c57 : AFunc := ChartAwake.c57
noncomputable abbrev c58 : AFunc := ChartAwake.c58
noncomputable abbrev c59 : AFunc := ChartAwake.c59
noncomputable abbrev c60 : AFunc := ChartAwake.c60
noncomputable abbrev c61 : AFunc := ChartAwake.c61
noncomputable abbrev c62 : AFunc := ChartAwake.c62
noncomputable abbrev c64 : AFunc := ChartAwake.c64
noncomputable abbrev c65 : AFunc := ChartAwake.c65
noncomputable abbrev c66 : AFunc := ChartAwake.c66
noncomputable abbrev c67 : AFunc := ChartAwake.c67
noncomputable abbrev c68 : AFunc := ChartAwake.c68
noncomputable abbrev c72 : AFunc := ChartAwake.c72
noncomputable abbrev c73 : AFunc := ChartAwake.c73
noncomputable abbrev c74 : AFunc := ChartAwake.c74
noncomputable abbrev c75 : AFunc := ChartAwake.c75
noncomputable abbrev c76 : AFunc := ChartAwake.c76
noncomputable abbrev c77 : AFunc := ChartAwake.c77
noncomputable abbrev c78 : AFunc := ChartAwake.c78
noncomputable abbrev c79 : AFunc := ChartAwake.c79
noncomputable abbrev c80 : AFunc := ChartAwake.c80
noncomputable abbrev c81 : AFunc := ChartAwake.c81
noncomputable abbrev c82 : AFunc := ChartAwake.c82
noncomputable abbrev c83 : AFunc := ChartAwake.c83
noncomputable abbrev c85 : AFunc := ChartAwake.c85
noncomputable abbrev c86 : AFunc := ChartAwake.c86
noncomputable abbrev c87 : AFunc := ChartAwake.c87
noncomputable abbrev c88 : AFunc := ChartAwake.c88
noncomputable abbrev c89 : AFunc := ChartAwake.c89
noncomputable abbrev c90 : AFunc := ChartAwake.c90
noncomputable abbrev c92 : AFunc := ChartAwake.c92
noncomputable def list : List (Option AFunc) := [none, none, none, some c3, none, none, none, some ChartAwake.c7, some c8, some ChartAwake.c9, none, none, none, none, none, none, none, none, none, none, none, none, none, none, some ChartAwake.c24, some ChartAwake.c25, some ChartAwake.c26, none, none, none, none, none, none, none, none, none, none, none, none, none, some ChartAwake.c40, some ChartAwake.c41, some ChartAwake.c42, none, some ChartAwake.c44, some ChartAwake.c45, none, none, some ChartAwake.c48, none, none, none, none, none, none, none, some ChartAwake.c56, some ChartAwake.c57, some ChartAwake.c58, some ChartAwake.c59, some ChartAwake.c60, some ChartAwake.c61, some ChartAwake.c62, none, some ChartAwake.c64, some ChartAwake.c65, some ChartAwake.c66, some ChartAwake.c67, some ChartAwake.c68, none, none, none, some ChartAwake.c72, some ChartAwake.c73, some ChartAwake.c74, some ChartAwake.c75, some ChartAwake.c76, some ChartAwake.c77, some ChartAwake.c78, some ChartAwake.c79, some ChartAwake.c80, some ChartAwake.c81, some ChartAwake.c82, some ChartAwake.c83, none, some ChartAwake.c85, some ChartAwake.c86, some ChartAwake.c87, some ChartAwake.c88, some ChartAwake.c89, some ChartAwake.c90, none, some ChartAwake.c92]
noncomputable def fns : TV (Option AFunc) := Vec.ofList list
def none1 (args : List Value) (H : AH TV) : Option (Value × AH TV) := match args with | [] => some (.bool true, H) | _ => none
noncomputable def ext (f : FuncId) (args : List Value) (H : AH TV) : Option (Value × AH TV) := bif Nat.beq f 6 then none1 args H else none
noncomputable def E : Env TV := { P := Try.prog, fn := fun f => (Vec.get fns f).getD none, ext := ext }
theorem all_ok : OkFrom Try.prog 0 list := ⟨⟨false, c3_ok⟩, ⟨⟨false, ChartAwake.c7_ok⟩, ⟨⟨false, c8_ok⟩, ⟨⟨false, ChartAwake.c9_ok⟩, ⟨⟨false, ChartAwake.c24_ok⟩, ⟨⟨false, ChartAwake.c25_ok⟩, ⟨⟨false, ChartAwake.c26_ok⟩, ⟨⟨false, ChartAwake.c40_ok⟩, ⟨⟨false, ChartAwake.c41_ok⟩, ⟨⟨false, ChartAwake.c42_ok⟩, ⟨⟨false, ChartAwake.c44_ok⟩, ⟨⟨false, ChartAwake.c45_ok⟩, ⟨⟨false, ChartAwake.c48_ok⟩, ⟨⟨false, ChartAwake.c56_ok⟩, ⟨⟨false, ChartAwake.c57_ok⟩, ⟨⟨false, ChartAwake.c58_ok⟩, ⟨⟨false, ChartAwake.c59_ok⟩, ⟨⟨false, ChartAwake.c60_ok⟩, ⟨⟨false, ChartAwake.c61_ok⟩, ⟨⟨false, ChartAwake.c62_ok⟩, ⟨⟨false, ChartAwake.c64_ok⟩, ⟨⟨false, ChartAwake.c65_ok⟩, ⟨⟨false, ChartAwake.c66_ok⟩, ⟨⟨false, ChartAwake.c67_ok⟩, ⟨⟨false, ChartAwake.c68_ok⟩, ⟨⟨false, ChartAwake.c72_ok⟩, ⟨⟨false, ChartAwake.c73_ok⟩, ⟨⟨false, ChartAwake.c74_ok⟩, ⟨⟨false, ChartAwake.c75_ok⟩, ⟨⟨false, ChartAwake.c76_ok⟩, ⟨⟨false, ChartAwake.c77_ok⟩, ⟨⟨false, ChartAwake.c78_ok⟩, ⟨⟨false, ChartAwake.c79_ok⟩, ⟨⟨false, ChartAwake.c80_ok⟩, ⟨⟨false, ChartAwake.c81_ok⟩, ⟨⟨false, ChartAwake.c82_ok⟩, ⟨⟨false, ChartAwake.c83_ok⟩, ⟨⟨false, ChartAwake.c85_ok⟩, ⟨⟨false, ChartAwake.c86_ok⟩, ⟨⟨false, ChartAwake.c87_ok⟩, ⟨⟨false, ChartAwake.c88_ok⟩, ⟨⟨false, ChartAwake.c89_ok⟩, ⟨⟨false, ChartAwake.c90_ok⟩, ⟨⟨false, ChartAwake.c92_ok⟩, trivial⟩⟩⟩⟩⟩⟩⟩⟩⟩⟩⟩⟩⟩⟩⟩⟩⟩⟩⟩⟩⟩⟩⟩⟩⟩⟩⟩⟩⟩⟩⟩⟩⟩⟩⟩⟩⟩⟩⟩⟩⟩⟩⟩⟩
theorem ext_ok (f : FuncId) (args : List Value) (H : AH TV) (v : Value) (H' : AH TV) (h : ext f args H = some (v, H')) : CallsOk Try.prog f args H v H' := by
  unfold ext at h
  cases hb : Nat.beq f 6 with
  | true =>
    have hf : f = 6 := Nat.eq_of_beq_eq_true hb
    rw [hb] at h
    cases args with
    | nil =>
      simp only [none1, cond_true, Option.some.injEq, Prod.mk.injEq] at h
      obtain ⟨rfl, rfl⟩ := h
      rw [hf]
      exact closed_ok ChartAwake.env2_ok ChartAwake.run rfl H
    | cons a r => cases h
  | false =>
  rw [hb] at h
  cases h
theorem env_ok : EnvOk E := ⟨fun f fn h => fn_of all_ok h, ext_ok, draw_ok (by kernel_rfl)⟩
end Go.Proofs.Ytggaimcopbjdiaa.Graph
