/- slices.Insert at this program: its body is the library's, and what it comes to. -/
import Derived.Test.YtollibkfagjnaaaAMc
import Derived.Test.YtollibkfagjnaaaProg
import Derived.KernelRfl
set_option linter.unusedVariables false
namespace Go.Proofs.Ytollibkfagjnaaa.FrIns
open Go.Proofs.Ytollibkfagjnaaa.AM
/-- The library's numbers here. -/
def ren : Go.Shelf.Ren where
  f := fun x => match x with
    | 21 => 63
    | 27 => 99
    | 28 => 100
    | 35 => 115
    | 39 => 129
    | n => n
  t := fun x => match x with
    | 22 => 38
    | 3 => 3
    | 4 => 4
    | n => n
  g := fun x => x
theorem lays : Go.Proofs.Lays2.n21 Try.prog ren where
  mixed := by kernel_rfl
  f21 := Eq.trans Try.func63 (congrArg some (by kernel_rfl))
  f27 := Eq.trans Try.func99 (congrArg some (by kernel_rfl))
  f28 := Eq.trans Try.func100 (congrArg some (by kernel_rfl))
  f35 := Eq.trans Try.func115 (congrArg some (by kernel_rfl))
  f39 := Eq.trans Try.func129 (congrArg some (by kernel_rfl))
  t0 := Try.underlying0
  a0 := Try.isAgg0
  z0 := Try.sizeOf0
  v0 := Try.zeroValue0
  t3 := Try.underlying3
  a3 := Try.isAgg3
  z3 := Try.sizeOf3
  v3 := Try.zeroValue3
  t4 := Try.underlying4
  a4 := Try.isAgg4
  z4 := Try.sizeOf4
  v4 := Try.zeroValue4
  t22 := Try.underlying38
  a22 := Try.isAgg38
  z22 := Try.sizeOf38
  v22 := Try.zeroValue38
  i3 := by kernel_rfl
theorem ins_ok {f : FuncId} {args : List Value} {H : AH TV} {v : Value} {H' : AH TV} (h : ains 63 f args H = some (v, H')) : CallsOk Try.prog f args H v H' := ains_ok lays ⟨_, _, Try.func63, rfl, by kernel_rfl⟩ h
end Go.Proofs.Ytollibkfagjnaaa.FrIns
