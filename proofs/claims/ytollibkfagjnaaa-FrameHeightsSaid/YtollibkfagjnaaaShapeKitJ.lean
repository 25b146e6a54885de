/- The worker: a stack and locals of one's own, a level, and whether all was within. -/
import Derived.Test.YtollibkfagjnaaaShapeKitI
import Derived.Test.YtollibkfagjnaaaPN
set_option linter.unusedVariables false
set_option linter.unusedSimpArgs false
set_option maxRecDepth 10000
namespace Go.Proofs.Ytollibkfagjnaaa.Shape.Kit
open Go.Proofs.Ytollibkfagjnaaa.AM
theorem p_fnw {p : List Nat} {f : FuncId} {fn : AFunc} {args : List PV} {hp : PH} {R : PV → PH → Prop} (h : PTri E false p fn.body (fn.keep.map fun t => (args[t]?).getD .junk) hp (retQ fn.res fun v hp' => ∃ σ fz v2 hp2, Weak p σ fz [v] hp' [v2] hp2 ∧ R v2 hp2)) (hx : ∀ avs (H : AH TV), E.ext f avs H = none := by exact fun _ _ => rfl) (hf : E.fn f = some fn := by rfl) : PCall E p f args hp R := call_post (p_call hx hf h)
end Go.Proofs.Ytollibkfagjnaaa.Shape.Kit
