/- The worker's methods, called from where there are other blocks. -/
import Derived.Test.YtollibkfagjnaaaShapeKitJ
set_option linter.unusedVariables false
set_option linter.unusedSimpArgs false
set_option maxRecDepth 10000
namespace Go.Proofs.Ytollibkfagjnaaa.Shape.Kit
open Go.Proofs.Ytollibkfagjnaaa.AM
section
variable {T L : List PV} {hp : PH} {l0 : Nat} {dr : Bool} {ops : List AOper} {Q : List PV → PH → Prop} {p : List Nat} {O : List Bool} {md : List Nat} {cnt : Nat} {rest : PH}
end
end Go.Proofs.Ytollibkfagjnaaa.Shape.Kit
