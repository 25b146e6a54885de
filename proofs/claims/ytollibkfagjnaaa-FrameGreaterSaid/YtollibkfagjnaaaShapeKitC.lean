/- Modules lent. -/
import Derived.Test.YtollibkfagjnaaaShapeKitB
set_option linter.unusedVariables false
set_option linter.unusedSimpArgs false
set_option maxRecDepth 10000
namespace Go.Proofs.Ytollibkfagjnaaa.Shape.Kit
open Go.Proofs.Ytollibkfagjnaaa.AM
end Go.Proofs.Ytollibkfagjnaaa.Shape.Kit
