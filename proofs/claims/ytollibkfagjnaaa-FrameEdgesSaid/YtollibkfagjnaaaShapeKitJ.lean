/- The worker: a stack and locals of one's own, a level, and whether all was within. -/
import Derived.Test.YtollibkfagjnaaaShapeKitI
import Derived.Test.YtollibkfagjnaaaPN
set_option linter.unusedVariables false
set_option linter.unusedSimpArgs false
set_option maxRecDepth 10000
namespace Go.Proofs.Ytollibkfagjnaaa.Shape.Kit
open Go.Proofs.Ytollibkfagjnaaa.AM
end Go.Proofs.Ytollibkfagjnaaa.Shape.Kit
