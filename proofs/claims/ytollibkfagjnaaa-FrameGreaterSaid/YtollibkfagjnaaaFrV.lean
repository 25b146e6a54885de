/- Repeat, BinarySearch and what they call. slices.Repeat and slices.BinarySearch. slices.BinarySearch in a queue. PUT TOGETHER by merge.py. -/
import Derived.Test.YtollibkfagjnaaaFrS
import Derived.Test.YtollibkfagjnaaaShapeKitJ
import Derived.Test.YtollibkfagjnaaaPostMk
import Derived.Test.YtollibkfagjnaaaTabC
set_option linter.unusedVariables false
set_option linter.unusedSimpArgs false
set_option maxRecDepth 10000
namespace Go.Proofs.Ytollibkfagjnaaa.Shape.Kit
open Go.Proofs.Ytollibkfagjnaaa.AM
end Go.Proofs.Ytollibkfagjnaaa.Shape.Kit

namespace Go.Proofs.Ytollibkfagjnaaa.Shape.Kit
open Go.Proofs.Ytollibkfagjnaaa.AM
end Go.Proofs.Ytollibkfagjnaaa.Shape.Kit

namespace Go.Proofs.Ytollibkfagjnaaa.Shape.Kit
open Go.Proofs.Ytollibkfagjnaaa.AM
end Go.Proofs.Ytollibkfagjnaaa.Shape.Kit

