/- Labels joined: laws. What an instruction makes of a frame, as the document tells it. -/
import Derived.Test.YtollibkfagjnaaaShapeKitK
set_option linter.unusedVariables false
set_option linter.unusedSimpArgs false
set_option maxRecDepth 10000
namespace Go.Proofs.Ytollibkfagjnaaa.Shape.Kit
open Go.Proofs.Ytollibkfagjnaaa.AM
/-- What is left of a frame, the condition, whether all was within. -/
structure SS where
  st : List Int
  lo : List Int
  cd : Int
  kp : Bool
end Go.Proofs.Ytollibkfagjnaaa.Shape.Kit
