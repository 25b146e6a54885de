/- What the worker does: an instruction makes of its frame what the document tells. PRINTED by genM.py. -/
import Derived.Test.YtollibkfagjnaaaShapeKitL
set_option linter.unusedVariables false
set_option linter.unusedSimpArgs false
set_option maxRecDepth 10000
namespace Go.Proofs.Ytollibkfagjnaaa.Shape.Kit
open Go.Proofs.Ytollibkfagjnaaa.AM
variable {m : Md} {f : Nat} {op A : Int} {xs lo : List Int} {lvl : Int}
end Go.Proofs.Ytollibkfagjnaaa.Shape.Kit
