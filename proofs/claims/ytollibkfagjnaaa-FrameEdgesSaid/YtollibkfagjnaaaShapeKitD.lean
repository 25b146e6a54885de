/- Frames: lent, kept, held against each other. -/
import Derived.Test.YtollibkfagjnaaaShapeKitC
set_option linter.unusedVariables false
set_option linter.unusedSimpArgs false
set_option maxRecDepth 10000
namespace Go.Proofs.Ytollibkfagjnaaa.Shape.Kit
open Go.Proofs.Ytollibkfagjnaaa.AM
structure Fr where
  st : List Int
  lo : List Int
def encFr (x : Fr) : PV := .agg [encU x.st, encU x.lo]
structure FrFits (x : Fr) : Prop where
  st : x.st.length < 17592186044415
  lo : x.lo.length < 17592186044415
end Go.Proofs.Ytollibkfagjnaaa.Shape.Kit
