/- Functions of graphs: what follows on an address, as the document tells it. -/
import Derived.Test.YtollibkfagjnaaaFrGrC
set_option linter.unusedVariables false
set_option linter.unusedSimpArgs false
set_option maxRecDepth 10000
namespace Go.Proofs.Ytollibkfagjnaaa.Shape.Gr
open Go.Proofs.Ytollibkfagjnaaa.AM
end Go.Proofs.Ytollibkfagjnaaa.Shape.Gr
