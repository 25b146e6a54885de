/- Functions of graphs: edges from both ends, as the document tells them. -/
import Derived.Test.YtollibkfagjnaaaGraphD
set_option linter.unusedVariables false
set_option linter.unusedSimpArgs false
set_option maxRecDepth 10000
namespace Go.Proofs.Ytollibkfagjnaaa.Graph
open Go.Proofs.Ytollibkfagjnaaa.AM
end Go.Proofs.Ytollibkfagjnaaa.Graph
