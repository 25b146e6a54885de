/- level.add. -/
import Derived.Test.YtollibkfagjnaaaRegDfs
set_option linter.unusedVariables false
set_option linter.unusedSimpArgs false
set_option maxRecDepth 10000
namespace Go.Proofs.Ytollibkfagjnaaa.Graph
open Go.Proofs.Ytollibkfagjnaaa.AM Go.Proofs.Ytollibkfagjnaaa.Post
end Go.Proofs.Ytollibkfagjnaaa.Graph
