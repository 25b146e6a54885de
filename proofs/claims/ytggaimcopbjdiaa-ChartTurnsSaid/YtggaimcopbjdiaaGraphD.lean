/- Functions of graphs: what follows on an address, as the document tells it. -/
import Derived.Test.YtggaimcopbjdiaaGraphC
set_option linter.unusedVariables false
set_option linter.unusedSimpArgs false
set_option maxRecDepth 10000
namespace Go.Proofs.Ytggaimcopbjdiaa.Graph
open Go.Proofs.Ytggaimcopbjdiaa.AM
end Go.Proofs.Ytggaimcopbjdiaa.Graph
