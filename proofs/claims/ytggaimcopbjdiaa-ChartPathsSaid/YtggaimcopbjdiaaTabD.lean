import Derived.Test.YtggaimcopbjdiaaTabC
import Derived.Test.YtggaimcopbjdiaaGraphP
set_option linter.unusedVariables false
set_option linter.unusedSimpArgs false
set_option maxRecDepth 10000
namespace Go.Proofs.Ytggaimcopbjdiaa.Graph
open Go.Proofs.Ytggaimcopbjdiaa.AM
end Go.Proofs.Ytggaimcopbjdiaa.Graph
