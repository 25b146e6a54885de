/- All edges of what is handed in. -/
import Derived.Test.YtdbehmepikhghaaGraphL
set_option linter.unusedVariables false
set_option linter.unusedSimpArgs false
set_option maxRecDepth 10000
namespace Go.Proofs.Ytdbehmepikhghaa.Graph
open Go.Proofs.Ytdbehmepikhghaa.AM
end Go.Proofs.Ytdbehmepikhghaa.Graph
