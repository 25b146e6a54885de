/- Levels. -/
import Derived.Test.YtollibkfagjnaaaRegTell
set_option linter.unusedVariables false
set_option linter.unusedSimpArgs false
set_option maxRecDepth 10000
namespace Go.Proofs.Ytollibkfagjnaaa.Graph
open Go.Proofs.Ytollibkfagjnaaa.AM Go.Proofs.Ytollibkfagjnaaa.Post
def u64 (x : Int) : PV := .s (.int .u64 x)
noncomputable def vW (code : List (Int × Int)) : PB := .cel [nextP code, treeP code, .vec 1 2 (code.length + 1)]
end Go.Proofs.Ytollibkfagjnaaa.Graph
