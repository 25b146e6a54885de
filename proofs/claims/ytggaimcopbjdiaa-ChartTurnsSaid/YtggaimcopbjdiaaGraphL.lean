/- What is handed in, in memory of its own; all edges of a function. -/
import Derived.Test.YtggaimcopbjdiaaGraphK
set_option linter.unusedVariables false
set_option linter.unusedSimpArgs false
set_option maxRecDepth 10000
namespace Go.Proofs.Ytggaimcopbjdiaa.Graph
open Go.Proofs.Ytggaimcopbjdiaa.AM
/-- With a mark behind. -/
def lentU (xs : List Int) : PV := .frz 1 xs.length (xs.length + 1) (rowI .u64 (xs ++ [7171]))
def lentCells (f : Fn) (c : PV) : List PV := [.s (.int .u64 f.lvl), lentU f.ps, lentU f.rs, .s (.int .i64 f.loc), .s (.int .i64 f.stk), c]
end Go.Proofs.Ytggaimcopbjdiaa.Graph
