/- The law on all edges. -/
import Derived.Test.YtdbehmepikhghaaGraphM
set_option linter.unusedVariables false
set_option linter.unusedSimpArgs false
set_option maxRecDepth 10000
namespace Go.Proofs.Ytdbehmepikhghaa.Graph
open Go.Proofs.Ytdbehmepikhghaa.AM
def hd4 (f : Fn) (w : Nat) (row : Nat → List PV) : PH := [.cel (cellsF f), .cel [i64 (w : Nat)], .vec 2 (f.code.length + 1) row true, .cel (lentCells f (.vec 2 2 f.code.length))]
end Go.Proofs.Ytdbehmepikhghaa.Graph
