/- Functions of graphs: what follows on an address, as the document tells it. -/
import Derived.Test.YtollibkfagjnaaaGraphC
set_option linter.unusedVariables false
set_option linter.unusedSimpArgs false
set_option maxRecDepth 10000
namespace Go.Proofs.Ytollibkfagjnaaa.Graph
open Go.Proofs.Ytollibkfagjnaaa.AM
def outS (p q n : Int) : List Int := if p < n then (if q < n ∧ q ≠ p then [p, q] else [p]) else if q < n ∧ q ≠ p then [q] else []
def outL (p q n : Int) : List Int := if p > q then outS q p n else outS p q n
end Go.Proofs.Ytollibkfagjnaaa.Graph
