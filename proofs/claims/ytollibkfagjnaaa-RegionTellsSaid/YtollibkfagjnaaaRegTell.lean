/- What is told to level.add, and to Governs. -/
import Derived.Test.YtollibkfagjnaaaRegEach
set_option linter.unusedVariables false
set_option linter.unusedSimpArgs false
set_option maxRecDepth 10000
namespace Go.Proofs.Ytollibkfagjnaaa.Graph
open Go.Proofs.Ytollibkfagjnaaa.AM Go.Proofs.Ytollibkfagjnaaa.Post
def fB (z : Nat) : PV := .fptr 1 1 (fun _ => [i64 (z : Nat)]) 0 0
def govN (y b : Nat) (l : List Nat) (x : Nat) : List Nat := if x = y then l ++ [b] else l
end Go.Proofs.Ytollibkfagjnaaa.Graph
