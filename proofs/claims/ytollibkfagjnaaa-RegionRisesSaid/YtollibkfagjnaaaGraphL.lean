/- What is handed in, in memory of its own; all edges of a function. -/
import Derived.Test.YtollibkfagjnaaaGraphK
set_option linter.unusedVariables false
set_option linter.unusedSimpArgs false
set_option maxRecDepth 10000
namespace Go.Proofs.Ytollibkfagjnaaa.Graph
open Go.Proofs.Ytollibkfagjnaaa.AM
/-- With a mark behind. -/
def lentU (xs : List Int) : PV := .frz 1 xs.length (xs.length + 1) (rowI .u64 (xs ++ [7171]))
def markC (code : List (Int × Int)) : List (Int × Int) := code ++ [(-71, 0)]
theorem rowC_push {code : List (Int × Int)} {x : Int × Int} {i : Nat} (hi : i < code.length + 1) : (if i < code.length then rowC code i else ([i64 x.1, i64 x.2].drop ((i - code.length) * 2)).take 2) = rowC (code ++ [x]) i := by
  by_cases h : i < code.length
  · rw [if_pos h]
    simp only [rowC, List.getD_eq_getElem?_getD, List.getElem?_append_left h]
  · have : i = code.length := by omega
    subst this
    rw [if_neg (by omega)]
    simp [rowC, List.getD_eq_getElem?_getD, i64]
def lentCells (f : Fn) (c : PV) : List PV := [.s (.int .u64 f.lvl), lentU f.ps, lentU f.rs, .s (.int .i64 f.loc), .s (.int .i64 f.stk), c]
end Go.Proofs.Ytollibkfagjnaaa.Graph
