/- The document's Heights, walked. -/
import Derived.Test.YtollibkfagjnaaaFrX
set_option linter.unusedVariables false
set_option linter.unusedSimpArgs false
set_option maxRecDepth 10000
namespace Go.Proofs.Ytollibkfagjnaaa.Shape.Kit
open Go.Proofs.Ytollibkfagjnaaa.AM
def toG (f : Fn) : Gr.Fn := ⟨f.lvl, f.ps, f.rs, f.loc, f.stk, f.code⟩
def hR (hs : List Int) (lk : List Bool) : PH := [.cel [i64 0, i64 0, i64 0], .vec 1 hs.length (rowI .i64 hs) true, .vec 1 lk.length (rowB lk) true]
end Go.Proofs.Ytollibkfagjnaaa.Shape.Kit
