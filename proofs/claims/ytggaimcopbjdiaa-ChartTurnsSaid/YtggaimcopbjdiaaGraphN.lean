/- The law on all edges. -/
import Derived.Test.YtggaimcopbjdiaaGraphM
set_option linter.unusedVariables false
set_option linter.unusedSimpArgs false
set_option maxRecDepth 10000
namespace Go.Proofs.Ytggaimcopbjdiaa.Graph
open Go.Proofs.Ytggaimcopbjdiaa.AM
/-- The law's temporaries. -/
def tt (f : Fn) (u : Int) (x8 x9 x10 x11 x12 x13 x14 x20 x27 : PV) : List PV := [encF f, i64 u, .ptr 0 0, .ptr 1 0, .s (.bool false), i64 (f.code.length : Nat), .ptr 3 0, seqF f.code, x8, x9, x10, x11, x12, x13, x14, .junk, .junk, .junk, .junk, .junk, x20, .junk, .junk, .junk, .junk, .junk, .junk, x27, .junk, .junk]
def hd4 (f : Fn) (w : Nat) (row : Nat → List PV) : PH := [.cel (cellsF f), .cel [i64 (w : Nat)], .vec 2 (f.code.length + 1) row true, .cel (lentCells f (.vec 2 2 f.code.length))]
end Go.Proofs.Ytggaimcopbjdiaa.Graph
