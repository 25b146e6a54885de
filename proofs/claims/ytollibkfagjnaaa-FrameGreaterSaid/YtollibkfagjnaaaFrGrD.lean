/- Functions of graphs, by what they come to: lists held against each other, edges. Functions of graphs: edges. Functions of graphs: what follows on an address. Functions of graphs: what follows on an address, as the document tells it. PUT TOGETHER by merge.py. -/
import Derived.Test.YtollibkfagjnaaaShapeCode
import Derived.Test.YtollibkfagjnaaaPM
set_option linter.unusedVariables false
set_option linter.unusedSimpArgs false
set_option maxRecDepth 10000
namespace Go.Proofs.Ytollibkfagjnaaa.Shape.Gr
open Go.Proofs.Ytollibkfagjnaaa.AM
/-! ### Code -/
structure Fn where
  lvl : Int
  ps : List Int
  rs : List Int
  loc : Int
  stk : Int
  code : List (Int × Int)
def rowC (code : List (Int × Int)) : Nat → List PV := fun i => [.s (.int .i64 (code.getD i (0, 0)).1), .s (.int .i64 (code.getD i (0, 0)).2)]
def encC (code : List (Int × Int)) : PV := .frz 2 code.length code.length (rowC code)
def cellsF (f : Fn) : List PV := [.s (.int .u64 f.lvl), encU f.ps, encU f.rs, .s (.int .i64 f.loc), .s (.int .i64 f.stk), encC f.code]
def encF (f : Fn) : PV := .agg (cellsF f)
/-- What follows on an address, the lesser one first. -/
def nextL (code : List (Int × Int)) (a : Nat) : List Int :=
  let op := (code.getD a (0, 0)).1
  let A := (code.getD a (0, 0)).2
  let n := code.length
  if op = 43 then (if 0 ≤ A ∧ A < n then [A] else [])
  else if op = 44 then
    (if a + 1 < n then (if 0 ≤ A ∧ A < n ∧ A ≠ (a : Int) + 1 then (if A < (a : Int) + 1 then [A, (a : Int) + 1] else [(a : Int) + 1, A]) else [(a : Int) + 1])
     else if 0 ≤ A ∧ A < n then [A] else [])
  else if op = 46 then [(n : Int)]
  else if a + 1 < n then [(a : Int) + 1] else []
def nextI (code : List (Int × Int)) (a : Int) : List Int := if 0 ≤ a ∧ a < code.length then nextL code a.toNat else []
def i64 (x : Int) : PV := .s (.int .i64 x)
end Go.Proofs.Ytollibkfagjnaaa.Shape.Gr

namespace Go.Proofs.Ytollibkfagjnaaa.Shape.Gr
open Go.Proofs.Ytollibkfagjnaaa.AM
/-- Code that fits. -/
structure Fit (code : List (Int × Int)) : Prop where
  len : code.length < 1000000
  op : ∀ i, in64 (code.getD i (0, 0)).1
  arg : ∀ i, in64 (code.getD i (0, 0)).2
end Go.Proofs.Ytollibkfagjnaaa.Shape.Gr

namespace Go.Proofs.Ytollibkfagjnaaa.Shape.Gr
open Go.Proofs.Ytollibkfagjnaaa.AM
theorem nextI_nat {code : List (Int × Int)} {a : Nat} (ha : a < code.length) : nextI code (a : Nat) = nextL code a := by
  unfold nextI
  rw [if_pos ⟨by omega, by omega⟩]
  rfl
end Go.Proofs.Ytollibkfagjnaaa.Shape.Gr

namespace Go.Proofs.Ytollibkfagjnaaa.Shape.Gr
open Go.Proofs.Ytollibkfagjnaaa.AM
end Go.Proofs.Ytollibkfagjnaaa.Shape.Gr

