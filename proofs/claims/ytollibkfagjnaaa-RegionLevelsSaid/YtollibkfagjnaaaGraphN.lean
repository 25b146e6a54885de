/- The law on all edges. -/
import Derived.Test.YtollibkfagjnaaaGraphM
set_option linter.unusedVariables false
set_option linter.unusedSimpArgs false
set_option maxRecDepth 10000
namespace Go.Proofs.Ytollibkfagjnaaa.Graph
open Go.Proofs.Ytollibkfagjnaaa.AM
/-- The law's temporaries. -/
def tt (f : Fn) (u : Int) (x8 x9 x10 x11 x12 x13 x14 x20 x27 : PV) : List PV := [encF f, i64 u, .ptr 0 0, .ptr 1 0, .s (.bool false), i64 (f.code.length : Nat), .ptr 3 0, seqF f.code, x8, x9, x10, x11, x12, x13, x14, .junk, .junk, .junk, .junk, .junk, x20, .junk, .junk, .junk, .junk, .junk, .junk, x27, .junk, .junk]
def hd4 (f : Fn) (w : Nat) (row : Nat → List PV) : PH := [.cel (cellsF f), .cel [i64 (w : Nat)], .vec 2 (f.code.length + 1) row true, .cel (lentCells f (.vec 2 2 f.code.length))]
/-- All edges so far, at an address. -/
def wantL (code : List (Int × Int)) (a i : Nat) : List Int := flatE (edgesN code a ++ ((nextL code a).take i).map fun b => ((a : Int), b))
theorem wantL_zero (code : List (Int × Int)) (a : Nat) : wantL code a 0 = flatE (edgesN code a) := by simp [wantL]
theorem wantL_end (code : List (Int × Int)) (a : Nat) : wantL code a (nextL code a).length = flatE (edgesN code (a + 1)) := by
  unfold wantL; rw [List.take_length, edgesN_succ]
theorem wantL_succ {code : List (Int × Int)} {a i : Nat} (hi : i < (nextL code a).length) : wantL code a (i + 1) = wantL code a i ++ [(a : Int), (nextL code a).getD i 0] := by
  unfold wantL
  rw [List.take_succ_eq_append_getElem hi, List.map_append, ← List.append_assoc, flatE_app, getD_at hi]
  rfl
theorem edgesN_len (code : List (Int × Int)) (k : Nat) : (edgesN code k).length ≤ 2 * k := by
  induction k with
  | zero => simp [edgesN]
  | succ k ih => rw [edgesN_succ, List.length_append, List.length_map]; have := nextL_len code k; omega
theorem wantL_len (code : List (Int × Int)) (a i : Nat) : (wantL code a i).length ≤ 4 * a + 4 := by
  unfold wantL
  rw [flatE_len, List.length_append, List.length_map, List.length_take]
  have := edgesN_len code a
  have := nextL_len code a
  omega
theorem two_row {x y : Int} (i : Nat) (hi : i < [x, y].length) : ([i64 x, i64 y].drop (i * 1)).take 1 = rowI .i64 [x, y] i := by
  have : i = 0 ∨ i = 1 := by simp only [List.length_cons, List.length_nil] at hi; omega
  rcases this with rfl | rfl <;> rfl
theorem push2 {xs : List Int} {x y : Int} {i : Nat} (hi : i < xs.length + 2) : (if i < xs.length then rowI .i64 xs i else ([i64 x, i64 y].drop ((i - xs.length) * 1)).take 1) = rowI .i64 (xs ++ [x, y]) i :=
  row1_app (en := i64) (d := 0) (xs := xs) (ys := [x, y]) (g := fun i => ([i64 x, i64 y].drop (i * 1)).take 1) (fun _ _ => rfl) (fun i hi => two_row i hi) hi
end Go.Proofs.Ytollibkfagjnaaa.Graph
