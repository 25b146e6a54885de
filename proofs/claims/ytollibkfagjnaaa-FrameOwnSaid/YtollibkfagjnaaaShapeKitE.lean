/- Labels as sets: joined, within; copied. -/
import Derived.Test.YtollibkfagjnaaaShapeKitD
set_option linter.unusedVariables false
set_option linter.unusedSimpArgs false
set_option maxRecDepth 10000
namespace Go.Proofs.Ytollibkfagjnaaa.Shape.Kit
open Go.Proofs.Ytollibkfagjnaaa.AM
def orU (a b : Int) : Int := abits .or .u64 a b
def subU (a b : Int) : Int := abits .andNot .u64 a b
def joinU (l : List Int) : Int := l.foldl orU 0
def inU (a b : Int) : Bool := subU a b == 0
theorem within_ok (a b : Int) : PFun E 73 [u64 a, u64 b] (valQ (isV (.s (.bool (inU a b))))) := by
  refine p_fun ?_
  show PTri E false [] _ [u64 a, u64 b, .junk] _ _
  refine s_run ?_
  refine s_run ?_
  exact p_ret fin_v
theorem join_ok {n k : Nat} (xs : List Int) (hn : xs.length = n) (hl : n < 100000000000000) : PFun E 67 [.frz 1 n k (rowI .u64 xs)] (valQ (isV (u64 (joinU xs)))) := by
  subst hn
  refine p_fun ?_
  show PTri E false [] _ [.frz 1 xs.length k (rowI .u64 xs), .junk, .junk, .junk, .junk, .junk, .junk] _ _
  refine s_run ?_
  refine s_ass (s_run ?_)
  refine s_loop (fun i => i ≤ xs.length) (fun i => xs.length - i) (fun i => [.junk, u64 (joinU (xs.take i)), .junk, .frz 1 xs.length k (rowI .u64 xs), i64 (xs.length : Nat), i64 (i : Nat), .junk]) (fun _ => []) 0 (Nat.zero_le _) (wk [] [] _ _) ?_
  intro i hi
  refine s_run ?_
  refine s_cond (fun h => ?_) (fun h => ?_)
  · simp only [decide_eq_true_eq] at h
    have hil : i < xs.length := by omega
    refine s_skip (s_block (s_run ?_))
    refine e_run ?_
    refine e_run ?_
    have e : orU (joinU (xs.take i)) (xs.getD i 0) = joinU (xs.take (i + 1)) := by
      rw [List.take_succ_eq_append_getElem hil]
      unfold joinU
      rw [List.foldl_append, List.getD_eq_getElem?_getD, List.getElem?_eq_getElem hil]
      rfl
    refine lp_next (i + 1) (by omega) (wk [] [] _ _ (vals := ?_))
    rw [← e]
    exact .cons (.one (.junk _)) (.cons (.nlv rfl) (.cons (.one (.junk _)) (.cons (.nlv rfl) (.cons (.nlv rfl) (.cons (.nlv rfl) (.cons (.one (.junk _)) .nil))))))
  · simp only [decide_eq_false_iff_not] at h
    have hie : i = xs.length := by omega
    subst hie
    refine s_exit ?_
    refine s_run ?_
    rw [List.take_length]
    exact p_ret fin_v
end Go.Proofs.Ytollibkfagjnaaa.Shape.Kit
