/- Functions of graphs: edges from both ends, as the document tells them. -/
import Derived.Test.YtdbehmepikhghaaGraphD
set_option linter.unusedVariables false
set_option linter.unusedSimpArgs false
set_option maxRecDepth 10000
namespace Go.Proofs.Ytdbehmepikhghaa.Graph
open Go.Proofs.Ytdbehmepikhghaa.AM
theorem bools_ok (xs ys : List Bool) (hx : xs.length < 1000000000) : PFun E 20 [encB xs, encB ys] (valQ (isV (.s (.bool (decide (xs = ys)))))) := by
  refine p_fun ?_
  show PTri E false [] _ [encB xs, encB ys, .junk, .junk, .junk, .junk, .junk] _ _
  refine s_run ?_
  refine s_ass (s_run ?_)
  refine s_cond (fun h => ?_) (fun h => ?_)
  · have : xs ≠ ys := fun e => by subst e; simp at h
    rw [decide_eq_false this]
    refine s_ass (s_run ?_)
    exact s_ret fin_v
  have hl : xs.length = ys.length := by simp at h; omega
  refine s_skip (s_ass (s_run ?_))
  refine s_loop (fun i => i ≤ xs.length ∧ xs.take i = ys.take i) (fun i => xs.length - i) (fun i => [encB xs, encB ys, .s (.bool false), .s (.int .i64 (i : Nat)), .junk, .junk, .junk]) (fun _ => []) 0 ⟨Nat.zero_le _, rfl⟩ (wk [] [] _ _) ?_
  rintro i ⟨hi, he⟩
  refine s_ass (s_run ?_)
  refine s_cond (fun h => ?_) (fun h => ?_)
  · simp only [decide_eq_true_eq] at h
    refine s_skip (s_block (d_run ?_))
    refine e_cond (fun h2 => ?_) (fun h2 => ?_)
    · have : xs ≠ ys := fun e => by subst e; simp at h2
      rw [decide_eq_false this]
      refine s_run ?_
      exact p_ret fin_v
    · refine p_skip (e_run ?_)
      exact lp_next (i + 1) ⟨by omega, take_succ he (by omega) (by omega) (by simpa using h2)⟩ (wk [] [] _ _)
  · simp only [decide_eq_false_iff_not] at h
    refine s_exit ?_
    have : xs = ys := by
      have hi' : i = xs.length := by omega
      rw [hi', List.take_length, hl, List.take_length] at he
      exact he
    rw [decide_eq_true this]
    refine s_run ?_
    exact p_ret fin_v
end Go.Proofs.Ytdbehmepikhghaa.Graph
