/- Functions of graphs: edges from both ends, as the document tells them. -/
import Derived.Test.YtollibkfagjnaaaGraphD
set_option linter.unusedVariables false
set_option linter.unusedSimpArgs false
set_option maxRecDepth 10000
namespace Go.Proofs.Ytollibkfagjnaaa.Graph
open Go.Proofs.Ytollibkfagjnaaa.AM
theorem index_ok (xs : List Bool) (hx : xs.length < 1000000000) : PFun E 87 [encB xs, .s (.bool false)] (valQ (isV (i64 (if false ∈ xs then (xs.idxOf false : Nat) else -1)))) := by
  refine p_fun ?_
  show PTri E false [] _ [encB xs, .s (.bool false), .junk, .junk, .junk, .junk, .junk, .junk] _ _
  refine s_run ?_
  refine s_ass (s_run ?_)
  refine s_loop (fun i => i ≤ xs.length ∧ false ∉ xs.take i) (fun i => xs.length - i) (fun i => [encB xs, .s (.bool false), i64 0, .junk, i64 (xs.length : Nat), .s (.int .i64 (i : Nat)), .junk, .junk]) (fun _ => []) 0 ⟨Nat.zero_le _, by simp⟩ (wk [] [] _ _) ?_
  rintro i ⟨hi, he⟩
  refine s_run ?_
  refine s_cond (fun h => ?_) (fun h => ?_)
  · simp only [decide_eq_true_eq] at h
    have hl : i < xs.length := by omega
    have hg : xs.getD i false = xs[i] := by simp [List.getD_eq_getElem?_getD, hl]
    refine s_skip (s_block (s_run ?_))
    refine s_run ?_
    refine e_cond (fun h2 => ?_) (fun h2 => ?_)
    · have hx : xs[i] = false := by rw [hg] at h2; simpa using h2
      have hm : false ∈ xs := hx ▸ List.getElem_mem hl
      have hidx : xs.idxOf false = i := by
        have h3 : xs = xs.take i ++ xs.drop i := (List.take_append_drop i xs).symm
        rw [h3, List.idxOf_append, if_neg he, List.drop_eq_getElem_cons hl, hx]
        simp [List.length_take]; omega
      rw [if_pos hm, hidx]
      refine s_run ?_
      exact p_ret fin_v
    · refine p_skip (e_run ?_)
      refine lp_next (i + 1) ⟨by omega, ?_⟩ (wk [] [] _ _)
      rw [hg] at h2
      rw [List.take_succ_eq_append_getElem hl, List.mem_append, not_or]
      exact ⟨he, fun x => by simp at x; rw [← x] at h2; simp at h2⟩
  · simp only [decide_eq_false_iff_not] at h
    refine s_exit ?_
    have : false ∉ xs := by
      have hi' : i = xs.length := by omega
      rw [hi', List.take_length] at he
      exact he
    rw [if_neg this]
    refine s_run ?_
    exact p_ret fin_v
end Go.Proofs.Ytollibkfagjnaaa.Graph
