/- Functions of graphs: edges from both ends, as the document tells them. -/
import Derived.Test.YtdbehmepikhghaaGraphD
set_option linter.unusedVariables false
set_option linter.unusedSimpArgs false
set_option maxRecDepth 10000
namespace Go.Proofs.Ytdbehmepikhghaa.Graph
open Go.Proofs.Ytdbehmepikhghaa.AM
theorem bools_ok (xs ys : List Bool) (hx : xs.length < 1000000000) : PFun E 20 [encB xs, encB ys] (valQ (isV (.s (.bool (decide (xs = ys)))))) := by
  refine p_fun ?_
  show PTri E false [] _ [encB xs, encB ys, .junk, .junk, .junk, .junk, .junk] _ _
  refine s_run ?_
  refine s_ass (s_run ?_)
  refine s_cond (fun h => ?_) (fun h => ?_)
  · have : xs ≠ ys := fun e => by subst e; simp at h
    rw [decide_eq_false this]
    refine s_ass (s_run ?_)
    exact s_ret fin_v
  have hl : xs.length = ys.length := by simp at h; omega
  refine s_skip (s_ass (s_run ?_))
  refine s_loop (fun i => i ≤ xs.length ∧ xs.take i = ys.take i) (fun i => xs.length - i) (fun i => [encB xs, encB ys, .s (.bool false), .s (.int .i64 (i : Nat)), .junk, .junk, .junk]) (fun _ => []) 0 ⟨Nat.zero_le _, rfl⟩ (wk [] [] _ _) ?_
  rintro i ⟨hi, he⟩
  refine s_ass (s_run ?_)
  refine s_cond (fun h => ?_) (fun h => ?_)
  · simp only [decide_eq_true_eq] at h
    refine s_skip (s_block (d_run ?_))
    refine e_cond (fun h2 => ?_) (fun h2 => ?_)
    · have : xs ≠ ys := fun e => by subst e; simp at h2
      rw [decide_eq_false this]
      refine s_run ?_
      exact p_ret fin_v
    · refine p_skip (e_run ?_)
      exact lp_next (i + 1) ⟨by omega, take_succ he (by omega) (by omega) (by simpa using h2)⟩ (wk [] [] _ _)
  · simp only [decide_eq_false_iff_not] at h
    refine s_exit ?_
    have : xs = ys := by
      have hi' : i = xs.length := by omega
      rw [hi', List.take_length, hl, List.take_length] at he
      exact he
    rw [decide_eq_true this]
    refine s_run ?_
    exact p_ret fin_v
theorem has_ok (xs : List Int) (n : Int) (hx : xs.length < 1000000000) : PFun E 29 [encI xs, i64 n] (valQ (isV (.s (.bool (decide (n ∈ xs)))))) := by
  refine p_fun ?_
  show PTri E false [] _ [encI xs, i64 n, .junk, .junk, .junk, .junk] _ _
  refine s_run ?_
  refine s_ass (s_run ?_)
  refine s_loop (fun i => i ≤ xs.length ∧ n ∉ xs.take i) (fun i => xs.length - i) (fun i => [encI xs, i64 n, .s (.bool false), .s (.int .i64 (i : Nat)), .junk, .junk]) (fun _ => []) 0 ⟨Nat.zero_le _, by simp⟩ (wk [] [] _ _) ?_
  rintro i ⟨hi, he⟩
  refine s_ass (s_run ?_)
  refine s_cond (fun h => ?_) (fun h => ?_)
  · simp only [decide_eq_true_eq] at h
    have hl : i < xs.length := by omega
    have hg : xs.getD i 0 = xs[i] := by simp [List.getD_eq_getElem?_getD, hl]
    refine s_skip (s_block (s_run ?_))
    refine e_cond (fun h2 => ?_) (fun h2 => ?_)
    · have : n ∈ xs := by
        simp only [beq_iff_eq] at h2
        rw [← h2, hg]; exact List.getElem_mem hl
      rw [decide_eq_true this]
      refine s_run ?_
      exact p_ret fin_v
    · refine p_skip (e_run ?_)
      refine lp_next (i + 1) ⟨by omega, ?_⟩ (wk [] [] _ _)
      simp only [beq_eq_false_iff_ne, ne_eq] at h2
      rw [hg] at h2
      rw [List.take_succ_eq_append_getElem hl, List.mem_append, not_or]
      exact ⟨he, fun x => h2 (List.mem_singleton.1 x).symm⟩
  · simp only [decide_eq_false_iff_not] at h
    refine s_exit ?_
    have : n ∉ xs := by
      have hi' : i = xs.length := by omega
      rw [hi', List.take_length] at he
      exact he
    rw [decide_eq_false this]
    refine s_run ?_
    exact p_ret fin_v
theorem index_ok (xs : List Bool) (hx : xs.length < 1000000000) : PFun E 59 [encB xs, .s (.bool false)] (valQ (isV (i64 (if false ∈ xs then (xs.idxOf false : Nat) else -1)))) := by
  refine p_fun ?_
  show PTri E false [] _ [encB xs, .s (.bool false), .junk, .junk, .junk, .junk, .junk, .junk] _ _
  refine s_run ?_
  refine s_ass (s_run ?_)
  refine s_loop (fun i => i ≤ xs.length ∧ false ∉ xs.take i) (fun i => xs.length - i) (fun i => [encB xs, .s (.bool false), i64 0, .junk, i64 (xs.length : Nat), .s (.int .i64 (i : Nat)), .junk, .junk]) (fun _ => []) 0 ⟨Nat.zero_le _, by simp⟩ (wk [] [] _ _) ?_
  rintro i ⟨hi, he⟩
  refine s_run ?_
  refine s_cond (fun h => ?_) (fun h => ?_)
  · simp only [decide_eq_true_eq] at h
    have hl : i < xs.length := by omega
    have hg : xs.getD i false = xs[i] := by simp [List.getD_eq_getElem?_getD, hl]
    refine s_skip (s_block (s_run ?_))
    refine s_run ?_
    refine e_cond (fun h2 => ?_) (fun h2 => ?_)
    · have hx : xs[i] = false := by rw [hg] at h2; simpa using h2
      have hm : false ∈ xs := hx ▸ List.getElem_mem hl
      have hidx : xs.idxOf false = i := by
        have h3 : xs = xs.take i ++ xs.drop i := (List.take_append_drop i xs).symm
        rw [h3, List.idxOf_append, if_neg he, List.drop_eq_getElem_cons hl, hx]
        simp [List.length_take]; omega
      rw [if_pos hm, hidx]
      refine s_run ?_
      exact p_ret fin_v
    · refine p_skip (e_run ?_)
      refine lp_next (i + 1) ⟨by omega, ?_⟩ (wk [] [] _ _)
      rw [hg] at h2
      rw [List.take_succ_eq_append_getElem hl, List.mem_append, not_or]
      exact ⟨he, fun x => by simp at x; rw [← x] at h2; simp at h2⟩
  · simp only [decide_eq_false_iff_not] at h
    refine s_exit ?_
    have : false ∉ xs := by
      have hi' : i = xs.length := by omega
      rw [hi', List.take_length] at he
      exact he
    rw [if_neg this]
    refine s_run ?_
    exact p_ret fin_v
end Go.Proofs.Ytdbehmepikhghaa.Graph
