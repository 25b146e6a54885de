/- Functions of graphs: what follows on an address. -/
import Derived.Test.YtggaimcopbjdiaaGraphB
set_option linter.unusedVariables false
set_option linter.unusedSimpArgs false
set_option maxRecDepth 10000
namespace Go.Proofs.Ytggaimcopbjdiaa.Graph
open Go.Proofs.Ytggaimcopbjdiaa.AM
theorem clip_ok (n k : Nat) (row : Nat → List PV) (hk : n ≤ k) : PFun E 44 [.frz 1 n k row] (valQ (isV (.frz 1 n n row))) := by
  refine p_fun ?_
  show PTri E false [] _ [.frz 1 n k row, .junk] _ _
  refine s_run ?_
  refine s_run ?_
  exact p_ret fin_v
theorem two_rows {x y : Int} {c : Nat} {l : List Int} (h : [x, y].take c = l) (hc : c = l.length) : ∀ i, i < l.length → (([i64 x, i64 y].drop (i * 1)).take 1) = rowI .i64 l i := by
  intro i hi
  subst h
  have h2 : ([x, y].take c).length ≤ 2 := by rw [List.length_take]; exact Nat.min_le_right _ _
  have hi2 : i = 0 ∨ i = 1 := by omega
  have hcc : i < c := by rw [List.length_take] at hi; omega
  rcases hi2 with rfl | rfl
  · obtain ⟨c', rfl⟩ : ∃ c', c = c' + 1 := ⟨c - 1, by omega⟩
    simp [rowI, i64]
  · obtain ⟨c', rfl⟩ : ∃ c', c = c' + 2 := ⟨c - 2, by omega⟩
    simp [rowI, i64]
theorem nextI_nat {code : List (Int × Int)} {a : Nat} (ha : a < code.length) : nextI code (a : Nat) = nextL code a := by
  unfold nextI
  rw [if_pos ⟨by omega, by omega⟩]
  rfl
theorem nextL_len (code : List (Int × Int)) (a : Nat) : (nextL code a).length ≤ 2 := by
  simp only [nextL]
  repeat' split
  all_goals simp
end Go.Proofs.Ytggaimcopbjdiaa.Graph
