/- Functions of graphs: edges, and what leads to an address, as the document tells them. -/
import Derived.Test.YtggaimcopbjdiaaGraphE
set_option linter.unusedVariables false
set_option linter.unusedSimpArgs false
set_option maxRecDepth 10000
namespace Go.Proofs.Ytggaimcopbjdiaa.Graph
open Go.Proofs.Ytggaimcopbjdiaa.AM
theorem mem_nextL {code : List (Int × Int)} {a : Nat} {op A b : Int} (hop : (code.getD a (0, 0)).1 = op) (hA : (code.getD a (0, 0)).2 = A) : b ∈ nextL code a ↔ (op = 43 ∧ 0 ≤ b ∧ b < code.length ∧ A = b) ∨ (op = 44 ∧ 0 ≤ b ∧ b < code.length ∧ (b = (a : Int) + 1 ∨ A = b)) ∨ (op = 46 ∧ b = code.length) ∨ (op ≠ 43 ∧ op ≠ 44 ∧ op ≠ 46 ∧ b < code.length ∧ b = (a : Int) + 1) := by
  simp only [nextL, hop, hA]
  by_cases h1 : op = 43
  · rw [if_pos h1]
    split
    · simp only [List.mem_singleton]; omega
    · simp only [List.not_mem_nil, false_iff]; omega
  rw [if_neg h1]
  by_cases h2 : op = 44
  · rw [if_pos h2]
    split
    · split
      · split
        · simp only [List.mem_cons, List.not_mem_nil, or_false]; omega
        · simp only [List.mem_cons, List.not_mem_nil, or_false]; omega
      · simp only [List.mem_singleton]; omega
    · split
      · simp only [List.mem_singleton]; omega
      · simp only [List.not_mem_nil, false_iff]; omega
  rw [if_neg h2]
  by_cases h3 : op = 46
  · rw [if_pos h3]; simp only [List.mem_singleton]; omega
  rw [if_neg h3]
  split
  · simp only [List.mem_singleton]; omega
  · simp only [List.not_mem_nil, false_iff]; omega
theorem next_range {code : List (Int × Int)} {a : Nat} (ha : a < code.length) {b : Int} (h : b ∈ nextL code a) : 0 ≤ b ∧ b ≤ code.length := by
  rw [mem_nextL rfl rfl] at h; omega
/-- What leads to an address. -/
def aheadN (code : List (Int × Int)) (a : Int) (k : Nat) : List Int := ((List.range k).filter fun b => decide (a ∈ nextI code (b : Nat))).map fun b => ((b : Nat) : Int)
def aheadI (code : List (Int × Int)) (a : Int) : List Int := aheadN code a code.length
theorem aheadN_succ (code : List (Int × Int)) (a : Int) (k : Nat) : aheadN code a (k + 1) = if a ∈ nextI code (k : Nat) then aheadN code a k ++ [((k : Nat) : Int)] else aheadN code a k := by
  unfold aheadN
  rw [List.range_succ, List.filter_append]
  by_cases h : a ∈ nextI code (k : Nat)
  · rw [if_pos h]; simp [h]
  · rw [if_neg h]; simp [h]
theorem aheadN_len (code : List (Int × Int)) (a : Int) (k : Nat) : (aheadN code a k).length ≤ k := by
  unfold aheadN
  rw [List.length_map]
  exact Nat.le_trans (List.length_filter_le _ _) (by simp)
end Go.Proofs.Ytggaimcopbjdiaa.Graph
