/- The first address without a way out, from the end. -/
import Derived.Test.YtggaimcopbjdiaaGraphN
set_option linter.unusedVariables false
set_option linter.unusedSimpArgs false
set_option maxRecDepth 10000
namespace Go.Proofs.Ytggaimcopbjdiaa.Graph
open Go.Proofs.Ytggaimcopbjdiaa.AM
theorem aheadN_mem {code : List (Int × Int)} {a c : Int} {k : Nat} (h : c ∈ aheadN code a k) : ∃ j : Nat, c = j ∧ j < k := by
  induction k with
  | zero => simp [aheadN] at h
  | succ k ih =>
    rw [aheadN_succ] at h
    split at h
    · rcases List.mem_append.1 h with h | h
      · obtain ⟨j, h1, h2⟩ := ih h
        exact ⟨j, h1, by omega⟩
      · simp at h
        exact ⟨k, h, by omega⟩
    · obtain ⟨j, h1, h2⟩ := ih h
      exact ⟨j, h1, by omega⟩
theorem edgesN_mem {code : List (Int × Int)} {k : Nat} {x : Int × Int} (hk : k ≤ code.length) (h : x ∈ edgesN code k) : ∃ a b : Nat, x = ((a : Int), (b : Int)) ∧ a < k ∧ (b : Int) ∈ nextL code a := by
  unfold edgesN at h
  obtain ⟨a, h1, h2⟩ := List.mem_flatMap.1 h
  obtain ⟨b, h3, rfl⟩ := List.mem_map.1 h2
  have ha := List.mem_range.1 h1
  obtain ⟨j, rfl, _⟩ := next_lt (code := code) (a := (a : Int)) (by rw [nextI_nat (by omega)]; exact h3)
  exact ⟨a, j, rfl, ha, h3⟩
theorem lead_push {l : List (Int × Int)} {x : Int} {b : Nat} : (fun j : Nat => leadN (l ++ [(x, (b : Int))]) (j : Int)) = updR (fun j : Nat => leadN l (j : Int)) b (leadN l (b : Int) ++ [x]) := by
  funext j
  rw [leadN_app]
  unfold updR
  by_cases h : j = b
  · subst h
    rw [if_pos rfl]; simp [leadN]
  · rw [if_neg h]
    have : ¬ (b : Int) = (j : Int) := by omega
    simp [leadN, this]
end Go.Proofs.Ytggaimcopbjdiaa.Graph
