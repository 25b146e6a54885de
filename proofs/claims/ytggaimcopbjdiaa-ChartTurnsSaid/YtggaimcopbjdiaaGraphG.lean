/- Ways: what is reached, breadth first and depth first. -/
import Derived.Test.YtggaimcopbjdiaaGraphF
set_option linter.unusedVariables false
set_option linter.unusedSimpArgs false
set_option maxRecDepth 10000
namespace Go.Proofs.Ytggaimcopbjdiaa.Graph
open Go.Proofs.Ytggaimcopbjdiaa.AM
/-- To which nodes there are ways. -/
inductive WayG (nx : Nat → List Int) (s : Nat) : Nat → Prop
  | refl : WayG nx s s
  | step {b c : Nat} (h : WayG nx s b) (hc : (c : Int) ∈ nx b) : WayG nx s c
noncomputable def reachG (n : Nat) (nx : Nat → List Int) (s : Int) : List Bool := (List.range n).map fun (b : Nat) => @decide (0 ≤ s ∧ s < n ∧ WayG nx s.toNat b) (Classical.propDecidable _)
theorem reachG_len (n : Nat) (nx : Nat → List Int) (s : Int) : (reachG n nx s).length = n := by simp [reachG]
theorem reachG_at {n : Nat} {nx : Nat → List Int} {s : Int} {b : Nat} (hb : b < n) : (reachG n nx s).getD b false = true ↔ 0 ≤ s ∧ s < n ∧ WayG nx s.toNat b := by
  unfold reachG
  rw [List.getD_eq_getElem?_getD, List.getElem?_map, List.getElem?_range hb]
  simp only [Option.map_some, Option.getD_some]
  exact @decide_eq_true_iff _ (Classical.propDecidable _)
theorem bool_ext {xs ys : List Bool} (hl : xs.length = ys.length) (h : ∀ b, b < xs.length → (xs.getD b false = true ↔ ys.getD b false = true)) : xs = ys := by
  refine List.ext_getElem hl fun i h1 h2 => ?_
  have := h i h1
  simp only [List.getD_eq_getElem?_getD, List.getElem?_eq_getElem h1, List.getElem?_eq_getElem h2, Option.getD_some] at this
  cases hx : xs[i] <;> cases hy : ys[i] <;> simp_all
theorem getD_set {seen : List Bool} {c b : Nat} (hc : c < seen.length) : (seen.set c true).getD b false = if b = c then true else seen.getD b false := by
  by_cases h : b = c
  · subst h; rw [if_pos rfl]; simp [List.getD_eq_getElem?_getD, hc]
  · rw [if_neg h]; simp only [List.getD_eq_getElem?_getD, List.getElem?_set_ne (Ne.symm h)]
theorem count_set : ∀ {seen : List Bool} {c : Nat}, c < seen.length → seen.getD c false = false → (seen.set c true).count false + 1 = seen.count false
  | [], c, h, _ => by simp at h
  | x :: seen, 0, h, h2 => by
    have : x = false := by simpa [List.getD_eq_getElem?_getD] using h2
    subst this; simp
  | x :: seen, c + 1, h, h2 => by
    have ih := count_set (seen := seen) (c := c) (by simpa using h) (by simpa [List.getD_eq_getElem?_getD] using h2)
    simp only [List.set_cons_succ, List.count_cons]
    omega
theorem getD_at {α : Type} {l : List α} {i : Nat} {d : α} (h : i < l.length) : l.getD i d = l[i] := by simp [List.getD_eq_getElem?_getD, h]
/-- In the midst of a search. -/
structure Srch (nx : Nat → List Int) (n s : Nat) (seen : List Bool) (todo : List Int) : Prop where
  len : seen.length = n
  way : ∀ b, b < n → seen.getD b false = true → WayG nx s b
  todo : ∀ x, x ∈ todo → ∃ b : Nat, x = b ∧ b < n ∧ seen.getD b false = true
  start : seen.getD s false = true
  start' : s < n
theorem Srch.push {nx : Nat → List Int} {n s a c : Nat} {seen : List Bool} {todo : List Int} (h : Srch nx n s seen todo) (ha : a < n) (has : seen.getD a false = true) (hc : (c : Int) ∈ nx a) (hcn : c < n) : Srch nx n s (seen.set c true) (todo ++ [(c : Int)]) := by
  have hl := h.len
  refine ⟨by simpa using h.len, fun b hb q => ?_, fun x hx => ?_, ?_, h.start'⟩
  · rw [getD_set (by omega)] at q
    by_cases e : b = c
    · subst e; exact .step (h.way a ha has) hc
    · rw [if_neg e] at q; exact h.way b hb q
  · rcases List.mem_append.1 hx with q | q
    · obtain ⟨b, h1, h2, h3⟩ := h.todo x q
      exact ⟨b, h1, h2, by rw [getD_set (by omega)]; split; rfl; exact h3⟩
    · exact ⟨c, by simpa using q, hcn, by rw [getD_set (by omega), if_pos rfl]⟩
  · rw [getD_set (by omega)]; split; rfl; exact h.start
theorem Srch.done {nx : Nat → List Int} {n s : Nat} {seen : List Bool} {todo : List Int} (h : Srch nx n s seen todo) (hcl : ∀ b c : Nat, b < n → seen.getD b false = true → (c : Int) ∈ nx b → c < n ∧ seen.getD c false = true) : seen = reachG n nx (s : Nat) := by
  have hl := h.len
  refine bool_ext (by rw [reachG_len]; exact h.len) fun b hb => ?_
  have hs := h.start'
  rw [reachG_at (by omega), Int.toNat_natCast]
  constructor
  · intro q; exact ⟨by omega, by omega, h.way b (by omega) q⟩
  · rintro ⟨_, _, w⟩
    have : ∀ b, WayG nx s b → b < n ∧ seen.getD b false = true := by
      intro b w
      induction w with
      | refl => exact ⟨hs, h.start⟩
      | step w hc ih => exact hcl _ _ ih.1 ih.2 hc
    exact (this b w).2
/-- Without a node. -/
def nxW (code : List (Int × Int)) (wo : Int) : Nat → List Int := fun a => (nextI code (a : Nat)).filter fun c => decide (c ≠ wo)
theorem next_lt {code : List (Int × Int)} {a : Int} {c : Int} (h : c ∈ nextI code a) : ∃ k : Nat, c = k ∧ k < code.length + 1 := by
  unfold nextI at h
  split at h
  · next h2 =>
    have := next_range (a := a.toNat) (by omega) h
    exact ⟨c.toNat, by omega, by omega⟩
  · cases h
noncomputable def withoutL (code : List (Int × Int)) (s wo : Int) : List Bool := if s = wo then List.replicate (code.length + 1) false else reachG (code.length + 1) (nxW code wo) s
theorem nextI_len (code : List (Int × Int)) (a : Int) : (nextI code a).length ≤ 2 := by
  unfold nextI
  split
  · exact nextL_len _ _
  · simp
end Go.Proofs.Ytggaimcopbjdiaa.Graph
