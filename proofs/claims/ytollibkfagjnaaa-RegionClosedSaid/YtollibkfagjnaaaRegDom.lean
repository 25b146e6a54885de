/- The document's answer: post-dominators, the nearest one, regions: plain law. -/
import Derived.Test.YtollibkfagjnaaaRegLev
set_option linter.unusedVariables false
set_option linter.unusedSimpArgs false
set_option maxRecDepth 10000
namespace Go.Proofs.Ytollibkfagjnaaa.Graph
open Go.Proofs.Ytollibkfagjnaaa.AM Go.Proofs.Ytollibkfagjnaaa.Post
theorem wyA_snoc {nx : Nat → List Nat} {a b c : Nat} (h : Wy nx a b) (hc : c ∈ nx b) : Wy nx a c := h.trans (.step hc (.refl _))
theorem avA_snoc {nx : Nat → List Nat} {q a b c : Nat} (h : Av nx q a b) (hc : c ∈ nx b) (hq : c ≠ q) : Av nx q a c := by
  induction h with
  | refl h => exact .step h hc (.refl hq)
  | step h h' _ ih => exact .step h h' (ih hc)
theorem avA_src {nx : Nat → List Nat} {q a b : Nat} (h : Av nx q a b) : a ≠ q := by cases h <;> assumption
theorem wayA_head {nx : Nat → List Int} {a b c : Nat} (h : (b : Int) ∈ nx a) (w : WayG nx b c) : WayG nx a c := by
  induction w with
  | refl => exact .step .refl h
  | step _ hc ih => exact .step ih hc
theorem reachA_ex {code : List (Int × Int)} {p : Nat} (hp : p < code.length + 1) : (reachL code (p : Nat)).getD code.length false = true ↔ Ex code p := by
  unfold reachL
  rw [reachG_at (by omega), Int.toNat_natCast]
  have m : ∀ a c : Nat, ((c : Nat) : Int) ∈ nextI code (a : Nat) ↔ c ∈ nxN code a := fun a c => by rw [← next_nat, mem_natI]
  constructor
  · rintro ⟨_, _, w⟩
    unfold Ex
    generalize code.length = x at w
    induction w with
    | refl => exact .refl _
    | step _ hc ih => exact wyA_snoc ih ((m _ _).1 hc)
  · intro w
    refine ⟨by omega, by omega, ?_⟩
    unfold Ex at w
    clear hp
    generalize code.length = x at w
    induction w with
    | refl => exact .refl
    | step hc _ ih => exact wayA_head ((m _ _).2 hc) ih
theorem chT {code : List (Int × Int)} {q p : Nat} : pdB code q p = true ↔ Ch code.length (nrT code) p q := pB_iff
/-- A region, as the document tells it. -/
noncomputable def ofL (code : List (Int × Int)) (b : Nat) : List Nat := (List.range code.length).filter fun a => pB (Reg code b a)
theorem of_mem {code : List (Int × Int)} {b a : Nat} : a ∈ ofL code b ↔ a < code.length ∧ Reg code b a := by
  unfold ofL
  rw [List.mem_filter, List.mem_range, pB_iff]
theorem reg_lt {code : List (Int × Int)} {b a : Nat} (h : Reg code b a) : a < code.length := by
  obtain ⟨_, e, _, h⟩ := h
  cases h with
  | first h _ hx => have := (nx_lt h).2; omega
  | step _ h _ hx => have := (nx_lt h).2; omega
theorem of_nodup {code : List (Int × Int)} {b : Nat} : (ofL code b).Nodup := List.Nodup.sublist (List.filter_sublist) List.nodup_range
end Go.Proofs.Ytollibkfagjnaaa.Graph
