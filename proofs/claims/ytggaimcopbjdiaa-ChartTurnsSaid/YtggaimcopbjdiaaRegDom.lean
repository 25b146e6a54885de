/- The document's answer: post-dominators, the nearest one, regions: plain law. -/
import Derived.Test.YtggaimcopbjdiaaRegLev
set_option linter.unusedVariables false
set_option linter.unusedSimpArgs false
set_option maxRecDepth 10000
namespace Go.Proofs.Ytggaimcopbjdiaa.Graph
open Go.Proofs.Ytggaimcopbjdiaa.AM Go.Proofs.Ytggaimcopbjdiaa.Post
/-- A region, as the document tells it. -/
noncomputable def ofL (code : List (Int × Int)) (b : Nat) : List Nat := (List.range code.length).filter fun a => pB (Reg code b a)
theorem of_mem {code : List (Int × Int)} {b a : Nat} : a ∈ ofL code b ↔ a < code.length ∧ Reg code b a := by
  unfold ofL
  rw [List.mem_filter, List.mem_range, pB_iff]
theorem reg_lt {code : List (Int × Int)} {b a : Nat} (h : Reg code b a) : a < code.length := by
  obtain ⟨_, e, _, h⟩ := h
  cases h with
  | first h _ hx => have := (nx_lt h).2; omega
  | step _ h _ hx => have := (nx_lt h).2; omega
theorem of_nodup {code : List (Int × Int)} {b : Nat} : (ofL code b).Nodup := List.Nodup.sublist (List.filter_sublist) List.nodup_range
/-- Seen over the first i of what follows. -/
noncomputable def inB (code : List (Int × Int)) (b e i a : Nat) : Bool := ((nxN code b).take i).any fun l => (withoutL code (l : Nat) (e : Nat)).getD a false
end Go.Proofs.Ytggaimcopbjdiaa.Graph
