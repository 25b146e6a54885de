/- Governs. -/
import Derived.Test.YtollibkfagjnaaaRegLev
set_option linter.unusedVariables false
set_option linter.unusedSimpArgs false
set_option maxRecDepth 10000
namespace Go.Proofs.Ytollibkfagjnaaa.Graph
open Go.Proofs.Ytollibkfagjnaaa.AM Go.Proofs.Ytollibkfagjnaaa.Post
theorem govN_fold {a b : Nat} : ∀ {tl : List Nat} {l : List Nat}, tl.Nodup → tl.foldl (govN a b) l = if a ∈ tl then l ++ [b] else l
  | [], l, _ => by simp
  | t :: tl, l, h => by
    obtain ⟨h1, h2⟩ := List.nodup_cons.1 h
    rw [List.foldl_cons, govN_fold h2]
    unfold govN
    by_cases e : t = a
    · subst e
      rw [if_neg h1, if_pos rfl, if_pos (List.mem_cons_self ..)]
    · rw [if_neg e]
      by_cases w : a ∈ tl
      · rw [if_pos w, if_pos (List.mem_cons_of_mem _ w)]
      · rw [if_neg w, if_neg (by simp [Ne.symm e, w])]
noncomputable def gN (f : Fn) (met : List Int) (l : List Nat) : PH := [.cel (cellsF f), vW f.code, eM f.code met, .cel [.vec 1 4 l.length], .vec 1 l.length (rowI .i64 (natI l)) false]
end Go.Proofs.Ytollibkfagjnaaa.Graph
