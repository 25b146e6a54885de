import Derived.Test.YtggaimcopbjdiaaTabD
import Derived.Test.YtggaimcopbjdiaaRegOf
import Derived.Test.YtggaimcopbjdiaaRegGov
set_option linter.unusedVariables false
set_option linter.unusedSimpArgs false
set_option maxRecDepth 10000
namespace Go.Proofs.Ytggaimcopbjdiaa.Graph
open Go.Proofs.Ytggaimcopbjdiaa.AM Go.Proofs.Ytggaimcopbjdiaa.Post
section
variable {code : List (Int × Int)} {K : Nat} {g : FuncId} {first cap : Nat → List PV} {x : Bool} {rest : List Value} {S : Type} {num : S → Nat} {row : S → Nat → List PV} {nx : S → Nat → S} {inv : Nat → S → Prop}
end
open Classical in
noncomputable def govI (code : List (Int × Int)) (a : Int) : Nat → List Nat
 | 0 => []
 | k + 1 => if 0 ≤ a ∧ Reg code k a.toNat then govI code a k ++ [k] else govI code a k
theorem govI_len {code : List (Int × Int)} {a : Int} : ∀ {k : Nat}, (govI code a k).length ≤ k
 | 0 => Nat.le_refl _
 | k + 1 => by
   have := govI_len (code := code) (a := a) (k := k)
   simp only [govI]
   split
   ·rw [List.length_append, List.length_singleton]; omega
   ·omega
end Go.Proofs.Ytggaimcopbjdiaa.Graph
