/- A law over a function. -/
import Derived.Test.YtdbehmepikhghaaGraphOpen
set_option linter.unusedVariables false
set_option linter.unusedSimpArgs false
namespace Go.Proofs.Ytdbehmepikhghaa.Graph
open Go.Proofs.Ytdbehmepikhghaa.AM
theorem fn_one {g : FuncId} {f : Fn} {H : AH TV} {acs : List Value} (hf : FnX H acs f) (h : PFun E g [encF f] (valQ (isV (.s (.bool true))))) : ∃ N v H', acall E N g [.agg acs.toArray] H = some (v, H') ∧ v = .bool true := by
  have := h (fun a => a < Vec.size H) none_ H [.agg acs.toArray] (rel_none fun _ h => h) (.cons hf.rel .nil)
  obtain ⟨N, v, H', h1, F', ρ', hp', w, _, _, _, h2, h3, h4⟩ := acall_of_runs (Q := fun v H' => ∃ F' ρ' hp' w, PExt (fun a => a < Vec.size H) none_ [] H F' ρ' [] H' ∧ (∀ b x, b ∈ ([] : List Nat) → none_ b = some x → ρ' b = some x) ∧ Rel F' ρ' hp' [] H' ∧ PRel F' ρ' H' w v ∧ valQ (isV (.s (.bool true))) w hp') this
  refine ⟨N, v, H', h1, ?_⟩
  cases h4
  cases h2 with
  | fr h => cases h; rfl
end Go.Proofs.Ytdbehmepikhghaa.Graph
