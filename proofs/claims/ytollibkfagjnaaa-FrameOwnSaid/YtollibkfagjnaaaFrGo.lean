/- Modules handed in are good ones. -/
import Derived.Test.YtollibkfagjnaaaFrL
import Derived.Test.YtollibkfagjnaaaShapeKitZ
set_option linter.unusedVariables false
namespace Go.Proofs.Ytollibkfagjnaaa.Shape.Kit
open Go.Proofs.Ytollibkfagjnaaa.AM
theorem good_of {m : Md} (hf : MdFits m) (hw : MdWf m) : MdGood m := by
  refine ⟨hf, fun hok i hi => ?_, fun g hg => (hw.fns g hg).psl⟩
  have hfn : fnAt m i ∈ m.fns := by
    unfold fnAt
    rw [List.getD_eq_getElem?_getD, List.getElem?_eq_getElem hi]
    exact List.getElem_mem hi
  have hs := ok_size hok hi
  have hc := (hw.fns _ hfn).code
  have key : ∀ j, in64 ((fnAt m i).code.getD j (0, 0)).1 ∧ in64 ((fnAt m i).code.getD j (0, 0)).2 := fun j => by
    by_cases hj : j < (fnAt m i).code.length
    · rw [List.getD_eq_getElem?_getD, List.getElem?_eq_getElem hj]
      have := hc _ (List.getElem_mem hj)
      exact ⟨wf_in64 this.1, wf_in64 this.2⟩
    · rw [List.getD_eq_getElem?_getD, List.getElem?_eq_none (by omega)]
      exact ⟨⟨by decide, by decide⟩, ⟨by decide, by decide⟩⟩
  exact ⟨by omega, fun j => (key j).1, fun j => (key j).2⟩
end Go.Proofs.Ytollibkfagjnaaa.Shape.Kit
