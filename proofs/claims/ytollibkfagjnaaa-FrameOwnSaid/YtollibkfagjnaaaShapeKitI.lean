/- The document's effect of an instruction. -/
import Derived.Test.YtollibkfagjnaaaShapeKitH
set_option linter.unusedVariables false
set_option linter.unusedSimpArgs false
set_option maxRecDepth 10000
namespace Go.Proofs.Ytollibkfagjnaaa.Shape.Kit
open Go.Proofs.Ytollibkfagjnaaa.AM
noncomputable def effT (m : Md) (f a : Int) : Int × Int := if thereB m f a = true then effS m f.toNat ((fnAt m f.toNat).code.getD a.toNat (0, 0)).1 ((fnAt m f.toNat).code.getD a.toNat (0, 0)).2 else (0, 0)
theorem there_of {m : Md} {f a : Int} (h : thereB m f a = true) : OkM m ∧ ∃ i j : Nat, f = i ∧ a = j ∧ i < m.fns.length ∧ j < (fnAt m i).code.length := by
  unfold thereB at h
  simp only [Bool.and_eq_true, decide_eq_true_eq] at h
  obtain ⟨h1, h2, h3, h4, h5⟩ := h
  refine ⟨@of_decide_eq_true _ (Classical.propDecidable _) h1, f.toNat, a.toNat, by omega, by omega, by omega, by omega⟩
end Go.Proofs.Ytollibkfagjnaaa.Shape.Kit
