/- The program's step of a frame. -/
import Derived.Test.YtollibkfagjnaaaShapeKitM
set_option linter.unusedVariables false
set_option linter.unusedSimpArgs false
set_option maxRecDepth 10000
namespace Go.Proofs.Ytollibkfagjnaaa.Shape.Kit
open Go.Proofs.Ytollibkfagjnaaa.AM
/-- How large functions of code without a fault are. -/
theorem ok_size {m : Md} (h : OkM m) {i : Nat} (hi : i < m.fns.length) : (fnAt m i).ps.length ≤ 8 ∧ (fnAt m i).rs.length ≤ 4 ∧ 0 ≤ (fnAt m i).stk ∧ (fnAt m i).stk ≤ 64 ∧ (fnAt m i).code.length ≤ 2048 ∧ 0 < (fnAt m i).code.length ∧ 0 ≤ (fnAt m i).loc ∧ (fnAt m i).loc ≤ 32 := by
  obtain ⟨f', a', hc⟩ := h
  have hl : (toM m).fns.length = m.fns.length := by simp [toM]
  have hg := (good_all hc i (by omega)).1
  rw [fnOf_toM hi] at hg
  unfold Shape.headSpec toF at hg
  simp only at hg
  split at hg
  · cases hg
  · split at hg
    · cases hg
    · split at hg
      · cases hg
      · omega
theorem effS_small {m : Md} (h : OkM m) {f : Nat} (hf : f < m.fns.length) (op A : Int) (hA : op = 45 → 0 ≤ A ∧ A < m.fns.length) : 0 ≤ (effS m f op A).1 ∧ (effS m f op A).1 ≤ 8 ∧ 0 ≤ (effS m f op A).2 ∧ (effS m f op A).2 ≤ 4 := by
  have h1 := ok_size h hf
  by_cases h45 : op = 45
  · have h2 := ok_size h (i := A.toNat) (by have := hA h45; omega)
    subst h45
    simp [effS]
    omega
  · unfold effS
    repeat' split
    all_goals first | (exfalso; omega) | (simp only; omega)
end Go.Proofs.Ytollibkfagjnaaa.Shape.Kit
