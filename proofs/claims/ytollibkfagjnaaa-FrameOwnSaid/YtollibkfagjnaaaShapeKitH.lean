/- In raw code without a fault each instruction is one that there is, and what it names is there. -/
import Derived.Test.YtollibkfagjnaaaShapeKitG
set_option linter.unusedVariables false
set_option linter.unusedSimpArgs false
set_option maxRecDepth 10000
namespace Go.Proofs.Ytollibkfagjnaaa.Shape.Kit
open Go.Proofs.Ytollibkfagjnaaa.AM
theorem good_all {M : Shape.Md} {f a : Int} (h : Shape.IsCheck M 0 f a) : ∀ j, j < M.fns.length → Shape.FnGood M j := by
  rcases h with ⟨_, h, _⟩ | ⟨_, _, _, _, _, h, _⟩ | ⟨_, _, fi, _, _, h, _⟩ | ⟨_, _, h, _⟩
  · cases h
  · cases h
  · rcases h with ⟨h1, h2, _⟩ | ⟨_, i, _, h1, _, h2, _⟩
    · exact absurd h2.symm h1
    · exact absurd h2.symm h1
  · exact h
theorem fnOf_toM {m : Md} {i : Nat} (hi : i < m.fns.length) : Shape.fnOf (toM m) (i : Int) = toF (fnAt m i) := by
  unfold Shape.fnOf toM fnAt
  simp [List.getD_eq_getElem?_getD, hi]
theorem op_ok {m : Md} (h : OkM m) {i j : Nat} (hi : i < m.fns.length) (hj : j < (fnAt m i).code.length) {op A : Int} (hx : (fnAt m i).code.getD j (0, 0) = (op, A)) :
    ((1 ≤ op ∧ op ≤ 17) ∨ (32 ≤ op ∧ op ≤ 47)) ∧ (op = 45 → 0 ≤ A ∧ A < m.fns.length) := by
  obtain ⟨f', a', hc⟩ := h
  have hl : (toM m).fns.length = m.fns.length := by simp [toM]
  have hg := good_all hc i (by omega)
  have he := hg.2 j (by rw [fnOf_toM hi]; exact hj)
  have hin : Shape.insAt (toM m) i j = (op, A) := by
    unfold Shape.insAt
    rw [fnOf_toM hi]; exact hx
  unfold Shape.errAt at he
  rw [hin] at he
  have h0 : Shape.instrSpec (toM m) i op A = 0 := by
    split at he
    · cases he
    · exact he
  unfold Shape.instrSpec at h0
  rw [hl, if_neg (by omega)] at h0
  split at h0
  · cases h0
  · next h2 =>
    split at h0
    · cases h0
    · next h3 =>
      refine ⟨?_, fun e => ?_⟩
      · rcases Classical.em ((1 ≤ op ∧ op ≤ 17) ∨ (32 ≤ op ∧ op ≤ 47)) with q | q
        · exact q
        · exfalso
          apply h2
          unfold Shape.roomSpec
          repeat (first | rw [if_neg (by omega)])
      · subst e
        have : Shape.roomSpec (toM m) i 45 = (m.fns.length : Int) := by
          unfold Shape.roomSpec
          simp [hl]
        rw [this] at h3
        omega
end Go.Proofs.Ytollibkfagjnaaa.Shape.Kit
