/- The program's step of a frame. PRINTED by genO.py. The document's step of a frame. PRINTED by genP.py. The law on steps of frames. PUT TOGETHER by merge.py. -/
import Derived.Test.YtollibkfagjnaaaShapeKitN
set_option linter.unusedVariables false
set_option linter.unusedSimpArgs false
set_option maxRecDepth 10000
namespace Go.Proofs.Ytollibkfagjnaaa.Shape.Kit
open Go.Proofs.Ytollibkfagjnaaa.AM
end Go.Proofs.Ytollibkfagjnaaa.Shape.Kit

namespace Go.Proofs.Ytollibkfagjnaaa.Shape.Kit
open Go.Proofs.Ytollibkfagjnaaa.AM
end Go.Proofs.Ytollibkfagjnaaa.Shape.Kit

namespace Go.Proofs.Ytollibkfagjnaaa.Shape.Kit
open Go.Proofs.Ytollibkfagjnaaa.AM
theorem ite_ss {c : Prop} [Decidable c] {A B : SS} (P : SS → Prop) (h1 : c → P A) (h2 : ¬ c → P B) : P (if c then A else B) := by
  by_cases h : c
  · rw [if_pos h]; exact h1 h
  · rw [if_neg h]; exact h2 h
theorem stepS_len {m : Md} {i : Nat} {op A : Int} {xs lo : List Int} {lvl : Int} (hr : op = 45 → (fnAt m A.toNat).rs.length ≤ 4) : (stepS m i op A xs lo lvl).st.length ≤ xs.length + 4 ∧ (stepS m i op A xs lo lvl).lo.length = lo.length := by
  obtain ⟨P, hP⟩ : ∃ P : SS → Prop, P = fun S => S.st.length ≤ xs.length + 4 ∧ S.lo.length = lo.length := ⟨_, rfl⟩
  have key : P (stepS m i op A xs lo lvl) := by
    unfold stepS
    dsimp only
    repeat' (refine ite_ss P (fun h => ?_) (fun h => ?_))
    all_goals rw [hP]
    all_goals refine ⟨?_, by simp only [List.length_set]⟩
    all_goals simp only [List.length_append, List.length_take, List.length_cons, List.length_nil, List.length_map]
    all_goals first | omega | (have := hr ‹_›; omega)
  rw [hP] at key
  exact key
end Go.Proofs.Ytollibkfagjnaaa.Shape.Kit

