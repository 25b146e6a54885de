/- The law on steps of frames. -/
import Derived.Test.YtollibkfagjnaaaShapeKitO
import Derived.Test.YtollibkfagjnaaaShapeKitP
set_option linter.unusedVariables false
set_option linter.unusedSimpArgs false
set_option maxRecDepth 10000
namespace Go.Proofs.Ytollibkfagjnaaa.Shape.Kit
open Go.Proofs.Ytollibkfagjnaaa.AM
theorem ite_ss {c : Prop} [Decidable c] {A B : SS} (P : SS → Prop) (h1 : c → P A) (h2 : ¬ c → P B) : P (if c then A else B) := by
  by_cases h : c
  · rw [if_pos h]; exact h1 h
  · rw [if_neg h]; exact h2 h
theorem stepS_len {m : Md} {i : Nat} {op A : Int} {xs lo : List Int} {lvl : Int} (hr : op = 45 → (fnAt m A.toNat).rs.length ≤ 4) : (stepS m i op A xs lo lvl).st.length ≤ xs.length + 4 ∧ (stepS m i op A xs lo lvl).lo.length = lo.length := by
  obtain ⟨P, hP⟩ : ∃ P : SS → Prop, P = fun S => S.st.length ≤ xs.length + 4 ∧ S.lo.length = lo.length := ⟨_, rfl⟩
  have key : P (stepS m i op A xs lo lvl) := by
    unfold stepS
    dsimp only
    repeat' (refine ite_ss P (fun h => ?_) (fun h => ?_))
    all_goals rw [hP]
    all_goals refine ⟨?_, by simp only [List.length_set]⟩
    all_goals simp only [List.length_append, List.length_take, List.length_cons, List.length_nil, List.length_map]
    all_goals first | omega | (have := hr ‹_›; omega)
  rw [hP] at key
  exact key
theorem stepT_fits {m : Md} {f a : Int} {x : Fr} (hx : FrFits x) {lvl : Int} : FrFits ⟨(stepT m f a x lvl).st, (stepT m f a x lvl).lo⟩ := by
  have x2 := hx.lo
  unfold stepT
  split
  · next h =>
    simp only [stepOk, Bool.and_eq_true, decide_eq_true_eq] at h
    obtain ⟨ht, h1, h2, h3, h4⟩ := h
    obtain ⟨hok, i, j, rfl, rfl, hi, hj⟩ := there_of ht
    have hz := ok_size hok hi
    rw [Int.toNat_natCast] at h2 ⊢
    rw [Int.toNat_natCast]
    obtain ⟨op, A, hxx⟩ : ∃ op A, (fnAt m i).code.getD j (0, 0) = (op, A) := ⟨_, _, rfl⟩
    obtain ⟨hop, hA⟩ := op_ok hok hi hj hxx
    rw [hxx]
    have := stepS_len (m := m) (i := i) (op := op) (A := A) (xs := x.st) (lo := x.lo) (lvl := lvl) fun e => (ok_size hok (i := A.toNat) (by have := hA e; omega)).2.1
    exact ⟨by simp only; omega, by simp only; omega⟩
  · exact ⟨by simp, by simp⟩
end Go.Proofs.Ytollibkfagjnaaa.Shape.Kit
