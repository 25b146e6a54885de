/- The law on edges. -/
import Derived.Test.YtollibkfagjnaaaFrEd
import Derived.Test.YtollibkfagjnaaaShapeKitEG
set_option linter.unusedVariables false
set_option linter.unusedSimpArgs false
set_option maxRecDepth 10000
namespace Go.Proofs.Ytollibkfagjnaaa.Shape.Kit
open Go.Proofs.Ytollibkfagjnaaa.AM
theorem known_ok : PFun E 27 [] (valQ (isV (.s (.bool true)))) := by
  intro F ρ H avs hr ha
  have : avs = [] := List.eq_nil_of_length_eq_zero (by rw [← ha.len]; rfl)
  subst this
  exact runs_done (fun _ => rfl) ⟨F, ρ, [], .s (.bool true), .refl, fun _ _ _ h => h, hr, .fr (.s _), rfl, rfl⟩
theorem effectE_ok {m : Md} (hf : MdFits m) (f a : Int) : PFun E 22 [encM m, i64 f, i64 a] (valQ (isV (.tup [i64 (effT m f a).1, i64 (effT m f a).2]))) := by
  refine p_fun ?_
  show PTri E false [] _ [encM m, i64 f, i64 a, .junk, .junk, .junk, .junk] _ _
  refine s_run ?_
  refine s_ass (s_reg (g_run 1 ?_))
  refine g_call (En.address_ok hf f a) ?_
  rintro v rfl
  refine ⟨rfl, ?_⟩
  refine g_end ?_
  refine s_cond (fun h => ?_) (fun h => ?_)
  · have ht : thereB m f a = false := by simpa using h
    rw [show effT m f a = (0, 0) by simp [effT, ht]]
    refine s_ass (s_run ?_)
    exact s_ret fin_v
  have ht : thereB m f a = true := by simpa using h
  obtain ⟨hok, i, j, rfl, rfl, hi, hj⟩ := there_of ht
  obtain ⟨op, A, hx⟩ : ∃ op A, (fnAt m i).code.getD j (0, 0) = (op, A) := ⟨_, _, rfl⟩
  have hE : effT m (i : Int) (j : Int) = effS m i op A := by
    unfold effT
    rw [if_pos ht, Int.toNat_natCast, Int.toNat_natCast, hx]
  rw [hE]
  obtain ⟨hop, hA⟩ := op_ok hok hi hj hx
  have hj' : j < (m.fns.getD i default).code.length := hj
  have hcg : (m.fns.getD i default).code.getD j (0, 0) = (op, A) := hx
  refine s_skip ?_
  refine s_drw (g_run 8 ?_ (hq := by simp only [true_and, and_true]; omega))
  rw [hcg]
  refine g_call (En.effect_ok hf hi op A hA) ?_
  rintro v rfl
  refine ⟨rfl, ?_⟩
  refine g_end ?_
  exact p_ret fin_v
end Go.Proofs.Ytollibkfagjnaaa.Shape.Kit
