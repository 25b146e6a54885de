/- Is there such an address: of a module that is not lent. PRINTED by en.py. -/
import Derived.Test.YtollibkfagjnaaaShapeKitN
set_option linter.unusedVariables false
set_option linter.unusedSimpArgs false
set_option maxRecDepth 10000
namespace Go.Proofs.Ytollibkfagjnaaa.Shape.Kit.En
open Go.Proofs.Ytollibkfagjnaaa.AM Go.Proofs.Ytollibkfagjnaaa.Shape.Kit
theorem address_ok {m : Md} (hf : MdFits m) (f a : Int) : PFun E 52 [encM m, i64 f, i64 a] (valQ (isV (.s (.bool (thereB m f a))))) := by
  refine p_fun ?_
  show PTri E false [] _ [encM m, i64 f, i64 a, .junk, .junk] _ _
  refine s_run ?_
  refine s_reg (g_run 1 ?_)
  refine g_call (scheck_ok (.inl rfl) hf) ?_
  rintro v ⟨e, f', a', rfl, hc⟩
  refine ⟨rfl, ?_⟩
  refine g_run 2 ?_
  refine prg_head (v' := .s (.bool (okB m))) (by rw [ok_of hc]) ?_
  unfold thereB
  cases okB m with
  | false =>
    refine g_end ?_
    exact p_ret fin_v
  | true =>
    refine g_run 2 ?_
    refine prg_split (fun h1 => ?_) (fun h1 => ?_)
    · simp only [ge_iff_le, decide_eq_true_eq] at h1
      obtain ⟨i, rfl⟩ : ∃ i : Nat, f = i := ⟨f.toNat, by omega⟩
      refine g_run 6 ?_
      refine prg_split (fun h2 => ?_) (fun h2 => ?_)
      · simp only [decide_eq_true_eq] at h2
        have hi : i < m.fns.length := by omega
        refine g_run 3 ?_
        refine prg_split (fun h3 => ?_) (fun h3 => ?_)
        · simp only [ge_iff_le, decide_eq_true_eq] at h3
          refine g_run 6 ?_
          refine g_end ?_
          have : (true && (decide (0 ≤ (i : Int)) && (decide ((i : Int) < m.fns.length) && (decide (0 ≤ a) && decide (a < (fnAt m (i : Int).toNat).code.length))))) = decide (a < (fnAt m i).code.length) := by simp [h3, hi]
          rw [this]
          exact p_ret fin_v
        · simp only [ge_iff_le, decide_eq_false_iff_not] at h3
          refine g_end ?_
          have : (true && (decide (0 ≤ (i : Int)) && (decide ((i : Int) < m.fns.length) && (decide (0 ≤ a) && decide (a < (fnAt m (i : Int).toNat).code.length))))) = false := by simp [h3]
          rw [this]
          exact p_ret fin_v
      · simp only [decide_eq_false_iff_not] at h2
        refine g_end ?_
        have : (true && (decide (0 ≤ (i : Int)) && (decide ((i : Int) < m.fns.length) && (decide (0 ≤ a) && decide (a < (fnAt m (i : Int).toNat).code.length))))) = false := by simp; omega
        rw [this]
        exact p_ret fin_v
    · simp only [ge_iff_le, decide_eq_false_iff_not] at h1
      refine g_end ?_
      have : (true && (decide (0 ≤ f) && (decide (f < m.fns.length) && (decide (0 ≤ a) && decide (a < (fnAt m f.toNat).code.length))))) = false := by simp [h1]
      rw [this]
      exact p_ret fin_v
end Go.Proofs.Ytollibkfagjnaaa.Shape.Kit.En
