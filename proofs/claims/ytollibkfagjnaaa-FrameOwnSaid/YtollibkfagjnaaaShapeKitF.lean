/- Is there such an address? -/
import Derived.Test.YtollibkfagjnaaaShapeKitE
import Derived.Test.YtollibkfagjnaaaShapeKitS
set_option linter.unusedVariables false
set_option linter.unusedSimpArgs false
set_option maxRecDepth 10000
namespace Go.Proofs.Ytollibkfagjnaaa.Shape.Kit
open Go.Proofs.Ytollibkfagjnaaa.AM
/-- Raw code without a fault. -/
def OkM (m : Md) : Prop := ∃ f a, Shape.IsCheck (toM m) 0 f a
noncomputable def okB (m : Md) : Bool := @decide (OkM m) (Classical.propDecidable _)
def fnAt (m : Md) (f : Nat) : Fn := m.fns.getD f default
noncomputable def thereB (m : Md) (f a : Int) : Bool := okB m && (decide (0 ≤ f) && (decide (f < m.fns.length) && (decide (0 ≤ a) && decide (a < (fnAt m f.toNat).code.length))))
theorem ok_of {m : Md} {e f a : Int} (h : Shape.IsCheck (toM m) e f a) : (e == 0) = okB m := by
  unfold okB
  by_cases he : e = 0
  · subst he
    have : OkM m := ⟨f, a, h⟩
    rw [@decide_eq_true _ (Classical.propDecidable _) this]; rfl
  · have : ¬ OkM m := fun ⟨f', a', h'⟩ => he (Shape.isCheck_one h h').1
    rw [@decide_eq_false _ (Classical.propDecidable _) this]
    simpa using he
theorem address_ok {m : Md} (hf : MdFits m) (f a : Int) : PFun E 52 [lentM m, i64 f, i64 a] (valQ (isV (.s (.bool (thereB m f a))))) := by
  refine p_fun ?_
  show PTri E false [] _ [lentM m, i64 f, i64 a, .junk, .junk] _ _
  refine s_run ?_
  refine s_reg (g_run 1 ?_)
  refine g_call (scheck_ok (.inr rfl) hf) ?_
  rintro v ⟨e, f', a', rfl, hc⟩
  refine ⟨rfl, ?_⟩
  refine g_run 2 ?_
  refine prg_head (v' := .s (.bool (okB m))) (by rw [ok_of hc]) ?_
  unfold thereB
  cases okB m with
  | false =>
    refine g_end ?_
    exact p_ret fin_v
  | true =>
    refine g_run 2 ?_
    refine prg_split (fun h1 => ?_) (fun h1 => ?_)
    · simp only [ge_iff_le, decide_eq_true_eq] at h1
      obtain ⟨i, rfl⟩ : ∃ i : Nat, f = i := ⟨f.toNat, by omega⟩
      refine g_run 6 ?_
      refine prg_split (fun h2 => ?_) (fun h2 => ?_)
      · simp only [decide_eq_true_eq] at h2
        have hi : i < m.fns.length := by omega
        refine g_run 3 ?_
        refine prg_split (fun h3 => ?_) (fun h3 => ?_)
        · simp only [ge_iff_le, decide_eq_true_eq] at h3
          refine g_run 6 ?_
          refine prg_cast (fptr_one (if_pos hi)) ?_
          refine g_end ?_
          have : (true && (decide (0 ≤ (i : Int)) && (decide ((i : Int) < m.fns.length) && (decide (0 ≤ a) && decide (a < (fnAt m (i : Int).toNat).code.length))))) = decide (a < (fnAt m i).code.length) := by simp [h3, hi]
          rw [this]
          exact p_ret fin_v
        · simp only [ge_iff_le, decide_eq_false_iff_not] at h3
          refine g_end ?_
          have : (true && (decide (0 ≤ (i : Int)) && (decide ((i : Int) < m.fns.length) && (decide (0 ≤ a) && decide (a < (fnAt m (i : Int).toNat).code.length))))) = false := by simp [h3]
          rw [this]
          exact p_ret fin_v
      · simp only [decide_eq_false_iff_not] at h2
        refine g_end ?_
        have : (true && (decide (0 ≤ (i : Int)) && (decide ((i : Int) < m.fns.length) && (decide (0 ≤ a) && decide (a < (fnAt m (i : Int).toNat).code.length))))) = false := by simp; omega
        rw [this]
        exact p_ret fin_v
    · simp only [ge_iff_le, decide_eq_false_iff_not] at h1
      refine g_end ?_
      have : (true && (decide (0 ≤ f) && (decide (f < m.fns.length) && (decide (0 ≤ a) && decide (a < (fnAt m f.toNat).code.length))))) = false := by simp [h1]
      rw [this]
      exact p_ret fin_v
end Go.Proofs.Ytollibkfagjnaaa.Shape.Kit
