/- Modules lent. -/
import Derived.Test.YtollibkfagjnaaaShapeKitB
set_option linter.unusedVariables false
set_option linter.unusedSimpArgs false
set_option maxRecDepth 10000
namespace Go.Proofs.Ytollibkfagjnaaa.Shape.Kit
open Go.Proofs.Ytollibkfagjnaaa.AM
theorem rowA_push {l : List (Int × Int)} {x : Int × Int} {i : Nat} (hi : i < l.length + 1) : (if i < l.length then rowA l i else ([i64 x.1, u64 x.2].drop ((i - l.length) * 2)).take 2) = rowA (l ++ [x]) i := by
  by_cases h : i < l.length
  · rw [if_pos h]
    simp only [rowA, List.getD_eq_getElem?_getD, List.getElem?_append_left h]
  · have : i = l.length := by omega
    subst this
    rw [if_neg (by omega)]
    simp [rowA, List.getD_eq_getElem?_getD, i64, u64]
def rowL (fs : List Fn) : Nat → List PV := fun i => lentCells (fs.getD i default)
theorem lentModule_ok {m : Md} (hf : MdFits m) : PFun E 13 [encM m] (valQ (isV (lentM m))) := by
  have f1 := hf.gs
  have f2 := hf.arrays
  have f3 := hf.chans
  have f4 := hf.fns
  refine p_fun ?_
  show PTri E false [] _ [encM m, .junk, .junk, .junk, .junk, .junk, .junk, .junk] _ _
  refine s_run ?_
  refine s_run ?_
  refine s_run ?_ (hq := by simp only [room, true_and, and_true]; omega)
  refine s_run ?_ (hq := by simp only [room, true_and, and_true]; omega)
  refine s_run ?_
  refine s_ass (s_run ?_)
  refine s_loop (fun i => i ≤ m.fns.length) (fun i => m.fns.length - i) (fun i => [encM m, .ptr 0 0, .ptr 1 0, .vec 2 2 (m.arrays.length + 1), .vec 6 3 i, .s (.int .i64 (i : Nat)), .junk, .junk]) (fun i => [.cel (cellsM m), .cel [.s (.slice none 0 0), .s (.slice none 0 0), .s (.slice none 0 0), .s (.slice none 0 0)], .vec 2 (m.arrays.length + 1) (rowA (m.arrays ++ [(-71, 0)])) true, .vec 6 i (rowL m.fns) true]) 0 (Nat.zero_le _) (σ := [some 0, some 1, some 4, none]) (wk _ [] _ _ (blks := .cons bs_cel (.cons bs_cel (.cons (bs_vec rfl fun i hi => rowA_push (x := (-71, 0)) hi) (.cons (.nil rfl) .nil))))) ?_
  intro i hi
  refine s_ass (s_run ?_)
  refine s_cond (fun h => ?_) (fun h => ?_)
  · simp only [decide_eq_true_eq] at h
    have hil : i < m.fns.length := by omega
    have hfi : FnFits (m.fns.getD i default) := by
      rw [List.getD_eq_getElem?_getD, List.getElem?_eq_getElem hil]
      exact hf.each _ (List.getElem_mem hil)
    refine s_skip (s_block (s_reg (g_run 4 ?_)))
    refine g_call (lentFunction_ok hfi) ?_
    rintro v rfl
    refine ⟨rfl, ?_⟩
    refine g_end ?_
    refine e_run ?_ (hq := by simp only [room, true_and, and_true]; omega)
    refine e_run ?_
    refine lp_next (i + 1) (by omega) (σ := [some 0, some 1, some 2, some 6]) (wk _ [] _ _ (blks := .cons bs_cel (.cons bs_cel (.cons bs_same (.cons (bs_vec rfl fun j hj => ?_) .nil)))))
    by_cases h : j < i
    · rw [if_pos h]
    · have : j = i := by omega
      subst this
      rw [if_neg h, Nat.sub_self]
      rfl
  · simp only [decide_eq_false_iff_not] at h
    have hie : i = m.fns.length := by omega
    subst hie
    refine s_exit ?_
    refine s_run ?_ (hq := by simp only [room, true_and, and_true]; omega)
    refine s_drw (g_run 2 ?_)
    refine g_call (lentLabels_ok m.gs f1) ?_
    rintro v rfl
    refine ⟨rfl, ?_⟩
    refine g_run 2 ?_
    refine g_call (lentLabels_ok m.chans f3) ?_
    rintro v rfl
    refine ⟨rfl, ?_⟩
    refine g_end ?_
    refine p_ret (fin_z [2, 5] rfl ?_)
    rintro v rfl
    refine .agg (.cons (.same rfl) (.cons (.vecf (by decide) rfl rfl (Nat.le_succ _) (Nat.le_refl _) fun i hi => rfl) (.cons (.same rfl) (.cons (.vecf (by decide) rfl rfl (Nat.le_succ _) (Nat.le_refl _) fun i hi => ?_) .nil))))
    by_cases h : i < m.fns.length
    · simp only [if_pos h, rowL]
    · have : i = m.fns.length := by omega
      subst this
      simp only [if_neg h, Nat.sub_self]
      rfl
end Go.Proofs.Ytollibkfagjnaaa.Shape.Kit
