/- Modules lent. -/
import Derived.Test.YtollibkfagjnaaaShapeKitB
set_option linter.unusedVariables false
set_option linter.unusedSimpArgs false
set_option maxRecDepth 10000
namespace Go.Proofs.Ytollibkfagjnaaa.Shape.Kit
open Go.Proofs.Ytollibkfagjnaaa.AM
theorem rowA_push {l : List (Int × Int)} {x : Int × Int} {i : Nat} (hi : i < l.length + 1) : (if i < l.length then rowA l i else ([i64 x.1, u64 x.2].drop ((i - l.length) * 2)).take 2) = rowA (l ++ [x]) i := by
  by_cases h : i < l.length
  · rw [if_pos h]
    simp only [rowA, List.getD_eq_getElem?_getD, List.getElem?_append_left h]
  · have : i = l.length := by omega
    subst this
    rw [if_neg (by omega)]
    simp [rowA, List.getD_eq_getElem?_getD, i64, u64]
def rowL (fs : List Fn) : Nat → List PV := fun i => lentCells (fs.getD i default)
theorem lentModule_ok {m : Md} (hf : MdFits m) : PFun E 13 [encM m] (valQ (isV (lentM m))) := by
  have f1 := hf.gs
  have f2 := hf.arrays
  have f3 := hf.chans
  have f4 := hf.fns
  refine p_fun ?_
  show PTri E false [] _ [encM m, .junk, .junk, .junk, .junk, .junk, .junk, .junk] _ _
  refine s_run ?_
  refine s_run ?_
  refine s_run ?_ (hq := by simp only [room, true_and, and_true]; omega)
  refine s_run ?_ (hq := by simp only [room, true_and, and_true]; omega)
  refine s_run ?_
  refine s_ass (s_run ?_)
  refine s_loop (fun i => i ≤ m.fns.length) (fun i => m.fns.length - i) (fun i => [encM m, .ptr 0 0, .ptr 1 0, .vec 2 2 (m.arrays.length + 1), .vec 6 3 i, .s (.int .i64 (i : Nat)), .junk, .junk]) (fun i => [.cel (cellsM m), .cel [.s (.slice none 0 0), .s (.slice none 0 0), .s (.slice none 0 0), .s (.slice none 0 0)], .vec 2 (m.arrays.length + 1) (rowA (m.arrays ++ [(-71, 0)])) true, .vec 6 i (rowL m.fns) true]) 0 (Nat.zero_le _) (σ := [some 0, some 1, some 4, none]) (wk _ [] _ _ (blks := .cons bs_cel (.cons bs_cel (.cons (bs_vec rfl fun i hi => rowA_push (x := (-71, 0)) hi) (.cons (.nil rfl) .nil))))) ?_
  intro i hi
  refine s_ass (s_run ?_)
  refine s_cond (fun h => ?_) (fun h => ?_)
  · simp only [decide_eq_true_eq] at h
    have hil : i < m.fns.length := by omega
    have hfi : FnFits (m.fns.getD i default) := by
      rw [List.getD_eq_getElem?_getD, List.getElem?_eq_getElem hil]
      exact hf.each _ (List.getElem_mem hil)
    refine s_skip (s_block (s_reg (g_run 4 ?_)))
    refine g_call (lentFunction_ok hfi) ?_
    rintro v rfl
    refine ⟨rfl, ?_⟩
    refine g_end ?_
    refine e_run ?_ (hq := by simp only [room, true_and, and_true]; omega)
    refine e_run ?_
    refine lp_next (i + 1) (by omega) (σ := [some 0, some 1, some 2, some 6]) (wk _ [] _ _ (blks := .cons bs_cel (.cons bs_cel (.cons bs_same (.cons (bs_vec rfl fun j hj => ?_) .nil)))))
    by_cases h : j < i
    · rw [if_pos h]
    · have : j = i := by omega
      subst this
      rw [if_neg h, Nat.sub_self]
      rfl
  · simp only [decide_eq_false_iff_not] at h
    have hie : i = m.fns.length := by omega
    subst hie
    refine s_exit ?_
    refine s_run ?_ (hq := by simp only [room, true_and, and_true]; omega)
    refine s_drw (g_run 2 ?_)
    refine g_call (lentLabels_ok m.gs f1) ?_
    rintro v rfl
    refine ⟨rfl, ?_⟩
    refine g_run 2 ?_
    refine g_call (lentLabels_ok m.chans f3) ?_
    rintro v rfl
    refine ⟨rfl, ?_⟩
    refine g_end ?_
    refine p_ret (fin_z [2, 5] rfl ?_)
    rintro v rfl
    refine .agg (.cons (.same rfl) (.cons (.vecf (by decide) rfl rfl (Nat.le_succ _) (Nat.le_refl _) fun i hi => rfl) (.cons (.same rfl) (.cons (.vecf (by decide) rfl rfl (Nat.le_succ _) (Nat.le_refl _) fun i hi => ?_) .nil))))
    by_cases h : i < m.fns.length
    · simp only [if_pos h, rowL]
    · have : i = m.fns.length := by omega
      subst this
      simp only [if_neg h, Nat.sub_self]
      rfl
theorem pairA (a b : Int) : pureRun Try.prog (Op.equal 83 (.agg #[.int .i64 a, .int .u64 b]) (.agg #[.int .i64 a, .int .u64 b])) = some true :=
  pair_eq 83 3 30 .i64 .u64 _ Try.underlying83 _ _ rfl (by decide) (by decide) ⟨rfl, rfl⟩ ⟨rfl, rfl⟩ Try.underlying3 Try.underlying30 (by kernel_rfl) (by kernel_rfl) a b
theorem array_neq (a b : Int) (x y : Operand) : aflat Try.prog (.bin .neq 83 x y) [.agg #[.int .i64 a, .int .u64 b], .agg #[.int .i64 a, .int .u64 b]] = some (.bool false) := (struct_eq 83 .i64 .u64 a b x y (by kernel_rfl) (pairA a b)).1
theorem keptModule_ok {m : Md} (hf : MdFits m) : PFun E 18 [lentM m, encM m] (valQ (isV (.s (.bool true)))) := by
  have f1 := hf.gs
  have f2 := hf.arrays
  have f3 := hf.chans
  have f4 := hf.fns
  refine p_fun ?_
  show PTri E false [] _ [lentM m, encM m, .junk, .junk, .junk, .junk, .junk, .junk, .junk, .junk, .junk, .junk, .junk, .junk] _ _
  refine s_run ?_
  refine s_ass (s_reg (g_run 4 ?_))
  refine g_call (keptLabels_ok m.gs f1) ?_
  rintro v rfl
  refine ⟨rfl, ?_⟩
  refine g_run 5 ?_
  refine g_call (keptLabels_ok m.chans f3) ?_
  rintro v rfl
  refine ⟨rfl, ?_⟩
  refine g_run 9 ?_
  refine prg_head (v' := .s (.bool false)) (by simp) ?_
  refine g_run 8 ?_
  refine prg_head (v' := .s (.bool false)) (by simp) ?_
  refine g_end ?_
  refine s_f (s_skip ?_)
  refine s_ass (s_run ?_)
  have hpm : ∀ {A : List PV} {B : List PV}, A = A := fun {_ _} => rfl
  refine s_loop (fun i => i ≤ m.arrays.length) (fun i => m.arrays.length - i) (fun i => [.junk, .junk, .ptr 0 0, .ptr 1 0, .s (.bool false), .s (.int .i64 (i : Nat)), .junk, .junk, .junk, .junk, .junk, .junk, .junk, .junk]) (fun i => [.cel [lentU m.gs, lentA m.arrays, lentU m.chans, lentFs m.fns], .cel (cellsM m)]) 0 (Nat.zero_le _) (σ := [some 0, some 1]) (wk _ [] _ _ (blks := .cons bs_cel (.cons bs_cel .nil))) ?_
  intro i hi
  refine s_ass (s_run ?_)
  refine s_cond (fun h => ?_) (fun h => ?_)
  · simp only [decide_eq_true_eq] at h
    have hil : i < m.arrays.length := by omega
    refine s_skip (s_block (s_drw (g_run 8 ?_)))
    refine prg_flat rfl rfl rfl (v := .bool false) (by rw [getD_pre hil]; exact array_neq _ _ _ _) ?_
    refine g_end ?_
    refine e_f ?_
    refine p_skip (e_run ?_)
    exact lp_next (i + 1) (by omega) (σ := [some 0, some 1]) (wk _ [] _ _ (blks := .cons bs_cel (.cons bs_cel .nil)))
  refine s_exit ?_
  refine s_ass (s_run ?_)
  refine s_loop (fun i => i ≤ m.fns.length) (fun i => m.fns.length - i) (fun i => [.junk, .junk, .ptr 0 0, .ptr 1 0, .s (.bool false), .junk, .s (.int .i64 (i : Nat)), .junk, .junk, .junk, .junk, .junk, .junk, .junk]) (fun i => [.cel [lentU m.gs, lentA m.arrays, lentU m.chans, lentFs m.fns], .cel (cellsM m)]) 0 (Nat.zero_le _) (σ := [some 0, some 1]) (wk _ [] _ _ (blks := .cons bs_cel (.cons bs_cel .nil))) ?_
  intro j hj
  refine s_ass (s_run ?_)
  refine s_cond (fun h => ?_) (fun h => ?_)
  · simp only [decide_eq_true_eq] at h
    have hjl : j < m.fns.length := by omega
    have hfj : FnFits (m.fns.getD j default) := by
      rw [List.getD_eq_getElem?_getD, List.getElem?_eq_getElem hjl]
      exact hf.each _ (List.getElem_mem hjl)
    refine s_skip (s_block (s_drw (g_run 3 ?_)))
    refine prg_cast (fptr_one (if_pos hjl)) ?_
    refine g_run 5 ?_
    refine g_call (keptFunction_ok hfj) ?_
    rintro v rfl
    refine ⟨rfl, ?_⟩
    refine g_end ?_
    refine e_f ?_
    refine p_skip (e_run ?_)
    exact lp_next (j + 1) (by omega) (σ := [some 0, some 1]) (wk _ [] _ _ (blks := .cons bs_cel (.cons bs_cel .nil)))
  refine s_exit ?_
  refine s_run ?_
  refine s_run ?_
  refine s_reg (g_run 6 ?_)
  rw [getD_end]
  refine g_run 6 ?_
  refine prg_cast (fptr_one (if_neg (Nat.lt_irrefl _))) ?_
  refine g_end ?_
  exact p_ret fin_v
end Go.Proofs.Ytollibkfagjnaaa.Shape.Kit
