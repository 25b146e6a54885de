/- All edges of what is handed in. -/
import Derived.Test.YtdbehmepikhghaaGraphL
set_option linter.unusedVariables false
set_option linter.unusedSimpArgs false
set_option maxRecDepth 10000
namespace Go.Proofs.Ytdbehmepikhghaa.Graph
open Go.Proofs.Ytdbehmepikhghaa.AM
def heap4 (f : Fn) (u : Int) : PH := [.cel (cellsF f), .cel [i64 u], .vec 2 (f.code.length + 1) (rowC (markC f.code)) true, .cel (lentCells f (.vec 2 2 f.code.length))]
def heap5 (f : Fn) (u : Int) : PH := [.cel (cellsF f), .cel [i64 u], .vec 2 (f.code.length + 1) (rowC (markC f.code)) true, .cel (lentCells f (.vec 2 2 f.code.length)), .cel (lentCells f (.vec 2 2 f.code.length))]
theorem vs_lent {σ : Sig} {fz : List Nat} {hp : PH} {f : Fn} {b b' n : Nat} (h : σ[b']? = some (some b)) : VSubs σ fz hp (lentCells f (.vec 2 b n)) (lentCells f (.vec 2 b' n)) :=
  .cons (.nlv rfl) (.cons (.nlv rfl) (.cons (.nlv rfl) (.cons (.nlv rfl) (.cons (.nlv rfl) (.cons (.one (.vec h rfl)) .nil)))))
theorem cloneC_ok {f : Fn} (hf : Fit f.code) (u : Int) : PCall E [0, 1, 2, 3, 4] 50 [.vec 2 2 f.code.length] (heap5 f u) fun v hp => v = encC f.code ∧ hp = heap5 f u := by
  have f1 := hf.len
  refine call_post (p_call (fun _ _ => rfl) rfl ?_)
  show PTri E false [0, 1, 2, 3, 4] _ [.vec 2 2 f.code.length, .junk, .junk] [.cel (cellsF f), .cel [i64 u], .vec 2 (f.code.length + 1) (rowC (markC f.code)) true, .cel (lentCells f (.vec 2 2 f.code.length)), .cel (lentCells f (.vec 2 2 f.code.length))] _
  refine s_run ?_
  refine s_ass (s_reg ?_)
  refine prg_isnilv rfl rfl fun t ht => ?_
  refine g_end ?_
  refine s_cond (fun h => ?_) (fun h => ?_)
  · have h0 : f.code.length = 0 := by cases t <;> simp_all
    refine s_ass (s_run ?_)
    refine s_ret (fin ?_)
    refine ⟨[some 0, some 1, some 2, some 3, some 4], [], encC f.code, heap5 f u, wk _ [] _ _ (vals := ?_) (blks := ?_), rfl, rfl⟩
    · have : encC f.code = .frz 2 0 0 (rowC f.code) := by unfold encC; rw [h0]
      rw [this]
      exact .cons (.one .nilf) .nil
    · exact .cons bs_cel (.cons bs_cel (.cons bs_same (.cons (.cel rfl (by decide) rfl (vs_lent rfl)) (.cons (.cel rfl (by decide) rfl (vs_lent rfl)) .nil))))
  · refine s_skip (s_run ?_ (hq := by simp only [room, true_and, and_true]; omega))
    refine p_ret (fin ?_)
    refine ⟨[some 0, some 1, some 2, some 3, some 4], [6], encC f.code, heap5 f u, wk _ [6] _ _ (vals := ?_) (blks := ?_), rfl, rfl⟩
    · refine .cons (.one (.vecf (by decide) rfl (Nat.zero_add _) (Nat.le_refl _) (by omega) fun i hi => ?_)) .nil
      show rowC (markC f.code) i = rowC f.code i
      simp only [rowC, markC, List.getD_eq_getElem?_getD, List.getElem?_append_left hi]
    · exact .cons bs_cel (.cons bs_cel (.cons bs_same (.cons (.cel rfl (by decide) rfl (vs_lent rfl)) (.cons (.cel rfl (by decide) rfl (vs_lent rfl)) .nil))))
theorem edgesF_ok {f : Fn} (hf : Fit f.code) (u : Int) : PCall E [0, 1, 2, 3] 14 [.agg (lentCells f (.vec 2 2 f.code.length))] (heap4 f u) fun v hp => v = seqF f.code ∧ hp = heap4 f u := by
  refine call_post (p_call (fun _ _ => rfl) rfl ?_)
  show PTri E false [0, 1, 2, 3] _ [.agg (lentCells f (.vec 2 2 f.code.length)), .junk, .junk] [.cel (cellsF f), .cel [i64 u], .vec 2 (f.code.length + 1) (rowC (markC f.code)) true, .cel (lentCells f (.vec 2 2 f.code.length))] _
  refine s_run ?_
  refine s_reg (g_run 2 ?_)
  refine g_icall (cloneC_ok hf u) ?_
  rintro v hp ⟨rfl, rfl⟩
  refine g_call (edges_ok f.code) ?_
  rintro v rfl
  refine ⟨rfl, ?_⟩
  refine g_end ?_
  refine p_ret (fin ?_)
  refine ⟨[some 0, some 1, some 2, some 3], [], seqF f.code, heap4 f u, wk _ [] _ _ (blks := ?_), rfl, rfl⟩
  exact .cons bs_cel (.cons bs_cel (.cons bs_same (.cons (.cel rfl (by decide) rfl (vs_lent rfl)) .nil)))
/-- The edges, two numbers each. -/
def flatE (l : List (Int × Int)) : List Int := l.flatMap fun x => [x.1, x.2]
theorem flatE_len (l : List (Int × Int)) : (flatE l).length = 2 * l.length := by
  induction l with
  | nil => rfl
  | cons x l ih =>
    have : flatE (x :: l) = [x.1, x.2] ++ flatE l := rfl
    rw [this, List.length_append, ih, List.length_cons]; simp; omega
theorem flatE_app (l m : List (Int × Int)) : flatE (l ++ m) = flatE l ++ flatE m := by simp [flatE]
end Go.Proofs.Ytdbehmepikhghaa.Graph
