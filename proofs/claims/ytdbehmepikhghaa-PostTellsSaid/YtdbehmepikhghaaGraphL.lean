/- What is handed in, in memory of its own; all edges of a function. -/
import Derived.Test.YtdbehmepikhghaaGraphK
set_option linter.unusedVariables false
set_option linter.unusedSimpArgs false
set_option maxRecDepth 10000
namespace Go.Proofs.Ytdbehmepikhghaa.Graph
open Go.Proofs.Ytdbehmepikhghaa.AM
/-- With a mark behind. -/
def lentU (xs : List Int) : PV := .frz 1 xs.length (xs.length + 1) (rowI .u64 (xs ++ [7171]))
def markC (code : List (Int × Int)) : List (Int × Int) := code ++ [(-71, 0)]
theorem lentLabels_ok (xs : List Int) (hx : xs.length < 17592186044416) : PFun E 47 [encU xs] (valQ (isV (lentU xs))) := by
  refine p_fun ?_
  show PTri E false [] _ [encU xs, .junk, .junk] _ _
  refine s_run ?_
  refine s_run ?_
  refine s_run ?_ (hq := by simp only [room, true_and, and_true]; omega)
  refine s_run ?_ (hq := by simp only [room, true_and, and_true]; omega)
  refine s_run ?_
  refine p_ret (fin_z [2] rfl ?_)
  rintro v rfl
  exact .one (.vecf (by decide) rfl rfl (Nat.le_succ _) (Nat.le_refl _) fun i hi => row1_push (en := fun n => .s (.int .u64 n)) (d := 0) (x := 7171) (xs := xs) hi)
theorem rowC_push {code : List (Int × Int)} {x : Int × Int} {i : Nat} (hi : i < code.length + 1) : (if i < code.length then rowC code i else ([i64 x.1, i64 x.2].drop ((i - code.length) * 2)).take 2) = rowC (code ++ [x]) i := by
  by_cases h : i < code.length
  · rw [if_pos h]
    simp only [rowC, List.getD_eq_getElem?_getD, List.getElem?_append_left h]
  · have : i = code.length := by omega
    subst this
    rw [if_neg (by omega)]
    simp [rowC, List.getD_eq_getElem?_getD, i64]
/-- In one's own memory. -/
theorem lentCode_ok (code : List (Int × Int)) (hx : code.length < 1000000000) : PFun E 48 [encC code] fun v hp => v = .vec 2 0 code.length ∧ hp = [.vec 2 (code.length + 1) (rowC (markC code)) true] := by
  refine call_post (p_call (fun _ _ => rfl) rfl ?_)
  show PTri E false [] _ [encC code, .junk, .junk] _ _
  refine s_run ?_
  refine s_run ?_
  refine s_run ?_ (hq := by simp only [room, true_and, and_true]; omega)
  refine s_run ?_ (hq := by simp only [room, true_and, and_true]; omega)
  refine s_run ?_
  refine p_ret (fin ?_)
  exact ⟨[some 2], [], _, _, wk [some 2] [] [.vec 2 0 code.length] [.vec 2 (code.length + 1) (rowC (markC code)) true] (blks := .cons (bs_vec rfl fun i hi => rowC_push (x := (-71, 0)) hi) .nil), rfl, rfl⟩
def lentCells (f : Fn) (c : PV) : List PV := [.s (.int .u64 f.lvl), lentU f.ps, lentU f.rs, .s (.int .i64 f.loc), .s (.int .i64 f.stk), c]
theorem lentFunction_ok (f : Fn) (h1 : f.ps.length < 17592186044416) (h2 : f.rs.length < 17592186044416) (h3 : f.code.length < 1000000000) : PFun E 13 [encF f] fun v hp => v = .agg (lentCells f (.vec 2 0 f.code.length)) ∧ hp = [.vec 2 (f.code.length + 1) (rowC (markC f.code)) true] := by
  refine call_post (p_call (fun _ _ => rfl) rfl ?_)
  show PTri E false [] _ [encF f, .junk, .junk] _ _
  refine s_run ?_
  refine s_reg (g_run 2 ?_)
  refine g_call (lentLabels_ok f.ps h1) ?_
  rintro v rfl
  refine ⟨rfl, ?_⟩
  refine g_end ?_
  refine s_reg (g_run 2 ?_)
  refine g_call (lentLabels_ok f.rs h2) ?_
  rintro v rfl
  refine ⟨rfl, ?_⟩
  refine g_end ?_
  refine s_reg (g_run 2 ?_)
  refine prg_call rfl rfl rfl rfl (lentCode_ok f.code h3) ?_
  rintro v hpc ⟨rfl, rfl⟩
  refine ⟨rfl, rfl, ?_⟩
  refine g_end ?_
  refine s_run ?_
  refine p_ret (fin ?_)
  exact ⟨[some 2], [], _, _, wk [some 2] [] [.agg (lentCells f (.vec 2 0 f.code.length))] [.vec 2 (f.code.length + 1) (rowC (markC f.code)) true] (vals := .cons (.agg (.cons (.same rfl) (.cons (.same rfl) (.cons (.same rfl) (.cons (.same rfl) (.cons (.same rfl) (.cons (.vec rfl rfl) .nil))))))) .nil) (blks := .cons bs_same .nil), rfl, rfl⟩
end Go.Proofs.Ytdbehmepikhghaa.Graph
