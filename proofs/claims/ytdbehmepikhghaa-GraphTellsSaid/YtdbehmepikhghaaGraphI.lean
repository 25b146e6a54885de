/- What is reached. -/
import Derived.Test.YtdbehmepikhghaaGraphH
set_option linter.unusedVariables false
set_option linter.unusedSimpArgs false
set_option maxRecDepth 10000
namespace Go.Proofs.Ytdbehmepikhghaa.Graph
open Go.Proofs.Ytdbehmepikhghaa.AM
theorem reach1_ok {f : Fn} (hf : Fit f.code) (a : Int) : PFun E 56 [i64 a, .fptr 6 1 (fun _ => cellsF f) 0 0] (valQ (isV (encI (nextI f.code a)))) := by
  refine p_fun ?_
  show PTri E false [] _ [i64 a, .fptr 6 1 (fun _ => cellsF f) 0 0, .junk] _ _
  refine s_run ?_
  refine s_reg (g_run 1 ?_)
  refine g_call (next_ok hf a) ?_
  rintro v rfl
  refine ⟨rfl, ?_⟩
  refine g_end ?_
  exact p_ret fin_v
theorem reach_ok {f : Fn} (hf : Fit f.code) (s : Int) : PFun E 21 [encF f, i64 s] (valQ (isV (encB (reachL f.code s)))) := by
  have f1 := hf.len
  refine p_fun ?_
  show PTri E false [] _ [encF f, i64 s, .junk, .junk] _ _
  refine s_run ?_
  refine p_weak [] [0] (wk [] [0] [encF f, i64 s, .fptr 6 1 (fun _ => cellsF f) 0 0, .junk] [] (vals := ?_)) ?_
  · refine .cons (.nlv rfl) (.cons (.nlv rfl) (.cons (.one ?_) (.cons (.one (.junk _)) .nil)))
    exact .ptrf (by decide) rfl (by omega) rfl (by simp) rfl fun i hi => by
      have : i = 0 := by omega
      subst this; rfl
  refine s_reg (g_run 5 ?_)
  refine g_call (visit_ok (N := f.code.length + 1) (by omega) s (nx := fun a => nextI f.code (a : Nat)) (fun a _ => reach1_ok hf (a : Nat)) (fun a _ c hc => next_lt hc) (fun a _ => by have := nextI_len f.code (a : Nat); omega)) ?_
  rintro v rfl
  refine ⟨rfl, ?_⟩
  refine g_end ?_
  exact p_ret fin_v
end Go.Proofs.Ytdbehmepikhghaa.Graph
