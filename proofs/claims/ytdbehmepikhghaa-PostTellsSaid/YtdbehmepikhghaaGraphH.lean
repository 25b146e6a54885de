/- Ways, depth first: what is reached; a way out. -/
import Derived.Test.YtdbehmepikhghaaGraphG
set_option linter.unusedVariables false
set_option linter.unusedSimpArgs false
set_option maxRecDepth 10000
namespace Go.Proofs.Ytdbehmepikhghaa.Graph
open Go.Proofs.Ytdbehmepikhghaa.AM
noncomputable def reachL (code : List (Int × Int)) (s : Int) : List Bool := reachG (code.length + 1) (fun a => nextI code (a : Nat)) s
theorem without_none (code : List (Int × Int)) (s : Int) : withoutL code s (-1) = reachL code s := by
  unfold withoutL reachL
  split
  · next h => exact none_reached (by omega)
  · congr 1
    funext a
    refine List.filter_eq_self.2 fun c hc => ?_
    obtain ⟨k, h1, h2⟩ := next_lt hc
    simp only [decide_eq_true_eq]; omega
theorem reachL_len (code : List (Int × Int)) (s : Int) : (reachL code s).length = code.length + 1 := reachG_len _ _ _
theorem rreach_ok {f : Fn} (hf : Fit f.code) (s : Int) (hs : in64 s) : PFun E 22 [encF f, i64 s] (valQ (isV (encB (reachL f.code s)))) := by
  refine p_fun ?_
  show PTri E false [] _ [encF f, i64 s, .junk, .junk] _ _
  refine s_run ?_
  refine s_reg (g_run 1 ?_)
  refine g_call (rwithout_ok hf s (-1) hs ⟨by omega, by omega⟩) ?_
  rintro v rfl
  refine ⟨rfl, ?_⟩
  rw [without_none]
  refine g_end ?_
  exact p_ret fin_v
end Go.Proofs.Ytdbehmepikhghaa.Graph
