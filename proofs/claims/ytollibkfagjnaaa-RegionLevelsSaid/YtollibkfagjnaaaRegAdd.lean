/- level.add. -/
import Derived.Test.YtollibkfagjnaaaRegDfs
set_option linter.unusedVariables false
set_option linter.unusedSimpArgs false
set_option maxRecDepth 10000
namespace Go.Proofs.Ytollibkfagjnaaa.Graph
open Go.Proofs.Ytollibkfagjnaaa.AM Go.Proofs.Ytollibkfagjnaaa.Post
/-- The labels so far; the condition at hand. -/
def vH (n : Nat) (ls : List Int) (c : Int) : PH := [.cel [.vec 1 1 n, .s (.int .u64 c)], .vec 1 n (rowI .u64 ls) true]
noncomputable def orU' (a b : Int) : Int := abits .or .u64 a b
theorem add_ok {n : Nat} {ls : List Int} {c : Int} {a : Nat} (ha : a < n) (hl : ls.length = n) : PCall E [0, 1] 76 [.ptr 0 0, i64 (a : Nat)] (vH n ls c) (fun v hp => v = .tup [] ∧ hp = vH n (ls.set a (orU' (ls.getD a 0) c)) c) := by
  refine p_fn ?_
  show PTri E false [0, 1] _ [.ptr 0 0, i64 (a : Nat)] _ _
  unfold vH
  refine p_post ?_
  refine ed_run ?_
  refine ⟨[some 0, some 1], [], [.ptr 0 0, i64 (a : Nat)], [.cel [.vec 1 1 n, .s (.int .u64 c)], .vec 1 n (rowI .u64 (ls.set a (orU' (ls.getD a 0) c))) true], wk _ [] _ _ (blks := .cons (.cel rfl (by simp) rfl (.cons (.one (.vec rfl rfl)) (.cons (.nlv rfl) .nil))) (.cons (bs_vec rfl fun i hi => ?_) .nil)), ?_⟩
  · exact row1_set (en := fun z => .s (.int .u64 z)) (d := 0) (xs := ls) (c := a) (x := orU' (ls.getD a 0) c) _ rfl (by rw [hl]; exact hi)
  · exact fin ⟨rfl, rfl⟩
end Go.Proofs.Ytollibkfagjnaaa.Graph
