/- What is told to level.add, and to Governs. -/
import Derived.Test.YtollibkfagjnaaaRegEach
set_option linter.unusedVariables false
set_option linter.unusedSimpArgs false
set_option maxRecDepth 10000
namespace Go.Proofs.Ytollibkfagjnaaa.Graph
open Go.Proofs.Ytollibkfagjnaaa.AM Go.Proofs.Ytollibkfagjnaaa.Post
def fB (z : Nat) : PV := .fptr 1 1 (fun _ => [i64 (z : Nat)]) 0 0
def govN (y b : Nat) (l : List Nat) (x : Nat) : List Nat := if x = y then l ++ [b] else l
theorem govT {n y b : Nat} (hy : y < 1000000) (hb : b < 1000000) : Tell n 100000000 81 (fun _ => []) (fun q => [fB y, .ptr q 0, fB b]) false [] (List Nat) List.length (fun l => rowI .i64 (natI l)) (govN y b) (fun k l => l.length ≤ k) := by
  refine ⟨fun h => ⟨.nil, .cons (.same rfl) (.cons (.ptr h) (.cons (.same rfl) .nil))⟩, fun {k s a} h => by
    unfold govN; split
    · rw [List.length_append, List.length_singleton]; omega
    · omega, fun {k s x} hk ha hs => ?_⟩
  show PCall E [0, 1] 81 [i64 (x : Nat), fB y, .ptr 0 0, fB b] [.cel [.vec 1 1 s.length], .vec 1 s.length (rowI .i64 (natI s)) false] (fun v hp => v = .tup [] ∧ hp = [.cel [.vec 1 2 (govN y b s x).length], .dead, .vec 1 (govN y b s x).length (rowI .i64 (natI (govN y b s x))) false])
  unfold fB
  refine p_fn ?_
  show PTri E false [0, 1] _ [i64 (x : Nat), .fptr 1 1 (fun _ => [i64 (y : Nat)]) 0 0, .ptr 0 0, .fptr 1 1 (fun _ => [i64 (b : Nat)]) 0 0, .junk] _ _
  refine p_weakD [some 0, some 1, some 1] [] [1] (T' := [i64 (x : Nat), .fptr 1 1 (fun _ => [i64 (y : Nat)]) 0 0, .ptr 0 0, .fptr 1 1 (fun _ => [i64 (b : Nat)]) 0 0, .junk]) (hp' := [.cel [.vec 1 2 s.length], .dead, .vec 1 s.length (rowI .i64 (natI s)) false]) (.cons (.nlv rfl) (.cons (.nlv rfl) (.cons (.one (.ptr rfl)) (.cons (.nlv rfl) (.cons (.nlv rfl) .nil))))) (.cons (.cel rfl (by simp) rfl (.cons (.one (.vec rfl rfl)) .nil)) (.cons .dead (.cons bs_same .nil))) ?_
  refine s_run ?_
  refine e_cond (fun h1 => ?_) (fun h1 => ?_)
  · have hxy : x = y := by have := eq_of_beq h1; omega
    have hg : govN y b s x = s ++ [b] := if_pos hxy
    refine p_post ?_
    refine e_run (hq := by simp only [room, true_and, and_true]; omega) ?_
    refine ⟨[some 0, some 1, some 4], [], [.junk, .junk, .ptr 0 0, .junk, .junk], [.cel [.vec 1 2 (s.length + 1)], .dead, .vec 1 (s.length + 1) (rowI .i64 (natI (s ++ [b]))) false], wk _ [] _ _ (blks := .cons (.cel rfl (by simp) rfl (.cons (.one (.vec rfl (by simp))) .nil)) (.cons .dead (.cons (.vec rfl (by simp) rfl (by simp) (fun h => nomatch h) fun i hi => ?_) .nil))), ?_⟩
    · rw [natI_snoc]
      have := row1_push (en := i64) (d := 0) (x := ((b : Nat) : Int)) (xs := natI s) (i := i) (by rw [natI_len]; simpa using hi)
      rw [natI_len] at this
      exact this
    · rw [hg, List.length_append, List.length_singleton]; exact fin ⟨rfl, rfl⟩
  · have hxy : x ≠ y := fun q => by
      subst q
      rw [beq_self_eq_true] at h1
      cases h1
    have hg : govN y b s x = s := if_neg hxy
    refine p_skip ?_
    rw [hg]
    exact fin ⟨rfl, rfl⟩
end Go.Proofs.Ytollibkfagjnaaa.Graph
