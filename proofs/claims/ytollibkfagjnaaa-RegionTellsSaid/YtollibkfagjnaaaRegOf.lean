/- region.Of. -/
import Derived.Test.YtollibkfagjnaaaSrtH
import Derived.Test.YtollibkfagjnaaaRegDom
set_option linter.unusedVariables false
set_option linter.unusedSimpArgs false
set_option maxRecDepth 10000
namespace Go.Proofs.Ytollibkfagjnaaa.Graph
open Go.Proofs.Ytollibkfagjnaaa.AM Go.Proofs.Ytollibkfagjnaaa.Post
def snocN (l : List Nat) (x : Nat) : List Nat := l ++ [x]
theorem snoc_fold : ∀ (tl l : List Nat), tl.foldl snocN l = l ++ tl
  | [], l => by simp
  | t :: tl, l => by
    rw [List.foldl_cons, snoc_fold tl]
    unfold snocN
    simp
theorem ofT {n : Nat} (hn : n < 1000000) : Tell n 100000000 79 (fun _ => []) (fun q => [.ptr q 0]) false [] (List Nat) List.length (fun l => rowI .i64 (natI l)) snocN (fun k l => l.length ≤ k) := by
  refine ⟨fun h => ⟨.nil, .cons (.ptr h) .nil⟩, fun {k s a} h => by
    unfold snocN
    rw [List.length_append, List.length_singleton]; omega, fun {k s x} hk ha hs => ?_⟩
  show PCall E [0, 1] 79 [i64 (x : Nat), .ptr 0 0] [.cel [.vec 1 1 s.length], .vec 1 s.length (rowI .i64 (natI s)) false] (fun v hp => v = .tup [] ∧ hp = [.cel [.vec 1 2 (snocN s x).length], .dead, .vec 1 (snocN s x).length (rowI .i64 (natI (snocN s x))) false])
  refine p_fn ?_
  show PTri E false [0, 1] _ [i64 (x : Nat), .ptr 0 0] _ _
  refine p_weakD [some 0, some 1, some 1] [] [1] (T' := [i64 (x : Nat), .ptr 0 0]) (hp' := [.cel [.vec 1 2 s.length], .dead, .vec 1 s.length (rowI .i64 (natI s)) false]) (.cons (.nlv rfl) (.cons (.one (.ptr rfl)) .nil)) (.cons (.cel rfl (by simp) rfl (.cons (.one (.vec rfl rfl)) .nil)) (.cons .dead (.cons bs_same .nil))) ?_
  refine p_post ?_
  refine e_run (hq := by simp only [room, true_and, and_true]; omega) ?_
  refine ⟨[some 0, some 1, some 4], [], [.junk, .junk], [.cel [.vec 1 2 (s.length + 1)], .dead, .vec 1 (s.length + 1) (rowI .i64 (natI (s ++ [x]))) false], wk _ [] _ _ (blks := .cons (.cel rfl (by simp) rfl (.cons (.one (.vec rfl (by simp))) .nil)) (.cons .dead (.cons (.vec rfl (by simp) rfl (by simp) (fun h => nomatch h) fun i hi => ?_) .nil))), ?_⟩
  · rw [natI_snoc]
    have := row1_push (en := i64) (d := 0) (x := ((x : Nat) : Int)) (xs := natI s) (i := i) (by rw [natI_len]; simpa using hi)
    rw [natI_len] at this
    exact this
  · unfold snocN
    rw [List.length_append, List.length_singleton]; exact fin ⟨rfl, rfl⟩
theorem srt_pair {xs : List Int} (h : Srt 0 xs.length xs) : xs.Pairwise (· ≤ ·) := by
  rw [List.pairwise_iff_getElem]
  intro i j hi hj hij
  have := h i j (Nat.zero_le _) (by omega) hj
  rw [List.getD_eq_getElem?_getD, List.getD_eq_getElem?_getD, List.getElem?_eq_getElem hi, List.getElem?_eq_getElem hj] at this
  exact this
theorem of_pair {code : List (Int × Int)} {b : Nat} : (natI (ofL code b)).Pairwise (· ≤ ·) := by
  have h1 : (ofL code b).Pairwise (· < ·) := List.Pairwise.sublist List.filter_sublist List.pairwise_lt_range
  unfold natI
  rw [List.pairwise_map]
  exact h1.imp fun h => by
    show ((_ : Nat) : Int) ≤ ((_ : Nat) : Int)
    omega
end Go.Proofs.Ytollibkfagjnaaa.Graph
