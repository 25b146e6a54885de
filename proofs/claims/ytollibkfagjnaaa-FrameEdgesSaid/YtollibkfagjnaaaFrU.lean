/- slices.Repeat and slices.BinarySearch. -/
import Derived.Test.YtollibkfagjnaaaFrT
import Derived.Test.YtollibkfagjnaaaPostMk
import Derived.Test.YtollibkfagjnaaaTabC
set_option linter.unusedVariables false
set_option linter.unusedSimpArgs false
set_option maxRecDepth 10000
namespace Go.Proofs.Ytollibkfagjnaaa.Shape.Kit
open Go.Proofs.Ytollibkfagjnaaa.AM
def repF (r : Nat) : Nat → List PV := fun j => if j < r then [i64 (-1)] else [i64 0]
theorem repeat_ok {n : Nat} (hn : n < 1000000) (h0 : 0 < n) : PCall E [] 61 [.frz 1 1 1 (fun _ => [i64 (-1)]), i64 (n : Nat)] [] (fun v hp => v = .exv 1 0 n ∧ hp = [.vec 1 n (fun _ => [i64 (-1)]) true]) := by
  refine p_call (fun _ _ => rfl) rfl ?_
  show PTri E false [] _ [.frz 1 1 1 (fun _ => [i64 (-1)]), i64 (n : Nat), .junk, .junk, .junk, .junk, .junk, .junk, .junk, .junk] _ _
  refine s_run ?_
  refine s_ass (s_run ?_)
  refine s_cond (fun h => ?_) (fun _ => ?_)
  · simp only [decide_eq_true_eq] at h; omega
  refine s_skip ?_
  refine s_reg (g_run 2 ?_)
  refine prg_head (v' := u64 1) rfl ?_
  refine g_run 1 ?_
  refine prg_head (v' := u64 (n : Nat)) (congrArg u64 (by show ((n : Nat) : Int) % 18446744073709551616 = _; omega)) ?_
  refine g_call (mul_ok (n := n) (by omega)) ?_
  rintro v rfl
  refine ⟨rfl, ?_⟩
  refine g_end ?_
  refine s_ass ?_
  refine s_reg (g_run 1 ?_)
  refine prg_head (v' := .s (.bool false)) rfl ?_
  refine g_run 2 ?_
  refine prg_head (v' := .s (.bool false)) (congrArg (fun b => PV.s (.bool b)) (decide_eq_false (by omega))) ?_
  refine g_end ?_
  refine s_f (s_skip ?_)
  refine s_reg (g_run 1 ?_)
  refine prg_mkx (n := n) rfl rfl rfl (by omega) ?_
  refine g_end ?_
  refine s_reg ?_
  refine prg_copy1 (i := 0) rfl (.inr ⟨rfl, rfl⟩) rfl (by omega) rfl trivial (fun j _ => ⟨_, rfl, rfl⟩) (fun md' cnt' => ?_) h0 (by omega)
  refine g_fin ?_
  refine s_loop (ι := Nat) (fun r => 0 < r ∧ r ≤ n) (fun r => n - r) (fun r => [.junk, .junk, .s (.slice none 0 0), .junk, .junk, .exv 1 0 n, i64 (r : Nat), .junk, .junk, .junk]) (fun r => [.vec 1 n (repF r) true]) (min 1 n) ⟨by omega, by omega⟩ (σ := [some 0]) (fz := []) (wk _ _ _ _ (vals := .cons (.one (.junk _)) (.cons (.one (.junk _)) (.cons (.nlv rfl) (.cons (.one (.junk _)) (.cons (.one (.junk _)) (.cons (.one (.exv rfl rfl)) (.cons (.nlv rfl) (.cons (.one (.junk _)) (.cons (.one (.junk _)) (.cons (.one (.junk _)) .nil)))))))))) (blks := .cons (.vec rfl (by simp) rfl (Nat.le_refl _) (fun h => ⟨h, rfl⟩) fun j hj => ?_) .nil)) ?_
  · have e1 : min 1 n = 1 := by omega
    show (if 0 ≤ j ∧ j < 0 + min 1 n then [i64 (-1)] else [i64 0]) = repF (min 1 n) j
    rw [e1]; unfold repF
    by_cases hj : j < 1
    · rw [if_pos ⟨by omega, by omega⟩, if_pos hj]
    · rw [if_neg (by omega), if_neg hj]
  rintro r ⟨r0, rn⟩
  refine s_ass (s_run ?_)
  refine s_cond (fun h => ?_) (fun h => ?_)
  · simp only [decide_eq_true_eq] at h
    have hrn : r < n := by omega
    refine s_skip (p_block ?_)
    refine e_drw ?_
    refine prg_xlo (n := n) (r := r) rfl rfl hrn ?_
    refine prg_xhi (n := n) (r := r) rfl rfl hrn ?_
    refine prg_copy1 (i := r) (m := n - r) rfl (.inl rfl) rfl (by omega) rfl ⟨by omega, rfl⟩ (fun j hj => ⟨.int .i64 (-1), ?_, rfl⟩) (fun md' cnt' => ?_) h0 (by omega)
    · show repF r (0 + j) = _
      unfold repF
      rw [if_pos (by omega)]; rfl
    refine g_pureD 1 (fun O' => ?_)
    refine prg_head (v' := i64 ((r + min r (n - r) : Nat) : Int)) (congrArg i64 (by omega)) ?_
    refine g_fin ?_
    refine lp_next (r + min r (n - r)) ⟨by omega, by omega⟩ (σ := [some 0]) (fz := []) (wk _ _ _ _ (vals := .cons (.one (.junk _)) (.cons (.one (.junk _)) (.cons (.nlv rfl) (.cons (.one (.junk _)) (.cons (.one (.junk _)) (.cons (.one (.exv rfl rfl)) (.cons (.nlv rfl) (.cons (.one (.junk _)) (.cons (.one (.junk _)) (.cons (.one (.junk _)) .nil)))))))))) (blks := .cons (.vec rfl (by simp) rfl (Nat.le_refl _) (fun h => ⟨h, rfl⟩) fun j hj => ?_) .nil))
    show (if r ≤ j ∧ j < r + min r (n - r) then repF r (0 + (j - r)) else repF r j) = repF (r + min r (n - r)) j
    unfold repF
    by_cases h1 : j < r
    · rw [if_neg (by omega), if_pos h1, if_pos (by omega)]
    · by_cases h2 : j < r + min r (n - r)
      · rw [if_pos ⟨by omega, h2⟩, if_pos (by omega), if_pos h2]
      · rw [if_neg (by omega), if_neg h1, if_neg h2]
  · simp only [decide_eq_false_iff_not] at h
    have hrn : r = n := by omega
    subst hrn
    refine s_exit ?_
    refine p_weak [some 0] [] (wk [some 0] [] [.junk, .junk, .s (.slice none 0 0), .junk, .junk, .exv 1 0 r, .junk, .junk, .junk, .junk] [.vec 1 r (fun _ => [i64 (-1)]) true] (vals := .cons (.one (.junk _)) (.cons (.one (.junk _)) (.cons (.nlv rfl) (.cons (.one (.junk _)) (.cons (.one (.junk _)) (.cons (.one (.exv rfl rfl)) (.cons (.one (.junk _)) (.cons (.one (.junk _)) (.cons (.one (.junk _)) (.cons (.one (.junk _)) .nil)))))))))) (blks := .cons (.vec rfl (by simp) rfl (Nat.le_refl _) (fun h => ⟨h, rfl⟩) fun j hj => if_pos hj) .nil)) ?_
    refine s_run ?_
    exact p_ret (fin ⟨rfl, rfl⟩)
/-- What BinarySearch tells: how many lie below. -/
def LowB (l : List Int) (c : Int) (k : Nat) : Prop := k ≤ l.length ∧ (∀ i, i < k → l.getD i 0 < c) ∧ ∀ i, k ≤ i → i < l.length → c ≤ l.getD i 0
theorem searchN_ok (c : Int) : PCall E [0] 62 [qv none [] 0, i64 c] [qB none []] (fun v hp => (∃ k t, v = .tup [i64 (k : Nat), .s (.bool t)] ∧ LowB [] c k) ∧ hp = [qB none []]) := by
  refine p_call (fun _ _ => rfl) rfl ?_
  show PTri E false [0] _ [.exv 1 0 0, i64 c, .junk, .junk, .junk, .junk, .junk, .junk, .junk, .junk] [.vec 1 0 (rowI .i64 []) false] _
  refine s_run ?_
  refine s_run ?_
  refine s_run ?_
  refine s_loop (ι := Unit) (fun _ => True) (fun _ => 0) (fun _ => [.exv 1 0 0, i64 c, i64 0, .s (.bool false), i64 0, i64 0, i64 0, .junk, .junk, .junk]) (fun _ => [.vec 1 0 (rowI .i64 []) false]) () trivial (σ := [some 0]) (fz := []) (wk _ _ _ _ (vals := .cons (.one (.exv rfl rfl)) (.cons (.nlv rfl) (.cons (.nlv rfl) (.cons (.nlv rfl) (.cons (.nlv rfl) (.cons (.nlv rfl) (.cons (.nlv rfl) (.cons (.one (.junk _)) (.cons (.one (.junk _)) (.cons (.one (.junk _)) .nil))))))))))) ?_
  rintro _ _
  refine s_ass (s_run ?_)
  refine s_f ?_
  refine s_exit ?_
  refine s_run ?_
  exact p_ret (fin ⟨⟨0, false, rfl, Nat.zero_le _, fun i h => absurd h (Nat.not_lt_zero _), fun i _ h => absurd h (Nat.not_lt_zero _)⟩, rfl⟩)
end Go.Proofs.Ytollibkfagjnaaa.Shape.Kit
