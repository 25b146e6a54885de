/- slices.BinarySearch in a queue. -/
import Derived.Test.YtollibkfagjnaaaFrU
set_option linter.unusedVariables false
set_option linter.unusedSimpArgs false
set_option maxRecDepth 10000
namespace Go.Proofs.Ytollibkfagjnaaa.Shape.Kit
open Go.Proofs.Ytollibkfagjnaaa.AM
def Sorted (l : List Int) : Prop := ∀ i j, i < j → j < l.length → l.getD i 0 < l.getD j 0
theorem searchS_ok (pre l : List Int) (c : Int) (hs : Sorted l) (hl : (pre ++ l).length < 1000000) : PCall E [0] 62 [qv (some pre) l 0, i64 c] [qB (some pre) l] (fun v hp => (∃ k t, v = .tup [i64 (k : Nat), .s (.bool t)] ∧ LowB l c k) ∧ hp = [qB (some pre) l]) := by
  have hll : (pre ++ l).length = pre.length + l.length := List.length_append
  have hat : ∀ j, j < l.length → rowI .i64 (pre ++ l) (pre.length + j) = [i64 (l.getD j 0)] := fun j hj => by
    show [PV.s (.int .i64 ((pre ++ l).getD (pre.length + j) 0))] = _
    rw [List.getD_eq_getElem?_getD, List.getElem?_append_right (by omega), Nat.add_sub_cancel_left, ← List.getD_eq_getElem?_getD]
    rfl
  have hatD : ∀ j, j < l.length → (pre ++ l).getD (pre.length + j) 0 = l.getD j 0 := fun j hj => by
    rw [List.getD_eq_getElem?_getD, List.getElem?_append_right (by omega), Nat.add_sub_cancel_left, ← List.getD_eq_getElem?_getD]
  refine p_call (fun _ _ => rfl) rfl ?_
  show PTri E false [0] _ [.que 0 pre.length l.length, i64 c, .junk, .junk, .junk, .junk, .junk, .junk, .junk, .junk] [.vec 1 (pre ++ l).length (rowI .i64 (pre ++ l)) true] _
  refine s_run ?_
  refine s_run ?_
  refine s_run ?_
  refine s_loop (ι := Nat × Nat) (fun i => i.1 ≤ i.2 ∧ i.2 ≤ l.length ∧ (∀ k, k < i.1 → l.getD k 0 < c) ∧ ∀ k, i.2 ≤ k → k < l.length → c ≤ l.getD k 0) (fun i => i.2 - i.1) (fun i => [.que 0 pre.length l.length, i64 c, i64 0, .s (.bool false), i64 (l.length : Nat), i64 (i.1 : Nat), i64 (i.2 : Nat), .junk, .junk, .junk]) (fun _ => [.vec 1 (pre ++ l).length (rowI .i64 (pre ++ l)) true]) (0, l.length) ⟨Nat.zero_le _, Nat.le_refl _, fun k h => absurd h (Nat.not_lt_zero _), fun k h1 h2 => absurd h2 (by omega)⟩ (σ := [some 0]) (fz := []) (wk _ _ _ _ (vals := .cons (.one (.que rfl rfl rfl)) (.cons (.nlv rfl) (.cons (.nlv rfl) (.cons (.nlv rfl) (.cons (.nlv rfl) (.cons (.nlv rfl) (.cons (.nlv rfl) (.cons (.one (.junk _)) (.cons (.one (.junk _)) (.cons (.one (.junk _)) .nil))))))))))) ?_
  rintro ⟨i, j⟩ ⟨hij, hjl, hlo, hhi⟩
  dsimp only at hij hjl hlo hhi
  refine s_ass (s_run ?_)
  refine s_cond (fun h => ?_) (fun h => ?_)
  · simp only [decide_eq_true_eq] at h
    have hlt : i < j := by omega
    have hm : (i + j) / 2 < l.length := by omega
    refine s_skip (p_block ?_)
    refine s_reg (g_run 1 ?_)
    refine g_run 1 ?_
    refine prg_head (v' := u64 ((i + j : Nat) : Int)) (congrArg u64 (by show (((i : Nat) : Int) + ((j : Nat) : Int)) % 18446744073709551616 = _; omega)) ?_
    refine g_run 1 ?_
    refine prg_head (v' := u64 (((i + j) / 2 : Nat) : Int)) (congrArg u64 (by show Int.fdiv ((i + j : Nat) : Int) 2 = _; rw [Int.fdiv_eq_ediv_of_nonneg _ (by decide)]; omega)) ?_
    refine g_end ?_
    refine s_reg (g_run 2 ?_ (hq := by simp only [and_true, true_and, hll]; omega))
    rw [hatD _ hm]
    refine g_call (less_ok (l.getD ((i + j) / 2) 0) c) ?_
    rintro v rfl
    refine ⟨rfl, ?_⟩
    refine g_end ?_
    refine e_cond (fun h1 => ?_) (fun h1 => ?_)
    · simp only [decide_eq_true_eq] at h1
      refine e_reg (g_run 1 ?_)
      refine prg_head (v' := i64 (((i + j) / 2 + 1 : Nat) : Int)) (congrArg i64 (by omega)) ?_
      refine g_end ?_
      refine lp_next ((i + j) / 2 + 1, j) ⟨by show (i + j) / 2 + 1 ≤ j; omega, hjl, fun k hk => ?_, hhi⟩ (σ := [some 0]) (fz := []) (wk _ _ _ _ (vals := .cons (.one (.que rfl rfl rfl)) (.cons (.nlv rfl) (.cons (.nlv rfl) (.cons (.nlv rfl) (.cons (.nlv rfl) (.cons (.nlv rfl) (.cons (.nlv rfl) (.cons (.one (.junk _)) (.cons (.one (.junk _)) (.cons (.one (.junk _)) .nil)))))))))))
      dsimp only at hk
      by_cases hk' : k = (i + j) / 2
      · rw [hk']; exact h1
      · exact Int.lt_trans (hs k ((i + j) / 2) (by omega) hm) h1
    · simp only [decide_eq_false_iff_not] at h1
      refine e_run ?_
      refine lp_next (i, (i + j) / 2) ⟨by show i ≤ (i + j) / 2; omega, by show (i + j) / 2 ≤ _; omega, hlo, fun k hk hkl => ?_⟩ (σ := [some 0]) (fz := []) (wk _ _ _ _ (vals := .cons (.one (.que rfl rfl rfl)) (.cons (.nlv rfl) (.cons (.nlv rfl) (.cons (.nlv rfl) (.cons (.nlv rfl) (.cons (.nlv rfl) (.cons (.nlv rfl) (.cons (.one (.junk _)) (.cons (.one (.junk _)) (.cons (.one (.junk _)) .nil)))))))))))
      dsimp only at hk
      by_cases hk' : k = (i + j) / 2
      · rw [hk']; omega
      · have := hs ((i + j) / 2) k (by omega) hkl
        omega
  · simp only [decide_eq_false_iff_not] at h
    have hE : i = j := by omega
    subst hE
    refine s_exit ?_
    refine s_reg (g_run 1 ?_)
    refine prg_split (fun h1 => ?_) (fun h1 => ?_)
    · simp only [decide_eq_true_eq] at h1
      have hil : i < l.length := by omega
      refine g_run 6 ?_ (hq := by simp only [and_true, true_and, hll]; omega)
      rw [hatD _ hil]
      refine prg_split (fun h2 => ?_) (fun h2 => ?_)
      · refine g_end ?_
        exact p_ret (fin ⟨⟨i, true, rfl, hjl, hlo, hhi⟩, rfl⟩)
      · refine g_run 5 ?_ (hq := by simp only [and_true, true_and, hll]; omega)
        rw [hatD _ hil]
        refine g_call (nanS_ok (l.getD i 0)) ?_
        rintro v rfl
        refine ⟨rfl, ?_⟩
        refine g_end ?_
        exact p_ret (fin ⟨⟨i, false, rfl, hjl, hlo, hhi⟩, rfl⟩)
    · refine g_end ?_
      exact p_ret (fin ⟨⟨i, false, rfl, hjl, hlo, hhi⟩, rfl⟩)
end Go.Proofs.Ytollibkfagjnaaa.Shape.Kit
