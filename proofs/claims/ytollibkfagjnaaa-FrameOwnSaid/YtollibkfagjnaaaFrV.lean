/- Repeat, BinarySearch and what they call. slices.Repeat and slices.BinarySearch. slices.BinarySearch in a queue. PUT TOGETHER by merge.py. -/
import Derived.Test.YtollibkfagjnaaaFrS
import Derived.Test.YtollibkfagjnaaaShapeKitJ
import Derived.Test.YtollibkfagjnaaaPostMk
import Derived.Test.YtollibkfagjnaaaTabC
set_option linter.unusedVariables false
set_option linter.unusedSimpArgs false
set_option maxRecDepth 10000
namespace Go.Proofs.Ytollibkfagjnaaa.Shape.Kit
open Go.Proofs.Ytollibkfagjnaaa.AM
theorem mask_u {n : Nat} (hn : n < 4294967296) : abits .and .u64 ((n : Nat) : Int) 4294967295 = ((n : Nat) : Int) := by
  have h1 : (BitVec.ofInt 64 ((n : Nat) : Int) &&& BitVec.ofInt 64 4294967295).toNat = n := by
    have e1 : BitVec.ofInt 64 ((n : Nat) : Int) = BitVec.ofNat 64 n := rfl
    have e2 : BitVec.ofInt 64 4294967295 = BitVec.ofNat 64 (2 ^ 32 - 1) := rfl
    rw [e1, e2, BitVec.toNat_and, BitVec.toNat_ofNat, BitVec.toNat_ofNat, Nat.mod_eq_of_lt (by omega), Nat.mod_eq_of_lt (by decide), Nat.and_two_pow_sub_one_eq_mod, Nat.mod_eq_of_lt (by omega)]
  show aw .u64 ((BitVec.ofInt 64 ((n : Nat) : Int) &&& BitVec.ofInt 64 4294967295).toNat : Int) = _
  rw [h1]
  show ((n : Nat) : Int) % 18446744073709551616 = _
  omega
theorem shr_u {n : Nat} (hn : n < 4294967296) : ((n : Nat) : Int).fdiv (2 ^ (min (32 : Int).toNat 64)) = 0 := by
  show ((n : Nat) : Int).fdiv 4294967296 = 0
  rw [Int.fdiv_eq_ediv_of_nonneg _ (by decide)]
  omega
theorem mul64_ok {n : Nat} (hn : n < 4294967296) : PFun E 113 [u64 1, u64 (n : Nat)] (valQ (isV (.tup [u64 0, u64 (n : Nat)]))) := by
  have hw : ((n : Nat) : Int) % 18446744073709551616 = ((n : Nat) : Int) := by omega
  refine p_fun ?_
  show PTri E false [] _ [u64 1, u64 (n : Nat), .junk, .junk, .junk, .junk, .junk, .junk, .junk, .junk, .junk, .junk] _ _
  refine s_run ?_
  refine s_reg (g_run 1 ?_)
  refine prg_head (v' := u64 1) rfl ?_
  refine g_end ?_
  refine s_reg (g_run 1 ?_)
  refine prg_head (v' := u64 0) rfl ?_
  refine g_end ?_
  refine s_reg (g_run 1 ?_)
  refine prg_head (v' := u64 (n : Nat)) (congrArg u64 (mask_u hn)) ?_
  refine g_end ?_
  refine s_reg (g_run 1 ?_)
  refine prg_head (v' := u64 0) (congrArg u64 (shr_u hn)) ?_
  refine g_end ?_
  refine s_reg (g_run 1 ?_)
  refine prg_head (v' := u64 (n : Nat)) (congrArg u64 (by show (1 * ((n : Nat) : Int)) % 18446744073709551616 = _; omega)) ?_
  refine g_end ?_
  refine s_reg (g_run 1 ?_)
  refine prg_head (v' := u64 0) (congrArg u64 (by show (0 * ((n : Nat) : Int)) % 18446744073709551616 = _; omega)) ?_
  refine g_run 1 ?_
  refine prg_head (v' := u64 0) (congrArg u64 (shr_u hn)) ?_
  refine g_run 1 ?_
  refine prg_head (v' := u64 0) rfl ?_
  refine g_end ?_
  refine s_reg (g_run 1 ?_)
  refine prg_head (v' := u64 0) rfl ?_
  refine g_end ?_
  refine s_reg (g_run 1 ?_)
  refine prg_head (v' := u64 0) rfl ?_
  refine g_end ?_
  refine s_reg (g_run 1 ?_)
  refine prg_head (v' := u64 0) rfl ?_
  refine g_run 1 ?_
  refine prg_head (v' := u64 0) rfl ?_
  refine g_end ?_
  refine s_reg (g_run 1 ?_)
  refine prg_head (v' := u64 0) rfl ?_
  refine g_run 1 ?_
  refine prg_head (v' := u64 0) rfl ?_
  refine g_run 1 ?_
  refine prg_head (v' := u64 0) rfl ?_
  refine g_run 1 ?_
  refine prg_head (v' := u64 0) rfl ?_
  refine g_end ?_
  refine s_reg (g_run 1 ?_)
  refine prg_head (v' := u64 (n : Nat)) (congrArg u64 (by show (1 * ((n : Nat) : Int)) % 18446744073709551616 = _; omega)) ?_
  refine g_end ?_
  exact p_ret fin_v
theorem mul_ok {n : Nat} (hn : n < 4294967296) : PFun E 96 [u64 1, u64 (n : Nat)] (valQ (isV (.tup [u64 0, u64 (n : Nat)]))) := by
  refine p_fun ?_
  show PTri E false [] _ [u64 1, u64 (n : Nat), .junk, .junk, .junk, .junk, .junk, .junk] _ _
  refine s_run ?_
  refine s_f (s_skip ?_)
  refine s_reg (g_call (mul64_ok hn) ?_)
  rintro v rfl
  refine ⟨rfl, ?_⟩
  refine g_end ?_
  refine s_run ?_
  exact p_ret fin_v
theorem nan_ok (a : Int) : PFun E 114 [i64 a] (valQ (isV (.s (.bool false)))) := by
  refine p_fun ?_
  show PTri E false [] _ [i64 a, .junk] _ _
  refine s_run ?_
  refine s_reg (g_run 1 ?_)
  refine prg_head (v' := .s (.bool false)) (by simp) ?_
  refine g_end ?_
  exact p_ret fin_v
theorem nanS_ok (a : Int) : PFun E 98 [i64 a] (valQ (isV (.s (.bool false)))) := by
  refine p_fun ?_
  show PTri E false [] _ [i64 a, .junk] _ _
  refine s_run ?_
  refine s_reg (g_run 1 ?_)
  refine prg_head (v' := .s (.bool false)) (by simp) ?_
  refine g_end ?_
  exact p_ret fin_v
theorem less_ok (a b : Int) : PFun E 97 [i64 a, i64 b] (valQ (isV (.s (.bool (decide (a < b)))))) := by
  refine p_fun ?_
  show PTri E false [] _ [i64 a, i64 b, .junk] _ _
  refine s_run ?_
  refine s_reg (g_call (nan_ok a) ?_)
  rintro v rfl
  refine ⟨rfl, ?_⟩
  refine g_end ?_
  exact p_ret fin_v
end Go.Proofs.Ytollibkfagjnaaa.Shape.Kit

namespace Go.Proofs.Ytollibkfagjnaaa.Shape.Kit
open Go.Proofs.Ytollibkfagjnaaa.AM
def repF (r : Nat) : Nat → List PV := fun j => if j < r then [i64 (-1)] else [i64 0]
theorem repeat_ok {n : Nat} (hn : n < 1000000) (h0 : 0 < n) : PCall E [] 61 [.frz 1 1 1 (fun _ => [i64 (-1)]), i64 (n : Nat)] [] (fun v hp => v = .exv 1 0 n ∧ hp = [.vec 1 n (fun _ => [i64 (-1)]) true]) := by
  refine p_call (fun _ _ => rfl) rfl ?_
  show PTri E false [] _ [.frz 1 1 1 (fun _ => [i64 (-1)]), i64 (n : Nat), .junk, .junk, .junk, .junk, .junk, .junk, .junk, .junk] _ _
  refine s_run ?_
  refine s_ass (s_run ?_)
  refine s_cond (fun h => ?_) (fun _ => ?_)
  · simp only [decide_eq_true_eq] at h; omega
  refine s_skip ?_
  refine s_reg (g_run 2 ?_)
  refine prg_head (v' := u64 1) rfl ?_
  refine g_run 1 ?_
  refine prg_head (v' := u64 (n : Nat)) (congrArg u64 (by show ((n : Nat) : Int) % 18446744073709551616 = _; omega)) ?_
  refine g_call (mul_ok (n := n) (by omega)) ?_
  rintro v rfl
  refine ⟨rfl, ?_⟩
  refine g_end ?_
  refine s_ass ?_
  refine s_reg (g_run 1 ?_)
  refine prg_head (v' := .s (.bool false)) rfl ?_
  refine g_run 2 ?_
  refine prg_head (v' := .s (.bool false)) (congrArg (fun b => PV.s (.bool b)) (decide_eq_false (by omega))) ?_
  refine g_end ?_
  refine s_f (s_skip ?_)
  refine s_reg (g_run 1 ?_)
  refine prg_mkx (n := n) rfl rfl rfl (by omega) ?_
  refine g_end ?_
  refine s_reg ?_
  refine prg_copy1 (i := 0) rfl (.inr ⟨rfl, rfl⟩) rfl (by omega) rfl trivial (fun j _ => ⟨_, rfl, rfl⟩) (fun md' cnt' => ?_) h0 (by omega)
  refine g_fin ?_
  refine s_loop (ι := Nat) (fun r => 0 < r ∧ r ≤ n) (fun r => n - r) (fun r => [.junk, .junk, .s (.slice none 0 0), .junk, .junk, .exv 1 0 n, i64 (r : Nat), .junk, .junk, .junk]) (fun r => [.vec 1 n (repF r) true]) (min 1 n) ⟨by omega, by omega⟩ (σ := [some 0]) (fz := []) (wk _ _ _ _ (vals := .cons (.one (.junk _)) (.cons (.one (.junk _)) (.cons (.nlv rfl) (.cons (.one (.junk _)) (.cons (.one (.junk _)) (.cons (.one (.exv rfl rfl)) (.cons (.nlv rfl) (.cons (.one (.junk _)) (.cons (.one (.junk _)) (.cons (.one (.junk _)) .nil)))))))))) (blks := .cons (.vec rfl (by simp) rfl (Nat.le_refl _) (fun h => ⟨h, rfl⟩) fun j hj => ?_) .nil)) ?_
  · have e1 : min 1 n = 1 := by omega
    show (if 0 ≤ j ∧ j < 0 + min 1 n then [i64 (-1)] else [i64 0]) = repF (min 1 n) j
    rw [e1]; unfold repF
    by_cases hj : j < 1
    · rw [if_pos ⟨by omega, by omega⟩, if_pos hj]
    · rw [if_neg (by omega), if_neg hj]
  rintro r ⟨r0, rn⟩
  refine s_ass (s_run ?_)
  refine s_cond (fun h => ?_) (fun h => ?_)
  · simp only [decide_eq_true_eq] at h
    have hrn : r < n := by omega
    refine s_skip (p_block ?_)
    refine e_drw ?_
    refine prg_xlo (n := n) (r := r) rfl rfl hrn ?_
    refine prg_xhi (n := n) (r := r) rfl rfl hrn ?_
    refine prg_copy1 (i := r) (m := n - r) rfl (.inl rfl) rfl (by omega) rfl ⟨by omega, rfl⟩ (fun j hj => ⟨.int .i64 (-1), ?_, rfl⟩) (fun md' cnt' => ?_) h0 (by omega)
    · show repF r (0 + j) = _
      unfold repF
      rw [if_pos (by omega)]; rfl
    refine g_pureD 1 (fun O' => ?_)
    refine prg_head (v' := i64 ((r + min r (n - r) : Nat) : Int)) (congrArg i64 (by omega)) ?_
    refine g_fin ?_
    refine lp_next (r + min r (n - r)) ⟨by omega, by omega⟩ (σ := [some 0]) (fz := []) (wk _ _ _ _ (vals := .cons (.one (.junk _)) (.cons (.one (.junk _)) (.cons (.nlv rfl) (.cons (.one (.junk _)) (.cons (.one (.junk _)) (.cons (.one (.exv rfl rfl)) (.cons (.nlv rfl) (.cons (.one (.junk _)) (.cons (.one (.junk _)) (.cons (.one (.junk _)) .nil)))))))))) (blks := .cons (.vec rfl (by simp) rfl (Nat.le_refl _) (fun h => ⟨h, rfl⟩) fun j hj => ?_) .nil))
    show (if r ≤ j ∧ j < r + min r (n - r) then repF r (0 + (j - r)) else repF r j) = repF (r + min r (n - r)) j
    unfold repF
    by_cases h1 : j < r
    · rw [if_neg (by omega), if_pos h1, if_pos (by omega)]
    · by_cases h2 : j < r + min r (n - r)
      · rw [if_pos ⟨by omega, h2⟩, if_pos (by omega), if_pos h2]
      · rw [if_neg (by omega), if_neg h1, if_neg h2]
  · simp only [decide_eq_false_iff_not] at h
    have hrn : r = n := by omega
    subst hrn
    refine s_exit ?_
    refine p_weak [some 0] [] (wk [some 0] [] [.junk, .junk, .s (.slice none 0 0), .junk, .junk, .exv 1 0 r, .junk, .junk, .junk, .junk] [.vec 1 r (fun _ => [i64 (-1)]) true] (vals := .cons (.one (.junk _)) (.cons (.one (.junk _)) (.cons (.nlv rfl) (.cons (.one (.junk _)) (.cons (.one (.junk _)) (.cons (.one (.exv rfl rfl)) (.cons (.one (.junk _)) (.cons (.one (.junk _)) (.cons (.one (.junk _)) (.cons (.one (.junk _)) .nil)))))))))) (blks := .cons (.vec rfl (by simp) rfl (Nat.le_refl _) (fun h => ⟨h, rfl⟩) fun j hj => if_pos hj) .nil)) ?_
    refine s_run ?_
    exact p_ret (fin ⟨rfl, rfl⟩)
/-- What BinarySearch tells: how many lie below. -/
def LowB (l : List Int) (c : Int) (k : Nat) : Prop := k ≤ l.length ∧ (∀ i, i < k → l.getD i 0 < c) ∧ ∀ i, k ≤ i → i < l.length → c ≤ l.getD i 0
theorem searchN_ok (c : Int) : PCall E [0] 62 [qv none [] 0, i64 c] [qB none []] (fun v hp => (∃ k t, v = .tup [i64 (k : Nat), .s (.bool t)] ∧ LowB [] c k) ∧ hp = [qB none []]) := by
  refine p_call (fun _ _ => rfl) rfl ?_
  show PTri E false [0] _ [.exv 1 0 0, i64 c, .junk, .junk, .junk, .junk, .junk, .junk, .junk, .junk] [.vec 1 0 (rowI .i64 []) false] _
  refine s_run ?_
  refine s_run ?_
  refine s_run ?_
  refine s_loop (ι := Unit) (fun _ => True) (fun _ => 0) (fun _ => [.exv 1 0 0, i64 c, i64 0, .s (.bool false), i64 0, i64 0, i64 0, .junk, .junk, .junk]) (fun _ => [.vec 1 0 (rowI .i64 []) false]) () trivial (σ := [some 0]) (fz := []) (wk _ _ _ _ (vals := .cons (.one (.exv rfl rfl)) (.cons (.nlv rfl) (.cons (.nlv rfl) (.cons (.nlv rfl) (.cons (.nlv rfl) (.cons (.nlv rfl) (.cons (.nlv rfl) (.cons (.one (.junk _)) (.cons (.one (.junk _)) (.cons (.one (.junk _)) .nil))))))))))) ?_
  rintro _ _
  refine s_ass (s_run ?_)
  refine s_f ?_
  refine s_exit ?_
  refine s_run ?_
  exact p_ret (fin ⟨⟨0, false, rfl, Nat.zero_le _, fun i h => absurd h (Nat.not_lt_zero _), fun i _ h => absurd h (Nat.not_lt_zero _)⟩, rfl⟩)
end Go.Proofs.Ytollibkfagjnaaa.Shape.Kit

namespace Go.Proofs.Ytollibkfagjnaaa.Shape.Kit
open Go.Proofs.Ytollibkfagjnaaa.AM
def Sorted (l : List Int) : Prop := ∀ i j, i < j → j < l.length → l.getD i 0 < l.getD j 0
theorem searchS_ok (pre l : List Int) (c : Int) (hs : Sorted l) (hl : (pre ++ l).length < 1000000) : PCall E [0] 62 [qv (some pre) l 0, i64 c] [qB (some pre) l] (fun v hp => (∃ k t, v = .tup [i64 (k : Nat), .s (.bool t)] ∧ LowB l c k) ∧ hp = [qB (some pre) l]) := by
  have hll : (pre ++ l).length = pre.length + l.length := List.length_append
  have hat : ∀ j, j < l.length → rowI .i64 (pre ++ l) (pre.length + j) = [i64 (l.getD j 0)] := fun j hj => by
    show [PV.s (.int .i64 ((pre ++ l).getD (pre.length + j) 0))] = _
    rw [List.getD_eq_getElem?_getD, List.getElem?_append_right (by omega), Nat.add_sub_cancel_left, ← List.getD_eq_getElem?_getD]
    rfl
  have hatD : ∀ j, j < l.length → (pre ++ l).getD (pre.length + j) 0 = l.getD j 0 := fun j hj => by
    rw [List.getD_eq_getElem?_getD, List.getElem?_append_right (by omega), Nat.add_sub_cancel_left, ← List.getD_eq_getElem?_getD]
  refine p_call (fun _ _ => rfl) rfl ?_
  show PTri E false [0] _ [.que 0 pre.length l.length, i64 c, .junk, .junk, .junk, .junk, .junk, .junk, .junk, .junk] [.vec 1 (pre ++ l).length (rowI .i64 (pre ++ l)) true] _
  refine s_run ?_
  refine s_run ?_
  refine s_run ?_
  refine s_loop (ι := Nat × Nat) (fun i => i.1 ≤ i.2 ∧ i.2 ≤ l.length ∧ (∀ k, k < i.1 → l.getD k 0 < c) ∧ ∀ k, i.2 ≤ k → k < l.length → c ≤ l.getD k 0) (fun i => i.2 - i.1) (fun i => [.que 0 pre.length l.length, i64 c, i64 0, .s (.bool false), i64 (l.length : Nat), i64 (i.1 : Nat), i64 (i.2 : Nat), .junk, .junk, .junk]) (fun _ => [.vec 1 (pre ++ l).length (rowI .i64 (pre ++ l)) true]) (0, l.length) ⟨Nat.zero_le _, Nat.le_refl _, fun k h => absurd h (Nat.not_lt_zero _), fun k h1 h2 => absurd h2 (by omega)⟩ (σ := [some 0]) (fz := []) (wk _ _ _ _ (vals := .cons (.one (.que rfl rfl rfl)) (.cons (.nlv rfl) (.cons (.nlv rfl) (.cons (.nlv rfl) (.cons (.nlv rfl) (.cons (.nlv rfl) (.cons (.nlv rfl) (.cons (.one (.junk _)) (.cons (.one (.junk _)) (.cons (.one (.junk _)) .nil))))))))))) ?_
  rintro ⟨i, j⟩ ⟨hij, hjl, hlo, hhi⟩
  dsimp only at hij hjl hlo hhi
  refine s_ass (s_run ?_)
  refine s_cond (fun h => ?_) (fun h => ?_)
  · simp only [decide_eq_true_eq] at h
    have hlt : i < j := by omega
    have hm : (i + j) / 2 < l.length := by omega
    refine s_skip (p_block ?_)
    refine s_reg (g_run 1 ?_)
    refine g_run 1 ?_
    refine prg_head (v' := u64 ((i + j : Nat) : Int)) (congrArg u64 (by show (((i : Nat) : Int) + ((j : Nat) : Int)) % 18446744073709551616 = _; omega)) ?_
    refine g_run 1 ?_
    refine prg_head (v' := u64 (((i + j) / 2 : Nat) : Int)) (congrArg u64 (by show Int.fdiv ((i + j : Nat) : Int) 2 = _; rw [Int.fdiv_eq_ediv_of_nonneg _ (by decide)]; omega)) ?_
    refine g_end ?_
    refine s_reg (g_run 2 ?_ (hq := by simp only [and_true, true_and, hll]; omega))
    rw [hatD _ hm]
    refine g_call (less_ok (l.getD ((i + j) / 2) 0) c) ?_
    rintro v rfl
    refine ⟨rfl, ?_⟩
    refine g_end ?_
    refine e_cond (fun h1 => ?_) (fun h1 => ?_)
    · simp only [decide_eq_true_eq] at h1
      refine e_reg (g_run 1 ?_)
      refine prg_head (v' := i64 (((i + j) / 2 + 1 : Nat) : Int)) (congrArg i64 (by omega)) ?_
      refine g_end ?_
      refine lp_next ((i + j) / 2 + 1, j) ⟨by show (i + j) / 2 + 1 ≤ j; omega, hjl, fun k hk => ?_, hhi⟩ (σ := [some 0]) (fz := []) (wk _ _ _ _ (vals := .cons (.one (.que rfl rfl rfl)) (.cons (.nlv rfl) (.cons (.nlv rfl) (.cons (.nlv rfl) (.cons (.nlv rfl) (.cons (.nlv rfl) (.cons (.nlv rfl) (.cons (.one (.junk _)) (.cons (.one (.junk _)) (.cons (.one (.junk _)) .nil)))))))))))
      dsimp only at hk
      by_cases hk' : k = (i + j) / 2
      · rw [hk']; exact h1
      · exact Int.lt_trans (hs k ((i + j) / 2) (by omega) hm) h1
    · simp only [decide_eq_false_iff_not] at h1
      refine e_run ?_
      refine lp_next (i, (i + j) / 2) ⟨by show i ≤ (i + j) / 2; omega, by show (i + j) / 2 ≤ _; omega, hlo, fun k hk hkl => ?_⟩ (σ := [some 0]) (fz := []) (wk _ _ _ _ (vals := .cons (.one (.que rfl rfl rfl)) (.cons (.nlv rfl) (.cons (.nlv rfl) (.cons (.nlv rfl) (.cons (.nlv rfl) (.cons (.nlv rfl) (.cons (.nlv rfl) (.cons (.one (.junk _)) (.cons (.one (.junk _)) (.cons (.one (.junk _)) .nil)))))))))))
      dsimp only at hk
      by_cases hk' : k = (i + j) / 2
      · rw [hk']; omega
      · have := hs ((i + j) / 2) k (by omega) hkl
        omega
  · simp only [decide_eq_false_iff_not] at h
    have hE : i = j := by omega
    subst hE
    refine s_exit ?_
    refine s_reg (g_run 1 ?_)
    refine prg_split (fun h1 => ?_) (fun h1 => ?_)
    · simp only [decide_eq_true_eq] at h1
      have hil : i < l.length := by omega
      refine g_run 6 ?_ (hq := by simp only [and_true, true_and, hll]; omega)
      rw [hatD _ hil]
      refine prg_split (fun h2 => ?_) (fun h2 => ?_)
      · refine g_end ?_
        exact p_ret (fin ⟨⟨i, true, rfl, hjl, hlo, hhi⟩, rfl⟩)
      · refine g_run 5 ?_ (hq := by simp only [and_true, true_and, hll]; omega)
        rw [hatD _ hil]
        refine g_call (nanS_ok (l.getD i 0)) ?_
        rintro v rfl
        refine ⟨rfl, ?_⟩
        refine g_end ?_
        exact p_ret (fin ⟨⟨i, false, rfl, hjl, hlo, hhi⟩, rfl⟩)
    · refine g_end ?_
      exact p_ret (fin ⟨⟨i, false, rfl, hjl, hlo, hhi⟩, rfl⟩)
end Go.Proofs.Ytollibkfagjnaaa.Shape.Kit

