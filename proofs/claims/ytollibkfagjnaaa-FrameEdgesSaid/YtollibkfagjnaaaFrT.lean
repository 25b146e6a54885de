/- Repeat, BinarySearch and what they call. -/
import Derived.Test.YtollibkfagjnaaaFrS
import Derived.Test.YtollibkfagjnaaaShapeKitJ
set_option linter.unusedVariables false
set_option linter.unusedSimpArgs false
set_option maxRecDepth 10000
namespace Go.Proofs.Ytollibkfagjnaaa.Shape.Kit
open Go.Proofs.Ytollibkfagjnaaa.AM
theorem mask_u {n : Nat} (hn : n < 4294967296) : abits .and .u64 ((n : Nat) : Int) 4294967295 = ((n : Nat) : Int) := by
  have h1 : (BitVec.ofInt 64 ((n : Nat) : Int) &&& BitVec.ofInt 64 4294967295).toNat = n := by
    have e1 : BitVec.ofInt 64 ((n : Nat) : Int) = BitVec.ofNat 64 n := rfl
    have e2 : BitVec.ofInt 64 4294967295 = BitVec.ofNat 64 (2 ^ 32 - 1) := rfl
    rw [e1, e2, BitVec.toNat_and, BitVec.toNat_ofNat, BitVec.toNat_ofNat, Nat.mod_eq_of_lt (by omega), Nat.mod_eq_of_lt (by decide), Nat.and_two_pow_sub_one_eq_mod, Nat.mod_eq_of_lt (by omega)]
  show aw .u64 ((BitVec.ofInt 64 ((n : Nat) : Int) &&& BitVec.ofInt 64 4294967295).toNat : Int) = _
  rw [h1]
  show ((n : Nat) : Int) % 18446744073709551616 = _
  omega
theorem shr_u {n : Nat} (hn : n < 4294967296) : ((n : Nat) : Int).fdiv (2 ^ (min (32 : Int).toNat 64)) = 0 := by
  show ((n : Nat) : Int).fdiv 4294967296 = 0
  rw [Int.fdiv_eq_ediv_of_nonneg _ (by decide)]
  omega
theorem mul64_ok {n : Nat} (hn : n < 4294967296) : PFun E 113 [u64 1, u64 (n : Nat)] (valQ (isV (.tup [u64 0, u64 (n : Nat)]))) := by
  have hw : ((n : Nat) : Int) % 18446744073709551616 = ((n : Nat) : Int) := by omega
  refine p_fun ?_
  show PTri E false [] _ [u64 1, u64 (n : Nat), .junk, .junk, .junk, .junk, .junk, .junk, .junk, .junk, .junk, .junk] _ _
  refine s_run ?_
  refine s_reg (g_run 1 ?_)
  refine prg_head (v' := u64 1) rfl ?_
  refine g_end ?_
  refine s_reg (g_run 1 ?_)
  refine prg_head (v' := u64 0) rfl ?_
  refine g_end ?_
  refine s_reg (g_run 1 ?_)
  refine prg_head (v' := u64 (n : Nat)) (congrArg u64 (mask_u hn)) ?_
  refine g_end ?_
  refine s_reg (g_run 1 ?_)
  refine prg_head (v' := u64 0) (congrArg u64 (shr_u hn)) ?_
  refine g_end ?_
  refine s_reg (g_run 1 ?_)
  refine prg_head (v' := u64 (n : Nat)) (congrArg u64 (by show (1 * ((n : Nat) : Int)) % 18446744073709551616 = _; omega)) ?_
  refine g_end ?_
  refine s_reg (g_run 1 ?_)
  refine prg_head (v' := u64 0) (congrArg u64 (by show (0 * ((n : Nat) : Int)) % 18446744073709551616 = _; omega)) ?_
  refine g_run 1 ?_
  refine prg_head (v' := u64 0) (congrArg u64 (shr_u hn)) ?_
  refine g_run 1 ?_
  refine prg_head (v' := u64 0) rfl ?_
  refine g_end ?_
  refine s_reg (g_run 1 ?_)
  refine prg_head (v' := u64 0) rfl ?_
  refine g_end ?_
  refine s_reg (g_run 1 ?_)
  refine prg_head (v' := u64 0) rfl ?_
  refine g_end ?_
  refine s_reg (g_run 1 ?_)
  refine prg_head (v' := u64 0) rfl ?_
  refine g_run 1 ?_
  refine prg_head (v' := u64 0) rfl ?_
  refine g_end ?_
  refine s_reg (g_run 1 ?_)
  refine prg_head (v' := u64 0) rfl ?_
  refine g_run 1 ?_
  refine prg_head (v' := u64 0) rfl ?_
  refine g_run 1 ?_
  refine prg_head (v' := u64 0) rfl ?_
  refine g_run 1 ?_
  refine prg_head (v' := u64 0) rfl ?_
  refine g_end ?_
  refine s_reg (g_run 1 ?_)
  refine prg_head (v' := u64 (n : Nat)) (congrArg u64 (by show (1 * ((n : Nat) : Int)) % 18446744073709551616 = _; omega)) ?_
  refine g_end ?_
  exact p_ret fin_v
theorem mul_ok {n : Nat} (hn : n < 4294967296) : PFun E 96 [u64 1, u64 (n : Nat)] (valQ (isV (.tup [u64 0, u64 (n : Nat)]))) := by
  refine p_fun ?_
  show PTri E false [] _ [u64 1, u64 (n : Nat), .junk, .junk, .junk, .junk, .junk, .junk] _ _
  refine s_run ?_
  refine s_f (s_skip ?_)
  refine s_reg (g_call (mul64_ok hn) ?_)
  rintro v rfl
  refine ⟨rfl, ?_⟩
  refine g_end ?_
  refine s_run ?_
  exact p_ret fin_v
theorem nan_ok (a : Int) : PFun E 114 [i64 a] (valQ (isV (.s (.bool false)))) := by
  refine p_fun ?_
  show PTri E false [] _ [i64 a, .junk] _ _
  refine s_run ?_
  refine s_reg (g_run 1 ?_)
  refine prg_head (v' := .s (.bool false)) (by simp) ?_
  refine g_end ?_
  exact p_ret fin_v
theorem nanS_ok (a : Int) : PFun E 98 [i64 a] (valQ (isV (.s (.bool false)))) := by
  refine p_fun ?_
  show PTri E false [] _ [i64 a, .junk] _ _
  refine s_run ?_
  refine s_reg (g_run 1 ?_)
  refine prg_head (v' := .s (.bool false)) (by simp) ?_
  refine g_end ?_
  exact p_ret fin_v
theorem less_ok (a b : Int) : PFun E 97 [i64 a, i64 b] (valQ (isV (.s (.bool (decide (a < b)))))) := by
  refine p_fun ?_
  show PTri E false [] _ [i64 a, i64 b, .junk] _ _
  refine s_run ?_
  refine s_reg (g_call (nan_ok a) ?_)
  rintro v rfl
  refine ⟨rfl, ?_⟩
  refine g_end ?_
  exact p_ret fin_v
end Go.Proofs.Ytollibkfagjnaaa.Shape.Kit
