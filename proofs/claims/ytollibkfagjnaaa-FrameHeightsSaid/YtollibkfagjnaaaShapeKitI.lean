/- The document's effect of an instruction. -/
import Derived.Test.YtollibkfagjnaaaShapeKitH
set_option linter.unusedVariables false
set_option linter.unusedSimpArgs false
set_option maxRecDepth 10000
namespace Go.Proofs.Ytollibkfagjnaaa.Shape.Kit
open Go.Proofs.Ytollibkfagjnaaa.AM
noncomputable def effT (m : Md) (f a : Int) : Int × Int := if thereB m f a = true then effS m f.toNat ((fnAt m f.toNat).code.getD a.toNat (0, 0)).1 ((fnAt m f.toNat).code.getD a.toNat (0, 0)).2 else (0, 0)
theorem there_of {m : Md} {f a : Int} (h : thereB m f a = true) : OkM m ∧ ∃ i j : Nat, f = i ∧ a = j ∧ i < m.fns.length ∧ j < (fnAt m i).code.length := by
  unfold thereB at h
  simp only [Bool.and_eq_true, decide_eq_true_eq] at h
  obtain ⟨h1, h2, h3, h4, h5⟩ := h
  refine ⟨@of_decide_eq_true _ (Classical.propDecidable _) h1, f.toNat, a.toNat, by omega, by omega, by omega, by omega⟩
theorem reffect_ok {m : Md} (hf : MdFits m) (f a : Int) : PFun E 23 [encM m, i64 f, i64 a] (valQ (isV (.tup [i64 (effT m f a).1, i64 (effT m f a).2]))) := by
  refine p_fun ?_
  show PTri E false [] _ [encM m, i64 f, i64 a, .junk, .junk, .junk, .junk, .junk, .junk, .junk, .junk, .junk, .junk, .junk, .junk] _ _
  refine s_run ?_
  refine s_ass (s_reg (g_run 1 ?_))
  refine g_call (there_ok hf f a) ?_
  rintro v rfl
  refine ⟨rfl, ?_⟩
  refine g_end ?_
  refine s_cond (fun h => ?_) (fun h => ?_)
  · have ht : thereB m f a = false := by simpa using h
    rw [show effT m f a = (0, 0) by simp [effT, ht]]
    refine s_ass (s_run ?_)
    exact s_ret fin_v
  have ht : thereB m f a = true := by simpa using h
  obtain ⟨hok, i, j, rfl, rfl, hi, hj⟩ := there_of ht
  clear h
  refine s_skip ?_
  obtain ⟨op, A, hx⟩ : ∃ op A, (fnAt m i).code.getD j (0, 0) = (op, A) := ⟨_, _, rfl⟩
  have hE : effT m (i : Int) (j : Int) = effS m i op A := by
    unfold effT
    rw [if_pos ht, Int.toNat_natCast, Int.toNat_natCast, hx]
  rw [hE]
  obtain ⟨hop, hA⟩ := op_ok hok hi hj hx
  have hj' : j < (m.fns.getD i default).code.length := hj
  refine s_reg (g_run 7 ?_)
  rw [show (m.fns.getD i default).code.getD j (0, 0) = (op, A) from hx]
  refine g_end ?_
  clear hE hx hj hj' ht
  refine s_run ?_
  by_cases h1 : op = 1
  · subst h1
    repeat (first | refine d_run ?_ | refine s_ass ?_ | refine s_t ?_ | refine s_f ?_ | refine s_skip ?_ | refine s_block ?_ | refine s_run ?_ | refine e_t ?_ | refine e_f ?_ | refine p_skip ?_ | refine p_block ?_ | refine e_run ?_)
    first | exact s_ret fin_v | exact p_ret fin_v
  by_cases h2 : op = 2
  · subst h2
    repeat (first | refine d_run ?_ | refine s_ass ?_ | refine s_t ?_ | refine s_f ?_ | refine s_skip ?_ | refine s_block ?_ | refine s_run ?_ | refine e_t ?_ | refine e_f ?_ | refine p_skip ?_ | refine p_block ?_ | refine e_run ?_)
    first | exact s_ret fin_v | exact p_ret fin_v
  by_cases h3 : op = 3
  · subst h3
    repeat (first | refine d_run ?_ | refine s_ass ?_ | refine s_t ?_ | refine s_f ?_ | refine s_skip ?_ | refine s_block ?_ | refine s_run ?_ | refine e_t ?_ | refine e_f ?_ | refine p_skip ?_ | refine p_block ?_ | refine e_run ?_)
    first | exact s_ret fin_v | exact p_ret fin_v
  by_cases h4 : op = 4
  · subst h4
    repeat (first | refine d_run ?_ | refine s_ass ?_ | refine s_t ?_ | refine s_f ?_ | refine s_skip ?_ | refine s_block ?_ | refine s_run ?_ | refine e_t ?_ | refine e_f ?_ | refine p_skip ?_ | refine p_block ?_ | refine e_run ?_)
    first | exact s_ret fin_v | exact p_ret fin_v
  by_cases h5 : op = 5
  · subst h5
    repeat (first | refine d_run ?_ | refine s_ass ?_ | refine s_t ?_ | refine s_f ?_ | refine s_skip ?_ | refine s_block ?_ | refine s_run ?_ | refine e_t ?_ | refine e_f ?_ | refine p_skip ?_ | refine p_block ?_ | refine e_run ?_)
    first | exact s_ret fin_v | exact p_ret fin_v
  by_cases h6 : op = 6
  · subst h6
    repeat (first | refine d_run ?_ | refine s_ass ?_ | refine s_t ?_ | refine s_f ?_ | refine s_skip ?_ | refine s_block ?_ | refine s_run ?_ | refine e_t ?_ | refine e_f ?_ | refine p_skip ?_ | refine p_block ?_ | refine e_run ?_)
    first | exact s_ret fin_v | exact p_ret fin_v
  by_cases h7 : op = 7
  · subst h7
    repeat (first | refine d_run ?_ | refine s_ass ?_ | refine s_t ?_ | refine s_f ?_ | refine s_skip ?_ | refine s_block ?_ | refine s_run ?_ | refine e_t ?_ | refine e_f ?_ | refine p_skip ?_ | refine p_block ?_ | refine e_run ?_)
    first | exact s_ret fin_v | exact p_ret fin_v
  by_cases h8 : op = 8
  · subst h8
    repeat (first | refine d_run ?_ | refine s_ass ?_ | refine s_t ?_ | refine s_f ?_ | refine s_skip ?_ | refine s_block ?_ | refine s_run ?_ | refine e_t ?_ | refine e_f ?_ | refine p_skip ?_ | refine p_block ?_ | refine e_run ?_)
    first | exact s_ret fin_v | exact p_ret fin_v
  by_cases h9 : op = 9
  · subst h9
    repeat (first | refine d_run ?_ | refine s_ass ?_ | refine s_t ?_ | refine s_f ?_ | refine s_skip ?_ | refine s_block ?_ | refine s_run ?_ | refine e_t ?_ | refine e_f ?_ | refine p_skip ?_ | refine p_block ?_ | refine e_run ?_)
    first | exact s_ret fin_v | exact p_ret fin_v
  by_cases h10 : op = 10
  · subst h10
    repeat (first | refine d_run ?_ | refine s_ass ?_ | refine s_t ?_ | refine s_f ?_ | refine s_skip ?_ | refine s_block ?_ | refine s_run ?_ | refine e_t ?_ | refine e_f ?_ | refine p_skip ?_ | refine p_block ?_ | refine e_run ?_)
    first | exact s_ret fin_v | exact p_ret fin_v
  by_cases h11 : op = 11
  · subst h11
    repeat (first | refine d_run ?_ | refine s_ass ?_ | refine s_t ?_ | refine s_f ?_ | refine s_skip ?_ | refine s_block ?_ | refine s_run ?_ | refine e_t ?_ | refine e_f ?_ | refine p_skip ?_ | refine p_block ?_ | refine e_run ?_)
    first | exact s_ret fin_v | exact p_ret fin_v
  by_cases h12 : op = 12
  · subst h12
    repeat (first | refine d_run ?_ | refine s_ass ?_ | refine s_t ?_ | refine s_f ?_ | refine s_skip ?_ | refine s_block ?_ | refine s_run ?_ | refine e_t ?_ | refine e_f ?_ | refine p_skip ?_ | refine p_block ?_ | refine e_run ?_)
    first | exact s_ret fin_v | exact p_ret fin_v
  by_cases h13 : op = 13
  · subst h13
    repeat (first | refine d_run ?_ | refine s_ass ?_ | refine s_t ?_ | refine s_f ?_ | refine s_skip ?_ | refine s_block ?_ | refine s_run ?_ | refine e_t ?_ | refine e_f ?_ | refine p_skip ?_ | refine p_block ?_ | refine e_run ?_)
    first | exact s_ret fin_v | exact p_ret fin_v
  by_cases h14 : op = 14
  · subst h14
    repeat (first | refine d_run ?_ | refine s_ass ?_ | refine s_t ?_ | refine s_f ?_ | refine s_skip ?_ | refine s_block ?_ | refine s_run ?_ | refine e_t ?_ | refine e_f ?_ | refine p_skip ?_ | refine p_block ?_ | refine e_run ?_)
    first | exact s_ret fin_v | exact p_ret fin_v
  by_cases h15 : op = 15
  · subst h15
    repeat (first | refine d_run ?_ | refine s_ass ?_ | refine s_t ?_ | refine s_f ?_ | refine s_skip ?_ | refine s_block ?_ | refine s_run ?_ | refine e_t ?_ | refine e_f ?_ | refine p_skip ?_ | refine p_block ?_ | refine e_run ?_)
    first | exact s_ret fin_v | exact p_ret fin_v
  by_cases h16 : op = 16
  · subst h16
    repeat (first | refine d_run ?_ | refine s_ass ?_ | refine s_t ?_ | refine s_f ?_ | refine s_skip ?_ | refine s_block ?_ | refine s_run ?_ | refine e_t ?_ | refine e_f ?_ | refine p_skip ?_ | refine p_block ?_ | refine e_run ?_)
    first | exact s_ret fin_v | exact p_ret fin_v
  by_cases h17 : op = 17
  · subst h17
    repeat (first | refine d_run ?_ | refine s_ass ?_ | refine s_t ?_ | refine s_f ?_ | refine s_skip ?_ | refine s_block ?_ | refine s_run ?_ | refine e_t ?_ | refine e_f ?_ | refine p_skip ?_ | refine p_block ?_ | refine e_run ?_)
    first | exact s_ret fin_v | exact p_ret fin_v
  by_cases h32 : op = 32
  · subst h32
    repeat (first | refine d_run ?_ | refine s_ass ?_ | refine s_t ?_ | refine s_f ?_ | refine s_skip ?_ | refine s_block ?_ | refine s_run ?_ | refine e_t ?_ | refine e_f ?_ | refine p_skip ?_ | refine p_block ?_ | refine e_run ?_)
    first | exact s_ret fin_v | exact p_ret fin_v
  by_cases h33 : op = 33
  · subst h33
    repeat (first | refine d_run ?_ | refine s_ass ?_ | refine s_t ?_ | refine s_f ?_ | refine s_skip ?_ | refine s_block ?_ | refine s_run ?_ | refine e_t ?_ | refine e_f ?_ | refine p_skip ?_ | refine p_block ?_ | refine e_run ?_)
    first | exact s_ret fin_v | exact p_ret fin_v
  by_cases h34 : op = 34
  · subst h34
    repeat (first | refine d_run ?_ | refine s_ass ?_ | refine s_t ?_ | refine s_f ?_ | refine s_skip ?_ | refine s_block ?_ | refine s_run ?_ | refine e_t ?_ | refine e_f ?_ | refine p_skip ?_ | refine p_block ?_ | refine e_run ?_)
    first | exact s_ret fin_v | exact p_ret fin_v
  by_cases h35 : op = 35
  · subst h35
    repeat (first | refine d_run ?_ | refine s_ass ?_ | refine s_t ?_ | refine s_f ?_ | refine s_skip ?_ | refine s_block ?_ | refine s_run ?_ | refine e_t ?_ | refine e_f ?_ | refine p_skip ?_ | refine p_block ?_ | refine e_run ?_)
    first | exact s_ret fin_v | exact p_ret fin_v
  by_cases h36 : op = 36
  · subst h36
    repeat (first | refine d_run ?_ | refine s_ass ?_ | refine s_t ?_ | refine s_f ?_ | refine s_skip ?_ | refine s_block ?_ | refine s_run ?_ | refine e_t ?_ | refine e_f ?_ | refine p_skip ?_ | refine p_block ?_ | refine e_run ?_)
    first | exact s_ret fin_v | exact p_ret fin_v
  by_cases h37 : op = 37
  · subst h37
    repeat (first | refine d_run ?_ | refine s_ass ?_ | refine s_t ?_ | refine s_f ?_ | refine s_skip ?_ | refine s_block ?_ | refine s_run ?_ | refine e_t ?_ | refine e_f ?_ | refine p_skip ?_ | refine p_block ?_ | refine e_run ?_)
    first | exact s_ret fin_v | exact p_ret fin_v
  by_cases h38 : op = 38
  · subst h38
    repeat (first | refine d_run ?_ | refine s_ass ?_ | refine s_t ?_ | refine s_f ?_ | refine s_skip ?_ | refine s_block ?_ | refine s_run ?_ | refine e_t ?_ | refine e_f ?_ | refine p_skip ?_ | refine p_block ?_ | refine e_run ?_)
    first | exact s_ret fin_v | exact p_ret fin_v
  by_cases h39 : op = 39
  · subst h39
    repeat (first | refine d_run ?_ | refine s_ass ?_ | refine s_t ?_ | refine s_f ?_ | refine s_skip ?_ | refine s_block ?_ | refine s_run ?_ | refine e_t ?_ | refine e_f ?_ | refine p_skip ?_ | refine p_block ?_ | refine e_run ?_)
    first | exact s_ret fin_v | exact p_ret fin_v
  by_cases h40 : op = 40
  · subst h40
    repeat (first | refine d_run ?_ | refine s_ass ?_ | refine s_t ?_ | refine s_f ?_ | refine s_skip ?_ | refine s_block ?_ | refine s_run ?_ | refine e_t ?_ | refine e_f ?_ | refine p_skip ?_ | refine p_block ?_ | refine e_run ?_)
    first | exact s_ret fin_v | exact p_ret fin_v
  by_cases h41 : op = 41
  · subst h41
    repeat (first | refine d_run ?_ | refine s_ass ?_ | refine s_t ?_ | refine s_f ?_ | refine s_skip ?_ | refine s_block ?_ | refine s_run ?_ | refine e_t ?_ | refine e_f ?_ | refine p_skip ?_ | refine p_block ?_ | refine e_run ?_)
    first | exact s_ret fin_v | exact p_ret fin_v
  by_cases h42 : op = 42
  · subst h42
    repeat (first | refine d_run ?_ | refine s_ass ?_ | refine s_t ?_ | refine s_f ?_ | refine s_skip ?_ | refine s_block ?_ | refine s_run ?_ | refine e_t ?_ | refine e_f ?_ | refine p_skip ?_ | refine p_block ?_ | refine e_run ?_)
    first | exact s_ret fin_v | exact p_ret fin_v
  by_cases h43 : op = 43
  · subst h43
    repeat (first | refine d_run ?_ | refine s_ass ?_ | refine s_t ?_ | refine s_f ?_ | refine s_skip ?_ | refine s_block ?_ | refine s_run ?_ | refine e_t ?_ | refine e_f ?_ | refine p_skip ?_ | refine p_block ?_ | refine e_run ?_)
    first | exact s_ret fin_v | exact p_ret fin_v
  by_cases h44 : op = 44
  · subst h44
    repeat (first | refine d_run ?_ | refine s_ass ?_ | refine s_t ?_ | refine s_f ?_ | refine s_skip ?_ | refine s_block ?_ | refine s_run ?_ | refine e_t ?_ | refine e_f ?_ | refine p_skip ?_ | refine p_block ?_ | refine e_run ?_)
    first | exact s_ret fin_v | exact p_ret fin_v
  by_cases h46 : op = 46
  · subst h46
    repeat (first | refine d_run ?_ | refine s_ass ?_ | refine s_t ?_ | refine s_f ?_ | refine s_skip ?_ | refine s_block ?_ | refine s_run ?_ | refine e_t ?_ | refine e_f ?_ | refine p_skip ?_ | refine p_block ?_ | refine e_run ?_)
    first | exact s_ret fin_v | exact p_ret fin_v
  by_cases h47 : op = 47
  · subst h47
    repeat (first | refine d_run ?_ | refine s_ass ?_ | refine s_t ?_ | refine s_f ?_ | refine s_skip ?_ | refine s_block ?_ | refine s_run ?_ | refine e_t ?_ | refine e_f ?_ | refine p_skip ?_ | refine p_block ?_ | refine e_run ?_)
    first | exact s_ret fin_v | exact p_ret fin_v
  have h45 : op = 45 := by omega
  subst h45
  obtain ⟨g, rfl⟩ : ∃ g : Nat, A = g := ⟨A.toNat, by have := hA rfl; omega⟩
  have hg : g < m.fns.length := by have := hA rfl; omega
  repeat (first | refine d_run ?_ | refine s_ass ?_ | refine s_t ?_ | refine s_f ?_ | refine s_skip ?_ | refine s_block ?_ | refine s_run ?_ | refine e_t ?_ | refine e_f ?_ | refine p_skip ?_ | refine p_block ?_ | refine e_run ?_)
  first | exact s_ret fin_v | exact p_ret fin_v
end Go.Proofs.Ytollibkfagjnaaa.Shape.Kit
