/- How many labels an instruction takes and gives. -/
import Derived.Test.YtollibkfagjnaaaShapeKitF
set_option linter.unusedVariables false
set_option linter.unusedSimpArgs false
set_option maxRecDepth 10000
namespace Go.Proofs.Ytollibkfagjnaaa.Shape.Kit
open Go.Proofs.Ytollibkfagjnaaa.AM
def effS (m : Md) (f : Nat) (op A : Int) : Int × Int :=
  if op = 32 ∨ op = 33 ∨ op = 35 then (0, 1) else
  if op = 34 ∨ op = 36 ∨ op = 41 ∨ op = 44 ∨ op = 47 then (1, 0) else
  if op = 37 then (1, 1) else if op = 38 then (2, 0) else if op = 39 then (1, 2) else if op = 40 then (2, 2) else
  if op = 42 ∨ op = 43 then (0, 0) else
  if op = 45 then (((fnAt m A.toNat).ps.length : Nat), ((fnAt m A.toNat).rs.length : Nat)) else
  if op = 46 then (((fnAt m f).rs.length : Nat), 0) else
  if op = 15 ∨ op = 16 ∨ op = 17 then (1, 1) else (2, 1)
theorem effect_ok {m : Md} (hf : MdFits m) {f : Nat} (hfn : f < m.fns.length) (op A : Int) (hA : op = 45 → 0 ≤ A ∧ A < m.fns.length) : PFun E 54 [lentM m, i64 (f : Nat), .agg [i64 op, i64 A]] (valQ (isV (.tup [i64 (effS m f op A).1, i64 (effS m f op A).2]))) := by
  refine p_fun ?_
  show PTri E false [] _ [lentM m, i64 (f : Nat), .agg [i64 op, i64 A], .junk, .junk, .junk, .junk, .junk, .junk, .junk, .junk, .junk, .junk, .junk, .junk, .junk, .junk, .junk] _ _
  refine s_run ?_
  refine s_ass (s_run ?_)
  by_cases h15 : op = 15
  · subst h15
    repeat (first | refine s_ass ?_ | refine s_t ?_ | refine s_f ?_ | refine s_skip ?_ | refine s_block ?_ | refine s_run ?_ | refine e_t ?_ | refine e_f ?_ | refine p_skip ?_ | refine p_block ?_ | refine e_run ?_ | (refine s_cond (fun h => ?_) (fun _ => ?_); (focus (exfalso; simp only [beq_iff_eq] at h; contradiction))) | (refine e_cond (fun h => ?_) (fun _ => ?_); (focus (exfalso; simp only [beq_iff_eq] at h; contradiction))))
    exact p_ret fin_v
  by_cases h16 : op = 16
  · subst h16
    repeat (first | refine s_ass ?_ | refine s_t ?_ | refine s_f ?_ | refine s_skip ?_ | refine s_block ?_ | refine s_run ?_ | refine e_t ?_ | refine e_f ?_ | refine p_skip ?_ | refine p_block ?_ | refine e_run ?_ | (refine s_cond (fun h => ?_) (fun _ => ?_); (focus (exfalso; simp only [beq_iff_eq] at h; contradiction))) | (refine e_cond (fun h => ?_) (fun _ => ?_); (focus (exfalso; simp only [beq_iff_eq] at h; contradiction))))
    exact p_ret fin_v
  by_cases h17 : op = 17
  · subst h17
    repeat (first | refine s_ass ?_ | refine s_t ?_ | refine s_f ?_ | refine s_skip ?_ | refine s_block ?_ | refine s_run ?_ | refine e_t ?_ | refine e_f ?_ | refine p_skip ?_ | refine p_block ?_ | refine e_run ?_ | (refine s_cond (fun h => ?_) (fun _ => ?_); (focus (exfalso; simp only [beq_iff_eq] at h; contradiction))) | (refine e_cond (fun h => ?_) (fun _ => ?_); (focus (exfalso; simp only [beq_iff_eq] at h; contradiction))))
    exact p_ret fin_v
  by_cases h32 : op = 32
  · subst h32
    repeat (first | refine s_ass ?_ | refine s_t ?_ | refine s_f ?_ | refine s_skip ?_ | refine s_block ?_ | refine s_run ?_ | refine e_t ?_ | refine e_f ?_ | refine p_skip ?_ | refine p_block ?_ | refine e_run ?_ | (refine s_cond (fun h => ?_) (fun _ => ?_); (focus (exfalso; simp only [beq_iff_eq] at h; contradiction))) | (refine e_cond (fun h => ?_) (fun _ => ?_); (focus (exfalso; simp only [beq_iff_eq] at h; contradiction))))
    exact p_ret fin_v
  by_cases h33 : op = 33
  · subst h33
    repeat (first | refine s_ass ?_ | refine s_t ?_ | refine s_f ?_ | refine s_skip ?_ | refine s_block ?_ | refine s_run ?_ | refine e_t ?_ | refine e_f ?_ | refine p_skip ?_ | refine p_block ?_ | refine e_run ?_ | (refine s_cond (fun h => ?_) (fun _ => ?_); (focus (exfalso; simp only [beq_iff_eq] at h; contradiction))) | (refine e_cond (fun h => ?_) (fun _ => ?_); (focus (exfalso; simp only [beq_iff_eq] at h; contradiction))))
    exact p_ret fin_v
  by_cases h34 : op = 34
  · subst h34
    repeat (first | refine s_ass ?_ | refine s_t ?_ | refine s_f ?_ | refine s_skip ?_ | refine s_block ?_ | refine s_run ?_ | refine e_t ?_ | refine e_f ?_ | refine p_skip ?_ | refine p_block ?_ | refine e_run ?_ | (refine s_cond (fun h => ?_) (fun _ => ?_); (focus (exfalso; simp only [beq_iff_eq] at h; contradiction))) | (refine e_cond (fun h => ?_) (fun _ => ?_); (focus (exfalso; simp only [beq_iff_eq] at h; contradiction))))
    exact p_ret fin_v
  by_cases h35 : op = 35
  · subst h35
    repeat (first | refine s_ass ?_ | refine s_t ?_ | refine s_f ?_ | refine s_skip ?_ | refine s_block ?_ | refine s_run ?_ | refine e_t ?_ | refine e_f ?_ | refine p_skip ?_ | refine p_block ?_ | refine e_run ?_ | (refine s_cond (fun h => ?_) (fun _ => ?_); (focus (exfalso; simp only [beq_iff_eq] at h; contradiction))) | (refine e_cond (fun h => ?_) (fun _ => ?_); (focus (exfalso; simp only [beq_iff_eq] at h; contradiction))))
    exact p_ret fin_v
  by_cases h36 : op = 36
  · subst h36
    repeat (first | refine s_ass ?_ | refine s_t ?_ | refine s_f ?_ | refine s_skip ?_ | refine s_block ?_ | refine s_run ?_ | refine e_t ?_ | refine e_f ?_ | refine p_skip ?_ | refine p_block ?_ | refine e_run ?_ | (refine s_cond (fun h => ?_) (fun _ => ?_); (focus (exfalso; simp only [beq_iff_eq] at h; contradiction))) | (refine e_cond (fun h => ?_) (fun _ => ?_); (focus (exfalso; simp only [beq_iff_eq] at h; contradiction))))
    exact p_ret fin_v
  by_cases h37 : op = 37
  · subst h37
    repeat (first | refine s_ass ?_ | refine s_t ?_ | refine s_f ?_ | refine s_skip ?_ | refine s_block ?_ | refine s_run ?_ | refine e_t ?_ | refine e_f ?_ | refine p_skip ?_ | refine p_block ?_ | refine e_run ?_ | (refine s_cond (fun h => ?_) (fun _ => ?_); (focus (exfalso; simp only [beq_iff_eq] at h; contradiction))) | (refine e_cond (fun h => ?_) (fun _ => ?_); (focus (exfalso; simp only [beq_iff_eq] at h; contradiction))))
    exact p_ret fin_v
  by_cases h38 : op = 38
  · subst h38
    repeat (first | refine s_ass ?_ | refine s_t ?_ | refine s_f ?_ | refine s_skip ?_ | refine s_block ?_ | refine s_run ?_ | refine e_t ?_ | refine e_f ?_ | refine p_skip ?_ | refine p_block ?_ | refine e_run ?_ | (refine s_cond (fun h => ?_) (fun _ => ?_); (focus (exfalso; simp only [beq_iff_eq] at h; contradiction))) | (refine e_cond (fun h => ?_) (fun _ => ?_); (focus (exfalso; simp only [beq_iff_eq] at h; contradiction))))
    exact p_ret fin_v
  by_cases h39 : op = 39
  · subst h39
    repeat (first | refine s_ass ?_ | refine s_t ?_ | refine s_f ?_ | refine s_skip ?_ | refine s_block ?_ | refine s_run ?_ | refine e_t ?_ | refine e_f ?_ | refine p_skip ?_ | refine p_block ?_ | refine e_run ?_ | (refine s_cond (fun h => ?_) (fun _ => ?_); (focus (exfalso; simp only [beq_iff_eq] at h; contradiction))) | (refine e_cond (fun h => ?_) (fun _ => ?_); (focus (exfalso; simp only [beq_iff_eq] at h; contradiction))))
    exact p_ret fin_v
  by_cases h40 : op = 40
  · subst h40
    repeat (first | refine s_ass ?_ | refine s_t ?_ | refine s_f ?_ | refine s_skip ?_ | refine s_block ?_ | refine s_run ?_ | refine e_t ?_ | refine e_f ?_ | refine p_skip ?_ | refine p_block ?_ | refine e_run ?_ | (refine s_cond (fun h => ?_) (fun _ => ?_); (focus (exfalso; simp only [beq_iff_eq] at h; contradiction))) | (refine e_cond (fun h => ?_) (fun _ => ?_); (focus (exfalso; simp only [beq_iff_eq] at h; contradiction))))
    exact p_ret fin_v
  by_cases h41 : op = 41
  · subst h41
    repeat (first | refine s_ass ?_ | refine s_t ?_ | refine s_f ?_ | refine s_skip ?_ | refine s_block ?_ | refine s_run ?_ | refine e_t ?_ | refine e_f ?_ | refine p_skip ?_ | refine p_block ?_ | refine e_run ?_ | (refine s_cond (fun h => ?_) (fun _ => ?_); (focus (exfalso; simp only [beq_iff_eq] at h; contradiction))) | (refine e_cond (fun h => ?_) (fun _ => ?_); (focus (exfalso; simp only [beq_iff_eq] at h; contradiction))))
    exact p_ret fin_v
  by_cases h42 : op = 42
  · subst h42
    repeat (first | refine s_ass ?_ | refine s_t ?_ | refine s_f ?_ | refine s_skip ?_ | refine s_block ?_ | refine s_run ?_ | refine e_t ?_ | refine e_f ?_ | refine p_skip ?_ | refine p_block ?_ | refine e_run ?_ | (refine s_cond (fun h => ?_) (fun _ => ?_); (focus (exfalso; simp only [beq_iff_eq] at h; contradiction))) | (refine e_cond (fun h => ?_) (fun _ => ?_); (focus (exfalso; simp only [beq_iff_eq] at h; contradiction))))
    exact p_ret fin_v
  by_cases h43 : op = 43
  · subst h43
    repeat (first | refine s_ass ?_ | refine s_t ?_ | refine s_f ?_ | refine s_skip ?_ | refine s_block ?_ | refine s_run ?_ | refine e_t ?_ | refine e_f ?_ | refine p_skip ?_ | refine p_block ?_ | refine e_run ?_ | (refine s_cond (fun h => ?_) (fun _ => ?_); (focus (exfalso; simp only [beq_iff_eq] at h; contradiction))) | (refine e_cond (fun h => ?_) (fun _ => ?_); (focus (exfalso; simp only [beq_iff_eq] at h; contradiction))))
    exact p_ret fin_v
  by_cases h44 : op = 44
  · subst h44
    repeat (first | refine s_ass ?_ | refine s_t ?_ | refine s_f ?_ | refine s_skip ?_ | refine s_block ?_ | refine s_run ?_ | refine e_t ?_ | refine e_f ?_ | refine p_skip ?_ | refine p_block ?_ | refine e_run ?_ | (refine s_cond (fun h => ?_) (fun _ => ?_); (focus (exfalso; simp only [beq_iff_eq] at h; contradiction))) | (refine e_cond (fun h => ?_) (fun _ => ?_); (focus (exfalso; simp only [beq_iff_eq] at h; contradiction))))
    exact p_ret fin_v
  by_cases h47 : op = 47
  · subst h47
    repeat (first | refine s_ass ?_ | refine s_t ?_ | refine s_f ?_ | refine s_skip ?_ | refine s_block ?_ | refine s_run ?_ | refine e_t ?_ | refine e_f ?_ | refine p_skip ?_ | refine p_block ?_ | refine e_run ?_ | (refine s_cond (fun h => ?_) (fun _ => ?_); (focus (exfalso; simp only [beq_iff_eq] at h; contradiction))) | (refine e_cond (fun h => ?_) (fun _ => ?_); (focus (exfalso; simp only [beq_iff_eq] at h; contradiction))))
    exact p_ret fin_v
  by_cases h46 : op = 46
  · subst h46
    repeat (first | refine s_ass ?_ | refine s_t ?_ | refine s_f ?_ | refine s_skip ?_ | refine s_block ?_ | refine s_run ?_ | refine e_t ?_ | refine e_f ?_ | refine p_skip ?_ | refine p_block ?_ | refine e_run ?_ | (refine s_cond (fun h => ?_) (fun _ => ?_); (focus (exfalso; simp only [beq_iff_eq] at h; contradiction))) | (refine e_cond (fun h => ?_) (fun _ => ?_); (focus (exfalso; simp only [beq_iff_eq] at h; contradiction))))
    refine s_reg (g_run 3 ?_)
    refine prg_cast (fptr_one (if_pos hfn)) ?_
    refine g_end ?_
    exact p_ret fin_v
  by_cases h45 : op = 45
  · subst h45
    obtain ⟨g, rfl⟩ : ∃ g : Nat, A = g := ⟨A.toNat, by have := hA rfl; omega⟩
    have hg : g < m.fns.length := by have := hA rfl; omega
    repeat (first | refine s_ass ?_ | refine s_t ?_ | refine s_f ?_ | refine s_skip ?_ | refine s_block ?_ | refine s_run ?_ | refine e_t ?_ | refine e_f ?_ | refine p_skip ?_ | refine p_block ?_ | refine e_run ?_ | (refine s_cond (fun h => ?_) (fun _ => ?_); (focus (exfalso; simp only [beq_iff_eq] at h; contradiction))) | (refine e_cond (fun h => ?_) (fun _ => ?_); (focus (exfalso; simp only [beq_iff_eq] at h; contradiction))))
    refine s_drw (g_run 5 ?_)
    refine prg_cast (fptr_one (if_pos hg)) ?_
    refine g_run 8 ?_
    refine prg_cast (fptr_one (if_pos hg)) ?_
    refine g_end ?_
    exact p_ret fin_v
  rw [show effS m f op A = (2, 1) by simp [effS, *]]
  repeat (first | refine s_ass ?_ | refine s_t ?_ | refine s_f ?_ | refine s_skip ?_ | refine s_block ?_ | refine s_run ?_ | refine e_t ?_ | refine e_f ?_ | refine p_skip ?_ | refine p_block ?_ | refine e_run ?_ | (refine s_cond (fun h => ?_) (fun _ => ?_); (focus (exfalso; simp only [beq_iff_eq] at h; contradiction))) | (refine e_cond (fun h => ?_) (fun _ => ?_); (focus (exfalso; simp only [beq_iff_eq] at h; contradiction))))
  exact p_ret fin_v
end Go.Proofs.Ytollibkfagjnaaa.Shape.Kit
