/- Functions of graphs: what follows on an address. -/
import Derived.Test.YtollibkfagjnaaaFrGrB
set_option linter.unusedVariables false
set_option linter.unusedSimpArgs false
set_option maxRecDepth 10000
namespace Go.Proofs.Ytollibkfagjnaaa.Shape.Gr
open Go.Proofs.Ytollibkfagjnaaa.AM
theorem clone_ok (n k : Nat) (row : Nat → List PV) (hn : n < 100000000) : PFun E 72 [.frz 1 n k row] (valQ (isV (.frz 1 n n row))) := by
  refine p_fun ?_
  show PTri E false [] _ [.frz 1 n k row, .junk, .junk] _ _
  refine s_run ?_
  refine s_ass (s_reg ?_)
  refine prg_isnil rfl rfl fun t ht => ?_
  refine g_end ?_
  refine s_cond (fun h => ?_) (fun h => ?_)
  · have h0 : n = 0 := by cases t <;> simp_all
    subst h0
    refine s_ass (s_run ?_)
    refine s_ret ?_
    refine fin_z [] rfl ?_
    rintro v rfl
    exact .one .nilf
  · refine s_skip (s_run ?_ (hq := by simp only [room, true_and, and_true]; omega))
    refine p_ret ?_
    refine fin_z [1] rfl ?_
    rintro v rfl
    exact .one (.vecf (by decide) rfl (Nat.zero_add n) (Nat.le_refl _) (Nat.le_of_eq (Nat.zero_add n).symm) fun i hi => rfl)
theorem clip_ok (n k : Nat) (row : Nat → List PV) (hk : n ≤ k) : PFun E 71 [.frz 1 n k row] (valQ (isV (.frz 1 n n row))) := by
  refine p_fun ?_
  show PTri E false [] _ [.frz 1 n k row, .junk] _ _
  refine s_run ?_
  refine s_run ?_
  exact p_ret fin_v
theorem two_rows {x y : Int} {c : Nat} {l : List Int} (h : [x, y].take c = l) (hc : c = l.length) : ∀ i, i < l.length → (([i64 x, i64 y].drop (i * 1)).take 1) = rowI .i64 l i := by
  intro i hi
  subst h
  have h2 : ([x, y].take c).length ≤ 2 := by rw [List.length_take]; exact Nat.min_le_right _ _
  have hi2 : i = 0 ∨ i = 1 := by omega
  have hcc : i < c := by rw [List.length_take] at hi; omega
  rcases hi2 with rfl | rfl
  · obtain ⟨c', rfl⟩ : ∃ c', c = c' + 1 := ⟨c - 1, by omega⟩
    simp [rowI, i64]
  · obtain ⟨c', rfl⟩ : ∃ c', c = c' + 2 := ⟨c - 2, by omega⟩
    simp [rowI, i64]
theorem nextI_nat {code : List (Int × Int)} {a : Nat} (ha : a < code.length) : nextI code (a : Nat) = nextL code a := by
  unfold nextI
  rw [if_pos ⟨by omega, by omega⟩]
  rfl
theorem nextI_out {code : List (Int × Int)} {a : Int} (ha : ¬ (0 ≤ a ∧ a < code.length)) : nextI code a = [] := if_neg ha
theorem nextL_len (code : List (Int × Int)) (a : Nat) : (nextL code a).length ≤ 2 := by
  simp only [nextL]
  repeat' split
  all_goals simp
theorem next_ok {f : Fn} (hf : Fit f.code) (a : Int) : PFun E 32 [encF f, i64 a] (valQ (isV (encI (nextI f.code a)))) := by
  have f1 := hf.len
  refine p_fun ?_
  show PTri E false [] _ [encF f, i64 a, .junk, .junk, .junk, .junk, .junk] _ _
  refine s_run ?_
  have f3 : in64 a → True := fun _ => trivial
  refine s_ass (s_reg (g_run 1 ?_))
  refine prg_split (fun h1 => ?_) (fun h1 => ?_)
  · simp only [decide_eq_true_eq] at h1
    refine g_end ?_
    refine s_t (s_ass (s_run ?_))
    refine s_ret ?_
    refine fin_z [] rfl ?_
    rintro v rfl
    rw [nextI_out (by omega)]
    exact .one .nilf
  simp only [decide_eq_false_iff_not] at h1
  obtain ⟨a, rfl⟩ : ∃ b : Nat, a = b := ⟨a.toNat, by omega⟩
  refine g_run 5 ?_
  refine prg_split (fun h2 => ?_) (fun h2 => ?_)
  · simp only [ge_iff_le, decide_eq_true_eq] at h2
    refine g_end ?_
    refine s_t (s_ass (s_run ?_))
    refine s_ret ?_
    refine fin_z [] rfl ?_
    rintro v rfl
    rw [nextI_out (by omega)]
    exact .one .nilf
  simp only [ge_iff_le, decide_eq_false_iff_not] at h2
  have ha : a < f.code.length := by omega
  refine g_end ?_
  refine s_f (s_skip ?_)
  refine s_reg (g_run 2 ?_)
  refine g_call (to_ok hf ha) ?_
  rintro v ⟨x, y, rfl, hxy⟩
  refine ⟨rfl, ?_⟩
  refine g_end ?_
  have hl2 := nextL_len f.code a
  refine p_weak [] [1] (wk [] [1] [.junk, .junk, .junk, .junk, .fptr 1 2 (fun i => ([i64 x, i64 y].drop (i * 1)).take 1) 0 0, i64 ((nextL f.code a).length : Nat), .junk] [] (vals := ?_)) ?_
  · refine .cons (.one (.junk _)) (.cons (.one (.junk _)) (.cons (.one (.junk _)) (.cons (.one (.junk _)) (.cons (.one ?_) (.cons (.nlv rfl) (.cons (.one (.junk _)) .nil))))))
    exact .ptrf (by decide) rfl (by omega) rfl (by simp) rfl fun i hi => rfl
  refine s_reg (g_run 1 ?_)
  refine g_call (clone_ok (nextL f.code a).length 2 _ (by omega)) ?_
  rintro v rfl
  refine ⟨rfl, ?_⟩
  refine g_call (clip_ok (nextL f.code a).length (nextL f.code a).length _ (Nat.le_refl _)) ?_
  rintro v rfl
  refine ⟨rfl, ?_⟩
  refine g_end ?_
  refine p_ret ?_
  refine fin_z [] rfl ?_
  rintro v rfl
  rw [nextI_nat ha]
  exact .one (.frz rfl (Nat.le_refl _) (Nat.le_refl _) (two_rows hxy rfl))
end Go.Proofs.Ytollibkfagjnaaa.Shape.Gr
