/- post.All, whole; post.Near. -/
import Derived.Test.YtdbehmepikhghaaPostAll
set_option linter.unusedVariables false
set_option linter.unusedSimpArgs false
set_option maxRecDepth 10000
namespace Go.Proofs.Ytdbehmepikhghaa.Graph
open Go.Proofs.Ytdbehmepikhghaa.AM Go.Proofs.Ytdbehmepikhghaa.Post
noncomputable def allF (code : List (Int × Int)) (k : Nat) : Nat → List PV := fun j => if j < k then [encB (rowD code j)] else [.s (.slice none 0 0)]
noncomputable def encAll (code : List (Int × Int)) : PV := .frz 1 (code.length + 1) (code.length + 1) fun i => [encB (rowD code i)]
noncomputable def aT (code : List (Int × Int)) (x9 : PV) : List PV := [.junk, .junk, .s (.slice none 0 0), .junk, .junk, .fn 62 [] [.fptr 1 1 (fun _ => [i64 (code.length + 1 : Nat)]) 0 0, .fptr 1 1 (fun _ => [.frz 1 (code.length + 1) (code.length + 1) (rowI .i64 (treeT code))]) 0 0], .vec 1 0 (code.length + 1), .junk, i64 (code.length + 1 : Nat), x9, .junk]
theorem allP_ok {f : Fn} (hf : Fit f.code) : PFun E 32 [encF f] (valQ fun v => TreeR f.code (nrT f.code) ∧ v = encAll f.code) := by
  have f1 := hf.len
  refine p_fun ?_
  show PTri E false [] _ [encF f, .junk, .junk, .junk, .junk, .junk, .junk, .junk, .junk, .junk, .junk] _ _
  refine s_run ?_
  refine s_reg (g_run 1 ?_)
  refine g_call (treeE hf) ?_
  rintro v ⟨hT, rfl⟩
  refine ⟨rfl, ?_⟩
  unfold encI
  rw [treeT_len]
  refine g_end ?_
  refine s_run ?_
  refine s_run ?_
  refine s_run ?_
  have hp1 : ∀ {σ : Sig} {hp : PH} {b : Nat} {v : PV}, hp[b]? = some (.cel [v]) → nlb v = true → b ∈ [1, 2] → VSub1 σ [1, 2] hp (.ptr b 0) (.fptr 1 1 (fun _ => [v]) 0 0) := fun {σ hp b v} hb hv hm => .ptrf hm hb (by omega) rfl (by simp) (by simp [hv]) fun i hi => by
    have : i = 0 := by omega
    subst this; rfl
  refine p_weak [some 3] [1, 2] (wk _ [1, 2] [.junk, .junk, .s (.slice none 0 0), .junk, .junk, .fn 62 [] [.fptr 1 1 (fun _ => [i64 (f.code.length + 1 : Nat)]) 0 0, .fptr 1 1 (fun _ => [.frz 1 (f.code.length + 1) (f.code.length + 1) (rowI .i64 (treeT f.code))]) 0 0], .vec 1 0 (f.code.length + 1), .junk, .junk, .junk, .junk] [.vec 1 (f.code.length + 1) (allF f.code 0) true] (vals := ?_) (blks := .cons (bs_vec rfl fun j hj => ?_) .nil)) ?_
  · repeat' (first | exact VSubs.nil | apply VSubs.cons | exact VSub.one (VSub1.junk _) | exact VSub.nlv rfl | exact VSub.one (VSub1.vec rfl rfl) | exact VSub.fn .nil (.cons (hp1 rfl rfl (by decide)) (.cons (hp1 rfl rfl (by decide)) .nil)))
  · unfold allF; rw [if_neg (Nat.not_lt_zero _)]; rfl
  refine s_ass (s_run ?_)
  refine s_loop (ι := Nat) (fun k => k ≤ f.code.length + 1) (fun k => f.code.length + 1 - k) (fun k => aT f.code (i64 (k : Nat))) (fun k => [.vec 1 (f.code.length + 1) (allF f.code k) true]) 0 (Nat.zero_le _) (σ := [some 0]) (wk _ [] _ _ (vals := ?_) (blks := .cons bs_same .nil)) ?_
  · unfold aT
    repeat' (first | exact VSubs.nil | apply VSubs.cons | exact VSub.one (VSub1.junk _) | exact VSub.nlv rfl | exact VSub.one (VSub1.vec rfl rfl))
  intro k hk
  unfold aT
  refine s_run ?_
  refine s_cond (fun h1 => ?_) (fun h1 => ?_)
  · simp only [decide_eq_true_eq] at h1
    have hkn : k < f.code.length + 1 := by omega
    refine s_skip (s_block ?_)
    refine s_run ?_
    refine e_reg ?_
    refine g_call (allRow_ok f1 hT hkn) ?_
    rintro v rfl
    refine ⟨rfl, ?_⟩
    refine g_end ?_
    refine e_run ?_
    refine lp_next (k + 1) hkn (σ := [some 0]) (wk _ [] _ _ (vals := ?_) (blks := .cons (bs_vec rfl fun j hj => ?_) .nil))
    · try dsimp only [aT]
      repeat' (first | exact VSubs.nil | apply VSubs.cons | exact VSub.one (VSub1.junk _) | exact VSub.nlv rfl | exact VSub.one (VSub1.vec rfl rfl))
    · show (if j = k then _ else allF f.code k j) = allF f.code (k + 1) j
      unfold allF
      by_cases e : j = k
      · subst e; rw [if_pos rfl, if_neg (Nat.lt_irrefl j), if_pos (Nat.lt_succ_self j)]; rfl
      · rw [if_neg e]
        by_cases w : j < k
        · rw [if_pos w, if_pos (by omega)]
        · rw [if_neg w, if_neg (by omega)]
  · simp only [decide_eq_false_iff_not] at h1
    refine s_exit ?_
    refine s_run ?_
    refine p_ret (fin_z [0] ⟨hT, rfl⟩ ?_)
    rintro v rfl
    refine .one (.vecf (.head _) rfl rfl (Nat.le_refl _) (Nat.le_refl _) fun i hi => ?_)
    unfold allF
    rw [if_pos (by omega)]
/-- The nearest one, told in two. -/
noncomputable def nearW (code : List (Int × Int)) (p : Nat) : PV := match (if p = code.length then none else nrT code p) with
  | some b => .tup [i64 (b : Nat), .s (.bool true)]
  | none => .tup [i64 0, .s (.bool false)]
theorem near_ok {f : Fn} (hf : Fit f.code) {p : Nat} (hp : p < f.code.length + 1) : PFun E 36 [encF f, i64 (p : Nat)] (valQ fun v => TreeR f.code (nrT f.code) ∧ v = nearW f.code p) := by
  have f1 := hf.len
  refine p_fun ?_
  show PTri E false [] _ [encF f, i64 (p : Nat), .junk, .junk, .junk, .junk, .junk] _ _
  refine s_run ?_
  refine s_ass (s_reg (g_run 1 ?_))
  refine prg_head (v' := .s (.bool false)) (by rw [decide_eq_false (by omega)]) ?_
  refine g_run 5 ?_
  refine prg_head (v' := .s (.bool false)) (by rw [decide_eq_false (by omega)]) ?_
  refine g_end ?_
  refine s_f (s_skip ?_)
  refine s_reg (g_run 1 ?_)
  refine g_call (treeE hf) ?_
  rintro v ⟨hT, rfl⟩
  refine ⟨rfl, ?_⟩
  unfold encI
  rw [treeT_len]
  refine g_run 2 ?_
  rw [show (treeT f.code).getD p 0 = ofN (if p = f.code.length then none else nrT f.code p) from by
    rw [treeT_at hp]; by_cases e : p = f.code.length <;> simp [e, ofN]]
  refine g_end ?_
  unfold nearW
  cases hn : (if p = f.code.length then none else nrT f.code p) with
  | none =>
    refine s_reg ?_
    refine prg_flat (v := .int .i64 0) rfl rfl rfl rfl ?_
    refine g_run 1 ?_
    refine prg_head (v' := .s (.bool false)) rfl ?_
    refine g_end ?_
    exact p_ret (fin_r ⟨hT, rfl⟩)
  | some b =>
    refine s_reg ?_
    refine prg_flat (v := .int .i64 (if (0 : Int) > ((b : Nat) : Int) then 0 else ((b : Nat) : Int))) rfl rfl rfl rfl ?_
    refine prg_head (v' := i64 (b : Nat)) (by rw [if_neg (by omega)]; rfl) ?_
    refine g_run 1 ?_
    refine prg_head (v' := .s (.bool true)) (by simp [ofN]) ?_
    refine g_end ?_
    exact p_ret (fin_r ⟨hT, rfl⟩)
end Go.Proofs.Ytdbehmepikhghaa.Graph
