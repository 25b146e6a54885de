/- The law RegionLevels. -/
import Derived.Test.YtollibkfagjnaaaRegRof
import Derived.Test.YtollibkfagjnaaaRegApl
import Derived.Test.YtollibkfagjnaaaRegOpen
import Derived.Test.YtollibkfagjnaaaGraphKitB
set_option linter.unusedVariables false
set_option linter.unusedSimpArgs false
set_option maxRecDepth 10000
namespace Go.Proofs.Ytollibkfagjnaaa.Graph
open Go.Proofs.Ytollibkfagjnaaa.AM Go.Proofs.Ytollibkfagjnaaa.Post
theorem awakeL_ok : PFun E 34 [] (valQ (isV (.s (.bool true)))) := by
  intro F ρ H avs hr ha
  have : avs = [] := List.eq_nil_of_length_eq_zero (by rw [← ha.len]; rfl)
  subst this
  exact runs_done (fun _ => rfl) ⟨F, ρ, [], .s (.bool true), .refl, fun _ _ _ h => h, hr, .fr (.s _), rfl, rfl⟩
theorem labelsO_ok {n : Nat} (xs : List Int) (hn : n < 1000000) {full : Bool} : PCall E [0] 39 [.exv 1 0 n, .frz 1 n n (rowI .u64 xs)] [.vec 1 n (rowI .u64 xs) full] (fun v hp => v = .s (.bool true) ∧ hp = [.vec 1 n (rowI .u64 xs) full]) := by
  refine p_fn ?_
  show PTri E false [0] _ [.exv 1 0 n, .frz 1 n n (rowI .u64 xs), .junk, .junk, .junk, .junk, .junk] _ _
  refine s_run ?_
  refine s_ass (s_run ?_)
  refine s_cond (fun h => ?_) (fun h => ?_)
  · exfalso; simp at h
  refine s_skip (s_ass (s_run ?_))
  refine s_loop (fun i => i ≤ n) (fun i => n - i) (fun i => [.exv 1 0 n, .frz 1 n n (rowI .u64 xs), .s (.bool false), .s (.int .i64 (i : Nat)), .junk, .junk, .junk]) (fun _ => [.vec 1 n (rowI .u64 xs) full]) 0 (Nat.zero_le _) (σ := [some 0]) (fz := []) (wk _ [] _ _ (vals := .cons (.one (.exv rfl rfl)) (.cons (.nlv rfl) (.cons (.nlv rfl) (.cons (.nlv rfl) (.cons (.one (.junk _)) (.cons (.one (.junk _)) (.cons (.one (.junk _)) .nil))))))) (blks := .cons bs_same .nil)) ?_
  rintro i hi
  refine s_ass (s_run ?_)
  refine s_cond (fun h => ?_) (fun h => ?_)
  · simp only [decide_eq_true_eq] at h
    have hil : i < n := by omega
    refine s_skip (s_block (d_run ?_))
    refine e_cond (fun h2 => ?_) (fun h2 => ?_)
    · exfalso; simp at h2
    · refine p_skip (e_run ?_)
      exact lp_next (i + 1) (by omega) (σ := [some 0]) (fz := []) (wk _ [] _ _ (vals := .cons (.one (.exv rfl rfl)) (.cons (.nlv rfl) (.cons (.nlv rfl) (.cons (.nlv rfl) (.cons (.one (.junk _)) (.cons (.one (.junk _)) (.cons (.one (.junk _)) .nil))))))) (blks := .cons bs_same .nil))
  · refine s_exit ?_
    refine s_run ?_
    exact p_ret (fin ⟨rfl, rfl⟩)
def toK (f : Fn) : Kit.Fn := ⟨f.lvl, f.ps, f.rs, f.loc, f.stk, f.code⟩
theorem lentFnK {f : Fn} (fit : FnFits f) (h : f.code.length < 1000000) : PFun E 35 [encF f] (valQ (isV (Kit.lentF (toK f)))) := Kit.lentFunction_ok (f := toK f) ⟨fit.ps, fit.rs, by show f.code.length < _; omega⟩
theorem keptFnK {f : Fn} (fit : FnFits f) (h : f.code.length < 1000000) : PFun E 40 [Kit.lentF (toK f), encF f] (valQ (isV (.s (.bool true)))) := Kit.keptFunction_ok (f := toK f) ⟨fit.ps, fit.rs, by show f.code.length < _; omega⟩
theorem cutU {σ : Sig} {fz : List Nat} {hp : PH} (xs : List Int) : VSub1 σ fz hp (Kit.lentU xs) (encU xs) := .frz rfl (Nat.le_refl _) (Nat.le_succ _) fun i hi => by
  show [PV.s _] = [PV.s _]
  rw [Kit.getD_pre hi]
theorem cutC {σ : Sig} {fz : List Nat} {hp : PH} (code : List (Int × Int)) : VSub1 σ fz hp (Kit.lentC code) (encC code) := .frz rfl (Nat.le_refl _) (Nat.le_succ _) fun i hi => by
  show Kit.rowC _ i = Kit.rowC _ i
  unfold Kit.rowC
  rw [Kit.getD_pre hi]
theorem cutF {σ : Sig} {fz : List Nat} {hp : PH} (f : Fn) : VSub σ fz hp (Kit.lentF (toK f)) (encF f) :=
  .agg (.cons (.same rfl) (.cons (cutU _) (.cons (cutU _) (.cons (.same rfl) (.cons (.same rfl) (.cons (cutC _) .nil))))))
noncomputable def vL (f : Fn) (base : Int) (conds : List Int) (x6 x7 x8 x9 : PV) : List PV := [encF f, u64 base, encU conds, .ptr 0 0, .s (.bool false), .ptr 1 0, x6, x7, x8, x9, .junk]
theorem regionLevels_ok {f : Fn} (fit : FnFits f) {base : Int} {conds : List Int} (hc : conds.length < 17592186044415) : PFun E 8 [encF f, u64 base, encU conds] (valQ (isV (.s (.bool true)))) := by
  refine p_fun ?_
  show PTri E false [] _ [encF f, u64 base, encU conds, .junk, .junk, .junk, .junk, .junk, .junk, .junk, .junk] _ _
  refine s_run ?_
  refine s_ass (s_run ?_)
  refine s_cond (fun h => ?_) (fun h => ?_)
  · refine s_ass (s_reg ?_)
    refine g_call awakeL_ok ?_
    rintro v rfl
    refine ⟨rfl, ?_⟩
    refine g_end ?_
    exact s_ret fin_v
  simp only [gt_iff_lt, decide_eq_false_iff_not] at h
  have hn : f.code.length ≤ 40 := by omega
  have hf : Fit f.code := ⟨by omega, fit.op, fit.arg⟩
  refine s_skip ?_
  refine s_reg (g_run 1 ?_)
  refine g_call (lentFnK fit hf.len) ?_
  rintro v rfl
  refine ⟨rfl, ?_⟩
  refine g_end ?_
  refine s_reg ?_
  refine g_call (Kit.lentLabels_ok conds hc) ?_
  rintro v rfl
  refine ⟨rfl, ?_⟩
  refine g_end ?_
  refine s_reg (g_run 1 ?_)
  refine g_scall [] [] (args' := [encF f, u64 base, encU conds]) (hpc := []) (levelsO_ok hf hc) (wk _ [] _ _ (vals := .cons (cutF f) (.cons (.nlv rfl) (.cons (.one (cutU conds)) .nil))) (blks := .nil)) ?_
  rintro v hpc' ⟨hT, rfl, rfl⟩
  refine ⟨rfl, rfl, Nat.zero_le _, ?_⟩
  refine g_end ?_
  refine s_reg (g_run 1 ?_)
  refine g_scall [] [] (args' := [encF f, u64 base, encU conds]) (hpc := []) (levelsO_ok hf hc) (wk _ [] _ _ (vals := .cons (cutF f) (.cons (.nlv rfl) (.cons (.one (cutU conds)) .nil))) (blks := .nil)) ?_
  rintro v hpc' ⟨hT, rfl, rfl⟩
  refine ⟨rfl, rfl, Nat.zero_le _, ?_⟩
  refine g_end ?_
  refine s_reg (g_run 1 ?_)
  refine g_call (rlevels_ok hf hT (base := base) (conds := conds) hc) ?_
  rintro v rfl
  refine ⟨rfl, ?_⟩
  unfold encU
  rw [levL_len]
  refine g_end ?_
  have hll : (levL f.code conds base conds.length).length = f.code.length := levL_len
  obtain ⟨LL, hLL⟩ : ∃ LL, levL f.code conds base conds.length = LL := ⟨_, rfl⟩
  rw [hLL]
  refine s_reg ?_
  refine g_scall [2] [] (args' := [.exv 1 0 f.code.length, .frz 1 f.code.length f.code.length (rowI .u64 LL)]) (hpc := [.vec 1 f.code.length (rowI .u64 LL) false]) (labelsO_ok LL hf.len) (wk _ [] _ _ (vals := .cons (.one (.exv rfl rfl)) (.cons (.nlv rfl) .nil)) (blks := .cons bs_same .nil)) ?_
  rintro v hpc' ⟨rfl, rfl⟩
  refine ⟨rfl, rfl, Nat.le_refl _, ?_⟩
  refine g_run 2 ?_
  refine g_scall [3] [] (args' := [.exv 1 0 f.code.length, .frz 1 f.code.length f.code.length (rowI .u64 LL)]) (hpc := [.vec 1 f.code.length (rowI .u64 LL) false]) (labelsO_ok LL hf.len) (wk _ [] _ _ (vals := .cons (.one (.exv rfl rfl)) (.cons (.nlv rfl) .nil)) (blks := .cons bs_same .nil)) ?_
  rintro v hpc' ⟨rfl, rfl⟩
  refine ⟨rfl, rfl, Nat.le_refl _, ?_⟩
  refine g_run 3 ?_
  refine g_call (keptFnK fit hf.len) ?_
  rintro v rfl
  refine ⟨rfl, ?_⟩
  refine g_run 3 ?_
  refine g_call (Kit.keptLabels_ok conds hc) ?_
  rintro v rfl
  refine ⟨rfl, ?_⟩
  refine g_run 3 ?_
  refine prg_mkcel ?_
  refine g_scall [4, 2, 3] [] (args' := [.vec 1 0 2]) (hpc := [.cel [.exv 1 1 f.code.length, .exv 1 2 f.code.length], .vec 1 f.code.length (rowI .u64 LL) false, .vec 1 f.code.length (rowI .u64 LL) false]) (apl_ok (n := f.code.length) (by omega) LL LL) (wk _ [] _ _ (vals := .cons (.one (.vec rfl rfl)) .nil) (blks := .cons (.cel rfl (by simp) rfl (.cons (.one (.exv rfl rfl)) (.cons (.one (.exv rfl rfl)) .nil))) (.cons bs_same (.cons bs_same .nil)))) ?_
  rintro v hpc' ⟨rfl, rfl⟩
  refine ⟨rfl, rfl, Nat.le_refl _, ?_⟩
  refine g_run 1 ?_
  refine g_call awakeL_ok ?_
  rintro v rfl
  refine ⟨rfl, ?_⟩
  refine g_end ?_
  exact p_ret fin_v
end Go.Proofs.Ytollibkfagjnaaa.Graph
