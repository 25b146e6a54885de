/- The program's step of a frame. PRINTED by genO.py. -/
import Derived.Test.YtollibkfagjnaaaShapeKitN
set_option linter.unusedVariables false
set_option linter.unusedSimpArgs false
set_option maxRecDepth 10000
namespace Go.Proofs.Ytollibkfagjnaaa.Shape.Kit
open Go.Proofs.Ytollibkfagjnaaa.AM
theorem step_ok {m : Md} (hf : MdFits m) {x : Fr} (hfx : FrFits x) {lvl : Int} (hlvl : U64 lvl) (f a : Int) : PFun E 15 [lentM m, i64 f, i64 a, lentFr x, u64 lvl] (valQ (isV (encS (stepT m f a x lvl)))) := by
  have x1 := hfx.st
  have x2 := hfx.lo
  refine p_fun ?_
  show PTri E false [] _ [lentM m, i64 f, i64 a, lentFr x, u64 lvl, .junk, .junk, .junk, .junk, .junk, .junk, .junk, .junk, .junk, .junk, .junk, .junk] _ _
  refine s_run ?_
  refine s_ass (s_drw (g_run 1 ?_))
  refine g_call (address_ok hf f a) ?_
  rintro v rfl
  refine ⟨rfl, ?_⟩
  cases ht : thereB m f a with
  | false =>
    refine g_end ?_
    rw [show stepT m f a x lvl = ⟨[], [], 0, false⟩ by unfold stepT; rw [if_neg (by simp [stepOk, ht])]]
    refine s_t (s_ass (s_run ?_))
    refine p_weak [some 2] [] (T' := [.junk, .junk, .junk, .junk, .junk, .junk, .junk, .ptr 0 0, u64 0, .s (.bool false), .junk, .junk, .junk, .junk, .junk, .junk, .junk]) (hp' := [.cel [encU [], encU []]]) (wk _ _ _ _ (blks := .cons (.cel rfl (by simp) rfl (.cons (.one .nilf) (.cons (.one .nilf) .nil))) .nil)) ?_
    exact s_ret fin_v
  | true =>
    obtain ⟨hok, i, j, rfl, rfl, hi, hj⟩ := there_of ht
    refine g_run 3 ?_
    refine g_call (slocals_ok (.inr rfl) hf) ?_
    rintro v rfl
    refine ⟨rfl, ?_⟩
    refine g_run 4 ?_
    refine prg_split (fun h1 => ?_) (fun h1 => ?_)
    · simp only [bne_iff_ne, ne_eq] at h1
      refine g_end ?_
      rw [show stepT m i j x lvl = ⟨[], [], 0, false⟩ by unfold stepT; rw [if_neg (by simp [stepOk, h1])]]
      refine s_t (s_ass (s_run ?_))
      refine p_weak [some 2] [] (T' := [.junk, .junk, .junk, .junk, .junk, .junk, .junk, .ptr 0 0, u64 0, .s (.bool false), .junk, .junk, .junk, .junk, .junk, .junk, .junk]) (hp' := [.cel [encU [], encU []]]) (wk _ _ _ _ (blks := .cons (.cel rfl (by simp) rfl (.cons (.one .nilf) (.cons (.one .nilf) .nil))) .nil)) ?_
      exact s_ret fin_v
    simp only [bne_eq_false_iff_eq] at h1
    refine g_run 8 ?_
    refine prg_cast (fptr_one (if_pos hi)) ?_
    refine g_run 3 ?_
    refine prg_split (fun h2 => ?_) (fun h2 => ?_)
    · simp only [gt_iff_lt, decide_eq_true_eq] at h2
      refine g_end ?_
      rw [show stepT m i j x lvl = ⟨[], [], 0, false⟩ by unfold stepT; rw [if_neg (by simp only [stepOk, Bool.and_eq_true, decide_eq_true_eq, Int.toNat_natCast]; have : (fnAt m i).stk = (m.fns.getD i default).stk := rfl; omega)]]
      refine s_t (s_ass (s_run ?_))
      refine p_weak [some 2] [] (T' := [.junk, .junk, .junk, .junk, .junk, .junk, .junk, .ptr 0 0, u64 0, .s (.bool false), .junk, .junk, .junk, .junk, .junk, .junk, .junk]) (hp' := [.cel [encU [], encU []]]) (wk _ _ _ _ (blks := .cons (.cel rfl (by simp) rfl (.cons (.one .nilf) (.cons (.one .nilf) .nil))) .nil)) ?_
      exact s_ret fin_v
    simp only [gt_iff_lt, decide_eq_false_iff_not] at h2
    refine g_end ?_
    refine s_f (s_skip ?_)
    obtain ⟨op, A, hx⟩ : ∃ op A, (fnAt m i).code.getD j (0, 0) = (op, A) := ⟨_, _, rfl⟩
    obtain ⟨hop, hA⟩ := op_ok hok hi hj hx
    obtain ⟨b1, b2, b3, b4, _⟩ := arg_ok hok hi hj hx
    have hj' : j < (m.fns.getD i default).code.length := hj
    have hE : effT m (i : Int) (j : Int) = effS m i op A := by
      unfold effT
      rw [if_pos ht, Int.toNat_natCast, Int.toNat_natCast, hx]
    refine s_reg (g_run 3 ?_)
    refine prg_cast (fptr_one (if_pos hi)) ?_
    refine g_run 4 ?_
    rw [getD_pre hj', show (m.fns.getD i default).code.getD j (0, 0) = (op, A) from hx]
    refine g_end ?_
    refine s_reg (g_run 2 ?_)
    refine g_call (effect_ok hf hi op A hA) ?_
    rintro v rfl
    refine ⟨rfl, ?_⟩
    have hes := effS_small hok hi op A hA
    obtain ⟨pp, qq, hpq⟩ : ∃ pp qq, effS m i op A = (pp, qq) := ⟨_, _, rfl⟩
    rw [hpq] at hes hE ⊢
    simp only at hes
    refine g_end ?_
    refine s_ass (s_run ?_)
    refine s_ass (s_reg (g_run 1 ?_))
    refine prg_split (fun h3 => ?_) (fun h3 => ?_)
    · simp only [decide_eq_true_eq] at h3
      refine g_end ?_
      rw [show stepT m i j x lvl = ⟨[], [], 0, false⟩ by unfold stepT; rw [if_neg (by simp only [stepOk, Bool.and_eq_true, decide_eq_true_eq, hE]; omega)]]
      refine s_t (s_ass (s_run ?_))
      refine p_weak [some 2] [] (T' := [.junk, .junk, .junk, .junk, .junk, .junk, .junk, .ptr 0 0, u64 0, .s (.bool false), .junk, .junk, .junk, .junk, .junk, .junk, .junk]) (hp' := [.cel [encU [], encU []]]) (wk _ _ _ _ (blks := .cons (.cel rfl (by simp) rfl (.cons (.one .nilf) (.cons (.one .nilf) .nil))) .nil)) ?_
      exact s_ret fin_v
    simp only [decide_eq_false_iff_not] at h3
    refine g_run 9 ?_
    refine prg_cast (fptr_one (if_pos hi)) ?_
    refine g_run 3 ?_
    refine prg_split (fun h4 => ?_) (fun h4 => ?_)
    · simp only [gt_iff_lt, decide_eq_true_eq] at h4
      refine g_end ?_
      rw [show stepT m i j x lvl = ⟨[], [], 0, false⟩ by unfold stepT; rw [if_neg (by simp only [stepOk, Bool.and_eq_true, decide_eq_true_eq, hE, Int.toNat_natCast]; have : (fnAt m i).stk = (m.fns.getD i default).stk := rfl; omega)]]
      refine s_t (s_ass (s_run ?_))
      refine p_weak [some 2] [] (T' := [.junk, .junk, .junk, .junk, .junk, .junk, .junk, .ptr 0 0, u64 0, .s (.bool false), .junk, .junk, .junk, .junk, .junk, .junk, .junk]) (hp' := [.cel [encU [], encU []]]) (wk _ _ _ _ (blks := .cons (.cel rfl (by simp) rfl (.cons (.one .nilf) (.cons (.one .nilf) .nil))) .nil)) ?_
      exact s_ret fin_v
    simp only [gt_iff_lt, decide_eq_false_iff_not] at h4
    refine g_end ?_
    refine s_f (s_skip ?_)
    have hS : stepT m i j x lvl = stepS m i op A x.st x.lo lvl := by
      unfold stepT
      rw [if_pos (by simp only [stepOk, Bool.and_eq_true, decide_eq_true_eq, hE, Int.toNat_natCast]; have : (fnAt m i).stk = (m.fns.getD i default).stk := rfl; exact ⟨ht, h1, by omega, by omega, by omega⟩), Int.toNat_natCast, Int.toNat_natCast, hx]
    rw [hS]
    have hsz := ok_size hok hi
    refine s_drw (g_run 2 ?_)
    refine prg_call rfl rfl rfl rfl (cloneO_ok x.st.length (x.st.length + 1) x.st rfl x1) ?_
    rintro v hpc ⟨rfl, rfl⟩
    refine ⟨rfl, rfl, ?_⟩
    refine g_run 2 ?_
    refine prg_call rfl rfl rfl rfl (cloneO_ok x.lo.length (x.lo.length + 1) x.lo rfl x2) ?_
    rintro v hpc ⟨rfl, rfl⟩
    refine ⟨rfl, rfl, ?_⟩
    refine g_end ?_
    refine s_reg (g_run 2 ?_)
    refine prg_scall [6, 4, 5] [] (args' := [.ptr 0 0, lentM m, i64 (i : Nat), .agg [i64 op, i64 A]]) (hpc := wH x.st x.st.length x.lo lvl true) rfl rfl rfl (wk _ [] _ _) rfl (do_ok hf hi hop (fun h => by have := b1 h; omega) b2 b3 hA b4 x.st.length (fun k hk g hg => by have := ok_size hok hk; rw [hg] at this; omega) rfl (by rw [hpq]; simp only; omega) (by have : (fnAt m i).stk = (m.fns.getD i default).stk := rfl; omega) hlvl) ?_
    obtain ⟨S, hSS⟩ : ∃ S, stepS m i op A x.st x.lo lvl = S := ⟨_, rfl⟩
    rw [hSS]
    rintro v hpc' ⟨rfl, (⟨ys, k, hk, hst, rfl⟩ | rfl)⟩
    · refine ⟨rfl, rfl, Nat.le_refl _, ?_⟩
      refine g_end ?_
      refine d_run ?_
      have hkl : k = S.st.length := by rw [hst, List.length_take]; omega
      refine p_weak [some 2] [4, 5] (T' := [.junk, .junk, .junk, .junk, .junk, .junk, .junk, .ptr 0 0, u64 S.cd, .s (.bool S.kp), .junk, .junk, .junk, .junk, .junk, .junk, .junk]) (hp' := [.cel [encU S.st, encU S.lo]]) (wk _ _ _ _ (blks := .cons (.cel rfl (by simp) rfl (.cons (.one (.vecf (.head _) rfl hkl (Nat.le_refl _) (by omega) fun i hi => ?_)) (.cons (.one (.vecf (.tail _ (.head _)) rfl rfl (Nat.le_refl _) (Nat.le_refl _) fun i hi => rfl)) .nil))) .nil)) ?_
      · rw [hst]
        simp only [rowI, List.getD_eq_getElem?_getD, List.getElem?_take, if_pos (show i < k by omega)]
      · exact p_ret fin_v
    · refine ⟨rfl, rfl, Nat.le_succ 3, ?_⟩
      refine g_end ?_
      refine d_run ?_
      refine p_weak [some 2] [7, 5] (T' := [.junk, .junk, .junk, .junk, .junk, .junk, .junk, .ptr 0 0, u64 S.cd, .s (.bool S.kp), .junk, .junk, .junk, .junk, .junk, .junk, .junk]) (hp' := [.cel [encU S.st, encU S.lo]]) (wk _ _ _ _ (blks := .cons (.cel rfl (by simp) rfl (.cons (.one (.vecf (.head _) rfl rfl (Nat.le_refl _) (Nat.le_refl _) fun i hi => rfl)) (.cons (.one (.vecf (.tail _ (.head _)) rfl rfl (Nat.le_refl _) (Nat.le_refl _) fun i hi => rfl)) .nil))) .nil)) ?_
      exact p_ret fin_v
end Go.Proofs.Ytollibkfagjnaaa.Shape.Kit
