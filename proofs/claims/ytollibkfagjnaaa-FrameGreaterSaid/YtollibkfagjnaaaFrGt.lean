/- The law on greater labels. -/
import Derived.Test.YtollibkfagjnaaaFrM
import Derived.Test.YtollibkfagjnaaaFrGe
import Derived.Test.YtollibkfagjnaaaShapeKitEO
set_option linter.unusedVariables false
set_option linter.unusedSimpArgs false
set_option maxRecDepth 10000
namespace Go.Proofs.Ytollibkfagjnaaa.Shape.Kit
open Go.Proofs.Ytollibkfagjnaaa.AM
theorem frIn_of {x y : Fr} (h1 : LeL x.st y.st) (h2 : LeL x.lo y.lo) : FrIn x y := ⟨h1.len, h2.len, fun i _ => inU_le.2 (h1.at' i), fun i _ => inU_le.2 (h2.at' i)⟩
theorem stepOk_len {m : Md} {f a : Int} {x z : Fr} (h1 : x.st.length = z.st.length) (h2 : x.lo.length = z.lo.length) : stepOk m f a x = stepOk m f a z := by unfold stepOk; rw [h1, h2]
theorem stepT_mono {m : Md} {f a : Int} {x z : Fr} {lv lv' : Int} (h1 : LeL x.st z.st) (h2 : LeL x.lo z.lo) (hv : Le lv lv') : LeS (stepT m f a x lv) (stepT m f a z lv') := by
  unfold stepT
  rw [stepOk_len h1.len h2.len]
  split
  · exact stepS_mono h1 h2 hv
  · exact ⟨.nil, .nil, Le.refl _, fun h => h⟩
theorem subU_zero {a b : Int} (h : Le a b) : subU a b = 0 := by
  have := inU_le.2 h
  unfold inU at this
  simpa using this
noncomputable def gT (m : Md) (f a : Int) (x y : Fr) (lv mo : Int) (x11 x13 x14 x15 x16 x17 x18 x19 x20 x21 x22 : PV) : List PV := [.junk, i64 f, i64 a, .junk, .junk, u64 lv, u64 mo, .fptr 4 1 (fun _ => cellsM m) 0 0, .fptr 2 1 (fun _ => [encU x.st, encU x.lo]) 0 0, .fptr 2 1 (fun _ => [encU y.st, encU y.lo]) 0 0, .s (.bool false), x11, .junk, x13, x14, x15, x16, x17, x18, x19, x20, x21, x22, .junk, .junk, .junk, .junk, .junk, .junk, .junk, .junk]
def fpF (st lo : List Int) : PV := .fptr 2 1 (fun _ => [encU st, encU lo]) 0 0
theorem frameGreater_ok {m : Md} (hg : MdGood m) (f a : Int) {x y : Fr} (hx : FrFits x) (hy : FrFits y) {lv mo : Int} (hlv : U64 lv) (hmo : U64 mo) : PFun E 7 [encM m, i64 f, i64 a, encFr x, encFr y, u64 lv, u64 mo] (valQ (isV (.s (.bool true)))) := by
  refine p_fun ?_
  show PTri E false [] _ [encM m, i64 f, i64 a, encFr x, encFr y, u64 lv, u64 mo, .junk, .junk, .junk, .junk, .junk, .junk, .junk, .junk, .junk, .junk, .junk, .junk, .junk, .junk, .junk, .junk, .junk, .junk, .junk, .junk, .junk, .junk, .junk, .junk] _ _
  refine s_run ?_
  refine s_ass (s_reg ?_)
  refine g_call known_ok ?_
  rintro v rfl
  refine ⟨rfl, ?_⟩
  refine g_end ?_
  refine s_f (s_skip ?_)
  have one0 : ∀ {j : Nat}, j < 1 → j = 0 := fun h => by omega
  refine p_weak [] [0, 1, 2] (T' := gT m f a x y lv mo .junk .junk .junk .junk .junk .junk .junk .junk .junk .junk .junk) (hp' := []) (wk _ _ _ _ (vals := ?_)) ?_
  · refine .cons (.one (.junk _)) (.cons (.nlv rfl) (.cons (.nlv rfl) (.cons (.one (.junk _)) (.cons (.one (.junk _)) (.cons (.nlv rfl) (.cons (.nlv rfl) (.cons (.one ?_) (.cons (.one ?_) (.cons (.one ?_) (.cons (.nlv rfl) ?_))))))))))
    · exact .ptrf (.head _) rfl (by omega) rfl (by simp [cellsM]) rfl fun j hj => by obtain rfl := one0 hj; rfl
    · exact .ptrf (.tail _ (.head _)) rfl (by omega) rfl (by simp) rfl fun j hj => by obtain rfl := one0 hj; rfl
    · exact .ptrf (.tail _ (.tail _ (.head _))) rfl (by omega) rfl (by simp) rfl fun j hj => by obtain rfl := one0 hj; rfl
    · repeat' (first | exact VSubs.nil | apply VSubs.cons | exact VSub.one (VSub1.junk _))
  unfold gT
  by_cases hc : x.st.length = y.st.length ∧ x.lo.length = y.lo.length
  rotate_left
  · refine s_reg (g_run 2 ?_)
    refine g_call (fjoin_ok hx (y := y)) ?_
    rintro v rfl
    rw [if_neg hc]
    refine ⟨rfl, ?_⟩
    refine g_end ?_
    refine s_ass (s_run ?_)
    refine s_t (s_ass (s_run ?_))
    exact s_ret fin_v
  refine s_reg (g_run 2 ?_)
  refine g_call (fjoin_ok hx (y := y)) ?_
  rintro v rfl
  rw [if_pos hc]
  refine ⟨rfl, ?_⟩
  obtain ⟨hs, hl⟩ := hc
  obtain ⟨j1, j2⟩ := LeL.of_join hs
  obtain ⟨j3, j4⟩ := LeL.of_join hl
  obtain ⟨zs, hzs⟩ : ∃ zs, joinL x.st y.st = zs := ⟨_, rfl⟩
  obtain ⟨zl, hzl⟩ : ∃ zl, joinL x.lo y.lo = zl := ⟨_, rfl⟩
  unfold joinFr
  rw [hzs, hzl]
  rw [hzs] at j1 j2
  rw [hzl] at j3 j4
  have hz : FrFits ⟨zs, zl⟩ := ⟨by have := hx.st; have := j1.len; simp only; omega, by have := hx.lo; have := j3.len; simp only; omega⟩
  refine g_end ?_
  refine s_ass (s_run ?_)
  refine s_f (s_skip ?_)
  refine p_weak [] [0] (T' := gT m f a x y lv mo (fpF zs zl) .junk .junk .junk .junk .junk .junk .junk .junk .junk .junk) (hp' := []) (wk _ _ _ _ (vals := ?_)) ?_
  · refine .cons (.one (.junk _)) (.cons (.nlv rfl) (.cons (.nlv rfl) (.cons (.one (.junk _)) (.cons (.one (.junk _)) (.cons (.nlv rfl) (.cons (.nlv rfl) (.cons (.nlv rfl) (.cons (.nlv rfl) (.cons (.nlv rfl) (.cons (.nlv rfl) (.cons (.one ?_) ?_)))))))))))
    · exact .ptrf (.head _) rfl (by omega) rfl (by simp) rfl fun j hj => by obtain rfl := one0 hj; rfl
    · repeat' (first | exact VSubs.nil | apply VSubs.cons | exact VSub.one (VSub1.junk _))
  unfold gT fpF
  refine s_ass (s_reg (g_run 2 ?_))
  refine g_call (fwithin_ok hx (frIn_of (y := ⟨zs, zl⟩) j1 j3)) ?_
  rintro v rfl
  refine ⟨rfl, ?_⟩
  refine g_run 3 ?_
  refine g_call (fwithin_ok hy (frIn_of (y := ⟨zs, zl⟩) j2 j4)) ?_
  rintro v rfl
  refine ⟨rfl, ?_⟩
  refine g_end ?_
  refine s_f (s_skip ?_)
  refine s_drw (g_run 1 ?_)
  refine g_call (lentFrame_ok hx) ?_
  rintro v rfl
  refine ⟨rfl, ?_⟩
  refine g_run 1 ?_
  refine g_call (En.step_ok hg.fits hx hlv f a) ?_
  rintro v rfl
  refine ⟨rfl, ?_⟩
  refine g_end ?_
  refine s_drw (g_run 1 ?_)
  refine g_call (lentFrame_ok hz) ?_
  rintro v rfl
  refine ⟨rfl, ?_⟩
  refine g_run 2 ?_
  refine g_call (En.step_ok hg.fits hz (lvl := orU lv mo) (orU_U _ _) f a) ?_
  rintro v rfl
  refine ⟨rfl, ?_⟩
  refine g_end ?_
  have hle := stepT_mono (m := m) (f := f) (a := a) (x := x) (z := ⟨zs, zl⟩) j1 j3 (le_orl lv mo)
  have hfit := stepT_fits hx (m := m) (f := f) (a := a) (lvl := lv)
  obtain ⟨S, hS⟩ : ∃ S, stepT m f a x lv = S := ⟨_, rfl⟩
  obtain ⟨S', hS'⟩ : ∃ S', stepT m f a ⟨zs, zl⟩ (orU lv mo) = S' := ⟨_, rfl⟩
  rw [hS] at hle hfit ⊢
  rw [hS'] at hle ⊢
  obtain ⟨st, lo, cd, kp⟩ := S
  obtain ⟨st', lo', cd', kp'⟩ := S'
  obtain ⟨l1, l2, l3, l4⟩ := hle
  simp only at l1 l2 l3 l4 hfit
  refine p_weak [] [0, 1] (T' := gT m f a x y lv mo .junk (fpF st lo) (u64 cd) (.s (.bool kp)) (fpF st' lo') (u64 cd') (.s (.bool kp')) .junk .junk .junk .junk) (hp' := []) (wk _ _ _ _ (vals := ?_)) ?_
  · refine .cons (.one (.junk _)) (.cons (.nlv rfl) (.cons (.nlv rfl) (.cons (.one (.junk _)) (.cons (.one (.junk _)) (.cons (.nlv rfl) (.cons (.nlv rfl) (.cons (.nlv rfl) (.cons (.nlv rfl) (.cons (.nlv rfl) (.cons (.nlv rfl) (.cons (.one (.junk _)) (.cons (.one (.junk _)) (.cons (.one ?_) (.cons (.nlv rfl) (.cons (.nlv rfl) (.cons (.one ?_) (.cons (.nlv rfl) (.cons (.nlv rfl) ?_))))))))))))))))))
    · exact .ptrf (.head _) rfl (by omega) rfl (by simp) rfl fun j hj => by obtain rfl := one0 hj; rfl
    · exact .ptrf (.tail _ (.head _)) rfl (by omega) rfl (by simp) rfl fun j hj => by obtain rfl := one0 hj; rfl
    · repeat' (first | exact VSubs.nil | apply VSubs.cons | exact VSub.one (VSub1.junk _))
  unfold gT fpF
  refine s_ass ?_
  refine s_cut (fun T' hp' => T' = (gT m f a x y lv mo .junk (fpF st lo) (u64 cd) .junk .junk .junk .junk .junk .junk .junk .junk).set 26 (.s (.bool false)) ∧ hp' = []) ?_ ?_
  · refine p_post ?_
    refine e_reg (g_run 7 ?_)
    refine prg_head (v' := .s (.bool false)) (by rw [l1.len]; simp) ?_
    refine g_run 7 ?_
    refine prg_head (v' := .s (.bool false)) (by rw [l2.len]; simp) ?_
    refine g_run 3 ?_
    refine g_call (fwithin_ok hfit (frIn_of (y := ⟨st', lo'⟩) l1 l2)) ?_
    rintro v rfl
    refine ⟨rfl, ?_⟩
    refine g_run 6 ?_
    refine prg_head (v' := .s (.bool false)) (congrArg (fun b => PV.s (.bool b)) (by show (subU cd cd' != 0) = false; rw [subU_zero l3]; rfl)) ?_
    cases kp' with
    | false =>
      refine g_end ?_
      exact ⟨[], [], _, _, wk _ _ _ _, rfl, rfl, rfl⟩
    | true =>
      obtain rfl := l4 rfl
      refine g_end ?_
      exact ⟨[], [], _, _, wk _ _ _ _, rfl, rfl, rfl⟩
  rintro T' hp' ⟨rfl, rfl⟩
  unfold gT fpF
  refine s_f (s_skip ?_)
  refine s_reg (g_run 1 ?_)
  refine g_call (effectE_ok hg.fits f a) ?_
  rintro v rfl
  refine ⟨rfl, ?_⟩
  refine g_end ?_
  by_cases hemp : lo = [] ∧ st = [] ∧ cd = 0
  · obtain ⟨rfl, rfl, rfl⟩ := hemp
    refine s_ass (s_run ?_)
    refine s_t (s_ass (s_run ?_))
    exact s_ret fin_v
  have hok : stepOk m f a x = true := by
    cases h : stepOk m f a x with
    | true => rfl
    | false =>
      unfold stepT at hS
      rw [if_neg (by rw [h]; decide)] at hS
      cases hS
      exact absurd ⟨rfl, rfl, rfl⟩ hemp
  have hok' := hok
  simp only [stepOk, Bool.and_eq_true, decide_eq_true_eq] at hok'
  obtain ⟨ht, h1, h2, h3, h4⟩ := hok'
  obtain ⟨hk, i, j, rfl, rfl, hi, hj⟩ := there_of ht
  obtain ⟨op, A, hxx⟩ : ∃ op A, (fnAt m i).code.getD j (0, 0) = (op, A) := ⟨_, _, rfl⟩
  obtain ⟨hop, hA⟩ := op_ok hk hi hj hxx
  have hE : effT m (i : Int) (j : Int) = effS m i op A := by
    unfold effT
    rw [if_pos ht, Int.toNat_natCast, Int.toNat_natCast, hxx]
  have hput : Puts m i op A x.st lv ⟨st, lo, cd, kp⟩ := by
    rw [← hS]
    unfold stepT
    rw [if_pos hok, Int.toNat_natCast, Int.toNat_natCast, hxx]
    exact stepS_puts hop
  have hsz := effS_small hk hi op A hA
  rw [hE] at h3 h4 ⊢
  obtain ⟨⟨tail, p1, p2, p3⟩, p4⟩ := hput
  obtain ⟨P, Q, hPQ⟩ : ∃ P Q, effS m i op A = (P, Q) := ⟨_, _, rfl⟩
  rw [hPQ] at p1 p2 h3 h4 hsz ⊢
  simp only at p1 p2 p3 p4 h3 h4 hsz
  obtain ⟨pre, hpre⟩ : ∃ pre, x.st.take (x.st.length - P.toNat) = pre := ⟨_, rfl⟩
  have hpl : (pre.length : Int) = x.st.length - P := by rw [← hpre, List.length_take]; omega
  rw [hpre] at p1
  subst p1
  obtain ⟨b1, b2, b3, b4⟩ := hsz
  have hxs := hx.st
  have hfs := hfit.st
  simp only [List.length_append] at hfs
  refine s_ass ?_
  refine s_cut (fun T' hp' => T' = (gT m i j x y lv mo .junk (fpF (pre ++ tail) lo) (u64 cd) .junk .junk .junk .junk (i64 P) (i64 Q) .junk .junk).set 27 (.s (.bool false)) ∧ hp' = []) ?_ ?_
  · refine p_post ?_
    refine e_reg (g_run 4 ?_)
    refine prg_split (fun g1 => ?_) (fun g1 => ?_)
    · refine g_run 4 ?_
      refine prg_split (fun g2 => ?_) (fun g2 => ?_)
      · refine g_run 3 ?_
        refine prg_head (v' := .s (.bool false)) (congrArg (fun b => PV.s (.bool b)) ?_) ?_
        · refine beq_eq_false_iff_ne.2 fun g3 => hemp ⟨List.eq_nil_of_length_eq_zero ?_, List.eq_nil_of_length_eq_zero ?_, g3⟩
          · simpa using g1
          · have g2' : ((pre ++ tail).length : Int) = 0 := by simpa using g2
            omega
        refine g_end ?_
        exact ⟨[], [], _, _, wk _ _ _ _, rfl, rfl, rfl⟩
      · refine g_end ?_
        exact ⟨[], [], _, _, wk _ _ _ _, rfl, rfl, rfl⟩
    · refine g_end ?_
      exact ⟨[], [], _, _, wk _ _ _ _, rfl, rfl, rfl⟩
  rintro T' hp' ⟨rfl, rfl⟩
  unfold gT fpF
  refine s_f (s_skip ?_)
  refine s_reg (g_run 3 ?_)
  refine prg_head (v' := i64 (pre.length + tail.length : Nat)) (by rw [List.length_append]; rfl) ?_
  refine g_end ?_
  refine s_ass (s_reg (g_run 1 ?_))
  refine prg_head (v' := .s (.bool false)) (congrArg (fun b => PV.s (.bool b)) (decide_eq_false (by omega))) ?_
  refine g_run 9 ?_ (hq := by simp only [true_and, and_true, in64]; omega)
  refine prg_head (v' := .s (.bool false)) (congrArg (fun b => PV.s (.bool b)) (bne_eq_false_iff_eq.2 (by omega))) ?_
  refine g_end ?_
  refine s_f (s_skip ?_)
  refine s_ass (s_reg (g_run 1 ?_ (hq := by simp only [true_and, and_true, in64]; omega)))
  refine prg_head (v' := i64 (pre.length : Nat)) (congrArg i64 (by omega)) ?_
  refine g_end ?_
  refine s_loop (ι := Nat) (fun k => pre.length ≤ k ∧ k ≤ pre.length + tail.length) (fun k => pre.length + tail.length - k) (fun k => gT m i j x y lv mo .junk (fpF (pre ++ tail) lo) (u64 cd) .junk .junk .junk .junk .junk .junk (i64 (pre.length + tail.length : Nat)) (i64 (k : Nat))) (fun _ => []) pre.length ⟨Nat.le_refl _, by omega⟩ (σ := []) (fz := []) (wk _ _ _ _) ?_
  rintro k ⟨hk1, hk2⟩
  unfold gT fpF
  refine s_ass (s_run ?_)
  refine s_cond (fun h => ?_) (fun h => ?_)
  · simp only [decide_eq_true_eq] at h
    have hkl : k < pre.length + tail.length := by omega
    refine s_skip (s_block ?_)
    refine s_reg (g_run 6 ?_ (hq := by simp only [true_and, and_true, List.length_append]; omega))
    refine prg_head (v' := .s (.bool false)) (congrArg (fun b => PV.s (.bool b)) ?_) ?_
    · show (subU lv ((pre ++ tail).getD k 0) != 0) = false
      rw [subU_zero]; · rfl
      apply p3
      rw [List.getD_eq_getElem?_getD, List.getElem?_append_right hk1, List.getElem?_eq_getElem (by omega)]
      exact List.getElem_mem _
    refine g_end ?_
    refine e_f (p_skip (e_run ?_))
    exact lp_next (k + 1) ⟨by omega, by omega⟩ (σ := []) (fz := []) (wk _ _ _ _)
  refine s_exit ?_
  have hj' : j < (m.fns.getD i default).code.length := hj
  have hxx' : (m.fns.getD i default).code.getD j (0, 0) = (op, A) := hxx
  refine s_reg (g_run 8 ?_ (hq := by simp only [true_and, and_true]; omega))
  rw [hxx']
  refine g_run 1 ?_
  refine prg_split (fun g1 => ?_) (fun g1 => ?_)
  · refine g_end ?_
    exact p_ret fin_v
  · have h44 : op = 44 := by simpa using g1
    refine g_run 4 ?_
    refine prg_head (v' := .s (.bool true)) (congrArg (fun b => PV.s (.bool b)) (by show (subU lv cd == 0) = true; rw [subU_zero (p4 h44)]; rfl)) ?_
    refine g_end ?_
    exact p_ret fin_v
end Go.Proofs.Ytollibkfagjnaaa.Shape.Kit
