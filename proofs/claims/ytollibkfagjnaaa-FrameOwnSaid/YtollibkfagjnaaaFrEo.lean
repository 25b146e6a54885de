/- The program's step of a frame: its lists are memory of their own. PRINTED by own.py. frame.Entry: its list is memory of its own. PRINTED by own.py. PUT TOGETHER by merge.py. -/
import Derived.Test.YtollibkfagjnaaaShapeKitQ
import Derived.Test.YtollibkfagjnaaaFrE
set_option linter.unusedVariables false
set_option linter.unusedSimpArgs false
set_option maxRecDepth 10000
namespace Go.Proofs.Ytollibkfagjnaaa.Shape.Kit
open Go.Proofs.Ytollibkfagjnaaa.AM
/-- A frame whose two lists are one's own. -/
def FrO (w : PV → PV) (v : PV) (hp : PH) : Prop := ∃ (a b p q : Nat) (ys zs : List Int) (t1 t2 : Bool), v = w (.agg [.vec 1 1 a, .vec 1 2 b]) ∧ hp = [.cel [.vec 1 1 a, .vec 1 2 b], .vec 1 p (rowI .u64 ys) t1, .vec 1 q (rowI .u64 zs) t2] ∧ a ≤ p ∧ b ≤ q ∧ a ≤ 17592186044000 ∧ b ≤ 17592186044000
def StepO (v : PV) (hp : PH) : Prop := ∃ (cd : Int) (kp : Bool), FrO (fun z => .tup [z, u64 cd, .s (.bool kp)]) v hp
theorem stepO_ok {m : Md} (hf : MdFits m) {x : Fr} (hfx : FrFits x) (hwl : x.lo.length ≤ 17592186043904) {lvl : Int} (hlvl : U64 lvl) (f a : Int) : PCall E [] 15 [lentM m, i64 f, i64 a, lentFr x, u64 lvl] [] StepO := by
  have x1 := hfx.st
  have x2 := hfx.lo
  refine p_call (fun _ _ => rfl) rfl ?_
  show PTri E false [] _ [lentM m, i64 f, i64 a, lentFr x, u64 lvl, .junk, .junk, .junk, .junk, .junk, .junk, .junk, .junk, .junk, .junk, .junk, .junk] _ _
  refine s_run ?_
  refine s_ass (s_drw (g_run 1 ?_))
  refine g_call (address_ok hf f a) ?_
  rintro v rfl
  refine ⟨rfl, ?_⟩
  cases ht : thereB m f a with
  | false =>
    refine g_end ?_
    refine s_t (s_ass (s_run ?_))
    refine p_weak [some 2, none, none] [] (T' := [.junk, .junk, .junk, .junk, .junk, .junk, .junk, .ptr 0 0, u64 0, .s (.bool false), .junk, .junk, .junk, .junk, .junk, .junk, .junk]) (hp' := [.cel [.vec 1 1 0, .vec 1 2 0], .vec 1 0 (rowI .u64 []) true, .vec 1 0 (rowI .u64 []) true]) (wk _ _ _ _ (blks := .cons (.cel rfl (by simp) rfl (.cons (.one (.nil rfl)) (.cons (.one (.nil rfl)) .nil))) (.cons (.nil rfl) (.cons (.nil rfl) .nil)))) ?_
    exact s_ret (fin ⟨0, false, 0, 0, 0, 0, [], [], true, true, rfl, rfl, by omega, by omega, by omega, by omega⟩)
  | true =>
    obtain ⟨hok, i, j, rfl, rfl, hi, hj⟩ := there_of ht
    refine g_run 3 ?_
    refine g_call (slocals_ok (.inr rfl) hf) ?_
    rintro v rfl
    refine ⟨rfl, ?_⟩
    refine g_run 4 ?_
    refine prg_split (fun h1 => ?_) (fun h1 => ?_)
    · simp only [bne_iff_ne, ne_eq] at h1
      refine g_end ?_
      refine s_t (s_ass (s_run ?_))
      refine p_weak [some 2, none, none] [] (T' := [.junk, .junk, .junk, .junk, .junk, .junk, .junk, .ptr 0 0, u64 0, .s (.bool false), .junk, .junk, .junk, .junk, .junk, .junk, .junk]) (hp' := [.cel [.vec 1 1 0, .vec 1 2 0], .vec 1 0 (rowI .u64 []) true, .vec 1 0 (rowI .u64 []) true]) (wk _ _ _ _ (blks := .cons (.cel rfl (by simp) rfl (.cons (.one (.nil rfl)) (.cons (.one (.nil rfl)) .nil))) (.cons (.nil rfl) (.cons (.nil rfl) .nil)))) ?_
      exact s_ret (fin ⟨0, false, 0, 0, 0, 0, [], [], true, true, rfl, rfl, by omega, by omega, by omega, by omega⟩)
    simp only [bne_eq_false_iff_eq] at h1
    refine g_run 8 ?_
    refine prg_cast (fptr_one (if_pos hi)) ?_
    refine g_run 3 ?_
    refine prg_split (fun h2 => ?_) (fun h2 => ?_)
    · simp only [gt_iff_lt, decide_eq_true_eq] at h2
      refine g_end ?_
      refine s_t (s_ass (s_run ?_))
      refine p_weak [some 2, none, none] [] (T' := [.junk, .junk, .junk, .junk, .junk, .junk, .junk, .ptr 0 0, u64 0, .s (.bool false), .junk, .junk, .junk, .junk, .junk, .junk, .junk]) (hp' := [.cel [.vec 1 1 0, .vec 1 2 0], .vec 1 0 (rowI .u64 []) true, .vec 1 0 (rowI .u64 []) true]) (wk _ _ _ _ (blks := .cons (.cel rfl (by simp) rfl (.cons (.one (.nil rfl)) (.cons (.one (.nil rfl)) .nil))) (.cons (.nil rfl) (.cons (.nil rfl) .nil)))) ?_
      exact s_ret (fin ⟨0, false, 0, 0, 0, 0, [], [], true, true, rfl, rfl, by omega, by omega, by omega, by omega⟩)
    simp only [gt_iff_lt, decide_eq_false_iff_not] at h2
    refine g_end ?_
    refine s_f (s_skip ?_)
    obtain ⟨op, A, hx⟩ : ∃ op A, (fnAt m i).code.getD j (0, 0) = (op, A) := ⟨_, _, rfl⟩
    obtain ⟨hop, hA⟩ := op_ok hok hi hj hx
    obtain ⟨b1, b2, b3, b4, _⟩ := arg_ok hok hi hj hx
    have hj' : j < (m.fns.getD i default).code.length := hj
    have hE : effT m (i : Int) (j : Int) = effS m i op A := by
      unfold effT
      rw [if_pos ht, Int.toNat_natCast, Int.toNat_natCast, hx]
    refine s_reg (g_run 3 ?_)
    refine prg_cast (fptr_one (if_pos hi)) ?_
    refine g_run 4 ?_
    rw [getD_pre hj', show (m.fns.getD i default).code.getD j (0, 0) = (op, A) from hx]
    refine g_end ?_
    refine s_reg (g_run 2 ?_)
    refine g_call (effect_ok hf hi op A hA) ?_
    rintro v rfl
    refine ⟨rfl, ?_⟩
    have hes := effS_small hok hi op A hA
    obtain ⟨pp, qq, hpq⟩ : ∃ pp qq, effS m i op A = (pp, qq) := ⟨_, _, rfl⟩
    rw [hpq] at hes hE ⊢
    simp only at hes
    refine g_end ?_
    refine s_ass (s_run ?_)
    refine s_ass (s_reg (g_run 1 ?_))
    refine prg_split (fun h3 => ?_) (fun h3 => ?_)
    · simp only [decide_eq_true_eq] at h3
      refine g_end ?_
      refine s_t (s_ass (s_run ?_))
      refine p_weak [some 2, none, none] [] (T' := [.junk, .junk, .junk, .junk, .junk, .junk, .junk, .ptr 0 0, u64 0, .s (.bool false), .junk, .junk, .junk, .junk, .junk, .junk, .junk]) (hp' := [.cel [.vec 1 1 0, .vec 1 2 0], .vec 1 0 (rowI .u64 []) true, .vec 1 0 (rowI .u64 []) true]) (wk _ _ _ _ (blks := .cons (.cel rfl (by simp) rfl (.cons (.one (.nil rfl)) (.cons (.one (.nil rfl)) .nil))) (.cons (.nil rfl) (.cons (.nil rfl) .nil)))) ?_
      exact s_ret (fin ⟨0, false, 0, 0, 0, 0, [], [], true, true, rfl, rfl, by omega, by omega, by omega, by omega⟩)
    simp only [decide_eq_false_iff_not] at h3
    refine g_run 9 ?_
    refine prg_cast (fptr_one (if_pos hi)) ?_
    refine g_run 3 ?_
    refine prg_split (fun h4 => ?_) (fun h4 => ?_)
    · simp only [gt_iff_lt, decide_eq_true_eq] at h4
      refine g_end ?_
      refine s_t (s_ass (s_run ?_))
      refine p_weak [some 2, none, none] [] (T' := [.junk, .junk, .junk, .junk, .junk, .junk, .junk, .ptr 0 0, u64 0, .s (.bool false), .junk, .junk, .junk, .junk, .junk, .junk, .junk]) (hp' := [.cel [.vec 1 1 0, .vec 1 2 0], .vec 1 0 (rowI .u64 []) true, .vec 1 0 (rowI .u64 []) true]) (wk _ _ _ _ (blks := .cons (.cel rfl (by simp) rfl (.cons (.one (.nil rfl)) (.cons (.one (.nil rfl)) .nil))) (.cons (.nil rfl) (.cons (.nil rfl) .nil)))) ?_
      exact s_ret (fin ⟨0, false, 0, 0, 0, 0, [], [], true, true, rfl, rfl, by omega, by omega, by omega, by omega⟩)
    simp only [gt_iff_lt, decide_eq_false_iff_not] at h4
    refine g_end ?_
    refine s_f (s_skip ?_)
    have hsz := ok_size hok hi
    refine s_drw (g_run 2 ?_)
    refine prg_call rfl rfl rfl rfl (cloneO_ok x.st.length (x.st.length + 1) x.st rfl x1) ?_
    rintro v hpc ⟨rfl, rfl⟩
    refine ⟨rfl, rfl, ?_⟩
    refine g_run 2 ?_
    refine prg_call rfl rfl rfl rfl (cloneO_ok x.lo.length (x.lo.length + 1) x.lo rfl x2) ?_
    rintro v hpc ⟨rfl, rfl⟩
    refine ⟨rfl, rfl, ?_⟩
    refine g_end ?_
    refine s_reg (g_run 2 ?_)
    refine prg_scall [6, 4, 5] [] (args' := [.ptr 0 0, lentM m, i64 (i : Nat), .agg [i64 op, i64 A]]) (hpc := wH x.st x.st.length x.lo lvl true) rfl rfl rfl (wk _ [] _ _) rfl (do_ok hf hi hop (fun h => by have := b1 h; omega) b2 b3 hA b4 x.st.length (fun k hk g hg => by have := ok_size hok hk; rw [hg] at this; omega) rfl (by rw [hpq]; simp only; omega) (by have : (fnAt m i).stk = (m.fns.getD i default).stk := rfl; omega) hlvl) ?_
    have hsl := stepS_len (m := m) (i := i) (op := op) (A := A) (xs := x.st) (lo := x.lo) (lvl := lvl) fun e => (ok_size hok (i := A.toNat) (by have := hA e; omega)).2.1
    have hstk : (fnAt m i).stk = (m.fns.getD i default).stk := rfl
    obtain ⟨S, hSS⟩ : ∃ S, stepS m i op A x.st x.lo lvl = S := ⟨_, rfl⟩
    rw [hSS] at hsl ⊢
    obtain ⟨hsl1, hsl2⟩ := hsl
    rintro v hpc' ⟨rfl, (⟨ys, k, hk, hst, rfl⟩ | rfl)⟩
    · refine ⟨rfl, rfl, Nat.le_refl _, ?_⟩
      refine g_end ?_
      refine d_run ?_
      have hkl : k = S.st.length := by rw [hst, List.length_take]; omega
      refine p_weak [some 2, some 4, some 5] [] (T' := [.junk, .junk, .junk, .junk, .junk, .junk, .junk, .ptr 0 0, u64 S.cd, .s (.bool S.kp), .junk, .junk, .junk, .junk, .junk, .junk, .junk]) (hp' := [.cel [.vec 1 1 k, .vec 1 2 S.lo.length], .vec 1 ys.length (rowI .u64 ys) false, .vec 1 S.lo.length (rowI .u64 S.lo) false]) (wk _ _ _ _ (blks := .cons (.cel rfl (by simp) rfl (.cons (.one (.vec rfl rfl)) (.cons (.one (.vec rfl rfl)) .nil))) (.cons bs_same (.cons bs_same .nil)))) ?_
      exact p_ret (fin ⟨S.cd, S.kp, k, S.lo.length, ys.length, S.lo.length, ys, S.lo, false, false, rfl, rfl, hk, Nat.le_refl _, by omega, by omega⟩)
    · refine ⟨rfl, rfl, Nat.le_succ 3, ?_⟩
      refine g_end ?_
      refine d_run ?_
      refine p_weak [some 2, some 7, some 5] [] (T' := [.junk, .junk, .junk, .junk, .junk, .junk, .junk, .ptr 0 0, u64 S.cd, .s (.bool S.kp), .junk, .junk, .junk, .junk, .junk, .junk, .junk]) (hp' := [.cel [.vec 1 1 S.st.length, .vec 1 2 S.lo.length], .vec 1 S.st.length (rowI .u64 S.st) false, .vec 1 S.lo.length (rowI .u64 S.lo) false]) (wk _ _ _ _ (blks := .cons (.cel rfl (by simp) rfl (.cons (.one (.vec rfl rfl)) (.cons (.one (.vec rfl rfl)) .nil))) (.cons bs_same (.cons bs_same .nil)))) ?_
      exact p_ret (fin ⟨S.cd, S.kp, S.st.length, S.lo.length, S.st.length, S.lo.length, S.st, S.lo, false, false, rfl, rfl, Nat.le_refl _, Nat.le_refl _, by omega, by omega⟩)
end Go.Proofs.Ytollibkfagjnaaa.Shape.Kit

namespace Go.Proofs.Ytollibkfagjnaaa.Shape.Kit
open Go.Proofs.Ytollibkfagjnaaa.AM
theorem entryO_ok {m : Md} (hf : MdFits m) (hpl : ∀ g, g ∈ m.fns → g.ps.length ≤ 17592186043904) (f : Int) : PCall E [] 25 [lentM m, i64 f] [] (FrO fun z => z) := by
  have hnil : ∀ {hp : PH} {T : List PV} {k : ACode}, hp.length = 2 → hp[1]? = some (.cel [.s (.slice none 0 0), .s (.slice none 0 0)]) → T.length = 10 → T[3]? = some (.ptr 1 0) → PTri E false [] (.seq .ret k) T hp (retQ [.cell 3 (some 2)] (FrO fun z => z)) := fun {hp T k} h1 h2 h3 h4 => by
    match T, h3, h4 with
    | [t0, t1, t2, t3, t4, t5, t6, t7, t8, t9], _, h4 =>
      cases h4
      refine p_weak [some 1, none, none] [] (T' := [.junk, .junk, .junk, .ptr 0 0, .junk, .junk, .junk, .junk, .junk, .junk]) (hp' := [.cel [.vec 1 1 0, .vec 1 2 0], .vec 1 0 (rowI .u64 []) true, .vec 1 0 (rowI .u64 []) true]) (wk _ _ _ _ (blks := .cons (.cel rfl (by simp) h2 (.cons (.one (.nil rfl)) (.cons (.one (.nil rfl)) .nil))) (.cons (.nil rfl) (.cons (.nil rfl) .nil)))) ?_
      exact s_ret (fin ⟨0, 0, 0, 0, [], [], true, true, rfl, rfl, by omega, by omega, by omega, by omega⟩)
  refine p_call (fun _ _ => rfl) rfl ?_
  show PTri E false [] _ [lentM m, i64 f, .junk, .junk, .junk, .junk, .junk, .junk, .junk, .junk] _ _
  refine s_run ?_
  refine s_ass (s_reg (g_run 1 ?_))
  refine prg_split (fun h => ?_) (fun h => ?_)
  · simp only [decide_eq_true_eq] at h
    refine g_end ?_
    refine s_t (s_ass (s_run ?_))
    exact hnil rfl rfl rfl rfl
  simp only [decide_eq_false_iff_not] at h
  obtain ⟨i, rfl⟩ : ∃ i : Nat, f = i := ⟨f.toNat, by omega⟩
  refine g_run 5 ?_
  refine prg_split (fun h2 => ?_) (fun h2 => ?_)
  · simp only [ge_iff_le, decide_eq_true_eq] at h2
    refine g_end ?_
    refine s_t (s_ass (s_run ?_))
    exact hnil rfl rfl rfl rfl
  simp only [ge_iff_le, decide_eq_false_iff_not] at h2
  have hi : i < m.fns.length := by omega
  have hfn : fnAt m i ∈ m.fns := by
    unfold fnAt
    rw [List.getD_eq_getElem?_getD, List.getElem?_eq_getElem hi]
    exact List.getElem_mem hi
  have hps := (hf.each _ hfn).ps
  have hps2 := hpl _ hfn
  refine g_run 5 ?_
  refine prg_cast (fptr_one (if_pos hi)) ?_
  refine g_run 3 ?_
  refine prg_split (fun h3 => ?_) (fun h3 => ?_)
  · have h3' : (fnAt m i).loc < 0 := of_decide_eq_true h3
    refine g_end ?_
    refine s_t (s_ass (s_run ?_))
    exact hnil rfl rfl rfl rfl
  have h3' : ¬ (fnAt m i).loc < 0 := of_decide_eq_false h3
  refine g_run 5 ?_
  refine prg_cast (fptr_one (if_pos hi)) ?_
  refine g_run 3 ?_
  refine prg_split (fun h4 => ?_) (fun h4 => ?_)
  · have h4' : (fnAt m i).loc > 32 := of_decide_eq_true h4
    refine g_end ?_
    refine s_t (s_ass (s_run ?_))
    exact hnil rfl rfl rfl rfl
  have h4' : ¬ (fnAt m i).loc > 32 := of_decide_eq_false h4
  obtain ⟨N, hN⟩ : ∃ N : Nat, (fnAt m i).loc = N := ⟨(fnAt m i).loc.toNat, by omega⟩
  refine g_end ?_
  refine s_f (s_skip ?_)
  refine s_reg (g_run 3 ?_)
  refine prg_cast (fptr_one (if_pos hi)) ?_
  refine g_end ?_
  refine p_weak [some 1] [2] (T' := [.junk, .junk, .junk, .ptr 0 0, .fptr 6 1 (fun _ => lentCells (fnAt m i)) 0 0, .junk, .junk, .junk, .junk, .junk]) (hp' := [.cel [.s (.slice none 0 0), .s (.slice none 0 0)]]) (wk _ _ _ _ (vals := ?_)) ?_
  · refine .cons (.one (.junk _)) (.cons (.one (.junk _)) (.cons (.one (.junk _)) (.cons (.one (.ptr rfl)) (.cons (.one ?_) ?_))))
    · exact .ptrf (.head _) rfl (by omega) rfl (by simp [lentCells]) rfl fun j hj => by
        have : j = 0 := by omega
        subst this; rfl
    · repeat' (first | exact VSubs.nil | apply VSubs.cons | exact VSub.one (VSub1.junk _))
  refine s_reg (g_run 2 ?_)
  refine prg_call rfl rfl rfl rfl (cloneO_ok (fnAt m i).ps.length ((fnAt m i).ps.length + 1) (fnAt m i).ps rfl hps) ?_
  rintro v hpc ⟨rfl, rfl⟩
  refine ⟨rfl, rfl, ?_⟩
  refine g_end ?_
  refine s_ass (s_run ?_)
  rw [hN]
  refine s_loop (ι := Nat) (fun j => j ≤ N) (fun j => N - j) (fun j => [.junk, .junk, .junk, .ptr 0 0, .fptr 6 1 (fun _ => lentCells (fnAt m i)) 0 0, .vec 1 1 ((fnAt m i).ps ++ List.replicate j (fnAt m i).lvl).length, .junk, i64 (N : Nat), i64 (j : Nat), .junk]) (fun j => [.cel [.s (.slice none 0 0), .s (.slice none 0 0)], .vec 1 ((fnAt m i).ps ++ List.replicate j (fnAt m i).lvl).length (rowI .u64 ((fnAt m i).ps ++ List.replicate j (fnAt m i).lvl)) false]) 0 (Nat.zero_le _) (σ := [some 0, some 1]) (fz := []) (wk _ _ _ _ (vals := ?_) (blks := .cons bs_cel (.cons (bs_vec ?_ fun j hj => ?_) .nil))) ?_
  · have : (fnAt m i).ps.length = ((fnAt m i).ps ++ List.replicate 0 (fnAt m i).lvl).length := by simp
    repeat' (first | exact VSubs.nil | apply VSubs.cons | exact VSub.one (VSub1.junk _) | exact VSub.nlv rfl | exact VSub.one (VSub1.ptr rfl) | exact VSub.one (VSub1.vec rfl this))
  · show ((fnAt m i).ps ++ List.replicate 0 (fnAt m i).lvl).length = (fnAt m i).ps.length
    simp
  · show rowI .u64 (fnAt m i).ps j = rowI .u64 ((fnAt m i).ps ++ List.replicate 0 (fnAt m i).lvl) j
    simp
  · intro j hj
    obtain ⟨L, hL⟩ : ∃ L, (fnAt m i).ps ++ List.replicate j (fnAt m i).lvl = L := ⟨_, rfl⟩
    have hLl : L.length = (fnAt m i).ps.length + j := by rw [← hL]; simp
    rw [hL]
    refine s_run ?_
    refine s_cond (fun h5 => ?_) (fun h5 => ?_)
    · simp only [decide_eq_true_eq] at h5
      refine s_skip (s_block ?_)
      refine e_run ?_ (hq := by simp only [true_and, and_true, room]; omega)
      refine e_run ?_
      refine lp_next (j + 1) (by omega) (σ := [some 0, some 3]) (fz := []) (wk _ _ _ _ (vals := ?_) (blks := .cons bs_cel (.cons (bs_vec ?_ fun q hq => ?_) .nil)))
      · have : L.length + 1 = ((fnAt m i).ps ++ List.replicate (j + 1) (fnAt m i).lvl).length := by rw [hLl]; simp; omega
        repeat' (first | exact VSubs.nil | apply VSubs.cons | exact VSub.one (VSub1.junk _) | exact VSub.nlv rfl | exact VSub.one (VSub1.ptr rfl) | exact VSub.one (VSub1.vec rfl this))
      · rw [hLl]; simp; omega
      · rw [← app_rep, hL] at hq ⊢
        exact row_grow (by simpa using hq)
    · simp only [decide_eq_false_iff_not] at h5
      have hjN : j = N := by omega
      subst hjN
      refine s_exit ?_
      refine s_run ?_
      refine p_weak [some 0, none, some 1] [] (T' := [.junk, .junk, .junk, .ptr 0 0, .junk, .junk, .junk, .junk, .junk, .junk]) (hp' := [.cel [.vec 1 1 0, .vec 1 2 L.length], .vec 1 0 (rowI .u64 []) true, .vec 1 L.length (rowI .u64 L) false]) (wk _ _ _ _ (blks := .cons (.cel rfl (by simp) rfl (.cons (.one (.nil rfl)) (.cons (.one (.vec rfl rfl)) .nil))) (.cons (.nil rfl) (.cons bs_same .nil)))) ?_
      exact p_ret (fin ⟨0, L.length, 0, L.length, [], L, true, false, rfl, rfl, by omega, Nat.le_refl _, by omega, by omega⟩)
end Go.Proofs.Ytollibkfagjnaaa.Shape.Kit

