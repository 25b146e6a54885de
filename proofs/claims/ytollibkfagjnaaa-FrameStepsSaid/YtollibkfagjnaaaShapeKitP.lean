/- The document's step of a frame. PRINTED by genP.py. -/
import Derived.Test.YtollibkfagjnaaaShapeKitN
set_option linter.unusedVariables false
set_option linter.unusedSimpArgs false
set_option maxRecDepth 10000
namespace Go.Proofs.Ytollibkfagjnaaa.Shape.Kit
open Go.Proofs.Ytollibkfagjnaaa.AM
theorem row_push {xs : List Int} {r : Nat} (hr : r ≤ xs.length) (ys : List Int) {g : Nat → List PV} (hg : ∀ i, i < ys.length → g i = rowI .u64 ys i) {i : Nat} (hi : i < (xs.take r ++ ys).length) : (if i < r then rowI .u64 xs i else g (i - r)) = rowI .u64 (xs.take r ++ ys) i := by
  have hl : (xs.take r).length = r := by rw [List.length_take]; omega
  rw [List.length_append, hl] at hi
  by_cases h : i < r
  · rw [if_pos h]
    unfold rowI
    rw [getD_pre (by omega)]
    simp only [List.getD_eq_getElem?_getD, List.getElem?_take, if_pos h]
  · rw [if_neg h, hg _ (by omega)]
    unfold rowI
    simp only [List.getD_eq_getElem?_getD, List.getElem?_append_right (show (xs.take r).length ≤ i by omega), hl]
theorem row_take {xs : List Int} {r : Nat} {i : Nat} (hi : i < r) : rowI .u64 xs i = rowI .u64 (xs.take r) i := by
  simp only [rowI, List.getD_eq_getElem?_getD, List.getElem?_take, if_pos hi]
/-- Within, one after another. -/
def kF (k0 : Bool) (lvl : Int) (l r : List Int) : Nat → Bool
  | 0 => k0
  | i + 1 => kF k0 lvl l r i && inU (orU (l.getD i 0) lvl) (r.getD i 0)
theorem kF_eq (k0 : Bool) (lvl : Int) (l r : List Int) : ∀ i, kF k0 lvl l r i = (k0 && needF lvl l r i)
  | 0 => by simp [kF, needF]
  | i + 1 => by rw [kF, kF_eq k0 lvl l r i, needF, needB, join2, Bool.and_assoc]
set_option maxHeartbeats 4000000 in
theorem rstep_ok {m : Md} (hf : MdFits m) {x : Fr} (hfx : FrFits x) {lvl : Int} (hlvl : U64 lvl) (f a : Int) : PFun E 16 [encM m, i64 f, i64 a, encFr x, u64 lvl] (valQ (isV (encS (stepT m f a x lvl)))) := by
  have x1 := hfx.st
  have x2 := hfx.lo
  refine p_fun ?_
  show PTri E false [] _ [encM m, i64 f, i64 a, encFr x, u64 lvl, .junk, .junk, .junk, .junk, .junk, .junk, .junk, .junk, .junk, .junk, .junk, .junk, .junk, .junk, .junk, .junk, .junk, .junk, .junk, .junk, .junk, .junk, .junk, .junk, .junk, .junk, .junk, .junk, .junk, .junk, .junk, .junk, .junk, .junk, .junk, .junk, .junk, .junk, .junk, .junk] _ _
  refine s_run ?_
  refine s_ass (s_drw (g_run 1 ?_))
  refine g_call (there_ok hf f a) ?_
  rintro v rfl
  refine ⟨rfl, ?_⟩
  cases ht : thereB m f a with
  | false =>
    refine g_end ?_
    rw [show stepT m f a x lvl = ⟨[], [], 0, false⟩ by unfold stepT; rw [if_neg (by simp [stepOk, ht])]]
    refine s_t (s_ass (s_run ?_))
    refine p_weak [some 2] [] (T' := [.junk, .junk, .junk, .junk, .junk, .junk, .junk, .ptr 0 0, u64 0, .s (.bool (false)), .junk, .junk, .junk, .junk, .junk, .junk, .junk, .junk, .junk, .junk, .junk, .junk, .junk, .junk, .junk, .junk, .junk, .junk, .junk, .junk, .junk, .junk, .junk, .junk, .junk, .junk, .junk, .junk, .junk, .junk, .junk, .junk, .junk, .junk, .junk]) (hp' := [.cel [encU [], encU []]]) (wk _ _ _ _ (blks := .cons (.cel rfl (by simp) rfl (.cons (.one .nilf) (.cons (.one .nilf) .nil))) .nil)) ?_
    exact s_ret fin_v
  | true =>
    obtain ⟨hok, i, j, rfl, rfl, hi, hj⟩ := there_of ht
    refine g_run 3 ?_
    refine g_call (rlocals_ok (.inl rfl) hf) ?_
    rintro v rfl
    refine ⟨rfl, ?_⟩
    refine g_run 4 ?_
    refine prg_split (fun h1 => ?_) (fun h1 => ?_)
    · simp only [bne_iff_ne, ne_eq] at h1
      refine g_end ?_
      rw [show stepT m i j x lvl = ⟨[], [], 0, false⟩ by unfold stepT; rw [if_neg (by simp [stepOk, h1])]]
      refine s_t (s_ass (s_run ?_))
      refine p_weak [some 2] [] (T' := [.junk, .junk, .junk, .junk, .junk, .junk, .junk, .ptr 0 0, u64 0, .s (.bool (false)), .junk, .junk, .junk, .junk, .junk, .junk, .junk, .junk, .junk, .junk, .junk, .junk, .junk, .junk, .junk, .junk, .junk, .junk, .junk, .junk, .junk, .junk, .junk, .junk, .junk, .junk, .junk, .junk, .junk, .junk, .junk, .junk, .junk, .junk, .junk]) (hp' := [.cel [encU [], encU []]]) (wk _ _ _ _ (blks := .cons (.cel rfl (by simp) rfl (.cons (.one .nilf) (.cons (.one .nilf) .nil))) .nil)) ?_
      exact s_ret fin_v
    simp only [bne_eq_false_iff_eq] at h1
    refine g_run 11 ?_
    refine prg_split (fun h2 => ?_) (fun h2 => ?_)
    · simp only [gt_iff_lt, decide_eq_true_eq] at h2
      refine g_end ?_
      rw [show stepT m i j x lvl = ⟨[], [], 0, false⟩ by unfold stepT; rw [if_neg (by simp only [stepOk, Bool.and_eq_true, decide_eq_true_eq, Int.toNat_natCast]; have : (fnAt m i).stk = (m.fns.getD i default).stk := rfl; omega)]]
      refine s_t (s_ass (s_run ?_))
      refine p_weak [some 2] [] (T' := [.junk, .junk, .junk, .junk, .junk, .junk, .junk, .ptr 0 0, u64 0, .s (.bool (false)), .junk, .junk, .junk, .junk, .junk, .junk, .junk, .junk, .junk, .junk, .junk, .junk, .junk, .junk, .junk, .junk, .junk, .junk, .junk, .junk, .junk, .junk, .junk, .junk, .junk, .junk, .junk, .junk, .junk, .junk, .junk, .junk, .junk, .junk, .junk]) (hp' := [.cel [encU [], encU []]]) (wk _ _ _ _ (blks := .cons (.cel rfl (by simp) rfl (.cons (.one .nilf) (.cons (.one .nilf) .nil))) .nil)) ?_
      exact s_ret fin_v
    simp only [gt_iff_lt, decide_eq_false_iff_not] at h2
    refine g_end ?_
    refine s_f (s_skip ?_)
    obtain ⟨op, A, hx⟩ : ∃ op A, (fnAt m i).code.getD j (0, 0) = (op, A) := ⟨_, _, rfl⟩
    obtain ⟨hop, hA⟩ := op_ok hok hi hj hx
    obtain ⟨b1, b2, b3, b4, _⟩ := arg_ok hok hi hj hx
    have hj' : j < (m.fns.getD i default).code.length := hj
    have hE : effT m (i : Int) (j : Int) = effS m i op A := by
      unfold effT
      rw [if_pos ht, Int.toNat_natCast, Int.toNat_natCast, hx]
    refine s_reg (g_run 1 ?_)
    refine g_call (reffect_ok hf i j) ?_
    rintro v rfl
    refine ⟨rfl, ?_⟩
    have hes := effS_small hok hi op A hA
    obtain ⟨pp, qq, hpq⟩ : ∃ pp qq, effS m i op A = (pp, qq) := ⟨_, _, rfl⟩
    rw [hpq] at hes hE
    rw [hE]
    simp only at hes
    refine g_end ?_
    refine s_run ?_
    refine s_ass (s_reg (g_run 1 ?_))
    refine prg_split (fun h3 => ?_) (fun h3 => ?_)
    · simp only [decide_eq_true_eq] at h3
      refine g_end ?_
      rw [show stepT m i j x lvl = ⟨[], [], 0, false⟩ by unfold stepT; rw [if_neg (by simp only [stepOk, Bool.and_eq_true, decide_eq_true_eq, hE]; omega)]]
      refine s_t (s_ass (s_run ?_))
      refine p_weak [some 2] [] (T' := [.junk, .junk, .junk, .junk, .junk, .junk, .junk, .ptr 0 0, u64 0, .s (.bool (false)), .junk, .junk, .junk, .junk, .junk, .junk, .junk, .junk, .junk, .junk, .junk, .junk, .junk, .junk, .junk, .junk, .junk, .junk, .junk, .junk, .junk, .junk, .junk, .junk, .junk, .junk, .junk, .junk, .junk, .junk, .junk, .junk, .junk, .junk, .junk]) (hp' := [.cel [encU [], encU []]]) (wk _ _ _ _ (blks := .cons (.cel rfl (by simp) rfl (.cons (.one .nilf) (.cons (.one .nilf) .nil))) .nil)) ?_
      exact s_ret fin_v
    simp only [decide_eq_false_iff_not] at h3
    refine g_run 12 ?_
    refine prg_split (fun h4 => ?_) (fun h4 => ?_)
    · simp only [gt_iff_lt, decide_eq_true_eq] at h4
      refine g_end ?_
      rw [show stepT m i j x lvl = ⟨[], [], 0, false⟩ by unfold stepT; rw [if_neg (by simp only [stepOk, Bool.and_eq_true, decide_eq_true_eq, hE, Int.toNat_natCast]; have : (fnAt m i).stk = (m.fns.getD i default).stk := rfl; omega)]]
      refine s_t (s_ass (s_run ?_))
      refine p_weak [some 2] [] (T' := [.junk, .junk, .junk, .junk, .junk, .junk, .junk, .ptr 0 0, u64 0, .s (.bool (false)), .junk, .junk, .junk, .junk, .junk, .junk, .junk, .junk, .junk, .junk, .junk, .junk, .junk, .junk, .junk, .junk, .junk, .junk, .junk, .junk, .junk, .junk, .junk, .junk, .junk, .junk, .junk, .junk, .junk, .junk, .junk, .junk, .junk, .junk, .junk]) (hp' := [.cel [encU [], encU []]]) (wk _ _ _ _ (blks := .cons (.cel rfl (by simp) rfl (.cons (.one .nilf) (.cons (.one .nilf) .nil))) .nil)) ?_
      exact s_ret fin_v
    simp only [gt_iff_lt, decide_eq_false_iff_not] at h4
    refine g_end ?_
    refine s_f (s_skip ?_)
    have hS : stepT m i j x lvl = stepS m i op A x.st x.lo lvl := by
      unfold stepT
      rw [if_pos (by simp only [stepOk, Bool.and_eq_true, decide_eq_true_eq, hE, Int.toNat_natCast]; have : (fnAt m i).stk = (m.fns.getD i default).stk := rfl; exact ⟨ht, h1, by omega, by omega, by omega⟩), Int.toNat_natCast, Int.toNat_natCast, hx]
    rw [hS]
    obtain ⟨p, rfl⟩ : ∃ p : Nat, pp = p := ⟨pp.toNat, by omega⟩
    obtain ⟨r, hr⟩ : ∃ r, x.st.length = r + p := ⟨x.st.length - p, by omega⟩
    have hsz := ok_size hok hi
    have hsm : x.st.length ≤ 64 := by have : (fnAt m i).stk = (m.fns.getD i default).stk := rfl; omega
    have hrr : x.st.length - p = r := by omega
    have hrl : (x.st.take r).length = r := by rw [List.length_take]; omega
    have hpl : (x.st.drop r).length = p := by rw [List.length_drop]; omega
    refine s_run ?_
    refine s_drw (g_run 5 ?_)
    refine prg_head (v' := i64 (r : Nat)) (by unfold i64; congr 2; omega) ?_
    refine g_end ?_ (hq := by simp only [room, true_and, and_true]; omega)
    refine s_run ?_ (hq := by simp only [room, true_and, and_true]; omega)
    refine s_reg (g_run 3 ?_)
    refine prg_head (v' := i64 (r : Nat)) (by unfold i64; congr 2; omega) ?_
    refine g_run 1 ?_
    refine prg_cast (v' := .frz 1 p p (rowI .u64 (x.st.drop r))) (by rw [show x.st.length - r = p by omega]; exact frz_cast (Nat.le_refl _) (Nat.le_refl _) (fun i hi => by simp only [rowI, List.getD_eq_getElem?_getD, List.getElem?_drop])) ?_
    refine g_end ?_
    refine s_run ?_
    refine s_ass (s_run ?_)
    refine s_loop (fun c => c ≤ p) (fun c => p - c) (fun c => [encM m, i64 (i : Nat), i64 (j : Nat), encFr x, u64 lvl, .ptr 0 0, .ptr 1 0, .ptr 2 0, u64 0, .s (.bool false), .junk, .junk, .junk, .ptr 3 0, .frz 1 p p (rowI .u64 (x.st.drop r)), u64 (((x.st.drop r).take c).foldl orU lvl), i64 (c : Nat), .junk, .junk, .junk, .junk, .junk, .junk, .junk, .junk, .junk, .junk, .junk, .junk, .junk, .junk, .junk, .junk, .junk, .junk, .junk, .junk, .junk, .junk, .junk, .junk, .junk, .junk, .junk, .junk]) (fun c => [.cel (cellsM m), .cel [encU x.st, encU x.lo], .cel [.s (.slice none 0 0), .s (.slice none 0 0)], .cel [.vec 1 4 r, .vec 1 5 x.lo.length], (.vec 1 r (rowI .u64 x.st) true), .vec 1 x.lo.length (rowI .u64 x.lo) true]) 0 (Nat.zero_le _) (wk [some 0, some 1, some 2, some 3, some 4, some 5] [] _ _ (blks := ?_)) ?_
    · refine .cons bs_cel (.cons bs_cel (.cons bs_cel (.cons (.cel rfl (by simp) rfl (.cons (.one (.vec rfl rfl)) (.cons (.one (.vec rfl rfl)) .nil))) (.cons bs_same (.cons bs_same .nil)))))
    intro c hc
    refine s_ass (s_run ?_)
    refine s_cond (fun h => ?_) (fun h => ?_)
    · simp only [decide_eq_true_eq] at h
      have hcp : c < p := by omega
      refine s_skip (s_block (e_run ?_))
      refine e_run ?_
      have e : orU (((x.st.drop r).take c).foldl orU lvl) ((x.st.drop r).getD c 0) = ((x.st.drop r).take (c + 1)).foldl orU lvl := by
        rw [List.take_succ_eq_append_getElem (by omega), List.foldl_append, List.getD_eq_getElem?_getD, List.getElem?_eq_getElem (by omega)]
        rfl
      refine lp_next (c + 1) (by omega) (σ := [some 0, some 1, some 2, some 3, some 4, some 5]) (fz := []) ?_
      rw [← e]
      exact wk _ _ _ _
    simp only [decide_eq_false_iff_not] at h
    have hcp : p = c := by omega
    subst hcp
    refine s_exit ?_
    obtain ⟨all, hall⟩ : ∃ all, (x.st.drop r).foldl orU lvl = all := ⟨_, rfl⟩
    have hall' : ((x.st.drop r).take p).foldl orU lvl = all := by rw [List.take_of_length_le (by omega)]; exact hall
    rw [hall']
    refine s_reg (g_run 7 ?_)
    rw [show (m.fns.getD i default).code.getD j (0, 0) = (op, A) from hx]
    refine g_end ?_
    refine s_run ?_
    refine s_run ?_
    refine s_ass (s_run ?_)
    refine s_block ?_
    by_cases h32 : op = 32
    · subst h32
      have hSS : stepS m i 32 A x.st x.lo lvl = ⟨x.st.take r ++ [lvl], x.lo, 0, true⟩ := by
        unfold stepS; rw [hpq]; simp only [Int.toNat_natCast, hrr, hall]; rfl
      rw [hSS]
      repeat (first | refine s_ass ?_ | refine s_t ?_ | refine s_f ?_ | refine s_skip ?_ | refine s_block ?_ | refine s_run ?_ (hq := by (try simp only [in64, room, and_true, true_and]); (try omega)) | refine e_t ?_ | refine e_f ?_ | refine p_skip ?_ | refine p_block ?_ | refine e_run ?_ (hq := by (try simp only [in64, room, and_true, true_and]); (try omega)) | (refine s_cond (fun h => ?_) (fun _ => ?_); (focus (exfalso; simp only [beq_iff_eq] at h; contradiction))) | (refine e_cond (fun h => ?_) (fun _ => ?_); (focus (exfalso; simp only [beq_iff_eq] at h; contradiction))))
      refine p_weak [some 2] [8, 5] (T' := [.junk, .junk, .junk, .junk, .junk, .junk, .junk, .ptr 0 0, u64 0, .s (.bool (true)), .junk, .junk, .junk, .junk, .junk, .junk, .junk, .junk, .junk, .junk, .junk, .junk, .junk, .junk, .junk, .junk, .junk, .junk, .junk, .junk, .junk, .junk, .junk, .junk, .junk, .junk, .junk, .junk, .junk, .junk, .junk, .junk, .junk, .junk, .junk]) (hp' := [.cel [encU (x.st.take r ++ [lvl]), encU (x.lo)]]) (wk _ _ _ _ (blks := .cons (.cel rfl (by simp) rfl (.cons (.one (.vecf (.head _) rfl (by simp [hrl]) (Nat.le_refl _) (by simp [hrl]) fun i hi => row_push (by omega) [lvl] (fun i hi => one_rowU i hi) hi)) (.cons (.one (.vecf (.tail _ (.head _)) rfl (rfl) (Nat.le_refl _) (Nat.le_refl _) fun i hi => rfl)) .nil))) .nil)) ?_
      exact p_ret fin_v
    by_cases h33 : op = 33
    · subst h33
      obtain ⟨a, rfl⟩ : ∃ a : Nat, A = a := ⟨A.toNat, by have := b1 (.inl rfl); omega⟩
      have ha : a < x.lo.length := by have := b1 (.inl rfl); omega
      have hSS : stepS m i 33 a x.st x.lo lvl = ⟨x.st.take r ++ [orU (x.lo.getD a 0) lvl], x.lo, 0, true⟩ := by
        unfold stepS; rw [hpq]; simp only [Int.toNat_natCast, hrr, hall]; rfl
      rw [hSS]
      repeat (first | refine s_ass ?_ | refine s_t ?_ | refine s_f ?_ | refine s_skip ?_ | refine s_block ?_ | refine s_run ?_ (hq := by (try simp only [in64, room, and_true, true_and]); (try omega)) | refine e_t ?_ | refine e_f ?_ | refine p_skip ?_ | refine p_block ?_ | refine e_run ?_ (hq := by (try simp only [in64, room, and_true, true_and]); (try omega)) | (refine s_cond (fun h => ?_) (fun _ => ?_); (focus (exfalso; simp only [beq_iff_eq] at h; contradiction))) | (refine e_cond (fun h => ?_) (fun _ => ?_); (focus (exfalso; simp only [beq_iff_eq] at h; contradiction))))
      refine ed_run ?_ (hq := by simp only [room, true_and, and_true]; omega)
      refine s_run ?_
      refine p_weak [some 2] [8, 5] (T' := [.junk, .junk, .junk, .junk, .junk, .junk, .junk, .ptr 0 0, u64 0, .s (.bool (true)), .junk, .junk, .junk, .junk, .junk, .junk, .junk, .junk, .junk, .junk, .junk, .junk, .junk, .junk, .junk, .junk, .junk, .junk, .junk, .junk, .junk, .junk, .junk, .junk, .junk, .junk, .junk, .junk, .junk, .junk, .junk, .junk, .junk, .junk, .junk]) (hp' := [.cel [encU (x.st.take r ++ [orU (x.lo.getD a 0) lvl]), encU (x.lo)]]) (wk _ _ _ _ (blks := .cons (.cel rfl (by simp) rfl (.cons (.one (.vecf (.head _) rfl (by simp [hrl]) (Nat.le_refl _) (by simp [hrl]) fun i hi => row_push (by omega) [orU (x.lo.getD a 0) lvl] (fun i hi => one_rowU i hi) hi)) (.cons (.one (.vecf (.tail _ (.head _)) rfl (rfl) (Nat.le_refl _) (Nat.le_refl _) fun i hi => rfl)) .nil))) .nil)) ?_
      exact p_ret fin_v
    by_cases h34 : op = 34
    · subst h34
      obtain ⟨a, rfl⟩ : ∃ a : Nat, A = a := ⟨A.toNat, by have := b1 (.inr rfl); omega⟩
      have ha : a < x.lo.length := by have := b1 (.inr rfl); omega
      have hSS : stepS m i 34 a x.st x.lo lvl = ⟨x.st.take r, x.lo.set a all, 0, true⟩ := by
        unfold stepS; rw [hpq]; simp only [Int.toNat_natCast, hrr, hall]; rfl
      rw [hSS]
      repeat (first | refine s_ass ?_ | refine s_t ?_ | refine s_f ?_ | refine s_skip ?_ | refine s_block ?_ | refine s_run ?_ (hq := by (try simp only [in64, room, and_true, true_and]); (try omega)) | refine e_t ?_ | refine e_f ?_ | refine p_skip ?_ | refine p_block ?_ | refine e_run ?_ (hq := by (try simp only [in64, room, and_true, true_and]); (try omega)) | (refine s_cond (fun h => ?_) (fun _ => ?_); (focus (exfalso; simp only [beq_iff_eq] at h; contradiction))) | (refine e_cond (fun h => ?_) (fun _ => ?_); (focus (exfalso; simp only [beq_iff_eq] at h; contradiction))))
      refine p_weak [some 2] [4, 5] (T' := [.junk, .junk, .junk, .junk, .junk, .junk, .junk, .ptr 0 0, u64 0, .s (.bool (true)), .junk, .junk, .junk, .junk, .junk, .junk, .junk, .junk, .junk, .junk, .junk, .junk, .junk, .junk, .junk, .junk, .junk, .junk, .junk, .junk, .junk, .junk, .junk, .junk, .junk, .junk, .junk, .junk, .junk, .junk, .junk, .junk, .junk, .junk, .junk]) (hp' := [.cel [encU (x.st.take r), encU (x.lo.set a all)]]) (wk _ _ _ _ (blks := .cons (.cel rfl (by simp) rfl (.cons (.one (.vecf (.head _) rfl (hrl.symm) (Nat.le_refl _) (by rw [hrl]; exact Nat.le_refl _) fun i hi => row_take (by rw [hrl] at hi; exact hi))) (.cons (.one (.vecf (.tail _ (.head _)) rfl (by rw [List.length_set]) (Nat.le_refl _) (Nat.le_of_eq (by simp)) fun i hi => row1_set (en := fun n => .s (.int .u64 n)) (d := 0) (u64 _) rfl (by rw [List.length_set] at hi; exact hi))) .nil))) .nil)) ?_
      exact p_ret fin_v
    by_cases h35 : op = 35
    · subst h35
      obtain ⟨a, rfl⟩ : ∃ a : Nat, A = a := ⟨A.toNat, by have := b2 (.inl rfl); omega⟩
      have ha : a < m.gs.length := by have := b2 (.inl rfl); omega
      have hSS : stepS m i 35 a x.st x.lo lvl = ⟨x.st.take r ++ [orU (m.gs.getD a 0) lvl], x.lo, 0, true⟩ := by
        unfold stepS; rw [hpq]; simp only [Int.toNat_natCast, hrr, hall]; rfl
      rw [hSS]
      repeat (first | refine s_ass ?_ | refine s_t ?_ | refine s_f ?_ | refine s_skip ?_ | refine s_block ?_ | refine s_run ?_ (hq := by (try simp only [in64, room, and_true, true_and]); (try omega)) | refine e_t ?_ | refine e_f ?_ | refine p_skip ?_ | refine p_block ?_ | refine e_run ?_ (hq := by (try simp only [in64, room, and_true, true_and]); (try omega)) | (refine s_cond (fun h => ?_) (fun _ => ?_); (focus (exfalso; simp only [beq_iff_eq] at h; contradiction))) | (refine e_cond (fun h => ?_) (fun _ => ?_); (focus (exfalso; simp only [beq_iff_eq] at h; contradiction))))
      refine ed_run ?_ (hq := by simp only [room, true_and, and_true]; omega)
      refine s_run ?_
      refine p_weak [some 2] [8, 5] (T' := [.junk, .junk, .junk, .junk, .junk, .junk, .junk, .ptr 0 0, u64 0, .s (.bool (true)), .junk, .junk, .junk, .junk, .junk, .junk, .junk, .junk, .junk, .junk, .junk, .junk, .junk, .junk, .junk, .junk, .junk, .junk, .junk, .junk, .junk, .junk, .junk, .junk, .junk, .junk, .junk, .junk, .junk, .junk, .junk, .junk, .junk, .junk, .junk]) (hp' := [.cel [encU (x.st.take r ++ [orU (m.gs.getD a 0) lvl]), encU (x.lo)]]) (wk _ _ _ _ (blks := .cons (.cel rfl (by simp) rfl (.cons (.one (.vecf (.head _) rfl (by simp [hrl]) (Nat.le_refl _) (by simp [hrl]) fun i hi => row_push (by omega) [orU (m.gs.getD a 0) lvl] (fun i hi => one_rowU i hi) hi)) (.cons (.one (.vecf (.tail _ (.head _)) rfl (rfl) (Nat.le_refl _) (Nat.le_refl _) fun i hi => rfl)) .nil))) .nil)) ?_
      exact p_ret fin_v
    by_cases h36 : op = 36
    · subst h36
      obtain ⟨a, rfl⟩ : ∃ a : Nat, A = a := ⟨A.toNat, by have := b2 (.inr rfl); omega⟩
      have ha : a < m.gs.length := by have := b2 (.inr rfl); omega
      have hSS : stepS m i 36 a x.st x.lo lvl = ⟨x.st.take r, x.lo, 0, inU (orU all lvl) (m.gs.getD a 0)⟩ := by
        unfold stepS; rw [hpq]; simp only [Int.toNat_natCast, hrr, hall]; rfl
      rw [hSS]
      repeat (first | refine s_ass ?_ | refine s_t ?_ | refine s_f ?_ | refine s_skip ?_ | refine s_block ?_ | refine s_run ?_ (hq := by (try simp only [in64, room, and_true, true_and]); (try omega)) | refine e_t ?_ | refine e_f ?_ | refine p_skip ?_ | refine p_block ?_ | refine e_run ?_ (hq := by (try simp only [in64, room, and_true, true_and]); (try omega)) | (refine s_cond (fun h => ?_) (fun _ => ?_); (focus (exfalso; simp only [beq_iff_eq] at h; contradiction))) | (refine e_cond (fun h => ?_) (fun _ => ?_); (focus (exfalso; simp only [beq_iff_eq] at h; contradiction))))
      refine e_reg (g_run 6 ?_)
      refine g_call (rwithin_ok all lvl (m.gs.getD a 0)) ?_
      rintro v rfl
      refine ⟨rfl, ?_⟩
      refine g_end ?_
      refine s_run ?_
      refine p_weak [some 2] [4, 5] (T' := [.junk, .junk, .junk, .junk, .junk, .junk, .junk, .ptr 0 0, u64 0, .s (.bool (inU (orU all lvl) (m.gs.getD a 0))), .junk, .junk, .junk, .junk, .junk, .junk, .junk, .junk, .junk, .junk, .junk, .junk, .junk, .junk, .junk, .junk, .junk, .junk, .junk, .junk, .junk, .junk, .junk, .junk, .junk, .junk, .junk, .junk, .junk, .junk, .junk, .junk, .junk, .junk, .junk]) (hp' := [.cel [encU (x.st.take r), encU (x.lo)]]) (wk _ _ _ _ (blks := .cons (.cel rfl (by simp) rfl (.cons (.one (.vecf (.head _) rfl (hrl.symm) (Nat.le_refl _) (by rw [hrl]; exact Nat.le_refl _) fun i hi => row_take (by rw [hrl] at hi; exact hi))) (.cons (.one (.vecf (.tail _ (.head _)) rfl (rfl) (Nat.le_refl _) (Nat.le_refl _) fun i hi => rfl)) .nil))) .nil)) ?_
      exact p_ret fin_v
    by_cases h47 : op = 47
    · subst h47
      obtain ⟨a, rfl⟩ : ∃ a : Nat, A = a := ⟨A.toNat, by have := b4 rfl; omega⟩
      have ha : a < m.chans.length := by have := b4 rfl; omega
      have hSS : stepS m i 47 a x.st x.lo lvl = ⟨x.st.take r, x.lo, 0, inU (orU all lvl) (m.chans.getD a 0)⟩ := by
        unfold stepS; rw [hpq]; simp only [Int.toNat_natCast, hrr, hall]; rfl
      rw [hSS]
      repeat (first | refine s_ass ?_ | refine s_t ?_ | refine s_f ?_ | refine s_skip ?_ | refine s_block ?_ | refine s_run ?_ (hq := by (try simp only [in64, room, and_true, true_and]); (try omega)) | refine e_t ?_ | refine e_f ?_ | refine p_skip ?_ | refine p_block ?_ | refine e_run ?_ (hq := by (try simp only [in64, room, and_true, true_and]); (try omega)) | (refine s_cond (fun h => ?_) (fun _ => ?_); (focus (exfalso; simp only [beq_iff_eq] at h; contradiction))) | (refine e_cond (fun h => ?_) (fun _ => ?_); (focus (exfalso; simp only [beq_iff_eq] at h; contradiction))))
      refine e_reg (g_run 6 ?_)
      refine g_call (rwithin_ok all lvl (m.chans.getD a 0)) ?_
      rintro v rfl
      refine ⟨rfl, ?_⟩
      refine g_end ?_
      refine s_run ?_
      refine p_weak [some 2] [4, 5] (T' := [.junk, .junk, .junk, .junk, .junk, .junk, .junk, .ptr 0 0, u64 0, .s (.bool (inU (orU all lvl) (m.chans.getD a 0))), .junk, .junk, .junk, .junk, .junk, .junk, .junk, .junk, .junk, .junk, .junk, .junk, .junk, .junk, .junk, .junk, .junk, .junk, .junk, .junk, .junk, .junk, .junk, .junk, .junk, .junk, .junk, .junk, .junk, .junk, .junk, .junk, .junk, .junk, .junk]) (hp' := [.cel [encU (x.st.take r), encU (x.lo)]]) (wk _ _ _ _ (blks := .cons (.cel rfl (by simp) rfl (.cons (.one (.vecf (.head _) rfl (hrl.symm) (Nat.le_refl _) (by rw [hrl]; exact Nat.le_refl _) fun i hi => row_take (by rw [hrl] at hi; exact hi))) (.cons (.one (.vecf (.tail _ (.head _)) rfl (rfl) (Nat.le_refl _) (Nat.le_refl _) fun i hi => rfl)) .nil))) .nil)) ?_
      exact p_ret fin_v
    by_cases h37 : op = 37
    · subst h37
      obtain ⟨a, rfl⟩ : ∃ a : Nat, A = a := ⟨A.toNat, by have := b3 (.inl rfl); omega⟩
      have ha : a < m.arrays.length := by have := b3 (.inl rfl); omega
      have hSS : stepS m i 37 a x.st x.lo lvl = ⟨x.st.take r ++ [orU all (m.arrays.getD a (0, 0)).2], x.lo, 0, true⟩ := by
        unfold stepS; rw [hpq]; simp only [Int.toNat_natCast, hrr, hall]; rfl
      rw [hSS]
      repeat (first | refine s_ass ?_ | refine s_t ?_ | refine s_f ?_ | refine s_skip ?_ | refine s_block ?_ | refine s_run ?_ (hq := by (try simp only [in64, room, and_true, true_and]); (try omega)) | refine e_t ?_ | refine e_f ?_ | refine p_skip ?_ | refine p_block ?_ | refine e_run ?_ (hq := by (try simp only [in64, room, and_true, true_and]); (try omega)) | (refine s_cond (fun h => ?_) (fun _ => ?_); (focus (exfalso; simp only [beq_iff_eq] at h; contradiction))) | (refine e_cond (fun h => ?_) (fun _ => ?_); (focus (exfalso; simp only [beq_iff_eq] at h; contradiction))))
      refine ed_run ?_ (hq := by simp only [room, true_and, and_true]; omega)
      refine s_run ?_
      refine p_weak [some 2] [8, 5] (T' := [.junk, .junk, .junk, .junk, .junk, .junk, .junk, .ptr 0 0, u64 0, .s (.bool (true)), .junk, .junk, .junk, .junk, .junk, .junk, .junk, .junk, .junk, .junk, .junk, .junk, .junk, .junk, .junk, .junk, .junk, .junk, .junk, .junk, .junk, .junk, .junk, .junk, .junk, .junk, .junk, .junk, .junk, .junk, .junk, .junk, .junk, .junk, .junk]) (hp' := [.cel [encU (x.st.take r ++ [orU all (m.arrays.getD a (0, 0)).2]), encU (x.lo)]]) (wk _ _ _ _ (blks := .cons (.cel rfl (by simp) rfl (.cons (.one (.vecf (.head _) rfl (by simp [hrl]) (Nat.le_refl _) (by simp [hrl]) fun i hi => row_push (by omega) [orU all (m.arrays.getD a (0, 0)).2] (fun i hi => one_rowU i hi) hi)) (.cons (.one (.vecf (.tail _ (.head _)) rfl (rfl) (Nat.le_refl _) (Nat.le_refl _) fun i hi => rfl)) .nil))) .nil)) ?_
      exact p_ret fin_v
    by_cases h38 : op = 38
    · subst h38
      obtain ⟨a, rfl⟩ : ∃ a : Nat, A = a := ⟨A.toNat, by have := b3 (.inr rfl); omega⟩
      have ha : a < m.arrays.length := by have := b3 (.inr rfl); omega
      have hSS : stepS m i 38 a x.st x.lo lvl = ⟨x.st.take r, x.lo, 0, inU (orU all lvl) (m.arrays.getD a (0, 0)).2⟩ := by
        unfold stepS; rw [hpq]; simp only [Int.toNat_natCast, hrr, hall]; rfl
      rw [hSS]
      repeat (first | refine s_ass ?_ | refine s_t ?_ | refine s_f ?_ | refine s_skip ?_ | refine s_block ?_ | refine s_run ?_ (hq := by (try simp only [in64, room, and_true, true_and]); (try omega)) | refine e_t ?_ | refine e_f ?_ | refine p_skip ?_ | refine p_block ?_ | refine e_run ?_ (hq := by (try simp only [in64, room, and_true, true_and]); (try omega)) | (refine s_cond (fun h => ?_) (fun _ => ?_); (focus (exfalso; simp only [beq_iff_eq] at h; contradiction))) | (refine e_cond (fun h => ?_) (fun _ => ?_); (focus (exfalso; simp only [beq_iff_eq] at h; contradiction))))
      refine e_reg (g_run 7 ?_)
      refine g_call (rwithin_ok all lvl (m.arrays.getD a (0, 0)).2) ?_
      rintro v rfl
      refine ⟨rfl, ?_⟩
      refine g_end ?_
      refine s_run ?_
      refine p_weak [some 2] [4, 5] (T' := [.junk, .junk, .junk, .junk, .junk, .junk, .junk, .ptr 0 0, u64 0, .s (.bool (inU (orU all lvl) (m.arrays.getD a (0, 0)).2)), .junk, .junk, .junk, .junk, .junk, .junk, .junk, .junk, .junk, .junk, .junk, .junk, .junk, .junk, .junk, .junk, .junk, .junk, .junk, .junk, .junk, .junk, .junk, .junk, .junk, .junk, .junk, .junk, .junk, .junk, .junk, .junk, .junk, .junk, .junk]) (hp' := [.cel [encU (x.st.take r), encU (x.lo)]]) (wk _ _ _ _ (blks := .cons (.cel rfl (by simp) rfl (.cons (.one (.vecf (.head _) rfl (hrl.symm) (Nat.le_refl _) (by rw [hrl]; exact Nat.le_refl _) fun i hi => row_take (by rw [hrl] at hi; exact hi))) (.cons (.one (.vecf (.tail _ (.head _)) rfl (rfl) (Nat.le_refl _) (Nat.le_refl _) fun i hi => rfl)) .nil))) .nil)) ?_
      exact p_ret fin_v
    by_cases h39 : op = 39
    · subst h39
      have hSS : stepS m i 39 A x.st x.lo lvl = ⟨x.st.take r ++ [all, all], x.lo, 0, true⟩ := by
        unfold stepS; rw [hpq]; simp only [Int.toNat_natCast, hrr, hall]; rfl
      rw [hSS]
      repeat (first | refine s_ass ?_ | refine s_t ?_ | refine s_f ?_ | refine s_skip ?_ | refine s_block ?_ | refine s_run ?_ (hq := by (try simp only [in64, room, and_true, true_and]); (try omega)) | refine e_t ?_ | refine e_f ?_ | refine p_skip ?_ | refine p_block ?_ | refine e_run ?_ (hq := by (try simp only [in64, room, and_true, true_and]); (try omega)) | (refine s_cond (fun h => ?_) (fun _ => ?_); (focus (exfalso; simp only [beq_iff_eq] at h; contradiction))) | (refine e_cond (fun h => ?_) (fun _ => ?_); (focus (exfalso; simp only [beq_iff_eq] at h; contradiction))))
      refine p_weak [some 2] [8, 5] (T' := [.junk, .junk, .junk, .junk, .junk, .junk, .junk, .ptr 0 0, u64 0, .s (.bool (true)), .junk, .junk, .junk, .junk, .junk, .junk, .junk, .junk, .junk, .junk, .junk, .junk, .junk, .junk, .junk, .junk, .junk, .junk, .junk, .junk, .junk, .junk, .junk, .junk, .junk, .junk, .junk, .junk, .junk, .junk, .junk, .junk, .junk, .junk, .junk]) (hp' := [.cel [encU (x.st.take r ++ [all, all]), encU (x.lo)]]) (wk _ _ _ _ (blks := .cons (.cel rfl (by simp) rfl (.cons (.one (.vecf (.head _) rfl (by simp [hrl]) (Nat.le_refl _) (by simp [hrl]) fun i hi => row_push (by omega) [all, all] (fun i hi => two_rowU i hi) hi)) (.cons (.one (.vecf (.tail _ (.head _)) rfl (rfl) (Nat.le_refl _) (Nat.le_refl _) fun i hi => rfl)) .nil))) .nil)) ?_
      exact p_ret fin_v
    by_cases h40 : op = 40
    · subst h40
      have hSS : stepS m i 40 A x.st x.lo lvl = ⟨x.st.take r ++ [orU ((x.st.drop r).getD 1 0) lvl, orU ((x.st.drop r).getD 0 0) lvl], x.lo, 0, true⟩ := by
        unfold stepS; rw [hpq]; simp only [Int.toNat_natCast, hrr, hall]; rfl
      rw [hSS]
      have hp2 : p = 2 := by
        have : effS m i 40 A = (2, 2) := rfl
        rw [this] at hpq
        have := (Prod.mk.inj hpq).1
        omega
      repeat (first | refine s_ass ?_ | refine s_t ?_ | refine s_f ?_ | refine s_skip ?_ | refine s_block ?_ | refine s_run ?_ (hq := by (try simp only [in64, room, and_true, true_and]); (try omega)) | refine e_t ?_ | refine e_f ?_ | refine p_skip ?_ | refine p_block ?_ | refine e_run ?_ (hq := by (try simp only [in64, room, and_true, true_and]); (try omega)) | (refine s_cond (fun h => ?_) (fun _ => ?_); (focus (exfalso; simp only [beq_iff_eq] at h; contradiction))) | (refine e_cond (fun h => ?_) (fun _ => ?_); (focus (exfalso; simp only [beq_iff_eq] at h; contradiction))))
      refine ed_run ?_ (hq := by simp only [room, true_and, and_true]; omega)
      refine s_run ?_
      refine p_weak [some 2] [8, 5] (T' := [.junk, .junk, .junk, .junk, .junk, .junk, .junk, .ptr 0 0, u64 0, .s (.bool (true)), .junk, .junk, .junk, .junk, .junk, .junk, .junk, .junk, .junk, .junk, .junk, .junk, .junk, .junk, .junk, .junk, .junk, .junk, .junk, .junk, .junk, .junk, .junk, .junk, .junk, .junk, .junk, .junk, .junk, .junk, .junk, .junk, .junk, .junk, .junk]) (hp' := [.cel [encU (x.st.take r ++ [orU ((x.st.drop r).getD 1 0) lvl, orU ((x.st.drop r).getD 0 0) lvl]), encU (x.lo)]]) (wk _ _ _ _ (blks := .cons (.cel rfl (by simp) rfl (.cons (.one (.vecf (.head _) rfl (by simp [hrl]) (Nat.le_refl _) (by simp [hrl]) fun i hi => row_push (by omega) [orU ((x.st.drop r).getD 1 0) lvl, orU ((x.st.drop r).getD 0 0) lvl] (fun i hi => two_rowU i hi) hi)) (.cons (.one (.vecf (.tail _ (.head _)) rfl (rfl) (Nat.le_refl _) (Nat.le_refl _) fun i hi => rfl)) .nil))) .nil)) ?_
      exact p_ret fin_v
    by_cases h41 : op = 41
    · subst h41
      have hSS : stepS m i 41 A x.st x.lo lvl = ⟨x.st.take r, x.lo, 0, true⟩ := by
        unfold stepS; rw [hpq]; simp only [Int.toNat_natCast, hrr, hall]; rfl
      rw [hSS]
      repeat (first | refine s_ass ?_ | refine s_t ?_ | refine s_f ?_ | refine s_skip ?_ | refine s_block ?_ | refine s_run ?_ (hq := by (try simp only [in64, room, and_true, true_and]); (try omega)) | refine e_t ?_ | refine e_f ?_ | refine p_skip ?_ | refine p_block ?_ | refine e_run ?_ (hq := by (try simp only [in64, room, and_true, true_and]); (try omega)) | (refine s_cond (fun h => ?_) (fun _ => ?_); (focus (exfalso; simp only [beq_iff_eq] at h; contradiction))) | (refine e_cond (fun h => ?_) (fun _ => ?_); (focus (exfalso; simp only [beq_iff_eq] at h; contradiction))))
      refine p_weak [some 2] [4, 5] (T' := [.junk, .junk, .junk, .junk, .junk, .junk, .junk, .ptr 0 0, u64 0, .s (.bool (true)), .junk, .junk, .junk, .junk, .junk, .junk, .junk, .junk, .junk, .junk, .junk, .junk, .junk, .junk, .junk, .junk, .junk, .junk, .junk, .junk, .junk, .junk, .junk, .junk, .junk, .junk, .junk, .junk, .junk, .junk, .junk, .junk, .junk, .junk, .junk]) (hp' := [.cel [encU (x.st.take r), encU (x.lo)]]) (wk _ _ _ _ (blks := .cons (.cel rfl (by simp) rfl (.cons (.one (.vecf (.head _) rfl (hrl.symm) (Nat.le_refl _) (by rw [hrl]; exact Nat.le_refl _) fun i hi => row_take (by rw [hrl] at hi; exact hi))) (.cons (.one (.vecf (.tail _ (.head _)) rfl (rfl) (Nat.le_refl _) (Nat.le_refl _) fun i hi => rfl)) .nil))) .nil)) ?_
      exact p_ret fin_v
    by_cases h42 : op = 42
    · subst h42
      have hSS : stepS m i 42 A x.st x.lo lvl = ⟨x.st.take r, x.lo, 0, true⟩ := by
        unfold stepS; rw [hpq]; simp only [Int.toNat_natCast, hrr, hall]; rfl
      rw [hSS]
      repeat (first | refine s_ass ?_ | refine s_t ?_ | refine s_f ?_ | refine s_skip ?_ | refine s_block ?_ | refine s_run ?_ (hq := by (try simp only [in64, room, and_true, true_and]); (try omega)) | refine e_t ?_ | refine e_f ?_ | refine p_skip ?_ | refine p_block ?_ | refine e_run ?_ (hq := by (try simp only [in64, room, and_true, true_and]); (try omega)) | (refine s_cond (fun h => ?_) (fun _ => ?_); (focus (exfalso; simp only [beq_iff_eq] at h; contradiction))) | (refine e_cond (fun h => ?_) (fun _ => ?_); (focus (exfalso; simp only [beq_iff_eq] at h; contradiction))))
      refine p_weak [some 2] [4, 5] (T' := [.junk, .junk, .junk, .junk, .junk, .junk, .junk, .ptr 0 0, u64 0, .s (.bool (true)), .junk, .junk, .junk, .junk, .junk, .junk, .junk, .junk, .junk, .junk, .junk, .junk, .junk, .junk, .junk, .junk, .junk, .junk, .junk, .junk, .junk, .junk, .junk, .junk, .junk, .junk, .junk, .junk, .junk, .junk, .junk, .junk, .junk, .junk, .junk]) (hp' := [.cel [encU (x.st.take r), encU (x.lo)]]) (wk _ _ _ _ (blks := .cons (.cel rfl (by simp) rfl (.cons (.one (.vecf (.head _) rfl (hrl.symm) (Nat.le_refl _) (by rw [hrl]; exact Nat.le_refl _) fun i hi => row_take (by rw [hrl] at hi; exact hi))) (.cons (.one (.vecf (.tail _ (.head _)) rfl (rfl) (Nat.le_refl _) (Nat.le_refl _) fun i hi => rfl)) .nil))) .nil)) ?_
      exact p_ret fin_v
    by_cases h43 : op = 43
    · subst h43
      have hSS : stepS m i 43 A x.st x.lo lvl = ⟨x.st.take r, x.lo, 0, true⟩ := by
        unfold stepS; rw [hpq]; simp only [Int.toNat_natCast, hrr, hall]; rfl
      rw [hSS]
      repeat (first | refine s_ass ?_ | refine s_t ?_ | refine s_f ?_ | refine s_skip ?_ | refine s_block ?_ | refine s_run ?_ (hq := by (try simp only [in64, room, and_true, true_and]); (try omega)) | refine e_t ?_ | refine e_f ?_ | refine p_skip ?_ | refine p_block ?_ | refine e_run ?_ (hq := by (try simp only [in64, room, and_true, true_and]); (try omega)) | (refine s_cond (fun h => ?_) (fun _ => ?_); (focus (exfalso; simp only [beq_iff_eq] at h; contradiction))) | (refine e_cond (fun h => ?_) (fun _ => ?_); (focus (exfalso; simp only [beq_iff_eq] at h; contradiction))))
      refine p_weak [some 2] [4, 5] (T' := [.junk, .junk, .junk, .junk, .junk, .junk, .junk, .ptr 0 0, u64 0, .s (.bool (true)), .junk, .junk, .junk, .junk, .junk, .junk, .junk, .junk, .junk, .junk, .junk, .junk, .junk, .junk, .junk, .junk, .junk, .junk, .junk, .junk, .junk, .junk, .junk, .junk, .junk, .junk, .junk, .junk, .junk, .junk, .junk, .junk, .junk, .junk, .junk]) (hp' := [.cel [encU (x.st.take r), encU (x.lo)]]) (wk _ _ _ _ (blks := .cons (.cel rfl (by simp) rfl (.cons (.one (.vecf (.head _) rfl (hrl.symm) (Nat.le_refl _) (by rw [hrl]; exact Nat.le_refl _) fun i hi => row_take (by rw [hrl] at hi; exact hi))) (.cons (.one (.vecf (.tail _ (.head _)) rfl (rfl) (Nat.le_refl _) (Nat.le_refl _) fun i hi => rfl)) .nil))) .nil)) ?_
      exact p_ret fin_v
    by_cases h44 : op = 44
    · subst h44
      have hSS : stepS m i 44 A x.st x.lo lvl = ⟨x.st.take r, x.lo, all, true⟩ := by
        unfold stepS; rw [hpq]; simp only [Int.toNat_natCast, hrr, hall]; rfl
      rw [hSS]
      repeat (first | refine s_ass ?_ | refine s_t ?_ | refine s_f ?_ | refine s_skip ?_ | refine s_block ?_ | refine s_run ?_ (hq := by (try simp only [in64, room, and_true, true_and]); (try omega)) | refine e_t ?_ | refine e_f ?_ | refine p_skip ?_ | refine p_block ?_ | refine e_run ?_ (hq := by (try simp only [in64, room, and_true, true_and]); (try omega)) | (refine s_cond (fun h => ?_) (fun _ => ?_); (focus (exfalso; simp only [beq_iff_eq] at h; contradiction))) | (refine e_cond (fun h => ?_) (fun _ => ?_); (focus (exfalso; simp only [beq_iff_eq] at h; contradiction))))
      refine p_weak [some 2] [4, 5] (T' := [.junk, .junk, .junk, .junk, .junk, .junk, .junk, .ptr 0 0, u64 all, .s (.bool (true)), .junk, .junk, .junk, .junk, .junk, .junk, .junk, .junk, .junk, .junk, .junk, .junk, .junk, .junk, .junk, .junk, .junk, .junk, .junk, .junk, .junk, .junk, .junk, .junk, .junk, .junk, .junk, .junk, .junk, .junk, .junk, .junk, .junk, .junk, .junk]) (hp' := [.cel [encU (x.st.take r), encU (x.lo)]]) (wk _ _ _ _ (blks := .cons (.cel rfl (by simp) rfl (.cons (.one (.vecf (.head _) rfl (hrl.symm) (Nat.le_refl _) (by rw [hrl]; exact Nat.le_refl _) fun i hi => row_take (by rw [hrl] at hi; exact hi))) (.cons (.one (.vecf (.tail _ (.head _)) rfl (rfl) (Nat.le_refl _) (Nat.le_refl _) fun i hi => rfl)) .nil))) .nil)) ?_
      exact p_ret fin_v
    by_cases h46 : op = 46
    · subst h46
      obtain ⟨rs, hrs⟩ : ∃ rs, (fnAt m i).rs = rs := ⟨_, rfl⟩
      have hrs' : (m.fns.getD i default).rs = rs := hrs
      have hpr : rs.length = p := by
        have : effS m i 46 A = ((((fnAt m i).rs.length : Nat) : Int), 0) := rfl
        rw [this, hrs] at hpq
        have := (Prod.mk.inj hpq).1
        omega
      have hSS : stepS m i 46 A x.st x.lo lvl = ⟨x.st.take r, x.lo, 0, allIn lvl (x.st.drop r) rs⟩ := by
        unfold stepS; rw [hpq]; simp only [Int.toNat_natCast, hrr, hall]; rw [hrs]; rfl
      rw [hSS]
      repeat (first | refine s_ass ?_ | refine s_t ?_ | refine s_f ?_ | refine s_skip ?_ | refine s_block ?_ | refine s_run ?_ (hq := by (try simp only [in64, room, and_true, true_and]); (try omega)) | refine e_t ?_ | refine e_f ?_ | refine p_skip ?_ | refine p_block ?_ | refine e_run ?_ (hq := by (try simp only [in64, room, and_true, true_and]); (try omega)) | (refine s_cond (fun h => ?_) (fun _ => ?_); (focus (exfalso; simp only [beq_iff_eq] at h; contradiction))) | (refine e_cond (fun h => ?_) (fun _ => ?_); (focus (exfalso; simp only [beq_iff_eq] at h; contradiction))))
      refine p_weak [some 0, some 1, some 2, some 3, some 4, some 5, some 6] [] (wk _ [] _ _ (blks := ?_)) (p_loop' (fun c => c ≤ p) (fun c => p - c) (fun c => [encM m, i64 (i : Nat), i64 (j : Nat), encFr x, u64 lvl, .ptr 0 0, .ptr 1 0, .ptr 2 0, u64 0, .s (.bool false), .junk, .junk, .junk, .ptr 3 0, .frz 1 p p (rowI .u64 (x.st.drop r)), u64 all, .junk, .ptr 6 0, u64 0, .s (.bool (kF true lvl (x.st.drop r) rs c)), .junk, .junk, .junk, i64 (c : Nat), .junk, .junk, .junk, .junk, .junk, .junk, .junk, .junk, .junk, .junk, .junk, .junk, .junk, .junk, .junk, .junk, .junk, .junk, .junk, .junk, .junk]) (fun c => [.cel (cellsM m), .cel [encU x.st, encU x.lo], .cel [.s (.slice none 0 0), .s (.slice none 0 0)], .cel [.vec 1 4 r, .vec 1 5 x.lo.length], (.vec 1 r (rowI .u64 x.st) true), .vec 1 x.lo.length (rowI .u64 x.lo) true, .cel [i64 46, i64 A]]) 0 (Nat.zero_le _) ?_)
      · refine .cons bs_cel (.cons bs_cel (.cons bs_cel (.cons (.cel rfl (by simp) rfl (.cons (.one (.vec rfl rfl)) (.cons (.one (.vec rfl rfl)) .nil))) (.cons bs_same (.cons bs_same (.cons bs_cel .nil))))))
      intro c hc
      refine s_ass (s_run ?_)
      refine s_cond (fun h => ?_) (fun h => ?_)
      · simp only [decide_eq_true_eq] at h
        have hcp : c < p := by omega
        refine s_skip (s_block ?_)
        cases hK : kF true lvl (x.st.drop r) rs c with
        | true =>
          refine e_drw (g_run 13 ?_ (hq := by simp only [in64, and_true, true_and]; rw [hrs']; omega))
          rw [hrs']
          refine g_run 1 ?_
          refine g_call (rwithin_ok ((x.st.drop r).getD c 0) lvl (rs.getD c 0)) ?_
          rintro v rfl
          refine ⟨rfl, ?_⟩
          refine g_end ?_
          refine e_run ?_
          refine lp_next (c + 1) (by omega) (σ := [some 0, some 1, some 2, some 3, some 4, some 5, some 6]) (fz := []) ?_
          rw [show kF true lvl (x.st.drop r) rs (c + 1) = inU (orU ((x.st.drop r).getD c 0) lvl) (rs.getD c 0) from by rw [kF, hK, Bool.true_and]]
          exact wk _ _ _ _
        | false =>
          refine ed_run ?_
          refine e_run ?_
          refine lp_next (c + 1) (by omega) (σ := [some 0, some 1, some 2, some 3, some 4, some 5, some 6]) (fz := []) ?_
          rw [show kF true lvl (x.st.drop r) rs (c + 1) = false from by rw [kF, hK, Bool.false_and]]
          exact wk _ _ _ _
      · simp only [decide_eq_false_iff_not] at h
        have hcp : p = c := by omega
        subst hcp
        refine s_exit ?_
        have hkf : kF true lvl (x.st.drop r) rs p = allIn lvl (x.st.drop r) rs := by
          have := needF_all lvl (x.st.drop r) rs (by omega)
          rw [hpl] at this
          rw [kF_eq, Bool.true_and, this]
        rw [hkf]
        refine s_run ?_
        refine p_weak [some 2] [4, 5] (T' := [.junk, .junk, .junk, .junk, .junk, .junk, .junk, .ptr 0 0, u64 0, .s (.bool (allIn lvl (x.st.drop r) rs)), .junk, .junk, .junk, .junk, .junk, .junk, .junk, .junk, .junk, .junk, .junk, .junk, .junk, .junk, .junk, .junk, .junk, .junk, .junk, .junk, .junk, .junk, .junk, .junk, .junk, .junk, .junk, .junk, .junk, .junk, .junk, .junk, .junk, .junk, .junk]) (hp' := [.cel [encU (x.st.take r), encU (x.lo)]]) (wk _ _ _ _ (blks := .cons (.cel rfl (by simp) rfl (.cons (.one (.vecf (.head _) rfl (hrl.symm) (Nat.le_refl _) (by rw [hrl]; exact Nat.le_refl _) fun i hi => row_take (by rw [hrl] at hi; exact hi))) (.cons (.one (.vecf (.tail _ (.head _)) rfl (rfl) (Nat.le_refl _) (Nat.le_refl _) fun i hi => rfl)) .nil))) .nil)) ?_
        exact p_ret fin_v
    by_cases h45 : op = 45
    · subst h45
      obtain ⟨a, rfl⟩ : ∃ a : Nat, A = a := ⟨A.toNat, by have := hA rfl; omega⟩
      have ha : a < m.fns.length := by have := hA rfl; omega
      obtain ⟨g, hg⟩ : ∃ g, fnAt m a = g := ⟨_, rfl⟩
      have hg' : m.fns.getD a default = g := hg
      have hpg : g.ps.length = p := by
        have : effS m i 45 a = ((((fnAt m a).ps.length : Nat) : Int), (((fnAt m a).rs.length : Nat) : Int)) := rfl
        rw [this, hg] at hpq
        have := (Prod.mk.inj hpq).1
        omega
      have hgr : g.rs.length ≤ 4 := by have := ok_size hok ha; rw [hg] at this; omega
      have hSS : stepS m i 45 a x.st x.lo lvl = ⟨x.st.take r ++ g.rs.map (fun y => orU y lvl), x.lo, 0, inU (orU 0 lvl) g.lvl && allIn lvl (x.st.drop r) g.ps⟩ := by
        unfold stepS; rw [hpq]; simp only [Int.toNat_natCast, hrr, hall]; rw [hg]; rfl
      rw [hSS]
      repeat (first | refine s_ass ?_ | refine s_t ?_ | refine s_f ?_ | refine s_skip ?_ | refine s_block ?_ | refine s_run ?_ (hq := by (try simp only [in64, room, and_true, true_and]); (try omega)) | refine e_t ?_ | refine e_f ?_ | refine p_skip ?_ | refine p_block ?_ | refine e_run ?_ (hq := by (try simp only [in64, room, and_true, true_and]); (try omega)) | (refine s_cond (fun h => ?_) (fun _ => ?_); (focus (exfalso; simp only [beq_iff_eq] at h; contradiction))) | (refine e_cond (fun h => ?_) (fun _ => ?_); (focus (exfalso; simp only [beq_iff_eq] at h; contradiction))))
      rw [hg']
      refine s_reg (g_run 2 ?_)
      refine g_call (rwithin_ok 0 lvl g.lvl) ?_
      rintro v rfl
      refine ⟨rfl, ?_⟩
      refine g_end ?_
      refine s_ass (s_run ?_)
      refine s_loop (fun c => c ≤ p) (fun c => p - c) (fun c => [encM m, i64 (i : Nat), i64 (j : Nat), encFr x, u64 lvl, .ptr 0 0, .ptr 1 0, .ptr 2 0, u64 0, .s (.bool false), .junk, .junk, .junk, .ptr 3 0, .frz 1 p p (rowI .u64 (x.st.drop r)), u64 all, .junk, .ptr 6 0, u64 0, .s (.bool (kF (inU (orU 0 lvl) g.lvl) lvl (x.st.drop r) g.ps c)), .ptr 7 0, i64 (c : Nat), .junk, .junk, .junk, .junk, .junk, .junk, .junk, .junk, .junk, .junk, .junk, .junk, .junk, .junk, .junk, .junk, .junk, .junk, .junk, .junk, .junk, .junk, .junk]) (fun c => [.cel (cellsM m), .cel [encU x.st, encU x.lo], .cel [.s (.slice none 0 0), .s (.slice none 0 0)], .cel [.vec 1 4 r, .vec 1 5 x.lo.length], (.vec 1 r (rowI .u64 x.st) true), .vec 1 x.lo.length (rowI .u64 x.lo) true, .cel [i64 45, i64 (a : Nat)], .cel (cellsF g)]) 0 (Nat.zero_le _) (wk [some 0, some 1, some 2, some 3, some 4, some 5, some 6, some 7] [] _ _ (blks := ?_)) ?_
      · refine .cons bs_cel (.cons bs_cel (.cons bs_cel (.cons (.cel rfl (by simp) rfl (.cons (.one (.vec rfl rfl)) (.cons (.one (.vec rfl rfl)) .nil))) (.cons bs_same (.cons bs_same (.cons bs_cel (.cons bs_cel .nil)))))))
      intro c hc
      refine s_ass (s_run ?_)
      refine s_cond (fun h => ?_) (fun h => ?_)
      · simp only [decide_eq_true_eq] at h
        have hcp : c < p := by omega
        refine s_skip (s_block ?_)
        cases hK : kF (inU (orU 0 lvl) g.lvl) lvl (x.st.drop r) g.ps c with
        | true =>
          refine e_drw (g_run 10 ?_)
          refine g_call (rwithin_ok ((x.st.drop r).getD c 0) lvl (g.ps.getD c 0)) ?_
          rintro v rfl
          refine ⟨rfl, ?_⟩
          refine g_end ?_
          refine e_run ?_
          refine lp_next (c + 1) (by omega) (σ := [some 0, some 1, some 2, some 3, some 4, some 5, some 6, some 7]) (fz := []) ?_
          rw [show kF (inU (orU 0 lvl) g.lvl) lvl (x.st.drop r) g.ps (c + 1) = inU (orU ((x.st.drop r).getD c 0) lvl) (g.ps.getD c 0) from by rw [kF, hK, Bool.true_and]]
          exact wk _ _ _ _
        | false =>
          refine ed_run ?_
          refine e_run ?_
          refine lp_next (c + 1) (by omega) (σ := [some 0, some 1, some 2, some 3, some 4, some 5, some 6, some 7]) (fz := []) ?_
          rw [show kF (inU (orU 0 lvl) g.lvl) lvl (x.st.drop r) g.ps (c + 1) = false from by rw [kF, hK, Bool.false_and]]
          exact wk _ _ _ _
      simp only [decide_eq_false_iff_not] at h
      have hcp : p = c := by omega
      subst hcp
      refine s_exit ?_
      have hkf : kF (inU (orU 0 lvl) g.lvl) lvl (x.st.drop r) g.ps p = (inU (orU 0 lvl) g.lvl && allIn lvl (x.st.drop r) g.ps) := by
        have := needF_all lvl (x.st.drop r) g.ps (by omega)
        rw [hpl] at this
        rw [kF_eq, this]
      rw [hkf]
      obtain ⟨kp, hkp⟩ : ∃ kp, (inU (orU 0 lvl) g.lvl && allIn lvl (x.st.drop r) g.ps) = kp := ⟨_, rfl⟩
      rw [hkp]
      refine s_run ?_
      refine e_loop (fun c => c ≤ g.rs.length) (fun c => g.rs.length - c) (fun c => [encM m, i64 (i : Nat), i64 (j : Nat), encFr x, u64 lvl, .ptr 0 0, .ptr 1 0, .ptr 2 0, u64 0, .s (.bool false), .junk, .junk, .junk, .ptr 3 0, .frz 1 p p (rowI .u64 (x.st.drop r)), .junk, .junk, .ptr 6 0, u64 0, .s (.bool kp), .ptr 7 0, .junk, i64 (c : Nat), .junk, .junk, .junk, .junk, .junk, .junk, .junk, .junk, .junk, .junk, .junk, .junk, .junk, .junk, .junk, .junk, .junk, .junk, .junk, .junk, .junk, .junk]) (fun c => [.cel (cellsM m), .cel [encU x.st, encU x.lo], .cel [.s (.slice none 0 0), .s (.slice none 0 0)], .cel [.vec 1 4 (r + c), .vec 1 5 x.lo.length], (.vec 1 (r + c) (rowI .u64 (x.st.take r ++ (g.rs.take c).map fun y => orU y lvl)) true), .vec 1 x.lo.length (rowI .u64 x.lo) true, .cel [i64 45, i64 (a : Nat)], .cel (cellsF g)]) 0 (Nat.zero_le _) (wk [some 0, some 1, some 2, some 3, some 4, some 5, some 6, some 7] [] _ _ (blks := ?_)) ?_
      · refine .cons bs_cel (.cons bs_cel (.cons bs_cel (.cons (.cel rfl (by simp) rfl (.cons (.one (.vec rfl rfl)) (.cons (.one (.vec rfl rfl)) .nil))) (.cons (bs_vec rfl fun j hj => ?_) (.cons bs_same (.cons bs_cel (.cons bs_cel .nil)))))))
        simp only [List.take_zero, List.map_nil, List.append_nil]
        exact row_take hj
      intro c hc
      refine s_ass (s_run ?_)
      refine s_cond (fun h => ?_) (fun h => ?_)
      · simp only [decide_eq_true_eq] at h
        have hcr : c < g.rs.length := by omega
        refine s_skip (s_block (ed_run ?_ (hq := by simp only [room, true_and, and_true]; omega)))
        refine e_run ?_
        have hlc : (x.st.take r ++ (g.rs.take c).map fun y => orU y lvl).length = r + c := by rw [List.length_append, hrl, List.length_map, List.length_take]; omega
        have e : (x.st.take r ++ (g.rs.take c).map fun y => orU y lvl) ++ [orU (g.rs.getD c 0) lvl] = x.st.take r ++ (g.rs.take (c + 1)).map fun y => orU y lvl := by
          rw [List.take_succ_eq_append_getElem hcr, List.map_append, ← List.append_assoc, List.getD_eq_getElem?_getD, List.getElem?_eq_getElem hcr]
          rfl
        refine lp_next (c + 1) (by omega) (wk [some 0, some 1, some 2, some 3, some 9, some 5, some 6, some 7] [] _ _ (blks := ?_))
        refine .cons bs_cel (.cons bs_cel (.cons bs_cel (.cons (.cel rfl (by simp) rfl (.cons (.one (.vec rfl rfl)) (.cons (.one (.vec rfl rfl)) .nil))) (.cons (bs_vec rfl fun j hj => ?_) (.cons bs_same (.cons bs_cel (.cons bs_cel .nil)))))))
        have htk : (x.st.take r ++ (g.rs.take c).map fun y => orU y lvl).take (r + c) = x.st.take r ++ (g.rs.take c).map fun y => orU y lvl := List.take_of_length_le (Nat.le_of_eq hlc)
        have := row_push (xs := x.st.take r ++ (g.rs.take c).map fun y => orU y lvl) (r := r + c) (Nat.le_of_eq hlc.symm) [orU (g.rs.getD c 0) lvl] (fun i hi => one_rowU i hi) (i := j) (by rw [htk, List.length_append, hlc]; exact hj)
        rw [htk, e] at this
        exact this
      · simp only [decide_eq_false_iff_not] at h
        have hcr : c = g.rs.length := by omega
        subst hcr
        refine s_exit ?_
        refine s_run ?_
        rw [List.take_length]
        refine p_weak [some 2] [4, 5] (T' := [.junk, .junk, .junk, .junk, .junk, .junk, .junk, .ptr 0 0, u64 0, .s (.bool (kp)), .junk, .junk, .junk, .junk, .junk, .junk, .junk, .junk, .junk, .junk, .junk, .junk, .junk, .junk, .junk, .junk, .junk, .junk, .junk, .junk, .junk, .junk, .junk, .junk, .junk, .junk, .junk, .junk, .junk, .junk, .junk, .junk, .junk, .junk, .junk]) (hp' := [.cel [encU (x.st.take r ++ g.rs.map fun y => orU y lvl), encU (x.lo)]]) (wk _ _ _ _ (blks := .cons (.cel rfl (by simp) rfl (.cons (.one (.vecf (.head _) rfl (by simp [hrl]) (Nat.le_refl _) (by simp [hrl]) fun i hi => rfl)) (.cons (.one (.vecf (.tail _ (.head _)) rfl (rfl) (Nat.le_refl _) (Nat.le_refl _) fun i hi => rfl)) .nil))) .nil)) ?_
        exact p_ret fin_v
    have h17 : 1 ≤ op ∧ op ≤ 17 := by omega
    have hSS : stepS m i op A x.st x.lo lvl = ⟨x.st.take r ++ [all], x.lo, 0, true⟩ := by
      simp [stepS, hpq, hrr, hall, *]
    rw [hSS]
    repeat (first | refine s_ass ?_ | refine s_t ?_ | refine s_f ?_ | refine s_skip ?_ | refine s_block ?_ | refine s_run ?_ (hq := by (try simp only [in64, room, and_true, true_and]); (try omega)) | refine e_t ?_ | refine e_f ?_ | refine p_skip ?_ | refine p_block ?_ | refine e_run ?_ (hq := by (try simp only [in64, room, and_true, true_and]); (try omega)) | (refine s_cond (fun h => ?_) (fun _ => ?_); (focus (exfalso; simp only [beq_iff_eq] at h; contradiction))) | (refine e_cond (fun h => ?_) (fun _ => ?_); (focus (exfalso; simp only [beq_iff_eq] at h; contradiction))))
    refine p_weak [some 2] [8, 5] (T' := [.junk, .junk, .junk, .junk, .junk, .junk, .junk, .ptr 0 0, u64 0, .s (.bool (true)), .junk, .junk, .junk, .junk, .junk, .junk, .junk, .junk, .junk, .junk, .junk, .junk, .junk, .junk, .junk, .junk, .junk, .junk, .junk, .junk, .junk, .junk, .junk, .junk, .junk, .junk, .junk, .junk, .junk, .junk, .junk, .junk, .junk, .junk, .junk]) (hp' := [.cel [encU (x.st.take r ++ [all]), encU (x.lo)]]) (wk _ _ _ _ (blks := .cons (.cel rfl (by simp) rfl (.cons (.one (.vecf (.head _) rfl (by simp [hrl]) (Nat.le_refl _) (by simp [hrl]) fun i hi => row_push (by omega) [all] (fun i hi => one_rowU i hi) hi)) (.cons (.one (.vecf (.tail _ (.head _)) rfl (rfl) (Nat.le_refl _) (Nat.le_refl _) fun i hi => rfl)) .nil))) .nil)) ?_
    exact p_ret fin_v

end Go.Proofs.Ytollibkfagjnaaa.Shape.Kit
