/- What is told is apart: two lists are written over and gone on with. PRINTED by gapt.py. -/
import Derived.Test.YtollibkfagjnaaaRegApt
set_option linter.unusedVariables false
set_option linter.unusedSimpArgs false
set_option maxRecDepth 10000
namespace Go.Proofs.Ytollibkfagjnaaa.Graph
open Go.Proofs.Ytollibkfagjnaaa.AM Go.Proofs.Ytollibkfagjnaaa.Post
def aplu (x : Int) : PV := .s (.int .u64 x)
/-- k of them marked. -/
def aplK (i : Int) (k : Nat) (l : List Int) : Nat → List PV := fun j => if j < k then [aplu (1000 * i + (j : Nat))] else rowI .u64 l j
def aplM (i : Int) : Nat → List PV := fun j => [aplu (1000 * i + (j : Nat))]
def aplR (n : Nat) (i : Int) : Nat → List PV := fun q => [aplu (if q < n then 1000 * i + (q : Nat) else 500000 + 1000 * i + ((q - n : Nat) : Int))]
def aplW (n : Nat) (i : Nat) : PV := .frz 1 (n + 30) (n + 30) (aplR n (i : Nat))
def aplC (n : Nat) : PB := .cel [.exv 1 1 n, .exv 1 2 n]
def aplV (n b : Nat) : Nat → PV
  | 0 => .exv 1 b n
  | k + 1 => .vec 1 4 (n + (k + 1))
def aplB (n : Nat) (i : Int) : Nat → PB
  | 0 => .dead
  | k + 1 => .vec 1 (n + (k + 1)) (aplR n i) true
theorem aplK_set {i : Int} {k : Nat} {l : List Int} {j : Nat} {v : PV} (hv : v = aplu (1000 * i + (k : Nat))) : (if j = k then psplice (aplK i k l j) 0 (pcs v) else aplK i k l j) = aplK i (k + 1) l j := by
  subst hv
  by_cases e : j = k
  · subst e
    rw [if_pos rfl]
    unfold aplK
    rw [if_neg (Nat.lt_irrefl j), if_pos (Nat.lt_succ_self j)]
    rfl
  · rw [if_neg e]
    unfold aplK
    by_cases w : j < k
    · rw [if_pos w, if_pos (by omega)]
    · rw [if_neg w, if_neg (by omega)]
theorem aplR_lo {n : Nat} {i : Int} {j : Nat} (h : j < n) : aplM i j = aplR n i j := by unfold aplM aplR; rw [if_pos h]
theorem apl_ok {n : Nat} (hn : n ≤ 1000000) (l0 l1 : List Int) : PCall E [0, 1, 2] 29 [.vec 1 0 2] [.cel [.exv 1 1 n, .exv 1 2 n], .vec 1 n (rowI .u64 l0) false, .vec 1 n (rowI .u64 l1) false] (fun v hp => v = .s (.bool true) ∧ hp = [.dead, .dead, .dead]) := by
  refine p_fn ?_
  show PTri E false [0, 1, 2] _ [.vec 1 0 2, .junk, .junk, .junk, .junk, .junk, .junk, .junk, .junk, .junk, .junk, .junk, .junk, .junk, .junk, .junk, .junk, .junk, .junk, .junk, .junk] _ _
  refine s_run ?_
  refine s_ass (s_run ?_)
  refine s_loop (ι := Nat) (fun i => i ≤ 2) (fun i => 2 - i) (fun i => [.vec 1 0 2, .s (.bool false), i64 (i : Nat), .junk, .junk, .junk, .junk, .junk, .junk, .junk, .junk, .junk, .junk, .junk, .junk, .junk, .junk, .junk, .junk, .junk, .junk]) (fun i => [aplC n, .vec 1 n (aplK 0 (if 0 < i then n else 0) l0) false, .vec 1 n (aplK 1 (if 1 < i then n else 0) l1) false]) 0 (by omega) (σ := [some 0, some 1, some 2]) (fz := []) (wk _ [] _ _ (vals := (by (try dsimp only [aplV, aplB]); repeat' (first | exact VSubs.nil | apply VSubs.cons | exact VSub.one (VSub1.junk _) | exact VSub.nlv rfl | exact VSub.one (VSub1.vec rfl rfl) | exact VSub.one (VSub1.exv rfl rfl)))) (blks := .cons (.cel rfl (by simp) rfl (.cons (.one (.exv rfl rfl)) (.cons (.one (.exv rfl rfl)) .nil))) (.cons (bs_vec rfl (fun j hj => by simp [aplK]) (h := rfl) (hb := rfl)) (.cons (bs_vec rfl (fun j hj => by simp [aplK]) (h := rfl) (hb := rfl)) (.nil))))) ?_
  · intro i hi
    unfold aplC
    refine s_ass (s_run ?_)
    refine s_cond (fun h1 => ?_) (fun h1 => ?_)
    · simp only [decide_eq_true_eq] at h1
      have hc : i = 0 ∨ i = 1 := by omega
      rcases hc with rfl | rfl
      · refine s_skip (s_block ?_)
        refine s_run ?_
        refine e_loop (ι := Nat) (fun k => k ≤ n) (fun k => n - k) (fun k => [.vec 1 0 2, .s (.bool false), i64 ((0 : Nat) : Int), i64 (k : Nat), .junk, .junk, .junk, .junk, .junk, .junk, .junk, .junk, .junk, .junk, .junk, .junk, .junk, .junk, .junk, .junk, .junk]) (fun k => [aplC n, .vec 1 n (aplK 0 k l0) false, .vec 1 n (aplK 1 0 l1) false]) 0 (Nat.zero_le _) (σ := [some 0, some 1, some 2]) (fz := []) (wk _ [] _ _ (vals := (by (try dsimp only [aplV, aplB]); repeat' (first | exact VSubs.nil | apply VSubs.cons | exact VSub.one (VSub1.junk _) | exact VSub.nlv rfl | exact VSub.one (VSub1.vec rfl rfl) | exact VSub.one (VSub1.exv rfl rfl)))) (blks := .cons (.cel rfl (by simp) rfl (.cons (.one (.exv rfl rfl)) (.cons (.one (.exv rfl rfl)) .nil))) (.cons (bs_vec rfl (fun j hj => by simp [aplK]) (h := rfl) (hb := rfl)) (.cons (bs_vec rfl (fun j hj => by simp [aplK]) (h := rfl) (hb := rfl)) (.nil))))) ?_
        intro k hk
        unfold aplC
        refine s_ass (s_reg (g_run 1 ?_))
        refine prg_cast eptr_ptr ?_
        refine g_end ?_
        refine s_cond (fun h2 => ?_) (fun h2 => ?_)
        · simp only [decide_eq_true_eq] at h2
          refine s_skip (s_block ?_)
          refine e_reg (g_run 1 ?_)
          refine prg_cast eptr_ptr ?_
          refine g_run 4 ?_
          refine prg_head (v' := aplu (1000 * ((0 : Nat) : Int) + (k : Nat))) (by unfold aplu; congr 2; simp only [aw]; omega) ?_
          refine g_end ?_
          refine e_run ?_
          refine lp_next (k + 1) (by omega) (σ := [some 0, some 1, some 2]) (fz := []) (wk _ [] _ _ (vals := (by (try dsimp only [aplV, aplB]); repeat' (first | exact VSubs.nil | apply VSubs.cons | exact VSub.one (VSub1.junk _) | exact VSub.nlv rfl | exact VSub.one (VSub1.vec rfl rfl) | exact VSub.one (VSub1.exv rfl rfl)))) (blks := .cons (.cel rfl (by simp) rfl (.cons (.one (.exv rfl rfl)) (.cons (.one (.exv rfl rfl)) .nil))) (.cons (bs_vec rfl (fun j hj => aplK_set rfl) (h := rfl) (hb := rfl)) (.cons bs_same (.nil)))))
        · simp only [decide_eq_false_iff_not] at h2
          have hkn : k = n := by omega
          subst hkn
          refine s_exit ?_
          refine e_run ?_
          refine lp_next 1 (by omega) (σ := [some 0, some 1, some 2]) (fz := []) (wk _ [] _ _ (vals := (by (try dsimp only [aplV, aplB]); repeat' (first | exact VSubs.nil | apply VSubs.cons | exact VSub.one (VSub1.junk _) | exact VSub.nlv rfl | exact VSub.one (VSub1.vec rfl rfl) | exact VSub.one (VSub1.exv rfl rfl)))) (blks := .cons (.cel rfl (by simp) rfl (.cons (.one (.exv rfl rfl)) (.cons (.one (.exv rfl rfl)) .nil))) (.cons (bs_vec rfl (fun j hj => by simp) (h := rfl) (hb := rfl)) (.cons (bs_vec rfl (fun j hj => by simp) (h := rfl) (hb := rfl)) (.nil)))))
      · refine s_skip (s_block ?_)
        refine s_run ?_
        refine e_loop (ι := Nat) (fun k => k ≤ n) (fun k => n - k) (fun k => [.vec 1 0 2, .s (.bool false), i64 ((1 : Nat) : Int), i64 (k : Nat), .junk, .junk, .junk, .junk, .junk, .junk, .junk, .junk, .junk, .junk, .junk, .junk, .junk, .junk, .junk, .junk, .junk]) (fun k => [aplC n, .vec 1 n (aplK 0 n l0) false, .vec 1 n (aplK 1 k l1) false]) 0 (Nat.zero_le _) (σ := [some 0, some 1, some 2]) (fz := []) (wk _ [] _ _ (vals := (by (try dsimp only [aplV, aplB]); repeat' (first | exact VSubs.nil | apply VSubs.cons | exact VSub.one (VSub1.junk _) | exact VSub.nlv rfl | exact VSub.one (VSub1.vec rfl rfl) | exact VSub.one (VSub1.exv rfl rfl)))) (blks := .cons (.cel rfl (by simp) rfl (.cons (.one (.exv rfl rfl)) (.cons (.one (.exv rfl rfl)) .nil))) (.cons (bs_vec rfl (fun j hj => by simp [aplK]) (h := rfl) (hb := rfl)) (.cons (bs_vec rfl (fun j hj => by simp [aplK]) (h := rfl) (hb := rfl)) (.nil))))) ?_
        intro k hk
        unfold aplC
        refine s_ass (s_reg (g_run 1 ?_))
        refine prg_cast eptr_ptr ?_
        refine g_end ?_
        refine s_cond (fun h2 => ?_) (fun h2 => ?_)
        · simp only [decide_eq_true_eq] at h2
          refine s_skip (s_block ?_)
          refine e_reg (g_run 1 ?_)
          refine prg_cast eptr_ptr ?_
          refine g_run 4 ?_
          refine prg_head (v' := aplu (1000 * ((1 : Nat) : Int) + (k : Nat))) (by unfold aplu; congr 2; simp only [aw]; omega) ?_
          refine g_end ?_
          refine e_run ?_
          refine lp_next (k + 1) (by omega) (σ := [some 0, some 1, some 2]) (fz := []) (wk _ [] _ _ (vals := (by (try dsimp only [aplV, aplB]); repeat' (first | exact VSubs.nil | apply VSubs.cons | exact VSub.one (VSub1.junk _) | exact VSub.nlv rfl | exact VSub.one (VSub1.vec rfl rfl) | exact VSub.one (VSub1.exv rfl rfl)))) (blks := .cons (.cel rfl (by simp) rfl (.cons (.one (.exv rfl rfl)) (.cons (.one (.exv rfl rfl)) .nil))) (.cons bs_same (.cons (bs_vec rfl (fun j hj => aplK_set rfl) (h := rfl) (hb := rfl)) (.nil)))))
        · simp only [decide_eq_false_iff_not] at h2
          have hkn : k = n := by omega
          subst hkn
          refine s_exit ?_
          refine e_run ?_
          refine lp_next 2 (by omega) (σ := [some 0, some 1, some 2]) (fz := []) (wk _ [] _ _ (vals := (by (try dsimp only [aplV, aplB]); repeat' (first | exact VSubs.nil | apply VSubs.cons | exact VSub.one (VSub1.junk _) | exact VSub.nlv rfl | exact VSub.one (VSub1.vec rfl rfl) | exact VSub.one (VSub1.exv rfl rfl)))) (blks := .cons (.cel rfl (by simp) rfl (.cons (.one (.exv rfl rfl)) (.cons (.one (.exv rfl rfl)) .nil))) (.cons (bs_vec rfl (fun j hj => by simp) (h := rfl) (hb := rfl)) (.cons (bs_vec rfl (fun j hj => by simp) (h := rfl) (hb := rfl)) (.nil)))))
    simp only [decide_eq_false_iff_not] at h1
    have hi2 : i = 2 := by omega
    subst hi2
    refine s_exit ?_
    refine s_run ?_
    refine s_ass (s_run ?_)
    refine s_loop (ι := Nat) (fun i => i ≤ 2) (fun i => 2 - i) (fun i => [.vec 1 0 2, .s (.bool false), .junk, .junk, .vec 1 3 i, i64 (i : Nat), .junk, .junk, .junk, .junk, .junk, .junk, .junk, .junk, .junk, .junk, .junk, .junk, .junk, .junk, .junk]) (fun i => [aplC n, .vec 1 n (aplM 0) false, .vec 1 n (aplM 1) false, .vec 1 i (fun j => [aplW n j]) false]) 0 (by omega) (σ := [some 0, some 1, some 2, none]) (fz := []) (wk _ [] _ _ (vals := by (repeat' (first | exact VSubs.nil | apply VSubs.cons | exact VSub.one (VSub1.junk _) | exact VSub.one (VSub1.nil rfl) | exact VSub.nlv rfl | exact VSub.one (VSub1.vec rfl rfl)))) (blks := .cons (.cel rfl (by simp) rfl (.cons (.one (.exv rfl rfl)) (.cons (.one (.exv rfl rfl)) .nil))) (.cons (bs_vec rfl (fun j hj => by simp [aplK, aplM, hj]) (h := rfl) (hb := rfl)) (.cons (bs_vec rfl (fun j hj => by simp [aplK, aplM, hj]) (h := rfl) (hb := rfl)) (.cons (.nil rfl) (.nil)))))) ?_
    intro i hi
    unfold aplC
    refine s_ass (s_run ?_)
    refine s_cond (fun h1 => ?_) (fun h1 => ?_)
    · simp only [decide_eq_true_eq] at h1
      have hc : i = 0 ∨ i = 1 := by omega
      rcases hc with rfl | rfl
      · refine s_skip (s_block ?_)
        refine s_reg (g_run 1 ?_)
        refine prg_cast eptr_ptr ?_
        refine g_end ?_
        refine s_ass (s_run ?_)
        refine s_loop (ι := Nat) (fun k => k ≤ 30) (fun k => 30 - k) (fun k => [.vec 1 0 2, .s (.bool false), .junk, .junk, .vec 1 3 0, i64 ((0 : Nat) : Int), aplV n 1 k, i64 (k : Nat), .junk, .junk, .junk, .junk, .junk, .junk, .junk, .junk, .junk, .junk, .junk, .junk, .junk]) (fun k => [aplC n, .vec 1 n (aplM 0) false, .vec 1 n (aplM 1) false, .vec 1 0 (fun j => [aplW n j]) false, aplB n 0 k]) 0 (Nat.zero_le _) (σ := [some 0, some 1, some 2, some 3, none]) (fz := []) (wk _ [] _ _ (vals := (by (try dsimp only [aplV, aplB]); repeat' (first | exact VSubs.nil | apply VSubs.cons | exact VSub.one (VSub1.junk _) | exact VSub.nlv rfl | exact VSub.one (VSub1.vec rfl rfl) | exact VSub.one (VSub1.exv rfl rfl)))) (blks := .cons (.cel rfl (by simp) rfl (.cons (.one (.exv rfl rfl)) (.cons (.one (.exv rfl rfl)) .nil))) (.cons bs_same (.cons bs_same (.cons bs_same (.cons .dead (.nil))))))) ?_
        intro k hk
        unfold aplC
        rcases k with _ | k
        · refine s_ass (s_run ?_)
          refine s_cond (fun h2 => ?_) (fun h2 => ?_)
          · simp only [decide_eq_true_eq] at h2
            refine s_skip (s_block ?_)
            refine e_reg (g_run 4 ?_)
            refine prg_head (v' := aplu (500000 + 1000 * ((0 : Nat) : Int) + ((0 : Nat) : Int))) (by unfold aplu; congr 2 <;> (simp only [aw]; omega)) ?_
            refine g_end (hq := by simp only [room, true_and, and_true]; omega) ?_
            refine e_run ?_
            refine lp_next (0 + 1) (by omega) (σ := [some 0, some 1, some 2, some 3, some 6]) (fz := []) (wk _ [] _ _ (vals := (by (try dsimp only [aplV, aplB]); repeat' (first | exact VSubs.nil | apply VSubs.cons | exact VSub.one (VSub1.junk _) | exact VSub.nlv rfl | exact VSub.one (VSub1.vec rfl rfl) | exact VSub.one (VSub1.exv rfl rfl)))) (blks := .cons (.cel rfl (by simp) rfl (.cons (.one (.exv rfl rfl)) (.cons (.one (.exv rfl rfl)) .nil))) (.cons bs_same (.cons bs_same (.cons bs_same (.cons (bs_vec rfl (fun j hj => by
                by_cases w : j < n
                · rw [if_pos w]; exact aplR_lo w
                · have : j = n := by omega
                  subst this
                  rw [if_neg w, Nat.sub_self]
                  unfold aplR aplu
                  simp) (h := rfl) (hb := rfl)) (.nil)))))))
          · simp only [decide_eq_false_iff_not] at h2
            exact absurd (by decide) h2
        · refine s_ass (s_run ?_)
          refine s_cond (fun h2 => ?_) (fun h2 => ?_)
          · simp only [decide_eq_true_eq] at h2
            refine s_skip (s_block ?_)
            refine e_reg (g_run 4 ?_)
            refine prg_head (v' := aplu (500000 + 1000 * ((0 : Nat) : Int) + (((k + 1) : Nat) : Int))) (by unfold aplu; congr 2 <;> (simp only [aw]; omega)) ?_
            refine g_end (hq := by simp only [room, true_and, and_true]; omega) ?_
            refine e_run ?_
            refine lp_next ((k + 1) + 1) (by omega) (σ := [some 0, some 1, some 2, some 3, some 6]) (fz := []) (wk _ [] _ _ (vals := (by (try dsimp only [aplV, aplB]); repeat' (first | exact VSubs.nil | apply VSubs.cons | exact VSub.one (VSub1.junk _) | exact VSub.nlv rfl | exact VSub.one (VSub1.vec rfl rfl) | exact VSub.one (VSub1.exv rfl rfl)))) (blks := .cons (.cel rfl (by simp) rfl (.cons (.one (.exv rfl rfl)) (.cons (.one (.exv rfl rfl)) .nil))) (.cons bs_same (.cons bs_same (.cons bs_same (.cons (bs_vec rfl (fun j hj => by
                by_cases w : j < n + (k + 1)
                · rw [if_pos w]
                · have : j = n + (k + 1) := by omega
                  subst this
                  rw [if_neg w, Nat.sub_self]
                  unfold aplR aplu
                  rw [if_neg (by omega), show n + (k + 1) - n = k + 1 by omega]
                  rfl) (h := rfl) (hb := rfl)) (.nil)))))))
          · simp only [decide_eq_false_iff_not] at h2
            have hk29 : k = 29 := by omega
            subst hk29
            refine s_exit ?_
            refine p_weak [some 0, some 1, some 2, some 3] [4] (wk _ [4] ([.vec 1 0 2, .s (.bool false), .junk, .junk, .vec 1 3 0, i64 ((0 : Nat) : Int), aplW n 0, .junk, .junk, .junk, .junk, .junk, .junk, .junk, .junk, .junk, .junk, .junk, .junk, .junk, .junk]) ([aplC n, .vec 1 n (aplM 0) false, .vec 1 n (aplM 1) false, .vec 1 0 (fun j => [aplW n j]) false]) (vals := by (repeat' (first | exact VSubs.nil | apply VSubs.cons | exact VSub.one (VSub1.junk _) | exact VSub.nlv rfl | exact VSub.one (VSub1.vec rfl rfl) | exact VSub.one (VSub1.vecf (.head _) rfl rfl (Nat.le_refl _) (Nat.le_refl _) fun i hi => rfl)))) (blks := .cons (.cel rfl (by simp) rfl (.cons (.one (.exv rfl rfl)) (.cons (.one (.exv rfl rfl)) .nil))) (.cons bs_same (.cons bs_same (.cons bs_same (.nil)))))) ?_
            unfold aplC
            refine e_run (hq := by simp only [room, true_and, and_true]; omega) ?_
            refine e_run ?_
            refine lp_next 1 (by omega) (σ := [some 0, some 1, some 2, some 5]) (fz := []) (wk _ [] _ _ (vals := (by (try dsimp only [aplV, aplB]); repeat' (first | exact VSubs.nil | apply VSubs.cons | exact VSub.one (VSub1.junk _) | exact VSub.nlv rfl | exact VSub.one (VSub1.vec rfl rfl) | exact VSub.one (VSub1.exv rfl rfl)))) (blks := .cons (.cel rfl (by simp) rfl (.cons (.one (.exv rfl rfl)) (.cons (.one (.exv rfl rfl)) .nil))) (.cons bs_same (.cons bs_same (.cons (bs_vec rfl (fun j hj => by
              have hj0 : j = 0 := by omega
              subst hj0; rfl) (h := rfl) (hb := rfl)) (.nil))))))
      · refine s_skip (s_block ?_)
        refine s_reg (g_run 1 ?_)
        refine prg_cast eptr_ptr ?_
        refine g_end ?_
        refine s_ass (s_run ?_)
        refine s_loop (ι := Nat) (fun k => k ≤ 30) (fun k => 30 - k) (fun k => [.vec 1 0 2, .s (.bool false), .junk, .junk, .vec 1 3 1, i64 ((1 : Nat) : Int), aplV n 2 k, i64 (k : Nat), .junk, .junk, .junk, .junk, .junk, .junk, .junk, .junk, .junk, .junk, .junk, .junk, .junk]) (fun k => [aplC n, .vec 1 n (aplM 0) false, .vec 1 n (aplM 1) false, .vec 1 1 (fun j => [aplW n j]) false, aplB n 1 k]) 0 (Nat.zero_le _) (σ := [some 0, some 1, some 2, some 3, none]) (fz := []) (wk _ [] _ _ (vals := (by (try dsimp only [aplV, aplB]); repeat' (first | exact VSubs.nil | apply VSubs.cons | exact VSub.one (VSub1.junk _) | exact VSub.nlv rfl | exact VSub.one (VSub1.vec rfl rfl) | exact VSub.one (VSub1.exv rfl rfl)))) (blks := .cons (.cel rfl (by simp) rfl (.cons (.one (.exv rfl rfl)) (.cons (.one (.exv rfl rfl)) .nil))) (.cons bs_same (.cons bs_same (.cons bs_same (.cons .dead (.nil))))))) ?_
        intro k hk
        unfold aplC
        rcases k with _ | k
        · refine s_ass (s_run ?_)
          refine s_cond (fun h2 => ?_) (fun h2 => ?_)
          · simp only [decide_eq_true_eq] at h2
            refine s_skip (s_block ?_)
            refine e_reg (g_run 4 ?_)
            refine prg_head (v' := aplu (500000 + 1000 * ((1 : Nat) : Int) + ((0 : Nat) : Int))) (by unfold aplu; congr 2 <;> (simp only [aw]; omega)) ?_
            refine g_end (hq := by simp only [room, true_and, and_true]; omega) ?_
            refine e_run ?_
            refine lp_next (0 + 1) (by omega) (σ := [some 0, some 1, some 2, some 3, some 6]) (fz := []) (wk _ [] _ _ (vals := (by (try dsimp only [aplV, aplB]); repeat' (first | exact VSubs.nil | apply VSubs.cons | exact VSub.one (VSub1.junk _) | exact VSub.nlv rfl | exact VSub.one (VSub1.vec rfl rfl) | exact VSub.one (VSub1.exv rfl rfl)))) (blks := .cons (.cel rfl (by simp) rfl (.cons (.one (.exv rfl rfl)) (.cons (.one (.exv rfl rfl)) .nil))) (.cons bs_same (.cons bs_same (.cons bs_same (.cons (bs_vec rfl (fun j hj => by
                by_cases w : j < n
                · rw [if_pos w]; exact aplR_lo w
                · have : j = n := by omega
                  subst this
                  rw [if_neg w, Nat.sub_self]
                  unfold aplR aplu
                  simp) (h := rfl) (hb := rfl)) (.nil)))))))
          · simp only [decide_eq_false_iff_not] at h2
            exact absurd (by decide) h2
        · refine s_ass (s_run ?_)
          refine s_cond (fun h2 => ?_) (fun h2 => ?_)
          · simp only [decide_eq_true_eq] at h2
            refine s_skip (s_block ?_)
            refine e_reg (g_run 4 ?_)
            refine prg_head (v' := aplu (500000 + 1000 * ((1 : Nat) : Int) + (((k + 1) : Nat) : Int))) (by unfold aplu; congr 2 <;> (simp only [aw]; omega)) ?_
            refine g_end (hq := by simp only [room, true_and, and_true]; omega) ?_
            refine e_run ?_
            refine lp_next ((k + 1) + 1) (by omega) (σ := [some 0, some 1, some 2, some 3, some 6]) (fz := []) (wk _ [] _ _ (vals := (by (try dsimp only [aplV, aplB]); repeat' (first | exact VSubs.nil | apply VSubs.cons | exact VSub.one (VSub1.junk _) | exact VSub.nlv rfl | exact VSub.one (VSub1.vec rfl rfl) | exact VSub.one (VSub1.exv rfl rfl)))) (blks := .cons (.cel rfl (by simp) rfl (.cons (.one (.exv rfl rfl)) (.cons (.one (.exv rfl rfl)) .nil))) (.cons bs_same (.cons bs_same (.cons bs_same (.cons (bs_vec rfl (fun j hj => by
                by_cases w : j < n + (k + 1)
                · rw [if_pos w]
                · have : j = n + (k + 1) := by omega
                  subst this
                  rw [if_neg w, Nat.sub_self]
                  unfold aplR aplu
                  rw [if_neg (by omega), show n + (k + 1) - n = k + 1 by omega]
                  rfl) (h := rfl) (hb := rfl)) (.nil)))))))
          · simp only [decide_eq_false_iff_not] at h2
            have hk29 : k = 29 := by omega
            subst hk29
            refine s_exit ?_
            refine p_weak [some 0, some 1, some 2, some 3] [4] (wk _ [4] ([.vec 1 0 2, .s (.bool false), .junk, .junk, .vec 1 3 1, i64 ((1 : Nat) : Int), aplW n 1, .junk, .junk, .junk, .junk, .junk, .junk, .junk, .junk, .junk, .junk, .junk, .junk, .junk, .junk]) ([aplC n, .vec 1 n (aplM 0) false, .vec 1 n (aplM 1) false, .vec 1 1 (fun j => [aplW n j]) false]) (vals := by (repeat' (first | exact VSubs.nil | apply VSubs.cons | exact VSub.one (VSub1.junk _) | exact VSub.nlv rfl | exact VSub.one (VSub1.vec rfl rfl) | exact VSub.one (VSub1.vecf (.head _) rfl rfl (Nat.le_refl _) (Nat.le_refl _) fun i hi => rfl)))) (blks := .cons (.cel rfl (by simp) rfl (.cons (.one (.exv rfl rfl)) (.cons (.one (.exv rfl rfl)) .nil))) (.cons bs_same (.cons bs_same (.cons bs_same (.nil)))))) ?_
            unfold aplC
            refine e_run (hq := by simp only [room, true_and, and_true]; omega) ?_
            refine e_run ?_
            refine lp_next 2 (by omega) (σ := [some 0, some 1, some 2, some 5]) (fz := []) (wk _ [] _ _ (vals := (by (try dsimp only [aplV, aplB]); repeat' (first | exact VSubs.nil | apply VSubs.cons | exact VSub.one (VSub1.junk _) | exact VSub.nlv rfl | exact VSub.one (VSub1.vec rfl rfl) | exact VSub.one (VSub1.exv rfl rfl)))) (blks := .cons (.cel rfl (by simp) rfl (.cons (.one (.exv rfl rfl)) (.cons (.one (.exv rfl rfl)) .nil))) (.cons bs_same (.cons bs_same (.cons (bs_vec rfl (fun j hj => by
              have hj0 : j = 0 ∨ j = 1 := by omega
              rcases hj0 with rfl | rfl <;> rfl) (h := rfl) (hb := rfl)) (.nil))))))
    simp only [decide_eq_false_iff_not] at h1
    have hi2 : i = 2 := by omega
    subst hi2
    refine s_exit ?_
    refine s_ass (s_run ?_)
    refine s_loop (ι := Nat) (fun i => i ≤ 2) (fun i => 2 - i) (fun i => [.vec 1 0 2, .s (.bool false), .junk, .junk, .vec 1 3 2, .junk, .junk, .junk, i64 (i : Nat), .junk, .junk, .junk, .junk, .junk, .junk, .junk, .junk, .junk, .junk, .junk, .junk]) (fun i => [aplC n, .vec 1 n (aplM 0) false, .vec 1 n (aplM 1) false, .vec 1 2 (fun j => [aplW n j]) false]) 0 (by omega) (σ := [some 0, some 1, some 2, some 3]) (fz := []) (wk _ [] _ _ (vals := (by (try dsimp only [aplV, aplB]); repeat' (first | exact VSubs.nil | apply VSubs.cons | exact VSub.one (VSub1.junk _) | exact VSub.nlv rfl | exact VSub.one (VSub1.vec rfl rfl) | exact VSub.one (VSub1.exv rfl rfl)))) (blks := .cons (.cel rfl (by simp) rfl (.cons (.one (.exv rfl rfl)) (.cons (.one (.exv rfl rfl)) .nil))) (.cons bs_same (.cons bs_same (.cons bs_same (.nil)))))) ?_
    intro i hi
    unfold aplC
    refine s_ass (s_run ?_)
    refine s_cond (fun h1 => ?_) (fun h1 => ?_)
    · simp only [decide_eq_true_eq] at h1
      have hc : i = 0 ∨ i = 1 := by omega
      rcases hc with rfl | rfl
      · refine s_skip (s_block ?_)
        refine s_reg (g_run 1 ?_)
        refine prg_cast eptr_ptr ?_
        refine g_end ?_
        refine s_ass (s_run ?_)
        refine s_loop (ι := Nat) (fun k => k ≤ n) (fun k => n - k) (fun k => [.vec 1 0 2, .s (.bool false), .junk, .junk, .vec 1 3 2, .junk, .junk, .junk, i64 ((0 : Nat) : Int), i64 (n : Nat), i64 (k : Nat), .junk, .junk, .junk, .junk, .junk, .junk, .junk, .junk, .junk, .junk]) (fun k => [aplC n, .vec 1 n (aplM 0) false, .vec 1 n (aplM 1) false, .vec 1 2 (fun j => [aplW n j]) false]) 0 (Nat.zero_le _) (σ := [some 0, some 1, some 2, some 3]) (fz := []) (wk _ [] _ _ (vals := (by (try dsimp only [aplV, aplB]); repeat' (first | exact VSubs.nil | apply VSubs.cons | exact VSub.one (VSub1.junk _) | exact VSub.nlv rfl | exact VSub.one (VSub1.vec rfl rfl) | exact VSub.one (VSub1.exv rfl rfl)))) (blks := .cons (.cel rfl (by simp) rfl (.cons (.one (.exv rfl rfl)) (.cons (.one (.exv rfl rfl)) .nil))) (.cons bs_same (.cons bs_same (.cons bs_same (.nil)))))) ?_
        intro k hk
        unfold aplC
        refine s_ass (s_run ?_)
        refine s_cond (fun h2 => ?_) (fun h2 => ?_)
        · simp only [decide_eq_true_eq] at h2
          refine s_skip (s_block ?_)
          refine s_reg (g_run 1 ?_)
          refine prg_cast eptr_ptr ?_
          refine g_run 7 ?_
          refine prg_head (v' := .s (.bool false)) (by congr 2; exact bne_self_eq_false _) ?_
          refine g_run 7 ?_
          refine prg_head (v' := aplu (1000 * ((0 : Nat) : Int) + (k : Nat))) (by unfold aplu; rw [if_pos (by omega)]) ?_
          refine g_run 6 ?_
          refine prg_head (v' := .s (.bool false)) (by congr 2; exact bne_self_eq_false _) ?_
          refine g_end ?_
          refine e_f ?_
          refine p_skip ?_
          refine e_run ?_
          refine lp_next (k + 1) (by omega) (σ := [some 0, some 1, some 2, some 3]) (fz := []) (wk _ [] _ _ (vals := (by (try dsimp only [aplV, aplB]); repeat' (first | exact VSubs.nil | apply VSubs.cons | exact VSub.one (VSub1.junk _) | exact VSub.nlv rfl | exact VSub.one (VSub1.vec rfl rfl) | exact VSub.one (VSub1.exv rfl rfl)))) (blks := .cons (.cel rfl (by simp) rfl (.cons (.one (.exv rfl rfl)) (.cons (.one (.exv rfl rfl)) .nil))) (.cons bs_same (.cons bs_same (.cons bs_same (.nil))))))
        · simp only [decide_eq_false_iff_not] at h2
          refine s_exit ?_
          refine s_run ?_
          refine e_loop (ι := Nat) (fun k => k ≤ 30) (fun k => 30 - k) (fun k => [.vec 1 0 2, .s (.bool false), .junk, .junk, .vec 1 3 2, .junk, .junk, .junk, i64 ((0 : Nat) : Int), i64 (n : Nat), .junk, i64 (k : Nat), .junk, .junk, .junk, .junk, .junk, .junk, .junk, .junk, .junk]) (fun k => [aplC n, .vec 1 n (aplM 0) false, .vec 1 n (aplM 1) false, .vec 1 2 (fun j => [aplW n j]) false]) 0 (Nat.zero_le _) (σ := [some 0, some 1, some 2, some 3]) (fz := []) (wk _ [] _ _ (vals := (by (try dsimp only [aplV, aplB]); repeat' (first | exact VSubs.nil | apply VSubs.cons | exact VSub.one (VSub1.junk _) | exact VSub.nlv rfl | exact VSub.one (VSub1.vec rfl rfl) | exact VSub.one (VSub1.exv rfl rfl)))) (blks := .cons (.cel rfl (by simp) rfl (.cons (.one (.exv rfl rfl)) (.cons (.one (.exv rfl rfl)) .nil))) (.cons bs_same (.cons bs_same (.cons bs_same (.nil)))))) ?_
          intro k hk
          unfold aplC
          refine s_ass (s_run ?_)
          refine s_cond (fun h3 => ?_) (fun h3 => ?_)
          · simp only [decide_eq_true_eq] at h3
            refine s_skip (s_block ?_)
            refine s_reg (g_run 3 ?_)
            refine prg_head (v' := i64 (n + k : Nat)) rfl ?_
            refine g_run 2 ?_
            refine prg_head (v' := aplu (500000 + 1000 * ((0 : Nat) : Int) + (k : Nat))) (by unfold aplu; rw [if_neg (by omega)]; congr 3; omega) ?_
            refine g_run 5 ?_
            refine prg_head (v' := .s (.bool false)) (by congr 2; exact bne_self_eq_false _) ?_
            refine g_end ?_
            refine e_f ?_
            refine p_skip ?_
            refine e_run ?_
            refine lp_next (k + 1) (by omega) (σ := [some 0, some 1, some 2, some 3]) (fz := []) (wk _ [] _ _ (vals := (by (try dsimp only [aplV, aplB]); repeat' (first | exact VSubs.nil | apply VSubs.cons | exact VSub.one (VSub1.junk _) | exact VSub.nlv rfl | exact VSub.one (VSub1.vec rfl rfl) | exact VSub.one (VSub1.exv rfl rfl)))) (blks := .cons (.cel rfl (by simp) rfl (.cons (.one (.exv rfl rfl)) (.cons (.one (.exv rfl rfl)) .nil))) (.cons bs_same (.cons bs_same (.cons bs_same (.nil))))))
          · simp only [decide_eq_false_iff_not] at h3
            refine s_exit ?_
            refine e_run ?_
            refine lp_next 1 (by omega) (σ := [some 0, some 1, some 2, some 3]) (fz := []) (wk _ [] _ _ (vals := (by (try dsimp only [aplV, aplB]); repeat' (first | exact VSubs.nil | apply VSubs.cons | exact VSub.one (VSub1.junk _) | exact VSub.nlv rfl | exact VSub.one (VSub1.vec rfl rfl) | exact VSub.one (VSub1.exv rfl rfl)))) (blks := .cons (.cel rfl (by simp) rfl (.cons (.one (.exv rfl rfl)) (.cons (.one (.exv rfl rfl)) .nil))) (.cons bs_same (.cons bs_same (.cons bs_same (.nil))))))
      · refine s_skip (s_block ?_)
        refine s_reg (g_run 1 ?_)
        refine prg_cast eptr_ptr ?_
        refine g_end ?_
        refine s_ass (s_run ?_)
        refine s_loop (ι := Nat) (fun k => k ≤ n) (fun k => n - k) (fun k => [.vec 1 0 2, .s (.bool false), .junk, .junk, .vec 1 3 2, .junk, .junk, .junk, i64 ((1 : Nat) : Int), i64 (n : Nat), i64 (k : Nat), .junk, .junk, .junk, .junk, .junk, .junk, .junk, .junk, .junk, .junk]) (fun k => [aplC n, .vec 1 n (aplM 0) false, .vec 1 n (aplM 1) false, .vec 1 2 (fun j => [aplW n j]) false]) 0 (Nat.zero_le _) (σ := [some 0, some 1, some 2, some 3]) (fz := []) (wk _ [] _ _ (vals := (by (try dsimp only [aplV, aplB]); repeat' (first | exact VSubs.nil | apply VSubs.cons | exact VSub.one (VSub1.junk _) | exact VSub.nlv rfl | exact VSub.one (VSub1.vec rfl rfl) | exact VSub.one (VSub1.exv rfl rfl)))) (blks := .cons (.cel rfl (by simp) rfl (.cons (.one (.exv rfl rfl)) (.cons (.one (.exv rfl rfl)) .nil))) (.cons bs_same (.cons bs_same (.cons bs_same (.nil)))))) ?_
        intro k hk
        unfold aplC
        refine s_ass (s_run ?_)
        refine s_cond (fun h2 => ?_) (fun h2 => ?_)
        · simp only [decide_eq_true_eq] at h2
          refine s_skip (s_block ?_)
          refine s_reg (g_run 1 ?_)
          refine prg_cast eptr_ptr ?_
          refine g_run 7 ?_
          refine prg_head (v' := .s (.bool false)) (by congr 2; exact bne_self_eq_false _) ?_
          refine g_run 7 ?_
          refine prg_head (v' := aplu (1000 * ((1 : Nat) : Int) + (k : Nat))) (by unfold aplu; rw [if_pos (by omega)]) ?_
          refine g_run 6 ?_
          refine prg_head (v' := .s (.bool false)) (by congr 2; exact bne_self_eq_false _) ?_
          refine g_end ?_
          refine e_f ?_
          refine p_skip ?_
          refine e_run ?_
          refine lp_next (k + 1) (by omega) (σ := [some 0, some 1, some 2, some 3]) (fz := []) (wk _ [] _ _ (vals := (by (try dsimp only [aplV, aplB]); repeat' (first | exact VSubs.nil | apply VSubs.cons | exact VSub.one (VSub1.junk _) | exact VSub.nlv rfl | exact VSub.one (VSub1.vec rfl rfl) | exact VSub.one (VSub1.exv rfl rfl)))) (blks := .cons (.cel rfl (by simp) rfl (.cons (.one (.exv rfl rfl)) (.cons (.one (.exv rfl rfl)) .nil))) (.cons bs_same (.cons bs_same (.cons bs_same (.nil))))))
        · simp only [decide_eq_false_iff_not] at h2
          refine s_exit ?_
          refine s_run ?_
          refine e_loop (ι := Nat) (fun k => k ≤ 30) (fun k => 30 - k) (fun k => [.vec 1 0 2, .s (.bool false), .junk, .junk, .vec 1 3 2, .junk, .junk, .junk, i64 ((1 : Nat) : Int), i64 (n : Nat), .junk, i64 (k : Nat), .junk, .junk, .junk, .junk, .junk, .junk, .junk, .junk, .junk]) (fun k => [aplC n, .vec 1 n (aplM 0) false, .vec 1 n (aplM 1) false, .vec 1 2 (fun j => [aplW n j]) false]) 0 (Nat.zero_le _) (σ := [some 0, some 1, some 2, some 3]) (fz := []) (wk _ [] _ _ (vals := (by (try dsimp only [aplV, aplB]); repeat' (first | exact VSubs.nil | apply VSubs.cons | exact VSub.one (VSub1.junk _) | exact VSub.nlv rfl | exact VSub.one (VSub1.vec rfl rfl) | exact VSub.one (VSub1.exv rfl rfl)))) (blks := .cons (.cel rfl (by simp) rfl (.cons (.one (.exv rfl rfl)) (.cons (.one (.exv rfl rfl)) .nil))) (.cons bs_same (.cons bs_same (.cons bs_same (.nil)))))) ?_
          intro k hk
          unfold aplC
          refine s_ass (s_run ?_)
          refine s_cond (fun h3 => ?_) (fun h3 => ?_)
          · simp only [decide_eq_true_eq] at h3
            refine s_skip (s_block ?_)
            refine s_reg (g_run 3 ?_)
            refine prg_head (v' := i64 (n + k : Nat)) rfl ?_
            refine g_run 2 ?_
            refine prg_head (v' := aplu (500000 + 1000 * ((1 : Nat) : Int) + (k : Nat))) (by unfold aplu; rw [if_neg (by omega)]; congr 3; omega) ?_
            refine g_run 5 ?_
            refine prg_head (v' := .s (.bool false)) (by congr 2; exact bne_self_eq_false _) ?_
            refine g_end ?_
            refine e_f ?_
            refine p_skip ?_
            refine e_run ?_
            refine lp_next (k + 1) (by omega) (σ := [some 0, some 1, some 2, some 3]) (fz := []) (wk _ [] _ _ (vals := (by (try dsimp only [aplV, aplB]); repeat' (first | exact VSubs.nil | apply VSubs.cons | exact VSub.one (VSub1.junk _) | exact VSub.nlv rfl | exact VSub.one (VSub1.vec rfl rfl) | exact VSub.one (VSub1.exv rfl rfl)))) (blks := .cons (.cel rfl (by simp) rfl (.cons (.one (.exv rfl rfl)) (.cons (.one (.exv rfl rfl)) .nil))) (.cons bs_same (.cons bs_same (.cons bs_same (.nil))))))
          · simp only [decide_eq_false_iff_not] at h3
            refine s_exit ?_
            refine e_run ?_
            refine lp_next 2 (by omega) (σ := [some 0, some 1, some 2, some 3]) (fz := []) (wk _ [] _ _ (vals := (by (try dsimp only [aplV, aplB]); repeat' (first | exact VSubs.nil | apply VSubs.cons | exact VSub.one (VSub1.junk _) | exact VSub.nlv rfl | exact VSub.one (VSub1.vec rfl rfl) | exact VSub.one (VSub1.exv rfl rfl)))) (blks := .cons (.cel rfl (by simp) rfl (.cons (.one (.exv rfl rfl)) (.cons (.one (.exv rfl rfl)) .nil))) (.cons bs_same (.cons bs_same (.cons bs_same (.nil))))))
    simp only [decide_eq_false_iff_not] at h1
    refine s_exit ?_
    refine s_run ?_
    refine p_weak [some 0, some 1, some 2] [] (wk _ [] ([.junk, .s (.bool true), .junk, .junk, .junk, .junk, .junk, .junk, .junk, .junk, .junk, .junk, .junk, .junk, .junk, .junk, .junk, .junk, .junk, .junk, .junk]) [.dead, .dead, .dead] (vals := (by (try dsimp only [aplV, aplB]); repeat' (first | exact VSubs.nil | apply VSubs.cons | exact VSub.one (VSub1.junk _) | exact VSub.nlv rfl | exact VSub.one (VSub1.vec rfl rfl) | exact VSub.one (VSub1.exv rfl rfl)))) (blks := .cons .dead (.cons .dead (.cons .dead .nil)))) ?_
    exact p_ret (fin ⟨rfl, rfl⟩)
end Go.Proofs.Ytollibkfagjnaaa.Graph

