/- frame.Heights: its list is memory of its own. PRINTED by own.py. -/
import Derived.Test.YtollibkfagjnaaaFrE
set_option linter.unusedVariables false
set_option linter.unusedSimpArgs false
set_option maxRecDepth 10000
namespace Go.Proofs.Ytollibkfagjnaaa.Shape.Kit
open Go.Proofs.Ytollibkfagjnaaa.AM
/-- Heights in a list of one's own, and a fault. -/
def HtO (v : PV) (hp : PH) : Prop := ∃ (n : Nat) (l : List Int) (t : Bool) (e g a : Int), v = .tup [.exv 1 1 n, .agg [i64 e, i64 g, i64 a]] ∧ hp = [.cel [i64 e, i64 g, i64 a], .vec 1 n (rowI .i64 l) t] ∧ n ≤ 1000000
theorem heightsO_ok {m : Md} (hf : MdFits m) (hgf : OkM m → ∀ i, i < m.fns.length → Gr.Fit (fnAt m i).code) (f : Int) (hfi : in64 f) : PCall E [] 20 [lentM m, i64 f] [] HtO := by
  refine p_call (fun _ _ => rfl) rfl ?_
  show PTri E false [] _ [lentM m, i64 f, .junk, .junk, .junk, .junk, .junk, .junk, .junk, .junk, .junk, .junk, .junk, .junk, .junk, .junk, .junk, .junk, .junk, .junk, .junk, .junk, .junk, .junk, .junk, .junk, .junk, .junk, .junk, .junk] _ _
  refine s_run ?_
  refine s_ass (s_reg (g_run 1 ?_))
  refine g_call (scheck_ok (.inr rfl) hf) ?_
  rintro v ⟨e, g, a, rfl, hc⟩
  refine ⟨rfl, ?_⟩
  refine g_end ?_
  refine s_ass (s_run ?_)
  refine s_cond (fun h => ?_) (fun h => ?_)
  · have he : e ≠ 0 := by simpa using h
    refine s_ass (d_run ?_)
    refine p_weak [some 1, none] [] (T' := [.junk, .junk, .junk, .exv 1 1 0, .ptr 0 0, .junk, .junk, .junk, .junk, .junk, .junk, .junk, .junk, .junk, .junk, .junk, .junk, .junk, .junk, .junk, .junk, .junk, .junk, .junk, .junk, .junk, .junk, .junk, .junk, .junk]) (hp' := [.cel [i64 e, i64 g, i64 a], .vec 1 0 (rowI .i64 []) true]) (wk _ _ _ _ (vals := by repeat' (first | exact VSubs.nil | apply VSubs.cons | exact VSub.one (VSub1.junk _) | exact VSub.one (VSub1.ptr rfl) | exact VSub.one (VSub1.nilE rfl))) (blks := .cons bs_cel (.cons (.nil rfl) .nil))) ?_
    exact s_ret (fin ⟨0, [], true, e, g, a, rfl, rfl, by omega⟩)
  have he : e = 0 := by simpa using h
  subst he
  have hok : OkM m := ⟨_, _, hc⟩
  clear h
  refine s_skip (s_ass ?_)
  refine s_reg (g_run 1 ?_)
  refine prg_split (fun h => ?_) (fun h => ?_)
  · simp only [decide_eq_true_eq] at h
    refine g_end ?_
    refine s_t (s_ass (s_run ?_))
    refine p_weak [some 1, none] [] (T' := [.junk, .junk, .junk, .exv 1 1 0, .ptr 0 0, .junk, .junk, .junk, .junk, .junk, .junk, .junk, .junk, .junk, .junk, .junk, .junk, .junk, .junk, .junk, .junk, .junk, .junk, .junk, .junk, .junk, .junk, .junk, .junk, .junk]) (hp' := [.cel [i64 1, i64 f, i64 0], .vec 1 0 (rowI .i64 []) true]) (wk _ _ _ _ (vals := by repeat' (first | exact VSubs.nil | apply VSubs.cons | exact VSub.one (VSub1.junk _) | exact VSub.one (VSub1.ptr rfl) | exact VSub.one (VSub1.nilE rfl))) (blks := .cons bs_cel (.cons (.nil rfl) .nil))) ?_
    exact s_ret (fin ⟨0, [], true, 1, f, 0, rfl, rfl, by omega⟩)
  simp only [decide_eq_false_iff_not] at h
  obtain ⟨i, rfl⟩ : ∃ i : Nat, f = i := ⟨f.toNat, by omega⟩
  refine g_run 6 ?_
  refine g_end ?_
  refine s_cond (fun h2 => ?_) (fun h2 => ?_)
  · simp only [ge_iff_le, decide_eq_true_eq] at h2
    refine s_ass (s_run ?_)
    refine p_weak [some 1, none] [] (T' := [.junk, .junk, .junk, .exv 1 1 0, .ptr 0 0, .junk, .junk, .junk, .junk, .junk, .junk, .junk, .junk, .junk, .junk, .junk, .junk, .junk, .junk, .junk, .junk, .junk, .junk, .junk, .junk, .junk, .junk, .junk, .junk, .junk]) (hp' := [.cel [i64 1, i64 (i : Nat), i64 0], .vec 1 0 (rowI .i64 []) true]) (wk _ _ _ _ (vals := by repeat' (first | exact VSubs.nil | apply VSubs.cons | exact VSub.one (VSub1.junk _) | exact VSub.one (VSub1.ptr rfl) | exact VSub.one (VSub1.nilE rfl))) (blks := .cons bs_cel (.cons (.nil rfl) .nil))) ?_
    exact s_ret (fin ⟨0, [], true, 1, (i : Nat), 0, rfl, rfl, by omega⟩)
  simp only [ge_iff_le, decide_eq_false_iff_not] at h2
  have hi : i < m.fns.length := by omega
  obtain ⟨z1, z2, z3, z4, z5, z6, z7, z8⟩ := ok_size hok hi
  obtain ⟨n, hn⟩ : ∃ n, (fnAt m i).code.length = n := ⟨_, rfl⟩
  have hn' : (m.fns.getD i default).code.length = n := hn
  rw [hn] at z5 z6
  refine s_skip ?_
  refine s_reg (g_run 3 ?_)
  refine prg_cast (fptr_one (if_pos hi)) ?_
  refine g_end ?_
  refine p_weak [some 1] [0, 3] (T' := [.junk, i64 (i : Nat), .fptr 4 1 (fun _ => cellsL m) 0 0, .s (.slice none 0 0), .ptr 0 0, .junk, .fptr 6 1 (fun _ => lentCells (fnAt m i)) 0 0, .junk, .junk, .junk, .junk, .junk, .junk, .junk, .junk, .junk, .junk, .junk, .junk, .junk, .junk, .junk, .junk, .junk, .junk, .junk, .junk, .junk, .junk, .junk]) (hp' := [.cel [i64 0, i64 0, i64 0]]) (wk _ _ _ _ (vals := ?_)) ?_
  · refine .cons (.one (.junk _)) (.cons (.nlv rfl) (.cons (.one ?_) (.cons (.nlv rfl) (.cons (.one (.ptr rfl)) (.cons (.one (.junk _)) (.cons (.one ?_) ?_))))))
    · exact .ptrf (.head _) rfl (by omega) rfl (by simp [cellsL]) rfl fun j hj => by
        have : j = 0 := by omega
        subst this; rfl
    · exact .ptrf (.tail _ (.head _)) rfl (by omega) rfl (by simp [lentCells]) rfl fun j hj => by
        have : j = 0 := by omega
        subst this; rfl
    · repeat' (first | exact VSubs.nil | apply VSubs.cons | exact VSub.one (VSub1.junk _))
  refine s_reg (g_run 4 ?_)
  rw [hn]
  refine g_scall [] [1] (args' := [.frz 1 1 1 (fun _ => [i64 (-1)]), i64 (n : Nat)]) (hpc := []) (repeat_ok (n := n) (by omega) z6) ⟨rfl, rfl, rfl, .cons (.one (.vecf (.head _) rfl rfl (Nat.le_refl _) (Nat.le_refl _) fun j hj => ?_)) (.cons (.nlv rfl) .nil), .nil⟩ ?_
  · have : j = 0 := by omega
    subst this; rfl
  rintro v hpc' ⟨rfl, rfl⟩
  refine ⟨rfl, rfl, Nat.zero_le _, ?_⟩
  refine g_end ?_
  refine s_run ?_ (hq := by simp only [true_and, and_true]; omega)
  refine p_weak [some 0, some 2] [] (T' := [.junk, i64 (i : Nat), .fptr 4 1 (fun _ => cellsL m) 0 0, .s (.slice none 0 0), .ptr 0 0, .junk, .fptr 6 1 (fun _ => lentCells (fnAt m i)) 0 0, .exv 1 1 n, .junk, .junk, .junk, .junk, .junk, .junk, .junk, .junk, .junk, .junk, .junk, .junk, .junk, .junk, .junk, .junk, .junk, .junk, .junk, .junk, .junk, .junk]) (hp' := [.cel [i64 0, i64 0, i64 0], .vec 1 n (rowI .i64 (hs0 n)) true]) (wk _ _ _ _ (vals := ?_) (blks := .cons bs_cel (.cons (bs_vec rfl fun j hj => ?_) .nil))) ?_
  · repeat' (first | exact VSubs.nil | apply VSubs.cons | exact VSub.one (VSub1.junk _) | exact VSub.nlv rfl | exact VSub.one (VSub1.ptr rfl) | exact VSub.one (VSub1.exv rfl rfl))
  · by_cases e : j = 0
    · subst e; rfl
    · show (if j = 0 then _ else [i64 (-1)]) = [i64 ((hs0 n).getD j 0)]
      rw [if_neg e]
      obtain ⟨k, rfl⟩ : ∃ k, j = k + 1 := ⟨j - 1, by omega⟩
      simp only [hs0, List.getD_eq_getElem?_getD, List.getElem?_cons_succ, List.getElem?_replicate]
      rw [if_pos (by omega)]; rfl
  refine s_ass (s_reg ?_)
  refine prg_mkarrx rfl ?_
  refine g_end ?_
  have hlen0 : (hs0 n).length = n := (hinv0 z6).len
  refine s_loop (ι := List Int × List Bool × Option (List Int)) (fun j => HInv n j.1 j.2.1 ∧ (∀ r, HRun m i j.1 j.2.1 r → HRun m i (hs0 n) (lk0 n) r) ∧ (j.2.2 = none → (tdl j.1 j.2.1).length ≤ 1) ∧ ∀ pre, j.2.2 = some pre → (pre ++ natH (tdl j.1 j.2.1)).length ≤ n) (fun j => unl j.2.1) (fun j => uH m i n (qv j.2.2 (natH (tdl j.1 j.2.1)) 2) .junk .junk .junk .junk .junk .junk .junk .junk) (fun j => hH j.1 j.2.2 (natH (tdl j.1 j.2.1))) (hs0 n, lk0 n, none) ⟨hinv0 z6, fun _ h => h, fun _ => by rw [tdl0 z6]; exact Nat.le_refl _, fun pre h => nomatch h⟩ (σ := [some 0, some 1, some 2]) (fz := []) ?_ ?_
  · dsimp only
    rw [tdl0 z6]
    refine wk _ _ _ _ (vals := ?_) (blks := .cons bs_cel (.cons (bs_vec hlen0 fun _ _ => rfl) (.cons (.vec rfl (by decide) rfl (Nat.le_refl _) (fun h => nomatch h) fun j hj => ?_) .nil)))
    · (try dsimp only [uH, qv])
      repeat' (first | exact VSubs.nil | apply VSubs.cons | exact VSub.one (VSub1.junk _) | exact VSub.nlv rfl | exact VSub.one (VSub1.ptr rfl) | exact VSub.one (VSub1.exv rfl rfl))
    · have : j = 0 := by have : j < 1 := hj; omega
      subst this; rfl
  rintro ⟨hs, lk, x⟩ ⟨hI, hrun, hx1, hxp⟩
  dsimp only at hI hrun hx1 hxp
  have hl := hI.len
  have hk := hI.lkl
  obtain ⟨td, htd⟩ : ∃ td, tdl hs lk = td := ⟨_, rfl⟩
  show PTri E false [] _ (uH m i n (qv x (natH (tdl hs lk)) 2) .junk .junk .junk .junk .junk .junk .junk .junk) (hH hs x (natH (tdl hs lk))) _
  rw [htd] at hx1 hxp ⊢
  unfold uH hH
  refine s_ass (s_reg ?_)
  refine prg_qlen rfl ?_
  refine g_end ?_
  refine s_cond (fun h => ?_) (fun h => ?_)
  rotate_left
  · simp only [gt_iff_lt, decide_eq_false_iff_not] at h
    have htn : td = [] := List.eq_nil_of_length_eq_zero (by rw [natH_len] at h; omega)
    refine s_exit ?_
    refine s_run ?_
    refine p_weak [some 0, some 1] [] (T' := [.junk, .junk, .junk, .exv 1 1 n, .ptr 0 0, .junk, .junk, .junk, .junk, .junk, .junk, .junk, .junk, .junk, .junk, .junk, .junk, .junk, .junk, .junk, .junk, .junk, .junk, .junk, .junk, .junk, .junk, .junk, .junk, .junk]) (hp' := [.cel [i64 0, i64 0, i64 0], .vec 1 n (rowI .i64 hs) true]) (wk _ _ _ _ (vals := ?_) (blks := .cons bs_cel (.cons (bs_vec hl.symm fun _ _ => rfl) .nil))) ?_
    · repeat' (first | exact VSubs.nil | apply VSubs.cons | exact VSub.one (VSub1.junk _) | exact VSub.one (VSub1.ptr rfl) | exact VSub.one (VSub1.exv rfl rfl))
    exact p_ret (fin ⟨n, hs, true, 0, 0, 0, rfl, rfl, by omega⟩)
  simp only [gt_iff_lt, decide_eq_true_eq] at h
  obtain ⟨b, r, rfl⟩ : ∃ b r, td = b :: r := by
    cases td with
    | nil => simp [natH] at h
    | cons b r => exact ⟨b, r, rfl⟩
  have hbm : b ∈ tdl hs lk := by rw [htd]; exact List.mem_cons_self ..
  obtain ⟨hba, hb0, hlkb⟩ := tdl_mem.1 hbm
  rw [hl] at hba
  have hpop := tdl_pop (hk.trans hl.symm) htd
  have hI2 := hI.look hb0
  have hbl : b < (fnAt m i).code.length := by omega
  have hnc : natH (b :: r) = ((b : Nat) : Int) :: natH r := rfl
  have hxr : x = none → r = [] := fun e => by
    have := hx1 e
    simp only [List.length_cons] at this
    exact List.eq_nil_of_length_eq_zero (by omega)
  have hxr' : x = none → natH r = [] := fun e => by rw [hxr e]; rfl
  obtain ⟨q1, q2, q3, q4⟩ := eff_small hok hi hbl
  have hh1 := hI.hi b
  refine s_skip (p_block ?_)
  refine s_reg ?_
  rw [hnc]
  refine prg_qhead rfl rfl rfl fun P => ?_
  refine g_fin ?_
  refine s_reg ?_
  refine prg_qcut rfl rfl hxr' ?_
  refine g_fin ?_
  obtain ⟨x', hx'⟩ : ∃ x', x.map (· ++ [((b : Nat) : Int)]) = x' := ⟨_, rfl⟩
  have hxr2 : x' = none → natH r = [] := fun e => hxr' (by cases x with | none => rfl | some pre => rw [← hx'] at e; cases e)
  have hxp2 : ∀ pre, x' = some pre → (pre ++ natH r).length ≤ n := fun pre e => by
    cases x with
    | none => rw [← hx'] at e; cases e
    | some pre0 =>
      rw [← hx'] at e
      cases e
      have := hxp pre0 rfl
      rw [hnc] at this
      simp only [List.length_append, List.length_cons, List.length_nil] at this ⊢
      omega
  obtain ⟨lk2, hlk2⟩ : ∃ lk2, lk.set b true = lk2 := ⟨_, rfl⟩
  have hunl : unl lk2 < unl lk := by rw [← hlk2]; exact unl_set (by omega) hlkb
  rw [hlk2] at hI2 hpop
  refine p_weak [some 0, some 1, some 2] [] (T' := uH m i n (qv x' (natH r) 2) (i64 (b : Nat)) .junk .junk .junk .junk .junk .junk .junk) (hp' := hH hs x' (natH r)) ?_ ?_
  · rw [← hx']
    refine wk _ _ _ _ (vals := ?_) (blks := .cons bs_cel (.cons bs_same (.cons (bs_qcut hxr') .nil)))
    (try dsimp only [uH])
    repeat' (first | exact VSubs.nil | apply VSubs.cons | exact VSub.one (VSub1.junk _) | exact VSub.nlv rfl | exact VSub.one (VSub1.ptr rfl) | exact VSub.one (VSub1.exv rfl rfl) | exact VSub.one (qv_sub rfl))
  unfold uH hH
  obtain ⟨op, A, hop⟩ : ∃ op A, (fnAt m i).code.getD b (0, 0) = (op, A) := ⟨_, _, rfl⟩
  have hopA := (op_ok hok hi hbl hop).2
  have hE : effS m i op A = effH m i b := by unfold effH; rw [hop]
  have hcg : ((fnAt m i).code ++ [(-71, 0)]).getD b (0, 0) = (op, A) := by rw [getD_pre hbl, hop]
  refine s_drw (g_run 5 ?_ (hq := by simp only [true_and, and_true]; omega))
  rw [hcg]
  refine g_call (effect_ok hf hi op A hopA) ?_
  rintro v rfl
  refine ⟨rfl, ?_⟩
  rw [hE]
  obtain ⟨P, hP⟩ : ∃ P, (effH m i b).1 = P := ⟨_, rfl⟩
  obtain ⟨G, hG⟩ : ∃ G, (effH m i b).2 = G := ⟨_, rfl⟩
  rw [hP] at q1 q2
  rw [hG] at q3 q4
  rw [hP, hG]
  have hLf : leftH m i (hs.getD b 0) b = hs.getD b 0 - P + G := by unfold leftH; rw [hP, hG]
  refine g_end ?_
  refine s_run ?_ (hq := by simp only [true_and, and_true, in64]; omega)
  refine s_run ?_
  obtain ⟨lf, hlf⟩ : ∃ lf, hs.getD b 0 - P + G = lf := ⟨_, rfl⟩
  obtain ⟨w, hw⟩ : ∃ w, chkH m i (hs.getD b 0) b = w := ⟨_, rfl⟩
  have hop46 : opH m i b = op := by unfold opH; rw [hop]
  refine s_cut (fun T' hp' => T' = uH m i n (qv x' (natH r) 2) (i64 (b : Nat)) (i64 P) (i64 G) (i64 lf) (i64 w) .junk .junk .junk ∧ hp' = hH hs x' (natH r)) ?_ ?_
  · refine p_post (p_block ?_)
    have fin1 : ∀ {T' : List PV} {hp' : PH}, VSubs [some 0, some 1, some 2] [] hp' T' (uH m i n (qv x' (natH r) 2) (i64 (b : Nat)) (i64 P) (i64 G) (i64 lf) (i64 w) .junk .junk .junk) → hp' = hH hs x' (natH r) → wkQ [] (cutQ fun T' hp' => T' = uH m i n (qv x' (natH r) 2) (i64 (b : Nat)) (i64 P) (i64 G) (i64 lf) (i64 w) .junk .junk .junk ∧ hp' = hH hs x' (natH r)) .norm T' hp' := fun hv e => by
      subst e
      exact ⟨[some 0, some 1, some 2], [], _, _, wk _ _ _ _ (vals := hv) (blks := .cons bs_cel (.cons bs_same (.cons bs_q .nil))), rfl, rfl, rfl⟩
    refine s_run ?_ (hq := by simp only [true_and, and_true]; omega)
    refine e_cond (fun h4 => ?_) (fun h4 => ?_)
    · simp only [decide_eq_true_eq] at h4
      refine e_run ?_
      have hw2 : w = 172 := by rw [← hw]; unfold chkH; rw [hP, if_pos h4]
      refine fin1 ?_ rfl
      rw [hw2, ← hlf]
      unfold uH
      repeat' (first | exact VSubs.nil | apply VSubs.cons | exact VSub.one (VSub1.junk _) | exact VSub.nlv rfl | exact VSub.one (VSub1.ptr rfl) | exact VSub.one (VSub1.exv rfl rfl) | exact VSub.one (qv_sub rfl))
    simp only [decide_eq_false_iff_not] at h4
    refine s_run ?_
    refine e_cond (fun h5 => ?_) (fun h5 => ?_)
    · simp only [gt_iff_lt, decide_eq_true_eq] at h5
      refine e_run ?_
      have hw2 : w = 171 := by rw [← hw]; unfold chkH; rw [hP, hLf, if_neg h4, if_pos h5]
      refine fin1 ?_ rfl
      rw [hw2, ← hlf]
      unfold uH
      repeat' (first | exact VSubs.nil | apply VSubs.cons | exact VSub.one (VSub1.junk _) | exact VSub.nlv rfl | exact VSub.one (VSub1.ptr rfl) | exact VSub.one (VSub1.exv rfl rfl) | exact VSub.one (qv_sub rfl))
    simp only [gt_iff_lt, decide_eq_false_iff_not] at h5
    refine s_reg (g_run 5 ?_ (hq := by simp only [true_and, and_true]; omega))
    rw [hcg]
    refine g_run 1 ?_
    refine prg_head (v' := .s (.bool (decide (op = 46)))) (congrArg (fun b => PV.s (.bool b)) (Bool.beq_eq_decide_eq _ _)) ?_
    refine prg_split (fun h6 => ?_) (fun h6 => ?_)
    · simp only [decide_eq_true_eq] at h6
      refine g_run 6 ?_ (hq := by simp only [true_and, and_true]; omega)
      refine prg_split (fun h7 => ?_) (fun h7 => ?_)
      · have hne : hs.getD b 0 ≠ P := by simpa using h7
        refine g_end ?_
        refine e_t (e_run ?_)
        have hw2 : w = 170 := by rw [← hw]; unfold chkH; rw [hP, hLf, hop46, if_neg h4, if_neg (by omega), if_pos ⟨h6, hne⟩]
        refine fin1 ?_ rfl
        rw [hw2, ← hlf]
        unfold uH
        repeat' (first | exact VSubs.nil | apply VSubs.cons | exact VSub.one (VSub1.junk _) | exact VSub.nlv rfl | exact VSub.one (VSub1.ptr rfl) | exact VSub.one (VSub1.exv rfl rfl) | exact VSub.one (qv_sub rfl))
      · have heq : hs.getD b 0 = P := by simpa using h7
        refine g_end ?_
        refine e_f (p_skip ?_)
        have hw2 : w = 0 := by rw [← hw]; unfold chkH; rw [hP, hLf, hop46, if_neg h4, if_neg (by omega), if_neg (fun h => h.2 heq)]
        refine fin1 ?_ rfl
        rw [hw2, ← hlf]
        unfold uH
        repeat' (first | exact VSubs.nil | apply VSubs.cons | exact VSub.one (VSub1.junk _) | exact VSub.nlv rfl | exact VSub.one (VSub1.ptr rfl) | exact VSub.one (VSub1.exv rfl rfl) | exact VSub.one (qv_sub rfl))
    · simp only [decide_eq_false_iff_not] at h6
      refine g_end ?_
      refine e_f (p_skip ?_)
      have hw2 : w = 0 := by rw [← hw]; unfold chkH; rw [hP, hLf, hop46, if_neg h4, if_neg (by omega), if_neg (fun h => h6 h.1)]
      refine fin1 ?_ rfl
      rw [hw2, ← hlf]
      unfold uH
      repeat' (first | exact VSubs.nil | apply VSubs.cons | exact VSub.one (VSub1.junk _) | exact VSub.nlv rfl | exact VSub.one (VSub1.ptr rfl) | exact VSub.one (VSub1.exv rfl rfl) | exact VSub.one (qv_sub rfl))
  rintro T' hp' ⟨rfl, rfl⟩
  unfold uH hH
  -- what follows on it
  obtain ⟨nx, hnx⟩ : ∃ nx, nxH m i b = nx := ⟨_, rfl⟩
  obtain ⟨hn1, hn2⟩ := nx_nat hbl
  rw [hnx] at hn1 hn2
  refine s_ass (s_reg (g_run 1 ?_))
  refine prg_cast lent_enc ?_
  refine g_call (Gr.next_ok (f := toG (fnAt m i)) (hgf hok i hi) (b : Nat)) ?_
  rintro v rfl
  refine ⟨rfl, ?_⟩
  rw [show Gr.nextI (toG (fnAt m i)).code ((b : Nat) : Int) = natH nx from hn1]
  refine g_end ?_
  have hnl : (natH nx).length = nx.length := natH_len
  have hnx2 : nx.length ≤ 2 := by
    rw [← hnx]; unfold nxH; rw [List.length_map]; exact Gr.nextL_len _ _
  refine s_loop (ι := Nat × Int × List Int × Option (List Int) × List Int) (fun j => j.1 ≤ nx.length ∧ j.2.2.1.length = n ∧ (j.2.2.2.1 = none → j.2.2.2.2 = []) ∧ (∀ pre, j.2.2.2.1 = some pre → (pre ++ j.2.2.2.2).length ≤ n) ∧ ((j.2.1 = 0 ∧ w = 0 ∧ goS n lf (nx.take j.1) (some hs) = some j.2.2.1 ∧ j.2.2.2.2 = natH (tdl j.2.2.1 lk2)) ∨ (j.2.1 ≠ 0 ∧ (j.2.1 = w ∨ (w = 0 ∧ j.2.1 = 170 ∧ goS n lf nx (some hs) = none))))) (fun j => nx.length - j.1) (fun j => uH m i n (qv j.2.2.2.1 j.2.2.2.2 2) (i64 (b : Nat)) .junk .junk (i64 lf) (i64 j.2.1) (encI (natH nx)) (i64 (nx.length : Nat)) (i64 (j.1 : Nat))) (fun j => hH j.2.2.1 j.2.2.2.1 j.2.2.2.2) (0, w, hs, x', natH r) ⟨Nat.zero_le _, hl, hxr2, hxp2, ?_⟩ (σ := [some 0, some 1, some 2]) (fz := []) (wk _ _ _ _ (vals := ?_) (blks := .cons bs_cel (.cons bs_same (.cons bs_q .nil)))) ?_
  · dsimp only
    by_cases h0 : w = 0
    · exact .inl ⟨h0, h0, rfl, by rw [hpop]⟩
    · exact .inr ⟨h0, .inl rfl⟩
  · (try dsimp only [uH])
    rw [hnl]
    repeat' (first | exact VSubs.nil | apply VSubs.cons | exact VSub.one (VSub1.junk _) | exact VSub.nlv rfl | exact VSub.one (VSub1.ptr rfl) | exact VSub.one (VSub1.exv rfl rfl) | exact VSub.one (qv_sub rfl))
  have hc0 : w = 0 → 0 ≤ lf ∧ lf ≤ 64 := fun e => by
    rw [← hw] at e
    unfold chkH at e
    rw [hP, hLf] at e
    split at e
    · cases e
    · split at e
      · cases e
      · omega
  · rintro ⟨k, w1, ht, y, tq⟩ ⟨hkn, htl, hy1, hyp, hcase⟩
    dsimp only at hkn htl hy1 hyp hcase
    show PTri E false [] _ (uH m i n (qv y tq 2) (i64 (b : Nat)) .junk .junk (i64 lf) (i64 w1) (encI (natH nx)) (i64 (nx.length : Nat)) (i64 (k : Nat))) (hH ht y tq) _
    unfold uH hH
    refine s_run ?_
    refine s_cond (fun h7 => ?_) (fun h7 => ?_)
    rotate_left
    · simp only [decide_eq_false_iff_not] at h7
      refine s_exit ?_
      refine s_run ?_
      refine e_cond (fun h8 => ?_) (fun h8 => ?_)
      · have hw1 : w1 ≠ 0 := by simpa using h8
        rcases hcase with ⟨h0, _⟩ | ⟨_, hbad⟩
        · exact absurd h0 hw1
        refine s_run ?_
        refine p_weak [some 0, none] [] (T' := [.junk, .junk, .junk, .exv 1 1 0, .ptr 0 0, .junk, .junk, .junk, .junk, .junk, .junk, .junk, .junk, .junk, .junk, .junk, .junk, .junk, .junk, .junk, .junk, .junk, .junk, .junk, .junk, .junk, .junk, .junk, .junk, .junk]) (hp' := [.cel [i64 w1, i64 (i : Nat), i64 (b : Nat)], .vec 1 0 (rowI .i64 []) true]) (wk _ _ _ _ (vals := by repeat' (first | exact VSubs.nil | apply VSubs.cons | exact VSub.one (VSub1.junk _) | exact VSub.one (VSub1.ptr rfl) | exact VSub.one (VSub1.nilE rfl))) (blks := .cons bs_cel (.cons (.nil rfl) .nil))) ?_
        exact p_ret (fin ⟨0, [], true, w1, (i : Nat), (b : Nat), rfl, rfl, by omega⟩)
      · have hw1 : w1 = 0 := by simpa using h8
        rcases hcase with ⟨_, h0, hgo, hq⟩ | ⟨h0, _⟩
        rotate_left
        · exact absurd hw1 h0
        rw [List.take_of_length_le (by omega)] at hgo
        obtain ⟨c1, c2⟩ := hc0 h0
        obtain ⟨hIt, _⟩ := goS_inv c1 c2 hI2 hgo
        refine p_skip ?_
        subst hq
        refine lp_next (ht, lk2, y) ⟨hIt, fun z hz => hrun z ?_, fun e => ?_, hyp⟩ (hlt := hunl) (σ := [some 0, some 1, some 2]) (fz := []) (wk _ _ _ _ (vals := by (try dsimp only [uH]); repeat' (first | exact VSubs.nil | apply VSubs.cons | exact VSub.one (VSub1.junk _) | exact VSub.nlv rfl | exact VSub.one (VSub1.ptr rfl) | exact VSub.one (VSub1.exv rfl rfl) | exact VSub.one (qv_sub rfl))) (blks := .cons bs_cel (.cons bs_same (.cons bs_q .nil))))
        · exact .go htd (hw.trans h0) (by rw [hnx, hLf, hlf, hn]; exact hgo) (by rw [hlk2]; exact hz)
        · have := congrArg List.length (hy1 e)
          rw [natH_len] at this
          show (tdl ht lk2).length ≤ 1
          rw [this]; exact Nat.zero_le _
    simp only [decide_eq_true_eq] at h7
    have hkx : k < nx.length := by omega
    obtain ⟨c, hcx⟩ : ∃ c, nx.getD k 0 = c := ⟨_, rfl⟩
    have hnk := natH_at hkx
    rw [hcx] at hnk
    have hck : nx[k]? = some c := by rw [List.getElem?_eq_getElem hkx, ← hcx, List.getD_eq_getElem?_getD, List.getElem?_eq_getElem hkx]; rfl
    have hcm : c ≤ n := by rw [← hn]; exact hn2 c (List.mem_of_getElem? hck)
    have hsn : goS n lf (nx.take (k + 1)) (some hs) = (goS n lf (nx.take k) (some hs)).bind (go1 n lf c) := by
      have : nx.take (k + 1) = nx.take k ++ [c] := by rw [List.take_add_one, hck]; rfl
      rw [this, goS_snoc]
    refine s_skip (s_block ?_)
    refine s_reg (g_run 2 ?_ (hq := by simp only [true_and, and_true, hnl]; omega))
    rw [hnk]
    refine g_end ?_
    refine p_block ?_
    refine s_reg (g_run 3 ?_)
    rw [hn]
    refine g_run 1 ?_
    refine prg_split (fun h8 => ?_) (fun h8 => ?_)
    · simp only [beq_iff_eq] at h8
      refine g_end ?_
      refine e_t (p_skip ?_)
      refine e_run ?_
      refine lp_next (k + 1, w1, ht, y, tq) ⟨by show k + 1 ≤ _; omega, htl, hy1, hyp, ?_⟩ (hlt := by show nx.length - (k + 1) < nx.length - k; omega) (σ := [some 0, some 1, some 2]) (fz := []) (wk _ _ _ _ (vals := by (try dsimp only [uH]); repeat' (first | exact VSubs.nil | apply VSubs.cons | exact VSub.one (VSub1.junk _) | exact VSub.nlv rfl | exact VSub.one (VSub1.ptr rfl) | exact VSub.one (VSub1.exv rfl rfl) | exact VSub.one (qv_sub rfl))) (blks := .cons bs_cel (.cons bs_same (.cons bs_q .nil))))
      dsimp only
      rcases hcase with ⟨h0, h1, hgo, hq⟩ | hbad
      · refine .inl ⟨h0, h1, ?_, hq⟩
        rw [hsn, hgo]
        show go1 n lf c ht = _
        unfold go1; rw [if_pos (by omega)]
      · exact .inr hbad
    have hcn : c ≠ n := fun e => by simp only [beq_eq_false_iff_ne, ne_eq] at h8; omega
    have hcl : c < n := by omega
    refine g_end ?_
    refine e_cond (fun h9 => ?_) (fun h9 => ?_)
    · have hw1 : w1 ≠ 0 := by simpa using h9
      refine p_skip (e_run ?_)
      refine lp_next (k + 1, w1, ht, y, tq) ⟨by show k + 1 ≤ _; omega, htl, hy1, hyp, ?_⟩ (hlt := by show nx.length - (k + 1) < nx.length - k; omega) (σ := [some 0, some 1, some 2]) (fz := []) (wk _ _ _ _ (vals := by (try dsimp only [uH]); repeat' (first | exact VSubs.nil | apply VSubs.cons | exact VSub.one (VSub1.junk _) | exact VSub.nlv rfl | exact VSub.one (VSub1.ptr rfl) | exact VSub.one (VSub1.exv rfl rfl) | exact VSub.one (qv_sub rfl))) (blks := .cons bs_cel (.cons bs_same (.cons bs_q .nil))))
      dsimp only
      rcases hcase with ⟨h0, _⟩ | hbad
      · exact absurd h0 hw1
      · exact .inr hbad
    have hw1 : w1 = 0 := by simpa using h9
    subst hw1
    rcases hcase with ⟨_, h0, hgo, hq⟩ | ⟨h0, _⟩
    rotate_left
    · exact absurd rfl h0
    subst hq
    obtain ⟨c1, c2⟩ := hc0 h0
    obtain ⟨hIt, _⟩ := goS_inv c1 c2 hI2 hgo
    rw [hgo] at hsn
    replace hsn : goS n lf (nx.take (k + 1)) (some hs) = go1 n lf c ht := hsn
    refine s_run ?_ (hq := by simp only [true_and, and_true]; omega)
    refine e_cond (fun h10 => ?_) (fun h10 => ?_)
    · simp only [decide_eq_true_eq] at h10
      have hlkc : lk2.getD c false = false := by
        cases hq : lk2.getD c false with
        | false => rfl
        | true => have := hIt.lk c hq; omega
      refine s_run ?_ (hq := by simp only [true_and, and_true]; omega)
      refine p_weak [some 0, some 1, some 2] [] (T' := uH m i n (qv y (natH (tdl ht lk2)) 2) (i64 (b : Nat)) .junk .junk (i64 lf) (i64 0) (encI (natH nx)) (i64 (nx.length : Nat)) (i64 (k : Nat)) |>.set 14 (i64 (c : Nat))) (hp' := hH (ht.set c lf) y (natH (tdl ht lk2))) (wk _ _ _ _ (vals := by (try dsimp only [uH]); repeat' (first | exact VSubs.nil | apply VSubs.cons | exact VSub.one (VSub1.junk _) | exact VSub.nlv rfl | exact VSub.one (VSub1.ptr rfl) | exact VSub.one (VSub1.exv rfl rfl) | exact VSub.one (qv_sub rfl) | exact VSub.one (VSub1.que rfl rfl hLl))) (blks := .cons bs_cel (.cons (bs_vec List.length_set fun j hj => ?_) (.cons bs_q .nil)))) ?_
      · exact row1_set (en := fun b => .s (.int .i64 b)) (d := 0) (xs := ht) (c := c) (x := lf) _ rfl (by simpa using hj)
      obtain ⟨tq, htq⟩ : ∃ tq, natH (tdl ht lk2) = tq := ⟨_, rfl⟩
      have hsort := sorted_natH (tdl_sorted ht lk2)
      rw [htq] at hsort hy1 hyp ⊢
      unfold uH hH
      refine s_reg ?_
      refine prg_qcall (y := 2) rfl (search_ok y tq (c : Nat) hsort hy1 (fun pre e => by have := hyp pre e; omega)) (.cons (.one (qv_sub rfl)) (.cons (.nlv rfl) .nil)) ?_
      rintro v md' cnt' ⟨kk, t, rfl, hlow⟩
      refine ⟨rfl, fun _ => rfl, ?_⟩
      refine g_pureD 2 (fun O' => ?_)
      refine g_fin ?_
      obtain ⟨L', hL'⟩ : ∃ L', natH (tdl (ht.set c lf) lk2) = L' := ⟨_, rfl⟩
      have hins : L' = tq.take kk ++ ((c : Nat) : Int) :: tq.drop kk := by
        rw [← hL', ← htq]
        exact tdl_ins (by omega) h10 hlkc c1 (by rw [htq]; exact hlow)
      have hLl : tq.length + 1 = L'.length := by rw [hins]; exact ins_rows.symm
      have hLn : L'.length ≤ n := by
        rw [← hL', natH_len]
        exact Nat.le_trans tdl_le (by rw [List.length_set]; omega)
      refine e_reg (g_run 1 ?_)
      refine g_scall [2, 3] [] (args' := [qv y tq 0, .s (.int .i64 ((kk : Nat) : Int)), .vec 1 1 1]) (hpc := [qB y tq, eB (c : Nat)]) (ins_call (fun _ _ => rfl) y tq hlow.1 hy1 (by simp only [room]; omega)) ⟨rfl, rfl, rfl, .cons (.one (qv_sub rfl)) (.cons (.nlv rfl) (.cons (.one (.vec rfl rfl)) .nil)), .cons bs_q (.cons (.vec rfl (by decide) rfl (Nat.le_refl _) (fun h => ⟨h, rfl⟩) fun j hj => ?_) .nil)⟩ ?_ (hσ := by cases y <;> rfl)
      · have : j = 0 := by omega
        subst this; rfl
      rintro v hpc' ⟨rfl, rfl⟩
      refine ⟨rfl, rfl, Nat.le_succ 2, ?_⟩
      refine g_end ?_
      refine e_run ?_
      refine lp_next (k + 1, 0, ht.set c lf, some [], natH (tdl (ht.set c lf) lk2)) ⟨by show k + 1 ≤ _; omega, by show (ht.set c lf).length = n; rw [List.length_set]; exact htl, fun e => (nomatch e), fun pre e => ?_, .inl ⟨rfl, h0, ?_, rfl⟩⟩ (hlt := by show nx.length - (k + 1) < nx.length - k; omega) (σ := [some 0, some 1, some 4]) (fz := []) ?_
      · cases e
        show ([] ++ natH (tdl (ht.set c lf) lk2)).length ≤ n
        rw [hL']; exact hLn
      · show goS n lf (nx.take (k + 1)) (some hs) = some _
        rw [hsn]; unfold go1; rw [if_neg hcn, if_pos h10]
      · rw [hL']
        refine wk _ _ _ _ (vals := by (try dsimp only [uH]); repeat' (first | exact VSubs.nil | apply VSubs.cons | exact VSub.one (VSub1.junk _) | exact VSub.nlv rfl | exact VSub.one (VSub1.ptr rfl) | exact VSub.one (VSub1.exv rfl rfl) | exact VSub.one (qv_sub rfl) | exact VSub.one (VSub1.que rfl rfl hLl))) (blks := .cons bs_cel (.cons bs_same (.cons ?_ .nil)))
        rw [← hins]
        exact .vec rfl (by decide) rfl (Nat.le_of_eq hLl.symm) (fun _ => ⟨rfl, hLl.symm⟩) fun _ _ => rfl
    · simp only [decide_eq_false_iff_not] at h10
      refine s_run ?_ (hq := by simp only [true_and, and_true]; omega)
      refine e_cond (fun h11 => ?_) (fun h11 => ?_)
      · have hne : ht.getD c 0 ≠ lf := by simpa using h11
        refine e_run ?_
        refine e_run ?_
        refine lp_next (k + 1, 170, ht, y, natH (tdl ht lk2)) ⟨by show k + 1 ≤ _; omega, htl, hy1, hyp, ?_⟩ (hlt := by show nx.length - (k + 1) < nx.length - k; omega) (σ := [some 0, some 1, some 2]) (fz := []) (wk _ _ _ _ (vals := by (try dsimp only [uH]); repeat' (first | exact VSubs.nil | apply VSubs.cons | exact VSub.one (VSub1.junk _) | exact VSub.nlv rfl | exact VSub.one (VSub1.ptr rfl) | exact VSub.one (VSub1.exv rfl rfl) | exact VSub.one (qv_sub rfl))) (blks := .cons bs_cel (.cons bs_same (.cons bs_q .nil))))
        refine .inr ⟨by show (170 : Int) ≠ 0; decide, .inr ⟨h0, rfl, goS_bad (k := k + 1) ?_⟩⟩
        rw [hsn]; unfold go1; rw [if_neg hcn, if_neg h10, if_neg hne]
      · have heq : ht.getD c 0 = lf := by simpa using h11
        refine p_skip (e_run ?_)
        refine lp_next (k + 1, 0, ht, y, natH (tdl ht lk2)) ⟨by show k + 1 ≤ _; omega, htl, hy1, hyp, ?_⟩ (hlt := by show nx.length - (k + 1) < nx.length - k; omega) (σ := [some 0, some 1, some 2]) (fz := []) (wk _ _ _ _ (vals := by (try dsimp only [uH]); repeat' (first | exact VSubs.nil | apply VSubs.cons | exact VSub.one (VSub1.junk _) | exact VSub.nlv rfl | exact VSub.one (VSub1.ptr rfl) | exact VSub.one (VSub1.exv rfl rfl) | exact VSub.one (qv_sub rfl))) (blks := .cons bs_cel (.cons bs_same (.cons bs_q .nil))))
        refine .inl ⟨rfl, h0, ?_, rfl⟩
        show goS n lf (nx.take (k + 1)) (some hs) = some _
        rw [hsn]; unfold go1; rw [if_neg hcn, if_neg h10, if_pos heq]
end Go.Proofs.Ytollibkfagjnaaa.Shape.Kit
