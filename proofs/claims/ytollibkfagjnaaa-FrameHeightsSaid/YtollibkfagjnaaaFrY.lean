/- The document's Heights, walked. -/
import Derived.Test.YtollibkfagjnaaaFrX
set_option linter.unusedVariables false
set_option linter.unusedSimpArgs false
set_option maxRecDepth 10000
namespace Go.Proofs.Ytollibkfagjnaaa.Shape.Kit
open Go.Proofs.Ytollibkfagjnaaa.AM
def toG (f : Fn) : Gr.Fn := ⟨f.lvl, f.ps, f.rs, f.loc, f.stk, f.code⟩
theorem tdl_nil {hs : List Int} {lk : List Bool} (h : ∀ c, c < hs.length → dueP hs lk c = false) : tdl hs lk = [] := List.filter_eq_nil_iff.2 fun c hc => by rw [h c (List.mem_range.1 hc)]; simp
theorem tdl_head {hs : List Int} {lk : List Bool} {b : Nat} (h : ∀ c, c < b → dueP hs lk c = false) (hb : b < hs.length) (hd : dueP hs lk b = true) : ∃ r, tdl hs lk = b :: r := by
  refine ⟨(List.range' (b + 1) (hs.length - b - 1)).filter (dueP hs lk), ?_⟩
  unfold tdl
  rw [range_at hb, List.filter_append, List.filter_cons_of_pos hd, List.filter_eq_nil_iff.2 fun c hc => by rw [h c (List.mem_range.1 hc)]; simp]
  rfl
def uR (m : Md) (i n : Nat) (a x12 x13 x14 x15 k : PV) : List PV := [.junk, i64 (i : Nat), .fptr 4 1 (fun _ => cellsM m) 0 0, .s (.slice none 0 0), .ptr 0 0, .junk, .fptr 6 1 (fun _ => cellsF (fnAt m i)) 0 0, i64 (n : Nat), .vec 1 1 n, .vec 1 2 n, .junk, a, x12, x13, x14, x15, k, .junk, .junk, .junk, .junk, .junk, .junk, .junk, .junk, .junk, .junk, .junk, .junk]
def hR (hs : List Int) (lk : List Bool) : PH := [.cel [i64 0, i64 0, i64 0], .vec 1 hs.length (rowI .i64 hs) true, .vec 1 lk.length (rowB lk) true]
theorem rheights_ok {m : Md} (hf : MdFits m) (hgf : OkM m → ∀ i, i < m.fns.length → Gr.Fit (fnAt m i).code) (f : Int) (hfi : in64 f) : PFun E 21 [encM m, i64 f] (valQ (hresQ m f)) := by
  refine p_fun ?_
  show PTri E false [] _ [encM m, i64 f, .junk, .junk, .junk, .junk, .junk, .junk, .junk, .junk, .junk, .junk, .junk, .junk, .junk, .junk, .junk, .junk, .junk, .junk, .junk, .junk, .junk, .junk, .junk, .junk, .junk, .junk, .junk] _ _
  refine s_run ?_
  refine s_reg (g_run 1 ?_)
  refine g_call (rcheck_ok (.inl rfl) hf) ?_
  rintro v ⟨e, g, a, rfl, hc⟩
  refine ⟨rfl, ?_⟩
  refine g_end ?_
  refine s_ass (s_run ?_)
  refine s_cond (fun h => ?_) (fun h => ?_)
  · have he : e ≠ 0 := by simpa using h
    refine s_ass (d_run ?_)
    refine p_weak [some 1] [] (T' := [.junk, .junk, .junk, encI [], .ptr 0 0, .junk, .junk, .junk, .junk, .junk, .junk, .junk, .junk, .junk, .junk, .junk, .junk, .junk, .junk, .junk, .junk, .junk, .junk, .junk, .junk, .junk, .junk, .junk, .junk]) (hp' := [.cel [i64 e, i64 g, i64 a]]) (wk _ _ _ _) ?_
    exact s_ret (fin_r (R := hresQ m f) ⟨[], e, g, a, rfl, .shape hc he⟩)
  have he : e = 0 := by simpa using h
  subst he
  have hok : OkM m := ⟨_, _, hc⟩
  clear h
  refine s_skip (s_ass ?_)
  refine s_reg (g_run 1 ?_)
  refine prg_split (fun h => ?_) (fun h => ?_)
  · simp only [decide_eq_true_eq] at h
    refine g_end ?_
    refine s_t (s_ass (s_run ?_))
    refine p_weak [some 1] [] (T' := [.junk, .junk, .junk, encI [], .ptr 0 0, .junk, .junk, .junk, .junk, .junk, .junk, .junk, .junk, .junk, .junk, .junk, .junk, .junk, .junk, .junk, .junk, .junk, .junk, .junk, .junk, .junk, .junk, .junk, .junk]) (hp' := [.cel [i64 1, i64 f, i64 0]]) (wk _ _ _ _) ?_
    exact s_ret (fin_r (R := hresQ m f) ⟨[], 1, f, 0, rfl, .arg hok (by omega)⟩)
  simp only [decide_eq_false_iff_not] at h
  obtain ⟨i, rfl⟩ : ∃ i : Nat, f = i := ⟨f.toNat, by omega⟩
  refine g_run 6 ?_
  refine g_end ?_
  refine s_cond (fun h2 => ?_) (fun h2 => ?_)
  · simp only [ge_iff_le, decide_eq_true_eq] at h2
    refine s_ass (s_run ?_)
    refine p_weak [some 1] [] (T' := [.junk, .junk, .junk, encI [], .ptr 0 0, .junk, .junk, .junk, .junk, .junk, .junk, .junk, .junk, .junk, .junk, .junk, .junk, .junk, .junk, .junk, .junk, .junk, .junk, .junk, .junk, .junk, .junk, .junk, .junk]) (hp' := [.cel [i64 1, i64 (i : Nat), i64 0]]) (wk _ _ _ _) ?_
    exact s_ret (fin_r (R := hresQ m (i : Nat)) ⟨[], 1, (i : Nat), 0, rfl, .arg hok (by omega)⟩)
  simp only [ge_iff_le, decide_eq_false_iff_not] at h2
  have hi : i < m.fns.length := by omega
  obtain ⟨z1, z2, z3, z4, z5, z6, z7, z8⟩ := ok_size hok hi
  obtain ⟨n, hn⟩ : ∃ n, (fnAt m i).code.length = n := ⟨_, rfl⟩
  have hn' : (m.fns.getD i default).code.length = n := hn
  rw [hn] at z5 z6
  refine s_skip (s_run ?_)
  refine s_run ?_
  rw [hn']
  refine p_weak [some 1] [0, 3] (T' := [.junk, i64 (i : Nat), .fptr 4 1 (fun _ => cellsM m) 0 0, .s (.slice none 0 0), .ptr 0 0, .junk, .fptr 6 1 (fun _ => cellsF (fnAt m i)) 0 0, i64 (n : Nat), .junk, .junk, .junk, .junk, .junk, .junk, .junk, .junk, .junk, .junk, .junk, .junk, .junk, .junk, .junk, .junk, .junk, .junk, .junk, .junk, .junk]) (hp' := [.cel [i64 0, i64 0, i64 0]]) (wk _ _ _ _ (vals := ?_)) ?_
  · refine .cons (.one (.junk _)) (.cons (.nlv rfl) (.cons (.one ?_) (.cons (.nlv rfl) (.cons (.one (.ptr rfl)) (.cons (.one (.junk _)) (.cons (.one ?_) (.cons (.nlv rfl) ?_)))))))
    · exact .ptrf (.head _) rfl (by omega) rfl (by simp [cellsM]) rfl fun j hj => by
        have : j = 0 := by omega
        subst this; rfl
    · exact .ptrf (.tail _ (.head _)) rfl (by omega) rfl (by simp [cellsF]) rfl fun j hj => by
        have : j = 0 := by omega
        subst this; rfl
    · repeat' (first | exact VSubs.nil | apply VSubs.cons | exact VSub.one (VSub1.junk _))
  refine s_run ?_ (hq := by simp only [true_and, and_true]; omega)
  refine s_run ?_ (hq := by simp only [true_and, and_true]; omega)
  refine s_ass (s_run ?_)
  refine s_loop (ι := Nat) (fun a => 1 ≤ a ∧ a ≤ n) (fun a => n - a) (fun a => [.junk, i64 (i : Nat), .fptr 4 1 (fun _ => cellsM m) 0 0, .s (.slice none 0 0), .ptr 0 0, .junk, .fptr 6 1 (fun _ => cellsF (fnAt m i)) 0 0, i64 (n : Nat), .vec 1 1 n, .vec 1 2 n, i64 (a : Nat), .junk, .junk, .junk, .junk, .junk, .junk, .junk, .junk, .junk, .junk, .junk, .junk, .junk, .junk, .junk, .junk, .junk, .junk]) (fun a => [.cel [i64 0, i64 0, i64 0], .vec 1 n (fun j => if 0 < j ∧ j < a then [i64 (-1)] else [i64 0]) true, .vec 1 n (fun _ => [.s (.bool false)]) true]) 1 ⟨Nat.le_refl _, by omega⟩ (σ := [some 0, some 1, some 2]) (fz := []) (wk _ _ _ _ (blks := .cons bs_cel (.cons (bs_vec rfl fun j hj => ?_) (.cons (bs_vec rfl fun j hj => rfl) .nil)))) ?_
  · rw [if_neg (by omega)]; rfl
  · rintro a ⟨a1, an⟩
    refine s_ass (s_run ?_)
    refine s_cond (fun h => ?_) (fun h => ?_)
    · simp only [decide_eq_true_eq] at h
      refine s_skip (s_block ?_)
      refine e_run ?_ (hq := by simp only [true_and, and_true]; omega)
      refine e_run ?_
      refine lp_next (a + 1) ⟨by omega, by omega⟩ (σ := [some 0, some 1, some 2]) (fz := []) (wk _ _ _ _ (blks := .cons bs_cel (.cons (bs_vec rfl fun j hj => ?_) (.cons (bs_vec rfl fun j hj => rfl) .nil))))
      by_cases e : j = a
      · subst e
        rw [if_pos rfl]
        show psplice (if 0 < j ∧ j < j then [i64 (-1)] else [i64 0]) 0 [i64 (-1)] = (if 0 < j ∧ j < j + 1 then [i64 (-1)] else [i64 0])
        rw [if_neg (by omega), if_pos ⟨by omega, by omega⟩]; rfl
      · rw [if_neg e]
        show (if 0 < j ∧ j < a then [i64 (-1)] else [i64 0]) = (if 0 < j ∧ j < a + 1 then [i64 (-1)] else [i64 0])
        by_cases e2 : 0 < j ∧ j < a
        · rw [if_pos e2, if_pos ⟨e2.1, by omega⟩]
        · rw [if_neg e2, if_neg (by omega)]
    · simp only [decide_eq_false_iff_not] at h
      have : a = n := by omega
      subst this
      refine s_exit ?_
      have hlen0 : (hs0 a).length = a := (hinv0 z6).len
      have hlenk : (lk0 a).length = a := (hinv0 z6).lkl
      refine e_loop (ι := List Int × List Bool) (fun j => HInv a j.1 j.2 ∧ ∀ r, HRun m i j.1 j.2 r → HRun m i (hs0 a) (lk0 a) r) (fun j => unl j.2) (fun _ => uR m i a .junk .junk .junk .junk .junk .junk) (fun j => hR j.1 j.2) (hs0 a, lk0 a) ⟨hinv0 z6, fun _ h => h⟩ (σ := [some 0, some 1, some 2]) (fz := []) (wk _ _ _ _ (blks := .cons bs_cel (.cons (bs_vec hlen0 fun j hj => ?_) (.cons (bs_vec hlenk fun j hj => ?_) .nil)))) ?_
      · dsimp only at hj
        rw [hlen0] at hj
        show (if 0 < j ∧ j < a then [i64 (-1)] else [i64 0]) = [i64 ((hs0 a).getD j 0)]
        cases j with
        | zero => rfl
        | succ j =>
          rw [if_pos ⟨by omega, hj⟩]
          simp only [hs0, List.getD_eq_getElem?_getD, List.getElem?_cons_succ, List.getElem?_replicate]
          rw [if_pos (by omega)]; rfl
      · exact rowB_rep a j
      rintro ⟨hs, lk⟩ ⟨hI, hrun⟩
      dsimp only at hI hrun
      have hl := hI.len
      have hk := hI.lkl
      refine p_block ?_
      refine s_run ?_
      refine s_loop (ι := Nat) (fun b => b ≤ a ∧ ∀ c, c < b → dueP hs lk c = false) (fun b => a - b) (fun b => uR m i a (i64 (b : Nat)) .junk .junk .junk .junk .junk) (fun _ => hR hs lk) 0 ⟨Nat.zero_le _, fun c h => absurd h (Nat.not_lt_zero _)⟩ (σ := [some 0, some 1, some 2]) (fz := []) (wk _ _ _ _ (blks := .cons bs_cel (.cons bs_same (.cons bs_same .nil)))) ?_
      · rintro b ⟨hb, hdue⟩
        refine s_ass (s_reg (g_run 1 ?_))
        refine prg_split (fun h1 => ?_) (fun h1 => ?_)
        · simp only [decide_eq_true_eq] at h1
          have hba : b < a := by omega
          refine g_run 5 ?_ (hq := by simp only [true_and, and_true]; omega)
          refine prg_split (fun h2 => ?_) (fun h2 => ?_)
          · simp only [decide_eq_true_eq] at h2
            refine g_end ?_
            refine s_t (s_skip ?_)
            refine p_block ?_
            refine e_run ?_
            refine lp_next (b + 1) ⟨by omega, fun c hc => ?_⟩ (σ := [some 0, some 1, some 2]) (fz := []) (wk _ _ _ _ (blks := .cons bs_cel (.cons bs_same (.cons bs_same .nil))))
            by_cases e : c = b
            · subst e; unfold dueP; rw [decide_eq_false (by omega)]; rfl
            · exact hdue c (by omega)
          · simp only [decide_eq_false_iff_not] at h2
            refine g_end ?_ (hq := by simp only [true_and, and_true]; omega)
            refine s_cond (fun h3 => ?_) (fun h3 => ?_)
            · refine s_skip (p_block ?_)
              refine e_run ?_
              refine lp_next (b + 1) ⟨by omega, fun c hc => ?_⟩ (σ := [some 0, some 1, some 2]) (fz := []) (wk _ _ _ _ (blks := .cons bs_cel (.cons bs_same (.cons bs_same .nil))))
              by_cases e : c = b
              · subst e; unfold dueP; rw [h3]; simp
              · exact hdue c (by omega)
            · refine s_exit ?_
              have hdb : dueP hs lk b = true := by unfold dueP; rw [h3, decide_eq_true (by omega)]; rfl
              obtain ⟨r, htd⟩ := tdl_head hdue (by omega) hdb
              have hb0 : 0 ≤ hs.getD b 0 := by omega
              have hI2 := hI.look hb0
              have hbl : b < (fnAt m i).code.length := by omega
              obtain ⟨q1, q2, q3, q4⟩ := eff_small hok hi hbl
              have hh1 := hI.hi b
              refine s_ass (s_run ?_)
              refine s_cond (fun h => ?_) (fun _ => ?_)
              · simp only [beq_iff_eq] at h; omega
              refine s_skip (s_run ?_ (hq := by simp only [true_and, and_true]; omega))
              refine p_weak [some 0, some 1, some 2] [] (T' := uR m i a (i64 (b : Nat)) .junk .junk .junk .junk .junk) (hp' := hR hs (lk.set b true)) (wk _ _ _ _ (blks := .cons bs_cel (.cons bs_same (.cons (bs_vec List.length_set fun j hj => ?_) .nil)))) ?_
              · exact row1_set (en := fun b => .s (.bool b)) (d := false) (xs := lk) (c := b) (x := true) _ rfl (by simpa using hj)
              unfold uR hR
              refine s_reg (g_run 1 ?_)
              refine g_call (reffect_ok hf (i : Nat) (b : Nat)) ?_
              rintro v rfl
              refine ⟨rfl, ?_⟩
              rw [effT_at hok hi hbl]
              refine g_end ?_
              obtain ⟨P, hP⟩ : ∃ P, (effH m i b).1 = P := ⟨_, rfl⟩
              obtain ⟨G, hG⟩ : ∃ G, (effH m i b).2 = G := ⟨_, rfl⟩
              rw [hP] at q1 q2
              rw [hG] at q3 q4
              rw [hP, hG]
              have hLf : leftH m i (hs.getD b 0) b = hs.getD b 0 - P + G := by unfold leftH; rw [hP, hG]
              -- less than is taken
              refine s_ass (s_run ?_ (hq := by simp only [true_and, and_true]; omega))
              refine s_cond (fun h4 => ?_) (fun h4 => ?_)
              · simp only [gt_iff_lt, decide_eq_true_eq] at h4
                refine s_ass (s_run ?_)
                refine p_weak [some 0] [] (T' := [.junk, .junk, .junk, encI [], .ptr 0 0, .junk, .junk, .junk, .junk, .junk, .junk, .junk, .junk, .junk, .junk, .junk, .junk, .junk, .junk, .junk, .junk, .junk, .junk, .junk, .junk, .junk, .junk, .junk, .junk]) (hp' := [.cel [i64 172, i64 (i : Nat), i64 (b : Nat)]]) (wk _ _ _ _) ?_
                refine s_ret (fin_r (R := hresQ m (i : Nat)) ⟨[], 172, (i : Nat), (b : Nat), rfl, .bad hok rfl hi ?_⟩)
                rw [hn]
                exact hrun _ (.chk htd (by unfold chkH; rw [hP, if_pos h4]) (by decide))
              simp only [gt_iff_lt, decide_eq_false_iff_not] at h4
              refine s_skip ?_
              refine s_run ?_ (hq := by simp only [true_and, and_true, in64]; omega)
              refine s_ass (s_run ?_)
              refine s_cond (fun h5 => ?_) (fun h5 => ?_)
              · simp only [gt_iff_lt, decide_eq_true_eq] at h5
                refine s_ass (s_run ?_)
                refine p_weak [some 0] [] (T' := [.junk, .junk, .junk, encI [], .ptr 0 0, .junk, .junk, .junk, .junk, .junk, .junk, .junk, .junk, .junk, .junk, .junk, .junk, .junk, .junk, .junk, .junk, .junk, .junk, .junk, .junk, .junk, .junk, .junk, .junk]) (hp' := [.cel [i64 171, i64 (i : Nat), i64 (b : Nat)]]) (wk _ _ _ _) ?_
                refine s_ret (fin_r (R := hresQ m (i : Nat)) ⟨[], 171, (i : Nat), (b : Nat), rfl, .bad hok rfl hi ?_⟩)
                rw [hn]
                exact hrun _ (.chk htd (by unfold chkH; rw [hP, hLf, if_neg (by omega), if_pos h5]) (by decide))
              simp only [gt_iff_lt, decide_eq_false_iff_not] at h5
              refine s_skip ?_
              -- a return, and more than what it gives back
              have hop : ((m.fns.getD i default).code.getD b (0, 0)).1 = opH m i b := rfl
              refine s_ass ?_
              refine s_cut (fun T' hp' => (∃ x22 x23, T' = ((((uR m i a (i64 (b : Nat)) (i64 P) (i64 G) (i64 (hs.getD b 0 - P + G)) .junk .junk).set 22 x22).set 23 x23).set 24 (.s (.bool (decide (opH m i b = 46 ∧ hs.getD b 0 ≠ P)))))) ∧ hp' = hR hs (lk.set b true)) ?_ ?_
              · unfold uR hR
                refine e_drw (g_run 6 ?_ (hq := by simp only [true_and, and_true]; omega))
                refine prg_head (v' := .s (.bool (decide (opH m i b = 46)))) (congrArg (fun b => PV.s (.bool b)) (by unfold opH; exact Bool.beq_eq_decide_eq _ _)) ?_
                refine prg_split (fun h6 => ?_) (fun h6 => ?_)
                · simp only [decide_eq_true_eq] at h6
                  have hrs := eff_ret h6
                  rw [hP] at hrs
                  refine g_run 8 ?_ (hq := by simp only [true_and, and_true]; omega)
                  refine prg_head (v' := .s (.bool (decide (opH m i b = 46 ∧ hs.getD b 0 ≠ P)))) ?_ ?_
                  · rw [hrs]
                    simp [h6, bne, Bool.beq_eq_decide_eq]
                  refine g_end ?_
                  exact ⟨rfl, ⟨.s (.bool (decide (P > hs.getD b 0))), .s (.bool (decide (hs.getD b 0 - P + G > (fnAt m i).stk))), rfl⟩, rfl⟩
                · simp only [decide_eq_false_iff_not] at h6
                  refine g_end ?_
                  refine ⟨rfl, ⟨.s (.bool (decide (P > hs.getD b 0))), .s (.bool (decide (hs.getD b 0 - P + G > (fnAt m i).stk))), ?_⟩, rfl⟩
                  rw [show decide (opH m i b = 46 ∧ hs.getD b 0 ≠ P) = false from decide_eq_false (fun h => h6 h.1)]
                  rfl
              rintro T' hp' ⟨⟨x22, x23, rfl⟩, rfl⟩
              unfold uR hR
              refine s_cond (fun h6 => ?_) (fun h6 => ?_)
              · simp only [decide_eq_true_eq] at h6
                refine s_ass (s_run ?_)
                refine p_weak [some 0] [] (T' := [.junk, .junk, .junk, encI [], .ptr 0 0, .junk, .junk, .junk, .junk, .junk, .junk, .junk, .junk, .junk, .junk, .junk, .junk, .junk, .junk, .junk, .junk, .junk, .junk, .junk, .junk, .junk, .junk, .junk, .junk]) (hp' := [.cel [i64 170, i64 (i : Nat), i64 (b : Nat)]]) (wk _ _ _ _) ?_
                refine s_ret (fin_r (R := hresQ m (i : Nat)) ⟨[], 170, (i : Nat), (b : Nat), rfl, .bad hok rfl hi ?_⟩)
                rw [hn]
                exact hrun _ (.chk htd (by unfold chkH; rw [hP, hLf, if_neg (by omega), if_neg (by omega), if_pos h6]) (by decide))
              simp only [decide_eq_false_iff_not] at h6
              have hchk : chkH m i (hs.getD b 0) b = 0 := by unfold chkH; rw [hP, hLf, if_neg (by omega), if_neg (by omega), if_neg h6]
              refine s_skip ?_
              obtain ⟨nx, hnx⟩ : ∃ nx, nxH m i b = nx := ⟨_, rfl⟩
              obtain ⟨hn1, hn2⟩ := nx_nat hbl
              rw [hnx] at hn1 hn2
              refine s_reg (g_run 1 ?_)
              refine g_call (Gr.rnext_ok (f := toG (fnAt m i)) (hgf hok i hi) (b : Nat)) ?_
              rintro v rfl
              refine ⟨rfl, ?_⟩
              rw [show Gr.nextI (toG (fnAt m i)).code ((b : Nat) : Int) = natH nx from hn1]
              refine g_end ?_
              refine s_run ?_
              obtain ⟨lk2, hlk2⟩ : ∃ lk2, lk.set b true = lk2 := ⟨_, rfl⟩
              obtain ⟨lf, hlf⟩ : ∃ lf, hs.getD b 0 - P + G = lf := ⟨_, rfl⟩
              have hunl : unl lk2 < unl lk := by rw [← hlk2]; exact unl_set (by omega) h3
              rw [hlk2] at hI2 ⊢
              rw [hlf] at hLf h5 ⊢
              have hnl : (natH nx).length = nx.length := natH_len
              have hnx2 : nx.length ≤ 2 := by
                rw [← hnx]; unfold nxH; rw [List.length_map]; exact Gr.nextL_len _ _
              refine e_loop (ι := Nat × List Int) (fun j => j.1 ≤ nx.length ∧ goS a lf (nx.take j.1) (some hs) = some j.2) (fun j => nx.length - j.1) (fun j => uR m i a (i64 (b : Nat)) (i64 P) (i64 G) (i64 lf) (encI (natH nx)) (i64 (j.1 : Nat))) (fun j => hR j.2 lk2) (0, hs) ⟨Nat.zero_le _, rfl⟩ (σ := [some 0, some 1, some 2]) (fz := []) (wk _ _ _ _ (blks := .cons bs_cel (.cons bs_same (.cons bs_same .nil)))) ?_
              rintro ⟨k, ht⟩ ⟨hkn, hgo⟩
              dsimp only at hkn hgo
              show PTri E false [] _ (uR m i a (i64 (b : Nat)) (i64 P) (i64 G) (i64 lf) (encI (natH nx)) (i64 (k : Nat))) (hR ht lk2) _
              unfold uR hR
              obtain ⟨hIt, hmono⟩ := goS_inv (by omega) (by omega) hI2 hgo
              have hlt := hIt.len
              refine s_ass (s_run ?_)
              refine s_cond (fun h7 => ?_) (fun h7 => ?_)
              · simp only [decide_eq_true_eq] at h7
                have hkx : k < nx.length := by omega
                obtain ⟨c, hcx⟩ : ∃ c, nx.getD k 0 = c := ⟨_, rfl⟩
                have hnk := natH_at hkx
                rw [hcx] at hnk
                have hck : nx[k]? = some c := by rw [List.getElem?_eq_getElem hkx, ← hcx, List.getD_eq_getElem?_getD, List.getElem?_eq_getElem hkx]; rfl
                have hcm : c ≤ a := by rw [← hn]; exact hn2 c (List.mem_of_getElem? hck)
                have hsn : goS a lf (nx.take (k + 1)) (some hs) = go1 a lf c ht := by
                  have : nx.take (k + 1) = nx.take k ++ [c] := by rw [List.take_add_one, hck]; rfl
                  rw [this, goS_snoc, hgo]; rfl
                refine s_skip (s_block ?_)
                refine s_ass (s_reg (g_run 2 ?_ (hq := by simp only [true_and, and_true]; omega)))
                rw [hnk]
                refine g_end ?_
                refine s_cond (fun h8 => ?_) (fun h8 => ?_)
                · simp only [beq_iff_eq] at h8
                  refine s_exit ?_
                  refine e_run ?_
                  refine lp_next (k + 1, ht) ⟨by show k + 1 ≤ _; omega, ?_⟩ (hlt := by show nx.length - (k + 1) < nx.length - k; omega) (σ := [some 0, some 1, some 2]) (fz := []) (wk _ _ _ _ (blks := .cons bs_cel (.cons bs_same (.cons bs_same .nil))))
                  show goS a lf (nx.take (k + 1)) (some hs) = some ht
                  rw [hsn]; unfold go1; rw [if_pos (by omega)]
                have hca : c ≠ a := fun x => by simp only [beq_eq_false_iff_ne, ne_eq] at h8; omega
                have hcl : c < a := by omega
                refine s_skip (s_ass ?_)
                refine s_reg (g_run 2 ?_ (hq := by simp only [true_and, and_true]; omega))
                rw [hnk]
                refine g_end ?_ (hq := by simp only [true_and, and_true]; omega)
                refine s_cond (fun h9 => ?_) (fun h9 => ?_)
                · simp only [decide_eq_true_eq] at h9
                  refine s_reg (g_run 2 ?_ (hq := by simp only [true_and, and_true]; omega))
                  rw [hnk]
                  refine g_end ?_ (hq := by simp only [true_and, and_true]; omega)
                  refine p_weak [some 0, some 1, some 2] [] (T' := uR m i a (i64 (b : Nat)) (i64 P) (i64 G) (i64 lf) (encI (natH nx)) (i64 (k : Nat))) (hp' := hR (ht.set c lf) lk2) (wk _ _ _ _ (blks := .cons bs_cel (.cons (bs_vec List.length_set fun j hj => ?_) (.cons bs_same .nil)))) ?_
                  · exact row1_set (en := fun b => .s (.int .i64 b)) (d := 0) (xs := ht) (c := c) (x := lf) _ rfl (by simpa using hj)
                  unfold uR hR
                  refine s_reg (g_run 2 ?_ (hq := by simp only [true_and, and_true]; omega))
                  rw [hnk]
                  refine g_run 2 ?_ (hq := by simp only [true_and, and_true, List.length_set]; omega)
                  rw [show (ht.set c lf).getD c 0 = lf by rw [getD_set, if_pos ⟨rfl, by omega⟩]]
                  refine g_end ?_
                  refine e_cond (fun h => ?_) (fun _ => ?_)
                  · simp at h
                  refine p_skip (e_run ?_)
                  refine lp_next (k + 1, ht.set c lf) ⟨by show k + 1 ≤ _; omega, ?_⟩ (hlt := by show nx.length - (k + 1) < nx.length - k; omega) (σ := [some 0, some 1, some 2]) (fz := []) (wk _ _ _ _ (blks := .cons bs_cel (.cons bs_same (.cons bs_same .nil))))
                  show goS a lf (nx.take (k + 1)) (some hs) = some _
                  rw [hsn]; unfold go1; rw [if_neg hca, if_pos h9]
                · simp only [decide_eq_false_iff_not] at h9
                  refine s_skip ?_
                  refine s_reg (g_run 2 ?_ (hq := by simp only [true_and, and_true]; omega))
                  rw [hnk]
                  refine g_end ?_ (hq := by simp only [true_and, and_true]; omega)
                  refine e_cond (fun h => ?_) (fun h => ?_)
                  · have hne : ht.getD c 0 ≠ lf := by simpa using h
                    refine s_run ?_
                    refine p_weak [some 0] [] (T' := [.junk, .junk, .junk, encI [], .ptr 0 0, .junk, .junk, .junk, .junk, .junk, .junk, .junk, .junk, .junk, .junk, .junk, .junk, .junk, .junk, .junk, .junk, .junk, .junk, .junk, .junk, .junk, .junk, .junk, .junk]) (hp' := [.cel [i64 170, i64 (i : Nat), i64 (b : Nat)]]) (wk _ _ _ _) ?_
                    refine p_ret (fin_r (R := hresQ m (i : Nat)) ⟨[], 170, (i : Nat), (b : Nat), rfl, .bad hok rfl hi ?_⟩)
                    rw [hn]
                    refine hrun _ (.edge htd hchk ?_)
                    rw [hnx, hLf, hn]
                    refine goS_bad (k := k + 1) ?_
                    rw [hsn]; unfold go1; rw [if_neg hca, if_neg h9, if_neg hne]
                  · have heq : ht.getD c 0 = lf := by simpa using h
                    refine p_skip (e_run ?_)
                    refine lp_next (k + 1, ht) ⟨by show k + 1 ≤ _; omega, ?_⟩ (hlt := by show nx.length - (k + 1) < nx.length - k; omega) (σ := [some 0, some 1, some 2]) (fz := []) (wk _ _ _ _ (blks := .cons bs_cel (.cons bs_same (.cons bs_same .nil))))
                    show goS a lf (nx.take (k + 1)) (some hs) = some _
                    rw [hsn]; unfold go1; rw [if_neg hca, if_neg h9, if_pos heq]
              · simp only [decide_eq_false_iff_not] at h7
                rw [List.take_of_length_le (by omega)] at hgo
                refine s_exit ?_
                refine lp_next (ht, lk2) ⟨hIt, fun x hx => hrun x ?_⟩ (hlt := hunl) (σ := [some 0, some 1, some 2]) (fz := []) (wk _ _ _ _ (blks := .cons bs_cel (.cons bs_same (.cons bs_same .nil))))
                refine .go htd hchk ?_ (by rw [hlk2]; exact hx)
                rw [hnx, hLf, hn]; exact hgo
        · simp only [decide_eq_false_iff_not] at h1
          refine g_end ?_
          refine s_f (s_exit ?_)
          have hba : b = a := by omega
          subst hba
          refine s_ass (s_run ?_)
          refine s_cond (fun _ => ?_) (fun h => ?_)
          rotate_left
          · simp at h
          refine s_ass (s_run ?_)
          have hnil := tdl_nil (hs := hs) (lk := lk) fun c hc => hdue c (by omega)
          refine p_weak [some 0] [1] (T' := [.junk, .junk, .junk, encI hs, .ptr 0 0, .junk, .junk, .junk, .junk, .junk, .junk, .junk, .junk, .junk, .junk, .junk, .junk, .junk, .junk, .junk, .junk, .junk, .junk, .junk, .junk, .junk, .junk, .junk, .junk]) (hp' := [.cel [i64 0, i64 0, i64 0]]) (wk _ _ _ _ (vals := ?_)) ?_
          · refine .cons (.one (.junk _)) (.cons (.one (.junk _)) (.cons (.one (.junk _)) (.cons (.one ?_) (.cons (.one (.ptr rfl)) ?_))))
            · exact .vecf (.head _) rfl hl.symm (Nat.le_refl _) (Nat.le_refl _) fun _ _ => rfl
            · repeat' (first | exact VSubs.nil | apply VSubs.cons | exact VSub.one (VSub1.junk _))
          exact s_ret (fin_r (R := hresQ m (i : Nat)) ⟨hs, 0, 0, 0, rfl, .ok hok rfl hi (by rw [hn]; exact hrun _ (.done hnil))⟩)
end Go.Proofs.Ytollibkfagjnaaa.Shape.Kit
