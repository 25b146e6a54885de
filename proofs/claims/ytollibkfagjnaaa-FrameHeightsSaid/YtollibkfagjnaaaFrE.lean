/- frame.Effect and both Entries. -/
import Derived.Test.YtollibkfagjnaaaFrHt
set_option linter.unusedVariables false
set_option linter.unusedSimpArgs false
set_option maxRecDepth 10000
namespace Go.Proofs.Ytollibkfagjnaaa.Shape.Kit
open Go.Proofs.Ytollibkfagjnaaa.AM
theorem effectF_ok {m : Md} (hf : MdFits m) (f a : Int) : PFun E 22 [lentM m, i64 f, i64 a] (valQ (isV (.tup [i64 (effT m f a).1, i64 (effT m f a).2]))) := by
  refine p_fun ?_
  show PTri E false [] _ [lentM m, i64 f, i64 a, .junk, .junk, .junk, .junk] _ _
  refine s_run ?_
  refine s_ass (s_reg (g_run 1 ?_))
  refine g_call (address_ok hf f a) ?_
  rintro v rfl
  refine ⟨rfl, ?_⟩
  refine g_end ?_
  refine s_cond (fun h => ?_) (fun h => ?_)
  · have ht : thereB m f a = false := by simpa using h
    rw [show effT m f a = (0, 0) by simp [effT, ht]]
    refine s_ass (s_run ?_)
    exact s_ret fin_v
  have ht : thereB m f a = true := by simpa using h
  obtain ⟨hok, i, j, rfl, rfl, hi, hj⟩ := there_of ht
  obtain ⟨op, A, hx⟩ : ∃ op A, (fnAt m i).code.getD j (0, 0) = (op, A) := ⟨_, _, rfl⟩
  have hE : effT m (i : Int) (j : Int) = effS m i op A := by
    unfold effT
    rw [if_pos ht, Int.toNat_natCast, Int.toNat_natCast, hx]
  rw [hE]
  obtain ⟨hop, hA⟩ := op_ok hok hi hj hx
  have hj' : j < (m.fns.getD i default).code.length := hj
  have hcg : ((m.fns.getD i default).code ++ [(-71, 0)]).getD j (0, 0) = (op, A) := by rw [getD_pre hj']; exact hx
  refine s_skip ?_
  refine s_drw (g_run 4 ?_)
  refine prg_cast (fptr_one (if_pos hi)) ?_
  refine g_run 4 ?_ (hq := by simp only [true_and, and_true]; omega)
  rw [hcg]
  refine g_call (effect_ok hf hi op A hA) ?_
  rintro v rfl
  refine ⟨rfl, ?_⟩
  refine g_end ?_
  exact p_ret fin_v
def entryL (m : Md) (f : Int) : List Int := if (0 ≤ f ∧ f < m.fns.length) ∧ 0 ≤ (fnAt m f.toNat).loc ∧ (fnAt m f.toNat).loc ≤ 32 then (fnAt m f.toNat).ps ++ List.replicate (fnAt m f.toNat).loc.toNat (fnAt m f.toNat).lvl else []
theorem row_grow {l : List Int} {x : Int} {i : Nat} (hi : i < l.length + 1) : (if i < l.length then rowI .u64 l i else ([PV.s (.int .u64 x)].drop ((i - l.length) * 1)).take 1) = rowI .u64 (l ++ [x]) i := row1_push (en := fun b => .s (.int .u64 b)) (d := 0) (xs := l) (x := x) hi
theorem app_rep {l : List Int} {x : Int} {j : Nat} : (l ++ List.replicate j x) ++ [x] = l ++ List.replicate (j + 1) x := by rw [List.append_assoc, List.replicate_succ']
theorem entry_ok {m : Md} (hf : MdFits m) (hpl : ∀ g, g ∈ m.fns → g.ps.length ≤ 17592186043904) (f : Int) : PFun E 25 [lentM m, i64 f] (valQ (isV (encFr ⟨[], entryL m f⟩))) := by
  have hnil : ∀ {hp : PH} {T : List PV} {k : ACode}, hp.length = 2 → hp[1]? = some (.cel [.s (.slice none 0 0), .s (.slice none 0 0)]) → T.length = 10 → T[3]? = some (.ptr 1 0) → PTri E false [] (.seq .ret k) T hp (retQ [.cell 3 (some 2)] (ansQ (isV (encFr ⟨[], []⟩)))) := fun {hp T k} h1 h2 h3 h4 => by
    match T, h3, h4 with
    | [t0, t1, t2, t3, t4, t5, t6, t7, t8, t9], _, h4 =>
      cases h4
      refine p_weak [some 1] [] (T' := [.junk, .junk, .junk, .ptr 0 0, .junk, .junk, .junk, .junk, .junk, .junk]) (hp' := [.cel [encU [], encU []]]) (wk _ _ _ _ (blks := .cons (.cel rfl (by simp) h2 (.cons (.one .nilf) (.cons (.one .nilf) .nil))) .nil)) ?_
      exact s_ret fin_v
  refine p_fun ?_
  show PTri E false [] _ [lentM m, i64 f, .junk, .junk, .junk, .junk, .junk, .junk, .junk, .junk] _ _
  refine s_run ?_
  refine s_ass (s_reg (g_run 1 ?_))
  refine prg_split (fun h => ?_) (fun h => ?_)
  · simp only [decide_eq_true_eq] at h
    have : entryL m f = [] := by unfold entryL; rw [if_neg (by omega)]
    rw [this]
    refine g_end ?_
    refine s_t (s_ass (s_run ?_))
    exact hnil rfl rfl rfl rfl
  simp only [decide_eq_false_iff_not] at h
  obtain ⟨i, rfl⟩ : ∃ i : Nat, f = i := ⟨f.toNat, by omega⟩
  refine g_run 5 ?_
  refine prg_split (fun h2 => ?_) (fun h2 => ?_)
  · simp only [ge_iff_le, decide_eq_true_eq] at h2
    have : entryL m (i : Nat) = [] := by unfold entryL; rw [if_neg (by omega)]
    rw [this]
    refine g_end ?_
    refine s_t (s_ass (s_run ?_))
    exact hnil rfl rfl rfl rfl
  simp only [ge_iff_le, decide_eq_false_iff_not] at h2
  have hi : i < m.fns.length := by omega
  have hfn : fnAt m i ∈ m.fns := by
    unfold fnAt
    rw [List.getD_eq_getElem?_getD, List.getElem?_eq_getElem hi]
    exact List.getElem_mem hi
  have hps := (hf.each _ hfn).ps
  have hps2 := hpl _ hfn
  refine g_run 5 ?_
  refine prg_cast (fptr_one (if_pos hi)) ?_
  refine g_run 3 ?_
  refine prg_split (fun h3 => ?_) (fun h3 => ?_)
  · have h3' : (fnAt m i).loc < 0 := of_decide_eq_true h3
    have : entryL m (i : Nat) = [] := by unfold entryL; rw [Int.toNat_natCast, if_neg (by omega)]
    rw [this]
    refine g_end ?_
    refine s_t (s_ass (s_run ?_))
    exact hnil rfl rfl rfl rfl
  have h3' : ¬ (fnAt m i).loc < 0 := of_decide_eq_false h3
  refine g_run 5 ?_
  refine prg_cast (fptr_one (if_pos hi)) ?_
  refine g_run 3 ?_
  refine prg_split (fun h4 => ?_) (fun h4 => ?_)
  · have h4' : (fnAt m i).loc > 32 := of_decide_eq_true h4
    have : entryL m (i : Nat) = [] := by unfold entryL; rw [Int.toNat_natCast, if_neg (by omega)]
    rw [this]
    refine g_end ?_
    refine s_t (s_ass (s_run ?_))
    exact hnil rfl rfl rfl rfl
  have h4' : ¬ (fnAt m i).loc > 32 := of_decide_eq_false h4
  obtain ⟨N, hN⟩ : ∃ N : Nat, (fnAt m i).loc = N := ⟨(fnAt m i).loc.toNat, by omega⟩
  have hEL : entryL m (i : Nat) = (fnAt m i).ps ++ List.replicate N (fnAt m i).lvl := by
    unfold entryL
    rw [Int.toNat_natCast, if_pos ⟨⟨by omega, by omega⟩, by omega, by omega⟩, hN, Int.toNat_natCast]
  rw [hEL]
  refine g_end ?_
  refine s_f (s_skip ?_)
  refine s_reg (g_run 3 ?_)
  refine prg_cast (fptr_one (if_pos hi)) ?_
  refine g_end ?_
  refine p_weak [some 1] [2] (T' := [.junk, .junk, .junk, .ptr 0 0, .fptr 6 1 (fun _ => lentCells (fnAt m i)) 0 0, .junk, .junk, .junk, .junk, .junk]) (hp' := [.cel [.s (.slice none 0 0), .s (.slice none 0 0)]]) (wk _ _ _ _ (vals := ?_)) ?_
  · refine .cons (.one (.junk _)) (.cons (.one (.junk _)) (.cons (.one (.junk _)) (.cons (.one (.ptr rfl)) (.cons (.one ?_) ?_))))
    · exact .ptrf (.head _) rfl (by omega) rfl (by simp [lentCells]) rfl fun j hj => by
        have : j = 0 := by omega
        subst this; rfl
    · repeat' (first | exact VSubs.nil | apply VSubs.cons | exact VSub.one (VSub1.junk _))
  refine s_reg (g_run 2 ?_)
  refine prg_call rfl rfl rfl rfl (cloneO_ok (fnAt m i).ps.length ((fnAt m i).ps.length + 1) (fnAt m i).ps rfl hps) ?_
  rintro v hpc ⟨rfl, rfl⟩
  refine ⟨rfl, rfl, ?_⟩
  refine g_end ?_
  refine s_ass (s_run ?_)
  rw [hN]
  refine s_loop (ι := Nat) (fun j => j ≤ N) (fun j => N - j) (fun j => [.junk, .junk, .junk, .ptr 0 0, .fptr 6 1 (fun _ => lentCells (fnAt m i)) 0 0, .vec 1 1 ((fnAt m i).ps ++ List.replicate j (fnAt m i).lvl).length, .junk, i64 (N : Nat), i64 (j : Nat), .junk]) (fun j => [.cel [.s (.slice none 0 0), .s (.slice none 0 0)], .vec 1 ((fnAt m i).ps ++ List.replicate j (fnAt m i).lvl).length (rowI .u64 ((fnAt m i).ps ++ List.replicate j (fnAt m i).lvl)) false]) 0 (Nat.zero_le _) (σ := [some 0, some 1]) (fz := []) (wk _ _ _ _ (vals := ?_) (blks := .cons bs_cel (.cons (bs_vec ?_ fun j hj => ?_) .nil))) ?_
  · have : (fnAt m i).ps.length = ((fnAt m i).ps ++ List.replicate 0 (fnAt m i).lvl).length := by simp
    repeat' (first | exact VSubs.nil | apply VSubs.cons | exact VSub.one (VSub1.junk _) | exact VSub.nlv rfl | exact VSub.one (VSub1.ptr rfl) | exact VSub.one (VSub1.vec rfl this))
  · show ((fnAt m i).ps ++ List.replicate 0 (fnAt m i).lvl).length = (fnAt m i).ps.length
    simp
  · show rowI .u64 (fnAt m i).ps j = rowI .u64 ((fnAt m i).ps ++ List.replicate 0 (fnAt m i).lvl) j
    simp
  · intro j hj
    obtain ⟨L, hL⟩ : ∃ L, (fnAt m i).ps ++ List.replicate j (fnAt m i).lvl = L := ⟨_, rfl⟩
    have hLl : L.length = (fnAt m i).ps.length + j := by rw [← hL]; simp
    rw [hL]
    refine s_run ?_
    refine s_cond (fun h5 => ?_) (fun h5 => ?_)
    · simp only [decide_eq_true_eq] at h5
      refine s_skip (s_block ?_)
      refine e_run ?_ (hq := by simp only [true_and, and_true, room]; omega)
      refine e_run ?_
      refine lp_next (j + 1) (by omega) (σ := [some 0, some 3]) (fz := []) (wk _ _ _ _ (vals := ?_) (blks := .cons bs_cel (.cons (bs_vec ?_ fun q hq => ?_) .nil)))
      · have : L.length + 1 = ((fnAt m i).ps ++ List.replicate (j + 1) (fnAt m i).lvl).length := by rw [hLl]; simp; omega
        repeat' (first | exact VSubs.nil | apply VSubs.cons | exact VSub.one (VSub1.junk _) | exact VSub.nlv rfl | exact VSub.one (VSub1.ptr rfl) | exact VSub.one (VSub1.vec rfl this))
      · rw [hLl]; simp; omega
      · rw [← app_rep, hL] at hq ⊢
        exact row_grow (by simpa using hq)
    · simp only [decide_eq_false_iff_not] at h5
      have hjN : j = N := by omega
      subst hjN
      rw [hL]
      refine s_exit ?_
      refine s_run ?_
      refine p_weak [some 0] [1] (T' := [.junk, .junk, .junk, .ptr 0 0, .junk, .junk, .junk, .junk, .junk, .junk]) (hp' := [.cel [encU [], encU L]]) (wk _ _ _ _ (blks := .cons (.cel rfl (by simp) rfl (.cons (.one .nilf) (.cons (.one (.vecf (.head _) rfl rfl (Nat.le_refl _) (Nat.le_refl _) fun q hq => rfl)) .nil))) .nil)) ?_
      exact p_ret fin_v
theorem rentry_ok {m : Md} (hf : MdFits m) (hpl : ∀ g, g ∈ m.fns → g.ps.length ≤ 17592186043904) (f : Int) : PFun E 26 [encM m, i64 f] (valQ (isV (encFr ⟨[], entryL m f⟩))) := by
  have hnil : ∀ {hp : PH} {T : List PV} {k : ACode}, hp.length = 3 → hp[1]? = some (.cel [.s (.slice none 0 0), .s (.slice none 0 0)]) → T.length = 8 → T[3]? = some (.ptr 1 0) → PTri E false [] (.seq .ret k) T hp (retQ [.cell 3 (some 2)] (ansQ (isV (encFr ⟨[], []⟩)))) := fun {hp T k} h1 h2 h3 h4 => by
    match T, h3, h4 with
    | [t0, t1, t2, t3, t4, t5, t6, t7], _, h4 =>
      cases h4
      refine p_weak [some 1] [] (T' := [.junk, .junk, .junk, .ptr 0 0, .junk, .junk, .junk, .junk]) (hp' := [.cel [encU [], encU []]]) (wk _ _ _ _ (blks := .cons (.cel rfl (by simp) h2 (.cons (.one .nilf) (.cons (.one .nilf) .nil))) .nil)) ?_
      exact s_ret fin_v
  refine p_fun ?_
  show PTri E false [] _ [encM m, i64 f, .junk, .junk, .junk, .junk, .junk, .junk] _ _
  refine s_run ?_
  refine s_run ?_
  refine s_ass (s_reg (g_run 1 ?_))
  refine prg_split (fun h => ?_) (fun h => ?_)
  · simp only [decide_eq_true_eq] at h
    have : entryL m f = [] := by unfold entryL; rw [if_neg (by omega)]
    rw [this]
    refine g_end ?_
    refine s_t (s_ass (s_run ?_))
    exact hnil rfl rfl rfl rfl
  simp only [decide_eq_false_iff_not] at h
  obtain ⟨i, rfl⟩ : ∃ i : Nat, f = i := ⟨f.toNat, by omega⟩
  refine g_run 5 ?_
  refine prg_split (fun h2 => ?_) (fun h2 => ?_)
  · simp only [ge_iff_le, decide_eq_true_eq] at h2
    have : entryL m (i : Nat) = [] := by unfold entryL; rw [if_neg (by omega)]
    rw [this]
    refine g_end ?_
    refine s_t (s_ass (s_run ?_))
    exact hnil rfl rfl rfl rfl
  simp only [ge_iff_le, decide_eq_false_iff_not] at h2
  have hi : i < m.fns.length := by omega
  have hfn : fnAt m i ∈ m.fns := by
    unfold fnAt
    rw [List.getD_eq_getElem?_getD, List.getElem?_eq_getElem hi]
    exact List.getElem_mem hi
  have hps2 := hpl _ hfn
  refine g_run 8 ?_
  refine prg_split (fun h3 => ?_) (fun h3 => ?_)
  · have h3' : (fnAt m i).loc < 0 := of_decide_eq_true h3
    have : entryL m (i : Nat) = [] := by unfold entryL; rw [Int.toNat_natCast, if_neg (by omega)]
    rw [this]
    refine g_end ?_
    refine s_t (s_ass (s_run ?_))
    exact hnil rfl rfl rfl rfl
  have h3' : ¬ (fnAt m i).loc < 0 := of_decide_eq_false h3
  refine g_run 8 ?_
  refine prg_split (fun h4 => ?_) (fun h4 => ?_)
  · have h4' : (fnAt m i).loc > 32 := of_decide_eq_true h4
    have : entryL m (i : Nat) = [] := by unfold entryL; rw [Int.toNat_natCast, if_neg (by omega)]
    rw [this]
    refine g_end ?_
    refine s_t (s_ass (s_run ?_))
    exact hnil rfl rfl rfl rfl
  have h4' : ¬ (fnAt m i).loc > 32 := of_decide_eq_false h4
  obtain ⟨N, hN⟩ : ∃ N : Nat, (fnAt m i).loc = N := ⟨(fnAt m i).loc.toNat, by omega⟩
  have hN' : (m.fns.getD i default).loc = N := hN
  have hEL : entryL m (i : Nat) = (fnAt m i).ps ++ List.replicate N (fnAt m i).lvl := by
    unfold entryL
    rw [Int.toNat_natCast, if_pos ⟨⟨by omega, by omega⟩, by omega, by omega⟩, hN, Int.toNat_natCast]
  rw [hEL]
  refine g_end ?_
  refine s_f (s_skip ?_)
  refine p_weak [some 1, some 2] [0] (T' := [.junk, i64 (i : Nat), .fptr 4 1 (fun _ => cellsM m) 0 0, .ptr 0 0, .ptr 1 0, .junk, .junk, .junk]) (hp' := [.cel [.s (.slice none 0 0), .s (.slice none 0 0)], .cel [.s (.slice none 0 0), .s (.slice none 0 0)]]) (wk _ _ _ _ (vals := ?_)) ?_
  · refine .cons (.one (.junk _)) (.cons (.nlv rfl) (.cons (.one ?_) (.cons (.one (.ptr rfl)) (.cons (.one (.ptr rfl)) ?_))))
    · exact .ptrf (.head _) rfl (by omega) rfl (by simp [cellsM]) rfl fun j hj => by
        have : j = 0 := by omega
        subst this; rfl
    · repeat' (first | exact VSubs.nil | apply VSubs.cons | exact VSub.one (VSub1.junk _))
  have hps3 : (m.fns.getD i default).ps.length ≤ 17592186043904 := hps2
  refine d_run ?_ (hq := by simp only [true_and, and_true, room]; omega)
  refine s_ass (s_run ?_)
  refine s_loop (ι := Nat) (fun j => j ≤ N) (fun j => N - j) (fun j => [.junk, i64 (i : Nat), .fptr 4 1 (fun _ => cellsM m) 0 0, .ptr 0 0, .ptr 1 0, i64 (j : Nat), .junk, .junk]) (fun j => [.cel [.s (.slice none 0 0), .s (.slice none 0 0)], .cel [.s (.slice none 0 0), .vec 1 2 ((fnAt m i).ps ++ List.replicate j (fnAt m i).lvl).length], .vec 1 ((fnAt m i).ps ++ List.replicate j (fnAt m i).lvl).length (rowI .u64 ((fnAt m i).ps ++ List.replicate j (fnAt m i).lvl)) true]) 0 (Nat.zero_le _) (σ := [some 0, some 1, some 2]) (fz := []) (wk _ _ _ _ (blks := .cons bs_cel (.cons (.cel rfl (by decide) rfl (.cons (.nlv rfl) (.cons (.one (.vec rfl ?_)) .nil))) (.cons (bs_vec ?_ fun j hj => ?_) .nil)))) ?_
  · show (fnAt m i).ps.length = ((fnAt m i).ps ++ List.replicate 0 (fnAt m i).lvl).length
    simp
  · show ((fnAt m i).ps ++ List.replicate 0 (fnAt m i).lvl).length = (fnAt m i).ps.length
    simp
  · show rowI .u64 (fnAt m i).ps j = rowI .u64 ((fnAt m i).ps ++ List.replicate 0 (fnAt m i).lvl) j
    simp
  · intro j hj
    obtain ⟨L, hL⟩ : ∃ L, (fnAt m i).ps ++ List.replicate j (fnAt m i).lvl = L := ⟨_, rfl⟩
    have hLl : L.length = (fnAt m i).ps.length + j := by rw [← hL]; simp
    rw [hL]
    refine s_ass (s_reg (g_run 5 ?_))
    rw [hN']
    refine g_end ?_
    refine s_cond (fun h5 => ?_) (fun h5 => ?_)
    · simp only [decide_eq_true_eq] at h5
      refine s_skip (s_block ?_)
      refine ed_run ?_ (hq := by simp only [true_and, and_true, room]; omega)
      refine e_run ?_
      refine lp_next (j + 1) (by omega) (σ := [some 0, some 1, some 4]) (fz := []) (wk _ _ _ _ (blks := .cons bs_cel (.cons (.cel rfl (by decide) rfl (.cons (.nlv rfl) (.cons (.one (.vec rfl ?_)) .nil))) (.cons (bs_vec ?_ fun q hq => ?_) .nil))))
      · show L.length + 1 = _
        rw [hLl]; simp; omega
      · show _ = L.length + 1
        rw [hLl]; simp; omega
      · rw [← app_rep, hL] at hq ⊢
        exact row_grow (by simpa using hq)
    · simp only [decide_eq_false_iff_not] at h5
      have hjN : j = N := by omega
      subst hjN
      rw [hL]
      refine s_exit ?_
      refine s_run ?_
      refine p_weak [some 0] [2] (T' := [.junk, .junk, .junk, .ptr 0 0, .junk, .junk, .junk, .junk]) (hp' := [.cel [encU [], encU L]]) (wk _ _ _ _ (blks := .cons (.cel rfl (by simp) rfl (.cons (.one .nilf) (.cons (.one (.vecf (.head _) rfl rfl (Nat.le_refl _) (Nat.le_refl _) fun q hq => rfl)) .nil))) .nil)) ?_
      exact p_ret fin_v
end Go.Proofs.Ytollibkfagjnaaa.Shape.Kit
