/- Frames joined, and held against each other. -/
import Derived.Test.YtollibkfagjnaaaFrL
set_option linter.unusedVariables false
set_option linter.unusedSimpArgs false
set_option maxRecDepth 10000
namespace Go.Proofs.Ytollibkfagjnaaa.Shape.Kit
open Go.Proofs.Ytollibkfagjnaaa.AM
def joinL (a b : List Int) : List Int := List.zipWith orU a b
theorem joinL_len {a b : List Int} (h : a.length = b.length) : (joinL a b).length = a.length := by unfold joinL; rw [List.length_zipWith]; omega
theorem joinL_at {a b : List Int} (h : a.length = b.length) {i : Nat} (hi : i < a.length) : (joinL a b).getD i 0 = orU (a.getD i 0) (b.getD i 0) := by
  unfold joinL
  simp only [List.getD_eq_getElem?_getD, List.getElem?_zipWith, List.getElem?_eq_getElem hi, List.getElem?_eq_getElem (show i < b.length by omega), Option.getD_some]
theorem joinL_take {a b : List Int} (h : a.length = b.length) {k : Nat} (hk : k < a.length) : (joinL a b).take (k + 1) = (joinL a b).take k ++ [orU (a.getD k 0) (b.getD k 0)] := by
  have hl := joinL_len h
  rw [List.take_succ_eq_append_getElem (by omega), ← joinL_at h hk, List.getD_eq_getElem?_getD, List.getElem?_eq_getElem (by omega), Option.getD_some]
/-- A frame as a value, of which more cells may follow. -/
def frV (x : Fr) (ks kl : Nat) (es el : List Int) : PV := .agg [.frz 1 x.st.length ks (rowI .u64 (x.st ++ es)), .frz 1 x.lo.length kl (rowI .u64 (x.lo ++ el))]
def frC (x : Fr) (ks kl : Nat) (es el : List Int) : List PV := [.frz 1 x.st.length ks (rowI .u64 (x.st ++ es)), .frz 1 x.lo.length kl (rowI .u64 (x.lo ++ el))]
theorem frV_lent (x : Fr) : frV x (x.st.length + 1) (x.lo.length + 1) [7171] [7171] = lentFr x := rfl
def jT (x y : Fr) (ks kl : Nat) (es el : List Int) (ks' kl' : Nat) (es' el' : List Int) (x12 x13 x14 x16 x17 x18 : PV) : List PV := [.junk, .junk, .fptr 2 1 (fun _ => frC x ks kl es el) 0 0, .fptr 2 1 (fun _ => frC y ks' kl' es' el') 0 0, .ptr 0 0, .s (.bool false), .ptr 1 0, .junk, .junk, .junk, .junk, .junk, x12, x13, x14, .junk, x16, x17, x18, .junk]
def jN : PV := .s (.slice none 0 0)
theorem fjoin_eq {x y : Fr} {ks kl ks' kl' : Nat} {es el es' el' : List Int} {R : PV → PH → Prop} (hs : x.st.length = y.st.length) (hl : x.lo.length = y.lo.length) (hx : FrFits x)
    (hret : PTri E false [] .ret [.junk, .junk, .junk, .junk, .ptr 0 0, .s (.bool true), .junk, .junk, .junk, .junk, .junk, .junk, .junk, .junk, .junk, .junk, .junk, .junk, .junk, .junk] [.cel [.vec 1 1 x.st.length, .vec 1 2 x.lo.length], .vec 1 x.st.length (rowI .u64 (joinL x.st y.st)) true, .vec 1 x.lo.length (rowI .u64 (joinL x.lo y.lo)) true] (retQ [.cell 4 (some 2), .tmp 5] R)) : PCall E [] 28 [frV x ks kl es el, frV y ks' kl' es' el'] [] R := by
  have f1 := hx.st
  have f2 := hx.lo
  refine p_call (fun _ _ => rfl) rfl ?_
  show PTri E false [] _ [frV x ks kl es el, frV y ks' kl' es' el', .junk, .junk, .junk, .junk, .junk, .junk, .junk, .junk, .junk, .junk, .junk, .junk, .junk, .junk, .junk, .junk, .junk, .junk] _ _
  refine s_run ?_
  refine s_ass (s_reg (g_run 7 ?_))
  refine prg_head (v' := .s (.bool false)) (by rw [hs]; simp) ?_
  refine g_run 7 ?_
  refine prg_head (v' := .s (.bool false)) (by rw [hl]; simp) ?_
  refine g_end ?_
  refine s_f (s_skip ?_)
  refine s_run ?_
  refine p_weak [some 2, some 3] [0, 1] (T' := jT x y ks kl es el ks' kl' es' el' .junk .junk .junk .junk .junk .junk) (hp' := [.cel [jN, jN], .cel [jN, jN]]) (wk _ _ _ _ (vals := ?_)) ?_
  · refine .cons (.one (.junk _)) (.cons (.one (.junk _)) (.cons (.one ?_) (.cons (.one ?_) (.cons (.one (.ptr rfl)) (.cons (.nlv rfl) (.cons (.one (.ptr rfl)) ?_))))))
    · exact .ptrf (.head _) rfl (by omega) rfl (by simp) rfl fun j hj => by
        have : j = 0 := by omega
        subst this; rfl
    · exact .ptrf (.tail _ (.head _)) rfl (by omega) rfl (by simp) rfl fun j hj => by
        have : j = 0 := by omega
        subst this; rfl
    · repeat' (first | exact VSubs.nil | apply VSubs.cons | exact VSub.one (VSub1.junk _))
  unfold jT
  refine s_ass (s_run ?_)
  obtain ⟨Z, hZ⟩ : ∃ Z, joinL x.st y.st = Z := ⟨_, rfl⟩
  obtain ⟨W, hW⟩ : ∃ W, joinL x.lo y.lo = W := ⟨_, rfl⟩
  have hZl : Z.length = x.st.length := by rw [← hZ, joinL_len hs]
  have hWl : W.length = x.lo.length := by rw [← hW, joinL_len hl]
  rw [hZ, hW] at hret
  refine s_loop (ι := Nat) (fun k => k ≤ x.st.length) (fun k => x.st.length - k) (fun k => jT x y ks kl es el ks' kl' es' el' (.frz 1 x.st.length ks (rowI .u64 (x.st ++ es))) (i64 (x.st.length : Nat)) (i64 (k : Nat)) .junk .junk .junk) (fun k => [.cel [jN, jN], .cel [.vec 1 2 k, jN], .vec 1 k (rowI .u64 (Z.take k)) true]) 0 (Nat.zero_le _) (σ := [some 0, some 1, none]) (fz := []) (wk _ _ _ _ (blks := .cons bs_cel (.cons (.cel rfl (by decide) rfl (.cons (.one (.nil rfl)) (.cons (.nlv rfl) .nil))) (.cons (.nil rfl) .nil)))) ?_
  · intro k hk
    unfold jT
    refine s_run ?_
    refine s_cond (fun h => ?_) (fun h => ?_)
    · simp only [decide_eq_true_eq] at h
      have hkl : k < x.st.length := by omega
      refine s_skip (s_block (s_run ?_))
      rw [getD_pre hkl]
      refine e_drw (g_run 4 ?_ (hq := by simp only [true_and, and_true]; omega))
      rw [getD_pre (show k < y.st.length by omega)]
      refine g_run 1 ?_
      refine prg_fz (k := 2) (row := rowI .u64 [x.st.getD k 0, y.st.getD k 0]) (fun i hi => two_rowU i hi) ?_
      refine g_call (join_ok (n := 2) (k := 2) [x.st.getD k 0, y.st.getD k 0] rfl (by decide)) ?_
      rintro v rfl
      refine ⟨rfl, ?_⟩
      rw [join2]
      refine g_end ?_ (hq := by simp only [room, true_and, and_true]; omega)
      refine e_run ?_
      have htl : (Z.take k).length = k := by rw [List.length_take]; omega
      refine lp_next (k + 1) (by omega) (σ := [some 0, some 1, some 5]) (fz := []) (wk _ _ _ _ (blks := .cons bs_cel (.cons (.cel rfl (by decide) rfl (.cons (.one (.vec rfl rfl)) (.cons (.nlv rfl) .nil))) (.cons (bs_vec rfl fun j hj => ?_) .nil))))
      have := row_grow (l := Z.take k) (x := orU (x.st.getD k 0) (y.st.getD k 0)) (i := j) (by rw [htl]; exact hj)
      rw [htl] at this
      rw [← hZ, joinL_take hs hkl, hZ]
      exact this
    · simp only [decide_eq_false_iff_not] at h
      have hkl : k = x.st.length := by omega
      rw [List.take_of_length_le (by omega), hkl]
      refine s_exit ?_
      refine s_ass (s_run ?_)
      refine s_loop (ι := Nat) (fun k => k ≤ x.lo.length) (fun k => x.lo.length - k) (fun k => jT x y ks kl es el ks' kl' es' el' .junk .junk .junk (.frz 1 x.lo.length kl (rowI .u64 (x.lo ++ el))) (i64 (x.lo.length : Nat)) (i64 (k : Nat))) (fun k => [.cel [jN, jN], .cel [.vec 1 2 x.st.length, .vec 1 3 k], .vec 1 x.st.length (rowI .u64 Z) true, .vec 1 k (rowI .u64 (W.take k)) true]) 0 (Nat.zero_le _) (σ := [some 0, some 1, some 2, none]) (fz := []) (wk _ _ _ _ (blks := .cons bs_cel (.cons (.cel rfl (by decide) rfl (.cons (.one (.vec rfl rfl)) (.cons (.one (.nil rfl)) .nil))) (.cons bs_same (.cons (.nil rfl) .nil))))) ?_
      intro k hk
      unfold jT
      refine s_run ?_
      refine s_cond (fun h => ?_) (fun h => ?_)
      · simp only [decide_eq_true_eq] at h
        have hkl : k < x.lo.length := by omega
        refine s_skip (s_block (s_run ?_))
        rw [getD_pre hkl]
        refine e_drw (g_run 4 ?_ (hq := by simp only [true_and, and_true]; omega))
        rw [getD_pre (show k < y.lo.length by omega)]
        refine g_run 1 ?_
        refine prg_fz (k := 2) (row := rowI .u64 [x.lo.getD k 0, y.lo.getD k 0]) (fun i hi => two_rowU i hi) ?_
        refine g_call (join_ok (n := 2) (k := 2) [x.lo.getD k 0, y.lo.getD k 0] rfl (by decide)) ?_
        rintro v rfl
        refine ⟨rfl, ?_⟩
        rw [join2]
        refine g_end ?_ (hq := by simp only [room, true_and, and_true]; omega)
        refine e_run ?_
        have htl : (W.take k).length = k := by rw [List.length_take]; omega
        refine lp_next (k + 1) (by omega) (σ := [some 0, some 1, some 2, some 6]) (fz := []) (wk _ _ _ _ (blks := .cons bs_cel (.cons (.cel rfl (by decide) rfl (.cons (.one (.vec rfl rfl)) (.cons (.one (.vec rfl rfl)) .nil))) (.cons bs_same (.cons (bs_vec rfl fun j hj => ?_) .nil)))))
        have := row_grow (l := W.take k) (x := orU (x.lo.getD k 0) (y.lo.getD k 0)) (i := j) (by rw [htl]; exact hj)
        rw [htl] at this
        rw [← hW, joinL_take hl hkl, hW]
        exact this
      · simp only [decide_eq_false_iff_not] at h
        have hkl : k = x.lo.length := by omega
        rw [List.take_of_length_le (by omega), hkl]
        refine s_exit ?_
        refine s_run ?_
        refine p_weak [some 0, some 2, some 3] [] (T' := [.junk, .junk, .junk, .junk, .ptr 0 0, .s (.bool true), .junk, .junk, .junk, .junk, .junk, .junk, .junk, .junk, .junk, .junk, .junk, .junk, .junk, .junk]) (hp' := [.cel [.vec 1 1 x.st.length, .vec 1 2 x.lo.length], .vec 1 x.st.length (rowI .u64 Z) true, .vec 1 x.lo.length (rowI .u64 W) true]) (wk _ _ _ _ (blks := .cons (.cel rfl (by decide) rfl (.cons (.one (.vec rfl rfl)) (.cons (.one (.vec rfl rfl)) .nil))) (.cons bs_same (.cons bs_same .nil)))) ?_
        exact hret
/-- One frame within another. -/
structure FrIn (x y : Fr) : Prop where
  st : x.st.length = y.st.length
  lo : x.lo.length = y.lo.length
  sin : ∀ i, i < x.st.length → inU (x.st.getD i 0) (y.st.getD i 0) = true
  lin : ∀ i, i < x.lo.length → inU (x.lo.getD i 0) (y.lo.getD i 0) = true
end Go.Proofs.Ytollibkfagjnaaa.Shape.Kit
