/- Frames joined, and held against each other. -/
import Derived.Test.YtollibkfagjnaaaFrL
set_option linter.unusedVariables false
set_option linter.unusedSimpArgs false
set_option maxRecDepth 10000
namespace Go.Proofs.Ytollibkfagjnaaa.Shape.Kit
open Go.Proofs.Ytollibkfagjnaaa.AM
def joinL (a b : List Int) : List Int := List.zipWith orU a b
theorem joinL_len {a b : List Int} (h : a.length = b.length) : (joinL a b).length = a.length := by unfold joinL; rw [List.length_zipWith]; omega
theorem joinL_at {a b : List Int} (h : a.length = b.length) {i : Nat} (hi : i < a.length) : (joinL a b).getD i 0 = orU (a.getD i 0) (b.getD i 0) := by
  unfold joinL
  simp only [List.getD_eq_getElem?_getD, List.getElem?_zipWith, List.getElem?_eq_getElem hi, List.getElem?_eq_getElem (show i < b.length by omega), Option.getD_some]
theorem joinL_take {a b : List Int} (h : a.length = b.length) {k : Nat} (hk : k < a.length) : (joinL a b).take (k + 1) = (joinL a b).take k ++ [orU (a.getD k 0) (b.getD k 0)] := by
  have hl := joinL_len h
  rw [List.take_succ_eq_append_getElem (by omega), ← joinL_at h hk, List.getD_eq_getElem?_getD, List.getElem?_eq_getElem (by omega), Option.getD_some]
/-- A frame as a value, of which more cells may follow. -/
def frV (x : Fr) (ks kl : Nat) (es el : List Int) : PV := .agg [.frz 1 x.st.length ks (rowI .u64 (x.st ++ es)), .frz 1 x.lo.length kl (rowI .u64 (x.lo ++ el))]
def frC (x : Fr) (ks kl : Nat) (es el : List Int) : List PV := [.frz 1 x.st.length ks (rowI .u64 (x.st ++ es)), .frz 1 x.lo.length kl (rowI .u64 (x.lo ++ el))]
theorem frV_enc (x : Fr) : frV x x.st.length x.lo.length [] [] = encFr x := by unfold frV encFr encU; rw [List.append_nil, List.append_nil]
def jT (x y : Fr) (ks kl : Nat) (es el : List Int) (ks' kl' : Nat) (es' el' : List Int) (x12 x13 x14 x16 x17 x18 : PV) : List PV := [.junk, .junk, .fptr 2 1 (fun _ => frC x ks kl es el) 0 0, .fptr 2 1 (fun _ => frC y ks' kl' es' el') 0 0, .ptr 0 0, .s (.bool false), .ptr 1 0, .junk, .junk, .junk, .junk, .junk, x12, x13, x14, .junk, x16, x17, x18, .junk]
def jN : PV := .s (.slice none 0 0)
theorem fjoin_eq {x y : Fr} {ks kl ks' kl' : Nat} {es el es' el' : List Int} {R : PV → PH → Prop} (hs : x.st.length = y.st.length) (hl : x.lo.length = y.lo.length) (hx : FrFits x)
    (hret : PTri E false [] .ret [.junk, .junk, .junk, .junk, .ptr 0 0, .s (.bool true), .junk, .junk, .junk, .junk, .junk, .junk, .junk, .junk, .junk, .junk, .junk, .junk, .junk, .junk] [.cel [.vec 1 1 x.st.length, .vec 1 2 x.lo.length], .vec 1 x.st.length (rowI .u64 (joinL x.st y.st)) true, .vec 1 x.lo.length (rowI .u64 (joinL x.lo y.lo)) true] (retQ [.cell 4 (some 2), .tmp 5] R)) : PCall E [] 28 [frV x ks kl es el, frV y ks' kl' es' el'] [] R := by
  have f1 := hx.st
  have f2 := hx.lo
  refine p_call (fun _ _ => rfl) rfl ?_
  show PTri E false [] _ [frV x ks kl es el, frV y ks' kl' es' el', .junk, .junk, .junk, .junk, .junk, .junk, .junk, .junk, .junk, .junk, .junk, .junk, .junk, .junk, .junk, .junk, .junk, .junk] _ _
  refine s_run ?_
  refine s_ass (s_reg (g_run 7 ?_))
  refine prg_head (v' := .s (.bool false)) (by rw [hs]; simp) ?_
  refine g_run 7 ?_
  refine prg_head (v' := .s (.bool false)) (by rw [hl]; simp) ?_
  refine g_end ?_
  refine s_f (s_skip ?_)
  refine s_run ?_
  refine p_weak [some 2, some 3] [0, 1] (T' := jT x y ks kl es el ks' kl' es' el' .junk .junk .junk .junk .junk .junk) (hp' := [.cel [jN, jN], .cel [jN, jN]]) (wk _ _ _ _ (vals := ?_)) ?_
  · refine .cons (.one (.junk _)) (.cons (.one (.junk _)) (.cons (.one ?_) (.cons (.one ?_) (.cons (.one (.ptr rfl)) (.cons (.nlv rfl) (.cons (.one (.ptr rfl)) ?_))))))
    · exact .ptrf (.head _) rfl (by omega) rfl (by simp) rfl fun j hj => by
        have : j = 0 := by omega
        subst this; rfl
    · exact .ptrf (.tail _ (.head _)) rfl (by omega) rfl (by simp) rfl fun j hj => by
        have : j = 0 := by omega
        subst this; rfl
    · repeat' (first | exact VSubs.nil | apply VSubs.cons | exact VSub.one (VSub1.junk _))
  unfold jT
  refine s_ass (s_run ?_)
  obtain ⟨Z, hZ⟩ : ∃ Z, joinL x.st y.st = Z := ⟨_, rfl⟩
  obtain ⟨W, hW⟩ : ∃ W, joinL x.lo y.lo = W := ⟨_, rfl⟩
  have hZl : Z.length = x.st.length := by rw [← hZ, joinL_len hs]
  have hWl : W.length = x.lo.length := by rw [← hW, joinL_len hl]
  rw [hZ, hW] at hret
  refine s_loop (ι := Nat) (fun k => k ≤ x.st.length) (fun k => x.st.length - k) (fun k => jT x y ks kl es el ks' kl' es' el' (.frz 1 x.st.length ks (rowI .u64 (x.st ++ es))) (i64 (x.st.length : Nat)) (i64 (k : Nat)) .junk .junk .junk) (fun k => [.cel [jN, jN], .cel [.vec 1 2 k, jN], .vec 1 k (rowI .u64 (Z.take k)) true]) 0 (Nat.zero_le _) (σ := [some 0, some 1, none]) (fz := []) (wk _ _ _ _ (blks := .cons bs_cel (.cons (.cel rfl (by decide) rfl (.cons (.one (.nil rfl)) (.cons (.nlv rfl) .nil))) (.cons (.nil rfl) .nil)))) ?_
  · intro k hk
    unfold jT
    refine s_run ?_
    refine s_cond (fun h => ?_) (fun h => ?_)
    · simp only [decide_eq_true_eq] at h
      have hkl : k < x.st.length := by omega
      refine s_skip (s_block (s_run ?_))
      rw [getD_pre hkl]
      refine e_drw (g_run 4 ?_ (hq := by simp only [true_and, and_true]; omega))
      rw [getD_pre (show k < y.st.length by omega)]
      refine g_run 1 ?_
      refine prg_fz (k := 2) (row := rowI .u64 [x.st.getD k 0, y.st.getD k 0]) (fun i hi => two_rowU i hi) ?_
      refine g_call (join_ok (n := 2) (k := 2) [x.st.getD k 0, y.st.getD k 0] rfl (by decide)) ?_
      rintro v rfl
      refine ⟨rfl, ?_⟩
      rw [join2]
      refine g_end ?_ (hq := by simp only [room, true_and, and_true]; omega)
      refine e_run ?_
      have htl : (Z.take k).length = k := by rw [List.length_take]; omega
      refine lp_next (k + 1) (by omega) (σ := [some 0, some 1, some 5]) (fz := []) (wk _ _ _ _ (blks := .cons bs_cel (.cons (.cel rfl (by decide) rfl (.cons (.one (.vec rfl rfl)) (.cons (.nlv rfl) .nil))) (.cons (bs_vec rfl fun j hj => ?_) .nil))))
      have := row_grow (l := Z.take k) (x := orU (x.st.getD k 0) (y.st.getD k 0)) (i := j) (by rw [htl]; exact hj)
      rw [htl] at this
      rw [← hZ, joinL_take hs hkl, hZ]
      exact this
    · simp only [decide_eq_false_iff_not] at h
      have hkl : k = x.st.length := by omega
      rw [List.take_of_length_le (by omega), hkl]
      refine s_exit ?_
      refine s_ass (s_run ?_)
      refine s_loop (ι := Nat) (fun k => k ≤ x.lo.length) (fun k => x.lo.length - k) (fun k => jT x y ks kl es el ks' kl' es' el' .junk .junk .junk (.frz 1 x.lo.length kl (rowI .u64 (x.lo ++ el))) (i64 (x.lo.length : Nat)) (i64 (k : Nat))) (fun k => [.cel [jN, jN], .cel [.vec 1 2 x.st.length, .vec 1 3 k], .vec 1 x.st.length (rowI .u64 Z) true, .vec 1 k (rowI .u64 (W.take k)) true]) 0 (Nat.zero_le _) (σ := [some 0, some 1, some 2, none]) (fz := []) (wk _ _ _ _ (blks := .cons bs_cel (.cons (.cel rfl (by decide) rfl (.cons (.one (.vec rfl rfl)) (.cons (.one (.nil rfl)) .nil))) (.cons bs_same (.cons (.nil rfl) .nil))))) ?_
      intro k hk
      unfold jT
      refine s_run ?_
      refine s_cond (fun h => ?_) (fun h => ?_)
      · simp only [decide_eq_true_eq] at h
        have hkl : k < x.lo.length := by omega
        refine s_skip (s_block (s_run ?_))
        rw [getD_pre hkl]
        refine e_drw (g_run 4 ?_ (hq := by simp only [true_and, and_true]; omega))
        rw [getD_pre (show k < y.lo.length by omega)]
        refine g_run 1 ?_
        refine prg_fz (k := 2) (row := rowI .u64 [x.lo.getD k 0, y.lo.getD k 0]) (fun i hi => two_rowU i hi) ?_
        refine g_call (join_ok (n := 2) (k := 2) [x.lo.getD k 0, y.lo.getD k 0] rfl (by decide)) ?_
        rintro v rfl
        refine ⟨rfl, ?_⟩
        rw [join2]
        refine g_end ?_ (hq := by simp only [room, true_and, and_true]; omega)
        refine e_run ?_
        have htl : (W.take k).length = k := by rw [List.length_take]; omega
        refine lp_next (k + 1) (by omega) (σ := [some 0, some 1, some 2, some 6]) (fz := []) (wk _ _ _ _ (blks := .cons bs_cel (.cons (.cel rfl (by decide) rfl (.cons (.one (.vec rfl rfl)) (.cons (.one (.vec rfl rfl)) .nil))) (.cons bs_same (.cons (bs_vec rfl fun j hj => ?_) .nil)))))
        have := row_grow (l := W.take k) (x := orU (x.lo.getD k 0) (y.lo.getD k 0)) (i := j) (by rw [htl]; exact hj)
        rw [htl] at this
        rw [← hW, joinL_take hl hkl, hW]
        exact this
      · simp only [decide_eq_false_iff_not] at h
        have hkl : k = x.lo.length := by omega
        rw [List.take_of_length_le (by omega), hkl]
        refine s_exit ?_
        refine s_run ?_
        refine p_weak [some 0, some 2, some 3] [] (T' := [.junk, .junk, .junk, .junk, .ptr 0 0, .s (.bool true), .junk, .junk, .junk, .junk, .junk, .junk, .junk, .junk, .junk, .junk, .junk, .junk, .junk, .junk]) (hp' := [.cel [.vec 1 1 x.st.length, .vec 1 2 x.lo.length], .vec 1 x.st.length (rowI .u64 Z) true, .vec 1 x.lo.length (rowI .u64 W) true]) (wk _ _ _ _ (blks := .cons (.cel rfl (by decide) rfl (.cons (.one (.vec rfl rfl)) (.cons (.one (.vec rfl rfl)) .nil))) (.cons bs_same (.cons bs_same .nil)))) ?_
        exact hret
def joinFr (x y : Fr) : Fr := ⟨joinL x.st y.st, joinL x.lo y.lo⟩
theorem fjoin_ok {x y : Fr} (hx : FrFits x) : PFun E 28 [encFr x, encFr y] (valQ (isV (if x.st.length = y.st.length ∧ x.lo.length = y.lo.length then .tup [encFr (joinFr x y), .s (.bool true)] else .tup [encFr ⟨[], []⟩, .s (.bool false)]))) := by
  by_cases hc : x.st.length = y.st.length ∧ x.lo.length = y.lo.length
  · rw [if_pos hc]
    obtain ⟨hs, hl⟩ := hc
    have e1 := frV_enc x
    have e2 := frV_enc y
    rw [← e1, ← e2]
    have hjs := joinL_len hs
    have hjl := joinL_len hl
    refine call_post (PCall.mono (fjoin_eq (R := ansQ (isV (.tup [encFr (joinFr x y), .s (.bool true)]))) hs hl hx ?_) ?_)
    · refine p_weak [some 0] [1, 2] (T' := [.junk, .junk, .junk, .junk, .ptr 0 0, .s (.bool true), .junk, .junk, .junk, .junk, .junk, .junk, .junk, .junk, .junk, .junk, .junk, .junk, .junk, .junk]) (hp' := [.cel [encU (joinL x.st y.st), encU (joinL x.lo y.lo)]]) (wk _ _ _ _ (blks := .cons (.cel rfl (by decide) rfl (.cons (.one (.vecf (.head _) rfl hjs.symm (Nat.le_refl _) (Nat.le_of_eq hjs) fun _ _ => rfl)) (.cons (.one (.vecf (.tail _ (.head _)) rfl hjl.symm (Nat.le_refl _) (Nat.le_of_eq hjl) fun _ _ => rfl)) .nil))) .nil)) ?_
      exact p_ret fin_v
    · rintro v hp ⟨fz, v2, h1, h2⟩
      exact ⟨[], fz, v2, [], ⟨rfl, rfl, rfl, .cons h1 .nil, .nil⟩, rfl, h2⟩
  · rw [if_neg hc]
    have hnil : ∀ {hp : PH} {T : List PV} {k : ACode}, hp.length = 3 → hp[2]? = some (.cel [jN, jN]) → T.length = 20 → T[4]? = some (.ptr 2 0) → T[5]? = some (.s (.bool false)) → PTri E false [] (.seq .ret k) T hp (retQ [.cell 4 (some 2), .tmp 5] (ansQ (isV (.tup [encFr ⟨[], []⟩, .s (.bool false)])))) := fun {hp T k} h1 h2 h3 h4 h5 => by
      match T, h3, h4, h5 with
      | [t0, t1, t2, t3, t4, t5, t6, t7, t8, t9, t10, t11, t12, t13, t14, t15, t16, t17, t18, t19], _, h4, h5 =>
        cases h4; cases h5
        refine p_weak [some 2] [] (T' := [.junk, .junk, .junk, .junk, .ptr 0 0, .s (.bool false), .junk, .junk, .junk, .junk, .junk, .junk, .junk, .junk, .junk, .junk, .junk, .junk, .junk, .junk]) (hp' := [.cel [encU [], encU []]]) (wk _ _ _ _ (blks := .cons (.cel rfl (by simp) h2 (.cons (.one .nilf) (.cons (.one .nilf) .nil))) .nil)) ?_
        exact s_ret fin_v
    refine p_fun ?_
    show PTri E false [] _ [encFr x, encFr y, .junk, .junk, .junk, .junk, .junk, .junk, .junk, .junk, .junk, .junk, .junk, .junk, .junk, .junk, .junk, .junk, .junk, .junk] _ _
    refine s_run ?_
    refine s_ass (s_reg (g_run 7 ?_))
    by_cases hs : x.st.length = y.st.length
    · refine prg_head (v' := .s (.bool false)) (by rw [hs]; simp) ?_
      have hl : x.lo.length ≠ y.lo.length := fun h => hc ⟨hs, h⟩
      refine g_run 7 ?_
      refine prg_head (v' := .s (.bool true)) (congrArg (fun b => PV.s (.bool b)) (by simp; omega)) ?_
      refine g_end ?_
      refine s_t (s_ass (s_run ?_))
      exact hnil rfl rfl rfl rfl rfl
    · refine prg_head (v' := .s (.bool true)) (congrArg (fun b => PV.s (.bool b)) (by simp; omega)) ?_
      refine g_end ?_
      refine s_t (s_ass (s_run ?_))
      exact hnil rfl rfl rfl rfl rfl
/-- One frame within another. -/
structure FrIn (x y : Fr) : Prop where
  st : x.st.length = y.st.length
  lo : x.lo.length = y.lo.length
  sin : ∀ i, i < x.st.length → inU (x.st.getD i 0) (y.st.getD i 0) = true
  lin : ∀ i, i < x.lo.length → inU (x.lo.getD i 0) (y.lo.getD i 0) = true
def wT (x y : Fr) (x10 x11 x12 x15 x16 x17 : PV) : List PV := [.junk, .junk, .fptr 2 1 (fun _ => [encU x.st, encU x.lo]) 0 0, .fptr 2 1 (fun _ => [encU y.st, encU y.lo]) 0 0, .s (.bool false), .junk, .junk, .junk, .junk, .junk, x10, x11, x12, .junk, .junk, x15, x16, x17, .junk, .junk]
theorem fwithin_ok {x y : Fr} (hx : FrFits x) (h : FrIn x y) : PFun E 33 [encFr x, encFr y] (valQ (isV (.s (.bool true)))) := by
  have f1 := hx.st
  have f2 := hx.lo
  have hs := h.st
  have hl := h.lo
  refine p_fun ?_
  show PTri E false [] _ [encFr x, encFr y, .junk, .junk, .junk, .junk, .junk, .junk, .junk, .junk, .junk, .junk, .junk, .junk, .junk, .junk, .junk, .junk, .junk, .junk] _ _
  refine s_run ?_
  refine s_ass (s_reg (g_run 7 ?_))
  refine prg_head (v' := .s (.bool false)) (by rw [hs]; simp) ?_
  refine g_run 7 ?_
  refine prg_head (v' := .s (.bool false)) (by rw [hl]; simp) ?_
  refine g_end ?_
  refine s_f (s_skip ?_)
  refine p_weak [] [0, 1] (T' := wT x y .junk .junk .junk .junk .junk .junk) (hp' := []) (wk _ _ _ _ (vals := ?_)) ?_
  · refine .cons (.one (.junk _)) (.cons (.one (.junk _)) (.cons (.one ?_) (.cons (.one ?_) (.cons (.nlv rfl) ?_))))
    · exact .ptrf (.head _) rfl (by omega) rfl (by simp) rfl fun j hj => by
        have : j = 0 := by omega
        subst this; rfl
    · exact .ptrf (.tail _ (.head _)) rfl (by omega) rfl (by simp) rfl fun j hj => by
        have : j = 0 := by omega
        subst this; rfl
    · repeat' (first | exact VSubs.nil | apply VSubs.cons | exact VSub.one (VSub1.junk _))
  unfold wT
  refine s_ass (s_run ?_)
  refine s_loop (ι := Nat) (fun k => k ≤ x.st.length) (fun k => x.st.length - k) (fun k => wT x y (encU x.st) (i64 (x.st.length : Nat)) (i64 (k : Nat)) .junk .junk .junk) (fun _ => []) 0 (Nat.zero_le _) (σ := []) (fz := []) (wk _ _ _ _) ?_
  intro k hk
  unfold wT
  refine s_run ?_
  refine s_cond (fun h1 => ?_) (fun h1 => ?_)
  · simp only [decide_eq_true_eq] at h1
    have hkl : k < x.st.length := by omega
    refine s_skip (s_block (s_run ?_))
    refine s_reg (g_run 4 ?_ (hq := by simp only [true_and, and_true]; omega))
    refine g_call (within_ok (x.st.getD k 0) (y.st.getD k 0)) ?_
    rintro v rfl
    refine ⟨rfl, ?_⟩
    rw [h.sin k hkl]
    refine g_end ?_
    refine e_f (p_skip (e_run ?_))
    exact lp_next (k + 1) (by omega) (σ := []) (fz := []) (wk _ _ _ _)
  refine s_exit ?_
  refine s_ass (s_run ?_)
  refine s_loop (ι := Nat) (fun k => k ≤ x.lo.length) (fun k => x.lo.length - k) (fun k => wT x y .junk .junk .junk (encU x.lo) (i64 (x.lo.length : Nat)) (i64 (k : Nat))) (fun _ => []) 0 (Nat.zero_le _) (σ := []) (fz := []) (wk _ _ _ _) ?_
  intro k hk
  unfold wT
  refine s_run ?_
  refine s_cond (fun h1 => ?_) (fun h1 => ?_)
  · simp only [decide_eq_true_eq] at h1
    have hkl : k < x.lo.length := by omega
    refine s_skip (s_block (s_run ?_))
    refine s_reg (g_run 4 ?_ (hq := by simp only [true_and, and_true]; omega))
    refine g_call (within_ok (x.lo.getD k 0) (y.lo.getD k 0)) ?_
    rintro v rfl
    refine ⟨rfl, ?_⟩
    rw [h.lin k hkl]
    refine g_end ?_
    refine e_f (p_skip (e_run ?_))
    exact lp_next (k + 1) (by omega) (σ := []) (fz := []) (wk _ _ _ _)
  refine s_exit ?_
  refine s_run ?_
  exact p_ret fin_v
end Go.Proofs.Ytollibkfagjnaaa.Shape.Kit
