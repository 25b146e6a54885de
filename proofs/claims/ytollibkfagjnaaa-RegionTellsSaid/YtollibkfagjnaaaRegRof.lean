/- The document's answer: regions and levels. -/
import Derived.Test.YtollibkfagjnaaaRegRef
set_option linter.unusedVariables false
set_option linter.unusedSimpArgs false
set_option maxRecDepth 10000
namespace Go.Proofs.Ytollibkfagjnaaa.Graph
open Go.Proofs.Ytollibkfagjnaaa.AM Go.Proofs.Ytollibkfagjnaaa.Post
theorem nat_at {S : List Nat} {k s : Nat} (h : S[k]? = some s) : PV.s (.int .i64 ((natI S).getD k 0)) = i64 (s : Nat) := by
  show _ = PV.s (.int .i64 _)
  congr 2
  show (S.map Int.ofNat).getD k 0 = _
  rw [List.getD_eq_getElem?_getD, List.getElem?_map, h]
  rfl
theorem inB_succ {code : List (Int × Int)} {b e i a l : Nat} (h : (nxN code b)[i]? = some l) : inB code b e (i + 1) a = (inB code b e i a || (withoutL code (l : Nat) (e : Nat)).getD a false) := by
  unfold inB
  rw [take_snoc h, List.any_append]
  simp
/-- While a node is looked at. -/
noncomputable def inM (code : List (Int × Int)) (b e i k : Nat) : Nat → List PV := fun a => [.s (.bool (if a < k then inB code b e (i + 1) a else inB code b e i a))]
noncomputable def inR (code : List (Int × Int)) (b e i : Nat) : Nat → List PV := fun a => [.s (.bool (inB code b e i a))]
theorem inM_set {code : List (Int × Int)} {b e i k a : Nat} {v : PV} (hv : v = .s (.bool (inB code b e (i + 1) k))) : (if a = k then psplice (inM code b e i k a) 0 (pcs v) else inM code b e i k a) = inM code b e i (k + 1) a := by
  subst hv
  by_cases w : a = k
  · subst w
    rw [if_pos rfl]
    unfold inM
    rw [if_neg (Nat.lt_irrefl a), if_pos (Nat.lt_succ_self a)]
    rfl
  · rw [if_neg w]
    unfold inM
    by_cases u : a < k
    · rw [if_pos u, if_pos (by omega)]
    · rw [if_neg u, if_neg (by omega)]
noncomputable def ofK (code : List (Int × Int)) (b k : Nat) : List Nat := (List.range k).filter fun a => pB (Reg code b a)
theorem ofK_succ {code : List (Int × Int)} {b k : Nat} : ofK code b (k + 1) = if pB (Reg code b k) = true then ofK code b k ++ [k] else ofK code b k := by
  unfold ofK
  rw [List.range_succ, List.filter_append]
  by_cases h : pB (Reg code b k) = true
  · rw [if_pos h, List.filter_cons_of_pos (by exact h)]; rfl
  · rw [if_neg h, List.filter_cons_of_neg (by exact h)]; simp
theorem ofK_len {code : List (Int × Int)} {b k : Nat} : (ofK code b k).length ≤ k := by
  unfold ofK
  exact Nat.le_trans (List.length_filter_le _ _) (by simp)
noncomputable def oV (f : Fn) (b e : Nat) (x4 x8 x9 x10 x11 x12 x13 : PV) : List PV := [encF f, i64 (b : Nat), .ptr 0 0, .junk, x4, i64 (f.code.length : Nat), i64 (e : Nat), .junk, x8, x9, x10, x11, x12, x13, .junk, .junk, .junk, .junk, .junk, .junk]
theorem rof_ok {f : Fn} (hf : Fit f.code) (hT : TreeR f.code (nrT f.code)) {b : Nat} (hb : b < f.code.length) : PFun E 44 [encF f, i64 (b : Nat)] (valQ (isV (encI (natI (ofL f.code b))))) := by
  have f1 := hf.len
  refine p_fun ?_
  show PTri E false [] _ [encF f, i64 (b : Nat), .junk, .junk, .junk, .junk, .junk, .junk, .junk, .junk, .junk, .junk, .junk, .junk, .junk, .junk, .junk, .junk, .junk, .junk] _ _
  refine s_run ?_
  refine s_run ?_
  refine s_run ?_
  refine s_ass (s_reg (g_run 1 ?_))
  refine prg_head (v' := .s (.bool false)) (by rw [decide_eq_false (by omega)]) ?_
  refine g_run 3 ?_
  refine prg_head (v' := .s (.bool false)) (by rw [decide_eq_false (by omega)]) ?_
  refine g_end ?_
  refine s_f (s_skip ?_)
  refine s_reg (g_run 1 ?_)
  refine g_call (rnear_ok hf hT hb) ?_
  rintro v rfl
  unfold nearD
  cases hn : nrT f.code b with
  | none =>
    refine ⟨rfl, ?_⟩
    refine g_end ?_
    refine s_ass (s_run ?_)
    refine s_t ?_
    refine s_ass (s_run ?_)
    have hof : ofL f.code b = [] := by
      unfold ofL
      rw [List.filter_eq_nil_iff]
      intro a _
      rw [pB_iff]
      rintro ⟨_, e, he, _⟩
      rw [hn] at he; cases he
    rw [hof]
    refine s_ret (fin_z [] rfl ?_)
    rintro v rfl
    exact .one .nilf
  | some e =>
    refine ⟨rfl, ?_⟩
    have hex : e < f.code.length + 1 := by
      have hex : Ex f.code b := (hT.sm b).1 (by rw [hn]; rfl)
      exact ex_lt (hT.step hex (by omega) hn).2.1
    refine g_end ?_
    refine s_ass (s_run ?_)
    refine s_f (s_skip ?_)
    refine s_reg (g_run 1 ?_)
    refine prg_head (v' := i64 (f.code.length + 1 : Nat)) rfl ?_
    refine g_end ?_
    refine s_reg (g_run 1 ?_)
    refine g_call (rnext_ok hf (b : Nat)) ?_
    rintro v rfl
    refine ⟨rfl, ?_⟩
    rw [← next_nat]
    unfold encI
    rw [natI_len]
    refine g_end ?_
    have hnl : (nxN f.code b).length ≤ 2 := by rw [← natI_len, next_nat]; exact nextI_len _ _
    refine s_ass (s_run ?_)
    refine s_loop (ι := Nat) (fun i => i ≤ (nxN f.code b).length) (fun i => (nxN f.code b).length - i) (fun i => oV f b e (.s (.slice none 0 0)) (.vec 1 1 (f.code.length + 1)) (.frz 1 (nxN f.code b).length (nxN f.code b).length (rowI .i64 (natI (nxN f.code b)))) (i64 (i : Nat)) .junk .junk .junk) (fun i => [.cel (cellsF f), .vec 1 f.code.length (inR f.code b e i) false]) 0 (Nat.zero_le _) (σ := [some 0, some 1]) (fz := []) (wk _ [] _ _ (vals := ?_) (blks := .cons bs_cel (.cons (.vec rfl (by simp) rfl (Nat.le_succ _) (fun h => nomatch h) fun i hi => by unfold inR inB; rfl) .nil))) ?_
    · dsimp only [oV]
      repeat' (first | exact VSubs.nil | apply VSubs.cons | exact VSub.one (VSub1.junk _) | exact VSub.nlv rfl | exact VSub.one (VSub1.ptr rfl) | exact VSub.one (VSub1.vec rfl rfl))
    intro i hi
    unfold oV
    refine s_ass (s_run ?_)
    refine s_cond (fun h1 => ?_) (fun h1 => ?_)
    · simp only [decide_eq_true_eq] at h1
      obtain ⟨l, hl⟩ : ∃ l, (nxN f.code b)[i]? = some l := ⟨_, List.getElem?_eq_getElem (by omega)⟩
      have hlm := nx_lt (List.mem_of_getElem? hl)
      refine s_skip (s_block ?_)
      refine s_drw (g_run 3 ?_)
      refine prg_head (nat_at hl) ?_
      refine g_call (rwithout_ok hf (l : Nat) (e : Nat) (by unfold in64; omega) (by unfold in64; omega)) ?_
      rintro v rfl
      refine ⟨rfl, ?_⟩
      unfold encB
      rw [withoutA_len]
      refine g_end ?_
      refine s_run ?_
      obtain ⟨W, hW⟩ : ∃ W, withoutL f.code (l : Nat) (e : Nat) = W := ⟨_, rfl⟩
      have hsu := fun a => inB_succ (e := e) (a := a) hl
      rw [hW] at hsu ⊢
      refine e_loop (ι := Nat) (fun a => a ≤ f.code.length) (fun a => f.code.length - a) (fun a => oV f b e (.s (.slice none 0 0)) (.vec 1 1 (f.code.length + 1)) (.frz 1 (nxN f.code b).length (nxN f.code b).length (rowI .i64 (natI (nxN f.code b)))) (i64 (i : Nat)) (.frz 1 (f.code.length + 1) (f.code.length + 1) (rowB W)) (i64 (a : Nat)) .junk) (fun a => [.cel (cellsF f), .vec 1 f.code.length (inM f.code b e i a) false]) 0 (Nat.zero_le _) (σ := [some 0, some 1]) (fz := []) (wk _ [] _ _ (vals := ?_) (blks := .cons bs_cel (.cons (bs_vec rfl (fun j hj => by unfold inR inM; rw [if_neg (Nat.not_lt_zero _)]) (h := rfl) (hb := rfl)) .nil))) ?_
      · dsimp only [oV]
        repeat' (first | exact VSubs.nil | apply VSubs.cons | exact VSub.one (VSub1.junk _) | exact VSub.nlv rfl | exact VSub.one (VSub1.ptr rfl) | exact VSub.one (VSub1.vec rfl rfl))
      intro a ha
      unfold oV
      refine s_ass (s_run ?_)
      refine s_cond (fun h2 => ?_) (fun h2 => ?_)
      · simp only [decide_eq_true_eq] at h2
        have ha1 : a < f.code.length := by omega
        refine s_skip (s_block ?_)
        refine e_reg (g_run 2 ?_)
        refine prg_head (v' := .s (.bool (inB f.code b e i a))) (by rw [if_neg (Nat.lt_irrefl a)]) ?_
        refine prg_split (fun h3 => ?_) (fun h3 => ?_)
        · have hx : inB f.code b e (i + 1) a = true := by rw [hsu, h3]; rfl
          refine g_end ?_
          refine e_run ?_
          refine lp_next (a + 1) (by omega) (σ := [some 0, some 1]) (fz := []) (wk _ [] _ _ (vals := ?_) (blks := .cons bs_cel (.cons (bs_vec rfl (fun j hj => inM_set (by rw [hx])) (h := rfl) (hb := rfl)) .nil)))
          try dsimp only [oV]
          repeat' (first | exact VSubs.nil | apply VSubs.cons | exact VSub.one (VSub1.junk _) | exact VSub.nlv rfl | exact VSub.one (VSub1.ptr rfl) | exact VSub.one (VSub1.vec rfl rfl))
        · have hx : inB f.code b e (i + 1) a = W.getD a false := by rw [hsu, h3]; rfl
          refine g_end ?_
          refine e_run ?_
          refine lp_next (a + 1) (by omega) (σ := [some 0, some 1]) (fz := []) (wk _ [] _ _ (vals := ?_) (blks := .cons bs_cel (.cons (bs_vec rfl (fun j hj => inM_set (by rw [hx])) (h := rfl) (hb := rfl)) .nil)))
          try dsimp only [oV]
          repeat' (first | exact VSubs.nil | apply VSubs.cons | exact VSub.one (VSub1.junk _) | exact VSub.nlv rfl | exact VSub.one (VSub1.ptr rfl) | exact VSub.one (VSub1.vec rfl rfl))
      · simp only [decide_eq_false_iff_not] at h2
        refine s_exit ?_
        refine e_run ?_
        refine lp_next (i + 1) (by omega) (σ := [some 0, some 1]) (fz := []) (wk _ [] _ _ (vals := ?_) (blks := .cons bs_cel (.cons (bs_vec rfl (fun j hj => by unfold inR inM; rw [if_pos (by omega)]) (h := rfl) (hb := rfl)) .nil)))
        try dsimp only [oV]
        repeat' (first | exact VSubs.nil | apply VSubs.cons | exact VSub.one (VSub1.junk _) | exact VSub.nlv rfl | exact VSub.one (VSub1.ptr rfl) | exact VSub.one (VSub1.vec rfl rfl))
    simp only [decide_eq_false_iff_not] at h1
    refine s_exit ?_
    refine s_ass (s_run ?_)
    refine s_loop (ι := Nat) (fun a => a ≤ f.code.length) (fun a => f.code.length - a) (fun a => oV f b e (.vec 1 2 (ofK f.code b a).length) (.vec 1 1 (f.code.length + 1)) .junk .junk .junk .junk (i64 (a : Nat))) (fun a => [.cel (cellsF f), .vec 1 f.code.length (fun j => [.s (.bool (pB (Reg f.code b j)))]) false, .vec 1 (ofK f.code b a).length (rowI .i64 (natI (ofK f.code b a))) false]) 0 (Nat.zero_le _) (σ := [some 0, some 1, none]) (fz := []) (wk _ [] _ _ (vals := ?_) (blks := .cons bs_cel (.cons (bs_vec rfl (fun j hj => by unfold inR; rw [in_reg hb hn hj (by omega)]) (h := rfl) (hb := rfl)) (.cons (.nil rfl) .nil)))) ?_
    · dsimp only [oV]
      repeat' (first | exact VSubs.nil | apply VSubs.cons | exact VSub.one (VSub1.junk _) | exact VSub.one (VSub1.nil rfl) | exact VSub.nlv rfl | exact VSub.one (VSub1.ptr rfl) | exact VSub.one (VSub1.vec rfl rfl))
    intro a ha
    have hol := ofK_len (code := f.code) (b := b) (k := a)
    unfold oV
    refine s_ass (s_run ?_)
    refine s_cond (fun h2 => ?_) (fun h2 => ?_)
    · simp only [decide_eq_true_eq] at h2
      refine s_skip (s_block ?_)
      refine s_run ?_
      have hsu := ofK_succ (code := f.code) (b := b) (k := a)
      refine e_cond (fun h3 => ?_) (fun h3 => ?_)
      · rw [if_pos h3] at hsu
        refine e_run (hq := by simp only [room, true_and, and_true]; omega) ?_
        refine e_run ?_
        refine lp_next (a + 1) (by omega) (σ := [some 0, some 1, some 4]) (fz := []) ?_
        show Weak _ _ _ _ _ (oV f b e (.vec 1 2 (ofK f.code b (a + 1)).length) (.vec 1 1 (f.code.length + 1)) .junk .junk .junk .junk (i64 ((a + 1 : Nat) : Int))) [.cel (cellsF f), .vec 1 f.code.length (fun j => [.s (.bool (pB (Reg f.code b j)))]) false, .vec 1 (ofK f.code b (a + 1)).length (rowI .i64 (natI (ofK f.code b (a + 1)))) false]
        rw [hsu, List.length_append, List.length_singleton]
        refine wk _ [] _ _ (vals := ?_) (blks := .cons bs_cel (.cons bs_same (.cons (.vec rfl (by simp) rfl (Nat.le_refl _) (fun h => nomatch h) fun i hi => ?_) .nil)))
        · dsimp only [oV]
          repeat' (first | exact VSubs.nil | apply VSubs.cons | exact VSub.one (VSub1.junk _) | exact VSub.nlv rfl | exact VSub.one (VSub1.ptr rfl) | exact VSub.one (VSub1.vec rfl rfl))
        · rw [natI_snoc]
          have := row1_push (en := i64) (d := 0) (x := ((a : Nat) : Int)) (xs := natI (ofK f.code b a)) (i := i) (by rw [natI_len]; simpa using hi)
          rw [natI_len] at this
          exact this
      · rw [if_neg (by rw [h3]; simp)] at hsu
        refine p_skip ?_
        refine e_run ?_
        refine lp_next (a + 1) (by omega) (σ := [some 0, some 1, some 2]) (fz := []) ?_
        show Weak _ _ _ _ _ (oV f b e (.vec 1 2 (ofK f.code b (a + 1)).length) (.vec 1 1 (f.code.length + 1)) .junk .junk .junk .junk (i64 ((a + 1 : Nat) : Int))) [.cel (cellsF f), .vec 1 f.code.length (fun j => [.s (.bool (pB (Reg f.code b j)))]) false, .vec 1 (ofK f.code b (a + 1)).length (rowI .i64 (natI (ofK f.code b (a + 1)))) false]
        rw [hsu]
        refine wk _ [] _ _ (vals := ?_) (blks := .cons bs_cel (.cons bs_same (.cons bs_same .nil)))
        dsimp only [oV]
        repeat' (first | exact VSubs.nil | apply VSubs.cons | exact VSub.one (VSub1.junk _) | exact VSub.nlv rfl | exact VSub.one (VSub1.ptr rfl) | exact VSub.one (VSub1.vec rfl rfl))
    simp only [decide_eq_false_iff_not] at h2
    have hal : a = f.code.length := by omega
    subst hal
    refine s_exit ?_
    refine s_run ?_
    refine p_ret (fin_z [2] rfl ?_)
    rintro v rfl
    exact .one (.vecf (.head _) rfl (natI_len _).symm (Nat.le_refl _) (Nat.le_of_eq (natI_len _)) fun i hi => rfl)
end Go.Proofs.Ytollibkfagjnaaa.Graph
