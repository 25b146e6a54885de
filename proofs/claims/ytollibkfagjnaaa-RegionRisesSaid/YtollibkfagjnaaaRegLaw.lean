/- The law RegionRises. -/
import Derived.Test.YtollibkfagjnaaaRegBits
set_option linter.unusedVariables false
set_option linter.unusedSimpArgs false
set_option maxRecDepth 10000
namespace Go.Proofs.Ytollibkfagjnaaa.Graph
open Go.Proofs.Ytollibkfagjnaaa.AM Go.Proofs.Ytollibkfagjnaaa.Post
theorem awake16_ok : PFun E 34 [] (valQ (isV (.s (.bool true)))) := by
  intro F ρ H avs hr ha
  have : avs = [] := List.eq_nil_of_length_eq_zero (by rw [← ha.len]; rfl)
  subst this
  exact runs_done (fun _ => rfl) ⟨F, ρ, [], .s (.bool true), .refl, fun _ _ _ h => h, hr, .fr (.s _), rfl, rfl⟩
noncomputable def lvR (f : Fn) (base : Int) (conds : List Int) : PV := .frz 1 f.code.length f.code.length (rowI .u64 (levL f.code conds base conds.length))
noncomputable def lT (f : Fn) (base : Int) (conds : List Int) (t more : Int) (x8 x9 x10 x11 x12 x13 x14 x15 : PV) : List PV := [encF f, u64 base, encU conds, i64 t, u64 more, .ptr 0 0, .s (.bool false), i64 (f.code.length : Nat), x8, x9, x10, x11, x12, x13, x14, x15, .junk, .junk, .junk, .junk, .junk, .junk, .junk, .junk, .junk]
theorem regionRises_ok {f : Fn} (hop : ∀ i, in64 (f.code.getD i (0, 0)).1) (harg : ∀ i, in64 (f.code.getD i (0, 0)).2) {base : Int} (hb : IsU base) {conds : List Int} (hc : conds.length < 17592186044415) {t : Int} (ht : in64 t) {more : Int} : PFun E 11 [encF f, u64 base, encU conds, i64 t, u64 more] (valQ (isV (.s (.bool true)))) := by
  refine p_fun ?_
  show PTri E false [] _ [encF f, u64 base, encU conds, i64 t, u64 more, .junk, .junk, .junk, .junk, .junk, .junk, .junk, .junk, .junk, .junk, .junk, .junk, .junk, .junk, .junk, .junk, .junk, .junk, .junk, .junk] _ _
  refine s_run ?_
  refine s_run ?_
  refine s_ass (s_reg (g_run 1 ?_))
  refine prg_split (fun h => ?_) (fun h => ?_)
  · refine g_end ?_
    refine s_t (s_ass (s_reg ?_))
    refine g_call awake16_ok ?_
    rintro v rfl
    refine ⟨rfl, ?_⟩
    refine g_end ?_
    exact s_ret fin_v
  simp only [gt_iff_lt, decide_eq_false_iff_not] at h
  have hn : f.code.length ≤ 40 := by omega
  have hf : Fit f.code := ⟨by omega, hop, harg⟩
  refine g_call awake16_ok ?_
  rintro v rfl
  refine ⟨rfl, ?_⟩
  refine g_end ?_
  refine s_f (s_skip ?_)
  refine s_reg (g_run 1 ?_)
  refine g_call (levels_ok hf (base := base) (conds := conds) hc) ?_
  rintro v ⟨hT, rfl⟩
  refine ⟨rfl, ?_⟩
  unfold encU
  rw [levL_len]
  refine g_end ?_
  refine s_ass (s_run ?_)
  refine s_f (s_skip ?_) (hc := by show some (PV.s (Value.bool ((f.code.length : Int) != (f.code.length : Int)))) = _; rw [bne_self_eq_false])
  refine s_ass (s_run ?_)
  refine s_loop (fun a => a ≤ f.code.length) (fun a => f.code.length - a) (fun a => lT f base conds t more (lvR f base conds) (i64 (a : Nat)) .junk .junk .junk .junk .junk .junk) (fun _ => [.cel (cellsF f)]) 0 (Nat.zero_le _) (σ := [some 0]) (fz := []) (wk _ [] _ _ (vals := ?_) (blks := .cons bs_cel .nil)) ?_
  · dsimp only [lT, lvR]
    repeat' (first | exact VSubs.nil | apply VSubs.cons | exact VSub.one (VSub1.junk _) | exact VSub.nlv rfl | exact VSub.one (VSub1.ptr rfl))
  intro a ha
  unfold lT lvR encU
  refine s_ass (s_run ?_)
  refine s_cond (fun h1 => ?_) (fun h1 => ?_)
  · simp only [decide_eq_true_eq] at h1
    have ha1 : a < f.code.length := by omega
    refine s_skip (s_block ?_)
    refine s_run ?_
    refine s_reg (g_run 1 ?_)
    refine g_call (governs_ok hf ha1) ?_
    rintro v rfl
    refine ⟨rfl, ?_⟩
    unfold encI
    rw [natI_len]
    refine g_end ?_
    refine s_ass (s_run ?_)
    obtain ⟨gl, hgl⟩ : ∃ gl, govL f.code a f.code.length = gl := ⟨_, rfl⟩
    have hw := want_ok (code := f.code) (conds := conds) (a := a) hb
    have hgb := govL_len (code := f.code) (a := a) f.code.length
    rw [hgl] at hw hgb ⊢
    refine s_loop (fun i => i ≤ gl.length) (fun i => gl.length - i) (fun i => lT f base conds t more (lvR f base conds) (i64 (a : Nat)) (u64 ((gl.take i).foldl (wantN conds) base)) (.frz 1 gl.length gl.length (rowI .i64 (natI gl))) (i64 (i : Nat)) .junk .junk .junk) (fun _ => [.cel (cellsF f)]) 0 (Nat.zero_le _) (σ := [some 0]) (fz := []) (wk _ [] _ _ (vals := ?_) (blks := .cons bs_cel .nil)) ?_
    · dsimp only [lT, lvR]
      repeat' (first | exact VSubs.nil | apply VSubs.cons | exact VSub.one (VSub1.junk _) | exact VSub.nlv rfl | exact VSub.one (VSub1.ptr rfl))
    intro i hi
    unfold lT lvR encU
    refine s_ass (s_run ?_)
    refine s_cond (fun h2 => ?_) (fun h2 => ?_)
    · simp only [decide_eq_true_eq] at h2
      have hi1 : i < gl.length := by omega
      obtain ⟨g, hg⟩ : ∃ g, gl[i]? = some g := ⟨_, List.getElem?_eq_getElem hi1⟩
      have hgi : PV.s (.int .i64 ((natI gl).getD i 0)) = i64 (g : Nat) := by
        show _ = PV.s (.int .i64 _)
        congr 2
        show (gl.map Int.ofNat).getD i 0 = _
        rw [List.getD_eq_getElem?_getD, List.getElem?_map, hg]
        rfl
      have hsn : (gl.take (i + 1)).foldl (wantN conds) base = wantN conds ((gl.take i).foldl (wantN conds) base) g := by
        rw [take_snoc hg, List.foldl_append]; rfl
      refine s_skip (s_block ?_)
      refine s_reg (g_run 2 ?_)
      refine prg_head hgi ?_
      refine g_end ?_
      refine e_cond (fun h3 => ?_) (fun h3 => ?_)
      · simp only [decide_eq_true_eq] at h3
        refine e_reg (g_run 2 ?_)
        refine prg_head hgi ?_
        refine g_end ?_
        refine e_run ?_
        refine lp_next (i + 1) (by omega) (σ := [some 0]) (fz := []) (wk _ [] _ _ (vals := ?_) (blks := .cons bs_cel .nil))
        rw [hsn]
        unfold wantN
        rw [if_pos (by omega)]
        try dsimp only [lT, lvR]
        repeat' (first | exact VSubs.nil | apply VSubs.cons | exact VSub.one (VSub1.junk _) | exact VSub.nlv rfl | exact VSub.one (VSub1.ptr rfl))
      · simp only [decide_eq_false_iff_not] at h3
        refine p_skip ?_
        refine e_run ?_
        refine lp_next (i + 1) (by omega) (σ := [some 0]) (fz := []) (wk _ [] _ _ (vals := ?_) (blks := .cons bs_cel .nil))
        rw [hsn]
        unfold wantN
        rw [if_neg (by omega)]
        try dsimp only [lT, lvR]
        repeat' (first | exact VSubs.nil | apply VSubs.cons | exact VSub.one (VSub1.junk _) | exact VSub.nlv rfl | exact VSub.one (VSub1.ptr rfl))
    simp only [decide_eq_false_iff_not] at h2
    refine s_exit ?_
    rw [List.take_of_length_le (by omega), hw]
    refine s_run ?_
    refine e_f ?_ (hc := ?_)
    · refine p_skip ?_
      refine e_run ?_
      refine lp_next (a + 1) (by omega) (σ := [some 0]) (fz := []) (wk _ [] _ _ (vals := ?_) (blks := .cons bs_cel .nil))
      try dsimp only [lT, lvR]
      repeat' (first | exact VSubs.nil | apply VSubs.cons | exact VSub.one (VSub1.junk _) | exact VSub.nlv rfl | exact VSub.one (VSub1.ptr rfl))
    · show some (PV.s (Value.bool ((levL f.code conds base conds.length).getD a 0 != levA f.code conds base a conds.length))) = _
      rw [levL_at ha1, bne_self_eq_false]
  simp only [decide_eq_false_iff_not] at h1
  refine s_exit ?_
  refine s_run ?_
  refine s_run (hq := by simp only [room, true_and, and_true]; omega) ?_
  refine s_cut (fun T' hp' => ∃ x9 x18 x22 row, T' = [encF f, u64 base, encU conds, i64 t, u64 more, .ptr 0 0, .s (.bool false), i64 (f.code.length : Nat), lvR f base conds, x9, .junk, .junk, .junk, .vec 1 1 conds.length, .junk, .junk, .junk, .junk, x18, .junk, .junk, .junk, x22, .junk, .junk] ∧ hp' = [.cel (cellsF f), .vec 1 conds.length row true] ∧ ∀ i, i < conds.length → row i = rowI .u64 (moreAt conds t more) i) ?_ ?_
  · refine s_reg (g_run 1 ?_)
    refine prg_split (fun h2 => ?_) (fun h2 => ?_)
    · simp only [ge_iff_le, decide_eq_true_eq] at h2
      refine g_end ?_
      refine e_cond (fun h3 => ?_) (fun h3 => ?_)
      · simp only [decide_eq_true_eq] at h3
        obtain ⟨k, rfl⟩ : ∃ k : Nat, t = (k : Nat) := ⟨t.toNat, by omega⟩
        have hk : k < conds.length := by omega
        refine e_run ?_
        refine ⟨rfl, _, _, _, _, rfl, rfl, fun i hi => ?_⟩
        have hm : moreAt conds (k : Nat) more = conds.set k (orU' (conds.getD k 0) more) := if_pos ⟨h2, h3⟩
        rw [hm]
        exact row1_set (en := fun z => .s (.int .u64 z)) (d := 0) (xs := conds) (c := k) (x := orU' (conds.getD k 0) more) _ rfl hi
      · simp only [decide_eq_false_iff_not] at h3
        refine p_skip ?_
        have hm : moreAt conds t more = conds := if_neg fun q => h3 q.2
        exact ⟨rfl, _, _, _, _, rfl, rfl, fun i hi => by rw [hm]⟩
    · simp only [ge_iff_le, decide_eq_false_iff_not] at h2
      refine g_end ?_
      refine e_f ?_
      refine p_skip ?_
      have hm : moreAt conds t more = conds := if_neg fun q => h2 q.1
      exact ⟨rfl, _, _, _, _, rfl, rfl, fun i hi => by rw [hm]⟩
  rintro T' hp' ⟨x9, x18, x22, row, rfl, rfl, hrow⟩
  refine p_weak [some 0] [1] (wk _ [1] (lT f base conds t more (lvR f base conds) .junk .junk .junk .junk (encU (moreAt conds t more)) .junk .junk) [.cel (cellsF f)] (vals := ?_) (blks := .cons bs_cel .nil)) ?_
  · dsimp only [lT, lvR]
    repeat' (first | exact VSubs.nil | apply VSubs.cons | exact VSub.one (VSub1.junk _) | exact VSub.nlv rfl | exact VSub.one (VSub1.ptr rfl) | exact VSub.one (VSub1.vecf (.head _) rfl moreAt_len.symm (Nat.le_refl _) (Nat.le_of_eq moreAt_len) fun i hi => hrow i (by rw [moreAt_len] at hi; exact hi)))
  unfold lT lvR
  refine s_reg (g_run 2 ?_)
  refine prg_head (v' := u64 (orU' base more)) rfl ?_
  refine g_call (levels_ok hf (base := orU' base more) (conds := moreAt conds t more) (by rw [moreAt_len]; exact hc)) ?_
  rintro v ⟨_, rfl⟩
  refine ⟨rfl, ?_⟩
  rw [moreAt_len]
  obtain ⟨L2, hL2⟩ : ∃ L2, levL f.code (moreAt conds t more) (orU' base more) conds.length = L2 := ⟨_, rfl⟩
  have hl2 : L2.length = f.code.length := by rw [← hL2, levL_len]
  have ha2 : ∀ a, a < f.code.length → L2.getD a 0 = levA f.code (moreAt conds t more) (orU' base more) a conds.length := fun a h => by rw [← hL2]; exact levL_at h
  rw [hL2]
  unfold encU
  rw [hl2]
  refine g_end ?_
  refine s_ass (s_run ?_)
  refine s_loop (fun a => a ≤ f.code.length) (fun a => f.code.length - a) (fun a => lT f base conds t more (lvR f base conds) .junk .junk .junk .junk .junk (.frz 1 f.code.length f.code.length (rowI .u64 L2)) (i64 (a : Nat))) (fun _ => [.cel (cellsF f)]) 0 (Nat.zero_le _) (σ := [some 0]) (fz := []) (wk _ [] _ _ (vals := ?_) (blks := .cons bs_cel .nil)) ?_
  · dsimp only [lT, lvR]
    repeat' (first | exact VSubs.nil | apply VSubs.cons | exact VSub.one (VSub1.junk _) | exact VSub.nlv rfl | exact VSub.one (VSub1.ptr rfl))
  intro a ha
  unfold lT lvR encU
  refine s_ass (s_run ?_)
  refine s_cond (fun h1 => ?_) (fun h1 => ?_)
  · simp only [decide_eq_true_eq] at h1
    have ha1 : a < f.code.length := by omega
    obtain ⟨m1, m2⟩ := lev_more (code := f.code) (a := a) (base := base) (base' := orU' base more) (more := more) (conds := conds) (conds' := moreAt conds t more) (lb_or _ _) (fun k => moreAt_lb k) conds.length
    refine s_skip (s_block ?_)
    refine s_drw (g_run 5 ?_)
    refine prg_head (v' := u64 0) (by
      show PV.s (.int .u64 (andN ((levL f.code conds base conds.length).getD a 0) (L2.getD a 0))) = _
      rw [levL_at ha1, ha2 a ha1, and_0 m1]; rfl) ?_
    refine g_run 1 ?_
    refine prg_head (v' := .s (.bool false)) rfl ?_
    refine g_run 11 ?_
    refine prg_head (v' := u64 0) (by
      show PV.s (.int .u64 (andN (L2.getD a 0) (orU' ((levL f.code conds base conds.length).getD a 0) more))) = _
      rw [levL_at ha1, ha2 a ha1, and_0 m2]; rfl) ?_
    refine g_run 1 ?_
    refine prg_head (v' := .s (.bool false)) rfl ?_
    refine g_end ?_
    refine e_f ?_
    refine p_skip ?_
    refine e_run ?_
    refine lp_next (a + 1) (by omega) (σ := [some 0]) (fz := []) (wk _ [] _ _ (vals := ?_) (blks := .cons bs_cel .nil))
    try dsimp only [lT, lvR]
    repeat' (first | exact VSubs.nil | apply VSubs.cons | exact VSub.one (VSub1.junk _) | exact VSub.nlv rfl | exact VSub.one (VSub1.ptr rfl))
  simp only [decide_eq_false_iff_not] at h1
  refine s_exit ?_
  refine s_run ?_
  exact p_ret fin_v
end Go.Proofs.Ytollibkfagjnaaa.Graph
