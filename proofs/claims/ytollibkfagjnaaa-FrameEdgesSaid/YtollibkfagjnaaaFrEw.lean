/- The law on edges. -/
import Derived.Test.YtollibkfagjnaaaFrEd
import Derived.Test.YtollibkfagjnaaaShapeKitEG
set_option linter.unusedVariables false
set_option linter.unusedSimpArgs false
set_option maxRecDepth 10000
namespace Go.Proofs.Ytollibkfagjnaaa.Shape.Kit
open Go.Proofs.Ytollibkfagjnaaa.AM
theorem fault_ne (a b c a' b' c' : Int) (hne : ¬ (a = a' ∧ b = b' ∧ c = c')) : pureRun Try.prog (Op.equal 41 (.agg #[.int .i64 a, .int .i64 b, .int .i64 c]) (.agg #[.int .i64 a', .int .i64 b', .int .i64 c'])) = some false := by
  have u := pureRun_under _ _ _ Try.underlying41
  have h2 : Try.prog.stoodInHeld 41 = false := by kernel_rfl
  simp only [Op.equal]
  rw [show Op.maxDepth = 9998 + 1 + 1 from rfl, Op.equalIn]
  have n1 : ("Err" : String) ≠ "_" := by decide
  have n2 : ("Func" : String) ≠ "_" := by decide
  have n3 : ("At" : String) ≠ "_" := by decide
  by_cases ha : a = a'
  · subst ha
    by_cases hb : b = b'
    · subst hb
      have hc : (c == c') = false := by rw [beq_eq_false_iff_ne]; intro h; exact hne ⟨rfl, rfl, h⟩
      simp only [pureRun_bind, pureRun_prog, pureRun_pure, h2, u, Option.bind_some, Bool.false_eq_true, if_false, List.forIn_toArray, List.forIn_cons, List.forIn_nil, ne_eq, n1, n2, n3, not_false_eq_true, if_true, eq_kind _ _ Try.underlying39, eq_kind _ _ Try.underlying3, part_int _ _ Try.underlying39 #[.int .i64 a, .int .i64 b, .int .i64 c] 0 (.int .i64 a) rfl, part_int _ _ Try.underlying3 #[.int .i64 a, .int .i64 b, .int .i64 c] 1 (.int .i64 b) rfl, part_int _ _ Try.underlying3 #[.int .i64 a, .int .i64 b, .int .i64 c] 2 (.int .i64 c) rfl,
        part_int _ _ Try.underlying39 #[.int .i64 a, .int .i64 b, .int .i64 c'] 0 (.int .i64 a) rfl, part_int _ _ Try.underlying3 #[.int .i64 a, .int .i64 b, .int .i64 c'] 1 (.int .i64 b) rfl, part_int _ _ Try.underlying3 #[.int .i64 a, .int .i64 b, .int .i64 c'] 2 (.int .i64 c') rfl, beq_self_eq_true, Bool.not_true, hc, Bool.not_false]
    · have hb' : (b == b') = false := by rw [beq_eq_false_iff_ne]; exact hb
      simp only [pureRun_bind, pureRun_prog, pureRun_pure, h2, u, Option.bind_some, Bool.false_eq_true, if_false, List.forIn_toArray, List.forIn_cons, List.forIn_nil, ne_eq, n1, n2, n3, not_false_eq_true, if_true, eq_kind _ _ Try.underlying39, eq_kind _ _ Try.underlying3, part_int _ _ Try.underlying39 #[.int .i64 a, .int .i64 b, .int .i64 c] 0 (.int .i64 a) rfl, part_int _ _ Try.underlying3 #[.int .i64 a, .int .i64 b, .int .i64 c] 1 (.int .i64 b) rfl,
        part_int _ _ Try.underlying39 #[.int .i64 a, .int .i64 b', .int .i64 c'] 0 (.int .i64 a) rfl, part_int _ _ Try.underlying3 #[.int .i64 a, .int .i64 b', .int .i64 c'] 1 (.int .i64 b') rfl, beq_self_eq_true, Bool.not_true, hb', Bool.not_false]
  · have ha' : (a == a') = false := by rw [beq_eq_false_iff_ne]; exact ha
    simp only [pureRun_bind, pureRun_prog, pureRun_pure, h2, u, Option.bind_some, Bool.false_eq_true, if_false, List.forIn_toArray, List.forIn_cons, List.forIn_nil, ne_eq, n1, n2, n3, not_false_eq_true, if_true, eq_kind _ _ Try.underlying39, part_int _ _ Try.underlying39 #[.int .i64 a, .int .i64 b, .int .i64 c] 0 (.int .i64 a) rfl, part_int _ _ Try.underlying39 #[.int .i64 a', .int .i64 b', .int .i64 c'] 0 (.int .i64 a') rfl, ha', Bool.not_false]
theorem fault_neq (a b c a' b' c' : Int) (x y : Operand) : aflat Try.prog (.bin .neq 41 x y) [.agg #[.int .i64 a, .int .i64 b, .int .i64 c], .agg #[.int .i64 a', .int .i64 b', .int .i64 c']] = some (.bool (decide (¬ (a = a' ∧ b = b' ∧ c = c')))) := by
  have h1 : Try.prog.eqGuardType Try.prog.depth 41 = false := by kernel_rfl
  have he : pureRun Try.prog (Op.equal 41 (.agg #[.int .i64 a, .int .i64 b, .int .i64 c]) (.agg #[.int .i64 a', .int .i64 b', .int .i64 c'])) = some (decide (a = a' ∧ b = b' ∧ c = c')) := by
    by_cases h : a = a' ∧ b = b' ∧ c = c'
    · obtain ⟨rfl, rfl, rfl⟩ := h
      rw [decide_eq_true ⟨rfl, rfl, rfl⟩]
      exact triple_eq 41 39 3 3 .i64 .i64 .i64 _ Try.underlying41 _ _ _ rfl (by decide) (by decide) (by decide) ⟨rfl, rfl⟩ ⟨rfl, rfl⟩ ⟨rfl, rfl⟩ Try.underlying39 Try.underlying3 Try.underlying3 (by kernel_rfl) a b c
    · rw [decide_eq_false h]
      exact fault_ne a b c a' b' c' h
  simp only [aflat]
  rw [if_pos (by simp [flat, flat1])]
  simp only [flatSem, eqGuard, binOp]
  simp only [pureRun_bind, pureRun_prog, pureRun_pure, h1, he, Option.bind_some, Bool.not_true, Bool.false_eq_true, if_false, Bool.not_false, if_true]
  rw [decide_not]
  rfl
theorem known_ok : PFun E 27 [] (valQ (isV (.s (.bool true)))) := by
  intro F ρ H avs hr ha
  have : avs = [] := List.eq_nil_of_length_eq_zero (by rw [← ha.len]; rfl)
  subst this
  exact runs_done (fun _ => rfl) ⟨F, ρ, [], .s (.bool true), .refl, fun _ _ _ h => h, hr, .fr (.s _), rfl, rfl⟩
theorem effectE_ok {m : Md} (hf : MdFits m) (f a : Int) : PFun E 22 [encM m, i64 f, i64 a] (valQ (isV (.tup [i64 (effT m f a).1, i64 (effT m f a).2]))) := by
  refine p_fun ?_
  show PTri E false [] _ [encM m, i64 f, i64 a, .junk, .junk, .junk, .junk] _ _
  refine s_run ?_
  refine s_ass (s_reg (g_run 1 ?_))
  refine g_call (En.address_ok hf f a) ?_
  rintro v rfl
  refine ⟨rfl, ?_⟩
  refine g_end ?_
  refine s_cond (fun h => ?_) (fun h => ?_)
  · have ht : thereB m f a = false := by simpa using h
    rw [show effT m f a = (0, 0) by simp [effT, ht]]
    refine s_ass (s_run ?_)
    exact s_ret fin_v
  have ht : thereB m f a = true := by simpa using h
  obtain ⟨hok, i, j, rfl, rfl, hi, hj⟩ := there_of ht
  obtain ⟨op, A, hx⟩ : ∃ op A, (fnAt m i).code.getD j (0, 0) = (op, A) := ⟨_, _, rfl⟩
  have hE : effT m (i : Int) (j : Int) = effS m i op A := by
    unfold effT
    rw [if_pos ht, Int.toNat_natCast, Int.toNat_natCast, hx]
  rw [hE]
  obtain ⟨hop, hA⟩ := op_ok hok hi hj hx
  have hj' : j < (m.fns.getD i default).code.length := hj
  have hcg : (m.fns.getD i default).code.getD j (0, 0) = (op, A) := hx
  refine s_skip ?_
  refine s_drw (g_run 8 ?_ (hq := by simp only [true_and, and_true]; omega))
  rw [hcg]
  refine g_call (En.effect_ok hf hi op A hA) ?_
  rintro v rfl
  refine ⟨rfl, ?_⟩
  refine g_end ?_
  exact p_ret fin_v
noncomputable def uE (m : Md) (i n : Nat) (hs : List Int) (a x9 x10 x11 k : PV) : List PV := [.junk, i64 (i : Nat), .fptr 4 1 (fun _ => cellsM m) 0 0, .s (.bool false), encI hs, .junk, .fptr 6 1 (fun _ => cellsF (fnAt m i)) 0 0, encB (Gr.reachL (fnAt m i).code 0), a, x9, x10, x11, k, .junk, .junk, .junk, .junk, .junk, .junk, .junk, .junk, .junk]
theorem frameEdges_ok {m : Md} (hg : MdGood m) (f : Int) (hf : in64 f) : PFun E 6 [encM m, i64 f] (valQ (isV (.s (.bool true)))) := by
  refine p_fun ?_
  show PTri E false [] _ [encM m, i64 f, .junk, .junk, .junk, .junk, .junk, .junk, .junk, .junk, .junk, .junk, .junk, .junk, .junk, .junk, .junk, .junk, .junk, .junk, .junk, .junk] _ _
  refine s_run ?_
  refine s_ass (s_reg ?_)
  refine g_call known_ok ?_
  rintro v rfl
  refine ⟨rfl, ?_⟩
  refine g_end ?_
  refine s_f (s_skip ?_)
  refine s_reg (g_run 1 ?_)
  refine g_call (lentModule_ok hg.fits) ?_
  rintro v rfl
  refine ⟨rfl, ?_⟩
  refine g_call (heights_ok hg.fits hg.gr f hf) ?_
  rintro v ⟨l, e, g, b, rfl, hr⟩
  refine ⟨rfl, ?_⟩
  refine g_end ?_
  refine s_ass (s_reg (g_run 2 ?_))
  refine prg_flat (v := .bool (decide (¬ (e = 0 ∧ g = 0 ∧ b = 0)))) rfl rfl rfl (fault_neq e g b 0 0 0 _ _) ?_
  refine g_end ?_
  have hcase : (e ≠ 0 ∧ l = []) ∨ ((e = 0 ∧ g = 0 ∧ b = 0) ∧ ∃ i : Nat, OkM m ∧ f = i ∧ i < m.fns.length ∧ Hts m i (fnAt m i).code.length l) := by
    cases hr with
    | shape hc h => exact .inl ⟨h, rfl⟩
    | arg hk h => exact .inl ⟨by decide, rfl⟩
    | bad hk hf hi h => exact .inl ⟨h.bad_ne _ _ rfl, rfl⟩
    | @ok _ i hk hf hi h => exact .inr ⟨⟨rfl, rfl, rfl⟩, i, hk, hf, hi, hts_of hk hi rfl h⟩
  rcases hcase with ⟨he, rfl⟩ | ⟨⟨rfl, rfl, rfl⟩, i, hok, rfl, hi, hH⟩
  · rw [show decide (¬ (e = 0 ∧ g = 0 ∧ b = 0)) = true from decide_eq_true fun h => he h.1]
    refine s_t (s_ass (s_run ?_))
    exact s_ret fin_v
  rw [show decide (¬ ((0 : Int) = 0 ∧ (0 : Int) = 0 ∧ (0 : Int) = 0)) = false by decide]
  refine s_f (s_skip ?_)
  obtain ⟨z1, z2, z3, z4, z5, z6, z7, z8⟩ := ok_size hok hi
  obtain ⟨n, hn⟩ : ∃ n, (fnAt m i).code.length = n := ⟨_, rfl⟩
  have hn' : (m.fns.getD i default).code.length = n := hn
  rw [hn] at z5 z6 hH
  have hll := hH.len
  refine s_run ?_
  refine p_weak [] [0, 2] (T' := uE m i n l .junk .junk .junk .junk .junk |>.set 7 .junk) (hp' := []) (wk _ _ _ _ (vals := ?_)) ?_
  · refine .cons (.one (.junk _)) (.cons (.nlv rfl) (.cons (.one ?_) (.cons (.nlv rfl) (.cons (.nlv rfl) (.cons (.one (.junk _)) (.cons (.one ?_) ?_))))))
    · exact .ptrf (.head _) rfl (by omega) rfl (by simp [cellsM]) rfl fun j hj => by
        have : j = 0 := by omega
        subst this; rfl
    · exact .ptrf (.tail _ (.head _)) rfl (by omega) rfl (by simp [cellsF]) rfl fun j hj => by
        have : j = 0 := by omega
        subst this; rfl
    · repeat' (first | exact VSubs.nil | apply VSubs.cons | exact VSub.one (VSub1.junk _))
  unfold uE
  refine s_ass (s_reg (g_run 4 ?_))
  rw [hn, hll]
  refine g_run 1 ?_
  refine prg_head (v' := .s (.bool false)) (by simp) ?_
  refine g_run 3 ?_ (hq := by simp only [true_and, and_true]; omega)
  rw [hH.zero]
  refine g_end ?_
  refine s_f (s_skip ?_)
  refine s_reg (g_run 1 ?_)
  refine g_call (Gr.reach_ok (f := toG (fnAt m i)) (hg.gr hok i hi) 0) ?_
  rintro v rfl
  refine ⟨rfl, ?_⟩
  refine g_end ?_
  have hrl : (Gr.reachL (fnAt m i).code 0).length = n + 1 := by rw [Gr.reachL_len, hn]
  refine s_ass (s_run ?_)
  refine s_loop (ι := Nat) (fun a => a ≤ n) (fun a => n - a) (fun a => uE m i n l (i64 (a : Nat)) .junk .junk .junk .junk) (fun _ => []) 0 (Nat.zero_le _) (σ := []) (fz := []) (wk _ _ _ _) ?_
  intro a ha
  unfold uE
  refine s_ass (s_run ?_)
  refine s_cond (fun h => ?_) (fun h => ?_)
  rotate_left
  · refine s_exit ?_
    refine s_run ?_
    exact p_ret fin_v
  simp only [decide_eq_true_eq] at h
  have han : a < n := by omega
  obtain ⟨ht, hht⟩ : ∃ ht, l.getD a 0 = ht := ⟨_, rfl⟩
  have hlo := hH.lo a
  have hhi := hH.hi a
  have hre := hH.reach a han
  rw [hht] at hlo hhi hre
  have htop := hH.top a han
  rw [hht] at htop
  refine s_skip (s_block ?_)
  refine s_ass (s_drw (g_run 2 ?_ (hq := by simp only [true_and, and_true]; omega)))
  rw [hht]
  refine g_run 3 ?_ (hq := by simp only [true_and, and_true]; omega)
  obtain ⟨ra, hra⟩ : ∃ ra, (Gr.reachL (fnAt m i).code 0).getD a false = ra := ⟨_, rfl⟩
  rw [hra] at hre ⊢
  refine g_run 1 ?_
  refine prg_head (v' := .s (.bool false)) ?_ ?_
  · by_cases h0 : 0 ≤ ht
    · rw [hre.1 h0]; simp [h0]
    · have : ra = false := by
        cases ra with
        | false => rfl
        | true => exact absurd (hre.2 rfl) h0
      rw [this]; simp; omega
  refine g_run 4 ?_ (hq := by simp only [true_and, and_true]; omega)
  rw [hht]
  refine g_run 3 ?_
  refine prg_head (v' := .s (.bool false)) ?_ ?_
  · have : ¬ ht > (fnAt m i).stk := by
      by_cases h0 : 0 ≤ ht
      · have := htop h0; omega
      · omega
    rw [decide_eq_false this]
  refine g_end ?_
  refine s_f (s_skip ?_)
  refine s_ass (s_reg (g_run 2 ?_ (hq := by simp only [true_and, and_true]; omega)))
  rw [hht]
  refine g_end ?_
  refine s_cond (fun h0 => ?_) (fun h0 => ?_)
  · refine s_exit ?_
    refine e_run ?_
    refine lp_next (a + 1) (by omega) (σ := []) (fz := []) (wk _ _ _ _)
  simp only [decide_eq_false_iff_not] at h0
  have ht0 : 0 ≤ ht := by omega
  have hal : a < (fnAt m i).code.length := by omega
  obtain ⟨q1, q2, q3, q4⟩ := eff_small hok hi hal
  have hchk := hH.chk a han (by rw [hht]; exact ht0)
  have hnext := hH.next a han (by rw [hht]; exact ht0)
  rw [hht] at hchk hnext
  obtain ⟨c1, c2, c3⟩ := chk_zero hchk
  refine s_skip ?_
  refine s_reg (g_run 1 ?_)
  refine g_call (effectE_ok hg.fits (i : Nat) (a : Nat)) ?_
  rintro v rfl
  refine ⟨rfl, ?_⟩
  rw [effT_at hok hi hal]
  refine g_end ?_
  obtain ⟨P, hP⟩ : ∃ P, (effH m i a).1 = P := ⟨_, rfl⟩
  obtain ⟨G, hG⟩ : ∃ G, (effH m i a).2 = G := ⟨_, rfl⟩
  have hLf : leftH m i ht a = ht - P + G := by unfold leftH; rw [hP, hG]
  have hret : opH m i a = 46 → P = ((fnAt m i).rs.length : Nat) := fun h => by rw [← hP]; exact eff_ret h
  rw [hP] at q1 q2 c1 c3 ⊢
  rw [hG] at q3 q4 ⊢
  rw [hLf] at c2 hnext
  refine s_ass ?_
  refine s_cut (fun T' hp' => T' = ((uE m i n l (i64 (a : Nat)) (i64 P) (i64 G) .junk .junk).set 19 (.s (.bool false))) ∧ hp' = []) ?_ ?_
  · refine p_post ?_
    refine e_drw (g_run 2 ?_ (hq := by simp only [true_and, and_true]; omega))
    rw [hht]
    refine g_run 1 ?_
    refine prg_head (v' := .s (.bool false)) (by rw [decide_eq_false c1]) ?_
    refine g_run 4 ?_ (hq := by simp only [true_and, and_true]; omega)
    rw [hht]
    refine g_run 7 ?_
    refine prg_head (v' := .s (.bool false)) ?_ ?_
    · have : ¬ ht - P + G > (m.fns.getD i default).stk := c2
      first | rw [decide_eq_false this] | rw [decide_eq_false c2]
    refine g_run 8 ?_ (hq := by simp only [true_and, and_true]; omega)
    refine prg_head (v' := .s (.bool (decide (opH m i a = 46)))) (congrArg (fun b => PV.s (.bool b)) (by unfold opH; exact Bool.beq_eq_decide_eq _ _)) ?_
    refine prg_split (fun h5 => ?_) (fun h5 => ?_)
    · simp only [decide_eq_true_eq] at h5
      have hP2 := hret h5
      have hhP : ht = P := by
        by_cases e : ht = P
        · exact e
        · exact absurd ⟨h5, e⟩ c3
      refine g_run 5 ?_ (hq := by simp only [true_and, and_true]; omega)
      rw [hht]
      refine g_run 4 ?_
      refine prg_head (v' := .s (.bool false)) ?_ ?_
      · rw [hhP, hP2]; simp
      refine g_end ?_
      exact ⟨[], [], _, _, wk _ _ _ _, rfl, rfl, rfl⟩
    · refine g_end ?_
      exact ⟨[], [], _, _, wk _ _ _ _, rfl, rfl, rfl⟩
  rintro T' hp' ⟨rfl, rfl⟩
  unfold uE
  refine s_f (s_skip ?_)
  obtain ⟨nx, hnx⟩ : ∃ nx, nxH m i a = nx := ⟨_, rfl⟩
  obtain ⟨hn1, hn2⟩ := nx_nat hal
  rw [hnx] at hn1 hn2 hnext
  refine s_reg (g_run 1 ?_)
  refine g_call (Gr.next_ok (f := toG (fnAt m i)) (hg.gr hok i hi) (a : Nat)) ?_
  rintro v rfl
  refine ⟨rfl, ?_⟩
  rw [show Gr.nextI (toG (fnAt m i)).code ((a : Nat) : Int) = natH nx from hn1]
  refine g_end ?_
  have hnl : (natH nx).length = nx.length := natH_len
  have hnx2 : nx.length ≤ 2 := by
    rw [← hnx]; unfold nxH; rw [List.length_map]; exact Gr.nextL_len _ _
  refine s_run ?_
  refine e_loop (ι := Nat) (fun k => k ≤ nx.length) (fun k => nx.length - k) (fun k => uE m i n l (i64 (a : Nat)) (i64 P) (i64 G) (encI (natH nx)) (i64 (k : Nat))) (fun _ => []) 0 (Nat.zero_le _) (σ := []) (fz := []) (wk _ _ _ _) ?_
  intro k hkn
  unfold uE
  refine s_ass (s_run ?_)
  refine s_cond (fun h7 => ?_) (fun h7 => ?_)
  rotate_left
  · refine s_exit ?_
    refine e_run ?_
    exact lp_next (a + 1) (by omega) (σ := []) (fz := []) (wk _ _ _ _)
  simp only [decide_eq_true_eq] at h7
  have hkx : k < nx.length := by omega
  obtain ⟨c, hcx⟩ : ∃ c, nx.getD k 0 = c := ⟨_, rfl⟩
  have hnk := natH_at hkx
  rw [hcx] at hnk
  have hcm : c ∈ nx := by rw [← hcx, List.getD_eq_getElem?_getD, List.getElem?_eq_getElem hkx]; exact List.getElem_mem hkx
  refine s_skip (s_block ?_)
  refine s_cut (fun T' hp' => T' = ((uE m i n l (i64 (a : Nat)) (i64 P) (i64 G) (encI (natH nx)) (i64 (k : Nat))).set 21 (.s (.bool false))) ∧ hp' = []) ?_ ?_
  · refine p_post ?_
    refine e_drw (g_run 2 ?_ (hq := by simp only [true_and, and_true, hnl]; omega))
    rw [hnk]
    refine g_run 1 ?_
    rw [hll]
    refine g_run 1 ?_
    refine prg_split (fun h8 => ?_) (fun h8 => ?_)
    · simp only [decide_eq_true_eq] at h8
      have hcn : c < n := by omega
      refine g_run 5 ?_ (hq := by simp only [true_and, and_true, hnl]; omega)
      rw [hnk]
      refine g_run 2 ?_ (hq := by simp only [true_and, and_true]; omega)
      rw [hnext c hcm hcn]
      refine g_run 4 ?_ (hq := by simp only [true_and, and_true]; omega)
      rw [hht]
      refine g_run 4 ?_ (hq := by simp only [true_and, and_true, in64]; omega)
      refine g_run 1 ?_
      refine prg_head (v' := .s (.bool false)) (by simp) ?_
      refine g_end ?_
      exact ⟨[], [], _, _, wk _ _ _ _, rfl, rfl, rfl⟩
    · refine g_end ?_
      exact ⟨[], [], _, _, wk _ _ _ _, rfl, rfl, rfl⟩
  rintro T' hp' ⟨rfl, rfl⟩
  unfold uE
  refine e_f (p_skip ?_)
  refine e_run ?_
  exact lp_next (k + 1) (by omega) (σ := []) (fz := []) (wk _ _ _ _)
end Go.Proofs.Ytollibkfagjnaaa.Shape.Kit
