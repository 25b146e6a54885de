/- The law on all edges. -/
import Derived.Test.YtdbehmepikhghaaGraphM
set_option linter.unusedVariables false
set_option linter.unusedSimpArgs false
set_option maxRecDepth 10000
namespace Go.Proofs.Ytdbehmepikhghaa.Graph
open Go.Proofs.Ytdbehmepikhghaa.AM
/-- The law's temporaries. -/
def tt (f : Fn) (u : Int) (x8 x9 x10 x11 x12 x13 x14 x20 x27 : PV) : List PV := [encF f, i64 u, .ptr 0 0, .ptr 1 0, .s (.bool false), i64 (f.code.length : Nat), .ptr 3 0, seqF f.code, x8, x9, x10, x11, x12, x13, x14, .junk, .junk, .junk, .junk, .junk, x20, .junk, .junk, .junk, .junk, .junk, .junk, x27, .junk, .junk]
def hd4 (f : Fn) (w : Nat) (row : Nat → List PV) : PH := [.cel (cellsF f), .cel [i64 (w : Nat)], .vec 2 (f.code.length + 1) row true, .cel (lentCells f (.vec 2 2 f.code.length))]
/-- All edges so far, at an address. -/
def wantL (code : List (Int × Int)) (a i : Nat) : List Int := flatE (edgesN code a ++ ((nextL code a).take i).map fun b => ((a : Int), b))
theorem wantL_zero (code : List (Int × Int)) (a : Nat) : wantL code a 0 = flatE (edgesN code a) := by simp [wantL]
theorem wantL_end (code : List (Int × Int)) (a : Nat) : wantL code a (nextL code a).length = flatE (edgesN code (a + 1)) := by
  unfold wantL; rw [List.take_length, edgesN_succ]
theorem wantL_succ {code : List (Int × Int)} {a i : Nat} (hi : i < (nextL code a).length) : wantL code a (i + 1) = wantL code a i ++ [(a : Int), (nextL code a).getD i 0] := by
  unfold wantL
  rw [List.take_succ_eq_append_getElem hi, List.map_append, ← List.append_assoc, flatE_app, getD_at hi]
  rfl
theorem edgesN_len (code : List (Int × Int)) (k : Nat) : (edgesN code k).length ≤ 2 * k := by
  induction k with
  | zero => simp [edgesN]
  | succ k ih => rw [edgesN_succ, List.length_append, List.length_map]; have := nextL_len code k; omega
theorem wantL_len (code : List (Int × Int)) (a i : Nat) : (wantL code a i).length ≤ 4 * a + 4 := by
  unfold wantL
  rw [flatE_len, List.length_append, List.length_map, List.length_take]
  have := edgesN_len code a
  have := nextL_len code a
  omega
theorem two_row {x y : Int} (i : Nat) (hi : i < [x, y].length) : ([i64 x, i64 y].drop (i * 1)).take 1 = rowI .i64 [x, y] i := by
  have : i = 0 ∨ i = 1 := by simp only [List.length_cons, List.length_nil] at hi; omega
  rcases this with rfl | rfl <;> rfl
theorem push2 {xs : List Int} {x y : Int} {i : Nat} (hi : i < xs.length + 2) : (if i < xs.length then rowI .i64 xs i else ([i64 x, i64 y].drop ((i - xs.length) * 1)).take 1) = rowI .i64 (xs ++ [x, y]) i :=
  row1_app (en := i64) (d := 0) (xs := xs) (ys := [x, y]) (g := fun i => ([i64 x, i64 y].drop (i * 1)).take 1) (fun _ _ => rfl) (fun i hi => two_row i hi) hi
theorem graphEdges_ok {f : Fn} (h1 : f.ps.length < 17592186044416) (h2 : f.rs.length < 17592186044416) (hop : ∀ i, in64 (f.code.getD i (0, 0)).1) (harg : ∀ i, in64 (f.code.getD i (0, 0)).2) (u : Int) (hu : in64 u) : PFun E 3 [encF f, i64 u] (valQ (isV (.s (.bool true)))) := by
  refine p_fun ?_
  show PTri E false [] _ [encF f, i64 u, .junk, .junk, .junk, .junk, .junk, .junk, .junk, .junk, .junk, .junk, .junk, .junk, .junk, .junk, .junk, .junk, .junk, .junk, .junk, .junk, .junk, .junk, .junk, .junk, .junk, .junk, .junk, .junk] _ _
  refine s_run ?_
  refine s_run ?_
  refine s_ass (s_run ?_)
  refine s_cond (fun h => ?_) (fun h => ?_)
  · refine s_ass (s_reg ?_)
    refine g_call awake_ok ?_
    rintro v rfl
    refine ⟨rfl, ?_⟩
    refine g_end ?_
    exact s_ret fin_v
  simp only [gt_iff_lt, decide_eq_false_iff_not] at h
  have hn : f.code.length ≤ 200 := by omega
  have hf : Fit f.code := ⟨by omega, hop, harg⟩
  refine s_skip ?_
  refine s_reg (g_run 1 ?_)
  refine prg_call rfl rfl rfl rfl (lentFunction_ok f h1 h2 (by omega)) ?_
  rintro v hpc ⟨rfl, rfl⟩
  refine ⟨rfl, rfl, ?_⟩
  refine g_end ?_
  refine s_reg (g_run 1 ?_)
  refine g_icall (edgesF_ok hf u) ?_
  rintro v hp ⟨rfl, rfl⟩
  unfold heap4
  refine g_end ?_
  refine s_ass (s_run ?_)
  refine s_f (s_skip ?_)
  obtain ⟨w, hw1, hw⟩ : ∃ w : Nat, 1 ≤ w ∧ (if u < 1 then (1 : Int) else u) = w := by
    by_cases h : u < 1
    · exact ⟨1, Nat.le_refl _, by rw [if_pos h]; rfl⟩
    · exact ⟨u.toNat, by omega, by rw [if_neg h]; omega⟩
  have hwb : (w : Int) ≤ 9223372036854775807 := by
    have := hu.2
    rw [← hw]; split
    · omega
    · exact this
  refine s_cut (fun T hp => TSub T (tt f u .junk .junk .junk .junk .junk .junk .junk .junk .junk) ∧ hp = [.cel (cellsF f), .cel [i64 w], .vec 2 (f.code.length + 1) (rowC (markC f.code)) true, .cel (lentCells f (.vec 2 2 f.code.length))]) ?_ ?_
  · refine s_run ?_
    refine e_cond (fun h => ?_) (fun h => ?_)
    · simp only [decide_eq_true_eq] at h
      rw [if_pos h] at hw
      refine e_run ?_
      exact ⟨rfl, by unfold tt; repeat' (first | exact TSub.nil | apply TSub.same | apply TSub.junk), by rw [← hw]; rfl⟩
    · simp only [decide_eq_false_iff_not] at h
      rw [if_neg h] at hw
      refine p_skip ?_
      exact ⟨rfl, by unfold tt; repeat' (first | exact TSub.nil | apply TSub.same | apply TSub.junk), by rw [← hw]⟩
  rintro T hp ⟨hT, rfl⟩
  refine p_tsub hT ?_
  clear hT T
  unfold tt
  refine s_run ?_
  refine s_ass (s_run ?_)
  have hel := edgesL_len f.code
  refine s_cut (fun T hp => ∃ kk : Nat, T = tt f u (.ptr 4 0) .junk .junk .junk .junk .junk .junk (seqF f.code) .junk ∧ hp = hd4 f w (rowC (markC f.code)) ++ [.cel [i64 (kk : Nat)], .dead] ∧ (kk = w ∨ kk = (edgesL f.code).length)) ?_ ?_
  · refine p_block ?_
    refine p_tsub (T' := tt f u (.ptr 4 0) .junk .junk .junk .junk .junk .junk (seqF f.code) .junk) (by unfold tt; repeat' (first | exact TSub.nil | apply TSub.same | apply TSub.junk)) ?_
    refine p_range [5, 0, 1, 3, 4] (PCall.mono (edges1_ok hf [0, 1, 3, 4] (S := fun k hp => k < w ∧ hp = hd4 f w (rowC (markC f.code)) ++ [.cel [i64 (k : Nat)], lrec c3.body 0 (tt f u (.ptr 4 0) .junk .junk .junk .junk .junk .junk (seqF f.code) .junk) .ready none]) (S' := fun hp => hp = hd4 f w (rowC (markC f.code)) ++ [.cel [i64 (w : Nat)], lrec c3.body 0 (tt f u (.ptr 4 0) .junk .junk .junk .junk .junk .junk (seqF f.code) .junk) .done (some (.exit 0))]) ?_ ⟨by omega, rfl⟩) ?_)
    · rintro k hp x y he ⟨hk, rfl⟩
      refine p_round (by decide) rfl rfl ?_
      refine p_skip ⟨rfl, _, rfl, ?_⟩
      refine p_block (s_run ?_)
      refine s_run ?_
      refine e_cond (fun h => ?_) (fun h => ?_)
      · simp only [beq_iff_eq] at h
        refine p_exit ⟨_, rfl, .inr ⟨rfl, ?_⟩⟩
        have : w = k + 1 := by omega
        subst this
        rfl
      · simp only [beq_eq_false_iff_ne, ne_eq] at h
        exact p_skip ⟨_, rfl, .inl ⟨rfl, by omega, rfl⟩⟩
    · rintro v hp (⟨hk, rfl⟩ | rfl)
      · exact ⟨_, .norm, rfl, rfl, _, rfl, rfl, .inr rfl⟩
      · exact ⟨_, .exit 0, rfl, rfl, _, rfl, rfl, .inl rfl⟩
  rintro T hp ⟨kk, rfl, rfl, hkk⟩
  have vsl : ∀ {σ : Sig} {fz : List Nat} {hp : PH}, σ[2]? = some (some 2) → VSubs σ fz hp (lentCells f (.vec 2 2 f.code.length)) (lentCells f (.vec 2 2 f.code.length)) := fun h => vs_lent h
  -- the code written over
  refine s_ass (s_run ?_)
  refine s_loop (ι := Nat × (Nat → List PV)) (fun i => i.1 ≤ f.code.length) (fun i => f.code.length - i.1) (fun i => tt f u (.ptr 4 0) (i64 (i.1 : Nat)) .junk .junk .junk .junk .junk .junk .junk) (fun i => hd4 f w i.2 ++ [.cel [i64 (kk : Nat)]]) (0, rowC (markC f.code)) (Nat.zero_le _) (σ := [some 0, some 1, some 2, some 3, some 4]) (wk _ [] _ _ (blks := .cons bs_cel (.cons bs_cel (.cons bs_same (.cons (.cel rfl (by decide) rfl (vsl rfl)) (.cons bs_cel .nil)))))) ?_
  · rintro ⟨i, row⟩ hi
    simp only at hi
    refine s_ass (s_run ?_)
    refine s_cond (fun h => ?_) (fun h => ?_)
    · simp only [decide_eq_true_eq] at h
      refine s_skip (s_block (e_run ?_))
      refine e_run ?_
      exact lp_next (i := (i, row)) (i + 1, _) (by show i + 1 ≤ f.code.length; omega) (σ := [some 0, some 1, some 2, some 3, some 4]) (wk _ [] _ _ (blks := .cons bs_cel (.cons bs_cel (.cons bs_same (.cons (.cel rfl (by decide) rfl (vsl rfl)) (.cons bs_cel .nil))))))
    · refine s_exit ?_
      -- all edges, by the document
      refine s_run ?_
      refine s_ass (s_run ?_)
      have big : ∀ a i, a < f.code.length → (wantL f.code a i).length ≤ 1000 := fun a i ha => by have := wantL_len f.code a i; omega
      refine s_loop (fun a => a ≤ f.code.length) (fun a => f.code.length - a) (fun a => tt f u (.ptr 4 0) .junk (.vec 1 5 (flatE (edgesN f.code a)).length) (i64 (a : Nat)) .junk .junk .junk .junk .junk) (fun a => hd4 f w row ++ [.cel [i64 (kk : Nat)], .vec 1 (flatE (edgesN f.code a)).length (rowI .i64 (flatE (edgesN f.code a))) true]) 0 (Nat.zero_le _) (σ := [some 0, some 1, some 2, some 3, some 4, none]) (wk _ [] _ _ (blks := .cons bs_cel (.cons bs_cel (.cons bs_same (.cons (.cel rfl (by decide) rfl (vsl rfl)) (.cons bs_cel (.cons (.nil rfl) .nil))))))) ?_
      intro a ha
      refine s_ass (s_run ?_)
      refine s_cond (fun h => ?_) (fun h => ?_)
      · simp only [decide_eq_true_eq] at h
        have hal : a < f.code.length := by omega
        refine s_skip (s_block (s_reg (g_run 1 ?_)))
        refine g_call (rnext_ok hf (a : Nat)) ?_
        rintro v rfl
        refine ⟨rfl, ?_⟩
        rw [nextI_nat hal]
        refine g_end ?_
        refine s_run ?_
        have hl2 := nextL_len f.code a
        refine e_loop (fun i => i ≤ (nextL f.code a).length) (fun i => (nextL f.code a).length - i) (fun i => tt f u (.ptr 4 0) .junk (.vec 1 5 (wantL f.code a i).length) (i64 (a : Nat)) (encI (nextL f.code a)) (i64 (i : Nat)) .junk .junk .junk) (fun i => hd4 f w row ++ [.cel [i64 (kk : Nat)], .vec 1 (wantL f.code a i).length (rowI .i64 (wantL f.code a i)) true]) 0 (Nat.zero_le _) (σ := [some 0, some 1, some 2, some 3, some 4, some 5]) (wk _ [] _ _ (vals := ?_) (blks := ?_)) ?_
        · rw [wantL_zero]
          unfold tt
          repeat' (first | exact VSubs.nil | apply VSubs.cons | exact VSub.one (VSub1.junk _) | exact VSub.nlv rfl | exact VSub.one (VSub1.vec rfl rfl) | exact VSub.one (VSub1.ptr rfl))
        · rw [wantL_zero]
          exact .cons bs_cel (.cons bs_cel (.cons bs_same (.cons (.cel rfl (by decide) rfl (vsl rfl)) (.cons bs_cel (.cons bs_same .nil)))))
        intro i hi
        refine s_ass (s_run ?_)
        refine s_cond (fun h => ?_) (fun h => ?_)
        · simp only [decide_eq_true_eq] at h
          have hil : i < (nextL f.code a).length := by omega
          have hb := big a i hal
          refine s_skip (s_block (e_run ?_ (hq := by simp only [room, true_and, and_true]; omega)))
          refine e_run ?_
          have hs := wantL_succ hil
          have hlen : (wantL f.code a (i + 1)).length = (wantL f.code a i).length + 2 := by rw [hs]; simp
          refine lp_next (i + 1) (by omega) (σ := [some 0, some 1, some 2, some 3, some 4, some 7]) (wk _ [] _ _ (vals := ?_) (blks := ?_))
          · unfold tt
            repeat' (first | exact VSubs.nil | apply VSubs.cons | exact VSub.one (VSub1.junk _) | exact VSub.nlv rfl | exact VSub.one (VSub1.vec rfl hlen.symm) | exact VSub.one (VSub1.ptr rfl))
          · refine .cons bs_cel (.cons bs_cel (.cons bs_same (.cons (.cel rfl (by decide) rfl (vsl rfl)) (.cons bs_cel (.cons (bs_vec hlen fun i' hi' => ?_) .nil)))))
            rw [hs]
            exact push2 (by omega)
        · simp only [decide_eq_false_iff_not] at h
          refine s_exit ?_
          refine e_run ?_
          have hi' : i = (nextL f.code a).length := by omega
          have he := wantL_end f.code a
          rw [← hi'] at he
          have hL := congrArg List.length he
          refine lp_next (a + 1) (by omega) (σ := [some 0, some 1, some 2, some 3, some 4, some 5]) (wk _ [] _ _ (vals := ?_) (blks := ?_))
          · unfold tt
            repeat' (first | exact VSubs.nil | apply VSubs.cons | exact VSub.one (VSub1.junk _) | exact VSub.nlv rfl | exact VSub.one (VSub1.vec rfl hL) | exact VSub.one (VSub1.ptr rfl))
          · refine .cons bs_cel (.cons bs_cel (.cons bs_same (.cons (.cel rfl (by decide) rfl (vsl rfl)) (.cons bs_cel (.cons (bs_vec hL.symm fun i' hi' => congrFun (congrArg (rowI .i64) he) i') .nil)))))
      · simp only [decide_eq_false_iff_not] at h
        have han : a = f.code.length := by omega
        subst han
        refine s_exit ?_
        have hfl := flatE_len (edgesL f.code)
        refine s_run ?_
        refine p_weak [some 0, some 1, some 2, some 3, some 4, some 5, some 6, none] [] (wk _ [] (tt f u (.ptr 4 0) .junk (.vec 1 5 (flatE (edgesL f.code)).length) .junk .junk .junk (.ptr 6 0) .junk .junk) (hd4 f w row ++ [.cel [i64 (kk : Nat)], .vec 1 (flatE (edgesL f.code)).length (rowI .i64 (flatE (edgesL f.code))) true, .cel [.vec 1 7 0], .vec 1 0 (rowI .i64 []) true]) (blks := .cons bs_cel (.cons bs_cel (.cons bs_same (.cons (.cel rfl (by decide) rfl (vsl rfl)) (.cons bs_cel (.cons bs_same (.cons (.cel rfl (by decide) rfl (.cons (.one (.nil rfl)) .nil)) (.cons (.nil rfl) .nil))))))))) ?_
        refine s_ass (s_run ?_)
        refine s_block ?_
        refine p_tsub (T' := tt f u (.ptr 4 0) .junk (.vec 1 5 (flatE (edgesL f.code)).length) .junk .junk .junk (.ptr 6 0) .junk (seqF f.code)) (by unfold tt; repeat' (first | exact TSub.nil | apply TSub.same | apply TSub.junk)) ?_
        refine p_range [8, 0, 1, 3, 4, 5, 6] (PCall.mono (edges1_ok hf [0, 1, 3, 4, 5, 6] (S := fun k hp => hp = hd4 f w row ++ [.cel [i64 (kk : Nat)], .vec 1 (flatE (edgesL f.code)).length (rowI .i64 (flatE (edgesL f.code))) true, .cel [.vec 1 7 (flatE ((edgesL f.code).take k)).length], .vec 1 (flatE ((edgesL f.code).take k)).length (rowI .i64 (flatE ((edgesL f.code).take k))) true, lrec c3.body 1 (tt f u (.ptr 4 0) .junk (.vec 1 5 (flatE (edgesL f.code)).length) .junk .junk .junk (.ptr 6 0) .junk (seqF f.code)) .ready none]) (S' := fun _ => False) ?_ rfl) ?_)
        · rintro k hp x y he rfl
          have hkl := (List.getElem?_eq_some_iff.1 he).1
          have htk : (edgesL f.code).take (k + 1) = (edgesL f.code).take k ++ [(x, y)] := by
            rw [List.take_add_one, he]; rfl
          have hlt : (flatE ((edgesL f.code).take k)).length ≤ 4 * f.code.length := by
            rw [flatE_len, List.length_take]; omega
          have hs : flatE ((edgesL f.code).take (k + 1)) = flatE ((edgesL f.code).take k) ++ [x, y] := by rw [htk, flatE_app]; rfl
          have hlen : (flatE ((edgesL f.code).take (k + 1))).length = (flatE ((edgesL f.code).take k)).length + 2 := by rw [hs]; simp
          refine p_round (by decide) rfl rfl ?_
          refine s_run ?_
          refine e_run ?_
          refine ⟨rfl, _, rfl, ?_⟩
          refine p_post (p_block (e_run ?_ (hq := by simp only [room, true_and, and_true]; omega)))
          let LR := lrec c3.body 1 (tt f u (.ptr 4 0) .junk (.vec 1 5 (flatE (edgesL f.code)).length) .junk .junk .junk (.ptr 6 0) .junk (seqF f.code)) .busy none
          refine ⟨[some 0, some 1, some 2, some 3, some 4, some 5, some 6, some 10, some 8], [], [.junk, .junk, .junk, .junk, .junk, .junk, .junk, .junk, .junk, .junk, .junk, .junk, .junk, .junk, .junk, .junk, .junk, .junk, .junk, .junk, .junk, .junk, .junk, .junk, .junk, .junk, .junk, .junk, .junk, .junk], hd4 f w row ++ [.cel [i64 (kk : Nat)], .vec 1 (flatE (edgesL f.code)).length (rowI .i64 (flatE (edgesL f.code))) true, .cel [.vec 1 7 (flatE ((edgesL f.code).take (k + 1))).length], .vec 1 (flatE ((edgesL f.code).take (k + 1))).length (rowI .i64 (flatE ((edgesL f.code).take (k + 1)))) true, LR], wk _ [] _ _ (blks := ?_), ?_⟩
          · refine .cons bs_cel (.cons bs_cel (.cons bs_same (.cons (.cel rfl (by decide) rfl (vsl rfl)) (.cons bs_cel (.cons bs_same (.cons (.cel rfl (by decide) rfl (.cons (.one (.vec rfl hlen.symm)) .nil)) (.cons (bs_vec hlen fun i hi => ?_) (.cons (.loop rfl (by decide) rfl ?_) .nil))))))))
            · rw [hs]
              exact push2 (by omega)
            · unfold tt
              repeat' (first | exact VSubs.nil | apply VSubs.cons | exact VSub.one (VSub1.junk _) | exact VSub.nlv rfl | exact VSub.one (VSub1.vec rfl rfl) | exact VSub.one (VSub1.ptr rfl))
          · exact ⟨_, rfl, .inl ⟨rfl, rfl⟩⟩
        · rintro v hp (rfl | h')
          · refine ⟨_, .norm, rfl, ?_⟩
            rw [List.take_length]
            refine p_weak [some 0, some 1, some 2, some 3, some 4, some 6] [5, 7] (wk [some 0, some 1, some 2, some 3, some 4, some 6] [5, 7] (tt f u (.ptr 4 0) .junk (encI (flatE (edgesL f.code))) .junk .junk .junk (.ptr 5 0) .junk .junk) (hd4 f w row ++ [.cel [i64 (kk : Nat)], .cel [encI (flatE (edgesL f.code))]]) (vals := ?_) (blks := ?_)) ?_
            · unfold tt
              repeat' (first | exact VSubs.nil | apply VSubs.cons | exact VSub.one (VSub1.junk _) | exact VSub.nlv rfl | exact VSub.one (VSub1.vecf (by decide) rfl rfl (Nat.le_refl _) (Nat.le_refl _) fun i hi => rfl) | exact VSub.one (VSub1.ptr rfl))
            · exact .cons bs_cel (.cons bs_cel (.cons bs_same (.cons (.cel rfl (by decide) rfl (vs_lent rfl)) (.cons bs_cel (.cons (.cel rfl (by decide) rfl (.cons (.one (.vecf (by decide) rfl rfl (Nat.le_refl _) (Nat.le_refl _) fun i hi => rfl)) .nil)) .nil)))))
            refine s_reg (g_run 1 ?_)
            refine g_call (ints_ok (flatE (edgesL f.code)) (flatE (edgesL f.code)) (by omega)) ?_
            rintro v rfl
            refine ⟨rfl, ?_⟩
            refine prg_head (v' := .s (.bool true)) (by simp) ?_
            refine g_run 3 ?_
            by_cases hkw : kk = w
            · refine prg_head (v' := .s (.bool true)) (by simp [hkw]) ?_
              refine g_run 8 ?_
              refine g_call awake_ok ?_
              rintro v rfl
              refine ⟨rfl, ?_⟩
              refine g_end ?_
              exact p_ret fin_v
            · have hke : kk = (edgesL f.code).length := by omega
              refine prg_head (v' := .s (.bool false)) (by simp; omega) ?_
              refine g_run 6 ?_
              refine prg_head (v' := .s (.bool true)) (by simp; omega) ?_
              refine g_run 2 ?_
              refine g_call awake_ok ?_
              rintro v rfl
              refine ⟨rfl, ?_⟩
              refine g_end ?_
              exact p_ret fin_v
          · exact h'.elim
end Go.Proofs.Ytdbehmepikhghaa.Graph
