/- The document's answer: post-dominators, the nearest one of a table, the tree. -/
import Derived.Test.YtdbehmepikhghaaPtA
set_option linter.unusedVariables false
set_option linter.unusedSimpArgs false
set_option maxRecDepth 10000
namespace Go.Proofs.Ytdbehmepikhghaa.Graph
open Go.Proofs.Ytdbehmepikhghaa.AM Go.Proofs.Ytdbehmepikhghaa.Post
theorem withoutB_len (code : List (Int × Int)) (s w : Int) : (withoutL code s w).length = code.length + 1 := by
  unfold withoutL
  split
  · simp
  · exact reachG_len _ _ _
theorem rdom_ok {f : Fn} (hf : Fit f.code) {q p : Int} (hq : in64 q) (hp : in64 p) : PFun E 39 [encF f, i64 q, i64 p] (valQ (isV (.s (.bool (domI f.code q p))))) := by
  have f1 := hf.len
  refine p_fun ?_
  show PTri E false [] _ [encF f, i64 q, i64 p, .junk, .junk, .junk, .junk, .junk, .junk, .junk] _ _
  refine s_run ?_
  refine s_run ?_
  refine s_ass (s_reg (g_run 1 ?_))
  refine prg_split (fun h1 => ?_) (fun h1 => ?_)
  · simp only [decide_eq_true_eq] at h1
    refine g_end ?_
    refine s_t (s_ass (s_run ?_))
    refine s_ret ?_
    exact fin_v (hv := by rw [domI_out (by omega)]; rfl)
  simp only [decide_eq_false_iff_not] at h1
  refine g_run 3 ?_
  refine prg_split (fun h2 => ?_) (fun h2 => ?_)
  · simp only [gt_iff_lt, decide_eq_true_eq] at h2
    refine g_end ?_
    refine s_t (s_ass (s_run ?_))
    refine s_ret ?_
    exact fin_v (hv := by rw [domI_out (by omega)]; rfl)
  simp only [gt_iff_lt, decide_eq_false_iff_not] at h2
  refine g_run 3 ?_
  refine prg_split (fun h3 => ?_) (fun h3 => ?_)
  · simp only [decide_eq_true_eq] at h3
    refine g_end ?_
    refine s_t (s_ass (s_run ?_))
    refine s_ret ?_
    exact fin_v (hv := by rw [domI_out (by omega)]; rfl)
  simp only [decide_eq_false_iff_not] at h3
  refine g_run 4 ?_
  refine prg_split (fun h4 => ?_) (fun h4 => ?_)
  · simp only [gt_iff_lt, decide_eq_true_eq] at h4
    refine g_end ?_
    refine s_t (s_ass (s_run ?_))
    refine s_ret ?_
    exact fin_v (hv := by rw [domI_out (by omega)]; rfl)
  simp only [gt_iff_lt, decide_eq_false_iff_not] at h4
  obtain ⟨q, rfl⟩ : ∃ a : Nat, q = a := ⟨q.toNat, by omega⟩
  obtain ⟨p, rfl⟩ : ∃ a : Nat, p = a := ⟨p.toNat, by omega⟩
  rw [domI_nat (by omega) (by omega)]
  obtain ⟨d, hd⟩ : ∃ d, domB f.code q p = d := ⟨_, rfl⟩
  have hd' := hd
  unfold domB at hd'
  rw [hd]
  refine g_end ?_
  refine s_f (s_skip ?_)
  refine s_reg (g_run 1 ?_)
  refine g_call (rreach_ok hf (p : Nat) (by unfold in64; omega)) ?_
  rintro v rfl
  refine ⟨rfl, ?_⟩
  unfold encB
  rw [reachL_len]
  refine g_end ?_
  refine s_ass (s_run ?_)
  refine s_cond (fun h => ?_) (fun h => ?_)
  · refine s_ass (s_run ?_)
    refine s_ret ?_
    refine fin_v (hv := ?_)
    rw [Bool.not_eq_true'] at h
    rw [h] at hd'
    rw [← hd']
    rfl
  rw [Bool.not_eq_false'] at h
  refine s_skip ?_
  refine s_reg (g_run 1 ?_)
  refine g_call (rwithout_ok hf (p : Nat) (q : Nat) (by unfold in64; omega) (by unfold in64; omega)) ?_
  rintro v rfl
  refine ⟨rfl, ?_⟩
  unfold encB
  rw [withoutB_len]
  refine g_end ?_
  refine s_run ?_
  refine p_ret (fin_v (hv := ?_))
  rw [h, Bool.true_and] at hd'
  rw [← hd']
  rfl
noncomputable def encAllD (code : List (Int × Int)) : PV := .frz 1 (code.length + 1) (code.length + 1) fun i => [encB (rowDD code i)]
noncomputable def raT (f : Fn) (l p row q : PV) : List PV := [encF f, .ptr 0 0, .s (.slice none 0 0), l, p, row, q, .junk, .junk]
theorem rall_ok {f : Fn} (hf : Fit f.code) : PFun E 31 [encF f] (valQ (isV (encAllD f.code))) := by
  have f1 := hf.len
  refine p_fun ?_
  show PTri E false [] _ [encF f, .junk, .junk, .junk, .junk, .junk, .junk, .junk, .junk] _ _
  refine s_run ?_
  refine s_run ?_
  refine s_ass (s_run ?_)
  refine s_loop (ι := Nat) (fun p => p ≤ f.code.length + 1) (fun p => f.code.length + 1 - p) (fun p => raT f (.vec 1 1 p) (i64 (p : Nat)) .junk .junk) (fun p => [.cel (cellsF f), .vec 1 p (fun j => [encB (rowDD f.code j)]) false]) 0 (Nat.zero_le _) (σ := [some 0, none]) (fz := []) (wk _ [] _ _ (vals := ?_) (blks := .cons bs_cel (.cons (.nil rfl) .nil))) ?_
  · dsimp only [raT]
    repeat' (first | exact VSubs.nil | apply VSubs.cons | exact VSub.one (VSub1.junk _) | exact VSub.one (VSub1.nil rfl) | exact VSub.nlv rfl | exact VSub.one (VSub1.ptr rfl))
  intro p hp
  unfold raT
  refine s_ass (s_run ?_)
  refine s_cond (fun h1 => ?_) (fun h1 => ?_)
  · simp only [decide_eq_true_eq] at h1
    have hp1 : p < f.code.length + 1 := by omega
    refine s_skip (s_block ?_)
    refine s_run ?_
    refine s_ass (s_run ?_)
    refine s_loop (ι := Nat) (fun q => q ≤ f.code.length + 1) (fun q => f.code.length + 1 - q) (fun q => raT f (.vec 1 1 p) (i64 (p : Nat)) (.vec 1 2 q) (i64 (q : Nat))) (fun q => [.cel (cellsF f), .vec 1 p (fun j => [encB (rowDD f.code j)]) false, .vec 1 q (rowB (rowDD f.code p)) false]) 0 (Nat.zero_le _) (σ := [some 0, some 1, none]) (fz := []) (wk _ [] _ _ (vals := ?_) (blks := .cons bs_cel (.cons bs_same (.cons (.nil rfl) .nil)))) ?_
    · dsimp only [raT]
      repeat' (first | exact VSubs.nil | apply VSubs.cons | exact VSub.one (VSub1.junk _) | exact VSub.one (VSub1.nil rfl) | exact VSub.nlv rfl | exact VSub.one (VSub1.ptr rfl) | exact VSub.one (VSub1.vec rfl rfl))
    intro q hq
    unfold raT
    refine s_ass (s_run ?_)
    refine s_cond (fun h2 => ?_) (fun h2 => ?_)
    · simp only [decide_eq_true_eq] at h2
      have hq1 : q < f.code.length + 1 := by omega
      refine s_skip (s_block ?_)
      refine e_reg (g_run 1 ?_)
      refine g_call (rdom_ok hf (q := (q : Nat)) (p := (p : Nat)) (by unfold in64; omega) (by unfold in64; omega)) ?_
      rintro v rfl
      refine ⟨rfl, ?_⟩
      refine g_end (hq := by simp only [room, true_and, and_true]; omega) ?_
      refine e_run ?_
      refine lp_next (q + 1) (by omega) (σ := [some 0, some 1, some 4]) (fz := []) (wk _ [] _ _ (vals := ?_) (blks := .cons bs_cel (.cons bs_same (.cons (.vec rfl (by simp) rfl (Nat.le_refl _) (fun h => nomatch h) fun i hi => ?_) .nil))))
      · dsimp only [raT]
        repeat' (first | exact VSubs.nil | apply VSubs.cons | exact VSub.one (VSub1.junk _) | exact VSub.nlv rfl | exact VSub.one (VSub1.ptr rfl) | exact VSub.one (VSub1.vec rfl rfl))
      · by_cases w : i < q
        · rw [if_pos w]
        · have : i = q := by omega
          subst this
          rw [if_neg w, Nat.sub_self, domI_nat hq1 hp1]
          show [PV.s (.bool (domB f.code i p))] = [PV.s (.bool ((rowDD f.code p).getD i false))]
          rw [rowDD_at hq1]
    · simp only [decide_eq_false_iff_not] at h2
      have hqe : q = f.code.length + 1 := by omega
      subst hqe
      refine s_exit ?_
      refine p_weak [some 0, some 1] [2] (wk _ [2] (raT f (.vec 1 1 p) (i64 (p : Nat)) (encB (rowDD f.code p)) .junk) [.cel (cellsF f), .vec 1 p (fun j => [encB (rowDD f.code j)]) false] (vals := ?_) (blks := .cons bs_cel (.cons bs_same .nil))) ?_
      · dsimp only [raT]
        repeat' (first | exact VSubs.nil | apply VSubs.cons | exact VSub.one (VSub1.junk _) | exact VSub.nlv rfl | exact VSub.one (VSub1.ptr rfl) | exact VSub.one (VSub1.vec rfl rfl) | exact VSub.one (VSub1.vecf (.head _) rfl (rowDD_len _ _).symm (Nat.le_refl _) (by rw [rowDD_len]; exact Nat.le_refl _) fun i hi => rfl))
      unfold raT
      refine e_run (hq := by simp only [room, true_and, and_true]; omega) ?_
      refine e_run ?_
      refine lp_next (p + 1) (by omega) (σ := [some 0, some 3]) (fz := []) (wk _ [] _ _ (vals := ?_) (blks := .cons bs_cel (.cons (.vec rfl (by simp) rfl (Nat.le_refl _) (fun h => nomatch h) fun i hi => ?_) .nil)))
      · dsimp only [raT]
        repeat' (first | exact VSubs.nil | apply VSubs.cons | exact VSub.one (VSub1.junk _) | exact VSub.nlv rfl | exact VSub.one (VSub1.ptr rfl) | exact VSub.one (VSub1.vec rfl rfl))
      · by_cases w : i < p
        · rw [if_pos w]
        · have : i = p := by omega
          subst this
          rw [if_neg w, Nat.sub_self]
          rfl
  · simp only [decide_eq_false_iff_not] at h1
    have hpe : p = f.code.length + 1 := by omega
    subst hpe
    refine s_exit ?_
    refine s_run ?_
    refine p_ret (fin_z [1] rfl ?_)
    rintro v rfl
    exact .one (.vecf (.head _) rfl rfl (Nat.le_refl _) (Nat.le_refl _) fun i hi => rfl)
noncomputable def nnT (code : List (Int × Int)) (p : Nat) (q ok r : PV) : List PV := [encAllD code, i64 (p : Nat), i64 0, q, ok, r, .junk, .junk, .junk, .junk, .junk]
theorem rnearT_ok {code : List (Int × Int)} (f1 : code.length < 1000000) {p : Nat} (hp : p < code.length + 1) : PFun E 65 [encAllD code, i64 (p : Nat)] (valQ (isV (i64 (ofN (nearO code p))))) := by
  refine p_fun ?_
  show PTri E false [] _ [encAllD code, i64 (p : Nat), .junk, .junk, .junk, .junk, .junk, .junk, .junk, .junk, .junk] _ _
  unfold encAllD
  refine s_run ?_
  refine s_ass (s_run ?_)
  refine s_loop (ι := Nat) (fun q => q ≤ code.length + 1 ∧ ∀ j, j < q → goodN code p j = false) (fun q => code.length + 1 - q) (fun q => nnT code p (i64 (q : Nat)) .junk .junk) (fun _ => []) 0 ⟨Nat.zero_le _, fun j h => absurd h (Nat.not_lt_zero _)⟩ (σ := []) (fz := []) (wk _ [] _ _ (vals := by (try dsimp only [nnT, encAllD]); repeat' (first | exact VSubs.nil | apply VSubs.cons | exact VSub.one (VSub1.junk _) | exact VSub.nlv rfl)) (blks := .nil)) ?_
  rintro q ⟨hq, hno⟩
  unfold nnT encAllD
  refine s_ass (s_run ?_)
  refine s_cond (fun h1 => ?_) (fun h1 => ?_)
  · simp only [decide_eq_true_eq] at h1
    have hq1 : q < code.length + 1 := by omega
    have next : ∀ (x : PV) (T' : List PV), goodN code p q = false → ∀ j, j < q + 1 → goodN code p j = false := fun x T' hg j hj => by
      by_cases e : j = q
      · rw [e]; exact hg
      · exact hno j (by omega)
    refine s_skip (s_block (s_ass (s_reg (g_run 1 ?_))))
    refine prg_split (fun h2 => ?_) (fun h2 => ?_)
    · have hqp : q = p := by
        have : (q : Int) = (p : Int) := by simpa using h2
        omega
      refine g_end ?_
      refine s_t (s_exit ?_)
      refine e_run ?_
      refine lp_next (q + 1) ⟨by omega, next .junk [] (by unfold goodN; rw [decide_eq_false (fun w => w hqp)]; simp)⟩ (σ := []) (fz := []) (wk _ [] _ _ (vals := by (try dsimp only [nnT, encAllD]); repeat' (first | exact VSubs.nil | apply VSubs.cons | exact VSub.one (VSub1.junk _) | exact VSub.nlv rfl)) (blks := .nil))
    have hqp : q ≠ p := fun w => by subst w; simp at h2
    refine g_run 4 ?_
    refine g_run 3 ?_ (hq := by simp only [rowDD_len, and_true, true_and]; omega)
    rw [rowDD_at hq1]
    cases hd : domB code q p with
    | false =>
      refine g_run 1 ?_
      refine prg_head (v' := .s (.bool true)) rfl ?_
      refine g_end ?_
      refine s_t (s_exit ?_)
      refine e_run ?_
      refine lp_next (q + 1) ⟨by omega, next .junk [] (by unfold goodN; rw [hd]; simp)⟩ (σ := []) (fz := []) (wk _ [] _ _ (vals := by (try dsimp only [nnT, encAllD]); repeat' (first | exact VSubs.nil | apply VSubs.cons | exact VSub.one (VSub1.junk _) | exact VSub.nlv rfl)) (blks := .nil))
    | true =>
      refine g_run 1 ?_
      refine prg_head (v' := .s (.bool false)) rfl ?_
      refine g_end ?_
      refine s_f (s_skip ?_)
      refine s_run ?_
      refine s_ass (s_run ?_)
      refine s_loop (ι := Nat × Bool) (fun j => j.1 ≤ code.length + 1 ∧ j.2 = (List.range j.1).all fun r => !(decide (r ≠ p) && domB code r p && !(domB code r q))) (fun j => code.length + 1 - j.1) (fun j => nnT code p (i64 (q : Nat)) (.s (.bool j.2)) (i64 (j.1 : Nat))) (fun _ => []) (0, true) ⟨Nat.zero_le _, rfl⟩ (σ := []) (fz := []) (wk _ [] _ _ (vals := by (try dsimp only [nnT, encAllD]); repeat' (first | exact VSubs.nil | apply VSubs.cons | exact VSub.one (VSub1.junk _) | exact VSub.nlv rfl)) (blks := .nil)) ?_
      rintro ⟨r, ok⟩ ⟨hr, hok⟩
      dsimp only at hr hok ⊢
      unfold nnT encAllD
      refine s_ass (s_run ?_)
      refine s_cond (fun h3 => ?_) (fun h3 => ?_)
      · simp only [decide_eq_true_eq] at h3
        have hr1 : r < code.length + 1 := by omega
        have hsucc : ((List.range (r + 1)).all fun r => !(decide (r ≠ p) && domB code r p && !(domB code r q))) = (ok && !(decide (r ≠ p) && domB code r p && !(domB code r q))) := by
          rw [List.range_succ, List.all_append, ← hok]; simp
        refine s_skip (s_block ?_)
        refine s_cut (fun T' hp' => ∃ x7 x8, T' = [encAllD code, i64 (p : Nat), i64 0, i64 (q : Nat), .s (.bool ok), i64 (r : Nat), .junk, x7, x8, .s (.bool (decide (r ≠ p) && domB code r p && !(domB code r q))), .junk] ∧ hp' = []) ?_ ?_
        · refine e_reg (g_run 1 ?_)
          refine prg_split (fun h4 => ?_) (fun h4 => ?_)
          · have hrp : r ≠ p := fun w => by subst w; simp at h4
            refine g_run 4 ?_
            refine g_run 3 ?_ (hq := by simp only [rowDD_len, and_true, true_and]; omega)
            rw [rowDD_at hr1]
            rw [decide_eq_true hrp, Bool.true_and]
            cases hd2 : domB code r p with
            | false =>
              refine g_end ?_
              exact ⟨rfl, _, _, rfl, rfl⟩
            | true =>
              refine g_run 5 ?_
              refine g_run 3 ?_ (hq := by simp only [rowDD_len, and_true, true_and]; omega)
              rw [rowDD_at hr1]
              refine g_end ?_
              exact ⟨rfl, _, _, rfl, rfl⟩
          · have hrp : r = p := by
              have : (r : Int) = (p : Int) := by simpa using h4
              omega
            refine g_end ?_
            have hz : (decide (r ≠ p) && domB code r p && !(domB code r q)) = false := by rw [hrp]; simp
            exact ⟨rfl, _, _, by rw [hz]; rfl, rfl⟩
        rintro T' hp' ⟨x7, x8, rfl, rfl⟩
        refine e_cond (fun h4 => ?_) (fun h4 => ?_)
        · refine e_run ?_
          refine e_run ?_
          refine lp_next (r + 1, false) ⟨by dsimp only; omega, by dsimp only; rw [hsucc, h4]; simp⟩ (σ := []) (fz := []) (wk _ [] _ _ (vals := by (try dsimp only [nnT, encAllD]); repeat' (first | exact VSubs.nil | apply VSubs.cons | exact VSub.one (VSub1.junk _) | exact VSub.nlv rfl)) (blks := .nil))
        · refine p_skip ?_
          refine e_run ?_
          refine lp_next (r + 1, ok) ⟨by dsimp only; omega, by dsimp only; rw [hsucc, h4]; simp⟩ (σ := []) (fz := []) (wk _ [] _ _ (vals := by (try dsimp only [nnT, encAllD]); repeat' (first | exact VSubs.nil | apply VSubs.cons | exact VSub.one (VSub1.junk _) | exact VSub.nlv rfl)) (blks := .nil))
      · simp only [decide_eq_false_iff_not] at h3
        have hre : r = code.length + 1 := by omega
        subst hre
        have hg : goodN code p q = ok := by
          unfold goodN
          rw [decide_eq_true hqp, hd, ← hok]; rfl
        refine s_exit ?_
        refine s_run ?_
        cases ok with
        | true =>
          refine e_t ?_
          refine s_run ?_
          refine p_ret (fin_v (hv := ?_))
          have : nearO code p = some q := by
            unfold nearO
            rw [List.find?_range_eq_some]
            exact ⟨hg, List.mem_range.2 hq1, fun j hj => by rw [hno j hj]; rfl⟩
          rw [this]; rfl
        | false =>
          refine e_f ?_
          refine p_skip ?_
          refine e_run ?_
          refine lp_next (q + 1) ⟨by omega, next .junk [] hg⟩ (σ := []) (fz := []) (wk _ [] _ _ (vals := by (try dsimp only [nnT, encAllD]); repeat' (first | exact VSubs.nil | apply VSubs.cons | exact VSub.one (VSub1.junk _) | exact VSub.nlv rfl)) (blks := .nil))
  · simp only [decide_eq_false_iff_not] at h1
    refine s_exit ?_
    refine s_run ?_
    refine p_ret (fin_v (hv := ?_))
    have : nearO code p = none := by
      unfold nearO
      rw [List.find?_eq_none]
      exact fun j hj => by rw [hno j (by have := List.mem_range.1 hj; omega)]; simp
    rw [this]; rfl
noncomputable def treeD (code : List (Int × Int)) : List Int := (List.range (code.length + 1)).map fun p => ofN (nearO code p)
theorem treeD_len (code : List (Int × Int)) : (treeD code).length = code.length + 1 := by simp [treeD]
theorem treeD_at {code : List (Int × Int)} {p : Nat} (hp : p < code.length + 1) : (treeD code).getD p 0 = ofN (nearO code p) := by
  unfold treeD
  rw [List.getD_eq_getElem?_getD, List.getElem?_map, List.getElem?_range hp]; rfl
noncomputable def rtT (f : Fn) (l p : PV) : List PV := [encF f, .junk, .s (.slice none 0 0), encAllD f.code, l, p, .junk, .junk]
theorem rtree_ok {f : Fn} (hf : Fit f.code) : PFun E 34 [encF f] (valQ (isV (encI (treeD f.code)))) := by
  have f1 := hf.len
  refine p_fun ?_
  show PTri E false [] _ [encF f, .junk, .junk, .junk, .junk, .junk, .junk, .junk] _ _
  refine s_run ?_
  refine s_reg (g_run 1 ?_)
  refine g_call (rall_ok hf) ?_
  rintro v rfl
  refine ⟨rfl, ?_⟩
  refine g_end ?_
  refine s_run ?_
  refine s_ass (s_run ?_)
  refine s_loop (ι := Nat) (fun p => p ≤ f.code.length + 1) (fun p => f.code.length + 1 - p) (fun p => rtT f (.vec 1 0 p) (i64 (p : Nat))) (fun p => [.vec 1 p (rowI .i64 (treeD f.code)) false]) 0 (Nat.zero_le _) (σ := [none]) (fz := []) (wk _ [] _ _ (vals := ?_) (blks := .cons (.nil rfl) .nil)) ?_
  · dsimp only [rtT]
    repeat' (first | exact VSubs.nil | apply VSubs.cons | exact VSub.one (VSub1.junk _) | exact VSub.one (VSub1.nil rfl) | exact VSub.nlv rfl)
  intro p hp
  unfold rtT
  refine s_ass (s_run ?_)
  refine s_cond (fun h1 => ?_) (fun h1 => ?_)
  · simp only [decide_eq_true_eq] at h1
    have hp1 : p < f.code.length + 1 := by omega
    refine s_skip (s_block ?_)
    refine s_reg ?_
    refine g_call (rnearT_ok f1 hp1) ?_
    rintro v rfl
    refine ⟨rfl, ?_⟩
    refine g_end ?_
    refine e_run (hq := by simp only [room, true_and, and_true]; omega) ?_
    refine e_run ?_
    refine lp_next (p + 1) (by omega) (σ := [some 2]) (fz := []) (wk _ [] _ _ (vals := ?_) (blks := .cons (.vec rfl (by simp) rfl (Nat.le_refl _) (fun h => nomatch h) fun i hi => ?_) .nil))
    · dsimp only [rtT]
      repeat' (first | exact VSubs.nil | apply VSubs.cons | exact VSub.one (VSub1.junk _) | exact VSub.nlv rfl | exact VSub.one (VSub1.vec rfl rfl))
    · by_cases w : i < p
      · rw [if_pos w]
      · have : i = p := by omega
        subst this
        rw [if_neg w, Nat.sub_self]
        show [i64 (ofN (nearO f.code i))] = [PV.s (.int .i64 ((treeD f.code).getD i 0))]
        rw [treeD_at hp1]; rfl
  · simp only [decide_eq_false_iff_not] at h1
    have hpe : p = f.code.length + 1 := by omega
    subst hpe
    refine s_exit ?_
    refine s_run ?_
    refine p_ret (fin_z [0] rfl ?_)
    rintro v rfl
    exact .one (.vecf (.head _) rfl (treeD_len _).symm (Nat.le_refl _) (by rw [treeD_len]; exact Nat.le_refl _) fun i hi => rfl)
end Go.Proofs.Ytdbehmepikhghaa.Graph
