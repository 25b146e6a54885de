/- The law PostTree. -/
import Derived.Test.YtdbehmepikhghaaPostAl
set_option linter.unusedVariables false
set_option linter.unusedSimpArgs false
set_option maxRecDepth 10000
namespace Go.Proofs.Ytdbehmepikhghaa.Graph
open Go.Proofs.Ytdbehmepikhghaa.AM Go.Proofs.Ytdbehmepikhghaa.Post
noncomputable def pT (f : Fn) (x6 x7 x8 x9 x10 x11 : PV) : List PV := [encF f, .ptr 0 0, .s (.bool false), i64 (f.code.length : Nat), .frz 1 (f.code.length + 1) (f.code.length + 1) (rowI .i64 (treeT f.code)), .frz 1 (f.code.length + 1) (f.code.length + 1) (fun i => [encB (rowD f.code i)]), x6, x7, x8, x9, x10, x11, .junk, .junk, .junk, .junk, .junk, .junk, .junk, .junk, .junk, .junk, .junk, .junk, .junk, .junk, .junk]
theorem pd_none {code : List (Int × Int)} {p q : Nat} (h : nrT code p = none) : pdB code q p = false := pB_not.2 fun c => by have := c.src; rw [h] at this; cases this
theorem pd_up {code : List (Int × Int)} (hT : TreeR code (nrT code)) {p b q : Nat} (hp : p ≠ code.length) (h : nrT code p = some b) : pdB code q p = (decide (q = p) || pdB code q b) := by
  have hb := (hT.sm b).2 (hT.step ((hT.sm p).1 (by rw [h]; rfl)) hp h).2.1
  rw [Bool.eq_iff_iff, Bool.or_eq_true, decide_eq_true_eq]
  unfold pdB
  rw [pB_iff, pB_iff]
  exact ch_up hp h hb
theorem pd_lin {code : List (Int × Int)} {p q r : Nat} (h1 : pdB code q p = true) (h2 : pdB code r p = true) (h3 : pdB code r q = false) : pdB code q r = true := by
  unfold pdB at *
  rw [pB_iff] at *
  rw [pB_not] at h3
  exact (ch_lin h1 h2).resolve_left h3
theorem postTree_ok {f : Fn} (hop : ∀ i, in64 (f.code.getD i (0, 0)).1) (harg : ∀ i, in64 (f.code.getD i (0, 0)).2) : PFun E 9 [encF f] (valQ (isV (.s (.bool true)))) := by
  refine p_fun ?_
  show PTri E false [] _ [encF f, .junk, .junk, .junk, .junk, .junk, .junk, .junk, .junk, .junk, .junk, .junk, .junk, .junk, .junk, .junk, .junk, .junk, .junk, .junk, .junk, .junk, .junk, .junk, .junk, .junk, .junk] _ _
  refine s_run ?_
  refine s_run ?_
  refine s_ass (s_reg (g_run 1 ?_))
  refine prg_split (fun h => ?_) (fun h => ?_)
  · refine g_end ?_
    refine s_t (s_ass (s_reg ?_))
    refine g_call awake15_ok ?_
    rintro v rfl
    refine ⟨rfl, ?_⟩
    refine g_end ?_
    exact s_ret fin_v
  simp only [gt_iff_lt, decide_eq_false_iff_not] at h
  have hn : f.code.length ≤ 60 := by omega
  have hf : Fit f.code := ⟨by omega, hop, harg⟩
  refine g_call awake15_ok ?_
  rintro v rfl
  refine ⟨rfl, ?_⟩
  refine g_end ?_
  refine s_f (s_skip ?_)
  refine s_reg (g_run 1 ?_)
  refine g_call (treeE hf) ?_
  rintro v ⟨hT, rfl⟩
  refine ⟨rfl, ?_⟩
  unfold encI
  rw [treeT_len]
  refine g_end ?_
  refine s_reg (g_run 1 ?_)
  refine g_call (allP_ok hf) ?_
  rintro v ⟨_, rfl⟩
  refine ⟨rfl, ?_⟩
  unfold encAll
  refine g_end ?_
  have tv : ∀ p, p < f.code.length + 1 → (treeT f.code).getD p 0 = ofN (if p = f.code.length then none else nrT f.code p) := fun p hp => by
    rw [treeT_at hp]; by_cases e : p = f.code.length <;> simp [e, ofN]
  have same : ∀ x : Int, PV.s (.bool (x != x)) = .s (.bool false) := fun x => by simp
  refine s_ass (s_reg (g_run 2 ?_))
  refine prg_head (v' := i64 (f.code.length + 1 : Nat)) rfl (g_run 1 ?_)
  refine prg_head (same _) (g_run 4 ?_)
  refine prg_head (v' := i64 (f.code.length + 1 : Nat)) rfl (g_run 1 ?_)
  refine prg_head (same _) (g_run 1 ?_)
  refine g_run 4 ?_
  rw [tv _ (by omega), if_pos rfl]
  refine g_run 1 ?_
  refine prg_head (v' := .s (.bool false)) rfl ?_
  refine g_end ?_
  refine s_f (s_skip ?_)
  refine s_ass (s_run ?_)
  refine s_loop (fun p => p ≤ f.code.length + 1) (fun p => f.code.length + 1 - p) (fun p => pT f (i64 (p : Nat)) .junk .junk .junk .junk .junk) (fun _ => [.cel (cellsF f)]) 0 (Nat.zero_le _) (σ := [some 0]) (wk _ [] _ _ (vals := by (try dsimp only [pT]); repeat' (first | exact VSubs.nil | apply VSubs.cons | exact VSub.one (VSub1.junk _) | exact VSub.nlv rfl | exact VSub.one (VSub1.ptr rfl))) (blks := .cons bs_cel .nil)) ?_
  intro p hp
  unfold pT
  refine s_ass (s_run ?_)
  refine s_cond (fun h => ?_) (fun h => ?_)
  · simp only [decide_eq_true_eq] at h
    have hp1 : p < f.code.length + 1 := by omega
    refine s_skip (s_block (s_reg (g_run 1 ?_)))
    refine g_call (near_ok hf hp1) ?_
    rintro v ⟨_, rfl⟩
    unfold nearW
    cases hnr : (if p = f.code.length then none else nrT f.code p) with
    | none =>
      refine ⟨rfl, ?_⟩
      refine g_end ?_
      refine s_ass (s_reg (g_run 2 ?_))
      rw [tv p hp1, hnr]
      refine g_run 1 ?_
      refine prg_head (v' := .s (.bool false)) rfl ?_
      refine g_run 6 ?_
      rw [rowD_len]
      refine g_run 2 ?_
      refine prg_head (v' := i64 (f.code.length + 1 : Nat)) rfl (g_run 1 ?_)
      refine prg_head (same _) ?_
      refine g_end ?_
      refine s_f (s_skip ?_)
      refine s_ass (s_run ?_)
      refine s_t (s_ass (s_ass (s_run ?_)))
      refine s_cond (fun h2 => ?_) (fun h2 => ?_)
      · simp only [bne_iff_ne, ne_eq] at h2
        have hpx : p ≠ f.code.length := fun e => h2 (by rw [e])
        rw [if_neg hpx] at hnr
        refine s_ass (s_run ?_)
        refine s_loop (fun q => q ≤ f.code.length + 1) (fun q => f.code.length + 1 - q) (fun q => pT f (i64 (p : Nat)) .junk .junk (i64 (q : Nat)) .junk .junk) (fun _ => [.cel (cellsF f)]) 0 (Nat.zero_le _) (σ := [some 0]) (wk _ [] _ _ (vals := by (try dsimp only [pT]); repeat' (first | exact VSubs.nil | apply VSubs.cons | exact VSub.one (VSub1.junk _) | exact VSub.nlv rfl | exact VSub.one (VSub1.ptr rfl))) (blks := .cons bs_cel .nil)) ?_
        intro q hq
        unfold pT
        refine s_ass (s_run ?_)
        refine s_cond (fun h3 => ?_) (fun h3 => ?_)
        · simp only [decide_eq_true_eq] at h3
          have hq1 : q < f.code.length + 1 := by omega
          refine s_skip (s_block (s_reg (g_run 2 ?_)))
          refine g_run 2 ?_ (hq := by simp only [rowD_len, and_true, true_and]; omega)
          rw [rowD_at hq1, pd_none hnr]
          refine g_end ?_
          refine e_f ?_
          refine p_skip ?_
          refine e_run ?_
          exact lp_next (q + 1) (by omega) (σ := [some 0]) (wk _ [] _ _ (vals := by (try dsimp only [pT]); repeat' (first | exact VSubs.nil | apply VSubs.cons | exact VSub.one (VSub1.junk _) | exact VSub.nlv rfl | exact VSub.one (VSub1.ptr rfl))) (blks := .cons bs_cel .nil))
        · refine s_exit ?_
          refine s_exit ?_
          refine e_run ?_
          exact lp_next (p + 1) (by omega) (σ := [some 0]) (wk _ [] _ _ (vals := by (try dsimp only [pT]); repeat' (first | exact VSubs.nil | apply VSubs.cons | exact VSub.one (VSub1.junk _) | exact VSub.nlv rfl | exact VSub.one (VSub1.ptr rfl))) (blks := .cons bs_cel .nil))
      · refine s_skip (s_exit ?_)
        refine e_run ?_
        exact lp_next (p + 1) (by omega) (σ := [some 0]) (wk _ [] _ _ (vals := by (try dsimp only [pT]); repeat' (first | exact VSubs.nil | apply VSubs.cons | exact VSub.one (VSub1.junk _) | exact VSub.nlv rfl | exact VSub.one (VSub1.ptr rfl))) (blks := .cons bs_cel .nil))
    | some b =>
      have hpx : p ≠ f.code.length := fun e => by rw [if_pos e] at hnr; cases hnr
      have hnb : nrT f.code p = some b := by rw [if_neg hpx] at hnr; exact hnr
      obtain ⟨hbp, hbx, _⟩ := hT.step ((hT.sm p).1 (by rw [hnb]; rfl)) hpx hnb
      have hbn : b < f.code.length + 1 := ex_lt hbx
      have hup := fun q => pd_up hT (q := q) hpx hnb
      refine ⟨rfl, ?_⟩
      refine g_end ?_
      refine s_ass (s_reg (g_run 2 ?_))
      rw [tv p hp1, hnr]
      refine g_run 1 ?_
      refine prg_head (v' := .s (.bool true)) (by simp [ofN]) ?_
      refine g_run 6 ?_
      rw [rowD_len]
      refine g_run 2 ?_
      refine prg_head (v' := i64 (f.code.length + 1 : Nat)) rfl (g_run 1 ?_)
      refine prg_head (same _) ?_
      refine g_end ?_
      refine s_f (s_skip ?_)
      refine s_ass (s_run ?_)
      refine s_f (s_skip ?_)
      refine s_ass (s_reg (g_run 1 ?_))
      refine prg_head (v' := .s (.bool false)) (by
        have : ¬ ((b : Nat) : Int) = ((p : Nat) : Int) := by omega
        simp [this]) ?_
      refine g_run 5 ?_
      rw [tv p hp1, hnr]
      refine g_run 1 ?_
      refine prg_head (v' := .s (.bool false)) (by simp [ofN]) ?_
      refine g_end ?_
      refine s_f (s_skip ?_)
      refine s_ass (s_run ?_)
      refine s_loop (fun q => q ≤ f.code.length + 1) (fun q => f.code.length + 1 - q) (fun q => pT f (i64 (p : Nat)) (i64 (b : Nat)) .junk .junk (i64 (q : Nat)) .junk) (fun _ => [.cel (cellsF f)]) 0 (Nat.zero_le _) (σ := [some 0]) (wk _ [] _ _ (vals := by (try dsimp only [pT]); repeat' (first | exact VSubs.nil | apply VSubs.cons | exact VSub.one (VSub1.junk _) | exact VSub.nlv rfl | exact VSub.one (VSub1.ptr rfl))) (blks := .cons bs_cel .nil)) ?_
      intro q hq
      unfold pT
      refine s_ass (s_run ?_)
      refine s_cond (fun h3 => ?_) (fun h3 => ?_)
      · simp only [decide_eq_true_eq] at h3
        have hq1 : q < f.code.length + 1 := by omega
        refine s_skip (s_block (s_ass ?_))
        refine s_cut (fun T' hp' => (∃ x, T' = ((pT f (i64 (p : Nat)) (i64 (b : Nat)) .junk .junk (i64 (q : Nat)) .junk).set 22 x).set 23 (.s (.bool false))) ∧ hp' = [.cel (cellsF f)]) ?_ ?_
        · unfold pT
          refine e_drw (g_run 2 ?_)
          refine g_run 2 ?_ (hq := by simp only [rowD_len, and_true, true_and]; omega)
          rw [rowD_at hq1]
          refine g_run 1 ?_
          refine prg_split (fun h4 => ?_) (fun h4 => ?_)
          · simp only [beq_iff_eq] at h4
            have hqp : q = p := by omega
            rw [hup q, decide_eq_true hqp, Bool.true_or]
            refine g_end ?_
            exact ⟨rfl, ⟨_, rfl⟩, rfl⟩
          · simp only [beq_eq_false_iff_ne, ne_eq] at h4
            have hqp : ¬ q = p := fun e => h4 (by rw [e])
            rw [hup q, decide_eq_false hqp, Bool.false_or]
            refine g_run 5 ?_
            refine g_run 2 ?_ (hq := by simp only [rowD_len, and_true, true_and]; omega)
            rw [rowD_at hq1]
            refine g_run 2 ?_
            refine prg_head (v' := .s (.bool false)) (by simp) ?_
            refine g_end ?_
            exact ⟨rfl, ⟨_, rfl⟩, rfl⟩
        rintro T' hp' ⟨⟨x, rfl⟩, rfl⟩
        unfold pT
        refine s_f (s_skip ?_)
        refine s_run ?_
        refine e_loop (fun r => r ≤ f.code.length + 1) (fun r => f.code.length + 1 - r) (fun r => pT f (i64 (p : Nat)) (i64 (b : Nat)) .junk .junk (i64 (q : Nat)) (i64 (r : Nat))) (fun _ => [.cel (cellsF f)]) 0 (Nat.zero_le _) (σ := [some 0]) (wk _ [] _ _ (vals := by (try dsimp only [pT]); repeat' (first | exact VSubs.nil | apply VSubs.cons | exact VSub.one (VSub1.junk _) | exact VSub.nlv rfl | exact VSub.one (VSub1.ptr rfl))) (blks := .cons bs_cel .nil)) ?_
        intro r hr
        unfold pT
        refine s_ass (s_run ?_)
        refine s_cond (fun h4 => ?_) (fun h4 => ?_)
        · simp only [decide_eq_true_eq] at h4
          have hr1 : r < f.code.length + 1 := by omega
          refine s_skip (s_block ?_)
          refine s_reg (g_run 2 ?_)
          refine g_run 2 ?_ (hq := by simp only [rowD_len, and_true, true_and]; omega)
          rw [rowD_at hq1]
          cases h1 : pdB f.code q p with
          | false =>
            refine g_end ?_
            refine e_f ?_
            refine p_skip ?_
            refine e_run ?_
            exact lp_next (r + 1) (by omega) (σ := [some 0]) (wk _ [] _ _ (vals := by (try dsimp only [pT]); repeat' (first | exact VSubs.nil | apply VSubs.cons | exact VSub.one (VSub1.junk _) | exact VSub.nlv rfl | exact VSub.one (VSub1.ptr rfl))) (blks := .cons bs_cel .nil))
          | true =>
            refine g_run 5 ?_
            refine g_run 2 ?_ (hq := by simp only [rowD_len, and_true, true_and]; omega)
            rw [rowD_at hr1]
            cases h2 : pdB f.code r p with
            | false =>
              refine g_end ?_
              refine e_f ?_
              refine p_skip ?_
              refine e_run ?_
              exact lp_next (r + 1) (by omega) (σ := [some 0]) (wk _ [] _ _ (vals := by (try dsimp only [pT]); repeat' (first | exact VSubs.nil | apply VSubs.cons | exact VSub.one (VSub1.junk _) | exact VSub.nlv rfl | exact VSub.one (VSub1.ptr rfl))) (blks := .cons bs_cel .nil))
            | true =>
              refine g_run 1 ?_
              refine g_run 5 ?_
              refine g_run 2 ?_ (hq := by simp only [rowD_len, and_true, true_and]; omega)
              rw [rowD_at hr1]
              cases h3 : pdB f.code r q with
              | true =>
                refine g_end ?_
                refine e_f ?_
                refine p_skip ?_
                refine e_run ?_
                exact lp_next (r + 1) (by omega) (σ := [some 0]) (wk _ [] _ _ (vals := by (try dsimp only [pT]); repeat' (first | exact VSubs.nil | apply VSubs.cons | exact VSub.one (VSub1.junk _) | exact VSub.nlv rfl | exact VSub.one (VSub1.ptr rfl))) (blks := .cons bs_cel .nil))
              | false =>
                refine g_run 2 ?_
                refine g_run 5 ?_
                refine g_run 2 ?_ (hq := by simp only [rowD_len, and_true, true_and]; omega)
                rw [rowD_at hq1, pd_lin h1 h2 h3]
                refine g_end ?_
                refine e_f ?_
                refine p_skip ?_
                refine e_run ?_
                exact lp_next (r + 1) (by omega) (σ := [some 0]) (wk _ [] _ _ (vals := by (try dsimp only [pT]); repeat' (first | exact VSubs.nil | apply VSubs.cons | exact VSub.one (VSub1.junk _) | exact VSub.nlv rfl | exact VSub.one (VSub1.ptr rfl))) (blks := .cons bs_cel .nil))
        · refine s_exit ?_
          refine e_run ?_
          exact lp_next (q + 1) (by omega) (σ := [some 0]) (wk _ [] _ _ (vals := by (try dsimp only [pT]); repeat' (first | exact VSubs.nil | apply VSubs.cons | exact VSub.one (VSub1.junk _) | exact VSub.nlv rfl | exact VSub.one (VSub1.ptr rfl))) (blks := .cons bs_cel .nil))
      · refine s_exit ?_
        refine s_reg (g_run 1 ?_)
        refine g_call (next_ok hf (p : Nat)) ?_
        rintro v rfl
        refine ⟨rfl, ?_⟩
        refine g_end ?_
        refine s_reg (g_run 2 ?_)
        refine prg_split (fun h4 => ?_) (fun h4 => ?_)
        · simp only [beq_iff_eq] at h4
          have hl1 : (nxN f.code p).length = 1 := by
            have : (nextI f.code (p : Nat)).length = 1 := by omega
            rw [← this, ← next_nat, natI_len]
          obtain ⟨c, hc⟩ := List.length_eq_one_iff.1 hl1
          have hbc := one_near hT hpx hnb hc
          refine g_run 4 ?_
          rw [show (nextI f.code (p : Nat)).getD 0 0 = ((b : Nat) : Int) by rw [← next_nat, hc, hbc]; rfl]
          refine g_run 1 ?_
          refine prg_head (same _) ?_
          refine g_end ?_
          refine e_f ?_
          refine p_skip ?_
          refine e_run ?_
          exact lp_next (p + 1) (by omega) (σ := [some 0]) (wk _ [] _ _ (vals := by (try dsimp only [pT]); repeat' (first | exact VSubs.nil | apply VSubs.cons | exact VSub.one (VSub1.junk _) | exact VSub.nlv rfl | exact VSub.one (VSub1.ptr rfl))) (blks := .cons bs_cel .nil))
        · refine g_end ?_
          refine e_f ?_
          refine p_skip ?_
          refine e_run ?_
          exact lp_next (p + 1) (by omega) (σ := [some 0]) (wk _ [] _ _ (vals := by (try dsimp only [pT]); repeat' (first | exact VSubs.nil | apply VSubs.cons | exact VSub.one (VSub1.junk _) | exact VSub.nlv rfl | exact VSub.one (VSub1.ptr rfl))) (blks := .cons bs_cel .nil))
  · refine s_exit ?_
    refine s_run ?_
    exact p_ret fin_v
end Go.Proofs.Ytdbehmepikhghaa.Graph
